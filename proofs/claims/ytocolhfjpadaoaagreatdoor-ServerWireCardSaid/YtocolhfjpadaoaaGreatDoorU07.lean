/-
  Lemmas of this claim, joined.
-/
import Derived.Test.YtocolhfjpadaoaaGreatDoorU06
import Derived.MapKept
import Derived.Lib.BufferWrite
import Derived.ScopeJumps
import Derived.RangeFuncSeq
import Derived.RangeFuncIn
import Derived.RangeFuncRecord
set_option linter.unusedVariables false
set_option linter.unusedSimpArgs false
set_option linter.constructorNameAsVariable false
namespace Go.Proofs.YtocolhfjpadaoaaGreatDoor
open Go
abbrev wZ:=@World.putObj_heap_other
abbrev uR:=@List.findIdx?_eq_some_iff_getElem
abbrev uT:=@World.putObj_size
end Go.Proofs.YtocolhfjpadaoaaGreatDoor
namespace Go.Proofs.YtocolhfjpadaoaaGreatDoor
open Go Go.RowKit
variable {P:Program}{w0:World}{w:World}{m0:Mem}{m:Mem}{o0:OwnM}{o:OwnM}{G:GD}{pins:List Nat}{N:Nat}{a:Act}{op:Oper}{S:Nat->A}{M:Nat->A}{L:SL}{v:Value}{W:World}{Q:Mem}{X:OwnM}
section
variable {κ ν:Type}[BEq κ]
def mpos(l:List (κ×ν))(k:κ):Option Nat:=l.findIdx? λp=>k==p.1
def zC5(l:List (κ×ν))(k:κ):Option ν:=match mpos l k with
 |some i=>(l[i]?).map (·.2)
 |none=>none
def mset(l:List (κ×ν))(k:κ)(v:ν):List (κ×ν):=match mpos l k with
 |some i=>l.set i (k,v)
 |none=>l++[(k,v)]
end
theorem RepE.toT{loc:Nat×Nat}:∀{x:T} {v:Value},RepE m x v->RepT m w o loc x v
 | .d _,_,h=>h
 | .agg _,_,h=>h
structure KeyT(P:Program)(kt:TypeId){κ:Type}[BEq κ](kv:κ->Value)(kT:κ->T)where
 d:TypeDesc
 und:P.underlying kt=some d
 same:∀a b,Instr.sameNow d (kv a) (kv b)=some (a==b)
 chk:∀a (e:Bool) (w:World),(Instr.checkKey e 10000 kt (kv a)).run P w= .ok () w
 bits:∀a b,(a==b)=true->Instr.sameBits 10000 (kv b) (kv a)=true
 rep:∀a m,RepE m (kT a) (kv a)
 inv:∀a m v,RepE m (kT a) v->v=kv a
abbrev kL{κ:Type}(kv:κ->Value):κ->T:=λk=> .d (.lit (kv k))
theorem kL_rep{u:Value}(h:u.oneCell'=true)(m:Mem):RepE m (.d (.lit u)) u:= .lit u h
theorem kL_inv{u:Value}(h:RepE m (.d (.lit u)) v):v=u:=by have h:RepD m (.lit u) v:=h;(cases h with|lit _ _=>rfl)
def zU3{kt:TypeId}{k:IntKind}(h:P.underlying kt=some (.int k)):KeyT P kt (λz:Int=>Value.int k z) (kL λz:Int=>Value.int k z):=
 ⟨.int k,h,λa b=>by simp[Instr.sameNow],λa e w=>MapKept.run_checkKey h (by simp[MapKept.IsKey]) e 9999,λ(a b:Int) (h:(a==b)=true)=>by simp at h;simp[Instr.sameBits,h],λ_=>kL_rep rfl,λ_ _ _=>kL_inv⟩
def EntR(m:Mem){κ ν:Type}(kv:κ->Value)(vT:ν->T)(l:List (κ×ν))(u:List MapEntry):Prop:=u.length=l.length/\∀(i:Nat) (x:κ×ν),l[i]? =some x->∃e,u[i]? =some e/\e.key=kv x.1/\RepE m (vT x.2) e.val
section
variable {κ ν:Type}[BEq κ]{P:Program}{kt:TypeId}{kv:κ->Value}{kT:κ->T}{vT:ν->T}{m:Mem}
theorem zOy(K:KeyT P kt kv kT)(k:κ):∀(l:List (κ×ν)) (u:List MapEntry) (I:Nat),EntR m kv vT l u->Instr.findNow K.d (kv k) u I=some ((l.findIdx? λp=>k==p.1).map λi=>(I+i,((u[i]?).map (·.val)).getD undef))
 |[],u,I,h=>by rw[vB h.1];rfl
 |x::r,u,I,h=>by obtain⟨e,Z,J,W⟩:=h.2 0 x rfl;(cases u with|nil=>grind|cons e' u=>cases Z;unfold Instr.findNow;rw[J,K.same];have U:EntR m kv vT r u:=⟨by simpa using h.1,λi y hy=>by simpa using h.2 (i+1) y (by simpa using hy)⟩;(cases hk:(k==x.1)with|true=>grind|false=>simp only;rw[zOy K k r u (I+1) U,List.findIdx?_cons,hk];simp only[cond_false,Bool.false_eq_true,if_false,Option.map_map];congr 1;congr 1;grind))
end
section
variable {w0:World}{m0:Mem}{o0:OwnM}{G:GD}{pins:List Nat}{S M:Nat->A}{a:Act}{w:World}{m:Mem}{o:OwnM}{P:Program}{N:Nat}{op:Oper}{d:Nat}
abbrev mpT{κ ν:Type}(kT:κ->T)(vT:ν->T)(l:List (κ×ν)):A:= .mp (l.map λp=>(kT p.1,vT p.2))
abbrev mpA{κ ν:Type}(kv:κ->Value)(cv:ν->D)(l:List (κ×ν)):A:=mpT (kL kv) (λv=> .d (cv v)) l
theorem zWs{κ ν:Type}[BEq κ]{P:Program}{kt:TypeId}{kv:κ->Value}{kT:κ->T}{vT:ν->T}(K:KeyT P kt kv kT){l:List (κ×ν)}{u:Array MapEntry}(h:u.size=(l.map λp=>(kT p.1,vT p.2)).length/\∀(i:Nat) (x:T×T),(l.map λp=>(kT p.1,vT p.2))[i]? =some x->∃e,u[i]? =some e/\RepE m x.1 e.key/\RepE m x.2 e.val):EntR m kv vT l u.toList:=by refine⟨by simpa using h.1,λi x Z=> ?_⟩;obtain⟨e,J,I,U⟩:=h.2 i (kT x.1,vT x.2) (by rw[wG,Z];rfl);exact⟨e,by simpa using J,K.inv _ _ _ I,U⟩
theorem ent_mp{κ ν:Type}[BEq κ]{P:Program}{kt:TypeId}{kv:κ->Value}{kT:κ->T}{vT:ν->T}(K:KeyT P kt kv kT){l:List (κ×ν)}{u:Array MapEntry}(h:EntR m kv vT l u.toList):u.size=(l.map λp=>(kT p.1,vT p.2)).length/\∀(i:Nat) (x:T×T),(l.map λp=>(kT p.1,vT p.2))[i]? =some x->∃e,u[i]? =some e/\RepE m x.1 e.key/\RepE m x.2 e.val:=by refine⟨by simpa using h.1,λi x I=> ?_⟩;rw[wG]at I;(cases hl:l[i]? with|none=>grind|some y=>rw[hl]at I;cases I;obtain⟨e,J,Z,U⟩:=h.2 i y hl;exact⟨e,by simpa using J,by rw[Z];exact K.rep _ _,U⟩)
def zXl:List D->Option (List Value)
 |[]=>some []
 | .lit u::r=>(zXl r).map (u::·)
 |_=>none
theorem zVM:∀{l:List D} {J vs:List Value},zXl l=some J->RepL m l vs->vs=J
 |[],J,vs,h,I=>by injection h with h;subst h;exact vB I.1
 | .lit u::r,J,vs,h,I=>by unfold zXl at h;(cases U:zXl r with|none=>grind|some α=>rw[U]at h;cases h;(cases vs with|nil=>cases I.1|cons v vs=>obtain⟨u',e,h1⟩:=I.2 0 (.lit u) rfl;cases e;(have hv:v=u:=by cases h1 with|lit _ _=>rfl);have:RepL m r vs:=⟨by have:=I.1;simpa using this,λj d Z=>by obtain⟨x,W,q2⟩:=I.2 (j+1) d (by simpa using Z);exact⟨x,by simpa using W,q2⟩⟩;rw[hv,zVM U this]))
def vK(M:Nat->A)(y:Operand):Option Value:=match cpO M y with
 | .t (.d (.lit u))=>some u
 | .t (.agg l)=>(zXl l).map λI=> .agg I.toArray
 |_=>none
def tK(M:Nat->A)(y:Operand):Option T:=match cpO M y with
 | .t (.d x)=>some (.d x)
 | .t (.agg l)=>some (.agg l)
 |_=>none
theorem vK_eq(W:Mk M S)(I:Inv w0 m0 o0 G pins S a w m o){y:Operand}{u:Value}(h:vK M y=some u):a.eval y=u:=by have J:=zW W I y 0;unfold vK at h;split at h;(rename_i e;cases h;rw[e]at J;exact kL_inv (m:=m) J);(rename_i l e;rw[e]at J;obtain⟨vs,Z,h1⟩:=J;(cases U:zXl l with|none=>grind|some us=>rw[U]at h;cases h;rw[Z,<-zVM U h1]));cases h
theorem tK_rep(J:Mk M S)(I:Inv w0 m0 o0 G pins S a w m o){y:Operand}{x:T}(h:tK M y=some x):RepE m x (a.eval y):=by have u:=zW J I y 0;unfold tK at h;split at h;rename_i e;injection h with h;subst h;rw[e]at u;exact u;rename_i e;injection h with h;subst h;rw[e]at u;exact u;cases h
theorem Inv.map_turn(I:Inv w0 m0 o0 G pins S a w m o){j g:Nat}{l l':List (T×T)}(hb:S (OB+j)= .mp l)(ho:o g=some (OB+j,0)){es J:Array MapEntry}{ck ck':Nat}(hg:w.heap[g]? =some (.map es ck))(W:∀p,m g p=none)(γ:Stm J ck')
(hc:J.size=l'.length/\∀(i:Nat) (x:T×T),l'[i]? =some x->∃e,J[i]? =some e/\RepE m x.1 e.key/\RepE m x.2 e.val):
 Inv w0 m0 o0 G pins (upd S (OB+j) (.mp l')) a {w with heap:=w.heap.setIfInBounds g (.map J ck')} m o:=by
 obtain⟨q1,q2⟩:=MapKept.heap_set (o':= .map J ck') hg
 have ζ:g<w.heap.size:=(vV.1 hg).1
 have β:∀b l,o b=some l->l≠(OB+j,0)->b≠g:=λb l h hn e=>by rw[e,ho]at h;injection h with h;exact hn h.symm
 have α:∀U,zAX w {w with heap:=w.heap.setIfInBounds g (.map J ck')} U:=λU=>by by_cases e:U=g;subst e;intro cs E f h;rw[hg]at h;cases h;exact .of_eq (q2 U e)
 have hS:Same (λx=>G x\/w0.heap.size<=x) w {w with heap:=w.heap.setIfInBounds g (.map J ck')}:=⟨rfl,rfl,rfl,by simp,λk _ hk=>q2 k λe=>hk (by rw[e];exact I.own g _ ho),λk=>(α k).w⟩
 have K:Keep (λl=>l=(OB+j,0)) m w o m {w with heap:=w.heap.setIfInBounds g (.map J ck')} o:=
  ⟨Mle.refl _,λ_ _ _ _=>rfl,λb l h hn=>q2 b (β b l h hn),λb l h _=>h,λb j' h=>h,λb s k _ h=>⟨b,k,h⟩,λU _ _=>α U⟩
 refine⟨I.same.trans hS,λb p u h=> ?_,I.mono,I.old,I.own,λU l h=>by simpa using I.lt U l h,I.inj,I.pinned,λs=> ?_,I.defers,I.tbl,I.wide,I.shps.keep I.pinned K.sh⟩
 · have h1:=I.sat b p u h;(have δ:b≠g:=λe=>by rw[e,W]at h;cases h);rw[vP (w:=w) (q2 b δ)];exact h1
 · by_cases e:s=OB+j;(subst e;rw[zK];exact⟨g,ho,W,J,ck',q1,γ,hc.1,hc.2⟩);(rw[zE e];refine RepA.keep K (λ_ Z=>by injection Z with Z _;exact e Z) (λb off _ η=>⟨λZ=>by injection Z with Z _;omega,λ⟨l',ε⟩=>⟨l',?_⟩⟩) (I.slots s);rw[zE (by omega),ε])
theorem Inv.map_new(I:Inv w0 m0 o0 G pins S a w m o){j:Nat}(U:S (OB+j)= .free):Inv w0 m0 o0 G pins (upd S (OB+j) (.mp [])) a (w.alloc (.map #[] 0)) m (newO o (OB+j) w.heap.size):=by(have hf:∀g k,o g≠some (OB+j,k):=by have:=I.slots (OB+j);rw[U]at this;exact this);have W:Same (λ_=>False) w (w.alloc (.map #[] 0)):=Same.alloc _ _ _;(have γ:∀b l,o b=some l->b≠w.heap.size:=λb l h e=>by have:=I.lt b l h;omega);(have hk:∀b l,o b=some l->newO o (OB+j) w.heap.size b=some l:=by intro b l h;unfold newO;rw[if_neg (γ b l h),h,if_neg];intro e;obtain⟨s,k⟩:=l;cases e;exact hf b k h);(have J:∀b l,newO o (OB+j) w.heap.size b=some l->(b=w.heap.size/\l=(OB+j,0))\/(b≠w.heap.size/\o b=some l):=by intro b l h;unfold newO at h;grind);have β:∀g,zAX w (w.alloc (.map #[] 0)) g:=λg=> .of_lt λh=>W.block g h id;have K:Keep (λl=>l.1=OB+j) m w o m (w.alloc (.map #[] 0)) (newO o (OB+j) w.heap.size):=⟨Mle.refl _,λ_ _ _ _=>rfl,λb l h _=>W.block b (I.lt b l h) id,λb l h _=>hk b l h,λb j' h=>hk b _ h,λb s k hs h=>by rcases J b _ h with⟨_,e⟩|⟨_,e⟩;injection e with e _;exact absurd e hs;exact⟨b,k,e⟩,λg _ _=>β g⟩;refine⟨I.same.trans (W.weaken λ_ h=>h.elim),λb p u h=> ?_,I.mono,I.old,λg l h=> ?_,λg l h=> ?_,λg g' l h h'=> ?_,λs hs g hg=>hk g _ (I.pinned s hs g hg),λs=> ?_,I.defers,I.tbl,I.wide,I.shps.keep I.pinned K.sh⟩;(have h1:=I.sat b p u h;(have α:b<w.heap.size:=by have:=wY w _ h1;simpa using this);rw[vP (w:=w) (W.block b α id)];exact h1);(rcases J g l h with⟨e,_⟩|⟨_,e⟩;subst e;exact I.newG (wL _);exact I.own g l e);(rcases J g l h with⟨e,_⟩|⟨_,e⟩;subst e;simp;exact wN (I.lt g l e) W.size);(rcases J g l h with⟨e,q⟩|⟨_,e⟩<;>rcases J g' l h' with⟨Z,q'⟩|⟨_,Z⟩;rw[e,Z];subst q;exact absurd Z (hf _ _);subst q';exact absurd e (hf _ _);exact I.inj _ _ _ e Z);(by_cases e:s=OB+j;(subst e;rw[zK];exact⟨w.heap.size,qT _ _ _,λp=>I.mem_none (wL _),#[],0,(MapKept.heap_alloc w _).1,⟨by simp,by simp⟩,rfl,λi x hi=>by simp at hi⟩);(rw[zE e];exact RepA.keep K (λ_=>e) (λb off _ hb=>⟨λZ=>by have:b=OB+j:=Z;omega,λ⟨l',δ⟩=>⟨l',by rw[zE (by omega),δ]⟩⟩) (I.slots s)))
theorem ok_mkm{j t:Nat}(Z:op.op= .makeMap t none)(hd:op.dst=some d)(U:okD N pins S d=true)(α:d<OB)(u:S (OB+j)= .free):OpOK P pins N op S (upd (upd S (OB+j) (.mp [])) d (.t (.mpt j))):=by refine zL λw0 m0 o0 G a w m o hN I=> ?_;obtain⟨h1,W,h3⟩:=zP U;have J:=I.map_new u;refine⟨.map (some w.heap.size),_,_,_,?_,by rw[hd];exact J.set d _ _ (by omega) (by rw[zE (by omega)];exact W) ⟨_,qT _ _ _,rfl⟩⟩;unfold execOp;rw[Z];rfl
theorem ok_mlk{κ ν:Type}[BEq κ]{kv:κ->Value}{kT:κ->T}{vT:ν->T}(hM:Mk M S){j t kt et:Nat}{x y:Operand}{l:List (κ×ν)}{k:κ}{z:ν}(α:op.op= .lookup t x y false)(hx:cpO M x= .t (.mpt j))(hb:S (OB+j)=mpT kT vT l)(hy:vK M y=some (kv k))(hu:P.underlying t=some (.map kt et))(K:KeyT P kt kv kT)
{i:TypeInfo}{zv:Value}(hi:P.info? et=some i)(hz:i.zero=some zv)(β:∀m,RepE m (vT z) zv)(hd:op.dst=some d)(γ:okD N pins S d=true):OpOK P pins N op S (upd S d (.t (vT ((zC5 l k).getD z)))):=by
 refine zL λw0 m0 o0 G a w m o hN I=> ?_
 obtain⟨h1,h2,h3⟩:=zP γ
 have U:=zW hM I x 0
 rw[hx]at U
 obtain⟨g,k1,k2⟩:=U
 have J:=I.slots (OB+j)
 rw[hb]at J
 obtain⟨g',q1,q2,es,ck,q3,δ,q4⟩:=J
 obtain rfl:=I.inj _ _ _ k1 q1
 have hE:=zWs K q4
 have hf:=zOy (m:=m) K k l es.toList 0 hE
 have Z:(l.findIdx? λp=>k==p.1)=mpos l k:=rfl
 rw[Z]at hf
 have W:∀r,(match mpos l k with|some q=>(((es[q]?).map (·.val)).getD undef)|none=>zv)=r->(Instr.lookup t (.map (some g)) (kv k) false).run P w= .ok r w:=λr hr=>by unfold Instr.lookup;simp only[wE,run_underlying hu,wC];rw[MapKept.run_getObj_map q3];simp only[wC,wQ,pure_bind,wE];rw[K.chk];simp only[wC,wE];rw[MapKept.run_findKey K.und hf];simp only[wC];(cases hp:mpos l k with|none=>rw[hp]at hr;simp only[tU];simp[zeroValue,typeInfo,hi,hz,go_sem,<-hr]|some q=>rw[hp]at hr;simp only[uG];simp[<-hr])
 have hv:RepE m (vT ((zC5 l k).getD z)) (match mpos l k with|some q=>(((es[q]?).map (·.val)).getD undef)|none=>zv):=by unfold zC5;(cases hp:mpos l k with|none=>exact β m|some q=>have u:q<l.length:=(uR.1 hp).1;obtain⟨e,h4,h5,h6⟩:=hE.2 q l[q] (wB u);simp only[wB u,uG,uM];(have h4:es[q]? =some e:=by simpa using h4);rw[h4];exact h6)
 refine⟨_,w,m,o,?_,by rw[hd];exact I.set d (.t (vT ((zC5 l k).getD z))) _ (by omega) h2 hv.toT⟩
 unfold execOp
 rw[α]
 simp only[wE]
 rw[vK_eq hM I hy,k2,W _ rfl]
 rfl
theorem stm_push{u:Array MapEntry}{ck:Nat}{k:Value}(h:Stm u ck):Stm (u.push {key:=k,val:=v,born:=ck}) (ck+1):=by refine⟨λx hx=> ?_,?_⟩;(simp only[Array.toList_push,List.mem_append,vA]at hx;rcases hx with hx|rfl;exact Nat.lt_succ_of_lt (h.1 x hx);grind);(simp only[Array.toList_push,List.map_append,vC,vS];refine sU.2 ⟨h.2,by simp,λa I b hb=> ?_⟩;simp only[vA]at hb;subst hb;obtain⟨x,hx,rfl⟩:=vW.1 I;exact Nat.ne_of_lt (h.1 x hx))
theorem zXw{u:Array MapEntry}{ck q:Nat}{k:Value}(h:Stm u ck):Stm (u.modify q λe=>{e with key:=k,val:=v}) ck:=by(have hb:(u.modify q λe=>{e with key:=k,val:=v}).toList.map (·.born)=u.toList.map (·.born):=by apply List.ext_getElem?;grind);refine⟨λx hx=> ?_,by rw[hb];exact h.2⟩;have I:x.born∈(u.modify q λe=>{e with key:=k,val:=v}).toList.map (·.born):=vW.2 ⟨x,hx,rfl⟩;rw[hb]at I;obtain⟨y,hy,e⟩:=vW.1 I;rw[<-e];exact h.1 y hy
theorem run_mup{t kt et:TypeId}{κ ν:Type}[BEq κ]{kv:κ->Value}{kT:κ->T}{vT:ν->T}(K:KeyT P kt kv kT)(hu:P.underlying t=some (.map kt et)){g ck:Nat}{J:Array MapEntry}(hg:w.heap[g]? =some (.map J ck)){l:List (κ×ν)}(hE:EntR m kv vT l J.toList)(α:Stm J ck)(k:κ){v:ν}{u:Value}(hv:RepE m (vT v) u):
    ∃W γ,Stm W γ/\(Instr.mapUpdate t (.map (some g)) (kv k) u).run P w= .ok () {w with heap:=w.heap.setIfInBounds g (.map W γ)}/\EntR m kv vT (mset l k v) W.toList:=by
  have hf:=zOy (m:=m) K k l J.toList 0 hE
  have β:(l.findIdx? λp=>k==p.1)=mpos l k:=rfl
  rw[β]at hf
  have I:∀r,(match mpos l k with
      |some i=>do
        let key<-Instr.keyThatStays (((J[i]?).map (·.key)).getD (kv k)) (kv k)
        setObj g (.map (J.modify i λe=>{e with key,val:=u}) ck)
      |none=>setObj g (.map (J.push {key:=kv k,val:=u,born:=ck}) (ck+1)):Sem Unit).run P w=r->(Instr.mapUpdate t (.map (some g)) (kv k) u).run P w=r:=λr hr=>by
    unfold Instr.mapUpdate
    simp only[wE,run_underlying hu,wC]
    rw[MapKept.run_getObj_map hg]
    simp only[wC,wE]
    rw[K.chk]
    simp only[wC,wE]
    rw[MapKept.run_findKey K.und hf]
    simp only[wC]
    cases hp:mpos l k with
    |none=>grind
    |some q=>grind
  cases hp:mpos l k with
  |none=>
    rw[hp]at I
    refine⟨J.push {key:=kv k,val:=u,born:=ck},ck+1,stm_push α,I _ (MapKept.run_setObj_map _ hg),?_⟩
    unfold mset
    rw[hp]
    refine⟨by simp[hE.1],λi x U=> ?_⟩
    rw[tX]at U
    have ι:=hE.1
    split at U
    · rename_i Z
      obtain⟨e,h1,h2,h3⟩:=hE.2 i x U
      grind
    · rename_i Z
      have η:i=l.length:=by
        grind
      subst η
      rw[sR]at U
      cases U
      refine⟨{key:=kv k,val:=u,born:=ck},?_,rfl,hv⟩
      grind
  |some q=>
    rw[hp]at I
    have ζ:=uR.1 hp
    obtain⟨Z,ε,_⟩:=ζ
    obtain⟨e,h4,h5,h6⟩:=hE.2 q l[q] (wB Z)
    have δ:J[q]? =some e:=by simpa using h4
    have hk:Instr.keyThatStays (((J[q]?).map (·.key)).getD (kv k)) (kv k)=pure (kv k):=by
      unfold Instr.keyThatStays
      rw[δ]
      simp only[uG,uM]
      rw[h5,if_pos (K.bits _ _ ε)]
    refine⟨J.modify q λe=>{e with key:=kv k,val:=u},ck,zXw α,I _ (by show(do let key<-Instr.keyThatStays (((J[q]?).map (·.key)).getD (kv k)) (kv k);setObj g (.map (J.modify q λe=>{e with key,val:=u}) ck):Sem Unit).run P w=_;rw[hk];simp only[pure_bind];exact MapKept.run_setObj_map _ hg),?_⟩
    unfold mset
    rw[hp]
    have θ:(J.modify q λe=>{e with key:=kv k,val:=u}).toList=J.toList.modify q λe=>{e with key:=kv k,val:=u}:=by simp
    rw[θ]
    refine⟨by simp[hE.1],λi x U=> ?_⟩
    rw[uS]at U
    rw[List.getElem?_modify]
    split at U
    · grind
    · rename_i e2
      obtain⟨e',h1,h2,h3⟩:=hE.2 i x U
      grind
theorem ok_mup{κ ν:Type}[BEq κ]{kv:κ->Value}{kT:κ->T}{vT:ν->T}(W:Mk M S){j t kt et:Nat}{x y z:Operand}{l:List (κ×ν)}{k:κ}{v:ν}(α:op.op= .mapUpdate t x y z)(hx:cpO M x= .t (.mpt j))(hb:S (OB+j)=mpT kT vT l)(hy:vK M y=some (kv k))(hz:tK M z=some (vT v))(hu:P.underlying t=some (.map kt et))(K:KeyT P kt kv kT)
(hd:op.dst=none):OpOK P pins N op S (upd S (OB+j) (mpT kT vT (mset l k v))):=by
 refine zGt hd λw0 m0 o0 G a w m o hN I=> ?_
 have J:=zW W I x 0
 rw[hx]at J
 obtain⟨g,k1,k2⟩:=J
 have u:=I.slots (OB+j)
 rw[hb]at u
 obtain⟨g',q1,q2,es,ck,q3,β,q4⟩:=u
 obtain rfl:=I.inj _ _ _ k1 q1
 obtain⟨γ,ck',U,hr,Z⟩:=run_mup (m:=m) K hu q3 (zWs K q4) β k (tK_rep W I hz)
 refine⟨_,m,o,?_,I.map_turn (ck':=ck') hb q1 q3 q2 U (ent_mp K Z)⟩
 unfold execOp
 rw[α]
 simp only[wE]
 rw[vK_eq W I hy,k2,hr]
 rfl
theorem ob_lo{j:Nat}(h:Nat.blt (j+1) OB=true):OB+j<OB2/\OB+j≠HK:=⟨(zXX h).1,(zXX h).2.1⟩
theorem mk_hx{j:Nat}{x:A}(u:Mk M S)(hb:M (OB+j)=x)(I:x≠ .any):hx S (OB+j)=x:=by rcases u (OB+j)with e|e;grind;rw[e]at hb;exact yM hb I
theorem h_obj{j:Nat}{x:A}(J:Nat.blt (j+1) OB=true)(h:N<=OB->Low S->OpOK P pins N op (hx S) (upd (hx S) (OB+j) x)):OpH P pins N op S (app S [(OB+j,x)]):=by intro Z u;obtain⟨I,U⟩:=ob_lo J;refine⟨?_,u.upd I⟩;show OpOK P pins N op (hx S) (hx (upd S (OB+j) x));rw[zAc I U];grind
theorem h_mkm(hM:Mk M S){j t:Nat}{x:A}(W:op.op= .makeMap t none)(hd:op.dst=some d)(J:okD N pins S d=true)(hj:Nat.blt (j+1) OB=true)(I:M (OB+j)= .free)(U:A.mp []=x):OpH P pins N op S (app S [(OB+j,x),(d,.t (.mpt j))]):=by subst U;intro hN Z;obtain⟨e1,e2⟩:=ob_lo hj;have u:=zX hN J;refine⟨?_,(Z.upd e1).upd (lt2 u)⟩;show OpOK P pins N op (hx S) (hx (upd (upd S (OB+j) _) d _));rw[zAc (lt2 u) (by unfold HK;unfold OB at u;omega),zAc e1 e2];exact ok_mkm W hd (qA hN J) (by simpa using u) (mk_hx hM I (by simp))
theorem h_mlkT{κ ν:Type}[BEq κ]{kv:κ->Value}{kT:κ->T}{vT:ν->T}(Z:Mk M S){j t kt et:Nat}{x y:Operand}{l:List (κ×ν)}{k:κ}{z:ν}{r:A}(J:op.op= .lookup t x y false)(hx:cpO M x= .t (.mpt j))(hb:M (OB+j)=mpT kT vT l)(hy:vK M y=some (kv k))(hu:P.underlying t=some (.map kt et))(K:KeyT P kt kv kT)
{i:TypeInfo}{U:Value}(hi:P.info? et=some i)(hz:i.zero=some U)(I:∀m,RepE m (vT z) U)(hr:A.t (vT ((zC5 l k).getD z))=r)(hd:op.dst=some d)(u:okD N pins S d=true):OpH P pins N op S (app S [(d,r)]):=by
 subst hr
 exact .of (e:=[(d,_)]) λW=>⟨ok_mlk Z.hx J hx (mk_hx Z hb (by simp)) hy hu K hi hz I hd (qA W u),zAr (zX W u)⟩
theorem h_mupT{κ ν:Type}[BEq κ]{kv:κ->Value}{kT:κ->T}{vT:ν->T}(I:Mk M S){j t kt Z:Nat}{x y z:Operand}{l:List (κ×ν)}{k:κ}{v:ν}(u:op.op= .mapUpdate t x y z)(hx:cpO M x= .t (.mpt j))(hb:M (OB+j)=mpT kT vT l)(hy:vK M y=some (kv k))(hz:tK M z=some (vT v))(U:P.underlying t=some (.map kt Z))(K:KeyT P kt kv kT)
(hd:op.dst=none)(J:Nat.blt (j+1) OB=true):OpH P pins N op S (app S [(OB+j,mpT kT vT (mset l k v))]):=
 h_obj J λW _=>ok_mup I.hx u hx (mk_hx I hb (by simp)) hy hz U K hd
end
end Go.Proofs.YtocolhfjpadaoaaGreatDoor
namespace Go.Proofs.YtocolhfjpadaoaaGreatDoor
open Go Go.RowKit
set_option linter.unusedVariables false
section
variable {w0:World}{m0:Mem}{o0:OwnM}{G:GD}{pins:List Nat}{S M:Nat->A}{a:Act}{w:World}{m:Mem}{o:OwnM}{P:Program}{N:Nat}{op:Oper}{d c:Nat}{f f':Nat->A}
theorem hx_mp{l:List (T×T)}(hl:Low S)(hk:S HK= .hp f)(hf:f c= .mp l):hx S (OB+(OB+c))= .mp l:=by rw[zDO hl hk,hf];rfl
theorem h_putM{l':List (T×T)}(hk:S HK= .hp f)(u:f'=updF f c (.mp l'))(h:N<=OB->Low S->OpOK P pins N op (hx S) (upd (hx S) (OB+(OB+c)) (.mp l'))):OpH P pins N op S (app S [(HK,.hp f')]):=by subst u;intro I hl;refine⟨?_,hl.upd zLp⟩;show OpOK P pins N op (hx S) (hx (upd S HK _));rw[zWn hl hk rfl];refine(h I hl).hkpost (f:=f) ?_;rw[zE (by unfold HK OB;omega)];exact yM hk (by simp)
theorem h_mkM{l':List (T×T)}{x:A}(hk:S HK= .hp f)(U:f'=updF f c (.mp l'))(J:okD N pins S d=true)(h:N<=OB->Low S->OpOK P pins N op (hx S) (upd (upd (hx S) (OB+(OB+c)) (.mp l')) d x)):OpH P pins N op S (app S [(HK,.hp f'),(d,x)]):=by subst U;intro Z hl;have I:=zX Z J;(have u:d≠HK:=by unfold HK;unfold OB at I;omega);refine⟨?_,(hl.upd zLp).upd (lt2 I)⟩;show OpOK P pins N op (hx S) (hx (upd (upd S HK _) d x));rw[zAc (lt2 I) u,zWn hl hk rfl,zHE (Ne.symm u)];refine(h Z hl).hkpost (f:=f) ?_;show upd (upd (hx S) (OB+(OB+c)) _) d x HK=_;rw[zE (Ne.symm u),zE (by unfold HK OB;omega)];exact yM hk (by simp)
theorem h_mkmH{t:Nat}(hk:S HK= .hp f)(U:op.op= .makeMap t none)(hd:op.dst=some d)(u:okD N pins S d=true)(hf:f c= .free)(J:f'=updF f c (.mp [])):OpH P pins N op S (app S [(HK,.hp f'),(d,.t (.mpt (OB+c)))]):=
 h_mkM hk J u λZ I=>ok_mkm U hd (qA Z u) (by simpa using zX Z u) (zVY I hk hf)
theorem h_mlkHT{κ ν:Type}[BEq κ]{kv:κ->Value}{kT:κ->T}{vT:ν->T}(hM:Mk M S)(hk:S HK= .hp f){t kt et:Nat}{x y:Operand}{l:List (κ×ν)}{k:κ}{z:ν}{r:A}(U:op.op= .lookup t x y false)(hx:cpO M x= .t (.mpt (OB+c)))(hf:f c=mpT kT vT l)(hy:vK M y=some (kv k))(hu:P.underlying t=some (.map kt et))(K:KeyT P kt kv kT)
{i:TypeInfo}{Z:Value}(hi:P.info? et=some i)(hz:i.zero=some Z)(J:∀m,RepE m (vT z) Z)(hr:A.t (vT ((zC5 l k).getD z))=r)(hd:op.dst=some d)(u:okD N pins S d=true):OpH P pins N op S (app S [(d,r)]):=by
 subst hr
 exact .of' (e:=[(d,_)]) λW I=>⟨ok_mlk hM.hx U hx (hx_mp I hk hf) hy hu K hi hz J hd (qA W u),zAr (zX W u)⟩
theorem ok_mlk2{κ ν:Type}[BEq κ]{kv:κ->Value}{kT:κ->T}{vT:ν->T}(hM:Mk M S){j t kt et:Nat}{x y:Operand}{l:List (κ×ν)}{k:κ}{z:ν}(δ:op.op= .lookup t x y true)(hx:cpO M x= .t (.mpt j))(hb:S (OB+j)=mpT kT vT l)(hy:vK M y=some (kv k))(hu:P.underlying t=some (.map kt et))(K:KeyT P kt kv kT)
{i:TypeInfo}{zv:Value}(hi:P.info? et=some i)(hz:i.zero=some zv)(ε:∀m,RepE m (vT z) zv)(hd:op.dst=some d)(ζ:okD N pins S d=true):OpOK P pins N op S (upd S d (.tup [vT ((zC5 l k).getD z),.d (.lit (.bool (zC5 l k).isSome))])):=by
 refine zL λw0 m0 o0 G a w m o hN I=> ?_
 obtain⟨h1,h2,h3⟩:=zP ζ
 have α:=zW hM I x 0
 rw[hx]at α
 obtain⟨g,k1,k2⟩:=α
 have Z:=I.slots (OB+j)
 rw[hb]at Z
 obtain⟨g',q1,q2,es,ck,q3,η,q4⟩:=Z
 obtain rfl:=I.inj _ _ _ k1 q1
 have hE:=zWs K q4
 have hf:=zOy (m:=m) K k l es.toList 0 hE
 have β:(l.findIdx? λp=>k==p.1)=mpos l k:=rfl
 rw[β]at hf
 have J:∀r,(match mpos l k with|some q=>(((es[q]?).map (·.val)).getD undef)|none=>zv)=r->(Instr.lookup t (.map (some g)) (kv k) true).run P w= .ok (.tuple #[r,.bool (mpos l k).isSome]) w:=λr hr=>by unfold Instr.lookup;simp only[wE,run_underlying hu,wC];rw[MapKept.run_getObj_map q3];simp only[wC,wQ,pure_bind,wE];rw[K.chk];simp only[wC,wE];rw[MapKept.run_findKey K.und hf];simp only[wC];(cases hp:mpos l k with|none=>rw[hp]at hr;simp only[tU];simp[zeroValue,typeInfo,hi,hz,go_sem,<-hr]|some q=>rw[hp]at hr;simp only[uG];simp[<-hr])
 have hv:RepE m (vT ((zC5 l k).getD z)) (match mpos l k with|some q=>(((es[q]?).map (·.val)).getD undef)|none=>zv):=by unfold zC5;(cases hp:mpos l k with|none=>exact ε m|some q=>have u:q<l.length:=(uR.1 hp).1;obtain⟨e,h4,h5,h6⟩:=hE.2 q l[q] (wB u);simp only[wB u,uG,uM];(have h4:es[q]? =some e:=by simpa using h4);rw[h4];exact h6)
 have hs:(mpos l k).isSome=(zC5 l k).isSome:=by unfold zC5;(cases hp:mpos l k with|none=>rfl|some q=>have u:q<l.length:=(uR.1 hp).1;simp[wB u])
 rw[hs]at J
 obtain⟨rv,W⟩:∃rv:Value,(match mpos l k with|some q=>(((es[q]?).map (λe:MapEntry=>e.val)).getD undef)|none=>zv)=rv:=⟨_,rfl⟩
 rw[W]at hv
 have γ:RepA m w o S d (.tup [vT ((zC5 l k).getD z),.d (.lit (.bool (zC5 l k).isSome))]) (.tuple #[rv,.bool (zC5 l k).isSome]):=by refine⟨#[rv,.bool (zC5 l k).isSome],rfl,rfl,λq x U=> ?_⟩;(match q,U with|0,U=>cases U;exact⟨_,rfl,hv.toT⟩|1,U=>cases U;exact⟨_,rfl,.lit _ rfl⟩|q+2,U=>simp at U)
 refine⟨.tuple #[rv,.bool (zC5 l k).isSome],w,m,o,?_,by rw[hd];exact I.set d _ _ (by omega) h2 γ⟩
 unfold execOp
 rw[δ]
 simp only[wE]
 rw[vK_eq hM I hy,k2,J _ W]
 rfl
theorem h_mlk2HT{κ ν:Type}[BEq κ]{kv:κ->Value}{kT:κ->T}{vT:ν->T}(hM:Mk M S)(hk:S HK= .hp f){t kt et:Nat}{x y:Operand}{l:List (κ×ν)}{k:κ}{z:ν}(U:op.op= .lookup t x y true)(hx:cpO M x= .t (.mpt (OB+c)))(hf:f c=mpT kT vT l)(hy:vK M y=some (kv k))(hu:P.underlying t=some (.map kt et))(K:KeyT P kt kv kT)
{i:TypeInfo}{Z:Value}(hi:P.info? et=some i)(hz:i.zero=some Z)(J:∀m,RepE m (vT z) Z)(hd:op.dst=some d)(u:okD N pins S d=true):OpH P pins N op S (app S [(d,.tup [vT ((zC5 l k).getD z),.d (.lit (.bool (zC5 l k).isSome))])]):=
 .of' (e:=[(d,_)]) λW I=>⟨ok_mlk2 hM.hx U hx (hx_mp I hk hf) hy hu K hi hz J hd (qA W u),zAr (zX W u)⟩
theorem h_mupHT{κ ν:Type}[BEq κ]{kv:κ->Value}{kT:κ->T}{vT:ν->T}(U:Mk M S)(hk:S HK= .hp f){t kt W:Nat}{x y z:Operand}{l:List (κ×ν)}{k:κ}{v:ν}(J:op.op= .mapUpdate t x y z)(hx:cpO M x= .t (.mpt (OB+c)))(hf:f c=mpT kT vT l)(hy:vK M y=some (kv k))(hz:tK M z=some (vT v))(Z:P.underlying t=some (.map kt W))(K:KeyT P kt kv kT)
(hd:op.dst=none)(I:f'=updF f c (mpT kT vT (mset l k v))):OpH P pins N op S (app S [(HK,.hp f')]):=
 h_putM hk I λhN u=>ok_mup U.hx J hx (hx_mp u hk hf) hy hz Z K hd
theorem ok_mn(hM:Mk M S){u:BinOp}{t yt kt W j:Nat}{x:Operand}{ng:Bool}(Z:op.op= .binOp u t x (.const (.map none)) yt)(hb:u=bif ng then .neq else .eql)(ht:P.underlying t=some (.map kt W))(hx:cpO M x= .t (.mpt j))(hd:op.dst=some d)(U:okD N pins S d=true):OpOK P pins N op S (upd S d (.t (.d (.lit (.bool ng))))):=by refine zL λw0 m0 o0 G a w m o hN I=> ?_;obtain⟨h1,h2,h3⟩:=zP U;have J:=zW hM I x 0;rw[hx]at J;obtain⟨g,k1,k2⟩:=J;refine⟨.bool ng,w,m,o,?_,by rw[hd];exact I.set d _ _ (by omega) h2 (.lit _ rfl)⟩;subst hb;unfold execOp;rw[Z];show Sem.run P (do pure (Next.value (<-(do eqGuard _ t x _ (a.eval x) (.map none);binOp _ t (a.eval x) (.map none))))) w=_;rw[k2,wE];(have hg:∀u:BinOp,(eqGuard u t x (.const (.map none)) (.map (some g)) (.map none)).run P w= .ok () w:=by intro u;unfold eqGuard;cases u<;>rfl);(cases ng with|false=>show Result.andThen (Sem.run P (do eqGuard .eql t x _ (.map (some g)) (.map none);binOp .eql t (.map (some g)) (.map none)) w) _=_;rw[wE,hg,wC,run_eql_map_nil w t kt W (some g) ht];rfl|true=>show Result.andThen (Sem.run P (do eqGuard .neq t x _ (.map (some g)) (.map none);binOp .neq t (.map (some g)) (.map none)) w) _=_;rw[wE,hg,wC,run_neq_map_nil w t kt W (some g) ht];rfl)
theorem h_mn(Z:Mk M S){I:BinOp}{t W kt et j:Nat}{x:Operand}{ng:Bool}(J:op.op= .binOp I t x (.const (.map none)) W)(hb:I=bif ng then .neq else .eql)(ht:P.underlying t=some (.map kt et))(hx:cpO M x= .t (.mpt j))(hd:op.dst=some d)(u:okD N pins S d=true):OpH P pins N op S (app S [(d,.t (.d (.lit (.bool ng))))]):=
 .of (e:=[(d,_)]) λU=>⟨ok_mn Z.hx J hb ht hx hd (qA U u),zAr (zX U u)⟩
theorem mpt_loc(c:Nat):(T.mpt (OB+c)).isLoc=false:=by show Nat.blt (OB+c) OB=false;(have h:¬(OB+c<OB):=by omega);(cases hb:Nat.blt (OB+c) OB with|false=>rfl|true=>exact absurd (by simpa using hb) h)
def arM{κ ν:Type}(kv:κ->Value)(cv:ν->D)(l:List (List (κ×ν)))(i:Nat):A:=match l[i]? with
 |some x=>mpA kv cv x
 |none=> .free
variable {κ ν:Type}{kv:κ->Value}{cv:ν->D}{ms:List (List (κ×ν))}{i:Nat}{x x':List (κ×ν)}
theorem arM_get(h:ms[i]? =some x):arM kv cv ms i=mpA kv cv x:=by unfold arM;rw[h]
theorem arM_ne{j:Nat}(h:j≠i):arM kv cv (ms.set i x') j=arM kv cv ms j:=by unfold arM;rw[List.getElem?_set_ne (Ne.symm h)]
theorem arM_eq(h:ms[i]? =some x):arM kv cv (ms.set i x') i=mpA kv cv x':=arM_get (zFq h)
theorem arM_free:arM kv cv ms ms.length= .free:=by unfold arM;rw[vY (wL _)]
theorem arM_new:arM kv cv (ms++[x]) ms.length=mpA kv cv x:=by unfold arM;grind
theorem arM_old{j:Nat}(h:j≠ms.length):arM kv cv (ms++[x]) j=arM kv cv ms j:=by unfold arM;grind
theorem arM_pure{l:List T}(h:arM kv cv ms i= .box l):∀y∈l,y.isLoc=false:=by unfold arM at h;grind
theorem san_arM(kv:κ->Value)(cv:ν->D)(l:List (List (κ×ν)))(i:Nat):san (arM kv cv l i)=arM kv cv l i:=by unfold arM;split<;>rfl
end
open Go.Lib
def cpySI(x:List UInt8)(off n:Nat)(y:List UInt8):Option (List UInt8):=if y.length<=n then cpyI x off n y else none
theorem cpySI_iff{x y v:List UInt8}{off n:Nat}(h:cpySI x off n y=some v):y.length<=n/\cpyI x off n y=some v:=by unfold cpySI at h;grind
section
variable {pins:List Nat}{S M:Nat->A}{P:Program}{N:Nat}{op:Oper}{d:Nat}
theorem zTM{m:Mem}(l:List UInt8):RepL m (l.map λb=>D.lit (.int .u8 (b.toNat:Int))) (byteCells l):=by
 refine⟨by rw[byteCells_length,wM],λj x hj=> ?_⟩
 rw[wG]at hj
 cases hl:l[j]? with
 |none=>grind
 |some b=>
  rw[hl]at hj
  cases hj
  exact⟨.int .u8 (b.toNat:Int),by unfold byteCells;rw[wG,hl];rfl,.lit _ rfl⟩
theorem ok_cpyS(hM:Mk M S){j off E n t t' e:Nat}{x y:Operand}{ie:TypeInfo}{l:List T}{yl:List UInt8}(hop:op.op= .call {callee:= .builtin .copy,args:= #[x,y],argTypes:= #[t,t']})(hu:P.underlying t=some (.slice e))(hie:P.info? e=some ie)(hs1:ie.size=1)(hx:cpO M x= .t (.view j off E 1 n))(hb:S (OB+j)= .box l)(hy:vO M y=some (.string ⟨⟨yl⟩⟩))(hfit:yl.length<=n)(hle:off+n<=l.length)(hd:op.dst=some d)(hok:okD N pins S d=true)(hdO:d<OB):
  OpOK P pins N op S (app S [(OB+j,.box (qD l off ((yl.map λb=>D.lit (.int .u8 (b.toNat:Int))).map .d))),(d,.t (.d (.lit (.int .i64 ((yl.length:Nat):Int)))))]):=by
 refine zL λw0 m0 o0 G a w m o hN I=> ?_
 obtain⟨h1,h2,h3⟩:=zP hok
 have hxr:=zW hM I x 0
 rw[hx]at hxr
 obtain⟨A1,c1,k1,k2,hxv,k4⟩:=hxr
 have hbox2:∀x,(upd S (OB+j) x d).isBox=false:=λx=>by rw[zE (by omega)];exact h2
 have hsz:(⟨⟨yl⟩⟩:ByteArray).size=yl.length:=rfl
 by_cases h0:yl.length=0
 ·
  have he:yl=[]:=List.eq_nil_of_length_eq_zero h0
  subst he
  refine⟨goInt 0,w,m,o,?_,?_⟩
  ·
   unfold execOp
   rw[hop]
   simp only[resolve,invoke,builtin,Sem.run_bind,Sem.run_pure,Result.andThen_ok,List.map_toArray,List.map_cons,List.map_nil]
   rw[hxv,zA0 hM I hy,run_copy_empty_string w t t' op.type e _ _ _ _ hu (by rw[hie];rfl) rfl]
   rfl
  ·
   rw[hd]
   show Inv w0 m0 o0 G pins (upd (upd S (OB+j) (.box (qD l off []))) d _) _ w m o
   rw[zR8]
   have e1:upd S (OB+j) (.box l)=S:=by
    funext s
    unfold upd
    grind
   rw[e1]
   exact I.set d _ _ (by omega) h2 (.lit _ rfl)
 ·
  obtain⟨g,cs,E',q1,q2,q3,q4,_⟩:=k4.resolve_left λe=>by omega
  clear k4
  subst q2
  have hs:=I.slots (OB+j)
  rw[hb]at hs
  obtain⟨g',_,p1,p2,cs',E2,p3,p4,p5⟩:=hs
  have:=I.inj _ _ _ q1 p1
  subst this
  rw[q3]at p3
  cases p3
  have hbl:(byteCells yl).length=yl.length:=byteCells_length yl
  have hrun:=run_copy_row_string (P:=P) w t t' op.type e g off n c1 ⟨⟨yl⟩⟩ cs E' hu (by rw[hie,<-hs1];rfl) q3 hfit (by show off+yl.length<=cs.size;omega)
  have J:=I.box_spl (off:=off) hb q1 q3 p4 p5 (zTM yl) (by rw[List.length_map];omega)
  refine⟨goInt yl.length,w.setRow g (qD cs.toList off (byteCells yl)).toArray,m,o,?_,?_⟩
  ·
   unfold execOp
   rw[hop]
   simp only[resolve,invoke,builtin,Sem.run_bind,Sem.run_pure,Result.andThen_ok,List.map_toArray,List.map_cons,List.map_nil]
   rw[hxv,zA0 hM I hy,hrun]
   unfold qD
   rw[hbl]
   rfl
  ·
   rw[hd]
   exact J.set d (.t (.d (.lit (.int .i64 ((yl.length:Nat):Int))))) (goInt yl.length) (by omega) (hbox2 _) (.lit _ rfl)
theorem h_cpyS{J yl v:List UInt8}(hM:Mk M S){j off E n t t' e:Nat}{x y:Operand}{ie:TypeInfo}(α:op.op= .call {callee:= .builtin .copy,args:=⟨[x,y]⟩,argTypes:=⟨[t,t']⟩})(hu:P.underlying t=some (.slice e))(U:P.info? e=some ie)(I:ie.size=1)(hx:cpO M x= .t (.view j off E 1 n))(hb:M (OB+j)= .box (fl (dT cU8) J))(hy:vO M y=some (.string ⟨⟨yl⟩⟩))(hv:cpySI J off n yl=some v)(hj:Nat.blt (j+1) OB=true)(hd:op.dst=some d)(u:okD N pins S d=true):
 OpH P pins N op S (app S [(OB+j,.box (fl (dT cU8) v)),(d,.t (.d (.lit (.int .i64 (yl.length:Int)))))]):=by
 obtain⟨W,Z⟩:=cpySI_iff hv
 obtain⟨Z,rfl⟩:=zW7 Z
 refine .lo2 hj u λhN β=> ?_
 rw[<-cpy_row (c:=cU8) (λ_=>rfl)]
 have:=ok_cpyS (j:=j) (off:=off) (E:=E) (n:=n) (l:=fl (dT cU8) J) (yl:=yl) hM.hx α hu U I hx (zS2 hM hb) hy W (by rw[zPV (zKw (c:=cU8) (k:=1) (λ_=>rfl))];omega) hd (qA hN u) (zX hN u)
 have e:((yl.map cU8).take n).flatMap id=yl.map λb=>D.lit (.int .u8 (b.toNat:Int)):=by rw[tD (by rw[wM];exact W)];clear this W hv hy Z;(induction yl with|nil=>rfl|cons b r ih=>grind)
 grind
end
end Go.Proofs.YtocolhfjpadaoaaGreatDoor
namespace Go.Proofs.YtocolhfjpadaoaaGreatDoor
open Go Go.RowKit
variable {P:Program}{w0:World}{w:World}{m0:Mem}{m:Mem}{o0:OwnM}{o:OwnM}{G:GD}{pins:List Nat}{N:Nat}{a:Act}{op:Oper}{S:Nat->A}{M:Nat->A}{L:SL}{v:Value}{W:World}{Q:Mem}{X:OwnM}
def zNO(l:Nat)(K:SL->Prop)(Q:Exit->SL->Prop):Exit->SL->Prop
 | .goto u,L=>u=l/\K L
 |e,L=>Q e L
section
variable {P:Program}{pins:List Nat}{N:Nat}{Q:Exit->SL->Prop}{L:SL}{K:SL->Prop}{l:Nat}
theorem zVR {b : Frame} {k : List Item} {cs : List Frame} {c : Code} : step P (lone (b.atR a (.code (.scope c) :: k)) cs w) = .next (lone (b.atR a (.code c :: .inScope c :: k)) cs w) :=
 step_lone_go (by simp [stepG, stepG.exec, Frame.atR])
theorem zL5 {b : Frame} {k : List Item} {cs : List Frame} {c : Code} : step P (lone (b.atR a (.inScope c :: k)) cs w) = .next (lone (b.atR a k) cs w) :=
 step_lone_go (by simp [stepG, stepG.exec, Frame.atR])
theorem c_goto(h:Q (.goto l) L):qG P pins N (.goto l) Q L:=λI J U W m0 X G a w u=>wpIn_goto ⟨L,h,u⟩
def zHa(P:Program)(pins:List Nat)(N:Nat)(c r:Code)(Q:Exit->SL->Prop)(L:SL):Prop:=
 ∀(u:Fence) (U:Nat),WideP pins u->∀(W:World) (m0:Mem) (X:OwnM) (G:GD) (a:Act) (w:World),St W m0 X G pins N L a w->∀(b:Frame) (k:List Item) (I:List Frame),b.roundOf=u.round->u.fn b.fn->u.room (I.length+1+U)->
  ∃e J w',(∃L',Q e L'/\StX e W m0 X G pins N L' J w')/\ArrivesIn (Machine.fenced P u) P (lone (b.atR a (.code r:: .inScope c::k)) I w) b k I e J w'
theorem scope_of{c r:Code}(hf:findLabel c l=some r)(h:qG P pins N r (zNO l (zHa P pins N c r Q) Q) L):zHa P pins N c r Q L:=by intro Fe ne hF W m0 X G a w hS b k cs α hb hr;(have hg:gotoIn l (.inScope c::k)=some (.code r:: .inScope c::k):=by simp[gotoIn,hf]);obtain⟨e,a₁,U,⟨L₁,Z,I⟩,u⟩:=h Fe ne hF W m0 X G a w hS b (.inScope c::k) cs α hb hr;(cases e with|normal=>exact⟨.normal,a₁,U,⟨L₁,Z,I⟩,StepsIn.trans u (.one (fenced_calm hb hr rfl) zL5)⟩|exit id=>exact⟨.exit id,a₁,U,⟨L₁,Z,I⟩,λk' hk=>u.1 k' (by simp[exitTo,hk]),λh1 hk=>u.2 h1 (by simp[exitTo,hk])⟩|goto l'=>obtain⟨rfl,hJ⟩:=Z;obtain⟨e₂,a₂,w₂,β,J⟩:=hJ Fe ne hF W m0 X G a₁ U I b k cs α hb hr;exact⟨e₂,a₂,w₂,β,.of_steps (u.1 _ hg) J⟩|ret=>exact⟨_,a₁,U,⟨L₁,Z,I⟩,u⟩|panic ch=>exact⟨_,a₁,U,⟨L₁,Z,I⟩,u⟩|outgrown=>exact⟨_,a₁,U,⟨L₁,Z,I⟩,u⟩)
theorem c_scope{c:Code}(l:Nat)(r:Code)(hf:findLabel c l=some r)(h:qG P pins N c (zNO l (zHa P pins N c r Q) Q) L):qG P pins N (.scope c) Q L:=by intro Fe ne hF W m0 X G a w hS b k cs α hb hr;(have hg:gotoIn l (.inScope c::k)=some (.code r:: .inScope c::k):=by simp[gotoIn,hf]);have st:StepsIn (Machine.fenced P Fe) P (lone (b.atR a (.code (.scope c)::k)) cs w) (lone (b.atR a (.code c:: .inScope c::k)) cs w):= .one (fenced_calm hb hr rfl) zVR;obtain⟨e,a₁,U,⟨L₁,Z,I⟩,u⟩:=h Fe ne hF W m0 X G a w hS b (.inScope c::k) cs α hb hr;(cases e with|normal=>exact⟨.normal,a₁,U,⟨L₁,Z,I⟩,StepsIn.trans st (StepsIn.trans u (.one (fenced_calm hb hr rfl) zL5))⟩|exit id=>exact⟨.exit id,a₁,U,⟨L₁,Z,I⟩,λk' hk=>StepsIn.trans st (u.1 k' (by simp[exitTo,hk])),λh1 hk=>let⟨k₁,h2,h3⟩:=u.2 h1 (by simp[exitTo,hk]);⟨k₁,h2,StepsIn.trans st h3⟩⟩|goto l'=>obtain⟨rfl,hJ⟩:=Z;obtain⟨e₂,a₂,w₂,β,J⟩:=hJ Fe ne hF W m0 X G a₁ U I b k cs α hb hr;exact⟨e₂,a₂,w₂,β,.of_steps (StepsIn.trans st (u.1 _ hg)) J⟩|ret=>exact⟨_,a₁,U,⟨L₁,Z,I⟩,.of_steps st u⟩|panic ch=>exact⟨_,a₁,U,⟨L₁,Z,I⟩,.of_steps st u⟩|outgrown=>exact⟨_,a₁,U,⟨L₁,Z,I⟩,.of_steps st u⟩)
theorem zQH{c:Code}{u:Exit->SL->Prop}(h:qG P pins N c Q L)(I:∀e L',Q e L'->u e L'):qG P pins N c u L:=
 λFe U hF W m0 X G a w Z=>wpIn_mono (h Fe U hF W m0 X G a w Z) λe a' w' ⟨L',h1,J⟩=>⟨L',I e L' h1,J⟩
end
def yv(l:Nat):Value:= .func (.yield l) #[] #[]
def YK(P:Program)(l:Nat)(vals:Array Value)(w:World)(R:Ending->World->Prop):Prop:=
 ∃fn J u I,(Instr.yield l vals).run P w= .ok (.round l fn J u I) w/\∀n,RoundIn Fence.wide n P l fn J u I w R
theorem YK.mono{l:Nat}{vals:Array Value}{R U:Ending->World->Prop}(h:YK P l vals w R)(k:∀e w',R e w'->U e w'):YK P l vals w U:=by obtain⟨fn,I,J,u,W,Z⟩:=h;exact⟨fn,I,J,u,W,λn=>(Z n).mono k⟩
def YLD(P:Program)(l:Nat)(args:List A)(f f':Nat->A)(b:Bool):Prop:=FCK (YK P l) args [] [] f f' (.t (.d (.lit (.bool b))))
theorem round_any{F:Fence}(h:zJJ F){n:Nat}{l fn:Nat}{J:Array Value}{u I:Code}{R:Ending->World->Prop}(W:RoundIn Fence.wide n P l fn J u I w R):RoundIn F n P l fn J u I w R:=by refine⟨h.fn _,λc Z U=> ?_⟩;obtain⟨e,w',r,s⟩:=W.2 c Z (room_wide _);refine⟨e,w',r,?_⟩;rcases h with rfl|⟨l,rfl⟩;exact s;exact s
section
variable {P:Program}{pins:List Nat}{N:Nat}{op:Oper}{d:Nat}{S M:Nat->A}{f f':Nat->A}
theorem y_call(hM:Mk M S)(hk:S HK= .hp f){l:Nat}{xs:List Operand}{ts:Array TypeId}{fx:Operand}(δ:op.op= .call {callee:= .value fx,args:=xs.toArray,argTypes:=ts})(μ:vO M fx=some (yv l))(hd:op.dst=some d)(η:okD N pins S d=true){args:List A}{b:Bool}(hf:YLD P l args f f' b)(hp:zCO f)(θ:zCO f')(α:zIL [] (xs.map (cpO M)) args)(ξ:Nat.ble args.length OB=true):
 OpY P pins N op S (app S [(HK,.hp f'),(d,.t (.d (.lit (.bool b))))]):=by
 intro hN β
 have Z:=zX hN η
 have U:d≠HK:=by unfold HK;unfold OB at Z;omega
 refine⟨?_,(β.upd zLp).upd (lt2 Z)⟩
 intro F n hF W m0 X G a w m o ι I K Q hK
 have he:hx (app S [(HK,.hp f'),(d,.t (.d (.lit (.bool b))))])=upd (upd (app (hpS (hx S) f') (zCq [] [])) d (.t (.d (.lit (.bool b))))) HK (.hp f'):=by show hx (upd (upd S HK (.hp f')) d _)=_;rw[zAc (lt2 Z) U,zHE U];congr 1;funext t;by_cases e:t=HK;(subst e;rw[zK];exact yM (zK _ _ _) (by simp));(rw[zE e];rcases wR t OB2 with h|h;(rw[zBx h,zE e];show S t=hpS (hx S) f' t;unfold hpS;rw[if_neg (by omega),zBx h]);(obtain⟨k,rfl⟩:∃k,t=OB2+k:=⟨t-OB2,by omega⟩;rw[qX,zDO (β.upd zLp) (zK _ _ _),<-qX];show _=hpS (hx S) f' _;unfold hpS;grind))
 rw[he]at hK
 obtain⟨h1,h2,h3⟩:=zP (qA hN η)
 obtain⟨k1,k2⟩:=zJN hM.hx I tP (vI _) (λj h=>by cases h) (S':=argH args [] f) xs args α
 have hc:=zRd (K:=YK P l) I (λ_ _ _ _ h k=>YK.mono h k) hf (λc=>zDO β hk c) hp θ (σ:=[]) (fr:=[]) tP (λj h=>by cases h) rfl rfl rfl (λj h=>by cases h) rfl (vI _) (.plain rfl) (vals:=(xs.map a.eval).toArray) (by simpa using k1) (λk x hk k0=>by simpa using k2 k x hk k0) (wS ξ) (d:=d) (by omega) h2 h3
 obtain⟨fn,ε,ν,γ,q1,q2⟩:=hc
 unfold Oper.wpIn
 refine⟨λg _=>hF.fn g,?_⟩
 have κ:∀c,op.op≠ .defer c:=λc e=>by rw[δ]at e;cases e
 rw[Oper.semAt_eq _ _ _ κ]
 have ζ:(execOp a.eval op).run P w= .ok (.round l fn ε ν γ) w:=by unfold execOp;rw[δ];simp only[resolve,zA0 hM.hx I μ,yv,Deferred.ofValue,wU];simp[invoke,q1]
 rw[ζ,Oper.uponIn_round]
 refine⟨λh=>hF.deep h,RoundIn.mono (round_any hF (q2 _)) ?_⟩
 rintro e w' ⟨u,m',o',rfl,J⟩
 rw[<-hd]at J
 show K (a.put op.dst u) w'
 refine hK _ _ _ _ (by rw[zAK,ι]) (J.hk (f:=f) ?_ f')
 rw[zE (Ne.symm U)]
 show hpS (hx S) f' HK=_
 unfold hpS
 rw[if_neg (by unfold HK OB2;omega)]
 exact yM hk (by simp)
end
def hz(f z:Nat->A):Nat->A:=λc=>if c %64=63 then z (c/64)else f c
def isZ(s:Nat):Prop:=OB2<=s/\(s-OB2) %64=63
instance (s:Nat):Decidable (isZ s):=by unfold isZ;exact inferInstance
theorem zT9{s:Nat}(h:s<OB2):¬isZ s:=λe=>by have:=e.1;omega
theorem zQ1{c:Nat}:isZ (OB+(OB+c))↔c %64=63:=by unfold isZ;rw[<-qX,wO];grind
def nzT:T->Bool
 | .hpt c _| .hvw c _ _ _ _=> !(c %64==63)
 | .opt t _=> !(t %64==63)
 | .mpt i=> !(Nat.ble OB i&&(i-OB) %64==63)
 | .ptr _ _| .view _ _ _ _ _=>false
 |_=>true
def nzA:A->Bool
 | .t x=>nzT x
 | .tup l| .ag l| .lst l| .imt l=>l.all nzT
 | .imm _| .any=>true
 |_=>false
def dzO(o:OwnM):OwnM:=λg=>match o g with
 |some l=>if isZ l.1 then none else some l
 |none=>none
theorem zCE{g:Nat}{l:Nat×Nat}:dzO o g=some l↔¬isZ l.1/\o g=some l:=by
 unfold dzO
 constructor
 ·
  intro h
  split at h
  all_goals grind
 grind
section
variable {m:Mem}{w:World}{o:OwnM}
theorem zNT{loc:Nat×Nat}(hl:¬isZ loc.1){x:T}(hx:nzT x=true)(h:RepT m w o loc x v):RepT m w (dzO o) loc x v:=by(cases x with|d x=>exact h|agg l=>exact h|own E k l=>obtain⟨W,cap,xs,e,I,u,U,J⟩:=h;exact⟨W,cap,xs,e,I,λg Z=>⟨zCE.2 ⟨hl,(u g Z).1⟩,(u g Z).2⟩,U,J⟩|ags l1 α=>exact zEX.own (λg Z=>zCE.2 ⟨hl,Z⟩) h|xs E k l rv=>obtain⟨W,cap,xs,e,I,u,U,J⟩:=h;exact⟨W,cap,xs,e,I,λg Z=>⟨zCE.2 ⟨hl,(u g Z).1⟩,(u g Z).2⟩,U,J⟩|any=>exact h|ptr i off=>cases hx|view i off E k n=>cases hx|hpt i off=>(have hx:i %64≠63:=by simpa[nzT]using hx);obtain⟨g,I,u⟩:=h;exact⟨g,zCE.2 ⟨λe=>hx (zQ1.1 e),I⟩,u⟩|opt t p=>(have hx:t %64≠63:=by simpa[nzT]using hx);exact h.imp id λ⟨i,e,g,I,u⟩=>⟨i,e,g,zCE.2 ⟨λe=>hx (by have:=zQ1.1 e;unfold cd at this;omega),I⟩,u⟩|mpt i=>obtain⟨g,I,u⟩:=h;refine⟨g,zCE.2 ⟨λe=> ?_,I⟩,u⟩;have e:isZ (OB+i):=e;(have U:OB<=i:=by have:=e.1;unfold OB OB2 at*;omega);(have J:i=OB+(i-OB):=by omega);rw[J]at e;have h5:=zQ1.1 e;have hx:(!(Nat.ble OB i&&(i-OB) %64==63))=true:=hx;rw[h5,Nat.ble_eq_true_of_le U]at hx;cases hx|hvw i off E k n=>(have hx:i %64≠63:=by simpa[nzT]using hx);obtain⟨W,q,I,u,U,J⟩:=h;exact⟨W,q,I,u,U,J.imp id λ⟨g,cs,E1,k1,k2⟩=>⟨g,cs,E1,zCE.2 ⟨λe=>hx (zQ1.1 e),k1⟩,k2⟩⟩)
theorem zWo{l:List T}(h:l.all nzT=true){j:Nat}{x:T}(u:l[j]? =some x):nzT x=true:=wI.1 h x (wD u)
theorem nzA_rep{s:Nat}(Z:¬isZ s){S S':Nat->A}{x:A}(hx:nzA x=true)(h:RepA m w o S s x v):RepA m w (dzO o) S' s x v:=by(cases x with|t x=>exact zNT Z hx h|tup l=>obtain⟨W,e,U,J⟩:=h;exact⟨W,e,U,λj x I=>let⟨u,a,b⟩:=J j x I;⟨u,a,zNT Z (zWo hx I) b⟩⟩|ag l=>obtain⟨W,e,U,J⟩:=h;exact⟨W,e,U,λj x I=>let⟨u,a,c,b⟩:=J j x I;⟨u,a,c,zNT Z (zWo hx I) b⟩⟩|lst l=>obtain⟨g,cap,e,U,J,h3⟩:=h;exact⟨g,cap,e,U,J,λj x I=>let⟨u,a,b⟩:=h3 j x I;⟨u,a,zNT Z (zWo hx I) b⟩⟩|imt l=>obtain⟨g,e,h3⟩:=h;exact⟨g,e,λj x I=>let⟨u,a,b⟩:=h3 j x I;⟨u,a,zNT Z (zWo hx I) b⟩⟩|imm l=>exact h|any=>trivial|_=>cases hx)
end
structure NZ(f:Nat->A):Prop where
 z:∀c,c %64=63->san (f c)= .free
 b:∀c l,san (f c)= .box l->∀x∈l,nzT x=true
 r:∀c b u mE oE,san (f c)≠ .rcd b u mE oE
theorem FCK.frame{K:Array Value->World->(Ending->World->Prop)->Prop}(π:∀(v:Array Value) (w:World) (R R':Ending->World->Prop),K v w R->(∀e w',R e w'->R' e w')->K v w R'){args:List A}{f f':Nat->A}{r:A}(hf:FCK K args [] [] f f' r)(h0:NZ f)(χ:NZ f')(ha:args.all nzA=true)(hle:args.length<=OB)(z:Nat->A):FCK K args [] [] (hz f z) (hz f' z) r:=by
 intro w m o α κ μ ε η τ γ
 refine π _ _ _ _ (hf w m (dzO o) α κ μ (λg l h=>ε g l (zCE.1 h).2) (λg g' l h h'=>η g g' l (zCE.1 h).2 (zCE.1 h').2) τ λs=> ?_) ?_
 · have hs:=γ s;revert hs;generalize α.getD s undef=v;intro hs;unfold argH at hs⊢;by_cases h1:s<OB;(rw[if_pos h1]at hs⊢;have U:¬isZ s:=zT9 (by unfold OB OB2 at*;omega);refine nzA_rep U ?_ hs;rw[wK];(cases hx:args[s]? with|none=>rfl|some x=>grind));(rw[if_neg h1]at hs⊢;by_cases W:OB2<=s;(rw[if_pos W]at hs⊢;obtain⟨c,rfl⟩:∃c,s=OB2+c:=⟨s-OB2,by omega⟩;rw[wO]at hs⊢;by_cases hc:c %64=63;(rw[h0.z c hc];intro g k h;have:=(zCE.1 h).1;rw[qX]at this;exact this (zQ1.2 hc));((have U:¬isZ (OB2+c):=by rw[qX];exactλe=>hc (zQ1.1 e));(have e1:hz f z c=f c:=by unfold hz;rw[if_neg hc]);rw[e1]at hs;rcases zDR (f c)with⟨l,hl⟩|hl|hl|⟨l,hl⟩|⟨b,u,mE,oE,hl⟩;(have hb:=h0.b c l hl;rw[hl]at hs⊢;obtain⟨g,e,k1,k2,cs,E,k3,k4,k5⟩:=hs;refine⟨g,e,zCE.2 ⟨U,k1⟩,k2,cs,E,k3,k4,λj x hj=> ?_⟩;obtain⟨q1,u,q2,q3⟩:=k5 j x hj;exact⟨q1,u,q2,zNT U (hb x (wD hj)) q3⟩);(rw[hl]at hs⊢;exactλg k h=>hs g k (zCE.1 h).2);rw[hl];trivial;(rw[hl]at hs⊢;obtain⟨g,k1,k2⟩:=hs;exact⟨g,zCE.2 ⟨U,k1⟩,k2⟩);exact absurd hl (h0.r c _ _ _ _)));(rw[if_neg W]at hs⊢;exactλg k h=>hs g k (zCE.1 h).2))
 · rintro e w' ⟨u,m',o',S',a',ρ,he,J,hr,_,ν,hρ⟩;(have θ:∀g l,o g=some l->isZ l.1->dzO o g=none:=λg l h hl=>by unfold dzO;rw[h];simp only;rw[if_pos hl]);(have hzo:∀g l,o g=some l->isZ l.1->o' g=none:=by intro g l h hl;(cases hq:o' g with|none=>rfl|some l'=>rcases J.own g l' hq with hG|hG;(all_goals grind)));(let o2:OwnM:=λg=>match o g with|some l=>if isZ l.1 then some l else o' g|none=>o' g);(have φ:∀g l,o g=some l->isZ l.1->o2 g=some l:=λg l h hl=>by(show(match o g with|some l=>if isZ l.1 then some l else o' g|none=>o' g)=_);rw[h];simp only;grind);(have ζ:∀g l,o' g=some l->o2 g=some l:=by intro g l h;(show(match o g with|some l=>if isZ l.1 then some l else o' g|none=>o' g)=_);(cases hq:o g with|none=>exact h|some l'=>grind));(have W:∀g l,o2 g=some l->(isZ l.1/\o g=some l)\/o' g=some l:=by intro g l h;(have h:(match o g with|some l=>if isZ l.1 then some l else o' g|none=>o' g)=some l:=h);(cases hq:o g with|none=>rw[hq]at h;grind|some l'=>grind));(have ψ:∀g l,o' g=some l->¬isZ l.1:=by rintro g ⟨s,k⟩ h hl;obtain⟨c,rfl⟩:∃c,s=OB+(OB+c):=⟨s-OB2,by rw[<-qX];have:=hl.1;show s=_;have h3:OB2<=s:=this;omega⟩;have hs:=J.slots (OB+(OB+c));rw[ν,χ.z c (zQ1.1 hl)]at hs;exact hs g k h);(have ι:∀s,OB<=s->∀g,o g=some (s,0)->o2 g=some (s,0):=by intro s hs g h;by_cases hl:isZ s;grind;exact ζ g _ (J.pinned s (.inr hs) g (zCE.2 ⟨hl,h⟩)));have Z:∀g l,o g=some l->isZ l.1->m' g=m g/\w'.heap[g]? =w.heap[g]? :=λg l h hl=>⟨J.old g (ε g l h) λI=>I (θ g l h hl),J.same.block g (ε g l h) λI=>I (θ g l h hl)⟩;(have δ:∀g j,o g=some (OB+j,0)->zAX w w' g:=by intro g j h;by_cases hl:isZ (OB+j);exact .of_eq (Z g _ h hl).2;exact(J.shps g j (zCE.2 ⟨hl,h⟩)).2);let S2:Nat->A:=λt=>if isZ t then san (z ((t-OB2)/64))else S' t;have K1:Keep (λl=>isZ l.1) m' w' o' m' w' o2:=⟨Mle.refl _,λ_ _ _ _=>rfl,λ_ _ _ _=>rfl,λg l h _=>ζ g l h,λg j h=>ζ g _ h,λg s k I h=>by rcases W g _ h with⟨hl,_⟩|h;grind;exact⟨g,k,h⟩,λg j _=> .refl _ _⟩;have β:∀b l,b<OB->S' b= .box l->∃l,S2 b= .box l:=λb l hb h=>⟨l,by show(if isZ b then _ else S' b)=_;rw[if_neg (zT9 (by unfold OB OB2 at*;omega))];exact h⟩;refine⟨u,m',o2,S2,a',ρ,he,⟨J.same.weaken λg h e=>h ?_,J.sat,J.mono,λb hb I=>J.old b hb λh=>h ?_,λg l h=> ?_,λg l h=> ?_,λg g' l h h'=> ?_,λs hs g hg=> ?_,λs=> ?_,J.defers,J.tbl,J.wide,λg j h=>⟨.inr ?_,δ g j h⟩⟩,?_,λi x h=>by simp at h,λc=> ?_,hρ⟩;(show dzO o g=none;unfold dzO;rw[e]);((have I:o b=none:=by grind);show dzO o b=none;unfold dzO;rw[I]);(rcases W g l h with⟨_,h⟩|h;grind;(rcases J.own g l h with hG|hG;(refine .inl λe=>hG ?_;show dzO o g=none;unfold dzO;rw[e]);grind));(rcases W g l h with⟨_,h⟩|h;grind;exact J.lt g l h);(rcases W g l h with⟨hl,h⟩|h<;>rcases W g' l h' with⟨ω,h'⟩|h';grind;grind;grind;exact J.inj g g' l h h');(rcases hs with hs|hs;simp[zGe]at hs;grind);(by_cases hl:isZ s;(obtain⟨c,rfl⟩:∃c,s=OB+(OB+c):=⟨s-OB2,by rw[<-qX];have:=hl.1;omega⟩;(have e2:S2 (OB+(OB+c))=san (z (c/64)):=by show(if isZ (OB+(OB+c))then _ else _)=_;rw[if_pos hl,<-qX,wO]);have hs:=γ (OB+(OB+c));(have e3:argH args [] (hz f z) (OB+(OB+c))=san (z (c/64)):=by unfold argH;rw[if_neg (by omega),<-qX,if_pos (wV _ _),wO];unfold hz;rw[if_pos (zQ1.1 hl)]);rw[e3]at hs;rw[e2];have K2:Keep (λl=>¬isZ l.1) m w o m' w' o2:=⟨J.mono,λg l h I=>(Z g l h (by simpa using I)).1,λg l h I=>(Z g l h (by simpa using I)).2,λg l h I=>φ g l h (by simpa using I),λg j h=>ι _ (wV _ _) g h,λg s k I h=>by rcases W g _ h with⟨_,h⟩|h;grind;exact absurd (by simpa using I) (ψ g _ h),δ⟩;(have σ:∀b off,san (z (c/64))≠ .ref b off:=λb off e=>by cases hq:z (c/64)<;>rw[hq]at e<;>cases e);have h3:=RepA.keep (S':=S2) K2 (λj=>by simpa using hl) (λb off e _=>absurd e (σ b off)) hs;rcases zDR (z (c/64))with⟨l,hq⟩|hq|hq|⟨l,hq⟩|⟨b,u,mE,oE,hq⟩;(rw[hq]at h3⊢;obtain⟨g,_,ξ⟩:=h3;exact⟨g,λh=>absurd h (by omega),ξ⟩);rw[hq]at h3⊢;exact h3;rw[hq];trivial;rw[hq]at h3⊢;exact h3;rw[hq]at h3⊢;exact h3);((have e2:S2 s=S' s:=by show(if isZ s then _ else _)=_;rw[if_neg hl]);rw[e2];exact RepA.keep K1 (λ_=>hl) (λb off _ hb=>⟨zT9 (by unfold OB OB2 at*;omega),λ⟨l,hl⟩=>β b l hb hl⟩) (J.slots s)));(by_cases hl:isZ (OB+j);exact hl.1;(exact((J.shps g j (zCE.2 ⟨hl,h⟩)).1).resolve_left λh=>by simp[zGe]at h));exact RepA.keep K1 (λ_=>zT9 (by unfold OB OB2 at*;omega)) (λb off _ hb=>⟨zT9 (by unfold OB OB2 at*;omega),λ⟨l,hl⟩=>β b l hb hl⟩) hr;(show(if isZ (OB+(OB+c))then _ else _)=_;by_cases hl:isZ (OB+(OB+c));(rw[if_pos hl,<-qX,wO];unfold hz;rw[if_pos (zQ1.1 hl)]);(rw[if_neg hl,ν];unfold hz;rw[if_neg λe=>hl (zQ1.2 e)]))
def rs(pins:List Nat)(o:OwnM):OwnM:=λg=>match o g with
 |some l=>if OB<=l.1/\l.1<OB2/\l.1∉pins then none else some l
 |none=>none
theorem zP1{g:Nat}{l:Nat×Nat}:rs pins o g=some l↔(OB<=l.1->l.1<OB2->l.1∈pins)/\o g=some l:=by unfold rs;grind
section
variable {w0:World}{m0:Mem}{o0:OwnM}{G:GD}{pins:List Nat}{S:Nat->A}{a:Act}{w:World}{m:Mem}{o:OwnM}
theorem Inv.base(I:Inv w0 m0 o0 G pins S a w m o):Inv w m (rs pins o) ⟨λg=>o g≠none,G.ds⟩ pins S a w m o:=
 ⟨.refl _ _,I.sat,.refl _,λ_ _ _=>rfl,λg l h=> .inl (by show o g≠none;rw[h];simp),I.lt,I.inj,λs U g h=>(zP1.1 h).2,I.slots,I.defers,I.tbl.trans I.mono,I.wide,λg j h=>by obtain⟨u,J⟩:=zP1.1 h;refine⟨?_,.refl _ _⟩;rcases wR (OB+j) OB2 with h3|h3;exact .inl (u (wV _ _) h3);exact .inr h3⟩
theorem Inv.comp(I:Inv w0 m0 o0 G pins S a w m o){Z:GD}(hG:∀g,Z.p g->o g≠none){S':Nat->A}{a':Act}{w':World}{m':Mem}{o':OwnM}(J:Inv w m (rs pins o) Z pins S' a' w' m' o'):Inv w0 m0 o0 ⟨G.p,Z.ds⟩ pins S' a' w' m' o':=by(have key:∀g,o g≠none->G.p g\/w0.heap.size<=g:=λg h=>by(cases hq:o g with|none=>grind|some l=>exact I.own g l hq));(have u:∀s,(s∈pins\/OB<=s)->∀g,o0 g=some (s,0)->rs pins o g=some (s,0):=by intro s U g h;refine zP1.2 ⟨λh1 W=> ?_,I.pinned s U g h⟩;have h1:OB<=s:=h1;have W:s<OB2:=W;obtain⟨j,rfl⟩:∃j,s=OB+j:=⟨s-OB,by omega⟩;(exact((I.shps g j h).1).resolve_right λh=>by omega));refine⟨I.same.trans (J.same.weaken λg h=>key g (hG g h)),J.sat,I.mono.trans J.mono,λb hb hn=> ?_,λg l h=> ?_,J.lt,J.inj,λs U g h=>J.pinned s U g (u s U g h),J.slots,J.defers,I.tbl,J.wide,λg j h=>⟨(I.shps g j h).1,(I.shps g j h).2.trans (J.shps g j (u _ (.inr (wV _ _)) g h)).2⟩⟩;(rw[J.old b (wN hb I.same.size) λh=>(key b (hG b h)).elim hn λh=>by omega];exact I.old b hb hn);(rcases J.own g l h with h|h;grind;exact .inr (vR I.same.size h))
theorem Inv.defs(I:Inv w0 m0 o0 G pins S a w m o)(ds:List Deferred):Inv w0 m0 o0 ⟨G.p,ds⟩ pins S {a with defers:=ds} w m o:=
 ⟨I.same,I.sat,I.mono,I.old,I.own,I.lt,I.inj,I.pinned,I.slots,rfl,I.tbl,I.wide,I.shps⟩
theorem Inv.at(I:Inv w0 m0 o0 G pins S a w m o){l:Nat}(hl:o l=none)(U:∀p,m l p=none)(u:Obj):Inv (w.putObj l u) m (rs pins o) ⟨λg=>o g≠none,G.ds⟩ pins S a (w.putObj l u) m o:=by(have J:∀g k,o g=some k->g≠l:=λg k h e=>by subst e;rw[hl]at h;cases h);have hh:∀g k,o g=some k->(w.putObj l u).heap[g]? =w.heap[g]? :=λg k h=>wZ (J g k h);have K:Keep (λ_=>False) m w o m (w.putObj l u) o:=⟨.refl _,λ_ _ _ _=>rfl,λg k h _=>hh g k h,λ_ _ h _=>h,λ_ _ h=>h,λg _ k _ h=>⟨g,k,h⟩,λg j h=> .of_eq (hh g _ h)⟩;have B:=I.base;refine⟨.refl _ _,λb p v h=> ?_,.refl _,λ_ _ _=>rfl,λg k h=> .inl (by show o g≠none;rw[h];simp),λg k h=>by rw[uT];exact I.lt g k h,I.inj,B.pinned,λs=>RepA.keep K (λ_=>id) (λ_ _ _ _=>⟨id,id⟩) (I.slots s),I.defers,B.tbl,I.wide,λg j h=>⟨(B.shps g j h).1,.refl _ _⟩⟩;(have hb:b≠l:=λe=>by subst e;rw[U]at h;cases h);have:=I.sat b p v h;unfold World.cell? at this⊢;rw[wZ hb];grind
end
structure VW(bs:List Nat)(o1 o2:OwnM):Prop where
 hh:∀g c k,c %64≠63->(o1 g=some (OB+(OB+c),k)↔o2 g=some (OB+(OB+c),k))
 hb:∀(i b g k:Nat),bs[i]? =some b->(o1 g=some (b,k)↔o2 g=some (OB+(OB+cd 63 (i+1)),k))
def toY(bs:List Nat)(l:Nat)(o:OwnM):OwnM:=λg=>if g=l then some (OB+(OB+cd 63 0),0)else match o g with
 |some (s,k)=>if OB2<=s then some (s,k)else(posN bs s).map λi=>(OB+(OB+cd 63 (i+1)),k)
 |none=>none
def ofY(bs:List Nat)(o:OwnM):OwnM:=λg=>match o g with
 |some (s,k)=>if OB2<=s then(if(s-OB2) %64=63 then(if(s-OB2)/64=0 then none else(bs[(s-OB2)/64-1]?).map λb=>(b,k))else some (s,k))else none
 |none=>none
theorem zLC{bs:List Nat}{l:Nat}(I:∀b∈bs,b<OB)(hl:o l=none){g:Nat}{q:Nat×Nat}:toY bs l o g=some q↔(g=l/\q=(OB+(OB+cd 63 0),0))\/(OB2<=q.1/\o g=some q)\/∃i b,posN bs b=some i/\q.1=OB+(OB+cd 63 (i+1))/\o g=some (b,q.2):=by unfold toY;constructor;(intro h;split at h;grind;(split at h;(rename_i s k J;split at h;grind;(cases hp:posN bs s with|none=>grind|some i=>grind));cases h));(rintro(⟨rfl,rfl⟩|⟨h1,u⟩|⟨i,b,h1,u,h3⟩);grind;grind;(obtain⟨s,k⟩:=q;have u:s=_:=u;subst u;rw[if_neg (λe=>by subst e;rw[hl]at h3;cases h3),h3];have hb:=I b (wD (zBG h1));simp only;rw[if_neg (by unfold OB OB2 at*;omega),h1];rfl))
theorem zCt(i:Nat):cd 63 i %64=63:=zUt (by decide)
theorem c63_div(i:Nat):cd 63 i/64=i:=cd_div (by decide)
theorem zCC{bs:List Nat}{g:Nat}{q:Nat×Nat}:ofY bs o g=some q↔(∃c,c %64≠63/\q.1=OB+(OB+c)/\o g=some q)\/∃i,bs[i]? =some q.1/\o g=some (OB+(OB+cd 63 (i+1)),q.2):=by unfold ofY;constructor;(intro h;split at h;(rename_i s k J;split at h;(rename_i u;obtain⟨c,rfl⟩:∃c,s=OB2+c:=⟨s-OB2,by omega⟩;rw[wO]at h;split at h;(rename_i I;split at h;cases h;(rename_i U;(cases hb:bs[c/64-1]? with|none=>grind|some b=>rw[hb]at h;cases h;refine .inr ⟨c/64-1,hb,?_⟩;rw[J,qX];(have:c=cd 63 (c/64-1+1):=by unfold cd;omega);grind)));(cases h;exact .inl ⟨c,by assumption,qX c,J⟩));cases h);cases h);(rintro(⟨c,u,I,U⟩|⟨i,u,I⟩);(obtain⟨s,k⟩:=q;have I:s=_:=I;subst I;rw[U];simp only;rw[<-qX,if_pos (wV _ _),wO,if_neg u]);(obtain⟨b,k⟩:=q;rw[I];simp only;have u:bs[i]? =some b:=u;rw[<-qX,if_pos (wV _ _),wO,if_pos (zCt _),c63_div,if_neg (by omega),Nat.add_sub_cancel,u];rfl))
theorem VW.toY{bs:List Nat}{l:Nat}(Z:bs.Nodup)(u:∀b∈bs,b<OB)(hl:o l=none)(hz:∀g c k,c %64=63->o g≠some (OB+(OB+c),k)):VW bs o (toY bs l o):=by refine⟨λg c k J=> ?_,λi b g k U=> ?_⟩;(rw[zLC u hl];constructor;exactλh=> .inr (.inl ⟨by rw[<-qX];exact wV _ _,h⟩);(rintro(⟨_,h⟩|⟨_,h⟩|⟨i,b,_,h,_⟩);(injection h with h _;(have:c=cd 63 0:=by omega);exact absurd (by rw[this];exact zCt 0) J);exact h;(have h:OB+(OB+c)=OB+(OB+cd 63 (i+1)):=h;(have:c=cd 63 (i+1):=by omega);exact absurd (by rw[this];exact zCt _) J)));(rw[zLC u hl];constructor;exactλh=> .inr (.inr ⟨i,b,zCZ Z U,rfl,h⟩);(rintro(⟨_,h⟩|⟨_,h⟩|⟨i',b',h1,h,h2⟩);(injection h with h _;(have:cd 63 (i+1)=cd 63 0:=by omega);unfold cd at this;omega);exact absurd h (hz g _ k (zCt _));(have h:OB+(OB+cd 63 (i+1))=OB+(OB+cd 63 (i'+1)):=h;(have:i=i':=by unfold cd at h;omega);subst this;have I:=zBG h1;rw[U]at I;injection I with I;rw[I];exact h2)))
theorem VW.ofY{bs:List Nat}(Z:bs.Nodup)(u:∀b∈bs,b<OB):VW bs (ofY bs o) o:=by refine⟨λg c k W=> ?_,λi b g k J=> ?_⟩;(rw[zCC];constructor;(rintro(⟨_,_,_,h⟩|⟨i,I,_⟩);exact h;(have:=u _ (wD I);have:OB+(OB+c)<OB:=this;omega));exactλh=> .inl ⟨c,W,rfl,h⟩);(rw[zCC];have hb:=u b (wD J);constructor;(rintro(⟨c,_,h,_⟩|⟨i',I,h2⟩);(have h:b=OB+(OB+c):=h;omega);(have I:bs[i']? =some b:=I;have U:=zCZ Z J;rw[zCZ Z I]at U;cases U;exact h2));exactλh=> .inr ⟨i,J,h⟩)
section
variable {m:Mem}{w:World}{o o':OwnM}
theorem nz_rep(hh:∀g c,c %64≠63->o g=some (OB+(OB+c),0)->o' g=some (OB+(OB+c),0)){loc loc':Nat×Nat}(ho:∀g,o g=some loc->o' g=some loc'){x:T}(hx:nzT x=true)(hb:∀i,x= .mpt i->OB<=i)(h:RepT m w o loc x v):RepT m w o' loc' x v:=by(cases x with|d x=>exact h|agg l=>exact h|own E k l=>obtain⟨W,cap,xs,e,I,u,J,U⟩:=h;exact⟨W,cap,xs,e,I,λg Z=>⟨ho g (u g Z).1,(u g Z).2⟩,J,U⟩|ags l1 α=>exact zEX.own ho h|xs E k l rv=>obtain⟨W,cap,xs,e,I,u,J,U⟩:=h;exact⟨W,cap,xs,e,I,λg Z=>⟨ho g (u g Z).1,(u g Z).2⟩,J,U⟩|any=>exact h|ptr i off=>cases hx|view i off E k n=>cases hx|hpt i off=>(have hx:i %64≠63:=by simpa[nzT]using hx);obtain⟨g,I,u⟩:=h;exact⟨g,hh g i hx I,u⟩|opt t p=>(have hx:t %64≠63:=by simpa[nzT]using hx);exact h.imp id λ⟨i,e,g,I,u⟩=>⟨i,e,g,hh g _ (by unfold cd;omega) I,u⟩|mpt i=>obtain⟨g,I,u⟩:=h;have J:=hb i rfl;obtain⟨c,rfl⟩:∃c,i=OB+c:=⟨i-OB,by omega⟩;refine⟨g,hh g c (λe=> ?_) I,u⟩;have hx:(!(Nat.ble OB (OB+c)&&(OB+c-OB) %64==63))=true:=hx;rw[wO,e,Nat.ble_eq_true_of_le J]at hx;cases hx|hvw i off E k n=>(have hx:i %64≠63:=by simpa[nzT]using hx);obtain⟨W,q,I,u,J,U⟩:=h;exact⟨W,q,I,u,J,U.imp id λ⟨g,cs,E1,k1,k2⟩=>⟨g,cs,E1,hh g i hx k1,k2⟩⟩)
def nzC(l:List T):Prop:=∀x∈l,nzT x=true/\∀i,x= .mpt i->OB<=i
theorem zRv(hh:∀g c,c %64≠63->o g=some (OB+(OB+c),0)->o' g=some (OB+(OB+c),0)){s s':Nat}(I:∀g k,o g=some (s,k)->o' g=some (s',k)){l:List T}(hl:nzC l){g:Nat}(h:zTX m w o s l g):zTX m w o' s' l g:=by obtain⟨h1,U,W,E,h3,Z,h5⟩:=h;refine⟨I g 0 h1,U,W,E,h3,Z,λj x J=> ?_⟩;obtain⟨a,u,b,c⟩:=h5 j x J;obtain⟨k1,k2⟩:=hl x (wD J);exact⟨a,u,b,nz_rep hh (λg=>I g _) k1 k2 c⟩
end
def zA(l:Nat)(u:Obj)(J:Mem)(I:OwnM)(cs:List (List T)):Nat->A:=λi=>if i=0 then .rcd l u J I else match cs[i-1]? with
 |some c=> .box c
 |none=> .free
def Stat(I:Mem)(J:OwnM):A->Value->Prop
 | .any,_=>True
 | .t (.d x),v=>RepD I x v
 | .t (.agg l),v=>∃U:Array Value,v= .agg U/\RepL I l U.toList
 | .t (.hpt c off),v=>c %64≠63/\∃g,J g=some (OB+(OB+c),0)/\v= .pointer (some ⟨g,off,none⟩)
 | .t (.opt t p),v=>t %64≠63/\((p=none/\v= .pointer none)\/∃i,p=some i/\∃g,J g=some (OB+(OB+cd t i),0)/\v= .pointer (some ⟨g,0,none⟩))
 | .imm l,v=>∃g p,v= .pointer (some ⟨g,p,none⟩)/\∀(j:Nat) (d:D),l[j]? =some d->∃u,I g (p+j)=some u/\RepD I d u
 |_,_=>False
theorem Stat.rep{mE:Mem}{Z:OwnM}{s:Nat}(I:Mle mE m)(W:∀g c,c %64≠63->Z g=some (OB+(OB+c),0)->o g=some (OB+(OB+c),0)){x:A}(h:Stat mE Z x v):RepA m w o S s x v:=by(cases x with|any=>trivial|imm l=>obtain⟨g,p,e,h⟩:=h;exact⟨g,p,e,λj d hj=>let⟨u,a,b⟩:=h j d hj;⟨u,I _ _ _ a,b.mono I⟩⟩|t x=>(cases x with|d x=>exact RepD.mono I h|agg l=>obtain⟨vs,e,h⟩:=h;exact⟨vs,e,h.mono I⟩|hpt c off=>obtain⟨hc,g,U,J⟩:=h;exact⟨g,W g c hc U,J⟩|opt t p=>obtain⟨hc,h⟩:=h;exact h.imp id λ⟨i,e,g,U,J⟩=>⟨i,e,g,W g _ (by unfold cd;omega) U,J⟩|_=>exact h.elim)|_=>exact h.elim)
structure Head(bs:List Nat)(N:Nat)(r:Loop)(mE:Mem)(oE:OwnM)(L0:SL):Prop where
 size:r.tmps.size=N
 st:∀s,s<OB->s∉bs->Stat mE oE (gt L0 s) (r.tmps.getD s undef)
 bx:∀(i b:Nat),bs[i]? =some b->∃g,r.tmps.getD b undef= .pointer (some ⟨g,0,none⟩)/\oE g=some (OB+(OB+cd 63 (i+1)),0)
 lo:∀s,OB<=s->gt L0 s= .any\/(gt L0 s= .free/\s<HK)
def LR(u:List Nat)(args:List A)(f:Nat->A)(bs:List Nat)(cs:List (List T))(L0:SL):SL:=u.zip args++((HK,.hp f)::(bs.zip (cs.map A.box)++L0))
theorem zTj(x:Nat)(r:List Nat)(j:Nat):posN (x::r) j=if x=j then some 0 else(posN r j).map (· +1):=rfl
theorem zRw:∀(u:List Nat) (xs:List A) (R:SL) (s:Nat),u.length=xs.length->gt (u.zip xs++R) s=match posN u s with|some i=>xs.getD i .any|none=>gt R s
 |[],xs,R,s,_=>by simp[posN]
 |k::u,[],R,s,h=>by cases h
 |k::u,x::xs,R,s,h=>by show gt ((k,x)::(u.zip xs++R)) s=_;rw[zQ,upd,zRw u xs R s (by simpa using h)];rw[zTj];grind
theorem zSS:∀(I:List Nat) (vs:List Value) (t:Array Value) (s:Nat),I.Nodup->(∀p∈I,p<t.size)->I.length=vs.length->
 ((I.zip vs).foldl (λ(u:Array Value) x=>u.setIfInBounds x.1 x.2) t).size=t.size/\((I.zip vs).foldl (λ(u:Array Value) x=>u.setIfInBounds x.1 x.2) t).getD s undef=match posN I s with|some i=>vs.getD i undef|none=>t.getD s undef
 |[],vs,t,s,_,_,_=>by simp[posN]
 |p::I,[],t,s,_,_,h=>by cases h
 |p::I,v::vs,t,s,U,hp,h=>by rw[List.nodup_cons]at U;obtain⟨W,Z⟩:=zSS I vs (t.setIfInBounds p v) s U.2 (λq J=>by simpa using hp q (vM _ J)) (by simpa using h);refine⟨by simpa using W,?_⟩;show(((I.zip vs).foldl (λ(u:Array Value) x=>u.setIfInBounds x.1 x.2) (t.setIfInBounds p v))).getD s undef=_;rw[Z];rw[zTj];have hpt:=hp p (by simp);by_cases e:p=s;(subst e;rw[if_pos rfl];(cases J:posN I p with|none=>simp[wJ,hpt]|some i=>exact absurd (wD (zBG J)) U.1));(rw[if_neg e];(cases J:posN I s with|none=>simp[wJ,uP,e]|some i=>simp))
theorem zWY(args ins:List A)(f:Nat->A)(c:Nat):argH args ins f (OB+(OB+c))=san (f c):=by unfold argH;rw[if_neg (by omega),<-qX,if_pos (wV _ _),wO]
theorem hz_n{f z:Nat->A}{c:Nat}(h:c %64≠63):hz f z c=f c:=by unfold hz;rw[if_neg h]
theorem hz_z{f z:Nat->A}(i:Nat):hz f z (cd 63 i)=z i:=by unfold hz;rw[if_pos (zCt i),c63_div]
theorem zA_0{l:Nat}{u:Obj}{J:Mem}{I:OwnM}{cs:List (List T)}:zA l u J I cs 0= .rcd l u J I:=rfl
theorem zA_s{l:Nat}{u:Obj}{J:Mem}{I:OwnM}{cs:List (List T)}{i:Nat}:zA l u J I cs (i+1)=match cs[i]? with|some c=> .box c|none=> .free:=by unfold zA;grind
structure NC(f:Nat->A):Prop extends NZ f where
 c:∀c l,san (f c)= .box l->nzC l
theorem zXF{bs:List Nat}(γ:bs.Nodup)(J:∀b∈bs,b<OB){l:Nat}{mE:Mem}{oE:OwnM}{S S':Nat->A}{vs:Nat->Value}{f:Nat->A}{cs:List (List T)}{u:Obj}(hf:NC f)(δ:cs.length=bs.length)(α:∀c∈cs,nzC c)
(hl:o l=none)(hm:∀p,m l p=none)(hu:w.heap[l]? =some u)(ε:Mle mE m)(β:∀g c,oE g=some (OB+(OB+c),0)->toY bs l o g=some (OB+(OB+c),0))
(hh:∀c,∃v,RepA m w o S (OB+(OB+c)) (san (f c)) v)(hb:∀(i b:Nat),bs[i]? =some b->∃(c:List T) (v:Value),cs[i]? =some c/\RepA m w o S b (.box c) v)(c:Nat)(v:Value):
 RepA m w (toY bs l o) S' (OB+(OB+c)) (san (hz f (zA l u mE oE cs) c)) v:=by
 have U:∀g c k,c %64=63->o g≠some (OB+(OB+c),k):=λg c k I=>by obtain⟨v,this⟩:=hh c;rw[hf.z c I]at this;exact this g k
 have V:=VW.toY γ J hl U
 by_cases I:c %64=63
 · obtain⟨i,rfl⟩:∃i,c=cd 63 i:=⟨c/64,by unfold cd;omega⟩;rw[hz_z];(cases i with|zero=>rw[zA_0];exact⟨(zLC J hl).2 (.inl ⟨rfl,rfl⟩),hm,hu,ε,β⟩|succ i=>rw[zA_s];(cases hi:cs[i]? with|none=>intro g k h;rcases(zLC J hl).1 h with⟨_,h⟩|⟨_,h⟩|⟨i',b',W,h,_⟩;(injection h with h _;unfold cd at h;omega);exact U g _ k (zCt _) h;(have h:OB+(OB+cd 63 (i+1))=OB+(OB+cd 63 (i'+1)):=h;(have:i=i':=by unfold cd at h;omega);subst this;have h2:=(wF.1 (zBG W)).1;rw[List.getElem?_eq_none_iff]at hi;omega)|some cc=>(have Z:i<bs.length:=by rw[<-δ];exact(wF.1 hi).1);obtain⟨c2,v2,W,g,h2,h3⟩:=hb i _ (wB Z);rw[hi]at W;cases W;exact⟨g,λh=>absurd h (by omega),zRv (λg c I=>(V.hh g c 0 I).1) (λg k=>(V.hb i _ g k (wB Z)).1) (α cc (wD hi)) h3⟩))
 · rw[hz_n I];obtain⟨v0,h⟩:=hh c;rcases zDR (f c)with⟨l1,hl1⟩|hl1|hl1|⟨l1,hl1⟩|⟨b,u,mE,oE,hl1⟩;(have hn:=hf.c c l1 hl1;rw[hl1]at h⊢;obtain⟨g,_,h3⟩:=h;exact⟨g,λh=>absurd h (by omega),zRv (λg c I=>(V.hh g c 0 I).1) (λg k=>(V.hh g c k I).1) hn h3⟩);(rw[hl1]at h⊢;exactλg k e=>h g k ((V.hh g c k I).2 e));rw[hl1];trivial;(rw[hl1]at h⊢;obtain⟨g,k1,k2⟩:=h;exact⟨g,(V.hh g c 0 I).1 k1,k2⟩);exact absurd hl1 (hf.r c _ _ _ _)
theorem yld_mk{bs U:List Nat}{l:Nat}{r:Loop}{mE:Mem}{oE:OwnM}{L0:SL}{args:List A}{f f':Nat->A}{cs cs':List (List T)}{b:Bool}
(hN:N<=OB)(μ:bs.Nodup)(hbN:∀b∈bs,b<N)(hpn:U.Nodup)(hpN:∀p∈U,p<N)(hpb:∀p∈U,p∉bs)(hpl:U.length<=OB)(H:Head bs N r mE oE L0)(hr:r.state= .ready)(hpd:r.pending=none)(hps:r.params=U.toArray)
(hal:args.length=U.length)(hap:args.all A.plain=true)(hf:NC f)(hf':NC f')(hcl:cs.length=bs.length)(hcl':cs'.length=bs.length)(hcc:∀c∈cs,nzC c)(hcc':∀c∈cs',nzC c)
(hA:qG P bs N r.assign (λe L1=>e= .normal/\qG P bs N r.body (λe L2=>((e= .normal/\b=true)\/(e= .ret/\b=false))/\gt L2 HK= .hp f'/\∀(i s:Nat),bs[i]? =some s->∃c,cs'[i]? =some c/\gt L2 s= .box c) L1) (LR U args f bs cs L0)):
 YLD P l args (hz f (zA l (.loop r) mE oE cs)) (hz f' (zA l (.loop (if b then r else{r with state:= .done,pending:=some .ret})) mE oE cs')) b:=by
 intro W m o I hsat htbl hlt ε hsz δ
 have γ:∀b∈bs,b<OB:=λb h=>wN (hbN b h) hN
 have hDK:DK∉bs:=λh=>by have:=γ _ h;unfold DK at this;unfold OB at this;omega
 obtain⟨k1,k2,k3,k4,k5⟩:RepA m W o (argH args [] (hz f (zA l (.loop r) mE oE cs))) (OB+(OB+cd 63 0)) (.rcd l (.loop r) mE oE) (I.getD (OB+(OB+cd 63 0)) undef):=by have h:=δ (OB+(OB+cd 63 0));rw[zWY,hz_z,zA_0]at h;exact h
 have hheap:∀c,c %64≠63->RepA m W o (argH args [] (hz f (zA l (.loop r) mE oE cs))) (OB+(OB+c)) (san (f c)) (I.getD (OB+(OB+c)) undef):=λc hc=>by have h:=δ (OB+(OB+c));rw[zWY,hz_n hc]at h;exact h
 have hzb:∀i,RepA m W o (argH args [] (hz f (zA l (.loop r) mE oE cs))) (OB+(OB+cd 63 (i+1))) (match cs[i]? with|some c=> .box c|none=> .free) (I.getD (OB+(OB+cd 63 (i+1))) undef):=λi=>by have h:=δ (OB+(OB+cd 63 (i+1)));rw[zWY,hz_z,zA_s]at h;(cases hi:cs[i]? with|none=>rw[hi]at h;exact h|some c=>rw[hi]at h;exact h)
 have V:=VW.ofY (o:=o) μ γ
 have hof:∀g q,ofY bs o g=some q->o g≠none:=λg q h=>by rcases zCC.1 h with⟨_,_,_,h⟩|⟨_,_,h⟩<;>rw[h]<;>simp
 have Z:ofY bs o l=none:=by(cases hq:ofY bs o l with|none=>rfl|some q=>rcases zCC.1 hq with⟨c,hc,h1,h2⟩|⟨i,_,h2⟩;(rw[k1]at h2;injection h2 with h2;rw[<-h2]at h1;have h1:OB+(OB+cd 63 0)=OB+(OB+c):=h1;(have:c=cd 63 0:=by omega);exact absurd (by rw[this];exact zCt 0) hc);(rw[k1]at h2;injection h2 with h2;injection h2 with h2 _;unfold cd at h2;omega))
 have β:l<W.heap.size:=hlt l _ k1
 have hvl:U.length=I.toList.length:=by rw[<-hal,<-hsz];simp
 obtain⟨tsz,_⟩:=zSS U I.toList r.tmps 0 hpn (λp hp=>by rw[H.size];exact hpN p hp) hvl
 have tget:=λs=>(zSS U I.toList r.tmps s hpn (λp hp=>by rw[H.size];exact hpN p hp) hvl).2
 have hfold:((r.params.zip I).foldl (λtmps (t,a)=>tmps.setIfInBounds t a) r.tmps)=(U.zip I.toList).foldl (λ(tmps:Array Value) x=>tmps.setIfInBounds x.1 x.2) r.tmps:=by rw[hps,<-Array.foldl_toList,Array.toList_zip]
 have ξ:∀{ks:List Nat} {s i:Nat},posN ks s=some i->s∈ks:=λh=>wD (zBG h)
 have gLR:∀s,gt (LR U args f bs cs L0) s=match posN U s with|some i=>args.getD i .any|none=>if s=HK then .hp f else match posN bs s with|some i=>(cs.map A.box).getD i .any|none=>gt L0 s:=by intro s;show gt (U.zip args++((HK,.hp f)::(bs.zip (cs.map A.box)++L0))) s=_;rw[zRw _ _ _ _ hal.symm,zQ,upd,zRw _ _ _ _ (by rw[wM,hcl])]
 have hHK:∀{ks:List Nat} {i:Nat},(∀k∈ks,k<OB)->posN ks HK≠some i:=λh e=>by have:=h _ (ξ e);unfold HK OB at this;omega
 have hpO:∀p∈U,p<OB:=λp h=>wN (hpN p h) hN
 have ψ:Low (gt (LR U args f bs cs L0)):=by intro t ht;rw[gLR];(have hno:∀{ks:List Nat},(∀k∈ks,k<OB)->posN ks t=none:=λ{ks} h=>by(cases hq:posN ks t with|none=>rfl|some i=>have:=h _ (ξ hq);unfold OB OB2 at*;omega));rw[hno hpO,hno γ];simp only;rw[if_neg (by unfold HK OB2 at*;omega)];(exact(H.lo t (by unfold OB OB2 at*;omega)).resolve_right λh=>by have:=h.2;unfold HK OB2 at*;omega)
 have hkR:gt (LR U args f bs cs L0) HK= .hp f:=by rw[gLR];(cases hq:posN U HK with|some i=>exact absurd hq (hHK hpO)|none=>simp)
 have I0:Inv W m (rs bs (ofY bs o)) ⟨λg=>ofY bs o g≠none,[]⟩ bs (hx (gt (LR U args f bs cs L0))) {tmps:=(U.zip I.toList).foldl (λ(tmps:Array Value) x=>tmps.setIfInBounds x.1 x.2) r.tmps,defers:=[]} W m (ofY bs o):=by refine⟨.refl _ _,hsat,.refl _,λ_ _ _=>rfl,λg q h=> .inl (by show ofY bs o g≠none;rw[h];simp),λg q h=> ?_,λg g' q h h'=> ?_,λs _ g h=>(zP1.1 h).2,λs=> ?_,rfl,htbl,by rw[tsz,H.size];exact hN,λg j h=>⟨?_,.refl _ _⟩⟩;rcases zCC.1 h with⟨_,_,_,h⟩|⟨_,_,h⟩<;>exact hlt g _ h;(rcases zCC.1 h with⟨c,c1,c2,h⟩|⟨i,c2,h⟩<;>rcases zCC.1 h' with⟨c',c1',c2',h'⟩|⟨i',c2',h'⟩;exact ε g g' q h h';have:=γ _ (wD c2');omega;have:=γ _ (wD c2);omega;(have e1:=zCZ μ c2;rw[zCZ μ c2']at e1;cases e1;exact ε g g' _ h h'));(rcases wR s OB2 with h2|h2;(rw[zBx h2,gLR];show RepA m W (ofY bs o) _ s _ (((U.zip I.toList).foldl (λ(tmps:Array Value) x=>tmps.setIfInBounds x.1 x.2) r.tmps).getD s undef);rw[tget s];(cases hp:posN U s with|some i=>simp only;have hi:i<U.length:=(wF.1 (zBG hp)).1;have h:=δ i;(have hiO:i<OB:=by have:=hpO s (ξ hp);omega);(have e:argH args [] (hz f (zA l (.loop r) mE oE cs)) i=args.getD i .any:=by unfold argH;rw[if_pos hiO]);rw[e]at h;(have hpl:(args.getD i .any).plain=true:=by rw[wK,wB (by omega)];exact wI.1 hap _ (vX _));have:=zG2 (s':=s) (S':=hx (gt (LR U args f bs cs L0))) (w':=W) (o':=ofY bs o) hpl h;simpa using this|none=>simp only;by_cases e:s=HK;rw[if_pos e];trivial;(rw[if_neg e];(cases hb:posN bs s with|none=>simp only;by_cases hs:s<OB;((have hsb:s∉bs:=λhm=>by obtain⟨i,hi⟩:=vZ hm;rw[zCZ μ hi]at hb;cases hb);exact(H.st s hs hsb).rep k4 λg c hc h=>(V.hh g c 0 hc).2 (k5 g c h));(rcases H.lo s (by omega)with e0|⟨e0,e1⟩;rw[e0];trivial;(rw[e0];intro g k h;rcases zCC.1 h with⟨c,_,q1,_⟩|⟨i,q1,_⟩;(have q1:s=OB+(OB+c):=q1;unfold HK at e1;unfold OB at q1;omega);exact hs (γ s (wD q1))))|some i=>simp only;have κ:=zBG hb;have hi:i<bs.length:=(wF.1 κ).1;(have hic:i<cs.length:=by omega);obtain⟨g0,q1,q2⟩:=H.bx i s κ;have ν:=hzb i;rw[wB hic]at ν;obtain⟨g,_,q3⟩:=ν;have:g=g0:=ε g g0 _ q3.1 (k5 _ _ q2);subst this;(have e2:(cs.map A.box).getD i .any= .box cs[i]:=by rw[wK,wG,wB hic];rfl);rw[e2,q1];exact⟨g,λ_=>rfl,zRv (λg c hc=>(V.hh g c 0 hc).2) (λg k=>(V.hb i s g k κ).2) (hcc _ (vX _)) q3⟩))));(obtain⟨c,rfl⟩:∃c,s=OB+(OB+c):=⟨s-OB2,by rw[<-qX];omega⟩;rw[zDO ψ hkR];by_cases hc:c %64=63;(rw[hf.z c hc];intro g k h;rcases zCC.1 h with⟨c',h1,h2,_⟩|⟨i,h1,_⟩;(have h2:OB+(OB+c)=OB+(OB+c'):=h2;(have:c=c':=by omega);exact h1 (by rw[<-this];exact hc));(have:=γ _ (wD h1);have this:OB+(OB+c)<OB:=this;omega));(have h:=hheap c hc;rcases zDR (f c)with⟨l1,hl1⟩|hl1|hl1|⟨l1,hl1⟩|⟨b,u,mE,oE,hl1⟩;(have hn:=hf.c c l1 hl1;rw[hl1]at h⊢;obtain⟨g,_,h3⟩:=h;exact⟨g,λh=>absurd h (by omega),zRv (λg c hc=>(V.hh g c 0 hc).2) (λg k=>(V.hh g c k hc).2) hn h3⟩);(rw[hl1]at h⊢;exactλg k e=>h g k ((V.hh g c k hc).1 e));rw[hl1];trivial;(rw[hl1]at h⊢;obtain⟨g,q1,q2⟩:=h;exact⟨g,(V.hh g c 0 hc).2 q1,q2⟩);exact absurd hl1 (hf.r c _ _ _ _))));(rcases wR (OB+j) OB2 with h3|h3;exact .inl ((zP1.1 h).1 (wV _ _) h3);exact .inr h3)
 have π:∀g,o g=none->ofY bs o g=none:=λg h=>by(cases hq:ofY bs o g with|none=>rfl|some q=>exact absurd h (hof g q hq))
 refine⟨r.fn,_,r.assign,r.body,run_yield k3 (by rw[hsz,hal,hps];simp),λn=>roundIn_of_wpIn trivial ?_⟩
 rw[hfold]
 have hw:WideP bs (Fence.wide.inRound l):=⟨.inRound l,λh=>absurd h hDK⟩
 refine wpIn_mono (hA _ n hw _ _ _ _ _ W ⟨by rw[tsz,H.size],ψ,m,ofY bs o,I0⟩) ?_
 rintro e a1 w1 ⟨L1,⟨rfl,hB⟩,hS1⟩
 obtain⟨hN1,hlo1,m1,o1,I1⟩:=hS1
 have e1:w1.heap[l]? =W.heap[l]? :=I1.same.block l β λh=>h Z
 have τ:∀g,g<W.heap.size->ofY bs o g=none->o1 g=none:=λg hg h=>by(cases hq:o1 g with|none=>rfl|some q=>rcases I1.own g q hq with h1|h1;exact absurd h h1;omega)
 have hm1:∀g,g<W.heap.size->ofY bs o g=none->m1 g=m g:=λg hg h=>I1.old g hg λh1=>h1 h
 refine⟨_,run_beginRound (e1.trans k3) hr,?_⟩
 have I1':=I1.at (τ l β Z) (λp=>by rw[hm1 l β Z];exact k2 p) (.loop {r with state:= .busy})
 have hl1:l<w1.heap.size:=wN β I1.same.size
 refine wpIn_mono (hB _ n hw _ _ _ _ a1 _ ⟨hN1,hlo1,m1,o1,I1'⟩) ?_
 rintro e a2 w2 ⟨L2,⟨he,hk,ν⟩,hS2⟩
 obtain⟨hN2,hlo2,m2,o2,I2⟩:=hS2.st hDK
 have σ:(w1.putObj l (.loop {r with state:= .busy})).heap.size=w1.heap.size:=uT
 have e2:w2.heap[l]? =some (.loop {r with state:= .busy}):=(I2.same.block l (by rw[σ];exact hl1) λh=>h (τ l β Z)).trans (World.putObj_heap_same hl1)
 have φ:∀g,g<W.heap.size->ofY bs o g=none->o2 g=none:=λg hg h=>by(cases hq:o2 g with|none=>rfl|some q=>rcases I2.own g q hq with h1|h1;exact absurd (τ g hg h) h1;(rw[σ]at h1;have:=I1.same.size;omega))
 have hm2:∀g,g<W.heap.size->ofY bs o g=none->m2 g=m g:=λg hg h=>by rw[I2.old g (by rw[σ];exact wN hg I1.same.size) λh1=>h1 (τ g hg h)];exact hm1 g hg h
 have hbk:∀g,g<W.heap.size->g≠l->ofY bs o g=none->w2.heap[g]? =W.heap[g]? :=λg hg ι h=>by rw[I2.same.block g (by rw[σ];exact wN hg I1.same.size) (λh1=>h1 (τ g hg h)),wZ ι];exact I1.same.block g hg λh1=>h1 h
 have ω:W.heap.size<=w2.heap.size:=vR I1.same.size (by rw[<-σ];exact I2.same.size)
 have hpin:∀s,(s∈bs\/OB<=s)->∀g,ofY bs o g=some (s,0)->o2 g=some (s,0):=by intro s hs g h;have key:∀(O:OwnM),O g=some (s,0)->(OB<=s->OB2<=s)->rs bs O g=some (s,0):=λO h1 h2=>zP1.2 ⟨λh3 h4=>by have h3:OB<=s:=h3;have h4:s<OB2:=h4;have:=h2 h3;omega,h1⟩;(have h2:OB<=s->OB2<=s:=λhs=>by rcases zCC.1 h with⟨c,_,h1,_⟩|⟨i,h1,_⟩;(have h1:s=OB+(OB+c):=h1;rw[h1,<-qX];exact wV _ _);(have:=γ s (wD h1);omega));exact I2.pinned s hs g (key _ (I1.pinned s hs g (key _ h h2)) h2)
 have fin:∀u:Obj,u= .loop (if b then r else{r with state:= .done,pending:=some .ret})->∃(v:Value) (m':Mem) (o':OwnM) (S':Nat->A) (a':Act) (ρ:Nat),Ending.returned (.bool b)= .returned v/\Inv W m o ⟨λg=>o g≠none,[]⟩ (zGe 0) S' a' (w2.putObj l u) m' o'/\RepA m' (w2.putObj l u) o' S' ρ (.t (.d (.lit (.bool b)))) v/\(∀(i:Nat) (x:A),([]:List A)[i]? =some x->S' (OB+i)=x)/\(∀c,S' (OB+(OB+c))=san (hz f' (zA l (.loop (if b then r else{r with state:= .done,pending:=some .ret})) mE oE cs') c))/\ρ<OB:=by rintro u hu;have I3:=I2.at (φ l β Z) (λp=>by rw[hm2 l β Z];exact k2 p) u;have hl2:l<w2.heap.size:=wN β ω;have ζ:=λg q=>zLC (bs:=bs) (l:=l) (o:=o2) γ (φ l β Z) (g:=g) (q:=q);(have hpt:∀g s,OB<=s->o g=some (s,0)->toY bs l o2 g=some (s,0)/\((g=l)\/(g≠l/\zAX W (w2.putObj l u) g)):=by intro g s hs h;have ι:g≠l->g<W.heap.size->(w2.putObj l u).heap[g]? =w2.heap[g]? /\(w1.putObj l (.loop {r with state:= .busy})).heap[g]? =w1.heap[g]? :=λh _=>⟨wZ h,wZ h⟩;have θ:=hlt g _ h;rcases wR s OB2 with h2|h2;(have h3:=δ s;(have e:argH args [] (hz f (zA l (.loop r) mE oE cs)) s= .free:=by unfold argH;rw[if_neg (by omega),if_neg (by omega)];rfl);rw[e]at h3;exact absurd h (h3 g 0));(obtain⟨c,rfl⟩:∃c,s=OB+(OB+c):=⟨s-OB2,by rw[<-qX];omega⟩;by_cases hc:c %64=63;(obtain⟨i,rfl⟩:∃i,c=cd 63 i:=⟨c/64,by unfold cd;omega⟩;(cases i with|zero=>have:g=l:=ε g l _ h k1;exact⟨(ζ g _).2 (.inl ⟨this,rfl⟩),.inl this⟩|succ i=>have η:=hzb i;(cases hi:cs[i]? with|none=>rw[hi]at η;exact absurd h (η g 0)|some c=>rw[hi]at η;(have κ:i<bs.length:=by rw[<-hcl];exact(wF.1 hi).1);have hbi:bs[i]? =some bs[i]:=wB κ;have h5:=(V.hb i _ g 0 hbi).2 h;have h6:=hpin _ (.inl (vX κ)) g h5;(have α:g≠l:=λe=>by subst e;rw[Z]at h5;cases h5);refine⟨(ζ g _).2 (.inr (.inr ⟨i,_,zCZ μ hbi,rfl,h6⟩)),.inr ⟨α,?_⟩⟩;obtain⟨g1,_,q1,_,csq,Eq,q3,_⟩:=η;have:g1=g:=ε g1 g _ q1 h;subst this;obtain⟨c',_,q4⟩:=ν i _ hbi;have h7:=I3.slots bs[i];rw[yM q4 (by simp)]at h7;obtain⟨g2,_,q5,_,csr,Er,q6,_⟩:=h7;have:g2=g1:=I2.inj g2 g1 _ q5 h6;subst this;intro cs1 E1 f1 q7;rw[q3]at q7;cases q7;obtain⟨cs3,f3,r4,r5⟩:=I1.same.shape g2 _ _ _ q3;rw[<-(ι α θ).2]at r4;obtain⟨cs4,f4,r6,r7⟩:=I2.same.shape g2 _ _ _ r4;rw[<-(ι α θ).1,q6]at r6;cases r6;exact⟨csr,q6,r7.trans r5⟩)));(have h5:=(V.hh g c 0 hc).2 h;have h6:=hpin _ (.inr (by omega)) g h5;(have α:g≠l:=λe=>by subst e;rw[Z]at h5;cases h5);refine⟨(ζ g _).2 (.inr (.inl ⟨h2,h6⟩)),.inr ⟨α,?_⟩⟩;have hrs:∀(O:OwnM),O g=some (OB+(OB+c),0)->rs bs O g=some (OB+(OB+c),0):=λO h1=>zP1.2 ⟨λh3 h4=>by have h4:OB+(OB+c)<OB2:=h4;omega,h1⟩;have a1:=(I1.shps g _ (hrs _ h5)).2;have h51:=I1.pinned _ (.inr (wV _ _)) g (hrs _ h5);have a2:=(I2.shps g _ (hrs _ h51)).2;exact(a1.trans (.of_eq (ι α θ).2)).trans (a2.trans (.of_eq (ι α θ).1)))));have hon:∀g,¬o g≠none->o g=none:=λg h=>Classical.byContradiction h;(have hnl:∀g,o g=none->g≠l:=λg h e=>by subst e;rw[k1]at h;cases h);(have hown:∀g q,o2 g=some q->o g≠none\/W.heap.size<=g:=by intro g q h;rcases wR g W.heap.size with h1|h1;(refine .inl λe=> ?_;rw[φ g h1 (π g e)]at h;cases h);exact .inr h1);let S':Nat->A:=λt=>if OB2<=t then san (hz f' (zA l (.loop (if b then r else{r with state:= .done,pending:=some .ret})) mE oE cs') (t-OB2))else .any;(have hS':∀c,S' (OB+(OB+c))=san (hz f' (zA l (.loop (if b then r else{r with state:= .done,pending:=some .ret})) mE oE cs') c):=λc=>by show(if OB2<=OB+(OB+c)then _ else _)=_;rw[<-qX,if_pos (wV _ _),wO]);(have χ:∀g c k,c %64=63->o2 g≠some (OB+(OB+c),k):=λg c k hc=>by have:=I2.slots (OB+(OB+c));rw[zDO hlo2 hk,hf'.z c hc]at this;exact this g k);refine⟨.bool b,m2,toY bs l o2,S',{tmps:= #[],defers:=[]},0,rfl,⟨⟨I2.same.os.trans I1.same.os,I2.same.tape.trans I1.same.tape,I2.same.output.trans I1.same.output,by rw[uT];exact ω,λk hk1 hn=> ?_,λk=> ?_⟩,I3.sat,I1.mono.trans I2.mono,λb hb hn=>hm2 b hb (π b (hon b hn)),λg q h=> ?_,λg q h=> ?_,λg g' q h h'=> ?_,λs hs g h=>(hpt g s (hs.resolve_left λh=>by simp[zGe]at h) h).1,λs=> ?_,rfl,htbl,vI _,λg j h=>⟨.inr ?_,?_⟩⟩,.lit _ rfl,λi x h=>by simp at h,hS',by decide⟩;(have h1:=hon k hn;rw[wZ (hnl k h1)];exact hbk k hk1 (hnl k h1) (π k h1));(by_cases e:k=l;(subst e;intro cs E f h;rw[k3]at h;cases h);exact((I1.same.shape k).trans (zAX.of_eq (wZ e)).w).trans ((I2.same.shape k).trans (zAX.of_eq (wZ e)).w));(rcases(ζ g q).1 h with⟨rfl,_⟩|⟨_,h⟩|⟨_,_,_,_,h⟩;exact .inl (by show o g≠none;rw[k1];simp);exact hown g _ h;exact hown g _ h);(rw[uT];rcases(ζ g q).1 h with⟨rfl,_⟩|⟨_,h⟩|⟨_,_,_,_,h⟩;exact hl2;exact I2.lt g _ h;exact I2.lt g _ h);(rcases(ζ g q).1 h with⟨e1,e2⟩|⟨e2,h⟩|⟨i,b1,e1,e2,h⟩<;>rcases(ζ g' q).1 h' with⟨e1',J⟩|⟨J,h'⟩|⟨i',b1',e1',J,h'⟩;rw[e1,e1'];rw[e2]at h';exact absurd h' (χ g' _ 0 (zCt 0));(rw[e2]at J;have J:OB+(OB+cd 63 0)=OB+(OB+cd 63 (i'+1)):=J;unfold cd at J;omega);rw[J]at h;exact absurd h (χ g _ 0 (zCt 0));exact I2.inj g g' q h h';(obtain⟨q1,q2⟩:=q;have J:q1=_:=J;subst J;exact absurd h (χ g _ q2 (zCt _)));(rw[J]at e2;have e2:OB+(OB+cd 63 0)=OB+(OB+cd 63 (i+1)):=e2;unfold cd at e2;omega);(obtain⟨q1,q2⟩:=q;have e2:q1=_:=e2;subst e2;exact absurd h' (χ g' _ q2 (zCt _)));(rw[e2]at J;(have:i=i':=by unfold cd at J;omega);subst this;have a1:=zBG e1;rw[zBG e1']at a1;cases a1;exact I2.inj g g' _ h h'));(show RepA m2 _ _ S' s (S' s) _;by_cases h2:OB2<=s;(obtain⟨c,rfl⟩:∃c,s=OB+(OB+c):=⟨s-OB2,by rw[<-qX];omega⟩;rw[hS'];refine zXF μ γ (S:=hx (gt L2)) (vs:=λ_=>undef) hf' hcl' hcc' (φ l β Z) (λp=>by rw[hm2 l β Z];exact k2 p) (by rw[<-hu];exact World.putObj_heap_same hl2) (k4.trans (I1.mono.trans I2.mono)) (λg c h=>(hpt g _ (wV _ _) (k5 g c h)).1) (λc=> ?_) (λi s hi=> ?_) c _;(have h:=I3.slots (OB+(OB+c));rw[zDO hlo2 hk]at h;exact⟨_,h⟩);(obtain⟨c',q3,q4⟩:=ν i s hi;have h7:=I3.slots s;rw[yM q4 (by simp)]at h7;exact⟨c',_,q3,h7⟩));((have e:S' s= .any:=by show(if OB2<=s then _ else _)=_;rw[if_neg h2]);rw[e];trivial));(rcases wR (OB+j) OB2 with h3|h3;(have h4:=δ (OB+j);(have e:argH args [] (hz f (zA l (.loop r) mE oE cs)) (OB+j)= .free:=by unfold argH;rw[if_neg (by omega),if_neg (by omega)];rfl);rw[e]at h4;exact absurd h (h4 g 0));exact h3);(rcases(hpt g _ (wV _ _) h).2 with e|⟨_,h⟩;(subst e;intro cs E f h;rw[k3]at h;cases h);exact h)
 rcases he with⟨rfl,hb⟩|⟨rfl,hb⟩
 · refine⟨_,_,run_endRound none e2,?_⟩;have:=fin (.loop {({r with state:= .busy}:Loop)with state:= .ready,pending:=none}) (by rw[hb,if_pos rfl];cases r;simp only at hr hpd;subst hr hpd;rfl);rw[hb]at this⊢;exact this
 · refine⟨_,_,run_endRound (some .ret) e2,?_⟩;have:=fin (.loop {({r with state:= .busy}:Loop)with state:= .done,pending:=some .ret}) (by rw[hb];rfl);rw[hb]at this⊢;exact this
end Go.Proofs.YtocolhfjpadaoaaGreatDoor
