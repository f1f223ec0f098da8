/-
  Lemmas of this claim, joined.
-/
import Derived.Test.YtocolhfjpadaoaaGreatDoorR07
import Derived.Test.YtocolhfjpadaoaaGreatDoorChecked
set_option linter.unusedVariables false
set_option linter.unusedSimpArgs false
set_option linter.constructorNameAsVariable false
namespace Go.Proofs.YtocolhfjpadaoaaGreatDoor
open Go
abbrev tT:=@List.mem_cons_self
abbrev tY:=@Array.toArray_toList
end Go.Proofs.YtocolhfjpadaoaaGreatDoor
namespace Go.Proofs.YtocolhfjpadaoaaGreatDoor
open Go Go.RowKit
variable {P:Program}{w0:World}{w:World}{m0:Mem}{m:Mem}{o0:OwnM}{o:OwnM}{G:GD}{pins:List Nat}{N:Nat}{a:Act}{op:Oper}{S:Nat->A}{M:Nat->A}{L:SL}{v:Value}{W:World}{Q:Mem}{X:OwnM}
structure Pr where
 {τ : Type}
 x : τ
 y : τ
abbrev PL:=List Pr
def okL:PL->Prop
 |[]=>True
 |⟨x,y⟩::r=>x=y/\okL r
theorem zCc:∀{a b:PL},okL (a++b)->okL a/\okL b
 |[],_,h=>⟨trivial,h⟩
 |_::_,_,h=>⟨⟨h.1,(zCc h.2).1⟩,(zCc h.2).2⟩
abbrev bp(b:Bool):Pr:=⟨b,true⟩
def wkD(x y:D):PL:=match x,y with
 | .lit (.slice none 0 0),.seq k l=>[⟨l,[]⟩]
 | .lit (.func (.func f) ⟨[]⟩ ⟨[]⟩),.clo g l=>[⟨f,g⟩,⟨l,[]⟩]
 |x,y=>[⟨x,y⟩]
theorem wkD_ok{x y:D}(h:okL (wkD x y)):WkD x y:=by unfold wkD at h;split at h;(have h:_=[]:=h.1;subst h;exact .nil _);(obtain⟨u,I,_⟩:=h;subst u I;exact .fn _);(have h:=h.1;subst h;exact .refl _)
def wkL:List D->List D->PL
 |[],[]=>[]
 |x::r,y::s=>wkD x y++wkL r s
 |_,_=>[bp false]
theorem zPX:∀{l l':List D},okL (wkL l l')->WkL l l'
 |[],[],_=> .nil
 |x::r,y::s,h=> .cons (wkD_ok (zCc h).1) (zPX (zCc h).2)
 |[],y::s,h=>Bool.noConfusion h.1
 |x::r,[],h=>Bool.noConfusion h.1
def wkT(x y:T):PL:=match x,y with
 | .own E k l,.d (.seq U u)=>[⟨k,U⟩,⟨l,u⟩]
 | .d (.lit (.slice none 0 0)),.own E k l=>[⟨l,[]⟩]
 | .d (.lit (.slice none 0 0)),.view j off E k n=>[⟨n,0⟩]
 | .d (.lit (.pointer none)),.opt t none=>[]
 | .hpt c off,.opt t (some i)=>[⟨c,cd t i⟩,⟨off,0⟩]
 | .view j off E k n,.view W I 0 U n'=>[⟨j,W⟩,⟨off,I⟩,⟨k,U⟩,⟨n,n'⟩]
 | .d x,.d y=>wkD x y
 | .agg l,.agg u=>wkL l u
 | .ags l Z,.ags u J=>⟨Z,J⟩::wkL l u
 | .ags l Z,.agg u=>wkL l u
 | .agg l,.ags u [(i,E,k,r)]=>⟨r,[]⟩::⟨l[i]?,some (.lit (.slice none 0 0))⟩::wkL l u
 |x,.any=>[⟨x.isAgg,false⟩]
 |x,y=>[⟨x,y⟩]
theorem wkT_ok{x y:T}(h:okL (wkT x y)):WkT x y:=by unfold wkT at h;split at h;(obtain⟨u,I,_⟩:=h;subst u I;exact .own _ _ _);(have h:_=[]:=h.1;subst h;exact .nilOwn _ _);(have h:_=0:=h.1;subst h;exact .nilView _ _ _ _);exact .optN _;(obtain⟨u,I,_⟩:=h;subst u I;exact .optS _ _);(obtain⟨u,I,U,h4,_⟩:=h;subst u I U h4;exact .view0 _ _ _ _ _);exact .d (wkD_ok h);exact .agg (zPX h);(rename_i W Z l2 J;have e:Z=J:=h.1;subst e;exact .ags _ (zPX h.2));exact .agsA _ (zPX h);(rename_i W l2 i E k r;obtain⟨u,I,U⟩:=h;have u:r=[]:=u;subst u;exact .agsN _ _ (zPX U) I);exact .any h.1;(have h:=h.1;subst h;exact .refl _)
def wkTs:List T->List T->PL
 |[],[]=>[]
 |x::r,y::s=>wkT x y++wkTs r s
 |_,_=>[bp false]
theorem zMT:∀{l l':List T},okL (wkTs l l')->WkTs l l'
 |[],[],_=> .nil
 |x::r,y::s,h=> .cons (wkT_ok (zCc h).1) (zMT (zCc h).2)
 |[],y::s,h=>Bool.noConfusion h.1
 |x::r,[],h=>Bool.noConfusion h.1
def wkA(x y:A):PL:=match x,y with
 | .t x,.t y=>wkT x y
 | .tup l,.tup u=>wkTs l u
 | .box l,.box u=>bp (u.all λx=> !x.isAgg)::wkTs l u
 |_,.any=>[]
 |x,y=>[⟨x,y⟩]
theorem zPC{x y:A}(h:okL (wkA x y)):WkA x y:=by unfold wkA at h;split at h;exact .t (wkT_ok h);exact .tup (zMT h);exact .box (zMT h.2) h.1;exact .any _;(have h:=h.1;subst h;exact .refl _)
def wkLs:List (List D)->List (List D)->PL
 |[],[]=>[]
 |x::r,y::s=>wkL x y++wkLs r s
 |_,_=>[bp false]
theorem wkLs_ok:∀{l l':List (List D)},okL (wkLs l l')->WkLs l l'
 |[],[],_=> .nil
 |x::r,y::s,h=> .cons (zPX (zCc h).1) (wkLs_ok (zCc h).2)
 |[],y::s,h=>Bool.noConfusion h.1
 |x::r,[],h=>Bool.noConfusion h.1
def wkK(x y:A):PL:=match x,y with
 | .t (.own E k l),.t (.own I u J)=>⟨E,I⟩::⟨k,u⟩::wkLs l J
 |x,y=>wkA x y
theorem wkK_ok{x y:A}(h:okL (wkK x y)):WkA x y:=by unfold wkK at h;split at h;(obtain⟨u,I,h⟩:=h;subst u I;exact .t (.rows _ _ (wkLs_ok h) rfl));exact zPC h
def wkF(b:Bool)(x y:A):PL:=bif b then wkA x y else[⟨x,y⟩]
theorem wkF_ok{b:Bool}{x y:A}(h:okL (wkF b x y)):WkA x y:=by(cases b with|true=>exact zPC h|false=>have h:x=y:=h.1;subst h;exact .refl _)
def fitL(ws:List Nat)(L:SL):SL->PL
 |[]=>[]
 |(s,y)::r=>wkF (ws.any (Nat.beq s)) (gt L s) y++fitL ws L r
theorem zMX{ws:List Nat}:∀{F:SL},okL (fitL ws L F)->WkS L F
 |[],_=>trivial
 |(s,y)::r,h=>⟨wkF_ok (zCc h).1,zMX (zCc h).2⟩
def fits(ws:List Nat)(L F:SL):PL:=bp (zHi F)::fitL ws L F
structure yM(P:Program)where
 hk:List Nat
 pr:List Nat->Nat->(Nat->A)->Oper->Option (PL×Eff)
 ok:∀pins N S M op c e,Mk M S->(∀d,op.dst=some d->M d=S d)->pr pins N M op=some (c,e)->okL c->OpH P pins N op S (app S e)
structure zJd(P:Program)where
 pr:List Nat->Nat->SL->Option (PL×SL)
 ok:∀pins N L c L',pr pins N L=some (c,L')->okL c->∀w0 m0 o0 G a w,St w0 m0 o0 G pins N L a w->St w0 m0 o0 G pins N L' a w
structure YRule(P:Program)where
 pr:List Nat->Nat->SL->Oper->Option (PL×Eff)
 ok:∀pins N L op c e,pr pins N L op=some (c,e)->okL c->OpY P pins N op (gt L) (app (gt L) e)
structure RgRule(P:Program)where
 pr:Nat->Code->SL->Option (PL×Bool×SL)
 ok:∀pins N y rest L c b LA Q,pr N y L=some (c,b,LA)->okL c->DK∉pins->(b=true->qK P pins N rest (λe L2=>e= .ret/\Q .ret L2) LA)->(b=false->Q .ret LA)->zMP P (DK::pins) N y rest Q L
inductive Jx:Type->List Type->Type 1
 |z {X:Type} {Γ:List Type}:Jx X (X::Γ)
 |s {X Y:Type} {Γ:List Type} (m:Jx X Γ):Jx X (Y::Γ)
def lev:{X:Type}->{Γ:List Type}->Jx X Γ->Nat
 |_,_,@Jx.z _ Γ=>Γ.length
 |_,_,.s m=>lev m
theorem zTa:∀{X:Type} {Γ:List Type} (m:Jx X Γ),lev m<Γ.length
 |_,_,.z=>Nat.lt_succ_self _
 |_,_,.s m=>Nat.lt_succ_of_lt (zTa m)
inductive Tr(P:Program)(R:Type):List Type->Type 1
 |r {Γ:List Type} (x:R):Tr P R Γ
 |no {Γ:List Type}:Tr P R Γ
 |b {Γ:List Type} {α:Type} (m:Option α) (k:(x:α)->m=some x->Tr P R Γ):Tr P R Γ
 |p {Γ:List Type} (p:Option Nat) (t:p=none->Tr P R Γ) (e:(i:Nat)->p=some i->Tr P R Γ):Tr P R Γ
 |i {Γ:List Type} (q:Nat) (c:Bool) (t:c=true->Tr P R Γ) (e:c=false->Tr P R Γ):Tr P R Γ
 |w {Γ:List Type} (q:Nat) {C:Prop} {x y:A} (hC:C) (hw:WkA x y) (t:Tr P R Γ):Tr P R Γ
 |g {Γ:List Type} (q:Nat) (y:A) (t:Tr P R Γ):Tr P R Γ
 |c {Γ:List Type} (q:Nat) {C:Prop} (hC:C) (t:Tr P R Γ):Tr P R Γ
 |o {Γ:List Type} (q:Nat) (s:yM P) (t:Tr P R Γ):Tr P R Γ
 |y {Γ:List Type} (q:Nat) (tk:Bool) (t:Tr P R Γ):Tr P R Γ
 |t {Γ:List Type} (q s:Nat) {x y:A} (h:x=y) (t:Tr P R Γ):Tr P R Γ
 |f {Γ:List Type} (q:Nat) (s:zJd P) (t:Tr P R Γ):Tr P R Γ
 |l {Γ:List Type} {X:Type} (ws:List Nat) (F:X->SL) (n:Nat) (B:X->Tr P R (X::Γ)) (x:X):Tr P R Γ
 |j {Γ:List Type} {X:Type} (q:Nat) (F:X->SL) (J:X->Tr P R Γ) (t:Tr P R (X::Γ)):Tr P R Γ
 |n {Γ:List Type} {X:Type} (ws:List Nat) (m:Jx X Γ) (x:X):Tr P R Γ
 |vv {Γ:List Type} (q:Nat) (s:YRule P) (t:Tr P R Γ):Tr P R Γ
 |rr {Γ:List Type} (s:RgRule P) (c:Bool) (t:c=true->Tr P R Γ) (x0:R):Tr P R Γ
abbrev Env(R:Type)(Γ:List Type):=(X:Type)->Jx X Γ->X->Option R
def Env.nil{R:Type}:Env R []:=λ_ m=>nomatch m
def Env.cons{R X:Type}{Γ:List Type}(ρ:Env R Γ)(k:X->Option R):Env R (X::Γ)
 |_,.z=>k
 |_,.s m=>ρ _ m
def lpn{X R:Type}(f:(X->Option R)->X->Option R):Nat->X->Option R
 |0,_=>none
 |n+1,x=>f (lpn f n) x
def zSU{α:Sort _}(c:Bool)(t:c=true->α)(e:c=false->α):α:=match c with
 |true=>t rfl
 |false=>e rfl
theorem bdite_c{α:Type _}(c:Bool)(x y:α):zSU c (λ_=>x) (λ_=>y)=bif c then x else y:=by cases c<;>rfl
def odite{α:Sort _}(p:Option Nat)(t:p=none->α)(e:(i:Nat)->p=some i->α):α:=match p with
 |none=>t rfl
 |some i=>e i rfl
theorem odite_c{α:Type _}(p:Option Nat)(x:Option α)(y:Nat->Option α):odite p (λ_=>x) (λi _=>y i)=ptM p x y:=by cases p<;>rfl
def Tr.run{R:Type}:{Γ:List Type}->Tr P R Γ->Env R Γ->Option R
 |_,.r x,_=>some x
 |_,.no,_=>none
 |_,.b m k,ρ=>Option.pbind m λx h=>(k x h).run ρ
 |_,.i _ m u v,ρ=>zSU m (λh=>(u h).run ρ) (λh=>(v h).run ρ)
 |_,.p m u v,ρ=>odite m (λh=>(u h).run ρ) (λx h=>(v x h).run ρ)
 |_,.w _ _ _ u,ρ=>u.run ρ
 |_,.g _ _ u,ρ=>u.run ρ
 |_,.c _ _ u,ρ=>u.run ρ
 |_,.o _ _ u,ρ=>u.run ρ
 |_,.y _ _ u,ρ=>u.run ρ
 |_,.t _ _ _ u,ρ=>u.run ρ
 |_,.f _ _ u,ρ=>u.run ρ
 |_,.l _ _ q B x,ρ=>lpn (λk x=>(B x).run (ρ.cons k)) q x
 |_,.j _ _ J u,ρ=>u.run (ρ.cons λx=>(J x).run ρ)
 |_,.n _ m x,ρ=>ρ _ m x
 |_,.vv _ _ u,ρ=>u.run ρ
 |_,.rr _ U u I,ρ=>zSU U (λh=>(u h).run ρ) (λ_=>some I)
inductive Lg:Type 1
 |e
 |x
 |q {τ:Type} (a b:τ) (r:Lg)
 |a {α:Type} (k:α->Lg)
 |h {p:Prop} (k:p->Lg)
 |c (l r:Lg)
inductive Lo:Type 1
 |e
 |x (b:Bool)
 |q {τ:Type} (a:τ) (r:Lo)
 |a {α:Type} (k:α->Lo)
 |h {p:Prop} (k:p->Lo)
 |c (l r:Lo)
def Lg.l:Lg->Lo
 | .e=> .e
 | .x=> .x true
 | .q u _ w=> .q u w.l
 | .a k=> .a λx=>(k x).l
 | .h k=> .h λx=>(k x).l
 | .c u v=> .c u.l v.l
def Lg.r:Lg->Lo
 | .e=> .e
 | .x=> .x false
 | .q _ u w=> .q u w.r
 | .a k=> .a λx=>(k x).r
 | .h k=> .h λx=>(k x).r
 | .c u v=> .c u.r v.r
abbrev Lg.ok(g:Lg):Prop:=g.l=g.r
theorem lg_a{α:Type}{k:α->Lg}(h:(Lg.a k).ok)(x:α):(k x).ok:=by unfold Lg.ok at h;simp only[Lg.l,Lg.r]at h;injection h with _ h;exact congrFun h x
theorem lg_h{p:Prop}{k:p->Lg}(h:(Lg.h k).ok)(x:p):(k x).ok:=by unfold Lg.ok at h;simp only[Lg.l,Lg.r]at h;injection h with _ h;exact congrFun h x
theorem lg_c{l r:Lg}(h:(Lg.c l r).ok):l.ok/\r.ok:=by unfold Lg.ok at h;simp only[Lg.l,Lg.r]at h;grind
theorem lg_x{α:Prop}(h:Lg.x.ok):α:=by unfold Lg.ok at h;simp only[Lg.l,Lg.r]at h;grind
def lg2(c:Bool)(x y:Lg):Lg:=match c with
 |true=>x
 |false=>y
def qs:PL->Lg->Lg
 |[],r=>r
 |p::l,r=> .q p.x p.y (qs l r)
theorem zD1:∀{l:PL} {r:Lg},(qs l r).ok->okL l/\r.ok
 |[],_,h=>⟨trivial,h⟩
 |p::l,r,h=>by unfold qs Lg.ok at h;simp only[Lg.l,Lg.r]at h;injection h with _ u I;obtain⟨a,b⟩:=zD1 I;exact⟨⟨u,a⟩,b⟩
inductive It
 |c(c:Code)
 |b(id:Nat)
 |l(n:Nat)
 |s(c:Code)
 |g(l n:Nat)
 |a(c:Code)
 |kk
 |r(y z:Code)
def It.isA:It->Bool
 | .a _=>true
 |_=>false
def rgs:Code->Option (Option Code×Code)
 | .block i (.rangeFunc f u a b)=>some (none,.block i (.rangeFunc f u a b))
 | .seq x (.block i (.rangeFunc f u a b))=>some (some x,.block i (.rangeFunc f u a b))
 |_=>none
theorem rgs_eq{a y:Code}{x:Option Code}(h:rgs a=some (x,y)):a=match x with|none=>y|some x=> .seq x y:=by unfold rgs at h;grind
def labOf:Code->Option Nat
 | .seq a b=>match labOf a with|some l=>some l|none=>labOf b
 | .label l=>some l
 |_=>none
def lab(c:Code):Nat:=(labOf c).getD 0
def labR(c:Code):Code:=(findLabel c (lab c)).getD .skip
inductive Cur
 |c(c:Code)
 |o(l0 r:List Oper)
 |d(l0 r:List Oper)(acc:List (List Nat×List Nat))
 |e(e:Exit)
 |r(y z:Code)
inductive Gd
 |go
 |skip
 |ask(t:Nat)(c:Bool)
 |bad
def pkX(L:SL)(op:Oper)(q:Bool):Gd:=match q,op.op with
 |true,.pick (.tmp t) _ _=>match gt L t with| .t (.d (.lit (.bool c)))=> .ask t c|_=> .bad
 |_,_=> .go
def gdX(ops:Array Oper)(L:SL)(op:Oper)(q k:Nat):Gd:=match op.guard with
 |none=>pkX L op (Nat.beq q (3*k+1))
 |some (j,w)=>match(ops[j]?).bind (·.dst)with|none=> .bad|some t=>match gt L t with| .tup []=> .skip| .t (.d (.lit (.bool c)))=>bif Nat.beq q (3*k)then .ask t c else bif c==w then pkX L op (Nat.beq q (3*k+1))else .skip|_=> .bad
theorem pkX_ask{q:Bool}{t:Nat}{c:Bool}(h:pkX L op q= .ask t c):gt L t= .t (.d (.lit (.bool c))):=by unfold pkX at h;grind
theorem zS4{q:Bool}:pkX L op q≠ .skip:=by unfold pkX;grind
theorem gdX_ask{ops:Array Oper}{q k t:Nat}{c:Bool}(h:gdX ops L op q k= .ask t c):gt L t= .t (.d (.lit (.bool c))):=by unfold gdX at h;split at h;exact pkX_ask h;(split at h;cases h;(split at h;cases h;(cases hq:Nat.beq q (3*k)with|true=>grind|false=>rw[hq]at h;rename_i j w _ _ J _ _ I _;(cases u:(I==w)with|true=>simp only[u,cond_true,cond_false]at h;exact pkX_ask h|false=>grind));cases h))
theorem gdX_go{ops:Array Oper}{q k:Nat}(h:gdX ops L op q k= .go):op.guard=none\/∃j w t,op.guard=some (j,w)/\(ops[j]?).bind (·.dst)=some t/\gt L t= .t (.d (.lit (.bool w))):=by unfold gdX at h;grind
theorem zTm{ops:Array Oper}{q k:Nat}(h:gdX ops L op q k= .skip):∃j w t,op.guard=some (j,w)/\(ops[j]?).bind (·.dst)=some t/\(gt L t= .t (.d (.lit (.bool !w)))\/gt L t= .tup []):=by unfold gdX at h;split at h;exact absurd h zS4;(split at h;cases h;(split at h;grind;(rename_i j w I _ t ht _ c J;(cases hq:Nat.beq q (3*k)with|true=>grind|false=>rw[hq]at h;(cases u:(c==w)with|true=>simp only[u,cond_true,cond_false]at h;exact absurd h zS4|false=>(have:c= !w:=by cases c<;>cases w<;>first|rfl|cases u);grind)));cases h))
section
variable {P:Program}{R:Type}
def hX(P:Program)(M:Nat->A):Op->Option (Prop×A)
 | .fieldAddr t x k=>match cpO M x,fdH P t k with
  | .t (.hpt c off),some q=>some (True,.t (.hpt c (off+q)))
  |_,_=>none
 | .binOp J t x (.const (.pointer none)) yt=>match J,P.underlying t,ptrN (cpO M x)with
  | .eql,some (.pointer _),some b=>some (True,.t (.d (.lit (.bool (b !=false)))))
  | .neq,some (.pointer _),some b=>some (True,.t (.d (.lit (.bool (b !=true)))))
  |_,_,_=>none
 | .call {callee:= .builtin .len,args:=⟨[x]⟩,argTypes:=⟨[t]⟩}=>match cpO M x,P.underlying t with
  | .t (.hvw _ _ _ _ n),some (.slice _)=>some (True,.t (.d (.lit (.int .i64 n))))
  | .t (.view _ _ _ _ n),some (.slice _)=>some (True,.t (.d (.lit (.int .i64 n))))
  |_,_=>none
 | .indexAddr t x i=>match cpO M x,vO M i with
  | .t (.hvw c off _ k n),some (.int _ z)=>match ixH P t with
   |some (none,Z)=>bif Nat.beq Z k then some (0<=z/\z<n,.t (.hpt c (off+z.toNat*k)))else none
   |_=>none
  | .t (.view j off _ _ n),some (.int _ z)=>match P.underlying t with
   |some (.slice e)=>match P.info? e with
    |some U=>some (0<=z/\z<n,.ref (OB+j) (off+z.toNat*U.size))
    |none=>none
   |_=>none
  | .t (.hpt c off),some (.int _ z)=>match ixH P t with
   |some (some len,k)=>some (0<=z/\z<len,.t (.hpt c (off+z.toNat*k)))
   |_=>none
  | .ref b off,some (.int _ z)=>match P.underlying t with
   |some (.array len e)=>match P.info? e with
    |some U=>some (0<=z/\z<len,.ref b (off+z.toNat*U.size))
    |none=>none
   |_=>none
  |_,_=>none
 | .build t ⟨I⟩=>match bdT P M t I with
  |some l=>some (True,.ag l)
  |none=>none
 | .makeFunc (.func f) ⟨[]⟩ ⟨[]⟩=>some (True,.t (.d (.lit (.func (.func f) #[] #[]))))
 | .makeFunc (.func f) ⟨[]⟩ ⟨xs⟩=>match capsF M xs with
  |some u=>some (True,.t (.d (.clo f u)))
  |none=>match zUY M xs with
   |some u=>bif u.all (λl=>l.all dhT)then some (True,.cl f u)else none
   |none=>none
 | .load t x=>match cpO M x,tyA P t with
  | .imt (z::_),some (false,_)=>match norH z with
   |some y=>some (True,y)
   |none=>none
  |_,_=>none
 | .box _ x=>match cpO M x with
  | .t (.hpt c off)=>some (True,.box [.hpt c off])
  | .t (.opt t p)=>some (True,.box [.opt t p])
  |_=>none
 | .buildSlice t 0 ⟨[]⟩=>match elF P t with
  |some (e,sz,_)=>some (True,.t (.own e sz []))
  |none=>none
 | .call {callee:= .builtin .max,args:=⟨[x,y]⟩,argTypes:=_}=>match vO M x,vO M y with
  |some (.int k a),some (.int _ b)=>some (True,.t (.d (.lit (.int k (if b>a then b else a)))))
  |_,_=>none
 | .call {callee:= .builtin .min,args:=⟨[x,y]⟩,argTypes:=_}=>match vO M x,vO M y with
  |some (.int k a),some (.int _ b)=>some (True,.t (.d (.lit (.int k (if b<a then b else a)))))
  |_,_=>none
 | .call {callee:= .builtin .max,args:=⟨[x,y,z]⟩,argTypes:=_}=>match vO M x,vO M y,vO M z with
  |some (.int k a),some (.int _ b),some (.int _ c)=>some (True,.t (.d (.lit (.int k (ma3 a b c)))))
  |_,_,_=>none
 | .call {callee:= .builtin .min,args:=⟨[x,y,z]⟩,argTypes:=_}=>match vO M x,vO M y,vO M z with
  |some (.int k a),some (.int _ b),some (.int _ c)=>some (True,.t (.d (.lit (.int k (mi3 a b c)))))
  |_,_,_=>none
 | .call {callee:= .builtin .cap,args:=⟨[x]⟩,argTypes:=⟨[t]⟩}=>match vO M x,P.underlying t with
  |some (.slice none 0 0),some (.slice _)=>some (True,.t (.d (.lit (.int .i64 0))))
  |_,_=>none
 | .slice t x none W none=>match vO M x,bndO M W,P.underlying t with
  |some (.slice none 0 0),some (some 0),some (.slice e)=>match P.info? e with
   |some _=>some (True,.t (.d (.lit (.slice none 0 0))))
   |none=>none
  |_,_,_=>none
 | .binOp J t x (.const (.map none)) _=>match J,P.underlying t,cpO M x with
  | .eql,some (.map _ _),.t (.mpt _)=>some (True,.t (.d (.lit (.bool false))))
  | .neq,some (.map _ _),.t (.mpt _)=>some (True,.t (.d (.lit (.bool true))))
  |_,_,_=>none
 |_=>none
theorem hX_ok{d:Nat}{C:Prop}{y:A}(Z:Mk M S)(hd:op.dst=some d)(u:okD N pins S d=true)(h:hX P M op.op=some (C,y))(hC:C):OpH P pins N op S (app S [(d,y)]):=by generalize I:op.op=o at h;unfold hX at h;split at h;(split at h;(rename_i c off q J U;cases h;exact h_fd Z I J U rfl hd u);cases h);(split at h;(rename_i e b U W;cases h;exact h_pn (ng:=false) Z I rfl U W hd u);(rename_i e b U W;cases h;exact h_pn (ng:=true) Z I rfl U W hd u);cases h);(split at h;(rename_i J U;cases h;exact h_ln Z I J U rfl hd u);(rename_i J U;cases h;exact h_lln Z I J U rfl hd u);cases h);(split at h;(split at h;(rename_i c off E k n ki z J U _ k' W;(cases hk:Nat.beq k' k with|false=>grind|true=>rw[hk]at h;have hk:=wV hk;subst hk;cases h;exact h_ix Z I J U W hC rfl hd u));cases h);(split at h;(split at h;(rename_i j off E k n ki z J U _ e W _ ie h4;cases h;exact h_lix Z I J U W h4 hC rfl hd u);cases h);cases h);(split at h;(rename_i c off ki z J U _ len k W;cases h;exact h_ia Z I J U W hC rfl hd u);cases h);(split at h;(split at h;(rename_i b off ki z J U _ len e W _ ie h4;cases h;exact .of (e:=[(d,_)]) λhN=>⟨ok_ixa Z.hx I J U W h4 hC hd (qR hN u),zBz (qG hN u)⟩);cases h);cases h);cases h);(split at h;(rename_i l J;cases h;exact h_bd Z I hd u J);cases h);(cases h;exact .of (e:=[(d,_)]) λhN=>⟨ok_mf I hd (qR hN u),zBz (qG hN u)⟩);(split at h;(rename_i α J;cases h;exact .of (e:=[(d,_)]) λhN=>⟨ok_mfc Z.hx I hd (qR hN u) J,zBz (qG hN u)⟩);(split at h;(rename_i α U;(cases hc:α.all (λl=>l.all dhT)with|false=>grind|true=>rw[hc]at h;cases h;exact h_mfT Z I hd u U hc));cases h));(split at h;(rename_i z l n J U;split at h;(rename_i y W;cases h;exact h_ldT Z I U J rfl W hd u);cases h);cases h);(split at h;(rename_i c off J;cases h;exact h_boxp Z I J hd u);(rename_i t p J;cases h;exact h_boxo Z I J hd u);cases h);(split at h;(rename_i e sz nb J;cases h;exact .of (e:=[(d,_)]) λhN=>⟨ok_b0 I hd (qR hN u) J,zBz (qG hN u)⟩);cases h);(split at h;(rename_i J U;cases h;exact h_max Z I J U hd u);cases h);(split at h;(rename_i J U;cases h;exact h_min Z I J U hd u);cases h);(split at h;(rename_i J U W;cases h;exact h_max3 Z I J U W hd u);cases h);(split at h;(rename_i J U W;cases h;exact h_min3 Z I J U W hd u);cases h);(split at h;(rename_i J U;cases h;exact h_cap0 Z I J U hd u);cases h);(split at h;(rename_i J U W;split at h;(rename_i h4;cases h;exact h_slnil Z I J U W h4 hd u);cases h);cases h);(split at h;(rename_i J U;cases h;exact h_mn (ng:=false) Z I rfl J U hd u);(rename_i J U;cases h;exact h_mn (ng:=true) Z I rfl J U hd u);cases h);cases h
def orH(P:Program)(M:Nat->A)(d:Nat)(o:Op):Option (Prop×Eff)->Option (Prop×Eff)
 |some x=>some x
 |none=>match hX P M o with|some (C,y)=>some (C,[(d,y)])|none=>none
def stX(P:Program)(pins:List Nat)(N:Nat)(M:Nat->A)(tk:Bool)(op:Oper):Option (Prop×Eff):=match op.dst,op.op with
 |some d,o=>bif okD N pins M d then orH P M d o (opF P pins tk M d o)else none
 |none,.store t x y=>(stF P pins M t x y).map λe=>(True,e)
 |none,_=>none
theorem zTG{tk:Bool}{C:Prop}{e:Eff}(U:Mk M S)(hd:∀d,op.dst=some d->M d=S d)(h:stX P pins N M tk op=some (C,e))(Z:C):OpH P pins N op S (app S e):=by unfold stX at h;split at h;(rename_i d u;(cases hk:okD N pins M d with|false=>grind|true=>rw[hk]at h;(have J:okD N pins S d=true:=by unfold okD at hk⊢;rw[<-hd d u];exact hk);simp only[cond_true]at h;(cases I:opF P pins tk M d op.op with|some x=>rw[I]at h;have h:some x=some (C,e):=h;rw[h]at I;exact zOH U u J I Z|none=>rw[I]at h;unfold orH at h;simp only at h;split at h;(rename_i W y hh;cases h;exact hX_ok U u J hh Z);cases h)));(rename_i t x y u I;(cases hs:stF P pins M t x y with|none=>grind|some e'=>rw[hs]at h;cases h;exact stF_okh U I u hs));cases h
def zRD:Eff->Option (Eff×Nat×A)
 |[]=>none
 |[(s,x)]=>some ([],s,x)
 |z::r=>(zRD r).map λp=>(z::p.1,p.2)
theorem zQf:∀{e p:Eff} {s:Nat} {x:A},zRD e=some (p,s,x)->e=p++[(s,x)]
 |[],_,_,_,h=>by cases h
 |[(t,y)],p,s,x,h=>by cases h;rfl
 |z::y::r,p,s,x,h=>by unfold zRD at h;(cases hr:zRD (y::r)with|none=>grind|some u=>obtain⟨q,t,v⟩:=u;rw[hr]at h;cases h;rw[zQf hr];rfl)
def zSa:A->Bool| .any=>true|_=>false
theorem zTl{y:A}(h:(!zSa y)=true):y≠ .any:=λe=>by subst e;cases h
theorem WkE.refl':∀{p:Eff},(p.all λz=> !zSa z.2)=true->∀{e u:Eff},WkE e u->WkE (p++e) (p++u)
 |[],_,_,_,h=>h
 |(s,x)::p,h,_,_,k=>by simp only[uV,wI]at h;exact .cons (.refl _) (zTl h.1) (WkE.refl' h.2 k)
def plX{Γ:List Type}(T:Tr P R Γ):Option (Prop×Eff)->Option (PL×Eff×Tr P R Γ)
 |some (C,e)=>some ([⟨C,True⟩],e,T)
 |none=>none
def wX{Γ:List Type}(C:Prop)(x y:A)(T:Tr P R Γ):Option (Prop×Eff)->Option (PL×Eff×Tr P R Γ)
 |some (u,e)=>match zRD e with|some (p,s,x')=>some ([⟨u,C⟩,⟨x',x⟩,bp (!zSa y),bp (p.all λz=> !zSa z.2)],p++[(s,y)],T)|none=>none
 |none=>none
def kX{Γ:List Type}(y:A)(T:Tr P R Γ):Option (Prop×Eff)->Option (PL×Eff×Tr P R Γ)
 |some (u,e)=>match zRD e with|some (p,s,x')=>some (⟨u,True⟩::bp (!zSa y)::bp (p.all λz=> !zSa z.2)::wkK x' y,p++[(s,y)],T)|none=>none
 |none=>none
def cX{Γ:List Type}(C:Prop)(T:Tr P R Γ):Option (Prop×Eff)->Option (PL×Eff×Tr P R Γ)
 |some (u,e)=>some ([⟨u,C⟩],e,T)
 |none=>none
def oX{Γ:List Type}(T:Tr P R Γ):Option (PL×Eff)->Option (PL×Eff×Tr P R Γ)
 |some (c,e)=>some (c,e,T)
 |none=>none
def actX(pins:List Nat)(N:Nat)(M:Nat->A)(op:Oper)(k:Nat)(u:Bool){Γ:List Type}(T:Tr P R Γ):Option (PL×Eff×Tr P R Γ):=match T with
 | @Tr.w _ _ _ q C x y J U t=>bif Nat.beq q k then wX C x y t (stX P pins N M u op)else plX T (stX P pins N M u op)
 | .g q y t=>bif Nat.beq q k then kX y t (stX P pins N M u op)else plX T (stX P pins N M u op)
 | @Tr.c _ _ _ q C J t=>bif Nat.beq q k then cX C t (stX P pins N M u op)else plX T (stX P pins N M u op)
 | .o q s t=>bif Nat.beq q k then oX t (s.pr pins N M op)else plX T (stX P pins N M u op)
 | .y q I t=>bif Nat.beq q k then plX t (stX P pins N M I op)else plX T (stX P pins N M u op)
 |T=>plX T (stX P pins N M u op)
def hkX(k:Nat){Γ:List Type}:Tr P R Γ->List Nat
 | .o q s t=>bif Nat.beq q k then s.hk else[]
 |_=>[]
def tq{Γ:List Type}:Tr P R Γ->Nat
 | .i q _ _ _=>q
 |_=>1000000007
section
variable {pins:List Nat}{N:Nat}{S M:Nat->A}{op:Oper}{Γ:List Type}
theorem plX_ok{T t:Tr P R Γ}{tk:Bool}{c:PL}{e:Eff}(J:Mk M S)(hd:∀d,op.dst=some d->M d=S d)(h:plX T (stX P pins N M tk op)=some (c,e,t))(U:okL c):OpH P pins N op S (app S e)/\T=t:=by(cases hs:stX P pins N M tk op with|none=>rw[hs]at h;cases h|some u=>obtain⟨C,Z⟩:=u;rw[hs]at h;cases h;have I:C=True:=U.1;exact⟨zTG J hd hs (by rw[I];trivial),rfl⟩)
theorem actX_ok{T t:Tr P R Γ}{k:Nat}{wn:Bool}{c:PL}{e:Eff}(J:Mk M S)(hd:∀d,op.dst=some d->M d=S d)(h:actX pins N M op k wn T=some (c,e,t))(hc:okL c):OpH P pins N op S (app S e)/\∀ρ,T.run ρ=t.run ρ:=by(have I:∀{U:Tr P R Γ} {tk:Bool},(∀ρ,T.run ρ=U.run ρ)->plX U (stX P pins N M tk op)=some (c,e,t)->OpH P pins N op S (app S e)/\∀ρ,T.run ρ=t.run ρ:=λhU h=>by obtain⟨a,b⟩:=plX_ok J hd h hc;grind);unfold actX at h;split at h;(rename_i q C x y hC hw u;(cases hq:Nat.beq q k with|false=>grind|true=>rw[hq]at h;simp only[cond_true]at h;(cases hs:stX P pins N M wn op with|none=>rw[hs]at h;cases h|some v=>obtain⟨C',W⟩:=v;rw[hs]at h;unfold wX at h;simp only at h;(cases hl:zRD W with|none=>grind|some v=>obtain⟨p,s,x'⟩:=v;rw[hl]at h;cases h;obtain⟨rfl,rfl,q3,q4,_⟩:=hc;have he:=zQf hl;subst he;exact⟨(zTG J hd hs hC).weak (WkE.refl' q4 (.cons hw (zTl q3) .nil)),λ_=>rfl⟩))));(rename_i q y u;(cases hq:Nat.beq q k with|false=>grind|true=>rw[hq]at h;simp only[cond_true]at h;(cases hs:stX P pins N M wn op with|none=>rw[hs]at h;cases h|some v=>obtain⟨C',W⟩:=v;rw[hs]at h;unfold kX at h;simp only at h;(cases hl:zRD W with|none=>grind|some v=>obtain⟨p,s,x'⟩:=v;rw[hl]at h;cases h;obtain⟨Z,q3,q4,q5⟩:=hc;have he:=zQf hl;subst he;have Z:C'=True:=Z;exact⟨(zTG J hd hs (by rw[Z];trivial)).weak (WkE.refl' q4 (.cons (wkK_ok q5) (zTl q3) .nil)),λ_=>rfl⟩))));(rename_i q C hC u;(cases hq:Nat.beq q k with|false=>grind|true=>rw[hq]at h;simp only[cond_true]at h;(cases hs:stX P pins N M wn op with|none=>rw[hs]at h;cases h|some v=>obtain⟨C',W⟩:=v;rw[hs]at h;cases h;have Z:C'=C:=hc.1;subst Z;exact⟨zTG J hd hs hC,λ_=>rfl⟩)));(rename_i q s u;(cases hq:Nat.beq q k with|false=>grind|true=>rw[hq]at h;simp only[cond_true]at h;(cases hs:s.pr pins N M op with|none=>rw[hs]at h;cases h|some v=>obtain⟨c',W⟩:=v;rw[hs]at h;cases h;exact⟨s.ok _ _ _ _ _ _ _ J hd hs hc,λ_=>rfl⟩)));(rename_i q tk u;(cases hq:Nat.beq q k with|false=>grind|true=>rw[hq]at h;simp only[cond_true]at h;exact I (U:=u) (tk:=tk) (λ_=>rfl) h));grind
end
def yX(pins:List Nat)(N:Nat)(L:SL)(op:Oper)(k:Nat){Γ:List Type}:Tr P R Γ->Option (PL×Eff×Tr P R Γ)
 | .vv q s t=>bif Nat.beq q k then(match s.pr pins N L op with|some (c,e)=>some (c,e,t)|none=>none)else none
 |_=>none
theorem yX_ok{k:Nat}{Γ:List Type}{T t:Tr P R Γ}{c:PL}{e:Eff}(h:yX pins N L op k T=some (c,e,t))(I:okL c):OpY P pins N op (gt L) (app (gt L) e)/\∀ρ,T.run ρ=t.run ρ:=by unfold yX at h;split at h;(rename_i q s u;(cases hq:Nat.beq q k with|false=>grind|true=>rw[hq]at h;simp only[cond_true]at h;split at h;(rename_i U J hs;cases h;exact⟨s.ok _ _ _ _ _ _ hs I,λ_=>rfl⟩);cases h));cases h
abbrev FEnv(Γ:List Type):=(X:Type)->Jx X Γ->X->SL
def FEnv.nil:FEnv []:=λ_ m=>nomatch m
def FEnv.cons{X:Type}{Γ:List Type}(Φ:FEnv Γ)(F:X->SL):FEnv (X::Γ)
 |_,.z=>F
 |_,.s m=>Φ _ m
def tB(s:Nat)(b:Bool)(L:SL):SL:=(s,.t (.d (.lit (.bool b))))::L
def frA{R:Sort _}(x:A)(K:A->R):R:=match x with
 | .ref s off=>K (.ref s off)
 |x=>frcA false x K
theorem frA_eq{R:Sort _}(x:A)(K:A->R):frA x K=K x:=by unfold frA;split;rfl;exact frcA_eq _ _ _
def frX{R:Sort _}:Eff->(Eff->R)->R
 |[],K=>K []
 |(s,x)::r,K=>bif Nat.blt s OB then frA x λx=>frX r λr=>K ((s,x)::r)else frX r λr=>K ((s,x)::r)
theorem zRW{R:Sort _}:∀(l:Eff) (K:Eff->R),frX l K=K l
 |[],_=>rfl
 |(s,x)::r,K=>by unfold frX;(cases Nat.blt s OB with|true=>rw[cond_true,frA_eq,zRW]|false=>rw[cond_false,zRW])
def pc0:Code->Nat
 | .ret=>1
 | .region id _ _=>4*id+2
 | .cond (.tmp t) _ _=>4*t+3
 | .seq (.label _) _=>13
 |_=>5
def pc1:Code->Nat
 | .seq a _=>pc1 a
 | .block _ b=>pc1 b
 | .loop b=>pc1 b
 |c=>pc0 c
def pcC:Code->Nat
 | .loop b=>pc1 b
 |c=>pc0 c
def pcur(N:Nat):Cur->Nat
 | .c c=>pcC c
 | .o _ (op::r)=>4*op.dst.getD (N+r.length)
 | .d _ (op::r) _=>4*op.dst.getD (N+r.length)
 | .e _=>9
 |_=>5
def tNow(N:Nat)(u:Cur)(L:SL){Γ:List Type}(T:Tr P R Γ):Option (Pr×SL×Tr P R Γ):=match T with
 | @Tr.t _ _ _ q s x y h t=>bif Nat.beq q (pcur N u)then some (⟨gt L s,x⟩,(s,y)::L,t)else none
 |_=>none
theorem tNow_ok{I:Cur}{L L':SL}{Γ:List Type}{T t:Tr P R Γ}{p:Pr}(h:tNow N I L T=some (p,L',t))(hp:p.x=p.y):gt L=gt L'/\∀ρ,T.run ρ=t.run ρ:=by unfold tNow at h;split at h;(rename_i q s x y e u;(cases hb:Nat.beq q (pcur N I)with|false=>grind|true=>rw[hb]at h;cases h;have hp:gt L s=x:=hp;subst e;refine⟨?_,λ_=>rfl⟩;rw[zR];funext t;unfold upd;grind));cases h
def fpl:Cur->Option Nat
 | .c c=>some (pcC c)
 | .e _=>some 9
 |_=>none
def fNow(pins:List Nat)(N:Nat)(u:Cur)(L:SL){Γ:List Type}(T:Tr P R Γ):Option (PL×SL×Tr P R Γ):=match T with
 | .f q s t=>match fpl u with|some p=>bif Nat.beq q p then(match s.pr pins N L with|some (I,L')=>some (I,L',t)|none=>none)else none|none=>none
 |_=>none
theorem fNow_ok{I:Cur}{L L':SL}{Γ:List Type}{T t:Tr P R Γ}{p:PL}(h:fNow pins N I L T=some (p,L',t))(hp:okL p):(fpl I).isSome=true/\(∀W Q X G a w,St W Q X G pins N L a w->St W Q X G pins N L' a w)/\∀ρ,T.run ρ=t.run ρ:=by unfold fNow at h;split at h;(rename_i q s u;split at h;(rename_i J hf;(cases hb:Nat.beq q J with|false=>grind|true=>rw[hb]at h;simp only[cond_true]at h;split at h;(rename_i Z U hs;cases h;exact⟨by rw[hf];rfl,s.ok _ _ _ _ _ hs hp,λ_=>rfl⟩);cases h));cases h);cases h
def chk(N:Nat)(fin:Bool->R->SL->Option PL):Nat->{Γ:List Type}->List Nat->FEnv Γ->List It->Cur->SL->Tr P R Γ->Lg
  |0,_,_,_,_,_,_,_=> .x
  |n+1,Γ,pins,Φ,K,I,L,T=>match tNow N I L T with
   |some (p,L',t)=>qs [p] (chk N fin n pins Φ K I L' t)
   |none=>match T with
    | .b m k=> .a λx=> .h λh=>chk N fin n pins Φ K I L (k x h)
    | .p m u v=> .c (.h λh=>chk N fin n pins Φ K I L (u h)) (.a λx=> .h λh=>chk N fin n pins Φ K I L (v x h))
    | .no=> .e
    |T=>match fNow pins N I L T with
     |some (U,L',t)=>qs U (chk N fin n pins Φ K I L' t)
     |none=>match I with
      | .c c=>match c with
          | .skip=>chk N fin n pins Φ K (.e .normal) L T
          | .ret=>chk N fin n pins Φ K (.e .ret) L T
          | .exit id=>chk N fin n pins Φ K (.e (.exit id)) L T
          | .goto l=>chk N fin n pins Φ K (.e (.goto l)) L T
          | .scope c=>qs [bp (findLabel c (lab c)).isSome] (chk N fin n pins Φ (.s c::K) (.c c) L T)
          | .seq (.label l) b=>match K,T with
            | .s c::K,.l Z F _ B x=>qs (⟨l,lab c⟩::⟨findLabel c (lab c),some (.seq .skip b)⟩::fits Z L (F x)) (.a λq=>chk N fin n pins (Φ.cons F) (.g l Γ.length::K) (.c b) (F q) (B q))
            |_,_=> .x
          | .seq a b=>match rgs a with
           |some (none,y)=>chk N fin n pins Φ K (.r y b) L T
           |some (some x,y)=>chk N fin n pins Φ (.r y b::K) (.c x) L T
           |none=>match T with
            | .j q F J t=>bif Nat.beq q (pc1 b)then .c (chk N fin n pins (Φ.cons F) (.l Γ.length::K) (.c a) L t) (.a λq=>chk N fin n pins Φ K (.c b) (F q) (J q))else chk N fin n pins Φ (.c b::K) (.c a) L T
            |T=>chk N fin n pins Φ (.c b::K) (.c a) L T
          | .block id b=>chk N fin n pins Φ (.b id::K) (.c b) L T
          | .loop b=>match T with
            | .l Z F _ B x=>qs (fits Z L (F x)) (.a λq=>chk N fin n pins (Φ.cons F) (.l Γ.length::K) (.c b) (F q) (B q))
            |_=> .x
          | .cond (.tmp t) a b=>match gt L t with
            | .t (.d (.lit (.bool c)))=>match T with
              | .i q U u v=>bif Nat.beq q (3*t+2)then qs [⟨c,U⟩] (.c (.h λh=>chk N fin n pins Φ K (.c a) (tB t true L) (u h)) (.h λh=>chk N fin n pins Φ K (.c b) (tB t false L) (v h)))else lg2 c (chk N fin n pins Φ K (.c a) L T) (chk N fin n pins Φ K (.c b) L T)
              |T=>lg2 c (chk N fin n pins Φ K (.c a) L T) (chk N fin n pins Φ K (.c b) L T)
            |_=> .x
          | .cond (.const (.bool c)) a b=>lg2 c (chk N fin n pins Φ K (.c a) L T) (chk N fin n pins Φ K (.c b) L T)
          | .region _ ops false=>chk N fin n pins Φ K (.o ops.toList ops.toList) L T
          | .region _ ops true=>qs [bp (backB ops.toList.toArray)] (chk N fin n pins Φ K (.d ops.toList ops.toList []) L T)
          |_=> .x
      | .o l0 []=>chk N fin n pins Φ K (.e .normal) L T
      | .o l0 (op::r)=>match gdX l0.toArray L op (tq T) (op.dst.getD (N+r.length))with
        | .go=>match yX pins N L op (op.dst.getD (N+r.length)) T with
         |some (c,e,t)=>qs c (frX e λe=>chk N fin n pins Φ K (.o l0 r) (setL L e) t)
         |none=>match actX pins N (gt L) op (op.dst.getD (N+r.length)) (match op.dst with|some d=>wants d r|none=>false) T with
          |some (c,e,t)=>qs c (frX e λe=>chk N fin n pins Φ K (.o l0 r) (setL L e) t)
          |none=> .x
        | .skip=>match op.dst with
          |some d=>qs [bp (okD N pins (gt L) d)] (chk N fin n pins Φ K (.o l0 r) ((d,.tup [])::L) T)
          |none=> .x
        | .ask t c=>match T with
          | .i _ U u v=>qs [⟨c,U⟩] (.c (.h λh=>chk N fin n pins Φ K I (tB t true L) (u h)) (.h λh=>chk N fin n pins Φ K I (tB t false L) (v h)))
          |_=> .x
        | .bad=> .x
      | .d l0 [] acc=>qs [bp (okB l0 acc.reverse)] (chk N fin n pins Φ K (.e .normal) L T)
      | .d l0 (op::r) acc=>frcNs (hkX (op.dst.getD (N+r.length)) T++zSe l0.toArray (gt L) op) λTs=>match gdX l0.toArray L op (tq T) (op.dst.getD (N+r.length))with
        | .go=>match actX pins N (mask Ts (gt L)) op (op.dst.getD (N+r.length)) (match op.dst with|some d=>wants d r|none=>false) T with
          |some (c,e,t)=>qs (bp ((keys e).all Ts.contains)::c) (frX e λe=>frcNs (keys e) λks=>chk N fin n pins Φ K (.d l0 r ((Ts,ks)::acc)) (setL L e) t)
          |none=> .x
        | .skip=>match op.dst with
          |some d=>qs [bp (okD N pins (gt L) d)] (chk N fin n pins Φ K (.d l0 r ((Ts,[d])::acc)) ((d,.tup [])::L) T)
          |none=> .x
        | .ask t c=>match T with
          | .i _ U u v=>qs [⟨c,U⟩] (.c (.h λh=>chk N fin n pins Φ K I (tB t true L) (u h)) (.h λh=>chk N fin n pins Φ K I (tB t false L) (v h)))
          |_=> .x
        | .bad=> .x
      | .r y z=>match T with
        | .rr s c t x0=>match pins with
          |d::pins=>match s.pr N y L with
            |some (p,b,LA)=>qs (⟨d,DK⟩::bp (!pins.contains DK)::⟨b,c⟩::bp (K.all λi=> !i.isA)::p) (.c (.h λh=>chk N fin n pins Φ [.kk] (.c z) LA (t h)) (.h λ_:c=false=>match fin false x0 LA with
              |some q=>qs q .e
              |none=> .x))
            |none=> .x
          |[]=> .x
        |_=> .x
      | .e e=>match K with
          |[]=>match e,T with
            | .ret,.r x=>match fin false x L with
              |some c=>qs c .e
              |none=> .x
            | .normal,.r x=>match fin true x L with
              |some c=>qs c .e
              |none=> .x
            |_,_=> .x
          | .c b::K=>match e with
            | .normal=>chk N fin n pins Φ K (.c b) L T
            |e=>chk N fin n pins Φ K (.e e) L T
          | .b id::K=>match e with
            | .exit W=>bif Nat.beq W id then chk N fin n pins Φ K (.e .normal) L T else chk N fin n pins Φ K (.e (.exit W)) L T
            |e=>chk N fin n pins Φ K (.e e) L T
          | .a b::K=>match e with
            | .normal=>chk N fin n pins Φ K (.c b) L T
            |_=> .x
          | .kk::K=>match e with
            | .ret=>chk N fin n pins Φ K (.e .ret) L T
            |_=> .x
          | .r y z::K=>match e with
            | .normal=>chk N fin n pins Φ K (.r y z) L T
            |e=>chk N fin n pins Φ K (.e e) L T
          | .s c::K=>match e with
            | .goto _=> .x
            |e=>chk N fin n pins Φ K (.e e) L T
          | .g l k::K=>match e with
            | .goto l'=>match T with
              | .n Z m x=>qs (⟨l',l⟩::⟨lev m,k⟩::fits Z L (Φ _ m x)) .e
              |_=> .x
            |e=>chk N fin n pins Φ K (.e e) L T
          | .l k::K=>match e with
            | .normal=>match T with
              | .n Z m x=>qs (⟨lev m,k⟩::fits Z L (Φ _ m x)) .e
              |_=> .x
            |e=>chk N fin n pins Φ K (.e e) L T
end
section
variable {P:Program}{pins:List Nat}{N:Nat}{Q:Exit->SL->Prop}{L L':SL}
def Clo(pins:List Nat)(N:Nat)(Q:SL->Prop)(L:SL):Prop:=∃L',Q L'/\∀W m0 X G a w,St W m0 X G pins N L a w->St W m0 X G pins N L' a w
theorem Clo.mk{Q:SL->Prop}(h:Q L):Clo pins N Q L:=⟨L,h,λ_ _ _ _ _ _ h=>h⟩
theorem Clo.to{Q:SL->Prop}(h:Clo pins N Q L')(k:∀W m0 X G a w,St W m0 X G pins N L a w->St W m0 X G pins N L' a w):Clo pins N Q L:=
 let⟨u,a,b⟩:=h
 ⟨u,a,λW m0 X G a w h=>b _ _ _ _ _ _ (k _ _ _ _ _ _ h)⟩
theorem St.eq(e:gt L=gt L')(h:St w0 m0 o0 G pins N L a w):St w0 m0 o0 G pins N L' a w:=by unfold St at h⊢;grind
theorem zQK{c:Code}(k:∀W m0 X G a w,St W m0 X G pins N L a w->St W m0 X G pins N L' a w)(h:qK P pins N c Q L'):qK P pins N c Q L:=
 λu J U W m0 X G a w I=>h u J U W m0 X G a w (k _ _ _ _ _ _ I)
theorem zJe{c:Code}{u:Exit->SL->Prop}(hr:∀L',¬u .ret L')(h:qK P pins N c u L)(k:∀e L,u e L->Clo pins N (Q e) L):qK P pins N c Q L:=
 λFe Z hF W m0 X G a w hS=>wpIn_mono (h Fe Z hF W m0 X G a w hS) λe a' w' ⟨L1,hq,I⟩=>by obtain⟨J,h1,U⟩:=k e L1 hq;refine⟨J,h1,?_⟩;cases e<;>first|exact absurd hq (hr _)|exact U _ _ _ _ _ _ I
theorem c_retC(h:Clo pins N (Q .ret) L):qK P pins N .ret Q L:=λFe Z hF W m0 X G a w J=>
 let⟨u,U,I⟩:=h
 wpIn_ret ⟨u,U,.inl (I _ _ _ _ _ _ J)⟩
theorem seq_eq{x y:Code}(e:gt L=gt L')(h:zMP P pins N x y Q L'):zMP P pins N x y Q L:=λu J U W m0 X G a w I=>h u J U W m0 X G a w (I.eq e)
theorem ops_eq{ops:Array Oper}{Q:SL->Prop}:∀{r:List Oper} {L L':SL},gt L=gt L'->zDp P pins N ops (Clo pins N Q) r L'->zDp P pins N ops (Clo pins N Q) r L
 |[],L,L',e,h=>Clo.to h λ_ _ _ _ _ _ J=>J.eq e
 |op::r,L,L',e,⟨b,hy,hb⟩=>by(have u:yes ops op L b:=by unfold yes at hy⊢;rw[e];exact hy);refine⟨b,u,?_⟩;(cases b with|true=>grind|false=>rw[if_neg (by simp)]at hb⊢;obtain⟨d,U,I,Z⟩:=hb;exact⟨d,U,by rw[e];exact I,ops_eq (by rw[zR,zR,e]) Z⟩)
theorem gt_set:∀(e:Eff) {L L':SL},gt L=gt L'->gt (setL L e)=gt (setL L' e):=λe L L' h=>by rw[zQe,zQe,h]
theorem dok_eq{l0:List Oper}{Q:SL->Prop}:∀{r:List Oper} {acc:List (List Nat×List Nat)} {L L':SL},gt L=gt L'->DOK P pins N l0 (Clo pins N Q) r acc L'->DOK P pins N l0 (Clo pins N Q) r acc L
 |[],_,L,L',e,⟨u,I⟩=>⟨u,Clo.to I λ_ _ _ _ _ _ U=>U.eq e⟩
 |op::r,acc,L,L',e,⟨T,J,u,I⟩=>⟨T,J,by rw[e];exact u,dok_eq (gt_set J e) I⟩
theorem zTx{t:Nat}{b:Bool}(h:gt L t= .t (.d (.lit (.bool b)))):gt L=gt (tB t b L):=by unfold tB;rw[zR];funext s;unfold upd;grind
theorem c_kT{x y:Code}(b:Bool)(h:qK P pins N (bif b then x else y) Q L):qK P pins N (.cond (.const (.bool b)) x y) Q L:=by intro u J U W m0 X G a w I;have e:a.eval (.const (.bool b))= .bool b:=rfl;refine wpIn_cond_split e (λe=> ?_) (λe=> ?_);subst e;exact h u J U W m0 X G a w I;subst e;exact h u J U W m0 X G a w I
theorem c_lpT{X R:Type}{c:Code}(F:X->SL)(M:Nat->X->Option R)(n0:Nat)(I:X){r:R}(h0:M n0 I=some r)(hz:∀x,M 0 x=none)(hw:WkS L (F I))(hr:zHi (F I)=true)
(u:∀n x,M (n+1) x=some r->qK P pins N c (zIx (λL'=>∃x',M n x'=some r/\WkS L' (F x')/\zHi (F x')=true) Q) (F x)):qK P pins N (.loop c) Q L:=by
 intro Fe ne hF W m0 o0 G a w hS
 refine c_loopR (L:=F I) (λn L=>∃x,M n x=some r/\L=F x) n0 ⟨I,h0,rfl⟩ ?_ Fe ne hF W m0 o0 G a w (St.weaken hS hw hr)
 rintro n L ⟨x,U,rfl⟩
 cases n with
  |zero=>rw[hz]at U;cases U
  |succ n=>
   intro Fe ne hF W m0 o0 G a w hS
   refine wpIn_mono (u n x U Fe ne hF W m0 o0 G a w hS) ?_
   rintro e a' w' ⟨L',hq,Z⟩
   refine⟨L',?_,Z⟩
   cases e with
    |normal=>
     obtain⟨x',β,J,α⟩:=hq
     exact⟨n,F x',Nat.lt_succ_self n,⟨x',β,rfl⟩,λ_ _ _ _ _ _ h=>St.weaken h J α⟩
    |_=>exact hq
theorem c_labT{X R:Type}{c b:Code}{l:Nat}(F:X->SL)(M:Nat->X->Option R)(n0:Nat)(I:X){r:R}(hf:findLabel c l=some (.seq .skip b))(h0:M n0 I=some r)(hz:∀x,M 0 x=none)(hw:WkS L (F I))(hr:zHi (F I)=true)
(u:∀n x,M (n+1) x=some r->qK P pins N b (zMd l (λL'=>∃x',M n x'=some r/\WkS L' (F x')/\zHi (F x')=true) Q) (F x)):
 qK P pins N (.seq (.label l) b) (zMd l (zH6 P pins N c (.seq .skip b) Q) Q) L:=by
 have α:∀n x,M n x=some r->qK P pins N b (zMd l (zH6 P pins N c (.seq .skip b) Q) Q) (F x):=by intro n;(induction n with|zero=>grind|succ n ih=>intro x hx;refine zOb (u n x hx) λe L' hq=> ?_;(cases e with|goto l'=>obtain⟨rfl,x',hM,q3,q4⟩:=hq;refine⟨rfl,λZ U hF W m0 o0 G a w J=> ?_⟩;have hc:qK P pins N (.seq .skip b) (zMd l' (zH6 P pins N c (.seq .skip b) Q) Q) (F x'):=zOv (c_skip (ih x' hM));exact scope_of hf hc Z U hF W m0 o0 G a w (J.weaken q3 q4)|_=>exact hq))
 intro Z U hF W m0 o0 G a w J
 exact zOv (Q:=zMd l (zH6 P pins N c (.seq .skip b) Q) Q) (λZ U hF W m0 o0 G a w J=>wpIn_label ⟨F I,α n0 I h0,J⟩) Z U hF W m0 o0 G a w (J.weaken hw hr)
theorem c_joinT{x y:Code}{I:SL->Prop}(h:qK P pins N x (zIx I Q) L)(U:∀L',I L'->∃J,qK P pins N y Q J/\∀W m0 X G a w,St W m0 X G pins N L' a w->St W m0 X G pins N J a w):qK P pins N (.seq x y) Q L:=by refine zOv λFe Z hF W m0 X G a w hS=>wpIn_mono (h Fe Z hF W m0 X G a w hS) ?_;rintro e a' w' ⟨L',hq,u⟩;(cases e with|normal=>obtain⟨J,h3,h4⟩:=U L' hq;exact⟨J,h3,h4 _ _ _ _ _ _ u⟩|_=>exact⟨L',hq,u⟩)
end
section
variable (P:Program)(pins:List Nat)(N:Nat)(E:Nat->SL->Prop)(Q0:Exit->SL->Prop)
def Qs:List It->Exit->SL->Prop
 |[]=>Q0
 | .c y::s=>zIx (qK P pins N y (Qs s)) (Qs s)
 | .b id::s=>zKb id (Qs s)
 | .l k::s=>zIx (E k) (Qs s)
 | .s c::s=>zMd (lab c) (zH6 P pins N c (labR c) (Qs s)) (Qs s)
 | .g l k::s=>zMd l (E k) (Qs s)
 | .a y::s=>λe L=>e= .normal/\qK P pins N y (Qs s) L
 | .kk::s=>λe L=>e= .ret/\Qs s e L
 | .r y z::s=>zIx (zMP P pins N y z (Qs s)) (Qs s)
def Goal(K:List It):Cur->SL->Prop
 | .c c,L=>qK P pins N c (Qs P pins N E Q0 K) L
 | .o l0 r,L=>zDp P pins N l0.toArray (Clo pins N (Qs P pins N E Q0 K .normal)) r L
 | .d l0 r acc,L=>DOK P pins N l0 (Clo pins N (Qs P pins N E Q0 K .normal)) r acc L
 | .e e,L=>Clo pins N (Qs P pins N E Q0 K e) L
 | .r y z,L=>zMP P pins N y z (Qs P pins N E Q0 K) L
end
def xb:Bool->Exit
 |true=> .normal
 |false=> .ret
theorem Qs_ret{E:Nat->SL->Prop}{Q0:Exit->SL->Prop}(h:Q0 .ret L):∀{K:List It},(K.all λi=> !i.isA)=true->Qs P pins N E Q0 K .ret L
 |[],_=>h
 |i::s,hk=>by simp only[uV,wI]at hk;have g:Qs P pins N E Q0 s .ret L:=Qs_ret h hk.2;(cases i with|kk=>exact⟨rfl,g⟩|a c=>cases hk.1|_=>exact g)
def It.lv:It->Option Nat
 | .l k=>some k
 | .g _ k=>some k
 |_=>none
def KOK(K:List It)(n:Nat):Prop:=∀i∈K,∀k,i.lv=some k->k<n
theorem KOK.p{i:It}{K:List It}{n:Nat}(h:KOK K n)(hi:i.lv=none):KOK (i::K) n:=λj hj k hk=>by rcases vL.1 hj with rfl|hj;rw[hi]at hk;cases hk;exact h j hj k hk
theorem KOK.j{i:It}{K:List It}{n:Nat}(h:KOK K n)(hi:i.lv=some n):KOK (i::K) (n+1):=λj hj k hk=>by rcases vL.1 hj with rfl|hj;rw[hi]at hk;injection hk with hk;omega;have:=h j hj k hk;omega
theorem KOK.t{i:It}{K:List It}{n:Nat}(h:KOK (i::K) n):KOK K n:=λj u=>h j (vG _ u)
theorem zOd{E I:Nat->SL->Prop}{Q0:Exit->SL->Prop}{n:Nat}(u:∀k,k<n->E k=I k):∀{K:List It},KOK K n->Qs P pins N E Q0 K=Qs P pins N I Q0 K
 |[],_=>rfl
 | .c y::s,h=>by unfold Qs;rw[zOd u h.t]
 | .b id::s,h=>by unfold Qs;rw[zOd u h.t]
 | .l k::s,h=>by unfold Qs;rw[zOd u h.t,u k (h _ (tT ..) k rfl)]
 | .s c::s,h=>by unfold Qs;rw[zOd u h.t]
 | .g l k::s,h=>by unfold Qs;rw[zOd u h.t,u k (h _ (tT ..) k rfl)]
 | .a y::s,h=>by unfold Qs;rw[zOd u h.t]
 | .kk::s,h=>by unfold Qs;rw[zOd u h.t]
 | .r y z::s,h=>by unfold Qs;rw[zOd u h.t]
theorem Goal.eq{E:Nat->SL->Prop}{Q0:Exit->SL->Prop}{K:List It}{u:Cur}{L L':SL}(e:gt L=gt L')(h:Goal P pins N E Q0 K u L'):Goal P pins N E Q0 K u L:=by(cases u with|c c=>exact zQK (λ_ _ _ _ _ _ I=>I.eq e) h|o l0 r=>exact ops_eq e h|d l0 r acc=>exact dok_eq e h|e x=>exact Clo.to h λ_ _ _ _ _ _ I=>I.eq e|r y z=>exact seq_eq e h)
theorem Goal.to{E:Nat->SL->Prop}{Q0:Exit->SL->Prop}{K:List It}{u:Cur}{L L':SL}(I:(fpl u).isSome=true)(k:∀W Q X G a w,St W Q X G pins N L a w->St W Q X G pins N L' a w)(h:Goal P pins N E Q0 K u L'):Goal P pins N E Q0 K u L:=by(cases u with|c c=>exact zQK k h|e x=>exact Clo.to h k|_=>cases I)
section
variable {P:Program}{R:Type}{N:Nat}{fin:Bool->R->SL->Option PL}{r:R}{Q0:Exit->SL->Prop}
theorem zRe{ops:Array Oper}{l:List Nat}{j t:Nat}{w:Bool}(u:op.guard=some (j,w))(ht:(ops[j]?).bind (·.dst)=some t):t∈l++zSe ops S op:=by unfold zSe;grind
theorem zSo{ops:Array Oper}{l:List Nat}{d:Nat}(hd:op.dst=some d):d∈l++zSe ops S op:=by unfold zSe;grind
theorem zSz (hm : P.follows .mixedOrders = true) (θ : ∀ b x L c, fin b x L = some c → okL c → x = r → Q0 (xb b) L) : ∀ (n : Nat) {Γ : List Type} (pins : List Nat) (Φ : FEnv Γ) (ρ : Env R Γ) (E : Nat → SL → Prop) (K : List It) (δ : Cur) (L : SL) (T : Tr P R Γ),
    KOK K Γ.length → (∀ X m x, ρ X m x = some r → ∀ L, WkS L (Φ X m x) → zHi (Φ X m x) = true → E (lev m) L) →
    (chk N fin n pins Φ K δ L T).ok → T.run ρ = some r → Goal P pins N E Q0 K δ L := by
  intro n
  induction n with
  | zero => intro Γ pins Φ ρ E K δ L T _ _ h _; exact lg_x h
  | succ n W =>
    intro Γ pins Φ ρ E K δ L T Z U h hr
    unfold chk at h
    split at h
    · -- told otherwise
      rename_i p L' t ht
      obtain ⟨I, h⟩ := zD1 h
      obtain ⟨e, μ⟩ := tNow_ok ht I.1
      exact Goal.eq e (W pins Φ ρ E K δ L' t Z U h (by rw [← μ]; exact hr))
    rename_i η
    clear η
    split at h
    · -- a bind
      rename_i α m k
      have hr : Option.pbind m (fun x h => (k x h).run ρ) = some r := hr
      cases ε : m with
      | none => subst ε; cases hr
      | some x =>
        subst ε
        exact W pins Φ ρ E K δ L _ Z U (lg_h (lg_a h x) rfl) hr
    · rename_i m u v
      obtain ⟨I, h2⟩ := lg_c h
      have hr : odite m (fun h => (u h).run ρ) (fun x h => (v x h).run ρ) = some r := hr
      cases ε : m with
      | none => subst ε; exact W pins Φ ρ E K δ L _ Z U (lg_h I rfl) hr
      | some x => subst ε; exact W pins Φ ρ E K δ L _ Z U (lg_h (lg_a h2 x) rfl) hr
    · cases hr
    split at h
    · rename_i c' L' t hs
      obtain ⟨I, h⟩ := zD1 h
      obtain ⟨hf, k, μ⟩ := fNow_ok hs I
      exact Goal.to hf k (W pins Φ ρ E K δ L' t Z U h (by rw [← μ]; exact hr))
    · rename_i η
      clear η
      split at h
      · -- code
        rename_i c
        next =>
          split at h
          · exact zJe (fun _ h => by cases h.1) (c_skip (Q := fun e L' => e = .normal ∧ Clo pins N (Qs P pins N E Q0 K .normal) L') ⟨rfl, W pins Φ ρ E K (.e .normal) L T Z U h hr⟩) fun e L' h => by obtain ⟨rfl, h⟩ := h; exact h
          · exact c_retC (W pins Φ ρ E K (.e .ret) L T Z U h hr)
          · rename_i id
            exact zJe (fun _ h => by cases h.1) (c_exit (Q := fun e L' => e = .exit id ∧ Clo pins N (Qs P pins N E Q0 K (.exit id)) L') ⟨rfl, W pins Φ ρ E K (.e (.exit id)) L T Z U h hr⟩) fun e L' h => by obtain ⟨rfl, h⟩ := h; exact h
          · rename_i l
            exact zJe (fun _ h => by cases h.1) (c_goto (Q := fun e L' => e = .goto l ∧ Clo pins N (Qs P pins N E Q0 K (.goto l)) L') ⟨rfl, W pins Φ ρ E K (.e (.goto l)) L T Z U h hr⟩) fun e L' h => by obtain ⟨rfl, h⟩ := h; exact h
          · rename_i c
            obtain ⟨I, h⟩ := zD1 h
            have I : (findLabel c (lab c)).isSome = true := I.1
            refine c_scope (lab c) (labR c) ?_ (W pins Φ ρ E (.s c :: K) (.c c) L T (Z.p rfl) U h hr)
            unfold labR
            cases hf : findLabel c (lab c) with
            | none => rw [hf] at I; cases I
            | some x => rfl
          · rename_i l b
            split at h
            · rename_i c K X ws F k B x _ _ _
              obtain ⟨I, h⟩ := zD1 h
              obtain ⟨I, h2, h3⟩ := I
              have I : l = lab c := I
              have h2 : findLabel c (lab c) = some (.seq .skip b) := h2
              have ψ : labR c = .seq .skip b := by unfold labR; rw [h2]; rfl
              show qK P pins N (.seq (.label l) b) (zMd (lab c) (zH6 P pins N c (labR c) (Qs P pins N E Q0 K)) (Qs P pins N E Q0 K)) L
              rw [ψ, I]
              have σ : KOK K Γ.length := Z.t
              refine c_labT F (lpn fun k x => (B x).run (ρ.cons k)) k x h2 hr (fun _ => rfl) (zMX h3.2) h3.1 fun n' q hq => ?_
              let E' : Nat → SL → Prop := fun i L => if i = Γ.length then ∃ x', lpn (fun k x => (B x).run (ρ.cons k)) n' x' = some r ∧ WkS L (F x') ∧ zHi (F x') = true else E i L
              have κ : ∀ k, k < Γ.length → E' k = E k := fun k hk => by
                funext L
                show (if k = Γ.length then _ else _) = _
                rw [if_neg (by omega)]
              have g := W pins (Φ.cons F) (ρ.cons (lpn (fun k x => (B x).run (ρ.cons k)) n')) E' (.g l Γ.length :: K) (.c b) (F q) (B q) (σ.j rfl) (fun X m x hx L I h2 => by
                cases m with
                | z => show (if _ then _ else _); rw [if_pos (by rfl)]; exact ⟨x, hx, I, h2⟩
                | s m =>
                  have := zTa m
                  show (if lev m = _ then _ else _)
                  rw [if_neg (by omega)]
                  exact U X m x hx L I h2) (lg_a h q) hq
              have g : qK P pins N b (zMd l (E' Γ.length) (Qs P pins N E' Q0 K)) (F q) := g
              rw [zOd κ σ, I] at g
              have e1 : E' Γ.length = fun L' => ∃ x', lpn (fun k x => (B x).run (ρ.cons k)) n' x' = some r ∧ WkS L' (F x') ∧ zHi (F x') = true := by
                funext L'
                show (if Γ.length = Γ.length then _ else _) = _
                rw [if_pos rfl]
              grind
            · exact lg_x h
          · rename_i a b _
            split at h
            · rename_i y hy
              have e : a = y := rgs_eq hy
              subst e
              exact zMP.ok (W pins Φ ρ E K (.r a b) L T Z U h hr)
            · rename_i x y hy
              have e : a = .seq x y := rgs_eq hy
              subst e
              exact c_seqR (W pins Φ ρ E (.r y b :: K) (.c x) L T (Z.p rfl) U h hr)
            rename_i τ
            clear τ
            split at h
            · rename_i X q F J t _ _ _
              cases hq : Nat.beq q (pc1 b) with
              | false =>
                rw [hq] at h
                exact zOv (W pins Φ ρ E (.c b :: K) (.c a) L _ (Z.p rfl) U h hr)
              | true =>
              rw [hq] at h
              obtain ⟨I, h2⟩ := lg_c h
              let E' : Nat → SL → Prop := fun i L => if i = Γ.length then ∃ x, (J x).run ρ = some r ∧ WkS L (F x) ∧ zHi (F x) = true else E i L
              have κ : ∀ k, k < Γ.length → E' k = E k := fun k hk => by
                funext L
                show (if k = Γ.length then _ else _) = _
                rw [if_neg (by omega)]
              have g := W pins (Φ.cons F) (ρ.cons fun x => (J x).run ρ) E' (.l Γ.length :: K) (.c a) L t (Z.j rfl) (fun X m x hx L I h2 => by
                cases m with
                | z => show (if _ then _ else _); rw [if_pos (by rfl)]; exact ⟨x, hx, I, h2⟩
                | s m =>
                  have := zTa m
                  show (if lev m = _ then _ else _)
                  rw [if_neg (by omega)]
                  exact U X m x hx L I h2) I hr
              have g : qK P pins N a (zIx (E' Γ.length) (Qs P pins N E' Q0 K)) L := g
              rw [zOd κ Z] at g
              refine c_joinT g fun L' hq => ?_
              have hq : (if Γ.length = Γ.length then ∃ x, (J x).run ρ = some r ∧ WkS L' (F x) ∧ zHi (F x) = true else E Γ.length L') := hq
              rw [if_pos rfl] at hq
              obtain ⟨x, q1, q2, q3⟩ := hq
              exact ⟨F x, W pins Φ ρ E K (.c b) (F x) (J x) Z U (lg_a h2 x) q1, fun _ _ _ _ _ _ hS => hS.weaken q2 q3⟩
            · exact zOv (W pins Φ ρ E (.c b :: K) (.c a) L T (Z.p rfl) U h hr)
          · rename_i id b
            exact c_block (W pins Φ ρ E (.b id :: K) (.c b) L T (Z.p rfl) U h hr)
          · rename_i b
            split at h
            · rename_i X ws F k B x _ _ _
              obtain ⟨I, h⟩ := zD1 h
              refine c_lpT F (lpn fun k x => (B x).run (ρ.cons k)) k x hr (fun _ => rfl) (zMX I.2) I.1 fun n' q hq => ?_
              let E' : Nat → SL → Prop := fun i L => if i = Γ.length then ∃ x', lpn (fun k x => (B x).run (ρ.cons k)) n' x' = some r ∧ WkS L (F x') ∧ zHi (F x') = true else E i L
              have κ : ∀ k, k < Γ.length → E' k = E k := fun k hk => by
                funext L
                show (if k = Γ.length then _ else _) = _
                rw [if_neg (by omega)]
              have g := W pins (Φ.cons F) (ρ.cons (lpn (fun k x => (B x).run (ρ.cons k)) n')) E' (.l Γ.length :: K) (.c b) (F q) (B q) (Z.j rfl) (fun X m x hx L I h2 => by
                cases m with
                | z => show (if _ then _ else _); rw [if_pos (by rfl)]; exact ⟨x, hx, I, h2⟩
                | s m =>
                  have := zTa m
                  show (if lev m = _ then _ else _)
                  rw [if_neg (by omega)]
                  exact U X m x hx L I h2) (lg_a h q) hq
              have g : qK P pins N b (zIx (E' Γ.length) (Qs P pins N E' Q0 K)) (F q) := g
              rw [zOd κ Z] at g
              grind
            · exact lg_x h
          · rename_i t a b
            split at h
            · rename_i c hc
              have lit : (lg2 c (chk N fin n pins Φ K (.c a) L T) (chk N fin n pins Φ K (.c b) L T)).ok → qK P pins N (.cond (.tmp t) a b) (Qs P pins N E Q0 K) L := fun h => by
                cases c with
                | true => exact c_t rfl hc (W pins Φ ρ E K (.c a) L T Z U h hr)
                | false => exact c_f rfl hc (W pins Φ ρ E K (.c b) L T Z U h hr)
              split at h
              · rename_i q c' u v _ _ _
                cases hq : Nat.beq q (3 * t + 2) with
                | false => rw [hq] at h; exact lit h
                | true =>
                  rw [hq] at h
                  obtain ⟨I, h⟩ := zD1 h
                  have I : c = c' := I.1
                  subst I
                  obtain ⟨I, h2⟩ := lg_c h
                  cases c with
                  | true => exact c_t rfl hc (zQK (fun _ _ _ _ _ _ hS => hS.eq (zTx hc)) (W pins Φ ρ E K (.c a) _ _ Z U (lg_h I rfl) hr))
                  | false => exact c_f rfl hc (zQK (fun _ _ _ _ _ _ hS => hS.eq (zTx hc)) (W pins Φ ρ E K (.c b) _ _ Z U (lg_h h2 rfl) hr))
              · exact lit h
            · exact lg_x h
          · rename_i c a b
            cases c with
            | true => exact c_kT true (W pins Φ ρ E K (.c a) L T Z U h hr)
            | false => exact c_kT false (W pins Φ ρ E K (.c b) L T Z U h hr)
          · rename_i id ops
            have g : zDp P pins N ops.toList.toArray _ ops.toList L := W pins Φ ρ E K (.o ops.toList ops.toList) L T Z U h hr
            have g2 := zNk (id := id) (Q := fun e L' => e = .normal ∧ Clo pins N (Qs P pins N E Q0 K .normal) L') (l := ops.toList) (by
              have : ∀ {r : List Oper} {L : SL}, zDp P pins N ops.toList.toArray (Clo pins N (Qs P pins N E Q0 K .normal)) r L → zDp P pins N ops.toList.toArray (fun L' => Exit.normal = .normal ∧ Clo pins N (Qs P pins N E Q0 K .normal) L') r L := by
                grind
              exact this g)
            rw [tY] at g2
            exact zJe (fun _ h => by cases h.1) g2 fun e L' h => by obtain ⟨rfl, h⟩ := h; exact h
          · rename_i id ops
            obtain ⟨I, h⟩ := zD1 h
            have g : DOK P pins N ops.toList _ ops.toList [] L := W pins Φ ρ E K (.d ops.toList ops.toList []) L T Z U h hr
            have g2 := c_draw (id := id) (Q := fun e L' => e = .normal ∧ Clo pins N (Qs P pins N E Q0 K .normal) L') hm I.1 (by
              have : ∀ {r : List Oper} {acc : List (List Nat × List Nat)} {L : SL}, DOK P pins N ops.toList (Clo pins N (Qs P pins N E Q0 K .normal)) r acc L → DOK P pins N ops.toList (fun L' => Exit.normal = .normal ∧ Clo pins N (Qs P pins N E Q0 K .normal) L') r acc L := by
                grind
              exact this g)
            rw [tY] at g2
            exact zJe (fun _ h => by cases h.1) g2 fun e L' h => by obtain ⟨rfl, h⟩ := h; exact h
          · exact lg_x h
      · exact W pins Φ ρ E K (.e .normal) L T Z U h hr
      · -- a plain region
        rename_i l0 op l
        split at h
        · rename_i hg
          have hy : yes l0.toArray op L true := by
            rcases gdX_go hg with h | ⟨j, w, t, I, h2, h3⟩
            · exact g0 h
            · exact gy I h2 h3 rfl
          split at h
          · rename_i c e t ha
            obtain ⟨I, h⟩ := zD1 h
            obtain ⟨h2, h3⟩ := yX_ok ha I
            rw [zRW] at h
            exact o_ofY hy h2 rfl (W pins Φ ρ E K (.o l0 l) (setL L e) t Z U h (by rw [← h3]; exact hr))
          rename_i φ
          clear φ
          split at h
          · rename_i c e t ha
            obtain ⟨I, h⟩ := zD1 h
            obtain ⟨h2, h3⟩ := actX_ok (Mk.refl _) (fun _ _ => rfl) ha I
            rw [zRW] at h
            exact o_of hy h2 rfl (W pins Φ ρ E K (.o l0 l) (setL L e) t Z U h (by rw [← h3]; exact hr))
          · exact lg_x h
        · rename_i hg
          split at h
          · rename_i d hd
            obtain ⟨I, h⟩ := zD1 h
            have k := W pins Φ ρ E K (.o l0 l) ((d, .tup []) :: L) T Z U h hr
            obtain ⟨j, w, t, q1, q2, q3⟩ := zTm hg
            rcases q3 with q3 | q3
            · exact o_skip q1 q2 q3 rfl hd I.1 k
            · exact o_un q1 q2 q3 hd I.1 k
          · exact lg_x h
        · rename_i t c hg
          have hc := gdX_ask hg
          split at h
          · rename_i q c' u v _ _ _
            obtain ⟨I, h⟩ := zD1 h
            have I : c = c' := I.1
            subst I
            obtain ⟨I, h2⟩ := lg_c h
            cases c with
            | true => exact Goal.eq (zTx hc) (W pins Φ ρ E K (.o l0 (op :: l)) _ _ Z U (lg_h I rfl) hr)
            | false => exact Goal.eq (zTx hc) (W pins Φ ρ E K (.o l0 (op :: l)) _ _ Z U (lg_h h2 rfl) hr)
          · exact lg_x h
        · exact lg_x h
      · rename_i l0 acc
        obtain ⟨I, h⟩ := zD1 h
        exact ⟨okB_ord I.1, W pins Φ ρ E K (.e .normal) L T Z U h hr⟩
      · -- a drawn region
        rename_i l0 op l acc
        rw [zQQ] at h
        split at h
        · rename_i hg
          split at h
          · rename_i c e t ha
            obtain ⟨I, h⟩ := zD1 h
            rw [zRW, zQQ] at h
            obtain ⟨h0, I⟩ := I
            generalize π : hkX (op.dst.getD (N + l.length)) T ++ zSe l0.toArray (gt L) op = Ts at *
            have ζ : ∀ S', (∀ t ∈ Ts, S' t = gt L t) → OpH P pins N op S' (app S' e) ∧ ∀ ρ, T.run ρ = t.run ρ := fun S' hS => by
              refine actX_ok (mask_Mk hS) (fun d hd => ?_) ha I
              have ν : d ∈ Ts := by rw [← π]; exact zSo hd
              unfold mask
              rw [if_pos (by simpa using ν), hS d ν]
            have ξ := (ζ (gt L) fun _ _ => rfl).2
            refine ⟨Ts, e, ⟨all_T h0, ?_⟩, W pins Φ ρ E K (.d l0 l _) (setL L e) t Z U h (by rw [← ξ]; exact hr)⟩
            rcases gdX_go hg with h | ⟨j, w, t, q1, q2, q3⟩
            · exact .inl ⟨h, fun S' hS => (ζ S' hS).1⟩
            · exact .inr (.inl ⟨j, w, t, q1, q2, by rw [← π]; exact zRe q1 q2, .inl ⟨q3, fun S' hS => (ζ S' hS).1⟩⟩)
          · exact lg_x h
        · rename_i hg
          split at h
          · rename_i d hd
            obtain ⟨I, h⟩ := zD1 h
            have k := W pins Φ ρ E K (.d l0 l _) ((d, .tup []) :: L) T Z U h hr
            obtain ⟨j, w, t, q1, q2, q3⟩ := zTm hg
            refine ⟨_, [(d, .tup [])], ⟨fun x hx => ?_, .inr (.inl ⟨j, w, t, q1, q2, zRe q1 q2, .inr ⟨q3, d, hd, zSo hd, I.1, rfl⟩⟩)⟩, k⟩
            simp [keys] at hx
            subst hx
            exact zSo hd
          · exact lg_x h
        · rename_i t c hg
          have hc := gdX_ask hg
          split at h
          · rename_i q c' u v _ _ _
            obtain ⟨I, h⟩ := zD1 h
            have I : c = c' := I.1
            subst I
            obtain ⟨I, h2⟩ := lg_c h
            cases c with
            | true => exact Goal.eq (zTx hc) (W pins Φ ρ E K (.d l0 (op :: l) acc) _ _ Z U (lg_h I rfl) hr)
            | false => exact Goal.eq (zTx hc) (W pins Φ ρ E K (.d l0 (op :: l) acc) _ _ Z U (lg_h h2 rfl) hr)
          · exact lg_x h
        · exact lg_x h
      · -- a range
        rename_i y z
        split at h
        · rename_i s c u x0 _ _ _
          split at h
          · rename_i d β
            split at h
            · rename_i p b LA hs
              obtain ⟨I, hg⟩ := zD1 h
              obtain ⟨q1, q2, q3, q4, q5⟩ := I
              obtain ⟨g1, g2⟩ := lg_c hg
              clear hg h
              have q1 : d = DK := q1
              have q3 : b = c := q3
              have q4 : (K.all fun i => !i.isA) = true := q4
              subst q1 q3
              have χ : DK ∉ β := fun hx => by
                have q2 : (!β.contains DK) = true := q2
                rw [vP] at q2
                simp [hx] at q2
              have hr : zSU b (fun h => (u h).run ρ) (fun _ => some x0) = some r := hr
              refine s.ok β N y z L p b LA _ hs q5 χ (fun hb => ?_) (fun hb => ?_)
              · subst hb
                have g : qK P β N z (fun e L => e = .ret ∧ Q0 e L) LA := W β Φ ρ E [.kk] (.c z) LA (u rfl) (fun i hi k hk => by
                  rw [tH] at hi
                  subst hi
                  cases hk) U (lg_h g1 rfl) hr
                exact zOb g fun e L' ⟨he, hq⟩ => by
                  subst he
                  exact ⟨rfl, Qs_ret hq q4⟩
              · subst hb
                have h2 := lg_h g2 rfl
                have hr : some x0 = some r := hr
                injection hr with hr
                split at h2
                · rename_i c hc
                  obtain ⟨h2, _⟩ := zD1 h2
                  exact Qs_ret (θ false _ _ _ hc h2 hr) q4
                · exact lg_x h2
            · exact lg_x h
          · exact lg_x h
        · exact lg_x h
      · -- code is left
        rename_i e
        next =>
          split at h
          · split at h
            · rename_i x
              split at h
              · rename_i c hc
                obtain ⟨I, _⟩ := zD1 h
                injection hr with hr
                exact Clo.mk (θ false _ _ _ hc I hr)
              · exact lg_x h
            · rename_i x
              split at h
              · rename_i c hc
                obtain ⟨I, _⟩ := zD1 h
                injection hr with hr
                exact Clo.mk (θ true _ _ _ hc I hr)
              · exact lg_x h
            · exact lg_x h
          · rename_i b K
            split at h
            · exact Clo.mk (W pins Φ ρ E K (.c b) L T Z.t U h hr)
            · rename_i γ
              have g : Clo pins N (Qs P pins N E Q0 K e) L := W pins Φ ρ E K (.e e) L T Z.t U h hr
              show Clo pins N (zIx _ _ e) L
              cases e <;> first | exact absurd rfl γ | exact g
          · rename_i id K
            split at h
            · rename_i ι
              cases hb : Nat.beq ι id with
              | true =>
                rw [hb] at h
                have g : Clo pins N (Qs P pins N E Q0 K .normal) L := W pins Φ ρ E K (.e .normal) L T Z.t U h hr
                obtain ⟨L', g1, g2⟩ := g
                refine ⟨L', ?_, g2⟩
                show (if ι = id then _ else _)
                rw [if_pos (wV hb)]
                exact g1
              | false =>
                rw [hb] at h
                have g : Clo pins N (Qs P pins N E Q0 K (.exit ι)) L := W pins Φ ρ E K (.e (.exit ι)) L T Z.t U h hr
                obtain ⟨L', g1, g2⟩ := g
                refine ⟨L', ?_, g2⟩
                show (if ι = id then _ else _)
                rw [if_neg (fun e => by rw [e, Nat.beq_refl] at hb; cases hb)]
                exact g1
            · rename_i γ
              have g : Clo pins N (Qs P pins N E Q0 K e) L := W pins Φ ρ E K (.e e) L T Z.t U h hr
              show Clo pins N (zKb id _ e) L
              cases e <;> first | exact absurd rfl (γ _) | exact g
          · rename_i b K
            split at h
            · exact Clo.mk ⟨rfl, W pins Φ ρ E K (.c b) L T Z.t U h hr⟩
            · exact lg_x h
          · rename_i K
            split at h
            · obtain ⟨L', g1, g2⟩ := (show Clo pins N (Qs P pins N E Q0 K .ret) L from W pins Φ ρ E K (.e .ret) L T Z.t U h hr)
              exact ⟨L', ⟨rfl, g1⟩, g2⟩
            · exact lg_x h
          · rename_i y z K
            split at h
            · exact Clo.mk (W pins Φ ρ E K (.r y z) L T Z.t U h hr)
            · rename_i γ
              have g : Clo pins N (Qs P pins N E Q0 K e) L := W pins Φ ρ E K (.e e) L T Z.t U h hr
              show Clo pins N (zIx _ _ e) L
              cases e <;> first | exact absurd rfl γ | exact g
          · rename_i c K
            split at h
            · exact lg_x h
            · rename_i γ
              have g : Clo pins N (Qs P pins N E Q0 K e) L := W pins Φ ρ E K (.e e) L T Z.t U h hr
              show Clo pins N (zMd _ _ _ e) L
              cases e <;> first | exact absurd rfl (γ _) | exact g
          · rename_i l k K
            split at h
            · split at h
              · rename_i X ws m x _ _ _
                obtain ⟨I, _⟩ := zD1 h
                obtain ⟨h0, I, h2, h3⟩ := I
                have I : lev m = k := I
                subst I
                exact Clo.mk ⟨h0, U X m x hr L (zMX h3) h2⟩
              · exact lg_x h
            · rename_i γ
              have g : Clo pins N (Qs P pins N E Q0 K e) L := W pins Φ ρ E K (.e e) L T Z.t U h hr
              show Clo pins N (zMd _ _ _ e) L
              cases e <;> first | exact absurd rfl (γ _) | exact g
          · rename_i k K
            split at h
            · split at h
              · rename_i X ws m x _ _ _
                obtain ⟨I, _⟩ := zD1 h
                obtain ⟨I, h2, h3⟩ := I
                have I : lev m = k := I
                subst I
                exact Clo.mk (U X m x hr L (zMX h3) h2)
              · exact lg_x h
            · rename_i γ
              have g : Clo pins N (Qs P pins N E Q0 K e) L := W pins Φ ρ E K (.e e) L T Z.t U h hr
              show Clo pins N (zIx _ _ e) L
              cases e <;> first | exact absurd rfl γ | exact g
end
theorem rn:(∀{P:Program} {R:Type} {Γ:List Type} {ρ:Env R Γ} (x:R),(Tr.r (P:=P) x).run ρ=some x)/\
 (∀{P:Program} {R:Type} {Γ:List Type} {ρ:Env R Γ},(Tr.no (P:=P)).run ρ=none)/\
 (∀{P:Program} {R:Type} {Γ:List Type} {ρ:Env R Γ} {α:Type} (m:Option α) (k:(x:α)->m=some x->Tr P R Γ),(Tr.b m k).run ρ=Option.pbind m λx h=>(k x h).run ρ)/\
 (∀{P:Program} {R:Type} {Γ:List Type} {ρ:Env R Γ} (q:Nat) (c:Bool) (t:c=true->Tr P R Γ) (e:c=false->Tr P R Γ),(Tr.i q c t e).run ρ=zSU c (λh=>(t h).run ρ) (λh=>(e h).run ρ))/\
 (∀{P:Program} {R:Type} {Γ:List Type} {ρ:Env R Γ} (p:Option Nat) (t:p=none->Tr P R Γ) (e:(i:Nat)->p=some i->Tr P R Γ),(Tr.p p t e).run ρ=odite p (λh=>(t h).run ρ) (λi h=>(e i h).run ρ))/\
 (∀{P:Program} {R:Type} {Γ:List Type} {ρ:Env R Γ} (q:Nat) {C:Prop} {x y:A} (u:C) (U:WkA x y) (t:Tr P R Γ),(Tr.w q u U t).run ρ=t.run ρ)/\
 (∀{P:Program} {R:Type} {Γ:List Type} {ρ:Env R Γ} (q:Nat) (y:A) (t:Tr P R Γ),(Tr.g q y t).run ρ=t.run ρ)/\
 (∀{P:Program} {R:Type} {Γ:List Type} {ρ:Env R Γ} (q:Nat) {C:Prop} (u:C) (t:Tr P R Γ),(Tr.c q u t).run ρ=t.run ρ)/\
 (∀{P:Program} {R:Type} {Γ:List Type} {ρ:Env R Γ} (q:Nat) (s:yM P) (t:Tr P R Γ),(Tr.o q s t).run ρ=t.run ρ)/\
 (∀{P:Program} {R:Type} {Γ:List Type} {ρ:Env R Γ} (q:Nat) (s:Bool) (t:Tr P R Γ),(Tr.y q s t).run ρ=t.run ρ)/\
 (∀{P:Program} {R:Type} {Γ:List Type} {ρ:Env R Γ} (q s:Nat) {x y:A} (h:x=y) (t:Tr P R Γ),(Tr.t q s h t).run ρ=t.run ρ)/\
 (∀{P:Program} {R:Type} {Γ:List Type} {ρ:Env R Γ} (q:Nat) (s:zJd P) (t:Tr P R Γ),(Tr.f q s t).run ρ=t.run ρ)/\
 (∀{P:Program} {R:Type} {Γ:List Type} {ρ:Env R Γ} (q:Nat) (s:YRule P) (t:Tr P R Γ),(Tr.vv q s t).run ρ=t.run ρ)/\
 (∀{P:Program} {R:Type} {Γ:List Type} {ρ:Env R Γ} {X:Type} (ws:List Nat) (F:X->SL) (n:Nat) (B:X->Tr P R (X::Γ)) (x:X),(Tr.l ws F n B x).run ρ=lpn (λk x=>(B x).run (ρ.cons k)) n x)/\
 (∀{P:Program} {R:Type} {Γ:List Type} {ρ:Env R Γ} {X:Type} (q:Nat) (F:X->SL) (J:X->Tr P R Γ) (t:Tr P R (X::Γ)),(Tr.j q F J t).run ρ=t.run (ρ.cons λx=>(J x).run ρ))/\
 (∀{P:Program} {R:Type} {Γ:List Type} {ρ:Env R Γ} {X:Type} (ws:List Nat) (m:Jx X Γ) (x:X),(Tr.n (P:=P) ws m x).run ρ=ρ _ m x)/\
 (∀{P:Program} {R:Type} {Γ:List Type} {ρ:Env R Γ} (s:RgRule P) (c:Bool) (t:c=true->Tr P R Γ) (I:R),(Tr.rr s c t I).run ρ=zSU c (λh=>(t h).run ρ) (λ_=>some I))/\
 (∀{R:Type} {Γ:List Type} {ρ:Env R Γ} {X:Type} (k:X->Option R) (x:X),Env.cons ρ k _ .z x=k x)/\
 (∀{R:Type} {Γ:List Type} {ρ:Env R Γ} {X Y:Type} (k:X->Option R) (m:Jx Y Γ) (x:Y),Env.cons ρ k _ (.s m) x=ρ _ m x)/\
 (∀{α β:Type} (o:Option α) (f:α->Option β),Option.pbind o (λa _=>f a)=Option.bind o f)/\
 (∀{α:Type} (c:Bool) (x y:α),zSU c (λ_=>x) (λ_=>y)=bif c then x else y)/\
 (∀{α:Type} (p:Option Nat) (x:Option α) (y:Nat->Option α),odite p (λ_=>x) (λi _=>y i)=ptM p x y):=
 ⟨by intros;rfl,by intros;rfl,by intros;rfl,by intros;rfl,by intros;rfl,by intros;rfl,by intros;rfl,by intros;rfl,by intros;rfl,by intros;rfl,by intros;rfl,by intros;rfl,by intros;rfl,by intros;rfl,by intros;rfl,by intros;rfl,by intros;rfl,by intros;rfl,by intros;rfl,λo f=>by cases o<;>rfl,λc x y=>bdite_c c x y,λp x y=>odite_c p x y⟩
theorem zAl{X R:Type}{f:(X->Option R)->X->Option R}{g:Nat->X->Option R}(h0:∀q,g 0 q=none)(hs:∀n q,f (g n) q=g (n+1) q):∀n q,lpn f n q=g n q
 |0,q=>(h0 q).symm
 |n+1,q=>by show f (lpn f n) q=_;rw[show lpn f n=g n from funext (zAl h0 hs n),hs]
def outPL(L:SL):Nat->List A->PL
 |_,[]=>[]
 |i,x::r=>⟨gt L (OB+i),x⟩::outPL L (i+1) r
theorem zS1:∀{l:List A} {i:Nat},okL (outPL L i l)->outH L i l
 |[],_,_=>trivial
 |x::r,i,h=>⟨h.1,zS1 h.2⟩
section
variable {P:Program}{R:Type}
def finH(P:Program)(rs:List ResultVar)(outs:R->List A)(f':R->Nat->A)(y:R->A)(x:R)(L:SL):Option PL:=match resA P (gt L) rs with
 |some z=>some (⟨gt L HK,.hp (f' x)⟩::(outPL L 0 (outs x)++wkA z (y x)))
 |none=>none
theorem finH_ok{rs:List ResultVar}{outs:R->List A}{f':R->Nat->A}{y:R->A}{x:R}{c:PL}(u:finH P rs outs f' y x L=some c)(hl:okL c):endH P rs (outs x) (f' x) (y x) .ret L:=by unfold finH at u;(cases hz:resA P (gt L) rs with|none=>grind|some z=>rw[hz]at u;cases u;obtain⟨k1,k2⟩:=hl;obtain⟨k2,k3⟩:=zCc k2;exact⟨⟨z,hz,zPC k3⟩,zS1 k2,k1⟩)
def zGq(F:Func):Code:=match F.body with
 |some c=>c
 |none=> .refuse ""
theorem zR7{F:Func}(h:F.body.isSome=true):F.body=some (zGq F):=by unfold zGq;grind
def zK8(F:Func)(I u:Nat)(fr:List Nat):Bool:=F.body.isSome&&Nat.ble I F.ntmps&&Nat.ble F.ntmps OB&&fr.all (λj=>Nat.ble u j&&Nat.blt j OB)&&Nat.blt u OB&&(match F.results.toList with|[.tmp t]=>Nat.blt t OB|_=>true)
theorem zM(Z:P.follows .mixedOrders=true)(fr:List Nat){fn:FuncId}{F:Func}(hf:P.funcs[fn]? =some F){args ins:List A}{outs:R->List A}{f:Nat->A}{f':R->Nat->A}{y:R->A}(T:Tr P R [])
(h:(zK8 F args.length ins.length fr,(λx=>Nat.blt (outs x).length OB),(chk F.ntmps (λ_=>finH P F.results.toList outs f' y) 100000 (zGn ins.length) FEnv.nil [] (.c (zGq F)) (zGh fr args ins f) T).l)=(true,(λ_=>true),(chk F.ntmps (λ_=>finH P F.results.toList outs f' y) 100000 (zGn ins.length) FEnv.nil [] (.c (zGq F)) (zGh fr args ins f) T).r):=by kernel_rfl)(r:R)(hr:T.run Env.nil=some r):FCH P fn args ins (outs r) f (f' r) (y r):=by
 simp only[Prod.mk.injEq]at h
 obtain⟨I,h3,h2⟩:=h
 unfold zK8 at I
 simp only[wI]at I
 obtain⟨⟨⟨⟨⟨q1,q2⟩,q3⟩,W⟩,U⟩,q6⟩:=I
 have α:ins.length<OB:=by simpa using U
 have J:∀r,Nat.blt (outs r).length OB=true:=λr=>congrFun h3 r
 refine fch_mk fr hf (zR7 q1) rfl (wZ q2) (tY).symm (pins:=zGn ins.length) ?_ rfl ?_
 · rw[q3,W,U,J r];split;(all_goals grind)
 · exact zSz Z (λb x L c hc hl e=>by subst e;have u:endH P F.results.toList (outs x) (f' x) (y x) .ret L:=finH_ok hc hl;(cases b<;>exact u)) 100000 (Γ:=[]) _ _ Env.nil (λ_ _=>True) [] (.c (zGq F)) _ T (λk hk=>by cases hk) (λX m=>nomatch m) h2 hr
def outPs(L:SL):List (Nat×List T)->PL
 |[]=>[]
 |(i,l)::r=>⟨gt L i,.box l⟩::outPs L r
theorem zTY:∀{l:List (Nat×List T)},okL (outPs L l)->∀x∈l,gt L x.1= .box x.2
 |[],_,_,hx=>by cases hx
 |(i,l)::r,h,x,hx=>by rcases vL.1 hx with e|e;subst e;exact h.1;exact zTY h.2 x e
def finC(P:Program)(rs:List ResultVar)(outs:R->List (Nat×List T))(y:R->A)(x:R)(L:SL):Option PL:=match resA P (gt L) rs with
 |some z=>some (wkA z (y x)++outPs L (outs x))
 |none=>none
def outOK(rs:List ResultVar)(outs:List (Nat×List T)):Bool:=match rs with
 |[.tmp t]=>outs.all λx=>x.1 !=t
 |_=>true
theorem zAM(U:P.follows .mixedOrders=true){fn:FuncId}{F:Func}(hf:P.funcs[fn]? =some F){args:List A}{outs:R->List (Nat×List T)}{y:R->A}(T:Tr P R [])
(h:(zK8 F args.length 0 [],(λx=>outOK F.results.toList (outs x)),(chk F.ntmps (λ_=>finC P F.results.toList outs y) 100000 (zEw 0 args) FEnv.nil [] (.c (zGq F)) (zCr 0 args) T).l)=(true,(λ_=>true),(chk F.ntmps (λ_=>finC P F.results.toList outs y) 100000 (zEw 0 args) FEnv.nil [] (.c (zGq F)) (zCr 0 args) T).r):=by kernel_rfl)(r:R)(hr:T.run Env.nil=some r):FC P fn args (outs r) (y r):=by
 simp only[Prod.mk.injEq]at h
 obtain⟨J,W,Z⟩:=h
 unfold zK8 at J
 simp only[wI]at J
 obtain⟨⟨⟨⟨⟨q1,q2⟩,q3⟩,q4⟩,q5⟩,q6⟩:=J
 refine fc_outs hf (zR7 q1) rfl (wZ q2) (tY).symm (pins:=zEw 0 args) (by rw[q3]) rfl (by have k:outOK F.results.toList (outs r)=true:=congrFun W r;unfold outOK at k;split;rename_i e _;rw[e]at k;exact k;rfl) ?_
 exact zSz U (λb x L c u hl e=>by subst e;(have I:endQ P F.results.toList (outs x) (y x) .ret L:=by unfold finC at u;(cases hz:resA P (gt L) F.results.toList with|none=>rw[hz]at u;cases u|some z=>rw[hz]at u;cases u;exact⟨⟨z,hz,zPC (zCc hl).1⟩,zTY (zCc hl).2⟩));(cases b<;>exact I)) 100000 (Γ:=[]) _ _ Env.nil (λ_ _=>True) [] (.c (zGq F)) _ T (λk hk=>by cases hk) (λX m=>nomatch m) Z hr
def argPL(x y:A):PL:=match y with
 | .t (.opt t p)=>wkA x (.t (.opt t p))
 | .cl f u=>[⟨x,.cl f u⟩,bp (u.all λl=>l.all dhT)]
 |y=>bp y.plain::wkA x y
theorem zTp{σ:List Nat}{x y:A}(h:okL (argPL x y)):ArgH σ x y:=by unfold argPL at h;split at h;(cases x with|t x=>exact .opt (wkT_ok h)|_=>have h:=h.1;cases h);(have e:=h.1;subst e;exact .cl _ h.2.1);exact .plain (zPC h.2) h.1
def zPL:List A->List A->PL
 |[],[]=>[]
 |x::r,y::s=>argPL x y++zPL r s
 |_,_=>[bp false]
theorem zGF{σ:List Nat}:∀{l l':List A},okL (zPL l l')->zKB σ l l'
 |[],[],_=> .nil
 |x::r,y::s,h=> .cons (zTp (zCc h).1) (zGF (zCc h).2)
 |[],y::s,h=>Bool.noConfusion h.1
 |x::r,[],h=>Bool.noConfusion h.1
def ptOK:T->Bool
 | .hpt _ _| .opt _ _| .hvw _ _ _ _ _=>true
 |x=> !x.isPt
theorem zTj{τ:List Nat}{x:T}(h:ptOK x=true):PtR τ x x:=by(cases x with|hpt c off=>exact .hpt _ _|opt t p=>exact .opt _ _|hvw c off E k n=>exact .hvw _ _ _ _ _|_=>first|exact .flat rfl|cases h)
def zUB:A->Bool
 | .t x=>ptOK x
 | .tup l=>l.all ptOK
 | .cl _ u=>u.all λl=>l.all ptOK
 |x=>x.plain
theorem zOj{τ:List Nat}{x:A}(h:zUB x=true):ResH τ x x:=by(have tup:∀{l:List T},l.all ptOK=true->PtRs τ l l:=by intro l;(induction l with|nil=>intro _;exact .nil|cons x r I=>intro h;simp only[uV,wI]at h;exact .cons (zTj h.1) (I h.2)));(cases x with|t x=>exact .t (zTj h)|tup l=>exact .tup (tup h)|cl f u=>exact .cl λl hl x hx=>zTj (wG.1 (wG.1 h l hl) x hx)|_=>first|exact .plain h|cases h)
def fnOK(P:Program)(fn:Nat):Bool:=match P.funcs[fn]? with
 |some F=>F.body.isSome&& !(F.name== "runtime.NumGoroutine")
 |none=>false
theorem zLP{fn:Nat}(h:fnOK P fn=true):∃F,P.funcs[fn]? =some F/\F.body.isNone=false/\(F.name== "runtime.NumGoroutine")=false:=by unfold fnOK at h;(cases hf:P.funcs[fn]? with|none=>grind|some F=>rw[hf]at h;simp only[wI,vX]at h;refine⟨F,rfl,?_,h.2⟩;(cases hb:F.body with|none=>grind|some c=>rfl))
def zPY(P:Program)(pins:List Nat)(N:Nat)(M:Nat->A)(fn:Nat)(args:List A)(y:A)(k:Nat->List Pr×Eff)(op:Oper):Option (PL×Eff):=match op.dst,op.op with
 |some d,.call {callee:= .value fx,args:=⟨xs⟩,argTypes:=ts}=>some (bp (fnOK P fn)::bp (okD N pins M d)::bp (Nat.ble args.length OB)::⟨vO M fx,some (.func (.func fn) #[] #[])⟩::(zPL (xs.map (cpO M)) args++(k d).1),(k d).2)
 |_,_=>none
theorem zLe{fn:Nat}{args:List A}{y:A}{k:Nat->List Pr×Eff}{c:PL}{e:Eff}(h:zPY P pins N M fn args y k op=some (c,e))(hc:okL c):
 ∃d fx xs ts F,op.dst=some d/\op.op= .call {callee:= .value fx,args:=List.toArray xs,argTypes:=ts}/\vO M fx=some (.func (.func fn) #[] #[])/\okD N pins M d=true/\P.funcs[fn]? =some F/\F.body.isNone=false/\(F.name== "runtime.NumGoroutine")=false/\Nat.ble args.length OB=true/\okL (zPL (xs.map (cpO M)) args)/\okL (k d).1/\e=(k d).2:=by
 unfold zPY at h
 split at h
 · rename_i d fx xs ts hd ho;cases h;obtain⟨q1,q2,q3,q4,q5⟩:=hc;obtain⟨F,f1,f2,f3⟩:=zLP q1;obtain⟨q5,q6⟩:=zCc q5;grind
 · cases h
theorem zB0{d:Nat}(h:okD N pins M d=true)(e:M d=S d):okD N pins S d=true:=by unfold okD at h⊢;rw[<-e];exact h
def cH{fn:Nat}{args:List A}{f f':Nat->A}{y:A}(hf:FCH P fn args [] [] f f' y)[p:PuH f][p':PuH f']:yM P where
 hk:=[HK]
 pr pins N M op:=zPY P pins N M fn args y (λd=>([bp (zUB y),⟨M HK,.hp f⟩],[(HK,.hp f'),(d,y)])) op
 ok pins N S M op c e hM hd h hc:=by obtain⟨d,fx,xs,ts,F,J,h2,h3,h4,h5,U,h7,W,Z,⟨u,I,_⟩,rfl⟩:=zLe h hc;have hk:S HK= .hp f:=hM.get I (by simp);exact h_call hM hk (σ:=[]) (fr:=[]) h2 h3 J (zB0 h4 (hd d J)) h5 U h7 hf p.h p'.h zTV rfl rfl rfl (zGF Z) W (zOj u)
def cR{fn:Nat}{args:List A}{f:Nat->A}{y:A}(hf:FCH P fn args [] [] f f y)[p:PuH f]:yM P where
 hk:=[HK]
 pr pins N M op:=zPY P pins N M fn args y (λd=>([bp (zUB y),⟨M HK,.hp f⟩],[(d,y)])) op
 ok pins N S M op c e hM hd h hc:=by obtain⟨d,fx,xs,ts,F,J,h2,h3,h4,h5,U,h7,W,Z,⟨u,I,_⟩,rfl⟩:=zLe h hc;have hk:S HK= .hp f:=hM.get I (by simp);exact zQL hM hk (σ:=[]) (fr:=[]) h2 h3 J (zB0 h4 (hd d J)) h5 U h7 hf p.h zTV rfl rfl rfl (zGF Z) W (zOj u)
def wkArgs:List A->List A->PL
 |[],[]=>[]
 |x::r,y::s=>wkA x y++wkArgs r s
 |_,_=>[bp false]
theorem zRH:∀{l l':List A},okL (wkArgs l l')->zKc l l'
 |[],[],_=> .nil
 |x::r,y::s,h=> .cons (zPC (zCc h).1) (zRH (zCc h).2)
 |[],y::s,h=>Bool.noConfusion h.1
 |x::r,[],h=>Bool.noConfusion h.1
def cA{fn:Nat}{args:List A}{y:A}(hf:FC P fn args [] y):yM P where
 hk:=[]
 pr pins N M op:=zPY P pins N M fn args y (λd=>([bp y.noRef,bp (args.all A.plain)],[(d,y)])) op
 ok pins N S M op c e hM hd h hc:=by obtain⟨d,fx,xs,ts,F,Z,h2,h3,h4,h5,W,h7,h8,h9,⟨U,u,_⟩,rfl⟩:=zLe h hc;(have J:∀{l I:List A},zKB [] l I->I.all A.plain=true->zKc l I:=by intro l I h;(induction h with|nil=>intro _;exact .nil|cons hx _ ih=>intro hp;simp only[uV,wI]at hp;refine .cons ?_ (ih hp.2);(cases hx with|plain h _=>exact h|_=>cases hp.1)));exact ok_callh hM h2 h3 Z (zB0 h4 (hd d Z)) h5 W h7 (J (zGF (σ:=[]) h9) u) u hf U
def cP{fn:Nat}{caps:List (List D)}{args:List A}{y:A}(hf:FC P fn (args++caps.map A.imm) [] y)(hfn:∃F,P.funcs[fn]? =some F/\F.body.isNone=false/\(F.name== "runtime.NumGoroutine")=false):yM P where
 hk:=[]
 pr pins N M op:=match op.dst,op.op with
  |some d,.call {callee:= .value fx,args:=⟨xs⟩,argTypes:=_}=>some (⟨dO M fx,some (.clo fn caps)⟩::bp (okD N pins M d)::bp (args.all A.plain)::bp y.noRef::wkArgs (xs.map (cpO M)) args,[(d,y)])
  |_,_=>none
 ok pins N S M op c e hM hd h hc:=by split at h;(rename_i d fx xs ts h1 h2;cases h;obtain⟨q1,q2,q3,q4,q5⟩:=hc;obtain⟨F,f1,f2,f3⟩:=hfn;exact .of (e:=[(d,y)]) λhN=>⟨ok_callc hM.hx h2 q1 h1 (qR hN (zB0 q2 (hd d h1))) f1 f2 f3 (zRH q5) q3 hf q4,zBz (qG hN (zB0 q2 (hd d h1)))⟩);cases h
structure FnH(P:Program)(fn:Nat)(caps:List (List T))(n:Nat):Prop where
 hf:∃F,P.funcs[fn]? =some F/\F.body.isNone=false/\(F.name== "runtime.NumGoroutine")=false
 hl:Nat.ble (n+caps.length) OB=true
 hd:caps.all (λl=>l.all dhT)=true
theorem cl_cp{u:List (List T)}(h:u.all (λl=>l.all dhT)=true):u.map (λl=>l.map cpT)=u:=by
  have one:∀l∈u,l.map cpT=l:=λl hl=>by
    have I:=wG.1 h l hl
    have:∀x∈l,cpT x=x:=λx hx=>by
      have J:=wG.1 I x hx
      cases x<;>first|rfl|cases J
    conv=>rhs;rw[<-List.map_id l]
    exact tE λx hx=>this x hx
  conv=>rhs;rw[<-List.map_id u]
  exact tE λl hl=>one l hl
theorem clW{fn n:Nat}{u:List (List T)}(h:FnH P fn u n):WkA (.cl fn (u.map λl=>l.map cpT)) (.cl fn u):=by rw[cl_cp h.hd];exact .refl _
theorem clH{fn n:Nat}{u:List (List T)}{σ:List Nat}(h:FnH P fn u n):ArgH σ (.cl fn (u.map λl=>l.map cpT)) (.cl fn u):=by rw[cl_cp h.hd];exact .cl _ h.hd
def cF{fn n:Nat}{u:List (List T)}{args:List A}{f:Nat->A}{y:A}(hf:FCH P fn (args++u.map A.imt) [] [] f f y)[p:PuH f](I:FnH P fn u n):yM P where
 hk:=[HK]
 pr pins N M op:=match op.dst,op.op with
  |some d,.call {callee:= .value (.tmp t),args:=⟨xs⟩,argTypes:=_}=>some (⟨M t,.cl fn u⟩::bp (okD N pins M d)::bp (zUB y)::⟨M HK,.hp f⟩::⟨args.length,n⟩::zPL (xs.map (cpO M)) args,[(d,y)])
  |_,_=>none
 ok pins N S M op c e hM hd h hc:=by split at h;(rename_i d t xs ts h1 h2;cases h;obtain⟨U,q2,q3,q4,W,q6⟩:=hc;have hk:S HK= .hp f:=hM.get q4 (by simp);have W:args.length=n:=W;(have Z:Nat.ble (args++u.map A.imt).length OB=true:=by rw[wS,wL,W];exact I.hl);have U:M t= .cl fn u:=U;(have e0:cpO M (.tmp t)= .cl fn u:=by simp only[cpO,U];show A.cl fn (u.map λl=>l.map cpT)=_;rw[cl_cp I.hd]);have J:=h_callT hM hk h2 e0 I.hd h1 (zB0 q2 (hd d h1)) I.hf hf p.h p.h (zGF q6) Z (zOj q3);(have e:app S [(HK,.hp f),(d,y)]=app S [(d,y)]:=by show upd (upd S HK (.hp f)) d y=upd S d y;congr 1;funext s;unfold upd;split;rename_i e;rw[e,hk];rfl);rw[e]at J;exact J);cases h
def cRA{fn:Nat}(X:List A){args:List A}{f:Nat->A}{y:A}(hf:FCH P fn args [] [] f f y)[p:PuH f](ha:zKB [] X args):yM P where
 hk:=[HK]
 pr pins N M op:=match op.dst,op.op with
  |some d,.call {callee:= .value fx,args:=⟨xs⟩,argTypes:=_}=>some ([bp (fnOK P fn),bp (okD N pins M d),bp (Nat.ble args.length OB),⟨vO M fx,some (.func (.func fn) #[] #[])⟩,⟨xs.map (cpO M),X⟩,bp (zUB y),⟨M HK,.hp f⟩],[(d,y)])
  |_,_=>none
 ok pins N S M op c e hM hd h hc:=by split at h;(rename_i d fx xs ts I h2;cases h;obtain⟨q1,q2,q3,Z,u,U,q7,_⟩:=hc;obtain⟨F,W,J,f3⟩:=zLP q1;have u:xs.map (cpO M)=X:=u;exact zQL hM (hM.get q7 (by simp)) (σ:=[]) (fr:=[]) h2 Z I (zB0 q2 (hd d I)) W J f3 hf p.h zTV rfl rfl rfl (by rw[u];exact ha) q3 (zOj U));cases h
end
section
variable {P:Program}
def ld{f:Nat->A}{c:Nat}{l:List T}(hf:f c= .box l):yM P where
 hk:=[HK]
 pr pins N M op:=match op.dst,op.op with
  |some d,.load t x=>match cpO M x,tyA P t with
   | .t (.hpt u off),some (false,_)=>match l[off]? with
    |some z=>match norH z with
     |some y=>some ([bp (okD N pins M d),⟨M HK,.hp f⟩,⟨u,c⟩],[(d,y)])
     |none=>none
    |none=>none
   |_,_=>none
  |_,_=>none
 ok pins N S M op c0 e hM hd h hc:=by
  split at h
  ·
   rename_i d t x I U
   split at h
   ·
    rename_i u off n h3 Z
    split at h
    ·
     rename_i z h5
     split at h
     ·
      rename_i y J
      cases h
      obtain⟨W,q2,rfl,_⟩:=hc
      exact h_ld hM (hM.get q2 (by simp)) U Z h3 hf h5 J I (zB0 W (hd d I))
     · cases h
    · cases h
   · cases h
  · cases h
def st{f f':Nat->A}{c:Nat}{l l':List T}(hf:f c= .box l)(u:f'=updF f c (.box l')):yM P where
 hk:=[HK]
 pr pins N M op:=match op.dst,op.op with
  |none,.store t x y=>match cpO M x,P.info? t,zDS (cpO M y)with| .t (.hpt I off),some i,some q=>some ([⟨M HK,.hp f⟩,⟨I,c⟩,bp (Nat.beq q.length i.size),bp (Nat.ble (off+i.size) l.length),⟨qZ l off q,l'⟩],[(HK,.hp f')])|_,_,_=>none
  |_,_=>none
 ok pins N S M op c0 e hM hd h hc:=by split at h;(rename_i t x y h1 U;split at h;(rename_i I off i q h3 Z h5;cases h;obtain⟨W,rfl,q3,J,q5,_⟩:=hc;exact h_st hM (hM.get W (by simp)) U h1 Z h3 hf h5 (wV q3) (wZ J) q5 u);cases h);cases h
end
theorem mixed:Tryz.prog.follows .mixedOrders=true:=by kernel_rfl
def arrLen(P:Program)(t:TypeId):Option Nat:=match P.underlying t with
 |some (.array len e)=>match P.info? e with|some u=>if u.size=1 then some len else none|none=>none
 |_=>none
section
variable {P:Program}{pins:List Nat}{N:Nat}{S M:Nat->A}
theorem ok_gix(hM:Mk M S){d t g len:Nat}{i:Operand}{ki:IntKind}{n:Int}{u:Value}(δ:op.op= .indexAddr t (.global g) i)(hd:op.dst=some d)(α:okD N pins S d=true)(hl:arrLen P t=some len)(hn:vO M i=some (.int ki n))(hb:0<=n/\n<len)(hu:TBL g n.toNat=some u)(h1:u.oneCell'=true):OpOK P pins N op S (upd S d (.imm [.lit u])):=by refine zL λW Q X G a w m o hN I=> ?_;obtain⟨k1,k2,k3⟩:=zS α;unfold arrLen at hl;split at hl;(case h_2=>cases hl);rename_i ζ e γ;split at hl;(case h_2=>cases hl);rename_i ie β;split at hl;(case isFalse=>cases hl);rename_i ε;cases hl;have Z:m g n.toNat=some u:=I.mono _ _ _ (I.tbl _ _ _ hu);(have U:RepA m w o (upd S d (.imm [.lit u])) d (.imm [.lit u]) (.pointer (some ⟨g,0+n.toNat*1,none⟩)):=by refine⟨g,_,rfl,λj d hj=> ?_⟩;(cases j with|zero=>cases hj;exact⟨u,by rw[vJ,uQ,uP];exact Z,.lit u h1⟩|succ j=>simp at hj));refine⟨_,w,m,o,?_,by rw[hd];exact I.set d _ _ (by omega) k2 U⟩;unfold execOp;rw[δ];simp only[wE];rw[zCK hM I hn,show a.eval (.global g)= .pointer (some ⟨g,0,none⟩)from rfl];(have J:(Instr.indexAt t (.pointer (some ⟨g,0,none⟩)) (.int ki n)).run P w= .ok (.pointer (some ⟨g,0+n.toNat*ie.size,none⟩)) w:=by simp[Instr.indexAt,asIntOf,Instr.sureAddr,run_underlying γ,hb,sizeOf,typeInfo,β,Addr.add_mid]);rw[J,ε];rfl
end
def TabIs(g:Nat)(k:IntKind)(l:List Int):Bool:=match TBLS.find? (λx=>x.1==g)with
 |some x=>x.2.length==l.length&&(List.range l.length).all λi=>match x.2[i]?,l[i]? with|some (.int I z),some u=>I==k&&z==u|_,_=>false
 |none=>false
theorem tab_get{g:Nat}{k:IntKind}{l:List Int}(h:TabIs g k l=true){n x:Int}(hx:idx l n=some x):TBL g n.toNat=some (.int k x)/\0<=n/\n<l.length:=by unfold idx at hx;by_cases J:0<=n;(rw[dec_t' J]at hx;have hx:l[n.toNat]? =some x:=hx;have I:n.toNat<l.length:=(wB.1 hx).1;refine⟨?_,J,by omega⟩;unfold TabIs at h;unfold TBL;split at h;(rename_i y hy;rw[hy];simp only[wI,wG]at h;have u:=h.2 n.toNat (tS.2 I);show y.2[n.toNat]? =_;rw[hx]at u;split at u;(rename_i k' z W Z U;injection U with U;simp only[wI,beq_iff_eq]at u;rw[Z,u.1,u.2,U]);cases u);cases h);(rw[dec_f' J]at hx;cases hx)
where
 dec_t' {p:Prop} [Decidable p] (h:p):decide p=true:=decide_eq_true h
 dec_f' {p:Prop} [Decidable p] (h:¬p):decide p=false:=decide_eq_false h
abbrev TT:=Tr Tryz.prog
theorem WkA.oe{x y:A}(h:x=y):WkA x y:=by rw[h];exact .refl _
theorem bT{c v:Bool}(h:c=v):A.t (.d (.lit (.bool c)))= .t (.d (.lit (.bool v))):=by rw[h]
theorem ptS(t:Nat){p:Option Nat}{i:Nat}(h:p=some i):A.t (.opt t p)= .t (.opt t (some i)):=by rw[h]
theorem ptN(t:Nat){p:Option Nat}(h:p=none):A.t (.opt t p)= .t (.opt t none):=by rw[h]
theorem lnE{α:Type}(l:List α)(c:α->List D):WkA (.t (.d (.lit (.int .i64 ((l.map c).length:Nat))))) (.t (.d (.lit (.int .i64 (l.length:Nat))))):= .oe (lenE l c)
abbrev bW(x y:Bool):Prop:=WkA (.t (.d (.lit (.bool x)))) (.t (.d (.lit (.bool y))))
theorem bW_of{x y:Bool}(h:x=y):bW x y:= .oe (bT h)
theorem seqE(x y:List UInt8):bW ((ByteArray.mk ⟨x⟩).toList==(ByteArray.mk ⟨y⟩).toList) (x==y):=bW_of (zQG x y)
theorem sneE(x y:List UInt8):bW (!((ByteArray.mk ⟨x⟩).toList==(ByteArray.mk ⟨y⟩).toList)) (!(x==y)):=bW_of (by rw[zQG])
theorem sltE(x y:List UInt8):bW (Op.bytesLess (ByteArray.mk ⟨x⟩).toList (ByteArray.mk ⟨y⟩).toList) (sLt x y):=bW_of (s_lt x y)
theorem sgtE(x y:List UInt8):bW (!(Op.bytesLess (ByteArray.mk ⟨x⟩).toList (ByteArray.mk ⟨y⟩).toList||(ByteArray.mk ⟨x⟩).toList==(ByteArray.mk ⟨y⟩).toList)) (!(sLt x y||x==y)):=bW_of (s_gt x y)
abbrev iW(k:IntKind)(x y:Int):Prop:=WkA (.t (.d (.lit (.int k x)))) (.t (.d (.lit (.int k y))))
theorem iW_of{k:IntKind}{x y:Int}(h:x=y):iW k x y:=by rw[h];exact .refl _
theorem u8E(z:Int):iW .u8 (IntKind.u8.wrap z) ((U8 z).toNat:Int):=iW_of (u8c z)
theorem i648E(c:UInt8):iW .i64 (IntKind.i64.wrap (c.toNat:Int)) (c.toNat:Int):=iW_of (i64_u8 c)
theorem u648E(c:UInt8):iW .u64 (IntKind.u64.wrap (c.toNat:Int)) (c.toNat:Int):=iW_of (u64_u8 c)
theorem u328E(c:UInt8):iW .u32 (IntKind.u32.wrap (c.toNat:Int)) (c.toNat:Int):=iW_of (u32_u8 c)
section
variable {P:Program}
def bv{I:BinOp}{u J:Value}(hv:binV I u v=some J):yM P where
 hk:=[]
 pr pins N M op:=match op.dst,op.op with
  |some d,.binOp b t x y yt=>some ([bp (okD N pins M d),⟨b,I⟩,⟨vO M x,some u⟩,⟨vO M y,some v⟩,bp (notB u)],[(d,litA J)])
  |_,_=>none
 ok pins N S M op c0 e hM hd h hc:=by split at h;(rename_i d b t x y yt U W;cases h;obtain⟨q1,rfl,q3,Z,q5,_⟩:=hc;exact zOH (tk:=false) hM U (zB0 q1 (hd d U)) (by rw[W];exact opF_bin q3 Z q5 hv) trivial);cases h
def eqr(ng:Bool){b b':Bool}(U:b=b'):yM P where
 hk:=[]
 pr pins N M op:=match op.dst,op.op with
  |some d,.binOp o t x y W=>some ([bp (okD N pins M d),⟨o,bif ng then .neq else .eql⟩,⟨eqS P M t x y,some b⟩],[(d,.t (.d (.lit (.bool (bif ng then !b' else b')))))])
  |_,_=>none
 ok pins N S M op c0 e hM hd h hc:=by subst U;split at h;(rename_i d o t x y W u Z;cases h;obtain⟨I,q2,q3,_⟩:=hc;rw[show(bif ng then !b else b)=(ng^^b) by cases ng<;>cases b<;>rfl];exact .of (e:=[(d,_)]) λJ=>⟨ok_eqs hM.hx ng q2 Z u (qR J (zB0 I (hd d u))) q3,zBz (qG J (zB0 I (hd d u)))⟩);cases h
def gix{g:Nat}{k:IntKind}{n x:Int}{l:List Int}(J:TabIs g k l=true)(hx:idx l n=some x):yM P where
 hk:=[]
 pr pins N M op:=match op.dst,op.op with
  |some d,.indexAddr t (.global W) i=>match vO M i with|some (.int _ I)=>some ([bp (okD N pins M d),⟨W,g⟩,⟨arrLen P t,some l.length⟩,⟨I,n⟩],[(d,.imm [.lit (.int k x)])])|_=>none
  |_,_=>none
 ok pins N S M op c0 e hM hd h hc:=by split at h;(rename_i d t W i u h2;split at h;(rename_i ki I h3;cases h;obtain⟨U,rfl,q3,rfl,_⟩:=hc;exact .of (e:=[(d,_)]) λZ=>⟨ok_gix hM.hx h2 u (qR Z (zB0 U (hd d u))) q3 h3 (tab_get J hx).2 (tab_get J hx).1 rfl,zBz (qG Z (zB0 U (hd d u)))⟩);cases h);cases h
def ldA{f:Nat->A}{c off:Nat}{l:List T}{z:T}(hf:f c= .box l)(hl:l[off]? =some z):yM P where
 hk:=[HK]
 pr pins N M op:=match op.dst,op.op with
  |some d,.load t x=>match cpO M x,tyA P t,norH z with| .t (.hpt I u),some (false,_),some y=>some ([bp (okD N pins M d),⟨M HK,.hp f⟩,⟨I,c⟩,⟨u,off⟩],[(d,y)])|_,_,_=>none
  |_,_=>none
 ok pins N S M op c0 e hM hd h hc:=by split at h;(rename_i d t x J U;split at h;(rename_i I u n y h3 Z h5;cases h;obtain⟨W,q2,rfl,rfl,_⟩:=hc;exact h_ld hM (hM.get q2 (by simp)) U Z h3 hf hl h5 J (zB0 W (hd d J)));cases h);cases h
def stA{f f':Nat->A}{c off n:Nat}{l l' q:List T}(hf:f c= .box l)(U:off+n<=l.length)(I:qZ l off q=l')(J:f'=updF f c (.box l')):yM P where
 hk:=[HK]
 pr pins N M op:=match op.dst,op.op with
  |none,.store t x y=>match cpO M x,P.info? t,zDS (cpO M y)with| .t (.hpt Z u),some i,some W=>some ([⟨M HK,.hp f⟩,⟨Z,c⟩,⟨u,off⟩,⟨i.size,n⟩,⟨W,q⟩,bp (Nat.beq q.length n)],[(HK,.hp f')])|_,_,_=>none
  |_,_=>none
 ok pins N S M op c0 e hM hd h hc:=by split at h;(rename_i t x y h1 h2;split at h;(rename_i Z u i W h3 h4 h5;cases h;obtain⟨q1,rfl,rfl,rfl,rfl,q6,_⟩:=hc;exact h_st hM (hM.get q1 (by simp)) h2 h1 h4 h3 hf h5 (wV q6) U I J);cases h);cases h
end
abbrev kvS(s:List UInt8):Value:=Value.string ⟨⟨s⟩⟩
theorem ba_eq(a b:List UInt8):(ByteArray.mk ⟨a⟩==ByteArray.mk ⟨b⟩)=(a==b):=by show(Array.mk a==Array.mk b)=(a==b);grind
def keyStr{kt:TypeId}(h:P.underlying kt=some .string):KeyT P kt kvS (kL kvS):=
 ⟨.string,h,λa b=>by
  have e:=ba_eq a b
  simp only[Instr.sameNow]
  rw[<-e],λa e w=>MapKept.run_checkKey h (by simp[MapKept.IsKey]) e 9999,λ(a b:List UInt8) (h:(a==b)=true)=>by
  have h:a=b:=by simpa using h
  subst h
  simp only[Instr.sameBits]
  rw[ba_eq]
  exact beq_self_eq_true _,λ_=>kL_rep rfl,λ_ _ _=>kL_inv⟩
section
variable {pins:List Nat}{S M:Nat->A}{P:Program}{N:Nat}{op:Oper}{d:Nat}
theorem h_mlk2T{κ ν:Type}[BEq κ]{kv:κ->Value}{kT:κ->T}{vT:ν->T}(Z:Mk M S){j t kt et:Nat}{x y:Operand}{l:List (κ×ν)}{k:κ}{z:ν}(J:op.op= .lookup t x y true)(hx:cpO M x= .t (.mpt j))(hb:M (OB+j)=mpT kT vT l)(hy:vK M y=some (kv k))(hu:P.underlying t=some (.map kt et))(K:KeyT P kt kv kT)
{i:TypeInfo}{U:Value}(hi:P.info? et=some i)(hz:i.zero=some U)(I:∀m,RepE m (vT z) U)(hd:op.dst=some d)(u:okD N pins S d=true):OpH P pins N op S (app S [(d,.tup [vT ((zCG l k).getD z),.d (.lit (.bool (zCG l k).isSome))])]):=
 .of (e:=[(d,_)]) λW=>⟨ok_mlk2 Z.hx J hx (mk_hx Z hb (by simp)) hy hu K hi hz I hd (qR W u),zBz (qG W u)⟩
end
end Go.Proofs.YtocolhfjpadaoaaGreatDoor
