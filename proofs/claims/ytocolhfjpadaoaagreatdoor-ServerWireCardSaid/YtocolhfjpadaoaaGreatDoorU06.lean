/-
  Lemmas of this claim, joined.
-/
import Derived.Test.YtocolhfjpadaoaaGreatDoorU05
import Derived.Test.YtocolhfjpadaoaaGreatDoorProg
import Derived.Lib.AppendZeros
set_option linter.unusedVariables false
set_option linter.unusedSimpArgs false
set_option linter.constructorNameAsVariable false
namespace Go.Proofs.YtocolhfjpadaoaaGreatDoor
open Go
abbrev uF:=@Int.toNat_natCast
abbrev uK:=@Int.eq_ofNat_of_zero_le
abbrev sH:=@List.length_reverse
abbrev sM:=@Nat.blt_eq
end Go.Proofs.YtocolhfjpadaoaaGreatDoor
namespace Go.Proofs.YtocolhfjpadaoaaGreatDoor
open Go Go.RowKit
variable {P:Program}{w0:World}{w:World}{m0:Mem}{m:Mem}{o0:OwnM}{o:OwnM}{G:GD}{pins:List Nat}{N:Nat}{a:Act}{op:Oper}{S:Nat->A}{M:Nat->A}{L:SL}{v:Value}{W:World}{Q:Mem}{X:OwnM}
section
variable {w0:World}{m0:Mem}{o0:OwnM}{G:GD}{pins:List Nat}{S M:Nat->A}{a:Act}{w:World}{m:Mem}{o:OwnM}{P:Program}{N:Nat}{op:Oper}{d c:Nat}{f f':Nat->A}
def vwsO(M:Nat->A):Nat->List (Nat×Operand)->Option (List T)
  |_,[]=>some []
  |n,(i,x)::r=>if i=n then match cpO M x,vwsO M (n+1) r with
      | .t (.view j off E k q),some t=>some (.view j off E k q::t)
      |_,_=>none
    else none
theorem zWv(Z:Mk M S)(I:Inv w0 m0 o0 G pins S a w m o):∀(n:Nat) (J:List (Nat×Operand)) (l:List T),vwsO M n J=some l->
 (J.map λx=>(x.1,a.eval x.2))=((J.map λx=>a.eval x.2).zipIdx n).map (λx=>(x.2,x.1))/\(∀v∈J.map (λx=>a.eval x.2),v.cells= #[v]/\v.oneCell'=true)/\l.length=J.length/\
  ∀(i:Nat) (x:T),l[i]? =some x->∃u,(J.map λx=>a.eval x.2)[i]? =some u/\∃j off E k q,x= .view j off E k q/\RepT m w o (0,0) x u
 |n,[],l,h=>by cases h;exact⟨rfl,by simp,rfl,λi x h=>by simp at h⟩
 |n,(i,x)::r,l,h=>by unfold vwsO at h;split at h;(case isFalse=>cases h);rename_i e;subst e;split at h;(rename_i j off E k q t hx ht;cases h;obtain⟨W,h2,h3,h4⟩:=zWv Z I (i+1) r t ht;have U:=zW Z I x 0;rw[hx]at U;have U:RepT m w o (0,0) (.view j off E k q) (a.eval x):=U;obtain⟨A',c',k1,k2,k3,k4⟩:=id U;refine⟨by simp[W,List.zipIdx_cons],λv hv=> ?_,by simp[h3],λp y hp=> ?_⟩;(simp only[vC,vD]at hv;rcases hv with rfl|hv;rw[k3];exact⟨rfl,rfl⟩;grind);grind);cases h
theorem ok_bsv(hM:Mk M S){t e nb n:Nat}{J:List (Nat×Operand)}(ζ:op.op= .buildSlice t n J.toArray)(hn:n=J.length)(hd:op.dst=some d)(η:okD N pins S d=true)(hE:elF P t=some (e,1,nb)){l:List T}(h:vwsO M 0 J=some l)(ε:J≠[])(hb:J.length<=16777216):OpOK P pins N op S (upd S d (.lst l)):=by subst hn;refine zL λw0 m0 o0 G a w m o hN I=> ?_;obtain⟨h1,h2,h3⟩:=zP η;have E:=zNv hE;obtain⟨i,z,hi,hz,α,rfl,ι⟩:=E.info;obtain⟨k1,k2,k3,k4⟩:=zWv hM I 0 J l h;(have β:(J.map λx=>a.eval x.2).length=J.length:=by simp);have θ:0<J.length:=uH.2 ε;(have γ:∀(U:List Value),(∀v∈U,v.cells= #[v]/\v.oneCell'=true)->U.flatMap (λv=>v.cells.toList)=U:=by intro U;(induction U with|nil=>grind|cons v r ih=>intro hv;rw[List.flatMap_cons,(hv v (by simp)).1,ih λx hx=>hv x (by simp[hx])];rfl));have W:=run_buildSlice (P:=P) w t e J.length (J.map λx=>(x.1,a.eval x.2)).toArray _ i z E.under hi hz (by first|omega|(rw[α];omega)) (by first|omega|(rw[α];omega)) (by rw[show(J.map λx=>(x.1,a.eval x.2)).toArray.toList=_ from k1];exact Great.fill_whole (by rw[α];omega) _ _ (λv hv=>by rw[(k2 v hv).1,α];rfl) (by rw[β];simp));rw[γ _ k2]at W;generalize κ:(J.map λx=>a.eval x.2)=U at W k2 k4 β;refine⟨.slice (some ⟨w.heap.size,0,none⟩) J.length J.length,w.alloc (.cells U.toArray e),newM m w.heap.size (λp=>U[p]?),o,?_,?_⟩;(unfold execOp;rw[ζ];simp only[wU,wE];rw[W];rfl);rw[hd];(have δ:∀{b p u},m b p=some u->b<w.heap.size:=λ{b p u} hu=>by have:=wY w _ (I.sat b p u hu);grind);have Z:∀g,g<w.heap.size->(w.alloc (.cells U.toArray e)).heap[g]? =w.heap[g]? :=λg hg=>(Same.alloc (λ_=>False) w (.cells U.toArray e)).block g hg id;refine I.put d (.lst l) _ (by omega) h2 ?_ (I.same.trans ((Same.alloc (λ_=>False) w _).weaken λ_ h=>h.elim)) ?_ (zP5 I (wL _) _) (λb hb=> ?_) (λg hg=>Z g hg) ?_;(refine⟨w.heap.size,J.length,by rw[k3],by omega,by unfold maxLen;omega,λq x hq=> ?_⟩;obtain⟨u,z1,j,off,E1,k,n,rfl,z2⟩:=k4 q x hq;exact⟨u,by rw[zAY];exact z1,zDP (loc:=(0,0)) (λ_ _ h=>h) (λg j hg=> .of_lt λ_=>Z g (I.lt g _ hg)) z2⟩);(intro b p u hu;unfold newM at hu;split at hu;(rename_i e2;subst e2;rw[cell_of_row _ w.heap.size p U.toArray e _ (heap_alloc_new w _)];grind);(rw[vP (w:=w) (Z b (δ hu))];exact I.sat b p u hu));(funext p;unfold newM;grind);simp
theorem h_bsv(hM:Mk M S){t e nb n:Nat}{u:List (Nat×Operand)}(U:op.op= .buildSlice t n ⟨u⟩)(hn:n=u.length)(hd:op.dst=some d)(J:okD N pins S d=true)(W:elF P t=some (e,1,nb)){l:List T}(h:vwsO M 0 u=some l)(I:(!u.isEmpty&&Nat.ble u.length 16777216)=true):OpH P pins N op S (app S [(d,.lst l)]):=by simp only[wH]at I;exact .of (e:=[(d,_)]) λZ=>⟨ok_bsv hM.hx U hn hd (qA Z J) W h (λe=>by rw[e]at I;cases I.1) (by simpa using I.2),zAr (zX Z J)⟩
def zQA(w:World):Mem:=λb p=>w.cell? ⟨b,p,none⟩
inductive BorD(B:Nat->List T->Prop):T->D->Prop
 |d (x:D):BorD B (.d x) x
 |nil (k:Nat):BorD B (.d (.lit (.slice none 0 0))) (.seq k [])
 |own (E k:Nat) (l:List (List D)):BorD B (.own E k l) (.seq k l)
 |vw {j off E k n:Nat} {l:List T} {rs:List (List D)} (hb:B j l) (hr:∀r∈rs,r.length=k) (hn:rs.length=n) (hl:(l.drop off).take (n*k)=(rs.flatMap id).map .d):BorD B (.view j off E k n) (.seq k rs)
 |hv {c off E k n:Nat} {l:List T} {rs:List (List D)} (hb:B (OB+c) l) (hr:∀r∈rs,r.length=k) (hn:rs.length=n) (hl:(l.drop off).take (n*k)=(rs.flatMap id).map .d):BorD B (.hvw c off E k n) (.seq k rs)
inductive BorL(B:Nat->List T->Prop):List T->List (List D)->Prop
 |nil:BorL B [] []
 |cons {x:T} {y:D} {l:List T} {r:List (List D)} (h:BorD B x y) (t:BorL B l r):BorL B (x::l) ([y]::r)
inductive BorA(B:Nat->List T->Prop):A->A->Prop
 |d {x:T} {y:D} (h:BorD B x y):BorA B (.t x) (.t (.d y))
 |lst {l:List T} {rs:List (List D)} (h:BorL B l rs):BorA B (.lst l) (.t (.d (.seq 1 rs)))
 |pl {x:A} (h:x.plain=true):BorA B x x
inductive zSU(B:Nat->List T->Prop):List A->List A->Prop
 |nil:zSU B [] []
 |cons {x y:A} {l l':List A} (h:BorA B x y) (t:zSU B l l'):zSU B (x::l) (y::l')
theorem zJp(I:Inv w0 m0 o0 G pins S a w m o):Mle m (zQA w):=λb p u h=>I.sat b p u h
theorem bor_vw(I:Inv w0 m0 o0 G pins S a w m o){j off E k n:Nat}{l:List T}{rs:List (List D)}(hb:S (OB+j)= .box l)(hr:∀r∈rs,r.length=k)(hn:rs.length=n)(hl:(l.drop off).take (n*k)=(rs.flatMap id).map .d){loc:Nat×Nat}(h:RepT m w o loc (.view j off E k n) v):RepD (zQA w) (.seq k rs) v:=by
 obtain⟨A',q,h1,h2,rfl,h4⟩:=h
 subst hn
 have hs:=I.slots (OB+j)
 rw[hb]at hs
 obtain⟨g,_,p1,p2,cs,E2,p3,p4,p5⟩:=hs
 refine .seq k rs A' q g off (λi q=>(cs[off+i*k+q]?).getD undef) h1 h2 (λW=> ?_) (λi r J=>hr r (wD J)) (λi r q dd J hq=> ?_) (λi r q dd J hq=> ?_)
 · (obtain⟨g',γ,E',q1,q2,_⟩:=h4.resolve_left λe=>by have:=uH.2 W;omega);have:=I.inj _ _ _ p1 q1;grind
 all_goals
  have β:=hr r (wD J)
  have U:q<k:=by rw[<-β];exact(wF.1 hq).1
  have α:i<rs.length:=(wF.1 J).1
  have hc:((rs.flatMap id).map T.d)[i*k+q]? =some (.d dd):=by rw[wG,zDN hr J U,hq];rfl
  have Z:i*k+q<rs.length*k:=mul_lt α U
  rw[<-hl,vH,if_pos Z,uL,<-Nat.add_assoc]at hc
  obtain⟨_,u,k1,k2⟩:=p5 _ _ hc
 · show w.cell? ⟨g,off+i*k+q,none⟩=some ((cs[off+i*k+q]?).getD undef);rw[cell_of_row w g _ cs E2 _ p3,k1];rfl
 · rw[k1];exact RepD.mono (zJp I) k2
theorem BorD.rep(I:Inv w0 m0 o0 G pins S a w m o){x:T}{y:D}{B:Nat->List T->Prop}(Z:∀j l,B j l->S (OB+j)= .box l)(h:BorD B x y){loc:Nat×Nat}(u:RepT m w o loc x v):RepD (zQA w) y v:=by(cases h with|d x=>exact RepD.mono (zJp I) u|nil k=>have u:RepD m (.lit (.slice none 0 0)) v:=u;cases u;exact RepD.nilSeq _ k|own E k l=>exact RepD.mono (zJp I) (zEn I.sat u)|vw hb J U hl=>exact bor_vw I (Z _ _ hb) J U hl u| @hv c off E k n l rs hb J U hl=>exact bor_vw (j:=OB+c) I (Z _ _ hb) J U hl (loc:=loc) u)
theorem BorL.get{B:Nat->List T->Prop}{l:List T}{rs:List (List D)}(h:BorL B l rs):rs.length=l.length/\∀(i:Nat) (r:List D),rs[i]? =some r->∃x y,l[i]? =some x/\r=[y]/\BorD B x y:=by(induction h with|nil=>grind|cons h t u=>grind)
theorem BorA.rep(I:Inv w0 m0 o0 G pins S a w m o){x y:A}{B:Nat->List T->Prop}(hB:∀j l,B j l->S (OB+j)= .box l)(h:BorA B x y){s:Nat}(U:RepA m w o S s x v)(S':Nat->A)(s':Nat):RepA (zQA w) w (λ_=>none) S' s' y v:=by
 cases h with
  |d h=>exact h.rep I hB (loc:=(s,0)) U
  |pl h=>
   cases x with
    |t x=>cases x with|d x=>exact RepD.mono (zJp I) U|agg l=>obtain⟨vs,e,k⟩:=U;exact⟨vs,e,k.mono (zJp I)⟩|_=>cases h
    |imm l=>
     obtain⟨g,p,e,k⟩:=U
     exact⟨g,p,e,λj d hj=>let⟨u,k1,k2⟩:=k j d hj;⟨u,zJp I _ _ _ k1,k2.mono (zJp I)⟩⟩
    |any=>trivial
    |_=>cases h
  | @lst l rs h=>
   obtain⟨g,cap,rfl,h1,h2,h3⟩:=U
   obtain⟨k1,k2⟩:=h.get
   show RepD (zQA w) (.seq 1 rs) _
   rw[<-k1]
   refine .seq 1 rs _ cap g 0 (λi q=>(w.cell? ⟨g,i,none⟩).getD undef) (by omega) h2 (λ_=>rfl) (λi r Z=> ?_) (λi r q dd Z hq=> ?_) (λi r q dd Z hq=> ?_)
   · grind
   all_goals
    obtain⟨x,y,q1,rfl,q2⟩:=k2 i r Z
    have W:q=0/\dd=y:=by grind
    obtain⟨rfl,rfl⟩:=W
    obtain⟨u,z1,z2⟩:=h3 i x q1
    have J:=I.sat _ _ _ z1
   · show w.cell? ⟨g,0+i*1+0,none⟩=some ((w.cell? ⟨g,i,none⟩).getD undef);grind
   · show RepD (zQA w) dd ((w.cell? ⟨g,i,none⟩).getD undef);rw[J];exact q2.rep I hB z2
theorem zSU.rep(U:Mk M S)(I:Inv w0 m0 o0 G pins S a w m o){B:Nat->List T->Prop}(Z:∀j l,B j l->S (OB+j)= .box l):∀(xs:List Operand) (args:List A),zSU B (xs.map (cpO M)) args->(xs.map a.eval).length=args.length/\∀(i:Nat) (x:A),args[i]? =some x->∀u J,RepA (zQA w) w (λ_=>none) u J x ((xs.map a.eval).getD i undef)
 |[],args,h=>by cases h;exact⟨rfl,λi x h=>by simp at h⟩
 |x::r,args,h=>by(cases h with|cons h t=>obtain⟨k1,k2⟩:=zSU.rep U I Z r _ t;refine⟨by simp[<-k1],λi y W u J=> ?_⟩;(cases i with|zero=>cases W;exact h.rep I Z (zW U I x 0) u J|succ i=>simpa using k2 i y (by simpa using W) u J))
def A.isLits:A->Bool
 | .t (.d (.lit _))=>true
 | .tup l=>l.all λx=>match x with| .d (.lit _)=>true|_=>false
 |_=>false
theorem lits_rep{r:A}(h:r.isLits=true){w w':World}{o o':OwnM}{S S':Nat->A}{s s':Nat}(J:RepA m w o S s r v)(m':Mem):RepA m' w' o' S' s' r v:=by
 cases r with
 |t x=>cases x with
  |d x=>cases x with
   |lit u=>cases J;exact .lit _ (by assumption)
   |_=>cases h
  |_=>cases h
 |tup l=>
  obtain⟨U,e,W,Z⟩:=J
  refine⟨U,e,W,λj x I=> ?_⟩
  obtain⟨u,k1,k2⟩:=Z j x I
  have:=wI.1 h x (wD I)
  refine⟨u,k1,?_⟩
  cases x with
  |d x=>cases x with
   |lit u=>cases k2;exact .lit _ (by assumption)
   |_=>grind
  |_=>grind
 |_=>cases h
theorem look_args(I:Inv w0 m0 o0 G pins S a w m o){fn:FuncId}{args:List A}{r:A}(hf:FC P fn args [] r){vals:Array Value}(hv:vals.size=args.length)(Z:∀i x,args[i]? =some x->∀S' J,RepA (zQA w) w (λ_=>none) S' J x (vals.getD i undef)):
 Calls P fn vals w λe w'=>∃(u:Value) (m':Mem) (o':OwnM) (S':Nat->A) (U:Act) (ρ:Nat),e= .returned u/\Inv w (zQA w) (λ_=>none) ⟨λg=>(λ_=>none:OwnM) g≠none,[]⟩ (zAD 0 args) S' U w' m' o'/\RepA m' w' o' S' ρ r u/\∀(i:Nat) (l:List T),(i,l)∈([]:List (Nat×List T))->S' i= .box l/\i≠ρ:=
 hf w (zQA w) (λ_=>none) vals (λ_ _ _ h=>h) ((I.tbl.trans I.mono).trans (zJp I)) (λ_ _ h=>by cases h) (λ_ _ _ h=>by cases h) hv (λs=>by unfold argS;rw[wK];(cases hx:args[s]? with|none=>trivial|some x=>exact Z s x hx _ _))
theorem call_lits(I:Inv w0 m0 o0 G pins S a w m o){fn:FuncId}{args:List A}{r:A}(hf:FC P fn args [] r)(hl:r.isLits=true){vals:Array Value}(hv:vals.size=args.length)(W:∀i x,args[i]? =some x->∀S' s',RepA (zQA w) w (λ_=>none) S' s' x (vals.getD i undef)){d:Nat}(hd:d<a.tmps.size)(U:(S d).isBox=false):
 Calls P fn vals w λe w'=>∃u,e= .returned u/\Inv w0 m0 o0 G pins (upd S d r) (a.put (some d) u) w' m o:=by
 refine(look_args I hf hv W).mono ?_
 rintro e w' ⟨u,m',o',S',a',ρ,rfl,J,W,_⟩
 have Z:Same (λ_=>False) w w':=J.same.weaken λg h=>h rfl
 refine⟨u,rfl,I.put d r u hd U (lits_rep hl W m) (I.same.trans (Z.weaken λ_ h=>h.elim)) (λb p v h=> ?_) (Mle.refl _) (λ_ _=>rfl) (λg hg=>Z.block g hg id) Z.size⟩
 have hb:b<w.heap.size:=by have:=wY w _ (I.sat b p v h);grind
 rw[vP (w:=w) (Z.block b hb id)]
 exact I.sat b p v h
theorem zP0(hM:Mk M S)(I:Inv w0 m0 o0 G pins S a w m o){fn:FuncId}{xs:List Operand}{ts:Array TypeId}{fx:Operand}(hop:op.op= .call {callee:= .value fx,args:=xs.toArray,argTypes:=ts})(hfx:vO M fx=some (.func (.func fn) #[] #[])){F:Func}(hfn:P.funcs[fn]? =some F)(hbody:F.body.isNone=false)(hname:(F.name== "runtime.NumGoroutine")=false):
 (execOp a.eval op).run P w= .ok (.enter fn (xs.map a.eval).toArray) w:=by
 unfold execOp
 rw[hop]
 simp only[resolve,zA0 hM I hfx,Deferred.ofValue,wU]
 have hb:F.body≠none:=λe=>by rw[e]at hbody;cases hbody
 have hn:F.name≠ "runtime.NumGoroutine" :=λe=>by rw[e]at hname;simp at hname
 simp[invoke,callFunc,hfn,hn,hb]
def zWK(M:Nat->A)(f:Nat->A)(j:Nat)(l:List T):Prop:=M (OB+j)= .box l\/∃c,j=OB+c/\f c= .box l
theorem boxes_hx(I:Mk M S)(u:Low S)(hk:S HK= .hp f)(j:Nat)(l:List T)(h:zWK M f j l):hx S (OB+j)= .box l:=by rcases h with h|⟨c,rfl,h⟩;exact zS2 I h;exact zPz u hk h
theorem h_look(hM:Mk M S)(hk:S HK= .hp f){fn:Nat}{xs:List Operand}{ts:Array TypeId}{fx:Operand}{r:A}{args:List A}(hop:op.op= .call {callee:= .value fx,args:=xs.toArray,argTypes:=ts})(hfx:vO M fx=some (.func (.func fn) #[] #[]))(hd:op.dst=some d)(hok:okD N pins S d=true){F:Func}(hfn:P.funcs[fn]? =some F)(hbody:F.body.isNone=false)(hname:(F.name== "runtime.NumGoroutine")=false)
(hf:FC P fn args [] r)(hargs:zSU (zWK M f) (xs.map (cpO M)) args)(hl:r.isLits=true):OpH P pins N op S (app S [(d,r)]):=by
 refine .of' (e:=[(d,_)]) λhN hlo=>⟨?_,zAr (zX hN hok)⟩
 intro w0 m0 o0 G a w m o hNa I K Q hK
 obtain⟨h1,h2,h3⟩:=zP (qA hN hok)
 obtain⟨k1,k2⟩:=zSU.rep hM.hx I (boxes_hx hM hlo hk) xs args hargs
 unfold Oper.wp
 rw[zP0 hM.hx I hop hfx hfn hbody hname]
 refine Calls.mono (call_lits I hf hl (vals:=(xs.map a.eval).toArray) (by simpa using k1) (λi x hi S' s'=>by simpa using k2 i x hi S' s') (d:=d) (by omega) h2) ?_
 rintro e w' ⟨u,rfl,J⟩
 rw[<-hd]at J
 exact hK _ _ _ _ (by rw[zAK,hNa]) J
theorem h_htake(hM:Mk M S)(hk:S HK= .hp f){off t n E k:Nat}{x:Operand}{l l':List T}{W:List (List D)}(α:op.op= .load t x)(ht:tyA P t=some (false,n))(hx:cpO M x= .t (.hpt c off))(hb:f c= .box l)(hl:l[off]? =some (.own E k W))(γ:l.set off (.d (.seq k W))=l')(hd:op.dst=some d)(U:okD N pins S d=true)(β:f'=updF f c (.box l')):
 OpH P pins N op S (app S [(HK,.hp f'),(d,.t (.own E k W))]):=by
 subst γ
 refine h_mk hk β U λhN δ=> ?_
 refine zL λw0 m0 o0 G a w m o ζ I=> ?_
 obtain⟨h1,h2,h3⟩:=zP (qA hN U)
 have Z:=zW hM.hx I x 0
 rw[hx]at Z
 obtain⟨g,q1,q2⟩:=Z
 have ε:=zX hN U
 obtain⟨g',u,m',o',p1,p2,J⟩:=zNz (b:=OB+(OB+c)) (d:=d) I (zPz δ hk hb) hl (by omega) (by omega) h2 h3
 have:=I.inj _ _ _ q1 p1
 subst this
 refine⟨u,w,m',o',?_,by rw[hd];exact J⟩
 unfold execOp
 rw[α]
 simp only[wE]
 rw[q2]
 have e1:(Instr.loadAt t (.pointer (some ⟨g,off,none⟩))).run P w=(loadVar t ⟨g,off,none⟩).run P w:=rfl
 rw[e1,zBb ht p2]
 rfl
theorem h_hsto(hM:Mk M S)(hk:S HK= .hp f){off t s E' k:Nat}{x:Operand}{l l':List T}{U:List (List D)}{i:TypeInfo}(Z:op.op= .store t x (.tmp s))(hd:op.dst=none)(hi:P.info? t=some i)(α:i.size=1)(hx:cpO M x= .t (.hpt c off))(hb:f c= .box l)(hs:M s= .t (.own E' k U))(J:Nat.blt off l.length=true)(β:l.set off (.own E' k U)=l')(u:okD N pins S s=true)(W:f'=updF f c (.box l')):
 OpH P pins N op S (app S [(HK,.hp f'),(s,.t (.d (.seq k U)))]):=by
 subst β
 refine h_mk hk W u λhN γ=> ?_
 have δ:=zX hN u
 obtain⟨h1,h2,h3⟩:=zP (qA hN u)
 have:=zMp (N:=N) (b:=OB+(OB+c)) (s:=s) hM.hx Z hd hi α (λ{w0 m0 o0 G a w m o} I=>by have h:=zW hM.hx I x 0;rw[hx]at h;obtain⟨g,q1,q2⟩:=h;(exact⟨g,q1,q2⟩)) (zPz γ hk hb) hs (by simpa using J) (by omega) h3
 rw[zHE (by omega)]at this
 exact this
theorem Inv.wkbox{b:Nat}{l l':List T}(I:Inv w0 m0 o0 G pins (upd S b (.box l)) a w m o)(h:WkTs l l')(Z:l'.all (λx=> !x.isAgg)=true):Inv w0 m0 o0 G pins (upd S b (.box l')) a w m o:=by refine⟨I.same,I.sat,I.mono,I.old,I.own,I.lt,I.inj,I.pinned,λs=> ?_,I.defers,I.tbl,I.wide,I.shps⟩;have u:=I.slots s;by_cases e:s=b;(subst e;rw[zK]at u⊢;(exact((WkA.box h Z).rep I.sat u).turn λU J hb=>by by_cases e:U=s;subst e;exact⟨_,zK ..⟩;rw[zE e]at hb;exact⟨J,by rw[zE e,hb]⟩));(rw[zE e]at u⊢;refine u.turn λU J hb=> ?_;by_cases e:U=b;subst e;exact⟨_,zK ..⟩;rw[zE e]at hb;exact⟨J,by rw[zE e,hb]⟩)
theorem h_stw(hM:Mk M S)(hk:S HK= .hp f){t off:Nat}{x y:Operand}(U:op.op= .store t x y)(hd:op.dst=none){i:TypeInfo}(hi:P.info? t=some i)(hx:cpO M x= .t (.hpt c off)){l l':List T}(hf:f c= .box l){q:List T}(hc:zCH (cpO M y)=some q)(Z:q.length=i.size)(u:off+i.size<=l.length)(W:WkTs (qD l off q) l')(ha:l'.all (λx=> !x.isAgg)=true)(J:f'=updF f c (.box l')):OpH P pins N op S (app S [(HK,.hp f')]):=
 h_put hk J λhN hl=>(ok_hst hM.hx U hd hi hx (zPz hl hk hf) hc Z u).post λw0 m0 o0 G a w m o I=>I.wkbox W ha
theorem h_boxw(hM:Mk M S)(hk:S HK= .hp f){E:Nat}{x:Operand}{l l':List T}(W:op.op= .box E x)(hl:zCH (cpO M x)=some l)(hd:op.dst=some d)(u:okD N pins S d=true)(hf:f c= .free)(hw:WkTs l l')(ha:l'.all (λx=> !x.isAgg)=true)(U:f'=updF f c (.box l')):OpH P pins N op S (app S [(HK,.hp f'),(d,.t (.hpt c 0))]):=by refine h_mk hk U u λZ J=> ?_;have α:=zX Z u;refine(ok_hbox hM.hx W hl hd (qA Z u) (zX Z u) (zVY J hk hf)).post λw0 m0 o0 G a w m o I=> ?_;have e1:∀q:List T,app (hx S) [(OB+(OB+c),A.box q),(d,.t (.hpt c 0))]=upd (upd (hx S) d (.t (.hpt c 0))) (OB+(OB+c)) (.box q):=λq=>zHE (S:=hx S) (s:=OB+(OB+c)) (t:=d) (by omega);rw[e1]at I⊢;exact I.wkbox hw ha
end
section
variable {P:Program}{pins:List Nat}{N:Nat}{Q:Exit->SL->Prop}{L L':SL}
theorem WkTs.rfl':∀(l:List T),WkTs l l
 |[]=> .nil
 |x::l=> .cons (.refl x) (WkTs.rfl' l)
theorem pbE{g f2:Nat->A}{j c:Nat}{la:List T}(hp:∀k,rnA j c (g k)=g k)(u:f2=updF g c (.box la))(k:Nat):f2 k=if k=c then .box la else rnA j c (g k):=by rw[u,hp];rfl
theorem st_pubw(j:Nat){c:Nat}{f1 f2:Nat->A}{la u:List T}(hk:gt L HK= .hp f1)(hb:gt L (OB+j)= .box la)(hc:(Nat.blt (j+1) OB&& !pins.contains (OB+j))=true)(γ:la.map (rnT j c)=la)(U:f1 c= .free)(hw:WkTs la u)(ha:u.all (λx=> !x.isAgg)=true)(ε:∀k,f2 k=if k=c then .box u else rnA j c (f1 k))(hL:(HK,.hp f2)::(OB+j,.free)::renL j c L=L')(hS:St w0 m0 o0 G pins N L a w):St w0 m0 o0 G pins N L' a w:=by
 subst hL
 simp only[wH,vQ,vJ,decide_eq_false_iff_not]at hc
 obtain⟨c2,c3⟩:=hc
 have c2:j+1<OB:=by simpa using c2
 have e1:OB+j<OB2:=by unfold OB OB2 at*;omega
 have e2:OB+j≠HK:=by unfold HK;unfold OB at*;omega
 obtain⟨hN,Z,m,o,I⟩:=hS
 have δ:Low (gt (renL j c L)):=λt ht=>by rw[zPP,Z t ht];rfl
 have β:Low (gt ((HK,.hp f2)::(OB+j,.free)::renL j c L)):=by
  rw[zQ,zQ]
  exact(δ.upd e1).upd zLp
 have α:gt ((HK,.hp f2)::(OB+j,.free)::renL j c L) HK= .hp f2:=by rw[zQ,zK]
 have he:hx (gt ((HK,.hp f2)::(OB+j,.free)::renL j c L))=upd (upd (λt=>if t=OB+j then .free else if t=OB+(OB+c)then .box la else rnA j c (hx (gt L) t)) (OB+(OB+c)) (.box u)) HK (.hp f2):=by
  funext t
  by_cases e:t=HK
  ·
   subst e
   rw[zK]
   exact yM α (by simp)
  ·
   rw[zE e]
   rcases wR t OB2 with h2|h2
   ·
    have W:t≠OB+(OB+c):=by unfold OB OB2 at*;omega
    rw[zBx h2,zQ,zE e,zQ,zE W]
    unfold upd
    by_cases e3:t=OB+j
    · grind
    · rw[if_neg e3,if_neg e3,if_neg W,zPP,zBx h2]
   ·
    obtain⟨k,rfl⟩:∃k,t=OB2+k:=⟨t-OB2,by omega⟩
    rw[qX,zDO β α,ε]
    by_cases e3:k=c
    · subst e3;rw[if_pos rfl,zK];rfl
    · rw[if_neg e3,zE (by omega),if_neg (by unfold OB OB2 at*;omega),if_neg (by omega),zDO Z hk,san_rn]
 obtain⟨o2,J⟩:=I.pub (j:=j) (c:=c) (la:=la) (by omega) c3 (by rw[zDO Z hk,U];rfl) (yM hb (by simp)) γ (S':=λt=>if t=OB+j then .free else if t=OB+(OB+c)then .box la else rnA j c (hx (gt L) t)) (if_pos rfl) (by
  show(if OB+(OB+c)=OB+j then _ else _)=_
  rw[if_neg (by omega),if_pos rfl]) (λt h1 h2=>by
  show(if t=OB+j then _ else _)=_
  rw[if_neg h1,if_neg h2])
 have e5:(λt=>if t=OB+j then A.free else if t=OB+(OB+c)then .box la else rnA j c (hx (gt L) t))=upd (λt=>if t=OB+j then A.free else if t=OB+(OB+c)then .box la else rnA j c (hx (gt L) t)) (OB+(OB+c)) (.box la):=by
  funext t
  unfold upd
  grind
 rw[e5]at J
 have J2:=(J.wkbox hw ha).hk (f:=f1) (by
  rw[zE (by unfold HK OB;omega)]
  show(if HK=OB+j then _ else if HK=OB+(OB+c)then _ else rnA j c (hx (gt L) HK))=_
  rw[if_neg (Ne.symm e2),if_neg (by unfold HK OB;omega),yM hk (by simp)]
  rfl) f2
 rw[<-he]at J2
 exact⟨hN,β,m,o2,J2⟩
theorem fl_noAg{α:Type}(c:α->List D)(l:List α):(fl (dT c) l).all (λx=> !x.isAgg)=true:=by rw[zLb,List.all_map];exact wI.2 λ_ _=>rfl
end
section
variable {α:Type}{c:α->List D}{k:Nat}
theorem zTi{x y:List α}{off n:Nat}(h:zRe x off n=some y):(y.map c).length=n:=by obtain⟨u,rfl⟩:=zRp h;grind
theorem zP7{x y:List α}{off n:Nat}(u:∀a,(c a).length=1)(h:zRe x off n=some y):((fl (dT c) x).drop off).take (n*1)=((y.map c).flatMap id).map .d:=by obtain⟨I,rfl⟩:=zRp h;rw[uI,zSI (zKw u),zTZ (zKw u),zLb]
variable {P:Program}{pins:List Nat}{N:Nat}{S M:Nat->A}{op:Oper}{d:Nat}
theorem h_min(U:Mk M S){ts:Array TypeId}{x y:Operand}{k ky:IntKind}{a b:Int}(J:op.op= .call {callee:= .builtin .min,args:= #[x,y],argTypes:=ts})(hx:vO M x=some (.int k a))(hy:vO M y=some (.int ky b))(hd:op.dst=some d)(u:okD N pins S d=true):OpH P pins N op S (app S [(d,.t (.d (.lit (.int k (if b<a then b else a)))))]):=by refine .of (e:=[(d,_)]) λZ=>⟨?_,zAr (zX Z u)⟩;refine zL λw0 m0 o0 G ac w m o W I=> ?_;obtain⟨h1,h2,h3⟩:=zP (qA Z u);refine⟨.int k (if b<a then b else a),w,m,o,?_,by rw[hd];exact I.set d _ _ (by omega) h2 (.lit _ rfl)⟩;unfold execOp;rw[J];simp only[resolve,invoke,builtin,wE,wQ,wC,wU,vC,vS];rw[zA0 U.hx I hx,zA0 U.hx I hy];simp[Builtin.min_,Builtin.min2]
def mi3(a b c:Int):Int:=if c<(if b<a then b else a)then c else(if b<a then b else a)
theorem h_min3(J:Mk M S){ts:Array TypeId}{x y z:Operand}{k ky kz:IntKind}{a b c:Int}(U:op.op= .call {callee:= .builtin .min,args:= #[x,y,z],argTypes:=ts})(hx:vO M x=some (.int k a))(hy:vO M y=some (.int ky b))(hz:vO M z=some (.int kz c))(hd:op.dst=some d)(u:okD N pins S d=true):OpH P pins N op S (app S [(d,.t (.d (.lit (.int k (mi3 a b c)))))]):=by refine .of (e:=[(d,_)]) λZ=>⟨?_,zAr (zX Z u)⟩;refine zL λw0 m0 o0 G ac w m o W I=> ?_;obtain⟨h1,h2,h3⟩:=zP (qA Z u);refine⟨.int k (mi3 a b c),w,m,o,?_,by rw[hd];exact I.set d _ _ (by omega) h2 (.lit _ rfl)⟩;unfold execOp;rw[U];simp only[resolve,invoke,builtin,wE,wQ,wC,wU,vC,vS];rw[zA0 J.hx I hx,zA0 J.hx I hy,zA0 J.hx I hz];simp[Builtin.min_,Builtin.min2,mi3]
def ma3(a b c:Int):Int:=if c>(if b>a then b else a)then c else(if b>a then b else a)
theorem h_max3(J:Mk M S){ts:Array TypeId}{x y z:Operand}{k ky kz:IntKind}{a b c:Int}(U:op.op= .call {callee:= .builtin .max,args:= #[x,y,z],argTypes:=ts})(hx:vO M x=some (.int k a))(hy:vO M y=some (.int ky b))(hz:vO M z=some (.int kz c))(hd:op.dst=some d)(u:okD N pins S d=true):OpH P pins N op S (app S [(d,.t (.d (.lit (.int k (ma3 a b c)))))]):=by refine .of (e:=[(d,_)]) λZ=>⟨?_,zAr (zX Z u)⟩;refine zL λw0 m0 o0 G ac w m o W I=> ?_;obtain⟨h1,h2,h3⟩:=zP (qA Z u);refine⟨.int k (ma3 a b c),w,m,o,?_,by rw[hd];exact I.set d _ _ (by omega) h2 (.lit _ rfl)⟩;unfold execOp;rw[U];simp only[resolve,invoke,builtin,wE,wQ,wC,wU,vC,vS];rw[zA0 J.hx I hx,zA0 J.hx I hy,zA0 J.hx I hz];simp[Builtin.max_,Builtin.max2,ma3]
theorem app_same{t:Nat}{x:A}(h:S t=x):upd S t x=S:=by funext k;unfold upd;grind
theorem zSv{f:Nat->A}(hM:Mk M S)(hk:S HK= .hp f){fn:Nat}{xs:List Operand}{ts:Array TypeId}{fx:Operand}(hop:op.op= .call {callee:= .value fx,args:=xs.toArray,argTypes:=ts})(hfx:vO M fx=some (.func (.func fn) #[] #[]))(hd:op.dst=some d)(hok:okD N pins S d=true){F:Func}(hfn:P.funcs[fn]? =some F)(hbody:F.body.isNone=false)(hname:(F.name== "runtime.NumGoroutine")=false){args:List A}{ins outs:List A}{r r':A}{σ fr:List Nat}(hf:FCH P fn args ins outs f f r)(hp:zCO f)(hb:zVW M σ fr outs=true)(b3:ins.all A.flatO=true)(b4:outs.all A.flatO=true)(hin:σ.map (λj=>S (OB+j))=ins)(hargs:zIL σ (xs.map (cpO M)) args)(hle:Nat.ble args.length OB=true)(hres:ResH (σ++fr) r r'):
 OpH P pins N op S (app S (zCq (σ++fr) outs++[(d,r')])):=by
 have h:=h_call hM hk hop hfx hd hok hfn hbody hname hf hp hp hb b3 b4 hin hargs hle hres
 have hj:∀j∈σ++fr,j+1<OB:=λj h=>by unfold zVW at hb;simp only[wH]at hb;have:=wI.1 hb.1.1.1.2 j h;simpa using this
 have e:app S (zCq (σ++fr) outs++[(HK,.hp f),(d,r')])=app S (zCq (σ++fr) outs++[(d,r')]):=by rw[zKL,zKL];show upd (upd (app S (zCq (σ++fr) outs)) HK (.hp f)) d r'=upd (app S (zCq (σ++fr) outs)) d r';have e1:upd (app S (zCq (σ++fr) outs)) HK (.hp f)=app S (zCq (σ++fr) outs):=app_same (by rw[zFG,hk];rintro⟨h1,h2⟩;have:=hj _ h2;unfold HK OB at this;omega);rw[e1]
 rw[e]at h
 exact h
theorem put_self(a:Act)(d:Nat):a.put (some d) (a.tmps.getD d undef)=a:=by obtain⟨u,ds⟩:=a;show Act.mk _ _=_;congr 1;rw[Array.setIfInBounds_def];split;(rename_i h;exact Array.set_getElem_self h);rfl
theorem Inv.toOwn(I:Inv w0 m0 o0 G pins S a w m o){j d E k:Nat}{l:List T}{rs:List (List D)}(hj:j<OB)(hd:d<OB)(ζ:d<a.tmps.size)(hp:OB+j∉pins)(ι:d∉pins)(hS:S d= .t (.view j 0 (OFB+E) k rs.length))(hb:S (OB+j)= .box l)(hm:∀s,s≠d->s≠OB+j->zBa j (S s)=false)(hk:0<k)(hn:rs≠[])(U:∀r∈rs,r.length=k)(hl:l=(rs.flatMap id).map .d):
 ∃m' o',Inv w0 m0 o0 G pins (upd (upd S (OB+j) .free) d (.t (.own E k rs))) a w m' o':=by
 have hs:=I.slots (OB+j)
 rw[hb]at hs
 obtain⟨g,_,h1,h2,W,E',h3,h4,h5⟩:=hs
 have β:=I.slots d
 rw[hS]at β
 obtain⟨A',c,q2,q3,q5,q4⟩:=β
 have μ:=uH.2 hn
 obtain⟨g',ξ,E1,z1,z2,z3,z4,z5⟩:=q4.resolve_left λh=>by omega
 have:=I.inj _ _ _ h1 z1
 subst this
 rw[h3]at z3
 cases z3
 obtain⟨γ,hc,Z⟩:=(z5.resolve_left (by unfold OFB;omega)).resolve_left λh=>by have:=h.1;omega
 have γ:E=E':=by omega
 subst hc γ
 have ν:l.length=rs.length*k:=by subst hl;rw[wM];exact zFe U
 have I1:=I.tell d .any (by rw[hS];rfl) trivial
 have I2:=I1.forget hj hp λs=>by by_cases e:s=d;subst e;rw[zK];rfl;(rw[zE e];by_cases e2:s=OB+j;(subst e2;rw[hb];subst hl;exact zWq (noPt_d _) j);exact hm s e e2)
 have κ:d≠OB+j:=by omega
 have δ:zMS o j g=none:=by(cases θ:zMS o j g with|none=>rfl|some l0=>obtain⟨y1,y2⟩:=qK.1 θ;rw[h1]at y1;injection y1 with y1;exact absurd (by rw[<-y1]) y2)
 have J:=I2.own_put d (.t (.own E k rs)) (a.tmps.getD d undef) (λp=>W[p]?) g w ζ (by rw[zE κ,zK];rfl) ι (λl h=>by rw[δ]at h;cases h) (I.own g _ h1) (Same.refl _ _) (I.lt g _ h1) (λp u h=>by rw[h2]at h;cases h) (λp u h=>by rw[cell_of_row w g p W E _ h3];exact h) (by refine⟨A',rs.length,W.toList,q5,⟨by rw[vE];exact Z,.inr ⟨g,0,rs.length,W,by rw[q5,z2],⟨E,h3,.inr ⟨rfl,rfl,Z⟩⟩,wL _,q3,.inl (by rw[vF];exact Z),by rw[List.drop_zero,tD (by rw[vE];omega)]⟩⟩,λg2 α=> ?_,λi r hi=>U r (wD hi),λi r q e hi hq=> ?_⟩;(rw[z2]at α;cases α;refine⟨qT _ _ _,λp _=> ?_⟩;rw[zAY,z2];show W[0+p]? =_;simp);(have η:=U r (wD hi);(have ε:q<k:=by rw[<-η];exact(wF.1 hq).1);(have:l[i*k+q]? =some (.d e):=by subst hl;rw[wG,zDN U hi ε,hq];rfl);obtain⟨_,u,k1,k2⟩:=h5 _ _ this;refine⟨u,by simpa using k1,RepD.mono (λb p u hu=> ?_) k2⟩;unfold newM;split;rename_i e;subst e;rw[h2]at hu;cases hu;exact hu))
 rw[put_self]at J
 have e:upd (upd (upd S d .any) (OB+j) .free) d (.t (.own E k rs))=upd (upd S (OB+j) .free) d (.t (.own E k rs)):=by funext s;unfold upd;split;rfl;split<;>rfl
 rw[e]at J
 exact⟨_,_,J⟩
theorem st_own{L L':SL}(d j:Nat){E k n:Nat}{l:List T}{rs:List (List D)}(hd:gt L d= .t (.view j 0 (OFB+E) k n))(hb:gt L (OB+j)= .box l)(hn:n=rs.length)(γ:rs≠[])(hl:l=(rs.flatMap id).map .d)(ε:∀r∈rs,r.length=k)
(hc:(Nat.blt d OB&&Nat.blt (j+1) OB&& !pins.contains (OB+j)&& !pins.contains d&&Nat.blt 0 k&&zIt j d L)=true)(U:Nat.blt d N=true)(hh:zTE L)(hL:(d,.t (.own E k rs))::(OB+j,.free)::zA9 j d L=L')(hS:St w0 m0 o0 G pins N L a w):St w0 m0 o0 G pins N L' a w:=by
 subst hL hn
 simp only[wH,vQ,vJ,decide_eq_false_iff_not]at hc
 obtain⟨⟨⟨⟨⟨Z,c2⟩,c3⟩,c4⟩,c5⟩,c6⟩:=hc
 have Z:d<OB:=by simpa using Z
 have c2:j+1<OB:=by simpa using c2
 have c5:0<k:=by simpa using c5
 have U:d<N:=by simpa using U
 obtain⟨hN,θ,m,o,I⟩:=hS
 have α:∀s,gt (zA9 j d L) s=gt L s\/(gt (zA9 j d L) s= .any/\(gt L s).isBox=false):=λs=>by rw[zCJ];(cases hm:(Nat.blt s OB&&(zBa j (gt L s)&& !Nat.beq s d))with|true=>exact .inr ⟨rfl,zGq c6 s hm⟩|false=>grind)
 have W:gt (zA9 j d L) HK=gt L HK:=zAU L (by unfold HK OB;omega)
 obtain⟨u,δ⟩:=zPF θ W α
 have I2:=I.less δ
 have β:gt (zA9 j d L) d= .t (.view j 0 (OFB+E) k rs.length):=by rw[zCJ,hd];simp
 have ζ:gt (zA9 j d L) (OB+j)= .box l:=by rcases α (OB+j)with e|⟨_,e⟩;grind;rw[hb]at e;cases e
 have hm:∀s,s≠d->s≠OB+j->zBa j (hx (gt (zA9 j d L)) s)=false:=λs h1 h2=>by rcases wR s OB2 with h3|h3;(rw[zBx h3];rcases wR s OB with h4|h4;(rw[zCJ];(have η:Nat.beq s d=false:=by(cases hb:Nat.beq s d with|false=>rfl|true=>exact absurd (wT hb) h1));(have ι:Nat.blt s OB=true:=by simpa using h4);rw[η,ι];(cases hm:zBa j (gt L s)with|true=>rfl|false=>exact hm));rw[zAU L h4];exact hh.2 s h4 j);(obtain⟨k,rfl⟩:∃k,s=OB2+k:=⟨s-OB2,by omega⟩;exact zJs u (by rw[W];exact hh.1) k)
 obtain⟨m',o',J⟩:=I2.toOwn (j:=j) (d:=d) (E:=E) (k:=k) (l:=l) (rs:=rs) (by omega) Z (by rw[hN];exact U) c3 c4 (yM β (by simp)) (yM ζ (by simp)) hm c5 γ ε hl
 have e1:OB+j<OB2:=by unfold OB OB2 at*;omega
 have e2:OB+j≠HK:=by unfold HK;unfold OB at*;omega
 refine⟨hN,?_,m',o',?_⟩
 · rw[zQ,zQ];exact(u.upd e1).upd (lt2 Z)
 · rw[zQ,zQ,zAc (lt2 Z) (by unfold HK;unfold OB at Z;omega),zAc e1 e2];exact J
theorem gb_flatO{α:Type}(c:α->List D)(l:List α):(gbA c l).flatO=true:=by(cases l with|nil=>rfl|cons a r=>exact zNH c (a::r))
end
class PuH (f:Nat->A):Prop where
 h:zCO f
theorem zWw:zVW M [] [] []=true:=rfl
end Go.Proofs.YtocolhfjpadaoaaGreatDoor
namespace Go.Proofs.YtocolhfjpadaoaaGreatDoor
open Go.RowKit
theorem el_u8:zIE Tryz.prog 22 5 1 1:= .mk' (z:= .int .u8 0) Tryz.underlying22 (by kernel_rfl) rfl (by decide) (by decide)
def New(w w':World)(A:Option Addr)(bs:List UInt8):Prop:=Byt w' A bs/\∀u,A=some u->w.heap.size<=u.block
theorem New.from{w u w':World}{A:Option Addr}{bs:List UInt8}(h:New u w' A bs)(I:w.heap.size<=u.heap.size):New w w' A bs:=⟨h.1,λJ e=>vR I (h.2 J e)⟩
def GivesB(bs:List UInt8)(w:World)(e:Ending)(w':World):Prop:=∃A c,e= .returned (.slice A bs.length c)/\New w w' A bs/\(bs.length<=c/\c<=maxLen)/\Below w.heap.size w w'
def zVz(bs:List UInt8)(u:Int)(w:World)(e:Ending)(w':World):Prop:=∃A c,e= .returned (.tuple #[.slice A bs.length c,.int .i64 u])/\New w w' A bs/\(bs.length<=c/\c<=maxLen)/\Below w.heap.size w w'
theorem Own.byt{w:World}{B:Nat}{e:TypeId}{A:Option Addr}{n c:Nat}{bs:List UInt8}(h:Own w B e 1 A n c (u8s bs)):(Byt w A bs/\∀ad,A=some ad->B<=ad.block)/\bs.length=n/\(bs.length<=c/\c<=maxLen):=
 ⟨⟨h.row,λad e=>(h.lt ad.block (by rw[e];rfl)).1⟩,by have:=h.len;rw[zKE]at this;omega,⟨by have:=h.len;have:=h.cap;rw[zKE]at*;omega,h.capMax⟩⟩
end Go.Proofs.YtocolhfjpadaoaaGreatDoor
namespace Go.Proofs.YtocolhfjpadaoaaGreatDoor
open Go Go.RowKit
variable {P:Program}{w0:World}{w:World}{m0:Mem}{m:Mem}{o0:OwnM}{o:OwnM}{G:GD}{pins:List Nat}{N:Nat}{a:Act}{op:Oper}{S:Nat->A}{M:Nat->A}{L:SL}{v:Value}{W:World}{Q:Mem}{X:OwnM}
def zKu(m:Mem)(w w':World):Mem:=λb p=>if b<w.heap.size then m b p else w'.cell? ⟨b,p,none⟩
theorem zI0{w w':World}(U:∀b p u,m b p=some u->w.cell? ⟨b,p,none⟩=some u)(Z:Mle TBL m)(I:∀g l,o g=some l->g<w.heap.size/\l.1<OB)(J:∀g g' l,o g=some l->o g'=some l->g=g')(hb:Below w.heap.size w w'):
 Inv w m o ⟨λg=>o g≠none,[]⟩ pins (λ_=> .any) {tmps:= #[],defers:=[]} w' (zKu m w w') o:=by
 have W:∀b p u,m b p=some u->b<w.heap.size:=λb p u h=>by have:=wY w _ (U b p u h);grind
 refine⟨Same.of_below hb,λb p u h=> ?_,λb p u h=> ?_,λb α _=> ?_,λg l h=> .inl (by show o g≠none;rw[h];simp),λg l h=>wN (I g l h).1 hb.size,J,λs _ g hg=>hg,λs=>trivial,rfl,Z,vI _,λg j h=>absurd (I g _ h).2 (by show¬OB+j<OB;omega)⟩
 · unfold zKu at h;split at h;(rename_i I;rw[hb.cell (p:=⟨b,p,none⟩) I];grind);exact h
 · unfold zKu;grind
 · funext p;unfold zKu;grind
theorem zYO{w w':World}{A':Option Addr}{bs:List UInt8}{c:Nat}(h:New w w' A' bs)(hc:bs.length<=c/\c<=maxLen):RepD (zKu m w w') (.seq 1 (zV bs)) (.slice A' bs.length c):=by have hl:(zV bs).length=bs.length:=zMr bs;(have key:∀U:Option Addr,(zV bs≠[]->∃g p,U=some ⟨g,p,none⟩/\w.heap.size<=g/\∀i (u:i<bs.length),w'.cell? ⟨g,p+i,none⟩=some (.int .u8 (bs[i].toNat:Int)))->RepD (zKu m w w') (.seq 1 (zV bs)) (.slice U (zV bs).length c):=by intro U α;by_cases he:zV bs=[];(rw[he];exact .seq 1 [] U c 0 0 (λ_ _=>undef) (by simp) hc.2 (λh=>absurd rfl h) (λi r h=>by simp at h) (λi r j d h=>by simp at h) (λi r j d h=>by simp at h));(obtain⟨g,p,e,hg,γ⟩:=α he;(have hb:∀(i:Nat) (r:List D),(zV bs)[i]? =some r->∃u:i<bs.length,r=[D.lit (.int .u8 (bs[i].toNat:Int))]:=by intro i r u;(have I:i<bs.length:=by rw[<-hl];exact(wF.1 u).1);refine⟨I,?_⟩;unfold zV at u;grind);refine .seq 1 _ U c g p (λi _=>if h:i<bs.length then .int .u8 (bs[i].toNat:Int)else undef) (by rw[hl];exact hc.1) hc.2 (λ_=>e) (λi r u=> ?_) (λi r j d u hj=> ?_) (λi r j d u hj=> ?_);grind;(obtain⟨I,rfl⟩:=hb i r u;(cases j with|succ j=>grind|zero=>unfold zKu;grind));(obtain⟨I,rfl⟩:=hb i r u;(cases j with|succ j=>grind|zero=>cases hj;simp only[I,dif_pos];exact .lit _ rfl))));rw[<-hl];refine key A' λZ=> ?_;(have J:0<bs.length:=by rw[<-hl];exact uH.2 Z);obtain⟨ad,e,W⟩:=h.1.at_ (j:=0) J;(have hs:ad.spot=none:=by have:=World.cell?_spot W;simpa[Addr.add]using this);obtain⟨g,p,sp⟩:=ad;simp only at hs;subst hs;refine⟨g,p,e,h.2 _ e,λi u=> ?_⟩;obtain⟨δ,e',β⟩:=h.1.at_ (j:=i) u;rw[e]at e';cases e';rwa [Addr.add_mid]at β
theorem zUv{f:FuncId}{args:List A}{bs:List UInt8}{er:Int}(h:∀(w:World) (m:Mem) (o:OwnM) (vals:Array Value),vals.size=args.length->(∀s,RepA m w o (argS args) s (argS args s) (vals.getD s undef))->Calls Tryz.prog f vals w (zVz bs er w)):FC Tryz.prog f args [] (.tup [.d (.seq 1 (zV bs)),.d (.lit (.int .i64 er))]):=by intro w m o vals U Z α J β I;refine(h w m o vals β I).mono ?_;rintro e w' ⟨A',c,rfl,W,hc,hb⟩;refine⟨_,zKu m w w',o,_,_,0,rfl,zI0 U Z α J hb,⟨_,rfl,rfl,λj x u=> ?_⟩,λi l h=>by cases h⟩;(match j,u with|0,u=>injection u with u;subst u;exact⟨_,rfl,zYO W hc⟩|1,u=>injection u with u;subst u;exact⟨_,rfl,.lit _ rfl⟩|j+2,u=>grind)
theorem vals2{x y:Value}{vals:Array Value}(I:vals.size=2)(h0:vals.getD 0 undef=x)(u:vals.getD 1 undef=y):vals= #[x,y]:=by obtain⟨l⟩:=vals;(match l,I with|[p,q],_=>simp at h0 u;grind)
theorem zWx{s:Nat}{n:Int}(h:RepA m w o S s (intA n) v):v= .int .i64 n:=by have h:RepD m (.lit (.int .i64 n)) v:=h;cases h;rfl
end Go.Proofs.YtocolhfjpadaoaaGreatDoor
namespace Go.Proofs.YtocolhfjpadaoaaGreatDoor
open Go.RowKit
theorem pow8(k:Nat):2^(8*k)=256^k:=by rw[Nat.pow_mul]
theorem div8(n k:Nat):((n:Int)/2^(8*k))=((n/256^k:Nat):Int):=by rw[<-pow8,Int.natCast_ediv,Int.natCast_pow];rfl
theorem fill_step(n k size:Nat)(h:k<size):(le k n++List.replicate (size-k) 0).set k (UInt8.ofNat (n/256^k %256))=le (k+1) n++List.replicate (size-(k+1)) 0:=by rw[List.set_append_right _ _ (by rw[zAZ];omega),zAZ,sR,zV6,vG];congr 1;rw[show size-k=(size-(k+1))+1 by omega,List.replicate_succ];rfl
set_option maxHeartbeats 2000000 in
theorem low_any (n size:Nat) (w:World) (hn:n<=4611686018427387904) (h1:1<=size) (h8:size<=8) (hw:wid n<=size):
  Calls Tryz.prog 252 #[.int .i64 n,.int .i64 size] w (zVz (le size n) 0 w):=by
 have hd:((n:Int)/2^(8*size) !=0)=false:=by
  rw[div8,Nat.div_eq_of_lt ((zIH _ n).2 hw)]
  rfl
 go_enter Tryz.func252,Tryz.ntmps252
 go_wp2_with (first|(at_make;go_loud (refine zYN _ Tryz.underlying22 (by kernel_rfl) rfl _ _ rfl w.heap.size _ _ _ _ size rfl rfl rfl rfl (by omega) (Nat.le_refl _) ?_)))
 all_goals
  intro w1 hO1 hg1
  have hB1:Below w.heap.size w w1:=(Below.refl _ _).grown hg1 (Nat.le_refl _) (by simp)
  have hsz1:=hO1.lt _ rfl
  clear hg1
  go_wp2_with fail
  go_loopw [38] (λi wr=>∃k:Nat,k<=size/\i= .int .i64 k/\Own wr w.heap.size 5 1 (some ⟨w.heap.size,0,none⟩) size size (u8s (le k n++List.replicate (size-k) 0))/\Below w.heap.size w wr)
   (λi _=>size-(intOf i).toNat)
  case atStart=>exact⟨0,Nat.zero_le _,rfl,hO1,hB1⟩
  case round=>
   obtain⟨k,hk,rfl,hO,hB⟩:=hrel
   by_cases hlt:k<size
   ·
    have HS:=Lib.hid (fill_step n k size hlt)
    have hdk:=div8 n k
    have hc:=hO.byteAt (j:=k) (by rw[List.length_append,zAZ,List.length_replicate];omega)
    obtain⟨hc1,hc2⟩:=hc
    generalize(le k n++List.replicate (size-k) 0)[k]'(by rw[List.length_append,zAZ,List.length_replicate];omega)=old at*
    have hO2:=hO.setByte k (UInt8.ofNat (n/256^k %256))
    generalize n/256^k=q at*
    rw[HS.out,<-u8_ofNat]at hO2
    clear hO HS
    have hB2:=hB.setCell (p:=⟨w.heap.size,k,none⟩) (Nat.le_refl _) (.int .u8 ((q:Int) %256))
    go_wp2_with fail
    go_roundw
    case rel=>exact⟨k+1,by omega,by go_num,hO2,hB2⟩
    case measure=>simp[intOf];omega
   ·
    have HE:Hid (le k n++List.replicate (size-k) 0=le size n):=by
     show _=_
     rw[show k=size by omega,Nat.sub_self];simp
    go_wp2_with fail
    go_ret2
    rw[HE.out]at hO
    obtain⟨a1,a2,a3⟩:=hO.byt
    exact⟨_,_,by rw[zAZ];rfl,a1,a3,hB⟩
def GivesO(bs:List UInt8)(w:World)(e:Ending)(w':World):Prop:=∃A c,e= .returned (.slice A bs.length c)/\Own w' w.heap.size 5 1 A bs.length c (u8s bs)/\Below w.heap.size w w'
set_option maxHeartbeats 1000000 in
theorem zTs (bs:List UInt8) (A:Option Addr) (n c:Nat) (w:World) (hn:bs.length=n) (hl:n<=1000000000000) (W:Byt w A bs):
 Calls Tryz.prog 164 #[.slice A n c] w (GivesO bs w):=by
 have Z:=λ(w:World) (A:Option Addr) (n c:Nat)=>Lib.run_eql_slice_nil (P:=Tryz.prog) w 22 5 A n c 0 0 Tryz.underlying22
 cases A with
  |none=>
   have hb:bs=[]:=by(cases bs with|nil=>rfl|cons b r=>obtain⟨ad,h,_⟩:=W.at_ (j:=0) (by simp);cases h)
   subst hb
   go_enter Tryz.func164,Tryz.ntmps164
   go_wp2_with fail
   go_ret
   exact⟨none,0,rfl,Own.nil _ _ _ _,Below.refl _ _⟩
  |some ad=>
   have I:=Lib.hid hn
   have α:n<=bs.length:=by omega
   have β:bs.length<=n:=by omega
   clear hn
   go_enter Tryz.func164,Tryz.ntmps164
   go_wp2_with (first|(at_builtin;go_loud (refine zXs _ el_u8 rfl _ _ rfl w.heap.size _ 0 0 [] rfl (Own.litAt #[] _ 1 0 [] rfl (wL _) (by decide) rfl rfl) (some ad) n c (u8s bs) rfl (by rw[zKE,I.out];omega) (W.alloc _) (u8_one _) (by omega) (by simp) ?_)))
   intro A2 c2 w2 J U _
   have u:=(Own.litAt (B:=w.heap.size) (w:=w) #[] 5 1 0 [] rfl (wL _) (by decide) rfl rfl).belowOf (((Below.refl _ _).alloc (wL _) _)) U (by simp) (wL _)
   go_wp2_with fail
   go_ret
   exact⟨A2,c2,by rw[I.out];rfl,by rw[I.out];simpa using J,u⟩
theorem swap_step(bs L:List UInt8)(i j:Nat)(hl:L.length=bs.length)(u:i+j+1=bs.length)(h:i<j)
(J:∀t,t<bs.length->L[t]? =if t<i\/j<t then bs.reverse[t]? else bs[t]?)(hi:i<L.length)(I:j<L.length):
 ∀t,t<bs.length->((L.set i L[j]).set j L[i])[t]? =if t<i+1\/j-1<t then bs.reverse[t]? else bs[t]? :=by
 grind
theorem swap_done(bs L:List UInt8)(i:Nat)(j:Int)(hl:L.length=bs.length)(u:(i:Int)+j+1=bs.length)(h:¬(i:Int)<j)
(I:∀t,t<bs.length->L[t]? =if t<i\/j<(t:Int)then bs.reverse[t]? else bs[t]?):L=bs.reverse:=by
 apply List.ext_getElem?
 grind
set_option maxHeartbeats 2000000 in
theorem zQP (bs:List UInt8) (B:Nat) (A:Option Addr) (n c:Nat) (w:World) (W:bs.length=n) (hl:n<=1000000000000) (hO:Own w B 5 1 A n c (u8s bs)):
    Calls Tryz.prog 317 #[.slice A n c] w λe w'=>e= .returned (.tuple #[])/\Own w' B 5 1 A n c (u8s bs.reverse)/\Below B w w':=by
  by_cases h2:n<2
  · have hr:bs.reverse=bs:=by
      match bs,W with
      |[],_=>rfl
      |[a],_=>rfl
      |a::b::r,W=>simp at W;omega
    rw[hr]
    have α:¬(0:Int)<(n:Int)-1:=by omega
    go_enter Tryz.func317,Tryz.ntmps317
    go_wp2_with fail
    refine wp_loop_rounds 1 ?_
    rw[rounds_succ]
    go_wp2_with fail
    go_end0
    exact⟨rfl,hO,Below.refl _ _⟩
  · obtain⟨g,rfl,U,ν⟩:=hO.addr (by omega)
    have HN:=Lib.hid W
    have γ:bs.length<=n:=by omega
    have ι:n<=bs.length:=by omega
    clear W
    go_enter Tryz.func317,Tryz.ntmps317
    go_wp2_with fail
    go_loopw [2,3] (λx y wr=>∃(i:Nat) (j:Int) (L:List UInt8),x= .int .i64 i/\y= .int .i64 j/\Hid ((i:Int)+j+1=n)/\L.length<=n/\n<=L.length/\ -1<=j/\(i:Int)<=n/\j<n/\Own wr B 5 1 (some ⟨g,0,none⟩) n c (u8s L)/\Below B w wr/\
        Hid (∀t,t<bs.length->L[t]? =if t<i\/j<(t:Int)then bs.reverse[t]? else bs[t]?)) (λ_ y _=>(intOf y+1).toNat)
    case atStart=>exact⟨0,_,bs,rfl,rfl,Lib.hid (by omega),γ,ι,by omega,by omega,by omega,hO,Below.refl _ _,λt ht=>by rw[if_neg (by omega)]⟩
    case round=>
      obtain⟨i,j,L,rfl,rfl,HI,μ,π,κ,ρ,ξ,I,hB,HL⟩:=hrel
      by_cases α:(i:Int)<j
      · obtain⟨u,ζ⟩:∃u:Nat,j=u:=⟨j.toNat,by omega⟩
        subst ζ
        have J:i<L.length:=by omega
        have Z:u<L.length:=by omega
        obtain⟨c1,f1⟩:=I.byteAt J
        obtain⟨c2,f2⟩:=I.byteAt Z
        have i1:(i:Int)<(n:Int):=by omega
        have i2:(u:Int)<(n:Int):=by omega
        have i3:(0:Int)<=(i:Int):=by omega
        have i4:(0:Int)<=(u:Int):=by omega
        go_wp2_with fail
        go_region
        have θ:Own ((wr.setCell ⟨g,i,none⟩ (.int .u8 (L[u].toNat:Int))).setCell ⟨g,u,none⟩ (.int .u8 (L[i].toNat:Int))).drew B 5 1 (some ⟨g,0,none⟩) n c (u8s ((L.set i L[u]).set u L[i])):=
          ((I.setByte i L[u]).setByte u L[i]).drew
        have η:=((hB.setCell (p:=⟨g,i,none⟩) U (.int .u8 (L[u].toNat:Int))).setCell (p:=⟨g,u,none⟩) U (.int .u8 (L[i].toNat:Int))).drew
        have HS:Hid (∀t,t<bs.length->((L.set i L[u]).set u L[i])[t]? =if t<i+1\/(u:Int)-1<(t:Int)then bs.reverse[t]? else bs[t]?):=by
          intro t ht
          have δ:=HI.out
          have h:=swap_step bs L i u (by omega) (by omega) (by omega) (λt ht=>by
            rw[HL.out t ht]
            by_cases h:t<i\/u<t
            · rw[if_pos h,if_pos (by omega)]
            · rw[if_neg h,if_neg (by omega)]) J Z t ht
          rw[h]
          by_cases h:t<i+1\/u-1<t
          · rw[if_pos h,if_pos (by omega)]
          · rw[if_neg h,if_neg (by omega)]
        have ε:((L.set i L[u]).set u L[i]).length<=n:=by simp;omega
        have β:n<=((L.set i L[u]).set u L[i]).length:=by simp;omega
        generalize(L.set i L[u]).set u L[i]=L2 at*
        clear I hB HL
        go_wp2_with fail
        go_roundw
        case rel=>exact⟨i+1,_,L2,by go_num,rfl,by have:=HI.out;exact Lib.hid (by omega),ε,β,by omega,by omega,by omega,θ,η,HS.out⟩
        case measure=>simp[intOf]<;>omega
      · go_wp2_with fail
        go_end0
        have δ:=HI.out
        have:=swap_done bs L i j (by omega) (by omega) (by omega) HL.out
        subst this
        exact⟨rfl,I,hB⟩
set_option maxHeartbeats 1000000 in
theorem zXt (bs:List UInt8) (A:Option Addr) (n c:Nat) (w:World) (hn:bs.length=n) (hl:n<=1000000000000) (ha:Byt w A bs):
  Calls Tryz.prog 253 #[.slice A n c] w (GivesB bs.reverse w):=by
 subst hn
 go_enter Tryz.func253,Tryz.ntmps253
 go_wp2_with fail
 refine(zTs bs A bs.length c w rfl hl ha).mono ?_
 rintro e w1 ⟨A1,c1,rfl,hO,hB⟩
 go_wp2_with fail
 refine(zQP bs w.heap.size A1 bs.length c1 w1 rfl (by omega) hO).mono ?_
 rintro e w2 ⟨rfl,hO2,hB2⟩
 go_wp2_with fail
 go_ret
 rw[<-List.length_reverse]at hO2
 obtain⟨a1,a2,a3⟩:=hO2.byt
 exact⟨A1,c1,by rw[List.length_reverse];rfl,a1,a3,hB.trans hB2⟩
set_option maxHeartbeats 1000000 in
theorem put_any (n size:Nat) (w:World) (hn:n<=4611686018427387904) (h1:1<=size) (h8:size<=8) (W:wid n<=size):
 Calls Tryz.prog 167 #[.int .i64 n,.int .i64 size] w (zVz (be size n) 0 w):=by
 go_enter Tryz.func167,Tryz.ntmps167
 go_wp2_with fail
 refine(low_any n size _ hn h1 h8 W).mono ?_
 rintro e w1 ⟨A,c,rfl,hb,hc,J⟩
 go_wp2_with fail
 refine(zXt (le size n) A _ c w1 rfl (by rw[zAZ];omega) hb.1).mono ?_
 rintro e w2 ⟨A2,Z,rfl,U,I,u⟩
 go_wp2_with fail
 go_ret2
 exact⟨A2,Z,by rw[qO,zAZ];rfl,U.from J.size,by rw[qO];simpa[zAZ]using I,J.trans (u.mono J.size)⟩
end Go.Proofs.YtocolhfjpadaoaaGreatDoor
namespace Go.Proofs.YtocolhfjpadaoaaGreatDoor
open Go Go.RowKit
variable {P:Program}{w0:World}{w:World}{m0:Mem}{m:Mem}{o0:OwnM}{o:OwnM}{G:GD}{pins:List Nat}{N:Nat}{a:Act}{op:Oper}{S:Nat->A}{M:Nat->A}{L:SL}{v:Value}{W:World}{Q:Mem}{X:OwnM}
set_option maxHeartbeats 4000000
set_option maxRecDepth 20000
theorem zCw(u:List UInt8)(r:List UInt8)(h:zBw u=some r):FC Tryz.prog 164 [.t (.d (.seq 1 (zV u)))] [] (.t (.d (.seq 1 (zV r)))):=by refine fc_mk (rs:=[.tmp 2]) (n:=8) Tryz.func164 rfl rfl (wS rfl) rfl (pins:=[]) rfl (L:=[(0,.t (.d (.seq 1 (zV u))))]) rfl ?_;(have J:r=u:=by have:=(zKB h).2;grind);refine zRB ?_;refine zOx ?_;refine o_s (.t (.d (.lit (.slice none 0 0)))) (g0 rfl) rfl rfl rfl ?_;refine o_nil ?_;refine zFu ?_;refine zRB ?_;refine zRB ?_;refine c_nil (l1:=[_]) (k:=1) (l:=zV u) rfl rfl rfl rfl ?_;refine o_s (.t (.d (.seq 1 (zV u)))) (g0 rfl) rfl rfl rfl ?_;refine o_nil ⟨rfl,rfl,λb hb=> ?_⟩;refine zFu ?_;refine c_cond rfl (λI=> ?_) (λI=> ?_);(have hb:=hb I;(have hp:u=[]:=by unfold zV at hb;simpa using hb);refine zRB ?_;refine zOx ?_;refine o_s (.t (.d (.lit (.slice none 0 0)))) (g0 rfl) rfl rfl rfl ?_;refine o_nil ?_;refine zFu ?_;refine c_ret ?_;(repeat(refine then_ret ?_));subst J hp;exact end0 rfl (.t (.d (.nil _))));(refine c_skip ?_;refine zFu ?_;refine zRB ?_;refine zOx ?_;refine o_b0 (.t (.own 5 1 (List.map cU8 []))) (g0 rfl) rfl rfl rfl rfl rfl ?_;refine o_s (.t (.d (.seq 1 (zV u)))) (g0 rfl) rfl rfl rfl ?_;refine o_2c (g0 rfl) rfl rfl rfl (appE (c:=cU8) h) (appC (c:=cU8) h) ?_;refine o_2 (.t (.d (.seq 1 (zV r)))) (.t (.own 5 1 (zV r))) (g0 rfl) rfl rfl rfl ?_;refine o_nil ?_;refine zFu ?_;refine c_ret ?_;exact end0 rfl (.t (.own _ _ _)))
theorem zBn(J I:Int)(r:List UInt8×Int)(h:zAG J I=some r):FC Tryz.prog 167 [.t (.d (.lit (.int .i64 J))),.t (.d (.lit (.int .i64 I)))] [] (.tup [.d (.seq 1 (zV r.1)),.d (.lit (.int .i64 r.2))]):=by unfold zAG at h;split at h;(case isFalse=>cases h);rename_i hc;cases h;obtain⟨W,h2,h3,h4,Z⟩:=hc;obtain⟨n,rfl⟩:=uK W;obtain⟨k,rfl⟩:=uK (show 0<=I by omega);refine zUv λw m o U hs u=> ?_;rw[vals2 hs (zWx (u 0)) (zWx (u 1))];simp only[uF]at Z⊢;exact put_any n k w (by omega) (by omega) (by omega) ((zIH k n).1 Z)
theorem zHQ{z:Value}(n:Nat):Builtin.zeroCells #[z] n=(List.replicate n z).toArray:=by unfold Builtin.zeroCells;grind
theorem zMY(P:Program)(w:World){t tn e:TypeId}{Z:TypeInfo}{z:Value}(hu:P.underlying t=some (.slice e))(kn:IntKind)(α:P.underlying tn=some (.int kn))(hi:P.info? e=some Z)(hz:Z.zero=some z)(U:Z.size=1)(ε:z.cells= #[z])(ψ:z.oneCell'=true)(χ:0<Z.bytes)(ty:TypeId)(A':Option Addr)(n c:Nat)(xs:List Value)(I:Own w 0 e 1 A' n c xs)
  (ki:IntKind)(k:Nat)(hb:(n+k)*Z.bytes<=140737488355328):
  ∃A2 c2 w',(Builtin.append_ #[t,tn] ty #[.slice A' n c,.int ki k]).run P w= .ok (.slice A2 (n+k) c2) w'/\Own w' 0 e 1 A2 (n+k) c2 (xs++List.replicate k z)/\
   ((blk A2=blk A'/\w.grownBy w' (blk A')/\∀g,zAX w w' g)\/(blk A2=some w.heap.size/\w.grownBy w' none)):=by
 have ξ:n+k<=maxLen:=by
  have:=tA (n+k) χ
  unfold maxLen;omega
 have τ:n+k<=9223372036854775807:=by simp only[maxLen]at ξ;omega
 have hw:IntKind.i64.wrap (k:Int)=k:=by rw[IntKind.wrap_i64];omega
 have η:¬((k:Int)<0):=by omega
 have hkb:k*Z.bytes<=140737488355328:=vR (vN _ (by omega)) hb
 have ζ:¬(281474976710656<(k:Int)*(Z.bytes:Int)):=by
  grind
 have β:(xs++List.replicate k z).length=(n+k)*1:=by rw[wP,I.1,wW,tE,uI k]
 have μ:xs.length=n:=by rw[I.1,uI]
 have grown:∀(old:Nat),old<n+k->
   Own (w.drew.alloc (.cells (xs.toArray++(List.replicate k z).toArray++Builtin.zeroCells z.cells (grownCap w (n+k) old e-(n+k))) e)) 0 e 1 (some ⟨w.heap.size,0,none⟩) (n+k) (grownCap w (n+k) old e) (xs++List.replicate k z)/\
   w.grownBy (w.drew.alloc (.cells (xs.toArray++(List.replicate k z).toArray++Builtin.zeroCells z.cells (grownCap w (n+k) old e-(n+k))) e)) none:=by
  intro old ho
  have φ:=grownCap_ge w (n+k) old e
  have θ:grownCap w (n+k) old e<=maxLen:=grownCap_le_maxLen w (n+k) old e ξ
  refine⟨⟨β,.inr ⟨w.heap.size,_,_,rfl,vI _,heap_alloc_new w.drew _,φ,θ,?_,?_⟩⟩,⟨rfl,rfl,rfl,by simp,λq hq _=>Below.heap_alloc w.drew _ q hq⟩⟩
  ·
   simp only[tV,uE,size_zeroCells,ε,μ,wW,uI]
   rw[sW,uI]
   omega
  ·
   simp only[Array.toList_append,vG]
   rw[<-vG,<-β]
   exact tZ
 rcases I.2 with⟨hv,rfl⟩|⟨g,cap,γ,hv,ω,hg,hnc,θ,hcs,htake⟩
 ·
  cases hv
  have hx:xs=[]:=vB μ
  subst hx
  by_cases hm:k=0
  ·
   subst hm
   refine⟨none,0,w,?_,uZ w 0 e 1,.inl ⟨rfl,World.grownBy.refl w _,λ_=> .refl _ _⟩⟩
   simp[Builtin.append_,run_underlying hu,run_underlying α,sizeOf,typeInfo,hi,asInt,asIntOf,show IntKind.i64.wrap 0=0 from rfl,U]
  ·
   have hr:=Lib.run_append_nil_zeros (P:=P) w t tn ty e Z z ki kn hu α hi hz k (by omega) (by omega) (by omega) (by omega)
   have W:=grown 0 (by omega)
   simp only[vF,List.nil_append,Array.empty_append]at W⊢
   have δ:Builtin.zeroCells z.cells k=(List.replicate k z).toArray:=by rw[ε,zHQ]
   rw[δ]at hr
   exact⟨_,_,_,hr,W.1,.inr ⟨rfl,W.2⟩⟩
 ·
  cases hv
  by_cases hm:k=0
  ·
   subst hm
   refine⟨some ⟨g,0,none⟩,c,w,?_,by simpa using I,.inl ⟨rfl,World.grownBy.refl w _,λ_=> .refl _ _⟩⟩
   simp[Builtin.append_,run_underlying hu,run_underlying α,sizeOf,typeInfo,hi,asInt,asIntOf,show IntKind.i64.wrap 0=0 from rfl,U,hnc,storeCells]
  by_cases J:n+k<=c
  ·
   have ρ:n*Z.size+(List.replicate k z).length<=γ.size:=by rw[wW,hcs,U,uI,uI];exact J
   have ι:=run_storeCells_at P g (n*Z.size) e (List.replicate k z) 0 γ w hg (by simpa using ρ) (λu hu=>by rw[(List.mem_replicate.1 hu).2];exact ψ)
   simp only[uC]at ι
   have hr:(Builtin.append_ #[t,tn] ty #[.slice (some ⟨g,0,none⟩) n c,.int ki k]).run P w= .ok (.slice (some ⟨g,0,none⟩) (n+k) c) (w.setRow g (γ.toList.take (n*Z.size)++List.replicate k z++γ.toList.drop (n*Z.size+(List.replicate k z).length)).toArray):=by
    have δ:Builtin.zeroCells #[z] k=(List.replicate k z).toArray:=zHQ k
    rw[U,uI]at ι
    simp[Builtin.append_,run_underlying hu,run_underlying α,sizeOf,typeInfo,zeroValue,hi,hz,U,ε,hm,asInt,asIntOf,hw,η,ζ,J,δ,Addr.add_lit,ι]
   refine⟨_,_,_,hr,⟨β,.inr ⟨g,c,_,rfl,ω,setRow_heap w g γ _ e _ hg,J,θ,?_,?_⟩⟩,.inl ⟨rfl,⟨rfl,rfl,rfl,by simp,λk _ hk=>setRow_other w g k _ (λe=>hk (by simp[blk,e]))⟩,λq=>zBE hg (by
    simp only[uE,wP,uA,sY,vE]
    omega) q⟩⟩
   all_goals grind
  ·
   have κ:∀j u,xs[j]? =some u->w.cell? ((⟨g,0,none⟩:Addr).add j)=some u:=World.ownsRow.cells I (g:=g) rfl
   have hn:¬(n+k<=c):=J
   have π:¬(9223372036854775807<((n:Int)+(k:Int))):=by omega
   have σ:¬(281474976710656<Builtin.nextslicecap (n+k) c*Z.bytes):=by have:=growslice_fits (need:=n+k) (old:=c) (bytes:=Z.bytes) (by omega) hb;omega
   have ν:=run_firstCells_some (P:=P) w.drew Z.size n ⟨g,0,none⟩ n c xs (by rw[U,I.1]) (by simpa using κ)
   have δ:∀q,Builtin.zeroCells #[z] q=(List.replicate q z).toArray:=zHQ
   have W:=grown c (by omega)
   refine⟨_,_,_,?_,W.1,.inr ⟨rfl,W.2⟩⟩
   rw[U]at ν
   simp[Builtin.append_,run_underlying hu,run_underlying α,sizeOf,typeInfo,zeroValue,hi,hz,U,ε,hm,asInt,asIntOf,hw,η,ζ,hn,π,σ,Question.forced,ν,newRow,grownCap,δ]
section
variable {w0:World}{m0:Mem}{o0:OwnM}{G:GD}{pins:List Nat}{S M:Nat->A}{a:Act}{w:World}{m:Mem}{o:OwnM}{P:Program}{N:Nat}
theorem apz_ok(I:Inv w0 m0 o0 G pins S a w m o){e sz:Nat}{X:Sem Value}{d:Nat}(hd:d<a.tmps.size)(γ:(S d).isBox=false)(μ:d∉pins)
{A':Option Addr}{c:Nat}{l:List (List D)}{xs:List Value}(ι:Own w 0 e sz A' l.length c xs)(W:zIW m sz l xs)(ν:∀g,blk A'=some g->(∀l,o g=some l->l.1=d)/\(G g\/w0.heap.size<=g)/\g<w.heap.size/\∀p,m g p=xs[p]?)
{l':List (List D)}{Z:List Value}(θ:zIW m sz l' Z)
(hX:∃A2 c2 w',X.run P w= .ok (.slice A2 (l.length+l'.length) c2) w'/\Own w' 0 e sz A2 (l.length+l'.length) c2 (xs++Z)/\((blk A2=blk A'/\w.grownBy w' (blk A')/\∀g,zAX w w' g)\/(blk A2=some w.heap.size/\w.grownBy w' none))):
 ∃v w' m' o',X.run P w= .ok v w'/\Inv w0 m0 o0 G pins (upd S d (.t (.own e sz (l++l')))) (a.put (some d) v) w' m' o':=by
 obtain⟨A2,c2,w',δ,U,ζ⟩:=hX
 refine⟨.slice A2 (l.length+l'.length) c2,w',?_⟩
 have β:∀(i:Nat) (r:List D),(l++l')[i]? =some r->r.length=sz:=(W.append θ).2.1
 have fin:∀(g:Nat),blk A2=some g->(∀l,o g=some l->l.1=d)->(G g\/w0.heap.size<=g)->Same (λb=>b=g/\b<w.heap.size) w w'->(∀p u,m g p=some u->(xs++Z)[p]? =some u)->∃m' o',X.run P w= .ok (.slice A2 (l.length+l'.length) c2) w'/\Inv w0 m0 o0 G pins (upd S d (.t (.own e sz (l++l')))) (a.put (some d) (.slice A2 (l.length+l'.length) c2)) w' m' o':=by intro g hg h2 h3 h4 h5;have η:g<w'.heap.size:=(Own.lt U g hg).2;refine⟨_,_,δ,I.own_put d _ _ (λp=>(xs++Z)[p]?) g w' hd γ μ h2 h3 h4 η h5 (λp u hp=>Own.cellAt U hg hp) ?_⟩;(have ξ:Mle m (newM m g λp=>(xs++Z)[p]?):=by intro b p u hu;unfold newM;grind);refine⟨A2,c2,xs++Z,by rw[wP],by rw[wP];exact zEL U,λg' κ=> ?_,β,((W.append θ).mono ξ).2.2⟩;rw[hg]at κ;cases κ;exact⟨qT _ _ _,λp _=>by rw[Own.off0 U,vF];exact zAY _ _ _ _⟩
 rcases ζ with⟨α,J,ε⟩|⟨α,J⟩
 · rcases zO4 ι with rfl|⟨g,rfl⟩;((have π:A2=none:=by rcases zO4 U with h|⟨g,h⟩;exact h;rw[h]at α;cases α);subst π;have hS:Same (λ_=>False) w w':=⟨J.os,J.tape,J.output,J.size,λk hk _=>J.block k hk (by simp[blk]),λk=>(ε k).w⟩;refine⟨m,o,δ,I.put d _ _ hd γ ⟨none,c2,xs++Z,by rw[wP],by rw[wP];exact zEL U,λg hg=>(by cases hg),β,(W.append θ).2.2⟩ (I.same.trans (hS.weaken λ_ h=>h.elim)) (λb p u h=> ?_) (Mle.refl _) (λ_ _=>rfl) (λg hg=>hS.block g hg id) J.size⟩;have h1:=I.sat b p u h;(have η:b<w.heap.size:=by have:=wY w _ h1;simpa using this);rw[vP (w:=w) (hS.block b η id)];exact h1);(obtain⟨h2,h3,h4,h5⟩:=ν g rfl;refine fin g α h2 h3 ⟨J.os,J.tape,J.output,J.size,λk hk hn=>J.block k hk λe=>hn ?_,λk=>(ε k).w⟩ λp u hu=> ?_;injection e with e;grind;grind)
 · exact fin _ α (I.free (wL _)) (I.newG (wL _)) ⟨J.os,J.tape,J.output,J.size,λk hk hn=>J.block k hk (by simp),λk=>(zAX.of_lt λhk=>J.block k hk (by simp)).w⟩ λp u hu=>by rw[I.mem_none (wL _)]at hu;cases hu
def zerF(P:Program)(t U:TypeId):Option (Nat×Nat×Value):=match P.underlying t,P.underlying U with
 |some (.slice e),some (.int _)=>match P.info? e with
  |some u=>match u.zero with
   |some (.int I J)=>if u.size=1/\0<u.bytes then some (e,u.bytes,.int I J)else none
   |_=>none
  |none=>none
 |_,_=>none
def apzI(u m:Nat)(n:Int):Option Nat:=if 0<=n/\(m+n.toNat)*u<=140737488355328 then some n.toNat else none
theorem ok_apz(hM:Mk M S){d s t tn e nb q:Nat}{z:Value}{y:Operand}{ki:IntKind}{n:Int}(θ:op.op= .call {callee:= .builtin .append,args:= #[.tmp s,y],argTypes:= #[t,tn]})(hd:op.dst=some d)(σ:okD N pins S d=true)(hz:zerF P t tn=some (e,nb,z))(hn:vO M y=some (.int ki n)){l:List (List D)}(hs:M s= .t (.own e 1 l))(W:(s==d)=false)(β:pins.contains s=false)(hq:apzI nb l.length n=some q)(U:Nat.blt e OFB=true):
 OpOK P pins N op S (app S [(s,.t (.d (.seq 1 l))),(d,.t (.own e 1 (l++List.replicate q [.lit z])))]):=by
 have W:s≠d:=by simpa using W
 have β:s∉pins:=by simpa using β
 unfold zerF at hz
 split at hz
 case h_2=>cases hz
 rename_i e' kn hu ι
 split at hz
 case h_2=>cases hz
 rename_i ie u
 split at hz
 case h_2=>cases hz
 rename_i kz nz η
 split at hz
 case isFalse=>cases hz
 rename_i hc
 obtain⟨ξ,ζ⟩:=hc
 generalize δ:Value.int kz nz=z' at*
 have μ:z'.cells= #[z']:=by rw[<-δ];rfl
 have γ:z'.oneCell'=true:=by rw[<-δ];rfl
 injection hz with hz
 injection hz with q1 hz
 injection hz with q2 q3
 subst q1 q2 q3
 unfold apzI at hq
 split at hq
 case isFalse=>cases hq
 rename_i ρ
 injection hq with hq
 subst hq
 obtain⟨ν,hb⟩:=ρ
 obtain⟨k,rfl⟩:=uK ν
 simp only[uF]at hb⊢
 refine zL λw0 m0 o0 G a w m o hN I=> ?_
 obtain⟨h1,h2,h3⟩:=zP σ
 have hS:S s= .t (.own e' 1 l):=by rcases hM s with k|k;rw[k]at hs;cases hs;rw[<-k];exact hs
 have Z:zGv m w o (s,0) e' 1 l (a.tmps.getD s undef):=by have:=I.slots s;rw[hS]at this;exact this
 have τ:s<OB:=by rcases wR s a.tmps.size with h|h;exact wN h I.wide;(obtain⟨A',cap,xs,e,_⟩:=Z;rw[wJ,vU h]at e;cases e)
 have I1:=I.degrade s (by rw[hS];rfl)
 rw[hS]at I1
 obtain⟨o1,I2,π⟩:=I1.drop s β τ (x:= .seq 1 l) (by simp[upd,cpA,cpT])
 obtain⟨A',cap,xs,e1,k1,k2,k3,k4⟩:=Z
 have α:zIW m 1 l xs:=⟨k1.1,k3,k4⟩
 rw[e1]at k1
 have κ:zIW m 1 (List.replicate k [D.lit z']) (List.replicate k z'):=by refine⟨by simp,λi r u=> ?_,λi r j x u hj=> ?_⟩;(rw[uJ]at u;split at u;injection u with u;subst u;rfl;cases u);(rw[uJ]at u;split at u;(rename_i ε;injection u with u;subst u;(cases j with|zero=>injection hj with hj;subst hj;exact⟨z',by rw[uJ];simp[ε],.lit z' γ⟩|succ j=>simp at hj));cases u)
 obtain⟨v,w',m',o',hr,J⟩:=apz_ok (d:=d) (P:=P) (X:=Builtin.append_ #[t,tn] op.type #[.slice A' l.length cap,.int ki k]) I2 (by omega) (by rw[zE (Ne.symm W)];exact h2) h3 (k1.own U) α (λg hg=>by obtain⟨q1,q2⟩:=k2 g hg;refine⟨λl hl=> ?_,I.own g _ q1,I.lt g _ q1,I.ownAll (k1.own U) hg λp hp=>by have:=q2 p hp;rwa [Own.off0 (k1.own U),vF]at this⟩;obtain⟨z1,z2⟩:=π g l hl;rw[q1]at z2;injection z2 with z2;(exact absurd (by rw[<-z2]) z1)) κ (by rw[wW];exact zMY P w hu kn ι u η ξ μ γ ζ op.type A' l.length cap xs (k1.own U) ki k hb)
 refine⟨v,w',m',o',?_,by rw[hd];exact J⟩
 unfold execOp
 rw[θ]
 simp only[resolve,invoke,builtin,wE,wQ,wC,wU,vC,vS]
 rw[zA0 hM I hn,show a.eval (.tmp s)= .slice A' l.length cap from e1,hr]
 rfl
end
theorem apzC{α β:Type}{u q:Nat}{l:List α}{c:α->β}{n:Int}(h:apzI u l.length n=some q):apzI u (l.map c).length n=some q:=by rw[wM];exact h
theorem apzE{α:Type}{E k q:Nat}{l:List α}{c:α->List D}{a:α}{z:Value}(h:c a=[.lit z]):A.t (.own E k (l.map c++List.replicate q [.lit z]))= .t (.own E k ((l++List.replicate q a).map c)):=by rw[List.map_append,List.map_replicate,h]
section
variable {w0:World}{m0:Mem}{o0:OwnM}{G:GD}{pins:List Nat}{S M:Nat->A}{a:Act}{w:World}{m:Mem}{o:OwnM}{P:Program}{N:Nat}
def mvO(o:OwnM)(s d:Nat):OwnM:=λg=>match o g with
 |none=>none
 |some (x,k)=>if x=s/\k≠0 then some (d,k)else if x=d then none else some (x,k)
theorem zJ1{s d g x k:Nat}(h:mvO o s d g=some (x,k)):(x=d/\k≠0/\o g=some (s,k))\/(x≠d/\o g=some (x,k)):=by unfold mvO at h;grind
theorem zPi{s d g x k:Nat}(h:o g=some (x,k))(u:x=s->k=0)(hd:x≠d):mvO o s d g=some (x,k):=by unfold mvO;grind
theorem zSV{s d g k:Nat}(h:o g=some (s,k))(hk:k≠0):mvO o s d g=some (d,k):=by unfold mvO;grind
theorem mvt_inv(I:Inv w0 m0 o0 G pins S a w m o){s d:Nat}{l:List T}(hs:S s= .tup l)(η:s≠d)(κ:s<OB)(hd:d<a.tmps.size)(Z:(S d).isBox=false)(γ:d∉pins):
 Inv w0 m0 o0 G pins (upd (upd S s (.tup (l.map cpT))) d (.tup l)) (a.put (some d) (a.tmps.getD s undef)) w m (mvO o s d):=by
 have ι:d<OB:=wN hd I.wide
 have K:Keep (λx=>x.1=s\/x.1=d) m w o m w (mvO o s d):=
  ⟨Mle.refl _,λ_ _ _ _=>rfl,λ_ _ _ _=>rfl,λg ⟨x,k⟩ h hn=>zPi h (λe=>absurd (.inl e) hn) (λe=>hn (.inr e)),λg j h=>zPi h (λe=>(by omega)) (by omega),λg x k hn h=>by rcases zJ1 h with⟨e,_⟩|⟨_,h⟩;grind;exact⟨g,k,h⟩,λ_ _ _=> .of_eq rfl⟩
 have β:=I.slots s
 rw[hs]at β
 obtain⟨vs,e,h1,h2⟩:=β
 have W:¬((λx:Nat×Nat=>x.1=s\/x.1=d) (s+d+1,0)):=by simp only;omega
 refine⟨I.same,I.sat,I.mono,I.old,λg ⟨x,k⟩ h=> ?_,λg ⟨x,k⟩ h=> ?_,λg g' ⟨x,k⟩ h h'=> ?_,λp hp g U=> ?_,λt=> ?_,I.defers,I.tbl,by rw[zAK];exact I.wide,I.shps⟩
 · rcases zJ1 h with⟨_,_,h⟩|⟨_,h⟩<;>exact I.own g _ h
 · rcases zJ1 h with⟨_,_,h⟩|⟨_,h⟩<;>exact I.lt g _ h
 · rcases zJ1 h with⟨e1,_,h⟩|⟨e1,h⟩<;>rcases zJ1 h' with⟨e2,_,h'⟩|⟨e2,h'⟩;exact I.inj g g' _ h h';grind;grind;exact I.inj g g' _ h h'
 · have h:=I.pinned p hp g U;exact zPi h (λ_=>rfl) (λe=>hp.elim (λhp=>γ (by rw[<-e];exact hp)) λhp=>by omega)
 · by_cases ed:t=d;(subst ed;rw[zK,show(a.put (some t) (a.tmps.getD s undef)).tmps.getD t undef=a.tmps.getD s undef from by simp[Act.put,wJ,hd]];refine⟨vs,e,h1,λj x hj=> ?_⟩;obtain⟨u,h3,h4⟩:=h2 j x hj;refine⟨u,h3,?_⟩;have J:RepT m w (mvO o s t) (t,j+1) (cpT x) u:=zCs (loc:=(s+t+1,0)) I.sat (RepT.keep K W (zCs I.sat h4))|>λh=>(by(have hh:cpT (cpT x)=cpT x:=by cases x<;>rfl);rw[hh]at h;exact h);(cases x with|own E k ls=>obtain⟨A',cap,xs,e1,k1,k2,k3,k4⟩:=h4;exact⟨A',cap,xs,e1,k1,λg U=>⟨zSV (k2 g U).1 (by omega),(k2 g U).2⟩,k3,k4⟩|ags l1 θ=>exact zEX.own (λg U=>zSV U (by omega)) h4|xs E k ls rv=>obtain⟨A',cap,xs,e1,k1,k2,k3,k4⟩:=h4;exact⟨A',cap,xs,e1,k1,λg U=>⟨zSV (k2 g U).1 (by omega),(k2 g U).2⟩,k3,k4⟩|d x=>exact J|agg x=>exact J|ptr x y=>exact J|view x y E k z=>exact J|hpt x y=>exact J|mpt x=>exact J|any=>exact J|hvw x y E k z=>exact J|opt x y=>exact J));(rw[zE ed,show(a.put (some d) (a.tmps.getD s undef)).tmps.getD t undef=a.tmps.getD t undef from by simp[Act.put,wJ,Ne.symm ed]];by_cases es:t=s;(subst es;rw[zK];refine⟨vs,e,by simpa using h1,λj x hj=> ?_⟩;rw[wG]at hj;(cases hu:l[j]? with|none=>grind|some z=>rw[hu]at hj;cases hj;obtain⟨u,h3,h4⟩:=h2 j z hu;have J:=RepT.keep K W (zCs I.sat h4);refine⟨u,h3,?_⟩;have h6:=zCs (loc':=(t,j+1)) I.sat J;(have hh:cpT (cpT z)=cpT z:=by cases z<;>rfl);grind));(rw[zE es];refine RepA.keep K (λj e=>by rcases e with e|e;exact es e;exact ed e) (λb off he ζ=> ?_) (I.slots t);have h:=I.slots t;rw[he]at h;obtain⟨_,_,_,hl⟩:=h;obtain⟨l',hl⟩:=hl ζ;(have α:b≠s:=λe=>by subst e;rw[hs]at hl;cases hl);(have δ:b≠d:=λe=>by subst e;rw[hl]at Z;cases Z);exact⟨λe=>by rcases e with e|e;exact α e;exact δ e,λ⟨l2,ε⟩=>⟨l2,by rw[zE δ,zE α];exact ε⟩⟩))
theorem ok_mvt{s d:Nat}{l:List T}(Z:op.op= .move (.tmp s)\/op.op= .assign (.tmp s))(hd:op.dst=some d)(J:okD N pins S d=true)(hs:S s= .tup l)(u:Nat.blt s OB=true)(U:(s==d)=false):OpOK P pins N op S (app S [(s,.tup (l.map cpT)),(d,.tup l)]):=by refine zL λw0 m0 o0 G a w m o hN I=> ?_;obtain⟨h1,W,h3⟩:=zP J;refine⟨_,w,_,_,?_,by rw[hd];exact mvt_inv I hs (by simpa using U) (by rw[sM]at u;exact u) (by omega) W h3⟩;unfold execOp;rcases Z with e|e<;>(rw[e];rfl)
end
def GivesOE(bs:List UInt8)(u:Int)(w:World)(e:Ending)(w':World):Prop:=∃A c,e= .returned (.tuple #[.slice A bs.length c,.int .i64 u])/\Own w' w.heap.size 5 1 A bs.length c (u8s bs)/\Below w.heap.size w w'
set_option maxHeartbeats 1000000 in
theorem zXY (bs:List UInt8) (A:Option Addr) (n c:Nat) (w:World) (hn:bs.length=n) (hl:n<=1000000000000) (Z:Byt w A bs):
 Calls Tryz.prog 253 #[.slice A n c] w (GivesO bs.reverse w):=by
 subst hn
 go_enter Tryz.func253,Tryz.ntmps253
 go_wp2_with fail
 refine(zTs bs A bs.length c w rfl hl Z).mono ?_
 rintro e U ⟨A1,J,rfl,hO,W⟩
 go_wp2_with fail
 refine(zQP bs w.heap.size A1 bs.length J U rfl (by omega) hO).mono ?_
 rintro e w2 ⟨rfl,I,u⟩
 go_wp2_with fail
 go_ret
 exact⟨A1,J,by rw[sH];rfl,by rw[sH];exact I,W.trans u⟩
set_option maxHeartbeats 1000000 in
theorem put_own (n size:Nat) (w:World) (hn:n<=4611686018427387904) (h1:1<=size) (h8:size<=8) (hw:wid n<=size):
 Calls Tryz.prog 167 #[.int .i64 n,.int .i64 size] w (GivesOE (be size n) 0 w):=by
 go_enter Tryz.func167,Tryz.ntmps167
 go_wp2_with fail
 refine(low_any n size _ hn h1 h8 hw).mono ?_
 rintro e W ⟨A,c,rfl,hb,hc,U⟩
 go_wp2_with fail
 refine(zXY (le size n) A _ c W rfl (by rw[zAZ];omega) hb.1).mono ?_
 rintro e w2 ⟨A2,Z,rfl,u,J⟩
 go_wp2_with fail
 go_ret2
 refine⟨A2,Z,by rw[qO,zAZ];rfl,?_,U.trans (J.mono U.size)⟩
 have u:Own w2 W.heap.size 5 1 A2 (be size n).length Z (u8s (be size n)):=u
 exact⟨u.1,u.2.imp id λ⟨g,cap,I,e1,e2,e3⟩=>⟨g,cap,I,e1,vR U.size e2,e3⟩⟩
theorem zXv{f:FuncId}{args:List A}{bs:List UInt8}{er:Int}(h:∀(w:World) (m:Mem) (o:OwnM) (vals:Array Value),vals.size=args.length->(∀s,RepA m w o (argS args) s (argS args s) (vals.getD s undef))->Calls Tryz.prog f vals w (GivesOE bs er w)):FC Tryz.prog f args [] (.tup [.own 5 1 (zV bs),.d (.lit (.int .i64 er))]):=by
 intro w m o vals W α I ζ ι η
 refine(h w m o vals ι η).mono ?_
 rintro e w' ⟨J,c,rfl,hO,hb⟩
 have ε:∀b p u,m b p=some u->b<w.heap.size:=λb p u h=>by
  have:=wY w _ (W b p u h)
  grind
 have δ:w'.ownsRow 0 5 1 (.slice J bs.length c) bs.length (u8s bs):=⟨hO.1,hO.2.imp id λ⟨g,cap,κ,e1,e2,e3⟩=>⟨g,cap,κ,e1,vI _,e3⟩⟩
 have β:(zV bs).length=bs.length:=zMr bs
 have θ:∀(i:Nat) (r:List D),(zV bs)[i]? =some r->∃hi:i<bs.length,r=[D.lit (.int .u8 (bs[i].toNat:Int))]:=by
  intro i r hi
  have I:i<bs.length:=by rw[<-β];exact(wF.1 hi).1
  refine⟨I,?_⟩
  unfold zV at hi
  grind
 have Z:∀(m':Mem) (o':OwnM) (ρ:Nat),(∀g,blk J=some g->o' g=some (ρ,1)/\∀p,m' g p=(u8s bs)[p]?)->RepA m' w' o' (λ_=> .any) ρ (.tup [.own 5 1 (zV bs),.d (.lit (.int .i64 er))]) (.tuple #[.slice J bs.length c,.int .i64 er]):=by
  intro m' o' ρ hg
  refine⟨_,rfl,rfl,λj x U=> ?_⟩
  match j,U with
  |0,U=>
   cases U
   refine⟨.slice J bs.length c,rfl,J,c,u8s bs,by rw[β],by rw[β];exact zEL δ,(λg h=>⟨(hg g h).1,λp _=>by rw[Own.off0 (show Own w' 0 5 1 J bs.length c (u8s bs)from δ),vF];exact(hg g h).2 p⟩),λi r hi=> ?_,λi r j d hi U=> ?_⟩
   · grind
   ·
    obtain⟨I,rfl⟩:=θ i r hi
    cases j with
    |succ j=>grind
    |zero=>
     cases U
     refine⟨.int .u8 (bs[i].toNat:Int),?_,.lit _ rfl⟩
     rw[uI,uC]
     unfold u8s
     rw[wG,wB I]
     rfl
  |1,U=>injection U with U;subst U;exact⟨_,rfl,.lit _ rfl⟩
  |j+2,U=>grind
 have hA:blk J=none\/∃g,blk J=some g/\w.heap.size<=g/\g<w'.heap.size:=by
  cases hA:blk J with
  |none=>grind
  |some g=>exact .inr ⟨g,rfl,hO.lt g hA⟩
 rcases hA with hA|⟨g,hA,μ,ν⟩
 · refine⟨_,zKu m w w',o,_,_,0,rfl,zI0 W α I ζ hb,Z _ _ _ λg hg=>(by rw[hA]at hg;cases hg),λi l h=>by cases h⟩
 ·
  refine⟨_,newM m g λp=>(u8s bs)[p]?,λb=>if b=g then some (OB,1)else o b,λ_=> .any,{tmps:= #[],defers:=[]},OB,rfl,?_,Z _ _ _ λg' γ=> ?_,λi l h=>by cases h⟩
  ·
   refine⟨Same.of_below hb,λb p u h=> ?_,λb p u h=> ?_,λb ξ _=> ?_,λg' l h=> ?_,λg' l h=> ?_,λg1 g2 l h h'=> ?_,λs _ g' γ=> ?_,λs=>trivial,rfl,α,vI _,λg' j h=>absurd (I g' _ h).2 (by show¬OB+j<OB;omega)⟩
   ·
    unfold newM at h
    split at h
    ·
     rename_i e;subst e
     exact Own.cellAt (show Own w' 0 5 1 J bs.length c (u8s bs)from δ) hA h
    ·
     rw[hb.cell (p:=⟨b,p,none⟩) (ε b p u h)]
     grind
   ·
    unfold newM
    grind
   ·
    funext p
    unfold newM
    grind
   all_goals grind
  ·
   rw[hA]at γ
   cases γ
   exact⟨if_pos rfl,λp=>zAY _ _ _ _⟩
theorem zUD(J I:Int)(r:List UInt8×Int)(h:zAG J I=some r):FC Tryz.prog 167 [.t (.d (.lit (.int .i64 J))),.t (.d (.lit (.int .i64 I)))] [] (.tup [.own 5 1 (zV r.1),.d (.lit (.int .i64 r.2))]):=by unfold zAG at h;split at h;(case isFalse=>cases h);rename_i hc;cases h;obtain⟨W,h2,h3,h4,Z⟩:=hc;obtain⟨n,rfl⟩:=uK W;obtain⟨k,rfl⟩:=uK (show 0<=I by omega);refine zXv λw m o U hs u=> ?_;rw[vals2 hs (zWx (u 0)) (zWx (u 1))];simp only[uF]at Z⊢;exact put_own n k w (by omega) (by omega) (by omega) ((zIH k n).1 Z)
section
variable {w0:World}{m0:Mem}{o0:OwnM}{G:GD}{pins:List Nat}{S M:Nat->A}{a:Act}{w:World}{m:Mem}{o:OwnM}{P:Program}{N:Nat}{op:Oper}{d:Nat}
theorem h_cap0(hM:Mk M S){t e:Nat}{x:Operand}(J:op.op= .call {callee:= .builtin .cap,args:=⟨[x]⟩,argTypes:=⟨[t]⟩})(hx:vO M x=some (.slice none 0 0))(hu:P.underlying t=some (.slice e))(hd:op.dst=some d)(u:okD N pins S d=true):OpH P pins N op S (app S [(d,.t (.d (.lit (.int .i64 0))))]):=by refine .of (e:=[(d,_)]) λU=>⟨?_,zAr (zX U u)⟩;refine zL λw0 m0 o0 G ac w m o Z I=> ?_;obtain⟨h1,W,h3⟩:=zP (qA U u);refine⟨.int .i64 0,w,m,o,?_,by rw[hd];exact I.set d _ _ (by omega) W (.lit _ rfl)⟩;unfold execOp;rw[J];simp only[resolve,invoke,builtin,wE,wQ,wC,wU,vC,vS];rw[zA0 hM.hx I hx];simp[Builtin.cap_,run_underlying hu,goInt]
theorem h_slnil(W:Mk M S){t e:Nat}{x:Operand}{hi:Option Operand}{ie:TypeInfo}(Z:op.op= .slice t x none hi none)(hx:vO M x=some (.slice none 0 0))(U:bndO M hi=some (some 0))(hu:P.underlying t=some (.slice e))(J:P.info? e=some ie)(hd:op.dst=some d)(u:okD N pins S d=true):OpH P pins N op S (app S [(d,.t (.d (.lit (.slice none 0 0))))]):=by refine .of (e:=[(d,_)]) λhN=>⟨?_,zAr (zX hN u)⟩;refine zL λw0 m0 o0 G ac w m o α I=> ?_;obtain⟨h1,h2,h3⟩:=zP (qA hN u);obtain⟨kh,e2⟩:=zFv W.hx I U;refine⟨.slice none 0 0,w,m,o,?_,by rw[hd];exact I.set d _ _ (by omega) h2 (.lit _ rfl)⟩;unfold execOp;rw[Z];simp only[wE];rw[e2,zA0 W.hx I hx];(have hb:(Instr.sliceBounds true 0 0 none ((some (0:Int)).map λz=> .int (kh z) z) none).run P w= .ok (0,0,0) w:=by unfold Instr.sliceBounds;simp only[uG,tR,wE,wQ,wC];(repeat(rw[zAk (by omega) (by omega),wC]));rfl);show Result.andThen (Sem.run P (Instr.sliceAt t (.slice none 0 0) none _ none) w) _=_;unfold Instr.sliceAt;simp only[wE,run_underlying hu,wC];unfold Instr.slice;simp only[wE,run_underlying hu,wC];rw[hb];simp[sizeOf,typeInfo,J]
def growI(u:Nat)(n:Int):Option Nat:=if 0<n/\n.toNat*u<=140737488355328 then some n.toNat else none
theorem h_apfr(hM:Mk M S){t tn e nb q:Nat}{z:Value}{x y:Operand}{ki:IntKind}{n:Int}(η:op.op= .call {callee:= .builtin .append,args:=⟨[x,y]⟩,argTypes:=⟨[t,tn]⟩})(hx:vO M x=some (.slice none 0 0))(hn:vO M y=some (.int ki n))(hz:zerF P t tn=some (e,nb,z))(hq:growI nb n=some q)(hd:op.dst=some d)(γ:okD N pins S d=true):OpH P pins N op S (app S [(d,.fr e 1)]):=by unfold zerF at hz;split at hz;(case h_2=>cases hz);rename_i e' kn hu ι;split at hz;(case h_2=>cases hz);rename_i ie hi;split at hz;(case h_2=>cases hz);rename_i kz nz ζ;split at hz;(case isFalse=>cases hz);rename_i hc;obtain⟨ρ,ε⟩:=hc;generalize δ:Value.int kz nz=z' at*;(have κ:z'.cells= #[z']:=by rw[<-δ];rfl);(have π:z'.oneCell'=true:=by rw[<-δ];rfl);injection hz with hz;injection hz with q1 hz;injection hz with q2 q3;subst q1 q2 q3;unfold growI at hq;split at hq;(case isFalse=>cases hq);rename_i σ;injection hq with hq;subst hq;obtain⟨μ,hb⟩:=σ;obtain⟨k,rfl⟩:=uK (Int.le_of_lt μ);simp only[uF]at hb;(have hk:0<k:=by omega);refine .of (e:=[(d,_)]) λhN=>⟨?_,zAr (zX hN γ)⟩;refine zL λw0 m0 o0 G a w m o φ I=> ?_;obtain⟨h1,h2,h3⟩:=zP (qA hN γ);obtain⟨A2,c2,w',Z,U,W⟩:=zMY P w hu kn ι hi ζ ρ κ π ε op.type none 0 0 [] (uZ w 0 e' 1) ki k (by simpa using hb);rw[vF]at Z U;(obtain⟨g,cap,ξ,hv,_,hg,α,β,ν,τ⟩:=U.2.resolve_left λh=>by omega);injection hv with hv _ θ;subst hv θ;(have J:g=w.heap.size/\w.grownBy w' none:=by rcases W with⟨h,_⟩|⟨h,h'⟩;cases h;injection h with h;grind);obtain⟨rfl,J⟩:=J;refine⟨_,w',_,_,?_,by rw[hd];refine I.own_put d (.fr e' 1) (.slice (some ⟨w.heap.size,0,none⟩) k c2) (λ_=>none) w.heap.size w' (by omega) h2 h3 (I.free (wL _)) (I.newG (wL _)) ⟨J.os,J.tape,J.output,J.size,λj hj _=>J.block j hj (by simp),λj=>(zAX.of_lt λhj=>J.block j hj (by simp)).w⟩ (by(exact(vV.1 hg).1)) (λp u h=>by rw[I.mem_none (wL _)]at h;cases h) (λp u h=>by cases h) ?_;exact⟨w.heap.size,k,c2,ξ,rfl,qT _ _ _,λp=>zAY _ _ _ _,hg,α,β,ν⟩⟩;unfold execOp;rw[η];simp only[resolve,invoke,builtin,wE,wQ,wC,wU,vC,vS];rw[zA0 hM.hx I hx,zA0 hM.hx I hn,Z];rfl
theorem Inv.unown(I:Inv w0 m0 o0 G pins S a w m o){s g:Nat}(hs:s<OB)(hp:s∉pins)(Z:S s= .any)(U:o g=some (s,0)):Inv w0 m0 o0 G pins S a w m (λb=>if b=g then none else o b):=by
 have hk:∀b l,(λb=>if b=g then none else o b) b=some l->b≠g/\o b=some l:=by
  grind
 have K:Keep (λl=>l.1=s) m w o m w (λb=>if b=g then none else o b):=⟨Mle.refl _,λ_ _ _ _=>rfl,λ_ _ _ _=>rfl,λb l h hn=>by
   show(if b=g then none else o b)=_
   rw[if_neg (λe=>by rw[e,U]at h;injection h with h;exact hn (by rw[<-h])),h],λb j h=>by
   show(if b=g then none else o b)=_
   rw[if_neg (λe=>by rw[e,U]at h;injection h with h;injection h with h;omega),h],λb t k _ h=>⟨b,k,(hk b _ h).2⟩,λ_ _ _=> .of_eq rfl⟩
 refine⟨I.same,I.sat,I.mono,I.old,λb l h=>I.own b l (hk b l h).2,λb l h=>I.lt b l (hk b l h).2,λb W l h h'=>I.inj b W l (hk b l h).2 (hk W l h').2,λp u b hb=> ?_,λt=> ?_,I.defers,I.tbl,I.wide,I.shps⟩
 · exact K.own b _ (I.pinned p u b hb) (λe=>u.elim (λh=>hp (by have e:p=s:=e;rw[<-e];exact h)) λh=>by have e:p=s:=e;omega)
 ·
  by_cases e:t=s
  · subst e;rw[Z];trivial
  ·
   refine RepA.keep K (λ_ J=>e J) (λb off he hb=>⟨λJ=> ?_,id⟩) (I.slots t)
   have J:b=s:=J
   subst J
   have h:=I.slots t
   rw[he]at h
   obtain⟨_,_,_,h3⟩:=h
   obtain⟨l,hl⟩:=h3 hb
   rw[Z]at hl
   cases hl
theorem h_slfr{s:Nat}(hM:Mk M S){t e E k:Nat}{hi:Option Operand}{ie:TypeInfo}(δ:op.op= .slice t (.tmp s) none hi none)(J:M s= .fr E k)(η:bndO M hi=some (some 0))(hu:P.underlying t=some (.slice e))(α:P.info? e=some ie)(ι:(s==d)=false)(U:(Nat.blt s OB&& !pins.contains s)=true)(hd:op.dst=some d)(W:okD N pins S d=true):OpH P pins N op S (app S [(s,.any),(d,.t (.own E k []))]):=by simp only[wH,vQ,vJ,decide_eq_false_iff_not]at U;(have β:s<OB:=by simpa using U.1);(have γ:s≠d:=by simpa using ι);refine .of (e:=[(s,_),(d,_)]) λhN=>⟨?_,λz hz=>by simp at hz;rcases hz with rfl|rfl;exact .inl β;exact .inl (zX hN W)⟩;refine zL λw0 m0 o0 G a w m o κ I=> ?_;obtain⟨h1,h2,h3⟩:=zP (qA hN W);(have Z:hx S s= .fr E k:=by rcases hM s with h|h;rw[h]at J;cases J;exact yM (h.symm.trans J) (by simp));have hs:=I.slots s;rw[Z]at hs;obtain⟨g,n,cap,θ,q1,q2,q3,q4,q5,q6,q7⟩:=hs;obtain⟨kh,e2⟩:=zFv hM.hx I η;have I1:=I.tell s .any (by rw[Z];rfl) trivial;have I2:=I1.unown (g:=g) β U.2 (zK _ _ _) q2;have ζ:a.eval (.tmp s)= .slice (some ⟨g,0,none⟩) n cap:=q1;(have hb:(Instr.sliceBounds true n cap none ((some (0:Int)).map λz=> .int (kh z) z) none).run P w= .ok (0,0,cap) w:=by unfold Instr.sliceBounds;simp only[uG,tR,wE,wQ,wC];(repeat(rw[zAk (by omega) (by omega),wC]));rfl);refine⟨.slice (some ⟨g,0,none⟩) 0 cap,w,_,_,?_,by rw[hd];refine I2.own_put d (.t (.own E k [])) (.slice (some ⟨g,0,none⟩) 0 cap) (λ_=>none) g w (by omega) (by rw[zE (Ne.symm γ)];exact h2) h3 (λl h=>by simp at h) (I.own g _ q2) (Same.refl _ _) (I.lt g _ q2) (λp u h=>by rw[q3]at h;cases h) (λp u h=>by cases h) ?_;refine⟨some ⟨g,0,none⟩,cap,[],rfl,⟨by simp,.inr ⟨g,0,cap,θ,rfl,⟨_,q4,.inr ⟨rfl,rfl,q7⟩⟩,vI _,q6,.inl (by rw[vF];exact q7),by simp⟩⟩,λg' ε=> ?_,λi r h=>by simp at h,λi r j d h=>by simp at h⟩;cases ε;exact⟨qT _ _ _,λp _=>zKF _ _ _ _⟩⟩;unfold execOp;rw[δ];simp only[wE];rw[e2,ζ];show Result.andThen (Sem.run P (Instr.sliceAt t _ none _ none) w) _=_;unfold Instr.sliceAt;simp only[wE,run_underlying hu,wC];unfold Instr.slice;simp only[wE,run_underlying hu,wC];rw[hb];by_cases hc:cap=0;simp[sizeOf,typeInfo,α,hc];simp[sizeOf,typeInfo,α,hc,Addr.add_mid]
end
end Go.Proofs.YtocolhfjpadaoaaGreatDoor
