/-
  Lemmas of this claim, joined.
-/
import Derived.Test.YtocolhfjpadaoaaGreatDoorU10
import Derived.ChangeKeysEq
import Derived.Lib.SlKeysI
import Derived.Shelf.SlIterI.Nil
import Derived.Shelf.SlIterI.Sorted
import Derived.Shelf.SortM.Plain
import Derived.Shelf.SortM.SortNone
import Derived.Shelf.Strings.Builder1
import Derived.Shelf.Strings.Builder2
import Derived.Shelf.Strings.OnBuilder
import Derived.Shelf.Small.Bits
import Derived.Shelf.Strconv.Itoa0
import Derived.Shelf.Strconv.Itoa1
import Derived.Shelf.LaysM
import Derived.Shelf.Strconv.Itoa2
import Derived.Shelf.Strconv.Itoa3
import Derived.Shelf.Slices.SearchI
set_option linter.unusedVariables false
set_option linter.unusedSimpArgs false
set_option linter.constructorNameAsVariable false
namespace Go.Proofs.YtocolhfjpadaoaaGreatDoor
open Go
abbrev wA:=@Option.bind_some
abbrev sO:=@List.pairwise_cons
end Go.Proofs.YtocolhfjpadaoaaGreatDoor
namespace Go.Proofs.YtocolhfjpadaoaaGreatDoor
open Go Go.RowKit
variable {P:Program}{w0:World}{w:World}{m0:Mem}{m:Mem}{o0:OwnM}{o:OwnM}{G:GD}{pins:List Nat}{N:Nat}{a:Act}{op:Oper}{S:Nat->A}{M:Nat->A}{L:SL}{v:Value}{W:World}{Q:Mem}{X:OwnM}
theorem nz_noLoc{x:T}(h:nzT x=true/\∀i,x= .mpt i->OB<=i):x.isLoc=false:=by(cases x with|ptr j off=>exact absurd h.1 (by simp[nzT])|view j off E k n=>exact absurd h.1 (by simp[nzT])|mpt i=>have:=h.2 i rfl;show Nat.blt i OB=false;(cases e:Nat.blt i OB with|false=>rfl|true=>(have:i<OB:=by simpa using e);omega)|_=>rfl)
theorem pure_hz{f z:Nat->A}(hf:zCO f)(u:zCO z):zCO (hz f z):=λc l h x hx=>by unfold hz at h;split at h;exact u _ _ h x hx;exact hf _ _ h x hx
theorem pure_zA{l:Nat}{u:Obj}{U:Mem}{I:OwnM}{cs:List (List T)}(h:∀c∈cs,nzC c):zCO (zA l u U I cs):=λi q e x hx=>by unfold zA at e;split at e;cases e;(split at e;(rename_i c J;cases e;exact nz_noLoc (h _ (wD J) x hx));cases e)
theorem NC_hpF{g:Nat->Nat->A}(Z:∀i,g 63 i= .free)(hb:∀t i l,g t i= .box l->nzC l)(hr:∀t i b u W U,g t i≠ .rcd b u W U):NC (hpF g)where
 z c hc:=by(have:hpF g c= .free:=by unfold hpF;rw[hc];exact Z _);rw[this];rfl
 b c l h x hx:=by(have J:hpF g c= .box l:=by cases I:hpF g c<;>rw[I]at h<;>first|exact h|cases h);exact(hb _ _ l J x hx).1
 r c b u W U h:=by(have J:hpF g c= .rcd b u W U:=by cases I:hpF g c<;>rw[I]at h<;>first|exact h|cases h);exact hr _ _ _ _ _ _ J
 c c l h:=by(have J:hpF g c= .box l:=by cases I:hpF g c<;>rw[I]at h<;>first|exact h|cases h);exact hb _ _ l J
theorem zGR{α:Type}{l:List α}{f:Nat->α->List T}{i:Nat}{q:List T}(h:∀i x,nzC (f i x))(e:arA l f i= .box q):nzC q:=by unfold arA at e;grind
theorem zGN{α:Type}{l:List α}{f:Nat->α->List T}{i b:Nat}{u:Obj}{J:Mem}{I:OwnM}:arA l f i≠ .rcd b u J I:=by unfold arA;grind
theorem zCu:nzC []:=λ_ h=>by cases h
theorem zMx{x:T}{l:List T}(h:nzT x=true/\∀i,x= .mpt i->OB<=i)(hl:nzC l):nzC (x::l):=λy hy=>by rcases vD.1 hy with rfl|hy;exact h;exact hl y hy
theorem zMF{x:D}{l:List T}(hl:nzC l):nzC (.d x::l):=zMx ⟨rfl,λ_ e=>by cases e⟩ hl
theorem zHb{E k:Nat}{r:List (List D)}{l:List T}(hl:nzC l):nzC (.own E k r::l):=zMx ⟨rfl,λ_ e=>by cases e⟩ hl
theorem FCH.more{fn:FuncId}{args:List A}{f f':Nat->A}{r:A}(hf:FCH P fn args [] [] f f' r)(h0:NZ f)(u:NZ f')(J:args.all nzA=true)(I:args.length<=OB)(z:Nat->A):FCH P fn args [] [] (hz f z) (hz f' z) r:=
 FCK.frame (K:=Calls P fn) (λ_ _ _ _ h k=>Calls.mono h k) hf h0 u J I z
abbrev hzP{X H:Type}(hA:H->Nat->A)(zf:X->Nat->A)(q:X×H):Nat->A:=hz (hA q.2) (zf q.1)
theorem zO1{X H:Type}{hA:H->Nat->A}{zf:X->Nat->A}(h:∀w,zCO (hA w))(u:∀x,zCO (zf x))(q:X×H):zCO (hzP hA zf q):=pure_hz (h _) (u _)
def lpY{α B H:Type}(u:α->B->H->Option (Bool×B×H))(a:α)(q:(Bool×B)×H):Option (Bool×((Bool×B)×H)):=
 bif q.1.1 then Option.bind (u a q.1.2 q.2) λy=>some (y.1,((y.1,y.2.1),y.2.2))else none
def YLs{X H α:Type}(P:Program)(l:Nat)(hA:H->Nat->A)(zf:X->Nat->A)(ag:α->List A)(yld:α->X×H->Option (Bool×(X×H))):Prop:=
 ∀a q b u,yld a q=some (b,u)->YLD P l (ag a) (hzP hA zf q) (hzP hA zf u) b
def ITR{H α:Type}(P:Program)(fn:Nat)(u:List (List T))(hA:H->Nat->A)(ag:α->List A)(M:(X:Type)->(α->X×H->Option (Bool×(X×H)))->X×H->Option (X×H)):Prop:=
 ∀(X:Type) (l:Nat) (zf:X->Nat->A) (I:∀x,zCO (zf x)) (yld:α->X×H->Option (Bool×(X×H))) (hy:YLs P l hA zf ag yld) (q r:X×H),M X yld q=some r->∃y,FCH P fn (.t (.d (.lit (yv l)))::u.map A.imt) [] [] (hzP hA zf q) (hzP hA zf r) y
def stOK(bs:List Nat)(g:Nat):SL->Prop
 |[]=>True
 |(s,x)::r=>(((Nat.blt s OB&& !bs.contains s&& !(s==g))=true/\zV4 x=true)\/((Nat.ble OB s&&Nat.blt s HK)=true/\x= .free))/\stOK bs g r
theorem stOK.get{bs:List Nat}{g:Nat}:∀{L:SL},stOK bs g L->∀s,gt L s= .any\/(s<OB/\s∉bs/\s≠g/\zV4 (gt L s)=true)\/(OB<=s/\s<HK/\gt L s= .free)
 |[],_,s=> .inl rfl
 |(t,x)::r,h,s=>by rw[zQ,upd];by_cases e:s=t;(subst e;rw[if_pos rfl];rcases h.1 with⟨u,I⟩|⟨u,I⟩;(simp only[wH,vQ,vJ,decide_eq_false_iff_not,beq_eq_false_iff_ne]at u;exact .inr (.inl ⟨by simpa using u.1.1,u.1.2,u.2,I⟩));(simp only[wH]at u;exact .inr (.inr ⟨wS u.1,by simpa using u.2,I⟩)));(rw[if_neg e];exact stOK.get h.2 s)
theorem all_nil{α:Type}{p:α->Prop}:∀x∈([]:List α),p x:=λ_ h=>by cases h
theorem all_cons{α:Type}{p:α->Prop}{a:α}{l:List α}(h:p a)(k:∀x∈l,p x):∀x∈a::l,p x:=λx hx=>by rcases vD.1 hx with rfl|hx;exact h;exact k x hx
def BxS(L:SL):List Nat->List (List T)->Prop
 |s::r,c::k=>gt L s= .box c/\BxS L r k
 |[],[]=>True
 |_,_=>False
theorem BxS.get:∀{bs:List Nat} {cs:List (List T)},BxS L bs cs->∀(i s:Nat),bs[i]? =some s->∃c,cs[i]? =some c/\gt L s= .box c
 |[],[],_,i,s,h=>by simp at h
 |b::bs,c::cs,h,0,s,e=>by injection e with e;subst e;exact⟨c,rfl,h.1⟩
 |b::bs,c::cs,h,i+1,s,e=>by simpa using BxS.get h.2 i s (by simpa using e)
theorem box_get:∀{bs:List Nat} {cs:List (List T)} {R:SL},bs.Nodup->cs.length=bs.length->∀(i s:Nat),bs[i]? =some s->∃c,cs[i]? =some c/\gt (bs.zip (cs.map A.box)++R) s= .box c:=by intro bs cs R I hl i s u;have J:=(wF.1 u).1;refine⟨cs[i],wB (by omega),?_⟩;rw[zRw _ _ _ _ (by rw[wM,hl]),zCZ I u];grind
theorem s_less{x y:Code}{Q:Exit->SL->Prop}(L':SL)(u:WkS L L')(U:wkOK L L'=true)(h:zM3 P pins N x y Q L'):zM3 P pins N x y Q L:=
 λZ J hF W m0 X G a w I=>h Z J hF W m0 X G a w (I.weaken u U)
theorem c_itr{i g fn:Nat}{bs ps:List Nat}{caps:List (List T)}{assign body rest:Code}{Q:Exit->SL->Prop}{α B H:Type}{b0:B}{w0:H}(L0:SL)(cf:B->List (List T)){hA:H->Nat->A}{ag:α->List A}{rnd:α->B->H->Option (Bool×B×H)}{M:(X:Type)->(α->X×H->Option (Bool×(X×H)))->X×H->Option (X×H)}{x:(Bool×B)×H}
(hit:ITR P fn caps hA ag M)(h:M _ (lpY rnd) ((true,b0),w0)=some x)(hNC:∀w,NC (hA w))
(hc:(!pins.contains DK&&Nat.ble N OB&&Nat.ble ps.length OB&&bs.all (λb=>Nat.blt b N&& !ps.contains b&& !(b==g))&&ps.all (Nat.blt · N)&&Nat.blt g OB)=true)(hn:bs.Nodup)(hpn:ps.Nodup)
(hcl:∀b,(cf b).length=bs.length)(hcc:∀b,∀c∈cf b,nzC c)(hag:∀a,(ag a).length=ps.length/\(ag a).all A.plain=true)(hcaps:∀l∈caps,capC l)(hst:stOK bs g L0){F:Func}(hfn:P.funcs[fn]? =some F)(hbody:F.body.isNone=false)(hname:(F.name== "runtime.NumGoroutine")=false)
(hw:WkS L ((HK,.hp (hA w0))::(g,.cl fn caps)::(bs.zip ((cf b0).map A.box)++L0)))(hr:zG9 ((HK,.hp (hA w0))::(g,.cl fn caps)::(bs.zip ((cf b0).map A.box)++L0))=true)
(round:∀a b w y,rnd a b w=some y->qG P bs N assign (λe L1=>e= .normal/\qG P bs N body (λe L2=>((e= .normal/\y.1=true)\/(e= .ret/\y.1=false))/\gt L2 HK= .hp (hA y.2.2)/\BxS L2 bs (cf y.2.1)) L1) (LR ps (ag a) (hA w) bs (cf b) L0))
(hret:x.1.1=false->Q .ret (LA (hA x.2) bs (cf x.1.2) L0))(hrest:x.1.1=true->qG P pins N rest (λe L2=>e= .ret/\Q .ret L2) (LA (hA x.2) bs (cf x.1.2) L0)):
 zM3 P (DK::pins) N (.block i (.rangeFunc (.tmp g) ps.toArray assign body)) rest Q L:=by
 simp only[wH,vQ,vJ,decide_eq_false_iff_not,wI,beq_eq_false_iff_ne]at hc
 obtain⟨⟨⟨⟨⟨k1,k2⟩,k3⟩,k4⟩,k5⟩,k6⟩:=hc
 have k2:=wS k2
 have k3:=wS k3
 have k6:g<OB:=by simpa using k6
 have hgK:g≠HK:=by unfold HK;unfold OB at k6;omega
 have hbN:∀b∈bs,b<N:=λb hb=>by simpa using(k4 b hb).1.1
 have hbK:HK∉bs:=λhb=>by have:=hbN _ hb;unfold HK at this;unfold OB at k2;omega
 have hpsN:∀p∈ps,p<N:=λp hp=>by simpa using k5 p hp
 refine s_less _ hw hr ?_
 have hgt:∀s,s≠HK->s≠g->s∉bs->gt ((HK,.hp (hA w0))::(g,.cl fn caps)::(bs.zip ((cf b0).map A.box)++L0)) s=gt L0 s:=λs h1 h2 h3=>by rw[zQ,zE h1,zQ,zE h2,zRw _ _ _ _ (by rw[wM,hcl])];(cases hq:posN bs s with|none=>rfl|some i=>exact absurd (wD (zBG hq)) h3)
 refine c_range (f:=hA w0) (f':=hA x.2) (cs:=cf b0) (cs':=cf x.1.2) (b:=x.1.1) (L0:=L0) k1 k2 (by rw[zQ,zK]) (hNC _) (hNC _) (hcl _) (hcl _) (hcc _) (hcc _) hn hbN (λi s hi=> ?_) (by rw[zQ,zE hgK,zQ,zK]) hcaps (λs=> ?_) hfn hbody hname ?_ hret hrest
 · obtain⟨c,e1,e2⟩:=box_get (R:=L0) hn (hcl b0) i s hi;have hm:=wD hi;exact⟨c,e1,by rw[zQ,zE (λe=>hbK (by rw[<-e];exact hm)),zQ,zE (k4 s hm).2];exact e2⟩
 · rcases hst.get s with e|⟨e1,e2,e3,e4⟩|⟨e1,e2,e3⟩;grind;(rw[hgt s (by unfold HK;unfold OB at e1;omega) e3 e2];grind);grind
 · intro l r mE oE hH hs hp hps has hbo;refine hit (Bool×B) l (λz=>zA l (.loop (if z.1 then r else{r with state:= .done,pending:=some .ret})) mE oE (cf z.2)) (λz=>pure_zA (hcc _)) (lpY rnd) ?_ ((true,b0),w0) x h;rintro a ⟨⟨al,b⟩,w⟩ b' q' hy;unfold lpY at hy;(cases al with|false=>cases hy|true=>have hy:Option.bind (rnd a b w) (λy=>some (y.1,((y.1,y.2.1),y.2.2)))=some (b',q'):=hy;(cases hq:rnd a b w with|none=>grind|some y=>rw[hq]at hy;have hy:some (y.1,((y.1,y.2.1),y.2.2))=some (b',q'):=hy;cases hy;subst has hbo;have R:=round a b w y hq;refine yld_mk (L0:=L0) k2 hn hbN hpn hpsN (λp hp hb=>(k4 p hb).1.2 hp) k3 hH hs hp hps (hag a).1 (hag a).2 (hNC _) (hNC _) (hcl _) (hcl _) (hcc _) (hcc _) ?_;intro Fe ne hF w1 m1 o1 G1 a1 w2 hS;refine wpIn_mono (R Fe ne hF w1 m1 o1 G1 a1 w2 hS) ?_;rintro e a2 w3 ⟨L1,⟨he,hB⟩,hS1⟩;refine⟨L1,⟨he,?_⟩,hS1⟩;intro Fe ne hF w1 m1 o1 G1 a1 w2 hS;refine wpIn_mono (hB Fe ne hF w1 m1 o1 G1 a1 w2 hS) ?_;rintro e a2 w3 ⟨L2,⟨he,hk,hbx⟩,hS1⟩;exact⟨L2,⟨he,hk,hbx.get⟩,hS1⟩))
def rfs:Code->List (Code×Code)
 | .seq a b=>rfs a++rfs b
 | .block _ c=>rfs c
 | .cond _ a b=>rfs a++rfs b
 | .loop c=>rfs c
 | .rangeFunc _ _ a b=>[(a,b)]
 |_=>[]
def rfN(F:Func)(k:Nat):Code×Code:=(rfs (zET F)).getD k (.skip,.skip)
theorem zXB{R:Type}(U:P.follows .mixedOrders=true)(fr:List Nat){fn:FuncId}{F:Func}(hf:P.funcs[fn]? =some F){args ins:List A}{outs:R->List A}{f:Nat->A}{f':R->Nat->A}{y:R->A}(T:Tr P R [])
(h:(zHj F args.length ins.length fr,(λx=>Nat.blt (outs x).length OB),(chk F.ntmps (λ_=>finH P F.results.toList outs f' y) 100000 (DK::zGe ins.length) FEnv.nil [] (.c (zET F)) (zFw fr args ins f) T).l)=(true,(λ_=>true),(chk F.ntmps (λ_=>finH P F.results.toList outs f' y) 100000 (DK::zGe ins.length) FEnv.nil [] (.c (zET F)) (zFw fr args ins f) T).r))(r:R)(hr:T.run Env.nil=some r):FCH P fn args ins (outs r) f (f' r) (y r):=by
 simp only[Prod.mk.injEq]at h
 obtain⟨u,h3,W⟩:=h
 unfold zHj at u
 simp only[wH]at u
 obtain⟨⟨⟨⟨⟨q1,q2⟩,q3⟩,Z⟩,q5⟩,J⟩:=u
 have I:∀r,Nat.blt (outs r).length OB=true:=λr=>congrFun h3 r
 refine fch_mkR fr hf (zSP q1) rfl (wS q2) (uY).symm (pins:=DK::zGe ins.length) ?_ rfl ?_
 · rw[q3,Z,q5,I r];split;(rename_i t e _;simp only[e]at J;rw[J];rfl);rfl
 · exact zTd U (λb x L c hc hl e=>by subst e;have key:endH P F.results.toList (outs x) (f' x) (y x) .ret L:=finH_ok hc hl;(cases b<;>exact key)) 100000 (Γ:=[]) _ _ Env.nil (λ_ _=>True) [] (.c (zET F)) _ T (λk hk=>by cases hk) (λX m=>nomatch m) W hr
section
variable {P:Program}{α B H:Type}
def RndOK(P:Program)(fn k:Nat)(bs U:List Nat)(ag:α->List A)(hA:H->Nat->A)(J:B->List (List T))(L0:SL)(u:α->B->H->Option (Bool×B×H)):Prop:=
 ∀F,P.funcs[fn]? =some F->∀a b w y,u a b w=some y->qG P bs F.ntmps (rfN F k).1 (λe Z=>e= .normal/\qG P bs F.ntmps (rfN F k).2 (λe I=>((e= .normal/\y.1=true)\/(e= .ret/\y.1=false))/\gt I HK= .hp (hA y.2.2)/\BxS I bs (J y.2.1)) Z) (LR U (ag a) (hA w) bs (J b) L0)
def bxPL(L:SL):List Nat->List (List T)->PL
 |s::r,c::k=>⟨gt L s,.box c⟩::bxPL L r k
 |[],[]=>[]
 |_,_=>[bp false]
theorem bxPL_ok:∀{bs:List Nat} {cs:List (List T)},okL (bxPL L bs cs)->BxS L bs cs
 |_::_,_::_,h=>⟨h.1,bxPL_ok h.2⟩
 |[],[],_=>trivial
 |[],_::_,h=>Bool.noConfusion h.1
 |_::_,[],h=>Bool.noConfusion h.1
def finR(hA:H->Nat->A)(bs:List Nat)(u:B->List (List T))(I:Bool)(y:Bool×B×H)(L:SL):Option PL:=some (⟨y.1,I⟩::⟨gt L HK,.hp (hA y.2.2)⟩::bxPL L bs (u y.2.1))
theorem rnd_chk(hm:P.follows .mixedOrders=true){fn:Nat}{F:Func}(hf:P.funcs[fn]? =some F)(k:Nat){bs J:List Nat}{ag:α->List A}{hA:H->Nat->A}{u:B->List (List T)}{L0:SL}(T:α->B->H->Tr P (Bool×B×H) [])
  (h:(λa b w=>(chk F.ntmps (finR hA bs u) 100000 bs FEnv.nil [.a (rfN F k).2] (.c (rfN F k).1) (LR J (ag a) (hA w) bs (u b) L0) (T a b w)).l)=λa b w=>(chk F.ntmps (finR hA bs u) 100000 bs FEnv.nil [.a (rfN F k).2] (.c (rfN F k).1) (LR J (ag a) (hA w) bs (u b) L0) (T a b w)).r):RndOK P fn k bs J ag hA u L0 (λa b w=>(T a b w).run Env.nil):=by
 intro F' I a b w y hy
 rw[hf]at I
 cases I
 exact zTd hm (r:=y) (Q0:=λe U=>((e= .normal/\y.1=true)\/(e= .ret/\y.1=false))/\gt U HK= .hp (hA y.2.2)/\BxS U bs (u y.2.1)) (λnb x L c hc hl e=>by
  subst e
  cases hc
  obtain⟨Z,q2,q3⟩:=hl
  refine⟨?_,q2,bxPL_ok q3⟩
  cases nb with
  |true=>exact .inl ⟨rfl,Z⟩
  |false=>exact .inr ⟨rfl,Z⟩) 100000 (Γ:=[]) bs FEnv.nil Env.nil (λ_ _=>True) [.a (rfN F k).2] (.c (rfN F k).1) _ (T a b w) (λi W k hk=>by
  rw[vA]at W
  subst W
  cases hk) (λX m=>nomatch m) (congrFun (congrFun (congrFun h a) b) w) hy
def rg{fn γ k:Nat}{u:List (List T)}{ag:α->List A}{β:α->B->H->Option (Bool×B×H)}{M:(X:Type)->(α->X×H->Option (Bool×(X×H)))->X×H->Option (X×H)}{bs I:List Nat}{cf:B->List (List T)}{hA:H->Nat->A}{b0:B}{W:H}{x:(Bool×B)×H}{L0:SL}(g:Nat)(ws:List Nat)
(θ:ITR P fn u hA ag M)(R:RndOK P γ k bs I ag hA cf L0 β)(h:M _ (lpY β) ((true,b0),W)=some x)(κ:∀w,NC (hA w))(μ:∀b,(cf b).length=bs.length)(ζ:∀b,∀c∈cf b,nzC c)(δ:∀a,(ag a).length=I.length/\(ag a).all A.plain=true)(ε:stOK bs g L0):RgRule P where
 pr N y L:=match y,P.funcs[γ]? with
  | .block _ (.rangeFunc (.tmp g') J U bo),some Z=>some (⟨g',g⟩::⟨J.toList,I⟩::⟨(U,bo),rfN Z k⟩::⟨N,Z.ntmps⟩::bp (fnOK P fn)::bp (Nat.ble N OB&&Nat.ble I.length OB&&bs.all (λb=>Nat.blt b N&& !I.contains b&& !(b==g))&&I.all (Nat.blt · N)&&Nat.blt g OB)::bp (zSG bs)::bp (zSG I)::bp (u.all λl=>l.all capB)::fits ws L ((HK,.hp (hA W))::(g,.cl fn u)::(bs.zip ((cf b0).map A.box)++L0)),x.1.1,LA (hA x.2) bs (cf x.1.2) L0)
  |_,_=>none
 ok pins N y rest L c b LA' Q hp hc hdk ht hf:=by split at hp;(rename_i i g' J U bo Z η;cases hp;obtain⟨q1,q2,q3,q4,q5,q6,q7,q8,ι,q9,ν⟩:=hc;have q1:g'=g:=q1;have q2:J.toList=I:=q2;have q3:(U,bo)=rfN Z k:=q3;have q4:N=Z.ntmps:=q4;obtain⟨F,f1,f2,f3⟩:=zH4 q5;(have e4:J=I.toArray:=by rw[<-q2]);subst q1 e4;have R1:=R Z η;rw[<-q3,<-q4]at R1;refine c_itr L0 cf θ h κ ?_ (zMZ q7) (zMZ q8) μ ζ δ (λl hl x hx=>wI.1 (wI.1 ι l hl) x hx) ε f1 f2 f3 (zNE ν) q9 R1 hf ht;rw[vJ];have q6:_=true:=q6;simp only[hdk,decide_false,Bool.not_false,Bool.true_and];exact q6);cases hp
end
structure ItC(P:Program){α H:Type}(hA:H->Nat->A)(ag:α->List A)(X:Type)(yld:α->X×H->Option (Bool×(X×H)))where
 l:Nat
 zf:X->Nat->A
 hz:∀x,zCO (zf x)
 hy:YLs P l hA zf ag yld
theorem zHu{t:Nat}{p:Option Nat}{l:List T}(h:nzT (.opt t p)=true)(hl:nzC l):nzC (.opt t p::l):=zMx ⟨h,λ_ e=>nomatch e⟩ hl
theorem zI7{t j off E k n:Nat}{l:List T}(ht:t<63)(hl:nzC l):nzC (.hvw (cd t j) off E k n::l):=zMx ⟨by show(!(cd t j %64==63))=true;rw[zUt (by omega)];simp;omega,λ_ e=>nomatch e⟩ hl
theorem zJo{t j:Nat}{l:List T}(ht:t<63)(hl:nzC l):nzC (.mpt (OB+cd t j)::l):=zMx ⟨by
 show(!(Nat.ble OB (OB+cd t j)&&(OB+cd t j-OB) %64==63))=true
 rw[wO,zUt (by omega)]
 have:(t==63)=false:=by simp;omega
 rw[this,Bool.and_false]
 rfl,λi e=>by injection e with e;omega⟩ hl
theorem nz_fl{α:Type}(c:α->List D):∀(l:List α),nzC (fl (dT c) l):=by intro l x hx;unfold fl at hx;obtain⟨a,_,u⟩:=List.mem_flatMap.1 hx;unfold dT at u;obtain⟨d,_,rfl⟩:=vW.1 u;exact⟨rfl,λ_ e=>nomatch e⟩
theorem arM_nbox{κ ν:Type}{kv:κ->Value}{cv:ν->D}{ms:List (List (κ×ν))}{i:Nat}{l:List T}(h:arM kv cv ms i= .box l):False:=by unfold arM at h;grind
theorem arM_nrcd{κ ν:Type}{kv:κ->Value}{cv:ν->D}{ms:List (List (κ×ν))}{i b:Nat}{u:Obj}{J:Mem}{I:Nat->Option (Nat×Nat)}(h:arM kv cv ms i= .rcd b u J I):False:=by unfold arM at h;grind
def itL{α H X:Type}{hA:H->Nat->A}{ag:α->List A}{yld:α->X×H->Option (Bool×(X×H))}:Option (ItC P hA ag X yld)->Nat
 |some z=>z.l
 |none=>0
section
variable {P:Program}{α H X:Type}{hA:H->Nat->A}{ag:α->List A}{yld:α->X×H->Option (Bool×(X×H))}
def itH(z:Option (ItC P hA ag X yld))(q:X×H):Nat->A:=match z with
 |some z=>hzP hA z.zf q
 |none=>hA q.2
instance [hP:∀w,PuH (hA w)](z:Option (ItC P hA ag X yld))(q:X×H):PuH (itH z q):=⟨by(cases z with|none=>exact(hP _).h|some z=>exact zO1 (λw=>(hP w).h) z.hz q)⟩
def yr(z:Option (ItC P hA ag X yld))[hP:∀w,PuH (hA w)]{a:α}{q:X×H}{x:Bool×(X×H)}(h:yld a q=some x):YRule P where
 pr pins N L op:=match z,op.dst,op.op with
  |some z,some d,.call {callee:= .value fx,args:=⟨xs⟩,argTypes:=_}=>some (bp (okD N pins (gt L) d)::⟨vO (gt L) fx,some (yv z.l)⟩::⟨gt L HK,.hp (itH (some z) q)⟩::bp (Nat.ble (ag a).length OB)::zPa (xs.map (cpO (gt L))) (ag a),[(HK,.hp (itH (some z) x.2)),(d,.t (.d (.lit (.bool x.1))))])
  |_,_,_=>none
 ok pins N L op c e hp hc:=by split at hp;(rename_i z d fx xs ts U I;cases hp;obtain⟨J,W,Z,u,q5⟩:=hc;exact y_call (Mk.refl _) Z I W U J (z.hy _ _ _ _ h) (zO1 (λw=>(hP w).h) z.hz _) (zO1 (λw=>(hP w).h) z.hz _) (zEP q5) u);cases hp
def cRZ(z:Option (ItC P hA ag X yld))[hP:∀w,PuH (hA w)](q:X×H){fn:Nat}{args:List A}{y:A}(hf:FCH P fn args [] [] (hA q.2) (hA q.2) y)(u:∀w,NC (hA w)):qP P where
 hk:=[HK]
 pr pins N M op:=match z with
  |some z=>zRz P pins N M fn args y (λd=>([bp (zVi y),⟨M HK,.hp (itH (some z) q)⟩,bp (args.all nzA)],[(d,y)])) op
  |none=>none
 ok pins N S M op c e hM hd h hc:=by split at h;(rename_i z;obtain⟨d,fx,xs,ts,F,W,h2,h3,h4,h5,h6,h7,Z,h9,⟨I,U,J,_⟩,rfl⟩:=zL4 h hc;exact zSv hM (hM.get U (by simp)) (σ:=[]) (fr:=[]) h2 h3 W (zAE h4 (hd d W)) h5 h6 h7 (FCH.more hf (u _).toNZ (u _).toNZ J (wS Z) (z.zf q.1)) (zO1 (λw=>(hP w).h) z.hz q) zWw rfl rfl rfl (zEP h9) Z (zNr I));cases h
theorem itr_chk(U:P.follows .mixedOrders=true){fn:Nat}{F:Func}(hf:P.funcs[fn]? =some F)(fr:List Nat){u:List (List T)}{hA:H->Nat->A}{ag:α->List A}(T:(X:Type)->(yld:α->X×H->Option (Bool×(X×H)))->Option (ItC P hA ag X yld)->X×H->Tr P (X×H) [])
(I:∀X yld z q,(T X yld none q).run Env.nil=(T X yld (some z) q).run Env.nil)
(h:(zHj F (u.length+1) 0 fr,(λX yld (z:ItC P hA ag X yld) q=>(chk F.ntmps (λ_=>finH P F.results.toList (λ_=>[]) (itH (some z)) (λ_=> .tup [])) 100000 [] FEnv.nil [] (.c (zET F)) (zFw fr (.t (.d (.lit (yv z.l)))::u.map A.imt) [] (itH (some z) q)) (T X yld (some z) q)).l))=(true,λX yld z q=>(chk F.ntmps (λ_=>finH P F.results.toList (λ_=>[]) (itH (some z)) (λ_=> .tup [])) 100000 [] FEnv.nil [] (.c (zET F)) (zFw fr (.t (.d (.lit (yv z.l)))::u.map A.imt) [] (itH (some z) q)) (T X yld (some z) q)).r)):
 ITR P fn u hA ag (λX yld q=>(T X yld none q).run Env.nil):=by
 intro X l zf J yld hy q r W
 have Z:=congrFun (congrFun (congrFun (congrFun (congrArg Prod.snd h) X) yld) (⟨l,zf,J,hy⟩:ItC P hA ag X yld)) q
 have h1:=congrArg Prod.fst h
 refine⟨.tup [],zN U fr hf (args:= .t (.d (.lit (yv l)))::u.map A.imt) (ins:=[]) (outs:=λ_=>[]) (f:=hzP hA zf q) (f':=λr=>hzP hA zf r) (y:=λ_=> .tup []) (T X yld (some ⟨l,zf,J,hy⟩) q) ?_ r (by rw[<-I];exact W)⟩
 have e:(A.t (.d (.lit (yv l)))::u.map A.imt).length=u.length+1:=by simp
 rw[e]
 refine Prod.ext h1 (Prod.ext ?_ Z)
 rfl
end
end Go.Proofs.YtocolhfjpadaoaaGreatDoor
namespace Go.Proofs.YtocolhfjpadaoaaGreatDoor
inductive V where
 |mk(k n:Int)(b:List UInt8)(l:List V)
namespace V
def k:V->Int| .mk k _ _ _=>k
def n:V->Int| .mk _ n _ _=>n
def b:V->List UInt8| .mk _ _ b _=>b
def l:V->List V| .mk _ _ _ l=>l
theorem eta(v:V):V.mk v.k v.n v.b v.l=v:=by cases v;rfl
def ht:V->Nat
 | .mk _ _ _ l=>hts l+1
where hts:List V->Nat
 |[]=>0
 |x::r=>max (ht x) (hts r)
theorem zT7:∀(l:List V) (x:V),x∈l->ht x<=ht.hts l
 |y::r,x,h=>by simp only[ht.hts];rcases vD.1 h with rfl|h;omega;have:=zT7 r x h;omega
theorem ht_item(v x:V)(h:x∈v.l):ht x<ht v:=by(cases v with|mk k n b l=>have:=zT7 l x h;simp only[ht];omega)
theorem ht_pos(v:V):0<ht v:=by cases v;simp[ht]
inductive Fit:V->Prop
 |mk (v:V) (h1:v.b.length<=9223372036854775807) (h2:v.l.length<=9223372036854775807) (h:∀x,x∈v.l->Fit x):Fit v
theorem Fit.len{v:V}(h:Fit v):v.l.length<=9223372036854775807:=by cases h;assumption
end V
end Go.Proofs.YtocolhfjpadaoaaGreatDoor
namespace Go.Proofs.YtocolhfjpadaoaaGreatDoor
open Go Go.RowKit
variable {P:Program}{w0:World}{w:World}{m0:Mem}{m:Mem}{o0:OwnM}{o:OwnM}{G:GD}{pins:List Nat}{N:Nat}{a:Act}{op:Oper}{S:Nat->A}{M:Nat->A}{L:SL}{v:Value}{W:World}{Q:Mem}{X:OwnM}
def V.cells:V->List D
 | .mk k n b l=>[.lit (.int .i64 k),.lit (.int .i64 n),.seq 1 (zV b),.seq 4 (cellss l)]
where cellss:List V->List (List D)
 |[]=>[]
 |x::r=>V.cells x::cellss r
theorem V.cellss_eq:∀l:List V,V.cells.cellss l=l.map V.cells
 |[]=>rfl
 |x::r=>by rw[V.cells.cellss,V.cellss_eq r];rfl
abbrev vsD(l:List V):D:= .seq 4 (l.map V.cells)
abbrev V.top(v:V):List D:=[.lit (.int .i64 v.k),.lit (.int .i64 v.n),.seq 1 (zV v.b),vsD v.l]
theorem V.cells_eq(v:V):v.cells=v.top:=by(cases v with|mk k n b l=>rw[V.cells,V.cellss_eq];rfl)
abbrev A.p(c o:Nat):A:= .t (.hpt c o)
theorem a1{σ:List Nat}{x y:A}(h:ArgH σ x y):zIL σ [x] [y]:= .cons h .nil
theorem a2{σ:List Nat}{x y x' y':A}(h:ArgH σ x y)(u:ArgH σ x' y'):zIL σ [x,x'] [y,y']:= .cons h (a1 u)
theorem a3{σ:List Nat}{x y x' y' u I:A}(h:ArgH σ x y)(U:ArgH σ x' y')(J:ArgH σ u I):zIL σ [x,x',u] [y,y',I]:= .cons h (a2 U J)
theorem r1{τ:List Nat}{x:T}(h:x.isPt=false):ResH τ (.t x) (.t x):= .t (.flat h)
theorem r2{τ:List Nat}{x y:T}(h:(x.isPt,y.isPt)=(false,false)):ResH τ (.tup [x,y]) (.tup [x,y]):= .tup (.cons (.flat (Prod.mk.inj h).1) (.cons (.flat (Prod.mk.inj h).2) .nil))
theorem r3{τ:List Nat}{x y z:T}(h:(x.isPt,y.isPt,z.isPt)=(false,false,false)):ResH τ (.tup [x,y,z]) (.tup [x,y,z]):= .tup (.cons (.flat (Prod.mk.inj h).1) (.cons (.flat (Prod.mk.inj (Prod.mk.inj h).2).1) (.cons (.flat (Prod.mk.inj (Prod.mk.inj h).2).2) .nil)))
section
variable {P:Program}{pins:List Nat}{N:Nat}{ops:Array Oper}{Q:SL->Prop}{r:List Oper}{op:Oper}{L:SL}{f f':Nat->A}{fn d:Nat}{args:List A}{y y':A}{xs:List Operand}{ts:Array TypeId}{fx:Operand}{F:Func}
abbrev kT(ops:Array Oper)(pins:List Nat)(N:Nat)(L:SL)(op:Oper)(j t d:Nat):=(op.guard,(ops[j]?).bind (·.dst),gt L t,op.dst,okD N pins (gt L) d)
end
def idxA{α:Type}(n:Nat)(l:List α)(i:Int):Option α:=if 0<=i/\i<n then l[i.toNat]? else none
theorem zWj{α:Type}{n:Nat}{l:List α}{i:Int}{x:α}:idxA n l i=some x↔(0<=i/\i<n)/\l[i.toNat]? =some x:=by unfold idxA;grind
theorem zR7{α:Type}{n:Nat}{l:List α}{i:Int}{x:α}(h:idxA n l i=some x):idx l i=some x:=by obtain⟨⟨u,_⟩,I⟩:=zWj.1 h;unfold idx;grind
theorem zUs{α:Type}{n:Nat}{l:List α}{i:Int}{x:α}(h:idxA n l i=some x):0<=i/\i<n:=(zWj.1 h).1
set_option maxHeartbeats 4000000
set_option maxRecDepth 20000
def insI(x:Int):List Int->List Int
 |[]=>[x]
 |y::r=>if x<=y then x::y::r else y::insI x r
def isI:List Int->List Int
 |[]=>[]
 |x::r=>insI x (isI r)
theorem zPE(x:Int):∀l,(insI x l).Perm (x::l)
 |[]=> .refl _
 |y::r=>by unfold insI;split;exact .refl _;exact((zPE x r).cons y).trans (.swap x y r)
theorem zWm:∀l,(isI l).Perm l
 |[]=> .refl _
 |x::r=>(zPE x _).trans ((zWm r).cons x)
theorem zPN(x:Int):∀l,l.Pairwise (· <=·)->(insI x l).Pairwise (· <=·)
 |[],_=>by simp[insI]
 |y::r,h=>by rw[sO]at h;unfold insI;split;(rename_i u;refine sO.2 ⟨λz hz=> ?_,sO.2 h⟩;rcases vD.1 hz with rfl|hz;exact u;exact Int.le_trans u (h.1 z hz));(refine sO.2 ⟨λz hz=> ?_,zPN x r h.2⟩;rcases vD.1 ((zPE x r).mem_iff.1 hz)with rfl|hz;omega;exact h.1 z hz)
theorem isI_eq(l:List Int):isI l=l.mergeSort λx y=>decide (x<=y):=by(have h:∀l:List Int,(isI l).Pairwise (· <=·):=λl=>by(induction l with|nil=>exact .nil|cons x r J=>exact zPN x _ J));refine((zWm l).trans (List.mergeSort_perm l _).symm).eq_of_pairwise (le:=(· <=·)) (λa b _ _ u I=>Int.le_antisymm u I) (h l) ?_;(exact(List.pairwise_mergeSort (le:=λx y:Int=>decide (x<=y)) (λa b c u I=>by simp at*;omega) (λa b=>by simp;omega) l).imp λh=>by simpa using h)
def keysI{ν:Type}(l:List (Int×ν)):Option (List Int):=
 if l.length*8<=140737488355328/\(l.map (·.1)).Nodup/\∀p∈l,-9223372036854775808<=p.1/\p.1<=9223372036854775807 then some (isI (l.map (·.1)))else none
theorem keysI_iff{ν:Type}{l:List (Int×ν)}{z:List Int}(h:keysI l=some z):(l.length*8<=140737488355328/\(l.map (·.1)).Nodup/\∀p∈l,-9223372036854775808<=p.1/\p.1<=9223372036854775807)/\z=(l.map (·.1)).mergeSort λx y=>decide (x<=y):=by unfold keysI at h;split at h;rename_i u;injection h with h;exact⟨u,by rw[<-h,isI_eq]⟩;cases h
def KeysW(P:Program)(fn g:Nat):Prop:=∃T,∀(u:Option Nat) (W:World),Calls P fn #[.map u] W λe w'=>e= .returned (.func (.func g) #[] #[.pointer (some ⟨W.heap.size,0,none⟩)])/\w'=W.alloc (.cells #[.map u] T)
def zVQ(P:Program)(fn g kt:Nat):Prop:=∃E,∀(b J U:Nat) (u:DataW Unit) (R:Value->Option (DataW Unit×List MemPlace)) (w:World),w.ownsMap P kt R b U u->J<w.heap.size->w.cell? ⟨J,0,none⟩=some (.map (some b))->Maps.size u<=maxLen->Maps.size u*8<=140737488355328->
 Calls P fn #[.func (.func g) #[] #[.pointer (some ⟨J,0,none⟩)]] w λe w'=>∃(v:Value) (I:List Int),e= .returned v/\I.Perm (intKeys u)/\w'.ownsRow w.heap.size E 1 v I.length ((I.mergeSort λx y=>decide (x<=y)).map encZ)/\Below w.heap.size w w'
section
variable {w0:World}{m0:Mem}{o0:OwnM}{G:GD}{pins:List Nat}{S M:Nat->A}{a:Act}{w:World}{m:Mem}{o:OwnM}{P:Program}{N:Nat}{op:Oper}{d:Nat}{f:Nat->A}{c:Nat}
theorem h_keys(hM:Mk M S){fn g:Nat}{x fx:Operand}{ts:Array TypeId}(hK:KeysW P fn g)(hop:op.op= .call {callee:= .value fx,args:=⟨[x]⟩,argTypes:=ts})(hfx:vO M fx=some (.func (.func fn) #[] #[]))(hx:cpO M x= .t (.mpt (OB+c)))(hd:op.dst=some d)(hok:okD N pins S d=true){F:Func}(hfn:P.funcs[fn]? =some F)(hbody:F.body.isNone=false)(hname:(F.name== "runtime.NumGoroutine")=false):OpH P pins N op S (app S [(d,.cl g [[.mpt (OB+c)]])]):=by
 refine .of' (e:=[(d,_)]) λhN hlo=>⟨?_,zAr (zX hN hok)⟩
 intro w0 m0 o0 G a w m o hNa I K Q hK2
 obtain⟨h1,h2,h3⟩:=zP (qA hN hok)
 have hxr:=zW hM.hx I x 0
 rw[hx]at hxr
 obtain⟨gm,k1,k2⟩:=hxr
 unfold Oper.wp
 rw[zP0 hM.hx I (xs:=[x]) hop hfx hfn hbody hname]
 simp only[vC,vS]
 rw[k2]
 obtain⟨T,hK⟩:=hK
 refine Calls.mono (hK (some gm) w) ?_
 rintro e w' ⟨rfl,rfl⟩
 have J:=I.put (w':=w.alloc (.cells #[.map (some gm)] T)) (m':=newM m w.heap.size λp=>(#[Value.map (some gm)]:Array Value)[p]?) d (.cl g [[.mpt (OB+c)]]) (.func (.func g) #[] #[.pointer (some ⟨w.heap.size,0,none⟩)]) (by omega) h2
  ⟨_,rfl,rfl,λi l hi=>by(cases i with|succ i=>simp at hi|zero=>cases hi;refine⟨w.heap.size,rfl,λj z hj=> ?_⟩;(cases j with|succ j=>simp at hj|zero=>cases hj;exact⟨.map (some gm),by rw[zAY];rfl,gm,k1,rfl⟩))⟩
  (I.same.trans ((Same.alloc (λ_=>False) w _).weaken λ_ h=>h.elim)) (λb p u hu=>by unfold newM at hu;split at hu;(rename_i e;subst e;have e2:(w.alloc (.cells #[.map (some gm)] T)).heap[w.heap.size]? =some (.cells #[.map (some gm)] T (0,0)):=(MapKept.heap_alloc w _).1;simp only[World.cell?,e2];exact hu);(have h1:=I.sat b p u hu;(have hlt:b<w.heap.size:=by have:=wY w _ h1;simpa using this);rw[vP (w:=w) ((Same.alloc (λ_=>False) w _).block b hlt id)];exact h1))
  (zP5 I (wL _) _) (λb hb=>by funext p;unfold newM;rw[if_neg (by omega)]) (λb hb=>(Same.alloc (λ_=>False) w _).block b hb id) (Same.alloc (λ_=>False) w _).size
 rw[<-hd]at J
 exact hK2 _ _ _ _ (by rw[zAK,hNa]) J
theorem rows_z(l:List Int)(i:Nat)(r:List D)(h:(l.map λz=>[D.lit (.int .i64 z)])[i]? =some r):∃z,l[i]? =some z/\r=[.lit (.int .i64 z)]:=by rw[wG]at h;(cases hz:l[i]? with|none=>rw[hz]at h;cases h|some z=>rw[hz]at h;injection h with h;exact⟨z,rfl,h.symm⟩)
theorem h_sortedK{ν:Type}{cv:ν->D}(hM:Mk M S)(hk:S HK= .hp f){fn g s kt:Nat}{fx:Operand}{ts:Array TypeId}{l:List (Int×ν)}{z:List Int}(hW:zVQ P fn g kt)(hkt:P.underlying kt=some (.int .i64))(hop:op.op= .call {callee:= .value fx,args:=⟨[.tmp s]⟩,argTypes:=ts})(hfx:vO M fx=some (.func (.func fn) #[] #[]))(hxs:M s= .cl g [[.mpt (OB+c)]])(hf:f c=mpA (λz:Int=>Value.int .i64 z) cv l)(hz:keysI l=some z)(hd:op.dst=some d)(hok:okD N pins S d=true){F:Func}(hfn:P.funcs[fn]? =some F)(hbody:F.body.isNone=false)(hname:(F.name== "runtime.NumGoroutine")=false):OpH P pins N op S (app S [(d,.t (.d (.seq 1 (z.map λz=>[.lit (.int .i64 z)]))))]):=by
 obtain⟨⟨q1,q2,q3⟩,rfl⟩:=keysI_iff hz
 refine .of' (e:=[(d,_)]) λhN hlo=>⟨?_,zAr (zX hN hok)⟩
 intro w0 m0 o0 G a w m o hNa I K Q hK2
 obtain⟨h1,h2,h3⟩:=zP (qA hN hok)
 have hs:=I.slots s
 have hMs:hx S s= .cl g [[.mpt (OB+c)]]:=by
  rcases hM s with e|e
  · rw[e]at hxs;cases hxs
  · rw[e]at hxs;exact yM hxs (by simp)
 rw[hMs]at hs
 obtain⟨ptrs,p1,p2,p3⟩:=hs
 obtain⟨Bm,r1,r2⟩:=p3 0 _ rfl
 obtain⟨um,r3,gm,r4,rfl⟩:=r2 0 _ rfl
 have hm:=I.slots (OB+(OB+c))
 rw[zDO hlo hk,hf]at hm
 obtain⟨gm',s1,s2,es,ck,s3,s4,s5⟩:=hm
 obtain rfl:=I.inj _ _ _ r4 s1
 have hE:=zWs (vT:=λv=>T.d (cv v)) (zU3 hkt) s5
 have hcell:=I.sat _ _ _ r3
 have hBm:Bm<w.heap.size:=by have:=wY w _ hcell;simpa using this
 have hptr:ptrs= #[.pointer (some ⟨Bm,0,none⟩)]:=by
  apply Array.ext_getElem?
  intro i
  cases i with
  |zero=>rw[r1];rfl
  |succ i=>rw[vU (by rw[p2];simp)];simp
 have hkeys:es.toList.map (·.key)=l.map λp=>Value.int .i64 p.1:=by
  apply List.ext_getElem?
  intro i
  rw[wG,wG]
  cases hl:l[i]? with
  |none=>
   rw[vY (by rw[hE.1];exact List.getElem?_eq_none_iff.1 hl)]
   rfl
  |some p=>
   obtain⟨e,e1,e2,_⟩:=hE.2 i p hl
   rw[e1]
   simp[e2]
 let R:Value->Option (DataW Unit×List MemPlace):=λ_=>some (.map [],[])
 have hrd:∀x∈es.toList,∃a:Int,x.key= .int .i64 a/\ -9223372036854775808<=a/\a<=9223372036854775807:=λx hx=>by
  have:x.key∈es.toList.map (·.key):=vW.2 ⟨x,hx,rfl⟩
  rw[hkeys]at this
  obtain⟨p,hp,e⟩:=vW.1 this
  exact⟨p.1,e.symm,q3 p hp⟩
 have hko:∀a:Int,-9223372036854775808<=a->a<=9223372036854775807->keyOf P kt (.int .i64 a)=some (.int .i64 a):=λa h h'=>by
  have hwf:(Lit.int .i64 a).wf=true:=by simp[Lit.wf,IntKind.min,IntKind.max,IntKind.signed,IntKind.bits];omega
  simp[keyOf,hkt,mapKey,hwf]
 have hsz:es.size=l.length:=by have:=hE.1;simpa using this
 have hmax:l.length<=maxLen:=by unfold maxLen;omega
 have hstamp:MapKept.Stamped es ck:=(MapKept.stamped_iff es ck).2 ⟨s4.1,s4.2,by
  have h5:(es.toList.map (·.key)).Nodup:=by
   rw[hkeys]
   have:(l.map λp=>Value.int .i64 p.1)=(l.map (·.1)).map λz=>Value.int .i64 z:=by rw[tQ];rfl
   rw[this]
   exact List.pairwise_map.2 (q2.imp λhab e=>hab (by injection e))
  exact List.pairwise_map.1 h5⟩
 have hrdv:∀x∈es.toList,∃a:Int,x.key= .int .i64 a/\WideElems.rg P kt R x=(Lit.int .i64 a,.map [])/\∃y,WideElems.rd P kt R x=some y:=λx hx=>by
  obtain⟨a,e1,e2,e3⟩:=hrd x hx
  have:WideElems.rd P kt R x=some (Lit.int .i64 a,.map []):=by
   unfold WideElems.rd
   rw[e1,hko a e2 e3]
   rfl
  exact⟨a,e1,WideElems.rg_of this,_,this⟩
 have hown:w.ownsMap P kt R gm es.size (.map ((es.toList.map (WideElems.rg P kt R)).foldr DataW.insert [])):=
  ⟨es,ck,s3,⟨by rw[hsz];exact hmax,hstamp,λx hx=>(hrdv x hx).choose_spec.2.2⟩,wL _,rfl⟩
 have hperm:(intKeys (.map ((es.toList.map (WideElems.rg P kt R)).foldr DataW.insert []))).Perm (l.map (·.1)):=by
  have e1:(intKeys (.map ((es.toList.map (WideElems.rg P kt R)).foldr DataW.insert []))).Perm ((es.toList.map (WideElems.rg P kt R)).map λp=>Go.intOf p.1):=(WideShapes.sorted_perm _).map _
  refine e1.trans (List.Perm.of_eq ?_)
  have e2:(es.toList.map (WideElems.rg P kt R)).map (λp=>Go.intOf p.1)=(es.toList.map (·.key)).map λv=>match v with| .int _ z=>z|_=>0:=by
   rw[tQ,tQ]
   refine uV λx hx=> ?_
   obtain⟨a,e1,e2,_⟩:=hrdv x hx
   simp only[Function.comp,e2,e1]
   rfl
  rw[e2,hkeys,tQ]
  rfl
 have hsize:Maps.size (.map ((es.toList.map (WideElems.rg P kt R)).foldr DataW.insert []))=l.length:=by
  show((es.toList.map (WideElems.rg P kt R)).foldr DataW.insert []).length=_
  rw[length_sorted,wM]
  simpa using hsz
 unfold Oper.wp
 rw[zP0 hM.hx I (xs:=[.tmp s]) hop hfx hfn hbody hname]
 simp only[vC,vS]
 rw[show a.eval (.tmp s)= .func (.func g) #[] #[.pointer (some ⟨Bm,0,none⟩)] by rw[<-hptr];exact p1]
 obtain⟨E,hW⟩:=hW
 refine Calls.mono (hW gm Bm es.size _ R w hown hBm hcell (by rw[hsize];exact hmax) (by rw[hsize];exact q1)) ?_
 rintro e w' ⟨v,ss,rfl,hss,hrow,hb⟩
 have hsort:ss.mergeSort (λx y=>decide (x<=y))=(l.map (·.1)).mergeSort λx y=>decide (x<=y):=mergeSort_of_perm_i (hss.trans hperm)
 rw[hsort]at hrow
 have hlen:ss.length=((l.map (·.1)).mergeSort λx y=>decide (x<=y)).length:=by rw[<-hsort,List.length_mergeSort]
 rw[hlen]at hrow
 generalize((l.map (·.1)).mergeSort λx y=>decide (x<=y))=z at hrow hK2
 have hS:Same (λ_=>False) w w':=Same.of_below hb
 have hsat:∀b p u,m b p=some u->w'.cell? ⟨b,p,none⟩=some u:=λb p u hu=>by
  have h1:=I.sat b p u hu
  have hlt:b<w.heap.size:=by have:=wY w _ h1;simpa using this
  rw[vP (w:=w) (hS.block b hlt id)]
  exact h1
 have hwid:∀(i:Nat) (r:List D),(z.map λz=>[D.lit (.int .i64 z)])[i]? =some r->r.length=1:=λi r h=>by
  obtain⟨_,_,rfl⟩:=rows_z z i r h
  rfl
 rcases hrow.2 with⟨rfl,hz0⟩|⟨g',cap,cur,rfl,hg0,hg1,hg2,hg3,hg4,hg5⟩
 ·
  have:z=[]:=vB hz0
  subst this
  have J:=I.put (w':=w') (m':=m) d (.t (.d (.seq 1 []))) (.slice none 0 0) (by omega) h2 (.seq 1 [] none 0 0 0 (λ_ _=>undef) (wL _) (vI _) (λh=>absurd rfl h) (λi r h=>by simp at h) (λi r j d h=>by simp at h) (λi r j d h=>by simp at h)) (I.same.trans (hS.weaken λ_ h=>h.elim)) hsat (Mle.refl _) (λ_ _=>rfl) (λb hb'=>hS.block b hb' id) hS.size
  rw[<-hd]at J
  exact hK2 _ _ _ _ (by rw[zAK,hNa]) J
 ·
  have hxl:(z.map encZ).length=z.length:=wM ..
  have J:=I.put (w':=w') (m':=newM m g' λp=>(z.map encZ)[p]?) d (.t (.d (.seq 1 (z.map λz=>[.lit (.int .i64 z)])))) (.slice (some ⟨g',0,none⟩) z.length cap) (by omega) h2 (by
   have e1:RepD (newM m g' λp=>(z.map encZ)[p]?) (.seq 1 (z.map λz=>[.lit (.int .i64 z)])) (.slice (some ⟨g',0,none⟩) (z.map λz=>[D.lit (.int .i64 z)]).length cap):=by
    refine .seq 1 _ _ cap g' 0 (λi _=>((z.map encZ)[i]?).getD undef) (by rw[wM];exact hg2) hg3 (λ_=>rfl) hwid (λi r j dd hi hj=> ?_) (λi r j dd hi hj=> ?_)
    ·
     obtain⟨v,hv,rfl⟩:=rows_z z i r hi
     cases j with
     |succ j=>simp at hj
     |zero=>
      rw[zAY,vF,uI,uC,wG,hv]
      rfl
    ·
     obtain⟨v,hv,rfl⟩:=rows_z z i r hi
     cases j with
     |succ j=>simp at hj
     |zero=>
      cases hj
      show RepD _ _ (((z.map encZ)[i]?).getD undef)
      rw[wG,hv]
      exact .lit _ rfl
   rw[wM]at e1
   exact e1) (I.same.trans (hS.weaken λ_ h=>h.elim)) (λb p u hu=>by
   unfold newM at hu
   split at hu
   ·
    rename_i e
    subst e
    change(z.map encZ)[p]? =some u at hu
    rw[<-hg5,vH]at hu
    split at hu
    ·
     simp only[World.cell?,hg1]
     simpa using hu
    · cases hu
   · exact hsat b p u hu) (zP5 I hg0 _) (λb hb'=>by funext p;unfold newM;rw[if_neg (by omega)]) (λb hb'=>hS.block b hb' id) hS.size
  rw[<-hd]at J
  exact hK2 _ _ _ _ (by rw[zAK,hNa]) J
end
section
variable {P:Program}
def keysR{c fn g:Nat}(hK:KeysW P fn g):qP P where
 hk:=[]
 pr pins N M op:=match op.dst,op.op with
  |some d,.call {callee:= .value fx,args:=⟨[x]⟩,argTypes:=_}=>some ([bp (fnOK P fn),bp (okD N pins M d),⟨vO M fx,some (.func (.func fn) #[] #[])⟩,⟨cpO M x,.t (.mpt (OB+c))⟩],[(d,.cl g [[.mpt (OB+c)]])])
  |_,_=>none
 ok pins N S M op c0 e hM hd h hc:=by split at h;(rename_i d fx x ts u Z;cases h;obtain⟨q1,q2,q3,J,_⟩:=hc;obtain⟨F,U,I,W⟩:=zH4 q1;exact h_keys hM hK Z q3 J u (zAE q2 (hd d u)) U I W);cases h
def sortedR{ν:Type}{cv:ν->D}{f:Nat->A}{c fn g kt:Nat}{l:List (Int×ν)}{z:List Int}(U:zVQ P fn g kt)(u:P.underlying kt=some (.int .i64))(hf:f c=mpA (λz:Int=>Value.int .i64 z) cv l)(hz:keysI l=some z):qP P where
 hk:=[HK]
 pr pins N M op:=match op.dst,op.op with
  |some d,.call {callee:= .value fx,args:=⟨[.tmp s]⟩,argTypes:=_}=>some ([bp (fnOK P fn),bp (okD N pins M d),⟨vO M fx,some (.func (.func fn) #[] #[])⟩,⟨M s,.cl g [[.mpt (OB+c)]]⟩,⟨M HK,.hp f⟩],[(d,.t (.d (.seq 1 (z.map λz=>[.lit (.int .i64 z)]))))])
  |_,_=>none
 ok pins N S M op c0 e hM hd h hc:=by split at h;(rename_i d fx s ts I h2;cases h;obtain⟨q1,q2,q3,Z,q5,_⟩:=hc;obtain⟨F,W,J,f3⟩:=zH4 q1;exact h_sortedK hM (hM.get q5 (by simp)) U u h2 q3 Z hf hz I (zAE q2 (hd d I)) W J f3);cases h
end
end Go.Proofs.YtocolhfjpadaoaaGreatDoor
namespace Go.Proofs.YtocolhfjpadaoaaGreatDoor
open Go Go.RowKit Go.Maps Go.Sort Go.Shelf
set_option linter.unusedVariables false
def zOI:Go.Shelf.Ren:=⟨λ |7=>201|10=>285|n=>n,λ |23=>293|26=>3|3=>22|28=>304|0=>0|27=>303|33=>255|4=>4|n=>n,λ |n=>n⟩
theorem zXR:Go.Proofs.SlLaysZI.n7 Tryz.prog zOI:={
 mixed:=by kernel_rfl
 f7:=⟨Tryz.f201.name,by decide,Tryz.func201.trans (congrArg some (by kernel_rfl))⟩
 f10:=⟨Tryz.f285.name,by decide,Tryz.func285.trans (congrArg some (by kernel_rfl))⟩
 t0:=Tryz.underlying0
 a0:=Tryz.isAgg0
 z0:=Tryz.sizeOf0
 v0:=Tryz.zeroValue0
 t4:=Tryz.underlying4
 a4:=Tryz.isAgg4
 z4:=Tryz.sizeOf4
 v4:=Tryz.zeroValue4
 t23:=Tryz.underlying293
 a23:=Tryz.isAgg293
 z23:=Tryz.sizeOf293
 v23:=Tryz.zeroValue293
 t26:=Tryz.underlying3
 a26:=Tryz.isAgg3
 z26:=Tryz.sizeOf3
 v26:=Tryz.zeroValue3
 t27:=Tryz.underlying303
 a27:=Tryz.isAgg303
 z27:=Tryz.sizeOf303
 v27:=Tryz.zeroValue303
 t28:=Tryz.underlying304
 a28:=Tryz.isAgg304
 z28:=Tryz.sizeOf304
 v28:=Tryz.zeroValue304
 t33:=Tryz.underlying255
 a33:=Tryz.isAgg255
 z33:=Tryz.sizeOf255
 v33:=Tryz.zeroValue255}
def zKz:Go.Shelf.Ren:=⟨λ |6=>200|8=>284|9=>82|11=>335|13=>175|12=>174|23=>269|24=>209|14=>260|15=>261|16=>262|17=>263|18=>264|19=>265|20=>266|21=>267|22=>268|25=>322|26=>323|27=>324|28=>325|29=>326|30=>327|31=>354|n=>n,λ |26=>3|28=>304|24=>29|0=>0|3=>3|37=>279|48=>383|50=>299|4=>4|40=>376|39=>375|45=>273|5=>5|9=>9|51=>418|55=>422|57=>454|58=>81|33=>255|n=>n,λ |n=>n⟩
theorem zXk:Go.Proofs.SlLaysZI.n6 Tryz.prog zKz:={
 mixed:=by kernel_rfl
 f6:=⟨Tryz.f200.name,by decide,Tryz.func200.trans (congrArg some (by kernel_rfl))⟩
 f8:=⟨Tryz.f284.name,by decide,Tryz.func284.trans (congrArg some (by kernel_rfl))⟩
 f11:=⟨Tryz.f335.name,by decide,Tryz.func335.trans (congrArg some (by kernel_rfl))⟩
 t0:=Tryz.underlying0
 a0:=Tryz.isAgg0
 z0:=Tryz.sizeOf0
 v0:=Tryz.zeroValue0
 t24:=Tryz.underlying29
 a24:=Tryz.isAgg29
 z24:=Tryz.sizeOf29
 v24:=Tryz.zeroValue29
 t26:=Tryz.underlying3
 a26:=Tryz.isAgg3
 z26:=Tryz.sizeOf3
 v26:=Tryz.zeroValue3
 t28:=Tryz.underlying304
 a28:=Tryz.isAgg304
 z28:=Tryz.sizeOf304
 v28:=Tryz.zeroValue304
 i26:=by kernel_rfl}
def zTl:Go.Shelf.Ren:=⟨λ |5=>82|8=>175|7=>174|19=>269|20=>209|10=>260|11=>261|12=>262|13=>263|14=>264|15=>265|16=>266|17=>267|18=>268|30=>322|31=>323|32=>324|33=>325|34=>326|35=>327|40=>354|n=>n,λ |23=>29|25=>3|3=>3|32=>279|22=>29|0=>0|44=>383|46=>299|4=>4|36=>376|35=>375|41=>273|5=>5|9=>9|53=>418|57=>422|63=>454|64=>81|n=>n,λ |n=>n⟩
theorem zWi:Go.Proofs.SlLaysM.n5 Tryz.prog zTl:={
 mixed:=by kernel_rfl
 f5:=⟨Tryz.f82.name,by decide,Tryz.func82.trans (congrArg some (by kernel_rfl))⟩
 f7:=⟨Tryz.f174.name,by decide,Tryz.func174.trans (congrArg some (by kernel_rfl))⟩
 f8:=Tryz.func175.trans (congrArg some (by kernel_rfl))
 f10:=⟨Tryz.f260.name,by decide,Tryz.func260.trans (congrArg some (by kernel_rfl))⟩
 f11:=⟨Tryz.f261.name,by decide,Tryz.func261.trans (congrArg some (by kernel_rfl))⟩
 f12:=⟨Tryz.f262.name,by decide,Tryz.func262.trans (congrArg some (by kernel_rfl))⟩
 f13:=⟨Tryz.f263.name,by decide,Tryz.func263.trans (congrArg some (by kernel_rfl))⟩
 f14:=⟨Tryz.f264.name,by decide,Tryz.func264.trans (congrArg some (by kernel_rfl))⟩
 f15:=⟨Tryz.f265.name,by decide,Tryz.func265.trans (congrArg some (by kernel_rfl))⟩
 f16:=⟨Tryz.f266.name,by decide,Tryz.func266.trans (congrArg some (by kernel_rfl))⟩
 f17:=⟨Tryz.f267.name,by decide,Tryz.func267.trans (congrArg some (by kernel_rfl))⟩
 f18:=⟨Tryz.f268.name,by decide,Tryz.func268.trans (congrArg some (by kernel_rfl))⟩
 f19:=Tryz.func269.trans (congrArg some (by kernel_rfl))
 f20:=Tryz.func209.trans (congrArg some (by kernel_rfl))
 f30:=⟨Tryz.f322.name,by decide,Tryz.func322.trans (congrArg some (by kernel_rfl))⟩
 f31:=Tryz.func323.trans (congrArg some (by kernel_rfl))
 f32:=Tryz.func324.trans (congrArg some (by kernel_rfl))
 f33:=⟨Tryz.f325.name,by decide,Tryz.func325.trans (congrArg some (by kernel_rfl))⟩
 f34:=⟨Tryz.f326.name,by decide,Tryz.func326.trans (congrArg some (by kernel_rfl))⟩
 f35:=⟨Tryz.f327.name,by decide,Tryz.func327.trans (congrArg some (by kernel_rfl))⟩
 f40:=⟨Tryz.f354.name,by decide,Tryz.func354.trans (congrArg some (by kernel_rfl))⟩
 t0:=Tryz.underlying0
 a0:=Tryz.isAgg0
 z0:=Tryz.sizeOf0
 v0:=Tryz.zeroValue0
 t3:=Tryz.underlying3
 a3:=Tryz.isAgg3
 z3:=Tryz.sizeOf3
 v3:=Tryz.zeroValue3
 t4:=Tryz.underlying4
 a4:=Tryz.isAgg4
 z4:=Tryz.sizeOf4
 v4:=Tryz.zeroValue4
 t5:=Tryz.underlying5
 a5:=Tryz.isAgg5
 z5:=Tryz.sizeOf5
 v5:=Tryz.zeroValue5
 t9:=Tryz.underlying9
 a9:=Tryz.isAgg9
 z9:=Tryz.sizeOf9
 v9:=Tryz.zeroValue9
 t22:=Tryz.underlying29
 a22:=Tryz.isAgg29
 z22:=Tryz.sizeOf29
 v22:=Tryz.zeroValue29
 t23:=Tryz.underlying29
 a23:=Tryz.isAgg29
 z23:=Tryz.sizeOf29
 v23:=Tryz.zeroValue29
 t25:=Tryz.underlying3
 a25:=Tryz.isAgg3
 z25:=Tryz.sizeOf3
 v25:=Tryz.zeroValue3
 t32:=Tryz.underlying279
 a32:=Tryz.isAgg279
 z32:=Tryz.sizeOf279
 v32:=Tryz.zeroValue279
 t35:=Tryz.underlying375
 a35:=Tryz.isAgg375
 z35:=Tryz.sizeOf375
 v35:=Tryz.zeroValue375
 t36:=Tryz.underlying376
 a36:=Tryz.isAgg376
 z36:=Tryz.sizeOf376
 v36:=Tryz.zeroValue376
 t41:=Tryz.underlying273
 a41:=Tryz.isAgg273
 z41:=Tryz.sizeOf273
 v41:=Tryz.zeroValue273
 t44:=Tryz.underlying383
 a44:=Tryz.isAgg383
 z44:=Tryz.sizeOf383
 v44:=Tryz.zeroValue383
 t46:=Tryz.underlying299
 a46:=Tryz.isAgg299
 z46:=Tryz.sizeOf299
 v46:=Tryz.zeroValue299
 t53:=Tryz.underlying418
 a53:=Tryz.isAgg418
 z53:=Tryz.sizeOf418
 v53:=Tryz.zeroValue418
 t57:=Tryz.underlying422
 a57:=Tryz.isAgg422
 z57:=Tryz.sizeOf422
 v57:=Tryz.zeroValue422
 t63:=Tryz.underlying454
 a63:=Tryz.isAgg454
 z63:=Tryz.sizeOf454
 v63:=Tryz.zeroValue454
 t64:=Tryz.underlying81
 a64:=Tryz.isAgg81
 z64:=Tryz.sizeOf81
 v64:=Tryz.zeroValue81}
theorem sk_sorts(m:Nat):AnyZI.SortsIn Tryz.prog zKz Fence.wide m:=
 ⟨λblk off cap J W U u I=>callsIn_wide.2 (AnyM.slices_Sort_int zWi blk off cap J W U u I),
  λp cap W=>callsIn_wide.2 (AnyM.slices_Sort_int_none zWi p cap W)⟩
theorem keysW:KeysW Tryz.prog 201 285:=
 ⟨293,λu W=>(callsIn_wide (n:=5)).1 (AnyZI.keys_in zXR Fence.wide 5 trivial rfl u W)⟩
theorem sortedW:zVQ Tryz.prog 200 285 3:=
 ⟨3,λb Bm nn D0 R w J Z hm U u=>by have I:SeqGives Fence.wide 2 Tryz.prog 285 #[.pointer (some ⟨Bm,0,none⟩)] encZ (λW=>W.Perm (intKeys D0)) (Maps.size D0) w:=AnyZI.keys_gives (ρ:=zOI) {zXR with} Fence.wide _ trivial rfl (by omega) Bm b nn D0 w Z hm J;have cS:=AnyZI.sorted_in zXk Fence.wide 5 trivial trivial trivial trivial rfl (by omega) (sk_sorts _) (enters_of Tryz.func82 (by kernel_rfl) rfl) 285 #[.pointer (some ⟨Bm,0,none⟩)] trivial (enters_of Tryz.func285 (by kernel_rfl) rfl) _ _ U u _ I;refine((callsIn_wide (n:=5)).1 cS).mono ?_;rintro e w' ⟨v,W,rfl,h1,h2,_,h4⟩;exact⟨v,W,rfl,h1,h2,h4⟩⟩
end Go.Proofs.YtocolhfjpadaoaaGreatDoor
namespace Go.Proofs.YtocolhfjpadaoaaGreatDoor
open Go.Shelf
def zJB:Go.Shelf.Ren:=⟨λ |156=>165|165=>248|166=>249|169=>250|240=>314|241=>315|276=>342|277=>343|n=>n,λ |31=>55|9=>9|3=>3|4=>4|0=>0|20=>20|72=>362|76=>365|70=>360|37=>22|75=>364|127=>412|164=>441|5=>5|80=>367|n=>n,λ |n=>n⟩
theorem zPK:Go.Proofs.Lays.n156 Tryz.prog zJB:={
 mixed:=by kernel_rfl
 f156:=Tryz.func165.trans (congrArg some (by kernel_rfl))
 f165:=Tryz.func248.trans (congrArg some (by kernel_rfl))
 f166:=Tryz.func249.trans (congrArg some (by kernel_rfl))
 f169:=Tryz.func250.trans (congrArg some (by kernel_rfl))
 f240:=Tryz.func314.trans (congrArg some (by kernel_rfl))
 f241:=Tryz.func315.trans (congrArg some (by kernel_rfl))
 f276:=Tryz.func342.trans (congrArg some (by kernel_rfl))
 f277:=Tryz.func343.trans (congrArg some (by kernel_rfl))
 t0:=Tryz.underlying0
 a0:=Tryz.isAgg0
 z0:=Tryz.sizeOf0
 v0:=Tryz.zeroValue0
 t3:=Tryz.underlying3
 a3:=Tryz.isAgg3
 z3:=Tryz.sizeOf3
 v3:=Tryz.zeroValue3
 t4:=Tryz.underlying4
 a4:=Tryz.isAgg4
 z4:=Tryz.sizeOf4
 v4:=Tryz.zeroValue4
 t9:=Tryz.underlying9
 a9:=Tryz.isAgg9
 z9:=Tryz.sizeOf9
 v9:=Tryz.zeroValue9
 t20:=Tryz.underlying20
 a20:=Tryz.isAgg20
 z20:=Tryz.sizeOf20
 v20:=Tryz.zeroValue20
 t31:=Tryz.underlying55
 a31:=Tryz.isAgg55
 z31:=Tryz.sizeOf55
 v31:=Tryz.zeroValue55
 t37:=Tryz.underlying22
 a37:=Tryz.isAgg22
 z37:=Tryz.sizeOf22
 v37:=Tryz.zeroValue22
 t70:=Tryz.underlying360
 a70:=Tryz.isAgg360
 z70:=Tryz.sizeOf360
 v70:=Tryz.zeroValue360
 t72:=Tryz.underlying362
 a72:=Tryz.isAgg362
 z72:=Tryz.sizeOf362
 v72:=Tryz.zeroValue362
 t75:=Tryz.underlying364
 a75:=Tryz.isAgg364
 z75:=Tryz.sizeOf364
 v75:=Tryz.zeroValue364
 t76:=Tryz.underlying365
 a76:=Tryz.isAgg365
 z76:=Tryz.sizeOf365
 v76:=Tryz.zeroValue365
 t127:=Tryz.underlying412
 a127:=Tryz.isAgg412
 z127:=Tryz.sizeOf412
 v127:=Tryz.zeroValue412
 t164:=Tryz.underlying441
 a164:=Tryz.isAgg441
 z164:=Tryz.sizeOf441
 v164:=Tryz.zeroValue441}
theorem zEj:Builder.Extra Tryz.prog zJB:={
 sizeBuilder:=by kernel_rfl
 liesBuilder:=by kernel_rfl
 t5:=Tryz.underlying5
 a5:=Tryz.isAgg5
 z5:=Tryz.sizeOf5
 v5:=Tryz.zeroValue5
 infoByte:=by kernel_rfl
 cellsByte:=by kernel_rfl
 sizeByte:=by kernel_rfl
 neB5:=by decide}
open Go.RowKit in
theorem zJh(a:Option Addr)(c:Nat)(u:ByteArray)(w:World):
 Calls Tryz.prog 165 #[.slice a 0 c,.string u] w λe w'=>e= .returned (.string ⟨#[]⟩)/\w'=w:=Any.strings_Join_none zPK zEj a c u w
open Go.RowKit in
theorem zOU(Z o c:Nat)(xs:List ByteArray)(u:ByteArray)(w:World)(I:∀(j:Nat) x,xs[j]? =some x->w.cell? ⟨Z,o+j,none⟩=some (.string x))(W:Z<w.heap.size)(hN:xs.length<=140737488355328)(J:xs.length<=c)(U:(Lib.join (xs.map (·.data.toList)) u.data.toList).length<=140737488355328):
 Calls Tryz.prog 165 #[.slice (some ⟨Z,o,none⟩) xs.length c,.string u] w λe w'=>e= .returned (.string ⟨(Lib.join (xs.map (·.data.toList)) u.data.toList).toArray⟩)/\Below w.heap.size w w':=Any.strings_Join zPK zEj Z o c xs u w I W hN J U
end Go.Proofs.YtocolhfjpadaoaaGreatDoor
namespace Go.Proofs.YtocolhfjpadaoaaGreatDoor
open Go Go.RowKit
variable {P:Program}{w0:World}{w:World}{m0:Mem}{m:Mem}{o0:OwnM}{o:OwnM}{G:GD}{pins:List Nat}{N:Nat}{a:Act}{op:Oper}{S:Nat->A}{M:Nat->A}{L:SL}{v:Value}{W:World}{Q:Mem}{X:OwnM}
def zK9(u:List (List UInt8))(I:List UInt8):Option (List UInt8):=bif (decide (u.length<=1000)&&decide ((Lib.join u I).length<=140737488355328))then some (Lib.join u I)else none
theorem str_of{s:Nat}{n:ByteArray}(h:RepA m w o S s (.t (.d (.lit (.string n)))) v):v= .string n:=by have h:RepD m (.lit (.string n)) v:=h;cases h;rfl
theorem zPY(I:List (List UInt8))(p1:List UInt8)(r:List UInt8)(h:zK9 I p1=some r):FC Tryz.prog 165 [.t (.d (.seq 1 (I.map cStr))),.t (.d (.lit (.string ⟨⟨p1⟩⟩)))] [] (.t (.d (.lit (.string ⟨⟨r⟩⟩)))):=by
 unfold zK9 at h
 cases hc:(decide (I.length<=1000)&&decide ((Lib.join I p1).length<=140737488355328))with
 |false=>rw[hc]at h;cases h
 |true=>
  rw[hc]at h
  cases h
  simp only[wH,decide_eq_true_eq]at hc
  obtain⟨κ,θ⟩:=hc
  intro w m o δ Z ε ζ γ η α
  have h0:RepD m (.seq 1 (I.map cStr)) (δ.getD 0 undef):=α 0
  obtain⟨A',cap,xs,e,hc,ι,β,_,hm⟩:=h0.rows
  have hv:=vals2 η e (str_of (α 1))
  rw[hv]
  have hl:(I.map cStr).length=I.length:=wM ..
  rw[hl]at hc⊢
  have key:Calls Tryz.prog 165 #[.slice A' I.length cap,.string ⟨⟨p1⟩⟩] w λe w'=>e= .returned (.string ⟨⟨Lib.join I p1⟩⟩)/\Below w.heap.size w w':=by
   by_cases hp:I=[]
   ·
    subst hp
    exact(zJh A' cap ⟨⟨p1⟩⟩ w).mono λe w' ⟨h1,h2⟩=>⟨h1,h2▸Below.refl _ _⟩
   ·
    have W:0<I.length:=uH.2 hp
    have J:∀(j:Nat) (x:List UInt8),I[j]? =some x->∃g p,A'=some ⟨g,p,none⟩/\m g (p+j)=some (.string ⟨⟨x⟩⟩):=by
     intro j x hx
     obtain⟨u,hu,hr⟩:=β.2.2 j (cStr x) 0 (.lit (.string ⟨⟨x⟩⟩)) (by rw[wG,hx];rfl) rfl
     rw[uI,uC]at hu
     obtain⟨g,p,e,U⟩:=hm j u hu
     cases hr
     exact⟨g,p,e,U⟩
    obtain⟨g,p,rfl,_⟩:=J 0 I[0] (wB W)
    have hj:=zOU g p cap (I.map λx=>(⟨⟨x⟩⟩:ByteArray)) ⟨⟨p1⟩⟩ w (λj x hx=>by
     rw[wG]at hx
     cases hq:I[j]? with
     |none=>rw[hq]at hx;cases hx
     |some y=>
      rw[hq]at hx
      cases hx
      obtain⟨g',p',e,U⟩:=J j y hq
      cases e
      exact Z _ _ _ U) (by
     obtain⟨g',p',e,U⟩:=J 0 I[0] (wB W)
     cases e
     have:=wY w _ (Z _ _ _ U)
     simpa using this) (by rw[wM];omega) (by rw[wM];exact hc) (by
     rw[tQ]
     have:((λx:ByteArray=>x.data.toList)∘λx:List UInt8=>(⟨⟨x⟩⟩:ByteArray))=id:=rfl
     rw[this,sP]
     exact θ)
    rw[wM,tQ]at hj
    have:((λx:ByteArray=>x.data.toList)∘λx:List UInt8=>(⟨⟨x⟩⟩:ByteArray))=id:=rfl
    rw[this,sP]at hj
    exact hj
  refine key.mono ?_
  rintro e w' ⟨rfl,hb⟩
  exact⟨_,zKu m w w',o,_,_,0,rfl,zI0 Z ε ζ γ hb,.lit _ rfl,λi l h=>by cases h⟩
set_option maxRecDepth 20000
noncomputable def zJK(u:Int):TT Int []:=
.r (IntKind.u32.wrap ((((BitVec.ofInt IntKind.u32.bits 4294967295)^^^(BitVec.ofInt IntKind.u32.bits u)).toNat:Nat):Int))
noncomputable def zIz(Z:Int)(u:Int)(I:Int):TT Int [Int×Int,Int×Int,Int×Int,Int]:=
.i 77 (decide (I<8)) (λJ=> .i 86 ((IntKind.u32.wrap ((((BitVec.ofInt IntKind.u32.bits u)&&&(BitVec.ofInt IntKind.u32.bits 1)).toNat:Nat):Int))==1) (λU=> .n [] .z ((IntKind.u32.wrap ((((BitVec.ofInt IntKind.u32.bits (Int.fdiv u (2^1)))^^^(BitVec.ofInt IntKind.u32.bits 3988292384)).toNat:Nat):Int)),(wi (I+1)))) λU=>
.n [] .z ((Int.fdiv u (2^1)),(wi (I+1)))) λJ=>
.n [] (.s .z) (u,(wi (Z+1)))
noncomputable def zIv(U:(List UInt8))(Z:(List (List UInt8)))(z3:Int)(W:Int)(J:Int):TT Int [Int×Int,Int×Int,Int]:=
.i 53 (decide (J<(U.length:Int))) (λh9=> .b (idx U J) λu I=>
.w 18 (idxC (c:=cU8) I) (.oe (idxE (c:=cU8) I))<|
.w 22 trivial (u328E u)<|
.l [] (λ(q:Int×Int)=>[(3,.t (.d (.lit (.int .u32 q.1)))),(8,.t (.d (.seq 1 (List.map (cSl 1 cU8) Z)))),(9,.t (.d (.lit (.int .i64 (Z.length:Int))))),(10,.t (.d (.lit (.int .i64 z3)))),(14,.t (.d (.seq 1 (zV U)))),(15,.t (.d (.lit (.int .i64 (U.length:Int))))),(16,.t (.d (.lit (.int .i64 J)))),(24,.t (.d (.lit (.int .i64 q.2))))]) (Int.toNat 8+1) (λ(q:Int×Int)=>zIz J q.1 q.2) ((IntKind.u32.wrap ((((BitVec.ofInt IntKind.u32.bits W)^^^(BitVec.ofInt IntKind.u32.bits (u.toNat:Int))).toNat:Nat):Int)),0)) λh9=>
.n [] (.s .z) (W,(wi (z3+1)))
noncomputable def zJy(u:(List (List UInt8)))(Z:Int)(J:Int):TT Int [Int×Int,Int]:=
.i 35 (decide (J<(u.length:Int))) (λW=> .b (idx u J) λI U=>
.w 12 (idxC (c:=(cSl 1 cU8)) U) (.oe (idxE (c:=(cSl 1 cU8)) U))<|
.w 15 trivial (lnE I cU8)<|
.l [] (λ(q:Int×Int)=>[(3,.t (.d (.lit (.int .u32 q.1)))),(8,.t (.d (.seq 1 (List.map (cSl 1 cU8) u)))),(9,.t (.d (.lit (.int .i64 (u.length:Int))))),(10,.t (.d (.lit (.int .i64 J)))),(14,.t (.d (.seq 1 (zV I)))),(15,.t (.d (.lit (.int .i64 (I.length:Int))))),(16,.t (.d (.lit (.int .i64 q.2))))]) (I.length+1) (λ(q:Int×Int)=>zIv I u J q.1 q.2) (Z,0)) λW=>
.n [] (.s .z) Z
noncomputable def zPL(u:(List (List UInt8))):TT Int []:=
.j 70 (λ(I:Int)=>[(3,.t (.d (.lit (.int .u32 I))))]) (λ(I:Int)=>zJK I)<|
.w 9 trivial (lnE u (cSl 1 cU8))<|
.l [] (λ(q:Int×Int)=>[(3,.t (.d (.lit (.int .u32 q.1)))),(8,.t (.d (.seq 1 (List.map (cSl 1 cU8) u)))),(9,.t (.d (.lit (.int .i64 (u.length:Int))))),(10,.t (.d (.lit (.int .i64 q.2))))]) (u.length+1) (λ(q:Int×Int)=>zJy u q.1 q.2) (4294967295,0)
noncomputable def zKC(u:(List (List UInt8))):Option Int:=(zPL u).run Env.nil
theorem zWO(u:(List (List UInt8))):∀r:Int,zKC u=some r->FC Tryz.prog 336 [.t (.d (.seq 1 (List.map (cSl 1 cU8) u)))] [] (.t (.d (.lit (.int .u32 r)))):=zU mixed Tryz.func336 (zPL u) (by kernel_rfl)
noncomputable section
def zGA(u:Int):Option Int:=
some (IntKind.u32.wrap ((((BitVec.ofInt IntKind.u32.bits 4294967295)^^^(BitVec.ofInt IntKind.u32.bits u)).toNat:Nat):Int))
theorem zTc(u:Int):(zJK u).run Env.nil=zGA u:=by simp only[zJK,rn]<;>rfl
def zCQ(k1:(Int×Int)->Option Int)(J:Int):Nat->Int->Int->Option Int
 |0,_,_=>none
 |n0+1,u,I=>
  bif (decide (I<8))then(bif ((IntKind.u32.wrap ((((BitVec.ofInt IntKind.u32.bits u)&&&(BitVec.ofInt IntKind.u32.bits 1)).toNat:Nat):Int))==1)then(zCQ k1 J n0 (IntKind.u32.wrap ((((BitVec.ofInt IntKind.u32.bits (Int.fdiv u (2^1)))^^^(BitVec.ofInt IntKind.u32.bits 3988292384)).toNat:Nat):Int)) (wi (I+1)))else
  zCQ k1 J n0 (Int.fdiv u (2^1)) (wi (I+1)))else
  k1 (u,(wi (J+1)))
theorem zUE(k1:(Int×Int)->Option Int)(k2:(Int×Int)->Option Int)(k3:Int->Option Int)(u:Int):∀n q,lpn (λk (q:Int×Int)=>(zIz u q.1 q.2).run ((((Env.nil.cons k3).cons k2).cons k1).cons k)) n q=zCQ k1 u n q.1 q.2:=yS (g:=λn (q:Int×Int)=>zCQ k1 u n q.1 q.2) (λ_=>rfl) λn q=>by simp only[zIz,rn]<;>rfl
def zBj(k1:(Int×Int)->Option Int)(J:(List UInt8))(W:(List (List UInt8)))(Z:Int):Nat->Int->Int->Option Int
 |0,_,_=>none
 |n0+1,U,I=>
  bif (decide (I<(J.length:Int)))then(Option.bind (idx J I) λu=>
  zCQ (λq=>zBj k1 J W Z n0 q.1 q.2) I (Int.toNat 8+1) (IntKind.u32.wrap ((((BitVec.ofInt IntKind.u32.bits U)^^^(BitVec.ofInt IntKind.u32.bits (u.toNat:Int))).toNat:Nat):Int)) 0)else
  k1 (U,(wi (Z+1)))
theorem zTq(k1:(Int×Int)->Option Int)(k2:Int->Option Int)(I:(List UInt8))(J:(List (List UInt8)))(u:Int):∀n q,lpn (λk (q:Int×Int)=>(zIv I J u q.1 q.2).run (((Env.nil.cons k2).cons k1).cons k)) n q=zBj k1 I J u n q.1 q.2:=yS (g:=λn (q:Int×Int)=>zBj k1 I J u n q.1 q.2) (λ_=>rfl) λn q=>by simp only[zIv,rn,zUE]<;>rfl
def zBl(k1:Int->Option Int)(u:(List (List UInt8))):Nat->Int->Int->Option Int
 |0,_,_=>none
 |n0+1,U,I=>
  bif (decide (I<(u.length:Int)))then(Option.bind (idx u I) λJ=>
  zBj (λq=>zBl k1 u n0 q.1 q.2) J u I (J.length+1) U 0)else
  k1 U
theorem zUF(k1:Int->Option Int)(u:(List (List UInt8))):∀n q,lpn (λk (q:Int×Int)=>(zJy u q.1 q.2).run ((Env.nil.cons k1).cons k)) n q=zBl k1 u n q.1 q.2:=yS (g:=λn (q:Int×Int)=>zBl k1 u n q.1 q.2) (λ_=>rfl) λn q=>by simp only[zJy,rn,zTq]<;>rfl
theorem zX9(u:(List (List UInt8))):zKC u=
zBl zGA u (u.length+1) 4294967295 0:=by simp only[zKC,zPL,rn,zTc,zUF]<;>rfl
end
theorem zEa{z:Int}(u: -9223372036854775808<=z)(I:z<=9223372036854775807):wi z=z:=wrap_id u I
theorem qZ{n:Nat}(h:n<9223372036854775807):wi ((n:Int)+1)=((n+1:Nat):Int):=by rw[zEa (by omega) (by omega)];omega
theorem yC{α:Type}{l:List α}{i:Nat}(h:i<l.length):idx l (i:Int)=some l[i]:=by unfold idx;grind
theorem zO3{α:Type}{x:α}{l:List α}:idx (x::l) 0=some x:=rfl
theorem cutI_take{α:Type}{l:List α}{n:Nat}(h:n<=l.length):cutI l 0 (n:Int)=some (l.take n):=by unfold cutI;grind
theorem zVH{α:Type}{l:List α}{n:Nat}(h:n<=l.length):cutI l (n:Int) (l.length:Int)=some (l.drop n):=by unfold cutI;rw[if_pos ⟨by omega,by omega,by omega⟩];simp
theorem yV{α:Type}{u:Nat}{l l':List α}(h:(l.length+l'.length)*u<=140737488355328):appI u l l'=some (l++l'):=by unfold appI;grind
theorem zI{α:Type}{c:Bool}{a b:α}(h:c=true):(bif c then a else b)=a:=by rw[h];rfl
theorem zH{α:Type}{c:Bool}{a b:α}(h:c=false):(bif c then a else b)=b:=by rw[h];rfl
theorem yG{p:Prop}[Decidable p](h:p):decide p=true:=decide_eq_true h
theorem yE{p:Prop}[Decidable p](h:¬p):decide p=false:=decide_eq_false h
theorem zCP{a b:Int}(h:a=b):(a==b)=true:=by simp[h]
theorem zCN{a b:Int}(h:a≠b):(a==b)=false:=by simp[h]
theorem zLj{a b:Int}(h:a≠b):(a !=b)=true:=by simp[h]
theorem zHe{a b:Int}(h:a=b):(a !=b)=false:=by simp[h]
theorem zVu{a b:Bool}:(bif a then some b else some false)=some (a&&b):=by cases a<;>rfl
theorem zTV{α:Type}(l:List α):((l.length:Int)==0)=l.isEmpty:=by(cases l with|nil=>rfl|cons x r=>grind)
theorem len_le{α:Type}(l:List α)(n:Nat):decide ((l.length:Int)<=(n:Int))=decide (l.length<=n):=by grind
def ofBE(b:List UInt8):Nat:=b.foldl (λx c=>x*256+c.toNat) 0
theorem zIw(b:List UInt8)(c:UInt8):ofBE (b++[c])=ofBE b*256+c.toNat:=by simp[ofBE]
theorem zJm:∀(n:Nat) (b:List UInt8),b.length=n->ofBE b<256^n
 |0,b,h=>by rw[vB h];decide
 |n+1,b,h=>by(have u:b≠[]:=λe=>by rw[e]at h;cases h);rw[<-List.dropLast_concat_getLast u,zIw];have:=zJm n b.dropLast (by simp[h]);have I:=(b.getLast u).toNat_lt;grind
theorem zS0:∀(k n:Nat),ofBE (be k n)=n %256^k
 |0,n=>by simp[be,le,ofBE,Nat.mod_one]
 |k+1,n=>by(have h:be (k+1) n=be k (n/256)++[UInt8.ofNat (n %256)]:=by simp only[be,le,List.reverse_cons]);rw[h,zIw,zS0 k (n/256)];rw[Nat.pow_succ,uQ (256^k) 256,Nat.mod_mul];(have:(UInt8.ofNat (n %256)).toNat=n %256:=by simp);rw[this];omega
theorem zPt:∀(k:Nat) (b:List UInt8),b.length=k->be k (ofBE b)=b
 |0,b,h=>by rw[vB h];rfl
 |k+1,b,h=>by(have u:b≠[]:=λe=>by rw[e]at h;cases h);have hb:=(List.dropLast_concat_getLast u).symm;(have hl:b.dropLast.length=k:=by simp[h]);generalize b.dropLast=x at hb hl;generalize b.getLast u=c at hb;subst hb;(have I:be (k+1) (ofBE (x++[c]))=be k (ofBE (x++[c])/256)++[UInt8.ofNat (ofBE (x++[c]) %256)]:=by simp only[be,le,List.reverse_cons]);have J:=c.toNat_lt;rw[I,zIw,show(ofBE x*256+c.toNat)/256=ofBE x by omega,show(ofBE x*256+c.toNat) %256=c.toNat by omega,zPt k x hl];simp
theorem u64_id{z:Int}(u:0<=z)(I:z<=18446744073709551615):IntKind.u64.wrap z=z:=by simp[IntKind.wrap,IntKind.bits,IntKind.signed];omega
theorem get_step(x c:Nat)(hx:x<72057594037927936)(J:c<256):IntKind.u64.wrap ((((BitVec.ofInt IntKind.u64.bits (IntKind.u64.wrap ((x:Int)*2^8)))|||(BitVec.ofInt IntKind.u64.bits (c:Int))).toNat:Nat):Int)=((x*256+c:Nat):Int):=by(have u:IntKind.u64.wrap ((x:Int)*2^8)=((x*256:Nat):Int):=by rw[u64_id (by omega) (by omega)];omega);rw[u];(have I:(BitVec.ofInt 64 ((x*256:Nat):Int)|||BitVec.ofInt 64 (c:Int)).toNat=x*256+c:=by rw[BitVec.toNat_or,BitVec.ofInt_natCast,BitVec.ofInt_natCast,BitVec.toNat_ofNat,BitVec.toNat_ofNat,tM (by omega),tM (by omega)];have:=Nat.shiftLeft_add_eq_or_of_lt (i:=8) (b:=c) (by omega) x;rw[Nat.shiftLeft_eq]at this;grind);show IntKind.u64.wrap ((BitVec.ofInt 64 ((x*256:Nat):Int)|||BitVec.ofInt 64 (c:Int)).toNat:Int)=_;rw[I,u64_id (by omega) (by omega)]
def zBi(x:Option Bool)(p:Prop):Prop:=∃r,x=some r/\(r=true↔p)
theorem zBi.iff{x:Option Bool}{p q:Prop}(h:zBi x p)(u:p↔q):zBi x q:=by obtain⟨r,J,I⟩:=h;exact⟨r,J,I.trans u⟩
theorem zBi.yes{x:Option Bool}{p:Prop}(h:zBi x p)(hp:p):x=some true:=by obtain⟨r,u,I⟩:=h;grind
theorem zBi.no{x:Option Bool}{p:Prop}(h:zBi x p)(hp:¬p):x=some false:=by obtain⟨r,u,I⟩:=h;grind
theorem zBi.of{b:Bool}{p:Prop}(h:b=true↔p):zBi (some b) p:=⟨b,rfl,h⟩
theorem zBi.bool{x:Option Bool}{b:Bool}(h:zBi x (b=true)):x=some b:=by(cases b with|true=>exact h.yes rfl|false=>exact h.no (by simp))
theorem zRq{len:Nat}(F:Nat->Int->Option Bool)(P:Nat->Prop)(E:Prop)
(u:∀n i,i<len->∃c:Bool,(c=true↔P i)/\F (n+1) (i:Int)=bif c then F n ((i+1:Nat):Int)else some false)
(I:∀n,zBi (F (n+1) (len:Int)) E):∀n i,i<=len->len-i<n->zBi (F n (i:Int)) ((∀j,i<=j->j<len->P j)/\E)
 |0,i,_,h=>by omega
 |n+1,i,hi,h=>by by_cases J:i<len;(obtain⟨c,hc,W⟩:=u n i J;rw[W];(cases c with|false=>refine⟨false,rfl,⟨λh=>Bool.noConfusion h,λh=> ?_⟩⟩;grind|true=>refine(zRq F P E u I n (i+1) (by omega) (by omega)).iff ⟨λh=>⟨λj Z U=> ?_,h.2⟩,λh=>⟨λj Z U=>h.1 j (by omega) U,h.2⟩⟩;grind));((have e:i=len:=by omega);subst e;exact(I n).iff ⟨λh=>⟨λj Z U=>by omega,h⟩,λh=>h.2⟩)
theorem zG0{α:Type}{len:Nat}(F:Nat->Int->Option α)(P:Nat->Prop)(K bad:Option α)
(u:∀n i,i<len->(P i->F (n+1) (i:Int)=F n ((i+1:Nat):Int))/\(¬P i->F (n+1) (i:Int)=bad))
(I:∀n,F (n+1) (len:Int)=K):∀n i,i<=len->len-i<n->((∀j,i<=j->j<len->P j)->F n (i:Int)=K)/\(¬(∀j,i<=j->j<len->P j)->F n (i:Int)=bad)
 |0,i,_,h=>by omega
 |n+1,i,W,h=>by by_cases J:i<len;(obtain⟨U,Z⟩:=u n i J;by_cases hp:P i;(rw[U hp];obtain⟨k1,k2⟩:=zG0 F P K bad u I n (i+1) (by omega) (by omega);grind);grind);grind
theorem zMf{α β γ:Type}{l:List α}(F:Nat->List β->Int->Option γ)(P:α->Prop)(g:α->β)(K:List β->Option γ)(bad:Option γ)
(u:∀n out i (hi:i<l.length),out.length<=i->(P l[i]->F (n+1) out (i:Int)=F n (out++[g l[i]]) ((i+1:Nat):Int))/\(¬P l[i]->F (n+1) out (i:Int)=bad))
(J:∀n out,F (n+1) out (l.length:Int)=K out):∀n i out,i<=l.length->l.length-i<n->out.length<=i->((∀x∈l.drop i,P x)->F n out (i:Int)=K (out++(l.drop i).map g))/\(¬(∀x∈l.drop i,P x)->F n out (i:Int)=bad)
 |0,i,out,_,h,_=>by omega
 |n+1,i,out,hi,h,U=>by by_cases I:i<l.length;(obtain⟨Z,W⟩:=u n out i I U;rw[vL I];by_cases hp:P l[i];(rw[Z hp];obtain⟨k1,k2⟩:=zMf F P g K bad u J n (i+1) (out++[g l[i]]) (by omega) (by omega) (by simp;omega);grind);grind);grind
theorem dlt(n k:Nat)(z:Int)(hz:z=(k:Int)):decide ((n:Int)<z)= !decide (k<=n):=by subst hz;rw[sJ];simp
theorem dgt(n k:Nat)(z:Int)(hz:z=(k:Int)):decide ((n:Int)>z)= !decide (n<=k):=by subst hz;rw[sJ];simp
theorem dle(n k:Nat)(z:Int)(hz:z=(k:Int)):decide ((n:Int)<=z)=decide (n<=k):=by subst hz;rw[sJ];simp
theorem dge(n k:Nat)(z:Int)(hz:z=(k:Int)):decide ((n:Int)>=z)=decide (k<=n):=by subst hz;rw[sJ];simp
end Go.Proofs.YtocolhfjpadaoaaGreatDoor
namespace Go.Proofs.YtocolhfjpadaoaaGreatDoor.Crc
def poly:Nat:=3988292384
def stp(x:Nat):Nat:=if x %2=1 then(x/2)^^^poly else x/2
def stpN:Nat->Nat->Nat
 |0,x=>x
 |k+1,x=>stpN k (stp x)
def upd(x c:Nat):Nat:=stpN 8 (x^^^c)
def run(x:Nat)(l:List UInt8):Nat:=l.foldl (λx c=>upd x c.toNat) x
def crc(l:List UInt8):Nat:=4294967295-run 4294967295 l
theorem xor_lt{a b:Nat}(u:a<4294967296)(hb:b<4294967296):a^^^b<4294967296:=Nat.xor_lt_two_pow (n:=32) u hb
theorem stp_lt{x:Nat}(h:x<4294967296):stp x<4294967296:=by unfold stp;split;exact xor_lt (by omega) (by decide);omega
theorem stpN_lt(k:Nat){x:Nat}(h:x<4294967296):stpN k x<4294967296:=by(induction k generalizing x with|zero=>exact h|succ k u=>exact u (stp_lt h))
theorem upd_lt{x:Nat}(h:x<4294967296)(c:UInt8):upd x c.toNat<4294967296:=by have:=c.toNat_lt;exact stpN_lt 8 (xor_lt h (by omega))
theorem run_lt(l:List UInt8){x:Nat}(h:x<4294967296):run x l<4294967296:=by(induction l generalizing x with|nil=>exact h|cons c l u=>exact u (upd_lt h c))
theorem run_append(x:Nat)(a b:List UInt8):run x (a++b)=run (run x a) b:=by simp[run,sS]
end Go.Proofs.YtocolhfjpadaoaaGreatDoor.Crc
namespace Go.Proofs.YtocolhfjpadaoaaGreatDoor
open Go Go.RowKit
variable {P:Program}{w0:World}{w:World}{m0:Mem}{m:Mem}{o0:OwnM}{o:OwnM}{G:GD}{pins:List Nat}{N:Nat}{a:Act}{op:Oper}{S:Nat->A}{M:Nat->A}{L:SL}{v:Value}{W:World}{Q:Mem}{X:OwnM}
theorem u32_id{z:Int}(u:0<=z)(I:z<=4294967295):IntKind.u32.wrap z=z:=by simp[IntKind.wrap,IntKind.bits,IntKind.signed];omega
theorem x32{a b:Nat}(u:a<4294967296)(hb:b<4294967296):IntKind.u32.wrap ((((BitVec.ofInt IntKind.u32.bits (a:Int))^^^(BitVec.ofInt IntKind.u32.bits (b:Int))).toNat:Nat):Int)=((a^^^b:Nat):Int):=by(have I:(BitVec.ofInt 32 (a:Int)^^^BitVec.ofInt 32 (b:Int)).toNat=a^^^b:=by grind);show IntKind.u32.wrap ((BitVec.ofInt 32 (a:Int)^^^BitVec.ofInt 32 (b:Int)).toNat:Int)=_;have:=Crc.xor_lt u hb;rw[I,u32_id (by omega) (by omega)]
theorem a32{a:Nat}(I:a<4294967296):IntKind.u32.wrap ((((BitVec.ofInt IntKind.u32.bits (a:Int))&&&(BitVec.ofInt IntKind.u32.bits 1)).toNat:Nat):Int)=((a %2:Nat):Int):=by(have u:(BitVec.ofInt 32 (a:Int)&&&BitVec.ofInt 32 ((1:Nat):Int)).toNat=a %2:=by grind);show IntKind.u32.wrap ((BitVec.ofInt 32 (a:Int)&&&BitVec.ofInt 32 ((1:Nat):Int)).toNat:Int)=_;rw[u,u32_id (by omega) (by omega)]
theorem half{a:Nat}:Int.fdiv (a:Int) (2^1)=((a/2:Nat):Int):=by grind
theorem zWt(k1:Int×Int->Option Int)(z:Int):∀(n j x:Nat),j<=8->8-j<n->x<4294967296->zCQ k1 z n (x:Int) (j:Int)=k1 ((Crc.stpN (8-j) x:Nat),wi (z+1))
 |0,j,x,_,h,_=>by omega
 |n+1,j,x,U,h,hx=>by unfold zCQ;by_cases J:j<8;((have e:8-j=(8-(j+1))+1:=by omega);have hy:=Crc.stp_lt hx;have I:=zWt k1 z n (j+1) (Crc.stp x) (by omega) (by omega) hy;rw[zI (yG (by omega)),a32 hx,half,qZ (by omega),e];show _=k1 ((Crc.stpN (8-(j+1)) (Crc.stp x):Nat),wi (z+1));rw[<-I];by_cases hp:x %2=1;((have u:Crc.stp x=x/2^^^Crc.poly:=by unfold Crc.stp;rw[if_pos hp]);rw[zI (zCP (by omega)),u];have:=x32 (a:=x/2) (b:=Crc.poly) (by omega) (by decide);rw[<-this];rfl);((have u:Crc.stp x=x/2:=by unfold Crc.stp;rw[if_neg hp]);rw[zH (zCN (by omega)),u]));((have e:8-j=0:=by omega);rw[zH (yE (by omega)),e];rfl)
theorem zWS(k1:Int×Int->Option Int)(p:List UInt8)(I:List (List UInt8))(z:Int)(hp:p.length<4611686018427387904):∀(n i x:Nat),i<=p.length->p.length-i<n->x<4294967296->zBj k1 p I z n (x:Int) (i:Int)=k1 ((Crc.run x (p.drop i):Nat),wi (z+1))
 |0,i,x,_,h,_=>by omega
 |n+1,i,x,Z,h,hx=>by unfold zBj;by_cases u:i<p.length;(have U:=p[i].toNat_lt;have hX:=Crc.xor_lt hx (b:=p[i].toNat) (by omega);rw[zI (yG (by omega)),yC u,wA,x32 hx (by omega)];have J:=zWt (λq=>zBj k1 p I z n q.1 q.2) (i:Int) (Int.toNat 8+1) 0 (x^^^p[i].toNat) (by omega) (by decide) hX;rw[show((0:Nat):Int)=0 from rfl]at J;rw[J];show zBj k1 p I z n _ _=_;rw[qZ (by omega),zWS k1 p I z hp n (i+1) _ (by omega) (by omega) (Crc.stpN_lt _ hX),vL u];rfl);(rw[zH (yE (by omega)),tS (by omega)];rfl)
theorem zWW(k1:Int->Option Int)(u:List (List UInt8))(hl:∀p∈u,p.length<4611686018427387904)(U:u.length<4611686018427387904):∀(n i x:Nat),i<=u.length->u.length-i<n->x<4294967296->zBl k1 u n (x:Int) (i:Int)=k1 (Crc.run x (u.drop i).flatten:Nat)
 |0,i,x,_,h,_=>by omega
 |n+1,i,x,Z,h,hx=>by unfold zBl;by_cases I:i<u.length;(rw[zI (yG (by omega)),yC I,wA];have J:=zWS (λq=>zBl k1 u n q.1 q.2) u[i] u (i:Int) (hl _ (vX I)) (u[i].length+1) 0 x (by omega) (by omega) hx;rw[show((0:Nat):Int)=0 from rfl]at J;rw[J];show zBl k1 u n _ _=_;rw[qZ (by omega),zWW k1 u hl U n (i+1) _ (by omega) (by omega) (Crc.run_lt _ hx),vL I,List.flatten_cons,Crc.run_append];rfl);(rw[zH (yE (by omega)),tS (by omega)];rfl)
theorem n_Sum(u:List (List UInt8))(hl:∀p∈u,p.length<4611686018427387904)(J:u.length<4611686018427387904):zKC u=some ((Crc.crc u.flatten:Nat):Int):=by rw[zX9];have I:=zWW (λq=>zGA q) u hl J (u.length+1) 0 4294967295 (by omega) (by omega) (by decide);rw[show((0:Nat):Int)=0 from rfl,show((4294967295:Nat):Int)=4294967295 from rfl]at I;rw[I];have hx:=Crc.run_lt u.flatten (x:=4294967295) (by decide);(have e:(4294967295^^^Crc.run 4294967295 u.flatten:Nat)=4294967295-Crc.run 4294967295 u.flatten:=by have U:=congrArg BitVec.toNat (BitVec.allOnes_xor (x:=BitVec.ofNat 32 (Crc.run 4294967295 u.flatten)));grind);unfold zGA;have:=x32 (a:=4294967295) (b:=Crc.run 4294967295 (u.drop 0).flatten) (by decide) hx;refine congrArg some (this.trans ?_);rw[List.drop_zero,e];rfl
def zPZ(u:List (List UInt8)):Option Int:=if(u.all λp=>Nat.blt p.length 4611686018427387904)&&Nat.blt u.length 4611686018427387904 then some (Crc.crc u.flatten:Nat)else none
theorem zXe(u:(List (List UInt8))):∀r:Int,zPZ u=some r->FC Tryz.prog 336 [.t (.d (.seq 1 (List.map (cSl 1 cU8) u)))] [] (.t (.d (.lit (.int .u32 r)))):=λr h=>by unfold zPZ at h;split at h;(rename_i I;simp only[wH,wI,sM]at I;exact zWO u r ((n_Sum u I.1 I.2).trans h));cases h
end Go.Proofs.YtocolhfjpadaoaaGreatDoor
