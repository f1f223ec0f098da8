/-
  Lemmas of this claim, joined.
-/
import Derived.Test.YtocolhfjpadaoaaGreatDoorR03
set_option linter.unusedVariables false
set_option linter.unusedSimpArgs false
set_option linter.constructorNameAsVariable false
namespace Go.Proofs.YtocolhfjpadaoaaGreatDoor
open Go
abbrev vN:=@List.getElem?_set_ne
abbrev uD:=@List.drop_eq_getElem_cons
abbrev sO:=@List.any_eq_true
abbrev sZ:=@List.getElem?_cons_succ
end Go.Proofs.YtocolhfjpadaoaaGreatDoor
namespace Go.Proofs.YtocolhfjpadaoaaGreatDoor
open Go Go.RowKit
variable {P:Program}{w0:World}{w:World}{m0:Mem}{m:Mem}{o0:OwnM}{o:OwnM}{G:GD}{pins:List Nat}{N:Nat}{a:Act}{op:Oper}{S:Nat->A}{M:Nat->A}{L:SL}{v:Value}{W:World}{Q:Mem}{X:OwnM}
def boxH:Nat->List A->SL
 |_,[]=>[]
 |i,x::r=>(OB+i,x)::boxH (i+1) r
def zGh(fr:List Nat)(args:List A)(ins:List A)(f:Nat->A):SL:=(HK,.hp f)::(frL fr++(boxH 0 ins++zCr 0 args))
theorem zP8(ins:List A)(L:SL):∀(i s:Nat),gt (boxH i ins++L) s=if OB+i<=s/\s<OB+i+ins.length then(match ins[s-OB-i]? with|some x=>x|none=> .any)else gt L s:=by(induction ins with|nil=>intro i s;rw[if_neg (by simp)];rfl|cons l r I=>intro i s;show gt ((OB+i,l)::(boxH (i+1) r++L)) s=_;rw[zR,upd,I (i+1) s];by_cases h:s=OB+i;(subst h;rw[if_pos rfl,if_pos ⟨by omega,by simp⟩];simp);(rw[if_neg h];by_cases u:OB+i<=s/\s<OB+i+(l::r).length;(rw[if_pos u,if_pos ⟨by omega,by have:=u.2;simp at this;omega⟩];rw[show s-OB-i=(s-OB-(i+1))+1 by omega,sZ]);rw[if_neg u,if_neg (by intro J;exact u ⟨by omega,by simp;omega⟩)]))
theorem zRm(fr:List Nat)(args:List A)(ins:List A)(f:Nat->A)(hn:args.length<=OB)(I:ins.length<OB)(u:fr.all (λj=>Nat.ble ins.length j)=true)(s:Nat)(hs:s<OB2):gt (frL fr++(boxH 0 ins++zCr 0 args)) s=argH args ins f s\/(gt (frL fr++(boxH 0 ins++zCr 0 args)) s= .any/\argH args ins f s= .free):=by(induction fr with|nil=>show gt (boxH 0 ins++zCr 0 args) s=_\/(gt (boxH 0 ins++zCr 0 args) s= .any/\_);unfold argH;by_cases h:s<OB;(refine .inl ?_;rw[zP8,zMB,if_neg (by omega),if_pos (uF _),if_pos h];rfl);(by_cases U:s<OB+ins.length;(refine .inl ?_;rw[zP8,if_pos ⟨by omega,by omega⟩,if_neg h,if_neg (by omega)];grind);(refine .inr ⟨show gt (boxH 0 ins++zCr 0 args) s= .any from ?_,?_⟩;(rw[zP8,zMB,if_neg (by omega),if_pos (uF _)];unfold argS;grind);grind))|cons j r J=>simp only[uV,wI]at u;show gt ((OB+j,.free)::(frL r++(boxH 0 ins++zCr 0 args))) s=_\/(gt ((OB+j,.free)::(frL r++(boxH 0 ins++zCr 0 args))) s=_/\_);rw[zR,upd];by_cases h:s=OB+j;(rw[if_pos h];refine .inl ?_;have:=wZ u.1;unfold argH;grind);grind)
def outH(L:SL):Nat->List A->Prop
 |_,[]=>True
 |i,x::r=>gt L (OB+i)=x/\outH L (i+1) r
theorem zQa:∀{outs:List A} {i:Nat},outH L i outs->∀(k:Nat) (l:A),outs[k]? =some l->gt L (OB+(i+k))=l
 |[],_,_,k,l,h=>by simp at h
 |x::r,i,h,k,l,hk=>by(cases k with|zero=>injection hk with hk;subst hk;exact h.1|succ k=>rw[show i+(k+1)=i+1+k by omega];exact zQa h.2 k l (by simpa using hk))
def endH(P:Program)(rs:List ResultVar)(outs:List A)(f':Nat->A)(r:A):Exit->SL->Prop
 | .normal,L| .ret,L=>(∃y,resA P (gt L) rs=some y/\WkA y r)/\outH L 0 outs/\gt L HK= .hp f'
 |_,_=>False
section
variable {P:Program}{w0:World}{m0:Mem}{o0:OwnM}{G:GD}{pins:List Nat}{a:Act}{w:World}{m:Mem}{o:OwnM}
theorem zTA(I:Inv w0 m0 o0 G pins S a w m o){fn:Func}{rs:List ResultVar}(J:fn.results=rs.toArray)(Z:(match rs with|[.tmp t]=>Nat.blt t OB|_=>true)=true){y:A}(h:resA P S rs=some y):
 ∃v ρ,(results fn a.tmps).run P w= .ok v w/\RepA m w o S ρ y v/\ρ<OB:=by
 have W:0<OB:=by decide
 have U:∀l,rs.mapM (resT P S)=some l->rs.length≠1->∃v ρ,(results fn a.tmps).run P w= .ok v w/\RepA m w o S ρ (.tup l) v/\ρ<OB:=by intro l hl β;obtain⟨u,h5,h6,h8,h7⟩:=zQV (P:=P) I 0 rs l 1 hl;(have α:u.length≠1:=by omega);refine⟨.tuple u.toArray,0,?_,⟨u.toArray,rfl,by simpa using h6,λj x hj=> ?_⟩,W⟩;(show(do let u<-fn.results.mapM (resS a.tmps);pure (if h:u.size=1 then u[0]else .tuple u):Sem Value).run P w=_;rw[J,wE,List.mapM_toArray,Sem.run_map,h5,wD,wD,wU];grind);grind
 have one:∀r x,rs=[r]->resT P S r=some x->∃v ρ,(results fn a.tmps).run P w= .ok v w/\RepA m w o S ρ (.t x) v/\ρ<OB:=by intro r x e hx;subst e;obtain⟨v,h3,h4⟩:=zPs (P:=P) I hx (0,0);refine⟨v,0,?_,h4,W⟩;show(do let u<-fn.results.mapM (resS a.tmps);pure (if h:u.size=1 then u[0]else .tuple u):Sem Value).run P w=_;rw[J,wE,List.mapM_toArray,Sem.run_map,List.mapM_cons,wE,h3];simp
 unfold resA at h
 split at h
 · rename_i t;cases h;exact⟨_,t,results_tmp J _ _ _,I.slots t,by simpa using Z⟩
 · rename_i r _;(cases hx:resT P S r with|none=>grind|some x=>grind)
 · rename_i h1 h2;(cases hx:rs.mapM (resT P S)with|none=>grind|some l=>rw[hx]at h;cases h;refine U l hx λe=> ?_;(match rs,e with|[r],_=>grind))
theorem zUW{k:Nat}(h:k<OB):DK∉zGn k:=λu=>by obtain⟨i,I,e⟩:=vQ.1 u;have:=tS.1 I;unfold DK at e;unfold OB at h e;omega
theorem fch_inv(fr:List Nat){F:Func}{args:List A}{ins:List A}{f:Nat->A}(ν:args.length<=F.ntmps)(hw:F.ntmps<=OB)(ε:ins.length<OB)(I:fr.all (λj=>Nat.ble ins.length j)=true)(Z:fr.all (λj=>Nat.blt j OB)=true){vals:Array Value}(ζ:∀b p u,m b p=some u->w.cell? ⟨b,p,none⟩=some u)(η:Mle TBL m)(ι:∀g l,o g=some l->g<w.heap.size)(γ:∀g g' l,o g=some l->o g'=some l->g=g')(δ:vals.size=args.length)
  (J:∀s,RepA m w o (argH args ins f) s (argH args ins f s) (vals.getD s undef)):
  Low (gt (zGh fr args ins f))/\(vals++Array.replicate (F.ntmps-vals.size) undef).size=F.ntmps/\Inv w m o ⟨λg=>o g≠none,[]⟩ (zGn ins.length) (hx (gt (zGh fr args ins f))) {tmps:=vals++Array.replicate (F.ntmps-vals.size) undef,defers:=[]} w m o:=by
 have W:Low (gt (frL fr++(boxH 0 ins++zCr 0 args))):=by
  intro t ht
  have κ:Low (gt (boxH 0 ins++zCr 0 args)):=by
   intro t ht
   rw[zP8,if_neg (by unfold OB OB2 at*;omega)]
   exact zPf (fr:=[]) ν hw rfl t ht
  clear J
  induction fr with
  |nil=>exact κ t ht
  |cons j r ih=>
   simp only[uV,wI]at Z I
   show gt ((OB+j,.free)::(frL r++(boxH 0 ins++zCr 0 args))) t=_
   have h1:j<OB:=by simpa using Z.1
   rw[zR,zE (by unfold OB OB2 at*;omega)]
   exact ih I.2 Z.2
 have U:Low (gt (zGh fr args ins f)):=by
  show Low (gt ((HK,.hp f)::_))
  rw[zR]
  exact W.upd zNg
 have α:gt (zGh fr args ins f) HK= .hp f:=by show gt ((HK,.hp f)::_) HK=_;rw[zR,zT]
 refine⟨U,?_,?_⟩
 · simp[δ];omega
 ·
  have β:∀g j,o g=some (OB+j,0)->OB+j∈zGn ins.length\/OB2<=OB+j:=by
   intro g j h
   by_cases h2:OB2<=OB+j
   · exact .inr h2
   ·
    by_cases h3:j<ins.length
    · exact .inl (vQ.2 ⟨j,tS.2 h3,rfl⟩)
    ·
     exfalso
     have hs:=J (OB+j)
     have e:argH args ins f (OB+j)= .free:=by unfold argH;rw[if_neg (by omega),if_neg h2,wP,uI (by omega)]
     rw[e]at hs
     exact hs g 0 h
  refine⟨Same.refl _ _,ζ,Mle.refl _,λ_ _ _=>rfl,λg l h=> .inl (by show o g≠none;rw[h];simp),ι,γ,λs hs g hg=>hg,λs=> ?_,rfl,η,by simp[δ];omega,λg j h=>⟨β g j h,zBc.refl w g⟩⟩
  have θ:(vals++Array.replicate (F.ntmps-vals.size) undef).getD s undef=vals.getD s undef:=by
   simp only[wM,Array.getElem?_append,tL]
   by_cases h:s<vals.size
   · simp[h]
   ·
    rw[if_neg h,uE (by omega)]
    split<;>rfl
  show RepA m w o (hx (gt (zGh fr args ins f))) s (hx (gt (zGh fr args ins f)) s) ((vals++Array.replicate (F.ntmps-vals.size) undef).getD s undef)
  rw[θ]
  rcases wY s OB2 with hs2|hs2
  ·
   rw[zDY hs2]
   by_cases e:s=HK
   ·
    subst e
    rw[α]
    trivial
   ·
    have he:gt (zGh fr args ins f) s=gt (frL fr++(boxH 0 ins++zCr 0 args)) s:=by show gt ((HK,.hp f)::_) s=_;rw[zR,zE e]
    rw[he]
    rcases zRm fr args ins f (by omega) ε I s hs2 with e1|⟨e1,_⟩
    ·
     rw[e1]
     have h:=J s
     refine h.turn λb l hb=> ?_
     rcases wY b OB2 with hb2|hb2
     ·
      rw[zDY hb2]
      have μ:b≠HK:=λe=>by
       subst e
       unfold argH at hb
       rw[if_neg (by unfold HK OB;omega),if_neg (by unfold HK OB2;omega),uI (by unfold HK;unfold OB at*;omega)]at hb
       cases hb
      refine⟨l,?_⟩
      show gt ((HK,.hp f)::_) b=_
      rw[zR,zE μ]
      rcases zRm fr args ins f (by omega) ε I b hb2 with e2|⟨_,e2⟩
      · rw[e2,hb]
      · rw[hb]at e2;cases e2
     ·
      obtain⟨c,rfl⟩:∃c,b=OB+(OB+c):=⟨b-OB2,by rw[<-yK];omega⟩
      have e:argH args ins f (OB+(OB+c))=san (f c):=by
       unfold argH
       rw[if_neg (by omega),if_pos hb2,<-yK,wP]
      rw[zE6 U α,<-e,hb]
      exact⟨l,rfl⟩
    · rw[e1];trivial
  ·
   obtain⟨c,rfl⟩:∃c,s=OB+(OB+c):=⟨s-OB2,by rw[<-yK];omega⟩
   rw[zE6 U α]
   have h:=J (OB+(OB+c))
   have e:argH args ins f (OB+(OB+c))=san (f c):=by
    unfold argH
    rw[if_neg (by omega),if_pos hs2,<-yK,wP]
   rw[e]at h
   rcases zEu (f c)with⟨l,hl⟩|hl|hl|⟨l,hl⟩|⟨b,u,mE,oE,hl⟩
   · rw[hl]at h⊢;exact h
   · rw[hl]at h⊢;exact h
   · rw[hl];trivial
   · rw[hl]at h⊢;exact h
   · rw[hl]at h⊢;exact h
theorem fch_mk(fr:List Nat){fn:FuncId}{F:Func}{c:Code}{args:List A}{rs:List ResultVar}{ins outs:List A}{f f':Nat->A}{r:A}{n:Nat}(hf:P.funcs[fn]? =some F)(hb:F.body=some c)(hn:F.ntmps=n)(φ:args.length<=n)(ζ:F.results=rs.toArray)
(J:(zGn ins.length,Nat.ble n OB,fr.all (λj=>Nat.ble ins.length j&&Nat.blt j OB),Nat.blt ins.length OB&&Nat.blt outs.length OB,(match rs with|[.tmp t]=>Nat.blt t OB|_=>true))=(pins,true,true,true,true))(hL:zGh fr args ins f=L)(hc:qK P pins n c (endH P rs outs f' r) L):FCH P fn args ins outs f f' r:=by
 injection J with J W
 injection W with W Z
 injection Z with Z U
 injection U with U τ
 have W:=wZ W
 simp only[wI]at U
 have κ:ins.length<OB:=by simpa using U.1
 have ψ:outs.length<OB:=by simpa using U.2
 have γ:fr.all (λj=>Nat.ble ins.length j)=true:=wG.2 λj hj=>by have:=wG.1 Z j hj;simp only[wI]at this;exact this.1
 have δ:fr.all (λj=>Nat.blt j OB)=true:=wG.2 λj hj=>by have:=wG.1 Z j hj;simp only[wI]at this;exact this.2
 subst hn J hL
 intro w m o χ η θ μ β π ι
 obtain⟨α,ν,I0⟩:=fch_inv fr φ W κ γ δ η θ μ β π ι
 refine calls_of_wp hf hb (wpIn_wide.1 (wpIn_mono (hc Fence.wide 0 ⟨.wide,λ_=>rfl⟩ w m o ⟨λg=>o g≠none,[]⟩ _ w ⟨ν,α,m,o,I0⟩) ?_))
 · rintro e a' w' ⟨L',hq,hS⟩;obtain⟨hN,ε,m',o',I⟩:=hS.st (zUW κ);(have fin:((∃y,resA P (gt L') rs=some y/\WkA y r)/\outH L' 0 outs/\gt L' HK= .hp f')->a'.defers=[]/\∃v,(results F a'.tmps).run P w'= .ok v w'/\∃(u:Value) (m':Mem) (o':OwnM) (S':Nat->A) (a':Act) (ρ:Nat),Ending.returned v= .returned u/\Inv w m o ⟨λg=>o g≠none,[]⟩ (zGn ins.length) S' a' w' m' o'/\RepA m' w' o' S' ρ r u/\(∀(i:Nat) (x:A),outs[i]? =some x->S' (OB+i)=x)/\(∀c,S' (OB+(OB+c))=san (f' c))/\ρ<OB:=by rintro⟨⟨y,hy,W⟩,ho,hk⟩;obtain⟨y',σ,ξ⟩:=zSQ hy;obtain⟨v,ρ,h1,h2,h3⟩:=zTA (P:=P) I ζ τ σ;refine⟨I.defers,v,h1,v,m',o',hx (gt L'),a',ρ,rfl,I,W.rep I.sat (by rcases ξ with rfl|rfl;exact h2;exact trivial),λi l h=> ?_,λc=>zE6 ε hk c,h3⟩;have hi:=(wB.1 h).1;have:=zQa ho i l h;rw[vJ]at this;rw[zDY (by unfold OB OB2 at*;omega),this]);cases e<;>first|exact fin hq|exact hq.elim
end
section
variable {P:Program}{pins:List Nat}{N:Nat}{S M:Nat->A}{op:Oper}{e:Eff}{d c:Nat}{f f':Nat->A}
theorem OpH.of'(h:N<=OB->Low S->OpOK P pins N op (hx S) (app (hx S) e)/\zPy S e):OpH P pins N op S (app S e):=
 λJ hl=>by obtain⟨I,u⟩:=h J hl;rw[hx_app u];exact⟨I,hl.app u⟩
theorem OpOK.hkpost{J:Nat->A}(h:OpOK P pins N op S J)(hk:J HK= .hp f):OpOK P pins N op S (upd J HK (.hp f')):=
 λW m0 X G a w m o hN I K Q Z=>h W m0 X G a w m o hN I K Q λU w' m' o' u I'=>Z U w' m' o' u (I'.hk hk f')
theorem zJy{s t:Nat}{x y:A}(h:s≠t):upd (upd S s x) t y=upd (upd S t y) s x:=by funext k;unfold upd;grind
theorem zCJ{x:A}(hd:d<OB2)(hk:d≠HK):hx (upd S d x)=upd (hx S) d x:=by funext t;by_cases e:t=d;(subst e;rw[zDY hd,zT,zT]);(rw[zE e];unfold hx;rw[zE e,zE (Ne.symm hk)])
theorem h_put{l':List T}(hk:S HK= .hp f)(u:f'=updF f c (.box l'))(h:N<=OB->Low S->OpOK P pins N op (hx S) (upd (hx S) (OB+(OB+c)) (.box l'))):OpH P pins N op S (app S [(HK,.hp f')]):=by subst u;intro I hl;refine⟨?_,hl.upd zNg⟩;show OpOK P pins N op (hx S) (hx (upd S HK _));rw[zTI hl hk rfl];refine(h I hl).hkpost (f:=f) ?_;rw[zE (by unfold HK OB;omega)];exact zBq hk (by simp)
theorem h_mk{l':List T}{x:A}(hk:S HK= .hp f)(U:f'=updF f c (.box l'))(J:okD N pins S d=true)(h:N<=OB->Low S->OpOK P pins N op (hx S) (app (hx S) [(OB+(OB+c),.box l'),(d,x)])):OpH P pins N op S (app S [(HK,.hp f'),(d,x)]):=by subst U;intro Z hl;have I:=qG Z J;(have u:d≠HK:=by unfold HK;unfold OB at I;omega);refine⟨?_,(hl.upd zNg).upd (lt2 I)⟩;show OpOK P pins N op (hx S) (hx (upd (upd S HK _) d x));rw[zCJ (lt2 I) u,zTI hl hk rfl,zJy (Ne.symm u)];refine(h Z hl).hkpost (f:=f) ?_;show upd (upd (hx S) (OB+(OB+c)) _) d x HK=_;rw[zE (Ne.symm u),zE (by unfold HK OB;omega)];exact zBq hk (by simp)
theorem zSC(hl:Low S)(hk:S HK= .hp f)(hf:f c= .free):hx S (OB+(OB+c))= .free:=by rw[zE6 hl hk,hf];rfl
theorem zOL{l:List T}(hl:Low S)(hk:S HK= .hp f)(hf:f c= .box l):hx S (OB+(OB+c))= .box l:=by rw[zE6 hl hk,hf];rfl
theorem h_fd(U:Mk M S){off t k q:Nat}{x:Operand}{y:A}(I:op.op= .fieldAddr t x k)(hx:cpO M x= .t (.hpt c off))(hq:fdH P t k=some q)(hy:A.t (.hpt c (off+q))=y)(hd:op.dst=some d)(u:okD N pins S d=true):OpH P pins N op S (app S [(d,y)]):=by subst hy;exact .of λJ=>⟨ok_hfd U.hx I hx hq hd (qR J u),zBz (qG J u)⟩
theorem h_ix(U:Mk M S){off E k n t:Nat}{x i:Operand}{Z:IntKind}{z:Int}{y:A}(I:op.op= .indexAddr t x i)(hx:cpO M x= .t (.hvw c off E k n))(hi:vO M i=some (.int Z z))(hq:ixH P t=some (none,k))(hz:0<=z/\z<n)(hy:A.t (.hpt c (off+z.toNat*k))=y)(hd:op.dst=some d)(u:okD N pins S d=true):OpH P pins N op S (app S [(d,y)]):=by subst hy;exact .of λJ=>⟨ok_hix U.hx I hx hi hq hz hd (qR J u),zBz (qG J u)⟩
theorem h_ia(U:Mk M S){off k len t:Nat}{x i:Operand}{Z:IntKind}{z:Int}{y:A}(I:op.op= .indexAddr t x i)(hx:cpO M x= .t (.hpt c off))(hi:vO M i=some (.int Z z))(hq:ixH P t=some (some len,k))(hz:0<=z/\z<len)(hy:A.t (.hpt c (off+z.toNat*k))=y)(hd:op.dst=some d)(u:okD N pins S d=true):OpH P pins N op S (app S [(d,y)]):=by subst hy;exact .of λJ=>⟨ok_hia U.hx I hx hi hq hz hd (qR J u),zBz (qG J u)⟩
theorem h_ln(U:Mk M S){off E k n t e:Nat}{x:Operand}{y:A}(I:op.op= .call {callee:= .builtin .len,args:= #[x],argTypes:= #[t]})(hx:cpO M x= .t (.hvw c off E k n))(Z:P.underlying t=some (.slice e))(hy:A.t (.d (.lit (.int .i64 n)))=y)(hd:op.dst=some d)(u:okD N pins S d=true):OpH P pins N op S (app S [(d,y)]):=by subst hy;exact .of λJ=>⟨ok_hln U.hx I hx Z hd (qR J u),zBz (qG J u)⟩
theorem h_pn(Z:Mk M S){I:BinOp}{t W e:Nat}{x:Operand}{b ng:Bool}(J:op.op= .binOp I t x (.const (.pointer none)) W)(hb:I=bif ng then .neq else .eql)(ht:P.underlying t=some (.pointer e))(hx:ptrN (cpO M x)=some b)(hd:op.dst=some d)(u:okD N pins S d=true):OpH P pins N op S (app S [(d,.t (.d (.lit (.bool (b !=ng)))))]):=
 .of (e:=[(d,_)]) λU=>⟨ok_hpn Z.hx J hb ht hx hd (qR U u),zBz (qG U u)⟩
theorem h_ld(U:Mk M S)(hk:S HK= .hp f){off t n:Nat}{x:Operand}{l:List T}{z:T}{y:A}(I:op.op= .load t x)(ht:tyA P t=some (false,n))(hx:cpO M x= .t (.hpt c off))(hf:f c= .box l)(hz:l[off]? =some z)(hy:norH z=some y)(hd:op.dst=some d)(u:okD N pins S d=true):OpH P pins N op S (app S [(d,y)]):=
 .of' (e:=[(d,y)]) λJ hl=>⟨ok_hld U.hx I ht hx (zOL hl hk hf) hz hy hd (qR J u),zBz (qG J u)⟩
theorem h_lr(Z:Mk M S)(hk:S HK= .hp f){off t n:Nat}{x:Operand}{l r:List T}{y:List D}(J:op.op= .load t x)(ht:tyA P t=some (true,n))(hx:cpO M x= .t (.hpt c off))(hf:f c= .box l)(hl:(l.drop off).take n=r)(hr:r.length=n)(hpt:noPt r=true)(hy:r.map toD=y)(hd:op.dst=some d)(u:okD N pins S d=true):OpH P pins N op S (app S [(d,.t (.agg y))]):=
 .of' (e:=[(d,_)]) λU I=>⟨ok_hlr Z.hx J ht hx (zOL I hk hf) hl hr hpt hy hd (qR U u),zBz (qG U u)⟩
theorem h_st(W:Mk M S)(hk:S HK= .hp f){t off:Nat}{x y:Operand}(U:op.op= .store t x y)(hd:op.dst=none){i:TypeInfo}(hi:P.info? t=some i)(hx:cpO M x= .t (.hpt c off)){l l':List T}(hf:f c= .box l){q:List T}(hc:zDS (cpO M y)=some q)(Z:q.length=i.size)(u:off+i.size<=l.length)(I:qZ l off q=l')(J:f'=updF f c (.box l')):OpH P pins N op S (app S [(HK,.hp f')]):=by subst I;exact h_put hk J λhN hl=>ok_hst W.hx U hd hi hx (zOL hl hk hf) hc Z u
theorem h_bd(Z:Mk M S){t:Nat}{u:List (Nat×Operand)}(J:op.op= .build t u.toArray)(hd:op.dst=some d)(I:okD N pins S d=true){l:List T}(h:bdT P M t u=some l):OpH P pins N op S (app S [(d,.ag l)]):=
 .of (e:=[(d,_)]) λU=>⟨ok_buildT Z.hx J hd (qR U I) h,zBz (qG U I)⟩
def zPp:List Nat->Bool
 |[]=>true
 |x::r=> !(r.any λy=>Nat.beq y x)&&zPp r
theorem zL2:∀{l:List Nat},zPp l=true->l.Nodup
 |[],_=> .nil
 |x::r,h=>by simp only[zPp,wI]at h;rw[List.nodup_cons];refine⟨λu=> ?_,zL2 h.2⟩;have:(r.any λy=>Nat.beq y x)=true:=sO.2 ⟨x,u,Nat.beq_refl x⟩;grind
def zSB(M:Nat->A)(σ fr:List Nat)(outs:List A):Bool:=
 zPp (σ++fr)&&(σ++fr).all (λj=>Nat.blt (j+1) OB)&&fr.all (λj=>match M (OB+j)with| .free=>true|_=>false)&&Nat.beq outs.length (σ++fr).length&&Nat.ble outs.length OB
theorem hx_puts:∀{τ:List Nat} {outs:List A} {S:Nat->A},(∀j∈τ,j+1<OB)->hx (app S (zD7 τ outs))=app (hx S) (zD7 τ outs)
 |[],outs,S,_=>by cases outs<;>rfl
 |j::τ,[],S,_=>rfl
 |j::τ,x::r,S,h=>by have u:=h j (by simp);show hx (app (upd S (OB+j) x) (zD7 τ r))=app (upd (hx S) (OB+j) x) (zD7 τ r);rw[hx_puts (λj u=>h j (vG _ u)),zCJ (by unfold OB OB2 at*;omega) (by unfold HK;unfold OB at*;omega)]
theorem zP9:∀{τ:List Nat} {outs:List A} {S:Nat->A},(∀j∈τ,j+1<OB)->Low S->Low (app S (zD7 τ outs))
 |[],outs,S,_,h=>by cases outs<;>exact h
 |j::τ,[],S,_,h=>h
 |j::τ,x::r,S,h,hl=>by have u:=h j (by simp);exact zP9 (S:=upd S (OB+j) x) (λj u=>h j (vG _ u)) (hl.upd (by unfold OB OB2 at*;omega))
theorem puts_hk:∀{τ:List Nat} {outs:List A} {S:Nat->A},(∀j∈τ,j+1<OB)->app S (zD7 τ outs) HK=S HK:=λh=>zGA λe=>by have:=h _ e.2;have u:=e.1;unfold HK at this;unfold OB at this;omega
theorem app_hpS:∀{τ:List Nat} {outs:List A} {S:Nat->A} {f':Nat->A},(∀j∈τ,j+1<OB)->app (hpS S f') (zD7 τ outs)=hpS (app S (zD7 τ outs)) f'
 |[],outs,S,f',_=>by cases outs<;>rfl
 |j::τ,[],S,f',_=>rfl
 |j::τ,x::r,S,f',h=>by have u:=h j (by simp);show app (upd (hpS S f') (OB+j) x) (zD7 τ r)=hpS (app (upd S (OB+j) x) (zD7 τ r)) f';rw[<-app_hpS (λj u=>h j (vG _ u))];congr 1;funext t;unfold upd hpS;by_cases e:t=OB+j;(subst e;rw[if_pos rfl,if_neg (by unfold OB OB2 at*;omega)];simp);grind
theorem zLq(hM:Mk M S)(I:Inv W Q X G pins S a w m o){σ:List Nat}(hσ:σ.Nodup)(hl:σ.length<=OB)(hs:∀j∈σ,j<OB){S':Nat->A}:∀(xs:List Operand) (args:List A),zKB σ (xs.map (cpO M)) args->(xs.map a.eval).length=args.length/\∀(k:Nat) (x:A),args[k]? =some x->∀k0,RepA m w (movH σ o) S' k0 x ((xs.map a.eval).getD k undef)
 |[],args,h=>by cases h;exact⟨rfl,λk x h=>by simp at h⟩
 |y::ys,args,h=>by(cases h with|cons hx ht=>obtain⟨k1,k2⟩:=zLq hM I hσ hl hs (S':=S') ys _ ht;refine⟨by simpa using k1,λk x hk k0=> ?_⟩;(cases k with|succ k=>simpa using k2 k x (by simpa using hk) k0|zero=>cases hk;have hr:=qA hM I y 0;show RepA m w (movH σ o) _ k0 _ (a.eval y);revert hx hr;generalize cpO M y=z;intro hx hr;(cases hx with|plain h hp=>exact zJa hp (h.rep I.sat hr)|hpt c off=>obtain⟨g,J,U⟩:=hr;exact⟨g,(zDr hσ hl hs).2 (.inl ⟨_,rfl,J⟩),U⟩|opt h=>exact(h.rep I.sat hr).imp id λ⟨i,e,g,J,U⟩=>⟨i,e,g,(zDr hσ hl hs).2 (.inl ⟨_,rfl,J⟩),U⟩|hvw c off E k n=>obtain⟨A',q,J,U,q3,q4⟩:=hr;exact⟨A',q,J,U,q3,q4.imp id λ⟨g,cs,E1,k1,k2⟩=>⟨g,cs,E1,(zDr hσ hl hs).2 (.inl ⟨_,rfl,k1⟩),k2⟩⟩|ck f cs=>obtain⟨Z,J,U,q3⟩:=hr;refine⟨Z,J,U,λi c hi=> ?_⟩;obtain⟨v,q4,q5⟩:=q3 i c hi;refine⟨v,q4,?_⟩;(cases c with|live c=>obtain⟨g,b1,b2⟩:=q5;exact⟨g,b1,(zDr hσ hl hs).2 (.inl ⟨_,rfl,b2⟩)⟩|fz l=>exact q5)|cl f h=>obtain⟨Z,J,U,q3⟩:=hr;refine⟨Z,J,U,λi l hi=> ?_⟩;obtain⟨g,q4,q5⟩:=q3 i l hi;refine⟨g,q4,λj x hj=> ?_⟩;obtain⟨u,q6,q7⟩:=q5 j x hj;have hd:=wG.1 (wG.1 h l (wC hi)) x (wC hj);refine⟨u,q6,?_⟩;(cases x with|d x=>exact q7|hpt c off=>obtain⟨g,b1,b2⟩:=q7;exact⟨g,(zDr hσ hl hs).2 (.inl ⟨_,rfl,b1⟩),b2⟩|opt t p=>exact q7.imp id λ⟨i,e,g,b1,b2⟩=>⟨i,e,g,(zDr hσ hl hs).2 (.inl ⟨_,rfl,b1⟩),b2⟩|_=>cases hd)|view h=>obtain⟨A',q,J,U,q3,q4⟩:=hr;exact⟨A',q,J,U,q3,q4.imp id λ⟨g,cs,E1,k1,k2⟩=>⟨g,cs,E1,(zDr hσ hl hs).2 (.inr ⟨_,_,rfl,by have:=(wB.1 h).1;omega,h,k1⟩),k2⟩⟩|view0 h=>obtain⟨A',q,J,U,q3,q4⟩:=hr;exact⟨A',q,J,U,q3,q4.imp id λ⟨g,cs,E1,k1,k3,k4,k5,_⟩=>⟨g,cs,E1,(zDr hσ hl hs).2 (.inr ⟨_,_,rfl,by have:=(wB.1 h).1;omega,h,k1⟩),k3,k4,k5,.inl rfl⟩⟩)))
theorem h_callV (hM : Mk M S) (hk : S HK = .hp f) {fn : Nat} (hd : op.dst = some d) (hok : okD N pins S d = true) {args : List A} {ins outs : List A} {r r' : A} {σ fr : List Nat} (hf : FCH P fn args ins outs f f' r) (hp : zDy f) (hp' : zDy f') (hb : zSB M σ fr outs = true) (b3 : ins.all A.flatO = true) (b4 : outs.all A.flatO = true) (hin : σ.map (fun j => S (OB + j)) = ins) (hle : Nat.ble args.length OB = true) (hres : ResH (σ ++ fr) r r')
    (hrun : ∀ (w0 : World) (m0 : Mem) (o0 : OwnM) (G : GD) (a : Act) (w : World) (m : Mem) (o : OwnM), Inv w0 m0 o0 G pins (hx S) a w m o → σ.Nodup → σ.length ≤ OB → (∀ j ∈ σ, j < OB) → ∃ vals : Array Value, (execOp a.eval op).run P w = .ok (.enter fn vals) w ∧ vals.size = args.length ∧ ∀ k x, args[k]? = some x → ∀ k0, RepA m w (movH σ o) (argH args ins f) k0 x (vals.getD k undef)) :
    OpH P pins N op S (app S (zD7 (σ ++ fr) outs ++ [(HK, .hp f'), (d, r')])) := by
  intro hN hlo
  unfold zSB at hb
  simp only [wI] at hb
  obtain ⟨⟨⟨⟨b1, b2⟩, b5⟩, b6⟩, b7⟩ := hb
  have hnd := zL2 b1
  have hj : ∀ j ∈ σ ++ fr, j + 1 < OB := fun j h => by have := wG.1 b2 j h; simpa using this
  have hj' : ∀ j ∈ σ ++ fr, j < OB := fun j h => by have := hj j h; omega
  have hlen : outs.length = (σ ++ fr).length := wV b6
  have hlO : outs.length ≤ OB := wZ b7
  have hσl : σ.length ≤ OB := by have : σ.length ≤ (σ ++ fr).length := by simp
                                 omega
  have hdO := qG hN hok
  have hd2 : d ≠ HK := by unfold HK; unfold OB at hdO; omega
  refine ⟨?_, ?_⟩
  · rw [zJ7]
    show OpOK P pins N op (hx S) (hx (upd (upd (app S (zD7 (σ ++ fr) outs)) HK (.hp f')) d r'))
    have hl1 : Low (app S (zD7 (σ ++ fr) outs)) := zP9 hj hlo
    have he : hx (upd (upd (app S (zD7 (σ ++ fr) outs)) HK (.hp f')) d r') = upd (upd (app (hpS (hx S) f') (zD7 (σ ++ fr) outs)) d r') HK (.hp f') := by
      rw [zCJ (lt2 hdO) hd2, zJy hd2, app_hpS hj, ← hx_puts hj]
      congr 1
      funext t
      by_cases e : t = HK
      · subst e
        rw [zT]
        exact zBq (zT _ _ _) (by simp)
      · rw [zE e]
        rcases wY t OB2 with h | h
        · rw [zDY h, zE e]
          unfold hpS
          rw [if_neg (by omega), zDY h]
        · obtain ⟨k, rfl⟩ : ∃ k, t = OB2 + k := ⟨t - OB2, by omega⟩
          rw [yK, zE6 (hl1.upd zNg) (zT _ _ _), ← yK]
          unfold hpS
          rw [if_pos (vD _ _), wP]
    rw [he]
    refine OpOK.hkpost (f := f) ?_ ?_
    · intro w0 m0 o0 G a w m o hNa I K Q hK
      obtain ⟨h1, h2, h3⟩ := zS (qR hN hok)
      obtain ⟨vals, hrun, k1, k2⟩ := hrun w0 m0 o0 G a w m o I (List.nodup_append.1 hnd).1 hσl (fun j h => hj' j (tX _ h))
      have hfr : ∀ j ∈ fr, hx S (OB + j) = .free := fun j h => by
        have := wG.1 b5 j h
        have hm : M (OB + j) = .free := by
          revert this
          cases M (OB + j) <;> intro this <;> first | rfl | cases this
        rcases hM.hx (OB + j) with e | e
        · rw [e] at hm; cases hm
        · rw [← e]; exact hm
      have hc := call_heap I hf (fun c => zE6 hlo hk c) hp hp' hnd hj' (by
        rw [← hin]
        refine tE fun j h => ?_
        exact zDY (by have := hj' j (tX _ h); unfold OB OB2 at *; omega)) b3 b4 hfr hlen hlO hres (vals := vals) k1 k2 (wZ hle) (d := d) (by omega) h2 h3
      unfold Oper.wp
      rw [hrun]
      refine Calls.mono hc ?_
      rintro e w' ⟨u, m', o', rfl, J⟩
      rw [← hd] at J
      exact hK _ _ _ _ (by rw [zCW, hNa]) J
    · rw [zE (Ne.symm hd2), puts_hk hj]
      unfold hpS
      rw [if_neg (by unfold HK OB2; omega)]
      exact zBq hk (by simp)
  · rw [zJ7]
    exact ((zP9 hj hlo).upd zNg).upd (lt2 hdO)
theorem h_call(hM:Mk M S)(hk:S HK= .hp f){fn:Nat}{xs:List Operand}{ts:Array TypeId}{fx:Operand}(hop:op.op= .call {callee:= .value fx,args:=xs.toArray,argTypes:=ts})(hfx:vO M fx=some (.func (.func fn) #[] #[]))(hd:op.dst=some d)(hok:okD N pins S d=true){F:Func}(hfn:P.funcs[fn]? =some F)(hbody:F.body.isNone=false)(hname:(F.name== "runtime.NumGoroutine")=false){args:List A}{ins outs:List A}{r r':A}{σ fr:List Nat}(hf:FCH P fn args ins outs f f' r)(hp:zDy f)(hp':zDy f')(hb:zSB M σ fr outs=true)(b3:ins.all A.flatO=true)(b4:outs.all A.flatO=true)(hin:σ.map (λj=>S (OB+j))=ins)(hargs:zKB σ (xs.map (cpO M)) args)(hle:Nat.ble args.length OB=true)(hres:ResH (σ++fr) r r'):
 OpH P pins N op S (app S (zD7 (σ++fr) outs++[(HK,.hp f'),(d,r')])):=by
 refine h_callV hM hk hd hok hf hp hp' hb b3 b4 hin hle hres λw0 m0 o0 G a w m o I hn hl hs=> ?_
 obtain⟨k1,k2⟩:=zLq hM.hx I hn hl hs (S':=argH args ins f) xs args hargs
 refine⟨(xs.map a.eval).toArray,?_,by simpa using k1,λk x hk k0=>by simpa using k2 k x hk k0⟩
 unfold execOp
 rw[hop]
 simp only[resolve,zCK hM.hx I hfx,Deferred.ofValue,vA]
 have hb:F.body≠none:=λe=>by rw[e]at hbody;cases hbody
 have hn:F.name≠ "runtime.NumGoroutine" :=λe=>by rw[e]at hname;simp at hname
 simp[invoke,callFunc,hfn,hn,hb]
end
end Go.Proofs.YtocolhfjpadaoaaGreatDoor
namespace Go.Proofs.YtocolhfjpadaoaaGreatDoor
open Go Go.RowKit
def CkE.a:CkE->A
 | .live c=> .t (.hpt c 0)
 | .fz l=> .imm l
variable {P:Program}{w0:World}{w:World}{m0:Mem}{m:Mem}{o0:OwnM}{o:OwnM}{G:GD}{pins:List Nat}{N:Nat}{a:Act}{op:Oper}{S:Nat->A}{M:Nat->A}{L:SL}{v:Value}{W:World}{Q:Mem}{X:OwnM}
section
variable {P:Program}{pins:List Nat}{N:Nat}{S M:Nat->A}{op:Oper}{e:Eff}{d c:Nat}{f f':Nat->A}
theorem h_callW(hM:Mk M S)(hk:S HK= .hp f){fn t:Nat}{tl:List A}{xs:List Operand}{ts:Array TypeId}(hop:op.op= .call {callee:= .value (.tmp t),args:=xs.toArray,argTypes:=ts})(hd:op.dst=some d)(hok:okD N pins S d=true)(hfn:∃F,P.funcs[fn]? =some F/\F.body.isNone=false/\(F.name== "runtime.NumGoroutine")=false){args:List A}{r r':A}(hf:FCH P fn (args++tl) [] [] f f' r)(hp:zDy f)(hp':zDy f')(hargs:zKB [] (xs.map (cpO M)) args)(hle:Nat.ble (args++tl).length OB=true)(hres:ResH [] r r')
(htl:∀(w0:World) (m0:Mem) (o0:OwnM) (G:GD) (a:Act) (w:World) (m:Mem) (o:OwnM),Inv w0 m0 o0 G pins (hx S) a w m o->∃ptrs,a.eval (.tmp t)= .func (.func fn) #[] ptrs/\ptrs.size=tl.length/\∀(i:Nat) (x:A),tl[i]? =some x->∃v,ptrs[i]? =some v/\∀k0,RepA m w (movH [] o) (argH (args++tl) [] f) k0 x v):
 OpH P pins N op S (app S [(HK,.hp f'),(d,r')]):=by
 obtain⟨F,hfn,hbody,hname⟩:=hfn
 refine h_callV (σ:=[]) (fr:=[]) hM hk hd hok hf hp hp' rfl rfl rfl rfl hle hres λw0 m0 o0 G a w m o I hn hl hs=> ?_
 obtain⟨k1,k2⟩:=zLq hM.hx I hn hl hs (S':=argH (args++tl) [] f) xs args hargs
 obtain⟨ptrs,e,q1,q2⟩:=htl w0 m0 o0 G a w m o I
 refine⟨(xs.map a.eval).toArray++ptrs,?_,?_,λk x hk k0=> ?_⟩
 · unfold execOp;rw[hop];simp only[resolve,e,Deferred.ofValue,vA];(have hb:F.body≠none:=λe=>by rw[e]at hbody;cases hbody);(have hn:F.name≠ "runtime.NumGoroutine" :=λe=>by rw[e]at hname;simp at hname);simp[invoke,callFunc,hfn,hn,hb]
 · simp only[sI,vV,wL,wS,q1];have:(xs.map a.eval).length=args.length:=k1;simp only[wL]at this;omega
 · have hl1:(xs.map a.eval).length=args.length:=k1;rcases wY k args.length with h|h;(rw[uN h]at hk;have:=k2 k x hk k0;rw[wM,Array.getElem?_append_left (by simp only[vV];omega)];rw[wK]at this;simpa using this);(rw[uK h]at hk;obtain⟨v,q3,q4⟩:=q2 _ x hk;(have hv:((xs.map a.eval).toArray++ptrs).getD k undef=v:=by rw[wM,Array.getElem?_append_right (by simp only[vV];omega)];simp only[vV,hl1,q3];rfl);rw[hv];exact q4 k0)
theorem h_callT(hM:Mk M S)(hk:S HK= .hp f){fn t:Nat}{caps:List (List T)}{xs:List Operand}{ts:Array TypeId}(hop:op.op= .call {callee:= .value (.tmp t),args:=xs.toArray,argTypes:=ts})(hfx:cpO M (.tmp t)= .cl fn caps)(hdh:caps.all (λl=>l.all dhT)=true)(hd:op.dst=some d)(hok:okD N pins S d=true)(hfn:∃F,P.funcs[fn]? =some F/\F.body.isNone=false/\(F.name== "runtime.NumGoroutine")=false){args:List A}{r r':A}(hf:FCH P fn (args++caps.map A.imt) [] [] f f' r)(hp:zDy f)(hp':zDy f')(hargs:zKB [] (xs.map (cpO M)) args)(hle:Nat.ble (args++caps.map A.imt).length OB=true)(hres:ResH [] r r'):
 OpH P pins N op S (app S [(HK,.hp f'),(d,r')]):=by
 refine h_callW hM hk hop hd hok hfn hf hp hp' hargs hle hres λw0 m0 o0 G a w m o I=> ?_
 have hc:=qA hM.hx I (.tmp t) 0
 rw[hfx]at hc
 obtain⟨ptrs,e,q1,q2⟩:=hc
 refine⟨ptrs,e,by simpa using q1,λi x hi=> ?_⟩
 rw[wH]at hi
 cases hc:caps[i]? with
  |none=>rw[hc]at hi;cases hi
  |some l=>
   rw[hc]at hi
   cases hi
   obtain⟨g,q3,q4⟩:=q2 _ l hc
   refine⟨_,q3,λk0=>⟨g,rfl,λj x hj=> ?_⟩⟩
   obtain⟨u,q6,q7⟩:=q4 j x hj
   have hd:=wG.1 (wG.1 hdh l (wC hc)) x (wC hj)
   refine⟨u,q6,?_⟩
   cases x with
    |d x=>exact q7
    |hpt c off=>obtain⟨g,b1,b2⟩:=q7;exact⟨g,(zDr List.nodup_nil (uF _) (λj h=>by cases h)).2 (.inl ⟨_,rfl,b1⟩),b2⟩
    |opt t p=>exact q7.imp id λ⟨i,e,g,b1,b2⟩=>⟨i,e,g,(zDr List.nodup_nil (uF _) (λj h=>by cases h)).2 (.inl ⟨_,rfl,b1⟩),b2⟩
    |_=>cases hd
end
def fl{α β:Type}(c:α->List β)(x:List α):List β:=x.flatMap c
section
variable {α β:Type}{c:α->List β}{k:Nat}
theorem zOD(I:∀a,(c a).length=k)(x:List α):(fl c x).length=x.length*k:=by unfold fl;(induction x with|nil=>simp|cons a r u=>grind)
theorem zQI(u:∀a,(c a).length=k){x:List α}{i:Nat}(h:i<x.length):fl c x=fl c (x.take i)++(c x[i]++fl c (x.drop (i+1)))/\(fl c (x.take i)).length=i*k:=by
  refine⟨?_,by rw[zOD u,vZ,Nat.min_eq_left (by omega)]⟩
  conv=>lhs;rw[<-List.take_append_drop i x,uD h]
  unfold fl
  grind
theorem fl_row(u:∀a,(c a).length=k){x:List α}{i:Nat}{a:α}(h:x[i]? =some a):((fl c x).drop (i*k)).take k=c a:=by obtain⟨I,rfl⟩:=wB.1 h;obtain⟨e,hl⟩:=zQI (c:=c) u I;grind
theorem zSp(u:∀a,(c a).length=k){x:List α}{i q:Nat}{a:α}(h:x[i]? =some a)(hq:q<k):(fl c x)[i*k+q]? =(c a)[q]? :=by obtain⟨I,rfl⟩:=wB.1 h;obtain⟨e,hl⟩:=zQI (c:=c) u I;grind
theorem fl_set(u:∀a,(c a).length=k){x:List α}{i:Nat}(h:i<x.length)(a:α):fl c (x.set i a)=fl c (x.take i)++(c a++fl c (x.drop (i+1))):=by rw[List.set_eq_take_append_cons_drop,if_pos h];unfold fl;grind
theorem fl_splice(u:∀a,(c a).length=k){x:List α}{i q:Nat}{a b:α}{d:List β}(h:x[i]? =some a)(hd:qZ (c a) q d=c b)(hq:q+d.length<=k):qZ (fl c x) (i*k+q) d=fl c (x.set i b):=by obtain⟨I,rfl⟩:=wB.1 h;obtain⟨e,hl⟩:=zQI (c:=c) u I;rw[fl_set u I,<-hd,e];unfold qZ;have J:(c x[i]).length=k:=u _;(have U:(fl c (x.take i)++(c x[i]++fl c (x.drop (i+1)))).take (i*k+q)=fl c (x.take i)++(c x[i]).take q:=by rw[<-hl,List.take_length_add_append,List.take_append_of_le_length (by omega)]);(have Z:(fl c (x.take i)++(c x[i]++fl c (x.drop (i+1)))).drop (i*k+q+d.length)=(c x[i]).drop (q+d.length)++fl c (x.drop (i+1)):=by rw[Nat.add_assoc,<-hl,List.drop_length_add_append,List.drop_append_of_le_length (by omega)]);grind
end
theorem zGO{β:Type}{k:Nat}:∀{rs:List (List β)},(∀r∈rs,r.length=k)->(rs.flatMap id).length=rs.length*k
 |[],_=>by simp
 |r::t,h=>by rw[List.flatMap_cons,wS,zGO λx hx=>h x (vG _ hx),uS,Nat.succ_mul];grind
theorem zEk{β:Type}{k:Nat}:∀{rs:List (List β)} {i q:Nat} {r:List β},(∀r∈rs,r.length=k)->rs[i]? =some r->q<k->(rs.flatMap id)[i*k+q]? =r[q]?
 |[],i,q,r,_,h,_=>by simp at h
 |x::t,i,q,r,h,u,hq=>by have hx:x.length=k:=h x (by simp);rw[List.flatMap_cons];(cases i with|zero=>grind|succ i=>rw[Nat.succ_mul,uK (by show x.length<=_;omega)];(have:i*k+k+q-(id x).length=i*k+q:=by show i*k+k+q-x.length=_;omega);rw[this];exact zEk (λr hr=>h r (vG _ hr)) (by simpa using u) hq)
section
variable {w0:World}{m0:Mem}{o0:OwnM}{G:GD}{pins:List Nat}{S M:Nat->A}{a:Act}{w:World}{m:Mem}{o:OwnM}{P:Program}{N:Nat}
theorem ok_make(hM:Mk M S){d j t e q:Nat}{xn xc:Operand}{kl kc:IntKind}{n:Int}{U:TypeInfo}{z:Value}{c0:List T}(ι:op.op= .makeSlice t xn xc)(hn:vO M xn=some (.int kl n))(hc:vO M xc=some (.int kc n))(hu:P.underlying t=some (.slice e))(ξ:P.info? e=some U)(hz:U.zero=some z)
  (θ:zGs (litA z)=some c0)(β:c0.length=U.size)(hq:mkI U.bytes n=some q)(hd:op.dst=some d)(ν:okD N pins S d=true)(δ:Nat.blt d OB=true)(α:S (OB+j)= .free){F:Nat}(hF:(F=e/\e<OFB)\/F=OFB+e):
  OpOK P pins N op S (app S [(OB+j,.box (fl (λ_=>c0) (List.replicate q ()))),(d,.t (.view j 0 F U.size q))]):=by
 obtain⟨q1,q2,q3,rfl⟩:=mkI_iff hq
 refine zL λw0 m0 o0 G a w m o hN I=> ?_
 obtain⟨d1,d2,d3⟩:=zS ν
 have δ:d<OB:=by simpa using δ
 have γ:zDS (litA z)=some c0:=by
  revert θ
  generalize litA z=y
  intro hl
  cases y with
  |t y=>cases y<;>first|exact hl|cases hl
  |_=>cases hl
 obtain⟨k1,k2,k3⟩:=zFI γ (zF9 (m:=m) (w:=w) (o:=o) (S:=S) 0 z)
 have ζ:=run_make (P:=P) (w:=w) t e U z hu ξ hz kl kc n n q1 (tW _) q2 (by omega)
 have Z:(madeCells z.cells (n.toNat*U.size)).size=n.toNat*U.size:=size_madeCells _ _
 have J:=I.obj_new (j:=j) (l:=fl (λ_=>c0) (List.replicate n.toNat ())) (cs:=madeCells z.cells (n.toNat*U.size)) (E:=e) α ?_ λi x hi=> ?_
 ·
  refine⟨.slice (some ⟨w.heap.size,0,none⟩) n.toNat n.toNat,w.alloc (.cells (madeCells z.cells (n.toNat*U.size)) e),m,newO o (OB+j) w.heap.size,?_,?_⟩
  ·
   unfold execOp
   rw[ι]
   simp only[wE]
   rw[zCK hM I hn,zCK hM I hc,ζ]
   rfl
  ·
   rw[hd]
   exact J.set d _ _ (by omega) (by rw[zE (by omega)];exact d2) ⟨some ⟨w.heap.size,0,none⟩,n.toNat,wJ _,by unfold maxLen;omega,rfl,.inr ⟨w.heap.size,_,e,zAO _ _ _,rfl,heap_alloc_new w _,by rw[Z];omega,by
    rcases hF with⟨h,h2⟩|h
    · exact .inr (.inl ⟨by rw[h];exact h2,h.symm⟩)
    · exact .inr (.inr ⟨h,rfl,Z⟩)⟩⟩
 ·
  rw[Z,zOD (k:=U.size) (λ_=>β),wN]
  exact wJ _
 ·
  have W:i<n.toNat*U.size:=by
   have:=(wB.1 hi).1
   rw[zOD (k:=U.size) (λ_=>β),wN]at this
   exact this
  have ε:0<U.size:=Nat.pos_of_ne_zero λe=>by rw[e]at W;simp at W
  have η:i/U.size<n.toNat:=sL (by rw[tC];exact W)
  have κ:i %U.size<U.size:=Nat.mod_lt _ ε
  have he:i/U.size*U.size+i %U.size=i:=by rw[tC];exact Nat.div_add_mod i U.size
  have h2:=zSp (c:=λ_:Unit=>c0) (k:=U.size) (λ_=>β) (x:=List.replicate n.toNat ()) (i:=i/U.size) (q:=i %U.size) (a:=()) (by rw[vH,if_pos η]) κ
  rw[he]at h2
  rw[h2]at hi
  obtain⟨p1,u,p2,p3⟩:=k3 _ x hi
  refine⟨zGo γ x (wC hi),u,?_,p3 _ _ (zBc.refl w)⟩
  have μ:z.cells.size=U.size:=by have:=k1;simp at this;omega
  unfold madeCells
  rw[Array.getElem?_map,Array.getElem?_range,if_pos W]
  simp only[uO,μ]
  have p2:z.cells[i %U.size]? =some u:=by simpa using p2
  rw[getElem!_def,p2]
theorem ok_ixv(hM:Mk M S){d j off E k n t e:Nat}{x i:Operand}{ki:IntKind}{z:Int}{U:TypeInfo}(W:op.op= .indexAddr t x i)(hx:cpO M x= .t (.view j off E k n))(hi:vO M i=some (.int ki z))(hu:P.underlying t=some (.slice e))(Z:P.info? e=some U)(hz:0<=z/\z<n)(hd:op.dst=some d)(J:okD N pins S d=true):
 OpOK P pins N op S (upd S d (.ref (OB+j) (off+z.toNat*U.size))):=by
 refine zL λw0 m0 o0 G a w m o hN I=> ?_
 obtain⟨h1,h2,h3⟩:=zS J
 have u:=qA hM I x 0
 rw[hx]at u
 obtain⟨A',c,k0,_,k3,k4⟩:=u
 obtain⟨g,cs,_,k1,k5,_⟩:=k4.resolve_left λh=>by omega
 subst k5
 refine⟨.pointer (some ⟨g,off+z.toNat*U.size,none⟩),w,m,o,?_,?_⟩
 · unfold execOp;rw[W];simp only[wE];rw[zCK hM I hi,k3];simp[Instr.indexAt,asIntOf,run_underlying hu,hz,sizeOf,typeInfo,Z,Addr.add_mid]
 · rw[hd];exact I.set d _ _ (by omega) h2 ⟨g,k1,rfl,λh=>absurd h (by omega)⟩
theorem ok_ixa(Z:Mk M S){d b off t e len:Nat}{x i:Operand}{ki:IntKind}{z:Int}{U:TypeInfo}(J:op.op= .indexAddr t x i)(hx:cpO M x= .ref b off)(hi:vO M i=some (.int ki z))(W:P.underlying t=some (.array len e))(I:P.info? e=some U)(hz:0<=z/\z<len)(hd:op.dst=some d)(u:okD N pins S d=true):
 OpOK P pins N op S (upd S d (.ref b (off+z.toNat*U.size))):=by
 refine zOc Z hd u ?_
 rw[J]
 show ixF P M t x i=_
 unfold ixF
 simp only[hi,W,I,hx]
 rw[if_pos hz]
theorem ok_ldx(J:Mk M S){d b off t n:Nat}{x:Operand}{l:List T}{z:T}(I:op.op= .load t x)(ht:tyA P t=some (false,n))(hx:cpO M x= .ref b off)(hb:M b= .box l)(hl:l[off]? =some z)(hd:op.dst=some d)(u:okD N pins S d=true):OpOK P pins N op S (upd S d (norA z)):=by refine zOc J hd u ?_;rw[I];show ldF P M t x=_;unfold ldF;grind
theorem ok_lnv(W:Mk M S){d j off E k n t e:Nat}{x:Operand}(U:op.op= .call {callee:= .builtin .len,args:=⟨[x]⟩,argTypes:=⟨[t]⟩})(hx:cpO M x= .t (.view j off E k n))(hu:P.underlying t=some (.slice e))(hd:op.dst=some d)(J:okD N pins S d=true):
 OpOK P pins N op S (upd S d (.t (.d (.lit (.int .i64 n))))):=by
 refine zL λw0 m0 o0 G a w m o hN I=> ?_
 obtain⟨h1,Z,h3⟩:=zS J
 have u:=qA W I x 0
 rw[hx]at u
 obtain⟨A',c,_,_,k3,_⟩:=u
 refine⟨.int .i64 n,w,m,o,?_,by rw[hd];exact I.set d _ _ (by omega) Z (.lit _ rfl)⟩
 unfold execOp
 rw[U]
 simp only[resolve,invoke,builtin,wE,wU,wD,vA,vB,uB]
 rw[k3]
 simp[Builtin.len_,run_underlying hu,goInt]
theorem ok_slv(hM:Mk M S){d j off E k n t e:Nat}{x:Operand}{lo hi:Option Operand}{l0 h0:Option Int}{u:TypeInfo}{off' n':Nat}(β:op.op= .slice t x lo hi none)(hx:cpO M x= .t (.view j off E k n))(hk:u.size=k)(ζ:bndO M lo=some l0)(γ:bndO M hi=some h0)(hu:P.underlying t=some (.slice e))(η:P.info? e=some u)
    (hc:0<=l0.getD 0/\l0.getD 0<=h0.getD n/\h0.getD n<=n)(ho:off+(l0.getD 0).toNat*u.size=off')(δ:(h0.getD n).toNat-(l0.getD 0).toNat=n')(hd:op.dst=some d)(ε:okD N pins S d=true)(hE:E<OFB):
    OpOK P pins N op S (upd S d (.t (.view j off' E k n'))):=by
  subst ho δ hk
  refine zL λw0 m0 o0 G a w m o hN I=> ?_
  obtain⟨h1,h2,h3⟩:=zS ε
  have U:=qA hM I x 0
  rw[hx]at U
  obtain⟨J,c,k2,k4,k3,k5⟩:=U
  obtain⟨kl,e1⟩:=zGf hM I ζ
  obtain⟨kh,e2⟩:=zGf hM I γ
  have hb:(Instr.sliceBounds true n c (l0.map λz=> .int (kl z) z) (h0.map λz=> .int (kh z) z) none).run P w= .ok ((l0.map Int.toNat).getD 0,(h0.map Int.toNat).getD n,c) w:=by
    unfold Instr.sliceBounds
    cases l0<;>cases h0<;>simp only[Option.getD_none,uT,sF,uO,sX,sC]at hc⊢ <;>
      (simp only[wE,wU,wD]
       repeat(rw[zBu (by omega) (by omega),wD]))
  have W:(l0.map Int.toNat).getD 0=(l0.getD 0).toNat:=by cases l0<;>rfl
  have Z:(h0.map Int.toNat).getD n=(h0.getD n).toNat:=by cases h0<;>simp
  rw[W,Z]at hb
  have α:(Instr.sliceAt t (.slice J n c) (l0.map λz=> .int (kl z) z) (h0.map λz=> .int (kh z) z) none).run P w= .ok (.slice (if c=(l0.getD 0).toNat then J else J.map (·.add ((l0.getD 0).toNat*u.size))) ((h0.getD n).toNat-(l0.getD 0).toNat) (c-(l0.getD 0).toNat)) w:=by
    unfold Instr.sliceAt
    simp only[wE,run_underlying hu,wD]
    unfold Instr.slice
    simp only[wE,run_underlying hu,wD]
    rw[hb]
    simp[sizeOf,typeInfo,η]
  refine⟨.slice (if c=(l0.getD 0).toNat then J else J.map (·.add ((l0.getD 0).toNat*u.size))) ((h0.getD n).toNat-(l0.getD 0).toNat) (c-(l0.getD 0).toNat),w,m,o,?_,?_⟩
  · unfold execOp
    rw[β]
    simp only[wE]
    rw[e1,e2,k3]
    show Result.andThen (Sem.run P (Instr.sliceAt t _ _ _ none) w) _=_
    rw[α]
    rfl
  · rw[hd]
    refine I.set d _ _ (by omega) h2 ?_
    refine⟨(if c=(l0.getD 0).toNat then J else J.map (·.add ((l0.getD 0).toNat*u.size))),c-(l0.getD 0).toNat,by omega,by omega,rfl,?_⟩
    rcases k5 with c0|⟨g,cs,E1,q1,q2,q3,q4,q6⟩
    · subst c0
      exact .inl (Nat.zero_sub _)
    · by_cases hz:c=(l0.getD 0).toNat
      · exact .inl (by omega)
      · refine .inr ⟨g,cs,E1,q1,?_,q3,?_,q6.imp id λh=> .inl (h.resolve_right λh=>by have:=h.1;omega)⟩
        · rw[if_neg hz,q2]
          show some ((⟨g,off,none⟩:Addr).add _)=_
          rw[Addr.add_mid]
        · have:(l0.getD 0).toNat*u.size+(c-(l0.getD 0).toNat)*u.size=c*u.size:=by rw[<-tP];congr 1;omega
          omega
def zKM(j:Nat):T->Bool
 | .ptr i _| .view i _ _ _ _=>Nat.beq i j
 | .mpt i=>Nat.blt i OB&&Nat.beq i j
 |_=>false
def zCl(j:Nat):A->Bool
 | .t x=>zKM j x
 | .tup l| .box l| .ag l| .lst l| .imt l=>l.any (zKM j)
 | .cl _ u=>u.any λl=>l.any (zKM j)
 | .ref b _=>Nat.beq b (OB+j)
 |_=>false
def zLw(o:OwnM)(j:Nat):OwnM:=λg=>if(o g).map (·.1)=some (OB+j)then none else o g
theorem qU{j g:Nat}{l:Nat×Nat}:zLw o j g=some l↔o g=some l/\l.1≠OB+j:=by unfold zLw;grind
theorem zGB{j:Nat}(hj:j<OB){x:T}(hx:zKM j x=false){loc:Nat×Nat}(hl:loc.1≠OB+j)(h:RepT m w o loc x v):RepT m w (zLw o j) loc x v:=by(cases x with|d x=>exact h|agg l=>exact h|own E k l=>obtain⟨Z,cap,xs,e,I,u,J⟩:=h;exact⟨Z,cap,xs,e,I,λg U=>⟨qU.2 ⟨(u g U).1,hl⟩,(u g U).2⟩,J⟩|ptr i off=>obtain⟨g,I,u⟩:=h;(have:i≠j:=λe=>by subst e;simp[zKM]at hx);exact⟨g,qU.2 ⟨I,by show OB+i≠OB+j;omega⟩,u⟩|view i off E k n=>obtain⟨Z,c,I,u,J,W⟩:=h;(have:i≠j:=λe=>by subst e;simp[zKM]at hx);exact⟨Z,c,I,u,J,W.imp id λ⟨g,cs,E1,k1,k2⟩=>⟨g,cs,E1,qU.2 ⟨k1,by show OB+i≠OB+j;omega⟩,k2⟩⟩|ags l1 α=>exact zH3.own (λg U=>qU.2 ⟨U,hl⟩) h|xs E k l rv=>obtain⟨Z,cap,xs,e,I,u,J⟩:=h;exact⟨Z,cap,xs,e,I,λg U=>⟨qU.2 ⟨(u g U).1,hl⟩,(u g U).2⟩,J⟩|any=>exact h|hpt c off=>obtain⟨g,I,u⟩:=h;exact⟨g,qU.2 ⟨I,by show OB+(OB+c)≠OB+j;omega⟩,u⟩|opt t p=>exact h.imp id λ⟨i,e,g,I,u⟩=>⟨i,e,g,qU.2 ⟨I,by show OB+(OB+cd t i)≠OB+j;unfold OB at*;omega⟩,u⟩|mpt i=>obtain⟨g,I,u⟩:=h;(have:i≠j:=λe=>by subst e;have hx:(Nat.blt i OB&&Nat.beq i i)=false:=hx;rw[show Nat.blt i OB=true by simpa using hj,Nat.beq_refl]at hx;cases hx);exact⟨g,qU.2 ⟨I,by show OB+i≠OB+j;omega⟩,u⟩|hvw c off E k n=>obtain⟨Z,q,I,u,J,W⟩:=h;exact⟨Z,q,I,u,J,W.imp id λ⟨g,cs,E1,k1,k2⟩=>⟨g,cs,E1,qU.2 ⟨k1,by show OB+(OB+c)≠OB+j;omega⟩,k2⟩⟩)
theorem zHm{j:Nat}{l:List T}(h:l.any (zKM j)=false){q:Nat}{x:T}(hq:l[q]? =some x):zKM j x=false:=by grind
theorem zRB{j s:Nat}(hj:j<OB){x:A}(hx:zCl j x=false)(hs:s≠OB+j){S S':Nat->A}(hS:∀b l,b<OB->S b= .box l->∃l',S' b= .box l')(h:RepA m w o S s x v):RepA m w (zLw o j) S' s x v:=by(cases x with|t x=>exact zGB (loc:=(s,0)) hj hx hs h|tup l=>obtain⟨vs,e,I,J⟩:=h;refine⟨vs,e,I,λq x hq=> ?_⟩;obtain⟨u,k1,k2⟩:=J q x hq;exact⟨u,k1,zGB hj (zHm hx hq) hs k2⟩|imm l=>exact h|box l=>obtain⟨g,e,I,J,cs,E,Z,h4,h5⟩:=h;refine⟨g,e,qU.2 ⟨I,hs⟩,J,cs,E,Z,h4,λq x hq=> ?_⟩;obtain⟨k0,u,k1,k2⟩:=h5 q x hq;exact⟨k0,u,k1,zGB hj (zHm hx hq) hs k2⟩|ref b off=>obtain⟨g,I,J,Z⟩:=h;(have:b≠OB+j:=λe=>by subst e;simp[zCl]at hx);exact⟨g,qU.2 ⟨I,this⟩,J,λhb=>let⟨l,hl⟩:=Z hb;hS b l hb hl⟩|free=>exactλg k e=>h g k (qU.1 e).1|ag l=>obtain⟨vs,e,I,J⟩:=h;refine⟨vs,e,I,λq x hq=> ?_⟩;obtain⟨u,k1,k3,k2⟩:=J q x hq;exact⟨u,k1,k3,zGB hj (zHm hx hq) hs k2⟩|lst l=>obtain⟨g,cap,e,I,J,Z⟩:=h;refine⟨g,cap,e,I,J,λq x hq=> ?_⟩;obtain⟨u,k1,k2⟩:=Z q x hq;exact⟨u,k1,zGB hj (zHm hx hq) hs k2⟩|fr E k=>obtain⟨g,n,cap,β,I,J,Z⟩:=h;exact⟨g,n,cap,β,I,qU.2 ⟨J,hs⟩,Z⟩|hp f=>trivial|mp l=>obtain⟨g,I,α⟩:=h;exact⟨g,qU.2 ⟨I,hs⟩,α⟩|ck f cs=>obtain⟨U,e,I,J⟩:=h;refine⟨U,e,I,λi c hi=> ?_⟩;obtain⟨v,k1,k2⟩:=J i c hi;refine⟨v,k1,?_⟩;(cases c with|live c=>obtain⟨g,b1,b2⟩:=k2;exact⟨g,b1,qU.2 ⟨b2,by show OB+(OB+c)≠OB+j;omega⟩⟩|fz l=>exact k2)|cl f W=>obtain⟨U,e,I,J⟩:=h;refine⟨U,e,I,λi l hi=> ?_⟩;obtain⟨g,k1,k2⟩:=J i l hi;(have hl:l.any (zKM j)=false:=by(cases hb:l.any (zKM j)with|false=>rfl|true=>have:W.any (λl=>l.any (zKM j))=true:=sO.2 ⟨l,wC hi,hb⟩;have hx:W.any (λl=>l.any (zKM j))=false:=hx;grind));refine⟨g,k1,λq x hq=> ?_⟩;obtain⟨u,k3,k4⟩:=k2 q x hq;exact⟨u,k3,zGB hj (zHm hl hq) hs k4⟩|imt l=>obtain⟨g,k1,k2⟩:=h;refine⟨g,k1,λq x hq=> ?_⟩;obtain⟨u,k3,k4⟩:=k2 q x hq;exact⟨u,k3,zGB hj (zHm hx hq) hs k4⟩|rcd b u mE oE=>obtain⟨I,J,Z,h4,h5⟩:=h;exact⟨qU.2 ⟨I,hs⟩,J,Z,h4,λg c hg=>qU.2 ⟨h5 g c hg,by show OB+(OB+c)≠OB+j;omega⟩⟩|any=>trivial)
theorem Inv.forget(I:Inv w0 m0 o0 G pins S a w m o){j:Nat}(Z:j<OB)(hp:OB+j∉pins)(J:∀s,zCl j (S s)=false):Inv w0 m0 o0 G pins (upd S (OB+j) .free) a w m (zLw o j):=by refine⟨I.same,I.sat,I.mono,I.old,λg l h=>I.own g l (qU.1 h).1,λg l h=>I.lt g l (qU.1 h).1,λg W l h U=>I.inj g W l (qU.1 h).1 (qU.1 U).1,λs hs g u=>qU.2 ⟨I.pinned s hs g u,λe=>hs.elim (λhs=>hp (by rw[<-e];exact hs)) λ_=>((I.shps g j (by have e:s=OB+j:=e;rw[<-e];exact u)).1).elim hp λh=>by unfold OB OB2 at*;omega⟩,λs=> ?_,I.defers,I.tbl,I.wide,I.shps⟩;by_cases e:s=OB+j;(subst e;rw[zT];exactλg k h=>(qU.1 h).2 rfl);(rw[zE e];exact zRB Z (J s) e (λb l hb hl=>⟨l,by rw[zE (by omega),hl]⟩) (I.slots s))
end
section
variable {w0:World}{m0:Mem}{o0:OwnM}{G:GD}{pins:List Nat}{S M:Nat->A}{a:Act}{w:World}{m:Mem}{o:OwnM}{P:Program}{N:Nat}
theorem Inv.less(I:Inv w0 m0 o0 G pins S a w m o){S':Nat->A}(h:∀s,S' s=S s\/(S' s= .any/\(S s).isBox=false)):Inv w0 m0 o0 G pins S' a w m o:=by refine⟨I.same,I.sat,I.mono,I.old,I.own,I.lt,I.inj,I.pinned,λs=> ?_,I.defers,I.tbl,I.wide,I.shps⟩;rcases h s with e|⟨e,_⟩;(rw[e];refine(I.slots s).turn λb l hb=> ?_;rcases h b with u|⟨_,u⟩;grind;rw[hb]at u;cases u);rw[e];trivial
theorem Inv.frz(I:Inv w0 m0 o0 G pins S a w m o){j d E k:Nat}{l:List T}{rs:List (List D)}(hj:j<OB)(hd:d<OB)(hp:OB+j∉pins)(θ:d∉pins)(hS:S d= .t (.view j 0 E k rs.length))(hb:S (OB+j)= .box l)(hm:∀s,s≠d->s≠OB+j->zCl j (S s)=false)(hk:0<k)(Z:∀r∈rs,r.length=k)(hl:l=(rs.flatMap id).map .d):
 ∃m' o',Inv w0 m0 o0 G pins (upd (upd S (OB+j) .free) d (.t (.d (.seq k rs)))) a w m' o':=by
 have hs:=I.slots (OB+j)
 rw[hb]at hs
 obtain⟨g,_,h1,h2,W,E',h3,h4,h5⟩:=hs
 have α:=I.slots d
 rw[hS]at α
 obtain⟨A',c,q2,q3,q5,q4⟩:=α
 have η:l.length=rs.length*k:=by subst hl;rw[wL];exact zGO Z
 have J:∀(i:Nat) (r:List D) (q:Nat) (e:D),rs[i]? =some r->r[q]? =some e->∃u,W[i*k+q]? =some u/\RepD m e u:=by intro i r q e hi hq;have ε:=Z r (wC hi);(have γ:q<k:=by rw[<-ε];exact(wB.1 hq).1);(have:l[i*k+q]? =some (.d e):=by subst hl;rw[wH,zEk Z hi γ,hq];rfl);obtain⟨_,u,k1,k2⟩:=h5 _ _ this;exact⟨u,k1,k2⟩
 let m':Mem:=newM m g λp=>W[p]?
 have U:Mle m m':=by intro b p u hu;show newM m g (λp=>W[p]?) b p=some u;unfold newM;rw[if_neg];exact hu;intro e;subst e;rw[h2]at hu;cases hu
 have δ:∀g1 l1,zLw o j g1=some l1->g1≠g/\o g1=some l1:=by intro g1 l1 h;obtain⟨a1,a2⟩:=qU.1 h;exact⟨λe=>by subst e;rw[h1]at a1;injection a1 with a1;exact a2 (by rw[<-a1]),a1⟩
 refine⟨m',zLw o j,⟨I.same,λb p u h=> ?_,I.mono.trans U,λb ζ hg=> ?_,λg l h=>I.own g l (qU.1 h).1,λg l h=>I.lt g l (qU.1 h).1,λg g' l h h'=>I.inj g g' l (qU.1 h).1 (qU.1 h').1,λs hs g hg=>qU.2 ⟨I.pinned s hs g hg,λe=>hs.elim (λhs=>hp (by rw[<-e];exact hs)) λ_=>((I.shps g j (by have e:s=OB+j:=e;rw[<-e];exact hg)).1).elim hp λh=>by unfold OB OB2 at*;omega⟩,λs=> ?_,I.defers,I.tbl,I.wide,I.shps⟩⟩
 · change newM m g (λp=>W[p]?) b p=some u at h;unfold newM at h;split at h;(rename_i e;subst e;rw[cell_of_row w b p W E' _ h3];exact h);exact I.sat b p u h
 · rw[<-I.old b ζ hg];funext p;show newM m g (λp=>W[p]?) b p=_;unfold newM;rw[if_neg];intro e;subst e;rcases I.own b _ h1 with h|h;exact hg h;omega
 · by_cases e:s=d;(subst e;rw[zT,q5];refine .seq k rs _ c g 0 (λi q=>(W[i*k+q]?).getD undef) q2 q3 (λβ=> ?_) (λi r hi=>Z r (wC hi)) (λi r q e hi hq=> ?_) (λi r q e hi hq=> ?_);((obtain⟨g',_,_,q1,q6,_⟩:=q4.resolve_left λh=>by have:=uU.2 β;omega);have:=I.inj _ _ _ h1 q1;subst this;exact q6);(obtain⟨u,k1,_⟩:=J i r q e hi hq;show newM m g (λp=>W[p]?) g (0+i*k+q)=_;rw[zB5,vJ,k1];rfl);(obtain⟨u,k1,k2⟩:=J i r q e hi hq;rw[k1];exact k2.mono U));(rw[zE e];by_cases e2:s=OB+j;(subst e2;rw[zT];exactλg k h=>(qU.1 h).2 rfl);(rw[zE e2];have h:=zRB hj (S':=upd (upd S (OB+j) .free) d (.t (.d (.seq k rs)))) (hm s e e2) e2 (λb l hb hl=>⟨l,by rw[zE (λe3=>by subst e3;rw[hS]at hl;cases hl),zE (by omega),hl]⟩) (I.slots s);have K:Keep (λ_=>False) m w (zLw o j) m' w (zLw o j):=⟨U,λg1 l1 h _=>by funext p;show newM m g (λp=>W[p]?) g1 p=_;unfold newM;rw[if_neg (δ g1 l1 h).1],λ_ _ _ _=>rfl,λ_ _ h _=>h,λ_ _ h=>h,λg _ k _ h=>⟨g,k,h⟩,λg _ _=> .of_eq rfl⟩;exact RepA.keep K (λ_=>id) (λb off _ _=>⟨id,id⟩) h))
end
def zB3(j d:Nat):SL->SL
 |[]=>[]
 |(s,x)::r=>(s,bif Nat.blt s OB&&(zCl j x&& !Nat.beq s d)then .any else x)::zB3 j d r
theorem zDU(j d:Nat):∀(L:SL) (t:Nat),gt (zB3 j d L) t=bif Nat.blt t OB&&(zCl j (gt L t)&& !Nat.beq t d)then .any else gt L t
 |[],t=>by show A.any=bif _&&(zCl j .any&&_)then .any else .any;cases(Nat.blt t OB&&(zCl j .any&& !Nat.beq t d))<;>rfl
 |(s,x)::r,t=>by show gt ((s,_)::zB3 j d r) t=_;rw[zR,zR];unfold upd;by_cases h:t=s;grind;rw[if_neg h,if_neg h,zDU j d r t]
theorem zBb{j d:Nat}(L:SL){t:Nat}(h:OB<=t):gt (zB3 j d L) t=gt L t:=by rw[zDU];(have:Nat.blt t OB=false:=by(cases e:Nat.blt t OB with|false=>rfl|true=>(have:t<OB:=by simpa using e);omega));grind
def zIQ(j d:Nat):SL->Bool
 |[]=>true
 |(s,x)::r=>(!Nat.blt s OB||(!x.isBox|| !(zCl j x&& !Nat.beq s d)))&&zIQ j d r
theorem zHU{j d:Nat}:∀{L:SL},zIQ j d L=true->∀t,(Nat.blt t OB&&(zCl j (gt L t)&& !Nat.beq t d))=true->(gt L t).isBox=false
 |[],_,t,h=>by rfl
 |(s,x)::r,h,t,u=>by unfold zIQ at h;rw[wI]at h;rw[zR]at u⊢;unfold upd at u⊢;by_cases e:t=s;grind;(rw[if_neg e]at u⊢;exact zHU h.2 t u)
theorem zNx{L L':SL}(hl:Low (gt L))(hk:gt L' HK=gt L HK)(h:∀s,gt L' s=gt L s\/(gt L' s= .any/\(gt L s).isBox=false)):Low (gt L')/\∀s,hx (gt L') s=hx (gt L) s\/(hx (gt L') s= .any/\(hx (gt L) s).isBox=false):=by(have u:Low (gt L'):=λt ht=>by rcases h t with e|⟨e,_⟩;rw[e,hl t ht];exact e);refine⟨u,λs=> ?_⟩;rcases wY s OB2 with h2|h2;rw[zDY h2,zDY h2];exact h s;(refine .inl ?_;unfold hx;rw[hl s h2,u s h2];grind)
section
variable {P:Program}{pins:List Nat}{N:Nat}{Q:Exit->SL->Prop}{L:SL}
def ObP(L:SL):Prop:=∀t,OB<=t->∀j,zCl j (gt L t)=false
theorem ObP.nil:ObP []:=λ_ _ _=>rfl
theorem ObP.cons{s:Nat}{x:A}(h:Nat.blt s OB=true\/∀j,zCl j x=false)(hr:ObP L):ObP ((s,x)::L):=λt ht j=>by rw[zR];unfold upd;by_cases e:t=s;(rw[if_pos e];subst e;rcases h with h|h;((have:t<OB:=by simpa using h);omega);exact h j);rw[if_neg e];exact hr t ht j
theorem zTL{l:List T}(h:noPt l=true)(j:Nat):zCl j (.box l)=false:=by show l.any (zKM j)=false;(cases hb:l.any (zKM j)with|false=>rfl|true=>obtain⟨x,u,I⟩:=sO.1 hb;unfold noPt at h;have J:=wG.1 h x u;cases x<;>first|(cases I;done)|(cases J;done))
def zO5(L:SL):Prop:=(gt L HK= .any\/∃f,gt L HK= .hp f/\zDy f)/\ObP L
theorem ObP.fgt{j d:Nat}(h:ObP L):ObP ((OB+j,.free)::zB3 j d L):= .cons (.inr λ_=>rfl) λt ht i=>by rw[zBb L ht];exact h t ht i
theorem zJm(I:Low S)(hh:S HK= .any\/∃f,S HK= .hp f/\zDy f){j:Nat}(k:Nat):zCl j (hx S (OB2+k))=false:=by rcases hh with e|⟨f,e,hp⟩;(unfold hx;rw[I _ (vD _ _),e];simp only;split<;>rfl);(rw[yK,zE6 I e];rcases zEu (f k)with⟨l,hl⟩|hl|hl|⟨l,hl⟩|⟨b,u,mE,W,hl⟩;(rw[hl];have:=zQb hp k l hl;(cases hb:l.any (zKM j)with|false=>exact hb|true=>obtain⟨x,Z,U⟩:=sO.1 hb;have J:=this x Z;cases x<;>first|(cases U;done)|(cases J;done)|(exfalso;simp only[zKM,wI]at U;have J:Nat.blt _ OB=false:=J;rw[U.1]at J;cases J)));rw[hl];rfl;rw[hl];rfl;rw[hl];rfl;rw[hl];rfl)
theorem st_frz{L':SL}(d j:Nat){E k n:Nat}{l:List T}{rs:List (List D)}(hd:gt L d= .t (.view j 0 E k n))(hb:gt L (OB+j)= .box l)(hn:n=rs.length)(hl:l=(rs.flatMap id).map .d)(δ:∀r∈rs,r.length=k)
(hc:(Nat.blt d OB&&Nat.blt (j+1) OB&& !pins.contains (OB+j)&& !pins.contains d&&Nat.blt 0 k&&zIQ j d L)=true)(hh:zO5 L)(hL:(d,.t (.d (.seq k rs)))::(OB+j,.free)::zB3 j d L=L')(hS:St w0 m0 o0 G pins N L a w):St w0 m0 o0 G pins N L' a w:=by
 subst hL hn
 simp only[wI,vX,vP,decide_eq_false_iff_not]at hc
 obtain⟨⟨⟨⟨⟨U,c2⟩,c3⟩,c4⟩,c5⟩,c6⟩:=hc
 have U:d<OB:=by simpa using U
 have c2:j+1<OB:=by simpa using c2
 have c5:0<k:=by simpa using c5
 obtain⟨hN,η,m,o,I⟩:=hS
 have ι:OB+j≠d:=by omega
 have α:∀s,gt (zB3 j d L) s=gt L s\/(gt (zB3 j d L) s= .any/\(gt L s).isBox=false):=λs=>by rw[zDU];(cases W:(Nat.blt s OB&&(zCl j (gt L s)&& !Nat.beq s d))with|true=>exact .inr ⟨rfl,zHU c6 s W⟩|false=>exact .inl rfl)
 have Z:gt (zB3 j d L) HK=gt L HK:=zBb L (by unfold HK OB;omega)
 obtain⟨u,γ⟩:=zNx η Z α
 have I2:=I.less γ
 have β:gt (zB3 j d L) d= .t (.view j 0 E k rs.length):=by rw[zDU,hd];simp
 have ε:gt (zB3 j d L) (OB+j)= .box l:=by rcases α (OB+j)with e|⟨_,e⟩;rw[e,hb];rw[hb]at e;cases e
 have W:∀s,s≠d->s≠OB+j->zCl j (hx (gt (zB3 j d L)) s)=false:=λs h1 h2=>by rcases wY s OB2 with h3|h3;(rw[zDY h3];rcases wY s OB with h4|h4;(rw[zDU];(have ζ:Nat.beq s d=false:=by(cases hb:Nat.beq s d with|false=>rfl|true=>exact absurd (wV hb) h1));(have θ:Nat.blt s OB=true:=by simpa using h4);rw[ζ,θ];(cases W:zCl j (gt L s)with|true=>rfl|false=>exact W));rw[zBb L h4];exact hh.2 s h4 j);(obtain⟨k,rfl⟩:∃k,s=OB2+k:=⟨s-OB2,by omega⟩;exact zJm u (by rw[Z];exact hh.1) k)
 obtain⟨m',o',J⟩:=I2.frz (j:=j) (d:=d) (E:=E) (k:=k) (l:=l) (rs:=rs) (by omega) U c3 c4 (zBq β (by simp)) (zBq ε (by simp)) W c5 δ hl
 have e1:OB+j<OB2:=by unfold OB OB2 at*;omega
 have e2:OB+j≠HK:=by unfold HK;unfold OB at*;omega
 refine⟨hN,?_,m',o',?_⟩
 · rw[zR,zR];exact(u.upd e1).upd (lt2 U)
 · rw[zR,zR,zCJ (lt2 U) (by unfold HK;unfold OB at U;omega),zCJ e1 e2];exact J
theorem st_fgt{L':SL}(j:Nat)(hc:(Nat.blt (j+1) OB&& !pins.contains (OB+j)&&zIQ j HK L)=true)(hh:zO5 L)(hL:(OB+j,.free)::zB3 j HK L=L')(hS:St w0 m0 o0 G pins N L a w):St w0 m0 o0 G pins N L' a w:=by subst hL;simp only[wI,vX,vP,decide_eq_false_iff_not]at hc;obtain⟨⟨c2,c3⟩,c6⟩:=hc;(have c2:j+1<OB:=by simpa using c2);obtain⟨hN,α,m,o,I⟩:=hS;(have γ:∀s,gt (zB3 j HK L) s=gt L s\/(gt (zB3 j HK L) s= .any/\(gt L s).isBox=false):=λs=>by rw[zDU];(cases J:(Nat.blt s OB&&(zCl j (gt L s)&& !Nat.beq s HK))with|true=>exact .inr ⟨rfl,zHU c6 s J⟩|false=>exact .inl rfl));have U:gt (zB3 j HK L) HK=gt L HK:=zBb L (by unfold HK OB;omega);obtain⟨u,Z⟩:=zNx α U γ;have I2:=I.less Z;(have J:∀s,zCl j (hx (gt (zB3 j HK L)) s)=false:=λs=>by rcases wY s OB2 with h3|h3;(rw[zDY h3];rcases wY s OB with h4|h4;(rw[zDU];(have W:Nat.beq s HK=false:=by(cases hb:Nat.beq s HK with|false=>rfl|true=>have:=wV hb;unfold HK at this;unfold OB at h4;omega));(have β:Nat.blt s OB=true:=by simpa using h4);rw[W,β];(cases J:zCl j (gt L s)with|true=>rfl|false=>exact J));rw[zBb L h4];exact hh.2 s h4 j);(obtain⟨k,rfl⟩:∃k,s=OB2+k:=⟨s-OB2,by omega⟩;exact zJm u (by rw[U];exact hh.1) k));(have e1:OB+j<OB2:=by unfold OB OB2 at*;omega);(have e2:OB+j≠HK:=by unfold HK;unfold OB at*;omega);refine⟨hN,?_,m,zLw o j,?_⟩;(rw[zR];exact u.upd e1);(rw[zR,zCJ e1 e2];exact I2.forget (by omega) c3 J)
end
section
variable {P:Program}
theorem run_app4(w:World){t e sz nb:Nat}(E:zIW P t e sz nb)(ty:TypeId)(A':Option Addr)(n c:Nat)(xs:List Value)(hx:xs.length=n*sz)(τ:n<=c)(β:c<=maxLen)
    (hA:c=0\/∃(g:Nat) (J:Array Value),A'=some ⟨g,0,none⟩/\w.heap[g]? =some (.cells J e (0,0))/\c*sz<=J.size/\J.toList.take (n*sz)=xs)
    (B':Option Addr)(k c':Nat)(I:List Value)(hk:0<k)(hl:I.length=k*sz)(α:Row w B' I)(h1:∀u∈I,u.oneCell'=true)(hb:(n+k)*nb<=140737488355328):
    ∃(A2:Option Addr) (c2:Nat) (w':World),(Builtin.append_ #[t,t] ty #[.slice A' n c,.slice B' k c']).run P w= .ok (.slice A2 (n+k) c2) w'/\n+k<=c2/\c2<=maxLen/\∃U:Array Value,c2*sz<=U.size/\U.toList.take ((n+k)*sz)=xs++I/\
      ((∃(g:Nat) (J:Array Value),A'=some ⟨g,0,none⟩/\A2=A'/\c≠0/\w.heap[g]? =some (.cells J e (0,0))/\w'=w.setRow g U/\U.size=J.size)\/
       (A2=some ⟨w.heap.size,0,none⟩/\w'=w.drew.alloc (.cells U e))):=by
  obtain⟨i,z,hi,hz,rfl,rfl,μ⟩:=E.info
  have ε:n+k<=maxLen:=by
    have:=tN (n+k) E.posb
    unfold maxLen;omega
  have η:n+k<=9223372036854775807:=by simp only[maxLen]at ε;omega
  have π:0<I.length:=by rw[hl];exact Nat.mul_pos hk E.pos
  cases B' with
  |none=>
    cases I with
    |nil=>grind
    |cons u r=>
      obtain⟨ad,h,_⟩:=α 0 u rfl
      cases h
  |some ad=>
    have Z:∀j u,I[j]? =some u->w.cell? (ad.add j)=some u:=by
      intro j u hu
      obtain⟨σ,h,hc⟩:=α j u hu
      grind
    have δ:(xs++I).length=(n+k)*i.size:=by rw[wS,hx,hl,tP]
    have grown:∀(old:Nat),old<n+k->(Builtin.append_ #[t,t] ty #[.slice A' n c,.slice (some ad) k c']).run P w= .ok (.slice (some ⟨w.heap.size,0,none⟩) (n+k) (grownCap w (n+k) old e)) (w.drew.alloc (.cells (xs.toArray++I.toArray++Builtin.zeroCells z.cells (grownCap w (n+k) old e-(n+k))) e))->
      ∃(A2:Option Addr) (c2:Nat) (w':World),(Builtin.append_ #[t,t] ty #[.slice A' n c,.slice (some ad) k c']).run P w= .ok (.slice A2 (n+k) c2) w'/\n+k<=c2/\c2<=maxLen/\∃U:Array Value,c2*i.size<=U.size/\U.toList.take ((n+k)*i.size)=xs++I/\
      ((∃(g:Nat) (J:Array Value),A'=some ⟨g,0,none⟩/\A2=A'/\c≠0/\w.heap[g]? =some (.cells J e (0,0))/\w'=w.setRow g U/\U.size=J.size)\/
       (A2=some ⟨w.heap.size,0,none⟩/\w'=w.drew.alloc (.cells U e))):=by
      intro old ho hr
      have θ:=grownCap_ge w (n+k) old e
      have β:grownCap w (n+k) old e<=maxLen:=grownCap_le_maxLen w (n+k) old e ε
      refine⟨_,_,_,hr,θ,β,_,?_,?_,.inr ⟨rfl,rfl⟩⟩
      · simp only[sI,vV,size_zeroCells,μ,hx,hl,<-tP]
        exact uC _ (by omega)
      · simp only[Array.toList_append,vW]
        rw[<-vW,<-δ]
        exact List.take_left
    rcases hA with h0|⟨g,J,rfl,hg,κ,htake⟩
    · have ξ:n=0:=by omega
      subst ξ h0
      have ν:xs=[]:=vF (by simpa using hx)
      subst ν
      refine grown 0 (by omega) ?_
      cases A' with
      |none=>
        have hr:=run_append_nil (P:=P) w t ty e i z E.under hi hz ad k c' I hl Z (by omega) (by omega) (by have hb:=hb;simp only[vJ]at hb;omega)
        grind
      |some b=>
        exact run_append_grow (P:=P) w t ty e i z E.under hi hz b 0 0 [] (by simp) (λj u h=>by cases h) ad k c' I hl Z (by omega) (by omega) (growslice_fits (by omega) hb)
    · by_cases W:n+k<=c
      · have ζ:n*i.size+I.length<=J.size:=by
          rw[hl,<-tP];exact uW (uC _ W) κ
        have hr:=run_append_room (P:=P) w t ty e i E.under hi g n c J hg ad k c' I hl Z h1 W ζ
        have ι:(J.toList.take (n*i.size)++I++J.toList.drop (n*i.size+I.length)).toArray.size=J.size:=by
          grind
        refine⟨_,_,_,hr,W,β,_,?_,?_,.inl ⟨g,J,rfl,rfl,by omega,hg,rfl,ι⟩⟩
        all_goals grind
      · have γ:∀j u,xs[j]? =some u->w.cell? ((⟨g,0,none⟩:Addr).add j)=some u:=by
          intro j u hu
          have ρ:j<n*i.size:=by rw[<-hx];exact(wB.1 hu).1
          rw[Addr.add_mid,vJ,cell_of_row w g j J e _ hg]
          grind
        exact grown c (by omega) (run_append_grow (P:=P) w t ty e i z E.under hi hz ⟨g,0,none⟩ n c xs hx γ ad k c' I hl Z (by omega) (by omega) (growslice_fits (by omega) hb))
end
section
variable {w0:World}{m0:Mem}{o0:OwnM}{G:GD}{pins:List Nat}{S M:Nat->A}{a:Act}{w:World}{m:Mem}{o:OwnM}{P:Program}{N:Nat}
theorem Inv.adopt(I:Inv w0 m0 o0 G pins S a w m o){j g:Nat}{l:List T}{cs cs':Array Value}{E:Nat}(Z:S (OB+j)= .free)(hg:w.heap[g]? =some (.cells cs E (0,0)))(δ:cs'.size=cs.size)(ho:o g=none)(hG:G g\/w0.heap.size<=g)(hm:∀p,m g p=none)(γ:l.length<=cs'.size)
(hc:∀(i:Nat) (x:T),l[i]? =some x->∃d,x= .d d/\∃u,cs'[i]? =some u/\RepD m d u):
 Inv w0 m0 o0 G pins (upd S (OB+j) (.box l)) a (w.setRow g cs') m (newO o (OB+j) g):=by
 have hf:∀g k,o g≠some (OB+j,k):=by have:=I.slots (OB+j);rw[Z]at this;exact this
 have J:∀k,k≠g->(w.setRow g cs').heap[k]? =w.heap[k]? :=λk hk=>setRow_other w g k cs' hk
 have hS:Same (λx=>G x\/w0.heap.size<=x) w (w.setRow g cs'):=⟨rfl,rfl,rfl,by simp,λk _ hk=>J k λe=>hk (by rw[e];exact hG),λq=>(zCP hg δ q).w⟩
 have β:g<w.heap.size:=(uH.1 hg).1
 have α:∀b l,o b=some l->b≠g:=λb l h e=>by rw[e,ho]at h;cases h
 have hk:∀b l,o b=some l->newO o (OB+j) g b=some l:=by intro b l h;unfold newO;rw[if_neg (α b l h),h,if_neg];intro e;obtain⟨s,k⟩:=l;cases e;exact hf b k h
 have U:∀b l,newO o (OB+j) g b=some l->(b=g/\l=(OB+j,0))\/(b≠g/\o b=some l):=by intro b l h;unfold newO at h;split at h;rename_i e;injection h with h;exact .inl ⟨e,h.symm⟩;(split at h;cases h;rename_i e _;exact .inr ⟨e,h⟩)
 have ζ:∀W,zBc w (w.setRow g cs') W:=zCP hg δ
 have K:Keep (λl=>l.1=OB+j) m w o m (w.setRow g cs') (newO o (OB+j) g):=
  ⟨Mle.refl _,λ_ _ _ _=>rfl,λb l h _=>J b (α b l h),λb l h _=>hk b l h,λb j' h=>hk b _ h,λb s k hs h=>by rcases U b _ h with⟨_,e⟩|⟨_,e⟩;injection e with e _;exact absurd e hs;exact⟨b,k,e⟩,λg _ _=>ζ g⟩
 refine⟨I.same.trans hS,λb p u h=> ?_,I.mono,I.old,λW l h=> ?_,λW l h=> ?_,λg1 g2 l h h'=> ?_,λs hs g hg=>hk g _ (I.pinned s hs g hg),λs=> ?_,I.defers,I.tbl,I.wide,I.shps.keep I.pinned K.sh⟩
 · have h1:=I.sat b p u h;(have hb:b≠g:=λe=>by rw[e,hm]at h;cases h);rw[vS (w:=w) (J b hb)];exact h1
 · rcases U W l h with⟨e,_⟩|⟨_,e⟩;subst e;exact hG;exact I.own W l e
 · rcases U W l h with⟨e,_⟩|⟨_,e⟩;subst e;exact wO β hS.size;exact wO (I.lt W l e) hS.size
 · rcases U g1 l h with⟨e,q⟩|⟨_,e⟩<;>rcases U g2 l h' with⟨e',q'⟩|⟨_,e'⟩;rw[e,e'];subst q;exact absurd e' (hf _ _);subst q';exact absurd e (hf _ _);exact I.inj _ _ _ e e'
 · by_cases e:s=OB+j;(subst e;rw[zT];refine⟨g,λh=>absurd h (by omega),zAO _ _ _,hm,cs',E,setRow_heap w g cs cs' E _ hg,γ,λi x hi=> ?_⟩;obtain⟨d,rfl,u,h2,h3⟩:=hc i x hi;exact⟨rfl,u,h2,h3⟩);(rw[zE e];exact RepA.keep K (λ_=>e) (λb off _ hb=>⟨λe'=>by have:b=OB+j:=e';omega,λ⟨l',ε⟩=>⟨l',by rw[zE (by omega),ε]⟩⟩) (I.slots s))
theorem app_obj(I:Inv w0 m0 o0 G pins S a w m o){t e sz nb:Nat}(E:zIW P t e sz nb)(ty:TypeId){j d:Nat}(hd:d<a.tmps.size)(hdO:d<OB)(ε:(S d).isBox=false)(α:S (OB+j)= .free)
{A':Option Addr}{c:Nat}{l:List (List D)}{xs:List Value}(hnc:l.length<=c)(ω:c<=maxLen)(γ:zIl m sz l xs)
(hA:c=0\/∃(g:Nat) (Z:Array Value),A'=some ⟨g,0,none⟩/\w.heap[g]? =some (.cells Z e (0,0))/\c*sz<=Z.size/\Z.toList.take (l.length*sz)=xs/\o g=none/\(G g\/w0.heap.size<=g)/\∀p,m g p=none)
{l':List (List D)}{v':Value}(hv':RepD m (.seq sz l') v')(τ:0<l'.length)(hb:(l.length+l'.length)*nb<=140737488355328)(μ:e<OFB):
 ∃v w' o',(Builtin.append_ #[t,t] ty #[.slice A' l.length c,v']).run P w= .ok v w'/\Inv w0 m0 o0 G pins (upd (upd S (OB+j) (.box (((l++l').flatMap id).map .d))) d (.t (.view j 0 e sz (l++l').length))) (a.put (some d) v) w' m o':=by
 obtain⟨B',c',θ,rfl,_,_,ρ,h1,ψ⟩:=hv'.rows
 have κ:Row w B' θ:=by intro j u hu;obtain⟨g,p,e,hmm⟩:=ψ j u hu;exact⟨_,e,by rw[Addr.add_mid];exact I.sat _ _ _ hmm⟩
 obtain⟨A2,c2,w',η,q1,q2,U,q3,q4,ι⟩:=run_app4 (P:=P) w E ty A' l.length c xs γ.1 hnc ω (hA.imp id λ⟨g,Z,z1,z2,z3,z4,_⟩=>⟨g,Z,z1,z2,z3,z4⟩) B' l'.length c' θ τ ρ.1 κ h1 hb
 have φ:=γ.append ρ
 have W:∀r∈l++l',r.length=sz:=λr hr=>by obtain⟨i,hi⟩:=uG hr;exact φ.2.1 i r hi
 have ζ:(((l++l').flatMap id).map T.d).length=(l.length+l'.length)*sz:=by rw[wL,zGO W,wS]
 have δ:(((l++l').flatMap id).map T.d).length<=U.size:=by rw[ζ];exact uW (uC _ q1) q3
 have β:∀(i:Nat) (x:T),(((l++l').flatMap id).map T.d)[i]? =some x->∃d,x= .d d/\∃u,U[i]? =some u/\RepD m d u:=by intro i x hi;(have ξ:i<(l.length+l'.length)*sz:=by rw[<-ζ];exact(wB.1 hi).1);have hp:0<sz:=E.pos;(have χ:i/sz<(l++l').length:=by rw[wS];exact sL (by rw[tC];exact ξ));have σ:i %sz<sz:=Nat.mod_lt _ hp;(have he:i/sz*sz+i %sz=i:=by rw[tC];exact Nat.div_add_mod i sz);obtain⟨r,hr⟩:∃r,(l++l')[i/sz]? =some r:=⟨_,wF χ⟩;have hrl:r.length=sz:=W r (wC hr);obtain⟨dd,ν⟩:∃dd,r[i %sz]? =some dd:=⟨_,wF (by rw[hrl];exact σ)⟩;have h2:=zEk W hr σ;rw[he,ν]at h2;rw[wH,h2]at hi;cases hi;obtain⟨u,k1,k2⟩:=φ.2.2 _ r _ dd hr ν;rw[he,<-q4,vR,if_pos ξ]at k1;exact⟨dd,rfl,u,by simpa using k1,k2⟩
 have π:(l++l').length=l.length+l'.length:=wS
 rcases ι with⟨g,Z,rfl,rfl,hc0,hg,rfl,hsz⟩|⟨rfl,rfl⟩
 · obtain⟨g',cur2,z1,z2,z3,z4,z5,z6,z7⟩:=hA.resolve_left hc0;cases z1;have J:=I.adopt (j:=j) α hg hsz z5 z6 z7 δ β;refine⟨_,_,_,η,J.set d _ _ hd (by rw[zE (by omega)];exact ε) ?_⟩;rw[π];exact⟨_,c2,q1,q2,rfl,.inr ⟨g,U,e,zAO _ _ _,rfl,setRow_heap w g Z U e _ hg,by rw[vJ];exact q3,.inr (.inl ⟨μ,rfl⟩)⟩⟩
 · have J:=I.drew.obj_new (j:=j) (E:=e) α δ (λi x hi=>by obtain⟨dd,rfl,u,k1,k2⟩:=β i x hi;exact⟨rfl,u,k1,k2⟩);refine⟨_,_,_,η,J.set d _ _ hd (by rw[zE (by omega)];exact ε) ?_⟩;rw[π];exact⟨_,c2,q1,q2,rfl,.inr ⟨w.heap.size,U,e,zAO _ _ _,rfl,heap_alloc_new w.drew _,by rw[vJ];exact q3,.inr (.inl ⟨μ,rfl⟩)⟩⟩
theorem zRL(S:Nat->A)(b:Nat)(x y:A):upd (upd S b x) b y=upd S b y:=by funext t;unfold upd;grind
theorem noPt_d(l:List D):noPt (l.map T.d)=true:=by unfold noPt;rw[List.all_map];exact wG.2 λ_ _=>rfl
theorem ok_apg(hM:Mk M S){d j E k nb t:Nat}{x y:Operand}{l l':List (List D)}{S1:Nat->A}(κ:op.op= .call {callee:= .builtin .append,args:= #[x,y],argTypes:= #[t,t]})(hd:op.dst=some d)(φ:okD N pins S d=true)(ν:d<OB)(hE:elF P t=some (E,k,nb))
(hj:j<OB)(hp:OB+j∉pins)(hx:cpO M x= .t (.view j 0 E k l.length))(hb:S (OB+j)= .box ((l.flatMap id).map .d))(U:∀r∈l,r.length=k)(ρ:slD k (dO M y)=some l')(ζ:0<l'.length)(ω:(l.length+l'.length)*nb<=140737488355328)(θ:(Nat.blt 0 E&&Nat.blt E OFB)=true)
(α:∀s,S1 s=S s\/(S1 s= .any/\(S s).isBox=false))(hm:∀s,s≠OB+j->zCl j (S1 s)=false):
 OpOK P pins N op S (upd (upd S1 (OB+j) (.box (((l++l').flatMap id).map .d))) d (.t (.view j 0 E k (l++l').length))):=by
 refine zL λw0 m0 o0 G a w m o hN I=> ?_
 obtain⟨h1,h2,h3⟩:=zS φ
 have μ:RepD m (.seq k l') (a.eval y):=zJS ρ λd hd=>zG2 hM I hd
 have δ:=qA hM I x 0
 rw[hx]at δ
 obtain⟨A',c,q2,q3,q5,q4⟩:=δ
 have γ:=I.slots (OB+j)
 rw[hb]at γ
 obtain⟨g,_,b1,b2,cs,E',b3,b4,b5⟩:=γ
 have Ek:=zMv hE
 have Z:((l.flatMap id).map T.d).length=l.length*k:=by rw[wL,zGO U]
 rw[Z]at b4
 have β:zIl m k l (cs.toList.take (l.length*k)):=by refine⟨by have e:=vM (xs:=cs);rw[vZ];omega,λi r hi=>U r (wC hi),λi r q e hi hq=> ?_⟩;have σ:=U r (wC hi);(have ι:q<k:=by rw[<-σ];exact(wB.1 hq).1);(have hc:((l.flatMap id).map T.d)[i*k+q]? =some (.d e):=by rw[wH,zEk U hi ι,hq];rfl);(have η:i*k+q<l.length*k:=by rw[<-Z];exact(wB.1 hc).1);obtain⟨_,u,k1,k2⟩:=b5 _ _ hc;exact⟨u,by rw[vR,if_pos η];simpa using k1,k2⟩
 have ξ:S1 (OB+j)= .box ((l.flatMap id).map .d):=by rcases α (OB+j)with e|⟨_,e⟩;rw[e,hb];rw[hb]at e;cases e
 have ψ:0<E/\E<OFB:=by simpa using θ
 have ε:E<OFB:=ψ.2
 have J0:=(I.less α).forget hj hp λs=>by by_cases e:s=OB+j;(subst e;rw[ξ];exact zTL (noPt_d _) j);exact hm s e
 have hdb:(upd S1 (OB+j) .free d).isBox=false:=by rw[zE (by omega)];rcases α d with e|⟨e,_⟩;rw[e];exact h2;rw[e];rfl
 obtain⟨v,w',o',hr,J⟩:=app_obj J0 Ek op.type (d:=d) (j:=j) (by omega) ν hdb (zT _ _ _) q2 q3 β (q4.imp id λ⟨g',π,E1,z1,z2,W,z4,z5⟩=>by have:=I.inj _ _ _ b1 z1;subst this;have χ:E1=E:=z5.ty (by omega) ε;rw[χ]at W;refine⟨g,π,z2,W,by omega,?_,?_,I.own g _ b1,b2⟩;(rw[b3]at W;injection W with W;injection W with W;rw[W]);(cases τ:zLw o j g with|none=>rfl|some l0=>obtain⟨y1,y2⟩:=qU.1 τ;rw[b1]at y1;injection y1 with y1;exact absurd (by rw[<-y1]) y2)) μ ζ ω ε
 rw[zRL]at J
 refine⟨v,w',m,o',?_,by rw[hd];exact J⟩
 unfold execOp
 rw[κ]
 simp only[resolve,invoke,builtin,wE,wU,wD,vA,vB,uB]
 rw[q5,hr]
 rfl
theorem ok_apg1(hM:Mk M S){d j E k nb t:Nat}{x y:Operand}{l':List (List D)}{W:Nat->A}(γ:op.op= .call {callee:= .builtin .append,args:= #[x,y],argTypes:= #[t,t]})(hd:op.dst=some d)(η:okD N pins S d=true)(ε:d<OB)(hE:elF P t=some (E,k,nb))
(hx:cpO M x= .t (.view j 0 E k 0))(hb:S (OB+j)= .free)(ζ:slD k (dO M y)=some l')(U:0<l'.length)(ι:l'.length*nb<=140737488355328)
(Z:∀s,W s=S s\/(W s= .any/\(S s).isBox=false))(θ:W (OB+j)= .free)(β:E<OFB):
 OpOK P pins N op S (upd (upd W (OB+j) (.box ((l'.flatMap id).map .d))) d (.t (.view j 0 E k l'.length))):=by
 refine zL λw0 m0 o0 G a w m o hN I=> ?_
 obtain⟨h1,h2,h3⟩:=zS η
 have δ:RepD m (.seq k l') (a.eval y):=zJS ζ λd hd=>zG2 hM I hd
 have u:=qA hM I x 0
 rw[hx]at u
 obtain⟨A',c,q2,q3,q5,q4⟩:=u
 have hf:∀g k,o g≠some (OB+j,k):=by have:=I.slots (OB+j);rw[hb]at this;exact this
 have α:c=0:=q4.resolve_right λ⟨g,cs,_,z,_⟩=>hf g 0 z
 have κ:(W d).isBox=false:=by rcases Z d with e|⟨e,_⟩;rw[e];exact h2;rw[e];rfl
 obtain⟨v,w',o',hr,J⟩:=app_obj (l:=[]) (xs:=[]) (c:=c) (A':=A') (I.less Z) (zMv hE) op.type (d:=d) (j:=j) (by omega) ε κ θ q2 q3 ⟨by simp,λi r h=>by simp at h,λi r j d h=>by simp at h⟩ (.inl α) δ U (by simpa using ι) β
 refine⟨v,w',m,o',?_,by rw[hd];exact J⟩
 unfold execOp
 rw[γ]
 simp only[resolve,invoke,builtin,wE,wU,wD,vA,vB,uB]
 simp only[uR]at hr
 rw[q5,hr]
 rfl
end
def renL(j c:Nat):SL->SL
 |[]=>[]
 |(s,x)::r=>(s,rnA j c x)::renL j c r
theorem zN5(j c:Nat):∀(L:SL) (t:Nat),gt (renL j c L) t=rnA j c (gt L t)
 |[],t=>rfl
 |(s,x)::r,t=>by show gt ((s,_)::renL j c r) t=_;rw[zR,zR];unfold upd;by_cases h:t=s;grind;rw[if_neg h,if_neg h,zN5 j c r t]
theorem san_rn(j c:Nat)(x:A):san (rnA j c x)=rnA j c (san x):=by(cases x with|ref b off=>show san (bif Nat.beq b (OB+j)then A.t (.hpt c off)else .ref b off)= .any;cases Nat.beq b (OB+j)<;>rfl|_=>rfl)
section
variable {P:Program}{pins:List Nat}{N:Nat}{S M:Nat->A}{op:Oper}{e:Eff}{d c:Nat}{f f':Nat->A}{L:SL}
theorem OpH.pub{u:SL}{f1 f2:Nat->A}{j:Nat}{la:List T}(h:OpH P pins N op S (gt u))(hk:gt u HK= .hp f1)(hb:gt u (OB+j)= .box la)(hc:(Nat.blt (j+1) OB&& !pins.contains (OB+j))=true)(c6:noPt la=true)(U:f1 c= .free)(η:∀k,f2 k=if k=c then .box la else rnA j c (f1 k)):
  OpH P pins N op S (gt ((HK,.hp f2)::(OB+j,.free)::renL j c u)):=by
 simp only[wI,vX,vP,decide_eq_false_iff_not]at hc
 obtain⟨c2,c3⟩:=hc
 have c2:j+1<OB:=by simpa using c2
 have e1:OB+j<OB2:=by unfold OB OB2 at*;omega
 have e2:OB+j≠HK:=by unfold HK;unfold OB at*;omega
 intro hN hl
 obtain⟨h,α⟩:=h hN hl
 have ζ:Low (gt (renL j c u)):=λt ht=>by rw[zN5,α t ht];rfl
 have γ:Low (gt ((HK,.hp f2)::(OB+j,.free)::renL j c u)):=by
  rw[zR,zR]
  exact(ζ.upd e1).upd zNg
 refine⟨?_,γ⟩
 have he:hx (gt ((HK,.hp f2)::(OB+j,.free)::renL j c u))=upd (λt=>if t=OB+j then .free else if t=OB+(OB+c)then .box la else rnA j c (hx (gt u) t)) HK (.hp f2):=by
  have β:gt ((HK,.hp f2)::(OB+j,.free)::renL j c u) HK= .hp f2:=by rw[zR,zT]
  funext t
  by_cases e:t=HK
  ·
   subst e
   rw[zT]
   exact zBq β (by simp)
  ·
   rw[zE e]
   rcases wY t OB2 with h2|h2
   ·
    rw[zDY h2,zR,zE e,zR]
    unfold upd
    by_cases Z:t=OB+j
    · rw[if_pos Z,if_pos Z]
    · rw[if_neg Z,if_neg Z,if_neg (by unfold OB OB2 at*;omega),zN5,zDY h2]
   ·
    obtain⟨k,rfl⟩:∃k,t=OB2+k:=⟨t-OB2,by omega⟩
    rw[if_neg (by unfold OB OB2 at*;omega),yK,zE6 γ β,η]
    by_cases Z:k=c
    · subst Z;rw[if_pos rfl,if_pos rfl];rfl
    · rw[if_neg Z,if_neg (by omega),zE6 α hk,san_rn]
 rw[he]
 intro W m0 X G a w m o ε I K Q hK
 refine h W m0 X G a w m o ε I K Q λa' w' m' o' δ I'=> ?_
 obtain⟨o2,J⟩:=I'.pub (j:=j) (c:=c) (la:=la) (by omega) c3 (by rw[zE6 α hk,U];rfl) (zBq hb (by simp)) (zQZ c6) (S':=λt=>if t=OB+j then .free else if t=OB+(OB+c)then .box la else rnA j c (hx (gt u) t)) (if_pos rfl) (by
  show(if OB+(OB+c)=OB+j then _ else _)=_
  rw[if_neg (by omega),if_pos rfl]) (λt h1 h2=>by
  show(if t=OB+j then _ else _)=_
  rw[if_neg h1,if_neg h2])
 refine hK a' w' m' o2 δ (J.hk (f:=f1) ?_ f2)
 show(if HK=OB+j then _ else if HK=OB+(OB+c)then _ else rnA j c (hx (gt u) HK))=_
 rw[if_neg (Ne.symm e2),if_neg (by unfold HK OB;omega),zBq hk (by simp)]
 rfl
theorem zTu{j:Nat}(h:Nat.blt (j+1) OB=true):OB+j<OB2/\OB+j≠HK/\j<OB:=by(have h:j+1<OB:=by simpa using h);refine⟨by unfold OB OB2 at*;omega,by unfold HK;unfold OB at*;omega,by omega⟩
theorem h_mkl(hM:Mk M S){j t e q E:Nat}{xn xc:Operand}{kl kc:IntKind}{n:Int}{J:TypeInfo}{z:Value}{c0 l:List T}(α:op.op= .makeSlice t xn xc)(hn:vO M xn=some (.int kl n))(hc:vO M xc=some (.int kc n))(hu:P.underlying t=some (.slice e))(δ:P.info? e=some J)(hz:J.zero=some z)
(W:zGs (litA z)=some c0)(β:c0.length=J.size)(hE:J.size=E)(hq:mkI J.bytes n=some q)(hl:fl (λ_=>c0) (List.replicate q ())=l)(hd:op.dst=some d)(U:okD N pins S d=true)(hj:Nat.blt (j+1) OB=true)(u:M (OB+j)= .free){F:Nat}(hF:(F=e/\e<OFB)\/F=OFB+e):
 OpH P pins N op S (app S [(OB+j,.box l),(d,.t (.view j 0 F E q))]):=by
 subst hl hE
 intro hN γ
 obtain⟨e1,e2,e3⟩:=zTu hj
 have I:=qG hN U
 have Z:hx S (OB+j)= .free:=by rcases hM (OB+j)with e|e;grind;rw[e]at u;exact zBq u (by simp)
 refine⟨?_,(γ.upd e1).upd (lt2 I)⟩
 show OpOK P pins N op (hx S) (hx (upd (upd S (OB+j) _) d _))
 rw[zCJ (lt2 I) (by unfold HK;unfold OB at I;omega),zCJ e1 e2]
 exact ok_make hM.hx α hn hc hu δ hz W β hq hd (qR hN U) (by simpa using I) Z hF
theorem h_lix(W:Mk M S){j off E k n t e:Nat}{x i:Operand}{ki:IntKind}{z:Int}{U:TypeInfo}{y:A}(J:op.op= .indexAddr t x i)(hx:cpO M x= .t (.view j off E k n))(hi:vO M i=some (.int ki z))(hu:P.underlying t=some (.slice e))(I:P.info? e=some U)(hz:0<=z/\z<n)(hy:A.ref (OB+j) (off+z.toNat*U.size)=y)(hd:op.dst=some d)(u:okD N pins S d=true):OpH P pins N op S (app S [(d,y)]):=by subst hy;exact .of (e:=[(d,_)]) λZ=>⟨ok_ixv W.hx J hx hi hu I hz hd (qR Z u),zBz (qG Z u)⟩
theorem h_lld(U:Mk M S){b off t n:Nat}{x:Operand}{l:List T}{z:T}{y:A}(I:op.op= .load t x)(ht:tyA P t=some (false,n))(hx:cpO M x= .ref b off)(hb:M b= .box l)(hl:l[off]? =some z)(hy:norA z=y)(hd:op.dst=some d)(u:okD N pins S d=true):OpH P pins N op S (app S [(d,y)]):=by subst hy;exact .of (e:=[(d,_)]) λJ=>⟨ok_ldx U.hx I ht hx hb hl hd (qR J u),zBz (qG J u)⟩
theorem h_lst(Z:Mk M S){t b off:Nat}{x y:Operand}(J:op.op= .store t x y)(hd:op.dst=none){i:TypeInfo}(hi:P.info? t=some i)(hx:cpO M x= .ref b off){l l':List T}(hb:M b= .box l){q:List T}(W:zDS (cpO M y)=some q)(U:q.length=i.size)(u:off+i.size<=l.length)(I:qZ l off q=l'):OpH P pins N op S (app S [(b,.box l')]):=by subst I;refine .of (e:=[(b,_)]) λ_=>⟨zPG Z.hx J hd hi hx hb W U u,λz hz=> ?_⟩;simp at hz;subst hz;exact .inr ⟨zPk Z hb rfl,rfl⟩
theorem h_lln(U:Mk M S){j off E k n t e:Nat}{x:Operand}{y:A}(I:op.op= .call {callee:= .builtin .len,args:= #[x],argTypes:= #[t]})(hx:cpO M x= .t (.view j off E k n))(Z:P.underlying t=some (.slice e))(hy:A.t (.d (.lit (.int .i64 n)))=y)(hd:op.dst=some d)(u:okD N pins S d=true):OpH P pins N op S (app S [(d,y)]):=by subst hy;exact .of (e:=[(d,_)]) λJ=>⟨ok_lnv U.hx I hx Z hd (qR J u),zBz (qG J u)⟩
theorem h_lsl(hM:Mk M S){j off E k n t e:Nat}{x:Operand}{lo hi:Option Operand}{l0 h0:Option Int}{I:TypeInfo}{off' n':Nat}(α:op.op= .slice t x lo hi none)(hx:cpO M x= .t (.view j off E k n))(hk:I.size=k)(U:bndO M lo=some l0)(W:bndO M hi=some h0)(hu:P.underlying t=some (.slice e))(Z:P.info? e=some I)
(hc:0<=l0.getD 0/\l0.getD 0<=h0.getD n/\h0.getD n<=n)(ho:off+(l0.getD 0).toNat*I.size=off')(J:(h0.getD n).toNat-(l0.getD 0).toNat=n')(hd:op.dst=some d)(u:okD N pins S d=true)(hE:E<OFB):OpH P pins N op S (app S [(d,.t (.view j off' E k n'))]):=
 .of (e:=[(d,_)]) λhN=>⟨ok_slv hM.hx α hx hk U W hu Z hc ho J hd (qR hN u) hE,zBz (qG hN u)⟩
end
def ptM{α:Type}(p:Option Nat)(a:Option α)(b:Nat->Option α):Option α:=match p with
 |none=>a
 |some i=>b i
theorem ptM_some{α:Type}{p:Option Nat}{a:Option α}{b:Nat->Option α}{r:α}(h:ptM p a b=some r):(p=none/\a=some r)\/∃i,p=some i/\b i=some r:=by(cases p with|none=>exact .inl ⟨rfl,h⟩|some i=>exact .inr ⟨i,rfl,h⟩)
def lenI(n m:Nat):Option Unit:=if n=m then some ()else none
theorem zA1{n m:Nat}{u:Unit}(h:lenI n m=some u):n=m:=by unfold lenI at h;grind
theorem zRj{t i:Nat}(h:t<64):cd t i %64=t:=by unfold cd;omega
theorem cd_div{t i:Nat}(h:t<64):cd t i/64=i:=by unfold cd;omega
def ptT(t:Nat):Option Nat->T
 |none=> .d (.lit (.pointer none))
 |some i=> .hpt (cd t i) 0
theorem zJR(t:Nat)(p:Option Nat):(ptT t p).isLoc=false:=by cases p<;>rfl
def hpF(g:Nat->Nat->A):Nat->A:=λc=>g (c %64) (c/64)
theorem zEj{g:Nat->Nat->A}{t i:Nat}(h:t<64):hpF g (cd t i)=g t i:=by unfold hpF;rw[zRj h,cd_div h]
theorem zC2{g I:Nat->Nat->A}{t i:Nat}{x:A}(ht:t<64)(U:I t i=x)(J:∀u j,¬(u=t/\j=i)->I u j=g u j):hpF I=updF (hpF g) (cd t i) x:=by funext c;unfold hpF updF;by_cases e:c=cd t i;(subst e;rw[if_pos rfl,zRj ht,cd_div ht,U]);(rw[if_neg e];refine J _ _ λ⟨Z,W⟩=>e ?_;unfold cd;omega)
theorem hpF_pure{g:Nat->Nat->A}(h:∀t i l,g t i= .box l->∀x∈l,x.isLoc=false):zDy (hpF g):=λc l hl=>h _ _ l hl
theorem rn_pure{x:A}(h:∀l,x= .box l->∀y∈l,y.isLoc=false)(hx:san x=x)(j c:Nat):rnA j c x=x:=by
  cases x with
  |box l=>
    show A.box (l.map (rnT j c))=_
    congr 1
    conv=>rhs;rw[<-List.map_id l]
    refine tE λy hy=> ?_
    have:=h l rfl y hy
    cases y<;>first|rfl|(cases this;done)|(rename_i i;have this:Nat.blt i OB=false:=this;show(bif Nat.blt i OB&&Nat.beq i j then T.mpt (OB+c)else .mpt i)=_;rw[this];rfl)
  |free=>rfl
  |mp l=>rfl
  |any=>rfl
  |rcd b u J I=>rfl
  |_=>cases hx
def arA{α:Type}(l:List α)(f:Nat->α->List T)(i:Nat):A:=match l[i]? with
 |some x=> .box (f i x)
 |none=> .free
section
variable {α:Type}{l:List α}{f:Nat->α->List T}{i:Nat}{x x':α}
theorem zHF(h:l[i]? =some x):arA l f i= .box (f i x):=by unfold arA;rw[h]
theorem zNB{j:Nat}(h:j≠i):arA (l.set i x') f j=arA l f j:=by unfold arA;rw[vN (Ne.symm h)]
theorem zEZ(h:l[i]? =some x):(l.set i x')[i]? =some x':=by grind
theorem zM8(h:l[i]? =some x):arA (l.set i x') f i= .box (f i x'):=zHF (zEZ h)
theorem zF6:arA l f l.length= .free:=by unfold arA;rw[uI (wJ _)]
theorem zIG:arA (l++[x]) f l.length= .box (f l.length x):=by unfold arA;grind
theorem zHt{j:Nat}(h:j≠l.length):arA (l++[x]) f j=arA l f j:=by unfold arA;grind
theorem zSA:(l++[x])[l.length]? =some x:=by simp
theorem zFR(h:∀i x,∀y∈f i x,y.isLoc=false)(q:List T)(e:arA l f i= .box q):∀y∈q,y.isLoc=false:=by unfold arA at e;grind
end
theorem zHI{α:Type}(l:List α)(f:Nat->α->List T)(i:Nat):san (arA l f i)=arA l f i:=by unfold arA;split<;>rfl
def dT{α:Type}(c:α->List D)(a:α):List T:=(c a).map T.d
theorem zKd{α:Type}{c:α->List D}{k:Nat}(h:∀a,(c a).length=k)(a:α):(dT c a).length=k:=by unfold dT;rw[wL,h]
theorem zLG{α:Type}(c:α->List D)(l:List α):fl (dT c) l=((l.map c).flatMap id).map T.d:=by unfold fl dT;(induction l with|nil=>rfl|cons a r u=>grind)
theorem fl_loc{α:Type}(c:α->List D)(l:List α):∀y∈fl (dT c) l,y.isLoc=false:=by intro y hy;obtain⟨a,_,h⟩:=List.mem_flatMap.1 hy;obtain⟨d,_,rfl⟩:=vQ.1 h;rfl
theorem zMY{α:Type}(c:α->List D)(l:List α):noPt (fl (dT c) l)=true:=by refine wG.2 λy hy=> ?_;obtain⟨a,_,h⟩:=List.mem_flatMap.1 hy;obtain⟨d,_,rfl⟩:=vQ.1 h;rfl
theorem zNA{α:Type}{c:α->List D}{c0:List T}{z:α}(h:dT c z=c0)(q:Nat):fl (λ_=>c0) (List.replicate q ())=fl (dT c) (List.replicate q z):=by unfold fl;(induction q with|zero=>rfl|succ q u=>grind)
theorem zOf{α:Type}{c:α->List D}{k:Nat}(h:∀a,(c a).length=k)(l:List α):∀r∈l.map c,r.length=k:=by grind
theorem zO2{α:Type}{c:α->List D}{l:List α}{z:Int}{y:α}(h:idx l z=some y){d:D}(hd:c y=[d])(u:∀a,(c a).length=1):(fl (dT c) l)[0+z.toNat*1]? =some (.d d):=by have:=zSp (c:=dT c) (k:=1) (zKd u) (zGE h).2.2 (q:=0) (by omega);rw[vJ];rw[uP]at this;rw[this];unfold dT;grind
theorem idxV{α:Type}{l:List α}{z:Int}{y:α}{n:Nat}(hn:l.length=n)(h:idx l z=some y):0<=z/\z<(n:Int):=by subst hn;exact⟨(zGE h).1,(zGE h).2.1⟩
def fgtL:List Nat->SL->SL
 |[],L=>L
 |j::r,L=>fgtL r ((OB+j,.free)::zB3 j HK L)
def fgtB(pins:List Nat):List Nat->SL->Bool
 |[],_=>true
 |j::r,L=>Nat.blt (j+1) OB&& !pins.contains (OB+j)&&zIQ j HK L&&fgtB pins r ((OB+j,.free)::zB3 j HK L)
section
variable {P:Program}{pins:List Nat}{N:Nat}{Q:Exit->SL->Prop}{L L':SL}
theorem St.fgt1(hS:St w0 m0 o0 G pins N L a w){j:Nat}(hc:(Nat.blt (j+1) OB&& !pins.contains (OB+j)&&zIQ j HK L)=true)(hh:zO5 L):St w0 m0 o0 G pins N ((OB+j,.free)::zB3 j HK L) a w:=by simp only[wI,vX,vP,decide_eq_false_iff_not]at hc;obtain⟨⟨c2,c3⟩,c6⟩:=hc;(have c2:j+1<OB:=by simpa using c2);obtain⟨hN,hlo,m,o,I⟩:=hS;(have hL2:∀s,gt (zB3 j HK L) s=gt L s\/(gt (zB3 j HK L) s= .any/\(gt L s).isBox=false):=λs=>by rw[zDU];(cases hm:(Nat.blt s OB&&(zCl j (gt L s)&& !Nat.beq s HK))with|true=>exact .inr ⟨rfl,zHU c6 s hm⟩|false=>exact .inl rfl));have hk2:gt (zB3 j HK L) HK=gt L HK:=zBb L (by unfold HK OB;omega);obtain⟨hlo2,hx2⟩:=zNx hlo hk2 hL2;have I2:=I.less hx2;(have hm:∀s,zCl j (hx (gt (zB3 j HK L)) s)=false:=λs=>by rcases wY s OB2 with h3|h3;(rw[zDY h3];rcases wY s OB with h4|h4;(rw[zDU];(have hsd:Nat.beq s HK=false:=by(cases hb:Nat.beq s HK with|false=>rfl|true=>have:=wV hb;unfold HK at this;unfold OB at h4;omega));(have hso:Nat.blt s OB=true:=by simpa using h4);rw[hsd,hso];(cases hm:zCl j (gt L s)with|true=>rfl|false=>exact hm));rw[zBb L h4];exact hh.2 s h4 j);(obtain⟨k,rfl⟩:∃k,s=OB2+k:=⟨s-OB2,by omega⟩;exact zJm hlo2 (by rw[hk2];exact hh.1) k));(have e1:OB+j<OB2:=by unfold OB OB2 at*;omega);(have e2:OB+j≠HK:=by unfold HK;unfold OB at*;omega);refine⟨hN,?_,m,zLw o j,?_⟩;(rw[zR];exact hlo2.upd e1);(rw[zR,zCJ e1 e2];exact I2.forget (by omega) c3 hm)
theorem heapP_fgt{j:Nat}(u:Nat.blt (j+1) OB=true)(hh:zO5 L):zO5 ((OB+j,.free)::zB3 j HK L):=by have I:=(zTu u).2.1;(have e:gt ((OB+j,.free)::zB3 j HK L) HK=gt L HK:=by rw[zR,zE (Ne.symm I),zBb L (by unfold HK OB;omega)]);unfold zO5;rw[e];exact⟨hh.1,hh.2.fgt⟩
theorem St.fgt(js:List Nat):∀(L:SL),St w0 m0 o0 G pins N L a w->fgtB pins js L=true->zO5 L->St w0 m0 o0 G pins N (fgtL js L) a w:=by(induction js with|nil=>exactλL h _ _=>h|cons j r ih=>intro L h hb hh;unfold fgtB at hb;rw[wI]at hb;(have hj:Nat.blt (j+1) OB=true:=by have:=hb.1;simp only[wI]at this;exact this.1.1);exact ih _ (h.fgt1 hb.1 hh) hb.2 (heapP_fgt hj hh))
theorem WkA.of_eq{x y:A}(h:x=y):WkA x y:=by rw[h];exact .refl _
end
theorem fc_of_h{fn:FuncId}{args:List A}{f f':Nat->A}{r:A}(hf:FCH P fn args [] [] f f' r)(h0:∀c,san (f c)= .free)(hp:args.all A.plain=true)(ε:args.length<=OB):FC P fn args [] r:=by intro w m o I β γ Z α δ W;refine(hf w m o I β γ (λg l h=>(Z g l h).1) α δ λs=> ?_).mono ?_;(unfold argH;split;(rename_i h;have J:=W s;unfold argS at J;rw[wK]at J⊢;(cases hx:args[s]? with|none=>trivial|some x=>rw[hx]at J;exact zJa (wG.1 hp x (wC hx)) J));(rename_i h;(have U:RepA m w o (λs=>if s<OB then args.getD s .any else if OB2<=s then san (f (s-OB2))else match([]:List A)[s-OB]? with|some x=>x|none=> .free) s .free (I.getD s undef):=λg k e=>h (Z g _ e).2);split;rw[h0];exact U;exact U));(rintro e w' ⟨u,m',o',S',a',ρ,J,h2,h3,_⟩;rw[zPB hp];exact⟨u,m',o',S',a',ρ,J,h2,h3,λi l h=>by cases h⟩)
end Go.Proofs.YtocolhfjpadaoaaGreatDoor
