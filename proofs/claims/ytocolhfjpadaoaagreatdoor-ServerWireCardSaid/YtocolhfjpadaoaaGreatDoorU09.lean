/-
  Lemmas of this claim, joined.
-/
import Derived.Test.YtocolhfjpadaoaaGreatDoorU08
import Derived.Test.YtocolhfjpadaoaaGreatDoorChecked
set_option linter.unusedVariables false
set_option linter.unusedSimpArgs false
set_option linter.constructorNameAsVariable false
namespace Go.Proofs.YtocolhfjpadaoaaGreatDoor
open Go
abbrev uY:=@Array.toArray_toList
abbrev sN:=@List.mem_cons_self
end Go.Proofs.YtocolhfjpadaoaaGreatDoor
namespace Go.Proofs.YtocolhfjpadaoaaGreatDoor
open Go Go.RowKit
variable {P:Program}{w0:World}{w:World}{m0:Mem}{m:Mem}{o0:OwnM}{o:OwnM}{G:GD}{pins:List Nat}{N:Nat}{a:Act}{op:Oper}{S:Nat->A}{M:Nat->A}{L:SL}{v:Value}{W:World}{Q:Mem}{X:OwnM}
section
variable {P:Program}{pins:List Nat}{N:Nat}{Q:Exit->SL->Prop}{L L':SL}
def Clo(pins:List Nat)(N:Nat)(Q:SL->Prop)(L:SL):Prop:=∃L',Q L'/\∀W m0 X G a w,St W m0 X G pins N L a w->St W m0 X G pins N L' a w
theorem Clo.mk{Q:SL->Prop}(h:Q L):Clo pins N Q L:=⟨L,h,λ_ _ _ _ _ _ h=>h⟩
theorem Clo.to{Q:SL->Prop}(h:Clo pins N Q L')(k:∀W m0 X G a w,St W m0 X G pins N L a w->St W m0 X G pins N L' a w):Clo pins N Q L:=
 let⟨u,a,b⟩:=h
 ⟨u,a,λW m0 X G a w h=>b _ _ _ _ _ _ (k _ _ _ _ _ _ h)⟩
theorem St.eq(e:gt L=gt L')(h:St w0 m0 o0 G pins N L a w):St w0 m0 o0 G pins N L' a w:=by unfold St at h⊢;grind
theorem zSt{c:Code}(k:∀W m0 X G a w,St W m0 X G pins N L a w->St W m0 X G pins N L' a w)(h:qG P pins N c Q L'):qG P pins N c Q L:=
 λu J U W m0 X G a w I=>h u J U W m0 X G a w (k _ _ _ _ _ _ I)
theorem zJl{c:Code}{u:Exit->SL->Prop}(hr:∀L',¬u .ret L')(h:qG P pins N c u L)(k:∀e L,u e L->Clo pins N (Q e) L):qG P pins N c Q L:=
 λFe ne hF W m0 X G a w hS=>wpIn_mono (h Fe ne hF W m0 X G a w hS) λe a' w' ⟨L1,J,I⟩=>by obtain⟨U,h1,Z⟩:=k e L1 J;refine⟨U,h1,?_⟩;cases e<;>first|exact absurd J (hr _)|exact Z _ _ _ _ _ _ I
theorem c_retC(h:Clo pins N (Q .ret) L):qG P pins N .ret Q L:=λFe Z hF W m0 X G a w J=>
 let⟨u,U,I⟩:=h
 wpIn_ret ⟨u,U,.inl (I _ _ _ _ _ _ J)⟩
theorem seq_eq{x y:Code}(e:gt L=gt L')(h:zM3 P pins N x y Q L'):zM3 P pins N x y Q L:=λu J U W m0 X G a w I=>h u J U W m0 X G a w (I.eq e)
theorem ops_eq{ops:Array Oper}{Q:SL->Prop}:∀{r:List Oper} {L L':SL},gt L=gt L'->zCc P pins N ops (Clo pins N Q) r L'->zCc P pins N ops (Clo pins N Q) r L
 |[],L,L',e,h=>Clo.to h λ_ _ _ _ _ _ J=>J.eq e
 |op::r,L,L',e,⟨b,hy,hb⟩=>by(have u:yes ops op L b:=by unfold yes at hy⊢;rw[e];exact hy);refine⟨b,u,?_⟩;(cases b with|true=>grind|false=>rw[if_neg (by simp)]at hb⊢;obtain⟨d,U,I,Z⟩:=hb;exact⟨d,U,by rw[e];exact I,ops_eq (by rw[zQ,zQ,e]) Z⟩)
theorem gt_set:∀(e:Eff) {L L':SL},gt L=gt L'->gt (setL L e)=gt (setL L' e):=λe L L' h=>by rw[zTH,zTH,h]
theorem dok_eq{l0:List Oper}{Q:SL->Prop}:∀{r:List Oper} {acc:List (List Nat×List Nat)} {L L':SL},gt L=gt L'->DOK P pins N l0 (Clo pins N Q) r acc L'->DOK P pins N l0 (Clo pins N Q) r acc L
 |[],_,L,L',e,⟨u,I⟩=>⟨u,Clo.to I λ_ _ _ _ _ _ U=>U.eq e⟩
 |op::r,acc,L,L',e,⟨T,J,u,I⟩=>⟨T,J,by rw[e];exact u,dok_eq (gt_set J e) I⟩
theorem zXb{t:Nat}{b:Bool}(h:gt L t= .t (.d (.lit (.bool b)))):gt L=gt (tB t b L):=by unfold tB;rw[zQ];funext s;unfold upd;grind
theorem c_kT{x y:Code}(b:Bool)(h:qG P pins N (bif b then x else y) Q L):qG P pins N (.cond (.const (.bool b)) x y) Q L:=by intro u J U W m0 X G a w I;have e:a.eval (.const (.bool b))= .bool b:=rfl;refine wpIn_cond_split e (λe=> ?_) (λe=> ?_);subst e;exact h u J U W m0 X G a w I;subst e;exact h u J U W m0 X G a w I
theorem c_lpT{X R:Type}{c:Code}(F:X->SL)(M:Nat->X->Option R)(n0:Nat)(I:X){r:R}(h0:M n0 I=some r)(hz:∀x,M 0 x=none)(hw:WkS L (F I))(hr:zG9 (F I)=true)
(u:∀n x,M (n+1) x=some r->qG P pins N c (zIi (λL'=>∃x',M n x'=some r/\WkS L' (F x')/\zG9 (F x')=true) Q) (F x)):qG P pins N (.loop c) Q L:=by
 intro Fe ne hF W m0 o0 G a w hS
 refine c_loopR (L:=F I) (λn L=>∃x,M n x=some r/\L=F x) n0 ⟨I,h0,rfl⟩ ?_ Fe ne hF W m0 o0 G a w (St.weaken hS hw hr)
 rintro n L ⟨x,U,rfl⟩
 cases n with
  |zero=>rw[hz]at U;cases U
  |succ n=>
   intro Fe ne hF W m0 o0 G a w hS
   refine wpIn_mono (u n x U Fe ne hF W m0 o0 G a w hS) ?_
   rintro e a' w' ⟨L',hq,Z⟩
   refine⟨L',?_,Z⟩
   cases e with
    |normal=>
     obtain⟨x',β,J,α⟩:=hq
     exact⟨n,F x',Nat.lt_succ_self n,⟨x',β,rfl⟩,λ_ _ _ _ _ _ h=>St.weaken h J α⟩
    |_=>exact hq
theorem c_labT{X R:Type}{c b:Code}{l:Nat}(F:X->SL)(M:Nat->X->Option R)(n0:Nat)(I:X){r:R}(hf:findLabel c l=some (.seq .skip b))(h0:M n0 I=some r)(hz:∀x,M 0 x=none)(hw:WkS L (F I))(hr:zG9 (F I)=true)
(u:∀n x,M (n+1) x=some r->qG P pins N b (zNO l (λL'=>∃x',M n x'=some r/\WkS L' (F x')/\zG9 (F x')=true) Q) (F x)):
 qG P pins N (.seq (.label l) b) (zNO l (zHa P pins N c (.seq .skip b) Q) Q) L:=by
 have key:∀n x,M n x=some r->qG P pins N b (zNO l (zHa P pins N c (.seq .skip b) Q) Q) (F x):=by intro n;(induction n with|zero=>grind|succ n ih=>intro x hx;refine zQH (u n x hx) λe L' hq=> ?_;(cases e with|goto l'=>obtain⟨rfl,x',hM,q3,q4⟩:=hq;refine⟨rfl,λZ U hF W m0 o0 G a w J=> ?_⟩;have hc:qG P pins N (.seq .skip b) (zNO l' (zHa P pins N c (.seq .skip b) Q) Q) (F x'):=zRB (c_skip (ih x' hM));exact scope_of hf hc Z U hF W m0 o0 G a w (J.weaken q3 q4)|_=>exact hq))
 intro Z U hF W m0 o0 G a w J
 exact zRB (Q:=zNO l (zHa P pins N c (.seq .skip b) Q) Q) (λZ U hF W m0 o0 G a w J=>wpIn_label ⟨F I,key n0 I h0,J⟩) Z U hF W m0 o0 G a w (J.weaken hw hr)
theorem c_joinT{x y:Code}{I:SL->Prop}(h:qG P pins N x (zIi I Q) L)(Z:∀L',I L'->∃J,qG P pins N y Q J/\∀W m0 X G a w,St W m0 X G pins N L' a w->St W m0 X G pins N J a w):qG P pins N (.seq x y) Q L:=by refine zRB λFe ne hF W m0 X G a w hS=>wpIn_mono (h Fe ne hF W m0 X G a w hS) ?_;rintro e a' w' ⟨L',U,u⟩;(cases e with|normal=>obtain⟨J,h3,h4⟩:=Z L' U;exact⟨J,h3,h4 _ _ _ _ _ _ u⟩|_=>exact⟨L',U,u⟩)
end
section
variable (P:Program)(pins:List Nat)(N:Nat)(E:Nat->SL->Prop)(Q0:Exit->SL->Prop)
def Qs:List It->Exit->SL->Prop
 |[]=>Q0
 | .c y::s=>zIi (qG P pins N y (Qs s)) (Qs s)
 | .b id::s=>zN1 id (Qs s)
 | .l k::s=>zIi (E k) (Qs s)
 | .s c::s=>zNO (lab c) (zHa P pins N c (labR c) (Qs s)) (Qs s)
 | .g l k::s=>zNO l (E k) (Qs s)
 | .a y::s=>λe L=>e= .normal/\qG P pins N y (Qs s) L
 | .kk::s=>λe L=>e= .ret/\Qs s e L
 | .r y z::s=>zIi (zM3 P pins N y z (Qs s)) (Qs s)
def Goal(K:List It):Cur->SL->Prop
 | .c c,L=>qG P pins N c (Qs P pins N E Q0 K) L
 | .o l0 r,L=>zCc P pins N l0.toArray (Clo pins N (Qs P pins N E Q0 K .normal)) r L
 | .d l0 r acc,L=>DOK P pins N l0 (Clo pins N (Qs P pins N E Q0 K .normal)) r acc L
 | .e e,L=>Clo pins N (Qs P pins N E Q0 K e) L
 | .r y z,L=>zM3 P pins N y z (Qs P pins N E Q0 K) L
end
def xb:Bool->Exit
 |true=> .normal
 |false=> .ret
theorem Qs_ret{E:Nat->SL->Prop}{Q0:Exit->SL->Prop}(h:Q0 .ret L):∀{K:List It},(K.all λi=> !i.isA)=true->Qs P pins N E Q0 K .ret L
 |[],_=>h
 |i::s,hk=>by simp only[uO,wH]at hk;have g:Qs P pins N E Q0 s .ret L:=Qs_ret h hk.2;(cases i with|kk=>exact⟨rfl,g⟩|a c=>cases hk.1|_=>exact g)
def It.lv:It->Option Nat
 | .l k=>some k
 | .g _ k=>some k
 |_=>none
def KOK(K:List It)(n:Nat):Prop:=∀i∈K,∀k,i.lv=some k->k<n
theorem KOK.p{i:It}{K:List It}{n:Nat}(h:KOK K n)(hi:i.lv=none):KOK (i::K) n:=λj hj k hk=>by rcases vD.1 hj with rfl|hj;rw[hi]at hk;cases hk;exact h j hj k hk
theorem KOK.j{i:It}{K:List It}{n:Nat}(h:KOK K n)(hi:i.lv=some n):KOK (i::K) (n+1):=λj hj k hk=>by rcases vD.1 hj with rfl|hj;rw[hi]at hk;injection hk with hk;omega;have:=h j hj k hk;omega
theorem KOK.t{i:It}{K:List It}{n:Nat}(h:KOK (i::K) n):KOK K n:=λj u=>h j (vM _ u)
theorem zQJ{E I:Nat->SL->Prop}{Q0:Exit->SL->Prop}{n:Nat}(u:∀k,k<n->E k=I k):∀{K:List It},KOK K n->Qs P pins N E Q0 K=Qs P pins N I Q0 K
 |[],_=>rfl
 | .c y::s,h=>by unfold Qs;rw[zQJ u h.t]
 | .b id::s,h=>by unfold Qs;rw[zQJ u h.t]
 | .l k::s,h=>by unfold Qs;rw[zQJ u h.t,u k (h _ (sN ..) k rfl)]
 | .s c::s,h=>by unfold Qs;rw[zQJ u h.t]
 | .g l k::s,h=>by unfold Qs;rw[zQJ u h.t,u k (h _ (sN ..) k rfl)]
 | .a y::s,h=>by unfold Qs;rw[zQJ u h.t]
 | .kk::s,h=>by unfold Qs;rw[zQJ u h.t]
 | .r y z::s,h=>by unfold Qs;rw[zQJ u h.t]
theorem Goal.eq{E:Nat->SL->Prop}{Q0:Exit->SL->Prop}{K:List It}{u:Cur}{L L':SL}(e:gt L=gt L')(h:Goal P pins N E Q0 K u L'):Goal P pins N E Q0 K u L:=by(cases u with|c c=>exact zSt (λ_ _ _ _ _ _ I=>I.eq e) h|o l0 r=>exact ops_eq e h|d l0 r acc=>exact dok_eq e h|e x=>exact Clo.to h λ_ _ _ _ _ _ I=>I.eq e|r y z=>exact seq_eq e h)
theorem Goal.to{E:Nat->SL->Prop}{Q0:Exit->SL->Prop}{K:List It}{u:Cur}{L L':SL}(I:(fpl u).isSome=true)(k:∀W Q X G a w,St W Q X G pins N L a w->St W Q X G pins N L' a w)(h:Goal P pins N E Q0 K u L'):Goal P pins N E Q0 K u L:=by(cases u with|c c=>exact zSt k h|e x=>exact Clo.to h k|_=>cases I)
section
variable {P:Program}{R:Type}{N:Nat}{fin:Bool->R->SL->Option PL}{r:R}{Q0:Exit->SL->Prop}
theorem zUp{ops:Array Oper}{l:List Nat}{j t:Nat}{w:Bool}(u:op.guard=some (j,w))(ht:(ops[j]?).bind (·.dst)=some t):t∈l++zV1 ops S op:=by unfold zV1;grind
theorem zWC{ops:Array Oper}{l:List Nat}{d:Nat}(hd:op.dst=some d):d∈l++zV1 ops S op:=by unfold zV1;grind
theorem zTd (hm : P.follows .mixedOrders = true) (θ : ∀ b x L c, fin b x L = some c → okL c → x = r → Q0 (xb b) L) : ∀ (n : Nat) {Γ : List Type} (pins : List Nat) (Φ : FEnv Γ) (ρ : Env R Γ) (E : Nat → SL → Prop) (K : List It) (δ : Cur) (L : SL) (T : Tr P R Γ),
    KOK K Γ.length → (∀ X m x, ρ X m x = some r → ∀ L, WkS L (Φ X m x) → zG9 (Φ X m x) = true → E (lev m) L) →
    (chk N fin n pins Φ K δ L T).ok → T.run ρ = some r → Goal P pins N E Q0 K δ L := by
  intro n
  induction n with
  | zero => intro Γ pins Φ ρ E K δ L T _ _ h _; exact lg_x h
  | succ n ih =>
    intro Γ pins Φ ρ E K δ L T W Z h U
    unfold chk at h
    split at h
    · -- told otherwise
      rename_i p L' t ht
      obtain ⟨I, h⟩ := zCj h
      obtain ⟨e, μ⟩ := tNow_ok ht I.1
      exact Goal.eq e (ih pins Φ ρ E K δ L' t W Z h (by rw [← μ]; exact U))
    rename_i η
    clear η
    split at h
    · -- a bind
      rename_i α m k
      have U : Option.pbind m (fun x h => (k x h).run ρ) = some r := U
      cases ε : m with
      | none => subst ε; cases U
      | some x =>
        subst ε
        exact ih pins Φ ρ E K δ L _ W Z (lg_h (lg_a h x) rfl) U
    · rename_i m u v
      obtain ⟨I, h2⟩ := lg_c h
      have U : odite m (fun h => (u h).run ρ) (fun x h => (v x h).run ρ) = some r := U
      cases ε : m with
      | none => subst ε; exact ih pins Φ ρ E K δ L _ W Z (lg_h I rfl) U
      | some x => subst ε; exact ih pins Φ ρ E K δ L _ W Z (lg_h (lg_a h2 x) rfl) U
    · cases U
    split at h
    · rename_i c' L' t hs
      obtain ⟨I, h⟩ := zCj h
      obtain ⟨hf, k, μ⟩ := fNow_ok hs I
      exact Goal.to hf k (ih pins Φ ρ E K δ L' t W Z h (by rw [← μ]; exact U))
    · rename_i η
      clear η
      split at h
      · -- code
        rename_i c
        next =>
          split at h
          · exact zJl (fun _ h => by cases h.1) (c_skip (Q := fun e L' => e = .normal ∧ Clo pins N (Qs P pins N E Q0 K .normal) L') ⟨rfl, ih pins Φ ρ E K (.e .normal) L T W Z h U⟩) fun e L' h => by obtain ⟨rfl, h⟩ := h; exact h
          · exact c_retC (ih pins Φ ρ E K (.e .ret) L T W Z h U)
          · rename_i id
            exact zJl (fun _ h => by cases h.1) (c_exit (Q := fun e L' => e = .exit id ∧ Clo pins N (Qs P pins N E Q0 K (.exit id)) L') ⟨rfl, ih pins Φ ρ E K (.e (.exit id)) L T W Z h U⟩) fun e L' h => by obtain ⟨rfl, h⟩ := h; exact h
          · rename_i l
            exact zJl (fun _ h => by cases h.1) (c_goto (Q := fun e L' => e = .goto l ∧ Clo pins N (Qs P pins N E Q0 K (.goto l)) L') ⟨rfl, ih pins Φ ρ E K (.e (.goto l)) L T W Z h U⟩) fun e L' h => by obtain ⟨rfl, h⟩ := h; exact h
          · rename_i c
            obtain ⟨I, h⟩ := zCj h
            have I : (findLabel c (lab c)).isSome = true := I.1
            refine c_scope (lab c) (labR c) ?_ (ih pins Φ ρ E (.s c :: K) (.c c) L T (W.p rfl) Z h U)
            unfold labR
            cases hf : findLabel c (lab c) with
            | none => rw [hf] at I; cases I
            | some x => rfl
          · rename_i l b
            split at h
            · rename_i c K X ws F k B x _ _ _
              obtain ⟨I, h⟩ := zCj h
              obtain ⟨I, h2, h3⟩ := I
              have I : l = lab c := I
              have h2 : findLabel c (lab c) = some (.seq .skip b) := h2
              have ψ : labR c = .seq .skip b := by unfold labR; rw [h2]; rfl
              show qG P pins N (.seq (.label l) b) (zNO (lab c) (zHa P pins N c (labR c) (Qs P pins N E Q0 K)) (Qs P pins N E Q0 K)) L
              rw [ψ, I]
              have σ : KOK K Γ.length := W.t
              refine c_labT F (lpn fun k x => (B x).run (ρ.cons k)) k x h2 U (fun _ => rfl) (zNE h3.2) h3.1 fun n' q hq => ?_
              let E' : Nat → SL → Prop := fun i L => if i = Γ.length then ∃ x', lpn (fun k x => (B x).run (ρ.cons k)) n' x' = some r ∧ WkS L (F x') ∧ zG9 (F x') = true else E i L
              have κ : ∀ k, k < Γ.length → E' k = E k := fun k hk => by
                funext L
                show (if k = Γ.length then _ else _) = _
                rw [if_neg (by omega)]
              have g := ih pins (Φ.cons F) (ρ.cons (lpn (fun k x => (B x).run (ρ.cons k)) n')) E' (.g l Γ.length :: K) (.c b) (F q) (B q) (σ.j rfl) (fun X m x hx L I h2 => by
                cases m with
                | z => show (if _ then _ else _); rw [if_pos (by rfl)]; exact ⟨x, hx, I, h2⟩
                | s m =>
                  have := zW6 m
                  show (if lev m = _ then _ else _)
                  rw [if_neg (by omega)]
                  exact Z X m x hx L I h2) (lg_a h q) hq
              have g : qG P pins N b (zNO l (E' Γ.length) (Qs P pins N E' Q0 K)) (F q) := g
              rw [zQJ κ σ, I] at g
              have e1 : E' Γ.length = fun L' => ∃ x', lpn (fun k x => (B x).run (ρ.cons k)) n' x' = some r ∧ WkS L' (F x') ∧ zG9 (F x') = true := by
                funext L'
                show (if Γ.length = Γ.length then _ else _) = _
                rw [if_pos rfl]
              grind
            · exact lg_x h
          · rename_i a b _
            split at h
            · rename_i y hy
              have e : a = y := rgs_eq hy
              subst e
              exact zM3.ok (ih pins Φ ρ E K (.r a b) L T W Z h U)
            · rename_i x y hy
              have e : a = .seq x y := rgs_eq hy
              subst e
              exact c_seqR (ih pins Φ ρ E (.r y b :: K) (.c x) L T (W.p rfl) Z h U)
            rename_i τ
            clear τ
            split at h
            · rename_i X q F J t _ _ _
              cases hq : Nat.beq q (pc1 b) with
              | false =>
                rw [hq] at h
                exact zRB (ih pins Φ ρ E (.c b :: K) (.c a) L _ (W.p rfl) Z h U)
              | true =>
              rw [hq] at h
              obtain ⟨I, h2⟩ := lg_c h
              let E' : Nat → SL → Prop := fun i L => if i = Γ.length then ∃ x, (J x).run ρ = some r ∧ WkS L (F x) ∧ zG9 (F x) = true else E i L
              have κ : ∀ k, k < Γ.length → E' k = E k := fun k hk => by
                funext L
                show (if k = Γ.length then _ else _) = _
                rw [if_neg (by omega)]
              have g := ih pins (Φ.cons F) (ρ.cons fun x => (J x).run ρ) E' (.l Γ.length :: K) (.c a) L t (W.j rfl) (fun X m x hx L I h2 => by
                cases m with
                | z => show (if _ then _ else _); rw [if_pos (by rfl)]; exact ⟨x, hx, I, h2⟩
                | s m =>
                  have := zW6 m
                  show (if lev m = _ then _ else _)
                  rw [if_neg (by omega)]
                  exact Z X m x hx L I h2) I U
              have g : qG P pins N a (zIi (E' Γ.length) (Qs P pins N E' Q0 K)) L := g
              rw [zQJ κ W] at g
              refine c_joinT g fun L' hq => ?_
              have hq : (if Γ.length = Γ.length then ∃ x, (J x).run ρ = some r ∧ WkS L' (F x) ∧ zG9 (F x) = true else E Γ.length L') := hq
              rw [if_pos rfl] at hq
              obtain ⟨x, q1, q2, q3⟩ := hq
              exact ⟨F x, ih pins Φ ρ E K (.c b) (F x) (J x) W Z (lg_a h2 x) q1, fun _ _ _ _ _ _ hS => hS.weaken q2 q3⟩
            · exact zRB (ih pins Φ ρ E (.c b :: K) (.c a) L T (W.p rfl) Z h U)
          · rename_i id b
            exact c_block (ih pins Φ ρ E (.b id :: K) (.c b) L T (W.p rfl) Z h U)
          · rename_i b
            split at h
            · rename_i X ws F k B x _ _ _
              obtain ⟨I, h⟩ := zCj h
              refine c_lpT F (lpn fun k x => (B x).run (ρ.cons k)) k x U (fun _ => rfl) (zNE I.2) I.1 fun n' q hq => ?_
              let E' : Nat → SL → Prop := fun i L => if i = Γ.length then ∃ x', lpn (fun k x => (B x).run (ρ.cons k)) n' x' = some r ∧ WkS L (F x') ∧ zG9 (F x') = true else E i L
              have κ : ∀ k, k < Γ.length → E' k = E k := fun k hk => by
                funext L
                show (if k = Γ.length then _ else _) = _
                rw [if_neg (by omega)]
              have g := ih pins (Φ.cons F) (ρ.cons (lpn (fun k x => (B x).run (ρ.cons k)) n')) E' (.l Γ.length :: K) (.c b) (F q) (B q) (W.j rfl) (fun X m x hx L I h2 => by
                cases m with
                | z => show (if _ then _ else _); rw [if_pos (by rfl)]; exact ⟨x, hx, I, h2⟩
                | s m =>
                  have := zW6 m
                  show (if lev m = _ then _ else _)
                  rw [if_neg (by omega)]
                  exact Z X m x hx L I h2) (lg_a h q) hq
              have g : qG P pins N b (zIi (E' Γ.length) (Qs P pins N E' Q0 K)) (F q) := g
              rw [zQJ κ W] at g
              grind
            · exact lg_x h
          · rename_i t a b
            split at h
            · rename_i c hc
              have lit : (lg2 c (chk N fin n pins Φ K (.c a) L T) (chk N fin n pins Φ K (.c b) L T)).ok → qG P pins N (.cond (.tmp t) a b) (Qs P pins N E Q0 K) L := fun h => by
                cases c with
                | true => exact c_t rfl hc (ih pins Φ ρ E K (.c a) L T W Z h U)
                | false => exact c_f rfl hc (ih pins Φ ρ E K (.c b) L T W Z h U)
              split at h
              · rename_i q c' u v _ _ _
                cases hq : Nat.beq q (3 * t + 2) with
                | false => rw [hq] at h; exact lit h
                | true =>
                  rw [hq] at h
                  obtain ⟨I, h⟩ := zCj h
                  have I : c = c' := I.1
                  subst I
                  obtain ⟨I, h2⟩ := lg_c h
                  cases c with
                  | true => exact c_t rfl hc (zSt (fun _ _ _ _ _ _ hS => hS.eq (zXb hc)) (ih pins Φ ρ E K (.c a) _ _ W Z (lg_h I rfl) U))
                  | false => exact c_f rfl hc (zSt (fun _ _ _ _ _ _ hS => hS.eq (zXb hc)) (ih pins Φ ρ E K (.c b) _ _ W Z (lg_h h2 rfl) U))
              · exact lit h
            · exact lg_x h
          · rename_i c a b
            cases c with
            | true => exact c_kT true (ih pins Φ ρ E K (.c a) L T W Z h U)
            | false => exact c_kT false (ih pins Φ ρ E K (.c b) L T W Z h U)
          · rename_i id ops
            have g : zCc P pins N ops.toList.toArray _ ops.toList L := ih pins Φ ρ E K (.o ops.toList ops.toList) L T W Z h U
            have g2 := zOx (id := id) (Q := fun e L' => e = .normal ∧ Clo pins N (Qs P pins N E Q0 K .normal) L') (l := ops.toList) (by
              have : ∀ {r : List Oper} {L : SL}, zCc P pins N ops.toList.toArray (Clo pins N (Qs P pins N E Q0 K .normal)) r L → zCc P pins N ops.toList.toArray (fun L' => Exit.normal = .normal ∧ Clo pins N (Qs P pins N E Q0 K .normal) L') r L := by
                grind
              exact this g)
            rw [uY] at g2
            exact zJl (fun _ h => by cases h.1) g2 fun e L' h => by obtain ⟨rfl, h⟩ := h; exact h
          · rename_i id ops
            obtain ⟨I, h⟩ := zCj h
            have g : DOK P pins N ops.toList _ ops.toList [] L := ih pins Φ ρ E K (.d ops.toList ops.toList []) L T W Z h U
            have g2 := c_draw (id := id) (Q := fun e L' => e = .normal ∧ Clo pins N (Qs P pins N E Q0 K .normal) L') hm I.1 (by
              have : ∀ {r : List Oper} {acc : List (List Nat × List Nat)} {L : SL}, DOK P pins N ops.toList (Clo pins N (Qs P pins N E Q0 K .normal)) r acc L → DOK P pins N ops.toList (fun L' => Exit.normal = .normal ∧ Clo pins N (Qs P pins N E Q0 K .normal) L') r acc L := by
                grind
              exact this g)
            rw [uY] at g2
            exact zJl (fun _ h => by cases h.1) g2 fun e L' h => by obtain ⟨rfl, h⟩ := h; exact h
          · exact lg_x h
      · exact ih pins Φ ρ E K (.e .normal) L T W Z h U
      · -- a plain region
        rename_i l0 op l
        split at h
        · rename_i hg
          have hy : yes l0.toArray op L true := by
            rcases gdX_go hg with h | ⟨j, w, t, I, h2, h3⟩
            · exact g0 h
            · exact gy I h2 h3 rfl
          split at h
          · rename_i c e t ha
            obtain ⟨I, h⟩ := zCj h
            obtain ⟨h2, h3⟩ := yX_ok ha I
            rw [zUh] at h
            exact o_ofY hy h2 rfl (ih pins Φ ρ E K (.o l0 l) (setL L e) t W Z h (by rw [← h3]; exact U))
          rename_i φ
          clear φ
          split at h
          · rename_i c e t ha
            obtain ⟨I, h⟩ := zCj h
            obtain ⟨h2, h3⟩ := actX_ok (Mk.refl _) (fun _ _ => rfl) ha I
            rw [zUh] at h
            exact o_of hy h2 rfl (ih pins Φ ρ E K (.o l0 l) (setL L e) t W Z h (by rw [← h3]; exact U))
          · exact lg_x h
        · rename_i hg
          split at h
          · rename_i d hd
            obtain ⟨I, h⟩ := zCj h
            have k := ih pins Φ ρ E K (.o l0 l) ((d, .tup []) :: L) T W Z h U
            obtain ⟨j, w, t, q1, q2, q3⟩ := zXK hg
            rcases q3 with q3 | q3
            · exact o_skip q1 q2 q3 rfl hd I.1 k
            · exact o_un q1 q2 q3 hd I.1 k
          · exact lg_x h
        · rename_i t c hg
          have hc := gdX_ask hg
          split at h
          · rename_i q c' u v _ _ _
            obtain ⟨I, h⟩ := zCj h
            have I : c = c' := I.1
            subst I
            obtain ⟨I, h2⟩ := lg_c h
            cases c with
            | true => exact Goal.eq (zXb hc) (ih pins Φ ρ E K (.o l0 (op :: l)) _ _ W Z (lg_h I rfl) U)
            | false => exact Goal.eq (zXb hc) (ih pins Φ ρ E K (.o l0 (op :: l)) _ _ W Z (lg_h h2 rfl) U)
          · exact lg_x h
        · exact lg_x h
      · rename_i l0 acc
        obtain ⟨I, h⟩ := zCj h
        exact ⟨okB_ord I.1, ih pins Φ ρ E K (.e .normal) L T W Z h U⟩
      · -- a drawn region
        rename_i l0 op l acc
        rw [zSz] at h
        split at h
        · rename_i hg
          split at h
          · rename_i c e t ha
            obtain ⟨I, h⟩ := zCj h
            rw [zUh, zSz] at h
            obtain ⟨h0, I⟩ := I
            generalize π : hkX (op.dst.getD (N + l.length)) T ++ zV1 l0.toArray (gt L) op = Ts at *
            have ζ : ∀ S', (∀ t ∈ Ts, S' t = gt L t) → OpH P pins N op S' (app S' e) ∧ ∀ ρ, T.run ρ = t.run ρ := fun S' hS => by
              refine actX_ok (mask_Mk hS) (fun d hd => ?_) ha I
              have ν : d ∈ Ts := by rw [← π]; exact zWC hd
              unfold mask
              rw [if_pos (by simpa using ν), hS d ν]
            have ξ := (ζ (gt L) fun _ _ => rfl).2
            refine ⟨Ts, e, ⟨all_T h0, ?_⟩, ih pins Φ ρ E K (.d l0 l _) (setL L e) t W Z h (by rw [← ξ]; exact U)⟩
            rcases gdX_go hg with h | ⟨j, w, t, q1, q2, q3⟩
            · exact .inl ⟨h, fun S' hS => (ζ S' hS).1⟩
            · exact .inr (.inl ⟨j, w, t, q1, q2, by rw [← π]; exact zUp q1 q2, .inl ⟨q3, fun S' hS => (ζ S' hS).1⟩⟩)
          · exact lg_x h
        · rename_i hg
          split at h
          · rename_i d hd
            obtain ⟨I, h⟩ := zCj h
            have k := ih pins Φ ρ E K (.d l0 l _) ((d, .tup []) :: L) T W Z h U
            obtain ⟨j, w, t, q1, q2, q3⟩ := zXK hg
            refine ⟨_, [(d, .tup [])], ⟨fun x hx => ?_, .inr (.inl ⟨j, w, t, q1, q2, zUp q1 q2, .inr ⟨q3, d, hd, zWC hd, I.1, rfl⟩⟩)⟩, k⟩
            simp [keys] at hx
            subst hx
            exact zWC hd
          · exact lg_x h
        · rename_i t c hg
          have hc := gdX_ask hg
          split at h
          · rename_i q c' u v _ _ _
            obtain ⟨I, h⟩ := zCj h
            have I : c = c' := I.1
            subst I
            obtain ⟨I, h2⟩ := lg_c h
            cases c with
            | true => exact Goal.eq (zXb hc) (ih pins Φ ρ E K (.d l0 (op :: l) acc) _ _ W Z (lg_h I rfl) U)
            | false => exact Goal.eq (zXb hc) (ih pins Φ ρ E K (.d l0 (op :: l) acc) _ _ W Z (lg_h h2 rfl) U)
          · exact lg_x h
        · exact lg_x h
      · -- a range
        rename_i y z
        split at h
        · rename_i s c u x0 _ _ _
          split at h
          · rename_i d β
            split at h
            · rename_i p b LA hs
              obtain ⟨I, hg⟩ := zCj h
              obtain ⟨q1, q2, q3, q4, q5⟩ := I
              obtain ⟨g1, g2⟩ := lg_c hg
              clear hg h
              have q1 : d = DK := q1
              have q3 : b = c := q3
              have q4 : (K.all fun i => !i.isA) = true := q4
              subst q1 q3
              have χ : DK ∉ β := fun hx => by
                have q2 : (!β.contains DK) = true := q2
                rw [vJ] at q2
                simp [hx] at q2
              have U : zVt b (fun h => (u h).run ρ) (fun _ => some x0) = some r := U
              refine s.ok β N y z L p b LA _ hs q5 χ (fun hb => ?_) (fun hb => ?_)
              · subst hb
                have g : qG P β N z (fun e L => e = .ret ∧ Q0 e L) LA := ih β Φ ρ E [.kk] (.c z) LA (u rfl) (fun i hi k hk => by
                  rw [vA] at hi
                  subst hi
                  cases hk) Z (lg_h g1 rfl) U
                exact zQH g fun e L' ⟨he, hq⟩ => by
                  subst he
                  exact ⟨rfl, Qs_ret hq q4⟩
              · subst hb
                have h2 := lg_h g2 rfl
                have U : some x0 = some r := U
                injection U with U
                split at h2
                · rename_i c hc
                  obtain ⟨h2, _⟩ := zCj h2
                  exact Qs_ret (θ false _ _ _ hc h2 U) q4
                · exact lg_x h2
            · exact lg_x h
          · exact lg_x h
        · exact lg_x h
      · -- code is left
        rename_i e
        next =>
          split at h
          · split at h
            · rename_i x
              split at h
              · rename_i c hc
                obtain ⟨I, _⟩ := zCj h
                injection U with U
                exact Clo.mk (θ false _ _ _ hc I U)
              · exact lg_x h
            · rename_i x
              split at h
              · rename_i c hc
                obtain ⟨I, _⟩ := zCj h
                injection U with U
                exact Clo.mk (θ true _ _ _ hc I U)
              · exact lg_x h
            · exact lg_x h
          · rename_i b K
            split at h
            · exact Clo.mk (ih pins Φ ρ E K (.c b) L T W.t Z h U)
            · rename_i γ
              have g : Clo pins N (Qs P pins N E Q0 K e) L := ih pins Φ ρ E K (.e e) L T W.t Z h U
              show Clo pins N (zIi _ _ e) L
              cases e <;> first | exact absurd rfl γ | exact g
          · rename_i id K
            split at h
            · rename_i ι
              cases hb : Nat.beq ι id with
              | true =>
                rw [hb] at h
                have g : Clo pins N (Qs P pins N E Q0 K .normal) L := ih pins Φ ρ E K (.e .normal) L T W.t Z h U
                obtain ⟨L', g1, g2⟩ := g
                refine ⟨L', ?_, g2⟩
                show (if ι = id then _ else _)
                rw [if_pos (wT hb)]
                exact g1
              | false =>
                rw [hb] at h
                have g : Clo pins N (Qs P pins N E Q0 K (.exit ι)) L := ih pins Φ ρ E K (.e (.exit ι)) L T W.t Z h U
                obtain ⟨L', g1, g2⟩ := g
                refine ⟨L', ?_, g2⟩
                show (if ι = id then _ else _)
                rw [if_neg (fun e => by rw [e, Nat.beq_refl] at hb; cases hb)]
                exact g1
            · rename_i γ
              have g : Clo pins N (Qs P pins N E Q0 K e) L := ih pins Φ ρ E K (.e e) L T W.t Z h U
              show Clo pins N (zN1 id _ e) L
              cases e <;> first | exact absurd rfl (γ _) | exact g
          · rename_i b K
            split at h
            · exact Clo.mk ⟨rfl, ih pins Φ ρ E K (.c b) L T W.t Z h U⟩
            · exact lg_x h
          · rename_i K
            split at h
            · obtain ⟨L', g1, g2⟩ := (show Clo pins N (Qs P pins N E Q0 K .ret) L from ih pins Φ ρ E K (.e .ret) L T W.t Z h U)
              exact ⟨L', ⟨rfl, g1⟩, g2⟩
            · exact lg_x h
          · rename_i y z K
            split at h
            · exact Clo.mk (ih pins Φ ρ E K (.r y z) L T W.t Z h U)
            · rename_i γ
              have g : Clo pins N (Qs P pins N E Q0 K e) L := ih pins Φ ρ E K (.e e) L T W.t Z h U
              show Clo pins N (zIi _ _ e) L
              cases e <;> first | exact absurd rfl γ | exact g
          · rename_i c K
            split at h
            · exact lg_x h
            · rename_i γ
              have g : Clo pins N (Qs P pins N E Q0 K e) L := ih pins Φ ρ E K (.e e) L T W.t Z h U
              show Clo pins N (zNO _ _ _ e) L
              cases e <;> first | exact absurd rfl (γ _) | exact g
          · rename_i l k K
            split at h
            · split at h
              · rename_i X ws m x _ _ _
                obtain ⟨I, _⟩ := zCj h
                obtain ⟨h0, I, h2, h3⟩ := I
                have I : lev m = k := I
                subst I
                exact Clo.mk ⟨h0, Z X m x U L (zNE h3) h2⟩
              · exact lg_x h
            · rename_i γ
              have g : Clo pins N (Qs P pins N E Q0 K e) L := ih pins Φ ρ E K (.e e) L T W.t Z h U
              show Clo pins N (zNO _ _ _ e) L
              cases e <;> first | exact absurd rfl (γ _) | exact g
          · rename_i k K
            split at h
            · split at h
              · rename_i X ws m x _ _ _
                obtain ⟨I, _⟩ := zCj h
                obtain ⟨I, h2, h3⟩ := I
                have I : lev m = k := I
                subst I
                exact Clo.mk (Z X m x U L (zNE h3) h2)
              · exact lg_x h
            · rename_i γ
              have g : Clo pins N (Qs P pins N E Q0 K e) L := ih pins Φ ρ E K (.e e) L T W.t Z h U
              show Clo pins N (zIi _ _ e) L
              cases e <;> first | exact absurd rfl γ | exact g
end
theorem rn:(∀{P:Program} {R:Type} {Γ:List Type} {ρ:Env R Γ} (x:R),(Tr.r (P:=P) x).run ρ=some x)/\
 (∀{P:Program} {R:Type} {Γ:List Type} {ρ:Env R Γ},(Tr.no (P:=P)).run ρ=none)/\
 (∀{P:Program} {R:Type} {Γ:List Type} {ρ:Env R Γ} {α:Type} (m:Option α) (k:(x:α)->m=some x->Tr P R Γ),(Tr.b m k).run ρ=Option.pbind m λx h=>(k x h).run ρ)/\
 (∀{P:Program} {R:Type} {Γ:List Type} {ρ:Env R Γ} (q:Nat) (c:Bool) (t:c=true->Tr P R Γ) (e:c=false->Tr P R Γ),(Tr.i q c t e).run ρ=zVt c (λh=>(t h).run ρ) (λh=>(e h).run ρ))/\
 (∀{P:Program} {R:Type} {Γ:List Type} {ρ:Env R Γ} (p:Option Nat) (t:p=none->Tr P R Γ) (e:(i:Nat)->p=some i->Tr P R Γ),(Tr.p p t e).run ρ=odite p (λh=>(t h).run ρ) (λi h=>(e i h).run ρ))/\
 (∀{P:Program} {R:Type} {Γ:List Type} {ρ:Env R Γ} (q:Nat) {C:Prop} {x y:A} (I:C) (Z:WkA x y) (t:Tr P R Γ),(Tr.w q I Z t).run ρ=t.run ρ)/\
 (∀{P:Program} {R:Type} {Γ:List Type} {ρ:Env R Γ} (q:Nat) (y:A) (t:Tr P R Γ),(Tr.g q y t).run ρ=t.run ρ)/\
 (∀{P:Program} {R:Type} {Γ:List Type} {ρ:Env R Γ} (q:Nat) {C:Prop} (I:C) (t:Tr P R Γ),(Tr.c q I t).run ρ=t.run ρ)/\
 (∀{P:Program} {R:Type} {Γ:List Type} {ρ:Env R Γ} (q:Nat) (s:qP P) (t:Tr P R Γ),(Tr.o q s t).run ρ=t.run ρ)/\
 (∀{P:Program} {R:Type} {Γ:List Type} {ρ:Env R Γ} (q:Nat) (s:Bool) (t:Tr P R Γ),(Tr.y q s t).run ρ=t.run ρ)/\
 (∀{P:Program} {R:Type} {Γ:List Type} {ρ:Env R Γ} (q s:Nat) {x y:A} (h:x=y) (t:Tr P R Γ),(Tr.t q s h t).run ρ=t.run ρ)/\
 (∀{P:Program} {R:Type} {Γ:List Type} {ρ:Env R Γ} (q:Nat) (s:zK8 P) (t:Tr P R Γ),(Tr.f q s t).run ρ=t.run ρ)/\
 (∀{P:Program} {R:Type} {Γ:List Type} {ρ:Env R Γ} (q:Nat) (s:YRule P) (t:Tr P R Γ),(Tr.vv q s t).run ρ=t.run ρ)/\
 (∀{P:Program} {R:Type} {Γ:List Type} {ρ:Env R Γ} {X:Type} (u:List Nat) (F:X->SL) (n:Nat) (B:X->Tr P R (X::Γ)) (x:X),(Tr.l u F n B x).run ρ=lpn (λk x=>(B x).run (ρ.cons k)) n x)/\
 (∀{P:Program} {R:Type} {Γ:List Type} {ρ:Env R Γ} {X:Type} (q:Nat) (F:X->SL) (J:X->Tr P R Γ) (t:Tr P R (X::Γ)),(Tr.j q F J t).run ρ=t.run (ρ.cons λx=>(J x).run ρ))/\
 (∀{P:Program} {R:Type} {Γ:List Type} {ρ:Env R Γ} {X:Type} (u:List Nat) (m:Jx X Γ) (x:X),(Tr.n (P:=P) u m x).run ρ=ρ _ m x)/\
 (∀{P:Program} {R:Type} {Γ:List Type} {ρ:Env R Γ} (s:RgRule P) (c:Bool) (t:c=true->Tr P R Γ) (U:R),(Tr.rr s c t U).run ρ=zVt c (λh=>(t h).run ρ) (λ_=>some U))/\
 (∀{R:Type} {Γ:List Type} {ρ:Env R Γ} {X:Type} (k:X->Option R) (x:X),Env.cons ρ k _ .z x=k x)/\
 (∀{R:Type} {Γ:List Type} {ρ:Env R Γ} {X Y:Type} (k:X->Option R) (m:Jx Y Γ) (x:Y),Env.cons ρ k _ (.s m) x=ρ _ m x)/\
 (∀{α β:Type} (o:Option α) (f:α->Option β),Option.pbind o (λa _=>f a)=Option.bind o f)/\
 (∀{α:Type} (c:Bool) (x y:α),zVt c (λ_=>x) (λ_=>y)=bif c then x else y)/\
 (∀{α:Type} (p:Option Nat) (x:Option α) (y:Nat->Option α),odite p (λ_=>x) (λi _=>y i)=ptM p x y):=
 ⟨by intros;rfl,by intros;rfl,by intros;rfl,by intros;rfl,by intros;rfl,by intros;rfl,by intros;rfl,by intros;rfl,by intros;rfl,by intros;rfl,by intros;rfl,by intros;rfl,by intros;rfl,by intros;rfl,by intros;rfl,by intros;rfl,by intros;rfl,by intros;rfl,by intros;rfl,λo f=>by cases o<;>rfl,λc x y=>bdite_c c x y,λp x y=>odite_c p x y⟩
theorem yS{X R:Type}{f:(X->Option R)->X->Option R}{g:Nat->X->Option R}(h0:∀q,g 0 q=none)(u:∀n q,f (g n) q=g (n+1) q):∀n q,lpn f n q=g n q
 |0,q=>(h0 q).symm
 |n+1,q=>by show f (lpn f n) q=_;rw[show lpn f n=g n from funext (yS h0 u n),u]
def outPL(L:SL):Nat->List A->PL
 |_,[]=>[]
 |i,x::r=>⟨gt L (OB+i),x⟩::outPL L (i+1) r
theorem zWT:∀{l:List A} {i:Nat},okL (outPL L i l)->outH L i l
 |[],_,_=>trivial
 |x::r,i,h=>⟨h.1,zWT h.2⟩
section
variable {P:Program}{R:Type}
def finH(P:Program)(rs:List ResultVar)(outs:R->List A)(f':R->Nat->A)(y:R->A)(x:R)(L:SL):Option PL:=match resA P (gt L) rs with
 |some z=>some (⟨gt L HK,.hp (f' x)⟩::(outPL L 0 (outs x)++wkA z (y x)))
 |none=>none
theorem finH_ok{rs:List ResultVar}{outs:R->List A}{f':R->Nat->A}{y:R->A}{x:R}{c:PL}(u:finH P rs outs f' y x L=some c)(hl:okL c):endH P rs (outs x) (f' x) (y x) .ret L:=by unfold finH at u;(cases hz:resA P (gt L) rs with|none=>grind|some z=>rw[hz]at u;cases u;obtain⟨k1,k2⟩:=hl;obtain⟨k2,k3⟩:=zAz k2;exact⟨⟨z,hz,zKq k3⟩,zWT k2,k1⟩)
def zET(F:Func):Code:=match F.body with
 |some c=>c
 |none=> .refuse ""
theorem zSP{F:Func}(h:F.body.isSome=true):F.body=some (zET F):=by unfold zET;grind
def zHj(F:Func)(I u:Nat)(fr:List Nat):Bool:=F.body.isSome&&Nat.ble I F.ntmps&&Nat.ble F.ntmps OB&&fr.all (λj=>Nat.ble u j&&Nat.blt j OB)&&Nat.blt u OB&&(match F.results.toList with|[.tmp t]=>Nat.blt t OB|_=>true)
theorem zN(U:P.follows .mixedOrders=true)(fr:List Nat){fn:FuncId}{F:Func}(hf:P.funcs[fn]? =some F){args ins:List A}{outs:R->List A}{f:Nat->A}{f':R->Nat->A}{y:R->A}(T:Tr P R [])
(h:(zHj F args.length ins.length fr,(λx=>Nat.blt (outs x).length OB),(chk F.ntmps (λ_=>finH P F.results.toList outs f' y) 100000 (zGe ins.length) FEnv.nil [] (.c (zET F)) (zFw fr args ins f) T).l)=(true,(λ_=>true),(chk F.ntmps (λ_=>finH P F.results.toList outs f' y) 100000 (zGe ins.length) FEnv.nil [] (.c (zET F)) (zFw fr args ins f) T).r):=by kernel_rfl)(r:R)(hr:T.run Env.nil=some r):FCH P fn args ins (outs r) f (f' r) (y r):=by
 simp only[Prod.mk.injEq]at h
 obtain⟨u,h3,W⟩:=h
 unfold zHj at u
 simp only[wH]at u
 obtain⟨⟨⟨⟨⟨q1,q2⟩,q3⟩,Z⟩,J⟩,q6⟩:=u
 have α:ins.length<OB:=by simpa using J
 have I:∀r,Nat.blt (outs r).length OB=true:=λr=>congrFun h3 r
 refine fch_mk fr hf (zSP q1) rfl (wS q2) (uY).symm (pins:=zGe ins.length) ?_ rfl ?_
 · rw[q3,Z,J,I r];split;(all_goals grind)
 · exact zTd U (λb x L c hc hl e=>by subst e;have key:endH P F.results.toList (outs x) (f' x) (y x) .ret L:=finH_ok hc hl;(cases b<;>exact key)) 100000 (Γ:=[]) _ _ Env.nil (λ_ _=>True) [] (.c (zET F)) _ T (λk hk=>by cases hk) (λX m=>nomatch m) W hr
def outPs(L:SL):List (Nat×List T)->PL
 |[]=>[]
 |(i,l)::r=>⟨gt L i,.box l⟩::outPs L r
theorem zW2:∀{l:List (Nat×List T)},okL (outPs L l)->∀x∈l,gt L x.1= .box x.2
 |[],_,_,hx=>by cases hx
 |(i,l)::r,h,x,hx=>by rcases vD.1 hx with e|e;subst e;exact h.1;exact zW2 h.2 x e
def finC(P:Program)(rs:List ResultVar)(outs:R->List (Nat×List T))(y:R->A)(x:R)(L:SL):Option PL:=match resA P (gt L) rs with
 |some z=>some (wkA z (y x)++outPs L (outs x))
 |none=>none
def outOK(rs:List ResultVar)(outs:List (Nat×List T)):Bool:=match rs with
 |[.tmp t]=>outs.all λx=>x.1 !=t
 |_=>true
theorem zU(J:P.follows .mixedOrders=true){fn:FuncId}{F:Func}(hf:P.funcs[fn]? =some F){args:List A}{outs:R->List (Nat×List T)}{y:R->A}(T:Tr P R [])
(h:(zHj F args.length 0 [],(λx=>outOK F.results.toList (outs x)),(chk F.ntmps (λ_=>finC P F.results.toList outs y) 100000 (zAD 0 args) FEnv.nil [] (.c (zET F)) (zBU 0 args) T).l)=(true,(λ_=>true),(chk F.ntmps (λ_=>finC P F.results.toList outs y) 100000 (zAD 0 args) FEnv.nil [] (.c (zET F)) (zBU 0 args) T).r):=by kernel_rfl)(r:R)(hr:T.run Env.nil=some r):FC P fn args (outs r) (y r):=by
 simp only[Prod.mk.injEq]at h
 obtain⟨I,Z,U⟩:=h
 unfold zHj at I
 simp only[wH]at I
 obtain⟨⟨⟨⟨⟨W,q2⟩,q3⟩,q4⟩,q5⟩,q6⟩:=I
 refine fc_outs hf (zSP W) rfl (wS q2) (uY).symm (pins:=zAD 0 args) (by rw[q3]) rfl (by have k:outOK F.results.toList (outs r)=true:=congrFun Z r;unfold outOK at k;split;rename_i e _;rw[e]at k;exact k;rfl) ?_
 exact zTd J (λb x L c u hl e=>by subst e;(have key:endQ P F.results.toList (outs x) (y x) .ret L:=by unfold finC at u;(cases hz:resA P (gt L) F.results.toList with|none=>rw[hz]at u;cases u|some z=>rw[hz]at u;cases u;exact⟨⟨z,hz,zKq (zAz hl).1⟩,zW2 (zAz hl).2⟩));(cases b<;>exact key)) 100000 (Γ:=[]) _ _ Env.nil (λ_ _=>True) [] (.c (zET F)) _ T (λk hk=>by cases hk) (λX m=>nomatch m) U hr
def argPL(x y:A):PL:=match y with
 | .t (.opt t p)=>wkA x (.t (.opt t p))
 | .cl f u=>[⟨x,.cl f u⟩,bp (u.all λl=>l.all dhT)]
 |y=>bp y.plain::wkA x y
theorem zXO{σ:List Nat}{x y:A}(h:okL (argPL x y)):ArgH σ x y:=by unfold argPL at h;split at h;(cases x with|t x=>exact .opt (wkT_ok h)|_=>have h:=h.1;cases h);(have e:=h.1;subst e;exact .cl _ h.2.1);exact .plain (zKq h.2) h.1
def zPa:List A->List A->PL
 |[],[]=>[]
 |x::r,y::s=>argPL x y++zPa r s
 |_,_=>[bp false]
theorem zEP{σ:List Nat}:∀{l l':List A},okL (zPa l l')->zIL σ l l'
 |[],[],_=> .nil
 |x::r,y::s,h=> .cons (zXO (zAz h).1) (zEP (zAz h).2)
 |[],y::s,h=>Bool.noConfusion h.1
 |x::r,[],h=>Bool.noConfusion h.1
def ptOK:T->Bool
 | .hpt _ _| .opt _ _| .hvw _ _ _ _ _=>true
 |x=> !x.isPt
theorem zXH{τ:List Nat}{x:T}(h:ptOK x=true):PtR τ x x:=by(cases x with|hpt c off=>exact .hpt _ _|opt t p=>exact .opt _ _|hvw c off E k n=>exact .hvw _ _ _ _ _|_=>first|exact .flat rfl|cases h)
def zVi:A->Bool
 | .t x=>ptOK x
 | .tup l=>l.all ptOK
 | .cl _ u=>u.all λl=>l.all ptOK
 |x=>x.plain
theorem zNr{τ:List Nat}{x:A}(h:zVi x=true):ResH τ x x:=by(have tup:∀{l:List T},l.all ptOK=true->PtRs τ l l:=by intro l;(induction l with|nil=>intro _;exact .nil|cons x r I=>intro h;simp only[uO,wH]at h;exact .cons (zXH h.1) (I h.2)));(cases x with|t x=>exact .t (zXH h)|tup l=>exact .tup (tup h)|cl f u=>exact .cl λl hl x hx=>zXH (wI.1 (wI.1 h l hl) x hx)|_=>first|exact .plain h|cases h)
def fnOK(P:Program)(fn:Nat):Bool:=match P.funcs[fn]? with
 |some F=>F.body.isSome&& !(F.name== "runtime.NumGoroutine")
 |none=>false
theorem zH4{fn:Nat}(h:fnOK P fn=true):∃F,P.funcs[fn]? =some F/\F.body.isNone=false/\(F.name== "runtime.NumGoroutine")=false:=by unfold fnOK at h;(cases hf:P.funcs[fn]? with|none=>grind|some F=>rw[hf]at h;simp only[wH,vQ]at h;refine⟨F,rfl,?_,h.2⟩;(cases hb:F.body with|none=>grind|some c=>rfl))
def zRz(P:Program)(pins:List Nat)(N:Nat)(M:Nat->A)(fn:Nat)(args:List A)(y:A)(k:Nat->List Pr×Eff)(op:Oper):Option (PL×Eff):=match op.dst,op.op with
 |some d,.call {callee:= .value fx,args:=⟨xs⟩,argTypes:=ts}=>some (bp (fnOK P fn)::bp (okD N pins M d)::bp (Nat.ble args.length OB)::⟨vO M fx,some (.func (.func fn) #[] #[])⟩::(zPa (xs.map (cpO M)) args++(k d).1),(k d).2)
 |_,_=>none
theorem zL4{fn:Nat}{args:List A}{y:A}{k:Nat->List Pr×Eff}{c:PL}{e:Eff}(h:zRz P pins N M fn args y k op=some (c,e))(hc:okL c):
 ∃d fx xs ts F,op.dst=some d/\op.op= .call {callee:= .value fx,args:=List.toArray xs,argTypes:=ts}/\vO M fx=some (.func (.func fn) #[] #[])/\okD N pins M d=true/\P.funcs[fn]? =some F/\F.body.isNone=false/\(F.name== "runtime.NumGoroutine")=false/\Nat.ble args.length OB=true/\okL (zPa (xs.map (cpO M)) args)/\okL (k d).1/\e=(k d).2:=by
 unfold zRz at h
 split at h
 · rename_i d fx xs ts hd ho;cases h;obtain⟨q1,q2,q3,q4,q5⟩:=hc;obtain⟨F,f1,f2,f3⟩:=zH4 q1;obtain⟨q5,q6⟩:=zAz q5;grind
 · cases h
theorem zAE{d:Nat}(h:okD N pins M d=true)(e:M d=S d):okD N pins S d=true:=by unfold okD at h⊢;rw[<-e];exact h
def cH{fn:Nat}{args:List A}{f f':Nat->A}{y:A}(hf:FCH P fn args [] [] f f' y)[p:PuH f][p':PuH f']:qP P where
 hk:=[HK]
 pr pins N M op:=zRz P pins N M fn args y (λd=>([bp (zVi y),⟨M HK,.hp f⟩],[(HK,.hp f'),(d,y)])) op
 ok pins N S M op c e hM hd h hc:=by obtain⟨d,fx,xs,ts,F,J,h2,h3,h4,h5,U,h7,W,Z,⟨u,I,_⟩,rfl⟩:=zL4 h hc;have hk:S HK= .hp f:=hM.get I (by simp);exact h_call hM hk (σ:=[]) (fr:=[]) h2 h3 J (zAE h4 (hd d J)) h5 U h7 hf p.h p'.h zWw rfl rfl rfl (zEP Z) W (zNr u)
def cR{fn:Nat}{args:List A}{f:Nat->A}{y:A}(hf:FCH P fn args [] [] f f y)[p:PuH f]:qP P where
 hk:=[HK]
 pr pins N M op:=zRz P pins N M fn args y (λd=>([bp (zVi y),⟨M HK,.hp f⟩],[(d,y)])) op
 ok pins N S M op c e hM hd h hc:=by obtain⟨d,fx,xs,ts,F,J,h2,h3,h4,h5,U,h7,W,Z,⟨u,I,_⟩,rfl⟩:=zL4 h hc;have hk:S HK= .hp f:=hM.get I (by simp);exact zSv hM hk (σ:=[]) (fr:=[]) h2 h3 J (zAE h4 (hd d J)) h5 U h7 hf p.h zWw rfl rfl rfl (zEP Z) W (zNr u)
def zXQ:List A->List A->PL
 |[],[]=>[]
 |x::r,y::s=>wkA x y++zXQ r s
 |_,_=>[bp false]
theorem zPd:∀{l l':List A},okL (zXQ l l')->zIB l l'
 |[],[],_=> .nil
 |x::r,y::s,h=> .cons (zKq (zAz h).1) (zPd (zAz h).2)
 |[],y::s,h=>Bool.noConfusion h.1
 |x::r,[],h=>Bool.noConfusion h.1
def cA{fn:Nat}{args:List A}{y:A}(hf:FC P fn args [] y):qP P where
 hk:=[]
 pr pins N M op:=zRz P pins N M fn args y (λd=>([bp y.noRef,bp (args.all A.plain)],[(d,y)])) op
 ok pins N S M op c e hM hd h hc:=by obtain⟨d,fx,xs,ts,F,U,h2,h3,h4,h5,Z,h7,h8,W,⟨J,u,_⟩,rfl⟩:=zL4 h hc;(have key:∀{l I:List A},zIL [] l I->I.all A.plain=true->zIB l I:=by intro l I h;(induction h with|nil=>intro _;exact .nil|cons hx _ ih=>intro hp;simp only[uO,wH]at hp;refine .cons ?_ (ih hp.2);(cases hx with|plain h _=>exact h|_=>cases hp.1)));exact ok_callh hM h2 h3 U (zAE h4 (hd d U)) h5 Z h7 (key (zEP (σ:=[]) W) u) u hf J
def cP{fn:Nat}{caps:List (List D)}{args:List A}{y:A}(hf:FC P fn (args++caps.map A.imm) [] y)(hfn:∃F,P.funcs[fn]? =some F/\F.body.isNone=false/\(F.name== "runtime.NumGoroutine")=false):qP P where
 hk:=[]
 pr pins N M op:=match op.dst,op.op with
  |some d,.call {callee:= .value fx,args:=⟨xs⟩,argTypes:=_}=>some (⟨dO M fx,some (.clo fn caps)⟩::bp (okD N pins M d)::bp (args.all A.plain)::bp y.noRef::zXQ (xs.map (cpO M)) args,[(d,y)])
  |_,_=>none
 ok pins N S M op c e hM hd h hc:=by split at h;(rename_i d fx xs ts h1 h2;cases h;obtain⟨q1,q2,q3,q4,q5⟩:=hc;obtain⟨F,f1,f2,f3⟩:=hfn;exact .of (e:=[(d,y)]) λhN=>⟨ok_callc hM.hx h2 q1 h1 (qA hN (zAE q2 (hd d h1))) f1 f2 f3 (zPd q5) q3 hf q4,zAr (zX hN (zAE q2 (hd d h1)))⟩);cases h
structure FnH(P:Program)(fn:Nat)(caps:List (List T))(n:Nat):Prop where
 hf:∃F,P.funcs[fn]? =some F/\F.body.isNone=false/\(F.name== "runtime.NumGoroutine")=false
 hl:Nat.ble (n+caps.length) OB=true
 hd:caps.all (λl=>l.all dhT)=true
theorem cl_cp{u:List (List T)}(h:u.all (λl=>l.all dhT)=true):u.map (λl=>l.map cpT)=u:=by
  have one:∀l∈u,l.map cpT=l:=λl hl=>by
    have I:=wI.1 h l hl
    have:∀x∈l,cpT x=x:=λx hx=>by
      have J:=wI.1 I x hx
      cases x<;>first|rfl|cases J
    conv=>rhs;rw[<-sP l]
    exact uV λx hx=>this x hx
  conv=>rhs;rw[<-sP u]
  exact uV λl hl=>one l hl
theorem clW{fn n:Nat}{u:List (List T)}(h:FnH P fn u n):WkA (.cl fn (u.map λl=>l.map cpT)) (.cl fn u):=by rw[cl_cp h.hd];exact .refl _
theorem clH{fn n:Nat}{u:List (List T)}{σ:List Nat}(h:FnH P fn u n):ArgH σ (.cl fn (u.map λl=>l.map cpT)) (.cl fn u):=by rw[cl_cp h.hd];exact .cl _ h.hd
def cF{fn n:Nat}{u:List (List T)}{args:List A}{f:Nat->A}{y:A}(hf:FCH P fn (args++u.map A.imt) [] [] f f y)[p:PuH f](I:FnH P fn u n):qP P where
 hk:=[HK]
 pr pins N M op:=match op.dst,op.op with
  |some d,.call {callee:= .value (.tmp t),args:=⟨xs⟩,argTypes:=_}=>some (⟨M t,.cl fn u⟩::bp (okD N pins M d)::bp (zVi y)::⟨M HK,.hp f⟩::⟨args.length,n⟩::zPa (xs.map (cpO M)) args,[(d,y)])
  |_,_=>none
 ok pins N S M op c e hM hd h hc:=by split at h;(rename_i d t xs ts W h2;cases h;obtain⟨J,q2,q3,q4,Z,q6⟩:=hc;have hk:S HK= .hp f:=hM.get q4 (by simp);have Z:args.length=n:=Z;(have U:Nat.ble (args++u.map A.imt).length OB=true:=by rw[wP,wM,Z];exact I.hl);have J:M t= .cl fn u:=J;(have e0:cpO M (.tmp t)= .cl fn u:=by simp only[cpO,J];show A.cl fn (u.map λl=>l.map cpT)=_;rw[cl_cp I.hd]);have key:=h_callT hM hk h2 e0 I.hd W (zAE q2 (hd d W)) I.hf hf p.h p.h (zEP q6) U (zNr q3);(have e:app S [(HK,.hp f),(d,y)]=app S [(d,y)]:=by show upd (upd S HK (.hp f)) d y=upd S d y;congr 1;funext s;unfold upd;split;rename_i e;rw[e,hk];rfl);rw[e]at key;exact key);cases h
def cRA{fn:Nat}(X:List A){args:List A}{f:Nat->A}{y:A}(hf:FCH P fn args [] [] f f y)[p:PuH f](ha:zIL [] X args):qP P where
 hk:=[HK]
 pr pins N M op:=match op.dst,op.op with
  |some d,.call {callee:= .value fx,args:=⟨xs⟩,argTypes:=_}=>some ([bp (fnOK P fn),bp (okD N pins M d),bp (Nat.ble args.length OB),⟨vO M fx,some (.func (.func fn) #[] #[])⟩,⟨xs.map (cpO M),X⟩,bp (zVi y),⟨M HK,.hp f⟩],[(d,y)])
  |_,_=>none
 ok pins N S M op c e hM hd h hc:=by split at h;(rename_i d fx xs ts I h2;cases h;obtain⟨q1,q2,q3,Z,u,U,q7,_⟩:=hc;obtain⟨F,W,J,f3⟩:=zH4 q1;have u:xs.map (cpO M)=X:=u;exact zSv hM (hM.get q7 (by simp)) (σ:=[]) (fr:=[]) h2 Z I (zAE q2 (hd d I)) W J f3 hf p.h zWw rfl rfl rfl (by rw[u];exact ha) q3 (zNr U));cases h
def refIs(x:A)(s:Nat):Bool:=match x with
 | .ref b 0=>Nat.beq b s
 |_=>false
theorem zXL{x:A}{s:Nat}(h:refIs x s=true):x= .ref s 0:=by unfold refIs at h;split at h;rw[wT h];cases h
def mvIs(M:Nat->A)(x:Operand)(s:Nat):Bool:=match x with
 | .tmp t=>Nat.beq t s||refIs (cpO M (.tmp t)) s
 |x=>refIs (cpO M x) s
theorem mvIs_ok{x:Operand}{s:Nat}(h:mvIs M x s=true):x= .tmp s\/cpO M x= .ref s 0:=by unfold mvIs at h;split at h;(rename_i t;(cases hb:Nat.beq t s with|true=>exact .inl (by rw[wT hb])|false=>rw[hb]at h;exact .inr (zXL h)));exact .inr (zXL h)
def mvPL(M:Nat->A)(s:Nat):Nat->List Operand->List A->PL
 |0,x::xs,y::u=>⟨y,M s⟩::bp (mvIs M x s)::bp (u.all A.plain)::zXQ (xs.map (cpO M)) u
 |i+1,x::xs,y::u=>bp y.plain::(wkA (cpO M x) y++mvPL M s i xs u)
 |_,_,_=>[bp false]
theorem mvPL_ok{s:Nat}:∀{i:Nat} {xs:List Operand} {args:List A},okL (mvPL M s i xs args)->zU0 M s i xs args
 |0,x::xs,y::u,h=>⟨⟨h.1,mvIs_ok h.2.1⟩,zPd h.2.2.2,h.2.2.1⟩
 |i+1,x::xs,y::u,h=>⟨⟨zKq (zAz h.2).1,h.1⟩,mvPL_ok (zAz h.2).2⟩
 |0,[],_,h=>Bool.noConfusion h.1
 |_+1,[],_,h=>Bool.noConfusion h.1
 |0,_::_,[],h=>Bool.noConfusion h.1
 |_+1,_::_,[],h=>Bool.noConfusion h.1
def cM(s i:Nat){fn:Nat}{args:List A}{outs:List (Nat×List T)}{y:A}(hf:FC P fn args outs y):qP P where
 hk:=[s]
 pr pins N M op:=match op.dst,op.op,zV7 pins M outs s i with
  |some d,.call {callee:= .value fx,args:=⟨xs⟩,argTypes:=_},some z=>some (bp (fnOK P fn)::bp (okD N pins M d)::⟨vO M fx,some (.func (.func fn) #[] #[])⟩::⟨(d==s|| !Nat.blt s OB|| !Nat.blt i OB),false⟩::bp y.noRef::mvPL M s i xs args,[(s,z),(d,y)])
  |_,_,_=>none
 ok pins N S M op c e hM hd h hc:=by split at h;(rename_i d fx xs ts z u W h3;cases h;obtain⟨q1,q2,q3,U,q5,J⟩:=hc;obtain⟨F,Z,I,f3⟩:=zH4 q1;exact ok_callmh hM W q3 u (zAE q2 (hd d u)) Z I f3 (mvPL_ok J) h3 U hf q5);cases h
end
section
variable {P:Program}
def ld{f:Nat->A}{c:Nat}{l:List T}(hf:f c= .box l):qP P where
 hk:=[HK]
 pr pins N M op:=match op.dst,op.op with
  |some d,.load t x=>match cpO M x,tyA P t with
   | .t (.hpt u off),some (false,_)=>match l[off]? with
    |some z=>match norH z with
     |some y=>some ([bp (okD N pins M d),⟨M HK,.hp f⟩,⟨u,c⟩],[(d,y)])
     |none=>none
    |none=>none
   |_,_=>none
  |_,_=>none
 ok pins N S M op c0 e hM hd h hc:=by
  split at h
  ·
   rename_i d t x I U
   split at h
   ·
    rename_i u off n h3 Z
    split at h
    ·
     rename_i z h5
     split at h
     ·
      rename_i y J
      cases h
      obtain⟨W,q2,rfl,_⟩:=hc
      exact h_ld hM (hM.get q2 (by simp)) U Z h3 hf h5 J I (zAE W (hd d I))
     · cases h
    · cases h
   · cases h
  · cases h
def st{f f':Nat->A}{c:Nat}{l l':List T}(hf:f c= .box l)(u:f'=updF f c (.box l')):qP P where
 hk:=[HK]
 pr pins N M op:=match op.dst,op.op with
  |none,.store t x y=>match cpO M x,P.info? t,zCH (cpO M y)with| .t (.hpt I off),some i,some q=>some ([⟨M HK,.hp f⟩,⟨I,c⟩,bp (Nat.beq q.length i.size),bp (Nat.ble (off+i.size) l.length),⟨qD l off q,l'⟩],[(HK,.hp f')])|_,_,_=>none
  |_,_=>none
 ok pins N S M op c0 e hM hd h hc:=by split at h;(rename_i t x y h1 U;split at h;(rename_i I off i q h3 Z h5;cases h;obtain⟨W,rfl,q3,J,q5,_⟩:=hc;exact h_st hM (hM.get W (by simp)) U h1 Z h3 hf h5 (wT q3) (wS J) q5 u);cases h);cases h
end
theorem mixed:Tryz.prog.follows .mixedOrders=true:=by kernel_rfl
def arrLen(P:Program)(t:TypeId):Option Nat:=match P.underlying t with
 |some (.array len e)=>match P.info? e with|some u=>if u.size=1 then some len else none|none=>none
 |_=>none
section
variable {P:Program}{pins:List Nat}{N:Nat}{S M:Nat->A}
theorem ok_gix(hM:Mk M S){d t g len:Nat}{i:Operand}{ki:IntKind}{n:Int}{u:Value}(δ:op.op= .indexAddr t (.global g) i)(hd:op.dst=some d)(α:okD N pins S d=true)(hl:arrLen P t=some len)(hn:vO M i=some (.int ki n))(hb:0<=n/\n<len)(hu:TBL g n.toNat=some u)(h1:u.oneCell'=true):OpOK P pins N op S (upd S d (.imm [.lit u])):=by refine zL λW Q X G a w m o hN I=> ?_;obtain⟨k1,k2,k3⟩:=zP α;unfold arrLen at hl;split at hl;(case h_2=>cases hl);rename_i ζ e γ;split at hl;(case h_2=>cases hl);rename_i ie β;split at hl;(case isFalse=>cases hl);rename_i ε;cases hl;have Z:m g n.toNat=some u:=I.mono _ _ _ (I.tbl _ _ _ hu);(have U:RepA m w o (upd S d (.imm [.lit u])) d (.imm [.lit u]) (.pointer (some ⟨g,0+n.toNat*1,none⟩)):=by refine⟨g,_,rfl,λj d hj=> ?_⟩;(cases j with|zero=>cases hj;exact⟨u,by rw[vF,uI,uC];exact Z,.lit u h1⟩|succ j=>simp at hj));refine⟨_,w,m,o,?_,by rw[hd];exact I.set d _ _ (by omega) k2 U⟩;unfold execOp;rw[δ];simp only[wE];rw[zA0 hM I hn,show a.eval (.global g)= .pointer (some ⟨g,0,none⟩)from rfl];(have J:(Instr.indexAt t (.pointer (some ⟨g,0,none⟩)) (.int ki n)).run P w= .ok (.pointer (some ⟨g,0+n.toNat*ie.size,none⟩)) w:=by simp[Instr.indexAt,asIntOf,Instr.sureAddr,run_underlying γ,hb,sizeOf,typeInfo,β,Addr.add_mid]);rw[J,ε];rfl
end
def TabIs(g:Nat)(k:IntKind)(l:List Int):Bool:=match TBLS.find? (λx=>x.1==g)with
 |some x=>x.2.length==l.length&&(List.range l.length).all λi=>match x.2[i]?,l[i]? with|some (.int I z),some u=>I==k&&z==u|_,_=>false
 |none=>false
theorem tab_get{g:Nat}{k:IntKind}{l:List Int}(h:TabIs g k l=true){n x:Int}(hx:idx l n=some x):TBL g n.toNat=some (.int k x)/\0<=n/\n<l.length:=by unfold idx at hx;by_cases J:0<=n;(rw[dec_t' J]at hx;have hx:l[n.toNat]? =some x:=hx;have I:n.toNat<l.length:=(wF.1 hx).1;refine⟨?_,J,by omega⟩;unfold TabIs at h;unfold TBL;split at h;(rename_i y hy;rw[hy];simp only[wH,wI]at h;have u:=h.2 n.toNat (tN.2 I);show y.2[n.toNat]? =_;rw[hx]at u;split at u;(rename_i k' z W Z U;injection U with U;simp only[wH,beq_iff_eq]at u;rw[Z,u.1,u.2,U]);cases u);cases h);(rw[dec_f' J]at hx;cases hx)
where
 dec_t' {p:Prop} [Decidable p] (h:p):decide p=true:=decide_eq_true h
 dec_f' {p:Prop} [Decidable p] (h:¬p):decide p=false:=decide_eq_false h
abbrev TT:=Tr Tryz.prog
theorem WkA.oe{x y:A}(h:x=y):WkA x y:=by rw[h];exact .refl _
theorem bT{c v:Bool}(h:c=v):A.t (.d (.lit (.bool c)))= .t (.d (.lit (.bool v))):=by rw[h]
theorem ptS(t:Nat){p:Option Nat}{i:Nat}(h:p=some i):A.t (.opt t p)= .t (.opt t (some i)):=by rw[h]
theorem lnE{α:Type}(l:List α)(c:α->List D):WkA (.t (.d (.lit (.int .i64 ((l.map c).length:Nat))))) (.t (.d (.lit (.int .i64 (l.length:Nat))))):= .oe (lenE l c)
abbrev bW(x y:Bool):Prop:=WkA (.t (.d (.lit (.bool x)))) (.t (.d (.lit (.bool y))))
theorem bW_of{x y:Bool}(h:x=y):bW x y:= .oe (bT h)
theorem seqE(x y:List UInt8):bW ((ByteArray.mk ⟨x⟩).toList==(ByteArray.mk ⟨y⟩).toList) (x==y):=bW_of (zSp x y)
theorem sneE(x y:List UInt8):bW (!((ByteArray.mk ⟨x⟩).toList==(ByteArray.mk ⟨y⟩).toList)) (!(x==y)):=bW_of (by rw[zSp])
abbrev iW(k:IntKind)(x y:Int):Prop:=WkA (.t (.d (.lit (.int k x)))) (.t (.d (.lit (.int k y))))
theorem iW_of{k:IntKind}{x y:Int}(h:x=y):iW k x y:=by rw[h];exact .refl _
theorem u8E(z:Int):iW .u8 (IntKind.u8.wrap z) ((U8 z).toNat:Int):=iW_of (u8c z)
theorem zWG(c:UInt8):iW .i64 (IntKind.i64.wrap (c.toNat:Int)) (c.toNat:Int):=iW_of (i64_u8 c)
theorem u648E(c:UInt8):iW .u64 (IntKind.u64.wrap (c.toNat:Int)) (c.toNat:Int):=iW_of (u64_u8 c)
theorem u328E(c:UInt8):iW .u32 (IntKind.u32.wrap (c.toNat:Int)) (c.toNat:Int):=iW_of (u32_u8 c)
section
variable {P:Program}
def bv{I:BinOp}{u J:Value}(hv:binV I u v=some J):qP P where
 hk:=[]
 pr pins N M op:=match op.dst,op.op with
  |some d,.binOp b t x y yt=>some ([bp (okD N pins M d),⟨b,I⟩,⟨vO M x,some u⟩,⟨vO M y,some v⟩,bp (notB u)],[(d,litA J)])
  |_,_=>none
 ok pins N S M op c0 e hM hd h hc:=by split at h;(rename_i d b t x y yt U W;cases h;obtain⟨q1,rfl,q3,Z,q5,_⟩:=hc;exact zPf (tk:=false) hM U (zAE q1 (hd d U)) (by rw[W];exact opF_bin q3 Z q5 hv) trivial);cases h
def eqr(ng:Bool){b b':Bool}(U:b=b'):qP P where
 hk:=[]
 pr pins N M op:=match op.dst,op.op with
  |some d,.binOp o t x y W=>some ([bp (okD N pins M d),⟨o,bif ng then .neq else .eql⟩,⟨eqS P M t x y,some b⟩],[(d,.t (.d (.lit (.bool (bif ng then !b' else b')))))])
  |_,_=>none
 ok pins N S M op c0 e hM hd h hc:=by subst U;split at h;(rename_i d o t x y W u Z;cases h;obtain⟨I,q2,q3,_⟩:=hc;rw[show(bif ng then !b else b)=(ng^^b) by cases ng<;>cases b<;>rfl];exact .of (e:=[(d,_)]) λJ=>⟨ok_eqs hM.hx ng q2 Z u (qA J (zAE I (hd d u))) q3,zAr (zX J (zAE I (hd d u)))⟩);cases h
def gix{g:Nat}{k:IntKind}{n x:Int}{l:List Int}(J:TabIs g k l=true)(hx:idx l n=some x):qP P where
 hk:=[]
 pr pins N M op:=match op.dst,op.op with
  |some d,.indexAddr t (.global W) i=>match vO M i with|some (.int _ I)=>some ([bp (okD N pins M d),⟨W,g⟩,⟨arrLen P t,some l.length⟩,⟨I,n⟩],[(d,.imm [.lit (.int k x)])])|_=>none
  |_,_=>none
 ok pins N S M op c0 e hM hd h hc:=by split at h;(rename_i d t W i u h2;split at h;(rename_i ki I h3;cases h;obtain⟨U,rfl,q3,rfl,_⟩:=hc;exact .of (e:=[(d,_)]) λZ=>⟨ok_gix hM.hx h2 u (qA Z (zAE U (hd d u))) q3 h3 (tab_get J hx).2 (tab_get J hx).1 rfl,zAr (zX Z (zAE U (hd d u)))⟩);cases h);cases h
def ldA{f:Nat->A}{c off:Nat}{l:List T}{z:T}(hf:f c= .box l)(hl:l[off]? =some z):qP P where
 hk:=[HK]
 pr pins N M op:=match op.dst,op.op with
  |some d,.load t x=>match cpO M x,tyA P t,norH z with| .t (.hpt I u),some (false,_),some y=>some ([bp (okD N pins M d),⟨M HK,.hp f⟩,⟨I,c⟩,⟨u,off⟩],[(d,y)])|_,_,_=>none
  |_,_=>none
 ok pins N S M op c0 e hM hd h hc:=by split at h;(rename_i d t x J U;split at h;(rename_i I u n y h3 Z h5;cases h;obtain⟨W,q2,rfl,rfl,_⟩:=hc;exact h_ld hM (hM.get q2 (by simp)) U Z h3 hf hl h5 J (zAE W (hd d J)));cases h);cases h
def stA{f f':Nat->A}{c off n:Nat}{l l' q:List T}(hf:f c= .box l)(U:off+n<=l.length)(I:qD l off q=l')(J:f'=updF f c (.box l')):qP P where
 hk:=[HK]
 pr pins N M op:=match op.dst,op.op with
  |none,.store t x y=>match cpO M x,P.info? t,zCH (cpO M y)with| .t (.hpt Z u),some i,some W=>some ([⟨M HK,.hp f⟩,⟨Z,c⟩,⟨u,off⟩,⟨i.size,n⟩,⟨W,q⟩,bp (Nat.beq q.length n)],[(HK,.hp f')])|_,_,_=>none
  |_,_=>none
 ok pins N S M op c0 e hM hd h hc:=by split at h;(rename_i t x y h1 h2;split at h;(rename_i Z u i W h3 h4 h5;cases h;obtain⟨q1,rfl,rfl,rfl,rfl,q6,_⟩:=hc;exact h_st hM (hM.get q1 (by simp)) h2 h1 h4 h3 hf h5 (wT q6) U I J);cases h);cases h
end
abbrev kvS(s:List UInt8):Value:=Value.string ⟨⟨s⟩⟩
theorem ba_eq(a b:List UInt8):(ByteArray.mk ⟨a⟩==ByteArray.mk ⟨b⟩)=(a==b):=by show(Array.mk a==Array.mk b)=(a==b);grind
def keyStr{kt:TypeId}(h:P.underlying kt=some .string):KeyT P kt kvS (kL kvS):=
 ⟨.string,h,λa b=>by
  have e:=ba_eq a b
  simp only[Instr.sameNow]
  rw[<-e],λa e w=>MapKept.run_checkKey h (by simp[MapKept.IsKey]) e 9999,λ(a b:List UInt8) (h:(a==b)=true)=>by
  have h:a=b:=by simpa using h
  subst h
  simp only[Instr.sameBits]
  rw[ba_eq]
  exact beq_self_eq_true _,λ_=>kL_rep rfl,λ_ _ _=>kL_inv⟩
section
variable {pins:List Nat}{S M:Nat->A}{P:Program}{N:Nat}{op:Oper}{d:Nat}
theorem h_mlk2T{κ ν:Type}[BEq κ]{kv:κ->Value}{kT:κ->T}{vT:ν->T}(Z:Mk M S){j t kt et:Nat}{x y:Operand}{l:List (κ×ν)}{k:κ}{z:ν}(J:op.op= .lookup t x y true)(hx:cpO M x= .t (.mpt j))(hb:M (OB+j)=mpT kT vT l)(hy:vK M y=some (kv k))(hu:P.underlying t=some (.map kt et))(K:KeyT P kt kv kT)
{i:TypeInfo}{U:Value}(hi:P.info? et=some i)(hz:i.zero=some U)(I:∀m,RepE m (vT z) U)(hd:op.dst=some d)(u:okD N pins S d=true):OpH P pins N op S (app S [(d,.tup [vT ((zC5 l k).getD z),.d (.lit (.bool (zC5 l k).isSome))])]):=
 .of (e:=[(d,_)]) λW=>⟨ok_mlk2 Z.hx J hx (mk_hx Z hb (by simp)) hy hu K hi hz I hd (qA W u),zAr (zX W u)⟩
end
end Go.Proofs.YtocolhfjpadaoaaGreatDoor
