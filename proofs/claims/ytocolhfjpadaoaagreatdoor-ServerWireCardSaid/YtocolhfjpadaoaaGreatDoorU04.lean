/-
  Lemmas of this claim, joined.
-/
import Derived.Test.YtocolhfjpadaoaaGreatDoorU03
set_option linter.unusedVariables false
set_option linter.unusedSimpArgs false
set_option linter.constructorNameAsVariable false
namespace Go.Proofs.YtocolhfjpadaoaaGreatDoor
open Go
abbrev vL:=@List.drop_eq_getElem_cons
abbrev uW:=@List.take_append_drop
abbrev tL:=@List.mem_append_left
abbrev tP:=@List.nodup_nil
abbrev sF:=@List.any_eq_true
abbrev sU:=@List.nodup_append
end Go.Proofs.YtocolhfjpadaoaaGreatDoor
namespace Go.Proofs.YtocolhfjpadaoaaGreatDoor
open Go Go.RowKit
variable {P:Program}{w0:World}{w:World}{m0:Mem}{m:Mem}{o0:OwnM}{o:OwnM}{G:GD}{pins:List Nat}{N:Nat}{a:Act}{op:Oper}{S:Nat->A}{M:Nat->A}{L:SL}{v:Value}{W:World}{Q:Mem}{X:OwnM}
theorem zDR(x:A):(∃l,san x= .box l)\/san x= .free\/san x= .any\/(∃l,san x= .mp l)\/∃b u J I,san x= .rcd b u J I:=by cases x<;>first|exact .inl ⟨_,rfl⟩|exact .inr (.inl rfl)|exact .inr (.inr (.inl rfl))|exact .inr (.inr (.inr (.inl ⟨_,rfl⟩)))|exact .inr (.inr (.inr (.inr ⟨_,_,_,_,rfl⟩)))
def hpS(S:Nat->A)(f':Nat->A):Nat->A:=λt=>if OB2<=t then san (f' (t-OB2))else S t
section
variable {w0:World}{m0:Mem}{o0:OwnM}{G:GD}{pins:List Nat}{S M:Nat->A}{a:Act}{w:World}{m:Mem}{o:OwnM}{P:Program}{N:Nat}
theorem zSA(I:Inv w0 m0 o0 G pins S a w m o){K:Array Value->World->(Ending->World->Prop)->Prop}(hKm:∀(v:Array Value) (w:World) (R R':Ending->World->Prop),K v w R->(∀e w',R e w'->R' e w')->K v w R'){args:List A}{ins outs:List A}{f f':Nat->A}{r r':A}(hf:FCK K args ins outs f f' r)(hS:∀c,S (OB+(OB+c))=san (f c))(hp:zCO f)(hp':zCO f'){σ fr:List Nat}(ν:(σ++fr).Nodup)(hlo:∀j∈σ++fr,j<OB)(hin:σ.map (λj=>S (OB+j))=ins)(hfi:ins.all A.flatO=true)(hfo:outs.all A.flatO=true)(hfr:∀j∈fr,S (OB+j)= .free)(hlen:outs.length=(σ++fr).length)(hlO:outs.length<=OB)(φ:ResH (σ++fr) r r'){vals:Array Value}{oc:OwnM}{X:Nat->Prop}(hoc1:∀g l,movH σ o g=some l->oc g=some l)(hoc2:∀g l,oc g=some l->movH σ o g=some l\/(l.1<OB/\X g))(hX:∀g,X g->o g=none/\g<w.heap.size/\(G g\/w0.heap.size<=g))(hinj:∀g g' l,oc g=some l->oc g'=some l->g=g')(hv:vals.size=args.length)(hr:∀(k:Nat) (x:A),args[k]? =some x->RepA m w oc (argH args ins f) k x (vals.getD k undef))(hargs:args.length<=OB){d:Nat}(hd:d<a.tmps.size)(hbox:(S d).isBox=false)(hpin:d∉pins):
  K vals w λe w'=>∃u m' o',e= .returned u/\Inv w0 m0 o0 G pins (upd (app (hpS S f') (zCq (σ++fr) outs)) d r') (a.put (some d) u) w' m' o':=by
 have hσ:σ.Nodup:=(sU.1 ν).1
 have hdO:d<OB:=wN hd I.wide
 generalize hτ:σ++fr=τ at*
 have hlσ:∀j∈σ,j<OB:=λj h=>hlo j (by rw[<-hτ];exact tL _ h)
 have hσl:σ.length<=OB:=by
  have:σ.length<=τ.length:=by rw[<-hτ];simp
  omega
 have hil:σ.length=ins.length:=by rw[<-hin];simp
 have ξ:=λ(o:OwnM) (g:Nat) (l:Nat×Nat)=>zCF (o:=o) (g:=g) (l:=l) hσ hσl hlσ
 have ζ:∀(g:Nat) (l:Nat×Nat),oc g=some l->(∃c,l.1=OB+(OB+c)/\o g=some l)\/(∃i j,l.1=OB+i/\i<OB/\σ[i]? =some j/\o g=some (OB+j,l.2))\/(l.1<OB/\X g):=λg l h=>(hoc2 g l h).elim (λh=>((ξ o g l).1 h).imp id .inl) (λh=> .inr (.inr h))
 have hστ:∀i j,σ[i]? =some j->τ[i]? =some j:=λi j h=>by rw[<-hτ,uN (wF.1 h).1];exact h
 have hmem:∀j,j∈τ->j∈σ\/j∈fr:=λj h=>by rw[<-hτ]at h;exact List.mem_append.1 h
 have hfree:∀j∈fr,∀g k,o g≠some (OB+j,k):=λj hj=>by have:=I.slots (OB+j);rw[hfr j hj]at this;exact this
 have ω:∀g i j k,σ[i]? =some j->o g=some (OB+j,k)->oc g=some (OB+i,k):=λg i j k U W=>hoc1 _ _ ((ξ o g _).2 (.inr ⟨i,j,rfl,by have:=(wF.1 U).1;omega,U,W⟩))
 have ε:∀g c k,o g=some (OB+(OB+c),k)->oc g=some (OB+(OB+c),k):=λg c k h=>hoc1 _ _ ((ξ o g _).2 (.inl ⟨c,rfl,h⟩))
 have hrep:∀t,RepA m w (oc) (argH args ins f) t (argH args ins f t) (vals.getD t undef):=by
  intro t
  by_cases ht:t<OB
  ·
   have e:argH args ins f t=args.getD t .any:=by unfold argH;rw[if_pos ht]
   rw[e,wK]
   cases hx:args[t]? with
   |none=>trivial
   |some x=>exact hr t x hx
  ·
   by_cases ι:OB2<=t
   ·
    obtain⟨c,rfl⟩:∃c,t=OB+(OB+c):=⟨t-OB2,by rw[<-qX];omega⟩
    have e:argH args ins f (OB+(OB+c))=san (f c):=by
     unfold argH
     rw[if_neg (by omega),if_pos ι,<-qX,wO]
    rw[e]
    have Z:=I.slots (OB+(OB+c))
    rw[hS]at Z
    rcases zDR (f c)with⟨l,hl⟩|hl|hl|⟨l,hl⟩|⟨b,u,mE,oE,hl⟩
    ·
     have hpu:=zTF hp c l hl
     rw[hl]at Z⊢
     obtain⟨g,e1,k1,k2,cs,E,k3,k4,k5⟩:=Z
     refine⟨g,λh=>absurd h (by omega),ε g c 0 k1,k2,cs,E,k3,k4,λq x hq=> ?_⟩
     obtain⟨q1,u,q2,q3⟩:=k5 q x hq
     exact⟨q1,u,q2,loc_rep (λg c h=>ε g c 0 h) (λg h=>ε g c _ h) (hpu x (wD hq)) q3⟩
    ·
     rw[hl]at Z⊢
     intro g k h
     rcases ζ g _ h with⟨_,_,h⟩|⟨i,j,U,hi,W,h3⟩|⟨U,_⟩
     · exact Z g k h
     all_goals grind
    · rw[hl];trivial
    ·
     rw[hl]at Z⊢
     obtain⟨g,k1,k2⟩:=Z
     exact⟨g,ε g c 0 k1,k2⟩
    ·
     rw[hl]at Z⊢
     obtain⟨k1,k2,k3,k4,k5⟩:=Z
     exact⟨ε b c 0 k1,k2,k3,k4,λg c' hg=>ε g c' 0 (k5 g c' hg)⟩
   ·
    obtain⟨i,rfl⟩:∃i,t=OB+i:=⟨t-OB,by omega⟩
    have hiO:i<OB:=by unfold OB OB2 at*;omega
    cases hl:ins[i]? with
    |none=>
     have e:argH args ins f (OB+i)= .free:=by unfold argH;rw[if_neg ht,if_neg ι,wO,hl]
     rw[e]
     intro g k h
     rcases ζ g _ h with⟨c,U,_⟩|⟨i',j,U,hi',W,_⟩|⟨U,_⟩
     rotate_left 2
     all_goals grind
    |some l=>
     have e:argH args ins f (OB+i)=l:=by unfold argH;rw[if_neg ht,if_neg ι,wO,hl]
     rw[e]
     have hi:i<σ.length:=by rw[hil];exact(wF.1 hl).1
     have γ:l.flatO=true:=wI.1 hfi l (wD hl)
     have hsl:S (OB+σ[i])=l:=by
      rw[<-hin,wG,wB hi]at hl
      injection hl
     have Z:=I.slots (OB+σ[i])
     rw[hsl]at Z
     revert Z γ
     cases l with
     |box l=>
      rintro γ ⟨g,_,k1,k2,cs,E,k3,k4,k5⟩
      refine⟨g,λh=>absurd h ht,ω g i _ 0 (wB hi) k1,k2,cs,E,k3,k4,λq x hq=> ?_⟩
      obtain⟨q1,u,q2,q3⟩:=k5 q x hq
      exact⟨q1,u,q2,q3.reloc (λg h=>ω g i _ _ (wB hi) h) (zCK γ hq)⟩
     |any=>intro _ _;trivial
     |free=>
      intro _ Z g k h
      rcases ζ g _ h with⟨c,U,_⟩|⟨i',j,U,hi',W,h3⟩|⟨U,_⟩
      rotate_left 2
      · have U:OB+i<OB:=U;omega
      · have U:OB+i=OB+(OB+c):=U;omega
      ·
       have U:OB+i=OB+i':=U
       have U:i'=i:=by omega
       subst U
       rw[wB hi]at W
       injection W with W
       exact Z g k (by rw[W];exact h3)
     |_=>intro γ;cases γ
 refine hKm _ _ _ _ (hf w m oc vals I.sat (I.tbl.trans I.mono) (λg l h=> ?_) hinj hv hrep) ?_
 ·
  rcases ζ g l h with⟨_,_,h⟩|⟨_,_,_,_,_,h⟩|⟨_,h⟩
  · exact I.lt g _ h
  · exact I.lt g _ h
  grind
 rintro e w' ⟨u,m',o',S',a',ρ,rfl,J,β,hbx,hhp,hρ⟩
 have hgr:∀g,oc g≠none->(∃s k,(zIn σ s\/OB2<=s)/\o g=some (s,k))\/X g:=by
  intro g h
  cases hg:oc g with
  |none=>exact absurd hg h
  |some l=>
   rcases ζ g l hg with⟨c,U,W⟩|⟨i,j,_,_,W,h3⟩|⟨_,h⟩
   · exact .inl ⟨l.1,l.2,.inr (by rw[U,<-qX];omega),W⟩
   · exact .inl ⟨_,_,.inl (zHx (wD W)),h3⟩
   grind
 have hS':Same (λg=>(∃s k,(zIn σ s\/OB2<=s)/\o g=some (s,k))\/X g) w w':=J.same.weaken λg h=>hgr g h
 have hστ':∀s,zIn σ s\/OB2<=s->inH τ s:=λs h=>h.elim (λh=> .inr ⟨h.1,by rw[<-hτ];exact tL _ h.2⟩) .inl
 have hnot:∀g l,o g=some l->¬(zIn σ l.1\/OB2<=l.1)->oc g=none:=by
  intro g l h hn
  cases hg:oc g with
  |none=>rfl
  |some l'=>
   grind
 have hold:∀b,b<w.heap.size->oc b=none->m' b=m b:=λb hb hn=>J.old b hb λh=>h hn
 have hnew:∀g l,o' g=some l->((∃s k,(zIn σ s\/OB2<=s)/\o g=some (s,k))\/X g)\/w.heap.size<=g:=λg l h=>(J.own g l h).imp (hgr g) id
 have hdis:∀g l,o g=some l->¬(zIn σ l.1\/OB2<=l.1)->o' g=none:=by
  intro g l h hn
  cases ho:o' g with
  |none=>rfl
  |some l'=>
   rcases hnew g l' ho with(⟨s,k,hj,hk⟩|hx)|hge
   ·
    rw[h]at hk
    injection hk with hk
    rw[hk]at hn
    exact absurd hj hn
   · rw[(hX g hx).1]at h;cases h
   · exact absurd (I.lt g _ h) (by omega)
 have hτl:τ.length=outs.length:=hlen.symm
 have ψ:∀g k,o' g=some (ρ,k)->mixH o o' d ρ τ g=some (d,k):=by
  intro g k h
  unfold mixH
  rw[h]
  simp
 have δ:∀g i j k,τ[i]? =some j->o' g=some (OB+i,k)->mixH o o' d ρ τ g=some (OB+j,k):=by
  intro g i j k U W
  have hiO:i<OB:=by have:=(wF.1 U).1;omega
  unfold mixH
  rw[W]
  simp only
  rw[if_neg (by omega),if_neg (by unfold OB OB2 at*;omega),if_pos (by omega),wO,U]
 have α:∀g c k,o' g=some (OB+(OB+c),k)->mixH o o' d ρ τ g=some (OB+(OB+c),k):=by
  intro g c k h
  unfold mixH
  rw[h]
  simp only
  rw[if_neg (by omega),if_pos (by rw[<-qX];omega)]
 have hfrn:∀g l,o g=some l->¬(zIn σ l.1\/OB2<=l.1)->¬inH τ l.1:=by
  intro g l h hn ht
  rcases ht with ht|ht
  · exact hn (.inr ht)
  ·
   obtain⟨s,k⟩:=l
   obtain⟨j,rfl⟩:∃j,s=OB+j:=⟨s-OB,by have:=ht.1;omega⟩
   rcases hmem j (zJg.1 ht)with hj|hj
   · exact hn (.inl (zHx hj))
   grind
 have χ:∀g l,o g=some l->l.1≠d->¬(zIn σ l.1\/OB2<=l.1)->mixH o o' d ρ τ g=some l:=by
  intro g l h U W
  unfold mixH
  rw[hdis g l h W]
  exact zMW.2 ⟨U,hfrn g l h W,h⟩
 have η:∀g l,mixH o o' d ρ τ g=some l->(l.1=d/\o' g=some (ρ,l.2))\/(∃c,l.1=OB+(OB+c)/\o' g=some l)\/(∃i j,τ[i]? =some j/\l.1=OB+j/\o' g=some (OB+i,l.2))\/(l.1≠d/\¬inH τ l.1/\o g=some l):=by
  intro g l h
  unfold mixH at h
  split at h
  ·
   rename_i t k hg
   split at h
   ·
    rename_i e
    injection h with h
    subst h e
    exact .inl ⟨rfl,hg⟩
   ·
    split at h
    ·
     rename_i ht
     cases h
     exact .inr (.inl ⟨t-OB2,by rw[<-qX];show t=_;omega,hg⟩)
    ·
     split at h
     ·
      rename_i ht
      split at h
      ·
       rename_i j hj
       cases h
       exact .inr (.inr (.inl ⟨t-OB,j,hj,rfl,by rw[show OB+(t-OB)=t by omega];exact hg⟩))
      · exact .inr (.inr (.inr (zMW.1 h)))
     · exact .inr (.inr (.inr (zMW.1 h)))
  · exact .inr (.inr (.inr (zMW.1 h)))
 have hptσ:∀g i j,σ[i]? =some j->o g=some (OB+j,0)->o' g=some (OB+i,0):=λg i j U W=>J.pinned (OB+i) (.inr (by omega)) g (ω g i j 0 U W)
 have hpth:∀g c,o g=some (OB+(OB+c),0)->o' g=some (OB+(OB+c),0):=λg c h=>J.pinned _ (.inr (by omega)) g (ε g c 0 h)
 have hpt:∀g j,o g=some (OB+j,0)->mixH o o' d ρ τ g=some (OB+j,0):=by
  intro g j h
  by_cases hj:j∈σ
  ·
   obtain⟨i,hi⟩:=vZ hj
   exact δ g i j 0 (hστ i j hi) (hptσ g i j hi h)
  ·
   by_cases hj2:OB2<=OB+j
   ·
    obtain⟨c,rfl⟩:∃c,j=OB+c:=⟨j-OB,by unfold OB OB2 at*;omega⟩
    exact α g c 0 (hpth g c h)
   · exact χ g _ h (zLu hdO) (λe=>e.elim (λe=>hj (zJg.1 e)) hj2)
 have K:Keep (λl=>l.1=d\/inH τ l.1) m w o m' w' (mixH o o' d ρ τ):=by
  have hC:∀l:Nat×Nat,¬(l.1=d\/inH τ l.1)->¬(zIn σ l.1\/OB2<=l.1):=λl h hn=>h (.inr (hστ' _ hn))
  refine⟨J.mono,λg l h hn=>hold g (I.lt g l h) (hnot g l h (hC l hn)),λg l h hn=>hS'.block g (I.lt g l h) λhq=>hq.elim (λ⟨s,k,hj,hk⟩=> ?_) (λhx=>by rw[(hX g hx).1]at h;cases h),λg l h hn=>χ g l h (λe=>hn (.inl e)) (hC l hn),hpt,λg s k hn h=> ?_,λg j h=> ?_⟩
  ·
   rw[h]at hk
   injection hk with hk
   exact hC l hn (by rw[hk];exact hj)
  ·
   rcases η g _ h with⟨e,_⟩|⟨c,e,_⟩|⟨i,j,U,e,_⟩|⟨_,_,h⟩
   · exact absurd (.inl e) hn
   · exact absurd (.inr (.inl (by have e:s=OB+(OB+c):=e;rw[e,<-qX];exact wV _ _))) hn
   ·
    have e:s=OB+j:=e
    exact absurd (.inr (.inr (by rw[e];exact zHx (wD U)))) hn
   grind
  ·
   by_cases hj:zIn σ (OB+j)\/OB2<=OB+j
   ·
    rcases hj with hj|hj
    ·
     obtain⟨i,hi⟩:=vZ (zJg.1 hj)
     exact(J.shps g i (ω g i j 0 hi h)).2
    ·
     obtain⟨c,rfl⟩:∃c,j=OB+c:=⟨j-OB,by unfold OB OB2 at*;omega⟩
     exact(J.shps g _ (ε g c 0 h)).2
   ·
    refine .of_eq (hS'.block g (I.lt g _ h) λhq=>hq.elim (λ⟨s,k,Z,hk⟩=>hj ?_) (λhx=>by rw[(hX g hx).1]at h;cases h))
    rw[h]at hk
    injection hk with hk
    injection hk with hk _
    rw[hk]
    exact Z
 have hpt2:∀s,OB<=s->∀g,o g=some (s,0)->mixH o o' d ρ τ g=some (s,0):=λs Z g h=>by
  obtain⟨j,rfl⟩:∃j,s=OB+j:=⟨s-OB,by omega⟩
  exact hpt g j h
 refine⟨u,m',mixH o o' d ρ τ,rfl,?_,J.sat,I.mono.trans J.mono,λb hb hg=> ?_,λg l h=> ?_,λg l h=> ?_,λg g' l h h'=> ?_,λt ht g hg=> ?_,λt=> ?_,I.defers,I.tbl,by rw[zAK];exact I.wide,I.shps.keep I.pinned K.sh⟩
 ·
  refine I.same.trans (hS'.weaken ?_)
  rintro k (⟨s,q,_,hj⟩|hx)
  · exact I.own k _ hj
  grind
 ·
  rw[hold b (wN hb I.same.size) ?_]
  · exact I.old b hb hg
  ·
   cases hq:oc b with
   |none=>rfl
   |some l=>
    have hh:G b\/w0.heap.size<=b:=by
     rcases hgr b (by rw[hq];simp)with⟨s,k,_,h3⟩|hx
     · exact I.own b _ h3
     grind
    grind
 ·
  have key:∀l',o' g=some l'->G g\/w0.heap.size<=g:=λl' U=>by
   rcases hnew g _ U with(⟨s,k,_,hj⟩|hx)|hge
   · exact I.own g _ hj
   · exact(hX g hx).2.2
   · exact .inr (vR I.same.size hge)
  rcases η g l h with⟨_,U⟩|⟨_,_,U⟩|⟨_,_,_,_,U⟩|⟨_,_,U⟩
  · exact key _ U
  · exact key _ U
  · exact key _ U
  · exact I.own g l U
 ·
  rcases η g l h with⟨_,U⟩|⟨_,_,U⟩|⟨_,_,_,_,U⟩|⟨_,_,U⟩
  · exact J.lt g _ U
  · exact J.lt g _ U
  · exact J.lt g _ U
  · exact wN (I.lt g l U) hS'.size
 ·
  have hτO:∀i j,τ[i]? =some j->j<OB:=λi j h=>hlo j (wD h)
  rcases η g l h with⟨W,U⟩|⟨c,W,U⟩|⟨i,j,h3,W,U⟩|⟨W,h3,U⟩<;>rcases η g' l h' with⟨θ,κ⟩|⟨c',θ,κ⟩|⟨i',j',μ,θ,κ⟩|⟨θ,μ,κ⟩
  · exact J.inj g g' _ U κ
  · omega
  · omega
  · exact absurd W θ
  · omega
  · exact J.inj g g' _ U κ
  · have:=hτO _ _ μ;omega
  · exact absurd (.inl (by rw[W,<-qX];omega)) μ
  · omega
  · have:=hτO _ _ h3;omega
  ·
   have hjj:j=j':=by omega
   subst hjj
   have e1:=zCZ ν h3
   have e2:=zCZ ν μ
   rw[e1]at e2
   cases e2
   exact J.inj g g' _ U κ
  · exact absurd (.inr (by rw[W];exact zHx (wD h3))) μ
  · exact absurd θ W
  · exact absurd (.inl (by rw[θ,<-qX];omega)) h3
  · exact absurd (.inr (by rw[θ];exact zHx (wD μ))) h3
  · exact I.inj g g' l U κ
 ·
  have U:=I.pinned t ht g hg
  by_cases e:OB<=t
  · exact hpt2 t e g U
  ·
   refine χ g _ U (λe'=> ?_) (λe'=> ?_)
   · grind
   ·
    rcases e' with e'|e'
    · exact e e'.1
    ·
     have:OB2<=t:=e'
     unfold OB OB2 at*;omega
 ·
  rw[zLx]
  by_cases h:t=d
  ·
   subst h
   rw[if_pos ⟨rfl,hd⟩,zK]
   revert β φ
   intro φ β
   cases φ with
   |t hx=>exact zLY (λg c h=>α g c 0 h) (λg i j U W=>δ g i j 0 U W) (λg h=>ψ g 0 h) hx β
   |tup hx=>
    obtain⟨vs,e1,q1,q2⟩:=β
    obtain⟨k1,k2⟩:=hx.get
    refine⟨vs,e1,by rw[k1];exact q1,λj y hj=> ?_⟩
    obtain⟨x,k3,k4⟩:=k2 j y hj
    obtain⟨u',q3,q4⟩:=q2 j x k3
    exact⟨u',q3,zLY (λg c h=>α g c 0 h) (λg i j U W=>δ g i j 0 U W) (λg h=>ψ g _ h) k4 q4⟩
   |plain hx=>exact zG2 hx β
   |cl hx=>
    obtain⟨ptrs,e1,q1,q2⟩:=β
    refine⟨ptrs,e1,q1,λi l hi=> ?_⟩
    obtain⟨g,q3,q4⟩:=q2 i l hi
    refine⟨g,q3,λj x hj=> ?_⟩
    obtain⟨u',q5,q6⟩:=q4 j x hj
    exact⟨u',q5,zLY (λg c h=>α g c 0 h) (λg i j U W=>δ g i j 0 U W) (λg h=>ψ g 0 h) (hx l (wD hi) x (wD hj)) q6⟩
  ·
   rw[if_neg (λe=>h e.1),zE h]
   by_cases ht:zIn τ t
   ·
    obtain⟨j,rfl⟩:∃j,t=OB+j:=⟨t-OB,by have:=ht.1;omega⟩
    obtain⟨i,hi⟩:=vZ (zJg.1 ht)
    have π:i<outs.length:=by rw[<-hτl];exact(wF.1 hi).1
    rw[zXC ν hi (wB π)]
    have Z:=J.slots (OB+i)
    rw[hbx i _ (wB π)]at Z
    have γ:outs[i].flatO=true:=wI.1 hfo _ (vX π)
    revert Z γ
    generalize outs[i]=x'
    intro Z γ
    cases x' with
    |box l=>
     obtain⟨g,_,k1,k2,cs,E,k3,k4,k5⟩:=Z
     refine⟨g,λhb=>absurd hb (by omega),δ g i j 0 hi k1,k2,cs,E,k3,k4,λq x hq=> ?_⟩
     obtain⟨q1,u',q2,q3⟩:=k5 q x hq
     exact⟨q1,u',q2,q3.reloc (λg h=>δ g i j _ hi h) (zCK γ hq)⟩
    |any=>trivial
    |free=>
     intro g k h
     rcases η g _ h with⟨e,_⟩|⟨c,e,_⟩|⟨i2,j2,h3,e,U⟩|⟨_,h3,_⟩
     · have e:OB+j=d:=e;omega
     ·
      have e:OB+j=OB+(OB+c):=e
      have:=hlo j (wD hi)
      omega
     ·
      have e:OB+j=OB+j2:=e
      have e:j=j2:=by omega
      subst e
      have e1:=zCZ ν h3
      rw[zCZ ν hi]at e1
      cases e1
      exact Z g _ U
     grind
    |_=>cases γ
   ·
    rw[zFG ht]
    by_cases ι:OB2<=t
    ·
     obtain⟨c,rfl⟩:∃c,t=OB+(OB+c):=⟨t-OB2,by rw[<-qX];omega⟩
     have e:hpS S f' (OB+(OB+c))=san (f' c):=by
      unfold hpS
      rw[if_pos ι,<-qX,wO]
     rw[e]
     have Z:=J.slots (OB+(OB+c))
     rw[hhp]at Z
     rcases zDR (f' c)with⟨l,hl⟩|hl|hl|⟨l,hl⟩|⟨b,u,mE,oE,hl⟩
     ·
      have hpu:=zTF hp' c l hl
      rw[hl]at Z⊢
      obtain⟨g,e1,k1,k2,cs,E,k3,k4,k5⟩:=Z
      refine⟨g,λh=>absurd h (by omega),α g c 0 k1,k2,cs,E,k3,k4,λq x hq=> ?_⟩
      obtain⟨q1,u,q2,q3⟩:=k5 q x hq
      exact⟨q1,u,q2,loc_rep (λg c h=>α g c 0 h) (λg h=>α g c _ h) (hpu x (wD hq)) q3⟩
     ·
      rw[hl]at Z⊢
      intro g k h
      rcases η g _ h with⟨e,_⟩|⟨c',e,h⟩|⟨i,j,U,e,_⟩|⟨_,e,_⟩
      · have e:OB+(OB+c)=d:=e;omega
      · exact Z g k h
      all_goals grind
     · rw[hl];trivial
     ·
      rw[hl]at Z⊢
      obtain⟨g,k1,k2⟩:=Z
      exact⟨g,α g c 0 k1,k2⟩
     ·
      rw[hl]at Z⊢
      obtain⟨k1,k2,k3,k4,k5⟩:=Z
      exact⟨α b c 0 k1,k2,k3,k4,λg c' hg=>α g c' 0 (k5 g c' hg)⟩
    ·
     have e:hpS S f' t=S t:=by unfold hpS;rw[if_neg ι]
     rw[e]
     refine RepA.keep K (λj e=>e.elim h (λe=>e.elim ι ht)) (λb off e hb=> ?_) (I.slots t)
     have hr:=I.slots t
     rw[e]at hr
     obtain⟨_,_,_,hr⟩:=hr
     obtain⟨l,hl⟩:=hr hb
     have hbd:b≠d:=λe=>by subst e;rw[hl]at hbox;cases hbox
     have hbo:¬zIn τ b:=λe=>by have:=e.1;omega
     have hb2:¬OB2<=b:=by unfold OB OB2 at*;omega
     exact⟨λe=>e.elim hbd (λe=>e.elim hb2 hbo),λ⟨l,hl⟩=>⟨l,by rw[zE hbd,zFG hbo];unfold hpS;rw[if_neg hb2,hl]⟩⟩
theorem zRd(I:Inv w0 m0 o0 G pins S a w m o){K:Array Value->World->(Ending->World->Prop)->Prop}(ι:∀(v:Array Value) (w:World) (R R':Ending->World->Prop),K v w R->(∀e w',R e w'->R' e w')->K v w R'){args:List A}{ins outs:List A}{f f':Nat->A}{r r':A}(hf:FCK K args ins outs f f' r)(hS:∀c,S (OB+(OB+c))=san (f c))(hp:zCO f)(κ:zCO f'){σ fr:List Nat}(ζ:(σ++fr).Nodup)(η:∀j∈σ++fr,j<OB)(ν:σ.map (λj=>S (OB+j))=ins)(ρ:ins.all A.flatO=true)(μ:outs.all A.flatO=true)(θ:∀j∈fr,S (OB+j)= .free)(α:outs.length=(σ++fr).length)(ξ:outs.length<=OB)(ε:ResH (σ++fr) r r'){vals:Array Value}(hv:vals.size=args.length)(hr:∀(k:Nat) (x:A),args[k]? =some x->∀k0,RepA m w (movH σ o) (argH args ins f) k0 x (vals.getD k undef))(J:args.length<=OB){d:Nat}(hd:d<a.tmps.size)(Z:(S d).isBox=false)(β:d∉pins):
 K vals w λe w'=>∃u m' o',e= .returned u/\Inv w0 m0 o0 G pins (upd (app (hpS S f') (zCq (σ++fr) outs)) d r') (a.put (some d) u) w' m' o':=by
 have hσ:σ.Nodup:=(sU.1 ζ).1
 have γ:∀j∈σ,j<OB:=λj h=>η j (tL _ h)
 have W:σ.length<=OB:=by grind
 refine zSA (oc:=movH σ o) (X:=λ_=>False) I ι hf hS hp κ ζ η ν ρ μ θ α ξ ε (λ_ _ h=>h) (λ_ _ h=> .inl h) (λ_ h=>h.elim) (λg g' l h U=> ?_) hv (λk x h=>hr k x h k) J hd Z β
 rcases(zCF hσ W γ).1 h with⟨c,h1,h⟩|⟨i,j,h1,hi,h2,h⟩<;>rcases(zCF hσ W γ).1 U with⟨c',π,U⟩|⟨i',j',π,τ,δ,U⟩
 · exact I.inj g g' l h U
 · omega
 · omega
 · (have:i=i':=by omega);subst this;rw[h2]at δ;cases δ;exact I.inj g g' _ h U
theorem call_heap(I:Inv w0 m0 o0 G pins S a w m o){fn:FuncId}{args:List A}{ins outs:List A}{f f':Nat->A}{r r':A}(hf:FCH P fn args ins outs f f' r)(hS:∀c,S (OB+(OB+c))=san (f c))(hp:zCO f)(γ:zCO f'){σ fr:List Nat}(η:(σ++fr).Nodup)(θ:∀j∈σ++fr,j<OB)(ε:σ.map (λj=>S (OB+j))=ins)(ι:ins.all A.flatO=true)(δ:outs.all A.flatO=true)(β:∀j∈fr,S (OB+j)= .free)(Z:outs.length=(σ++fr).length)(ζ:outs.length<=OB)(α:ResH (σ++fr) r r'){vals:Array Value}(hv:vals.size=args.length)(hr:∀(k:Nat) (x:A),args[k]? =some x->∀k0,RepA m w (movH σ o) (argH args ins f) k0 x (vals.getD k undef))(J:args.length<=OB){d:Nat}(hd:d<a.tmps.size)(U:(S d).isBox=false)(W:d∉pins):
 Calls P fn vals w λe w'=>∃u m' o',e= .returned u/\Inv w0 m0 o0 G pins (upd (app (hpS S f') (zCq (σ++fr) outs)) d r') (a.put (some d) u) w' m' o':=
 zRd (K:=Calls P fn) I (λ_ _ _ _ h k=>Calls.mono h k) hf hS hp γ η θ ε ι δ β Z ζ α hv hr J hd U W
end
def boxH:Nat->List A->SL
 |_,[]=>[]
 |i,x::r=>(OB+i,x)::boxH (i+1) r
def zFw(fr:List Nat)(args:List A)(ins:List A)(f:Nat->A):SL:=(HK,.hp f)::(frL fr++(boxH 0 ins++zBU 0 args))
theorem zSg(ins:List A)(L:SL):∀(i s:Nat),gt (boxH i ins++L) s=if OB+i<=s/\s<OB+i+ins.length then(match ins[s-OB-i]? with|some x=>x|none=> .any)else gt L s:=by(induction ins with|nil=>intro i s;rw[if_neg (by simp)];rfl|cons l r I=>intro i s;show gt ((OB+i,l)::(boxH (i+1) r++L)) s=_;rw[zQ,upd,I (i+1) s];by_cases h:s=OB+i;(subst h;rw[if_pos rfl,if_pos ⟨by omega,by simp⟩];simp);(rw[if_neg h];by_cases u:OB+i<=s/\s<OB+i+(l::r).length;(rw[if_pos u,if_pos ⟨by omega,by have:=u.2;simp at this;omega⟩];rw[show s-OB-i=(s-OB-(i+1))+1 by omega,List.getElem?_cons_succ]);rw[if_neg u,if_neg (by intro J;exact u ⟨by omega,by simp;omega⟩)]))
theorem zUy(fr:List Nat)(args:List A)(ins:List A)(f:Nat->A)(W:args.length<=OB)(I:ins.length<OB)(u:fr.all (λj=>Nat.ble ins.length j)=true)(s:Nat)(Z:s<OB2):gt (frL fr++(boxH 0 ins++zBU 0 args)) s=argH args ins f s\/(gt (frL fr++(boxH 0 ins++zBU 0 args)) s= .any/\argH args ins f s= .free):=by(induction fr with|nil=>show gt (boxH 0 ins++zBU 0 args) s=_\/(gt (boxH 0 ins++zBU 0 args) s= .any/\_);unfold argH;by_cases h:s<OB;(refine .inl ?_;rw[zSg,zMh,if_neg (by omega),if_pos (vI _),if_pos h];rfl);(by_cases U:s<OB+ins.length;(refine .inl ?_;rw[zSg,if_pos ⟨by omega,by omega⟩,if_neg h,if_neg (by omega)];grind);(refine .inr ⟨show gt (boxH 0 ins++zBU 0 args) s= .any from ?_,?_⟩;(rw[zSg,zMh,if_neg (by omega),if_pos (vI _)];unfold argS;grind);grind))|cons j r J=>simp only[uO,wH]at u;show gt ((OB+j,.free)::(frL r++(boxH 0 ins++zBU 0 args))) s=_\/(gt ((OB+j,.free)::(frL r++(boxH 0 ins++zBU 0 args))) s=_/\_);rw[zQ,upd];by_cases h:s=OB+j;(rw[if_pos h];refine .inl ?_;have:=wS u.1;unfold argH;grind);grind)
def outH(L:SL):Nat->List A->Prop
 |_,[]=>True
 |i,x::r=>gt L (OB+i)=x/\outH L (i+1) r
theorem zTB:∀{outs:List A} {i:Nat},outH L i outs->∀(k:Nat) (l:A),outs[k]? =some l->gt L (OB+(i+k))=l
 |[],_,_,k,l,h=>by simp at h
 |x::r,i,h,k,l,hk=>by(cases k with|zero=>injection hk with hk;subst hk;exact h.1|succ k=>rw[show i+(k+1)=i+1+k by omega];exact zTB h.2 k l (by simpa using hk))
def endH(P:Program)(rs:List ResultVar)(outs:List A)(f':Nat->A)(r:A):Exit->SL->Prop
 | .normal,L| .ret,L=>(∃y,resA P (gt L) rs=some y/\WkA y r)/\outH L 0 outs/\gt L HK= .hp f'
 |_,_=>False
section
variable {P:Program}{w0:World}{m0:Mem}{o0:OwnM}{G:GD}{pins:List Nat}{a:Act}{w:World}{m:Mem}{o:OwnM}
theorem zWd(I:Inv w0 m0 o0 G pins S a w m o){fn:Func}{rs:List ResultVar}(J:fn.results=rs.toArray)(Z:(match rs with|[.tmp t]=>Nat.blt t OB|_=>true)=true){y:A}(h:resA P S rs=some y):
 ∃v ρ,(results fn a.tmps).run P w= .ok v w/\RepA m w o S ρ y v/\ρ<OB:=by
 have W:0<OB:=by decide
 have U:∀l,rs.mapM (resT P S)=some l->rs.length≠1->∃v ρ,(results fn a.tmps).run P w= .ok v w/\RepA m w o S ρ (.tup l) v/\ρ<OB:=by intro l hl β;obtain⟨u,h5,h6,h8,h7⟩:=zS4 (P:=P) I 0 rs l 1 hl;(have α:u.length≠1:=by omega);refine⟨.tuple u.toArray,0,?_,⟨u.toArray,rfl,by simpa using h6,λj x hj=> ?_⟩,W⟩;(show(do let u<-fn.results.mapM (resS a.tmps);pure (if h:u.size=1 then u[0]else .tuple u):Sem Value).run P w=_;rw[J,wE,tW,Sem.run_map,h5,wC,wC,wQ];grind);grind
 have one:∀r x,rs=[r]->resT P S r=some x->∃v ρ,(results fn a.tmps).run P w= .ok v w/\RepA m w o S ρ (.t x) v/\ρ<OB:=by intro r x e hx;subst e;obtain⟨v,h3,h4⟩:=zOw (P:=P) I hx (0,0);refine⟨v,0,?_,h4,W⟩;show(do let u<-fn.results.mapM (resS a.tmps);pure (if h:u.size=1 then u[0]else .tuple u):Sem Value).run P w=_;rw[J,wE,tW,Sem.run_map,sB,wE,h3];simp
 unfold resA at h
 split at h
 · rename_i t;cases h;exact⟨_,t,results_tmp J _ _ _,I.slots t,by simpa using Z⟩
 · rename_i r _;(cases hx:resT P S r with|none=>grind|some x=>grind)
 · rename_i h1 h2;(cases hx:rs.mapM (resT P S)with|none=>grind|some l=>rw[hx]at h;cases h;refine U l hx λe=> ?_;(match rs,e with|[r],_=>grind))
theorem zYH{k:Nat}(h:k<OB):DK∉zGe k:=λu=>by obtain⟨i,I,e⟩:=vW.1 u;have:=tN.1 I;unfold DK at e;unfold OB at h e;omega
theorem fch_inv(fr:List Nat){F:Func}{args:List A}{ins:List A}{f:Nat->A}(ν:args.length<=F.ntmps)(hw:F.ntmps<=OB)(ε:ins.length<OB)(I:fr.all (λj=>Nat.ble ins.length j)=true)(Z:fr.all (λj=>Nat.blt j OB)=true){vals:Array Value}(ζ:∀b p u,m b p=some u->w.cell? ⟨b,p,none⟩=some u)(η:Mle TBL m)(ι:∀g l,o g=some l->g<w.heap.size)(γ:∀g g' l,o g=some l->o g'=some l->g=g')(δ:vals.size=args.length)
  (J:∀s,RepA m w o (argH args ins f) s (argH args ins f s) (vals.getD s undef)):
  Low (gt (zFw fr args ins f))/\(vals++Array.replicate (F.ntmps-vals.size) undef).size=F.ntmps/\Inv w m o ⟨λg=>o g≠none,[]⟩ (zGe ins.length) (hx (gt (zFw fr args ins f))) {tmps:=vals++Array.replicate (F.ntmps-vals.size) undef,defers:=[]} w m o:=by
 have W:Low (gt (frL fr++(boxH 0 ins++zBU 0 args))):=by
  intro t ht
  have κ:Low (gt (boxH 0 ins++zBU 0 args)):=by
   intro t ht
   rw[zSg,if_neg (by unfold OB OB2 at*;omega)]
   exact zR6 (fr:=[]) ν hw rfl t ht
  clear J
  induction fr with
  |nil=>exact κ t ht
  |cons j r ih=>
   simp only[uO,wH]at Z I
   show gt ((OB+j,.free)::(frL r++(boxH 0 ins++zBU 0 args))) t=_
   have h1:j<OB:=by simpa using Z.1
   rw[zQ,zE (by unfold OB OB2 at*;omega)]
   exact ih I.2 Z.2
 have U:Low (gt (zFw fr args ins f)):=by
  show Low (gt ((HK,.hp f)::_))
  rw[zQ]
  exact W.upd zLp
 have α:gt (zFw fr args ins f) HK= .hp f:=by show gt ((HK,.hp f)::_) HK=_;rw[zQ,zK]
 refine⟨U,?_,?_⟩
 · simp[δ];omega
 ·
  have β:∀g j,o g=some (OB+j,0)->OB+j∈zGe ins.length\/OB2<=OB+j:=by
   intro g j h
   by_cases h2:OB2<=OB+j
   · exact .inr h2
   ·
    by_cases h3:j<ins.length
    · exact .inl (vW.2 ⟨j,tN.2 h3,rfl⟩)
    ·
     exfalso
     have hs:=J (OB+j)
     have e:argH args ins f (OB+j)= .free:=by unfold argH;rw[if_neg (by omega),if_neg h2,wO,vY (by omega)]
     rw[e]at hs
     exact hs g 0 h
  refine⟨Same.refl _ _,ζ,Mle.refl _,λ_ _ _=>rfl,λg l h=> .inl (by show o g≠none;rw[h];simp),ι,γ,λs hs g hg=>hg,λs=> ?_,rfl,η,by simp[δ];omega,λg j h=>⟨β g j h,zAX.refl w g⟩⟩
  have θ:(vals++Array.replicate (F.ntmps-vals.size) undef).getD s undef=vals.getD s undef:=by
   simp only[wJ,sV,uX]
   by_cases h:s<vals.size
   · simp[h]
   ·
    rw[if_neg h,vU (by omega)]
    split<;>rfl
  show RepA m w o (hx (gt (zFw fr args ins f))) s (hx (gt (zFw fr args ins f)) s) ((vals++Array.replicate (F.ntmps-vals.size) undef).getD s undef)
  rw[θ]
  rcases wR s OB2 with hs2|hs2
  ·
   rw[zBx hs2]
   by_cases e:s=HK
   ·
    subst e
    rw[α]
    trivial
   ·
    have he:gt (zFw fr args ins f) s=gt (frL fr++(boxH 0 ins++zBU 0 args)) s:=by show gt ((HK,.hp f)::_) s=_;rw[zQ,zE e]
    rw[he]
    rcases zUy fr args ins f (by omega) ε I s hs2 with e1|⟨e1,_⟩
    ·
     rw[e1]
     have h:=J s
     refine h.turn λb l hb=> ?_
     rcases wR b OB2 with hb2|hb2
     ·
      rw[zBx hb2]
      have μ:b≠HK:=λe=>by
       subst e
       unfold argH at hb
       rw[if_neg (by unfold HK OB;omega),if_neg (by unfold HK OB2;omega),vY (by unfold HK;unfold OB at*;omega)]at hb
       cases hb
      refine⟨l,?_⟩
      show gt ((HK,.hp f)::_) b=_
      rw[zQ,zE μ]
      rcases zUy fr args ins f (by omega) ε I b hb2 with e2|⟨_,e2⟩
      · rw[e2,hb]
      · rw[hb]at e2;cases e2
     ·
      obtain⟨c,rfl⟩:∃c,b=OB+(OB+c):=⟨b-OB2,by rw[<-qX];omega⟩
      have e:argH args ins f (OB+(OB+c))=san (f c):=by
       unfold argH
       rw[if_neg (by omega),if_pos hb2,<-qX,wO]
      rw[zDO U α,<-e,hb]
      exact⟨l,rfl⟩
    · rw[e1];trivial
  ·
   obtain⟨c,rfl⟩:∃c,s=OB+(OB+c):=⟨s-OB2,by rw[<-qX];omega⟩
   rw[zDO U α]
   have h:=J (OB+(OB+c))
   have e:argH args ins f (OB+(OB+c))=san (f c):=by
    unfold argH
    rw[if_neg (by omega),if_pos hs2,<-qX,wO]
   rw[e]at h
   rcases zDR (f c)with⟨l,hl⟩|hl|hl|⟨l,hl⟩|⟨b,u,mE,oE,hl⟩
   · rw[hl]at h⊢;exact h
   · rw[hl]at h⊢;exact h
   · rw[hl];trivial
   · rw[hl]at h⊢;exact h
   · rw[hl]at h⊢;exact h
theorem fch_mk(fr:List Nat){fn:FuncId}{F:Func}{c:Code}{args:List A}{rs:List ResultVar}{ins outs:List A}{f f':Nat->A}{r:A}{n:Nat}(hf:P.funcs[fn]? =some F)(hb:F.body=some c)(hn:F.ntmps=n)(φ:args.length<=n)(ζ:F.results=rs.toArray)
(J:(zGe ins.length,Nat.ble n OB,fr.all (λj=>Nat.ble ins.length j&&Nat.blt j OB),Nat.blt ins.length OB&&Nat.blt outs.length OB,(match rs with|[.tmp t]=>Nat.blt t OB|_=>true))=(pins,true,true,true,true))(hL:zFw fr args ins f=L)(hc:qG P pins n c (endH P rs outs f' r) L):FCH P fn args ins outs f f' r:=by
 injection J with J W
 injection W with W Z
 injection Z with Z U
 injection U with U τ
 have W:=wS W
 simp only[wH]at U
 have κ:ins.length<OB:=by simpa using U.1
 have ψ:outs.length<OB:=by simpa using U.2
 have γ:fr.all (λj=>Nat.ble ins.length j)=true:=wI.2 λj hj=>by have:=wI.1 Z j hj;simp only[wH]at this;exact this.1
 have δ:fr.all (λj=>Nat.blt j OB)=true:=wI.2 λj hj=>by have:=wI.1 Z j hj;simp only[wH]at this;exact this.2
 subst hn J hL
 intro w m o χ η θ μ β π ι
 obtain⟨α,ν,I0⟩:=fch_inv fr φ W κ γ δ η θ μ β π ι
 refine calls_of_wp hf hb (wpIn_wide.1 (wpIn_mono (hc Fence.wide 0 ⟨.wide,λ_=>rfl⟩ w m o ⟨λg=>o g≠none,[]⟩ _ w ⟨ν,α,m,o,I0⟩) ?_))
 · rintro e a' w' ⟨L',hq,hS⟩;obtain⟨hN,ε,m',o',I⟩:=hS.st (zYH κ);(have fin:((∃y,resA P (gt L') rs=some y/\WkA y r)/\outH L' 0 outs/\gt L' HK= .hp f')->a'.defers=[]/\∃v,(results F a'.tmps).run P w'= .ok v w'/\∃(u:Value) (m':Mem) (o':OwnM) (S':Nat->A) (a':Act) (ρ:Nat),Ending.returned v= .returned u/\Inv w m o ⟨λg=>o g≠none,[]⟩ (zGe ins.length) S' a' w' m' o'/\RepA m' w' o' S' ρ r u/\(∀(i:Nat) (x:A),outs[i]? =some x->S' (OB+i)=x)/\(∀c,S' (OB+(OB+c))=san (f' c))/\ρ<OB:=by rintro⟨⟨y,hy,W⟩,ho,hk⟩;obtain⟨y',σ,ξ⟩:=zVl hy;obtain⟨v,ρ,h1,h2,h3⟩:=zWd (P:=P) I ζ τ σ;refine⟨I.defers,v,h1,v,m',o',hx (gt L'),a',ρ,rfl,I,W.rep I.sat (by rcases ξ with rfl|rfl;exact h2;exact trivial),λi l h=> ?_,λc=>zDO ε hk c,h3⟩;have hi:=(wF.1 h).1;have:=zTB ho i l h;rw[vF]at this;rw[zBx (by unfold OB OB2 at*;omega),this]);cases e<;>first|exact fin hq|exact hq.elim
end
section
variable {P:Program}{pins:List Nat}{N:Nat}{S M:Nat->A}{op:Oper}{e:Eff}{d c:Nat}{f f':Nat->A}
theorem OpH.of'(h:N<=OB->Low S->OpOK P pins N op (hx S) (app (hx S) e)/\zQp S e):OpH P pins N op S (app S e):=
 λJ hl=>by obtain⟨I,u⟩:=h J hl;rw[hx_app u];exact⟨I,hl.app u⟩
theorem OpOK.hkpost{J:Nat->A}(h:OpOK P pins N op S J)(hk:J HK= .hp f):OpOK P pins N op S (upd J HK (.hp f')):=
 λW m0 X G a w m o hN I K Q Z=>h W m0 X G a w m o hN I K Q λU w' m' o' u I'=>Z U w' m' o' u (I'.hk hk f')
theorem zHE{s t:Nat}{x y:A}(h:s≠t):upd (upd S s x) t y=upd (upd S t y) s x:=by funext k;unfold upd;grind
theorem zAc{x:A}(hd:d<OB2)(hk:d≠HK):hx (upd S d x)=upd (hx S) d x:=by funext t;by_cases e:t=d;(subst e;rw[zBx hd,zK,zK]);(rw[zE e];unfold hx;rw[zE e,zE (Ne.symm hk)])
theorem h_put{l':List T}(hk:S HK= .hp f)(u:f'=updF f c (.box l'))(h:N<=OB->Low S->OpOK P pins N op (hx S) (upd (hx S) (OB+(OB+c)) (.box l'))):OpH P pins N op S (app S [(HK,.hp f')]):=by subst u;intro I hl;refine⟨?_,hl.upd zLp⟩;show OpOK P pins N op (hx S) (hx (upd S HK _));rw[zWn hl hk rfl];refine(h I hl).hkpost (f:=f) ?_;rw[zE (by unfold HK OB;omega)];exact yM hk (by simp)
theorem h_mk{l':List T}{x:A}(hk:S HK= .hp f)(U:f'=updF f c (.box l'))(J:okD N pins S d=true)(h:N<=OB->Low S->OpOK P pins N op (hx S) (app (hx S) [(OB+(OB+c),.box l'),(d,x)])):OpH P pins N op S (app S [(HK,.hp f'),(d,x)]):=by subst U;intro Z hl;have I:=zX Z J;(have u:d≠HK:=by unfold HK;unfold OB at I;omega);refine⟨?_,(hl.upd zLp).upd (lt2 I)⟩;show OpOK P pins N op (hx S) (hx (upd (upd S HK _) d x));rw[zAc (lt2 I) u,zWn hl hk rfl,zHE (Ne.symm u)];refine(h Z hl).hkpost (f:=f) ?_;show upd (upd (hx S) (OB+(OB+c)) _) d x HK=_;rw[zE (Ne.symm u),zE (by unfold HK OB;omega)];exact yM hk (by simp)
theorem zVY(hl:Low S)(hk:S HK= .hp f)(hf:f c= .free):hx S (OB+(OB+c))= .free:=by rw[zDO hl hk,hf];rfl
theorem zPz{l:List T}(hl:Low S)(hk:S HK= .hp f)(hf:f c= .box l):hx S (OB+(OB+c))= .box l:=by rw[zDO hl hk,hf];rfl
theorem h_fd(Z:Mk M S){off t k q:Nat}{x:Operand}{y:A}(I:op.op= .fieldAddr t x k)(hx:cpO M x= .t (.hpt c off))(U:fdH P t k=some q)(hy:A.t (.hpt c (off+q))=y)(hd:op.dst=some d)(u:okD N pins S d=true):OpH P pins N op S (app S [(d,y)]):=by subst hy;exact .of λJ=>⟨ok_hfd Z.hx I hx U hd (qA J u),zAr (zX J u)⟩
theorem h_ix(Z:Mk M S){off E k n t:Nat}{x i:Operand}{W:IntKind}{z:Int}{y:A}(I:op.op= .indexAddr t x i)(hx:cpO M x= .t (.hvw c off E k n))(hi:vO M i=some (.int W z))(U:ixH P t=some (none,k))(hz:0<=z/\z<n)(hy:A.t (.hpt c (off+z.toNat*k))=y)(hd:op.dst=some d)(u:okD N pins S d=true):OpH P pins N op S (app S [(d,y)]):=by subst hy;exact .of λJ=>⟨ok_hix Z.hx I hx hi U hz hd (qA J u),zAr (zX J u)⟩
theorem h_ia(Z:Mk M S){off k len t:Nat}{x i:Operand}{W:IntKind}{z:Int}{y:A}(I:op.op= .indexAddr t x i)(hx:cpO M x= .t (.hpt c off))(hi:vO M i=some (.int W z))(U:ixH P t=some (some len,k))(hz:0<=z/\z<len)(hy:A.t (.hpt c (off+z.toNat*k))=y)(hd:op.dst=some d)(u:okD N pins S d=true):OpH P pins N op S (app S [(d,y)]):=by subst hy;exact .of λJ=>⟨ok_hia Z.hx I hx hi U hz hd (qA J u),zAr (zX J u)⟩
theorem h_ln(U:Mk M S){off E k n t e:Nat}{x:Operand}{y:A}(I:op.op= .call {callee:= .builtin .len,args:= #[x],argTypes:= #[t]})(hx:cpO M x= .t (.hvw c off E k n))(Z:P.underlying t=some (.slice e))(hy:A.t (.d (.lit (.int .i64 n)))=y)(hd:op.dst=some d)(u:okD N pins S d=true):OpH P pins N op S (app S [(d,y)]):=by subst hy;exact .of λJ=>⟨ok_hln U.hx I hx Z hd (qA J u),zAr (zX J u)⟩
theorem h_pn(Z:Mk M S){I:BinOp}{t W e:Nat}{x:Operand}{b ng:Bool}(J:op.op= .binOp I t x (.const (.pointer none)) W)(hb:I=bif ng then .neq else .eql)(ht:P.underlying t=some (.pointer e))(hx:ptrN (cpO M x)=some b)(hd:op.dst=some d)(u:okD N pins S d=true):OpH P pins N op S (app S [(d,.t (.d (.lit (.bool (b !=ng)))))]):=
 .of (e:=[(d,_)]) λU=>⟨ok_hpn Z.hx J hb ht hx hd (qA U u),zAr (zX U u)⟩
theorem h_ld(U:Mk M S)(hk:S HK= .hp f){off t n:Nat}{x:Operand}{l:List T}{z:T}{y:A}(I:op.op= .load t x)(ht:tyA P t=some (false,n))(hx:cpO M x= .t (.hpt c off))(hf:f c= .box l)(hz:l[off]? =some z)(hy:norH z=some y)(hd:op.dst=some d)(u:okD N pins S d=true):OpH P pins N op S (app S [(d,y)]):=
 .of' (e:=[(d,y)]) λJ hl=>⟨ok_hld U.hx I ht hx (zPz hl hk hf) hz hy hd (qA J u),zAr (zX J u)⟩
theorem h_lr(W:Mk M S)(hk:S HK= .hp f){off t n:Nat}{x:Operand}{l r:List T}{y:List D}(J:op.op= .load t x)(ht:tyA P t=some (true,n))(hx:cpO M x= .t (.hpt c off))(hf:f c= .box l)(hl:(l.drop off).take n=r)(Z:r.length=n)(hpt:noPt r=true)(hy:r.map toD=y)(hd:op.dst=some d)(u:okD N pins S d=true):OpH P pins N op S (app S [(d,.t (.agg y))]):=
 .of' (e:=[(d,_)]) λU I=>⟨ok_hlr W.hx J ht hx (zPz I hk hf) hl Z hpt hy hd (qA U u),zAr (zX U u)⟩
theorem h_st(W:Mk M S)(hk:S HK= .hp f){t off:Nat}{x y:Operand}(U:op.op= .store t x y)(hd:op.dst=none){i:TypeInfo}(hi:P.info? t=some i)(hx:cpO M x= .t (.hpt c off)){l l':List T}(hf:f c= .box l){q:List T}(hc:zCH (cpO M y)=some q)(Z:q.length=i.size)(u:off+i.size<=l.length)(I:qD l off q=l')(J:f'=updF f c (.box l')):OpH P pins N op S (app S [(HK,.hp f')]):=by subst I;exact h_put hk J λhN hl=>ok_hst W.hx U hd hi hx (zPz hl hk hf) hc Z u
theorem h_bd(Z:Mk M S){t:Nat}{u:List (Nat×Operand)}(J:op.op= .build t u.toArray)(hd:op.dst=some d)(I:okD N pins S d=true){l:List T}(h:bdT P M t u=some l):OpH P pins N op S (app S [(d,.ag l)]):=
 .of (e:=[(d,_)]) λU=>⟨ok_buildT Z.hx J hd (qA U I) h,zAr (zX U I)⟩
def zSG:List Nat->Bool
 |[]=>true
 |x::r=> !(r.any λy=>Nat.beq y x)&&zSG r
theorem zMZ:∀{l:List Nat},zSG l=true->l.Nodup
 |[],_=> .nil
 |x::r,h=>by simp only[zSG,wH]at h;rw[List.nodup_cons];refine⟨λu=> ?_,zMZ h.2⟩;have:(r.any λy=>Nat.beq y x)=true:=sF.2 ⟨x,u,Nat.beq_refl x⟩;grind
def zVW(M:Nat->A)(σ fr:List Nat)(outs:List A):Bool:=
 zSG (σ++fr)&&(σ++fr).all (λj=>Nat.blt (j+1) OB)&&fr.all (λj=>match M (OB+j)with| .free=>true|_=>false)&&Nat.beq outs.length (σ++fr).length&&Nat.ble outs.length OB
theorem hx_puts:∀{τ:List Nat} {outs:List A} {S:Nat->A},(∀j∈τ,j+1<OB)->hx (app S (zCq τ outs))=app (hx S) (zCq τ outs)
 |[],outs,S,_=>by cases outs<;>rfl
 |j::τ,[],S,_=>rfl
 |j::τ,x::r,S,h=>by have u:=h j (by simp);show hx (app (upd S (OB+j) x) (zCq τ r))=app (upd (hx S) (OB+j) x) (zCq τ r);rw[hx_puts (λj u=>h j (vM _ u)),zAc (by unfold OB OB2 at*;omega) (by unfold HK;unfold OB at*;omega)]
theorem zSh:∀{τ:List Nat} {outs:List A} {S:Nat->A},(∀j∈τ,j+1<OB)->Low S->Low (app S (zCq τ outs))
 |[],outs,S,_,h=>by cases outs<;>exact h
 |j::τ,[],S,_,h=>h
 |j::τ,x::r,S,h,hl=>by have u:=h j (by simp);exact zSh (S:=upd S (OB+j) x) (λj u=>h j (vM _ u)) (hl.upd (by unfold OB OB2 at*;omega))
theorem puts_hk:∀{τ:List Nat} {outs:List A} {S:Nat->A},(∀j∈τ,j+1<OB)->app S (zCq τ outs) HK=S HK:=λh=>zFG λe=>by have:=h _ e.2;have u:=e.1;unfold HK at this;unfold OB at this;omega
theorem app_hpS:∀{τ:List Nat} {outs:List A} {S:Nat->A} {f':Nat->A},(∀j∈τ,j+1<OB)->app (hpS S f') (zCq τ outs)=hpS (app S (zCq τ outs)) f'
 |[],outs,S,f',_=>by cases outs<;>rfl
 |j::τ,[],S,f',_=>rfl
 |j::τ,x::r,S,f',h=>by have u:=h j (by simp);show app (upd (hpS S f') (OB+j) x) (zCq τ r)=hpS (app (upd S (OB+j) x) (zCq τ r)) f';rw[<-app_hpS (λj u=>h j (vM _ u))];congr 1;funext t;unfold upd hpS;by_cases e:t=OB+j;(subst e;rw[if_pos rfl,if_neg (by unfold OB OB2 at*;omega)];simp);grind
theorem zJN(hM:Mk M S)(I:Inv W Q X G pins S a w m o){σ:List Nat}(hσ:σ.Nodup)(hl:σ.length<=OB)(hs:∀j∈σ,j<OB){S':Nat->A}:∀(xs:List Operand) (args:List A),zIL σ (xs.map (cpO M)) args->(xs.map a.eval).length=args.length/\∀(k:Nat) (x:A),args[k]? =some x->∀k0,RepA m w (movH σ o) S' k0 x ((xs.map a.eval).getD k undef)
 |[],args,h=>by cases h;exact⟨rfl,λk x h=>by simp at h⟩
 |y::ys,args,h=>by(cases h with|cons hx ht=>obtain⟨k1,k2⟩:=zJN hM I hσ hl hs (S':=S') ys _ ht;refine⟨by simpa using k1,λk x hk k0=> ?_⟩;(cases k with|succ k=>simpa using k2 k x (by simpa using hk) k0|zero=>cases hk;have hr:=zW hM I y 0;show RepA m w (movH σ o) _ k0 _ (a.eval y);revert hx hr;generalize cpO M y=z;intro hx hr;(cases hx with|plain h hp=>exact zG2 hp (h.rep I.sat hr)|hpt c off=>obtain⟨g,J,U⟩:=hr;exact⟨g,(zCF hσ hl hs).2 (.inl ⟨_,rfl,J⟩),U⟩|opt h=>exact(h.rep I.sat hr).imp id λ⟨i,e,g,J,U⟩=>⟨i,e,g,(zCF hσ hl hs).2 (.inl ⟨_,rfl,J⟩),U⟩|hvw c off E k n=>obtain⟨A',q,J,U,q3,q4⟩:=hr;exact⟨A',q,J,U,q3,q4.imp id λ⟨g,cs,E1,k1,k2⟩=>⟨g,cs,E1,(zCF hσ hl hs).2 (.inl ⟨_,rfl,k1⟩),k2⟩⟩|ck f cs=>obtain⟨Z,J,U,q3⟩:=hr;refine⟨Z,J,U,λi c hi=> ?_⟩;obtain⟨v,q4,q5⟩:=q3 i c hi;refine⟨v,q4,?_⟩;(cases c with|live c=>obtain⟨g,b1,b2⟩:=q5;exact⟨g,b1,(zCF hσ hl hs).2 (.inl ⟨_,rfl,b2⟩)⟩|fz l=>exact q5)|cl f h=>obtain⟨Z,J,U,q3⟩:=hr;refine⟨Z,J,U,λi l hi=> ?_⟩;obtain⟨g,q4,q5⟩:=q3 i l hi;refine⟨g,q4,λj x hj=> ?_⟩;obtain⟨u,q6,q7⟩:=q5 j x hj;have hd:=wI.1 (wI.1 h l (wD hi)) x (wD hj);refine⟨u,q6,?_⟩;(cases x with|d x=>exact q7|hpt c off=>obtain⟨g,b1,b2⟩:=q7;exact⟨g,(zCF hσ hl hs).2 (.inl ⟨_,rfl,b1⟩),b2⟩|opt t p=>exact q7.imp id λ⟨i,e,g,b1,b2⟩=>⟨i,e,g,(zCF hσ hl hs).2 (.inl ⟨_,rfl,b1⟩),b2⟩|_=>cases hd)|view h=>obtain⟨A',q,J,U,q3,q4⟩:=hr;exact⟨A',q,J,U,q3,q4.imp id λ⟨g,cs,E1,k1,k2⟩=>⟨g,cs,E1,(zCF hσ hl hs).2 (.inr ⟨_,_,rfl,by have:=(wF.1 h).1;omega,h,k1⟩),k2⟩⟩|view0 h=>obtain⟨A',q,J,U,q3,q4⟩:=hr;exact⟨A',q,J,U,q3,q4.imp id λ⟨g,cs,E1,k1,k3,k4,k5,_⟩=>⟨g,cs,E1,(zCF hσ hl hs).2 (.inr ⟨_,_,rfl,by have:=(wF.1 h).1;omega,h,k1⟩),k3,k4,k5,.inl rfl⟩⟩)))
theorem h_callV (hM : Mk M S) (hk : S HK = .hp f) {fn : Nat} (hd : op.dst = some d) (hok : okD N pins S d = true) {args : List A} {ins outs : List A} {r r' : A} {σ fr : List Nat} (hf : FCH P fn args ins outs f f' r) (hp : zCO f) (hp' : zCO f') (hb : zVW M σ fr outs = true) (b3 : ins.all A.flatO = true) (b4 : outs.all A.flatO = true) (hin : σ.map (fun j => S (OB + j)) = ins) (hle : Nat.ble args.length OB = true) (hres : ResH (σ ++ fr) r r')
    (hrun : ∀ (w0 : World) (m0 : Mem) (o0 : OwnM) (G : GD) (a : Act) (w : World) (m : Mem) (o : OwnM), Inv w0 m0 o0 G pins (hx S) a w m o → σ.Nodup → σ.length ≤ OB → (∀ j ∈ σ, j < OB) → ∃ vals : Array Value, (execOp a.eval op).run P w = .ok (.enter fn vals) w ∧ vals.size = args.length ∧ ∀ k x, args[k]? = some x → ∀ k0, RepA m w (movH σ o) (argH args ins f) k0 x (vals.getD k undef)) :
    OpH P pins N op S (app S (zCq (σ ++ fr) outs ++ [(HK, .hp f'), (d, r')])) := by
  intro hN hlo
  unfold zVW at hb
  simp only [wH] at hb
  obtain ⟨⟨⟨⟨b1, b2⟩, b5⟩, b6⟩, b7⟩ := hb
  have hnd := zMZ b1
  have hj : ∀ j ∈ σ ++ fr, j + 1 < OB := fun j h => by have := wI.1 b2 j h; simpa using this
  have hj' : ∀ j ∈ σ ++ fr, j < OB := fun j h => by have := hj j h; omega
  have hlen : outs.length = (σ ++ fr).length := wT b6
  have hlO : outs.length ≤ OB := wS b7
  have hσl : σ.length ≤ OB := by have : σ.length ≤ (σ ++ fr).length := by simp
                                 omega
  have hdO := zX hN hok
  have hd2 : d ≠ HK := by unfold HK; unfold OB at hdO; omega
  refine ⟨?_, ?_⟩
  · rw [zKL]
    show OpOK P pins N op (hx S) (hx (upd (upd (app S (zCq (σ ++ fr) outs)) HK (.hp f')) d r'))
    have hl1 : Low (app S (zCq (σ ++ fr) outs)) := zSh hj hlo
    have he : hx (upd (upd (app S (zCq (σ ++ fr) outs)) HK (.hp f')) d r') = upd (upd (app (hpS (hx S) f') (zCq (σ ++ fr) outs)) d r') HK (.hp f') := by
      rw [zAc (lt2 hdO) hd2, zHE hd2, app_hpS hj, ← hx_puts hj]
      congr 1
      funext t
      by_cases e : t = HK
      · subst e
        rw [zK]
        exact yM (zK _ _ _) (by simp)
      · rw [zE e]
        rcases wR t OB2 with h | h
        · rw [zBx h, zE e]
          unfold hpS
          rw [if_neg (by omega), zBx h]
        · obtain ⟨k, rfl⟩ : ∃ k, t = OB2 + k := ⟨t - OB2, by omega⟩
          rw [qX, zDO (hl1.upd zLp) (zK _ _ _), ← qX]
          unfold hpS
          rw [if_pos (wV _ _), wO]
    rw [he]
    refine OpOK.hkpost (f := f) ?_ ?_
    · intro w0 m0 o0 G a w m o hNa I K Q hK
      obtain ⟨h1, h2, h3⟩ := zP (qA hN hok)
      obtain ⟨vals, hrun, k1, k2⟩ := hrun w0 m0 o0 G a w m o I (sU.1 hnd).1 hσl (fun j h => hj' j (tL _ h))
      have hfr : ∀ j ∈ fr, hx S (OB + j) = .free := fun j h => by
        have := wI.1 b5 j h
        have hm : M (OB + j) = .free := by
          revert this
          cases M (OB + j) <;> intro this <;> first | rfl | cases this
        rcases hM.hx (OB + j) with e | e
        · rw [e] at hm; cases hm
        · rw [← e]; exact hm
      have hc := call_heap I hf (fun c => zDO hlo hk c) hp hp' hnd hj' (by
        rw [← hin]
        refine uV fun j h => ?_
        exact zBx (by have := hj' j (tL _ h); unfold OB OB2 at *; omega)) b3 b4 hfr hlen hlO hres (vals := vals) k1 k2 (wS hle) (d := d) (by omega) h2 h3
      unfold Oper.wp
      rw [hrun]
      refine Calls.mono hc ?_
      rintro e w' ⟨u, m', o', rfl, J⟩
      rw [← hd] at J
      exact hK _ _ _ _ (by rw [zAK, hNa]) J
    · rw [zE (Ne.symm hd2), puts_hk hj]
      unfold hpS
      rw [if_neg (by unfold HK OB2; omega)]
      exact yM hk (by simp)
  · rw [zKL]
    exact ((zSh hj hlo).upd zLp).upd (lt2 hdO)
theorem h_call(hM:Mk M S)(hk:S HK= .hp f){fn:Nat}{xs:List Operand}{ts:Array TypeId}{fx:Operand}(hop:op.op= .call {callee:= .value fx,args:=xs.toArray,argTypes:=ts})(hfx:vO M fx=some (.func (.func fn) #[] #[]))(hd:op.dst=some d)(hok:okD N pins S d=true){F:Func}(hfn:P.funcs[fn]? =some F)(hbody:F.body.isNone=false)(hname:(F.name== "runtime.NumGoroutine")=false){args:List A}{ins outs:List A}{r r':A}{σ fr:List Nat}(hf:FCH P fn args ins outs f f' r)(hp:zCO f)(hp':zCO f')(hb:zVW M σ fr outs=true)(b3:ins.all A.flatO=true)(b4:outs.all A.flatO=true)(hin:σ.map (λj=>S (OB+j))=ins)(hargs:zIL σ (xs.map (cpO M)) args)(hle:Nat.ble args.length OB=true)(hres:ResH (σ++fr) r r'):
 OpH P pins N op S (app S (zCq (σ++fr) outs++[(HK,.hp f'),(d,r')])):=by
 refine h_callV hM hk hd hok hf hp hp' hb b3 b4 hin hle hres λw0 m0 o0 G a w m o I hn hl hs=> ?_
 obtain⟨k1,k2⟩:=zJN hM.hx I hn hl hs (S':=argH args ins f) xs args hargs
 refine⟨(xs.map a.eval).toArray,?_,by simpa using k1,λk x hk k0=>by simpa using k2 k x hk k0⟩
 unfold execOp
 rw[hop]
 simp only[resolve,zA0 hM.hx I hfx,Deferred.ofValue,wU]
 have hb:F.body≠none:=λe=>by rw[e]at hbody;cases hbody
 have hn:F.name≠ "runtime.NumGoroutine" :=λe=>by rw[e]at hname;simp at hname
 simp[invoke,callFunc,hfn,hn,hb]
end
end Go.Proofs.YtocolhfjpadaoaaGreatDoor
namespace Go.Proofs.YtocolhfjpadaoaaGreatDoor
open Go Go.RowKit
def CkE.a:CkE->A
 | .live c=> .t (.hpt c 0)
 | .fz l=> .imm l
variable {P:Program}{w0:World}{w:World}{m0:Mem}{m:Mem}{o0:OwnM}{o:OwnM}{G:GD}{pins:List Nat}{N:Nat}{a:Act}{op:Oper}{S:Nat->A}{M:Nat->A}{L:SL}{v:Value}{W:World}{Q:Mem}{X:OwnM}
section
variable {P:Program}{pins:List Nat}{N:Nat}{S M:Nat->A}{op:Oper}{e:Eff}{d c:Nat}{f f':Nat->A}
theorem h_callW(hM:Mk M S)(hk:S HK= .hp f){fn t:Nat}{tl:List A}{xs:List Operand}{ts:Array TypeId}(hop:op.op= .call {callee:= .value (.tmp t),args:=xs.toArray,argTypes:=ts})(hd:op.dst=some d)(hok:okD N pins S d=true)(hfn:∃F,P.funcs[fn]? =some F/\F.body.isNone=false/\(F.name== "runtime.NumGoroutine")=false){args:List A}{r r':A}(hf:FCH P fn (args++tl) [] [] f f' r)(hp:zCO f)(hp':zCO f')(hargs:zIL [] (xs.map (cpO M)) args)(hle:Nat.ble (args++tl).length OB=true)(hres:ResH [] r r')
(htl:∀(w0:World) (m0:Mem) (o0:OwnM) (G:GD) (a:Act) (w:World) (m:Mem) (o:OwnM),Inv w0 m0 o0 G pins (hx S) a w m o->∃ptrs,a.eval (.tmp t)= .func (.func fn) #[] ptrs/\ptrs.size=tl.length/\∀(i:Nat) (x:A),tl[i]? =some x->∃v,ptrs[i]? =some v/\∀k0,RepA m w (movH [] o) (argH (args++tl) [] f) k0 x v):
 OpH P pins N op S (app S [(HK,.hp f'),(d,r')]):=by
 obtain⟨F,hfn,hbody,hname⟩:=hfn
 refine h_callV (σ:=[]) (fr:=[]) hM hk hd hok hf hp hp' rfl rfl rfl rfl hle hres λw0 m0 o0 G a w m o I hn hl hs=> ?_
 obtain⟨k1,k2⟩:=zJN hM.hx I hn hl hs (S':=argH (args++tl) [] f) xs args hargs
 obtain⟨ptrs,e,q1,q2⟩:=htl w0 m0 o0 G a w m o I
 refine⟨(xs.map a.eval).toArray++ptrs,?_,?_,λk x hk k0=> ?_⟩
 · unfold execOp;rw[hop];simp only[resolve,e,Deferred.ofValue,wU];(have hb:F.body≠none:=λe=>by rw[e]at hbody;cases hbody);(have hn:F.name≠ "runtime.NumGoroutine" :=λe=>by rw[e]at hname;simp at hname);simp[invoke,callFunc,hfn,hn,hb]
 · simp only[tV,uE,wM,wP,q1];have:(xs.map a.eval).length=args.length:=k1;simp only[wM]at this;omega
 · have hl1:(xs.map a.eval).length=args.length:=k1;rcases wR k args.length with h|h;(rw[uN h]at hk;have:=k2 k x hk k0;rw[wJ,Array.getElem?_append_left (by simp only[uE];omega)];rw[wK]at this;simpa using this);(rw[uB h]at hk;obtain⟨v,q3,q4⟩:=q2 _ x hk;(have hv:((xs.map a.eval).toArray++ptrs).getD k undef=v:=by rw[wJ,Array.getElem?_append_right (by simp only[uE];omega)];simp only[uE,hl1,q3];rfl);rw[hv];exact q4 k0)
theorem h_callT(hM:Mk M S)(hk:S HK= .hp f){fn t:Nat}{caps:List (List T)}{xs:List Operand}{ts:Array TypeId}(hop:op.op= .call {callee:= .value (.tmp t),args:=xs.toArray,argTypes:=ts})(hfx:cpO M (.tmp t)= .cl fn caps)(hdh:caps.all (λl=>l.all dhT)=true)(hd:op.dst=some d)(hok:okD N pins S d=true)(hfn:∃F,P.funcs[fn]? =some F/\F.body.isNone=false/\(F.name== "runtime.NumGoroutine")=false){args:List A}{r r':A}(hf:FCH P fn (args++caps.map A.imt) [] [] f f' r)(hp:zCO f)(hp':zCO f')(hargs:zIL [] (xs.map (cpO M)) args)(hle:Nat.ble (args++caps.map A.imt).length OB=true)(hres:ResH [] r r'):
 OpH P pins N op S (app S [(HK,.hp f'),(d,r')]):=by
 refine h_callW hM hk hop hd hok hfn hf hp hp' hargs hle hres λw0 m0 o0 G a w m o I=> ?_
 have hc:=zW hM.hx I (.tmp t) 0
 rw[hfx]at hc
 obtain⟨ptrs,e,q1,q2⟩:=hc
 refine⟨ptrs,e,by simpa using q1,λi x hi=> ?_⟩
 rw[wG]at hi
 cases hc:caps[i]? with
  |none=>rw[hc]at hi;cases hi
  |some l=>
   rw[hc]at hi
   cases hi
   obtain⟨g,q3,q4⟩:=q2 _ l hc
   refine⟨_,q3,λk0=>⟨g,rfl,λj x hj=> ?_⟩⟩
   obtain⟨u,q6,q7⟩:=q4 j x hj
   have hd:=wI.1 (wI.1 hdh l (wD hc)) x (wD hj)
   refine⟨u,q6,?_⟩
   cases x with
    |d x=>exact q7
    |hpt c off=>obtain⟨g,b1,b2⟩:=q7;exact⟨g,(zCF tP (vI _) (λj h=>by cases h)).2 (.inl ⟨_,rfl,b1⟩),b2⟩
    |opt t p=>exact q7.imp id λ⟨i,e,g,b1,b2⟩=>⟨i,e,g,(zCF tP (vI _) (λj h=>by cases h)).2 (.inl ⟨_,rfl,b1⟩),b2⟩
    |_=>cases hd
end
def fl{α β:Type}(c:α->List β)(x:List α):List β:=x.flatMap c
section
variable {α β:Type}{c:α->List β}{k:Nat}
theorem zPV(I:∀a,(c a).length=k)(x:List α):(fl c x).length=x.length*k:=by unfold fl;(induction x with|nil=>simp|cons a r u=>grind)
theorem zSs(u:∀a,(c a).length=k){x:List α}{i:Nat}(h:i<x.length):fl c x=fl c (x.take i)++(c x[i]++fl c (x.drop (i+1)))/\(fl c (x.take i)).length=i*k:=by
  refine⟨?_,by rw[zPV u,uA,Nat.min_eq_left (by omega)]⟩
  conv=>lhs;rw[<-uW i x,vL h]
  unfold fl
  grind
theorem fl_row(u:∀a,(c a).length=k){x:List α}{i:Nat}{a:α}(h:x[i]? =some a):((fl c x).drop (i*k)).take k=c a:=by obtain⟨I,rfl⟩:=wF.1 h;obtain⟨e,hl⟩:=zSs (c:=c) u I;grind
theorem zWE(u:∀a,(c a).length=k){x:List α}{i q:Nat}{a:α}(h:x[i]? =some a)(J:q<k):(fl c x)[i*k+q]? =(c a)[q]? :=by obtain⟨I,rfl⟩:=wF.1 h;obtain⟨e,hl⟩:=zSs (c:=c) u I;grind
theorem fl_set(u:∀a,(c a).length=k){x:List α}{i:Nat}(h:i<x.length)(a:α):fl c (x.set i a)=fl c (x.take i)++(c a++fl c (x.drop (i+1))):=by rw[List.set_eq_take_append_cons_drop,if_pos h];unfold fl;grind
theorem fl_splice(u:∀a,(c a).length=k){x:List α}{i q:Nat}{a b:α}{d:List β}(h:x[i]? =some a)(hd:qD (c a) q d=c b)(Z:q+d.length<=k):qD (fl c x) (i*k+q) d=fl c (x.set i b):=by obtain⟨I,rfl⟩:=wF.1 h;obtain⟨e,hl⟩:=zSs (c:=c) u I;rw[fl_set u I,<-hd,e];unfold qD;have J:(c x[i]).length=k:=u _;(have U:(fl c (x.take i)++(c x[i]++fl c (x.drop (i+1)))).take (i*k+q)=fl c (x.take i)++(c x[i]).take q:=by rw[<-hl,List.take_length_add_append,List.take_append_of_le_length (by omega)]);(have W:(fl c (x.take i)++(c x[i]++fl c (x.drop (i+1)))).drop (i*k+q+d.length)=(c x[i]).drop (q+d.length)++fl c (x.drop (i+1)):=by rw[Nat.add_assoc,<-hl,List.drop_length_add_append,List.drop_append_of_le_length (by omega)]);grind
end
theorem zFe{β:Type}{k:Nat}:∀{rs:List (List β)},(∀r∈rs,r.length=k)->(rs.flatMap id).length=rs.length*k
 |[],_=>by simp
 |r::t,h=>by rw[List.flatMap_cons,wP,zFe λx hx=>h x (vM _ hx),tO,Nat.succ_mul];grind
theorem zDN{β:Type}{k:Nat}:∀{rs:List (List β)} {i q:Nat} {r:List β},(∀r∈rs,r.length=k)->rs[i]? =some r->q<k->(rs.flatMap id)[i*k+q]? =r[q]?
 |[],i,q,r,_,h,_=>by simp at h
 |x::t,i,q,r,h,I,u=>by have hx:x.length=k:=h x (by simp);rw[List.flatMap_cons];(cases i with|zero=>grind|succ i=>rw[Nat.succ_mul,uB (by show x.length<=_;omega)];(have:i*k+k+q-(id x).length=i*k+q:=by show i*k+k+q-x.length=_;omega);rw[this];exact zDN (λr J=>h r (vM _ J)) (by simpa using I) u)
section
variable {w0:World}{m0:Mem}{o0:OwnM}{G:GD}{pins:List Nat}{S M:Nat->A}{a:Act}{w:World}{m:Mem}{o:OwnM}{P:Program}{N:Nat}
theorem ok_make(hM:Mk M S){d j t e q:Nat}{xn xc:Operand}{kl kc:IntKind}{n:Int}{U:TypeInfo}{z:Value}{c0:List T}(ι:op.op= .makeSlice t xn xc)(hn:vO M xn=some (.int kl n))(hc:vO M xc=some (.int kc n))(hu:P.underlying t=some (.slice e))(ξ:P.info? e=some U)(hz:U.zero=some z)
  (θ:zF6 (litA z)=some c0)(β:c0.length=U.size)(hq:mkI U.bytes n=some q)(hd:op.dst=some d)(ν:okD N pins S d=true)(δ:Nat.blt d OB=true)(α:S (OB+j)= .free){F:Nat}(hF:(F=e/\e<OFB)\/F=OFB+e):
  OpOK P pins N op S (app S [(OB+j,.box (fl (λ_=>c0) (List.replicate q ()))),(d,.t (.view j 0 F U.size q))]):=by
 obtain⟨q1,q2,q3,rfl⟩:=mkI_iff hq
 refine zL λw0 m0 o0 G a w m o hN I=> ?_
 obtain⟨d1,d2,d3⟩:=zP ν
 have δ:d<OB:=by simpa using δ
 have γ:zCH (litA z)=some c0:=by
  revert θ
  generalize litA z=y
  intro hl
  cases y with
  |t y=>cases y<;>first|exact hl|cases hl
  |_=>cases hl
 obtain⟨k1,k2,k3⟩:=zD4 γ (zFC (m:=m) (w:=w) (o:=o) (S:=S) 0 z)
 have ζ:=run_make (P:=P) (w:=w) t e U z hu ξ hz kl kc n n q1 (tJ _) q2 (by omega)
 have Z:(madeCells z.cells (n.toNat*U.size)).size=n.toNat*U.size:=size_madeCells _ _
 have J:=I.obj_new (j:=j) (l:=fl (λ_=>c0) (List.replicate n.toNat ())) (cs:=madeCells z.cells (n.toNat*U.size)) (E:=e) α ?_ λi x hi=> ?_
 ·
  refine⟨.slice (some ⟨w.heap.size,0,none⟩) n.toNat n.toNat,w.alloc (.cells (madeCells z.cells (n.toNat*U.size)) e),m,newO o (OB+j) w.heap.size,?_,?_⟩
  ·
   unfold execOp
   rw[ι]
   simp only[wE]
   rw[zA0 hM I hn,zA0 hM I hc,ζ]
   rfl
  ·
   rw[hd]
   exact J.set d _ _ (by omega) (by rw[zE (by omega)];exact d2) ⟨some ⟨w.heap.size,0,none⟩,n.toNat,wL _,by unfold maxLen;omega,rfl,.inr ⟨w.heap.size,_,e,qT _ _ _,rfl,heap_alloc_new w _,by rw[Z];omega,by
    rcases hF with⟨h,h2⟩|h
    · exact .inr (.inl ⟨by rw[h];exact h2,h.symm⟩)
    · exact .inr (.inr ⟨h,rfl,Z⟩)⟩⟩
 ·
  rw[Z,zPV (k:=U.size) (λ_=>β),wW]
  exact wL _
 ·
  have W:i<n.toNat*U.size:=by
   have:=(wF.1 hi).1
   rw[zPV (k:=U.size) (λ_=>β),wW]at this
   exact this
  have ε:0<U.size:=Nat.pos_of_ne_zero λe=>by rw[e]at W;simp at W
  have η:i/U.size<n.toNat:=tY (by rw[uQ];exact W)
  have κ:i %U.size<U.size:=Nat.mod_lt _ ε
  have he:i/U.size*U.size+i %U.size=i:=by rw[uQ];exact Nat.div_add_mod i U.size
  have h2:=zWE (c:=λ_:Unit=>c0) (k:=U.size) (λ_=>β) (x:=List.replicate n.toNat ()) (i:=i/U.size) (q:=i %U.size) (a:=()) (by rw[uJ,if_pos η]) κ
  rw[he]at h2
  rw[h2]at hi
  obtain⟨p1,u,p2,p3⟩:=k3 _ x hi
  refine⟨zF3 γ x (wD hi),u,?_,p3 _ _ (zAX.refl w)⟩
  have μ:z.cells.size=U.size:=by have:=k1;simp at this;omega
  unfold madeCells
  rw[Array.getElem?_map,Array.getElem?_range,if_pos W]
  simp only[uG,μ]
  have p2:z.cells[i %U.size]? =some u:=by simpa using p2
  rw[getElem!_def,p2]
theorem ok_ixv(hM:Mk M S){d j off E k n t e:Nat}{x i:Operand}{ki:IntKind}{z:Int}{U:TypeInfo}(W:op.op= .indexAddr t x i)(hx:cpO M x= .t (.view j off E k n))(hi:vO M i=some (.int ki z))(hu:P.underlying t=some (.slice e))(Z:P.info? e=some U)(hz:0<=z/\z<n)(hd:op.dst=some d)(J:okD N pins S d=true):
 OpOK P pins N op S (upd S d (.ref (OB+j) (off+z.toNat*U.size))):=by
 refine zL λw0 m0 o0 G a w m o hN I=> ?_
 obtain⟨h1,h2,h3⟩:=zP J
 have u:=zW hM I x 0
 rw[hx]at u
 obtain⟨A',c,k0,_,k3,k4⟩:=u
 obtain⟨g,cs,_,k1,k5,_⟩:=k4.resolve_left λh=>by omega
 subst k5
 refine⟨.pointer (some ⟨g,off+z.toNat*U.size,none⟩),w,m,o,?_,?_⟩
 · unfold execOp;rw[W];simp only[wE];rw[zA0 hM I hi,k3];simp[Instr.indexAt,asIntOf,run_underlying hu,hz,sizeOf,typeInfo,Z,Addr.add_mid]
 · rw[hd];exact I.set d _ _ (by omega) h2 ⟨g,k1,rfl,λh=>absurd h (by omega)⟩
theorem ok_ixa(Z:Mk M S){d b off t e len:Nat}{x i:Operand}{ki:IntKind}{z:Int}{U:TypeInfo}(J:op.op= .indexAddr t x i)(hx:cpO M x= .ref b off)(hi:vO M i=some (.int ki z))(W:P.underlying t=some (.array len e))(I:P.info? e=some U)(hz:0<=z/\z<len)(hd:op.dst=some d)(u:okD N pins S d=true):
 OpOK P pins N op S (upd S d (.ref b (off+z.toNat*U.size))):=by
 refine zQI Z hd u ?_
 rw[J]
 show ixF P M t x i=_
 unfold ixF
 simp only[hi,W,I,hx]
 rw[if_pos hz]
theorem ok_ldx(J:Mk M S){d b off t n:Nat}{x:Operand}{l:List T}{z:T}(I:op.op= .load t x)(ht:tyA P t=some (false,n))(hx:cpO M x= .ref b off)(hb:M b= .box l)(hl:l[off]? =some z)(hd:op.dst=some d)(u:okD N pins S d=true):OpOK P pins N op S (upd S d (norA z)):=by refine zQI J hd u ?_;rw[I];show ldF P M t x=_;unfold ldF;grind
theorem ok_lnv(W:Mk M S){d j off E k n t e:Nat}{x:Operand}(U:op.op= .call {callee:= .builtin .len,args:=⟨[x]⟩,argTypes:=⟨[t]⟩})(hx:cpO M x= .t (.view j off E k n))(hu:P.underlying t=some (.slice e))(hd:op.dst=some d)(J:okD N pins S d=true):
 OpOK P pins N op S (upd S d (.t (.d (.lit (.int .i64 n))))):=by
 refine zL λw0 m0 o0 G a w m o hN I=> ?_
 obtain⟨h1,Z,h3⟩:=zP J
 have u:=zW W I x 0
 rw[hx]at u
 obtain⟨A',c,_,_,k3,_⟩:=u
 refine⟨.int .i64 n,w,m,o,?_,by rw[hd];exact I.set d _ _ (by omega) Z (.lit _ rfl)⟩
 unfold execOp
 rw[U]
 simp only[resolve,invoke,builtin,wE,wQ,wC,wU,vC,vS]
 rw[k3]
 simp[Builtin.len_,run_underlying hu,goInt]
theorem ok_slv(hM:Mk M S){d j off E k n t e:Nat}{x:Operand}{lo hi:Option Operand}{l0 h0:Option Int}{u:TypeInfo}{off' n':Nat}(β:op.op= .slice t x lo hi none)(hx:cpO M x= .t (.view j off E k n))(hk:u.size=k)(ζ:bndO M lo=some l0)(γ:bndO M hi=some h0)(hu:P.underlying t=some (.slice e))(η:P.info? e=some u)
    (hc:0<=l0.getD 0/\l0.getD 0<=h0.getD n/\h0.getD n<=n)(ho:off+(l0.getD 0).toNat*u.size=off')(δ:(h0.getD n).toNat-(l0.getD 0).toNat=n')(hd:op.dst=some d)(ε:okD N pins S d=true)(hE:E<OFB):
    OpOK P pins N op S (upd S d (.t (.view j off' E k n'))):=by
  subst ho δ hk
  refine zL λw0 m0 o0 G a w m o hN I=> ?_
  obtain⟨h1,h2,h3⟩:=zP ε
  have U:=zW hM I x 0
  rw[hx]at U
  obtain⟨J,c,k2,k4,k3,k5⟩:=U
  obtain⟨kl,e1⟩:=zFv hM I ζ
  obtain⟨kh,e2⟩:=zFv hM I γ
  have hb:(Instr.sliceBounds true n c (l0.map λz=> .int (kl z) z) (h0.map λz=> .int (kh z) z) none).run P w= .ok ((l0.map Int.toNat).getD 0,(h0.map Int.toNat).getD n,c) w:=by
    unfold Instr.sliceBounds
    cases l0<;>cases h0<;>simp only[sZ,uM,tU,uG,sL,tR]at hc⊢ <;>
      (simp only[wE,wQ,wC]
       repeat(rw[zAk (by omega) (by omega),wC]))
  have W:(l0.map Int.toNat).getD 0=(l0.getD 0).toNat:=by cases l0<;>rfl
  have Z:(h0.map Int.toNat).getD n=(h0.getD n).toNat:=by cases h0<;>simp
  rw[W,Z]at hb
  have α:(Instr.sliceAt t (.slice J n c) (l0.map λz=> .int (kl z) z) (h0.map λz=> .int (kh z) z) none).run P w= .ok (.slice (if c=(l0.getD 0).toNat then J else J.map (·.add ((l0.getD 0).toNat*u.size))) ((h0.getD n).toNat-(l0.getD 0).toNat) (c-(l0.getD 0).toNat)) w:=by
    unfold Instr.sliceAt
    simp only[wE,run_underlying hu,wC]
    unfold Instr.slice
    simp only[wE,run_underlying hu,wC]
    rw[hb]
    simp[sizeOf,typeInfo,η]
  refine⟨.slice (if c=(l0.getD 0).toNat then J else J.map (·.add ((l0.getD 0).toNat*u.size))) ((h0.getD n).toNat-(l0.getD 0).toNat) (c-(l0.getD 0).toNat),w,m,o,?_,?_⟩
  · unfold execOp
    rw[β]
    simp only[wE]
    rw[e1,e2,k3]
    show Result.andThen (Sem.run P (Instr.sliceAt t _ _ _ none) w) _=_
    rw[α]
    rfl
  · rw[hd]
    refine I.set d _ _ (by omega) h2 ?_
    refine⟨(if c=(l0.getD 0).toNat then J else J.map (·.add ((l0.getD 0).toNat*u.size))),c-(l0.getD 0).toNat,by omega,by omega,rfl,?_⟩
    rcases k5 with c0|⟨g,cs,E1,q1,q2,q3,q4,q6⟩
    · subst c0
      exact .inl (Nat.zero_sub _)
    · by_cases hz:c=(l0.getD 0).toNat
      · exact .inl (by omega)
      · refine .inr ⟨g,cs,E1,q1,?_,q3,?_,q6.imp id λh=> .inl (h.resolve_right λh=>by have:=h.1;omega)⟩
        · rw[if_neg hz,q2]
          show some ((⟨g,off,none⟩:Addr).add _)=_
          rw[Addr.add_mid]
        · have:(l0.getD 0).toNat*u.size+(c-(l0.getD 0).toNat)*u.size=c*u.size:=by rw[<-tE];congr 1;omega
          omega
def zKZ(j:Nat):T->Bool
 | .ptr i _| .view i _ _ _ _=>Nat.beq i j
 | .mpt i=>Nat.blt i OB&&Nat.beq i j
 |_=>false
def zBa(j:Nat):A->Bool
 | .t x=>zKZ j x
 | .tup l| .box l| .ag l| .lst l| .imt l=>l.any (zKZ j)
 | .cl _ u=>u.any λl=>l.any (zKZ j)
 | .ref b _=>Nat.beq b (OB+j)
 |_=>false
def zMS(o:OwnM)(j:Nat):OwnM:=λg=>if(o g).map (·.1)=some (OB+j)then none else o g
theorem qK{j g:Nat}{l:Nat×Nat}:zMS o j g=some l↔o g=some l/\l.1≠OB+j:=by unfold zMS;grind
theorem zFK{j:Nat}(hj:j<OB){x:T}(hx:zKZ j x=false){loc:Nat×Nat}(hl:loc.1≠OB+j)(h:RepT m w o loc x v):RepT m w (zMS o j) loc x v:=by(cases x with|d x=>exact h|agg l=>exact h|own E k l=>obtain⟨Z,cap,xs,e,I,u,J⟩:=h;exact⟨Z,cap,xs,e,I,λg U=>⟨qK.2 ⟨(u g U).1,hl⟩,(u g U).2⟩,J⟩|ptr i off=>obtain⟨g,I,u⟩:=h;(have:i≠j:=λe=>by subst e;simp[zKZ]at hx);exact⟨g,qK.2 ⟨I,by show OB+i≠OB+j;omega⟩,u⟩|view i off E k n=>obtain⟨Z,c,I,u,J,W⟩:=h;(have:i≠j:=λe=>by subst e;simp[zKZ]at hx);exact⟨Z,c,I,u,J,W.imp id λ⟨g,cs,E1,k1,k2⟩=>⟨g,cs,E1,qK.2 ⟨k1,by show OB+i≠OB+j;omega⟩,k2⟩⟩|ags l1 α=>exact zEX.own (λg U=>qK.2 ⟨U,hl⟩) h|xs E k l rv=>obtain⟨Z,cap,xs,e,I,u,J⟩:=h;exact⟨Z,cap,xs,e,I,λg U=>⟨qK.2 ⟨(u g U).1,hl⟩,(u g U).2⟩,J⟩|any=>exact h|hpt c off=>obtain⟨g,I,u⟩:=h;exact⟨g,qK.2 ⟨I,by show OB+(OB+c)≠OB+j;omega⟩,u⟩|opt t p=>exact h.imp id λ⟨i,e,g,I,u⟩=>⟨i,e,g,qK.2 ⟨I,by show OB+(OB+cd t i)≠OB+j;unfold OB at*;omega⟩,u⟩|mpt i=>obtain⟨g,I,u⟩:=h;(have:i≠j:=λe=>by subst e;have hx:(Nat.blt i OB&&Nat.beq i i)=false:=hx;rw[show Nat.blt i OB=true by simpa using hj,Nat.beq_refl]at hx;cases hx);exact⟨g,qK.2 ⟨I,by show OB+i≠OB+j;omega⟩,u⟩|hvw c off E k n=>obtain⟨Z,q,I,u,J,W⟩:=h;exact⟨Z,q,I,u,J,W.imp id λ⟨g,cs,E1,k1,k2⟩=>⟨g,cs,E1,qK.2 ⟨k1,by show OB+(OB+c)≠OB+j;omega⟩,k2⟩⟩)
theorem zHB{j:Nat}{l:List T}(h:l.any (zKZ j)=false){q:Nat}{x:T}(u:l[q]? =some x):zKZ j x=false:=by grind
theorem zT8{j s:Nat}(hj:j<OB){x:A}(hx:zBa j x=false)(W:s≠OB+j){S S':Nat->A}(hS:∀b l,b<OB->S b= .box l->∃l',S' b= .box l')(h:RepA m w o S s x v):RepA m w (zMS o j) S' s x v:=by(cases x with|t x=>exact zFK (loc:=(s,0)) hj hx W h|tup l=>obtain⟨vs,e,I,J⟩:=h;refine⟨vs,e,I,λq x U=> ?_⟩;obtain⟨u,k1,k2⟩:=J q x U;exact⟨u,k1,zFK hj (zHB hx U) W k2⟩|imm l=>exact h|box l=>obtain⟨g,e,I,J,cs,E,h3,h4,h5⟩:=h;refine⟨g,e,qK.2 ⟨I,W⟩,J,cs,E,h3,h4,λq x U=> ?_⟩;obtain⟨k0,u,k1,k2⟩:=h5 q x U;exact⟨k0,u,k1,zFK hj (zHB hx U) W k2⟩|ref b off=>obtain⟨g,I,J,h3⟩:=h;(have:b≠OB+j:=λe=>by subst e;simp[zBa]at hx);exact⟨g,qK.2 ⟨I,this⟩,J,λhb=>let⟨l,hl⟩:=h3 hb;hS b l hb hl⟩|free=>exactλg k e=>h g k (qK.1 e).1|ag l=>obtain⟨vs,e,I,J⟩:=h;refine⟨vs,e,I,λq x U=> ?_⟩;obtain⟨u,k1,k3,k2⟩:=J q x U;exact⟨u,k1,k3,zFK hj (zHB hx U) W k2⟩|lst l=>obtain⟨g,cap,e,I,J,h3⟩:=h;refine⟨g,cap,e,I,J,λq x U=> ?_⟩;obtain⟨u,k1,k2⟩:=h3 q x U;exact⟨u,k1,zFK hj (zHB hx U) W k2⟩|fr E k=>obtain⟨g,n,cap,γ,I,J,h3⟩:=h;exact⟨g,n,cap,γ,I,qK.2 ⟨J,W⟩,h3⟩|hp f=>trivial|mp l=>obtain⟨g,I,β⟩:=h;exact⟨g,qK.2 ⟨I,W⟩,β⟩|ck f cs=>obtain⟨Z,e,I,J⟩:=h;refine⟨Z,e,I,λi c hi=> ?_⟩;obtain⟨v,k1,k2⟩:=J i c hi;refine⟨v,k1,?_⟩;(cases c with|live c=>obtain⟨g,b1,b2⟩:=k2;exact⟨g,b1,qK.2 ⟨b2,by show OB+(OB+c)≠OB+j;omega⟩⟩|fz l=>exact k2)|cl f α=>obtain⟨Z,e,I,J⟩:=h;refine⟨Z,e,I,λi l hi=> ?_⟩;obtain⟨g,k1,k2⟩:=J i l hi;(have hl:l.any (zKZ j)=false:=by(cases hb:l.any (zKZ j)with|false=>rfl|true=>have:α.any (λl=>l.any (zKZ j))=true:=sF.2 ⟨l,wD hi,hb⟩;have hx:α.any (λl=>l.any (zKZ j))=false:=hx;grind));refine⟨g,k1,λq x U=> ?_⟩;obtain⟨u,k3,k4⟩:=k2 q x U;exact⟨u,k3,zFK hj (zHB hl U) W k4⟩|imt l=>obtain⟨g,k1,k2⟩:=h;refine⟨g,k1,λq x U=> ?_⟩;obtain⟨u,k3,k4⟩:=k2 q x U;exact⟨u,k3,zFK hj (zHB hx U) W k4⟩|rcd b u mE oE=>obtain⟨I,J,h3,h4,h5⟩:=h;exact⟨qK.2 ⟨I,W⟩,J,h3,h4,λg c hg=>qK.2 ⟨h5 g c hg,by show OB+(OB+c)≠OB+j;omega⟩⟩|any=>trivial)
theorem Inv.forget(I:Inv w0 m0 o0 G pins S a w m o){j:Nat}(W:j<OB)(hp:OB+j∉pins)(U:∀s,zBa j (S s)=false):Inv w0 m0 o0 G pins (upd S (OB+j) .free) a w m (zMS o j):=by refine⟨I.same,I.sat,I.mono,I.old,λg l h=>I.own g l (qK.1 h).1,λg l h=>I.lt g l (qK.1 h).1,λg g' l h Z=>I.inj g g' l (qK.1 h).1 (qK.1 Z).1,λs u g J=>qK.2 ⟨I.pinned s u g J,λe=>u.elim (λu=>hp (by rw[<-e];exact u)) λ_=>((I.shps g j (by have e:s=OB+j:=e;rw[<-e];exact J)).1).elim hp λh=>by unfold OB OB2 at*;omega⟩,λs=> ?_,I.defers,I.tbl,I.wide,I.shps⟩;by_cases e:s=OB+j;(subst e;rw[zK];exactλg k h=>(qK.1 h).2 rfl);(rw[zE e];exact zT8 W (U s) e (λb l hb hl=>⟨l,by rw[zE (by omega),hl]⟩) (I.slots s))
end
section
variable {w0:World}{m0:Mem}{o0:OwnM}{G:GD}{pins:List Nat}{S M:Nat->A}{a:Act}{w:World}{m:Mem}{o:OwnM}{P:Program}{N:Nat}
theorem Inv.less(I:Inv w0 m0 o0 G pins S a w m o){S':Nat->A}(h:∀s,S' s=S s\/(S' s= .any/\(S s).isBox=false)):Inv w0 m0 o0 G pins S' a w m o:=by refine⟨I.same,I.sat,I.mono,I.old,I.own,I.lt,I.inj,I.pinned,λs=> ?_,I.defers,I.tbl,I.wide,I.shps⟩;rcases h s with e|⟨e,_⟩;(rw[e];refine(I.slots s).turn λb l hb=> ?_;rcases h b with u|⟨_,u⟩;grind;rw[hb]at u;cases u);rw[e];trivial
theorem Inv.frz(I:Inv w0 m0 o0 G pins S a w m o){j d E k:Nat}{l:List T}{rs:List (List D)}(hj:j<OB)(hd:d<OB)(hp:OB+j∉pins)(θ:d∉pins)(hS:S d= .t (.view j 0 E k rs.length))(hb:S (OB+j)= .box l)(hm:∀s,s≠d->s≠OB+j->zBa j (S s)=false)(hk:0<k)(Z:∀r∈rs,r.length=k)(hl:l=(rs.flatMap id).map .d):
 ∃m' o',Inv w0 m0 o0 G pins (upd (upd S (OB+j) .free) d (.t (.d (.seq k rs)))) a w m' o':=by
 have hs:=I.slots (OB+j)
 rw[hb]at hs
 obtain⟨g,_,h1,h2,W,E',h3,h4,h5⟩:=hs
 have α:=I.slots d
 rw[hS]at α
 obtain⟨A',c,q2,q3,q5,q4⟩:=α
 have η:l.length=rs.length*k:=by subst hl;rw[wM];exact zFe Z
 have J:∀(i:Nat) (r:List D) (q:Nat) (e:D),rs[i]? =some r->r[q]? =some e->∃u,W[i*k+q]? =some u/\RepD m e u:=by intro i r q e hi hq;have ε:=Z r (wD hi);(have γ:q<k:=by rw[<-ε];exact(wF.1 hq).1);(have:l[i*k+q]? =some (.d e):=by subst hl;rw[wG,zDN Z hi γ,hq];rfl);obtain⟨_,u,k1,k2⟩:=h5 _ _ this;exact⟨u,k1,k2⟩
 let m':Mem:=newM m g λp=>W[p]?
 have U:Mle m m':=by intro b p u hu;show newM m g (λp=>W[p]?) b p=some u;unfold newM;rw[if_neg];exact hu;intro e;subst e;rw[h2]at hu;cases hu
 have δ:∀g1 l1,zMS o j g1=some l1->g1≠g/\o g1=some l1:=by intro g1 l1 h;obtain⟨a1,a2⟩:=qK.1 h;exact⟨λe=>by subst e;rw[h1]at a1;injection a1 with a1;exact a2 (by rw[<-a1]),a1⟩
 refine⟨m',zMS o j,⟨I.same,λb p u h=> ?_,I.mono.trans U,λb ζ hg=> ?_,λg l h=>I.own g l (qK.1 h).1,λg l h=>I.lt g l (qK.1 h).1,λg g' l h h'=>I.inj g g' l (qK.1 h).1 (qK.1 h').1,λs hs g hg=>qK.2 ⟨I.pinned s hs g hg,λe=>hs.elim (λhs=>hp (by rw[<-e];exact hs)) λ_=>((I.shps g j (by have e:s=OB+j:=e;rw[<-e];exact hg)).1).elim hp λh=>by unfold OB OB2 at*;omega⟩,λs=> ?_,I.defers,I.tbl,I.wide,I.shps⟩⟩
 · change newM m g (λp=>W[p]?) b p=some u at h;unfold newM at h;split at h;(rename_i e;subst e;rw[cell_of_row w b p W E' _ h3];exact h);exact I.sat b p u h
 · rw[<-I.old b ζ hg];funext p;show newM m g (λp=>W[p]?) b p=_;unfold newM;rw[if_neg];intro e;subst e;rcases I.own b _ h1 with h|h;exact hg h;omega
 · by_cases e:s=d;(subst e;rw[zK,q5];refine .seq k rs _ c g 0 (λi q=>(W[i*k+q]?).getD undef) q2 q3 (λβ=> ?_) (λi r hi=>Z r (wD hi)) (λi r q e hi hq=> ?_) (λi r q e hi hq=> ?_);((obtain⟨g',_,_,q1,q6,_⟩:=q4.resolve_left λh=>by have:=uH.2 β;omega);have:=I.inj _ _ _ h1 q1;subst this;exact q6);(obtain⟨u,k1,_⟩:=J i r q e hi hq;show newM m g (λp=>W[p]?) g (0+i*k+q)=_;rw[zAY,vF,k1];rfl);(obtain⟨u,k1,k2⟩:=J i r q e hi hq;rw[k1];exact k2.mono U));(rw[zE e];by_cases e2:s=OB+j;(subst e2;rw[zK];exactλg k h=>(qK.1 h).2 rfl);(rw[zE e2];have h:=zT8 hj (S':=upd (upd S (OB+j) .free) d (.t (.d (.seq k rs)))) (hm s e e2) e2 (λb l hb hl=>⟨l,by rw[zE (λe3=>by subst e3;rw[hS]at hl;cases hl),zE (by omega),hl]⟩) (I.slots s);have K:Keep (λ_=>False) m w (zMS o j) m' w (zMS o j):=⟨U,λg1 l1 h _=>by funext p;show newM m g (λp=>W[p]?) g1 p=_;unfold newM;rw[if_neg (δ g1 l1 h).1],λ_ _ _ _=>rfl,λ_ _ h _=>h,λ_ _ h=>h,λg _ k _ h=>⟨g,k,h⟩,λg _ _=> .of_eq rfl⟩;exact RepA.keep K (λ_=>id) (λb off _ _=>⟨id,id⟩) h))
end
def zA9(j d:Nat):SL->SL
 |[]=>[]
 |(s,x)::r=>(s,bif Nat.blt s OB&&(zBa j x&& !Nat.beq s d)then .any else x)::zA9 j d r
theorem zCJ(j d:Nat):∀(L:SL) (t:Nat),gt (zA9 j d L) t=bif Nat.blt t OB&&(zBa j (gt L t)&& !Nat.beq t d)then .any else gt L t
 |[],t=>by show A.any=bif _&&(zBa j .any&&_)then .any else .any;cases(Nat.blt t OB&&(zBa j .any&& !Nat.beq t d))<;>rfl
 |(s,x)::r,t=>by show gt ((s,_)::zA9 j d r) t=_;rw[zQ,zQ];unfold upd;by_cases h:t=s;grind;rw[if_neg h,if_neg h,zCJ j d r t]
theorem zAU{j d:Nat}(L:SL){t:Nat}(h:OB<=t):gt (zA9 j d L) t=gt L t:=by rw[zCJ];(have:Nat.blt t OB=false:=by(cases e:Nat.blt t OB with|false=>rfl|true=>(have:t<OB:=by simpa using e);omega));grind
def zIt(j d:Nat):SL->Bool
 |[]=>true
 |(s,x)::r=>(!Nat.blt s OB||(!x.isBox|| !(zBa j x&& !Nat.beq s d)))&&zIt j d r
theorem zGq{j d:Nat}:∀{L:SL},zIt j d L=true->∀t,(Nat.blt t OB&&(zBa j (gt L t)&& !Nat.beq t d))=true->(gt L t).isBox=false
 |[],_,t,h=>by rfl
 |(s,x)::r,h,t,u=>by unfold zIt at h;rw[wH]at h;rw[zQ]at u⊢;unfold upd at u⊢;by_cases e:t=s;grind;(rw[if_neg e]at u⊢;exact zGq h.2 t u)
theorem zPF{L L':SL}(hl:Low (gt L))(hk:gt L' HK=gt L HK)(h:∀s,gt L' s=gt L s\/(gt L' s= .any/\(gt L s).isBox=false)):Low (gt L')/\∀s,hx (gt L') s=hx (gt L) s\/(hx (gt L') s= .any/\(hx (gt L) s).isBox=false):=by(have u:Low (gt L'):=λt ht=>by rcases h t with e|⟨e,_⟩;rw[e,hl t ht];exact e);refine⟨u,λs=> ?_⟩;rcases wR s OB2 with h2|h2;rw[zBx h2,zBx h2];exact h s;(refine .inl ?_;unfold hx;rw[hl s h2,u s h2];grind)
section
variable {P:Program}{pins:List Nat}{N:Nat}{Q:Exit->SL->Prop}{L:SL}
def ObP(L:SL):Prop:=∀t,OB<=t->∀j,zBa j (gt L t)=false
theorem ObP.nil:ObP []:=λ_ _ _=>rfl
theorem ObP.cons{s:Nat}{x:A}(h:Nat.blt s OB=true\/∀j,zBa j x=false)(u:ObP L):ObP ((s,x)::L):=λt ht j=>by rw[zQ];unfold upd;by_cases e:t=s;(rw[if_pos e];subst e;rcases h with h|h;((have:t<OB:=by simpa using h);omega);exact h j);rw[if_neg e];exact u t ht j
theorem zWq{l:List T}(h:noPt l=true)(j:Nat):zBa j (.box l)=false:=by show l.any (zKZ j)=false;(cases hb:l.any (zKZ j)with|false=>rfl|true=>obtain⟨x,u,I⟩:=sF.1 hb;unfold noPt at h;have J:=wI.1 h x u;cases x<;>first|(cases I;done)|(cases J;done))
def zTE(L:SL):Prop:=(gt L HK= .any\/∃f,gt L HK= .hp f/\zCO f)/\ObP L
theorem ObP.fgt{j d:Nat}(h:ObP L):ObP ((OB+j,.free)::zA9 j d L):= .cons (.inr λ_=>rfl) λt ht i=>by rw[zAU L ht];exact h t ht i
theorem zJs(I:Low S)(hh:S HK= .any\/∃f,S HK= .hp f/\zCO f){j:Nat}(k:Nat):zBa j (hx S (OB2+k))=false:=by rcases hh with e|⟨f,e,hp⟩;(unfold hx;rw[I _ (wV _ _),e];simp only;split<;>rfl);(rw[qX,zDO I e];rcases zDR (f k)with⟨l,hl⟩|hl|hl|⟨l,hl⟩|⟨b,u,mE,W,hl⟩;(rw[hl];have:=zTF hp k l hl;(cases hb:l.any (zKZ j)with|false=>exact hb|true=>obtain⟨x,Z,U⟩:=sF.1 hb;have J:=this x Z;cases x<;>first|(cases U;done)|(cases J;done)|(exfalso;simp only[zKZ,wH]at U;have J:Nat.blt _ OB=false:=J;rw[U.1]at J;cases J)));rw[hl];rfl;rw[hl];rfl;rw[hl];rfl;rw[hl];rfl)
theorem st_frz{L':SL}(d j:Nat){E k n:Nat}{l:List T}{rs:List (List D)}(hd:gt L d= .t (.view j 0 E k n))(hb:gt L (OB+j)= .box l)(hn:n=rs.length)(hl:l=(rs.flatMap id).map .d)(δ:∀r∈rs,r.length=k)
(hc:(Nat.blt d OB&&Nat.blt (j+1) OB&& !pins.contains (OB+j)&& !pins.contains d&&Nat.blt 0 k&&zIt j d L)=true)(hh:zTE L)(hL:(d,.t (.d (.seq k rs)))::(OB+j,.free)::zA9 j d L=L')(hS:St w0 m0 o0 G pins N L a w):St w0 m0 o0 G pins N L' a w:=by
 subst hL hn
 simp only[wH,vQ,vJ,decide_eq_false_iff_not]at hc
 obtain⟨⟨⟨⟨⟨U,c2⟩,c3⟩,c4⟩,c5⟩,c6⟩:=hc
 have U:d<OB:=by simpa using U
 have c2:j+1<OB:=by simpa using c2
 have c5:0<k:=by simpa using c5
 obtain⟨hN,η,m,o,I⟩:=hS
 have ι:OB+j≠d:=by omega
 have α:∀s,gt (zA9 j d L) s=gt L s\/(gt (zA9 j d L) s= .any/\(gt L s).isBox=false):=λs=>by rw[zCJ];(cases W:(Nat.blt s OB&&(zBa j (gt L s)&& !Nat.beq s d))with|true=>exact .inr ⟨rfl,zGq c6 s W⟩|false=>exact .inl rfl)
 have Z:gt (zA9 j d L) HK=gt L HK:=zAU L (by unfold HK OB;omega)
 obtain⟨u,γ⟩:=zPF η Z α
 have I2:=I.less γ
 have β:gt (zA9 j d L) d= .t (.view j 0 E k rs.length):=by rw[zCJ,hd];simp
 have ε:gt (zA9 j d L) (OB+j)= .box l:=by rcases α (OB+j)with e|⟨_,e⟩;rw[e,hb];rw[hb]at e;cases e
 have W:∀s,s≠d->s≠OB+j->zBa j (hx (gt (zA9 j d L)) s)=false:=λs h1 h2=>by rcases wR s OB2 with h3|h3;(rw[zBx h3];rcases wR s OB with h4|h4;(rw[zCJ];(have ζ:Nat.beq s d=false:=by(cases hb:Nat.beq s d with|false=>rfl|true=>exact absurd (wT hb) h1));(have θ:Nat.blt s OB=true:=by simpa using h4);rw[ζ,θ];(cases W:zBa j (gt L s)with|true=>rfl|false=>exact W));rw[zAU L h4];exact hh.2 s h4 j);(obtain⟨k,rfl⟩:∃k,s=OB2+k:=⟨s-OB2,by omega⟩;exact zJs u (by rw[Z];exact hh.1) k)
 obtain⟨m',o',J⟩:=I2.frz (j:=j) (d:=d) (E:=E) (k:=k) (l:=l) (rs:=rs) (by omega) U c3 c4 (yM β (by simp)) (yM ε (by simp)) W c5 δ hl
 have e1:OB+j<OB2:=by unfold OB OB2 at*;omega
 have e2:OB+j≠HK:=by unfold HK;unfold OB at*;omega
 refine⟨hN,?_,m',o',?_⟩
 · rw[zQ,zQ];exact(u.upd e1).upd (lt2 U)
 · rw[zQ,zQ,zAc (lt2 U) (by unfold HK;unfold OB at U;omega),zAc e1 e2];exact J
theorem st_fgt{L':SL}(j:Nat)(hc:(Nat.blt (j+1) OB&& !pins.contains (OB+j)&&zIt j HK L)=true)(hh:zTE L)(hL:(OB+j,.free)::zA9 j HK L=L')(hS:St w0 m0 o0 G pins N L a w):St w0 m0 o0 G pins N L' a w:=by subst hL;simp only[wH,vQ,vJ,decide_eq_false_iff_not]at hc;obtain⟨⟨c2,c3⟩,c6⟩:=hc;(have c2:j+1<OB:=by simpa using c2);obtain⟨hN,α,m,o,I⟩:=hS;(have γ:∀s,gt (zA9 j HK L) s=gt L s\/(gt (zA9 j HK L) s= .any/\(gt L s).isBox=false):=λs=>by rw[zCJ];(cases J:(Nat.blt s OB&&(zBa j (gt L s)&& !Nat.beq s HK))with|true=>exact .inr ⟨rfl,zGq c6 s J⟩|false=>exact .inl rfl));have U:gt (zA9 j HK L) HK=gt L HK:=zAU L (by unfold HK OB;omega);obtain⟨u,Z⟩:=zPF α U γ;have I2:=I.less Z;(have J:∀s,zBa j (hx (gt (zA9 j HK L)) s)=false:=λs=>by rcases wR s OB2 with h3|h3;(rw[zBx h3];rcases wR s OB with h4|h4;(rw[zCJ];(have W:Nat.beq s HK=false:=by(cases hb:Nat.beq s HK with|false=>rfl|true=>have:=wT hb;unfold HK at this;unfold OB at h4;omega));(have β:Nat.blt s OB=true:=by simpa using h4);rw[W,β];(cases J:zBa j (gt L s)with|true=>rfl|false=>exact J));rw[zAU L h4];exact hh.2 s h4 j);(obtain⟨k,rfl⟩:∃k,s=OB2+k:=⟨s-OB2,by omega⟩;exact zJs u (by rw[U];exact hh.1) k));(have e1:OB+j<OB2:=by unfold OB OB2 at*;omega);(have e2:OB+j≠HK:=by unfold HK;unfold OB at*;omega);refine⟨hN,?_,m,zMS o j,?_⟩;(rw[zQ];exact u.upd e1);(rw[zQ,zAc e1 e2];exact I2.forget (by omega) c3 J)
end
end Go.Proofs.YtocolhfjpadaoaaGreatDoor
