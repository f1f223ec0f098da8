/-
  Lemmas of this claim, joined.
-/
import Derived.Test.YtocolhfjpadaoaaGreatDoorU07
set_option linter.unusedVariables false
set_option linter.unusedSimpArgs false
set_option linter.constructorNameAsVariable false
namespace Go.Proofs.YtocolhfjpadaoaaGreatDoor
open Go
abbrev tF:=@World.size_alloc
end Go.Proofs.YtocolhfjpadaoaaGreatDoor
namespace Go.Proofs.YtocolhfjpadaoaaGreatDoor
open Go Go.RowKit
variable {P:Program}{w0:World}{w:World}{m0:Mem}{m:Mem}{o0:OwnM}{o:OwnM}{G:GD}{pins:List Nat}{N:Nat}{a:Act}{op:Oper}{S:Nat->A}{M:Nat->A}{L:SL}{v:Value}{W:World}{Q:Mem}{X:OwnM}
section
variable {w0:World}{m0:Mem}{o0:OwnM}{G:GD}{pins:List Nat}{S:Nat->A}{a:Act}{w:World}{m:Mem}{o:OwnM}
theorem Inv.grow(I:Inv w0 m0 o0 G pins S a w m o)(x:Obj):Inv w0 m0 o0 G pins S a (w.alloc x) m o:=by have hh:∀g,g<w.heap.size->(w.alloc x).heap[g]? =w.heap[g]? :=λg U=>(Same.alloc (λ_=>False) w x).block g U id;have K:Keep (λ_=>False) m w o m (w.alloc x) o:=⟨.refl _,λ_ _ _ _=>rfl,λg k h _=>hh g (I.lt g k h),λ_ _ h _=>h,λ_ _ h=>h,λg _ k _ h=>⟨g,k,h⟩,λg j h=> .of_eq (hh g (I.lt g _ h))⟩;refine⟨I.same.trans ((Same.alloc (λ_=>False) w x).weaken λ_ h=>h.elim),λb p v h=> ?_,I.mono,I.old,I.own,λg k h=> ?_,I.inj,I.pinned,λs=>RepA.keep K (λ_=>id) (λ_ _ _ _=>⟨id,id⟩) (I.slots s),I.defers,I.tbl,I.wide,I.shps.keep I.pinned K.sh⟩;(have J:=I.sat b p v h;(have u:b<w.heap.size:=by have:=wY w _ J;simpa using this);rw[vP (w:=w) (hh b u)];exact J);(have:=I.lt g k h;grind)
theorem Inv.mem_lt(I:Inv w0 m0 o0 G pins S a w m o){b p:Nat}(h:m b p=some v):b<w.heap.size:=by have:=wY w _ (I.sat b p v h);grind
end
def zV4:A->Bool
 | .any| .imm _| .t (.d _)| .t (.agg _)=>true
 | .t (.hpt c _)=> !(c %64==63)
 | .t (.opt t _)=> !(t %64==63)
 |_=>false
theorem stat_of{U:OwnM}{s:Nat}{x:A}(hx:zV4 x=true)(Z:∀g c,c %64≠63->o g=some (OB+(OB+c),0)->U g=some (OB+(OB+c),0))(h:RepA m w o S s x v):Stat m U x v:=by(cases x with|any=>trivial|imm l=>exact h|t x=>(cases x with|d x=>exact h|agg l=>exact h|hpt c off=>(have u:c %64≠63:=by simpa[zV4]using hx);obtain⟨g,J,I⟩:=h;exact⟨u,g,Z g c u J,I⟩|opt t p=>(have u:t %64≠63:=by simpa[zV4]using hx);exact⟨u,h.imp id λ⟨i,e,g,J,I⟩=>⟨i,e,g,Z g _ (by unfold cd;omega) J,I⟩⟩|_=>cases hx)|_=>cases hx)
def LA(f:Nat->A)(bs:List Nat)(cs:List (List T))(L:SL):SL:=(HK,.hp f)::(bs.zip (cs.map A.box)++L)
def afO(bs:List Nat)(o o':OwnM):OwnM:=λg=>match ofY bs o' g with
 |some q=>some q
 |none=>match o g with|some q=>if OB2<=q.1\/q.1∈bs then none else some q|none=>none
theorem zLJ{bs:List Nat}{o o':OwnM}{g:Nat}{q:Nat×Nat}:afO bs o o' g=some q->ofY bs o' g=some q\/(ofY bs o' g=none/\¬(OB2<=q.1\/q.1∈bs)/\o g=some q):=by intro h;unfold afO at h;grind
theorem afO_1{bs:List Nat}{o o':OwnM}{g:Nat}{q:Nat×Nat}(h:ofY bs o' g=some q):afO bs o o' g=some q:=by unfold afO;rw[h]
theorem afO_2{bs:List Nat}{o o':OwnM}{g:Nat}{q:Nat×Nat}(u:ofY bs o' g=none)(I:¬(OB2<=q.1\/q.1∈bs))(h:o g=some q):afO bs o o' g=some q:=by unfold afO;rw[u,h];simp only;rw[if_neg I]
def capB:T->Bool
 | .d _=>true
 | .hpt c _=> !(c %64==63)
 | .opt t _=> !(t %64==63)
 |_=>false
def capC(l:List T):Prop:=∀x∈l,capB x=true
def Ranges(P:Program)(bs W:List Nat)(N fn:Nat)(J:List (List T))(u I:Code)(L0:SL)(f f':Nat->A)(cs cs':List (List T))(b:Bool):Prop:=
 ∀(l:Nat) (r:Loop) (Z:Mem) (U:OwnM),Head bs N r Z U L0->r.state= .ready->r.pending=none->r.params=W.toArray->r.assign=u->r.body=I->
  ∃y,FCH P fn (.t (.d (.lit (yv l)))::J.map A.imt) [] [] (hz f (zA l (.loop r) Z U cs)) (hz f' (zA l (.loop (if b then r else{r with state:= .done,pending:=some .ret})) Z U cs')) y
theorem zXZ{bs ps:List Nat}{fn g fnn:Nat}{J:List (List T)}{assign body:Code}{L0:SL}{f f':Nat->A}{cs cs':List (List T)}{b:Bool}
  (κ:a.tmps.size=N)(ν:Low (gt L))(I:Inv w0 m0 o0 G pins (hx (gt L)) a w m o)(hk:gt L HK= .hp f)(hf:NC f)(ψ:cs.length=bs.length)(τ:∀c∈cs,nzC c)(ξ:bs.Nodup)(σ:∀b∈bs,b<N)
  (ι:∀(i s:Nat),bs[i]? =some s->∃c,cs[i]? =some c/\gt L s= .box c)(hg:gt L g= .cl fn J)(η:∀l∈J,capC l)
  (π:∀s,gt L0 s= .any\/(s<OB/\s∉bs/\zV4 (gt L s)=true/\gt L0 s=gt L s)\/(OB<=s/\s<HK/\gt L s= .free/\gt L0 s= .free))(φ:Ranges P bs ps N fn J assign body L0 f f' cs cs' b):
  ∃Z:Array Value,a.tmps.getD g undef= .func (.func fn) #[] Z/\
   ∀r:Loop,r={state:= .ready,pending:=none,fn:=fnn,tmps:=a.tmps,params:=ps.toArray,assign:=assign,body:=body,defers:=w.heap.size}->
   Head bs N r m (toY bs (w.heap.size+1) o) L0/\Calls P fn (#[yv (w.heap.size+1)]++Z) ((w.alloc (.deferred (some []))).alloc (.loop r)) λe w'=>∃(u:Value) (m':Mem) (o':OwnM) (S':Nat->A) (a':Act),e= .returned u/\
    Inv ((w.alloc (.deferred (some []))).alloc (.loop r)) m (toY bs (w.heap.size+1) o) ⟨λg=>toY bs (w.heap.size+1) o g≠none,[]⟩ [] S' a' w' m' o'/\
    (∀c,S' (OB+(OB+c))=san (hz f' (zA (w.heap.size+1) (.loop (if b then r else{r with state:= .done,pending:=some .ret})) m (toY bs (w.heap.size+1) o) cs') c)):=by
 have hN:N<=OB:=by rw[<-κ];exact I.wide
 have β:∀b∈bs,b<OB:=λb h=>wN (σ b h) hN
 have δ:=I.slots g
 rw[yM hg (by simp)]at δ
 obtain⟨Z,hv,μ,hpt⟩:=δ
 refine⟨Z,hv,λr hr=> ?_⟩
 have I1:=(I.grow (.deferred (some []))).grow (.loop r)
 have ζ:o (w.heap.size+1)=none:=by
  cases hq:o (w.heap.size+1)with
  |none=>rfl
  |some q=>have:=I.lt _ _ hq;omega
 have χ:∀p,m (w.heap.size+1) p=none:=λp=>by
  cases hq:m (w.heap.size+1) p with
  |none=>rfl
  |some v=>have:=I.mem_lt hq;omega
 have α:∀g c k,c %64=63->o g≠some (OB+(OB+c),k):=λg c k hc=>by
  have:=I.slots (OB+(OB+c))
  rw[zDO ν hk,hf.z c hc]at this
  exact this g k
 have V:=VW.toY ξ β ζ α
 have hu:((w.alloc (.deferred (some []))).alloc (.loop r)).heap[w.heap.size+1]? =some (.loop r):=by
  have:=World.alloc_heap_new (w.alloc (.deferred (some []))) (.loop r)
  rw[tF]at this
  exact this
 have γ:=λg q=>zLC (bs:=bs) (l:=w.heap.size+1) (o:=o) β ζ (g:=g) (q:=q)
 have hH:Head bs N r m (toY bs (w.heap.size+1) o) L0:=by
  refine⟨by rw[hr];exact κ,λs hs ω=> ?_,λi s hi=> ?_,λs hs=> ?_⟩
  ·
   rcases π s with e|⟨_,_,h1,h2⟩|⟨h,_⟩
   · rw[e];trivial
   rotate_left
   · omega
   ·
    rw[h2,hr]
    have h:=I.slots s
    rw[zBx (by unfold OB OB2 at*;omega)]at h
    exact stat_of h1 (λg c hc=>(V.hh g c 0 hc).1) h
  ·
   obtain⟨c,h1,h2⟩:=ι i s hi
   have h:=I.slots s
   rw[yM h2 (by simp)]at h
   obtain⟨g,h3,h4⟩:=h
   refine⟨g,by rw[hr];exact h3 (β s (wD hi)),(V.hb i s g 0 hi).1 h4.1⟩
  ·
   rcases π s with e|⟨h,_⟩|⟨_,h1,_,h2⟩
   · exact .inl e
   · omega
   · exact .inr ⟨h2,h1⟩
 obtain⟨y,hc⟩:=φ (w.heap.size+1) r m (toY bs (w.heap.size+1) o) hH (by rw[hr]) (by rw[hr]) (by rw[hr]) (by rw[hr]) (by rw[hr])
 refine⟨hH,(hc _ m (toY bs (w.heap.size+1) o) (#[yv (w.heap.size+1)]++Z) I1.sat (I.tbl.trans I.mono) (λg q h=> ?_) (λg g' q h h'=> ?_) (by rw[tV,μ,tO,wM,Nat.add_comm];rfl) λs=> ?_).mono ?_⟩
 ·
  rcases(γ g q).1 h with⟨rfl,_⟩|⟨_,h⟩|⟨_,_,_,_,h⟩
  · rw[tF,tF];omega
  · exact I1.lt g _ h
  · exact I1.lt g _ h
 ·
  rcases(γ g q).1 h with⟨e1,W⟩|⟨W,h⟩|⟨i,b1,e1,W,h⟩<;>rcases(γ g' q).1 h' with⟨θ,U⟩|⟨U,h'⟩|⟨i',b1',θ,U,h'⟩
  · rw[e1,θ]
  · rw[W]at h';exact absurd h' (α g' _ 0 (zCt 0))
  ·
   rw[W]at U
   have U:OB+(OB+cd 63 0)=OB+(OB+cd 63 (i'+1)):=U
   unfold cd at U
   omega
  · rw[U]at h;exact absurd h (α g _ 0 (zCt 0))
  · exact I.inj g g' q h h'
  ·
   obtain⟨q1,q2⟩:=q
   have U:q1=_:=U
   subst U
   exact absurd h (α g _ q2 (zCt _))
  ·
   rw[U]at W
   have W:OB+(OB+cd 63 0)=OB+(OB+cd 63 (i+1)):=W
   unfold cd at W
   omega
  ·
   obtain⟨q1,q2⟩:=q
   have W:q1=_:=W
   subst W
   exact absurd h' (α g' _ q2 (zCt _))
  ·
   rw[W]at U
   have:i=i':=by unfold cd at U;omega
   subst this
   have a1:=zBG e1
   rw[zBG θ]at a1
   cases a1
   exact I.inj g g' _ h h'
 ·
  rcases wR s OB with h1|h1
  ·
   have e:∀F,argH (.t (.d (.lit (yv (w.heap.size+1))))::J.map A.imt) [] F s=(A.t (.d (.lit (yv (w.heap.size+1))))::J.map A.imt).getD s .any:=λF=>by unfold argH;rw[if_pos h1]
   rw[e]
   cases s with
   |zero=>
    have:(#[yv (w.heap.size+1)]++Z).getD 0 undef=yv (w.heap.size+1):=by
     rw[wJ,Array.getElem?_append_left (by simp)]
     rfl
    rw[this]
    exact .lit _ rfl
   |succ i=>
    have W:(A.t (.d (.lit (yv (w.heap.size+1))))::J.map A.imt).getD (i+1) .any=(J.map A.imt).getD i .any:=rfl
    rw[W,wK,wG]
    cases hi:J[i]? with
    |none=>trivial
    |some l=>
     obtain⟨g1,q1,q2⟩:=hpt i l hi
     have:(#[yv (w.heap.size+1)]++Z).getD (i+1) undef= .pointer (some ⟨g1,0,none⟩):=by
      rw[wJ,Array.getElem?_append_right (by simp)]
      simp[q1]
     rw[this]
     refine⟨g1,rfl,λj x hj=> ?_⟩
     obtain⟨u,q3,q4⟩:=q2 j x hj
     refine⟨u,q3,?_⟩
     have ε:=η l (wD hi) x (wD hj)
     cases x with
     |d x=>exact q4
     |hpt c off=>
      have hc:c %64≠63:=by simpa[capB]using ε
      obtain⟨g2,q5,q6⟩:=q4
      exact⟨g2,(V.hh g2 c 0 hc).1 q5,q6⟩
     |opt t p=>
      have hc:t %64≠63:=by simpa[capB]using ε
      exact q4.imp id λ⟨i,e,g2,q5,q6⟩=>⟨i,e,g2,(V.hh g2 _ 0 (by unfold cd;omega)).1 q5,q6⟩
     |_=>cases ε
  ·
   rcases wR s OB2 with h2|h2
   ·
    have e:∀F,argH (.t (.d (.lit (yv (w.heap.size+1))))::J.map A.imt) [] F s= .free:=λF=>by
     unfold argH
     rw[if_neg (by omega),if_neg (by omega)]
     rfl
    rw[e]
    intro g k h
    rcases(γ g _).1 h with⟨_,h⟩|⟨h,_⟩|⟨i,_,_,h,_⟩
    ·
     injection h with h _
     rw[h,<-qX]at h2
     omega
    ·
     have h:OB2<=s:=h
     omega
    ·
     have h:s=_:=h
     rw[h,<-qX]at h2
     omega
   ·
    obtain⟨c,rfl⟩:∃c,s=OB+(OB+c):=⟨s-OB2,by rw[<-qX];omega⟩
    rw[zWY]
    refine zXF ξ β (S:=hx (gt L)) (vs:=λ_=>undef) hf ψ τ ζ χ hu (.refl _) (λg c h=>h) (λc=> ?_) (λi s hi=> ?_) c _
    ·
     have h:=I1.slots (OB+(OB+c))
     rw[zDO ν hk]at h
     exact⟨_,h⟩
    ·
     obtain⟨c',q3,q4⟩:=ι i s hi
     have h7:=I1.slots s
     rw[yM q4 (by simp)]at h7
     exact⟨c',_,q3,h7⟩
 ·
  rintro e w' ⟨u,m',o',S',a',ρ,h1,h2,_,_,h5,_⟩
  exact⟨u,m',o',S',a',h1,h2,h5⟩
theorem zV9{bs:List Nat}{L0:SL}{f':Nat->A}{cs':List (List T)}{r:Loop}{u x:Obj}
  (hNa:a.tmps.size=N)(I:Inv w0 m0 o0 G pins S a w m o)(τ:∀g c k,c %64=63->o g≠some (OB+(OB+c),k))(μ:NC f')(hcl':cs'.length=bs.length)(hcc':∀c∈cs',nzC c)(ε:bs.Nodup)(Z:∀b∈bs,b<OB)
  (hH:Head bs N r m (toY bs (w.heap.size+1) o) L0)(hfr:∀s,OB<=s->gt L0 s= .free->∀g k,o g≠some (s,k))(hr:r.tmps=a.tmps){S':Nat->A}{a':Act}{w3:World}{m':Mem}{o':OwnM}
  (J:Inv ((w.alloc (.deferred (some []))).alloc (.loop r)) m (toY bs (w.heap.size+1) o) ⟨λg=>toY bs (w.heap.size+1) o g≠none,[]⟩ [] S' a' w3 m' o')(hu:∀cs E q,u≠ .cells cs E q)
  (χ:∀c,S' (OB+(OB+c))=san (hz f' (zA (w.heap.size+1) u m (toY bs (w.heap.size+1) o) cs') c))(mk:Deferred):
  Inv w0 m0 o0 ⟨G.p,mk::G.ds⟩ pins (hx (gt (LA f' bs cs' L0))) {a with defers:=mk::a.defers} (w3.putObj (w.heap.size+1) x) m' (afO bs o o')/\Low (gt (LA f' bs cs' L0))/\w3.heap[w.heap.size+1]? =some u/\afO bs o o' w.heap.size=none/\w3.heap[w.heap.size]? =some (.deferred (some [])):=by
 have ξ:o (w.heap.size+1)=none:=by
  cases U:o (w.heap.size+1)with
  |none=>rfl
  |some q=>have:=I.lt _ _ U;omega
 have V:=VW.toY ε Z ξ τ
 have hty:=λg q=>zLC (bs:=bs) (l:=w.heap.size+1) (o:=o) Z ξ (g:=g) (q:=q)
 obtain⟨k1,k2,k3,_,_⟩:RepA m' w3 o' S' (OB+(OB+cd 63 0)) (.rcd (w.heap.size+1) u m (toY bs (w.heap.size+1) o)) (a'.tmps.getD (OB+(OB+cd 63 0)) undef):=by
  have h:=J.slots (OB+(OB+cd 63 0))
  rw[χ,hz_z,zA_0]at h
  exact h
 have ν:∀g,g<w.heap.size->((w.alloc (.deferred (some []))).alloc (.loop r)).heap[g]? =w.heap[g]? :=λg hg=>by
  have h1:=(Same.alloc (λ_=>False) w (.deferred (some []))).block g hg id
  have h2:=(Same.alloc (λ_=>False) (w.alloc (.deferred (some []))) (.loop r)).block g (by rw[tF];omega) id
  exact h2.trans h1
 have β:((w.alloc (.deferred (some []))).alloc (.loop r)).heap.size=w.heap.size+2:=by rw[tF,tF]
 have hs3:w.heap.size+2<=w3.heap.size:=by rw[<-β];exact J.same.size
 have γ:∀g,g≠w.heap.size+1->o g=none->toY bs (w.heap.size+1) o g=none:=λg hg h=>by
  cases U:toY bs (w.heap.size+1) o g with
  |none=>rfl
  |some q=>
   rcases(hty g q).1 U with⟨e,_⟩|⟨_,e⟩|⟨_,_,_,_,e⟩
   · exact absurd e hg
   · rw[h]at e;cases e
   · rw[h]at e;cases e
 have ho':∀g,g<w.heap.size+2->toY bs (w.heap.size+1) o g=none->o' g=none:=λg hg h=>by
  cases U:o' g with
  |none=>rfl
  |some q=>
   rcases J.own g q U with e|e
   · exact absurd h e
   · rw[β]at e;omega
 have hof:∀g,o' g=none->ofY bs o' g=none:=λg h=>by
  cases U:ofY bs o' g with
  |none=>rfl
  |some q=>rcases zCC.1 U with⟨_,_,_,e⟩|⟨_,_,e⟩<;>(rw[h]at e;cases e)
 have V2:=VW.ofY (o:=o') ε Z
 have hpt:∀g c,c %64≠63->o g=some (OB+(OB+c),0)->afO bs o o' g=some (OB+(OB+c),0):=λg c W h=>afO_1 ((V2.hh g c 0 W).2 (J.pinned _ (.inr (wV _ _)) g ((V.hh g c 0 W).1 h)))
 have hpb:∀i b g,bs[i]? =some b->o g=some (b,0)->o' g=some (OB+(OB+cd 63 (i+1)),0):=λi b g hi h=>J.pinned _ (.inr (wV _ _)) g ((V.hb i b g 0 hi).1 h)
 have ι:∀g q,o g=some q->¬(OB2<=q.1\/q.1∈bs)->toY bs (w.heap.size+1) o g=none:=λg q h U=>by
  cases hy:toY bs (w.heap.size+1) o g with
  |none=>rfl
  |some q'=>
   rcases(hty g q').1 hy with⟨e,_⟩|⟨h1,e⟩|⟨i,b,h1,_,e⟩
   · rw[e,ξ]at h;cases h
   · rw[h]at e;injection e with e;rw[e]at U;exact absurd (.inl h1) U
   · rw[h]at e;injection e with e;rw[e]at U;exact absurd (.inr (wD (zBG h1))) U
 have ρ:∀g q,o g=some q->¬(OB2<=q.1\/q.1∈bs)->afO bs o o' g=some q:=λg q h U=>
  afO_2 (hof g (ho' g (by have:=I.lt g q h;omega) (ι g q h U))) U h
 have κ:∀g,g<w.heap.size->(w3.putObj (w.heap.size+1) x).heap[g]? =w3.heap[g]? :=λg hg=>wZ (by omega)
 have θ:∀g,g<w.heap.size->toY bs (w.heap.size+1) o g=none->(w3.putObj (w.heap.size+1) x).heap[g]? =w.heap[g]? :=λg hg h=>by
  rw[κ g hg,J.same.block g (by rw[β];omega) λe=>e h,ν g hg]
 have hS:Same (λg=>o g≠none) w (w3.putObj (w.heap.size+1) x):=by
  refine⟨J.same.os,J.same.tape,J.same.output,by rw[uT];omega,λk hk hn=>θ k hk (γ k (by omega) (Classical.byContradiction hn)),λk=> ?_⟩
  rcases wR k w.heap.size with h1|h1
  · exact((zAX.of_eq (ν k h1)).w.trans (J.same.shape k)).trans (zAX.of_eq (κ k h1)).w
  ·
   intro cs E q h
   rw[vU h1]at h
   cases h
 have key:∀g,o g≠none->G.p g\/w0.heap.size<=g:=λg h=>by
  cases U:o g with
  |none=>exact absurd U h
  |some l=>exact I.own g l U
 have hw0:=I.same.size
 have hsh:∀g j,o g=some (OB+j,0)->zAX w (w3.putObj (w.heap.size+1) x) g:=by
  intro g j h
  have hg:=I.lt g _ h
  by_cases h2:OB2<=OB+j
  ·
   obtain⟨c,rfl⟩:∃c,j=OB+c:=⟨j-OB,by unfold OB OB2 at*;omega⟩
   have W:c %64≠63:=λe=>τ g c 0 e h
   exact((zAX.of_eq (ν g hg)).trans (J.shps g _ ((V.hh g c 0 W).1 h)).2).trans (.of_eq (κ g hg))
  · exact .of_eq (θ g hg (ι g _ h (λe=>e.elim h2 λe=>by have:=Z _ e;have this:OB+j<OB:=this;omega)))
 have K1:Keep (λl=>l.1=OB+(OB+cd 63 0)) m' w3 o' m' (w3.putObj (w.heap.size+1) x) o':=by
  have hgl:∀g q,o' g=some q->¬q.1=OB+(OB+cd 63 0)->g≠w.heap.size+1:=λg q h U e=>by
   subst e
   rw[k1]at h
   injection h with h
   exact U (by rw[<-h])
  refine⟨.refl _,λ_ _ _ _=>rfl,λg q h U=>wZ (hgl g q h U),λ_ _ h _=>h,λ_ _ h=>h,λg _ k _ h=>⟨g,k,h⟩,λg j h=> ?_⟩
  by_cases e:g=w.heap.size+1
  ·
   subst e
   intro cs E q h
   rw[k3]at h
   injection h with h
   exact absurd h (hu _ _ _)
  · exact .of_eq (wZ e)
 have ψ:∀s,gt (LA f' bs cs' L0) s=if s=HK then .hp f' else match posN bs s with|some i=>(cs'.map A.box).getD i .any|none=>gt L0 s:=by
  intro s
  show gt ((HK,.hp f')::(bs.zip (cs'.map A.box)++L0)) s=_
  rw[zQ,upd,zRw _ _ _ _ (by rw[wM,hcl'])]
  rfl
 have η:Low (gt (LA f' bs cs' L0)):=by
  intro t ht
  rw[ψ,if_neg (by unfold HK OB2 at*;omega)]
  cases U:posN bs t with
  |none=>exact(hH.lo t (by unfold OB OB2 at*;omega)).resolve_right λh=>by have:=h.2;unfold HK OB2 at*;omega
  |some i=>have:=Z _ (wD (zBG U));unfold OB OB2 at*;omega
 have φ:o w.heap.size=none:=by
  cases U:o w.heap.size with
  |none=>rfl
  |some q=>have:=I.lt _ _ U;omega
 have hoD':o' w.heap.size=none:=ho' _ (by omega) (γ _ (by omega) φ)
 have ω:afO bs o o' w.heap.size=none:=by
  cases U:afO bs o o' w.heap.size with
  |none=>rfl
  |some q=>
   rcases zLJ U with h|⟨_,_,h⟩
   · rw[hof _ hoD']at h;cases h
   · rw[φ]at h;cases h
 have hD:w3.heap[w.heap.size]? =some (.deferred (some [])):=by
  rw[J.same.block _ (by rw[β];omega) λe=>e (γ _ (by omega) φ)]
  have h2:=(Same.alloc (λ_=>False) (w.alloc (.deferred (some []))) (.loop r)).block w.heap.size (by rw[tF];omega) id
  rw[h2]
  exact World.alloc_heap_new w _
 refine⟨⟨I.same.trans (hS.weaken key),λb p v h=> ?_,I.mono.trans J.mono,λb hb hn=> ?_,λg q h=> ?_,λg q h=> ?_,λg g' q h h'=> ?_,λs hs g h=> ?_,λs=> ?_,by show mk::a.defers=_;rw[I.defers],I.tbl,I.wide,I.shps.keep I.pinned hsh⟩,η,k3,ω,hD⟩
 ·
  have hb:b≠w.heap.size+1:=λe=>by subst e;rw[k2]at h;cases h
  have:=J.sat b p v h
  unfold World.cell? at this⊢
  rw[wZ hb]
  exact this
 ·
  have hob:o b=none:=by
   cases U:o b with
   |none=>rfl
   |some q=>exact((I.own b q U).elim (λe=>absurd e hn) λe=>by omega)
  rw[J.old b (by rw[β];omega) λe=>e (γ b (by omega) hob)]
  exact I.old b hb hn
 ·
  have k:∀q',o' g=some q'->G.p g\/w0.heap.size<=g:=λq' h=>by
   rcases J.own g q' h with e|e
   ·
    cases U:o g with
    |none=>
     by_cases e2:g=w.heap.size+1
     · exact .inr (by omega)
     · exact absurd (γ g e2 U) e
    |some q=>exact I.own g q U
   · rw[β]at e;exact .inr (by omega)
  rcases zLJ h with h|⟨_,_,h⟩
  · rcases zCC.1 h with⟨_,_,_,h⟩|⟨_,_,h⟩<;>exact k _ h
  · exact I.own g q h
 ·
  rw[uT]
  rcases zLJ h with h|⟨_,_,h⟩
  · rcases zCC.1 h with⟨_,_,_,h⟩|⟨_,_,h⟩<;>exact J.lt g _ h
  · have:=I.lt g q h;omega
 ·
  have W:∀g,ofY bs o' g=some q->OB2<=q.1\/q.1∈bs:=λg h=>by
   rcases zCC.1 h with⟨c,_,e,_⟩|⟨i,e,_⟩
   · exact .inl (by rw[e,<-qX];exact wV _ _)
   · exact .inr (wD e)
  rcases zLJ h with h|⟨_,h1,h⟩<;>rcases zLJ h' with h'|⟨_,h1',h'⟩
  ·
   rcases zCC.1 h with⟨c,c1,c2,h⟩|⟨i,c2,h⟩<;>rcases zCC.1 h' with⟨c',c1',π,h'⟩|⟨i',π,h'⟩
   · exact J.inj g g' q h h'
   · have:=Z _ (wD π);omega
   · have:=Z _ (wD c2);omega
   ·
    have e1:=zCZ ε c2
    rw[zCZ ε π]at e1
    cases e1
    exact J.inj g g' _ h h'
  · exact absurd (W g h) h1'
  · exact absurd (W g' h') h1
  · exact I.inj g g' q h h'
 ·
  have h1:=I.pinned s hs g h
  by_cases h2:OB2<=s
  ·
   obtain⟨c,rfl⟩:∃c,s=OB+(OB+c):=⟨s-OB2,by rw[<-qX];omega⟩
   exact hpt g c (λe=>τ g c 0 e h1) h1
  ·
   by_cases h3:s∈bs
   ·
    obtain⟨i,hi⟩:=vZ h3
    exact afO_1 ((V2.hb i s g 0 hi).2 (hpb i s g hi h1))
   · exact ρ g _ h1 (λe=>e.elim h2 h3)
 ·
  show RepA m' _ _ _ s _ (a.tmps.getD s undef)
  have ζ:∀g c,c %64≠63->o' g=some (OB+(OB+c),0)->afO bs o o' g=some (OB+(OB+c),0):=λg c W h=>afO_1 ((V2.hh g c 0 W).2 h)
  rcases wR s OB2 with h2|h2
  ·
   rw[zBx h2,ψ]
   by_cases e:s=HK
   · rw[if_pos e];trivial
   ·
    rw[if_neg e]
    cases hb:posN bs s with
    |none=>
     simp only
     by_cases hs:s<OB
     ·
      have hsb:s∉bs:=λhm=>by
       obtain⟨i,hi⟩:=vZ hm
       rw[zCZ ε hi]at hb
       cases hb
      have h:=hH.st s hs hsb
      rw[hr]at h
      refine h.rep J.mono λg c W h=>ζ g c W (J.pinned _ (.inr (wV _ _)) g h)
     ·
      rcases hH.lo s (by omega)with e0|⟨e0,e1⟩
      · rw[e0];trivial
      ·
       rw[e0]
       intro g k h
       rcases zLJ h with h|⟨_,_,h⟩
       ·
        rcases zCC.1 h with⟨c,_,q1,_⟩|⟨i,q1,_⟩
        ·
         have q1:s=OB+(OB+c):=q1
         unfold HK at e1;unfold OB at q1;omega
        · exact hs (Z s (wD q1))
       · exact hfr s (by omega) e0 g k h
    |some i=>
     simp only
     have σ:=zBG hb
     have hi:i<bs.length:=(wF.1 σ).1
     have hic:i<cs'.length:=by omega
     obtain⟨g0,q1,q2⟩:=hH.bx i s σ
     have α:=J.slots (OB+(OB+cd 63 (i+1)))
     rw[χ,hz_z,zA_s,wB hic]at α
     have α:RepA m' w3 o' S' (OB+(OB+cd 63 (i+1))) (.box cs'[i]) (a'.tmps.getD (OB+(OB+cd 63 (i+1))) undef):=α
     have α:=RepA.keep (S':=S') K1 (λj=>by show¬(OB+(OB+cd 63 (i+1))=OB+(OB+cd 63 0));unfold cd;omega) (λb off e _=>by cases e) α
     obtain⟨g,_,q3⟩:=α
     have:g=g0:=J.inj g g0 _ q3.1 (J.pinned _ (.inr (wV _ _)) g0 q2)
     subst this
     have e2:(cs'.map A.box).getD i .any= .box cs'[i]:=by
      rw[wK,wG,wB hic]
      rfl
     rw[e2,<-hr,q1]
     exact⟨g,λ_=>rfl,zRv ζ (λg k h=>afO_1 ((V2.hb i s g k σ).2 h)) (hcc' _ (vX _)) q3⟩
  ·
   obtain⟨c,rfl⟩:∃c,s=OB+(OB+c):=⟨s-OB2,by rw[<-qX];omega⟩
   have hk:gt (LA f' bs cs' L0) HK= .hp f':=by rw[ψ,if_pos rfl]
   rw[zDO η hk]
   have δ:∀g k,afO bs o o' g=some (OB+(OB+c),k)->c %64≠63/\o' g=some (OB+(OB+c),k):=λg k h=>by
    rcases zLJ h with h|⟨_,h1,h⟩
    ·
     rcases zCC.1 h with⟨c',h1,h3,h4⟩|⟨i,h1,_⟩
     ·
      have h3:OB+(OB+c)=OB+(OB+c'):=h3
      have:c=c':=by omega
      subst this
      exact⟨h1,h4⟩
     ·
      have:=Z _ (wD h1)
      have this:OB+(OB+c)<OB:=this
      omega
    · exact absurd (.inl h2) h1
   by_cases W:c %64=63
   ·
    rw[μ.z c W]
    exactλg k h=>(δ g k h).1 W
   ·
    have h:=J.slots (OB+(OB+c))
    rw[χ,hz_n W]at h
    have hnr:∀b off,san (f' c)≠ .ref b off:=λb off e=>by cases U:f' c<;>rw[U]at e<;>cases e
    have hnc:¬(OB+(OB+c)=OB+(OB+cd 63 0)):=λe=>by
     have e1:c=cd 63 0:=by omega
     exact W (by rw[e1];exact zCt 0)
    have h:=RepA.keep (S':=S') K1 (λj=>hnc) (λb off e _=>absurd e (hnr b off)) h
    rcases zDR (f' c)with⟨l1,hl1⟩|hl1|hl1|⟨l1,hl1⟩|⟨b,u,mE,oE,hl1⟩
    ·
     have hn:=μ.c c l1 hl1
     rw[hl1]at h⊢
     obtain⟨g,_,h3⟩:=h
     exact⟨g,λh=>absurd h (by omega),zRv ζ (λg k h=>afO_1 ((V2.hh g c k W).2 h)) hn h3⟩
    ·
     rw[hl1]at h⊢
     exactλg k e=>h g k (δ g k e).2
    · rw[hl1];trivial
    ·
     rw[hl1]at h⊢
     obtain⟨g,q1,q2⟩:=h
     exact⟨g,ζ g c W q1,q2⟩
    · exact absurd hl1 (μ.r c _ _ _ _)
section
variable {w0:World}{m0:Mem}{o0:OwnM}{G:GD}{pins:List Nat}{S:Nat->A}{a:Act}{w:World}{m:Mem}{o:OwnM}
theorem Inv.nodk(I:Inv w0 m0 o0 G (DK::pins) S a w m o):Inv w0 m0 o0 G pins S a w m o:=
 ⟨I.same,I.sat,I.mono,I.old,I.own,I.lt,I.inj,λs u g h=>I.pinned s (u.imp (vM _) id) g h,I.slots,I.defers,I.tbl,I.wide,λg j h=>⟨by rcases(I.shps g j h).1 with h1|h1;(rcases vD.1 h1 with h1|h1;exact .inr (by rw[h1];decide);exact .inl h1);exact .inr h1,(I.shps g j h).2⟩⟩
theorem Inv.dk(I:Inv w0 m0 o0 G pins S a w m o):Inv w0 m0 o0 G (DK::pins) S a w m o:=
 ⟨I.same,I.sat,I.mono,I.old,I.own,I.lt,I.inj,λs hs g h=>I.pinned s (by rcases hs with hs|hs;(rcases vD.1 hs with hs|hs;exact .inr (by rw[hs];decide);exact .inl hs);exact .inr hs) g h,I.slots,I.defers,I.tbl,I.wide,λg j h=>⟨(I.shps g j h).1.imp (vM _) id,(I.shps g j h).2⟩⟩
end
def zM3(P:Program)(pins:List Nat)(N:Nat)(x y:Code)(Q:Exit->SL->Prop)(L:SL):Prop:=
 ∀(u:Fence) (J:Nat),WideP pins u->∀(w0:World) (m0:Mem) (o0:OwnM) (G:GD) (a:Act) (w:World),St w0 m0 o0 G pins N L a w->x.wpIn u J P (Exit.then (y.wpIn u J P (λe I w'=>∃L',Q e L'/\StX e w0 m0 o0 G pins N L' I w')) (λe I w'=>∃L',Q e L'/\StX e w0 m0 o0 G pins N L' I w')) a w
theorem zM3.ok{x y:Code}{Q:Exit->SL->Prop}(h:zM3 P pins N x y Q L):qG P pins N (.seq x y) Q L:=
 λI U u w0 m0 o0 G a w J=>wpIn_seq (h I U u w0 m0 o0 G a w J)
theorem c_seqR{x y z:Code}{Q:Exit->SL->Prop}(h:qG P pins N x (zIi (zM3 P pins N y z Q) Q) L):qG P pins N (.seq (.seq x y) z) Q L:=by intro U J Z w0 m0 o0 G a w W;refine wpIn_seq (wpIn_seq (wpIn_mono (h U J Z w0 m0 o0 G a w W) ?_));rintro e a' w' ⟨L',I,u⟩;cases e<;>first|exact I U J Z w0 m0 o0 G a' w' u|exact⟨L',I,u⟩
theorem c_range(hp:DK∉pins){i g fn:Nat}{bs ps:List Nat}{caps:List (List T)}{assign body rest:Code}{Q:Exit->SL->Prop}{L0:SL}{f f':Nat->A}{cs cs':List (List T)}{b:Bool}
(hN:N<=OB)(hk:gt L HK= .hp f)(hf:NC f)(hf':NC f')(hcl:cs.length=bs.length)(hcl':cs'.length=bs.length)(hcc:∀c∈cs,nzC c)(hcc':∀c∈cs',nzC c)(hbn:bs.Nodup)(hbN:∀b∈bs,b<N)
(hbx:∀(i s:Nat),bs[i]? =some s->∃c,cs[i]? =some c/\gt L s= .box c)(hg:gt L g= .cl fn caps)(hcaps:∀l∈caps,capC l)
(hL0:∀s,gt L0 s= .any\/(s<OB/\s∉bs/\zV4 (gt L s)=true/\gt L0 s=gt L s)\/(OB<=s/\s<HK/\gt L s= .free/\gt L0 s= .free)){F:Func}(hfn:P.funcs[fn]? =some F)(hbody:F.body.isNone=false)(hname:(F.name== "runtime.NumGoroutine")=false)
(hit:Ranges P bs ps N fn caps assign body L0 f f' cs cs' b)
(hret:b=false->Q .ret (LA f' bs cs' L0))(hrest:b=true->qG P pins N rest (λe L2=>e= .ret/\Q .ret L2) (LA f' bs cs' L0)):
 zM3 P (DK::pins) N (.block i (.rangeFunc (.tmp g) ps.toArray assign body)) rest Q L:=by
 intro Fe ne hw w0 m0 o0 G a w hS
 have hFe:=hw.out (by simp)
 subst hFe
 obtain⟨hNa,hlo,m,o,I⟩:=hS
 have hbO:∀b∈bs,b<OB:=λb h=>wN (hbN b h) hN
 have hz2:∀g c k,c %64=63->o g≠some (OB+(OB+c),k):=λg c k hc=>by have:=I.slots (OB+(OB+c));rw[zDO hlo hk,hf.z c hc]at this;exact this g k
 have hol:o (w.heap.size+1)=none:=by(cases hq:o (w.heap.size+1)with|none=>rfl|some q=>have:=I.lt _ _ hq;omega)
 have V:=VW.toY hbn hbO hol hz2
 refine wpIn_block (wpIn_rangeFunc λfnn _=> ?_)
 obtain⟨ptrs,hv,hcall⟩:=zXZ (fnn:=fnn) hNa hlo I hk hf hcl hcc hbn hbN hbx hg hcaps hL0 hit
 obtain⟨hH,hc⟩:=hcall _ rfl
 have hfr0:∀s,OB<=s->gt L0 s= .free->∀g k,o g≠some (s,k):=λs h1 h2=>by rcases hL0 s with e|⟨h,_⟩|⟨_,h3,h4,_⟩;rw[e]at h2;cases h2;omega;(have:=I.slots s;rw[zBx (by unfold HK OB2 at*;omega),h4]at this;exact this)
 generalize hrr:({state:= .ready,pending:=none,fn:=fnn,tmps:=a.tmps,params:=ps.toArray,assign:=assign,body:=body,defers:=w.heap.size}:Loop)=r at hc hH
 have hev:a.eval (.tmp g)= .func (.func fn) #[] ptrs:=hv
 refine⟨w.heap.size+1,[{target:= .collected w.heap.size,args:= #[]}],(w.alloc (.deferred (some []))).alloc (.loop r),{target:= .fn (.func fn) ptrs,args:= #[yv (w.heap.size+1)]},(w.alloc (.deferred (some []))).alloc (.loop r),fn,#[yv (w.heap.size+1)]++ptrs,(w.alloc (.deferred (some []))).alloc (.loop r),?_,?_,λ_ _=>trivial,?_,λh=>by simp[Fence.wide]at h,callsIn_wide.2 (hc.mono ?_)⟩
 · rw[<-hrr];exact run_enterLoop_outer fnn a.tmps ps.toArray assign body
 · simp only[resolve,hev,Deferred.ofValue];simp[Act.eval,yv]
 · (have hb:F.body≠none:=λe=>by rw[e]at hbody;cases hbody);(have hn:F.name≠ "runtime.NumGoroutine" :=λe=>by rw[e]at hname;simp at hname);simp[invoke,callFunc,hfn,hn,hb]
 · rintro e w3 ⟨u,m',o',S',a',rfl,J,hS'⟩;obtain⟨I4,hlow,k3,hoD,hD⟩:=zV9 (x:= .loop {(if b then r else{r with state:= .done,pending:=some .ret})with state:= .exhausted}) hNa I hz2 hf' hcl' hcc' hbn hbO hH hfr0 (by rw[<-hrr]) J (λcs E q=>by simp) hS' {target:= .collected w.heap.size,args:= #[]};(have hrs:(if b then r else{r with state:= .done,pending:=some .ret}:Loop).state≠ .busy:=by cases b<;>simp[<-hrr]);have hel:=run_endLoop (P:=P) k3 hrs;have hD4:(w3.putObj (w.heap.size+1) (.loop {(if b then r else{r with state:= .done,pending:=some .ret})with state:= .exhausted})).heap[w.heap.size]? =some (.deferred (some [])):=(wZ (by omega)).trans hD;have hNa4:({a with defers:={target:= .collected w.heap.size,args:= #[]}::a.defers}:Act).tmps.size=N:=hNa;(have hds:({target:= .collected w.heap.size,args:= #[]}::a.defers:List Deferred)={target:= .collected w.heap.size,args:= #[]}::G.ds:=by rw[I.defers]);(cases b with|false=>refine⟨_,_,hel,?_⟩;refine wpIn_ret ?_;refine⟨LA f' bs cs' L0,hret rfl,.inr ⟨by simp,w.heap.size,hds,hD4,I.same.size,hNa,hlow,m',afO bs o o',hoD,?_⟩⟩;show Inv w0 m0 o0 ⟨G.p,{target:= .collected w.heap.size,args:= #[]}::a.defers⟩ (DK::pins) _ _ _ m' (afO bs o o');rw[I.defers];rw[I.defers]at I4;exact I4|true=>rw[if_pos rfl]at hD4 I4 hel;(have hp0:r.pending=none:=by rw[<-hrr]);refine⟨none,_,hel.trans (congrArg (λx=>Result.ok x _) hp0),?_⟩;have I6:=I4.nodk;have hDlt:w.heap.size<(w3.putObj (w.heap.size+1) (.loop {r with state:= .exhausted})).heap.size:=(vV.1 hD4).1;refine wpIn_mono (hrest rfl Fence.wide ne ⟨.wide,λ_=>rfl⟩ _ _ _ _ _ _ ⟨hNa4,hlow,m',afO bs o o',I6.base⟩) ?_;rintro e a5 w5 ⟨L2,⟨rfl,hq⟩,hS5⟩;obtain⟨hN5,hlo5,m5,o5,I5⟩:=hS5.st hp;have I7:=(I6.comp (λg h=>h) I5).dk;(have hoD5:o5 w.heap.size=none:=by(cases hq:o5 w.heap.size with|none=>rfl|some q=>rcases I5.own _ q hq with h|h;exact absurd hoD h;exact absurd hDlt (Nat.not_lt.2 h)));refine⟨L2,hq,.inr ⟨by simp,w.heap.size,I5.defers,(I5.same.block _ hDlt λh=>h hoD).trans hD4,I.same.size,hN5,hlo5,m5,o5,hoD5,?_⟩⟩;rw[I5.defers];exact I7)
section
variable {P:Program}{w0:World}{m0:Mem}{o0:OwnM}{G:GD}{pins:List Nat}{S:Nat->A}{a:Act}{w:World}{m:Mem}{o:OwnM}
theorem Inv.turn_new(I:Inv w0 m0 o0 G pins S a w m o){l:Nat}(hl:o l=none)(Z:∀p,m l p=none)(h0:w0.heap.size<=l)(W:∀U E q,w.heap[l]? ≠some (.cells U E q))(u:Obj):Inv w0 m0 o0 G pins S a (w.putObj l u) m o:=by(have J:∀g k,o g=some k->g≠l:=λg k h e=>by subst e;rw[hl]at h;cases h);have hh:∀g k,o g=some k->(w.putObj l u).heap[g]? =w.heap[g]? :=λg k h=>wZ (J g k h);have K:Keep (λ_=>False) m w o m (w.putObj l u) o:=⟨.refl _,λ_ _ _ _=>rfl,λg k h _=>hh g k h,λ_ _ h _=>h,λ_ _ h=>h,λg _ k _ h=>⟨g,k,h⟩,λg j h=> .of_eq (hh g _ h)⟩;refine⟨⟨I.same.os,I.same.tape,I.same.output,by rw[uT];exact I.same.size,λk hk hn=> ?_,λk=> ?_⟩,λb p v h=> ?_,I.mono,I.old,I.own,λg k h=>by rw[uT];exact I.lt g k h,I.inj,I.pinned,λs=>RepA.keep K (λ_=>id) (λ_ _ _ _=>⟨id,id⟩) (I.slots s),I.defers,I.tbl,I.wide,I.shps.keep I.pinned K.sh⟩;(rw[wZ (by omega)];exact I.same.block k hk hn);(refine(I.same.shape k).trans ?_;by_cases e:k=l;(subst e;intro U E q h;grind);exact(zAX.of_eq (wZ e)).w);((have hb:b≠l:=λe=>by subst e;rw[Z]at h;cases h);have:=I.sat b p v h;unfold World.cell? at this⊢;rw[wZ hb];grind)
theorem fch_mkR(fr:List Nat){fn:FuncId}{F:Func}{c:Code}{args:List A}{rs:List ResultVar}{ins outs:List A}{f f':Nat->A}{r:A}{n:Nat}(hf:P.funcs[fn]? =some F)(hb:F.body=some c)(hn:F.ntmps=n)(χ:args.length<=n)(ζ:F.results=rs.toArray)
(U:(DK::zGe ins.length,Nat.ble n OB,fr.all (λj=>Nat.ble ins.length j&&Nat.blt j OB),Nat.blt ins.length OB&&Nat.blt outs.length OB,(match rs with|[.tmp t]=>Nat.blt t OB|_=>true))=(pins,true,true,true,true))(hL:zFw fr args ins f=L)(hc:qG P pins n c (endH P rs outs f' r) L):FCH P fn args ins outs f f' r:=by
 injection U with U hw
 injection hw with hw α
 injection α with α W
 injection W with W φ
 have hw:=wS hw
 simp only[wH]at W
 have ψ:ins.length<OB:=by simpa using W.1
 have hoo:outs.length<OB:=by simpa using W.2
 have δ:fr.all (λj=>Nat.ble ins.length j)=true:=wI.2 λj hj=>by have:=wI.1 α j hj;simp only[wH]at this;exact this.1
 have ε:fr.all (λj=>Nat.blt j OB)=true:=wI.2 λj hj=>by have:=wI.1 α j hj;simp only[wH]at this;exact this.2
 subst hn U hL
 intro w m o ω η θ κ γ π ι
 obtain⟨β,μ,I0⟩:=fch_inv fr χ hw ψ δ ε η θ κ γ π ι
 refine callsIn_wide.1 (callsIn_of_wp_marks (n:=0) hf hb trivial (wpIn_mono (hc Fence.wide 0 ⟨.wide,λ_=>rfl⟩ w m o ⟨λg=>o g≠none,[]⟩ _ w ⟨μ,β,m,o,I0.dk⟩) ?_))
 rintro e Z w' ⟨L',hq,hS⟩
 have fin:∀(w2:World) (m':Mem) (o':OwnM) (ds:List Deferred),Low (gt L')->Inv w m o ⟨λg=>o g≠none,ds⟩ (zGe ins.length) (hx (gt L')) Z w2 m' o'->((∃y,resA P (gt L') rs=some y/\WkA y r)/\outH L' 0 outs/\gt L' HK= .hp f')->∃v,(results F Z.tmps).run P w2= .ok v w2/\∃(u:Value) (m':Mem) (o':OwnM) (S':Nat->A) (Z:Act) (ρ:Nat),Ending.returned v= .returned u/\Inv w m o ⟨λg=>o g≠none,[]⟩ (zGe ins.length) S' Z w2 m' o'/\RepA m' w2 o' S' ρ r u/\(∀(i:Nat) (x:A),outs[i]? =some x->S' (OB+i)=x)/\(∀c,S' (OB+(OB+c))=san (f' c))/\ρ<OB:=by rintro w2 m' o' ds J I ⟨⟨y,hy,hw⟩,ho,hk⟩;obtain⟨y',σ,ξ⟩:=zVl hy;obtain⟨v,ρ,h1,h2,h3⟩:=zWd (P:=P) I ζ φ σ;refine⟨v,h1,v,m',o',hx (gt L'),{Z with defers:=[]},ρ,rfl,I.defs [],hw.rep I.sat (by rcases ξ with rfl|rfl;exact h2;exact trivial),λi l h=> ?_,λc=>zDO J hk c,h3⟩;have hi:=(wF.1 h).1;have:=zTB ho i l h;rw[vF]at this;rw[zBx (by unfold OB OB2 at*;omega),this]
 have plain:St w m o ⟨λg=>o g≠none,[]⟩ (DK::zGe ins.length) F.ntmps L' Z w'->((∃y,resA P (gt L') rs=some y/\WkA y r)/\outH L' 0 outs/\gt L' HK= .hp f')->LeavesInM Fence.wide 0 P F Z.tmps (λe w'=>∃(u:Value) (m':Mem) (o':OwnM) (S':Nat->A) (Z:Act) (ρ:Nat),e= .returned u/\Inv w m o ⟨λg=>o g≠none,[]⟩ (zGe ins.length) S' Z w' m' o'/\RepA m' w' o' S' ρ r u/\(∀(i:Nat) (x:A),outs[i]? =some x->S' (OB+i)=x)/\(∀c,S' (OB+(OB+c))=san (f' c))/\ρ<OB) Z.defers .returning w':=by rintro⟨hN,J,m',o',I⟩ hq;rw[I.defers];exact fin w' m' o' [] J I.nodk hq
 cases e with
  |normal=>exact plain hS hq
  |ret=>
   rcases hS with hS|⟨_,D,hd,hD,h0,hN,J,m',o',τ,I⟩
   · exact plain hS hq
   · show LeavesInM Fence.wide 0 P F Z.tmps _ Z.defers .returning w';rw[hd];refine⟨by simp,.inl ⟨D,_,rfl,run_takeDeferred hD,?_⟩⟩;(have ν:∀p,m' D p=none:=λp=>by(cases hq:m' D p with|none=>rfl|some v=>have:=I.sat _ _ _ hq;unfold World.cell? at this;rw[hD]at this;simp at this));exact fin _ m' o' _ J (I.nodk.turn_new τ ν h0 (λcs E q=>by rw[hD];simp) (.deferred none)) hq
  |_=>exact hq.elim
end
section
variable {w0:World}{m0:Mem}{o0:OwnM}{G:GD}{pins:List Nat}{S M:Nat->A}{a:Act}{w:World}{m:Mem}{o:OwnM}{P:Program}{N:Nat}
theorem Inv.freezeT(I:Inv w0 m0 o0 G pins S a w m o)(s:Nat)(α:s<OB)(hs:s∉pins){l:List T}(hpt:l.all dhT=true)(W:S s= .box l)(β:∀t off,S t≠ .ref s off):∃m' o',Inv w0 m0 o0 G pins (upd S s (.imt l)) a w m' o':=by have hb:=I.slots s;rw[W]at hb;obtain⟨g,e,h1,h2,cs,E,h3,h4,h5⟩:=hb;(have hk:∀b l,(λb=>if(o b).map (·.1)=some s then none else o b) b=some l->l.1≠s/\o b=some l:=by grind);(have J:∀b l,o b=some l->l.1≠s->(if(o b).map (·.1)=some s then none else o b)=some l:=λb l h hn=>by rw[h,if_neg (by simpa using hn)]);(have K:Keep (λl=>l.1=s) m w o (newM m g λp=>cs[p]?) w (λb=>if(o b).map (·.1)=some s then none else o b):=by refine⟨λb p u h=> ?_,λb l h hn=> ?_,λ_ _ _ _=>rfl,λb l h hn=>J b l h hn,λb j h=>J b _ h (zLu α),λb t k _ h=>⟨b,k,(hk b _ h).2⟩,λb j _=> .of_eq rfl⟩;(unfold newM;grind);((have:b≠g:=λe=>by grind);funext p;unfold newM;grind));refine⟨_,_,⟨I.same,λb p u h=> ?_,I.mono.trans K.mle,λb hb hg=> ?_,λb l h=>I.own b l (hk b l h).2,λb l h=>I.lt b l (hk b l h).2,λb b' l h h'=>I.inj b b' l (hk b l h).2 (hk b' l h').2,λp hp b hb=> ?_,λt=> ?_,I.defers,I.tbl,I.wide,I.shps⟩⟩;(unfold newM at h;split at h;(rename_i hb;subst hb;unfold World.cell?;grind);exact I.sat b p u h);((have:b≠g:=λe=>by subst e;rcases I.own b _ h1 with h|h;(all_goals grind));rw[<-I.old b hb hg];funext p;unfold newM;grind);(exact J b _ (I.pinned p hp b hb) λe=>hp.elim (λhp=>hs (by rw[<-e];exact hp)) λhp=>by have e:p=s:=e;omega);(by_cases ht:t=s;(subst ht;rw[zK];refine⟨g,e α,λj x hj=> ?_⟩;obtain⟨ha,u,hu,hr⟩:=h5 j x hj;refine⟨u,by rw[zAY];exact hu,?_⟩;have hd:=wI.1 hpt x (wD hj);(cases x with|d y=>exact RepD.mono K.mle hr|hpt c off=>obtain⟨Z,q1,q2⟩:=hr;exact⟨Z,K.pt Z _ q1,q2⟩|opt t p=>exact hr.imp id λ⟨i,e,Z,q1,q2⟩=>⟨i,e,Z,K.pt Z _ q1,q2⟩|_=>cases hd));(rw[zE ht];refine RepA.keep K (λj e=>ht e) (λb off e _=> ?_) (I.slots t);have U:b≠s:=λe'=>β t off (by rw[e,e']);exact⟨U,λ⟨l,hl⟩=>⟨l,by rw[zE U,hl]⟩⟩))
theorem st_fzT{L L':SL}(s:Nat){l:List T}(hb:gt L s= .box l)(hp:(pins.contains s|| !Nat.blt s OB)=false)(U:(zLP s L&&l.all dhT)=true)(hL:(s,.imt l)::L=L')(Z:St w0 m0 o0 G pins N L a w):St w0 m0 o0 G pins N L' a w:=by subst hL;obtain⟨W,u,m,o,I⟩:=Z;rw[sC]at hp;rw[wH]at U;obtain⟨m',o',J⟩:=I.freezeT s (by simpa using hp.2) (by simpa using hp.1) U.2 (yM hb (by simp)) (λt off e=>zRj U.1 t off (hx_ref e));exact⟨W,by rw[zQ];exact u.upd (lt2 (by simpa using hp.2)),m',o',by rw[zQ,zQC (.inl (by simpa using hp.2))];exact J⟩
def zYJ(M:Nat->A):List Operand->Option (List (List T))
 |[]=>some []
 |x::r=>match cpO M x,zYJ M r with| .imt l,some k=>some (l::k)|_,_=>none
theorem zTe(J:Mk M S)(I:Inv w0 m0 o0 G pins S a w m o):∀{xs:List Operand} {u:List (List T)},zYJ M xs=some u->xs.length=u.length/\∀i l,u[i]? =some l->RepA m w o S 0 (.imt l) ((xs.map a.eval).getD i undef)
 |[],u,h=>by injection h with h;subst h;exact⟨rfl,λi l h=>by simp at h⟩
 |x::r,u,h=>by unfold zYJ at h;split at h;(case h_2=>cases h);rename_i l k h1 U;cases h;obtain⟨k1,k2⟩:=zTe J I U;refine⟨by simp[k1],λi W Z=> ?_⟩;(cases i with|zero=>cases Z;have:=zW J I x 0;grind|succ i=>grind)
theorem ok_mfT(hM:Mk M S){d f:Nat}{xs:List Operand}(α:op.op= .makeFunc (.func f) #[] xs.toArray)(hd:op.dst=some d)(Z:okD N pins S d=true){J:List (List T)}(hc:zYJ M xs=some J)(W:J.all (λl=>l.all dhT)=true):OpOK P pins N op S (upd S d (.cl f J)):=by refine zL λw0 m0 o0 G a w m o hN I=> ?_;obtain⟨k1,k2,k3⟩:=zP Z;obtain⟨c1,c2⟩:=zTe hM I hc;(have U:RepA m w o (upd S d (.cl f J)) d (.cl f J) (.func (.func f) #[] (xs.map a.eval).toArray):=by refine⟨_,rfl,by simpa using c1,λi l hi=> ?_⟩;(have β:i<xs.length:=by rw[c1];exact(wF.1 hi).1);obtain⟨g,e,h⟩:=c2 i l hi;refine⟨g,?_,λj x hj=> ?_⟩;grind;(obtain⟨u,q1,q2⟩:=h j x hj;refine⟨u,q1,?_⟩;have hd:=wI.1 (wI.1 W l (wD hi)) x (wD hj);(cases x with|d y=>exact q2|hpt c off=>exact q2|opt t p=>exact q2|_=>cases hd)));refine⟨.func (.func f) #[] (xs.map a.eval).toArray,w,m,o,?_,by rw[hd];exact I.set d _ _ (by omega) k2 U⟩;unfold execOp;rw[α];simp[Instr.makeFunc]
theorem ok_ldT(hM:Mk M S){d t n:Nat}{x:Operand}{l:List T}{z:T}{y:A}(Z:op.op= .load t x)(ht:tyA P t=some (false,n))(hx:cpO M x= .imt l)(hz:l[0]? =some z)(hy:norH z=some y)(hd:op.dst=some d)(U:okD N pins S d=true):OpOK P pins N op S (upd S d y):=by refine zL λw0 m0 o0 G a w m o hN I=> ?_;obtain⟨h1,W,h3⟩:=zP U;have J:=zW hM I x 0;rw[hx]at J;obtain⟨g,e,k1⟩:=J;obtain⟨u,hu,hr⟩:=k1 0 z hz;refine⟨u,w,m,o,?_,by rw[hd];exact I.set d _ _ (by omega) W (zXD I.sat hy hr)⟩;unfold execOp;rw[Z];simp only[wE];rw[e];simp only[Instr.loadAt,Instr.sureAddr,wE,wQ,wC];rw[zBb ht (I.sat _ _ _ hu)];rfl
theorem h_ldT{d:Nat}(U:Mk M S){t n:Nat}{x:Operand}{l:List T}{z:T}{y:A}(I:op.op= .load t x)(ht:tyA P t=some (false,n))(hx:cpO M x= .imt l)(hz:l[0]? =some z)(hy:norH z=some y)(hd:op.dst=some d)(u:okD N pins S d=true):OpH P pins N op S (app S [(d,y)]):=
 .of (e:=[(d,y)]) λJ=>⟨ok_ldT U.hx I ht hx hz hy hd (qA J u),zAr (zX J u)⟩
theorem h_mfT{d f:Nat}(W:Mk M S){xs:List Operand}(U:op.op= .makeFunc (.func f) #[] xs.toArray)(hd:op.dst=some d)(I:okD N pins S d=true){u:List (List T)}(hc:zYJ M xs=some u)(J:u.all (λl=>l.all dhT)=true):OpH P pins N op S (app S [(d,.cl f u)]):=
 .of (e:=[(d,.cl f u)]) λZ=>⟨ok_mfT W.hx U hd (qA Z I) hc J,zAr (zX Z I)⟩
theorem boxp_ok(I:Inv w0 m0 o0 G pins S a w m o){d c off:Nat}(E:TypeId)(hd:d<a.tmps.size)(J:(S d).isBox=false)(U:d∉pins){s:Nat}(hy:RepA m w o S s (.t (.hpt c off)) v):
 ∃m' o',Inv w0 m0 o0 G pins (upd S d (.box [.hpt c off])) (a.put (some d) (.pointer (some ⟨w.heap.size,0,none⟩))) (w.alloc (.cells v.cells E)) m' o':=by
 obtain⟨g,Z,h2⟩:=hy
 have α:d<OB:=wN hd I.wide
 refine⟨_,_,I.own_put d _ _ (λ_=>none) w.heap.size _ hd J U (I.free (wL _)) (I.newG (wL _)) ((Same.alloc (λ_=>False) w _).weaken (λ_ h=>h.elim)) (by simp) (λp u h=>by rw[I.mem_none (wL _)]at h;cases h) (λp u h=>by cases h) ?_⟩
 have hv:v.cells= #[v]:=by rw[h2];rfl
 refine⟨w.heap.size,λ_=>rfl,qT _ _ _,λp=>zAY _ _ _ _,v.cells,E,heap_alloc_new w _,?_,λj x W=> ?_⟩
 · rw[hv];simp
 · (cases j with|succ j=>simp at W|zero=>cases W;refine⟨rfl,v,by rw[hv];rfl,g,?_,h2⟩;have hg:=I.lt g _ Z;show newO o d w.heap.size g=_;unfold newO;rw[if_neg (by omega),if_neg (by rw[Z];simp;omega)];exact Z)
theorem h_boxp(hM:Mk M S){d E c off:Nat}{x:Operand}(Z:op.op= .box E x)(hx:cpO M x= .t (.hpt c off))(hd:op.dst=some d)(u:okD N pins S d=true):OpH P pins N op S (app S [(d,.box [.hpt c off])]):=
 .of (e:=[(d,.box [.hpt c off])]) λU=>⟨by refine zL λw0 m0 o0 G a w m o hN I=> ?_;obtain⟨h1,h2,h3⟩:=zP (qA U u);have W:=zW hM.hx I x 0;rw[hx]at W;obtain⟨m',o',J⟩:=boxp_ok I E (by omega) h2 h3 W;refine⟨_,_,m',o',?_,by rw[hd];exact J⟩;unfold execOp;rw[Z];simp only[wE,zTa,wC];rfl,zAr (zX U u)⟩
theorem boxo_ok(I:Inv w0 m0 o0 G pins S a w m o){d t:Nat}{p:Option Nat}(E:TypeId)(hd:d<a.tmps.size)(J:(S d).isBox=false)(U:d∉pins){s:Nat}(hy:RepA m w o S s (.t (.opt t p)) v):
 ∃m' o',Inv w0 m0 o0 G pins (upd S d (.box [.opt t p])) (a.put (some d) (.pointer (some ⟨w.heap.size,0,none⟩))) (w.alloc (.cells v.cells E)) m' o':=by
 have W:d<OB:=wN hd I.wide
 refine⟨_,_,I.own_put d _ _ (λ_=>none) w.heap.size _ hd J U (I.free (wL _)) (I.newG (wL _)) ((Same.alloc (λ_=>False) w _).weaken (λ_ h=>h.elim)) (by simp) (λp u h=>by rw[I.mem_none (wL _)]at h;cases h) (λp u h=>by cases h) ?_⟩
 have hv:v.cells= #[v]:=by rcases hy with⟨_,h⟩|⟨i,_,g,_,h⟩<;>rw[h]<;>rfl
 refine⟨w.heap.size,λ_=>rfl,qT _ _ _,λp=>zAY _ _ _ _,v.cells,E,heap_alloc_new w _,?_,λj x Z=> ?_⟩
 · grind
 · (cases j with|succ j=>grind|zero=>cases Z;refine⟨rfl,v,by rw[hv];rfl,hy.imp id λ⟨i,e,g,h1,h2⟩=>⟨i,e,g,?_,h2⟩⟩;have hg:=I.lt g _ h1;show newO o d w.heap.size g=_;unfold newO;grind)
theorem h_boxo(hM:Mk M S){d E t:Nat}{p:Option Nat}{x:Operand}(Z:op.op= .box E x)(hx:cpO M x= .t (.opt t p))(hd:op.dst=some d)(u:okD N pins S d=true):OpH P pins N op S (app S [(d,.box [.opt t p])]):=
 .of (e:=[(d,.box [.opt t p])]) λU=>⟨by refine zL λw0 m0 o0 G a w m o hN I=> ?_;obtain⟨h1,h2,h3⟩:=zP (qA U u);have W:=zW hM.hx I x 0;rw[hx]at W;obtain⟨m',o',J⟩:=boxo_ok I E (by omega) h2 h3 W;refine⟨_,_,m',o',?_,by rw[hd];exact J⟩;unfold execOp;rw[Z];simp only[wE,zTa,wC];rfl,zAr (zX U u)⟩
end
structure Pr where
 {τ : Type}
 x : τ
 y : τ
abbrev PL:=List Pr
def okL:PL->Prop
 |[]=>True
 |⟨x,y⟩::r=>x=y/\okL r
theorem zAz:∀{a b:PL},okL (a++b)->okL a/\okL b
 |[],_,h=>⟨trivial,h⟩
 |_::_,_,h=>⟨⟨h.1,(zAz h.2).1⟩,(zAz h.2).2⟩
abbrev bp(b:Bool):Pr:=⟨b,true⟩
def wkD(x y:D):PL:=match x,y with
 | .lit (.slice none 0 0),.seq k l=>[⟨l,[]⟩]
 | .lit (.func (.func f) ⟨[]⟩ ⟨[]⟩),.clo g l=>[⟨f,g⟩,⟨l,[]⟩]
 |x,y=>[⟨x,y⟩]
theorem wkD_ok{x y:D}(h:okL (wkD x y)):WkD x y:=by unfold wkD at h;split at h;(have h:_=[]:=h.1;subst h;exact .nil _);(obtain⟨u,I,_⟩:=h;subst u I;exact .fn _);(have h:=h.1;subst h;exact .refl _)
def wkL:List D->List D->PL
 |[],[]=>[]
 |x::r,y::s=>wkD x y++wkL r s
 |_,_=>[bp false]
theorem zRy:∀{l l':List D},okL (wkL l l')->WkL l l'
 |[],[],_=> .nil
 |x::r,y::s,h=> .cons (wkD_ok (zAz h).1) (zRy (zAz h).2)
 |[],y::s,h=>Bool.noConfusion h.1
 |x::r,[],h=>Bool.noConfusion h.1
def wkT(x y:T):PL:=match x,y with
 | .own E k l,.d (.seq U u)=>[⟨k,U⟩,⟨l,u⟩]
 | .d (.lit (.slice none 0 0)),.own E k l=>[⟨l,[]⟩]
 | .d (.lit (.slice none 0 0)),.view j off E k n=>[⟨n,0⟩]
 | .d (.lit (.pointer none)),.opt t none=>[]
 | .hpt c off,.opt t (some i)=>[⟨c,cd t i⟩,⟨off,0⟩]
 | .view j off E k n,.view W I 0 U n'=>[⟨j,W⟩,⟨off,I⟩,⟨k,U⟩,⟨n,n'⟩]
 | .d x,.d y=>wkD x y
 | .agg l,.agg u=>wkL l u
 | .ags l Z,.ags u J=>⟨Z,J⟩::wkL l u
 | .ags l Z,.agg u=>wkL l u
 | .agg l,.ags u [(i,E,k,r)]=>⟨r,[]⟩::⟨l[i]?,some (.lit (.slice none 0 0))⟩::wkL l u
 |x,.any=>[⟨x.isAgg,false⟩]
 |x,y=>[⟨x,y⟩]
theorem wkT_ok{x y:T}(h:okL (wkT x y)):WkT x y:=by unfold wkT at h;split at h;(obtain⟨u,I,_⟩:=h;subst u I;exact .own _ _ _);(have h:_=[]:=h.1;subst h;exact .nilOwn _ _);(have h:_=0:=h.1;subst h;exact .nilView _ _ _ _);exact .optN _;(obtain⟨u,I,_⟩:=h;subst u I;exact .optS _ _);(obtain⟨u,I,U,h4,_⟩:=h;subst u I U h4;exact .view0 _ _ _ _ _);exact .d (wkD_ok h);exact .agg (zRy h);(rename_i W Z l2 J;have e:Z=J:=h.1;subst e;exact .ags _ (zRy h.2));exact .agsA _ (zRy h);(rename_i W l2 i E k r;obtain⟨u,I,U⟩:=h;have u:r=[]:=u;subst u;exact .agsN _ _ (zRy U) I);exact .any h.1;(have h:=h.1;subst h;exact .refl _)
def wkTs:List T->List T->PL
 |[],[]=>[]
 |x::r,y::s=>wkT x y++wkTs r s
 |_,_=>[bp false]
theorem zM9:∀{l l':List T},okL (wkTs l l')->WkTs l l'
 |[],[],_=> .nil
 |x::r,y::s,h=> .cons (wkT_ok (zAz h).1) (zM9 (zAz h).2)
 |[],y::s,h=>Bool.noConfusion h.1
 |x::r,[],h=>Bool.noConfusion h.1
def wkA(x y:A):PL:=match x,y with
 | .t x,.t y=>wkT x y
 | .tup l,.tup u=>wkTs l u
 | .box l,.box u=>bp (u.all λx=> !x.isAgg)::wkTs l u
 |_,.any=>[]
 |x,y=>[⟨x,y⟩]
theorem zKq{x y:A}(h:okL (wkA x y)):WkA x y:=by unfold wkA at h;split at h;exact .t (wkT_ok h);exact .tup (zM9 h);exact .box (zM9 h.2) h.1;exact .any _;(have h:=h.1;subst h;exact .refl _)
def wkLs:List (List D)->List (List D)->PL
 |[],[]=>[]
 |x::r,y::s=>wkL x y++wkLs r s
 |_,_=>[bp false]
theorem wkLs_ok:∀{l l':List (List D)},okL (wkLs l l')->WkLs l l'
 |[],[],_=> .nil
 |x::r,y::s,h=> .cons (zRy (zAz h).1) (wkLs_ok (zAz h).2)
 |[],y::s,h=>Bool.noConfusion h.1
 |x::r,[],h=>Bool.noConfusion h.1
def wkK(x y:A):PL:=match x,y with
 | .t (.own E k l),.t (.own I u J)=>⟨E,I⟩::⟨k,u⟩::wkLs l J
 |x,y=>wkA x y
theorem wkK_ok{x y:A}(h:okL (wkK x y)):WkA x y:=by unfold wkK at h;split at h;(obtain⟨u,I,h⟩:=h;subst u I;exact .t (.rows _ _ (wkLs_ok h) rfl));exact zKq h
def wkF(b:Bool)(x y:A):PL:=bif b then wkA x y else[⟨x,y⟩]
theorem wkF_ok{b:Bool}{x y:A}(h:okL (wkF b x y)):WkA x y:=by(cases b with|true=>exact zKq h|false=>have h:x=y:=h.1;subst h;exact .refl _)
def fitL(u:List Nat)(L:SL):SL->PL
 |[]=>[]
 |(s,y)::r=>wkF (u.any (Nat.beq s)) (gt L s) y++fitL u L r
theorem zNE{u:List Nat}:∀{F:SL},okL (fitL u L F)->WkS L F
 |[],_=>trivial
 |(s,y)::r,h=>⟨wkF_ok (zAz h).1,zNE (zAz h).2⟩
def fits(u:List Nat)(L F:SL):PL:=bp (zG9 F)::fitL u L F
structure qP(P:Program)where
 hk:List Nat
 pr:List Nat->Nat->(Nat->A)->Oper->Option (PL×Eff)
 ok:∀pins N S M op c e,Mk M S->(∀d,op.dst=some d->M d=S d)->pr pins N M op=some (c,e)->okL c->OpH P pins N op S (app S e)
structure zK8(P:Program)where
 pr:List Nat->Nat->SL->Option (PL×SL)
 ok:∀pins N L c L',pr pins N L=some (c,L')->okL c->∀w0 m0 o0 G a w,St w0 m0 o0 G pins N L a w->St w0 m0 o0 G pins N L' a w
structure YRule(P:Program)where
 pr:List Nat->Nat->SL->Oper->Option (PL×Eff)
 ok:∀pins N L op c e,pr pins N L op=some (c,e)->okL c->OpY P pins N op (gt L) (app (gt L) e)
structure RgRule(P:Program)where
 pr:Nat->Code->SL->Option (PL×Bool×SL)
 ok:∀pins N y rest L c b LA Q,pr N y L=some (c,b,LA)->okL c->DK∉pins->(b=true->qG P pins N rest (λe L2=>e= .ret/\Q .ret L2) LA)->(b=false->Q .ret LA)->zM3 P (DK::pins) N y rest Q L
inductive Jx:Type->List Type->Type 1
 |z {X:Type} {Γ:List Type}:Jx X (X::Γ)
 |s {X Y:Type} {Γ:List Type} (m:Jx X Γ):Jx X (Y::Γ)
def lev:{X:Type}->{Γ:List Type}->Jx X Γ->Nat
 |_,_,@Jx.z _ Γ=>Γ.length
 |_,_,.s m=>lev m
theorem zW6:∀{X:Type} {Γ:List Type} (m:Jx X Γ),lev m<Γ.length
 |_,_,.z=>Nat.lt_succ_self _
 |_,_,.s m=>Nat.lt_succ_of_lt (zW6 m)
inductive Tr(P:Program)(R:Type):List Type->Type 1
 |r {Γ:List Type} (x:R):Tr P R Γ
 |no {Γ:List Type}:Tr P R Γ
 |b {Γ:List Type} {α:Type} (m:Option α) (k:(x:α)->m=some x->Tr P R Γ):Tr P R Γ
 |p {Γ:List Type} (p:Option Nat) (t:p=none->Tr P R Γ) (e:(i:Nat)->p=some i->Tr P R Γ):Tr P R Γ
 |i {Γ:List Type} (q:Nat) (c:Bool) (t:c=true->Tr P R Γ) (e:c=false->Tr P R Γ):Tr P R Γ
 |w {Γ:List Type} (q:Nat) {C:Prop} {x y:A} (hC:C) (hw:WkA x y) (t:Tr P R Γ):Tr P R Γ
 |g {Γ:List Type} (q:Nat) (y:A) (t:Tr P R Γ):Tr P R Γ
 |c {Γ:List Type} (q:Nat) {C:Prop} (hC:C) (t:Tr P R Γ):Tr P R Γ
 |o {Γ:List Type} (q:Nat) (s:qP P) (t:Tr P R Γ):Tr P R Γ
 |y {Γ:List Type} (q:Nat) (tk:Bool) (t:Tr P R Γ):Tr P R Γ
 |t {Γ:List Type} (q s:Nat) {x y:A} (h:x=y) (t:Tr P R Γ):Tr P R Γ
 |f {Γ:List Type} (q:Nat) (s:zK8 P) (t:Tr P R Γ):Tr P R Γ
 |l {Γ:List Type} {X:Type} (ws:List Nat) (F:X->SL) (n:Nat) (B:X->Tr P R (X::Γ)) (x:X):Tr P R Γ
 |j {Γ:List Type} {X:Type} (q:Nat) (F:X->SL) (J:X->Tr P R Γ) (t:Tr P R (X::Γ)):Tr P R Γ
 |n {Γ:List Type} {X:Type} (ws:List Nat) (m:Jx X Γ) (x:X):Tr P R Γ
 |vv {Γ:List Type} (q:Nat) (s:YRule P) (t:Tr P R Γ):Tr P R Γ
 |rr {Γ:List Type} (s:RgRule P) (c:Bool) (t:c=true->Tr P R Γ) (x0:R):Tr P R Γ
abbrev Env(R:Type)(Γ:List Type):=(X:Type)->Jx X Γ->X->Option R
def Env.nil{R:Type}:Env R []:=λ_ m=>nomatch m
def Env.cons{R X:Type}{Γ:List Type}(ρ:Env R Γ)(k:X->Option R):Env R (X::Γ)
 |_,.z=>k
 |_,.s m=>ρ _ m
def lpn{X R:Type}(f:(X->Option R)->X->Option R):Nat->X->Option R
 |0,_=>none
 |n+1,x=>f (lpn f n) x
def zVt{α:Sort _}(c:Bool)(t:c=true->α)(e:c=false->α):α:=match c with
 |true=>t rfl
 |false=>e rfl
theorem bdite_c{α:Type _}(c:Bool)(x y:α):zVt c (λ_=>x) (λ_=>y)=bif c then x else y:=by cases c<;>rfl
def odite{α:Sort _}(p:Option Nat)(t:p=none->α)(e:(i:Nat)->p=some i->α):α:=match p with
 |none=>t rfl
 |some i=>e i rfl
theorem odite_c{α:Type _}(p:Option Nat)(x:Option α)(y:Nat->Option α):odite p (λ_=>x) (λi _=>y i)=ptM p x y:=by cases p<;>rfl
def Tr.run{R:Type}:{Γ:List Type}->Tr P R Γ->Env R Γ->Option R
 |_,.r x,_=>some x
 |_,.no,_=>none
 |_,.b m k,ρ=>Option.pbind m λx h=>(k x h).run ρ
 |_,.i _ m u v,ρ=>zVt m (λh=>(u h).run ρ) (λh=>(v h).run ρ)
 |_,.p m u v,ρ=>odite m (λh=>(u h).run ρ) (λx h=>(v x h).run ρ)
 |_,.w _ _ _ u,ρ=>u.run ρ
 |_,.g _ _ u,ρ=>u.run ρ
 |_,.c _ _ u,ρ=>u.run ρ
 |_,.o _ _ u,ρ=>u.run ρ
 |_,.y _ _ u,ρ=>u.run ρ
 |_,.t _ _ _ u,ρ=>u.run ρ
 |_,.f _ _ u,ρ=>u.run ρ
 |_,.l _ _ q B x,ρ=>lpn (λk x=>(B x).run (ρ.cons k)) q x
 |_,.j _ _ J u,ρ=>u.run (ρ.cons λx=>(J x).run ρ)
 |_,.n _ m x,ρ=>ρ _ m x
 |_,.vv _ _ u,ρ=>u.run ρ
 |_,.rr _ U u I,ρ=>zVt U (λh=>(u h).run ρ) (λ_=>some I)
inductive Lg:Type 1
 |e
 |x
 |q {τ:Type} (a b:τ) (r:Lg)
 |a {α:Type} (k:α->Lg)
 |h {p:Prop} (k:p->Lg)
 |c (l r:Lg)
inductive Lo:Type 1
 |e
 |x (b:Bool)
 |q {τ:Type} (a:τ) (r:Lo)
 |a {α:Type} (k:α->Lo)
 |h {p:Prop} (k:p->Lo)
 |c (l r:Lo)
def Lg.l:Lg->Lo
 | .e=> .e
 | .x=> .x true
 | .q u _ w=> .q u w.l
 | .a k=> .a λx=>(k x).l
 | .h k=> .h λx=>(k x).l
 | .c u v=> .c u.l v.l
def Lg.r:Lg->Lo
 | .e=> .e
 | .x=> .x false
 | .q _ u w=> .q u w.r
 | .a k=> .a λx=>(k x).r
 | .h k=> .h λx=>(k x).r
 | .c u v=> .c u.r v.r
abbrev Lg.ok(g:Lg):Prop:=g.l=g.r
theorem lg_a{α:Type}{k:α->Lg}(h:(Lg.a k).ok)(x:α):(k x).ok:=by unfold Lg.ok at h;simp only[Lg.l,Lg.r]at h;injection h with _ h;exact congrFun h x
theorem lg_h{p:Prop}{k:p->Lg}(h:(Lg.h k).ok)(x:p):(k x).ok:=by unfold Lg.ok at h;simp only[Lg.l,Lg.r]at h;injection h with _ h;exact congrFun h x
theorem lg_c{l r:Lg}(h:(Lg.c l r).ok):l.ok/\r.ok:=by unfold Lg.ok at h;simp only[Lg.l,Lg.r]at h;grind
theorem lg_x{α:Prop}(h:Lg.x.ok):α:=by unfold Lg.ok at h;simp only[Lg.l,Lg.r]at h;grind
def lg2(c:Bool)(x y:Lg):Lg:=match c with
 |true=>x
 |false=>y
def qs:PL->Lg->Lg
 |[],r=>r
 |p::l,r=> .q p.x p.y (qs l r)
theorem zCj:∀{l:PL} {r:Lg},(qs l r).ok->okL l/\r.ok
 |[],_,h=>⟨trivial,h⟩
 |p::l,r,h=>by unfold qs Lg.ok at h;simp only[Lg.l,Lg.r]at h;injection h with _ u I;obtain⟨a,b⟩:=zCj I;exact⟨⟨u,a⟩,b⟩
inductive It
 |c(c:Code)
 |b(id:Nat)
 |l(n:Nat)
 |s(c:Code)
 |g(l n:Nat)
 |a(c:Code)
 |kk
 |r(y z:Code)
def It.isA:It->Bool
 | .a _=>true
 |_=>false
def rgs:Code->Option (Option Code×Code)
 | .block i (.rangeFunc f u a b)=>some (none,.block i (.rangeFunc f u a b))
 | .seq x (.block i (.rangeFunc f u a b))=>some (some x,.block i (.rangeFunc f u a b))
 |_=>none
theorem rgs_eq{a y:Code}{x:Option Code}(h:rgs a=some (x,y)):a=match x with|none=>y|some x=> .seq x y:=by unfold rgs at h;grind
def labOf:Code->Option Nat
 | .seq a b=>match labOf a with|some l=>some l|none=>labOf b
 | .label l=>some l
 |_=>none
def lab(c:Code):Nat:=(labOf c).getD 0
def labR(c:Code):Code:=(findLabel c (lab c)).getD .skip
inductive Cur
 |c(c:Code)
 |o(l0 r:List Oper)
 |d(l0 r:List Oper)(acc:List (List Nat×List Nat))
 |e(e:Exit)
 |r(y z:Code)
inductive Gd
 |go
 |skip
 |ask(t:Nat)(c:Bool)
 |bad
def pkX(L:SL)(op:Oper)(q:Bool):Gd:=match q,op.op with
 |true,.pick (.tmp t) _ _=>match gt L t with| .t (.d (.lit (.bool c)))=> .ask t c|_=> .bad
 |_,_=> .go
def gdX(ops:Array Oper)(L:SL)(op:Oper)(q k:Nat):Gd:=match op.guard with
 |none=>pkX L op (Nat.beq q (3*k+1))
 |some (j,w)=>match(ops[j]?).bind (·.dst)with|none=> .bad|some t=>match gt L t with| .tup []=> .skip| .t (.d (.lit (.bool c)))=>bif Nat.beq q (3*k)then .ask t c else bif c==w then pkX L op (Nat.beq q (3*k+1))else .skip|_=> .bad
theorem pkX_ask{q:Bool}{t:Nat}{c:Bool}(h:pkX L op q= .ask t c):gt L t= .t (.d (.lit (.bool c))):=by unfold pkX at h;grind
theorem zWV{q:Bool}:pkX L op q≠ .skip:=by unfold pkX;grind
theorem gdX_ask{ops:Array Oper}{q k t:Nat}{c:Bool}(h:gdX ops L op q k= .ask t c):gt L t= .t (.d (.lit (.bool c))):=by unfold gdX at h;split at h;exact pkX_ask h;(split at h;cases h;(split at h;cases h;(cases u:Nat.beq q (3*k)with|true=>grind|false=>rw[u]at h;rename_i j w _ _ U _ _ J _;(cases I:(J==w)with|true=>simp only[I,cond_true,cond_false]at h;exact pkX_ask h|false=>grind));cases h))
theorem gdX_go{ops:Array Oper}{q k:Nat}(h:gdX ops L op q k= .go):op.guard=none\/∃j w t,op.guard=some (j,w)/\(ops[j]?).bind (·.dst)=some t/\gt L t= .t (.d (.lit (.bool w))):=by unfold gdX at h;grind
theorem zXK{ops:Array Oper}{q k:Nat}(h:gdX ops L op q k= .skip):∃j w t,op.guard=some (j,w)/\(ops[j]?).bind (·.dst)=some t/\(gt L t= .t (.d (.lit (.bool !w)))\/gt L t= .tup []):=by unfold gdX at h;split at h;exact absurd h zWV;(split at h;cases h;(split at h;grind;(rename_i j w J _ t ht _ c U;(cases I:Nat.beq q (3*k)with|true=>grind|false=>rw[I]at h;(cases u:(c==w)with|true=>simp only[u,cond_true,cond_false]at h;exact absurd h zWV|false=>(have:c= !w:=by cases c<;>cases w<;>first|rfl|cases u);grind)));cases h))
section
variable {P:Program}{R:Type}
def hX(P:Program)(M:Nat->A):Op->Option (Prop×A)
 | .fieldAddr t x k=>match cpO M x,fdH P t k with
  | .t (.hpt c off),some q=>some (True,.t (.hpt c (off+q)))
  |_,_=>none
 | .binOp J t x (.const (.pointer none)) yt=>match J,P.underlying t,ptrN (cpO M x)with
  | .eql,some (.pointer _),some b=>some (True,.t (.d (.lit (.bool (b !=false)))))
  | .neq,some (.pointer _),some b=>some (True,.t (.d (.lit (.bool (b !=true)))))
  |_,_,_=>none
 | .call {callee:= .builtin .len,args:=⟨[x]⟩,argTypes:=⟨[t]⟩}=>match cpO M x,P.underlying t with
  | .t (.hvw _ _ _ _ n),some (.slice _)=>some (True,.t (.d (.lit (.int .i64 n))))
  | .t (.view _ _ _ _ n),some (.slice _)=>some (True,.t (.d (.lit (.int .i64 n))))
  |_,_=>none
 | .indexAddr t x i=>match cpO M x,vO M i with
  | .t (.hvw c off _ k n),some (.int _ z)=>match ixH P t with
   |some (none,Z)=>bif Nat.beq Z k then some (0<=z/\z<n,.t (.hpt c (off+z.toNat*k)))else none
   |_=>none
  | .t (.view j off _ _ n),some (.int _ z)=>match P.underlying t with
   |some (.slice e)=>match P.info? e with
    |some U=>some (0<=z/\z<n,.ref (OB+j) (off+z.toNat*U.size))
    |none=>none
   |_=>none
  | .t (.hpt c off),some (.int _ z)=>match ixH P t with
   |some (some len,k)=>some (0<=z/\z<len,.t (.hpt c (off+z.toNat*k)))
   |_=>none
  | .ref b off,some (.int _ z)=>match P.underlying t with
   |some (.array len e)=>match P.info? e with
    |some U=>some (0<=z/\z<len,.ref b (off+z.toNat*U.size))
    |none=>none
   |_=>none
  |_,_=>none
 | .build t ⟨I⟩=>match bdT P M t I with
  |some l=>some (True,.ag l)
  |none=>none
 | .makeFunc (.func f) ⟨[]⟩ ⟨[]⟩=>some (True,.t (.d (.lit (.func (.func f) #[] #[]))))
 | .makeFunc (.func f) ⟨[]⟩ ⟨xs⟩=>match capsF M xs with
  |some u=>some (True,.t (.d (.clo f u)))
  |none=>match zYJ M xs with
   |some u=>bif u.all (λl=>l.all dhT)then some (True,.cl f u)else none
   |none=>none
 | .load t x=>match cpO M x,tyA P t with
  | .imt (z::_),some (false,_)=>match norH z with
   |some y=>some (True,y)
   |none=>none
  |_,_=>none
 | .box _ x=>match cpO M x with
  | .t (.hpt c off)=>some (True,.box [.hpt c off])
  | .t (.opt t p)=>some (True,.box [.opt t p])
  |_=>none
 | .buildSlice t 0 ⟨[]⟩=>match elF P t with
  |some (e,sz,_)=>some (True,.t (.own e sz []))
  |none=>none
 | .call {callee:= .builtin .max,args:=⟨[x,y]⟩,argTypes:=_}=>match vO M x,vO M y with
  |some (.int k a),some (.int _ b)=>some (True,.t (.d (.lit (.int k (if b>a then b else a)))))
  |_,_=>none
 | .call {callee:= .builtin .min,args:=⟨[x,y]⟩,argTypes:=_}=>match vO M x,vO M y with
  |some (.int k a),some (.int _ b)=>some (True,.t (.d (.lit (.int k (if b<a then b else a)))))
  |_,_=>none
 | .call {callee:= .builtin .max,args:=⟨[x,y,z]⟩,argTypes:=_}=>match vO M x,vO M y,vO M z with
  |some (.int k a),some (.int _ b),some (.int _ c)=>some (True,.t (.d (.lit (.int k (ma3 a b c)))))
  |_,_,_=>none
 | .call {callee:= .builtin .min,args:=⟨[x,y,z]⟩,argTypes:=_}=>match vO M x,vO M y,vO M z with
  |some (.int k a),some (.int _ b),some (.int _ c)=>some (True,.t (.d (.lit (.int k (mi3 a b c)))))
  |_,_,_=>none
 | .call {callee:= .builtin .cap,args:=⟨[x]⟩,argTypes:=⟨[t]⟩}=>match vO M x,P.underlying t with
  |some (.slice none 0 0),some (.slice _)=>some (True,.t (.d (.lit (.int .i64 0))))
  |_,_=>none
 | .slice t x none W none=>match vO M x,bndO M W,P.underlying t with
  |some (.slice none 0 0),some (some 0),some (.slice e)=>match P.info? e with
   |some _=>some (True,.t (.d (.lit (.slice none 0 0))))
   |none=>none
  |_,_,_=>none
 | .binOp J t x (.const (.map none)) _=>match J,P.underlying t,cpO M x with
  | .eql,some (.map _ _),.t (.mpt _)=>some (True,.t (.d (.lit (.bool false))))
  | .neq,some (.map _ _),.t (.mpt _)=>some (True,.t (.d (.lit (.bool true))))
  |_,_,_=>none
 |_=>none
theorem hX_ok{d:Nat}{C:Prop}{y:A}(Z:Mk M S)(hd:op.dst=some d)(u:okD N pins S d=true)(h:hX P M op.op=some (C,y))(hC:C):OpH P pins N op S (app S [(d,y)]):=by generalize I:op.op=o at h;unfold hX at h;split at h;(split at h;(rename_i c off q J U;cases h;exact h_fd Z I J U rfl hd u);cases h);(split at h;(rename_i e b U W;cases h;exact h_pn (ng:=false) Z I rfl U W hd u);(rename_i e b U W;cases h;exact h_pn (ng:=true) Z I rfl U W hd u);cases h);(split at h;(rename_i J U;cases h;exact h_ln Z I J U rfl hd u);(rename_i J U;cases h;exact h_lln Z I J U rfl hd u);cases h);(split at h;(split at h;(rename_i c off E k n ki z J U _ k' W;(cases hk:Nat.beq k' k with|false=>grind|true=>rw[hk]at h;have hk:=wT hk;subst hk;cases h;exact h_ix Z I J U W hC rfl hd u));cases h);(split at h;(split at h;(rename_i j off E k n ki z J U _ e W _ ie h4;cases h;exact h_lix Z I J U W h4 hC rfl hd u);cases h);cases h);(split at h;(rename_i c off ki z J U _ len k W;cases h;exact h_ia Z I J U W hC rfl hd u);cases h);(split at h;(split at h;(rename_i b off ki z J U _ len e W _ ie h4;cases h;exact .of (e:=[(d,_)]) λhN=>⟨ok_ixa Z.hx I J U W h4 hC hd (qA hN u),zAr (zX hN u)⟩);cases h);cases h);cases h);(split at h;(rename_i l J;cases h;exact h_bd Z I hd u J);cases h);(cases h;exact .of (e:=[(d,_)]) λhN=>⟨ok_mf I hd (qA hN u),zAr (zX hN u)⟩);(split at h;(rename_i α J;cases h;exact .of (e:=[(d,_)]) λhN=>⟨ok_mfc Z.hx I hd (qA hN u) J,zAr (zX hN u)⟩);(split at h;(rename_i α U;(cases hc:α.all (λl=>l.all dhT)with|false=>grind|true=>rw[hc]at h;cases h;exact h_mfT Z I hd u U hc));cases h));(split at h;(rename_i z l n J U;split at h;(rename_i y W;cases h;exact h_ldT Z I U J rfl W hd u);cases h);cases h);(split at h;(rename_i c off J;cases h;exact h_boxp Z I J hd u);(rename_i t p J;cases h;exact h_boxo Z I J hd u);cases h);(split at h;(rename_i e sz nb J;cases h;exact .of (e:=[(d,_)]) λhN=>⟨ok_b0 I hd (qA hN u) J,zAr (zX hN u)⟩);cases h);(split at h;(rename_i J U;cases h;exact h_max Z I J U hd u);cases h);(split at h;(rename_i J U;cases h;exact h_min Z I J U hd u);cases h);(split at h;(rename_i J U W;cases h;exact h_max3 Z I J U W hd u);cases h);(split at h;(rename_i J U W;cases h;exact h_min3 Z I J U W hd u);cases h);(split at h;(rename_i J U;cases h;exact h_cap0 Z I J U hd u);cases h);(split at h;(rename_i J U W;split at h;(rename_i h4;cases h;exact h_slnil Z I J U W h4 hd u);cases h);cases h);(split at h;(rename_i J U;cases h;exact h_mn (ng:=false) Z I rfl J U hd u);(rename_i J U;cases h;exact h_mn (ng:=true) Z I rfl J U hd u);cases h);cases h
def orH(P:Program)(M:Nat->A)(d:Nat)(o:Op):Option (Prop×Eff)->Option (Prop×Eff)
 |some x=>some x
 |none=>match hX P M o with|some (C,y)=>some (C,[(d,y)])|none=>none
def stX(P:Program)(pins:List Nat)(N:Nat)(M:Nat->A)(tk:Bool)(op:Oper):Option (Prop×Eff):=match op.dst,op.op with
 |some d,o=>bif okD N pins M d then orH P M d o (opF P pins tk M d o)else none
 |none,.store t x y=>(stF P pins M t x y).map λe=>(True,e)
 |none,_=>none
theorem zWl{tk:Bool}{C:Prop}{e:Eff}(U:Mk M S)(hd:∀d,op.dst=some d->M d=S d)(h:stX P pins N M tk op=some (C,e))(Z:C):OpH P pins N op S (app S e):=by unfold stX at h;split at h;(rename_i d u;(cases hk:okD N pins M d with|false=>grind|true=>rw[hk]at h;(have J:okD N pins S d=true:=by unfold okD at hk⊢;rw[<-hd d u];exact hk);simp only[cond_true]at h;(cases I:opF P pins tk M d op.op with|some x=>rw[I]at h;have h:some x=some (C,e):=h;rw[h]at I;exact zPf U u J I Z|none=>rw[I]at h;unfold orH at h;simp only at h;split at h;(rename_i C' y hh;cases h;exact hX_ok U u J hh Z);cases h)));(rename_i t x y u I;(cases W:stF P pins M t x y with|none=>grind|some e'=>rw[W]at h;cases h;exact stF_okh U I u W));cases h
def zUA:Eff->Option (Eff×Nat×A)
 |[]=>none
 |[(s,x)]=>some ([],s,x)
 |z::r=>(zUA r).map λp=>(z::p.1,p.2)
theorem zTI:∀{e p:Eff} {s:Nat} {x:A},zUA e=some (p,s,x)->e=p++[(s,x)]
 |[],_,_,_,h=>by cases h
 |[(t,y)],p,s,x,h=>by cases h;rfl
 |z::y::r,p,s,x,h=>by unfold zUA at h;(cases I:zUA (y::r)with|none=>grind|some u=>obtain⟨q,t,v⟩:=u;rw[I]at h;cases h;rw[zTI I];rfl)
def zVx:A->Bool| .any=>true|_=>false
theorem zXJ{y:A}(h:(!zVx y)=true):y≠ .any:=λe=>by subst e;cases h
theorem WkE.refl':∀{p:Eff},(p.all λz=> !zVx z.2)=true->∀{e u:Eff},WkE e u->WkE (p++e) (p++u)
 |[],_,_,_,h=>h
 |(s,x)::p,h,_,_,k=>by simp only[uO,wH]at h;exact .cons (.refl _) (zXJ h.1) (WkE.refl' h.2 k)
def plX{Γ:List Type}(T:Tr P R Γ):Option (Prop×Eff)->Option (PL×Eff×Tr P R Γ)
 |some (C,e)=>some ([⟨C,True⟩],e,T)
 |none=>none
def wX{Γ:List Type}(C:Prop)(x y:A)(T:Tr P R Γ):Option (Prop×Eff)->Option (PL×Eff×Tr P R Γ)
 |some (u,e)=>match zUA e with|some (p,s,x')=>some ([⟨u,C⟩,⟨x',x⟩,bp (!zVx y),bp (p.all λz=> !zVx z.2)],p++[(s,y)],T)|none=>none
 |none=>none
def kX{Γ:List Type}(y:A)(T:Tr P R Γ):Option (Prop×Eff)->Option (PL×Eff×Tr P R Γ)
 |some (u,e)=>match zUA e with|some (p,s,x')=>some (⟨u,True⟩::bp (!zVx y)::bp (p.all λz=> !zVx z.2)::wkK x' y,p++[(s,y)],T)|none=>none
 |none=>none
def cX{Γ:List Type}(C:Prop)(T:Tr P R Γ):Option (Prop×Eff)->Option (PL×Eff×Tr P R Γ)
 |some (u,e)=>some ([⟨u,C⟩],e,T)
 |none=>none
def oX{Γ:List Type}(T:Tr P R Γ):Option (PL×Eff)->Option (PL×Eff×Tr P R Γ)
 |some (c,e)=>some (c,e,T)
 |none=>none
def actX(pins:List Nat)(N:Nat)(M:Nat->A)(op:Oper)(k:Nat)(u:Bool){Γ:List Type}(T:Tr P R Γ):Option (PL×Eff×Tr P R Γ):=match T with
 | @Tr.w _ _ _ q C x y J U t=>bif Nat.beq q k then wX C x y t (stX P pins N M u op)else plX T (stX P pins N M u op)
 | .g q y t=>bif Nat.beq q k then kX y t (stX P pins N M u op)else plX T (stX P pins N M u op)
 | @Tr.c _ _ _ q C J t=>bif Nat.beq q k then cX C t (stX P pins N M u op)else plX T (stX P pins N M u op)
 | .o q s t=>bif Nat.beq q k then oX t (s.pr pins N M op)else plX T (stX P pins N M u op)
 | .y q I t=>bif Nat.beq q k then plX t (stX P pins N M I op)else plX T (stX P pins N M u op)
 |T=>plX T (stX P pins N M u op)
def hkX(k:Nat){Γ:List Type}:Tr P R Γ->List Nat
 | .o q s t=>bif Nat.beq q k then s.hk else[]
 |_=>[]
def tq{Γ:List Type}:Tr P R Γ->Nat
 | .i q _ _ _=>q
 |_=>1000000007
section
variable {pins:List Nat}{N:Nat}{S M:Nat->A}{op:Oper}{Γ:List Type}
theorem plX_ok{T t:Tr P R Γ}{tk:Bool}{c:PL}{e:Eff}(U:Mk M S)(hd:∀d,op.dst=some d->M d=S d)(h:plX T (stX P pins N M tk op)=some (c,e,t))(Z:okL c):OpH P pins N op S (app S e)/\T=t:=by(cases I:stX P pins N M tk op with|none=>rw[I]at h;cases h|some u=>obtain⟨C,W⟩:=u;rw[I]at h;cases h;have J:C=True:=Z.1;exact⟨zWl U hd I (by rw[J];trivial),rfl⟩)
theorem actX_ok{T t:Tr P R Γ}{k:Nat}{wn:Bool}{c:PL}{e:Eff}(W:Mk M S)(hd:∀d,op.dst=some d->M d=S d)(h:actX pins N M op k wn T=some (c,e,t))(hc:okL c):OpH P pins N op S (app S e)/\∀ρ,T.run ρ=t.run ρ:=by(have Z:∀{U:Tr P R Γ} {tk:Bool},(∀ρ,T.run ρ=U.run ρ)->plX U (stX P pins N M tk op)=some (c,e,t)->OpH P pins N op S (app S e)/\∀ρ,T.run ρ=t.run ρ:=λhU h=>by obtain⟨a,b⟩:=plX_ok W hd h hc;grind);unfold actX at h;split at h;(rename_i q C x y hC hw u;(cases J:Nat.beq q k with|false=>grind|true=>rw[J]at h;simp only[cond_true]at h;(cases I:stX P pins N M wn op with|none=>rw[I]at h;cases h|some v=>obtain⟨C',e'⟩:=v;rw[I]at h;unfold wX at h;simp only at h;(cases hl:zUA e' with|none=>grind|some v=>obtain⟨p,s,x'⟩:=v;rw[hl]at h;cases h;obtain⟨rfl,rfl,q3,q4,_⟩:=hc;have he:=zTI hl;subst he;exact⟨(zWl W hd I hC).weak (WkE.refl' q4 (.cons hw (zXJ q3) .nil)),λ_=>rfl⟩))));(rename_i q y u;(cases J:Nat.beq q k with|false=>grind|true=>rw[J]at h;simp only[cond_true]at h;(cases I:stX P pins N M wn op with|none=>rw[I]at h;cases h|some v=>obtain⟨C',e'⟩:=v;rw[I]at h;unfold kX at h;simp only at h;(cases hl:zUA e' with|none=>grind|some v=>obtain⟨p,s,x'⟩:=v;rw[hl]at h;cases h;obtain⟨q1,q3,q4,q5⟩:=hc;have he:=zTI hl;subst he;have q1:C'=True:=q1;exact⟨(zWl W hd I (by rw[q1];trivial)).weak (WkE.refl' q4 (.cons (wkK_ok q5) (zXJ q3) .nil)),λ_=>rfl⟩))));(rename_i q C hC u;(cases J:Nat.beq q k with|false=>grind|true=>rw[J]at h;simp only[cond_true]at h;(cases I:stX P pins N M wn op with|none=>rw[I]at h;cases h|some v=>obtain⟨C',e'⟩:=v;rw[I]at h;cases h;have q1:C'=C:=hc.1;subst q1;exact⟨zWl W hd I hC,λ_=>rfl⟩)));(rename_i q s u;(cases J:Nat.beq q k with|false=>grind|true=>rw[J]at h;simp only[cond_true]at h;(cases I:s.pr pins N M op with|none=>rw[I]at h;cases h|some v=>obtain⟨c',e'⟩:=v;rw[I]at h;cases h;exact⟨s.ok _ _ _ _ _ _ _ W hd I hc,λ_=>rfl⟩)));(rename_i q tk u;(cases J:Nat.beq q k with|false=>grind|true=>rw[J]at h;simp only[cond_true]at h;exact Z (U:=u) (tk:=tk) (λ_=>rfl) h));grind
end
def yX(pins:List Nat)(N:Nat)(L:SL)(op:Oper)(k:Nat){Γ:List Type}:Tr P R Γ->Option (PL×Eff×Tr P R Γ)
 | .vv q s t=>bif Nat.beq q k then(match s.pr pins N L op with|some (c,e)=>some (c,e,t)|none=>none)else none
 |_=>none
theorem yX_ok{k:Nat}{Γ:List Type}{T t:Tr P R Γ}{c:PL}{e:Eff}(h:yX pins N L op k T=some (c,e,t))(U:okL c):OpY P pins N op (gt L) (app (gt L) e)/\∀ρ,T.run ρ=t.run ρ:=by unfold yX at h;split at h;(rename_i q s u;(cases I:Nat.beq q k with|false=>grind|true=>rw[I]at h;simp only[cond_true]at h;split at h;(rename_i Z W J;cases h;exact⟨s.ok _ _ _ _ _ _ J U,λ_=>rfl⟩);cases h));cases h
abbrev FEnv(Γ:List Type):=(X:Type)->Jx X Γ->X->SL
def FEnv.nil:FEnv []:=λ_ m=>nomatch m
def FEnv.cons{X:Type}{Γ:List Type}(Φ:FEnv Γ)(F:X->SL):FEnv (X::Γ)
 |_,.z=>F
 |_,.s m=>Φ _ m
def tB(s:Nat)(b:Bool)(L:SL):SL:=(s,.t (.d (.lit (.bool b))))::L
def frA{R:Sort _}(x:A)(K:A->R):R:=match x with
 | .ref s off=>K (.ref s off)
 |x=>frcA false x K
theorem frA_eq{R:Sort _}(x:A)(K:A->R):frA x K=K x:=by unfold frA;split;rfl;exact frcA_eq _ _ _
def frX{R:Sort _}:Eff->(Eff->R)->R
 |[],K=>K []
 |(s,x)::r,K=>bif Nat.blt s OB then frA x λx=>frX r λr=>K ((s,x)::r)else frX r λr=>K ((s,x)::r)
theorem zUh{R:Sort _}:∀(l:Eff) (K:Eff->R),frX l K=K l
 |[],_=>rfl
 |(s,x)::r,K=>by unfold frX;(cases Nat.blt s OB with|true=>rw[cond_true,frA_eq,zUh]|false=>rw[cond_false,zUh])
def pc0:Code->Nat
 | .ret=>1
 | .region id _ _=>4*id+2
 | .cond (.tmp t) _ _=>4*t+3
 | .seq (.label _) _=>13
 |_=>5
def pc1:Code->Nat
 | .seq a _=>pc1 a
 | .block _ b=>pc1 b
 | .loop b=>pc1 b
 |c=>pc0 c
def pcC:Code->Nat
 | .loop b=>pc1 b
 |c=>pc0 c
def pcur(N:Nat):Cur->Nat
 | .c c=>pcC c
 | .o _ (op::r)=>4*op.dst.getD (N+r.length)
 | .d _ (op::r) _=>4*op.dst.getD (N+r.length)
 | .e _=>9
 |_=>5
def tNow(N:Nat)(u:Cur)(L:SL){Γ:List Type}(T:Tr P R Γ):Option (Pr×SL×Tr P R Γ):=match T with
 | @Tr.t _ _ _ q s x y h t=>bif Nat.beq q (pcur N u)then some (⟨gt L s,x⟩,(s,y)::L,t)else none
 |_=>none
theorem tNow_ok{I:Cur}{L L':SL}{Γ:List Type}{T t:Tr P R Γ}{p:Pr}(h:tNow N I L T=some (p,L',t))(hp:p.x=p.y):gt L=gt L'/\∀ρ,T.run ρ=t.run ρ:=by unfold tNow at h;split at h;(rename_i q s x y e u;(cases hb:Nat.beq q (pcur N I)with|false=>grind|true=>rw[hb]at h;cases h;have hp:gt L s=x:=hp;subst e;refine⟨?_,λ_=>rfl⟩;rw[zQ];funext t;unfold upd;grind));cases h
def fpl:Cur->Option Nat
 | .c c=>some (pcC c)
 | .e _=>some 9
 |_=>none
def fNow(pins:List Nat)(N:Nat)(u:Cur)(L:SL){Γ:List Type}(T:Tr P R Γ):Option (PL×SL×Tr P R Γ):=match T with
 | .f q s t=>match fpl u with|some p=>bif Nat.beq q p then(match s.pr pins N L with|some (I,L')=>some (I,L',t)|none=>none)else none|none=>none
 |_=>none
theorem fNow_ok{I:Cur}{L L':SL}{Γ:List Type}{T t:Tr P R Γ}{p:PL}(h:fNow pins N I L T=some (p,L',t))(hp:okL p):(fpl I).isSome=true/\(∀W Q X G a w,St W Q X G pins N L a w->St W Q X G pins N L' a w)/\∀ρ,T.run ρ=t.run ρ:=by unfold fNow at h;split at h;(rename_i q s u;split at h;(rename_i J hf;(cases hb:Nat.beq q J with|false=>grind|true=>rw[hb]at h;simp only[cond_true]at h;split at h;(rename_i c' Z U;cases h;exact⟨by rw[hf];rfl,s.ok _ _ _ _ _ U hp,λ_=>rfl⟩);cases h));cases h);cases h
def chk(N:Nat)(fin:Bool->R->SL->Option PL):Nat->{Γ:List Type}->List Nat->FEnv Γ->List It->Cur->SL->Tr P R Γ->Lg
  |0,_,_,_,_,_,_,_=> .x
  |n+1,Γ,pins,Φ,K,I,L,T=>match tNow N I L T with
   |some (p,L',t)=>qs [p] (chk N fin n pins Φ K I L' t)
   |none=>match T with
    | .b m k=> .a λx=> .h λh=>chk N fin n pins Φ K I L (k x h)
    | .p m u v=> .c (.h λh=>chk N fin n pins Φ K I L (u h)) (.a λx=> .h λh=>chk N fin n pins Φ K I L (v x h))
    | .no=> .e
    |T=>match fNow pins N I L T with
     |some (U,L',t)=>qs U (chk N fin n pins Φ K I L' t)
     |none=>match I with
      | .c c=>match c with
          | .skip=>chk N fin n pins Φ K (.e .normal) L T
          | .ret=>chk N fin n pins Φ K (.e .ret) L T
          | .exit id=>chk N fin n pins Φ K (.e (.exit id)) L T
          | .goto l=>chk N fin n pins Φ K (.e (.goto l)) L T
          | .scope c=>qs [bp (findLabel c (lab c)).isSome] (chk N fin n pins Φ (.s c::K) (.c c) L T)
          | .seq (.label l) b=>match K,T with
            | .s c::K,.l Z F _ B x=>qs (⟨l,lab c⟩::⟨findLabel c (lab c),some (.seq .skip b)⟩::fits Z L (F x)) (.a λq=>chk N fin n pins (Φ.cons F) (.g l Γ.length::K) (.c b) (F q) (B q))
            |_,_=> .x
          | .seq a b=>match rgs a with
           |some (none,y)=>chk N fin n pins Φ K (.r y b) L T
           |some (some x,y)=>chk N fin n pins Φ (.r y b::K) (.c x) L T
           |none=>match T with
            | .j q F J t=>bif Nat.beq q (pc1 b)then .c (chk N fin n pins (Φ.cons F) (.l Γ.length::K) (.c a) L t) (.a λq=>chk N fin n pins Φ K (.c b) (F q) (J q))else chk N fin n pins Φ (.c b::K) (.c a) L T
            |T=>chk N fin n pins Φ (.c b::K) (.c a) L T
          | .block id b=>chk N fin n pins Φ (.b id::K) (.c b) L T
          | .loop b=>match T with
            | .l Z F _ B x=>qs (fits Z L (F x)) (.a λq=>chk N fin n pins (Φ.cons F) (.l Γ.length::K) (.c b) (F q) (B q))
            |_=> .x
          | .cond (.tmp t) a b=>match gt L t with
            | .t (.d (.lit (.bool c)))=>match T with
              | .i q U u v=>bif Nat.beq q (3*t+2)then qs [⟨c,U⟩] (.c (.h λh=>chk N fin n pins Φ K (.c a) (tB t true L) (u h)) (.h λh=>chk N fin n pins Φ K (.c b) (tB t false L) (v h)))else lg2 c (chk N fin n pins Φ K (.c a) L T) (chk N fin n pins Φ K (.c b) L T)
              |T=>lg2 c (chk N fin n pins Φ K (.c a) L T) (chk N fin n pins Φ K (.c b) L T)
            |_=> .x
          | .cond (.const (.bool c)) a b=>lg2 c (chk N fin n pins Φ K (.c a) L T) (chk N fin n pins Φ K (.c b) L T)
          | .region _ ops false=>chk N fin n pins Φ K (.o ops.toList ops.toList) L T
          | .region _ ops true=>qs [bp (backB ops.toList.toArray)] (chk N fin n pins Φ K (.d ops.toList ops.toList []) L T)
          |_=> .x
      | .o l0 []=>chk N fin n pins Φ K (.e .normal) L T
      | .o l0 (op::r)=>match gdX l0.toArray L op (tq T) (op.dst.getD (N+r.length))with
        | .go=>match yX pins N L op (op.dst.getD (N+r.length)) T with
         |some (c,e,t)=>qs c (frX e λe=>chk N fin n pins Φ K (.o l0 r) (setL L e) t)
         |none=>match actX pins N (gt L) op (op.dst.getD (N+r.length)) (match op.dst with|some d=>wants d r|none=>false) T with
          |some (c,e,t)=>qs c (frX e λe=>chk N fin n pins Φ K (.o l0 r) (setL L e) t)
          |none=> .x
        | .skip=>match op.dst with
          |some d=>qs [bp (okD N pins (gt L) d)] (chk N fin n pins Φ K (.o l0 r) ((d,.tup [])::L) T)
          |none=> .x
        | .ask t c=>match T with
          | .i _ U u v=>qs [⟨c,U⟩] (.c (.h λh=>chk N fin n pins Φ K I (tB t true L) (u h)) (.h λh=>chk N fin n pins Φ K I (tB t false L) (v h)))
          |_=> .x
        | .bad=> .x
      | .d l0 [] acc=>qs [bp (okB l0 acc.reverse)] (chk N fin n pins Φ K (.e .normal) L T)
      | .d l0 (op::r) acc=>frcNs (hkX (op.dst.getD (N+r.length)) T++zV1 l0.toArray (gt L) op) λTs=>match gdX l0.toArray L op (tq T) (op.dst.getD (N+r.length))with
        | .go=>match actX pins N (mask Ts (gt L)) op (op.dst.getD (N+r.length)) (match op.dst with|some d=>wants d r|none=>false) T with
          |some (c,e,t)=>qs (bp ((keys e).all Ts.contains)::c) (frX e λe=>frcNs (keys e) λks=>chk N fin n pins Φ K (.d l0 r ((Ts,ks)::acc)) (setL L e) t)
          |none=> .x
        | .skip=>match op.dst with
          |some d=>qs [bp (okD N pins (gt L) d)] (chk N fin n pins Φ K (.d l0 r ((Ts,[d])::acc)) ((d,.tup [])::L) T)
          |none=> .x
        | .ask t c=>match T with
          | .i _ U u v=>qs [⟨c,U⟩] (.c (.h λh=>chk N fin n pins Φ K I (tB t true L) (u h)) (.h λh=>chk N fin n pins Φ K I (tB t false L) (v h)))
          |_=> .x
        | .bad=> .x
      | .r y z=>match T with
        | .rr s c t x0=>match pins with
          |d::pins=>match s.pr N y L with
            |some (p,b,LA)=>qs (⟨d,DK⟩::bp (!pins.contains DK)::⟨b,c⟩::bp (K.all λi=> !i.isA)::p) (.c (.h λh=>chk N fin n pins Φ [.kk] (.c z) LA (t h)) (.h λ_:c=false=>match fin false x0 LA with
              |some q=>qs q .e
              |none=> .x))
            |none=> .x
          |[]=> .x
        |_=> .x
      | .e e=>match K with
          |[]=>match e,T with
            | .ret,.r x=>match fin false x L with
              |some c=>qs c .e
              |none=> .x
            | .normal,.r x=>match fin true x L with
              |some c=>qs c .e
              |none=> .x
            |_,_=> .x
          | .c b::K=>match e with
            | .normal=>chk N fin n pins Φ K (.c b) L T
            |e=>chk N fin n pins Φ K (.e e) L T
          | .b id::K=>match e with
            | .exit W=>bif Nat.beq W id then chk N fin n pins Φ K (.e .normal) L T else chk N fin n pins Φ K (.e (.exit W)) L T
            |e=>chk N fin n pins Φ K (.e e) L T
          | .a b::K=>match e with
            | .normal=>chk N fin n pins Φ K (.c b) L T
            |_=> .x
          | .kk::K=>match e with
            | .ret=>chk N fin n pins Φ K (.e .ret) L T
            |_=> .x
          | .r y z::K=>match e with
            | .normal=>chk N fin n pins Φ K (.r y z) L T
            |e=>chk N fin n pins Φ K (.e e) L T
          | .s c::K=>match e with
            | .goto _=> .x
            |e=>chk N fin n pins Φ K (.e e) L T
          | .g l k::K=>match e with
            | .goto l'=>match T with
              | .n Z m x=>qs (⟨l',l⟩::⟨lev m,k⟩::fits Z L (Φ _ m x)) .e
              |_=> .x
            |e=>chk N fin n pins Φ K (.e e) L T
          | .l k::K=>match e with
            | .normal=>match T with
              | .n Z m x=>qs (⟨lev m,k⟩::fits Z L (Φ _ m x)) .e
              |_=> .x
            |e=>chk N fin n pins Φ K (.e e) L T
end
end Go.Proofs.YtocolhfjpadaoaaGreatDoor
