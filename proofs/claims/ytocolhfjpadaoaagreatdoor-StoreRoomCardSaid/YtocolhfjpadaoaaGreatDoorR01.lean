/-
  Lemmas of this claim, joined.
-/
import Derived.Test.YtocolhfjpadaoaaGreatDoorR00
import Derived.Laws.BytesArg
import Derived.TacticsIn
import Derived.OrdersIn
import Derived.LoopNIn
import Derived.RangeFuncCalls
set_option linter.unusedVariables false
set_option linter.unusedSimpArgs false
set_option linter.constructorNameAsVariable false
namespace Go.Proofs.YtocolhfjpadaoaaGreatDoor
open Go
abbrev wI:=@Bool.and_eq_true
abbrev wK:=@List.getD_eq_getElem?_getD
abbrev wL:=@List.length_map
abbrev vL:=@List.mem_cons
abbrev uA:=@List.getElem_mem
abbrev uG:=@List.getElem?_of_mem
abbrev uO:=@Option.map_some
abbrev uQ:=@Nat.mul_one
abbrev uR:=@List.length_nil
abbrev uS:=@List.length_cons
abbrev uT:=@Option.getD_some
abbrev uU:=@List.length_pos_iff
abbrev uV:=@List.all_cons
abbrev tE:=@List.map_congr_left
abbrev tH:=@List.mem_singleton
abbrev sC:=@Option.isSome_some
abbrev sF:=@Option.map_none
abbrev sX:=@Option.isSome_none
end Go.Proofs.YtocolhfjpadaoaaGreatDoor
namespace Go.Proofs.YtocolhfjpadaoaaGreatDoor
open Go Go.RowKit
def zRP:A->Option (List D)
 | .t (.d x)=>some [x]
 | .t (.agg l)=>some l
 |_=>none
def zT5(M:Nat->A)(sz:Nat):Nat->List (Nat×Operand)->Option (List (List D))
  |_,[]=>some []
  |n,(i,x)::r=>if i=n then match zRP (cpO M x),zT5 M sz (n+1) r with
      |some c,some t=>if c.length=sz then some (c::t)else none
      |_,_=>none
    else none
section
variable {w0:World}{m0:Mem}{o0:OwnM}{G:GD}{pins:List Nat}{S M:Nat->A}{a:Act}{w:World}{m:Mem}{o:OwnM}{P:Program}
theorem zMj{s:Nat}{y:A}{v:Value}{l:List D}(hl:zRP y=some l)(hy:RepA m w o S s y v):RepL m l v.cells.toList:=by(cases y with|t z=>(cases z with|d x=>cases hl;have:RepD m x v:=hy;(exact⟨by rw[this.cells];simp,λj e u=>by rw[this.cells];(cases j with|zero=>grind|succ j=>simp at u)⟩)|agg ds=>cases hl;obtain⟨I,e,h⟩:=hy;subst e;exact h|_=>cases hl)|_=>cases hl)
theorem zRQ(W:Mk M S)(I:Inv w0 m0 o0 G pins S a w m o){sz:Nat}:∀(n:Nat) (J:List (Nat×Operand)) (l:List (List D)),zT5 M sz n J=some l->
 (J.map λx=>(x.1,a.eval x.2))=((J.map λx=>a.eval x.2).zipIdx n).map (λx=>(x.2,x.1))/\(∀v∈J.map (λx=>a.eval x.2),v.cells.size=sz)/\zIl m sz l ((J.map λx=>a.eval x.2).flatMap λv=>v.cells.toList)/\l.length=J.length
 |n,[],l,h=>by cases h;exact⟨rfl,by simp,⟨by simp,λi r h=>by simp at h,λi r j d h=>by simp at h⟩,rfl⟩
 |n,(i,x)::r,l,h=>by unfold zT5 at h;split at h;(case isFalse=>cases h);rename_i e;subst e;split at h;(rename_i c t hc ht;split at h;(rename_i α;cases h;obtain⟨h1,h2,h3,h4⟩:=zRQ W I (i+1) r t ht;have hr:=zMj hc (qA W I x 0);(have Z:(a.eval x).cells.size=sz:=by have:=hr.1;simp at this;omega);refine⟨?_,?_,?_,by simp[h4]⟩;simp only[vB,List.zipIdx_cons,h1];(intro v hv;rcases vL.1 hv with rfl|hv;exact Z;exact h2 v hv);((have U:zIl m sz [c] (a.eval x).cells.toList:=by refine⟨by simp[Z],λi r hi=> ?_,λi r j d hi hj=> ?_⟩;grind;(cases i with|zero=>cases hi;obtain⟨u,h5,h6⟩:=hr.2 j d hj;grind|succ i=>grind));exact U.append h3));cases h);cases h
theorem bsl_ok(hM:Mk M S)(I:Inv w0 m0 o0 G pins S a w m o){t e sz nb:Nat}(E:zIW P t e sz nb){d:Nat}(hd:d<a.tmps.size)(α:(S d).isBox=false)(δ:d∉pins)
{J:List (Nat×Operand)}{l:List (List D)}(hl:zT5 M sz 0 J=some l)(hn:J≠[])(hb:J.length*sz<=16777216):
 ∃v w' m' o',(Instr.buildSlice t J.length (J.map λx=>(x.1,a.eval x.2)).toArray).run P w= .ok v w'/\Inv w0 m0 o0 G pins (upd S d (.t (.own e sz l))) (a.put (some d) v) w' m' o':=by
 obtain⟨i,z,hi,hz,rfl,rfl,θ⟩:=E.info
 obtain⟨h1,h2,h3,h4⟩:=zRQ hM I 0 J l hl
 have β:0<J.length:=uU.2 hn
 have η:0<J.length*i.size:=Nat.mul_pos β E.pos
 have γ:(J.map λx=>a.eval x.2).length=J.length:=by simp
 have Z:=run_buildSlice (P:=P) w t e J.length (J.map λx=>(x.1,a.eval x.2)).toArray _ i z E.under hi hz (by omega) (by omega) (by rw[show(J.map λx=>(x.1,a.eval x.2)).toArray.toList=_ from h1];exact Great.fill_whole E.pos _ _ h2 (by rw[γ];simp))
 generalize ζ:((J.map λx=>a.eval x.2).flatMap λv=>v.cells.toList)=xs at Z h3
 have ε:xs.length=J.length*i.size:=by rw[h3.1,h4]
 have U:Own (w.alloc (.cells xs.toArray e)) 0 e i.size (some ⟨w.heap.size,0,none⟩) J.length J.length xs:=by have:=Own.lit (B:=0) w xs.toArray e i.size J.length (uF _) (by unfold maxLen;have:=tN J.length E.pos;omega) (by simpa using ε);grind
 have W:=h3.2.1
 refine⟨_,_,_,_,Z,I.own_put d _ _ (λp=>xs[p]?) w.heap.size _ hd α δ (I.free (wJ _)) (I.newG (wJ _)) ((Same.alloc (λ_=>False) w _).weaken (λ_ h=>h.elim)) (by simp) (λp u h=>by rw[I.mem_none (wJ _)]at h;cases h) (λp u hp=>Own.cellAt U rfl hp) ?_⟩
 refine⟨some ⟨w.heap.size,0,none⟩,J.length,xs,by rw[h4],by rw[h4];exact zF3 U,λg hg=> ?_,W,(h3.mono (zMo I (wJ _) _)).2.2⟩
 cases hg
 exact⟨zAO _ _ _,λp _=>zJ2 _ _ _ _⟩
theorem zRV(s:ByteArray)(cap p:Nat)(b:UInt8)(hp:s.data.toList[p]? =some b):(bytesRow s cap)[p]? =some (.int .u8 (b.toNat:Int)):=by(have u:p<s.data.size:=by have:=(wB.1 hp).1;simpa using this);unfold bytesRow;grind
theorem str_ok(I:Inv w0 m0 o0 G pins S a w m o){Z J e:TypeId}(hs:P.underlying Z=some .string)(β:P.underlying J=some (.slice e))(he:P.underlying e=some (.int .u8))(s:ByteArray)(η:s.size<=maxLen){d:Nat}(hd:d<a.tmps.size)(α:(S d).isBox=false)(ε:d∉pins):
 ∃v w' m' o',(convert Z J (.string s)).run P w= .ok v w'/\Inv w0 m0 o0 G pins (upd S d (.t (.d (.seq 1 (qV s.data.toList))))) (a.put (some d) v) w' m' o':=by
 have γ:=run_bytes_of_string (P:=P) w Z J e s hs β he
 have U:∀p u,((s.data.toList[p]?).map λb=>Value.int .u8 (b.toNat:Int))=some u->(w.drew.alloc (.cells (bytesRow s (grownCap w s.size 0 e)) e ((bytesRow s (grownCap w s.size 0 e)).size,(bytesRow s (grownCap w s.size 0 e)).size+1))).cell? ⟨w.heap.size,p,none⟩=some u:=by intro p u h;(cases hb:s.data.toList[p]? with|none=>grind|some b=>rw[hb]at h;refine(cell_of_row _ w.heap.size p _ e _ (heap_alloc_new w.drew _)).trans ?_;rw[zRV s _ p b hb];exact h)
 refine⟨_,_,_,_,γ,I.own_put d _ _ (λp=>(s.data.toList[p]?).map λb=>Value.int .u8 (b.toNat:Int)) w.heap.size _ hd α ε (I.free (wJ _)) (I.newG (wJ _))
  (((Same.drew (λ_=>False) w).trans ((Same.alloc (λ_=>False) w.drew _).weaken (λ_ h=>h.elim))).weaken (λ_ h=>h.elim)) (by simp) (λp u h=>by rw[I.mem_none (wJ _)]at h;cases h) U ?_⟩
 have ζ:s.size=(qV s.data.toList).length:=by unfold qV;rw[wL,vM];rfl
 have hb:∀(i:Nat) (r:List D),(qV s.data.toList)[i]? =some r->∃b:UInt8,s.data.toList[i]? =some b/\r=[D.lit (.int .u8 (b.toNat:Int))]:=by intro i r hi;unfold qV at hi;grind
 show RepD _ (.seq 1 (qV s.data.toList)) (.slice _ s.size (grownCap w s.size 0 e))
 have W:s.size<=grownCap w s.size 0 e:=grownCap_ge _ _ _ _
 have δ:grownCap w s.size 0 e<=maxLen:=grownCap_le_maxLen _ _ _ _ η
 generalize grownCap w s.size 0 e=cap at W δ
 rw[ζ]at W⊢
 refine .seq 1 _ _ _ w.heap.size 0 (λi _=>((s.data.toList[i]?).map λb=>Value.int .u8 (b.toNat:Int)).getD undef) W δ (λ_=>rfl) (λi r hi=> ?_) (λi r j x hi hj=> ?_) (λi r j x hi hj=> ?_)
 · grind
 · obtain⟨b,h,rfl⟩:=hb i r hi;(cases j with|succ j=>grind|zero=>rw[zB5,vJ,uP,uQ,h];rfl)
 · obtain⟨b,h,rfl⟩:=hb i r hi;(cases j with|succ j=>grind|zero=>cases hj;rw[h];exact .lit _ rfl)
theorem zCP{w:World}{g:Nat}{cs cs':Array Value}{E:Nat}(u:w.heap[g]? =some (.cells cs E (0,0)))(I:cs'.size=cs.size)(k:Nat):zBc w (w.setRow g cs') k:=by by_cases hk:k=g;(subst hk;intro U W Z J;rw[u]at J;cases J;exact⟨cs',setRow_heap w k cs cs' E _ u,I⟩);exact .of_eq (setRow_other w g k cs' hk)
theorem Inv.box_putX(I:Inv w0 m0 o0 G pins S a w m o){b g:Nat}{l l':List T}{cs cs':Array Value}{E:Nat}(hb:S b= .box l)(hg:o g=some (b,0))(γ:w.heap[g]? =some (.cells cs E (0,0)))(ζ:cs'.size=cs.size)(o':OwnM)(Dr:Nat->Prop)
  (hD:∀s,Dr s->s<OB/\s∉pins/\∃x,S s= .t x/\((∃d,x= .d d)\/x= .any))(h1:∀g' J,o g'=some J->¬Dr J.1->J.1≠b->o' g'=some J)(h2:o' g=some (b,0))(h3:∀g' J,o' g'=some J->∃U,o g'=some U)(h4:∀g' η J,o' g'=some J->o' η=some J->g'=η)(h5:∀g' J U,o' g'=some J->o g'=some U->Dr U.1\/U.1=b->Dr J.1\/J.1=b)
  (hl:l'.length=l.length)(hc:∀(j:Nat) (x:T),l'[j]? =some x->x.isAgg=false/\∃u,cs'[j]? =some u/\RepT m (w.setRow g cs') o' (b,j+1) x u):
  Inv w0 m0 o0 G pins (upd S b (.box l')) a (w.setRow g cs') m o':=by
 have σ:=I.lt g _ hg
 have δ:=I.slots b
 rw[hb]at δ
 obtain⟨g',hv,κ,hm,ρ,E2,β,μ,_⟩:=δ
 have:=I.inj _ _ _ hg κ
 subst this
 rw[γ]at β
 cases β
 have ι:∀b' p u,m b' p=some u->b'≠g:=λb' p u h e=>by subst e;rw[hm]at h;cases h
 have W:∀k,k≠g->(w.setRow g cs').heap[k]? =w.heap[k]? :=λk hk=>setRow_other w g k cs' hk
 have α:∀k,zBc w (w.setRow g cs') k:=zCP γ ζ
 have π:∀s,s≠b->RepA m w o S s (S s) (a.tmps.getD s undef)->RepA m (w.setRow g cs') o' (upd S b (.box l')) s (S s) (a.tmps.getD s undef):=by
  intro s hs h
  have ε:∀b' off,S s= .ref b' off->RepA m (w.setRow g cs') o' (upd S b (.box l')) s (.ref b' off) (a.tmps.getD s undef):=by
   intro b' off e
   rw[e]at h
   obtain⟨Z,k1,k2,k3⟩:=h
   by_cases e':b'=b
   ·
    subst e'
    have:=I.inj _ _ _ k1 hg
    subst this
    exact⟨Z,h2,k2,λ_=>⟨l',zT _ _ _⟩⟩
   ·
    refine⟨Z,h1 _ _ k1 (λhd=> ?_) e',k2,λν=>let⟨lx,k3⟩:=k3 ν;⟨lx,by rw[zE e',k3]⟩⟩
    obtain⟨hO,_,x,hx,_⟩:=hD _ hd
    obtain⟨lx,k3⟩:=k3 hO
    rw[show S b'= .box lx from k3]at hx
    cases hx
  by_cases hd:Dr s
  ·
   obtain⟨_,_,x,hx,θ⟩:=hD s hd
   rw[hx]at h⊢
   rcases θ with⟨d,rfl⟩|rfl
   · exact h
   · exact h
  ·
   have K:Keep (λJ=>Dr J.1\/J.1=b) m w o m (w.setRow g cs') o':=
    ⟨Mle.refl _,λ_ _ _ _=>rfl,λZ J k1 k2=>W Z λe=>by
     subst e
     rw[hg]at k1
     injection k1 with k1
     exact k2 (.inr (by rw[<-k1])),λZ J k1 k2=>h1 Z J k1 (λe=>k2 (.inl e)) (λe=>k2 (.inr e)),λZ j k1=>by
     by_cases e:OB+j=b
     ·
      rw[e]at k1⊢
      have:=I.inj _ _ _ k1 hg
      subst this
      exact h2
     · exact h1 Z _ k1 (λhd=>absurd (hD _ hd).1 (by show¬OB+j<OB;omega)) e,λZ s1 k1 ξ e1=>by
     obtain⟨U,e2⟩:=h3 Z _ e1
     by_cases hd:Dr U.1\/U.1=b
     · exact absurd (h5 Z _ _ e1 e2 hd) ξ
     ·
      rw[h1 Z _ e2 (λk=>hd (.inl k)) (λk=>hd (.inr k))]at e1
      injection e1 with e1
      rw[e1]at e2
      exact⟨Z,k1,e2⟩,λZ j k1=>α Z⟩
   cases hS:S s with
   |ref b' off=>exact ε b' off hS
   |_=>
    rw[<-hS]
    refine RepA.keep K (λj e=>e.elim hd hs) (λb' off e _=> ?_) h
    rw[hS]at e
    cases e
 refine⟨?_,λb' p u h=> ?_,I.mono,I.old,λZ J k=> ?_,λZ J k=> ?_,h4,λs hs Z k=> ?_,λs=> ?_,I.defers,I.tbl,I.wide,I.shps.keep I.pinned λk _ _=>α k⟩
 ·
  refine I.same.trans ⟨rfl,rfl,rfl,by simp,λk hk hn=>W k λe=>hn ?_,λk=>(α k).w⟩
  subst e
  exact I.own k _ hg
 ·
  rw[vS (w:=w) (W b' (ι b' p u h))]
  exact I.sat b' p u h
 ·
  obtain⟨U,k'⟩:=h3 Z J k
  exact I.own Z U k'
 ·
  obtain⟨U,k'⟩:=h3 Z J k
  simpa using I.lt Z U k'
 ·
  have k2:=I.pinned s hs Z k
  by_cases e:s=b
  ·
   subst e
   have:=I.inj _ _ _ k2 hg
   subst this
   exact h2
  · exact h1 Z _ k2 (λhd=>hs.elim (hD s hd).2.1 λhs=>by have:=(hD s hd).1;omega) e
 ·
  by_cases e:s=b
  ·
   subst e
   rw[zT]
   exact⟨g,hv,h2,hm,cs',E,setRow_heap w g cs cs' E _ γ,by rw[ζ,hl];exact μ,hc⟩
  ·
   rw[zE e]
   exact π s e (I.slots s)
theorem Inv.box_put(I:Inv w0 m0 o0 G pins S a w m o){b g:Nat}{l l':List T}{cs cs':Array Value}{E:Nat}(hb:S b= .box l)(hg:o g=some (b,0))(β:w.heap[g]? =some (.cells cs E (0,0)))(α:cs'.size=cs.size)(o':OwnM)(Dr:Nat->Prop)
(hD:∀s,Dr s->s<OB/\s∉pins/\∃x,S s= .t (.d x))(h1:∀Z J,o Z=some J->¬Dr J.1->J.1≠b->o' Z=some J)(h2:o' g=some (b,0))(h3:∀Z J,o' Z=some J->∃U,o Z=some U)(h4:∀Z W J,o' Z=some J->o' W=some J->Z=W)(h5:∀Z J U,o' Z=some J->o Z=some U->Dr U.1\/U.1=b->Dr J.1\/J.1=b)
(hl:l'.length=l.length)(hc:∀(j:Nat) (x:T),l'[j]? =some x->x.isAgg=false/\∃u,cs'[j]? =some u/\RepT m (w.setRow g cs') o' (b,j+1) x u):
 Inv w0 m0 o0 G pins (upd S b (.box l')) a (w.setRow g cs') m o':=I.box_putX hb hg β α o' Dr (λs h=>let⟨a1,a2,x,e⟩:=hD s h;⟨a1,a2,.d x,e,.inl ⟨x,rfl⟩⟩) h1 h2 h3 h4 h5 hl hc
end
def argS(args:List A):Nat->A:=λt=>args.getD t .any
def zEw:Nat->List A->List Nat
 |_,[]=>[]
 |i,.box _::r=>i::zEw (i+1) r
 |i,_::r=>zEw (i+1) r
def FC(P:Program)(f:FuncId)(args:List A)(outs:List (Nat×List T))(r:A):Prop:=
 ∀(w:World) (m:Mem) (o:OwnM) (I:Array Value),(∀b p u,m b p=some u->w.cell? ⟨b,p,none⟩=some u)->Mle TBL m->(∀g l,o g=some l->g<w.heap.size/\l.1<OB)->(∀g U l,o g=some l->o U=some l->g=U)->I.size=args.length->
  (∀s,RepA m w o (argS args) s (argS args s) (I.getD s undef))->
  Calls P f I w λe w'=>∃(u:Value) (m':Mem) (o':OwnM) (J:Nat->A) (Z:Act) (ρ:Nat),e= .returned u/\Inv w m o ⟨λg=>o g≠none,[]⟩ (zEw 0 args) J Z w' m' o'/\RepA m' w' o' J ρ r u/\∀i l,(i,l)∈outs->J i= .box l/\i≠ρ
inductive WkD:D->D->Prop
 |refl (x:D):WkD x x
 |nil (k:Nat):WkD (.lit (.slice none 0 0)) (.seq k [])
 |fn (f:FuncId):WkD (.lit (.func (.func f) #[] #[])) (.clo f [])
inductive WkL:List D->List D->Prop
 |nil:WkL [] []
 |cons {x y:D} {l l':List D} (h:WkD x y) (t:WkL l l'):WkL (x::l) (y::l')
inductive WkLs:List (List D)->List (List D)->Prop
 |nil:WkLs [] []
 |cons {x y:List D} {l l':List (List D)} (h:WkL x y) (t:WkLs l l'):WkLs (x::l) (y::l')
inductive WkT:T->T->Prop
 |refl (x:T):WkT x x
 |d {x y:D} (h:WkD x y):WkT (.d x) (.d y)
 |agg {l l':List D} (h:WkL l l'):WkT (.agg l) (.agg l')
 |own (E k:Nat) (l:List (List D)):WkT (.own E k l) (.d (.seq k l))
 |nilOwn (E k:Nat):WkT (.d (.lit (.slice none 0 0))) (.own E k [])
 |nilXs (E k:Nat):WkT (.d (.lit (.slice none 0 0))) (.xs E k [] none)
 |nilView (j off E k:Nat):WkT (.d (.lit (.slice none 0 0))) (.view j off E k 0)
 |view0 (j off E k n:Nat):WkT (.view j off E k n) (.view j off 0 k n)
 |optS (t i:Nat):WkT (.hpt (cd t i) 0) (.opt t (some i))
 |optN (t:Nat):WkT (.d (.lit (.pointer none))) (.opt t none)
 |any {x:T} (h:x.isAgg=false):WkT x .any
 |ags {l l':List D} (js:List (Nat×Nat×Nat×List (List D))) (h:WkL l l'):WkT (.ags l js) (.ags l' js)
 |agsA {l l':List D} (js:List (Nat×Nat×Nat×List (List D))) (h:WkL l l'):WkT (.ags l js) (.agg l')
 |agsN {l l':List D} {i:Nat} (E k:Nat) (h:WkL l l') (e:l[i]? =some (.lit (.slice none 0 0))):WkT (.agg l) (.ags l' [(i,E,k,[])])
 |rows (E k:Nat) {l l' l'':List (List D)} (h:WkLs l l') (e:l'=l''):WkT (.own E k l) (.own E k l'')
inductive WkTs:List T->List T->Prop
 |nil:WkTs [] []
 |cons {x y:T} {l l':List T} (h:WkT x y) (t:WkTs l l'):WkTs (x::l) (y::l')
inductive WkA:A->A->Prop
 |refl (x:A):WkA x x
 |any (x:A):WkA x .any
 |t {x y:T} (h:WkT x y):WkA (.t x) (.t y)
 |tup {l l':List T} (h:WkTs l l'):WkA (.tup l) (.tup l')
 |box {l l':List T} (h:WkTs l l') (ha:l'.all (λx=> !x.isAgg)=true):WkA (.box l) (.box l')
inductive zKc:List A->List A->Prop
 |nil:zKc [] []
 |cons {x y:A} {l l':List A} (h:WkA x y) (t:zKc l l'):zKc (x::l) (y::l')
section
variable {w0:World}{m0:Mem}{o0:OwnM}{G:GD}{pins:List Nat}{S M:Nat->A}{a:Act}{w:World}{m:Mem}{o:OwnM}{P:Program}
theorem RepD.nilSeq(m:Mem)(k:Nat):RepD m (.seq k []) (.slice none 0 0):=
 .seq k [] none 0 0 0 (λ_ _=>undef) (wJ _) (uF _) (λh=>absurd rfl h) (λi r h=>by simp at h) (λi r j d h=>by simp at h) (λi r j d h=>by simp at h)
theorem WkD.rep{x y:D}(h:WkD x y){v:Value}(hr:RepD m x v):RepD m y v:=by(cases h with|refl=>exact hr|nil k=>cases hr;exact RepD.nilSeq m k|fn f=>cases hr;exact .clo f [] #[] (λ_=>0) (λ_=>0) (λ_ _=>undef) rfl (λi r h=>by simp at h) (λi r j d h=>by simp at h) (λi r j d h=>by simp at h))
theorem WkL.rep{l l':List D}(h:WkL l l'):∀{vs:List Value},RepL m l vs->RepL m l' vs:=by(induction h with|nil=>grind|cons hx ht U=>intro vs hr;(cases vs with|nil=>have:=hr.1;grind|cons v vs=>have J:=U (vs:=vs) ⟨by have:=hr.1;simpa using this,λj d I=>by simpa using hr.2 (j+1) d (by grind)⟩;refine⟨by have:=J.1;simpa using this,λj d I=> ?_⟩;(cases j with|zero=>cases I;obtain⟨u,W,Z⟩:=hr.2 0 _ rfl;exact⟨u,W,hx.rep Z⟩|succ j=>simpa using J.2 j d (by grind))))
theorem WkL.get{l l':List D}(h:WkL l l'):l'.length=l.length/\∀(j:Nat) (y:D),l'[j]? =some y->∃x,l[j]? =some x/\WkD x y:=by(induction h with|nil=>grind|cons hx ht u=>grind)
theorem WkLs.get{l l':List (List D)}(h:WkLs l l'):l'.length=l.length/\∀(j:Nat) (y:List D),l'[j]? =some y->∃x,l[j]? =some x/\WkL x y:=by(induction h with|nil=>grind|cons hx ht u=>grind)
theorem RepT.one{o:OwnM}{loc:Nat×Nat}{x:T}{v:Value}(h:RepT m w o loc x v)(hx:x.isAgg=false):v.oneCell'=true:=by(cases x with|d x=>exact RepD.one h|agg l=>cases hx|own E k l=>obtain⟨J,cap,xs,e,_⟩:=h;subst e;rfl|ptr j off=>obtain⟨g,_,e⟩:=h;subst e;rfl|view j off E k n=>obtain⟨J,c,_,_,e,_⟩:=h;subst e;rfl|hpt c off=>obtain⟨g,_,e⟩:=h;subst e;rfl|opt t p=>rcases h with⟨_,e⟩|⟨_,_,g,_,e⟩<;>(subst e;rfl)|hvw c off E k n=>obtain⟨J,q,_,_,e,_⟩:=h;subst e;rfl|mpt j=>obtain⟨g,_,e⟩:=h;subst e;rfl|ags W Z=>cases hx|xs E k l rv=>(first|exact h|exact hr|exact k2|exact k3|exact h4|exact h5|exact id|trivial|(cases hp;done)|(cases hx;done)|(cases hl;done)|(obtain⟨A1,U,I,u,_⟩:=h;subst u;rfl)|(obtain⟨A1,U,I,u,_⟩:=hr;subst u;rfl)|rfl)|any=>exact h)
theorem WkT.rep(W:∀b p u,m b p=some u->w.cell? ⟨b,p,none⟩=some u){x y:T}(h:WkT x y){loc:Nat×Nat}{v:Value}(hr:RepT m w o loc x v):RepT m w o loc y v:=by(cases h with|refl=>exact hr|d h=>exact h.rep hr|agg h=>obtain⟨U,e,k⟩:=hr;exact⟨U,e,h.rep k⟩|own E k l=>exact zHz W hr|nilOwn E k=>have hr:RepD m (.lit (.slice none 0 0)) v:=hr;cases hr;exact⟨none,0,[],rfl,zF3 (tM w 0 E k),λg Z=>(by cases Z),λi r h=>by simp at h,λi r j d h=>by simp at h⟩|nilXs E k=>have hr:RepD m (.lit (.slice none 0 0)) v:=hr;cases hr;exact⟨none,0,[],rfl,zF3 (tM w 0 E k),λg Z=>(by cases Z),⟨λi r h=>by simp at h,λ_=>rfl,λu h=>by cases h⟩,λi r j d h=>by simp at h⟩|nilView j off E k=>have hr:RepD m (.lit (.slice none 0 0)) v:=hr;cases hr;exact⟨none,0,wJ _,uF _,rfl,.inl rfl⟩|any h=>exact hr.one h|ags js h=>obtain⟨U,e,I,J⟩:=hr;exact⟨U,e,h.rep I,J⟩|agsA js h=>obtain⟨U,e,I,J⟩:=hr;exact⟨U,e,h.rep I⟩|agsN E k h e=>obtain⟨U,e1,I⟩:=hr;refine⟨U,e1,h.rep I,λa ha b hb α=> ?_,λc hc=> ?_⟩;grind;(rw[tH]at hc;subst hc;obtain⟨u,J,h3⟩:=I.2 _ _ e;cases h3;exact⟨_,by simpa using J,none,0,[],rfl,zF3 (tM w 0 E k),λg Z=>(by cases Z),λi r h=>by simp at h,λi r j d h=>by simp at h⟩)|optS t i=>obtain⟨g,I,J⟩:=hr;exact .inr ⟨i,rfl,g,I,J⟩|optN t=>have hr:RepD m (.lit (.pointer none)) v:=hr;cases hr;exact .inl ⟨rfl,rfl⟩|view0 j off E k n=>obtain⟨A',q,I,J,h3,h4⟩:=hr;exact⟨A',q,I,J,h3,h4.imp id λ⟨g,cs,E1,k1,k2,k3,k4,_⟩=>⟨g,cs,E1,k1,k2,k3,k4,.inl rfl⟩⟩|rows E k h e=>subst e;obtain⟨A',cap,xs,e,I,J,h3,h4⟩:=hr;obtain⟨k1,k2⟩:=h.get;refine⟨A',cap,xs,by rw[e,k1],by rw[k1];exact I,J,λi r hi=> ?_,λi r j d hi hj=> ?_⟩;(obtain⟨x,q1,q2⟩:=k2 i r hi;rw[q2.get.1];grind);(obtain⟨x,q1,q2⟩:=k2 i r hi;obtain⟨d',q3,q4⟩:=q2.get.2 j d hj;obtain⟨u,q5,q6⟩:=h4 i x j d' q1 q3;exact⟨u,q5,q4.rep q6⟩))
theorem WkTs.get{l l':List T}(h:WkTs l l'):l'.length=l.length/\∀(j:Nat) (y:T),l'[j]? =some y->∃x,l[j]? =some x/\WkT x y:=by(induction h with|nil=>grind|cons hx ht u=>grind)
theorem WkA.rep(I:∀b p u,m b p=some u->w.cell? ⟨b,p,none⟩=some u){x y:A}(h:WkA x y){S:Nat->A}{s:Nat}{v:Value}(hr:RepA m w o S s x v):RepA m w o S s y v:=by(cases h with|refl=>exact hr|any=>trivial|t h=>exact h.rep I hr|tup h=>obtain⟨vs,e,h1,h2⟩:=hr;obtain⟨k1,k2⟩:=h.get;refine⟨vs,e,by rw[h1,k1],λj y J=> ?_⟩;obtain⟨x,h3,Z⟩:=k2 j y J;obtain⟨u,W,U⟩:=h2 j x h3;exact⟨u,W,Z.rep I U⟩|box h ha=>obtain⟨g,e,b1,b2,cs,E,b3,b4,b5⟩:=hr;obtain⟨k1,k2⟩:=h.get;refine⟨g,e,b1,b2,cs,E,b3,by rw[k1];exact b4,λj y J=> ?_⟩;obtain⟨x,h3,Z⟩:=k2 j y J;obtain⟨_,u,W,U⟩:=b5 j x h3;exact⟨by have:=wG.1 ha y (wC J);simpa using this,u,W,Z.rep I U⟩)
def A.plain:A->Bool
 | .t (.d _)| .t (.agg _)| .imm _| .any=>true
 |_=>false
theorem zJa{x:A}(hx:x.plain=true){m:Mem}{w w':World}{o o':OwnM}{S S':Nat->A}{s s':Nat}{v:Value}(h:RepA m w o S s x v):RepA m w' o' S' s' x v:=by(cases x with|t z=>(cases z with|d x=>exact h|agg l=>exact h|own E k l=>cases hx|ptr j off=>cases hx|view j off E k n=>cases hx|hpt c off=>cases hx|opt t p=>cases hx|mpt c=>cases hx|ags l1 W=>cases hx|xs E k l rv=>(first|exact h|exact hr|exact k2|exact k3|exact h4|exact h5|exact id|trivial|(cases hp;done)|(cases hx;done)|(cases hl;done)|(obtain⟨A1,Z,J,I,_⟩:=h;subst I;rfl)|(obtain⟨A1,Z,J,I,_⟩:=hr;subst I;rfl)|rfl)|any=>cases hx|hvw c off E k n=>cases hx)|imm l=>exact h|any=>trivial|tup l=>cases hx|box l=>cases hx|ref b off=>cases hx|free=>cases hx|hp f=>cases hx|mp l=>cases hx|rcd b u mE oE=>cases hx|cl f U=>cases hx|ck f cs=>cases hx|imt l=>cases hx|ag l=>cases hx|lst l=>cases hx|fr E k=>cases hx)
theorem zPB{args:List A}(h:args.all A.plain=true):zEw 0 args=[]:=by(have:∀(i:Nat) (l:List A),l.all A.plain=true->zEw i l=[]:=by intro i l;(induction l generalizing i with|nil=>intro _;rfl|cons x r u=>intro h;rw[uV,wI]at h;cases x<;>first|(cases h.1;done)|exact u _ h.2));grind
theorem RepT.reloc{m:Mem}{w:World}{o o':OwnM}{l l':Nat×Nat}(h:∀g,o g=some l->o' g=some l'){x:T}(hp:x.isPt=false){v:Value}(hr:RepT m w o l x v):RepT m w o' l' x v:=by(cases x with|ptr j off=>cases hp|view j off E k n=>cases hp|hpt c off=>cases hp|opt t p=>cases hp|mpt c=>cases hp|ags l1 α=>exact zH3.own h hr|xs E k l rv=>(first|exact h|exact hr|exact k2|exact k3|exact U|exact h5|exact id|trivial|(cases hp;done)|(cases hx;done)|(cases hl;done)|(obtain⟨A1,c1,I,u,_⟩:=h;subst u;rfl)|(obtain⟨A1,c1,I,u,_⟩:=hr;subst u;rfl)|rfl)|any=>exact hr|hvw c off E k n=>cases hp|d x=>exact hr|agg l=>exact hr|own E k ls=>obtain⟨A',cap,xs,e,W,J,h3,U⟩:=hr;exact⟨A',cap,xs,e,W,λg Z=>⟨h g (J g Z).1,(J g Z).2⟩,h3,U⟩)
def A.noRef:A->Bool
 | .ref _ _=>false
 | .t x=> !x.isPt
 | .tup l=>noPt l
 | .box _=>false
 | .free=>false
 | .mp _=>false
 | .rcd _ _ _ _=>false
 | .cl _ _=>false
 | .ck _ _=>false
 | .imt _=>false
 | .ag l=>noPt l
 | .lst l=>noPt l
 | .fr _ _=>false
 |_=>true
theorem zDW{l:List T}(h:noPt l=true){j:Nat}{x:T}(u:l[j]? =some x):x.isPt=false:=by have:=wG.1 h x (wC u);grind
theorem RepA.reloc{m:Mem}{w:World}{o o':OwnM}{s s':Nat}(h:∀g j,o g=some (s,j)->o' g=some (s',j)){S S':Nat->A}{x:A}(hx:x.noRef=true){v:Value}(hr:RepA m w o S s x v):RepA m w o' S' s' x v:=by(cases x with|t x=>exact RepT.reloc (λg=>h g 0) (by simpa[A.noRef]using hx) hr|tup l=>obtain⟨Z,e,U,J⟩:=hr;exact⟨Z,e,U,λj x I=>let⟨u,k1,k2⟩:=J j x I;⟨u,k1,k2.reloc (λg=>h g _) (zDW hx I)⟩⟩|imm l=>exact hr|box l=>cases hx|ref=>cases hx|free=>cases hx|hp f=>trivial|mp l=>cases hx|rcd b u mE oE=>cases hx|ck f cs=>cases hx|cl f W=>cases hx|imt l=>cases hx|ag l=>obtain⟨Z,e,U,J⟩:=hr;exact⟨Z,e,U,λj x I=>let⟨u,k1,k3,k2⟩:=J j x I;⟨u,k1,k3,k2.reloc (λg=>h g _) (zDW hx I)⟩⟩|lst l=>obtain⟨g,cap,e,U,J,h3⟩:=hr;exact⟨g,cap,e,U,J,λj x I=>let⟨u,k1,k2⟩:=h3 j x I;⟨u,k1,k2.reloc (λg=>h g _) (zDW hx I)⟩⟩|fr E k=>cases hx|any=>trivial)
theorem zQm.reloc{m:Mem}{w:World}{o o':OwnM}{s s':Nat}(h:∀g j,o g=some (s,j)->o' g=some (s',j)){l:List T}(hx:noPt l=true){g:Nat}(hr:zQm m w o s l g):zQm m w o' s' l g:=by obtain⟨h1,J,W,E,h3,U,h5⟩:=hr;exact⟨h g _ h1,J,W,E,h3,U,λj x I=>let⟨Z,u,k1,k2⟩:=h5 j x I;⟨Z,u,k1,k2.reloc (λg=>h g _) (zDW hx I)⟩⟩
theorem zPe(I:Inv w0 m0 o0 G pins S a w m o){f:FuncId}{args:List A}{r:A}(hf:FC P f args [] r)(hp:args.all A.plain=true){vals:Array Value}(hv:vals.size=args.length)(hr:∀i x,args[i]? =some x->∃s,RepA m w o S s x (vals.getD i undef))
{d:Nat}(hd:d<a.tmps.size)(α:(S d).isBox=false)(ζ:d∉pins)(ι:r.noRef=true):
 Calls P f vals w λe w'=>∃u m' o',e= .returned u/\Inv w0 m0 o0 G pins (upd S d r) (a.put (some d) u) w' m' o':=by
 have θ:∀s,RepA m w (λ_=>none) (argS args) s (argS args s) (vals.getD s undef):=by intro s;unfold argS;rw[wK];(cases hx:args[s]? with|none=>trivial|some x=>obtain⟨s',h⟩:=hr s x hx;exact zJa (wG.1 hp x (wC hx)) h)
 refine(hf w m (λ_=>none) vals I.sat (I.tbl.trans I.mono) (λ_ _ h=>by cases h) (λ_ _ _ h=>by cases h) hv θ).mono ?_
 rintro e w' ⟨u,m',o',S',a',ρ,rfl,J,hr,_⟩
 rw[zPB hp]at J
 have hS:Same (λ_=>False) w w':=J.same.weaken λg h=>h rfl
 have β:∀b,b<w.heap.size->m' b=m b:=λb hb=>J.old b hb λh=>h rfl
 have ε:∀g l,o' g=some l->w.heap.size<=g:=λg l h=>(J.own g l h).resolve_left λh=>h rfl
 let o2:OwnM:=λg=>if w.heap.size<=g then(match o' g with|some (s,j)=>if s=ρ then some (d,j)else none|none=>none)else if(o g).map (·.1)=some d then none else o g
 have η:∀g j,o' g=some (ρ,j)->o2 g=some (d,j):=by intro g j h;show(if _ then _ else _)=_;rw[if_pos (ε g _ h),h];simp
 have U:∀g l,o g=some l->l.1≠d->o2 g=some l:=by intro g l h hl;show(if _ then _ else _)=_;rw[if_neg (by have:=I.lt g l h;omega),h,if_neg (by simpa using hl)]
 have W:∀g l,o2 g=some l->(w.heap.size<=g/\l.1=d/\o' g=some (ρ,l.2))\/(g<w.heap.size/\l.1≠d/\o g=some l):=by intro g l h;change(if _ then _ else _)=_ at h;split at h;(rename_i hg;split at h;(rename_i s j hs;split at h;(rename_i e;injection h with h;subst h e;exact .inl ⟨hg,rfl,hs⟩);cases h);cases h);(rename_i hg;split at h;cases h;(rename_i hn;exact .inr ⟨by omega,λe=>hn (by rw[h,<-e];rfl),h⟩))
 have K:Keep (λl=>l.1=d) m w o m' w' o2:=⟨J.mono,λg l h _=>β g (I.lt g l h),λg l h _=>hS.block g (I.lt g l h) id,λg l h hl=>U g l h hl,λg j h=>U g _ h (zMu (wO hd I.wide)),λg s k hs h=>by rcases W g _ h with⟨_,e,_⟩|⟨_,_,h⟩;exact absurd e hs;exact⟨g,k,h⟩,λg j h=> .of_eq (hS.block g (I.lt g _ h) id)⟩
 refine⟨u,m',o2,rfl,I.same.trans (hS.weaken λ_ h=>h.elim),J.sat,I.mono.trans J.mono,λb hb hg=> ?_,λg l h=> ?_,λg l h=> ?_,λg g' l h h'=> ?_,λs hs g hg=> ?_,λs=> ?_,I.defers,I.tbl,by rw[zCW];exact I.wide,I.shps.keep I.pinned K.sh⟩
 · rw[β b (wO hb I.same.size)];exact I.old b hb hg
 · rcases W g l h with⟨Z,_,_⟩|⟨_,_,Z⟩;exact .inr (uW I.same.size Z);exact I.own g l Z
 · rcases W g l h with⟨_,_,Z⟩|⟨Z,_,_⟩;exact J.lt g _ Z;exact wO Z hS.size
 · rcases W g l h with⟨_,h2,Z⟩|⟨_,h2,Z⟩<;>rcases W g' l h' with⟨_,γ,δ⟩|⟨_,γ,δ⟩;exact J.inj g g' _ Z δ;exact absurd h2 γ;exact absurd γ h2;exact I.inj g g' l Z δ
 · exact U g _ (I.pinned s hs g hg) λe=>hs.elim (λhs=>ζ (by rw[<-e];exact hs)) λhs=>by have e:s=d:=e;have:=I.wide;omega
 · rw[zNj];by_cases h:s=d;(subst h;rw[if_pos ⟨rfl,hd⟩,zT];exact hr.reloc η ι);(rw[if_neg (λe=>h e.1),zE h];refine RepA.keep K (λ_=>h) (λb off e κ=> ?_) (I.slots s);(have hb:(∃l,S b= .box l)->b≠d:=λ⟨l,hl⟩ e=>by subst e;rw[hl]at α;cases α);have hr:=I.slots s;rw[e]at hr;obtain⟨_,_,_,hr⟩:=hr;exact⟨hb (hr κ),λ⟨l,hl⟩=>⟨l,by rw[zE (hb ⟨l,hl⟩),hl]⟩⟩)
end
def elF(P:Program)(t:TypeId):Option (TypeId×Nat×Nat):=match P.underlying t with
 |some (.slice e)=>match P.info? e with
  |some i=>match i.zero with
   |some z=>if z.cells.size=i.size/\0<i.size/\0<i.bytes then some (e,i.size,i.bytes)else none
   |none=>none
  |none=>none
 |_=>none
theorem zMv{P:Program}{t e sz I:Nat}(h:elF P t=some (e,sz,I)):zIW P t e sz I:=by unfold elF at h;split at h;(rename_i Z J;split at h;(rename_i i U;split at h;(rename_i z hz;split at h;(rename_i u;cases h;exact⟨J,⟨i,z,U,hz,rfl,rfl,u.1⟩,u.2.1,u.2.2⟩);cases h);cases h);cases h);cases h
def cvF(P:Program)(M:Nat->A)(I u:TypeId)(x:Operand):Option Value:=match P.underlying I,P.underlying u,vO M x with
 |some _,some (.int k),some (.int _ n)=>some (.int k (k.wrap n))
 |some _,some .string,some (.string s)=>some (.string s)
 |_,_,_=>none
def valF(P:Program)(M:Nat->A):Op->Option A
 | .move x| .assign x=>some (cpO M x)
 | .pick c x y=>match vO M c with
  |some (.bool t)=>some (cpO M (if t then x else y))
  |_=>none
 | .binOp op t x y _=>match vO M x,vO M y with
  |some (.bool u),some (.bool v)=>match P.underlying t,op with
   |some .bool,.eql=>some (.t (.d (.lit (.bool (u==v)))))
   |some .bool,.neq=>some (.t (.d (.lit (.bool (!(u==v))))))
   |_,_=>none
  |some u,some v=>(binV op u v).map λr=>litA r
  |_,_=>none
 | .unOp op _ x=>match vO M x with
  |some u=>(unV op u).map λr=>litA r
  |none=>none
 | .convert J I x=>(cvF P M J I x).map λr=>litA r
 | .extract x i=>match cpO M x with
  | .tup l=>(l[i]?).map .t
  |_=>none
 | .load t x=>ldF P M t x
 | .fieldAddr t x f=>fdF P M t x f
 | .indexAddr t x i=>ixF P M t x i
 | .nilCheck x=>match cpO M x with
  | .imm l=>some (.imm l)
  | .ref b off=>some (.ref b off)
  | .t (.hpt c off)=>some (.t (.hpt c off))
  | .t (.opt t (some i))=>some (.t (.hpt (cd t i) 0))
  |_=>none
 | .call {callee:= .builtin .len,args:=⟨[x]⟩,argTypes:=⟨[t]⟩}=>(lnF P M t x).map λr=>litA r
 |_=>none
section
variable {w0:World}{m0:Mem}{o0:OwnM}{G:GD}{pins:List Nat}{S M:Nat->A}{a:Act}{w:World}{m:Mem}{o:OwnM}{P:Program}
theorem valF_run (J : Mk M S) (I : Inv w0 m0 o0 G pins S a w m o) (op : Oper) {y : A} (h : valF P M op.op = some y) : ∀ s, ∃ v, (execOp a.eval op).run P w = .ok (.value v) w ∧ RepA m w o S s y v := by
  intro s
  obtain ⟨α, op, ty, pos, δ, γ⟩ := op
  simp only at h
  cases op with
  | move x => injection h with h; subst h; exact ⟨_, rfl, qA J I x s⟩
  | assign x => injection h with h; subst h; exact ⟨_, rfl, qA J I x s⟩
  | pick c x y =>
    dsimp only [execOp]
    unfold valF at h
    simp only at h
    split at h
    · rename_i t ht
      cases h
      rw [zCK J I ht]
      refine ⟨a.eval (if t then x else y), ?_, qA J I _ s⟩
      cases t <;> rfl
    · cases h
  | binOp op t x y yt =>
    dsimp only [execOp]
    unfold valF at h
    simp only at h
    split at h
    · rename_i u v hu hv
      rw [zCK J I hu, zCK J I hv]
      have hg : ∀ op : BinOp, (eqGuard op t x y (.bool u) (.bool v)).run P w = .ok () w := by
        intro op
        unfold eqGuard
        cases op <;> rfl
      split at h
      · rename_i hb
        cases h
        refine ⟨.bool (u == v), ?_, .lit _ rfl⟩
        simp only [wE, hg, wD, run_eql_bool w t u v hb]
        rfl
      · rename_i hb
        cases h
        refine ⟨.bool (!(u == v)), ?_, .lit _ rfl⟩
        simp only [wE, hg, wD, run_neq_bool w t u v hb]
        rfl
      · cases h
    · rename_i u v _ hu hv
      rw [zCK J I hu, zCK J I hv]
      cases hr : binV op u v with
      | none => grind
      | some r =>
        rw [hr] at h
        cases h
        refine ⟨r, ?_, zF9 s r⟩
        rw [wE, binV_run hr P w t x y]
        rfl
    · cases h
  | unOp op t x =>
    dsimp only [execOp]
    unfold valF at h
    simp only at h
    split at h
    · rename_i u hu
      rw [zCK J I hu]
      cases hr : unV op u with
      | none => grind
      | some r =>
        rw [hr] at h
        cases h
        refine ⟨r, ?_, zF9 s r⟩
        rw [wE, zJz hr P w]
        rfl
    · cases h
  | convert ζ α x =>
    dsimp only [execOp]
    unfold valF cvF at h
    simp only at h
    split at h
    · rename_i _ k _ n Z h2 h3
      cases h
      rw [zCK J I h3]
      refine ⟨.int k (k.wrap n), ?_, zF9 s _⟩
      simp [convert, run_underlying Z, run_underlying h2, Conv.intToInt]
    · rename_i b Z h2 h3
      cases h
      rw [zCK J I h3]
      refine ⟨.string b, ?_, zF9 s _⟩
      simp [convert, run_underlying Z, run_underlying h2]
    · cases h
  | extract x i =>
    dsimp only [execOp]
    unfold valF at h
    simp only at h
    have hx := qA J I x s
    split at h
    · rename_i l hl
      rw [hl] at hx
      obtain ⟨vs, e, Z, h2⟩ := hx
      cases hi : l[i]? with
      | none => grind
      | some z =>
        rw [hi] at h
        cases h
        obtain ⟨u, h3, U⟩ := h2 i z hi
        refine ⟨u, ?_, ?_⟩
        · rw [e]
          simp [Instr.extract, h3]
        · -- a copy owns nothing
          have hz : ∃ z', z = cpT z' := by
            unfold cpO at hl
            split at hl
            · split at hl
              · grind
              · cases hl
              · rename_i t _ _ _
                cases hS : M t with
                | tup l' =>
                  rw [hS] at hl
                  injection hl with hl
                  grind
                | _ => rw [hS] at hl; cases hl
            · unfold litA at hl; grind
            all_goals grind
          obtain ⟨z', rfl⟩ := hz
          show RepT m w o (s, 0) (cpT z') u
          cases z' with
          | d x => exact U
          | agg l => exact U
          | own E k l => exact U
          | ptr j off => exact U
          | view j off E k n => exact U
          | hpt c off => exact U
          | opt t p => exact U
          | mpt c => exact U
          | ags l1 ε => exact U
          | xs E k l rv => (first | exact h | exact hr | exact k2 | exact k3 | exact U | exact h5 | exact id | trivial | (cases hp; done) | (cases hx; done) | (cases hl; done) | (obtain ⟨A1, c1, β, e1, _⟩ := h; subst e1; rfl) | (obtain ⟨A1, c1, β, e1, _⟩ := hr; subst e1; rfl) | rfl)
          | any => exact U
          | hvw c off E k n => exact U
    · cases h
  | load t x =>
    dsimp only [execOp]
    obtain ⟨v, Z, h2⟩ := zR9 (P := P) J I (t := t) (x := x) (y := y) h s
    exact ⟨v, by rw [wE, Z]; rfl, h2⟩
  | fieldAddr t x f =>
    dsimp only [execOp]
    obtain ⟨v, Z, h2⟩ := fdF_rep (P := P) J I (t := t) (x := x) (f := f) (y := y) h s
    exact ⟨v, by rw [wE, Z]; rfl, h2⟩
  | indexAddr t x i =>
    dsimp only [execOp]
    obtain ⟨v, Z, h2⟩ := ixF_rep (P := P) J I (t := t) (x := x) (i := i) (y := y) h s
    exact ⟨v, by rw [wE, Z]; rfl, h2⟩
  | nilCheck x =>
    dsimp only [execOp]
    unfold valF at h
    simp only at h
    have hx := qA J I x s
    split at h
    · rename_i l hl
      cases h
      rw [hl] at hx
      have W := hx
      obtain ⟨g, p, e, _⟩ := hx
      refine ⟨_, ?_, W⟩
      rw [e]
      rfl
    · rename_i b off hl
      cases h
      rw [hl] at hx
      have W := hx
      obtain ⟨g, _, e, _⟩ := hx
      refine ⟨_, ?_, W⟩
      rw [e]
      rfl
    · rename_i c off hl
      cases h
      rw [hl] at hx
      have W := hx
      obtain ⟨g, _, e⟩ := hx
      refine ⟨_, ?_, W⟩
      rw [e]
      rfl
    · rename_i t i hl
      cases h
      rw [hl] at hx
      rcases hx with ⟨e1, _⟩ | ⟨i', e1, g, Z, e⟩
      · cases e1
      · cases e1
        refine ⟨_, ?_, ⟨g, Z, rfl⟩⟩
        rw [e]
        rfl
    · cases h
  | call c =>
    dsimp only [execOp]
    unfold valF at h
    split at h <;> try (rename_i hh; cases hh; done)
    all_goals try (cases h; done)
    rename_i x t hc
    cases hc
    cases hr : lnF P M t x with
    | none => grind
    | some r =>
      rw [hr] at h
      cases h
      refine ⟨r, ?_, zF9 s r⟩
      simp only [resolve, invoke, builtin, wE, wU, wD, vA, vB, uB]
      rw [lnF_run (P := P) J I hr]
      rfl
  | _ => cases h
end
abbrev Eff:=List (Nat×A)
def app(S:Nat->A)(e:Eff):Nat->A:=e.foldl (λS x=>upd S x.1 x.2) S
def OpOK(P:Program)(pins:List Nat)(N:Nat)(op:Oper)(S S':Nat->A):Prop:=
 ∀(w0:World) (m0:Mem) (o0:OwnM) (G:GD) (a:Act) (w:World) (m:Mem) (o:OwnM),a.tmps.size=N->Inv w0 m0 o0 G pins S a w m o->
  ∀(K:Act->World->Prop) (Q:Exit->Act->World->Prop),(∀u w' m' o',u.tmps.size=N->Inv w0 m0 o0 G pins S' u w' m' o'->K u w')->op.wp P a w K Q
def okD(N:Nat)(pins:List Nat)(S:Nat->A)(d:Nat):Bool:=decide (d<N)&& !(S d).isBox&& !pins.contains d
theorem zS{N:Nat}{pins:List Nat}{S:Nat->A}{d:Nat}(h:okD N pins S d=true):d<N/\(S d).isBox=false/\d∉pins:=by unfold okD at h;grind
section
variable {w0:World}{m0:Mem}{o0:OwnM}{G:GD}{pins:List Nat}{S M:Nat->A}{a:Act}{w:World}{m:Mem}{o:OwnM}{P:Program}{N:Nat}
theorem zL{op:Oper}{S':Nat->A}
(h:∀(w0:World) (m0:Mem) (o0:OwnM) (G:GD) (a:Act) (w:World) (m:Mem) (o:OwnM),a.tmps.size=N->Inv w0 m0 o0 G pins S a w m o->∃v w' m' o',(execOp a.eval op).run P w= .ok (.value v) w'/\Inv w0 m0 o0 G pins S' (a.put op.dst v) w' m' o'):OpOK P pins N op S S':=by
 intro w0 m0 o0 G a w m o u I K Q U
 obtain⟨v,w',m',o',Z,J⟩:=h w0 m0 o0 G a w m o u I
 unfold Oper.wp
 rw[Z]
 exact U _ _ _ _ (by rw[zCW,u]) J
theorem zJ3{op:Oper}{S':Nat->A}(hd:op.dst=none)
(h:∀(w0:World) (m0:Mem) (o0:OwnM) (G:GD) (a:Act) (w:World) (m:Mem) (o:OwnM),a.tmps.size=N->Inv w0 m0 o0 G pins S a w m o->∃w' m' o',(execOp a.eval op).run P w= .ok .skip w'/\Inv w0 m0 o0 G pins S' a w' m' o'):OpOK P pins N op S S':=by
 intro w0 m0 o0 G a w m o u I K Q U
 obtain⟨w',m',o',Z,J⟩:=h w0 m0 o0 G a w m o u I
 unfold Oper.wp
 rw[Z]
 show K (a.put op.dst undef) w'
 rw[hd]
 exact U _ _ _ _ u J
theorem zOc(U:Mk M S){op:Oper}{d:Nat}(hd:op.dst=some d)(u:okD N pins S d=true){y:A}(h:valF P M op.op=some y):OpOK P pins N op S (upd S d y):=by refine zL λw0 m0 o0 G a w m o hN I=> ?_;obtain⟨Z,J,W⟩:=zS u;obtain⟨v,hv,hr⟩:=valF_run U I op h d;refine⟨v,w,m,o,hv,?_⟩;rw[hd];refine I.set d y v (by omega) J ?_;(cases y with|ref b off=>obtain⟨g,k1,k2,k3⟩:=hr;refine⟨g,k1,k2,λhb=> ?_⟩;obtain⟨l,k3⟩:=k3 hb;(have:b≠d:=λe=>by subst e;rw[k3]at J;cases J);exact⟨l,by rw[zE this,k3]⟩|_=>exact hr)
theorem take_inv(I:Inv w0 m0 o0 G pins S a w m o){s d E k:Nat}{l:List (List D)}(hs:S s= .t (.own E k l))(δ:s≠d)(η:s∉pins)(hd:d<a.tmps.size)(α:(S d).isBox=false)(β:d∉pins):
 ∃m' o',Inv w0 m0 o0 G pins (upd (upd S s (.t (.d (.seq k l)))) d (.t (.own E k l))) (a.put (some d) (a.tmps.getD s undef)) w m' o':=by
 have U:zJO m w o (s,0) E k l (a.tmps.getD s undef):=by have:=I.slots s;rw[hs]at this;exact this
 have θ:s<OB:=by rcases wY s a.tmps.size with h|h;exact wO h I.wide;(obtain⟨A',cap,xs,e,_⟩:=U;rw[wM,uE h]at e;cases e)
 have I1:=I.degrade s (by rw[hs];rfl)
 rw[hs]at I1
 obtain⟨o1,I2,ζ⟩:=I1.drop s η θ (x:= .seq k l) (by simp[upd,cpA,cpT])
 have J:(upd S s (cpA (.t (.own E k l))) d).isBox=false:=by rw[zE (Ne.symm δ)];exact α
 obtain⟨A',cap,xs,e,W,h2,h3,h4⟩:=U
 rw[e]
 rcases zRg (w:=w) (e:=E) (sz:=k) (n:=l.length) (c:=cap) (xs:=xs) (by rw[e]at W;exact W)with rfl|⟨g,q,rfl⟩
 · refine⟨m,o1,I2.set d _ _ hd J ⟨none,cap,xs,rfl,by rw[e]at W;exact W,λg hg=>(by cases hg),h3,h4⟩⟩
 · obtain⟨hg,hm⟩:=h2 g rfl;have γ:=I.lt g _ hg;refine⟨_,_,I2.own_put d _ _ (λp=>m g p) g w hd J β (λl hl=> ?_) (I.own g _ hg) (Same.refl _ _) γ (λp u h=>h) (λp u h=>I.sat g p u h) ?_⟩;(obtain⟨k1,k2⟩:=ζ g l hl;rw[hg]at k2;injection k2 with k2;exact absurd (by rw[<-k2]) k1);((have ε:newM m g (λp=>m g p)=m:=by funext b p;unfold newM;split;rename_i e;rw[e];rfl);rw[ε];exact⟨some ⟨g,q,none⟩,cap,xs,rfl,by rw[e]at W;exact W,λg' Z=>by injection Z with Z;subst Z;exact⟨zAO _ _ _,hm⟩,h3,h4⟩)
theorem ok_take{op:Oper}{s d E k:Nat}{l:List (List D)}(W:op.op= .move (.tmp s)\/op.op= .assign (.tmp s))(hd:op.dst=some d)(u:okD N pins S d=true)(hs:S s= .t (.own E k l))(Z:s≠d)(U:s∉pins):
 OpOK P pins N op S (upd (upd S s (.t (.d (.seq k l)))) d (.t (.own E k l))):=by
 refine zL λw0 m0 o0 G a w m o hN I=> ?_
 obtain⟨h1,h2,h3⟩:=zS u
 obtain⟨m',o',J⟩:=take_inv I hs Z U (by omega) h2 h3
 refine⟨_,w,m',o',?_,by rw[hd];exact J⟩
 unfold execOp
 rcases W with e|e<;>(rw[e];rfl)
theorem ok_box(W:Mk M S){op:Oper}{d E:Nat}{x:Operand}(U:op.op= .box E x)(hd:op.dst=some d)(u:okD N pins S d=true){l:List T}(h:zGs (cpO M x)=some l):OpOK P pins N op S (upd S d (.box l)):=by refine zL λw0 m0 o0 G a w m o hN I=> ?_;obtain⟨h1,Z,h3⟩:=zS u;obtain⟨m',o',J⟩:=box_ok I E (by omega) Z h3 (qA W I x 0) h;refine⟨_,_,m',o',?_,by rw[hd];exact J⟩;unfold execOp;rw[U];simp only[wE,zQp,wD];rfl
theorem ok_alloc{op:Oper}{d E:Nat}(U:op.op= .alloc E)(hd:op.dst=some d)(u:okD N pins S d=true){i:TypeInfo}{z:Value}(hi:P.info? E=some i)(hz:i.zero=some z){l:List T}(h:zGs (litA z)=some l):OpOK P pins N op S (upd S d (.box l)):=by refine zL λw0 m0 o0 G a w m o hN I=> ?_;obtain⟨h1,Z,W⟩:=zS u;obtain⟨m',o',J⟩:=box_ok I E (by omega) Z W (zF9 0 z) h;refine⟨_,_,m',o',?_,by rw[hd];exact J⟩;unfold execOp;rw[U];simp[Instr.alloc,zeroValue,typeInfo,hi,hz,newVar,newRow]
theorem ok_bsl(hM:Mk M S){op:Oper}{d t e sz nb n:Nat}{u:List (Nat×Operand)}(α:op.op= .buildSlice t n u.toArray)(hn:n=u.length)(hd:op.dst=some d)(U:okD N pins S d=true)(W:elF P t=some (e,sz,nb)){l:List (List D)}
(h:zT5 M sz 0 u=some l)(Z:u≠[])(hb:u.length*sz<=16777216):OpOK P pins N op S (upd S d (.t (.own e sz l))):=by
 subst hn
 refine zL λw0 m0 o0 G a w m o hN I=> ?_
 obtain⟨h1,h2,h3⟩:=zS U
 obtain⟨v,w',m',o',hr,J⟩:=bsl_ok hM I (zMv W) (by omega) h2 h3 h Z hb
 refine⟨v,w',m',o',?_,by rw[hd];exact J⟩
 unfold execOp
 simp_all
theorem ok_str(hM:Mk M S){op:Oper}{d Z u e:Nat}{x:Operand}(α:op.op= .convert Z u x)(hd:op.dst=some d)(W:okD N pins S d=true)(hs:P.underlying Z=some .string)(U:P.underlying u=some (.slice e))(he:P.underlying e=some (.int .u8)){s:ByteArray}
(h:vO M x=some (.string s))(β:s.size<=maxLen):OpOK P pins N op S (upd S d (.t (.d (.seq 1 (qV s.data.toList))))):=by
 refine zL λw0 m0 o0 G a w m o hN I=> ?_
 obtain⟨h1,h2,h3⟩:=zS W
 obtain⟨v,w',m',o',hr,J⟩:=str_ok (P:=P) I hs U he s β (by omega) h2 h3
 refine⟨v,w',m',o',?_,by rw[hd];exact J⟩
 unfold execOp
 rw[α]
 simp only[wE]
 rw[zCK hM I h,hr]
 rfl
theorem ok_app(hM:Mk M S){op:Oper}{d s t e sz nb:Nat}{y:Operand}(α:op.op= .call {callee:= .builtin .append,args:= #[.tmp s,y],argTypes:= #[t,t]})(hd:op.dst=some d)(ε:okD N pins S d=true)(hE:elF P t=some (e,sz,nb))
{l l':List (List D)}(hs:M s= .t (.own e sz l))(W:s≠d)(ζ:s∉pins)(δ:slD sz (dO M y)=some l')(hb:(l.length+l'.length)*nb<=140737488355328):
 OpOK P pins N op S (upd (upd S s (.t (.d (.seq sz l)))) d (.t (.own e sz (l++l')))):=by
 refine zL λw0 m0 o0 G a w m o hN I=> ?_
 obtain⟨h1,h2,h3⟩:=zS ε
 have hS:S s= .t (.own e sz l):=by rcases hM s with k|k;rw[k]at hs;cases hs;rw[<-k];exact hs
 have u:zJO m w o (s,0) e sz l (a.tmps.getD s undef):=by have:=I.slots s;rw[hS]at this;exact this
 have β:RepD m (.seq sz l') (a.eval y):=zJS δ λd hd=>zG2 hM I hd
 have η:s<OB:=by rcases wY s a.tmps.size with h|h;exact wO h I.wide;(obtain⟨A',cap,xs,e,_⟩:=u;rw[wM,uE h]at e;cases e)
 have I1:=I.degrade s (by rw[hS];rfl)
 rw[hS]at I1
 obtain⟨o1,I2,γ⟩:=I1.drop s ζ η (x:= .seq sz l) (by simp[upd,cpA,cpT])
 obtain⟨A',cap,xs,e1,k1,k2,k3,k4⟩:=u
 have U:zIl m sz l xs:=⟨k1.1,k3,k4⟩
 rw[e1]at k1
 obtain⟨v,w',m',o',hr,J⟩:=app_ok (d:=d) I2 (zMv hE) (.inl rfl) op.type (by omega) (by rw[zE (Ne.symm W)];exact h2) h3 k1 U (λg hg=>by obtain⟨q1,q2⟩:=k2 g hg;refine⟨λl hl=> ?_,I.own g _ q1,I.lt g _ q1,q2⟩;obtain⟨z1,Z⟩:=γ g l hl;rw[q1]at Z;injection Z with Z;exact absurd (by rw[<-Z]) z1) β hb
 refine⟨v,w',m',o',?_,by rw[hd];exact J⟩
 unfold execOp
 rw[α]
 simp only[resolve,invoke,builtin,wE,wU,wD,vA,vB,uB]
 rw[show a.eval (.tmp s)= .slice A' l.length cap from e1,hr]
 rfl
theorem ok_app0(hM:Mk M S){op:Oper}{d t e sz nb:Nat}{x y:Operand}(W:op.op= .call {callee:= .builtin .append,args:= #[x,y],argTypes:= #[t,t]})(hd:op.dst=some d)(U:okD N pins S d=true)(hE:elF P t=some (e,sz,nb))
{l':List (List D)}(hs:vO M x=some (.slice none 0 0))(Z:slD sz (dO M y)=some l')(hb:l'.length*nb<=140737488355328):
 OpOK P pins N op S (upd S d (.t (.own e sz l'))):=by
 refine zL λw0 m0 o0 G a w m o hN I=> ?_
 obtain⟨h1,h2,h3⟩:=zS U
 have u:RepD m (.seq sz l') (a.eval y):=zJS Z λd hd=>zG2 hM I hd
 obtain⟨v,w',m',o',hr,J⟩:=app_ok (d:=d) (l:=[]) I (zMv hE) (.inl rfl) op.type (by omega) h2 h3 (zF3 (tM w 0 e sz)) ⟨by simp,λi r h=>by simp at h,λi r j d h=>by simp at h⟩ (λg hg=>by cases hg) u (by grind)
 refine⟨v,w',m',o',?_,by rw[hd];exact J⟩
 unfold execOp
 rw[W]
 simp only[resolve,invoke,builtin,wE,wU,wD,vA,vB,uB]
 rw[zCK hM I hs]
 simp only[uR]at hr
 rw[hr]
 rfl
theorem ok_call(hM:Mk M S){op:Oper}{d f:Nat}{xs:List Operand}{ts:Array TypeId}{fx:Operand}(hop:op.op= .call {callee:= .value fx,args:=xs.toArray,argTypes:=ts})(hfx:vO M fx=some (.func (.func f) #[] #[]))(hd:op.dst=some d)(hok:okD N pins S d=true){fn:Func}(hfn:P.funcs[f]? =some fn)(hbody:fn.body.isNone=false)(hname:(fn.name== "runtime.NumGoroutine")=false)
{args:List A}{r:A}(hargs:zKc (xs.map (cpO M)) args)(hp:args.all A.plain=true)(hf:FC P f args [] r)(hnr:r.noRef=true):OpOK P pins N op S (upd S d r):=by
 intro w0 m0 o0 G a w m o hN I K Q hK
 obtain⟨h1,h2,h3⟩:=zS hok
 have key:∀(xs:List Operand) (args:List A),zKc (xs.map (cpO M)) args->(xs.map a.eval).length=args.length/\∀i x,args[i]? =some x->∃s,RepA m w o S s x ((xs.map a.eval).getD i undef):=by intro xs;(induction xs with|nil=>intro args h;cases h;exact⟨rfl,λi x h=>by simp at h⟩|cons y ys ih=>intro args h;(cases h with|cons hx ht=>obtain⟨k1,k2⟩:=ih _ ht;refine⟨by simpa using k1,λi x hi=> ?_⟩;(cases i with|zero=>injection hi with hi;subst hi;exact⟨0,hx.rep I.sat (qA hM I y 0)⟩|succ i=>simpa using k2 i x (by simpa using hi))))
 obtain⟨k1,k2⟩:=key xs args hargs
 have hc:=zPe I hf hp (vals:=(xs.map a.eval).toArray) (by simpa using k1) (λi x hi=>by simpa using k2 i x hi) (d:=d) (by omega) h2 h3 hnr
 unfold Oper.wp
 have hrun:(execOp a.eval op).run P w= .ok (.enter f (xs.map a.eval).toArray) w:=by unfold execOp;rw[hop];simp only[resolve,zCK hM I hfx,Deferred.ofValue,vA];(have hb:fn.body≠none:=λe=>by rw[e]at hbody;cases hbody);(have hn:fn.name≠ "runtime.NumGoroutine" :=λe=>by rw[e]at hname;simp at hname);simp[invoke,callFunc,hfn,hn,hb]
 rw[hrun]
 refine Calls.mono hc ?_
 rintro e w' ⟨u,m',o',rfl,J⟩
 rw[<-hd]at J
 exact hK _ _ _ _ (by rw[zCW,hN]) J
end
def qZ{α:Type}(l:List α)(off:Nat)(c:List α):List α:=l.take off++c++l.drop (off+c.length)
theorem zBl{α:Type}(l:List α)(off:Nat)(c:List α)(h:off+c.length<=l.length):(qZ l off c).length=l.length:=by unfold qZ;grind
theorem zDz{α:Type}(l:List α)(off:Nat)(c:List α)(h:off+c.length<=l.length)(k:Nat):(qZ l off c)[k]? =if off<=k/\k<off+c.length then c[k-off]? else l[k]? :=by unfold qZ;by_cases u:k<off;(all_goals grind)
def fillD(M:Nat->A)(u:Nat->Option (Nat×Nat)):List D->List (Nat×Operand)->Option (List D)
 |ds,[]=>some ds
 |ds,(i,x)::r=>match u i,zRP (cpO M x)with|some (off,size),some c=>if c.length=size/\off+size<=ds.length then fillD M u (qZ ds off c) r else none|_,_=>none
def zP3(P:Program)(t:TypeId):Option (Nat->Option (Nat×Nat)):=match P.underlying t with
 |some (.struct u)=>(u.toList.mapM (λf=>(P.info? f.type).map λi=>(f.offset,i.size))).map λl=>(l[·]?)
 |some (.array _ e)=>(P.info? e).map λi=>λk=>some (k*i.size,i.size)
 |_=>none
def bdF(P:Program)(M:Nat->A)(t:TypeId)(I:List (Nat×Operand)):Option A:=match P.info? t with
 |some it=>match it.zero,zP3 P t with
  |some z,some u=>match z with
   | .agg J=>if J.toList.all (·.oneCell')then(fillD M u (J.toList.map .lit) I).map λl=> .t (.agg l)else none
   |_=>none
  |_,_=>none
 |none=>none
section
variable {w0:World}{m0:Mem}{o0:OwnM}{G:GD}{pins:List Nat}{S M:Nat->A}{a:Act}{w:World}{m:Mem}{o:OwnM}{P:Program}{N:Nat}
theorem zQ1(hM:Mk M S)(I:Inv w0 m0 o0 G pins S a w m o){U:Nat->Option (Nat×Nat)}:∀(J:List (Nat×Operand)) (ds Z:List D) (cells:Array Value),fillD M U ds J=some Z->RepL m ds cells.toList->
 ∃u,Instr.fill U cells (J.map λx=>(x.1,a.eval x.2))=some u/\RepL m Z u.toList
 |[],ds,Z,cells,h,hr=>by injection h with h;subst h;exact⟨cells,rfl,hr⟩
 |(i,x)::r,ds,Z,cells,h,hr=>by unfold fillD at h;split at h;(rename_i off size c hp hc;split at h;(rename_i δ;have hx:=zMj hc (qA hM I x 0);(have W:(a.eval x).cells.size=size:=by have:=hx.1;simp at this;omega);(have γ:ds.length=cells.size:=by have:=hr.1;simpa using this.symm);obtain⟨g1,g2⟩:=Great.foldl_set off (a.eval x).cells.toList 0 cells;(have β:RepL m (qZ ds off c) (((a.eval x).cells.toList.zipIdx 0).foldl (λcs (x:Value×Nat)=>cs.setIfInBounds (off+x.2) x.1) cells).toList:=by refine⟨by simp only[vM];rw[g1,zBl _ _ _ (by omega),γ],λj d hj=> ?_⟩;rw[zDz _ _ _ (by omega)]at hj;rw[tU,g2 j];simp only[uP,vM,W];split at hj;(rename_i α;rw[if_pos (by omega)];exact hx.2 _ d hj);(rename_i α;rw[if_neg (by omega)];have:=hr.2 j d hj;grind));obtain⟨u,h1,h2⟩:=zQ1 hM I r _ Z _ h β;refine⟨u,?_,h2⟩;rw[vB];unfold Instr.fill;simp only[hp,W];rw[if_neg (by grind),<-h1];congr 1;rw[<-Array.foldl_toList,Array.toList_zipIdx]);cases h);cases h
theorem bdF_run(hM:Mk M S)(I:Inv w0 m0 o0 G pins S a w m o){t:TypeId}{J:List (Nat×Operand)}{y:A}(h:bdF P M t J=some y):∀s,∃v,(Instr.build t (J.map λx=>(x.1,a.eval x.2)).toArray).run P w= .ok v w/\RepA m w o S s y v:=by intro s;unfold bdF at h;split at h;(case h_2=>cases h);rename_i it β;split at h;(case h_2=>cases h);rename_i z W hz hp;split at h;(case h_2=>cases h);rename_i cs;split at h;(case isFalse=>cases h);rename_i α;(cases hf:fillD M W (cs.toList.map .lit) J with|none=>grind|some ε=>rw[hf]at h;cases h;(have δ:RepL m (cs.toList.map .lit) cs.toList:=by refine⟨by simp,λj d hj=> ?_⟩;rw[wH]at hj;(cases hu:cs.toList[j]? with|none=>grind|some u=>rw[hu]at hj;cases hj;exact⟨u,rfl,.lit u (wG.1 α u (wC hu))⟩));obtain⟨U,h1,h2⟩:=zQ1 hM I J _ ε cs hf δ;refine⟨.agg U,run_build w t _ U ?_,U,rfl,h2⟩;unfold Program.built;unfold zP3 at hp;split at hp;(rename_i Z hu;rw[β,hu];simp only[hz];(cases hq:Z.toList.mapM (λf=>(P.info? f.type).map λi=>(f.offset,i.size))with|none=>grind|some γ=>rw[hq]at hp;cases hp;simp only[Value.cells];rw[<-h1];congr 1;grind));(rename_i n e hu;rw[β,hu];simp only[hz];(cases hq:P.info? e with|none=>grind|some ie=>rw[hq]at hp;cases hp;exact h1));grind)
theorem bdF_shape{t:TypeId}{u:List (Nat×Operand)}{y:A}(h:bdF P M t u=some y):∃ds,y= .t (.agg ds):=by unfold bdF at h;split at h;(case h_2=>cases h);split at h;(case h_2=>cases h);split at h;(case h_2=>cases h);split at h;(case isFalse=>cases h);obtain⟨ds,_,e⟩:=Option.map_eq_some_iff.1 h;grind
theorem ok_build(Z:Mk M S){op:Oper}{d t:Nat}{u:List (Nat×Operand)}(W:op.op= .build t u.toArray)(hd:op.dst=some d)(J:okD N pins S d=true){y:A}(h:bdF P M t u=some y):OpOK P pins N op S (upd S d y):=by refine zL λw0 m0 o0 G a w m o hN I=> ?_;obtain⟨h1,U,h3⟩:=zS J;obtain⟨v,hv,hr⟩:=bdF_run Z I h d;refine⟨v,w,m,o,?_,?_⟩;(unfold execOp;simp_all);(rw[hd];refine I.set d y v (by omega) U ?_;obtain⟨ds,rfl⟩:=bdF_shape h;exact hr)
def T.cell:T->Bool
 | .own _ _ _| .agg _| .ags _ _| .xs _ _ _ _=>false
 |_=>true
def zDS:A->Option (List T)
 | .t (.d x)=>some [.d x]
 | .t (.agg l)=>some (l.map .d)
 | .ref b off=>if OB<=b then some [.ptr (b-OB) off]else none
 | .t (.view j off E k n)=>some [.view j off E k n]
 | .t (.hpt c off)=>some [.hpt c off]
 | .t (.opt t p)=>some [.opt t p]
 | .t (.hvw c off E k n)=>some [.hvw c off E k n]
 | .t (.mpt j)=>some [.mpt j]
 | .ag l=>if l.all T.cell then some l else none
 |_=>none
theorem zFI{s:Nat}{y:A}{v:Value}{l:List T}(hl:zDS y=some l)(hy:RepA m w o S s y v):v.cells.toList.length=l.length/\(∀u∈v.cells.toList,u.oneCell'=true)/\∀(j:Nat) (x:T),l[j]? =some x->x.isAgg=false/\∃u,v.cells.toList[j]? =some u/\∀(w':World) (loc:Nat×Nat),(∀g,zBc w w' g)->RepT m w' o loc x u:=by(have one:∀u:Value,v.cells= #[u]->u.oneCell'=true->∀x:T,l=[x]->x.isAgg=false->(∀(w':World) (loc:Nat×Nat),(∀g,zBc w w' g)->RepT m w' o loc x u)->v.cells.toList.length=l.length/\(∀u∈v.cells.toList,u.oneCell'=true)/\∀(j:Nat) (x:T),l[j]? =some x->x.isAgg=false/\∃u,v.cells.toList[j]? =some u/\∀(w':World) (loc:Nat×Nat),(∀g,zBc w w' g)->RepT m w' o loc x u:=by intro u hv J x e ha hr;subst e;rw[hv];refine⟨rfl,λu' hu=>by simp at hu;subst hu;exact J,λj y I=> ?_⟩;(cases j with|zero=>injection I with I;subst I;exact⟨ha,u,rfl,hr⟩|succ j=>grind));(cases y with|t z=>(cases z with|d x=>injection hl with hl;have hy:RepD m x v:=hy;exact one v hy.cells hy.one (.d x) hl.symm rfl λ_ _ _=>hy|agg ds=>injection hl with hl;subst hl;obtain⟨vs,e,h⟩:=hy;subst e;refine⟨by rw[wL];exact h.1,λu hu=> ?_,λj x I=> ?_⟩;(obtain⟨j,I⟩:=uG hu;(have Z:j<ds.length:=by rw[<-h.1];exact(wB.1 I).1);obtain⟨u',J,U⟩:=h.2 j _ (wF Z);have I:vs.toList[j]? =some u:=I;rw[J]at I;injection I with I;subst I;exact U.one);(rw[wH]at I;(cases hd:ds[j]? with|none=>grind|some e=>rw[hd]at I;injection I with I;subst I;obtain⟨u,J,U⟩:=h.2 j e hd;exact⟨rfl,u,J,λ_ _ _=>U⟩))|own E k l=>cases hl|ags l1 β=>cases hl|xs E k l rv=>(first|exact h|exact hr|exact k2|exact k3|exact h4|exact h5|exact id|trivial|(cases hp;done)|(cases hx;done)|(cases hl;done)|(obtain⟨A1,c1,W,e1,_⟩:=h;subst e1;rfl)|(obtain⟨A1,c1,W,e1,_⟩:=hr;subst e1;rfl)|rfl)|any=>cases hl|ptr j off=>cases hl|view j off E k n=>injection hl with hl;have α:=hy;obtain⟨A',c,J,U,h3,h4⟩:=hy;subst h3;exact one _ rfl rfl (.view j off E k n) hl.symm rfl λw2 loc hs=>zEt (m:=m) (m':=m) (o:=o) (loc:=(0,0)) (λ_ _ h=>h) (λg _ _=>hs g) α|hpt c off=>injection hl with hl;obtain⟨g,J,U⟩:=hy;subst U;exact one _ rfl rfl (.hpt c off) hl.symm rfl λ_ _ _=>⟨g,J,rfl⟩|opt t p=>injection hl with hl;rcases hy with⟨J,U⟩|⟨i,e,g,J,U⟩;(subst U;exact one _ rfl rfl (.opt t p) hl.symm rfl λ_ _ _=> .inl ⟨J,rfl⟩);(subst U;exact one _ rfl rfl (.opt t p) hl.symm rfl λ_ _ _=> .inr ⟨i,e,g,J,rfl⟩)|mpt c=>injection hl with hl;obtain⟨g,J,U⟩:=hy;subst U;exact one _ rfl rfl (.mpt c) hl.symm rfl λ_ _ _=>⟨g,J,rfl⟩|hvw c off E k n=>injection hl with hl;have α:=hy;obtain⟨A',q,J,U,h3,h4⟩:=hy;subst h3;exact one _ rfl rfl (.hvw c off E k n) hl.symm rfl λw2 loc hs=>zH1 (m:=m) (m':=m) (o:=o) (loc:=(0,0)) (λ_ _ h=>h) (λg _ _=>hs g) α)|ref b off=>have hl:(if OB<=b then some [T.ptr (b-OB) off]else none)=some l:=hl;split at hl;(case isFalse=>cases hl);rename_i hb;injection hl with hl;obtain⟨g,J,U,_⟩:=hy;subst U;refine one _ rfl rfl (.ptr (b-OB) off) hl.symm rfl λ_ _ _=>⟨g,?_,rfl⟩;grind|ag ls=>have hl:(if ls.all T.cell then some ls else none)=some l:=hl;split at hl;(case isFalse=>cases hl);rename_i hc;injection hl with hl;subst hl;obtain⟨vs,e,J,U⟩:=hy;subst e;refine⟨(show vs.toList.length=ls.length by simpa using J),λu hu=> ?_,λj x I=> ?_⟩;(obtain⟨j,I⟩:=uG hu;have I:vs.toList[j]? =some u:=I;(have Z:j<ls.length:=by rw[<-J];simpa using(wB.1 I).1);obtain⟨u',k1,k2,_⟩:=U j _ (wF Z);grind);(have hx:=wG.1 hc x (wC I);obtain⟨u,k1,k2,k3⟩:=U j x I;refine⟨(by cases x<;>first|rfl|(cases hx;done)),u,(show vs.toList[j]? =some u by simpa using k1),λw' loc hs=> ?_⟩;(cases x with|d x=>exact k3|own E k l=>cases hx|agg l=>cases hx|ptr j off=>exact k3|hpt c off=>exact k3|opt t p=>exact k3|mpt c=>exact k3|ags l1 β=>cases hx|xs E k l rv=>(first|exact h|exact hr|exact k2|exact k3|exact h4|exact h5|exact id|trivial|(cases hp;done)|(cases hx;done)|(cases hl;done)|(obtain⟨A1,c1,W,e1,_⟩:=h;subst e1;rfl)|(obtain⟨A1,c1,W,e1,_⟩:=hr;subst e1;rfl)|rfl)|any=>exact k3|view j off E k n=>exact zEt (m':=m) (λ_ _ h=>h) (λg _ _=>hs g) k3|hvw c off E k n=>exact zH1 (m':=m) (λ_ _ h=>h) (λg _ _=>hs g) k3))|_=>cases hl)
def stF(P:Program)(pins:List Nat)(M:Nat->A)(t:TypeId)(x y:Operand):Option Eff:=match cpO M x,P.info? t with
 | .ref b off,some i=>match M b with
  | .box l=>match y with
   | .tmp s=>match M s with
    | .t (.own E k u)=>if i.size=1/\off<l.length/\s≠b/\pins.contains s=false then some [(s,.t (.d (.seq k u))),(b,.box (l.set off (.own E k u)))]else none
    |_=>match zDS (cpO M (.tmp s))with
     |some c=>if c.length=i.size/\off+i.size<=l.length then some [(b,.box (qZ l off c))]else none
     |none=>none
   |y=>match zDS (cpO M y)with
    |some c=>if c.length=i.size/\off+i.size<=l.length then some [(b,.box (qZ l off c))]else none
    |none=>none
  |_=>none
 |_,_=>none
theorem zHv{t:TypeId}{i:TypeInfo}(hi:P.info? t=some i){g off:Nat}{cs:Array Value}{E:Nat}(J:w.heap[g]? =some (.cells cs E (0,0))){v:Value}(hv:v.cells.size=i.size)(Z:∀u∈v.cells.toList,u.oneCell'=true)(U:off+i.size<=cs.size):
 (Instr.storeAt t (.pointer (some ⟨g,off,none⟩)) v).run P w= .ok () (w.setRow g (qZ cs.toList off v.cells.toList).toArray):=by
 have I:=run_storeCells_at P g off E v.cells.toList 0 cs w J (by grind) Z
 simp only[uP]at I
 simp only[Instr.storeAt,Instr.sureAddr,wE,wU,wD]
 simp only[storeVar,sizeOf,typeInfo,wE,run_program,wD,hi,wU,hv]
 rw[if_neg (by simp)]
 exact I
theorem zPG(hM:Mk M S){op:Oper}{t b off:Nat}{x y:Operand}(η:op.op= .store t x y)(hd:op.dst=none){i:TypeInfo}(hi:P.info? t=some i)(hx:cpO M x= .ref b off){l:List T}(hb:M b= .box l){c:List T}(hc:zDS (cpO M y)=some c)(μ:c.length=i.size)(ξ:off+i.size<=l.length):
 OpOK P pins N op S (upd S b (.box (qZ l off c))):=by
 refine zJ3 hd λw0 m0 o0 G a w m o hN I=> ?_
 have α:=qA hM I x 0
 rw[hx]at α
 obtain⟨g,h1,e,_⟩:=α
 have β:=zTg hM hb
 have hs:=I.slots b
 rw[β]at hs
 obtain⟨g',κ,h2,h3,U,E,h4,h5,h6⟩:=hs
 have:=I.inj _ _ _ h1 h2
 subst this
 have J:=zFI hc (qA hM I y 0)
 have ζ:(a.eval y).cells.size=i.size:=by have:=J.1;simp at this;omega
 have δ:=J.2.1
 have γ:=zHv (P:=P) (w:=w) (off:=off) hi h4 ζ δ (by omega)
 have θ:(a.eval y).cells.toList.length=c.length:=J.1
 have ν:(qZ U.toList off (a.eval y).cells.toList).length=U.toList.length:=zBl U.toList off (a.eval y).cells.toList (by grind)
 refine⟨_,m,o,?_,I.box_put β h1 h4 (cs':=(qZ U.toList off (a.eval y).cells.toList).toArray) ?_ o (λ_=>False) (λs h=>h.elim) (λg l h _ _=>h) h1 (λg l h=>⟨l,h⟩) I.inj (λg l l' h h' k=>by rw[h]at h';injection h' with h';rw[h'];exact k) ?_ (λj z hj=> ?_)⟩
 · unfold execOp;rw[η];simp only[wE];rw[e,γ];rfl
 · grind
 · exact zBl l off c (by omega)
 · (have ε:(qZ U.toList off (a.eval y).cells.toList).toArray[j]? =(qZ U.toList off (a.eval y).cells.toList)[j]? :=by simp);rw[ε,zDz U.toList off (a.eval y).cells.toList (by grind)];rw[zDz l off c (by omega)]at hj;rw[θ];split at hj;(rename_i W;rw[if_pos W];obtain⟨k0,u,k1,k2⟩:=J.2.2 _ z hj;exact⟨k0,u,k1,k2 _ _ (zCP h4 (by grind))⟩);(rename_i W;rw[if_neg W];obtain⟨k0,u,k1,k2⟩:=h6 j z hj;refine⟨k0,u,by simpa using k1,?_⟩;(cases z with|d x=>exact k2|agg l=>cases k0|ptr j off=>exact k2|view j off E k n=>exact zEt (m':=m) (λ_ _ h=>h) (λg _ _=>zCP h4 (by grind) g) k2|hpt c off=>exact k2|opt t p=>exact k2|mpt c=>exact k2|ags l1 ι=>cases k0|xs E' k ls rv=>obtain⟨A',cap,xs,e1,q1,q2,q3,q4⟩:=k2;refine⟨A',cap,xs,e1,zDw q1 λg2 Z=> ?_,q2,q3,q4⟩;rw[e1,yJ]at Z;refine setRow_other w g g2 _ λe2=> ?_;grind|any=>exact k2|hvw c off E k n=>exact zH1 (m':=m) (λ_ _ h=>h) (λg _ _=>zCP h4 (by grind) g) k2|own E' k ls=>obtain⟨A',cap,xs,e1,q1,q2,q3,q4⟩:=k2;refine⟨A',cap,xs,e1,zDw q1 λg2 Z=> ?_,q2,q3,q4⟩;rw[e1,yJ]at Z;refine setRow_other w g g2 _ λe2=> ?_;grind))
theorem zMF(hM:Mk M S){op:Oper}{t b off s E' k:Nat}{W:List (List D)}{x:Operand}(τ:op.op= .store t x (.tmp s))(hd:op.dst=none){i:TypeInfo}(hi:P.info? t=some i)(φ:i.size=1)(hx:∀{w0 m0 o0 G a w m o},Inv w0 m0 o0 G pins S a w m o->∃g,o g=some (b,0)/\a.eval x= .pointer (some ⟨g,off,none⟩)){l:List T}(κ:S b= .box l)(hs:M s= .t (.own E' k W))(ρ:off<l.length)(σ:s≠b)(χ:s∉pins):
 OpOK P pins N op S (upd (upd S s (.t (.d (.seq k W)))) b (.box (l.set off (.own E' k W)))):=by
 refine zJ3 hd λw0 m0 o0 G a w m o hN I=> ?_
 obtain⟨g,h1,e⟩:=hx I
 have η:S s= .t (.own E' k W):=by rcases hM s with q|q;(all_goals grind)
 have ι:=I.slots b
 rw[κ]at ι
 obtain⟨g',hv',h2,h3,cs,E,h4,h5,h6⟩:=ι
 have:=I.inj _ _ _ h1 h2
 subst this
 have θ:zJO m w o (s,0) E' k W (a.tmps.getD s undef):=by have:=I.slots s;rw[η]at this;exact this
 have I1:=I.degrade s (by rw[η];rfl)
 rw[η]at I1
 obtain⟨A',cap,xs,e1,q1,q2,q3,q4⟩:=θ
 have ζ:a.eval (.tmp s)= .slice A' W.length cap:=e1
 have ε:=zHv (P:=P) (w:=w) (off:=off) hi h4 (v:=a.eval (.tmp s)) (by rw[ζ,φ];rfl) (by rw[ζ];intro u hu;simp[Value.cells]at hu;subst hu;rfl) (by omega)
 have δ:(a.eval (.tmp s)).cells.toList=[.slice A' W.length cap]:=by rw[ζ];rfl
 rw[δ]at ε
 let o':OwnM:=λx=>if o x=some (s,0)then some (b,off+1)else if o x=some (b,off+1)\/(o x).map (·.1)=some s then none else o x
 have α:∀x J,o x=some J->J.1≠s->J≠(b,off+1)->o' x=some J:=by grind
 have π:∀x J,o' x=some J->(o x=some (s,0)/\J=(b,off+1))\/(o x=some J/\J≠(b,off+1)):=by grind
 have ξ:(qZ cs.toList off [Value.slice A' W.length cap]).length=cs.toList.length:=zBl cs.toList off _ (by simp;omega)
 have β:s<OB:=by rcases wY s a.tmps.size with h|h;exact wO h I.wide;(rw[wM,uE h]at e1;cases e1)
 refine⟨_,m,o',?_,I1.box_put (b:=b) (l:=l) (l':=l.set off (.own E' k W)) (by rw[zE (Ne.symm σ)];exact κ) h1 h4 (cs':=(qZ cs.toList off [Value.slice A' W.length cap]).toArray) (by simpa using ξ) o' (λx=>x=s) (λx hx=> ?_) (λx J h ha hb=>α x J h ha (λe=>hb (by rw[e]))) ?_ (λx J h=> ?_) (λx y J h h'=> ?_) (λx J ψ h h' k=> ?_) (by simp) (λj z hj=> ?_)⟩
 · unfold execOp;rw[τ];simp only[wE];rw[e,ε];rfl
 · subst hx;exact⟨β,χ,.seq k W,by rw[zT];rfl⟩
 · grind
 · grind
 · rcases π x J h with⟨k1,k2⟩|⟨k1,k2⟩<;>rcases π y J h' with⟨k3,k4⟩|⟨k3,k4⟩;exact I.inj _ _ _ k1 k3;grind;grind;exact I.inj _ _ _ k1 k3
 · grind
 · (have ν:(qZ cs.toList off [Value.slice A' W.length cap]).toArray[j]? =(qZ cs.toList off [Value.slice A' W.length cap])[j]? :=by simp);rw[ν,zDz cs.toList off _ (by simp;omega)];simp only[uS,uR,vJ];rw[List.getElem?_set]at hj;by_cases μ:off=j;(subst μ;rw[if_pos rfl,if_pos ρ]at hj;cases hj;rw[if_pos ⟨wJ _,by omega⟩];refine⟨rfl,.slice A' W.length cap,by simp,A',cap,xs,rfl,zDw (by rw[<-e1];exact q1) λU Z=> ?_,λU Z=> ?_,q3,q4⟩;(rw[yJ]at Z;refine setRow_other w g U _ λe2=> ?_;grind);grind);(rw[if_neg μ]at hj;rw[if_neg (by omega)];obtain⟨k0,u,k1,k2⟩:=h6 j z hj;refine⟨k0,u,by simpa using k1,?_⟩;(cases z with|d x=>exact k2|agg l=>cases k0|ptr j2 γ=>obtain⟨U,z1,z2⟩:=k2;exact⟨U,α U _ z1 (zMu β) (λe=>by injection e with _ e;omega),z2⟩|view j2 γ E2 k2 n2=>exact zEt (m':=m) (λU j2 y1=>α U _ y1 (zMu β) (λe=>by injection e with _ e;omega)) (λU _ _=>zCP h4 (by simp[qZ];omega) U) k2|hpt c γ=>obtain⟨U,z1,z2⟩:=k2;exact⟨U,α U _ z1 (zMu β) (λe=>by injection e with _ e;omega),z2⟩|opt t p=>exact k2.imp id λ⟨i,e,U,z1,z2⟩=>⟨i,e,U,α U _ z1 (zMu β) (λe=>by injection e with _ e;omega),z2⟩|ags l1 ω=>cases k0|xs E2 k W rv=>obtain⟨A',cap,xs,e1,q1,q2,q3,q4⟩:=k2;refine⟨A',cap,xs,e1,zDw q1 λU Z=> ?_,λU Z=> ?_,q3,q4⟩;(rw[e1,yJ]at Z;refine setRow_other w g U _ λe2=> ?_;grind);grind|any=>exact k2|mpt c=>obtain⟨U,z1,z2⟩:=k2;exact⟨U,α U _ z1 (zMu β) (λe=>by injection e with _ e;omega),z2⟩|hvw c γ E2 k9 n2=>exact zH1 (m':=m) (λU j2 y1=>α U _ y1 (zMu β) (λe=>by injection e with _ e;omega)) (λU _ _=>zCP h4 (by simp[qZ];omega) U) k2|own E2 k W=>obtain⟨A',cap,xs,e1,q1,q2,q3,q4⟩:=k2;refine⟨A',cap,xs,e1,zDw q1 λU Z=> ?_,λU Z=> ?_,q3,q4⟩;(rw[e1,yJ]at Z;refine setRow_other w g U _ λe2=> ?_;grind);grind))
theorem zQ6(W:Mk M S){op:Oper}{t b off s E' k:Nat}{ls:List (List D)}{x:Operand}(α:op.op= .store t x (.tmp s))(hd:op.dst=none){i:TypeInfo}(hi:P.info? t=some i)(β:i.size=1)(hx:cpO M x= .ref b off){l:List T}(hb:M b= .box l)(hs:M s= .t (.own E' k ls))(u:off<l.length)(Z:s≠b)(U:s∉pins):
 OpOK P pins N op S (upd (upd S s (.t (.d (.seq k ls)))) b (.box (l.set off (.own E' k ls)))):=by
 refine zMF W α hd hi β (λ{w0 m0 o0 G a w m o} I=> ?_) (zTg W hb) hs u Z U
 have J:=qA W I x 0
 rw[hx]at J
 obtain⟨g,h1,e,_⟩:=J
 grind
theorem stF_ok(W:Mk M S){op:Oper}{t:Nat}{x y:Operand}(J:op.op= .store t x y)(hd:op.dst=none){I:Eff}(h:stF P pins M t x y=some I):OpOK P pins N op S (app S I):=by unfold stF at h;split at h;(case h_2=>cases h);rename_i b off i hx hi;split at h;(case h_2=>cases h);rename_i l hb;(have Z:∀y,op.op= .store t x y->∀c,zDS (cpO M y)=some c->(if c.length=i.size/\off+i.size<=l.length then some [(b,A.box (qZ l off c))]else none)=some I->OpOK P pins N op S (app S I):=by intro y J c U h;split at h;(rename_i u;cases h;exact zPG W J hd hi hx hb U u.1 u.2);cases h);split at h;(rename_i s;split at h;(rename_i E k ls hs;split at h;(rename_i U;cases h;exact zQ6 W J hd hi U.1 hx hb hs U.2.1 U.2.2.1 (by grind));cases h);grind);grind
end
def isB(l:List (List D)):Prop:=∀r,r∈l->∃n,r=[.lit (.int .u8 n)]
def numR:List D->Int|[.lit (.int _ n)]=>n|_=>0
def strD(l:List (List D)):ByteArray:=strOfNums (l.map numR)
theorem isB_bytes(x:List UInt8):isB (qV x):=by intro r hr;obtain⟨b,_,rfl⟩:=vQ.1 hr;grind
theorem zUP(x:List UInt8):strD (qV x)=⟨x.toArray⟩:=by
  unfold strD strOfNums qV
  rw[List.map_map,List.map_map]
  congr 1
  congr 1
  conv=>rhs;rw[<-List.map_id x]
  refine tE λb _=> ?_
  simp[numR]
def bndO(M:Nat->A):Option Operand->Option (Option Int)
 |none=>some none
 |some x=>match vO M x with|some (.int _ n)=>some (some n)|_=>none
def cutL(l:List (List D))(lo hi:Option Int):List (List D):=(l.take ((hi.map Int.toNat).getD l.length)).drop ((lo.map Int.toNat).getD 0)
def zT8(len:Nat)(lo hi mx:Option Int):Prop:=0<=lo.getD 0/\lo.getD 0<=hi.getD len/\hi.getD len<=mx.getD len/\mx.getD len<=len/\(mx.isSome=true->hi.isSome=true)
section
variable {w0:World}{m0:Mem}{o0:OwnM}{G:GD}{pins:List Nat}{S M:Nat->A}{a:Act}{w:World}{m:Mem}{o:OwnM}{P:Program}{N:Nat}
theorem cvB_run(Z:∀b p u,m b p=some u->w.cell? ⟨b,p,none⟩=some u){J I e:TypeId}{l:List (List D)}{v:Value}(hv:RepD m (.seq 1 l) v)(hl:isB l)(hs:P.underlying J=some (.slice e))(he:P.underlying e=some (.int .u8))(hd:P.underlying I=some .string):
 (convert J I v).run P w= .ok (.string (strD l)) w:=by
 cases hv with
  |seq _ _ A' cap g p f h1 h2 hA hw hm hr=>
   by_cases U:l=[]
   · subst U;rw[run_convert_bytes_string w J I e _ _ _ hs he hd];cases A'<;>simp[Conv.bytesToString,loadCells];(all_goals rfl)
   · rw[hA U];refine run_convert_bytes_arg w J e hs he g p l.length cap (l.map numR) (by simp) (λi W=> ?_) I hd;obtain⟨n,hn⟩:=hl l[i] (uA W);have h3:=hm i l[i] 0 (.lit (.int .u8 n)) (wF W) (by grind);have h4:=hr i l[i] 0 (.lit (.int .u8 n)) (wF W) (by grind);rw[uQ,uP]at h3;rw[Z _ _ _ h3];generalize f i 0=u at h4;cases h4;rw[wK,wH,wF W];simp[hn,numR]
theorem zGf(u:Mk M S)(I:Inv w0 m0 o0 G pins S a w m o){x:Option Operand}{n:Option Int}(h:bndO M x=some n):∃k:Int->IntKind,(x.map a.eval)=n.map (λz=>Value.int (k z) z):=by(cases x with|none=>injection h with h;subst h;exact⟨λ_=>IntKind.i64,rfl⟩|some y=>unfold bndO at h;simp only at h;split at h;(rename_i k z hy;cases h;exact⟨λ_=>k,by simp[zCK u I hy]⟩);cases h)
theorem zBu{k:IntKind}{i:Int}{y:Nat}{c:BoundsCode}(h0:0<=i)(u:i<=y):(Instr.sliceBound (.int k i) y c).run P w= .ok i.toNat w:=by simp[Instr.sliceBound,asIntOf,h0,u]
theorem cut_rep{k:Nat}{l:List (List D)}{A':Option Addr}{cap g p:Nat}{f:Nat->Nat->Value}(W:l.length<=cap)(α:cap<=maxLen)(hA:l≠[]->A'=some ⟨g,p,none⟩)(hw:∀(i:Nat) (r:List D),l[i]? =some r->r.length=k)
(hm:∀(i:Nat) (r:List D) (j:Nat) (d:D),l[i]? =some r->r[j]? =some d->m g (p+i*k+j)=some (f i j))(hr:∀(i:Nat) (r:List D) (j:Nat) (d:D),l[i]? =some r->r[j]? =some d->RepD m d (f i j)){lo hi mx:Nat}(h1:lo<=hi)(h2:hi<=l.length)(h3:hi<=mx)(h4:mx<=cap):
 RepD m (.seq k ((l.take hi).drop lo)) (.slice (if mx=lo then A' else A'.map (·.add (lo*k))) (hi-lo) (mx-lo)):=by
 have I:((l.take hi).drop lo).length=hi-lo:=by simp;omega
 have u:∀(i:Nat) (r:List D),((l.take hi).drop lo)[i]? =some r->l[lo+i]? =some r:=by intro i r h;rw[vY,vR]at h;split at h;exact h;cases h
 have:=RepD.seq (m:=m) k ((l.take hi).drop lo) (if mx=lo then A' else A'.map (·.add (lo*k))) (mx-lo) g (p+lo*k) (λi j=>f (lo+i) j) (by omega) (by omega) (λJ=> ?_) (λi r h=>hw _ r (u i r h)) (λi r j d h U=> ?_) (λi r j d h U=>hr _ r j d (u i r h) U)
 · rw[I]at this;exact this
 · (have Z:0<hi-lo:=by rw[<-I];exact uU.2 J);rw[if_neg (by omega),hA (by grind)];show some ((⟨g,p,none⟩:Addr).add (lo*k))=_;rw[Addr.add_mid]
 · have:=hm _ r j d (u i r h) U;rw[tP]at this;rw[<-this];congr 1;omega
theorem cut_run (α : ∀ b p u, m b p = some u → w.cell? ⟨b, p, none⟩ = some u) {t e : TypeId} {Z : TypeInfo} (hu : P.underlying t = some (.slice e)) (W : P.info? e = some Z) {l : List (List D)} {v : Value} (hv : RepD m (.seq Z.size l) v) {lo hi mx : Option Int} (h : zT8 l.length lo hi mx) {kl kh km : Int → IntKind} :
    ∃ v', (Instr.sliceAt t v (lo.map fun z => .int (kl z) z) (hi.map fun z => .int (kh z) z) (mx.map fun z => .int (km z) z)).run P w = .ok v' w ∧ RepD m (.seq Z.size (cutL l lo hi)) v' := by
  obtain ⟨h0, h1, h2, h3, U⟩ := h
  cases hv with
  | seq _ _ A' cap g p f I J hA hw hm hr =>
    have hb : (Instr.sliceBounds true l.length cap (lo.map fun z => .int (kl z) z) (hi.map fun z => .int (kh z) z) (mx.map fun z => .int (km z) z)).run P w = .ok ((lo.map Int.toNat).getD 0, (hi.map Int.toNat).getD l.length, (mx.map Int.toNat).getD cap) w := by
      unfold Instr.sliceBounds
      cases lo <;> cases hi <;> cases mx <;> simp only [Option.getD_none, uT, sF, uO, sX, sC] at h0 h1 h2 h3 U ⊢ <;>
        first
          | (simp at U; done)
          | (simp only [wE, wU, wD]
             repeat (rw [zBu (by omega) (by omega), wD])
             )
    refine ⟨_, ?_, cut_rep (lo := (lo.map Int.toNat).getD 0) (hi := (hi.map Int.toNat).getD l.length) (mx := (mx.map Int.toNat).getD cap) I J hA hw hm hr ?_ ?_ ?_ ?_⟩
    · unfold Instr.sliceAt
      simp only [wE, run_underlying hu, wD]
      unfold Instr.slice
      simp only [wE, run_underlying hu, wD]
      rw [hb]
      simp [sizeOf, typeInfo, W]
    all_goals (cases lo <;> cases hi <;> cases mx <;> simp at h0 h1 h2 h3 U ⊢ <;> omega)
theorem cutS_run{t:TypeId}(u:P.underlying t=some .string)(s:ByteArray){lo hi:Option Int}(h0:0<=lo.getD 0)(J:lo.getD 0<=hi.getD s.size)(I:hi.getD s.size<=s.size){kl kh:Int->IntKind}:
    (Instr.sliceAt t (.string s) (lo.map λz=> .int (kl z) z) (hi.map λz=> .int (kh z) z) none).run P w= .ok (.string (s.extract (lo.getD 0).toNat (hi.getD s.size).toNat)) w:=by
  have hb:(Instr.sliceBounds false s.size s.size (lo.map λz=> .int (kl z) z) (hi.map λz=> .int (kh z) z) none).run P w= .ok ((lo.getD 0).toNat,(hi.getD s.size).toNat,s.size) w:=by
    unfold Instr.sliceBounds
    cases lo<;>cases hi<;>simp only[Option.getD_none,uT,sF,uO,sX]at h0 J I⊢ <;>
      (simp only[wE,wU,wD]
       repeat(rw[zBu (by omega) (by omega),wD])
       )<;>simp
  unfold Instr.sliceAt
  simp only[wE,run_underlying u,wD]
  unfold Instr.slice
  simp only[wE,run_underlying u,wD]
  simp[hb]
theorem idxS_run{t:TypeId}(J:P.underlying t=some .string)(s:ByteArray){k:IntKind}{n:Int}(h0:0<=n)(Z:n<s.size):(Instr.index t (.string s) (.int k n)).run P w= .ok (.int .u8 ((s.data.toList.getD n.toNat 0).toNat:Int)) w:=by(have u:n.toNat<s.size:=by omega);(have U:s[n.toNat]? =some (s.data.toList.getD n.toNat 0):=by(have I:n.toNat<s.data.toList.length:=by simpa using u);rw[wK,wF I,uT];rw[getElem?_pos s n.toNat u];congr 1);simp[Instr.index,asIntOf,run_underlying J,h0,U]
end
def zJK(F:Fence):Prop:=F=Fence.wide\/∃l,F=Fence.wide.inRound l
section
variable {F:Fence}{n:Nat}{P:Program}
theorem zJK.wide:zJK Fence.wide:= .inl rfl
theorem zJK.inRound(l:Nat):zJK (Fence.wide.inRound l):= .inr ⟨l,rfl⟩
theorem zJK.fn(h:zJK F)(g:FuncId):F.fn g:=by rcases h with rfl|⟨l,rfl⟩<;>trivial
theorem zJK.deep(h:zJK F){p:Prop}(hd:F.depth.isSome=true):p:=by rcases h with rfl|⟨l,rfl⟩<;>cases hd
theorem zSr(h:zJK F){f:FuncId}{args:Array Value}{w:World}{R:Ending->World->Prop}(u:Calls P f args w R):CallsIn F n P f args w R:=by rcases h with rfl|⟨l,rfl⟩;exact callsIn_wide.2 u;exact CallsIn.inRound l (callsIn_wide.2 u)
theorem zUa(h:zJK F){row:String}{args:Array Value}{w:World}{R:Value->World->Prop}(u:Rows P row args w R):RowsIn F n P row args w R:=by intro c I _;obtain⟨v,w',r,s⟩:=u c I;refine⟨v,w',r,?_⟩;rcases h with rfl|⟨l,rfl⟩;exact stepsIn_wide.2 s;(rw[fenced_inRound];exact stepsIn_wide.2 s)
theorem op_in(u:zJK F){o:Oper}{a:Act}{w:World}{K:Act->World->Prop}{Q:Exit->Act->World->Prop}(h:o.wp P a w (λW w'=>W.defers=a.defers/\K W w') (λ_ _ _=>False)):o.wpIn F n P a w K Q:=by(have U:∀c,o.op≠ .defer c:=by intro c hc;unfold Oper.wp execOp at h;rw[hc]at h;simp only[wE]at h;(cases hr:(resolve a.eval c o.type).run P w with|ok d J=>rw[hr,wD,wU]at h;have h1:=h.1;(have:({a with defers:=d::a.defers}.put o.dst undef).defers=d::a.defers:=by cases o.dst<;>rfl);rw[this]at h1;have:=congrArg List.length h1;grind|halt x J=>rw[hr]at h;cases x<;>exact h.elim));unfold Oper.wpIn;refine⟨λf _=>u.fn f,?_⟩;rw[Oper.semAt_eq _ _ _ U];unfold Oper.wp at h;revert h;generalize(execOp a.eval o).run P w=r;intro h;(cases r with|ok x J=>(cases x with|value v=>exact h.2|skip=>exact h.2|defer d=>exact h.2|enter f args=>refine⟨λhd=>u.deep hd,zSr u (Calls.mono h ?_)⟩;rintro e w' I;(cases e with|returned v=>grind|panicked Z=>grind|outgrown=>obtain⟨_,_,I⟩:=I;grind)|row row args=>exact⟨λhd=>u.deep hd,zUa u (Rows.mono h λv w' I=>I.2)⟩|_=>exact h.elim)|halt x J=>cases x<;>exact h.elim)
end
section
variable {w0:World}{m0:Mem}{o0:OwnM}{G:GD}{pins:List Nat}{S M:Nat->A}{a:Act}{w:World}{m:Mem}{o:OwnM}{P:Program}{N:Nat}
theorem Inv.dropCell(I:Inv w0 m0 o0 G pins S a w m o){b off E k:Nat}{l:List T}{ls:List (List D)}(hb:S b= .box l)(hl:l[off]? =some (.own E k ls)):
  ∃o',Inv w0 m0 o0 G pins (upd S b (.box (l.set off (.d (.seq k ls))))) a w m o'/\(∀g x,o' g=some x->x≠(b,off+1)/\o g=some x):=by
 have hk:∀g x,(λg=>if o g=some (b,off+1)then none else o g) g=some x->x≠(b,off+1)/\o g=some x:=by
  intro g x h
  simp only at h
  split at h
  · cases h
  ·
   rename_i hn
   exact⟨λe=>hn (by rw[h,e]),h⟩
 have K:Keep (λx=>x=(b,off+1)) m w o m w (λg=>if o g=some (b,off+1)then none else o g):=
  ⟨Mle.refl _,λ_ _ _ _=>rfl,λ_ _ _ _=>rfl,λg x h hn=>by
   show(if o g=some (b,off+1)then none else o g)=_
   rw[h,if_neg (by grind)],λg j h=>by
   show(if o g=some (b,off+1)then none else o g)=_
   rw[h,if_neg (by grind)],λg s k _ h=>⟨g,k,(hk g _ h).2⟩,λg _ _=> .of_eq rfl⟩
 refine⟨_,⟨I.same,I.sat,I.mono,I.old,λg x h=>I.own g x (hk g x h).2,λg x h=>I.lt g x (hk g x h).2,λg g' x h h'=>I.inj g g' x (hk g x h).2 (hk g' x h').2,λp hp g hg=> ?_,λt=> ?_,I.defers,I.tbl,I.wide,I.shps⟩,hk⟩
 · exact K.own g _ (I.pinned p hp g hg) (λe=>by injection e with _ e;omega)
 ·
  have h:=I.slots t
  by_cases e:t=b
  ·
   subst e
   rw[hb]at h
   rw[zT]
   obtain⟨g,hv,h1,h2,cs,E',h3,h4,h5⟩:=h
   refine⟨g,hv,K.own g _ h1 (λe=>by injection e with _ e;omega),h2,cs,E',h3,by simpa using h4,λj x U=> ?_⟩
   rw[List.getElem?_set]at U
   split at U
   ·
    rename_i e
    subst e
    split at U
    ·
     cases U
     obtain⟨_,u,h6,Z⟩:=h5 off _ hl
     exact⟨rfl,u,h6,zHz I.sat Z⟩
    · cases U
   ·
    rename_i e
    obtain⟨h6,u,Z,h8⟩:=h5 j x U
    exact⟨h6,u,Z,h8.keep K (λJ=>by injection J with _ J;omega)⟩
  ·
   rw[zE e]
   refine RepA.keep K (λj J=>by injection J with J _;exact e J) (λb' α he _=>⟨λJ=>by injection J with _ J;omega,λ⟨l',W⟩=> ?_⟩) h
   by_cases e3:b'=b
   · subst e3;exact⟨_,zT ..⟩
   · exact⟨l',by rw[zE e3,W]⟩
theorem zMx(I:Inv w0 m0 o0 G pins S a w m o){b off d E k:Nat}{l:List T}{Z:List (List D)}(hb:S b= .box l)(hl:l[off]? =some (.own E k Z))(δ:b≠d)(hd:d<a.tmps.size)(α:(S d).isBox=false)(β:d∉pins):
 ∃g u m' o',o g=some (b,0)/\w.cell? ⟨g,off,none⟩=some u/\Inv w0 m0 o0 G pins (upd (upd S b (.box (l.set off (.d (.seq k Z))))) d (.t (.own E k Z))) (a.put (some d) u) w m' o':=by
 have hs:=I.slots b
 rw[hb]at hs
 obtain⟨gb,hv,k1,k2,cs,E',k3,k4,k5⟩:=hs
 obtain⟨_,u,k6,J⟩:=k5 off _ hl
 have J:zJO m w o (b,off+1) E k Z u:=J
 obtain⟨o1,I2,ζ⟩:=I.dropCell hb hl
 have U:(upd S b (.box (l.set off (.d (.seq k Z)))) d).isBox=false:=by rw[zE (Ne.symm δ)];exact α
 obtain⟨A',cap,xs,e,h1,h2,h3,h4⟩:=J
 suffices h:∃m' o',Inv w0 m0 o0 G pins (upd (upd S b (.box (l.set off (.d (.seq k Z))))) d (.t (.own E k Z))) (a.put (some d) u) w m' o' by obtain⟨m',o',h⟩:=h;exact⟨gb,u,m',o',k1,by rw[cell_of_row w gb off cs E' _ k3];exact k6,h⟩
 rw[e]
 rcases zRg (w:=w) (e:=E) (sz:=k) (n:=Z.length) (c:=cap) (xs:=xs) (by rw[e]at h1;exact h1)with rfl|⟨g,q,rfl⟩
 · refine⟨m,o1,I2.set d _ _ hd U ⟨none,cap,xs,rfl,by rw[e]at h1;exact h1,λg hg=>(by cases hg),h3,h4⟩⟩
 · obtain⟨hg,hm⟩:=h2 g rfl;have γ:=I.lt g _ hg;refine⟨_,_,I2.own_put d _ _ (λp=>m g p) g w hd U β (λx hx=> ?_) (I.own g _ hg) (Same.refl _ _) γ (λp u h=>h) (λp u h=>I.sat g p u h) ?_⟩;grind;((have ε:newM m g (λp=>m g p)=m:=by funext b p;unfold newM;grind);rw[ε];exact⟨some ⟨g,q,none⟩,cap,xs,rfl,by rw[e]at h1;exact h1,λg' W=>by injection W with W;subst W;exact⟨zAO _ _ _,hm⟩,h3,h4⟩)
theorem zSw(hM:Mk M S){op:Oper}{t b off d E k n:Nat}{x:Operand}{l:List T}{W:List (List D)}(β:op.op= .load t x)(ht:tyA P t=some (false,n))(hx:cpO M x= .ref b off)(hb:S b= .box l)(hl:l[off]? =some (.own E k W))(Z:b≠d)(hd:op.dst=some d)(U:okD N pins S d=true):
 OpOK P pins N op S (upd (upd S b (.box (l.set off (.d (.seq k W))))) d (.t (.own E k W))):=by
 refine zL λw0 m0 o0 G a w m o hN I=> ?_
 obtain⟨h1,h2,h3⟩:=zS U
 obtain⟨g,u,m',o',k1,k2,J⟩:=zMx I hb hl Z (by omega) h2 h3
 have he:=qA hM I x 0
 rw[hx]at he
 obtain⟨g',k3,k4,_⟩:=he
 have:=I.inj _ _ _ k1 k3
 subst this
 refine⟨u,w,m',o',?_,by rw[hd];exact J⟩
 have α:(Instr.loadAt t (a.eval x)).run P w= .ok u w:=by rw[k4];simp only[Instr.loadAt,Instr.sureAddr,wE,wU,wD];exact zCo ht k2
 unfold execOp
 simp_all
end
end Go.Proofs.YtocolhfjpadaoaaGreatDoor
