/-
  Lemmas of this claim, joined.
-/
import Derived.Test.YtocolhfjpadaoaaGreatDoorU04
set_option linter.unusedVariables false
set_option linter.unusedSimpArgs false
set_option linter.constructorNameAsVariable false
namespace Go.Proofs.YtocolhfjpadaoaaGreatDoor
open Go
abbrev tS:=@List.drop_of_length_le
abbrev sK:=@List.length_set
end Go.Proofs.YtocolhfjpadaoaaGreatDoor
namespace Go.Proofs.YtocolhfjpadaoaaGreatDoor
open Go Go.RowKit
variable {P:Program}{w0:World}{w:World}{m0:Mem}{m:Mem}{o0:OwnM}{o:OwnM}{G:GD}{pins:List Nat}{N:Nat}{a:Act}{op:Oper}{S:Nat->A}{M:Nat->A}{L:SL}{v:Value}{W:World}{Q:Mem}{X:OwnM}
section
variable {P:Program}
theorem run_app4(w:World){t e sz nb:Nat}(E:zIE P t e sz nb)(ty:TypeId)(A':Option Addr)(n c:Nat)(xs:List Value)(hx:xs.length=n*sz)(τ:n<=c)(β:c<=maxLen)
    (hA:c=0\/∃(g:Nat) (J:Array Value),A'=some ⟨g,0,none⟩/\w.heap[g]? =some (.cells J e (0,0))/\c*sz<=J.size/\J.toList.take (n*sz)=xs)
    (B':Option Addr)(k c':Nat)(I:List Value)(hk:0<k)(hl:I.length=k*sz)(α:Row w B' I)(h1:∀u∈I,u.oneCell'=true)(hb:(n+k)*nb<=140737488355328):
    ∃(A2:Option Addr) (c2:Nat) (w':World),(Builtin.append_ #[t,t] ty #[.slice A' n c,.slice B' k c']).run P w= .ok (.slice A2 (n+k) c2) w'/\n+k<=c2/\c2<=maxLen/\∃U:Array Value,c2*sz<=U.size/\U.toList.take ((n+k)*sz)=xs++I/\
      ((∃(g:Nat) (J:Array Value),A'=some ⟨g,0,none⟩/\A2=A'/\c≠0/\w.heap[g]? =some (.cells J e (0,0))/\w'=w.setRow g U/\U.size=J.size)\/
       (A2=some ⟨w.heap.size,0,none⟩/\w'=w.drew.alloc (.cells U e))):=by
  obtain⟨i,z,hi,hz,rfl,rfl,μ⟩:=E.info
  have ε:n+k<=maxLen:=by
    have:=tA (n+k) E.posb
    unfold maxLen;omega
  have η:n+k<=9223372036854775807:=by simp only[maxLen]at ε;omega
  have π:0<I.length:=by rw[hl];exact Nat.mul_pos hk E.pos
  cases B' with
  |none=>
    cases I with
    |nil=>grind
    |cons u r=>
      obtain⟨ad,h,_⟩:=α 0 u rfl
      cases h
  |some ad=>
    have Z:∀j u,I[j]? =some u->w.cell? (ad.add j)=some u:=by
      intro j u hu
      obtain⟨σ,h,hc⟩:=α j u hu
      grind
    have δ:(xs++I).length=(n+k)*i.size:=by rw[wP,hx,hl,tE]
    have grown:∀(old:Nat),old<n+k->(Builtin.append_ #[t,t] ty #[.slice A' n c,.slice (some ad) k c']).run P w= .ok (.slice (some ⟨w.heap.size,0,none⟩) (n+k) (grownCap w (n+k) old e)) (w.drew.alloc (.cells (xs.toArray++I.toArray++Builtin.zeroCells z.cells (grownCap w (n+k) old e-(n+k))) e))->
      ∃(A2:Option Addr) (c2:Nat) (w':World),(Builtin.append_ #[t,t] ty #[.slice A' n c,.slice (some ad) k c']).run P w= .ok (.slice A2 (n+k) c2) w'/\n+k<=c2/\c2<=maxLen/\∃U:Array Value,c2*i.size<=U.size/\U.toList.take ((n+k)*i.size)=xs++I/\
      ((∃(g:Nat) (J:Array Value),A'=some ⟨g,0,none⟩/\A2=A'/\c≠0/\w.heap[g]? =some (.cells J e (0,0))/\w'=w.setRow g U/\U.size=J.size)\/
       (A2=some ⟨w.heap.size,0,none⟩/\w'=w.drew.alloc (.cells U e))):=by
      intro old ho hr
      have θ:=grownCap_ge w (n+k) old e
      have β:grownCap w (n+k) old e<=maxLen:=grownCap_le_maxLen w (n+k) old e ε
      refine⟨_,_,_,hr,θ,β,_,?_,?_,.inr ⟨rfl,rfl⟩⟩
      · simp only[tV,uE,size_zeroCells,μ,hx,hl,<-tE]
        exact vN _ (by omega)
      · simp only[Array.toList_append,vG]
        rw[<-vG,<-δ]
        exact tZ
    rcases hA with h0|⟨g,J,rfl,hg,κ,htake⟩
    · have ξ:n=0:=by omega
      subst ξ h0
      have ν:xs=[]:=vB (by simpa using hx)
      subst ν
      refine grown 0 (by omega) ?_
      cases A' with
      |none=>
        have hr:=run_append_nil (P:=P) w t ty e i z E.under hi hz ad k c' I hl Z (by omega) (by omega) (by have hb:=hb;simp only[vF]at hb;omega)
        grind
      |some b=>
        exact run_append_grow (P:=P) w t ty e i z E.under hi hz b 0 0 [] (by simp) (λj u h=>by cases h) ad k c' I hl Z (by omega) (by omega) (growslice_fits (by omega) hb)
    · by_cases W:n+k<=c
      · have ζ:n*i.size+I.length<=J.size:=by
          rw[hl,<-tE];exact vR (vN _ W) κ
        have hr:=run_append_room (P:=P) w t ty e i E.under hi g n c J hg ad k c' I hl Z h1 W ζ
        have ι:(J.toList.take (n*i.size)++I++J.toList.drop (n*i.size+I.length)).toArray.size=J.size:=by
          grind
        refine⟨_,_,_,hr,W,β,_,?_,?_,.inl ⟨g,J,rfl,rfl,by omega,hg,rfl,ι⟩⟩
        all_goals grind
      · have γ:∀j u,xs[j]? =some u->w.cell? ((⟨g,0,none⟩:Addr).add j)=some u:=by
          intro j u hu
          have ρ:j<n*i.size:=by rw[<-hx];exact(wF.1 hu).1
          rw[Addr.add_mid,vF,cell_of_row w g j J e _ hg]
          grind
        exact grown c (by omega) (run_append_grow (P:=P) w t ty e i z E.under hi hz ⟨g,0,none⟩ n c xs hx γ ad k c' I hl Z (by omega) (by omega) (growslice_fits (by omega) hb))
end
section
variable {w0:World}{m0:Mem}{o0:OwnM}{G:GD}{pins:List Nat}{S M:Nat->A}{a:Act}{w:World}{m:Mem}{o:OwnM}{P:Program}{N:Nat}
theorem Inv.adopt(I:Inv w0 m0 o0 G pins S a w m o){j g:Nat}{l:List T}{cs cs':Array Value}{E:Nat}(Z:S (OB+j)= .free)(hg:w.heap[g]? =some (.cells cs E (0,0)))(δ:cs'.size=cs.size)(ho:o g=none)(hG:G g\/w0.heap.size<=g)(hm:∀p,m g p=none)(γ:l.length<=cs'.size)
(hc:∀(i:Nat) (x:T),l[i]? =some x->∃d,x= .d d/\∃u,cs'[i]? =some u/\RepD m d u):
 Inv w0 m0 o0 G pins (upd S (OB+j) (.box l)) a (w.setRow g cs') m (newO o (OB+j) g):=by
 have hf:∀g k,o g≠some (OB+j,k):=by have:=I.slots (OB+j);rw[Z]at this;exact this
 have J:∀k,k≠g->(w.setRow g cs').heap[k]? =w.heap[k]? :=λk hk=>setRow_other w g k cs' hk
 have hS:Same (λx=>G x\/w0.heap.size<=x) w (w.setRow g cs'):=⟨rfl,rfl,rfl,by simp,λk _ hk=>J k λe=>hk (by rw[e];exact hG),λq=>(zBE hg δ q).w⟩
 have β:g<w.heap.size:=(vV.1 hg).1
 have α:∀b l,o b=some l->b≠g:=λb l h e=>by rw[e,ho]at h;cases h
 have hk:∀b l,o b=some l->newO o (OB+j) g b=some l:=by intro b l h;unfold newO;rw[if_neg (α b l h),h,if_neg];intro e;obtain⟨s,k⟩:=l;cases e;exact hf b k h
 have U:∀b l,newO o (OB+j) g b=some l->(b=g/\l=(OB+j,0))\/(b≠g/\o b=some l):=by intro b l h;unfold newO at h;split at h;rename_i e;injection h with h;exact .inl ⟨e,h.symm⟩;(split at h;cases h;rename_i e _;exact .inr ⟨e,h⟩)
 have ζ:∀W,zAX w (w.setRow g cs') W:=zBE hg δ
 have K:Keep (λl=>l.1=OB+j) m w o m (w.setRow g cs') (newO o (OB+j) g):=
  ⟨Mle.refl _,λ_ _ _ _=>rfl,λb l h _=>J b (α b l h),λb l h _=>hk b l h,λb j' h=>hk b _ h,λb s k hs h=>by rcases U b _ h with⟨_,e⟩|⟨_,e⟩;injection e with e _;exact absurd e hs;exact⟨b,k,e⟩,λg _ _=>ζ g⟩
 refine⟨I.same.trans hS,λb p u h=> ?_,I.mono,I.old,λW l h=> ?_,λW l h=> ?_,λg1 g2 l h h'=> ?_,λs hs g hg=>hk g _ (I.pinned s hs g hg),λs=> ?_,I.defers,I.tbl,I.wide,I.shps.keep I.pinned K.sh⟩
 · have h1:=I.sat b p u h;(have hb:b≠g:=λe=>by rw[e,hm]at h;cases h);rw[vP (w:=w) (J b hb)];exact h1
 · rcases U W l h with⟨e,_⟩|⟨_,e⟩;subst e;exact hG;exact I.own W l e
 · rcases U W l h with⟨e,_⟩|⟨_,e⟩;subst e;exact wN β hS.size;exact wN (I.lt W l e) hS.size
 · rcases U g1 l h with⟨e,q⟩|⟨_,e⟩<;>rcases U g2 l h' with⟨e',q'⟩|⟨_,e'⟩;rw[e,e'];subst q;exact absurd e' (hf _ _);subst q';exact absurd e (hf _ _);exact I.inj _ _ _ e e'
 · by_cases e:s=OB+j;(subst e;rw[zK];refine⟨g,λh=>absurd h (by omega),qT _ _ _,hm,cs',E,setRow_heap w g cs cs' E _ hg,γ,λi x hi=> ?_⟩;obtain⟨d,rfl,u,h2,h3⟩:=hc i x hi;exact⟨rfl,u,h2,h3⟩);(rw[zE e];exact RepA.keep K (λ_=>e) (λb off _ hb=>⟨λe'=>by have:b=OB+j:=e';omega,λ⟨l',ε⟩=>⟨l',by rw[zE (by omega),ε]⟩⟩) (I.slots s))
theorem app_obj(I:Inv w0 m0 o0 G pins S a w m o){t e sz nb:Nat}(E:zIE P t e sz nb)(ty:TypeId){j d:Nat}(hd:d<a.tmps.size)(hdO:d<OB)(ε:(S d).isBox=false)(α:S (OB+j)= .free)
{A':Option Addr}{c:Nat}{l:List (List D)}{xs:List Value}(hnc:l.length<=c)(ω:c<=maxLen)(γ:zIW m sz l xs)
(hA:c=0\/∃(g:Nat) (Z:Array Value),A'=some ⟨g,0,none⟩/\w.heap[g]? =some (.cells Z e (0,0))/\c*sz<=Z.size/\Z.toList.take (l.length*sz)=xs/\o g=none/\(G g\/w0.heap.size<=g)/\∀p,m g p=none)
{l':List (List D)}{v':Value}(hv':RepD m (.seq sz l') v')(τ:0<l'.length)(hb:(l.length+l'.length)*nb<=140737488355328)(μ:e<OFB):
 ∃v w' o',(Builtin.append_ #[t,t] ty #[.slice A' l.length c,v']).run P w= .ok v w'/\Inv w0 m0 o0 G pins (upd (upd S (OB+j) (.box (((l++l').flatMap id).map .d))) d (.t (.view j 0 e sz (l++l').length))) (a.put (some d) v) w' m o':=by
 obtain⟨B',c',θ,rfl,_,_,ρ,h1,ψ⟩:=hv'.rows
 have κ:Row w B' θ:=by intro j u hu;obtain⟨g,p,e,hmm⟩:=ψ j u hu;exact⟨_,e,by rw[Addr.add_mid];exact I.sat _ _ _ hmm⟩
 obtain⟨A2,c2,w',η,q1,q2,U,q3,q4,ι⟩:=run_app4 (P:=P) w E ty A' l.length c xs γ.1 hnc ω (hA.imp id λ⟨g,Z,z1,z2,z3,z4,_⟩=>⟨g,Z,z1,z2,z3,z4⟩) B' l'.length c' θ τ ρ.1 κ h1 hb
 have φ:=γ.append ρ
 have W:∀r∈l++l',r.length=sz:=λr hr=>by obtain⟨i,hi⟩:=vZ hr;exact φ.2.1 i r hi
 have ζ:(((l++l').flatMap id).map T.d).length=(l.length+l'.length)*sz:=by rw[wM,zFe W,wP]
 have δ:(((l++l').flatMap id).map T.d).length<=U.size:=by rw[ζ];exact vR (vN _ q1) q3
 have β:∀(i:Nat) (x:T),(((l++l').flatMap id).map T.d)[i]? =some x->∃d,x= .d d/\∃u,U[i]? =some u/\RepD m d u:=by intro i x hi;(have ξ:i<(l.length+l'.length)*sz:=by rw[<-ζ];exact(wF.1 hi).1);have hp:0<sz:=E.pos;(have χ:i/sz<(l++l').length:=by rw[wP];exact tY (by rw[uQ];exact ξ));have σ:i %sz<sz:=Nat.mod_lt _ hp;(have he:i/sz*sz+i %sz=i:=by rw[uQ];exact Nat.div_add_mod i sz);obtain⟨r,hr⟩:∃r,(l++l')[i/sz]? =some r:=⟨_,wB χ⟩;have hrl:r.length=sz:=W r (wD hr);obtain⟨dd,ν⟩:∃dd,r[i %sz]? =some dd:=⟨_,wB (by rw[hrl];exact σ)⟩;have h2:=zDN W hr σ;rw[he,ν]at h2;rw[wG,h2]at hi;cases hi;obtain⟨u,k1,k2⟩:=φ.2.2 _ r _ dd hr ν;rw[he,<-q4,vH,if_pos ξ]at k1;exact⟨dd,rfl,u,by simpa using k1,k2⟩
 have π:(l++l').length=l.length+l'.length:=wP
 rcases ι with⟨g,Z,rfl,rfl,hc0,hg,rfl,hsz⟩|⟨rfl,rfl⟩
 · obtain⟨g',cur2,z1,z2,z3,z4,z5,z6,z7⟩:=hA.resolve_left hc0;cases z1;have J:=I.adopt (j:=j) α hg hsz z5 z6 z7 δ β;refine⟨_,_,_,η,J.set d _ _ hd (by rw[zE (by omega)];exact ε) ?_⟩;rw[π];exact⟨_,c2,q1,q2,rfl,.inr ⟨g,U,e,qT _ _ _,rfl,setRow_heap w g Z U e _ hg,by rw[vF];exact q3,.inr (.inl ⟨μ,rfl⟩)⟩⟩
 · have J:=I.drew.obj_new (j:=j) (E:=e) α δ (λi x hi=>by obtain⟨dd,rfl,u,k1,k2⟩:=β i x hi;exact⟨rfl,u,k1,k2⟩);refine⟨_,_,_,η,J.set d _ _ hd (by rw[zE (by omega)];exact ε) ?_⟩;rw[π];exact⟨_,c2,q1,q2,rfl,.inr ⟨w.heap.size,U,e,qT _ _ _,rfl,heap_alloc_new w.drew _,by rw[vF];exact q3,.inr (.inl ⟨μ,rfl⟩)⟩⟩
theorem zUN(S:Nat->A)(b:Nat)(x y:A):upd (upd S b x) b y=upd S b y:=by funext t;unfold upd;grind
theorem noPt_d(l:List D):noPt (l.map T.d)=true:=by unfold noPt;rw[List.all_map];exact wI.2 λ_ _=>rfl
theorem ok_apg(hM:Mk M S){d j E k nb t:Nat}{x y:Operand}{l l':List (List D)}{S1:Nat->A}(κ:op.op= .call {callee:= .builtin .append,args:= #[x,y],argTypes:= #[t,t]})(hd:op.dst=some d)(φ:okD N pins S d=true)(ν:d<OB)(hE:elF P t=some (E,k,nb))
(hj:j<OB)(hp:OB+j∉pins)(hx:cpO M x= .t (.view j 0 E k l.length))(hb:S (OB+j)= .box ((l.flatMap id).map .d))(U:∀r∈l,r.length=k)(ρ:slD k (dO M y)=some l')(ζ:0<l'.length)(ω:(l.length+l'.length)*nb<=140737488355328)(θ:(Nat.blt 0 E&&Nat.blt E OFB)=true)
(α:∀s,S1 s=S s\/(S1 s= .any/\(S s).isBox=false))(hm:∀s,s≠OB+j->zBa j (S1 s)=false):
 OpOK P pins N op S (upd (upd S1 (OB+j) (.box (((l++l').flatMap id).map .d))) d (.t (.view j 0 E k (l++l').length))):=by
 refine zL λw0 m0 o0 G a w m o hN I=> ?_
 obtain⟨h1,h2,h3⟩:=zP φ
 have μ:RepD m (.seq k l') (a.eval y):=zJY ρ λd hd=>zGF hM I hd
 have δ:=zW hM I x 0
 rw[hx]at δ
 obtain⟨A',c,q2,q3,q5,q4⟩:=δ
 have γ:=I.slots (OB+j)
 rw[hb]at γ
 obtain⟨g,_,b1,b2,cs,E',b3,b4,b5⟩:=γ
 have Ek:=zNv hE
 have Z:((l.flatMap id).map T.d).length=l.length*k:=by rw[wM,zFe U]
 rw[Z]at b4
 have β:zIW m k l (cs.toList.take (l.length*k)):=by refine⟨by have e:=vE (xs:=cs);rw[uA];omega,λi r hi=>U r (wD hi),λi r q e hi hq=> ?_⟩;have σ:=U r (wD hi);(have ι:q<k:=by rw[<-σ];exact(wF.1 hq).1);(have hc:((l.flatMap id).map T.d)[i*k+q]? =some (.d e):=by rw[wG,zDN U hi ι,hq];rfl);(have η:i*k+q<l.length*k:=by rw[<-Z];exact(wF.1 hc).1);obtain⟨_,u,k1,k2⟩:=b5 _ _ hc;exact⟨u,by rw[vH,if_pos η];simpa using k1,k2⟩
 have ξ:S1 (OB+j)= .box ((l.flatMap id).map .d):=by rcases α (OB+j)with e|⟨_,e⟩;rw[e,hb];rw[hb]at e;cases e
 have ψ:0<E/\E<OFB:=by simpa using θ
 have ε:E<OFB:=ψ.2
 have J0:=(I.less α).forget hj hp λs=>by by_cases e:s=OB+j;(subst e;rw[ξ];exact zWq (noPt_d _) j);exact hm s e
 have hdb:(upd S1 (OB+j) .free d).isBox=false:=by rw[zE (by omega)];rcases α d with e|⟨e,_⟩;rw[e];exact h2;rw[e];rfl
 obtain⟨v,w',o',hr,J⟩:=app_obj J0 Ek op.type (d:=d) (j:=j) (by omega) ν hdb (zK _ _ _) q2 q3 β (q4.imp id λ⟨g',π,E1,z1,z2,W,z4,z5⟩=>by have:=I.inj _ _ _ b1 z1;subst this;have χ:E1=E:=z5.ty (by omega) ε;rw[χ]at W;refine⟨g,π,z2,W,by omega,?_,?_,I.own g _ b1,b2⟩;(rw[b3]at W;injection W with W;injection W with W;rw[W]);(cases τ:zMS o j g with|none=>rfl|some l0=>obtain⟨y1,y2⟩:=qK.1 τ;rw[b1]at y1;injection y1 with y1;exact absurd (by rw[<-y1]) y2)) μ ζ ω ε
 rw[zUN]at J
 refine⟨v,w',m,o',?_,by rw[hd];exact J⟩
 unfold execOp
 rw[κ]
 simp only[resolve,invoke,builtin,wE,wQ,wC,wU,vC,vS]
 rw[q5,hr]
 rfl
theorem ok_apg1(hM:Mk M S){d j E k nb t:Nat}{x y:Operand}{l':List (List D)}{W:Nat->A}(γ:op.op= .call {callee:= .builtin .append,args:= #[x,y],argTypes:= #[t,t]})(hd:op.dst=some d)(η:okD N pins S d=true)(ε:d<OB)(hE:elF P t=some (E,k,nb))
(hx:cpO M x= .t (.view j 0 E k 0))(hb:S (OB+j)= .free)(ζ:slD k (dO M y)=some l')(U:0<l'.length)(ι:l'.length*nb<=140737488355328)
(Z:∀s,W s=S s\/(W s= .any/\(S s).isBox=false))(θ:W (OB+j)= .free)(β:E<OFB):
 OpOK P pins N op S (upd (upd W (OB+j) (.box ((l'.flatMap id).map .d))) d (.t (.view j 0 E k l'.length))):=by
 refine zL λw0 m0 o0 G a w m o hN I=> ?_
 obtain⟨h1,h2,h3⟩:=zP η
 have δ:RepD m (.seq k l') (a.eval y):=zJY ζ λd hd=>zGF hM I hd
 have u:=zW hM I x 0
 rw[hx]at u
 obtain⟨A',c,q2,q3,q5,q4⟩:=u
 have hf:∀g k,o g≠some (OB+j,k):=by have:=I.slots (OB+j);rw[hb]at this;exact this
 have α:c=0:=q4.resolve_right λ⟨g,cs,_,z,_⟩=>hf g 0 z
 have κ:(W d).isBox=false:=by rcases Z d with e|⟨e,_⟩;rw[e];exact h2;rw[e];rfl
 obtain⟨v,w',o',hr,J⟩:=app_obj (l:=[]) (xs:=[]) (c:=c) (A':=A') (I.less Z) (zNv hE) op.type (d:=d) (j:=j) (by omega) ε κ θ q2 q3 ⟨by simp,λi r h=>by simp at h,λi r j d h=>by simp at h⟩ (.inl α) δ U (by simpa using ι) β
 refine⟨v,w',m,o',?_,by rw[hd];exact J⟩
 unfold execOp
 rw[γ]
 simp only[resolve,invoke,builtin,wE,wQ,wC,wU,vC,vS]
 simp only[tC]at hr
 rw[q5,hr]
 rfl
end
def renL(j c:Nat):SL->SL
 |[]=>[]
 |(s,x)::r=>(s,rnA j c x)::renL j c r
theorem zPP(j c:Nat):∀(L:SL) (t:Nat),gt (renL j c L) t=rnA j c (gt L t)
 |[],t=>rfl
 |(s,x)::r,t=>by show gt ((s,_)::renL j c r) t=_;rw[zQ,zQ];unfold upd;by_cases h:t=s;grind;rw[if_neg h,if_neg h,zPP j c r t]
theorem san_rn(j c:Nat)(x:A):san (rnA j c x)=rnA j c (san x):=by(cases x with|ref b off=>show san (bif Nat.beq b (OB+j)then A.t (.hpt c off)else .ref b off)= .any;cases Nat.beq b (OB+j)<;>rfl|_=>rfl)
section
variable {P:Program}{pins:List Nat}{N:Nat}{S M:Nat->A}{op:Oper}{e:Eff}{d c:Nat}{f f':Nat->A}{L:SL}
theorem OpH.pub{u:SL}{f1 f2:Nat->A}{j:Nat}{la:List T}(h:OpH P pins N op S (gt u))(hk:gt u HK= .hp f1)(hb:gt u (OB+j)= .box la)(hc:(Nat.blt (j+1) OB&& !pins.contains (OB+j))=true)(c6:noPt la=true)(U:f1 c= .free)(η:∀k,f2 k=if k=c then .box la else rnA j c (f1 k)):
  OpH P pins N op S (gt ((HK,.hp f2)::(OB+j,.free)::renL j c u)):=by
 simp only[wH,vQ,vJ,decide_eq_false_iff_not]at hc
 obtain⟨c2,c3⟩:=hc
 have c2:j+1<OB:=by simpa using c2
 have e1:OB+j<OB2:=by unfold OB OB2 at*;omega
 have e2:OB+j≠HK:=by unfold HK;unfold OB at*;omega
 intro hN hl
 obtain⟨h,α⟩:=h hN hl
 have ζ:Low (gt (renL j c u)):=λt ht=>by rw[zPP,α t ht];rfl
 have γ:Low (gt ((HK,.hp f2)::(OB+j,.free)::renL j c u)):=by
  rw[zQ,zQ]
  exact(ζ.upd e1).upd zLp
 refine⟨?_,γ⟩
 have he:hx (gt ((HK,.hp f2)::(OB+j,.free)::renL j c u))=upd (λt=>if t=OB+j then .free else if t=OB+(OB+c)then .box la else rnA j c (hx (gt u) t)) HK (.hp f2):=by
  have β:gt ((HK,.hp f2)::(OB+j,.free)::renL j c u) HK= .hp f2:=by rw[zQ,zK]
  funext t
  by_cases e:t=HK
  ·
   subst e
   rw[zK]
   exact yM β (by simp)
  ·
   rw[zE e]
   rcases wR t OB2 with h2|h2
   ·
    rw[zBx h2,zQ,zE e,zQ]
    unfold upd
    by_cases Z:t=OB+j
    · rw[if_pos Z,if_pos Z]
    · rw[if_neg Z,if_neg Z,if_neg (by unfold OB OB2 at*;omega),zPP,zBx h2]
   ·
    obtain⟨k,rfl⟩:∃k,t=OB2+k:=⟨t-OB2,by omega⟩
    rw[if_neg (by unfold OB OB2 at*;omega),qX,zDO γ β,η]
    by_cases Z:k=c
    · subst Z;rw[if_pos rfl,if_pos rfl];rfl
    · rw[if_neg Z,if_neg (by omega),zDO α hk,san_rn]
 rw[he]
 intro W m0 X G a w m o ε I K Q hK
 refine h W m0 X G a w m o ε I K Q λa' w' m' o' δ I'=> ?_
 obtain⟨o2,J⟩:=I'.pub (j:=j) (c:=c) (la:=la) (by omega) c3 (by rw[zDO α hk,U];rfl) (yM hb (by simp)) (zTA c6) (S':=λt=>if t=OB+j then .free else if t=OB+(OB+c)then .box la else rnA j c (hx (gt u) t)) (if_pos rfl) (by
  show(if OB+(OB+c)=OB+j then _ else _)=_
  rw[if_neg (by omega),if_pos rfl]) (λt h1 h2=>by
  show(if t=OB+j then _ else _)=_
  rw[if_neg h1,if_neg h2])
 refine hK a' w' m' o2 δ (J.hk (f:=f1) ?_ f2)
 show(if HK=OB+j then _ else if HK=OB+(OB+c)then _ else rnA j c (hx (gt u) HK))=_
 rw[if_neg (Ne.symm e2),if_neg (by unfold HK OB;omega),yM hk (by simp)]
 rfl
theorem zXX{j:Nat}(h:Nat.blt (j+1) OB=true):OB+j<OB2/\OB+j≠HK/\j<OB:=by(have h:j+1<OB:=by simpa using h);refine⟨by unfold OB OB2 at*;omega,by unfold HK;unfold OB at*;omega,by omega⟩
theorem h_mkl(hM:Mk M S){j t e q E:Nat}{xn xc:Operand}{kl kc:IntKind}{n:Int}{J:TypeInfo}{z:Value}{c0 l:List T}(α:op.op= .makeSlice t xn xc)(hn:vO M xn=some (.int kl n))(hc:vO M xc=some (.int kc n))(hu:P.underlying t=some (.slice e))(δ:P.info? e=some J)(hz:J.zero=some z)
(W:zF6 (litA z)=some c0)(β:c0.length=J.size)(hE:J.size=E)(hq:mkI J.bytes n=some q)(hl:fl (λ_=>c0) (List.replicate q ())=l)(hd:op.dst=some d)(U:okD N pins S d=true)(hj:Nat.blt (j+1) OB=true)(u:M (OB+j)= .free){F:Nat}(hF:(F=e/\e<OFB)\/F=OFB+e):
 OpH P pins N op S (app S [(OB+j,.box l),(d,.t (.view j 0 F E q))]):=by
 subst hl hE
 intro hN γ
 obtain⟨e1,e2,e3⟩:=zXX hj
 have I:=zX hN U
 have Z:hx S (OB+j)= .free:=by rcases hM (OB+j)with e|e;grind;rw[e]at u;exact yM u (by simp)
 refine⟨?_,(γ.upd e1).upd (lt2 I)⟩
 show OpOK P pins N op (hx S) (hx (upd (upd S (OB+j) _) d _))
 rw[zAc (lt2 I) (by unfold HK;unfold OB at I;omega),zAc e1 e2]
 exact ok_make hM.hx α hn hc hu δ hz W β hq hd (qA hN U) (by simpa using I) Z hF
theorem h_lix(W:Mk M S){j off E k n t e:Nat}{x i:Operand}{ki:IntKind}{z:Int}{U:TypeInfo}{y:A}(J:op.op= .indexAddr t x i)(hx:cpO M x= .t (.view j off E k n))(hi:vO M i=some (.int ki z))(hu:P.underlying t=some (.slice e))(I:P.info? e=some U)(hz:0<=z/\z<n)(hy:A.ref (OB+j) (off+z.toNat*U.size)=y)(hd:op.dst=some d)(u:okD N pins S d=true):OpH P pins N op S (app S [(d,y)]):=by subst hy;exact .of (e:=[(d,_)]) λZ=>⟨ok_ixv W.hx J hx hi hu I hz hd (qA Z u),zAr (zX Z u)⟩
theorem h_lld(U:Mk M S){b off t n:Nat}{x:Operand}{l:List T}{z:T}{y:A}(I:op.op= .load t x)(ht:tyA P t=some (false,n))(hx:cpO M x= .ref b off)(hb:M b= .box l)(hl:l[off]? =some z)(hy:norA z=y)(hd:op.dst=some d)(u:okD N pins S d=true):OpH P pins N op S (app S [(d,y)]):=by subst hy;exact .of (e:=[(d,_)]) λJ=>⟨ok_ldx U.hx I ht hx hb hl hd (qA J u),zAr (zX J u)⟩
theorem h_lst(Z:Mk M S){t b off:Nat}{x y:Operand}(J:op.op= .store t x y)(hd:op.dst=none){i:TypeInfo}(hi:P.info? t=some i)(hx:cpO M x= .ref b off){l l':List T}(hb:M b= .box l){q:List T}(W:zCH (cpO M y)=some q)(U:q.length=i.size)(u:off+i.size<=l.length)(I:qD l off q=l'):OpH P pins N op S (app S [(b,.box l')]):=by subst I;refine .of (e:=[(b,_)]) λ_=>⟨zRh Z.hx J hd hi hx hb W U u,λz hz=> ?_⟩;simp at hz;subst hz;exact .inr ⟨zGD Z hb rfl,rfl⟩
theorem h_lln(U:Mk M S){j off E k n t e:Nat}{x:Operand}{y:A}(I:op.op= .call {callee:= .builtin .len,args:= #[x],argTypes:= #[t]})(hx:cpO M x= .t (.view j off E k n))(Z:P.underlying t=some (.slice e))(hy:A.t (.d (.lit (.int .i64 n)))=y)(hd:op.dst=some d)(u:okD N pins S d=true):OpH P pins N op S (app S [(d,y)]):=by subst hy;exact .of (e:=[(d,_)]) λJ=>⟨ok_lnv U.hx I hx Z hd (qA J u),zAr (zX J u)⟩
theorem h_lsl(hM:Mk M S){j off E k n t e:Nat}{x:Operand}{lo hi:Option Operand}{l0 h0:Option Int}{I:TypeInfo}{off' n':Nat}(α:op.op= .slice t x lo hi none)(hx:cpO M x= .t (.view j off E k n))(hk:I.size=k)(U:bndO M lo=some l0)(W:bndO M hi=some h0)(hu:P.underlying t=some (.slice e))(Z:P.info? e=some I)
(hc:0<=l0.getD 0/\l0.getD 0<=h0.getD n/\h0.getD n<=n)(ho:off+(l0.getD 0).toNat*I.size=off')(J:(h0.getD n).toNat-(l0.getD 0).toNat=n')(hd:op.dst=some d)(u:okD N pins S d=true)(hE:E<OFB):OpH P pins N op S (app S [(d,.t (.view j off' E k n'))]):=
 .of (e:=[(d,_)]) λhN=>⟨ok_slv hM.hx α hx hk U W hu Z hc ho J hd (qA hN u) hE,zAr (zX hN u)⟩
end
def ptM{α:Type}(p:Option Nat)(a:Option α)(b:Nat->Option α):Option α:=match p with
 |none=>a
 |some i=>b i
def lenI(n m:Nat):Option Unit:=if n=m then some ()else none
theorem yR{n m:Nat}{u:Unit}(h:lenI n m=some u):n=m:=by unfold lenI at h;grind
theorem zUt{t i:Nat}(h:t<64):cd t i %64=t:=by unfold cd;omega
theorem cd_div{t i:Nat}(h:t<64):cd t i/64=i:=by unfold cd;omega
def ptT(t:Nat):Option Nat->T
 |none=> .d (.lit (.pointer none))
 |some i=> .hpt (cd t i) 0
theorem zJS(t:Nat)(p:Option Nat):(ptT t p).isLoc=false:=by cases p<;>rfl
def hpF(g:Nat->Nat->A):Nat->A:=λc=>g (c %64) (c/64)
theorem zCm{g:Nat->Nat->A}{t i:Nat}(h:t<64):hpF g (cd t i)=g t i:=by unfold hpF;rw[zUt h,cd_div h]
theorem zBe{g I:Nat->Nat->A}{t i:Nat}{x:A}(ht:t<64)(U:I t i=x)(J:∀u j,¬(u=t/\j=i)->I u j=g u j):hpF I=updF (hpF g) (cd t i) x:=by funext c;unfold hpF updF;by_cases e:c=cd t i;(subst e;rw[if_pos rfl,zUt ht,cd_div ht,U]);(rw[if_neg e];refine J _ _ λ⟨Z,W⟩=>e ?_;unfold cd;omega)
theorem hpF_pure{g:Nat->Nat->A}(h:∀t i l,g t i= .box l->∀x∈l,x.isLoc=false):zCO (hpF g):=λc l hl=>h _ _ l hl
theorem rn_pure{x:A}(h:∀l,x= .box l->∀y∈l,y.isLoc=false)(hx:san x=x)(j c:Nat):rnA j c x=x:=by
  cases x with
  |box l=>
    show A.box (l.map (rnT j c))=_
    congr 1
    conv=>rhs;rw[<-sP l]
    refine uV λy hy=> ?_
    have:=h l rfl y hy
    cases y<;>first|rfl|(cases this;done)|(rename_i i;have this:Nat.blt i OB=false:=this;show(bif Nat.blt i OB&&Nat.beq i j then T.mpt (OB+c)else .mpt i)=_;rw[this];rfl)
  |free=>rfl
  |mp l=>rfl
  |any=>rfl
  |rcd b u J I=>rfl
  |_=>cases hx
def arA{α:Type}(l:List α)(f:Nat->α->List T)(i:Nat):A:=match l[i]? with
 |some x=> .box (f i x)
 |none=> .free
section
variable {α:Type}{l:List α}{f:Nat->α->List T}{i:Nat}{x x':α}
theorem zFl(h:l[i]? =some x):arA l f i= .box (f i x):=by unfold arA;rw[h]
theorem zOD{j:Nat}(h:j≠i):arA (l.set i x') f j=arA l f j:=by unfold arA;rw[List.getElem?_set_ne (Ne.symm h)]
theorem zFq(h:l[i]? =some x):(l.set i x')[i]? =some x':=by grind
theorem zOA(h:l[i]? =some x):arA (l.set i x') f i= .box (f i x'):=zFl (zFq h)
theorem zEM:arA l f l.length= .free:=by unfold arA;rw[vY (wL _)]
theorem zGd:arA (l++[x]) f l.length= .box (f l.length x):=by unfold arA;grind
theorem zGK{j:Nat}(h:j≠l.length):arA (l++[x]) f j=arA l f j:=by unfold arA;grind
theorem zVT:(l++[x])[l.length]? =some x:=by simp
theorem zEJ(h:∀i x,∀y∈f i x,y.isLoc=false)(q:List T)(e:arA l f i= .box q):∀y∈q,y.isLoc=false:=by unfold arA at e;grind
end
theorem zGc{α:Type}(l:List α)(f:Nat->α->List T)(i:Nat):san (arA l f i)=arA l f i:=by unfold arA;split<;>rfl
def dT{α:Type}(c:α->List D)(a:α):List T:=(c a).map T.d
theorem zKw{α:Type}{c:α->List D}{k:Nat}(h:∀a,(c a).length=k)(a:α):(dT c a).length=k:=by unfold dT;rw[wM,h]
theorem zLb{α:Type}(c:α->List D)(l:List α):fl (dT c) l=((l.map c).flatMap id).map T.d:=by unfold fl dT;(induction l with|nil=>rfl|cons a r u=>grind)
theorem fl_loc{α:Type}(c:α->List D)(l:List α):∀y∈fl (dT c) l,y.isLoc=false:=by intro y hy;obtain⟨a,_,h⟩:=List.mem_flatMap.1 hy;obtain⟨d,_,rfl⟩:=vW.1 h;rfl
theorem zNH{α:Type}(c:α->List D)(l:List α):noPt (fl (dT c) l)=true:=by refine wI.2 λy hy=> ?_;obtain⟨a,_,h⟩:=List.mem_flatMap.1 hy;obtain⟨d,_,rfl⟩:=vW.1 h;rfl
theorem zOC{α:Type}{c:α->List D}{c0:List T}{z:α}(h:dT c z=c0)(q:Nat):fl (λ_=>c0) (List.replicate q ())=fl (dT c) (List.replicate q z):=by unfold fl;(induction q with|zero=>rfl|succ q u=>grind)
theorem zQM{α:Type}{c:α->List D}{k:Nat}(h:∀a,(c a).length=k)(l:List α):∀r∈l.map c,r.length=k:=by grind
theorem zS7{α:Type}{c:α->List D}{l:List α}{z:Int}{y:α}(h:idx l z=some y){d:D}(hd:c y=[d])(u:∀a,(c a).length=1):(fl (dT c) l)[0+z.toNat*1]? =some (.d d):=by have:=zWE (c:=dT c) (k:=1) (zKw u) (zFM h).2.2 (q:=0) (by omega);rw[vF];rw[uC]at this;rw[this];unfold dT;grind
theorem idxV{α:Type}{l:List α}{z:Int}{y:α}{n:Nat}(u:l.length=n)(h:idx l z=some y):0<=z/\z<(n:Int):=by subst u;exact⟨(zFM h).1,(zFM h).2.1⟩
def fgtL:List Nat->SL->SL
 |[],L=>L
 |j::r,L=>fgtL r ((OB+j,.free)::zA9 j HK L)
def fgtB(pins:List Nat):List Nat->SL->Bool
 |[],_=>true
 |j::r,L=>Nat.blt (j+1) OB&& !pins.contains (OB+j)&&zIt j HK L&&fgtB pins r ((OB+j,.free)::zA9 j HK L)
section
variable {P:Program}{pins:List Nat}{N:Nat}{Q:Exit->SL->Prop}{L L':SL}
theorem St.fgt1(hS:St w0 m0 o0 G pins N L a w){j:Nat}(hc:(Nat.blt (j+1) OB&& !pins.contains (OB+j)&&zIt j HK L)=true)(hh:zTE L):St w0 m0 o0 G pins N ((OB+j,.free)::zA9 j HK L) a w:=by simp only[wH,vQ,vJ,decide_eq_false_iff_not]at hc;obtain⟨⟨c2,c3⟩,c6⟩:=hc;(have c2:j+1<OB:=by simpa using c2);obtain⟨hN,hlo,m,o,I⟩:=hS;(have hL2:∀s,gt (zA9 j HK L) s=gt L s\/(gt (zA9 j HK L) s= .any/\(gt L s).isBox=false):=λs=>by rw[zCJ];(cases hm:(Nat.blt s OB&&(zBa j (gt L s)&& !Nat.beq s HK))with|true=>exact .inr ⟨rfl,zGq c6 s hm⟩|false=>exact .inl rfl));have hk2:gt (zA9 j HK L) HK=gt L HK:=zAU L (by unfold HK OB;omega);obtain⟨hlo2,hx2⟩:=zPF hlo hk2 hL2;have I2:=I.less hx2;(have hm:∀s,zBa j (hx (gt (zA9 j HK L)) s)=false:=λs=>by rcases wR s OB2 with h3|h3;(rw[zBx h3];rcases wR s OB with h4|h4;(rw[zCJ];(have hsd:Nat.beq s HK=false:=by(cases hb:Nat.beq s HK with|false=>rfl|true=>have:=wT hb;unfold HK at this;unfold OB at h4;omega));(have hso:Nat.blt s OB=true:=by simpa using h4);rw[hsd,hso];(cases hm:zBa j (gt L s)with|true=>rfl|false=>exact hm));rw[zAU L h4];exact hh.2 s h4 j);(obtain⟨k,rfl⟩:∃k,s=OB2+k:=⟨s-OB2,by omega⟩;exact zJs hlo2 (by rw[hk2];exact hh.1) k));(have e1:OB+j<OB2:=by unfold OB OB2 at*;omega);(have e2:OB+j≠HK:=by unfold HK;unfold OB at*;omega);refine⟨hN,?_,m,zMS o j,?_⟩;(rw[zQ];exact hlo2.upd e1);(rw[zQ,zAc e1 e2];exact I2.forget (by omega) c3 hm)
theorem heapP_fgt{j:Nat}(u:Nat.blt (j+1) OB=true)(hh:zTE L):zTE ((OB+j,.free)::zA9 j HK L):=by have I:=(zXX u).2.1;(have e:gt ((OB+j,.free)::zA9 j HK L) HK=gt L HK:=by rw[zQ,zE (Ne.symm I),zAU L (by unfold HK OB;omega)]);unfold zTE;rw[e];exact⟨hh.1,hh.2.fgt⟩
theorem St.fgt(js:List Nat):∀(L:SL),St w0 m0 o0 G pins N L a w->fgtB pins js L=true->zTE L->St w0 m0 o0 G pins N (fgtL js L) a w:=by(induction js with|nil=>exactλL h _ _=>h|cons j r ih=>intro L h hb hh;unfold fgtB at hb;rw[wH]at hb;(have hj:Nat.blt (j+1) OB=true:=by have:=hb.1;simp only[wH]at this;exact this.1.1);exact ih _ (h.fgt1 hb.1 hh) hb.2 (heapP_fgt hj hh))
theorem WkA.of_eq{x y:A}(h:x=y):WkA x y:=by rw[h];exact .refl _
end
theorem fc_of_h{fn:FuncId}{args:List A}{f f':Nat->A}{r:A}(hf:FCH P fn args [] [] f f' r)(h0:∀c,san (f c)= .free)(hp:args.all A.plain=true)(δ:args.length<=OB):FC P fn args [] r:=by intro w m o I α β U W γ Z;refine(hf w m o I α β (λg l h=>(U g l h).1) W γ λs=> ?_).mono ?_;(unfold argH;split;(rename_i h;have J:=Z s;unfold argS at J;rw[wK]at J⊢;(cases hx:args[s]? with|none=>trivial|some x=>rw[hx]at J;exact zG2 (wI.1 hp x (wD hx)) J));(rename_i h;(have key:RepA m w o (λs=>if s<OB then args.getD s .any else if OB2<=s then san (f (s-OB2))else match([]:List A)[s-OB]? with|some x=>x|none=> .free) s .free (I.getD s undef):=λg k e=>h (U g _ e).2);split;rw[h0];exact key;exact key));(rintro e w' ⟨u,m',o',S',a',ρ,J,h2,h3,_⟩;rw[zRa hp];exact⟨u,m',o',S',a',ρ,J,h2,h3,λi l h=>by cases h⟩)
def gbA{α:Type}(c:α->List D):List α->A
 |[]=> .free
 |a::l=> .box (fl (dT c) (a::l))
theorem gb_ne{α:Type}{c:α->List D}{y:List α}(h:y≠[]):gbA c y= .box (fl (dT c) y):=by(cases y with|nil=>grind|cons a l=>rfl)
theorem zXI{α:Type}{c:α->List D}{y:List α}{z:Int}{a:α}(h:idx y z=some a):gbA c y= .box (fl (dT c) y):=gb_ne λe=>by have:=(zFM h).2.2;rw[e]at this;simp at this
theorem gb_set{α:Type}{c:α->List D}{y:List α}{z:Int}{a b:α}{k:Nat}(h:idx y z=some a):A.box (fl (dT c) (y.set k b))=gbA c (y.set k b):=(gb_ne λe=>by have u:=(zFM h).2.2;(have:(y.set k b).length=0:=by rw[e];rfl);rw[sK]at this;rw[vB this]at u;simp at u).symm
theorem ob_gb{α:Type}(c:α->List D)(y:List α)(j:Nat):zBa j (gbA c y)=false:=by(cases y with|nil=>rfl|cons a l=>exact zWq (zNH c _) j)
theorem fl_at2{α:Type}{c:α->List D}{l:List α}{z:Int}{y:α}{k q:Nat}(h:idx l z=some y){d:D}(hd:(c y)[q]? =some d)(u:∀a,(c a).length=k):(fl (dT c) l)[0+z.toNat*k+q]? =some (.d d):=by(have I:q<k:=by rw[<-u y];exact(wF.1 hd).1);have:=zWE (c:=dT c) (k:=k) (zKw u) (zFM h).2.2 I;rw[vF,this];show((c y).map T.d)[q]? =_;grind
theorem zHP{α:Type}{c:α->List D}{l:List α}{z:Int}{y:α}{k q:Nat}(h:idx l z=some y)(v:α)(u:∀a,(c a).length=k){x:List T}(hx:qD (dT c y) q x=dT c v)(I:Nat.ble (q+x.length) k=true):qD (fl (dT c) l) (0+z.toNat*k+q) x=fl (dT c) (l.set z.toNat v):=by have:=fl_splice (c:=dT c) (k:=k) (zKw u) (zFM h).2.2 (q:=q) (b:=v) (d:=x) hx (by simpa using I);grind
theorem zE7{α:Type}{c:α->List D}{l:List α}{z:Int}{y:α}{k q n:Nat}(h:idx l z=some y)(U:∀a,(c a).length=k)(u:Nat.ble (q+n) k=true):0+z.toNat*k+q+n<=(fl (dT c) l).length:=by have W:=zFM h;rw[zPV (zKw U)];(have I:z.toNat+1<=l.length:=by omega);have J:=vN k I;rw[Nat.succ_mul]at J;(have Z:q+n<=k:=by simpa using u);omega
def NoM(j:Nat)(u:List Nat)(L:SL):Prop:=∀s,u.contains s=false->zBa j (gt L s)=false
theorem NoM.nil{j:Nat}{u:List Nat}:NoM j u []:=λ_ _=>rfl
theorem NoM.cons{j:Nat}{u:List Nat}{s:Nat}{x:A}(h:zBa j x=false)(I:NoM j (s::u) L):NoM j u ((s,x)::L):=λt ht=>by rw[zQ];unfold upd;by_cases e:t=s;rw[if_pos e];exact h;(rw[if_neg e];exact I t (by rw[List.contains_cons,ht,Bool.or_false];exact beq_eq_false_iff_ne.2 e))
theorem NoM.skip{j:Nat}{u:List Nat}{s:Nat}{x:A}(h:u.contains s=true)(I:NoM j u L):NoM j u ((s,x)::L):=λt ht=>by rw[zQ];unfold upd;by_cases e:t=s;rw[e,h]at ht;cases ht;rw[if_neg e];exact I t ht
def anyE(u:List Nat):Eff:=u.map λs=>(s,A.any)
theorem zPD(S:Nat->A):∀(u:List Nat) (t:Nat),app S (anyE u) t=if u.contains t then A.any else S t:=by intro u;(induction u generalizing S with|nil=>intro t;rfl|cons s r I=>intro t;show app (upd S s .any) (anyE r) t=_;rw[I];by_cases h:r.contains t=true;rw[if_pos h,if_pos (by rw[List.contains_cons,h,Bool.or_true])];(rw[if_neg h];unfold upd;grind))
section
variable {w0:World}{m0:Mem}{o0:OwnM}{G:GD}{pins:List Nat}{S M:Nat->A}{P:Program}{N:Nat}{Q:Exit->SL->Prop}{L:SL}{op:Oper}{d:Nat}
theorem fl_rows{α:Type}(c:α->List D)(l:List α):fl (dT c) l=((l.map c).flatMap id).map T.d:=zLb c l
theorem h_apg{α:Type}{c:α->List D}(hM:Mk M S){j E k nb t:Nat}{x y:Operand}{l l':List α}{e:Eff}(J:List Nat)(ε:op.op= .call {callee:= .builtin .append,args:=⟨[x,y]⟩,argTypes:=⟨[t,t]⟩})(hE:elF P t=some (E,k,nb))(η:cpO M x= .t (.view j 0 E k l.length))(hb:M (OB+j)=gbA c l)(hc:∀a,(c a).length=k)
(hy:slD k (dO M y)=some (l'.map c))(u:0<l'.length)(ι:(l.length+l'.length)*nb<=140737488355328)(hd:op.dst=some d)(γ:okD N pins S d=true)(hj:((Nat.blt 0 E&&Nat.blt E OFB)&&Nat.blt (j+1) OB&& !pins.contains (OB+j)&&J.all (λs=>Nat.blt s OB&& !(S s).isBox))=true)
(hm:∀s,((OB+j)::J).contains s=false->zBa j (S s)=false)(hh:S HK= .any\/∃f,S HK= .hp f/\zCO f)(he:anyE J++[(OB+j,gbA c (l++l')),(d,.t (.view j 0 E k (l++l').length))]=e):OpH P pins N op S (app S e):=by
 subst he
 intro hN θ
 simp only[wH,vQ,vJ,decide_eq_false_iff_not]at hj
 obtain⟨⟨⟨c1,c2⟩,c3⟩,c4⟩:=hj
 obtain⟨e1,e2,e3⟩:=zXX c2
 have μ:E<OFB:=by simpa using c1.2
 have U:=zX hN γ
 have β:∀s,J.contains s=true->s<OB/\(S s).isBox=false:=λs hs=>by have:=wI.1 c4 s (by simpa using hs);simp only[wH,vQ]at this;exact⟨by simpa using this.1,this.2⟩
 have κ:l++l'≠[]:=λh=>by have:=(List.append_eq_nil_iff.1 h).2;rw[this]at u;simp at u
 have I:Low (app S (anyE J)):=λt ht=>by rw[zPD];split;rfl;exact θ t ht
 have ξ:app S (anyE J++[(OB+j,gbA c (l++l')),(d,.t (.view j 0 E k (l++l').length))])=upd (upd (app S (anyE J)) (OB+j) (gbA c (l++l'))) d (.t (.view j 0 E k (l++l').length)):=by unfold app;rw[sS];rfl
 rw[ξ]
 refine⟨?_,(I.upd e1).upd (lt2 U)⟩
 rw[zAc (lt2 U) (by unfold HK;unfold OB at U;omega),zAc e1 e2]
 have δ:app S (anyE J) HK=S HK:=by rw[zPD,if_neg];intro h;have:=(β HK h).1;unfold HK OB at this;omega
 have W:∀s,hx (app S (anyE J)) s=hx S s\/(hx (app S (anyE J)) s= .any/\(hx S s).isBox=false):=λs=>by rcases wR s OB2 with h2|h2;(rw[zBx h2,zBx h2,zPD];split;rename_i h;exact .inr ⟨rfl,(β s h).2⟩;exact .inl rfl);(refine .inl ?_;unfold hx;rw[I s h2,θ s h2];simp only;rw[δ])
 have ν:∀s,s≠OB+j->zBa j (hx (app S (anyE J)) s)=false:=λs hs=>by rcases wR s OB2 with h2|h2;(rw[zBx h2,zPD];split;rfl;(rename_i h;refine hm s ?_;rw[List.contains_cons];simp only[sC];exact⟨beq_eq_false_iff_ne.2 hs,by simpa using h⟩));(obtain⟨k,rfl⟩:∃k,s=OB2+k:=⟨s-OB2,by omega⟩;exact zJs I (by rw[δ];exact hh) k)
 rw[gb_ne κ,fl_rows,List.map_append]
 have ζ:(l++l').length=(l.map c++l'.map c).length:=by simp
 rw[ζ]
 have Z:S (OB+j)=gbA c l:=by rcases hM (OB+j)with h|h;(rw[h]at hb;(cases l with|nil=>cases hb|cons a r=>cases hb));rw[<-h,hb]
 cases l with
  |nil=>
   refine ok_apg1 hM.hx ε hd (qA hN γ) U hE η (yM Z (by intro h;cases h)) hy (by simpa using u) (by simpa using ι) W ?_ μ
   rcases W (OB+j)with h|⟨h,_⟩
   · rw[h,yM Z (by intro h;cases h)];rfl
   · rw[zBx e1,zPD]at h;split at h;(rename_i h2;have:=(β _ h2).1;omega);rw[Z]at h;cases h
  |cons a r=>
   refine ok_apg (l:=(a::r).map c) hM.hx ε hd (qA hN γ) U hE e3 c3 (by rw[wM];exact η) (yM (by rw[Z,gb_ne (by simp),fl_rows]) (by simp)) (λq hq=>by obtain⟨b,_,rfl⟩:=vW.1 hq;exact hc b) hy (by simpa using u) (by simpa using ι) (by simp only[wH];exact c1) W ν
theorem NoM.get{j:Nat}{u:List Nat}(h:NoM j u L):∀s,u.contains s=false->zBa j (gt L s)=false:=h
theorem h_apgI{α:Type}{c:α->List D}(hM:Mk M S){j E k Z t:Nat}{x y:Operand}{l l' z:List α}{e:Eff}(I:List Nat)(hz:appI Z l l'=some z)(U:op.op= .call {callee:= .builtin .append,args:=⟨[x,y]⟩,argTypes:=⟨[t,t]⟩})(W:elF P t=some (E,k,Z))(hx:cpO M x= .t (.view j 0 E k l.length))(hb:M (OB+j)=gbA c l)(hc:∀a,(c a).length=k)
(hy:slD k (dO M y)=some (l'.map c))(u:0<l'.length)(hd:op.dst=some d)(J:okD N pins S d=true)(hj:((Nat.blt 0 E&&Nat.blt E OFB)&&Nat.blt (j+1) OB&& !pins.contains (OB+j)&&I.all (λs=>Nat.blt s OB&& !(S s).isBox))=true)
(hm:∀s,((OB+j)::I).contains s=false->zBa j (S s)=false)(hh:S HK= .any\/∃f,S HK= .hp f/\zCO f)(he:anyE I++[(OB+j,gbA c z),(d,.t (.view j 0 E k z.length))]=e):OpH P pins N op S (app S e):=by
 obtain⟨h1,rfl⟩:=zKB hz
 exact h_apg hM I U W hx hb hc hy u h1 hd J hj hm hh he
theorem st_frzG{α:Type}{cc:α->List D}{L':SL}{y:List α}(d j:Nat){E k:Nat}(hd:gt L d= .t (.view j 0 E k y.length))(hb:gt L (OB+j)=gbA cc y)(ζ:∀a,(cc a).length=k)
(hc:(Nat.blt d OB&&Nat.blt (j+1) OB&& !pins.contains (OB+j)&& !pins.contains d&&Nat.blt 0 k&&zIt j d L)=true)(hh:zTE L)(hL:(d,.t (.d (.seq k (y.map cc))))::(OB+j,.free)::zA9 j d L=L'){w0:World}{m0:Mem}{o0:OwnM}{G:GD}{a:Act}{w:World}(hS:St w0 m0 o0 G pins N L a w):St w0 m0 o0 G pins N L' a w:=by
 cases y with
  |cons b r=>exact st_frz d j (l:=fl (dT cc) (b::r)) (rs:=(b::r).map cc) hd hb (by simp) (zLb _ _) (zQM ζ _) hc hh hL hS
  |nil=>
   subst hL
   simp only[wH,vQ,vJ,decide_eq_false_iff_not]at hc
   obtain⟨⟨⟨⟨⟨J,c2⟩,c3⟩,c4⟩,c5⟩,c6⟩:=hc
   have J:d<OB:=by simpa using J
   have c2:j+1<OB:=by simpa using c2
   obtain⟨hN,ε,m,o,I⟩:=hS
   have η:∀s,gt (zA9 j d L) s=gt L s\/(gt (zA9 j d L) s= .any/\(gt L s).isBox=false):=λs=>by rw[zCJ];(cases hm:(Nat.blt s OB&&(zBa j (gt L s)&& !Nat.beq s d))with|true=>exact .inr ⟨rfl,zGq c6 s hm⟩|false=>exact .inl rfl)
   have δ:gt (zA9 j d L) HK=gt L HK:=zAU L (by unfold HK OB;omega)
   obtain⟨Z,γ⟩:=zPF ε δ η
   have u:=I.less γ
   have e1:OB+j<OB2:=by unfold OB OB2 at*;omega
   have e2:OB+j≠HK:=by unfold HK;unfold OB at*;omega
   have U:hx (gt (zA9 j d L)) d= .t (.view j 0 E k 0):=by rw[zBx (lt2 J),zCJ,hd];simp
   have W:hx (gt (zA9 j d L)) (OB+j)= .free:=by rw[zBx e1,zAU L (wV _ _),hb];rfl
   have β:=u.slots d
   rw[U]at β
   obtain⟨A',c0,q2,q3,q5,q4⟩:=β
   have hf:∀g k,o g≠some (OB+j,k):=by have:=u.slots (OB+j);rw[W]at this;exact this
   have θ:c0=0:=q4.resolve_right λ⟨g,cs,_,z,_⟩=>hf g 0 z
   refine⟨hN,?_,m,o,?_⟩
   · rw[zQ,zQ];exact(Z.upd e1).upd (lt2 J)
   · rw[zQ,zQ,zAc (lt2 J) (by unfold HK;unfold OB at J;omega),zAc e1 e2];(have he:upd (hx (gt (zA9 j d L))) (OB+j) .free=hx (gt (zA9 j d L)):=by funext t;unfold upd;split;rename_i e;rw[e,W];rfl);rw[he];refine⟨u.same,u.sat,u.mono,u.old,u.own,u.lt,u.inj,u.pinned,λs=> ?_,u.defers,u.tbl,u.wide,u.shps⟩;by_cases e:s=d;(subst e;rw[zK,q5];exact RepD.seq k [] A' c0 0 0 (λ_ _=>undef) (vI _) q3 (λh=>absurd rfl h) (λi r h=>by simp at h) (λi r j d h=>by simp at h) (λi r j d h=>by simp at h));(rw[zE e];refine(u.slots s).turn λb l hb=>⟨l,?_⟩;rw[zE (λe3=>by rw[e3,U]at hb;cases hb),hb])
end
section
variable {w0:World}{m0:Mem}{o0:OwnM}{G:GD}{pins:List Nat}{S M:Nat->A}{a:Act}{w:World}{m:Mem}{o:OwnM}{P:Program}{N:Nat}{op:Oper}{d:Nat}
theorem h_max(U:Mk M S){ts:Array TypeId}{x y:Operand}{k ky:IntKind}{a b:Int}(J:op.op= .call {callee:= .builtin .max,args:= #[x,y],argTypes:=ts})(hx:vO M x=some (.int k a))(hy:vO M y=some (.int ky b))(hd:op.dst=some d)(u:okD N pins S d=true):OpH P pins N op S (app S [(d,.t (.d (.lit (.int k (if b>a then b else a)))))]):=by refine .of (e:=[(d,_)]) λZ=>⟨?_,zAr (zX Z u)⟩;refine zL λw0 m0 o0 G ac w m o W I=> ?_;obtain⟨h1,h2,h3⟩:=zP (qA Z u);refine⟨.int k (if b>a then b else a),w,m,o,?_,by rw[hd];exact I.set d _ _ (by omega) h2 (.lit _ rfl)⟩;unfold execOp;rw[J];simp only[resolve,invoke,builtin,wE,wQ,wC,wU,vC,vS];rw[zA0 U.hx I hx,zA0 U.hx I hy];simp[Builtin.max_,Builtin.max2]
end
section
variable {α:Type}{c:α->List D}{z:α}{k:Nat}
def ar(c:α->List D)(z:α)(l:List α):Nat->Nat->List D
 |_,0=>[]
 |i,n+1=>c (l.getD i z)++ar c z l (i+1) n
def padA(z:α)(l:List α):Nat->Nat->List α
 |_,0=>[]
 |i,n+1=>l.getD i z::padA z l (i+1) n
theorem zWX(l:List α):∀(n i:Nat),(padA z l i n).length=n
 |0,_=>rfl
 |n+1,i=>congrArg (· +1) (zWX l n (i+1))
theorem ar_pad(l:List α):∀(n i:Nat),ar c z l i n=fl c (padA z l i n)
 |0,_=>rfl
 |n+1,i=>congrArg (c (l.getD i z)++·) (ar_pad l n (i+1))
theorem zVL(l:List α):∀(n i:Nat),i+n=l.length->padA z l i n=l.drop i
 |0,i,h=>by rw[tS (by omega)];rfl
 |n+1,i,h=>by(have u:i<l.length:=by omega);show l.getD i z::padA z l (i+1) n=_;rw[zVL l n (i+1) (by omega),vL u,wK,wB u];rfl
theorem padA_id{l:List α}{n:Nat}(h:l.length=n):padA z l 0 n=l:=by rw[zVL l n 0 (by omega)];rfl
theorem ar_id{l:List α}{n:Nat}(h:l.length=n):ar c z l 0 n=fl c l:=by rw[ar_pad,padA_id h]
theorem zTZ{β:Type}{f:α->List β}(hf:∀a,(f a).length=1):∀(x:List α) (i:Nat),(fl f x).take i=fl f (x.take i)
 |[],i=>by simp[fl]
 |a::t,0=>by simp[fl]
 |a::t,i+1=>by have h:=hf a;show(f a++fl f t).take (i+1)=f a++fl f (t.take i);rw[<-zTZ hf t i];(match u:f a,h with|[b],_=>rfl)
theorem zSI{β:Type}{f:α->List β}(hf:∀a,(f a).length=1):∀(x:List α) (i:Nat),(fl f x).drop i=fl f (x.drop i)
 |[],i=>by simp[fl]
 |a::t,0=>by simp
 |a::t,i+1=>by have h:=hf a;show(f a++fl f t).drop (i+1)=fl f (t.drop i);rw[<-zSI hf t i];(match u:f a,h with|[b],_=>rfl)
theorem zUQ{β:Type}(f:α->List β)(x y:List α):fl f (x++y)=fl f x++fl f y:=List.flatMap_append
theorem flr_at{l:List α}{z:Int}{y:α}{k:Nat}(h:idx l z=some y)(u:∀a,(c a).length=k):((fl (dT c) l).drop (0+z.toNat*k)).take k=dT c y:=by rw[vF];exact fl_row (zKw u) (zFM h).2.2
def s2aI(n:Nat)(l:List α):Option (List α):=if n<=l.length then some (l.take n)else none
theorem zWh{n:Nat}{l x:List α}(h:s2aI n l=some x):n<=l.length/\x=l.take n:=by unfold s2aI at h;grind
theorem s2a_row{n:Nat}{l x:List α}(h:s2aI n l=some x):((l.map c).take n).flatMap id=ar c z x 0 n:=by obtain⟨u,rfl⟩:=zWh h;rw[ar_id (by rw[uA];omega),<-List.map_take];unfold fl;rw[List.flatMap_map];rfl
def cpyL(x:List α)(off n:Nat)(y:List α):List α:=x.take off++(y.take n++x.drop (off+min y.length n))
def cpyI(x:List α)(off n:Nat)(y:List α):Option (List α):=if off+n<=x.length then some (cpyL x off n y)else none
theorem zW7{x y v:List α}{off n:Nat}(h:cpyI x off n y=some v):off+n<=x.length/\v=cpyL x off n y:=by unfold cpyI at h;grind
theorem cpy_row(I:∀a,(c a).length=1)(x y:List α)(off n:Nat):qD (fl (dT c) x) off ((((y.map c).take n).flatMap id).map T.d)=fl (dT c) (cpyL x off n y):=by(have u:((((y.map c).take n).flatMap id).map T.d)=fl (dT c) (y.take n):=by rw[<-List.map_take,<-zLb]);have hd:=zKw I;(have J:(fl (dT c) (y.take n)).length=min y.length n:=by rw[zPV hd,uA];omega);unfold qD cpyL;rw[u,J,zTZ hd,zSI hd,zUQ,zUQ,vG]
def zRe(x:List α)(off n:Nat):Option (List α):=if off+n<=x.length then some ((x.drop off).take n)else none
theorem zRp{x y:List α}{off n:Nat}(h:zRe x off n=some y):off+n<=x.length/\y=(x.drop off).take n:=by unfold zRe at h;grind
def vcut(n:Nat)(lo hi:Int):Option Unit:=if 0<=lo/\lo<=hi/\hi<=n then some ()else none
theorem zBW{n:Nat}{lo hi:Int}{u:Unit}(h:vcut n lo hi=some u):0<=lo/\lo<=hi/\hi<=n:=by unfold vcut at h;grind
end
section
variable {w0:World}{m0:Mem}{o0:OwnM}{G:GD}{pins:List Nat}{S M:Nat->A}{a:Act}{w:World}{m:Mem}{o:OwnM}{P:Program}{N:Nat}{op:Oper}{d c:Nat}{f f':Nat->A}
theorem Inv.tell(I:Inv w0 m0 o0 G pins S a w m o)(d:Nat)(x:A)(u:(S d).isBox=false)(hx:RepA m w o (upd S d x) d x (a.tmps.getD d undef)):Inv w0 m0 o0 G pins (upd S d x) a w m o:=by refine⟨I.same,I.sat,I.mono,I.old,I.own,I.lt,I.inj,I.pinned,λs=> ?_,I.defers,I.tbl,I.wide,I.shps⟩;by_cases e:s=d;(subst e;rw[zK];exact hx);(rw[zE e];refine(I.slots s).turn λb l hb=>⟨l,?_⟩;rw[zE (λe=>by rw[e]at hb;rw[hb]at u;cases u),hb])
theorem OpOK.post{U J:Nat->A}(h:OpOK P pins N op S U)(k:∀w0 m0 o0 G a w m o,Inv w0 m0 o0 G pins U a w m o->Inv w0 m0 o0 G pins J a w m o):OpOK P pins N op S J:=
 λw0 m0 o0 G a w m o hN I K Q W=>h w0 m0 o0 G a w m o hN I K Q λZ w' m' o' u I'=>W Z w' m' o' u (k _ _ _ _ _ _ _ _ I')
theorem OpH.lo2{j:Nat}{W Z:A}(hj:Nat.blt (j+1) OB=true)(J:okD N pins S d=true)(h:N<=OB->Low S->OpOK P pins N op (hx S) (app (hx S) [(OB+j,W),(d,Z)])):OpH P pins N op S (app S [(OB+j,W),(d,Z)]):=by intro hN I;obtain⟨U,e2,e3⟩:=zXX hj;have u:=zX hN J;refine⟨?_,(I.upd U).upd (lt2 u)⟩;show OpOK P pins N op (hx S) (hx (upd (upd S (OB+j) _) d _));rw[zAc (lt2 u) (by unfold HK;unfold OB at u;omega),zAc U e2];exact h hN I
theorem zXG(u:Mk M S){j:Nat}(h:M (OB+j)= .free):hx S (OB+j)= .free:=by rcases u (OB+j)with e|e;grind;rw[e]at h;exact yM h (by simp)
theorem zS2(u:Mk M S){j:Nat}{l:List T}(h:M (OB+j)= .box l):hx S (OB+j)= .box l:=by rcases u (OB+j)with e|e;grind;rw[e]at h;exact yM h (by simp)
theorem ok_s2a(hM:Mk M S){t n e k:Nat}{x:Operand}{l:List (List D)}(β:op.op= .sliceToArrayPointer t x)(hu:P.underlying t=some (.array n e))(hx:dO M x=some (.seq k l))(hk:0<k)(η:0<n)(hn:n<=l.length)(hd:op.dst=some d)(ε:okD N pins S d=true):
 OpOK P pins N op S (upd S d (.imm ((l.take n).flatMap id))):=by
 refine zL λw0 m0 o0 G a w m o hN I=> ?_
 obtain⟨h1,h2,h3⟩:=zP ε
 have J:=zGF hM I hx
 generalize hv:a.eval x=v at J
 cases J with
  |seq _ _ A' cap g p fv θ ι hA hw hm J=>
   have α:l≠[]:=λe=>by rw[e]at hn;simp at hn;omega
   have hA:=hA α
   subst hA
   refine⟨.pointer (some ⟨g,p,none⟩),w,m,o,?_,by rw[hd];refine I.set d _ _ (by omega) h2 ⟨g,p,rfl,λj dd hj=> ?_⟩;(have U:∀r∈l.take n,r.length=k:=λr J=>by obtain⟨i,hi⟩:=vZ (List.mem_of_mem_take J);grind);(have W:j<n*k:=by have:=(wF.1 hj).1;rw[zFe U,uA]at this;grind);have Z:j/k<n:=tY (by rw[uQ];exact W);have γ:j %k<k:=Nat.mod_lt _ hk;(have he:j/k*k+j %k=j:=by rw[uQ];exact Nat.div_add_mod j k);(have δ:j/k<l.length:=by omega);obtain⟨r,u⟩:∃r,l[j/k]? =some r:=⟨_,wB δ⟩;(have ζ:(l.take n)[j/k]? =some r:=by rw[vH,if_pos Z];exact u);have h5:=zDN U ζ γ;rw[he,hj]at h5;refine⟨fv (j/k) (j %k),?_,J _ r _ dd u h5.symm⟩;have:=hm _ r _ dd u h5.symm;rw[Nat.add_assoc,he]at this;exact this⟩
   unfold execOp
   rw[β]
   simp only[wE]
   rw[hv]
   simp[Instr.arrayAt,run_underlying hu]
   grind
theorem h_s2a{α:Type}{cc:α->List D}{l y:List α}{z:α}(Z:Mk M S){t n e k:Nat}{x:Operand}(I:op.op= .sliceToArrayPointer t x)(W:P.underlying t=some (.array n e))(hx:dO M x=some (.seq k (l.map cc)))(hk:(Nat.blt 0 k&&Nat.blt 0 n)=true)(U:s2aI n l=some y)(hd:op.dst=some d)(u:okD N pins S d=true):
 OpH P pins N op S (app S [(d,.imm (ar cc z y 0 n))]):=by
 simp only[wH]at hk
 rw[<-s2a_row (z:=z) U]
 exact .of (e:=[(d,_)]) λJ=>⟨ok_s2a Z.hx I W hx (by simpa using hk.1) (by simpa using hk.2) (by rw[wM];exact(zWh U).1) hd (qA J u),zAr (zX J u)⟩
theorem h_mkh(hM:Mk M S)(hk:S HK= .hp f){t e q E:Nat}{xn xc:Operand}{kl kc:IntKind}{n:Int}{u:TypeInfo}{z:Value}{c0 l:List T}(α:op.op= .makeSlice t xn xc)(hn:vO M xn=some (.int kl n))(hc:vO M xc=some (.int kc n))(hu:P.underlying t=some (.slice e))(ζ:P.info? e=some u)(hz:u.zero=some z)
(W:zF6 (litA z)=some c0)(δ:c0.length=u.size)(hE:u.size=E)(hq:mkI u.bytes n=some q)(hl:fl (λ_=>c0) (List.replicate q ())=l)(hd:op.dst=some d)(U:okD N pins S d=true)(hf:f c= .free)(γ:f'=updF f c (.box l))(Z:Nat.blt e OFB=true):
 OpH P pins N op S (app S [(HK,.hp f'),(d,.t (.hvw c 0 e E q))]):=by
 subst hl hE
 refine h_mk hk γ U λhN ε=> ?_
 have β:=zX hN U
 refine(ok_make (j:=OB+c) hM.hx α hn hc hu ζ hz W δ hq hd (qA hN U) (by simpa using β) (zVY ε hk hf) (.inl ⟨rfl,by simpa using Z⟩)).post λw0 m0 o0 G a w m o I=> ?_
 have h:=I.slots d
 show Inv w0 m0 o0 G pins (upd (upd (hx S) (OB+(OB+c)) _) d _) a w m o
 have h1:app (hx S) [(OB+(OB+c),A.box (fl (λ_=>c0) (List.replicate q ()))),(d,.t (.view (OB+c) 0 e u.size q))] d= .t (.view (OB+c) 0 e u.size q):=zK _ _ _
 rw[h1]at h
 have J:=I.tell d (.t (.hvw c 0 e u.size q)) (by rw[h1];rfl) h
 have e2:upd (app (hx S) [(OB+(OB+c),A.box (fl (λ_=>c0) (List.replicate q ()))),(d,.t (.view (OB+c) 0 e u.size q))]) d (.t (.hvw c 0 e u.size q))=upd (upd (hx S) (OB+(OB+c)) (.box (fl (λ_=>c0) (List.replicate q ())))) d (.t (.hvw c 0 e u.size q)):=zUN _ _ _ _
 grind
theorem h_mko{α:Type}{c:α->List D}(hM:Mk M S){t e I q:Nat}{xn xc:Operand}{kl kc:IntKind}{n:Int}{ie:TypeInfo}{z:Value}{rs:List (List D)}(J:op.op= .makeSlice t xn xc)(hn:vO M xn=some (.int kl n))(hc:vO M xc=some (.int kc n))(hE:elF P t=some (e,1,I))(W:P.info? e=some ie)(hz:ie.zero=some z)(U:z.cells= #[z])(Z:z.oneCell'=true)(β:I=I)
(hq:mkI I n=some q)(hr:List.replicate q [.lit z]=rs)(hd:op.dst=some d)(u:okD N pins S d=true):OpH P pins N op S (app S [(d,.t (.own e 1 rs))]):=by
 subst hr
 exact .of (e:=[(d,_)]) λhN=>⟨ok_mko (sz:=0) hM.hx J hn hc hE W hz U Z hq hd (qA hN u),zAr (zX hN u)⟩
theorem ok_lmk{j:Nat}{l:List T}(hd:op.dst=some d)(β:okD N pins S d=true)(γ:d<OB)(U:S (OB+j)= .free)
(h:∀(w0:World) (m0:Mem) (o0:OwnM) (G:GD) (a:Act) (w:World) (m:Mem) (o:OwnM),Inv w0 m0 o0 G pins S a w m o->∃v W E,(execOp a.eval op).run P w= .ok (.value v) (w.alloc (.cells W E))/\l.length<=W.size/\
  (∀(i:Nat) (x:T),l[i]? =some x->x.noOwn=true/\∃u,W[i]? =some u/\RepT m w o (0,0) x u)/\v= .pointer (some ⟨w.heap.size,0,none⟩)):
 OpOK P pins N op S (app S [(OB+j,.box l),(d,.t (.ptr j 0))]):=by
 refine zL λw0 m0 o0 G a w m o hN I=> ?_
 obtain⟨h1,h2,h3⟩:=zP β
 obtain⟨v,W,E,Z,α,hc,rfl⟩:=h w0 m0 o0 G a w m o I
 refine⟨_,w.alloc (.cells W E),m,newO o (OB+j) w.heap.size,Z,?_⟩
 rw[hd]
 have J:=I.obj_new (E:=E) U α hc
 exact J.set d _ _ (by omega) (by rw[zE (by omega)];exact h2) ⟨_,qT _ _ _,rfl⟩
theorem h_lnew(hM:Mk M S){j E:Nat}{i:TypeInfo}{z:Value}{l0 l:List T}(α:op.op= .alloc E)(hi:P.info? E=some i)(hz:i.zero=some z)(hl:zF6 (litA z)=some l0)(W:l0=l)(hd:op.dst=some d)(J:okD N pins S d=true)(hj:Nat.blt (j+1) OB=true)(U:M (OB+j)= .free):
  OpH P pins N op S (app S [(OB+j,.box l),(d,.t (.ptr j 0))]):=by
 subst W
 refine .lo2 hj J λhN β=> ?_
 refine ok_lmk hd (qA hN J) (zX hN J) (zXG hM U) λw0 m0 o0 G a w m o I=> ?_
 have Z:zCH (litA z)=some l0:=by
  revert hl
  generalize litA z=y
  intro hl
  cases y with
  |t y=>cases y<;>first|exact hl|cases hl
  |_=>cases hl
 obtain⟨k1,k2,k3⟩:=zD4 Z (zFC (m:=m) (w:=w) (o:=o) (S:=S) 0 z)
 refine⟨_,z.cells,E,?_,by simpa using Nat.le_of_eq k1.symm,λi x hx=> ?_,rfl⟩
 ·
  unfold execOp
  rw[α]
  simp[Instr.alloc,zeroValue,typeInfo,hi,hz,newVar,newRow]
 ·
  obtain⟨q1,u,q2,q3⟩:=k3 i x hx
  exact⟨zF3 Z x (wD hx),u,by simpa using q2,q3 _ _ (zAX.refl w)⟩
theorem h_lbox(hM:Mk M S){j E:Nat}{x:Operand}{l0 l:List T}(W:op.op= .box E x)(hl:zCH (cpO M x)=some l0)(Z:l0=l)(hd:op.dst=some d)(J:okD N pins S d=true)(hj:Nat.blt (j+1) OB=true)(U:M (OB+j)= .free):
 OpH P pins N op S (app S [(OB+j,.box l),(d,.t (.ptr j 0))]):=by
 subst Z
 refine .lo2 hj J λhN α=> ?_
 refine ok_lmk hd (qA hN J) (zX hN J) (zXG hM U) λw0 m0 o0 G a w m o I=> ?_
 obtain⟨k1,k2,k3⟩:=zD4 hl (zW hM.hx I x 0)
 refine⟨_,(a.eval x).cells,E,?_,by simpa using Nat.le_of_eq k1.symm,λi x hx=> ?_,rfl⟩
 · unfold execOp;rw[W];simp[Instr.box,newVar,newRow]
 · obtain⟨q1,u,q2,q3⟩:=k3 i x hx;exact⟨zF3 hl x (wD hx),u,by simpa using q2,q3 _ _ (zAX.refl w)⟩
theorem zXh{n:Nat}{l0 h0:Option Int}{kl kh:Int->IntKind}(J:0<=l0.getD 0/\l0.getD 0<=h0.getD n/\h0.getD n<=n):
 (Instr.sliceBounds false n n (l0.map λz=> .int (kl z) z) (h0.map λz=> .int (kh z) z) none).run P w= .ok ((l0.getD 0).toNat,(h0.getD n).toNat,n) w:=by
 have I:(l0.map Int.toNat).getD 0=(l0.getD 0).toNat:=by cases l0<;>rfl
 have u:(h0.map Int.toNat).getD n=(h0.getD n).toNat:=by cases h0<;>simp
 rw[<-I,<-u]
 unfold Instr.sliceBounds
 cases l0<;>cases h0<;>simp only[sZ,uM,tU,uG,sL,tR]at J⊢ <;>
  (simp only[wE,wQ,wC]
   repeat(rw[zAk (by omega) (by omega),wC]))
theorem sla_run{t n e g off:Nat}{I:TypeInfo}{l0 h0:Option Int}{kl kh:Int->IntKind}(J:P.underlying t=some (.array n e))(u:P.info? e=some I)(U:0<=l0.getD 0/\l0.getD 0<=h0.getD n/\h0.getD n<=n):
 (Instr.sliceAt t (.pointer (some ⟨g,off,none⟩)) (l0.map λz=> .int (kl z) z) (h0.map λz=> .int (kh z) z) none).run P w= .ok (.slice (some (if n=(l0.getD 0).toNat then⟨g,off,none⟩else⟨g,off+(l0.getD 0).toNat*I.size,none⟩)) ((h0.getD n).toNat-(l0.getD 0).toNat) (n-(l0.getD 0).toNat)) w:=by
 unfold Instr.sliceAt
 simp only[wE,run_underlying J,wC]
 rw[show(Instr.sureAddr (.pointer (some ⟨g,off,none⟩))).run P w= .ok ⟨g,off,none⟩ w from rfl,wC,zXh U]
 simp[sizeOf,typeInfo,u,Addr.add_mid]
theorem ok_sla{j off n t e:Nat}{x:Operand}{lo hi:Option Operand}{l0 h0:Option Int}{u:TypeInfo}{l:List T}(hM:Mk M S)(J:op.op= .slice t x lo hi none)(hx:∀{w0 m0 o0 G a w m o},Inv w0 m0 o0 G pins S a w m o->∃g,o g=some (OB+j,0)/\a.eval x= .pointer (some ⟨g,off,none⟩))(hb:S (OB+j)= .box l)(W:bndO M lo=some l0)(U:bndO M hi=some h0)(hu:P.underlying t=some (.array n e))(α:P.info? e=some u)
(β:off+n*u.size<=l.length)(hn:n<=65536)(hc:0<=l0.getD 0/\l0.getD 0<=h0.getD n/\h0.getD n<=n)(hd:op.dst=some d)(Z:okD N pins S d=true):
 OpOK P pins N op S (upd S d (.t (.view j (off+(l0.getD 0).toNat*u.size) 0 u.size ((h0.getD n).toNat-(l0.getD 0).toNat)))):=by
 refine zL λw0 m0 o0 G a w m o hN I=> ?_
 obtain⟨h1,h2,h3⟩:=zP Z
 obtain⟨g,k1,k2⟩:=hx I
 have hs:=I.slots (OB+j)
 rw[hb]at hs
 obtain⟨g',_,q1,q2,cs,E,q3,q4,q5⟩:=hs
 have:=I.inj _ _ _ k1 q1
 subst this
 obtain⟨kl,e1⟩:=zFv hM I W
 obtain⟨kh,e2⟩:=zFv hM I U
 refine⟨.slice (some (if n=(l0.getD 0).toNat then⟨g,off,none⟩else⟨g,off+(l0.getD 0).toNat*u.size,none⟩)) ((h0.getD n).toNat-(l0.getD 0).toNat) (n-(l0.getD 0).toNat),w,m,o,?_,?_⟩
 · unfold execOp;rw[J];simp only[wE];rw[e1,e2,k2];show Result.andThen (Sem.run P (Instr.sliceAt t _ _ _ none) w) _=_;rw[sla_run hu α hc];rfl
 · rw[hd];refine I.set d _ _ (by omega) h2 ?_;refine⟨_,n-(l0.getD 0).toNat,by omega,by unfold maxLen;omega,rfl,?_⟩;by_cases hz:n=(l0.getD 0).toNat;exact .inl (by omega);(refine .inr ⟨g,cs,E,k1,by rw[if_neg hz],q3,?_,.inl rfl⟩;(have:(l0.getD 0).toNat*u.size+(n-(l0.getD 0).toNat)*u.size=n*u.size:=by rw[<-tE];congr 1;omega);omega)
theorem h_sla(hM:Mk M S){j off n t e:Nat}{x:Operand}{lo hi:Option Operand}{l0 h0:Option Int}{J:TypeInfo}{l:List T}{y:T}(β:op.op= .slice t x lo hi none)(hx:cpO M x= .ref (OB+j) off)(hb:M (OB+j)= .box l)(Z:bndO M lo=some l0)(U:bndO M hi=some h0)(hu:P.underlying t=some (.array n e))(W:P.info? e=some J)
(α:Nat.ble (off+n*J.size) l.length=true)(hn:Nat.ble n 65536=true)(hc:0<=l0.getD 0/\l0.getD 0<=h0.getD n/\h0.getD n<=n)(hy:T.view j (off+(l0.getD 0).toNat*J.size) 0 J.size ((h0.getD n).toNat-(l0.getD 0).toNat)=y)(hd:op.dst=some d)(u:okD N pins S d=true):OpH P pins N op S (app S [(d,.t y)]):=by
 subst hy
 refine .of (e:=[(d,_)]) λhN=>⟨ok_sla hM.hx β (λ{w0 m0 o0 G a w m o} I=> ?_) (zS2 hM hb) Z U hu W (by simpa using α) (by simpa using hn) hc hd (qA hN u),zAr (zX hN u)⟩
 have h:=zW hM.hx I x 0
 rw[hx]at h
 obtain⟨g,h1,h2,_⟩:=h
 grind
theorem Inv.box_spl(I:Inv w0 m0 o0 G pins S a w m o){b g off E:Nat}{l:List T}{cs:Array Value}{q:List D}{vs:List Value}(hb:S b= .box l)(h1:o g=some (b,0))(h4:w.heap[g]? =some (.cells cs E (0,0)))(γ:l.length<=cs.size)(h6:∀(j:Nat) (x:T),l[j]? =some x->x.isAgg=false/\∃u,cs[j]? =some u/\RepT m w o (b,j+1) x u)
(hv:RepL m q vs)(δ:off+q.length<=l.length):Inv w0 m0 o0 G pins (upd S b (.box (qD l off (q.map .d)))) a (w.setRow g (qD cs.toList off vs).toArray) m o:=by
 have β:=hv.1
 have α:(qD cs.toList off vs).length=cs.toList.length:=zAM cs.toList off vs (by simp only[vE];omega)
 have Z:(qD cs.toList off vs).toArray.size=cs.size:=by simpa using α
 refine I.box_put hb h1 h4 (cs':=(qD cs.toList off vs).toArray) Z o (λ_=>False) (λs h=>h.elim) (λg l h _ _=>h) h1 (λg l h=>⟨l,h⟩) I.inj (λg l l' h h' k=>by rw[h]at h';injection h' with h';rw[h'];exact k) ?_ (λj z U=> ?_)
 · exact zAM l off _ (by rw[wM];omega)
 · (have W:(qD cs.toList off vs).toArray[j]? =(qD cs.toList off vs)[j]? :=by simp);rw[W,zCA cs.toList off vs (by simp only[vE];omega)];rw[zCA l off _ (by rw[wM];omega),wM]at U;rw[β];split at U;(rename_i J;rw[if_pos J];rw[wG]at U;(cases hq:q[j-off]? with|none=>grind|some dd=>rw[hq]at U;cases U;obtain⟨u,k1,k2⟩:=hv.2 _ dd hq;exact⟨rfl,u,k1,k2⟩));(rename_i J;rw[if_neg J];obtain⟨k0,u,k1,k2⟩:=h6 j z U;exact⟨k0,u,by simpa using k1,zSD h1 h4 Z (by intro e;injection e with _ e;omega) k0 k2⟩)
theorem run_copy0{t t' e ty:Nat}{ie:TypeInfo}{A1 U:Option Addr}{Z c1 W c2:Nat}(J:P.underlying t=some (.slice e))(u:P.info? e=some ie)(h0:min W Z=0):
 (Builtin.copy_ #[t,t'] ty #[.slice A1 Z c1,.slice U W c2]).run P w= .ok (goInt 0) w:=by
 have I:Nat.min W Z=0:=h0
 cases A1 with
  |none=>cases U with|none=>simp[Builtin.copy_,run_underlying J,Builtin.lenOf,Builtin.firstCells,sizeOf,typeInfo,u,I,storeCells]|some a2=>have:=run_loadCells_list (P:=P) w a2 [] (λj v h=>by simp at h);simp only[tC]at this;simp[Builtin.copy_,run_underlying J,Builtin.lenOf,Builtin.firstCells,sizeOf,typeInfo,u,I,storeCells,this]
  |some a1=>cases U with|none=>simp[Builtin.copy_,run_underlying J,Builtin.lenOf,Builtin.firstCells,sizeOf,typeInfo,u,I,storeCells]|some a2=>have:=run_loadCells_list (P:=P) w a2 [] (λj v h=>by simp at h);simp only[tC]at this;simp[Builtin.copy_,run_underlying J,Builtin.lenOf,Builtin.firstCells,sizeOf,typeInfo,u,I,storeCells,this]
theorem flat1:∀{rs:List (List D)},(∀r∈rs,r.length=1)->(rs.flatMap id).length=rs.length
 |rs,h=>by rw[zFe h,uI]
theorem zR8{α:Type}(l:List α)(off:Nat):qD l off []=l:=by unfold qD;simp
theorem ok_cpy(hM:Mk M S){j off E n t t' e:Nat}{x y:Operand}{ie:TypeInfo}{l:List T}{l':List (List D)}(β:op.op= .call {callee:= .builtin .copy,args:= #[x,y],argTypes:= #[t,t']})(hu:P.underlying t=some (.slice e))(ι:P.info? e=some ie)(ρ:ie.size=1)(hx:∀{w0 m0 o0 G a w m o},Inv w0 m0 o0 G pins S a w m o->RepT m w o (0,0) (.view j off E 1 n) (a.eval x))(hb:S (OB+j)= .box l)(hy:slD 1 (dO M y)=some l')(τ:∀r∈l',r.length=1)(hle:off+n<=l.length)(hd:op.dst=some d)(φ:okD N pins S d=true)(hdO:d<OB):
  OpOK P pins N op S (app S [(OB+j,.box (qD l off (((l'.take n).flatMap id).map .d))),(d,.t (.d (.lit (.int .i64 ((min l'.length n:Nat):Int)))))]):=by
 refine zL λw0 m0 o0 G a w m o hN I=> ?_
 obtain⟨h1,h2,h3⟩:=zP φ
 have ν:RepD m (.seq 1 l') (a.eval y):=zJY hy λd hd=>zGF hM I hd
 obtain⟨A2,c2,xs,γ,_,_,Z,θ,δ⟩:=ν.rows
 obtain⟨A1,c1,k1,k2,ε,k4⟩:=hx I
 have μ:xs.length=l'.length:=by have:=Z.1;omega
 have W:∀x,(upd S (OB+j) x d).isBox=false:=λx=>by rw[zE (by omega)];exact h2
 by_cases h0:min l'.length n=0
 ·
  have he:(l'.take n).flatMap id=[]:=by
   grind
  refine⟨goInt 0,w,m,o,?_,?_⟩
  ·
   unfold execOp
   rw[β]
   simp only[resolve,invoke,builtin,wE,wQ,wC,wU,vC,vS]
   rw[ε,γ,run_copy0 hu ι h0]
   rfl
  ·
   rw[hd,he,h0]
   show Inv w0 m0 o0 G pins (upd (upd S (OB+j) (.box (qD l off []))) d _) _ w m o
   rw[zR8]
   have e1:upd S (OB+j) (.box l)=S:=by
    funext s
    unfold upd
    grind
   rw[e1]
   exact I.set d _ _ (by omega) h2 (.lit _ rfl)
 ·
  obtain⟨g,cs,E',q1,q2,q3,q4,_⟩:=k4.resolve_left λe=>by omega
  clear k4
  subst q2
  have hs:=I.slots (OB+j)
  rw[hb]at hs
  obtain⟨g',_,p1,p2,cs',E2,p3,p4,p5⟩:=hs
  have:=I.inj _ _ _ q1 p1
  subst this
  rw[q3]at p3
  cases p3
  have U:(xs.take (min l'.length n)).length=Nat.min l'.length n:=by
   grind
  have π:0<xs.length:=by rw[μ];exact wN (Nat.pos_of_ne_zero h0) (Nat.min_le_left _ _)
  have ψ:∃u,xs[0]? =some u:=⟨_,wB π⟩
  obtain⟨u0,σ⟩:=ψ
  obtain⟨g2,o2,rfl,_⟩:=δ 0 u0 σ
  have ζ:=run_copy_row P w t t' op.type e g off n c1 ⟨g2,o2,none⟩ l'.length c2 cs E' (xs.take (min l'.length n)) hu (by rw[ι,<-ρ];rfl) q3 U (λq v hq=>by
   rw[vH]at hq
   split at hq
   ·
    obtain⟨g3,o3,e3,ξ⟩:=δ q v hq
    cases e3
    rw[Addr.add_mid]
    exact I.sat _ _ _ ξ
   · cases hq) (by rw[U];show off+min l'.length n<=cs.size;omega) (λv hv=>θ v (List.mem_of_mem_take hv))
  have η:∀r∈l'.take n,r.length=1:=λr hr=>τ r (List.mem_of_mem_take hr)
  have α:((l'.take n).flatMap id).length=min l'.length n:=by rw[flat1 η,uA,Nat.min_comm]
  have κ:RepL m ((l'.take n).flatMap id) (xs.take (min l'.length n)):=by
   refine⟨by rw[U,α],λq dd hq=> ?_⟩
   have ω:q<min l'.length n:=by rw[<-α];exact(wF.1 hq).1
   obtain⟨r,hr⟩:∃r,l'[q]? =some r:=⟨_,wB (by omega)⟩
   have χ:(l'.take n)[q]? =some r:=by rw[vH,if_pos (by omega)];exact hr
   have h5:=zDN η χ (q:=0) (by omega)
   rw[uI,uC,hq]at h5
   obtain⟨u,z1,z2⟩:=Z.2.2 q r 0 dd hr h5.symm
   grind
  have J:=I.box_spl (off:=off) hb q1 q3 p4 p5 κ (by rw[α];omega)
  refine⟨goInt (xs.take (min l'.length n)).length,w.setRow g (qD cs.toList off (xs.take (min l'.length n))).toArray,m,o,?_,?_⟩
  ·
   unfold execOp
   rw[β]
   simp only[resolve,invoke,builtin,wE,wQ,wC,wU,vC,vS]
   rw[ε,γ,ζ]
   rfl
  ·
   rw[hd]
   have J2:=J.set d (.t (.d (.lit (.int .i64 ((min l'.length n:Nat):Int))))) (goInt (xs.take (min l'.length n)).length) (by omega) (W _) (by rw[U];exact RepD.lit _ rfl)
   exact J2
theorem h_cpy{α:Type}{cc:α->List D}{U yl v:List α}(W:Mk M S){j off E n t t' e:Nat}{x y:Operand}{ie:TypeInfo}(β:op.op= .call {callee:= .builtin .copy,args:=⟨[x,y]⟩,argTypes:=⟨[t,t']⟩})(hu:P.underlying t=some (.slice e))(Z:P.info? e=some ie)(J:ie.size=1)(hx:cpO M x= .t (.view j off E 1 n))(hb:M (OB+j)= .box (fl (dT cc) U))(hc:∀a,(cc a).length=1)(hy:slD 1 (dO M y)=some (yl.map cc))(hv:cpyI U off n yl=some v)(hj:Nat.blt (j+1) OB=true)(hd:op.dst=some d)(u:okD N pins S d=true):
 OpH P pins N op S (app S [(OB+j,.box (fl (dT cc) v)),(d,.t (.d (.lit (.int .i64 ((min yl.length n:Nat):Int)))))]):=by
 obtain⟨h1,rfl⟩:=zW7 hv
 refine .lo2 hj u λhN γ=> ?_
 rw[<-cpy_row hc]
 have:=ok_cpy (j:=j) (off:=off) (E:=E) (n:=n) (l:=fl (dT cc) U) (l':=yl.map cc) W.hx β hu Z J (λ{w0 m0 o0 G a w m o} I=>by have h:=zW W.hx I x 0;rw[hx]at h;(exact h)) (zS2 W hb) hy (λr hr=>by obtain⟨a,_,rfl⟩:=vW.1 hr;exact hc a) (by rw[zPV (zKw hc)];omega) hd (qA hN u) (zX hN u)
 grind
end
end Go.Proofs.YtocolhfjpadaoaaGreatDoor
