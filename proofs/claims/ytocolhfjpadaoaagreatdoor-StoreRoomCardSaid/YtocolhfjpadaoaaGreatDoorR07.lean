/-
  Lemmas of this claim, joined.
-/
import Derived.Test.YtocolhfjpadaoaaGreatDoorR06
set_option linter.unusedVariables false
set_option linter.unusedSimpArgs false
set_option linter.constructorNameAsVariable false
namespace Go.Proofs.YtocolhfjpadaoaaGreatDoor
open Go
abbrev tI:=@World.size_alloc
end Go.Proofs.YtocolhfjpadaoaaGreatDoor
namespace Go.Proofs.YtocolhfjpadaoaaGreatDoor
open Go Go.RowKit
variable {P:Program}{w0:World}{w:World}{m0:Mem}{m:Mem}{o0:OwnM}{o:OwnM}{G:GD}{pins:List Nat}{N:Nat}{a:Act}{op:Oper}{S:Nat->A}{M:Nat->A}{L:SL}{v:Value}{W:World}{Q:Mem}{X:OwnM}
def zA(l:Nat)(u:Obj)(J:Mem)(I:OwnM)(cs:List (List T)):Nat->A:=λi=>if i=0 then .rcd l u J I else match cs[i-1]? with
 |some c=> .box c
 |none=> .free
def Stat(I:Mem)(J:OwnM):A->Value->Prop
 | .any,_=>True
 | .t (.d x),v=>RepD I x v
 | .t (.agg l),v=>∃U:Array Value,v= .agg U/\RepL I l U.toList
 | .t (.hpt c off),v=>c %64≠63/\∃g,J g=some (OB+(OB+c),0)/\v= .pointer (some ⟨g,off,none⟩)
 | .t (.opt t p),v=>t %64≠63/\((p=none/\v= .pointer none)\/∃i,p=some i/\∃g,J g=some (OB+(OB+cd t i),0)/\v= .pointer (some ⟨g,0,none⟩))
 | .imm l,v=>∃g p,v= .pointer (some ⟨g,p,none⟩)/\∀(j:Nat) (d:D),l[j]? =some d->∃u,I g (p+j)=some u/\RepD I d u
 |_,_=>False
theorem Stat.rep{mE:Mem}{Z:OwnM}{s:Nat}(I:Mle mE m)(W:∀g c,c %64≠63->Z g=some (OB+(OB+c),0)->o g=some (OB+(OB+c),0)){x:A}(h:Stat mE Z x v):RepA m w o S s x v:=by(cases x with|any=>trivial|imm l=>obtain⟨g,p,e,h⟩:=h;exact⟨g,p,e,λj d hj=>let⟨u,a,b⟩:=h j d hj;⟨u,I _ _ _ a,b.mono I⟩⟩|t x=>(cases x with|d x=>exact RepD.mono I h|agg l=>obtain⟨vs,e,h⟩:=h;exact⟨vs,e,h.mono I⟩|hpt c off=>obtain⟨hc,g,U,J⟩:=h;exact⟨g,W g c hc U,J⟩|opt t p=>obtain⟨hc,h⟩:=h;exact h.imp id λ⟨i,e,g,U,J⟩=>⟨i,e,g,W g _ (by unfold cd;omega) U,J⟩|_=>exact h.elim)|_=>exact h.elim)
structure Head(bs:List Nat)(N:Nat)(r:Loop)(mE:Mem)(oE:OwnM)(L0:SL):Prop where
 size:r.tmps.size=N
 st:∀s,s<OB->s∉bs->Stat mE oE (gt L0 s) (r.tmps.getD s undef)
 bx:∀(i b:Nat),bs[i]? =some b->∃g,r.tmps.getD b undef= .pointer (some ⟨g,0,none⟩)/\oE g=some (OB+(OB+cd 63 (i+1)),0)
 lo:∀s,OB<=s->gt L0 s= .any\/(gt L0 s= .free/\s<HK)
def LR(u:List Nat)(args:List A)(f:Nat->A)(bs:List Nat)(cs:List (List T))(L0:SL):SL:=u.zip args++((HK,.hp f)::(bs.zip (cs.map A.box)++L0))
theorem zQw(x:Nat)(r:List Nat)(j:Nat):posN (x::r) j=if x=j then some 0 else(posN r j).map (· +1):=rfl
theorem zPW:∀(u:List Nat) (xs:List A) (R:SL) (s:Nat),u.length=xs.length->gt (u.zip xs++R) s=match posN u s with|some i=>xs.getD i .any|none=>gt R s
 |[],xs,R,s,_=>by simp[posN]
 |k::u,[],R,s,h=>by cases h
 |k::u,x::xs,R,s,h=>by show gt ((k,x)::(u.zip xs++R)) s=_;rw[zR,upd,zPW u xs R s (by simpa using h)];rw[zQw];grind
theorem zP0:∀(I:List Nat) (vs:List Value) (t:Array Value) (s:Nat),I.Nodup->(∀p∈I,p<t.size)->I.length=vs.length->
 ((I.zip vs).foldl (λ(u:Array Value) x=>u.setIfInBounds x.1 x.2) t).size=t.size/\((I.zip vs).foldl (λ(u:Array Value) x=>u.setIfInBounds x.1 x.2) t).getD s undef=match posN I s with|some i=>vs.getD i undef|none=>t.getD s undef
 |[],vs,t,s,_,_,_=>by simp[posN]
 |p::I,[],t,s,_,_,h=>by cases h
 |p::I,v::vs,t,s,hn,hp,h=>by rw[List.nodup_cons]at hn;obtain⟨U,J⟩:=zP0 I vs (t.setIfInBounds p v) s hn.2 (λq hq=>by simpa using hp q (vG _ hq)) (by simpa using h);refine⟨by simpa using U,?_⟩;show(((I.zip vs).foldl (λ(u:Array Value) x=>u.setIfInBounds x.1 x.2) (t.setIfInBounds p v))).getD s undef=_;rw[J];rw[zQw];have hpt:=hp p (by simp);by_cases e:p=s;(subst e;rw[if_pos rfl];(cases hq:posN I p with|none=>simp[wM,hpt]|some i=>exact absurd (wC (zCS hq)) hn.1));(rw[if_neg e];(cases hq:posN I s with|none=>simp[wM,uX,e]|some i=>simp))
theorem zS6(args ins:List A)(f:Nat->A)(c:Nat):argH args ins f (OB+(OB+c))=san (f c):=by unfold argH;rw[if_neg (by omega),<-yK,if_pos (vD _ _),wP]
theorem hz_n{f z:Nat->A}{c:Nat}(h:c %64≠63):hz f z c=f c:=by unfold hz;rw[if_neg h]
theorem hz_z{f z:Nat->A}(i:Nat):hz f z (cd 63 i)=z i:=by unfold hz;rw[if_pos (zEE i),c63_div]
theorem zA_0{l:Nat}{u:Obj}{J:Mem}{I:OwnM}{cs:List (List T)}:zA l u J I cs 0= .rcd l u J I:=rfl
theorem zA_s{l:Nat}{u:Obj}{J:Mem}{I:OwnM}{cs:List (List T)}{i:Nat}:zA l u J I cs (i+1)=match cs[i]? with|some c=> .box c|none=> .free:=by unfold zA;grind
structure NC(f:Nat->A):Prop extends NZ f where
 c:∀c l,san (f c)= .box l->nzC l
theorem zTh{bs:List Nat}(γ:bs.Nodup)(J:∀b∈bs,b<OB){l:Nat}{mE:Mem}{oE:OwnM}{S S':Nat->A}{vs:Nat->Value}{f:Nat->A}{cs:List (List T)}{u:Obj}(hf:NC f)(δ:cs.length=bs.length)(α:∀c∈cs,nzC c)
(hl:o l=none)(hm:∀p,m l p=none)(hu:w.heap[l]? =some u)(ε:Mle mE m)(β:∀g c,oE g=some (OB+(OB+c),0)->toY bs l o g=some (OB+(OB+c),0))
(hh:∀c,∃v,RepA m w o S (OB+(OB+c)) (san (f c)) v)(hb:∀(i b:Nat),bs[i]? =some b->∃(c:List T) (v:Value),cs[i]? =some c/\RepA m w o S b (.box c) v)(c:Nat)(v:Value):
 RepA m w (toY bs l o) S' (OB+(OB+c)) (san (hz f (zA l u mE oE cs) c)) v:=by
 have U:∀g c k,c %64=63->o g≠some (OB+(OB+c),k):=λg c k I=>by obtain⟨v,this⟩:=hh c;rw[hf.z c I]at this;exact this g k
 have V:=VW.toY γ J hl U
 by_cases I:c %64=63
 · obtain⟨i,rfl⟩:∃i,c=cd 63 i:=⟨c/64,by unfold cd;omega⟩;rw[hz_z];(cases i with|zero=>rw[zA_0];exact⟨(zKt J hl).2 (.inl ⟨rfl,rfl⟩),hm,hu,ε,β⟩|succ i=>rw[zA_s];(cases hi:cs[i]? with|none=>intro g k h;rcases(zKt J hl).1 h with⟨_,h⟩|⟨_,h⟩|⟨i',b',W,h,_⟩;(injection h with h _;unfold cd at h;omega);exact U g _ k (zEE _) h;(have h:OB+(OB+cd 63 (i+1))=OB+(OB+cd 63 (i'+1)):=h;(have:i=i':=by unfold cd at h;omega);subst this;have h2:=(wB.1 (zCS W)).1;rw[List.getElem?_eq_none_iff]at hi;omega)|some cc=>(have Z:i<bs.length:=by rw[<-δ];exact(wB.1 hi).1);obtain⟨c2,v2,W,g,h2,h3⟩:=hb i _ (wF Z);rw[hi]at W;cases W;exact⟨g,λh=>absurd h (by omega),zPV (λg c I=>(V.hh g c 0 I).1) (λg k=>(V.hb i _ g k (wF Z)).1) (α cc (wC hi)) h3⟩))
 · rw[hz_n I];obtain⟨v0,h⟩:=hh c;rcases zEu (f c)with⟨l1,hl1⟩|hl1|hl1|⟨l1,hl1⟩|⟨b,u,mE,oE,hl1⟩;(have hn:=hf.c c l1 hl1;rw[hl1]at h⊢;obtain⟨g,_,h3⟩:=h;exact⟨g,λh=>absurd h (by omega),zPV (λg c I=>(V.hh g c 0 I).1) (λg k=>(V.hh g c k I).1) hn h3⟩);(rw[hl1]at h⊢;exactλg k e=>h g k ((V.hh g c k I).2 e));rw[hl1];trivial;(rw[hl1]at h⊢;obtain⟨g,k1,k2⟩:=h;exact⟨g,(V.hh g c 0 I).1 k1,k2⟩);exact absurd hl1 (hf.r c _ _ _ _)
theorem yld_mk{bs U:List Nat}{l:Nat}{r:Loop}{mE:Mem}{oE:OwnM}{L0:SL}{args:List A}{f f':Nat->A}{cs cs':List (List T)}{b:Bool}
(hN:N<=OB)(μ:bs.Nodup)(hbN:∀b∈bs,b<N)(hpn:U.Nodup)(hpN:∀p∈U,p<N)(hpb:∀p∈U,p∉bs)(hpl:U.length<=OB)(H:Head bs N r mE oE L0)(hr:r.state= .ready)(hpd:r.pending=none)(hps:r.params=U.toArray)
(hal:args.length=U.length)(hap:args.all A.plain=true)(hf:NC f)(hf':NC f')(hcl:cs.length=bs.length)(hcl':cs'.length=bs.length)(hcc:∀c∈cs,nzC c)(hcc':∀c∈cs',nzC c)
(hA:qK P bs N r.assign (λe L1=>e= .normal/\qK P bs N r.body (λe L2=>((e= .normal/\b=true)\/(e= .ret/\b=false))/\gt L2 HK= .hp f'/\∀(i s:Nat),bs[i]? =some s->∃c,cs'[i]? =some c/\gt L2 s= .box c) L1) (LR U args f bs cs L0)):
 YLD P l args (hz f (zA l (.loop r) mE oE cs)) (hz f' (zA l (.loop (if b then r else{r with state:= .done,pending:=some .ret})) mE oE cs')) b:=by
 intro W m o I hsat htbl hlt ε hsz δ
 have γ:∀b∈bs,b<OB:=λb h=>wO (hbN b h) hN
 have hDK:DK∉bs:=λh=>by have:=γ _ h;unfold DK at this;unfold OB at this;omega
 obtain⟨k1,k2,k3,k4,k5⟩:RepA m W o (argH args [] (hz f (zA l (.loop r) mE oE cs))) (OB+(OB+cd 63 0)) (.rcd l (.loop r) mE oE) (I.getD (OB+(OB+cd 63 0)) undef):=by have h:=δ (OB+(OB+cd 63 0));rw[zS6,hz_z,zA_0]at h;exact h
 have hheap:∀c,c %64≠63->RepA m W o (argH args [] (hz f (zA l (.loop r) mE oE cs))) (OB+(OB+c)) (san (f c)) (I.getD (OB+(OB+c)) undef):=λc hc=>by have h:=δ (OB+(OB+c));rw[zS6,hz_n hc]at h;exact h
 have hzb:∀i,RepA m W o (argH args [] (hz f (zA l (.loop r) mE oE cs))) (OB+(OB+cd 63 (i+1))) (match cs[i]? with|some c=> .box c|none=> .free) (I.getD (OB+(OB+cd 63 (i+1))) undef):=λi=>by have h:=δ (OB+(OB+cd 63 (i+1)));rw[zS6,hz_z,zA_s]at h;(cases hi:cs[i]? with|none=>rw[hi]at h;exact h|some c=>rw[hi]at h;exact h)
 have V:=VW.ofY (o:=o) μ γ
 have hof:∀g q,ofY bs o g=some q->o g≠none:=λg q h=>by rcases zDI.1 h with⟨_,_,_,h⟩|⟨_,_,h⟩<;>rw[h]<;>simp
 have Z:ofY bs o l=none:=by(cases hq:ofY bs o l with|none=>rfl|some q=>rcases zDI.1 hq with⟨c,hc,h1,h2⟩|⟨i,_,h2⟩;(rw[k1]at h2;injection h2 with h2;rw[<-h2]at h1;have h1:OB+(OB+cd 63 0)=OB+(OB+c):=h1;(have:c=cd 63 0:=by omega);exact absurd (by rw[this];exact zEE 0) hc);(rw[k1]at h2;injection h2 with h2;injection h2 with h2 _;unfold cd at h2;omega))
 have β:l<W.heap.size:=hlt l _ k1
 have hvl:U.length=I.toList.length:=by rw[<-hal,<-hsz];simp
 obtain⟨tsz,_⟩:=zP0 U I.toList r.tmps 0 hpn (λp hp=>by rw[H.size];exact hpN p hp) hvl
 have tget:=λs=>(zP0 U I.toList r.tmps s hpn (λp hp=>by rw[H.size];exact hpN p hp) hvl).2
 have hfold:((r.params.zip I).foldl (λtmps (t,a)=>tmps.setIfInBounds t a) r.tmps)=(U.zip I.toList).foldl (λ(tmps:Array Value) x=>tmps.setIfInBounds x.1 x.2) r.tmps:=by rw[hps,<-Array.foldl_toList,Array.toList_zip]
 have ξ:∀{ks:List Nat} {s i:Nat},posN ks s=some i->s∈ks:=λh=>wC (zCS h)
 have gLR:∀s,gt (LR U args f bs cs L0) s=match posN U s with|some i=>args.getD i .any|none=>if s=HK then .hp f else match posN bs s with|some i=>(cs.map A.box).getD i .any|none=>gt L0 s:=by intro s;show gt (U.zip args++((HK,.hp f)::(bs.zip (cs.map A.box)++L0))) s=_;rw[zPW _ _ _ _ hal.symm,zR,upd,zPW _ _ _ _ (by rw[wL,hcl])]
 have hHK:∀{ks:List Nat} {i:Nat},(∀k∈ks,k<OB)->posN ks HK≠some i:=λh e=>by have:=h _ (ξ e);unfold HK OB at this;omega
 have hpO:∀p∈U,p<OB:=λp h=>wO (hpN p h) hN
 have ψ:Low (gt (LR U args f bs cs L0)):=by intro t ht;rw[gLR];(have hno:∀{ks:List Nat},(∀k∈ks,k<OB)->posN ks t=none:=λ{ks} h=>by(cases hq:posN ks t with|none=>rfl|some i=>have:=h _ (ξ hq);unfold OB OB2 at*;omega));rw[hno hpO,hno γ];simp only;rw[if_neg (by unfold HK OB2 at*;omega)];(exact(H.lo t (by unfold OB OB2 at*;omega)).resolve_right λh=>by have:=h.2;unfold HK OB2 at*;omega)
 have hkR:gt (LR U args f bs cs L0) HK= .hp f:=by rw[gLR];(cases hq:posN U HK with|some i=>exact absurd hq (hHK hpO)|none=>simp)
 have I0:Inv W m (rs bs (ofY bs o)) ⟨λg=>ofY bs o g≠none,[]⟩ bs (hx (gt (LR U args f bs cs L0))) {tmps:=(U.zip I.toList).foldl (λ(tmps:Array Value) x=>tmps.setIfInBounds x.1 x.2) r.tmps,defers:=[]} W m (ofY bs o):=by refine⟨.refl _ _,hsat,.refl _,λ_ _ _=>rfl,λg q h=> .inl (by show ofY bs o g≠none;rw[h];simp),λg q h=> ?_,λg g' q h h'=> ?_,λs _ g h=>(zON.1 h).2,λs=> ?_,rfl,htbl,by rw[tsz,H.size];exact hN,λg j h=>⟨?_,.refl _ _⟩⟩;rcases zDI.1 h with⟨_,_,_,h⟩|⟨_,_,h⟩<;>exact hlt g _ h;(rcases zDI.1 h with⟨c,c1,c2,h⟩|⟨i,c2,h⟩<;>rcases zDI.1 h' with⟨c',c1',c2',h'⟩|⟨i',c2',h'⟩;exact ε g g' q h h';have:=γ _ (wC c2');omega;have:=γ _ (wC c2);omega;(have e1:=zDn μ c2;rw[zDn μ c2']at e1;cases e1;exact ε g g' _ h h'));(rcases wY s OB2 with h2|h2;(rw[zDY h2,gLR];show RepA m W (ofY bs o) _ s _ (((U.zip I.toList).foldl (λ(tmps:Array Value) x=>tmps.setIfInBounds x.1 x.2) r.tmps).getD s undef);rw[tget s];(cases hp:posN U s with|some i=>simp only;have hi:i<U.length:=(wB.1 (zCS hp)).1;have h:=δ i;(have hiO:i<OB:=by have:=hpO s (ξ hp);omega);(have e:argH args [] (hz f (zA l (.loop r) mE oE cs)) i=args.getD i .any:=by unfold argH;rw[if_pos hiO]);rw[e]at h;(have hpl:(args.getD i .any).plain=true:=by rw[wK,wF (by omega)];exact wG.1 hap _ (uA _));have:=zJa (s':=s) (S':=hx (gt (LR U args f bs cs L0))) (w':=W) (o':=ofY bs o) hpl h;simpa using this|none=>simp only;by_cases e:s=HK;rw[if_pos e];trivial;(rw[if_neg e];(cases hb:posN bs s with|none=>simp only;by_cases hs:s<OB;((have hsb:s∉bs:=λhm=>by obtain⟨i,hi⟩:=uG hm;rw[zDn μ hi]at hb;cases hb);exact(H.st s hs hsb).rep k4 λg c hc h=>(V.hh g c 0 hc).2 (k5 g c h));(rcases H.lo s (by omega)with e0|⟨e0,e1⟩;rw[e0];trivial;(rw[e0];intro g k h;rcases zDI.1 h with⟨c,_,q1,_⟩|⟨i,q1,_⟩;(have q1:s=OB+(OB+c):=q1;unfold HK at e1;unfold OB at q1;omega);exact hs (γ s (wC q1))))|some i=>simp only;have κ:=zCS hb;have hi:i<bs.length:=(wB.1 κ).1;(have hic:i<cs.length:=by omega);obtain⟨g0,q1,q2⟩:=H.bx i s κ;have ν:=hzb i;rw[wF hic]at ν;obtain⟨g,_,q3⟩:=ν;have:g=g0:=ε g g0 _ q3.1 (k5 _ _ q2);subst this;(have e2:(cs.map A.box).getD i .any= .box cs[i]:=by rw[wK,wH,wF hic];rfl);rw[e2,q1];exact⟨g,λ_=>rfl,zPV (λg c hc=>(V.hh g c 0 hc).2) (λg k=>(V.hb i s g k κ).2) (hcc _ (uA _)) q3⟩))));(obtain⟨c,rfl⟩:∃c,s=OB+(OB+c):=⟨s-OB2,by rw[<-yK];omega⟩;rw[zE6 ψ hkR];by_cases hc:c %64=63;(rw[hf.z c hc];intro g k h;rcases zDI.1 h with⟨c',h1,h2,_⟩|⟨i,h1,_⟩;(have h2:OB+(OB+c)=OB+(OB+c'):=h2;(have:c=c':=by omega);exact h1 (by rw[<-this];exact hc));(have:=γ _ (wC h1);have this:OB+(OB+c)<OB:=this;omega));(have h:=hheap c hc;rcases zEu (f c)with⟨l1,hl1⟩|hl1|hl1|⟨l1,hl1⟩|⟨b,u,mE,oE,hl1⟩;(have hn:=hf.c c l1 hl1;rw[hl1]at h⊢;obtain⟨g,_,h3⟩:=h;exact⟨g,λh=>absurd h (by omega),zPV (λg c hc=>(V.hh g c 0 hc).2) (λg k=>(V.hh g c k hc).2) hn h3⟩);(rw[hl1]at h⊢;exactλg k e=>h g k ((V.hh g c k hc).1 e));rw[hl1];trivial;(rw[hl1]at h⊢;obtain⟨g,q1,q2⟩:=h;exact⟨g,(V.hh g c 0 hc).2 q1,q2⟩);exact absurd hl1 (hf.r c _ _ _ _))));(rcases wY (OB+j) OB2 with h3|h3;exact .inl ((zON.1 h).1 (vD _ _) h3);exact .inr h3)
 have π:∀g,o g=none->ofY bs o g=none:=λg h=>by(cases hq:ofY bs o g with|none=>rfl|some q=>exact absurd h (hof g q hq))
 refine⟨r.fn,_,r.assign,r.body,run_yield k3 (by rw[hsz,hal,hps];simp),λn=>roundIn_of_wpIn trivial ?_⟩
 rw[hfold]
 have hw:WideP bs (Fence.wide.inRound l):=⟨.inRound l,λh=>absurd h hDK⟩
 refine wpIn_mono (hA _ n hw _ _ _ _ _ W ⟨by rw[tsz,H.size],ψ,m,ofY bs o,I0⟩) ?_
 rintro e a1 w1 ⟨L1,⟨rfl,hB⟩,hS1⟩
 obtain⟨hN1,hlo1,m1,o1,I1⟩:=hS1
 have e1:w1.heap[l]? =W.heap[l]? :=I1.same.block l β λh=>h Z
 have τ:∀g,g<W.heap.size->ofY bs o g=none->o1 g=none:=λg hg h=>by(cases hq:o1 g with|none=>rfl|some q=>rcases I1.own g q hq with h1|h1;exact absurd h h1;omega)
 have hm1:∀g,g<W.heap.size->ofY bs o g=none->m1 g=m g:=λg hg h=>I1.old g hg λh1=>h1 h
 refine⟨_,run_beginRound (e1.trans k3) hr,?_⟩
 have I1':=I1.at (τ l β Z) (λp=>by rw[hm1 l β Z];exact k2 p) (.loop {r with state:= .busy})
 have hl1:l<w1.heap.size:=wO β I1.same.size
 refine wpIn_mono (hB _ n hw _ _ _ _ a1 _ ⟨hN1,hlo1,m1,o1,I1'⟩) ?_
 rintro e a2 w2 ⟨L2,⟨he,hk,ν⟩,hS2⟩
 obtain⟨hN2,hlo2,m2,o2,I2⟩:=hS2.st hDK
 have σ:(w1.putObj l (.loop {r with state:= .busy})).heap.size=w1.heap.size:=tD
 have e2:w2.heap[l]? =some (.loop {r with state:= .busy}):=(I2.same.block l (by rw[σ];exact hl1) λh=>h (τ l β Z)).trans (World.putObj_heap_same hl1)
 have φ:∀g,g<W.heap.size->ofY bs o g=none->o2 g=none:=λg hg h=>by(cases hq:o2 g with|none=>rfl|some q=>rcases I2.own g q hq with h1|h1;exact absurd (τ g hg h) h1;(rw[σ]at h1;have:=I1.same.size;omega))
 have hm2:∀g,g<W.heap.size->ofY bs o g=none->m2 g=m g:=λg hg h=>by rw[I2.old g (by rw[σ];exact wO hg I1.same.size) λh1=>h1 (τ g hg h)];exact hm1 g hg h
 have hbk:∀g,g<W.heap.size->g≠l->ofY bs o g=none->w2.heap[g]? =W.heap[g]? :=λg hg ι h=>by rw[I2.same.block g (by rw[σ];exact wO hg I1.same.size) (λh1=>h1 (τ g hg h)),vC ι];exact I1.same.block g hg λh1=>h1 h
 have ω:W.heap.size<=w2.heap.size:=uW I1.same.size (by rw[<-σ];exact I2.same.size)
 have hpin:∀s,(s∈bs\/OB<=s)->∀g,ofY bs o g=some (s,0)->o2 g=some (s,0):=by intro s hs g h;have key:∀(O:OwnM),O g=some (s,0)->(OB<=s->OB2<=s)->rs bs O g=some (s,0):=λO h1 h2=>zON.2 ⟨λh3 h4=>by have h3:OB<=s:=h3;have h4:s<OB2:=h4;have:=h2 h3;omega,h1⟩;(have h2:OB<=s->OB2<=s:=λhs=>by rcases zDI.1 h with⟨c,_,h1,_⟩|⟨i,h1,_⟩;(have h1:s=OB+(OB+c):=h1;rw[h1,<-yK];exact vD _ _);(have:=γ s (wC h1);omega));exact I2.pinned s hs g (key _ (I1.pinned s hs g (key _ h h2)) h2)
 have fin:∀u:Obj,u= .loop (if b then r else{r with state:= .done,pending:=some .ret})->∃(v:Value) (m':Mem) (o':OwnM) (S':Nat->A) (a':Act) (ρ:Nat),Ending.returned (.bool b)= .returned v/\Inv W m o ⟨λg=>o g≠none,[]⟩ (zGn 0) S' a' (w2.putObj l u) m' o'/\RepA m' (w2.putObj l u) o' S' ρ (.t (.d (.lit (.bool b)))) v/\(∀(i:Nat) (x:A),([]:List A)[i]? =some x->S' (OB+i)=x)/\(∀c,S' (OB+(OB+c))=san (hz f' (zA l (.loop (if b then r else{r with state:= .done,pending:=some .ret})) mE oE cs') c))/\ρ<OB:=by rintro u hu;have I3:=I2.at (φ l β Z) (λp=>by rw[hm2 l β Z];exact k2 p) u;have hl2:l<w2.heap.size:=wO β ω;have ζ:=λg q=>zKt (bs:=bs) (l:=l) (o:=o2) γ (φ l β Z) (g:=g) (q:=q);(have hpt:∀g s,OB<=s->o g=some (s,0)->toY bs l o2 g=some (s,0)/\((g=l)\/(g≠l/\zBc W (w2.putObj l u) g)):=by intro g s hs h;have ι:g≠l->g<W.heap.size->(w2.putObj l u).heap[g]? =w2.heap[g]? /\(w1.putObj l (.loop {r with state:= .busy})).heap[g]? =w1.heap[g]? :=λh _=>⟨vC h,vC h⟩;have θ:=hlt g _ h;rcases wY s OB2 with h2|h2;(have h3:=δ s;(have e:argH args [] (hz f (zA l (.loop r) mE oE cs)) s= .free:=by unfold argH;rw[if_neg (by omega),if_neg (by omega)];rfl);rw[e]at h3;exact absurd h (h3 g 0));(obtain⟨c,rfl⟩:∃c,s=OB+(OB+c):=⟨s-OB2,by rw[<-yK];omega⟩;by_cases hc:c %64=63;(obtain⟨i,rfl⟩:∃i,c=cd 63 i:=⟨c/64,by unfold cd;omega⟩;(cases i with|zero=>have:g=l:=ε g l _ h k1;exact⟨(ζ g _).2 (.inl ⟨this,rfl⟩),.inl this⟩|succ i=>have η:=hzb i;(cases hi:cs[i]? with|none=>rw[hi]at η;exact absurd h (η g 0)|some c=>rw[hi]at η;(have κ:i<bs.length:=by rw[<-hcl];exact(wB.1 hi).1);have hbi:bs[i]? =some bs[i]:=wF κ;have h5:=(V.hb i _ g 0 hbi).2 h;have h6:=hpin _ (.inl (uA κ)) g h5;(have α:g≠l:=λe=>by subst e;rw[Z]at h5;cases h5);refine⟨(ζ g _).2 (.inr (.inr ⟨i,_,zDn μ hbi,rfl,h6⟩)),.inr ⟨α,?_⟩⟩;obtain⟨g1,_,q1,_,csq,Eq,q3,_⟩:=η;have:g1=g:=ε g1 g _ q1 h;subst this;obtain⟨c',_,q4⟩:=ν i _ hbi;have h7:=I3.slots bs[i];rw[zBq q4 (by simp)]at h7;obtain⟨g2,_,q5,_,csr,Er,q6,_⟩:=h7;have:g2=g1:=I2.inj g2 g1 _ q5 h6;subst this;intro cs1 E1 f1 q7;rw[q3]at q7;cases q7;obtain⟨cs3,f3,r4,r5⟩:=I1.same.shape g2 _ _ _ q3;rw[<-(ι α θ).2]at r4;obtain⟨cs4,f4,r6,r7⟩:=I2.same.shape g2 _ _ _ r4;rw[<-(ι α θ).1,q6]at r6;cases r6;exact⟨csr,q6,r7.trans r5⟩)));(have h5:=(V.hh g c 0 hc).2 h;have h6:=hpin _ (.inr (by omega)) g h5;(have α:g≠l:=λe=>by subst e;rw[Z]at h5;cases h5);refine⟨(ζ g _).2 (.inr (.inl ⟨h2,h6⟩)),.inr ⟨α,?_⟩⟩;have hrs:∀(O:OwnM),O g=some (OB+(OB+c),0)->rs bs O g=some (OB+(OB+c),0):=λO h1=>zON.2 ⟨λh3 h4=>by have h4:OB+(OB+c)<OB2:=h4;omega,h1⟩;have a1:=(I1.shps g _ (hrs _ h5)).2;have h51:=I1.pinned _ (.inr (vD _ _)) g (hrs _ h5);have a2:=(I2.shps g _ (hrs _ h51)).2;exact(a1.trans (.of_eq (ι α θ).2)).trans (a2.trans (.of_eq (ι α θ).1)))));have hon:∀g,¬o g≠none->o g=none:=λg h=>Classical.byContradiction h;(have hnl:∀g,o g=none->g≠l:=λg h e=>by subst e;rw[k1]at h;cases h);(have hown:∀g q,o2 g=some q->o g≠none\/W.heap.size<=g:=by intro g q h;rcases wY g W.heap.size with h1|h1;(refine .inl λe=> ?_;rw[φ g h1 (π g e)]at h;cases h);exact .inr h1);let S':Nat->A:=λt=>if OB2<=t then san (hz f' (zA l (.loop (if b then r else{r with state:= .done,pending:=some .ret})) mE oE cs') (t-OB2))else .any;(have hS':∀c,S' (OB+(OB+c))=san (hz f' (zA l (.loop (if b then r else{r with state:= .done,pending:=some .ret})) mE oE cs') c):=λc=>by show(if OB2<=OB+(OB+c)then _ else _)=_;rw[<-yK,if_pos (vD _ _),wP]);(have χ:∀g c k,c %64=63->o2 g≠some (OB+(OB+c),k):=λg c k hc=>by have:=I2.slots (OB+(OB+c));rw[zE6 hlo2 hk,hf'.z c hc]at this;exact this g k);refine⟨.bool b,m2,toY bs l o2,S',{tmps:= #[],defers:=[]},0,rfl,⟨⟨I2.same.os.trans I1.same.os,I2.same.tape.trans I1.same.tape,I2.same.output.trans I1.same.output,by rw[tD];exact ω,λk hk1 hn=> ?_,λk=> ?_⟩,I3.sat,I1.mono.trans I2.mono,λb hb hn=>hm2 b hb (π b (hon b hn)),λg q h=> ?_,λg q h=> ?_,λg g' q h h'=> ?_,λs hs g h=>(hpt g s (hs.resolve_left λh=>by simp[zGn]at h) h).1,λs=> ?_,rfl,htbl,uF _,λg j h=>⟨.inr ?_,?_⟩⟩,.lit _ rfl,λi x h=>by simp at h,hS',by decide⟩;(have h1:=hon k hn;rw[vC (hnl k h1)];exact hbk k hk1 (hnl k h1) (π k h1));(by_cases e:k=l;(subst e;intro cs E f h;rw[k3]at h;cases h);exact((I1.same.shape k).trans (zBc.of_eq (vC e)).w).trans ((I2.same.shape k).trans (zBc.of_eq (vC e)).w));(rcases(ζ g q).1 h with⟨rfl,_⟩|⟨_,h⟩|⟨_,_,_,_,h⟩;exact .inl (by show o g≠none;rw[k1];simp);exact hown g _ h;exact hown g _ h);(rw[tD];rcases(ζ g q).1 h with⟨rfl,_⟩|⟨_,h⟩|⟨_,_,_,_,h⟩;exact hl2;exact I2.lt g _ h;exact I2.lt g _ h);(rcases(ζ g q).1 h with⟨e1,e2⟩|⟨e2,h⟩|⟨i,b1,e1,e2,h⟩<;>rcases(ζ g' q).1 h' with⟨e1',J⟩|⟨J,h'⟩|⟨i',b1',e1',J,h'⟩;rw[e1,e1'];rw[e2]at h';exact absurd h' (χ g' _ 0 (zEE 0));(rw[e2]at J;have J:OB+(OB+cd 63 0)=OB+(OB+cd 63 (i'+1)):=J;unfold cd at J;omega);rw[J]at h;exact absurd h (χ g _ 0 (zEE 0));exact I2.inj g g' q h h';(obtain⟨q1,q2⟩:=q;have J:q1=_:=J;subst J;exact absurd h (χ g _ q2 (zEE _)));(rw[J]at e2;have e2:OB+(OB+cd 63 0)=OB+(OB+cd 63 (i+1)):=e2;unfold cd at e2;omega);(obtain⟨q1,q2⟩:=q;have e2:q1=_:=e2;subst e2;exact absurd h' (χ g' _ q2 (zEE _)));(rw[e2]at J;(have:i=i':=by unfold cd at J;omega);subst this;have a1:=zCS e1;rw[zCS e1']at a1;cases a1;exact I2.inj g g' _ h h'));(show RepA m2 _ _ S' s (S' s) _;by_cases h2:OB2<=s;(obtain⟨c,rfl⟩:∃c,s=OB+(OB+c):=⟨s-OB2,by rw[<-yK];omega⟩;rw[hS'];refine zTh μ γ (S:=hx (gt L2)) (vs:=λ_=>undef) hf' hcl' hcc' (φ l β Z) (λp=>by rw[hm2 l β Z];exact k2 p) (by rw[<-hu];exact World.putObj_heap_same hl2) (k4.trans (I1.mono.trans I2.mono)) (λg c h=>(hpt g _ (vD _ _) (k5 g c h)).1) (λc=> ?_) (λi s hi=> ?_) c _;(have h:=I3.slots (OB+(OB+c));rw[zE6 hlo2 hk]at h;exact⟨_,h⟩);(obtain⟨c',q3,q4⟩:=ν i s hi;have h7:=I3.slots s;rw[zBq q4 (by simp)]at h7;exact⟨c',_,q3,h7⟩));((have e:S' s= .any:=by show(if OB2<=s then _ else _)=_;rw[if_neg h2]);rw[e];trivial));(rcases wY (OB+j) OB2 with h3|h3;(have h4:=δ (OB+j);(have e:argH args [] (hz f (zA l (.loop r) mE oE cs)) (OB+j)= .free:=by unfold argH;rw[if_neg (by omega),if_neg (by omega)];rfl);rw[e]at h4;exact absurd h (h4 g 0));exact h3);(rcases(hpt g _ (vD _ _) h).2 with e|⟨_,h⟩;(subst e;intro cs E f h;rw[k3]at h;cases h);exact h)
 rcases he with⟨rfl,hb⟩|⟨rfl,hb⟩
 · refine⟨_,_,run_endRound none e2,?_⟩;have:=fin (.loop {({r with state:= .busy}:Loop)with state:= .ready,pending:=none}) (by rw[hb,if_pos rfl];cases r;simp only at hr hpd;subst hr hpd;rfl);rw[hb]at this⊢;exact this
 · refine⟨_,_,run_endRound (some .ret) e2,?_⟩;have:=fin (.loop {({r with state:= .busy}:Loop)with state:= .done,pending:=some .ret}) (by rw[hb];rfl);rw[hb]at this⊢;exact this
section
variable {w0:World}{m0:Mem}{o0:OwnM}{G:GD}{pins:List Nat}{S:Nat->A}{a:Act}{w:World}{m:Mem}{o:OwnM}
theorem Inv.grow(I:Inv w0 m0 o0 G pins S a w m o)(x:Obj):Inv w0 m0 o0 G pins S a (w.alloc x) m o:=by have hh:∀g,g<w.heap.size->(w.alloc x).heap[g]? =w.heap[g]? :=λg U=>(Same.alloc (λ_=>False) w x).block g U id;have K:Keep (λ_=>False) m w o m (w.alloc x) o:=⟨.refl _,λ_ _ _ _=>rfl,λg k h _=>hh g (I.lt g k h),λ_ _ h _=>h,λ_ _ h=>h,λg _ k _ h=>⟨g,k,h⟩,λg j h=> .of_eq (hh g (I.lt g _ h))⟩;refine⟨I.same.trans ((Same.alloc (λ_=>False) w x).weaken λ_ h=>h.elim),λb p v h=> ?_,I.mono,I.old,I.own,λg k h=> ?_,I.inj,I.pinned,λs=>RepA.keep K (λ_=>id) (λ_ _ _ _=>⟨id,id⟩) (I.slots s),I.defers,I.tbl,I.wide,I.shps.keep I.pinned K.sh⟩;(have J:=I.sat b p v h;(have u:b<w.heap.size:=by have:=wT w _ J;simpa using this);rw[vS (w:=w) (hh b u)];exact J);(have:=I.lt g k h;grind)
theorem Inv.mem_lt(I:Inv w0 m0 o0 G pins S a w m o){b p:Nat}(h:m b p=some v):b<w.heap.size:=by have:=wT w _ (I.sat b p v h);grind
end
def zSi:A->Bool
 | .any| .imm _| .t (.d _)| .t (.agg _)=>true
 | .t (.hpt c _)=> !(c %64==63)
 | .t (.opt t _)=> !(t %64==63)
 |_=>false
theorem stat_of{U:OwnM}{s:Nat}{x:A}(hx:zSi x=true)(Z:∀g c,c %64≠63->o g=some (OB+(OB+c),0)->U g=some (OB+(OB+c),0))(h:RepA m w o S s x v):Stat m U x v:=by(cases x with|any=>trivial|imm l=>exact h|t x=>(cases x with|d x=>exact h|agg l=>exact h|hpt c off=>(have u:c %64≠63:=by simpa[zSi]using hx);obtain⟨g,J,I⟩:=h;exact⟨u,g,Z g c u J,I⟩|opt t p=>(have u:t %64≠63:=by simpa[zSi]using hx);exact⟨u,h.imp id λ⟨i,e,g,J,I⟩=>⟨i,e,g,Z g _ (by unfold cd;omega) J,I⟩⟩|_=>cases hx)|_=>cases hx)
def LA(f:Nat->A)(bs:List Nat)(cs:List (List T))(L:SL):SL:=(HK,.hp f)::(bs.zip (cs.map A.box)++L)
def afO(bs:List Nat)(o o':OwnM):OwnM:=λg=>match ofY bs o' g with
 |some q=>some q
 |none=>match o g with|some q=>if OB2<=q.1\/q.1∈bs then none else some q|none=>none
theorem zK0{bs:List Nat}{o o':OwnM}{g:Nat}{q:Nat×Nat}:afO bs o o' g=some q->ofY bs o' g=some q\/(ofY bs o' g=none/\¬(OB2<=q.1\/q.1∈bs)/\o g=some q):=by intro h;unfold afO at h;grind
theorem afO_1{bs:List Nat}{o o':OwnM}{g:Nat}{q:Nat×Nat}(h:ofY bs o' g=some q):afO bs o o' g=some q:=by unfold afO;rw[h]
theorem afO_2{bs:List Nat}{o o':OwnM}{g:Nat}{q:Nat×Nat}(u:ofY bs o' g=none)(I:¬(OB2<=q.1\/q.1∈bs))(h:o g=some q):afO bs o o' g=some q:=by unfold afO;rw[u,h];simp only;rw[if_neg I]
def capB:T->Bool
 | .d _=>true
 | .hpt c _=> !(c %64==63)
 | .opt t _=> !(t %64==63)
 |_=>false
def capC(l:List T):Prop:=∀x∈l,capB x=true
def Ranges(P:Program)(bs W:List Nat)(N fn:Nat)(J:List (List T))(u I:Code)(L0:SL)(f f':Nat->A)(cs cs':List (List T))(b:Bool):Prop:=
 ∀(l:Nat) (r:Loop) (Z:Mem) (U:OwnM),Head bs N r Z U L0->r.state= .ready->r.pending=none->r.params=W.toArray->r.assign=u->r.body=I->
  ∃y,FCH P fn (.t (.d (.lit (yv l)))::J.map A.imt) [] [] (hz f (zA l (.loop r) Z U cs)) (hz f' (zA l (.loop (if b then r else{r with state:= .done,pending:=some .ret})) Z U cs')) y
theorem zTv{bs ps:List Nat}{fn g fnn:Nat}{J:List (List T)}{assign body:Code}{L0:SL}{f f':Nat->A}{cs cs':List (List T)}{b:Bool}
  (κ:a.tmps.size=N)(ν:Low (gt L))(I:Inv w0 m0 o0 G pins (hx (gt L)) a w m o)(hk:gt L HK= .hp f)(hf:NC f)(ψ:cs.length=bs.length)(σ:∀c∈cs,nzC c)(ξ:bs.Nodup)(φ:∀b∈bs,b<N)
  (ι:∀(i s:Nat),bs[i]? =some s->∃c,cs[i]? =some c/\gt L s= .box c)(hg:gt L g= .cl fn J)(η:∀l∈J,capC l)
  (π:∀s,gt L0 s= .any\/(s<OB/\s∉bs/\zSi (gt L s)=true/\gt L0 s=gt L s)\/(OB<=s/\s<HK/\gt L s= .free/\gt L0 s= .free))(τ:Ranges P bs ps N fn J assign body L0 f f' cs cs' b):
  ∃Z:Array Value,a.tmps.getD g undef= .func (.func fn) #[] Z/\
   ∀r:Loop,r={state:= .ready,pending:=none,fn:=fnn,tmps:=a.tmps,params:=ps.toArray,assign:=assign,body:=body,defers:=w.heap.size}->
   Head bs N r m (toY bs (w.heap.size+1) o) L0/\Calls P fn (#[yv (w.heap.size+1)]++Z) ((w.alloc (.deferred (some []))).alloc (.loop r)) λe w'=>∃(u:Value) (m':Mem) (o':OwnM) (S':Nat->A) (a':Act),e= .returned u/\
    Inv ((w.alloc (.deferred (some []))).alloc (.loop r)) m (toY bs (w.heap.size+1) o) ⟨λg=>toY bs (w.heap.size+1) o g≠none,[]⟩ [] S' a' w' m' o'/\
    (∀c,S' (OB+(OB+c))=san (hz f' (zA (w.heap.size+1) (.loop (if b then r else{r with state:= .done,pending:=some .ret})) m (toY bs (w.heap.size+1) o) cs') c)):=by
 have hN:N<=OB:=by rw[<-κ];exact I.wide
 have β:∀b∈bs,b<OB:=λb h=>wO (φ b h) hN
 have δ:=I.slots g
 rw[zBq hg (by simp)]at δ
 obtain⟨Z,hv,μ,hpt⟩:=δ
 refine⟨Z,hv,λr hr=> ?_⟩
 have I1:=(I.grow (.deferred (some []))).grow (.loop r)
 have ζ:o (w.heap.size+1)=none:=by
  cases hq:o (w.heap.size+1)with
  |none=>rfl
  |some q=>have:=I.lt _ _ hq;omega
 have χ:∀p,m (w.heap.size+1) p=none:=λp=>by
  cases hq:m (w.heap.size+1) p with
  |none=>rfl
  |some v=>have:=I.mem_lt hq;omega
 have α:∀g c k,c %64=63->o g≠some (OB+(OB+c),k):=λg c k hc=>by
  have:=I.slots (OB+(OB+c))
  rw[zE6 ν hk,hf.z c hc]at this
  exact this g k
 have V:=VW.toY ξ β ζ α
 have hu:((w.alloc (.deferred (some []))).alloc (.loop r)).heap[w.heap.size+1]? =some (.loop r):=by
  have:=World.alloc_heap_new (w.alloc (.deferred (some []))) (.loop r)
  rw[tI]at this
  exact this
 have γ:=λg q=>zKt (bs:=bs) (l:=w.heap.size+1) (o:=o) β ζ (g:=g) (q:=q)
 have hH:Head bs N r m (toY bs (w.heap.size+1) o) L0:=by
  refine⟨by rw[hr];exact κ,λs hs ω=> ?_,λi s hi=> ?_,λs hs=> ?_⟩
  ·
   rcases π s with e|⟨_,_,h1,h2⟩|⟨h,_⟩
   · rw[e];trivial
   rotate_left
   · omega
   ·
    rw[h2,hr]
    have h:=I.slots s
    rw[zDY (by unfold OB OB2 at*;omega)]at h
    exact stat_of h1 (λg c hc=>(V.hh g c 0 hc).1) h
  ·
   obtain⟨c,h1,h2⟩:=ι i s hi
   have h:=I.slots s
   rw[zBq h2 (by simp)]at h
   obtain⟨g,h3,h4⟩:=h
   refine⟨g,by rw[hr];exact h3 (β s (wC hi)),(V.hb i s g 0 hi).1 h4.1⟩
  ·
   rcases π s with e|⟨h,_⟩|⟨_,h1,_,h2⟩
   · exact .inl e
   · omega
   · exact .inr ⟨h2,h1⟩
 obtain⟨y,hc⟩:=τ (w.heap.size+1) r m (toY bs (w.heap.size+1) o) hH (by rw[hr]) (by rw[hr]) (by rw[hr]) (by rw[hr]) (by rw[hr])
 refine⟨hH,(hc _ m (toY bs (w.heap.size+1) o) (#[yv (w.heap.size+1)]++Z) I1.sat (I.tbl.trans I.mono) (λg q h=> ?_) (λg g' q h h'=> ?_) (by rw[sI,μ,uS,wL,Nat.add_comm];rfl) λs=> ?_).mono ?_⟩
 ·
  rcases(γ g q).1 h with⟨rfl,_⟩|⟨_,h⟩|⟨_,_,_,_,h⟩
  · rw[tI,tI];omega
  · exact I1.lt g _ h
  · exact I1.lt g _ h
 ·
  rcases(γ g q).1 h with⟨e1,W⟩|⟨W,h⟩|⟨i,b1,e1,W,h⟩<;>rcases(γ g' q).1 h' with⟨θ,U⟩|⟨U,h'⟩|⟨i',b1',θ,U,h'⟩
  · rw[e1,θ]
  · rw[W]at h';exact absurd h' (α g' _ 0 (zEE 0))
  ·
   rw[W]at U
   have U:OB+(OB+cd 63 0)=OB+(OB+cd 63 (i'+1)):=U
   unfold cd at U
   omega
  · rw[U]at h;exact absurd h (α g _ 0 (zEE 0))
  · exact I.inj g g' q h h'
  ·
   obtain⟨q1,q2⟩:=q
   have U:q1=_:=U
   subst U
   exact absurd h (α g _ q2 (zEE _))
  ·
   rw[U]at W
   have W:OB+(OB+cd 63 0)=OB+(OB+cd 63 (i+1)):=W
   unfold cd at W
   omega
  ·
   obtain⟨q1,q2⟩:=q
   have W:q1=_:=W
   subst W
   exact absurd h' (α g' _ q2 (zEE _))
  ·
   rw[W]at U
   have:i=i':=by unfold cd at U;omega
   subst this
   have a1:=zCS e1
   rw[zCS θ]at a1
   cases a1
   exact I.inj g g' _ h h'
 ·
  rcases wY s OB with h1|h1
  ·
   have e:∀F,argH (.t (.d (.lit (yv (w.heap.size+1))))::J.map A.imt) [] F s=(A.t (.d (.lit (yv (w.heap.size+1))))::J.map A.imt).getD s .any:=λF=>by unfold argH;rw[if_pos h1]
   rw[e]
   cases s with
   |zero=>
    have:(#[yv (w.heap.size+1)]++Z).getD 0 undef=yv (w.heap.size+1):=by
     rw[wM,Array.getElem?_append_left (by simp)]
     rfl
    rw[this]
    exact .lit _ rfl
   |succ i=>
    have W:(A.t (.d (.lit (yv (w.heap.size+1))))::J.map A.imt).getD (i+1) .any=(J.map A.imt).getD i .any:=rfl
    rw[W,wK,wH]
    cases hi:J[i]? with
    |none=>trivial
    |some l=>
     obtain⟨g1,q1,q2⟩:=hpt i l hi
     have:(#[yv (w.heap.size+1)]++Z).getD (i+1) undef= .pointer (some ⟨g1,0,none⟩):=by
      rw[wM,Array.getElem?_append_right (by simp)]
      simp[q1]
     rw[this]
     refine⟨g1,rfl,λj x hj=> ?_⟩
     obtain⟨u,q3,q4⟩:=q2 j x hj
     refine⟨u,q3,?_⟩
     have ε:=η l (wC hi) x (wC hj)
     cases x with
     |d x=>exact q4
     |hpt c off=>
      have hc:c %64≠63:=by simpa[capB]using ε
      obtain⟨g2,q5,q6⟩:=q4
      exact⟨g2,(V.hh g2 c 0 hc).1 q5,q6⟩
     |opt t p=>
      have hc:t %64≠63:=by simpa[capB]using ε
      exact q4.imp id λ⟨i,e,g2,q5,q6⟩=>⟨i,e,g2,(V.hh g2 _ 0 (by unfold cd;omega)).1 q5,q6⟩
     |_=>cases ε
  ·
   rcases wY s OB2 with h2|h2
   ·
    have e:∀F,argH (.t (.d (.lit (yv (w.heap.size+1))))::J.map A.imt) [] F s= .free:=λF=>by
     unfold argH
     rw[if_neg (by omega),if_neg (by omega)]
     rfl
    rw[e]
    intro g k h
    rcases(γ g _).1 h with⟨_,h⟩|⟨h,_⟩|⟨i,_,_,h,_⟩
    ·
     injection h with h _
     rw[h,<-yK]at h2
     omega
    ·
     have h:OB2<=s:=h
     omega
    ·
     have h:s=_:=h
     rw[h,<-yK]at h2
     omega
   ·
    obtain⟨c,rfl⟩:∃c,s=OB+(OB+c):=⟨s-OB2,by rw[<-yK];omega⟩
    rw[zS6]
    refine zTh ξ β (S:=hx (gt L)) (vs:=λ_=>undef) hf ψ σ ζ χ hu (.refl _) (λg c h=>h) (λc=> ?_) (λi s hi=> ?_) c _
    ·
     have h:=I1.slots (OB+(OB+c))
     rw[zE6 ν hk]at h
     exact⟨_,h⟩
    ·
     obtain⟨c',q3,q4⟩:=ι i s hi
     have h7:=I1.slots s
     rw[zBq q4 (by simp)]at h7
     exact⟨c',_,q3,h7⟩
 ·
  rintro e w' ⟨u,m',o',S',a',ρ,h1,h2,_,_,h5,_⟩
  exact⟨u,m',o',S',a',h1,h2,h5⟩
theorem zSm{bs:List Nat}{L0:SL}{f':Nat->A}{cs':List (List T)}{r:Loop}{u x:Obj}
  (hNa:a.tmps.size=N)(I:Inv w0 m0 o0 G pins S a w m o)(ρ:∀g c k,c %64=63->o g≠some (OB+(OB+c),k))(ξ:NC f')(hcl':cs'.length=bs.length)(hcc':∀c∈cs',nzC c)(ε:bs.Nodup)(U:∀b∈bs,b<OB)
  (hH:Head bs N r m (toY bs (w.heap.size+1) o) L0)(hfr:∀s,OB<=s->gt L0 s= .free->∀g k,o g≠some (s,k))(hr:r.tmps=a.tmps){S':Nat->A}{a':Act}{W:World}{m':Mem}{o':OwnM}
  (J:Inv ((w.alloc (.deferred (some []))).alloc (.loop r)) m (toY bs (w.heap.size+1) o) ⟨λg=>toY bs (w.heap.size+1) o g≠none,[]⟩ [] S' a' W m' o')(hu:∀cs E q,u≠ .cells cs E q)
  (τ:∀c,S' (OB+(OB+c))=san (hz f' (zA (w.heap.size+1) u m (toY bs (w.heap.size+1) o) cs') c))(mk:Deferred):
  Inv w0 m0 o0 ⟨G.p,mk::G.ds⟩ pins (hx (gt (LA f' bs cs' L0))) {a with defers:=mk::a.defers} (W.putObj (w.heap.size+1) x) m' (afO bs o o')/\Low (gt (LA f' bs cs' L0))/\W.heap[w.heap.size+1]? =some u/\afO bs o o' w.heap.size=none/\W.heap[w.heap.size]? =some (.deferred (some [])):=by
 have μ:o (w.heap.size+1)=none:=by
  cases hq:o (w.heap.size+1)with
  |none=>rfl
  |some q=>have:=I.lt _ _ hq;omega
 have V:=VW.toY ε U μ ρ
 have hty:=λg q=>zKt (bs:=bs) (l:=w.heap.size+1) (o:=o) U μ (g:=g) (q:=q)
 obtain⟨k1,k2,k3,_,_⟩:RepA m' W o' S' (OB+(OB+cd 63 0)) (.rcd (w.heap.size+1) u m (toY bs (w.heap.size+1) o)) (a'.tmps.getD (OB+(OB+cd 63 0)) undef):=by
  have h:=J.slots (OB+(OB+cd 63 0))
  rw[τ,hz_z,zA_0]at h
  exact h
 have φ:∀g,g<w.heap.size->((w.alloc (.deferred (some []))).alloc (.loop r)).heap[g]? =w.heap[g]? :=λg hg=>by
  have h1:=(Same.alloc (λ_=>False) w (.deferred (some []))).block g hg id
  have h2:=(Same.alloc (λ_=>False) (w.alloc (.deferred (some []))) (.loop r)).block g (by rw[tI];omega) id
  exact h2.trans h1
 have β:((w.alloc (.deferred (some []))).alloc (.loop r)).heap.size=w.heap.size+2:=by rw[tI,tI]
 have hs3:w.heap.size+2<=W.heap.size:=by rw[<-β];exact J.same.size
 have γ:∀g,g≠w.heap.size+1->o g=none->toY bs (w.heap.size+1) o g=none:=λg hg h=>by
  cases hq:toY bs (w.heap.size+1) o g with
  |none=>rfl
  |some q=>
   rcases(hty g q).1 hq with⟨e,_⟩|⟨_,e⟩|⟨_,_,_,_,e⟩
   · exact absurd e hg
   · rw[h]at e;cases e
   · rw[h]at e;cases e
 have ho':∀g,g<w.heap.size+2->toY bs (w.heap.size+1) o g=none->o' g=none:=λg hg h=>by
  cases hq:o' g with
  |none=>rfl
  |some q=>
   rcases J.own g q hq with e|e
   · exact absurd h e
   · rw[β]at e;omega
 have hof:∀g,o' g=none->ofY bs o' g=none:=λg h=>by
  cases hq:ofY bs o' g with
  |none=>rfl
  |some q=>rcases zDI.1 hq with⟨_,_,_,e⟩|⟨_,_,e⟩<;>(rw[h]at e;cases e)
 have V2:=VW.ofY (o:=o') ε U
 have hpt:∀g c,c %64≠63->o g=some (OB+(OB+c),0)->afO bs o o' g=some (OB+(OB+c),0):=λg c Z h=>afO_1 ((V2.hh g c 0 Z).2 (J.pinned _ (.inr (vD _ _)) g ((V.hh g c 0 Z).1 h)))
 have hpb:∀i b g,bs[i]? =some b->o g=some (b,0)->o' g=some (OB+(OB+cd 63 (i+1)),0):=λi b g hi h=>J.pinned _ (.inr (vD _ _)) g ((V.hb i b g 0 hi).1 h)
 have θ:∀g q,o g=some q->¬(OB2<=q.1\/q.1∈bs)->toY bs (w.heap.size+1) o g=none:=λg q h hq=>by
  cases hy:toY bs (w.heap.size+1) o g with
  |none=>rfl
  |some q'=>
   rcases(hty g q').1 hy with⟨e,_⟩|⟨h1,e⟩|⟨i,b,h1,_,e⟩
   · rw[e,μ]at h;cases h
   · rw[h]at e;injection e with e;rw[e]at hq;exact absurd (.inl h1) hq
   · rw[h]at e;injection e with e;rw[e]at hq;exact absurd (.inr (wC (zCS h1))) hq
 have σ:∀g q,o g=some q->¬(OB2<=q.1\/q.1∈bs)->afO bs o o' g=some q:=λg q h hq=>
  afO_2 (hof g (ho' g (by have:=I.lt g q h;omega) (θ g q h hq))) hq h
 have κ:∀g,g<w.heap.size->(W.putObj (w.heap.size+1) x).heap[g]? =W.heap[g]? :=λg hg=>vC (by omega)
 have ι:∀g,g<w.heap.size->toY bs (w.heap.size+1) o g=none->(W.putObj (w.heap.size+1) x).heap[g]? =w.heap[g]? :=λg hg h=>by
  rw[κ g hg,J.same.block g (by rw[β];omega) λe=>e h,φ g hg]
 have hS:Same (λg=>o g≠none) w (W.putObj (w.heap.size+1) x):=by
  refine⟨J.same.os,J.same.tape,J.same.output,by rw[tD];omega,λk hk hn=>ι k hk (γ k (by omega) (Classical.byContradiction hn)),λk=> ?_⟩
  rcases wY k w.heap.size with h1|h1
  · exact((zBc.of_eq (φ k h1)).w.trans (J.same.shape k)).trans (zBc.of_eq (κ k h1)).w
  ·
   intro cs E q h
   rw[uE h1]at h
   cases h
 have key:∀g,o g≠none->G.p g\/w0.heap.size<=g:=λg h=>by
  cases hq:o g with
  |none=>exact absurd hq h
  |some l=>exact I.own g l hq
 have hw0:=I.same.size
 have hsh:∀g j,o g=some (OB+j,0)->zBc w (W.putObj (w.heap.size+1) x) g:=by
  intro g j h
  have hg:=I.lt g _ h
  by_cases h2:OB2<=OB+j
  ·
   obtain⟨c,rfl⟩:∃c,j=OB+c:=⟨j-OB,by unfold OB OB2 at*;omega⟩
   have Z:c %64≠63:=λe=>ρ g c 0 e h
   exact((zBc.of_eq (φ g hg)).trans (J.shps g _ ((V.hh g c 0 Z).1 h)).2).trans (.of_eq (κ g hg))
  · exact .of_eq (ι g hg (θ g _ h (λe=>e.elim h2 λe=>by have:=U _ e;have this:OB+j<OB:=this;omega)))
 have K1:Keep (λl=>l.1=OB+(OB+cd 63 0)) m' W o' m' (W.putObj (w.heap.size+1) x) o':=by
  have hgl:∀g q,o' g=some q->¬q.1=OB+(OB+cd 63 0)->g≠w.heap.size+1:=λg q h hq e=>by
   subst e
   rw[k1]at h
   injection h with h
   exact hq (by rw[<-h])
  refine⟨.refl _,λ_ _ _ _=>rfl,λg q h hq=>vC (hgl g q h hq),λ_ _ h _=>h,λ_ _ h=>h,λg _ k _ h=>⟨g,k,h⟩,λg j h=> ?_⟩
  by_cases e:g=w.heap.size+1
  ·
   subst e
   intro cs E q h
   rw[k3]at h
   injection h with h
   exact absurd h (hu _ _ _)
  · exact .of_eq (vC e)
 have χ:∀s,gt (LA f' bs cs' L0) s=if s=HK then .hp f' else match posN bs s with|some i=>(cs'.map A.box).getD i .any|none=>gt L0 s:=by
  intro s
  show gt ((HK,.hp f')::(bs.zip (cs'.map A.box)++L0)) s=_
  rw[zR,upd,zPW _ _ _ _ (by rw[wL,hcl'])]<;>rfl
 have η:Low (gt (LA f' bs cs' L0)):=by
  intro t ht
  rw[χ,if_neg (by unfold HK OB2 at*;omega)]
  cases hq:posN bs t with
  |none=>exact(hH.lo t (by unfold OB OB2 at*;omega)).resolve_right λh=>by have:=h.2;unfold HK OB2 at*;omega
  |some i=>have:=U _ (wC (zCS hq));unfold OB OB2 at*;omega
 have ψ:o w.heap.size=none:=by
  cases hq:o w.heap.size with
  |none=>rfl
  |some q=>have:=I.lt _ _ hq;omega
 have hoD':o' w.heap.size=none:=ho' _ (by omega) (γ _ (by omega) ψ)
 have ω:afO bs o o' w.heap.size=none:=by
  cases hq:afO bs o o' w.heap.size with
  |none=>rfl
  |some q=>
   rcases zK0 hq with h|⟨_,_,h⟩
   · rw[hof _ hoD']at h;cases h
   · rw[ψ]at h;cases h
 have hD:W.heap[w.heap.size]? =some (.deferred (some [])):=by
  rw[J.same.block _ (by rw[β];omega) λe=>e (γ _ (by omega) ψ)]
  have h2:=(Same.alloc (λ_=>False) (w.alloc (.deferred (some []))) (.loop r)).block w.heap.size (by rw[tI];omega) id
  rw[h2]
  exact World.alloc_heap_new w _
 refine⟨⟨I.same.trans (hS.weaken key),λb p v h=> ?_,I.mono.trans J.mono,λb hb hn=> ?_,λg q h=> ?_,λg q h=> ?_,λg g' q h h'=> ?_,λs hs g h=> ?_,λs=> ?_,by show mk::a.defers=_;rw[I.defers],I.tbl,I.wide,I.shps.keep I.pinned hsh⟩,η,k3,ω,hD⟩
 ·
  have hb:b≠w.heap.size+1:=λe=>by subst e;rw[k2]at h;cases h
  have:=J.sat b p v h
  unfold World.cell? at this⊢
  rw[vC hb]
  exact this
 ·
  have hob:o b=none:=by
   cases hq:o b with
   |none=>rfl
   |some q=>exact((I.own b q hq).elim (λe=>absurd e hn) λe=>by omega)
  rw[J.old b (by rw[β];omega) λe=>e (γ b (by omega) hob)]
  exact I.old b hb hn
 ·
  have k:∀q',o' g=some q'->G.p g\/w0.heap.size<=g:=λq' h=>by
   rcases J.own g q' h with e|e
   ·
    cases hq:o g with
    |none=>
     by_cases e2:g=w.heap.size+1
     · exact .inr (by omega)
     · exact absurd (γ g e2 hq) e
    |some q=>exact I.own g q hq
   · rw[β]at e;exact .inr (by omega)
  rcases zK0 h with h|⟨_,_,h⟩
  · rcases zDI.1 h with⟨_,_,_,h⟩|⟨_,_,h⟩<;>exact k _ h
  · exact I.own g q h
 ·
  rw[tD]
  rcases zK0 h with h|⟨_,_,h⟩
  · rcases zDI.1 h with⟨_,_,_,h⟩|⟨_,_,h⟩<;>exact J.lt g _ h
  · have:=I.lt g q h;omega
 ·
  have Z:∀g,ofY bs o' g=some q->OB2<=q.1\/q.1∈bs:=λg h=>by
   rcases zDI.1 h with⟨c,_,e,_⟩|⟨i,e,_⟩
   · exact .inl (by rw[e,<-yK];exact vD _ _)
   · exact .inr (wC e)
  rcases zK0 h with h|⟨_,h1,h⟩<;>rcases zK0 h' with h'|⟨_,h1',h'⟩
  ·
   rcases zDI.1 h with⟨c,c1,c2,h⟩|⟨i,c2,h⟩<;>rcases zDI.1 h' with⟨c',c1',π,h'⟩|⟨i',π,h'⟩
   · exact J.inj g g' q h h'
   · have:=U _ (wC π);omega
   · have:=U _ (wC c2);omega
   ·
    have e1:=zDn ε c2
    rw[zDn ε π]at e1
    cases e1
    exact J.inj g g' _ h h'
  · exact absurd (Z g h) h1'
  · exact absurd (Z g' h') h1
  · exact I.inj g g' q h h'
 ·
  have h1:=I.pinned s hs g h
  by_cases h2:OB2<=s
  ·
   obtain⟨c,rfl⟩:∃c,s=OB+(OB+c):=⟨s-OB2,by rw[<-yK];omega⟩
   exact hpt g c (λe=>ρ g c 0 e h1) h1
  ·
   by_cases h3:s∈bs
   ·
    obtain⟨i,hi⟩:=uG h3
    exact afO_1 ((V2.hb i s g 0 hi).2 (hpb i s g hi h1))
   · exact σ g _ h1 (λe=>e.elim h2 h3)
 ·
  show RepA m' _ _ _ s _ (a.tmps.getD s undef)
  have ζ:∀g c,c %64≠63->o' g=some (OB+(OB+c),0)->afO bs o o' g=some (OB+(OB+c),0):=λg c Z h=>afO_1 ((V2.hh g c 0 Z).2 h)
  rcases wY s OB2 with h2|h2
  ·
   rw[zDY h2,χ]
   by_cases e:s=HK
   · rw[if_pos e];trivial
   ·
    rw[if_neg e]
    cases hb:posN bs s with
    |none=>
     simp only
     by_cases hs:s<OB
     ·
      have hsb:s∉bs:=λhm=>by
       obtain⟨i,hi⟩:=uG hm
       rw[zDn ε hi]at hb
       cases hb
      have h:=hH.st s hs hsb
      rw[hr]at h
      refine h.rep J.mono λg c Z h=>ζ g c Z (J.pinned _ (.inr (vD _ _)) g h)
     ·
      rcases hH.lo s (by omega)with e0|⟨e0,e1⟩
      · rw[e0];trivial
      ·
       rw[e0]
       intro g k h
       rcases zK0 h with h|⟨_,_,h⟩
       ·
        rcases zDI.1 h with⟨c,_,q1,_⟩|⟨i,q1,_⟩
        ·
         have q1:s=OB+(OB+c):=q1
         unfold HK at e1;unfold OB at q1;omega
        · exact hs (U s (wC q1))
       · exact hfr s (by omega) e0 g k h
    |some i=>
     simp only
     have ν:=zCS hb
     have hi:i<bs.length:=(wB.1 ν).1
     have hic:i<cs'.length:=by omega
     obtain⟨g0,q1,q2⟩:=hH.bx i s ν
     have α:=J.slots (OB+(OB+cd 63 (i+1)))
     rw[τ,hz_z,zA_s,wF hic]at α
     have α:RepA m' W o' S' (OB+(OB+cd 63 (i+1))) (.box cs'[i]) (a'.tmps.getD (OB+(OB+cd 63 (i+1))) undef):=α
     have α:=RepA.keep (S':=S') K1 (λj=>by show¬(OB+(OB+cd 63 (i+1))=OB+(OB+cd 63 0));unfold cd;omega) (λb off e _=>by cases e) α
     obtain⟨g,_,q3⟩:=α
     have:g=g0:=J.inj g g0 _ q3.1 (J.pinned _ (.inr (vD _ _)) g0 q2)
     subst this
     have e2:(cs'.map A.box).getD i .any= .box cs'[i]:=by
      rw[wK,wH,wF hic]
      rfl
     rw[e2,<-hr,q1]
     exact⟨g,λ_=>rfl,zPV ζ (λg k h=>afO_1 ((V2.hb i s g k ν).2 h)) (hcc' _ (uA _)) q3⟩
  ·
   obtain⟨c,rfl⟩:∃c,s=OB+(OB+c):=⟨s-OB2,by rw[<-yK];omega⟩
   have hk:gt (LA f' bs cs' L0) HK= .hp f':=by rw[χ,if_pos rfl]
   rw[zE6 η hk]
   have δ:∀g k,afO bs o o' g=some (OB+(OB+c),k)->c %64≠63/\o' g=some (OB+(OB+c),k):=λg k h=>by
    rcases zK0 h with h|⟨_,h1,h⟩
    ·
     rcases zDI.1 h with⟨c',h1,h3,h4⟩|⟨i,h1,_⟩
     ·
      have h3:OB+(OB+c)=OB+(OB+c'):=h3
      have:c=c':=by omega
      subst this
      exact⟨h1,h4⟩
     ·
      have:=U _ (wC h1)
      have this:OB+(OB+c)<OB:=this
      omega
    · exact absurd (.inl h2) h1
   by_cases Z:c %64=63
   ·
    rw[ξ.z c Z]
    exactλg k h=>(δ g k h).1 Z
   ·
    have h:=J.slots (OB+(OB+c))
    rw[τ,hz_n Z]at h
    have hnr:∀b off,san (f' c)≠ .ref b off:=λb off e=>by cases hq:f' c<;>rw[hq]at e<;>cases e
    have hnc:¬(OB+(OB+c)=OB+(OB+cd 63 0)):=λe=>by
     have e1:c=cd 63 0:=by omega
     exact Z (by rw[e1];exact zEE 0)
    have h:=RepA.keep (S':=S') K1 (λj=>hnc) (λb off e _=>absurd e (hnr b off)) h
    rcases zEu (f' c)with⟨l1,hl1⟩|hl1|hl1|⟨l1,hl1⟩|⟨b,u,mE,oE,hl1⟩
    ·
     have hn:=ξ.c c l1 hl1
     rw[hl1]at h⊢
     obtain⟨g,_,h3⟩:=h
     exact⟨g,λh=>absurd h (by omega),zPV ζ (λg k h=>afO_1 ((V2.hh g c k Z).2 h)) hn h3⟩
    ·
     rw[hl1]at h⊢
     exactλg k e=>h g k (δ g k e).2
    · rw[hl1];trivial
    ·
     rw[hl1]at h⊢
     obtain⟨g,q1,q2⟩:=h
     exact⟨g,ζ g c Z q1,q2⟩
    · exact absurd hl1 (ξ.r c _ _ _ _)
section
variable {w0:World}{m0:Mem}{o0:OwnM}{G:GD}{pins:List Nat}{S:Nat->A}{a:Act}{w:World}{m:Mem}{o:OwnM}
theorem Inv.nodk(I:Inv w0 m0 o0 G (DK::pins) S a w m o):Inv w0 m0 o0 G pins S a w m o:=
 ⟨I.same,I.sat,I.mono,I.old,I.own,I.lt,I.inj,λs hs g h=>I.pinned s (hs.imp (vG _) id) g h,I.slots,I.defers,I.tbl,I.wide,λg j h=>⟨by rcases(I.shps g j h).1 with h1|h1;(rcases vL.1 h1 with h1|h1;exact .inr (by rw[h1];decide);exact .inl h1);exact .inr h1,(I.shps g j h).2⟩⟩
theorem Inv.dk(I:Inv w0 m0 o0 G pins S a w m o):Inv w0 m0 o0 G (DK::pins) S a w m o:=
 ⟨I.same,I.sat,I.mono,I.old,I.own,I.lt,I.inj,λs hs g h=>I.pinned s (by rcases hs with hs|hs;(rcases vL.1 hs with hs|hs;exact .inr (by rw[hs];decide);exact .inl hs);exact .inr hs) g h,I.slots,I.defers,I.tbl,I.wide,λg j h=>⟨(I.shps g j h).1.imp (vG _) id,(I.shps g j h).2⟩⟩
end
def zMP(P:Program)(pins:List Nat)(N:Nat)(x y:Code)(Q:Exit->SL->Prop)(L:SL):Prop:=
 ∀(u:Fence) (J:Nat),WideP pins u->∀(w0:World) (m0:Mem) (o0:OwnM) (G:GD) (a:Act) (w:World),St w0 m0 o0 G pins N L a w->x.wpIn u J P (Exit.then (y.wpIn u J P (λe I w'=>∃L',Q e L'/\StX e w0 m0 o0 G pins N L' I w')) (λe I w'=>∃L',Q e L'/\StX e w0 m0 o0 G pins N L' I w')) a w
theorem zMP.ok{x y:Code}{Q:Exit->SL->Prop}(h:zMP P pins N x y Q L):qK P pins N (.seq x y) Q L:=
 λI U u w0 m0 o0 G a w J=>wpIn_seq (h I U u w0 m0 o0 G a w J)
theorem c_seqR{x y z:Code}{Q:Exit->SL->Prop}(h:qK P pins N x (zIx (zMP P pins N y z Q) Q) L):qK P pins N (.seq (.seq x y) z) Q L:=by intro J I U w0 m0 o0 G a w W;refine wpIn_seq (wpIn_seq (wpIn_mono (h J I U w0 m0 o0 G a w W) ?_));rintro e Z w' ⟨L',hq,u⟩;cases e<;>first|exact hq J I U w0 m0 o0 G Z w' u|exact⟨L',hq,u⟩
theorem c_range(hp:DK∉pins){i g fn:Nat}{bs ps:List Nat}{caps:List (List T)}{assign body rest:Code}{Q:Exit->SL->Prop}{L0:SL}{f f':Nat->A}{cs cs':List (List T)}{b:Bool}
(hN:N<=OB)(hk:gt L HK= .hp f)(hf:NC f)(hf':NC f')(hcl:cs.length=bs.length)(hcl':cs'.length=bs.length)(hcc:∀c∈cs,nzC c)(hcc':∀c∈cs',nzC c)(hbn:bs.Nodup)(hbN:∀b∈bs,b<N)
(hbx:∀(i s:Nat),bs[i]? =some s->∃c,cs[i]? =some c/\gt L s= .box c)(hg:gt L g= .cl fn caps)(hcaps:∀l∈caps,capC l)
(hL0:∀s,gt L0 s= .any\/(s<OB/\s∉bs/\zSi (gt L s)=true/\gt L0 s=gt L s)\/(OB<=s/\s<HK/\gt L s= .free/\gt L0 s= .free)){F:Func}(hfn:P.funcs[fn]? =some F)(hbody:F.body.isNone=false)(hname:(F.name== "runtime.NumGoroutine")=false)
(hit:Ranges P bs ps N fn caps assign body L0 f f' cs cs' b)
(hret:b=false->Q .ret (LA f' bs cs' L0))(hrest:b=true->qK P pins N rest (λe L2=>e= .ret/\Q .ret L2) (LA f' bs cs' L0)):
 zMP P (DK::pins) N (.block i (.rangeFunc (.tmp g) ps.toArray assign body)) rest Q L:=by
 intro Fe ne hw w0 m0 o0 G a w hS
 have hFe:=hw.out (by simp)
 subst hFe
 obtain⟨hNa,hlo,m,o,I⟩:=hS
 have hbO:∀b∈bs,b<OB:=λb h=>wO (hbN b h) hN
 have hz2:∀g c k,c %64=63->o g≠some (OB+(OB+c),k):=λg c k hc=>by have:=I.slots (OB+(OB+c));rw[zE6 hlo hk,hf.z c hc]at this;exact this g k
 have hol:o (w.heap.size+1)=none:=by(cases hq:o (w.heap.size+1)with|none=>rfl|some q=>have:=I.lt _ _ hq;omega)
 have V:=VW.toY hbn hbO hol hz2
 refine wpIn_block (wpIn_rangeFunc λfnn _=> ?_)
 obtain⟨ptrs,hv,hcall⟩:=zTv (fnn:=fnn) hNa hlo I hk hf hcl hcc hbn hbN hbx hg hcaps hL0 hit
 obtain⟨hH,hc⟩:=hcall _ rfl
 have hfr0:∀s,OB<=s->gt L0 s= .free->∀g k,o g≠some (s,k):=λs h1 h2=>by rcases hL0 s with e|⟨h,_⟩|⟨_,h3,h4,_⟩;rw[e]at h2;cases h2;omega;(have:=I.slots s;rw[zDY (by unfold HK OB2 at*;omega),h4]at this;exact this)
 generalize hrr:({state:= .ready,pending:=none,fn:=fnn,tmps:=a.tmps,params:=ps.toArray,assign:=assign,body:=body,defers:=w.heap.size}:Loop)=r at hc hH
 have hev:a.eval (.tmp g)= .func (.func fn) #[] ptrs:=hv
 refine⟨w.heap.size+1,[{target:= .collected w.heap.size,args:= #[]}],(w.alloc (.deferred (some []))).alloc (.loop r),{target:= .fn (.func fn) ptrs,args:= #[yv (w.heap.size+1)]},(w.alloc (.deferred (some []))).alloc (.loop r),fn,#[yv (w.heap.size+1)]++ptrs,(w.alloc (.deferred (some []))).alloc (.loop r),?_,?_,λ_ _=>trivial,?_,λh=>by simp[Fence.wide]at h,callsIn_wide.2 (hc.mono ?_)⟩
 · rw[<-hrr];exact run_enterLoop_outer fnn a.tmps ps.toArray assign body
 · simp only[resolve,hev,Deferred.ofValue];simp[Act.eval,yv]
 · (have hb:F.body≠none:=λe=>by rw[e]at hbody;cases hbody);(have hn:F.name≠ "runtime.NumGoroutine" :=λe=>by rw[e]at hname;simp at hname);simp[invoke,callFunc,hfn,hn,hb]
 · rintro e w3 ⟨u,m',o',S',a',rfl,J,hS'⟩;obtain⟨I4,hlow,k3,hoD,hD⟩:=zSm (x:= .loop {(if b then r else{r with state:= .done,pending:=some .ret})with state:= .exhausted}) hNa I hz2 hf' hcl' hcc' hbn hbO hH hfr0 (by rw[<-hrr]) J (λcs E q=>by simp) hS' {target:= .collected w.heap.size,args:= #[]};(have hrs:(if b then r else{r with state:= .done,pending:=some .ret}:Loop).state≠ .busy:=by cases b<;>simp[<-hrr]);have hel:=run_endLoop (P:=P) k3 hrs;have hD4:(w3.putObj (w.heap.size+1) (.loop {(if b then r else{r with state:= .done,pending:=some .ret})with state:= .exhausted})).heap[w.heap.size]? =some (.deferred (some [])):=(vC (by omega)).trans hD;have hNa4:({a with defers:={target:= .collected w.heap.size,args:= #[]}::a.defers}:Act).tmps.size=N:=hNa;(have hds:({target:= .collected w.heap.size,args:= #[]}::a.defers:List Deferred)={target:= .collected w.heap.size,args:= #[]}::G.ds:=by rw[I.defers]);(cases b with|false=>refine⟨_,_,hel,?_⟩;refine wpIn_ret ?_;refine⟨LA f' bs cs' L0,hret rfl,.inr ⟨by simp,w.heap.size,hds,hD4,I.same.size,hNa,hlow,m',afO bs o o',hoD,?_⟩⟩;show Inv w0 m0 o0 ⟨G.p,{target:= .collected w.heap.size,args:= #[]}::a.defers⟩ (DK::pins) _ _ _ m' (afO bs o o');rw[I.defers];rw[I.defers]at I4;exact I4|true=>rw[if_pos rfl]at hD4 I4 hel;(have hp0:r.pending=none:=by rw[<-hrr]);refine⟨none,_,hel.trans (congrArg (λx=>Result.ok x _) hp0),?_⟩;have I6:=I4.nodk;have hDlt:w.heap.size<(w3.putObj (w.heap.size+1) (.loop {r with state:= .exhausted})).heap.size:=(uH.1 hD4).1;refine wpIn_mono (hrest rfl Fence.wide ne ⟨.wide,λ_=>rfl⟩ _ _ _ _ _ _ ⟨hNa4,hlow,m',afO bs o o',I6.base⟩) ?_;rintro e a5 w5 ⟨L2,⟨rfl,hq⟩,hS5⟩;obtain⟨hN5,hlo5,m5,o5,I5⟩:=hS5.st hp;have I7:=(I6.comp (λg h=>h) I5).dk;(have hoD5:o5 w.heap.size=none:=by(cases hq:o5 w.heap.size with|none=>rfl|some q=>rcases I5.own _ q hq with h|h;exact absurd hoD h;exact absurd hDlt (Nat.not_lt.2 h)));refine⟨L2,hq,.inr ⟨by simp,w.heap.size,I5.defers,(I5.same.block _ hDlt λh=>h hoD).trans hD4,I.same.size,hN5,hlo5,m5,o5,hoD5,?_⟩⟩;rw[I5.defers];exact I7)
section
variable {P:Program}{w0:World}{m0:Mem}{o0:OwnM}{G:GD}{pins:List Nat}{S:Nat->A}{a:Act}{w:World}{m:Mem}{o:OwnM}
theorem Inv.turn_new(I:Inv w0 m0 o0 G pins S a w m o){l:Nat}(hl:o l=none)(Z:∀p,m l p=none)(h0:w0.heap.size<=l)(W:∀U E q,w.heap[l]? ≠some (.cells U E q))(u:Obj):Inv w0 m0 o0 G pins S a (w.putObj l u) m o:=by(have J:∀g k,o g=some k->g≠l:=λg k h e=>by subst e;rw[hl]at h;cases h);have hh:∀g k,o g=some k->(w.putObj l u).heap[g]? =w.heap[g]? :=λg k h=>vC (J g k h);have K:Keep (λ_=>False) m w o m (w.putObj l u) o:=⟨.refl _,λ_ _ _ _=>rfl,λg k h _=>hh g k h,λ_ _ h _=>h,λ_ _ h=>h,λg _ k _ h=>⟨g,k,h⟩,λg j h=> .of_eq (hh g _ h)⟩;refine⟨⟨I.same.os,I.same.tape,I.same.output,by rw[tD];exact I.same.size,λk hk hn=> ?_,λk=> ?_⟩,λb p v h=> ?_,I.mono,I.old,I.own,λg k h=>by rw[tD];exact I.lt g k h,I.inj,I.pinned,λs=>RepA.keep K (λ_=>id) (λ_ _ _ _=>⟨id,id⟩) (I.slots s),I.defers,I.tbl,I.wide,I.shps.keep I.pinned K.sh⟩;(rw[vC (by omega)];exact I.same.block k hk hn);(refine(I.same.shape k).trans ?_;by_cases e:k=l;(subst e;intro U E q h;grind);exact(zBc.of_eq (vC e)).w);((have hb:b≠l:=λe=>by subst e;rw[Z]at h;cases h);have:=I.sat b p v h;unfold World.cell? at this⊢;rw[vC hb];grind)
theorem fch_mkR(fr:List Nat){fn:FuncId}{F:Func}{c:Code}{args:List A}{rs:List ResultVar}{ins outs:List A}{f f':Nat->A}{r:A}{n:Nat}(hf:P.funcs[fn]? =some F)(hb:F.body=some c)(hn:F.ntmps=n)(χ:args.length<=n)(ζ:F.results=rs.toArray)
(U:(DK::zGn ins.length,Nat.ble n OB,fr.all (λj=>Nat.ble ins.length j&&Nat.blt j OB),Nat.blt ins.length OB&&Nat.blt outs.length OB,(match rs with|[.tmp t]=>Nat.blt t OB|_=>true))=(pins,true,true,true,true))(hL:zGh fr args ins f=L)(hc:qK P pins n c (endH P rs outs f' r) L):FCH P fn args ins outs f f' r:=by
 injection U with U hw
 injection hw with hw α
 injection α with α W
 injection W with W φ
 have hw:=wZ hw
 simp only[wI]at W
 have ψ:ins.length<OB:=by simpa using W.1
 have hoo:outs.length<OB:=by simpa using W.2
 have δ:fr.all (λj=>Nat.ble ins.length j)=true:=wG.2 λj hj=>by have:=wG.1 α j hj;simp only[wI]at this;exact this.1
 have ε:fr.all (λj=>Nat.blt j OB)=true:=wG.2 λj hj=>by have:=wG.1 α j hj;simp only[wI]at this;exact this.2
 subst hn U hL
 intro w m o ω η θ κ γ π ι
 obtain⟨β,μ,I0⟩:=fch_inv fr χ hw ψ δ ε η θ κ γ π ι
 refine callsIn_wide.1 (callsIn_of_wp_marks (n:=0) hf hb trivial (wpIn_mono (hc Fence.wide 0 ⟨.wide,λ_=>rfl⟩ w m o ⟨λg=>o g≠none,[]⟩ _ w ⟨μ,β,m,o,I0.dk⟩) ?_))
 rintro e Z w' ⟨L',hq,hS⟩
 have fin:∀(w2:World) (m':Mem) (o':OwnM) (ds:List Deferred),Low (gt L')->Inv w m o ⟨λg=>o g≠none,ds⟩ (zGn ins.length) (hx (gt L')) Z w2 m' o'->((∃y,resA P (gt L') rs=some y/\WkA y r)/\outH L' 0 outs/\gt L' HK= .hp f')->∃v,(results F Z.tmps).run P w2= .ok v w2/\∃(u:Value) (m':Mem) (o':OwnM) (S':Nat->A) (Z:Act) (ρ:Nat),Ending.returned v= .returned u/\Inv w m o ⟨λg=>o g≠none,[]⟩ (zGn ins.length) S' Z w2 m' o'/\RepA m' w2 o' S' ρ r u/\(∀(i:Nat) (x:A),outs[i]? =some x->S' (OB+i)=x)/\(∀c,S' (OB+(OB+c))=san (f' c))/\ρ<OB:=by rintro w2 m' o' ds J I ⟨⟨y,hy,hw⟩,ho,hk⟩;obtain⟨y',σ,ξ⟩:=zSQ hy;obtain⟨v,ρ,h1,h2,h3⟩:=zTA (P:=P) I ζ φ σ;refine⟨v,h1,v,m',o',hx (gt L'),{Z with defers:=[]},ρ,rfl,I.defs [],hw.rep I.sat (by rcases ξ with rfl|rfl;exact h2;exact trivial),λi l h=> ?_,λc=>zE6 J hk c,h3⟩;have hi:=(wB.1 h).1;have:=zQa ho i l h;rw[vJ]at this;rw[zDY (by unfold OB OB2 at*;omega),this]
 have plain:St w m o ⟨λg=>o g≠none,[]⟩ (DK::zGn ins.length) F.ntmps L' Z w'->((∃y,resA P (gt L') rs=some y/\WkA y r)/\outH L' 0 outs/\gt L' HK= .hp f')->LeavesInM Fence.wide 0 P F Z.tmps (λe w'=>∃(u:Value) (m':Mem) (o':OwnM) (S':Nat->A) (Z:Act) (ρ:Nat),e= .returned u/\Inv w m o ⟨λg=>o g≠none,[]⟩ (zGn ins.length) S' Z w' m' o'/\RepA m' w' o' S' ρ r u/\(∀(i:Nat) (x:A),outs[i]? =some x->S' (OB+i)=x)/\(∀c,S' (OB+(OB+c))=san (f' c))/\ρ<OB) Z.defers .returning w':=by rintro⟨hN,J,m',o',I⟩ hq;rw[I.defers];exact fin w' m' o' [] J I.nodk hq
 cases e with
  |normal=>exact plain hS hq
  |ret=>
   rcases hS with hS|⟨_,D,hd,hD,h0,hN,J,m',o',τ,I⟩
   · exact plain hS hq
   · show LeavesInM Fence.wide 0 P F Z.tmps _ Z.defers .returning w';rw[hd];refine⟨by simp,.inl ⟨D,_,rfl,run_takeDeferred hD,?_⟩⟩;(have ν:∀p,m' D p=none:=λp=>by(cases hq:m' D p with|none=>rfl|some v=>have:=I.sat _ _ _ hq;unfold World.cell? at this;rw[hD]at this;simp at this));exact fin _ m' o' _ J (I.nodk.turn_new τ ν h0 (λcs E q=>by rw[hD];simp) (.deferred none)) hq
  |_=>exact hq.elim
end
section
variable {w0:World}{m0:Mem}{o0:OwnM}{G:GD}{pins:List Nat}{S M:Nat->A}{a:Act}{w:World}{m:Mem}{o:OwnM}{P:Program}{N:Nat}
theorem Inv.freezeT(I:Inv w0 m0 o0 G pins S a w m o)(s:Nat)(α:s<OB)(hs:s∉pins){l:List T}(hpt:l.all dhT=true)(W:S s= .box l)(β:∀t off,S t≠ .ref s off):∃m' o',Inv w0 m0 o0 G pins (upd S s (.imt l)) a w m' o':=by have hb:=I.slots s;rw[W]at hb;obtain⟨g,e,h1,h2,cs,E,h3,h4,h5⟩:=hb;(have hk:∀b l,(λb=>if(o b).map (·.1)=some s then none else o b) b=some l->l.1≠s/\o b=some l:=by grind);(have J:∀b l,o b=some l->l.1≠s->(if(o b).map (·.1)=some s then none else o b)=some l:=λb l h hn=>by rw[h,if_neg (by simpa using hn)]);(have K:Keep (λl=>l.1=s) m w o (newM m g λp=>cs[p]?) w (λb=>if(o b).map (·.1)=some s then none else o b):=by refine⟨λb p u h=> ?_,λb l h hn=> ?_,λ_ _ _ _=>rfl,λb l h hn=>J b l h hn,λb j h=>J b _ h (zMu α),λb t k _ h=>⟨b,k,(hk b _ h).2⟩,λb j _=> .of_eq rfl⟩;(unfold newM;grind);((have:b≠g:=λe=>by grind);funext p;unfold newM;grind));refine⟨_,_,⟨I.same,λb p u h=> ?_,I.mono.trans K.mle,λb hb hg=> ?_,λb l h=>I.own b l (hk b l h).2,λb l h=>I.lt b l (hk b l h).2,λb b' l h h'=>I.inj b b' l (hk b l h).2 (hk b' l h').2,λp hp b hb=> ?_,λt=> ?_,I.defers,I.tbl,I.wide,I.shps⟩⟩;(unfold newM at h;split at h;(rename_i hb;subst hb;unfold World.cell?;grind);exact I.sat b p u h);((have:b≠g:=λe=>by subst e;rcases I.own b _ h1 with h|h;(all_goals grind));rw[<-I.old b hb hg];funext p;unfold newM;grind);(exact J b _ (I.pinned p hp b hb) λe=>hp.elim (λhp=>hs (by rw[<-e];exact hp)) λhp=>by have e:p=s:=e;omega);(by_cases ht:t=s;(subst ht;rw[zT];refine⟨g,e α,λj x hj=> ?_⟩;obtain⟨ha,u,hu,hr⟩:=h5 j x hj;refine⟨u,by rw[zB5];exact hu,?_⟩;have hd:=wG.1 hpt x (wC hj);(cases x with|d y=>exact RepD.mono K.mle hr|hpt c off=>obtain⟨Z,q1,q2⟩:=hr;exact⟨Z,K.pt Z _ q1,q2⟩|opt t p=>exact hr.imp id λ⟨i,e,Z,q1,q2⟩=>⟨i,e,Z,K.pt Z _ q1,q2⟩|_=>cases hd));(rw[zE ht];refine RepA.keep K (λj e=>ht e) (λb off e _=> ?_) (I.slots t);have U:b≠s:=λe'=>β t off (by rw[e,e']);exact⟨U,λ⟨l,hl⟩=>⟨l,by rw[zE U,hl]⟩⟩))
theorem st_fzT{L L':SL}(s:Nat){l:List T}(hb:gt L s= .box l)(hp:(pins.contains s|| !Nat.blt s OB)=false)(hr:(zK5 s L&&l.all dhT)=true)(U:(s,.imt l)::L=L')(Z:St w0 m0 o0 G pins N L a w):St w0 m0 o0 G pins N L' a w:=by subst U;obtain⟨W,u,m,o,I⟩:=Z;rw[Bool.or_eq_false_iff]at hp;rw[wI]at hr;obtain⟨m',o',J⟩:=I.freezeT s (by simpa using hp.2) (by simpa using hp.1) hr.2 (zBq hb (by simp)) (λt off e=>zPI hr.1 t off (hx_ref e));exact⟨W,by rw[zR];exact u.upd (lt2 (by simpa using hp.2)),m',o',by rw[zR,zOX (.inl (by simpa using hp.2))];exact J⟩
def zUY(M:Nat->A):List Operand->Option (List (List T))
 |[]=>some []
 |x::r=>match cpO M x,zUY M r with| .imt l,some k=>some (l::k)|_,_=>none
theorem zQs(J:Mk M S)(I:Inv w0 m0 o0 G pins S a w m o):∀{xs:List Operand} {u:List (List T)},zUY M xs=some u->xs.length=u.length/\∀i l,u[i]? =some l->RepA m w o S 0 (.imt l) ((xs.map a.eval).getD i undef)
 |[],u,h=>by injection h with h;subst h;exact⟨rfl,λi l h=>by simp at h⟩
 |x::r,u,h=>by unfold zUY at h;split at h;(case h_2=>cases h);rename_i l k h1 U;cases h;obtain⟨k1,k2⟩:=zQs J I U;refine⟨by simp[k1],λi W Z=> ?_⟩;(cases i with|zero=>cases Z;have:=qA J I x 0;grind|succ i=>grind)
theorem ok_mfT(hM:Mk M S){d f:Nat}{xs:List Operand}(α:op.op= .makeFunc (.func f) #[] xs.toArray)(hd:op.dst=some d)(Z:okD N pins S d=true){J:List (List T)}(hc:zUY M xs=some J)(W:J.all (λl=>l.all dhT)=true):OpOK P pins N op S (upd S d (.cl f J)):=by refine zL λw0 m0 o0 G a w m o hN I=> ?_;obtain⟨k1,k2,k3⟩:=zS Z;obtain⟨c1,c2⟩:=zQs hM I hc;(have U:RepA m w o (upd S d (.cl f J)) d (.cl f J) (.func (.func f) #[] (xs.map a.eval).toArray):=by refine⟨_,rfl,by simpa using c1,λi l hi=> ?_⟩;(have β:i<xs.length:=by rw[c1];exact(wB.1 hi).1);obtain⟨g,e,h⟩:=c2 i l hi;refine⟨g,?_,λj x hj=> ?_⟩;grind;(obtain⟨u,q1,q2⟩:=h j x hj;refine⟨u,q1,?_⟩;have hd:=wG.1 (wG.1 W l (wC hi)) x (wC hj);(cases x with|d y=>exact q2|hpt c off=>exact q2|opt t p=>exact q2|_=>cases hd)));refine⟨.func (.func f) #[] (xs.map a.eval).toArray,w,m,o,?_,by rw[hd];exact I.set d _ _ (by omega) k2 U⟩;unfold execOp;rw[α];simp[Instr.makeFunc]
theorem ok_ldT(hM:Mk M S){d t n:Nat}{x:Operand}{l:List T}{z:T}{y:A}(Z:op.op= .load t x)(ht:tyA P t=some (false,n))(hx:cpO M x= .imt l)(hz:l[0]? =some z)(hy:norH z=some y)(hd:op.dst=some d)(U:okD N pins S d=true):OpOK P pins N op S (upd S d y):=by refine zL λw0 m0 o0 G a w m o hN I=> ?_;obtain⟨h1,W,h3⟩:=zS U;have J:=qA hM I x 0;rw[hx]at J;obtain⟨g,e,k1⟩:=J;obtain⟨u,hu,hr⟩:=k1 0 z hz;refine⟨u,w,m,o,?_,by rw[hd];exact I.set d _ _ (by omega) W (zTf I.sat hy hr)⟩;unfold execOp;rw[Z];simp only[wE];rw[e];simp only[Instr.loadAt,Instr.sureAddr,wE,wU,wD];rw[zCo ht (I.sat _ _ _ hu)];rfl
theorem h_ldT{d:Nat}(U:Mk M S){t n:Nat}{x:Operand}{l:List T}{z:T}{y:A}(I:op.op= .load t x)(ht:tyA P t=some (false,n))(hx:cpO M x= .imt l)(hz:l[0]? =some z)(hy:norH z=some y)(hd:op.dst=some d)(u:okD N pins S d=true):OpH P pins N op S (app S [(d,y)]):=
 .of (e:=[(d,y)]) λJ=>⟨ok_ldT U.hx I ht hx hz hy hd (qR J u),zBz (qG J u)⟩
theorem h_mfT{d f:Nat}(W:Mk M S){xs:List Operand}(U:op.op= .makeFunc (.func f) #[] xs.toArray)(hd:op.dst=some d)(I:okD N pins S d=true){u:List (List T)}(hc:zUY M xs=some u)(J:u.all (λl=>l.all dhT)=true):OpH P pins N op S (app S [(d,.cl f u)]):=
 .of (e:=[(d,.cl f u)]) λZ=>⟨ok_mfT W.hx U hd (qR Z I) hc J,zBz (qG Z I)⟩
theorem boxp_ok(I:Inv w0 m0 o0 G pins S a w m o){d c off:Nat}(E:TypeId)(hd:d<a.tmps.size)(J:(S d).isBox=false)(U:d∉pins){s:Nat}(hy:RepA m w o S s (.t (.hpt c off)) v):
 ∃m' o',Inv w0 m0 o0 G pins (upd S d (.box [.hpt c off])) (a.put (some d) (.pointer (some ⟨w.heap.size,0,none⟩))) (w.alloc (.cells v.cells E)) m' o':=by
 obtain⟨g,Z,h2⟩:=hy
 have α:d<OB:=wO hd I.wide
 refine⟨_,_,I.own_put d _ _ (λ_=>none) w.heap.size _ hd J U (I.free (wJ _)) (I.newG (wJ _)) ((Same.alloc (λ_=>False) w _).weaken (λ_ h=>h.elim)) (by simp) (λp u h=>by rw[I.mem_none (wJ _)]at h;cases h) (λp u h=>by cases h) ?_⟩
 have hv:v.cells= #[v]:=by rw[h2];rfl
 refine⟨w.heap.size,λ_=>rfl,zAO _ _ _,λp=>zB5 _ _ _ _,v.cells,E,heap_alloc_new w _,?_,λj x W=> ?_⟩
 · rw[hv];simp
 · (cases j with|succ j=>simp at W|zero=>cases W;refine⟨rfl,v,by rw[hv];rfl,g,?_,h2⟩;have hg:=I.lt g _ Z;show newO o d w.heap.size g=_;unfold newO;rw[if_neg (by omega),if_neg (by rw[Z];simp;omega)];exact Z)
theorem h_boxp(hM:Mk M S){d E c off:Nat}{x:Operand}(Z:op.op= .box E x)(hx:cpO M x= .t (.hpt c off))(hd:op.dst=some d)(u:okD N pins S d=true):OpH P pins N op S (app S [(d,.box [.hpt c off])]):=
 .of (e:=[(d,.box [.hpt c off])]) λU=>⟨by refine zL λw0 m0 o0 G a w m o hN I=> ?_;obtain⟨h1,W,h3⟩:=zS (qR U u);have hr:=qA hM.hx I x 0;rw[hx]at hr;obtain⟨m',o',J⟩:=boxp_ok I E (by omega) W h3 hr;refine⟨_,_,m',o',?_,by rw[hd];exact J⟩;unfold execOp;rw[Z];simp only[wE,zQp,wD];rfl,zBz (qG U u)⟩
theorem boxo_ok(I:Inv w0 m0 o0 G pins S a w m o){d t:Nat}{p:Option Nat}(E:TypeId)(hd:d<a.tmps.size)(J:(S d).isBox=false)(U:d∉pins){s:Nat}(hy:RepA m w o S s (.t (.opt t p)) v):
 ∃m' o',Inv w0 m0 o0 G pins (upd S d (.box [.opt t p])) (a.put (some d) (.pointer (some ⟨w.heap.size,0,none⟩))) (w.alloc (.cells v.cells E)) m' o':=by
 have W:d<OB:=wO hd I.wide
 refine⟨_,_,I.own_put d _ _ (λ_=>none) w.heap.size _ hd J U (I.free (wJ _)) (I.newG (wJ _)) ((Same.alloc (λ_=>False) w _).weaken (λ_ h=>h.elim)) (by simp) (λp u h=>by rw[I.mem_none (wJ _)]at h;cases h) (λp u h=>by cases h) ?_⟩
 have hv:v.cells= #[v]:=by rcases hy with⟨_,h⟩|⟨i,_,g,_,h⟩<;>rw[h]<;>rfl
 refine⟨w.heap.size,λ_=>rfl,zAO _ _ _,λp=>zB5 _ _ _ _,v.cells,E,heap_alloc_new w _,?_,λj x Z=> ?_⟩
 · grind
 · (cases j with|succ j=>grind|zero=>cases Z;refine⟨rfl,v,by rw[hv];rfl,hy.imp id λ⟨i,e,g,h1,h2⟩=>⟨i,e,g,?_,h2⟩⟩;have hg:=I.lt g _ h1;show newO o d w.heap.size g=_;unfold newO;grind)
theorem h_boxo(hM:Mk M S){d E t:Nat}{p:Option Nat}{x:Operand}(Z:op.op= .box E x)(hx:cpO M x= .t (.opt t p))(hd:op.dst=some d)(u:okD N pins S d=true):OpH P pins N op S (app S [(d,.box [.opt t p])]):=
 .of (e:=[(d,.box [.opt t p])]) λU=>⟨by refine zL λw0 m0 o0 G a w m o hN I=> ?_;obtain⟨h1,W,h3⟩:=zS (qR U u);have hr:=qA hM.hx I x 0;rw[hx]at hr;obtain⟨m',o',J⟩:=boxo_ok I E (by omega) W h3 hr;refine⟨_,_,m',o',?_,by rw[hd];exact J⟩;unfold execOp;rw[Z];simp only[wE,zQp,wD];rfl,zBz (qG U u)⟩
end
end Go.Proofs.YtocolhfjpadaoaaGreatDoor
