/-
  Lemmas of this claim, joined.
-/
import Derived.Test.YtocolhfjpadaoaaGreatDoorR05
import Derived.Lib.AppendZeros
import Derived.MapKept
import Derived.Lib.BufferWrite
import Derived.ScopeJumps
import Derived.RangeFuncSeq
import Derived.RangeFuncIn
import Derived.RangeFuncRecord
set_option linter.unusedVariables false
set_option linter.unusedSimpArgs false
set_option linter.constructorNameAsVariable false
namespace Go.Proofs.YtocolhfjpadaoaaGreatDoor
open Go
abbrev vC:=@World.putObj_heap_other
abbrev tA:=@List.findIdx?_eq_some_iff_getElem
abbrev tD:=@World.putObj_size
abbrev sY:=@List.map_replicate
end Go.Proofs.YtocolhfjpadaoaaGreatDoor
namespace Go.Proofs.YtocolhfjpadaoaaGreatDoor
open Go Go.RowKit
variable {P:Program}{w0:World}{w:World}{m0:Mem}{m:Mem}{o0:OwnM}{o:OwnM}{G:GD}{pins:List Nat}{N:Nat}{a:Act}{op:Oper}{S:Nat->A}{M:Nat->A}{L:SL}{v:Value}{W:World}{Q:Mem}{X:OwnM}
theorem zHy{z:Value}(n:Nat):Builtin.zeroCells #[z] n=(List.replicate n z).toArray:=by unfold Builtin.zeroCells;grind
theorem zL1(P:Program)(w:World){t tn e:TypeId}{Z:TypeInfo}{z:Value}(hu:P.underlying t=some (.slice e))(kn:IntKind)(α:P.underlying tn=some (.int kn))(hi:P.info? e=some Z)(hz:Z.zero=some z)(U:Z.size=1)(ε:z.cells= #[z])(ψ:z.oneCell'=true)(χ:0<Z.bytes)(ty:TypeId)(A':Option Addr)(n c:Nat)(xs:List Value)(I:Own w 0 e 1 A' n c xs)
  (ki:IntKind)(k:Nat)(hb:(n+k)*Z.bytes<=140737488355328):
  ∃A2 c2 w',(Builtin.append_ #[t,tn] ty #[.slice A' n c,.int ki k]).run P w= .ok (.slice A2 (n+k) c2) w'/\Own w' 0 e 1 A2 (n+k) c2 (xs++List.replicate k z)/\
   ((blk A2=blk A'/\w.grownBy w' (blk A')/\∀g,zBc w w' g)\/(blk A2=some w.heap.size/\w.grownBy w' none)):=by
 have ξ:n+k<=maxLen:=by
  have:=tN (n+k) χ
  unfold maxLen;omega
 have τ:n+k<=9223372036854775807:=by simp only[maxLen]at ξ;omega
 have hw:IntKind.i64.wrap (k:Int)=k:=by rw[IntKind.wrap_i64];omega
 have η:¬((k:Int)<0):=by omega
 have hkb:k*Z.bytes<=140737488355328:=uW (uC _ (by omega)) hb
 have ζ:¬(281474976710656<(k:Int)*(Z.bytes:Int)):=by
  grind
 have β:(xs++List.replicate k z).length=(n+k)*1:=by rw[wS,I.1,wN,tP,uQ k]
 have μ:xs.length=n:=by rw[I.1,uQ]
 have grown:∀(old:Nat),old<n+k->
   Own (w.drew.alloc (.cells (xs.toArray++(List.replicate k z).toArray++Builtin.zeroCells z.cells (grownCap w (n+k) old e-(n+k))) e)) 0 e 1 (some ⟨w.heap.size,0,none⟩) (n+k) (grownCap w (n+k) old e) (xs++List.replicate k z)/\
   w.grownBy (w.drew.alloc (.cells (xs.toArray++(List.replicate k z).toArray++Builtin.zeroCells z.cells (grownCap w (n+k) old e-(n+k))) e)) none:=by
  intro old ho
  have φ:=grownCap_ge w (n+k) old e
  have θ:grownCap w (n+k) old e<=maxLen:=grownCap_le_maxLen w (n+k) old e ξ
  refine⟨⟨β,.inr ⟨w.heap.size,_,_,rfl,uF _,heap_alloc_new w.drew _,φ,θ,?_,?_⟩⟩,⟨rfl,rfl,rfl,by simp,λq hq _=>Below.heap_alloc w.drew _ q hq⟩⟩
  ·
   simp only[sI,vV,size_zeroCells,ε,μ,wN,uQ]
   rw[tV,uQ]
   omega
  ·
   simp only[Array.toList_append,vW]
   rw[<-vW,<-β]
   exact List.take_left
 rcases I.2 with⟨hv,rfl⟩|⟨g,cap,γ,hv,ω,hg,hnc,θ,hcs,htake⟩
 ·
  cases hv
  have hx:xs=[]:=vF μ
  subst hx
  by_cases hm:k=0
  ·
   subst hm
   refine⟨none,0,w,?_,tM w 0 e 1,.inl ⟨rfl,World.grownBy.refl w _,λ_=> .refl _ _⟩⟩
   simp[Builtin.append_,run_underlying hu,run_underlying α,sizeOf,typeInfo,hi,asInt,asIntOf,show IntKind.i64.wrap 0=0 from rfl,U]
  ·
   have hr:=Lib.run_append_nil_zeros (P:=P) w t tn ty e Z z ki kn hu α hi hz k (by omega) (by omega) (by omega) (by omega)
   have W:=grown 0 (by omega)
   simp only[vJ,tF,Array.empty_append]at W⊢
   have δ:Builtin.zeroCells z.cells k=(List.replicate k z).toArray:=by rw[ε,zHy]
   rw[δ]at hr
   exact⟨_,_,_,hr,W.1,.inr ⟨rfl,W.2⟩⟩
 ·
  cases hv
  by_cases hm:k=0
  ·
   subst hm
   refine⟨some ⟨g,0,none⟩,c,w,?_,by simpa using I,.inl ⟨rfl,World.grownBy.refl w _,λ_=> .refl _ _⟩⟩
   simp[Builtin.append_,run_underlying hu,run_underlying α,sizeOf,typeInfo,hi,asInt,asIntOf,show IntKind.i64.wrap 0=0 from rfl,U,hnc,storeCells]
  by_cases J:n+k<=c
  ·
   have ρ:n*Z.size+(List.replicate k z).length<=γ.size:=by rw[wN,hcs,U,uQ,uQ];exact J
   have ι:=run_storeCells_at P g (n*Z.size) e (List.replicate k z) 0 γ w hg (by simpa using ρ) (λu hu=>by rw[(List.mem_replicate.1 hu).2];exact ψ)
   simp only[uP]at ι
   have hr:(Builtin.append_ #[t,tn] ty #[.slice (some ⟨g,0,none⟩) n c,.int ki k]).run P w= .ok (.slice (some ⟨g,0,none⟩) (n+k) c) (w.setRow g (γ.toList.take (n*Z.size)++List.replicate k z++γ.toList.drop (n*Z.size+(List.replicate k z).length)).toArray):=by
    have δ:Builtin.zeroCells #[z] k=(List.replicate k z).toArray:=zHy k
    rw[U,uQ]at ι
    simp[Builtin.append_,run_underlying hu,run_underlying α,sizeOf,typeInfo,zeroValue,hi,hz,U,ε,hm,asInt,asIntOf,hw,η,ζ,J,δ,Addr.add_lit,ι]
   refine⟨_,_,_,hr,⟨β,.inr ⟨g,c,_,rfl,ω,setRow_heap w g γ _ e _ hg,J,θ,?_,?_⟩⟩,.inl ⟨rfl,⟨rfl,rfl,rfl,by simp,λk _ hk=>setRow_other w g k _ (λe=>hk (by simp[blk,e]))⟩,λq=>zCP hg (by
    simp only[vV,wS,vZ,uY,vM]
    omega) q⟩⟩
   all_goals grind
  ·
   have κ:∀j u,xs[j]? =some u->w.cell? ((⟨g,0,none⟩:Addr).add j)=some u:=World.ownsRow.cells I (g:=g) rfl
   have hn:¬(n+k<=c):=J
   have π:¬(9223372036854775807<((n:Int)+(k:Int))):=by omega
   have σ:¬(281474976710656<Builtin.nextslicecap (n+k) c*Z.bytes):=by have:=growslice_fits (need:=n+k) (old:=c) (bytes:=Z.bytes) (by omega) hb;omega
   have ν:=run_firstCells_some (P:=P) w.drew Z.size n ⟨g,0,none⟩ n c xs (by rw[U,I.1]) (by simpa using κ)
   have δ:∀q,Builtin.zeroCells #[z] q=(List.replicate q z).toArray:=zHy
   have W:=grown c (by omega)
   refine⟨_,_,_,?_,W.1,.inr ⟨rfl,W.2⟩⟩
   rw[U]at ν
   simp[Builtin.append_,run_underlying hu,run_underlying α,sizeOf,typeInfo,zeroValue,hi,hz,U,ε,hm,asInt,asIntOf,hw,η,ζ,hn,π,σ,Question.forced,ν,newRow,grownCap,δ]
section
variable {w0:World}{m0:Mem}{o0:OwnM}{G:GD}{pins:List Nat}{S M:Nat->A}{a:Act}{w:World}{m:Mem}{o:OwnM}{P:Program}{N:Nat}
theorem apz_ok(I:Inv w0 m0 o0 G pins S a w m o){e sz:Nat}{X:Sem Value}{d:Nat}(hd:d<a.tmps.size)(γ:(S d).isBox=false)(μ:d∉pins)
{A':Option Addr}{c:Nat}{l:List (List D)}{xs:List Value}(ι:Own w 0 e sz A' l.length c xs)(W:zIl m sz l xs)(ν:∀g,blk A'=some g->(∀l,o g=some l->l.1=d)/\(G g\/w0.heap.size<=g)/\g<w.heap.size/\∀p,m g p=xs[p]?)
{l':List (List D)}{Z:List Value}(θ:zIl m sz l' Z)
(hX:∃A2 c2 w',X.run P w= .ok (.slice A2 (l.length+l'.length) c2) w'/\Own w' 0 e sz A2 (l.length+l'.length) c2 (xs++Z)/\((blk A2=blk A'/\w.grownBy w' (blk A')/\∀g,zBc w w' g)\/(blk A2=some w.heap.size/\w.grownBy w' none))):
 ∃v w' m' o',X.run P w= .ok v w'/\Inv w0 m0 o0 G pins (upd S d (.t (.own e sz (l++l')))) (a.put (some d) v) w' m' o':=by
 obtain⟨A2,c2,w',δ,U,ζ⟩:=hX
 refine⟨.slice A2 (l.length+l'.length) c2,w',?_⟩
 have β:∀(i:Nat) (r:List D),(l++l')[i]? =some r->r.length=sz:=(W.append θ).2.1
 have fin:∀(g:Nat),blk A2=some g->(∀l,o g=some l->l.1=d)->(G g\/w0.heap.size<=g)->Same (λb=>b=g/\b<w.heap.size) w w'->(∀p u,m g p=some u->(xs++Z)[p]? =some u)->∃m' o',X.run P w= .ok (.slice A2 (l.length+l'.length) c2) w'/\Inv w0 m0 o0 G pins (upd S d (.t (.own e sz (l++l')))) (a.put (some d) (.slice A2 (l.length+l'.length) c2)) w' m' o':=by intro g hg h2 h3 h4 h5;have η:g<w'.heap.size:=(Own.lt U g hg).2;refine⟨_,_,δ,I.own_put d _ _ (λp=>(xs++Z)[p]?) g w' hd γ μ h2 h3 h4 η h5 (λp u hp=>Own.cellAt U hg hp) ?_⟩;(have ξ:Mle m (newM m g λp=>(xs++Z)[p]?):=by intro b p u hu;unfold newM;grind);refine⟨A2,c2,xs++Z,by rw[wS],by rw[wS];exact zF3 U,λg' κ=> ?_,β,((W.append θ).mono ξ).2.2⟩;rw[hg]at κ;cases κ;exact⟨zAO _ _ _,λp _=>by rw[Own.off0 U,vJ];exact zB5 _ _ _ _⟩
 rcases ζ with⟨α,J,ε⟩|⟨α,J⟩
 · rcases zNn ι with rfl|⟨g,rfl⟩;((have π:A2=none:=by rcases zNn U with h|⟨g,h⟩;exact h;rw[h]at α;cases α);subst π;have hS:Same (λ_=>False) w w':=⟨J.os,J.tape,J.output,J.size,λk hk _=>J.block k hk (by simp[blk]),λk=>(ε k).w⟩;refine⟨m,o,δ,I.put d _ _ hd γ ⟨none,c2,xs++Z,by rw[wS],by rw[wS];exact zF3 U,λg hg=>(by cases hg),β,(W.append θ).2.2⟩ (I.same.trans (hS.weaken λ_ h=>h.elim)) (λb p u h=> ?_) (Mle.refl _) (λ_ _=>rfl) (λg hg=>hS.block g hg id) J.size⟩;have h1:=I.sat b p u h;(have η:b<w.heap.size:=by have:=wT w _ h1;simpa using this);rw[vS (w:=w) (hS.block b η id)];exact h1);(obtain⟨h2,h3,h4,h5⟩:=ν g rfl;refine fin g α h2 h3 ⟨J.os,J.tape,J.output,J.size,λk hk hn=>J.block k hk λe=>hn ?_,λk=>(ε k).w⟩ λp u hu=> ?_;injection e with e;grind;grind)
 · exact fin _ α (I.free (wJ _)) (I.newG (wJ _)) ⟨J.os,J.tape,J.output,J.size,λk hk hn=>J.block k hk (by simp),λk=>(zBc.of_lt λhk=>J.block k hk (by simp)).w⟩ λp u hu=>by rw[I.mem_none (wJ _)]at hu;cases hu
def zerF(P:Program)(t U:TypeId):Option (Nat×Nat×Value):=match P.underlying t,P.underlying U with
 |some (.slice e),some (.int _)=>match P.info? e with
  |some u=>match u.zero with
   |some (.int I J)=>if u.size=1/\0<u.bytes then some (e,u.bytes,.int I J)else none
   |_=>none
  |none=>none
 |_,_=>none
def apzI(u m:Nat)(n:Int):Option Nat:=if 0<=n/\(m+n.toNat)*u<=140737488355328 then some n.toNat else none
theorem ok_apz(hM:Mk M S){d s t tn e nb q:Nat}{z:Value}{y:Operand}{ki:IntKind}{n:Int}(θ:op.op= .call {callee:= .builtin .append,args:= #[.tmp s,y],argTypes:= #[t,tn]})(hd:op.dst=some d)(σ:okD N pins S d=true)(hz:zerF P t tn=some (e,nb,z))(hn:vO M y=some (.int ki n)){l:List (List D)}(hs:M s= .t (.own e 1 l))(W:(s==d)=false)(β:pins.contains s=false)(hq:apzI nb l.length n=some q)(U:Nat.blt e OFB=true):
 OpOK P pins N op S (app S [(s,.t (.d (.seq 1 l))),(d,.t (.own e 1 (l++List.replicate q [.lit z])))]):=by
 have W:s≠d:=by simpa using W
 have β:s∉pins:=by simpa using β
 unfold zerF at hz
 split at hz
 case h_2=>cases hz
 rename_i e' kn hu ι
 split at hz
 case h_2=>cases hz
 rename_i ie u
 split at hz
 case h_2=>cases hz
 rename_i kz nz η
 split at hz
 case isFalse=>cases hz
 rename_i hc
 obtain⟨ξ,ζ⟩:=hc
 generalize δ:Value.int kz nz=z' at*
 have μ:z'.cells= #[z']:=by rw[<-δ];rfl
 have γ:z'.oneCell'=true:=by rw[<-δ];rfl
 injection hz with hz
 injection hz with q1 hz
 injection hz with q2 q3
 subst q1 q2 q3
 unfold apzI at hq
 split at hq
 case isFalse=>cases hq
 rename_i ρ
 injection hq with hq
 subst hq
 obtain⟨ν,hb⟩:=ρ
 obtain⟨k,rfl⟩:=uL ν
 simp only[wR]at hb⊢
 refine zL λw0 m0 o0 G a w m o hN I=> ?_
 obtain⟨h1,h2,h3⟩:=zS σ
 have hS:S s= .t (.own e' 1 l):=by rcases hM s with k|k;rw[k]at hs;cases hs;rw[<-k];exact hs
 have Z:zJO m w o (s,0) e' 1 l (a.tmps.getD s undef):=by have:=I.slots s;rw[hS]at this;exact this
 have τ:s<OB:=by rcases wY s a.tmps.size with h|h;exact wO h I.wide;(obtain⟨A',cap,xs,e,_⟩:=Z;rw[wM,uE h]at e;cases e)
 have I1:=I.degrade s (by rw[hS];rfl)
 rw[hS]at I1
 obtain⟨o1,I2,π⟩:=I1.drop s β τ (x:= .seq 1 l) (by simp[upd,cpA,cpT])
 obtain⟨A',cap,xs,e1,k1,k2,k3,k4⟩:=Z
 have α:zIl m 1 l xs:=⟨k1.1,k3,k4⟩
 rw[e1]at k1
 have κ:zIl m 1 (List.replicate k [D.lit z']) (List.replicate k z'):=by refine⟨by simp,λi r u=> ?_,λi r j x u hj=> ?_⟩;(rw[vH]at u;split at u;injection u with u;subst u;rfl;cases u);(rw[vH]at u;split at u;(rename_i ε;injection u with u;subst u;(cases j with|zero=>injection hj with hj;subst hj;exact⟨z',by rw[vH];simp[ε],.lit z' γ⟩|succ j=>simp at hj));cases u)
 obtain⟨v,w',m',o',hr,J⟩:=apz_ok (d:=d) (P:=P) (X:=Builtin.append_ #[t,tn] op.type #[.slice A' l.length cap,.int ki k]) I2 (by omega) (by rw[zE (Ne.symm W)];exact h2) h3 (k1.own U) α (λg hg=>by obtain⟨q1,q2⟩:=k2 g hg;refine⟨λl hl=> ?_,I.own g _ q1,I.lt g _ q1,I.ownAll (k1.own U) hg λp hp=>by have:=q2 p hp;rwa [Own.off0 (k1.own U),vJ]at this⟩;obtain⟨z1,z2⟩:=π g l hl;rw[q1]at z2;injection z2 with z2;(exact absurd (by rw[<-z2]) z1)) κ (by rw[wN];exact zL1 P w hu kn ι u η ξ μ γ ζ op.type A' l.length cap xs (k1.own U) ki k hb)
 refine⟨v,w',m',o',?_,by rw[hd];exact J⟩
 unfold execOp
 rw[θ]
 simp only[resolve,invoke,builtin,wE,wU,wD,vA,vB,uB]
 rw[zCK hM I hn,show a.eval (.tmp s)= .slice A' l.length cap from e1,hr]
 rfl
end
theorem apzC{α β:Type}{u q:Nat}{l:List α}{c:α->β}{n:Int}(h:apzI u l.length n=some q):apzI u (l.map c).length n=some q:=by rw[wL];exact h
theorem apzE{α:Type}{E k q:Nat}{l:List α}{c:α->List D}{a:α}{z:Value}(h:c a=[.lit z]):A.t (.own E k (l.map c++List.replicate q [.lit z]))= .t (.own E k ((l++List.replicate q a).map c)):=by rw[sW,sY,h]
section
variable {w0:World}{m0:Mem}{o0:OwnM}{G:GD}{pins:List Nat}{S M:Nat->A}{a:Act}{w:World}{m:Mem}{o:OwnM}{P:Program}{N:Nat}{op:Oper}{d:Nat}
theorem h_cap0(hM:Mk M S){t e:Nat}{x:Operand}(J:op.op= .call {callee:= .builtin .cap,args:=⟨[x]⟩,argTypes:=⟨[t]⟩})(hx:vO M x=some (.slice none 0 0))(hu:P.underlying t=some (.slice e))(hd:op.dst=some d)(u:okD N pins S d=true):OpH P pins N op S (app S [(d,.t (.d (.lit (.int .i64 0))))]):=by refine .of (e:=[(d,_)]) λU=>⟨?_,zBz (qG U u)⟩;refine zL λw0 m0 o0 G ac w m o Z I=> ?_;obtain⟨h1,W,h3⟩:=zS (qR U u);refine⟨.int .i64 0,w,m,o,?_,by rw[hd];exact I.set d _ _ (by omega) W (.lit _ rfl)⟩;unfold execOp;rw[J];simp only[resolve,invoke,builtin,wE,wU,wD,vA,vB,uB];rw[zCK hM.hx I hx];simp[Builtin.cap_,run_underlying hu,goInt]
theorem h_slnil(W:Mk M S){t e:Nat}{x:Operand}{hi:Option Operand}{ie:TypeInfo}(Z:op.op= .slice t x none hi none)(hx:vO M x=some (.slice none 0 0))(U:bndO M hi=some (some 0))(hu:P.underlying t=some (.slice e))(J:P.info? e=some ie)(hd:op.dst=some d)(u:okD N pins S d=true):OpH P pins N op S (app S [(d,.t (.d (.lit (.slice none 0 0))))]):=by refine .of (e:=[(d,_)]) λhN=>⟨?_,zBz (qG hN u)⟩;refine zL λw0 m0 o0 G ac w m o α I=> ?_;obtain⟨h1,h2,h3⟩:=zS (qR hN u);obtain⟨kh,e2⟩:=zGf W.hx I U;refine⟨.slice none 0 0,w,m,o,?_,by rw[hd];exact I.set d _ _ (by omega) h2 (.lit _ rfl)⟩;unfold execOp;rw[Z];simp only[wE];rw[e2,zCK W.hx I hx];(have hb:(Instr.sliceBounds true 0 0 none ((some (0:Int)).map λz=> .int (kh z) z) none).run P w= .ok (0,0,0) w:=by unfold Instr.sliceBounds;simp only[uO,sC,wE,wU,wD];(repeat(rw[zBu (by omega) (by omega),wD]));rfl);show Result.andThen (Sem.run P (Instr.sliceAt t (.slice none 0 0) none _ none) w) _=_;unfold Instr.sliceAt;simp only[wE,run_underlying hu,wD];unfold Instr.slice;simp only[wE,run_underlying hu,wD];rw[hb];simp[sizeOf,typeInfo,J]
def growI(u:Nat)(n:Int):Option Nat:=if 0<n/\n.toNat*u<=140737488355328 then some n.toNat else none
theorem h_apfr(hM:Mk M S){t tn e nb q:Nat}{z:Value}{x y:Operand}{ki:IntKind}{n:Int}(η:op.op= .call {callee:= .builtin .append,args:=⟨[x,y]⟩,argTypes:=⟨[t,tn]⟩})(hx:vO M x=some (.slice none 0 0))(hn:vO M y=some (.int ki n))(hz:zerF P t tn=some (e,nb,z))(hq:growI nb n=some q)(hd:op.dst=some d)(γ:okD N pins S d=true):OpH P pins N op S (app S [(d,.fr e 1)]):=by unfold zerF at hz;split at hz;(case h_2=>cases hz);rename_i e' kn hu ι;split at hz;(case h_2=>cases hz);rename_i ie hi;split at hz;(case h_2=>cases hz);rename_i kz nz ζ;split at hz;(case isFalse=>cases hz);rename_i hc;obtain⟨ρ,ε⟩:=hc;generalize δ:Value.int kz nz=z' at*;(have κ:z'.cells= #[z']:=by rw[<-δ];rfl);(have π:z'.oneCell'=true:=by rw[<-δ];rfl);injection hz with hz;injection hz with q1 hz;injection hz with q2 q3;subst q1 q2 q3;unfold growI at hq;split at hq;(case isFalse=>cases hq);rename_i σ;injection hq with hq;subst hq;obtain⟨μ,hb⟩:=σ;obtain⟨k,rfl⟩:=uL (Int.le_of_lt μ);simp only[wR]at hb;(have hk:0<k:=by omega);refine .of (e:=[(d,_)]) λhN=>⟨?_,zBz (qG hN γ)⟩;refine zL λw0 m0 o0 G a w m o φ I=> ?_;obtain⟨h1,h2,h3⟩:=zS (qR hN γ);obtain⟨A2,c2,w',Z,U,W⟩:=zL1 P w hu kn ι hi ζ ρ κ π ε op.type none 0 0 [] (tM w 0 e' 1) ki k (by simpa using hb);rw[vJ]at Z U;(obtain⟨g,cap,ξ,hv,_,hg,α,β,ν,τ⟩:=U.2.resolve_left λh=>by omega);injection hv with hv _ θ;subst hv θ;(have J:g=w.heap.size/\w.grownBy w' none:=by rcases W with⟨h,_⟩|⟨h,h'⟩;cases h;injection h with h;grind);obtain⟨rfl,J⟩:=J;refine⟨_,w',_,_,?_,by rw[hd];refine I.own_put d (.fr e' 1) (.slice (some ⟨w.heap.size,0,none⟩) k c2) (λ_=>none) w.heap.size w' (by omega) h2 h3 (I.free (wJ _)) (I.newG (wJ _)) ⟨J.os,J.tape,J.output,J.size,λj hj _=>J.block j hj (by simp),λj=>(zBc.of_lt λhj=>J.block j hj (by simp)).w⟩ (by(exact(uH.1 hg).1)) (λp u h=>by rw[I.mem_none (wJ _)]at h;cases h) (λp u h=>by cases h) ?_;exact⟨w.heap.size,k,c2,ξ,rfl,zAO _ _ _,λp=>zB5 _ _ _ _,hg,α,β,ν⟩⟩;unfold execOp;rw[η];simp only[resolve,invoke,builtin,wE,wU,wD,vA,vB,uB];rw[zCK hM.hx I hx,zCK hM.hx I hn,Z];rfl
theorem Inv.unown(I:Inv w0 m0 o0 G pins S a w m o){s g:Nat}(hs:s<OB)(hp:s∉pins)(Z:S s= .any)(U:o g=some (s,0)):Inv w0 m0 o0 G pins S a w m (λb=>if b=g then none else o b):=by
 have hk:∀b l,(λb=>if b=g then none else o b) b=some l->b≠g/\o b=some l:=by
  grind
 have K:Keep (λl=>l.1=s) m w o m w (λb=>if b=g then none else o b):=⟨Mle.refl _,λ_ _ _ _=>rfl,λ_ _ _ _=>rfl,λb l h hn=>by
   show(if b=g then none else o b)=_
   rw[if_neg (λe=>by rw[e,U]at h;injection h with h;exact hn (by rw[<-h])),h],λb j h=>by
   show(if b=g then none else o b)=_
   rw[if_neg (λe=>by rw[e,U]at h;injection h with h;injection h with h;omega),h],λb t k _ h=>⟨b,k,(hk b _ h).2⟩,λ_ _ _=> .of_eq rfl⟩
 refine⟨I.same,I.sat,I.mono,I.old,λb l h=>I.own b l (hk b l h).2,λb l h=>I.lt b l (hk b l h).2,λb W l h h'=>I.inj b W l (hk b l h).2 (hk W l h').2,λp u b hb=> ?_,λt=> ?_,I.defers,I.tbl,I.wide,I.shps⟩
 · exact K.own b _ (I.pinned p u b hb) (λe=>u.elim (λh=>hp (by have e:p=s:=e;rw[<-e];exact h)) λh=>by have e:p=s:=e;omega)
 ·
  by_cases e:t=s
  · subst e;rw[Z];trivial
  ·
   refine RepA.keep K (λ_ J=>e J) (λb off he hb=>⟨λJ=> ?_,id⟩) (I.slots t)
   have J:b=s:=J
   subst J
   have h:=I.slots t
   rw[he]at h
   obtain⟨_,_,_,h3⟩:=h
   obtain⟨l,hl⟩:=h3 hb
   rw[Z]at hl
   cases hl
theorem h_slfr{s:Nat}(hM:Mk M S){t e E k:Nat}{hi:Option Operand}{ie:TypeInfo}(δ:op.op= .slice t (.tmp s) none hi none)(J:M s= .fr E k)(η:bndO M hi=some (some 0))(hu:P.underlying t=some (.slice e))(α:P.info? e=some ie)(ι:(s==d)=false)(U:(Nat.blt s OB&& !pins.contains s)=true)(hd:op.dst=some d)(W:okD N pins S d=true):OpH P pins N op S (app S [(s,.any),(d,.t (.own E k []))]):=by simp only[wI,vX,vP,decide_eq_false_iff_not]at U;(have β:s<OB:=by simpa using U.1);(have γ:s≠d:=by simpa using ι);refine .of (e:=[(s,_),(d,_)]) λhN=>⟨?_,λz hz=>by simp at hz;rcases hz with rfl|rfl;exact .inl β;exact .inl (qG hN W)⟩;refine zL λw0 m0 o0 G a w m o κ I=> ?_;obtain⟨h1,h2,h3⟩:=zS (qR hN W);(have Z:hx S s= .fr E k:=by rcases hM s with h|h;rw[h]at J;cases J;exact zBq (h.symm.trans J) (by simp));have hs:=I.slots s;rw[Z]at hs;obtain⟨g,n,cap,θ,q1,q2,q3,q4,q5,q6,q7⟩:=hs;obtain⟨kh,e2⟩:=zGf hM.hx I η;have I1:=I.tell s .any (by rw[Z];rfl) trivial;have I2:=I1.unown (g:=g) β U.2 (zT _ _ _) q2;have ζ:a.eval (.tmp s)= .slice (some ⟨g,0,none⟩) n cap:=q1;(have hb:(Instr.sliceBounds true n cap none ((some (0:Int)).map λz=> .int (kh z) z) none).run P w= .ok (0,0,cap) w:=by unfold Instr.sliceBounds;simp only[uO,sC,wE,wU,wD];(repeat(rw[zBu (by omega) (by omega),wD]));rfl);refine⟨.slice (some ⟨g,0,none⟩) 0 cap,w,_,_,?_,by rw[hd];refine I2.own_put d (.t (.own E k [])) (.slice (some ⟨g,0,none⟩) 0 cap) (λ_=>none) g w (by omega) (by rw[zE (Ne.symm γ)];exact h2) h3 (λl h=>by simp at h) (I.own g _ q2) (Same.refl _ _) (I.lt g _ q2) (λp u h=>by rw[q3]at h;cases h) (λp u h=>by cases h) ?_;refine⟨some ⟨g,0,none⟩,cap,[],rfl,⟨by simp,.inr ⟨g,0,cap,θ,rfl,⟨_,q4,.inr ⟨rfl,rfl,q7⟩⟩,uF _,q6,.inl (by rw[vJ];exact q7),by simp⟩⟩,λg' ε=> ?_,λi r h=>by simp at h,λi r j d h=>by simp at h⟩;cases ε;exact⟨zAO _ _ _,λp _=>zJ2 _ _ _ _⟩⟩;unfold execOp;rw[δ];simp only[wE];rw[e2,ζ];show Result.andThen (Sem.run P (Instr.sliceAt t _ none _ none) w) _=_;unfold Instr.sliceAt;simp only[wE,run_underlying hu,wD];unfold Instr.slice;simp only[wE,run_underlying hu,wD];rw[hb];by_cases hc:cap=0;simp[sizeOf,typeInfo,α,hc];simp[sizeOf,typeInfo,α,hc,Addr.add_mid]
end
section
variable {κ ν:Type}[BEq κ]
def mpos(l:List (κ×ν))(k:κ):Option Nat:=l.findIdx? λp=>k==p.1
def zCG(l:List (κ×ν))(k:κ):Option ν:=match mpos l k with
 |some i=>(l[i]?).map (·.2)
 |none=>none
def mset(l:List (κ×ν))(k:κ)(v:ν):List (κ×ν):=match mpos l k with
 |some i=>l.set i (k,v)
 |none=>l++[(k,v)]
end
theorem RepE.toT{loc:Nat×Nat}:∀{x:T} {v:Value},RepE m x v->RepT m w o loc x v
 | .d _,_,h=>h
 | .agg _,_,h=>h
structure KeyT(P:Program)(kt:TypeId){κ:Type}[BEq κ](kv:κ->Value)(kT:κ->T)where
 d:TypeDesc
 und:P.underlying kt=some d
 same:∀a b,Instr.sameNow d (kv a) (kv b)=some (a==b)
 chk:∀a (e:Bool) (w:World),(Instr.checkKey e 10000 kt (kv a)).run P w= .ok () w
 bits:∀a b,(a==b)=true->Instr.sameBits 10000 (kv b) (kv a)=true
 rep:∀a m,RepE m (kT a) (kv a)
 inv:∀a m v,RepE m (kT a) v->v=kv a
abbrev kL{κ:Type}(kv:κ->Value):κ->T:=λk=> .d (.lit (kv k))
theorem kL_rep{u:Value}(h:u.oneCell'=true)(m:Mem):RepE m (.d (.lit u)) u:= .lit u h
theorem kL_inv{u:Value}(h:RepE m (.d (.lit u)) v):v=u:=by have h:RepD m (.lit u) v:=h;(cases h with|lit _ _=>rfl)
def zRq{kt:TypeId}{k:IntKind}(h:P.underlying kt=some (.int k)):KeyT P kt (λz:Int=>Value.int k z) (kL λz:Int=>Value.int k z):=
 ⟨.int k,h,λa b=>by simp[Instr.sameNow],λa e w=>MapKept.run_checkKey h (by simp[MapKept.IsKey]) e 9999,λ(a b:Int) (h:(a==b)=true)=>by simp at h;simp[Instr.sameBits,h],λ_=>kL_rep rfl,λ_ _ _=>kL_inv⟩
def EntR(m:Mem){κ ν:Type}(kv:κ->Value)(vT:ν->T)(l:List (κ×ν))(u:List MapEntry):Prop:=u.length=l.length/\∀(i:Nat) (x:κ×ν),l[i]? =some x->∃e,u[i]? =some e/\e.key=kv x.1/\RepE m (vT x.2) e.val
section
variable {κ ν:Type}[BEq κ]{P:Program}{kt:TypeId}{kv:κ->Value}{kT:κ->T}{vT:ν->T}{m:Mem}
theorem zNl(K:KeyT P kt kv kT)(k:κ):∀(l:List (κ×ν)) (u:List MapEntry) (I:Nat),EntR m kv vT l u->Instr.findNow K.d (kv k) u I=some ((l.findIdx? λp=>k==p.1).map λi=>(I+i,((u[i]?).map (·.val)).getD undef))
 |[],u,I,h=>by rw[vF h.1];rfl
 |x::r,u,I,h=>by obtain⟨e,U,J,Z⟩:=h.2 0 x rfl;(cases u with|nil=>grind|cons W u=>cases U;unfold Instr.findNow;rw[J,K.same];have hr:EntR m kv vT r u:=⟨by simpa using h.1,λi y hy=>by simpa using h.2 (i+1) y (by simpa using hy)⟩;(cases hk:(k==x.1)with|true=>grind|false=>simp only;rw[zNl K k r u (I+1) hr,List.findIdx?_cons,hk];simp only[cond_false,Bool.false_eq_true,if_false,Option.map_map];congr 1;congr 1;grind))
end
section
variable {w0:World}{m0:Mem}{o0:OwnM}{G:GD}{pins:List Nat}{S M:Nat->A}{a:Act}{w:World}{m:Mem}{o:OwnM}{P:Program}{N:Nat}{op:Oper}{d:Nat}
abbrev mpT{κ ν:Type}(kT:κ->T)(vT:ν->T)(l:List (κ×ν)):A:= .mp (l.map λp=>(kT p.1,vT p.2))
abbrev mpA{κ ν:Type}(kv:κ->Value)(cv:ν->D)(l:List (κ×ν)):A:=mpT (kL kv) (λv=> .d (cv v)) l
theorem zTP{κ ν:Type}[BEq κ]{P:Program}{kt:TypeId}{kv:κ->Value}{kT:κ->T}{vT:ν->T}(K:KeyT P kt kv kT){l:List (κ×ν)}{u:Array MapEntry}(h:u.size=(l.map λp=>(kT p.1,vT p.2)).length/\∀(i:Nat) (x:T×T),(l.map λp=>(kT p.1,vT p.2))[i]? =some x->∃e,u[i]? =some e/\RepE m x.1 e.key/\RepE m x.2 e.val):EntR m kv vT l u.toList:=by refine⟨by simpa using h.1,λi x Z=> ?_⟩;obtain⟨e,J,I,U⟩:=h.2 i (kT x.1,vT x.2) (by rw[wH,Z];rfl);exact⟨e,by simpa using J,K.inv _ _ _ I,U⟩
theorem ent_mp{κ ν:Type}[BEq κ]{P:Program}{kt:TypeId}{kv:κ->Value}{kT:κ->T}{vT:ν->T}(K:KeyT P kt kv kT){l:List (κ×ν)}{u:Array MapEntry}(h:EntR m kv vT l u.toList):u.size=(l.map λp=>(kT p.1,vT p.2)).length/\∀(i:Nat) (x:T×T),(l.map λp=>(kT p.1,vT p.2))[i]? =some x->∃e,u[i]? =some e/\RepE m x.1 e.key/\RepE m x.2 e.val:=by refine⟨by simpa using h.1,λi x I=> ?_⟩;rw[wH]at I;(cases hl:l[i]? with|none=>grind|some y=>rw[hl]at I;cases I;obtain⟨e,J,Z,U⟩:=h.2 i y hl;exact⟨e,by simpa using J,by rw[Z];exact K.rep _ _,U⟩)
def zT4:List D->Option (List Value)
 |[]=>some []
 | .lit u::r=>(zT4 r).map (u::·)
 |_=>none
theorem zR1:∀{l:List D} {I vs:List Value},zT4 l=some I->RepL m l vs->vs=I
 |[],I,vs,h,hr=>by injection h with h;subst h;exact vF hr.1
 | .lit u::r,I,vs,h,hr=>by unfold zT4 at h;(cases hq:zT4 r with|none=>grind|some W=>rw[hq]at h;cases h;(cases vs with|nil=>cases hr.1|cons v vs=>obtain⟨u',e,Z⟩:=hr.2 0 (.lit u) rfl;cases e;(have hv:v=u:=by cases Z with|lit _ _=>rfl);have:RepL m r vs:=⟨by have:=hr.1;simpa using this,λj d J=>by obtain⟨x,U,q2⟩:=hr.2 (j+1) d (by simpa using J);exact⟨x,by simpa using U,q2⟩⟩;rw[hv,zR1 hq this]))
def vK(M:Nat->A)(y:Operand):Option Value:=match cpO M y with
 | .t (.d (.lit u))=>some u
 | .t (.agg l)=>(zT4 l).map λI=> .agg I.toArray
 |_=>none
def tK(M:Nat->A)(y:Operand):Option T:=match cpO M y with
 | .t (.d x)=>some (.d x)
 | .t (.agg l)=>some (.agg l)
 |_=>none
theorem vK_eq(U:Mk M S)(I:Inv w0 m0 o0 G pins S a w m o){y:Operand}{u:Value}(h:vK M y=some u):a.eval y=u:=by have hr:=qA U I y 0;unfold vK at h;split at h;(rename_i e;cases h;rw[e]at hr;exact kL_inv (m:=m) hr);(rename_i l e;rw[e]at hr;obtain⟨vs,J,Z⟩:=hr;(cases hq:zT4 l with|none=>grind|some W=>rw[hq]at h;cases h;rw[J,<-zR1 hq Z]));cases h
theorem tK_rep(u:Mk M S)(I:Inv w0 m0 o0 G pins S a w m o){y:Operand}{x:T}(h:tK M y=some x):RepE m x (a.eval y):=by have hr:=qA u I y 0;unfold tK at h;split at h;rename_i e;injection h with h;subst h;rw[e]at hr;exact hr;rename_i e;injection h with h;subst h;rw[e]at hr;exact hr;cases h
theorem Inv.map_turn(I:Inv w0 m0 o0 G pins S a w m o){j g:Nat}{l l':List (T×T)}(hb:S (OB+j)= .mp l)(ho:o g=some (OB+j,0)){es J:Array MapEntry}{ck ck':Nat}(hg:w.heap[g]? =some (.map es ck))(W:∀p,m g p=none)(γ:Stm J ck')
(hc:J.size=l'.length/\∀(i:Nat) (x:T×T),l'[i]? =some x->∃e,J[i]? =some e/\RepE m x.1 e.key/\RepE m x.2 e.val):
 Inv w0 m0 o0 G pins (upd S (OB+j) (.mp l')) a {w with heap:=w.heap.setIfInBounds g (.map J ck')} m o:=by
 obtain⟨q1,q2⟩:=MapKept.heap_set (o':= .map J ck') hg
 have ζ:g<w.heap.size:=(uH.1 hg).1
 have β:∀b l,o b=some l->l≠(OB+j,0)->b≠g:=λb l h hn e=>by rw[e,ho]at h;injection h with h;exact hn h.symm
 have α:∀U,zBc w {w with heap:=w.heap.setIfInBounds g (.map J ck')} U:=λU=>by by_cases e:U=g;subst e;intro cs E f h;rw[hg]at h;cases h;exact .of_eq (q2 U e)
 have hS:Same (λx=>G x\/w0.heap.size<=x) w {w with heap:=w.heap.setIfInBounds g (.map J ck')}:=⟨rfl,rfl,rfl,by simp,λk _ hk=>q2 k λe=>hk (by rw[e];exact I.own g _ ho),λk=>(α k).w⟩
 have K:Keep (λl=>l=(OB+j,0)) m w o m {w with heap:=w.heap.setIfInBounds g (.map J ck')} o:=
  ⟨Mle.refl _,λ_ _ _ _=>rfl,λb l h hn=>q2 b (β b l h hn),λb l h _=>h,λb j' h=>h,λb s k _ h=>⟨b,k,h⟩,λU _ _=>α U⟩
 refine⟨I.same.trans hS,λb p u h=> ?_,I.mono,I.old,I.own,λU l h=>by simpa using I.lt U l h,I.inj,I.pinned,λs=> ?_,I.defers,I.tbl,I.wide,I.shps.keep I.pinned K.sh⟩
 · have h1:=I.sat b p u h;(have δ:b≠g:=λe=>by rw[e,W]at h;cases h);rw[vS (w:=w) (q2 b δ)];exact h1
 · by_cases e:s=OB+j;(subst e;rw[zT];exact⟨g,ho,W,J,ck',q1,γ,hc.1,hc.2⟩);(rw[zE e];refine RepA.keep K (λ_ Z=>by injection Z with Z _;exact e Z) (λb off _ η=>⟨λZ=>by injection Z with Z _;omega,λ⟨l',ε⟩=>⟨l',?_⟩⟩) (I.slots s);rw[zE (by omega),ε])
theorem Inv.map_new(I:Inv w0 m0 o0 G pins S a w m o){j:Nat}(U:S (OB+j)= .free):Inv w0 m0 o0 G pins (upd S (OB+j) (.mp [])) a (w.alloc (.map #[] 0)) m (newO o (OB+j) w.heap.size):=by(have hf:∀g k,o g≠some (OB+j,k):=by have:=I.slots (OB+j);rw[U]at this;exact this);have W:Same (λ_=>False) w (w.alloc (.map #[] 0)):=Same.alloc _ _ _;(have γ:∀b l,o b=some l->b≠w.heap.size:=λb l h e=>by have:=I.lt b l h;omega);(have hk:∀b l,o b=some l->newO o (OB+j) w.heap.size b=some l:=by intro b l h;unfold newO;rw[if_neg (γ b l h),h,if_neg];intro e;obtain⟨s,k⟩:=l;cases e;exact hf b k h);(have J:∀b l,newO o (OB+j) w.heap.size b=some l->(b=w.heap.size/\l=(OB+j,0))\/(b≠w.heap.size/\o b=some l):=by intro b l h;unfold newO at h;grind);have β:∀g,zBc w (w.alloc (.map #[] 0)) g:=λg=> .of_lt λh=>W.block g h id;have K:Keep (λl=>l.1=OB+j) m w o m (w.alloc (.map #[] 0)) (newO o (OB+j) w.heap.size):=⟨Mle.refl _,λ_ _ _ _=>rfl,λb l h _=>W.block b (I.lt b l h) id,λb l h _=>hk b l h,λb j' h=>hk b _ h,λb s k hs h=>by rcases J b _ h with⟨_,e⟩|⟨_,e⟩;injection e with e _;exact absurd e hs;exact⟨b,k,e⟩,λg _ _=>β g⟩;refine⟨I.same.trans (W.weaken λ_ h=>h.elim),λb p u h=> ?_,I.mono,I.old,λg l h=> ?_,λg l h=> ?_,λg g' l h h'=> ?_,λs hs g hg=>hk g _ (I.pinned s hs g hg),λs=> ?_,I.defers,I.tbl,I.wide,I.shps.keep I.pinned K.sh⟩;(have h1:=I.sat b p u h;(have α:b<w.heap.size:=by have:=wT w _ h1;simpa using this);rw[vS (w:=w) (W.block b α id)];exact h1);(rcases J g l h with⟨e,_⟩|⟨_,e⟩;subst e;exact I.newG (wJ _);exact I.own g l e);(rcases J g l h with⟨e,_⟩|⟨_,e⟩;subst e;simp;exact wO (I.lt g l e) W.size);(rcases J g l h with⟨e,q⟩|⟨_,e⟩<;>rcases J g' l h' with⟨Z,q'⟩|⟨_,Z⟩;rw[e,Z];subst q;exact absurd Z (hf _ _);subst q';exact absurd e (hf _ _);exact I.inj _ _ _ e Z);(by_cases e:s=OB+j;(subst e;rw[zT];exact⟨w.heap.size,zAO _ _ _,λp=>I.mem_none (wJ _),#[],0,(MapKept.heap_alloc w _).1,⟨by simp,by simp⟩,rfl,λi x hi=>by simp at hi⟩);(rw[zE e];exact RepA.keep K (λ_=>e) (λb off _ hb=>⟨λZ=>by have:b=OB+j:=Z;omega,λ⟨l',δ⟩=>⟨l',by rw[zE (by omega),δ]⟩⟩) (I.slots s)))
theorem ok_mkm{j t:Nat}(Z:op.op= .makeMap t none)(hd:op.dst=some d)(U:okD N pins S d=true)(α:d<OB)(u:S (OB+j)= .free):OpOK P pins N op S (upd (upd S (OB+j) (.mp [])) d (.t (.mpt j))):=by refine zL λw0 m0 o0 G a w m o hN I=> ?_;obtain⟨h1,W,h3⟩:=zS U;have J:=I.map_new u;refine⟨.map (some w.heap.size),_,_,_,?_,by rw[hd];exact J.set d _ _ (by omega) (by rw[zE (by omega)];exact W) ⟨_,zAO _ _ _,rfl⟩⟩;unfold execOp;rw[Z];rfl
theorem ok_mlk{κ ν:Type}[BEq κ]{kv:κ->Value}{kT:κ->T}{vT:ν->T}(hM:Mk M S){j t kt et:Nat}{x y:Operand}{l:List (κ×ν)}{k:κ}{z:ν}(α:op.op= .lookup t x y false)(hx:cpO M x= .t (.mpt j))(hb:S (OB+j)=mpT kT vT l)(hy:vK M y=some (kv k))(hu:P.underlying t=some (.map kt et))(K:KeyT P kt kv kT)
{i:TypeInfo}{zv:Value}(hi:P.info? et=some i)(hz:i.zero=some zv)(β:∀m,RepE m (vT z) zv)(hd:op.dst=some d)(γ:okD N pins S d=true):OpOK P pins N op S (upd S d (.t (vT ((zCG l k).getD z)))):=by
 refine zL λw0 m0 o0 G a w m o hN I=> ?_
 obtain⟨h1,h2,h3⟩:=zS γ
 have U:=qA hM I x 0
 rw[hx]at U
 obtain⟨g,k1,k2⟩:=U
 have J:=I.slots (OB+j)
 rw[hb]at J
 obtain⟨g',q1,q2,es,ck,q3,δ,q4⟩:=J
 obtain rfl:=I.inj _ _ _ k1 q1
 have hE:=zTP K q4
 have hf:=zNl (m:=m) K k l es.toList 0 hE
 have Z:(l.findIdx? λp=>k==p.1)=mpos l k:=rfl
 rw[Z]at hf
 have W:∀r,(match mpos l k with|some q=>(((es[q]?).map (·.val)).getD undef)|none=>zv)=r->(Instr.lookup t (.map (some g)) (kv k) false).run P w= .ok r w:=λr hr=>by unfold Instr.lookup;simp only[wE,run_underlying hu,wD];rw[MapKept.run_getObj_map q3];simp only[wD,wU,pure_bind,wE];rw[K.chk];simp only[wD,wE];rw[MapKept.run_findKey K.und hf];simp only[wD];(cases hp:mpos l k with|none=>rw[hp]at hr;simp only[sF];simp[zeroValue,typeInfo,hi,hz,go_sem,<-hr]|some q=>rw[hp]at hr;simp only[uO];simp[<-hr])
 have hv:RepE m (vT ((zCG l k).getD z)) (match mpos l k with|some q=>(((es[q]?).map (·.val)).getD undef)|none=>zv):=by unfold zCG;(cases hp:mpos l k with|none=>exact β m|some q=>have u:q<l.length:=(tA.1 hp).1;obtain⟨e,h4,h5,h6⟩:=hE.2 q l[q] (wF u);simp only[wF u,uO,uT];(have h4:es[q]? =some e:=by simpa using h4);rw[h4];exact h6)
 refine⟨_,w,m,o,?_,by rw[hd];exact I.set d (.t (vT ((zCG l k).getD z))) _ (by omega) h2 hv.toT⟩
 unfold execOp
 rw[α]
 simp only[wE]
 rw[vK_eq hM I hy,k2,W _ rfl]
 rfl
theorem stm_push{u:Array MapEntry}{ck:Nat}{k:Value}(h:Stm u ck):Stm (u.push {key:=k,val:=v,born:=ck}) (ck+1):=by refine⟨λx hx=> ?_,?_⟩;(simp only[Array.toList_push,List.mem_append,tH]at hx;rcases hx with hx|rfl;exact Nat.lt_succ_of_lt (h.1 x hx);grind);(simp only[Array.toList_push,sW,vB,uB];refine List.nodup_append.2 ⟨h.2,by simp,λa I b hb=> ?_⟩;simp only[tH]at hb;subst hb;obtain⟨x,hx,rfl⟩:=vQ.1 I;exact Nat.ne_of_lt (h.1 x hx))
theorem zUJ{u:Array MapEntry}{ck q:Nat}{k:Value}(h:Stm u ck):Stm (u.modify q λe=>{e with key:=k,val:=v}) ck:=by(have hb:(u.modify q λe=>{e with key:=k,val:=v}).toList.map (·.born)=u.toList.map (·.born):=by apply sJ;grind);refine⟨λx hx=> ?_,by rw[hb];exact h.2⟩;have I:x.born∈(u.modify q λe=>{e with key:=k,val:=v}).toList.map (·.born):=vQ.2 ⟨x,hx,rfl⟩;rw[hb]at I;obtain⟨y,hy,e⟩:=vQ.1 I;rw[<-e];exact h.1 y hy
theorem run_mup{t kt et:TypeId}{κ ν:Type}[BEq κ]{kv:κ->Value}{kT:κ->T}{vT:ν->T}(K:KeyT P kt kv kT)(hu:P.underlying t=some (.map kt et)){g ck:Nat}{J:Array MapEntry}(hg:w.heap[g]? =some (.map J ck)){l:List (κ×ν)}(hE:EntR m kv vT l J.toList)(α:Stm J ck)(k:κ){v:ν}{u:Value}(hv:RepE m (vT v) u):
    ∃W γ,Stm W γ/\(Instr.mapUpdate t (.map (some g)) (kv k) u).run P w= .ok () {w with heap:=w.heap.setIfInBounds g (.map W γ)}/\EntR m kv vT (mset l k v) W.toList:=by
  have hf:=zNl (m:=m) K k l J.toList 0 hE
  have β:(l.findIdx? λp=>k==p.1)=mpos l k:=rfl
  rw[β]at hf
  have I:∀r,(match mpos l k with
      |some i=>do
        let key<-Instr.keyThatStays (((J[i]?).map (·.key)).getD (kv k)) (kv k)
        setObj g (.map (J.modify i λe=>{e with key,val:=u}) ck)
      |none=>setObj g (.map (J.push {key:=kv k,val:=u,born:=ck}) (ck+1)):Sem Unit).run P w=r->(Instr.mapUpdate t (.map (some g)) (kv k) u).run P w=r:=λr hr=>by
    unfold Instr.mapUpdate
    simp only[wE,run_underlying hu,wD]
    rw[MapKept.run_getObj_map hg]
    simp only[wD,wE]
    rw[K.chk]
    simp only[wD,wE]
    rw[MapKept.run_findKey K.und hf]
    simp only[wD]
    cases hp:mpos l k with
    |none=>grind
    |some q=>grind
  cases hp:mpos l k with
  |none=>
    rw[hp]at I
    refine⟨J.push {key:=kv k,val:=u,born:=ck},ck+1,stm_push α,I _ (MapKept.run_setObj_map _ hg),?_⟩
    unfold mset
    rw[hp]
    refine⟨by simp[hE.1],λi x U=> ?_⟩
    rw[sK]at U
    have ι:=hE.1
    split at U
    · rename_i Z
      obtain⟨e,h1,h2,h3⟩:=hE.2 i x U
      grind
    · rename_i Z
      have η:i=l.length:=by
        grind
      subst η
      rw[sE]at U
      cases U
      refine⟨{key:=kv k,val:=u,born:=ck},?_,rfl,hv⟩
      grind
  |some q=>
    rw[hp]at I
    have ζ:=tA.1 hp
    obtain⟨Z,ε,_⟩:=ζ
    obtain⟨e,h4,h5,h6⟩:=hE.2 q l[q] (wF Z)
    have δ:J[q]? =some e:=by simpa using h4
    have hk:Instr.keyThatStays (((J[q]?).map (·.key)).getD (kv k)) (kv k)=pure (kv k):=by
      unfold Instr.keyThatStays
      rw[δ]
      simp only[uO,uT]
      rw[h5,if_pos (K.bits _ _ ε)]
    refine⟨J.modify q λe=>{e with key:=kv k,val:=u},ck,zUJ α,I _ (by show(do let key<-Instr.keyThatStays (((J[q]?).map (·.key)).getD (kv k)) (kv k);setObj g (.map (J.modify q λe=>{e with key,val:=u}) ck):Sem Unit).run P w=_;rw[hk];simp only[pure_bind];exact MapKept.run_setObj_map _ hg),?_⟩
    unfold mset
    rw[hp]
    have θ:(J.modify q λe=>{e with key:=kv k,val:=u}).toList=J.toList.modify q λe=>{e with key:=kv k,val:=u}:=by simp
    rw[θ]
    refine⟨by simp[hE.1],λi x U=> ?_⟩
    rw[List.getElem?_set]at U
    rw[List.getElem?_modify]
    split at U
    · grind
    · rename_i e2
      obtain⟨e',h1,h2,h3⟩:=hE.2 i x U
      grind
theorem ok_mup{κ ν:Type}[BEq κ]{kv:κ->Value}{kT:κ->T}{vT:ν->T}(hM:Mk M S){j t kt et:Nat}{x y z:Operand}{l:List (κ×ν)}{k:κ}{v:ν}(α:op.op= .mapUpdate t x y z)(hx:cpO M x= .t (.mpt j))(hb:S (OB+j)=mpT kT vT l)(hy:vK M y=some (kv k))(hz:tK M z=some (vT v))(hu:P.underlying t=some (.map kt et))(K:KeyT P kt kv kT)
(hd:op.dst=none):OpOK P pins N op S (upd S (OB+j) (mpT kT vT (mset l k v))):=by
 refine zJ3 hd λw0 m0 o0 G a w m o hN I=> ?_
 have U:=qA hM I x 0
 rw[hx]at U
 obtain⟨g,k1,k2⟩:=U
 have u:=I.slots (OB+j)
 rw[hb]at u
 obtain⟨g',q1,q2,es,ck,q3,Z,q4⟩:=u
 obtain rfl:=I.inj _ _ _ k1 q1
 obtain⟨β,ck',J,hr,W⟩:=run_mup (m:=m) K hu q3 (zTP K q4) Z k (tK_rep hM I hz)
 refine⟨_,m,o,?_,I.map_turn (ck':=ck') hb q1 q3 q2 J (ent_mp K W)⟩
 unfold execOp
 rw[α]
 simp only[wE]
 rw[vK_eq hM I hy,k2,hr]
 rfl
theorem ob_lo{j:Nat}(h:Nat.blt (j+1) OB=true):OB+j<OB2/\OB+j≠HK:=⟨(zTu h).1,(zTu h).2.1⟩
theorem mk_hx{j:Nat}{x:A}(u:Mk M S)(hb:M (OB+j)=x)(hn:x≠ .any):hx S (OB+j)=x:=by rcases u (OB+j)with e|e;grind;rw[e]at hb;exact zBq hb hn
theorem h_obj{j:Nat}{x:A}(J:Nat.blt (j+1) OB=true)(h:N<=OB->Low S->OpOK P pins N op (hx S) (upd (hx S) (OB+j) x)):OpH P pins N op S (app S [(OB+j,x)]):=by intro Z u;obtain⟨I,U⟩:=ob_lo J;refine⟨?_,u.upd I⟩;show OpOK P pins N op (hx S) (hx (upd S (OB+j) x));rw[zCJ I U];grind
theorem h_mkm(hM:Mk M S){j t:Nat}{x:A}(W:op.op= .makeMap t none)(hd:op.dst=some d)(J:okD N pins S d=true)(hj:Nat.blt (j+1) OB=true)(I:M (OB+j)= .free)(U:A.mp []=x):OpH P pins N op S (app S [(OB+j,x),(d,.t (.mpt j))]):=by subst U;intro hN Z;obtain⟨e1,e2⟩:=ob_lo hj;have u:=qG hN J;refine⟨?_,(Z.upd e1).upd (lt2 u)⟩;show OpOK P pins N op (hx S) (hx (upd (upd S (OB+j) _) d _));rw[zCJ (lt2 u) (by unfold HK;unfold OB at u;omega),zCJ e1 e2];exact ok_mkm W hd (qR hN J) (by simpa using u) (mk_hx hM I (by simp))
theorem h_mlkT{κ ν:Type}[BEq κ]{kv:κ->Value}{kT:κ->T}{vT:ν->T}(Z:Mk M S){j t kt et:Nat}{x y:Operand}{l:List (κ×ν)}{k:κ}{z:ν}{r:A}(J:op.op= .lookup t x y false)(hx:cpO M x= .t (.mpt j))(hb:M (OB+j)=mpT kT vT l)(hy:vK M y=some (kv k))(hu:P.underlying t=some (.map kt et))(K:KeyT P kt kv kT)
{i:TypeInfo}{U:Value}(hi:P.info? et=some i)(hz:i.zero=some U)(I:∀m,RepE m (vT z) U)(hr:A.t (vT ((zCG l k).getD z))=r)(hd:op.dst=some d)(u:okD N pins S d=true):OpH P pins N op S (app S [(d,r)]):=by
 subst hr
 exact .of (e:=[(d,_)]) λW=>⟨ok_mlk Z.hx J hx (mk_hx Z hb (by simp)) hy hu K hi hz I hd (qR W u),zBz (qG W u)⟩
theorem h_mupT{κ ν:Type}[BEq κ]{kv:κ->Value}{kT:κ->T}{vT:ν->T}(I:Mk M S){j t kt Z:Nat}{x y z:Operand}{l:List (κ×ν)}{k:κ}{v:ν}(u:op.op= .mapUpdate t x y z)(hx:cpO M x= .t (.mpt j))(hb:M (OB+j)=mpT kT vT l)(hy:vK M y=some (kv k))(hz:tK M z=some (vT v))(U:P.underlying t=some (.map kt Z))(K:KeyT P kt kv kT)
(hd:op.dst=none)(J:Nat.blt (j+1) OB=true):OpH P pins N op S (app S [(OB+j,mpT kT vT (mset l k v))]):=
 h_obj J λW _=>ok_mup I.hx u hx (mk_hx I hb (by simp)) hy hz U K hd
end
end Go.Proofs.YtocolhfjpadaoaaGreatDoor
namespace Go.Proofs.YtocolhfjpadaoaaGreatDoor
open Go Go.RowKit
set_option linter.unusedVariables false
section
variable {w0:World}{m0:Mem}{o0:OwnM}{G:GD}{pins:List Nat}{S M:Nat->A}{a:Act}{w:World}{m:Mem}{o:OwnM}{P:Program}{N:Nat}{op:Oper}{d c:Nat}{f f':Nat->A}
theorem hx_mp{l:List (T×T)}(hl:Low S)(hk:S HK= .hp f)(hf:f c= .mp l):hx S (OB+(OB+c))= .mp l:=by rw[zE6 hl hk,hf];rfl
theorem h_putM{l':List (T×T)}(hk:S HK= .hp f)(u:f'=updF f c (.mp l'))(h:N<=OB->Low S->OpOK P pins N op (hx S) (upd (hx S) (OB+(OB+c)) (.mp l'))):OpH P pins N op S (app S [(HK,.hp f')]):=by subst u;intro I hl;refine⟨?_,hl.upd zNg⟩;show OpOK P pins N op (hx S) (hx (upd S HK _));rw[zTI hl hk rfl];refine(h I hl).hkpost (f:=f) ?_;rw[zE (by unfold HK OB;omega)];exact zBq hk (by simp)
theorem h_mkM{l':List (T×T)}{x:A}(hk:S HK= .hp f)(U:f'=updF f c (.mp l'))(J:okD N pins S d=true)(h:N<=OB->Low S->OpOK P pins N op (hx S) (upd (upd (hx S) (OB+(OB+c)) (.mp l')) d x)):OpH P pins N op S (app S [(HK,.hp f'),(d,x)]):=by subst U;intro Z hl;have I:=qG Z J;(have u:d≠HK:=by unfold HK;unfold OB at I;omega);refine⟨?_,(hl.upd zNg).upd (lt2 I)⟩;show OpOK P pins N op (hx S) (hx (upd (upd S HK _) d x));rw[zCJ (lt2 I) u,zTI hl hk rfl,zJy (Ne.symm u)];refine(h Z hl).hkpost (f:=f) ?_;show upd (upd (hx S) (OB+(OB+c)) _) d x HK=_;rw[zE (Ne.symm u),zE (by unfold HK OB;omega)];exact zBq hk (by simp)
theorem h_mkmH{t:Nat}(hk:S HK= .hp f)(U:op.op= .makeMap t none)(hd:op.dst=some d)(u:okD N pins S d=true)(hf:f c= .free)(J:f'=updF f c (.mp [])):OpH P pins N op S (app S [(HK,.hp f'),(d,.t (.mpt (OB+c)))]):=
 h_mkM hk J u λZ I=>ok_mkm U hd (qR Z u) (by simpa using qG Z u) (zSC I hk hf)
theorem h_mlkHT{κ ν:Type}[BEq κ]{kv:κ->Value}{kT:κ->T}{vT:ν->T}(hM:Mk M S)(hk:S HK= .hp f){t kt et:Nat}{x y:Operand}{l:List (κ×ν)}{k:κ}{z:ν}{r:A}(U:op.op= .lookup t x y false)(hx:cpO M x= .t (.mpt (OB+c)))(hf:f c=mpT kT vT l)(hy:vK M y=some (kv k))(hu:P.underlying t=some (.map kt et))(K:KeyT P kt kv kT)
{i:TypeInfo}{Z:Value}(hi:P.info? et=some i)(hz:i.zero=some Z)(J:∀m,RepE m (vT z) Z)(hr:A.t (vT ((zCG l k).getD z))=r)(hd:op.dst=some d)(u:okD N pins S d=true):OpH P pins N op S (app S [(d,r)]):=by
 subst hr
 exact .of' (e:=[(d,_)]) λW I=>⟨ok_mlk hM.hx U hx (hx_mp I hk hf) hy hu K hi hz J hd (qR W u),zBz (qG W u)⟩
theorem ok_mlk2{κ ν:Type}[BEq κ]{kv:κ->Value}{kT:κ->T}{vT:ν->T}(hM:Mk M S){j t kt et:Nat}{x y:Operand}{l:List (κ×ν)}{k:κ}{z:ν}(γ:op.op= .lookup t x y true)(hx:cpO M x= .t (.mpt j))(hb:S (OB+j)=mpT kT vT l)(hy:vK M y=some (kv k))(hu:P.underlying t=some (.map kt et))(K:KeyT P kt kv kT)
{i:TypeInfo}{zv:Value}(hi:P.info? et=some i)(hz:i.zero=some zv)(δ:∀m,RepE m (vT z) zv)(hd:op.dst=some d)(ε:okD N pins S d=true):OpOK P pins N op S (upd S d (.tup [vT ((zCG l k).getD z),.d (.lit (.bool (zCG l k).isSome))])):=by
 refine zL λw0 m0 o0 G a w m o hN I=> ?_
 obtain⟨h1,h2,h3⟩:=zS ε
 have W:=qA hM I x 0
 rw[hx]at W
 obtain⟨g,k1,k2⟩:=W
 have U:=I.slots (OB+j)
 rw[hb]at U
 obtain⟨g',q1,q2,es,ck,q3,ζ,q4⟩:=U
 obtain rfl:=I.inj _ _ _ k1 q1
 have hE:=zTP K q4
 have hf:=zNl (m:=m) K k l es.toList 0 hE
 have α:(l.findIdx? λp=>k==p.1)=mpos l k:=rfl
 rw[α]at hf
 have J:∀r,(match mpos l k with|some q=>(((es[q]?).map (·.val)).getD undef)|none=>zv)=r->(Instr.lookup t (.map (some g)) (kv k) true).run P w= .ok (.tuple #[r,.bool (mpos l k).isSome]) w:=λr hr=>by unfold Instr.lookup;simp only[wE,run_underlying hu,wD];rw[MapKept.run_getObj_map q3];simp only[wD,wU,pure_bind,wE];rw[K.chk];simp only[wD,wE];rw[MapKept.run_findKey K.und hf];simp only[wD];(cases hp:mpos l k with|none=>rw[hp]at hr;simp only[sF];simp[zeroValue,typeInfo,hi,hz,go_sem,<-hr]|some q=>rw[hp]at hr;simp only[uO];simp[<-hr])
 have hv:RepE m (vT ((zCG l k).getD z)) (match mpos l k with|some q=>(((es[q]?).map (·.val)).getD undef)|none=>zv):=by unfold zCG;(cases hp:mpos l k with|none=>exact δ m|some q=>have u:q<l.length:=(tA.1 hp).1;obtain⟨e,h4,h5,h6⟩:=hE.2 q l[q] (wF u);simp only[wF u,uO,uT];(have h4:es[q]? =some e:=by simpa using h4);rw[h4];exact h6)
 have hs:(mpos l k).isSome=(zCG l k).isSome:=by unfold zCG;(cases hp:mpos l k with|none=>rfl|some q=>have u:q<l.length:=(tA.1 hp).1;simp[wF u])
 rw[hs]at J
 obtain⟨rv,Z⟩:∃rv:Value,(match mpos l k with|some q=>(((es[q]?).map (λe:MapEntry=>e.val)).getD undef)|none=>zv)=rv:=⟨_,rfl⟩
 rw[Z]at hv
 have β:RepA m w o S d (.tup [vT ((zCG l k).getD z),.d (.lit (.bool (zCG l k).isSome))]) (.tuple #[rv,.bool (zCG l k).isSome]):=by refine⟨#[rv,.bool (zCG l k).isSome],rfl,rfl,λq x hq=> ?_⟩;(match q,hq with|0,hq=>cases hq;exact⟨_,rfl,hv.toT⟩|1,hq=>cases hq;exact⟨_,rfl,.lit _ rfl⟩|q+2,hq=>simp at hq)
 refine⟨.tuple #[rv,.bool (zCG l k).isSome],w,m,o,?_,by rw[hd];exact I.set d _ _ (by omega) h2 β⟩
 unfold execOp
 rw[γ]
 simp only[wE]
 rw[vK_eq hM I hy,k2,J _ Z]
 rfl
theorem h_mlk2HT{κ ν:Type}[BEq κ]{kv:κ->Value}{kT:κ->T}{vT:ν->T}(hM:Mk M S)(hk:S HK= .hp f){t kt et:Nat}{x y:Operand}{l:List (κ×ν)}{k:κ}{z:ν}(U:op.op= .lookup t x y true)(hx:cpO M x= .t (.mpt (OB+c)))(hf:f c=mpT kT vT l)(hy:vK M y=some (kv k))(hu:P.underlying t=some (.map kt et))(K:KeyT P kt kv kT)
{i:TypeInfo}{Z:Value}(hi:P.info? et=some i)(hz:i.zero=some Z)(J:∀m,RepE m (vT z) Z)(hd:op.dst=some d)(u:okD N pins S d=true):OpH P pins N op S (app S [(d,.tup [vT ((zCG l k).getD z),.d (.lit (.bool (zCG l k).isSome))])]):=
 .of' (e:=[(d,_)]) λW I=>⟨ok_mlk2 hM.hx U hx (hx_mp I hk hf) hy hu K hi hz J hd (qR W u),zBz (qG W u)⟩
theorem h_mupHT{κ ν:Type}[BEq κ]{kv:κ->Value}{kT:κ->T}{vT:ν->T}(U:Mk M S)(hk:S HK= .hp f){t kt W:Nat}{x y z:Operand}{l:List (κ×ν)}{k:κ}{v:ν}(J:op.op= .mapUpdate t x y z)(hx:cpO M x= .t (.mpt (OB+c)))(hf:f c=mpT kT vT l)(hy:vK M y=some (kv k))(hz:tK M z=some (vT v))(Z:P.underlying t=some (.map kt W))(K:KeyT P kt kv kT)
(hd:op.dst=none)(I:f'=updF f c (mpT kT vT (mset l k v))):OpH P pins N op S (app S [(HK,.hp f')]):=
 h_putM hk I λhN u=>ok_mup U.hx J hx (hx_mp u hk hf) hy hz Z K hd
theorem ok_mn(hM:Mk M S){u:BinOp}{t yt kt W j:Nat}{x:Operand}{ng:Bool}(Z:op.op= .binOp u t x (.const (.map none)) yt)(hb:u=bif ng then .neq else .eql)(ht:P.underlying t=some (.map kt W))(hx:cpO M x= .t (.mpt j))(hd:op.dst=some d)(U:okD N pins S d=true):OpOK P pins N op S (upd S d (.t (.d (.lit (.bool ng))))):=by refine zL λw0 m0 o0 G a w m o hN I=> ?_;obtain⟨h1,h2,h3⟩:=zS U;have J:=qA hM I x 0;rw[hx]at J;obtain⟨g,k1,k2⟩:=J;refine⟨.bool ng,w,m,o,?_,by rw[hd];exact I.set d _ _ (by omega) h2 (.lit _ rfl)⟩;subst hb;unfold execOp;rw[Z];show Sem.run P (do pure (Next.value (<-(do eqGuard _ t x _ (a.eval x) (.map none);binOp _ t (a.eval x) (.map none))))) w=_;rw[k2,wE];(have hg:∀u:BinOp,(eqGuard u t x (.const (.map none)) (.map (some g)) (.map none)).run P w= .ok () w:=by intro u;unfold eqGuard;cases u<;>rfl);(cases ng with|false=>show Result.andThen (Sem.run P (do eqGuard .eql t x _ (.map (some g)) (.map none);binOp .eql t (.map (some g)) (.map none)) w) _=_;rw[wE,hg,wD,run_eql_map_nil w t kt W (some g) ht];rfl|true=>show Result.andThen (Sem.run P (do eqGuard .neq t x _ (.map (some g)) (.map none);binOp .neq t (.map (some g)) (.map none)) w) _=_;rw[wE,hg,wD,run_neq_map_nil w t kt W (some g) ht];rfl)
theorem h_mn(Z:Mk M S){I:BinOp}{t W kt et j:Nat}{x:Operand}{ng:Bool}(J:op.op= .binOp I t x (.const (.map none)) W)(hb:I=bif ng then .neq else .eql)(ht:P.underlying t=some (.map kt et))(hx:cpO M x= .t (.mpt j))(hd:op.dst=some d)(u:okD N pins S d=true):OpH P pins N op S (app S [(d,.t (.d (.lit (.bool ng))))]):=
 .of (e:=[(d,_)]) λU=>⟨ok_mn Z.hx J hb ht hx hd (qR U u),zBz (qG U u)⟩
theorem mpt_loc(c:Nat):(T.mpt (OB+c)).isLoc=false:=by show Nat.blt (OB+c) OB=false;(have h:¬(OB+c<OB):=by omega);(cases hb:Nat.blt (OB+c) OB with|false=>rfl|true=>exact absurd (by simpa using hb) h)
def arM{κ ν:Type}(kv:κ->Value)(cv:ν->D)(l:List (List (κ×ν)))(i:Nat):A:=match l[i]? with
 |some x=>mpA kv cv x
 |none=> .free
variable {κ ν:Type}{kv:κ->Value}{cv:ν->D}{ms:List (List (κ×ν))}{i:Nat}{x x':List (κ×ν)}
theorem arM_get(h:ms[i]? =some x):arM kv cv ms i=mpA kv cv x:=by unfold arM;rw[h]
theorem arM_ne{j:Nat}(h:j≠i):arM kv cv (ms.set i x') j=arM kv cv ms j:=by unfold arM;rw[vN (Ne.symm h)]
theorem arM_eq(h:ms[i]? =some x):arM kv cv (ms.set i x') i=mpA kv cv x':=arM_get (zEZ h)
theorem arM_free:arM kv cv ms ms.length= .free:=by unfold arM;rw[uI (wJ _)]
theorem arM_new:arM kv cv (ms++[x]) ms.length=mpA kv cv x:=by unfold arM;grind
theorem arM_old{j:Nat}(h:j≠ms.length):arM kv cv (ms++[x]) j=arM kv cv ms j:=by unfold arM;grind
theorem arM_pure{l:List T}(h:arM kv cv ms i= .box l):∀y∈l,y.isLoc=false:=by unfold arM at h;grind
theorem san_arM(kv:κ->Value)(cv:ν->D)(l:List (List (κ×ν)))(i:Nat):san (arM kv cv l i)=arM kv cv l i:=by unfold arM;split<;>rfl
end
open Go.Lib
def cpySI(x:List UInt8)(off n:Nat)(y:List UInt8):Option (List UInt8):=if y.length<=n then cpyI x off n y else none
theorem cpySI_iff{x y v:List UInt8}{off n:Nat}(h:cpySI x off n y=some v):y.length<=n/\cpyI x off n y=some v:=by unfold cpySI at h;grind
section
variable {pins:List Nat}{S M:Nat->A}{P:Program}{N:Nat}{op:Oper}{d:Nat}
theorem zQg{m:Mem}(l:List UInt8):RepL m (l.map λb=>D.lit (.int .u8 (b.toNat:Int))) (byteCells l):=by
 refine⟨by rw[byteCells_length,wL],λj x hj=> ?_⟩
 rw[wH]at hj
 cases hl:l[j]? with
 |none=>grind
 |some b=>
  rw[hl]at hj
  cases hj
  exact⟨.int .u8 (b.toNat:Int),by unfold byteCells;rw[wH,hl];rfl,.lit _ rfl⟩
theorem ok_cpyS(hM:Mk M S){j off E n t t' e:Nat}{x y:Operand}{ie:TypeInfo}{l:List T}{yl:List UInt8}(hop:op.op= .call {callee:= .builtin .copy,args:= #[x,y],argTypes:= #[t,t']})(hu:P.underlying t=some (.slice e))(hie:P.info? e=some ie)(hs1:ie.size=1)(hx:cpO M x= .t (.view j off E 1 n))(hb:S (OB+j)= .box l)(hy:vO M y=some (.string ⟨⟨yl⟩⟩))(hfit:yl.length<=n)(hle:off+n<=l.length)(hd:op.dst=some d)(hok:okD N pins S d=true)(hdO:d<OB):
  OpOK P pins N op S (app S [(OB+j,.box (qZ l off ((yl.map λb=>D.lit (.int .u8 (b.toNat:Int))).map .d))),(d,.t (.d (.lit (.int .i64 ((yl.length:Nat):Int)))))]):=by
 refine zL λw0 m0 o0 G a w m o hN I=> ?_
 obtain⟨h1,h2,h3⟩:=zS hok
 have hxr:=qA hM I x 0
 rw[hx]at hxr
 obtain⟨A1,c1,k1,k2,hxv,k4⟩:=hxr
 have hbox2:∀x,(upd S (OB+j) x d).isBox=false:=λx=>by rw[zE (by omega)];exact h2
 have hsz:(⟨⟨yl⟩⟩:ByteArray).size=yl.length:=rfl
 by_cases h0:yl.length=0
 ·
  have he:yl=[]:=List.eq_nil_of_length_eq_zero h0
  subst he
  refine⟨goInt 0,w,m,o,?_,?_⟩
  ·
   unfold execOp
   rw[hop]
   simp only[resolve,invoke,builtin,Sem.run_bind,Sem.run_pure,Result.andThen_ok,List.map_toArray,List.map_cons,List.map_nil]
   rw[hxv,zCK hM I hy,run_copy_empty_string w t t' op.type e _ _ _ _ hu (by rw[hie];rfl) rfl]
   rfl
  ·
   rw[hd]
   show Inv w0 m0 o0 G pins (upd (upd S (OB+j) (.box (qZ l off []))) d _) _ w m o
   rw[zPi]
   have e1:upd S (OB+j) (.box l)=S:=by
    funext s
    unfold upd
    grind
   rw[e1]
   exact I.set d _ _ (by omega) h2 (.lit _ rfl)
 ·
  obtain⟨g,cs,E',q1,q2,q3,q4,_⟩:=k4.resolve_left λe=>by omega
  clear k4
  subst q2
  have hs:=I.slots (OB+j)
  rw[hb]at hs
  obtain⟨g',_,p1,p2,cs',E2,p3,p4,p5⟩:=hs
  have:=I.inj _ _ _ q1 p1
  subst this
  rw[q3]at p3
  cases p3
  have hbl:(byteCells yl).length=yl.length:=byteCells_length yl
  have hrun:=run_copy_row_string (P:=P) w t t' op.type e g off n c1 ⟨⟨yl⟩⟩ cs E' hu (by rw[hie,<-hs1];rfl) q3 hfit (by show off+yl.length<=cs.size;omega)
  have J:=I.box_spl (off:=off) hb q1 q3 p4 p5 (zQg yl) (by rw[List.length_map];omega)
  refine⟨goInt yl.length,w.setRow g (qZ cs.toList off (byteCells yl)).toArray,m,o,?_,?_⟩
  ·
   unfold execOp
   rw[hop]
   simp only[resolve,invoke,builtin,Sem.run_bind,Sem.run_pure,Result.andThen_ok,List.map_toArray,List.map_cons,List.map_nil]
   rw[hxv,zCK hM I hy,hrun]
   unfold qZ
   rw[hbl]
   rfl
  ·
   rw[hd]
   exact J.set d (.t (.d (.lit (.int .i64 ((yl.length:Nat):Int))))) (goInt yl.length) (by omega) (hbox2 _) (.lit _ rfl)
theorem h_cpyS{J yl v:List UInt8}(hM:Mk M S){j off E n t t' e:Nat}{x y:Operand}{ie:TypeInfo}(α:op.op= .call {callee:= .builtin .copy,args:=⟨[x,y]⟩,argTypes:=⟨[t,t']⟩})(hu:P.underlying t=some (.slice e))(U:P.info? e=some ie)(I:ie.size=1)(hx:cpO M x= .t (.view j off E 1 n))(hb:M (OB+j)= .box (fl (dT cU8) J))(hy:vO M y=some (.string ⟨⟨yl⟩⟩))(hv:cpySI J off n yl=some v)(hj:Nat.blt (j+1) OB=true)(hd:op.dst=some d)(u:okD N pins S d=true):
 OpH P pins N op S (app S [(OB+j,.box (fl (dT cU8) v)),(d,.t (.d (.lit (.int .i64 (yl.length:Int)))))]):=by
 obtain⟨W,Z⟩:=cpySI_iff hv
 obtain⟨Z,rfl⟩:=zTb Z
 refine .lo2 hj u λhN β=> ?_
 rw[<-cpy_row (c:=cU8) (λ_=>rfl)]
 have:=ok_cpyS (j:=j) (off:=off) (E:=E) (n:=n) (l:=fl (dT cU8) J) (yl:=yl) hM.hx α hu U I hx (zQT hM hb) hy W (by rw[zOD (zKd (c:=cU8) (k:=1) (λ_=>rfl))];omega) hd (qR hN u) (qG hN u)
 have e:((yl.map cU8).take n).flatMap id=yl.map λb=>D.lit (.int .u8 (b.toNat:Int)):=by rw[vE (by rw[wL];exact W)];clear this W hv hy Z;(induction yl with|nil=>rfl|cons b r ih=>grind)
 grind
end
end Go.Proofs.YtocolhfjpadaoaaGreatDoor
namespace Go.Proofs.YtocolhfjpadaoaaGreatDoor
open Go Go.RowKit
variable {P:Program}{w0:World}{w:World}{m0:Mem}{m:Mem}{o0:OwnM}{o:OwnM}{G:GD}{pins:List Nat}{N:Nat}{a:Act}{op:Oper}{S:Nat->A}{M:Nat->A}{L:SL}{v:Value}{W:World}{Q:Mem}{X:OwnM}
def zMd(l:Nat)(K:SL->Prop)(Q:Exit->SL->Prop):Exit->SL->Prop
 | .goto u,L=>u=l/\K L
 |e,L=>Q e L
section
variable {P:Program}{pins:List Nat}{N:Nat}{Q:Exit->SL->Prop}{L:SL}{K:SL->Prop}{l:Nat}
theorem zR8 {b : Frame} {k : List Item} {cs : List Frame} {c : Code} : step P (lone (b.atR a (.code (.scope c) :: k)) cs w) = .next (lone (b.atR a (.code c :: .inScope c :: k)) cs w) :=
 step_lone_go (by simp [stepG, stepG.exec, Frame.atR])
theorem zLf {b : Frame} {k : List Item} {cs : List Frame} {c : Code} : step P (lone (b.atR a (.inScope c :: k)) cs w) = .next (lone (b.atR a k) cs w) :=
 step_lone_go (by simp [stepG, stepG.exec, Frame.atR])
theorem c_goto(h:Q (.goto l) L):qK P pins N (.goto l) Q L:=λI J U W m0 X G a w u=>wpIn_goto ⟨L,h,u⟩
def zH6(P:Program)(pins:List Nat)(N:Nat)(c r:Code)(Q:Exit->SL->Prop)(L:SL):Prop:=
 ∀(u:Fence) (U:Nat),WideP pins u->∀(W:World) (m0:Mem) (X:OwnM) (G:GD) (a:Act) (w:World),St W m0 X G pins N L a w->∀(b:Frame) (k:List Item) (I:List Frame),b.roundOf=u.round->u.fn b.fn->u.room (I.length+1+U)->
  ∃e J w',(∃L',Q e L'/\StX e W m0 X G pins N L' J w')/\ArrivesIn (Machine.fenced P u) P (lone (b.atR a (.code r:: .inScope c::k)) I w) b k I e J w'
theorem scope_of{c r:Code}(hf:findLabel c l=some r)(h:qK P pins N r (zMd l (zH6 P pins N c r Q) Q) L):zH6 P pins N c r Q L:=by intro Fe ne hF W m0 X G a w hS b k cs α hb hr;(have hg:gotoIn l (.inScope c::k)=some (.code r:: .inScope c::k):=by simp[gotoIn,hf]);obtain⟨e,Z,U,⟨L₁,hq,I⟩,u⟩:=h Fe ne hF W m0 X G a w hS b (.inScope c::k) cs α hb hr;(cases e with|normal=>exact⟨.normal,Z,U,⟨L₁,hq,I⟩,StepsIn.trans u (.one (fenced_calm hb hr rfl) zLf)⟩|exit id=>exact⟨.exit id,Z,U,⟨L₁,hq,I⟩,λk' hk=>u.1 k' (by simp[exitTo,hk]),λh1 hk=>u.2 h1 (by simp[exitTo,hk])⟩|goto l'=>obtain⟨rfl,hJ⟩:=hq;obtain⟨e₂,a₂,w₂,β,J⟩:=hJ Fe ne hF W m0 X G Z U I b k cs α hb hr;exact⟨e₂,a₂,w₂,β,.of_steps (u.1 _ hg) J⟩|ret=>exact⟨_,Z,U,⟨L₁,hq,I⟩,u⟩|panic ch=>exact⟨_,Z,U,⟨L₁,hq,I⟩,u⟩|outgrown=>exact⟨_,Z,U,⟨L₁,hq,I⟩,u⟩)
theorem c_scope{c:Code}(l:Nat)(r:Code)(hf:findLabel c l=some r)(h:qK P pins N c (zMd l (zH6 P pins N c r Q) Q) L):qK P pins N (.scope c) Q L:=by intro Fe ne hF W m0 X G a w hS b k cs α hb hr;(have hg:gotoIn l (.inScope c::k)=some (.code r:: .inScope c::k):=by simp[gotoIn,hf]);have st:StepsIn (Machine.fenced P Fe) P (lone (b.atR a (.code (.scope c)::k)) cs w) (lone (b.atR a (.code c:: .inScope c::k)) cs w):= .one (fenced_calm hb hr rfl) zR8;obtain⟨e,Z,U,⟨L₁,hq,I⟩,u⟩:=h Fe ne hF W m0 X G a w hS b (.inScope c::k) cs α hb hr;(cases e with|normal=>exact⟨.normal,Z,U,⟨L₁,hq,I⟩,StepsIn.trans st (StepsIn.trans u (.one (fenced_calm hb hr rfl) zLf))⟩|exit id=>exact⟨.exit id,Z,U,⟨L₁,hq,I⟩,λk' hk=>StepsIn.trans st (u.1 k' (by simp[exitTo,hk])),λh1 hk=>let⟨k₁,h2,h3⟩:=u.2 h1 (by simp[exitTo,hk]);⟨k₁,h2,StepsIn.trans st h3⟩⟩|goto l'=>obtain⟨rfl,hJ⟩:=hq;obtain⟨e₂,a₂,w₂,β,J⟩:=hJ Fe ne hF W m0 X G Z U I b k cs α hb hr;exact⟨e₂,a₂,w₂,β,.of_steps (StepsIn.trans st (u.1 _ hg)) J⟩|ret=>exact⟨_,Z,U,⟨L₁,hq,I⟩,.of_steps st u⟩|panic ch=>exact⟨_,Z,U,⟨L₁,hq,I⟩,.of_steps st u⟩|outgrown=>exact⟨_,Z,U,⟨L₁,hq,I⟩,.of_steps st u⟩)
theorem zOb{c:Code}{u:Exit->SL->Prop}(h:qK P pins N c Q L)(hq:∀e L',Q e L'->u e L'):qK P pins N c u L:=
 λFe J hF W m0 X G a w U=>wpIn_mono (h Fe J hF W m0 X G a w U) λe a' w' ⟨L',Z,I⟩=>⟨L',hq e L' Z,I⟩
end
def yv(l:Nat):Value:= .func (.yield l) #[] #[]
def YK(P:Program)(l:Nat)(vals:Array Value)(w:World)(R:Ending->World->Prop):Prop:=
 ∃fn J u I,(Instr.yield l vals).run P w= .ok (.round l fn J u I) w/\∀n,RoundIn Fence.wide n P l fn J u I w R
theorem YK.mono{l:Nat}{vals:Array Value}{R U:Ending->World->Prop}(h:YK P l vals w R)(k:∀e w',R e w'->U e w'):YK P l vals w U:=by obtain⟨fn,I,J,u,W,Z⟩:=h;exact⟨fn,I,J,u,W,λn=>(Z n).mono k⟩
def YLD(P:Program)(l:Nat)(args:List A)(f f':Nat->A)(b:Bool):Prop:=FCK (YK P l) args [] [] f f' (.t (.d (.lit (.bool b))))
theorem round_any{F:Fence}(h:zJK F){n:Nat}{l fn:Nat}{J:Array Value}{u I:Code}{R:Ending->World->Prop}(hr:RoundIn Fence.wide n P l fn J u I w R):RoundIn F n P l fn J u I w R:=by refine⟨h.fn _,λc Z U=> ?_⟩;obtain⟨e,w',r,s⟩:=hr.2 c Z (room_wide _);refine⟨e,w',r,?_⟩;rcases h with rfl|⟨l,rfl⟩;exact s;exact s
section
variable {P:Program}{pins:List Nat}{N:Nat}{op:Oper}{d:Nat}{S M:Nat->A}{f f':Nat->A}
theorem y_call(hM:Mk M S)(hk:S HK= .hp f){l:Nat}{xs:List Operand}{ts:Array TypeId}{fx:Operand}(δ:op.op= .call {callee:= .value fx,args:=xs.toArray,argTypes:=ts})(μ:vO M fx=some (yv l))(hd:op.dst=some d)(η:okD N pins S d=true){args:List A}{b:Bool}(hf:YLD P l args f f' b)(hp:zDy f)(θ:zDy f')(α:zKB [] (xs.map (cpO M)) args)(ξ:Nat.ble args.length OB=true):
 OpY P pins N op S (app S [(HK,.hp f'),(d,.t (.d (.lit (.bool b))))]):=by
 intro hN β
 have Z:=qG hN η
 have U:d≠HK:=by unfold HK;unfold OB at Z;omega
 refine⟨?_,(β.upd zNg).upd (lt2 Z)⟩
 intro F n hF W m0 X G a w m o ι I K Q hK
 have he:hx (app S [(HK,.hp f'),(d,.t (.d (.lit (.bool b))))])=upd (upd (app (hpS (hx S) f') (zD7 [] [])) d (.t (.d (.lit (.bool b))))) HK (.hp f'):=by show hx (upd (upd S HK (.hp f')) d _)=_;rw[zCJ (lt2 Z) U,zJy U];congr 1;funext t;by_cases e:t=HK;(subst e;rw[zT];exact zBq (zT _ _ _) (by simp));(rw[zE e];rcases wY t OB2 with h|h;(rw[zDY h,zE e];show S t=hpS (hx S) f' t;unfold hpS;rw[if_neg (by omega),zDY h]);(obtain⟨k,rfl⟩:∃k,t=OB2+k:=⟨t-OB2,by omega⟩;rw[yK,zE6 (β.upd zNg) (zT _ _ _),<-yK];show _=hpS (hx S) f' _;unfold hpS;grind))
 rw[he]at hK
 obtain⟨h1,h2,h3⟩:=zS (qR hN η)
 obtain⟨k1,k2⟩:=zLq hM.hx I List.nodup_nil (uF _) (λj h=>by cases h) (S':=argH args [] f) xs args α
 have hc:=zPD (K:=YK P l) I (λ_ _ _ _ h k=>YK.mono h k) hf (λc=>zE6 β hk c) hp θ (σ:=[]) (fr:=[]) List.nodup_nil (λj h=>by cases h) rfl rfl rfl (λj h=>by cases h) rfl (uF _) (.plain rfl) (vals:=(xs.map a.eval).toArray) (by simpa using k1) (λk x hk k0=>by simpa using k2 k x hk k0) (wZ ξ) (d:=d) (by omega) h2 h3
 obtain⟨fn,ε,ν,γ,q1,q2⟩:=hc
 unfold Oper.wpIn
 refine⟨λg _=>hF.fn g,?_⟩
 have κ:∀c,op.op≠ .defer c:=λc e=>by rw[δ]at e;cases e
 rw[Oper.semAt_eq _ _ _ κ]
 have ζ:(execOp a.eval op).run P w= .ok (.round l fn ε ν γ) w:=by unfold execOp;rw[δ];simp only[resolve,zCK hM.hx I μ,yv,Deferred.ofValue,vA];simp[invoke,q1]
 rw[ζ,Oper.uponIn_round]
 refine⟨λh=>hF.deep h,RoundIn.mono (round_any hF (q2 _)) ?_⟩
 rintro e w' ⟨u,m',o',rfl,J⟩
 rw[<-hd]at J
 show K (a.put op.dst u) w'
 refine hK _ _ _ _ (by rw[zCW,ι]) (J.hk (f:=f) ?_ f')
 rw[zE (Ne.symm U)]
 show hpS (hx S) f' HK=_
 unfold hpS
 rw[if_neg (by unfold HK OB2;omega)]
 exact zBq hk (by simp)
end
def hz(f z:Nat->A):Nat->A:=λc=>if c %64=63 then z (c/64)else f c
def isZ(s:Nat):Prop:=OB2<=s/\(s-OB2) %64=63
instance (s:Nat):Decidable (isZ s):=by unfold isZ;exact inferInstance
theorem zRC{s:Nat}(h:s<OB2):¬isZ s:=λe=>by have:=e.1;omega
theorem zOu{c:Nat}:isZ (OB+(OB+c))↔c %64=63:=by unfold isZ;rw[<-yK,wP];grind
def nzT:T->Bool
 | .hpt c _| .hvw c _ _ _ _=> !(c %64==63)
 | .opt t _=> !(t %64==63)
 | .mpt i=> !(Nat.ble OB i&&(i-OB) %64==63)
 | .ptr _ _| .view _ _ _ _ _=>false
 |_=>true
def nzA:A->Bool
 | .t x=>nzT x
 | .tup l| .ag l| .lst l| .imt l=>l.all nzT
 | .imm _| .any=>true
 |_=>false
def dzO(o:OwnM):OwnM:=λg=>match o g with
 |some l=>if isZ l.1 then none else some l
 |none=>none
theorem zDK{g:Nat}{l:Nat×Nat}:dzO o g=some l↔¬isZ l.1/\o g=some l:=by
 unfold dzO
 constructor
 ·
  intro h
  split at h
  all_goals grind
 grind
section
variable {m:Mem}{w:World}{o:OwnM}
theorem zMi{loc:Nat×Nat}(hl:¬isZ loc.1){x:T}(hx:nzT x=true)(h:RepT m w o loc x v):RepT m w (dzO o) loc x v:=by(cases x with|d x=>exact h|agg l=>exact h|own E k l=>obtain⟨W,cap,xs,e,I,u,U,J⟩:=h;exact⟨W,cap,xs,e,I,λg Z=>⟨zDK.2 ⟨hl,(u g Z).1⟩,(u g Z).2⟩,U,J⟩|ags l1 α=>exact zH3.own (λg Z=>zDK.2 ⟨hl,Z⟩) h|xs E k l rv=>obtain⟨W,cap,xs,e,I,u,U,J⟩:=h;exact⟨W,cap,xs,e,I,λg Z=>⟨zDK.2 ⟨hl,(u g Z).1⟩,(u g Z).2⟩,U,J⟩|any=>exact h|ptr i off=>cases hx|view i off E k n=>cases hx|hpt i off=>(have hx:i %64≠63:=by simpa[nzT]using hx);obtain⟨g,I,u⟩:=h;exact⟨g,zDK.2 ⟨λe=>hx (zOu.1 e),I⟩,u⟩|opt t p=>(have hx:t %64≠63:=by simpa[nzT]using hx);exact h.imp id λ⟨i,e,g,I,u⟩=>⟨i,e,g,zDK.2 ⟨λe=>hx (by have:=zOu.1 e;unfold cd at this;omega),I⟩,u⟩|mpt i=>obtain⟨g,I,u⟩:=h;refine⟨g,zDK.2 ⟨λe=> ?_,I⟩,u⟩;have e:isZ (OB+i):=e;(have U:OB<=i:=by have:=e.1;unfold OB OB2 at*;omega);(have J:i=OB+(i-OB):=by omega);rw[J]at e;have h5:=zOu.1 e;have hx:(!(Nat.ble OB i&&(i-OB) %64==63))=true:=hx;rw[h5,Nat.ble_eq_true_of_le U]at hx;cases hx|hvw i off E k n=>(have hx:i %64≠63:=by simpa[nzT]using hx);obtain⟨W,q,I,u,U,J⟩:=h;exact⟨W,q,I,u,U,J.imp id λ⟨g,cs,E1,k1,k2⟩=>⟨g,cs,E1,zDK.2 ⟨λe=>hx (zOu.1 e),k1⟩,k2⟩⟩)
theorem zTK{l:List T}(h:l.all nzT=true){j:Nat}{x:T}(u:l[j]? =some x):nzT x=true:=wG.1 h x (wC u)
theorem nzA_rep{s:Nat}(hs:¬isZ s){S S':Nat->A}{x:A}(hx:nzA x=true)(h:RepA m w o S s x v):RepA m w (dzO o) S' s x v:=by(cases x with|t x=>exact zMi hs hx h|tup l=>obtain⟨Z,e,U,J⟩:=h;exact⟨Z,e,U,λj x I=>let⟨u,a,b⟩:=J j x I;⟨u,a,zMi hs (zTK hx I) b⟩⟩|ag l=>obtain⟨Z,e,U,J⟩:=h;exact⟨Z,e,U,λj x I=>let⟨u,a,c,b⟩:=J j x I;⟨u,a,c,zMi hs (zTK hx I) b⟩⟩|lst l=>obtain⟨g,cap,e,U,J,W⟩:=h;exact⟨g,cap,e,U,J,λj x I=>let⟨u,a,b⟩:=W j x I;⟨u,a,zMi hs (zTK hx I) b⟩⟩|imt l=>obtain⟨g,e,W⟩:=h;exact⟨g,e,λj x I=>let⟨u,a,b⟩:=W j x I;⟨u,a,zMi hs (zTK hx I) b⟩⟩|imm l=>exact h|any=>trivial|_=>cases hx)
end
structure NZ(f:Nat->A):Prop where
 z:∀c,c %64=63->san (f c)= .free
 b:∀c l,san (f c)= .box l->∀x∈l,nzT x=true
 r:∀c b u mE oE,san (f c)≠ .rcd b u mE oE
theorem FCK.frame{K:Array Value->World->(Ending->World->Prop)->Prop}(π:∀(v:Array Value) (w:World) (R R':Ending->World->Prop),K v w R->(∀e w',R e w'->R' e w')->K v w R'){args:List A}{f f':Nat->A}{r:A}(hf:FCK K args [] [] f f' r)(h0:NZ f)(χ:NZ f')(ha:args.all nzA=true)(hle:args.length<=OB)(z:Nat->A):FCK K args [] [] (hz f z) (hz f' z) r:=by
 intro w m o α κ μ ε η τ γ
 refine π _ _ _ _ (hf w m (dzO o) α κ μ (λg l h=>ε g l (zDK.1 h).2) (λg g' l h h'=>η g g' l (zDK.1 h).2 (zDK.1 h').2) τ λs=> ?_) ?_
 · have hs:=γ s;revert hs;generalize α.getD s undef=v;intro hs;unfold argH at hs⊢;by_cases h1:s<OB;(rw[if_pos h1]at hs⊢;have I:¬isZ s:=zRC (by unfold OB OB2 at*;omega);refine nzA_rep I ?_ hs;rw[wK];(cases hx:args[s]? with|none=>rfl|some x=>grind));(rw[if_neg h1]at hs⊢;by_cases Z:OB2<=s;(rw[if_pos Z]at hs⊢;obtain⟨c,rfl⟩:∃c,s=OB2+c:=⟨s-OB2,by omega⟩;rw[wP]at hs⊢;by_cases hc:c %64=63;(rw[h0.z c hc];intro g k h;have:=(zDK.1 h).1;rw[yK]at this;exact this (zOu.2 hc));((have I:¬isZ (OB2+c):=by rw[yK];exactλe=>hc (zOu.1 e));(have e1:hz f z c=f c:=by unfold hz;rw[if_neg hc]);rw[e1]at hs;rcases zEu (f c)with⟨l,hl⟩|hl|hl|⟨l,hl⟩|⟨b,u,mE,oE,hl⟩;(have hb:=h0.b c l hl;rw[hl]at hs⊢;obtain⟨g,e,k1,k2,cs,E,k3,k4,k5⟩:=hs;refine⟨g,e,zDK.2 ⟨I,k1⟩,k2,cs,E,k3,k4,λj x hj=> ?_⟩;obtain⟨q1,u,q2,q3⟩:=k5 j x hj;exact⟨q1,u,q2,zMi I (hb x (wC hj)) q3⟩);(rw[hl]at hs⊢;exactλg k h=>hs g k (zDK.1 h).2);rw[hl];trivial;(rw[hl]at hs⊢;obtain⟨g,k1,k2⟩:=hs;exact⟨g,zDK.2 ⟨I,k1⟩,k2⟩);exact absurd hl (h0.r c _ _ _ _)));(rw[if_neg Z]at hs⊢;exactλg k h=>hs g k (zDK.1 h).2))
 · rintro e w' ⟨u,m',o',S',a',ρ,he,J,hr,_,ν,hρ⟩;(have θ:∀g l,o g=some l->isZ l.1->dzO o g=none:=λg l h hl=>by unfold dzO;rw[h];simp only;rw[if_pos hl]);(have hzo:∀g l,o g=some l->isZ l.1->o' g=none:=by intro g l h hl;(cases hq:o' g with|none=>rfl|some l'=>rcases J.own g l' hq with hG|hG;(all_goals grind)));(let o2:OwnM:=λg=>match o g with|some l=>if isZ l.1 then some l else o' g|none=>o' g);(have φ:∀g l,o g=some l->isZ l.1->o2 g=some l:=λg l h hl=>by(show(match o g with|some l=>if isZ l.1 then some l else o' g|none=>o' g)=_);rw[h];simp only;grind);(have ζ:∀g l,o' g=some l->o2 g=some l:=by intro g l h;(show(match o g with|some l=>if isZ l.1 then some l else o' g|none=>o' g)=_);(cases hq:o g with|none=>exact h|some l'=>grind));(have Z:∀g l,o2 g=some l->(isZ l.1/\o g=some l)\/o' g=some l:=by intro g l h;(have h:(match o g with|some l=>if isZ l.1 then some l else o' g|none=>o' g)=some l:=h);(cases hq:o g with|none=>rw[hq]at h;grind|some l'=>grind));(have ψ:∀g l,o' g=some l->¬isZ l.1:=by rintro g ⟨s,k⟩ h hl;obtain⟨c,rfl⟩:∃c,s=OB+(OB+c):=⟨s-OB2,by rw[<-yK];have:=hl.1;show s=_;have W:OB2<=s:=this;omega⟩;have hs:=J.slots (OB+(OB+c));rw[ν,χ.z c (zOu.1 hl)]at hs;exact hs g k h);(have ι:∀s,OB<=s->∀g,o g=some (s,0)->o2 g=some (s,0):=by intro s hs g h;by_cases hl:isZ s;grind;exact ζ g _ (J.pinned s (.inr hs) g (zDK.2 ⟨hl,h⟩)));have U:∀g l,o g=some l->isZ l.1->m' g=m g/\w'.heap[g]? =w.heap[g]? :=λg l h hl=>⟨J.old g (ε g l h) λhn=>hn (θ g l h hl),J.same.block g (ε g l h) λhn=>hn (θ g l h hl)⟩;(have δ:∀g j,o g=some (OB+j,0)->zBc w w' g:=by intro g j h;by_cases hl:isZ (OB+j);exact .of_eq (U g _ h hl).2;exact(J.shps g j (zDK.2 ⟨hl,h⟩)).2);let S2:Nat->A:=λt=>if isZ t then san (z ((t-OB2)/64))else S' t;have K1:Keep (λl=>isZ l.1) m' w' o' m' w' o2:=⟨Mle.refl _,λ_ _ _ _=>rfl,λ_ _ _ _=>rfl,λg l h _=>ζ g l h,λg j h=>ζ g _ h,λg s k hn h=>by rcases Z g _ h with⟨hl,_⟩|h;grind;exact⟨g,k,h⟩,λg j _=> .refl _ _⟩;have β:∀b l,b<OB->S' b= .box l->∃l,S2 b= .box l:=λb l hb h=>⟨l,by show(if isZ b then _ else S' b)=_;rw[if_neg (zRC (by unfold OB OB2 at*;omega))];exact h⟩;refine⟨u,m',o2,S2,a',ρ,he,⟨J.same.weaken λg h e=>h ?_,J.sat,J.mono,λb hb hn=>J.old b hb λh=>h ?_,λg l h=> ?_,λg l h=> ?_,λg g' l h h'=> ?_,λs hs g hg=> ?_,λs=> ?_,J.defers,J.tbl,J.wide,λg j h=>⟨.inr ?_,δ g j h⟩⟩,?_,λi x h=>by simp at h,λc=> ?_,hρ⟩;(show dzO o g=none;unfold dzO;rw[e]);((have hn:o b=none:=by grind);show dzO o b=none;unfold dzO;rw[hn]);(rcases Z g l h with⟨_,h⟩|h;grind;(rcases J.own g l h with hG|hG;(refine .inl λe=>hG ?_;show dzO o g=none;unfold dzO;rw[e]);grind));(rcases Z g l h with⟨_,h⟩|h;grind;exact J.lt g l h);(rcases Z g l h with⟨hl,h⟩|h<;>rcases Z g' l h' with⟨ω,h'⟩|h';grind;grind;grind;exact J.inj g g' l h h');(rcases hs with hs|hs;simp[zGn]at hs;grind);(by_cases hl:isZ s;(obtain⟨c,rfl⟩:∃c,s=OB+(OB+c):=⟨s-OB2,by rw[<-yK];have:=hl.1;omega⟩;(have e2:S2 (OB+(OB+c))=san (z (c/64)):=by show(if isZ (OB+(OB+c))then _ else _)=_;rw[if_pos hl,<-yK,wP]);have hs:=γ (OB+(OB+c));(have e3:argH args [] (hz f z) (OB+(OB+c))=san (z (c/64)):=by unfold argH;rw[if_neg (by omega),<-yK,if_pos (vD _ _),wP];unfold hz;rw[if_pos (zOu.1 hl)]);rw[e3]at hs;rw[e2];have K2:Keep (λl=>¬isZ l.1) m w o m' w' o2:=⟨J.mono,λg l h hn=>(U g l h (by simpa using hn)).1,λg l h hn=>(U g l h (by simpa using hn)).2,λg l h hn=>φ g l h (by simpa using hn),λg j h=>ι _ (vD _ _) g h,λg s k hn h=>by rcases Z g _ h with⟨_,h⟩|h;grind;exact absurd (by simpa using hn) (ψ g _ h),δ⟩;(have σ:∀b off,san (z (c/64))≠ .ref b off:=λb off e=>by cases hq:z (c/64)<;>rw[hq]at e<;>cases e);have W:=RepA.keep (S':=S2) K2 (λj=>by simpa using hl) (λb off e _=>absurd e (σ b off)) hs;rcases zEu (z (c/64))with⟨l,hq⟩|hq|hq|⟨l,hq⟩|⟨b,u,mE,oE,hq⟩;(rw[hq]at W⊢;obtain⟨g,_,ξ⟩:=W;exact⟨g,λh=>absurd h (by omega),ξ⟩);rw[hq]at W⊢;exact W;rw[hq];trivial;rw[hq]at W⊢;exact W;rw[hq]at W⊢;exact W);((have e2:S2 s=S' s:=by show(if isZ s then _ else _)=_;rw[if_neg hl]);rw[e2];exact RepA.keep K1 (λ_=>hl) (λb off _ hb=>⟨zRC (by unfold OB OB2 at*;omega),λ⟨l,hl⟩=>β b l hb hl⟩) (J.slots s)));(by_cases hl:isZ (OB+j);exact hl.1;(exact((J.shps g j (zDK.2 ⟨hl,h⟩)).1).resolve_left λh=>by simp[zGn]at h));exact RepA.keep K1 (λ_=>zRC (by unfold OB OB2 at*;omega)) (λb off _ hb=>⟨zRC (by unfold OB OB2 at*;omega),λ⟨l,hl⟩=>β b l hb hl⟩) hr;(show(if isZ (OB+(OB+c))then _ else _)=_;by_cases hl:isZ (OB+(OB+c));(rw[if_pos hl,<-yK,wP];unfold hz;rw[if_pos (zOu.1 hl)]);(rw[if_neg hl,ν];unfold hz;rw[if_neg λe=>hl (zOu.2 e)]))
def rs(pins:List Nat)(o:OwnM):OwnM:=λg=>match o g with
 |some l=>if OB<=l.1/\l.1<OB2/\l.1∉pins then none else some l
 |none=>none
theorem zON{g:Nat}{l:Nat×Nat}:rs pins o g=some l↔(OB<=l.1->l.1<OB2->l.1∈pins)/\o g=some l:=by unfold rs;grind
section
variable {w0:World}{m0:Mem}{o0:OwnM}{G:GD}{pins:List Nat}{S:Nat->A}{a:Act}{w:World}{m:Mem}{o:OwnM}
theorem Inv.base(I:Inv w0 m0 o0 G pins S a w m o):Inv w m (rs pins o) ⟨λg=>o g≠none,G.ds⟩ pins S a w m o:=
 ⟨.refl _ _,I.sat,.refl _,λ_ _ _=>rfl,λg l h=> .inl (by show o g≠none;rw[h];simp),I.lt,I.inj,λs hs g h=>(zON.1 h).2,I.slots,I.defers,I.tbl.trans I.mono,I.wide,λg j h=>by obtain⟨u,J⟩:=zON.1 h;refine⟨?_,.refl _ _⟩;rcases wY (OB+j) OB2 with h3|h3;exact .inl (u (vD _ _) h3);exact .inr h3⟩
theorem Inv.comp(I:Inv w0 m0 o0 G pins S a w m o){Z:GD}(hG:∀g,Z.p g->o g≠none){S':Nat->A}{a':Act}{w':World}{m':Mem}{o':OwnM}(J:Inv w m (rs pins o) Z pins S' a' w' m' o'):Inv w0 m0 o0 ⟨G.p,Z.ds⟩ pins S' a' w' m' o':=by(have U:∀g,o g≠none->G.p g\/w0.heap.size<=g:=λg h=>by(cases hq:o g with|none=>grind|some l=>exact I.own g l hq));(have u:∀s,(s∈pins\/OB<=s)->∀g,o0 g=some (s,0)->rs pins o g=some (s,0):=by intro s hs g h;refine zON.2 ⟨λh1 W=> ?_,I.pinned s hs g h⟩;have h1:OB<=s:=h1;have W:s<OB2:=W;obtain⟨j,rfl⟩:∃j,s=OB+j:=⟨s-OB,by omega⟩;(exact((I.shps g j h).1).resolve_right λh=>by omega));refine⟨I.same.trans (J.same.weaken λg h=>U g (hG g h)),J.sat,I.mono.trans J.mono,λb hb hn=> ?_,λg l h=> ?_,J.lt,J.inj,λs hs g h=>J.pinned s hs g (u s hs g h),J.slots,J.defers,I.tbl,J.wide,λg j h=>⟨(I.shps g j h).1,(I.shps g j h).2.trans (J.shps g j (u _ (.inr (vD _ _)) g h)).2⟩⟩;(rw[J.old b (wO hb I.same.size) λh=>(U b (hG b h)).elim hn λh=>by omega];exact I.old b hb hn);(rcases J.own g l h with h|h;grind;exact .inr (uW I.same.size h))
theorem Inv.defs(I:Inv w0 m0 o0 G pins S a w m o)(ds:List Deferred):Inv w0 m0 o0 ⟨G.p,ds⟩ pins S {a with defers:=ds} w m o:=
 ⟨I.same,I.sat,I.mono,I.old,I.own,I.lt,I.inj,I.pinned,I.slots,rfl,I.tbl,I.wide,I.shps⟩
theorem Inv.at(I:Inv w0 m0 o0 G pins S a w m o){l:Nat}(hl:o l=none)(U:∀p,m l p=none)(u:Obj):Inv (w.putObj l u) m (rs pins o) ⟨λg=>o g≠none,G.ds⟩ pins S a (w.putObj l u) m o:=by(have J:∀g k,o g=some k->g≠l:=λg k h e=>by subst e;rw[hl]at h;cases h);have hh:∀g k,o g=some k->(w.putObj l u).heap[g]? =w.heap[g]? :=λg k h=>vC (J g k h);have K:Keep (λ_=>False) m w o m (w.putObj l u) o:=⟨.refl _,λ_ _ _ _=>rfl,λg k h _=>hh g k h,λ_ _ h _=>h,λ_ _ h=>h,λg _ k _ h=>⟨g,k,h⟩,λg j h=> .of_eq (hh g _ h)⟩;have B:=I.base;refine⟨.refl _ _,λb p v h=> ?_,.refl _,λ_ _ _=>rfl,λg k h=> .inl (by show o g≠none;rw[h];simp),λg k h=>by rw[tD];exact I.lt g k h,I.inj,B.pinned,λs=>RepA.keep K (λ_=>id) (λ_ _ _ _=>⟨id,id⟩) (I.slots s),I.defers,B.tbl,I.wide,λg j h=>⟨(B.shps g j h).1,.refl _ _⟩⟩;(have hb:b≠l:=λe=>by subst e;rw[U]at h;cases h);have:=I.sat b p v h;unfold World.cell? at this⊢;rw[vC hb];grind
end
structure VW(bs:List Nat)(o1 o2:OwnM):Prop where
 hh:∀g c k,c %64≠63->(o1 g=some (OB+(OB+c),k)↔o2 g=some (OB+(OB+c),k))
 hb:∀(i b g k:Nat),bs[i]? =some b->(o1 g=some (b,k)↔o2 g=some (OB+(OB+cd 63 (i+1)),k))
def toY(bs:List Nat)(l:Nat)(o:OwnM):OwnM:=λg=>if g=l then some (OB+(OB+cd 63 0),0)else match o g with
 |some (s,k)=>if OB2<=s then some (s,k)else(posN bs s).map λi=>(OB+(OB+cd 63 (i+1)),k)
 |none=>none
def ofY(bs:List Nat)(o:OwnM):OwnM:=λg=>match o g with
 |some (s,k)=>if OB2<=s then(if(s-OB2) %64=63 then(if(s-OB2)/64=0 then none else(bs[(s-OB2)/64-1]?).map λb=>(b,k))else some (s,k))else none
 |none=>none
theorem zKt{bs:List Nat}{l:Nat}(I:∀b∈bs,b<OB)(hl:o l=none){g:Nat}{q:Nat×Nat}:toY bs l o g=some q↔(g=l/\q=(OB+(OB+cd 63 0),0))\/(OB2<=q.1/\o g=some q)\/∃i b,posN bs b=some i/\q.1=OB+(OB+cd 63 (i+1))/\o g=some (b,q.2):=by unfold toY;constructor;(intro h;split at h;grind;(split at h;(rename_i s k J;split at h;grind;(cases hp:posN bs s with|none=>grind|some i=>grind));cases h));(rintro(⟨rfl,rfl⟩|⟨h1,u⟩|⟨i,b,h1,u,h3⟩);grind;grind;(obtain⟨s,k⟩:=q;have u:s=_:=u;subst u;rw[if_neg (λe=>by subst e;rw[hl]at h3;cases h3),h3];have hb:=I b (wC (zCS h1));simp only;rw[if_neg (by unfold OB OB2 at*;omega),h1];rfl))
theorem zEE(i:Nat):cd 63 i %64=63:=zRj (by decide)
theorem c63_div(i:Nat):cd 63 i/64=i:=cd_div (by decide)
theorem zDI{bs:List Nat}{g:Nat}{q:Nat×Nat}:ofY bs o g=some q↔(∃c,c %64≠63/\q.1=OB+(OB+c)/\o g=some q)\/∃i,bs[i]? =some q.1/\o g=some (OB+(OB+cd 63 (i+1)),q.2):=by unfold ofY;constructor;(intro h;split at h;(rename_i s k J;split at h;(rename_i u;obtain⟨c,rfl⟩:∃c,s=OB2+c:=⟨s-OB2,by omega⟩;rw[wP]at h;split at h;(rename_i I;split at h;cases h;(rename_i U;(cases hb:bs[c/64-1]? with|none=>grind|some b=>rw[hb]at h;cases h;refine .inr ⟨c/64-1,hb,?_⟩;rw[J,yK];(have:c=cd 63 (c/64-1+1):=by unfold cd;omega);grind)));(cases h;exact .inl ⟨c,by assumption,yK c,J⟩));cases h);cases h);(rintro(⟨c,u,I,U⟩|⟨i,u,I⟩);(obtain⟨s,k⟩:=q;have I:s=_:=I;subst I;rw[U];simp only;rw[<-yK,if_pos (vD _ _),wP,if_neg u]);(obtain⟨b,k⟩:=q;rw[I];simp only;have u:bs[i]? =some b:=u;rw[<-yK,if_pos (vD _ _),wP,if_pos (zEE _),c63_div,if_neg (by omega),Nat.add_sub_cancel,u];rfl))
theorem VW.toY{bs:List Nat}{l:Nat}(hn:bs.Nodup)(u:∀b∈bs,b<OB)(hl:o l=none)(hz:∀g c k,c %64=63->o g≠some (OB+(OB+c),k)):VW bs o (toY bs l o):=by refine⟨λg c k J=> ?_,λi b g k U=> ?_⟩;(rw[zKt u hl];constructor;exactλh=> .inr (.inl ⟨by rw[<-yK];exact vD _ _,h⟩);(rintro(⟨_,h⟩|⟨_,h⟩|⟨i,b,_,h,_⟩);(injection h with h _;(have:c=cd 63 0:=by omega);exact absurd (by rw[this];exact zEE 0) J);exact h;(have h:OB+(OB+c)=OB+(OB+cd 63 (i+1)):=h;(have:c=cd 63 (i+1):=by omega);exact absurd (by rw[this];exact zEE _) J)));(rw[zKt u hl];constructor;exactλh=> .inr (.inr ⟨i,b,zDn hn U,rfl,h⟩);(rintro(⟨_,h⟩|⟨_,h⟩|⟨i',b',h1,h,h2⟩);(injection h with h _;(have:cd 63 (i+1)=cd 63 0:=by omega);unfold cd at this;omega);exact absurd h (hz g _ k (zEE _));(have h:OB+(OB+cd 63 (i+1))=OB+(OB+cd 63 (i'+1)):=h;(have:i=i':=by unfold cd at h;omega);subst this;have I:=zCS h1;rw[U]at I;injection I with I;rw[I];exact h2)))
theorem VW.ofY{bs:List Nat}(hn:bs.Nodup)(u:∀b∈bs,b<OB):VW bs (ofY bs o) o:=by refine⟨λg c k Z=> ?_,λi b g k J=> ?_⟩;(rw[zDI];constructor;(rintro(⟨_,_,_,h⟩|⟨i,I,_⟩);exact h;(have:=u _ (wC I);have:OB+(OB+c)<OB:=this;omega));exactλh=> .inl ⟨c,Z,rfl,h⟩);(rw[zDI];have hb:=u b (wC J);constructor;(rintro(⟨c,_,h,_⟩|⟨i',I,h2⟩);(have h:b=OB+(OB+c):=h;omega);(have I:bs[i']? =some b:=I;have U:=zDn hn J;rw[zDn hn I]at U;cases U;exact h2));exactλh=> .inr ⟨i,J,h⟩)
section
variable {m:Mem}{w:World}{o o':OwnM}
theorem nz_rep(hh:∀g c,c %64≠63->o g=some (OB+(OB+c),0)->o' g=some (OB+(OB+c),0)){loc loc':Nat×Nat}(ho:∀g,o g=some loc->o' g=some loc'){x:T}(hx:nzT x=true)(hb:∀i,x= .mpt i->OB<=i)(h:RepT m w o loc x v):RepT m w o' loc' x v:=by(cases x with|d x=>exact h|agg l=>exact h|own E k l=>obtain⟨W,cap,xs,e,I,u,J,U⟩:=h;exact⟨W,cap,xs,e,I,λg Z=>⟨ho g (u g Z).1,(u g Z).2⟩,J,U⟩|ags l1 α=>exact zH3.own ho h|xs E k l rv=>obtain⟨W,cap,xs,e,I,u,J,U⟩:=h;exact⟨W,cap,xs,e,I,λg Z=>⟨ho g (u g Z).1,(u g Z).2⟩,J,U⟩|any=>exact h|ptr i off=>cases hx|view i off E k n=>cases hx|hpt i off=>(have hx:i %64≠63:=by simpa[nzT]using hx);obtain⟨g,I,u⟩:=h;exact⟨g,hh g i hx I,u⟩|opt t p=>(have hx:t %64≠63:=by simpa[nzT]using hx);exact h.imp id λ⟨i,e,g,I,u⟩=>⟨i,e,g,hh g _ (by unfold cd;omega) I,u⟩|mpt i=>obtain⟨g,I,u⟩:=h;have J:=hb i rfl;obtain⟨c,rfl⟩:∃c,i=OB+c:=⟨i-OB,by omega⟩;refine⟨g,hh g c (λe=> ?_) I,u⟩;have hx:(!(Nat.ble OB (OB+c)&&(OB+c-OB) %64==63))=true:=hx;rw[wP,e,Nat.ble_eq_true_of_le J]at hx;cases hx|hvw i off E k n=>(have hx:i %64≠63:=by simpa[nzT]using hx);obtain⟨W,q,I,u,J,U⟩:=h;exact⟨W,q,I,u,J,U.imp id λ⟨g,cs,E1,k1,k2⟩=>⟨g,cs,E1,hh g i hx k1,k2⟩⟩)
def nzC(l:List T):Prop:=∀x∈l,nzT x=true/\∀i,x= .mpt i->OB<=i
theorem zPV(hh:∀g c,c %64≠63->o g=some (OB+(OB+c),0)->o' g=some (OB+(OB+c),0)){s s':Nat}(I:∀g k,o g=some (s,k)->o' g=some (s',k)){l:List T}(hl:nzC l){g:Nat}(h:zQm m w o s l g):zQm m w o' s' l g:=by obtain⟨h1,U,W,E,h3,Z,h5⟩:=h;refine⟨I g 0 h1,U,W,E,h3,Z,λj x J=> ?_⟩;obtain⟨a,u,b,c⟩:=h5 j x J;obtain⟨k1,k2⟩:=hl x (wC J);exact⟨a,u,b,nz_rep hh (λg=>I g _) k1 k2 c⟩
end
end Go.Proofs.YtocolhfjpadaoaaGreatDoor
