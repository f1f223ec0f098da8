/-
  Lemmas of this claim, joined.
-/
import Derived.Test.YtocolhfjpadaoaaGreatDoorR08
import Derived.ChangeKeysEq
import Derived.Lib.SlKeysI
import Derived.Shelf.SlIterI.Nil
import Derived.Shelf.SlIterI.Sorted
import Derived.Shelf.SortM.Plain
import Derived.Shelf.SortM.SortNone
import Derived.Shelf.Strings.Builder1
import Derived.Shelf.Strings.Builder2
import Derived.Shelf.Strings.OnBuilder
import Derived.Shelf.Small.Bits
import Derived.Shelf.Strconv.Itoa0
import Derived.Shelf.Strconv.Itoa1
import Derived.Shelf.LaysM
import Derived.Shelf.Strconv.Itoa2
import Derived.Shelf.Strconv.Itoa3
import Derived.Shelf.Slices.SearchI
set_option linter.unusedVariables false
set_option linter.unusedSimpArgs false
set_option linter.constructorNameAsVariable false
namespace Go.Proofs.YtocolhfjpadaoaaGreatDoor
open Go
abbrev tJ:=@List.pairwise_cons
end Go.Proofs.YtocolhfjpadaoaaGreatDoor
namespace Go.Proofs.YtocolhfjpadaoaaGreatDoor
open Go Go.RowKit
variable {P:Program}{w0:World}{w:World}{m0:Mem}{m:Mem}{o0:OwnM}{o:OwnM}{G:GD}{pins:List Nat}{N:Nat}{a:Act}{op:Oper}{S:Nat->A}{M:Nat->A}{L:SL}{v:Value}{W:World}{Q:Mem}{X:OwnM}
section
variable {P:Program}
def zvOf(P:Program)(u:Nat):Option Value:=(P.info? u).bind (·.zero)
theorem zQc{u:Nat}{z:Value}(h:zvOf P u=some z):∃i,P.info? u=some i/\i.zero=some z:=by unfold zvOf at h;(cases I:P.info? u with|none=>grind|some i=>grind)
section
variable {κ ν:Type}[BEq κ]{kv:κ->Value}{kT:κ->T}{vT:ν->T}
def mlk(j:Nat)(l:List (κ×ν))(k:κ){kt:Nat}(K:KeyT P kt kv kT){z:ν}{Z:Value}(hz:∀m,RepE m (vT z) Z):yM P where
 hk:=[OB+j]
 pr pins N M op:=match op.dst,op.op with
  |some d,.lookup t x y b=>match cpO M x,P.underlying t with
   | .t (.mpt W),some (.map u et)=>match zvOf P et with
    |some I=>some ([bp (okD N pins M d),⟨W,j⟩,⟨M (OB+j),mpT kT vT l⟩,⟨vK M y,some (kv k)⟩,⟨u,kt⟩,⟨I,Z⟩],[(d,bif b then .tup [vT ((zCG l k).getD z),.d (.lit (.bool (zCG l k).isSome))]else .t (vT ((zCG l k).getD z)))])
    |none=>none
   |_,_=>none
  |_,_=>none
 ok pins N S M op c0 e hM hd h hc:=by
  split at h
  ·
   rename_i d t x y b U h2
   split at h
   ·
    rename_i W u et h3 h4
    split at h
    ·
     rename_i I h5
     cases h
     obtain⟨q1,rfl,q3,q4,rfl,rfl,_⟩:=hc
     obtain⟨i,hi,J⟩:=zQc h5
     cases b with
     |true=>exact h_mlk2T hM h2 h3 q3 q4 h4 K hi J hz U (zB0 q1 (hd d U))
     |false=>exact h_mlkT hM h2 h3 q3 q4 h4 K hi J hz rfl U (zB0 q1 (hd d U))
    · cases h
   · cases h
  · cases h
def mlkH{f:Nat->A}{c:Nat}{l:List (κ×ν)}(hf:f c=mpT kT vT l)(k:κ){kt:Nat}(K:KeyT P kt kv kT){z:ν}{W:Value}(hz:∀m,RepE m (vT z) W):yM P where
 hk:=[HK]
 pr pins N M op:=match op.dst,op.op with
  |some d,.lookup t x y b=>match cpO M x,P.underlying t with
   | .t (.mpt j'),some (.map u et)=>match zvOf P et with
    |some I=>some ([bp (okD N pins M d),⟨j',OB+c⟩,⟨M HK,.hp f⟩,⟨vK M y,some (kv k)⟩,⟨u,kt⟩,⟨I,W⟩],[(d,bif b then .tup [vT ((zCG l k).getD z),.d (.lit (.bool (zCG l k).isSome))]else .t (vT ((zCG l k).getD z)))])
    |none=>none
   |_,_=>none
  |_,_=>none
 ok pins N S M op c0 e hM hd h hc:=by
  split at h
  ·
   rename_i d t x y b U h2
   split at h
   ·
    rename_i j' u et h3 h4
    split at h
    ·
     rename_i I h5
     cases h
     obtain⟨q1,rfl,Z,q4,rfl,rfl,_⟩:=hc
     obtain⟨i,hi,J⟩:=zQc h5
     have Z:S HK= .hp f:=hM.get Z (by simp)
     cases b with
     |true=>exact h_mlk2HT hM Z h2 h3 hf q4 h4 K hi J hz U (zB0 q1 (hd d U))
     |false=>exact h_mlkHT hM Z h2 h3 hf q4 h4 K hi J hz rfl U (zB0 q1 (hd d U))
    · cases h
   · cases h
  · cases h
def mup(j:Nat)(l:List (κ×ν))(k:κ)(v:ν){kt:Nat}(K:KeyT P kt kv kT):yM P where
 hk:=[OB+j]
 pr pins N M op:=match op.dst,op.op with
  |none,.mapUpdate t x y z=>match cpO M x,P.underlying t with| .t (.mpt I),some (.map u _)=>some ([⟨I,j⟩,⟨M (OB+j),mpT kT vT l⟩,⟨vK M y,some (kv k)⟩,⟨u,kt⟩,⟨tK M z,some (vT v)⟩,bp (Nat.blt (j+1) OB)],[(OB+j,mpT kT vT (mset l k v))])|_,_=>none
  |_,_=>none
 ok pins N S M op c0 e hM hd h hc:=by split at h;(rename_i t x y z W U;split at h;(rename_i I u et h3 Z;cases h;obtain⟨rfl,q2,q3,rfl,q5,J,_⟩:=hc;exact h_mupT hM U h3 q2 q3 q5 Z K W J);cases h);cases h
def mupH{f f':Nat->A}{c:Nat}{l:List (κ×ν)}(hf:f c=mpT kT vT l)(k:κ)(v:ν){kt:Nat}(K:KeyT P kt kv kT)(I:f'=updF f c (mpT kT vT (mset l k v))):yM P where
 hk:=[HK]
 pr pins N M op:=match op.dst,op.op with
  |none,.mapUpdate t x y z=>match cpO M x,P.underlying t with| .t (.mpt J),some (.map u _)=>some ([⟨J,OB+c⟩,⟨M HK,.hp f⟩,⟨vK M y,some (kv k)⟩,⟨u,kt⟩,⟨tK M z,some (vT v)⟩],[(HK,.hp f')])|_,_=>none
  |_,_=>none
 ok pins N S M op c0 e hM hd h hc:=by split at h;(rename_i t x y z W U;split at h;(rename_i J u et h3 Z;cases h;obtain⟨rfl,q2,q3,rfl,q5,_⟩:=hc;exact h_mupHT hM (hM.get q2 (by simp)) U h3 hf q3 q5 Z K W I);cases h);cases h
end
def mkm(j:Nat):yM P where
 hk:=[OB+j]
 pr pins N M op:=match op.dst,op.op with
  |some d,.makeMap t none=>some ([bp (okD N pins M d),bp (Nat.blt (j+1) OB),⟨M (OB+j),.free⟩],[(OB+j,.mp []),(d,.t (.mpt j))])
  |_,_=>none
 ok pins N S M op c0 e hM hd h hc:=by split at h;(rename_i d t u I;cases h;obtain⟨J,Z,U,_⟩:=hc;exact h_mkm hM I u (zB0 J (hd d u)) Z U rfl);cases h
def mkmH{f f':Nat->A}{c:Nat}(hf:f c= .free)(u:f'=updF f c (.mp [])):yM P where
 hk:=[HK]
 pr pins N M op:=match op.dst,op.op with
  |some d,.makeMap t none=>some ([bp (okD N pins M d),⟨M HK,.hp f⟩],[(HK,.hp f'),(d,.t (.mpt (OB+c)))])
  |_,_=>none
 ok pins N S M op c0 e hM hd h hc:=by split at h;(rename_i d t I J;cases h;obtain⟨U,Z,_⟩:=hc;exact h_mkmH (hM.get Z (by simp)) J I (zB0 U (hd d I)) hf u);cases h
def apz(s:Nat){Z q:Nat}{n:Int}{l0:List (List D)}{e0:Nat}{z0:Value}{x:A}(hq:apzI Z l0.length n=some q)(hx:A.t (.own e0 1 (l0++List.replicate q [.lit z0]))=x):yM P where
 hk:=[s]
 pr pins N M op:=match op.dst,op.op with
  |some d,.call {callee:= .builtin .append,args:=⟨[.tmp J,y]⟩,argTypes:=⟨[t,tn]⟩}=>match M s,zerF P t tn,vO M y with| .t (.own e 1 l),some (e',u,z),some (.int _ U)=>some ([bp (okD N pins M d),⟨J,s⟩,⟨e',e⟩,⟨u,Z⟩,⟨U,n⟩,⟨l,l0⟩,⟨s==d,false⟩,⟨pins.contains s,false⟩,bp (Nat.blt e OFB),⟨e,e0⟩,⟨z,z0⟩],[(s,.t (.d (.seq 1 l))),(d,x)])|_,_,_=>none
  |_,_=>none
 ok pins N S M op c0 e hM hd h hc:=by split at h;(rename_i d J y t tn W h2;split at h;(rename_i α l e' u z ki U h3 h4 h5;cases h;obtain⟨q1,rfl,rfl,rfl,rfl,rfl,q7,q8,q9,rfl,rfl,_⟩:=hc;subst hx;have I:=zB0 q1 (hd d W);exact .of (e:=[(J,_),(d,_)]) λhN=>⟨ok_apz hM.hx h2 W (qR hN I) h4 h5 h3 q7 q8 hq q9,eff_2 (zPk hM h3 rfl) rfl (qG hN I)⟩);cases h);cases h
def ldS{f:Nat->A}{c:Nat}{l:List T}(hf:f c= .box l):yM P where
 hk:=[HK]
 pr pins N M op:=match op.dst,op.op with
  |some d,.load t x=>match cpO M x,tyA P t with| .t (.hpt u off),some (true,n)=>some ([bp (okD N pins M d),⟨M HK,.hp f⟩,⟨u,c⟩,bp (Nat.beq ((l.drop off).take n).length n),bp (noPt ((l.drop off).take n))],[(d,.t (.agg (((l.drop off).take n).map toD)))])|_,_=>none
  |_,_=>none
 ok pins N S M op c0 e hM hd h hc:=by split at h;(rename_i d t x I U;split at h;(rename_i u off n h3 Z;cases h;obtain⟨W,q2,rfl,J,q5,_⟩:=hc;exact h_lr hM (hM.get q2 (by simp)) U Z h3 hf rfl (wV J) q5 rfl I (zB0 W (hd d I)));cases h);cases h
def mkh{f f':Nat->A}{c Z q:Nat}{n:Int}{c0:List T}{l:List T}(hq:mkI Z n=some q)(hl:fl (λ_=>c0) (List.replicate q ())=l)(hf:f c= .free)(I:f'=updF f c (.box l)):yM P where
 hk:=[HK]
 pr pins N M op:=match op.dst,op.op with
  |some d,.makeSlice t U xc=>match vO M U,vO M xc,P.underlying t with
   |some (.int _ n1),some (.int _ n2),some (.slice e)=>match P.info? e with
    |some u=>match u.zero with
     |some z=>match zGs (litA z)with
      |some J=>some ([bp (okD N pins M d),⟨M HK,.hp f⟩,⟨n1,n⟩,⟨n2,n⟩,⟨u.bytes,Z⟩,⟨J,c0⟩,⟨J.length,u.size⟩,bp (Nat.blt e OFB)],[(HK,.hp f'),(d,.t (.hvw c 0 e u.size q))])
      |none=>none
     |none=>none
    |none=>none
   |_,_,_=>none
  |_,_=>none
 ok pins N S M op c2 e hM hd h hc:=by
  split at h
  ·
   rename_i d t U xc W h2
   split at h
   ·
    rename_i kl n1 kc n2 e h3 h4 h5
    split at h
    ·
     rename_i u h6
     split at h
     ·
      rename_i z h7
      split at h
      ·
       rename_i J h8
       cases h
       obtain⟨q1,q2,rfl,rfl,rfl,rfl,q7,q8,_⟩:=hc
       exact h_mkh hM (hM.get q2 (by simp)) h2 h3 h4 h5 h6 h7 h8 q7 rfl hq hl W (zB0 q1 (hd d W)) hf I q8
      · cases h
     · cases h
    · cases h
   · cases h
  · cases h
def mkl(ex:Bool)(j:Nat){U q:Nat}{n:Int}{c0:List T}{l:List T}(hq:mkI U n=some q)(hl:fl (λ_=>c0) (List.replicate q ())=l):yM P where
 hk:=[OB+j]
 pr pins N M op:=match op.dst,op.op with
  |some d,.makeSlice t J W=>match vO M J,vO M W,P.underlying t with
   |some (.int _ n1),some (.int _ n2),some (.slice e)=>match P.info? e with
    |some u=>match u.zero with
     |some z=>match zGs (litA z)with
      |some I=>some ([bp (okD N pins M d),⟨M (OB+j),.free⟩,⟨n1,n⟩,⟨n2,n⟩,⟨u.bytes,U⟩,⟨I,c0⟩,⟨I.length,u.size⟩,bp (Nat.blt (j+1) OB),bp (Nat.blt e OFB)],[(OB+j,.box l),(d,.t (.view j 0 (bif ex then OFB+e else e) u.size q))])
      |none=>none
     |none=>none
    |none=>none
   |_,_,_=>none
  |_,_=>none
 ok pins N S M op c2 e hM hd h hc:=by
  split at h
  ·
   rename_i d t J W Z h2
   split at h
   ·
    rename_i kl n1 kc n2 e h3 h4 h5
    split at h
    ·
     rename_i u h6
     split at h
     ·
      rename_i z h7
      split at h
      ·
       rename_i I h8
       cases h
       obtain⟨q1,q2,rfl,rfl,rfl,rfl,q7,q8,q9,_⟩:=hc
       exact h_mkl hM h2 h3 h4 h5 h6 h7 h8 q7 rfl hq hl Z (zB0 q1 (hd d Z)) q8 q2 (by cases ex<;>first|exact .inl ⟨rfl,by simpa using q9⟩|exact .inr rfl)
      · cases h
     · cases h
    · cases h
   · cases h
  · cases h
def argPLo(σ:List Nat)(x y:A):PL:=match x,y with
 | .t (.view j off E k n),.t (.view i u I U J)=>[⟨σ[i]?,some j⟩,⟨off,u⟩,⟨k,U⟩,⟨n,J⟩,bp (Nat.beq E I||Nat.beq I 0)]
 | .t (.hvw c off E k n),.t (.hvw Z u I U J)=>[⟨T.hvw c off E k n,.hvw Z u I U J⟩]
 |x,y=>argPL x y
theorem argPLo_ok{σ:List Nat}{x y:A}(h:okL (argPLo σ x y)):ArgH σ x y:=by unfold argPLo at h;split at h;(obtain⟨u,I,U,J,h5,_⟩:=h;subst I U J;have h5:=h5;simp only[Bool.or_eq_true]at h5;rcases h5 with h5|h5;rw[wV h5];exact .view u;rw[wV h5];exact .view0 u);(have h:=h.1;rw[h];exact .hvw _ _ _ _ _);exact zTp h
def zSb(σ:List Nat):List A->List A->PL
 |[],[]=>[]
 |x::r,y::s=>argPLo σ x y++zSb σ r s
 |_,_=>[bp false]
theorem zPR{σ:List Nat}:∀{l l':List A},okL (zSb σ l l')->zKB σ l l'
 |[],[],_=> .nil
 |x::r,y::s,h=> .cons (argPLo_ok (zCc h).1) (zPR (zCc h).2)
 |[],y::s,h=>Bool.noConfusion h.1
 |x::r,[],h=>Bool.noConfusion h.1
def insPL(M:Nat->A):List Nat->List A->PL
 |[],[]=>[]
 |j::r,x::s=>⟨M (OB+j),x⟩::bp (!zSa x)::insPL M r s
 |_,_=>[bp false]
theorem zTM(u:Mk M S):∀{σ:List Nat} {ins:List A},okL (insPL M σ ins)->σ.map (λj=>S (OB+j))=ins
 |[],[],_=>rfl
 |j::r,x::s,⟨J,I,U⟩=>by simp only[vB,List.cons.injEq];exact⟨u.get J (zTl I),zTM u U⟩
 |[],y::s,h=>Bool.noConfusion h.1
 |x::r,[],h=>Bool.noConfusion h.1
def rsT(τ:List Nat):T->T
 | .view i off E k n=> .view (τ.getD i 0) off E k n
 |x=>x
def rsTok(τ:List Nat):T->Bool
 | .view i _ _ _ _=>Nat.blt i τ.length
 |x=>ptOK x
theorem rsT_r{τ:List Nat}{x:T}(h:rsTok τ x=true):PtR τ x (rsT τ x):=by unfold rsTok at h;unfold rsT;split at h;(rename_i i off E k n;(have h:i<τ.length:=by simpa using h);exact .view (by rw[wF h,wK,wF h];rfl));exact zTj h
def rsA(τ:List Nat):A->A
 | .t x=> .t (rsT τ x)
 | .tup l=> .tup (l.map (rsT τ))
 |x=>x
def rsAok(τ:List Nat):A->Bool
 | .t x=>rsTok τ x
 | .tup l=>l.all (rsTok τ)
 |x=>x.plain
theorem rsA_r{τ:List Nat}{x:A}(h:rsAok τ x=true):ResH τ x (rsA τ x):=by(have tup:∀{l:List T},l.all (rsTok τ)=true->PtRs τ l (l.map (rsT τ)):=by intro l;(induction l with|nil=>intro _;exact .nil|cons x r u=>intro h;simp only[uV,wI]at h;exact .cons (rsT_r h.1) (u h.2)));(cases x with|t x=>exact .t (rsT_r h)|tup l=>exact .tup (tup h)|_=>exact .plain h)
def cOR(σ fr:List Nat){fn:Nat}{args ins outs:List A}{f:Nat->A}{y:A}(hf:FCH P fn args ins outs f f y)[p:PuH f](b3:ins.all A.flatO=true)(b4:outs.all A.flatO=true):yM P where
 hk:=HK::(σ++fr).map (OB+·)
 pr pins N M op:=match op.dst,op.op with
  |some d,.call {callee:= .value fx,args:=⟨xs⟩,argTypes:=_}=>some (bp (fnOK P fn)::bp (okD N pins M d)::bp (Nat.ble args.length OB)::⟨vO M fx,some (.func (.func fn) #[] #[])⟩::bp (zSB M σ fr outs)::bp (rsAok (σ++fr) y)::⟨M HK,.hp f⟩::(insPL M σ ins++zSb σ (xs.map (cpO M)) args),zD7 (σ++fr) outs++[(d,rsA (σ++fr) y)])
  |_,_=>none
 ok pins N S M op c e hM hd h hc:=by split at h;(rename_i d fx xs ts I h2;cases h;obtain⟨q1,q2,q3,Z,q5,W,q7,u⟩:=hc;obtain⟨F,f1,J,f3⟩:=zLP q1;obtain⟨u,U⟩:=zCc u;exact zQL hM (hM.get q7 (by simp)) h2 Z I (zB0 q2 (hd d I)) f1 J f3 hf p.h q5 b3 b4 (zTM hM u) (zPR U) q3 (rsA_r W));cases h
def lldA{bx:A}{off:Nat}{l:List T}{z:T}(hb:bx= .box l)(hl:l[off]? =some z):yM P where
 hk:=[]
 pr pins N M op:=match op.dst,op.op with
  |some d,.load t x=>match cpO M x,tyA P t with| .ref b u,some (false,_)=>some ([bp (okD N pins M d),⟨M b,bx⟩,⟨u,off⟩],[(d,norA z)])|_,_=>none
  |_,_=>none
 ok pins N S M op c0 e hM hd h hc:=by split at h;(rename_i d t x J U;split at h;(rename_i b u n h3 Z;cases h;obtain⟨W,I,rfl,_⟩:=hc;have I:M b=bx:=I;exact h_lld hM U Z h3 (I.trans hb) hl rfl J (zB0 W (hd d J)));cases h);cases h
def lstA{bx I:A}{off n:Nat}{l l' q:List T}(hb:bx= .box l)(γ:off+n<=l.length)(α:qZ l off q=l')(β:I= .box l')(b:Nat):yM P where
 hk:=[b]
 pr pins N M op:=match op.dst,op.op with
  |none,.store t x y=>match cpO M x,P.info? t,zDS (cpO M y)with| .ref U u,some i,some q'=>some ([⟨U,b⟩,⟨M b,bx⟩,⟨u,off⟩,⟨i.size,n⟩,⟨q',q⟩,bp (Nat.beq q.length n)],[(b,I)])|_,_,_=>none
  |_,_=>none
 ok pins N S M op c0 e hM hd h hc:=by split at h;(rename_i t x y h1 h2;split at h;(rename_i U u i q' h3 h4 h5;cases h;obtain⟨J,Z,q2,W,q4,q5,_⟩:=hc;have J:U=b:=J;have Z:M b=bx:=Z;have q2:u=off:=q2;have W:i.size=n:=W;have q4:q'=q:=q4;subst J q2 W q4;rw[β];exact h_lst hM h2 h1 h4 h3 (Z.trans hb) h5 (wV q5) γ α);cases h);cases h
abbrev Ob:=(Nat×{x:A // ∀j,zCl j x=false})
def obPL(os:List Ob)(L:SL):PL:=bp (L.all λp=>Nat.blt p.1 OB||os.any λo=>Nat.beq o.1 p.1)::os.map λo=>⟨gt L o.1,o.2.1⟩
theorem okL_mem:∀{l:PL} {p:Pr},okL l->p∈l->p.x=p.y
 |_::_,_,h,.head _=>h.1
 |_::_,_,h,.tail _ u=>okL_mem h.2 u
theorem gt_any:∀{L:SL} {t:Nat},(∀p∈L,p.1≠t)->gt L t= .any
 |[],_,_=>rfl
 |(s,x)::r,t,h=>by rw[zR];unfold upd;rw[if_neg (λe=>h (s,x) (by simp) e.symm)];exact gt_any λp hp=>h p (by simp[hp])
theorem zMg{os:List Ob}(h:okL (obPL os L)):ObP L:=λt ht j=>by obtain⟨Z,U⟩:=h;by_cases hp:∃p∈L,p.1=t;(obtain⟨p,hp,e⟩:=hp;have:=wG.1 Z p hp;rw[e]at this;(have hb:Nat.blt t OB=false:=by(cases hb:Nat.blt t OB with|false=>rfl|true=>(have:t<OB:=by simpa using hb);omega));rw[hb,Bool.false_or]at this;obtain⟨o,J,I⟩:=sO.1 this;have I:o.1=t:=wV I;have:=okL_mem U (List.mem_map_of_mem (f:=λo:Ob=>(⟨gt L o.1,o.2.1⟩:Pr)) J);have this:gt L o.1=o.2.1:=this;rw[<-I,this];exact o.2.2 j);(rw[gt_any λp u e=>hp ⟨p,u,e⟩];rfl)
def frzC(pins:List Nat)(d j k:Nat)(L:SL):Bool:=Nat.blt d OB&&Nat.blt (j+1) OB&& !pins.contains (OB+j)&& !pins.contains d&&Nat.blt 0 k&&zIQ j d L
section
variable {α:Type}{c:α->List D}
def frzG(d j:Nat){y:List α}{k:Nat}(I:∀a,(c a).length=k){f:Nat->A}[p:PuH f](os:List Ob):zJd P where
 pr pins N L:=match gt L d with
  | .t (.view u 0 _ J n)=>some (⟨u,j⟩::⟨J,k⟩::⟨n,y.length⟩::⟨gt L (OB+j),gbA c y⟩::bp (frzC pins d j k L)::⟨gt L HK,.hp f⟩::obPL os L,(d,.t (.d (.seq k (y.map c))))::(OB+j,.free)::zB3 j d L)
  |_=>none
 ok pins N L c0 L' h hc W Q X G a w hS:=by split at h;(rename_i u E J n h1;cases h;obtain⟨rfl,rfl,rfl,Z,q5,U,q7⟩:=hc;exact st_frzG d u h1 Z I q5 ⟨.inr ⟨f,U,p.h⟩,zMg q7⟩ rfl hS);cases h
def frzN(d j:Nat){y:List α}{k:Nat}(I:∀a,(c a).length=k){f:Nat->A}[p:PuH f]{n0:Nat}(hn:n0=y.length)(os:List Ob):zJd P where
 pr pins N L:=match gt L d with
  | .t (.view u 0 _ J n)=>some (⟨u,j⟩::⟨J,k⟩::⟨n,n0⟩::⟨gt L (OB+j),gbA c y⟩::bp (frzC pins d j k L)::⟨gt L HK,.hp f⟩::obPL os L,(d,.t (.d (.seq k (y.map c))))::(OB+j,.free)::zB3 j d L)
  |_=>none
 ok pins N L c0 L' h hc W Q X G a w hS:=by split at h;(rename_i u E J n h1;cases h;obtain⟨rfl,rfl,rfl,Z,q5,U,q7⟩:=hc;exact st_frzN d u h1 hn Z I q5 ⟨.inr ⟨f,U,p.h⟩,zMg q7⟩ rfl hS);cases h
def frzB(d j:Nat){y:List α}{k:Nat}(I:∀a,(c a).length=k){f:Nat->A}[p:PuH f]{n0:Nat}(hn:n0=y.length)(os:List Ob):zJd P where
 pr pins N L:=match gt L d with
  | .t (.view u 0 _ J n)=>some (⟨u,j⟩::⟨J,k⟩::⟨n,n0⟩::⟨gt L (OB+j),.box (fl (dT c) y)⟩::bp (frzC pins d j k L)::⟨gt L HK,.hp f⟩::obPL os L,(d,.t (.d (.seq k (y.map c))))::(OB+j,.free)::zB3 j d L)
  |_=>none
 ok pins N L c0 L' h hc W Q X G a w hS:=by split at h;(rename_i u E J n h1;cases h;obtain⟨rfl,rfl,rfl,Z,q5,U,q7⟩:=hc;exact st_frz d u h1 Z (by rw[wL];exact hn) (zLG _ _) (zOf I _) q5 ⟨.inr ⟨f,U,p.h⟩,zMg q7⟩ rfl hS);cases h
end
def ownX{α:Type}{c:α->List D}(d j U:Nat){y:List α}{k:Nat}(J:∀a,(c a).length=k)(u:y.isEmpty=false){f:Nat->A}[p:PuH f]{n0:Nat}(hn:n0=y.length)(os:List Ob):zJd P where
 pr pins N L:=match gt L d with
  | .t (.view I 0 E Z n)=>some (⟨I,j⟩::⟨Z,k⟩::⟨n,n0⟩::⟨E,OFB+U⟩::⟨gt L (OB+j),.box (fl (dT c) y)⟩::bp (frzC pins d j k L)::bp (Nat.blt d N)::⟨gt L HK,.hp f⟩::obPL os L,(d,.t (.own U k (y.map c)))::(OB+j,.free)::zB3 j d L)
  |_=>none
 ok pins N L c0 L' h hc W Q X G a w hS:=by split at h;(rename_i I E Z n h1;cases h;obtain⟨rfl,rfl,rfl,rfl,q4,q5,q8,q6,q7⟩:=hc;exact st_own d I h1 q4 (by rw[wL];exact hn) (λe=>by rw[List.map_eq_nil_iff]at e;rw[e]at u;cases u) (zLG _ _) (zOf J _) q5 q8 ⟨.inr ⟨f,q6,p.h⟩,zMg q7⟩ rfl hS);cases h
theorem ob_fl{α:Type}(c:α->List D)(y:List α)(j:Nat):zCl j (.box (fl (dT c) y))=false:=zTL (zMY _ _) j
def obB{α:Type}(n:Nat)(c:α->List D)(y:List α):Ob:=(OB+n,⟨.box (fl (dT c) y),ob_fl c y⟩)
def obH(f:Nat->A):Ob:=(HK,⟨.hp f,λ_=>rfl⟩)
def obG{α:Type}(n:Nat)(c:α->List D)(y:List α):Ob:=(OB+n,⟨gbA c y,ob_gb c y⟩)
def obM{κ ν:Type}(n:Nat)(kT:κ->T)(vT:ν->T)(l:List (κ×ν)):Ob:=(OB+n,⟨mpT kT vT l,λ_=>rfl⟩)
def fgt{f:Nat->A}[p:PuH f](j:Nat)(os:List Ob):zJd P where
 pr pins N L:=some (bp (Nat.blt (j+1) OB&& !pins.contains (OB+j)&&zIQ j HK L)::⟨gt L HK,.hp f⟩::obPL os L,(OB+j,.free)::zB3 j HK L)
 ok pins N L c0 L' h hc W Q X G a w hS:=by cases h;obtain⟨u,I,J⟩:=hc;exact st_fgt j u ⟨.inr ⟨f,I,p.h⟩,zMg J⟩ rfl hS
def fzV(s:Nat):zJd P where
 pr pins N L:=match gt L s with
  | .box l=>some ([⟨pins.contains s|| !Nat.blt s OB,false⟩,bp (zK5 s L&&noPt l)],(s,.imm (l.map frzD))::L)
  |_=>none
 ok pins N L c0 L' h hc W Q X G a w hS:=by split at h;(rename_i l u;cases h;obtain⟨J,I,_⟩:=hc;exact st_fz s u J I rfl rfl hS);cases h
def fzT(s:Nat):zJd P where
 pr pins N L:=match gt L s with
  | .box l=>some ([⟨pins.contains s|| !Nat.blt s OB,false⟩,bp (zK5 s L&&l.all dhT)],(s,.imt l)::L)
  |_=>none
 ok pins N L c0 L' h hc W Q X G a w hS:=by split at h;(rename_i l u;cases h;obtain⟨J,I,_⟩:=hc;exact st_fzT s u J I rfl hS);cases h
def pubA(j:Nat){α:Type}{cc:α->List D}{y:List α}{c:Nat}{f1 f2:Nat->A}(u:f1 c= .free)(I:∀k,f2 k=if k=c then .box (fl (dT cc) y)else rnA j c (f1 k)):zJd P where
 pr pins N L:=some ([⟨gt L HK,.hp f1⟩,⟨gt L (OB+j),.box (fl (dT cc) y)⟩,bp (Nat.blt (j+1) OB&& !pins.contains (OB+j))],(HK,.hp f2)::(OB+j,.free)::renL j c L)
 ok pins N L c0 L' h hc W Q X G a w hS:=by cases h;obtain⟨J,Z,U,_⟩:=hc;exact st_pubw j J Z U (zQZ (zMY _ _)) u (WkTs.rfl' _) (fl_noAg _ _) I rfl hS
def pubS(j:Nat){c:Nat}{f1 f2:Nat->A}{u:List T}(I:f1 c= .free)(U:∀k,f2 k=if k=c then .box u else rnA j c (f1 k)):zJd P where
 pr pins N L:=match gt L (OB+j)with
  | .box J=>some (⟨gt L HK,.hp f1⟩::bp (Nat.blt (j+1) OB&& !pins.contains (OB+j))::⟨J.map (rnT j c),J⟩::bp (u.all λx=> !x.isAgg)::wkTs J u,(HK,.hp f2)::(OB+j,.free)::renL j c L)
  |_=>none
 ok pins N L c0 L' h hc W Q X G a w hS:=by split at h;(rename_i J h1;cases h;obtain⟨q1,q2,q3,Z,q5⟩:=hc;exact st_pubw j q1 h1 q2 q3 I (zMT q5) Z U rfl hS);cases h
def apg{α:Type}{c:α->List D}(j:Nat){nb k:Nat}{l l' z:List α}(hz:appI nb l l'=some z)(δ:∀a,(c a).length=k)(u:0<l'.length){f:Nat->A}[p:PuH f](os:List Ob):YRule P where
 pr pins N L op:=match op.dst,op.op with
  |some d,.call {callee:= .builtin .append,args:=⟨[x,y]⟩,argTypes:=⟨[t,t']⟩}=>match elF P t,cpO (gt L) x,slD k (dO (gt L) y)with|some (E,k',I),.t (.view J 0 E' k2 n),some rs=>some (bp (okD N pins (gt L) d)::⟨t',t⟩::⟨I,nb⟩::⟨k',k⟩::⟨J,j⟩::⟨E',E⟩::⟨k2,k⟩::⟨n,l.length⟩::⟨gt L (OB+j),gbA c l⟩::⟨rs,l'.map c⟩::bp ((Nat.blt 0 E&&Nat.blt E OFB)&&Nat.blt (j+1) OB&& !pins.contains (OB+j)&&((L.map Prod.fst).filter λs=>Nat.blt s OB&&zCl j (gt L s)).all (λs=>Nat.blt s OB&& !(gt L s).isBox))::⟨gt L HK,.hp f⟩::obPL os L,anyE ((L.map Prod.fst).filter λs=>Nat.blt s OB&&zCl j (gt L s))++[(OB+j,gbA c z),(d,.t (.view j 0 E k z.length))])|_,_,_=>none
  |_,_=>none
 ok pins N L op c0 e h hc:=by split at h;(rename_i d x y t t' h1 h2;split at h;(rename_i E k' I J E' k2 n rs h3 h4 h5;injection h with h;injection h with e1 e2;subst e1;obtain⟨q1,rfl,rfl,rfl,rfl,rfl,rfl,rfl,q9,rfl,γ,β,Z⟩:=hc;refine(h_apgI (Mk.refl _) _ hz h2 h3 h4 q9 δ h5 u h1 q1 γ (λs hs=> ?_) (.inr ⟨f,β,p.h⟩) e2).y;have W:=zMg Z;rcases wY s OB with U|hge;(cases hm:zCl J (gt L s)with|false=>rfl|true=>exfalso;rw[vP,decide_eq_false_iff_not]at hs;refine hs (vG _ (List.mem_filter.2 ⟨?_,by rw[hm,Bool.and_true];simpa using U⟩));refine Classical.byContradiction λhn=> ?_;rw[gt_any λp hp e=>hn (vQ.2 ⟨p,hp,e⟩)]at hm;cases hm);exact W s hge J);cases h);cases h
def neI{α:Type}(l:List α):Option Unit:=bif l.isEmpty then none else some ()
theorem neI_E{α:Type}{l:List α}{u:Unit}(h:neI l=some u):l.isEmpty=false:=by unfold neI at h;grind
theorem neI_N{α:Type}{l:List α}{u:Unit}(h:neI l=some u):l≠[]:=λe=>by rw[e]at h;cases h
theorem zAc:([]:List A).all A.flatO=true:=rfl
theorem zCM{α:Type}(c:α->List D)(y:List α){r:List A}(h:r.all A.flatO=true):(A.box (fl (dT c) y)::r).all A.flatO=true:=by rw[uV,h,Bool.and_true];exact zMY _ _
theorem zPw{α:Type}(c:α->List D)(y:List α):[gbA c y].all A.flatO=true:=by rw[uV,gb_flatO];rfl
def cpy(j:Nat){α:Type}{c:α->List D}{xl yl v:List α}{off n:Nat}(hc:∀a,(c a).length=1)(hv:cpyI xl off n yl=some v):yM P where
 hk:=[OB+j]
 pr pins N M op:=match op.dst,op.op with
  |some d,.call {callee:= .builtin .copy,args:=⟨[x,y]⟩,argTypes:=⟨[t,_]⟩}=>match cpO M x,P.underlying t,slD 1 (dO M y)with
   | .t (.view I u _ 1 J),some (.slice e),some yr=>match P.info? e with
    |some ie=>some ([bp (okD N pins M d),⟨I,j⟩,⟨u,off⟩,⟨J,n⟩,⟨ie.size,1⟩,⟨M (OB+j),.box (fl (dT c) xl)⟩,⟨yr,yl.map c⟩,bp (Nat.blt (j+1) OB)],[(OB+j,.box (fl (dT c) v)),(d,.t (.d (.lit (.int .i64 ((min yl.length n:Nat):Int)))))])
    |none=>none
   |_,_,_=>none
  |_,_=>none
 ok pins N S M op c0 e hM hd h hcc:=by
  split at h
  ·
   rename_i d x y t t' h1 h2
   split at h
   ·
    rename_i I u E J e yr h3 h4 h5
    split at h
    ·
     rename_i ie h6
     cases h
     obtain⟨q1,q2,Z,W,q5,q6,U,q8,_⟩:=hcc
     have q2:I=j:=q2
     have Z:u=off:=Z
     have W:J=n:=W
     have U:yr=yl.map c:=U
     subst q2 Z W U
     exact h_cpy hM h2 h4 h6 q5 h3 q6 hc h5 hv q8 h1 (zB0 q1 (hd d h1))
    · cases h
   · cases h
  · cases h
def cpyS(j:Nat){xl yl v:List UInt8}{off n:Nat}(hv:cpySI xl off n yl=some v):yM P where
 hk:=[OB+j]
 pr pins N M op:=match op.dst,op.op with
  |some d,.call {callee:= .builtin .copy,args:=⟨[x,y]⟩,argTypes:=⟨[t,_]⟩}=>match cpO M x,P.underlying t,vO M y with
   | .t (.view I u _ 1 J),some (.slice e),some yv=>match P.info? e with
    |some ie=>some ([bp (okD N pins M d),⟨I,j⟩,⟨u,off⟩,⟨J,n⟩,⟨ie.size,1⟩,⟨M (OB+j),.box (fl (dT cU8) xl)⟩,⟨yv,.string ⟨⟨yl⟩⟩⟩,bp (Nat.blt (j+1) OB)],[(OB+j,.box (fl (dT cU8) v)),(d,.t (.d (.lit (.int .i64 (yl.length:Int)))))])
    |none=>none
   |_,_,_=>none
  |_,_=>none
 ok pins N S M op c0 e hM hd h hcc:=by
  split at h
  ·
   rename_i d x y t t' h1 h2
   split at h
   ·
    rename_i I u E J e yr h3 h4 h5
    split at h
    ·
     rename_i ie h6
     cases h
     obtain⟨q1,q2,Z,W,q5,q6,U,q8,_⟩:=hcc
     have q2:I=j:=q2
     have Z:u=off:=Z
     have W:J=n:=W
     have U:yr= .string ⟨⟨yl⟩⟩:=U
     subst q2 Z W U
     exact h_cpyS hM h2 h4 h6 q5 h3 q6 h5 hv q8 h1 (zB0 q1 (hd d h1))
    · cases h
   · cases h
  · cases h
def lsl{n n' off':Nat}{a b:Int}(hc:0<=a/\a<=b/\b<=n):yM P where
 hk:=[]
 pr pins N M op:=match op.dst,op.op with
  |some d,.slice t x lo hi none=>match cpO M x,bndO M lo,bndO M hi with
   | .t (.view j off E k J),some l0,some u=>match P.underlying t with
    |some (.slice e)=>match P.info? e with
     |some Z=>some ([bp (okD N pins M d),⟨Z.size,k⟩,⟨J,n⟩,⟨l0.getD 0,a⟩,⟨u.getD n,b⟩,⟨off+(l0.getD 0).toNat*Z.size,off'⟩,⟨(u.getD n).toNat-(l0.getD 0).toNat,n'⟩,bp (Nat.blt E OFB)],[(d,.t (.view j off' E k n'))])
     |none=>none
    |_=>none
   |_,_,_=>none
  |_,_=>none
 ok pins N S M op c0 e hM hd h hcc:=by
  split at h
  ·
   rename_i d t x lo hi h1 h2
   split at h
   ·
    rename_i j off E k J l0 u h3 h4 h5
    split at h
    ·
     rename_i e h6
     split at h
     ·
      rename_i Z h7
      cases h
      obtain⟨q1,q2,I,W,U,q6,q7,q8,_⟩:=hcc
      have I:J=n:=I
      have W:l0.getD 0=a:=W
      have U:u.getD n=b:=U
      subst I W U
      exact h_lsl hM h2 h3 q2 h4 h5 h6 h7 hc q6 q7 h1 (zB0 q1 (hd d h1)) (by simpa using q8)
     · cases h
    · cases h
   · cases h
  · cases h
def lnew(j:Nat)(l:List T):yM P where
 hk:=[OB+j]
 pr pins N M op:=match op.dst,op.op with
  |some d,.alloc E=>match zvOf P E with
   |some z=>match zGs (litA z)with
    |some l0=>some ([bp (okD N pins M d),⟨M (OB+j),.free⟩,⟨l0,l⟩,bp (Nat.blt (j+1) OB)],[(OB+j,.box l),(d,.t (.ptr j 0))])
    |none=>none
   |none=>none
  |_,_=>none
 ok pins N S M op c0 e hM hd h hcc:=by
  split at h
  ·
   rename_i d E I U
   split at h
   ·
    rename_i z h3
    split at h
    ·
     rename_i l0 Z
     cases h
     obtain⟨W,q2,u,J,_⟩:=hcc
     have u:l0=l:=u
     obtain⟨i,hi,hz⟩:=zQc h3
     exact h_lnew hM U hi hz Z u I (zB0 W (hd d I)) J q2
    · cases h
   · cases h
  · cases h
def sla:yM P where
 hk:=[]
 pr pins N M op:=match op.dst,op.op with
  |some d,.slice t x none none none=>match cpO M x,P.underlying t with
   | .ref b off,some (.array n e)=>match P.info? e,M b with
    |some u,.box l=>some ([bp (okD N pins M d),bp (Nat.ble OB b),bp (Nat.ble (off+n*u.size) l.length),bp (Nat.ble n 65536)],[(d,.t (.view (b-OB) (off+0*u.size) 0 u.size (n-0)))])
    |_,_=>none
   |_,_=>none
  |_,_=>none
 ok pins N S M op c0 e hM hd h hcc:=by
  split at h
  ·
   rename_i d t x I Z
   split at h
   ·
    rename_i b off n e h3 W
    split at h
    ·
     rename_i u l h5 J
     cases h
     obtain⟨q1,q2,q3,U,_⟩:=hcc
     obtain⟨j,rfl⟩:∃j,b=OB+j:=⟨b-OB,by have:=wZ q2;omega⟩
     rw[wP]
     exact h_sla (l0:=none) (h0:=none) hM Z h3 J rfl rfl W h5 q3 U ⟨tW _,Int.natCast_nonneg _,tW _⟩ (by simp) I (zB0 q1 (hd d I))
    · cases h
   · cases h
  · cases h
def lbox(j:Nat):yM P where
 hk:=[OB+j]
 pr pins N M op:=match op.dst,op.op with
  |some d,.box _ x=>match zDS (cpO M x)with|some l=>some ([bp (okD N pins M d),⟨M (OB+j),.free⟩,bp (Nat.blt (j+1) OB)],[(OB+j,.box l),(d,.t (.ptr j 0))])|none=>none
  |_,_=>none
 ok pins N S M op c0 e hM hd h hcc:=by split at h;(rename_i d E x u I;split at h;(rename_i l U;cases h;obtain⟨J,W,Z,_⟩:=hcc;exact h_lbox hM I U rfl u (zB0 J (hd d u)) Z W);cases h);cases h
def lstW(b:Nat)(l':List T):yM P where
 hk:=[b]
 pr pins N M op:=match op.dst,op.op with
  |none,.store t x y=>match cpO M x,P.info? t,zDS (cpO M y),M b with| .ref u 0,some i,some q,.box l=>some ([⟨u,b⟩,bp (Nat.beq q.length i.size),bp (Nat.ble i.size l.length),⟨qZ l 0 q,l'⟩],[(b,.box l')])|_,_,_,_=>none
  |_,_=>none
 ok pins N S M op c0 e hM hd h hc:=by split at h;(rename_i t x y W J;split at h;(rename_i u i q l h3 U h5 I;cases h;obtain⟨rfl,Z,q2,q3,_⟩:=hc;exact h_lst hM J W U h3 I h5 (wV Z) (by rw[vJ];exact wZ q2) q3);cases h);cases h
def lrA{f:Nat->A}{c off n:Nat}{l r:List T}(hf:f c= .box l)(hl:(l.drop off).take n=r):yM P where
 hk:=[HK]
 pr pins N M op:=match op.dst,op.op with
  |some d,.load t x=>match cpO M x,tyA P t with| .t (.hpt J u),some (true,I)=>some ([bp (okD N pins M d),⟨M HK,.hp f⟩,⟨J,c⟩,⟨u,off⟩,⟨I,n⟩,bp (Nat.beq r.length n),bp (noPt r)],[(d,.t (.agg (r.map toD)))])|_,_=>none
  |_,_=>none
 ok pins N S M op c0 e hM hd h hc:=by split at h;(rename_i d t x U W;split at h;(rename_i J u I h3 h4;cases h;obtain⟨q1,q2,rfl,rfl,rfl,Z,q7,_⟩:=hc;exact h_lr hM (hM.get q2 (by simp)) W h4 h3 hf hl (wV Z) q7 rfl U (zB0 q1 (hd d U)));cases h);cases h
def stw{f f':Nat->A}{c:Nat}{l l':List T}(hf:f c= .box l)(u:f'=updF f c (.box l')):yM P where
 hk:=[HK]
 pr pins N M op:=match op.dst,op.op with
  |none,.store t x y=>match cpO M x,P.info? t,zDS (cpO M y)with| .t (.hpt I off),some i,some q=>some (⟨M HK,.hp f⟩::⟨I,c⟩::bp (Nat.beq q.length i.size)::bp (Nat.ble (off+i.size) l.length)::bp (l'.all λx=> !x.isAgg)::wkTs (qZ l off q) l',[(HK,.hp f')])|_,_,_=>none
  |_,_=>none
 ok pins N S M op c0 e hM hd h hc:=by split at h;(rename_i t x y h1 Z;split at h;(rename_i I off i q h3 W h5;cases h;obtain⟨q1,rfl,q3,U,q5,J⟩:=hc;exact h_stw hM (hM.get q1 (by simp)) Z h1 W h3 hf h5 (wV q3) (wZ U) (zMT J) q5 u);cases h);cases h
def nwW{f f':Nat->A}{t i:Nat}{l:List T}(hf:f (cd t i)= .free)(u:f'=updF f (cd t i) (.box l)):yM P where
 hk:=[HK]
 pr pins N M op:=match op.dst,op.op with
  |some d,.box E x=>match zDS (cpO M x)with|some q=>some (bp (okD N pins M d)::⟨M HK,.hp f⟩::bp (l.all λx=> !x.isAgg)::wkTs q l,[(HK,.hp f'),(d,.t (.opt t (some i)))])|_=>none
  |_,_=>none
 ok pins N S M op c0 e hM hd h hc:=by split at h;(rename_i d E x I U;split at h;(rename_i q W;cases h;obtain⟨Z,q2,q3,J⟩:=hc;exact(h_boxw hM (hM.get q2 (by simp)) U W I (zB0 Z (hd d I)) hf (zMT J) q3 u).weak (.cons (.refl _) (by simp) (.cons (.t (.optS _ _)) (by simp) .nil)));cases h);cases h
def htake{f:Nat->A}{c:Nat}{l:List T}(hf:f c= .box l):yM P where
 hk:=[HK]
 pr pins N M op:=match op.dst,op.op with
  |some d,.load t x=>match cpO M x,tyA P t with
   | .t (.hpt I off),some (false,_)=>match l[off]? with
    |some (.own E k u)=>some ([bp (okD N pins M d),⟨M HK,.hp f⟩,⟨I,c⟩],[(HK,.hp (updF f c (.box (l.set off (.d (.seq k u)))))),(d,.t (.own E k u))])
    |_=>none
   |_,_=>none
  |_,_=>none
 ok pins N S M op c0 e hM hd h hc:=by
  split at h
  ·
   rename_i d t x J U
   split at h
   ·
    rename_i I off n h3 Z
    split at h
    ·
     rename_i E k u h5
     cases h
     obtain⟨W,q2,rfl,_⟩:=hc
     exact h_htake hM (hM.get q2 (by simp)) U Z h3 hf h5 rfl J (zB0 W (hd d J)) rfl
    · cases h
   · cases h
  · cases h
def hsto{f f':Nat->A}{c:Nat}{l1 l':List T}(J:f'=updF (updF f c (.box l1)) c (.box l')):yM P where
 hk:=[HK]
 pr pins N M op:=match op.dst,op.op with
  |none,.store t x (.tmp s)=>match cpO M x,P.info? t,M s with| .t (.hpt Z off),some i,.t (.own E k u)=>some ([⟨M HK,.hp (updF f c (.box l1))⟩,⟨Z,c⟩,⟨i.size,1⟩,bp (Nat.blt off l1.length),⟨l1.set off (.own E k u),l'⟩,bp (okD N pins M s),bp (Nat.blt s OB)],[(HK,.hp f'),(s,.t (.d (.seq k u)))])|_,_,_=>none
  |_,_=>none
 ok pins N S M op c0 e hM hd h hc:=by split at h;(rename_i t x s h1 h2;split at h;(rename_i Z off i E k u h3 h4 U;cases h;obtain⟨q1,rfl,q3,W,q5,I,_⟩:=hc;have hs:S s= .t (.own E k u):=hM.get U (by simp);exact h_hsto hM (hM.get q1 (by simp)) h2 h1 h4 q3 h3 (if_pos rfl) U W q5 (by unfold okD at I⊢;rw[hs];rw[U]at I;exact I) J);cases h);cases h
theorem vwE(j off E k:Nat){n n':Nat}(h:n=n'):A.t (.view j off E k n)= .t (.view j off E k n'):=by rw[h]
def s2a{α:Type}{c:α->List D}(z:α){n:Nat}{l y:List α}(hn:s2aI n l=some y):yM P where
 hk:=[]
 pr pins N M op:=match op.dst,op.op with
  |some d,.sliceToArrayPointer t x=>match P.underlying t,dO M x with|some (.array u _),some (.seq k rs)=>some ([bp (okD N pins M d),⟨u,n⟩,⟨rs,l.map c⟩,bp (Nat.blt 0 k&&Nat.blt 0 n)],[(d,.imm (ar c z y 0 n))])|_,_=>none
  |_,_=>none
 ok pins N S M op c0 e hM hd h hc:=by split at h;(rename_i d t x I U;split at h;(rename_i u e0 k rs h3 Z;cases h;obtain⟨W,rfl,rfl,J,_⟩:=hc;exact h_s2a hM U h3 Z J hn I (zB0 W (hd d I)));cases h);cases h
def atO(M:Nat->A):List (Nat×List T)->Prop
 |[]=>True
 |(j,l)::r=>M (OB+j)= .box l/\atO M r
def atPL(M:Nat->A):List (Nat×List T)->PL
 |[]=>[]
 |(j,l)::r=>⟨M (OB+j),.box l⟩::atPL M r
theorem atPL_ok:∀{os:List (Nat×List T)},okL (atPL M os)->atO M os
 |[],_=>trivial
 |(_,_)::_,h=>⟨h.1,atPL_ok h.2⟩
def look(os:List (Nat×List T))(X:List A){f:Nat->A}{fn:Nat}{args:List A}{y:A}(hf:FC P fn args [] y)(u:∀M,atO M os->zP1 (zSu M f) X args):yM P where
 hk:=HK::os.map λo=>OB+o.1
 pr pins N M op:=match op.dst,op.op with
  |some d,.call {callee:= .value fx,args:=⟨xs⟩,argTypes:=_}=>some (bp (fnOK P fn)::bp (okD N pins M d)::⟨vO M fx,some (.func (.func fn) #[] #[])⟩::⟨M HK,.hp f⟩::⟨xs.map (cpO M),X⟩::bp y.isLits::atPL M os,[(d,y)])
  |_,_=>none
 ok pins N S M op c e hM hd h hc:=by split at h;(rename_i d fx xs ts J h2;cases h;obtain⟨q1,q2,q3,Z,I,W,q7⟩:=hc;obtain⟨F,f1,U,f3⟩:=zLP q1;have I:xs.map (cpO M)=X:=I;exact h_look hM (hM.get Z (by simp)) h2 q3 J (zB0 q2 (hd d J)) f1 U f3 hf (by rw[I];exact u M (atPL_ok q7)) W);cases h
def bsv:yM P where
 hk:=[]
 pr pins N M op:=match op.dst,op.op with
  |some d,.buildSlice t n ⟨u⟩=>match elF P t,vwsO M 0 u with|some (_,1,_),some l=>some ([bp (okD N pins M d),⟨n,u.length⟩,bp (!u.isEmpty&&Nat.ble u.length 16777216)],[(d,.lst l)])|_,_=>none
  |_,_=>none
 ok pins N S M op c0 e hM hd h hc:=by split at h;(rename_i d t n u I J;split at h;(rename_i e0 nb l W U;cases h;obtain⟨Z,q2,q3,_⟩:=hc;exact h_bsv hM J q2 I (zB0 Z (hd d I)) W U q3);cases h);cases h
def mko{U q:Nat}{n:Int}(hq:mkI U n=some q){z:Value}{rs:List (List D)}(hr:List.replicate q [.lit z]=rs):yM P where
 hk:=[]
 pr pins N M op:=match op.dst,op.op with
  |some d,.makeSlice t J W=>match vO M J,vO M W,elF P t with
   |some (.int _ n1),some (.int _ n2),some (e,1,I)=>match zvOf P e with
    |some u=>some ([bp (okD N pins M d),⟨n1,n⟩,⟨n2,n⟩,⟨I,U⟩,⟨u,z⟩,⟨u.cells,#[u]⟩,bp u.oneCell'],[(d,.t (.own e 1 rs))])
    |none=>none
   |_,_,_=>none
  |_,_=>none
 ok pins N S M op c2 e hM hd h hc:=by
  split at h
  ·
   rename_i d t J W Z h2
   split at h
   ·
    rename_i kl n1 kc n2 e I h3 h4 h5
    split at h
    ·
     rename_i u h6
     cases h
     obtain⟨q1,rfl,rfl,rfl,rfl,q6,q7,_⟩:=hc
     obtain⟨i,hi,hz⟩:=zQc h6
     exact h_mko (c:=λ_:Unit=>[]) hM h2 h3 h4 h5 hi hz q6 q7 rfl hq hr Z (zB0 q1 (hd d Z))
    · cases h
   · cases h
  · cases h
def ixA{z:Int}{len:Nat}(hC:0<=z/\z<len):yM P where
 hk:=[]
 pr pins N M op:=match op.dst,op.op with
  |some d,.indexAddr t x i=>match cpO M x,vO M i,P.underlying t with
   | .ref b off,some (.int _ Z),some (.array u e)=>match P.info? e with
    |some J=>some ([bp (okD N pins M d),⟨Z,z⟩,⟨u,len⟩],[(d,.ref b (off+z.toNat*J.size))])
    |none=>none
   |_,_,_=>none
  |_,_=>none
 ok pins N S M op c0 e hM hd h hc:=by
  split at h
  ·
   rename_i d t x i U h2
   split at h
   ·
    rename_i b off ki Z u e h3 h4 h5
    split at h
    ·
     rename_i J h6
     cases h
     obtain⟨q1,rfl,rfl,_⟩:=hc
     have I:=zB0 q1 (hd d U)
     exact .of (e:=[(d,_)]) λW=>⟨ok_ixa hM.hx h2 h3 h4 h5 h6 hC U (qR W I),zBz (qG W I)⟩
    · cases h
   · cases h
  · cases h
def apfr{Z q:Nat}{n:Int}(hq:growI Z n=some q):yM P where
 hk:=[]
 pr pins N M op:=match op.dst,op.op with
  |some d,.call {callee:= .builtin .append,args:=⟨[x,y]⟩,argTypes:=⟨[t,J]⟩}=>match vO M x,vO M y,zerF P t J with|some (.slice none 0 0),some (.int _ I),some (e,u,_)=>some ([bp (okD N pins M d),⟨I,n⟩,⟨u,Z⟩],[(d,.fr e 1)])|_,_,_=>none
  |_,_=>none
 ok pins N S M op c0 e hM hd h hc:=by split at h;(rename_i d x y t J U W;split at h;(rename_i ki I e u z h3 h4 h5;cases h;obtain⟨q1,rfl,rfl,_⟩:=hc;exact h_apfr hM W h3 h4 h5 hq U (zB0 q1 (hd d U)));cases h);cases h
def slfr:yM P where
 hk:=[]
 pr pins N M op:=match op.dst,op.op with
  |some d,.slice t (.tmp s) none I none=>match M s,bndO M I,P.underlying t with
   | .fr E k,some (some 0),some (.slice e)=>match P.info? e with
    |some _=>some ([bp (okD N pins M d),⟨s==d,false⟩,bp (Nat.blt s OB&& !pins.contains s)],[(s,.any),(d,.t (.own E k []))])
    |none=>none
   |_,_,_=>none
  |_,_=>none
 ok pins N S M op c0 e hM hd h hc:=by
  split at h
  ·
   rename_i d t s I u U
   split at h
   ·
    rename_i E k e h3 Z h5
    split at h
    ·
     rename_i ie J
     cases h
     obtain⟨W,q2,q3,_⟩:=hc
     exact h_slfr hM U h3 Z h5 J q2 q3 u (zB0 W (hd d u))
    · cases h
   · cases h
  · cases h
def slN:yM P where
 hk:=[]
 pr pins N M op:=match op.dst,op.op with
  |some d,.slice t x none I none=>match vO M x,bndO M I,P.underlying t with
   |some (.slice none 0 0),some (some 0),some (.slice e)=>match P.info? e with
    |some _=>some ([bp (okD N pins M d)],[(d,.t (.d (.lit (.slice none 0 0))))])
    |none=>none
   |_,_,_=>none
  |_,_=>none
 ok pins N S M op c0 e hM hd h hc:=by
  split at h
  ·
   rename_i d t x I u U
   split at h
   ·
    rename_i e h3 Z h5
    split at h
    ·
     rename_i ie J
     cases h
     obtain⟨W,_⟩:=hc
     exact h_slnil hM U h3 Z h5 J u (zB0 W (hd d u))
    · cases h
   · cases h
  · cases h
end
abbrev Y:=List UInt8
abbrev O:=Option Nat
abbrev iD(x:Int):D:= .lit (.int .i64 x)
abbrev iT(x:Int):T:= .d (iD x)
abbrev iA(x:Int):A:= .t (iT x)
abbrev bD(x:Bool):D:= .lit (.bool x)
abbrev bT'(x:Bool):T:= .d (bD x)
abbrev bA(x:Bool):A:= .t (.d (bD x))
abbrev yD(x:Y):D:= .seq 1 (qV x)
abbrev yT(x:Y):T:= .d (yD x)
abbrev yA(x:Y):A:= .t (yT x)
abbrev sD(x:Y):D:= .lit (.string ⟨⟨x⟩⟩)
abbrev sT(x:Y):T:= .d (sD x)
abbrev sA(x:Y):A:= .t (sT x)
abbrev nD:D:= .lit (.slice none 0 0)
abbrev nT:T:= .d nD
abbrev oA(t:Nat)(p:O):A:= .t (.opt t p)
abbrev kF(j:Nat):Nat×A:=(OB+j,.free)
abbrev FH(f:FuncId)(a i o:List A)(g u:Nat->A)(r:A):=FCH Tryz.prog f a i o g u r
abbrev FP(f:FuncId)(a:List A)(o:List (Nat×List T))(r:A):=FC Tryz.prog f a o r
abbrev Tr.iF{R:Type}{Γ:List Type}(q:Nat)(c:Bool)(e:c=false->Tr P R Γ):Tr P R Γ:= .i q c (λ_=> .no) e
abbrev Tr.pS{R:Type}{Γ:List Type}(p:Option Nat)(e:(i:Nat)->p=some i->Tr P R Γ):Tr P R Γ:= .p p (λ_=> .no) e
noncomputable abbrev Tr.e{P:Program}{R:Type}{Γ:List Type}(x:R):Tr P R Γ:= .r x
noncomputable abbrev Tr.k{P:Program}{R X:Type}{Γ:List Type}(ws:List Nat)(j:Jx X Γ)(x:X):Tr P R Γ:= .n ws j x
abbrev Tr.ix{R α:Type}{Γ:List Type}{l:List α}{i:Int}{x:α}(q:Nat)(c:α->List D)(h:idx l i=some x)(t:Tr P R Γ):Tr P R Γ:= .w q (idxC (c:=c) h) (.oe (idxE (c:=c) h)) t
abbrev Tr.ln{R α:Type}{Γ:List Type}(q:Nat)(l:List α)(c:α->List D)(t:Tr P R Γ):Tr P R Γ:= .w q trivial (lnE l c) t
abbrev Tr.s{R:Type}{Γ:List Type}{p:Option Nat}{i:Nat}(q s k:Nat)(h:p=some i)(t:Tr P R Γ):Tr P R Γ:= .t q s (ptS k h) t
abbrev Tr.q{R:Type}(t:Tr P R []):Option R:=t.run Env.nil
abbrev Tr.fA{R α:Type}{Γ:List Type}{m:Option α}{f:Nat}{a:List A}{y:α->A}(q:Nat)(h:∀r,m=some r->FC P f a [] (y r))(t:α->Tr P R Γ):Tr P R Γ:= .b m λr e=> .o q (cA (h r e)) (t r)
abbrev Tr.fR{R α:Type}{Γ:List Type}{m:Option α}{f:Nat}{a:List A}{g:Nat->A}{y:α->A}[p:PuH g](q:Nat)(h:∀r,m=some r->FCH P f a [] [] g g (y r))(t:α->Tr P R Γ):Tr P R Γ:= .b m λr e=> .o q (cR (h r e)) (t r)
abbrev Tr.fH{R α:Type}{Γ:List Type}{m:Option α}{f:Nat}{a:List A}{g:Nat->A}{u:α->Nat->A}{y:α->A}[p:PuH g][p':∀r,PuH (u r)](q:Nat)(h:∀r,m=some r->FCH P f a [] [] g (u r) (y r))(t:α->Tr P R Γ):Tr P R Γ:= .b m λr e=> .o q (cH (h r e)) (t r)
section
variable {w0:World}{m0:Mem}{o0:OwnM}{G:GD}{pins:List Nat}{S M:Nat->A}{a:Act}{w:World}{m:Mem}{o:OwnM}{P:Program}{N:Nat}
theorem Inv.loseK(I:Inv w0 m0 o0 G pins S a w m o){S':Nat->A}{loc:Nat×Nat}(hO:loc.1<OB)(h0:loc.2≠0\/loc.1∉pins)(hS:∀t,t≠loc.1->S' t=S t)(hb:∀l,S loc.1= .box l->loc.2≠0/\∃l',S' loc.1= .box l')
(J:∀o':OwnM,(∀g l,o g=some l->l≠loc->o' g=some l)->(Keep (λx=>x=loc) m w o m w o')->RepA m w o' S' loc.1 (S' loc.1) (a.tmps.getD loc.1 undef)):∃o',Inv w0 m0 o0 G pins S' a w m o'/\(∀g x,o' g=some x->x≠loc/\o g=some x)/\Keep (λx=>x=loc) m w o m w o':=by
 have hk:∀g x,(λg=>if o g=some loc then none else o g) g=some x->x≠loc/\o g=some x:=by intro g x h;simp only at h;split at h;cases h;(rename_i hn;exact⟨λe=>hn (by rw[h,e]),h⟩)
 have U:∀g l,o g=some l->l≠loc->(λg=>if o g=some loc then none else o g) g=some l:=λg l h hl=>by show(if o g=some loc then none else o g)=_;rw[h,if_neg (by simpa using hl)]
 have K:Keep (λx=>x=loc) m w o m w (λg=>if o g=some loc then none else o g):=
  ⟨Mle.refl _,λ_ _ _ _=>rfl,λ_ _ _ _=>rfl,λg l h hn=>U g l h hn,λg j h=>U g _ h (λe=>by rw[<-e]at hO;exact absurd hO (by show¬OB+j<OB;omega)),λg s k _ h=>⟨g,k,(hk g _ h).2⟩,λg _ _=> .of_eq rfl⟩
 refine⟨_,⟨I.same,I.sat,I.mono,I.old,λg x h=>I.own g x (hk g x h).2,λg x h=>I.lt g x (hk g x h).2,λg g' x h h'=>I.inj g g' x (hk g x h).2 (hk g' x h').2,λp hp g hg=> ?_,λt=> ?_,I.defers,I.tbl,I.wide,I.shps⟩,hk,K⟩
 · refine U g _ (I.pinned p hp g hg) λe=> ?_;have e1:p=loc.1:=congrArg Prod.fst e;have u:0=loc.2:=congrArg Prod.snd e;rcases h0 with h0|h0;exact h0 u.symm;(rcases hp with hp|hp;exact h0 (e1▸hp);(have:OB<=p:=hp;omega))
 · by_cases e:t=loc.1;(subst e;exact J _ U K);(rw[hS t e];refine RepA.keep K (λj u=>e (congrArg Prod.fst u)) (λb off he W=> ?_) (I.slots t);have h:=I.slots t;rw[he]at h;obtain⟨_,_,_,hl⟩:=h;obtain⟨l',hl⟩:=hl W;by_cases eb:b=loc.1;(subst eb;obtain⟨q1,q2⟩:=hb l' hl;exact⟨λu=>q1 (congrArg Prod.snd u).symm,λ_=>q2⟩);exact⟨λu=>eb (congrArg Prod.fst u),λ⟨l2,Z⟩=>⟨l2,by rw[hS b eb];exact Z⟩⟩)
theorem Inv.lose(I:Inv w0 m0 o0 G pins S a w m o){S':Nat->A}{loc:Nat×Nat}(Z:loc.1<OB)(h0:loc.2≠0\/loc.1∉pins)(J:∀t,t≠loc.1->S' t=S t)(hb:∀l,S loc.1= .box l->loc.2≠0/\∃U,S' loc.1= .box U)
(u:∀o':OwnM,(∀g l,o g=some l->l≠loc->o' g=some l)->(Keep (λx=>x=loc) m w o m w o')->RepA m w o' S' loc.1 (S' loc.1) (a.tmps.getD loc.1 undef)):∃o',Inv w0 m0 o0 G pins S' a w m o'/\(∀g x,o' g=some x->x≠loc/\o g=some x):=by
 obtain⟨o',h1,W,_⟩:=I.loseK Z h0 J hb u
 grind
end
section
variable {P:Program}{w0:World}{m0:Mem}{o0:OwnM}{G:GD}{pins:List Nat}{S:Nat->A}{a:Act}{w:World}{m:Mem}{o:OwnM}
end
theorem nz_noLoc{x:T}(h:nzT x=true/\∀i,x= .mpt i->OB<=i):x.isLoc=false:=by(cases x with|ptr j off=>exact absurd h.1 (by simp[nzT])|view j off E k n=>exact absurd h.1 (by simp[nzT])|mpt i=>have:=h.2 i rfl;show Nat.blt i OB=false;(cases e:Nat.blt i OB with|false=>rfl|true=>(have:i<OB:=by simpa using e);omega)|_=>rfl)
theorem pure_hz{f z:Nat->A}(hf:zDy f)(u:zDy z):zDy (hz f z):=λc l h x hx=>by unfold hz at h;split at h;exact u _ _ h x hx;exact hf _ _ h x hx
theorem pure_zA{l:Nat}{u:Obj}{U:Mem}{I:OwnM}{cs:List (List T)}(h:∀c∈cs,nzC c):zDy (zA l u U I cs):=λi q e x hx=>by unfold zA at e;split at e;cases e;(split at e;(rename_i c J;cases e;exact nz_noLoc (h _ (wC J) x hx));cases e)
theorem NC_hpF{g:Nat->Nat->A}(U:∀i,g 63 i= .free)(hb:∀t i l,g t i= .box l->nzC l)(hr:∀t i b u Z J,g t i≠ .rcd b u Z J):NC (hpF g)where
 z c hc:=by(have:hpF g c= .free:=by unfold hpF;rw[hc];exact U _);rw[this];rfl
 b c l h x hx:=by(have I:hpF g c= .box l:=by cases hq:hpF g c<;>rw[hq]at h<;>first|exact h|cases h);exact(hb _ _ l I x hx).1
 r c b u Z J h:=by(have I:hpF g c= .rcd b u Z J:=by cases hq:hpF g c<;>rw[hq]at h<;>first|exact h|cases h);exact hr _ _ _ _ _ _ I
 c c l h:=by(have I:hpF g c= .box l:=by cases hq:hpF g c<;>rw[hq]at h<;>first|exact h|cases h);exact hb _ _ l I
theorem zHA{α:Type}{l:List α}{f:Nat->α->List T}{i:Nat}{q:List T}(h:∀i x,nzC (f i x))(e:arA l f i= .box q):nzC q:=by unfold arA at e;grind
theorem zG6{α:Type}{l:List α}{f:Nat->α->List T}{i b:Nat}{u:Obj}{J:Mem}{I:OwnM}:arA l f i≠ .rcd b u J I:=by unfold arA;grind
theorem zEF:nzC []:=λ_ h=>by cases h
theorem zMK{x:T}{l:List T}(h:nzT x=true/\∀i,x= .mpt i->OB<=i)(hl:nzC l):nzC (x::l):=λy hy=>by rcases vL.1 hy with rfl|hy;exact h;exact hl y hy
theorem zLk{x:D}{l:List T}(hl:nzC l):nzC (.d x::l):=zMK ⟨rfl,λ_ e=>by cases e⟩ hl
theorem zH7{E k:Nat}{r:List (List D)}{l:List T}(hl:nzC l):nzC (.own E k r::l):=zMK ⟨rfl,λ_ e=>by cases e⟩ hl
theorem FCH.more{fn:FuncId}{args:List A}{f f':Nat->A}{r:A}(hf:FCH P fn args [] [] f f' r)(h0:NZ f)(u:NZ f')(J:args.all nzA=true)(I:args.length<=OB)(z:Nat->A):FCH P fn args [] [] (hz f z) (hz f' z) r:=
 FCK.frame (K:=Calls P fn) (λ_ _ _ _ h k=>Calls.mono h k) hf h0 u J I z
abbrev hzP{X H:Type}(hA:H->Nat->A)(zf:X->Nat->A)(q:X×H):Nat->A:=hz (hA q.2) (zf q.1)
theorem zNm{X H:Type}{hA:H->Nat->A}{zf:X->Nat->A}(h:∀w,zDy (hA w))(u:∀x,zDy (zf x))(q:X×H):zDy (hzP hA zf q):=pure_hz (h _) (u _)
def lpY{α B H:Type}(u:α->B->H->Option (Bool×B×H))(a:α)(q:(Bool×B)×H):Option (Bool×((Bool×B)×H)):=
 bif q.1.1 then Option.bind (u a q.1.2 q.2) λy=>some (y.1,((y.1,y.2.1),y.2.2))else none
def YLs{X H α:Type}(P:Program)(l:Nat)(hA:H->Nat->A)(zf:X->Nat->A)(ag:α->List A)(yld:α->X×H->Option (Bool×(X×H))):Prop:=
 ∀a q b u,yld a q=some (b,u)->YLD P l (ag a) (hzP hA zf q) (hzP hA zf u) b
def ITR{H α:Type}(P:Program)(fn:Nat)(u:List (List T))(hA:H->Nat->A)(ag:α->List A)(M:(X:Type)->(α->X×H->Option (Bool×(X×H)))->X×H->Option (X×H)):Prop:=
 ∀(X:Type) (l:Nat) (zf:X->Nat->A) (I:∀x,zDy (zf x)) (yld:α->X×H->Option (Bool×(X×H))) (hy:YLs P l hA zf ag yld) (q r:X×H),M X yld q=some r->∃y,FCH P fn (.t (.d (.lit (yv l)))::u.map A.imt) [] [] (hzP hA zf q) (hzP hA zf r) y
def stOK(bs:List Nat)(g:Nat):SL->Prop
 |[]=>True
 |(s,x)::r=>(((Nat.blt s OB&& !bs.contains s&& !(s==g))=true/\zSi x=true)\/((Nat.ble OB s&&Nat.blt s HK)=true/\x= .free))/\stOK bs g r
theorem stOK.get{bs:List Nat}{g:Nat}:∀{L:SL},stOK bs g L->∀s,gt L s= .any\/(s<OB/\s∉bs/\s≠g/\zSi (gt L s)=true)\/(OB<=s/\s<HK/\gt L s= .free)
 |[],_,s=> .inl rfl
 |(t,x)::r,h,s=>by rw[zR,upd];by_cases e:s=t;(subst e;rw[if_pos rfl];rcases h.1 with⟨u,I⟩|⟨u,I⟩;(simp only[wI,vX,vP,decide_eq_false_iff_not,beq_eq_false_iff_ne]at u;exact .inr (.inl ⟨by simpa using u.1.1,u.1.2,u.2,I⟩));(simp only[wI]at u;exact .inr (.inr ⟨wZ u.1,by simpa using u.2,I⟩)));(rw[if_neg e];exact stOK.get h.2 s)
theorem all_nil{α:Type}{p:α->Prop}:∀x∈([]:List α),p x:=λ_ h=>by cases h
theorem all_cons{α:Type}{p:α->Prop}{a:α}{l:List α}(h:p a)(k:∀x∈l,p x):∀x∈a::l,p x:=λx hx=>by rcases vL.1 hx with rfl|hx;exact h;exact k x hx
def BxS(L:SL):List Nat->List (List T)->Prop
 |s::r,c::k=>gt L s= .box c/\BxS L r k
 |[],[]=>True
 |_,_=>False
theorem BxS.get:∀{bs:List Nat} {cs:List (List T)},BxS L bs cs->∀(i s:Nat),bs[i]? =some s->∃c,cs[i]? =some c/\gt L s= .box c
 |[],[],_,i,s,h=>by simp at h
 |b::bs,c::cs,h,0,s,e=>by injection e with e;subst e;exact⟨c,rfl,h.1⟩
 |b::bs,c::cs,h,i+1,s,e=>by simpa using BxS.get h.2 i s (by simpa using e)
theorem box_get:∀{bs:List Nat} {cs:List (List T)} {R:SL},bs.Nodup->cs.length=bs.length->∀(i s:Nat),bs[i]? =some s->∃c,cs[i]? =some c/\gt (bs.zip (cs.map A.box)++R) s= .box c:=by intro bs cs R hn hl i s u;have I:=(wB.1 u).1;refine⟨cs[i],wF (by omega),?_⟩;rw[zPW _ _ _ _ (by rw[wL,hl]),zDn hn u];grind
theorem s_less{x y:Code}{Q:Exit->SL->Prop}(L':SL)(u:WkS L L')(hr:wkOK L L'=true)(h:zMP P pins N x y Q L'):zMP P pins N x y Q L:=
 λU J Z W m0 X G a w I=>h U J Z W m0 X G a w (I.weaken u hr)
theorem c_itr{i g fn:Nat}{bs ps:List Nat}{caps:List (List T)}{assign body rest:Code}{Q:Exit->SL->Prop}{α B H:Type}{b0:B}{w0:H}(L0:SL)(cf:B->List (List T)){hA:H->Nat->A}{ag:α->List A}{rnd:α->B->H->Option (Bool×B×H)}{M:(X:Type)->(α->X×H->Option (Bool×(X×H)))->X×H->Option (X×H)}{x:(Bool×B)×H}
(hit:ITR P fn caps hA ag M)(h:M _ (lpY rnd) ((true,b0),w0)=some x)(hNC:∀w,NC (hA w))
(hc:(!pins.contains DK&&Nat.ble N OB&&Nat.ble ps.length OB&&bs.all (λb=>Nat.blt b N&& !ps.contains b&& !(b==g))&&ps.all (Nat.blt · N)&&Nat.blt g OB)=true)(hn:bs.Nodup)(hpn:ps.Nodup)
(hcl:∀b,(cf b).length=bs.length)(hcc:∀b,∀c∈cf b,nzC c)(hag:∀a,(ag a).length=ps.length/\(ag a).all A.plain=true)(hcaps:∀l∈caps,capC l)(hst:stOK bs g L0){F:Func}(hfn:P.funcs[fn]? =some F)(hbody:F.body.isNone=false)(hname:(F.name== "runtime.NumGoroutine")=false)
(hw:WkS L ((HK,.hp (hA w0))::(g,.cl fn caps)::(bs.zip ((cf b0).map A.box)++L0)))(hr:zHi ((HK,.hp (hA w0))::(g,.cl fn caps)::(bs.zip ((cf b0).map A.box)++L0))=true)
(round:∀a b w y,rnd a b w=some y->qK P bs N assign (λe L1=>e= .normal/\qK P bs N body (λe L2=>((e= .normal/\y.1=true)\/(e= .ret/\y.1=false))/\gt L2 HK= .hp (hA y.2.2)/\BxS L2 bs (cf y.2.1)) L1) (LR ps (ag a) (hA w) bs (cf b) L0))
(hret:x.1.1=false->Q .ret (LA (hA x.2) bs (cf x.1.2) L0))(hrest:x.1.1=true->qK P pins N rest (λe L2=>e= .ret/\Q .ret L2) (LA (hA x.2) bs (cf x.1.2) L0)):
 zMP P (DK::pins) N (.block i (.rangeFunc (.tmp g) ps.toArray assign body)) rest Q L:=by
 simp only[wI,vX,vP,decide_eq_false_iff_not,wG,beq_eq_false_iff_ne]at hc
 obtain⟨⟨⟨⟨⟨k1,k2⟩,k3⟩,k4⟩,k5⟩,k6⟩:=hc
 have k2:=wZ k2
 have k3:=wZ k3
 have k6:g<OB:=by simpa using k6
 have hgK:g≠HK:=by unfold HK;unfold OB at k6;omega
 have hbN:∀b∈bs,b<N:=λb hb=>by simpa using(k4 b hb).1.1
 have hbK:HK∉bs:=λhb=>by have:=hbN _ hb;unfold HK at this;unfold OB at k2;omega
 have hpsN:∀p∈ps,p<N:=λp hp=>by simpa using k5 p hp
 refine s_less _ hw hr ?_
 have hgt:∀s,s≠HK->s≠g->s∉bs->gt ((HK,.hp (hA w0))::(g,.cl fn caps)::(bs.zip ((cf b0).map A.box)++L0)) s=gt L0 s:=λs h1 h2 h3=>by rw[zR,zE h1,zR,zE h2,zPW _ _ _ _ (by rw[wL,hcl])];(cases hq:posN bs s with|none=>rfl|some i=>exact absurd (wC (zCS hq)) h3)
 refine c_range (f:=hA w0) (f':=hA x.2) (cs:=cf b0) (cs':=cf x.1.2) (b:=x.1.1) (L0:=L0) k1 k2 (by rw[zR,zT]) (hNC _) (hNC _) (hcl _) (hcl _) (hcc _) (hcc _) hn hbN (λi s hi=> ?_) (by rw[zR,zE hgK,zR,zT]) hcaps (λs=> ?_) hfn hbody hname ?_ hret hrest
 · obtain⟨c,e1,e2⟩:=box_get (R:=L0) hn (hcl b0) i s hi;have hm:=wC hi;exact⟨c,e1,by rw[zR,zE (λe=>hbK (by rw[<-e];exact hm)),zR,zE (k4 s hm).2];exact e2⟩
 · rcases hst.get s with e|⟨e1,e2,e3,e4⟩|⟨e1,e2,e3⟩;grind;(rw[hgt s (by unfold HK;unfold OB at e1;omega) e3 e2];grind);grind
 · intro l r mE oE hH hs hp hps has hbo;refine hit (Bool×B) l (λz=>zA l (.loop (if z.1 then r else{r with state:= .done,pending:=some .ret})) mE oE (cf z.2)) (λz=>pure_zA (hcc _)) (lpY rnd) ?_ ((true,b0),w0) x h;rintro a ⟨⟨al,b⟩,w⟩ b' q' hy;unfold lpY at hy;(cases al with|false=>cases hy|true=>have hy:Option.bind (rnd a b w) (λy=>some (y.1,((y.1,y.2.1),y.2.2)))=some (b',q'):=hy;(cases hq:rnd a b w with|none=>grind|some y=>rw[hq]at hy;have hy:some (y.1,((y.1,y.2.1),y.2.2))=some (b',q'):=hy;cases hy;subst has hbo;have R:=round a b w y hq;refine yld_mk (L0:=L0) k2 hn hbN hpn hpsN (λp hp hb=>(k4 p hb).1.2 hp) k3 hH hs hp hps (hag a).1 (hag a).2 (hNC _) (hNC _) (hcl _) (hcl _) (hcc _) (hcc _) ?_;intro Fe ne hF w1 m1 o1 G1 a1 w2 hS;refine wpIn_mono (R Fe ne hF w1 m1 o1 G1 a1 w2 hS) ?_;rintro e a2 w3 ⟨L1,⟨he,hB⟩,hS1⟩;refine⟨L1,⟨he,?_⟩,hS1⟩;intro Fe ne hF w1 m1 o1 G1 a1 w2 hS;refine wpIn_mono (hB Fe ne hF w1 m1 o1 G1 a1 w2 hS) ?_;rintro e a2 w3 ⟨L2,⟨he,hk,hbx⟩,hS1⟩;exact⟨L2,⟨he,hk,hbx.get⟩,hS1⟩))
def rfs:Code->List (Code×Code)
 | .seq a b=>rfs a++rfs b
 | .block _ c=>rfs c
 | .cond _ a b=>rfs a++rfs b
 | .loop c=>rfs c
 | .rangeFunc _ _ a b=>[(a,b)]
 |_=>[]
def rfN(F:Func)(k:Nat):Code×Code:=(rfs (zGq F)).getD k (.skip,.skip)
theorem zTd{R:Type}(Z:P.follows .mixedOrders=true)(fr:List Nat){fn:FuncId}{F:Func}(hf:P.funcs[fn]? =some F){args ins:List A}{outs:R->List A}{f:Nat->A}{f':R->Nat->A}{y:R->A}(T:Tr P R [])
(h:(zK8 F args.length ins.length fr,(λx=>Nat.blt (outs x).length OB),(chk F.ntmps (λ_=>finH P F.results.toList outs f' y) 100000 (DK::zGn ins.length) FEnv.nil [] (.c (zGq F)) (zGh fr args ins f) T).l)=(true,(λ_=>true),(chk F.ntmps (λ_=>finH P F.results.toList outs f' y) 100000 (DK::zGn ins.length) FEnv.nil [] (.c (zGq F)) (zGh fr args ins f) T).r))(r:R)(hr:T.run Env.nil=some r):FCH P fn args ins (outs r) f (f' r) (y r):=by
 simp only[Prod.mk.injEq]at h
 obtain⟨I,h3,h2⟩:=h
 unfold zK8 at I
 simp only[wI]at I
 obtain⟨⟨⟨⟨⟨q1,q2⟩,q3⟩,W⟩,q5⟩,U⟩:=I
 have J:∀r,Nat.blt (outs r).length OB=true:=λr=>congrFun h3 r
 refine fch_mkR fr hf (zR7 q1) rfl (wZ q2) (tY).symm (pins:=DK::zGn ins.length) ?_ rfl ?_
 · rw[q3,W,q5,J r];split;(rename_i t e _;simp only[e]at U;rw[U];rfl);rfl
 · exact zSz Z (λb x L c hc hl e=>by subst e;have u:endH P F.results.toList (outs x) (f' x) (y x) .ret L:=finH_ok hc hl;(cases b<;>exact u)) 100000 (Γ:=[]) _ _ Env.nil (λ_ _=>True) [] (.c (zGq F)) _ T (λk hk=>by cases hk) (λX m=>nomatch m) h2 hr
section
variable {P:Program}{α B H:Type}
def RndOK(P:Program)(fn k:Nat)(bs U:List Nat)(ag:α->List A)(hA:H->Nat->A)(J:B->List (List T))(L0:SL)(u:α->B->H->Option (Bool×B×H)):Prop:=
 ∀F,P.funcs[fn]? =some F->∀a b w y,u a b w=some y->qK P bs F.ntmps (rfN F k).1 (λe Z=>e= .normal/\qK P bs F.ntmps (rfN F k).2 (λe I=>((e= .normal/\y.1=true)\/(e= .ret/\y.1=false))/\gt I HK= .hp (hA y.2.2)/\BxS I bs (J y.2.1)) Z) (LR U (ag a) (hA w) bs (J b) L0)
def bxPL(L:SL):List Nat->List (List T)->PL
 |s::r,c::k=>⟨gt L s,.box c⟩::bxPL L r k
 |[],[]=>[]
 |_,_=>[bp false]
theorem bxPL_ok:∀{bs:List Nat} {cs:List (List T)},okL (bxPL L bs cs)->BxS L bs cs
 |_::_,_::_,h=>⟨h.1,bxPL_ok h.2⟩
 |[],[],_=>trivial
 |[],_::_,h=>Bool.noConfusion h.1
 |_::_,[],h=>Bool.noConfusion h.1
def finR(hA:H->Nat->A)(bs:List Nat)(u:B->List (List T))(I:Bool)(y:Bool×B×H)(L:SL):Option PL:=some (⟨y.1,I⟩::⟨gt L HK,.hp (hA y.2.2)⟩::bxPL L bs (u y.2.1))
theorem rnd_chk(hm:P.follows .mixedOrders=true){fn:Nat}{F:Func}(hf:P.funcs[fn]? =some F)(k:Nat){bs J:List Nat}{ag:α->List A}{hA:H->Nat->A}{u:B->List (List T)}{L0:SL}(T:α->B->H->Tr P (Bool×B×H) [])
  (h:(λa b w=>(chk F.ntmps (finR hA bs u) 100000 bs FEnv.nil [.a (rfN F k).2] (.c (rfN F k).1) (LR J (ag a) (hA w) bs (u b) L0) (T a b w)).l)=λa b w=>(chk F.ntmps (finR hA bs u) 100000 bs FEnv.nil [.a (rfN F k).2] (.c (rfN F k).1) (LR J (ag a) (hA w) bs (u b) L0) (T a b w)).r):RndOK P fn k bs J ag hA u L0 (λa b w=>(T a b w).run Env.nil):=by
 intro F' I a b w y hy
 rw[hf]at I
 cases I
 exact zSz hm (r:=y) (Q0:=λe U=>((e= .normal/\y.1=true)\/(e= .ret/\y.1=false))/\gt U HK= .hp (hA y.2.2)/\BxS U bs (u y.2.1)) (λnb x L c hc hl e=>by
  subst e
  cases hc
  obtain⟨Z,q2,q3⟩:=hl
  refine⟨?_,q2,bxPL_ok q3⟩
  cases nb with
  |true=>exact .inl ⟨rfl,Z⟩
  |false=>exact .inr ⟨rfl,Z⟩) 100000 (Γ:=[]) bs FEnv.nil Env.nil (λ_ _=>True) [.a (rfN F k).2] (.c (rfN F k).1) _ (T a b w) (λi W k hk=>by
  rw[tH]at W
  subst W
  cases hk) (λX m=>nomatch m) (congrFun (congrFun (congrFun h a) b) w) hy
def rg{fn γ k:Nat}{u:List (List T)}{ag:α->List A}{β:α->B->H->Option (Bool×B×H)}{M:(X:Type)->(α->X×H->Option (Bool×(X×H)))->X×H->Option (X×H)}{bs I:List Nat}{cf:B->List (List T)}{hA:H->Nat->A}{b0:B}{W:H}{x:(Bool×B)×H}{L0:SL}(g:Nat)(ws:List Nat)
(θ:ITR P fn u hA ag M)(R:RndOK P γ k bs I ag hA cf L0 β)(h:M _ (lpY β) ((true,b0),W)=some x)(κ:∀w,NC (hA w))(μ:∀b,(cf b).length=bs.length)(ζ:∀b,∀c∈cf b,nzC c)(δ:∀a,(ag a).length=I.length/\(ag a).all A.plain=true)(ε:stOK bs g L0):RgRule P where
 pr N y L:=match y,P.funcs[γ]? with
  | .block _ (.rangeFunc (.tmp g') J U bo),some Z=>some (⟨g',g⟩::⟨J.toList,I⟩::⟨(U,bo),rfN Z k⟩::⟨N,Z.ntmps⟩::bp (fnOK P fn)::bp (Nat.ble N OB&&Nat.ble I.length OB&&bs.all (λb=>Nat.blt b N&& !I.contains b&& !(b==g))&&I.all (Nat.blt · N)&&Nat.blt g OB)::bp (zPp bs)::bp (zPp I)::bp (u.all λl=>l.all capB)::fits ws L ((HK,.hp (hA W))::(g,.cl fn u)::(bs.zip ((cf b0).map A.box)++L0)),x.1.1,LA (hA x.2) bs (cf x.1.2) L0)
  |_,_=>none
 ok pins N y rest L c b LA' Q hp hc hdk ht hf:=by split at hp;(rename_i i g' J U bo Z η;cases hp;obtain⟨q1,q2,q3,q4,q5,q6,q7,q8,ι,q9,ν⟩:=hc;have q1:g'=g:=q1;have q2:J.toList=I:=q2;have q3:(U,bo)=rfN Z k:=q3;have q4:N=Z.ntmps:=q4;obtain⟨F,f1,f2,f3⟩:=zLP q5;(have e4:J=I.toArray:=by rw[<-q2]);subst q1 e4;have R1:=R Z η;rw[<-q3,<-q4]at R1;refine c_itr L0 cf θ h κ ?_ (zL2 q7) (zL2 q8) μ ζ δ (λl hl x hx=>wG.1 (wG.1 ι l hl) x hx) ε f1 f2 f3 (zMX ν) q9 R1 hf ht;rw[vP];have q6:_=true:=q6;simp only[hdk,decide_false,Bool.not_false,Bool.true_and];exact q6);cases hp
end
structure ItC(P:Program){α H:Type}(hA:H->Nat->A)(ag:α->List A)(X:Type)(yld:α->X×H->Option (Bool×(X×H)))where
 l:Nat
 zf:X->Nat->A
 hz:∀x,zDy (zf x)
 hy:YLs P l hA zf ag yld
theorem zIE{t:Nat}{p:Option Nat}{l:List T}(h:nzT (.opt t p)=true)(hl:nzC l):nzC (.opt t p::l):=zMK ⟨h,λ_ e=>nomatch e⟩ hl
theorem zJI{t j off E k n:Nat}{l:List T}(ht:t<63)(hl:nzC l):nzC (.hvw (cd t j) off E k n::l):=zMK ⟨by show(!(cd t j %64==63))=true;rw[zRj (by omega)];simp;omega,λ_ e=>nomatch e⟩ hl
theorem zJi{t j:Nat}{l:List T}(ht:t<63)(hl:nzC l):nzC (.mpt (OB+cd t j)::l):=zMK ⟨by
 show(!(Nat.ble OB (OB+cd t j)&&(OB+cd t j-OB) %64==63))=true
 rw[wP,zRj (by omega)]
 have:(t==63)=false:=by simp;omega
 rw[this,Bool.and_false]
 rfl,λi e=>by injection e with e;omega⟩ hl
theorem nz_fl{α:Type}(c:α->List D):∀(l:List α),nzC (fl (dT c) l):=by intro l x hx;unfold fl at hx;obtain⟨a,_,u⟩:=List.mem_flatMap.1 hx;unfold dT at u;obtain⟨d,_,rfl⟩:=vQ.1 u;exact⟨rfl,λ_ e=>nomatch e⟩
theorem arM_nbox{κ ν:Type}{kv:κ->Value}{cv:ν->D}{ms:List (List (κ×ν))}{i:Nat}{l:List T}(h:arM kv cv ms i= .box l):False:=by unfold arM at h;grind
theorem arM_nrcd{κ ν:Type}{kv:κ->Value}{cv:ν->D}{ms:List (List (κ×ν))}{i b:Nat}{u:Obj}{J:Mem}{I:Nat->Option (Nat×Nat)}(h:arM kv cv ms i= .rcd b u J I):False:=by unfold arM at h;grind
def itL{α H X:Type}{hA:H->Nat->A}{ag:α->List A}{yld:α->X×H->Option (Bool×(X×H))}:Option (ItC P hA ag X yld)->Nat
 |some z=>z.l
 |none=>0
section
variable {P:Program}{α H X:Type}{hA:H->Nat->A}{ag:α->List A}{yld:α->X×H->Option (Bool×(X×H))}
def itH(z:Option (ItC P hA ag X yld))(q:X×H):Nat->A:=match z with
 |some z=>hzP hA z.zf q
 |none=>hA q.2
instance [hP:∀w,PuH (hA w)](z:Option (ItC P hA ag X yld))(q:X×H):PuH (itH z q):=⟨by(cases z with|none=>exact(hP _).h|some z=>exact zNm (λw=>(hP w).h) z.hz q)⟩
def yr(z:Option (ItC P hA ag X yld))[hP:∀w,PuH (hA w)]{a:α}{q:X×H}{x:Bool×(X×H)}(h:yld a q=some x):YRule P where
 pr pins N L op:=match z,op.dst,op.op with
  |some z,some d,.call {callee:= .value fx,args:=⟨xs⟩,argTypes:=_}=>some (bp (okD N pins (gt L) d)::⟨vO (gt L) fx,some (yv z.l)⟩::⟨gt L HK,.hp (itH (some z) q)⟩::bp (Nat.ble (ag a).length OB)::zPL (xs.map (cpO (gt L))) (ag a),[(HK,.hp (itH (some z) x.2)),(d,.t (.d (.lit (.bool x.1))))])
  |_,_,_=>none
 ok pins N L op c e hp hc:=by split at hp;(rename_i z d fx xs ts U I;cases hp;obtain⟨J,W,Z,u,q5⟩:=hc;exact y_call (Mk.refl _) Z I W U J (z.hy _ _ _ _ h) (zNm (λw=>(hP w).h) z.hz _) (zNm (λw=>(hP w).h) z.hz _) (zGF q5) u);cases hp
def cRZ(z:Option (ItC P hA ag X yld))[hP:∀w,PuH (hA w)](q:X×H){fn:Nat}{args:List A}{y:A}(hf:FCH P fn args [] [] (hA q.2) (hA q.2) y)(u:∀w,NC (hA w)):yM P where
 hk:=[HK]
 pr pins N M op:=match z with
  |some z=>zPY P pins N M fn args y (λd=>([bp (zUB y),⟨M HK,.hp (itH (some z) q)⟩,bp (args.all nzA)],[(d,y)])) op
  |none=>none
 ok pins N S M op c e hM hd h hc:=by split at h;(rename_i z;obtain⟨d,fx,xs,ts,F,W,h2,h3,h4,h5,h6,h7,Z,h9,⟨I,U,J,_⟩,rfl⟩:=zLe h hc;exact zQL hM (hM.get U (by simp)) (σ:=[]) (fr:=[]) h2 h3 W (zB0 h4 (hd d W)) h5 h6 h7 (FCH.more hf (u _).toNZ (u _).toNZ J (wZ Z) (z.zf q.1)) (zNm (λw=>(hP w).h) z.hz q) zTV rfl rfl rfl (zGF h9) Z (zOj I));cases h
theorem itr_chk(U:P.follows .mixedOrders=true){fn:Nat}{F:Func}(hf:P.funcs[fn]? =some F)(fr:List Nat){u:List (List T)}{hA:H->Nat->A}{ag:α->List A}(T:(X:Type)->(yld:α->X×H->Option (Bool×(X×H)))->Option (ItC P hA ag X yld)->X×H->Tr P (X×H) [])
(I:∀X yld z q,(T X yld none q).run Env.nil=(T X yld (some z) q).run Env.nil)
(h:(zK8 F (u.length+1) 0 fr,(λX yld (z:ItC P hA ag X yld) q=>(chk F.ntmps (λ_=>finH P F.results.toList (λ_=>[]) (itH (some z)) (λ_=> .tup [])) 100000 [] FEnv.nil [] (.c (zGq F)) (zGh fr (.t (.d (.lit (yv z.l)))::u.map A.imt) [] (itH (some z) q)) (T X yld (some z) q)).l))=(true,λX yld z q=>(chk F.ntmps (λ_=>finH P F.results.toList (λ_=>[]) (itH (some z)) (λ_=> .tup [])) 100000 [] FEnv.nil [] (.c (zGq F)) (zGh fr (.t (.d (.lit (yv z.l)))::u.map A.imt) [] (itH (some z) q)) (T X yld (some z) q)).r)):
 ITR P fn u hA ag (λX yld q=>(T X yld none q).run Env.nil):=by
 intro X l zf J yld hy q r hr
 have Z:=congrFun (congrFun (congrFun (congrFun (congrArg Prod.snd h) X) yld) (⟨l,zf,J,hy⟩:ItC P hA ag X yld)) q
 have W:=congrArg Prod.fst h
 refine⟨.tup [],zM U fr hf (args:= .t (.d (.lit (yv l)))::u.map A.imt) (ins:=[]) (outs:=λ_=>[]) (f:=hzP hA zf q) (f':=λr=>hzP hA zf r) (y:=λ_=> .tup []) (T X yld (some ⟨l,zf,J,hy⟩) q) ?_ r (by rw[<-I];exact hr)⟩
 have e:(A.t (.d (.lit (yv l)))::u.map A.imt).length=u.length+1:=by simp
 rw[e]
 refine Prod.ext W (Prod.ext ?_ Z)
 rfl
end
end Go.Proofs.YtocolhfjpadaoaaGreatDoor
namespace Go.Proofs.YtocolhfjpadaoaaGreatDoor
inductive V where
 |mk(k n:Int)(b:List UInt8)(l:List V)
namespace V
def k:V->Int| .mk k _ _ _=>k
def n:V->Int| .mk _ n _ _=>n
def b:V->List UInt8| .mk _ _ b _=>b
def l:V->List V| .mk _ _ _ l=>l
def ht:V->Nat
 | .mk _ _ _ l=>hts l+1
where hts:List V->Nat
 |[]=>0
 |x::r=>max (ht x) (hts r)
inductive Fit:V->Prop
 |mk (v:V) (h1:v.b.length<=9223372036854775807) (h2:v.l.length<=9223372036854775807) (h:∀x,x∈v.l->Fit x):Fit v
theorem Fit.len{v:V}(h:Fit v):v.l.length<=9223372036854775807:=by cases h;assumption
end V
end Go.Proofs.YtocolhfjpadaoaaGreatDoor
namespace Go.Proofs.YtocolhfjpadaoaaGreatDoor
open Go Go.RowKit
variable {P:Program}{w0:World}{w:World}{m0:Mem}{m:Mem}{o0:OwnM}{o:OwnM}{G:GD}{pins:List Nat}{N:Nat}{a:Act}{op:Oper}{S:Nat->A}{M:Nat->A}{L:SL}{v:Value}{W:World}{Q:Mem}{X:OwnM}
def V.cells:V->List D
 | .mk k n b l=>[.lit (.int .i64 k),.lit (.int .i64 n),.seq 1 (qV b),.seq 4 (cellss l)]
where cellss:List V->List (List D)
 |[]=>[]
 |x::r=>V.cells x::cellss r
abbrev A.p(c o:Nat):A:= .t (.hpt c o)
theorem a1{σ:List Nat}{x y:A}(h:ArgH σ x y):zKB σ [x] [y]:= .cons h .nil
theorem a2{σ:List Nat}{x y x' y':A}(h:ArgH σ x y)(u:ArgH σ x' y'):zKB σ [x,x'] [y,y']:= .cons h (a1 u)
theorem a3{σ:List Nat}{x y x' y' u I:A}(h:ArgH σ x y)(U:ArgH σ x' y')(J:ArgH σ u I):zKB σ [x,x',u] [y,y',I]:= .cons h (a2 U J)
theorem r1{τ:List Nat}{x:T}(h:x.isPt=false):ResH τ (.t x) (.t x):= .t (.flat h)
theorem r2{τ:List Nat}{x y:T}(h:(x.isPt,y.isPt)=(false,false)):ResH τ (.tup [x,y]) (.tup [x,y]):= .tup (.cons (.flat (Prod.mk.inj h).1) (.cons (.flat (Prod.mk.inj h).2) .nil))
theorem r3{τ:List Nat}{x y z:T}(h:(x.isPt,y.isPt,z.isPt)=(false,false,false)):ResH τ (.tup [x,y,z]) (.tup [x,y,z]):= .tup (.cons (.flat (Prod.mk.inj h).1) (.cons (.flat (Prod.mk.inj (Prod.mk.inj h).2).1) (.cons (.flat (Prod.mk.inj (Prod.mk.inj h).2).2) .nil)))
section
variable {P:Program}{pins:List Nat}{N:Nat}{ops:Array Oper}{Q:SL->Prop}{r:List Oper}{op:Oper}{L:SL}{f f':Nat->A}{fn d:Nat}{args:List A}{y y':A}{xs:List Operand}{ts:Array TypeId}{fx:Operand}{F:Func}
abbrev kT(ops:Array Oper)(pins:List Nat)(N:Nat)(L:SL)(op:Oper)(j t d:Nat):=(op.guard,(ops[j]?).bind (·.dst),gt L t,op.dst,okD N pins (gt L) d)
end
theorem eR{rs:List ResultVar}{f':Nat->A}{y:A}(h:resA P (gt L) rs=some y)(u:gt L HK= .hp f'):endH P rs [] f' y .ret L:=⟨⟨_,h,.r⟩,trivial,u⟩
def idxA{α:Type}(n:Nat)(l:List α)(i:Int):Option α:=if 0<=i/\i<n then l[i.toNat]? else none
theorem zQC{α:Type}{n:Nat}{l:List α}{i:Int}{x:α}:idxA n l i=some x↔(0<=i/\i<n)/\l[i.toNat]? =some x:=by unfold idxA;grind
theorem zPh{α:Type}{n:Nat}{l:List α}{i:Int}{x:α}(h:idxA n l i=some x):idx l i=some x:=by obtain⟨⟨u,_⟩,I⟩:=zQC.1 h;unfold idx;grind
theorem zRh{α:Type}{n:Nat}{l:List α}{i:Int}{x:α}(h:idxA n l i=some x):0<=i/\i<n:=(zQC.1 h).1
set_option maxHeartbeats 4000000
set_option maxRecDepth 20000
def insI(x:Int):List Int->List Int
 |[]=>[x]
 |y::r=>if x<=y then x::y::r else y::insI x r
def isI:List Int->List Int
 |[]=>[]
 |x::r=>insI x (isI r)
theorem zNw(x:Int):∀l,(insI x l).Perm (x::l)
 |[]=> .refl _
 |y::r=>by unfold insI;split;exact .refl _;exact((zNw x r).cons y).trans (.swap x y r)
theorem zTH:∀l,(isI l).Perm l
 |[]=> .refl _
 |x::r=>(zNw x _).trans ((zTH r).cons x)
theorem zN3(x:Int):∀l,l.Pairwise (· <=·)->(insI x l).Pairwise (· <=·)
 |[],_=>by simp[insI]
 |y::r,h=>by rw[tJ]at h;unfold insI;split;(rename_i u;refine tJ.2 ⟨λz hz=> ?_,tJ.2 h⟩;rcases vL.1 hz with rfl|hz;exact u;exact Int.le_trans u (h.1 z hz));(refine tJ.2 ⟨λz hz=> ?_,zN3 x r h.2⟩;rcases vL.1 ((zNw x r).mem_iff.1 hz)with rfl|hz;omega;exact h.1 z hz)
theorem isI_eq(l:List Int):isI l=l.mergeSort λx y=>decide (x<=y):=by(have h:∀l:List Int,(isI l).Pairwise (· <=·):=λl=>by(induction l with|nil=>exact .nil|cons x r J=>exact zN3 x _ J));refine((zTH l).trans (List.mergeSort_perm l _).symm).eq_of_pairwise (le:=(· <=·)) (λa b _ _ u I=>Int.le_antisymm u I) (h l) ?_;(exact(List.pairwise_mergeSort (le:=λx y:Int=>decide (x<=y)) (λa b c u I=>by simp at*;omega) (λa b=>by simp;omega) l).imp λh=>by simpa using h)
def zPr{ν:Type}(l:List (Int×ν)):Option (List Int):=
 if l.length*8<=140737488355328/\(l.map (·.1)).Nodup/\∀p∈l,-9223372036854775808<=p.1/\p.1<=9223372036854775807 then some (isI (l.map (·.1)))else none
theorem keysI_iff{ν:Type}{l:List (Int×ν)}{z:List Int}(h:zPr l=some z):(l.length*8<=140737488355328/\(l.map (·.1)).Nodup/\∀p∈l,-9223372036854775808<=p.1/\p.1<=9223372036854775807)/\z=(l.map (·.1)).mergeSort λx y=>decide (x<=y):=by unfold zPr at h;split at h;rename_i u;injection h with h;exact⟨u,by rw[<-h,isI_eq]⟩;cases h
def KeysW(P:Program)(fn g:Nat):Prop:=∃T,∀(u:Option Nat) (W:World),Calls P fn #[.map u] W λe w'=>e= .returned (.func (.func g) #[] #[.pointer (some ⟨W.heap.size,0,none⟩)])/\w'=W.alloc (.cells #[.map u] T)
def zR6(P:Program)(fn g kt:Nat):Prop:=∃E,∀(b J U:Nat) (u:DataW Unit) (R:Value->Option (DataW Unit×List MemPlace)) (w:World),w.ownsMap P kt R b U u->J<w.heap.size->w.cell? ⟨J,0,none⟩=some (.map (some b))->Maps.size u<=maxLen->Maps.size u*8<=140737488355328->
 Calls P fn #[.func (.func g) #[] #[.pointer (some ⟨J,0,none⟩)]] w λe w'=>∃(v:Value) (I:List Int),e= .returned v/\I.Perm (intKeys u)/\w'.ownsRow w.heap.size E 1 v I.length ((I.mergeSort λx y=>decide (x<=y)).map encZ)/\Below w.heap.size w w'
section
variable {w0:World}{m0:Mem}{o0:OwnM}{G:GD}{pins:List Nat}{S M:Nat->A}{a:Act}{w:World}{m:Mem}{o:OwnM}{P:Program}{N:Nat}{op:Oper}{d:Nat}{f:Nat->A}{c:Nat}
theorem h_keys(hM:Mk M S){fn g:Nat}{x fx:Operand}{ts:Array TypeId}(hK:KeysW P fn g)(hop:op.op= .call {callee:= .value fx,args:=⟨[x]⟩,argTypes:=ts})(hfx:vO M fx=some (.func (.func fn) #[] #[]))(hx:cpO M x= .t (.mpt (OB+c)))(hd:op.dst=some d)(hok:okD N pins S d=true){F:Func}(hfn:P.funcs[fn]? =some F)(hbody:F.body.isNone=false)(hname:(F.name== "runtime.NumGoroutine")=false):OpH P pins N op S (app S [(d,.cl g [[.mpt (OB+c)]])]):=by
 refine .of' (e:=[(d,_)]) λhN hlo=>⟨?_,zBz (qG hN hok)⟩
 intro w0 m0 o0 G a w m o hNa I K Q hK2
 obtain⟨h1,h2,h3⟩:=zS (qR hN hok)
 have hxr:=qA hM.hx I x 0
 rw[hx]at hxr
 obtain⟨gm,k1,k2⟩:=hxr
 unfold Oper.wp
 rw[zOM hM.hx I (xs:=[x]) hop hfx hfn hbody hname]
 simp only[vB,uB]
 rw[k2]
 obtain⟨T,hK⟩:=hK
 refine Calls.mono (hK (some gm) w) ?_
 rintro e w' ⟨rfl,rfl⟩
 have J:=I.put (w':=w.alloc (.cells #[.map (some gm)] T)) (m':=newM m w.heap.size λp=>(#[Value.map (some gm)]:Array Value)[p]?) d (.cl g [[.mpt (OB+c)]]) (.func (.func g) #[] #[.pointer (some ⟨w.heap.size,0,none⟩)]) (by omega) h2
  ⟨_,rfl,rfl,λi l hi=>by(cases i with|succ i=>simp at hi|zero=>cases hi;refine⟨w.heap.size,rfl,λj z hj=> ?_⟩;(cases j with|succ j=>simp at hj|zero=>cases hj;exact⟨.map (some gm),by rw[zB5];rfl,gm,k1,rfl⟩))⟩
  (I.same.trans ((Same.alloc (λ_=>False) w _).weaken λ_ h=>h.elim)) (λb p u hu=>by unfold newM at hu;split at hu;(rename_i e;subst e;have e2:(w.alloc (.cells #[.map (some gm)] T)).heap[w.heap.size]? =some (.cells #[.map (some gm)] T (0,0)):=(MapKept.heap_alloc w _).1;simp only[World.cell?,e2];exact hu);(have h1:=I.sat b p u hu;(have hlt:b<w.heap.size:=by have:=wT w _ h1;simpa using this);rw[vS (w:=w) ((Same.alloc (λ_=>False) w _).block b hlt id)];exact h1))
  (zMo I (wJ _) _) (λb hb=>by funext p;unfold newM;rw[if_neg (by omega)]) (λb hb=>(Same.alloc (λ_=>False) w _).block b hb id) (Same.alloc (λ_=>False) w _).size
 rw[<-hd]at J
 exact hK2 _ _ _ _ (by rw[zCW,hNa]) J
theorem rows_z(l:List Int)(i:Nat)(r:List D)(h:(l.map λz=>[D.lit (.int .i64 z)])[i]? =some r):∃z,l[i]? =some z/\r=[.lit (.int .i64 z)]:=by rw[wH]at h;(cases hz:l[i]? with|none=>rw[hz]at h;cases h|some z=>rw[hz]at h;injection h with h;exact⟨z,rfl,h.symm⟩)
theorem h_sortedK{ν:Type}{cv:ν->D}(hM:Mk M S)(hk:S HK= .hp f){fn g s kt:Nat}{fx:Operand}{ts:Array TypeId}{l:List (Int×ν)}{z:List Int}(hW:zR6 P fn g kt)(hkt:P.underlying kt=some (.int .i64))(hop:op.op= .call {callee:= .value fx,args:=⟨[.tmp s]⟩,argTypes:=ts})(hfx:vO M fx=some (.func (.func fn) #[] #[]))(hxs:M s= .cl g [[.mpt (OB+c)]])(hf:f c=mpA (λz:Int=>Value.int .i64 z) cv l)(hz:zPr l=some z)(hd:op.dst=some d)(hok:okD N pins S d=true){F:Func}(hfn:P.funcs[fn]? =some F)(hbody:F.body.isNone=false)(hname:(F.name== "runtime.NumGoroutine")=false):OpH P pins N op S (app S [(d,.t (.d (.seq 1 (z.map λz=>[.lit (.int .i64 z)]))))]):=by
 obtain⟨⟨q1,q2,q3⟩,rfl⟩:=keysI_iff hz
 refine .of' (e:=[(d,_)]) λhN hlo=>⟨?_,zBz (qG hN hok)⟩
 intro w0 m0 o0 G a w m o hNa I K Q hK2
 obtain⟨h1,h2,h3⟩:=zS (qR hN hok)
 have hs:=I.slots s
 have hMs:hx S s= .cl g [[.mpt (OB+c)]]:=by
  rcases hM s with e|e
  · rw[e]at hxs;cases hxs
  · rw[e]at hxs;exact zBq hxs (by simp)
 rw[hMs]at hs
 obtain⟨ptrs,p1,p2,p3⟩:=hs
 obtain⟨Bm,r1,r2⟩:=p3 0 _ rfl
 obtain⟨um,r3,gm,r4,rfl⟩:=r2 0 _ rfl
 have hm:=I.slots (OB+(OB+c))
 rw[zE6 hlo hk,hf]at hm
 obtain⟨gm',s1,s2,es,ck,s3,s4,s5⟩:=hm
 obtain rfl:=I.inj _ _ _ r4 s1
 have hE:=zTP (vT:=λv=>T.d (cv v)) (zRq hkt) s5
 have hcell:=I.sat _ _ _ r3
 have hBm:Bm<w.heap.size:=by have:=wT w _ hcell;simpa using this
 have hptr:ptrs= #[.pointer (some ⟨Bm,0,none⟩)]:=by
  apply Array.ext_getElem?
  intro i
  cases i with
  |zero=>rw[r1];rfl
  |succ i=>rw[uE (by rw[p2];simp)];simp
 have hkeys:es.toList.map (·.key)=l.map λp=>Value.int .i64 p.1:=by
  apply sJ
  intro i
  rw[wH,wH]
  cases hl:l[i]? with
  |none=>
   rw[uI (by rw[hE.1];exact List.getElem?_eq_none_iff.1 hl)]
   rfl
  |some p=>
   obtain⟨e,e1,e2,_⟩:=hE.2 i p hl
   rw[e1]
   simp[e2]
 let R:Value->Option (DataW Unit×List MemPlace):=λ_=>some (.map [],[])
 have hrd:∀x∈es.toList,∃a:Int,x.key= .int .i64 a/\ -9223372036854775808<=a/\a<=9223372036854775807:=λx hx=>by
  have:x.key∈es.toList.map (·.key):=vQ.2 ⟨x,hx,rfl⟩
  rw[hkeys]at this
  obtain⟨p,hp,e⟩:=vQ.1 this
  exact⟨p.1,e.symm,q3 p hp⟩
 have hko:∀a:Int,-9223372036854775808<=a->a<=9223372036854775807->keyOf P kt (.int .i64 a)=some (.int .i64 a):=λa h h'=>by
  have hwf:(Lit.int .i64 a).wf=true:=by simp[Lit.wf,IntKind.min,IntKind.max,IntKind.signed,IntKind.bits];omega
  simp[keyOf,hkt,mapKey,hwf]
 have hsz:es.size=l.length:=by have:=hE.1;simpa using this
 have hmax:l.length<=maxLen:=by unfold maxLen;omega
 have hstamp:MapKept.Stamped es ck:=(MapKept.stamped_iff es ck).2 ⟨s4.1,s4.2,by
  have h5:(es.toList.map (·.key)).Nodup:=by
   rw[hkeys]
   have:(l.map λp=>Value.int .i64 p.1)=(l.map (·.1)).map λz=>Value.int .i64 z:=by rw[List.map_map];rfl
   rw[this]
   exact List.pairwise_map.2 (q2.imp λhab e=>hab (by injection e))
  exact List.pairwise_map.1 h5⟩
 have hrdv:∀x∈es.toList,∃a:Int,x.key= .int .i64 a/\WideElems.rg P kt R x=(Lit.int .i64 a,.map [])/\∃y,WideElems.rd P kt R x=some y:=λx hx=>by
  obtain⟨a,e1,e2,e3⟩:=hrd x hx
  have:WideElems.rd P kt R x=some (Lit.int .i64 a,.map []):=by
   unfold WideElems.rd
   rw[e1,hko a e2 e3]
   rfl
  exact⟨a,e1,WideElems.rg_of this,_,this⟩
 have hown:w.ownsMap P kt R gm es.size (.map ((es.toList.map (WideElems.rg P kt R)).foldr DataW.insert [])):=
  ⟨es,ck,s3,⟨by rw[hsz];exact hmax,hstamp,λx hx=>(hrdv x hx).choose_spec.2.2⟩,wJ _,rfl⟩
 have hperm:(intKeys (.map ((es.toList.map (WideElems.rg P kt R)).foldr DataW.insert []))).Perm (l.map (·.1)):=by
  have e1:(intKeys (.map ((es.toList.map (WideElems.rg P kt R)).foldr DataW.insert []))).Perm ((es.toList.map (WideElems.rg P kt R)).map λp=>Go.intOf p.1):=(WideShapes.sorted_perm _).map _
  refine e1.trans (List.Perm.of_eq ?_)
  have e2:(es.toList.map (WideElems.rg P kt R)).map (λp=>Go.intOf p.1)=(es.toList.map (·.key)).map λv=>match v with| .int _ z=>z|_=>0:=by
   rw[List.map_map,List.map_map]
   refine tE λx hx=> ?_
   obtain⟨a,e1,e2,_⟩:=hrdv x hx
   simp only[Function.comp,e2,e1]
   rfl
  rw[e2,hkeys,List.map_map]
  rfl
 have hsize:Maps.size (.map ((es.toList.map (WideElems.rg P kt R)).foldr DataW.insert []))=l.length:=by
  show((es.toList.map (WideElems.rg P kt R)).foldr DataW.insert []).length=_
  rw[length_sorted,wL]
  simpa using hsz
 unfold Oper.wp
 rw[zOM hM.hx I (xs:=[.tmp s]) hop hfx hfn hbody hname]
 simp only[vB,uB]
 rw[show a.eval (.tmp s)= .func (.func g) #[] #[.pointer (some ⟨Bm,0,none⟩)] by rw[<-hptr];exact p1]
 obtain⟨E,hW⟩:=hW
 refine Calls.mono (hW gm Bm es.size _ R w hown hBm hcell (by rw[hsize];exact hmax) (by rw[hsize];exact q1)) ?_
 rintro e w' ⟨v,ss,rfl,hss,hrow,hb⟩
 have hsort:ss.mergeSort (λx y=>decide (x<=y))=(l.map (·.1)).mergeSort λx y=>decide (x<=y):=mergeSort_of_perm_i (hss.trans hperm)
 rw[hsort]at hrow
 have hlen:ss.length=((l.map (·.1)).mergeSort λx y=>decide (x<=y)).length:=by rw[<-hsort,List.length_mergeSort]
 rw[hlen]at hrow
 generalize((l.map (·.1)).mergeSort λx y=>decide (x<=y))=z at hrow hK2
 have hS:Same (λ_=>False) w w':=Same.of_below hb
 have hsat:∀b p u,m b p=some u->w'.cell? ⟨b,p,none⟩=some u:=λb p u hu=>by
  have h1:=I.sat b p u hu
  have hlt:b<w.heap.size:=by have:=wT w _ h1;simpa using this
  rw[vS (w:=w) (hS.block b hlt id)]
  exact h1
 have hwid:∀(i:Nat) (r:List D),(z.map λz=>[D.lit (.int .i64 z)])[i]? =some r->r.length=1:=λi r h=>by
  obtain⟨_,_,rfl⟩:=rows_z z i r h
  rfl
 rcases hrow.2 with⟨rfl,hz0⟩|⟨g',cap,cur,rfl,hg0,hg1,hg2,hg3,hg4,hg5⟩
 ·
  have:z=[]:=vF hz0
  subst this
  have J:=I.put (w':=w') (m':=m) d (.t (.d (.seq 1 []))) (.slice none 0 0) (by omega) h2 (.seq 1 [] none 0 0 0 (λ_ _=>undef) (wJ _) (uF _) (λh=>absurd rfl h) (λi r h=>by simp at h) (λi r j d h=>by simp at h) (λi r j d h=>by simp at h)) (I.same.trans (hS.weaken λ_ h=>h.elim)) hsat (Mle.refl _) (λ_ _=>rfl) (λb hb'=>hS.block b hb' id) hS.size
  rw[<-hd]at J
  exact hK2 _ _ _ _ (by rw[zCW,hNa]) J
 ·
  have hxl:(z.map encZ).length=z.length:=wL ..
  have J:=I.put (w':=w') (m':=newM m g' λp=>(z.map encZ)[p]?) d (.t (.d (.seq 1 (z.map λz=>[.lit (.int .i64 z)])))) (.slice (some ⟨g',0,none⟩) z.length cap) (by omega) h2 (by
   have e1:RepD (newM m g' λp=>(z.map encZ)[p]?) (.seq 1 (z.map λz=>[.lit (.int .i64 z)])) (.slice (some ⟨g',0,none⟩) (z.map λz=>[D.lit (.int .i64 z)]).length cap):=by
    refine .seq 1 _ _ cap g' 0 (λi _=>((z.map encZ)[i]?).getD undef) (by rw[wL];exact hg2) hg3 (λ_=>rfl) hwid (λi r j dd hi hj=> ?_) (λi r j dd hi hj=> ?_)
    ·
     obtain⟨v,hv,rfl⟩:=rows_z z i r hi
     cases j with
     |succ j=>simp at hj
     |zero=>
      rw[zB5,vJ,uQ,uP,wH,hv]
      rfl
    ·
     obtain⟨v,hv,rfl⟩:=rows_z z i r hi
     cases j with
     |succ j=>simp at hj
     |zero=>
      cases hj
      show RepD _ _ (((z.map encZ)[i]?).getD undef)
      rw[wH,hv]
      exact .lit _ rfl
   rw[wL]at e1
   exact e1) (I.same.trans (hS.weaken λ_ h=>h.elim)) (λb p u hu=>by
   unfold newM at hu
   split at hu
   ·
    rename_i e
    subst e
    change(z.map encZ)[p]? =some u at hu
    rw[<-hg5,vR]at hu
    split at hu
    ·
     simp only[World.cell?,hg1]
     simpa using hu
    · cases hu
   · exact hsat b p u hu) (zMo I hg0 _) (λb hb'=>by funext p;unfold newM;rw[if_neg (by omega)]) (λb hb'=>hS.block b hb' id) hS.size
  rw[<-hd]at J
  exact hK2 _ _ _ _ (by rw[zCW,hNa]) J
end
section
variable {P:Program}
def keysR{c fn g:Nat}(hK:KeysW P fn g):yM P where
 hk:=[]
 pr pins N M op:=match op.dst,op.op with
  |some d,.call {callee:= .value fx,args:=⟨[x]⟩,argTypes:=_}=>some ([bp (fnOK P fn),bp (okD N pins M d),⟨vO M fx,some (.func (.func fn) #[] #[])⟩,⟨cpO M x,.t (.mpt (OB+c))⟩],[(d,.cl g [[.mpt (OB+c)]])])
  |_,_=>none
 ok pins N S M op c0 e hM hd h hc:=by split at h;(rename_i d fx x ts u Z;cases h;obtain⟨q1,q2,q3,J,_⟩:=hc;obtain⟨F,U,I,W⟩:=zLP q1;exact h_keys hM hK Z q3 J u (zB0 q2 (hd d u)) U I W);cases h
def sortedR{ν:Type}{cv:ν->D}{f:Nat->A}{c fn g kt:Nat}{l:List (Int×ν)}{z:List Int}(U:zR6 P fn g kt)(u:P.underlying kt=some (.int .i64))(hf:f c=mpA (λz:Int=>Value.int .i64 z) cv l)(hz:zPr l=some z):yM P where
 hk:=[HK]
 pr pins N M op:=match op.dst,op.op with
  |some d,.call {callee:= .value fx,args:=⟨[.tmp s]⟩,argTypes:=_}=>some ([bp (fnOK P fn),bp (okD N pins M d),⟨vO M fx,some (.func (.func fn) #[] #[])⟩,⟨M s,.cl g [[.mpt (OB+c)]]⟩,⟨M HK,.hp f⟩],[(d,.t (.d (.seq 1 (z.map λz=>[.lit (.int .i64 z)]))))])
  |_,_=>none
 ok pins N S M op c0 e hM hd h hc:=by split at h;(rename_i d fx s ts I h2;cases h;obtain⟨q1,q2,q3,Z,q5,_⟩:=hc;obtain⟨F,W,J,f3⟩:=zLP q1;exact h_sortedK hM (hM.get q5 (by simp)) U u h2 q3 Z hf hz I (zB0 q2 (hd d I)) W J f3);cases h
end
end Go.Proofs.YtocolhfjpadaoaaGreatDoor
namespace Go.Proofs.YtocolhfjpadaoaaGreatDoor
open Go Go.RowKit Go.Maps Go.Sort Go.Shelf
set_option linter.unusedVariables false
def zNF:Go.Shelf.Ren:=⟨λ |7=>201|10=>285|n=>n,λ |23=>293|26=>3|3=>22|28=>304|0=>0|27=>303|33=>255|4=>4|n=>n,λ |n=>n⟩
theorem zTr:Go.Proofs.SlLaysZI.n7 Tryz.prog zNF:={
 mixed:=by kernel_rfl
 f7:=⟨Tryz.f201.name,by decide,Tryz.func201.trans (congrArg some (by kernel_rfl))⟩
 f10:=⟨Tryz.f285.name,by decide,Tryz.func285.trans (congrArg some (by kernel_rfl))⟩
 t0:=Tryz.underlying0
 a0:=Tryz.isAgg0
 z0:=Tryz.sizeOf0
 v0:=Tryz.zeroValue0
 t4:=Tryz.underlying4
 a4:=Tryz.isAgg4
 z4:=Tryz.sizeOf4
 v4:=Tryz.zeroValue4
 t23:=Tryz.underlying293
 a23:=Tryz.isAgg293
 z23:=Tryz.sizeOf293
 v23:=Tryz.zeroValue293
 t26:=Tryz.underlying3
 a26:=Tryz.isAgg3
 z26:=Tryz.sizeOf3
 v26:=Tryz.zeroValue3
 t27:=Tryz.underlying303
 a27:=Tryz.isAgg303
 z27:=Tryz.sizeOf303
 v27:=Tryz.zeroValue303
 t28:=Tryz.underlying304
 a28:=Tryz.isAgg304
 z28:=Tryz.sizeOf304
 v28:=Tryz.zeroValue304
 t33:=Tryz.underlying255
 a33:=Tryz.isAgg255
 z33:=Tryz.sizeOf255
 v33:=Tryz.zeroValue255}
def zKf:Go.Shelf.Ren:=⟨λ |6=>200|8=>284|9=>82|11=>335|13=>175|12=>174|23=>269|24=>209|14=>260|15=>261|16=>262|17=>263|18=>264|19=>265|20=>266|21=>267|22=>268|25=>322|26=>323|27=>324|28=>325|29=>326|30=>327|31=>354|n=>n,λ |26=>3|28=>304|24=>29|0=>0|3=>3|37=>279|48=>383|50=>299|4=>4|40=>376|39=>375|45=>273|5=>5|9=>9|51=>418|55=>422|57=>454|58=>81|33=>255|n=>n,λ |n=>n⟩
theorem zT3:Go.Proofs.SlLaysZI.n6 Tryz.prog zKf:={
 mixed:=by kernel_rfl
 f6:=⟨Tryz.f200.name,by decide,Tryz.func200.trans (congrArg some (by kernel_rfl))⟩
 f8:=⟨Tryz.f284.name,by decide,Tryz.func284.trans (congrArg some (by kernel_rfl))⟩
 f11:=⟨Tryz.f335.name,by decide,Tryz.func335.trans (congrArg some (by kernel_rfl))⟩
 t0:=Tryz.underlying0
 a0:=Tryz.isAgg0
 z0:=Tryz.sizeOf0
 v0:=Tryz.zeroValue0
 t24:=Tryz.underlying29
 a24:=Tryz.isAgg29
 z24:=Tryz.sizeOf29
 v24:=Tryz.zeroValue29
 t26:=Tryz.underlying3
 a26:=Tryz.isAgg3
 z26:=Tryz.sizeOf3
 v26:=Tryz.zeroValue3
 t28:=Tryz.underlying304
 a28:=Tryz.isAgg304
 z28:=Tryz.sizeOf304
 v28:=Tryz.zeroValue304
 i26:=by kernel_rfl}
def zQy:Go.Shelf.Ren:=⟨λ |5=>82|8=>175|7=>174|19=>269|20=>209|10=>260|11=>261|12=>262|13=>263|14=>264|15=>265|16=>266|17=>267|18=>268|30=>322|31=>323|32=>324|33=>325|34=>326|35=>327|40=>354|n=>n,λ |23=>29|25=>3|3=>3|32=>279|22=>29|0=>0|44=>383|46=>299|4=>4|36=>376|35=>375|41=>273|5=>5|9=>9|53=>418|57=>422|63=>454|64=>81|n=>n,λ |n=>n⟩
theorem zTD:Go.Proofs.SlLaysM.n5 Tryz.prog zQy:={
 mixed:=by kernel_rfl
 f5:=⟨Tryz.f82.name,by decide,Tryz.func82.trans (congrArg some (by kernel_rfl))⟩
 f7:=⟨Tryz.f174.name,by decide,Tryz.func174.trans (congrArg some (by kernel_rfl))⟩
 f8:=Tryz.func175.trans (congrArg some (by kernel_rfl))
 f10:=⟨Tryz.f260.name,by decide,Tryz.func260.trans (congrArg some (by kernel_rfl))⟩
 f11:=⟨Tryz.f261.name,by decide,Tryz.func261.trans (congrArg some (by kernel_rfl))⟩
 f12:=⟨Tryz.f262.name,by decide,Tryz.func262.trans (congrArg some (by kernel_rfl))⟩
 f13:=⟨Tryz.f263.name,by decide,Tryz.func263.trans (congrArg some (by kernel_rfl))⟩
 f14:=⟨Tryz.f264.name,by decide,Tryz.func264.trans (congrArg some (by kernel_rfl))⟩
 f15:=⟨Tryz.f265.name,by decide,Tryz.func265.trans (congrArg some (by kernel_rfl))⟩
 f16:=⟨Tryz.f266.name,by decide,Tryz.func266.trans (congrArg some (by kernel_rfl))⟩
 f17:=⟨Tryz.f267.name,by decide,Tryz.func267.trans (congrArg some (by kernel_rfl))⟩
 f18:=⟨Tryz.f268.name,by decide,Tryz.func268.trans (congrArg some (by kernel_rfl))⟩
 f19:=Tryz.func269.trans (congrArg some (by kernel_rfl))
 f20:=Tryz.func209.trans (congrArg some (by kernel_rfl))
 f30:=⟨Tryz.f322.name,by decide,Tryz.func322.trans (congrArg some (by kernel_rfl))⟩
 f31:=Tryz.func323.trans (congrArg some (by kernel_rfl))
 f32:=Tryz.func324.trans (congrArg some (by kernel_rfl))
 f33:=⟨Tryz.f325.name,by decide,Tryz.func325.trans (congrArg some (by kernel_rfl))⟩
 f34:=⟨Tryz.f326.name,by decide,Tryz.func326.trans (congrArg some (by kernel_rfl))⟩
 f35:=⟨Tryz.f327.name,by decide,Tryz.func327.trans (congrArg some (by kernel_rfl))⟩
 f40:=⟨Tryz.f354.name,by decide,Tryz.func354.trans (congrArg some (by kernel_rfl))⟩
 t0:=Tryz.underlying0
 a0:=Tryz.isAgg0
 z0:=Tryz.sizeOf0
 v0:=Tryz.zeroValue0
 t3:=Tryz.underlying3
 a3:=Tryz.isAgg3
 z3:=Tryz.sizeOf3
 v3:=Tryz.zeroValue3
 t4:=Tryz.underlying4
 a4:=Tryz.isAgg4
 z4:=Tryz.sizeOf4
 v4:=Tryz.zeroValue4
 t5:=Tryz.underlying5
 a5:=Tryz.isAgg5
 z5:=Tryz.sizeOf5
 v5:=Tryz.zeroValue5
 t9:=Tryz.underlying9
 a9:=Tryz.isAgg9
 z9:=Tryz.sizeOf9
 v9:=Tryz.zeroValue9
 t22:=Tryz.underlying29
 a22:=Tryz.isAgg29
 z22:=Tryz.sizeOf29
 v22:=Tryz.zeroValue29
 t23:=Tryz.underlying29
 a23:=Tryz.isAgg29
 z23:=Tryz.sizeOf29
 v23:=Tryz.zeroValue29
 t25:=Tryz.underlying3
 a25:=Tryz.isAgg3
 z25:=Tryz.sizeOf3
 v25:=Tryz.zeroValue3
 t32:=Tryz.underlying279
 a32:=Tryz.isAgg279
 z32:=Tryz.sizeOf279
 v32:=Tryz.zeroValue279
 t35:=Tryz.underlying375
 a35:=Tryz.isAgg375
 z35:=Tryz.sizeOf375
 v35:=Tryz.zeroValue375
 t36:=Tryz.underlying376
 a36:=Tryz.isAgg376
 z36:=Tryz.sizeOf376
 v36:=Tryz.zeroValue376
 t41:=Tryz.underlying273
 a41:=Tryz.isAgg273
 z41:=Tryz.sizeOf273
 v41:=Tryz.zeroValue273
 t44:=Tryz.underlying383
 a44:=Tryz.isAgg383
 z44:=Tryz.sizeOf383
 v44:=Tryz.zeroValue383
 t46:=Tryz.underlying299
 a46:=Tryz.isAgg299
 z46:=Tryz.sizeOf299
 v46:=Tryz.zeroValue299
 t53:=Tryz.underlying418
 a53:=Tryz.isAgg418
 z53:=Tryz.sizeOf418
 v53:=Tryz.zeroValue418
 t57:=Tryz.underlying422
 a57:=Tryz.isAgg422
 z57:=Tryz.sizeOf422
 v57:=Tryz.zeroValue422
 t63:=Tryz.underlying454
 a63:=Tryz.isAgg454
 z63:=Tryz.sizeOf454
 v63:=Tryz.zeroValue454
 t64:=Tryz.underlying81
 a64:=Tryz.isAgg81
 z64:=Tryz.sizeOf81
 v64:=Tryz.zeroValue81}
theorem sk_sorts(m:Nat):AnyZI.SortsIn Tryz.prog zKf Fence.wide m:=
 ⟨λblk off cap J W U u I=>callsIn_wide.2 (AnyM.slices_Sort_int zTD blk off cap J W U u I),
  λp cap W=>callsIn_wide.2 (AnyM.slices_Sort_int_none zTD p cap W)⟩
theorem keysW:KeysW Tryz.prog 201 285:=
 ⟨293,λu W=>(callsIn_wide (n:=5)).1 (AnyZI.keys_in zTr Fence.wide 5 trivial rfl u W)⟩
theorem sortedW:zR6 Tryz.prog 200 285 3:=
 ⟨3,λb Bm nn D0 R w J Z hm U u=>by have I:SeqGives Fence.wide 2 Tryz.prog 285 #[.pointer (some ⟨Bm,0,none⟩)] encZ (λW=>W.Perm (intKeys D0)) (Maps.size D0) w:=AnyZI.keys_gives (ρ:=zNF) {zTr with} Fence.wide _ trivial rfl (by omega) Bm b nn D0 w Z hm J;have cS:=AnyZI.sorted_in zT3 Fence.wide 5 trivial trivial trivial trivial rfl (by omega) (sk_sorts _) (enters_of Tryz.func82 (by kernel_rfl) rfl) 285 #[.pointer (some ⟨Bm,0,none⟩)] trivial (enters_of Tryz.func285 (by kernel_rfl) rfl) _ _ U u _ I;refine((callsIn_wide (n:=5)).1 cS).mono ?_;rintro e w' ⟨v,W,rfl,h1,h2,_,h4⟩;exact⟨v,W,rfl,h1,h2,h4⟩⟩
end Go.Proofs.YtocolhfjpadaoaaGreatDoor
namespace Go.Proofs.YtocolhfjpadaoaaGreatDoor
open Go.Shelf
end Go.Proofs.YtocolhfjpadaoaaGreatDoor
namespace Go.Proofs.YtocolhfjpadaoaaGreatDoor
open Go Go.RowKit
variable {P:Program}{w0:World}{w:World}{m0:Mem}{m:Mem}{o0:OwnM}{o:OwnM}{G:GD}{pins:List Nat}{N:Nat}{a:Act}{op:Oper}{S:Nat->A}{M:Nat->A}{L:SL}{v:Value}{W:World}{Q:Mem}{X:OwnM}
set_option maxRecDepth 20000
noncomputable def zJL(u:Int):TT Int []:=
.r (IntKind.u32.wrap ((((BitVec.ofInt IntKind.u32.bits 4294967295)^^^(BitVec.ofInt IntKind.u32.bits u)).toNat:Nat):Int))
noncomputable def zI9(Z:Int)(u:Int)(I:Int):TT Int [Int×Int,Int×Int,Int×Int,Int]:=
.i 77 (decide (I<8)) (λJ=> .i 86 ((IntKind.u32.wrap ((((BitVec.ofInt IntKind.u32.bits u)&&&(BitVec.ofInt IntKind.u32.bits 1)).toNat:Nat):Int))==1) (λU=> .n [] .z ((IntKind.u32.wrap ((((BitVec.ofInt IntKind.u32.bits (Int.fdiv u (2^1)))^^^(BitVec.ofInt IntKind.u32.bits 3988292384)).toNat:Nat):Int)),(wi (I+1)))) λU=>
.n [] .z ((Int.fdiv u (2^1)),(wi (I+1)))) λJ=>
.n [] (.s .z) (u,(wi (Z+1)))
noncomputable def zI5(U:(List UInt8))(Z:(List (List UInt8)))(z3:Int)(W:Int)(J:Int):TT Int [Int×Int,Int×Int,Int]:=
.i 53 (decide (J<(U.length:Int))) (λh9=> .b (idx U J) λu I=>
.w 18 (idxC (c:=cU8) I) (.oe (idxE (c:=cU8) I))<|
.w 22 trivial (u328E u)<|
.l [] (λ(q:Int×Int)=>[(3,.t (.d (.lit (.int .u32 q.1)))),(8,.t (.d (.seq 1 (List.map (cSl 1 cU8) Z)))),(9,.t (.d (.lit (.int .i64 (Z.length:Int))))),(10,.t (.d (.lit (.int .i64 z3)))),(14,.t (.d (.seq 1 (qV U)))),(15,.t (.d (.lit (.int .i64 (U.length:Int))))),(16,.t (.d (.lit (.int .i64 J)))),(24,.t (.d (.lit (.int .i64 q.2))))]) (Int.toNat 8+1) (λ(q:Int×Int)=>zI9 J q.1 q.2) ((IntKind.u32.wrap ((((BitVec.ofInt IntKind.u32.bits W)^^^(BitVec.ofInt IntKind.u32.bits (u.toNat:Int))).toNat:Nat):Int)),0)) λh9=>
.n [] (.s .z) (W,(wi (z3+1)))
noncomputable def zJp(u:(List (List UInt8)))(Z:Int)(J:Int):TT Int [Int×Int,Int]:=
.i 35 (decide (J<(u.length:Int))) (λW=> .b (idx u J) λI U=>
.w 12 (idxC (c:=(cSl 1 cU8)) U) (.oe (idxE (c:=(cSl 1 cU8)) U))<|
.w 15 trivial (lnE I cU8)<|
.l [] (λ(q:Int×Int)=>[(3,.t (.d (.lit (.int .u32 q.1)))),(8,.t (.d (.seq 1 (List.map (cSl 1 cU8) u)))),(9,.t (.d (.lit (.int .i64 (u.length:Int))))),(10,.t (.d (.lit (.int .i64 J)))),(14,.t (.d (.seq 1 (qV I)))),(15,.t (.d (.lit (.int .i64 (I.length:Int))))),(16,.t (.d (.lit (.int .i64 q.2))))]) (I.length+1) (λ(q:Int×Int)=>zI5 I u J q.1 q.2) (Z,0)) λW=>
.n [] (.s .z) Z
noncomputable def zN0(u:(List (List UInt8))):TT Int []:=
.j 70 (λ(I:Int)=>[(3,.t (.d (.lit (.int .u32 I))))]) (λ(I:Int)=>zJL I)<|
.w 9 trivial (lnE u (cSl 1 cU8))<|
.l [] (λ(q:Int×Int)=>[(3,.t (.d (.lit (.int .u32 q.1)))),(8,.t (.d (.seq 1 (List.map (cSl 1 cU8) u)))),(9,.t (.d (.lit (.int .i64 (u.length:Int))))),(10,.t (.d (.lit (.int .i64 q.2))))]) (u.length+1) (λ(q:Int×Int)=>zJp u q.1 q.2) (4294967295,0)
noncomputable def zJ0(u:(List (List UInt8))):Option Int:=(zN0 u).run Env.nil
theorem zSy(u:(List (List UInt8))):∀r:Int,zJ0 u=some r->FC Tryz.prog 336 [.t (.d (.seq 1 (List.map (cSl 1 cU8) u)))] [] (.t (.d (.lit (.int .u32 r)))):=zAM mixed Tryz.func336 (zN0 u) (by kernel_rfl)
end Go.Proofs.YtocolhfjpadaoaaGreatDoor
