/-
  Lemmas of this claim, joined.
-/
import Derived.Test.YtocolhfjpadaoaaGreatDoorU09
set_option linter.unusedVariables false
set_option linter.unusedSimpArgs false
set_option linter.constructorNameAsVariable false
namespace Go.Proofs.YtocolhfjpadaoaaGreatDoor
open Go Go.RowKit
variable {P:Program}{w0:World}{w:World}{m0:Mem}{m:Mem}{o0:OwnM}{o:OwnM}{G:GD}{pins:List Nat}{N:Nat}{a:Act}{op:Oper}{S:Nat->A}{M:Nat->A}{L:SL}{v:Value}{W:World}{Q:Mem}{X:OwnM}
section
variable {P:Program}
def zvOf(P:Program)(u:Nat):Option Value:=(P.info? u).bind (·.zero)
theorem zTG{u:Nat}{z:Value}(h:zvOf P u=some z):∃i,P.info? u=some i/\i.zero=some z:=by unfold zvOf at h;(cases I:P.info? u with|none=>grind|some i=>grind)
section
variable {κ ν:Type}[BEq κ]{kv:κ->Value}{kT:κ->T}{vT:ν->T}
def mlk(j:Nat)(l:List (κ×ν))(k:κ){kt:Nat}(K:KeyT P kt kv kT){z:ν}{Z:Value}(hz:∀m,RepE m (vT z) Z):qP P where
 hk:=[OB+j]
 pr pins N M op:=match op.dst,op.op with
  |some d,.lookup t x y b=>match cpO M x,P.underlying t with
   | .t (.mpt W),some (.map u et)=>match zvOf P et with
    |some I=>some ([bp (okD N pins M d),⟨W,j⟩,⟨M (OB+j),mpT kT vT l⟩,⟨vK M y,some (kv k)⟩,⟨u,kt⟩,⟨I,Z⟩],[(d,bif b then .tup [vT ((zC5 l k).getD z),.d (.lit (.bool (zC5 l k).isSome))]else .t (vT ((zC5 l k).getD z)))])
    |none=>none
   |_,_=>none
  |_,_=>none
 ok pins N S M op c0 e hM hd h hc:=by
  split at h
  ·
   rename_i d t x y b U h2
   split at h
   ·
    rename_i W u et h3 h4
    split at h
    ·
     rename_i I h5
     cases h
     obtain⟨q1,rfl,q3,q4,rfl,rfl,_⟩:=hc
     obtain⟨i,hi,J⟩:=zTG h5
     cases b with
     |true=>exact h_mlk2T hM h2 h3 q3 q4 h4 K hi J hz U (zAE q1 (hd d U))
     |false=>exact h_mlkT hM h2 h3 q3 q4 h4 K hi J hz rfl U (zAE q1 (hd d U))
    · cases h
   · cases h
  · cases h
def mlkH{f:Nat->A}{c:Nat}{l:List (κ×ν)}(hf:f c=mpT kT vT l)(k:κ){kt:Nat}(K:KeyT P kt kv kT){z:ν}{W:Value}(hz:∀m,RepE m (vT z) W):qP P where
 hk:=[HK]
 pr pins N M op:=match op.dst,op.op with
  |some d,.lookup t x y b=>match cpO M x,P.underlying t with
   | .t (.mpt j'),some (.map u et)=>match zvOf P et with
    |some I=>some ([bp (okD N pins M d),⟨j',OB+c⟩,⟨M HK,.hp f⟩,⟨vK M y,some (kv k)⟩,⟨u,kt⟩,⟨I,W⟩],[(d,bif b then .tup [vT ((zC5 l k).getD z),.d (.lit (.bool (zC5 l k).isSome))]else .t (vT ((zC5 l k).getD z)))])
    |none=>none
   |_,_=>none
  |_,_=>none
 ok pins N S M op c0 e hM hd h hc:=by
  split at h
  ·
   rename_i d t x y b U h2
   split at h
   ·
    rename_i j' u et h3 h4
    split at h
    ·
     rename_i I h5
     cases h
     obtain⟨q1,rfl,Z,q4,rfl,rfl,_⟩:=hc
     obtain⟨i,hi,J⟩:=zTG h5
     have Z:S HK= .hp f:=hM.get Z (by simp)
     cases b with
     |true=>exact h_mlk2HT hM Z h2 h3 hf q4 h4 K hi J hz U (zAE q1 (hd d U))
     |false=>exact h_mlkHT hM Z h2 h3 hf q4 h4 K hi J hz rfl U (zAE q1 (hd d U))
    · cases h
   · cases h
  · cases h
def mup(j:Nat)(l:List (κ×ν))(k:κ)(v:ν){kt:Nat}(K:KeyT P kt kv kT):qP P where
 hk:=[OB+j]
 pr pins N M op:=match op.dst,op.op with
  |none,.mapUpdate t x y z=>match cpO M x,P.underlying t with| .t (.mpt I),some (.map u _)=>some ([⟨I,j⟩,⟨M (OB+j),mpT kT vT l⟩,⟨vK M y,some (kv k)⟩,⟨u,kt⟩,⟨tK M z,some (vT v)⟩,bp (Nat.blt (j+1) OB)],[(OB+j,mpT kT vT (mset l k v))])|_,_=>none
  |_,_=>none
 ok pins N S M op c0 e hM hd h hc:=by split at h;(rename_i t x y z W U;split at h;(rename_i I u et h3 Z;cases h;obtain⟨rfl,q2,q3,rfl,q5,J,_⟩:=hc;exact h_mupT hM U h3 q2 q3 q5 Z K W J);cases h);cases h
def mupH{f f':Nat->A}{c:Nat}{l:List (κ×ν)}(hf:f c=mpT kT vT l)(k:κ)(v:ν){kt:Nat}(K:KeyT P kt kv kT)(I:f'=updF f c (mpT kT vT (mset l k v))):qP P where
 hk:=[HK]
 pr pins N M op:=match op.dst,op.op with
  |none,.mapUpdate t x y z=>match cpO M x,P.underlying t with| .t (.mpt J),some (.map u _)=>some ([⟨J,OB+c⟩,⟨M HK,.hp f⟩,⟨vK M y,some (kv k)⟩,⟨u,kt⟩,⟨tK M z,some (vT v)⟩],[(HK,.hp f')])|_,_=>none
  |_,_=>none
 ok pins N S M op c0 e hM hd h hc:=by split at h;(rename_i t x y z W U;split at h;(rename_i J u et h3 Z;cases h;obtain⟨rfl,q2,q3,rfl,q5,_⟩:=hc;exact h_mupHT hM (hM.get q2 (by simp)) U h3 hf q3 q5 Z K W I);cases h);cases h
end
def mkm(j:Nat):qP P where
 hk:=[OB+j]
 pr pins N M op:=match op.dst,op.op with
  |some d,.makeMap t none=>some ([bp (okD N pins M d),bp (Nat.blt (j+1) OB),⟨M (OB+j),.free⟩],[(OB+j,.mp []),(d,.t (.mpt j))])
  |_,_=>none
 ok pins N S M op c0 e hM hd h hc:=by split at h;(rename_i d t u I;cases h;obtain⟨J,Z,U,_⟩:=hc;exact h_mkm hM I u (zAE J (hd d u)) Z U rfl);cases h
def mkmH{f f':Nat->A}{c:Nat}(hf:f c= .free)(u:f'=updF f c (.mp [])):qP P where
 hk:=[HK]
 pr pins N M op:=match op.dst,op.op with
  |some d,.makeMap t none=>some ([bp (okD N pins M d),⟨M HK,.hp f⟩],[(HK,.hp f'),(d,.t (.mpt (OB+c)))])
  |_,_=>none
 ok pins N S M op c0 e hM hd h hc:=by split at h;(rename_i d t I J;cases h;obtain⟨U,Z,_⟩:=hc;exact h_mkmH (hM.get Z (by simp)) J I (zAE U (hd d I)) hf u);cases h
def apz(s:Nat){Z q:Nat}{n:Int}{l0:List (List D)}{e0:Nat}{z0:Value}{x:A}(hq:apzI Z l0.length n=some q)(hx:A.t (.own e0 1 (l0++List.replicate q [.lit z0]))=x):qP P where
 hk:=[s]
 pr pins N M op:=match op.dst,op.op with
  |some d,.call {callee:= .builtin .append,args:=⟨[.tmp J,y]⟩,argTypes:=⟨[t,tn]⟩}=>match M s,zerF P t tn,vO M y with| .t (.own e 1 l),some (e',u,z),some (.int _ U)=>some ([bp (okD N pins M d),⟨J,s⟩,⟨e',e⟩,⟨u,Z⟩,⟨U,n⟩,⟨l,l0⟩,⟨s==d,false⟩,⟨pins.contains s,false⟩,bp (Nat.blt e OFB),⟨e,e0⟩,⟨z,z0⟩],[(s,.t (.d (.seq 1 l))),(d,x)])|_,_,_=>none
  |_,_=>none
 ok pins N S M op c0 e hM hd h hc:=by split at h;(rename_i d J y t tn W h2;split at h;(rename_i α l e' u z ki U h3 h4 h5;cases h;obtain⟨q1,rfl,rfl,rfl,rfl,rfl,q7,q8,q9,rfl,rfl,_⟩:=hc;subst hx;have I:=zAE q1 (hd d W);exact .of (e:=[(J,_),(d,_)]) λhN=>⟨ok_apz hM.hx h2 W (qA hN I) h4 h5 h3 q7 q8 hq q9,zQS (zGD hM h3 rfl) rfl (zX hN I)⟩);cases h);cases h
def ldS{f:Nat->A}{c:Nat}{l:List T}(hf:f c= .box l):qP P where
 hk:=[HK]
 pr pins N M op:=match op.dst,op.op with
  |some d,.load t x=>match cpO M x,tyA P t with| .t (.hpt u off),some (true,n)=>some ([bp (okD N pins M d),⟨M HK,.hp f⟩,⟨u,c⟩,bp (Nat.beq ((l.drop off).take n).length n),bp (noPt ((l.drop off).take n))],[(d,.t (.agg (((l.drop off).take n).map toD)))])|_,_=>none
  |_,_=>none
 ok pins N S M op c0 e hM hd h hc:=by split at h;(rename_i d t x I U;split at h;(rename_i u off n h3 Z;cases h;obtain⟨W,q2,rfl,J,q5,_⟩:=hc;exact h_lr hM (hM.get q2 (by simp)) U Z h3 hf rfl (wT J) q5 rfl I (zAE W (hd d I)));cases h);cases h
def mkh{f f':Nat->A}{c Z q:Nat}{n:Int}{c0:List T}{l:List T}(hq:mkI Z n=some q)(hl:fl (λ_=>c0) (List.replicate q ())=l)(hf:f c= .free)(I:f'=updF f c (.box l)):qP P where
 hk:=[HK]
 pr pins N M op:=match op.dst,op.op with
  |some d,.makeSlice t U xc=>match vO M U,vO M xc,P.underlying t with
   |some (.int _ n1),some (.int _ n2),some (.slice e)=>match P.info? e with
    |some u=>match u.zero with
     |some z=>match zF6 (litA z)with
      |some J=>some ([bp (okD N pins M d),⟨M HK,.hp f⟩,⟨n1,n⟩,⟨n2,n⟩,⟨u.bytes,Z⟩,⟨J,c0⟩,⟨J.length,u.size⟩,bp (Nat.blt e OFB)],[(HK,.hp f'),(d,.t (.hvw c 0 e u.size q))])
      |none=>none
     |none=>none
    |none=>none
   |_,_,_=>none
  |_,_=>none
 ok pins N S M op c2 e hM hd h hc:=by
  split at h
  ·
   rename_i d t U xc W h2
   split at h
   ·
    rename_i kl n1 kc n2 e h3 h4 h5
    split at h
    ·
     rename_i u h6
     split at h
     ·
      rename_i z h7
      split at h
      ·
       rename_i J h8
       cases h
       obtain⟨q1,q2,rfl,rfl,rfl,rfl,q7,q8,_⟩:=hc
       exact h_mkh hM (hM.get q2 (by simp)) h2 h3 h4 h5 h6 h7 h8 q7 rfl hq hl W (zAE q1 (hd d W)) hf I q8
      · cases h
     · cases h
    · cases h
   · cases h
  · cases h
def mkl(J:Bool)(j:Nat){Z q:Nat}{n:Int}{c0:List T}{l:List T}(hq:mkI Z n=some q)(hl:fl (λ_=>c0) (List.replicate q ())=l):qP P where
 hk:=[OB+j]
 pr pins N M op:=match op.dst,op.op with
  |some d,.makeSlice t U xc=>match vO M U,vO M xc,P.underlying t with
   |some (.int _ n1),some (.int _ n2),some (.slice e)=>match P.info? e with
    |some u=>match u.zero with
     |some z=>match zF6 (litA z)with
      |some I=>some ([bp (okD N pins M d),⟨M (OB+j),.free⟩,⟨n1,n⟩,⟨n2,n⟩,⟨u.bytes,Z⟩,⟨I,c0⟩,⟨I.length,u.size⟩,bp (Nat.blt (j+1) OB),bp (Nat.blt e OFB)],[(OB+j,.box l),(d,.t (.view j 0 (bif J then OFB+e else e) u.size q))])
      |none=>none
     |none=>none
    |none=>none
   |_,_,_=>none
  |_,_=>none
 ok pins N S M op c2 e hM hd h hc:=by
  split at h
  ·
   rename_i d t U xc W h2
   split at h
   ·
    rename_i kl n1 kc n2 e h3 h4 h5
    split at h
    ·
     rename_i u h6
     split at h
     ·
      rename_i z h7
      split at h
      ·
       rename_i I h8
       cases h
       obtain⟨q1,q2,rfl,rfl,rfl,rfl,q7,q8,q9,_⟩:=hc
       exact h_mkl hM h2 h3 h4 h5 h6 h7 h8 q7 rfl hq hl W (zAE q1 (hd d W)) q8 q2 (by cases J<;>first|exact .inl ⟨rfl,by simpa using q9⟩|exact .inr rfl)
      · cases h
     · cases h
    · cases h
   · cases h
  · cases h
def xt:qP P where
 hk:=[]
 pr pins N M op:=match op.dst,op.op with
  |some d,.extract (.tmp s) i=>match M s with
   | .tup l=>match l[i]? with
    |some (.own E k I)=>some ([bp (okD N pins M d),⟨s==d,false⟩],[(s,.tup (l.set i (.d (.seq k I)))),(d,.t (.own E k I))])
    |_=>none
   |_=>none
  |_,_=>none
 ok pins N S M op c0 e hM hd h hc:=by
  split at h
  ·
   rename_i d s i J W
   split at h
   ·
    rename_i l U
    split at h
    ·
     rename_i E k I h4
     cases h
     obtain⟨q1,q2,_⟩:=hc
     have u:=zAE q1 (hd d J)
     have hs:S s= .tup l:=hM.get U (by simp)
     exact .of (e:=[(s,_),(d,_)]) λZ=>⟨ok_xt W (yM hs (by simp)) h4 q2 J (qA Z u),zQS (zGD hM U rfl) rfl (zX Z u)⟩
    · cases h
   · cases h
  · cases h
def mvt:qP P where
 hk:=[]
 pr pins N M op:=match op.dst,op.op with
  |some d,.move (.tmp s)=>match M s with| .tup l=>some ([bp (okD N pins M d),bp (Nat.blt s OB),⟨s==d,false⟩],[(s,.tup (l.map cpT)),(d,.tup l)])|_=>none
  |_,_=>none
 ok pins N S M op c0 e hM hd h hc:=by split at h;(rename_i d s I Z;split at h;(rename_i l J;cases h;obtain⟨W,q2,q3,_⟩:=hc;have u:=zAE W (hd d I);have hs:S s= .tup l:=hM.get J (by simp);exact .of (e:=[(s,_),(d,_)]) λU=>⟨ok_mvt (.inl Z) I (qA U u) (yM hs (by simp)) q2 q3,zQS (zGD hM J rfl) rfl (zX U u)⟩);cases h);cases h
def argPLo(σ:List Nat)(x y:A):PL:=match x,y with
 | .t (.view j off E k n),.t (.view i u I U J)=>[⟨σ[i]?,some j⟩,⟨off,u⟩,⟨k,U⟩,⟨n,J⟩,bp (Nat.beq E I||Nat.beq I 0)]
 | .t (.hvw c off E k n),.t (.hvw Z u I U J)=>[⟨T.hvw c off E k n,.hvw Z u I U J⟩]
 |x,y=>argPL x y
theorem argPLo_ok{σ:List Nat}{x y:A}(h:okL (argPLo σ x y)):ArgH σ x y:=by unfold argPLo at h;split at h;(obtain⟨u,I,U,J,h5,_⟩:=h;subst I U J;have h5:=h5;simp only[Bool.or_eq_true]at h5;rcases h5 with h5|h5;rw[wT h5];exact .view u;rw[wT h5];exact .view0 u);(have h:=h.1;rw[h];exact .hvw _ _ _ _ _);exact zXO h
def zVy(σ:List Nat):List A->List A->PL
 |[],[]=>[]
 |x::r,y::s=>argPLo σ x y++zVy σ r s
 |_,_=>[bp false]
theorem zRr{σ:List Nat}:∀{l l':List A},okL (zVy σ l l')->zIL σ l l'
 |[],[],_=> .nil
 |x::r,y::s,h=> .cons (argPLo_ok (zAz h).1) (zRr (zAz h).2)
 |[],y::s,h=>Bool.noConfusion h.1
 |x::r,[],h=>Bool.noConfusion h.1
def insPL(M:Nat->A):List Nat->List A->PL
 |[],[]=>[]
 |j::r,x::s=>⟨M (OB+j),x⟩::bp (!zVx x)::insPL M r s
 |_,_=>[bp false]
theorem zWr(u:Mk M S):∀{σ:List Nat} {ins:List A},okL (insPL M σ ins)->σ.map (λj=>S (OB+j))=ins
 |[],[],_=>rfl
 |j::r,x::s,⟨J,I,U⟩=>by simp only[vC,List.cons.injEq];exact⟨u.get J (zXJ I),zWr u U⟩
 |[],y::s,h=>Bool.noConfusion h.1
 |x::r,[],h=>Bool.noConfusion h.1
def rsT(τ:List Nat):T->T
 | .view i off E k n=> .view (τ.getD i 0) off E k n
 |x=>x
def rsTok(τ:List Nat):T->Bool
 | .view i _ _ _ _=>Nat.blt i τ.length
 |x=>ptOK x
theorem rsT_r{τ:List Nat}{x:T}(h:rsTok τ x=true):PtR τ x (rsT τ x):=by unfold rsTok at h;unfold rsT;split at h;(rename_i i off E k n;(have h:i<τ.length:=by simpa using h);exact .view (by rw[wB h,wK,wB h];rfl));exact zXH h
def rsA(τ:List Nat):A->A
 | .t x=> .t (rsT τ x)
 | .tup l=> .tup (l.map (rsT τ))
 |x=>x
def rsAok(τ:List Nat):A->Bool
 | .t x=>rsTok τ x
 | .tup l=>l.all (rsTok τ)
 |x=>x.plain
theorem rsA_r{τ:List Nat}{x:A}(h:rsAok τ x=true):ResH τ x (rsA τ x):=by(have tup:∀{l:List T},l.all (rsTok τ)=true->PtRs τ l (l.map (rsT τ)):=by intro l;(induction l with|nil=>intro _;exact .nil|cons x r u=>intro h;simp only[uO,wH]at h;exact .cons (rsT_r h.1) (u h.2)));(cases x with|t x=>exact .t (rsT_r h)|tup l=>exact .tup (tup h)|_=>exact .plain h)
def cOR(σ fr:List Nat){fn:Nat}{args ins outs:List A}{f:Nat->A}{y:A}(hf:FCH P fn args ins outs f f y)[p:PuH f](b3:ins.all A.flatO=true)(b4:outs.all A.flatO=true):qP P where
 hk:=HK::(σ++fr).map (OB+·)
 pr pins N M op:=match op.dst,op.op with
  |some d,.call {callee:= .value fx,args:=⟨xs⟩,argTypes:=_}=>some (bp (fnOK P fn)::bp (okD N pins M d)::bp (Nat.ble args.length OB)::⟨vO M fx,some (.func (.func fn) #[] #[])⟩::bp (zVW M σ fr outs)::bp (rsAok (σ++fr) y)::⟨M HK,.hp f⟩::(insPL M σ ins++zVy σ (xs.map (cpO M)) args),zCq (σ++fr) outs++[(d,rsA (σ++fr) y)])
  |_,_=>none
 ok pins N S M op c e hM hd h hc:=by split at h;(rename_i d fx xs ts I h2;cases h;obtain⟨q1,q2,q3,Z,q5,W,q7,u⟩:=hc;obtain⟨F,f1,J,f3⟩:=zH4 q1;obtain⟨u,U⟩:=zAz u;exact zSv hM (hM.get q7 (by simp)) h2 Z I (zAE q2 (hd d I)) f1 J f3 hf p.h q5 b3 b4 (zWr hM u) (zRr U) q3 (rsA_r W));cases h
def lldA{bx:A}{off:Nat}{l:List T}{z:T}(hb:bx= .box l)(hl:l[off]? =some z):qP P where
 hk:=[]
 pr pins N M op:=match op.dst,op.op with
  |some d,.load t x=>match cpO M x,tyA P t with| .ref b u,some (false,_)=>some ([bp (okD N pins M d),⟨M b,bx⟩,⟨u,off⟩],[(d,norA z)])|_,_=>none
  |_,_=>none
 ok pins N S M op c0 e hM hd h hc:=by split at h;(rename_i d t x J U;split at h;(rename_i b u n h3 Z;cases h;obtain⟨W,I,rfl,_⟩:=hc;have I:M b=bx:=I;exact h_lld hM U Z h3 (I.trans hb) hl rfl J (zAE W (hd d J)));cases h);cases h
def lstA{bx I:A}{off n:Nat}{l l' q:List T}(hb:bx= .box l)(γ:off+n<=l.length)(α:qD l off q=l')(β:I= .box l')(b:Nat):qP P where
 hk:=[b]
 pr pins N M op:=match op.dst,op.op with
  |none,.store t x y=>match cpO M x,P.info? t,zCH (cpO M y)with| .ref U u,some i,some q'=>some ([⟨U,b⟩,⟨M b,bx⟩,⟨u,off⟩,⟨i.size,n⟩,⟨q',q⟩,bp (Nat.beq q.length n)],[(b,I)])|_,_,_=>none
  |_,_=>none
 ok pins N S M op c0 e hM hd h hc:=by split at h;(rename_i t x y h1 h2;split at h;(rename_i U u i q' h3 h4 h5;cases h;obtain⟨J,Z,q2,W,q4,q5,_⟩:=hc;have J:U=b:=J;have Z:M b=bx:=Z;have q2:u=off:=q2;have W:i.size=n:=W;have q4:q'=q:=q4;subst J q2 W q4;rw[β];exact h_lst hM h2 h1 h4 h3 (Z.trans hb) h5 (wT q5) γ α);cases h);cases h
abbrev Ob:=(Nat×{x:A // ∀j,zBa j x=false})
def obPL(os:List Ob)(L:SL):PL:=bp (L.all λp=>Nat.blt p.1 OB||os.any λo=>Nat.beq o.1 p.1)::os.map λo=>⟨gt L o.1,o.2.1⟩
theorem okL_mem:∀{l:PL} {p:Pr},okL l->p∈l->p.x=p.y
 |_::_,_,h,.head _=>h.1
 |_::_,_,h,.tail _ u=>okL_mem h.2 u
theorem gt_any:∀{L:SL} {t:Nat},(∀p∈L,p.1≠t)->gt L t= .any
 |[],_,_=>rfl
 |(s,x)::r,t,h=>by rw[zQ];unfold upd;rw[if_neg (λe=>h (s,x) (by simp) e.symm)];exact gt_any λp hp=>h p (by simp[hp])
theorem zPu{os:List Ob}(h:okL (obPL os L)):ObP L:=λt ht j=>by obtain⟨Z,U⟩:=h;by_cases hp:∃p∈L,p.1=t;(obtain⟨p,hp,e⟩:=hp;have:=wI.1 Z p hp;rw[e]at this;(have hb:Nat.blt t OB=false:=by(cases hb:Nat.blt t OB with|false=>rfl|true=>(have:t<OB:=by simpa using hb);omega));rw[hb,Bool.false_or]at this;obtain⟨o,J,I⟩:=sF.1 this;have I:o.1=t:=wT I;have:=okL_mem U (List.mem_map_of_mem (f:=λo:Ob=>(⟨gt L o.1,o.2.1⟩:Pr)) J);have this:gt L o.1=o.2.1:=this;rw[<-I,this];exact o.2.2 j);(rw[gt_any λp u e=>hp ⟨p,u,e⟩];rfl)
def frzC(pins:List Nat)(d j k:Nat)(L:SL):Bool:=Nat.blt d OB&&Nat.blt (j+1) OB&& !pins.contains (OB+j)&& !pins.contains d&&Nat.blt 0 k&&zIt j d L
section
variable {α:Type}{c:α->List D}
def frzG(d j:Nat){y:List α}{k:Nat}(I:∀a,(c a).length=k){f:Nat->A}[p:PuH f](os:List Ob):zK8 P where
 pr pins N L:=match gt L d with
  | .t (.view u 0 _ J n)=>some (⟨u,j⟩::⟨J,k⟩::⟨n,y.length⟩::⟨gt L (OB+j),gbA c y⟩::bp (frzC pins d j k L)::⟨gt L HK,.hp f⟩::obPL os L,(d,.t (.d (.seq k (y.map c))))::(OB+j,.free)::zA9 j d L)
  |_=>none
 ok pins N L c0 L' h hc W Q X G a w hS:=by split at h;(rename_i u E J n h1;cases h;obtain⟨rfl,rfl,rfl,Z,q5,U,q7⟩:=hc;exact st_frzG d u h1 Z I q5 ⟨.inr ⟨f,U,p.h⟩,zPu q7⟩ rfl hS);cases h
def frzB(d j:Nat){y:List α}{k:Nat}(I:∀a,(c a).length=k){f:Nat->A}[p:PuH f]{n0:Nat}(hn:n0=y.length)(os:List Ob):zK8 P where
 pr pins N L:=match gt L d with
  | .t (.view u 0 _ J n)=>some (⟨u,j⟩::⟨J,k⟩::⟨n,n0⟩::⟨gt L (OB+j),.box (fl (dT c) y)⟩::bp (frzC pins d j k L)::⟨gt L HK,.hp f⟩::obPL os L,(d,.t (.d (.seq k (y.map c))))::(OB+j,.free)::zA9 j d L)
  |_=>none
 ok pins N L c0 L' h hc W Q X G a w hS:=by split at h;(rename_i u E J n h1;cases h;obtain⟨rfl,rfl,rfl,Z,q5,U,q7⟩:=hc;exact st_frz d u h1 Z (by rw[wM];exact hn) (zLb _ _) (zQM I _) q5 ⟨.inr ⟨f,U,p.h⟩,zPu q7⟩ rfl hS);cases h
end
def ownX{α:Type}{c:α->List D}(d j U:Nat){y:List α}{k:Nat}(J:∀a,(c a).length=k)(u:y.isEmpty=false){f:Nat->A}[p:PuH f]{n0:Nat}(hn:n0=y.length)(os:List Ob):zK8 P where
 pr pins N L:=match gt L d with
  | .t (.view I 0 E Z n)=>some (⟨I,j⟩::⟨Z,k⟩::⟨n,n0⟩::⟨E,OFB+U⟩::⟨gt L (OB+j),.box (fl (dT c) y)⟩::bp (frzC pins d j k L)::bp (Nat.blt d N)::⟨gt L HK,.hp f⟩::obPL os L,(d,.t (.own U k (y.map c)))::(OB+j,.free)::zA9 j d L)
  |_=>none
 ok pins N L c0 L' h hc W Q X G a w hS:=by split at h;(rename_i I E Z n h1;cases h;obtain⟨rfl,rfl,rfl,rfl,q4,q5,q8,q6,q7⟩:=hc;exact st_own d I h1 q4 (by rw[wM];exact hn) (λe=>by rw[List.map_eq_nil_iff]at e;rw[e]at u;cases u) (zLb _ _) (zQM J _) q5 q8 ⟨.inr ⟨f,q6,p.h⟩,zPu q7⟩ rfl hS);cases h
theorem ob_fl{α:Type}(c:α->List D)(y:List α)(j:Nat):zBa j (.box (fl (dT c) y))=false:=zWq (zNH _ _) j
def obB{α:Type}(n:Nat)(c:α->List D)(y:List α):Ob:=(OB+n,⟨.box (fl (dT c) y),ob_fl c y⟩)
def obH(f:Nat->A):Ob:=(HK,⟨.hp f,λ_=>rfl⟩)
def obG{α:Type}(n:Nat)(c:α->List D)(y:List α):Ob:=(OB+n,⟨gbA c y,ob_gb c y⟩)
def obM{κ ν:Type}(n:Nat)(kT:κ->T)(vT:ν->T)(l:List (κ×ν)):Ob:=(OB+n,⟨mpT kT vT l,λ_=>rfl⟩)
def fgt{f:Nat->A}[p:PuH f](j:Nat)(os:List Ob):zK8 P where
 pr pins N L:=some (bp (Nat.blt (j+1) OB&& !pins.contains (OB+j)&&zIt j HK L)::⟨gt L HK,.hp f⟩::obPL os L,(OB+j,.free)::zA9 j HK L)
 ok pins N L c0 L' h hc W Q X G a w hS:=by cases h;obtain⟨u,I,J⟩:=hc;exact st_fgt j u ⟨.inr ⟨f,I,p.h⟩,zPu J⟩ rfl hS
def fzV(s:Nat):zK8 P where
 pr pins N L:=match gt L s with
  | .box l=>some ([⟨pins.contains s|| !Nat.blt s OB,false⟩,bp (zLP s L&&noPt l)],(s,.imm (l.map frzD))::L)
  |_=>none
 ok pins N L c0 L' h hc W Q X G a w hS:=by split at h;(rename_i l u;cases h;obtain⟨J,I,_⟩:=hc;exact st_fz s u J I rfl rfl hS);cases h
def fzT(s:Nat):zK8 P where
 pr pins N L:=match gt L s with
  | .box l=>some ([⟨pins.contains s|| !Nat.blt s OB,false⟩,bp (zLP s L&&l.all dhT)],(s,.imt l)::L)
  |_=>none
 ok pins N L c0 L' h hc W Q X G a w hS:=by split at h;(rename_i l u;cases h;obtain⟨J,I,_⟩:=hc;exact st_fzT s u J I rfl hS);cases h
def pubA(j:Nat){α:Type}{cc:α->List D}{y:List α}{c:Nat}{f1 f2:Nat->A}(u:f1 c= .free)(I:∀k,f2 k=if k=c then .box (fl (dT cc) y)else rnA j c (f1 k)):zK8 P where
 pr pins N L:=some ([⟨gt L HK,.hp f1⟩,⟨gt L (OB+j),.box (fl (dT cc) y)⟩,bp (Nat.blt (j+1) OB&& !pins.contains (OB+j))],(HK,.hp f2)::(OB+j,.free)::renL j c L)
 ok pins N L c0 L' h hc W Q X G a w hS:=by cases h;obtain⟨J,Z,U,_⟩:=hc;exact st_pubw j J Z U (zTA (zNH _ _)) u (WkTs.rfl' _) (fl_noAg _ _) I rfl hS
def pubS(j:Nat){c:Nat}{f1 f2:Nat->A}{u:List T}(I:f1 c= .free)(U:∀k,f2 k=if k=c then .box u else rnA j c (f1 k)):zK8 P where
 pr pins N L:=match gt L (OB+j)with
  | .box J=>some (⟨gt L HK,.hp f1⟩::bp (Nat.blt (j+1) OB&& !pins.contains (OB+j))::⟨J.map (rnT j c),J⟩::bp (u.all λx=> !x.isAgg)::wkTs J u,(HK,.hp f2)::(OB+j,.free)::renL j c L)
  |_=>none
 ok pins N L c0 L' h hc W Q X G a w hS:=by split at h;(rename_i J h1;cases h;obtain⟨q1,q2,q3,Z,q5⟩:=hc;exact st_pubw j q1 h1 q2 q3 I (zM9 q5) Z U rfl hS);cases h
def apg{α:Type}{c:α->List D}(j:Nat){nb k:Nat}{l l' z:List α}(hz:appI nb l l'=some z)(δ:∀a,(c a).length=k)(u:0<l'.length){f:Nat->A}[p:PuH f](os:List Ob):YRule P where
 pr pins N L op:=match op.dst,op.op with
  |some d,.call {callee:= .builtin .append,args:=⟨[x,y]⟩,argTypes:=⟨[t,t']⟩}=>match elF P t,cpO (gt L) x,slD k (dO (gt L) y)with|some (E,k',I),.t (.view J 0 E' k2 n),some rs=>some (bp (okD N pins (gt L) d)::⟨t',t⟩::⟨I,nb⟩::⟨k',k⟩::⟨J,j⟩::⟨E',E⟩::⟨k2,k⟩::⟨n,l.length⟩::⟨gt L (OB+j),gbA c l⟩::⟨rs,l'.map c⟩::bp ((Nat.blt 0 E&&Nat.blt E OFB)&&Nat.blt (j+1) OB&& !pins.contains (OB+j)&&((L.map Prod.fst).filter λs=>Nat.blt s OB&&zBa j (gt L s)).all (λs=>Nat.blt s OB&& !(gt L s).isBox))::⟨gt L HK,.hp f⟩::obPL os L,anyE ((L.map Prod.fst).filter λs=>Nat.blt s OB&&zBa j (gt L s))++[(OB+j,gbA c z),(d,.t (.view j 0 E k z.length))])|_,_,_=>none
  |_,_=>none
 ok pins N L op c0 e h hc:=by split at h;(rename_i d x y t t' h1 h2;split at h;(rename_i E k' I J E' k2 n rs h3 h4 h5;injection h with h;injection h with e1 e2;subst e1;obtain⟨q1,rfl,rfl,rfl,rfl,rfl,rfl,rfl,q9,rfl,γ,β,Z⟩:=hc;refine(h_apgI (Mk.refl _) _ hz h2 h3 h4 q9 δ h5 u h1 q1 γ (λs hs=> ?_) (.inr ⟨f,β,p.h⟩) e2).y;have W:=zPu Z;rcases wR s OB with U|hge;(cases hm:zBa J (gt L s)with|false=>rfl|true=>exfalso;rw[vJ,decide_eq_false_iff_not]at hs;refine hs (vM _ (List.mem_filter.2 ⟨?_,by rw[hm,Bool.and_true];simpa using U⟩));refine Classical.byContradiction λhn=> ?_;rw[gt_any λp hp e=>hn (vW.2 ⟨p,hp,e⟩)]at hm;cases hm);exact W s hge J);cases h);cases h
def neI{α:Type}(l:List α):Option Unit:=bif l.isEmpty then none else some ()
theorem neI_E{α:Type}{l:List α}{u:Unit}(h:neI l=some u):l.isEmpty=false:=by unfold neI at h;grind
theorem neI_N{α:Type}{l:List α}{u:Unit}(h:neI l=some u):l≠[]:=λe=>by rw[e]at h;cases h
theorem yH:([]:List A).all A.flatO=true:=rfl
theorem zBA{α:Type}(c:α->List D)(y:List α){r:List A}(h:r.all A.flatO=true):(A.box (fl (dT c) y)::r).all A.flatO=true:=by rw[uO,h,Bool.and_true];exact zNH _ _
theorem zSO{α:Type}(c:α->List D)(y:List α):[gbA c y].all A.flatO=true:=by rw[uO,gb_flatO];rfl
def cpy(j:Nat){α:Type}{c:α->List D}{xl yl v:List α}{off n:Nat}(hc:∀a,(c a).length=1)(hv:cpyI xl off n yl=some v):qP P where
 hk:=[OB+j]
 pr pins N M op:=match op.dst,op.op with
  |some d,.call {callee:= .builtin .copy,args:=⟨[x,y]⟩,argTypes:=⟨[t,_]⟩}=>match cpO M x,P.underlying t,slD 1 (dO M y)with
   | .t (.view I u _ 1 J),some (.slice e),some yr=>match P.info? e with
    |some ie=>some ([bp (okD N pins M d),⟨I,j⟩,⟨u,off⟩,⟨J,n⟩,⟨ie.size,1⟩,⟨M (OB+j),.box (fl (dT c) xl)⟩,⟨yr,yl.map c⟩,bp (Nat.blt (j+1) OB)],[(OB+j,.box (fl (dT c) v)),(d,.t (.d (.lit (.int .i64 ((min yl.length n:Nat):Int)))))])
    |none=>none
   |_,_,_=>none
  |_,_=>none
 ok pins N S M op c0 e hM hd h hcc:=by
  split at h
  ·
   rename_i d x y t t' h1 h2
   split at h
   ·
    rename_i I u E J e yr h3 h4 h5
    split at h
    ·
     rename_i ie h6
     cases h
     obtain⟨q1,q2,Z,W,q5,q6,U,q8,_⟩:=hcc
     have q2:I=j:=q2
     have Z:u=off:=Z
     have W:J=n:=W
     have U:yr=yl.map c:=U
     subst q2 Z W U
     exact h_cpy hM h2 h4 h6 q5 h3 q6 hc h5 hv q8 h1 (zAE q1 (hd d h1))
    · cases h
   · cases h
  · cases h
def cpyS(j:Nat){xl yl v:List UInt8}{off n:Nat}(hv:cpySI xl off n yl=some v):qP P where
 hk:=[OB+j]
 pr pins N M op:=match op.dst,op.op with
  |some d,.call {callee:= .builtin .copy,args:=⟨[x,y]⟩,argTypes:=⟨[t,_]⟩}=>match cpO M x,P.underlying t,vO M y with
   | .t (.view I u _ 1 J),some (.slice e),some yv=>match P.info? e with
    |some ie=>some ([bp (okD N pins M d),⟨I,j⟩,⟨u,off⟩,⟨J,n⟩,⟨ie.size,1⟩,⟨M (OB+j),.box (fl (dT cU8) xl)⟩,⟨yv,.string ⟨⟨yl⟩⟩⟩,bp (Nat.blt (j+1) OB)],[(OB+j,.box (fl (dT cU8) v)),(d,.t (.d (.lit (.int .i64 (yl.length:Int)))))])
    |none=>none
   |_,_,_=>none
  |_,_=>none
 ok pins N S M op c0 e hM hd h hcc:=by
  split at h
  ·
   rename_i d x y t t' h1 h2
   split at h
   ·
    rename_i I u E J e yr h3 h4 h5
    split at h
    ·
     rename_i ie h6
     cases h
     obtain⟨q1,q2,Z,W,q5,q6,U,q8,_⟩:=hcc
     have q2:I=j:=q2
     have Z:u=off:=Z
     have W:J=n:=W
     have U:yr= .string ⟨⟨yl⟩⟩:=U
     subst q2 Z W U
     exact h_cpyS hM h2 h4 h6 q5 h3 q6 h5 hv q8 h1 (zAE q1 (hd d h1))
    · cases h
   · cases h
  · cases h
def lsl{n n' off':Nat}{a b:Int}(hc:0<=a/\a<=b/\b<=n):qP P where
 hk:=[]
 pr pins N M op:=match op.dst,op.op with
  |some d,.slice t x lo hi none=>match cpO M x,bndO M lo,bndO M hi with
   | .t (.view j off E k J),some l0,some u=>match P.underlying t with
    |some (.slice e)=>match P.info? e with
     |some Z=>some ([bp (okD N pins M d),⟨Z.size,k⟩,⟨J,n⟩,⟨l0.getD 0,a⟩,⟨u.getD n,b⟩,⟨off+(l0.getD 0).toNat*Z.size,off'⟩,⟨(u.getD n).toNat-(l0.getD 0).toNat,n'⟩,bp (Nat.blt E OFB)],[(d,.t (.view j off' E k n'))])
     |none=>none
    |_=>none
   |_,_,_=>none
  |_,_=>none
 ok pins N S M op c0 e hM hd h hcc:=by
  split at h
  ·
   rename_i d t x lo hi h1 h2
   split at h
   ·
    rename_i j off E k J l0 u h3 h4 h5
    split at h
    ·
     rename_i e h6
     split at h
     ·
      rename_i Z h7
      cases h
      obtain⟨q1,q2,I,W,U,q6,q7,q8,_⟩:=hcc
      have I:J=n:=I
      have W:l0.getD 0=a:=W
      have U:u.getD n=b:=U
      subst I W U
      exact h_lsl hM h2 h3 q2 h4 h5 h6 h7 hc q6 q7 h1 (zAE q1 (hd d h1)) (by simpa using q8)
     · cases h
    · cases h
   · cases h
  · cases h
def lnew(j:Nat)(l:List T):qP P where
 hk:=[OB+j]
 pr pins N M op:=match op.dst,op.op with
  |some d,.alloc E=>match zvOf P E with
   |some z=>match zF6 (litA z)with
    |some l0=>some ([bp (okD N pins M d),⟨M (OB+j),.free⟩,⟨l0,l⟩,bp (Nat.blt (j+1) OB)],[(OB+j,.box l),(d,.t (.ptr j 0))])
    |none=>none
   |none=>none
  |_,_=>none
 ok pins N S M op c0 e hM hd h hcc:=by
  split at h
  ·
   rename_i d E I U
   split at h
   ·
    rename_i z h3
    split at h
    ·
     rename_i l0 Z
     cases h
     obtain⟨W,q2,u,J,_⟩:=hcc
     have u:l0=l:=u
     obtain⟨i,hi,hz⟩:=zTG h3
     exact h_lnew hM U hi hz Z u I (zAE W (hd d I)) J q2
    · cases h
   · cases h
  · cases h
def sla:qP P where
 hk:=[]
 pr pins N M op:=match op.dst,op.op with
  |some d,.slice t x none none none=>match cpO M x,P.underlying t with
   | .ref b off,some (.array n e)=>match P.info? e,M b with
    |some u,.box l=>some ([bp (okD N pins M d),bp (Nat.ble OB b),bp (Nat.ble (off+n*u.size) l.length),bp (Nat.ble n 65536)],[(d,.t (.view (b-OB) (off+0*u.size) 0 u.size (n-0)))])
    |_,_=>none
   |_,_=>none
  |_,_=>none
 ok pins N S M op c0 e hM hd h hcc:=by
  split at h
  ·
   rename_i d t x I Z
   split at h
   ·
    rename_i b off n e h3 W
    split at h
    ·
     rename_i u l h5 J
     cases h
     obtain⟨q1,q2,q3,U,_⟩:=hcc
     obtain⟨j,rfl⟩:∃j,b=OB+j:=⟨b-OB,by have:=wS q2;omega⟩
     rw[wO]
     exact h_sla (l0:=none) (h0:=none) hM Z h3 J rfl rfl W h5 q3 U ⟨tJ _,Int.natCast_nonneg _,tJ _⟩ (by simp) I (zAE q1 (hd d I))
    · cases h
   · cases h
  · cases h
def lbox(j:Nat):qP P where
 hk:=[OB+j]
 pr pins N M op:=match op.dst,op.op with
  |some d,.box _ x=>match zCH (cpO M x)with|some l=>some ([bp (okD N pins M d),⟨M (OB+j),.free⟩,bp (Nat.blt (j+1) OB)],[(OB+j,.box l),(d,.t (.ptr j 0))])|none=>none
  |_,_=>none
 ok pins N S M op c0 e hM hd h hcc:=by split at h;(rename_i d E x u I;split at h;(rename_i l U;cases h;obtain⟨J,W,Z,_⟩:=hcc;exact h_lbox hM I U rfl u (zAE J (hd d u)) Z W);cases h);cases h
def lstW(b:Nat)(l':List T):qP P where
 hk:=[b]
 pr pins N M op:=match op.dst,op.op with
  |none,.store t x y=>match cpO M x,P.info? t,zCH (cpO M y),M b with| .ref u 0,some i,some q,.box l=>some ([⟨u,b⟩,bp (Nat.beq q.length i.size),bp (Nat.ble i.size l.length),⟨qD l 0 q,l'⟩],[(b,.box l')])|_,_,_,_=>none
  |_,_=>none
 ok pins N S M op c0 e hM hd h hc:=by split at h;(rename_i t x y W J;split at h;(rename_i u i q l h3 U h5 I;cases h;obtain⟨rfl,Z,q2,q3,_⟩:=hc;exact h_lst hM J W U h3 I h5 (wT Z) (by rw[vF];exact wS q2) q3);cases h);cases h
def lrA{f:Nat->A}{c off n:Nat}{l r:List T}(hf:f c= .box l)(hl:(l.drop off).take n=r):qP P where
 hk:=[HK]
 pr pins N M op:=match op.dst,op.op with
  |some d,.load t x=>match cpO M x,tyA P t with| .t (.hpt J u),some (true,I)=>some ([bp (okD N pins M d),⟨M HK,.hp f⟩,⟨J,c⟩,⟨u,off⟩,⟨I,n⟩,bp (Nat.beq r.length n),bp (noPt r)],[(d,.t (.agg (r.map toD)))])|_,_=>none
  |_,_=>none
 ok pins N S M op c0 e hM hd h hc:=by split at h;(rename_i d t x U W;split at h;(rename_i J u I h3 h4;cases h;obtain⟨q1,q2,rfl,rfl,rfl,Z,q7,_⟩:=hc;exact h_lr hM (hM.get q2 (by simp)) W h4 h3 hf hl (wT Z) q7 rfl U (zAE q1 (hd d U)));cases h);cases h
def stw{f f':Nat->A}{c:Nat}{l l':List T}(hf:f c= .box l)(u:f'=updF f c (.box l')):qP P where
 hk:=[HK]
 pr pins N M op:=match op.dst,op.op with
  |none,.store t x y=>match cpO M x,P.info? t,zCH (cpO M y)with| .t (.hpt I off),some i,some q=>some (⟨M HK,.hp f⟩::⟨I,c⟩::bp (Nat.beq q.length i.size)::bp (Nat.ble (off+i.size) l.length)::bp (l'.all λx=> !x.isAgg)::wkTs (qD l off q) l',[(HK,.hp f')])|_,_,_=>none
  |_,_=>none
 ok pins N S M op c0 e hM hd h hc:=by split at h;(rename_i t x y h1 Z;split at h;(rename_i I off i q h3 W h5;cases h;obtain⟨q1,rfl,q3,U,q5,J⟩:=hc;exact h_stw hM (hM.get q1 (by simp)) Z h1 W h3 hf h5 (wT q3) (wS U) (zM9 J) q5 u);cases h);cases h
def nwW{f f':Nat->A}{t i:Nat}{l:List T}(hf:f (cd t i)= .free)(u:f'=updF f (cd t i) (.box l)):qP P where
 hk:=[HK]
 pr pins N M op:=match op.dst,op.op with
  |some d,.box E x=>match zCH (cpO M x)with|some q=>some (bp (okD N pins M d)::⟨M HK,.hp f⟩::bp (l.all λx=> !x.isAgg)::wkTs q l,[(HK,.hp f'),(d,.t (.opt t (some i)))])|_=>none
  |_,_=>none
 ok pins N S M op c0 e hM hd h hc:=by split at h;(rename_i d E x I U;split at h;(rename_i q W;cases h;obtain⟨Z,q2,q3,J⟩:=hc;exact(h_boxw hM (hM.get q2 (by simp)) U W I (zAE Z (hd d I)) hf (zM9 J) q3 u).weak (.cons (.refl _) (by simp) (.cons (.t (.optS _ _)) (by simp) .nil)));cases h);cases h
def htake{f:Nat->A}{c:Nat}{l:List T}(hf:f c= .box l):qP P where
 hk:=[HK]
 pr pins N M op:=match op.dst,op.op with
  |some d,.load t x=>match cpO M x,tyA P t with
   | .t (.hpt I off),some (false,_)=>match l[off]? with
    |some (.own E k u)=>some ([bp (okD N pins M d),⟨M HK,.hp f⟩,⟨I,c⟩],[(HK,.hp (updF f c (.box (l.set off (.d (.seq k u)))))),(d,.t (.own E k u))])
    |_=>none
   |_,_=>none
  |_,_=>none
 ok pins N S M op c0 e hM hd h hc:=by
  split at h
  ·
   rename_i d t x J U
   split at h
   ·
    rename_i I off n h3 Z
    split at h
    ·
     rename_i E k u h5
     cases h
     obtain⟨W,q2,rfl,_⟩:=hc
     exact h_htake hM (hM.get q2 (by simp)) U Z h3 hf h5 rfl J (zAE W (hd d J)) rfl
    · cases h
   · cases h
  · cases h
def hsto{f f':Nat->A}{c:Nat}{l1 l':List T}(J:f'=updF (updF f c (.box l1)) c (.box l')):qP P where
 hk:=[HK]
 pr pins N M op:=match op.dst,op.op with
  |none,.store t x (.tmp s)=>match cpO M x,P.info? t,M s with| .t (.hpt Z off),some i,.t (.own E k u)=>some ([⟨M HK,.hp (updF f c (.box l1))⟩,⟨Z,c⟩,⟨i.size,1⟩,bp (Nat.blt off l1.length),⟨l1.set off (.own E k u),l'⟩,bp (okD N pins M s),bp (Nat.blt s OB)],[(HK,.hp f'),(s,.t (.d (.seq k u)))])|_,_,_=>none
  |_,_=>none
 ok pins N S M op c0 e hM hd h hc:=by split at h;(rename_i t x s h1 h2;split at h;(rename_i Z off i E k u h3 h4 U;cases h;obtain⟨q1,rfl,q3,W,q5,I,_⟩:=hc;have hs:S s= .t (.own E k u):=hM.get U (by simp);exact h_hsto hM (hM.get q1 (by simp)) h2 h1 h4 q3 h3 (if_pos rfl) U W q5 (by unfold okD at I⊢;rw[hs];rw[U]at I;exact I) J);cases h);cases h
theorem vwE(j off E k:Nat){n n':Nat}(h:n=n'):A.t (.view j off E k n)= .t (.view j off E k n'):=by rw[h]
def s2a{α:Type}{c:α->List D}(z:α){n:Nat}{l y:List α}(hn:s2aI n l=some y):qP P where
 hk:=[]
 pr pins N M op:=match op.dst,op.op with
  |some d,.sliceToArrayPointer t x=>match P.underlying t,dO M x with|some (.array u _),some (.seq k rs)=>some ([bp (okD N pins M d),⟨u,n⟩,⟨rs,l.map c⟩,bp (Nat.blt 0 k&&Nat.blt 0 n)],[(d,.imm (ar c z y 0 n))])|_,_=>none
  |_,_=>none
 ok pins N S M op c0 e hM hd h hc:=by split at h;(rename_i d t x I U;split at h;(rename_i u e0 k rs h3 Z;cases h;obtain⟨W,rfl,rfl,J,_⟩:=hc;exact h_s2a hM U h3 Z J hn I (zAE W (hd d I)));cases h);cases h
def atO(M:Nat->A):List (Nat×List T)->Prop
 |[]=>True
 |(j,l)::r=>M (OB+j)= .box l/\atO M r
def atPL(M:Nat->A):List (Nat×List T)->PL
 |[]=>[]
 |(j,l)::r=>⟨M (OB+j),.box l⟩::atPL M r
theorem atPL_ok:∀{os:List (Nat×List T)},okL (atPL M os)->atO M os
 |[],_=>trivial
 |(_,_)::_,h=>⟨h.1,atPL_ok h.2⟩
def look(os:List (Nat×List T))(X:List A){f:Nat->A}{fn:Nat}{args:List A}{y:A}(hf:FC P fn args [] y)(u:∀M,atO M os->zSU (zWK M f) X args):qP P where
 hk:=HK::os.map λo=>OB+o.1
 pr pins N M op:=match op.dst,op.op with
  |some d,.call {callee:= .value fx,args:=⟨xs⟩,argTypes:=_}=>some (bp (fnOK P fn)::bp (okD N pins M d)::⟨vO M fx,some (.func (.func fn) #[] #[])⟩::⟨M HK,.hp f⟩::⟨xs.map (cpO M),X⟩::bp y.isLits::atPL M os,[(d,y)])
  |_,_=>none
 ok pins N S M op c e hM hd h hc:=by split at h;(rename_i d fx xs ts J h2;cases h;obtain⟨q1,q2,q3,Z,I,W,q7⟩:=hc;obtain⟨F,f1,U,f3⟩:=zH4 q1;have I:xs.map (cpO M)=X:=I;exact h_look hM (hM.get Z (by simp)) h2 q3 J (zAE q2 (hd d J)) f1 U f3 hf (by rw[I];exact u M (atPL_ok q7)) W);cases h
def bsv:qP P where
 hk:=[]
 pr pins N M op:=match op.dst,op.op with
  |some d,.buildSlice t n ⟨u⟩=>match elF P t,vwsO M 0 u with|some (_,1,_),some l=>some ([bp (okD N pins M d),⟨n,u.length⟩,bp (!u.isEmpty&&Nat.ble u.length 16777216)],[(d,.lst l)])|_,_=>none
  |_,_=>none
 ok pins N S M op c0 e hM hd h hc:=by split at h;(rename_i d t n u I J;split at h;(rename_i e0 nb l W U;cases h;obtain⟨Z,q2,q3,_⟩:=hc;exact h_bsv hM J q2 I (zAE Z (hd d I)) W U q3);cases h);cases h
def mko{U q:Nat}{n:Int}(hq:mkI U n=some q){z:Value}{rs:List (List D)}(hr:List.replicate q [.lit z]=rs):qP P where
 hk:=[]
 pr pins N M op:=match op.dst,op.op with
  |some d,.makeSlice t J W=>match vO M J,vO M W,elF P t with
   |some (.int _ n1),some (.int _ n2),some (e,1,I)=>match zvOf P e with
    |some u=>some ([bp (okD N pins M d),⟨n1,n⟩,⟨n2,n⟩,⟨I,U⟩,⟨u,z⟩,⟨u.cells,#[u]⟩,bp u.oneCell'],[(d,.t (.own e 1 rs))])
    |none=>none
   |_,_,_=>none
  |_,_=>none
 ok pins N S M op c2 e hM hd h hc:=by
  split at h
  ·
   rename_i d t J W Z h2
   split at h
   ·
    rename_i kl n1 kc n2 e I h3 h4 h5
    split at h
    ·
     rename_i u h6
     cases h
     obtain⟨q1,rfl,rfl,rfl,rfl,q6,q7,_⟩:=hc
     obtain⟨i,hi,hz⟩:=zTG h6
     exact h_mko (c:=λ_:Unit=>[]) hM h2 h3 h4 h5 hi hz q6 q7 rfl hq hr Z (zAE q1 (hd d Z))
    · cases h
   · cases h
  · cases h
def ixA{z:Int}{len:Nat}(hC:0<=z/\z<len):qP P where
 hk:=[]
 pr pins N M op:=match op.dst,op.op with
  |some d,.indexAddr t x i=>match cpO M x,vO M i,P.underlying t with
   | .ref b off,some (.int _ Z),some (.array u e)=>match P.info? e with
    |some J=>some ([bp (okD N pins M d),⟨Z,z⟩,⟨u,len⟩],[(d,.ref b (off+z.toNat*J.size))])
    |none=>none
   |_,_,_=>none
  |_,_=>none
 ok pins N S M op c0 e hM hd h hc:=by
  split at h
  ·
   rename_i d t x i U h2
   split at h
   ·
    rename_i b off ki Z u e h3 h4 h5
    split at h
    ·
     rename_i J h6
     cases h
     obtain⟨q1,rfl,rfl,_⟩:=hc
     have I:=zAE q1 (hd d U)
     exact .of (e:=[(d,_)]) λW=>⟨ok_ixa hM.hx h2 h3 h4 h5 h6 hC U (qA W I),zAr (zX W I)⟩
    · cases h
   · cases h
  · cases h
def apfr{Z q:Nat}{n:Int}(W:growI Z n=some q):qP P where
 hk:=[]
 pr pins N M op:=match op.dst,op.op with
  |some d,.call {callee:= .builtin .append,args:=⟨[x,y]⟩,argTypes:=⟨[t,J]⟩}=>match vO M x,vO M y,zerF P t J with|some (.slice none 0 0),some (.int _ I),some (e,u,_)=>some ([bp (okD N pins M d),⟨I,n⟩,⟨u,Z⟩],[(d,.fr e 1)])|_,_,_=>none
  |_,_=>none
 ok pins N S M op c0 e hM hd h hc:=by split at h;(rename_i d x y t J U h2;split at h;(rename_i ki I e u z h3 h4 h5;cases h;obtain⟨q1,rfl,rfl,_⟩:=hc;exact h_apfr hM h2 h3 h4 h5 W U (zAE q1 (hd d U)));cases h);cases h
def slfr:qP P where
 hk:=[]
 pr pins N M op:=match op.dst,op.op with
  |some d,.slice t (.tmp s) none I none=>match M s,bndO M I,P.underlying t with
   | .fr E k,some (some 0),some (.slice e)=>match P.info? e with
    |some _=>some ([bp (okD N pins M d),⟨s==d,false⟩,bp (Nat.blt s OB&& !pins.contains s)],[(s,.any),(d,.t (.own E k []))])
    |none=>none
   |_,_,_=>none
  |_,_=>none
 ok pins N S M op c0 e hM hd h hc:=by
  split at h
  ·
   rename_i d t s I u U
   split at h
   ·
    rename_i E k e h3 Z h5
    split at h
    ·
     rename_i ie J
     cases h
     obtain⟨W,q2,q3,_⟩:=hc
     exact h_slfr hM U h3 Z h5 J q2 q3 u (zAE W (hd d u))
    · cases h
   · cases h
  · cases h
def slN:qP P where
 hk:=[]
 pr pins N M op:=match op.dst,op.op with
  |some d,.slice t x none I none=>match vO M x,bndO M I,P.underlying t with
   |some (.slice none 0 0),some (some 0),some (.slice e)=>match P.info? e with
    |some _=>some ([bp (okD N pins M d)],[(d,.t (.d (.lit (.slice none 0 0))))])
    |none=>none
   |_,_,_=>none
  |_,_=>none
 ok pins N S M op c0 e hM hd h hc:=by
  split at h
  ·
   rename_i d t x I u U
   split at h
   ·
    rename_i e h3 Z h5
    split at h
    ·
     rename_i ie J
     cases h
     obtain⟨W,_⟩:=hc
     exact h_slnil hM U h3 Z h5 J u (zAE W (hd d u))
    · cases h
   · cases h
  · cases h
end
abbrev Y:=List UInt8
abbrev O:=Option Nat
abbrev iD(x:Int):D:= .lit (.int .i64 x)
abbrev iT(x:Int):T:= .d (iD x)
abbrev iA(x:Int):A:= .t (iT x)
abbrev bD(x:Bool):D:= .lit (.bool x)
abbrev bT'(x:Bool):T:= .d (bD x)
abbrev bA(x:Bool):A:= .t (.d (bD x))
abbrev yD(x:Y):D:= .seq 1 (zV x)
abbrev yT(x:Y):T:= .d (yD x)
abbrev yA(x:Y):A:= .t (yT x)
abbrev sD(x:Y):D:= .lit (.string ⟨⟨x⟩⟩)
abbrev sT(x:Y):T:= .d (sD x)
abbrev sA(x:Y):A:= .t (sT x)
abbrev nD:D:= .lit (.slice none 0 0)
abbrev nT:T:= .d nD
abbrev oA(t:Nat)(p:O):A:= .t (.opt t p)
abbrev kF(j:Nat):Nat×A:=(OB+j,.free)
abbrev FH(f:FuncId)(a i o:List A)(g u:Nat->A)(r:A):=FCH Tryz.prog f a i o g u r
abbrev FP(f:FuncId)(a:List A)(o:List (Nat×List T))(r:A):=FC Tryz.prog f a o r
abbrev Tr.iF{R:Type}{Γ:List Type}(q:Nat)(c:Bool)(e:c=false->Tr P R Γ):Tr P R Γ:= .i q c (λ_=> .no) e
abbrev Tr.pS{R:Type}{Γ:List Type}(p:Option Nat)(e:(i:Nat)->p=some i->Tr P R Γ):Tr P R Γ:= .p p (λ_=> .no) e
noncomputable abbrev Tr.e{P:Program}{R:Type}{Γ:List Type}(x:R):Tr P R Γ:= .r x
noncomputable abbrev Tr.k{P:Program}{R X:Type}{Γ:List Type}(u:List Nat)(j:Jx X Γ)(x:X):Tr P R Γ:= .n u j x
abbrev Tr.ix{R α:Type}{Γ:List Type}{l:List α}{i:Int}{x:α}(q:Nat)(c:α->List D)(h:idx l i=some x)(t:Tr P R Γ):Tr P R Γ:= .w q (idxC (c:=c) h) (.oe (idxE (c:=c) h)) t
abbrev Tr.ln{R α:Type}{Γ:List Type}(q:Nat)(l:List α)(c:α->List D)(t:Tr P R Γ):Tr P R Γ:= .w q trivial (lnE l c) t
abbrev Tr.s{R:Type}{Γ:List Type}{p:Option Nat}{i:Nat}(q s k:Nat)(h:p=some i)(t:Tr P R Γ):Tr P R Γ:= .t q s (ptS k h) t
abbrev Tr.q{R:Type}(t:Tr P R []):Option R:=t.run Env.nil
abbrev Tr.fA{R α:Type}{Γ:List Type}{m:Option α}{f:Nat}{a:List A}{y:α->A}(q:Nat)(h:∀r,m=some r->FC P f a [] (y r))(t:α->Tr P R Γ):Tr P R Γ:= .b m λr e=> .o q (cA (h r e)) (t r)
abbrev Tr.fM{R α:Type}{Γ:List Type}{m:Option α}{f:Nat}{a:List A}{o:α->List (Nat×List T)}{y:α->A}(q s i:Nat)(h:∀r,m=some r->FC P f a (o r) (y r))(t:α->Tr P R Γ):Tr P R Γ:= .b m λr e=> .o q (cM s i (h r e)) (t r)
abbrev Tr.fR{R α:Type}{Γ:List Type}{m:Option α}{f:Nat}{a:List A}{g:Nat->A}{y:α->A}[p:PuH g](q:Nat)(h:∀r,m=some r->FCH P f a [] [] g g (y r))(t:α->Tr P R Γ):Tr P R Γ:= .b m λr e=> .o q (cR (h r e)) (t r)
abbrev Tr.fH{R α:Type}{Γ:List Type}{m:Option α}{f:Nat}{a:List A}{g:Nat->A}{u:α->Nat->A}{y:α->A}[p:PuH g][p':∀r,PuH (u r)](q:Nat)(h:∀r,m=some r->FCH P f a [] [] g (u r) (y r))(t:α->Tr P R Γ):Tr P R Γ:= .b m λr e=> .o q (cH (h r e)) (t r)
abbrev AgC:=Nat×Nat×Nat×List (List D)
section
variable {w0:World}{m0:Mem}{o0:OwnM}{G:GD}{pins:List Nat}{S M:Nat->A}{a:Act}{w:World}{m:Mem}{o:OwnM}{P:Program}{N:Nat}
def gnO(o:OwnM)(loc:Nat×Nat)(gu:Nat):OwnM:=λg=>if g=gu then some loc else if o g=some loc then none else o g
theorem zDZ{loc l:Nat×Nat}{gu g:Nat}(h:gnO o loc gu g=some l):(g=gu/\l=loc)\/(g≠gu/\l≠loc/\o g=some l):=by unfold gnO at h;grind
theorem zT5{loc l:Nat×Nat}{gu g:Nat}(u:o gu=none)(h:o g=some l)(hl:l≠loc):gnO o loc gu g=some l:=by unfold gnO;grind
theorem Inv.gain(I:Inv w0 m0 o0 G pins S a w m o){S':Nat->A}{loc:Nat×Nat}{gu:Nat}(hO:loc.1<OB)(h0:loc.2≠0\/loc.1∉pins)(W:o gu=none)(hG:G gu\/w0.heap.size<=gu)(Z:gu<w.heap.size)
(hS:∀t,t≠loc.1->S' t=S t)(hb:∀l,S loc.1= .box l->loc.2≠0/\∃l',S' loc.1= .box l')
(J:(∀g l,o g=some l->l≠loc->gnO o loc gu g=some l)->gnO o loc gu gu=some loc->RepA m w (gnO o loc gu) S' loc.1 (S' loc.1) (a.tmps.getD loc.1 undef)):Inv w0 m0 o0 G pins S' a w m (gnO o loc gu):=by
 have U:=λg l (h:o g=some l) (hl:l≠loc)=>zT5 (gu:=gu) W h hl
 have K:Keep (λx=>x=loc) m w o m w (gnO o loc gu):=
  ⟨Mle.refl _,λ_ _ _ _=>rfl,λ_ _ _ _=>rfl,λg l h hn=>U g l h hn,λg j h=>U g _ h (λe=>by rw[<-e]at hO;exact absurd hO (by show¬OB+j<OB;omega)),λg s k hn h=>by rcases zDZ h with⟨_,e⟩|⟨_,_,h⟩;exact absurd e hn;exact⟨g,k,h⟩,λ_ _ _=> .of_eq rfl⟩
 refine⟨I.same,I.sat,I.mono,I.old,λg l h=> ?_,λg l h=> ?_,λg g' l h h'=> ?_,λp hp g hg=> ?_,λt=> ?_,I.defers,I.tbl,I.wide,I.shps⟩
 · rcases zDZ h with⟨e,_⟩|⟨_,_,h⟩;subst e;exact hG;exact I.own g _ h
 · rcases zDZ h with⟨e,_⟩|⟨_,_,h⟩;subst e;exact Z;exact I.lt g _ h
 · rcases zDZ h with⟨e1,e⟩|⟨_,e,h⟩<;>rcases zDZ h' with⟨u,e'⟩|⟨_,e',h'⟩;rw[e1,u];exact absurd e e';exact absurd e' e;exact I.inj g g' _ h h'
 · refine U g _ (I.pinned p hp g hg) λe=> ?_;have e1:p=loc.1:=congrArg Prod.fst e;have u:0=loc.2:=congrArg Prod.snd e;rcases h0 with h0|h0;exact h0 u.symm;(rcases hp with hp|hp;exact h0 (e1▸hp);(have:OB<=p:=hp;omega))
 · by_cases e:t=loc.1;(subst e;exact J U (by unfold gnO;rw[if_pos rfl]));(rw[hS t e];refine RepA.keep K (λj u=>e (congrArg Prod.fst u)) (λb off he β=> ?_) (I.slots t);have h:=I.slots t;rw[he]at h;obtain⟨_,_,_,hl⟩:=h;obtain⟨l',hl⟩:=hl β;by_cases eb:b=loc.1;(subst eb;obtain⟨q1,q2⟩:=hb l' hl;exact⟨λu=>q1 (congrArg Prod.snd u).symm,λ_=>q2⟩);exact⟨λu=>eb (congrArg Prod.fst u),λ⟨l2,α⟩=>⟨l2,by rw[hS b eb];exact α⟩⟩)
theorem Inv.loseK(I:Inv w0 m0 o0 G pins S a w m o){S':Nat->A}{loc:Nat×Nat}(hO:loc.1<OB)(h0:loc.2≠0\/loc.1∉pins)(hS:∀t,t≠loc.1->S' t=S t)(hb:∀l,S loc.1= .box l->loc.2≠0/\∃l',S' loc.1= .box l')
(J:∀o':OwnM,(∀g l,o g=some l->l≠loc->o' g=some l)->(Keep (λx=>x=loc) m w o m w o')->RepA m w o' S' loc.1 (S' loc.1) (a.tmps.getD loc.1 undef)):∃o',Inv w0 m0 o0 G pins S' a w m o'/\(∀g x,o' g=some x->x≠loc/\o g=some x)/\Keep (λx=>x=loc) m w o m w o':=by
 have hk:∀g x,(λg=>if o g=some loc then none else o g) g=some x->x≠loc/\o g=some x:=by intro g x h;simp only at h;split at h;cases h;(rename_i hn;exact⟨λe=>hn (by rw[h,e]),h⟩)
 have U:∀g l,o g=some l->l≠loc->(λg=>if o g=some loc then none else o g) g=some l:=λg l h hl=>by show(if o g=some loc then none else o g)=_;rw[h,if_neg (by simpa using hl)]
 have K:Keep (λx=>x=loc) m w o m w (λg=>if o g=some loc then none else o g):=
  ⟨Mle.refl _,λ_ _ _ _=>rfl,λ_ _ _ _=>rfl,λg l h hn=>U g l h hn,λg j h=>U g _ h (λe=>by rw[<-e]at hO;exact absurd hO (by show¬OB+j<OB;omega)),λg s k _ h=>⟨g,k,(hk g _ h).2⟩,λg _ _=> .of_eq rfl⟩
 refine⟨_,⟨I.same,I.sat,I.mono,I.old,λg x h=>I.own g x (hk g x h).2,λg x h=>I.lt g x (hk g x h).2,λg g' x h h'=>I.inj g g' x (hk g x h).2 (hk g' x h').2,λp hp g hg=> ?_,λt=> ?_,I.defers,I.tbl,I.wide,I.shps⟩,hk,K⟩
 · refine U g _ (I.pinned p hp g hg) λe=> ?_;have e1:p=loc.1:=congrArg Prod.fst e;have u:0=loc.2:=congrArg Prod.snd e;rcases h0 with h0|h0;exact h0 u.symm;(rcases hp with hp|hp;exact h0 (e1▸hp);(have:OB<=p:=hp;omega))
 · by_cases e:t=loc.1;(subst e;exact J _ U K);(rw[hS t e];refine RepA.keep K (λj u=>e (congrArg Prod.fst u)) (λb off he W=> ?_) (I.slots t);have h:=I.slots t;rw[he]at h;obtain⟨_,_,_,hl⟩:=h;obtain⟨l',hl⟩:=hl W;by_cases eb:b=loc.1;(subst eb;obtain⟨q1,q2⟩:=hb l' hl;exact⟨λu=>q1 (congrArg Prod.snd u).symm,λ_=>q2⟩);exact⟨λu=>eb (congrArg Prod.fst u),λ⟨l2,Z⟩=>⟨l2,by rw[hS b eb];exact Z⟩⟩)
theorem Inv.lose(I:Inv w0 m0 o0 G pins S a w m o){S':Nat->A}{loc:Nat×Nat}(Z:loc.1<OB)(h0:loc.2≠0\/loc.1∉pins)(J:∀t,t≠loc.1->S' t=S t)(hb:∀l,S loc.1= .box l->loc.2≠0/\∃U,S' loc.1= .box U)
(u:∀o':OwnM,(∀g l,o g=some l->l≠loc->o' g=some l)->(Keep (λx=>x=loc) m w o m w o')->RepA m w o' S' loc.1 (S' loc.1) (a.tmps.getD loc.1 undef)):∃o',Inv w0 m0 o0 G pins S' a w m o'/\(∀g x,o' g=some x->x≠loc/\o g=some x):=by
 obtain⟨o',h1,W,_⟩:=I.loseK Z h0 J hb u
 grind
theorem newM_id(m:Mem)(g:Nat):newM m g (λp=>m g p)=m:=by funext b p;unfold newM;grind
theorem Inv.agsPut{S2:Nat->A}{o1:OwnM}(I:Inv w0 m0 o0 G pins S a w m o)(I2:Inv w0 m0 o0 G pins S2 a w m o1){loc:Nat×Nat}(β:∀g x,o1 g=some x->x≠loc/\o g=some x){d:Nat}{l:List D}{c:AgC}(hA:zEX m w o loc l [c] v)
(hd:d<a.tmps.size)(U:(S2 d).isBox=false)(W:d∉pins):∃m' o',Inv w0 m0 o0 G pins (upd S2 d (.t (.ags l [c]))) (a.put (some d) v) w m' o':=by
 obtain⟨vs,e,hl,hj,hc⟩:=hA
 obtain⟨u,hu,A',cap,xs,e2,h1,h2,h3,h4⟩:=hc c (vA.2 rfl)
 rcases zDc (w:=w) (e:=c.2.1) (sz:=c.2.2.1) (n:=c.2.2.2.length) (c:=cap) (xs:=xs) (by rw[e2]at h1;exact h1)with rfl|⟨g,q,rfl⟩
 · refine⟨m,o1,I2.set d _ _ hd U ⟨vs,e,hl,hj,λc' J=> ?_⟩⟩;rw[vA]at J;subst J;exact⟨u,hu,none,cap,xs,e2,h1,λg hg=>(by cases hg),h3,h4⟩
 · obtain⟨hg,hm⟩:=h2 g rfl;have α:=I.lt g _ hg;refine⟨_,_,I2.own_put d _ _ (λp=>m g p) g w hd U W (λx hx=> ?_) (I.own g _ hg) (Same.refl _ _) α (λp u h=>h) (λp u h=>I.sat g p u h) ?_⟩;grind;(rw[newM_id];refine⟨vs,e,hl,hj,λc' J=> ?_⟩;rw[vA]at J;subst J;exact⟨u,hu,some ⟨g,q,none⟩,cap,xs,e2,h1,λg' Z=>by injection Z with Z;subst Z;exact⟨qT _ _ _,hm⟩,h3,h4⟩)
theorem Inv.agsSlotK(I:Inv w0 m0 o0 G pins S a w m o){s:Nat}(J:s<OB)(hp:s∉pins){l:List D}{U:List AgC}(u:S s= .t (.ags l U)):∃o',Inv w0 m0 o0 G pins (upd S s (.t (.agg l))) a w m o'/\(∀g x,o' g=some x->x≠(s,0)/\o g=some x)/\Keep (λx=>x=(s,0)) m w o m w o':=by refine I.loseK (loc:=(s,0)) J (.inr hp) (λt e=>zE e) (λl e=>by rw[show S (s,0).1=_ from u]at e;cases e) λo' Z K=> ?_;have h:=I.slots s;rw[u]at h;show RepA m w o' _ s (upd S s (.t (.agg l)) s) _;rw[zK];exact zEX.agg h
theorem Inv.agsSlot(I:Inv w0 m0 o0 G pins S a w m o){s:Nat}(U:s<OB)(hp:s∉pins){l:List D}{u:List AgC}(J:S s= .t (.ags l u)):∃o',Inv w0 m0 o0 G pins (upd S s (.t (.agg l))) a w m o'/\(∀g x,o' g=some x->x≠(s,0)/\o g=some x):=by obtain⟨o',W,Z,_⟩:=I.agsSlotK U hp J;grind
theorem Inv.agsPart(I:Inv w0 m0 o0 G pins S a w m o){s i:Nat}(hs:s<OB){ts:List T}{l:List D}{js:List AgC}(W:S s= .tup ts)(hl:ts[i]? =some (.ags l js)):∃o',Inv w0 m0 o0 G pins (upd S s (.tup (ts.set i (.agg l)))) a w m o'/\(∀g x,o' g=some x->x≠(s,i+1)/\o g=some x):=by refine I.lose (loc:=(s,i+1)) hs (.inl (by simp)) (λt e=>zE e) (λl e=>by rw[show S (s,i+1).1=_ from W]at e;cases e) λo' ho K=> ?_;have h:=I.slots s;rw[W]at h;show RepA m w o' _ s (upd S s (.tup (ts.set i (.agg l))) s) _;rw[zK];obtain⟨vs,e1,h1,Z⟩:=h;refine⟨vs,e1,by simpa using h1,λj x J=> ?_⟩;rw[uS]at J;split at J;(rename_i e;subst e;split at J;(cases J;obtain⟨u,h6,U⟩:=Z i _ hl;exact⟨u,h6,zEX.agg U⟩);grind);(rename_i e;obtain⟨u,U,h8⟩:=Z j x J;exact⟨u,U,h8.keep K (λe2=>by injection e2 with _ e2;omega)⟩)
theorem zWZ(I:Inv w0 m0 o0 G pins S a w m o){s:Nat}{l:List D}{J:List AgC}(u:S s= .t (.ags l J)):s<OB:=by rcases wR s a.tmps.size with h|h;exact wN h I.wide;(have hh:=I.slots s;rw[u]at hh;obtain⟨U,e,_⟩:=hh;rw[wJ,vU h]at e;cases e)
theorem ok_agX{s i d:Nat}{ts:List T}{l:List D}{c:AgC}(β:op.op= .extract (.tmp s) i)(hb:S s= .tup ts)(hl:ts[i]? =some (.ags l [c]))(U:(s==d)=false)(Z:Nat.blt s OB=true)(hd:op.dst=some d)(W:okD N pins S d=true):
 OpOK P pins N op S (app S [(s,.tup (ts.set i (.agg l))),(d,.t (.ags l [c]))]):=by
 refine zL λw0 m0 o0 G a w m o hN I=> ?_
 obtain⟨h1,h2,h3⟩:=zP W
 have U:s≠d:=by simpa using U
 rw[sM]at Z
 obtain⟨o1,I2,α⟩:=I.agsPart Z hb hl
 have hs:=I.slots s
 rw[hb]at hs
 obtain⟨vs,e,k1,k2⟩:=hs
 obtain⟨u,k3,hA⟩:=k2 i _ hl
 obtain⟨m',o',J⟩:=I.agsPut I2 α hA (d:=d) (by omega) (by rw[zE (Ne.symm U)];exact h2) h3
 refine⟨u,w,m',o',?_,by rw[hd];exact J⟩
 unfold execOp
 rw[β]
 simp only[wE]
 rw[show a.eval (.tmp s)=_ from e]
 simp[Instr.extract,k3]
theorem dj1(vs:Array Value)(c:AgC):DjV vs [c]:=λa u b hb h=>by rw[vA]at u hb;subst u hb;exact absurd rfl h
theorem ok_agL(hM:Mk M S){t b d n i E k:Nat}{x:Operand}{l:List T}{ls:List (List D)}(γ:op.op= .load t x)(ht:tyA P t=some (true,n))(hx:cpO M x= .ref b 0)(hb:S b= .box l)(hn:n=l.length)(hl:l[i]? =some (.own E k ls))(hpt:noPt l=true)(β:b≠d)(hd:op.dst=some d)(ζ:okD N pins S d=true):
 OpOK P pins N op S (app S [(b,.box (l.set i (.d (.seq k ls)))),(d,.t (.ags (l.map toD) [(i,E,k,ls)]))]):=by
 refine zL λw0 m0 o0 G a w m o hN I=> ?_
 obtain⟨h1,h2,h3⟩:=zP ζ
 have hs:=I.slots b
 rw[hb]at hs
 obtain⟨gb,hv,k1,k2,W,E',k3,k4,k5⟩:=hs
 obtain⟨o1,I2,ε⟩:=I.dropCell hb hl
 obtain⟨_,ui,k6,Z⟩:=k5 i _ hl
 have θ:i<l.length:=(wF.1 hl).1
 have hA:zEX m w o (b,i+1) (l.map toD) [(i,E,k,ls)] (.agg (W.toList.take n).toArray):=by refine⟨_,rfl,⟨by simp;omega,λj d U=> ?_⟩,dj1 _ _,λc hc=> ?_⟩;(rw[wG]at U;(cases hz:l[j]? with|none=>rw[hz]at U;cases U|some z=>rw[hz]at U;cases U;obtain⟨ha,u,h7,h8⟩:=k5 j z hz;have η:j<l.length:=(wF.1 hz).1;(have δ:z.isPt=false:=by have:=wI.1 hpt z (wD hz);simpa using this);refine⟨u,?_,h8.toD I.sat ha δ⟩;show(W.toList.take n)[j]? =some u;rw[vH,if_pos (by omega)];simpa using h7));(rw[vA]at hc;subst hc;refine⟨ui,?_,Z⟩;(have:(W.toList.take n)[i]? =some ui:=by rw[vH,if_pos (by omega)];simpa using k6);simpa using this)
 obtain⟨m',o',J⟩:=I.agsPut I2 ε hA (d:=d) (by omega) (by rw[zE (Ne.symm β)];exact h2) h3
 refine⟨_,w,m',o',?_,by rw[hd];exact J⟩
 have he:=zW hM I x 0
 rw[hx]at he
 obtain⟨g',q3,q4,_⟩:=he
 have:=I.inj _ _ _ k1 q3
 subst this
 have α:(Instr.loadAt t (a.eval x)).run P w= .ok (.agg (W.toList.take n).toArray) w:=by rw[q4];simp only[Instr.loadAt,Instr.sureAddr,wE,wQ,wC];refine zBz ht (by simp;omega) λj v U=> ?_;rw[cell_of_row w gb (0+j) W E' _ k3,vF];rw[vH]at U;split at U;simpa using U;cases U
 unfold execOp
 rw[γ]
 simp only[wE,α,wC]
 rfl
theorem Inv.recellT(I:Inv w0 m0 o0 G pins S a w m o){b off:Nat}{l:List T}{x y:T}(hb:S b= .box l)(hl:l[off]? =some x)(h:∀g J U u,o g=some (b,0)->w.heap[g]? =some (.cells J U (0,0))->J[off]? =some u->RepT m w o (b,off+1) x u->RepT m w o (b,off+1) y u/\y.isAgg=false):Inv w0 m0 o0 G pins (upd S b (.box (l.set off y))) a w m o:=by refine⟨I.same,I.sat,I.mono,I.old,I.own,I.lt,I.inj,I.pinned,λt=> ?_,I.defers,I.tbl,I.wide,I.shps⟩;by_cases e:t=b;(subst e;have hs:=I.slots t;rw[hb]at hs;rw[zK];obtain⟨g,hv,h1,h2,J,U,h3,h4,h5⟩:=hs;refine⟨g,hv,h1,h2,J,U,h3,by simpa using h4,λj z hj=> ?_⟩;grind);(rw[zE e];refine(I.slots t).turn λb' l' Z=> ?_;by_cases W:b'=b;subst W;exact⟨_,zK ..⟩;exact⟨l',by rw[zE W,Z]⟩)
theorem ok_agB{s d E0:Nat}{l:List D}{i E k:Nat}{ls:List (List D)}(μ:op.op= .box E0 (.tmp s))(hd:op.dst=some d)(τ:okD N pins S d=true)(hs:S s= .t (.ags l [(i,E,k,ls)]))(θ:s≠d)(φ:s∉pins):
    OpOK P pins N op S (app S [(s,.t (.agg l)),(d,.box ((l.map T.d).set i (.own E k ls)))]):=by
  refine zL λw0 m0 o0 G a w m o hN I=> ?_
  obtain⟨h1,h2,h3⟩:=zP τ
  have χ:=zWZ I hs
  obtain⟨o1,I2,π⟩:=I.agsSlot χ φ hs
  have hA:=I.slots s
  rw[hs]at hA
  obtain⟨vs,e,hl,U,hc⟩:=hA
  obtain⟨u,hu,A',cap,xs,e2,p1,p2,p3,p4⟩:=hc _ (vA.2 rfl)
  have ν:d<OB:=wN (by omega:d<a.tmps.size) I.wide
  have β:(upd S s (.t (.agg l)) d).isBox=false:=by rw[zE (Ne.symm θ)];exact h2
  have κ:(a.tmps.getD s undef).cells=vs:=by rw[e];rfl
  have σ:i<l.length:=by
    have:i<vs.size:=(vV.1 hu).1
    have h:=hl.1
    simp at h
    omega
  have J:=I2.own_put d (.box (l.map T.d)) (.pointer (some ⟨w.heap.size,0,none⟩)) (λ_=>none) w.heap.size (w.alloc (.cells vs E0)) (by omega) β h3 (I2.free (wL _)) (I2.newG (wL _)) ((Same.alloc (λ_=>False) w _).weaken (λ_ h=>h.elim)) (by simp) (λp u h=>by rw[I.mem_none (wL _)]at h;cases h) (λp u h=>by cases h) (by
    refine⟨w.heap.size,λ_=>rfl,qT _ _ _,λp=>zAY _ _ _ _,vs,E0,heap_alloc_new w _,?_,λj x U=> ?_⟩
    · have h:=hl.1
      simp at h⊢
      omega
    · rw[wG]at U
      cases hz:l[j]? with
      |none=>rw[hz]at U;cases U
      |some z=>
        rw[hz]at U
        cases U
        obtain⟨u,q1,Z⟩:=hl.2 j z hz
        exact⟨rfl,u,by simpa using q1,Z.mono (λb p u h=>by
          unfold newM
          split
          · rename_i e;subst e;rw[I.mem_none (wL _)]at h;cases h
          · exact h)⟩)
  suffices h:∃m' o',Inv w0 m0 o0 G pins (app S [(s,.t (.agg l)),(d,.box ((l.map T.d).set i (.own E k ls)))]) (a.put (some d) (.pointer (some ⟨w.heap.size,0,none⟩))) (w.alloc (.cells vs E0)) m' o' by
    obtain⟨m',o',h⟩:=h
    refine⟨_,_,m',o',?_,by rw[hd];exact h⟩
    unfold execOp
    rw[μ]
    simp only[wE,zTa,wC]
    rw[show(a.eval (.tmp s)).cells=vs from κ]
    rfl
  have ξ:∃z,l[i]? =some z:=⟨_,wB σ⟩
  obtain⟨z,hz⟩:=ξ
  have α:∀g cs E',newO o1 d w.heap.size g=some (d,0)->(w.alloc (.cells vs E0)).heap[g]? =some (.cells cs E' (0,0))->cs=vs:=λg cs E' q1 Z=>by
    have:=J.inj _ _ _ q1 (qT _ _ _)
    subst this
    rw[heap_alloc_new w _]at Z
    injection Z with Z
    injection Z with Z
    exact Z.symm
  rcases zDc (w:=w) (e:=E) (sz:=k) (n:=ls.length) (c:=cap) (xs:=xs) (by rw[e2]at p1;exact p1)with rfl|⟨gu,q,rfl⟩
  · have J2:=J.recellT (b:=d) (off:=i) (l:=l.map T.d) (x:= .d z) (y:= .own E k ls) (zK ..) (by rw[wG,hz];rfl) λg cs E' u' q1 Z q3 q4=>by
      have:=α _ _ _ q1 Z
      subst this
      rw[hu]at q3
      cases q3
      refine⟨⟨none,cap,xs,e2,zAs p1 λg hg=>(by rw[e2]at hg;cases hg),λg hg=>(by cases hg),p3,λi' r j d' a1 a2=> ?_⟩,rfl⟩
      obtain⟨u2,b1,b2⟩:=p4 i' r j d' a1 a2
      exact⟨u2,b1,b2.mono (λb p u h=>by
        unfold newM
        split
        · rename_i e;subst e;rw[I.mem_none (wL _)]at h;cases h
        · exact h)⟩
    have he:upd (upd (upd S s (.t (.agg l))) d (.box (l.map T.d))) d (.box ((l.map T.d).set i (.own E k ls)))=app S [(s,.t (.agg l)),(d,.box ((l.map T.d).set i (.own E k ls)))]:=by
      funext t
      show upd _ _ _ t=upd (upd S s _) d _ t
      by_cases e:t=d
      · subst e;rw[zK,zK]
      · rw[zE e,zE e,zE e]
    rw[he]at J2
    exact⟨_,_,J2⟩
  · obtain⟨hg,hm⟩:=p2 gu rfl
    have ψ:=I.lt gu _ hg
    have δ:o1 gu=none:=by
      cases h:o1 gu with
      |none=>rfl
      |some x=>
        obtain⟨q1,Z⟩:=π gu x h
        rw[hg]at Z
        injection Z with Z
        exact absurd Z.symm q1
    have η:Mle m (newM m w.heap.size λ_=>none):=λb p u h=>by
      unfold newM
      split
      · rename_i e;subst e;rw[I.mem_none (wL _)]at h;cases h
      · exact h
    refine⟨_,_,J.gain (loc:=(d,i+1)) (gu:=gu) ν (.inl (by simp)) ?_ (I.own gu _ hg) (by simp;omega) (λt e=> ?_) (λl' _=>⟨by simp,_,zK ..⟩) λho ι=> ?_⟩
    · unfold newO
      rw[if_neg (by omega),δ]
      rfl
    · show upd (upd S s _) d _ t=upd (upd S s _) d _ t
      rw[zE e,zE e]
    · have ζ:=J.slots d
      rw[zK]at ζ
      obtain⟨g,hv,j1,j2,cs,E',j3,j4,j5⟩:=ζ
      show RepA _ _ _ _ d (upd (upd S s _) d _ d) _
      rw[zK]
      have ρ:=α _ _ _ j1 j3
      refine⟨g,hv,ho g _ j1 (λe=>by injection e with _ e;omega),j2,cs,E',j3,by simpa using j4,λj x U=> ?_⟩
      rw[uS]at U
      split at U
      · rename_i e
        subst e
        split at U
        · cases U
          refine⟨rfl,u,by rw[ρ];exact hu,some ⟨gu,q,none⟩,cap,xs,e2,zAs p1 λg' W=> ?_,λg' W=> ?_,p3,λi' r j d' a1 a2=> ?_⟩
          · rw[e2,qN]at W
            cases W
            exact(Same.alloc (λ_=>False) w _).block gu ψ (λh=>h)
          · cases W
            refine⟨ι,λp hp=> ?_⟩
            show newM m w.heap.size (λ_=>none) gu _=_
            have ε:gu≠w.heap.size:=by omega
            unfold newM
            rw[if_neg ε]
            exact hm p hp
          · obtain⟨u2,b1,b2⟩:=p4 i' r j d' a1 a2
            exact⟨u2,b1,b2.mono η⟩
        · cases U
      · rw[wG]at U
        cases γ:l[j]? with
        |none=>rw[γ]at U;cases U
        |some z2=>
          rw[γ]at U
          cases U
          obtain⟨q1,u2,Z,q3⟩:=j5 j (.d z2) (by rw[wG,γ];rfl)
          exact⟨q1,u2,Z,q3⟩
theorem ok_agS(hM:Mk M S){t b s:Nat}{x:Operand}{l:List D}{lb:List T}{i E k:Nat}{ls:List (List D)}(hop:op.op= .store t x (.tmp s))(hd:op.dst=none){ti:TypeInfo}(hi:P.info? t=some ti)(hx:cpO M x= .ref b 0)(hb:S b= .box lb)(hbO:b<OB)(hs:S s= .t (.ags l [(i,E,k,ls)]))(hsz:l.length=ti.size)(hlb:lb.length=l.length)(hsp:s∉pins):
    OpOK P pins N op S (app S [(s,.t (.agg l)),(b,.box ((l.map T.d).set i (.own E k ls)))]):=by
  refine zGt hd λw0 m0 o0 G a w m o hN I=> ?_
  have hsO:=zWZ I hs
  have ω:b≠s:=λe=>by subst e;rw[hb]at hs;cases hs
  have φ:=zW hM I x 0
  rw[hx]at φ
  obtain⟨g,h1,ex,_⟩:=φ
  obtain⟨o1,I2,σ⟩:=I.agsSlot hsO hsp hs
  have hA:=I.slots s
  rw[hs]at hA
  obtain⟨Z,e,hl,U,hc⟩:=hA
  obtain⟨u,hu,A',cap,xs,e2,p1,p2,p3,p4⟩:=hc _ (vA.2 rfl)
  have θ:(a.eval (.tmp s)).cells=Z:=by rw[show a.eval (.tmp s)=_ from e];rfl
  have α:Z.toList.length=l.length:=hl.1
  have χ:i<l.length:=by
    have:i<Z.size:=(vV.1 hu).1
    simp at α
    omega
  have ρ:upd S s (.t (.agg l)) b= .box lb:=by rw[zE ω];exact hb
  have μ:=I2.slots b
  rw[ρ]at μ
  obtain⟨g',hv',h2,h3,cs,E1,h4,h5,h6⟩:=μ
  have:g=g':=I.inj _ _ _ h1 (σ _ _ h2).2
  subst this
  have ν:∀u∈Z.toList,u.oneCell'=true:=λu hu=>by
    obtain⟨j,U⟩:=vZ hu
    have hlt:j<l.length:=by rw[<-α];exact(wF.1 U).1
    obtain⟨u',q1,W⟩:=hl.2 j _ (wB hlt)
    rw[q1]at U
    cases U
    exact W.one
  have η:=zE1 (P:=P) (w:=w) (off:=0) (v:=a.eval (.tmp s)) hi h4 (by rw[θ];simp at α;omega) (by rw[θ];exact ν) (by omega)
  rw[θ]at η
  have ψ:(qD cs.toList 0 Z.toList).length=cs.toList.length:=zAM cs.toList 0 Z.toList (by simp only[vE];simp at α;omega)
  have ε:∀j,j<l.length->(qD cs.toList 0 Z.toList).toArray[j]? =Z[j]? :=λj U=>by
    have ξ:(qD cs.toList 0 Z.toList).toArray[j]? =(qD cs.toList 0 Z.toList)[j]? :=by simp
    rw[ξ,zCA cs.toList 0 Z.toList (by simp only[vE];simp at α;omega),if_pos (by omega)]
    simp
  have hl0:=I2.shps
  have J:=I2.box_put ρ h2 h4 (cs':=(qD cs.toList 0 Z.toList).toArray) (by simpa using ψ) o1 (λ_=>False) (λs h=>h.elim) (λg l h _ _=>h) h2 (λg l h=>⟨l,h⟩) I2.inj (λg l l' h h' k=>by rw[h]at h';injection h' with h';rw[h'];exact k) (l':=l.map T.d) (by simp;omega) (λj x U=>by
    rw[wG]at U
    cases hz:l[j]? with
    |none=>rw[hz]at U;cases U
    |some z=>
      rw[hz]at U
      cases U
      obtain⟨u,q1,W⟩:=hl.2 j z hz
      refine⟨rfl,u,?_,W⟩
      rw[ε j (wF.1 hz).1]
      simpa using q1)
  have τ:(w.setRow g (qD cs.toList 0 Z.toList).toArray).heap[g]? =some (.cells (qD cs.toList 0 Z.toList).toArray E1 (0,0)):=setRow_heap w g cs _ E1 _ h4
  have ζ:∀g2 δ E2,o1 g2=some (b,0)->(w.setRow g (qD cs.toList 0 Z.toList).toArray).heap[g2]? =some (.cells δ E2 (0,0))->δ=(qD cs.toList 0 Z.toList).toArray:=λg2 δ E2 q1 W=>by
    have:=I2.inj _ _ _ q1 h2
    subst this
    rw[τ]at W
    injection W with W
    injection W with W
    exact W.symm
  suffices h:∃o',Inv w0 m0 o0 G pins (app S [(s,.t (.agg l)),(b,.box ((l.map T.d).set i (.own E k ls)))]) a (w.setRow g (qD cs.toList 0 Z.toList).toArray) m o' by
    obtain⟨o',h⟩:=h
    refine⟨_,m,o',?_,h⟩
    unfold execOp
    rw[hop]
    simp only[wE]
    rw[ex,η]
    rfl
  have π:(qD cs.toList 0 Z.toList).toArray[i]? =some u:=by rw[ε i χ];exact hu
  have hzi:∃z,l[i]? =some z:=⟨_,wB χ⟩
  obtain⟨z,hz⟩:=hzi
  rcases zDc (w:=w) (e:=E) (sz:=k) (n:=ls.length) (c:=cap) (xs:=xs) (by rw[e2]at p1;exact p1)with rfl|⟨gu,q,rfl⟩
  · have J2:=J.recellT (b:=b) (off:=i) (l:=l.map T.d) (x:= .d z) (y:= .own E k ls) (zK ..) (by rw[wG,hz];rfl) λg2 δ E2 u' q1 W q3 q4=>by
      have:=ζ _ _ _ q1 W
      subst this
      rw[π]at q3
      cases q3
      exact⟨⟨none,cap,xs,e2,zAs p1 λg hg=>(by rw[e2]at hg;cases hg),λg hg=>(by cases hg),p3,p4⟩,rfl⟩
    have he:upd (upd (upd S s (.t (.agg l))) b (.box (l.map T.d))) b (.box ((l.map T.d).set i (.own E k ls)))=app S [(s,.t (.agg l)),(b,.box ((l.map T.d).set i (.own E k ls)))]:=by
      funext t
      show upd _ _ _ t=upd (upd S s _) b _ t
      by_cases e:t=b
      · subst e;rw[zK,zK]
      · rw[zE e,zE e,zE e]
    rw[he]at J2
    exact⟨_,J2⟩
  · obtain⟨hg,hm⟩:=p2 gu rfl
    have hgl:=I.lt gu _ hg
    have β:o1 gu=none:=by
      cases h:o1 gu with
      |none=>rfl
      |some x=>
        obtain⟨q1,W⟩:=σ gu x h
        rw[hg]at W
        injection W with W
        exact absurd W.symm q1
    have hgg:gu≠g:=λe=>by rw[e,h2]at β;cases β
    refine⟨_,J.gain (loc:=(b,i+1)) (gu:=gu) hbO (.inl (by simp)) β (I.own gu _ hg) (by rw[show(w.setRow g (qD cs.toList 0 Z.toList).toArray).heap.size=w.heap.size from setRow_size ..];exact hgl) (λt e=> ?_) (λl' _=>⟨by simp,_,zK ..⟩) λho hgu=> ?_⟩
    · show upd (upd S s _) b _ t=upd (upd S s _) b _ t
      rw[zE e,zE e]
    · have κ:=J.slots b
      rw[zK]at κ
      obtain⟨g3,hv,j1,j2,cs3,E3,j3,j4,j5⟩:=κ
      show RepA _ _ _ _ b (upd (upd S s _) b _ b) _
      rw[zK]
      have hcs:=ζ _ _ _ j1 j3
      refine⟨g3,hv,ho g3 _ j1 (λe=>by injection e with _ e;omega),j2,cs3,E3,j3,by simpa using j4,λj x U=> ?_⟩
      rw[uS]at U
      split at U
      · rename_i e
        subst e
        split at U
        · cases U
          refine⟨rfl,u,by rw[hcs];exact π,some ⟨gu,q,none⟩,cap,xs,e2,zAs p1 λg' γ=> ?_,λg' γ=> ?_,p3,p4⟩
          · rw[e2,qN]at γ
            cases γ
            exact setRow_other w g gu _ hgg
          · cases γ
            exact⟨hgu,hm⟩
        · cases U
      · rw[wG]at U
        cases ι:l[j]? with
        |none=>rw[ι]at U;cases U
        |some z2=>
          rw[ι]at U
          cases U
          obtain⟨q1,u2,W,q3⟩:=j5 j (.d z2) (by rw[wG,ι];rfl)
          exact⟨q1,u2,W,q3⟩
theorem argsH_ref{σ:List Nat}{l l':List A}(h:zIL σ l l'):∀x∈l',∀b off,x≠ .ref b off:=by(induction h with|nil=>grind|cons hx _ u=>intro x hm b off e;rcases vD.1 hm with rfl|hm;(subst e;(cases hx with|plain _ hp=>cases hp));grind)
theorem h_callAg{d:Nat}{f f':Nat->A}(hM:Mk M S)(hk:S HK= .hp f){fn:Nat}{xs:List Operand}{ts:Array TypeId}{fx:Operand}(hop:op.op= .call {callee:= .value fx,args:=xs.toArray,argTypes:=ts})(hfx:vO M fx=some (.func (.func fn) #[] #[]))(hd:op.dst=some d)(hok:okD N pins S d=true){F:Func}(hfn:P.funcs[fn]? =some F)(hbody:F.body.isNone=false)(hname:(F.name== "runtime.NumGoroutine")=false){args:List A}{r r':A}(hf:FCH P fn args [] [] f f' r)(hp:zCO f)(hp':zCO f'){s ka:Nat}{l:List D}{c:AgC}(hka:args[ka]? =some (.t (.ags l [c])))(hxs:xs[ka]? =some (.tmp s))(hs:S s= .t (.ags l [c]))(hsp:s∉pins)(hsd:s≠d)(hargs:zIL [] (xs.map (cpO M)) (args.set ka (.t (.agg l))))(hle:Nat.ble args.length OB=true)(hres:ResH [] r r'):
 OpH P pins N op S (app S [(s,.t (.agg l)),(HK,.hp f'),(d,r')]):=by
 intro hN hlo
 have hdO:=zX hN hok
 have hd2:d≠HK:=by unfold HK;unfold OB at hdO;omega
 have hs':hx S s= .t (.ags l [c]):=yM hs (by simp)
 have hkl:ka<args.length:=(wF.1 hka).1
 have hleO:=wS hle
 by_cases hsO:s<OB
 case neg=>
  refine⟨λw0 m0 o0 G a w m o hNa I=>absurd (zWZ I hs') hsO,?_⟩
  by_cases h2:s<OB2
  · exact((hlo.upd h2).upd zLp).upd (lt2 hdO)
  · have:=hlo s (by omega);rw[hs]at this;cases this
 have hsH:s≠HK:=by unfold HK;unfold OB at hsO;omega
 refine⟨?_,((hlo.upd (lt2 hsO)).upd zLp).upd (lt2 hdO)⟩
 show OpOK P pins N op (hx S) (hx (upd (upd (upd S s (.t (.agg l))) HK (.hp f')) d r'))
 have hl1:Low (upd S s (.t (.agg l))):=hlo.upd (lt2 hsO)
 have he:hx (upd (upd (upd S s (.t (.agg l))) HK (.hp f')) d r')=upd (upd (hpS (upd (hx S) s (.t (.agg l))) f') d r') HK (.hp f'):=by rw[zAc (lt2 hdO) hd2,zHE hd2,<-zAc (lt2 hsO) hsH];congr 1;funext t;by_cases e:t=HK;(subst e;rw[zK];exact yM (zK _ _ _) (by simp));(rw[zE e];rcases wR t OB2 with h|h;(rw[zBx h,zE e];unfold hpS;rw[if_neg (by omega),zBx h]);(obtain⟨k,rfl⟩:∃k,t=OB2+k:=⟨t-OB2,by omega⟩;rw[qX,zDO (hl1.upd zLp) (zK _ _ _),<-qX];unfold hpS;rw[if_pos (wV _ _),wO]))
 rw[he]
 refine OpOK.hkpost (f:=f) ?_ ?_
 · intro w0 m0 o0 G a w m o hNa I K Q hK;obtain⟨h1,h2,h3⟩:=zP (qA hN hok);obtain⟨o1,I1,ho1,K1⟩:=I.agsSlotK hsO hsp hs';have hA:=I.slots s;rw[hs']at hA;obtain⟨vs,ev,hl,hj,hc⟩:=hA;obtain⟨u,hu,A',cap,xs',e2,p1,p2,p3,p4⟩:=hc _ (vA.2 rfl);obtain⟨k1,k2⟩:=zJN hM.hx I tP (vI _) (λj h=>by cases h) (S':=argH args [] f) xs (args.set ka (.t (.agg l))) hargs;have iffN:=λ(o:OwnM) (g:Nat) (l:Nat×Nat)=>zCF (σ:=[]) (o:=o) (g:=g) (l:=l) tP (vI _) (λj h=>by cases h);(have hmo:∀g l,movH [] o g=some l->movH [] o1 g=some l:=λg l h=>by rcases(iffN o g l).1 h with⟨c,q1,q2⟩|⟨_,_,_,_,q,_⟩;exact(iffN o1 g l).2 (.inl ⟨c,q1,K1.own g l q2 (λe=>by rw[e]at q1;simp only at q1;omega)⟩);cases q);(have hhp:∀g l,movH [] o1 g=some l->OB<=l.1/\o1 g=some l:=λg l h=>by rcases(iffN o1 g l).1 h with⟨c,q1,q2⟩|⟨_,_,_,_,q,_⟩;exact⟨by omega,q2⟩;cases q);(have key:∃(oc:OwnM) (X:Nat->Prop),(∀g l,movH [] o1 g=some l->oc g=some l)/\(∀g l,oc g=some l->movH [] o1 g=some l\/(l.1<OB/\X g))/\(∀g,X g->o1 g=none/\g<w.heap.size/\(G g\/w0.heap.size<=g))/\(∀g g' l,oc g=some l->oc g'=some l->g=g')/\(∀g l,oc g=some l->l.1≠ka->movH [] o1 g=some l)/\zEX m w oc (ka,0) l [c] (a.tmps.getD s undef):=by rcases zDc (w:=w) (e:=c.2.1) (sz:=c.2.2.1) (n:=c.2.2.2.length) (c:=cap) (xs:=xs') (by rw[e2]at p1;exact p1)with rfl|⟨gu,q,rfl⟩;(refine⟨movH [] o1,λ_=>False,λ_ _ h=>h,λ_ _ h=> .inl h,λ_ h=>h.elim,λg g' l h h'=>I1.inj g g' l (hhp g l h).2 (hhp g' l h').2,λ_ _ h _=>h,vs,ev,hl,hj,λc' hc'=> ?_⟩;rw[vA]at hc';subst hc';exact⟨u,hu,none,cap,xs',e2,p1,λg hg=>(by cases hg),p3,p4⟩);(obtain⟨hg,hm⟩:=p2 gu rfl;(have ho1n:o1 gu=none:=by(cases h:o1 gu with|none=>rfl|some x=>obtain⟨q1,q2⟩:=ho1 gu x h;rw[hg]at q2;injection q2 with q2;exact absurd q2.symm q1));(have hmn:movH [] o1 gu=none:=by(cases h:movH [] o1 gu with|none=>rfl|some x=>have:=(hhp gu x h).2;rw[ho1n]at this;cases this));refine⟨gnO (movH [] o1) (ka,0) gu,λg=>g=gu,λg l h=>zT5 hmn h (λe=>by have:=(hhp g l h).1;rw[e]at this;simp only at this;omega),λg l h=> ?_,λg e=> ?_,λg g' l h h'=> ?_,λg l h hn=> ?_,vs,ev,hl,hj,λc' hc'=> ?_⟩;(rcases zDZ h with⟨e1,e⟩|⟨_,_,h⟩;exact .inr ⟨by rw[e];show ka<OB;omega,e1⟩;exact .inl h);(have e:g=gu:=e;subst e;exact⟨ho1n,I.lt g _ hg,I.own g _ hg⟩);(rcases zDZ h with⟨e1,e⟩|⟨_,e,h⟩<;>rcases zDZ h' with⟨e2,e'⟩|⟨_,e',h'⟩;rw[e1,e2];exact absurd e e';exact absurd e' e;exact I1.inj g g' l (hhp g l h).2 (hhp g' l h').2);(rcases zDZ h with⟨_,e⟩|⟨_,_,h⟩;exact absurd (by rw[e]) hn;exact h);(rw[vA]at hc';subst hc';exact⟨u,hu,some ⟨gu,q,none⟩,cap,xs',e2,p1,λg' hg'=>by injection hg' with hg';subst hg';exact⟨by unfold gnO;rw[if_pos rfl],hm⟩,p3,p4⟩)));obtain⟨oc,X,hoc1,hoc2,hX,hinj,hoc3,hAg⟩:=key;have KA:Keep (λx=>x.1=ka) m w (movH [] o) m w oc:=⟨Mle.refl _,λ_ _ _ _=>rfl,λ_ _ _ _=>rfl,λg l h _=>hoc1 g l (hmo g l h),λg j h=>hoc1 g _ (hmo g _ h),λg s' k hn h=>⟨g,k,by have h2:=(hhp g _ (hoc3 g _ h hn));refine(iffN o g _).2 (.inl ?_);have h3:=(ho1 g _ h2.2).2;rcases(iffN o1 g _).1 (hoc3 g _ h hn)with⟨c,q1,q2⟩|⟨_,_,_,_,q,_⟩;exact⟨c,q1,h3⟩;cases q⟩,λ_ _ _=> .of_eq rfl⟩;(have hev:∀k,(xs.map a.eval).toArray.getD k undef=((xs.map a.eval)[k]?).getD undef:=λk=>by rw[wJ];simp);have hc:=zSA (K:=Calls P fn) (vals:=(xs.map a.eval).toArray) (σ:=[]) (fr:=[]) (outs:=[]) (oc:=oc) (X:=X) I1 (λ_ _ _ _ h k=>Calls.mono h k) hf (λc=>by rw[zE (by omega)];exact zDO hlo hk c) hp hp' tP (λj h=>by cases h) rfl rfl rfl (λj h=>by cases h) rfl (vI _) hres hoc1 hoc2 hX hinj (by simpa using k1) (λk x hx=>by by_cases e:k=ka;(subst e;rw[hka]at hx;cases hx;rw[hev,wG,hxs];exact hAg);((have hx':(args.set ka (.t (.agg l)))[k]? =some x:=by rw[List.getElem?_set_ne (Ne.symm e)];exact hx);have hr:=k2 k x hx' k;rw[hev];refine RepA.keep (S:=argH args [] f) KA (λj e2=>e e2) (λb off e2 _=>absurd e2 (argsH_ref hargs x (wD hx') b off)) ?_;(simpa using hr))) hleO (d:=d) (by omega) (by rw[zE (Ne.symm hsd)];exact h2) h3;(have hrun:(execOp a.eval op).run P w= .ok (.enter fn (xs.map a.eval).toArray) w:=by unfold execOp;rw[hop];simp only[resolve,zA0 hM.hx I hfx,Deferred.ofValue,wU];(have hb:F.body≠none:=λe=>by rw[e]at hbody;cases hbody);(have hn:F.name≠ "runtime.NumGoroutine" :=λe=>by rw[e]at hname;simp at hname);simp[invoke,callFunc,hfn,hn,hb]);unfold Oper.wp;rw[hrun];refine Calls.mono hc ?_;rintro e w' ⟨u,m',o',rfl,J⟩;rw[<-hd]at J;exact hK _ _ _ _ (by rw[zAK,hNa]) J
 · rw[zE (Ne.symm hd2)];unfold hpS;rw[if_neg (by unfold HK OB2;omega),zE (Ne.symm hsH)];exact yM hk (by simp)
end
section
variable {P:Program}
def agL(i:Nat):qP P where
 hk:=[]
 pr pins N M op:=match op.dst,op.op with
  |some d,.load t x=>match cpO M x,tyA P t with
   | .ref b 0,some (true,n)=>match M b with
    | .box l=>match l[i]? with
     |some (.own E k J)=>some ([bp (okD N pins M d),⟨n,l.length⟩,bp (noPt l),⟨b==d,false⟩,bp (Nat.blt b OB)],[(b,.box (l.set i (.d (.seq k J)))),(d,.t (.ags (l.map toD) [(i,E,k,J)]))])
     |_=>none
    |_=>none
   |_,_=>none
  |_,_=>none
 ok pins N S M op c0 e hM hd h hc:=by
  split at h
  ·
   rename_i d t x U h2
   split at h
   ·
    rename_i b n h3 h4
    split at h
    ·
     rename_i l Z
     split at h
     ·
      rename_i E k J h6
      cases h
      obtain⟨q1,q2,q3,I,q5,_⟩:=hc
      have I:b≠d:=by simpa using I
      have u:=zAE q1 (hd d U)
      have hs:S b= .box l:=hM.get Z (by simp)
      exact .of (e:=[(b,_),(d,_)]) λW=>⟨ok_agL hM.hx h2 h4 h3 (yM hs (by simp)) q2 h6 q3 I U (qA W u),zQS (zGD hM Z rfl) rfl (zX W u)⟩
     · cases h
    · cases h
   · cases h
  · cases h
def agX:qP P where
 hk:=[]
 pr pins N M op:=match op.dst,op.op with
  |some d,.extract (.tmp s) i=>match M s with
   | .tup l=>match l[i]? with
    |some (.ags ds [c])=>some ([bp (okD N pins M d),⟨s==d,false⟩,bp (Nat.blt s OB)],[(s,.tup (l.set i (.agg ds))),(d,.t (.ags ds [c]))])
    |_=>none
   |_=>none
  |_,_=>none
 ok pins N S M op c0 e hM hd h hc:=by
  split at h
  ·
   rename_i d s i I Z
   split at h
   ·
    rename_i l J
    split at h
    ·
     rename_i ds c W
     cases h
     obtain⟨q1,q2,q3,_⟩:=hc
     have u:=zAE q1 (hd d I)
     have hs:S s= .tup l:=hM.get J (by simp)
     exact .of (e:=[(s,_),(d,_)]) λU=>⟨ok_agX Z (yM hs (by simp)) W q2 q3 I (qA U u),zQS (zGD hM J rfl) rfl (zX U u)⟩
    · cases h
   · cases h
  · cases h
def agB:qP P where
 hk:=[]
 pr pins N M op:=match op.dst,op.op with
  |some d,.box _ (.tmp s)=>match M s with| .t (.ags l [(i,E,k,I)])=>some ([bp (okD N pins M d),⟨s==d,false⟩,⟨pins.contains s,false⟩],[(s,.t (.agg l)),(d,.box ((l.map T.d).set i (.own E k I)))])|_=>none
  |_,_=>none
 ok pins N S M op c0 e hM hd h hc:=by split at h;(rename_i d E0 s J W;split at h;(rename_i l i E k I U;cases h;obtain⟨q1,q2,q3,_⟩:=hc;have u:=zAE q1 (hd d J);have hs:S s= .t (.ags l [(i,E,k,I)]):=hM.get U (by simp);exact .of (e:=[(s,_),(d,_)]) λZ=>⟨ok_agB W J (qA Z u) (yM hs (by simp)) (by simpa using q2) (by simpa using q3),zQS (zGD hM U rfl) rfl (zX Z u)⟩);cases h);cases h
def agS:qP P where
 hk:=[]
 pr pins N M op:=match op.dst,op.op with
  |none,.store t x (.tmp s)=>match cpO M x,P.info? t,M s with
   | .ref b 0,some U,.t (.ags l [(i,E,k,J)])=>match M b with
    | .box I=>some ([⟨l.length,U.size⟩,⟨I.length,l.length⟩,bp (Nat.blt b OB),⟨pins.contains s,false⟩],[(s,.t (.agg l)),(b,.box ((l.map T.d).set i (.own E k J)))])
    |_=>none
   |_,_,_=>none
  |_,_=>none
 ok pins N S M op c0 e hM hd h hc:=by
  split at h
  ·
   rename_i t x s h1 h2
   split at h
   ·
    rename_i b U l i E k J h3 h4 Z
    split at h
    ·
     rename_i I W
     cases h
     obtain⟨q1,q2,u,q4,_⟩:=hc
     have u:b<OB:=by rw[<-sM];exact u
     have hs:S s= .t (.ags l [(i,E,k,J)]):=hM.get Z (by simp)
     have hb:S b= .box I:=hM.get W (by simp)
     exact .of (e:=[(s,_),(b,_)]) λhN=>⟨ok_agS hM.hx h2 h1 h4 h3 (yM hb (by simp)) u (yM hs (by simp)) q1 q2 (by simpa using q4),zQS (zGD hM Z rfl) rfl u⟩
    · cases h
   · cases h
  · cases h
def cAg{fn:Nat}{args:List A}{f f':Nat->A}{y:A}{l:List D}{c:AgC}(ka:Nat)(u:args[ka]? =some (.t (.ags l [c])))(hf:FCH P fn args [] [] f f' y)[p:PuH f][p':PuH f']:qP P where
 hk:=[HK]
 pr pins N M op:=match op.dst,op.op with
  |some d,.call {callee:= .value fx,args:=⟨xs⟩,argTypes:=_}=>match xs[ka]? with|some (.tmp s)=>some (bp (fnOK P fn)::bp (okD N pins M d)::bp (Nat.ble args.length OB)::⟨vO M fx,some (.func (.func fn) #[] #[])⟩::⟨M s,.t (.ags l [c])⟩::⟨pins.contains s,false⟩::⟨s==d,false⟩::bp (zVi y)::⟨M HK,.hp f⟩::zPa (xs.map (cpO M)) (args.set ka (.t (.agg l))),[(s,.t (.agg l)),(HK,.hp f'),(d,y)])|_=>none
  |_,_=>none
 ok pins N S M op c0 e hM hd h hc:=by split at h;(rename_i d fx xs ts J Z;split at h;(rename_i s h3;cases h;obtain⟨q1,q2,q3,q4,q5,q6,W,q8,U,I⟩:=hc;obtain⟨F,f1,f2,f3⟩:=zH4 q1;have hs:S s= .t (.ags l [c]):=hM.get q5 (by simp);have hk:S HK= .hp f:=hM.get U (by simp);exact h_callAg hM hk Z q4 J (zAE q2 (hd d J)) f1 f2 f3 hf p.h p'.h u h3 hs (by simpa using q6) (by simpa using W) (zEP I) q3 (zNr q8));cases h);cases h
end
section
variable {P:Program}{w0:World}{m0:Mem}{o0:OwnM}{G:GD}{pins:List Nat}{S:Nat->A}{a:Act}{w:World}{m:Mem}{o:OwnM}
theorem fck_lit{K:Array Value->World->(Ending->World->Prop)->Prop}{args ins outs:List A}{f f':Nat->A}{r:A}{ka i E k:Nat}{l:List D}{rows:List (List D)}(hO:ka<OB)(α:args[ka]? =some (.t (.ags l [(i,E,k,rows)])))
(h:∀u,FCK K (args.set ka (.t (.ags (l.set i (.lit u)) [(i,E,k,rows)]))) ins outs f f' r):FCK K args ins outs f f' r:=by
 intro w m o J h1 h2 h3 h4 h5 h6
 have Z:ka<args.length:=(wF.1 α).1
 have e1:argH args ins f ka= .t (.ags l [(i,E,k,rows)]):=by unfold argH;grind
 have hr:=h6 ka
 rw[e1]at hr
 obtain⟨vs,e,q1,q2,q3⟩:=hr
 obtain⟨u,hu,I⟩:=q3 _ (vA.2 rfl)
 have e2:∀(x:A) s,s≠ka->argH (args.set ka x) ins f s=argH args ins f s:=λx s W=>by unfold argH;grind
 refine h u w m o J h1 h2 h3 h4 (by simpa using h5) λs=> ?_
 by_cases W:s=ka
 · subst W;rw[show argH (args.set s (.t (.ags (l.set i (.lit u)) [(i,E,k,rows)]))) ins f s= .t (.ags (l.set i (.lit u)) [(i,E,k,rows)])from by unfold argH;rw[if_pos hO,wK,List.getElem?_set_self Z];rfl];refine⟨vs,e,⟨by simpa using q1.1,λj d U=> ?_⟩,q2,q3⟩;rw[uS]at U;split at U;(rename_i ej;subst ej;split at U;(cases U;obtain⟨A',cap,xs,e3,_⟩:=I;exact⟨u,by simpa using hu,.lit _ (by rw[e3];rfl)⟩);grind);exact q1.2 j d U
 · rw[e2 _ s W];refine(h6 s).turn λb l' β=> ?_;grind
theorem Inv.agTake(I:Inv w0 m0 o0 G pins S a w m o){s t i E k:Nat}{u:Value}{l:List D}{rows:List (List D)}(hs:S s= .t (.ags l [(i,E,k,rows)]))(hl:l[i]? =some (.lit u))(μ:s∉pins)(ht:S t= .t (.d (.lit u)))(γ:t∉pins)(θ:s≠t)(δ:t<OB):
 ∃o',Inv w0 m0 o0 G pins (app S [(s,.t (.agg l)),(t,.t (.own E k rows))]) a w m o':=by
 have ν:=zWZ I hs
 obtain⟨o1,I1,κ⟩:=I.agsSlot ν μ hs
 have hA:=I.slots s
 rw[hs]at hA
 obtain⟨vs,e,q1,q2,q3⟩:=hA
 obtain⟨u',hu,W⟩:=q3 _ (vA.2 rfl)
 obtain⟨u2,η,ζ⟩:=q1.2 i _ hl
 have ι:vs[i]? =some u':=hu
 have U:vs[i]? =some u2:=by simpa using η
 rw[ι]at U
 cases U
 have:u'=u:=by cases ζ;rfl
 subst this
 have J:=I.slots t
 rw[ht]at J
 have J:a.tmps.getD t undef=u':=by have:RepD m (.lit u') (a.tmps.getD t undef):=J;generalize a.tmps.getD t undef=z at this;cases this;rfl
 have β:upd S s (.t (.agg l)) t= .t (.d (.lit u')):=by rw[zE (Ne.symm θ)];exact ht
 obtain⟨A',cap,xs,e2,p1,p2,p3,p4⟩:=W
 rcases zDc (w:=w) (e:=E) (sz:=k) (n:=rows.length) (c:=cap) (xs:=xs) (by rw[e2]at p1;exact p1)with rfl|⟨gu,q,rfl⟩
 · obtain⟨o2,I2,_⟩:=I1.lose (S':=app S [(s,.t (.agg l)),(t,.t (.own E k rows))]) (loc:=(t,0)) δ (.inr γ) (λx hx=>zE hx) (λl' h=>by rw[show upd S s (.t (.agg l)) (t,0).1=_ from β]at h;cases h) (λo' _ _=>by show RepA m w o' _ t (upd (upd S s _) t _ t) _;rw[zK];show zGv m w o' (t,0) E k rows (a.tmps.getD t undef);rw[J];exact⟨none,cap,xs,e2,p1,λg hg=>(by cases hg),p3,p4⟩);exact⟨o2,I2⟩
 · obtain⟨hg,hm⟩:=p2 gu rfl;(have α:o1 gu=none:=by(cases h:o1 gu with|none=>rfl|some x=>obtain⟨r1,r2⟩:=κ gu x h;rw[hg]at r2;injection r2 with r2;exact absurd r2.symm r1));refine⟨_,I1.gain (loc:=(t,0)) (gu:=gu) δ (.inr γ) α (I.own gu _ hg) (I.lt gu _ hg) (λx hx=>zE hx) (λl' h=>by rw[show upd S s (.t (.agg l)) (t,0).1=_ from β]at h;cases h) λho ε=> ?_⟩;show RepA m w _ _ t (upd (upd S s _) t _ t) _;rw[zK];show zGv m w _ (t,0) E k rows (a.tmps.getD t undef);rw[J];exact⟨some ⟨gu,q,none⟩,cap,xs,e2,p1,λg' Z=>by injection Z with Z;subst Z;exact⟨ε,hm⟩,p3,p4⟩
def agA{α:Type}{c:α->List D}{nb:Nat}{xs ys zs:List α}(s:Nat)(ha:appI nb xs ys=some zs):qP P where
 hk:=[s]
 pr pins N M op:=match op.dst,op.op with
  |some d,.call {callee:= .builtin .append,args:=⟨[.tmp t,y]⟩,argTypes:=⟨[t1,t2]⟩}=>match M s,M t,elF P t1 with| .t (.ags l [(i,E,k,rows)]),.t (.d (.lit u)),some (e,sz,ε)=>some ([bp (okD N pins M d),⟨t2,t1⟩,⟨l[i]?,some (.lit u)⟩,⟨rows,xs.map c⟩,⟨E,e⟩,⟨k,sz⟩,⟨ε,nb⟩,⟨slD sz (dO (upd (upd M s (.t (.agg l))) t (.t (.own E k rows))) y),some (ys.map c)⟩,⟨s==t,false⟩,⟨t==d,false⟩,⟨s==d,false⟩,⟨pins.contains s,false⟩,⟨pins.contains t,false⟩,bp (Nat.blt t OB)],[(s,.t (.agg l)),(t,.t (.d (.seq k rows))),(d,.t (.own E k (zs.map c)))])|_,_,_=>none
  |_,_=>none
 ok pins N S M op c0 eff hM hd h hc:=by split at h;(rename_i d t y t1 t2 h1 h2;split at h;(rename_i l i E k rows u e sz ε h3 h4 h5;cases h;obtain⟨q1,rfl,q3,rfl,rfl,rfl,rfl,q8,q9,U,W,η,γ,J,_⟩:=hc;(have q9:s≠t:=by simpa using q9);(have U:t≠d:=by simpa using U);(have W:s≠d:=by simpa using W);(have J:t<OB:=by rw[<-sM];exact J);have ζ:=zAE q1 (hd d h1);have hs:S s= .t (.ags l [(i,E,k,xs.map c)]):=hM.get h3 (by simp);have ht:S t= .t (.d (.lit u)):=hM.get h4 (by simp);refine .of (e:=[(s,_),(t,_),(d,_)]) λhN=>⟨?_,λy hy=> ?_⟩;(have δ:=qA hN ζ;(have ι:Mk (upd (upd M s (.t (.agg l))) t (.t (.own E k (xs.map c)))) (app (hx S) [(s,.t (.agg l)),(t,.t (.own E k (xs.map c)))]):=λz=>by show upd (upd M s _) t _ z= .any\/upd (upd M s _) t _ z=upd (upd (hx S) s _) t _ z;by_cases e1:z=t;subst e1;rw[zK,zK];exact .inr rfl;(rw[zE e1,zE e1];by_cases Z:z=s;subst Z;rw[zK,zK];exact .inr rfl;rw[zE Z,zE Z];exact hM.hx z));(have β:okD N pins (app (hx S) [(s,.t (.agg l)),(t,.t (.own E k (xs.map c)))]) d=true:=by refine zAE δ ?_;show hx S d=upd (upd (hx S) s _) t _ d;rw[zE (Ne.symm U),zE (Ne.symm W)]);have key:=ok_app (P:=P) (pins:=pins) (N:=N) ι (t:=t2) h2 h1 β h5 (zK _ _ _) U (by simpa using γ) q8 (appC ha);(have he:upd (upd (app (hx S) [(s,.t (.agg l)),(t,.t (.own E k (xs.map c)))]) t (.t (.d (.seq k (xs.map c))))) d (.t (.own E k (xs.map c++ys.map c)))=app (hx S) [(s,.t (.agg l)),(t,.t (.d (.seq k (xs.map c)))),(d,.t (.own E k (zs.map c)))]:=by rw[appE ha];funext z;show upd (upd (upd (upd (hx S) s _) t _) t _) d _ z=upd (upd (upd (hx S) s _) t _) d _ z;by_cases e1:z=d;subst e1;rw[zK,zK];(rw[zE e1,zE e1];by_cases Z:z=t;subst Z;rw[zK,zK];rw[zE Z,zE Z,zE Z]));rw[he]at key;intro w0 m0 o0 G a w m o θ I K Q hK;obtain⟨o',I'⟩:=I.agTake (yM hs (by simp)) q3 (by simpa using η) (yM ht (by simp)) (by simpa using γ) q9 J;exact key w0 m0 o0 G a w m o' θ I' K Q hK);(simp at hy;rcases hy with rfl|rfl|rfl;exact .inr ⟨by rw[hs];rfl,rfl⟩;exact .inl J;exact .inl (zX hN ζ)));cases h);cases h
theorem agR_ok{d s i E k:Nat}{u:Value}{l:List D}{rows:List (List D)}(hM:Mk M S)(hd:op.dst=some d)(δ:okD N pins S d=true)(hv:valF P M op.op=some (.t (.d (.lit u))))(hs:S s= .t (.ags l [(i,E,k,rows)]))(hl:l[i]? =some (.lit u)):OpOK P pins N op S (upd S d (.t (.d (.seq k rows)))):=by refine zL λw0 m0 o0 G a w m o hN I=> ?_;obtain⟨h1,h2,h3⟩:=zP δ;obtain⟨v,W,hr⟩:=zWz hM I op hv d;have hr:RepD m (.lit u) v:=hr;have hA:=I.slots s;rw[hs]at hA;obtain⟨vs,e,q1,q2,q3⟩:=hA;obtain⟨u',hu,Z⟩:=q3 _ (vA.2 rfl);obtain⟨u2,β,α⟩:=q1.2 i _ hl;have γ:vs[i]? =some u':=hu;(have J:vs[i]? =some u2:=by simpa using β);rw[γ]at J;cases J;(have:u'=u:=by cases α;rfl);subst this;(have:v=u':=by cases hr;rfl);subst this;have U:RepD m (.seq k rows) v:=zEn I.sat Z;refine⟨v,w,m,o,W,?_⟩;rw[hd];exact I.set d _ _ (by omega) h2 U
def agR(s:Nat):qP P where
 hk:=[s]
 pr pins N M op:=match op.dst,M s,valF P M op.op with
  |some d,.t (.ags l [(i,E,k,rows)]),some (.t (.d (.lit u)))=>some ([bp (okD N pins M d),⟨l[i]?,some (.lit u)⟩],[(d,.t (.d (.seq k rows)))])
  |_,_,_=>none
 ok pins N S M op c0 eff hM hd h hc:=by split at h;(rename_i d l i E k rows u J Z h3;cases h;obtain⟨W,q2,_⟩:=hc;have I:=zAE W (hd d J);have hs:S s= .t (.ags l [(i,E,k,rows)]):=hM.get Z (by simp);exact .of (e:=[(d,_)]) λU=>⟨agR_ok hM.hx J (qA U I) h3 (yM hs (by simp)) q2,zAr (zX U I)⟩);cases h
theorem ags_box(I:Inv w0 m0 o0 G pins S a w m o){b i E k n t:Nat}{l:List T}{ls:List (List D)}(W:b<OB)(ht:tyA P t=some (true,n))(hb:S b= .box l)(hn:n=l.length)(hl:l[i]? =some (.own E k ls))(hpt:noPt l=true):
  ∃v,(resS a.tmps (.cell b t)).run P w= .ok v w/\zEX m w o (b,i+1) (l.map toD) [(i,E,k,ls)] v:=by
 have hs:=I.slots b
 rw[hb]at hs
 obtain⟨gb,hv,k1,k2,cs,E',k3,k4,k5⟩:=hs
 have hv:=hv W
 obtain⟨_,ui,k6,U⟩:=k5 i _ hl
 have γ:i<l.length:=(wF.1 hl).1
 refine⟨.agg (cs.toList.take n).toArray,?_,_,rfl,⟨by simp;omega,λj d Z=> ?_⟩,dj1 _ _,λc hc=> ?_⟩
 ·
  have J:(Instr.loadAt t (a.tmps.getD b undef)).run P w= .ok (.agg (cs.toList.take n).toArray) w:=by
   rw[hv]
   simp only[Instr.loadAt,Instr.sureAddr,wE,wQ,wC]
   refine zBz ht (by simp;omega) λj v Z=> ?_
   rw[cell_of_row w gb (0+j) cs E' _ k3,vF]
   grind
  simp only[resS,hv,asAddr,wE,wQ,wC]
  rw[hv]at J
  simpa[Instr.loadAt,Instr.sureAddr]using J
 ·
  rw[wG]at Z
  cases hz:l[j]? with
  |none=>grind
  |some z=>
   rw[hz]at Z
   cases Z
   obtain⟨ha,u,h7,h8⟩:=k5 j z hz
   have β:j<l.length:=(wF.1 hz).1
   have α:z.isPt=false:=by
    have:=wI.1 hpt z (wD hz)
    grind
   refine⟨u,?_,h8.toD I.sat ha α⟩
   grind
 ·
  rw[vA]at hc
  subst hc
  refine⟨ui,?_,U⟩
  grind
def finG{R:Type}(P:Program)(rs:List ResultVar)(N i:Nat)(y:R->A)(x:R)(L:SL):Option PL:=match rs with
 |[.cell b t,.tmp e]=>match gt L b,tyA P t,gt L e with
  | .box l,some (true,n),.t (.d z)=>match l[i]? with
   |some (.own E k rows)=>some (⟨n,l.length⟩::bp (noPt l)::bp (Nat.blt b OB)::⟨gt L N,.any⟩::⟨gt L HK,.any⟩::bp (Nat.blt N OB)::⟨N==b,false⟩::wkA (.tup [.ags (l.map toD) [(i,E,k,rows)],.d z]) (y x))
   |_=>some (⟨n,l.length⟩::bp (noPt l)::bp (Nat.blt b OB)::wkA (.tup [.agg (l.map toD),.d z]) (y x))
  |_,_,_=>none
 |_=>none
theorem finG_ok{R:Type}{y:R->A}{x:R}{c:PL}{rs:List ResultVar}{fn:Func}{i:Nat}{args:List A}{a':Act}{w':World}{m':Mem}{o':OwnM}(ζ:fn.results=rs.toArray)(h:finG P rs fn.ntmps i y x L=some c)(hc:okL c)(hp:fn.ntmps∉zAD 0 args)(hN:a'.tmps.size=fn.ntmps)
(I:Inv w m o ⟨λg=>o g≠none,[]⟩ (zAD 0 args) (hx (gt L)) a' w' m' o'):Ends P w m o fn (zAD 0 args) [] (y x) a' w':=by
 unfold finG at h
 split at h
 case h_2=>cases h
 rename_i b t e
 split at h
 case h_2=>cases h
 rename_i l n z hb ht he
 have κ:∃v,(resS a'.tmps (.tmp e)).run P w'= .ok v w'/\RepD m' z v:=by have:=I.slots e;rw[yM he (by simp)]at this;exact⟨_,rfl,this⟩
 obtain⟨v2,ι,δ⟩:=κ
 have W:∀U,(resS a'.tmps (.cell b t)).run P w'= .ok U w'->(results fn a'.tmps).run P w'= .ok (.tuple #[U,v2]) w':=λU α=>by show(do let vs<-fn.results.mapM (resS a'.tmps);pure (if h:vs.size=1 then vs[0]else .tuple vs):Sem Value).run P w'=_;rw[ζ,wE,tW,Sem.run_map];simp only[sB,List.mapM_nil,wE,α,ι,wC,wQ];rfl
 split at h
 · rename_i E k rows hl;cases h;obtain⟨q1,q2,q3,q4,q5,q6,q7,q8⟩:=hc;have q1:n=l.length:=q1;(have q3:b<OB:=by rw[<-sM];exact q3);have q4:gt L fn.ntmps= .any:=q4;have q5:gt L HK= .any:=q5;(have q6:fn.ntmps<OB:=by rw[<-sM];exact q6);(have q7:fn.ntmps≠b:=by simpa using q7);rw[hx_none (S:=gt L) λf hf=>by rw[q5]at hf;cases hf]at I;obtain⟨U,α,hA⟩:=ags_box (P:=P) I q3 ht hb q1 hl q2;obtain⟨o1,I2,ν⟩:=I.dropCell hb hl;obtain⟨vs,e1,hL,η,θ⟩:=hA;obtain⟨u,hu,A',cap,xs,e2,p1,p2,p3,p4⟩:=θ _ (vA.2 rfl);(have β:upd (gt L) b (.box (l.set i (.d (.seq k rows)))) fn.ntmps= .any:=by rw[zE q7];exact q4);rcases zDc (w:=w') (e:=E) (sz:=k) (n:=rows.length) (c:=cap) (xs:=xs) (by rw[e2]at p1;exact p1)with rfl|⟨gu,q,rfl⟩;(refine⟨I.defers,_,W U α,_,m',o1,_,a',fn.ntmps,rfl,I2,(zKq q8).rep I2.sat ⟨#[U,v2],rfl,rfl,λj x J=> ?_⟩,λ_ _ h=>by cases h⟩;(match j,J with|0,J=>cases J;refine⟨U,rfl,vs,e1,hL,η,λc' Z=> ?_⟩;rw[vA]at Z;subst Z;exact⟨u,hu,none,cap,xs,e2,p1,λg hg=>(by cases hg),p3,p4⟩|1,J=>cases J;exact⟨v2,rfl,δ⟩));(obtain⟨hg,hm⟩:=p2 gu rfl;(have ε:o1 gu=none:=by(cases h:o1 gu with|none=>rfl|some x=>grind));(have I3:=I2.gain (S':=upd (gt L) b (.box (l.set i (.d (.seq k rows))))) (loc:=(fn.ntmps,1)) (gu:=gu) q6 (.inl (by simp)) ε (I.own gu _ hg) (I.lt gu _ hg) (λ_ _=>rfl) (λl' h=>by rw[show upd (gt L) b _ (fn.ntmps,1).1=_ from β]at h;cases h) λ_ _=>by show RepA _ _ _ _ fn.ntmps (upd (gt L) b _ fn.ntmps) _;rw[β];trivial);refine⟨I.defers,_,W U α,_,m',_,_,a',fn.ntmps,rfl,I3,(zKq q8).rep I3.sat ⟨#[U,v2],rfl,rfl,λj x J=> ?_⟩,λ_ _ h=>by cases h⟩;(match j,J with|0,J=>cases J;refine⟨U,rfl,vs,e1,hL,η,λc' Z=> ?_⟩;rw[vA]at Z;subst Z;exact⟨u,hu,some ⟨gu,q,none⟩,cap,xs,e2,p1,λg' γ=>by injection γ with γ;subst γ;exact⟨by unfold gnO;rw[if_pos rfl],hm⟩,p3,p4⟩|1,J=>cases J;exact⟨v2,rfl,δ⟩))
 · cases h;obtain⟨q1,q2,q3,q8⟩:=hc;have q1:n=l.length:=q1;(have q3:b<OB:=by rw[<-sM];exact q3);have μ:=yM hb (by simp);obtain⟨U,h1,h2⟩:=zOw (P:=P) I (r:= .cell b t) (x:= .agg (l.map toD)) (by unfold resT;simp only[μ,ht];rw[if_pos ⟨q1,q2,q3⟩]) (0,1);refine⟨I.defers,_,W U h1,_,m',o',_,a',0,rfl,I,(zKq q8).rep I.sat ⟨#[U,v2],rfl,rfl,λj x J=> ?_⟩,λ_ _ h=>by cases h⟩;(match j,J with|0,J=>grind|1,J=>cases J;exact⟨v2,rfl,δ⟩)
theorem fc_chkG{R:Type}(i:Nat)(U:P.follows .mixedOrders=true){fn:FuncId}{F:Func}(hf:P.funcs[fn]? =some F){args:List A}{y:R->A}(T:Tr P R [])
  (h:(zHj F args.length 0 [],(zAD 0 args).contains F.ntmps,(chk F.ntmps (λ_=>finG P F.results.toList F.ntmps i y) 100000 (zAD 0 args) FEnv.nil [] (.c (zET F)) (zBU 0 args) T).l)=(true,false,(chk F.ntmps (λ_=>finG P F.results.toList F.ntmps i y) 100000 (zAD 0 args) FEnv.nil [] (.c (zET F)) (zBU 0 args) T).r))(r:R)(hr:T.run Env.nil=some r):FC P fn args [] (y r):=by
 simp only[Prod.mk.injEq]at h
 obtain⟨u,h4,h2⟩:=h
 unfold zHj at u
 simp only[wH]at u
 obtain⟨⟨⟨⟨⟨q1,q2⟩,q3⟩,q4⟩,q5⟩,q6⟩:=u
 exact fc_ofQ (Q:=λe L=>∃c,finG P F.results.toList F.ntmps i y r L=some c/\okL c/\(e= .normal\/e= .ret)) hf (zSP q1) (wS q2) (wS q3) [] rfl (zTd U (λb x L c J hl e=>by
   subst e
   exact⟨c,J,hl,by cases b<;>simp[xb]⟩) 100000 (Γ:=[]) _ _ Env.nil (λ_ _=>True) [] (.c (zET F)) _ T (λk hk=>by cases hk) (λX m=>nomatch m) h2 hr)
  λw m o e L a' w' m' o' Z hN I=>by
   obtain⟨c,J,hl,W⟩:=Z
   exact⟨W,finG_ok uY.symm J hl (by simpa using h4) hN I⟩
end
end Go.Proofs.YtocolhfjpadaoaaGreatDoor
