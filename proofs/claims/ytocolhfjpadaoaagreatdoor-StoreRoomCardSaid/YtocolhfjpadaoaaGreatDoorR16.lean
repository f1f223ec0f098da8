/-
  Lemmas of this claim, joined.
-/
import Derived.Test.YtocolhfjpadaoaaGreatDoorR15
set_option linter.unusedVariables false
set_option linter.unusedSimpArgs false
set_option linter.constructorNameAsVariable false
namespace Go.Proofs.YtocolhfjpadaoaaGreatDoor
open Go
abbrev sV:=@List.take_replicate
end Go.Proofs.YtocolhfjpadaoaaGreatDoor
namespace Go.Proofs.YtocolhfjpadaoaaGreatDoor
open Go Go.RowKit
variable {P:Program}{w0:World}{w:World}{m0:Mem}{m:Mem}{o0:OwnM}{o:OwnM}{G:GD}{pins:List Nat}{N:Nat}{a:Act}{op:Oper}{S:Nat->A}{M:Nat->A}{L:SL}{v:Value}{W:World}{Q:Mem}{X:OwnM}
def kw(k:Nat):Int:=((2^k-1:Nat):Int)
def wk(h k:Nat):List Int:=kw k::List.replicate ((h+63)/64-1) 0
theorem wk_len{h k:Nat}(u:1<=h):(wk h k).length=(h+63)/64:=by simp[wk];omega
structure SpIn(H:Hp)(q h fr:Nat)(ws:List Int):Prop where
 at_:∃a,H.sp[q]? =some ⟨(h:Int),(fr:Int),(a,ws.length),true⟩/\H.w64[a]? =some ws
def rsS(H:Hp):=(H.dk,H.sec,H.lg,H.tx,H.mp,H.ix,H.st,H.vw,H.sv)
theorem n_SpNew{H:Hp}{h:Nat}(U:1<=h)(W:h<=16384):∃u,zEW (h:Int) H=some (some H.sp.length,0,u)/\SpIn u H.sp.length h h (wk h 0)/\rsS u=rsS H:=by(have I:wi (Int.tdiv (wi (wi ((h:Int)+64)-1)) 64)=(((h+63)/64:Nat):Int):=by rw[yF (z:=(h:Int)+64) (by omega) (by omega),yF (z:=(h:Int)+64-1) (by omega) (by omega),show(h:Int)+64-1=((h+63:Nat):Int) by omega];have:=zNK (a:=h+63) (b:=64);rw[show((64:Nat):Int)=64 from rfl]at this;rw[this,yF (by omega) (by omega)]);(have Z:mkI 8 (((h+63)/64:Nat):Int)=some ((h+63)/64):=by unfold mkI;rw[if_pos ⟨by omega,by omega,by omega⟩,wR]);rw[zSW,zD (zAW (by omega)),zD (zAW (by omega)),I,Z,wA];(have J:List.replicate ((h+63)/64) (0:Int)=wk h 0:=by obtain⟨n,hn⟩:∃n,(h+63)/64=n+1:=⟨(h+63)/64-1,by omega⟩;unfold wk;rw[hn,List.replicate_succ];rfl);refine⟨_,rfl,⟨H.w64.length,?_,?_⟩,rfl⟩;(show(H.sp++[_])[H.sp.length]? =_;rw[wk_len U];simp);(show(H.w64++[List.replicate ((h+63)/64) (0:Int)])[H.w64.length]? =_;rw[J];simp)
theorem bits7{k:Nat}(hk:k<7):(IntKind.u64.wrap ((((BitVec.ofInt IntKind.u64.bits 18446744073709551615)^^^(BitVec.ofInt IntKind.u64.bits (kw k))).toNat:Nat):Int) !=0)=true/\
 zCA (IntKind.u64.wrap ((((BitVec.ofInt IntKind.u64.bits 18446744073709551615)^^^(BitVec.ofInt IntKind.u64.bits (kw k))).toNat:Nat):Int))=some (k:Int)/\
 shlI .u64 1 (IntKind.u64.wrap (Int.tmod (k:Int) 64))=some ((2^k:Nat):Int)/\
 IntKind.u64.wrap ((((BitVec.ofInt IntKind.u64.bits (kw k))^^^(BitVec.ofInt IntKind.u64.bits ((2^k:Nat):Int))).toNat:Nat):Int)=kw (k+1)/\
 (∃x,shrI .u64 (kw (k+1)) (IntKind.u64.wrap (Int.tmod (k:Int) 64))=some x/\(IntKind.u64.wrap ((((BitVec.ofInt IntKind.u64.bits x)&&&(BitVec.ofInt IntKind.u64.bits 1)).toNat:Nat):Int)==0)=false):=by
 have:k=0\/k=1\/k=2\/k=3\/k=4\/k=5\/k=6:=by omega
 rcases this with rfl|rfl|rfl|rfl|rfl|rfl|rfl<;>exact⟨by decide+kernel,by decide+kernel,by decide+kernel,by decide+kernel,_,rfl,by decide+kernel⟩
theorem n_turn{H:Hp}{q h fr k:Nat}(hk:k<7)(hh:k<h)(h2:h<=16384)(hf:1<=fr/\fr<=16384)(hs:SpIn H q h fr (wk h k)):∃u,zCZ (some q) (k:Int) H=some u/\SpIn u q h (fr-1) (wk h (k+1))/\rsS u=rsS H:=by obtain⟨a,J,Z⟩:=hs;obtain⟨b1,b2,b3,b4,x,b5,b6⟩:=bits7 hk;have hq:=(wB.1 J).1;have ha:=(wB.1 Z).1;(have e0:wi (Int.tdiv (k:Int) 64)=0:=by have:=zNK (a:=k) (b:=64);rw[show((64:Nat):Int)=64 from rfl]at this;rw[this,show k/64=0 by omega];rfl);(have W:∀n:Nat,lenI n n=some ():=λn=>by unfold lenI;rw[if_pos rfl]);have I:(wk h k).set (Int.toNat 0) (kw (k+1))=wk h (k+1):=rfl;rw[zLx];show∃u,Option.bind (H.sp[q]?) _=_/\_;rw[J,wA];show∃u,Option.bind (H.w64[a]?) _=_/\_;rw[Z,wA];show∃u,Option.bind (lenI (wk h k).length (wk h k).length) _=_/\_;rw[W,wA,e0];show∃u,Option.bind (some (kw k)) _=_/\_;rw[wA,b3,wA,wA];show∃u,Option.bind (some (kw k)) _=_/\_;rw[wA,b4,I];(have U:zAo (some q) (k:Int) (H.st_w64 a (wk h (k+1)))=some false:=by rw[zHj];show(bif decide ((k:Int)>=0)then Option.bind (H.sp[q]?) _ else some false)=_;rw[zK (zAm (by omega)),J,wA];show(bif decide ((k:Int)<(h:Int))then Option.bind ((H.w64.set a (wk h (k+1)))[a]?) _ else some false)=_;rw[zK (zAm (by omega)),wQ ha,wA];show Option.bind (lenI (wk h (k+1)).length (wk h k).length) _=_;rw[show(wk h (k+1)).length=(wk h k).length from rfl,W,wA,e0];show Option.bind (some (kw (k+1))) _=_;rw[wA,b5,wA,b6]);show∃u,Option.bind (zAo (some q) (k:Int) (H.st_w64 a (wk h (k+1)))) _=_/\_;rw[U,wA,zD rfl];refine⟨_,rfl,⟨a,?_,?_⟩,rfl⟩;(show(H.sp.set q _)[q]? =_;rw[wQ hq,show(wk h (k+1)).length=(wk h k).length from rfl];show some (zO.mk (h:Int) (wi ((fr:Int)-1)) (a,(wk h k).length) true)=_;rw[yF (by omega) (by omega),show(fr:Int)-1=((fr-1:Nat):Int) by omega]);exact wQ ha
def upN(k:Nat):List Int:=(List.range k).map Int.ofNat
theorem upN_succ(k:Nat):upN (k+1)=upN k++[(k:Int)]:=by simp[upN,List.range_succ]
theorem zSn(k:Nat):(upN k).length=k:=by simp[upN]
theorem zRw{h k q:Nat}(hk:k<=7)(hh:k<h)(I:h<=16384)(K:List Int×Hp->Option (List Int×Int×Hp))(p:Option Nat)(hp:p=some q):∀(n j:Nat) (H:Hp),j<=k->k-j<n->SpIn H q h (h-j) (wk h j)->
 ∃u,zAL K (k:Int) p q n (upN j) 0 H=K (upN k,u)/\SpIn u q h (h-k) (wk h k)/\rsS u=rsS H
 |0,j,H,_,h,_=>by omega
 |n+1,j,H,hj,hn,hs=>by subst hp;unfold zAL;by_cases Z:j<k;(obtain⟨H1,t1,J,U⟩:=n_turn (k:=j) (by omega) (by omega) I (by omega) hs;obtain⟨a,g1,g2⟩:=hs;obtain⟨W,b2,b3,b4,x,b5,b6⟩:=bits7 (k:=j) (by omega);(have el:∀n:Nat,lenI n n=some ():=λn=>by unfold lenI;rw[if_pos rfl]);rw[zK (zAm (by rw[zSn];omega))];show∃u,Option.bind (H.sp[q]?) _=_/\_;rw[g1,wA];show∃u,Option.bind (H.w64[a]?) _=_/\_;rw[g2,wA];show∃u,Option.bind (lenI (wk h j).length (wk h j).length) _=_/\_;rw[el,wA];show∃u,Option.bind (some (kw j)) _=_/\_;rw[wA,zK W,b2,wA];(have e:wi (wi (64*0)+(j:Int))=(j:Int):=by rw[show wi (64*0)=0 from rfl,yF (by omega) (by omega)];omega);rw[e,t1,wA,zEI (by rw[zSn];simp;omega),wA,<-upN_succ];obtain⟨u,k1,k2,k3⟩:=zRw hk hh I K (some q) rfl n (j+1) H1 (by omega) (by omega) (by rw[show h-(j+1)=h-j-1 by omega];exact J);exact⟨u,k1,k2,k3.trans U⟩);((have e:j=k:=by omega);subst e;rw[zD (zAW (by rw[zSn];omega))];exact⟨H,rfl,hs,rfl⟩)
theorem n_Take{H:Hp}{h k q:Nat}(hk:k<=7)(hh:k<h)(J:h<=16384)(hs:SpIn H q h h (wk h 0)):∃u,zBW (some q) (k:Int) H=some (upN k,0,u)/\SpIn u q h (h-k) (wk h k)/\rsS u=rsS H:=by obtain⟨u,k1,k2,k3⟩:=zRw hk hh J (λq=>zBQ q.1 q.2) (some q) rfl ((k:Int).toNat+300) 0 H (by omega) (by omega) hs;obtain⟨a,I,U⟩:=hs;rw[zLv];show∃u,Option.bind (H.sp[q]?) _=_/\_;rw[I,wA];unfold zCT;show∃u,(bif decide ((k:Int)<0)then _ else Option.bind (H.sp[q]?) _)=_/\_;rw[zD (zAW (by omega)),I,wA];show∃u,(bif decide ((k:Int)>(h:Int))then _ else _)=_/\_;rw[zD (zAW (by omega))];refine⟨u,k1.trans ?_,k2,k3⟩;show zBQ (upN k) u=_;unfold zBQ;rfl
def kb(k:Nat):UInt8:=UInt8.ofNat (2^k-1)
def bsk(n k:Nat):List UInt8:=kb k::List.replicate (n-1) 0
theorem zLL{n k:Nat}(h:1<=n):(bsk n k).length=n:=by simp[bsk];omega
theorem wk_0{h k:Nat}:(wk h k)[0]? =some (kw k):=rfl
theorem wk_s{h k j:Nat}(h0:j≠0)(u:j<(h+63)/64):(wk h k)[j]? =some 0:=by obtain⟨i,rfl⟩:∃i,j=i+1:=⟨j-1,by omega⟩;unfold wk;rw[sZ,vH,if_pos (by omega)]
theorem bsk_s{n k j:Nat}(h0:j≠0)(u:j<n):(bsk n k)[j]? =some 0:=by obtain⟨i,rfl⟩:∃i,j=i+1:=⟨j-1,by omega⟩;unfold bsk;rw[sZ,vH,if_pos (by omega)]
theorem hasB:∀k<8,∀j<64,(match shrI .u64 (kw k) (IntKind.u64.wrap (Int.tmod ((j:Nat):Int) 64))with|some x=>decide (((IntKind.u64.wrap ((((BitVec.ofInt IntKind.u64.bits x)&&&(BitVec.ofInt IntKind.u64.bits 1)).toNat:Nat):Int))==0)=decide (k<=j))|none=>false)=true:=by decide+kernel
theorem hasZ:∀j<64,(match shrI .u64 0 (IntKind.u64.wrap ((j:Nat):Int))with|some x=>((IntKind.u64.wrap ((((BitVec.ofInt IntKind.u64.bits x)&&&(BitVec.ofInt IntKind.u64.bits 1)).toNat:Nat):Int))==0)|none=>false)=true:=by decide+kernel
theorem tdivK{j:Nat}(h:j<=16384)(c:Nat)(u:0<c):wi (Int.tdiv (j:Int) (c:Int))=((j/c:Nat):Int):=by have:=Nat.div_le_self j c;rw[zNK];generalize j/c=z at*;exact yF (by omega) (by omega)
theorem tdivK'{j:Nat}(h:j<=20000)(c:Nat)(u:0<c):wi (Int.tdiv (j:Int) (c:Int))=((j/c:Nat):Int):=by have:=Nat.div_le_self j c;rw[zNK];generalize j/c=z at*;exact yF (by omega) (by omega)
theorem n_Has{H:Hp}{q h fr k j:Nat}(hk:k<=7)(Z:j<h)(W:h<=16384)(hs:SpIn H q h fr (wk h k)):zAo (some q) (j:Int) H=some (decide (k<=j)):=by obtain⟨a,J,I⟩:=hs;(have U:∀n:Nat,lenI n n=some ():=λn=>by unfold lenI;rw[if_pos rfl]);rw[zHj];show(bif decide ((j:Int)>=0)then Option.bind (H.sp[q]?) _ else some false)=_;rw[zK (zAm (by omega)),J,wA];show(bif decide ((j:Int)<(h:Int))then Option.bind (H.w64[a]?) _ else some false)=_;rw[zK (zAm (by omega)),I,wA];show Option.bind (lenI (wk h k).length (wk h k).length) _=_;rw[U,wA];have e0:=tdivK (j:=j) (by omega) 64 (by omega);rw[show((64:Nat):Int)=64 from rfl]at e0;rw[e0];unfold idx;rw[zK (zAm (by omega)),wR];by_cases hz:j/64=0;(rw[hz,wk_0,wA];have:=hasB k (by omega) j (by omega);revert this;generalize shrI .u64 (kw k) (IntKind.u64.wrap (Int.tmod ((j:Nat):Int) 64))=u;(cases u with|none=>intro h;cases h|some x=>intro h;rw[wA];exact congrArg some (of_decide_eq_true h)));(rw[wk_s hz (by omega),wA];have:=hasZ (j %64) (by omega);rw[show Int.tmod ((j:Nat):Int) 64=((j %64:Nat):Int)from rfl];revert this;generalize shrI .u64 0 (IntKind.u64.wrap ((j %64:Nat):Int))=u;(cases u with|none=>intro h;cases h|some x=>intro h;rw[wA];rw[show decide (k<=j)=true from decide_eq_true (by omega)];exact congrArg some h))
theorem byB:∀k<8,∀j<8,(match shrI .u64 (kw k) (IntKind.u64.wrap (wi (8*((j:Nat):Int))))with|some x=>decide (U8 x=if j=0 then kb k else 0)|none=>false)=true:=by decide+kernel
theorem byZ:∀j<8,(match shrI .u64 0 (IntKind.u64.wrap (wi (8*((j:Nat):Int))))with|some x=>decide (U8 x=0)|none=>false)=true:=by decide+kernel
def byR(n k j:Nat):List UInt8:=if j=0 then List.replicate n 0 else bsk n k
theorem byR_len{n k j:Nat}(h:1<=n):(byR n k j).length=n:=by unfold byR;split<;>simp[zLL h]
theorem zPZ{H:Hp}{q h fr k a:Nat}(hk:k<=7)(h1:1<=h)(h2:h<=16384)(J:H.w64[a]? =some (wk h k))(p:Option Nat):∀(n j:Nat),j<=(h+7)/8->(h+7)/8-j<n->
 zAe ((h+7)/8) p q H ⟨(h:Int),(fr:Int),(a,(wk h k).length),true⟩ n (j:Int) (byR ((h+7)/8) k j)=some (bsk ((h+7)/8) k)
 |0,j,_,hn=>by omega
 |n+1,j,hj,hn=>by(have el:∀n:Nat,lenI n n=some ():=λn=>by unfold lenI;rw[if_pos rfl]);(have U:1<=(h+7)/8:=by omega);unfold zAe;by_cases I:j<(h+7)/8;(rw[zK (zAm (by omega))];show Option.bind (H.w64[a]?) _=_;rw[J,wA];show Option.bind (lenI (wk h k).length (wk h k).length) _=_;rw[el,wA];have e0:=tdivK (j:=j) (by omega) 8 (by omega);rw[show((8:Nat):Int)=8 from rfl]at e0;rw[e0,show Int.tmod ((j:Nat):Int) 8=((j %8:Nat):Int)from rfl];(have Z:∃x,Option.bind (idx (wk h k) ((j/8:Nat):Int)) (λz=>shrI .u64 z (IntKind.u64.wrap (wi (8*((j %8:Nat):Int)))))=some x/\U8 x=if j=0 then kb k else 0:=by unfold idx;rw[zK (zAm (by omega)),wR];by_cases hz:j/8=0;(rw[hz,wk_0,wA];have:=byB k (by omega) (j %8) (by omega);revert this;generalize shrI .u64 (kw k) (IntKind.u64.wrap (wi (8*((j %8:Nat):Int))))=u;(cases u with|none=>intro h;cases h|some x=>intro h;refine⟨x,rfl,?_⟩;rw[of_decide_eq_true h,show j %8=j by omega]));(rw[wk_s hz (by omega),wA];have:=byZ (j %8) (by omega);revert this;generalize shrI .u64 0 (IntKind.u64.wrap (wi (8*((j %8:Nat):Int))))=u;(cases u with|none=>intro h;cases h|some x=>intro h;refine⟨x,rfl,?_⟩;rw[of_decide_eq_true h,if_neg (by omega)])));obtain⟨x,hx,hu⟩:=Z;obtain⟨z,y1,y2⟩:=Option.bind_eq_some_iff.1 hx;rw[y1,wA,y2,wA];(have hb:∃u,idx (byR ((h+7)/8) k j) (j:Int)=some u:=by unfold idx;rw[zK (zAm (by omega)),wR];exact⟨_,wF (by rw[byR_len U];exact I)⟩);obtain⟨u,hb⟩:=hb;rw[hb,wA,hu,wR,yF (by omega) (by omega),show(j:Int)+1=((j+1:Nat):Int) by omega];(have:(byR ((h+7)/8) k j).set j (if j=0 then kb k else 0)=byR ((h+7)/8) k (j+1):=by unfold byR;rw[if_neg (by omega:¬j+1=0)];by_cases hz:j=0;(subst hz;rw[if_pos rfl,if_pos rfl];obtain⟨m,W⟩:∃m,(h+7)/8=m+1:=⟨(h+7)/8-1,by omega⟩;rw[W,List.replicate_succ];rfl);(rw[if_neg hz,if_neg hz];apply sJ;intro i;by_cases hi:i=j;(subst hi;rw[wQ (by rw[zLL U];exact I),bsk_s hz I]);rw[vN (by omega)]));rw[this];exact zPZ hk h1 h2 J p n (j+1) (by omega) (by omega));((have e:j=(h+7)/8:=by omega);rw[zD (zAW (by omega))];(have:byR ((h+7)/8) k j=bsk ((h+7)/8) k:=by unfold byR;rw[if_neg (by omega)]);rw[this];rfl)
theorem n_Bytes{H:Hp}{q h fr k:Nat}(hk:k<=7)(U:1<=h)(J:h<=16384)(hs:SpIn H q h fr (wk h k)):zB4 (some q) H=some (bsk ((h+7)/8) k):=by obtain⟨a,I,u⟩:=hs;rw[zLD];show Option.bind (H.sp[q]?) _=_;rw[I,wA];show Option.bind (mkI 1 (wi (Int.tdiv (wi ((h:Int)+7)) 8))) _=_;have e0:=tdivK' (j:=h+7) (by omega) 8 (by omega);rw[show((8:Nat):Int)=8 from rfl]at e0;rw[yF (z:=(h:Int)+7) (by omega) (by omega),show(h:Int)+7=((h+7:Nat):Int) by omega,e0];(have Z:mkI 1 (((h+7)/8:Nat):Int)=some ((h+7)/8):=by unfold mkI;rw[if_pos ⟨by omega,by omega,by omega⟩,wR]);rw[Z,wA];exact zPZ hk U J u (some q) _ 0 (by omega) (by omega)
theorem zTT{H:Hp}{q h fr:Nat}{ws:List Int}(hs:SpIn H q h fr ws):zAb (some q) H=some (fr:Int):=by obtain⟨a,u,I⟩:=hs;rw[zL8];show Option.bind (H.sp[q]?) _=_;rw[u,wA]
def rdW(h k j:Nat):List Int:=wk h (if j=0 then 0 else k)
def rdF(h k j:Nat):Nat:=if j=0 then h else h-k
theorem orB:∀k<8,shlI .u64 ((kb k).toNat:Int) (IntKind.u64.wrap (wi (8*(((0:Nat):Int)))))=some (kw k)/\IntKind.u64.wrap ((((BitVec.ofInt IntKind.u64.bits (kw 0))|||(BitVec.ofInt IntKind.u64.bits (kw k))).toNat:Nat):Int)=kw k/\zBA (kb k)=some ((k:Nat):Int):=by intro k hk;(have:k=0\/k=1\/k=2\/k=3\/k=4\/k=5\/k=6\/k=7:=by omega);rcases this with rfl|rfl|rfl|rfl|rfl|rfl|rfl|rfl<;>exact⟨by decide+kernel,by decide+kernel,by decide+kernel⟩
theorem orK:∀k<8,IntKind.u64.wrap ((((BitVec.ofInt IntKind.u64.bits (kw k))|||(BitVec.ofInt IntKind.u64.bits 0)).toNat:Nat):Int)=kw k:=by decide+kernel
theorem orZ:IntKind.u64.wrap ((((BitVec.ofInt IntKind.u64.bits 0)|||(BitVec.ofInt IntKind.u64.bits 0)).toNat:Nat):Int)=0:=by decide+kernel
theorem shZ:∀j<8,shlI .u64 0 (IntKind.u64.wrap (wi (8*((j:Nat):Int))))=some 0:=by decide+kernel
theorem cntZ:zBA 0=some 0:=by decide+kernel
theorem zNp{α:Type}{l:List α}{i:Nat}{x:α}(h:l[i]? =some x):l.set i x=l:=by apply sJ;intro j;by_cases e:j=i;(subst e;rw[h,wQ (wB.1 h).1]);rw[vN (by omega)]
theorem zN9{h k q:Nat}(hk:k<=7)(hh:k<=h)(h1:1<=h)(h2:h<=16384)(K:Hp->Option (Option Nat×Int×Hp))(x:Option Nat×Int×Hp)(hx:x.1=some q):∀(n j:Nat) (H:Hp),j<=(h+7)/8->(h+7)/8-j<n->SpIn H q h (rdF h k j) (rdW h k j)->
 ∃u,zCp K (bsk ((h+7)/8) k) x n (j:Int) H=K u/\SpIn u q h (h-k) (wk h k)/\rsS u=rsS H
 |0,j,H,_,hn,_=>by omega
 |n+1,j,H,hj,hn,hs=>by(have el:∀n:Nat,lenI n n=some ():=λn=>by unfold lenI;rw[if_pos rfl]);(have hN:1<=(h+7)/8:=by omega);unfold zCp;by_cases J:j<(h+7)/8;(rw[zK (zAm (by rw[zLL hN];omega)),hx];obtain⟨a,W,Z⟩:=hs;have hq:=(wB.1 W).1;have ha:=(wB.1 Z).1;have e0:=tdivK (j:=j) (by omega) 8 (by omega);rw[show((8:Nat):Int)=8 from rfl]at e0;(obtain⟨b,w,s,c,f1,f2,f3,f4,f5,f6⟩:∃b w s c,idx (bsk ((h+7)/8) k) (j:Int)=some b/\(rdW h k j)[j/8]? =some w/\shlI .u64 (b.toNat:Int) (IntKind.u64.wrap (wi (8*((j %8:Nat):Int))))=some s/\(rdW h k j).set (j/8) (IntKind.u64.wrap ((((BitVec.ofInt IntKind.u64.bits w)|||(BitVec.ofInt IntKind.u64.bits s)).toNat:Nat):Int))=rdW h k (j+1)/\zBA b=some c/\(rdF h k j:Int)-c=(rdF h k (j+1):Int):=by unfold idx;rw[zK (zAm (by omega)),wR];by_cases hz:j=0;(subst hz;obtain⟨o1,o2,o3⟩:=orB k (by omega);refine⟨kb k,kw 0,kw k,k,rfl,rfl,o1,?_,o3,?_⟩;(rw[o2];rfl);(unfold rdF;rw[if_pos rfl,if_neg (by omega)];omega));((have r1:rdW h k j=wk h k:=by unfold rdW;rw[if_neg hz]);(have r2:rdW h k (j+1)=wk h k:=by unfold rdW;rw[if_neg (by omega)]);rw[r1,r2,bsk_s hz J];(have hf:(rdF h k j:Int)-0=(rdF h k (j+1):Int):=by unfold rdF;rw[if_neg hz,if_neg (by omega)];omega);by_cases I:j/8=0;(refine⟨0,kw k,0,0,rfl,by rw[I];rfl,shZ (j %8) (by omega),?_,cntZ,hf⟩;rw[orK k (by omega),I];rfl);(refine⟨0,0,0,0,rfl,wk_s I (by omega),shZ (j %8) (by omega),?_,cntZ,hf⟩;rw[orZ];exact zNp (wk_s I (by omega)))));rw[f1,wA];show∃u,Option.bind (H.sp[q]?) _=_/\_;rw[W,wA];show∃u,Option.bind (H.w64[a]?) _=_/\_;rw[Z,wA];show∃u,Option.bind (lenI (rdW h k j).length (rdW h k j).length) _=_/\_;rw[el,wA,e0];(have U:idx (rdW h k j) ((j/8:Nat):Int)=some w:=by unfold idx;rw[zK (zAm (by omega)),wR];exact f2);rw[U,wA,show Int.tmod ((j:Nat):Int) 8=((j %8:Nat):Int)from rfl,f3,wA,wA,wA,wR,f4,f5,wA];(have hl:(rdW h k j).length=(rdW h k (j+1)).length:=by rw[<-f4,vI]);obtain⟨u,k1,k2,k3⟩:=zN9 hk hh h1 h2 K x hx n (j+1) ((H.st_w64 a (rdW h k (j+1))).st_sp q ⟨(h:Int),wi ((rdF h k j:Int)-c),(a,(rdW h k j).length),true⟩) (by omega) (by omega) ⟨a,by show(H.sp.set q _)[q]? =_;rw[wQ hq];show some (zO.mk (h:Int) (wi ((rdF h k j:Int)-c)) (a,(rdW h k j).length) true)=_;(have:rdF h k (j+1)<=h:=by unfold rdF;split<;>omega);rw[f6,hl,yF (by omega) (by omega)],wQ ha⟩;refine⟨u,?_,k2,k3⟩;rw[<-k1,yF (z:=(j:Int)+1) (by omega) (by omega),show(j:Int)+1=((j+1:Nat):Int) by omega]);((have e:j=(h+7)/8:=by omega);rw[zD (zAW (by rw[zLL hN];omega))];refine⟨H,rfl,?_,rfl⟩;unfold rdW rdF at hs;rw[if_neg (by omega),if_neg (by omega)]at hs;exact hs)
theorem hiB:∀h<8,∀k<h+1,shrI .u8 ((kb k).toNat:Int) (IntKind.u64.wrap ((h:Nat):Int))=some 0:=by decide+kernel
theorem hiZ:∀h<8,shrI .u8 (((0:UInt8).toNat:Nat):Int) (IntKind.u64.wrap ((h:Nat):Int))=some 0:=by decide+kernel
theorem n_SpRead{H:Hp}{h k:Nat}(hk:k<=7)(hh:k<=h)(U:1<=h)(J:h<=16384):∃u,zFW (h:Int) (bsk ((h+7)/8) k) H=some (some H.sp.length,0,u)/\SpIn u H.sp.length h (h-k) (wk h k)/\rsS u=rsS H:=by obtain⟨I,t1,t2,t3⟩:=n_SpNew (H:=H) U J;(have Z:1<=(h+7)/8:=by omega);obtain⟨u,k1,k2,k3⟩:=zN9 (q:=H.sp.length) hk hh U J (zGN (some H.sp.length,0,I)) (some H.sp.length,0,I) rfl ((bsk ((h+7)/8) k).length+1) 0 I (by omega) (by rw[zLL Z];omega) t2;refine⟨u,?_,k2,k3.trans t3⟩;rw[zRJ,t1,wA];have e0:=tdivK' (j:=h+7) (by omega) 8 (by omega);rw[show((8:Nat):Int)=8 from rfl]at e0;rw[zD (show(((some H.sp.length,(0:Int),I):Option Nat×Int×Hp).2.1 !=0)=false from rfl),yF (z:=(h:Int)+7) (by omega) (by omega),show(h:Int)+7=((h+7:Nat):Int) by omega,e0,zLL Z,zD (zAW (by omega)),zD (zAW (by omega))];(have hj:zDq (some H.sp.length,0,I) (bsk ((h+7)/8) k)=some (some H.sp.length,0,u):=by unfold zDq;exact k1);have e8:Int.tmod (h:Int) 8=((h %8:Nat):Int):=rfl;rw[e8,hj];(cases W:(((h %8:Nat):Int) !=0)with|false=>rfl|true=>(have h0:h %8≠0:=by intro e;rw[e]at W;cases W);show Option.bind _ _=_;(have hi:∃b,idx (bsk ((h+7)/8) k) (wi ((((h+7)/8:Nat):Int)-1))=some b/\shrI .u8 (b.toNat:Int) (IntKind.u64.wrap ((h %8:Nat):Int))=some 0:=by rw[yF (by omega) (by omega),show(((h+7)/8:Nat):Int)-1=(((h+7)/8-1:Nat):Int) by omega];unfold idx;rw[zK (zAm (by omega)),wR];by_cases hz:(h+7)/8=1;(refine⟨kb k,by rw[hz];rfl,?_⟩;(have h8:h<8:=by omega);rw[tQ h8];exact hiB h (by omega) k (by omega));(refine⟨0,bsk_s (by omega) (by omega),?_⟩;exact hiZ (h %8) (by omega)));obtain⟨b,q1,q2⟩:=hi;rw[q1,wA,q2,wA];rfl)
def rnR(k j:Nat):List zJ:=if j<=k then[]else[⟨(k:Int),((j-k:Nat):Int)⟩]
theorem zQ5{H:Hp}{q h fr k:Nat}(hk:k<=7)(hh:k<h)(Z:h<=16384)(hs:SpIn H q h fr (wk h k))(x:zO)(hx:x.n_=(h:Int)):∀(n j:Nat),j<=h->h-j<n->
 qC x (some q) H n (j:Int) (rnR k j)=some [⟨(k:Int),((h-k:Nat):Int)⟩]
 |0,j,_,hn=>by omega
 |n+1,j,hj,hn=>by unfold qC;rw[hx];by_cases I:j<h;((have u:wi ((j:Int)+1)=((j+1:Nat):Int):=by rw[yF (by omega) (by omega)];omega);have J:=zQ5 hk hh Z hs x hx n (j+1) (by omega) (by omega);rw[zK (zAm (by omega)),n_Has hk I Z hs,wA];by_cases c1:j<k;(rw[show decide (k<=j)=false from decide_eq_false (by omega)];show qC x (some q) H n (wi ((j:Int)+1)) (rnR k j)=_;rw[u,<-J];unfold rnR;rw[if_pos (by omega),if_pos (by omega)]);(rw[show decide (k<=j)=true from decide_eq_true (by omega)];by_cases c2:j=k;(subst c2;(have e:rnR j j=[]:=by unfold rnR;rw[if_pos (by omega)]);rw[e];show Option.bind (appI 16 [] [(zJ.mk (j:Int) 1)]) (λU=>qC x (some q) H n (wi ((j:Int)+1)) U)=_;rw[zEI (by simp),wA,u,<-J];unfold rnR;rw[if_neg (by omega),show j+1-j=1 by omega];rfl);((have e:rnR k j=[⟨(k:Int),((j-k:Nat):Int)⟩]:=by unfold rnR;rw[if_neg (by omega)]);rw[e];show zCU (λW=>qC x (some q) H n W.1 W.2) [⟨(k:Int),((j-k:Nat):Int)⟩] (j:Int) H (wi ((k:Int)+((j-k:Nat):Int))==(j:Int))=_;(have es:(wi ((k:Int)+((j-k:Nat):Int))==(j:Int))=true:=by rw[yF (by omega) (by omega)];exact beq_iff_eq.2 (by omega));rw[es];show qC x (some q) H n (wi ((j:Int)+1)) [⟨(k:Int),wi (((j-k:Nat):Int)+1)⟩]=_;rw[u,<-J];unfold rnR;rw[if_neg (by omega),yF (z:=((j-k:Nat):Int)+1) (by omega) (by omega),show((j-k:Nat):Int)+1=((j+1-k:Nat):Int) by omega])));((have e:j=h:=by omega);subst e;rw[zD (zAW (by omega))];unfold rnR;rw[if_neg (by omega)])
theorem n_Runs{H:Hp}{q h fr k:Nat}(hk:k<=7)(hh:k<h)(I:h<=16384)(hs:SpIn H q h fr (wk h k)):zBY (some q) H=some [⟨(k:Int),((h-k:Nat):Int)⟩]:=by have u:=hs;obtain⟨a,J,U⟩:=hs;rw[zML];show Option.bind (H.sp[q]?) _=_;rw[J,wA];have:=zQ5 hk hh I u ⟨(h:Int),(fr:Int),(a,(wk h k).length),true⟩ rfl (h+1) 0 (by omega) (by omega);unfold rnR at this;rw[if_pos (by omega)]at this;exact this
theorem lenB:∀k<8,(bif (kw k) !=0 then((zAp (kw k)).bind λv=>some (wi (wi (wi (64*((0:Nat):Int))+v)-1)))else some (-1))=some ((k:Int)-1):=by intro k hk;(have:k=0\/k=1\/k=2\/k=3\/k=4\/k=5\/k=6\/k=7:=by omega);rcases this with rfl|rfl|rfl|rfl|rfl|rfl|rfl|rfl<;>decide+kernel
theorem n_topM{h k:Nat}(hk:k<=7):∀j,1<=j->j<=(h+63)/64->topM (wk h k) j=some ((k:Int)-1)
 |0,I,_=>by omega
 |j+1,_,u=>by unfold topM;by_cases hz:j=0;(subst hz;rw[wk_0];exact lenB k (by omega));(rw[wk_s hz (by omega)];exact n_topM hk j (by omega) (by omega))
theorem n_Top{H:Hp}{q h fr k:Nat}(hk:k<=7)(I:1<=h)(U:h<=16384)(hs:SpIn H q h fr (wk h k)):zBt (some q) H=some ((k:Int)-1):=by obtain⟨a,J,u⟩:=hs;unfold zBt;show Option.bind (H.sp[q]?) _=_;rw[J,wA];show Option.bind (H.w64[a]?) _=_;rw[u,wA];have hl:=wk_len (h:=h) (k:=k) I;show Option.bind (bif Nat.beq (wk h k).length (wk h k).length&&decide ((wk h k).length<=10000000000000)then some ()else none) _=_;rw[show Nat.beq (wk h k).length (wk h k).length=true from Nat.beq_refl _,show decide ((wk h k).length<=10000000000000)=true from decide_eq_true (by omega)];show Option.bind (topM (wk h k) (wk h k).length) _=_;rw[n_topM hk _ (by omega) (by omega),wA]
def mapS(k:Nat):List UInt8:=kb k::List.replicate 63 0
theorem n_map{k m z:Nat}(h:64*(z+1)<=m+1)(I:m<=100000):cutI (kb k::List.replicate m 0) (wi (64*(z:Int))) (wi (64*wi ((z:Int)+1)))=some (if z=0 then mapS k else List.replicate 64 0):=by rw[yF (z:=(z:Int)+1) (by omega) (by omega),yF (z:=64*(z:Int)) (by omega) (by omega),yF (by omega) (by omega)];have:=zGt (l:=kb k::List.replicate m (0:UInt8)) (lo:=64*z) (n:=64) (by rw[uS,wN];omega) (64*((z:Int)+1)) (by omega);rw[show((64*z:Nat):Int)=64*(z:Int) by omega]at this;rw[this];congr 1;by_cases hz:z=0;(subst hz;rw[if_pos rfl];show(kb k::List.replicate m 0).take 64=_;rw[List.take_succ_cons,sV,show min 63 m=63 by omega];rfl);(rw[if_neg hz];obtain⟨i,u⟩:∃i,64*z=i+1:=⟨64*z-1,by omega⟩;rw[u,sU,sS,sV,show min 64 (m-i)=64 by omega])
theorem zQW(k:Nat):(mapS k).length=64:=rfl
theorem zF0{g:zF}{k m t x:Nat}{b:List UInt8}(hm:m<=100000)(hb:b++List.replicate x 0=kb k::List.replicate m 0)(M:Nat)(Z:g.maps_=(M:Int))(h0:0<M)(hw:64*M<=m+1):
 ∀(n j:Nat) (H:Hp) (hs:List Y) (mp:List (Int×List UInt8)),j<=M->M-j<n->TIn H t hs mp->M<hs.length->(j≠0->hs[1]? =some (mapS k))->(∀i,0<i->i<M->hs[1+i]? =some (List.replicate 64 0))->
 ∃I u,qF g b x (some t) n (j:Int) H=some I/\TIn I t (hs.set 1 (mapS k)) u/\(I=H/\u=mp\/j=0/\u=mset mp 1 (mapS k)/\∃m v,I=H.st_mp m v)
 |0,j,H,hs,mp,_,hn,_,_,_,_=>by omega
 |n+1,j,H,hs,mp,hj,hn,ht,hl,e1,W=>by unfold qF;rw[Z];by_cases α:j<M;(rw[zK (zAm (by omega)),hb,n_map (by omega) hm,wA];(have ej:wi (1+(j:Int))=((1+j:Nat):Int):=by rw[yF (by omega) (by omega)];omega);(have β:wi ((j:Int)+1)=((j+1:Nat):Int):=by rw[yF (by omega) (by omega)];omega);rw[ej,β];obtain⟨r,hr⟩:∃r,hs[1+j]? =some r:=⟨_,wF (by omega)⟩;have U:r.length=64:=ht.row r (wC hr);rw[zOC ht hr,wA,zK (by rfl),zSv _ _ (by rw[U];omega),wA];by_cases hz:j=0;(subst hz;rw[if_pos rfl];by_cases he:r=mapS k;(subst he;rw[show(!decide (mapS k=mapS k))=false from by rw[decide_eq_true rfl];rfl];have J:hs.set 1 (mapS k)=hs:=zNp hr;obtain⟨I,u,k1,k2,k3⟩:=zF0 hm hb M Z h0 hw n (0+1) H hs mp (by omega) (by omega) ht hl (λ_=>hr) W;exact⟨I,u,k1,k2,.inl (k3.resolve_right λq=>absurd q.1 (by omega))⟩);(rw[show(!decide (r=mapS k))=true from by rw[decide_eq_false he];rfl];obtain⟨H1,w1,w2,m',v,w3⟩:=zQF ht (k:=1+0) (by omega) (x:=mapS k) rfl;show∃I u,Option.bind (zA5 (some t) ((1+0:Nat):Int) (mapS k) H) _=_/\_;rw[w1,wA];obtain⟨I,u,k1,k2,k3⟩:=zF0 hm hb M Z h0 hw n (0+1) H1 (hs.set 1 (mapS k)) _ (by omega) (by omega) w2 (by rw[vI];exact hl) (λ_=>wQ (by omega)) (λi i1 i2=>by rw[vN (by omega)];exact W i i1 i2);obtain⟨q1,q2⟩:=k3.resolve_right λq=>absurd q.1 (by omega);exact⟨I,u,k1,by rw[List.set_set]at k2;exact k2,.inr ⟨rfl,q2,m',v,q1.trans w3⟩⟩));(rw[if_neg hz];(have he:r=List.replicate 64 0:=by have:=W j (by omega) α;rw[hr]at this;exact Option.some.inj this);subst he;rw[show(!decide (List.replicate 64 (0:UInt8)=List.replicate 64 0))=false from by rw[decide_eq_true rfl];rfl];obtain⟨I,u,k1,k2,k3⟩:=zF0 hm hb M Z h0 hw n (j+1) H hs mp (by omega) (by omega) ht hl (λ_=>e1 hz) W;exact⟨I,u,k1,k2,.inl (k3.resolve_right λq=>absurd q.1 (by omega))⟩));(rw[zD (zAW (by omega))];have J:hs.set 1 (mapS k)=hs:=zNp (e1 (by omega));exact⟨H,mp,rfl,by rw[J];exact ht,.inl ⟨rfl,rfl⟩⟩)
theorem zT7{H:Hp}{q h fr k t:Nat}{g:zF}{hs:List Y}{mp:List (Int×List UInt8)}(hk:k<=7)(Z:1<=h)(U:h<=16384)(hq:SpIn H q h fr (wk h k))(ht:TIn H t hs mp)(M:Nat)(J:g.maps_=(M:Int))(h0:0<M)(hw:64*M<=(h+7)/8+64)(hl:M<hs.length)(e2:∀i,0<i->i<M->hs[1+i]? =some (List.replicate 64 0)):
 ∃I u,yU g (some t) (some q) H=some I/\TIn I t (hs.set 1 (mapS k)) u/\(I=H/\u=mp\/u=mset mp 1 (mapS k)/\∃m v,I=H.st_mp m v):=by
 have hN:1<=(h+7)/8:=by omega
 rw[zHD,n_Bytes hk Z U hq,wA,zLL hN]
 have W:apzI 1 ((h+7)/8) 64=some 64:=by unfold apzI;rw[if_pos ⟨by omega,by simp;omega⟩];rfl
 rw[W,wA]
 have hb:bsk ((h+7)/8) k++List.replicate 64 0=kb k::List.replicate ((h+7)/8-1+64) 0:=by unfold bsk;rw[sB,tG]
 obtain⟨I,u,k1,k2,k3⟩:=zF0 (g:=g) (k:=k) (by omega) hb M J h0 (by omega) (Int.toNat g.maps_+1) 0 H hs mp (by omega) (by rw[J];omega) ht hl (λh=>absurd rfl h) e2
 exact⟨I,u,k1,k2,k3.imp id λq=>q.2⟩
theorem zRS{m F1:Nat}{C1:List (List D)}{f:UInt8->Option Bool}{hp hf}(I:m<=100000)(h0:f 0=some false):∀(n j:Nat),j<=m->m-j<n->yL (List.replicate m 0) F1 C1 f hp hf n (j:Int)=some (-1)
 |0,j,_,hn=>by omega
 |n+1,j,J,hn=>by unfold yL;rw[wN];by_cases u:j<m;((have:idx (List.replicate m (0:UInt8)) (j:Int)=some 0:=by unfold idx;rw[zK (zAm (by omega)),wR,vH,if_pos u]);rw[zK (zAm (by omega)),this,wA,h0,wA,zD rfl,yF (by omega) (by omega),show(j:Int)+1=((j+1:Nat):Int) by omega];exact zRS I h0 n (j+1) (by omega) (by omega));rw[zD (zAW (by omega))]
theorem zL6{g:zF}{k t:Nat}{H:Hp}{hs:List Y}{mp:List (Int×List UInt8)}(M:Nat)(I:g.maps_=(M:Int))(hb:M<=1000)(ht:TIn H t hs mp)(hl:M<hs.length)(U:hs[1]? =some (mapS k))(J:∀i,0<i->i<M->hs[1+i]? =some (List.replicate 64 0))(K:List UInt8->Option (Option Nat×Int×Hp)):
 ∀(n j:Nat),0<j->j<=M->M-j<n->qT K g (some t) H n (kb k::List.replicate (64*j-1) 0) (j:Int)=K (kb k::List.replicate (64*M-1) 0)
 |0,j,_,_,hn=>by omega
 |n+1,j,Z,W,hn=>by unfold qT;rw[I];by_cases u:j<M;(rw[zK (zAm (by omega)),show wi (1+(j:Int))=((1+j:Nat):Int)from by rw[yF (by omega) (by omega)];omega,zOC ht (J j Z u),wA,zD (by rfl)];show Option.bind (appI 1 (kb k::List.replicate (64*j-1) 0) (List.replicate 64 0)) _=_;rw[zEI (by simp only[uS,wN];omega),wA,yF (by omega) (by omega),show(j:Int)+1=((j+1:Nat):Int) by omega,sB,tG,show 64*j-1+64=64*(j+1)-1 by omega];exact zL6 M I hb ht hl U J K n (j+1) (by omega) (by omega) (by omega));((have e:j=M:=by omega);subst e;rw[zD (zAW (by omega))])
theorem zUM{H:Hp}{h k t:Nat}{g:zF}{hs:List Y}{mp:List (Int×List UInt8)}(hk:k<=7)(hh:k<=h)(h1:1<=h)(h2:h<=16384)(ht:TIn H t hs mp)(M:Nat)(J:g.maps_=(M:Int))(hH:g.homes_=(h:Int))(h0:0<M)(hb:M<=1000)(hw:(h+7)/8<=64*M)(hl:M<hs.length)(U:hs[1]? =some (mapS k))(e2:∀i,0<i->i<M->hs[1+i]? =some (List.replicate 64 0)):
 ∃I,yW g (some t) H=some (some H.sp.length,0,I)/\SpIn I H.sp.length h (h-k) (wk h k)/\rsS I=rsS H:=by
 obtain⟨I,r1,r2,r3⟩:=n_SpRead (H:=H) hk hh h1 h2
 refine⟨I,?_,r2,r3⟩
 have hN:1<=(h+7)/8:=by omega
 rw[zG9]
 have e:Int.toNat g.maps_+1=M+1:=by rw[J];rfl
 rw[e]
 unfold qT
 rw[J,zK (zAm (by omega)),show wi (1+0)=((1:Nat):Int)from rfl,zOC ht U,wA,zD (by rfl)]
 show Option.bind (appI 1 [] (mapS k)) _=_
 rw[zEI (by simp[zQW]),wA,tF]
 have:=zL6 M J hb ht hl U e2 (zAt g H) M 1 (by omega) (by omega) (by omega)
 refine Eq.trans this ?_
 unfold zAt
 have e0:=tdivK' (j:=h+7) (by omega) 8 (by omega)
 rw[show((8:Nat):Int)=8 from rfl]at e0
 rw[hH,yF (z:=(h:Int)+7) (by omega) (by omega),show(h:Int)+7=((h+7:Nat):Int) by omega,e0]
 have u:(kb k::List.replicate (64*M-1) (0:UInt8)).length=64*M:=by rw[uS,wN];omega
 obtain⟨i,Z⟩:∃i,(h+7)/8=i+1:=⟨(h+7)/8-1,by omega⟩
 rw[zOm (by rw[u];omega),wA,zRt (by rw[u];omega)]
 have d1:(kb k::List.replicate (64*M-1) (0:UInt8)).drop ((h+7)/8)=List.replicate (64*M-1-i) 0:=by rw[Z,sU,sS]
 have d2:(kb k::List.replicate (64*M-1) (0:UInt8)).take ((h+7)/8)=bsk ((h+7)/8) k:=by rw[Z,List.take_succ_cons,sV,show min i (64*M-1)=i by omega];rfl
 rw[d1,d2,zGj,zIJ,wN]
 have c1:=zRS (m:=64*M-1-i) (F1:=289) (C1:=[]) (f:=yG) (hp:=zBa) (hf:=⟨_,Tryz.func289,rfl,rfl⟩) (by omega) (by rw[zF5];rfl) (64*M-1-i+1) 0 (by omega) (by omega)
 have W:=congrArg (λz=>Option.bind z λx1=>some (decide (x1>=0))) c1
 refine Eq.trans (congrArg (λz=>Option.bind z _) W) ?_
 show Option.bind (some _) _=_
 rw[wA,zD (show decide ((-1:Int)>=0)=false from rfl),wA,r1]
 rfl
def hsB(c q b k:Nat):List UInt8:=(((be 8 c++be 8 q)++be 8 b)++be 8 k)++List.replicate 32 0
theorem zI4(c q b k:Nat):(hsB c q b k).length=64:=by simp[hsB,zV]
theorem n_Put8{n:Nat}(u:n<=4611686018427387904):zFK (n:Int) 8=some (be 8 n,0):=by unfold zFK;rw[if_pos ⟨by omega,by omega,by omega,by omega,by simp;omega⟩];rfl
theorem zJ4{K:List UInt8->Option Y}{p:zH}{n i x:Nat}{a:List UInt8}(hi:i<4)(hx:[p.count_,p.quota_,p.bytes_,p.keys_][i]? =some (x:Int))(u:x<=4611686018427387904)(I:a.length<=64):
 yZ K p (n+1) a (i:Int)=yZ K p n (a++be 8 x) ((i+1:Nat):Int):=by
 have hd:idx [p.count_,p.quota_,p.bytes_,p.keys_] (i:Int)=some (x:Int):=by unfold idx;rw[zK (zAm (by omega)),wR];exact hx
 show(bif decide ((i:Int)<(4:Int))then _ else _)=_
 rw[zK (zAm (by omega)),hd,wA,n_Put8 u,wA]
 show Option.bind (appI 1 a (be 8 x)) _=_
 rw[zEI (by rw[zV];omega),wA,yF (by omega) (by omega)]
 rfl
theorem zTs{c q b k:Nat}(u:c<=4611686018427387904)(hq:q<=4611686018427387904)(hb:b<=4611686018427387904)(hk:k<=4611686018427387904):zBG ⟨(c:Int),(q:Int),(b:Int),(k:Int)⟩=some (hsB c q b k):=by rw[zKu];show yZ zBE _ 5 [] ((0:Nat):Int)=_;rw[zJ4 (x:=c) (by omega) rfl u (by simp),zJ4 (x:=q) (by omega) rfl hq (by simp[zV]),zJ4 (x:=b) (by omega) rfl hb (by simp[zV]),zJ4 (x:=k) (by omega) rfl hk (by simp[zV])];show zBE ((((([]:List UInt8)++be 8 c)++be 8 q)++be 8 b)++be 8 k)=_;rw[tF];unfold zBE;(have hl:(((be 8 c++be 8 q)++be 8 b)++be 8 k).length=32:=by simp[zV]);rw[hl];rfl
theorem n_putHead{H:Hp}{t:Nat}{g:zF}{hs:List Y}{mp:List (Int×List UInt8)}(ht:TIn H t hs mp)(hl:0<hs.length){c q b k:Nat}(Z:c<=4611686018427387904)(hq:q<=4611686018427387904)(hb:b<=4611686018427387904)(hk:k<=4611686018427387904):
 ∃u,zAG g (some t) ⟨(c:Int),(q:Int),(b:Int),(k:Int)⟩ H=some u/\TIn u t (hs.set 0 (hsB c q b k)) (mset mp 0 (hsB c q b k))/\∃m v,u=H.st_mp m v:=by
 obtain⟨u,I,U,J⟩:=zQF ht (k:=0) hl (x:=hsB c q b k) (zI4 c q b k)
 refine⟨u,?_,U,J⟩
 rw[zHa,zTs Z hq hb hk,wA]
 show Option.bind (zA5 (some t) ((0:Nat):Int) (hsB c q b k) H) _=_
 rw[I,wA]
theorem zHr{K:List Int->Option (zH×Int)}{r:List UInt8×Int}{n i x:Nat}{a:List Int}(hi:i<4)(hr:r.1.length=64)(hx:(r.1.drop (8*i)).take 8=be 8 x)(W:x<=2305843009213693952)(ha:a.length=4):
 qX K r (n+1) (i:Int) a=qX K r n ((i+1:Nat):Int) (a.set i (x:Int)):=by
 show(bif decide ((i:Int)<4)then _ else _)=_
 have I:=zGt (l:=r.1) (lo:=8*i) (n:=8) (by omega) (8*(i:Int)+8) (by omega)
 rw[show((8*i:Nat):Int)=8*(i:Int) by omega]at I
 obtain⟨U,J⟩:=zSG (n:=x) (k:=8) (by omega) (by omega) (by omega) (by omega)
 obtain⟨u,Z⟩:∃u,idxA 4 a (i:Int)=some u:=⟨_,zQC.2 ⟨⟨by omega,by omega⟩,by rw[wR];exact wF (by omega)⟩⟩
 rw[zK (zAm (by omega)),yF (z:=8*(i:Int)) (by omega) (by omega),yF (z:=8*(i:Int)+8) (by omega) (by omega),I,wA,hx,n_Get,wA,U,J,zD (by rfl)]
 show(bif decide ((x:Int)>2305843009213693952)then _ else _)=_
 rw[zD (zAW (by omega)),Z,wA,yF (by omega) (by omega),wR,show(i:Int)+1=((i+1:Nat):Int) by omega]
theorem n_getHead{H:Hp}{t:Nat}{g:zF}{hs:List Y}{mp:List (Int×List UInt8)}(ht:TIn H t hs mp){c q b k:Nat}(hr:hs[0]? =some (hsB c q b k))(hc:c<=2305843009213693952)(hq:q<=2305843009213693952)(hb:b<=2305843009213693952)(hk:k<=2305843009213693952):
 zAH g (some t) H=some (⟨(c:Int),(q:Int),(b:Int),(k:Int)⟩,0):=by
 have h0:=zOC ht hr
 have e0:(hsB c q b k).drop (8*0)=be 8 c++(be 8 q++(be 8 b++(be 8 k++List.replicate 32 0))):=by simp[hsB]
 have U:(hsB c q b k).drop (8*1)=be 8 q++(be 8 b++(be 8 k++List.replicate 32 0)):=by simp[hsB,uZ,zV,vU]
 have e2:(hsB c q b k).drop (8*2)=be 8 b++(be 8 k++List.replicate 32 0):=by simp[hsB,uZ,zV,vU]
 have Z:(hsB c q b k).drop (8*3)=be 8 k++List.replicate 32 0:=by simp[hsB,uZ,zV,vU]
 have u:∀(n:Nat) (r:List UInt8),(be 8 n++r).take 8=be 8 n:=λn r=>by rw[List.take_append_of_le_length (by rw[zV];omega),vE (by rw[zV];omega)]
 rw[zHN]
 rw[show zAi (some t) 0 H=_ from h0,wA,zD (by rfl)]
 show qX _ _ 5 ((0:Nat):Int) [0,0,0,0]=_
 rw[zHr (x:=c) (by omega) (zI4 c q b k) (by rw[e0,u]) hc rfl,zHr (x:=q) (by omega) (zI4 c q b k) (by rw[U,u]) hq rfl,zHr (x:=b) (by omega) (zI4 c q b k) (by rw[e2,u]) hb rfl,zHr (x:=k) (by omega) (zI4 c q b k) (by rw[Z,u]) hk rfl]
 show zA4 (hsB c q b k,0) [(c:Int),(q:Int),(b:Int),(k:Int)]=_
 unfold zA4
 have I:idxA 4 [(c:Int),(q:Int),(b:Int),(k:Int)] 0=some (c:Int):=rfl
 have J:idxA 4 [(c:Int),(q:Int),(b:Int),(k:Int)] 1=some (q:Int):=rfl
 have i2:idxA 4 [(c:Int),(q:Int),(b:Int),(k:Int)] 2=some (b:Int):=rfl
 have W:idxA 4 [(c:Int),(q:Int),(b:Int),(k:Int)] 3=some (k:Int):=rfl
 rw[I,wA,J,wA,i2,wA,W,wA,zTs (by omega) (by omega) (by omega) (by omega),wA,zSv _ _ (by rw[zI4];omega),wA,decide_eq_true rfl]
 rfl
def rsM(H:Hp):=(H.dk,H.sec,H.lg,H.tx,H.ix,H.st,H.vw,H.sv,H.sp,H.w64)
def zmp(j:Nat):List (Int×List UInt8):=(List.range j).map λi=>(Int.ofNat i,List.replicate 64 (0:UInt8))
theorem zmp_s{j:Nat}(h:j<8):mset (zmp j) (j:Int) (List.replicate 64 0)=zmp (j+1):=by(have:j=0\/j=1\/j=2\/j=3\/j=4\/j=5\/j=6\/j=7:=by omega);rcases this with rfl|rfl|rfl|rfl|rfl|rfl|rfl|rfl<;>rfl
theorem zNC{K:Hp->Option (Int×Hp)}{x:Option Nat×Int×Hp}{t f:Nat}{hs:List Y}(hx:x.1=some t)(hf:f<=8)(hl:f<=hs.length)(hz:∀i,i<f->hs[i]? =some (List.replicate 64 0)):∀(n j:Nat) (H:Hp),j<=f->f-j<n->TIn H t hs (zmp j)->
 ∃u,zAs K (f:Int) x n (j:Int) H=K u/\TIn u t hs (zmp f)/\rsM u=rsM H
 |0,j,H,_,hn,_=>by omega
 |n+1,j,H,hj,hn,ht=>by unfold zAs;by_cases I:j<f;(obtain⟨Z,U,J,m,v,W⟩:=zQF ht (k:=j) (by omega) (x:=List.replicate 64 0) rfl;rw[zNp (hz j I),zmp_s (by omega)]at J;have ea:mkI 1 64=some 64:=rfl;rw[zK (zAm (by omega)),ea,wA,hx,U,wA,yF (by omega) (by omega),show(j:Int)+1=((j+1:Nat):Int) by omega];obtain⟨u,k1,k2,k3⟩:=zNC hx hf hl hz n (j+1) Z (by omega) (by omega) J;exact⟨u,k1,k2,k3.trans (by rw[W];rfl)⟩);((have e:j=f:=by omega);subst e;rw[zD (zAW (by omega))];exact⟨H,rfl,ht,rfl⟩)
theorem zPM{H:Hp}{i j:Nat}{d:Dsk}{s b sl u:Nat}{com:Int}(h:LIn H i j d s b sl u com):zAf (some j) H=some (some H.tx.length,0,(H.nw_mp []).nw_tx ⟨some j,com,false,H.mp.length⟩):=by rw[zJh];rw[zKr h,wA,zD (zGl rfl)];show Option.bind (H.lg[j]?) _=_;rw[h.lg,wA];rfl
theorem TIn.mp_at{H:Hp}{t m:Nat}{p:Option Nat}{com:Int}{b:Bool}{hs:List Y}{mp:List (Int×List UInt8)}(h:TIn H t hs mp)(hx:H.tx[t]? =some ⟨p,com,b,m⟩):H.mp[m]? =some mp:=by obtain⟨i,j,d,s,b,sl,J,c,m',Z,u,I,U⟩:=h.at_;rw[hx]at u;have:=congrArg zAF.now_ (Option.some.inj u);rw[show m=m' from this];exact I
theorem WIn.rsM{H H':Hp}{i j:Nat}{d:Dsk}{s b sl u:Nat}{com:Int}(h:WIn H i j d s b sl u com)(e:rsM H'=rsM H):WIn H' i j d s b sl u com:=by unfold Go.Proofs.YtocolhfjpadaoaaGreatDoor.rsM at e;simp only[Prod.mk.injEq]at e;obtain⟨I,U,J,_⟩:=e;exact⟨⟨h.dsk.lg I U,h.off,by rw[J];exact h.lg,h.s3,h.sl,h.ln,h.bs⟩,h.fuse⟩
def fmp(f:Nat)(a b:List UInt8):List (Int×List UInt8):=(0,a)::(1,b)::(zmp f).drop 2
theorem fmp_mset{f:Nat}(u:2<=f)(h:f<9)(a b:List UInt8):mset (mset (zmp f) 0 a) 1 b=fmp f a b:=by(have:f=2\/f=3\/f=4\/f=5\/f=6\/f=7\/f=8:=by omega);rcases this with rfl|rfl|rfl|rfl|rfl|rfl|rfl<;>rfl
theorem fmp_find{f:Nat}(u:2<=f)(h:f<9)(a:List UInt8):zCG (mset (zmp f) 0 a) 1=some (List.replicate 64 0):=by(have:f=2\/f=3\/f=4\/f=5\/f=6\/f=7\/f=8:=by omega);rcases this with rfl|rfl|rfl|rfl|rfl|rfl|rfl<;>rfl
theorem zN6{f:Nat}(u:2<=f)(a b:List UInt8):(fmp f a b).length=f:=by simp[fmp,zmp];omega
theorem zTJ{f:Nat}(u:2<=f)(h:f<9)(a b:List UInt8):((fmp f a b).map (·.1)).Pairwise (· <·):=by(have:f=2\/f=3\/f=4\/f=5\/f=6\/f=7\/f=8:=by omega);have e:∀f,2<=f->f<9->∀a b,(fmp f a b).map (·.1)=(fmp f [] []).map (·.1):=λ_ _ _ _ _=>rfl;rw[e f u h];rcases this with rfl|rfl|rfl|rfl|rfl|rfl|rfl<;>decide
theorem mapS_ne{k:Nat}(u:1<=k)(h:k<=7):mapS k≠List.replicate 64 0:=by(have:k=1\/k=2\/k=3\/k=4\/k=5\/k=6\/k=7:=by omega);rcases this with rfl|rfl|rfl|rfl|rfl|rfl|rfl<;>decide
theorem zTO{f n s:Nat}(J:2<=f)(h:f<9){a b:List UInt8}(u:a.length=64)(hb:b.length=64)(hn:f<n-2-s):Good s n (wsOf (fmp f a b)):=by intro w hw;unfold wsOf fmp at hw;rw[vB,vB,vL,vL]at hw;rcases hw with rfl|rfl|hw;exact⟨tW 0,by show(0:Int)<_;omega,u⟩;exact⟨by show(0:Int)<=1;omega,by show(1:Int)<_;omega,hb⟩;(obtain⟨p,hp,rfl⟩:=vQ.1 hw;have hp:=List.mem_of_mem_drop hp;unfold zmp at hp;obtain⟨i,I,rfl⟩:=vQ.1 hp;have:=tS.1 I;exact⟨Int.natCast_nonneg i,by show(i:Int)<_;omega,wN⟩)
theorem LIn.rsS{H H':Hp}{i j:Nat}{d:Dsk}{s b sl u:Nat}{com:Int}(h:LIn H i j d s b sl u com)(e:rsS H'=rsS H):LIn H' i j d s b sl u com:=by unfold Go.Proofs.YtocolhfjpadaoaaGreatDoor.rsS at e;simp only[Prod.mk.injEq]at e;obtain⟨I,U,J,_⟩:=e;exact⟨h.dsk.lg I U,h.off,by rw[J];exact h.lg,h.s3,h.sl,h.ln,h.bs⟩
theorem WIn.rsS{H H':Hp}{i j:Nat}{d:Dsk}{s b sl u:Nat}{com:Int}(h:WIn H i j d s b sl u com)(e:rsS H'=rsS H):WIn H' i j d s b sl u com:=⟨h.toLIn.rsS e,h.fuse⟩
theorem TIn.rsS{H H':Hp}{t:Nat}{hs:List Y}{mp:List (Int×List UInt8)}(h:TIn H t hs mp)(e:rsS H'=rsS H):TIn H' t hs mp:=by obtain⟨⟨i,j,d,s,b,sl,J,com,m,h1,U,h3,Z,h5⟩,u,h7⟩:=h;have e':=e;unfold Go.Proofs.YtocolhfjpadaoaaGreatDoor.rsS at e;simp only[Prod.mk.injEq]at e;obtain⟨e1,e2,e3,W,I,_⟩:=e;exact⟨⟨i,j,d,s,b,sl,J,com,m,h1.rsS e',by rw[W];exact U,by rw[I];exact h3,Z,h5⟩,u,h7⟩
theorem SpIn.rsM{H H':Hp}{q n fr:Nat}{ws:List Int}(h:SpIn H q n fr ws)(e:rsM H'=rsM H):SpIn H' q n fr ws:=by unfold Go.Proofs.YtocolhfjpadaoaaGreatDoor.rsM at e;simp only[Prod.mk.injEq]at e;obtain⟨_,_,_,_,_,_,_,_,J,U⟩:=e;obtain⟨a,I,u⟩:=h;exact⟨a,by rw[J];exact I,by rw[U];exact u⟩
theorem zRN{W H:Hp}{x:Option Nat×Int×Hp}{i j t m h M q a:Nat}{d:Dsk}{s base slot used:Nat}{com:Int}{l:Option Nat}{hs:List Y}(hw:WIn H i j d s base slot used com)(hx:x.1=some t)(ε:H.tx[t]? =some ⟨some j,com,false,m⟩)(ht:TIn H t hs (zmp (5+M)))(Z:H.st[W.st.length]? =some ⟨⟨(a:Int),(h:Int),(M:Int)⟩,l⟩)
(h0:0<M)(hM:M<=2)(hh:5+M<h)(h2:h<=16384)(ι:64*M<=(h+7)/8+64)(hl:5+M<hs.length)(ξ:hs.length=d.now.length-2-s)(hz:∀k,k<5+M->hs[k]? =some (List.replicate 64 0))(hq:q<=2305843009213693952)(hu:used+(2*(5+M)+1)<=s)(ζ:d.wait.length<=1000):
 ∃U J I,zBJ W x (q:Int) H=some (0,U)/\WIn U i j J s base slot (used+(2*(5+M)+1)) I/\J.kept=wrs (2+used) (base+used) (zHQ (wsOf (fmp (5+M) (hsB 0 q 0 0) (mapS (5+M))))) 0 d.now/\J.now=rd s J.kept (wsOf (fmp (5+M) (hsB 0 q 0 0) (mapS (5+M))))/\J.wait.length<=5+M/\J.lives=d.lives:=by
 unfold zBJ
 show∃U J I,Option.bind (H.st[W.st.length]?) _=_/\_
 rw[Z,wA]
 obtain⟨H1,a1,a2,a3⟩:=n_SpNew (H:=H) (h:=h) (by omega) h2
 show∃U J I,Option.bind (zEW (h:Int) H) _=_/\_
 rw[a1,wA]
 have γ:H1.st=H.st:=by have:=a3;unfold Go.Proofs.YtocolhfjpadaoaaGreatDoor.rsS at this;simp only[Prod.mk.injEq]at this;exact this.2.2.2.2.2.2.1
 show∃U J I,Option.bind (H1.st[W.st.length]?) _=_/\_
 rw[γ,Z,wA]
 show∃U J I,Option.bind (zY ⟨(a:Int),(h:Int),(M:Int)⟩) _=_/\_
 rw[zQj (by omega),wA]
 obtain⟨H2,b1,b2,b3⟩:=n_Take (k:=5+M) (by omega) (by omega) h2 a2
 show∃U J I,Option.bind (zBW (some H.sp.length) ((5+M:Nat):Int) H1) _=_/\_
 rw[b1,wA]
 have e2:=b3.trans a3
 have β:H2.st=H.st:=by have:=e2;unfold Go.Proofs.YtocolhfjpadaoaaGreatDoor.rsS at this;simp only[Prod.mk.injEq]at this;exact this.2.2.2.2.2.2.1
 have η:H2.tx=H.tx:=by have:=e2;unfold Go.Proofs.YtocolhfjpadaoaaGreatDoor.rsS at this;simp only[Prod.mk.injEq]at this;exact this.2.2.2.1
 show∃U J I,Option.bind (H2.st[W.st.length]?) _=_/\_
 rw[β,Z,wA,hx]
 have t2:=ht.rsS e2
 have w2:=hw.rsS e2
 obtain⟨H3,c1,c2,m3,v3,c3⟩:=n_putHead (g:=⟨(a:Int),(h:Int),(M:Int)⟩) t2 (by omega) (c:=0) (q:=q) (b:=0) (k:=0) (by omega) (by omega) (by omega) (by omega)
 show∃U J I,Option.bind (zAG ⟨(a:Int),(h:Int),(M:Int)⟩ (some t) ⟨((0:Nat):Int),(q:Int),((0:Nat):Int),((0:Nat):Int)⟩ H2) _=_/\_
 rw[c1,wA]
 have r3:rsM H3=rsM H2:=by rw[c3];rfl
 have δ:H3.st=H2.st:=by rw[c3];rfl
 have μ:H3.tx=H2.tx:=by rw[c3];rfl
 show∃U J I,Option.bind (H3.st[W.st.length]?) _=_/\_
 rw[δ,β,Z,wA]
 obtain⟨H4,θ,f1,f2,f3⟩:=zT7 (g:=⟨(a:Int),(h:Int),(M:Int)⟩) (k:=5+M) (by omega) (by omega) h2 (b2.rsM r3) c2 M rfl h0 ι (by rw[vI];omega) (λk k1 k2=>by rw[vN (by omega)];exact hz (1+k) (by omega))
 show∃U J I,Option.bind (yU ⟨(a:Int),(h:Int),(M:Int)⟩ (some t) (some H.sp.length) H3) _=_/\_
 rw[f1,wA]
 have r4:rsM H4=rsM H3:=by rcases f3 with⟨e,_⟩|⟨_,m4,v4,e⟩<;>rw[e];rfl
 have ν:H4.tx=H3.tx:=by rcases f3 with⟨e,_⟩|⟨_,m4,v4,e⟩<;>rw[e];rfl
 have κ:θ=fmp (5+M) (hsB 0 q 0 0) (mapS (5+M)):=by rcases f3 with⟨_,e⟩|⟨e,_⟩;(exfalso;obtain⟨⟨_,_,_,_,_,_,_,_,_,_,_,_,_,z⟩,_,_⟩:=f2;have:=z 1 (mapS (5+M)) (wQ (by rw[vI];omega));rw[e,show((1:Nat):Int)=1 from rfl,fmp_find (by omega) (by omega)]at this;rcases this with u|⟨u,_⟩;exact mapS_ne (by omega) (by omega) (Option.some.inj u).symm;cases u);rw[e,fmp_mset (by omega) (by omega)]
 rw[κ]at f2
 have α:H4.tx[t]? =some ⟨some j,com,false,m⟩:=by rw[ν,μ,η];exact ε
 have w4:=(w2.rsM r3).rsM r4
 obtain⟨U,J,I,g1,g2,g3,g4,g5,g6,_⟩:=n_TCommit w4 α (f2.mp_at α) (zTJ (by omega) (by omega) _ _) (zTO (by omega) (by omega) (zI4 _ _ _ _) (zQW _) (by omega)) (by rw[zN6 (by omega)];omega) (by rw[zN6 (by omega)];omega) (by rw[zN6 (by omega)];omega) ζ
 rw[zN6 (by omega)]at g2 g5
 rw[g1,wA]
 exact⟨U,J,I,rfl,g2,g3,g4,g5,g6⟩
def im0(n s:Nat):List Y:=((List.replicate n Z64).set 0 (zDZ 1 s)).set 1 (zDZ (1+s) s)
theorem zQh(n s:Nat):(im0 n s).length=n:=by simp[im0]
theorem im0_z{n s k:Nat}(I:2<=k)(u:k<n):(im0 n s)[k]? =some Z64:=by unfold im0;rw[vN (by omega),vN (by omega),vH,if_pos u]
theorem open_fmt{H:Hp}{i n s:Nat}{d:Dsk}(e2:DIn H i d)(ho:d.off=false)(hf:d.fuse<0)(J:d.now=List.replicate n Z64)(hw:d.wait=[])(hn:n<=16384)(hs:3<=s)(h2:2+s<n):∃u Z I,zBV (some i) (s:Int) H=some (0,u)/\zCQ (some i) u=some (some u.lg.length,0,Z)/\WIn Z i u.lg.length I s (1+s) 1 0 0/\I.wait=[]/\I.now=im0 n s:=by obtain⟨u,d2,f1,f2,f3,f4,U,f6,f7,f8,f9⟩:=n_Format (n:=n) (s:=s) e2 ho hf J hw (by omega) (by omega) (by omega);(have hl:d2.now.length=n:=by rw[U];simp);obtain⟨K,g1,W⟩:=zRI (b:=1) (s:=s) f2 f3 f4 hl (by omega) (by omega) (by omega) (by omega) (by omega) (by rw[U,wQ (by simp;omega)]) 0 (.inl ⟨by rw[U,vN (by omega),vH,if_pos (by omega)],rfl⟩);rw[if_pos rfl,if_pos rfl]at W;(have hr:d2.now[2+0]? =some Z64:=by rw[U,vN (by omega),vH,if_pos (by omega)]);have α:=zSk W.toLIn ⟨_,n_at W.toLIn (p:=0) (by omega) hr,atE_bad (z_badA (by omega) (by omega)) (by simp)⟩;obtain⟨Z,I,k1,k2,k3,k4,k5,k6⟩:=zRu (H:=u) W (by omega) (by omega) (by omega) α (λw hw=>absurd hw uM) (by simp) (by rw[f7];simp);refine⟨u,Z,I,f1,?_,k2,k5,?_⟩;rw[g1,k1];(rw[k3,U];rfl)
theorem geo{n:Nat}(hn:n<=2000)(hr:1<=grm n):3<=gsz n/\100<=gsz n/\gsz n<=1035/\2+gsz n<n/\ghm n=n-2-gsz n/\1<=gmp n/\gmp n<=2/\5+gmp n<ghm n/\ghm n<=16384/\64*gmp n<=(ghm n+7)/8+64/\(ghm n+7)/8<=64*gmp n/\grm n=ghm n-(5+gmp n):=by unfold grm gfx gmp ghm gsz ovr at*;omega
abbrev fmW(n q:Nat):List zB:=wsOf (fmp (5+gmp n) (hsB 0 q 0 0) (mapS (5+gmp n)))
theorem n_SFormat{H:Hp}{i n q:Nat}{d:Dsk}(h:DIn H i d)(ho:d.off=false)(hf:d.fuse<0)(U:d.now=List.replicate n Z64)(hw:d.wait=[])(hn:n<=2000)(hr:1<=grm n)(hq:q<=2305843009213693952):
 ∃J j I com,yV (some i) (q:Int) H=some (0,J)/\WIn J i j I (gsz n) (1+gsz n) 1 (0+(2*(5+gmp n)+1)) com/\I.now=rd (gsz n) (wrs 2 (1+gsz n) (zHQ (fmW n q)) 0 (im0 n (gsz n))) (fmW n q)/\I.wait.length<=7:=by
 obtain⟨g1,g2,g3,g4,g5,g6,g7,g8,g9,ι,κ,μ⟩:=geo hn hr
 have hl:d.now.length=n:=by rw[U,wN]
 have eR:zRE (n:Int)=grm n:=by unfold zRE;rw[if_pos (by omega),wR]
 rw[zFS,zM1 h (by omega),wA,zD (zOs (by omega)),wA,hl,n_Room,wA,eR,zD (zAW (by omega)),zD (zAW (by omega)),zD (zAW (by omega)),wA,n_of (by omega),wA]
 have hd:DIn (H.nw_st ⟨⟨(gsz n:Int),(ghm n:Int),(gmp n:Int)⟩,none⟩) i d:=h.lg rfl rfl
 obtain⟨u,H3,d3,f1,f2,f3,f4,f5⟩:=open_fmt hd ho hf U hw (s:=gsz n) (by omega) g1 g4
 have η:=fr_Format _ _ _ _ f1
 have ε:=fr_Open _ _ _ f2
 have α:H3.st=H.st++[⟨⟨(gsz n:Int),(ghm n:Int),(gmp n:Int)⟩,none⟩]:=by have e:rs2 H3=rs2 (H.nw_st ⟨⟨(gsz n:Int),(ghm n:Int),(gmp n:Int)⟩,none⟩):=ε.trans η;unfold rs2 rst at e;simp only[Prod.mk.injEq]at e;exact e.2.2.2.2.1
 show∃J j I com,Option.bind (zBV (some i) (gsz n:Int) (H.nw_st ⟨⟨(gsz n:Int),(ghm n:Int),(gmp n:Int)⟩,none⟩)) _=_/\_
 rw[f1,wA,zD (by rfl)]
 show∃J j I com,Option.bind (zCQ (some i) u) _=_/\_
 rw[f2,wA,zD (by rfl)]
 show∃J j I com,Option.bind (H3.st[H.st.length]?) _=_/\_
 rw[α,uJ,wA]
 show∃J j I com,Option.bind (zAf (some u.lg.length) (H3.st_st H.st.length ⟨⟨(gsz n:Int),(ghm n:Int),(gmp n:Int)⟩,some u.lg.length⟩)) _=_/\_
 generalize hW:H3.st_st H.st.length ⟨⟨(gsz n:Int),(ghm n:Int),(gmp n:Int)⟩,some u.lg.length⟩=W
 have wW:WIn W i u.lg.length d3 (gsz n) (1+gsz n) 1 0 0:=by rw[<-hW];exact f3.tell rfl rfl rfl
 have eW:W.st[H.st.length]? =some ⟨⟨(gsz n:Int),(ghm n:Int),(gmp n:Int)⟩,some u.lg.length⟩:=by rw[<-hW];exact wQ (by rw[α];simp)
 have b1:=zPM wW.toLIn
 obtain⟨Z,b2,b3,b4⟩:=n_Begin wW.toLIn
 rw[b1]at b2
 simp only[Option.some.injEq,Prod.mk.injEq,true_and]at b2
 rw[b1,wA,zD (by rfl)]
 show∃J j I com,Option.bind (W.st[H.st.length]?) _=_/\_
 rw[eW,wA]
 show∃J j I com,Option.bind (zY ⟨(gsz n:Int),(ghm n:Int),(gmp n:Int)⟩) _=_/\_
 rw[zQj (by omega),wA]
 have hz:∀k,k<5+gmp n->(d3.now.drop (2+gsz n))[k]? =some Z64:=λk hk=>by rw[vY,f5,im0_z (by omega) (by omega)]
 have γ:(d3.now.drop (2+gsz n)).length=ghm n:=by rw[uY,f5,zQh];omega
 have β:Z.tx[W.tx.length]? =some ⟨some u.lg.length,0,false,W.mp.length⟩:=by rw[<-b2];exact uJ
 have θ:WIn Z i u.lg.length d3 (gsz n) (1+gsz n) 1 0 0:=by rw[<-b2];exact wW.tell rfl rfl rfl
 have ζ:Z.st=W.st:=by rw[<-b2];rfl
 obtain⟨H5,l1,l2,l3⟩:=zNC (K:=zBJ H (some W.tx.length,0,Z) (q:Int)) (x:=(some W.tx.length,0,Z)) (t:=W.tx.length) (f:=5+gmp n) (hs:=d3.now.drop (2+gsz n)) rfl (by omega) (by omega) hz (5+gmp n+1) 0 Z (by omega) (by omega) b3
 have e5:=l3
 unfold rsM at e5
 simp only[Prod.mk.injEq]at e5
 obtain⟨J,I,δ,r1,r2,r3,r4,r5,r6⟩:=zRN (W:=H) (H:=H5) (x:=(some W.tx.length,0,Z)) (i:=i) (j:=u.lg.length) (t:=W.tx.length) (m:=W.mp.length) (h:=ghm n) (M:=gmp n) (q:=q) (a:=gsz n) (d:=d3) (θ.rsM l3) rfl (by rw[e5.2.2.2.1];exact β) l2 (by rw[e5.2.2.2.2.2.1,ζ];exact eW) (by omega) g7 g8 g9 ι (by omega) (by rw[γ,f5,zQh];omega) hz hq (by omega) (by rw[f4];simp)
 refine⟨J,u.lg.length,I,δ,?_,r2,?_,by omega⟩
 · show zAs (zBJ H (some W.tx.length,0,(W.nw_mp []).nw_tx ⟨some u.lg.length,0,false,W.mp.length⟩) (q:Int)) ((5+gmp n:Nat):Int) (some W.tx.length,0,(W.nw_mp []).nw_tx ⟨some u.lg.length,0,false,W.mp.length⟩) (5+gmp n+1) ((0:Nat):Int) ((W.nw_mp []).nw_tx ⟨some u.lg.length,0,false,W.mp.length⟩)=_;rw[b2,l1,r1]
 · rw[r4,r3,f5];rfl
theorem rd_out{s q:Nat}:∀(ws:List zB) (t:List Y),(∀w∈ws,q≠2+s+w.Home.toNat)->(rd s t ws)[q]? =t[q]?
 |[],t,_=>rfl
 |w::r,t,h=>by show(rd s (t.set (2+s+w.Home.toNat) w.Data) r)[q]? =_;rw[rd_out r _ λv hv=>h v (vG _ hv),vN (λe=>h w tT e.symm)]
theorem rd_in{s:Nat}:∀(ws:List zB) (t:List Y),ws.Pairwise (λa b=>a.Home.toNat≠b.Home.toNat)->∀w∈ws,2+s+w.Home.toNat<t.length->(rd s t ws)[2+s+w.Home.toNat]? =some w.Data
 |[],t,_,w,hw,_=>absurd hw uM
 |v::r,t,hp,w,hw,hl=>by obtain⟨J,U⟩:=tJ.1 hp;show(rd s (t.set (2+s+v.Home.toNat) v.Data) r)[2+s+w.Home.toNat]? =_;rcases vL.1 hw with rfl|hw;rw[rd_out r _ λu I=>by have:=J u I;omega,wQ hl];exact rd_in r _ U w hw (by rw[vI];exact hl)
theorem zTN{ws:List zB}{k:Nat}(hk:k<ws.length):(zHQ ws)[2*k]? =some ⟨1,ws[k].Home,ws[k].Data.take 32,false⟩/\(zHQ ws)[2*k+1]? =some ⟨2,ws[k].Home,ws[k].Data.drop 32,false⟩:=by have:=ents_at ws k hk;have hl:=zIO ws;unfold zHQ;rw[uN (by omega),uN (by omega)];exact this
theorem entsA_end(ws:List zB):(zHQ ws)[2*ws.length]? =some ⟨3,ws.length,[],false⟩:=by unfold zHQ;rw[uK (by rw[zIO];omega),zIO,sE];rfl
theorem stand_wrs{K:Hp}{i j:Nat}{d:Dsk}{s b sl Z:Nat}{ws:List zB}{com:Int}(h:LIn K i j d s b sl Z com)(U:Good s d.now.length ws)(hl:2*ws.length+1<s)(hb:0<b)(u:∀(p:Nat) (e:zG),(zHQ ws)[p]? =some e->d.now[2+p]? =some (rowE e (b+p)))(W:d.now[2+(2*ws.length+1)]? =some Z64):Stand K j ws (2*ws.length+1):=by have:=h.ln;have:=h.sl;have:=h.bs;refine⟨λk hk I=> ?_,λk hk I=> ?_,λI=> ?_,?_⟩;(obtain⟨J,w2,w3⟩:=U _ (uA hk);rw[n_at h (p:=2*k) (by omega) (u _ _ (zTN hk).1)];show some (atE (b+2*k) (zEe 1 ws[k].Home.toNat (ws[k].Data.take 32) (b+2*k)))=_;rw[zOZ (by omega) (by omega) (by rw[vZ];omega),tO J];rfl);(obtain⟨J,w2,w3⟩:=U _ (uA hk);rw[n_at h (p:=2*k+1) (by omega) (u _ _ (zTN hk).2)];show some (atE (b+(2*k+1)) (zEe 2 ws[k].Home.toNat (ws[k].Data.drop 32) (b+(2*k+1))))=_;rw[zOZ (by omega) (by omega) (by rw[uY];omega),tO J];rfl);(rw[n_at h (p:=2*ws.length) (by omega) (u _ _ (entsA_end ws))];show some (atE (b+2*ws.length) (zEe 3 ws.length [] (b+2*ws.length)))=_;rw[zUb,zOZ (by omega) (by omega) (by simp)];rfl);exact⟨_,n_at h (p:=2*ws.length+1) (by omega) W,atE_bad (z_badA (by omega) (by omega)) (by simp)⟩
abbrev fmN(n q:Nat):List Y:=rd (gsz n) (wrs 2 (1+gsz n) (zHQ (fmW n q)) 0 (im0 n (gsz n))) (fmW n q)
section
variable {n q:Nat}(hn:n<=2000)(hr:1<=grm n)
include hn hr
theorem zQP:Good (gsz n) n (fmW n q):=by obtain⟨g1,Z,g3,U,g5,W,g7,g8,g9,J,u,I⟩:=geo hn hr;exact zTO (by omega) (by omega) (zI4 _ _ _ _) (zQW _) (by omega)
omit hn hr in
theorem zPz:(fmW n q).length=5+gmp n:=by unfold fmW wsOf;rw[wL,zN6 (by omega)]
theorem fmW_pw:(fmW n q).Pairwise (λa b=>a.Home.toNat≠b.Home.toNat):=by obtain⟨g1,g2,g3,g4,g5,g6,g7,g8,g9,β,J,U⟩:=geo hn hr;have u:=zTJ (f:=5+gmp n) (by omega) (by omega) (hsB 0 q 0 0) (mapS (5+gmp n));have I:=zQP (q:=q) hn hr;(have W:(fmW n q).Pairwise (λa b=>a.Home<b.Home):=by unfold fmW wsOf;rw[List.pairwise_map]at u⊢;exact u);refine W.imp_of_mem λ{a b} Z hb α=> ?_;have:=(I a Z).1;have:=(I b hb).1;omega
omit hn hr in
theorem fmN_len:(fmN n q).length=n:=by rw[rd_len,zSt,zQh]
omit hn hr in
theorem zR4{k:Nat}(hk:k<2+gsz n):(fmN n q)[k]? =(wrs 2 (1+gsz n) (zHQ (fmW n q)) 0 (im0 n (gsz n)))[k]? :=rd_out _ _ λw u=>by omega
omit hn hr in
theorem zS9 {k : Nat} (hk : k < 2) : (fmN n q)[k]? = (im0 n (gsz n))[k]? := by
 rw [zR4 (by omega), zQJ _ _ _ _ _ _ (.inl (by omega))]
theorem fmN_ent(p:Nat)(e:zG)(u:(zHQ (fmW n q))[p]? =some e):(fmN n q)[2+p]? =some (rowE e (1+gsz n+p)):=by obtain⟨g1,g2,g3,Z,g5,W,g7,g8,g9,U,I,J⟩:=geo hn hr;have hp:=(wB.1 u).1;rw[zHP,zPz (n:=n) (q:=q)]at hp;rw[zR4 (by omega)];have:=wrs_at 2 (1+gsz n) (zHQ (fmW n q)) 0 (im0 n (gsz n)) p e u (by rw[zHP,zPz (n:=n) (q:=q),zQh];omega);exact this
theorem fmN_z:(fmN n q)[2+(2*(5+gmp n)+1)]? =some Z64:=by obtain⟨g1,Z,g3,U,g5,W,g7,g8,g9,J,u,I⟩:=geo hn hr;rw[zR4 (by omega),zQJ _ _ _ _ _ _ (.inr (by rw[zHP,zPz (n:=n) (q:=q)];omega)),im0_z (by omega) (by omega)]
theorem fm_home{t:List Y}(ht:t.length=n):(rd (gsz n) t (fmW n q))[2+gsz n+0]? =some (hsB 0 q 0 0)/\(rd (gsz n) t (fmW n q))[2+gsz n+1]? =some (mapS (5+gmp n))/\∀k,2<=k->k<5+gmp n->(rd (gsz n) t (fmW n q))[2+gsz n+k]? =some Z64:=by obtain⟨g1,g2,g3,g4,g5,g6,g7,g8,g9,α,U,Z⟩:=geo hn hr;have I:=fmW_pw (q:=q) hn hr;have u:∀w∈fmW n q,(rd (gsz n) t (fmW n q))[2+gsz n+w.Home.toNat]? =some w.Data:=λw J=>rd_in _ _ I w J (by have:=zQP (q:=q) hn hr w J;omega);refine⟨u ⟨0,hsB 0 q 0 0⟩ ?_,u ⟨1,mapS (5+gmp n)⟩ ?_,λk h1 W=> ?_⟩;exact tT;exact vG _ tT;(have:=u ⟨(k:Int),Z64⟩ ?_;(rw[show(⟨(k:Int),Z64⟩:zB).Home.toNat=k from wR k]at this;exact this);(refine vG _ (vG _ ?_);refine vQ.2 ⟨((k:Int),Z64),?_,rfl⟩;unfold zmp;rw[<-List.map_drop];refine vQ.2 ⟨k,?_,rfl⟩;rw[List.mem_iff_getElem?];exact⟨k-2,by rw[vY,show 2+(k-2)=k by omega,List.getElem?_range W]⟩))
end
structure OSt(H:Hp)(p n q:Nat):Prop where
 ex:∃i j d base slot used com,WIn H i j d (gsz n) base slot used com/\H.st[p]? =some ⟨⟨(gsz n:Int),(ghm n:Int),(gmp n:Int)⟩,some j⟩/\d.now.length=n/\d.now[2+gsz n+0]? =some (hsB 0 q 0 0)/\d.now[2+gsz n+1]? =some (mapS (5+gmp n))/\∀k,2<=k->k<5+gmp n->d.now[2+gsz n+k]? =some Z64
theorem OSt.tell{H H':Hp}{p n q:Nat}(h:OSt H p n q)(u:H'.dk=H.dk)(e2:H'.sec=H.sec)(I:H'.lg=H.lg)(U:H'.st=H.st):OSt H' p n q:=by obtain⟨i,j,d,base,slot,used,com,Z,J,W⟩:=h;exact⟨i,j,d,base,slot,used,com,Z.tell u e2 I,by rw[U];exact J,W⟩
structure VSt(H:Hp)(p n q v:Nat):Prop where
 ex:∃t x sp hs,H.vw[v]? =some ⟨some p,some t,some x,⟨0,(q:Int),0,0⟩,some sp⟩/\H.ix[x]? =some ⟨some t,((1+gmp n:Nat):Int)⟩/\TIn H t hs []/\SpIn H sp (ghm n) (grm n) (wk (ghm n) (5+gmp n))/\∀k,2<=k->k<5+gmp n->hs[k]? =some Z64
theorem zPv{H:Hp}{p n q:Nat}(hn:n<=2000)(hr:1<=grm n)(hq:q<=2305843009213693952)(h:OSt H p n q):∃I v,zAK (some p) H=some (some v,0,I)/\OSt I p n q/\VSt I p n q v:=by obtain⟨g1,g2,g3,g4,g5,g6,g7,g8,g9,δ,α,β⟩:=geo hn hr;obtain⟨i,j,d,base,slot,used,com,w,J,hl,r0,r1,rz⟩:=h;obtain⟨u,b2,b3,b4⟩:=n_Begin w.toLIn;have b1:=zPM w.toLIn;rw[b1]at b2;simp only[Option.some.injEq,Prod.mk.injEq,true_and]at b2;(have w1:WIn u i j d (gsz n) base slot used com:=by rw[<-b2];exact w.tell rfl rfl rfl);(have U:u.st=H.st:=by rw[<-b2];rfl);rw[zKs];show∃I v,Option.bind (H.st[p]?) _=_/\_;rw[J,wA];show∃I v,Option.bind (zAf (some j) H) _=_/\_;rw[b1,b2,wA,zD (by rfl)];show∃I v,Option.bind (u.st[p]?) _=_/\_;rw[U,J,wA];show∃I v,Option.bind (zAC ⟨(gsz n:Int),(ghm n:Int),(gmp n:Int)⟩) _=_/\_;rw[n_table (by omega),wA,zUI];generalize W:d.now.drop (2+gsz n)=hs at b3;(have hh:∀k,hs[k]? =d.now[2+gsz n+k]? :=λk=>by rw[<-W,vY]);(have γ:hs.length=ghm n:=by rw[<-W,uY];omega);let X0:zU:=⟨some p,some H.tx.length,some u.ix.length,⟨0,0,0,0⟩,none⟩;let X1:zU:=⟨some p,some H.tx.length,some u.ix.length,⟨0,(q:Int),0,0⟩,none⟩;let X2:zU:=⟨some p,some H.tx.length,some u.ix.length,⟨0,(q:Int),0,0⟩,some u.sp.length⟩;let H2:Hp:=(u.nw_ix ⟨some H.tx.length,((1+gmp n:Nat):Int)⟩).nw_vw X0;let H3:Hp:=H2.st_vw u.vw.length X1;have t2:TIn H2 H.tx.length hs []:=b3.tell rfl rfl rfl rfl rfl;have t3:TIn H3 H.tx.length hs []:=b3.tell rfl rfl rfl rfl rfl;have a1:=n_getHead (g:=⟨(gsz n:Int),(ghm n:Int),(gmp n:Int)⟩) t2 (c:=0) (q:=q) (b:=0) (k:=0) (by rw[hh];exact r0) (by omega) hq (by omega) (by omega);obtain⟨Z,c1,c2,c3⟩:=zUM (H:=H3) (h:=ghm n) (k:=5+gmp n) (g:=⟨(gsz n:Int),(ghm n:Int),(gmp n:Int)⟩) (by omega) (by omega) (by omega) g9 t3 (gmp n) rfl rfl (by omega) (by omega) α (by omega) (by rw[hh];exact r1) (λk k1 k2=>by rw[hh,show 2+gsz n+(1+k)=2+gsz n+(1+k)from rfl];exact rz (1+k) (by omega) (by omega));have e4:=c3;unfold rsS at e4;simp only[Prod.mk.injEq]at e4;obtain⟨q1,q2,q3,q4,q5,q6,q7,q8,q9⟩:=e4;show∃I v,Option.bind (u.st[p]?) _=_/\_;rw[U,J,wA];show∃I v,Option.bind (zAH ⟨(gsz n:Int),(ghm n:Int),(gmp n:Int)⟩ (some H.tx.length) H2) _=_/\_;rw[a1,wA];show∃I v,(bif ((0:Int) !=0)then _ else Option.bind (yW ⟨(gsz n:Int),(ghm n:Int),(gmp n:Int)⟩ (some H.tx.length) H3) _)=_/\_;rw[zD (by rfl),c1,wA];(have v4:Z.vw[u.vw.length]? =some X1:=by rw[q8];show((u.vw++[X0]).set u.vw.length X1)[u.vw.length]? =_;exact wQ (by simp));show∃I v,Option.bind (Z.vw[u.vw.length]?) _=_/\_;rw[v4,wA];refine⟨Z.st_vw u.vw.length X2,u.vw.length,rfl,⟨i,j,d,base,slot,used,com,w1.tell q1 q2 q3,?_,hl,r0,r1,rz⟩,⟨H.tx.length,u.ix.length,u.sp.length,hs,?_,?_,?_,?_,?_⟩⟩;(show Z.st[p]? =_;rw[q7];show u.st[p]? =_;rw[U,J]);(show(Z.vw.set u.vw.length X2)[u.vw.length]? =some X2;exact wQ (wB.1 v4).1);(show Z.ix[u.ix.length]? =_;rw[q6];show(u.ix++[_])[u.ix.length]? =_;exact uJ);exact t3.tell q1 q2 q3 q4 q5;(rw[β];obtain⟨a,s1,s2⟩:=c2;exact⟨a,s1,s2⟩);(intro k k1 k2;rw[hh];exact rz k k1 k2)
theorem n_low{p k h m:Nat}{H:Hp}{g:zF}{l:Option Nat}{C:List (List T)}{F:Nat}{hp hf}(u:H.st[p]? =some ⟨g,l⟩)(I:zY g=some (k:Int)):yR H [⟨(k:Int),((h:Nat):Int)⟩] F C (λJ=>zBN J p H) hp hf=some false:=by(have e:zBN ⟨(k:Int),((h:Nat):Int)⟩ p H=some false:=by rw[zN7];show Option.bind (H.st[p]?) _=_;rw[u,wA];show Option.bind (zY g) _=_;rw[I,wA];show some (decide ((k:Int)<(k:Int)))=_;rw[zAW (by omega)]);rw[zHC,zIn];show Option.bind (yQ _ H F C _ hp hf (1+1) 0) _=_;unfold yQ;rw[zK (by rfl)];show Option.bind (Option.bind (some _) _) _=_;rw[wA,e,wA,zD (by rfl)];rfl
theorem n_SOpen{H:Hp}{i n q:Nat}{d:Dsk}(hn:n<=2000)(hr:1<=grm n)(hq:q<=2305843009213693952)(h:DIn H i d)(ho:d.off=false)(hf:d.fuse<0)(u:d.now=fmN n q)(hw:d.wait.length<=1000):
 ∃H',zBU (some i) H=some (some H.st.length,0,H')/\OSt H' H.st.length n q:=by
 obtain⟨g1,g2,g3,g4,g5,g6,g7,g8,g9,μ,ι,κ⟩:=geo hn hr
 have hl:d.now.length=n:=by rw[u,fmN_len (n:=n) (q:=q)]
 have hg:Good (gsz n) d.now.length (fmW n q):=by rw[hl];exact zQP hn hr
 have β:=zPz (n:=n) (q:=q)
 obtain⟨K,o1,o2⟩:=zRI (b:=1) (s:=gsz n) h ho hf hl (by omega) g1 g4 (by omega) (by omega) (by rw[u,zS9 (by omega)];unfold im0;rw[vN (by omega),wQ (by simp;omega)]) (1+gsz n) (.inr ⟨by rw[u,zS9 (by omega)];unfold im0;rw[wQ (by simp;omega)],by omega,by omega⟩)
 rw[if_neg (by omega),if_neg (by omega)]at o2
 have hS:=stand_wrs o2.toLIn hg (by omega) (by omega) (λp e he=>by rw[u];exact fmN_ent hn hr p e he) (by rw[u,β];exact fmN_z hn hr)
 have η:=zSf o2.toLIn hg (by omega) (by omega) hS
 obtain⟨J,d3,k1,k2,k3,k4,k5,k6⟩:=zRu (H:=H) o2 (by omega) (by omega) (by omega) η hg (by omega) hw
 have Z:=fr_Open _ _ _ (o1.trans k1)
 have U:J.st=H.st:=by unfold rs2 rst at Z;simp only[Prod.mk.injEq]at Z;exact Z.2.2.2.2.1
 have W:d3.now.length=n:=by rw[k3,vI,rd_len,hl]
 have hm:=fm_home (q:=q) hn hr hl
 have I:∀k,d3.now[2+gsz n+k]? =(rd (gsz n) d.now (fmW n q))[2+gsz n+k]? :=λk=>by rw[k3,vN (by omega)]
 let X:qE:=⟨⟨(gsz n:Int),(ghm n:Int),(gmp n:Int)⟩,some H.lg.length⟩
 have hO:OSt (J.nw_st X) H.st.length n q:=by refine⟨i,H.lg.length,d3,_,_,_,_,k2.tell rfl rfl rfl,?_,W,(I 0).trans hm.1,(I 1).trans hm.2.1,λk a b=>(I k).trans (hm.2.2 k a b)⟩;show(J.st++[X])[H.st.length]? =_;rw[U,uJ]
 rw[zNH,o1,k1,wA,zD (by rfl)]
 show∃H',Option.bind (qH (some i) J) _=_/\_
 rw[zM1 k2.dsk (by omega),wA,W,n_of (by omega),wA]
 show∃H',Option.bind (yB ⟨(gsz n:Int),(ghm n:Int),(gmp n:Int)⟩) _=_/\_
 rw[zSN (by omega) g9,wA,zD (zAW (by omega))]
 show∃H',Option.bind (yO (some H.lg.length) (J.nw_st X)) _=_/\_
 rw[zOn (k2.tell (H':=J.nw_st X) rfl rfl rfl).toLIn,wA,W,<-g5]
 show∃H',(bif ((ghm n:Int) !=(ghm n:Int))then _ else _)=_/\_
 rw[zD (zGl rfl)]
 show∃H',Option.bind (zAK (some J.st.length) (J.nw_st X)) _=_/\_
 rw[U]
 obtain⟨H4,v,b1,b2,b3⟩:=zPv hn hr hq hO
 rw[b1,wA,zD (by rfl)]
 obtain⟨t,x,sp,hs,v1,v2,v3,v4,v5⟩:=b3
 show∃H',Option.bind (H4.vw[v]?) _=_/\_
 rw[v1,wA]
 show∃H',Option.bind (zBY (some sp) H4) _=_/\_
 rw[n_Runs (by omega) g8 g9 v4,wA]
 have γ:=b2
 obtain⟨i',j',d',δ,ε,ζ,θ,w',α,_⟩:=γ
 show∃H',Option.bind (yR H4 [⟨((5+gmp n:Nat):Int),((ghm n-(5+gmp n):Nat):Int)⟩] _ _ (λa0=>zBN a0 J.st.length H4) _ _) _=_/\_
 rw[n_low (m:=0) (by rw[U];exact α) (zQj (by omega)),wA,zD (by rfl)]
 exact⟨H4,by show some (some J.st.length,0,H4)=_;rw[U],b2⟩
section
variable {n q:Nat}(hn:n<=2000)(hr:1<=grm n)(hq:q<=2305843009213693952)
include hn hr hq
theorem n_SStat{H:Hp}{p:Nat}(h:OSt H p n q):∃I,zA3 (some p) H=some (⟨0,0,0,(q:Int),0,(grm n:Int),((5+gmp n:Nat):Int)-1⟩,0,I)/\OSt I p n q:=by obtain⟨g1,g2,g3,g4,g5,g6,g7,g8,g9,ε,γ,δ⟩:=geo hn hr;obtain⟨u,v,b1,b2,t,x,sp,hs,v1,v2,v3,v4,v5⟩:=zPv hn hr hq h;rw[zLu,b1,wA,zD (by rfl)];show∃I,Option.bind (u.vw[v]?) _=_/\_;rw[v1,wA];have U:=b2;obtain⟨i',j',d',Z,W,α,β,w',J,_⟩:=U;(have hu:zBw (some v) u=some 0:=by rw[zMc];show Option.bind (u.vw[v]?) _=_;rw[v1,wA];show Option.bind (u.st[p]?) _=_;rw[J,wA];show Option.bind (yB ⟨(gsz n:Int),(ghm n:Int),(gmp n:Int)⟩) _=_;rw[zSN (by omega) g9,wA];show Option.bind (zAb (some sp) u) _=_;rw[zTT v4,wA,yF (by omega) (by omega)];congr 1;omega);show∃I,Option.bind (zBw (some v) u) _=_/\_;rw[hu,wA];show∃I,Option.bind (zAb (some sp) u) _=_/\_;rw[zTT v4,wA];show∃I,Option.bind (zBt (some sp) u) _=_/\_;rw[n_Top (by omega) (by omega) g9 v4,wA];exact⟨u,rfl,b2⟩
omit hq in
theorem n_Seach{H:Hp}{x t k F:Nat}{hs:List Y}{C:List (List D)}{f:Int->zI->Option Bool}{hp hf}(hx:H.ix[x]? =some ⟨some t,((1+gmp n:Nat):Int)⟩)(ht:TIn H t hs [])(hz:∀k,2<=k->k<5+gmp n->hs[k]? =some Z64)(hk:k<64):zCV (some x) (k:Int) F C f hp hf H=some (⟨0,0⟩,0,⟨⟨[],0,0,0⟩,0⟩,35):=by obtain⟨g1,g2,g3,g4,g5,g6,g7,g8,g9,α,Z,W⟩:=geo hn hr;have U:=zNK (a:=k) (b:=16);rw[show((16:Nat):Int)=16 from rfl]at U;(have e2:Int.tmod (k:Int) 16=((k %16:Nat):Int):=by rw[Int.tmod_eq_emod_of_nonneg (by omega)];rfl);(have hd:zCa (some x) (k:Int) H=some ⟨((1+gmp n+k/16:Nat):Int),((4*(k %16):Nat):Int)⟩:=by rw[zLT];show Option.bind (H.ix[x]?) _=_;rw[hx,wA,U,e2,yF (z:=((k/16:Nat):Int)) (by omega) (by omega),yF (z:=4*((k %16:Nat):Int)) (by omega) (by omega)];show some (zX.mk (wi (((1+gmp n:Nat):Int)+((k/16:Nat):Int))) _)=_;rw[yF (by omega) (by omega)];congr 2);(have u:zA6 (some x) ((1+gmp n+k/16:Nat):Int) H=some (Z64,0):=by rw[zKC];show Option.bind (H.ix[x]?) _=_;rw[hx,wA];show Option.bind (zAi (some t) ((1+gmp n+k/16:Nat):Int) H) _=_;rw[zOC ht (hz (1+gmp n+k/16) (by omega) (by omega)),wA];rfl);have hc:=zGt (l:=Z64) (lo:=4*(k %16)) (n:=4) (by simp;omega) (((4*(k %16):Nat):Int)+4) (by omega);(have J:(List.drop (4*(k %16)) Z64).take 4=List.replicate 4 0:=by rw[sS,sV,show min 4 (64-4*(k %16))=4 by omega]);(have I:zCE (some x) ⟨((1+gmp n+k/16:Nat):Int),((4*(k %16):Nat):Int)⟩ H=some (0,0):=by rw[zK6,u,wA,zD (by rfl)];show Option.bind (cutI Z64 ((4*(k %16):Nat):Int) (wi (((4*(k %16):Nat):Int)+4))) _=_;rw[yF (z:=((4*(k %16):Nat):Int)+4) (by omega) (by omega)];show Option.bind (cutI Z64 ((4*(k %16):Nat):Int) (((4*(k %16):Nat):Int)+4)) _=_;rw[hc,J,wA,zR3,show zBX (List.replicate 4 0)=some (0,0) by decide+kernel,wA];rfl);rw[zLz,hd,wA,I,wA,zD (by rfl)];show zAq _ _ _ _ _ _ _ _ (16399+1) _ _ 0 0=_;unfold zAq;rw[zK (by rfl)]
omit hq in
theorem n_SAll{H:Hp}{x t:Nat}{hs:List Y}(hx:H.ix[x]? =some ⟨some t,((1+gmp n:Nat):Int)⟩)(ht:TIn H t hs [])(hz:∀k,2<=k->k<5+gmp n->hs[k]? =some Z64):zB2 (some x) H=some ([],0):=by(have u:∀(m k:Nat) (K:Unit->Option (List zC×Int)),k<=64->64-k<m->zA8 K (some x) H m (k:Int)=K ():=by intro m;(induction m with|zero=>intro k K U J;omega|succ m I=>intro k K U J;unfold zA8;by_cases hk:k<64;(rw[zK (zAm (by omega)),n_Seach hn hr hx ht hz hk,wA,zK (by rfl),zCy (by omega)];exact I (k+1) K (by omega) (by omega));rw[zD (zAW (by omega))]));rw[zMU];show zBg H (some x) (1+1)=_;unfold zBg;rw[show(0:Int)=((0:Nat):Int)from rfl,u _ 0 _ (by omega) (by decide)];unfold zD6;rw[zE4,zFQ];show Option.bind (Option.bind (qJ _ _ _ _ _ _ _ (2+1) 0 20) _) _=_;unfold qJ;rw[zD (by rfl)];unfold zAx;rw[zDx];rfl
theorem n_SList{H:Hp}{p:Nat}{b:List UInt8}(h:OSt H p n q):∃u,zCX (some p) b H=some ([],0,u)/\OSt u p n q:=by obtain⟨I,v,J,b2,t,x,sp,hs,W,Z,U,v4,v5⟩:=zPv hn hr hq h;rw[zL7,J,wA,zD (by rfl)];show∃u,Option.bind (I.vw[v]?) _=_/\_;rw[W,wA];show∃u,Option.bind (zB2 (some x) I) _=_/\_;rw[n_SAll hn hr Z U v5,wA,zD (by rfl)];exact⟨I,rfl,b2⟩
theorem n_Whole{H:Hp}{p:Nat}(h:OSt H p n q):∃u,zFF (some p) ⟨[],[],0,(q:Int),(grm n:Int)⟩ H=some (true,u):=by obtain⟨g1,g2,g3,g4,g5,g6,g7,g8,g9,β,J,α⟩:=geo hn hr;obtain⟨Z,a1,a2⟩:=n_SList (b:=[]) hn hr hq h;obtain⟨I,U,c2⟩:=n_SStat hn hr hq a2;(have eB:zCn ⟨[],[],0,(q:Int),(grm n:Int)⟩=some 0:=by rw[zMe];rfl);(have W:zCN ⟨[],[],0,(q:Int),(grm n:Int)⟩=some 0:=by rw[zNQ];rfl);rw[zSI,a1,wA,zD (by rfl),zR2];show∃u,Option.bind (some true) _=_;rw[wA,zD (by rfl)];show∃u,zDF _ _ _ (0+1) 0 Z=_;unfold zDF;rw[zD (by rfl)];unfold zHM;rw[U,wA,zK (by rfl),zK (by rfl),zK (by rfl),eB,wA,zK (by rfl),zK (zQq rfl),W,wA,zK (by rfl),wA,yF (by show-9223372036854775808<=(grm n:Int)-0;omega) (by show(grm n:Int)-0<=_;omega)];refine⟨I,?_⟩;show some ((grm n:Int)==(grm n:Int)-0,I)=_;rw[Int.sub_zero,zQq rfl]
end
theorem n_readOut{H:Hp}{i k:Nat}{d:Dsk}(h:DIn H i d)(J:d.off=false)(h0:0<d.now.length)(hk:d.now.length<=k):zAg (some i) (k:Int) H=some (0,0,false):=by have hi:=n_is h h0;obtain⟨⟨a,b,ks,u,Z,hd,U,hn,ek,W⟩,_⟩:=h;(have hl:u.length=d.now.length:=by rw[<-W,wL]);(have I:zAj (some i) (k:Int) H=some 31:=by rw[zGU,hi,wA,zD (by rfl)];show Option.bind (H.dk[i]?) _=_;rw[hd,wA];show(bif d.off then _ else bif decide ((k:Int)<0)then _ else bif decide ((k:Int)>=(u.length:Int))then _ else some 0)=_;rw[J,zD rfl,zD (zAW (by omega)),zK (zAm (by omega))]);rw[zHL,zIb,I];rfl
theorem zSY{H:Hp}{i n:Nat}{d:Dsk}(h1:1<=n)(hn:n<=2000)(h:DIn H i d)(U:d.off=false)(u:d.now=List.replicate n Z64):∃J,zBU (some i) H=some (none,11,J):=by(have hl:d.now.length=n:=by rw[u,wN]);have I:DIn (H.nw_lg ⟨some i,0,0,0,0,d.lives,0⟩) i d:=h.lg rfl rfl;have Z:zAg (some i) ((0:Nat):Int) (H.nw_lg ⟨some i,0,0,0,0,d.lives,0⟩)=some (0,0,false):=zMS I U (by rw[u,vH,if_pos (by omega)]);(have r1:zAg (some i) ((0+1:Nat):Int) (H.nw_lg ⟨some i,0,0,0,0,d.lives,0⟩)=some (0,0,false):=by by_cases W:2<=n;exact zMS I U (by rw[u,vH,if_pos (by omega)]);exact n_readOut I U (by omega) (by omega));rw[zNH,zMf,zM1 h (by omega),wA,zD (zOs (by omega)),n_Off h (by omega),wA,U,zD (by rfl)];show∃J,Option.bind (Option.bind (zAU (some i) H) _) _=_;rw[zSl h (by omega),wA];show∃J,Option.bind (qD (qS H) (some i) H (2+1) ((0:Nat):Int) (H.nw_lg ⟨some i,0,0,0,0,d.lives,0⟩)) _=_;rw[zLO (z:=0) (by omega) Z,zLO (n:=1) (z:=0+1) (by omega) r1];show∃J,Option.bind (qD (qS H) (some i) H (0+1) 2 (H.nw_lg ⟨some i,0,0,0,0,d.lives,0⟩)) _=_;rw[qD,zD (by decide)];unfold qS;show∃J,Option.bind (Option.bind ((H.lg++[_])[H.lg.length]?) _) _=_;rw[uJ,wA];exact⟨_,rfl⟩
theorem zSH(p0 u p2:Int)(h2:0<=p2){w0 W:Hp}(hA:zFJ w0=some (true,W)):∃J,zCk p0 u p2 w0=some (true,J):=by obtain⟨k,rfl⟩:=uL h2;(have en:wi (wi (Int.tmod (k:Int) 2000)+1)=((k %2000+1:Nat):Int):=by(have e2:Int.tmod (k:Int) 2000=((k %2000:Nat):Int):=by rw[Int.tmod_eq_emod_of_nonneg (by omega)];rfl);rw[e2,yF (z:=((k %2000:Nat):Int)) (by omega) (by omega),yF (by omega) (by omega)];omega);generalize γ:k %2000+1=n at en;(have h1:1<=n:=by omega);(have hn:n<=2000:=by omega);(have eR:zRE (n:Int)=grm n:=by unfold zRE;rw[if_pos (by omega),wR]);obtain⟨U,d1,d2,d3⟩:=n_New (H:=W) (n:=n) h1 (by omega);(have α:yV none 5 W=some (1,W):=by rw[zFS,zIc,zG5];rfl);rw[zNv,hA,wA,zD (by rfl),n_Room,wA,zP6,wA,zD (zGl rfl),α,wA,zD (by rfl),en];show∃J,Option.bind (zDv (n:Int) W) _=_;rw[d1,wA];have hS:=zM1 d2 (by simp;omega);have Z:(⟨List.replicate n (List.replicate 64 0),List.replicate n (List.replicate 64 0),[],-1,false,0⟩:Dsk).now.length=n:=wN;rw[Z]at hS;by_cases β:grm n<1\/u<0\/u>2305843009213693952;((have hF:yV (some W.dk.length) u U=some (2,U):=by rw[zFS,hS,wA,zD (zOs (by omega)),wA,n_Room,wA,eR];by_cases a:grm n<1;rw[zK (zAm (by omega))];rw[zD (zAW (by omega))];by_cases b:u<0;rw[zK (zAm (by omega))];rw[zD (zAW (by omega)),zK (zAm (by omega))]);obtain⟨I,o1⟩:=zSY h1 hn d2 rfl rfl;(have hj:zA2 (some W.dk.length,0,U) (2,U) (k:Int) u true=some (true,I):=by unfold zA2;rw[zK (by rfl)];show Option.bind (zBU (some W.dk.length) U) _=_;rw[o1,wA];rfl);show∃J,Option.bind (yV (some W.dk.length) u U) _=_;rw[hF,wA,zP6,wA,eR];by_cases a:grm n<1;exact⟨I,by rw[zK (zAm (by omega)),hj]⟩;rw[zD (zAW (by omega))];by_cases b:u<0;exact⟨I,by rw[zK (zAm (by omega)),hj]⟩;exact⟨I,by rw[zD (zAW (by omega)),zAm (by omega),hj]⟩);((have hr:1<=grm n:=by omega);obtain⟨q,rfl⟩:=uL (show 0<=u by omega);(have hq:q<=2305843009213693952:=by omega);obtain⟨I,j,d',com,f1,f2,f3,f4⟩:=n_SFormat d2 rfl (by show(-1:Int)<0;omega) rfl rfl hn hr hq;obtain⟨H3,o1,o2⟩:=n_SOpen hn hr hq f2.dsk f2.off f2.fuse f3 (by omega);obtain⟨H4,s1,s2⟩:=n_SStat hn hr hq o2;obtain⟨H5,w1⟩:=n_Whole hn hr hq s2;show∃J,Option.bind (yV (some W.dk.length) (q:Int) U) _=_;rw[f1,wA,zP6,wA,eR,zD (zAW (by omega)),zD (zAW (by omega)),zAW (by omega)];unfold zA2;rw[zD (by rfl)];show∃J,Option.bind (zBU (some W.dk.length) I) _=_;rw[o1,wA];show∃J,Option.bind (zA3 (some I.st.length) H3) _=_;rw[s1,wA,zK (by rfl),zK (by rfl),zK (by rfl),en,zP6,wA,eR];have e1:((q:Int)==(q:Int))=true:=zQq rfl;have e2:((grm n:Int)==(grm n:Int))=true:=zQq rfl;have e3:((((5+gmp n:Nat):Int)-1)==(((5+gmp n:Nat):Int)-1))=true:=zQq rfl;show∃J,(bif ((0:Int)==0)&&(((0:Int)==0)&&(((0:Int)==0)&&(((q:Int)==(q:Int))&&(((0:Int)==0)&&(((grm n:Int)==(grm n:Int))&&(((((5+gmp n:Nat):Int)-1)==(((5+gmp n:Nat):Int)-1))&&true))))))then _ else _)=_;rw[e1,e2,e3,zK (by rfl),wA];show∃J,Option.bind (zFF (some I.st.length) ⟨[],[],0,(q:Int),(grm n:Int)⟩ H4) _=_;rw[w1,wA];exact⟨H5,rfl⟩)
def W1(z:Nat):List qP:=(List.range z).map λi=>⟨((i+1:Nat):Int),Z64⟩
def A1(n z:Nat):List Y:=[]::(List.replicate z Z64++List.replicate (n-1-z) [])
def Hz(H:Hp)(n a b:Nat)(w:List qP):Hp:={H with dk:=[⟨(0,n),(1,n),w,-1,false,0⟩],sec:=[A1 n a,A1 n b]}
theorem zRU(z:Nat):(W1 z).length=z:=by simp[W1]
theorem W1_succ(z:Nat):W1 (z+1)=W1 z++[⟨((z+1:Nat):Int),Z64⟩]:=by simp[W1,List.range_succ]
theorem W1_get{s j:Nat}(h:j<s):(W1 s)[j]'(by rw[zRU];exact h)=⟨((j+1:Nat):Int),Z64⟩:=by simp[W1]
theorem zTB{n z:Nat}(h:z<n):(A1 n z).length=n:=by simp[A1];omega
theorem app_set{α:Type}(Z X:α)(z m:Nat):(List.replicate z Z++List.replicate (m+1) X).set z Z=List.replicate (z+1) Z++List.replicate m X:=by rw[List.set_append_right _ _ (by simp),List.replicate_succ' (n:=z),vW,wN,sE];rfl
theorem A1_set{n z:Nat}(h:z+1<n):(A1 n z).set (z+1) Z64=A1 n (z+1):=by(have e:n-1-z=(n-1-(z+1))+1:=by omega);unfold A1;rw[e,List.set_cons_succ,app_set]
section
variable {H:Hp}{n a b:Nat}{w:List qP}
theorem z_may{k:Nat}(hk:k<n):zAj (some 0) (k:Int) (Hz H n a b w)=some 0:=by rw[zGU,zG5];show Option.bind (some (decide ((n:Int)>0))) _=_;rw[wA,zD (by simp;omega)];show(bif false then some 30 else bif decide ((k:Int)<0)then some 31 else bif decide ((k:Int)>=(n:Int))then some 31 else some 0)=_;grind
theorem z_burn:yN (some 0) (Hz H n a b w)=some (false,Hz H n a b w):=by rw[zFj];rfl
theorem z_write{z:Nat}(hz:z+1<n)(hn:n<=16384):zZ (some 0) ((z+1:Nat):Int) Z64 (Hz H n a z (W1 z))=some (0,Hz H n a (z+1) (W1 (z+1))):=by rw[zFP,z_may hz,wA,zD (by rfl),zD (by rfl)];show Option.bind (appI 72 (W1 z) [⟨((z+1:Nat):Int),Z64⟩]) _=_;rw[zEI (by rw[zRU];simp;omega),wA,<-W1_succ];show Option.bind (lenI (A1 n z).length n) _=_;unfold lenI;rw[if_pos (zTB (by omega)),wA,zCv (by rw[zTB (by omega)];exact hz),wA];show Option.bind (yN (some 0) {Hz H n a z (W1 (z+1))with sec:=[A1 n a,(A1 n z).set (Int.toNat ((z+1:Nat):Int)) Z64]}) _=_;rw[wR,A1_set hz];show Option.bind (yN (some 0) (Hz H n a (z+1) (W1 (z+1)))) _=_;rw[z_burn];rfl
theorem zPJ{s:Nat}(hs:s<n)(hn:n<=16384)(k1:Hp->Option (Int×Hp))(x:zP)(hx:x.wait_=W1 s):∀m j:Nat,j<=s->s-j<m->qI k1 x (some 0) 0 m (j:Int) (Hz H n j s (W1 s))=k1 (Hz H n s s (W1 s))
 |0,j,_,h=>by omega
 |m+1,j,I,h=>by unfold qI;rw[hx,zRU];by_cases u:j<s;(rw[zK (zAm (by omega)),zCv (by rw[zRU];exact u),wA,W1_get u];show Option.bind (lenI (A1 n j).length n) _=_;unfold lenI;rw[if_pos (zTB (by omega)),wA,zCv (by rw[zTB (by omega)];omega),wA];show qI k1 x (some 0) 0 m (wi ((j:Int)+1)) {Hz H n j s (W1 s)with sec:=[(A1 n j).set (Int.toNat ((j+1:Nat):Int)) Z64,A1 n s]}=_;rw[wR,A1_set (by omega),zCy (by omega)];exact zPJ hs hn k1 x hx m (j+1) (by omega) (by omega));grind
theorem z_flush{s:Nat}(hs:s<n)(hn:n<=16384):qB (some 0) (Hz H n 0 s (W1 s))=some (0,Hz H n s s []):=by rw[zFL,show zAj (some 0) 0 (Hz H n 0 s (W1 s))=some 0 from z_may (k:=0) (by omega),wA,zD (by rfl),z_burn,wA,zD (by rfl)];show qI _ ⟨(0,n),(1,n),W1 s,-1,false,0⟩ (some 0) 0 _ ((0:Nat):Int) _=_;rw[zPJ hs hn _ _ rfl _ 0 (by omega) (by rw[zRU];omega)];rfl
theorem zOI{s:Nat}(hs:1+s<n)(hn:n<=16384)(k1:Hp->Option (Int×Hp)):∀m z:Nat,z<=1+s->1+s-z<m->zAJ k1 (s:Int) (some 0) m ((z+1:Nat):Int) (Hz H n 0 z (W1 z))=k1 (Hz H n 0 (1+s) (W1 (1+s)))
 |0,z,_,h=>by omega
 |m+1,z,hz,h=>by unfold zAJ;rw[yF (z:=2+(s:Int)) (by omega) (by omega)];by_cases u:z<1+s;(rw[zK (zAm (by omega))];show Option.bind (zZ (some 0) ((z+1:Nat):Int) Z64 (Hz H n 0 z (W1 z))) _=_;rw[z_write (by omega) hn,wA,zD (by rfl),zCy (by omega)];exact zOI hs hn k1 m (z+1) (by omega) (by omega));grind
end
end Go.Proofs.YtocolhfjpadaoaaGreatDoor
