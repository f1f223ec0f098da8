/-
  Lemmas of this claim, joined.
-/
import Derived.Test.YtocolhfjpadaoaaGreatDoorR14
set_option linter.unusedVariables false
set_option linter.unusedSimpArgs false
set_option linter.constructorNameAsVariable false
namespace Go.Proofs.YtocolhfjpadaoaaGreatDoor
open Go
abbrev uV:=@List.drop_eq_nil_of_le
abbrev tH:=@List.cons_append
abbrev sJ:=@List.take_append_getElem
end Go.Proofs.YtocolhfjpadaoaaGreatDoor
namespace Go.Proofs.YtocolhfjpadaoaaGreatDoor
open Go Go.RowKit
variable {P:Program}{w0:World}{w:World}{m0:Mem}{m:Mem}{o0:OwnM}{o:OwnM}{G:GD}{pins:List Nat}{N:Nat}{a:Act}{op:Oper}{S:Nat->A}{M:Nat->A}{L:SL}{v:Value}{W:World}{Q:Mem}{X:OwnM}
noncomputable section
def zBc(u:Int):Option (Int×Int):=
bif (decide (u>4611686018427387904))then(some (0,11))else
some ((wi u),0)
theorem zRO(u:Int):(zGX u).run Env.nil=zBc u:=by simp only[zGX,rn]<;>rfl
def zBd(k1:Int->Option (Int×Int))(I:Y):Nat->Int->Int->Option (Int×Int)
 |0,_,_=>none
 |n0+1,J,u=>
  bif (decide (u<(I.length:Int)))then((idx I u).bind λU=>
  zBd k1 I n0 (IntKind.u64.wrap ((((BitVec.ofInt IntKind.u64.bits (IntKind.u64.wrap (J*2^8)))|||(BitVec.ofInt IntKind.u64.bits (U.toNat:Int))).toNat:Nat):Int)) (wi (u+1)))else
  k1 J
theorem zQ8(k1:Int->Option (Int×Int))(u:Y):∀n q,lpn (λk (q:Int×Int)=>(zGq u q.1 q.2).run ((Env.nil.cons k1).cons k)) n q=zBd k1 u n q.1 q.2:=zBG (g:=λn (q:Int×Int)=>zBd k1 u n q.1 q.2) (λ_=>rfl) λn q=>by simp only[zGq,rn]<;>rfl
theorem zV9(u:Y):zDY u=
bif ((u.length:Int)==0)then(some (0,10))else
bif (decide ((u.length:Int)>8))then(some (0,2))else
zBd zBc u (u.length+1) 0 0:=by simp only[zDY,zQb,rn,zRO,zQ8]<;>rfl
def yN(u:zB)(J:Int)(I:Int):Option (Y×zB):=
bif (I !=0)then(some ([],(zB.mk u.b_ I)))else
(cutI u.b_ 0 J).bind λU=>
(cutI u.b_ J (u.b_.length:Int)).bind λZ=>
some (U,(zB.mk Z I))
theorem zHI(J:zB)(I:Int)(u:Int):(zBx J I u).run Env.nil=yN J I u:=by simp only[zBx,rn]<;>rfl
theorem zCz(u:zB)(I:Int):zY u I=
bif (u.e_==0)then(bif (decide (I>(u.b_.length:Int)))then(yN u I 10)else
yN u I u.e_)else
yN u I u.e_:=by simp only[zY,zEq,rn,zHI]<;>rfl
theorem zEG(J:zB)(I:Int):qC J I=
(zY J I).bind λu=>
(zDY u.1).bind λU=>
some (U.1,u.2):=by simp only[qC,zEK,rn]<;>rfl
theorem zKU(u:zB):zQ u=
bif (u.e_==0)then(some (zB.mk u.b_ 11))else
some u:=by simp only[zQ,zEi,rn]<;>rfl
def zAO(J:(Int×Int))(U:Y)(I:Int):Option (V×zB):=
(zC1 J.1).bind λu=>
some ((V.mk u.k u.n [] []),(zB.mk U I))
theorem zGH(I:(Int×Int))(J:Y)(u:Int):(zBR I J u).run Env.nil=zAO I J u:=by simp only[zBR,rn]<;>rfl
def qT(x1:(Int×zB))(y3:Y)(y4:Int):Option (V×zB):=
(zY (zB.mk y3 y4) x1.1).bind λI=>
bif ((I.1.length:Int)==0)then((zC1 0).bind λW=>
some ((V.mk W.k W.n [] []),I.2))else
(zDY I.1).bind λu=>
bif (u.2 !=0)then((zQ I.2).bind λU=>
zAO u U.b_ U.e_)else
(idx I.1 0).bind λZ=>
bif ((Z.toNat:Int)==0)then((zQ I.2).bind λJ=>
zAO u J.b_ J.e_)else
zAO u I.2.b_ I.2.e_
theorem zF1(J:(Int×zB))(u:Y)(I:Int):(zBU J u I).run Env.nil=qT J u I:=by simp only[zBU,rn,zGH]<;>rfl
theorem zIf(J:zB):yH J=
(qC J 1).bind λu=>
bif (decide (u.1>8))then((zQ u.2).bind λI=>
qT u I.b_ I.e_)else
qT u u.2.b_ u.2.e_:=by simp only[yH,zD4,rn,zF1]<;>rfl
theorem zVq(u:List V):zIz u=
some (V.mk 3 0 [] u):=by simp only[zIz,zQE,rn]<;>rfl
theorem zOu(u:Int):zC1 u=
some (V.mk 1 u [] []):=by simp only[zC1,zPC,rn]<;>rfl
theorem zOx(u:Y):zCy u=
some (V.mk 2 0 u []):=by simp only[zCy,zO5,rn]<;>rfl
def zR(W:(Int×zB))(self:zB->Int->Option (V×zB))(p1:Int)(u:V):Nat->Y->Int->List V->Int->Option (V×zB)
 |0,_,_,_,_=>none
 |n0+1,J,I,Z,α=>
  bif (decide (α<W.1))then(bif (I==0)then((self (zB.mk J I) (wi (p1-1))).bind λU=>
  (appI 64 Z [U.1]).bind λβ=>
  zR W self p1 u n0 U.2.b_ U.2.e_ β (wi (α+1)))else
  some ((V.mk u.k u.n [] Z),(zB.mk J I)))else
  some ((V.mk u.k u.n [] Z),(zB.mk J I))
theorem zGe(J:(Int×zB))(self:zB->Int->Option (V×zB))(U:Int)(u:(qR self))(I:V):∀n q,lpn (λk (q:Y×Int×(List V)×Int)=>(zBZ J self U u I q.1 q.2.1 q.2.2.1 q.2.2.2).run (Env.nil.cons k)) n q=zR J self U I n q.1 q.2.1 q.2.2.1 q.2.2.2:=zBG (g:=λn (q:Y×Int×(List V)×Int)=>zR J self U I n q.1 q.2.1 q.2.2.1 q.2.2.2) (λ_=>rfl) λn q=>by simp only[zBZ,rn]<;>rfl
def qI(Z:Int)(u:(Int×zB))(self:zB->Int->Option (V×zB))(J:Y)(U:Int):Option (V×zB):=
(zCU).bind λI=>
zR u self Z I (Int.toNat u.1+1) J U [] 0
theorem zGY(Z:Int)(I:(Int×zB))(self:zB->Int->Option (V×zB))(u:(qR self))(J:Y)(U:Int):(zBb Z I self u J U).run Env.nil=qI Z I self J U:=by simp only[zBb,rn,zGe]<;>rfl
theorem zJK(Z:Nat)(p0:zB)(U:Int):zL (Z+1) p0 U=
(zY p0 1).bind λJ=>
bif (J.2.e_ !=0)then(some ((V.mk 0 0 [] []),J.2))else
(idx J.1 0).bind λx4=>
bif ((x4.toNat:Int)==1)then((yH J.2).bind λx7=>
some ((V.mk x7.1.k x7.1.n [] []),x7.2))else
bif ((x4.toNat:Int)==2)then((qC J.2 3).bind λα=>
(zY α.2 α.1).bind λγ=>
(zBg γ.1).bind λδ=>
(zCy δ).bind λI=>
some ((V.mk I.k I.n I.b []),γ.2))else
bif ((x4.toNat:Int)==3)then((qC J.2 2).bind λu=>
bif (decide (u.1>4096))then((zQ u.2).bind λβ=>
qI U u (zL Z) β.b_ β.e_)else
bif (U==0)then((zQ u.2).bind λW=>
qI U u (zL Z) W.b_ W.e_)else
qI U u (zL Z) u.2.b_ u.2.e_)else
(zQ J.2).bind λε=>
some ((V.mk 0 0 [] []),ε):=by show(zBL (zL Z) (zDt Z) p0 U).run Env.nil=_;simp only[zBL,rn,zGY]<;>rfl
def zAg(I:(V×zB))(u:Int):Option (V×Int):=
bif (u !=0)then(some ((V.mk 0 0 [] []),u))else
some (I.1,0)
theorem zLs(u:(V×zB))(I:Int):(zDb u I).run Env.nil=zAg u I:=by simp only[zDb,rn]<;>rfl
theorem zPJ(I:Y):zCo I=
bif (decide ((I.length:Int)>1048576))then(some ((V.mk 0 0 [] []),3))else
(zL (Int.toNat 16+1) (zB.mk I 0) 16).bind λu=>
bif (u.2.e_==0)then(bif (decide ((u.2.b_.length:Int)>0))then(zAg u 12)else
zAg u u.2.e_)else
zAg u u.2.e_:=by simp only[zCo,zJb,rn,zLs]<;>rfl
def zAE(u:V):Option ((List V)×Bool):=
some (u.l,true)
theorem zLy(u:V):(zDi u).run Env.nil=zAE u:=by simp only[zDi,rn]<;>rfl
def zAe(J:Int->Option ((List V)×Bool))(I:V)(u:Int)(Z:Int):Option ((List V)×Bool):=
(idx I.l u).bind λU=>
bif (U.k !=Z)then(some ([],false))else
J (wi (u+1))
theorem zLh(J:Int->Option ((List V)×Bool))(k1:Unit->Option ((List V)×Bool))(U:V)(u:Int)(I:Int):(zDa U u I).run ((Env.nil.cons k1).cons J)=zAe J U u I:=by simp only[zDa,rn]<;>rfl
def qL(k1:Unit->Option ((List V)×Bool))(U:List Int)(u:V):Nat->Int->Option ((List V)×Bool)
 |0,_=>none
 |n0+1,I=>
  bif (decide (I<(U.length:Int)))then((idx U I).bind λJ=>
  bif (J==1)then(zAe (λq=>qL k1 U u n0 q) u I J)else
  bif (J==2)then(zAe (λq=>qL k1 U u n0 q) u I J)else
  zAe (λq=>qL k1 U u n0 q) u I J)else
  k1 ()
theorem zMN(k1:Unit->Option ((List V)×Bool))(u:List Int)(I:V):∀n q,lpn (λk (q:Int)=>(zDh u I q).run ((Env.nil.cons k1).cons k)) n q=qL k1 u I n q:=zBG (g:=λn (q:Int)=>qL k1 u I n q) (λ_=>rfl) λn q=>by simp only[zDh,rn,zLh]<;>rfl
theorem zPI(u:V)(I:List Int):zCs u I=
bif (u.k !=3)then(some ([],false))else
bif ((u.l.length:Int) !=(I.length:Int))then(some ([],false))else
qL (λq=>zAE u) I u (I.length+1) 0:=by simp only[zCs,zJl,rn,zLy,zMN]<;>rfl
def zCY(I:Y)(J:Y):Nat->Int->Option Bool
 |0,_=>none
 |n0+1,u=>
  bif (decide (u<(I.length:Int)))then((idx I u).bind λU=>
  (idx J u).bind λZ=>
  bif ((U.toNat:Int) !=(Z.toNat:Int))then(some false)else
  zCY I J n0 (wi (u+1)))else
  some true
theorem zRX(I:Y)(u:Y):∀n q,lpn (λk (q:Int)=>(zGa I u q).run (Env.nil.cons k)) n q=zCY I u n q:=zBG (g:=λn (q:Int)=>zCY I u n q) (λ_=>rfl) λn q=>by simp only[zGa,rn]<;>rfl
theorem zWC(u:Y)(I:Y):zEW u I=
bif ((u.length:Int) !=(I.length:Int))then(some false)else
zCY u I (u.length+1) 0:=by simp only[zEW,zL3,rn,zRX]<;>rfl
def zD5(I:Int)(u:Y):Option (Y×Int):=
bif (decide (I>0))then(some ([],2))else
some (u,0)
theorem zSx(I:Int)(u:Y):(zHi I u).run Env.nil=zD5 I u:=by simp only[zHi,rn]<;>rfl
def zCK(k1:(Int×Y)->Option (Y×Int))(U:Int):Nat->Int->Y->Int->Option (Y×Int)
 |0,_,_,_=>none
 |n0+1,J,Z,u=>
  bif (decide (u<U))then((appI 1 Z [(U8 (Int.tmod J 256))]).bind λI=>
  zCK k1 U n0 (wi (Int.tdiv J 256)) I (wi (u+1)))else
  k1 (J,Z)
theorem zS2(k1:(Int×Y)->Option (Y×Int))(u:Int):∀n q,lpn (λk (q:Int×Y×Int)=>(zIS u q.1 q.2.1 q.2.2).run ((Env.nil.cons k1).cons k)) n q=zCK k1 u n q.1 q.2.1 q.2.2:=zBG (g:=λn (q:Int×Y×Int)=>zCK k1 u n q.1 q.2.1 q.2.2) (λ_=>rfl) λn q=>by simp only[zIS,rn]<;>rfl
theorem u_R01_Low(I:Int)(u:Int):zKx I u=
bif (decide (u<1))then(some ([],2))else
bif (decide (u>8))then(some ([],2))else
bif (decide (I<0))then(some ([],2))else
bif (decide (I>4611686018427387904))then(some ([],2))else
zCK (λq=>zD5 q.1 q.2) u (Int.toNat u+1) I [] 0:=by simp only[zKx,zO3,rn,zSx,zS2]<;>rfl
def zBT(I:Y):Nat->Y->Int->Option Y
 |0,_,_=>none
 |n0+1,J,u=>
  bif (decide (u>=0))then((idx I u).bind λU=>
  (appI 1 J [U]).bind λZ=>
  zBT I n0 Z (wi (u-1)))else
  some J
theorem zOC(u:Y):∀n q,lpn (λk (q:Y×Int)=>(zEk u q.1 q.2).run (Env.nil.cons k)) n q=zBT u n q.1 q.2:=zBG (g:=λn (q:Y×Int)=>zBT u n q.1 q.2) (λ_=>rfl) λn q=>by simp only[zEk,rn]<;>rfl
theorem zSK(u:Y):zD0 u=
zBT u (Int.toNat (wi ((u.length:Int)-1))+2) [] (wi ((u.length:Int)-1)):=by simp only[zD0,zMk,rn,zOC]<;>rfl
theorem u_R01_Put(J:Int)(I:Int):zDq J I=
(zKx J I).bind λu=>
(zD0 u.1).bind λU=>
some (U,u.2):=by simp only[zDq,zOM,rn]<;>rfl
def zCJ(u:Int):Option (Int×Int):=
some (u,0)
theorem zSH(u:Int):(zIm u).run Env.nil=zCJ u:=by simp only[zIm,rn]<;>rfl
def zFJ(I:(Int×Int)->Option (Int×Int))(u:Int)(Z:UInt8)(U:Int)(W:Bool)(J:Bool):Option (Int×Int):=
I ((wi ((wi (256*u))+(Z.toNat:Int))),(wi (U+1)))
theorem zSf(J:(Int×Int)->Option (Int×Int))(k1:Int->Option (Int×Int))(I:Int)(W:UInt8)(U:Int)(Z:Bool)(u:Bool):(zH4 I W U Z u).run ((Env.nil.cons k1).cons J)=zFJ J I W U Z u:=by simp only[zH4,rn]<;>rfl
def zAN(k1:Int->Option (Int×Int))(U:Y):Nat->Int->Int->Option (Int×Int)
 |0,_,_=>none
 |n0+1,u,J=>
  bif (decide (J<(U.length:Int)))then((idx U J).bind λI=>
  bif (decide (u>18014398509481984))then(some (0,11))else
  bif (u==18014398509481984)then(bif (decide ((I.toNat:Int)>0))then(some (0,11))else
  zFJ (λq=>zAN k1 U n0 q.1 q.2) u I J true (decide ((I.toNat:Int)>0)))else
  zFJ (λq=>zAN k1 U n0 q.1 q.2) u I J false false)else
  k1 u
theorem zRw(k1:Int->Option (Int×Int))(u:Y):∀n q,lpn (λk (q:Int×Int)=>(zIN u q.1 q.2).run ((Env.nil.cons k1).cons k)) n q=zAN k1 u n q.1 q.2:=zBG (g:=λn (q:Int×Int)=>zAN k1 u n q.1 q.2) (λ_=>rfl) λn q=>by simp only[zIN,rn,zSf]<;>rfl
theorem u_R01_Get(u:Y):zE4 u=
bif ((u.length:Int)==0)then(some (0,10))else
bif (decide ((u.length:Int)>8))then(some (0,2))else
zAN zCJ u (u.length+1) 0 0:=by simp only[zE4,zSs,rn,zSH,zRw]<;>rfl
def zDN(u:Int)(I:List V):Option (V×Int×Int):=
some ((V.mk 3 0 [] I),u,0)
theorem zRC(u:Int)(I:List V):(zGs u I).run Env.nil=zDN u I:=by simp only[zGs,rn]<;>rfl
def zBC(k1:(Int×(List V))->Option (V×Int×Int))(x32:(Int×Int))(self:Y->Int->Int->Option (V×Int×Int))(W:Y)(p2:Int):Nat->Int->List V->Int->Option (V×Int×Int)
 |0,_,_,_=>none
 |n0+1,U,I,J=>
  bif (decide (J<x32.1))then((self W U (wi (p2-1))).bind λu=>
  bif (u.2.2 !=0)then(some ((V.mk 0 0 [] []),0,u.2.2))else
  (appI 64 I [u.1]).bind λZ=>
  zBC k1 x32 self W p2 n0 u.2.1 Z (wi (J+1)))else
  k1 (U,I)
theorem zQx(k1:(Int×(List V))->Option (V×Int×Int))(x32:(Int×Int))(self:Y->Int->Int->Option (V×Int×Int))(J:Y)(I:Int)(u:(zDe self)):∀n q,lpn (λk (q:Int×(List V)×Int)=>(zGm x32 self J I u q.1 q.2.1 q.2.2).run ((Env.nil.cons k1).cons k)) n q=zBC k1 x32 self J I n q.1 q.2.1 q.2.2:=zBG (g:=λn (q:Int×(List V)×Int)=>zBC k1 x32 self J I n q.1 q.2.1 q.2.2) (λ_=>rfl) λn q=>by simp only[zGm,rn]<;>rfl
theorem zWI(k0:Nat)(I:Y)(u:Int)(W:Int):zA6 (k0+1) I u W=
bif (decide (u>=(I.length:Int)))then(some ((V.mk 0 0 [] []),0,10))else
(idx I u).bind λx2=>
bif ((x2.toNat:Int)==1)then(bif (decide ((wi (u+1))>=(I.length:Int)))then(some ((V.mk 0 0 [] []),0,10))else
(idx I (wi (u+1))).bind λZ=>
bif (decide ((Z.toNat:Int)>8))then(some ((V.mk 0 0 [] []),0,11))else
bif (decide ((Z.toNat:Int)>(wi ((I.length:Int)-(wi ((wi (u+1))+1))))))then(some ((V.mk 0 0 [] []),0,10))else
bif ((Z.toNat:Int)==0)then(some ((V.mk 1 0 [] []),(wi ((wi (u+1))+1)),0))else
(cutI I (wi ((wi (u+1))+1)) (wi ((wi ((wi (u+1))+1))+(Z.toNat:Int)))).bind λβ=>
(zE4 β).bind λU=>
bif (U.2 !=0)then(some ((V.mk 0 0 [] []),0,11))else
(idx I (wi ((wi (u+1))+1))).bind λγ=>
bif ((γ.toNat:Int)==0)then(some ((V.mk 0 0 [] []),0,11))else
some ((V.mk 1 U.1 [] []),(wi ((wi ((wi (u+1))+1))+(Z.toNat:Int))),0))else
bif ((x2.toNat:Int)==2)then(bif (decide ((wi ((I.length:Int)-(wi (u+1))))<3))then(some ((V.mk 0 0 [] []),0,10))else
(cutI I (wi (u+1)) (wi ((wi (u+1))+3))).bind λδ=>
(zE4 δ).bind λJ=>
bif (decide (J.1>(wi ((I.length:Int)-(wi ((wi (u+1))+3))))))then(some ((V.mk 0 0 [] []),0,10))else
(cutI I (wi ((wi (u+1))+3)) (wi ((wi ((wi (u+1))+3))+J.1))).bind λα=>
some ((V.mk 2 0 α []),(wi ((wi ((wi (u+1))+3))+J.1)),0))else
bif ((x2.toNat:Int) !=3)then(some ((V.mk 0 0 [] []),0,11))else
bif (decide ((wi ((I.length:Int)-(wi (u+1))))<2))then(some ((V.mk 0 0 [] []),0,10))else
(cutI I (wi (u+1)) (wi ((wi (u+1))+2))).bind λε=>
(zE4 ε).bind λx32=>
bif (decide (x32.1>4096))then(some ((V.mk 0 0 [] []),0,11))else
bif (W==0)then(some ((V.mk 0 0 [] []),0,11))else
zBC (λq=>zDN q.1 q.2) x32 (zA6 k0) I W (Int.toNat x32.1+1) (wi ((wi (u+1))+2)) [] 0:=by show(zI7 (zA6 k0) (zOP k0) I u W).run Env.nil=_;simp only[zI7,rn,zRC,zQx]<;>rfl
theorem zTA(I:Y):zD1 I=
bif (decide ((I.length:Int)>1048576))then(some ((V.mk 0 0 [] []),3))else
(zA6 (Int.toNat 16+1) I 0 16).bind λu=>
bif (u.2.2 !=0)then(some ((V.mk 0 0 [] []),u.2.2))else
bif (decide (u.2.1<(I.length:Int)))then(some ((V.mk 0 0 [] []),12))else
some (u.1,0):=by simp only[zD1,zMh,rn]<;>rfl
def zBq(I:V)(u:Int):Option Y:=
bif (decide (u>0))then((zDq I.n u).bind λJ=>
(appI 1 [1,(U8 u)] J.1).bind λU=>
some U)else
some [1,(U8 u)]
theorem zPX(I:V)(u:Int):(zFh I u).run Env.nil=zBq I u:=by simp only[zFh,rn]<;>rfl
def zBE(k1:Int->Option Y):Nat->Int->Int->Option Y
 |0,_,_=>none
 |n0+1,I,u=>
  bif (decide (u>0))then(zBE k1 n0 (wi (I+1)) (wi (Int.tdiv u 256)))else
  k1 I
theorem zPW(k1:Int->Option Y):∀n q,lpn (λk (q:Int×Int)=>(zFt q.1 q.2).run ((Env.nil.cons k1).cons k)) n q=zBE k1 n q.1 q.2:=zBG (g:=λn (q:Int×Int)=>zBE k1 n q.1 q.2) (λ_=>rfl) λn q=>by simp only[zFt,rn]<;>rfl
def zBD(U:V)(self:V->Option Y):Nat->Y->Int->Option Y
 |0,_,_=>none
 |n0+1,I,u=>
  bif (decide (u<(U.l.length:Int)))then((idx U.l u).bind λJ=>
  (self J).bind λW=>
  (appI 1 I W).bind λZ=>
  zBD U self n0 Z (wi (u+1)))else
  some I
theorem zP0(I:V)(self:V->Option Y)(u:(zCw self)):∀n q,lpn (λk (q:Y×Int)=>(zFl I self u q.1 q.2).run (Env.nil.cons k)) n q=zBD I self n q.1 q.2:=zBG (g:=λn (q:Y×Int)=>zBD I self n q.1 q.2) (λ_=>rfl) λn q=>by simp only[zFl,rn]<;>rfl
theorem zT4(I:Nat)(u:V):zBF (I+1) u=
bif (u.k==1)then(zBE (zBq u) (70) 0 u.n)else
bif (u.k==2)then((zDq (u.b.length:Int) 3).bind λU=>
(appI 1 [2] U.1).bind λW=>
(appI 1 W u.b).bind λZ=>
some Z)else
(zDq (u.l.length:Int) 2).bind λα=>
(appI 1 [3] α.1).bind λJ=>
zBD u (zBF I) (u.l.length+1) J 0:=by show(zGi (zBF I) (zIi I) u).run Env.nil=_;simp only[zGi,rn,zPX,zPW,zP0]<;>rfl
def zAH(I:List Int)(J:V):Nat->Int->Option Bool
 |0,_=>none
 |n0+1,u=>
  bif (decide (u<(I.length:Int)))then((idx J.l u).bind λZ=>
  (idx I u).bind λU=>
  bif (Z.k !=U)then(some false)else
  zAH I J n0 (wi (u+1)))else
  some true
theorem zPS(u:List Int)(I:V):∀n q,lpn (λk (q:Int)=>(zFi u I q).run (Env.nil.cons k)) n q=zAH u I n q:=zBG (g:=λn (q:Int)=>zAH u I n q) (λ_=>rfl) λn q=>by simp only[zFi,rn]<;>rfl
theorem zTr(I:V)(u:List Int):zE9 I u=
bif (I.k !=3)then(some false)else
bif ((I.l.length:Int) !=(u.length:Int))then(some false)else
zAH u I (u.length+1) 0:=by simp only[zE9,zOT,rn,zPS]<;>rfl
theorem zU0(u:List V):zLL u=
some (V.mk 3 0 [] u):=by simp only[zLL,zVg,rn]<;>rfl
theorem zSh(u:Int):zIG u=
some (V.mk 1 u [] []):=by simp only[zIG,zSn,rn]<;>rfl
theorem zSe(u:Y):zHt u=
some (V.mk 2 0 u []):=by simp only[zHt,zR9,rn]<;>rfl
def zAU:Nat->Y->Option Y
 |0,_=>none
 |n0+1,u=>
  bif (decide ((u.length:Int)>0))then((idx u 0).bind λJ=>
  bif ((J.toNat:Int)==0)then((cutI u 1 (u.length:Int)).bind λI=>
  zAU n0 I)else
  some u)else
  some u
theorem zM7:∀n q,lpn (λk (q:Y)=>(zEC q).run (Env.nil.cons k)) n q=zAU n q:=zBG (g:=λn (q:Y)=>zAU n q) (λ_=>rfl) λn q=>by simp only[zEC,rn]<;>rfl
theorem zQ0(I:Int):zBX I=
(zAD I 8).bind λu=>
zAU (u.1.length+1) u.1:=by simp only[zBX,zLO,rn,zM7]<;>rfl
def zA0(I:Bool)(J:Bool)(u:Bool):Option Bool:=
bif I then(bif J then(some u)else
some false)else
some false
theorem zO7(I:Bool)(J:Bool)(u:Bool):(zEl I J u).run Env.nil=zA0 I J u:=by simp only[zEl,rn]<;>rfl
theorem zTK(u:V):zDu u=
bif (u.k==1)then(bif (decide (u.n>=0))then(zA0 (decide (u.n<=4611686018427387904)) ((u.b.length:Int)==0) ((u.l.length:Int)==0))else
zA0 false ((u.b.length:Int)==0) ((u.l.length:Int)==0))else
bif (u.k==2)then(zA0 (u.n==0) (decide ((u.b.length:Int)<=1048576)) ((u.l.length:Int)==0))else
bif (u.k==3)then(zA0 (u.n==0) ((u.b.length:Int)==0) (decide ((u.l.length:Int)<=4096)))else
some false:=by simp only[zDu,zMf,rn,zO7]<;>rfl
def zCA(u:Int):Option (Int×Bool):=
some (u,true)
theorem zKu(u:Int):(zDE u).run Env.nil=zCA u:=by simp only[zDE,rn]<;>rfl
def yU(k1:Int->Option (Int×Bool))(U:V)(self:V->Int->Int->Option (Int×Bool))(W:Int)(p2:Int):Nat->Int->Int->Option (Int×Bool)
 |0,_,_=>none
 |n0+1,I,u=>
  bif (decide (u<(U.l.length:Int)))then((idx U.l u).bind λZ=>
  (self Z (wi (W-I)) (wi (p2-1))).bind λJ=>
  bif (!J.2)then(some (0,false))else
  yU k1 U self W p2 n0 (wi (I+J.1)) (wi (u+1)))else
  k1 I
theorem zKr(k1:Int->Option (Int×Bool))(U:V)(self:V->Int->Int->Option (Int×Bool))(I:Int)(J:Int)(u:(zAp self)):∀n q,lpn (λk (q:Int×Int)=>(zDD U self I J u q.1 q.2).run ((Env.nil.cons k1).cons k)) n q=yU k1 U self I J n q.1 q.2:=zBG (g:=λn (q:Int×Int)=>yU k1 U self I J n q.1 q.2) (λ_=>rfl) λn q=>by simp only[zDD,rn]<;>rfl
theorem zIw(U:Nat)(u:V)(J:Int)(I:Int):zAK (U+1) u J I=
(zDu u).bind λZ=>
bif (!Z)then(some (0,false))else
bif (decide (J<0))then(some (0,false))else
bif (decide (I<0))then(some (0,false))else
bif (u.k==1)then((zBX u.n).bind λW=>
some ((wi (2+(W.length:Int))),true))else
bif (u.k==2)then(some ((wi (4+(u.b.length:Int))),true))else
bif (I==0)then(some (0,false))else
yU zCA u (zAK U) J I (u.l.length+1) 3 0:=by show(zDG (zAK U) (zGy U) u J I).run Env.nil=_;simp only[zDG,rn,zKu,zKr]<;>rfl
theorem zTD(I:V):zDv I=
(zAK (Int.toNat 16+1) I 1048576 16).bind λu=>
bif (!u.2)then(some (0,false))else
bif (decide (u.1>1048576))then(some (0,false))else
some (u.1,true):=by simp only[zDv,zMg,rn]<;>rfl
def zAb(J:V)(self:Y->V->Option Y):Nat->Y->Int->Option Y
 |0,_,_=>none
 |n0+1,I,u=>
  bif (decide (u<(J.l.length:Int)))then((idx J.l u).bind λU=>
  (self I U).bind λZ=>
  zAb J self n0 Z (wi (u+1)))else
  some I
theorem zPK(I:V)(self:Y->V->Option Y)(u:(zCx self)):∀n q,lpn (λk (q:Y×Int)=>(zFk I self u q.1 q.2).run (Env.nil.cons k)) n q=zAb I self n q.1 q.2:=zBG (g:=λn (q:Y×Int)=>zAb I self n q.1 q.2) (λ_=>rfl) λn q=>by simp only[zFk,rn]<;>rfl
theorem zOn(J:Nat)(I:Y)(u:V):zAn (J+1) I u=
bif (u.k==1)then((zBX u.n).bind λx2=>
(appI 1 I [1,(U8 (x2.length:Int))]).bind λx4=>
(appI 1 x4 x2).bind λx6=>
some x6)else
bif (u.k==2)then((zAD (u.b.length:Int) 3).bind λx9=>
(appI 1 I [2]).bind λZ=>
(appI 1 Z x9.1).bind λγ=>
(appI 1 γ u.b).bind λα=>
some α)else
(zAD (u.l.length:Int) 2).bind λβ=>
(appI 1 I [3]).bind λU=>
(appI 1 U β.1).bind λW=>
zAb u (zAn J) (u.l.length+1) W 0:=by show(zGS (zAn J) (zMo J) I u).run Env.nil=_;simp only[zGS,rn,zPK]<;>rfl
def zAl(U:V):Nat->Y->Int->Option Y
 |0,_,_=>none
 |n0+1,J,u=>
  bif (decide (u<(U.l.length:Int)))then((idx U.l u).bind λI=>
  (zAn (V.ht I) J I).bind λZ=>
  zAl U n0 Z (wi (u+1)))else
  some J
theorem zLg(u:V):∀n q,lpn (λk (q:Y×Int)=>(zDf u q.1 q.2).run (Env.nil.cons k)) n q=zAl u n q.1 q.2:=zBG (g:=λn (q:Y×Int)=>zAl u n q.1 q.2) (λ_=>rfl) λn q=>by simp only[zDf,rn]<;>rfl
theorem zPl(u:V):zBt u=
bif (u.k==1)then((zBX u.n).bind λx2=>
(appI 1 [] [1,(U8 (x2.length:Int))]).bind λx4=>
(appI 1 x4 x2).bind λx6=>
some x6)else
bif (u.k==2)then((zAD (u.b.length:Int) 3).bind λx9=>
(appI 1 [] [2]).bind λJ=>
(appI 1 J x9.1).bind λα=>
(appI 1 α u.b).bind λZ=>
some Z)else
(zAD (u.l.length:Int) 2).bind λW=>
(appI 1 [] [3]).bind λI=>
(appI 1 I W.1).bind λU=>
zAl u (u.l.length+1) U 0:=by simp only[zBt,zJc,rn,zLg]<;>rfl
theorem zPR(u:V):zBp u=
(zDv u).bind λI=>
bif (!I.2)then(some ([],2))else
(zBt u).bind λJ=>
some (J,0):=by simp only[zBp,zJr,rn]<;>rfl
theorem zRk(I:Y):zC6 I=
(strB I).bind λJ=>
(zCy J).bind λu=>
some (V.mk u.k u.n u.b []):=by simp only[zC6,zKg,rn]<;>rfl
def yZ(Z:zD)(x5:V)(y7:List V):Option (Y×Int):=
(zC1 Z.Err).bind λW=>
(zC1 Z.Version).bind λJ=>
(zCy Z.Data).bind λu=>
(zIz [(V.mk W.k W.n [] []),(V.mk J.k J.n [] []),(V.mk u.k u.n u.b []),(V.mk x5.k x5.n [] y7)]).bind λI=>
(zBp (V.mk I.k I.n [] I.l)).bind λU=>
some (U.1,U.2)
theorem zHH(J:zD)(u:V)(I:List V):(zBz J u I).run Env.nil=yZ J u I:=by simp only[zBz,rn]<;>rfl
def yE(k1:(List V)->Option (Y×Int))(Z:zD):Nat->List V->Int->Option (Y×Int)
 |0,_,_=>none
 |n0+1,J,I=>
  bif (decide (I<(Z.Keys.length:Int)))then((idx Z.Keys I).bind λW=>
  (zC6 W).bind λu=>
  (appI 64 J [(V.mk u.k u.n u.b [])]).bind λU=>
  yE k1 Z n0 U (wi (I+1)))else
  k1 J
theorem zHR(k1:(List V)->Option (Y×Int))(u:zD):∀n q,lpn (λk (q:(List V)×Int)=>(zBv u q.1 q.2).run ((Env.nil.cons k1).cons k)) n q=yE k1 u n q.1 q.2:=zBG (g:=λn (q:(List V)×Int)=>yE k1 u n q.1 q.2) (λ_=>rfl) λn q=>by simp only[zBv,rn]<;>rfl
theorem zJ5(u:zD):zAr u=
bif (decide (u.Err<0))then(some ([],2))else
bif (decide (u.Err>255))then(some ([],2))else
bif (decide (u.Version<0))then(some ([],2))else
bif (decide (u.Version>2305843009213693952))then(some ([],2))else
(zCU).bind λI=>
yE (yZ u I) u (u.Keys.length+1) [] 0:=by simp only[zAr,zEp,rn,zHH,zHR]<;>rfl
def zBB(I:V)(u:V)(U:V)(J:List Y):Option (zD×Int):=
some ((zD.mk I.n u.n U.b J),0)
theorem zHv(I:V)(u:V)(U:V)(J:List Y):(zCI I u U J).run Env.nil=zBB I u U J:=by simp only[zCI,rn]<;>rfl
def yI(k1:(List Y)->Option (zD×Int))(u:V):Nat->List Y->Int->Option (zD×Int)
 |0,_,_=>none
 |n0+1,U,I=>
  bif (decide (I<(u.l.length:Int)))then((idx u.l I).bind λJ=>
  bif (J.k !=2)then(some ((zD.mk 0 0 [] []),11))else
  (appI 16 U [J.b]).bind λZ=>
  yI k1 u n0 Z (wi (I+1)))else
  k1 U
theorem zIn(k1:(List Y)->Option (zD×Int))(u:V):∀n q,lpn (λk (q:(List Y)×Int)=>(zCP u q.1 q.2).run ((Env.nil.cons k1).cons k)) n q=yI k1 u n q.1 q.2:=zBG (g:=λn (q:(List Y)×Int)=>yI k1 u n q.1 q.2) (λ_=>rfl) λn q=>by simp only[zCP,rn]<;>rfl
theorem zLT(p0:Y):qV p0=
(zCo p0).bind λx1=>
bif (x1.2 !=0)then(some ((zD.mk 0 0 [] []),x1.2))else
(zCs x1.1 [1,1,2,3]).bind λu=>
bif (!u.2)then(some ((zD.mk 0 0 [] []),11))else
(idx u.1 0).bind λx7=>
bif (decide (x7.n>255))then(some ((zD.mk 0 0 [] []),11))else
(idx u.1 1).bind λJ=>
bif (decide (J.n>2305843009213693952))then(some ((zD.mk 0 0 [] []),11))else
(idx u.1 0).bind λW=>
(idx u.1 1).bind λU=>
(idx u.1 2).bind λZ=>
(idx u.1 3).bind λI=>
yI (zBB W U Z) I (I.l.length+1) [] 0:=by simp only[qV,zFN,rn,zHv,zIn]<;>rfl
def zDk(W:zD)(y7:List V):Option (Y×Int):=
(zIG W.Err).bind λx8=>
(zIG W.Version).bind λU=>
(zHt W.Data).bind λI=>
(zLL y7).bind λJ=>
(zLL [(V.mk x8.k x8.n [] []),(V.mk U.k U.n [] []),(V.mk I.k I.n I.b []),(V.mk J.k J.n [] J.l)]).bind λu=>
(zBF (V.ht (V.mk u.k u.n [] u.l)) (V.mk u.k u.n [] u.l)).bind λZ=>
bif (decide ((Z.length:Int)>1048576))then(some ([],2))else
some (Z,0)
theorem zPh(I:zD)(u:List V):(zFc I u).run Env.nil=zDk I u:=by simp only[zFc,rn]<;>rfl
def zBm(k1:(List V)->Option (Y×Int))(Z:zD):Nat->List V->Int->Int->Option (Y×Int)
 |0,_,_,_=>none
 |n0+1,U,J,u=>
  bif (decide (u<(Z.Keys.length:Int)))then((idx Z.Keys u).bind λI=>
  bif (decide ((wi (J+(I.length:Int)))>1048576))then(some ([],2))else
  (idx Z.Keys u).bind λβ=>
  (strB β).bind λW=>
  (zHt W).bind λx32=>
  (appI 64 U [(V.mk x32.k x32.n x32.b [])]).bind λα=>
  zBm k1 Z n0 α (wi (J+(I.length:Int))) (wi (u+1)))else
  k1 U
theorem zP4(k1:(List V)->Option (Y×Int))(u:zD):∀n q,lpn (λk (q:(List V)×Int×Int)=>(zFf u q.1 q.2.1 q.2.2).run ((Env.nil.cons k1).cons k)) n q=zBm k1 u n q.1 q.2.1 q.2.2:=zBG (g:=λn (q:(List V)×Int×Int)=>zBm k1 u n q.1 q.2.1 q.2.2) (λ_=>rfl) λn q=>by simp only[zFf,rn]<;>rfl
theorem zTp(u:zD):zEo u=
bif (decide (u.Err<0))then(some ([],2))else
bif (decide (u.Err>255))then(some ([],2))else
bif (decide (u.Version<0))then(some ([],2))else
bif (decide (u.Version>2305843009213693952))then(some ([],2))else
bif (decide ((u.Data.length:Int)>1048576))then(some ([],2))else
bif (decide ((u.Keys.length:Int)>4096))then(some ([],2))else
zBm (zDk u) u (u.Keys.length+1) [] 0 0:=by simp only[zEo,zO8,rn,zPh,zP4]<;>rfl
def zB8(I:V)(u:V)(U:V)(J:List Y):Option (zD×Int):=
some ((zD.mk I.n u.n U.b J),0)
theorem zLB(I:V)(u:V)(U:V)(J:List Y):(zDL I u U J).run Env.nil=zB8 I u U J:=by simp only[zDL,rn]<;>rfl
def yS(k1:(List Y)->Option (zD×Int))(J:(V×Int)):Nat->List Y->Int->Option (zD×Int)
 |0,_,_=>none
 |n0+1,I,u=>
  (idx J.1.l 3).bind λZ=>
  bif (decide (u<(Z.l.length:Int)))then((idx J.1.l 3).bind λU=>
  (idx U.l u).bind λα=>
  bif (α.k !=2)then(some ((zD.mk 0 0 [] []),11))else
  (idx J.1.l 3).bind λW=>
  (idx W.l u).bind λx32=>
  (appI 16 I [x32.b]).bind λβ=>
  yS k1 J n0 β (wi (u+1)))else
  k1 I
theorem zK0(k1:(List Y)->Option (zD×Int))(u:(V×Int)):∀n q,lpn (λk (q:(List Y)×Int)=>(zDO u q.1 q.2).run ((Env.nil.cons k1).cons k)) n q=yS k1 u n q.1 q.2:=zBG (g:=λn (q:(List Y)×Int)=>yS k1 u n q.1 q.2) (λ_=>rfl) λn q=>by simp only[zDO,rn]<;>rfl
theorem zOi(W:Y):zCS W=
(zD1 W).bind λu=>
bif (u.2 !=0)then(some ((zD.mk 0 0 [] []),u.2))else
(zE9 u.1 [1,1,2,3]).bind λx4=>
bif (!x4)then(some ((zD.mk 0 0 [] []),11))else
(idx u.1.l 0).bind λx7=>
bif (decide (x7.n>255))then(some ((zD.mk 0 0 [] []),11))else
(idx u.1.l 1).bind λI=>
bif (decide (I.n>2305843009213693952))then(some ((zD.mk 0 0 [] []),11))else
(idx u.1.l 0).bind λZ=>
(idx u.1.l 1).bind λJ=>
(idx u.1.l 2).bind λU=>
yS (zB8 Z J U) u (5002) [] 0:=by simp only[zCS,zH3,rn,zLB,zK0]<;>rfl
def yV(I:zD)(U:zD):Nat->Int->Option Bool
 |0,_=>none
 |n0+1,u=>
  bif (decide (u<(I.Keys.length:Int)))then((idx I.Keys u).bind λZ=>
  (idx U.Keys u).bind λJ=>
  bif (!(Z==J))then(some false)else
  yV I U n0 (wi (u+1)))else
  some true
theorem zLM(I:zD)(u:zD):∀n q,lpn (λk (q:Int)=>(zC8 I u q).run (Env.nil.cons k)) n q=yV I u n q:=zBG (g:=λn (q:Int)=>yV I u n q) (λ_=>rfl) λn q=>by simp only[zC8,rn]<;>rfl
theorem zNy(u:zD)(I:zD):zAt u I=
bif (u.Err !=I.Err)then(some false)else
bif (u.Version !=I.Version)then(some false)else
(zEW u.Data I.Data).bind λJ=>
bif (!J)then(some false)else
bif ((u.Keys.length:Int) !=(I.Keys.length:Int))then(some false)else
yV u I (u.Keys.length+1) 0:=by simp only[zAt,zE6,rn,zLM]<;>rfl
def zAC(U:Y)(Z:(Bool×Hp)):Option (Bool×Hp):=
(qV U).bind λu=>
(zCS U).bind λI=>
bif (u.2==I.2)then((zAt u.1 I.1).bind λJ=>
some (J,Z.2))else
some (false,Z.2)
theorem zHe(I:Y)(u:(Bool×Hp)):(zB0 I u).run Env.nil=zAC I u:=by simp only[zB0,rn]<;>rfl
def yM(Z:zD)(u:(Bool×Hp))(p1:Y):Option (Bool×Hp):=
(zAr Z).bind λJ=>
(zEo Z).bind λx9=>
bif (J.2 !=x9.2)then(some (false,u.2))else
(zEW J.1 x9.1).bind λU=>
bif (!U)then(some (false,u.2))else
bif (J.2==0)then((qV J.1).bind λI=>
bif (I.2 !=0)then(some (false,u.2))else
(zAt I.1 Z).bind λW=>
bif (!W)then(some (false,u.2))else
zAC p1 u)else
zAC p1 u
theorem zHE(J:zD)(I:(Bool×Hp))(u:Y):(zB2 J I u).run Env.nil=yM J I u:=by simp only[zB2,rn,zHe]<;>rfl
def yG(k1:Unit->Option (Bool×Hp))(J:zD)(U:(Bool×Hp)):Nat->Int->Option (Bool×Hp)
 |0,_=>none
 |n0+1,u=>
  bif (decide (u<(J.Keys.length:Int)))then((idx J.Keys u).bind λI=>
  bif (decide ((I.length:Int)>100))then(some (true,U.2))else
  yG k1 J U n0 (wi (u+1)))else
  k1 ()
theorem zHS(k1:Unit->Option (Bool×Hp))(I:zD)(u:(Bool×Hp)):∀n q,lpn (λk (q:Int)=>(zB1 I u q).run ((Env.nil.cons k1).cons k)) n q=yG k1 I u n q:=zBG (g:=λn (q:Int)=>yG k1 I u n q) (λ_=>rfl) λn q=>by simp only[zB1,rn]<;>rfl
theorem zJw(I:zD)(J:Y)(W:Hp):zAq I J W=
(zEm W).bind λu=>
bif (!u.1)then(some (false,u.2))else
bif (decide ((I.Data.length:Int)>2000))then(some (true,u.2))else
bif (decide ((I.Keys.length:Int)>50))then(some (true,u.2))else
bif (decide ((J.length:Int)>5000))then(some (true,u.2))else
yG (λq=>yM I u J) I u (I.Keys.length+1) 0:=by simp only[zAq,zEd,rn,zHE,zHS]<;>rfl
end
end Go.Proofs.YtocolhfjpadaoaaGreatDoor
namespace Go.Proofs.YtocolhfjpadaoaaGreatDoor
namespace V
def deep:V->Nat
 | .mk k _ _ l=>if k=3 then dm l 1 else 0
where dm:List V->Nat->Nat
 |[],d=>d
 |x::r,d=>dm r (max d (deep x+1))
theorem dm_le:∀(l:List V) (d m:Nat),(∀x∈l,deep x+1<=m)->d<=m->deep.dm l d<=m
 |[],_,_,_,h=>h
 |x::r,d,m,hl,h=>by rw[deep.dm];exact dm_le r _ m (λy hy=>hl y (vM _ hy)) (Nat.max_le.2 ⟨h,hl x sN⟩)
theorem deep_eq(v:V)(h:v.k=3):v.deep=deep.dm v.l 1:=by cases v;simp[V.k]at h;simp[deep,h,V.l]
theorem deep_zero(v:V)(h:¬v.k=3):v.deep=0:=by cases v;simp[k]at h;simp[deep,h]
end V
end Go.Proofs.YtocolhfjpadaoaaGreatDoor
namespace Go.Proofs.YtocolhfjpadaoaaGreatDoor
namespace V
def pureB(v:V):Bool:=
 if v.k=1 then decide (0<=v.n)&&decide (v.n<=4611686018427387904)&&v.b.isEmpty&&v.l.isEmpty
 else if v.k=2 then decide (v.n=0)&&decide (v.b.length<=1048576)&&v.l.isEmpty
 else if v.k=3 then decide (v.n=0)&&v.b.isEmpty&&decide (v.l.length<=4096)
 else false
def flat(v:V):Bool:=
 if v.k=1 then decide (0<=v.n)&&decide (v.n<=4611686018427387904)&&v.b.isEmpty&&v.l.isEmpty
 else if v.k=2 then decide (v.n=0)&&v.l.isEmpty
 else decide (v.k=3)&&decide (v.n=0)&&v.b.isEmpty&&decide (v.l.length<=4096)
def rpure:V->Bool
 | .mk k n b l=>flat (.mk k n b l)&&(if k=3 then all l else true)
where all:List V->Bool
 |[]=>true
 |x::r=>rpure x&&all r
def sz:V->Nat
 | .mk k n b l=>if k=1 then 2+wid n.toNat else if k=2 then 4+b.length else 3+szs l
where szs:List V->Nat
 |[]=>0
 |x::r=>sz x+szs r
def enc:V->List UInt8
 | .mk k n b l=>if k=1 then 1::UInt8.ofNat (wid n.toNat)::zCq n.toNat else if k=2 then 2::(be 3 b.length++b)else 3::(be 2 l.length++encs l)
where encs:List V->List UInt8
 |[]=>[]
 |x::r=>enc x++encs r
def mF:V->Int->Nat->Option Nat
 | .mk k n b l,u,d=>
  if pureB (.mk k n b l)=false\/u<0 then none
  else if k=1 then some (2+wid n.toNat)else if k=2 then some (4+b.length)
  else if d=0 then none else mloop l u (d-1) 3
where mloop:List V->Int->Nat->Nat->Option Nat
 |[],_,_,s=>some s
 |x::r,u,d,s=>match mF x (u-s) d with|none=>none|some m=>mloop r u d (s+m)
theorem all_iff:∀l:List V,rpure.all l=true↔∀x∈l,rpure x=true
 |[]=>by simp[rpure.all]
 |x::r=>by simp[rpure.all,all_iff r]
theorem sz_le_szs:∀(l:List V) (x:V),x∈l->sz x<=sz.szs l
 |y::r,x,h=>by simp only[sz.szs];rcases vI.1 h with rfl|h;omega;have:=sz_le_szs r x h;omega
theorem zTU{v:V}(h:v.pureB=true):v.flat=true:=by unfold pureB at h;unfold flat;grind
theorem zS5{v:V}(h:v.flat=true)(hb:v.b.length<=1048576):v.pureB=true:=by unfold flat at h;unfold pureB;grind
theorem zVM:∀(d:Nat) (v:V) (u:Int) (s:Nat),mF v u d=some s->s=sz v/\rpure v=true/\deep v<=d
 |d,.mk k n b l,u,s=>by intro h;rw[mF]at h;split at h;cases h;(rename_i hc;(have hp:pureB (.mk k n b l)=true:=by grind);have hf:=zTU hp;by_cases J:k=1;(rw[if_pos J]at h;(have I:¬k=3:=by omega);refine⟨by rw[sz,if_pos J];exact(Option.some.inj h).symm,by rw[rpure,hf,if_neg I];rfl,by rw[deep,if_neg I];omega⟩);(rw[if_neg J]at h;by_cases U:k=2;(rw[if_pos U]at h;(have I:¬k=3:=by omega);refine⟨by rw[sz,if_neg J,if_pos U];exact(Option.some.inj h).symm,by rw[rpure,hf,if_neg I];rfl,by rw[deep,if_neg I];omega⟩);(rw[if_neg U]at h;(have I:k=3:=by unfold flat at hf;rw[if_neg (show¬(V.mk k n b l).k=1 from J),if_neg (show¬(V.mk k n b l).k=2 from U)]at hf;simp at hf;exact hf.1.1.1);split at h;cases h;(obtain⟨a1,a2,a3⟩:=mloop_sound (d-1) l u 3 s 1 h (by omega);refine⟨by rw[sz,if_neg J,if_neg U,a1],by rw[rpure,hf,if_pos I,a2];rfl,?_⟩;rw[deep,if_pos I];omega))))
where
 mloop_sound:∀(d:Nat) (l:List V) (u:Int) (a s e:Nat),mF.mloop l u d a=some s->e<=d+1->s=a+sz.szs l/\rpure.all l=true/\deep.dm l e<=d+1
  |d,[],u,a,s,e=>by intro h W;rw[mF.mloop]at h;exact⟨by rw[sz.szs];exact(Option.some.inj h).symm,rfl,W⟩
  |d,x::r,u,a,s,e=>by intro h W;rw[mF.mloop]at h;(cases Z:mF x (u-a) d with|none=>grind|some m=>rw[Z]at h;obtain⟨b1,b2,b3⟩:=zVM d x (u-a) m Z;obtain⟨c1,c2,c3⟩:=mloop_sound d r u (a+m) s (max e (deep x+1)) h (by omega);exact⟨by rw[c1,b1,sz.szs];omega,by rw[rpure.all,b2,c2];rfl,by rw[deep.dm];exact c3⟩)
theorem flat_kind{v:V}(h:v.flat=true)(u:¬v.k=1)(I:¬v.k=2):v.k=3/\v.n=0/\v.b=[]/\v.l.length<=4096:=by unfold flat at h;grind
theorem mF_full:∀(d:Nat) (v:V) (u:Int),rpure v=true->deep v<=d->(sz v:Int)<=u->u<=1048576->mF v u d=some (sz v)
 |d,.mk k n b l,u=>by intro hp hd W hr;rw[rpure,wI]at hp;obtain⟨hf,I⟩:=hp;(have hb:b.length<=1048576:=by by_cases J:k=1;(unfold flat at hf;rw[if_pos (show(V.mk k n b l).k=1 from J)]at hf;simp at hf;have:b=[]:=hf.1.2;grind);(by_cases U:k=2;(rw[sz,if_neg J,if_pos U]at W;omega);(have:=(flat_kind hf J U).2.2.1;have:b=[]:=this;grind)));have γ:=zS5 hf hb;rw[mF,if_neg (by rw[γ];simp;omega)];by_cases J:k=1;rw[if_pos J,sz,if_pos J];(rw[if_neg J];by_cases U:k=2;rw[if_pos U,sz,if_neg J,if_pos U];(rw[if_neg U];have h3:k=3:=(flat_kind hf J U).1;rw[if_pos h3]at I;have α:=hd;rw[deep,if_pos h3]at α;have δ:=dm_ge l 1;rw[if_neg (by omega)];have β:=W;rw[sz,if_neg J,if_neg U]at β;have:=mloop_full (d-1) l u 3 1 I (by omega) (by omega) hr;rw[this,sz,if_neg J,if_neg U]))
where
 dm_ge:∀(l:List V) (e:Nat),e<=deep.dm l e
  |[],_=>wL _
  |x::r,e=>vR (Nat.le_max_left _ _) (by rw[deep.dm];exact dm_ge r _)
 mloop_full:∀(d:Nat) (l:List V) (u:Int) (a e:Nat),rpure.all l=true->deep.dm l e<=d+1->((a+sz.szs l:Nat):Int)<=u->u<=1048576->mF.mloop l u d a=some (a+sz.szs l)
  |d,[],u,a,e=>by intro _ _ _ _;rw[mF.mloop,sz.szs];rfl
  |d,x::r,u,a,e=>by intro I Z W hr;rw[rpure.all,wI]at I;rw[deep.dm]at Z;rw[sz.szs]at W;(have hx:deep x<=d:=by have:=dm_ge r (max e (deep x+1));omega);have J:=mF_full d x (u-a) I.1 hx (by omega) (by omega);rw[mF.mloop,J];have U:=mloop_full d r u (a+sz x) (max e (deep x+1)) I.2 Z (by omega) hr;show mF.mloop r u d (a+sz x)=_;rw[U,sz.szs];grind
def right(v:V):Bool:=rpure v&&decide (deep v<=16)&&decide (sz v<=1048576)
def sizeF(v:V):Option Nat:=match mF v 1048576 16 with
 |some s=>if s<=1048576 then some s else none
 |none=>none
theorem sizeF_eq(v:V):sizeF v=if right v=true then some (sz v)else none:=by by_cases h:right v=true;(rw[if_pos h];unfold right at h;simp at h;have:=mF_full 16 v 1048576 h.1.1 h.1.2 (by omega) (by omega);rw[sizeF,this];grind);(rw[if_neg h];unfold sizeF;(cases u:mF v 1048576 16 with|none=>rfl|some s=>obtain⟨a,b,c⟩:=zVM 16 v 1048576 s u;show(if s<=1048576 then some s else none)=none;rw[if_neg];intro I;apply h;unfold right;grind))
theorem enc_length:∀v:V,(enc v).length=sz v
 | .mk k n b l=>by rw[enc,sz];split;simp[zLW];omega;(split;simp[qP];omega;simp[qP,encs_length l];omega)
where
 encs_length:∀l:List V,(enc.encs l).length=sz.szs l
  |[]=>rfl
  |x::r=>by rw[enc.encs,sz.szs,wP,enc_length x,encs_length r]
theorem rpure_flat{v:V}(h:rpure v=true):v.flat=true:=by cases v;rw[rpure,wI]at h;exact h.1
theorem rpure_items{v:V}(h:rpure v=true)(hk:v.k=3):∀x∈v.l,rpure x=true:=by(cases v with|mk k n b l=>rw[rpure,wI,if_pos (show k=3 from hk)]at h;exact(all_iff l).1 h.2)
theorem mF_eq(v:V)(u:Int)(d:Nat):mF v u d=if pureB v=false\/u<0 then none else if v.k=1 then some (2+wid v.n.toNat)else if v.k=2 then some (4+v.b.length)
 else if d=0 then none else mF.mloop v.l u (d-1) 3:=by
 cases v
 rw[mF]
 rfl
theorem enc_eq(v:V):enc v=if v.k=1 then 1::UInt8.ofNat (wid v.n.toNat)::zCq v.n.toNat else if v.k=2 then 2::(be 3 v.b.length++v.b)else 3::(be 2 v.l.length++enc.encs v.l):=by cases v;rw[enc];rfl
end V
end Go.Proofs.YtocolhfjpadaoaaGreatDoor
namespace Go.Proofs.YtocolhfjpadaoaaGreatDoor
open Go Go.RowKit
variable {P:Program}{w0:World}{w:World}{m0:Mem}{m:Mem}{o0:OwnM}{o:OwnM}{G:GD}{pins:List Nat}{N:Nat}{a:Act}{op:Oper}{S:Nat->A}{M:Nat->A}{L:SL}{v:Value}{W:World}{Q:Mem}{X:OwnM}
theorem zKs(a b:List UInt8)(hl:a.length=b.length)(hb:a.length<4611686018427387904):∀(n i:Nat),i<=a.length->a.length-i<n->zCY a b n (i:Int)=some (a.drop i==b.drop i)
 |0,i,_,h=>by omega
 |n+1,i,Z,h=>by unfold zCY;by_cases u:i<a.length;((have I:i<b.length:=by omega);rw[zG (yJ (by omega)),zAQ u,wA,zAQ I,wA,zAS (by omega),zKs a b hl hb n (i+1) (by omega) (by omega)];have U:a.drop i=a[i]::a.drop (i+1):=vH u;have hb:b.drop i=b[i]::b.drop (i+1):=vH I;rw[U,hb];generalize a[i]=x;generalize b[i]=y;by_cases J:x=y;(subst J;rw[zE (zF5 rfl)];simp);(rw[zG (zIa (λh=>J (UInt8.toNat_inj.1 (by omega))))];simp[J]));(rw[zE (yC (by omega)),uV (by omega),uV (by omega)];rfl)
theorem zLv(a b:List UInt8)(hb:a.length<4611686018427387904):zEW a b=some (a==b):=by rw[zWC];by_cases hl:a.length=b.length;(rw[zE (zF5 (by omega))];exact zKs a b hl hb _ 0 (wY _) (by omega));(rw[zG (zIa (by omega))];congr 1;symm;rw[beq_eq_false_iff_ne];exactλe=>hl (by rw[e]))
theorem zQg(m:Nat):∀(n k:Nat),k<n->wid m<=k->zAU n (be k m)=some (zCq m)
 |0,k,h,_=>by omega
 |n+1,k,h,U=>by unfold zAU;rw[qP];by_cases J:k=wid m;(subst J;(cases hk:wid m with|zero=>rw[zE (yC (by omega))];unfold zCq;rw[hk]|succ j=>obtain⟨c,I,u⟩:=zVN j m hk;rw[zG (yJ (by omega)),I,zNb,wA];rw[zE (zCC (λe=>u (UInt8.toNat_inj.1 (by rw[show(0:UInt8).toNat=0 from rfl];omega))))];unfold zCq;rw[hk,I]));(obtain⟨j,rfl⟩:∃j,k=j+1:=⟨k-1,by omega⟩;rw[zG (yJ (by omega)),be_zero j m (by omega),zNb,wA,zG (zBu (a:=((0:UInt8).toNat:Int)) (b:=0) rfl)];have:=zTZ (l:=0::be j m) (n:=1) (by simp);rw[show(0::be j m).length=j+1 by simp[qP]]at this;rw[show((j+1:Nat):Int)=((j+1:Nat):Int)from rfl]at this;rw[show cutI (0::be j m) 1 ((j+1:Nat):Int)=some (be j m)from this,wA];exact zQg m n j (by omega) (by omega))
theorem zUY(n:Int)(h0:0<=n)(I:n<=4611686018427387904):zBX n=some (zCq n.toNat):=by have u:=zGj (n:=n.toNat) (by omega);rw[zQ0];unfold zAD;rw[if_pos ⟨h0,I,by omega,by omega,(zG5 8 n.toNat).2 u⟩,wA];show zAU ((be 8 n.toNat).length+1) (be 8 n.toNat)=_;rw[qP];exact zQg n.toNat 9 8 (by omega) u
theorem n_pure_j1(a b c:Bool):zA0 a b c=some (a&&(b&&c)):=by unfold zA0;rw[bif_and,bif_and]
theorem n_pure(v:V):zDu v=some v.pureB:=by rw[zTK];unfold V.pureB;simp only[n_pure_j1,len_zero];by_cases I:v.k=1;(rw[zG (zBu I),if_pos I];cases u:decide (v.n>=0);((have:¬0<=v.n:=by simpa using u);simp[this]);((have:0<=v.n:=by simpa using u);simp[this,Bool.and_assoc]));(rw[zE (zCC I),if_neg I];by_cases u:v.k=2;(rw[zG (zBu u),if_pos u,show decide ((v.b.length:Int)<=1048576)=decide (v.b.length<=1048576)from len_le v.b 1048576,Bool.and_assoc];rfl);(rw[zE (zCC u),if_neg u];by_cases J:v.k=3;(rw[zG (zBu J),if_pos J,show decide ((v.l.length:Int)<=4096)=decide (v.l.length<=4096)from len_le v.l 4096,Bool.and_assoc];rfl);rw[zE (zCC J),if_neg J]))
theorem zI6(n:Nat):(zCq n).length=wid n:=qP _ _
theorem zNi{v:V}(h:v.pureB=true)(hk:v.k=1):0<=v.n/\v.n<=4611686018427387904:=by unfold V.pureB at h;rw[if_pos hk]at h;simp at h;omega
theorem zNY{v:V}(h:v.pureB=true):v.b.length<=1048576/\v.l.length<=4096:=by unfold V.pureB at h;split at h;simp at h;simp[h];split at h;simp at h;simp[h];split at h;simp at h;simp[h];cases h
def msO:Option Nat->Int×Bool
 |some s=>((s:Int),true)
 |none=>(0,false)
theorem zUs(d:Nat)(I:∀(v:V) (u:Int) (s:Nat),V.mF v u d=some s->0<=u/\(s:Int)<=u+1048580):∀(l:List V) (u:Int) (a s:Nat),(a:Int)<=u+1048580->V.mF.mloop l u d a=some s->(s:Int)<=u+1048580
 |[],u,a,s,U,h=>by rw[V.mF.mloop]at h;injection h with h;omega
 |x::r,u,a,s,U,h=>by rw[V.mF.mloop]at h;split at h;cases h;(rename_i m J;have:=(I x (u-a) m J).2;exact zUs d I r u (a+m) s (by omega) h)
theorem mF_bd:∀(d:Nat) (v:V) (u:Int) (s:Nat),V.mF v u d=some s->0<=u/\(s:Int)<=u+1048580:=by intro d;(induction d with|zero=>intro v u s h;rw[V.mF_eq]at h;split at h;cases h;rename_i I;(have hp:v.pureB=true:=by cases hb:v.pureB<;>simp[hb]at I⊢);(have J:0<=u:=by omega);have hl:=zNY hp;refine⟨J,?_⟩;split at h;(rename_i hk;have:=zGj (n:=v.n.toNat) (by have:=zNi hp hk;omega);injection h with h;omega);(split at h;injection h with h;omega;simp at h)|succ d U=>intro v u s h;rw[V.mF_eq]at h;split at h;cases h;rename_i I;(have hp:v.pureB=true:=by cases hb:v.pureB<;>simp[hb]at I⊢);(have J:0<=u:=by omega);have hl:=zNY hp;refine⟨J,?_⟩;split at h;(rename_i hk;have:=zGj (n:=v.n.toNat) (by have:=zNi hp hk;omega);injection h with h;omega);(split at h;injection h with h;omega;(rw[if_neg (by omega)]at h;exact zUs d U v.l u 3 s (by omega) h)))
theorem zMY(v:V)(u:Int)(d:Nat)(U:u<=1048576)(W:0<=u)(hv:v.l.length<=4096)(self:V->Int->Int->Option (Int×Bool))(hd:d<=1000)
(I:∀x∈v.l,∀Z:Int,Z<=1048576-> -9000000000<=Z->self x Z (d:Int)=some (msO (x.mF Z d))):
 ∀(n i s:Nat),i<=v.l.length->v.l.length-i<n->(s:Int)<=u+1048580->yU zCA v self u ((d+1:Nat):Int) n (s:Int) (i:Int)=some (msO (V.mF.mloop (v.l.drop i) u d s))
 |0,i,s,_,h,_=>by omega
 |n+1,i,s,hi,h,hs=>by unfold yU;by_cases J:i<v.l.length;(have hx:=uC J;rw[zG (yJ (by omega)),zAQ J,wA,zDg (z:=u-s) (by omega) (by omega),zDg (z:=((d+1:Nat):Int)-1) (by omega) (by omega),show((d+1:Nat):Int)-1=(d:Int) by omega,I _ hx _ (by omega) (by omega),wA,vH J,V.mF.mloop];(cases hm:V.mF v.l[i] (u-s) d with|none=>rfl|some m=>have:=(mF_bd d _ _ m hm).2;show yU zCA v self u _ n (wi ((s:Int)+(m:Int))) (wi ((i:Int)+1))=_;rw[zAS (by omega),zDg (by omega) (by omega),show(s:Int)+(m:Int)=((s+m:Nat):Int) by omega];exact zMY v u d U W hv self hd I n (i+1) (s+m) (by omega) (by omega) (by omega)));(rw[zE (yC (by omega)),uV (by omega),V.mF.mloop];rfl)
theorem n_measure:∀(d:Nat) (v:V) (u:Int),d<=1000->u<=1048576-> -9000000000<=u->zAK (d+1) v u (d:Int)=some (msO (v.mF u d)):=by intro d;(induction d with|zero=>intro v u _ W Z;rw[zIw];rw[n_pure,wA,V.mF_eq];(cases hp:v.pureB with|false=>rfl|true=>rw[zE (c:= !true) rfl];by_cases U:u<0;(rw[zG (yJ U),if_pos (.inr U)];rfl);rw[zE (yC U),if_neg (by simp[U]),zE (yC (by omega))];by_cases I:v.k=1;(obtain⟨a,b⟩:=zNi hp I;have:=zGj (n:=v.n.toNat) (by omega);rw[zG (zBu I),if_pos I,zUY _ a b,wA,zI6,zDg (by omega) (by omega)];rfl);(rw[zE (zCC I),if_neg I];by_cases J:v.k=2;(have:=zNY hp;rw[zG (zBu J),if_pos J,zDg (by omega) (by omega)];rfl);(rw[zE (zCC J),if_neg J,zG (zBu (a:=((0:Nat):Int)) (b:=0) rfl),if_pos rfl];rfl)))|succ d ih=>intro v u hd W Z;rw[zIw];rw[n_pure,wA,V.mF_eq];(cases hp:v.pureB with|false=>rfl|true=>rw[zE (c:= !true) rfl];by_cases U:u<0;(rw[zG (yJ U),if_pos (.inr U)];rfl);rw[zE (yC U),if_neg (by simp[U]),zE (yC (by omega))];by_cases I:v.k=1;(obtain⟨a,b⟩:=zNi hp I;have:=zGj (n:=v.n.toNat) (by omega);rw[zG (zBu I),if_pos I,zUY _ a b,wA,zI6,zDg (by omega) (by omega)];rfl);(rw[zE (zCC I),if_neg I];have hl:=zNY hp;by_cases J:v.k=2;(rw[zG (zBu J),if_pos J,zDg (by omega) (by omega)];rfl);(rw[zE (zCC J),if_neg J,zE (zCC (by omega)),if_neg (by omega)];have:=zMY v u d W (by omega) hl.2 (zAK (d+1)) (by omega) (λx _ rm I J=>ih x rm (by omega) I J) (v.l.length+1) 0 3 (wY _) (by omega) (by omega);exact this))))
theorem n_Size(v:V):zDv v=some (if v.right=true then((v.sz:Int),true)else(0,false)):=by rw[zTD];have h:=n_measure 16 v 1048576 (by omega) (by omega) (by omega);have h:zAK (Int.toNat 16+1) v 1048576 16=some (msO (v.mF 1048576 16)):=h;rw[h,wA];have hz:=V.sizeF_eq v;unfold V.sizeF at hz;(cases J:V.mF v 1048576 16 with|none=>rw[J]at hz;(have U:¬v.right=true:=λe=>by rw[if_pos e]at hz;cases hz);rw[if_neg U];rfl|some s=>rw[J]at hz;have hz:(if s<=1048576 then some s else none)=if v.right=true then some v.sz else none:=hz;show(bif !true then _ else bif decide ((s:Int)>1048576)then _ else some ((s:Int),true))=_;rw[zE (c:= !true) rfl];by_cases I:s<=1048576;(rw[zE (yC (by omega))];rw[if_pos I]at hz;by_cases u:v.right=true;(rw[if_pos u]at hz⊢;injection hz with hz;rw[hz]);rw[if_neg u]at hz;cases hz);(rw[zG (yJ (by omega))];rw[if_neg I]at hz;by_cases u:v.right=true;rw[if_pos u]at hz;cases hz;rw[if_neg u]))
theorem U8_nat{k:Nat}(h:k<256):U8 (k:Int)=UInt8.ofNat k:=by unfold U8;congr 1;omega
theorem zTR(l:List V)(i:Nat)(h:i<l.length):V.enc.encs (l.drop i)=l[i].enc++V.enc.encs (l.drop (i+1)):=by rw[vH h,V.enc.encs]
theorem zUt(l:List V)(i:Nat)(h:i<l.length):V.sz.szs (l.drop i)=l[i].sz+V.sz.szs (l.drop (i+1)):=by rw[vH h,V.sz.szs]
theorem zNf(v:V)(self:List UInt8->V->Option Y)(hl:v.l.length<=4096)(u:∀x∈v.l,∀out:List UInt8,out.length+x.sz<=1000000000->self out x=some (out++x.enc)):
 ∀(n i:Nat) (out:List UInt8),i<=v.l.length->v.l.length-i<n->out.length+V.sz.szs (v.l.drop i)<=1000000000->zAb v self n out (i:Int)=some (out++V.enc.encs (v.l.drop i))
 |0,i,out,_,h,_=>by omega
 |n+1,i,out,U,h,J=>by unfold zAb;by_cases I:i<v.l.length;(rw[zUt _ _ I]at J;rw[zG (yJ (by omega)),zAQ I,wA,u _ (uC I) out (by omega),wA,zAS (by omega),zNf v self hl u n (i+1) _ (by omega) (by omega) (by rw[wP,V.enc_length];omega),zTR _ _ I,vE]);rw[zE (yC (by omega)),uV (by omega),V.enc.encs,tT]
theorem n_wput{n k:Nat}(h:n<256^k)(u:1<=k)(I:k<=8)(J:n<=4611686018427387904):zAD (n:Int) (k:Int)=some (be k n,0):=by unfold zAD;rw[if_pos ⟨by omega,by omega,by omega,by omega,by simpa using h⟩];simp
theorem n_wput3{n:Nat}(h:n<16777216):zAD (n:Int) 3=some (be 3 n,0):=n_wput (k:=3) (by omega) (by omega) (by omega) (by omega)
theorem n_wput2{n:Nat}(h:n<65536):zAD (n:Int) 2=some (be 2 n,0):=n_wput (k:=2) (by omega) (by omega) (by omega) (by omega)
theorem n_put:∀(k:Nat) (v:V) (out:List UInt8),v.ht<=k->v.rpure=true->v.sz<=1048576->out.length+v.sz<=1000000000->zAn k out v=some (out++v.enc)
 |0,v,out,h,_,_,_=>absurd v.ht_pos (by omega)
 |k+1,v,out,h,hp,hs,Z=>by rw[zOn];have hf:=V.rpure_flat hp;have I:=V.enc_eq v;have U:=V.enc_length v;by_cases u:v.k=1;(rw[zG (zBu u)];rw[if_pos u]at I;(have W:0<=v.n/\v.n<=4611686018427387904:=by unfold V.flat at hf;rw[if_pos u]at hf;simp at hf;omega);have hw:=zGj (n:=v.n.toNat) (by omega);rw[zUY _ W.1 W.2,wA,zAT (by simp;omega),wA,zAT (by simp[zI6];omega),wA,I,zI6,U8_nat (by omega)];simp);(rw[zE (zCC u)];rw[if_neg u]at I;by_cases J:v.k=2;(rw[zG (zBu J)];rw[if_pos J]at I;(have hb:v.b.length<=1048576:=by rw[I]at U;simp[qP]at U;omega);rw[n_wput3 (by omega),wA,zAT (by simp;omega),wA,zAT (by simp[qP];omega),wA,zAT (by simp[qP];omega),wA,I];simp);(rw[zE (zCC J)];rw[if_neg J]at I;obtain⟨h3,_,_,hl⟩:=V.flat_kind hf u J;have hi:=V.rpure_items hp h3;rw[n_wput2 (by omega),wA,zAT (by simp;omega),wA,zAT (by simp[qP];omega),wA];(have hz:V.sz.szs v.l+3=v.sz:=by(cases v with|mk k n b l=>have u:¬k=1:=u;have J:¬k=2:=J;rw[V.sz,if_neg u,if_neg J];show V.sz.szs l+3=_;omega));have:=zNf v (zAn k) hl (λx hx o Z=>n_put k x o (by have:=V.ht_item v x hx;omega) (hi x hx) (by have:=V.sz_le_szs v.l x hx;omega) Z) (v.l.length+1) 0 (out++[3]++be 2 v.l.length) (wY _) (by omega) (by simp[qP];omega);rw[show(0:Int)=((0:Nat):Int)from rfl,this,I];simp))
theorem zJn(v:V):∀(n:Nat) (o:List UInt8) (i:Int),zAl v n o i=zAb v (λo x=>zAn x.ht o x) n o i
 |0,_,_=>rfl
 |n+1,o,i=>by unfold zAl zAb;simp only[zJn v n]
theorem n_put_n0(v:V)(hp:v.rpure=true)(U:v.sz<=1048576):zBt v=some v.enc:=by(have h:zBt v=zAn (v.ht+1) [] v:=by rw[zPl];rw[zOn];by_cases I:v.k=1;rw[zG (zBu I),zG (zBu I)];(rw[zE (zCC I),zE (zCC I)];by_cases u:v.k=2;rw[zG (zBu u),zG (zBu u)];(rw[zE (zCC u),zE (zCC u)];have hf:=V.rpure_flat hp;obtain⟨h3,_,_,hl⟩:=V.flat_kind hf I u;have Z:=V.rpure_items hp h3;(have hz:V.sz.szs v.l<=1048576:=by(cases v with|mk k n b l=>have I:¬k=1:=I;have u:¬k=2:=u;rw[V.sz,if_neg I,if_neg u]at U;show V.sz.szs l<=_;omega));rw[n_wput2 (by omega),wA,wA,zAT (by simp),wA,wA,zAT (by simp[qP]),wA,wA,zJn];have W:=zNf v (λo x=>zAn x.ht o x) hl (λx hx o J=>n_put x.ht x o (wL _) (Z x hx) (by have:=V.sz_le_szs v.l x hx;omega) J) (v.l.length+1) 0 ([]++[3]++be 2 v.l.length) (wY _) (by omega) (by simp[qP];omega);have e2:=zNf v (zAn v.ht) hl (λx hx o J=>n_put v.ht x o (by have:=V.ht_item v x hx;omega) (Z x hx) (by have:=V.sz_le_szs v.l x hx;omega) J) (v.l.length+1) 0 ([]++[3]++be 2 v.l.length) (wY _) (by omega) (by simp[qP];omega);exact W.trans e2.symm)));rw[h,n_put (v.ht+1) v [] (by omega) hp U (by simp;omega),List.nil_append]
theorem zTO{v:V}(h:v.right=true):v.rpure=true/\v.deep<=16/\v.sz<=1048576:=by unfold V.right at h;simpa[and_assoc]using h
theorem n_Encode(v:V):zBp v=some (if v.right=true then(v.enc,0)else([],2)):=by rw[zPR];(try rw[V.eta]);rw[n_Size,wA];by_cases h:v.right=true;(rw[if_pos h,if_pos h];rw[zE (c:= !true) rfl,n_put_n0 v (zTO h).1 (zTO h).2.2];rfl);(rw[if_neg h,if_neg h];rfl)
def pvN:List UInt8->Except Int (V×List UInt8)
 |[]=> .error 10
 |c::r=>if 8<c.toNat then .error 11 else if r.length<c.toNat then .error 10 else if c.toNat=0 then .ok (.mk 1 0 [] [],r)else if 4611686018427387904<ofBE (r.take c.toNat)\/r.head?=some 0 then .error 11 else .ok (.mk 1 (ofBE (r.take c.toNat)) [] [],r.drop c.toNat)
theorem pvN_nil:pvN []= .error 10:=rfl
theorem zVG(c:UInt8)(r:List UInt8):pvN (c::r)=if 8<c.toNat then .error 11 else if r.length<c.toNat then .error 10 else if c.toNat=0 then .ok (.mk 1 0 [] [],r)
 else if 4611686018427387904<ofBE (r.take c.toNat)\/r.head?=some 0 then .error 11 else .ok (.mk 1 (ofBE (r.take c.toNat)) [] [],r.drop c.toNat):=rfl
def pvB(b:List UInt8):Except Int (V×List UInt8):=
 if b.length<3 then .error 10 else if(b.drop 3).length<ofBE (b.take 3)then .error 10 else .ok (.mk 2 0 ((b.drop 3).take (ofBE (b.take 3))) [],(b.drop 3).drop (ofBE (b.take 3)))
def pvI(f:List UInt8->Except Int (V×List UInt8)):Nat->List UInt8->Except Int (List V×List UInt8)
 |0,b=> .ok ([],b)
 |n+1,b=>match f b with| .error e=> .error e| .ok (v,r)=>match pvI f n r with| .error e=> .error e| .ok (l,u)=> .ok (v::l,u)
def pvL(x:Except Int (List V×List UInt8)):Except Int (V×List UInt8):=match x with
 | .error e=> .error e
 | .ok (l,r)=> .ok (.mk 3 0 [] l,r)
def pvK(u:Option (List UInt8->Except Int (V×List UInt8))):List UInt8->Except Int (V×List UInt8)
 |[]=> .error 10
 |k::b=>if k.toNat=1 then pvN b else if k.toNat=2 then pvB b else if k.toNat=3 then(if b.length<2 then .error 10 else if 4096<ofBE (b.take 2)then .error 11 else match u with|none=> .error 11|some f=>pvL (pvI f (ofBE (b.take 2)) (b.drop 2)))else .error 11
def pv:Nat->List UInt8->Except Int (V×List UInt8)
 |0=>pvK none
 |d+1=>pvK (some (pv d))
theorem zRQ(u:Option (List UInt8->Except Int (V×List UInt8))):pvK u []= .error 10:=rfl
theorem zFT(u:Option (List UInt8->Except Int (V×List UInt8)))(k:UInt8)(b:List UInt8):pvK u (k::b)=if k.toNat=1 then pvN b else if k.toNat=2 then pvB b else if k.toNat=3 then
 (if b.length<2 then .error 10 else if 4096<ofBE (b.take 2)then .error 11 else match u with
  |none=> .error 11
  |some f=>pvL (pvI f (ofBE (b.take 2)) (b.drop 2)))
 else .error 11:=rfl
def decS(b:List UInt8):Except Int V:=if 1048576<b.length then .error 3 else match pv 16 b with
 | .error e=> .error e
 | .ok (v,r)=>if r.isEmpty=true then .ok v else .error 12
theorem pvI_err{f:List UInt8->Except Int (V×List UInt8)}(hf:∀b e,f b= .error e->e=10\/e=11):∀(n:Nat) (b:List UInt8) (e:Int),pvI f n b= .error e->e=10\/e=11
 |0,b,e,h=>by cases h
 |n+1,b,e,h=>by rw[pvI]at h;split at h;grind;(rename_i v r hv;split at h;(rename_i I u;injection h with h;subst h;exact pvI_err hf n r _ u);cases h)
theorem pvK_err{u:Option (List UInt8->Except Int (V×List UInt8))}(I:∀f,u=some f->∀b e,f b= .error e->e=10\/e=11):∀(b:List UInt8) (e:Int),pvK u b= .error e->e=10\/e=11
 |[],e,h=>by rw[zRQ]at h;injection h with h;omega
 |k::b,e,h=>by rw[zFT]at h;split at h;(unfold pvN at h;grind);split at h;(unfold pvB at h;grind);split at h;(split at h;grind;split at h;grind;split at h;grind;(rename_i f;unfold pvL at h;split at h;(rename_i U J;injection h with h;subst h;exact pvI_err (I f rfl) _ _ _ J);cases h));grind
theorem pv_err:∀(d:Nat) (b:List UInt8) (e:Int),pv d b= .error e->e=10\/e=11
 |0=>pvK_err λf h=>by cases h
 |d+1=>pvK_err λf h=>by injection h with h;subst h;exact pv_err d
theorem zSy{n:Int}(h0:0<=n)(u:n<=4611686018427387904):V.rpure (.mk 1 n [] [])=true:=by simp[V.rpure,V.flat,V.k,V.n,V.b,V.l,h0,u]
theorem zQo{l:List V}(h:l.length<=4096)(hl:∀x∈l,x.rpure=true):V.rpure (.mk 3 0 [] l)=true:=by rw[V.rpure,if_pos rfl,(V.all_iff l).2 hl];simp[V.flat,V.k,V.n,V.b,V.l,h]
theorem zN3{k:UInt8}{n:Nat}(h:k.toNat=n):k=UInt8.ofNat n:=by rw[<-h];simp
theorem pvN_sound{b:List UInt8}{v:V}{r:List UInt8}(h:pvN b= .ok (v,r)):1::b=v.enc++r/\v.rpure=true/\v.deep=0:=by unfold pvN at h;split at h;cases h;rename_i c I;split at h;cases h;rename_i h8;split at h;cases h;rename_i hl;split at h;(rename_i Z;injection h with h;injection h with J U;subst J U;refine⟨?_,by simp[V.rpure,V.flat,V.k,V.n,V.b,V.l],by simp[V.deep]⟩;rw[V.enc,if_pos rfl,zN3 Z];simp[zCq,zNd,be,le]);rename_i Z;split at h;cases h;rename_i W;injection h with h;injection h with J U;subst J U;(have β:I.take c.toNat≠[]:=by intro e;have:=congrArg List.length e;grind);(have u:(I.take c.toNat).length=c.toNat:=by simp;omega);(obtain⟨x,y,α⟩:∃x y,I.take c.toNat=x::y:=by(cases ht:I.take c.toNat with|nil=>grind|cons x y=>grind));(have hx:x≠0:=by intro e;subst e;apply W;right;(cases I with|nil=>grind|cons z w=>grind));(have hw:wid (ofBE (I.take c.toNat))=c.toNat:=by have J:=zIb c.toNat _ u;have U:=(zG5 c.toNat _).1 J;rcases wR (wid (ofBE (I.take c.toNat))) c.toNat with h3|h3;(exfalso;have h4:=zOQ c.toNat _ u;obtain⟨j,hj⟩:∃j,c.toNat=j+1:=⟨c.toNat-1,by omega⟩;have h5:=be_zero j (ofBE (I.take c.toNat)) (by omega);grind);omega);refine⟨?_,?_,by simp[V.deep]⟩;(rw[V.enc,if_pos rfl];simp only[uE];unfold zCq;rw[hw,zOQ _ _ u];simp);(have:ofBE (I.take c.toNat)<=4611686018427387904:=Nat.le_of_not_lt λh=>W (.inl h);exact zSy (by omega) (by omega))
theorem zTe{f:List UInt8->Except Int (V×List UInt8)}{d:Nat}(hf:∀b v r,f b= .ok (v,r)->b=v.enc++r/\v.rpure=true/\v.deep<=d):∀(n:Nat) (b:List UInt8) (l:List V) (r:List UInt8),pvI f n b= .ok (l,r)->b=V.enc.encs l++r/\l.length=n/\∀x∈l,x.rpure=true/\x.deep<=d
 |0,b,l,r,h=>by rw[pvI]at h;injection h with h;injection h with I u;subst I u;exact⟨rfl,rfl,λx hx=>by cases hx⟩
 |n+1,b,l,r,h=>by rw[pvI]at h;split at h;cases h;rename_i v r1 hv;split at h;cases h;rename_i Z r2 hl;injection h with h;injection h with I u;subst I u;obtain⟨a1,a2,a3⟩:=hf _ _ _ hv;obtain⟨J,U,W⟩:=zTe hf n _ _ _ hl;refine⟨by rw[a1,J,V.enc.encs,vE],by simp[U],λx hx=> ?_⟩;grind
theorem zSv{d:Nat}{u:Option (List UInt8->Except Int (V×List UInt8))}(hs:∀f,u=some f->∃J,d=J+1/\∀b v r,f b= .ok (v,r)->b=v.enc++r/\v.rpure=true/\v.deep<=J):∀(b:List UInt8) (v:V) (r:List UInt8),pvK u b= .ok (v,r)->b=v.enc++r/\v.rpure=true/\v.deep<=d
 |[],v,r,h=>by rw[zRQ]at h;cases h
 |k::b,v,r,h=>by rw[zFT]at h;split at h;(rename_i hk;obtain⟨a1,a2,a3⟩:=pvN_sound h;exact⟨by rw[zN3 hk];exact a1,a2,by omega⟩);split at h;(rename_i hk;unfold pvB at h;split at h;cases h;rename_i W;split at h;cases h;rename_i hl;injection h with h;injection h with U Z;subst U Z;refine⟨?_,by simp[V.rpure,V.flat,V.k,V.n,V.b,V.l],by simp[V.deep]⟩;(have I:((b.drop 3).take (ofBE (b.take 3))).length=ofBE (b.take 3):=by rw[vZ];omega);rw[V.enc,if_neg (by decide),if_pos rfl,I,zOQ 3 _ (by simp;omega),zN3 hk,tH,vE,uX,uX];rfl);split at h;(rename_i hk;split at h;cases h;rename_i Z;split at h;cases h;rename_i hn;split at h;cases h;rename_i f;obtain⟨J,rfl,hf⟩:=hs f rfl;unfold pvL at h;split at h;cases h;rename_i l r1 hl;injection h with h;injection h with U W;subst U W;obtain⟨a1,a2,a3⟩:=zTe hf _ _ _ _ hl;refine⟨?_,?_,?_⟩;(rw[V.enc,if_neg (by decide),if_neg (by decide),a2,zOQ 2 _ (by simp;omega),zN3 hk];rw[tH,vE,<-a1,uX];rfl);exact zQo (by omega) λx hx=>(a3 x hx).1;(rw[V.deep,if_pos rfl];exact V.dm_le l 1 _ (λx hx=>by have:=(a3 x hx).2;omega) (by omega)));cases h
theorem zUp:∀(d:Nat) (b:List UInt8) (v:V) (r:List UInt8),pv d b= .ok (v,r)->b=v.enc++r/\v.rpure=true/\v.deep<=d
 |0=>zSv λf h=>by cases h
 |d+1=>zSv λf h=>by injection h with h;subst h;exact⟨d,rfl,zUp d⟩
theorem zVJ{f:List UInt8->Except Int (V×List UInt8)}:∀(l:List V) (r:List UInt8),(∀x∈l,∀r,f (x.enc++r)= .ok (x,r))->pvI f l.length (V.enc.encs l++r)= .ok (l,r)
 |[],r,_=>rfl
 |x::l,r,h=>by rw[tP,pvI,V.enc.encs,vE,h x sN];simp only;rw[zVJ l r λy hy=>h y (vM _ hy)]
theorem zUf(n:Int)(h0:0<=n)(h1:n<=4611686018427387904)(r:List UInt8):pvN (UInt8.ofNat (wid n.toNat)::zCq n.toNat++r)= .ok (.mk 1 n [] [],r):=by have W:=zGj (n:=n.toNat) (by omega);(have Z:(UInt8.ofNat (wid n.toNat)).toNat=wid n.toNat:=by simp;omega);have hl:(zCq n.toNat).length=wid n.toNat:=zLW _;have u:=(zG5 (wid n.toNat) n.toNat).2 (wL _);rw[tH,pvN,Z,if_neg (by omega),if_neg (by simp[hl])];by_cases hz:wid n.toNat=0;grind;(obtain⟨k,hk⟩:∃k,wid n.toNat=k+1:=⟨wid n.toNat-1,by omega⟩;obtain⟨c,I,U⟩:=zVN k n.toNat hk;(have ht:(zCq n.toNat++r).take (wid n.toNat)=zCq n.toNat:=by rw[<-hl,sB]);(have hd:(zCq n.toNat++r).drop (wid n.toNat)=r:=by rw[<-hl,List.drop_left]);(have J:ofBE (zCq n.toNat)=n.toNat:=by unfold zCq;rw[zRS,tN u]);rw[if_neg hz,ht,hd,J,if_neg];grind;(rintro(h|h);omega;(unfold zCq at h;grind)))
theorem pv_full:∀(d:Nat) (v:V) (r:List UInt8),v.rpure=true->v.deep<=d->v.sz<=1048576->pv d (v.enc++r)= .ok (v,r):=by intro d;(induction d with|zero=>intro v r hp hd hs;have hf:=V.rpure_flat hp;have U:=V.enc_eq v;have u:=V.enc_length v;rw[U];by_cases I:v.k=1;(rw[if_pos I,tH,pv,zFT,if_pos (by decide)];unfold V.flat at hf;rw[if_pos I]at hf;simp at hf;rw[zUf v.n (by omega) (by omega) r];have:=V.eta v;grind);(rw[if_neg I];by_cases J:v.k=2;exact raw_full none v r J hf hs U u I;(obtain⟨W,_,_,_⟩:=V.flat_kind hf I J;exfalso;rw[V.deep_eq v W]at hd;have:=dm_ge1 v.l 1;omega))|succ d ih=>intro v r hp hd hs;have hf:=V.rpure_flat hp;have U:=V.enc_eq v;have u:=V.enc_length v;rw[U];by_cases I:v.k=1;(rw[if_pos I,tH,pv,zFT,if_pos (by decide)];unfold V.flat at hf;rw[if_pos I]at hf;simp at hf;rw[zUf v.n (by omega) (by omega) r];have:=V.eta v;grind);(rw[if_neg I];by_cases J:v.k=2;exact raw_full (some (pv d)) v r J hf hs U u I;(obtain⟨W,hn,hb,hl⟩:=V.flat_kind hf I J;have hi:=V.rpure_items hp W;rw[if_neg J,tH,pv,zFT,if_neg (by decide),if_neg (by decide),if_pos (by decide)];(have ht:(be 2 v.l.length++V.enc.encs v.l++r).take 2=be 2 v.l.length:=by rw[vE,List.take_left' (qP _ _)]);(have Z:(be 2 v.l.length++V.enc.encs v.l++r).drop 2=V.enc.encs v.l++r:=by rw[vE,List.drop_left' (qP _ _)]);rw[ht,Z,zRS,tN (by omega),if_neg (by simp[qP]),if_neg (by omega)];show pvL (pvI (pv d) v.l.length (V.enc.encs v.l++r))=_;(have hz:V.sz.szs v.l+3=v.sz:=by(cases v with|mk k n b l=>have I:¬k=1:=I;have J:¬k=2:=J;rw[V.sz,if_neg I,if_neg J];show V.sz.szs l+3=_;omega));rw[V.deep_eq v W]at hd;rw[zVJ v.l r λx hx r=>ih x r (hi x hx) (by have:=dm_mem v.l 1 x hx;omega) (by have:=V.sz_le_szs v.l x hx;omega)];have:=V.eta v;rw[W,hn,hb]at this;show Except.ok (V.mk 3 0 [] v.l,r)=_;rw[this])))
where
 dm_ge1:∀(l:List V) (e:Nat),e<=V.deep.dm l e
  |[],_=>wL _
  |x::r,e=>vR (Nat.le_max_left _ _) (by rw[V.deep.dm];exact dm_ge1 r _)
 dm_mem:∀(l:List V) (e:Nat) (x:V),x∈l->x.deep+1<=V.deep.dm l e
  |y::r,e,x,h=>by rw[V.deep.dm];rcases vI.1 h with rfl|h;exact vR (Nat.le_max_right _ _) (dm_ge1 r _);exact dm_mem r _ x h
 raw_full (α:Option (List UInt8->Except Int (V×List UInt8))) (v:V) (r:List UInt8) (J:v.k=2) (hf:v.flat=true) (hs:v.sz<=1048576) (U:v.enc=if v.k=1 then 1::UInt8.ofNat (wid v.n.toNat)::zCq v.n.toNat else if v.k=2 then 2::(be 3 v.b.length++v.b)else 3::(be 2 v.l.length++V.enc.encs v.l)) (u:v.enc.length=v.sz) (I:¬v.k=1):pvK α ((if v.k=2 then 2::(be 3 v.b.length++v.b)else 3::(be 2 v.l.length++V.enc.encs v.l))++r)= .ok (v,r):=by rw[if_neg I,if_pos J]at U;rw[if_pos J,tH,zFT,if_neg (by decide),if_pos (by decide)];(have hb:v.b.length<=1048576:=by rw[U]at u;simp[qP]at u;omega);(have ht:(be 3 v.b.length++v.b++r).take 3=be 3 v.b.length:=by rw[vE,List.take_left' (qP _ _)]);(have Z:(be 3 v.b.length++v.b++r).drop 3=v.b++r:=by rw[vE,List.drop_left' (qP _ _)]);unfold pvB;rw[ht,Z,zRS,tN (by omega),if_neg (by simp[qP]),if_neg (by simp),sB,List.drop_left];unfold V.flat at hf;rw[if_neg I,if_pos J]at hf;simp at hf;have:=V.eta v;rw[J,hf.1,hf.2]at this;rw[this]
theorem decS_enc{v:V}(h:v.rpure=true/\v.deep<=16/\v.sz<=1048576):decS v.enc= .ok v:=by have:=pv_full 16 v [] h.1 h.2.1 h.2.2;rw[tT]at this;unfold decS;rw[if_neg (by rw[V.enc_length];omega),this];rfl
theorem decS_ok{b:List UInt8}{v:V}(h:decS b= .ok v):b=v.enc/\v.rpure=true/\v.deep<=16/\v.sz<=1048576:=by unfold decS at h;split at h;cases h;rename_i hl;split at h;cases h;rename_i I r hv;split at h;(rename_i u;injection h with h;subst h;obtain⟨a1,a2,a3⟩:=zUp 16 _ _ _ hv;(have:r=[]:=by simpa using u);subst this;rw[tT]at a1;exact⟨a1,a2,a3,by rw[<-V.enc_length,<-a1];omega⟩);cases h
theorem decS_err{b:List UInt8}{e:Int}(h:decS b= .error e):e=3\/e=10\/e=11\/e=12:=by unfold decS at h;split at h;grind;split at h;(rename_i I u;injection h with h;subst h;have:=pv_err _ _ _ u;omega);grind
def getN(b:List UInt8):Int:=if b.length=0\/8<b.length\/4611686018427387904<ofBE b then 0 else ofBE b
def getE(b:List UInt8):Int:=if b.length=0 then 10 else if 8<b.length then 2 else if 4611686018427387904<ofBE b then 11 else 0
theorem zUi(b:List UInt8)(hb:b.length<=8):∀(n i:Nat),i<=b.length->b.length-i<n->zBd zBc b n ((ofBE (b.take i):Nat):Int) (i:Int)=zBc ((ofBE b:Nat):Int)
 |0,i,_,h=>by omega
 |n+1,i,J,h=>by unfold zBd;by_cases u:i<b.length;((have I:ofBE (b.take i)<72057594037927936:=by have h:=zIb i (b.take i) (by simp;omega);have:256^i<=256^7:=Nat.pow_le_pow_right (by omega) (by omega);omega);(have ht:ofBE (b.take (i+1))=ofBE (b.take i)*256+b[i].toNat:=by rw[<-sJ u,zHm]);rw[zG (yJ (by omega)),zAQ u,wA,get_step _ _ I b[i].toNat_lt,<-ht,zAS (by omega)];exact zUi b hb n (i+1) (by omega) (by omega));rw[zE (yC (by omega)),tE (by omega)]
theorem n_Get(b:List UInt8):zDY b=some (getN b,getE b):=by rw[zV9];unfold getN getE;by_cases I:b.length=0;rw[zG (zBu (by omega)),if_pos (.inl I),if_pos I];(rw[zE (zCC (by omega)),if_neg I];by_cases u:8<b.length;rw[zG (yJ (by omega)),if_pos (.inr (.inl u)),if_pos u];(rw[zE (yC (by omega)),if_neg u];have:=zUi b (by omega) (b.length+1) 0 (wY _) (by omega);have h:zBd zBc b (b.length+1) 0 0=zBc ((ofBE b:Nat):Int):=this;rw[h];unfold zBc;by_cases hb:4611686018427387904<ofBE b;rw[zG (yJ (by omega)),if_pos (.inr (.inr hb)),if_pos hb];rw[zE (yC (by omega)),if_neg (by omega),if_neg hb,zDg (by omega) (by omega)]))
theorem zK1{b:List UInt8}{n:Nat}(h:n<=b.length):zY ⟨b,0⟩ (n:Int)=some (b.take n,⟨b.drop n,0⟩):=by rw[zCz];rw[zG (zBu rfl),zE (yC (by show¬(n:Int)>(b.length:Int);omega))];unfold yN;show(bif ((0:Int) !=0)then _ else _)=_;rw[zE (zF5 rfl)];show Option.bind (cutI b 0 (n:Int)) _=_;rw[cutI_take h,wA];show Option.bind (cutI b (n:Int) (b.length:Int)) _=_;rw[zTZ h];rfl
theorem zI5{b:List UInt8}{n:Nat}(h:b.length<n):zY ⟨b,0⟩ (n:Int)=some ([],⟨b,10⟩):=by rw[zCz];rw[zG (zBu rfl),zG (yJ (by show(n:Int)>(b.length:Int);omega))];rfl
theorem zQa{b:List UInt8}{e n:Int}(h:e≠0):zY ⟨b,e⟩ n=some ([],⟨b,e⟩):=by rw[zCz];rw[zE (zCC h)];unfold yN;rw[zG (zIa h)]
theorem getN_nil:getN []=0:=rfl
theorem zMH{b:List UInt8}(h:0<b.length)(u:b.length<=3):getN b=ofBE b:=by have:=zIb b.length b rfl;have:256^b.length<=256^3:=Nat.pow_le_pow_right (by omega) u;unfold getN;rw[if_neg (by omega)]
theorem zWA{b:List UInt8}{n:Nat}(h:n<=b.length)(h0:0<n)(u:n<=3):qC ⟨b,0⟩ (n:Int)=some ((ofBE (b.take n):Int),⟨b.drop n,0⟩):=by rw[zEG];rw[zK1 h,wA,n_Get,wA,zMH (by simp;omega) (by simp;omega)]
theorem zT6{b:List UInt8}{n:Nat}(h:b.length<n):qC ⟨b,0⟩ (n:Int)=some (0,⟨b,10⟩):=by rw[zEG];rw[zI5 h,wA,n_Get,wA,getN_nil]
theorem n_fail(b:List UInt8):zQ ⟨b,0⟩=some ⟨b,11⟩:=rfl
theorem zV6{b:List UInt8}{e:Int}(h:e≠0):zQ ⟨b,e⟩=some ⟨b,e⟩:=by rw[zKU];rw[zE (zCC h)]
theorem zVj{b:List UInt8}(z:Int){n:Nat}(hz:z=n)(h:n<=b.length):zY ⟨b,0⟩ z=some (b.take n,⟨b.drop n,0⟩):=by rw[hz,zK1 h]
theorem zT0{b:List UInt8}(z:Int){n:Nat}(hz:z=n)(h:b.length<n):zY ⟨b,0⟩ z=some ([],⟨b,10⟩):=by rw[hz,zI5 h]
theorem zKE{b:List UInt8}(z:Int){n:Nat}(hz:z=n)(h:n<=b.length)(h0:0<n)(u:n<=3):qC ⟨b,0⟩ z=some ((ofBE (b.take n):Int),⟨b.drop n,0⟩):=by rw[hz,zWA h h0 u]
theorem zIF{b:List UInt8}(z:Int){n:Nat}(hz:z=n)(h:b.length<n):qC ⟨b,0⟩ z=some (0,⟨b,10⟩):=by rw[hz,zT6 h]
def zGu(x:Option (V×zB))(y:Except Int (V×List UInt8)):Prop:=match y with
 | .ok (v,r)=>x=some (v,⟨r,0⟩)
 | .error e=>e≠0/\∃v r,x=some (v,⟨r,e⟩)
theorem zBl{x:Option (V×zB)}{e:Int}(u:e≠0)(h:∃v r,x=some (v,⟨r,e⟩)):zGu x (.error e):=⟨u,h⟩
theorem zQJ{u:Int×zB}{b:List UInt8}{e:Int}(h:e≠0):qT u b e=some (.mk 1 0 [] [],⟨b,e⟩):=by unfold qT;rw[zQa h,wA];rfl
theorem n_number(b:List UInt8):zGu (yH ⟨b,0⟩) (pvN b):=by rw[zIf];(cases b with|nil=>rw[zIF (b:=[]) 1 (n:=1) rfl (by simp),wA,pvN_nil];refine zBl (by decide) ⟨.mk 1 0 [] [],[],?_⟩;rw[zE (yC (by show¬(0:Int)>8;decide))];exact zQJ (by decide)|cons c r=>rw[zKE (b:=c::r) 1 (n:=1) rfl (by simp) (by omega) (by omega),wA];(have h1:ofBE ((c::r).take 1)=c.toNat:=by simp[ofBE]);have W:(c::r).drop 1=r:=rfl;rw[h1,W,zVG];by_cases U:8<c.toNat;(rw[if_pos U];refine zBl (by decide) ⟨.mk 1 0 [] [],r,?_⟩;rw[zG (yJ (by show(c.toNat:Int)>8;omega))];show Option.bind (zQ ⟨r,0⟩) _=_;rw[n_fail,wA];exact zQJ (e:=11) (by decide));(rw[if_neg U,zE (yC (by show¬(c.toNat:Int)>8;omega))];show zGu (qT ((c.toNat:Int),⟨r,0⟩) r 0) _;unfold qT;show zGu (Option.bind (zY ⟨r,0⟩ (c.toNat:Int)) _) _;by_cases hl:r.length<c.toNat;(rw[if_pos hl,zI5 hl,wA];exact zBl (by decide) ⟨.mk 1 0 [] [],r,rfl⟩);(rw[if_neg hl,zK1 (by omega),wA];by_cases J:c.toNat=0;(rw[if_pos J,J];rfl);(rw[if_neg J];(have u:(r.take c.toNat).length=c.toNat:=by simp;omega);rw[zE (zCC (by show((r.take c.toNat).length:Int)≠0;rw[u];omega))];show zGu (Option.bind (zDY (r.take c.toNat)) _) _;rw[n_Get,wA];unfold getN getE;rw[u,if_neg (show¬c.toNat=0 from J),if_neg U];by_cases hb:4611686018427387904<ofBE (r.take c.toNat);(rw[if_pos (show c.toNat=0\/8<c.toNat\/4611686018427387904<ofBE (r.take c.toNat)from .inr (.inr hb)),if_pos hb,if_pos (.inl hb)];refine zBl (by decide) ⟨.mk 1 0 [] [],r.drop c.toNat,?_⟩;rfl);(rw[if_neg (show¬(c.toNat=0\/8<c.toNat\/4611686018427387904<ofBE (r.take c.toNat)) by omega),if_neg hb];(obtain⟨x,y,I⟩:∃x y,r.take c.toNat=x::y:=by(cases ht:r.take c.toNat with|nil=>rw[ht]at u;simp at u;omega|cons x y=>exact⟨x,y,rfl⟩));(have hx:r.head?=some x:=by(cases r with|nil=>simp at I|cons z w=>(cases Z:c.toNat with|zero=>omega|succ j=>rw[Z]at I;simp at I;simp[I.1])));rw[hx];rw[zE (zF5 rfl)];show zGu (Option.bind (idx (r.take c.toNat) 0) _) _;rw[I,zNb,wA,<-I];by_cases hz:x=0;(subst hz;rw[if_pos (.inr rfl),zG (zBu (a:=((0:UInt8).toNat:Int)) (b:=0) rfl)];exact zBl (by decide) ⟨_,_,rfl⟩);(rw[if_neg (by simp[hb,hz]),zE (zCC (λe=>hz (UInt8.toNat_inj.1 (by rw[show(0:UInt8).toNat=0 from rfl];omega))))];rfl))))))
theorem zUe{I:Int×zB}{self:zB->Int->Option (V×zB)}{J:Int}{u:V}{n:Nat}{b:List UInt8}{e:Int}{l:List V}{i:Int}(h:e≠0):zR I self J u (n+1) b e l i=some (.mk u.k u.n [] l,⟨b,e⟩):=by unfold zR;rw[zE (c:=e==0) (zCC h)];cases decide (i<I.1)<;>rfl
theorem zQd(N:Nat)(hN:N<=65536)(q:zB)(f:List UInt8->Except Int (V×List UInt8))(self:zB->Int->Option (V×zB))(d:Nat)(hd:d<=1000)(u:∀b,zGu (self ⟨b,0⟩ (d:Int)) (f b)):
 ∀(n i:Nat) (b:List UInt8) (l:List V),i<=N->N-i<n->l.length=i->zGu (zR ((N:Int),q) self ((d+1:Nat):Int) (.mk 3 0 [] []) n b 0 l (i:Int)) (match pvI f (N-i) b with| .error e=> .error e| .ok (U,r)=> .ok (.mk 3 0 [] (l++U),r))
 |0,i,b,l,_,h,_=>by omega
 |n+1,i,b,l,hi,h,hl=>by unfold zR;by_cases α:i<N;(rw[zG (yJ (by show(i:Int)<(N:Int);omega)),zG (zBu rfl),zDg (by omega) (by omega),show((d+1:Nat):Int)-1=(d:Int) by omega];obtain⟨j,hj⟩:∃j,N-i=j+1:=⟨N-i-1,by omega⟩;have I:=u b;rw[hj,pvI];(cases hf:f b with|error e=>rw[hf]at I;obtain⟨he,v,r,I⟩:=I;rw[I,wA];refine⟨he,?_⟩;rw[zAT (by simp;omega),wA];obtain⟨W,rfl⟩:∃W,n=W+1:=⟨n-1,by omega⟩;exact⟨_,_,zUe he⟩|ok vr=>obtain⟨v,r⟩:=vr;rw[hf]at I;have I:self ⟨b,0⟩ (d:Int)=some (v,⟨r,0⟩):=I;rw[I,wA];rw[zAT (by simp;omega),wA,zAS (by omega)];have J:=zQd N hN q f self d hd u n (i+1) r (l++[v]) (by omega) (by omega) (by simp[hl]);rw[show N-(i+1)=j by omega]at J;show zGu (zR ((N:Int),q) self ((d+1:Nat):Int) (.mk 3 0 [] []) n r 0 (l++[v]) ((i+1:Nat):Int)) _;(show zGu _ (match(match pvI f j r with| .error e=>(.error e:Except Int (List V×List UInt8))| .ok (U,Z)=> .ok (v::U,Z))with| .error e=> .error e| .ok (U,Z)=> .ok (.mk 3 0 [] (l++U),Z)));generalize pvI f j r=z at J⊢;(cases z with|error e=>exact J|ok lr=>obtain⟨U,Z⟩:=lr;have J:zR _ _ _ _ _ _ _ _ _=_:=J;show zR _ _ _ _ _ _ _ _ _=_;rw[J,vE];rfl)));(rw[zE (yC (by show¬(i:Int)<(N:Int);omega)),show N-i=0 by omega,pvI];show some _=some _;rw[tT];rfl)
theorem zUQ(b:List UInt8):zGu ((yH ⟨b,0⟩).bind λI=>some ((V.mk I.1.k I.1.n [] []),I.2)) (pvN b):=by have h:=n_number b;(cases hp:pvN b with|error e=>rw[hp]at h;obtain⟨J,v,r,h⟩:=h;rw[h];exact⟨J,_,_,rfl⟩|ok U=>obtain⟨v,r⟩:=U;rw[hp]at h;have h:yH ⟨b,0⟩=some (v,⟨r,0⟩):=h;rw[h];(have:v.b=[]/\v.l=[]:=by unfold pvN at hp;split at hp;cases hp;split at hp;cases hp;split at hp;cases hp;split at hp;injection hp with hp;injection hp with u _;subst u;exact⟨rfl,rfl⟩;split at hp;cases hp;injection hp with hp;injection hp with u _;subst u;exact⟨rfl,rfl⟩);have e:=V.eta v;rw[this.1,this.2]at e;show some (V.mk v.k v.n [] [],_)=_;rw[e])
theorem zUR(b:List UInt8):zGu ((qC ⟨b,0⟩ 3).bind λI=>
 (zY I.2 I.1).bind λJ=>
 (zBg J.1).bind λU=>
 (zCy U).bind λu=>
 some ((V.mk u.k u.n u.b []),J.2)) (pvB b):=by
 unfold pvB
 by_cases Z:b.length<3
 · rw[if_pos Z,zIF 3 (n:=3) rfl Z,wA,zQa (by decide),wA];exact zBl (by decide) ⟨_,_,rfl⟩
 · rw[if_neg Z,zKE 3 (n:=3) rfl (by omega) (by omega) (by omega),wA];by_cases hl:(b.drop 3).length<ofBE (b.take 3);(rw[if_pos hl,zI5 hl,wA];exact zBl (by decide) ⟨_,_,rfl⟩);(rw[if_neg hl,zK1 (by omega),wA];unfold zBg;have W:=zIb 3 (b.take 3) (by simp;omega);rw[zAT (by rw[vZ];simp only[tD];omega),wA];rfl)
theorem zR8(b:List UInt8)(J:Nat)(I:Int)(U:Option (List UInt8->Except Int (V×List UInt8)))
(h0:I=0->U=none)(h1:I≠0->∃d f,d<=1000/\I=((d+1:Nat):Int)/\U=some f/\∀b,zGu (zL J ⟨b,0⟩ (d:Int)) (f b)):
 zGu ((qC ⟨b,0⟩ 2).bind λu=>
 bif (decide (u.1>4096))then((zQ u.2).bind λW=>
 qI I u (zL J) W.b_ W.e_)else(bif (I==0)then((zQ u.2).bind λZ=>
 qI I u (zL J) Z.b_ Z.e_)else(qI I u (zL J) u.2.b_ u.2.e_)))
 (if b.length<2 then .error 10 else if 4096<ofBE (b.take 2)then .error 11 else match U with
  |none=> .error 11
  |some f=>pvL (pvI f (ofBE (b.take 2)) (b.drop 2))):=by
 have bad:∀(u:Int×zB) (b:List UInt8) (e:Int),e≠0->∃v r,qI I u (zL J) b e=some (v,⟨r,e⟩):=by intro u b e he;unfold qI;show∃v r,zR u (zL J) I (V.mk 3 0 [] []) (Int.toNat u.1+1) b e [] 0=_;exact⟨_,_,zUe he⟩
 by_cases h2:b.length<2
 · rw[if_pos h2,zIF 2 (n:=2) rfl h2,wA];refine zBl (by decide) ?_;rw[zE (yC (by show¬(0:Int)>4096;omega))];(cases hp:(I==0)with|true=>rw[zG (c:=true) rfl];show∃v r,Option.bind (zQ ⟨b,10⟩) _=_;rw[zV6 (by decide),wA];exact bad _ _ 10 (by decide)|false=>exact bad _ _ 10 (by decide))
 · rw[if_neg h2,zKE 2 (n:=2) rfl (by omega) (by omega) (by omega),wA];have hN:=zIb 2 (b.take 2) (by simp;omega);generalize ofBE (b.take 2)=N at hN⊢;by_cases h4:4096<N;(rw[if_pos h4,zG (yJ (by show(N:Int)>4096;omega))];refine zBl (by decide) ?_;show∃v r,Option.bind (zQ ⟨b.drop 2,0⟩) _=_;rw[n_fail,wA];exact bad _ _ 11 (by decide));(rw[if_neg h4,zE (yC (by show¬(N:Int)>4096;omega))];by_cases hp:I=0;(rw[zG (zBu hp),h0 hp];refine zBl (by decide) ?_;show∃v r,Option.bind (zQ ⟨b.drop 2,0⟩) _=_;rw[n_fail,wA];exact bad _ _ 11 (by decide));(rw[zE (zCC hp)];obtain⟨d,f,hd,rfl,rfl,hf⟩:=h1 hp;show zGu (zR ((N:Int),⟨b.drop 2,0⟩) (zL J) ((d+1:Nat):Int) (V.mk 3 0 [] []) (Int.toNat (N:Int)+1) (b.drop 2) 0 [] 0) _;exact zQd N (by omega) ⟨b.drop 2,0⟩ f (zL J) d hd hf (N+1) 0 (b.drop 2) [] (wY _) (by omega) rfl))
theorem zMd(b:List UInt8)(J:Nat)(I:Int)(u:Option (List UInt8->Except Int (V×List UInt8)))
(h0:I=0->u=none)(h1:I≠0->∃d f,d<=1000/\I=((d+1:Nat):Int)/\u=some f/\∀b,zGu (zL J ⟨b,0⟩ (d:Int)) (f b)):
 zGu (zL (J+1) ⟨b,0⟩ I) (pvK u b):=by
 rw[zJK]
 cases b with
  |nil=>
   rw[zT0 (b:=[]) 1 (n:=1) rfl (by simp),wA,zRQ]
   exact zBl (by decide) ⟨_,_,rfl⟩
  |cons c r=>
   rw[zVj (b:=c::r) 1 (n:=1) rfl (by simp),wA,zFT]
   show zGu (bif ((0:Int) !=0)then _ else Option.bind (idx [c] 0) _) _
   rw[zE (zF5 rfl),zNb,wA]
   by_cases W:c.toNat=1
   · rw[if_pos W,zG (zBu (by omega))];exact zUQ r
   rw[if_neg W,zE (zCC (by omega))]
   by_cases U:c.toNat=2
   · rw[if_pos U,zG (zBu (by omega))];exact zUR r
   rw[if_neg U,zE (zCC (by omega))]
   by_cases Z:c.toNat=3
   · rw[if_pos Z,zG (zBu (by omega))];exact zR8 r J I u h0 h1
   rw[if_neg Z,zE (zCC (by omega))]
   exact zBl (by decide) ⟨_,_,rfl⟩
theorem n_value:∀(d:Nat) (b:List UInt8),d<=1000->zGu (zL (d+1) ⟨b,0⟩ (d:Int)) (pv d b)
 |0,b,_=>zMd b 0 0 none (λ_=>rfl) (λh=>absurd rfl h)
 |d+1,b,h=>zMd b (d+1) ((d+1:Nat):Int) (some (pv d)) (λh=>by omega) (λ_=>⟨d,pv d,by omega,rfl,rfl,λb=>n_value d b (by omega)⟩)
def decA(b:List UInt8):V×Int:=match decS b with
 | .ok v=>(v,0)
 | .error e=>(.mk 0 0 [] [],e)
theorem n_Decode(b:List UInt8):zCo b=some (decA b):=by rw[zPJ];unfold decA decS;by_cases hl:1048576<b.length;rw[zG (yJ (by omega)),if_pos hl];(rw[zE (yC (by omega)),if_neg hl];have h:=n_value 16 b (by omega);have e:zL (Int.toNat 16+1) ⟨b,0⟩ 16=zL (16+1) ⟨b,0⟩ ((16:Nat):Int):=rfl;rw[e];(cases hp:pv 16 b with|error e=>rw[hp]at h;obtain⟨u,v,r,h⟩:=h;rw[h,wA];show(bif e==0 then _ else zAg _ e)=_;rw[zE (c:=e==0) (zCC u)];unfold zAg;rw[zG (zIa u)]|ok I=>obtain⟨v,r⟩:=I;rw[hp]at h;have h:zL (16+1) ⟨b,0⟩ ((16:Nat):Int)=some (v,⟨r,0⟩):=h;rw[h,wA];(show(bif ((0:Int)==0)then(bif decide ((r.length:Int)>0)then _ else _)else _)=some (match(if r.isEmpty=true then Except.ok v else Except.error 12:Except Int V)with| .ok v=>(v,0)| .error e=>(V.mk 0 0 [] [],e)));rw[zG (zBu rfl)];(cases r with|nil=>rfl|cons c r=>rw[zG (yJ (by simp))];rfl)))
end Go.Proofs.YtocolhfjpadaoaaGreatDoor
