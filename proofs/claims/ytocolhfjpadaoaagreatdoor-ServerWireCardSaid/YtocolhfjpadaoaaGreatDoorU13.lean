/-
  Lemmas of this claim, joined.
-/
import Derived.Test.YtocolhfjpadaoaaGreatDoorU12
set_option linter.unusedVariables false
set_option linter.unusedSimpArgs false
set_option linter.constructorNameAsVariable false
namespace Go.Proofs.YtocolhfjpadaoaaGreatDoor
open Go Go.RowKit
variable {P:Program}{w0:World}{w:World}{m0:Mem}{m:Mem}{o0:OwnM}{o:OwnM}{G:GD}{pins:List Nat}{N:Nat}{a:Act}{op:Oper}{S:Nat->A}{M:Nat->A}{L:SL}{v:Value}{W:World}{Q:Mem}{X:OwnM}
set_option maxRecDepth 20000
noncomputable section
def zBd(J:(Int×Int))(U:Y)(I:Int):TT (V×zD) []:=
.fA 36 (zAA J.1) λu=>
.e ((V.mk u.k u.n [] []),(zD.mk U I))
def zBg(x1:(Int×zD))(y3:Y)(y4:Int):TT (V×zD) []:=
.fM 15 0 0 (zBZ (zD.mk y3 y4) x1.1) λu=>
.ln 17 u.1 cU8<|
.i 56 ((u.1.length:Int)==0) (λh7=> .fA 19 (zAA 0) λx8=>
.e ((V.mk x8.k x8.n [] []),u.2)) λh7=>
.fA 22 (zBp u.1) λI=>
.j 42 (λq=>[(0,.box [yT q.1,iT q.2]),(2,.box [iT 0,iT 0,nT,nT]),(5,iA I.1)]) (λq=>zBd I q.1 q.2)<|
.i 84 (I.2 !=0) (λβ=> .fM 34 0 0 (yW u.2) λU=>
.k [] .z (U.b_,U.e_)) λβ=>
.b (idx u.1 0) λα W=>
.ix 29 cU8 W<|
.i 98 ((α.toNat:Int)==0) (λZ=> .fM 34 0 0 (yW u.2) λJ=>
.k [] .z (J.b_,J.e_)) λZ=>
.k [] .z (u.2.b_,u.2.e_)
def zEg(U:zD):TT (V×zD) []:=
.fM 8 0 0 (zCb U 1) λu=>
.j 18 (λq=>[(0,.box [yT q.1,iT q.2]),(2,.box [iT 0,iT 0,nT,nT]),(3,iA u.1)]) (λq=>zBg u q.1 q.2)<|
.i 32 (decide (u.1>8)) (λJ=> .fM 12 0 0 (yW u.2) λI=>
.k [] .z (I.b_,I.e_)) λJ=>
.k [] .z (u.2.b_,u.2.e_)
def yF p0:=(zEg p0).q
theorem zIf p0:∀r,yF p0=some r->FP 310 [.box [yT p0.b_,iT p0.e_]] [(0,[yT r.2.b_,iT r.2.e_])] (.t (.agg [iD r.1.k,iD r.1.n,nD,nD])):=zU mixed Tryz.func310 _
def zMn:TT V []:=
.e (V.mk 3 0 [] [])
def zAa:Option V:=(zMn).run Env.nil
theorem zCx:∀r,zAa=some r->FP 140 [.t (nT)] [] (.t (.agg [iD r.k,iD r.n,nD,nD])):=zU mixed Tryz.func140 zMn (by kernel_rfl)
abbrev qQ(self:zD->Int->Option (V×zD)):Prop:=∀(u:zD) (I:Int) (r:(V×zD)),self u I=some r->FP 241 [.box [yT u.b_,iT u.e_],iA I] [(0,[yT r.2.b_,iT r.2.e_])] (.t (.agg [iD r.1.k,iD r.1.n,yD r.1.b,.seq 4 (List.map V.cells r.1.l)]))
def zBo(δ:(Int×zD))(self:zD->Int->Option (V×zD))(p1:Int)(W:(qQ self))(I:V)(J:Y)(u:Int)(Z:List V)(β:Int):TT (V×zD) [Y×Int×(List V)×Int]:=
.i 150 (decide (β<δ.1)) (λγ=> .i 167 (u==0) (λζ=> .y 59 true<|
.b (self (zD.mk J u) (wi (p1-1))) λU ε=>
.o 63 (cM 0 0 (W (zD.mk J u) (wi (p1-1)) _ ε))<|
.w 64 trivial (.oe (congrArg (λz=>A.t (.own 163 4 z)) (zMc V.cells_eq [U.1])))<|
.b (appI 64 Z [U.1]) λη α=>
.w 65 (appC (c:=V.cells) α) (.oe (appE (E:=163) (k:=4) (c:=V.cells) α))<|
.k [] .z (U.2.b_,U.2.e_,η,(wi (β+1)))) λζ=>
.e ((V.mk I.k I.n [] Z),(zD.mk J u))) λγ=>
.e ((V.mk I.k I.n [] Z),(zD.mk J u))
def zBq(p1:Int)(I:(Int×zD))(self:zD->Int->Option (V×zD))(J:(qQ self))(U:Y)(W:Int):TT (V×zD) []:=
.b (zAa) λu Z=>
.o 45 (cA (zCx _ Z))<|
.l [7] (λq=>[(0,.box [yT q.1,iT q.2.1]),(1,iA p1),(4,.box [iT 0,iT 0,nT,nT]),(6,iA I.1),(7,.box [iT u.k,iT u.n,nT,.own 163 4 (List.map V.cells q.2.2.1)]),(8,iA q.2.2.2)]) (Int.toNat I.1+1) (λq=>zBo I self p1 J u q.1 q.2.1 q.2.2.1 q.2.2.2) (U,W,[],0)
def zBX(self:zD->Int->Option (V×zD))(U:qQ self)(p0:zD)(p1:Int):TT (V×zD) []:=
.fM 10 0 0 (zBZ p0 1) λJ=>
.i 47 (J.2.e_ !=0) (λh3=> .e ((V.mk 0 0 [] []),J.2)) λh3=>
.b (idx J.1 0) λx4 h5=>
.ix 18 cU8 h5<|
.w 20 trivial (zWG x4)<|
.i 65 ((x4.toNat:Int)==1) (λh6=> .fM 24 0 0 (zIf J.2) λx7=>
.e ((V.mk x7.1.k x7.1.n [] []),x7.2)) λh6=>
.i 77 ((x4.toNat:Int)==2) (λh9=> .fM 29 0 0 (zCb J.2 3) λα=>
.fM 30 0 0 (zBZ α.2 α.1) λW=>
.fA 31 (zCw W.1) λδ=>
.fA 32 (zF4 δ) λI=>
.e ((V.mk I.k I.n I.b []),W.2)) λh9=>
.i 101 ((x4.toNat:Int)==3) (λε=> .fM 36 0 0 (zCb J.2 2) λu=>
.j 54 (λq=>[(0,.box [yT q.1,iT q.2]),(1,iA p1),(4,.box [iT 0,iT 0,nT,nT]),(6,iA u.1)]) (λq=>zBq p1 u self U q.1 q.2)<|
.i 120 (decide (u.1>4096)) (λγ=> .fM 44 0 0 (yW u.2) λβ=>
.k [] .z (β.b_,β.e_)) λγ=>
.i 128 (p1==0) (λζ=> .fM 44 0 0 (yW u.2) λZ=>
.k [] .z (Z.b_,Z.e_)) λζ=>
.k [] .z (u.2.b_,u.2.e_)) λε=>
.fM 69 0 0 (yW J.2) λη=>
.e ((V.mk 0 0 [] []),η)
theorem zKg(self:zD->Int->Option (V×zD))(u:qQ self):qQ (λJ I=>(zBX self u J I).run Env.nil):=λJ I=>zU mixed Tryz.func241 (zBX self u J I) (by kernel_rfl)
noncomputable def zBV:Nat->{self:zD->Int->Option (V×zD)// qQ self}
 |0=>⟨λ_ _=>none,λ_ _ _ h=>nomatch h⟩
 |k+1=>⟨_,zKg (zBV k).1 (zBV k).2⟩
def zM(k:Nat):zD->Int->Option (V×zD):=(zBV k).1
theorem zEU(k:Nat):qQ (zM k):=(zBV k).2
def zD3(J:(V×zD))(u:Int):TT (V×Int) []:=
.i 107 (u !=0) (λI=> .e ((V.mk 0 0 [] []),u)) λI=>
.e (J.1,0)
def zKo(J:Y):TT (V×Int) []:=
.ln 7 J cU8<|
.i 26 (decide ((J.length:Int)>1048576)) (λZ=> .e ((V.mk 0 0 [] []),3)) λZ=>
.fM 14 12 0 (zEU (Int.toNat 16+1) (zD.mk J 0) 16) λu=>
.j 30 (λI=>[(2,.box [iT 0,iT 0,nT,nT]),(4,.ref 12 0),(5,.box [iT u.1.k,iT u.1.n,yT u.1.b,.d (.seq 4 (List.map V.cells u.1.l))]),(12,.box [yT u.2.b_,iT I])]) (λI=>zD3 u I)<|
.i 63 (u.2.e_==0) (λU=> .ln 25 u.2.b_ cU8<|
.i 83 (decide ((u.2.b_.length:Int)>0)) (λW=> .k [] .z 12) λW=>
.k [] .z u.2.e_) λU=>
.k [] .z u.2.e_
def zC0 p0:=(zKo p0).q
theorem zJZ p0:∀r,zC0 p0=some r->FP 149 [yA p0] [] (.tup [.agg [iD r.1.k,iD r.1.n,yD r.1.b,.seq 4 (List.map V.cells r.1.l)],iT r.2]):=zU mixed Tryz.func149 _
def zED(u:V):TT ((List V)×Bool) []:=
.e (u.l,true)
def zD2(U:V)(I W:Int):TT ((List V)×Bool) [Int,Unit]:=
.b (idx U.l I) λZ u=>
.w 34 (idxC (c:=V.cells) u) (.oe (zA8 V.cells_eq u))<|
.i 116 (Z.k !=W) (λJ=> .e ([],false)) λJ=>
.k [] .z (wi (I+1))
def zD9(J:List Int)(u:V)(I:Int):TT ((List V)×Bool) [Int,Unit]:=
.i 68 (decide (I<(J.length:Int))) (λh4=> .b (idx J I) λU h6=>
.ix 24 cI64 h6<|
.j 38 (λ_=>[(2,.box [iT u.k,iT u.n,yT u.b,.d (.seq 4 (List.map V.cells u.l))]),(6,iA I),(7,iA U),(19,.t (.d (.seq 1 (List.map cI64 J)))),(20,iA (J.length:Int)),(21,iA I)]) (λ_=>zD2 u I U)<|
.i 83 (U==1) (λZ=> .k [] .z ()) λZ=>
.i 89 (U==2) (λW=> .k [] .z ()) λW=>
.k [] .z ()) λh4=>
.k [] (.s .z) ()
def zK0(u:V)(I:List Int):TT ((List V)×Bool) []:=
.i 36 (u.k !=3) (λZ=> .e ([],false)) λZ=>
.w 14 trivial (lnE u.l V.cells)<|
.ln 16 I cI64<|
.i 56 ((u.l.length:Int) !=(I.length:Int)) (λU=> .e ([],false)) λU=>
.j 50 (λ_=>[(2,.box [iT u.k,iT u.n,yT u.b,.d (.seq 4 (List.map V.cells u.l))])]) (λ_=>zED u)<|
.ln 20 I cI64<|
.l [] (λJ=>[(2,.box [iT u.k,iT u.n,yT u.b,.d (.seq 4 (List.map V.cells u.l))]),(19,.t (.d (.seq 1 (List.map cI64 I)))),(20,iA (I.length:Int)),(21,iA J)]) (I.length+1) (λJ=>zD9 I u J) 0
def zBQ p0 p1:=(zK0 p0 p1).q
theorem zDf p0 p1:∀r,zBQ p0 p1=some r->FP 150 [.t (.agg [iD p0.k,iD p0.n,yD p0.b,.seq 4 (List.map V.cells p0.l)]),.t (.d (.seq 1 (List.map cI64 p1)))] [] (.tup [.d (.seq 4 (List.map V.cells r.1)),bT' r.2]):=zU mixed Tryz.func150 _
def zJC(I u U:V)(J:List Y):TT (zAF×Int) []:=
.e ((zAF.mk I.n u.n U.b J),0)
def zJi(I:V)(u:List Y)(J:Int):TT (zAF×Int) [(List Y)×Int,(List Y)]:=
.iF 188 (decide (J<(I.l.length:Int))) λU=>
.k [] (.s .z) u
def zMT(p0:Y):TT (zAF×Int) []:=
.fA 13 (zJZ p0) λx1=>
.iF 53 (x1.2 !=0) λh3=>
.fA 23 (zDf x1.1 [1,1,2,3]) λJ=>
.iF 87 (!J.2) λh6=>
.b (idx J.1 0) λx7 h8=>
.w 30 (idxC (c:=V.cells) h8) (.oe (zA8 V.cells_eq h8))<|
.iF 108 (decide (x7.n>255)) λh9=>
.b (idx J.1 1) λζ β=>
.w 37 (idxC (c:=V.cells) β) (.oe (zA8 V.cells_eq β))<|
.iF 125 (decide (ζ.n>2305843009213693952)) λη=>
.b (idx J.1 0) λZ α=>
.w 44 (idxC (c:=V.cells) α) (.oe (zA8 V.cells_eq α))<|
.b (idx J.1 1) λI γ=>
.w 48 (idxC (c:=V.cells) γ) (.oe (zA8 V.cells_eq γ))<|
.b (idx J.1 2) λW ε=>
.w 52 (idxC (c:=V.cells) ε) (.oe (zA8 V.cells_eq ε))<|
.j 62 (λU=>[(2,.box [iT 0,iT 0,nT,nT]),(8,.box [iT Z.n,iT I.n,yT W.b,.own 9 1 (List.map cStr U)])]) (λU=>zJC Z I W U)<|
.b (idx J.1 3) λu δ=>
.w 57 (idxC (c:=V.cells) δ) (.oe (zA8 V.cells_eq δ))<|
.w 60 trivial (lnE u.l V.cells)<|
.l [8] (λq=>[(2,.box [iT 0,iT 0,nT,nT]),(8,.box [iT Z.n,iT I.n,yT W.b,.own 9 1 (List.map cStr q.1)]),(59,.t (.d (.seq 4 (List.map V.cells u.l)))),(60,iA (u.l.length:Int)),(61,iA q.2)]) (u.l.length+1) (λq=>zJi u q.1 q.2) ([],0)
def zBL p0:=(zMT p0).q
theorem zFm p0:∀r,zBL p0=some r->FP 50 [yA p0] [] (.tup [.agg [iD r.1.Err,iD r.1.Version,yD r.1.Data,.seq 1 (List.map cStr r.1.Keys)],iT r.2]):=zU mixed Tryz.func50 _
def zTo(u:Y):TT V []:=
.e (V.mk 2 0 u [])
def zES p0:=(zTo p0).q
theorem zGw p0:∀r,zES p0=some r->FP 145 [yA p0] [] (.t (.agg [iD r.k,iD r.n,yD r.b,nD])):=zU mixed Tryz.func145 _
def zIs(J:Int)(I:Y):TT (Y×Int) []:=
.i 110 (decide (J>0)) (λu=> .e ([],2)) λu=>
.y 37 true<|
.y 4 true<|
.e (I,0)
def zJe(p1 J:Int)(W:Y)(I:Int):TT (Y×Int) [Int×Y×Int,Int×Y]:=
.i 74 (decide (I<p1)) (λZ=> .y 27 true<|
.w 30 trivial (u8E (Int.tmod J 256))<|
.b (appI 1 W [(U8 (Int.tmod J 256))]) λU u=>
.w 32 (appC (c:=cU8) u) (.oe (appE (E:=5) (k:=1) (c:=cU8) u))<|
.y 6 true<|
.k [] .z ((wi (Int.tdiv J 256)),U,(wi (I+1)))) λZ=>
.k [] (.s .z) (J,W)
def zQU(I u:Int):TT (Y×Int) []:=
.i 33 (decide (u<1)) (λZ=> .e ([],2)) λZ=>
.i 45 (decide (u>8)) (λJ=> .e ([],2)) λJ=>
.i 57 (decide (I<0)) (λW=> .e ([],2)) λW=>
.i 65 (decide (I>4611686018427387904)) (λU=> .e ([],2)) λU=>
.j 38 (λq=>[(0,iA q.1),(6,.t (.own 5 1 (zV q.2)))]) (λq=>zIs q.1 q.2)<|
.l [6] (λq=>[(0,iA q.1),(1,iA u),(6,.t (.own 5 1 (zV q.2.1))),(7,iA q.2.2)]) (Int.toNat u+1) (λq=>zJe u q.1 q.2.1 q.2.2) (I,[],0)
def zMH(I u:Int):Option (Y×Int):=(zQU I u).run Env.nil
theorem zYG(I u:Int):∀r,zMH I u=some r->FP 307 [iA I,iA u] [] (.tup [yT r.1,iT r.2]):=zU mixed Tryz.func307 (zQU I u) (by kernel_rfl)
def zFU(U I:Y)(u:Int):TT Y [Y×Int]:=
.i 29 (decide (u>=0)) (λh3=> .y 12 true<|
.b (idx U u) λZ W=>
.ix 15 cU8 W<|
.b (appI 1 I [Z]) λx6 J=>
.w 18 (appC (c:=cU8) J) (.oe (appE (E:=5) (k:=1) (c:=cU8) J))<|
.y 3 true<|
.k [] .z (x6,(wi (u-1)))) λh3=>
.y 19 true<|
.y 2 true<|
.e I
def zOB(u:Y):TT Y []:=
.ln 6 u cU8<|
.l [3] (λq=>[(0,yA u),(3,.t (.own 5 1 (zV q.1))),(4,iA q.2)]) (Int.toNat (wi ((u.length:Int)-1))+2) (λq=>zFU u q.1 q.2) ([],(wi ((u.length:Int)-1)))
def zEb p0:=(zOB p0).q
theorem zTJ p0:∀r,zEb p0=some r->FP 308 [yA p0] [] (.t (.own 5 1 (zV r))):=zU mixed Tryz.func308 _
def zPn(U I:Int):TT (Y×Int) []:=
.fA 11 (zYG U I) λu=>
.fA 15 (zTJ u.1) λJ=>
.y 4 true<|
.e (J,u.2)
def zEQ(I u:Int):Option (Y×Int):=(zPn I u).run Env.nil
theorem zNR(I u:Int):∀r,zEQ I u=some r->FP 240 [iA I,iA u] [] (.tup [yT r.1,iT r.2]):=zU mixed Tryz.func240 (zPn I u) (by kernel_rfl)
abbrev zC9(self:V->Option Y):Prop:=∀(u:V) (r:Y),self u=some r->FP 146 [.t (.agg [iD u.k,iD u.n,yD u.b,.seq 4 (List.map V.cells u.l)])] [] (.t (.own 5 1 (zV r)))
def zGS(J:V)(u:Int):TT Y []:=
.w 27 trivial (u8E u)<|
.y 5 true<|
.i 92 (decide (u>0)) (λW=> .fA 35 (zNR J.n u) λU=>
.y 38 true<|
.b (appI 1 [1,(U8 u)] U.1) λZ I=>
.w 40 (appC (c:=cU8) I) (.oe (appE (E:=5) (k:=1) (c:=cU8) I))<|
.y 5 true<|
.y 41 true<|
.y 2 true<|
.e Z) λW=>
.y 41 true<|
.y 2 true<|
.e [1,(U8 u)]
def zGi(J I:Int):TT Y [Int×Int,Int]:=
.i 65 (decide (I>0)) (λu=> .k [] .z ((wi (J+1)),(wi (Int.tdiv I 256)))) λu=>
.k [] (.s .z) J
def zGX(p0:V)(self:V->Option Y)(I:(zC9 self))(Z:Y)(u:Int):TT Y [Y×Int]:=
.w 74 trivial (lnE p0.l V.cells)<|
.i 227 (decide (u<(p0.l.length:Int))) (λα=> .y 78 true<|
.b (idx p0.l u) λU J=>
.w 82 (idxC (c:=V.cells) J) (.oe (zA8 V.cells_eq J))<|
.b (self U) λδ β=>
.o 84 (cA (I U _ β))<|
.b (appI 1 Z δ) λγ W=>
.w 85 (appC (c:=cU8) W) (.oe (appE (E:=5) (k:=1) (c:=cU8) W))<|
.y 13 true<|
.k [] .z (γ,(wi (u+1)))) λα=>
.y 86 true<|
.y 2 true<|
.e Z
def zHm(self:V->Option Y)(I:zC9 self)(u:V):TT Y []:=
.i 53 (u.k==1) (λh1=> .j 30 (λy2=>[(1,.box [iT u.k,iT u.n,yT u.b,.d (.seq 4 (List.map V.cells u.l))]),(3,iA y2)]) (λy2=>zGS u y2)<|
.l [] (λq=>[(1,.box [iT u.k,iT u.n,yT u.b,.d (.seq 4 (List.map V.cells u.l))]),(3,iA q.1),(4,iA q.2)]) (70) (λq=>zGi q.1 q.2) (0,u.n)) λh1=>
.i 134 (u.k==2) (λε=> .ln 48 u.b cU8<|
.fA 49 (zNR (u.b.length:Int) 3) λα=>
.y 10 true<|
.y 53 true<|
.b (appI 1 [2] α.1) λγ U=>
.w 55 (appC (c:=cU8) U) (.oe (appE (E:=5) (k:=1) (c:=cU8) U))<|
.y 10 true<|
.y 56 true<|
.b (appI 1 γ u.b) λβ Z=>
.w 59 (appC (c:=cU8) Z) (.oe (appE (E:=5) (k:=1) (c:=cU8) Z))<|
.y 2 true<|
.e β) λε=>
.w 63 trivial (lnE u.l V.cells)<|
.fA 64 (zNR (u.l.length:Int) 2) λδ=>
.y 13 true<|
.y 68 true<|
.b (appI 1 [3] δ.1) λW J=>
.w 70 (appC (c:=cU8) J) (.oe (appE (E:=5) (k:=1) (c:=cU8) J))<|
.y 13 true<|
.l [] (λq=>[(1,.box [iT u.k,iT u.n,yT u.b,.d (.seq 4 (List.map V.cells u.l))]),(13,.t (.own 5 1 (zV q.1))),(14,iA q.2)]) (u.l.length+1) (λq=>zGX u self I q.1 q.2) (W,0)
theorem zVU(self:V->Option Y)(u:zC9 self):zC9 (λI=>(zHm self u I).run Env.nil):=λI=>zU mixed Tryz.func146 (zHm self u I) (by kernel_rfl)
noncomputable def zHI:Nat->{self:V->Option Y // zC9 self}
 |0=>⟨λ_=>none,λ_ _ h=>nomatch h⟩
 |k+1=>⟨_,zVU (zHI k).1 (zHI k).2⟩
def zBS(k:Nat):V->Option Y:=(zHI k).1
theorem zOF(k:Nat):zC9 (zBS k):=(zHI k).2
def zXS(u:List V):TT V []:=
.e (V.mk 3 0 [] u)
def zGB p0:=(zXS p0).q
theorem zJ2 p0:∀r,zGB p0=some r->FP 147 [.t (.d (.seq 4 (List.map V.cells p0)))] [] (.t (.agg [iD r.k,iD r.n,nD,.seq 4 (List.map V.cells r.l)])):=zU mixed Tryz.func147 _
def zUS(u:Int):TT V []:=
.e (V.mk 1 u [] [])
def zCz p0:=(zUS p0).q
theorem zDx p0:∀r,zCz p0=some r->FP 148 [iA p0] [] (.t (.agg [iD r.k,iD r.n,nD,nD])):=zU mixed Tryz.func148 _
def zGk(p0:zB)(y1 y2:List V):TT Y []:=
.fA 71 (zDx p0.Kind) λx3=>
.b (strB p0.User) λx5 h6=>
.w 74 (strBC h6) (.oe (strBE h6))<|
.fA 75 (zGw x5) λZ=>
.fA 78 (zDx p0.Number) λW=>
.b (strB p0.Key) λβ α=>
.w 81 (strBC α) (.oe (strBE α))<|
.fA 82 (zGw β) λJ=>
.fA 84 (zJ2 y1) λu=>
.fA 86 (zJ2 y2) λI=>
.w 87 trivial (show WkA (.t (.own 163 4 [[iD x3.k,iD x3.n,nD,nD],[iD Z.k,iD Z.n,yD Z.b,nD],[iD W.k,iD W.n,nD,nD],[iD J.k,iD J.n,yD J.b,nD],[iD u.k,iD u.n,nD,.seq 4 (List.map V.cells u.l)],[iD I.k,iD I.n,nD,.seq 4 (List.map V.cells I.l)]])) _ from(.t (.rows _ _ (.cons (.cons (.refl _) (.cons (.refl _) (.cons (.nil _) (.cons (.nil _) .nil)))) (.cons (.cons (.refl _) (.cons (.refl _) (.cons (.refl _) (.cons (.nil _) .nil)))) (.cons (.cons (.refl _) (.cons (.refl _) (.cons (.nil _) (.cons (.nil _) .nil)))) (.cons (.cons (.refl _) (.cons (.refl _) (.cons (.refl _) (.cons (.nil _) .nil)))) (.cons (.cons (.refl _) (.cons (.refl _) (.cons (.nil _) (.cons (.refl _) .nil)))) (.cons (.cons (.refl _) (.cons (.refl _) (.cons (.nil _) (.cons (.refl _) .nil)))) .nil)))))) (zMc V.cells_eq [(V.mk x3.k x3.n [] []),(V.mk Z.k Z.n Z.b []),(V.mk W.k W.n [] []),(V.mk J.k J.n J.b []),(V.mk u.k u.n [] u.l),(V.mk I.k I.n [] I.l)]))))<|
.fA 88 (zJ2 [(V.mk x3.k x3.n [] []),(V.mk Z.k Z.n Z.b []),(V.mk W.k W.n [] []),(V.mk J.k J.n J.b []),(V.mk u.k u.n [] u.l),(V.mk I.k I.n [] I.l)]) λU=>
.fA 89 (zOF (V.ht (V.mk U.k U.n [] U.l)) (V.mk U.k U.n [] U.l)) λγ=>
.y 2 true<|
.e γ
def zGf(p0:zB)(γ:List V)(W:Int):TT Y [(List V)×Int,(List V)]:=
.ln 42 p0.Changes zC<|
.i 131 (decide (W<(p0.Changes.length:Int))) (λζ=> .b (idx p0.Changes W) λZ δ=>
.ix 49 zC δ<|
.y 51 true<|
.fA 54 (zDx Z.Kind) λU=>
.b (strB Z.Key) λε β=>
.w 57 (strBC β) (.oe (strBE β))<|
.fA 58 (zGw ε) λx32=>
.fA 61 (zDx Z.Version) λJ=>
.fA 64 (zGw Z.Data) λu=>
.w 65 trivial (show WkA (.t (.own 163 4 [[iD U.k,iD U.n,nD,nD],[iD x32.k,iD x32.n,yD x32.b,nD],[iD J.k,iD J.n,nD,nD],[iD u.k,iD u.n,yD u.b,nD]])) _ from(.t (.rows _ _ (.cons (.cons (.refl _) (.cons (.refl _) (.cons (.nil _) (.cons (.nil _) .nil)))) (.cons (.cons (.refl _) (.cons (.refl _) (.cons (.refl _) (.cons (.nil _) .nil)))) (.cons (.cons (.refl _) (.cons (.refl _) (.cons (.nil _) (.cons (.nil _) .nil)))) (.cons (.cons (.refl _) (.cons (.refl _) (.cons (.refl _) (.cons (.nil _) .nil)))) .nil)))) (zMc V.cells_eq [(V.mk U.k U.n [] []),(V.mk x32.k x32.n x32.b []),(V.mk J.k J.n [] []),(V.mk u.k u.n u.b [])]))))<|
.fA 66 (zJ2 [(V.mk U.k U.n [] []),(V.mk x32.k x32.n x32.b []),(V.mk J.k J.n [] []),(V.mk u.k u.n u.b [])]) λI=>
.w 67 trivial (show WkA (.t (.own 163 4 [[iD I.k,iD I.n,nD,.seq 4 (List.map V.cells I.l)]])) _ from(.t (.rows _ _ (.cons (.cons (.refl _) (.cons (.refl _) (.cons (.nil _) (.cons (.refl _) .nil)))) .nil) (zMc V.cells_eq [(V.mk I.k I.n [] I.l)]))))<|
.b (appI 64 γ [(V.mk I.k I.n [] I.l)]) λη α=>
.w 68 (appC (c:=V.cells) α) (.oe (appE (E:=163) (k:=4) (c:=V.cells) α))<|
.y 6 true<|
.k [] .z (η,(wi (W+1)))) λζ=>
.k [] (.s .z) γ
def zGb(u:zB)(I:List V):TT Y []:=
.j 54 (λJ=>[(1,.box [iT u.Kind,sT u.User,iT u.Number,sT u.Key,.d (.seq 4 (List.map zG u.Wants)),.d (.seq 4 (List.map zC u.Changes))]),(3,.t (.own 163 4 (List.map V.cells I))),(6,.t (.own 163 4 (List.map V.cells J)))]) (λJ=>zGk u I J)<|
.l [6] (λq=>[(1,.box [iT u.Kind,sT u.User,iT u.Number,sT u.Key,.d (.seq 4 (List.map zG u.Wants)),.d (.seq 4 (List.map zC u.Changes))]),(3,.t (.own 163 4 (List.map V.cells I))),(6,.t (.own 163 4 (List.map V.cells q.1))),(7,iA q.2)]) (u.Changes.length+1) (λq=>zGf u q.1 q.2) ([],0)
def zGP(p0:zB)(δ:List V)(α:Int):TT Y [(List V)×Int,(List V)]:=
.ln 12 p0.Wants zG<|
.i 41 (decide (α<(p0.Wants.length:Int))) (λζ=> .b (idx p0.Wants α) λW η=>
.ix 19 zG η<|
.y 21 true<|
.fA 24 (zDx W.Kind) λJ=>
.b (strB W.Key) λε γ=>
.w 27 (strBC γ) (.oe (strBE γ))<|
.fA 28 (zGw ε) λI=>
.fA 31 (zDx W.Version) λU=>
.fA 34 (zDx W.Size) λZ=>
.w 35 trivial (show WkA (.t (.own 163 4 [[iD J.k,iD J.n,nD,nD],[iD I.k,iD I.n,yD I.b,nD],[iD U.k,iD U.n,nD,nD],[iD Z.k,iD Z.n,nD,nD]])) _ from(.t (.rows _ _ (.cons (.cons (.refl _) (.cons (.refl _) (.cons (.nil _) (.cons (.nil _) .nil)))) (.cons (.cons (.refl _) (.cons (.refl _) (.cons (.refl _) (.cons (.nil _) .nil)))) (.cons (.cons (.refl _) (.cons (.refl _) (.cons (.nil _) (.cons (.nil _) .nil)))) (.cons (.cons (.refl _) (.cons (.refl _) (.cons (.nil _) (.cons (.nil _) .nil)))) .nil)))) (zMc V.cells_eq [(V.mk J.k J.n [] []),(V.mk I.k I.n I.b []),(V.mk U.k U.n [] []),(V.mk Z.k Z.n [] [])]))))<|
.fA 36 (zJ2 [(V.mk J.k J.n [] []),(V.mk I.k I.n I.b []),(V.mk U.k U.n [] []),(V.mk Z.k Z.n [] [])]) λu=>
.w 37 trivial (show WkA (.t (.own 163 4 [[iD u.k,iD u.n,nD,.seq 4 (List.map V.cells u.l)]])) _ from(.t (.rows _ _ (.cons (.cons (.refl _) (.cons (.refl _) (.cons (.nil _) (.cons (.refl _) .nil)))) .nil) (zMc V.cells_eq [(V.mk u.k u.n [] u.l)]))))<|
.b (appI 64 δ [(V.mk u.k u.n [] u.l)]) λθ β=>
.w 38 (appC (c:=V.cells) β) (.oe (appE (E:=163) (k:=4) (c:=V.cells) β))<|
.y 3 true<|
.k [] .z (θ,(wi (α+1)))) λζ=>
.k [] (.s .z) δ
def zQg(u:zB):TT Y []:=
.j 30 (λI=>[(1,.box [iT u.Kind,sT u.User,iT u.Number,sT u.Key,.d (.seq 4 (List.map zG u.Wants)),.d (.seq 4 (List.map zC u.Changes))]),(3,.t (.own 163 4 (List.map V.cells I)))]) (λI=>zGb u I)<|
.l [3] (λq=>[(1,.box [iT u.Kind,sT u.User,iT u.Number,sT u.Key,.d (.seq 4 (List.map zG u.Wants)),.d (.seq 4 (List.map zC u.Changes))]),(3,.t (.own 163 4 (List.map V.cells q.1))),(4,iA q.2)]) (u.Wants.length+1) (λq=>zGP u q.1 q.2) ([],0)
def zDI p0:=(zQg p0).q
theorem zNx p0:∀r,zDI p0=some r->FP 57 [.t (.agg [iD p0.Kind,sD p0.User,iD p0.Number,sD p0.Key,.seq 4 (List.map zG p0.Wants),.seq 4 (List.map zC p0.Changes)])] [] (.t (.own 5 1 (zV r))):=zU mixed Tryz.func57 _
def zUP(u:Int):TT Int []:=
.e (wi (Int.tdiv (wi ((wi (u+512))-1)) 512))
def zVE p0:=(zUP p0).q
theorem zMg p0:∀r,zVE p0=some r->FP 180 [iA p0] [] (iA r):=zU mixed Tryz.func180 _
def zXo(I:Int):TT qB []:=
.fA 6 (zMg I) λu=>
.fA 18 (zMg (if 0>(wi ((wi (I-2))-(wi (1+(wi (2*(wi (513+u))))))))then 0 else(wi ((wi (I-2))-(wi (1+(wi (2*(wi (513+u)))))))))) λJ=>
.e (qB.mk (wi (1+(wi (2*(wi (513+u)))))) (if 0>(wi ((wi (I-2))-(wi (1+(wi (2*(wi (513+u))))))))then 0 else(wi ((wi (I-2))-(wi (1+(wi (2*(wi (513+u))))))))) J)
def zNY p0:=(zXo p0).q
theorem zLh p0:∀r,zNY p0=some r->FP 91 [iA p0] [] (.t (.agg [iD r.size_,iD r.homes_,iD r.maps_])):=zU mixed Tryz.func91 _
def zIV(I:qB):TT Int []:=
.fA 4 (zDX I) λu=>
.e (wi (u+4))
def zA6 p0:=(zIV p0).q
theorem zAb p0:∀r,zA6 p0=some r->FP 97 [.t (.agg [iD p0.size_,iD p0.homes_,iD p0.maps_])] [] (iA r):=zU mixed Tryz.func97 _
def zJQ(u:qB):TT Int []:=
.fA 6 (zAb u) λI=>
.e (wi (u.homes_-I))
def zJI p0:=(zJQ p0).q
theorem zA7 p0:∀r,zJI p0=some r->FP 92 [.t (.agg [iD p0.size_,iD p0.homes_,iD p0.maps_])] [] (iA r):=zU mixed Tryz.func92 _
def zT4(u:Int):TT Int []:=
.iF 18 (decide (u<1)) λZ=>
.iF 26 (decide (u>16384)) λU=>
.fA 10 (zLh u) λJ=>
.fA 11 (zA7 J) λI=>
.e (if 0>I then 0 else I)
def zJc p0:=(zT4 p0).q
theorem zSl p0:∀r,zJc p0=some r->FP 25 [iA p0] [] (iA r):=zU mixed Tryz.func25 _
def zX8(U:O)(u:Int)(W:Hp):TT Bool []:=
.i 24 (decide (u>=3)) (λI=> .fR 10 (yI U W) λJ=>
.e (decide (u<=(wi ((wi (J-2))-1))))) λI=> .no
def zNq p0 p1 W:=(zX8 p0 p1 W).q
theorem zN3 p0 p1 W:∀r,zNq p0 p1 W=some r->FH 181 [oA 1 p0,iA p1] [] [] (hpA W) (hpA W) (bA r):=zN mixed [] Tryz.func181 _
def zIJ(u:O)(W:Hp):TT (Bool×Hp) []:=
.pS u λU J=>
.s 16 3 1 J<|
.b (W.ge_dk U) λx3 I=>
.o 6 (ld (zMa I))<|
.i 23 (decide (x3.fuse_<0)) (λZ=> .e (false,W)) λZ=> .no
def yZ p0 W:=(zIJ p0 W).q
theorem zF8 p0 W:∀r,yZ p0 W=some r->FH 276 [oA 1 p0] [] [] (hpA W) (hpA r.2) (bA r.1):=zN mixed [] Tryz.func276 _
def zG4(p0:O)(p1:Int)(p2:Y)(W:Hp):TT (Int×Hp) []:=
.fR 11 (zCg p0 p1 W) λx1=>
.iF 41 (x1 !=0) λh3=>
.ln 16 p2 cU8<|
.iF 53 ((p2.length:Int) !=64) λh4=>
.b (s2aI 64 p2) λx5 h6=>
.o 20 (s2a (c:=cU8) (0:UInt8) h6)<|
.pS p0 λi8 h7=>
.s 100 24 1 h7<|
.b (W.ge_dk i8) λu J=>
.o 27 (htake (zMa J))<|
.b (appI 72 u.wait_ [(qU.mk p1 x5)]) λη δ=>
.w 30 (appC (c:=zBu) δ) (.oe (appE (E:=238) (k:=65) (c:=zBu) δ))<|
.s 124 23 1 h7<|
let I:qF:=(qF.mk u.kept_ u.now_ η u.fuse_ u.off_ u.lives_);let Z:=(W.st_dk i8 I);.o 43 (hsto (l1:=[.hvw (cd 2 u.kept_.1) 0 236 64 u.kept_.2,.hvw (cd 2 u.now_.1) 0 236 64 u.now_.2,.d (.seq 65 (List.map zBu u.wait_)),iT u.fuse_,bT' u.off_,iT u.lives_]) (su2_dk (x':=I) J))<|
have θ:Z.ge_dk i8=some I:=(zFq J);.s 136 33 1 h7<|
.o 36 (ld (zMa θ))<|
.b (Z.ge_sec I.now_.1) λα β=>
.b (lenI α.length I.now_.2) λν ζ=>
.b (idx α p1) λκ U=>
.c 40 (idxV (yR ζ) U)<|
let ε:(List Y):=(α.set (Int.toNat p1) x5);let ι:=(Z.st_sec I.now_.1 ε);.o 43 (stA (n:=64) (zW4 β) (zE7 (c:=zCM) (k:=64) (q:=0) U (λ_=>(by kernel_rfl)) rfl) (zHP (x:=dT zCM x5) (c:=zCM) (k:=64) (q:=0) U x5 (λ_=>(by kernel_rfl)) (by kernel_rfl) (by kernel_rfl)) (su_sec (x':=ε) β))<|
.fH 42 (zF8 p0 ι) λγ=>
.iF 128 γ.1 λμ=>
.e (0,γ.2)
def zAI p0 p1 p2 W:=(zG4 p0 p1 p2 W).q
theorem zAy p0 p1 p2 W:∀r,zAI p0 p1 p2 W=some r->FH 182 [oA 1 p0,iA p1,yA p2] [] [] (hpA W) (hpA r.2) (iA r.1):=zN mixed [] Tryz.func182 _
def zCr(p0:O)(Z:Hp):TT (Int×Hp) []:=
.pS p0 λW h8=>
.s 132 32 1 h8<|
.b (Z.ge_dk W) λu J=>
let I:qF:=(qF.mk u.kept_ u.now_ [] u.fuse_ u.off_ u.lives_);let U:=(Z.st_dk W I);.o 35 (stw (zMa J) (su_dk (x':=I) J))<|
.e (0,U)
def zCo(δ:qF)(p0:O)(α:Nat)(ζ:p0=some α)(U:Int)(I:Hp):TT (Int×Hp) [Int×Hp,Hp]:=
.i 59 (decide (U<(δ.wait_.length:Int))) (λη=> .b (idx δ.wait_ U) λu κ=>
.ix 20 zBu κ<|
.s 92 22 1 ζ<|
.b (I.ge_dk α) λW ε=>
.o 25 (ld (zMa ε))<|
.b (I.ge_sec W.kept_.1) λJ γ=>
.b (lenI J.length W.kept_.2) λν θ=>
.b (idx J u.n_) λμ Z=>
.c 30 (idxV (yR θ) Z)<|
let β:(List Y):=(J.set (Int.toNat u.n_) u.b_);let ι:=(I.st_sec W.kept_.1 β);.o 35 (stA (n:=64) (zW4 γ) (zE7 (c:=zCM) (k:=64) (q:=0) Z (λ_=>(by kernel_rfl)) rfl) (zHP (x:=dT zCM u.b_) (c:=zCM) (k:=64) (q:=0) Z u.b_ (λ_=>(by kernel_rfl)) (by kernel_rfl) (by kernel_rfl)) (su_sec (x':=β) γ))<|
.k [] .z ((wi (U+1)),ι)) λη=>
.k [] (.s .z) I
def zGn(I:O)(W:Hp):TT (Int×Hp) []:=
.fR 7 (zCg I 0 W) λx1=>
.iF 29 (x1 !=0) λh3=>
.fH 12 (zF8 I W) λx4=>
.iF 38 x4.1 λh6=>
.j 46 (λZ=>[(0,oA 1 I),kH Z]) (λZ=>zCr I Z)<|
.pS I λU J=>
.s 56 13 1 J<|
.b (x4.2.ge_dk U) λu α=>
.o 16 (ld (zMa α))<|
.ln 17 u.wait_ zBu<|
.l [] (λq=>[(0,oA 1 I),(16,.t (.d (.seq 65 (List.map zBu u.wait_)))),(17,iA (u.wait_.length:Int)),(18,iA q.1),kH q.2]) (u.wait_.length+1) (λq=>zCo u I U J q.1 q.2) (0,x4.2)
def zAo p0 W:=(zGn p0 W).q
theorem zA1 p0 W:∀r,zAo p0 W=some r->FH 183 [oA 1 p0] [] [] (hpA W) (hpA r.2) (iA r.1):=zN mixed [] Tryz.func183 _
def zOL(u:Y)(X n0:Nat)(J:Int):TT Y []:=
.fA 10 (zBn J ((n0:Nat):Int)) λZ=>
.b (cpyI u X n0 Z.1) λI U=>
.b (lenI I.length u.length) λW _=>
.o 15 (cpy (c:=cU8) 0 (λ_=>rfl) U)<|
.e I
def zCa(I:Y)(X n0:Nat)(u:Int):Option Y:=(zOL I X n0 u).run Env.nil
theorem zB3(I:Y)(X n0:Nat)(u:Int)(W:Hp):∀r,zCa I X n0 u=some r->FH 277 [.t (.view 0 X 0 1 n0),iA u] [.box (fl (dT cU8) I)] [.box (fl (dT cU8) r)] (hpA W) (hpA W) (.tup []):=zN mixed [] Tryz.func277 (zOL I X n0 u) (by kernel_rfl)
def zJk(Z p1:Int)(W:Hp):TT Y []:=
.b (mkI 1 64) λu h2=>
.o 6 (mkl false 0 (c0:=dT cU8 (0:UInt8)) h2 (zOC (c:=cU8) (z:=(0:UInt8)) (by kernel_rfl) u))<|
.b (vcut u 0 8) λx3 h4=>
.o 8 (lsl (off':=(0+Int.toNat 0*1)) (n':=(Int.toNat 8-Int.toNat 0)) (zBW h4))<|
.b (zCa (List.replicate u (0:UInt8)) (0+Int.toNat 0*1) (Int.toNat 8-Int.toNat 0) Z) λU h6=>
.b (lenI U.length (List.replicate u (0:UInt8)).length) λx7 h8=>
.o 10 (cOR [0] [] (zB3 (List.replicate u (0:UInt8)) (0+Int.toNat 0*1) (Int.toNat 8-Int.toNat 0) Z W _ h6) (zBA _ _ yH) (zBA _ _ yH))<|
.b (vcut u 8 12) λx9 β=>
.o 12 (lsl (off':=(0+Int.toNat 8*1)) (n':=(Int.toNat 12-Int.toNat 8)) (zBW β))<|
.b (zCa U (0+Int.toNat 8*1) (Int.toNat 12-Int.toNat 8) p1) λI γ=>
.b (lenI I.length U.length) λι α=>
.o 14 (cOR [0] [] (zB3 U (0+Int.toNat 8*1) (Int.toNat 12-Int.toNat 8) p1 W _ γ) (zBA _ _ yH) (zBA _ _ yH))<|
.b (vcut u 56 (u:Int)) λθ δ=>
.o 16 (lsl (off':=(0+Int.toNat 56*1)) (n':=(Int.toNat (u:Int)-Int.toNat 56)) (zBW δ))<|
.b (zCa I (0+Int.toNat 56*1) (Int.toNat (u:Int)-Int.toNat 56) Z) λJ ζ=>
.b (lenI J.length I.length) λη ε=>
.o 18 (cOR [0] [] (zB3 I (0+Int.toNat 56*1) (Int.toNat (u:Int)-Int.toNat 56) Z W _ ζ) (zBA _ _ yH) (zBA _ _ yH))<|
.f 1 (frzB (c:=cU8) (k:=1) 4 0 (y:=J) (λ_=>rfl) (f:=hpA W) (n0:=u) ((yR ε).trans ((yR α).trans ((yR h8).trans wW))).symm [obB 0 cU8 J,obH (hpA W)])<|
.e J
def zJR(I u:Int)(W:Hp):Option Y:=(zJk I u W).run Env.nil
theorem zGo(I u:Int)(W:Hp):∀r,zJR I u W=some r->FH 184 [iA I,iA u] [] [] (hpA W) (hpA W) (yA r):=zN mixed [0] Tryz.func184 (zJk I u W) (by kernel_rfl)
def zFY(J:O)(p1:Int)(W:Hp):TT (Int×Hp) []:=
.fH 32 (zA1 J W) λZ=>
.iF 104 (Z.1 !=0) λα=>
.fR 38 (zGo 1 p1 Z.2) λU=>
.fH 39 (zAy J 0 U Z.2) λI=>
.iF 125 (I.1 !=0) λβ=>
.fH 44 (zA1 J I.2) λu=>
.e (u.1,u.2)
def zFp(p1:Int)(p0:O)(u:Int)(U:Hp):TT (Int×Hp) [Int×Hp,Hp]:=
.i 65 (decide (u<(wi (2+p1)))) (λZ=> .b (mkI 1 64) λJ W=>
.o 26 (mko W (z:=(.int .u8 0)) (rs:=zV (List.replicate J (0:UInt8))) (by unfold zV;rw[List.map_replicate];try rfl))<|
.fH 27 (zAy p0 u (List.replicate J (0:UInt8)) U) λI=>
.iF 89 (I.1 !=0) λα=>
.k [] .z ((wi (u+1)),I.2)) λZ=>
.k [] (.s .z) U
def zN2(I:O)(u:Int)(W:Hp):TT (Int×Hp) []:=
.fR 11 (yI I W) λZ=>
.iF 29 (Z==0) λh3=>
.fR 16 (zN3 I u W) λU=>
.iF 41 (!U) λh6=>
.j 46 (λJ=>[(0,oA 1 I),(1,iA u),kH J,kF 0]) (λJ=>zFY I u J)<|
.l [] (λq=>[(0,oA 1 I),(1,iA u),(5,iA q.1),kH q.2,kF 0]) (Int.toNat (wi (2+u))+1) (λq=>zFp u I q.1 q.2) (1,W)
def zCf p0 p1 W:=(zN2 p0 p1 W).q
theorem zRP p0 p1 W:∀r,zCf p0 p1 W=some r->FH 94 [oA 1 p0,iA p1] [] [] (hpA W) (hpA r.2) (iA r.1):=zN mixed [0] Tryz.func94 _
def zOh(u:UInt8):TT Bool []:=
.e ((u.toNat:Int) !=0)
def zIA p0:=(zOh p0).q
theorem zND p0:∀r,zIA p0=some r->FP 332 [.t (.d (.lit (.int .u8 (p0.toNat:Int))))] [] (bA r):=zU mixed Tryz.func332 _
def zSi(I:Y):TT Bool []:=
.fA 4 (zCR I 332 [] zIA zND ⟨_,Tryz.func332,rfl,rfl⟩) λu=>
.e (!u)
def zTR p0:=(zSi p0).q
theorem zK5 p0:∀r,zTR p0=some r->FP 279 [yA p0] [] (bA r):=zU mixed Tryz.func279 _
def zRO(p0:O)(p1:Int)(W:Hp):TT (Int×Int×Bool) []:=
.fR 15 (zDT p0 p1 W) λI=>
.iF 59 (I.2 !=0) λh3=>
.b (cutI I.1 0 8) λx4 h5=>
.w 22 (zVg (c:=cU8) h5) (.oe (zUB (k:=1) (c:=cU8) h5))<|
.fA 23 (zBp x4) λx6=>
.b (cutI I.1 56 (I.1.length:Int)) λx8 h9=>
.w 28 (zUj (c:=cU8) h9) (.oe (zVG (k:=1) (c:=cU8) h9))<|
.fA 29 (zBp x8) λU=>
.b (cutI I.1 8 12) λβ J=>
.w 34 (cutC (c:=cU8) J) (.oe (cutE (k:=1) (c:=cU8) J))<|
.fA 35 (zBp β) λu=>
.iF 123 (x6.2 !=0) λθ=>
.iF 135 (U.2 !=0) λη=>
.iF 147 (u.2 !=0) λν=>
.iF 162 (x6.1 !=U.1) λζ=>
.i 174 (decide (x6.1<1)) (λα=> .e (0,0,false)) λα=>
.iF 186 (decide (x6.1>2305843009213693952)) λι=>
.fR 64 (zN3 p0 u.1 W) λδ=>
.iF 204 (!δ) λμ=>
.b (cutI I.1 12 56) λγ Z=>
.w 69 (cutC (c:=cU8) Z) (.oe (cutE (k:=1) (c:=cU8) Z))<|
.fA 70 (zK5 γ) λε=>
.iF 218 (!ε) λκ=>
.e (x6.1,u.1,true)
def zQ0 p0 p1 W:=(zRO p0 p1 W).q
theorem zOS p0 p1 W:∀r,zQ0 p0 p1 W=some r->FH 187 [oA 1 p0,iA p1] [] [] (hpA W) (hpA W) (.tup [iT r.1,iT r.2.1,bT' r.2.2]):=zN mixed [] Tryz.func187 _
end
set_option maxRecDepth 20000
noncomputable section
def zNi(Z:List zZ)(W:O)(U:Int)(I:Hp):TT (Int×Hp) [Int×Hp]:=
.i 35 (decide (U<(Z.length:Int))) (λh3=> .b (idx Z U) λx4 h5=>
.ix 12 zO h5<|
.pS W λi7 h6=>
.s 60 14 3 h6<|
.b (I.ge_lg i7) λx8 h9=>
.o 17 (ld (zAm h9))<|
.fR 21 (zEt W x4.Home I) λJ=>
.fH 24 (zAy x8.d_ J x4.Data I) λu=>
.iF 80 (u.1 !=0) λα=>
.k [] .z ((wi (U+1)),u.2)) λh3=>
.e (0,I)
def zQ2(I:O)(u:List zZ)(W:Hp):TT (Int×Hp) []:=
.ln 9 u zO<|
.l [] (λq=>[(0,oA 3 I),(8,.t (.d (.seq 2 (List.map zO u)))),(9,iA (u.length:Int)),(10,iA q.1),kH q.2]) (u.length+1) (λq=>zNi u I q.1 q.2) (0,W)
def zQo p0 p1 W:=(zQ2 p0 p1 W).q
theorem zIF p0 p1 W:∀r,zQo p0 p1 W=some r->FH 188 [oA 3 p0,.t (.d (.seq 2 (List.map zO p1)))] [] [] (hpA W) (hpA r.2) (iA r.1):=zN mixed [] Tryz.func188 _
def zNf(Z:yB)(p1:Int)(W:Hp):TT Y []:=
.b (mkI 1 64) λI h2=>
.o 6 (mkl false 0 (c0:=dT cU8 (0:UInt8)) h2 (zOC (c:=cU8) (z:=(0:UInt8)) (by kernel_rfl) I))<|
.w 10 trivial (u8E Z.kind_)<|
.b (idx (List.replicate I (0:UInt8)) 0) λx3 h4=>
.c 11 (idxV (n:=I) wW h4)<|
.o 37 (lstA (n:=1) rfl (zE7 (c:=cU8) (k:=1) (q:=0) (n:=1) h4 (λ_=>rfl) rfl) (zHP (x:=dT cU8 (U8 Z.kind_)) (c:=cU8) (k:=1) (q:=0) h4 (U8 Z.kind_) (λ_=>rfl) rfl rfl) rfl (OB+0))<|
.b (vcut I 1 5) λx5 h6=>
.o 13 (lsl (off':=(0+Int.toNat 1*1)) (n':=(Int.toNat 5-Int.toNat 1)) (zBW h6))<|
.b (zCa ((List.replicate I (0:UInt8)).set (Int.toNat 0) (U8 Z.kind_)) (0+Int.toNat 1*1) (Int.toNat 5-Int.toNat 1) Z.number_) λx7 h8=>
.b (lenI x7.length ((List.replicate I (0:UInt8)).set (Int.toNat 0) (U8 Z.kind_)).length) λx9 ι=>
.o 16 (cOR [0] [] (zB3 ((List.replicate I (0:UInt8)).set (Int.toNat 0) (U8 Z.kind_)) (0+Int.toNat 1*1) (Int.toNat 5-Int.toNat 1) Z.number_ W _ h8) (zBA _ _ yH) (zBA _ _ yH))<|
.b (vcut I 5 37) λψ κ=>
.o 18 (lsl (off':=(0+Int.toNat 5*1)) (n':=(Int.toNat 37-Int.toNat 5)) (zBW κ))<|
.b (cpyI x7 (0+Int.toNat 5*1) (Int.toNat 37-Int.toNat 5) Z.data_) λU θ=>
.b (lenI U.length x7.length) λω ν=>
.o 21 (cpy (c:=cU8) 0 (λ_=>rfl) θ)<|
.b (vcut I 56 (I:Int)) λx17 τ=>
.o 23 (lsl (off':=(0+Int.toNat 56*1)) (n':=(Int.toNat (I:Int)-Int.toNat 56)) (zBW τ))<|
.b (zCa U (0+Int.toNat 56*1) (Int.toNat (I:Int)-Int.toNat 56) p1) λu ξ=>
.b (lenI u.length U.length) λx21 η=>
.o 25 (cOR [0] [] (zB3 U (0+Int.toNat 56*1) (Int.toNat (I:Int)-Int.toNat 56) p1 W _ ξ) (zBA _ _ yH) (zBA _ _ yH))<|
.b (vcut I 52 56) λχ π=>
.o 27 (lsl (off':=(0+Int.toNat 52*1)) (n':=(Int.toNat 56-Int.toNat 52)) (zBW π))<|
.b (vcut I 0 52) λx25 ρ=>
.o 29 (lsl (off':=(0+Int.toNat 0*1)) (n':=(Int.toNat 52-Int.toNat 0)) (zBW ρ))<|
.b (vcut I 56 (I:Int)) λx27 μ=>
.o 31 (lsl (off':=(0+Int.toNat 56*1)) (n':=(Int.toNat (I:Int)-Int.toNat 56)) (zBW μ))<|
.o 32 (bsv)<|
.b (zRe u (0+Int.toNat 0*1) (Int.toNat 52-Int.toNat 0)) λβ δ=>
.b (zRe u (0+Int.toNat 56*1) (Int.toNat (I:Int)-Int.toNat 56)) λα γ=>
.b (zPZ [β,α]) λε σ=>
.o 33 (look [(0,fl (dT cU8) u),(0,fl (dT cU8) u)] [.lst [.view 0 (0+Int.toNat 0*1) 5 1 (Int.toNat 52-Int.toNat 0),.view 0 (0+Int.toNat 56*1) 5 1 (Int.toNat (I:Int)-Int.toNat 56)]] (f:=hpA W) (zXe [β,α] _ σ) (λM hm=>(.cons (.lst (.cons (.vw (l:=fl (dT cU8) u) (rs:=List.map cU8 β) (.inl hm.1) (zQM (c:=cU8) (λ_=>rfl) _) (zTi δ) (zP7 (c:=cU8) (λ_=>rfl) δ)) (.cons (.vw (l:=fl (dT cU8) u) (rs:=List.map cU8 α) (.inl hm.2.1) (zQM (c:=cU8) (λ_=>rfl) _) (zTi γ) (zP7 (c:=cU8) (λ_=>rfl) γ)) .nil))) .nil)))<|
.b (zCa u (0+Int.toNat 52*1) (Int.toNat 56-Int.toNat 52) (wi ε)) λJ ζ=>
.b (lenI J.length u.length) λx37 φ=>
.o 35 (cOR [0] [] (zB3 u (0+Int.toNat 52*1) (Int.toNat 56-Int.toNat 52) (wi ε) W _ ζ) (zBA _ _ yH) (zBA _ _ yH))<|
.f 1 (frzB (c:=cU8) (k:=1) 4 0 (y:=J) (λ_=>rfl) (f:=hpA W) (n0:=I) ((yR φ).trans ((yR η).trans ((yR ν).trans ((yR ι).trans (sK.trans wW))))).symm [obB 0 cU8 J,obH (hpA W)])<|
.e J
def zNn p0 p1 W:=(zNf p0 p1 W).q
theorem zFS p0 p1 W:∀r,zNn p0 p1 W=some r->FH 288 [.t (.agg [iD p0.kind_,iD p0.number_,yD p0.data_,bD p0.ok_]),iA p1] [] [] (hpA W) (hpA W) (yA r):=zN mixed [0] Tryz.func288 _
def zUa(p0:O)(p1:Int)(W:Hp):TT yB []:=
.pS p0 λi2 h1=>
.s 40 9 3 h1<|
.b (W.ge_lg i2) λx3 h4=>
.o 12 (ld (zAm h4))<|
.iF 41 (decide (p1>=x3.size_)) λh5=>
.s 68 16 3 h1<|
.o 19 (ld (zAm h4))<|
.fR 22 (zDT x3.d_ (wi (2+p1)) W) λZ=>
.iF 80 (Z.2 !=0) λh8=>
.b (idx Z.1 0) λx9 β=>
.ix 29 cU8 β<|
.w 31 trivial (zWG x9)<|
.b (cutI Z.1 5 37) λu U=>
.w 33 (cutC (c:=cU8) U) (.oe (cutE (k:=1) (c:=cU8) U))<|
.b (cutI Z.1 1 5) λδ J=>
.w 37 (cutC (c:=cU8) J) (.oe (cutE (k:=1) (c:=cU8) J))<|
.fA 38 (zBp δ) λI=>
.s 180 44 3 h1<|
.o 47 (ld (zAm h4))<|
.fR 50 (zFS (yB.mk (x9.toNat:Int) I.1 u false) (wi (x3.base_+p1)) W) λγ=>
.fA 51 (zBY Z.1 γ) λα=>
.e (yB.mk (x9.toNat:Int) I.1 u α)
def zUG p0 p1 W:=(zUa p0 p1 W).q
theorem zKr p0 p1 W:∀r,zUG p0 p1 W=some r->FH 333 [oA 3 p0,iA p1] [] [] (hpA W) (hpA W) (.t (.agg [iD r.kind_,iD r.number_,yD r.data_,bD r.ok_])):=zN mixed [] Tryz.func333 _
def zJf(u:Int):TT Y []:=
.iF 20 (decide (u<0)) λU=>
.i 50 (decide ((wi (u-(wi (0-0))))>0)) (λI=> .o 20 slN<|
.b (growI 1 (wi (u-(wi (0-0))))) λZ J=>
.o 22 (apfr J)<|
.o 25 (slfr)<|
.y 0 true<|
.y 26 true<|
.y 4 true<|
.e []) λI=> .no
def zJD p1:=(zJf p1).q
theorem zId p1:∀r,zJD p1=some r->FP 363 [.t (nT),iA p1] [] (.t (.own 5 1 (zV r))):=zU mixed Tryz.func363 _
def zHR(U:List Y)(J:Y)(I:Int):TT Y [Y×Int]:=
.i 86 (decide (I<(U.length:Int))) (λZ=> .b (idx U I) λx7 W=>
.ix 29 (cSl 1 cU8) W<|
.y 31 true<|
.b (appI 1 J x7) λx9 u=>
.w 33 (appC (c:=cU8) u) (.oe (appE (E:=5) (k:=1) (c:=cU8) u))<|
.y 6 true<|
.k [] .z (x9,(wi (I+1)))) λZ=>
.y 35 true<|
.y 2 true<|
.e J
def zH6(u:List Y)(I:Int):TT Y []:=
.fA 24 (zId I) λJ=>
.y 6 true<|
.ln 26 u (cSl 1 cU8)<|
.l [] (λq=>[(6,.t (.own 5 1 (zV q.1))),(25,.t (.d (.seq 1 (List.map (cSl 1 cU8) u)))),(26,iA (u.length:Int)),(27,iA q.2)]) (u.length+1) (λq=>zHR u q.1 q.2) (J,0)
def zHG(W:List Y)(I J:Int):TT Y [Int×Int,Int]:=
.i 38 (decide (J<(W.length:Int))) (λU=> .b (idx W J) λu Z=>
.ix 13 (cSl 1 cU8) Z<|
.ln 17 u cU8<|
.iF 62 (decide ((wi (I+(u.length:Int)))<0)) λα=>
.k [] .z ((wi (I+(u.length:Int))),(wi (J+1)))) λU=>
.k [] (.s .z) I
def zKi(u:List Y):TT Y []:=
.j 38 (λI=>[(0,.t (.d (.seq 1 (List.map (cSl 1 cU8) u)))),(3,iA I)]) (λI=>zH6 u I)<|
.ln 10 u (cSl 1 cU8)<|
.l [] (λq=>[(0,.t (.d (.seq 1 (List.map (cSl 1 cU8) u)))),(3,iA q.1),(9,.t (.d (.seq 1 (List.map (cSl 1 cU8) u)))),(10,iA (u.length:Int)),(11,iA q.2)]) (u.length+1) (λq=>zHG u q.1 q.2) (0,0)
def zKY p0:=(zKi p0).q
theorem zJ7 p0:∀r,zKY p0=some r->FP 334 [.t (.d (.seq 1 (List.map (cSl 1 cU8) p0)))] [] (.t (.own 5 1 (zV r))):=zU mixed Tryz.func334 _
def zOj(z1:List zZ)(U p1:Int)(J:yB)(p0:O)(W:Hp)(y6:Bool):TT ((List zZ)×Int) [(List zZ)×Int]:=
.i 62 y6 (λh7=> .y 41 true<|
.y 4 true<|
.e (z1,(wi ((wi (U+1))-p1)))) λh7=>
.iF 153 (J.kind_ !=1) λh8=>
.fR 54 (zAu p0 W) λx9=>
.iF 140 (decide (J.number_>=x9)) λδ=>
.fR 60 (zKr p0 (wi (U+1)) W) λu=>
.iF 195 (!u.ok_) λβ=>
.iF 210 (u.kind_ !=2) λγ=>
.iF 227 (u.number_ !=J.number_) λε=>
.y 76 true<|
.fA 84 (zJ7 [J.data_,u.data_]) λα=>
.b (appI 32 z1 [(zZ.mk J.number_ α)]) λZ I=>
.w 87 (appC (c:=zO) I) (.oe (appE (E:=307) (k:=2) (c:=zO) I))<|
.y 6 true<|
.k [] .z (Z,(wi (U+2)))
def zOm(p0:O)(W:Hp)(p1:Int)(I:List zZ)(z2:Int):TT ((List zZ)×Int) [(List zZ)×Int]:=
.fR 15 (zKr p0 z2 W) λu=>
.i 50 (!u.ok_) (λh5=> .e ([],0)) λh5=>
.j 83 (λU=>[(0,oA 3 p0),(1,iA p1),(6,.t (.own 307 2 (List.map zO I))),(7,iA z2),(8,.box [iT u.kind_,iT u.number_,yT u.data_,bT' u.ok_]),(20,bA U),kH W]) (λU=>zOj I z2 p1 u p0 W U)<|
.i 75 (u.kind_==3) (λJ=> .ln 26 I zO<|
.i 90 (decide ((I.length:Int)>0)) (λZ=> .ln 33 I zO<|
.i 111 (u.number_==(I.length:Int)) (λβ=> .fA 39 (zK5 u.data_) λα=>
.k [] .z α) λβ=> .no) λZ=> .no) λJ=>
.k [] .z false
def zTO(I:O)(u:Int)(W:Hp):TT ((List zZ)×Int) []:=
.l [6] (λq=>[(0,oA 3 I),(1,iA u),(6,.t (.own 307 2 (List.map zO q.1))),(7,iA q.2),kH W]) (16400) (λq=>zOm I W u q.1 q.2) ([],u)
def zSm p0 p1 W:=(zTO p0 p1 W).q
theorem zPM p0 p1 W:∀r,zSm p0 p1 W=some r->FH 281 [oA 3 p0,iA p1] [] [] (hpA W) (hpA W) (.tup [.d (.seq 2 (List.map zO r.1)),iT r.2]):=zN mixed [] Tryz.func281 _
def zNg(Z:O)(W:Hp)(J:List zZ)(I:Int):TT (List zZ) [(List zZ)×Int]:=
.fR 10 (zPM Z I W) λu=>
.i 44 (u.2==0) (λh5=> .y 15 true<|
.y 2 true<|
.e J) λh5=>
.y 16 true<|
.b (appI 32 J u.1) λx6 U=>
.w 18 (appC (c:=zO) U) (.oe (appE (E:=307) (k:=2) (c:=zO) U))<|
.y 3 true<|
.k [] .z (x6,(wi (I+u.2)))
def zQr(u:O)(W:Hp):TT (List zZ) []:=
.l [3] (λq=>[(0,oA 3 u),(3,.t (.own 307 2 (List.map zO q.1))),(4,iA q.2),kH W]) (16400) (λq=>zNg u W q.1 q.2) ([],0)
def zRT p0 W:=(zQr p0 W).q
theorem zON p0 W:∀r,zRT p0 W=some r->FH 189 [oA 3 p0] [] [] (hpA W) (hpA W) (.t (.own 307 2 (List.map zO r))):=zN mixed [] Tryz.func189 _
def zQV(p0:O)(W:Hp):TT (Int×Hp) []:=
.pS p0 λZ J=>
.s 28 6 3 J<|
.b (W.ge_lg Z) λx3 h4=>
.o 9 (ld (zAm h4))<|
.s 48 11 3 J<|
.o 14 (ld (zAm h4))<|
.s 68 16 3 J<|
.o 19 (ld (zAm h4))<|
.s 84 20 3 J<|
.o 23 (ld (zAm h4))<|
.s 104 25 3 J<|
.o 28 (ld (zAm h4))<|
.fR 29 (zGo (wi (x3.base_+x3.size_)) x3.size_ W) λx5=>
.fH 30 (zAy x3.d_ (wi (1-x3.slot_)) x5 W) λx7=>
.iF 98 (x7.1 !=0) λh9=>
.s 140 34 3 J<|
.b (x7.2.ge_lg Z) λκ ι=>
.o 37 (ld (zAm ι))<|
.fH 38 (zA1 κ.d_ x7.2) λγ=>
.iF 122 (γ.1 !=0) λμ=>
.s 180 42 3 J<|
.b (γ.2.ge_lg Z) λu β=>
let δ:qV:=(qV.mk u.d_ u.size_ u.base_ (wi (1-x3.slot_)) u.used_ u.life_ u.commits_);let ζ:=(γ.2.st_lg Z δ);.o 63 (stw (zAm β) (zUZ (x':=δ) β))<|
have α:ζ.ge_lg Z=some δ:=(zFq β);.s 188 43 3 J<|
let I:qV:=(qV.mk u.d_ u.size_ u.base_ (wi (1-x3.slot_)) 0 u.life_ u.commits_);let ε:=(ζ.st_lg Z I);.o 60 (stw (zAm α) (zUZ (x':=I) α))<|
have U:ε.ge_lg Z=some I:=(zFq α);.s 200 49 3 J<|
.o 52 (ld (zAm U))<|
.s 216 53 3 J<|
.o 56 (ld (zAm U))<|
let η:qV:=(qV.mk u.d_ u.size_ (wi (I.base_+I.size_)) (wi (1-x3.slot_)) 0 u.life_ u.commits_);let θ:=(ε.st_lg Z η);.o 60 (stw (zAm U) (zUZ (x':=η) U))<|
.e (0,θ)
def zPS p0 W:=(zQV p0 W).q
theorem zNK p0 W:∀r,zPS p0 W=some r->FH 282 [oA 3 p0] [] [] (hpA W) (hpA r.2) (iA r.1):=zN mixed [] Tryz.func282 _
def zKf(I:O)(W:Hp):TT (Int×Hp) []:=
.fR 6 (zAq I W) λx1=>
.iF 26 (x1 !=0) λh3=>
.pS I λi5 J=>
.s 44 10 3 J<|
.b (W.ge_lg i5) λZ U=>
.o 13 (ld (zAm U))<|
.s 60 14 3 J<|
.o 17 (ld (zAm U))<|
.iF 59 (decide (Z.base_>(wi (2305843009213693952-Z.size_)))) λh8=>
.s 84 20 3 J<|
.o 23 (ld (zAm U))<|
.fH 24 (zA1 Z.d_ W) λx9=>
.iF 80 (x9.1 !=0) λα=>
.fH 29 (zNK I x9.2) λu=>
.e (u.1,u.2)
def zKl p0 W:=(zKf p0 W).q
theorem zIb p0 W:∀r,zKl p0 W=some r->FH 190 [oA 3 p0] [] [] (hpA W) (hpA r.2) (iA r.1):=zN mixed [] Tryz.func190 _
def zTN(W J:Hp):TT (O×Int×Hp) []:=
.b (J.ge_lg W.ln_lg) λI u=>
.o 58 (ld (zAm u))<|
.iF 179 (I.base_==0) λγ=>
.o 63 (ld (zAm u))<|
.o 67 (ld (zAm u))<|
.iF 209 (decide (I.base_>(wi (2305843009213693952-I.size_)))) λε=>
.fR 72 (zON (some W.ln_lg) J) λα=>
.fH 73 (zIF (some W.ln_lg) α J) λU=>
.iF 227 (U.1 !=0) λβ=>
.fH 78 (zIb (some W.ln_lg) U.2) λZ=>
.iF 242 (Z.1 !=0) λδ=>
.e ((some W.ln_lg),0,Z.2)
def zSd(U W:Hp)(u:(Int×Int×Bool))(J:Int)(η:Bool):TT (O×Int×Hp) [Int×Hp,Hp]:=
.i 125 η (λθ=> .b (U.ge_lg W.ln_lg) λx32 β=>
let α:qV:=(qV.mk x32.d_ x32.size_ u.1 x32.slot_ x32.used_ x32.life_ x32.commits_);let γ:=(U.st_lg W.ln_lg α);.o 89 (stw (zAm β) (zUZ (x':=α) β))<|
have I:γ.ge_lg W.ln_lg=some α:=(zFq β);let Z:qV:=(qV.mk x32.d_ u.2.1 u.1 x32.slot_ x32.used_ x32.life_ x32.commits_);let δ:=(γ.st_lg W.ln_lg Z);.o 86 (stw (zAm I) (zUZ (x':=Z) I))<|
have ε:δ.ge_lg W.ln_lg=some Z:=(zFq I);let ζ:qV:=(qV.mk x32.d_ u.2.1 u.1 J x32.used_ x32.life_ x32.commits_);let ι:=(δ.st_lg W.ln_lg ζ);.o 83 (stw (zAm ε) (zUZ (x':=ζ) ε))<|
.k [] .z ((wi (J+1)),ι)) λθ=>
.k [] .z ((wi (J+1)),U)
def zS6(p0:O)(W:Hp)(u:Int)(I:Hp):TT (O×Int×Hp) [Int×Hp,Hp]:=
.i 74 (decide (u<2)) (λα=> .fR 29 (zOS p0 u I) λJ=>
.j 167 (λU=>[(0,oA 1 p0),(4,oA 3 (some W.ln_lg)),(5,iA u),(6,iA J.1),(7,iA J.2.1),(23,iA u),(41,bA U),kH I]) (λU=>zSd I W J u U)<|
.i 105 J.2.2 (λγ=> .b (I.ge_lg W.ln_lg) λZ β=>
.o 39 (ld (zAm β))<|
.k [] .z (decide (J.1>Z.base_))) λγ=>
.k [] .z false) λα=>
.k [] (.s .z) I
def zYE(I:O)(W:Hp):TT (O×Int×Hp) []:=
.fR 13 (yI I W) λx1=>
.iF 35 (x1==0) λh3=>
.fR 17 (zHC I W) λU=>
.iF 47 U λh6=>
.fR 20 (zFt I W) λx7=>
let J:qV:=(qV.mk I 0 0 0 0 x7 0);let Z:=(W.nw_lg J);.o 22 (nwW (fr_lg W) (nw_lg W J))<|
.j 54 (λu=>[(4,oA 3 (some W.ln_lg)),kH u]) (λu=>zTN W u)<|
.l [] (λq=>[(0,oA 1 I),(4,oA 3 (some W.ln_lg)),(23,iA q.1),kH q.2]) (Int.toNat 2+1) (λq=>zS6 I W q.1 q.2) (0,Z)
def zG1 p0 W:=(zYE p0 W).q
theorem zOJ p0 W:∀r,zG1 p0 W=some r->FH 95 [oA 1 p0] [] [] (hpA W) (hpA r.2.2) (.tup [.opt 3 r.1,iT r.2.1]):=zN mixed [] Tryz.func95 _
def zPb(p0:O)(U:Int)(p2:Y)(W:Hp):TT (Int×Hp) []:=
.fR 9 (zCh p0 W) λx1=>
.iF 35 (x1 !=0) λh3=>
.iF 51 (decide (U<0)) λh4=>
.pS p0 λi6 h5=>
.s 76 18 5 h5<|
.b (W.ge_tx i6) λx7 h8=>
.o 21 (ld (zLN h8))<|
.fR 22 (zAu x7.l_ W) λx9=>
.iF 41 (decide (U>=x9)) λγ=>
.ln 27 p2 cU8<|
.iF 77 ((p2.length:Int) !=64) λβ=>
.s 120 29 5 h5<|
.o 32 (ld (zLN h8))<|
.fA 35 (zCw p2) λI=>
.b (W.ge_mp x7.now_) λα J=>
let u:(List (Int×Y)):=(mset α U I);let Z:=(W.st_mp x7.now_ u);.o 36 (mupH (kv:=(λz:Int=>Value.int .i64 z)) (vT:=(λv=>T.d ((λl:List UInt8=>D.seq 1 (zV l)) v))) (gl_mp J) U I (zU3 (kt:=3) (by kernel_rfl)) (su_mp (x':=u) J))<|
.e (0,Z)
def zJu p0 p1 p2 W:=(zPb p0 p1 p2 W).q
theorem zAp p0 p1 p2 W:∀r,zJu p0 p1 p2 W=some r->FH 98 [oA 5 p0,iA p1,yA p2] [] [] (hpA W) (hpA r.2) (iA r.1):=zN mixed [] Tryz.func98 _
def zFj(u:Int):TT Int []:=
.iF 14 (u==0) λU=>
.b (idx zO9 (Int.fdiv (IntKind.u64.wrap ((IntKind.u64.wrap ((((BitVec.ofInt IntKind.u64.bits u)&&&(BitVec.ofInt IntKind.u64.bits (IntKind.u64.wrap (0-u)))).toNat:Nat):Int))*285870213051353865)) (2^58))) λI J=>
.o 11 (gix (g:=0) (k:= .u8) (by kernel_rfl) J)<|
.e (wi I)
def zFc p0:=(zFj p0).q
theorem zE3 p0:∀r,zFc p0=some r->FP 194 [.t (.d (.lit (.int .u64 p0)))] [] (iA r):=zU mixed Tryz.func194 _
def zNm(p0:O)(I:Int)(W:Hp):TT Bool []:=
.pS p0 λi2 h1=>
.s 24 5 8 h1<|
.i 36 (decide (I>=0)) (λh3=> .s 56 13 8 h1<|
.b (W.ge_sp i2) λx4 h5=>
.o 16 (ld (zLH h5))<|
.i 60 (decide (I<x4.n_)) (λh6=> .s 84 20 8 h1<|
.o 23 (ld (zLH h5))<|
.b (W.ge_w64 x4.l_.1) λx7 h8=>
.b (lenI x7.length x4.l_.2) λx9 U=>
.b (idx x7 (wi (Int.tdiv I 64))) λJ u=>
.c 26 (idxV (yR U) u)<|
.o 27 (ldA (zQe h8) (zS7 u rfl (λ_=>rfl)))<|
.b (shrI .u64 J (IntKind.u64.wrap (Int.tmod I 64))) λα Z=>
.o 31 (bv (shrIE (yk:= .u64) Z))<|
.e ((IntKind.u64.wrap ((((BitVec.ofInt IntKind.u64.bits α)&&&(BitVec.ofInt IntKind.u64.bits 1)).toNat:Nat):Int))==0)) λh6=> .no) λh3=> .no
def zM7 p0 p1 W:=(zNm p0 p1 W).q
theorem zFo p0 p1 W:∀r,zM7 p0 p1 W=some r->FH 207 [oA 8 p0,iA p1] [] [] (hpA W) (hpA W) (bA r):=zN mixed [] Tryz.func207 _
def zMm(p0:O)(p1:Int)(W:Hp):TT Hp []:=
.pS p0 λi2 h1=>
.s 20 4 8 h1<|
.b (W.ge_sp i2) λu h4=>
.o 7 (ld (zLH h4))<|
.b (W.ge_w64 u.l_.1) λx5 h6=>
.b (lenI x5.length u.l_.2) λx7 h8=>
.b (idx x5 (wi (Int.tdiv p1 64))) λx9 β=>
.c 10 (idxV (yR h8) β)<|
.o 11 (ldA (zQe h6) (zS7 β rfl (λ_=>rfl)))<|
.b (shlI .u64 1 (IntKind.u64.wrap (Int.tmod p1 64))) λI ε=>
.o 15 (bv (shlIE (yk:= .u64) ε))<|
.b (lenI x5.length u.l_.2) λι δ=>
.b (idx x5 (wi (Int.tdiv p1 64))) λθ J=>
.c 17 (idxV (yR δ) J)<|
let α:(List Int):=(x5.set (Int.toNat (wi (Int.tdiv p1 64))) (IntKind.u64.wrap ((((BitVec.ofInt IntKind.u64.bits x9)^^^(BitVec.ofInt IntKind.u64.bits I)).toNat:Nat):Int)));let U:=(W.st_w64 u.l_.1 α);.o 35 (stA (n:=1) (zQe h6) (zE7 (c:=(cInt .u64)) (k:=1) (q:=0) J (λ_=>(by kernel_rfl)) rfl) (zHP (x:=dT (cInt .u64) (IntKind.u64.wrap ((((BitVec.ofInt IntKind.u64.bits x9)^^^(BitVec.ofInt IntKind.u64.bits I)).toNat:Nat):Int))) (c:=(cInt .u64)) (k:=1) (q:=0) J (IntKind.u64.wrap ((((BitVec.ofInt IntKind.u64.bits x9)^^^(BitVec.ofInt IntKind.u64.bits I)).toNat:Nat):Int)) (λ_=>(by kernel_rfl)) (by kernel_rfl) (by kernel_rfl)) (su_w64 (x':=α) h6))<|
have Z:U.ge_sp i2=some u:=h4;.fR 20 (zFo p0 p1 U) λζ=>
.iF 62 ζ λκ=>
.s 116 28 8 h1<|
.o 31 (ld (zLH Z))<|
let γ:qR:=(qR.mk u.n_ (wi (u.free_-1)) u.l_ u.is_);let η:=(U.st_sp i2 γ);.o 35 (stw (zLH Z) (su_sp (x':=γ) Z))<|
.e η
def zMd p0 p1 W:=(zMm p0 p1 W).q
theorem zKc p0 p1 W:∀r,zMd p0 p1 W=some r->FH 195 [oA 8 p0,iA p1] [] [] (hpA W) (hpA r) (.tup []):=zN mixed [] Tryz.func195 _
def zJT(I:List Int)(u:Hp):TT ((List Int)×Int×Hp) []:=
.y 58 true<|
.y 4 true<|
.e (I,0,u)
def zJV(p1:Int)(p0:O)(i5:Nat)(h4:p0=some i5)(J:List Int)(I:Int)(u:Hp):TT ((List Int)×Int×Hp) [(List Int)×Int×Hp,(List Int)×Hp]:=
.ln 31 J cI64<|
.i 101 (decide ((J.length:Int)<p1)) (λδ=> .s 140 34 8 h4<|
.b (u.ge_sp i5) λZ ζ=>
.o 37 (ld (zLH ζ))<|
.b (u.ge_w64 Z.l_.1) λβ ι=>
.b (lenI β.length Z.l_.2) λμ θ=>
.b (idx β I) λα U=>
.c 39 (idxV (yR θ) U)<|
.o 40 (ldA (zQe ι) (zS7 U rfl (λ_=>rfl)))<|
.i 131 ((IntKind.u64.wrap ((((BitVec.ofInt IntKind.u64.bits 18446744073709551615)^^^(BitVec.ofInt IntKind.u64.bits α)).toNat:Nat):Int)) !=0) (λκ=> .fA 47 (zE3 (IntKind.u64.wrap ((((BitVec.ofInt IntKind.u64.bits 18446744073709551615)^^^(BitVec.ofInt IntKind.u64.bits α)).toNat:Nat):Int))) λγ=>
.fH 51 (zKc p0 (wi ((wi (64*I))+γ)) u) λε=>
.y 52 true<|
.b (appI 8 J [(wi ((wi (64*I))+γ))]) λη W=>
.w 55 (appC (c:=cI64) W) (.oe (appE (E:=3) (k:=1) (c:=cI64) W))<|
.y 6 true<|
.k [] .z (η,I,ε)) λκ=> .no) λδ=>
.k [] (.s .z) (J,u)
def zJA(W:Hp)(u:Int)(I:O)(y1:Bool):TT ((List Int)×Int×Hp) []:=
.i 32 y1 (λZ=> .e ([],1,W)) λZ=>
.iF 62 (decide (u<0)) λh3=>
.pS I λJ U=>
.s 104 25 8 U<|
.b (W.ge_sp J) λx6 h7=>
.o 28 (ld (zLH h7))<|
.iF 71 (decide (u>x6.free_)) λh8=>
.j 66 (λq=>[(6,.t (.own 3 1 (List.map cI64 q.1))),kH q.2]) (λq=>zJT q.1 q.2)<|
.l [6] (λq=>[(0,oA 8 I),(1,iA u),(6,.t (.own 3 1 (List.map cI64 q.1))),(7,iA q.2.1),kH q.2.2]) (Int.toNat u+300) (λq=>zJV u I J U q.1 q.2.1 q.2.2) ([],0,W)
def zMv(J:O)(p1:Int)(W:Hp):TT ((List Int)×Int×Hp) []:=
.j 43 (λU=>[(0,oA 8 J),(1,iA p1),(10,bA U),kH W]) (λU=>zJA W p1 J U)<|
.pS J λI u=>
.s 48 11 8 u<|
.s 60 14 8 u<|
.b (W.ge_sp I) λx32 Z=>
.o 17 (ld (zLH Z))<|
.k [] .z (!x32.is_)
def zF1 p0 p1 W:=(zMv p0 p1 W).q
theorem zCp p0 p1 W:∀r,zF1 p0 p1 W=some r->FH 100 [oA 8 p0,iA p1] [] [] (hpA W) (hpA r.2.2) (.tup [.d (.seq 1 (List.map cI64 r.1)),iT r.2.1]):=zN mixed [] Tryz.func100 _
def zGr(Z:qB)(u:O)(I:zT)(W:Hp):TT Hp []:=
.fA 8 (zEw I) λJ=>
.fH 9 (zAp u 0 J W) λU=>
.e U.2
def zDK p0 p1 p2 W:=(zGr p0 p1 p2 W).q
theorem zCl p0 p1 p2 W:∀r,zDK p0 p1 p2 W=some r->FH 101 [.t (.agg [iD p0.size_,iD p0.homes_,iD p0.maps_]),oA 5 p1,.t (.agg [iD p2.count_,iD p2.quota_,iD p2.bytes_,iD p2.keys_])] [] [] (hpA W) (hpA r) (.tup []):=zN mixed [] Tryz.func101 _
def zIZ(x5:Nat)(p0:O)(i2:Nat)(h1:p0=some i2)(W:Hp)(x3:qR)(h4:W.ge_sp i2=some x3)(U:Int)(I:Y):TT Y [Int×Y]:=
.i 53 (decide (U<((x5:Nat):Int))) (λh9=> .s 88 21 8 h1<|
.o 24 (ld (zLH h4))<|
.b (W.ge_w64 x3.l_.1) λα δ=>
.b (lenI α.length x3.l_.2) λθ β=>
.b (idx α (wi (Int.tdiv U 8))) λζ Z=>
.c 27 (idxV (yR β) Z)<|
.o 28 (ldA (zQe δ) (zS7 Z rfl (λ_=>rfl)))<|
.b (shrI .u64 ζ (IntKind.u64.wrap (wi (8*(Int.tmod U 8))))) λu γ=>
.o 33 (bv (shrIE (yk:= .u64) γ))<|
.w 34 trivial (u8E u)<|
.b (idx I U) λι J=>
.c 35 (idxV rfl J)<|
.o 38 (lstA (n:=1) rfl (zE7 (c:=cU8) (k:=1) (q:=0) (n:=1) J (λ_=>rfl) rfl) (zHP (x:=dT cU8 (U8 u)) (c:=cU8) (k:=1) (q:=0) J (U8 u) (λ_=>rfl) rfl rfl) rfl (OB+0))<|
.t 9 3 (vwE (n:=I.length) (n':=(I.set (Int.toNat U) (U8 u)).length) 0 0 (OFB+5) 1 (sK.trans rfl).symm)<|
.k [] .z ((wi (U+1)),(I.set (Int.toNat U) (U8 u)))) λh9=>
.b (neI I) λη ε=>
.f 1 (ownX (c:=cU8) (k:=1) 2 0 5 (y:=I) (λ_=>rfl) (neI_E ε) (f:=hpA W) (n0:=I.length) (by first|rfl|(simp;done)|omega) [obB 0 cU8 I,obH (hpA W)])<|
.e I
def zLB(I:O)(W:Hp):TT Y []:=
.pS I λZ J=>
.s 24 5 8 J<|
.s 32 7 8 J<|
.b (W.ge_sp Z) λx3 U=>
.o 10 (ld (zLH U))<|
.b (mkI 1 (wi (Int.tdiv (wi (x3.n_+7)) 8))) λu h6=>
.o 13 (mkl true 0 (c0:=dT cU8 (0:UInt8)) h6 (zOC (c:=cU8) (z:=(0:UInt8)) (by kernel_rfl) u))<|
.t 22 3 (vwE (n:=u) (n':=(List.replicate u (0:UInt8)).length) 0 0 (OFB+5) 1 wW.symm)<|
.l [] (λq=>[(0,oA 8 I),(3,.t (.view 0 0 (OFB+5) 1 q.2.length)),(15,iA ((u:Nat):Int)),(16,iA q.1),((OB+0),.box (fl (dT cU8) q.2)),kH W]) (Int.toNat ((u:Nat):Int)+1) (λq=>zIZ u I Z J W x3 U q.1 q.2) (0,(List.replicate u (0:UInt8)))
def zLA p0 W:=(zLB p0 W).q
theorem zJM p0 W:∀r,zLA p0 W=some r->FH 197 [oA 8 p0] [] [] (hpA W) (hpA W) (.t (.own 5 1 (zV r))):=zN mixed [0] Tryz.func197 _
def zE4(p0:qB)(x1:Y)(x3:Nat)(p1:O)(u:Int)(W:Hp):TT Hp [Int×Hp]:=
.i 53 (decide (u<p0.maps_)) (λh7=> .b (cutI (x1++List.replicate x3 0) (wi (64*u)) (wi (64*(wi (u+1))))) λx8 h9=>
.w 25 (cutC (c:=cU8) h9) (.oe (cutE (k:=1) (c:=cU8) h9))<|
.fR 30 (zB1 p1 (wi (1+u)) W) λI=>
.i 108 (I.2==0) (λU=> .fA 38 (zBY I.1 x8) λα=>
.i 122 (!α) (λZ=> .fH 45 (zAp p1 (wi (1+u)) x8 W) λJ=>
.k [] .z ((wi (u+1)),J.2)) λZ=> .no) λU=> .no) λh7=>
.e W
def zC1(u:qB)(J p2:O)(W:Hp):TT Hp []:=
.fR 12 (zJM p2 W) λI=>
.b (apzI 1 I.length 64) λU Z=>
.o 13 (apz (e0:=5) 12 (apzC (c:=cU8) Z) (apzE (c:=cU8) (a:=0) (z:= .int .u8 0) rfl))<|
.y 6 true<|
.l [] (λq=>[(1,oA 5 J),(6,.t (.own 5 1 (zV (I++List.replicate U 0)))),(15,iA u.maps_),(16,iA q.1),kH q.2]) (Int.toNat u.maps_+1) (λq=>zE4 u I U J q.1 q.2) (0,W)
def zCy(J:qB)(u I:O)(W:Hp):Option Hp:=(zC1 J u I W).run Env.nil
theorem zCV(u:qB)(I J:O)(W:Hp):∀r,zCy u I J W=some r->FH 102 [.t (.agg [iD u.size_,iD u.homes_,iD u.maps_]),oA 5 I,oA 8 J] [] [] (hpA W) (hpA r) (.tup []):=zN mixed [] Tryz.func102 (zC1 u I J W) (by kernel_rfl)
def zQh(U:O)(W:Hp):TT Int []:=
.pS U λZ u=>
.s 16 3 3 u<|
.s 24 5 3 u<|
.b (W.ge_lg Z) λJ I=>
.o 8 (ld (zAm I))<|
.s 40 9 3 u<|
.o 12 (ld (zAm I))<|
.e (wi (J.size_-J.used_))
def zQj p0 W:=(zQh p0 W).q
theorem zOl p0 W:∀r,zQj p0 W=some r->FH 286 [oA 3 p0] [] [] (hpA W) (hpA W) (iA r):=zN mixed [] Tryz.func286 _
def zOt(u:List zZ)(J:List yB):TT (List yB) []:=
.y 28 true<|
.ln 30 u zO<|
.g 32 (.t (.own 396 4 (List.map zAQ [(yB.mk 3 (u.length:Int) [] false)])))<|
.b (appI 48 J [(yB.mk 3 (u.length:Int) [] false)]) λU I=>
.w 33 (appC (c:=zAQ) I) (.oe (appE (E:=396) (k:=4) (c:=zAQ) I))<|
.y 2 true<|
.e U
def zOZ(p0:List zZ)(z4:List yB)(z5:Int):TT (List yB) [(List yB)×Int,(List yB)]:=
.i 29 (decide (z5<(p0.length:Int))) (λh6=> .b (idx p0 z5) λU h8=>
.ix 10 zO h8<|
.y 12 true<|
.b (cutI U.Data 0 32) λx9 u=>
.w 17 (zVg (c:=cU8) u) (.oe (zUB (k:=1) (c:=cU8) u))<|
.b (cutI U.Data 32 (U.Data.length:Int)) λZ I=>
.w 23 (zUj (c:=cU8) I) (.oe (zVG (k:=1) (c:=cU8) I))<|
.b (appI 48 z4 [(yB.mk 1 U.Home x9 false),(yB.mk 2 U.Home Z false)]) λW J=>
.w 26 (appC (c:=zAQ) J) (.oe (appE (E:=396) (k:=4) (c:=zAQ) J))<|
.y 3 true<|
.k [] .z (W,(wi (z5+1)))) λh6=>
.k [] (.s .z) z4
def zSb(u:List zZ):TT (List yB) []:=
.j 30 (λI=>[(0,.t (.d (.seq 2 (List.map zO u)))),(3,.t (.own 396 4 (List.map zAQ I)))]) (λI=>zOt u I)<|
.ln 7 u zO<|
.l [3] (λq=>[(0,.t (.d (.seq 2 (List.map zO u)))),(3,.t (.own 396 4 (List.map zAQ q.1))),(6,.t (.d (.seq 2 (List.map zO u)))),(7,iA (u.length:Int)),(8,iA q.2)]) (u.length+1) (λq=>zOZ u q.1 q.2) ([],0)
def zTD p0:=(zSb p0).q
theorem zRW p0:∀r,zTD p0=some r->FP 287 [.t (.d (.seq 2 (List.map zO p0)))] [] (.t (.own 396 4 (List.map zAQ r))):=zU mixed Tryz.func287 _
def zLo(p0:O)(p1:List zZ)(y5:Hp):TT (Int×Hp) []:=
.pS p0 λi7 h6=>
.s 408 101 3 h6<|
.b (y5.ge_lg i7) λx8 h9=>
.o 104 (ld (zAm h9))<|
.fH 105 (zA1 x8.d_ y5) λU=>
.iF 323 (U.1 !=0) λδ=>
.s 440 109 3 h6<|
.b (U.2.ge_lg i7) λu I=>
.o 112 (ld (zAm I))<|
let J:qV:=(qV.mk u.d_ u.size_ u.base_ u.slot_ (wi (u.used_+(wi ((wi (2*(p1.length:Int)))+1)))) u.life_ u.commits_);let β:=(U.2.st_lg i7 J);.o 127 (stw (zAm I) (zUZ (x':=J) I))<|
have Z:β.ge_lg i7=some J:=(zFq I);.s 472 117 3 h6<|
.o 120 (ld (zAm Z))<|
let W:qV:=(qV.mk u.d_ u.size_ u.base_ u.slot_ (wi (u.used_+(wi ((wi (2*(p1.length:Int)))+1)))) u.life_ (wi (J.commits_+1)));let γ:=(β.st_lg i7 W);.o 127 (stw (zAm Z) (zUZ (x':=W) Z))<|
.fH 126 (zIF p0 p1 γ) λα=>
.e (α.1,α.2)
def zLe(W:List yB)(p0:O)(u:Int)(I:Hp):TT (Int×Hp) [Int×Hp,Hp]:=
.i 218 (decide (u<(W.length:Int))) (λγ=> .b (idx W u) λε β=>
.ix 74 zAQ β<|
.pS p0 λα J=>
.s 308 76 3 J<|
.b (I.ge_lg α) λx32 U=>
.o 79 (ld (zAm U))<|
.s 332 82 3 J<|
.o 85 (ld (zAm U))<|
.s 360 89 3 J<|
.o 92 (ld (zAm U))<|
.fR 95 (zFS ε (wi (x32.base_+(wi (x32.used_+u)))) I) λδ=>
.fH 96 (zAy x32.d_ (wi (2+(wi (x32.used_+u)))) δ I) λZ=>
.iF 296 (Z.1 !=0) λζ=>
.k [] .z ((wi (u+1)),Z.2)) λγ=>
.k [] (.s .z) I
def zLk(J:O)(I:List zZ)(Z:Hp):TT (Int×Hp) []:=
.j 110 (λU=>[(0,oA 3 J),(1,.t (.d (.seq 2 (List.map zO I)))),(8,iA (wi ((wi (2*(I.length:Int)))+1))),kH U]) (λU=>zLo J I U)<|
.fA 69 (zRW I) λu=>
.ln 70 u zAQ<|
.l [] (λq=>[(0,oA 3 J),(1,.t (.d (.seq 2 (List.map zO I)))),(8,iA (wi ((wi (2*(I.length:Int)))+1))),(69,.t (.own 396 4 (List.map zAQ u))),(70,iA (u.length:Int)),(71,iA q.1),kH q.2]) (u.length+1) (λq=>zLe u J q.1 q.2) (0,Z)
def zLg(u:List zZ)(I:O)(W:Hp):TT (Int×Hp) []:=
.ln 44 u zO<|
.j 78 (λy4=>[(0,oA 3 I),(1,.t (.d (.seq 2 (List.map zO u)))),(8,iA (wi ((wi (2*(u.length:Int)))+1))),kH y4]) (λy4=>zLk I u y4)<|
.pS I λβ Z=>
.s 200 49 3 Z<|
.b (W.ge_lg β) λJ U=>
.o 52 (ld (zAm U))<|
.iF 143 (decide ((wi ((wi (2*(u.length:Int)))+1))>J.size_)) λδ=>
.ln 56 u zO<|
.iF 164 ((u.length:Int)==0) λγ=>
.fR 61 (zOl I W) λα=>
.iF 176 (decide ((wi ((wi (2*(u.length:Int)))+1))>α)) λε=>
.k [] .z W
def zLR(p1:List zZ)(W:Hp)(p0:O)(I:Int):TT (Int×Hp) [Int,Unit]:=
.i 71 (decide (I<(p1.length:Int))) (λZ=> .b (idx p1 I) λu U=>
.ix 24 zO U<|
.iF 90 (decide (u.Home<0)) λβ=>
.fR 33 (zAu p0 W) λJ=>
.iF 111 (decide (u.Home>=J)) λα=>
.ln 39 u.Data cU8<|
.iF 125 ((u.Data.length:Int) !=64) λγ=>
.k [] .z (wi (I+1))) λZ=>
.k [] (.s .z) ()
def zOM(J:O)(u:List zZ)(W:Hp):TT (Int×Hp) []:=
.fR 16 (zAq J W) λU=>
.iF 56 (U !=0) λZ=>
.j 42 (λ_=>[(0,oA 3 J),(1,.t (.d (.seq 2 (List.map zO u)))),kH W]) (λ_=>zLg u J W)<|
.ln 21 u zO<|
.l [] (λI=>[(0,oA 3 J),(1,.t (.d (.seq 2 (List.map zO u)))),(20,.t (.d (.seq 2 (List.map zO u)))),(21,iA (u.length:Int)),(22,iA I),kH W]) (u.length+1) (λI=>zLR u W J I) 0
def zOs p0 p1 W:=(zOM p0 p1 W).q
theorem zMt p0 p1 W:∀r,zOs p0 p1 W=some r->FH 202 [oA 3 p0,.t (.d (.seq 2 (List.map zO p1)))] [] [] (hpA W) (hpA r.2) (iA r.1):=zN mixed [] Tryz.func202 _
def zLG(p0:O)(Z:Nat)(h4:p0=some Z)(U:Hp)(W:zBH)(I:U.ge_tx Z=some W)(J:List zZ):TT (Int×Hp) []:=
.s 156 38 5 h4<|
.o 41 (ld (zLN I))<|
.y 42 true<|
.fH 43 (zMt W.l_ J U) λu=>
.e (u.1,u.2)
def zLV(J:List Int)(p0:O)(i5:Nat)(h4:p0=some i5)(w8:Hp)(x9:zBH)(δ:w8.ge_tx i5=some x9)(U:(List (Int×Y)))(ε:w8.ge_mp x9.now_=some U)(W:List zZ)(I:Int):TT (Int×Hp) [(List zZ)×Int,(List zZ)]:=
.i 71 (decide (I<(J.length:Int))) (λα=> .b (idx J I) λu γ=>
.ix 24 cI64 γ<|
.y 26 true<|
.s 116 28 5 h4<|
.o 31 (ld (zLN δ))<|
.o 33 (mlkH (kv:=(λz:Int=>Value.int .i64 z)) (vT:=(λv=>T.d ((λl:List UInt8=>D.seq 1 (zV l)) v))) (gl_mp ε) u (zU3 (kt:=3) (by kernel_rfl)) (z:=([]:Y)) (λ_=>RepD.nilSeq _ _))<|
.b (appI 32 W [(zZ.mk u ((zC5 U u).getD ([]:Y)))]) λβ Z=>
.w 36 (appC (c:=zO) Z) (.oe (appE (E:=307) (k:=2) (c:=zO) Z))<|
.y 4 true<|
.k [] .z (β,(wi (I+1)))) λα=>
.k [] (.s .z) W
def zOO(p0:O)(W:Hp):TT (Int×Hp) []:=
.fR 8 (zCh p0 W) λx1=>
.iF 32 (x1 !=0) λh3=>
.pS p0 λi5 h4=>
.s 52 12 5 h4<|
.b (W.ge_tx i5) λx6 h7=>
let U:zBH:=(zBH.mk x6.l_ x6.at_ true x6.now_);let Z:=(W.st_tx i5 U);.o 44 (stw (zLN h7) (su_tx (x':=U) h7))<|
have I:Z.ge_tx i5=some U:=(zFq h7);.j 46 (λJ=>[(0,oA 5 p0),(4,.t (.own 307 2 (List.map zO J))),kH Z]) (λJ=>zLG p0 i5 h4 Z U I J)<|
.s 64 15 5 h4<|
.o 18 (ld (zLN I))<|
.o 19 (keysR (c:=cd 6 U.now_) keysW)<|
.b (Z.ge_mp U.now_) λα β=>
.b (keysI α) λu γ=>
.o 20 (sortedR sortedW (by kernel_rfl) (gl_mp β) γ)<|
.ln 21 u cI64<|
.l [4] (λq=>[(0,oA 5 p0),(4,.t (.own 307 2 (List.map zO q.1))),(20,.t (.d (.seq 1 (List.map cI64 u)))),(21,iA (u.length:Int)),(22,iA q.2),kH Z]) (u.length+1) (λq=>zLV u p0 i5 h4 Z U I α β q.1 q.2) ([],0)
def zIC p0 W:=(zOO p0 W).q
theorem zGG p0 W:∀r,zIC p0 W=some r->FH 103 [oA 5 p0] [] [] (hpA W) (hpA r.2) (iA r.1):=zN mixed [] Tryz.func103 _
def zD1(W:Hp)(I:(O×Int×Hp))(p1:Int)(Z:Hp):TT (Int×Hp) []:=
.b (Z.ge_st W.ln_st) λμ γ=>
.o 83 (ld (zIc γ))<|
.fH 84 (zL2 μ.geometry_.homes_ Z) λu=>
.b (u.2.2.ge_st W.ln_st) λζ ι=>
.o 91 (ldS (zIc ι))<|
.fA 92 (zAb ζ.geometry_) λβ=>
.fH 93 (zCp u.1 β u.2.2) λα=>
.b (α.2.2.ge_st W.ln_st) λκ ε=>
.o 97 (ldS (zIc ε))<|
.fH 101 (zCl κ.geometry_ I.1 (zT.mk 0 p1 0 0) α.2.2) λU=>
.b (U.ge_st W.ln_st) λθ η=>
.o 105 (ldS (zIc η))<|
.fH 108 (zCV θ.geometry_ I.1 u.1 U) λδ=>
.fH 110 (zGG I.1 δ) λJ=>
.e (J.1,J.2)
def zDw(β:Int)(W:(O×Int×Hp))(u:Int)(I:Hp):TT (Int×Hp) [Int×Hp,Hp]:=
.i 215 (decide (u<β)) (λU=> .b (mkI 1 64) λJ α=>
.o 75 (mko α (z:=(.int .u8 0)) (rs:=zV (List.replicate J (0:UInt8))) (by unfold zV;rw[List.map_replicate];try rfl))<|
.fH 76 (zAp W.1 u (List.replicate J (0:UInt8)) I) λZ=>
.k [] .z ((wi (u+1)),Z.2)) λU=>
.k [] (.s .z) I
def zK3(p0:O)(p1:Int)(W:Hp):TT (Int×Hp) []:=
.fR 15 (yI p0 W) λx1=>
.iF 41 (x1==0) λh3=>
.fR 19 (yI p0 W) λx4=>
.fA 20 (zSl x4) λx6=>
.iF 69 (decide (x6<1)) λh8=>
.iF 81 (decide (p1<0)) λh9=>
.iF 53 (decide (p1>2305843009213693952)) λν=>
.fR 31 (yI p0 W) λε=>
.fA 32 (zLh ε) λι=>
let J:qJ:=(qJ.mk ι none);let β:=(W.nw_st J);.o 34 (nwW (fr_st W) (nw_st W J))<|
have ζ:β.ge_st W.ln_st=some J:=zVT;.o 40 (ld (zIc ζ))<|
.fH 41 (zRP p0 J.geometry_.size_ β) λγ=>
.iF 131 (γ.1 !=0) λξ=>
.fH 47 (zOJ p0 γ.2) λI=>
.iF 155 (I.2.1 !=0) λρ=>
.b (I.2.2.ge_st W.ln_st) λμ α=>
let δ:qJ:=(qJ.mk μ.geometry_ I.1);let η:=(I.2.2.st_st W.ln_st δ);.o 111 (stw (zIc α) (su_st (x':=δ) α))<|
.fH 59 (zGu I.1 η) λu=>
.iF 191 (u.2.1 !=0) λπ=>
.j 86 (λU=>[(1,iA p1),(5,oA 10 (some W.ln_st)),(9,oA 5 u.1),kH U,kF 0]) (λU=>zD1 W u p1 U)<|
.b (u.2.2.ge_st W.ln_st) λθ κ=>
.o 68 (ldS (zIc κ))<|
.fA 69 (zAb θ.geometry_) λZ=>
.l [] (λq=>[(1,iA p1),(5,oA 10 (some W.ln_st)),(9,oA 5 u.1),(69,iA Z),(70,iA q.1),kH q.2,kF 0]) (Int.toNat Z+1) (λq=>zDw Z u q.1 q.2) (0,u.2.2)
def zB5 p0 p1 W:=(zK3 p0 p1 W).q
theorem zOk p0 p1 W:∀r,zB5 p0 p1 W=some r->FH 27 [oA 1 p0,iA p1] [] [] (hpA W) (hpA r.2) (iA r.1):=zN mixed [0] Tryz.func27 _
end
end Go.Proofs.YtocolhfjpadaoaaGreatDoor
