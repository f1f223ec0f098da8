/-
  Lemmas of this claim, joined.
-/
import Derived.Test.YtocolhfjpadaoaaGreatDoorR12
set_option linter.unusedVariables false
set_option linter.unusedSimpArgs false
set_option linter.constructorNameAsVariable false
namespace Go.Proofs.YtocolhfjpadaoaaGreatDoor
open Go Go.RowKit
variable {P:Program}{w0:World}{w:World}{m0:Mem}{m:Mem}{o0:OwnM}{o:OwnM}{G:GD}{pins:List Nat}{N:Nat}{a:Act}{op:Oper}{S:Nat->A}{M:Nat->A}{L:SL}{v:Value}{W:World}{Q:Mem}{X:OwnM}
set_option maxRecDepth 20000
noncomputable section
def zBR(J:(Int×Int))(U:Y)(I:Int):TT (V×zB) []:=
.fA 36 (zDz J.1) λu=>
.e ((V.mk u.k u.n [] []),(zB.mk U I))
def zBU(x1:(Int×zB))(y3:Y)(y4:Int):TT (V×zB) []:=
.fM 15 0 0 (zBN (zB.mk y3 y4) x1.1) λu=>
.ln 17 u.1 cU8<|
.i 56 ((u.1.length:Int)==0) (λh7=> .fA 19 (zDz 0) λx8=>
.e ((V.mk x8.k x8.n [] []),u.2)) λh7=>
.fA 22 (zBa u.1) λI=>
.j 42 (λq=>[(0,.box [yT q.1,iT q.2]),(2,.box [iT 0,iT 0,nT,nT]),(5,iA I.1)]) (λq=>zBR I q.1 q.2)<|
.i 84 (I.2 !=0) (λβ=> .fM 34 0 0 (yW u.2) λU=>
.k [] .z (U.b_,U.e_)) λβ=>
.b (idx u.1 0) λα W=>
.ix 29 cU8 W<|
.i 98 ((α.toNat:Int)==0) (λZ=> .fM 34 0 0 (yW u.2) λJ=>
.k [] .z (J.b_,J.e_)) λZ=>
.k [] .z (u.2.b_,u.2.e_)
def zD4(U:zB):TT (V×zB) []:=
.fM 8 0 0 (zCO U 1) λu=>
.j 18 (λq=>[(0,.box [yT q.1,iT q.2]),(2,.box [iT 0,iT 0,nT,nT]),(3,iA u.1)]) (λq=>zBU u q.1 q.2)<|
.i 32 (decide (u.1>8)) (λJ=> .fM 12 0 0 (yW u.2) λI=>
.k [] .z (I.b_,I.e_)) λJ=>
.k [] .z (u.2.b_,u.2.e_)
def yH p0:=(zD4 p0).q
theorem zHV p0:∀r,yH p0=some r->FP 310 [.box [yT p0.b_,iT p0.e_]] [(0,[yT r.2.b_,iT r.2.e_])] (.t (.agg [iD r.1.k,iD r.1.n,nD,nD])):=zV mixed Tryz.func310 _
def zLU:TT V []:=
.e (V.mk 3 0 [] [])
def zCU:Option V:=(zLU).run Env.nil
theorem zFY:∀r,zCU=some r->FP 140 [.t (nT)] [] (.t (.agg [iD r.k,iD r.n,nD,nD])):=zV mixed Tryz.func140 zLU (by kernel_rfl)
abbrev qR(self:zB->Int->Option (V×zB)):Prop:=∀(u:zB) (I:Int) (r:(V×zB)),self u I=some r->FP 241 [.box [yT u.b_,iT u.e_],iA I] [(0,[yT r.2.b_,iT r.2.e_])] (.t (.agg [iD r.1.k,iD r.1.n,yD r.1.b,.seq 4 (List.map V.cells r.1.l)]))
def zBZ(δ:(Int×zB))(self:zB->Int->Option (V×zB))(p1:Int)(W:(qR self))(I:V)(J:Y)(u:Int)(Z:List V)(β:Int):TT (V×zB) [Y×Int×(List V)×Int]:=
.i 150 (decide (β<δ.1)) (λγ=> .i 167 (u==0) (λζ=> .y 59 true<|
.b (self (zB.mk J u) (wi (p1-1))) λU ε=>
.o 63 (cM 0 0 (W (zB.mk J u) (wi (p1-1)) _ ε))<|
.w 64 trivial (.oe (congrArg (λz=>A.t (.own 163 4 z)) (zPn V.cells_eq [U.1])))<|
.b (appI 64 Z [U.1]) λη α=>
.w 65 (appC (c:=V.cells) α) (.oe (appE (E:=163) (k:=4) (c:=V.cells) α))<|
.k [] .z (U.2.b_,U.2.e_,η,(wi (β+1)))) λζ=>
.e ((V.mk I.k I.n [] Z),(zB.mk J u))) λγ=>
.e ((V.mk I.k I.n [] Z),(zB.mk J u))
def zBb(p1:Int)(I:(Int×zB))(self:zB->Int->Option (V×zB))(J:(qR self))(U:Y)(W:Int):TT (V×zB) []:=
.b (zCU) λu Z=>
.o 45 (cA (zFY _ Z))<|
.l [7] (λq=>[(0,.box [yT q.1,iT q.2.1]),(1,iA p1),(4,.box [iT 0,iT 0,nT,nT]),(6,iA I.1),(7,.box [iT u.k,iT u.n,nT,.own 163 4 (List.map V.cells q.2.2.1)]),(8,iA q.2.2.2)]) (Int.toNat I.1+1) (λq=>zBZ I self p1 J u q.1 q.2.1 q.2.2.1 q.2.2.2) (U,W,[],0)
def zBL(self:zB->Int->Option (V×zB))(U:qR self)(p0:zB)(p1:Int):TT (V×zB) []:=
.fM 10 0 0 (zBN p0 1) λJ=>
.i 47 (J.2.e_ !=0) (λh3=> .e ((V.mk 0 0 [] []),J.2)) λh3=>
.b (idx J.1 0) λx4 h5=>
.ix 18 cU8 h5<|
.w 20 trivial (zUW x4)<|
.i 65 ((x4.toNat:Int)==1) (λh6=> .fM 24 0 0 (zHV J.2) λx7=>
.e ((V.mk x7.1.k x7.1.n [] []),x7.2)) λh6=>
.i 77 ((x4.toNat:Int)==2) (λh9=> .fM 29 0 0 (zCO J.2 3) λα=>
.fM 30 0 0 (zBN α.2 α.1) λW=>
.fA 31 (zCm W.1) λδ=>
.fA 32 (zHq δ) λI=>
.e ((V.mk I.k I.n I.b []),W.2)) λh9=>
.i 101 ((x4.toNat:Int)==3) (λε=> .fM 36 0 0 (zCO J.2 2) λu=>
.j 54 (λq=>[(0,.box [yT q.1,iT q.2]),(1,iA p1),(4,.box [iT 0,iT 0,nT,nT]),(6,iA u.1)]) (λq=>zBb p1 u self U q.1 q.2)<|
.i 120 (decide (u.1>4096)) (λγ=> .fM 44 0 0 (yW u.2) λβ=>
.k [] .z (β.b_,β.e_)) λγ=>
.i 128 (p1==0) (λζ=> .fM 44 0 0 (yW u.2) λZ=>
.k [] .z (Z.b_,Z.e_)) λζ=>
.k [] .z (u.2.b_,u.2.e_)) λε=>
.fM 69 0 0 (yW J.2) λη=>
.e ((V.mk 0 0 [] []),η)
theorem zJS(self:zB->Int->Option (V×zB))(u:qR self):qR (λJ I=>(zBL self u J I).run Env.nil):=λJ I=>zV mixed Tryz.func241 (zBL self u J I) (by kernel_rfl)
noncomputable def zBJ:Nat->{self:zB->Int->Option (V×zB)// qR self}
 |0=>⟨λ_ _=>none,λ_ _ _ h=>nomatch h⟩
 |k+1=>⟨_,zJS (zBJ k).1 (zBJ k).2⟩
def zL(k:Nat):zB->Int->Option (V×zB):=(zBJ k).1
theorem zDt(k:Nat):qR (zL k):=(zBJ k).2
def zDb(J:(V×zB))(u:Int):TT (V×Int) []:=
.i 107 (u !=0) (λI=> .e ((V.mk 0 0 [] []),u)) λI=>
.e (J.1,0)
def zJb(J:Y):TT (V×Int) []:=
.ln 7 J cU8<|
.i 26 (decide ((J.length:Int)>1048576)) (λZ=> .e ((V.mk 0 0 [] []),3)) λZ=>
.fM 14 12 0 (zDt (Int.toNat 16+1) (zB.mk J 0) 16) λu=>
.j 30 (λI=>[(2,.box [iT 0,iT 0,nT,nT]),(4,.ref 12 0),(5,.box [iT u.1.k,iT u.1.n,yT u.1.b,.d (.seq 4 (List.map V.cells u.1.l))]),(12,.box [yT u.2.b_,iT I])]) (λI=>zDb u I)<|
.i 63 (u.2.e_==0) (λU=> .ln 25 u.2.b_ cU8<|
.i 83 (decide ((u.2.b_.length:Int)>0)) (λW=> .k [] .z 12) λW=>
.k [] .z u.2.e_) λU=>
.k [] .z u.2.e_
def zCo p0:=(zJb p0).q
theorem zIP p0:∀r,zCo p0=some r->FP 149 [yA p0] [] (.tup [.agg [iD r.1.k,iD r.1.n,yD r.1.b,.seq 4 (List.map V.cells r.1.l)],iT r.2]):=zV mixed Tryz.func149 _
def zDi(u:V):TT ((List V)×Bool) []:=
.e (u.l,true)
def zDa(U:V)(I W:Int):TT ((List V)×Bool) [Int,Unit]:=
.b (idx U.l I) λZ u=>
.w 34 (idxC (c:=V.cells) u) (.oe (zCV V.cells_eq u))<|
.i 116 (Z.k !=W) (λJ=> .e ([],false)) λJ=>
.k [] .z (wi (I+1))
def zDh(J:List Int)(u:V)(I:Int):TT ((List V)×Bool) [Int,Unit]:=
.i 68 (decide (I<(J.length:Int))) (λh4=> .b (idx J I) λU h6=>
.ix 24 cI64 h6<|
.j 38 (λ_=>[(2,.box [iT u.k,iT u.n,yT u.b,.d (.seq 4 (List.map V.cells u.l))]),(6,iA I),(7,iA U),(19,.t (.d (.seq 1 (List.map cI64 J)))),(20,iA (J.length:Int)),(21,iA I)]) (λ_=>zDa u I U)<|
.i 83 (U==1) (λZ=> .k [] .z ()) λZ=>
.i 89 (U==2) (λW=> .k [] .z ()) λW=>
.k [] .z ()) λh4=>
.k [] (.s .z) ()
def zJl(u:V)(I:List Int):TT ((List V)×Bool) []:=
.i 36 (u.k !=3) (λZ=> .e ([],false)) λZ=>
.w 14 trivial (lnE u.l V.cells)<|
.ln 16 I cI64<|
.i 56 ((u.l.length:Int) !=(I.length:Int)) (λU=> .e ([],false)) λU=>
.j 50 (λ_=>[(2,.box [iT u.k,iT u.n,yT u.b,.d (.seq 4 (List.map V.cells u.l))])]) (λ_=>zDi u)<|
.ln 20 I cI64<|
.l [] (λJ=>[(2,.box [iT u.k,iT u.n,yT u.b,.d (.seq 4 (List.map V.cells u.l))]),(19,.t (.d (.seq 1 (List.map cI64 I)))),(20,iA (I.length:Int)),(21,iA J)]) (I.length+1) (λJ=>zDh I u J) 0
def zCs p0 p1:=(zJl p0 p1).q
theorem zE2 p0 p1:∀r,zCs p0 p1=some r->FP 150 [.t (.agg [iD p0.k,iD p0.n,yD p0.b,.seq 4 (List.map V.cells p0.l)]),.t (.d (.seq 1 (List.map cI64 p1)))] [] (.tup [.d (.seq 4 (List.map V.cells r.1)),bT' r.2]):=zV mixed Tryz.func150 _
def zCI(I u U:V)(J:List Y):TT (zD×Int) []:=
.e ((zD.mk I.n u.n U.b J),0)
def zCP(J:V)(W:List Y)(I:Int):TT (zD×Int) [(List Y)×Int,(List Y)]:=
.i 188 (decide (I<(J.l.length:Int))) (λβ=> .b (idx J.l I) λu U=>
.w 63 (idxC (c:=V.cells) U) (.oe (zCV V.cells_eq U))<|
.i 203 (u.k !=2) (λα=> .e ((zD.mk 0 0 [] []),11)) λα=>
.y 70 true<|
.w 73 (zGB u.b) (.oe (strE u.b))<|
.b (appI 16 W [u.b]) λγ Z=>
.w 75 (appC (c:=cStr) Z) (.oe (appE (E:=9) (k:=1) (c:=cStr) Z))<|
.k [] .z (γ,(wi (I+1)))) λβ=>
.k [] (.s .z) W
def zFN(p0:Y):TT (zD×Int) []:=
.fA 13 (zIP p0) λx1=>
.i 53 (x1.2 !=0) (λh3=> .e ((zD.mk 0 0 [] []),x1.2)) λh3=>
.fA 23 (zE2 x1.1 [1,1,2,3]) λJ=>
.i 87 (!J.2) (λh6=> .e ((zD.mk 0 0 [] []),11)) λh6=>
.b (idx J.1 0) λx7 h8=>
.w 30 (idxC (c:=V.cells) h8) (.oe (zCV V.cells_eq h8))<|
.i 108 (decide (x7.n>255)) (λh9=> .e ((zD.mk 0 0 [] []),11)) λh9=>
.b (idx J.1 1) λη β=>
.w 37 (idxC (c:=V.cells) β) (.oe (zCV V.cells_eq β))<|
.i 125 (decide (η.n>2305843009213693952)) (λζ=> .e ((zD.mk 0 0 [] []),11)) λζ=>
.b (idx J.1 0) λZ α=>
.w 44 (idxC (c:=V.cells) α) (.oe (zCV V.cells_eq α))<|
.b (idx J.1 1) λI γ=>
.w 48 (idxC (c:=V.cells) γ) (.oe (zCV V.cells_eq γ))<|
.b (idx J.1 2) λW ε=>
.w 52 (idxC (c:=V.cells) ε) (.oe (zCV V.cells_eq ε))<|
.j 62 (λU=>[(2,.box [iT 0,iT 0,nT,nT]),(8,.box [iT Z.n,iT I.n,yT W.b,.own 9 1 (List.map cStr U)])]) (λU=>zCI Z I W U)<|
.b (idx J.1 3) λu δ=>
.w 57 (idxC (c:=V.cells) δ) (.oe (zCV V.cells_eq δ))<|
.w 60 trivial (lnE u.l V.cells)<|
.l [8] (λq=>[(2,.box [iT 0,iT 0,nT,nT]),(8,.box [iT Z.n,iT I.n,yT W.b,.own 9 1 (List.map cStr q.1)]),(59,.t (.d (.seq 4 (List.map V.cells u.l)))),(60,iA (u.l.length:Int)),(61,iA q.2)]) (u.l.length+1) (λq=>zCP u q.1 q.2) ([],0)
def qV p0:=(zFN p0).q
theorem zBf p0:∀r,qV p0=some r->FP 50 [yA p0] [] (.tup [.agg [iD r.1.Err,iD r.1.Version,yD r.1.Data,.seq 1 (List.map cStr r.1.Keys)],iT r.2]):=zV mixed Tryz.func50 _
def zR9(u:Y):TT V []:=
.e (V.mk 2 0 u [])
def zHt p0:=(zR9 p0).q
theorem zEZ p0:∀r,zHt p0=some r->FP 145 [yA p0] [] (.t (.agg [iD r.k,iD r.n,yD r.b,nD])):=zV mixed Tryz.func145 _
def zHi(J:Int)(I:Y):TT (Y×Int) []:=
.i 110 (decide (J>0)) (λu=> .e ([],2)) λu=>
.y 37 true<|
.y 4 true<|
.e (I,0)
def zIS(p1 J:Int)(W:Y)(I:Int):TT (Y×Int) [Int×Y×Int,Int×Y]:=
.i 74 (decide (I<p1)) (λZ=> .y 27 true<|
.w 30 trivial (u8E (Int.tmod J 256))<|
.b (appI 1 W [(U8 (Int.tmod J 256))]) λU u=>
.w 32 (appC (c:=cU8) u) (.oe (appE (E:=5) (k:=1) (c:=cU8) u))<|
.y 6 true<|
.k [] .z ((wi (Int.tdiv J 256)),U,(wi (I+1)))) λZ=>
.k [] (.s .z) (J,W)
def zO3(I u:Int):TT (Y×Int) []:=
.i 33 (decide (u<1)) (λZ=> .e ([],2)) λZ=>
.i 45 (decide (u>8)) (λJ=> .e ([],2)) λJ=>
.i 57 (decide (I<0)) (λW=> .e ([],2)) λW=>
.i 65 (decide (I>4611686018427387904)) (λU=> .e ([],2)) λU=>
.j 38 (λq=>[(0,iA q.1),(6,.t (.own 5 1 (zU q.2)))]) (λq=>zHi q.1 q.2)<|
.l [6] (λq=>[(0,iA q.1),(1,iA u),(6,.t (.own 5 1 (zU q.2.1))),(7,iA q.2.2)]) (Int.toNat u+1) (λq=>zIS u q.1 q.2.1 q.2.2) (I,[],0)
def zKx(I u:Int):Option (Y×Int):=(zO3 I u).run Env.nil
theorem zWL(I u:Int):∀r,zKx I u=some r->FP 307 [iA I,iA u] [] (.tup [yT r.1,iT r.2]):=zV mixed Tryz.func307 (zO3 I u) (by kernel_rfl)
def zEk(U I:Y)(u:Int):TT Y [Y×Int]:=
.i 29 (decide (u>=0)) (λh3=> .y 12 true<|
.b (idx U u) λZ W=>
.ix 15 cU8 W<|
.b (appI 1 I [Z]) λx6 J=>
.w 18 (appC (c:=cU8) J) (.oe (appE (E:=5) (k:=1) (c:=cU8) J))<|
.y 3 true<|
.k [] .z (x6,(wi (u-1)))) λh3=>
.y 19 true<|
.y 2 true<|
.e I
def zMk(u:Y):TT Y []:=
.ln 6 u cU8<|
.l [3] (λq=>[(0,yA u),(3,.t (.own 5 1 (zU q.1))),(4,iA q.2)]) (Int.toNat (wi ((u.length:Int)-1))+2) (λq=>zEk u q.1 q.2) ([],(wi ((u.length:Int)-1)))
def zD0 p0:=(zMk p0).q
theorem zRj p0:∀r,zD0 p0=some r->FP 308 [yA p0] [] (.t (.own 5 1 (zU r))):=zV mixed Tryz.func308 _
def zOM(U I:Int):TT (Y×Int) []:=
.fA 11 (zWL U I) λu=>
.fA 15 (zRj u.1) λJ=>
.y 4 true<|
.e (J,u.2)
def zDq(I u:Int):Option (Y×Int):=(zOM I u).run Env.nil
theorem zL6(I u:Int):∀r,zDq I u=some r->FP 240 [iA I,iA u] [] (.tup [yT r.1,iT r.2]):=zV mixed Tryz.func240 (zOM I u) (by kernel_rfl)
abbrev zCw(self:V->Option Y):Prop:=∀(u:V) (r:Y),self u=some r->FP 146 [.t (.agg [iD u.k,iD u.n,yD u.b,.seq 4 (List.map V.cells u.l)])] [] (.t (.own 5 1 (zU r)))
def zFh(J:V)(u:Int):TT Y []:=
.w 27 trivial (u8E u)<|
.y 5 true<|
.i 92 (decide (u>0)) (λW=> .fA 35 (zL6 J.n u) λU=>
.y 38 true<|
.b (appI 1 [1,(U8 u)] U.1) λZ I=>
.w 40 (appC (c:=cU8) I) (.oe (appE (E:=5) (k:=1) (c:=cU8) I))<|
.y 5 true<|
.y 41 true<|
.y 2 true<|
.e Z) λW=>
.y 41 true<|
.y 2 true<|
.e [1,(U8 u)]
def zFt(J I:Int):TT Y [Int×Int,Int]:=
.i 65 (decide (I>0)) (λu=> .k [] .z ((wi (J+1)),(wi (Int.tdiv I 256)))) λu=>
.k [] (.s .z) J
def zFl(p0:V)(self:V->Option Y)(I:(zCw self))(Z:Y)(u:Int):TT Y [Y×Int]:=
.w 74 trivial (lnE p0.l V.cells)<|
.i 227 (decide (u<(p0.l.length:Int))) (λα=> .y 78 true<|
.b (idx p0.l u) λU J=>
.w 82 (idxC (c:=V.cells) J) (.oe (zCV V.cells_eq J))<|
.b (self U) λδ β=>
.o 84 (cA (I U _ β))<|
.b (appI 1 Z δ) λγ W=>
.w 85 (appC (c:=cU8) W) (.oe (appE (E:=5) (k:=1) (c:=cU8) W))<|
.y 13 true<|
.k [] .z (γ,(wi (u+1)))) λα=>
.y 86 true<|
.y 2 true<|
.e Z
def zGi(self:V->Option Y)(I:zCw self)(u:V):TT Y []:=
.i 53 (u.k==1) (λh1=> .j 30 (λy2=>[(1,.box [iT u.k,iT u.n,yT u.b,.d (.seq 4 (List.map V.cells u.l))]),(3,iA y2)]) (λy2=>zFh u y2)<|
.l [] (λq=>[(1,.box [iT u.k,iT u.n,yT u.b,.d (.seq 4 (List.map V.cells u.l))]),(3,iA q.1),(4,iA q.2)]) (70) (λq=>zFt q.1 q.2) (0,u.n)) λh1=>
.i 134 (u.k==2) (λε=> .ln 48 u.b cU8<|
.fA 49 (zL6 (u.b.length:Int) 3) λα=>
.y 10 true<|
.y 53 true<|
.b (appI 1 [2] α.1) λγ U=>
.w 55 (appC (c:=cU8) U) (.oe (appE (E:=5) (k:=1) (c:=cU8) U))<|
.y 10 true<|
.y 56 true<|
.b (appI 1 γ u.b) λβ Z=>
.w 59 (appC (c:=cU8) Z) (.oe (appE (E:=5) (k:=1) (c:=cU8) Z))<|
.y 2 true<|
.e β) λε=>
.w 63 trivial (lnE u.l V.cells)<|
.fA 64 (zL6 (u.l.length:Int) 2) λδ=>
.y 13 true<|
.y 68 true<|
.b (appI 1 [3] δ.1) λW J=>
.w 70 (appC (c:=cU8) J) (.oe (appE (E:=5) (k:=1) (c:=cU8) J))<|
.y 13 true<|
.l [] (λq=>[(1,.box [iT u.k,iT u.n,yT u.b,.d (.seq 4 (List.map V.cells u.l))]),(13,.t (.own 5 1 (zU q.1))),(14,iA q.2)]) (u.l.length+1) (λq=>zFl u self I q.1 q.2) (W,0)
theorem zTk(self:V->Option Y)(u:zCw self):zCw (λI=>(zGi self u I).run Env.nil):=λI=>zV mixed Tryz.func146 (zGi self u I) (by kernel_rfl)
noncomputable def zGO:Nat->{self:V->Option Y // zCw self}
 |0=>⟨λ_=>none,λ_ _ h=>nomatch h⟩
 |k+1=>⟨_,zTk (zGO k).1 (zGO k).2⟩
def zBF(k:Nat):V->Option Y:=(zGO k).1
theorem zIi(k:Nat):zCw (zBF k):=(zGO k).2
def zVg(u:List V):TT V []:=
.e (V.mk 3 0 [] u)
def zLL p0:=(zVg p0).q
theorem zGJ p0:∀r,zLL p0=some r->FP 147 [.t (.d (.seq 4 (List.map V.cells p0)))] [] (.t (.agg [iD r.k,iD r.n,nD,.seq 4 (List.map V.cells r.l)])):=zV mixed Tryz.func147 _
def zSn(u:Int):TT V []:=
.e (V.mk 1 u [] [])
def zIG p0:=(zSn p0).q
theorem zEY p0:∀r,zIG p0=some r->FP 148 [iA p0] [] (.t (.agg [iD r.k,iD r.n,nD,nD])):=zV mixed Tryz.func148 _
def zP8(p0:zS)(y1 y2:List V):TT Y []:=
.fA 71 (zEY p0.Kind) λx3=>
.b (strB p0.User) λx5 h6=>
.w 74 (strBC h6) (.oe (strBE h6))<|
.fA 75 (zEZ x5) λZ=>
.fA 78 (zEY p0.Number) λW=>
.b (strB p0.Key) λβ α=>
.w 81 (strBC α) (.oe (strBE α))<|
.fA 82 (zEZ β) λJ=>
.fA 84 (zGJ y1) λu=>
.fA 86 (zGJ y2) λI=>
.w 87 trivial (show WkA (.t (.own 163 4 [[iD x3.k,iD x3.n,nD,nD],[iD Z.k,iD Z.n,yD Z.b,nD],[iD W.k,iD W.n,nD,nD],[iD J.k,iD J.n,yD J.b,nD],[iD u.k,iD u.n,nD,.seq 4 (List.map V.cells u.l)],[iD I.k,iD I.n,nD,.seq 4 (List.map V.cells I.l)]])) _ from(.t (.rows _ _ (.cons (.cons (.refl _) (.cons (.refl _) (.cons (.nil _) (.cons (.nil _) .nil)))) (.cons (.cons (.refl _) (.cons (.refl _) (.cons (.refl _) (.cons (.nil _) .nil)))) (.cons (.cons (.refl _) (.cons (.refl _) (.cons (.nil _) (.cons (.nil _) .nil)))) (.cons (.cons (.refl _) (.cons (.refl _) (.cons (.refl _) (.cons (.nil _) .nil)))) (.cons (.cons (.refl _) (.cons (.refl _) (.cons (.nil _) (.cons (.refl _) .nil)))) (.cons (.cons (.refl _) (.cons (.refl _) (.cons (.nil _) (.cons (.refl _) .nil)))) .nil)))))) (zPn V.cells_eq [(V.mk x3.k x3.n [] []),(V.mk Z.k Z.n Z.b []),(V.mk W.k W.n [] []),(V.mk J.k J.n J.b []),(V.mk u.k u.n [] u.l),(V.mk I.k I.n [] I.l)]))))<|
.fA 88 (zGJ [(V.mk x3.k x3.n [] []),(V.mk Z.k Z.n Z.b []),(V.mk W.k W.n [] []),(V.mk J.k J.n J.b []),(V.mk u.k u.n [] u.l),(V.mk I.k I.n [] I.l)]) λU=>
.fA 89 (zIi (V.ht (V.mk U.k U.n [] U.l)) (V.mk U.k U.n [] U.l)) λγ=>
.y 2 true<|
.e γ
def zP1(p0:zS)(γ:List V)(W:Int):TT Y [(List V)×Int,(List V)]:=
.ln 42 p0.Changes zF<|
.i 131 (decide (W<(p0.Changes.length:Int))) (λζ=> .b (idx p0.Changes W) λZ δ=>
.ix 49 zF δ<|
.y 51 true<|
.fA 54 (zEY Z.Kind) λU=>
.b (strB Z.Key) λε β=>
.w 57 (strBC β) (.oe (strBE β))<|
.fA 58 (zEZ ε) λx32=>
.fA 61 (zEY Z.Version) λJ=>
.fA 64 (zEZ Z.Data) λu=>
.w 65 trivial (show WkA (.t (.own 163 4 [[iD U.k,iD U.n,nD,nD],[iD x32.k,iD x32.n,yD x32.b,nD],[iD J.k,iD J.n,nD,nD],[iD u.k,iD u.n,yD u.b,nD]])) _ from(.t (.rows _ _ (.cons (.cons (.refl _) (.cons (.refl _) (.cons (.nil _) (.cons (.nil _) .nil)))) (.cons (.cons (.refl _) (.cons (.refl _) (.cons (.refl _) (.cons (.nil _) .nil)))) (.cons (.cons (.refl _) (.cons (.refl _) (.cons (.nil _) (.cons (.nil _) .nil)))) (.cons (.cons (.refl _) (.cons (.refl _) (.cons (.refl _) (.cons (.nil _) .nil)))) .nil)))) (zPn V.cells_eq [(V.mk U.k U.n [] []),(V.mk x32.k x32.n x32.b []),(V.mk J.k J.n [] []),(V.mk u.k u.n u.b [])]))))<|
.fA 66 (zGJ [(V.mk U.k U.n [] []),(V.mk x32.k x32.n x32.b []),(V.mk J.k J.n [] []),(V.mk u.k u.n u.b [])]) λI=>
.w 67 trivial (show WkA (.t (.own 163 4 [[iD I.k,iD I.n,nD,.seq 4 (List.map V.cells I.l)]])) _ from(.t (.rows _ _ (.cons (.cons (.refl _) (.cons (.refl _) (.cons (.nil _) (.cons (.refl _) .nil)))) .nil) (zPn V.cells_eq [(V.mk I.k I.n [] I.l)]))))<|
.b (appI 64 γ [(V.mk I.k I.n [] I.l)]) λη α=>
.w 68 (appC (c:=V.cells) α) (.oe (appE (E:=163) (k:=4) (c:=V.cells) α))<|
.y 6 true<|
.k [] .z (η,(wi (W+1)))) λζ=>
.k [] (.s .z) γ
def zPw(u:zS)(I:List V):TT Y []:=
.j 54 (λJ=>[(1,.box [iT u.Kind,sT u.User,iT u.Number,sT u.Key,.d (.seq 4 (List.map zK u.Wants)),.d (.seq 4 (List.map zF u.Changes))]),(3,.t (.own 163 4 (List.map V.cells I))),(6,.t (.own 163 4 (List.map V.cells J)))]) (λJ=>zP8 u I J)<|
.l [6] (λq=>[(1,.box [iT u.Kind,sT u.User,iT u.Number,sT u.Key,.d (.seq 4 (List.map zK u.Wants)),.d (.seq 4 (List.map zF u.Changes))]),(3,.t (.own 163 4 (List.map V.cells I))),(6,.t (.own 163 4 (List.map V.cells q.1))),(7,iA q.2)]) (u.Changes.length+1) (λq=>zP1 u q.1 q.2) ([],0)
def zPU(J:zS)(I:List V)(u:Int):TT Y [(List V)×Int,(List V)]:=
.ln 12 J.Wants zK<|
.iF 41 (decide (u<(J.Wants.length:Int))) λU=>
.k [] (.s .z) I
def zUd(u:zS):TT Y []:=
.j 30 (λI=>[(1,.box [iT u.Kind,sT u.User,iT u.Number,sT u.Key,.d (.seq 4 (List.map zK u.Wants)),.d (.seq 4 (List.map zF u.Changes))]),(3,.t (.own 163 4 (List.map V.cells I)))]) (λI=>zPw u I)<|
.l [3] (λq=>[(1,.box [iT u.Kind,sT u.User,iT u.Number,sT u.Key,.d (.seq 4 (List.map zK u.Wants)),.d (.seq 4 (List.map zF u.Changes))]),(3,.t (.own 163 4 (List.map V.cells q.1))),(4,iA q.2)]) (u.Wants.length+1) (λq=>zPU u q.1 q.2) ([],0)
def zKS p0:=(zUd p0).q
theorem zSC p0:∀r,zKS p0=some r->FP 57 [.t (.agg [iD p0.Kind,sD p0.User,iD p0.Number,sD p0.Key,.seq 4 (List.map zK p0.Wants),.seq 4 (List.map zF p0.Changes)])] [] (.t (.own 5 1 (zU r))):=zV mixed Tryz.func57 _
def zSj(u:Int):TT Int []:=
.e (wi (Int.tdiv (wi ((wi (u+512))-1)) 512))
def zTW p0:=(zSj p0).q
theorem zLK p0:∀r,zTW p0=some r->FP 180 [iA p0] [] (iA r):=zV mixed Tryz.func180 _
def zVy(I:Int):TT qB []:=
.fA 6 (zLK I) λu=>
.fA 18 (zLK (if 0>(wi ((wi (I-2))-(wi (1+(wi (2*(wi (513+u))))))))then 0 else(wi ((wi (I-2))-(wi (1+(wi (2*(wi (513+u)))))))))) λJ=>
.e (qB.mk (wi (1+(wi (2*(wi (513+u)))))) (if 0>(wi ((wi (I-2))-(wi (1+(wi (2*(wi (513+u))))))))then 0 else(wi ((wi (I-2))-(wi (1+(wi (2*(wi (513+u))))))))) J)
def zMD p0:=(zVy p0).q
theorem zKP p0:∀r,zMD p0=some r->FP 91 [iA p0] [] (.t (.agg [iD r.size_,iD r.homes_,iD r.maps_])):=zV mixed Tryz.func91 _
def zHJ(I:qB):TT Int []:=
.fA 4 (zDF I) λu=>
.e (wi (u+4))
def zA1 p0:=(zHJ p0).q
theorem zAY p0:∀r,zA1 p0=some r->FP 97 [.t (.agg [iD p0.size_,iD p0.homes_,iD p0.maps_])] [] (iA r):=zV mixed Tryz.func97 _
def zIH(u:qB):TT Int []:=
.fA 6 (zAY u) λI=>
.e (wi (u.homes_-I))
def zH8 p0:=(zIH p0).q
theorem zA2 p0:∀r,zH8 p0=some r->FP 92 [.t (.agg [iD p0.size_,iD p0.homes_,iD p0.maps_])] [] (iA r):=zV mixed Tryz.func92 _
def zSQ(u:Int):TT Int []:=
.iF 18 (decide (u<1)) λZ=>
.iF 26 (decide (u>16384)) λU=>
.fA 10 (zKP u) λJ=>
.fA 11 (zA2 J) λI=>
.e (if 0>I then 0 else I)
def zIR p0:=(zSQ p0).q
theorem zRH p0:∀r,zIR p0=some r->FP 25 [iA p0] [] (iA r):=zV mixed Tryz.func25 _
def zWE(U:O)(u:Int)(W:Hp):TT Bool []:=
.i 24 (decide (u>=3)) (λI=> .fR 10 (yL U W) λJ=>
.e (decide (u<=(wi ((wi (J-2))-1))))) λI=> .no
def zMS p0 p1 W:=(zWE p0 p1 W).q
theorem zMc p0 p1 W:∀r,zMS p0 p1 W=some r->FH 181 [oA 1 p0,iA p1] [] [] (hpA W) (hpA W) (bA r):=zM mixed [] Tryz.func181 _
def zG6(u:O)(W:Hp):TT (Bool×Hp) []:=
.pS u λU J=>
.s 16 3 1 J<|
.b (W.ge_dk U) λx3 I=>
.o 6 (ld (zLF I))<|
.i 23 (decide (x3.fuse_<0)) (λZ=> .e (false,W)) λZ=> .no
def yY p0 W:=(zG6 p0 W).q
theorem zFM p0 W:∀r,yY p0 W=some r->FH 276 [oA 1 p0] [] [] (hpA W) (hpA r.2) (bA r.1):=zM mixed [] Tryz.func276 _
def zGC(p0:O)(p1:Int)(p2:Y)(W:Hp):TT (Int×Hp) []:=
.fR 11 (zCW p0 p1 W) λx1=>
.iF 41 (x1 !=0) λh3=>
.ln 16 p2 cU8<|
.iF 53 ((p2.length:Int) !=64) λh4=>
.b (s2aI 64 p2) λx5 h6=>
.o 20 (s2a (c:=cU8) (0:UInt8) h6)<|
.pS p0 λi8 h7=>
.s 100 24 1 h7<|
.b (W.ge_dk i8) λu J=>
.o 27 (htake (zLF J))<|
.b (appI 72 u.wait_ [(qW.mk p1 x5)]) λη δ=>
.w 30 (appC (c:=zBe) δ) (.oe (appE (E:=238) (k:=65) (c:=zBe) δ))<|
.s 124 23 1 h7<|
let I:qF:=(qF.mk u.kept_ u.now_ η u.fuse_ u.off_ u.lives_);let Z:=(W.st_dk i8 I);.o 43 (hsto (l1:=[.hvw (cd 2 u.kept_.1) 0 236 64 u.kept_.2,.hvw (cd 2 u.now_.1) 0 236 64 u.now_.2,.d (.seq 65 (List.map zBe u.wait_)),iT u.fuse_,bT' u.off_,iT u.lives_]) (su2_dk (x':=I) J))<|
have θ:Z.ge_dk i8=some I:=(zE3 J);.s 136 33 1 h7<|
.o 36 (ld (zLF θ))<|
.b (Z.ge_sec I.now_.1) λα β=>
.b (lenI α.length I.now_.2) λν ζ=>
.b (idx α p1) λκ U=>
.c 40 (idxV (yR ζ) U)<|
let ε:(List Y):=(α.set (Int.toNat p1) x5);let ι:=(Z.st_sec I.now_.1 ε);.o 43 (stA (n:=64) (zVI β) (zEQ (c:=zCB) (k:=64) (q:=0) U (λ_=>(by kernel_rfl)) rfl) (zGT (x:=dT zCB x5) (c:=zCB) (k:=64) (q:=0) U x5 (λ_=>(by kernel_rfl)) (by kernel_rfl) (by kernel_rfl)) (su_sec (x':=ε) β))<|
.fH 42 (zFM p0 ι) λγ=>
.iF 128 γ.1 λμ=>
.e (0,γ.2)
def zAF p0 p1 p2 W:=(zGC p0 p1 p2 W).q
theorem zAs p0 p1 p2 W:∀r,zAF p0 p1 p2 W=some r->FH 182 [oA 1 p0,iA p1,yA p2] [] [] (hpA W) (hpA r.2) (iA r.1):=zM mixed [] Tryz.func182 _
def zCh(p0:O)(Z:Hp):TT (Int×Hp) []:=
.pS p0 λW h8=>
.s 132 32 1 h8<|
.b (Z.ge_dk W) λu J=>
let I:qF:=(qF.mk u.kept_ u.now_ [] u.fuse_ u.off_ u.lives_);let U:=(Z.st_dk W I);.o 35 (stw (zLF J) (su_dk (x':=I) J))<|
.e (0,U)
def zCe(δ:qF)(p0:O)(α:Nat)(ζ:p0=some α)(U:Int)(I:Hp):TT (Int×Hp) [Int×Hp,Hp]:=
.i 59 (decide (U<(δ.wait_.length:Int))) (λη=> .b (idx δ.wait_ U) λu κ=>
.ix 20 zBe κ<|
.s 92 22 1 ζ<|
.b (I.ge_dk α) λW ε=>
.o 25 (ld (zLF ε))<|
.b (I.ge_sec W.kept_.1) λJ γ=>
.b (lenI J.length W.kept_.2) λν θ=>
.b (idx J u.n_) λμ Z=>
.c 30 (idxV (yR θ) Z)<|
let β:(List Y):=(J.set (Int.toNat u.n_) u.b_);let ι:=(I.st_sec W.kept_.1 β);.o 35 (stA (n:=64) (zVI γ) (zEQ (c:=zCB) (k:=64) (q:=0) Z (λ_=>(by kernel_rfl)) rfl) (zGT (x:=dT zCB u.b_) (c:=zCB) (k:=64) (q:=0) Z u.b_ (λ_=>(by kernel_rfl)) (by kernel_rfl) (by kernel_rfl)) (su_sec (x':=β) γ))<|
.k [] .z ((wi (U+1)),ι)) λη=>
.k [] (.s .z) I
def zFw(I:O)(W:Hp):TT (Int×Hp) []:=
.fR 7 (zCW I 0 W) λx1=>
.iF 29 (x1 !=0) λh3=>
.fH 12 (zFM I W) λx4=>
.iF 38 x4.1 λh6=>
.j 46 (λZ=>[(0,oA 1 I),kH Z]) (λZ=>zCh I Z)<|
.pS I λU J=>
.s 56 13 1 J<|
.b (x4.2.ge_dk U) λu α=>
.o 16 (ld (zLF α))<|
.ln 17 u.wait_ zBe<|
.l [] (λq=>[(0,oA 1 I),(16,.t (.d (.seq 65 (List.map zBe u.wait_)))),(17,iA (u.wait_.length:Int)),(18,iA q.1),kH q.2]) (u.wait_.length+1) (λq=>zCe u I U J q.1 q.2) (0,x4.2)
def zAh p0 W:=(zFw p0 W).q
theorem zAw p0 W:∀r,zAh p0 W=some r->FH 183 [oA 1 p0] [] [] (hpA W) (hpA r.2) (iA r.1):=zM mixed [] Tryz.func183 _
def zMs(u:Y)(X n0:Nat)(J:Int):TT Y []:=
.fA 10 (zBY J ((n0:Nat):Int)) λZ=>
.b (cpyI u X n0 Z.1) λI U=>
.b (lenI I.length u.length) λW _=>
.o 15 (cpy (c:=cU8) 0 (λ_=>rfl) U)<|
.e I
def zCN(I:Y)(X n0:Nat)(u:Int):Option Y:=(zMs I X n0 u).run Env.nil
theorem zBn(I:Y)(X n0:Nat)(u:Int)(W:Hp):∀r,zCN I X n0 u=some r->FH 277 [.t (.view 0 X 0 1 n0),iA u] [.box (fl (dT cU8) I)] [.box (fl (dT cU8) r)] (hpA W) (hpA W) (.tup []):=zM mixed [] Tryz.func277 (zMs I X n0 u) (by kernel_rfl)
def zIY(Z p1:Int)(W:Hp):TT Y []:=
.b (mkI 1 64) λu h2=>
.o 6 (mkl false 0 (c0:=dT cU8 (0:UInt8)) h2 (zMl (c:=cU8) (z:=(0:UInt8)) (by kernel_rfl) u))<|
.b (vcut u 0 8) λx3 h4=>
.o 8 (lsl (off':=(0+Int.toNat 0*1)) (n':=(Int.toNat 8-Int.toNat 0)) (zBK h4))<|
.b (zCN (List.replicate u (0:UInt8)) (0+Int.toNat 0*1) (Int.toNat 8-Int.toNat 0) Z) λU h6=>
.b (lenI U.length (List.replicate u (0:UInt8)).length) λx7 h8=>
.o 10 (cOR [0] [] (zBn (List.replicate u (0:UInt8)) (0+Int.toNat 0*1) (Int.toNat 8-Int.toNat 0) Z W _ h6) (zA4 _ _ yK) (zA4 _ _ yK))<|
.b (vcut u 8 12) λx9 β=>
.o 12 (lsl (off':=(0+Int.toNat 8*1)) (n':=(Int.toNat 12-Int.toNat 8)) (zBK β))<|
.b (zCN U (0+Int.toNat 8*1) (Int.toNat 12-Int.toNat 8) p1) λI γ=>
.b (lenI I.length U.length) λι α=>
.o 14 (cOR [0] [] (zBn U (0+Int.toNat 8*1) (Int.toNat 12-Int.toNat 8) p1 W _ γ) (zA4 _ _ yK) (zA4 _ _ yK))<|
.b (vcut u 56 (u:Int)) λθ δ=>
.o 16 (lsl (off':=(0+Int.toNat 56*1)) (n':=(Int.toNat (u:Int)-Int.toNat 56)) (zBK δ))<|
.b (zCN I (0+Int.toNat 56*1) (Int.toNat (u:Int)-Int.toNat 56) Z) λJ ζ=>
.b (lenI J.length I.length) λη ε=>
.o 18 (cOR [0] [] (zBn I (0+Int.toNat 56*1) (Int.toNat (u:Int)-Int.toNat 56) Z W _ ζ) (zA4 _ _ yK) (zA4 _ _ yK))<|
.f 1 (frzB (c:=cU8) (k:=1) 4 0 (y:=J) (λ_=>rfl) (f:=hpA W) (n0:=u) ((yR ε).trans ((yR α).trans ((yR h8).trans wW))).symm [obB 0 cU8 J,obH (hpA W)])<|
.e J
def zII(I u:Int)(W:Hp):Option Y:=(zIY I u W).run Env.nil
theorem zFx(I u:Int)(W:Hp):∀r,zII I u W=some r->FH 184 [iA I,iA u] [] [] (hpA W) (hpA W) (yA r):=zM mixed [0] Tryz.func184 (zIY I u W) (by kernel_rfl)
def zEn(J:O)(p1:Int)(W:Hp):TT (Int×Hp) []:=
.fH 32 (zAw J W) λZ=>
.iF 104 (Z.1 !=0) λα=>
.fR 38 (zFx 1 p1 Z.2) λU=>
.fH 39 (zAs J 0 U Z.2) λI=>
.iF 125 (I.1 !=0) λβ=>
.fH 44 (zAw J I.2) λu=>
.e (u.1,u.2)
def zE1(p1:Int)(p0:O)(u:Int)(U:Hp):TT (Int×Hp) [Int×Hp,Hp]:=
.i 65 (decide (u<(wi (2+p1)))) (λZ=> .b (mkI 1 64) λJ W=>
.o 26 (mko W (z:=(.int .u8 0)) (rs:=zU (List.replicate J (0:UInt8))) (by unfold zU;rw[List.map_replicate];try rfl))<|
.fH 27 (zAs p0 u (List.replicate J (0:UInt8)) U) λI=>
.iF 89 (I.1 !=0) λα=>
.k [] .z ((wi (u+1)),I.2)) λZ=>
.k [] (.s .z) U
def zMb(I:O)(u:Int)(W:Hp):TT (Int×Hp) []:=
.fR 11 (yL I W) λZ=>
.iF 29 (Z==0) λh3=>
.fR 16 (zMc I u W) λU=>
.iF 41 (!U) λh6=>
.j 46 (λJ=>[(0,oA 1 I),(1,iA u),kH J,kF 0]) (λJ=>zEn I u J)<|
.l [] (λq=>[(0,oA 1 I),(1,iA u),(5,iA q.1),kH q.2,kF 0]) (Int.toNat (wi (2+u))+1) (λq=>zE1 u I q.1 q.2) (1,W)
def zCT p0 p1 W:=(zMb p0 p1 W).q
theorem zPz p0 p1 W:∀r,zCT p0 p1 W=some r->FH 94 [oA 1 p0,iA p1] [] [] (hpA W) (hpA r.2) (iA r.1):=zM mixed [0] Tryz.func94 _
def zNH(u:UInt8):TT Bool []:=
.e ((u.toNat:Int) !=0)
def zGz p0:=(zNH p0).q
theorem zLw p0:∀r,zGz p0=some r->FP 332 [.t (.d (.lit (.int .u8 (p0.toNat:Int))))] [] (bA r):=zV mixed Tryz.func332 _
def zRF(I:Y):TT Bool []:=
.fA 4 (zCF I 332 [] zGz zLw ⟨_,Tryz.func332,rfl,rfl⟩) λu=>
.e (!u)
def zRp p0:=(zRF p0).q
theorem zJq p0:∀r,zRp p0=some r->FP 279 [yA p0] [] (bA r):=zV mixed Tryz.func279 _
def zPy(p0:O)(p1:Int)(W:Hp):TT (Int×Int×Bool) []:=
.fR 15 (zDB p0 p1 W) λI=>
.iF 59 (I.2 !=0) λh3=>
.b (cutI I.1 0 8) λx4 h5=>
.w 22 (zTv (c:=cU8) h5) (.oe (zSW (k:=1) (c:=cU8) h5))<|
.fA 23 (zBa x4) λx6=>
.b (cutI I.1 56 (I.1.length:Int)) λx8 h9=>
.w 28 (zS3 (c:=cU8) h9) (.oe (zTY (k:=1) (c:=cU8) h9))<|
.fA 29 (zBa x8) λU=>
.b (cutI I.1 8 12) λβ J=>
.w 34 (cutC (c:=cU8) J) (.oe (cutE (k:=1) (c:=cU8) J))<|
.fA 35 (zBa β) λu=>
.iF 123 (x6.2 !=0) λθ=>
.iF 135 (U.2 !=0) λη=>
.iF 147 (u.2 !=0) λν=>
.iF 162 (x6.1 !=U.1) λζ=>
.i 174 (decide (x6.1<1)) (λα=> .e (0,0,false)) λα=>
.iF 186 (decide (x6.1>2305843009213693952)) λι=>
.fR 64 (zMc p0 u.1 W) λδ=>
.iF 204 (!δ) λμ=>
.b (cutI I.1 12 56) λγ Z=>
.w 69 (cutC (c:=cU8) Z) (.oe (cutE (k:=1) (c:=cU8) Z))<|
.fA 70 (zJq γ) λε=>
.iF 218 (!ε) λκ=>
.e (x6.1,u.1,true)
def zPY p0 p1 W:=(zPy p0 p1 W).q
theorem zM2 p0 p1 W:∀r,zPY p0 p1 W=some r->FH 187 [oA 1 p0,iA p1] [] [] (hpA W) (hpA W) (.tup [iT r.1,iT r.2.1,bT' r.2.2]):=zM mixed [] Tryz.func187 _
end
set_option maxRecDepth 20000
noncomputable section
def zMM(Z:List zZ)(W:O)(U:Int)(I:Hp):TT (Int×Hp) [Int×Hp]:=
.i 35 (decide (U<(Z.length:Int))) (λh3=> .b (idx Z U) λx4 h5=>
.ix 12 zN h5<|
.pS W λi7 h6=>
.s 60 14 3 h6<|
.b (I.ge_lg i7) λx8 h9=>
.o 17 (ld (zAf h9))<|
.fR 21 (zED W x4.Home I) λJ=>
.fH 24 (zAs x8.d_ J x4.Data I) λu=>
.iF 80 (u.1 !=0) λα=>
.k [] .z ((wi (U+1)),u.2)) λh3=>
.e (0,I)
def zPb(I:O)(u:List zZ)(W:Hp):TT (Int×Hp) []:=
.ln 9 u zN<|
.l [] (λq=>[(0,oA 3 I),(8,.t (.d (.seq 2 (List.map zN u)))),(9,iA (u.length:Int)),(10,iA q.1),kH q.2]) (u.length+1) (λq=>zMM u I q.1 q.2) (0,W)
def zPL p0 p1 W:=(zPb p0 p1 W).q
theorem zG4 p0 p1 W:∀r,zPL p0 p1 W=some r->FH 188 [oA 3 p0,.t (.d (.seq 2 (List.map zN p1)))] [] [] (hpA W) (hpA r.2) (iA r.1):=zM mixed [] Tryz.func188 _
def zMK(Z:yF)(p1:Int)(W:Hp):TT Y []:=
.b (mkI 1 64) λI h2=>
.o 6 (mkl false 0 (c0:=dT cU8 (0:UInt8)) h2 (zMl (c:=cU8) (z:=(0:UInt8)) (by kernel_rfl) I))<|
.w 10 trivial (u8E Z.kind_)<|
.b (idx (List.replicate I (0:UInt8)) 0) λx3 h4=>
.c 11 (idxV (n:=I) wW h4)<|
.o 37 (lstA (n:=1) rfl (zEQ (c:=cU8) (k:=1) (q:=0) (n:=1) h4 (λ_=>rfl) rfl) (zGT (x:=dT cU8 (U8 Z.kind_)) (c:=cU8) (k:=1) (q:=0) h4 (U8 Z.kind_) (λ_=>rfl) rfl rfl) rfl (OB+0))<|
.b (vcut I 1 5) λx5 h6=>
.o 13 (lsl (off':=(0+Int.toNat 1*1)) (n':=(Int.toNat 5-Int.toNat 1)) (zBK h6))<|
.b (zCN ((List.replicate I (0:UInt8)).set (Int.toNat 0) (U8 Z.kind_)) (0+Int.toNat 1*1) (Int.toNat 5-Int.toNat 1) Z.number_) λx7 h8=>
.b (lenI x7.length ((List.replicate I (0:UInt8)).set (Int.toNat 0) (U8 Z.kind_)).length) λx9 ι=>
.o 16 (cOR [0] [] (zBn ((List.replicate I (0:UInt8)).set (Int.toNat 0) (U8 Z.kind_)) (0+Int.toNat 1*1) (Int.toNat 5-Int.toNat 1) Z.number_ W _ h8) (zA4 _ _ yK) (zA4 _ _ yK))<|
.b (vcut I 5 37) λψ κ=>
.o 18 (lsl (off':=(0+Int.toNat 5*1)) (n':=(Int.toNat 37-Int.toNat 5)) (zBK κ))<|
.b (cpyI x7 (0+Int.toNat 5*1) (Int.toNat 37-Int.toNat 5) Z.data_) λU θ=>
.b (lenI U.length x7.length) λω ν=>
.o 21 (cpy (c:=cU8) 0 (λ_=>rfl) θ)<|
.b (vcut I 56 (I:Int)) λx17 τ=>
.o 23 (lsl (off':=(0+Int.toNat 56*1)) (n':=(Int.toNat (I:Int)-Int.toNat 56)) (zBK τ))<|
.b (zCN U (0+Int.toNat 56*1) (Int.toNat (I:Int)-Int.toNat 56) p1) λu ξ=>
.b (lenI u.length U.length) λx21 η=>
.o 25 (cOR [0] [] (zBn U (0+Int.toNat 56*1) (Int.toNat (I:Int)-Int.toNat 56) p1 W _ ξ) (zA4 _ _ yK) (zA4 _ _ yK))<|
.b (vcut I 52 56) λχ π=>
.o 27 (lsl (off':=(0+Int.toNat 52*1)) (n':=(Int.toNat 56-Int.toNat 52)) (zBK π))<|
.b (vcut I 0 52) λx25 ρ=>
.o 29 (lsl (off':=(0+Int.toNat 0*1)) (n':=(Int.toNat 52-Int.toNat 0)) (zBK ρ))<|
.b (vcut I 56 (I:Int)) λx27 μ=>
.o 31 (lsl (off':=(0+Int.toNat 56*1)) (n':=(Int.toNat (I:Int)-Int.toNat 56)) (zBK μ))<|
.o 32 (bsv)<|
.b (zQG u (0+Int.toNat 0*1) (Int.toNat 52-Int.toNat 0)) λβ δ=>
.b (zQG u (0+Int.toNat 56*1) (Int.toNat (I:Int)-Int.toNat 56)) λα γ=>
.b (zN9 [β,α]) λε σ=>
.o 33 (look [(0,fl (dT cU8) u),(0,fl (dT cU8) u)] [.lst [.view 0 (0+Int.toNat 0*1) 5 1 (Int.toNat 52-Int.toNat 0),.view 0 (0+Int.toNat 56*1) 5 1 (Int.toNat (I:Int)-Int.toNat 56)]] (f:=hpA W) (zVp [β,α] _ σ) (λM hm=>(.cons (.lst (.cons (.vw (l:=fl (dT cU8) u) (rs:=List.map cU8 β) (.inl hm.1) (zOw (c:=cU8) (λ_=>rfl) _) (zR4 δ) (zOe (c:=cU8) (λ_=>rfl) δ)) (.cons (.vw (l:=fl (dT cU8) u) (rs:=List.map cU8 α) (.inl hm.2.1) (zOw (c:=cU8) (λ_=>rfl) _) (zR4 γ) (zOe (c:=cU8) (λ_=>rfl) γ)) .nil))) .nil)))<|
.b (zCN u (0+Int.toNat 52*1) (Int.toNat 56-Int.toNat 52) (wi ε)) λJ ζ=>
.b (lenI J.length u.length) λx37 φ=>
.o 35 (cOR [0] [] (zBn u (0+Int.toNat 52*1) (Int.toNat 56-Int.toNat 52) (wi ε) W _ ζ) (zA4 _ _ yK) (zA4 _ _ yK))<|
.f 1 (frzB (c:=cU8) (k:=1) 4 0 (y:=J) (λ_=>rfl) (f:=hpA W) (n0:=I) ((yR φ).trans ((yR η).trans ((yR ν).trans ((yR ι).trans (sK.trans wW))))).symm [obB 0 cU8 J,obH (hpA W)])<|
.e J
def zMP p0 p1 W:=(zMK p0 p1 W).q
theorem zEj p0 p1 W:∀r,zMP p0 p1 W=some r->FH 288 [.t (.agg [iD p0.kind_,iD p0.number_,yD p0.data_,bD p0.ok_]),iA p1] [] [] (hpA W) (hpA W) (yA r):=zM mixed [0] Tryz.func288 _
def zSu(p0:O)(p1:Int)(W:Hp):TT yF []:=
.pS p0 λi2 h1=>
.s 40 9 3 h1<|
.b (W.ge_lg i2) λx3 h4=>
.o 12 (ld (zAf h4))<|
.iF 41 (decide (p1>=x3.size_)) λh5=>
.s 68 16 3 h1<|
.o 19 (ld (zAf h4))<|
.fR 22 (zDB x3.d_ (wi (2+p1)) W) λZ=>
.iF 80 (Z.2 !=0) λh8=>
.b (idx Z.1 0) λx9 β=>
.ix 29 cU8 β<|
.w 31 trivial (zUW x9)<|
.b (cutI Z.1 5 37) λu U=>
.w 33 (cutC (c:=cU8) U) (.oe (cutE (k:=1) (c:=cU8) U))<|
.b (cutI Z.1 1 5) λδ J=>
.w 37 (cutC (c:=cU8) J) (.oe (cutE (k:=1) (c:=cU8) J))<|
.fA 38 (zBa δ) λI=>
.s 180 44 3 h1<|
.o 47 (ld (zAf h4))<|
.fR 50 (zEj (yF.mk (x9.toNat:Int) I.1 u false) (wi (x3.base_+p1)) W) λγ=>
.fA 51 (zBM Z.1 γ) λα=>
.e (yF.mk (x9.toNat:Int) I.1 u α)
def zSb p0 p1 W:=(zSu p0 p1 W).q
theorem zJe p0 p1 W:∀r,zSb p0 p1 W=some r->FH 333 [oA 3 p0,iA p1] [] [] (hpA W) (hpA W) (.t (.agg [iD r.kind_,iD r.number_,yD r.data_,bD r.ok_])):=zM mixed [] Tryz.func333 _
def zIT(u:Int):TT Y []:=
.iF 20 (decide (u<0)) λU=>
.i 50 (decide ((wi (u-(wi (0-0))))>0)) (λI=> .o 20 slN<|
.b (growI 1 (wi (u-(wi (0-0))))) λZ J=>
.o 22 (apfr J)<|
.o 25 (slfr)<|
.y 0 true<|
.y 26 true<|
.y 4 true<|
.e []) λI=> .no
def zH2 p1:=(zIT p1).q
theorem zHT p1:∀r,zH2 p1=some r->FP 363 [.t (nT),iA p1] [] (.t (.own 5 1 (zU r))):=zV mixed Tryz.func363 _
def zGV(U:List Y)(J:Y)(I:Int):TT Y [Y×Int]:=
.i 86 (decide (I<(U.length:Int))) (λZ=> .b (idx U I) λx7 W=>
.ix 29 (cSl 1 cU8) W<|
.y 31 true<|
.b (appI 1 J x7) λx9 u=>
.w 33 (appC (c:=cU8) u) (.oe (appE (E:=5) (k:=1) (c:=cU8) u))<|
.y 6 true<|
.k [] .z (x9,(wi (I+1)))) λZ=>
.y 35 true<|
.y 2 true<|
.e J
def zGv(u:List Y)(I:Int):TT Y []:=
.fA 24 (zHT I) λJ=>
.y 6 true<|
.ln 26 u (cSl 1 cU8)<|
.l [] (λq=>[(6,.t (.own 5 1 (zU q.1))),(25,.t (.d (.seq 1 (List.map (cSl 1 cU8) u)))),(26,iA (u.length:Int)),(27,iA q.2)]) (u.length+1) (λq=>zGV u q.1 q.2) (J,0)
def zGN(W:List Y)(I J:Int):TT Y [Int×Int,Int]:=
.i 38 (decide (J<(W.length:Int))) (λU=> .b (idx W J) λu Z=>
.ix 13 (cSl 1 cU8) Z<|
.ln 17 u cU8<|
.iF 62 (decide ((wi (I+(u.length:Int)))<0)) λα=>
.k [] .z ((wi (I+(u.length:Int))),(wi (J+1)))) λU=>
.k [] (.s .z) I
def zJV(u:List Y):TT Y []:=
.j 38 (λI=>[(0,.t (.d (.seq 1 (List.map (cSl 1 cU8) u)))),(3,iA I)]) (λI=>zGv u I)<|
.ln 10 u (cSl 1 cU8)<|
.l [] (λq=>[(0,.t (.d (.seq 1 (List.map (cSl 1 cU8) u)))),(3,iA q.1),(9,.t (.d (.seq 1 (List.map (cSl 1 cU8) u)))),(10,iA (u.length:Int)),(11,iA q.2)]) (u.length+1) (λq=>zGN u q.1 q.2) (0,0)
def zJL p0:=(zJV p0).q
theorem zIu p0:∀r,zJL p0=some r->FP 334 [.t (.d (.seq 1 (List.map (cSl 1 cU8) p0)))] [] (.t (.own 5 1 (zU r))):=zV mixed Tryz.func334 _
def zNJ(z1:List zZ)(U p1:Int)(J:yF)(p0:O)(W:Hp)(y6:Bool):TT ((List zZ)×Int) [(List zZ)×Int]:=
.i 62 y6 (λh7=> .y 41 true<|
.y 4 true<|
.e (z1,(wi ((wi (U+1))-p1)))) λh7=>
.iF 153 (J.kind_ !=1) λh8=>
.fR 54 (zAm p0 W) λx9=>
.iF 140 (decide (J.number_>=x9)) λδ=>
.fR 60 (zJe p0 (wi (U+1)) W) λu=>
.iF 195 (!u.ok_) λβ=>
.iF 210 (u.kind_ !=2) λγ=>
.iF 227 (u.number_ !=J.number_) λε=>
.y 76 true<|
.fA 84 (zIu [J.data_,u.data_]) λα=>
.b (appI 32 z1 [(zZ.mk J.number_ α)]) λZ I=>
.w 87 (appC (c:=zN) I) (.oe (appE (E:=307) (k:=2) (c:=zN) I))<|
.y 6 true<|
.k [] .z (Z,(wi (U+2)))
def zNN(p0:O)(W:Hp)(p1:Int)(I:List zZ)(z2:Int):TT ((List zZ)×Int) [(List zZ)×Int]:=
.fR 15 (zJe p0 z2 W) λu=>
.i 50 (!u.ok_) (λh5=> .e ([],0)) λh5=>
.j 83 (λU=>[(0,oA 3 p0),(1,iA p1),(6,.t (.own 307 2 (List.map zN I))),(7,iA z2),(8,.box [iT u.kind_,iT u.number_,yT u.data_,bT' u.ok_]),(20,bA U),kH W]) (λU=>zNJ I z2 p1 u p0 W U)<|
.i 75 (u.kind_==3) (λJ=> .ln 26 I zN<|
.i 90 (decide ((I.length:Int)>0)) (λZ=> .ln 33 I zN<|
.i 111 (u.number_==(I.length:Int)) (λβ=> .fA 39 (zJq u.data_) λα=>
.k [] .z α) λβ=> .no) λZ=> .no) λJ=>
.k [] .z false
def zRn(I:O)(u:Int)(W:Hp):TT ((List zZ)×Int) []:=
.l [6] (λq=>[(0,oA 3 I),(1,iA u),(6,.t (.own 307 2 (List.map zN q.1))),(7,iA q.2),kH W]) (16400) (λq=>zNN I W u q.1 q.2) ([],u)
def zRI p0 p1 W:=(zRn p0 p1 W).q
theorem zNw p0 p1 W:∀r,zRI p0 p1 W=some r->FH 281 [oA 3 p0,iA p1] [] [] (hpA W) (hpA W) (.tup [.d (.seq 2 (List.map zN r.1)),iT r.2]):=zM mixed [] Tryz.func281 _
def zML(Z:O)(W:Hp)(J:List zZ)(I:Int):TT (List zZ) [(List zZ)×Int]:=
.fR 10 (zNw Z I W) λu=>
.i 44 (u.2==0) (λh5=> .y 15 true<|
.y 2 true<|
.e J) λh5=>
.y 16 true<|
.b (appI 32 J u.1) λx6 U=>
.w 18 (appC (c:=zN) U) (.oe (appE (E:=307) (k:=2) (c:=zN) U))<|
.y 3 true<|
.k [] .z (x6,(wi (I+u.2)))
def zPO(u:O)(W:Hp):TT (List zZ) []:=
.l [3] (λq=>[(0,oA 3 u),(3,.t (.own 307 2 (List.map zN q.1))),(4,iA q.2),kH W]) (16400) (λq=>zML u W q.1 q.2) ([],0)
def zP6 p0 W:=(zPO p0 W).q
theorem zMu p0 W:∀r,zP6 p0 W=some r->FH 189 [oA 3 p0] [] [] (hpA W) (hpA W) (.t (.own 307 2 (List.map zN r))):=zM mixed [] Tryz.func189 _
def zO4(p0:O)(W:Hp):TT (Int×Hp) []:=
.pS p0 λZ J=>
.s 28 6 3 J<|
.b (W.ge_lg Z) λx3 h4=>
.o 9 (ld (zAf h4))<|
.s 48 11 3 J<|
.o 14 (ld (zAf h4))<|
.s 68 16 3 J<|
.o 19 (ld (zAf h4))<|
.s 84 20 3 J<|
.o 23 (ld (zAf h4))<|
.s 104 25 3 J<|
.o 28 (ld (zAf h4))<|
.fR 29 (zFx (wi (x3.base_+x3.size_)) x3.size_ W) λx5=>
.fH 30 (zAs x3.d_ (wi (1-x3.slot_)) x5 W) λx7=>
.iF 98 (x7.1 !=0) λh9=>
.s 140 34 3 J<|
.b (x7.2.ge_lg Z) λκ ι=>
.o 37 (ld (zAf ι))<|
.fH 38 (zAw κ.d_ x7.2) λγ=>
.iF 122 (γ.1 !=0) λμ=>
.s 180 42 3 J<|
.b (γ.2.ge_lg Z) λu β=>
let δ:qX:=(qX.mk u.d_ u.size_ u.base_ (wi (1-x3.slot_)) u.used_ u.life_ u.commits_);let ζ:=(γ.2.st_lg Z δ);.o 63 (stw (zAf β) (zSt (x':=δ) β))<|
have α:ζ.ge_lg Z=some δ:=(zE3 β);.s 188 43 3 J<|
let I:qX:=(qX.mk u.d_ u.size_ u.base_ (wi (1-x3.slot_)) 0 u.life_ u.commits_);let ε:=(ζ.st_lg Z I);.o 60 (stw (zAf α) (zSt (x':=I) α))<|
have U:ε.ge_lg Z=some I:=(zE3 α);.s 200 49 3 J<|
.o 52 (ld (zAf U))<|
.s 216 53 3 J<|
.o 56 (ld (zAf U))<|
let η:qX:=(qX.mk u.d_ u.size_ (wi (I.base_+I.size_)) (wi (1-x3.slot_)) 0 u.life_ u.commits_);let θ:=(ε.st_lg Z η);.o 60 (stw (zAf U) (zSt (x':=η) U))<|
.e (0,θ)
def zN2 p0 W:=(zO4 p0 W).q
theorem zL2 p0 W:∀r,zN2 p0 W=some r->FH 282 [oA 3 p0] [] [] (hpA W) (hpA r.2) (iA r.1):=zM mixed [] Tryz.func282 _
def zJR(I:O)(W:Hp):TT (Int×Hp) []:=
.fR 6 (zAj I W) λx1=>
.iF 26 (x1 !=0) λh3=>
.pS I λi5 J=>
.s 44 10 3 J<|
.b (W.ge_lg i5) λZ U=>
.o 13 (ld (zAf U))<|
.s 60 14 3 J<|
.o 17 (ld (zAf U))<|
.iF 59 (decide (Z.base_>(wi (2305843009213693952-Z.size_)))) λh8=>
.s 84 20 3 J<|
.o 23 (ld (zAf U))<|
.fH 24 (zAw Z.d_ W) λx9=>
.iF 80 (x9.1 !=0) λα=>
.fH 29 (zL2 I x9.2) λu=>
.e (u.1,u.2)
def zJY p0 W:=(zJR p0 W).q
theorem zHP p0 W:∀r,zJY p0 W=some r->FH 190 [oA 3 p0] [] [] (hpA W) (hpA r.2) (iA r.1):=zM mixed [] Tryz.func190 _
def zRm(W J:Hp):TT (O×Int×Hp) []:=
.b (J.ge_lg W.ln_lg) λI u=>
.o 58 (ld (zAf u))<|
.iF 179 (I.base_==0) λγ=>
.o 63 (ld (zAf u))<|
.o 67 (ld (zAf u))<|
.iF 209 (decide (I.base_>(wi (2305843009213693952-I.size_)))) λε=>
.fR 72 (zMu (some W.ln_lg) J) λα=>
.fH 73 (zG4 (some W.ln_lg) α J) λU=>
.iF 227 (U.1 !=0) λβ=>
.fH 78 (zHP (some W.ln_lg) U.2) λZ=>
.iF 242 (Z.1 !=0) λδ=>
.e ((some W.ln_lg),0,Z.2)
def zRA(U W:Hp)(u:(Int×Int×Bool))(J:Int)(η:Bool):TT (O×Int×Hp) [Int×Hp,Hp]:=
.i 125 η (λθ=> .b (U.ge_lg W.ln_lg) λx32 β=>
let α:qX:=(qX.mk x32.d_ x32.size_ u.1 x32.slot_ x32.used_ x32.life_ x32.commits_);let γ:=(U.st_lg W.ln_lg α);.o 89 (stw (zAf β) (zSt (x':=α) β))<|
have I:γ.ge_lg W.ln_lg=some α:=(zE3 β);let Z:qX:=(qX.mk x32.d_ u.2.1 u.1 x32.slot_ x32.used_ x32.life_ x32.commits_);let δ:=(γ.st_lg W.ln_lg Z);.o 86 (stw (zAf I) (zSt (x':=Z) I))<|
have ε:δ.ge_lg W.ln_lg=some Z:=(zE3 I);let ζ:qX:=(qX.mk x32.d_ u.2.1 u.1 J x32.used_ x32.life_ x32.commits_);let ι:=(δ.st_lg W.ln_lg ζ);.o 83 (stw (zAf ε) (zSt (x':=ζ) ε))<|
.k [] .z ((wi (J+1)),ι)) λθ=>
.k [] .z ((wi (J+1)),U)
def zRY(p0:O)(W:Hp)(u:Int)(I:Hp):TT (O×Int×Hp) [Int×Hp,Hp]:=
.i 74 (decide (u<2)) (λα=> .fR 29 (zM2 p0 u I) λJ=>
.j 167 (λU=>[(0,oA 1 p0),(4,oA 3 (some W.ln_lg)),(5,iA u),(6,iA J.1),(7,iA J.2.1),(23,iA u),(41,bA U),kH I]) (λU=>zRA I W J u U)<|
.i 105 J.2.2 (λγ=> .b (I.ge_lg W.ln_lg) λZ β=>
.o 39 (ld (zAf β))<|
.k [] .z (decide (J.1>Z.base_))) λγ=>
.k [] .z false) λα=>
.k [] (.s .z) I
def zWJ(I:O)(W:Hp):TT (O×Int×Hp) []:=
.fR 13 (yL I W) λx1=>
.iF 35 (x1==0) λh3=>
.fR 17 (zGK I W) λU=>
.iF 47 U λh6=>
.fR 20 (zE5 I W) λx7=>
let J:qX:=(qX.mk I 0 0 0 0 x7 0);let Z:=(W.nw_lg J);.o 22 (nwW (fr_lg W) (nw_lg W J))<|
.j 54 (λu=>[(4,oA 3 (some W.ln_lg)),kH u]) (λu=>zRm W u)<|
.l [] (λq=>[(0,oA 1 I),(4,oA 3 (some W.ln_lg)),(23,iA q.1),kH q.2]) (Int.toNat 2+1) (λq=>zRY I W q.1 q.2) (0,Z)
def zF9 p0 W:=(zWJ p0 W).q
theorem zMq p0 W:∀r,zF9 p0 W=some r->FH 95 [oA 1 p0] [] [] (hpA W) (hpA r.2.2) (.tup [.opt 3 r.1,iT r.2.1]):=zM mixed [] Tryz.func95 _
def zOB(p0:O)(U:Int)(p2:Y)(W:Hp):TT (Int×Hp) []:=
.fR 9 (zCX p0 W) λx1=>
.iF 35 (x1 !=0) λh3=>
.iF 51 (decide (U<0)) λh4=>
.pS p0 λi6 h5=>
.s 76 18 5 h5<|
.b (W.ge_tx i6) λx7 h8=>
.o 21 (ld (zJ7 h8))<|
.fR 22 (zAm x7.l_ W) λx9=>
.iF 41 (decide (U>=x9)) λγ=>
.ln 27 p2 cU8<|
.iF 77 ((p2.length:Int) !=64) λβ=>
.s 120 29 5 h5<|
.o 32 (ld (zJ7 h8))<|
.fA 35 (zCm p2) λI=>
.b (W.ge_mp x7.now_) λα J=>
let u:(List (Int×Y)):=(mset α U I);let Z:=(W.st_mp x7.now_ u);.o 36 (mupH (kv:=(λz:Int=>Value.int .i64 z)) (vT:=(λv=>T.d ((λl:List UInt8=>D.seq 1 (zU l)) v))) (gl_mp J) U I (zTM (kt:=3) (by kernel_rfl)) (su_mp (x':=u) J))<|
.e (0,Z)
def zIk p0 p1 p2 W:=(zOB p0 p1 p2 W).q
theorem zAi p0 p1 p2 W:∀r,zIk p0 p1 p2 W=some r->FH 98 [oA 5 p0,iA p1,yA p2] [] [] (hpA W) (hpA r.2) (iA r.1):=zM mixed [] Tryz.func98 _
def zEw(u:Int):TT Int []:=
.iF 14 (u==0) λU=>
.b (idx zNh (Int.fdiv (IntKind.u64.wrap ((IntKind.u64.wrap ((((BitVec.ofInt IntKind.u64.bits u)&&&(BitVec.ofInt IntKind.u64.bits (IntKind.u64.wrap (0-u)))).toNat:Nat):Int))*285870213051353865)) (2^58))) λI J=>
.o 11 (gix (g:=0) (k:= .u8) (by kernel_rfl) J)<|
.e (wi I)
def zEr p0:=(zEw p0).q
theorem zEN p0:∀r,zEr p0=some r->FP 194 [.t (.d (.lit (.int .u64 p0)))] [] (iA r):=zV mixed Tryz.func194 _
def zMO(p0:O)(I:Int)(W:Hp):TT Bool []:=
.pS p0 λi2 h1=>
.s 24 5 8 h1<|
.i 36 (decide (I>=0)) (λh3=> .s 56 13 8 h1<|
.b (W.ge_sp i2) λx4 h5=>
.o 16 (ld (zJ1 h5))<|
.i 60 (decide (I<x4.n_)) (λh6=> .s 84 20 8 h1<|
.o 23 (ld (zJ1 h5))<|
.b (W.ge_w64 x4.l_.1) λx7 h8=>
.b (lenI x7.length x4.l_.2) λx9 U=>
.b (idx x7 (wi (Int.tdiv I 64))) λJ u=>
.c 26 (idxV (yR U) u)<|
.o 27 (ldA (zPD h8) (zRa u rfl (λ_=>rfl)))<|
.b (shrI .u64 J (IntKind.u64.wrap (Int.tmod I 64))) λα Z=>
.o 31 (bv (shrIE (yk:= .u64) Z))<|
.e ((IntKind.u64.wrap ((((BitVec.ofInt IntKind.u64.bits α)&&&(BitVec.ofInt IntKind.u64.bits 1)).toNat:Nat):Int))==0)) λh6=> .no) λh3=> .no
def zLo p0 p1 W:=(zMO p0 p1 W).q
theorem zE0 p0 p1 W:∀r,zLo p0 p1 W=some r->FH 207 [oA 8 p0,iA p1] [] [] (hpA W) (hpA W) (bA r):=zM mixed [] Tryz.func207 _
def zLS(p0:O)(p1:Int)(W:Hp):TT Hp []:=
.pS p0 λi2 h1=>
.s 20 4 8 h1<|
.b (W.ge_sp i2) λu h4=>
.o 7 (ld (zJ1 h4))<|
.b (W.ge_w64 u.l_.1) λx5 h6=>
.b (lenI x5.length u.l_.2) λx7 h8=>
.b (idx x5 (wi (Int.tdiv p1 64))) λx9 β=>
.c 10 (idxV (yR h8) β)<|
.o 11 (ldA (zPD h6) (zRa β rfl (λ_=>rfl)))<|
.b (shlI .u64 1 (IntKind.u64.wrap (Int.tmod p1 64))) λI ε=>
.o 15 (bv (shlIE (yk:= .u64) ε))<|
.b (lenI x5.length u.l_.2) λι δ=>
.b (idx x5 (wi (Int.tdiv p1 64))) λθ J=>
.c 17 (idxV (yR δ) J)<|
let α:(List Int):=(x5.set (Int.toNat (wi (Int.tdiv p1 64))) (IntKind.u64.wrap ((((BitVec.ofInt IntKind.u64.bits x9)^^^(BitVec.ofInt IntKind.u64.bits I)).toNat:Nat):Int)));let U:=(W.st_w64 u.l_.1 α);.o 35 (stA (n:=1) (zPD h6) (zEQ (c:=(cInt .u64)) (k:=1) (q:=0) J (λ_=>(by kernel_rfl)) rfl) (zGT (x:=dT (cInt .u64) (IntKind.u64.wrap ((((BitVec.ofInt IntKind.u64.bits x9)^^^(BitVec.ofInt IntKind.u64.bits I)).toNat:Nat):Int))) (c:=(cInt .u64)) (k:=1) (q:=0) J (IntKind.u64.wrap ((((BitVec.ofInt IntKind.u64.bits x9)^^^(BitVec.ofInt IntKind.u64.bits I)).toNat:Nat):Int)) (λ_=>(by kernel_rfl)) (by kernel_rfl) (by kernel_rfl)) (su_w64 (x':=α) h6))<|
have Z:U.ge_sp i2=some u:=h4;.fR 20 (zE0 p0 p1 U) λζ=>
.iF 62 ζ λκ=>
.s 116 28 8 h1<|
.o 31 (ld (zJ1 Z))<|
let γ:qS:=(qS.mk u.n_ (wi (u.free_-1)) u.l_ u.is_);let η:=(U.st_sp i2 γ);.o 35 (stw (zJ1 Z) (su_sp (x':=γ) Z))<|
.e η
def zLI p0 p1 W:=(zLS p0 p1 W).q
theorem zJO p0 p1 W:∀r,zLI p0 p1 W=some r->FH 195 [oA 8 p0,iA p1] [] [] (hpA W) (hpA r) (.tup []):=zM mixed [] Tryz.func195 _
def zIK(I:List Int)(u:Hp):TT ((List Int)×Int×Hp) []:=
.y 58 true<|
.y 4 true<|
.e (I,0,u)
def zIM(p1:Int)(p0:O)(i5:Nat)(h4:p0=some i5)(J:List Int)(I:Int)(u:Hp):TT ((List Int)×Int×Hp) [(List Int)×Int×Hp,(List Int)×Hp]:=
.ln 31 J cI64<|
.i 101 (decide ((J.length:Int)<p1)) (λδ=> .s 140 34 8 h4<|
.b (u.ge_sp i5) λZ ζ=>
.o 37 (ld (zJ1 ζ))<|
.b (u.ge_w64 Z.l_.1) λβ ι=>
.b (lenI β.length Z.l_.2) λμ θ=>
.b (idx β I) λα U=>
.c 39 (idxV (yR θ) U)<|
.o 40 (ldA (zPD ι) (zRa U rfl (λ_=>rfl)))<|
.i 131 ((IntKind.u64.wrap ((((BitVec.ofInt IntKind.u64.bits 18446744073709551615)^^^(BitVec.ofInt IntKind.u64.bits α)).toNat:Nat):Int)) !=0) (λκ=> .fA 47 (zEN (IntKind.u64.wrap ((((BitVec.ofInt IntKind.u64.bits 18446744073709551615)^^^(BitVec.ofInt IntKind.u64.bits α)).toNat:Nat):Int))) λγ=>
.fH 51 (zJO p0 (wi ((wi (64*I))+γ)) u) λε=>
.y 52 true<|
.b (appI 8 J [(wi ((wi (64*I))+γ))]) λη W=>
.w 55 (appC (c:=cI64) W) (.oe (appE (E:=3) (k:=1) (c:=cI64) W))<|
.y 6 true<|
.k [] .z (η,I,ε)) λκ=> .no) λδ=>
.k [] (.s .z) (J,u)
def zH0(W:Hp)(u:Int)(I:O)(y1:Bool):TT ((List Int)×Int×Hp) []:=
.i 32 y1 (λZ=> .e ([],1,W)) λZ=>
.iF 62 (decide (u<0)) λh3=>
.pS I λJ U=>
.s 104 25 8 U<|
.b (W.ge_sp J) λx6 h7=>
.o 28 (ld (zJ1 h7))<|
.iF 71 (decide (u>x6.free_)) λh8=>
.j 66 (λq=>[(6,.t (.own 3 1 (List.map cI64 q.1))),kH q.2]) (λq=>zIK q.1 q.2)<|
.l [6] (λq=>[(0,oA 8 I),(1,iA u),(6,.t (.own 3 1 (List.map cI64 q.1))),(7,iA q.2.1),kH q.2.2]) (Int.toNat u+300) (λq=>zIM u I J U q.1 q.2.1 q.2.2) ([],0,W)
def zLc(J:O)(p1:Int)(W:Hp):TT ((List Int)×Int×Hp) []:=
.j 43 (λU=>[(0,oA 8 J),(1,iA p1),(10,bA U),kH W]) (λU=>zH0 W p1 J U)<|
.pS J λI u=>
.s 48 11 8 u<|
.s 60 14 8 u<|
.b (W.ge_sp I) λx32 Z=>
.o 17 (ld (zJ1 Z))<|
.k [] .z (!x32.is_)
def zFF p0 p1 W:=(zLc p0 p1 W).q
theorem zCf p0 p1 W:∀r,zFF p0 p1 W=some r->FH 100 [oA 8 p0,iA p1] [] [] (hpA W) (hpA r.2.2) (.tup [.d (.seq 1 (List.map cI64 r.1)),iT r.2.1]):=zM mixed [] Tryz.func100 _
def zF0(Z:qB)(u:O)(I:zT)(W:Hp):TT Hp []:=
.fA 8 (zEF I) λJ=>
.fH 9 (zAi u 0 J W) λU=>
.e U.2
def zC2 p0 p1 p2 W:=(zF0 p0 p1 p2 W).q
theorem zCb p0 p1 p2 W:∀r,zC2 p0 p1 p2 W=some r->FH 101 [.t (.agg [iD p0.size_,iD p0.homes_,iD p0.maps_]),oA 5 p1,.t (.agg [iD p2.count_,iD p2.quota_,iD p2.bytes_,iD p2.keys_])] [] [] (hpA W) (hpA r) (.tup []):=zM mixed [] Tryz.func101 _
def zHN(x5:Nat)(p0:O)(i2:Nat)(h1:p0=some i2)(W:Hp)(x3:qS)(h4:W.ge_sp i2=some x3)(U:Int)(I:Y):TT Y [Int×Y]:=
.i 53 (decide (U<((x5:Nat):Int))) (λh9=> .s 88 21 8 h1<|
.o 24 (ld (zJ1 h4))<|
.b (W.ge_w64 x3.l_.1) λα δ=>
.b (lenI α.length x3.l_.2) λθ β=>
.b (idx α (wi (Int.tdiv U 8))) λζ Z=>
.c 27 (idxV (yR β) Z)<|
.o 28 (ldA (zPD δ) (zRa Z rfl (λ_=>rfl)))<|
.b (shrI .u64 ζ (IntKind.u64.wrap (wi (8*(Int.tmod U 8))))) λu γ=>
.o 33 (bv (shrIE (yk:= .u64) γ))<|
.w 34 trivial (u8E u)<|
.b (idx I U) λι J=>
.c 35 (idxV rfl J)<|
.o 38 (lstA (n:=1) rfl (zEQ (c:=cU8) (k:=1) (q:=0) (n:=1) J (λ_=>rfl) rfl) (zGT (x:=dT cU8 (U8 u)) (c:=cU8) (k:=1) (q:=0) J (U8 u) (λ_=>rfl) rfl rfl) rfl (OB+0))<|
.t 9 3 (vwE (n:=I.length) (n':=(I.set (Int.toNat U) (U8 u)).length) 0 0 (OFB+5) 1 (sK.trans rfl).symm)<|
.k [] .z ((wi (U+1)),(I.set (Int.toNat U) (U8 u)))) λh9=>
.b (neI I) λη ε=>
.f 1 (ownX (c:=cU8) (k:=1) 2 0 5 (y:=I) (λ_=>rfl) (neI_E ε) (f:=hpA W) (n0:=I.length) (by first|rfl|(simp;done)|omega) [obB 0 cU8 I,obH (hpA W)])<|
.e I
def zJv(I:O)(W:Hp):TT Y []:=
.pS I λZ J=>
.s 24 5 8 J<|
.s 32 7 8 J<|
.b (W.ge_sp Z) λx3 U=>
.o 10 (ld (zJ1 U))<|
.b (mkI 1 (wi (Int.tdiv (wi (x3.n_+7)) 8))) λu h6=>
.o 13 (mkl true 0 (c0:=dT cU8 (0:UInt8)) h6 (zMl (c:=cU8) (z:=(0:UInt8)) (by kernel_rfl) u))<|
.t 22 3 (vwE (n:=u) (n':=(List.replicate u (0:UInt8)).length) 0 0 (OFB+5) 1 wW.symm)<|
.l [] (λq=>[(0,oA 8 I),(3,.t (.view 0 0 (OFB+5) 1 q.2.length)),(15,iA ((u:Nat):Int)),(16,iA q.1),((OB+0),.box (fl (dT cU8) q.2)),kH W]) (Int.toNat ((u:Nat):Int)+1) (λq=>zHN u I Z J W x3 U q.1 q.2) (0,(List.replicate u (0:UInt8)))
def zJu p0 W:=(zJv p0 W).q
theorem zIC p0 W:∀r,zJu p0 W=some r->FH 197 [oA 8 p0] [] [] (hpA W) (hpA W) (.t (.own 5 1 (zU r))):=zM mixed [0] Tryz.func197 _
def zEO(p0:qB)(x1:Y)(x3:Nat)(p1:O)(u:Int)(W:Hp):TT Hp [Int×Hp]:=
.i 53 (decide (u<p0.maps_)) (λh7=> .b (cutI (x1++List.replicate x3 0) (wi (64*u)) (wi (64*(wi (u+1))))) λx8 h9=>
.w 25 (cutC (c:=cU8) h9) (.oe (cutE (k:=1) (c:=cU8) h9))<|
.fR 30 (zBk p1 (wi (1+u)) W) λI=>
.i 108 (I.2==0) (λU=> .fA 38 (zBM I.1 x8) λα=>
.i 122 (!α) (λZ=> .fH 45 (zAi p1 (wi (1+u)) x8 W) λJ=>
.k [] .z ((wi (u+1)),J.2)) λZ=> .no) λU=> .no) λh7=>
.e W
def zCp(u:qB)(J p2:O)(W:Hp):TT Hp []:=
.fR 12 (zIC p2 W) λI=>
.b (apzI 1 I.length 64) λU Z=>
.o 13 (apz (e0:=5) 12 (apzC (c:=cU8) Z) (apzE (c:=cU8) (a:=0) (z:= .int .u8 0) rfl))<|
.y 6 true<|
.l [] (λq=>[(1,oA 5 J),(6,.t (.own 5 1 (zU (I++List.replicate U 0)))),(15,iA u.maps_),(16,iA q.1),kH q.2]) (Int.toNat u.maps_+1) (λq=>zEO u I U J q.1 q.2) (0,W)
def zCn(J:qB)(u I:O)(W:Hp):Option Hp:=(zCp J u I W).run Env.nil
theorem zCH(u:qB)(I J:O)(W:Hp):∀r,zCn u I J W=some r->FH 102 [.t (.agg [iD u.size_,iD u.homes_,iD u.maps_]),oA 5 I,oA 8 J] [] [] (hpA W) (hpA r) (.tup []):=zM mixed [] Tryz.func102 (zCp u I J W) (by kernel_rfl)
def zPF(U:O)(W:Hp):TT Int []:=
.pS U λZ u=>
.s 16 3 3 u<|
.s 24 5 3 u<|
.b (W.ge_lg Z) λJ I=>
.o 8 (ld (zAf I))<|
.s 40 9 3 u<|
.o 12 (ld (zAf I))<|
.e (wi (J.size_-J.used_))
def zPH p0 W:=(zPF p0 W).q
theorem zNM p0 W:∀r,zPH p0 W=some r->FH 286 [oA 3 p0] [] [] (hpA W) (hpA W) (iA r):=zM mixed [] Tryz.func286 _
def zNT(u:List zZ)(J:List yF):TT (List yF) []:=
.y 28 true<|
.ln 30 u zN<|
.g 32 (.t (.own 396 4 (List.map zAM [(yF.mk 3 (u.length:Int) [] false)])))<|
.b (appI 48 J [(yF.mk 3 (u.length:Int) [] false)]) λU I=>
.w 33 (appC (c:=zAM) I) (.oe (appE (E:=396) (k:=4) (c:=zAM) I))<|
.y 2 true<|
.e U
def zM8(p0:List zZ)(z4:List yF)(z5:Int):TT (List yF) [(List yF)×Int,(List yF)]:=
.i 29 (decide (z5<(p0.length:Int))) (λh6=> .b (idx p0 z5) λU h8=>
.ix 10 zN h8<|
.y 12 true<|
.b (cutI U.Data 0 32) λx9 u=>
.w 17 (zTv (c:=cU8) u) (.oe (zSW (k:=1) (c:=cU8) u))<|
.b (cutI U.Data 32 (U.Data.length:Int)) λZ I=>
.w 23 (zS3 (c:=cU8) I) (.oe (zTY (k:=1) (c:=cU8) I))<|
.b (appI 48 z4 [(yF.mk 1 U.Home x9 false),(yF.mk 2 U.Home Z false)]) λW J=>
.w 26 (appC (c:=zAM) J) (.oe (appE (E:=396) (k:=4) (c:=zAM) J))<|
.y 3 true<|
.k [] .z (W,(wi (z5+1)))) λh6=>
.k [] (.s .z) z4
def zQ9(u:List zZ):TT (List yF) []:=
.j 30 (λI=>[(0,.t (.d (.seq 2 (List.map zN u)))),(3,.t (.own 396 4 (List.map zAM I)))]) (λI=>zNT u I)<|
.ln 7 u zN<|
.l [3] (λq=>[(0,.t (.d (.seq 2 (List.map zN u)))),(3,.t (.own 396 4 (List.map zAM q.1))),(6,.t (.d (.seq 2 (List.map zN u)))),(7,iA (u.length:Int)),(8,iA q.2)]) (u.length+1) (λq=>zM8 u q.1 q.2) ([],0)
def zRd p0:=(zQ9 p0).q
theorem zP9 p0:∀r,zRd p0=some r->FP 287 [.t (.d (.seq 2 (List.map zN p0)))] [] (.t (.own 396 4 (List.map zAM r))):=zV mixed Tryz.func287 _
def zKV(p0:O)(p1:List zZ)(y5:Hp):TT (Int×Hp) []:=
.pS p0 λi7 h6=>
.s 408 101 3 h6<|
.b (y5.ge_lg i7) λx8 h9=>
.o 104 (ld (zAf h9))<|
.fH 105 (zAw x8.d_ y5) λU=>
.iF 323 (U.1 !=0) λδ=>
.s 440 109 3 h6<|
.b (U.2.ge_lg i7) λu I=>
.o 112 (ld (zAf I))<|
let J:qX:=(qX.mk u.d_ u.size_ u.base_ u.slot_ (wi (u.used_+(wi ((wi (2*(p1.length:Int)))+1)))) u.life_ u.commits_);let β:=(U.2.st_lg i7 J);.o 127 (stw (zAf I) (zSt (x':=J) I))<|
have Z:β.ge_lg i7=some J:=(zE3 I);.s 472 117 3 h6<|
.o 120 (ld (zAf Z))<|
let W:qX:=(qX.mk u.d_ u.size_ u.base_ u.slot_ (wi (u.used_+(wi ((wi (2*(p1.length:Int)))+1)))) u.life_ (wi (J.commits_+1)));let γ:=(β.st_lg i7 W);.o 127 (stw (zAf Z) (zSt (x':=W) Z))<|
.fH 126 (zG4 p0 p1 γ) λα=>
.e (α.1,α.2)
def zKM(W:List yF)(p0:O)(u:Int)(I:Hp):TT (Int×Hp) [Int×Hp,Hp]:=
.i 218 (decide (u<(W.length:Int))) (λγ=> .b (idx W u) λε β=>
.ix 74 zAM β<|
.pS p0 λα J=>
.s 308 76 3 J<|
.b (I.ge_lg α) λx32 U=>
.o 79 (ld (zAf U))<|
.s 332 82 3 J<|
.o 85 (ld (zAf U))<|
.s 360 89 3 J<|
.o 92 (ld (zAf U))<|
.fR 95 (zEj ε (wi (x32.base_+(wi (x32.used_+u)))) I) λδ=>
.fH 96 (zAs x32.d_ (wi (2+(wi (x32.used_+u)))) δ I) λZ=>
.iF 296 (Z.1 !=0) λζ=>
.k [] .z ((wi (u+1)),Z.2)) λγ=>
.k [] (.s .z) I
def zKQ(J:O)(I:List zZ)(Z:Hp):TT (Int×Hp) []:=
.j 110 (λU=>[(0,oA 3 J),(1,.t (.d (.seq 2 (List.map zN I)))),(8,iA (wi ((wi (2*(I.length:Int)))+1))),kH U]) (λU=>zKV J I U)<|
.fA 69 (zP9 I) λu=>
.ln 70 u zAM<|
.l [] (λq=>[(0,oA 3 J),(1,.t (.d (.seq 2 (List.map zN I)))),(8,iA (wi ((wi (2*(I.length:Int)))+1))),(69,.t (.own 396 4 (List.map zAM u))),(70,iA (u.length:Int)),(71,iA q.1),kH q.2]) (u.length+1) (λq=>zKM u J q.1 q.2) (0,Z)
def zKO(u:List zZ)(I:O)(W:Hp):TT (Int×Hp) []:=
.ln 44 u zN<|
.j 78 (λy4=>[(0,oA 3 I),(1,.t (.d (.seq 2 (List.map zN u)))),(8,iA (wi ((wi (2*(u.length:Int)))+1))),kH y4]) (λy4=>zKQ I u y4)<|
.pS I λβ Z=>
.s 200 49 3 Z<|
.b (W.ge_lg β) λJ U=>
.o 52 (ld (zAf U))<|
.iF 143 (decide ((wi ((wi (2*(u.length:Int)))+1))>J.size_)) λδ=>
.ln 56 u zN<|
.iF 164 ((u.length:Int)==0) λγ=>
.fR 61 (zNM I W) λα=>
.iF 176 (decide ((wi ((wi (2*(u.length:Int)))+1))>α)) λε=>
.k [] .z W
def zKB(p1:List zZ)(W:Hp)(p0:O)(I:Int):TT (Int×Hp) [Int,Unit]:=
.i 71 (decide (I<(p1.length:Int))) (λZ=> .b (idx p1 I) λu U=>
.ix 24 zN U<|
.iF 90 (decide (u.Home<0)) λβ=>
.fR 33 (zAm p0 W) λJ=>
.iF 111 (decide (u.Home>=J)) λα=>
.ln 39 u.Data cU8<|
.iF 125 ((u.Data.length:Int) !=64) λγ=>
.k [] .z (wi (I+1))) λZ=>
.k [] (.s .z) ()
def zMt(J:O)(u:List zZ)(W:Hp):TT (Int×Hp) []:=
.fR 16 (zAj J W) λU=>
.iF 56 (U !=0) λZ=>
.j 42 (λ_=>[(0,oA 3 J),(1,.t (.d (.seq 2 (List.map zN u)))),kH W]) (λ_=>zKO u J W)<|
.ln 21 u zN<|
.l [] (λI=>[(0,oA 3 J),(1,.t (.d (.seq 2 (List.map zN u)))),(20,.t (.d (.seq 2 (List.map zN u)))),(21,iA (u.length:Int)),(22,iA I),kH W]) (u.length+1) (λI=>zKB u W J I) 0
def zNS p0 p1 W:=(zMt p0 p1 W).q
theorem zLa p0 p1 W:∀r,zNS p0 p1 W=some r->FH 202 [oA 3 p0,.t (.d (.seq 2 (List.map zN p1)))] [] [] (hpA W) (hpA r.2) (iA r.1):=zM mixed [] Tryz.func202 _
def zJ0(p0:O)(Z:Nat)(h4:p0=some Z)(U:Hp)(W:zA9)(I:U.ge_tx Z=some W)(J:List zZ):TT (Int×Hp) []:=
.s 156 38 5 h4<|
.o 41 (ld (zJ7 I))<|
.y 42 true<|
.fH 43 (zLa W.l_ J U) λu=>
.e (u.1,u.2)
def zKD(J:List Int)(p0:O)(i5:Nat)(h4:p0=some i5)(w8:Hp)(x9:zA9)(δ:w8.ge_tx i5=some x9)(U:(List (Int×Y)))(ε:w8.ge_mp x9.now_=some U)(W:List zZ)(I:Int):TT (Int×Hp) [(List zZ)×Int,(List zZ)]:=
.i 71 (decide (I<(J.length:Int))) (λα=> .b (idx J I) λu γ=>
.ix 24 cI64 γ<|
.y 26 true<|
.s 116 28 5 h4<|
.o 31 (ld (zJ7 δ))<|
.o 33 (mlkH (kv:=(λz:Int=>Value.int .i64 z)) (vT:=(λv=>T.d ((λl:List UInt8=>D.seq 1 (zU l)) v))) (gl_mp ε) u (zTM (kt:=3) (by kernel_rfl)) (z:=([]:Y)) (λ_=>RepD.nilSeq _ _))<|
.b (appI 32 W [(zZ.mk u ((zCt U u).getD ([]:Y)))]) λβ Z=>
.w 36 (appC (c:=zN) Z) (.oe (appE (E:=307) (k:=2) (c:=zN) Z))<|
.y 4 true<|
.k [] .z (β,(wi (I+1)))) λα=>
.k [] (.s .z) W
def zMv(p0:O)(W:Hp):TT (Int×Hp) []:=
.fR 8 (zCX p0 W) λx1=>
.iF 32 (x1 !=0) λh3=>
.pS p0 λi5 h4=>
.s 52 12 5 h4<|
.b (W.ge_tx i5) λx6 h7=>
let U:zA9:=(zA9.mk x6.l_ x6.at_ true x6.now_);let Z:=(W.st_tx i5 U);.o 44 (stw (zJ7 h7) (su_tx (x':=U) h7))<|
have I:Z.ge_tx i5=some U:=(zE3 h7);.j 46 (λJ=>[(0,oA 5 p0),(4,.t (.own 307 2 (List.map zN J))),kH Z]) (λJ=>zJ0 p0 i5 h4 Z U I J)<|
.s 64 15 5 h4<|
.o 18 (ld (zJ7 I))<|
.o 19 (keysR (c:=cd 6 U.now_) keysW)<|
.b (Z.ge_mp U.now_) λα β=>
.b (keysI α) λu γ=>
.o 20 (sortedR sortedW (by kernel_rfl) (gl_mp β) γ)<|
.ln 21 u cI64<|
.l [4] (λq=>[(0,oA 5 p0),(4,.t (.own 307 2 (List.map zN q.1))),(20,.t (.d (.seq 1 (List.map cI64 u)))),(21,iA (u.length:Int)),(22,iA q.2),kH Z]) (u.length+1) (λq=>zKD u p0 i5 h4 Z U I α β q.1 q.2) ([],0)
def zG1 p0 W:=(zMv p0 W).q
theorem zFV p0 W:∀r,zG1 p0 W=some r->FH 103 [oA 5 p0] [] [] (hpA W) (hpA r.2) (iA r.1):=zM mixed [] Tryz.func103 _
def zDZ(W:Hp)(I:(O×Int×Hp))(p1:Int)(Z:Hp):TT (Int×Hp) []:=
.b (Z.ge_st W.ln_st) λμ γ=>
.o 83 (ld (zHQ γ))<|
.fH 84 (zKj μ.geometry_.homes_ Z) λu=>
.b (u.2.2.ge_st W.ln_st) λζ ι=>
.o 91 (ldS (zHQ ι))<|
.fA 92 (zAY ζ.geometry_) λβ=>
.fH 93 (zCf u.1 β u.2.2) λα=>
.b (α.2.2.ge_st W.ln_st) λκ ε=>
.o 97 (ldS (zHQ ε))<|
.fH 101 (zCb κ.geometry_ I.1 (zT.mk 0 p1 0 0) α.2.2) λU=>
.b (U.ge_st W.ln_st) λθ η=>
.o 105 (ldS (zHQ η))<|
.fH 108 (zCH θ.geometry_ I.1 u.1 U) λδ=>
.fH 110 (zFV I.1 δ) λJ=>
.e (J.1,J.2)
def zDX(β:Int)(W:(O×Int×Hp))(u:Int)(I:Hp):TT (Int×Hp) [Int×Hp,Hp]:=
.i 215 (decide (u<β)) (λU=> .b (mkI 1 64) λJ α=>
.o 75 (mko α (z:=(.int .u8 0)) (rs:=zU (List.replicate J (0:UInt8))) (by unfold zU;rw[List.map_replicate];try rfl))<|
.fH 76 (zAi W.1 u (List.replicate J (0:UInt8)) I) λZ=>
.k [] .z ((wi (u+1)),Z.2)) λU=>
.k [] (.s .z) I
def zJo(p0:O)(p1:Int)(W:Hp):TT (Int×Hp) []:=
.fR 15 (yL p0 W) λx1=>
.iF 41 (x1==0) λh3=>
.fR 19 (yL p0 W) λx4=>
.fA 20 (zRH x4) λx6=>
.iF 69 (decide (x6<1)) λh8=>
.iF 81 (decide (p1<0)) λh9=>
.iF 53 (decide (p1>2305843009213693952)) λν=>
.fR 31 (yL p0 W) λε=>
.fA 32 (zKP ε) λι=>
let J:qJ:=(qJ.mk ι none);let β:=(W.nw_st J);.o 34 (nwW (fr_st W) (nw_st W J))<|
have ζ:β.ge_st W.ln_st=some J:=zTj;.o 40 (ld (zHQ ζ))<|
.fH 41 (zPz p0 J.geometry_.size_ β) λγ=>
.iF 131 (γ.1 !=0) λξ=>
.fH 47 (zMq p0 γ.2) λI=>
.iF 155 (I.2.1 !=0) λρ=>
.b (I.2.2.ge_st W.ln_st) λμ α=>
let δ:qJ:=(qJ.mk μ.geometry_ I.1);let η:=(I.2.2.st_st W.ln_st δ);.o 111 (stw (zHQ α) (su_st (x':=δ) α))<|
.fH 59 (zF3 I.1 η) λu=>
.iF 191 (u.2.1 !=0) λπ=>
.j 86 (λU=>[(1,iA p1),(5,oA 10 (some W.ln_st)),(9,oA 5 u.1),kH U,kF 0]) (λU=>zDZ W u p1 U)<|
.b (u.2.2.ge_st W.ln_st) λθ κ=>
.o 68 (ldS (zHQ κ))<|
.fA 69 (zAY θ.geometry_) λZ=>
.l [] (λq=>[(1,iA p1),(5,oA 10 (some W.ln_st)),(9,oA 5 u.1),(69,iA Z),(70,iA q.1),kH q.2,kF 0]) (Int.toNat Z+1) (λq=>zDX Z u q.1 q.2) (0,u.2.2)
def zBo p0 p1 W:=(zJo p0 p1 W).q
theorem zNK p0 p1 W:∀r,zBo p0 p1 W=some r->FH 27 [oA 1 p0,iA p1] [] [] (hpA W) (hpA r.2) (iA r.1):=zM mixed [0] Tryz.func27 _
end
end Go.Proofs.YtocolhfjpadaoaaGreatDoor
