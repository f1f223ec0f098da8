/-
  Lemmas of this claim, joined.
-/
import Derived.Test.YtocolhfjpadaoaaGreatDoorU14
set_option linter.unusedVariables false
set_option linter.unusedSimpArgs false
set_option linter.constructorNameAsVariable false
namespace Go.Proofs.YtocolhfjpadaoaaGreatDoor
open Go Go.RowKit
variable {P:Program}{w0:World}{w:World}{m0:Mem}{m:Mem}{o0:OwnM}{o:OwnM}{G:GD}{pins:List Nat}{N:Nat}{a:Act}{op:Oper}{S:Nat->A}{M:Nat->A}{L:SL}{v:Value}{W:World}{Q:Mem}{X:OwnM}
set_option maxRecDepth 20000
noncomputable section
def zGT(I:List Int)(Z:V)(u:Int):TT Bool [Int]:=
.ln 19 I cI64<|
.i 62 (decide (u<(I.length:Int))) (λh4=> .b (idx Z.l u) λx5 J=>
.w 26 (idxC (c:=V.cells) J) (.oe (zA8 V.cells_eq J))<|
.b (idx I u) λx7 W=>
.ix 31 cI64 W<|
.i 101 (x5.k !=x7) (λU=> .e false) λU=>
.k [] .z (wi (u+1))) λh4=>
.e true
def zPx(u:V)(I:List Int):TT Bool []:=
.i 30 (u.k !=3) (λZ=> .e false) λZ=>
.w 12 trivial (lnE u.l V.cells)<|
.ln 14 I cI64<|
.i 50 ((u.l.length:Int) !=(I.length:Int)) (λU=> .e false) λU=>
.l [] (λJ=>[(1,.t (.d (.seq 1 (List.map cI64 I)))),(2,.box [iT u.k,iT u.n,yT u.b,.d (.seq 4 (List.map V.cells u.l))]),(5,iA J)]) (I.length+1) (λJ=>zGT I u J) 0
def zDJ p0 p1:=(zPx p0 p1).q
theorem zJ0 p0 p1:∀r,zDJ p0 p1=some r->FP 151 [.t (.agg [iD p0.k,iD p0.n,yD p0.b,.seq 4 (List.map V.cells p0.l)]),.t (.d (.seq 1 (List.map cI64 p1)))] [] (bA r):=zU mixed Tryz.func151 _
def zJ4(u:List zF):TT Bool []:=
.ln 23 u zC<|
.e (decide ((u.length:Int)<=70))
def zI2(J:List zF)(u:Int):TT Bool [Int,Unit]:=
.i 26 (decide (u<(J.length:Int))) (λZ=> .b (idx J u) λI W=>
.ix 9 zC W<|
.ln 13 I.Data cU8<|
.i 48 (decide ((I.Data.length:Int)>1100)) (λh5=> .e false) λh5=>
.i 62 (decide ((I.Key.length:Int)>100)) (λU=> .e false) λU=>
.k [] .z (wi (u+1))) λZ=>
.k [] (.s .z) ()
def zUC(u:List zF):TT Bool []:=
.j 30 (λ_=>[(0,.t (.d (.seq 4 (List.map zC u))))]) (λ_=>zJ4 u)<|
.ln 6 u zC<|
.l [] (λI=>[(0,.t (.d (.seq 4 (List.map zC u)))),(5,.t (.d (.seq 4 (List.map zC u)))),(6,iA (u.length:Int)),(7,iA I)]) (u.length+1) (λI=>zI2 u I) 0
def zI3 p0:=(zUC p0).q
theorem zYQ p0:∀r,zI3 p0=some r->FP 36 [.t (.d (.seq 4 (List.map zC p0)))] [] (bA r):=zU mixed Tryz.func36 _
def zJW(U:zB)(I:Int):TT Bool [Int]:=
.i 95 (decide (I<(U.Wants.length:Int))) (λZ=> .b (idx U.Wants I) λW u=>
.ix 32 zG u<|
.i 113 (decide ((W.Key.length:Int)>100)) (λJ=> .e false) λJ=>
.k [] .z (wi (I+1))) λZ=>
.e true
def zU6(u:zB):TT Bool []:=
.i 30 (decide ((u.User.length:Int)>20)) (λW=> .e false) λW=>
.i 48 (decide ((u.Key.length:Int)>100)) (λU=> .e false) λU=>
.ln 18 u.Wants zG<|
.i 66 (decide ((u.Wants.length:Int)>70)) (λh3=> .e false) λh3=>
.fA 24 (zYQ u.Changes) λZ=>
.i 80 (!Z) (λJ=> .e false) λJ=>
.ln 29 u.Wants zG<|
.l [] (λI=>[(28,.t (.d (.seq 4 (List.map zG u.Wants)))),(29,iA (u.Wants.length:Int)),(30,iA I)]) (u.Wants.length+1) (λI=>zJW u I) 0
def zI9 p0:=(zU6 p0).q
theorem zYR p0:∀r,zI9 p0=some r->FP 53 [.t (.agg [iD p0.Kind,sD p0.User,iD p0.Number,sD p0.Key,.seq 4 (List.map zG p0.Wants),.seq 4 (List.map zC p0.Changes)])] [] (bA r):=zU mixed Tryz.func53 _
def zEH(p0:zB)(W:V)(y8:List V)(x6:V)(y9:List V):TT (Y×Int) []:=
.fA 71 (zAA p0.Kind) λJ=>
.fA 74 (zEK p0.User) λu=>
.fA 77 (zAA p0.Number) λU=>
.fA 80 (zEK p0.Key) λI=>
.w 83 trivial (show WkA (.t (.own 163 4 [[iD J.k,iD J.n,nD,nD],[iD u.k,iD u.n,yD u.b,nD],[iD U.k,iD U.n,nD,nD],[iD I.k,iD I.n,yD I.b,nD],[iD W.k,iD W.n,nD,.seq 4 (List.map V.cells y8)],[iD x6.k,iD x6.n,nD,.seq 4 (List.map V.cells y9)]])) _ from(.t (.rows _ _ (.cons (.cons (.refl _) (.cons (.refl _) (.cons (.nil _) (.cons (.nil _) .nil)))) (.cons (.cons (.refl _) (.cons (.refl _) (.cons (.refl _) (.cons (.nil _) .nil)))) (.cons (.cons (.refl _) (.cons (.refl _) (.cons (.nil _) (.cons (.nil _) .nil)))) (.cons (.cons (.refl _) (.cons (.refl _) (.cons (.refl _) (.cons (.nil _) .nil)))) (.cons (.cons (.refl _) (.cons (.refl _) (.cons (.nil _) (.cons (.refl _) .nil)))) (.cons (.cons (.refl _) (.cons (.refl _) (.cons (.nil _) (.cons (.refl _) .nil)))) .nil)))))) (zMc V.cells_eq [(V.mk J.k J.n [] []),(V.mk u.k u.n u.b []),(V.mk U.k U.n [] []),(V.mk I.k I.n I.b []),(V.mk W.k W.n [] y8),(V.mk x6.k x6.n [] y9)]))))<|
.fA 84 (zH0 [(V.mk J.k J.n [] []),(V.mk u.k u.n u.b []),(V.mk U.k U.n [] []),(V.mk I.k I.n I.b []),(V.mk W.k W.n [] y8),(V.mk x6.k x6.n [] y9)]) λZ=>
.fA 85 (zFT (V.mk Z.k Z.n [] Z.l)) λα=>
.e (α.1,α.2)
def zEF(p0:zB)(β:List V)(α:Int):TT (Y×Int) [(List V)×Int,(List V)]:=
.i 140 (decide (α<(p0.Changes.length:Int))) (λε=> .b (idx p0.Changes α) λW δ=>
.ix 47 zC δ<|
.y 50 true<|
.fA 53 (zAA W.Kind) λZ=>
.fA 56 (zEK W.Key) λu=>
.fA 59 (zAA W.Version) λU=>
.fA 62 (zF4 W.Data) λJ=>
.w 63 trivial (show WkA (.t (.own 163 4 [[iD Z.k,iD Z.n,nD,nD],[iD u.k,iD u.n,yD u.b,nD],[iD U.k,iD U.n,nD,nD],[iD J.k,iD J.n,yD J.b,nD]])) _ from(.t (.rows _ _ (.cons (.cons (.refl _) (.cons (.refl _) (.cons (.nil _) (.cons (.nil _) .nil)))) (.cons (.cons (.refl _) (.cons (.refl _) (.cons (.refl _) (.cons (.nil _) .nil)))) (.cons (.cons (.refl _) (.cons (.refl _) (.cons (.nil _) (.cons (.nil _) .nil)))) (.cons (.cons (.refl _) (.cons (.refl _) (.cons (.refl _) (.cons (.nil _) .nil)))) .nil)))) (zMc V.cells_eq [(V.mk Z.k Z.n [] []),(V.mk u.k u.n u.b []),(V.mk U.k U.n [] []),(V.mk J.k J.n J.b [])]))))<|
.fA 64 (zH0 [(V.mk Z.k Z.n [] []),(V.mk u.k u.n u.b []),(V.mk U.k U.n [] []),(V.mk J.k J.n J.b [])]) λI=>
.w 65 trivial (show WkA (.t (.own 163 4 [[iD I.k,iD I.n,nD,.seq 4 (List.map V.cells I.l)]])) _ from(.t (.rows _ _ (.cons (.cons (.refl _) (.cons (.refl _) (.cons (.nil _) (.cons (.refl _) .nil)))) .nil) (zMc V.cells_eq [(V.mk I.k I.n [] I.l)]))))<|
.b (appI 64 β [(V.mk I.k I.n [] I.l)]) λζ γ=>
.w 66 (appC (c:=V.cells) γ) (.oe (appE (E:=163) (k:=4) (c:=V.cells) γ))<|
.k [] .z (ζ,(wi (α+1)))) λε=>
.k [] (.s .z) β
def zDu(u:zB)(I J:V)(Z:List V):TT (Y×Int) []:=
.j 58 (λU=>[(1,.box [iT u.Kind,sT u.User,iT u.Number,sT u.Key,.d (.seq 4 (List.map zG u.Wants)),.d (.seq 4 (List.map zC u.Changes))]),(4,.box [iT I.k,iT I.n,nT,.own 163 4 (List.map V.cells Z)]),(5,.box [iT J.k,iT J.n,nT,.own 163 4 (List.map V.cells U)])]) (λU=>zEH u I Z J U)<|
.ln 44 u.Changes zC<|
.l [5] (λq=>[(1,.box [iT u.Kind,sT u.User,iT u.Number,sT u.Key,.d (.seq 4 (List.map zG u.Wants)),.d (.seq 4 (List.map zC u.Changes))]),(4,.box [iT I.k,iT I.n,nT,.own 163 4 (List.map V.cells Z)]),(5,.box [iT J.k,iT J.n,nT,.own 163 4 (List.map V.cells q.1)]),(43,.t (.d (.seq 4 (List.map zC u.Changes)))),(44,iA (u.Changes.length:Int)),(45,iA q.2)]) (u.Changes.length+1) (λq=>zEF u q.1 q.2) ([],0)
def zDz(p0:zB)(γ:List V)(α:Int):TT (Y×Int) [(List V)×Int,(List V)]:=
.i 59 (decide (α<(p0.Wants.length:Int))) (λδ=> .b (idx p0.Wants α) λW ζ=>
.ix 20 zG ζ<|
.y 23 true<|
.fA 26 (zAA W.Kind) λJ=>
.fA 29 (zEK W.Key) λI=>
.fA 32 (zAA W.Version) λU=>
.fA 35 (zAA W.Size) λZ=>
.w 36 trivial (show WkA (.t (.own 163 4 [[iD J.k,iD J.n,nD,nD],[iD I.k,iD I.n,yD I.b,nD],[iD U.k,iD U.n,nD,nD],[iD Z.k,iD Z.n,nD,nD]])) _ from(.t (.rows _ _ (.cons (.cons (.refl _) (.cons (.refl _) (.cons (.nil _) (.cons (.nil _) .nil)))) (.cons (.cons (.refl _) (.cons (.refl _) (.cons (.refl _) (.cons (.nil _) .nil)))) (.cons (.cons (.refl _) (.cons (.refl _) (.cons (.nil _) (.cons (.nil _) .nil)))) (.cons (.cons (.refl _) (.cons (.refl _) (.cons (.nil _) (.cons (.nil _) .nil)))) .nil)))) (zMc V.cells_eq [(V.mk J.k J.n [] []),(V.mk I.k I.n I.b []),(V.mk U.k U.n [] []),(V.mk Z.k Z.n [] [])]))))<|
.fA 37 (zH0 [(V.mk J.k J.n [] []),(V.mk I.k I.n I.b []),(V.mk U.k U.n [] []),(V.mk Z.k Z.n [] [])]) λu=>
.w 38 trivial (show WkA (.t (.own 163 4 [[iD u.k,iD u.n,nD,.seq 4 (List.map V.cells u.l)]])) _ from(.t (.rows _ _ (.cons (.cons (.refl _) (.cons (.refl _) (.cons (.nil _) (.cons (.refl _) .nil)))) .nil) (zMc V.cells_eq [(V.mk u.k u.n [] u.l)]))))<|
.b (appI 64 γ [(V.mk u.k u.n [] u.l)]) λε β=>
.w 39 (appC (c:=V.cells) β) (.oe (appE (E:=163) (k:=4) (c:=V.cells) β))<|
.k [] .z (ε,(wi (α+1)))) λδ=>
.k [] (.s .z) γ
def zKx(u:zB):TT (Y×Int) []:=
.fA 11 (zLy u) λx1=>
.i 38 (!x1) (λh3=> .e ([],2)) λh3=>
.b (zAa) λI W=>
.o 13 (cA (zCx _ W))<|
.b (zAa) λJ Z=>
.o 14 (cA (zCx _ Z))<|
.j 38 (λU=>[(1,.box [iT u.Kind,sT u.User,iT u.Number,sT u.Key,.d (.seq 4 (List.map zG u.Wants)),.d (.seq 4 (List.map zC u.Changes))]),(4,.box [iT I.k,iT I.n,nT,.own 163 4 (List.map V.cells U)]),(5,.box [iT J.k,iT J.n,nT,nT])]) (λU=>zDu u I J U)<|
.ln 17 u.Wants zG<|
.l [4] (λq=>[(1,.box [iT u.Kind,sT u.User,iT u.Number,sT u.Key,.d (.seq 4 (List.map zG u.Wants)),.d (.seq 4 (List.map zC u.Changes))]),(4,.box [iT I.k,iT I.n,nT,.own 163 4 (List.map V.cells q.1)]),(5,.box [iT J.k,iT J.n,nT,nT]),(16,.t (.d (.seq 4 (List.map zG u.Wants)))),(17,iA (u.Wants.length:Int)),(18,iA q.2)]) (u.Wants.length+1) (λq=>zDz u q.1 q.2) ([],0)
def zB6 p0:=(zKx p0).q
theorem zQR p0:∀r,zB6 p0=some r->FP 54 [.t (.agg [iD p0.Kind,sD p0.User,iD p0.Number,sD p0.Key,.seq 4 (List.map zG p0.Wants),.seq 4 (List.map zC p0.Changes)])] [] (.tup [yT r.1,iT r.2]):=zU mixed Tryz.func54 _
def zHK(u:Int):TT Bool [Int]:=
.k [] .z (wi (u+1))
def zH2(J U:Bool):TT Bool [Unit,Int]:=
.i 129 (!J) (λu=> .i 137 (!U) (λI=> .e false) λI=>
.k [] .z ()) λu=>
.k [] .z ()
def zHk(Z:Y)(W:Int)(y5:Bool):TT Bool [Unit,Int]:=
.j 34 (λJ=>[(0,sA Z),(3,iA W),(4,bA y5),(5,bA J)]) (λJ=>zH2 y5 J)<|
.b (idx Z W) λx9 I=>
.w 32 (zHW I) (.oe (zHM I))<|
.i 105 (decide ((x9.toNat:Int)>=48)) (λα=> .b (idx Z W) λU u=>
.w 37 (zHW u) (.oe (zHM u))<|
.k [] .z (decide ((U.toNat:Int)<=57))) λα=>
.k [] .z false
def zHv(I:Y)(u:Int):TT Bool [Int]:=
.i 53 (decide (u<(I.length:Int))) (λh4=> .j 22 (λ_=>[(0,sA I),(3,iA u)]) (λ_=>zHK u)<|
.j 30 (λy5=>[(0,sA I),(3,iA u),(4,bA y5)]) (λy5=>zHk I u y5)<|
.b (idx I u) λZ J=>
.w 22 (zHW J) (.oe (zHM J))<|
.i 75 (decide ((Z.toNat:Int)>=97)) (λα=> .b (idx I u) λW U=>
.w 27 (zHW U) (.oe (zHM U))<|
.k [] .z (decide ((W.toNat:Int)<=122))) λα=>
.k [] .z false) λh4=>
.e true
def zRb(u:Y):TT Bool []:=
.i 30 (decide ((u.length:Int)<1)) (λJ=> .e false) λJ=>
.i 41 (decide ((u.length:Int)>12)) (λU=> .e false) λU=>
.l [] (λI=>[(0,sA u),(3,iA I)]) (u.length+1) (λI=>zHv u I) 0
def zG5 p0:=(zRb p0).q
theorem zWI p0:∀r,zG5 p0=some r->FP 153 [sA p0] [] (bA r):=zU mixed Tryz.func153 _
def zOE(u:Int):TT Bool []:=
.i 18 (decide (u>=0)) (λI=> .e (decide (u<=4611686018427387904))) λI=>
.e false
def zBN p0:=(zOE p0).q
theorem zDi p0:∀r,zBN p0=some r->FP 154 [iA p0] [] (bA r):=zU mixed Tryz.func154 _
def zI8(W:zB)(I:Int):TT Bool [Int]:=
.ln 74 W.Wants zG<|
.i 227 (decide (I<(W.Wants.length:Int))) (λγ=> .b (idx W.Wants I) λu α=>
.ix 81 zG α<|
.i 264 (decide ((u.Key.length:Int)>40)) (λJ=> .e false) λJ=>
.fA 90 (zDi u.Kind) λβ=>
.i 282 (!β) (λζ=> .e false) λζ=>
.fA 96 (zDi u.Version) λδ=>
.i 300 (!δ) (λU=> .e false) λU=>
.fA 102 (zDi u.Size) λε=>
.i 314 (!ε) (λZ=> .e false) λZ=>
.k [] .z (wi (I+1))) λγ=>
.e true
def zIr(p0:zB)(I:Int):TT Bool [Int]:=
.ln 128 p0.Changes zC<|
.i 389 (decide (I<(p0.Changes.length:Int))) (λW=> .b (idx p0.Changes I) λu α=>
.ix 135 zC α<|
.i 426 (decide ((u.Key.length:Int)>40)) (λδ=> .e false) λδ=>
.fA 144 (zDi u.Kind) λJ=>
.i 444 (!J) (λZ=> .e false) λZ=>
.fA 150 (zDi u.Version) λU=>
.i 462 (!U) (λβ=> .e false) λβ=>
.ln 156 u.Data cU8<|
.i 476 (decide ((u.Data.length:Int)>1024)) (λγ=> .e false) λγ=>
.k [] .z (wi (I+1))) λW=>
.e true
def zU4(u:zB):TT Bool []:=
.i 33 (decide (u.Kind<1)) (λh1=> .e false) λh1=>
.i 44 (decide (u.Kind>4)) (λh2=> .e false) λh2=>
.i 53 (decide (u.Kind<=2)) (λh3=> .i 69 (decide ((u.Key.length:Int)<=40)) (λh4=> .w 25 trivial (seqE u.User ([]:Y))<|
.i 84 (u.User==[]) (λh5=> .i 99 (u.Number==0) (λh6=> .ln 35 u.Wants zG<|
.i 117 ((u.Wants.length:Int)==0) (λh7=> .ln 41 u.Changes zC<|
.e ((u.Changes.length:Int)==0)) λh7=>
.e false) λh6=>
.e false) λh5=>
.e false) λh4=>
.e false) λh3=>
.fA 46 (zWI u.User) λx8=>
.i 147 (!x8) (λW=> .e false) λW=>
.w 51 trivial (sneE u.Key ([]:Y))<|
.i 158 (!(u.Key==[])) (λε=> .e false) λε=>
.i 167 (u.Kind==3) (λα=> .i 180 (u.Number !=0) (λU=> .e false) λU=>
.ln 62 u.Changes zC<|
.i 198 (decide ((u.Changes.length:Int)>0)) (λZ=> .e false) λZ=>
.ln 68 u.Wants zG<|
.i 212 (decide ((u.Wants.length:Int)>64)) (λβ=> .e false) λβ=>
.l [] (λJ=>[(1,.box [iT u.Kind,sT u.User,iT u.Number,sT u.Key,.d (.seq 4 (List.map zG u.Wants)),.d (.seq 4 (List.map zC u.Changes))]),(3,iA J)]) (u.Wants.length+1) (λJ=>zI8 u J) 0) λα=>
.i 327 (decide (u.Number<1)) (λδ=> .e false) λδ=>
.i 342 (decide (u.Number>1099511627776)) (λη=> .e false) λη=>
.ln 116 u.Wants zG<|
.i 360 (decide ((u.Wants.length:Int)>0)) (λγ=> .e false) λγ=>
.ln 122 u.Changes zC<|
.i 374 (decide ((u.Changes.length:Int)>64)) (λζ=> .e false) λζ=>
.l [] (λI=>[(1,.box [iT u.Kind,sT u.User,iT u.Number,sT u.Key,.d (.seq 4 (List.map zG u.Wants)),.d (.seq 4 (List.map zC u.Changes))]),(5,iA I)]) (u.Changes.length+1) (λI=>zIr u I) 0
def zFg p0:=(zU4 p0).q
theorem zR9 p0:∀r,zFg p0=some r->FP 55 [.t (.agg [iD p0.Kind,sD p0.User,iD p0.Number,sD p0.Key,.seq 4 (List.map zG p0.Wants),.seq 4 (List.map zC p0.Changes)])] [] (bA r):=zU mixed Tryz.func55 _
def zHs(Z p1:zB)(J:Int):TT Bool [Int]:=
.ln 74 Z.Changes zC<|
.i 227 (decide (J<(Z.Changes.length:Int))) (λh8=> .b (idx Z.Changes J) λI W=>
.ix 81 zC W<|
.b (idx p1.Changes J) λu α=>
.ix 86 zC α<|
.i 282 (I.Kind !=u.Kind) (λU=> .e false) λU=>
.w 98 trivial (sneE I.Key u.Key)<|
.i 303 (!(I.Key==u.Key)) (λβ=> .e false) λβ=>
.i 324 (I.Version !=u.Version) (λγ=> .e false) λγ=>
.fA 112 (zPv I.Data u.Data) λδ=>
.i 344 (!δ) (λε=> .e false) λε=>
.k [] .z (wi (J+1))) λh8=>
.e true
def zH8(u I:zB):TT Bool []:=
.l [] (λJ=>[(2,.box [iT u.Kind,sT u.User,iT u.Number,sT u.Key,.d (.seq 4 (List.map zG u.Wants)),.d (.seq 4 (List.map zC u.Changes))]),(3,.box [iT I.Kind,sT I.User,iT I.Number,sT I.Key,.d (.seq 4 (List.map zG I.Wants)),.d (.seq 4 (List.map zC I.Changes))]),(6,iA J)]) (u.Changes.length+1) (λJ=>zHs u I J) 0
def zHl(W p1:zB)(J:Int):TT Bool [Int,Unit]:=
.ln 56 W.Wants zG<|
.i 173 (decide (J<(W.Wants.length:Int))) (λU=> .b (idx W.Wants J) λI Z=>
.ix 63 zG Z<|
.b (idx p1.Wants J) λu α=>
.ix 68 zG α<|
.o 70 (eqr true (b':=((I.Kind==u.Kind)&&((I.Key==u.Key)&&((I.Version==u.Version)&&((I.Size==u.Size)&&true))))) (andE rfl (andE (zSp _ _) (andE rfl (andE rfl rfl)))))<|
.i 212 (!((I.Kind==u.Kind)&&((I.Key==u.Key)&&((I.Version==u.Version)&&((I.Size==u.Size)&&true))))) (λβ=> .e false) λβ=>
.k [] .z (wi (J+1))) λU=>
.k [] (.s .z) ()
def zNM(u I:zB):TT Bool []:=
.i 45 (u.Kind !=I.Kind) (λh1=> .e false) λh1=>
.w 19 trivial (sneE u.User I.User)<|
.i 66 (!(u.User==I.User)) (λZ=> .e false) λZ=>
.i 87 (u.Number !=I.Number) (λh3=> .e false) λh3=>
.w 33 trivial (sneE u.Key I.Key)<|
.i 108 (!(u.Key==I.Key)) (λW=> .e false) λW=>
.ln 38 u.Wants zG<|
.ln 41 I.Wants zG<|
.i 135 ((u.Wants.length:Int) !=(I.Wants.length:Int)) (λh5=> .e false) λh5=>
.ln 47 u.Changes zC<|
.ln 50 I.Changes zC<|
.i 158 ((u.Changes.length:Int) !=(I.Changes.length:Int)) (λU=> .e false) λU=>
.j 34 (λ_=>[(2,.box [iT u.Kind,sT u.User,iT u.Number,sT u.Key,.d (.seq 4 (List.map zG u.Wants)),.d (.seq 4 (List.map zC u.Changes))]),(3,.box [iT I.Kind,sT I.User,iT I.Number,sT I.Key,.d (.seq 4 (List.map zG I.Wants)),.d (.seq 4 (List.map zC I.Changes))])]) (λ_=>zH8 u I)<|
.l [] (λJ=>[(2,.box [iT u.Kind,sT u.User,iT u.Number,sT u.Key,.d (.seq 4 (List.map zG u.Wants)),.d (.seq 4 (List.map zC u.Changes))]),(3,.box [iT I.Kind,sT I.User,iT I.Number,sT I.Key,.d (.seq 4 (List.map zG I.Wants)),.d (.seq 4 (List.map zC I.Changes))]),(5,iA J)]) (u.Wants.length+1) (λJ=>zHl u I J) 0
def zFH(I u:zB):Option Bool:=(zNM I u).run Env.nil
theorem zPk(I u:zB):∀r,zFH I u=some r->FP 58 [.t (.agg [iD I.Kind,sD I.User,iD I.Number,sD I.Key,.seq 4 (List.map zG I.Wants),.seq 4 (List.map zC I.Changes)]),.t (.agg [iD u.Kind,sD u.User,iD u.Number,sD u.Key,.seq 4 (List.map zG u.Wants),.seq 4 (List.map zC u.Changes)])] [] (bA r):=zU mixed Tryz.func58 (zNM I u) (by kernel_rfl)
def zHH(x7 x9 u J:V)(I:List zJ)(U:List zF):TT (zB×Bool) []:=
.fA 149 (zR9 (zB.mk x7.n x9.b u.n J.b I U)) λW=>
.i 452 (!W) (λZ=> .e ((zB.mk 0 [] 0 [] [] []),false)) λZ=>
.e ((zB.mk x7.n x9.b u.n J.b I U),true)
def zHU(x1:(V×Int))(γ:List zF)(J:Int):TT (zB×Bool) [(List zF)×Int,(List zF)]:=
.b (idx x1.1.l 5) λα η=>
.w 101 (idxC (c:=V.cells) η) (.oe (zA8 V.cells_eq η))<|
.w 104 trivial (lnE α.l V.cells)<|
.i 317 (decide (J<(α.l.length:Int))) (λι=> .b (idx x1.1.l 5) λθ ε=>
.w 110 (idxC (c:=V.cells) ε) (.oe (zA8 V.cells_eq ε))<|
.b (idx θ.l J) λu Z=>
.w 114 (idxC (c:=V.cells) Z) (.oe (zA8 V.cells_eq Z))<|
.fA 118 (zJ0 u [1,2,1,2]) λκ=>
.i 359 (!κ) (λπ=> .e ((zB.mk 0 [] 0 [] [] []),false)) λπ=>
.y 122 true<|
.b (idx u.l 0) λx32 W=>
.w 125 (idxC (c:=V.cells) W) (.oe (zA8 V.cells_eq W))<|
.b (idx u.l 1) λI U=>
.w 130 (idxC (c:=V.cells) U) (.oe (zA8 V.cells_eq U))<|
.w 133 (zDe I.b) (.oe (strE I.b))<|
.b (idx u.l 2) λξ ζ=>
.w 136 (idxC (c:=V.cells) ζ) (.oe (zA8 V.cells_eq ζ))<|
.b (idx u.l 3) λν β=>
.w 141 (idxC (c:=V.cells) β) (.oe (zA8 V.cells_eq β))<|
.b (appI 56 γ [(zF.mk x32.n I.b ξ.n ν.b)]) λμ δ=>
.w 146 (appC (c:=zC) δ) (.oe (appE (E:=76) (k:=4) (c:=zC) δ))<|
.k [] .z (μ,(wi (J+1)))) λι=>
.k [] (.s .z) γ
def zHd(x7 W u J:V)(Z:(V×Int))(I:List zJ):TT (zB×Bool) []:=
.j 78 (λU=>[(2,.box [iT 0,sT [],iT 0,sT [],nT,nT]),(6,.box [iT x7.n,sT W.b,iT u.n,sT J.b,.own 219 4 (List.map zG I),.own 76 4 (List.map zC U)])]) (λU=>zHH x7 W u J I U)<|
.l [6] (λq=>[(2,.box [iT 0,sT [],iT 0,sT [],nT,nT]),(4,.box [iT Z.1.k,iT Z.1.n,yT Z.1.b,.d (.seq 4 (List.map V.cells Z.1.l))]),(6,.box [iT x7.n,sT W.b,iT u.n,sT J.b,.own 219 4 (List.map zG I),.own 76 4 (List.map zC q.1)]),(9,iA q.2)]) (5002) (λq=>zHU Z q.1 q.2) ([],0)
def zHr(x1:(V×Int))(ε:List zJ)(J:Int):TT (zB×Bool) [(List zJ)×Int,(List zJ)]:=
.b (idx x1.1.l 4) λη Z=>
.w 51 (idxC (c:=V.cells) Z) (.oe (zA8 V.cells_eq Z))<|
.w 54 trivial (lnE η.l V.cells)<|
.i 167 (decide (J<(η.l.length:Int))) (λξ=> .b (idx x1.1.l 4) λκ W=>
.w 60 (idxC (c:=V.cells) W) (.oe (zA8 V.cells_eq W))<|
.b (idx κ.l J) λu ζ=>
.w 64 (idxC (c:=V.cells) ζ) (.oe (zA8 V.cells_eq ζ))<|
.fA 68 (zJ0 u [1,2,1,1]) λι=>
.i 209 (!ι) (λν=> .e ((zB.mk 0 [] 0 [] [] []),false)) λν=>
.y 72 true<|
.b (idx u.l 0) λμ δ=>
.w 75 (idxC (c:=V.cells) δ) (.oe (zA8 V.cells_eq δ))<|
.b (idx u.l 1) λI U=>
.w 80 (idxC (c:=V.cells) U) (.oe (zA8 V.cells_eq U))<|
.w 83 (zDe I.b) (.oe (strE I.b))<|
.b (idx u.l 2) λθ β=>
.w 86 (idxC (c:=V.cells) β) (.oe (zA8 V.cells_eq β))<|
.b (idx u.l 3) λπ α=>
.w 91 (idxC (c:=V.cells) α) (.oe (zA8 V.cells_eq α))<|
.b (appI 40 ε [(zJ.mk μ.n I.b θ.n π.n)]) λρ γ=>
.w 96 (appC (c:=zG) γ) (.oe (appE (E:=219) (k:=4) (c:=zG) γ))<|
.k [] .z (ρ,(wi (J+1)))) λξ=>
.k [] (.s .z) ε
def zRt(p0:Y):TT (zB×Bool) []:=
.fA 13 (zSN p0) λu=>
.i 57 (u.2 !=0) (λh3=> .e ((zB.mk 0 [] 0 [] [] []),false)) λh3=>
.fA 21 (zJ0 u.1 [1,2,1,2,3,3]) λx4=>
.i 71 (!x4) (λh6=> .e ((zB.mk 0 [] 0 [] [] []),false)) λh6=>
.b (idx u.1.l 0) λx7 h8=>
.w 27 (idxC (c:=V.cells) h8) (.oe (zA8 V.cells_eq h8))<|
.b (idx u.1.l 1) λx9 Z=>
.w 32 (idxC (c:=V.cells) Z) (.oe (zA8 V.cells_eq Z))<|
.w 35 (zDe x9.b) (.oe (strE x9.b))<|
.b (idx u.1.l 2) λJ W=>
.w 38 (idxC (c:=V.cells) W) (.oe (zA8 V.cells_eq W))<|
.b (idx u.1.l 3) λI α=>
.w 43 (idxC (c:=V.cells) α) (.oe (zA8 V.cells_eq α))<|
.w 46 (zDe I.b) (.oe (strE I.b))<|
.j 50 (λU=>[(2,.box [iT 0,sT [],iT 0,sT [],nT,nT]),(4,.box [iT u.1.k,iT u.1.n,yT u.1.b,.d (.seq 4 (List.map V.cells u.1.l))]),(6,.box [iT x7.n,sT x9.b,iT J.n,sT I.b,.own 219 4 (List.map zG U),nT])]) (λU=>zHd x7 x9 J I u U)<|
.l [6] (λq=>[(2,.box [iT 0,sT [],iT 0,sT [],nT,nT]),(4,.box [iT u.1.k,iT u.1.n,yT u.1.b,.d (.seq 4 (List.map V.cells u.1.l))]),(6,.box [iT x7.n,sT x9.b,iT J.n,sT I.b,.own 219 4 (List.map zG q.1),nT]),(7,iA q.2)]) (5002) (λq=>zHr u q.1 q.2) ([],0)
def zEI p0:=(zRt p0).q
theorem zVX p0:∀r,zEI p0=some r->FP 59 [yA p0] [] (.tup [.agg [iD r.1.Kind,sD r.1.User,iD r.1.Number,sD r.1.Key,.seq 4 (List.map zG r.1.Wants),.seq 4 (List.map zC r.1.Changes)],bT' r.2]):=zU mixed Tryz.func59 _
def zDB(p1:Y)(J:(Bool×Hp)):TT (Bool×Hp) []:=
.fA 63 (zGU p1) λu=>
.o 61 mvt<|
.o 64 agX<|
.o 90 agS<|
.fA 68 (zVX p1) λI=>
.fA 73 (zPk u.1 I.1) λW=>
.i 225 W (λβ=> .i 231 I.2 (λγ=> .i 243 (u.2==0) (λα=> .e (true,J.2)) λα=>
.i 252 (!I.2) (λZ=> .e ((u.2==13),J.2)) λZ=>
.e (false,J.2)) λγ=>
.i 252 (!I.2) (λU=> .e ((u.2==13),J.2)) λU=>
.e (false,J.2)) λβ=>
.e (false,J.2)
def zIG(J:zB)(Z:Y)(W:Hp):TT (Bool×Hp) []:=
.fH 13 (zS3 W) λu=>
.i 44 (!u.1) (λh3=> .e (false,u.2)) λh3=>
.fA 16 (zYR J) λx4=>
.i 57 (!x4) (λh6=> .e (true,u.2)) λh6=>
.ln 20 Z cU8<|
.i 68 (decide ((Z.length:Int)>5000)) (λh7=> .e (true,u.2)) λh7=>
.fA 25 (zQR J) λI=>
.j 50 (λ_=>[(1,yA Z),kH u.2]) (λ_=>zDB Z u)<|
.fA 29 (zR9 J) λε=>
.i 89 ε (λμ=> .fA 32 (zGU I.1) λU=>
.o 30 mvt<|
.o 33 agX<|
.o 90 agS<|
.i 114 (I.2 !=0) (λθ=> .e (false,u.2)) λθ=>
.fA 40 (zNx J) λη=>
.fA 41 (zPv I.1 η) λζ=>
.i 135 (!ζ) (λι=> .e (false,u.2)) λι=>
.i 147 (U.2 !=0) (λγ=> .e (false,u.2)) λγ=>
.fA 51 (zPk U.1 J) λδ=>
.i 161 (!δ) (λβ=> .e (false,u.2)) λβ=>
.k [] .z ()) λμ=>
.i 171 (I.2 !=2) (λα=> .e (false,u.2)) λα=>
.ln 58 I.1 cU8<|
.i 182 (decide ((I.1.length:Int)>0)) (λκ=> .e (false,u.2)) λκ=>
.k [] .z ()
def zBy p0 p1 W:=(zIG p0 p1 W).q
theorem zMq p0 p1 W:∀r,zBy p0 p1 W=some r->FH 10 [.t (.agg [iD p0.Kind,sD p0.User,iD p0.Number,sD p0.Key,.seq 4 (List.map zG p0.Wants),.seq 4 (List.map zC p0.Changes)]),yA p1] [] [] (hpA W) (hpA r.2) (bA r.1):=zN mixed [] Tryz.func10 _
end
noncomputable section
def zBs(u:Int):Option (Int×Int):=
bif (decide (u>4611686018427387904))then(some (0,11))else
some ((wi u),0)
theorem zSw(u:Int):(zHV u).run Env.nil=zBs u:=by simp only[zHV,rn]<;>rfl
def zBt(k1:Int->Option (Int×Int))(I:Y):Nat->Int->Int->Option (Int×Int)
 |0,_,_=>none
 |n0+1,J,u=>
  bif (decide (u<(I.length:Int)))then((idx I u).bind λU=>
  zBt k1 I n0 (IntKind.u64.wrap ((((BitVec.ofInt IntKind.u64.bits (IntKind.u64.wrap (J*2^8)))|||(BitVec.ofInt IntKind.u64.bits (U.toNat:Int))).toNat:Nat):Int)) (wi (u+1)))else
  k1 J
theorem zSa(k1:Int->Option (Int×Int))(u:Y):∀n q,lpn (λk (q:Int×Int)=>(zHy u q.1 q.2).run ((Env.nil.cons k1).cons k)) n q=zBt k1 u n q.1 q.2:=yS (g:=λn (q:Int×Int)=>zBt k1 u n q.1 q.2) (λ_=>rfl) λn q=>by simp only[zHy,rn]<;>rfl
theorem zX1(u:Y):zD0 u=
bif ((u.length:Int)==0)then(some (0,10))else
bif (decide ((u.length:Int)>8))then(some (0,2))else
zBt zBs u (u.length+1) 0 0:=by simp only[zD0,zR1,rn,zSw,zSa]<;>rfl
def yJ(u:zD)(J:Int)(I:Int):Option (Y×zD):=
bif (I !=0)then(some ([],(zD.mk u.b_ I)))else
(cutI u.b_ 0 J).bind λU=>
(cutI u.b_ J (u.b_.length:Int)).bind λZ=>
some (U,(zD.mk Z I))
theorem zIU(J:zD)(I:Int)(u:Int):(zCD J I u).run Env.nil=yJ J I u:=by simp only[zCD,rn]<;>rfl
theorem zDF(u:zD)(I:Int):zY u I=
bif (u.e_==0)then(bif (decide (I>(u.b_.length:Int)))then(yJ u I 10)else
yJ u I u.e_)else
yJ u I u.e_:=by simp only[zY,zFa,rn,zIU]<;>rfl
theorem zEx(J:zD)(I:Int):qC J I=
(zY J I).bind λu=>
(zD0 u.1).bind λU=>
some (U.1,u.2):=by simp only[qC,zE0,rn]<;>rfl
theorem zLn(u:zD):zR u=
bif (u.e_==0)then(some (zD.mk u.b_ 11))else
some u:=by simp only[zR,zFR,rn]<;>rfl
def zAS(J:(Int×Int))(U:Y)(I:Int):Option (V×zD):=
(zAW J.1).bind λu=>
some ((V.mk u.k u.n [] []),(zD.mk U I))
theorem zHA(I:(Int×Int))(J:Y)(u:Int):(zBd I J u).run Env.nil=zAS I J u:=by simp only[zBd,rn]<;>rfl
def qS(x1:(Int×zD))(y3:Y)(y4:Int):Option (V×zD):=
(zY (zD.mk y3 y4) x1.1).bind λI=>
bif ((I.1.length:Int)==0)then((zAW 0).bind λW=>
some ((V.mk W.k W.n [] []),I.2))else
(zD0 I.1).bind λu=>
bif (u.2 !=0)then((zR I.2).bind λU=>
zAS u U.b_ U.e_)else
(idx I.1 0).bind λZ=>
bif ((Z.toNat:Int)==0)then((zR I.2).bind λJ=>
zAS u J.b_ J.e_)else
zAS u I.2.b_ I.2.e_
theorem zGs(J:(Int×zD))(u:Y)(I:Int):(zBg J u I).run Env.nil=qS J u I:=by simp only[zBg,rn,zHA]<;>rfl
theorem zJq(J:zD):yF J=
(qC J 1).bind λu=>
bif (decide (u.1>8))then((zR u.2).bind λI=>
qS u I.b_ I.e_)else
qS u u.2.b_ u.2.e_:=by simp only[yF,zEg,rn,zGs]<;>rfl
theorem zNF(u:List V):zFI u=
some (V.mk 3 0 [] u):=by simp only[zFI,zRc,rn]<;>rfl
theorem zDH(u:Int):zAW u=
some (V.mk 1 u [] []):=by simp only[zAW,zQd,rn]<;>rfl
theorem zQN(u:Y):zDE u=
some (V.mk 2 0 u []):=by simp only[zDE,zQW,rn]<;>rfl
def zS(W:(Int×zD))(self:zD->Int->Option (V×zD))(p1:Int)(u:V):Nat->Y->Int->List V->Int->Option (V×zD)
 |0,_,_,_,_=>none
 |n0+1,J,I,Z,α=>
  bif (decide (α<W.1))then(bif (I==0)then((self (zD.mk J I) (wi (p1-1))).bind λU=>
  (appI 64 Z [U.1]).bind λβ=>
  zS W self p1 u n0 U.2.b_ U.2.e_ β (wi (α+1)))else
  some ((V.mk u.k u.n [] Z),(zD.mk J I)))else
  some ((V.mk u.k u.n [] Z),(zD.mk J I))
theorem zHg(J:(Int×zD))(self:zD->Int->Option (V×zD))(U:Int)(u:(qQ self))(I:V):∀n q,lpn (λk (q:Y×Int×(List V)×Int)=>(zBo J self U u I q.1 q.2.1 q.2.2.1 q.2.2.2).run (Env.nil.cons k)) n q=zS J self U I n q.1 q.2.1 q.2.2.1 q.2.2.2:=yS (g:=λn (q:Y×Int×(List V)×Int)=>zS J self U I n q.1 q.2.1 q.2.2.1 q.2.2.2) (λ_=>rfl) λn q=>by simp only[zBo,rn]<;>rfl
def qI(Z:Int)(u:(Int×zD))(self:zD->Int->Option (V×zD))(J:Y)(U:Int):Option (V×zD):=
(zAa).bind λI=>
zS u self Z I (Int.toNat u.1+1) J U [] 0
theorem zHX(Z:Int)(I:(Int×zD))(self:zD->Int->Option (V×zD))(u:(qQ self))(J:Y)(U:Int):(zBq Z I self u J U).run Env.nil=qI Z I self J U:=by simp only[zBq,rn,zHg]<;>rfl
theorem zKX(Z:Nat)(p0:zD)(U:Int):zM (Z+1) p0 U=
(zY p0 1).bind λJ=>
bif (J.2.e_ !=0)then(some ((V.mk 0 0 [] []),J.2))else
(idx J.1 0).bind λx4=>
bif ((x4.toNat:Int)==1)then((yF J.2).bind λx7=>
some ((V.mk x7.1.k x7.1.n [] []),x7.2))else
bif ((x4.toNat:Int)==2)then((qC J.2 3).bind λα=>
(zY α.2 α.1).bind λγ=>
(zBw γ.1).bind λδ=>
(zDE δ).bind λI=>
some ((V.mk I.k I.n I.b []),γ.2))else
bif ((x4.toNat:Int)==3)then((qC J.2 2).bind λu=>
bif (decide (u.1>4096))then((zR u.2).bind λβ=>
qI U u (zM Z) β.b_ β.e_)else
bif (U==0)then((zR u.2).bind λW=>
qI U u (zM Z) W.b_ W.e_)else
qI U u (zM Z) u.2.b_ u.2.e_)else
(zR J.2).bind λε=>
some ((V.mk 0 0 [] []),ε):=by show(zBX (zM Z) (zEU Z) p0 U).run Env.nil=_;simp only[zBX,rn,zHX]<;>rfl
def zAn(I:(V×zD))(u:Int):Option (V×Int):=
bif (u !=0)then(some ((V.mk 0 0 [] []),u))else
some (I.1,0)
theorem zNA(u:(V×zD))(I:Int):(zD3 u I).run Env.nil=zAn u I:=by simp only[zD3,rn]<;>rfl
theorem zQl(I:Y):zC0 I=
bif (decide ((I.length:Int)>1048576))then(some ((V.mk 0 0 [] []),3))else
(zM (Int.toNat 16+1) (zD.mk I 0) 16).bind λu=>
bif (u.2.e_==0)then(bif (decide ((u.2.b_.length:Int)>0))then(zAn u 12)else
zAn u u.2.e_)else
zAn u u.2.e_:=by simp only[zC0,zKo,rn,zNA]<;>rfl
def zAH(u:V):Option ((List V)×Bool):=
some (u.l,true)
theorem zNG(u:V):(zED u).run Env.nil=zAH u:=by simp only[zED,rn]<;>rfl
def zAl(J:Int->Option ((List V)×Bool))(I:V)(u:Int)(Z:Int):Option ((List V)×Bool):=
(idx I.l u).bind λU=>
bif (U.k !=Z)then(some ([],false))else
J (wi (u+1))
theorem zM0(J:Int->Option ((List V)×Bool))(k1:Unit->Option ((List V)×Bool))(U:V)(u:Int)(I:Int):(zD2 U u I).run ((Env.nil.cons k1).cons J)=zAl J U u I:=by simp only[zD2,rn]<;>rfl
def qL(k1:Unit->Option ((List V)×Bool))(U:List Int)(u:V):Nat->Int->Option ((List V)×Bool)
 |0,_=>none
 |n0+1,I=>
  bif (decide (I<(U.length:Int)))then((idx U I).bind λJ=>
  bif (J==1)then(zAl (λq=>qL k1 U u n0 q) u I J)else
  bif (J==2)then(zAl (λq=>qL k1 U u n0 q) u I J)else
  zAl (λq=>qL k1 U u n0 q) u I J)else
  k1 ()
theorem zNk(k1:Unit->Option ((List V)×Bool))(u:List Int)(I:V):∀n q,lpn (λk (q:Int)=>(zD9 u I q).run ((Env.nil.cons k1).cons k)) n q=qL k1 u I n q:=yS (g:=λn (q:Int)=>qL k1 u I n q) (λ_=>rfl) λn q=>by simp only[zD9,rn,zM0]<;>rfl
theorem zQk(u:V)(I:List Int):zBQ u I=
bif (u.k !=3)then(some ([],false))else
bif ((u.l.length:Int) !=(I.length:Int))then(some ([],false))else
qL (λq=>zAH u) I u (I.length+1) 0:=by simp only[zBQ,zK0,rn,zNG,zNk]<;>rfl
def zCi(I:Y)(J:Y):Nat->Int->Option Bool
 |0,_=>none
 |n0+1,u=>
  bif (decide (u<(I.length:Int)))then((idx I u).bind λU=>
  (idx J u).bind λZ=>
  bif ((U.toNat:Int) !=(Z.toNat:Int))then(some false)else
  zCi I J n0 (wi (u+1)))else
  some true
theorem zS5(I:Y)(u:Y):∀n q,lpn (λk (q:Int)=>(zHZ I u q).run (Env.nil.cons k)) n q=zCi I u n q:=yS (g:=λn (q:Int)=>zCi I u n q) (λ_=>rfl) λn q=>by simp only[zHZ,rn]<;>rfl
theorem zX4(u:Y)(I:Y):zFF u I=
bif ((u.length:Int) !=(I.length:Int))then(some false)else
zCi u I (u.length+1) 0:=by simp only[zFF,zNN,rn,zS5]<;>rfl
def zEh(I:Int)(u:Y):Option (Y×Int):=
bif (decide (I>0))then(some ([],2))else
some (u,0)
theorem zUd(I:Int)(u:Y):(zIs I u).run Env.nil=zEh I u:=by simp only[zIs,rn]<;>rfl
def zCX(k1:(Int×Y)->Option (Y×Int))(U:Int):Nat->Int->Y->Int->Option (Y×Int)
 |0,_,_,_=>none
 |n0+1,J,Z,u=>
  bif (decide (u<U))then((appI 1 Z [(U8 (Int.tmod J 256))]).bind λI=>
  zCX k1 U n0 (wi (Int.tdiv J 256)) I (wi (u+1)))else
  k1 (J,Z)
theorem zUi(k1:(Int×Y)->Option (Y×Int))(u:Int):∀n q,lpn (λk (q:Int×Y×Int)=>(zJe u q.1 q.2.1 q.2.2).run ((Env.nil.cons k1).cons k)) n q=zCX k1 u n q.1 q.2.1 q.2.2:=yS (g:=λn (q:Int×Y×Int)=>zCX k1 u n q.1 q.2.1 q.2.2) (λ_=>rfl) λn q=>by simp only[zJe,rn]<;>rfl
theorem u_R01_Low(I:Int)(u:Int):zMH I u=
bif (decide (u<1))then(some ([],2))else
bif (decide (u>8))then(some ([],2))else
bif (decide (I<0))then(some ([],2))else
bif (decide (I>4611686018427387904))then(some ([],2))else
zCX (λq=>zEh q.1 q.2) u (Int.toNat u+1) I [] 0:=by simp only[zMH,zQU,rn,zUd,zUi]<;>rfl
def zBf(I:Y):Nat->Y->Int->Option Y
 |0,_,_=>none
 |n0+1,J,u=>
  bif (decide (u>=0))then((idx I u).bind λU=>
  (appI 1 J [U]).bind λZ=>
  zBf I n0 Z (wi (u-1)))else
  some J
theorem zPc(u:Y):∀n q,lpn (λk (q:Y×Int)=>(zFU u q.1 q.2).run (Env.nil.cons k)) n q=zBf u n q.1 q.2:=yS (g:=λn (q:Y×Int)=>zBf u n q.1 q.2) (λ_=>rfl) λn q=>by simp only[zFU,rn]<;>rfl
theorem zTy(u:Y):zEb u=
zBf u (Int.toNat (wi ((u.length:Int)-1))+2) [] (wi ((u.length:Int)-1)):=by simp only[zEb,zOB,rn,zPc]<;>rfl
theorem u_R01_Put(J:Int)(I:Int):zEQ J I=
(zMH J I).bind λu=>
(zEb u.1).bind λU=>
some (U,u.2):=by simp only[zEQ,zPn,rn]<;>rfl
def zCW(u:Int):Option (Int×Int):=
some (u,0)
theorem zTu(u:Int):(zJx u).run Env.nil=zCW u:=by simp only[zJx,rn]<;>rfl
def zF5(I:(Int×Int)->Option (Int×Int))(u:Int)(Z:UInt8)(U:Int)(W:Bool)(J:Bool):Option (Int×Int):=
I ((wi ((wi (256*u))+(Z.toNat:Int))),(wi (U+1)))
theorem zUL(J:(Int×Int)->Option (Int×Int))(k1:Int->Option (Int×Int))(I:Int)(W:UInt8)(U:Int)(Z:Bool)(u:Bool):(zJE I W U Z u).run ((Env.nil.cons k1).cons J)=zF5 J I W U Z u:=by simp only[zJE,rn]<;>rfl
def zAR(k1:Int->Option (Int×Int))(U:Y):Nat->Int->Int->Option (Int×Int)
 |0,_,_=>none
 |n0+1,u,J=>
  bif (decide (J<(U.length:Int)))then((idx U J).bind λI=>
  bif (decide (u>18014398509481984))then(some (0,11))else
  bif (u==18014398509481984)then(bif (decide ((I.toNat:Int)>0))then(some (0,11))else
  zF5 (λq=>zAR k1 U n0 q.1 q.2) u I J true (decide ((I.toNat:Int)>0)))else
  zF5 (λq=>zAR k1 U n0 q.1 q.2) u I J false false)else
  k1 u
theorem zTb(k1:Int->Option (Int×Int))(u:Y):∀n q,lpn (λk (q:Int×Int)=>(zJX u q.1 q.2).run ((Env.nil.cons k1).cons k)) n q=zAR k1 u n q.1 q.2:=yS (g:=λn (q:Int×Int)=>zAR k1 u n q.1 q.2) (λ_=>rfl) λn q=>by simp only[zJX,rn,zUL]<;>rfl
theorem u_R01_Get(u:Y):zFs u=
bif ((u.length:Int)==0)then(some (0,10))else
bif (decide ((u.length:Int)>8))then(some (0,2))else
zAR zCW u (u.length+1) 0 0:=by simp only[zFs,zUY,rn,zTu,zTb]<;>rfl
def zDl(u:Int)(I:List V):Option (V×Int×Int):=
some ((V.mk 3 0 [] I),u,0)
theorem zSf(u:Int)(I:List V):(zH1 u I).run Env.nil=zDl u I:=by simp only[zH1,rn]<;>rfl
def zBO(k1:(Int×(List V))->Option (V×Int×Int))(x32:(Int×Int))(self:Y->Int->Int->Option (V×Int×Int))(W:Y)(p2:Int):Nat->Int->List V->Int->Option (V×Int×Int)
 |0,_,_,_=>none
 |n0+1,U,I,J=>
  bif (decide (J<x32.1))then((self W U (wi (p2-1))).bind λu=>
  bif (u.2.2 !=0)then(some ((V.mk 0 0 [] []),0,u.2.2))else
  (appI 64 I [u.1]).bind λZ=>
  zBO k1 x32 self W p2 n0 u.2.1 Z (wi (J+1)))else
  k1 (U,I)
theorem zSR(k1:(Int×(List V))->Option (V×Int×Int))(x32:(Int×Int))(self:Y->Int->Int->Option (V×Int×Int))(J:Y)(I:Int)(u:(zD6 self)):∀n q,lpn (λk (q:Int×(List V)×Int)=>(zHt x32 self J I u q.1 q.2.1 q.2.2).run ((Env.nil.cons k1).cons k)) n q=zBO k1 x32 self J I n q.1 q.2.1 q.2.2:=yS (g:=λn (q:Int×(List V)×Int)=>zBO k1 x32 self J I n q.1 q.2.1 q.2.2) (λ_=>rfl) λn q=>by simp only[zHt,rn]<;>rfl
theorem zYD(k0:Nat)(I:Y)(u:Int)(W:Int):zBC (k0+1) I u W=
bif (decide (u>=(I.length:Int)))then(some ((V.mk 0 0 [] []),0,10))else
(idx I u).bind λx2=>
bif ((x2.toNat:Int)==1)then(bif (decide ((wi (u+1))>=(I.length:Int)))then(some ((V.mk 0 0 [] []),0,10))else
(idx I (wi (u+1))).bind λZ=>
bif (decide ((Z.toNat:Int)>8))then(some ((V.mk 0 0 [] []),0,11))else
bif (decide ((Z.toNat:Int)>(wi ((I.length:Int)-(wi ((wi (u+1))+1))))))then(some ((V.mk 0 0 [] []),0,10))else
bif ((Z.toNat:Int)==0)then(some ((V.mk 1 0 [] []),(wi ((wi (u+1))+1)),0))else
(cutI I (wi ((wi (u+1))+1)) (wi ((wi ((wi (u+1))+1))+(Z.toNat:Int)))).bind λβ=>
(zFs β).bind λU=>
bif (U.2 !=0)then(some ((V.mk 0 0 [] []),0,11))else
(idx I (wi ((wi (u+1))+1))).bind λγ=>
bif ((γ.toNat:Int)==0)then(some ((V.mk 0 0 [] []),0,11))else
some ((V.mk 1 U.1 [] []),(wi ((wi ((wi (u+1))+1))+(Z.toNat:Int))),0))else
bif ((x2.toNat:Int)==2)then(bif (decide ((wi ((I.length:Int)-(wi (u+1))))<3))then(some ((V.mk 0 0 [] []),0,10))else
(cutI I (wi (u+1)) (wi ((wi (u+1))+3))).bind λδ=>
(zFs δ).bind λJ=>
bif (decide (J.1>(wi ((I.length:Int)-(wi ((wi (u+1))+3))))))then(some ((V.mk 0 0 [] []),0,10))else
(cutI I (wi ((wi (u+1))+3)) (wi ((wi ((wi (u+1))+3))+J.1))).bind λα=>
some ((V.mk 2 0 α []),(wi ((wi ((wi (u+1))+3))+J.1)),0))else
bif ((x2.toNat:Int) !=3)then(some ((V.mk 0 0 [] []),0,11))else
bif (decide ((wi ((I.length:Int)-(wi (u+1))))<2))then(some ((V.mk 0 0 [] []),0,10))else
(cutI I (wi (u+1)) (wi ((wi (u+1))+2))).bind λε=>
(zFs ε).bind λx32=>
bif (decide (x32.1>4096))then(some ((V.mk 0 0 [] []),0,11))else
bif (W==0)then(some ((V.mk 0 0 [] []),0,11))else
zBO (λq=>zDl q.1 q.2) x32 (zBC k0) I W (Int.toNat x32.1+1) (wi ((wi (u+1))+2)) [] 0:=by show(zKJ (zBC k0) (zPs k0) I u W).run Env.nil=_;simp only[zKJ,rn,zSf,zSR]<;>rfl
theorem zUr(I:Y):zEc I=
bif (decide ((I.length:Int)>1048576))then(some ((V.mk 0 0 [] []),3))else
(zBC (Int.toNat 16+1) I 0 16).bind λu=>
bif (u.2.2 !=0)then(some ((V.mk 0 0 [] []),u.2.2))else
bif (decide (u.2.1<(I.length:Int)))then(some ((V.mk 0 0 [] []),12))else
some (u.1,0):=by simp only[zEc,zN8,rn]<;>rfl
def zB8(I:V)(u:Int):Option Y:=
bif (decide (u>0))then((zEQ I.n u).bind λJ=>
(appI 1 [1,(U8 u)] J.1).bind λU=>
some U)else
some [1,(U8 u)]
theorem zQz(I:V)(u:Int):(zGS I u).run Env.nil=zB8 I u:=by simp only[zGS,rn]<;>rfl
def zBR(k1:Int->Option Y):Nat->Int->Int->Option Y
 |0,_,_=>none
 |n0+1,I,u=>
  bif (decide (u>0))then(zBR k1 n0 (wi (I+1)) (wi (Int.tdiv u 256)))else
  k1 I
theorem zQx(k1:Int->Option Y):∀n q,lpn (λk (q:Int×Int)=>(zGi q.1 q.2).run ((Env.nil.cons k1).cons k)) n q=zBR k1 n q.1 q.2:=yS (g:=λn (q:Int×Int)=>zBR k1 n q.1 q.2) (λ_=>rfl) λn q=>by simp only[zGi,rn]<;>rfl
def zBP(U:V)(self:V->Option Y):Nat->Y->Int->Option Y
 |0,_,_=>none
 |n0+1,I,u=>
  bif (decide (u<(U.l.length:Int)))then((idx U.l u).bind λJ=>
  (self J).bind λW=>
  (appI 1 I W).bind λZ=>
  zBP U self n0 Z (wi (u+1)))else
  some I
theorem zRQ(I:V)(self:V->Option Y)(u:(zC9 self)):∀n q,lpn (λk (q:Y×Int)=>(zGX I self u q.1 q.2).run (Env.nil.cons k)) n q=zBP I self n q.1 q.2:=yS (g:=λn (q:Y×Int)=>zBP I self n q.1 q.2) (λ_=>rfl) λn q=>by simp only[zGX,rn]<;>rfl
theorem zVo(I:Nat)(u:V):zBS (I+1) u=
bif (u.k==1)then(zBR (zB8 u) (70) 0 u.n)else
bif (u.k==2)then((zEQ (u.b.length:Int) 3).bind λU=>
(appI 1 [2] U.1).bind λW=>
(appI 1 W u.b).bind λZ=>
some Z)else
(zEQ (u.l.length:Int) 2).bind λα=>
(appI 1 [3] α.1).bind λJ=>
zBP u (zBS I) (u.l.length+1) J 0:=by show(zHm (zBS I) (zOF I) u).run Env.nil=_;simp only[zHm,rn,zQz,zQx,zRQ]<;>rfl
def zAL(I:List Int)(J:V):Nat->Int->Option Bool
 |0,_=>none
 |n0+1,u=>
  bif (decide (u<(I.length:Int)))then((idx J.l u).bind λZ=>
  (idx I u).bind λU=>
  bif (Z.k !=U)then(some false)else
  zAL I J n0 (wi (u+1)))else
  some true
theorem zQv(u:List Int)(I:V):∀n q,lpn (λk (q:Int)=>(zGT u I q).run (Env.nil.cons k)) n q=zAL u I n q:=yS (g:=λn (q:Int)=>zAL u I n q) (λ_=>rfl) λn q=>by simp only[zGT,rn]<;>rfl
theorem zVb(I:V)(u:List Int):zDJ I u=
bif (I.k !=3)then(some false)else
bif ((I.l.length:Int) !=(u.length:Int))then(some false)else
zAL u I (u.length+1) 0:=by simp only[zDJ,zPx,rn,zQv]<;>rfl
theorem zMP(u:List V):zGB u=
some (V.mk 3 0 [] u):=by simp only[zGB,zXS,rn]<;>rfl
theorem zFW(u:Int):zCz u=
some (V.mk 1 u [] []):=by simp only[zCz,zUS,rn]<;>rfl
theorem zJO(u:Y):zES u=
some (V.mk 2 0 u []):=by simp only[zES,zTo,rn]<;>rfl
def zAV:Nat->Y->Option Y
 |0,_=>none
 |n0+1,u=>
  bif (decide ((u.length:Int)>0))then((idx u 0).bind λJ=>
  bif ((J.toNat:Int)==0)then((cutI u 1 (u.length:Int)).bind λI=>
  zAV n0 I)else
  some u)else
  some u
theorem zOX:∀n q,lpn (λk (q:Y)=>(zEs q).run (Env.nil.cons k)) n q=zAV n q:=yS (g:=λn (q:Y)=>zAV n q) (λ_=>rfl) λn q=>by simp only[zEs,rn]<;>rfl
theorem zST(I:Int):zBm I=
(zAG I 8).bind λu=>
zAV (u.1.length+1) u.1:=by simp only[zBm,zMi,rn,zOX]<;>rfl
def zA5(I:Bool)(J:Bool)(u:Bool):Option Bool:=
bif I then(bif J then(some u)else
some false)else
some false
theorem zQZ(I:Bool)(J:Bool)(u:Bool):(zFV I J u).run Env.nil=zA5 I J u:=by simp only[zFV,rn]<;>rfl
theorem zU1(u:V):zEV u=
bif (u.k==1)then(bif (decide (u.n>=0))then(zA5 (decide (u.n<=4611686018427387904)) ((u.b.length:Int)==0) ((u.l.length:Int)==0))else
zA5 false ((u.b.length:Int)==0) ((u.l.length:Int)==0))else
bif (u.k==2)then(zA5 (u.n==0) (decide ((u.b.length:Int)<=1048576)) ((u.l.length:Int)==0))else
bif (u.k==3)then(zA5 (u.n==0) ((u.b.length:Int)==0) (decide ((u.l.length:Int)<=4096)))else
some false:=by simp only[zEV,zN6,rn,zQZ]<;>rfl
def zCL(u:Int):Option (Int×Bool):=
some (u,true)
theorem zME(u:Int):(zDW u).run Env.nil=zCL u:=by simp only[zDW,rn]<;>rfl
def yU(k1:Int->Option (Int×Bool))(U:V)(self:V->Int->Int->Option (Int×Bool))(W:Int)(p2:Int):Nat->Int->Int->Option (Int×Bool)
 |0,_,_=>none
 |n0+1,I,u=>
  bif (decide (u<(U.l.length:Int)))then((idx U.l u).bind λZ=>
  (self Z (wi (W-I)) (wi (p2-1))).bind λJ=>
  bif (!J.2)then(some (0,false))else
  yU k1 U self W p2 n0 (wi (I+J.1)) (wi (u+1)))else
  k1 I
theorem zMA(k1:Int->Option (Int×Bool))(U:V)(self:V->Int->Int->Option (Int×Bool))(I:Int)(J:Int)(u:(zAx self)):∀n q,lpn (λk (q:Int×Int)=>(zDV U self I J u q.1 q.2).run ((Env.nil.cons k1).cons k)) n q=yU k1 U self I J n q.1 q.2:=yS (g:=λn (q:Int×Int)=>yU k1 U self I J n q.1 q.2) (λ_=>rfl) λn q=>by simp only[zDV,rn]<;>rfl
theorem zJ9(U:Nat)(u:V)(J:Int)(I:Int):zAO (U+1) u J I=
(zEV u).bind λZ=>
bif (!Z)then(some (0,false))else
bif (decide (J<0))then(some (0,false))else
bif (decide (I<0))then(some (0,false))else
bif (u.k==1)then((zBm u.n).bind λW=>
some ((wi (2+(W.length:Int))),true))else
bif (u.k==2)then(some ((wi (4+(u.b.length:Int))),true))else
bif (I==0)then(some (0,false))else
yU zCL u (zAO U) J I (u.l.length+1) 3 0:=by show(zDY (zAO U) (zH9 U) u J I).run Env.nil=_;simp only[zDY,rn,zME,zMA]<;>rfl
theorem zUu(I:V):zEW I=
(zAO (Int.toNat 16+1) I 1048576 16).bind λu=>
bif (!u.2)then(some (0,false))else
bif (decide (u.1>1048576))then(some (0,false))else
some (u.1,true):=by simp only[zEW,zN7,rn]<;>rfl
def zAh(J:V)(self:Y->V->Option Y):Nat->Y->Int->Option Y
 |0,_,_=>none
 |n0+1,I,u=>
  bif (decide (u<(J.l.length:Int)))then((idx J.l u).bind λU=>
  (self I U).bind λZ=>
  zAh J self n0 Z (wi (u+1)))else
  some I
theorem zQn(I:V)(self:Y->V->Option Y)(u:(zDC self)):∀n q,lpn (λk (q:Y×Int)=>(zGW I self u q.1 q.2).run (Env.nil.cons k)) n q=zAh I self n q.1 q.2:=yS (g:=λn (q:Y×Int)=>zAh I self n q.1 q.2) (λ_=>rfl) λn q=>by simp only[zGW,rn]<;>rfl
theorem zQE(J:Nat)(I:Y)(u:V):zAv (J+1) I u=
bif (u.k==1)then((zBm u.n).bind λx2=>
(appI 1 I [1,(U8 (x2.length:Int))]).bind λx4=>
(appI 1 x4 x2).bind λx6=>
some x6)else
bif (u.k==2)then((zAG (u.b.length:Int) 3).bind λx9=>
(appI 1 I [2]).bind λZ=>
(appI 1 Z x9.1).bind λγ=>
(appI 1 γ u.b).bind λα=>
some α)else
(zAG (u.l.length:Int) 2).bind λβ=>
(appI 1 I [3]).bind λU=>
(appI 1 U β.1).bind λW=>
zAh u (zAv J) (u.l.length+1) W 0:=by show(zHO (zAv J) (zOH J) I u).run Env.nil=_;simp only[zHO,rn,zQn]<;>rfl
def zAt(U:V):Nat->Y->Int->Option Y
 |0,_,_=>none
 |n0+1,J,u=>
  bif (decide (u<(U.l.length:Int)))then((idx U.l u).bind λI=>
  (zAv (V.ht I) J I).bind λZ=>
  zAt U n0 Z (wi (u+1)))else
  some J
theorem zMz(u:V):∀n q,lpn (λk (q:Y×Int)=>(zD7 u q.1 q.2).run (Env.nil.cons k)) n q=zAt u n q.1 q.2:=yS (g:=λn (q:Y×Int)=>zAt u n q.1 q.2) (λ_=>rfl) λn q=>by simp only[zD7,rn]<;>rfl
theorem zRD(u:V):zCB u=
bif (u.k==1)then((zBm u.n).bind λx2=>
(appI 1 [] [1,(U8 (x2.length:Int))]).bind λx4=>
(appI 1 x4 x2).bind λx6=>
some x6)else
bif (u.k==2)then((zAG (u.b.length:Int) 3).bind λx9=>
(appI 1 [] [2]).bind λJ=>
(appI 1 J x9.1).bind λα=>
(appI 1 α u.b).bind λZ=>
some Z)else
(zAG (u.l.length:Int) 2).bind λW=>
(appI 1 [] [3]).bind λI=>
(appI 1 I W.1).bind λU=>
zAt u (u.l.length+1) U 0:=by simp only[zCB,zKp,rn,zMz]<;>rfl
theorem zQu(u:V):zB7 u=
(zEW u).bind λI=>
bif (!I.2)then(some ([],2))else
(zCB u).bind λJ=>
some (J,0):=by simp only[zB7,zK6,rn]<;>rfl
theorem zTK(I:Y):zBF I=
(strB I).bind λJ=>
(zDE J).bind λu=>
some (V.mk u.k u.n u.b []):=by simp only[zBF,zLz,rn]<;>rfl
def zC4(u:Y):Option Bool:=
bif (decide ((u.length:Int)>=1))then(some (decide ((u.length:Int)<=12)))else
some false
theorem zQ3(u:Y):(zGg u).run Env.nil=zC4 u:=by simp only[zGg,rn]<;>rfl
def zAN(k1:Unit->Option Bool)(J:Y):Nat->Int->Option Bool
 |0,_=>none
 |n0+1,I=>
  bif (decide (I<(J.length:Int)))then((idx J I).bind λu=>
  bif (decide ((u.toNat:Int)<97))then(bif (decide ((u.toNat:Int)<48))then(some false)else
  bif (decide ((u.toNat:Int)>57))then(some false)else
  zAN k1 J n0 (wi (I+1)))else
  bif (decide ((u.toNat:Int)>122))then(bif (decide ((u.toNat:Int)<48))then(some false)else
  bif (decide ((u.toNat:Int)>57))then(some false)else
  zAN k1 J n0 (wi (I+1)))else
  zAN k1 J n0 (wi (I+1)))else
  k1 ()
theorem zRN(k1:Unit->Option Bool)(u:Y):∀n q,lpn (λk (q:Int)=>(zGj u q).run ((Env.nil.cons k1).cons k)) n q=zAN k1 u n q:=yS (g:=λn (q:Int)=>zAN k1 u n q) (λ_=>rfl) λn q=>by simp only[zGj,rn]<;>rfl
theorem zVZ(u:Y):zEC u=
zAN (λq=>zC4 u) u (u.length+1) 0:=by simp only[zEC,zPq,rn,zQ3,zRN]<;>rfl
def zE9(I:Int->Option Bool)(u:Int):Option Bool:=
I (wi (u+1))
theorem zSH(I:Int->Option Bool)(u:Int):(zHK u).run (Env.nil.cons I)=zE9 I u:=by simp only[zHK,rn]<;>rfl
def zE6(u:Unit->Option Bool)(J:Bool)(I:Bool):Option Bool:=
bif (!J)then(bif (!I)then(some false)else
u ())else
u ()
theorem zS9(J:Unit->Option Bool)(k1:Int->Option Bool)(I:Bool)(u:Bool):(zH2 I u).run ((Env.nil.cons k1).cons J)=zE6 J I u:=by simp only[zH2,rn]<;>rfl
def zFE(J:Unit->Option Bool)(I:Y)(U:Int)(Z:Bool):Option Bool:=
(idx I U).bind λW=>
bif (decide ((W.toNat:Int)>=48))then((idx I U).bind λu=>
zE6 J Z (decide ((u.toNat:Int)<=57)))else
zE6 J Z false
theorem zSo(J:Unit->Option Bool)(k1:Int->Option Bool)(U:Y)(u:Int)(I:Bool):(zHk U u I).run ((Env.nil.cons k1).cons J)=zFE J U u I:=by simp only[zHk,rn,zS9]<;>rfl
def zAf(I:Y):Nat->Int->Option Bool
 |0,_=>none
 |n0+1,u=>
  bif (decide (u<(I.length:Int)))then((idx I u).bind λU=>
  bif (decide ((U.toNat:Int)>=97))then((idx I u).bind λJ=>
  zFE (λq=>zE9 (λq=>zAf I n0 q) u) I u (decide ((J.toNat:Int)<=122)))else
  zFE (λq=>zE9 (λq=>zAf I n0 q) u) I u false)else
  some true
theorem zSc(u:Y):∀n q,lpn (λk (q:Int)=>(zHv u q).run (Env.nil.cons k)) n q=zAf u n q:=yS (g:=λn (q:Int)=>zAf u n q) (λ_=>rfl) λn q=>by simp only[zHv,rn,zSH,zSo]<;>rfl
theorem zYK(u:Y):zG5 u=
bif (decide ((u.length:Int)<1))then(some false)else
bif (decide ((u.length:Int)>12))then(some false)else
zAf u (u.length+1) 0:=by simp only[zG5,zRb,rn,zSc]<;>rfl
def zEA(u:List zJ):Option Bool:=
some (decide ((u.length:Int)<=64))
theorem zNh(u:List zJ):(zDy u).run Env.nil=zEA u:=by simp only[zDy,rn]<;>rfl
def zAJ(k1:Unit->Option Bool)(J:List zJ):Nat->Int->Option Bool
 |0,_=>none
 |n0+1,I=>
  bif (decide (I<(J.length:Int)))then((idx J I).bind λu=>
  bif (decide ((u.Key.length:Int)>40))then(some false)else
  bif (decide ((mi3 u.Kind u.Version u.Size)<0))then(some false)else
  bif (decide ((ma3 u.Kind u.Version u.Size)>4611686018427387904))then(some false)else
  zAJ k1 J n0 (wi (I+1)))else
  k1 ()
theorem zNL(k1:Unit->Option Bool)(u:List zJ):∀n q,lpn (λk (q:Int)=>(zDv u q).run ((Env.nil.cons k1).cons k)) n q=zAJ k1 u n q:=yS (g:=λn (q:Int)=>zAJ k1 u n q) (λ_=>rfl) λn q=>by simp only[zDv,rn]<;>rfl
theorem zRU(u:List zJ):zB4 u=
zAJ (λq=>zEA u) u (u.length+1) 0:=by simp only[zB4,zK7,rn,zNh,zNL]<;>rfl
def zC8(u:List zF):Option Bool:=
some (decide ((u.length:Int)<=64))
theorem zLi(u:List zF):(zDA u).run Env.nil=zC8 u:=by simp only[zDA,rn]<;>rfl
def yN(k1:Unit->Option Bool)(J:List zF):Nat->Int->Option Bool
 |0,_=>none
 |n0+1,I=>
  bif (decide (I<(J.length:Int)))then((idx J I).bind λu=>
  bif (decide ((u.Key.length:Int)>40))then(some false)else
  bif (decide ((if u.Version<u.Kind then u.Version else u.Kind)<0))then(some false)else
  bif (decide ((if u.Version>u.Kind then u.Version else u.Kind)>4611686018427387904))then(some false)else
  bif (decide ((u.Data.length:Int)>1024))then(some false)else
  yN k1 J n0 (wi (I+1)))else
  k1 ()
theorem zLF(k1:Unit->Option Bool)(u:List zF):∀n q,lpn (λk (q:Int)=>(zDD u q).run ((Env.nil.cons k1).cons k)) n q=yN k1 u n q:=yS (g:=λn (q:Int)=>yN k1 u n q) (λ_=>rfl) λn q=>by simp only[zDD,rn]<;>rfl
theorem zOV(u:List zF):zBD u=
yN (λq=>zC8 u) u (u.length+1) 0:=by simp only[zBD,zII,rn,zLi,zLF]<;>rfl
def zDQ(u:zB):Option Bool:=
bif (u.Kind==3)then((zB4 u.Wants).bind λU=>
bif U then((zBD u.Changes).bind λJ=>
some J)else
some false)else
bif ((u.Wants.length:Int)==0)then((zB4 u.Wants).bind λZ=>
bif Z then((zBD u.Changes).bind λI=>
some I)else
some false)else
some false
theorem zQG(u:zB):(zFr u).run Env.nil=zDQ u:=by simp only[zFr,rn]<;>rfl
def yL(I:Unit->Option Bool)(u:zB)(J:Bool):Option Bool:=
bif J then(some false)else
bif (u.Kind==4)then(bif (decide (u.Number<1))then(some false)else
bif (decide (u.Number>1099511627776))then(some false)else
bif (u.Kind !=4)then(bif (u.Number !=0)then(some false)else
bif (decide ((u.Changes.length:Int)>0))then(some false)else
I ())else
I ())else
bif (u.Kind !=4)then(bif (u.Number !=0)then(some false)else
bif (decide ((u.Changes.length:Int)>0))then(some false)else
I ())else
I ()
theorem zPl(I:Unit->Option Bool)(J:zB)(u:Bool):(zFb J u).run (Env.nil.cons I)=yL I J u:=by simp only[zFb,rn]<;>rfl
def zDh(I:Unit->Option Bool)(u:zB)(Z:Bool)(U:Bool):Option Bool:=
bif U then(some false)else
bif Z then(bif (decide ((u.Key.length:Int)>40))then(yL I u true)else
bif (!(u.User==[]))then(yL I u true)else
bif (!Z)then(bif (!(u.Key==[]))then(yL I u true)else
(zEC u.User).bind λx32=>
yL I u (!x32))else
yL I u false)else
bif (!Z)then(bif (!(u.Key==[]))then(yL I u true)else
(zEC u.User).bind λJ=>
yL I u (!J))else
yL I u false
theorem zPy(J:Unit->Option Bool)(U:zB)(I:Bool)(u:Bool):(zFZ U I u).run (Env.nil.cons J)=zDh J U I u:=by simp only[zFZ,rn,zPl]<;>rfl
def zDk(u:zB)(I:Bool):Option Bool:=
bif (decide (u.Kind<1))then(zDh (λq=>zDQ u) u I true)else
zDh (λq=>zDQ u) u I (decide (u.Kind>4))
theorem zQX(I:zB)(u:Bool):(zFd I u).run Env.nil=zDk I u:=by simp only[zFd,rn,zQG,zPy]<;>rfl
theorem zTf(u:zB):zCS u=
bif (u.Kind==1)then(zDk u true)else
zDk u (u.Kind==2):=by simp only[zCS,zNy,rn,zQX]<;>rfl
def zEG(p0:zB)(x4:V)(y8:List V)(x6:V)(y9:List V):Option (Y×Int):=
(zAW p0.Kind).bind λU=>
(zBF p0.User).bind λu=>
(zAW p0.Number).bind λW=>
(zBF p0.Key).bind λI=>
(zFI [(V.mk U.k U.n [] []),(V.mk u.k u.n u.b []),(V.mk W.k W.n [] []),(V.mk I.k I.n I.b []),(V.mk x4.k x4.n [] y8),(V.mk x6.k x6.n [] y9)]).bind λJ=>
(zB7 (V.mk J.k J.n [] J.l)).bind λZ=>
some (Z.1,Z.2)
theorem zNt(u:zB)(I:V)(Z:List V)(J:V)(U:List V):(zEH u I Z J U).run Env.nil=zEG u I Z J U:=by simp only[zEH,rn]<;>rfl
def yQ(k1:(List V)->Option (Y×Int))(p0:zB):Nat->List V->Int->Option (Y×Int)
 |0,_,_=>none
 |n0+1,W,I=>
  bif (decide (I<(p0.Changes.length:Int)))then((idx p0.Changes I).bind λu=>
  (zAW u.Kind).bind λβ=>
  (zBF u.Key).bind λJ=>
  (zAW u.Version).bind λα=>
  (zDE u.Data).bind λZ=>
  (zFI [(V.mk β.k β.n [] []),(V.mk J.k J.n J.b []),(V.mk α.k α.n [] []),(V.mk Z.k Z.n Z.b [])]).bind λU=>
  (appI 64 W [(V.mk U.k U.n [] U.l)]).bind λγ=>
  yQ k1 p0 n0 γ (wi (I+1)))else
  k1 W
theorem zNj(k1:(List V)->Option (Y×Int))(u:zB):∀n q,lpn (λk (q:(List V)×Int)=>(zEF u q.1 q.2).run ((Env.nil.cons k1).cons k)) n q=yQ k1 u n q.1 q.2:=yS (g:=λn (q:(List V)×Int)=>yQ k1 u n q.1 q.2) (λ_=>rfl) λn q=>by simp only[zEF,rn]<;>rfl
def zEB(u:zB)(U:V)(J:V)(I:List V):Option (Y×Int):=
yQ (zEG u U I J) u (u.Changes.length+1) [] 0
theorem zNl(U:zB)(J:V)(I:V)(u:List V):(zDu U J I u).run Env.nil=zEB U J I u:=by simp only[zDu,rn,zNt,zNj]<;>rfl
def yP(k1:(List V)->Option (Y×Int))(p0:zB):Nat->List V->Int->Option (Y×Int)
 |0,_,_=>none
 |n0+1,W,U=>
  bif (decide (U<(p0.Wants.length:Int)))then((idx p0.Wants U).bind λu=>
  (zAW u.Kind).bind λZ=>
  (zBF u.Key).bind λJ=>
  (zAW u.Version).bind λα=>
  (zAW u.Size).bind λβ=>
  (zFI [(V.mk Z.k Z.n [] []),(V.mk J.k J.n J.b []),(V.mk α.k α.n [] []),(V.mk β.k β.n [] [])]).bind λI=>
  (appI 64 W [(V.mk I.k I.n [] I.l)]).bind λγ=>
  yP k1 p0 n0 γ (wi (U+1)))else
  k1 W
theorem zNP(k1:(List V)->Option (Y×Int))(u:zB):∀n q,lpn (λk (q:(List V)×Int)=>(zDz u q.1 q.2).run ((Env.nil.cons k1).cons k)) n q=yP k1 u n q.1 q.2:=yS (g:=λn (q:(List V)×Int)=>yP k1 u n q.1 q.2) (λ_=>rfl) λn q=>by simp only[zDz,rn]<;>rfl
theorem zKt(u:zB):zB6 u=
(zCS u).bind λJ=>
bif (!J)then(some ([],2))else
(zAa).bind λU=>
(zAa).bind λI=>
yP (zEB u U I) u (u.Wants.length+1) [] 0:=by simp only[zB6,zKx,rn,zNl,zNP]<;>rfl
def zEq(x7:V)(W:V)(u:V)(J:V)(I:List zJ)(U:List zF):Option (zB×Int):=
(zCS (zB.mk x7.n W.b u.n J.b I U)).bind λZ=>
bif (!Z)then(some ((zB.mk 0 [] 0 [] [] []),13))else
some ((zB.mk x7.n W.b u.n J.b I U),0)
theorem zOq(W:V)(Z:V)(u:V)(J:V)(I:List zJ)(U:List zF):(zEl W Z u J I U).run Env.nil=zEq W Z u J I U:=by simp only[zEl,rn]<;>rfl
def yY(k1:(List zF)->Option (zB×Int))(I:V):Nat->List zF->Int->Option (zB×Int)
 |0,_,_=>none
 |n0+1,U,J=>
  bif (decide (J<(I.l.length:Int)))then((idx I.l J).bind λW=>
  (zBQ W [1,2,1,2]).bind λu=>
  bif (!u.2)then(some ((zB.mk 0 [] 0 [] [] []),13))else
  (idx u.1 0).bind λα=>
  (idx u.1 1).bind λx32=>
  (idx u.1 2).bind λγ=>
  (idx u.1 3).bind λZ=>
  (appI 56 U [(zF.mk α.n x32.b γ.n Z.b)]).bind λβ=>
  yY k1 I n0 β (wi (J+1)))else
  k1 U
theorem zOn(k1:(List zF)->Option (zB×Int))(u:V):∀n q,lpn (λk (q:(List zF)×Int)=>(zEm u q.1 q.2).run ((Env.nil.cons k1).cons k)) n q=yY k1 u n q.1 q.2:=yS (g:=λn (q:(List zF)×Int)=>yY k1 u n q.1 q.2) (λ_=>rfl) λn q=>by simp only[zEm,rn]<;>rfl
def zEo(x7:V)(W:V)(I:V)(U:V)(Z:((List V)×Bool))(J:List zJ):Option (zB×Int):=
(idx Z.1 5).bind λu=>
yY (zEq x7 W I U J) u (u.l.length+1) [] 0
theorem zOv(W:V)(Z:V)(u:V)(J:V)(U:((List V)×Bool))(I:List zJ):(zEr W Z u J U I).run Env.nil=zEo W Z u J U I:=by simp only[zEr,rn,zOq,zOn]<;>rfl
def zAB(k1:(List zJ)->Option (zB×Int))(J:V):Nat->List zJ->Int->Option (zB×Int)
 |0,_,_=>none
 |n0+1,U,I=>
  bif (decide (I<(J.l.length:Int)))then((idx J.l I).bind λδ=>
  (zBQ δ [1,2,1,1]).bind λu=>
  bif (!u.2)then(some ((zB.mk 0 [] 0 [] [] []),13))else
  (idx u.1 0).bind λγ=>
  (idx u.1 1).bind λZ=>
  (idx u.1 2).bind λα=>
  (idx u.1 3).bind λβ=>
  (appI 40 U [(zJ.mk γ.n Z.b α.n β.n)]).bind λW=>
  zAB k1 J n0 W (wi (I+1)))else
  k1 U
theorem zOY(k1:(List zJ)->Option (zB×Int))(u:V):∀n q,lpn (λk (q:(List zJ)×Int)=>(zEu u q.1 q.2).run ((Env.nil.cons k1).cons k)) n q=zAB k1 u n q.1 q.2:=yS (g:=λn (q:(List zJ)×Int)=>zAB k1 u n q.1 q.2) (λ_=>rfl) λn q=>by simp only[zEu,rn]<;>rfl
theorem zTP(Z:Y):zAd Z=
(zC0 Z).bind λW=>
bif (W.2 !=0)then(some ((zB.mk 0 [] 0 [] [] []),13))else
(zBQ W.1 [1,2,1,2,3,3]).bind λu=>
bif (!u.2)then(some ((zB.mk 0 [] 0 [] [] []),13))else
(idx u.1 0).bind λx7=>
(idx u.1 1).bind λx9=>
(idx u.1 2).bind λJ=>
(idx u.1 3).bind λU=>
(idx u.1 4).bind λI=>
zAB (zEo x7 x9 J U u) I (I.l.length+1) [] 0:=by simp only[zAd,zH3,rn,zOv,zOY]<;>rfl
theorem zUH(u:Int):zBN u=
bif (decide (u>=0))then(some (decide (u<=4611686018427387904)))else
some false:=by simp only[zBN,zOE,rn]<;>rfl
def zBh(J:zB):Nat->Int->Option Bool
 |0,_=>none
 |n0+1,I=>
  bif (decide (I<(J.Wants.length:Int)))then((idx J.Wants I).bind λu=>
  bif (decide ((u.Key.length:Int)>40))then(some false)else
  (zBN u.Kind).bind λU=>
  bif (!U)then(some false)else
  (zBN u.Version).bind λZ=>
  bif (!Z)then(some false)else
  (zBN u.Size).bind λW=>
  bif (!W)then(some false)else
  zBh J n0 (wi (I+1)))else
  some true
theorem zUw(u:zB):∀n q,lpn (λk (q:Int)=>(zI8 u q).run (Env.nil.cons k)) n q=zBh u n q:=yS (g:=λn (q:Int)=>zBh u n q) (λ_=>rfl) λn q=>by simp only[zI8,rn]<;>rfl
def zBk(Z:zB):Nat->Int->Option Bool
 |0,_=>none
 |n0+1,I=>
  bif (decide (I<(Z.Changes.length:Int)))then((idx Z.Changes I).bind λu=>
  bif (decide ((u.Key.length:Int)>40))then(some false)else
  (zBN u.Kind).bind λJ=>
  bif (!J)then(some false)else
  (zBN u.Version).bind λU=>
  bif (!U)then(some false)else
  bif (decide ((u.Data.length:Int)>1024))then(some false)else
  zBk Z n0 (wi (I+1)))else
  some true
theorem zTm(u:zB):∀n q,lpn (λk (q:Int)=>(zIr u q).run (Env.nil.cons k)) n q=zBk u n q:=yS (g:=λn (q:Int)=>zBk u n q) (λ_=>rfl) λn q=>by simp only[zIr,rn]<;>rfl
theorem u_R36_May(u:zB):zFg u=
bif (decide (u.Kind<1))then(some false)else
bif (decide (u.Kind>4))then(some false)else
bif (decide (u.Kind<=2))then(bif (decide ((u.Key.length:Int)<=40))then(bif (u.User==[])then(bif (u.Number==0)then(bif ((u.Wants.length:Int)==0)then(some ((u.Changes.length:Int)==0))else
some false)else
some false)else
some false)else
some false)else
(zG5 u.User).bind λI=>
bif (!I)then(some false)else
bif (!(u.Key==[]))then(some false)else
bif (u.Kind==3)then(bif (u.Number !=0)then(some false)else
bif (decide ((u.Changes.length:Int)>0))then(some false)else
bif (decide ((u.Wants.length:Int)>64))then(some false)else
zBh u (u.Wants.length+1) 0)else
bif (decide (u.Number<1))then(some false)else
bif (decide (u.Number>1099511627776))then(some false)else
bif (decide ((u.Wants.length:Int)>0))then(some false)else
bif (decide ((u.Changes.length:Int)>64))then(some false)else
zBk u (u.Changes.length+1) 0:=by simp only[zFg,zU4,rn,zUw,zTm]<;>rfl
def zGH(Z:zB)(y1:List V)(y2:List V):Option Y:=
(zCz Z.Kind).bind λx3=>
(strB Z.User).bind λx5=>
(zES x5).bind λx7=>
(zCz Z.Number).bind λx9=>
(strB Z.Key).bind λW=>
(zES W).bind λU=>
(zGB y1).bind λI=>
(zGB y2).bind λJ=>
(zGB [(V.mk x3.k x3.n [] []),(V.mk x7.k x7.n x7.b []),(V.mk x9.k x9.n [] []),(V.mk U.k U.n U.b []),(V.mk I.k I.n [] I.l),(V.mk J.k J.n [] J.l)]).bind λu=>
(zBS (V.ht (V.mk u.k u.n [] u.l)) (V.mk u.k u.n [] u.l)).bind λα=>
some α
theorem zRV(J:zB)(u:List V)(I:List V):(zGk J u I).run Env.nil=zGH J u I:=by simp only[zGk,rn]<;>rfl
def zAi(k1:(List V)->Option Y)(p0:zB):Nat->List V->Int->Option Y
 |0,_,_=>none
 |n0+1,Z,U=>
  bif (decide (U<(p0.Changes.length:Int)))then((idx p0.Changes U).bind λu=>
  (zCz u.Kind).bind λα=>
  (strB u.Key).bind λβ=>
  (zES β).bind λx32=>
  (zCz u.Version).bind λW=>
  (zES u.Data).bind λI=>
  (zGB [(V.mk α.k α.n [] []),(V.mk x32.k x32.n x32.b []),(V.mk W.k W.n [] []),(V.mk I.k I.n I.b [])]).bind λJ=>
  (appI 64 Z [(V.mk J.k J.n [] J.l)]).bind λγ=>
  zAi k1 p0 n0 γ (wi (U+1)))else
  k1 Z
theorem zQm(k1:(List V)->Option Y)(u:zB):∀n q,lpn (λk (q:(List V)×Int)=>(zGf u q.1 q.2).run ((Env.nil.cons k1).cons k)) n q=zAi k1 u n q.1 q.2:=yS (g:=λn (q:(List V)×Int)=>zAi k1 u n q.1 q.2) (λ_=>rfl) λn q=>by simp only[zGf,rn]<;>rfl
def zGI(u:zB)(I:List V):Option Y:=
zAi (zGH u I) u (u.Changes.length+1) [] 0
theorem zRA(I:zB)(u:List V):(zGb I u).run Env.nil=zGI I u:=by simp only[zGb,rn,zRV,zQm]<;>rfl
def zAg(k1:(List V)->Option Y)(p0:zB):Nat->List V->Int->Option Y
 |0,_,_=>none
 |n0+1,Z,I=>
  bif (decide (I<(p0.Wants.length:Int)))then((idx p0.Wants I).bind λu=>
  (zCz u.Kind).bind λW=>
  (strB u.Key).bind λγ=>
  (zES γ).bind λU=>
  (zCz u.Version).bind λα=>
  (zCz u.Size).bind λβ=>
  (zGB [(V.mk W.k W.n [] []),(V.mk U.k U.n U.b []),(V.mk α.k α.n [] []),(V.mk β.k β.n [] [])]).bind λJ=>
  (appI 64 Z [(V.mk J.k J.n [] J.l)]).bind λδ=>
  zAg k1 p0 n0 δ (wi (I+1)))else
  k1 Z
theorem zQy(k1:(List V)->Option Y)(u:zB):∀n q,lpn (λk (q:(List V)×Int)=>(zGP u q.1 q.2).run ((Env.nil.cons k1).cons k)) n q=zAg k1 u n q.1 q.2:=yS (g:=λn (q:(List V)×Int)=>zAg k1 u n q.1 q.2) (λ_=>rfl) λn q=>by simp only[zGP,rn]<;>rfl
theorem zWL(u:zB):zDI u=
zAg (zGI u) u (u.Wants.length+1) [] 0:=by simp only[zDI,zQg,rn,zRA,zQy]<;>rfl
def zHT(x7:V)(W:V)(u:V)(J:V)(I:List zJ)(U:List zF):Option (zB×Bool):=
(zFg (zB.mk x7.n W.b u.n J.b I U)).bind λZ=>
bif (!Z)then(some ((zB.mk 0 [] 0 [] [] []),false))else
some ((zB.mk x7.n W.b u.n J.b I U),true)
theorem zSr(W:V)(Z:V)(u:V)(J:V)(I:List zJ)(U:List zF):(zHH W Z u J I U).run Env.nil=zHT W Z u J I U:=by simp only[zHH,rn]<;>rfl
def zBJ(k1:(List zF)->Option (zB×Bool))(x1:(V×Int)):Nat->List zF->Int->Option (zB×Bool)
 |0,_,_=>none
 |n0+1,J,I=>
  (idx x1.1.l 5).bind λW=>
  bif (decide (I<(W.l.length:Int)))then((idx x1.1.l 5).bind λZ=>
  (idx Z.l I).bind λu=>
  (zDJ u [1,2,1,2]).bind λα=>
  bif (!α)then(some ((zB.mk 0 [] 0 [] [] []),false))else
  (idx u.l 0).bind λx32=>
  (idx u.l 1).bind λδ=>
  (idx u.l 2).bind λU=>
  (idx u.l 3).bind λγ=>
  (appI 56 J [(zF.mk x32.n δ.b U.n γ.b)]).bind λβ=>
  zBJ k1 x1 n0 β (wi (I+1)))else
  k1 J
theorem zSK(k1:(List zF)->Option (zB×Bool))(u:(V×Int)):∀n q,lpn (λk (q:(List zF)×Int)=>(zHU u q.1 q.2).run ((Env.nil.cons k1).cons k)) n q=zBJ k1 u n q.1 q.2:=yS (g:=λn (q:(List zF)×Int)=>zBJ k1 u n q.1 q.2) (λ_=>rfl) λn q=>by simp only[zHU,rn]<;>rfl
def zHF(W:V)(Z:V)(u:V)(J:V)(U:(V×Int))(I:List zJ):Option (zB×Bool):=
zBJ (zHT W Z u J I) U (5002) [] 0
theorem zSn(W:V)(Z:V)(u:V)(J:V)(U:(V×Int))(I:List zJ):(zHd W Z u J U I).run Env.nil=zHF W Z u J U I:=by simp only[zHd,rn,zSr,zSK]<;>rfl
def zBI(k1:(List zJ)->Option (zB×Bool))(x1:(V×Int)):Nat->List zJ->Int->Option (zB×Bool)
 |0,_,_=>none
 |n0+1,J,I=>
  (idx x1.1.l 4).bind λW=>
  bif (decide (I<(W.l.length:Int)))then((idx x1.1.l 4).bind λε=>
  (idx ε.l I).bind λu=>
  (zDJ u [1,2,1,1]).bind λα=>
  bif (!α)then(some ((zB.mk 0 [] 0 [] [] []),false))else
  (idx u.l 0).bind λZ=>
  (idx u.l 1).bind λβ=>
  (idx u.l 2).bind λU=>
  (idx u.l 3).bind λδ=>
  (appI 40 J [(zJ.mk Z.n β.b U.n δ.n)]).bind λγ=>
  zBI k1 x1 n0 γ (wi (I+1)))else
  k1 J
theorem zSk(k1:(List zJ)->Option (zB×Bool))(u:(V×Int)):∀n q,lpn (λk (q:(List zJ)×Int)=>(zHr u q.1 q.2).run ((Env.nil.cons k1).cons k)) n q=zBI k1 u n q.1 q.2:=yS (g:=λn (q:(List zJ)×Int)=>zBI k1 u n q.1 q.2) (λ_=>rfl) λn q=>by simp only[zHr,rn]<;>rfl
theorem zXr(U:Y):zEI U=
(zEc U).bind λu=>
bif (u.2 !=0)then(some ((zB.mk 0 [] 0 [] [] []),false))else
(zDJ u.1 [1,2,1,2,3,3]).bind λZ=>
bif (!Z)then(some ((zB.mk 0 [] 0 [] [] []),false))else
(idx u.1.l 0).bind λx7=>
(idx u.1.l 1).bind λW=>
(idx u.1.l 2).bind λI=>
(idx u.1.l 3).bind λJ=>
zBI (zHF x7 W I J u) u (5002) [] 0:=by simp only[zEI,zRt,rn,zSn,zSk]<;>rfl
def zBr(U:zB)(W:zB):Nat->Int->Option Bool
 |0,_=>none
 |n0+1,I=>
  bif (decide (I<(U.Changes.length:Int)))then((idx U.Changes I).bind λJ=>
  (idx W.Changes I).bind λu=>
  bif (J.Kind !=u.Kind)then(some false)else
  bif (!(J.Key==u.Key))then(some false)else
  bif (J.Version !=u.Version)then(some false)else
  (zFF J.Data u.Data).bind λZ=>
  bif (!Z)then(some false)else
  zBr U W n0 (wi (I+1)))else
  some true
theorem zSJ(I:zB)(u:zB):∀n q,lpn (λk (q:Int)=>(zHs I u q).run (Env.nil.cons k)) n q=zBr I u n q:=yS (g:=λn (q:Int)=>zBr I u n q) (λ_=>rfl) λn q=>by simp only[zHs,rn]<;>rfl
def zDd(u:zB)(I:zB):Option Bool:=
zBr u I (u.Changes.length+1) 0
theorem zTL(I:zB)(u:zB):(zH8 I u).run Env.nil=zDd I u:=by simp only[zH8,rn,zSJ]<;>rfl
def zBv(k1:Unit->Option Bool)(U:zB)(Z:zB):Nat->Int->Option Bool
 |0,_=>none
 |n0+1,J=>
  bif (decide (J<(U.Wants.length:Int)))then((idx U.Wants J).bind λI=>
  (idx Z.Wants J).bind λu=>
  bif (!((I.Kind==u.Kind)&&((I.Key==u.Key)&&((I.Version==u.Version)&&((I.Size==u.Size)&&true)))))then(some false)else
  zBv k1 U Z n0 (wi (J+1)))else
  k1 ()
theorem zTS(k1:Unit->Option Bool)(I:zB)(u:zB):∀n q,lpn (λk (q:Int)=>(zHl I u q).run ((Env.nil.cons k1).cons k)) n q=zBv k1 I u n q:=yS (g:=λn (q:Int)=>zBv k1 I u n q) (λ_=>rfl) λn q=>by simp only[zHl,rn]<;>rfl
theorem zYB(u:zB)(I:zB):zFH u I=
bif (u.Kind !=I.Kind)then(some false)else
bif (!(u.User==I.User))then(some false)else
bif (u.Number !=I.Number)then(some false)else
bif (!(u.Key==I.Key))then(some false)else
bif ((u.Wants.length:Int) !=(I.Wants.length:Int))then(some false)else
bif ((u.Changes.length:Int) !=(I.Changes.length:Int))then(some false)else
zBv (λq=>zDd u I) u I (u.Wants.length+1) 0:=by simp only[zFH,zNM,rn,zTL,zTS]<;>rfl
def zJd(u:List zF):Option Bool:=
some (decide ((u.length:Int)<=70))
theorem zUU(u:List zF):(zJ4 u).run Env.nil=zJd u:=by simp only[zJ4,rn]<;>rfl
def zCT(k1:Unit->Option Bool)(I:List zF):Nat->Int->Option Bool
 |0,_=>none
 |n0+1,u=>
  bif (decide (u<(I.length:Int)))then((idx I u).bind λJ=>
  bif (decide ((J.Data.length:Int)>1100))then(some false)else
  bif (decide ((J.Key.length:Int)>100))then(some false)else
  zCT k1 I n0 (wi (u+1)))else
  k1 ()
theorem zT0(k1:Unit->Option Bool)(u:List zF):∀n q,lpn (λk (q:Int)=>(zI2 u q).run ((Env.nil.cons k1).cons k)) n q=zCT k1 u n q:=yS (g:=λn (q:Int)=>zCT k1 u n q) (λ_=>rfl) λn q=>by simp only[zI2,rn]<;>rfl
theorem u_L22_Few(u:List zF):zI3 u=
zCT (λq=>zJd u) u (u.length+1) 0:=by simp only[zI3,zUC,rn,zUU,zT0]<;>rfl
def zCe(I:zB):Nat->Int->Option Bool
 |0,_=>none
 |n0+1,u=>
  bif (decide (u<(I.Wants.length:Int)))then((idx I.Wants u).bind λJ=>
  bif (decide ((J.Key.length:Int)>100))then(some false)else
  zCe I n0 (wi (u+1)))else
  some true
theorem zUg(u:zB):∀n q,lpn (λk (q:Int)=>(zJW u q).run (Env.nil.cons k)) n q=zCe u n q:=yS (g:=λn (q:Int)=>zCe u n q) (λ_=>rfl) λn q=>by simp only[zJW,rn]<;>rfl
theorem u_L36_Few(u:zB):zI9 u=
bif (decide ((u.User.length:Int)>20))then(some false)else
bif (decide ((u.Key.length:Int)>100))then(some false)else
bif (decide ((u.Wants.length:Int)>70))then(some false)else
(zI3 u.Changes).bind λI=>
bif (!I)then(some false)else
zCe u (u.Wants.length+1) 0:=by simp only[zI9,zU6,rn,zUg]<;>rfl
def zA3(Z:Y)(J:(Bool×Hp)):Option (Bool×Hp):=
(zAd Z).bind λu=>
(zEI Z).bind λI=>
(zFH u.1 I.1).bind λU=>
bif U then(bif I.2 then(bif (u.2==0)then(some (true,J.2))else
bif (!I.2)then(some ((u.2==13),J.2))else
some (false,J.2))else
bif (!I.2)then(some ((u.2==13),J.2))else
some (false,J.2))else
some (false,J.2)
theorem zLT(I:Y)(u:(Bool×Hp)):(zDB I u).run Env.nil=zA3 I u:=by simp only[zDB,rn]<;>rfl
theorem zOf(I:zB)(Z:Y)(W:Hp):zBy I Z W=
(zFX W).bind λu=>
bif (!u.1)then(some (false,u.2))else
(zI9 I).bind λx4=>
bif (!x4)then(some (true,u.2))else
bif (decide ((Z.length:Int)>5000))then(some (true,u.2))else
(zB6 I).bind λJ=>
(zFg I).bind λα=>
bif α then((zAd J.1).bind λU=>
bif (J.2 !=0)then(some (false,u.2))else
(zDI I).bind λγ=>
(zFF J.1 γ).bind λβ=>
bif (!β)then(some (false,u.2))else
bif (U.2 !=0)then(some (false,u.2))else
(zFH U.1 I).bind λδ=>
bif (!δ)then(some (false,u.2))else
zA3 Z u)else
bif (J.2 !=2)then(some (false,u.2))else
bif (decide ((J.1.length:Int)>0))then(some (false,u.2))else
zA3 Z u:=by simp only[zBy,zIG,rn,zLT]<;>rfl
end
end Go.Proofs.YtocolhfjpadaoaaGreatDoor
namespace Go.Proofs.YtocolhfjpadaoaaGreatDoor
namespace V
def deep:V->Nat
 | .mk k _ _ l=>if k=3 then dm l 1 else 0
where dm:List V->Nat->Nat
 |[],d=>d
 |x::r,d=>dm r (max d (deep x+1))
theorem dm_le:∀(l:List V) (d m:Nat),(∀x∈l,deep x+1<=m)->d<=m->deep.dm l d<=m
 |[],_,_,_,h=>h
 |x::r,d,m,hl,h=>by rw[deep.dm];exact dm_le r _ m (λy hy=>hl y (vM _ hy)) (Nat.max_le.2 ⟨h,hl x sN⟩)
theorem deep_eq(v:V)(h:v.k=3):v.deep=deep.dm v.l 1:=by cases v;simp[V.k]at h;simp[deep,h,V.l]
theorem deep_zero(v:V)(h:¬v.k=3):v.deep=0:=by cases v;simp[k]at h;simp[deep,h]
end V
end Go.Proofs.YtocolhfjpadaoaaGreatDoor
namespace Go.Proofs.YtocolhfjpadaoaaGreatDoor
namespace V
def pureB(v:V):Bool:=
 if v.k=1 then decide (0<=v.n)&&decide (v.n<=4611686018427387904)&&v.b.isEmpty&&v.l.isEmpty
 else if v.k=2 then decide (v.n=0)&&decide (v.b.length<=1048576)&&v.l.isEmpty
 else if v.k=3 then decide (v.n=0)&&v.b.isEmpty&&decide (v.l.length<=4096)
 else false
def flat(v:V):Bool:=
 if v.k=1 then decide (0<=v.n)&&decide (v.n<=4611686018427387904)&&v.b.isEmpty&&v.l.isEmpty
 else if v.k=2 then decide (v.n=0)&&v.l.isEmpty
 else decide (v.k=3)&&decide (v.n=0)&&v.b.isEmpty&&decide (v.l.length<=4096)
def rpure:V->Bool
 | .mk k n b l=>flat (.mk k n b l)&&(if k=3 then all l else true)
where all:List V->Bool
 |[]=>true
 |x::r=>rpure x&&all r
def sz:V->Nat
 | .mk k n b l=>if k=1 then 2+wid n.toNat else if k=2 then 4+b.length else 3+szs l
where szs:List V->Nat
 |[]=>0
 |x::r=>sz x+szs r
def enc:V->List UInt8
 | .mk k n b l=>if k=1 then 1::UInt8.ofNat (wid n.toNat)::zC2 n.toNat else if k=2 then 2::(be 3 b.length++b)else 3::(be 2 l.length++encs l)
where encs:List V->List UInt8
 |[]=>[]
 |x::r=>enc x++encs r
def mF:V->Int->Nat->Option Nat
 | .mk k n b l,u,d=>
  if pureB (.mk k n b l)=false\/u<0 then none
  else if k=1 then some (2+wid n.toNat)else if k=2 then some (4+b.length)
  else if d=0 then none else mloop l u (d-1) 3
where mloop:List V->Int->Nat->Nat->Option Nat
 |[],_,_,s=>some s
 |x::r,u,d,s=>match mF x (u-s) d with|none=>none|some m=>mloop r u d (s+m)
theorem all_iff:∀l:List V,rpure.all l=true↔∀x∈l,rpure x=true
 |[]=>by simp[rpure.all]
 |x::r=>by simp[rpure.all,all_iff r]
theorem sz_le_szs:∀(l:List V) (x:V),x∈l->sz x<=sz.szs l
 |y::r,x,h=>by simp only[sz.szs];rcases vD.1 h with rfl|h;omega;have:=sz_le_szs r x h;omega
theorem zVD{v:V}(h:v.pureB=true):v.flat=true:=by unfold pureB at h;unfold flat;grind
theorem zUl{v:V}(h:v.flat=true)(hb:v.b.length<=1048576):v.pureB=true:=by unfold flat at h;unfold pureB;grind
theorem zW8:∀(d:Nat) (v:V) (u:Int) (s:Nat),mF v u d=some s->s=sz v/\rpure v=true/\deep v<=d
 |d,.mk k n b l,u,s=>by intro h;rw[mF]at h;split at h;cases h;(rename_i hc;(have hp:pureB (.mk k n b l)=true:=by grind);have hf:=zVD hp;by_cases J:k=1;(rw[if_pos J]at h;(have I:¬k=3:=by omega);refine⟨by rw[sz,if_pos J];exact(Option.some.inj h).symm,by rw[rpure,hf,if_neg I];rfl,by rw[deep,if_neg I];omega⟩);(rw[if_neg J]at h;by_cases U:k=2;(rw[if_pos U]at h;(have I:¬k=3:=by omega);refine⟨by rw[sz,if_neg J,if_pos U];exact(Option.some.inj h).symm,by rw[rpure,hf,if_neg I];rfl,by rw[deep,if_neg I];omega⟩);(rw[if_neg U]at h;(have I:k=3:=by unfold flat at hf;rw[if_neg (show¬(V.mk k n b l).k=1 from J),if_neg (show¬(V.mk k n b l).k=2 from U)]at hf;simp at hf;exact hf.1.1.1);split at h;cases h;(obtain⟨a1,a2,a3⟩:=mloop_sound (d-1) l u 3 s 1 h (by omega);refine⟨by rw[sz,if_neg J,if_neg U,a1],by rw[rpure,hf,if_pos I,a2];rfl,?_⟩;rw[deep,if_pos I];omega))))
where
 mloop_sound:∀(d:Nat) (l:List V) (u:Int) (a s e:Nat),mF.mloop l u d a=some s->e<=d+1->s=a+sz.szs l/\rpure.all l=true/\deep.dm l e<=d+1
  |d,[],u,a,s,e=>by intro h W;rw[mF.mloop]at h;exact⟨by rw[sz.szs];exact(Option.some.inj h).symm,rfl,W⟩
  |d,x::r,u,a,s,e=>by intro h W;rw[mF.mloop]at h;(cases Z:mF x (u-a) d with|none=>grind|some m=>rw[Z]at h;obtain⟨b1,b2,b3⟩:=zW8 d x (u-a) m Z;obtain⟨c1,c2,c3⟩:=mloop_sound d r u (a+m) s (max e (deep x+1)) h (by omega);exact⟨by rw[c1,b1,sz.szs];omega,by rw[rpure.all,b2,c2];rfl,by rw[deep.dm];exact c3⟩)
theorem flat_kind{v:V}(h:v.flat=true)(u:¬v.k=1)(I:¬v.k=2):v.k=3/\v.n=0/\v.b=[]/\v.l.length<=4096:=by unfold flat at h;grind
theorem mF_full:∀(d:Nat) (v:V) (u:Int),rpure v=true->deep v<=d->(sz v:Int)<=u->u<=1048576->mF v u d=some (sz v)
 |d,.mk k n b l,u=>by intro hp hd W hr;rw[rpure,wH]at hp;obtain⟨hf,I⟩:=hp;(have hb:b.length<=1048576:=by by_cases J:k=1;(unfold flat at hf;rw[if_pos (show(V.mk k n b l).k=1 from J)]at hf;simp at hf;have:b=[]:=hf.1.2;grind);(by_cases U:k=2;(rw[sz,if_neg J,if_pos U]at W;omega);(have:=(flat_kind hf J U).2.2.1;have:b=[]:=this;grind)));have γ:=zUl hf hb;rw[mF,if_neg (by rw[γ];simp;omega)];by_cases J:k=1;rw[if_pos J,sz,if_pos J];(rw[if_neg J];by_cases U:k=2;rw[if_pos U,sz,if_neg J,if_pos U];(rw[if_neg U];have h3:k=3:=(flat_kind hf J U).1;rw[if_pos h3]at I;have α:=hd;rw[deep,if_pos h3]at α;have δ:=dm_ge l 1;rw[if_neg (by omega)];have β:=W;rw[sz,if_neg J,if_neg U]at β;have:=mloop_full (d-1) l u 3 1 I (by omega) (by omega) hr;rw[this,sz,if_neg J,if_neg U]))
where
 dm_ge:∀(l:List V) (e:Nat),e<=deep.dm l e
  |[],_=>wL _
  |x::r,e=>vR (Nat.le_max_left _ _) (by rw[deep.dm];exact dm_ge r _)
 mloop_full:∀(d:Nat) (l:List V) (u:Int) (a e:Nat),rpure.all l=true->deep.dm l e<=d+1->((a+sz.szs l:Nat):Int)<=u->u<=1048576->mF.mloop l u d a=some (a+sz.szs l)
  |d,[],u,a,e=>by intro _ _ _ _;rw[mF.mloop,sz.szs];rfl
  |d,x::r,u,a,e=>by intro I Z W hr;rw[rpure.all,wH]at I;rw[deep.dm]at Z;rw[sz.szs]at W;(have hx:deep x<=d:=by have:=dm_ge r (max e (deep x+1));omega);have J:=mF_full d x (u-a) I.1 hx (by omega) (by omega);rw[mF.mloop,J];have U:=mloop_full d r u (a+sz x) (max e (deep x+1)) I.2 Z (by omega) hr;show mF.mloop r u d (a+sz x)=_;rw[U,sz.szs];grind
def right(v:V):Bool:=rpure v&&decide (deep v<=16)&&decide (sz v<=1048576)
def sizeF(v:V):Option Nat:=match mF v 1048576 16 with
 |some s=>if s<=1048576 then some s else none
 |none=>none
theorem sizeF_eq(v:V):sizeF v=if right v=true then some (sz v)else none:=by by_cases h:right v=true;(rw[if_pos h];unfold right at h;simp at h;have:=mF_full 16 v 1048576 h.1.1 h.1.2 (by omega) (by omega);rw[sizeF,this];grind);(rw[if_neg h];unfold sizeF;(cases u:mF v 1048576 16 with|none=>rfl|some s=>obtain⟨a,b,c⟩:=zW8 16 v 1048576 s u;show(if s<=1048576 then some s else none)=none;rw[if_neg];intro I;apply h;unfold right;grind))
theorem enc_length:∀v:V,(enc v).length=sz v
 | .mk k n b l=>by rw[enc,sz];split;simp[zMo];omega;(split;simp[qO];omega;simp[qO,encs_length l];omega)
where
 encs_length:∀l:List V,(enc.encs l).length=sz.szs l
  |[]=>rfl
  |x::r=>by rw[enc.encs,sz.szs,wP,enc_length x,encs_length r]
theorem rpure_flat{v:V}(h:rpure v=true):v.flat=true:=by cases v;rw[rpure,wH]at h;exact h.1
theorem rpure_items{v:V}(h:rpure v=true)(hk:v.k=3):∀x∈v.l,rpure x=true:=by(cases v with|mk k n b l=>rw[rpure,wH,if_pos (show k=3 from hk)]at h;exact(all_iff l).1 h.2)
theorem mF_eq(v:V)(u:Int)(d:Nat):mF v u d=if pureB v=false\/u<0 then none else if v.k=1 then some (2+wid v.n.toNat)else if v.k=2 then some (4+v.b.length)
 else if d=0 then none else mF.mloop v.l u (d-1) 3:=by
 cases v
 rw[mF]
 rfl
theorem enc_eq(v:V):enc v=if v.k=1 then 1::UInt8.ofNat (wid v.n.toNat)::zC2 v.n.toNat else if v.k=2 then 2::(be 3 v.b.length++v.b)else 3::(be 2 v.l.length++enc.encs v.l):=by cases v;rw[enc];rfl
end V
end Go.Proofs.YtocolhfjpadaoaaGreatDoor
