/-
  Lemmas of this claim, joined.
-/
import Derived.Test.YtocolhfjpadaoaaGreatDoorU13
set_option linter.unusedVariables false
set_option linter.unusedSimpArgs false
set_option linter.constructorNameAsVariable false
namespace Go.Proofs.YtocolhfjpadaoaaGreatDoor
open Go Go.RowKit
variable {P:Program}{w0:World}{w:World}{m0:Mem}{m:Mem}{o0:OwnM}{o:OwnM}{G:GD}{pins:List Nat}{N:Nat}{a:Act}{op:Oper}{S:Nat->A}{M:Nat->A}{L:SL}{v:Value}{W:World}{Q:Mem}{X:OwnM}
set_option maxRecDepth 20000
noncomputable section
def zYS(J:Int)(W:Hp):TT (O×Int×Hp) []:=
.iF 21 (decide (J<1)) λh1=>
.iF 29 (decide (J>16384)) λh2=>
.b (mkI 64 J) λu Z=>
.o 11 (mkl false 0 (c0:=dT zCM ([]:Y)) Z (zOC (c:=zCM) (z:=([]:Y)) (by kernel_rfl) u))<|
.b (mkI 64 J) λI U=>
.o 13 (mkl false 1 (c0:=dT zCM ([]:Y)) U (zOC (c:=zCM) (z:=([]:Y)) (by kernel_rfl) I))<|
.o 15 (lbox 2)<|
.f 9 (pubA 0 (cc:=zCM) (y:=(List.replicate u ([]:Y))) (c:=cd 2 W.ln_sec) (f1:=hpA W) (f2:=hpA (W.nw_sec (List.replicate u ([]:Y)))) (fr_sec _) (pbE (λk=>rn_hpA _ _ _ k) (nw_sec _ (List.replicate u ([]:Y)))))<|
.t 9 (OB+1) (congrArg A.box (zTA (j:=0) (c:=cd 2 W.ln_sec) (zNH zCM (List.replicate I ([]:Y)))))<|
.f 9 (pubA 1 (cc:=zCM) (y:=(List.replicate I ([]:Y))) (c:=cd 2 ((W.nw_sec (List.replicate u ([]:Y))).ln_sec)) (f1:=hpA (W.nw_sec (List.replicate u ([]:Y)))) (f2:=hpA ((W.nw_sec (List.replicate u ([]:Y))).nw_sec (List.replicate I ([]:Y)))) (fr_sec _) (pbE (λk=>rn_hpA _ _ _ k) (nw_sec _ (List.replicate I ([]:Y)))))<|
.f 9 (pubS 2 (c:=cd 1 (((W.nw_sec (List.replicate u ([]:Y))).nw_sec (List.replicate I ([]:Y))).ln_dk)) (f1:=hpA ((W.nw_sec (List.replicate u ([]:Y))).nw_sec (List.replicate I ([]:Y)))) (f2:=hpA (((W.nw_sec (List.replicate u ([]:Y))).nw_sec (List.replicate I ([]:Y))).nw_dk (qF.mk (W.ln_sec,u) ((W.nw_sec (List.replicate u ([]:Y))).ln_sec,I) [] (-1) false 0))) (fr_dk _) (pbE (λk=>rn_hpA _ _ _ k) (nw_dk _ (qF.mk (W.ln_sec,u) ((W.nw_sec (List.replicate u ([]:Y))).ln_sec,I) [] (-1) false 0))))<|
.e ((some ((W.nw_sec (List.replicate u ([]:Y))).nw_sec (List.replicate I ([]:Y))).ln_dk),0,(((W.nw_sec (List.replicate u ([]:Y))).nw_sec (List.replicate I ([]:Y))).nw_dk (qF.mk (W.ln_sec,u) ((W.nw_sec (List.replicate u ([]:Y))).ln_sec,I) [] (-1) false 0)))
def zNc p0 W:=(zYS p0 W).q
theorem zTr p0 W:∀r,zNc p0 W=some r->FH 28 [iA p0] [] [] (hpA W) (hpA r.2.2) (.tup [.opt 1 r.1,iT r.2.1]):=zN mixed [0,1,2] Tryz.func28 _
def zGZ(p0:List qH)(W:Hp)(F1:Nat)(C1:(List (List T)))(Z:(qH->Option Bool))(J:∀(I:qH) r,Z I=some r->FH F1 ([.t (.agg [iD I.From,iD I.Len])]++C1.map A.imt) [] [] (hpA W) (hpA W) (bA r))(u:FnH Tryz.prog F1 C1 1)(U:Int):TT Int [Int]:=
.i 29 (decide (U<(p0.length:Int))) (λh2=> .w 11 trivial (clW u)<|
.b (idx p0 U) λx3 h4=>
.ix 14 qW h4<|
.b (Z x3) λx5 h6=>
.o 16 (cF (f:=hpA W) (J x3 _ h6) u)<|
.iF 50 x5 λh7=>
.k [] .z (wi (U+1))) λh2=>
.e (-1)
def zDt(W:Hp)(u:List qH)(I:Nat)(J:List (List T))(p1:(qH->Option Bool))(Z:∀(U:qH) r,p1 U=some r->FH I ([.t (.agg [iD U.From,iD U.Len])]++J.map A.imt) [] [] (hpA W) (hpA W) (bA r))(α:FnH Tryz.prog I J 1):TT Int []:=
.ln 7 u qW<|
.l [] (λz1=>[(0,.t (.d (.seq 2 (List.map qW u)))),(1,.cl I J),(7,iA (u.length:Int)),(8,iA z1),kH W]) (u.length+1) (λz1=>zGZ u W I J p1 Z α z1) 0
def zDn(W:Hp)(p0:List qH)(U:Nat)(Z:List (List T))(p1:(qH->Option Bool))(I:∀(u:qH) r,p1 u=some r->FH U ([.t (.agg [iD u.From,iD u.Len])]++Z.map A.imt) [] [] (hpA W) (hpA W) (bA r))(J:FnH Tryz.prog U Z 1):Option Int:=(zDt W p0 U Z p1 I J).run Env.nil
theorem zG6(W:Hp)(p0:List qH)(J:Nat)(U:List (List T))(Z:(qH->Option Bool))(u:∀(a0:qH) r,Z a0=some r->FH J ([.t (.agg [iD a0.From,iD a0.Len])]++U.map A.imt) [] [] (hpA W) (hpA W) (bA r))(I:FnH Tryz.prog J U 1):∀r,zDn W p0 J U Z u I=some r->FH 206 [.t (.d (.seq 2 (List.map qW p0))),.cl J U] [] [] (hpA W) (hpA W) (iA r):=zN mixed [] Tryz.func206 (zDt W p0 J U Z u I) (by kernel_rfl)
def zC6(W:Hp)(p0:List qH)(J:Nat)(U:List (List T))(Z:(qH->Option Bool))(I:∀(a0:qH) r,Z a0=some r->FH J ([.t (.agg [iD a0.From,iD a0.Len])]++U.map A.imt) [] [] (hpA W) (hpA W) (bA r))(u:FnH Tryz.prog J U 1):TT Bool []:=
.w 6 trivial (clW u)<|
.b (zDn W p0 J U Z I u) λx1 h2=>
.o 7 (cRA [.t (.d (.seq 2 (List.map qW p0))),.cl J (U.map λl=>l.map cpT)] (zG6 W p0 J U Z I u _ h2) (.cons (.plain (.refl _) rfl) (.cons (clH u) .nil)))<|
.e (decide (x1>=0))
def zGM(W:Hp)(p0:List qH)(U:Nat)(Z:List (List T))(p1:(qH->Option Bool))(I:∀(u:qH) r,p1 u=some r->FH U ([.t (.agg [iD u.From,iD u.Len])]++Z.map A.imt) [] [] (hpA W) (hpA W) (bA r))(J:FnH Tryz.prog U Z 1):Option Bool:=(zC6 W p0 U Z p1 I J).run Env.nil
theorem zFn(W:Hp)(p0:List qH)(J:Nat)(U:List (List T))(Z:(qH->Option Bool))(u:∀(a0:qH) r,Z a0=some r->FH J ([.t (.agg [iD a0.From,iD a0.Len])]++U.map A.imt) [] [] (hpA W) (hpA W) (bA r))(I:FnH Tryz.prog J U 1):∀r,zGM W p0 J U Z u I=some r->FH 106 [.t (.d (.seq 2 (List.map qW p0))),.cl J U] [] [] (hpA W) (hpA W) (bA r):=zN mixed [] Tryz.func106 (zC6 W p0 J U Z u I) (by kernel_rfl)
def zJF(u:List qH)(z5:Int)(W:Hp)(δ:Bool):TT (List qH) [Int×(List qH)]:=
.i 86 δ (λα=> .b (idx u (wi ((u.length:Int)-1))) λJ Z=>
.c 51 (idxV rfl Z)<|
.o 53 (lldA (zXI (c:=qW) Z) (fl_at2 (c:=qW) (k:=2) (q:=1) Z rfl (λ_=>rfl)))<|
.b (idx u (wi ((u.length:Int)-1))) λU I=>
.c 55 (idxV rfl I)<|
.o 59 (lstA (n:=1) (zXI (c:=qW) I) (zE7 (c:=qW) (k:=2) (q:=1) (n:=1) I (λ_=>rfl) rfl) (zHP (x:=[T.d (iD (wi (J.Len+1)))]) (c:=qW) (k:=2) (q:=1) I (qH.mk U.From (wi (J.Len+1))) (λ_=>rfl) rfl rfl) (gb_set I).symm (OB+0))<|
.t 9 3 (vwE (n:=u.length) (n':=(u.set (Int.toNat (wi ((u.length:Int)-1))) (qH.mk U.From (wi (J.Len+1)))).length) 0 0 204 2 (sK.trans rfl).symm)<|
.k [] .z ((wi (z5+1)),(u.set (Int.toNat (wi ((u.length:Int)-1))) (qH.mk U.From (wi (J.Len+1)))))) λα=>
.b (appI 16 u [(qH.mk z5 1)]) λβ γ=>
.vv 22 (apg (c:=qW) (k:=2) (f:=hpA W) 0 γ (λ_=>rfl) (Nat.succ_pos _) [obG 0 qW u,obH (hpA W)])<|
.k [] .z ((wi (z5+1)),β)
def zIu(x3:qR)(p0:O)(W:Hp)(J:Int)(u:List qH):TT (List qH) [Int×(List qH)]:=
.i 44 (decide (J<x3.n_)) (λh7=> .fR 26 (zFo p0 J W) λx8=>
.i 71 (!x8) (λδ=> .k [] .z ((wi (J+1)),u)) λδ=>
.j 115 (λU=>[(0,oA 8 p0),(3,.t (.view 0 0 204 2 u.length)),(4,iA J),(5,iA (u.length:Int)),(12,iA x3.n_),(13,iA J),(28,bA U),((OB+0),gbA qW u),kH W]) (λU=>zJF u J W U)<|
.i 96 (decide ((u.length:Int)>0)) (λβ=> .b (idx u (wi ((u.length:Int)-1))) λα I=>
.c 35 (idxV rfl I)<|
.o 37 (lldA (zXI (c:=qW) I) (fl_at2 (c:=qW) (k:=2) (q:=0) I rfl (λ_=>rfl)))<|
.b (idx u (wi ((u.length:Int)-1))) λγ Z=>
.c 41 (idxV rfl Z)<|
.o 43 (lldA (zXI (c:=qW) Z) (fl_at2 (c:=qW) (k:=2) (q:=1) Z rfl (λ_=>rfl)))<|
.k [] .z ((wi (α.From+γ.Len))==J)) λβ=>
.k [] .z false) λh7=>
.f 1 (frzG (c:=qW) (k:=2) 2 0 (y:=u) (λ_=>rfl) (f:=hpA W) [obG 0 qW u,obH (hpA W)])<|
.e u
def zMj(u:O)(W:Hp):TT (List qH) []:=
.g 3 (.t (.view 0 0 204 2 0))<|
.pS u λZ J=>
.s 28 6 8 J<|
.s 40 9 8 J<|
.b (W.ge_sp Z) λI U=>
.o 12 (ld (zLH U))<|
.l [] (λq=>[(0,oA 8 u),(3,.t (.view 0 0 204 2 q.2.length)),(12,iA I.n_),(13,iA q.1),((OB+0),gbA qW q.2),kH W]) (Int.toNat I.n_+1) (λq=>zIu I u W q.1 q.2) (0,[])
def zMQ p0 W:=(zMj p0 W).q
theorem zKj p0 W:∀r,zMQ p0 W=some r->FH 107 [oA 8 p0] [] [] (hpA W) (hpA W) (.t (.d (.seq 2 (List.map qW r)))):=zN mixed [0] Tryz.func107 _
def zPW(u:qH)(Z:Nat)(W:Hp):TT Bool []:=
.b (W.ge_st Z) λJ I=>
.o 9 (ldS (zIc I))<|
.fA 10 (zAb J.geometry_) λU=>
.e (decide (u.From<U))
def zIq p0 c1 W:=(zPW p0 c1 W).q
theorem zNC p0 c1 W:∀r,zIq p0 c1 W=some r->FH 108 [.t (.agg [iD p0.From,iD p0.Len]),.imt [.opt 10 (some c1)]] [] [] (hpA W) (hpA W) (bA r):=zN mixed [] Tryz.func108 _
def zUJ(p0:O)(W:Hp):TT (O×Int×Hp) []:=
.fH 11 (zOJ p0 W) λI=>
.iF 47 (I.2.1 !=0) λh3=>
.fR 18 (yI p0 I.2.2) λx4=>
.fA 19 (zLh x4) λx6=>
let U:qJ:=(qJ.mk x6 I.1);let w8:=(I.2.2.nw_st U);.o 22 (nwW (fr_st I.2.2) (nw_st I.2.2 U))<|
have J:w8.ge_st I.2.2.ln_st=some U:=zVT;.o 26 (ldS (zIc J))<|
.fA 27 (zA7 U.geometry_) λZ=>
.iF 90 (decide (Z<1)) λθ=>
.fR 31 (zAu I.1 w8) λε=>
.o 36 (ld (zIc J))<|
.iF 116 (ε !=U.geometry_.homes_) λμ=>
.fH 41 (zCd (some I.2.2.ln_st) w8) λu=>
.iF 137 (u.2.1 !=0) λι=>
.pS u.1 λβ γ=>
.s 192 47 11 γ<|
.b (u.2.2.ge_vw β) λδ η=>
.o 50 (ld (zDG η))<|
.f 46 (fzT 6)<|
.fR 52 (zKj δ.p_ u.2.2) λζ=>
.fR 54 (zFn u.2.2 ζ 108 [[.opt 10 (some I.2.2.ln_st)]] (λa0=>zIq a0 I.2.2.ln_st u.2.2) (λa0 r h=>zNC a0 I.2.2.ln_st u.2.2 r h) ⟨⟨_,Tryz.func108,rfl,rfl⟩,rfl,rfl⟩) λα=>
.iF 164 α λκ=>
.e ((some I.2.2.ln_st),0,u.2.2)
def zJn p0 W:=(zUJ p0 W).q
theorem zRR p0 W:∀r,zJn p0 W=some r->FH 29 [oA 1 p0] [] [] (hpA W) (hpA r.2.2) (.tup [.opt 10 r.1,iT r.2.1]):=zN mixed [] Tryz.func29 _
def zJt(p0 p1:Int)(W:Hp):TT (O×Int×Hp) []:=
.fH 12 (zTr p0 W) λJ=>
.iF 50 (J.2.1 !=0) λh3=>
.fH 20 (zOk J.1 p1 J.2.2) λZ=>
.iF 68 (Z.1 !=0) λh6=>
.fH 26 (zRR J.1 Z.2) λu=>
.iF 92 (u.2.1 !=0) λh9=>
let I:yK:=(yK.mk J.1 u.1);let U:=(u.2.2.nw_sv I);.o 35 (nwW (fr_sv u.2.2) (nw_sv u.2.2 I))<|
.e ((some u.2.2.ln_sv),0,U)
def zER(I u:Int)(W:Hp):Option (O×Int×Hp):=(zJt I u W).run Env.nil
theorem zRL(I u:Int)(W:Hp):∀r,zER I u W=some r->FH 61 [iA I,iA u] [] [] (hpA W) (hpA r.2.2) (.tup [.opt 12 r.1,iT r.2.1]):=zN mixed [] Tryz.func61 (zJt I u W) (by kernel_rfl)
def zLz(U:Y):TT V []:=
.b (strB U) λJ I=>
.w 4 (strBC I) (.oe (strBE I))<|
.fA 5 (zF4 J) λu=>
.e (V.mk u.k u.n u.b [])
def zBF p0:=(zLz p0).q
theorem zEK p0:∀r,zBF p0=some r->FP 141 [sA p0] [] (.t (.agg [iD r.k,iD r.n,yD r.b,nD])):=zU mixed Tryz.func141 _
def zEs(u:Y):TT Y [Y]:=
.ln 11 u cU8<|
.i 42 (decide ((u.length:Int)>0)) (λU=> .b (idx u 0) λx5 J=>
.ix 15 cU8 J<|
.i 56 ((x5.toNat:Int)==0) (λZ=> .b (cutI u 1 (u.length:Int)) λW I=>
.w 20 (zUj (c:=cU8) I) (.oe (zVG (k:=1) (c:=cU8) I))<|
.k [] .z W) λZ=>
.e u) λU=>
.e u
def zMi(J:Int):TT Y []:=
.fA 7 (zBn J 8) λI=>
.l [] (λu=>[(3,yA u)]) (I.1.length+1) (λu=>zEs u) I.1
def zBm p0:=(zMi p0).q
theorem zGJ p0:∀r,zBm p0=some r->FP 306 [iA p0] [] (yA r):=zU mixed Tryz.func306 _
def zFV(U Z u:Bool):TT Bool []:=
.i 129 U (λI=> .i 138 Z (λJ=> .e u) λJ=>
.e false) λI=>
.e false
def zN6(u:V):TT Bool []:=
.ln 11 u.b cU8<|
.w 15 trivial (lnE u.l V.cells)<|
.j 42 (λq=>[(3,bA q.1),(4,bA q.2.1),(5,bA q.2.2)]) (λq=>zFV q.1 q.2.1 q.2.2)<|
.i 59 (u.k==1) (λI=> .i 75 (decide (u.n>=0)) (λZ=> .k [] .z ((decide (u.n<=4611686018427387904)),((u.b.length:Int)==0),((u.l.length:Int)==0))) λZ=>
.k [] .z (false,((u.b.length:Int)==0),((u.l.length:Int)==0))) λI=>
.i 89 (u.k==2) (λU=> .ln 33 u.b cU8<|
.k [] .z ((u.n==0),(decide ((u.b.length:Int)<=1048576)),((u.l.length:Int)==0))) λU=>
.i 107 (u.k==3) (λJ=> .w 39 trivial (lnE u.l V.cells)<|
.k [] .z ((u.n==0),((u.b.length:Int)==0),(decide ((u.l.length:Int)<=4096)))) λJ=>
.e false
def zEV p0:=(zN6 p0).q
theorem zSM p0:∀r,zEV p0=some r->FP 340 [.t (.agg [iD p0.k,iD p0.n,yD p0.b,.seq 4 (List.map V.cells p0.l)])] [] (bA r):=zU mixed Tryz.func340 _
abbrev zAx(self:V->Int->Int->Option (Int×Bool)):Prop:=∀(u:V) (I:Int) (J:Int) (r:(Int×Bool)),self u I J=some r->FP 305 [.t (.agg [iD u.k,iD u.n,yD u.b,.seq 4 (List.map V.cells u.l)]),iA I,iA J] [] (.tup [iT r.1,bT' r.2])
def zDW(u:Int):TT (Int×Bool) []:=
.e (u,true)
def zDV(p0:V)(self:V->Int->Int->Option (Int×Bool))(p1 p2:Int)(J:(zAx self))(u I:Int):TT (Int×Bool) [Int×Int,Int]:=
.i 137 (decide (I<(p0.l.length:Int))) (λβ=> .b (idx p0.l I) λU W=>
.w 46 (idxC (c:=V.cells) W) (.oe (zA8 V.cells_eq W))<|
.b (self U (wi (p1-u)) (wi (p2-1))) λZ γ=>
.o 55 (cA (J U (wi (p1-u)) (wi (p2-1)) _ γ))<|
.i 179 (!Z.2) (λα=> .e (0,false)) λα=>
.k [] .z ((wi (u+Z.1)),(wi (I+1)))) λβ=>
.k [] (.s .z) u
def zDY(self:V->Int->Int->Option (Int×Bool))(I:zAx self)(u:V)(Z U:Int):TT (Int×Bool) []:=
.fA 14 (zSM u) λx1=>
.i 51 (!x1) (λh3=> .e (0,false)) λh3=>
.i 63 (decide (Z<0)) (λh4=> .e (0,false)) λh4=>
.i 71 (decide (U<0)) (λh5=> .e (0,false)) λh5=>
.i 80 (u.k==1) (λh6=> .fA 30 (zGJ u.n) λx7=>
.ln 31 x7 cU8<|
.e ((wi (2+(x7.length:Int))),true)) λh6=>
.i 101 (u.k==2) (λh9=> .ln 37 u.b cU8<|
.e ((wi (4+(u.b.length:Int))),true)) λh9=>
.i 122 (U==0) (λW=> .e (0,false)) λW=>
.j 78 (λJ=>[(8,iA J)]) (λJ=>zDW J)<|
.w 43 trivial (lnE u.l V.cells)<|
.l [] (λq=>[(1,iA Z),(2,iA U),(8,iA q.1),(42,.t (.d (.seq 4 (List.map V.cells u.l)))),(43,iA (u.l.length:Int)),(44,iA q.2)]) (u.l.length+1) (λq=>zDV u self Z U I q.1 q.2) (3,0)
theorem zQb(self:V->Int->Int->Option (Int×Bool))(u:zAx self):zAx (λU I J=>(zDY self u U I J).run Env.nil):=λU I J=>zU mixed Tryz.func305 (zDY self u U I J) (by kernel_rfl)
noncomputable def zDg:Nat->{self:V->Int->Int->Option (Int×Bool)// zAx self}
 |0=>⟨λ_ _ _=>none,λ_ _ _ _ h=>nomatch h⟩
 |k+1=>⟨_,zQb (zDg k).1 (zDg k).2⟩
def zAO(k:Nat):V->Int->Int->Option (Int×Bool):=(zDg k).1
theorem zH9(k:Nat):zAx (zAO k):=(zDg k).2
def zN7(U:V):TT (Int×Bool) []:=
.fA 8 (zH9 (Int.toNat 16+1) U 1048576 16) λu=>
.i 42 (!u.2) (λI=> .e (0,false)) λI=>
.i 50 (decide (u.1>1048576)) (λJ=> .e (0,false)) λJ=>
.e (u.1,true)
def zEW p0:=(zN7 p0).q
theorem zSX p0:∀r,zEW p0=some r->FP 238 [.t (.agg [iD p0.k,iD p0.n,yD p0.b,.seq 4 (List.map V.cells p0.l)])] [] (.tup [iT r.1,bT' r.2]):=zU mixed Tryz.func238 _
abbrev zDC(self:Y->V->Option Y):Prop:=∀(I:Y) (u:V) (r:Y),self I u=some r->FP 239 [.t (.own 5 1 (zV I)),.t (.agg [iD u.k,iD u.n,yD u.b,.seq 4 (List.map V.cells u.l)])] [] (.t (.own 5 1 (zV r)))
def zGW(p1:V)(self:Y->V->Option Y)(I:(zDC self))(u:Y)(J:Int):TT Y [Y×Int]:=
.i 182 (decide (J<(p1.l.length:Int))) (λα=> .b (idx p1.l J) λU Z=>
.w 61 (idxC (c:=V.cells) Z) (.oe (zA8 V.cells_eq Z))<|
.y 63 true<|
.b (self u U) λβ W=>
.o 65 (cM 63 0 (I u U _ W))<|
.y 0 true<|
.k [] .z (β,(wi (J+1)))) λα=>
.y 67 true<|
.y 4 true<|
.e u
def zHO(self:Y->V->Option Y)(I:zDC self)(p0:Y)(u:V):TT Y []:=
.i 44 (u.k==1) (λh1=> .fA 18 (zGJ u.n) λx2=>
.y 19 true<|
.ln 21 x2 cU8<|
.w 22 trivial (u8E (x2.length:Int))<|
.b (appI 1 p0 [1,(U8 (x2.length:Int))]) λx4 h5=>
.w 24 (appC (c:=cU8) h5) (.oe (appE (E:=5) (k:=1) (c:=cU8) h5))<|
.b (appI 1 x4 x2) λx6 h7=>
.w 26 (appC (c:=cU8) h7) (.oe (appE (E:=5) (k:=1) (c:=cU8) h7))<|
.y 4 true<|
.e x6) λh1=>
.i 83 (u.k==2) (λh8=> .ln 32 u.b cU8<|
.fA 33 (zBn (u.b.length:Int) 3) λx9=>
.y 36 true<|
.b (appI 1 p0 [2]) λγ Z=>
.w 38 (appC (c:=cU8) Z) (.oe (appE (E:=5) (k:=1) (c:=cU8) Z))<|
.b (appI 1 γ x9.1) λζ U=>
.w 40 (appC (c:=cU8) U) (.oe (appE (E:=5) (k:=1) (c:=cU8) U))<|
.b (appI 1 ζ u.b) λδ W=>
.w 43 (appC (c:=cU8) W) (.oe (appE (E:=5) (k:=1) (c:=cU8) W))<|
.y 4 true<|
.e δ) λh8=>
.w 47 trivial (lnE u.l V.cells)<|
.fA 48 (zBn (u.l.length:Int) 2) λη=>
.y 51 true<|
.b (appI 1 p0 [3]) λβ α=>
.w 53 (appC (c:=cU8) α) (.oe (appE (E:=5) (k:=1) (c:=cU8) α))<|
.b (appI 1 β η.1) λε J=>
.w 55 (appC (c:=cU8) J) (.oe (appE (E:=5) (k:=1) (c:=cU8) J))<|
.y 0 true<|
.w 58 trivial (lnE u.l V.cells)<|
.l [] (λq=>[(0,.t (.own 5 1 (zV q.1))),(57,.t (.d (.seq 4 (List.map V.cells u.l)))),(58,iA (u.l.length:Int)),(59,iA q.2)]) (u.l.length+1) (λq=>zGW u self I q.1 q.2) (ε,0)
theorem zVn(self:Y->V->Option Y)(u:zDC self):zDC (λJ I=>(zHO self u J I).run Env.nil):=λJ I=>zU mixed Tryz.func239 (zHO self u J I) (by kernel_rfl)
noncomputable def zHi:Nat->{self:Y->V->Option Y // zDC self}
 |0=>⟨λ_ _=>none,λ_ _ _ h=>nomatch h⟩
 |k+1=>⟨_,zVn (zHi k).1 (zHi k).2⟩
def zAv(k:Nat):Y->V->Option Y:=(zHi k).1
theorem zOH(k:Nat):zDC (zAv k):=(zHi k).2
def zD7(p1:V)(U:Y)(u:Int):TT Y [Y×Int]:=
.i 182 (decide (u<(p1.l.length:Int))) (λZ=> .b (idx p1.l u) λI J=>
.w 61 (idxC (c:=V.cells) J) (.oe (zA8 V.cells_eq J))<|
.y 63 true<|
.fM 65 63 0 (zOH (V.ht I) U I) λW=>
.y 0 true<|
.k [] .z (W,(wi (u+1)))) λZ=>
.y 67 true<|
.y 4 true<|
.e U
def zKp(u:V):TT Y []:=
.i 44 (u.k==1) (λh1=> .fA 18 (zGJ u.n) λx2=>
.ln 21 x2 cU8<|
.w 22 trivial (u8E (x2.length:Int))<|
.b (appI 1 [] [1,(U8 (x2.length:Int))]) λx4 h5=>
.w 24 (appC0 (c:=cU8) h5) (.oe (appE0 (E:=5) (k:=1) (c:=cU8) h5))<|
.b (appI 1 x4 x2) λx6 h7=>
.w 26 (appC (c:=cU8) h7) (.oe (appE (E:=5) (k:=1) (c:=cU8) h7))<|
.y 4 true<|
.e x6) λh1=>
.i 83 (u.k==2) (λh8=> .ln 32 u.b cU8<|
.fA 33 (zBn (u.b.length:Int) 3) λx9=>
.b (appI 1 [] [2]) λβ U=>
.w 38 (appC0 (c:=cU8) U) (.oe (appE0 (E:=5) (k:=1) (c:=cU8) U))<|
.b (appI 1 β x9.1) λε J=>
.w 40 (appC (c:=cU8) J) (.oe (appE (E:=5) (k:=1) (c:=cU8) J))<|
.b (appI 1 ε u.b) λγ Z=>
.w 43 (appC (c:=cU8) Z) (.oe (appE (E:=5) (k:=1) (c:=cU8) Z))<|
.y 4 true<|
.e γ) λh8=>
.w 47 trivial (lnE u.l V.cells)<|
.fA 48 (zBn (u.l.length:Int) 2) λζ=>
.b (appI 1 [] [3]) λα W=>
.w 53 (appC0 (c:=cU8) W) (.oe (appE0 (E:=5) (k:=1) (c:=cU8) W))<|
.b (appI 1 α ζ.1) λδ I=>
.w 55 (appC (c:=cU8) I) (.oe (appE (E:=5) (k:=1) (c:=cU8) I))<|
.y 0 true<|
.w 58 trivial (lnE u.l V.cells)<|
.l [] (λq=>[(0,.t (.own 5 1 (zV q.1))),(57,.t (.d (.seq 4 (List.map V.cells u.l)))),(58,iA (u.l.length:Int)),(59,iA q.2)]) (u.l.length+1) (λq=>zD7 u q.1 q.2) (δ,0)
def zCB p1:=(zKp p1).q
theorem zQQ p1:∀r,zCB p1=some r->FP 239 [.t (nT),.t (.agg [iD p1.k,iD p1.n,yD p1.b,.seq 4 (List.map V.cells p1.l)])] [] (.t (.own 5 1 (zV r))):=zU mixed Tryz.func239 _
def zK6(u:V):TT (Y×Int) []:=
.fA 8 (zSX u) λI=>
.i 38 (!I.2) (λJ=> .e ([],2)) λJ=>
.fA 14 (zQQ u) λU=>
.y 2 true<|
.e (U,0)
def zB7 p0:=(zK6 p0).q
theorem zFT p0:∀r,zB7 p0=some r->FP 142 [.t (.agg [iD p0.k,iD p0.n,yD p0.b,.seq 4 (List.map V.cells p0.l)])] [] (.tup [yT r.1,iT r.2]):=zU mixed Tryz.func142 _
def zIT(p0:zAF)(Z:V)(y7:List V):TT (Y×Int) []:=
.fA 43 (zAA p0.Err) λU=>
.fA 46 (zAA p0.Version) λI=>
.fA 49 (zF4 p0.Data) λu=>
.w 51 trivial (show WkA (.t (.own 163 4 [[iD U.k,iD U.n,nD,nD],[iD I.k,iD I.n,nD,nD],[iD u.k,iD u.n,yD u.b,nD],[iD Z.k,iD Z.n,nD,.seq 4 (List.map V.cells y7)]])) _ from(.t (.rows _ _ (.cons (.cons (.refl _) (.cons (.refl _) (.cons (.nil _) (.cons (.nil _) .nil)))) (.cons (.cons (.refl _) (.cons (.refl _) (.cons (.nil _) (.cons (.nil _) .nil)))) (.cons (.cons (.refl _) (.cons (.refl _) (.cons (.refl _) (.cons (.nil _) .nil)))) (.cons (.cons (.refl _) (.cons (.refl _) (.cons (.nil _) (.cons (.refl _) .nil)))) .nil)))) (zMc V.cells_eq [(V.mk U.k U.n [] []),(V.mk I.k I.n [] []),(V.mk u.k u.n u.b []),(V.mk Z.k Z.n [] y7)]))))<|
.fA 52 (zH0 [(V.mk U.k U.n [] []),(V.mk I.k I.n [] []),(V.mk u.k u.n u.b []),(V.mk Z.k Z.n [] y7)]) λJ=>
.fA 53 (zFT (V.mk J.k J.n [] J.l)) λW=>
.e (W.1,W.2)
def zIO(U:zAF)(I:List V)(u:Int):TT (Y×Int) [(List V)×Int,(List V)]:=
.iF 92 (decide (u<(U.Keys.length:Int))) λJ=>
.k [] (.s .z) I
def zLS(u:zAF):TT (Y×Int) []:=
.iF 33 (decide (u.Err<0)) λh1=>
.iF 48 (decide (u.Err>255)) λZ=>
.iF 63 (decide (u.Version<0)) λh3=>
.iF 74 (decide (u.Version>2305843009213693952)) λW=>
.b (zAa) λI U=>
.o 25 (cA (zCx _ U))<|
.j 38 (λJ=>[(1,.box [iT u.Err,iT u.Version,yT u.Data,.d (.seq 1 (List.map cStr u.Keys))]),(4,.box [iT I.k,iT I.n,nT,.own 163 4 (List.map V.cells J)])]) (λJ=>zIT u I J)<|
.ln 28 u.Keys cStr<|
.l [4] (λq=>[(1,.box [iT u.Err,iT u.Version,yT u.Data,.d (.seq 1 (List.map cStr u.Keys))]),(4,.box [iT I.k,iT I.n,nT,.own 163 4 (List.map V.cells q.1)]),(27,.t (.d (.seq 1 (List.map cStr u.Keys)))),(28,iA (u.Keys.length:Int)),(29,iA q.2)]) (u.Keys.length+1) (λq=>zIO u q.1 q.2) ([],0)
def zLI p0:=(zLS p0).q
theorem zKa p0:∀r,zLI p0=some r->FP 48 [.t (.agg [iD p0.Err,iD p0.Version,yD p0.Data,.seq 1 (List.map cStr p0.Keys)])] [] (.tup [yT r.1,iT r.2]):=zU mixed Tryz.func48 _
def zGg(u:Y):TT Bool []:=
.i 96 (decide ((u.length:Int)>=1)) (λI=> .e (decide ((u.length:Int)<=12))) λI=>
.e false
def zGj(Z:Y)(I:Int):TT Bool [Int,Unit]:=
.i 26 (decide (I<(Z.length:Int))) (λh3=> .b (idx Z I) λu W=>
.w 12 (zHW W) (.oe (zHM W))<|
.i 48 (decide ((u.toNat:Int)<97)) (λh6=> .i 69 (decide ((u.toNat:Int)<48)) (λh7=> .e false) λh7=>
.i 80 (decide ((u.toNat:Int)>57)) (λh8=> .e false) λh8=>
.k [] .z (wi (I+1))) λh6=>
.i 60 (decide ((u.toNat:Int)>122)) (λh9=> .i 69 (decide ((u.toNat:Int)<48)) (λJ=> .e false) λJ=>
.i 80 (decide ((u.toNat:Int)>57)) (λU=> .e false) λU=>
.k [] .z (wi (I+1))) λh9=>
.k [] .z (wi (I+1))) λh3=>
.k [] (.s .z) ()
def zPq(u:Y):TT Bool []:=
.j 34 (λ_=>[(0,sA u)]) (λ_=>zGg u)<|
.l [] (λI=>[(0,sA u),(6,iA (u.length:Int)),(7,iA I)]) (u.length+1) (λI=>zGj u I) 0
def zEC p0:=(zPq p0).q
theorem zN0 p0:∀r,zEC p0=some r->FP 242 [sA p0] [] (bA r):=zU mixed Tryz.func242 _
def zDy(u:List zJ):TT Bool []:=
.ln 37 u zG<|
.e (decide ((u.length:Int)<=64))
def zDv(J:List zJ)(I:Int):TT Bool [Int,Unit]:=
.i 26 (decide (I<(J.length:Int))) (λZ=> .b (idx J I) λu W=>
.ix 9 zG W<|
.i 48 (decide ((u.Key.length:Int)>40)) (λh5=> .e false) λh5=>
.i 78 (decide ((mi3 u.Kind u.Version u.Size)<0)) (λU=> .e false) λU=>
.i 104 (decide ((ma3 u.Kind u.Version u.Size)>4611686018427387904)) (λh7=> .e false) λh7=>
.k [] .z (wi (I+1))) λZ=>
.k [] (.s .z) ()
def zK7(u:List zJ):TT Bool []:=
.j 30 (λ_=>[(0,.t (.d (.seq 4 (List.map zG u))))]) (λ_=>zDy u)<|
.ln 6 u zG<|
.l [] (λI=>[(0,.t (.d (.seq 4 (List.map zG u)))),(5,.t (.d (.seq 4 (List.map zG u)))),(6,iA (u.length:Int)),(7,iA I)]) (u.length+1) (λI=>zDv u I) 0
def zB4 p0:=(zK7 p0).q
theorem zIx p0:∀r,zB4 p0=some r->FP 243 [.t (.d (.seq 4 (List.map zG p0)))] [] (bA r):=zU mixed Tryz.func243 _
def zDA(u:List zF):TT Bool []:=
.ln 39 u zC<|
.e (decide ((u.length:Int)<=64))
def zDD(J:List zF)(I:Int):TT Bool [Int,Unit]:=
.i 26 (decide (I<(J.length:Int))) (λW=> .b (idx J I) λu h4=>
.ix 9 zC h4<|
.i 48 (decide ((u.Key.length:Int)>40)) (λh5=> .e false) λh5=>
.i 72 (decide ((if u.Version<u.Kind then u.Version else u.Kind)<0)) (λU=> .e false) λU=>
.i 96 (decide ((if u.Version>u.Kind then u.Version else u.Kind)>4611686018427387904)) (λh7=> .e false) λh7=>
.ln 34 u.Data cU8<|
.i 110 (decide ((u.Data.length:Int)>1024)) (λZ=> .e false) λZ=>
.k [] .z (wi (I+1))) λW=>
.k [] (.s .z) ()
def zII(u:List zF):TT Bool []:=
.j 30 (λ_=>[(0,.t (.d (.seq 4 (List.map zC u))))]) (λ_=>zDA u)<|
.ln 6 u zC<|
.l [] (λI=>[(0,.t (.d (.seq 4 (List.map zC u)))),(5,.t (.d (.seq 4 (List.map zC u)))),(6,iA (u.length:Int)),(7,iA I)]) (u.length+1) (λI=>zDD u I) 0
def zBD p0:=(zII p0).q
theorem zG8 p0:∀r,zBD p0=some r->FP 244 [.t (.d (.seq 4 (List.map zC p0)))] [] (bA r):=zU mixed Tryz.func244 _
def zFr(u:zB):TT Bool []:=
.i 249 (u.Kind==3) (λZ=> .fA 91 (zIx u.Wants) λx3=>
.i 282 x3 (λW=> .fA 96 (zG8 u.Changes) λx6=>
.e x6) λW=>
.e false) λZ=>
.ln 85 u.Wants zG<|
.i 267 ((u.Wants.length:Int)==0) (λU=> .fA 91 (zIx u.Wants) λx9=>
.i 282 x9 (λJ=> .fA 96 (zG8 u.Changes) λI=>
.e I) λJ=>
.e false) λU=>
.e false
def zFb(u:zB)(δ:Bool):TT Bool [Unit]:=
.i 65 δ (λα=> .e false) λα=>
.i 162 (u.Kind==4) (λγ=> .i 174 (decide (u.Number<1)) (λW=> .e false) λW=>
.i 192 (decide (u.Number>1099511627776)) (λJ=> .e false) λJ=>
.i 204 (u.Kind !=4) (λI=> .i 216 (u.Number !=0) (λZ=> .e false) λZ=>
.ln 74 u.Changes zC<|
.i 149 (decide ((u.Changes.length:Int)>0)) (λζ=> .e false) λζ=>
.k [] .z ()) λI=>
.k [] .z ()) λγ=>
.i 204 (u.Kind !=4) (λβ=> .i 216 (u.Number !=0) (λε=> .e false) λε=>
.ln 74 u.Changes zC<|
.i 149 (decide ((u.Changes.length:Int)>0)) (λU=> .e false) λU=>
.k [] .z ()) λβ=>
.k [] .z ()
def zFZ(u:zB)(y1 ε:Bool):TT Bool [Unit]:=
.i 38 ε (λβ=> .e false) λβ=>
.j 87 (λI=>[(1,.box [iT u.Kind,sT u.User,iT u.Number,sT u.Key,.d (.seq 4 (List.map zG u.Wants)),.d (.seq 4 (List.map zC u.Changes))]),(21,bA I)]) (λI=>zFb u I)<|
.i 72 y1 (λδ=> .i 87 (decide ((u.Key.length:Int)>40)) (λγ=> .k [] .z true) λγ=>
.w 31 trivial (sneE u.User ([]:Y))<|
.i 105 (!(u.User==[])) (λU=> .k [] .z true) λU=>
.i 114 (!y1) (λζ=> .w 40 trivial (sneE u.Key ([]:Y))<|
.i 126 (!(u.Key==[])) (λZ=> .k [] .z true) λZ=>
.fA 44 (zN0 u.User) λx32=>
.k [] .z (!x32)) λζ=>
.k [] .z false) λδ=>
.i 114 (!y1) (λW=> .w 40 trivial (sneE u.Key ([]:Y))<|
.i 126 (!(u.Key==[])) (λα=> .k [] .z true) λα=>
.fA 44 (zN0 u.User) λJ=>
.k [] .z (!J)) λW=>
.k [] .z false
def zFd(u:zB)(U:Bool):TT Bool []:=
.j 34 (λ_=>[(1,.box [iT u.Kind,sT u.User,iT u.Number,sT u.Key,.d (.seq 4 (List.map zG u.Wants)),.d (.seq 4 (List.map zC u.Changes))])]) (λ_=>zFr u)<|
.j 51 (λI=>[(1,.box [iT u.Kind,sT u.User,iT u.Number,sT u.Key,.d (.seq 4 (List.map zG u.Wants)),.d (.seq 4 (List.map zC u.Changes))]),(3,bA U),(12,bA I)]) (λI=>zFZ u U I)<|
.i 51 (decide (u.Kind<1)) (λJ=> .k [] .z true) λJ=>
.k [] .z (decide (u.Kind>4))
def zNy(u:zB):TT Bool []:=
.j 10 (λI=>[(1,.box [iT u.Kind,sT u.User,iT u.Number,sT u.Key,.d (.seq 4 (List.map zG u.Wants)),.d (.seq 4 (List.map zC u.Changes))]),(3,bA I)]) (λI=>zFd u I)<|
.i 24 (u.Kind==1) (λJ=> .k [] .z true) λJ=>
.k [] .z (u.Kind==2)
def zCS p0:=(zNy p0).q
theorem zLy p0:∀r,zCS p0=some r->FP 152 [.t (.agg [iD p0.Kind,sD p0.User,iD p0.Number,sD p0.Key,.seq 4 (List.map zG p0.Wants),.seq 4 (List.map zC p0.Changes)])] [] (bA r):=zU mixed Tryz.func152 _
def zEl(x7 x9 u J:V)(I:List zJ)(U:List zF):TT (zB×Int) []:=
.fA 138 (zLy (zB.mk x7.n x9.b u.n J.b I U)) λW=>
.i 419 (!W) (λZ=> .e ((zB.mk 0 [] 0 [] [] []),13)) λZ=>
.o 141 (agL 5)<|
.o 143 agS<|
.e ((zB.mk x7.n x9.b u.n J.b I U),0)
def zEm(Z:V)(α:List zF)(I:Int):TT (zB×Int) [(List zF)×Int,(List zF)]:=
.i 305 (decide (I<(Z.l.length:Int))) (λθ=> .b (idx Z.l I) λη J=>
.w 102 (idxC (c:=V.cells) J) (.oe (zA8 V.cells_eq J))<|
.fA 107 (zDf η [1,2,1,2]) λu=>
.i 335 (!u.2) (λζ=> .e ((zB.mk 0 [] 0 [] [] []),13)) λζ=>
.y 114 true<|
.b (idx u.1 0) λι W=>
.w 116 (idxC (c:=V.cells) W) (.oe (zA8 V.cells_eq W))<|
.b (idx u.1 1) λx32 δ=>
.w 120 (idxC (c:=V.cells) δ) (.oe (zA8 V.cells_eq δ))<|
.w 123 (zDe x32.b) (.oe (strE x32.b))<|
.b (idx u.1 2) λμ U=>
.w 125 (idxC (c:=V.cells) U) (.oe (zA8 V.cells_eq U))<|
.b (idx u.1 3) λε β=>
.w 129 (idxC (c:=V.cells) β) (.oe (zA8 V.cells_eq β))<|
.b (appI 56 α [(zF.mk ι.n x32.b μ.n ε.b)]) λκ γ=>
.w 134 (appC (c:=zC) γ) (.oe (appE (E:=76) (k:=4) (c:=zC) γ))<|
.k [] .z (κ,(wi (I+1)))) λθ=>
.k [] (.s .z) α
def zEr(x7 x9 I U:V)(x4:((List V)×Bool))(J:List zJ):TT (zB×Int) []:=
.j 98 (λZ=>[(2,.box [iT 0,sT [],iT 0,sT [],nT,nT]),(8,.box [iT x7.n,sT x9.b,iT I.n,sT U.b,.own 219 4 (List.map zG J),.own 76 4 (List.map zC Z)])]) (λZ=>zEl x7 x9 I U J Z)<|
.b (idx x4.1 5) λu W=>
.w 96 (idxC (c:=V.cells) W) (.oe (zA8 V.cells_eq W))<|
.w 99 trivial (lnE u.l V.cells)<|
.l [8] (λq=>[(2,.box [iT 0,sT [],iT 0,sT [],nT,nT]),(8,.box [iT x7.n,sT x9.b,iT I.n,sT U.b,.own 219 4 (List.map zG J),.own 76 4 (List.map zC q.1)]),(98,.t (.d (.seq 4 (List.map V.cells u.l)))),(99,iA (u.l.length:Int)),(100,iA q.2)]) (u.l.length+1) (λq=>zEm u q.1 q.2) ([],0)
def zEu(ε:V)(δ:List zJ)(I:Int):TT (zB×Int) [(List zJ)×Int,(List zJ)]:=
.i 179 (decide (I<(ε.l.length:Int))) (λκ=> .b (idx ε.l I) λν γ=>
.w 60 (idxC (c:=V.cells) γ) (.oe (zA8 V.cells_eq γ))<|
.fA 65 (zDf ν [1,2,1,1]) λu=>
.i 209 (!u.2) (λθ=> .e ((zB.mk 0 [] 0 [] [] []),13)) λθ=>
.y 72 true<|
.b (idx u.1 0) λμ α=>
.w 74 (idxC (c:=V.cells) α) (.oe (zA8 V.cells_eq α))<|
.b (idx u.1 1) λJ β=>
.w 78 (idxC (c:=V.cells) β) (.oe (zA8 V.cells_eq β))<|
.w 81 (zDe J.b) (.oe (strE J.b))<|
.b (idx u.1 2) λη U=>
.w 83 (idxC (c:=V.cells) U) (.oe (zA8 V.cells_eq U))<|
.b (idx u.1 3) λι Z=>
.w 87 (idxC (c:=V.cells) Z) (.oe (zA8 V.cells_eq Z))<|
.b (appI 40 δ [(zJ.mk μ.n J.b η.n ι.n)]) λζ W=>
.w 92 (appC (c:=zG) W) (.oe (appE (E:=219) (k:=4) (c:=zG) W))<|
.k [] .z (ζ,(wi (I+1)))) λκ=>
.k [] (.s .z) δ
def zH3(p0:Y):TT (zB×Int) []:=
.fA 19 (zJZ p0) λx1=>
.i 71 (x1.2 !=0) (λh3=> .e ((zB.mk 0 [] 0 [] [] []),13)) λh3=>
.fA 28 (zDf x1.1 [1,2,1,2,3,3]) λJ=>
.i 98 (!J.2) (λh6=> .e ((zB.mk 0 [] 0 [] [] []),13)) λh6=>
.b (idx J.1 0) λx7 h8=>
.w 35 (idxC (c:=V.cells) h8) (.oe (zA8 V.cells_eq h8))<|
.b (idx J.1 1) λx9 α=>
.w 39 (idxC (c:=V.cells) α) (.oe (zA8 V.cells_eq α))<|
.w 42 (zDe x9.b) (.oe (strE x9.b))<|
.b (idx J.1 2) λU γ=>
.w 44 (idxC (c:=V.cells) γ) (.oe (zA8 V.cells_eq γ))<|
.b (idx J.1 3) λu β=>
.w 48 (idxC (c:=V.cells) β) (.oe (zA8 V.cells_eq β))<|
.w 51 (zDe u.b) (.oe (strE u.b))<|
.j 66 (λZ=>[(2,.box [iT 0,sT [],iT 0,sT [],nT,nT]),(6,.t (.d (.seq 4 (List.map V.cells J.1)))),(8,.box [iT x7.n,sT x9.b,iT U.n,sT u.b,.own 219 4 (List.map zG Z),nT])]) (λZ=>zEr x7 x9 U u J Z)<|
.b (idx J.1 4) λI W=>
.w 54 (idxC (c:=V.cells) W) (.oe (zA8 V.cells_eq W))<|
.w 57 trivial (lnE I.l V.cells)<|
.l [8] (λq=>[(2,.box [iT 0,sT [],iT 0,sT [],nT,nT]),(6,.t (.d (.seq 4 (List.map V.cells J.1)))),(8,.box [iT x7.n,sT x9.b,iT U.n,sT u.b,.own 219 4 (List.map zG q.1),nT]),(56,.t (.d (.seq 4 (List.map V.cells I.l)))),(57,iA (I.l.length:Int)),(58,iA q.2)]) (I.l.length+1) (λq=>zEu I q.1 q.2) ([],0)
def zAd p0:=(zH3 p0).q
theorem zGU(u:Y):∀r,zAd u=some r->FP 56 [yA u] [] (.tup [.ags [iD r.1.Kind,sD r.1.User,iD r.1.Number,sD r.1.Key,.seq 4 (List.map zG r.1.Wants),.seq 4 (List.map zC r.1.Changes)] [(5,76,4,List.map zC r.1.Changes)],iT r.2]):=fc_chkG 5 mixed Tryz.func56 (zH3 u) (by kernel_rfl)
def zQw(u:Int):TT zAF []:=
.e (zAF.mk u 0 [] [])
def zQ8 p0:=(zQw p0).q
theorem zFh p0:∀r,zQ8 p0=some r->FP 160 [iA p0] [] (.t (.agg [iD r.Err,iD r.Version,nD,nD])):=zU mixed Tryz.func160 _
def zMX(I:O)(W:Hp):TT Int []:=
.pS I λU u=>
.s 16 3 8 u<|
.s 24 5 8 u<|
.b (W.ge_sp U) λZ J=>
.o 8 (ld (zLH J))<|
.e Z.free_
def zMU p0 W:=(zMX p0 W).q
theorem zKV p0 W:∀r,zMU p0 W=some r->FH 110 [oA 8 p0] [] [] (hpA W) (hpA W) (iA r):=zN mixed [] Tryz.func110 _
def zNu(Z:O)(W:Hp):TT Int []:=
.pS Z λi2 J=>
.s 16 3 11 J<|
.b (W.ge_vw i2) λU I=>
.o 6 (ld (zDG I))<|
.pS U.s_ λi6 h5=>
.s 28 6 10 h5<|
.b (W.ge_st i6) λx7 h8=>
.o 9 (ldS (zIc h8))<|
.fA 10 (zA7 x7.geometry_) λx9=>
.s 48 11 11 J<|
.o 14 (ld (zDG I))<|
.fR 15 (zKV U.p_ W) λu=>
.e (wi (x9-u))
def zNQ p0 W:=(zNu p0 W).q
theorem zLX p0 W:∀r,zNQ p0 W=some r->FH 109 [oA 11 p0] [] [] (hpA W) (hpA W) (iA r):=zN mixed [] Tryz.func109 _
def zRH(J:zJ)(u:Bool):TT Bool []:=
.iF 35 u λU=>
.i 89 (J.Kind==2) (λI=> .e true) λI=> .no
def zVh(u:zJ):TT Bool []:=
.fA 8 (zCU u.Key) λU=>
.j 47 (λI=>[(1,.box [iT u.Kind,sT u.Key,iT u.Version,iT u.Size]),(11,bA I)]) (λI=>zRH u I)<|
.iF 45 (!U.2) λW=>
.iF 60 (decide (u.Version<0)) λJ=>
.iF 75 (decide (u.Size<0)) λZ=>
.k [] .z (decide (u.Size>1024))
def zV0 p0:=(zVh p0).q
theorem zVB p0:∀r,zV0 p0=some r->FP 292 [.t (.agg [iD p0.Kind,sD p0.Key,iD p0.Version,iD p0.Size])] [] (bA r):=zU mixed Tryz.func292 _
end
set_option maxRecDepth 20000
noncomputable section
def zOW(u:Int):TT Int []:=
.iF 134 (decide (u>512)) λI=>
.e 0
def zOe(p0:List zJ)(W:Hp)(z4 J:Int)(I:(List (Y×Int))):TT Int [Int×Int×(List (Y×Int)),Int]:=
.i 44 (decide (J<(p0.length:Int))) (λh7=> .b (idx p0 J) λu h9=>
.ix 16 zG h9<|
.fA 19 (zVB u) λU=>
.iF 66 (!U) λγ=>
.o 25 (mlk (kv:=kvS) (vT:=(λv=>T.d ((λz:Int=>D.lit (.int .i64 z)) v))) 0 I u.Key (keyStr (kt:=9) (by kernel_rfl)) (z:=(0:Int)) (λ_=>RepD.lit _ rfl))<|
.iF 83 (decide (((zC5 I u.Key).getD (0:Int))>0)) λβ=>
.o 45 (mup (kv:=kvS) (vT:=(λv=>T.d ((λz:Int=>D.lit (.int .i64 z)) v))) 0 I u.Key (wi (J+1)) (keyStr (kt:=9) (by kernel_rfl)))<|
.i 107 (u.Kind !=1) (λα=> .fA 39 (zDb u.Size) λZ=>
.k [] .z ((wi (z4+(wi (4+Z)))),(wi (J+1)),(mset I u.Key (wi (J+1))))) λα=> .no) λh7=>
.f 9 (fgt (f:=hpA W) 0 [obM 0 (kL kvS) (λv=> .d ((λz:Int=>D.lit (.int .i64 z)) v)) I,obH (hpA W)])<|
.k [] (.s .z) z4
def zTW(u:List zJ)(W:Hp):TT Int []:=
.ln 8 u zG<|
.iF 29 (decide ((u.length:Int)>64)) λJ=>
.o 10 (mkm 0)<|
.j 58 (λI=>[(3,iA I),kH W,kF 0]) (λI=>zOW I)<|
.ln 12 u zG<|
.l [] (λq=>[(3,iA q.1),(4,.t (.mpt 0)),(11,.t (.d (.seq 4 (List.map zG u)))),(12,iA (u.length:Int)),(13,iA q.2.1),((OB+0),mpA kvS (λz:Int=>D.lit (.int .i64 z)) q.2.2),kH W]) (u.length+1) (λq=>zOe u W q.1 q.2.1 q.2.2) (0,0,([]:(List (Y×Int))))
def zS1 p0 W:=(zTW p0 W).q
theorem zPU p0 W:∀r,zS1 p0 W=some r->FH 211 [.t (.d (.seq 4 (List.map zG p0)))] [] [] (hpA W) (hpA W) (iA r):=zN mixed [0] Tryz.func211 _
def zKN(p0:O)(i5:Nat)(Z:p0=some i5)(W:Hp)(I:qE)(h7:W.ge_vw i5=some I)(u δ γ:Int):TT (Int×Int×Int) []:=
.s 440 109 11 Z<|
.o 113 (ld (zDG h7))<|
.iF 323 (decide (u>I.h_.quota_)) λθ=>
.s 472 117 11 Z<|
.o 120 (ld (zDG h7))<|
.pS I.s_ λα U=>
.s 484 120 10 U<|
.b (W.ge_st α) λJ ε=>
.o 123 (ldS (zIc ε))<|
.fA 124 (zA7 J.geometry_) λβ=>
.iF 347 (decide (γ>β)) λη=>
.s 512 127 11 Z<|
.o 131 (ld (zDG h7))<|
.iF 380 (decide (I.h_.count_>=2305843009213693952)) λζ=>
.e (u,δ,0)
def zKe(u:zJ)(U W Z α:Int):TT (Int×Int×Int) [Int×Int×Int×Int,Int×Int×Int]:=
.i 281 (u.Kind==2) (λJ=> .fA 104 (zDb u.Size) λI=>
.k [] .z ((wi (W+u.Size)),(wi (Z+1)),(wi ((wi (α+1))+I)),(wi (U+1)))) λJ=> .no
def zKQ(u:zJ)(J U α I:Int)(p0:O)(p1:List zJ)(W:Hp)(Z:(yO×Int×Int)):TT (Int×Int×Int) [Int×Int×Int×Int,Int×Int×Int]:=
.iF 230 (u.Kind==1) λβ=>
.j 74 (λq=>[(0,oA 11 p0),(4,iA q.1),(5,iA q.2.1),(8,iA q.2.2),(10,.box [iT u.Kind,sT u.Key,iT u.Version,iT u.Size]),(31,.t (.d (.seq 4 (List.map zG p1)))),(32,iA (p1.length:Int)),(33,iA I),kH W]) (λq=>zKe u I q.1 q.2.1 q.2.2)<|
.iF 236 (Z.2.2==0) λγ=>
.k [] .z (J,U,α)
def zKO(p0:O)(J U γ:Int)(β:zJ)(α:(yO×Int×Int))(p1:List zJ)(Z:Int)(W:Hp)(I:Bool):TT (Int×Int×Int) [Unit,Int×Int×Int×Int,Int×Int×Int]:=
.i 146 I (λu=> .k [] .z ()) λu=> .no
def zKk(p1:List zJ)(p0:O)(i5:Nat)(h4:p0=some i5)(W:Hp)(x6:qE)(h7:W.ge_vw i5=some x6)(U Z α J:Int):TT (Int×Int×Int) [Int×Int×Int×Int,Int×Int×Int]:=
.i 104 (decide (J<(p1.length:Int))) (λγ=> .b (idx p1 J) λI δ=>
.ix 35 zG δ<|
.s 156 38 11 h4<|
.o 41 (ld (zDG h7))<|
.fR 44 (zCv x6.x_ I.Key W) λu=>
.j 62 (λ_=>[(0,oA 11 p0),(4,iA U),(5,iA Z),(8,iA α),(10,.box [iT I.Kind,sT I.Key,iT I.Version,iT I.Size]),(11,.box [sT u.1.Key,iT u.1.Version,iT u.1.Len,iT u.1.First]),(13,iA u.2.2),(31,.t (.d (.seq 4 (List.map zG p1)))),(32,iA (p1.length:Int)),(33,iA J),kH W]) (λ_=>zKQ I U Z α J p0 p1 W u)<|
.j 195 (λβ=>[(0,oA 11 p0),(4,iA U),(5,iA Z),(8,iA α),(10,.box [iT I.Kind,sT I.Key,iT I.Version,iT I.Size]),(11,.box [sT u.1.Key,iT u.1.Version,iT u.1.Len,iT u.1.First]),(13,iA u.2.2),(31,.t (.d (.seq 4 (List.map zG p1)))),(32,iA (p1.length:Int)),(33,iA J),(48,bA β),kH W]) (λβ=>zKO p0 U Z α I u p1 J W β)<|
.i 156 (u.2.2==35) (λε=> .k [] .z (I.Version==0)) λε=> .no) λγ=>
.k [] (.s .z) (U,Z,α)
def zNV(I:O)(u:List zJ)(W:Hp):TT (Int×Int×Int) []:=
.fR 15 (zPU u W) λx1=>
.iF 53 (x1 !=0) λh3=>
.pS I λi5 J=>
.s 80 19 11 J<|
.b (W.ge_vw i5) λZ U=>
.o 23 (ld (zDG U))<|
.s 100 24 11 J<|
.o 28 (ld (zDG U))<|
.fR 30 (zLX I W) λx8=>
.j 86 (λq=>[(0,oA 11 I),(4,iA q.1),(5,iA q.2.1),(8,iA q.2.2),kH W]) (λq=>zKN I i5 J W Z U q.1 q.2.1 q.2.2)<|
.ln 32 u zG<|
.l [] (λq=>[(0,oA 11 I),(4,iA q.1),(5,iA q.2.1),(8,iA q.2.2.1),(31,.t (.d (.seq 4 (List.map zG u)))),(32,iA (u.length:Int)),(33,iA q.2.2.2),kH W]) (u.length+1) (λq=>zKk u I i5 J W Z U q.1 q.2.1 q.2.2.1 q.2.2.2) (Z.h_.bytes_,Z.h_.keys_,x8,0)
def zM1 p0 p1 W:=(zNV p0 p1 W).q
theorem zLt p0 p1 W:∀r,zM1 p0 p1 W=some r->FH 115 [oA 11 p0,.t (.d (.seq 4 (List.map zG p1)))] [] [] (hpA W) (hpA W) (.tup [iT r.1,iT r.2.1,iT r.2.2]):=zN mixed [] Tryz.func115 _
def zOR(J:List zF)(U:List zJ)(I:Int):TT (List zJ) [(List zJ)×Int]:=
.i 29 (decide (I<(J.length:Int))) (λh3=> .b (idx J I) λu W=>
.ix 10 zC W<|
.y 12 true<|
.ln 21 u.Data cU8<|
.b (appI 40 U [(zJ.mk u.Kind u.Key u.Version (u.Data.length:Int))]) λx6 Z=>
.w 24 (appC (c:=zG) Z) (.oe (appE (E:=219) (k:=4) (c:=zG) Z))<|
.y 3 true<|
.k [] .z (x6,(wi (I+1)))) λh3=>
.y 26 true<|
.y 2 true<|
.e U
def zSj(u:List zF):TT (List zJ) []:=
.ln 7 u zC<|
.l [3] (λq=>[(3,.t (.own 219 4 (List.map zG q.1))),(6,.t (.d (.seq 4 (List.map zC u)))),(7,iA (u.length:Int)),(8,iA q.2)]) (u.length+1) (λq=>zOR u q.1 q.2) ([],0)
def zSe p0:=(zSj p0).q
theorem zQq p0:∀r,zSe p0=some r->FP 116 [.t (.d (.seq 4 (List.map zC p0)))] [] (.t (.own 219 4 (List.map zG r))):=zU mixed Tryz.func116 _
def zE5(p0:List zF)(F1:Nat)(C1:(List (List D)))(p1:(zF->Option Bool))(hp1:∀(a0:zF) r,p1 a0=some r->FP F1 ([.t (.agg [iD a0.Kind,sD a0.Key,iD a0.Version,yD a0.Data])]++C1.map A.imm) [] (bA r))(hf1:∃fn,Tryz.prog.funcs[F1]? =some fn/\fn.body.isNone=false/\(fn.name== "runtime.NumGoroutine")=false)(z1:Int):TT Int [Int]:=
.i 29 (decide (z1<(p0.length:Int))) (λh2=> .b (idx p0 z1) λx3 h4=>
.ix 14 zC h4<|
.b (p1 x3) λx5 h6=>
.o 16 (cP (hp1 x3 _ h6) hf1)<|
.i 50 x5 (λh7=> .e z1) λh7=> .no) λh2=> .no
def zC3(p0:List zF)(F1:Nat)(C1:List (List D))(p1:(zF->Option Bool))(hp1:∀(a0:zF) r,p1 a0=some r->FP F1 ([.t (.agg [iD a0.Kind,sD a0.Key,iD a0.Version,yD a0.Data])]++C1.map A.imm) [] (bA r))(hf1:∃fn,Tryz.prog.funcs[F1]? =some fn/\fn.body.isNone=false/\(fn.name== "runtime.NumGoroutine")=false):TT Int []:=
.ln 7 p0 zC<|
.l [] (λz1=>[(0,.t (.d (.seq 4 (List.map zC p0)))),(1,.t (.d (.clo F1 C1))),(7,iA (p0.length:Int)),(8,iA z1)]) (p0.length+1) (λz1=>zE5 p0 F1 C1 p1 hp1 hf1 z1) 0
def zGY(p0:List zF)(F1:Nat)(C1:List (List D))(p1:(zF->Option Bool))(hp1:∀(a0:zF) r,p1 a0=some r->FP F1 ([.t (.agg [iD a0.Kind,sD a0.Key,iD a0.Version,yD a0.Data])]++C1.map A.imm) [] (bA r))(hf1:∃fn,Tryz.prog.funcs[F1]? =some fn/\fn.body.isNone=false/\(fn.name== "runtime.NumGoroutine")=false):Option Int:=(zC3 p0 F1 C1 p1 hp1 hf1).run Env.nil
theorem zFx(p0:List zF)(F1:Nat)(C1:List (List D))(p1:(zF->Option Bool))(hp1:∀(a0:zF) r,p1 a0=some r->FP F1 ([.t (.agg [iD a0.Kind,sD a0.Key,iD a0.Version,yD a0.Data])]++C1.map A.imm) [] (bA r))(hf1:∃fn,Tryz.prog.funcs[F1]? =some fn/\fn.body.isNone=false/\(fn.name== "runtime.NumGoroutine")=false):∀r,zGY p0 F1 C1 p1 hp1 hf1=some r->FP 213 [.t (.d (.seq 4 (List.map zC p0))),.t (.d (.clo F1 C1))] [] (iA r):=zU mixed Tryz.func213 (zC3 p0 F1 C1 p1 hp1 hf1) (by kernel_rfl)
def zCI(p0:List zF)(F1:Nat)(C1:List (List D))(p1:(zF->Option Bool))(hp1:∀(a0:zF) r,p1 a0=some r->FP F1 ([.t (.agg [iD a0.Kind,sD a0.Key,iD a0.Version,yD a0.Data])]++C1.map A.imm) [] (bA r))(hf1:∃fn,Tryz.prog.funcs[F1]? =some fn/\fn.body.isNone=false/\(fn.name== "runtime.NumGoroutine")=false):TT Bool []:=
.fA 7 (zFx p0 F1 C1 p1 hp1 hf1) λx1=>
.e (decide (x1>=0))
def zE8(p0:List zF)(F1:Nat)(C1:List (List D))(p1:(zF->Option Bool))(hp1:∀(a0:zF) r,p1 a0=some r->FP F1 ([.t (.agg [iD a0.Kind,sD a0.Key,iD a0.Version,yD a0.Data])]++C1.map A.imm) [] (bA r))(hf1:∃fn,Tryz.prog.funcs[F1]? =some fn/\fn.body.isNone=false/\(fn.name== "runtime.NumGoroutine")=false):Option Bool:=(zCI p0 F1 C1 p1 hp1 hf1).run Env.nil
theorem zEp(p0:List zF)(F1:Nat)(C1:List (List D))(p1:(zF->Option Bool))(hp1:∀(a0:zF) r,p1 a0=some r->FP F1 ([.t (.agg [iD a0.Kind,sD a0.Key,iD a0.Version,yD a0.Data])]++C1.map A.imm) [] (bA r))(hf1:∃fn,Tryz.prog.funcs[F1]? =some fn/\fn.body.isNone=false/\(fn.name== "runtime.NumGoroutine")=false):∀r,zE8 p0 F1 C1 p1 hp1 hf1=some r->FP 117 [.t (.d (.seq 4 (List.map zC p0))),.t (.d (.clo F1 C1))] [] (bA r):=zU mixed Tryz.func117 (zCI p0 F1 C1 p1 hp1 hf1) (by kernel_rfl)
def zIg(u:zF):TT Bool []:=
.e (u.Kind !=1)
def zDr p0:=(zIg p0).q
theorem zHz p0:∀r,zDr p0=some r->FP 118 [.t (.agg [iD p0.Kind,sD p0.Key,iD p0.Version,yD p0.Data])] [] (bA r):=zU mixed Tryz.func118 _
def zMM(Z:O)(U:Int)(W:Hp):TT (Y×Int) []:=
.fR 10 (zCg Z U W) λx1=>
.iF 38 (x1 !=0) λh3=>
.pS Z λi5 h4=>
.s 60 14 1 h4<|
.b (W.ge_dk i5) λx6 h7=>
.o 17 (ld (zMa h7))<|
.b (W.ge_sec x6.now_.1) λx8 h9=>
.b (lenI x8.length x6.now_.2) λα J=>
.b (idx x8 U) λI u=>
.c 19 (idxV (yR J) u)<|
.o 20 (lrA (zW4 h9) (flr_at (k:=64) u (λ_=>(by kernel_rfl))))<|
.o 7 (lnew 0 (fl (dT cU8) (padA (0:UInt8) ([]:Y) 0 64)))<|
.o 22 (lstW (OB+0) (fl (dT cU8) (padA (0:UInt8) I 0 64)))<|
.o 21 (sla)<|
.e ((padA (0:UInt8) I 0 64),0)
def zF7 p0 p1 W:=(zMM p0 p1 W).q
theorem zKh p0 p1 W:∀r,zF7 p0 p1 W=some r->FH 278 [oA 1 p0,iA p1] [] [gbA cU8 r.1] (hpA W) (hpA W) (.tup [.view 0 0 0 1 r.1.length,iT r.2]):=zN mixed [0] Tryz.func278 _
def zOT(U:O)(Z:Int)(W:Hp):TT (Y×Int) []:=
.fR 8 (zAq U W) λx1=>
.iF 32 (x1 !=0) λh3=>
.iF 45 (decide (Z<0)) λh4=>
.fR 17 (zAu U W) λx5=>
.iF 59 (decide (Z>=x5)) λh7=>
.pS U λi9 h8=>
.s 84 20 3 h8<|
.b (W.ge_lg i9) λI β=>
.o 23 (ld (zAm β))<|
.fR 26 (zEt U Z W) λJ=>
.b (zF7 I.d_ J W) λu α=>
.o 27 (cOR [] [0] (zKh I.d_ J W _ α) yH (zSO cU8 u.1))<|
.e (u.1,u.2)
def zIK p0 p1 W:=(zOT p0 p1 W).q
theorem zMG p0 p1 W:∀r,zIK p0 p1 W=some r->FH 283 [oA 3 p0,iA p1] [] [gbA cU8 r.1] (hpA W) (hpA W) (.tup [.view 0 0 0 1 r.1.length,iT r.2]):=zN mixed [0] Tryz.func283 _
def zOu(Z:O)(I:Int)(W:Hp):TT (Y×Int) []:=
.fR 10 (zCh Z W) λx1=>
.iF 38 (x1 !=0) λh3=>
.pS Z λi5 h4=>
.s 64 15 5 h4<|
.b (W.ge_tx i5) λJ h7=>
.o 18 (ld (zLN h7))<|
.b (W.ge_mp J.now_) λx8 h9=>
.o 20 (mlkH (kv:=(λz:Int=>Value.int .i64 z)) (vT:=(λv=>T.d ((λl:List UInt8=>D.seq 1 (zV l)) v))) (gl_mp h9) I (zU3 (kt:=3) (by kernel_rfl)) (z:=([]:Y)) (λ_=>RepD.nilSeq _ _))<|
.iF 71 ((zC5 x8 I).isSome) λα=>
.s 108 26 5 h4<|
.o 29 (ld (zLN h7))<|
.b (zIK J.l_ I W) λu U=>
.o 31 (cOR [] [0] (zMG J.l_ I W _ U) yH (zSO cU8 u.1))<|
.e (u.1,u.2)
def zID p0 p1 W:=(zOu p0 p1 W).q
theorem zL7 p0 p1 W:∀r,zID p0 p1 W=some r->FH 198 [oA 5 p0,iA p1] [] [gbA cU8 r.1] (hpA W) (hpA W) (.tup [.view 0 0 0 1 r.1.length,iT r.2]):=zN mixed [0] Tryz.func198 _
def zGQ(I:(Y×Int))(u:Int):TT (Y×Int) []:=
.e (I.1,u)
def zIa(p0:O)(J:Int)(W:Hp):TT (Y×Int) []:=
.pS p0 λi2 U=>
.s 36 8 7 U<|
.s 48 11 7 U<|
.b (W.ge_ix i2) λZ h4=>
.o 14 (ld (zVa h4))<|
.b (zID Z.t_ J W) λu h6=>
.o 16 (cOR [] [0] (zL7 Z.t_ J W _ h6) yH (zSO cU8 u.1))<|
.j 26 (λI=>[(6,.t (.view 0 0 0 1 u.1.length)),(7,iA I),((OB+0),gbA cU8 u.1),kH W]) (λI=>zGQ u I)<|
.iF 62 (u.2==31) λh8=>
.k [] .z u.2
def zDo p0 p1 W:=(zIa p0 p1 W).q
theorem zGl p0 p1 W:∀r,zDo p0 p1 W=some r->FH 297 [oA 7 p0,iA p1] [] [gbA cU8 r.1] (hpA W) (hpA W) (.tup [.view 0 0 0 1 r.1.length,iT r.2]):=zN mixed [0] Tryz.func297 _
def zMu(p0:O)(u:zAj)(p2:Int)(W:Hp):TT (Int×Hp) []:=
.b (zDo p0 u.home_ W) λI h2=>
.o 13 (cOR [] [0] (zGl p0 u.home_ W _ h2) yH (zSO cU8 I.1))<|
.iF 53 (I.2 !=0) λh3=>
.b (vcut I.1.length u.off_ (wi (u.off_+4))) λx4 h5=>
.o 25 (lsl (off':=(0+Int.toNat u.off_*1)) (n':=(Int.toNat (wi (u.off_+4))-Int.toNat u.off_)) (zBW h5))<|
.b (neI I.1) λx6 h7=>
.t 108 (OB+0) (gb_ne (c:=cU8) (neI_N h7))<|
.b (zB9 I.1 (0+Int.toNat u.off_*1) (Int.toNat (wi (u.off_+4))-Int.toNat u.off_) p2) λU h9=>
.b (lenI U.length I.1.length) λε γ=>
.o 27 (cOR [0] [] (zB0 I.1 (0+Int.toNat u.off_*1) (Int.toNat (wi (u.off_+4))-Int.toNat u.off_) p2 W _ h9) (zBA _ _ yH) (zBA _ _ yH))<|
.f 22 (frzB (c:=cU8) (k:=1) 7 0 (y:=U) (λ_=>rfl) (f:=hpA W) (n0:=I.1.length) ((yR γ).trans rfl).symm [obB 0 cU8 U,obH (hpA W)])<|
.pS p0 λβ Z=>
.s 116 28 7 Z<|
.b (W.ge_ix β) λδ α=>
.o 31 (ld (zVa α))<|
.fH 35 (zAp δ.t_ u.home_ U W) λJ=>
.e (J.1,J.2)
def zMk p0 p1 p2 W:=(zMu p0 p1 p2 W).q
theorem zKd p0 p1 p2 W:∀r,zMk p0 p1 p2 W=some r->FH 229 [oA 7 p0,.t (.agg [iD p1.home_,iD p1.off_]),iA p2] [] [] (hpA W) (hpA r.2) (iA r.1):=zN mixed [0] Tryz.func229 _
def zJw(I:List Int)(J u:Int):TT Int [Int]:=
.i 29 (decide (u<(I.length:Int))) (λU=> .b (idx I u) λW Z=>
.ix 14 cI64 Z<|
.iF 50 (J==W) λh5=>
.k [] .z (wi (u+1))) λU=>
.e (-1)
def zL6(u:List Int)(J:Int):TT Int []:=
.ln 7 u cI64<|
.l [] (λI=>[(0,.t (.d (.seq 1 (List.map cI64 u)))),(1,iA J),(7,iA (u.length:Int)),(8,iA I)]) (u.length+1) (λI=>zJw u J I) 0
def zMb p0 p1:=(zL6 p0 p1).q
theorem zLO p0 p1:∀r,zMb p0 p1=some r->FP 301 [.t (.d (.seq 1 (List.map cI64 p0))),iA p1] [] (iA r):=zU mixed Tryz.func301 _
def zI6(J:List Int)(u:Int):TT Bool []:=
.fA 7 (zLO J u) λI=>
.e (decide (I>=0))
def zJr p0 p1:=(zI6 p0 p1).q
theorem zIj p0 p1:∀r,zJr p0 p1=some r->FP 228 [.t (.d (.seq 1 (List.map cI64 p0))),iA p1] [] (bA r):=zU mixed Tryz.func228 _
def zPB(I:List Int)(u:Int):TT Bool [Int]:=
.i 26 (decide (u<(I.length:Int))) (λW=> .b (idx I u) λJ h4=>
.ix 10 cI64 h4<|
.iF 45 (decide (J<1)) λh5=>
.iF 57 (decide (J>16384)) λh6=>
.b (cutI I 0 u) λZ U=>
.w 21 (zVg (c:=cI64) U) (.oe (zUB (k:=1) (c:=cI64) U))<|
.fA 23 (zIj Z J) λx9=>
.iF 74 x9 λα=>
.k [] .z (wi (u+1))) λW=>
.e true
def zTg(u:List Int):TT Bool []:=
.ln 6 u cI64<|
.l [] (λI=>[(0,.t (.d (.seq 1 (List.map cI64 u)))),(5,.t (.d (.seq 1 (List.map cI64 u)))),(6,iA (u.length:Int)),(7,iA I)]) (u.length+1) (λI=>zPB u I) 0
def zTk p0:=(zTg p0).q
theorem zSW p0:∀r,zTk p0=some r->FP 231 [.t (.d (.seq 1 (List.map cI64 p0)))] [] (bA r):=zU mixed Tryz.func231 _
abbrev zAe(a:Y):List A:=[yA a]
def zGO{X:Type}(yld:(Y->X×Hp->Option (Bool×(X×Hp))))(z:(Option (ItC Tryz.prog hpA zAe X yld)))(I:Y)(J:Int)(u:Int)(Z:(X×Hp)):TT (X×Hp) [Int×(X×Hp)]:=
.ln 8 I cU8<|
.i 29 (decide (u<(I.length:Int))) (λh3=> .b (cutI I u (I.length:Int)) λU h5=>
.w 16 (zUj (c:=cU8) h5) (.oe (zVG (k:=1) (c:=cU8) h5))<|
.ln 17 U cU8<|
.b (cutI I u (wi (u+(if(U.length:Int)<J then(U.length:Int)else J)))) λx6 W=>
.w 28 (cutC3 (c:=cU8) W) (.oe (cutE (k:=1) (c:=cU8) W))<|
.b (yld x6 Z) λx8 h9=>
.vv 29 (yr z h9)<|
.iF 92 (!x8.1) λα=>
.k [] .z ((wi (u+J)),x8.2)) λh3=>
.e Z
def zDq{X:Type}(yld:Y->X×Hp->Option (Bool×(X×Hp)))(z:Option (ItC Tryz.prog hpA zAe X yld))(u:Y)(I:Int)(W:X×Hp):TT (X×Hp) []:=
.l [] (λq=>[(0,.t (.d (.lit (yv (itL z))))),(1,.imt [yT u]),(2,.imt [iT I]),(4,iA q.1),(HK,.hp (itH z q.2))]) (u.length+1) (λq=>zGO yld z u I q.1 q.2) (0,W)
def zDp{X:Type}(yld:Y->X×Hp->Option (Bool×(X×Hp)))(I:Y)(u:Int)(W:X×Hp):Option (X×Hp):=(zDq yld none I u W).run Env.nil
theorem zHf(I:Y)(u:Int):ITR Tryz.prog 303 [[yT I],[iT u]] hpA zAe (λX yld q=>zDp yld I u q):=itr_chk mixed Tryz.func303 [] (λX yld z q=>zDq yld z I u q) (λ_ _ _ _=>rfl) (by kernel_rfl)
def zFf(I:Y)(u:Int):TT (Y×Int) []:=
.iF 20 (decide (u<1)) λJ=>
.f 14 (fzT 2)<|
.f 14 (fzT 3)<|
.e (I,u)
def zLE p0 p1:=(zFf p0 p1).q
theorem zJz(I:Y)(u:Int)(W:Hp):∀r,zLE I u=some r->FH 232 [yA I,iA u] [] [] (hpA W) (hpA W) (.cl 303 [[yT r.1],[iT r.2]]):=zN mixed [] Tryz.func232 (zFf I u) (by kernel_rfl)
def zSL(γ:Y)(J:Hp)(p1:List Int)(U:Int)(i2:Nat)(W:Int)(u:Y):TT (Bool×(Int×Int)×Hp) []:=
.b (vcut u.length 4 (u.length:Int)) λθ ζ=>
.o 57 (lsl (off':=(0+Int.toNat 4*1)) (n':=(Int.toNat (u.length:Int)-Int.toNat 4)) (zBW ζ))<|
.b (cpyI u (0+Int.toNat 4*1) (Int.toNat (u.length:Int)-Int.toNat 4) γ) λI δ=>
.b (lenI I.length u.length) λη β=>
.o 59 (cpy (c:=cU8) 0 (λ_=>rfl) δ)<|
.f 62 (frzB (c:=cU8) (k:=1) 10 0 (y:=I) (λ_=>rfl) (f:=hpA J) (n0:=u.length) ((yR β).trans rfl).symm [obB 0 cU8 I,obH (hpA J)])<|
.b (idx p1 U) λε α=>
.ix 63 cI64 α<|
.fH 66 (zAp (some i2) ε I J) λZ=>
.iF 206 (Z.1 !=0) λι=>
.e (true,(W,(wi (U+1))),Z.2)
def zHN(i2:Nat)(Z:List Int)(α:Y)(W J:Int)(β:Hp):TT (Bool×(Int×Int)×Hp) []:=
.b (mkI 1 64) λu γ=>
.o 38 (mkl false 0 (c0:=dT cU8 (0:UInt8)) γ (zOC (c:=cU8) (z:=(0:UInt8)) (by kernel_rfl) u))<|
.j 58 (λI=>[(3,.box [.opt 5 (some i2)]),(4,.box [.d (.seq 1 (List.map cI64 Z))]),(6,.box [iT 0]),(7,.box [iT W]),(8,.box [iT J]),(9,yA α),(10,.t (.view 0 0 5 1 I.length)),((OB+0),.box (fl (dT cU8) I)),kH β]) (λI=>zSL α β Z J i2 W I)<|
.ln 42 Z cI64<|
.i 131 (decide ((wi (J+1))<(Z.length:Int))) (λι=> .b (idx Z (wi (J+1))) λθ ζ=>
.ix 48 cI64 ζ<|
.fA 50 (zBn θ 4) λε=>
.b (cpyI (List.replicate u (0:UInt8)) 0 u ε.1) λU η=>
.b (lenI U.length (List.replicate u (0:UInt8)).length) λκ δ=>
.o 55 (cpy (c:=cU8) 0 (λ_=>rfl) η)<|
.t 9 10 (vwE (n:=u) (n':=U.length) 0 0 5 1 ((yR δ).trans wW).symm)<|
.k [] .z U) λι=>
.t 9 10 (vwE (n:=u) (n':=(List.replicate u (0:UInt8)).length) 0 0 5 1 wW.symm)<|
.k [] .z (List.replicate u (0:UInt8))
theorem zRZ(u:Nat)(I:List Int):RndOK Tryz.prog 133 0 [3,4,6,7,8] [37] zAe hpA (λb:(Int×Int)=>[[.opt 5 (some u)],[.d (.seq 1 (List.map cI64 I))],[iT 0],[iT b.1],[iT b.2]]) [kF 0] (λ(a:Y) (b:(Int×Int)) w=>(zHN u I a b.1 b.2 w).run Env.nil):=rnd_chk mixed Tryz.func133 0 (λ(a:Y) (b:(Int×Int)) w=>zHN u I a b.1 b.2 w) (by kernel_rfl)
def zR2(p0:O)(U:List Int)(J:Y)(W:Hp):TT (Int×Int×Hp) []:=
.p p0 (λ_=> .no) λi2 h1=>
.s 5 0 5 h1<|
.ln 16 J cU8<|
.fA 17 (zLq (J.length:Int)) λx3=>
.iF 44 (!x3) λh5=>
.ln 21 U cI64<|
.ln 23 J cU8<|
.fA 24 (zDb (J.length:Int)) λx6=>
.iF 81 ((U.length:Int) !=x6) λh8=>
.fA 28 (zSW U) λx9=>
.iF 59 (!x9) λε=>
.ln 33 J cU8<|
.iF 95 ((J.length:Int)==0) λδ=>
.fR 36 (zJz J 60 W) λI=>
.b (zDp (lpY (λ(a:Y) (b:(Int×Int)) w=>(zHN i2 U a b.1 b.2 w).run Env.nil)) I.1 I.2 ((true,(0,0)),W)) λu α=>
.rr (rg 36 [3] (zHf I.1 I.2) (zRZ i2 U) α nc_hpA (λ_=>rfl) (λb=>(all_cons (p:=nzC) (zHu rfl zCu) (all_cons (p:=nzC) (zMF zCu) (all_cons (p:=nzC) (zMF zCu) (all_cons (p:=nzC) (zMF zCu) (all_cons (p:=nzC) (zMF zCu) all_nil)))))) (λ_=>⟨rfl,rfl⟩) ⟨.inr ⟨rfl,rfl⟩,trivial⟩) u.1.1 (λγ=>
.b (idx U 0) λβ Z=>
.ix 73 cI64 Z<|
.e (β,0,u.2)) ((0,u.1.2.1,u.2))
def zYA p0 p1 p2 W:=(zR2 p0 p1 p2 W).q
theorem zVJ(J:O)(u:List Int)(I:Y)(W:Hp):∀r,zYA J u I W=some r->FH 133 [oA 5 J,.t (.d (.seq 1 (List.map cI64 u))),yA I] [] [] (hpA W) (hpA r.2.2) (.tup [iT r.1,iT r.2.1]):=zXB mixed [0] Tryz.func133 (zR2 J u I W) (by kernel_rfl)
def zKU(I:O)(p2:yO)(W:Hp)(p1:Int):TT (Int×Hp) []:=
.fR 52 (zEy I p2.Key W) λx1=>
.iF 176 (x1.2.2.2 !=35) λh3=>
.fA 65 (zCU p2.Key) λx5=>
.fR 72 (zCn I x5.1 W) λx7=>
.fR 73 (zEY I x7 W) λx9=>
.iF 233 (x9.2 !=0) λζ=>
.pS I λδ β=>
.s 320 79 7 β<|
.b (W.ge_ix δ) λα γ=>
.o 82 (ld (zVa γ))<|
.fR 87 (zEv (qM.mk p2 x9.1) W) λU=>
.fH 88 (zAp α.t_ p1 U W) λu=>
.iF 272 (u.1 !=0) λε=>
.fR 95 (zCn I x5.1 u.2) λZ=>
.fH 97 (zKd I Z p1 u.2) λJ=>
.e (J.1,J.2)
def zNJ(p0:O)(I:Int)(J:yO)(W:Hp):TT (Int×Hp) []:=
.j 14 (λ_=>[(0,oA 7 p0),(1,iA I),(5,.box [sT J.Key,iT J.Version,iT J.Len,iT J.First]),kH W]) (λ_=>zKU p0 J W I)<|
.fA 17 (zOK J) λβ=>
.iF 60 (!β) λε=>
.iF 72 (decide (I<1)) λζ=>
.iF 84 (decide (I>16384)) λγ=>
.pS p0 λZ u=>
.s 116 28 7 u<|
.s 132 32 7 u<|
.b (W.ge_ix Z) λx32 U=>
.o 35 (ld (zVa U))<|
.i 117 (decide (I>=x32.table_)) (λα=> .s 164 40 7 u<|
.o 43 (ld (zVa U))<|
.iF 143 (decide ((wi (I-x32.table_))<4)) λδ=>
.k [] .z ()) λα=> .no
def zNZ p0 p1 p2 W:=(zNJ p0 p1 p2 W).q
theorem zLL p0 p1 p2 W:∀r,zNZ p0 p1 p2 W=some r->FH 134 [oA 7 p0,iA p1,.t (.agg [sD p2.Key,iD p2.Version,iD p2.Len,iD p2.First])] [] [] (hpA W) (hpA r.2) (iA r.1):=zN mixed [] Tryz.func134 _
def zOg(p0:O)(p1:yO)(p2:Y)(p3:Bool)(W:Hp):TT (Int×Hp) []:=
.pS p0 λU h1=>
.s 56 13 11 h1<|
.b (W.ge_vw U) λx3 h4=>
.o 16 (ld (zDG h4))<|
.ln 18 p2 cU8<|
.fA 19 (zDb (p2.length:Int)) λx5=>
.fH 20 (zCp x3.p_ x5 W) λZ=>
.iF 74 (Z.2.1 !=0) λh9=>
.s 112 27 11 h1<|
.b (Z.2.2.ge_vw U) λη γ=>
.o 30 (ld (zDG γ))<|
.fH 33 (zVJ η.t_ Z.1 p2 Z.2.2) λu=>
.iF 116 (u.2.1 !=0) λι=>
.iF 122 p3 λκ=>
.s 196 48 11 h1<|
.b (u.2.2.ge_vw U) λα δ=>
.o 51 (ld (zDG δ))<|
.fH 52 (zCp α.p_ 1 u.2.2) λI=>
.iF 170 (I.2.1 !=0) λμ=>
.s 236 58 11 h1<|
.b (I.2.2.ge_vw U) λε θ=>
.o 61 (ld (zDG θ))<|
.b (idx I.1 0) λζ β=>
.ix 63 cI64 β<|
.fH 66 (zLL ε.x_ ζ (yO.mk p1.Key p1.Version p1.Len u.1) I.2.2) λJ=>
.e (J.1,J.2)
def zOp p0 p1 p2 p3 W:=(zOg p0 p1 p2 p3 W).q
theorem zML p0 p1 p2 p3 W:∀r,zOp p0 p1 p2 p3 W=some r->FH 216 [oA 11 p0,.t (.agg [sD p1.Key,iD p1.Version,iD p1.Len,iD p1.First]),yA p2,bA p3] [] [] (hpA W) (hpA r.2) (iA r.1):=zN mixed [] Tryz.func216 _
end
set_option maxRecDepth 20000
noncomputable section
def zIm(W:O)(U:zF)(I:qE)(J:(yO×Int×Int))(z3:Hp)(Z:Int):TT (Int×Hp) [Int×Hp]:=
.fH 92 (zML W (yO.mk U.Key I.h_.count_ (U.Data.length:Int) 0) U.Data (J.2.2==0) z3) λu=>
.iF 284 (u.1 !=0) λα=>
.k [] .z ((wi (Z+1)),u.2)
def zIQ(W:List zF)(p0:O)(z2:Int)(U:Hp):TT (Int×Hp) [Int×Hp]:=
.i 155 (decide (z2<(W.length:Int))) (λh4=> .b (idx W z2) λu h6=>
.ix 52 zC h6<|
.iF 170 (u.Kind !=2) λh7=>
.pS p0 λi9 h8=>
.s 240 59 11 h8<|
.b (U.ge_vw i9) λJ Z=>
.o 63 (ld (zDG Z))<|
.ln 66 u.Data cU8<|
.s 280 69 11 h8<|
.o 72 (ld (zDG Z))<|
.fR 75 (zCv J.x_ u.Key U) λI=>
.j 86 (λ_=>[(0,oA 11 p0),(10,.box [iT u.Kind,sT u.Key,iT u.Version,yT u.Data]),(11,.box [sT u.Key,iT J.h_.count_,iT (u.Data.length:Int),iT 0]),(14,iA I.2.2),(48,.t (.d (.seq 4 (List.map zC W)))),(49,iA (W.length:Int)),(50,iA z2),kH U]) (λ_=>zIm p0 u J I U z2)<|
.i 246 (I.2.2 !=0) (λα=> .iF 254 (I.2.2 !=35) λβ=>
.k [] .z ()) λα=> .no) λh4=>
.e (0,U)
def zIM(u:List zF)(I:O)(J:Hp):TT (Int×Hp) []:=
.ln 49 u zC<|
.l [] (λq=>[(0,oA 11 I),(48,.t (.d (.seq 4 (List.map zC u)))),(49,iA (u.length:Int)),(50,iA q.1),kH q.2]) (u.length+1) (λq=>zIQ u I q.1 q.2) (0,J)
def zIY(p1:List zF)(p0:O)(u:Int)(J:Hp):TT (Int×Hp) [Int×Hp,Hp]:=
.i 59 (decide (u<(p1.length:Int))) (λU=> .b (idx p1 u) λI W=>
.ix 20 zC W<|
.iF 78 (I.Kind==1) λα=>
.i 89 (I.Version==0) (λZ=> .k [] .z ((wi (u+1)),J)) λZ=> .no) λU=>
.k [] (.s .z) J
def zLD(I:O)(u:List zF)(W:Hp):TT (Int×Hp) []:=
.j 54 (λJ=>[(0,oA 11 I),(1,.t (.d (.seq 4 (List.map zC u)))),kH J]) (λJ=>zIM u I J)<|
.ln 17 u zC<|
.l [] (λq=>[(0,oA 11 I),(1,.t (.d (.seq 4 (List.map zC u)))),(16,.t (.d (.seq 4 (List.map zC u)))),(17,iA (u.length:Int)),(18,iA q.1),kH q.2]) (u.length+1) (λq=>zIY u I q.1 q.2) (0,W)
def zLl p0 p1 W:=(zLD p0 p1 W).q
theorem zJG p0 p1 W:∀r,zLl p0 p1 W=some r->FH 119 [oA 11 p0,.t (.d (.seq 4 (List.map zC p1)))] [] [] (hpA W) (hpA r.2) (iA r.1):=zN mixed [] Tryz.func119 _
def zOQ(p0:O)(W:Hp):TT (Int×Hp) []:=
.pS p0 λi2 J=>
.s 16 3 11 J<|
.b (W.ge_vw i2) λx3 h4=>
.o 6 (ld (zDG h4))<|
.pS x3.s_ λi6 h5=>
.s 28 6 10 h5<|
.b (W.ge_st i6) λx7 h8=>
.o 9 (ldS (zIc h8))<|
.s 44 10 11 J<|
.o 13 (ld (zDG h4))<|
.s 60 14 11 J<|
.o 17 (ldS (zDG h4))<|
.fH 18 (zCl x7.geometry_ x3.t_ x3.h_ W) λx9=>
.s 80 19 11 J<|
.b (x9.ge_vw i2) λu I=>
.o 22 (ld (zDG I))<|
.pS u.s_ λζ α=>
.s 92 22 10 α<|
.b (x9.ge_st ζ) λγ δ=>
.o 25 (ldS (zIc δ))<|
.s 108 26 11 J<|
.o 29 (ld (zDG I))<|
.s 124 30 11 J<|
.o 33 (ld (zDG I))<|
.fH 34 (zCV γ.geometry_ u.t_ u.p_ x9) λZ=>
.s 144 35 11 J<|
.b (Z.ge_vw i2) λβ ε=>
.o 38 (ld (zDG ε))<|
.fH 39 (zGG β.t_ Z) λU=>
.e (U.1,U.2)
def zOc p0 W:=(zOQ p0 W).q
theorem zMe p0 W:∀r,zOc p0 W=some r->FH 120 [oA 11 p0] [] [] (hpA W) (hpA r.2) (iA r.1):=zN mixed [] Tryz.func120 _
def zLd(p0:O)(p1:List zF)(W:Hp):TT (Int×Int×Hp) []:=
.fH 14 (zCd p0 W) λx1=>
.iF 56 (x1.2.1 !=0) λh3=>
.fA 23 (zQq p1) λx4=>
.fR 24 (zLt x1.1 x4 x1.2.2) λI=>
.iF 89 (I.2.2 !=0) λh8=>
.fA 32 (zEp p1 118 [] zDr zHz ⟨_,Tryz.func118,rfl,rfl⟩) λx9=>
.iF 101 (!x9) λν=>
.pS x1.1 λJ U=>
.s 172 39 11 U<|
.b (x1.2.2.ge_vw J) λu β=>
let δ:qE:=(qE.mk u.s_ u.t_ u.x_ (zT.mk u.h_.count_ u.h_.quota_ I.1 u.h_.keys_) u.p_);let ζ:=(x1.2.2.st_vw J δ);.o 78 (stw (zDG β) (su_vw (x':=δ) β))<|
have α:ζ.ge_vw J=some δ:=(zFq β);.s 184 40 11 U<|
let Z:qE:=(qE.mk u.s_ u.t_ u.x_ (zT.mk ((zT.mk u.h_.count_ u.h_.quota_ I.1 u.h_.keys_).count_) ((zT.mk u.h_.count_ u.h_.quota_ I.1 u.h_.keys_).quota_) ((zT.mk u.h_.count_ u.h_.quota_ I.1 u.h_.keys_).bytes_) I.2.1) u.p_);let ε:=(ζ.st_vw J Z);.o 74 (stw (zDG α) (su_vw (x':=Z) α))<|
have γ:ε.ge_vw J=some Z:=(zFq α);.s 200 49 11 U<|
.o 53 (ld (zDG γ))<|
let θ:qE:=(qE.mk u.s_ u.t_ u.x_ (zT.mk (wi (Z.h_.count_+1)) ((zT.mk ((zT.mk u.h_.count_ u.h_.quota_ I.1 u.h_.keys_).count_) ((zT.mk u.h_.count_ u.h_.quota_ I.1 u.h_.keys_).quota_) ((zT.mk u.h_.count_ u.h_.quota_ I.1 u.h_.keys_).bytes_) I.2.1).quota_) ((zT.mk ((zT.mk u.h_.count_ u.h_.quota_ I.1 u.h_.keys_).count_) ((zT.mk u.h_.count_ u.h_.quota_ I.1 u.h_.keys_).quota_) ((zT.mk u.h_.count_ u.h_.quota_ I.1 u.h_.keys_).bytes_) I.2.1).bytes_) ((zT.mk ((zT.mk u.h_.count_ u.h_.quota_ I.1 u.h_.keys_).count_) ((zT.mk u.h_.count_ u.h_.quota_ I.1 u.h_.keys_).quota_) ((zT.mk u.h_.count_ u.h_.quota_ I.1 u.h_.keys_).bytes_) I.2.1).keys_)) u.p_);let κ:=(ε.st_vw J θ);.o 74 (stw (zDG γ) (su_vw (x':=θ) γ))<|
.fH 60 (zJG x1.1 p1 κ) λη=>
.iF 188 (η.1 !=0) λξ=>
.fH 65 (zMe x1.1 η.2) λx32=>
.iF 203 (x32.1 !=0) λπ=>
.s 280 69 11 U<|
.b (x32.2.ge_vw J) λμ ι=>
.o 73 (ld (zDG ι))<|
.e (μ.h_.count_,0,x32.2)
def zLr p0 p1 W:=(zLd p0 p1 W).q
theorem zIp p0 p1 W:∀r,zLr p0 p1 W=some r->FH 32 [oA 10 p0,.t (.d (.seq 4 (List.map zC p1)))] [] [] (hpA W) (hpA r.2.2) (.tup [iT r.1,iT r.2.1]):=zN mixed [] Tryz.func32 _
def zRK(I:Int):TT Bool []:=
.i 18 (I==120) (λu=> .e true) λu=> .no
def zRI p0:=(zRK p0).q
theorem zPC p0:∀r,zRI p0=some r->FP 179 [iA p0] [] (bA r):=zU mixed Tryz.func179 _
def zUq(u:Y)(I:Int):TT (Y×Int) []:=
.fA 10 (zPC I) λx1=>
.iF 26 (!x1) λh3=>
.ln 14 u cU8<|
.iF 38 (decide ((u.length:Int)>(wi (I-2)))) λh4=>
.ln 20 u cU8<|
.b (zAG (u.length:Int) 2) λx5 W=>
.o 21 (cA (zUD (u.length:Int) 2 _ W))<|
.o 18 mvt<|
.o 22 xt<|
.y 6 true<|
.y 24 true<|
.b (appI 1 x5.1 u) λZ U=>
.w 26 (appC (c:=cU8) U) (.oe (appE (E:=5) (k:=1) (c:=cU8) U))<|
.ln 30 u cU8<|
.b (apzI 1 Z.length (wi ((wi (I-2))-(u.length:Int)))) λx9 J=>
.o 32 (apz (e0:=5) 26 (apzC (c:=cU8) J) (apzE (c:=cU8) (a:=0) (z:= .int .u8 0) rfl))<|
.y 4 true<|
.e ((Z++List.replicate x9 0),0)
def zUz p0 p1:=(zUq p0 p1).q
theorem zTT p0 p1:∀r,zUz p0 p1=some r->FP 90 [yA p0,iA p1] [] (.tup [yT r.1,iT r.2]):=zU mixed Tryz.func90 _
def zNU(I:V)(U:List V):TT (Y×Int) []:=
.fA 44 (zFT (V.mk I.k I.n [] U)) λJ=>
.iF 146 (J.2 !=0) λZ=>
.fA 51 (zTT J.1 120) λu=>
.e (u.1,u.2)
def zM4(U:List Y)(u:List V)(I:Int):TT (Y×Int) [(List V)×Int,(List V)]:=
.iF 95 (decide (I<(U.length:Int))) λJ=>
.k [] (.s .z) u
def zNb(u:V)(I:List Y)(U:List V):TT (Y×Int) []:=
.j 50 (λJ=>[(6,.box [iT u.k,iT u.n,nT,.own 163 4 (List.map V.cells J)])]) (λJ=>zNU u J)<|
.ln 29 I (cSl 1 cU8)<|
.l [] (λq=>[(6,.box [iT u.k,iT u.n,nT,.own 163 4 (List.map V.cells q.1)]),(28,.t (.d (.seq 1 (List.map (cSl 1 cU8) I)))),(29,iA (I.length:Int)),(30,iA q.2)]) (I.length+1) (λq=>zM4 I q.1 q.2) (U,0)
def zNX(p0:List Int)(U:List V)(I:Int):TT (Y×Int) [(List V)×Int,(List V)]:=
.i 53 (decide (I<(p0.length:Int))) (λZ=> .b (idx p0 I) λW β=>
.ix 18 cI64 β<|
.y 21 true<|
.fA 23 (zAA W) λu=>
.w 24 trivial (show WkA (.t (.own 163 4 [[iD u.k,iD u.n,nD,nD]])) _ from(.t (.rows _ _ (.cons (.cons (.refl _) (.cons (.refl _) (.cons (.nil _) (.cons (.nil _) .nil)))) .nil) (zMc V.cells_eq [(V.mk u.k u.n [] [])]))))<|
.b (appI 64 U [(V.mk u.k u.n [] [])]) λα J=>
.w 25 (appC (c:=V.cells) J) (.oe (appE (E:=163) (k:=4) (c:=V.cells) J))<|
.k [] .z (α,(wi (I+1)))) λZ=>
.k [] (.s .z) U
def zQ4(u:List Int)(J:List Y):TT (Y×Int) []:=
.b (zAa) λI Z=>
.o 13 (cA (zCx _ Z))<|
.j 30 (λU=>[(1,.t (.d (.seq 1 (List.map (cSl 1 cU8) J)))),(6,.box [iT I.k,iT I.n,nT,.own 163 4 (List.map V.cells U)])]) (λU=>zNb I J U)<|
.ln 15 u cI64<|
.l [6] (λq=>[(1,.t (.d (.seq 1 (List.map (cSl 1 cU8) J)))),(6,.box [iT I.k,iT I.n,nT,.own 163 4 (List.map V.cells q.1)]),(14,.t (.d (.seq 1 (List.map cI64 u)))),(15,iA (u.length:Int)),(16,iA q.2)]) (u.length+1) (λq=>zNX u q.1 q.2) ([],0)
def zQi p0 p1:=(zQ4 p0 p1).q
theorem zPe p0 p1:∀r,zQi p0 p1=some r->FP 73 [.t (.d (.seq 1 (List.map cI64 p0))),.t (.d (.seq 1 (List.map (cSl 1 cU8) p1)))] [] (.tup [yT r.1,iT r.2]):=zU mixed Tryz.func73 _
def zVC(I:List Y):TT Y []:=
.fA 4 (zPY I [47]) λu=>
.e u
def zU2 p0:=(zVC p0).q
theorem zMV p0:∀r,zU2 p0=some r->FP 74 [.t (.d (.seq 1 (List.map cStr p0)))] [] (sA r):=zU mixed Tryz.func74 _
def zBT(I u:Y):TT Bool []:=
.iF 33 (decide ((I.length:Int)>=(u.length:Int))) λJ=>
.e false
def zDm(I u:Y):Option Bool:=(zBT I u).run Env.nil
theorem zDS(I u:Y):∀r,zDm I u=some r->FP 225 [sA I,sA u] [] (bA r):=zU mixed Tryz.func225 (zBT I u) (by kernel_rfl)
def zFP(J u:Y):TT Bool []:=
.fA 7 (zDS J u) λI=>
.e I
def zLZ(I u:Y):Option Bool:=(zFP I u).run Env.nil
theorem zKR(I u:Y):∀r,zLZ I u=some r->FP 124 [sA I,sA u] [] (bA r):=zU mixed Tryz.func124 (zFP I u) (by kernel_rfl)
def zJL(U:O)(I:Y)(W:Hp):TT (Int×Int×Int×Hp) []:=
.pS U λi2 h1=>
.s 48 11 12 h1<|
.b (W.ge_sv i2) λx3 Z=>
.o 14 (ld (gl_sv Z))<|
.fA 17 (zMV [[116],I]) λx5=>
.fH 18 (zFO x3.s_ x5 W) λu=>
.i 71 (u.2.1==35) (λJ=> .e (0,0,0,u.2.2)) λJ=> .no
def zJU p0 p1 W:=(zJL p0 p1 W).q
theorem zHh p0 p1 W:∀r,zJU p0 p1 W=some r->FH 313 [oA 12 p0,sA p1] [] [] (hpA W) (hpA r.2.2.2) (.tup [iT r.1,iT r.2.1,iT r.2.2.1]):=zN mixed [] Tryz.func313 _
def zGm(p0:O)(u:zB)(W:Hp):TT (Int×Hp) []:=
.fH 26 (zHh p0 u.User W) λI=>
.iF 92 (I.2.2.1 !=0) λh3=>
.iF 104 (I.2.1==u.Number) λh4=>
.iF 119 (decide (I.2.1>u.Number)) λh5=>
.fA 48 (zPe [u.Number] []) λx6=>
.iF 158 (x6.2 !=0) λh8=>
.pS p0 λγ h9=>
.s 224 55 12 h9<|
.b (I.2.2.2.ge_sv γ) λU α=>
.o 58 (ld (gl_sv α))<|
.fA 64 (zMV [[116],u.User]) λβ=>
.b (appI 56 u.Changes [(zF.mk 2 β I.1 x6.1)]) λZ δ=>
.o 69 (agA (c:=zC) 1 δ)<|
.fH 70 (zIp U.s_ Z I.2.2.2) λJ=>
.e (J.2.1,J.2.2)
def zGx(p1:zB)(W:Hp)(u:Int):TT (Int×Hp) [Int,Unit]:=
.i 47 (decide (u<(p1.Changes.length:Int))) (λI=> .b (idx p1.Changes u) λZ U=>
.ix 16 zC U<|
.fA 20 (zKR Z.Key [116,47]) λJ=>
.iF 62 J λα=>
.k [] .z (wi (u+1))) λI=>
.k [] (.s .z) ()
def zAP(u:Value)(U:O)(I:zB)(W:Hp):TT (Int×Hp) []:=
.j 30 (λ_=>[(0,oA 12 U),(1,.t (.ags [iD I.Kind,sD I.User,iD I.Number,sD I.Key,.seq 4 (List.map zG I.Wants),.lit u] [(5,76,4,List.map zC I.Changes)])),(3,.box [iT I.Kind,sT I.User,iT I.Number,sT I.Key,.d (.seq 4 (List.map zG I.Wants)),.d (.lit u)]),kH W]) (λ_=>zGm U I W)<|
.o 12 (agR 1)<|
.ln 13 I.Changes zC<|
.l [] (λJ=>[(0,oA 12 U),(1,.t (.ags [iD I.Kind,sD I.User,iD I.Number,sD I.Key,.seq 4 (List.map zG I.Wants),.lit u] [(5,76,4,List.map zC I.Changes)])),(3,.box [iT I.Kind,sT I.User,iT I.Number,sT I.Key,.d (.seq 4 (List.map zG I.Wants)),.d (.lit u)]),(12,.t (.d (.seq 4 (List.map zC I.Changes)))),(13,iA (I.Changes.length:Int)),(14,iA J),kH W]) (I.Changes.length+1) (λJ=>zGx I W J) 0
def zEe p0 p1 W:=(zAP undef p0 p1 W).q
theorem zHY(u:Value)(J:O)(I:zB)(W:Hp):∀r:(Int×Hp),(zAP u J I W).run Env.nil=some r->FH 247 [oA 12 J,.t (.ags [iD I.Kind,sD I.User,iD I.Number,sD I.Key,.seq 4 (List.map zG I.Wants),.lit u] [(5,76,4,List.map zC I.Changes)])] [] [] (hpA W) (hpA r.2) (iA r.1):=zN mixed [] Tryz.func247 (zAP u J I W) (by kernel_rfl)
theorem zHp(J:O)(I:zB)(W:Hp):∀r,zEe J I W=some r->FH 247 [oA 12 J,.t (.ags [iD I.Kind,sD I.User,iD I.Number,sD I.Key,.seq 4 (List.map zG I.Wants),.seq 4 (List.map zC I.Changes)] [(5,76,4,List.map zC I.Changes)])] [] [] (hpA W) (hpA r.2) (iA r.1):=λr h=>fck_lit (ka:=1) (by decide) rfl λu=>zHY u J I W r ((show(zAP u J I W).run Env.nil=(zAP undef J I W).run Env.nil by kernel_rfl).trans h)
def zMw(Z:O)(u:zB)(W:Hp):TT (zAF×Hp) []:=
.o 3 agB<|
.iF 35 (u.Kind==1) λh1=>
.iF 89 (u.Kind==2) λh8=>
.iF 134 (u.Kind==3) λα=>
.o 51 (agL 5)<|
.b (zEe Z u W) λJ U=>
.o 52 (cAg 1 rfl (zHp Z u W _ U))<|
.fA 53 (zFh J.1) λI=>
.e ((zAF.mk I.Err I.Version [] []),J.2)
def zGC p0 p1 W:=(zMw p0 p1 W).q
theorem zKm p0 p1 W:∀r,zGC p0 p1 W=some r->FH 161 [oA 12 p0,.t (.ags [iD p1.Kind,sD p1.User,iD p1.Number,sD p1.Key,.seq 4 (List.map zG p1.Wants),.seq 4 (List.map zC p1.Changes)] [(5,76,4,List.map zC p1.Changes)])] [] [] (hpA W) (hpA r.2) (.t (.agg [iD r.1.Err,iD r.1.Version,yD r.1.Data,nD])):=zN mixed [] Tryz.func161 _
def zGa(Z J:Int)(I:Y)(W:Hp):TT (Y×Hp) []:=
.fA 42 (zKa (zAF.mk Z J I [])) λu=>
.iF 140 (u.2 !=0) λU=>
.e (u.1,W)
def zGV(W:Hp)(x1:(zB×Int))(x3:zAF)(p0:O)(γ:Bool):TT (Y×Hp) [Int×Int×Y×Hp]:=
.i 59 γ (λζ=> .fA 29 (zFh 1) λI=>
.k [7] .z (I.Err,I.Version,[],W)) λζ=>
.i 92 (x1.2 !=0) (λU=> .k [7] .z (x3.Err,x3.Version,[],W)) λU=>
.pS p0 λα J=>
.s 140 34 12 J<|
.b (W.ge_sv α) λZ β=>
.o 37 (ld (gl_sv β))<|
.pS Z.s_ λη δ=>
.s 152 37 10 δ<|
.o 17 (agL 5)<|
.b (zGC p0 x1.1 W) λu ε=>
.o 18 (cAg 1 rfl (zKm p0 x1.1 W _ ε))<|
.k [] .z (u.1.Err,u.1.Version,u.1.Data,u.2)
def zIk(p0:O)(p1:Y)(W:Hp):TT (Y×Hp) []:=
.fA 11 (zGU p1) λu=>
.o 9 mvt<|
.o 12 agX<|
.o 54 agS<|
.fA 15 (zFh u.2) λx3=>
.j 38 (λq=>[(7,.box [iT q.1,iT q.2.1,yT q.2.2.1,nT]),kH q.2.2.2]) (λq=>zGa q.1 q.2.1 q.2.2.1 q.2.2.2)<|
.j 79 (λI=>[(0,oA 12 p0),(5,.box [iT u.1.Kind,sT u.1.User,iT u.1.Number,sT u.1.Key,.d (.seq 4 (List.map zG u.1.Wants)),.own 76 4 (List.map zC u.1.Changes)]),(6,iA u.2),(7,.box [iT x3.Err,iT x3.Version,nT,nT]),(19,bA I),kH W]) (λI=>zGV W u x3 p0 I)<|
.pS p0 λα J=>
.s 84 20 12 J<|
.s 96 23 12 J<|
.b (W.ge_sv α) λβ U=>
.o 26 (ld (gl_sv U))<|
.pS β.d_ λγ Z=>
.s 108 26 1 Z<|
.k [] .z false
def zAC p0 p1 W:=(zIk p0 p1 W).q
theorem zDL p0 p1 W:∀r,zAC p0 p1 W=some r->FH 63 [oA 12 p0,yA p1] [] [] (hpA W) (hpA r.2) (yA r.1):=zN mixed [] Tryz.func63 _
def zJ8(I:O)(W:Hp):TT O []:=
.pS I λU u=>
.s 16 3 12 u<|
.s 24 5 12 u<|
.b (W.ge_sv U) λZ J=>
.o 8 (ld (gl_sv J))<|
.e Z.s_
def zCY p0 W:=(zJ8 p0 W).q
theorem zHw p0 W:∀r,zCY p0 W=some r->FH 64 [oA 12 p0] [] [] (hpA W) (hpA W) (oA 10 r):=zN mixed [] Tryz.func64 _
def zQf(W:Hp):TT (Bool×Hp) []:=
.fH 8 (zRL 1100 1000 W) λU=>
.fH 14 (zDL U.1 [3,0,0] U.2.2) λx3=>
.fA 15 (zFm x3.1) λx5=>
.iF 63 (U.2.1 !=0) λh7=>
.iF 75 (x5.2 !=0) λh8=>
.iF 86 (x5.1.Err !=13) λh9=>
.fA 33 (zNx (zB.mk 4 [97] 1 [] [] [(zF.mk 2 [107] 0 [1])])) λZ=>
.y 5 true<|
.y 36 true<|
.fH 37 (zDL U.1 Z x3.2) λI=>
.fA 38 (zFm I.1) λJ=>
.iF 132 (J.2 !=0) λγ=>
.iF 143 (J.1.Err !=0) λδ=>
.fR 50 (zHw U.1 I.2) λβ=>
.fH 51 (zFO β [107] I.2) λu=>
.i 171 (u.2.1==0) (λα=> .e ((u.1.Version==1),u.2.2)) λα=> .no
def zFX W:=(zQf W).q
theorem zS3 W:∀r,zFX W=some r->FH 47 [] [] [] (hpA W) (hpA r.2) (bA r.1):=zN mixed [] Tryz.func47 _
def zJx(u:Int):TT (Int×Int) []:=
.e (u,0)
def zJE(u:Int)(U:UInt8)(J:Int)(Z I:Bool):TT (Int×Int) [Int×Int,Int]:=
.k [] .z ((wi ((wi (256*u))+(U.toNat:Int))),(wi (J+1)))
def zJX(J:Y)(u U:Int):TT (Int×Int) [Int×Int,Int]:=
.ln 15 J cU8<|
.i 50 (decide (U<(J.length:Int))) (λh6=> .b (idx J U) λI h8=>
.ix 21 cU8 h8<|
.w 23 trivial (zWG I)<|
.j 50 (λq=>[(0,yA J),(4,iA u),(5,iA U),(6,iA (I.toNat:Int)),(27,iA u),(28,bA (u==18014398509481984)),(29,bA q.1),(32,bA q.2)]) (λq=>zJE u I U q.1 q.2)<|
.i 81 (decide (u>18014398509481984)) (λα=> .e (0,11)) λα=>
.i 90 (u==18014398509481984) (λW=> .i 101 (decide ((I.toNat:Int)>0)) (λZ=> .e (0,11)) λZ=>
.k [] .z (true,(decide ((I.toNat:Int)>0)))) λW=>
.k [] .z (false,false)) λh6=>
.k [] (.s .z) u
def zUY(u:Y):TT (Int×Int) []:=
.ln 8 u cU8<|
.i 29 ((u.length:Int)==0) (λJ=> .e (0,10)) λJ=>
.ln 11 u cU8<|
.i 38 (decide ((u.length:Int)>8)) (λU=> .e (0,2)) λU=>
.j 54 (λI=>[(4,iA I)]) (λI=>zJx I)<|
.l [] (λq=>[(0,yA u),(4,iA q.1),(5,iA q.2)]) (u.length+1) (λq=>zJX u q.1 q.2) (0,0)
def zFs p0:=(zUY p0).q
theorem zNs p0:∀r,zFs p0=some r->FP 176 [yA p0] [] (.tup [iT r.1,iT r.2]):=zU mixed Tryz.func176 _
abbrev zD6(self:Y->Int->Int->Option (V×Int×Int)):Prop:=∀(J:Y) (u:Int) (I:Int) (r:(V×Int×Int)),self J u I=some r->FP 177 [yA J,iA u,iA I] [] (.tup [.agg [iD r.1.k,iD r.1.n,yD r.1.b,.seq 4 (List.map V.cells r.1.l)],iT r.2.1,iT r.2.2])
def zH1(u:Int)(I:List V):TT (V×Int×Int) []:=
.e ((V.mk 3 0 [] I),u,0)
def zHt(x32:(Int×Int))(self:Y->Int->Int->Option (V×Int×Int))(p0:Y)(p2:Int)(I:(zD6 self))(J:Int)(U:List V)(W:Int):TT (V×Int×Int) [Int×(List V)×Int,Int×(List V)]:=
.i 461 (decide (W<x32.1)) (λα=> .b (self p0 J (wi (p2-1))) λu γ=>
.o 161 (cA (I p0 J (wi (p2-1)) _ γ))<|
.i 500 (u.2.2 !=0) (λβ=> .e ((V.mk 0 0 [] []),0,u.2.2)) λβ=>
.y 170 true<|
.w 172 trivial (.oe (congrArg (λz=>A.t (.own 163 4 z)) (zMc V.cells_eq [u.1])))<|
.b (appI 64 U [u.1]) λδ Z=>
.w 173 (appC (c:=V.cells) Z) (.oe (appE (E:=163) (k:=4) (c:=V.cells) Z))<|
.k [] .z (u.2.1,δ,(wi (W+1)))) λα=>
.k [] (.s .z) (J,U)
def zKJ(self:Y->Int->Int->Option (V×Int×Int))(U:zD6 self)(I:Y)(u p2:Int):TT (V×Int×Int) []:=
.ln 24 I cU8<|
.i 77 (decide (u>=(I.length:Int))) (λh1=> .e ((V.mk 0 0 [] []),0,10)) λh1=>
.b (idx I u) λx2 h3=>
.ix 29 cU8 h3<|
.w 31 trivial (zWG x2)<|
.i 107 ((x2.toNat:Int)==1) (λh4=> .ln 38 I cU8<|
.i 119 (decide ((wi (u+1))>=(I.length:Int))) (λh5=> .e ((V.mk 0 0 [] []),0,10)) λh5=>
.b (idx I (wi (u+1))) λZ h7=>
.ix 43 cU8 h7<|
.w 45 trivial (zWG Z)<|
.i 149 (decide ((Z.toNat:Int)>8)) (λh8=> .e ((V.mk 0 0 [] []),0,11)) λh8=>
.ln 53 I cU8<|
.i 170 (decide ((Z.toNat:Int)>(wi ((I.length:Int)-(wi ((wi (u+1))+1)))))) (λh9=> .e ((V.mk 0 0 [] []),0,10)) λh9=>
.i 179 ((Z.toNat:Int)==0) (λμ=> .e ((V.mk 1 0 [] []),(wi ((wi (u+1))+1)),0)) λμ=>
.b (cutI I (wi ((wi (u+1))+1)) (wi ((wi ((wi (u+1))+1))+(Z.toNat:Int)))) λη α=>
.w 68 (cutC (c:=cU8) α) (.oe (cutE (k:=1) (c:=cU8) α))<|
.fA 69 (zNs η) λγ=>
.i 225 (γ.2 !=0) (λν=> .e ((V.mk 0 0 [] []),0,11)) λν=>
.b (idx I (wi ((wi (u+1))+1))) λχ ι=>
.ix 77 cU8 ι<|
.i 242 ((χ.toNat:Int)==0) (λψ=> .e ((V.mk 0 0 [] []),0,11)) λψ=>
.e ((V.mk 1 γ.1 [] []),(wi ((wi ((wi (u+1))+1))+(Z.toNat:Int))),0)) λh4=>
.i 266 ((x2.toNat:Int)==2) (λζ=> .ln 90 I cU8<|
.i 281 (decide ((wi ((I.length:Int)-(wi (u+1))))<3)) (λρ=> .e ((V.mk 0 0 [] []),0,10)) λρ=>
.b (cutI I (wi (u+1)) (wi ((wi (u+1))+3))) λτ W=>
.w 100 (cutC (c:=cU8) W) (.oe (cutE (k:=1) (c:=cU8) W))<|
.fA 101 (zNs τ) λJ=>
.ln 108 I cU8<|
.i 335 (decide (J.1>(wi ((I.length:Int)-(wi ((wi (u+1))+3)))))) (λθ=> .e ((V.mk 0 0 [] []),0,10)) λθ=>
.b (cutI I (wi ((wi (u+1))+3)) (wi ((wi ((wi (u+1))+3))+J.1))) λκ β=>
.w 118 (cutC (c:=cU8) β) (.oe (cutE (k:=1) (c:=cU8) β))<|
.e ((V.mk 2 0 κ []),(wi ((wi ((wi (u+1))+3))+J.1)),0)) λζ=>
.i 374 ((x2.toNat:Int) !=3) (λξ=> .e ((V.mk 0 0 [] []),0,11)) λξ=>
.ln 127 I cU8<|
.i 392 (decide ((wi ((I.length:Int)-(wi (u+1))))<2)) (λσ=> .e ((V.mk 0 0 [] []),0,10)) λσ=>
.b (cutI I (wi (u+1)) (wi ((wi (u+1))+2))) λπ δ=>
.w 137 (cutC (c:=cU8) δ) (.oe (cutE (k:=1) (c:=cU8) δ))<|
.fA 138 (zNs π) λx32=>
.i 438 (decide (x32.1>4096)) (λφ=> .e ((V.mk 0 0 [] []),0,11)) λφ=>
.i 446 (p2==0) (λε=> .e ((V.mk 0 0 [] []),0,11)) λε=>
.j 182 (λq=>[(1,iA q.1),(6,.box [iT 0,iT 0,nT,nT]),(17,.box [iT 3,iT 0,nT,.own 163 4 (List.map V.cells q.2)])]) (λq=>zH1 q.1 q.2)<|
.l [17] (λq=>[(0,yA I),(1,iA q.1),(2,iA p2),(6,.box [iT 0,iT 0,nT,nT]),(15,iA x32.1),(17,.box [iT 3,iT 0,nT,.own 163 4 (List.map V.cells q.2.1)]),(18,iA q.2.2)]) (Int.toNat x32.1+1) (λq=>zHt x32 self I p2 U q.1 q.2.1 q.2.2) ((wi ((wi (u+1))+2)),[],0)
theorem zXi(self:Y->Int->Int->Option (V×Int×Int))(u:zD6 self):zD6 (λU I J=>(zKJ self u U I J).run Env.nil):=λU I J=>zU mixed Tryz.func177 (zKJ self u U I J) (by kernel_rfl)
noncomputable def zKG:Nat->{self:Y->Int->Int->Option (V×Int×Int)// zD6 self}
 |0=>⟨λ_ _ _=>none,λ_ _ _ _ h=>nomatch h⟩
 |k+1=>⟨_,zXi (zKG k).1 (zKG k).2⟩
def zBC(k:Nat):Y->Int->Int->Option (V×Int×Int):=(zKG k).1
theorem zPs(k:Nat):zD6 (zBC k):=(zKG k).2
def zN8(u:Y):TT (V×Int) []:=
.ln 8 u cU8<|
.i 29 (decide ((u.length:Int)>1048576)) (λU=> .e ((V.mk 0 0 [] []),3)) λU=>
.fA 13 (zPs (Int.toNat 16+1) u 0 16) λI=>
.i 56 (I.2.2 !=0) (λJ=> .e ((V.mk 0 0 [] []),I.2.2)) λJ=>
.ln 23 u cU8<|
.i 74 (decide (I.2.1<(u.length:Int))) (λZ=> .e ((V.mk 0 0 [] []),12)) λZ=>
.e (I.1,0)
def zEc p0:=(zN8 p0).q
theorem zSN p0:∀r,zEc p0=some r->FP 86 [yA p0] [] (.tup [.agg [iD r.1.k,iD r.1.n,yD r.1.b,.seq 4 (List.map V.cells r.1.l)],iT r.2]):=zU mixed Tryz.func86 _
end
end Go.Proofs.YtocolhfjpadaoaaGreatDoor
