/-
  Lemmas of this claim, joined.
-/
import Derived.Test.YtocolhfjpadaoaaGreatDoorR10
set_option linter.unusedVariables false
set_option linter.unusedSimpArgs false
set_option linter.constructorNameAsVariable false
namespace Go.Proofs.YtocolhfjpadaoaaGreatDoor
open Go Go.RowKit
variable {P:Program}{w0:World}{w:World}{m0:Mem}{m:Mem}{o0:OwnM}{o:OwnM}{G:GD}{pins:List Nat}{N:Nat}{a:Act}{op:Oper}{S:Nat->A}{M:Nat->A}{L:SL}{v:Value}{W:World}{Q:Mem}{X:OwnM}
set_option maxRecDepth 20000
noncomputable section
def zM5(u:Int):TT Int []:=
.e (wi (Int.tdiv (wi ((wi (u+512))-1)) 512))
def zEm p0:=(zM5 p0).q
theorem zMA p0:∀r,zEm p0=some r->FP 180 [iA p0] [] (iA r):=zAM mixed Tryz.func180 _
def zPP(I:Int):TT zF []:=
.fA 6 (zMA I) λu=>
.fA 18 (zMA (if 0>(wi ((wi (I-2))-(wi (1+(wi (2*(wi (513+u))))))))then 0 else(wi ((wi (I-2))-(wi (1+(wi (2*(wi (513+u)))))))))) λJ=>
.e (zF.mk (wi (1+(wi (2*(wi (513+u)))))) (if 0>(wi ((wi (I-2))-(wi (1+(wi (2*(wi (513+u))))))))then 0 else(wi ((wi (I-2))-(wi (1+(wi (2*(wi (513+u))))))))) J)
def zEi p0:=(zPP p0).q
theorem zLK p0:∀r,zEi p0=some r->FP 91 [iA p0] [] (.t (.agg [iD r.size_,iD r.homes_,iD r.maps_])):=zAM mixed Tryz.func91 _
def zE7(u:zF):TT Int []:=
.e (wi (1+u.maps_))
def zAC p0:=(zE7 p0).q
theorem zEy p0:∀r,zAC p0=some r->FP 192 [.t (.agg [iD p0.size_,iD p0.homes_,iD p0.maps_])] [] (iA r):=zAM mixed Tryz.func192 _
def zFA(I:zF):TT Int []:=
.fA 4 (zEy I) λu=>
.e (wi (u+4))
def zY p0:=(zFA p0).q
theorem zBm p0:∀r,zY p0=some r->FP 97 [.t (.agg [iD p0.size_,iD p0.homes_,iD p0.maps_])] [] (iA r):=zAM mixed Tryz.func97 _
def zFY(u:zF):TT Int []:=
.fA 6 (zBm u) λI=>
.e (wi (u.homes_-I))
def yB p0:=(zFY p0).q
theorem zCF p0:∀r,yB p0=some r->FP 92 [.t (.agg [iD p0.size_,iD p0.homes_,iD p0.maps_])] [] (iA r):=zAM mixed Tryz.func92 _
def zM0(u:Int):TT Int []:=
.i 18 (decide (u<1)) (λU=> .e 0) λU=>
.i 26 (decide (u>16384)) (λJ=> .e 0) λJ=>
.fA 10 (zLK u) λZ=>
.fA 11 (zCF Z) λI=>
.e (if 0>I then 0 else I)
def zCY p0:=(zM0 p0).q
theorem zH5 p0:∀r,zCY p0=some r->FP 25 [iA p0] [] (iA r):=zAM mixed Tryz.func25 _
def zKa(I:O)(W:Hp):TT Bool []:=
.p I (λu=> .t 16 3 (ptN 1 u)<|
.e false) λU u=>
.s 16 3 1 u<|
.s 28 6 1 u<|
.b (W.ge_dk U) λZ J=>
.o 9 (ld (zIB J))<|
.e (decide ((Z.now_.2:Int)>0))
def zBs p0 W:=(zKa p0 W).q
theorem zEQ p0 W:∀r,zBs p0 W=some r->FH 135 [oA 1 p0] [] [] (hpA W) (hpA W) (bA r):=zM mixed [] Tryz.func135 _
def zJN(I:O)(W:Hp):TT Bool []:=
.fR 4 (zEQ I W) λx1=>
.i 18 x1 (λh3=> .p I (λu=> .t 28 6 (ptN 1 u)<|
.no) λJ u=>
.s 28 6 1 u<|
.b (W.ge_dk J) λZ U=>
.o 9 (ld (zIB U))<|
.e Z.off_) λh3=>
.e false
def zCD p0 W:=(zJN p0 W).q
theorem zHn p0 W:∀r,zCD p0 W=some r->FH 185 [oA 1 p0] [] [] (hpA W) (hpA W) (bA r):=zM mixed [] Tryz.func185 _
def zHZ(I:O)(W:Hp):TT Int []:=
.fR 4 (zEQ I W) λx1=>
.i 17 (!x1) (λh3=> .e 0) λh3=>
.p I (λu=> .t 28 6 (ptN 1 u)<|
.no) λJ u=>
.s 28 6 1 u<|
.b (W.ge_dk J) λZ U=>
.o 9 (ld (zIB U))<|
.e Z.lives_
def zAU p0 W:=(zHZ p0 W).q
theorem zGd p0 W:∀r,zAU p0 W=some r->FH 186 [oA 1 p0] [] [] (hpA W) (hpA W) (iA r):=zM mixed [] Tryz.func186 _
def zE2(p0:O)(W:Hp)(y1:Bool):TT Int []:=
.i 11 y1 (λh2=> .e 1) λh2=>
.p p0 (λu=> .t 60 14 (ptN 3 u)<|
.no) λi4 u=>
.s 60 14 3 u<|
.b (W.ge_lg i4) λZ J=>
.o 17 (ld (zBv J))<|
.fR 18 (zHn Z.d_ W) λx7=>
.i 60 x7 (λh9=> .e 30) λh9=>
.s 84 20 3 u<|
.o 23 (ld (zBv J))<|
.fR 24 (zGd Z.d_ W) λI=>
.s 104 25 3 u<|
.o 28 (ld (zBv J))<|
.i 41 (I !=Z.life_) (λU=> .e 30) λU=>
.e 0
def zJf(J:O)(W:Hp):TT Int []:=
.j 15 (λZ=>[(0,oA 3 J),(3,bA Z),kH W]) (λZ=>zE2 J W Z)<|
.p J (λu=> .t 20 4 (ptN 3 u)<|
.k [] .z true) λα u=>
.s 20 4 3 u<|
.s 32 7 3 u<|
.b (W.ge_lg α) λU β=>
.o 10 (ld (zBv β))<|
.p U.d_ (λI=> .t 44 10 (ptN 1 I)<|
.k [] .z true) λγ I=>
.s 44 10 1 I<|
.k [] .z false
def zAP p0 W:=(zJf p0 W).q
theorem zBy p0 W:∀r,zAP p0 W=some r->FH 191 [oA 3 p0] [] [] (hpA W) (hpA W) (iA r):=zM mixed [] Tryz.func191 _
def zJb(U:O)(W:Hp):TT (O×Int×Hp) []:=
.fR 6 (zBy U W) λx1=>
.i 26 (x1 !=0) (λh3=> .e (none,x1,W)) λh3=>
.p U (λZ=> .t 48 11 (ptN 3 Z)<|
.no) λi5 Z=>
.s 48 11 3 Z<|
.b (W.ge_lg i5) λx6 h7=>
.o 14 (ld (zBv h7))<|
let u:(List (Int×Y)):=([]:(List (Int×Y)));let J:=(W.nw_mp u);.o 15 (mkmH (fr_mp W) (nw_mp W u))<|
let I:zAF:=(zAF.mk U x6.commits_ false W.ln_mp);let α:=(J.nw_tx I);.o 17 (nwW (fr_tx J) (nw_tx J I))<|
.e ((some J.ln_tx),0,α)
def zAf p0 W:=(zJb p0 W).q
theorem zHY p0 W:∀r,zAf p0 W=some r->FH 96 [oA 3 p0] [] [] (hpA W) (hpA r.2.2) (.tup [.opt 5 r.1,iT r.2.1]):=zM mixed [0] Tryz.func96 _
def zPS(U:O)(J:Int)(W:Hp):TT (O×Hp) []:=
let u:zBM:=(zBM.mk U J);let I:=(W.nw_ix u);.o 8 (nwW (fr_ix W) (nw_ix W u))<|
.e ((some W.ln_ix),I)
def zJ5 p0 p1 W:=(zPS p0 p1 W).q
theorem zRd p0 p1 W:∀r,zJ5 p0 p1 W=some r->FH 203 [oA 5 p0,iA p1] [] [] (hpA W) (hpA r.2) (oA 7 r.1):=zM mixed [] Tryz.func203 _
def zDR(u:Y):TT Y []:=
.y 31 true<|
.ln 33 u cU8<|
.b (apzI 1 u.length (wi (64-(u.length:Int)))) λI J=>
.o 35 (apz (e0:=5) 31 (apzC (c:=cU8) J) (apzE (c:=cU8) (a:=0) (z:= .int .u8 0) rfl))<|
.y 2 true<|
.e (u++List.replicate I 0)
def zDL(u:zH)(Z:Y)(U:Int):TT Y [Y×Int,Y]:=
.i 59 (decide (U<([u.count_,u.quota_,u.bytes_,u.keys_].length:Int))) (λW=> .b (idx [u.count_,u.quota_,u.bytes_,u.keys_] U) λx7 h8=>
.ix 20 cI64 h8<|
.fA 24 (zKz x7 8) λx9=>
.y 27 true<|
.b (appI 1 Z x9.1) λJ I=>
.w 29 (appC (c:=cU8) I) (.oe (appE (E:=5) (k:=1) (c:=cU8) I))<|
.y 3 true<|
.k [] .z (J,(wi (U+1)))) λW=>
.k [] (.s .z) Z
def zGW(u:zH):TT Y []:=
.j 34 (λI=>[(3,.t (.own 5 1 (qV I)))]) (λI=>zDR I)<|
.w 17 trivial (lnE [u.count_,u.quota_,u.bytes_,u.keys_] cI64)<|
.l [3] (λq=>[(3,.t (.own 5 1 (qV q.1))),(16,.t (.own 3 1 (List.map cI64 [u.count_,u.quota_,u.bytes_,u.keys_]))),(17,iA ([u.count_,u.quota_,u.bytes_,u.keys_].length:Int)),(18,iA q.2)]) ([u.count_,u.quota_,u.bytes_,u.keys_].length+1) (λq=>zDL u q.1 q.2) ([],0)
def zBG p0:=(zGW p0).q
theorem zFm p0:∀r,zBG p0=some r->FP 196 [.t (.agg [iD p0.count_,iD p0.quota_,iD p0.bytes_,iD p0.keys_])] [] (.t (.own 5 1 (qV r))):=zAM mixed Tryz.func196 _
def zI7(p0:O)(W:Hp):TT Int []:=
.p p0 (λu=> .t 20 4 (ptN 5 u)<|
.e 1) λi2 u=>
.s 20 4 5 u<|
.s 32 7 5 u<|
.b (W.ge_tx i2) λJ I=>
.o 10 (ld (zK3 I))<|
.s 56 13 5 u<|
.o 16 (ld (zK3 I))<|
.fR 17 (zBy J.l_ W) λx5=>
.i 59 (x5 !=0) (λh7=> .e x5) λh7=>
.s 88 21 5 u<|
.o 24 (ld (zK3 I))<|
.i 78 J.over_ (λh8=> .e 34) λh8=>
.s 108 26 5 u<|
.o 29 (ld (zK3 I))<|
.s 124 30 5 u<|
.o 33 (ld (zK3 I))<|
.p J.l_ (λZ=> .t 136 33 (ptN 3 Z)<|
.no) λγ Z=>
.s 136 33 3 Z<|
.b (W.ge_lg γ) λα β=>
.o 36 (ld (zBv β))<|
.i 116 (J.at_ !=α.commits_) (λU=> .e 34) λU=>
.e 0
def zBO p0 W:=(zI7 p0 W).q
theorem zDu p0 W:∀r,zBO p0 W=some r->FH 193 [oA 5 p0] [] [] (hpA W) (hpA W) (iA r):=zM mixed [] Tryz.func193 _
def zIa(I:O)(W:Hp):TT Int []:=
.fR 4 (zEQ I W) λx1=>
.i 17 (!x1) (λh3=> .e 0) λh3=>
.p I (λu=> .t 28 6 (ptN 1 u)<|
.no) λJ u=>
.s 28 6 1 u<|
.b (W.ge_dk J) λZ U=>
.o 9 (ld (zIB U))<|
.e (Z.now_.2:Int)
def qH p0 W:=(zIa p0 W).q
theorem zAd p0 W:∀r,qH p0 W=some r->FH 93 [oA 1 p0] [] [] (hpA W) (hpA W) (iA r):=zM mixed [] Tryz.func93 _
def zJZ(Z:O)(W:Hp):TT Int []:=
.p Z (λu=> .t 16 3 (ptN 3 u)<|
.e 0) λi2 u=>
.s 16 3 3 u<|
.s 28 6 3 u<|
.b (W.ge_lg i2) λU I=>
.o 9 (ld (zBv I))<|
.p U.d_ (λJ=> .t 40 9 (ptN 1 J)<|
.e 0) λi6 J=>
.s 40 9 1 J<|
.s 52 12 3 u<|
.o 15 (ld (zBv I))<|
.fR 16 (zAd U.d_ W) λx7=>
.s 76 18 3 u<|
.o 21 (ld (zBv I))<|
.e (wi ((wi (x7-2))-U.size_))
def yO p0 W:=(zJZ p0 W).q
theorem zB1 p0 W:∀r,yO p0 W=some r->FH 104 [oA 3 p0] [] [] (hpA W) (hpA W) (iA r):=zM mixed [] Tryz.func104 _
def zJE(U:O)(J:Int)(W:Hp):TT Int []:=
.fR 7 (zEQ U W) λx1=>
.i 17 (!x1) (λh3=> .e 1) λh3=>
.p U (λu=> .t 44 10 (ptN 1 u)<|
.no) λi5 u=>
.s 44 10 1 u<|
.b (W.ge_dk i5) λx6 Z=>
.o 13 (ld (zIB Z))<|
.i 29 x6.off_ (λh8=> .e 30) λh8=>
.i 54 (decide (J<0)) (λh9=> .e 31) λh9=>
.s 80 19 1 u<|
.o 22 (ld (zIB Z))<|
.i 44 (decide (J>=(x6.now_.2:Int))) (λI=> .e 31) λI=>
.e 0
def zAj p0 p1 W:=(zJE p0 p1 W).q
theorem zDt p0 p1 W:∀r,zAj p0 p1 W=some r->FH 275 [oA 1 p0,iA p1] [] [] (hpA W) (hpA W) (iA r):=zM mixed [] Tryz.func275 _
def zIZ(p0:O)(Z:Int)(W:Hp):TT (Y×Int) []:=
.fR 10 (zDt p0 Z W) λx1=>
.i 38 (x1 !=0) (λh3=> .e ([],x1)) λh3=>
.p p0 (λJ=> .t 60 14 (ptN 1 J)<|
.no) λi5 J=>
.s 60 14 1 J<|
.b (W.ge_dk i5) λx6 h7=>
.o 17 (ld (zIB h7))<|
.b (W.ge_sec x6.now_.1) λx8 h9=>
.b (lenI x8.length x6.now_.2) λα U=>
.b (idx x8 Z) λu I=>
.c 19 (idxV (zA1 U) I)<|
.o 20 (lrA (zTZ h9) (flr_at (k:=64) I (λ_=>(by kernel_rfl))))<|
.o 7 (lnew 0 (fl (dT cU8) (padA (0:UInt8) ([]:Y) 0 64)))<|
.o 22 (lstW (OB+0) (fl (dT cU8) (padA (0:UInt8) u 0 64)))<|
.o 21 (sla)<|
.f 1 (frzB (c:=cU8) (k:=1) 4 0 (y:=(padA (0:UInt8) u 0 64)) (λ_=>rfl) (f:=hpA W) (n0:=64) (by rw[zPx]) [obB 0 cU8 (padA (0:UInt8) u 0 64),obH (hpA W)])<|
.e ((padA (0:UInt8) u 0 64),0)
def zAk p0 p1 W:=(zIZ p0 p1 W).q
theorem zEv p0 p1 W:∀r,zAk p0 p1 W=some r->FH 278 [oA 1 p0,iA p1] [] [] (hpA W) (hpA W) (.tup [yT r.1,iT r.2]):=zM mixed [0] Tryz.func278 _
def zKp(J:O)(I:Int)(W:Hp):TT Int []:=
.p J (λu=> .t 24 5 (ptN 3 u)<|
.no) λZ u=>
.s 24 5 3 u<|
.b (W.ge_lg Z) λx3 U=>
.o 8 (ld (zBv U))<|
.e (wi ((wi (2+x3.size_))+I))
def zCb p0 p1 W:=(zKp p0 p1 W).q
theorem zFf p0 p1 W:∀r,zCb p0 p1 W=some r->FH 280 [oA 3 p0,iA p1] [] [] (hpA W) (hpA W) (iA r):=zM mixed [] Tryz.func280 _
def zKj(I:O)(Z:Int)(W:Hp):TT (Y×Int) []:=
.fR 8 (zBy I W) λx1=>
.i 32 (x1 !=0) (λh3=> .e ([],x1)) λh3=>
.i 45 (decide (Z<0)) (λh4=> .e ([],31)) λh4=>
.fR 17 (zB1 I W) λx5=>
.i 59 (decide (Z>=x5)) (λh7=> .e ([],31)) λh7=>
.p I (λh8=> .t 84 20 (ptN 3 h8)<|
.no) λi9 h8=>
.s 84 20 3 h8<|
.b (W.ge_lg i9) λJ α=>
.o 23 (ld (zBv α))<|
.fR 26 (zFf I Z W) λU=>
.fR 27 (zEv J.d_ U W) λu=>
.e (u.1,u.2)
def zDH p0 p1 W:=(zKj p0 p1 W).q
theorem zNN p0 p1 W:∀r,zDH p0 p1 W=some r->FH 283 [oA 3 p0,iA p1] [] [] (hpA W) (hpA W) (.tup [yT r.1,iT r.2]):=zM mixed [] Tryz.func283 _
def zKo(p0:O)(I:Int)(W:Hp):TT (Y×Int) []:=
.fR 10 (zDu p0 W) λx1=>
.i 38 (x1 !=0) (λh3=> .e ([],x1)) λh3=>
.p p0 (λJ=> .t 64 15 (ptN 5 J)<|
.no) λi5 J=>
.s 64 15 5 J<|
.b (W.ge_tx i5) λx6 h7=>
.o 18 (ld (zK3 h7))<|
.b (W.ge_mp x6.now_) λx8 h9=>
.o 20 (mlkH (kv:=(λz:Int=>Value.int .i64 z)) (vT:=(λv=>T.d ((λl:List UInt8=>D.seq 1 (qV l)) v))) (gl_mp h9) I (zRq (kt:=3) (by kernel_rfl)) (z:=([]:Y)) (λ_=>RepD.nilSeq _ _))<|
.i 71 ((zCG x8 I).isSome) (λZ=> .fA 25 (zFv ((zCG x8 I).getD ([]:Y))) λU=>
.e (U,0)) λZ=>
.s 108 26 5 J<|
.o 29 (ld (zK3 h7))<|
.fR 31 (zNN x6.l_ I W) λu=>
.e (u.1,u.2)
def zAi p0 p1 W:=(zKo p0 p1 W).q
theorem zDD p0 p1 W:∀r,zAi p0 p1 W=some r->FH 198 [oA 5 p0,iA p1] [] [] (hpA W) (hpA W) (.tup [yT r.1,iT r.2]):=zM mixed [] Tryz.func198 _
def zDQ(I J:Y)(u:Int):TT Bool [Int]:=
.i 44 (decide (u<(I.length:Int))) (λh3=> .b (idx I u) λZ h5=>
.ix 18 cU8 h5<|
.b (idx J u) λx6 W=>
.ix 22 cU8 W<|
.i 74 ((Z.toNat:Int) !=(x6.toNat:Int)) (λU=> .e false) λU=>
.k [] .z (wi (u+1))) λh3=>
.e true
def zET(u I:Y):TT Bool []:=
.ln 7 u cU8<|
.ln 9 I cU8<|
.i 32 ((u.length:Int) !=(I.length:Int)) (λU=> .e false) λU=>
.ln 12 u cU8<|
.l [] (λJ=>[(0,yA u),(1,yA I),(12,iA (u.length:Int)),(13,iA J)]) (u.length+1) (λJ=>zDQ u I J) 0
def zAQ(I u:Y):Option Bool:=(zET I u).run Env.nil
theorem zCj(I u:Y):∀r,zAQ I u=some r->FP 199 [yA I,yA u] [] (bA r):=zAM mixed Tryz.func199 (zET I u) (by kernel_rfl)
def zH2(u:Int):TT (Int×Int) []:=
.i 86 (decide (u>4611686018427387904)) (λI=> .e (0,11)) λI=>
.e ((wi u),0)
def zII(I:Y)(U u:Int):TT (Int×Int) [Int×Int,Int]:=
.i 56 (decide (u<(I.length:Int))) (λW=> .b (idx I u) λJ Z=>
.ix 19 cU8 Z<|
.w 24 trivial (u648E J)<|
.k [] .z ((IntKind.u64.wrap ((((BitVec.ofInt IntKind.u64.bits (IntKind.u64.wrap (U*2^8)))|||(BitVec.ofInt IntKind.u64.bits (J.toNat:Int))).toNat:Nat):Int)),(wi (u+1)))) λW=>
.k [] (.s .z) U
def zPa(u:Y):TT (Int×Int) []:=
.ln 9 u cU8<|
.i 23 ((u.length:Int)==0) (λJ=> .e (0,10)) λJ=>
.ln 13 u cU8<|
.i 35 (decide ((u.length:Int)>8)) (λU=> .e (0,2)) λU=>
.j 46 (λI=>[(4,.t (.d (.lit (.int .u64 I))))]) (λI=>zH2 I)<|
.ln 16 u cU8<|
.l [] (λq=>[(4,.t (.d (.lit (.int .u64 q.1)))),(15,yA u),(16,iA (u.length:Int)),(17,iA q.2)]) (u.length+1) (λq=>zII u q.1 q.2) (0,0)
def zBX p0:=(zPa p0).q
theorem zES p0:∀r,zBX p0=some r->FP 257 [yA p0] [] (.tup [iT r.1,iT r.2]):=zAM mixed Tryz.func257 _
def zCC(x1:(Y×Int))(U:List Int):TT (zH×Int) []:=
.b (idxA 4 U 0) λx5 h6=>
.o 47 (ixA (zRh h6))<|
.o 48 (lldA rfl (zO2 (c:=cI64) (zPh h6) rfl (λ_=>rfl)))<|
.b (idxA 4 U 1) λx7 h8=>
.o 49 (ixA (zRh h8))<|
.o 50 (lldA rfl (zO2 (c:=cI64) (zPh h8) rfl (λ_=>rfl)))<|
.b (idxA 4 U 2) λx9 u=>
.o 51 (ixA (zRh u))<|
.o 52 (lldA rfl (zO2 (c:=cI64) (zPh u) rfl (λ_=>rfl)))<|
.b (idxA 4 U 3) λI J=>
.o 53 (ixA (zRh J))<|
.o 54 (lldA rfl (zO2 (c:=cI64) (zPh J) rfl (λ_=>rfl)))<|
.fA 57 (zFm (zH.mk x5 x7 x9 I)) λW=>
.fA 59 (zCj W x1.1) λZ=>
.i 182 (!Z) (λα=> .e ((zH.mk 0 0 0 0),11)) λα=>
.e ((zH.mk x5 x7 x9 I),0)
def zCB(x1:(Y×Int))(u:Int)(J:List Int):TT (zH×Int) [Int×(List Int),(List Int)]:=
.i 71 (decide (u<4)) (λW=> .b (cutI x1.1 (wi (8*u)) (wi ((wi (8*u))+8))) λβ Z=>
.w 32 (cutC (c:=cU8) Z) (.oe (cutE (k:=1) (c:=cU8) Z))<|
.fA 33 (zES β) λI=>
.i 117 (I.2 !=0) (λγ=> .e ((zH.mk 0 0 0 0),11)) λγ=>
.i 125 (decide (I.1>2305843009213693952)) (λα=> .e ((zH.mk 0 0 0 0),11)) λα=>
.b (idxA 4 J u) λδ U=>
.o 45 (ixA (zRh U))<|
.o 63 (lstA (n:=1) rfl (zF4 (c:=cI64) (k:=1) (q:=0) (n:=1) (zPh U) (λ_=>rfl) rfl) (zHw (x:=dT cI64 I.1) (c:=cI64) (k:=1) (q:=0) (zPh U) I.1 (λ_=>rfl) rfl rfl) rfl (OB+0))<|
.k [] .z ((wi (u+1)),(J.set (Int.toNat u) I.1))) λW=>
.k [] (.s .z) J
def zEf(Z:zF)(J:O)(W:Hp):TT (zH×Int) []:=
.fR 15 (zDD J 0 W) λu=>
.i 59 (u.2 !=0) (λU=> .e ((zH.mk 0 0 0 0),u.2)) λU=>
.o 8 (lnew 0 (fl (dT cI64) (List.replicate 4 (0:Int))))<|
.j 54 (λI=>[(4,.box [iT 0,iT 0,iT 0,iT 0]),(6,yA u.1),(8,.t (.ptr 0 0)),((OB+0),.box (fl (dT cI64) I)),kH W]) (λI=>zCC u I)<|
.l [] (λq=>[(4,.box [iT 0,iT 0,iT 0,iT 0]),(6,yA u.1),(8,.t (.ptr 0 0)),(22,iA q.1),((OB+0),.box (fl (dT cI64) q.2)),kH W]) (Int.toNat 4+1) (λq=>zCB u q.1 q.2) (0,(List.replicate 4 (0:Int)))
def zAH p0 p1 W:=(zEf p0 p1 W).q
theorem zGk p0 p1 W:∀r,zAH p0 p1 W=some r->FH 204 [.t (.agg [iD p0.size_,iD p0.homes_,iD p0.maps_]),oA 5 p1] [] [] (hpA W) (hpA W) (.tup [.agg [iD r.1.count_,iD r.1.quota_,iD r.1.bytes_,iD r.1.keys_],iT r.2]):=zM mixed [0] Tryz.func204 _
def zCL(p0:Y)(F1:Nat)(C1:(List (List D)))(p1:(UInt8->Option Bool))(hp1:∀(a0:UInt8) r,p1 a0=some r->FP F1 ([.t (.d (.lit (.int .u8 (a0.toNat:Int))))]++C1.map A.imm) [] (bA r))(hf1:∃fn,Tryz.prog.funcs[F1]? =some fn/\fn.body.isNone=false/\(fn.name== "runtime.NumGoroutine")=false)(z1:Int):TT Int [Int]:=
.i 29 (decide (z1<(p0.length:Int))) (λh2=> .b (idx p0 z1) λx3 h4=>
.ix 14 cU8 h4<|
.b (p1 x3) λx5 h6=>
.o 16 (cP (hp1 x3 _ h6) hf1)<|
.i 50 x5 (λh7=> .e z1) λh7=>
.k [] .z (wi (z1+1))) λh2=>
.e (-1)
def zC3(p0:Y)(F1:Nat)(C1:List (List D))(p1:(UInt8->Option Bool))(hp1:∀(a0:UInt8) r,p1 a0=some r->FP F1 ([.t (.d (.lit (.int .u8 (a0.toNat:Int))))]++C1.map A.imm) [] (bA r))(hf1:∃fn,Tryz.prog.funcs[F1]? =some fn/\fn.body.isNone=false/\(fn.name== "runtime.NumGoroutine")=false):TT Int []:=
.ln 7 p0 cU8<|
.l [] (λz1=>[(0,yA p0),(1,.t (.d (.clo F1 C1))),(7,iA (p0.length:Int)),(8,iA z1)]) (p0.length+1) (λz1=>zCL p0 F1 C1 p1 hp1 hf1 z1) 0
def zBj(p0:Y)(F1:Nat)(C1:List (List D))(p1:(UInt8->Option Bool))(hp1:∀(a0:UInt8) r,p1 a0=some r->FP F1 ([.t (.d (.lit (.int .u8 (a0.toNat:Int))))]++C1.map A.imm) [] (bA r))(hf1:∃fn,Tryz.prog.funcs[F1]? =some fn/\fn.body.isNone=false/\(fn.name== "runtime.NumGoroutine")=false):Option Int:=(zC3 p0 F1 C1 p1 hp1 hf1).run Env.nil
theorem zHc(p0:Y)(F1:Nat)(C1:List (List D))(p1:(UInt8->Option Bool))(hp1:∀(a0:UInt8) r,p1 a0=some r->FP F1 ([.t (.d (.lit (.int .u8 (a0.toNat:Int))))]++C1.map A.imm) [] (bA r))(hf1:∃fn,Tryz.prog.funcs[F1]? =some fn/\fn.body.isNone=false/\(fn.name== "runtime.NumGoroutine")=false):∀r,zBj p0 F1 C1 p1 hp1 hf1=some r->FP 321 [yA p0,.t (.d (.clo F1 C1))] [] (iA r):=zAM mixed Tryz.func321 (zC3 p0 F1 C1 p1 hp1 hf1) (by kernel_rfl)
def zCI(p0:Y)(F1:Nat)(C1:List (List D))(p1:(UInt8->Option Bool))(hp1:∀(a0:UInt8) r,p1 a0=some r->FP F1 ([.t (.d (.lit (.int .u8 (a0.toNat:Int))))]++C1.map A.imm) [] (bA r))(hf1:∃fn,Tryz.prog.funcs[F1]? =some fn/\fn.body.isNone=false/\(fn.name== "runtime.NumGoroutine")=false):TT Bool []:=
.fA 7 (zHc p0 F1 C1 p1 hp1 hf1) λx1=>
.e (decide (x1>=0))
def zA9(p0:Y)(F1:Nat)(C1:List (List D))(p1:(UInt8->Option Bool))(hp1:∀(a0:UInt8) r,p1 a0=some r->FP F1 ([.t (.d (.lit (.int .u8 (a0.toNat:Int))))]++C1.map A.imm) [] (bA r))(hf1:∃fn,Tryz.prog.funcs[F1]? =some fn/\fn.body.isNone=false/\(fn.name== "runtime.NumGoroutine")=false):Option Bool:=(zCI p0 F1 C1 p1 hp1 hf1).run Env.nil
theorem zDb(p0:Y)(F1:Nat)(C1:List (List D))(p1:(UInt8->Option Bool))(hp1:∀(a0:UInt8) r,p1 a0=some r->FP F1 ([.t (.d (.lit (.int .u8 (a0.toNat:Int))))]++C1.map A.imm) [] (bA r))(hf1:∃fn,Tryz.prog.funcs[F1]? =some fn/\fn.body.isNone=false/\(fn.name== "runtime.NumGoroutine")=false):∀r,zA9 p0 F1 C1 p1 hp1 hf1=some r->FP 258 [yA p0,.t (.d (.clo F1 C1))] [] (bA r):=zAM mixed Tryz.func258 (zCI p0 F1 C1 p1 hp1 hf1) (by kernel_rfl)
def zDV(u:UInt8):TT Bool []:=
.e ((u.toNat:Int) !=0)
def yG p0:=(zDV p0).q
theorem zBa p0:∀r,yG p0=some r->FP 289 [.t (.d (.lit (.int .u8 (p0.toNat:Int))))] [] (bA r):=zAM mixed Tryz.func289 _
def zN8(I:Int)(W:Hp):TT (O×Int×Hp) []:=
.i 21 (decide (I<0)) (λh1=> .e (none,2,W)) λh1=>
.i 29 (decide (I>16384)) (λh2=> .e (none,2,W)) λh2=>
.b (mkI 8 (wi (Int.tdiv (wi ((wi (I+64))-1)) 64))) λU h4=>
let Z:(List Int):=(List.replicate U (0:Int));let J:=(W.nw_w64 Z);.o 16 (mkh (c0:=dT (cInt .u64) (0:Int)) h4 (zNA (c:=(cInt .u64)) (z:=(0:Int)) (by kernel_rfl) U) (fr_w64 W) (nw_w64 W Z))<|
let u:zO:=(zO.mk I I (W.ln_w64,U) true);let w8:=(J.nw_sp u);.o 18 (nwW (fr_sp J) (nw_sp J u))<|
.e ((some J.ln_sp),0,w8)
def zEW p0 W:=(zN8 p0 W).q
theorem zLc p0 W:∀r,zEW p0 W=some r->FH 99 [iA p0] [] [] (hpA W) (hpA r.2.2) (.tup [.opt 8 r.1,iT r.2.1]):=zM mixed [0] Tryz.func99 _
def zIj(J:UInt8):TT Int []:=
.b (idx ([0,1,1,2,1,2,2,3,1,2,2,3,2,3,3,4,1,2,2,3,2,3,3,4,2,3,3,4,3,4,4,5,1,2,2,3,2,3,3,4,2,3,3,4,3,4,4,5,2,3,3,4,3,4,4,5,3,4,4,5,4,5,5,6,1,2,2,3,2,3,3,4,2,3,3,4,3,4,4,5,2,3,3,4,3,4,4,5,3,4,4,5,4,5,5,6,2,3,3,4,3,4,4,5,3,4,4,5,4,5,5,6,3,4,4,5,4,5,5,6,4,5,5,6,5,6,6,7,1,2,2,3,2,3,3,4,2,3,3,4,3,4,4,5,2,3,3,4,3,4,4,5,3,4,4,5,4,5,5,6,2,3,3,4,3,4,4,5,3,4,4,5,4,5,5,6,3,4,4,5,4,5,5,6,4,5,5,6,5,6,6,7,2,3,3,4,3,4,4,5,3,4,4,5,4,5,5,6,3,4,4,5,4,5,5,6,4,5,5,6,5,6,6,7,3,4,4,5,4,5,5,6,4,5,5,6,5,6,6,7,4,5,5,6,5,6,6,7,5,6,6,7,6,7,7,8]:Y) (J.toNat:Int)) λI u=>
.w 4 (zOG u) (.oe (zN1 u))<|
.w 5 trivial (i648E I)<|
.e (I.toNat:Int)
def zBA p0:=(zIj p0).q
theorem zIC p0:∀r,zBA p0=some r->FP 337 [.t (.d (.lit (.int .u8 (p0.toNat:Int))))] [] (iA r):=zAM mixed Tryz.func337 _
def zGg(I:(O×Int×Hp))(u:Hp):TT (O×Int×Hp) []:=
.e (I.1,0,u)
def zGH(p1:Y)(x1:(O×Int×Hp))(Z:Int)(z5:Hp):TT (O×Int×Hp) [Int×Hp,Hp]:=
.i 158 (decide (Z<(p1.length:Int))) (λh6=> .b (idx p1 Z) λx7 h8=>
.ix 54 cU8 h8<|
.p x1.1 (λh9=> .t 228 56 (ptN 8 h9)<|
.no) λW h9=>
.s 228 56 8 h9<|
.b (z5.ge_sp W) λu δ=>
.o 59 (ld (zIh δ))<|
.b (z5.ge_w64 u.l_.1) λI U=>
.b (lenI I.length u.l_.2) λρ μ=>
.b (idx I (wi (Int.tdiv Z 8))) λγ θ=>
.c 62 (idxV (zA1 μ) θ)<|
.o 63 (ldA (zNJ U) (zO2 θ rfl (λ_=>rfl)))<|
.w 65 trivial (u648E x7)<|
.b (shlI .u64 (x7.toNat:Int) (IntKind.u64.wrap (wi (8*(Int.tmod Z 8))))) λJ ν=>
.o 70 (bv (shlIE (yk:= .u64) ν))<|
.b (lenI I.length u.l_.2) λσ ι=>
.b (idx I (wi (Int.tdiv Z 8))) λπ α=>
.c 72 (idxV (zA1 ι) α)<|
let η:(List Int):=(I.set (Int.toNat (wi (Int.tdiv Z 8))) (IntKind.u64.wrap ((((BitVec.ofInt IntKind.u64.bits γ)|||(BitVec.ofInt IntKind.u64.bits J)).toNat:Nat):Int)));let ε:=(z5.st_w64 u.l_.1 η);.o 84 (stA (n:=1) (zNJ U) (zF4 (c:=(cInt .u64)) (k:=1) (q:=0) α (λ_=>(by kernel_rfl)) rfl) (zHw (x:=dT (cInt .u64) (IntKind.u64.wrap ((((BitVec.ofInt IntKind.u64.bits γ)|||(BitVec.ofInt IntKind.u64.bits J)).toNat:Nat):Int))) (c:=(cInt .u64)) (k:=1) (q:=0) α (IntKind.u64.wrap ((((BitVec.ofInt IntKind.u64.bits γ)|||(BitVec.ofInt IntKind.u64.bits J)).toNat:Nat):Int)) (λ_=>(by kernel_rfl)) (by kernel_rfl) (by kernel_rfl)) (su_w64 (x':=η) U))<|
have β:ε.ge_sp W=some u:=δ;.s 296 73 8 h9<|
.o 76 (ld (zIh β))<|
.fA 78 (zIC x7) λξ=>
let ζ:zO:=(zO.mk u.n_ (wi (u.free_-ξ)) u.l_ u.is_);let κ:=(ε.st_sp W ζ);.o 84 (stw (zIh β) (su_sp (x':=ζ) β))<|
.k [] .z ((wi (Z+1)),κ)) λh6=>
.k [] (.s .z) z5
def zGT(I:(O×Int×Hp))(u:Y):TT (O×Int×Hp) []:=
.j 70 (λJ=>[(6,oA 8 I.1),kH J]) (λJ=>zGg I J)<|
.ln 50 u cU8<|
.l [] (λq=>[(6,oA 8 I.1),(49,yA u),(50,iA (u.length:Int)),(51,iA q.1),kH q.2]) (u.length+1) (λq=>zGH u I q.1 q.2) (0,I.2.2)
def zMy(J:Int)(I:Y)(W:Hp):TT (O×Int×Hp) []:=
.fH 13 (zLc J W) λu=>
.j 46 (λ_=>[(1,yA I),(6,oA 8 u.1),kH u.2.2]) (λ_=>zGT u I)<|
.i 59 (u.2.1 !=0) (λα=> .e (none,u.2.1,u.2.2)) λα=>
.ln 25 I cU8<|
.i 71 (decide ((I.length:Int)<(wi (Int.tdiv (wi (J+7)) 8)))) (λZ=> .e (none,10,u.2.2)) λZ=>
.ln 30 I cU8<|
.i 86 (decide ((I.length:Int)>(wi (Int.tdiv (wi (J+7)) 8)))) (λβ=> .e (none,12,u.2.2)) λβ=>
.i 114 ((Int.tmod J 8) !=0) (λζ=> .b (idx I (wi ((wi (Int.tdiv (wi (J+7)) 8))-1))) λU γ=>
.ix 41 cU8 γ<|
.b (shrI .u8 (U.toNat:Int) (IntKind.u64.wrap (Int.tmod J 8))) λη δ=>
.o 46 (bv (shrIE (yk:= .u64) δ))<|
.i 101 (η !=0) (λε=> .e (none,11,u.2.2)) λε=>
.k [] .z ()) λζ=>
.k [] .z ()
def zFW p0 p1 W:=(zMy p0 p1 W).q
theorem zOz p0 p1 W:∀r,zFW p0 p1 W=some r->FH 290 [iA p0,yA p1] [] [] (hpA W) (hpA r.2.2) (.tup [.opt 8 r.1,iT r.2.1]):=zM mixed [] Tryz.func290 _
def zBo(I:zF)(W:Hp)(J:Y):TT (O×Int×Hp) []:=
.b (cutI J (wi (Int.tdiv (wi (I.homes_+7)) 8)) (J.length:Int)) λx2 h3=>
.w 38 (zUO (c:=cU8) h3) (.oe (zUf (k:=1) (c:=cU8) h3))<|
.fA 39 (zDb x2 289 [] yG zBa ⟨_,Tryz.func289,rfl,rfl⟩) λx4=>
.i 119 x4 (λh6=> .e (none,11,W)) λh6=>
.b (cutI J 0 (wi (Int.tdiv (wi (I.homes_+7)) 8))) λx7 Z=>
.w 45 (zSM (c:=cU8) Z) (.oe (zSD (k:=1) (c:=cU8) Z))<|
.fH 46 (zOz I.homes_ x7 W) λu=>
.i 152 (u.2.1 !=0) (λU=> .e (none,11,u.2.2)) λU=>
.e (u.1,0,u.2.2)
def zBn(p0:zF)(p1:O)(W:Hp)(U:Y)(u:Int):TT (O×Int×Hp) [Y×Int,Y]:=
.i 50 (decide (u<p0.maps_)) (λZ=> .fR 22 (zDD p1 (wi (1+u)) W) λI=>
.i 80 (I.2 !=0) (λβ=> .e (none,I.2,W)) λβ=>
.y 28 true<|
.b (appI 1 U I.1) λα J=>
.w 30 (appC (c:=cU8) J) (.oe (appE (E:=5) (k:=1) (c:=cU8) J))<|
.y 6 true<|
.k [] .z (α,(wi (u+1)))) λZ=>
.k [] (.s .z) U
def zEM(u:zF)(J:O)(W:Hp):TT (O×Int×Hp) []:=
.j 42 (λI=>[(2,.box [iT u.size_,iT u.homes_,iT u.maps_]),(6,.t (.own 5 1 (qV I))),kH W]) (λI=>zBo u W I)<|
.l [6] (λq=>[(1,oA 5 J),(2,.box [iT u.size_,iT u.homes_,iT u.maps_]),(6,.t (.own 5 1 (qV q.1))),(14,iA u.maps_),(15,iA q.2),kH W]) (Int.toNat u.maps_+1) (λq=>zBn u J W q.1 q.2) ([],0)
def yW p0 p1 W:=(zEM p0 p1 W).q
theorem zGC p0 p1 W:∀r,yW p0 p1 W=some r->FH 205 [.t (.agg [iD p0.size_,iD p0.homes_,iD p0.maps_]),oA 5 p1] [] [] (hpA W) (hpA r.2.2) (.tup [.opt 8 r.1,iT r.2.1]):=zM mixed [] Tryz.func205 _
def zGY(p0:O)(W:Hp):TT (O×Int×Hp) []:=
.p p0 (λh1=> .t 32 7 (ptN 10 h1)<|
.e (none,1,W)) λi2 h1=>
.s 32 7 10 h1<|
.s 44 10 10 h1<|
.b (W.ge_st i2) λx3 h4=>
.o 13 (ld (zIs h4))<|
.fH 14 (zHY x3.l_ W) λx5=>
.i 56 (x5.2.1 !=0) (λh7=> .e (none,x5.2.1,x5.2.2)) λh7=>
.s 96 23 10 h1<|
.b (x5.2.2.ge_st i2) λx8 h9=>
.o 26 (ldS (zIs h9))<|
.fA 27 (zEy x8.geometry_) λξ=>
.fH 28 (zRd x5.1 ξ x5.2.2) λu=>
let I:zU:=(zU.mk p0 x5.1 u.1 (zH.mk 0 0 0 0) none);let Z:=(u.2.nw_vw I);.o 30 (nwW (fr_vw u.2) (nw_vw u.2 I))<|
have η:Z.ge_vw u.2.ln_vw=some I:=zSA;.s 136 33 10 h1<|
.b (Z.ge_st i2) λγ ι=>
.o 36 (ldS (zIs ι))<|
.fR 38 (zGk γ.geometry_ x5.1 Z) λα=>
let δ:zU:=(zU.mk I.s_ I.t_ I.x_ α.1 I.p_);let β:=(Z.st_vw u.2.ln_vw δ);.o 63 (stw (zDA η) (su_vw (x':=δ) η))<|
have κ:β.ge_st i2=some γ:=ι;.i 134 (α.2 !=0) (λμ=> .e (none,α.2,β)) λμ=>
.s 196 48 10 h1<|
.o 51 (ldS (zIs κ))<|
.fH 53 (zGC γ.geometry_ x5.1 β) λJ=>
.b (J.2.2.ge_vw u.2.ln_vw) λU θ=>
let ε:zU:=(zU.mk U.s_ U.t_ U.x_ U.h_ J.1);let ζ:=(J.2.2.st_vw u.2.ln_vw ε);.o 63 (stw (zDA θ) (su_vw (x':=ε) θ))<|
.i 179 (J.2.1 !=0) (λν=> .e (none,J.2.1,ζ)) λν=>
.e ((some u.2.ln_vw),0,ζ)
def zAK p0 W:=(zGY p0 W).q
theorem zBT p0 W:∀r,zAK p0 W=some r->FH 105 [oA 10 p0] [] [] (hpA W) (hpA r.2.2) (.tup [.opt 11 r.1,iT r.2.1]):=zM mixed [] Tryz.func105 _
def zGw(I:O)(W:Hp):TT Int []:=
.p I (λu=> .t 16 3 (ptN 8 u)<|
.e 0) λU u=>
.s 16 3 8 u<|
.s 24 5 8 u<|
.b (W.ge_sp U) λZ J=>
.o 8 (ld (zIh J))<|
.e Z.free_
def zAb p0 W:=(zGw p0 W).q
theorem zFo p0 W:∀r,zAb p0 W=some r->FH 110 [oA 8 p0] [] [] (hpA W) (hpA W) (iA r):=zM mixed [] Tryz.func110 _
def zHp(p0:O)(W:Hp):TT Int []:=
.p p0 (λu=> .t 16 3 (ptN 11 u)<|
.no) λi2 u=>
.s 16 3 11 u<|
.b (W.ge_vw i2) λZ U=>
.o 6 (ld (zDA U))<|
.p Z.s_ (λJ=> .t 28 6 (ptN 10 J)<|
.no) λi6 J=>
.s 28 6 10 J<|
.b (W.ge_st i6) λx7 h8=>
.o 9 (ldS (zIs h8))<|
.fA 10 (zCF x7.geometry_) λx9=>
.s 48 11 11 u<|
.o 14 (ld (zDA U))<|
.fR 15 (zFo Z.p_ W) λI=>
.e (wi (x9-I))
def zBw p0 W:=(zHp p0 W).q
theorem zGS p0 W:∀r,zBw p0 W=some r->FH 109 [oA 11 p0] [] [] (hpA W) (hpA W) (iA r):=zM mixed [] Tryz.func109 _
def zMp(u:Int):TT (Int×Bool) []:=
.e ((wi (Int.tmod u 64)),true)
def zMn(Z:Y)(z4 J:Int):TT (Int×Bool) [Int×Int,Int]:=
.i 53 (decide (J<(Z.length:Int))) (λh6=> .b (idx Z J) λx7 h8=>
.w 21 (zOG h8) (.oe (zN1 h8))<|
.i 72 (decide ((x7.toNat:Int)<33)) (λh9=> .e (0,false)) λh9=>
.b (idx Z J) λW U=>
.w 26 (zOG U) (.oe (zN1 U))<|
.i 86 (decide ((W.toNat:Int)>126)) (λα=> .e (0,false)) λα=>
.b (idx Z J) λI u=>
.w 33 (zOG u) (.oe (zN1 u))<|
.w 34 trivial (u328E I)<|
.k [] .z ((IntKind.u32.wrap ((IntKind.u32.wrap (31*z4))+(I.toNat:Int))),(wi (J+1)))) λh6=>
.k [] (.s .z) z4
def zOw(u:Y):TT (Int×Bool) []:=
.i 30 (decide ((u.length:Int)<1)) (λJ=> .e (0,false)) λJ=>
.i 41 (decide ((u.length:Int)>40)) (λU=> .e (0,false)) λU=>
.j 46 (λI=>[(4,.t (.d (.lit (.int .u32 I))))]) (λI=>zMp I)<|
.l [] (λq=>[(0,sA u),(4,.t (.d (.lit (.int .u32 q.1)))),(15,iA (u.length:Int)),(16,iA q.2)]) (u.length+1) (λq=>zMn u q.1 q.2) (0,0)
def zKl p0:=(zOw p0).q
theorem zDd p0:∀r,zKl p0=some r->FP 234 [sA p0] [] (.tup [iT r.1,bT' r.2]):=zAM mixed Tryz.func234 _
def zC6(I:(Y×Int))(u:Int):TT (Y×Int) []:=
.e (I.1,u)
def zFt(Z:O)(U:Int)(W:Hp):TT (Y×Int) []:=
.p Z (λu=> .t 36 8 (ptN 7 u)<|
.e ([],1)) λi2 u=>
.s 36 8 7 u<|
.s 48 11 7 u<|
.b (W.ge_ix i2) λx3 h4=>
.o 14 (ld (zSE h4))<|
.fR 16 (zDD x3.t_ U W) λI=>
.j 26 (λJ=>[(6,yA I.1),(7,iA J),kH W]) (λJ=>zC6 I J)<|
.i 62 (I.2==31) (λh8=> .k [] .z 11) λh8=>
.k [] .z I.2
def zA6 p0 p1 W:=(zFt p0 p1 W).q
theorem zFE p0 p1 W:∀r,zA6 p0 p1 W=some r->FH 297 [oA 7 p0,iA p1] [] [] (hpA W) (hpA W) (.tup [yT r.1,iT r.2]):=zM mixed [] Tryz.func297 _
def zOT(J:Y):TT Int []:=
.fA 7 (zES J) λu=>
.i 35 (u.2 !=0) (λI=> .e (-1)) λI=>
.e u.1
def zIN p0:=(zOT p0).q
theorem zFa p0:∀r,zIN p0=some r->FP 304 [yA p0] [] (iA r):=zAM mixed Tryz.func304 _
def zGc(U:O)(u:zX)(W:Hp):TT (Int×Int) []:=
.fR 12 (zFE U u.home_ W) λI=>
.i 50 (I.2 !=0) (λh3=> .e (0,I.2)) λh3=>
.b (cutI I.1 u.off_ (wi (u.off_+4))) λZ J=>
.w 24 (cutC (c:=cU8) J) (.oe (cutE (k:=1) (c:=cU8) J))<|
.fA 25 (zFa Z) λx6=>
.e (x6,0)
def zCE p0 p1 W:=(zGc p0 p1 W).q
theorem zFX p0 p1 W:∀r,zCE p0 p1 W=some r->FH 235 [oA 7 p0,.t (.agg [iD p1.home_,iD p1.off_])] [] [] (hpA W) (hpA W) (.tup [iT r.1,iT r.2]):=zM mixed [] Tryz.func235 _
def zGr(J:O)(I:Int)(W:Hp):TT zX []:=
.p J (λu=> .t 24 5 (ptN 7 u)<|
.e (zX.mk 0 0)) λZ u=>
.s 24 5 7 u<|
.s 36 8 7 u<|
.b (W.ge_ix Z) λx3 U=>
.o 11 (ld (zSE U))<|
.e (zX.mk (wi (x3.table_+(wi (Int.tdiv I 16)))) (wi (4*(Int.tmod I 16))))
def zCa p0 p1 W:=(zGr p0 p1 W).q
theorem zD3 p0 p1 W:∀r,zCa p0 p1 W=some r->FH 236 [oA 7 p0,iA p1] [] [] (hpA W) (hpA W) (.t (.agg [iD r.home_,iD r.off_])):=zM mixed [] Tryz.func236 _
def zSR(u:zC):TT Bool []:=
.fA 8 (zDd u.Key) λx1=>
.i 39 x1.2 (λh3=> .i 54 (decide (u.Version>=0)) (λU=> .i 69 (decide (u.Version<=4611686018427387904)) (λW=> .i 84 (decide (u.Len>=0)) (λI=> .i 99 (decide (u.Len<=1024)) (λZ=> .i 114 (decide (u.First>=0)) (λJ=> .e (decide (u.First<=16384))) λJ=>
.e false) λZ=>
.e false) λI=>
.e false) λW=>
.e false) λU=>
.e false) λh3=>
.e false
def zSh p0:=(zSR p0).q
theorem zNI p0:∀r,zSh p0=some r->FP 233 [.t (.agg [sD p0.Key,iD p0.Version,iD p0.Len,iD p0.First])] [] (bA r):=zAM mixed Tryz.func233 _
def zKg(u:Y)(X n0:Nat)(J:Int):TT Y []:=
.fA 10 (zKz J ((n0:Nat):Int)) λZ=>
.b (cpyI u X n0 Z.1) λI U=>
.b (lenI I.length u.length) λW _=>
.o 15 (cpy (c:=cU8) 0 (λ_=>rfl) U)<|
.e I
def zDG(I:Y)(X n0:Nat)(u:Int):Option Y:=(zKg I X n0 u).run Env.nil
theorem zDC(I:Y)(X n0:Nat)(u:Int)(W:Hp):∀r,zDG I X n0 u=some r->FH 302 [.t (.view 0 X 0 1 n0),iA u] [.box (fl (dT cU8) I)] [.box (fl (dT cU8) r)] (hpA W) (hpA W) (.tup []):=zM mixed [] Tryz.func302 (zKg I X n0 u) (by kernel_rfl)
end
set_option maxRecDepth 20000
noncomputable section
def zMG(u:zI)(W:Hp):TT Y []:=
.b (mkI 1 64) λI h2=>
.o 4 (mkl false 0 (c0:=dT cU8 (0:UInt8)) h2 (zNA (c:=cU8) (z:=(0:UInt8)) (by kernel_rfl) I))<|
.b (vcut I 0 4) λx3 h4=>
.o 6 (lsl (off':=(0+Int.toNat 0*1)) (n':=(Int.toNat 4-Int.toNat 0)) (zCi h4))<|
.b (zDG (List.replicate I (0:UInt8)) (0+Int.toNat 0*1) (Int.toNat 4-Int.toNat 0) u.next_) λx5 h6=>
.b (lenI x5.length (List.replicate I (0:UInt8)).length) λx7 h8=>
.o 9 (cOR [0] [] (zDC (List.replicate I (0:UInt8)) (0+Int.toNat 0*1) (Int.toNat 4-Int.toNat 0) u.next_ W _ h6) (zCM _ _ zAc) (zCM _ _ zAc))<|
.b (vcut I 4 12) λx9 η=>
.o 11 (lsl (off':=(0+Int.toNat 4*1)) (n':=(Int.toNat 12-Int.toNat 4)) (zCi η))<|
.b (zDG x5 (0+Int.toNat 4*1) (Int.toNat 12-Int.toNat 4) u.Entry.Version) λU θ=>
.b (lenI U.length x5.length) λψ γ=>
.o 15 (cOR [0] [] (zDC x5 (0+Int.toNat 4*1) (Int.toNat 12-Int.toNat 4) u.Entry.Version W _ θ) (zCM _ _ zAc) (zCM _ _ zAc))<|
.b (vcut I 12 16) λσ μ=>
.o 17 (lsl (off':=(0+Int.toNat 12*1)) (n':=(Int.toNat 16-Int.toNat 12)) (zCi μ))<|
.b (zDG U (0+Int.toNat 12*1) (Int.toNat 16-Int.toNat 12) u.Entry.Len) λα π=>
.b (lenI α.length U.length) λρ δ=>
.o 21 (cOR [0] [] (zDC U (0+Int.toNat 12*1) (Int.toNat 16-Int.toNat 12) u.Entry.Len W _ π) (zCM _ _ zAc) (zCM _ _ zAc))<|
.b (vcut I 16 20) λχ ζ=>
.o 23 (lsl (off':=(0+Int.toNat 16*1)) (n':=(Int.toNat 20-Int.toNat 16)) (zCi ζ))<|
.b (zDG α (0+Int.toNat 16*1) (Int.toNat 20-Int.toNat 16) u.Entry.First) λJ ν=>
.b (lenI J.length α.length) λφ ε=>
.o 27 (cOR [0] [] (zDC α (0+Int.toNat 16*1) (Int.toNat 20-Int.toNat 16) u.Entry.First W _ ν) (zCM _ _ zAc) (zCM _ _ zAc))<|
.w 33 trivial (u8E (u.Entry.Key.length:Int))<|
.b (idx J 20) λx27 β=>
.c 34 (idxV (n:=I) ((zA1 ε).trans ((zA1 δ).trans ((zA1 γ).trans ((zA1 h8).trans wN)))) β)<|
.o 42 (lstA (n:=1) rfl (zF4 (c:=cU8) (k:=1) (q:=0) (n:=1) β (λ_=>rfl) rfl) (zHw (x:=dT cU8 (U8 (u.Entry.Key.length:Int))) (c:=cU8) (k:=1) (q:=0) β (U8 (u.Entry.Key.length:Int)) (λ_=>rfl) rfl rfl) rfl (OB+0))<|
.b (vcut I 21 (I:Int)) λω κ=>
.o 36 (lsl (off':=(0+Int.toNat 21*1)) (n':=(Int.toNat (I:Int)-Int.toNat 21)) (zCi κ))<|
.b (cpySI (J.set (Int.toNat 20) (U8 (u.Entry.Key.length:Int))) (0+Int.toNat 21*1) (Int.toNat (I:Int)-Int.toNat 21) u.Entry.Key) λZ ι=>
.b (lenI Z.length (J.set (Int.toNat 20) (U8 (u.Entry.Key.length:Int))).length) λτ ξ=>
.o 40 (cpyS 0 ι)<|
.f 1 (frzB (c:=cU8) (k:=1) 2 0 (y:=Z) (λ_=>rfl) (f:=hpA W) (n0:=I) ((zA1 ξ).trans (vI.trans ((zA1 ε).trans ((zA1 δ).trans ((zA1 γ).trans ((zA1 h8).trans wN)))))).symm [obB 0 cU8 Z,obH (hpA W)])<|
.e Z
def zLa p0 W:=(zMG p0 W).q
theorem zFl p0 W:∀r,zLa p0 W=some r->FH 237 [.t (.agg [sD p0.Entry.Key,iD p0.Entry.Version,iD p0.Entry.Len,iD p0.Entry.First,iD p0.next_])] [] [] (hpA W) (hpA W) (yA r):=zM mixed [0] Tryz.func237 _
def zNz(U u I x3:Int)(W:Hp)(p0 J:Y):TT (zI×Bool) []:=
.fA 41 (zNI (zC.mk J U u I)) λγ=>
.i 129 γ (λZ=> .fR 44 (zFl (zI.mk (zC.mk J U u I) x3) W) λβ=>
.fA 46 (zCj β p0) λα=>
.e ((zI.mk (zC.mk J U u I) x3),α)) λZ=>
.e ((zI.mk (zC.mk J U u I) x3),false)
def zRR(u:Y)(W:Hp):TT (zI×Bool) []:=
.b (cutI u 0 4) λx1 h2=>
.w 7 (zSM (c:=cU8) h2) (.oe (zSD (k:=1) (c:=cU8) h2))<|
.fA 8 (zFa x1) λx3=>
.b (cutI u 4 12) λx5 h6=>
.w 11 (cutC (c:=cU8) h6) (.oe (cutE (k:=1) (c:=cU8) h6))<|
.fA 12 (zFa x5) λx7=>
.b (cutI u 12 16) λx9 γ=>
.w 14 (cutC (c:=cU8) γ) (.oe (cutE (k:=1) (c:=cU8) γ))<|
.fA 15 (zFa x9) λZ=>
.b (cutI u 16 20) λζ β=>
.w 17 (cutC (c:=cU8) β) (.oe (cutE (k:=1) (c:=cU8) β))<|
.fA 18 (zFa ζ) λα=>
.j 26 (λI=>[(0,yA u),(2,.box [sT [],iT 0,iT 0,iT 0,iT 0]),(4,.box [sT I,iT x7,iT Z,iT α,iT x3]),kH W]) (λI=>zNz x7 Z α x3 W u I)<|
.b (idx u 20) λU η=>
.ix 26 cU8 η<|
.w 28 trivial (i648E U)<|
.i 92 (decide ((U.toNat:Int)<=40)) (λε=> .b (cutI u 21 (wi (21+(U.toNat:Int)))) λJ δ=>
.w 34 (cutC (c:=cU8) δ) (.oe (cutE (k:=1) (c:=cU8) δ))<|
.w 35 (isB_bytes J) (.oe (strE J))<|
.k [] .z J) λε=>
.k [] .z []
def zM9 p0 W:=(zRR p0 W).q
theorem zOy p0 W:∀r,zM9 p0 W=some r->FH 298 [yA p0] [] [] (hpA W) (hpA W) (.tup [.agg [sD r.1.Entry.Key,iD r.1.Entry.Version,iD r.1.Entry.Len,iD r.1.Entry.First,iD r.1.next_],bT' r.2]):=zM mixed [] Tryz.func298 _
def zDi(p0:O)(w0:Hp)(p1:Int)(F2:Nat)(C2:(List (List D)))(p2:(Int->zI->Option Bool))(hp2:∀(a0:Int) (a1:zI) r,p2 a0 a1=some r->FP F2 ([iA a0,.t (.agg [sD a1.Entry.Key,iD a1.Entry.Version,iD a1.Entry.Len,iD a1.Entry.First,iD a1.next_])]++C2.map A.imm) [] (bA r))(hf2:∃fn,Tryz.prog.funcs[F2]? =some fn/\fn.body.isNone=false/\(fn.name== "runtime.NumGoroutine")=false)(z6 z7 z8 z9:Int):TT (zX×Int×zI×Int) [Int×Int×Int×Int]:=
.i 104 (z8==0) (λh10=> .e ((zX.mk 0 0),0,(zI.mk (zC.mk [] 0 0 0) 0),35)) λh10=>
.fR 40 (zFE p0 z8 w0) λx11=>
.i 134 (x11.2 !=0) (λh13=> .e ((zX.mk 0 0),0,(zI.mk (zC.mk [] 0 0 0) 0),x11.2)) λh13=>
.fR 50 (zOy x11.1 w0) λx14=>
.fA 57 (zDd x14.1.Entry.Key) λx16=>
.i 195 (!x14.2) (λh18=> .e ((zX.mk 0 0),0,(zI.mk (zC.mk [] 0 0 0) 0),11)) λh18=>
.i 210 (x16.1 !=p1) (λh19=> .e ((zX.mk 0 0),0,(zI.mk (zC.mk [] 0 0 0) 0),11)) λh19=>
.i 218 (decide ((wi (z9+1))>16384)) (λh20=> .e ((zX.mk 0 0),0,(zI.mk (zC.mk [] 0 0 0) 0),11)) λh20=>
.b (p2 z8 x14.1) λx21 h22=>
.o 78 (cP (hp2 z8 x14.1 _ h22) hf2)<|
.i 236 x21 (λh23=> .e ((zX.mk z6 z7),z8,x14.1,0)) λh23=>
.k [] .z (z8,0,x14.1.next_,(wi (z9+1)))
def zEx(p0:O)(p1:Int)(F2:Nat)(C2:List (List D))(p2:(Int->zI->Option Bool))(hp2:∀(a0:Int) (a1:zI) r,p2 a0 a1=some r->FP F2 ([iA a0,.t (.agg [sD a1.Entry.Key,iD a1.Entry.Version,iD a1.Entry.Len,iD a1.Entry.First,iD a1.next_])]++C2.map A.imm) [] (bA r))(hf2:∃fn,Tryz.prog.funcs[F2]? =some fn/\fn.body.isNone=false/\(fn.name== "runtime.NumGoroutine")=false)(w0:Hp):TT (zX×Int×zI×Int) []:=
.fR 21 (zD3 p0 p1 w0) λx1=>
.fR 25 (zFX p0 x1 w0) λx3=>
.i 89 (x3.2 !=0) (λh5=> .e ((zX.mk 0 0),0,(zI.mk (zC.mk [] 0 0 0) 0),x3.2)) λh5=>
.l [] (λq=>[(0,oA 7 p0),(1,iA p1),(2,.t (.d (.clo F2 C2))),(6,.box [iT 0,iT 0]),(8,.box [sT [],iT 0,iT 0,iT 0,iT 0]),(10,.box [iT q.1,iT q.2.1]),(11,iA q.2.2.1),(13,iA q.2.2.2),kH w0]) (16400) (λq=>zDi p0 w0 p1 F2 C2 p2 hp2 hf2 q.1 q.2.1 q.2.2.1 q.2.2.2) (x1.home_,x1.off_,x3.1,0)
def zCV(p0:O)(p1:Int)(F2:Nat)(C2:List (List D))(p2:(Int->zI->Option Bool))(hp2:∀(a0:Int) (a1:zI) r,p2 a0 a1=some r->FP F2 ([iA a0,.t (.agg [sD a1.Entry.Key,iD a1.Entry.Version,iD a1.Entry.Len,iD a1.Entry.First,iD a1.next_])]++C2.map A.imm) [] (bA r))(hf2:∃fn,Tryz.prog.funcs[F2]? =some fn/\fn.body.isNone=false/\(fn.name== "runtime.NumGoroutine")=false)(w0:Hp):Option (zX×Int×zI×Int):=(zEx p0 p1 F2 C2 p2 hp2 hf2 w0).run Env.nil
theorem zFp(p0:O)(p1:Int)(F2:Nat)(C2:List (List D))(p2:(Int->zI->Option Bool))(hp2:∀(a0:Int) (a1:zI) r,p2 a0 a1=some r->FP F2 ([iA a0,.t (.agg [sD a1.Entry.Key,iD a1.Entry.Version,iD a1.Entry.Len,iD a1.Entry.First,iD a1.next_])]++C2.map A.imm) [] (bA r))(hf2:∃fn,Tryz.prog.funcs[F2]? =some fn/\fn.body.isNone=false/\(fn.name== "runtime.NumGoroutine")=false)(w0:Hp):∀r,zCV p0 p1 F2 C2 p2 hp2 hf2 w0=some r->FH 220 [oA 7 p0,iA p1,.t (.d (.clo F2 C2))] [] [] (hpA w0) (hpA w0) (.tup [.agg [iD r.1.home_,iD r.1.off_],iT r.2.1,.agg [sD r.2.2.1.Entry.Key,iD r.2.2.1.Entry.Version,iD r.2.2.1.Entry.Len,iD r.2.2.1.Entry.First,iD r.2.2.1.next_],iT r.2.2.2]):=zM mixed [] Tryz.func220 (zEx p0 p1 F2 C2 p2 hp2 hf2 w0) (by kernel_rfl)
def zJt(J:Int)(I:zI)(u:Y):TT Bool []:=
.w 10 trivial (seqE I.Entry.Key u)<|
.e (I.Entry.Key==u)
def zFZ p0 p1 c2:=(zJt p0 p1 c2).q
theorem zIw p0 p1 c2:∀r,zFZ p0 p1 c2=some r->FP 295 [iA p0,.t (.agg [sD p1.Entry.Key,iD p1.Entry.Version,iD p1.Entry.Len,iD p1.Entry.First,iD p1.next_]),.imm [sD c2]] [] (bA r):=zAM mixed Tryz.func295 _
def zLd(Z:O)(u:Y)(W:Hp):TT (zX×Int×zI×Int) []:=
.fA 12 (zDd u) λU=>
.i 50 (!U.2) (λh3=> .e ((zX.mk 0 0),0,(zI.mk (zC.mk [] 0 0 0) 0),2)) λh3=>
.f 18 (fzV 3)<|
.fR 22 (zFp Z U.1 295 [[sD u]] (λJ a1=>zFZ J a1 u) (λJ a1 r h=>zIw J a1 u r h) ⟨_,Tryz.func295,rfl,rfl⟩ W) λI=>
.e (I.1,I.2.1,I.2.2.1,I.2.2.2)
def zLb p0 p1 W:=(zLd p0 p1 W).q
theorem zFs p0 p1 W:∀r,zLb p0 p1 W=some r->FH 217 [oA 7 p0,sA p1] [] [] (hpA W) (hpA W) (.tup [.agg [iD r.1.home_,iD r.1.off_],iT r.2.1,.agg [sD r.2.2.1.Entry.Key,iD r.2.2.1.Entry.Version,iD r.2.2.1.Entry.Len,iD r.2.2.1.Entry.First,iD r.2.2.1.next_],iT r.2.2.2]):=zM mixed [] Tryz.func217 _
def zLm(J:O)(I:Y)(W:Hp):TT (zC×Int×Int) []:=
.fR 14 (zFs J I W) λu=>
.e (u.2.2.1.Entry,u.2.1,u.2.2.2)
def zLU p0 p1 W:=(zLm p0 p1 W).q
theorem zEG p0 p1 W:∀r,zLU p0 p1 W=some r->FH 121 [oA 7 p0,sA p1] [] [] (hpA W) (hpA W) (.tup [.agg [sD r.1.Key,iD r.1.Version,iD r.1.Len,iD r.1.First],iT r.2.1,iT r.2.2]):=zM mixed [] Tryz.func121 _
def zUH(u:Int):TT Bool []:=
.i 18 (decide (u>=0)) (λI=> .e (decide (u<=1024))) λI=>
.e false
def zT2 p0:=(zUH p0).q
theorem zLR p0:∀r,zT2 p0=some r->FP 218 [iA p0] [] (bA r):=zAM mixed Tryz.func218 _
def zRa(u:Int):TT Int []:=
.fA 4 (zLR u) λI=>
.i 17 (!I) (λJ=> .e 0) λJ=>
.e (wi (Int.tdiv (wi ((wi (u+60))-1)) 60))
def zRX p0:=(zRa p0).q
theorem zE0 p0:∀r,zRX p0=some r->FP 212 [iA p0] [] (iA r):=zAM mixed Tryz.func212 _
def zO1(J:zAn)(u:Bool):TT Bool []:=
.iF 35 u λU=>
.i 89 (J.Kind==2) (λI=> .e true) λI=> .no
def zSO(u:zAn):TT Bool []:=
.fA 8 (zDd u.Key) λU=>
.j 47 (λI=>[(1,.box [iT u.Kind,sT u.Key,iT u.Version,iT u.Size]),(11,bA I)]) (λI=>zO1 u I)<|
.iF 45 (!U.2) λW=>
.iF 60 (decide (u.Version<0)) λJ=>
.iF 75 (decide (u.Size<0)) λZ=>
.k [] .z (decide (u.Size>1024))
def zSd p0:=(zSO p0).q
theorem zRs p0:∀r,zSd p0=some r->FP 292 [.t (.agg [iD p0.Kind,sD p0.Key,iD p0.Version,iD p0.Size])] [] (bA r):=zAM mixed Tryz.func292 _
def zNT(u:Int):TT Int []:=
.iF 134 (decide (u>512)) λI=>
.e 0
def zNX(p0:List zAn)(W:Hp)(z4 J:Int)(I:(List (Y×Int))):TT Int [Int×Int×(List (Y×Int)),Int]:=
.i 44 (decide (J<(p0.length:Int))) (λh7=> .b (idx p0 J) λu h9=>
.ix 16 zAa h9<|
.fA 19 (zRs u) λU=>
.iF 66 (!U) λγ=>
.o 25 (mlk (kv:=kvS) (vT:=(λv=>T.d ((λz:Int=>D.lit (.int .i64 z)) v))) 0 I u.Key (keyStr (kt:=9) (by kernel_rfl)) (z:=(0:Int)) (λ_=>RepD.lit _ rfl))<|
.iF 83 (decide (((zCG I u.Key).getD (0:Int))>0)) λβ=>
.o 45 (mup (kv:=kvS) (vT:=(λv=>T.d ((λz:Int=>D.lit (.int .i64 z)) v))) 0 I u.Key (wi (J+1)) (keyStr (kt:=9) (by kernel_rfl)))<|
.i 107 (u.Kind !=1) (λα=> .fA 39 (zE0 u.Size) λZ=>
.k [] .z ((wi (z4+(wi (4+Z)))),(wi (J+1)),(mset I u.Key (wi (J+1))))) λα=> .no) λh7=>
.f 9 (fgt (f:=hpA W) 0 [obM 0 (kL kvS) (λv=> .d ((λz:Int=>D.lit (.int .i64 z)) v)) I,obH (hpA W)])<|
.k [] (.s .z) z4
def zQl(u:List zAn)(W:Hp):TT Int []:=
.ln 8 u zAa<|
.iF 29 (decide ((u.length:Int)>64)) λJ=>
.o 10 (mkm 0)<|
.j 58 (λI=>[(3,iA I),kH W,kF 0]) (λI=>zNT I)<|
.ln 12 u zAa<|
.l [] (λq=>[(3,iA q.1),(4,.t (.mpt 0)),(11,.t (.d (.seq 4 (List.map zAa u)))),(12,iA (u.length:Int)),(13,iA q.2.1),((OB+0),mpA kvS (λz:Int=>D.lit (.int .i64 z)) q.2.2),kH W]) (u.length+1) (λq=>zNX u W q.1 q.2.1 q.2.2) (0,0,([]:(List (Y×Int))))
def zQS p0 W:=(zQl p0 W).q
theorem zOA p0 W:∀r,zQS p0 W=some r->FH 211 [.t (.d (.seq 4 (List.map zAa p0)))] [] [] (hpA W) (hpA W) (iA r):=zM mixed [0] Tryz.func211 _
def zJ8(p0:O)(i5:Nat)(Z:p0=some i5)(W:Hp)(I:zU)(h7:W.ge_vw i5=some I)(u δ γ:Int):TT (Int×Int×Int) []:=
.s 440 109 11 Z<|
.o 113 (ld (zDA h7))<|
.iF 323 (decide (u>I.h_.quota_)) λθ=>
.s 472 117 11 Z<|
.o 120 (ld (zDA h7))<|
.pS I.s_ λα U=>
.s 484 120 10 U<|
.b (W.ge_st α) λJ ε=>
.o 123 (ldS (zIs ε))<|
.fA 124 (zCF J.geometry_) λβ=>
.iF 347 (decide (γ>β)) λη=>
.s 512 127 11 Z<|
.o 131 (ld (zDA h7))<|
.iF 380 (decide (I.h_.count_>=2305843009213693952)) λζ=>
.e (u,δ,0)
def zKR(u:zAn)(U W Z α:Int):TT (Int×Int×Int) [Int×Int×Int×Int,Int×Int×Int]:=
.i 281 (u.Kind==2) (λJ=> .fA 104 (zE0 u.Size) λI=>
.k [] .z ((wi (W+u.Size)),(wi (Z+1)),(wi ((wi (α+1))+I)),(wi (U+1)))) λJ=> .no
def zKE(u:zAn)(J U α I:Int)(p0:O)(p1:List zAn)(W:Hp)(Z:(zC×Int×Int)):TT (Int×Int×Int) [Int×Int×Int×Int,Int×Int×Int]:=
.iF 230 (u.Kind==1) λβ=>
.j 74 (λq=>[(0,oA 11 p0),(4,iA q.1),(5,iA q.2.1),(8,iA q.2.2),(10,.box [iT u.Kind,sT u.Key,iT u.Version,iT u.Size]),(31,.t (.d (.seq 4 (List.map zAa p1)))),(32,iA (p1.length:Int)),(33,iA I),kH W]) (λq=>zKR u I q.1 q.2.1 q.2.2)<|
.iF 236 (Z.2.2==0) λγ=>
.k [] .z (J,U,α)
def zJ9(p0:O)(J U γ:Int)(β:zAn)(α:(zC×Int×Int))(p1:List zAn)(Z:Int)(W:Hp)(I:Bool):TT (Int×Int×Int) [Unit,Int×Int×Int×Int,Int×Int×Int]:=
.i 146 I (λu=> .k [] .z ()) λu=> .no
def zKU(p1:List zAn)(p0:O)(i5:Nat)(h4:p0=some i5)(W:Hp)(x6:zU)(h7:W.ge_vw i5=some x6)(U Z α J:Int):TT (Int×Int×Int) [Int×Int×Int×Int,Int×Int×Int]:=
.i 104 (decide (J<(p1.length:Int))) (λγ=> .b (idx p1 J) λI δ=>
.ix 35 zAa δ<|
.s 156 38 11 h4<|
.o 41 (ld (zDA h7))<|
.fR 44 (zEG x6.x_ I.Key W) λu=>
.j 62 (λ_=>[(0,oA 11 p0),(4,iA U),(5,iA Z),(8,iA α),(10,.box [iT I.Kind,sT I.Key,iT I.Version,iT I.Size]),(11,.box [sT u.1.Key,iT u.1.Version,iT u.1.Len,iT u.1.First]),(13,iA u.2.2),(31,.t (.d (.seq 4 (List.map zAa p1)))),(32,iA (p1.length:Int)),(33,iA J),kH W]) (λ_=>zKE I U Z α J p0 p1 W u)<|
.j 195 (λβ=>[(0,oA 11 p0),(4,iA U),(5,iA Z),(8,iA α),(10,.box [iT I.Kind,sT I.Key,iT I.Version,iT I.Size]),(11,.box [sT u.1.Key,iT u.1.Version,iT u.1.Len,iT u.1.First]),(13,iA u.2.2),(31,.t (.d (.seq 4 (List.map zAa p1)))),(32,iA (p1.length:Int)),(33,iA J),(48,bA β),kH W]) (λβ=>zJ9 p0 U Z α I u p1 J W β)<|
.i 156 (u.2.2==35) (λε=> .k [] .z (I.Version==0)) λε=> .no) λγ=>
.k [] (.s .z) (U,Z,α)
def zMl(I:O)(u:List zAn)(W:Hp):TT (Int×Int×Int) []:=
.fR 15 (zOA u W) λx1=>
.iF 53 (x1 !=0) λh3=>
.pS I λi5 J=>
.s 80 19 11 J<|
.b (W.ge_vw i5) λZ U=>
.o 23 (ld (zDA U))<|
.s 100 24 11 J<|
.o 28 (ld (zDA U))<|
.fR 30 (zGS I W) λx8=>
.j 86 (λq=>[(0,oA 11 I),(4,iA q.1),(5,iA q.2.1),(8,iA q.2.2),kH W]) (λq=>zJ8 I i5 J W Z U q.1 q.2.1 q.2.2)<|
.ln 32 u zAa<|
.l [] (λq=>[(0,oA 11 I),(4,iA q.1),(5,iA q.2.1),(8,iA q.2.2.1),(31,.t (.d (.seq 4 (List.map zAa u)))),(32,iA (u.length:Int)),(33,iA q.2.2.2),kH W]) (u.length+1) (λq=>zKU u I i5 J W Z U q.1 q.2.1 q.2.2.1 q.2.2.2) (Z.h_.bytes_,Z.h_.keys_,x8,0)
def zMN p0 p1 W:=(zMl p0 p1 W).q
theorem zLS p0 p1 W:∀r,zMN p0 p1 W=some r->FH 115 [oA 11 p0,.t (.d (.seq 4 (List.map zAa p1)))] [] [] (hpA W) (hpA W) (.tup [iT r.1,iT r.2.1,iT r.2.2]):=zM mixed [] Tryz.func115 _
def zNP(J:List zQ)(U:List zAn)(I:Int):TT (List zAn) [(List zAn)×Int]:=
.i 29 (decide (I<(J.length:Int))) (λh3=> .b (idx J I) λu W=>
.ix 10 qL W<|
.y 12 true<|
.ln 21 u.Data cU8<|
.b (appI 40 U [(zAn.mk u.Kind u.Key u.Version (u.Data.length:Int))]) λx6 Z=>
.w 24 (appC (c:=zAa) Z) (.oe (appE (E:=219) (k:=4) (c:=zAa) Z))<|
.y 3 true<|
.k [] .z (x6,(wi (I+1)))) λh3=>
.y 26 true<|
.y 2 true<|
.e U
def zQB(u:List zQ):TT (List zAn) []:=
.ln 7 u qL<|
.l [3] (λq=>[(3,.t (.own 219 4 (List.map zAa q.1))),(6,.t (.d (.seq 4 (List.map qL u)))),(7,iA (u.length:Int)),(8,iA q.2)]) (u.length+1) (λq=>zNP u q.1 q.2) ([],0)
def zP7 p0:=(zQB p0).q
theorem zOo p0:∀r,zP7 p0=some r->FP 116 [.t (.d (.seq 4 (List.map qL p0)))] [] (.t (.own 219 4 (List.map zAa r))):=zAM mixed Tryz.func116 _
def zF2(p0:List zQ)(F1:Nat)(C1:(List (List D)))(p1:(zQ->Option Bool))(hp1:∀(a0:zQ) r,p1 a0=some r->FP F1 ([.t (.agg [iD a0.Kind,sD a0.Key,iD a0.Version,yD a0.Data])]++C1.map A.imm) [] (bA r))(hf1:∃fn,Tryz.prog.funcs[F1]? =some fn/\fn.body.isNone=false/\(fn.name== "runtime.NumGoroutine")=false)(z1:Int):TT Int [Int]:=
.i 29 (decide (z1<(p0.length:Int))) (λh2=> .b (idx p0 z1) λx3 h4=>
.ix 14 qL h4<|
.b (p1 x3) λx5 h6=>
.o 16 (cP (hp1 x3 _ h6) hf1)<|
.i 50 x5 (λh7=> .e z1) λh7=> .no) λh2=> .no
def zEO(p0:List zQ)(F1:Nat)(C1:List (List D))(p1:(zQ->Option Bool))(hp1:∀(a0:zQ) r,p1 a0=some r->FP F1 ([.t (.agg [iD a0.Kind,sD a0.Key,iD a0.Version,yD a0.Data])]++C1.map A.imm) [] (bA r))(hf1:∃fn,Tryz.prog.funcs[F1]? =some fn/\fn.body.isNone=false/\(fn.name== "runtime.NumGoroutine")=false):TT Int []:=
.ln 7 p0 qL<|
.l [] (λz1=>[(0,.t (.d (.seq 4 (List.map qL p0)))),(1,.t (.d (.clo F1 C1))),(7,iA (p0.length:Int)),(8,iA z1)]) (p0.length+1) (λz1=>zF2 p0 F1 C1 p1 hp1 hf1 z1) 0
def zHE(p0:List zQ)(F1:Nat)(C1:List (List D))(p1:(zQ->Option Bool))(hp1:∀(a0:zQ) r,p1 a0=some r->FP F1 ([.t (.agg [iD a0.Kind,sD a0.Key,iD a0.Version,yD a0.Data])]++C1.map A.imm) [] (bA r))(hf1:∃fn,Tryz.prog.funcs[F1]? =some fn/\fn.body.isNone=false/\(fn.name== "runtime.NumGoroutine")=false):Option Int:=(zEO p0 F1 C1 p1 hp1 hf1).run Env.nil
theorem zGi(p0:List zQ)(F1:Nat)(C1:List (List D))(p1:(zQ->Option Bool))(hp1:∀(a0:zQ) r,p1 a0=some r->FP F1 ([.t (.agg [iD a0.Kind,sD a0.Key,iD a0.Version,yD a0.Data])]++C1.map A.imm) [] (bA r))(hf1:∃fn,Tryz.prog.funcs[F1]? =some fn/\fn.body.isNone=false/\(fn.name== "runtime.NumGoroutine")=false):∀r,zHE p0 F1 C1 p1 hp1 hf1=some r->FP 213 [.t (.d (.seq 4 (List.map qL p0))),.t (.d (.clo F1 C1))] [] (iA r):=zAM mixed Tryz.func213 (zEO p0 F1 C1 p1 hp1 hf1) (by kernel_rfl)
def zDT(p0:List zQ)(F1:Nat)(C1:List (List D))(p1:(zQ->Option Bool))(hp1:∀(a0:zQ) r,p1 a0=some r->FP F1 ([.t (.agg [iD a0.Kind,sD a0.Key,iD a0.Version,yD a0.Data])]++C1.map A.imm) [] (bA r))(hf1:∃fn,Tryz.prog.funcs[F1]? =some fn/\fn.body.isNone=false/\(fn.name== "runtime.NumGoroutine")=false):TT Bool []:=
.fA 7 (zGi p0 F1 C1 p1 hp1 hf1) λx1=>
.e (decide (x1>=0))
def zF7(p0:List zQ)(F1:Nat)(C1:List (List D))(p1:(zQ->Option Bool))(hp1:∀(a0:zQ) r,p1 a0=some r->FP F1 ([.t (.agg [iD a0.Kind,sD a0.Key,iD a0.Version,yD a0.Data])]++C1.map A.imm) [] (bA r))(hf1:∃fn,Tryz.prog.funcs[F1]? =some fn/\fn.body.isNone=false/\(fn.name== "runtime.NumGoroutine")=false):Option Bool:=(zDT p0 F1 C1 p1 hp1 hf1).run Env.nil
theorem zFd(p0:List zQ)(F1:Nat)(C1:List (List D))(p1:(zQ->Option Bool))(hp1:∀(a0:zQ) r,p1 a0=some r->FP F1 ([.t (.agg [iD a0.Kind,sD a0.Key,iD a0.Version,yD a0.Data])]++C1.map A.imm) [] (bA r))(hf1:∃fn,Tryz.prog.funcs[F1]? =some fn/\fn.body.isNone=false/\(fn.name== "runtime.NumGoroutine")=false):∀r,zF7 p0 F1 C1 p1 hp1 hf1=some r->FP 117 [.t (.d (.seq 4 (List.map qL p0))),.t (.d (.clo F1 C1))] [] (bA r):=zAM mixed Tryz.func117 (zDT p0 F1 C1 p1 hp1 hf1) (by kernel_rfl)
def zIu(u:zQ):TT Bool []:=
.e (u.Kind !=1)
def zFC p0:=(zIu p0).q
theorem zIK p0:∀r,zFC p0=some r->FP 118 [.t (.agg [iD p0.Kind,sD p0.Key,iD p0.Version,yD p0.Data])] [] (bA r):=zAM mixed Tryz.func118 _
def zHf(p0:O)(J:Int)(W:Hp):TT Bool []:=
.p p0 (λI=> .t 24 5 (ptN 8 I)<|
.e false) λi2 I=>
.s 24 5 8 I<|
.i 36 (decide (J>=0)) (λh3=> .s 56 13 8 I<|
.b (W.ge_sp i2) λx4 h5=>
.o 16 (ld (zIh h5))<|
.i 60 (decide (J<x4.n_)) (λh6=> .s 84 20 8 I<|
.o 23 (ld (zIh h5))<|
.b (W.ge_w64 x4.l_.1) λx7 h8=>
.b (lenI x7.length x4.l_.2) λx9 Z=>
.b (idx x7 (wi (Int.tdiv J 64))) λU u=>
.c 26 (idxV (zA1 Z) u)<|
.o 27 (ldA (zNJ h8) (zO2 u rfl (λ_=>rfl)))<|
.b (shrI .u64 U (IntKind.u64.wrap (Int.tmod J 64))) λβ α=>
.o 31 (bv (shrIE (yk:= .u64) α))<|
.e ((IntKind.u64.wrap ((((BitVec.ofInt IntKind.u64.bits β)&&&(BitVec.ofInt IntKind.u64.bits 1)).toNat:Nat):Int))==0)) λh6=>
.e false) λh3=>
.e false
def zAo p0 p1 W:=(zHf p0 p1 W).q
theorem zGX p0 p1 W:∀r,zAo p0 p1 W=some r->FH 207 [oA 8 p0,iA p1] [] [] (hpA W) (hpA W) (bA r):=zM mixed [] Tryz.func207 _
def zG0(p0:O)(p1:Int)(W:Hp):TT Hp []:=
.p p0 (λh1=> .t 20 4 (ptN 8 h1)<|
.no) λi2 h1=>
.s 20 4 8 h1<|
.b (W.ge_sp i2) λu h4=>
.o 7 (ld (zIh h4))<|
.b (W.ge_w64 u.l_.1) λx5 h6=>
.b (lenI x5.length u.l_.2) λx7 h8=>
.b (idx x5 (wi (Int.tdiv p1 64))) λx9 γ=>
.c 10 (idxV (zA1 h8) γ)<|
.o 11 (ldA (zNJ h6) (zO2 γ rfl (λ_=>rfl)))<|
.b (shlI .u64 1 (IntKind.u64.wrap (Int.tmod p1 64))) λU η=>
.o 15 (bv (shlIE (yk:= .u64) η))<|
.b (lenI x5.length u.l_.2) λν ε=>
.b (idx x5 (wi (Int.tdiv p1 64))) λμ Z=>
.c 17 (idxV (zA1 ε) Z)<|
let α:(List Int):=(x5.set (Int.toNat (wi (Int.tdiv p1 64))) (IntKind.u64.wrap ((((BitVec.ofInt IntKind.u64.bits x9)^^^(BitVec.ofInt IntKind.u64.bits U)).toNat:Nat):Int)));let J:=(W.st_w64 u.l_.1 α);.o 35 (stA (n:=1) (zNJ h6) (zF4 (c:=(cInt .u64)) (k:=1) (q:=0) Z (λ_=>(by kernel_rfl)) rfl) (zHw (x:=dT (cInt .u64) (IntKind.u64.wrap ((((BitVec.ofInt IntKind.u64.bits x9)^^^(BitVec.ofInt IntKind.u64.bits U)).toNat:Nat):Int))) (c:=(cInt .u64)) (k:=1) (q:=0) Z (IntKind.u64.wrap ((((BitVec.ofInt IntKind.u64.bits x9)^^^(BitVec.ofInt IntKind.u64.bits U)).toNat:Nat):Int)) (λ_=>(by kernel_rfl)) (by kernel_rfl) (by kernel_rfl)) (su_w64 (x':=α) h6))<|
have I:J.ge_sp i2=some u:=h4;.fR 20 (zGX p0 p1 J) λθ=>
.i 62 θ (λκ=> .s 88 21 8 h1<|
.o 24 (ld (zIh I))<|
let β:zO:=(zO.mk u.n_ (wi (u.free_+1)) u.l_ u.is_);let ζ:=(J.st_sp i2 β);.o 35 (stw (zIh I) (su_sp (x':=β) I))<|
.e ζ) λκ=>
.s 116 28 8 h1<|
.o 31 (ld (zIh I))<|
let δ:zO:=(zO.mk u.n_ (wi (u.free_-1)) u.l_ u.is_);let ι:=(J.st_sp i2 δ);.o 35 (stw (zIh I) (su_sp (x':=δ) I))<|
.e ι
def zCZ p0 p1 W:=(zG0 p0 p1 W).q
theorem zKN p0 p1 W:∀r,zCZ p0 p1 W=some r->FH 195 [oA 8 p0,iA p1] [] [] (hpA W) (hpA r) (.tup []):=zM mixed [] Tryz.func195 _
abbrev zCO(a:(zBH×Int)):List A:=[.t (.agg [iD a.1.home_,yD a.1.data_]),iA a.2]
def zLs{X:Type}(yld:((zBH×Int)->X×Hp->Option (Bool×(X×Hp))))(z:(Option (ItC Tryz.prog hpA zCO X yld)))(Z:Int)(u:(X×Hp)):TT (X×Hp) []:=
.i 152 (Z !=0) (λU=> .b (yld ((zBH.mk 0 []),11) u) λI J=>
.vv 53 (yr z J)<|
.e I.2) λU=>
.e u
def zLi{X:Type}(yld:((zBH×Int)->X×Hp->Option (Bool×(X×Hp))))(z:(Option (ItC Tryz.prog hpA zCO X yld)))(U:(X×Hp))(u:(Y×Int))(z8:Int)(z9:Int)(W:Int):TT (X×Hp) [Int×Int×(X×Hp),Int×(X×Hp)]:=
.i 92 (W !=0) (λζ=> .b (yld ((zBH.mk 0 []),W) U) λε θ=>
.vv 34 (yr z θ)<|
.e ε.2) λζ=>
.b (cutI u.1 4 (u.1.length:Int)) λη J=>
.w 38 (zUO (c:=cU8) J) (.oe (zUf (k:=1) (c:=cU8) J))<|
.b (yld ((zBH.mk z8 η),0) U) λI α=>
.vv 40 (yr z α)<|
.i 125 (!I.1) (λγ=> .e I.2) λγ=>
.b (cutI u.1 0 4) λβ Z=>
.w 44 (zSM (c:=cU8) Z) (.oe (zSD (k:=1) (c:=cU8) Z))<|
.fA 45 (zES β) λδ=>
.k [] .z (δ.1,(wi (z9+1)),I.2)
def zLt{X:Type}(yld:((zBH×Int)->X×Hp->Option (Bool×(X×Hp))))(z:(Option (ItC Tryz.prog hpA zCO X yld)))(x6:Int)(c3:Nat)(U:Int)(z9:Int)(I:(X×Hp)):TT (X×Hp) [Int×Int×(X×Hp),Int×(X×Hp)]:=
.i 38 (decide (z9<x6)) (λγ=> .b (zAi (some c3) U I.2) λu Z=>
.o 16 (cRZ z I (zDD (some c3) U I.2 _ Z) nc_hpA)<|
.j 26 (λJ=>[(0,.t (.d (.lit (yv (itL z))))),(3,.imt [.opt 5 (some c3)]),(5,iA U),(6,yA u.1),(7,iA J),(10,iA x6),(11,iA z9),(HK,.hp (itH z I))]) (λJ=>zLi yld z I u U z9 J)<|
.i 66 (u.2==31) (λα=> .k [] .z 11) λα=>
.i 75 (u.2==0) (λβ=> .i 86 (U==0) (λW=> .k [] .z 11) λW=>
.k [] .z u.2) λβ=>
.k [] .z u.2) λγ=>
.k [] (.s .z) (U,I)
def zI8{X:Type}(yld:(zBH×Int)->X×Hp->Option (Bool×(X×Hp)))(z:Option (ItC Tryz.prog hpA zCO X yld))(U:Int)(J:Int)(I:Nat)(W:X×Hp):TT (X×Hp) []:=
.j 46 (λq=>[(0,.t (.d (.lit (yv (itL z))))),(5,iA q.1),(HK,.hp (itH z q.2))]) (λq=>zLs yld z q.1 q.2)<|
.fA 10 (zE0 J) λu=>
.l [] (λq=>[(0,.t (.d (.lit (yv (itL z))))),(3,.imt [.opt 5 (some I)]),(5,iA q.1),(10,iA u),(11,iA q.2.1),(HK,.hp (itH z q.2.2))]) (Int.toNat u+1) (λq=>zLt yld z u I q.1 q.2.1 q.2.2) (U,0,W)
def zI1{X:Type}(yld:(zBH×Int)->X×Hp->Option (Bool×(X×Hp)))(I:Int)(u:Int)(J:Nat)(W:X×Hp):Option (X×Hp):=(zI8 yld none I u J W).run Env.nil
theorem zNa(I u:Int)(J:Nat):ITR Tryz.prog 296 [[iT I],[iT u],[.opt 5 (some J)]] hpA zCO (λX yld q=>zI1 yld I u J q):=itr_chk mixed Tryz.func296 [] (λX yld z q=>zI8 yld z I u J q) (λ_ _ _ _=>rfl) (by kernel_rfl)
def zND(I:O)(u J:Int)(W:Hp):TT (Int×Int×Nat) []:=
.p I (λ_=> .no) λZ U=>
.s 5 0 5 U<|
.f 6 (fzT 4)<|
.f 6 (fzT 5)<|
.f 6 (fzT 3)<|
.e (u,J,Z)
def zRx(J:O)(u I:Int)(W:Hp):Option (Int×Int×Nat):=(zND J u I W).run Env.nil
theorem zOq(J:O)(u I:Int)(W:Hp):∀r,zRx J u I W=some r->FH 219 [oA 5 J,iA u,iA I] [] [] (hpA W) (hpA W) (.cl 296 [[iT r.1],[iT r.2.1],[.opt 5 (some r.2.2)]]):=zM mixed [] Tryz.func219 (zND J u I W) (by kernel_rfl)
def zJG(p0:O)(U:Int)(p2:Y)(W:Hp):TT (Int×Hp) []:=
.fR 9 (zDu p0 W) λx1=>
.i 35 (x1 !=0) (λh3=> .e (x1,W)) λh3=>
.i 51 (decide (U<0)) (λh4=> .e (31,W)) λh4=>
.p p0 (λZ=> .t 76 18 (ptN 5 Z)<|
.no) λi6 Z=>
.s 76 18 5 Z<|
.b (W.ge_tx i6) λx7 h8=>
.o 21 (ld (zK3 h8))<|
.fR 22 (zB1 x7.l_ W) λx9=>
.i 41 (decide (U>=x9)) (λδ=> .e (31,W)) λδ=>
.ln 27 p2 cU8<|
.i 77 ((p2.length:Int) !=64) (λγ=> .e (2,W)) λγ=>
.s 120 29 5 Z<|
.o 32 (ld (zK3 h8))<|
.fA 35 (zFv p2) λI=>
.b (W.ge_mp x7.now_) λβ J=>
let u:(List (Int×Y)):=(mset β U I);let α:=(W.st_mp x7.now_ u);.o 36 (mupH (kv:=(λz:Int=>Value.int .i64 z)) (vT:=(λv=>T.d ((λl:List UInt8=>D.seq 1 (qV l)) v))) (gl_mp J) U I (zRq (kt:=3) (by kernel_rfl)) (su_mp (x':=u) J))<|
.e (0,α)
def zA5 p0 p1 p2 W:=(zJG p0 p1 p2 W).q
theorem zBx p0 p1 p2 W:∀r,zA5 p0 p1 p2 W=some r->FH 98 [oA 5 p0,iA p1,yA p2] [] [] (hpA W) (hpA r.2) (iA r.1):=zM mixed [] Tryz.func98 _
def zLr(Z:O)(U:Int)(W:Hp):TT (Y×Int) []:=
.fR 10 (zDt Z U W) λx1=>
.iF 38 (x1 !=0) λh3=>
.pS Z λi5 h4=>
.s 60 14 1 h4<|
.b (W.ge_dk i5) λx6 h7=>
.o 17 (ld (zIB h7))<|
.b (W.ge_sec x6.now_.1) λx8 h9=>
.b (lenI x8.length x6.now_.2) λα J=>
.b (idx x8 U) λI u=>
.c 19 (idxV (zA1 J) u)<|
.o 20 (lrA (zTZ h9) (flr_at (k:=64) u (λ_=>(by kernel_rfl))))<|
.o 7 (lnew 0 (fl (dT cU8) (padA (0:UInt8) ([]:Y) 0 64)))<|
.o 22 (lstW (OB+0) (fl (dT cU8) (padA (0:UInt8) I 0 64)))<|
.o 21 (sla)<|
.e ((padA (0:UInt8) I 0 64),0)
def zGu p0 p1 W:=(zLr p0 p1 W).q
theorem zKS p0 p1 W:∀r,zGu p0 p1 W=some r->FH 278 [oA 1 p0,iA p1] [] [gbA cU8 r.1] (hpA W) (hpA W) (.tup [.view 0 0 0 1 r.1.length,iT r.2]):=zM mixed [0] Tryz.func278 _
end
end Go.Proofs.YtocolhfjpadaoaaGreatDoor
