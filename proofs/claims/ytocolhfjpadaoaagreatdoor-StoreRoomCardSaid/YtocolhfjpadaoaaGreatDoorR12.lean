/-
  Lemmas of this claim, joined.
-/
import Derived.Test.YtocolhfjpadaoaaGreatDoorR11
set_option linter.unusedVariables false
set_option linter.unusedSimpArgs false
set_option linter.constructorNameAsVariable false
namespace Go.Proofs.YtocolhfjpadaoaaGreatDoor
open Go Go.RowKit
variable {P:Program}{w0:World}{w:World}{m0:Mem}{m:Mem}{o0:OwnM}{o:OwnM}{G:GD}{pins:List Nat}{N:Nat}{a:Act}{op:Oper}{S:Nat->A}{M:Nat->A}{L:SL}{v:Value}{W:World}{Q:Mem}{X:OwnM}
set_option maxRecDepth 20000
noncomputable section
def zNS(U:O)(Z:Int)(W:Hp):TT (Y×Int) []:=
.fR 8 (zBy U W) λx1=>
.iF 32 (x1 !=0) λh3=>
.iF 45 (decide (Z<0)) λh4=>
.fR 17 (zB1 U W) λx5=>
.iF 59 (decide (Z>=x5)) λh7=>
.pS U λi9 h8=>
.s 84 20 3 h8<|
.b (W.ge_lg i9) λI β=>
.o 23 (ld (zBv β))<|
.fR 26 (zFf U Z W) λJ=>
.b (zGu I.d_ J W) λu α=>
.o 27 (cOR [] [0] (zKS I.d_ J W _ α) zAc (zPw cU8 u.1))<|
.e (u.1,u.2)
def zIe p0 p1 W:=(zNS p0 p1 W).q
theorem zLl p0 p1 W:∀r,zIe p0 p1 W=some r->FH 283 [oA 3 p0,iA p1] [] [gbA cU8 r.1] (hpA W) (hpA W) (.tup [.view 0 0 0 1 r.1.length,iT r.2]):=zM mixed [0] Tryz.func283 _
def zNf(Z:O)(I:Int)(W:Hp):TT (Y×Int) []:=
.fR 10 (zDu Z W) λx1=>
.iF 38 (x1 !=0) λh3=>
.pS Z λi5 h4=>
.s 64 15 5 h4<|
.b (W.ge_tx i5) λJ h7=>
.o 18 (ld (zK3 h7))<|
.b (W.ge_mp J.now_) λx8 h9=>
.o 20 (mlkH (kv:=(λz:Int=>Value.int .i64 z)) (vT:=(λv=>T.d ((λl:List UInt8=>D.seq 1 (qV l)) v))) (gl_mp h9) I (zRq (kt:=3) (by kernel_rfl)) (z:=([]:Y)) (λ_=>RepD.nilSeq _ _))<|
.iF 71 ((zCG x8 I).isSome) λα=>
.s 108 26 5 h4<|
.o 29 (ld (zK3 h7))<|
.b (zIe J.l_ I W) λu U=>
.o 31 (cOR [] [0] (zLl J.l_ I W _ U) zAc (zPw cU8 u.1))<|
.e (u.1,u.2)
def zIV p0 p1 W:=(zNf p0 p1 W).q
theorem zLh p0 p1 W:∀r,zIV p0 p1 W=some r->FH 198 [oA 5 p0,iA p1] [] [gbA cU8 r.1] (hpA W) (hpA W) (.tup [.view 0 0 0 1 r.1.length,iT r.2]):=zM mixed [0] Tryz.func198 _
def zG8(I:(Y×Int))(u:Int):TT (Y×Int) []:=
.e (I.1,u)
def zIq(p0:O)(J:Int)(W:Hp):TT (Y×Int) []:=
.pS p0 λi2 U=>
.s 36 8 7 U<|
.s 48 11 7 U<|
.b (W.ge_ix i2) λZ h4=>
.o 14 (ld (zSE h4))<|
.b (zIV Z.t_ J W) λu h6=>
.o 16 (cOR [] [0] (zLh Z.t_ J W _ h6) zAc (zPw cU8 u.1))<|
.j 26 (λI=>[(6,.t (.view 0 0 0 1 u.1.length)),(7,iA I),((OB+0),gbA cU8 u.1),kH W]) (λI=>zG8 u I)<|
.iF 62 (u.2==31) λh8=>
.k [] .z u.2
def zE8 p0 p1 W:=(zIq p0 p1 W).q
theorem zHO p0 p1 W:∀r,zE8 p0 p1 W=some r->FH 297 [oA 7 p0,iA p1] [] [gbA cU8 r.1] (hpA W) (hpA W) (.tup [.view 0 0 0 1 r.1.length,iT r.2]):=zM mixed [0] Tryz.func297 _
def zMI(p0:O)(u:zX)(p2:Int)(W:Hp):TT (Int×Hp) []:=
.b (zE8 p0 u.home_ W) λI h2=>
.o 13 (cOR [] [0] (zHO p0 u.home_ W _ h2) zAc (zPw cU8 I.1))<|
.iF 53 (I.2 !=0) λh3=>
.b (vcut I.1.length u.off_ (wi (u.off_+4))) λx4 h5=>
.o 25 (lsl (off':=(0+Int.toNat u.off_*1)) (n':=(Int.toNat (wi (u.off_+4))-Int.toNat u.off_)) (zCi h5))<|
.b (neI I.1) λx6 h7=>
.t 108 (OB+0) (gb_ne (c:=cU8) (neI_N h7))<|
.b (zDG I.1 (0+Int.toNat u.off_*1) (Int.toNat (wi (u.off_+4))-Int.toNat u.off_) p2) λU h9=>
.b (lenI U.length I.1.length) λε γ=>
.o 27 (cOR [0] [] (zDC I.1 (0+Int.toNat u.off_*1) (Int.toNat (wi (u.off_+4))-Int.toNat u.off_) p2 W _ h9) (zCM _ _ zAc) (zCM _ _ zAc))<|
.f 22 (frzB (c:=cU8) (k:=1) 7 0 (y:=U) (λ_=>rfl) (f:=hpA W) (n0:=I.1.length) ((zA1 γ).trans rfl).symm [obB 0 cU8 U,obH (hpA W)])<|
.pS p0 λβ Z=>
.s 116 28 7 Z<|
.b (W.ge_ix β) λδ α=>
.o 31 (ld (zSE α))<|
.fH 35 (zBx δ.t_ u.home_ U W) λJ=>
.e (J.1,J.2)
def zMD p0 p1 p2 W:=(zMI p0 p1 p2 W).q
theorem zKO p0 p1 p2 W:∀r,zMD p0 p1 p2 W=some r->FH 229 [oA 7 p0,.t (.agg [iD p1.home_,iD p1.off_]),iA p2] [] [] (hpA W) (hpA r.2) (iA r.1):=zM mixed [0] Tryz.func229 _
def zGR(u:Int):TT Int []:=
.i 14 (u==0) (λI=> .e 64) λI=>
.b (idx zNr (Int.fdiv (IntKind.u64.wrap ((IntKind.u64.wrap ((((BitVec.ofInt IntKind.u64.bits u)&&&(BitVec.ofInt IntKind.u64.bits (IntKind.u64.wrap (0-u)))).toNat:Nat):Int))*285870213051353865)) (2^58))) λJ U=>
.o 11 (gix (g:=0) (k:= .u8) (by kernel_rfl) U)<|
.e (wi J)
def zCA p0:=(zGR p0).q
theorem zF1 p0:∀r,zCA p0=some r->FP 194 [.t (.d (.lit (.int .u64 p0)))] [] (iA r):=zAM mixed Tryz.func194 _
def zDk(I:List Int)(u:Hp):TT ((List Int)×Int×Hp) []:=
.y 58 true<|
.y 4 true<|
.e (I,0,u)
def zDl(p1:Int)(p0:O)(i5:Nat)(h4:p0=some i5)(J:List Int)(I:Int)(u:Hp):TT ((List Int)×Int×Hp) [(List Int)×Int×Hp,(List Int)×Hp]:=
.ln 31 J cI64<|
.i 101 (decide ((J.length:Int)<p1)) (λδ=> .s 140 34 8 h4<|
.b (u.ge_sp i5) λZ ζ=>
.o 37 (ld (zIh ζ))<|
.b (u.ge_w64 Z.l_.1) λβ ι=>
.b (lenI β.length Z.l_.2) λμ θ=>
.b (idx β I) λα U=>
.c 39 (idxV (zA1 θ) U)<|
.o 40 (ldA (zNJ ι) (zO2 U rfl (λ_=>rfl)))<|
.i 131 ((IntKind.u64.wrap ((((BitVec.ofInt IntKind.u64.bits 18446744073709551615)^^^(BitVec.ofInt IntKind.u64.bits α)).toNat:Nat):Int)) !=0) (λκ=> .fA 47 (zF1 (IntKind.u64.wrap ((((BitVec.ofInt IntKind.u64.bits 18446744073709551615)^^^(BitVec.ofInt IntKind.u64.bits α)).toNat:Nat):Int))) λγ=>
.fH 51 (zKN p0 (wi ((wi (64*I))+γ)) u) λε=>
.y 52 true<|
.b (appI 8 J [(wi ((wi (64*I))+γ))]) λη W=>
.w 55 (appC (c:=cI64) W) (.oe (appE (E:=3) (k:=1) (c:=cI64) W))<|
.y 6 true<|
.k [] .z (η,I,ε)) λκ=>
.k [] .z (J,(wi (I+1)),u)) λδ=>
.k [] (.s .z) (J,u)
def zDf(W:Hp)(u:Int)(J:O)(y1:Bool):TT ((List Int)×Int×Hp) []:=
.i 32 y1 (λh2=> .e ([],1,W)) λh2=>
.i 62 (decide (u<0)) (λh3=> .e ([],2,W)) λh3=>
.p J (λI=> .t 104 25 (ptN 8 I)<|
.no) λU I=>
.s 104 25 8 I<|
.b (W.ge_sp U) λx6 h7=>
.o 28 (ld (zIh h7))<|
.i 71 (decide (u>x6.free_)) (λZ=> .e ([],32,W)) λZ=>
.j 66 (λq=>[(6,.t (.own 3 1 (List.map cI64 q.1))),kH q.2]) (λq=>zDk q.1 q.2)<|
.l [6] (λq=>[(0,oA 8 J),(1,iA u),(6,.t (.own 3 1 (List.map cI64 q.1))),(7,iA q.2.1),kH q.2.2]) (Int.toNat u+300) (λq=>zDl u J U I q.1 q.2.1 q.2.2) ([],0,W)
def zG3(J:O)(p1:Int)(W:Hp):TT ((List Int)×Int×Hp) []:=
.j 43 (λU=>[(0,oA 8 J),(1,iA p1),(10,bA U),kH W]) (λU=>zDf W p1 J U)<|
.p J (λu=> .t 48 11 (ptN 8 u)<|
.k [] .z true) λI u=>
.s 48 11 8 u<|
.s 60 14 8 u<|
.b (W.ge_sp I) λx32 Z=>
.o 17 (ld (zIh Z))<|
.k [] .z (!x32.is_)
def zBW p0 p1 W:=(zG3 p0 p1 W).q
theorem zD5 p0 p1 W:∀r,zBW p0 p1 W=some r->FH 100 [oA 8 p0,iA p1] [] [] (hpA W) (hpA r.2.2) (.tup [.d (.seq 1 (List.map cI64 r.1)),iT r.2.1]):=zM mixed [] Tryz.func100 _
def zJo(I:List Int)(U u:Int):TT Int [Int]:=
.iF 29 (decide (u<(I.length:Int))) λJ=>
.e (-1)
def zLg(u:List Int)(J:Int):TT Int []:=
.ln 7 u cI64<|
.l [] (λI=>[(0,.t (.d (.seq 1 (List.map cI64 u)))),(1,iA J),(7,iA (u.length:Int)),(8,iA I)]) (u.length+1) (λI=>zJo u J I) 0
def zL4 p0 p1:=(zLg p0 p1).q
theorem zK4 p0 p1:∀r,zL4 p0 p1=some r->FP 301 [.t (.d (.seq 1 (List.map cI64 p0))),iA p1] [] (iA r):=zAM mixed Tryz.func301 _
def zJH(J:List Int)(u:Int):TT Bool []:=
.fA 7 (zK4 J u) λI=>
.e (decide (I>=0))
def zJl p0 p1:=(zJH p0 p1).q
theorem zIy p0 p1:∀r,zJl p0 p1=some r->FP 228 [.t (.d (.seq 1 (List.map cI64 p0))),iA p1] [] (bA r):=zAM mixed Tryz.func228 _
def zNt(I:List Int)(u:Int):TT Bool [Int]:=
.i 26 (decide (u<(I.length:Int))) (λW=> .b (idx I u) λJ h4=>
.ix 10 cI64 h4<|
.iF 45 (decide (J<1)) λh5=>
.iF 57 (decide (J>16384)) λh6=>
.b (cutI I 0 u) λZ U=>
.w 21 (zSM (c:=cI64) U) (.oe (zSD (k:=1) (c:=cI64) U))<|
.fA 23 (zIy Z J) λx9=>
.iF 74 x9 λα=>
.k [] .z (wi (u+1))) λW=>
.e true
def zQt(u:List Int):TT Bool []:=
.ln 6 u cI64<|
.l [] (λI=>[(0,.t (.d (.seq 1 (List.map cI64 u)))),(5,.t (.d (.seq 1 (List.map cI64 u)))),(6,iA (u.length:Int)),(7,iA I)]) (u.length+1) (λI=>zNt u I) 0
def zQx p0:=(zQt p0).q
theorem zP2 p0:∀r,zQx p0=some r->FP 231 [.t (.d (.seq 1 (List.map cI64 p0)))] [] (bA r):=zAM mixed Tryz.func231 _
abbrev zBp(a:Y):List A:=[yA a]
def zG7{X:Type}(yld:(Y->X×Hp->Option (Bool×(X×Hp))))(z:(Option (ItC Tryz.prog hpA zBp X yld)))(I:Y)(J:Int)(u:Int)(Z:(X×Hp)):TT (X×Hp) [Int×(X×Hp)]:=
.ln 8 I cU8<|
.i 29 (decide (u<(I.length:Int))) (λh3=> .b (cutI I u (I.length:Int)) λU h5=>
.w 16 (zUO (c:=cU8) h5) (.oe (zUf (k:=1) (c:=cU8) h5))<|
.ln 17 U cU8<|
.b (cutI I u (wi (u+(if(U.length:Int)<J then(U.length:Int)else J)))) λx6 W=>
.w 28 (cutC3 (c:=cU8) W) (.oe (cutE (k:=1) (c:=cU8) W))<|
.b (yld x6 Z) λx8 h9=>
.vv 29 (yr z h9)<|
.iF 92 (!x8.1) λα=>
.k [] .z ((wi (u+J)),x8.2)) λh3=>
.e Z
def zFB{X:Type}(yld:Y->X×Hp->Option (Bool×(X×Hp)))(z:Option (ItC Tryz.prog hpA zBp X yld))(u:Y)(I:Int)(W:X×Hp):TT (X×Hp) []:=
.l [] (λq=>[(0,.t (.d (.lit (yv (itL z))))),(1,.imt [yT u]),(2,.imt [iT I]),(4,iA q.1),(HK,.hp (itH z q.2))]) (u.length+1) (λq=>zG7 yld z u I q.1 q.2) (0,W)
def zE9{X:Type}(yld:Y->X×Hp->Option (Bool×(X×Hp)))(I:Y)(u:Int)(W:X×Hp):Option (X×Hp):=(zFB yld none I u W).run Env.nil
theorem zH8(I:Y)(u:Int):ITR Tryz.prog 303 [[yT I],[iT u]] hpA zBp (λX yld q=>zE9 yld I u q):=itr_chk mixed Tryz.func303 [] (λX yld z q=>zFB yld z I u q) (λ_ _ _ _=>rfl) (by kernel_rfl)
def zGP(I:Y)(u:Int):TT (Y×Int) []:=
.iF 20 (decide (u<1)) λJ=>
.f 14 (fzT 2)<|
.f 14 (fzT 3)<|
.e (I,u)
def zKw p0 p1:=(zGP p0 p1).q
theorem zJq(I:Y)(u:Int)(W:Hp):∀r,zKw I u=some r->FH 232 [yA I,iA u] [] [] (hpA W) (hpA W) (.cl 303 [[yT r.1],[iT r.2]]):=zM mixed [] Tryz.func232 (zGP I u) (by kernel_rfl)
def zPt(γ:Y)(J:Hp)(p1:List Int)(U:Int)(i2:Nat)(W:Int)(u:Y):TT (Bool×(Int×Int)×Hp) []:=
.b (vcut u.length 4 (u.length:Int)) λθ ζ=>
.o 57 (lsl (off':=(0+Int.toNat 4*1)) (n':=(Int.toNat (u.length:Int)-Int.toNat 4)) (zCi ζ))<|
.b (cpyI u (0+Int.toNat 4*1) (Int.toNat (u.length:Int)-Int.toNat 4) γ) λI δ=>
.b (lenI I.length u.length) λη β=>
.o 59 (cpy (c:=cU8) 0 (λ_=>rfl) δ)<|
.f 62 (frzB (c:=cU8) (k:=1) 10 0 (y:=I) (λ_=>rfl) (f:=hpA J) (n0:=u.length) ((zA1 β).trans rfl).symm [obB 0 cU8 I,obH (hpA J)])<|
.b (idx p1 U) λε α=>
.ix 63 cI64 α<|
.fH 66 (zBx (some i2) ε I J) λZ=>
.iF 206 (Z.1 !=0) λι=>
.e (true,(W,(wi (U+1))),Z.2)
def zHu(i2:Nat)(p1:List Int)(Z:Y)(U J:Int)(W:Hp):TT (Bool×(Int×Int)×Hp) []:=
.b (mkI 1 64) λu α=>
.o 38 (mkl false 0 (c0:=dT cU8 (0:UInt8)) α (zNA (c:=cU8) (z:=(0:UInt8)) (by kernel_rfl) u))<|
.j 58 (λI=>[(3,.box [.opt 5 (some i2)]),(4,.box [.d (.seq 1 (List.map cI64 p1))]),(6,.box [iT 0]),(7,.box [iT U]),(8,.box [iT J]),(9,yA Z),(10,.t (.view 0 0 5 1 I.length)),((OB+0),.box (fl (dT cU8) I)),kH W]) (λI=>zPt Z W p1 J i2 U I)<|
.ln 42 p1 cI64<|
.iF 131 (decide ((wi (J+1))<(p1.length:Int))) λβ=>
.t 9 10 (vwE (n:=u) (n':=(List.replicate u (0:UInt8)).length) 0 0 5 1 wN.symm)<|
.k [] .z (List.replicate u (0:UInt8))
theorem zPA(u:Nat)(I:List Int):RndOK Tryz.prog 133 0 [3,4,6,7,8] [37] zBp hpA (λb:(Int×Int)=>[[.opt 5 (some u)],[.d (.seq 1 (List.map cI64 I))],[iT 0],[iT b.1],[iT b.2]]) [kF 0] (λ(a:Y) (b:(Int×Int)) w=>(zHu u I a b.1 b.2 w).run Env.nil):=rnd_chk mixed Tryz.func133 0 (λ(a:Y) (b:(Int×Int)) w=>zHu u I a b.1 b.2 w) (by kernel_rfl)
def zPc(p0:O)(U:List Int)(J:Y)(W:Hp):TT (Int×Int×Hp) []:=
.p p0 (λ_=> .no) λi2 h1=>
.s 5 0 5 h1<|
.ln 16 J cU8<|
.fA 17 (zLR (J.length:Int)) λx3=>
.iF 44 (!x3) λh5=>
.ln 21 U cI64<|
.ln 23 J cU8<|
.fA 24 (zE0 (J.length:Int)) λx6=>
.iF 81 ((U.length:Int) !=x6) λh8=>
.fA 28 (zP2 U) λx9=>
.iF 59 (!x9) λε=>
.ln 33 J cU8<|
.iF 95 ((J.length:Int)==0) λδ=>
.fR 36 (zJq J 60 W) λI=>
.b (zE9 (lpY (λ(a:Y) (b:(Int×Int)) w=>(zHu i2 U a b.1 b.2 w).run Env.nil)) I.1 I.2 ((true,(0,0)),W)) λu α=>
.rr (rg 36 [3] (zH8 I.1 I.2) (zPA i2 U) α nc_hpA (λ_=>rfl) (λb=>(all_cons (p:=nzC) (zIE rfl zEF) (all_cons (p:=nzC) (zLk zEF) (all_cons (p:=nzC) (zLk zEF) (all_cons (p:=nzC) (zLk zEF) (all_cons (p:=nzC) (zLk zEF) all_nil)))))) (λ_=>⟨rfl,rfl⟩) ⟨.inr ⟨rfl,rfl⟩,trivial⟩) u.1.1 (λγ=>
.b (idx U 0) λβ Z=>
.ix 73 cI64 Z<|
.e (β,0,u.2)) ((0,u.1.2.1,u.2))
def zUR p0 p1 p2 W:=(zPc p0 p1 p2 W).q
theorem zRv(J:O)(u:List Int)(I:Y)(W:Hp):∀r,zUR J u I W=some r->FH 133 [oA 5 J,.t (.d (.seq 1 (List.map cI64 u))),yA I] [] [] (hpA W) (hpA r.2.2) (.tup [iT r.1,iT r.2.1]):=zTd mixed [0] Tryz.func133 (zPc J u I W) (by kernel_rfl)
def zKI(I:O)(p2:zC)(W:Hp)(p1:Int):TT (Int×Hp) []:=
.fR 52 (zFs I p2.Key W) λx1=>
.iF 176 (x1.2.2.2 !=35) λh3=>
.fA 65 (zDd p2.Key) λx5=>
.fR 72 (zD3 I x5.1 W) λx7=>
.fR 73 (zFX I x7 W) λx9=>
.iF 233 (x9.2 !=0) λζ=>
.pS I λδ β=>
.s 320 79 7 β<|
.b (W.ge_ix δ) λα γ=>
.o 82 (ld (zSE γ))<|
.fR 87 (zFl (zI.mk p2 x9.1) W) λU=>
.fH 88 (zBx α.t_ p1 U W) λu=>
.iF 272 (u.1 !=0) λε=>
.fR 95 (zD3 I x5.1 u.2) λZ=>
.fH 97 (zKO I Z p1 u.2) λJ=>
.e (J.1,J.2)
def zMa(p0:O)(I:Int)(J:zC)(W:Hp):TT (Int×Hp) []:=
.j 14 (λ_=>[(0,oA 7 p0),(1,iA I),(5,.box [sT J.Key,iT J.Version,iT J.Len,iT J.First]),kH W]) (λ_=>zKI p0 J W I)<|
.fA 17 (zNI J) λβ=>
.iF 60 (!β) λε=>
.iF 72 (decide (I<1)) λζ=>
.iF 84 (decide (I>16384)) λγ=>
.pS p0 λZ u=>
.s 116 28 7 u<|
.s 132 32 7 u<|
.b (W.ge_ix Z) λx32 U=>
.o 35 (ld (zSE U))<|
.i 117 (decide (I>=x32.table_)) (λα=> .s 164 40 7 u<|
.o 43 (ld (zSE U))<|
.iF 143 (decide ((wi (I-x32.table_))<4)) λδ=>
.k [] .z ()) λα=> .no
def zMm p0 p1 p2 W:=(zMa p0 p1 p2 W).q
theorem zK1 p0 p1 p2 W:∀r,zMm p0 p1 p2 W=some r->FH 134 [oA 7 p0,iA p1,.t (.agg [sD p2.Key,iD p2.Version,iD p2.Len,iD p2.First])] [] [] (hpA W) (hpA r.2) (iA r.1):=zM mixed [] Tryz.func134 _
def zNY(p0:O)(p1:zC)(p2:Y)(p3:Bool)(W:Hp):TT (Int×Hp) []:=
.pS p0 λU h1=>
.s 56 13 11 h1<|
.b (W.ge_vw U) λx3 h4=>
.o 16 (ld (zDA h4))<|
.ln 18 p2 cU8<|
.fA 19 (zE0 (p2.length:Int)) λx5=>
.fH 20 (zD5 x3.p_ x5 W) λZ=>
.iF 74 (Z.2.1 !=0) λh9=>
.s 112 27 11 h1<|
.b (Z.2.2.ge_vw U) λη γ=>
.o 30 (ld (zDA γ))<|
.fH 33 (zRv η.t_ Z.1 p2 Z.2.2) λu=>
.iF 116 (u.2.1 !=0) λι=>
.iF 122 p3 λκ=>
.s 196 48 11 h1<|
.b (u.2.2.ge_vw U) λα δ=>
.o 51 (ld (zDA δ))<|
.fH 52 (zD5 α.p_ 1 u.2.2) λI=>
.iF 170 (I.2.1 !=0) λμ=>
.s 236 58 11 h1<|
.b (I.2.2.ge_vw U) λε θ=>
.o 61 (ld (zDA θ))<|
.b (idx I.1 0) λζ β=>
.ix 63 cI64 β<|
.fH 66 (zK1 ε.x_ ζ (zC.mk p1.Key p1.Version p1.Len u.1) I.2.2) λJ=>
.e (J.1,J.2)
def zNd p0 p1 p2 p3 W:=(zNY p0 p1 p2 p3 W).q
theorem zLp p0 p1 p2 p3 W:∀r,zNd p0 p1 p2 p3 W=some r->FH 216 [oA 11 p0,.t (.agg [sD p1.Key,iD p1.Version,iD p1.Len,iD p1.First]),yA p2,bA p3] [] [] (hpA W) (hpA r.2) (iA r.1):=zM mixed [] Tryz.func216 _
def zIz(W:O)(U:zQ)(I:zU)(J:(zC×Int×Int))(z3:Hp)(Z:Int):TT (Int×Hp) [Int×Hp]:=
.fH 92 (zLp W (zC.mk U.Key I.h_.count_ (U.Data.length:Int) 0) U.Data (J.2.2==0) z3) λu=>
.iF 284 (u.1 !=0) λα=>
.k [] .z ((wi (Z+1)),u.2)
def zIi(W:List zQ)(p0:O)(z2:Int)(U:Hp):TT (Int×Hp) [Int×Hp]:=
.i 155 (decide (z2<(W.length:Int))) (λh4=> .b (idx W z2) λu h6=>
.ix 52 qL h6<|
.iF 170 (u.Kind !=2) λh7=>
.pS p0 λi9 h8=>
.s 240 59 11 h8<|
.b (U.ge_vw i9) λJ Z=>
.o 63 (ld (zDA Z))<|
.ln 66 u.Data cU8<|
.s 280 69 11 h8<|
.o 72 (ld (zDA Z))<|
.fR 75 (zEG J.x_ u.Key U) λI=>
.j 86 (λ_=>[(0,oA 11 p0),(10,.box [iT u.Kind,sT u.Key,iT u.Version,yT u.Data]),(11,.box [sT u.Key,iT J.h_.count_,iT (u.Data.length:Int),iT 0]),(14,iA I.2.2),(48,.t (.d (.seq 4 (List.map qL W)))),(49,iA (W.length:Int)),(50,iA z2),kH U]) (λ_=>zIz p0 u J I U z2)<|
.i 246 (I.2.2 !=0) (λα=> .iF 254 (I.2.2 !=35) λβ=>
.k [] .z ()) λα=> .no) λh4=>
.e (0,U)
def zIf(u:List zQ)(I:O)(J:Hp):TT (Int×Hp) []:=
.ln 49 u qL<|
.l [] (λq=>[(0,oA 11 I),(48,.t (.d (.seq 4 (List.map qL u)))),(49,iA (u.length:Int)),(50,iA q.1),kH q.2]) (u.length+1) (λq=>zIi u I q.1 q.2) (0,J)
def zIo(p1:List zQ)(p0:O)(u:Int)(J:Hp):TT (Int×Hp) [Int×Hp,Hp]:=
.i 59 (decide (u<(p1.length:Int))) (λU=> .b (idx p1 u) λI W=>
.ix 20 qL W<|
.iF 78 (I.Kind==1) λα=>
.i 89 (I.Version==0) (λZ=> .k [] .z ((wi (u+1)),J)) λZ=> .no) λU=>
.k [] (.s .z) J
def zKv(I:O)(u:List zQ)(W:Hp):TT (Int×Hp) []:=
.j 54 (λJ=>[(0,oA 11 I),(1,.t (.d (.seq 4 (List.map qL u)))),kH J]) (λJ=>zIf u I J)<|
.ln 17 u qL<|
.l [] (λq=>[(0,oA 11 I),(1,.t (.d (.seq 4 (List.map qL u)))),(16,.t (.d (.seq 4 (List.map qL u)))),(17,iA (u.length:Int)),(18,iA q.1),kH q.2]) (u.length+1) (λq=>zIo u I q.1 q.2) (0,W)
def zLM p0 p1 W:=(zKv p0 p1 W).q
theorem zJJ p0 p1 W:∀r,zLM p0 p1 W=some r->FH 119 [oA 11 p0,.t (.d (.seq 4 (List.map qL p1)))] [] [] (hpA W) (hpA r.2) (iA r.1):=zM mixed [] Tryz.func119 _
def zEg(Z:zF)(u:O)(I:zH)(W:Hp):TT Hp []:=
.fA 8 (zFm I) λJ=>
.fH 9 (zBx u 0 J W) λU=>
.e U.2
def zAG p0 p1 p2 W:=(zEg p0 p1 p2 W).q
theorem zD2 p0 p1 p2 W:∀r,zAG p0 p1 p2 W=some r->FH 101 [.t (.agg [iD p0.size_,iD p0.homes_,iD p0.maps_]),oA 5 p1,.t (.agg [iD p2.count_,iD p2.quota_,iD p2.bytes_,iD p2.keys_])] [] [] (hpA W) (hpA r) (.tup []):=zM mixed [] Tryz.func101 _
def zDN(x5:Nat)(p0:O)(i2:Nat)(h1:p0=some i2)(W:Hp)(x3:zO)(h4:W.ge_sp i2=some x3)(U:Int)(I:Y):TT Y [Int×Y]:=
.i 53 (decide (U<((x5:Nat):Int))) (λh9=> .s 88 21 8 h1<|
.o 24 (ld (zIh h4))<|
.b (W.ge_w64 x3.l_.1) λα δ=>
.b (lenI α.length x3.l_.2) λθ β=>
.b (idx α (wi (Int.tdiv U 8))) λζ Z=>
.c 27 (idxV (zA1 β) Z)<|
.o 28 (ldA (zNJ δ) (zO2 Z rfl (λ_=>rfl)))<|
.b (shrI .u64 ζ (IntKind.u64.wrap (wi (8*(Int.tmod U 8))))) λu γ=>
.o 33 (bv (shrIE (yk:= .u64) γ))<|
.w 34 trivial (u8E u)<|
.b (idx I U) λι J=>
.c 35 (idxV rfl J)<|
.o 38 (lstA (n:=1) rfl (zF4 (c:=cU8) (k:=1) (q:=0) (n:=1) J (λ_=>rfl) rfl) (zHw (x:=dT cU8 (U8 u)) (c:=cU8) (k:=1) (q:=0) J (U8 u) (λ_=>rfl) rfl rfl) rfl (OB+0))<|
.t 9 3 (vwE (n:=I.length) (n':=(I.set (Int.toNat U) (U8 u)).length) 0 0 (OFB+5) 1 (vI.trans rfl).symm)<|
.k [] .z ((wi (U+1)),(I.set (Int.toNat U) (U8 u)))) λh9=>
.b (neI I) λη ε=>
.f 1 (ownX (c:=cU8) (k:=1) 2 0 5 (y:=I) (λ_=>rfl) (neI_E ε) (f:=hpA W) (n0:=I.length) (by first|rfl|(simp;done)|omega) [obB 0 cU8 I,obH (hpA W)])<|
.e I
def zGG(J:O)(W:Hp):TT Y []:=
.p J (λI=> .t 24 5 (ptN 8 I)<|
.e []) λZ I=>
.s 24 5 8 I<|
.s 32 7 8 I<|
.b (W.ge_sp Z) λx3 U=>
.o 10 (ld (zIh U))<|
.b (mkI 1 (wi (Int.tdiv (wi (x3.n_+7)) 8))) λu h6=>
.o 13 (mkl true 0 (c0:=dT cU8 (0:UInt8)) h6 (zNA (c:=cU8) (z:=(0:UInt8)) (by kernel_rfl) u))<|
.t 22 3 (vwE (n:=u) (n':=(List.replicate u (0:UInt8)).length) 0 0 (OFB+5) 1 wN.symm)<|
.l [] (λq=>[(0,oA 8 J),(3,.t (.view 0 0 (OFB+5) 1 q.2.length)),(15,iA ((u:Nat):Int)),(16,iA q.1),((OB+0),.box (fl (dT cU8) q.2)),kH W]) (Int.toNat ((u:Nat):Int)+1) (λq=>zDN u J Z I W x3 U q.1 q.2) (0,(List.replicate u (0:UInt8)))
def zB4 p0 W:=(zGG p0 W).q
theorem zJM p0 W:∀r,zB4 p0 W=some r->FH 197 [oA 8 p0] [] [] (hpA W) (hpA W) (.t (.own 5 1 (qV r))):=zM mixed [0] Tryz.func197 _
def zBk(p0:zF)(x1:Y)(x3:Nat)(p1:O)(u:Int)(J:Hp):TT Hp [Int×Hp]:=
.i 53 (decide (u<p0.maps_)) (λh7=> .b (cutI (x1++List.replicate x3 0) (wi (64*u)) (wi (64*(wi (u+1))))) λx8 h9=>
.w 25 (cutC (c:=cU8) h9) (.oe (cutE (k:=1) (c:=cU8) h9))<|
.fR 30 (zDD p1 (wi (1+u)) J) λI=>
.i 108 (I.2==0) (λZ=> .fA 38 (zCj I.1 x8) λα=>
.i 122 (!α) (λW=> .fH 45 (zBx p1 (wi (1+u)) x8 J) λU=>
.k [] .z ((wi (u+1)),U.2)) λW=>
.k [] .z ((wi (u+1)),J)) λZ=>
.k [] .z ((wi (u+1)),J)) λh7=>
.e J
def zCe(u:zF)(J p2:O)(W:Hp):TT Hp []:=
.fR 12 (zJM p2 W) λI=>
.b (apzI 1 I.length 64) λU Z=>
.o 13 (apz (e0:=5) 12 (apzC (c:=cU8) Z) (apzE (c:=cU8) (a:=0) (z:= .int .u8 0) rfl))<|
.y 6 true<|
.l [] (λq=>[(1,oA 5 J),(6,.t (.own 5 1 (qV (I++List.replicate U 0)))),(15,iA u.maps_),(16,iA q.1),kH q.2]) (Int.toNat u.maps_+1) (λq=>zBk u I U J q.1 q.2) (0,W)
def yU(J:zF)(u I:O)(W:Hp):Option Hp:=(zCe J u I W).run Env.nil
theorem zDe(u:zF)(I J:O)(W:Hp):∀r,yU u I J W=some r->FH 102 [.t (.agg [iD u.size_,iD u.homes_,iD u.maps_]),oA 5 I,oA 8 J] [] [] (hpA W) (hpA r) (.tup []):=zM mixed [] Tryz.func102 (zCe u I J W) (by kernel_rfl)
def zId(p0:O)(W:Hp):TT (Bool×Hp) []:=
.p p0 (λJ=> .t 16 3 (ptN 1 J)<|
.no) λZ J=>
.s 16 3 1 J<|
.b (W.ge_dk Z) λu U=>
.o 6 (ld (zIB U))<|
.i 23 (decide (u.fuse_<0)) (λh5=> .e (false,W)) λh5=>
.s 40 9 1 J<|
.o 12 (ld (zIB U))<|
.s 56 8 1 J<|
let x7:zP:=(zP.mk u.kept_ u.now_ u.wait_ u.fuse_ (u.fuse_==0) u.lives_);let w6:=(W.st_dk Z x7);.o 27 (stw (zIB U) (su_dk (x':=x7) U))<|
have h8:w6.ge_dk Z=some x7:=(zEZ U);.s 68 16 1 J<|
.o 19 (ld (zIB h8))<|
let I:zP:=(zP.mk u.kept_ u.now_ u.wait_ (wi (x7.fuse_-1)) (u.fuse_==0) u.lives_);let w9:=(w6.st_dk Z I);.o 27 (stw (zIB h8) (su_dk (x':=I) h8))<|
have α:w9.ge_dk Z=some I:=(zEZ h8);.s 96 23 1 J<|
.o 26 (ld (zIB α))<|
.e (I.off_,w9)
def yN p0 W:=(zId p0 W).q
theorem zGv p0 W:∀r,yN p0 W=some r->FH 276 [oA 1 p0] [] [] (hpA W) (hpA r.2) (bA r.1):=zM mixed [] Tryz.func276 _
def zHg(p0:O)(p1:Int)(p2:Y)(W:Hp):TT (Int×Hp) []:=
.fR 11 (zDt p0 p1 W) λx1=>
.i 41 (x1 !=0) (λh3=> .e (x1,W)) λh3=>
.ln 16 p2 cU8<|
.i 53 ((p2.length:Int) !=64) (λh4=> .e (2,W)) λh4=>
.b (s2aI 64 p2) λx5 h6=>
.o 20 (s2a (c:=cU8) (0:UInt8) h6)<|
.p p0 (λh7=> .t 100 24 (ptN 1 h7)<|
.no) λi8 h7=>
.s 100 24 1 h7<|
.b (W.ge_dk i8) λu U=>
.o 27 (htake (zIB U))<|
.b (appI 72 u.wait_ [(qP.mk p1 x5)]) λη δ=>
.w 30 (appC (c:=zC4) δ) (.oe (appE (E:=238) (k:=65) (c:=zC4) δ))<|
.s 124 23 1 h7<|
let I:zP:=(zP.mk u.kept_ u.now_ η u.fuse_ u.off_ u.lives_);let α:=(W.st_dk i8 I);.o 43 (hsto (l1:=[.hvw (cd 2 u.kept_.1) 0 236 64 u.kept_.2,.hvw (cd 2 u.now_.1) 0 236 64 u.now_.2,.d (.seq 65 (List.map zC4 u.wait_)),iT u.fuse_,bT' u.off_,iT u.lives_]) (su2_dk (x':=I) U))<|
have ι:α.ge_dk i8=some I:=(zEZ U);.s 136 33 1 h7<|
.o 36 (ld (zIB ι))<|
.b (α.ge_sec I.now_.1) λβ γ=>
.b (lenI β.length I.now_.2) λν ζ=>
.b (idx β p1) λμ Z=>
.c 40 (idxV (zA1 ζ) Z)<|
let ε:(List Y):=(β.set (Int.toNat p1) x5);let κ:=(α.st_sec I.now_.1 ε);.o 43 (stA (n:=64) (zTZ γ) (zF4 (c:=zDX) (k:=64) (q:=0) Z (λ_=>(by kernel_rfl)) rfl) (zHw (x:=dT zDX x5) (c:=zDX) (k:=64) (q:=0) Z x5 (λ_=>(by kernel_rfl)) (by kernel_rfl) (by kernel_rfl)) (su_sec (x':=ε) γ))<|
.fH 42 (zGv p0 κ) λJ=>
.i 128 J.1 (λθ=> .e (30,J.2)) λθ=>
.e (0,J.2)
def zZ p0 p1 p2 W:=(zHg p0 p1 p2 W).q
theorem zB7 p0 p1 p2 W:∀r,zZ p0 p1 p2 W=some r->FH 182 [oA 1 p0,iA p1,yA p2] [] [] (hpA W) (hpA r.2) (iA r.1):=zM mixed [] Tryz.func182 _
def zEA(p0:O)(W:Hp):TT (Int×Hp) []:=
.p p0 (λU=> .t 132 32 (ptN 1 U)<|
.no) λi9 U=>
.s 132 32 1 U<|
.b (W.ge_dk i9) λu J=>
let I:zP:=(zP.mk u.kept_ u.now_ [] u.fuse_ u.off_ u.lives_);let Z:=(W.st_dk i9 I);.o 35 (stw (zIB J) (su_dk (x':=I) J))<|
.e (0,Z)
def zD4(δ:zP)(p0:O)(α:Nat)(ζ:p0=some α)(U:Int)(I:Hp):TT (Int×Hp) [Int×Hp,Hp]:=
.i 59 (decide (U<(δ.wait_.length:Int))) (λη=> .b (idx δ.wait_ U) λu κ=>
.ix 20 zC4 κ<|
.s 92 22 1 ζ<|
.b (I.ge_dk α) λW ε=>
.o 25 (ld (zIB ε))<|
.b (I.ge_sec W.kept_.1) λJ γ=>
.b (lenI J.length W.kept_.2) λν θ=>
.b (idx J u.n_) λμ Z=>
.c 30 (idxV (zA1 θ) Z)<|
let β:(List Y):=(J.set (Int.toNat u.n_) u.b_);let ι:=(I.st_sec W.kept_.1 β);.o 35 (stA (n:=64) (zTZ γ) (zF4 (c:=zDX) (k:=64) (q:=0) Z (λ_=>(by kernel_rfl)) rfl) (zHw (x:=dT zDX u.b_) (c:=zDX) (k:=64) (q:=0) Z u.b_ (λ_=>(by kernel_rfl)) (by kernel_rfl) (by kernel_rfl)) (su_sec (x':=β) γ))<|
.k [] .z ((wi (U+1)),ι)) λη=>
.k [] (.s .z) I
def zHS(J:O)(W:Hp):TT (Int×Hp) []:=
.fR 7 (zDt J 0 W) λx1=>
.i 29 (x1 !=0) (λh3=> .e (x1,W)) λh3=>
.fH 12 (zGv J W) λZ=>
.i 38 Z.1 (λh6=> .e (30,Z.2)) λh6=>
.j 46 (λy7=>[(0,oA 1 J),kH y7]) (λy7=>zEA J y7)<|
.p J (λI=> .t 56 13 (ptN 1 I)<|
.no) λU I=>
.s 56 13 1 I<|
.b (Z.2.ge_dk U) λu α=>
.o 16 (ld (zIB α))<|
.ln 17 u.wait_ zC4<|
.l [] (λq=>[(0,oA 1 J),(16,.t (.d (.seq 65 (List.map zC4 u.wait_)))),(17,iA (u.wait_.length:Int)),(18,iA q.1),kH q.2]) (u.wait_.length+1) (λq=>zD4 u J U I q.1 q.2) (0,Z.2)
def qB p0 W:=(zHS p0 W).q
theorem zB9 p0 W:∀r,qB p0 W=some r->FH 183 [oA 1 p0] [] [] (hpA W) (hpA r.2) (iA r.1):=zM mixed [] Tryz.func183 _
def zFN(p1:List zB)(p0:O)(W:Int)(I:Hp):TT (Int×Hp) [Int×Hp]:=
.i 35 (decide (W<(p1.length:Int))) (λh3=> .b (idx p1 W) λx4 h5=>
.ix 12 zN h5<|
.p p0 (λU=> .t 60 14 (ptN 3 U)<|
.no) λi7 U=>
.s 60 14 3 U<|
.b (I.ge_lg i7) λx8 h9=>
.o 17 (ld (zBv h9))<|
.fR 21 (zFf p0 x4.Home I) λJ=>
.fH 24 (zB7 x8.d_ J x4.Data I) λu=>
.i 80 (u.1 !=0) (λZ=> .e (u.1,u.2)) λZ=>
.k [] .z ((wi (W+1)),u.2)) λh3=>
.e (0,I)
def zKi(I:O)(u:List zB)(W:Hp):TT (Int×Hp) []:=
.ln 9 u zN<|
.l [] (λq=>[(0,oA 3 I),(8,.t (.d (.seq 2 (List.map zN u)))),(9,iA (u.length:Int)),(10,iA q.1),kH q.2]) (u.length+1) (λq=>zFN u I q.1 q.2) (0,W)
def zBL p0 p1 W:=(zKi p0 p1 W).q
theorem zIY p0 p1 W:∀r,zBL p0 p1 W=some r->FH 188 [oA 3 p0,.t (.d (.seq 2 (List.map zN p1)))] [] [] (hpA W) (hpA r.2) (iA r.1):=zM mixed [] Tryz.func188 _
def zJu(u:Y)(X n0:Nat)(J:Int):TT Y []:=
.fA 10 (zKz J ((n0:Nat):Int)) λZ=>
.b (cpyI u X n0 Z.1) λI U=>
.b (lenI I.length u.length) λW _=>
.o 15 (cpy (c:=cU8) 0 (λ_=>rfl) U)<|
.e I
def qQ(I:Y)(X n0:Nat)(u:Int):Option Y:=(zJu I X n0 u).run Env.nil
theorem zDE(I:Y)(X n0:Nat)(u:Int)(W:Hp):∀r,qQ I X n0 u=some r->FH 277 [.t (.view 0 X 0 1 n0),iA u] [.box (fl (dT cU8) I)] [.box (fl (dT cU8) r)] (hpA W) (hpA W) (.tup []):=zM mixed [] Tryz.func277 (zJu I X n0 u) (by kernel_rfl)
def zGZ(Z p1:Int)(W:Hp):TT Y []:=
.b (mkI 1 64) λu h2=>
.o 6 (mkl false 0 (c0:=dT cU8 (0:UInt8)) h2 (zNA (c:=cU8) (z:=(0:UInt8)) (by kernel_rfl) u))<|
.b (vcut u 0 8) λx3 h4=>
.o 8 (lsl (off':=(0+Int.toNat 0*1)) (n':=(Int.toNat 8-Int.toNat 0)) (zCi h4))<|
.b (qQ (List.replicate u (0:UInt8)) (0+Int.toNat 0*1) (Int.toNat 8-Int.toNat 0) Z) λU h6=>
.b (lenI U.length (List.replicate u (0:UInt8)).length) λx7 h8=>
.o 10 (cOR [0] [] (zDE (List.replicate u (0:UInt8)) (0+Int.toNat 0*1) (Int.toNat 8-Int.toNat 0) Z W _ h6) (zCM _ _ zAc) (zCM _ _ zAc))<|
.b (vcut u 8 12) λx9 β=>
.o 12 (lsl (off':=(0+Int.toNat 8*1)) (n':=(Int.toNat 12-Int.toNat 8)) (zCi β))<|
.b (qQ U (0+Int.toNat 8*1) (Int.toNat 12-Int.toNat 8) p1) λI γ=>
.b (lenI I.length U.length) λι α=>
.o 14 (cOR [0] [] (zDE U (0+Int.toNat 8*1) (Int.toNat 12-Int.toNat 8) p1 W _ γ) (zCM _ _ zAc) (zCM _ _ zAc))<|
.b (vcut u 56 (u:Int)) λθ δ=>
.o 16 (lsl (off':=(0+Int.toNat 56*1)) (n':=(Int.toNat (u:Int)-Int.toNat 56)) (zCi δ))<|
.b (qQ I (0+Int.toNat 56*1) (Int.toNat (u:Int)-Int.toNat 56) Z) λJ ζ=>
.b (lenI J.length I.length) λη ε=>
.o 18 (cOR [0] [] (zDE I (0+Int.toNat 56*1) (Int.toNat (u:Int)-Int.toNat 56) Z W _ ζ) (zCM _ _ zAc) (zCM _ _ zAc))<|
.f 1 (frzB (c:=cU8) (k:=1) 4 0 (y:=J) (λ_=>rfl) (f:=hpA W) (n0:=u) ((zA1 ε).trans ((zA1 α).trans ((zA1 h8).trans wN))).symm [obB 0 cU8 J,obH (hpA W)])<|
.e J
def zB8(I u:Int)(W:Hp):Option Y:=(zGZ I u W).run Env.nil
theorem zHT(I u:Int)(W:Hp):∀r,zB8 I u W=some r->FH 184 [iA I,iA u] [] [] (hpA W) (hpA W) (yA r):=zM mixed [0] Tryz.func184 (zGZ I u W) (by kernel_rfl)
def zJn(p0:O)(W:Hp):TT (Int×Hp) []:=
.p p0 (λI=> .t 28 6 (ptN 3 I)<|
.no) λi2 I=>
.s 28 6 3 I<|
.b (W.ge_lg i2) λx3 h4=>
.o 9 (ld (zBv h4))<|
.s 48 11 3 I<|
.o 14 (ld (zBv h4))<|
.s 68 16 3 I<|
.o 19 (ld (zBv h4))<|
.s 84 20 3 I<|
.o 23 (ld (zBv h4))<|
.s 104 25 3 I<|
.o 28 (ld (zBv h4))<|
.fR 29 (zHT (wi (x3.base_+x3.size_)) x3.size_ W) λx5=>
.fH 30 (zB7 x3.d_ (wi (1-x3.slot_)) x5 W) λx7=>
.i 98 (x7.1 !=0) (λh9=> .e (x7.1,x7.2)) λh9=>
.s 140 34 3 I<|
.b (x7.2.ge_lg i2) λκ ι=>
.o 37 (ld (zBv ι))<|
.fH 38 (zB9 κ.d_ x7.2) λJ=>
.i 122 (J.1 !=0) (λη=> .e (J.1,J.2)) λη=>
.s 180 42 3 I<|
.b (J.2.ge_lg i2) λu β=>
let γ:zW:=(zW.mk u.d_ u.size_ u.base_ (wi (1-x3.slot_)) u.used_ u.life_ u.commits_);let ε:=(J.2.st_lg i2 γ);.o 63 (stw (zBv β) (zRT (x':=γ) β))<|
have α:ε.ge_lg i2=some γ:=(zEZ β);.s 188 43 3 I<|
let U:zW:=(zW.mk u.d_ u.size_ u.base_ (wi (1-x3.slot_)) 0 u.life_ u.commits_);let δ:=(ε.st_lg i2 U);.o 60 (stw (zBv α) (zRT (x':=U) α))<|
have Z:δ.ge_lg i2=some U:=(zEZ α);.s 200 49 3 I<|
.o 52 (ld (zBv Z))<|
.s 216 53 3 I<|
.o 56 (ld (zBv Z))<|
let ζ:zW:=(zW.mk u.d_ u.size_ (wi (U.base_+U.size_)) (wi (1-x3.slot_)) 0 u.life_ u.commits_);let θ:=(δ.st_lg i2 ζ);.o 60 (stw (zBv Z) (zRT (x':=ζ) Z))<|
.e (0,θ)
def zB6 p0 W:=(zJn p0 W).q
theorem zMb p0 W:∀r,zB6 p0 W=some r->FH 282 [oA 3 p0] [] [] (hpA W) (hpA r.2) (iA r.1):=zM mixed [] Tryz.func282 _
def zFu(U:O)(W:Hp):TT (Int×Hp) []:=
.fR 6 (zBy U W) λx1=>
.i 26 (x1 !=0) (λh3=> .e (x1,W)) λh3=>
.p U (λI=> .t 44 10 (ptN 3 I)<|
.no) λi5 I=>
.s 44 10 3 I<|
.b (W.ge_lg i5) λx6 Z=>
.o 13 (ld (zBv Z))<|
.s 60 14 3 I<|
.o 17 (ld (zBv Z))<|
.i 59 (decide (x6.base_>(wi (2305843009213693952-x6.size_)))) (λh8=> .e (3,W)) λh8=>
.s 84 20 3 I<|
.o 23 (ld (zBv Z))<|
.fH 24 (zB9 x6.d_ W) λJ=>
.i 80 (J.1 !=0) (λα=> .e (J.1,J.2)) λα=>
.fH 29 (zMb U J.2) λu=>
.e (u.1,u.2)
def yY p0 W:=(zFu p0 W).q
theorem zFD p0 W:∀r,yY p0 W=some r->FH 190 [oA 3 p0] [] [] (hpA W) (hpA r.2) (iA r.1):=zM mixed [] Tryz.func190 _
end
set_option maxRecDepth 20000
noncomputable section
def zKX(U:O)(W:Hp):TT Int []:=
.p U (λu=> .t 16 3 (ptN 3 u)<|
.e 0) λZ u=>
.s 16 3 3 u<|
.s 24 5 3 u<|
.b (W.ge_lg Z) λJ I=>
.o 8 (ld (zBv I))<|
.s 40 9 3 u<|
.o 12 (ld (zBv I))<|
.e (wi (J.size_-J.used_))
def zEL p0 W:=(zKX p0 W).q
theorem zNc p0 W:∀r,zEL p0 W=some r->FH 286 [oA 3 p0] [] [] (hpA W) (hpA W) (iA r):=zM mixed [] Tryz.func286 _
def zFk(u:List zB)(J:List zG):TT (List zG) []:=
.y 28 true<|
.ln 30 u zN<|
.g 32 (.t (.own 396 4 (List.map zBS [(zG.mk 3 (u.length:Int) [] false)])))<|
.b (appI 48 J [(zG.mk 3 (u.length:Int) [] false)]) λU I=>
.w 33 (appC (c:=zBS) I) (.oe (appE (E:=396) (k:=4) (c:=zBS) I))<|
.y 2 true<|
.e U
def zFc(p0:List zB)(z4:List zG)(z5:Int):TT (List zG) [(List zG)×Int,(List zG)]:=
.i 29 (decide (z5<(p0.length:Int))) (λh6=> .b (idx p0 z5) λU h8=>
.ix 10 zN h8<|
.y 12 true<|
.b (cutI U.Data 0 32) λx9 u=>
.w 17 (zSM (c:=cU8) u) (.oe (zSD (k:=1) (c:=cU8) u))<|
.b (cutI U.Data 32 (U.Data.length:Int)) λZ I=>
.w 23 (zUO (c:=cU8) I) (.oe (zUf (k:=1) (c:=cU8) I))<|
.b (appI 48 z4 [(zG.mk 1 U.Home x9 false),(zG.mk 2 U.Home Z false)]) λW J=>
.w 26 (appC (c:=zBS) J) (.oe (appE (E:=396) (k:=4) (c:=zBS) J))<|
.y 3 true<|
.k [] .z (W,(wi (z5+1)))) λh6=>
.k [] (.s .z) z4
def zLj(u:List zB):TT (List zG) []:=
.j 30 (λI=>[(0,.t (.d (.seq 2 (List.map zN u)))),(3,.t (.own 396 4 (List.map zBS I)))]) (λI=>zFk u I)<|
.ln 7 u zN<|
.l [3] (λq=>[(0,.t (.d (.seq 2 (List.map zN u)))),(3,.t (.own 396 4 (List.map zBS q.1))),(6,.t (.d (.seq 2 (List.map zN u)))),(7,iA (u.length:Int)),(8,iA q.2)]) (u.length+1) (λq=>zFc u q.1 q.2) ([],0)
def zE1 p0:=(zLj p0).q
theorem zO9 p0:∀r,zE1 p0=some r->FP 287 [.t (.d (.seq 2 (List.map zN p0)))] [] (.t (.own 396 4 (List.map zBS r))):=zAM mixed Tryz.func287 _
def zHe(Z:zG)(p1:Int)(W:Hp):TT Y []:=
.b (mkI 1 64) λI h2=>
.o 6 (mkl false 0 (c0:=dT cU8 (0:UInt8)) h2 (zNA (c:=cU8) (z:=(0:UInt8)) (by kernel_rfl) I))<|
.w 10 trivial (u8E Z.kind_)<|
.b (idx (List.replicate I (0:UInt8)) 0) λx3 h4=>
.c 11 (idxV (n:=I) wN h4)<|
.o 37 (lstA (n:=1) rfl (zF4 (c:=cU8) (k:=1) (q:=0) (n:=1) h4 (λ_=>rfl) rfl) (zHw (x:=dT cU8 (U8 Z.kind_)) (c:=cU8) (k:=1) (q:=0) h4 (U8 Z.kind_) (λ_=>rfl) rfl rfl) rfl (OB+0))<|
.b (vcut I 1 5) λx5 h6=>
.o 13 (lsl (off':=(0+Int.toNat 1*1)) (n':=(Int.toNat 5-Int.toNat 1)) (zCi h6))<|
.b (qQ ((List.replicate I (0:UInt8)).set (Int.toNat 0) (U8 Z.kind_)) (0+Int.toNat 1*1) (Int.toNat 5-Int.toNat 1) Z.number_) λx7 h8=>
.b (lenI x7.length ((List.replicate I (0:UInt8)).set (Int.toNat 0) (U8 Z.kind_)).length) λx9 ι=>
.o 16 (cOR [0] [] (zDE ((List.replicate I (0:UInt8)).set (Int.toNat 0) (U8 Z.kind_)) (0+Int.toNat 1*1) (Int.toNat 5-Int.toNat 1) Z.number_ W _ h8) (zCM _ _ zAc) (zCM _ _ zAc))<|
.b (vcut I 5 37) λψ κ=>
.o 18 (lsl (off':=(0+Int.toNat 5*1)) (n':=(Int.toNat 37-Int.toNat 5)) (zCi κ))<|
.b (cpyI x7 (0+Int.toNat 5*1) (Int.toNat 37-Int.toNat 5) Z.data_) λU θ=>
.b (lenI U.length x7.length) λω ν=>
.o 21 (cpy (c:=cU8) 0 (λ_=>rfl) θ)<|
.b (vcut I 56 (I:Int)) λx17 τ=>
.o 23 (lsl (off':=(0+Int.toNat 56*1)) (n':=(Int.toNat (I:Int)-Int.toNat 56)) (zCi τ))<|
.b (qQ U (0+Int.toNat 56*1) (Int.toNat (I:Int)-Int.toNat 56) p1) λu ξ=>
.b (lenI u.length U.length) λx21 η=>
.o 25 (cOR [0] [] (zDE U (0+Int.toNat 56*1) (Int.toNat (I:Int)-Int.toNat 56) p1 W _ ξ) (zCM _ _ zAc) (zCM _ _ zAc))<|
.b (vcut I 52 56) λχ π=>
.o 27 (lsl (off':=(0+Int.toNat 52*1)) (n':=(Int.toNat 56-Int.toNat 52)) (zCi π))<|
.b (vcut I 0 52) λx25 ρ=>
.o 29 (lsl (off':=(0+Int.toNat 0*1)) (n':=(Int.toNat 52-Int.toNat 0)) (zCi ρ))<|
.b (vcut I 56 (I:Int)) λx27 μ=>
.o 31 (lsl (off':=(0+Int.toNat 56*1)) (n':=(Int.toNat (I:Int)-Int.toNat 56)) (zCi μ))<|
.o 32 (bsv)<|
.b (zGp u (0+Int.toNat 0*1) (Int.toNat 52-Int.toNat 0)) λβ δ=>
.b (zGp u (0+Int.toNat 56*1) (Int.toNat (I:Int)-Int.toNat 56)) λα γ=>
.b (zHW [β,α]) λε σ=>
.o 33 (look [(0,fl (dT cU8) u),(0,fl (dT cU8) u)] [.lst [.view 0 (0+Int.toNat 0*1) 5 1 (Int.toNat 52-Int.toNat 0),.view 0 (0+Int.toNat 56*1) 5 1 (Int.toNat (I:Int)-Int.toNat 56)]] (f:=hpA W) (zTz [β,α] _ σ) (λM hm=>(.cons (.lst (.cons (.vw (l:=fl (dT cU8) u) (rs:=List.map cU8 β) (.inl hm.1) (zOf (c:=cU8) (λ_=>rfl) _) (zQv δ) (zOS (c:=cU8) (λ_=>rfl) δ)) (.cons (.vw (l:=fl (dT cU8) u) (rs:=List.map cU8 α) (.inl hm.2.1) (zOf (c:=cU8) (λ_=>rfl) _) (zQv γ) (zOS (c:=cU8) (λ_=>rfl) γ)) .nil))) .nil)))<|
.b (qQ u (0+Int.toNat 52*1) (Int.toNat 56-Int.toNat 52) (wi ε)) λJ ζ=>
.b (lenI J.length u.length) λx37 φ=>
.o 35 (cOR [0] [] (zDE u (0+Int.toNat 52*1) (Int.toNat 56-Int.toNat 52) (wi ε) W _ ζ) (zCM _ _ zAc) (zCM _ _ zAc))<|
.f 1 (frzB (c:=cU8) (k:=1) 4 0 (y:=J) (λ_=>rfl) (f:=hpA W) (n0:=I) ((zA1 φ).trans ((zA1 η).trans ((zA1 ν).trans ((zA1 ι).trans (vI.trans wN))))).symm [obB 0 cU8 J,obH (hpA W)])<|
.e J
def zAY p0 p1 W:=(zHe p0 p1 W).q
theorem zGL p0 p1 W:∀r,zAY p0 p1 W=some r->FH 288 [.t (.agg [iD p0.kind_,iD p0.number_,yD p0.data_,bD p0.ok_]),iA p1] [] [] (hpA W) (hpA W) (yA r):=zM mixed [0] Tryz.func288 _
def zEc(p0:O)(p1:List zB)(y5:Hp):TT (Int×Hp) []:=
.p p0 (λW=> .t 408 101 (ptN 3 W)<|
.no) λi7 W=>
.s 408 101 3 W<|
.b (y5.ge_lg i7) λx8 h9=>
.o 104 (ld (zBv h9))<|
.fH 105 (zB9 x8.d_ y5) λI=>
.i 323 (I.1 !=0) (λδ=> .e (I.1,I.2)) λδ=>
.s 440 109 3 W<|
.b (I.2.ge_lg i7) λu J=>
.o 112 (ld (zBv J))<|
let U:zW:=(zW.mk u.d_ u.size_ u.base_ u.slot_ (wi (u.used_+(wi ((wi (2*(p1.length:Int)))+1)))) u.life_ u.commits_);let γ:=(I.2.st_lg i7 U);.o 127 (stw (zBv J) (zRT (x':=U) J))<|
have Z:γ.ge_lg i7=some U:=(zEZ J);.s 472 117 3 W<|
.o 120 (ld (zBv Z))<|
let α:zW:=(zW.mk u.d_ u.size_ u.base_ u.slot_ (wi (u.used_+(wi ((wi (2*(p1.length:Int)))+1)))) u.life_ (wi (U.commits_+1)));let ε:=(γ.st_lg i7 α);.o 127 (stw (zBv Z) (zRT (x':=α) Z))<|
.fH 126 (zIY p0 p1 ε) λβ=>
.e (β.1,β.2)
def zEX(W:List zG)(p0:O)(u:Int)(U:Hp):TT (Int×Hp) [Int×Hp,Hp]:=
.i 218 (decide (u<(W.length:Int))) (λγ=> .b (idx W u) λζ β=>
.ix 74 zBS β<|
.p p0 (λI=> .t 308 76 (ptN 3 I)<|
.no) λα I=>
.s 308 76 3 I<|
.b (U.ge_lg α) λx32 Z=>
.o 79 (ld (zBv Z))<|
.s 332 82 3 I<|
.o 85 (ld (zBv Z))<|
.s 360 89 3 I<|
.o 92 (ld (zBv Z))<|
.fR 95 (zGL ζ (wi (x32.base_+(wi (x32.used_+u)))) U) λδ=>
.fH 96 (zB7 x32.d_ (wi (2+(wi (x32.used_+u)))) δ U) λJ=>
.i 296 (J.1 !=0) (λε=> .e (J.1,J.2)) λε=>
.k [] .z ((wi (u+1)),J.2)) λγ=>
.k [] (.s .z) U
def zEa(J:O)(I:List zB)(Z:Hp):TT (Int×Hp) []:=
.j 110 (λU=>[(0,oA 3 J),(1,.t (.d (.seq 2 (List.map zN I)))),(8,iA (wi ((wi (2*(I.length:Int)))+1))),kH U]) (λU=>zEc J I U)<|
.fA 69 (zO9 I) λu=>
.ln 70 u zBS<|
.l [] (λq=>[(0,oA 3 J),(1,.t (.d (.seq 2 (List.map zN I)))),(8,iA (wi ((wi (2*(I.length:Int)))+1))),(69,.t (.own 396 4 (List.map zBS u))),(70,iA (u.length:Int)),(71,iA q.1),kH q.2]) (u.length+1) (λq=>zEX u J q.1 q.2) (0,Z)
def zEY(I:List zB)(U:O)(W:Hp):TT (Int×Hp) []:=
.ln 44 I zN<|
.j 78 (λy4=>[(0,oA 3 U),(1,.t (.d (.seq 2 (List.map zN I)))),(8,iA (wi ((wi (2*(I.length:Int)))+1))),kH y4]) (λy4=>zEa U I y4)<|
.p U (λJ=> .t 200 49 (ptN 3 J)<|
.no) λη J=>
.s 200 49 3 J<|
.b (W.ge_lg η) λZ β=>
.o 52 (ld (zBv β))<|
.i 143 (decide ((wi ((wi (2*(I.length:Int)))+1))>Z.size_)) (λδ=> .e (3,W)) λδ=>
.ln 56 I zN<|
.i 164 ((I.length:Int)==0) (λγ=> .e (0,W)) λγ=>
.fR 61 (zNc U W) λζ=>
.i 176 (decide ((wi ((wi (2*(I.length:Int)))+1))>ζ)) (λε=> .fH 64 (zFD U W) λu=>
.i 200 (u.1 !=0) (λα=> .e (u.1,u.2)) λα=>
.k [] .z u.2) λε=>
.k [] .z W
def zEU(p1:List zB)(W:Hp)(p0:O)(I:Int):TT (Int×Hp) [Int,Unit]:=
.i 71 (decide (I<(p1.length:Int))) (λγ=> .b (idx p1 I) λu β=>
.ix 24 zN β<|
.i 90 (decide (u.Home<0)) (λU=> .e (2,W)) λU=>
.fR 33 (zB1 p0 W) λα=>
.i 111 (decide (u.Home>=α)) (λJ=> .e (2,W)) λJ=>
.ln 39 u.Data cU8<|
.i 125 ((u.Data.length:Int) !=64) (λZ=> .e (2,W)) λZ=>
.k [] .z (wi (I+1))) λγ=>
.k [] (.s .z) ()
def zIS(J:O)(u:List zB)(W:Hp):TT (Int×Hp) []:=
.fR 16 (zBy J W) λU=>
.i 56 (U !=0) (λZ=> .e (U,W)) λZ=>
.j 42 (λ_=>[(0,oA 3 J),(1,.t (.d (.seq 2 (List.map zN u)))),kH W]) (λ_=>zEY u J W)<|
.ln 21 u zN<|
.l [] (λI=>[(0,oA 3 J),(1,.t (.d (.seq 2 (List.map zN u)))),(20,.t (.d (.seq 2 (List.map zN u)))),(21,iA (u.length:Int)),(22,iA I),kH W]) (u.length+1) (λI=>zEU u W J I) 0
def zAT p0 p1 W:=(zIS p0 p1 W).q
theorem zMH p0 p1 W:∀r,zAT p0 p1 W=some r->FH 202 [oA 3 p0,.t (.d (.seq 2 (List.map zN p1)))] [] [] (hpA W) (hpA r.2) (iA r.1):=zM mixed [] Tryz.func202 _
def zER(p0:O)(Z:Nat)(h4:p0=some Z)(U:Hp)(W:zAF)(I:U.ge_tx Z=some W)(J:List zB):TT (Int×Hp) []:=
.s 156 38 5 h4<|
.o 41 (ld (zK3 I))<|
.y 42 true<|
.fH 43 (zMH W.l_ J U) λu=>
.e (u.1,u.2)
def zEV(J:List Int)(p0:O)(i5:Nat)(h4:p0=some i5)(w8:Hp)(x9:zAF)(δ:w8.ge_tx i5=some x9)(U:(List (Int×Y)))(ε:w8.ge_mp x9.now_=some U)(W:List zB)(I:Int):TT (Int×Hp) [(List zB)×Int,(List zB)]:=
.i 71 (decide (I<(J.length:Int))) (λα=> .b (idx J I) λu γ=>
.ix 24 cI64 γ<|
.y 26 true<|
.s 116 28 5 h4<|
.o 31 (ld (zK3 δ))<|
.o 33 (mlkH (kv:=(λz:Int=>Value.int .i64 z)) (vT:=(λv=>T.d ((λl:List UInt8=>D.seq 1 (qV l)) v))) (gl_mp ε) u (zRq (kt:=3) (by kernel_rfl)) (z:=([]:Y)) (λ_=>RepD.nilSeq _ _))<|
.b (appI 32 W [(zB.mk u ((zCG U u).getD ([]:Y)))]) λβ Z=>
.w 36 (appC (c:=zN) Z) (.oe (appE (E:=307) (k:=2) (c:=zN) Z))<|
.y 4 true<|
.k [] .z (β,(wi (I+1)))) λα=>
.k [] (.s .z) W
def zIT(p0:O)(W:Hp):TT (Int×Hp) []:=
.fR 8 (zDu p0 W) λx1=>
.i 32 (x1 !=0) (λh3=> .e (x1,W)) λh3=>
.p p0 (λh4=> .t 52 12 (ptN 5 h4)<|
.no) λi5 h4=>
.s 52 12 5 h4<|
.b (W.ge_tx i5) λx6 h7=>
let U:zAF:=(zAF.mk x6.l_ x6.at_ true x6.now_);let Z:=(W.st_tx i5 U);.o 44 (stw (zK3 h7) (su_tx (x':=U) h7))<|
have I:Z.ge_tx i5=some U:=(zEZ h7);.j 46 (λJ=>[(0,oA 5 p0),(4,.t (.own 307 2 (List.map zN J))),kH Z]) (λJ=>zER p0 i5 h4 Z U I J)<|
.s 64 15 5 h4<|
.o 18 (ld (zK3 I))<|
.o 19 (keysR (c:=cd 6 U.now_) keysW)<|
.b (Z.ge_mp U.now_) λα β=>
.b (zPr α) λu γ=>
.o 20 (sortedR sortedW (by kernel_rfl) (gl_mp β) γ)<|
.ln 21 u cI64<|
.l [4] (λq=>[(0,oA 5 p0),(4,.t (.own 307 2 (List.map zN q.1))),(20,.t (.d (.seq 1 (List.map cI64 u)))),(21,iA (u.length:Int)),(22,iA q.2),kH Z]) (u.length+1) (λq=>zEV u p0 i5 h4 Z U I α β q.1 q.2) ([],0)
def zC9 p0 W:=(zIT p0 W).q
theorem zG4 p0 W:∀r,zC9 p0 W=some r->FH 103 [oA 5 p0] [] [] (hpA W) (hpA r.2) (iA r.1):=zM mixed [] Tryz.func103 _
def zNO(p0:O)(W:Hp):TT (Int×Hp) []:=
.pS p0 λi2 J=>
.s 16 3 11 J<|
.b (W.ge_vw i2) λx3 h4=>
.o 6 (ld (zDA h4))<|
.pS x3.s_ λi6 h5=>
.s 28 6 10 h5<|
.b (W.ge_st i6) λx7 h8=>
.o 9 (ldS (zIs h8))<|
.s 44 10 11 J<|
.o 13 (ld (zDA h4))<|
.s 60 14 11 J<|
.o 17 (ldS (zDA h4))<|
.fH 18 (zD2 x7.geometry_ x3.t_ x3.h_ W) λx9=>
.s 80 19 11 J<|
.b (x9.ge_vw i2) λu I=>
.o 22 (ld (zDA I))<|
.pS u.s_ λζ α=>
.s 92 22 10 α<|
.b (x9.ge_st ζ) λγ δ=>
.o 25 (ldS (zIs δ))<|
.s 108 26 11 J<|
.o 29 (ld (zDA I))<|
.s 124 30 11 J<|
.o 33 (ld (zDA I))<|
.fH 34 (zDe γ.geometry_ u.t_ u.p_ x9) λZ=>
.s 144 35 11 J<|
.b (Z.ge_vw i2) λβ ε=>
.o 38 (ld (zDA ε))<|
.fH 39 (zG4 β.t_ Z) λU=>
.e (U.1,U.2)
def zNV p0 W:=(zNO p0 W).q
theorem zL5 p0 W:∀r,zNV p0 W=some r->FH 120 [oA 11 p0] [] [] (hpA W) (hpA r.2) (iA r.1):=zM mixed [] Tryz.func120 _
def zLH(p0:O)(p1:List zQ)(W:Hp):TT (Int×Int×Hp) []:=
.fH 14 (zBT p0 W) λx1=>
.iF 56 (x1.2.1 !=0) λh3=>
.fA 23 (zOo p1) λx4=>
.fR 24 (zLS x1.1 x4 x1.2.2) λI=>
.iF 89 (I.2.2 !=0) λh8=>
.fA 32 (zFd p1 118 [] zFC zIK ⟨_,Tryz.func118,rfl,rfl⟩) λx9=>
.iF 101 (!x9) λν=>
.pS x1.1 λJ U=>
.s 172 39 11 U<|
.b (x1.2.2.ge_vw J) λu β=>
let δ:zU:=(zU.mk u.s_ u.t_ u.x_ (zH.mk u.h_.count_ u.h_.quota_ I.1 u.h_.keys_) u.p_);let ζ:=(x1.2.2.st_vw J δ);.o 78 (stw (zDA β) (su_vw (x':=δ) β))<|
have α:ζ.ge_vw J=some δ:=(zEZ β);.s 184 40 11 U<|
let Z:zU:=(zU.mk u.s_ u.t_ u.x_ (zH.mk ((zH.mk u.h_.count_ u.h_.quota_ I.1 u.h_.keys_).count_) ((zH.mk u.h_.count_ u.h_.quota_ I.1 u.h_.keys_).quota_) ((zH.mk u.h_.count_ u.h_.quota_ I.1 u.h_.keys_).bytes_) I.2.1) u.p_);let ε:=(ζ.st_vw J Z);.o 74 (stw (zDA α) (su_vw (x':=Z) α))<|
have γ:ε.ge_vw J=some Z:=(zEZ α);.s 200 49 11 U<|
.o 53 (ld (zDA γ))<|
let θ:zU:=(zU.mk u.s_ u.t_ u.x_ (zH.mk (wi (Z.h_.count_+1)) ((zH.mk ((zH.mk u.h_.count_ u.h_.quota_ I.1 u.h_.keys_).count_) ((zH.mk u.h_.count_ u.h_.quota_ I.1 u.h_.keys_).quota_) ((zH.mk u.h_.count_ u.h_.quota_ I.1 u.h_.keys_).bytes_) I.2.1).quota_) ((zH.mk ((zH.mk u.h_.count_ u.h_.quota_ I.1 u.h_.keys_).count_) ((zH.mk u.h_.count_ u.h_.quota_ I.1 u.h_.keys_).quota_) ((zH.mk u.h_.count_ u.h_.quota_ I.1 u.h_.keys_).bytes_) I.2.1).bytes_) ((zH.mk ((zH.mk u.h_.count_ u.h_.quota_ I.1 u.h_.keys_).count_) ((zH.mk u.h_.count_ u.h_.quota_ I.1 u.h_.keys_).quota_) ((zH.mk u.h_.count_ u.h_.quota_ I.1 u.h_.keys_).bytes_) I.2.1).keys_)) u.p_);let κ:=(ε.st_vw J θ);.o 74 (stw (zDA γ) (su_vw (x':=θ) γ))<|
.fH 60 (zJJ x1.1 p1 κ) λη=>
.iF 188 (η.1 !=0) λξ=>
.fH 65 (zL5 x1.1 η.2) λx32=>
.iF 203 (x32.1 !=0) λπ=>
.s 280 69 11 U<|
.b (x32.2.ge_vw J) λμ ι=>
.o 73 (ld (zDA ι))<|
.e (μ.h_.count_,0,x32.2)
def zEd p0 p1 W:=(zLH p0 p1 W).q
theorem zI2 p0 p1 W:∀r,zEd p0 p1 W=some r->FH 32 [oA 10 p0,.t (.d (.seq 4 (List.map qL p1)))] [] [] (hpA W) (hpA r.2.2) (.tup [iT r.1,iT r.2.1]):=zM mixed [] Tryz.func32 _
def zHs(W:zBH)(u z8:Int)(z9:Y)(J:Hp):TT (Bool×(Int×Y)×Hp) []:=
.i 71 (u !=0) (λU=> .e (false,(u,z9),J)) λU=>
.y 25 true<|
.b (appI 1 z9 W.data_) λZ I=>
.w 28 (appC (c:=cU8) I) (.oe (appE (E:=5) (k:=1) (c:=cU8) I))<|
.e (true,(z8,Z),J)
theorem zO3(u:Int):RndOK Tryz.prog 122 0 [6,7,8] [20,21] zCO hpA (λb:(Int×Y)=>[[nT],[iT b.1],[.own 5 1 (qV b.2)]]) [(2,iA u)] (λ(a:(zBH×Int)) (b:(Int×Y)) w=>(zHs a.1 a.2 b.1 b.2 w).run Env.nil):=rnd_chk mixed Tryz.func122 0 (λ(a:(zBH×Int)) (b:(Int×Y)) w=>zHs a.1 a.2 b.1 b.2 w) (by kernel_rfl)
def zQn(u:((Bool×(Int×Y))×Hp))(U:Int):TT (Y×Int×Hp) []:=
.b (cutI u.1.2.2 0 U) λJ I=>
.w 45 (zSM (c:=cU8) I) (.oe (zSD (k:=1) (c:=cU8) I))<|
.e (J,0,u.2)
def zQH(I:Y)(Z:((Bool×(Int×Y))×Hp))(u:Int):TT (Y×Int×Hp) [Int,Unit]:=
.i 113 (decide (u<(I.length:Int))) (λW=> .b (idx I u) λU J=>
.ix 38 cU8 J<|
.i 125 ((U.toNat:Int) !=0) (λα=> .e ([],11,Z.2)) λα=>
.k [] .z (wi (u+1))) λW=>
.k [] (.s .z) ()
def zPU(p0:O)(p1 J:Int)(W:Hp):TT (Y×Int×Hp) []:=
.p p0 (λ_=> .no) λi2 h1=>
.s 5 0 5 h1<|
.fA 14 (zLR J) λx3=>
.i 47 (!x3) (λh5=> .e ([],2,W)) λh5=>
.fR 19 (zOq (some i2) p1 J W) λZ=>
.b (zI1 (lpY (λ(a:(zBH×Int)) (b:(Int×Y)) w=>(zHs a.1 a.2 b.1 b.2 w).run Env.nil)) Z.1 Z.2.1 Z.2.2 ((true,(0,[])),W)) λu β=>
.rr (rg 19 [8] (zNa Z.1 Z.2.1 Z.2.2) (zO3 J) β nc_hpA (λ_=>rfl) (λb=>(all_cons (p:=nzC) (zLk zEF) (all_cons (p:=nzC) (zLk zEF) (all_cons (p:=nzC) (zH7 zEF) all_nil)))) (λ_=>⟨rfl,rfl⟩) ⟨.inl ⟨rfl,rfl⟩,trivial⟩) u.1.1 (λγ=>
.j 66 (λ_=>[(2,iA J),(6,.box [nT]),(7,.box [iT u.1.2.1]),(8,.box [.own 5 1 (qV u.1.2.2)]),kH u.2]) (λ_=>zQn u J)<|
.ln 32 u.1.2.2 cU8<|
.b (cutI u.1.2.2 (if(u.1.2.2.length:Int)<J then(u.1.2.2.length:Int)else J) (u.1.2.2.length:Int)) λI α=>
.w 34 (zUO (c:=cU8) α) (.oe (zUf (k:=1) (c:=cU8) α))<|
.ln 35 I cU8<|
.l [] (λU=>[(2,iA J),(6,.box [nT]),(7,.box [iT u.1.2.1]),(8,.box [.own 5 1 (qV u.1.2.2)]),(34,yA I),(35,iA (I.length:Int)),(36,iA U),kH u.2]) (I.length+1) (λU=>zQH I u U) 0) (([],u.1.2.1,u.2))
def zT9(J:O)(u I:Int)(W:Hp):Option (Y×Int×Hp):=(zPU J u I W).run Env.nil
theorem zRK(J:O)(u I:Int)(W:Hp):∀r,zT9 J u I W=some r->FH 122 [oA 5 J,iA u,iA I] [] [] (hpA W) (hpA r.2.2) (.tup [yT r.1,iT r.2.1]):=zTd mixed [] Tryz.func122 (zPU J u I W) (by kernel_rfl)
def zMZ(p0:O)(p1:Y)(W:Hp):TT (zFO×Int×Hp) []:=
.fH 13 (zBT p0 W) λI=>
.i 53 (I.2.1 !=0) (λh3=> .e ((zFO.mk 0 []),I.2.1,I.2.2)) λh3=>
.p I.1 (λU=> .t 88 21 (ptN 11 U)<|
.no) λi5 U=>
.s 88 21 11 U<|
.b (I.2.2.ge_vw i5) λx6 h7=>
.o 24 (ld (zDA h7))<|
.fR 26 (zEG x6.x_ p1 I.2.2) λJ=>
.i 95 (J.2.2 !=0) (λα=> .e ((zFO.mk 0 []),J.2.2,I.2.2)) λα=>
.s 144 35 11 U<|
.o 38 (ld (zDA h7))<|
.fH 43 (zRK x6.t_ J.1.First J.1.Len I.2.2) λu=>
.i 143 (u.2.1 !=0) (λZ=> .e ((zFO.mk 0 []),u.2.1,u.2.2)) λZ=>
.e ((zFO.mk J.1.Version u.1),0,u.2.2)
def zDs p0 p1 W:=(zMZ p0 p1 W).q
theorem zGJ p0 p1 W:∀r,zDs p0 p1 W=some r->FH 34 [oA 10 p0,sA p1] [] [] (hpA W) (hpA r.2.2) (.tup [.agg [iD r.1.Version,yD r.1.Data],iT r.2.1]):=zM mixed [] Tryz.func34 _
def zPg(U:O)(u:Int)(W:Hp):TT Bool []:=
.i 24 (decide (u>=3)) (λI=> .fR 10 (zAd U W) λJ=>
.e (decide (u<=(wi ((wi (J-2))-1))))) λI=>
.e false
def zEl p0 p1 W:=(zPg p0 p1 W).q
theorem zM6 p0 p1 W:∀r,zEl p0 p1 W=some r->FH 181 [oA 1 p0,iA p1] [] [] (hpA W) (hpA W) (bA r):=zM mixed [] Tryz.func181 _
def zGM(U:O)(p1:Int)(y7:Hp):TT (Int×Hp) []:=
.fH 32 (zB9 U y7) λJ=>
.i 104 (J.1 !=0) (λW=> .e (J.1,J.2)) λW=>
.fR 38 (zHT 1 p1 J.2) λZ=>
.fH 39 (zB7 U 0 Z J.2) λu=>
.i 125 (u.1 !=0) (λα=> .e (u.1,u.2)) λα=>
.fH 44 (zB9 U u.2) λI=>
.e (I.1,I.2)
def zGb(p1:Int)(p0:O)(I:Int)(U:Hp):TT (Int×Hp) [Int×Hp,Hp]:=
.i 65 (decide (I<(wi (2+p1)))) (λZ=> .b (mkI 1 64) λJ W=>
.o 26 (mko W (z:=(.int .u8 0)) (rs:=qV (List.replicate J (0:UInt8))) (by unfold qV;rw[sY];try rfl))<|
.fH 27 (zB7 p0 I (List.replicate J (0:UInt8)) U) λu=>
.i 89 (u.1 !=0) (λα=> .e (u.1,u.2)) λα=>
.k [] .z ((wi (I+1)),u.2)) λZ=>
.k [] (.s .z) U
def zM4(I:O)(u:Int)(W:Hp):TT (Int×Hp) []:=
.fR 11 (zAd I W) λx1=>
.i 29 (x1==0) (λh3=> .e (1,W)) λh3=>
.fR 16 (zM6 I u W) λZ=>
.i 41 (!Z) (λU=> .e (2,W)) λU=>
.j 46 (λJ=>[(0,oA 1 I),(1,iA u),kH J,kF 0]) (λJ=>zGM I u J)<|
.l [] (λq=>[(0,oA 1 I),(1,iA u),(5,iA q.1),kH q.2,kF 0]) (Int.toNat (wi (2+u))+1) (λq=>zGb u I q.1 q.2) (1,W)
def zBV p0 p1 W:=(zM4 p0 p1 W).q
theorem zO4 p0 p1 W:∀r,zBV p0 p1 W=some r->FH 94 [oA 1 p0,iA p1] [] [] (hpA W) (hpA r.2) (iA r.1):=zM mixed [0] Tryz.func94 _
def zNZ(u:UInt8):TT Bool []:=
.e ((u.toNat:Int) !=0)
def zIU p0:=(zNZ p0).q
theorem zMW p0:∀r,zIU p0=some r->FP 332 [.t (.d (.lit (.int .u8 (p0.toNat:Int))))] [] (bA r):=zAM mixed Tryz.func332 _
def zQA(I:Y):TT Bool []:=
.fA 4 (zDb I 332 [] zIU zMW ⟨_,Tryz.func332,rfl,rfl⟩) λu=>
.e (!u)
def zD0 p0:=(zQA p0).q
theorem zKm p0:∀r,zD0 p0=some r->FP 279 [yA p0] [] (bA r):=zAM mixed Tryz.func279 _
def zKn(p0:O)(p1:Int)(W:Hp):TT (Int×Int×Bool) []:=
.fR 15 (zEv p0 p1 W) λI=>
.i 59 (I.2 !=0) (λh3=> .e (0,0,false)) λh3=>
.b (cutI I.1 0 8) λx4 h5=>
.w 22 (zSM (c:=cU8) h5) (.oe (zSD (k:=1) (c:=cU8) h5))<|
.fA 23 (zES x4) λx6=>
.b (cutI I.1 56 (I.1.length:Int)) λx8 h9=>
.w 28 (zUO (c:=cU8) h9) (.oe (zUf (k:=1) (c:=cU8) h9))<|
.fA 29 (zES x8) λU=>
.b (cutI I.1 8 12) λζ J=>
.w 34 (cutC (c:=cU8) J) (.oe (cutE (k:=1) (c:=cU8) J))<|
.fA 35 (zES ζ) λu=>
.i 123 (x6.2 !=0) (λγ=> .e (0,0,false)) λγ=>
.i 135 (U.2 !=0) (λβ=> .e (0,0,false)) λβ=>
.i 147 (u.2 !=0) (λν=> .e (0,0,false)) λν=>
.i 162 (x6.1 !=U.1) (λα=> .e (0,0,false)) λα=>
.i 174 (decide (x6.1<1)) (λε=> .e (0,0,false)) λε=>
.i 186 (decide (x6.1>2305843009213693952)) (λδ=> .e (0,0,false)) λδ=>
.fR 64 (zM6 p0 u.1 W) λι=>
.i 204 (!ι) (λκ=> .e (0,0,false)) λκ=>
.b (cutI I.1 12 56) λθ Z=>
.w 69 (cutC (c:=cU8) Z) (.oe (cutE (k:=1) (c:=cU8) Z))<|
.fA 70 (zKm θ) λμ=>
.i 218 (!μ) (λη=> .e (0,0,false)) λη=>
.e (x6.1,u.1,true)
def zAg p0 p1 W:=(zKn p0 p1 W).q
theorem zNR p0 p1 W:∀r,zAg p0 p1 W=some r->FH 187 [oA 1 p0,iA p1] [] [] (hpA W) (hpA W) (.tup [iT r.1,iT r.2.1,bT' r.2.2]):=zM mixed [] Tryz.func187 _
def zM7(p0:O)(p1:Int)(W:Hp):TT zG []:=
.p p0 (λZ=> .t 40 9 (ptN 3 Z)<|
.no) λi2 Z=>
.s 40 9 3 Z<|
.b (W.ge_lg i2) λx3 h4=>
.o 12 (ld (zBv h4))<|
.i 41 (decide (p1>=x3.size_)) (λh5=> .e (zG.mk 0 0 [] false)) λh5=>
.s 68 16 3 Z<|
.o 19 (ld (zBv h4))<|
.fR 22 (zEv x3.d_ (wi (2+p1)) W) λx6=>
.i 80 (x6.2 !=0) (λh8=> .e (zG.mk 0 0 [] false)) λh8=>
.b (idx x6.1 0) λx9 β=>
.ix 29 cU8 β<|
.w 31 trivial (i648E x9)<|
.b (cutI x6.1 5 37) λu U=>
.w 33 (cutC (c:=cU8) U) (.oe (cutE (k:=1) (c:=cU8) U))<|
.b (cutI x6.1 1 5) λδ J=>
.w 37 (cutC (c:=cU8) J) (.oe (cutE (k:=1) (c:=cU8) J))<|
.fA 38 (zES δ) λI=>
.s 180 44 3 Z<|
.o 47 (ld (zBv h4))<|
.fR 50 (zGL (zG.mk (x9.toNat:Int) I.1 u false) (wi (x3.base_+p1)) W) λγ=>
.fA 51 (zCj x6.1 γ) λα=>
.e (zG.mk (x9.toNat:Int) I.1 u α)
def zBP p0 p1 W:=(zM7 p0 p1 W).q
theorem zKY p0 p1 W:∀r,zBP p0 p1 W=some r->FH 333 [oA 3 p0,iA p1] [] [] (hpA W) (hpA W) (.t (.agg [iD r.kind_,iD r.number_,yD r.data_,bD r.ok_])):=zM mixed [] Tryz.func333 _
def zJU(u:Int):TT Y []:=
.iF 20 (decide (u<0)) λU=>
.i 50 (decide ((wi (u-(wi (0-0))))>0)) (λI=> .o 20 slN<|
.b (growI 1 (wi (u-(wi (0-0))))) λZ J=>
.o 22 (apfr J)<|
.o 25 (slfr)<|
.y 0 true<|
.y 26 true<|
.y 4 true<|
.e []) λI=>
.e []
def zDg p1:=(zJU p1).q
theorem zIt p1:∀r,zDg p1=some r->FP 363 [.t (nT),iA p1] [] (.t (.own 5 1 (qV r))):=zAM mixed Tryz.func363 _
def zCw(U:List Y)(J:Y)(I:Int):TT Y [Y×Int]:=
.i 86 (decide (I<(U.length:Int))) (λZ=> .b (idx U I) λx7 W=>
.ix 29 (cSl 1 cU8) W<|
.y 31 true<|
.b (appI 1 J x7) λx9 u=>
.w 33 (appC (c:=cU8) u) (.oe (appE (E:=5) (k:=1) (c:=cU8) u))<|
.y 6 true<|
.k [] .z (x9,(wi (I+1)))) λZ=>
.y 35 true<|
.y 2 true<|
.e J
def zC5(u:List Y)(I:Int):TT Y []:=
.fA 24 (zIt I) λJ=>
.y 6 true<|
.ln 26 u (cSl 1 cU8)<|
.l [] (λq=>[(6,.t (.own 5 1 (qV q.1))),(25,.t (.d (.seq 1 (List.map (cSl 1 cU8) u)))),(26,iA (u.length:Int)),(27,iA q.2)]) (u.length+1) (λq=>zCw u q.1 q.2) (J,0)
def zCt(W:List Y)(I J:Int):TT Y [Int×Int,Int]:=
.i 38 (decide (J<(W.length:Int))) (λU=> .b (idx W J) λu Z=>
.ix 13 (cSl 1 cU8) Z<|
.ln 17 u cU8<|
.iF 62 (decide ((wi (I+(u.length:Int)))<0)) λα=>
.k [] .z ((wi (I+(u.length:Int))),(wi (J+1)))) λU=>
.k [] (.s .z) I
def zFw(u:List Y):TT Y []:=
.j 38 (λI=>[(0,.t (.d (.seq 1 (List.map (cSl 1 cU8) u)))),(3,iA I)]) (λI=>zC5 u I)<|
.ln 10 u (cSl 1 cU8)<|
.l [] (λq=>[(0,.t (.d (.seq 1 (List.map (cSl 1 cU8) u)))),(3,iA q.1),(9,.t (.d (.seq 1 (List.map (cSl 1 cU8) u)))),(10,iA (u.length:Int)),(11,iA q.2)]) (u.length+1) (λq=>zCt u q.1 q.2) (0,0)
def zA7 p0:=(zFw p0).q
theorem zJw p0:∀r,zA7 p0=some r->FP 334 [.t (.d (.seq 1 (List.map (cSl 1 cU8) p0)))] [] (.t (.own 5 1 (qV r))):=zAM mixed Tryz.func334 _
def zFg(z1:List zB)(U p1:Int)(J:zG)(p0:O)(W:Hp)(y6:Bool):TT ((List zB)×Int) [(List zB)×Int]:=
.i 62 y6 (λh7=> .y 41 true<|
.y 4 true<|
.e (z1,(wi ((wi (U+1))-p1)))) λh7=>
.i 153 (J.kind_ !=1) (λh8=> .e ([],0)) λh8=>
.fR 54 (zB1 p0 W) λx9=>
.i 140 (decide (J.number_>=x9)) (λδ=> .e ([],0)) λδ=>
.fR 60 (zKY p0 (wi (U+1)) W) λu=>
.i 195 (!u.ok_) (λα=> .e ([],0)) λα=>
.i 210 (u.kind_ !=2) (λβ=> .e ([],0)) λβ=>
.i 227 (u.number_ !=J.number_) (λε=> .e ([],0)) λε=>
.y 76 true<|
.fA 84 (zJw [J.data_,u.data_]) λγ=>
.b (appI 32 z1 [(zB.mk J.number_ γ)]) λZ I=>
.w 87 (appC (c:=zN) I) (.oe (appE (E:=307) (k:=2) (c:=zN) I))<|
.y 6 true<|
.k [] .z (Z,(wi (U+2)))
def zFi(p0:O)(W:Hp)(p1:Int)(I:List zB)(z2:Int):TT ((List zB)×Int) [(List zB)×Int]:=
.fR 15 (zKY p0 z2 W) λu=>
.i 50 (!u.ok_) (λh5=> .e ([],0)) λh5=>
.j 83 (λU=>[(0,oA 3 p0),(1,iA p1),(6,.t (.own 307 2 (List.map zN I))),(7,iA z2),(8,.box [iT u.kind_,iT u.number_,yT u.data_,bT' u.ok_]),(20,bA U),kH W]) (λU=>zFg I z2 p1 u p0 W U)<|
.i 75 (u.kind_==3) (λJ=> .ln 26 I zN<|
.i 90 (decide ((I.length:Int)>0)) (λZ=> .ln 33 I zN<|
.i 111 (u.number_==(I.length:Int)) (λβ=> .fA 39 (zKm u.data_) λα=>
.k [] .z α) λβ=>
.k [] .z false) λZ=>
.k [] .z false) λJ=>
.k [] .z false
def zME(I:O)(u:Int)(W:Hp):TT ((List zB)×Int) []:=
.l [6] (λq=>[(0,oA 3 I),(1,iA u),(6,.t (.own 307 2 (List.map zN q.1))),(7,iA q.2),kH W]) (16400) (λq=>zFi I W u q.1 q.2) ([],u)
def zCx p0 p1 W:=(zME p0 p1 W).q
theorem zN2 p0 p1 W:∀r,zCx p0 p1 W=some r->FH 281 [oA 3 p0,iA p1] [] [] (hpA W) (hpA W) (.tup [.d (.seq 2 (List.map zN r.1)),iT r.2]):=zM mixed [] Tryz.func281 _
def zFM(Z:O)(W:Hp)(J:List zB)(I:Int):TT (List zB) [(List zB)×Int]:=
.fR 10 (zN2 Z I W) λu=>
.i 44 (u.2==0) (λh5=> .y 15 true<|
.y 2 true<|
.e J) λh5=>
.y 16 true<|
.b (appI 32 J u.1) λx6 U=>
.w 18 (appC (c:=zN) U) (.oe (appE (E:=307) (k:=2) (c:=zN) U))<|
.y 3 true<|
.k [] .z (x6,(wi (I+u.2)))
def zKZ(u:O)(W:Hp):TT (List zB) []:=
.l [3] (λq=>[(0,oA 3 u),(3,.t (.own 307 2 (List.map zN q.1))),(4,iA q.2),kH W]) (16400) (λq=>zFM u W q.1 q.2) ([],0)
def zBr p0 W:=(zKZ p0 W).q
theorem zNL p0 W:∀r,zBr p0 W=some r->FH 189 [oA 3 p0] [] [] (hpA W) (hpA W) (.t (.own 307 2 (List.map zN r))):=zM mixed [] Tryz.func189 _
def zIM(W u:Hp):TT (O×Int×Hp) []:=
.b (u.ge_lg W.ln_lg) λZ U=>
.o 58 (ld (zBv U))<|
.i 179 (Z.base_==0) (λβ=> .e (none,11,u)) λβ=>
.o 63 (ld (zBv U))<|
.o 67 (ld (zBv U))<|
.i 209 (decide (Z.base_>(wi (2305843009213693952-Z.size_)))) (λε=> .e (none,3,u)) λε=>
.fR 72 (zNL (some W.ln_lg) u) λδ=>
.fH 73 (zIY (some W.ln_lg) δ u) λI=>
.i 227 (I.1 !=0) (λα=> .e (none,I.1,I.2)) λα=>
.fH 78 (zFD (some W.ln_lg) I.2) λJ=>
.i 242 (J.1 !=0) (λγ=> .e (none,J.1,J.2)) λγ=>
.e ((some W.ln_lg),0,J.2)
def zHx(U W:Hp)(u:(Int×Int×Bool))(J:Int)(η:Bool):TT (O×Int×Hp) [Int×Hp,Hp]:=
.i 125 η (λθ=> .b (U.ge_lg W.ln_lg) λx32 β=>
let α:zW:=(zW.mk x32.d_ x32.size_ u.1 x32.slot_ x32.used_ x32.life_ x32.commits_);let γ:=(U.st_lg W.ln_lg α);.o 89 (stw (zBv β) (zRT (x':=α) β))<|
have I:γ.ge_lg W.ln_lg=some α:=(zEZ β);let Z:zW:=(zW.mk x32.d_ u.2.1 u.1 x32.slot_ x32.used_ x32.life_ x32.commits_);let δ:=(γ.st_lg W.ln_lg Z);.o 86 (stw (zBv I) (zRT (x':=Z) I))<|
have ε:δ.ge_lg W.ln_lg=some Z:=(zEZ I);let ζ:zW:=(zW.mk x32.d_ u.2.1 u.1 J x32.used_ x32.life_ x32.commits_);let ι:=(δ.st_lg W.ln_lg ζ);.o 83 (stw (zBv ε) (zRT (x':=ζ) ε))<|
.k [] .z ((wi (J+1)),ι)) λθ=>
.k [] .z ((wi (J+1)),U)
def zID(p0:O)(W:Hp)(u:Int)(I:Hp):TT (O×Int×Hp) [Int×Hp,Hp]:=
.i 74 (decide (u<2)) (λα=> .fR 29 (zNR p0 u I) λJ=>
.j 167 (λU=>[(0,oA 1 p0),(4,oA 3 (some W.ln_lg)),(5,iA u),(6,iA J.1),(7,iA J.2.1),(23,iA u),(41,bA U),kH I]) (λU=>zHx I W J u U)<|
.i 105 J.2.2 (λγ=> .b (I.ge_lg W.ln_lg) λZ β=>
.o 39 (ld (zBv β))<|
.k [] .z (decide (J.1>Z.base_))) λγ=>
.k [] .z false) λα=>
.k [] (.s .z) I
def zPj(I:O)(W:Hp):TT (O×Int×Hp) []:=
.fR 13 (zAd I W) λx1=>
.i 35 (x1==0) (λh3=> .e (none,1,W)) λh3=>
.fR 17 (zHn I W) λZ=>
.i 47 Z (λU=> .e (none,30,W)) λU=>
.fR 20 (zGd I W) λx7=>
let J:zW:=(zW.mk I 0 0 0 0 x7 0);let w9:=(W.nw_lg J);.o 22 (nwW (fr_lg W) (nw_lg W J))<|
.j 54 (λu=>[(4,oA 3 (some W.ln_lg)),kH u]) (λu=>zIM W u)<|
.l [] (λq=>[(0,oA 1 I),(4,oA 3 (some W.ln_lg)),(23,iA q.1),kH q.2]) (Int.toNat 2+1) (λq=>zID I W q.1 q.2) (0,w9)
def zCQ p0 W:=(zPj p0 W).q
theorem zNG p0 W:∀r,zCQ p0 W=some r->FH 95 [oA 1 p0] [] [] (hpA W) (hpA r.2.2) (.tup [.opt 3 r.1,iT r.2.1]):=zM mixed [] Tryz.func95 _
def zFH(W:Hp)(I:(O×Int×Hp))(p1:Int)(Z:Hp):TT (Int×Hp) []:=
.b (Z.ge_st W.ln_st) λμ γ=>
.o 83 (ld (zIs γ))<|
.fH 84 (zLc μ.geometry_.homes_ Z) λu=>
.b (u.2.2.ge_st W.ln_st) λζ ι=>
.o 91 (ldS (zIs ι))<|
.fA 92 (zBm ζ.geometry_) λβ=>
.fH 93 (zD5 u.1 β u.2.2) λα=>
.b (α.2.2.ge_st W.ln_st) λκ ε=>
.o 97 (ldS (zIs ε))<|
.fH 101 (zD2 κ.geometry_ I.1 (zH.mk 0 p1 0 0) α.2.2) λU=>
.b (U.ge_st W.ln_st) λθ η=>
.o 105 (ldS (zIs η))<|
.fH 108 (zDe θ.geometry_ I.1 u.1 U) λδ=>
.fH 110 (zG4 I.1 δ) λJ=>
.e (J.1,J.2)
def zFG(β:Int)(W:(O×Int×Hp))(u:Int)(I:Hp):TT (Int×Hp) [Int×Hp,Hp]:=
.i 215 (decide (u<β)) (λU=> .b (mkI 1 64) λJ α=>
.o 75 (mko α (z:=(.int .u8 0)) (rs:=qV (List.replicate J (0:UInt8))) (by unfold qV;rw[sY];try rfl))<|
.fH 76 (zBx W.1 u (List.replicate J (0:UInt8)) I) λZ=>
.k [] .z ((wi (u+1)),Z.2)) λU=>
.k [] (.s .z) I
def zKk(p0:O)(p1:Int)(W:Hp):TT (Int×Hp) []:=
.fR 15 (zAd p0 W) λx1=>
.i 41 (x1==0) (λh3=> .e (1,W)) λh3=>
.fR 19 (zAd p0 W) λx4=>
.fA 20 (zH5 x4) λx6=>
.i 69 (decide (x6<1)) (λh8=> .e (2,W)) λh8=>
.i 81 (decide (p1<0)) (λh9=> .e (2,W)) λh9=>
.i 53 (decide (p1>2305843009213693952)) (λη=> .e (2,W)) λη=>
.fR 31 (zAd p0 W) λε=>
.fA 32 (zLK ε) λμ=>
let U:qE:=(qE.mk μ none);let γ:=(W.nw_st U);.o 34 (nwW (fr_st W) (nw_st W U))<|
have ζ:γ.ge_st W.ln_st=some U:=zSA;.o 40 (ld (zIs ζ))<|
.fH 41 (zO4 p0 U.geometry_.size_ γ) λJ=>
.i 131 (J.1 !=0) (λκ=> .e (J.1,J.2)) λκ=>
.fH 47 (zNG p0 J.2) λI=>
.i 155 (I.2.1 !=0) (λρ=> .e (I.2.1,I.2.2)) λρ=>
.b (I.2.2.ge_st W.ln_st) λπ β=>
let δ:qE:=(qE.mk π.geometry_ I.1);let θ:=(I.2.2.st_st W.ln_st δ);.o 111 (stw (zIs β) (su_st (x':=δ) β))<|
.fH 59 (zHY I.1 θ) λu=>
.i 191 (u.2.1 !=0) (λν=> .e (u.2.1,u.2.2)) λν=>
.j 86 (λZ=>[(1,iA p1),(5,oA 10 (some W.ln_st)),(9,oA 5 u.1),kH Z,kF 0]) (λZ=>zFH W u p1 Z)<|
.b (u.2.2.ge_st W.ln_st) λι ξ=>
.o 68 (ldS (zIs ξ))<|
.fA 69 (zBm ι.geometry_) λα=>
.l [] (λq=>[(1,iA p1),(5,oA 10 (some W.ln_st)),(9,oA 5 u.1),(69,iA α),(70,iA q.1),kH q.2,kF 0]) (Int.toNat α+1) (λq=>zFG α u q.1 q.2) (0,u.2.2)
def yV p0 p1 W:=(zKk p0 p1 W).q
theorem zFh p0 p1 W:∀r,yV p0 p1 W=some r->FH 27 [oA 1 p0,iA p1] [] [] (hpA W) (hpA r.2) (iA r.1):=zM mixed [0] Tryz.func27 _
def zPo(J:Int)(W:Hp):TT (O×Int×Hp) []:=
.i 21 (decide (J<1)) (λh1=> .e (none,2,W)) λh1=>
.i 29 (decide (J>16384)) (λZ=> .e (none,2,W)) λZ=>
.b (mkI 64 J) λu h4=>
.o 11 (mkl false 0 (c0:=dT zDX ([]:Y)) h4 (zNA (c:=zDX) (z:=([]:Y)) (by kernel_rfl) u))<|
.b (mkI 64 J) λI U=>
.o 13 (mkl false 1 (c0:=dT zDX ([]:Y)) U (zNA (c:=zDX) (z:=([]:Y)) (by kernel_rfl) I))<|
.o 15 (lbox 2)<|
.f 9 (pubA 0 (cc:=zDX) (y:=(List.replicate u ([]:Y))) (c:=cd 2 W.ln_sec) (f1:=hpA W) (f2:=hpA (W.nw_sec (List.replicate u ([]:Y)))) (fr_sec _) (pbE (λk=>rn_hpA _ _ _ k) (nw_sec _ (List.replicate u ([]:Y)))))<|
.t 9 (OB+1) (congrArg A.box (zQZ (j:=0) (c:=cd 2 W.ln_sec) (zMY zDX (List.replicate I ([]:Y)))))<|
.f 9 (pubA 1 (cc:=zDX) (y:=(List.replicate I ([]:Y))) (c:=cd 2 ((W.nw_sec (List.replicate u ([]:Y))).ln_sec)) (f1:=hpA (W.nw_sec (List.replicate u ([]:Y)))) (f2:=hpA ((W.nw_sec (List.replicate u ([]:Y))).nw_sec (List.replicate I ([]:Y)))) (fr_sec _) (pbE (λk=>rn_hpA _ _ _ k) (nw_sec _ (List.replicate I ([]:Y)))))<|
.f 9 (pubS 2 (c:=cd 1 (((W.nw_sec (List.replicate u ([]:Y))).nw_sec (List.replicate I ([]:Y))).ln_dk)) (f1:=hpA ((W.nw_sec (List.replicate u ([]:Y))).nw_sec (List.replicate I ([]:Y)))) (f2:=hpA (((W.nw_sec (List.replicate u ([]:Y))).nw_sec (List.replicate I ([]:Y))).nw_dk (zP.mk (W.ln_sec,u) ((W.nw_sec (List.replicate u ([]:Y))).ln_sec,I) [] (-1) false 0))) (fr_dk _) (pbE (λk=>rn_hpA _ _ _ k) (nw_dk _ (zP.mk (W.ln_sec,u) ((W.nw_sec (List.replicate u ([]:Y))).ln_sec,I) [] (-1) false 0))))<|
.e ((some ((W.nw_sec (List.replicate u ([]:Y))).nw_sec (List.replicate I ([]:Y))).ln_dk),0,(((W.nw_sec (List.replicate u ([]:Y))).nw_sec (List.replicate I ([]:Y))).nw_dk (zP.mk (W.ln_sec,u) ((W.nw_sec (List.replicate u ([]:Y))).ln_sec,I) [] (-1) false 0)))
def zDv p0 W:=(zPo p0 W).q
theorem zMw p0 W:∀r,zDv p0 W=some r->FH 28 [iA p0] [] [] (hpA W) (hpA r.2.2) (.tup [.opt 1 r.1,iT r.2.1]):=zM mixed [0,1,2] Tryz.func28 _
end
end Go.Proofs.YtocolhfjpadaoaaGreatDoor
