/-
  Lemmas of this claim, joined.
-/
import Derived.Test.YtocolhfjpadaoaaGreatDoorR12
set_option linter.unusedVariables false
set_option linter.unusedSimpArgs false
set_option linter.constructorNameAsVariable false
namespace Go.Proofs.YtocolhfjpadaoaaGreatDoor
open Go Go.RowKit
variable {P:Program}{w0:World}{w:World}{m0:Mem}{m:Mem}{o0:OwnM}{o:OwnM}{G:GD}{pins:List Nat}{N:Nat}{a:Act}{op:Oper}{S:Nat->A}{M:Nat->A}{L:SL}{v:Value}{W:World}{Q:Mem}{X:OwnM}
set_option maxRecDepth 20000
noncomputable section
def zCd(p0:List zJ)(W:Hp)(F1:Nat)(C1:(List (List T)))(Z:(zJ->Option Bool))(U:∀(J:zJ) r,Z J=some r->FH F1 ([.t (.agg [iD J.From,iD J.Len])]++C1.map A.imt) [] [] (hpA W) (hpA W) (bA r))(u:FnH Tryz.prog F1 C1 1)(I:Int):TT Int [Int]:=
.i 29 (decide (I<(p0.length:Int))) (λh2=> .w 11 trivial (clW u)<|
.b (idx p0 I) λx3 h4=>
.ix 14 yH h4<|
.b (Z x3) λx5 h6=>
.o 16 (cF (f:=hpA W) (U x3 _ h6) u)<|
.i 50 x5 (λh7=> .e I) λh7=>
.k [] .z (wi (I+1))) λh2=>
.e (-1)
def zDP(W:Hp)(u:List zJ)(F1:Nat)(C1:List (List T))(p1:(zJ->Option Bool))(J:∀(I:zJ) r,p1 I=some r->FH F1 ([.t (.agg [iD I.From,iD I.Len])]++C1.map A.imt) [] [] (hpA W) (hpA W) (bA r))(U:FnH Tryz.prog F1 C1 1):TT Int []:=
.ln 7 u yH<|
.l [] (λZ=>[(0,.t (.d (.seq 2 (List.map yH u)))),(1,.cl F1 C1),(7,iA (u.length:Int)),(8,iA Z),kH W]) (u.length+1) (λZ=>zCd u W F1 C1 p1 J U Z) 0
def zBC(W:Hp)(Z:List zJ)(F1:Nat)(C1:List (List T))(U:(zJ->Option Bool))(I:∀(u:zJ) r,U u=some r->FH F1 ([.t (.agg [iD u.From,iD u.Len])]++C1.map A.imt) [] [] (hpA W) (hpA W) (bA r))(J:FnH Tryz.prog F1 C1 1):Option Int:=(zDP W Z F1 C1 U I J).run Env.nil
theorem zHh(W:Hp)(Z:List zJ)(F1:Nat)(C1:List (List T))(J:(zJ->Option Bool))(u:∀(U:zJ) r,J U=some r->FH F1 ([.t (.agg [iD U.From,iD U.Len])]++C1.map A.imt) [] [] (hpA W) (hpA W) (bA r))(I:FnH Tryz.prog F1 C1 1):∀r,zBC W Z F1 C1 J u I=some r->FH 206 [.t (.d (.seq 2 (List.map yH Z))),.cl F1 C1] [] [] (hpA W) (hpA W) (iA r):=zM mixed [] Tryz.func206 (zDP W Z F1 C1 J u I) (by kernel_rfl)
def zCf(W:Hp)(Z:List zJ)(F1:Nat)(C1:List (List T))(J:(zJ->Option Bool))(I:∀(U:zJ) r,J U=some r->FH F1 ([.t (.agg [iD U.From,iD U.Len])]++C1.map A.imt) [] [] (hpA W) (hpA W) (bA r))(u:FnH Tryz.prog F1 C1 1):TT Bool []:=
.w 6 trivial (clW u)<|
.b (zBC W Z F1 C1 J I u) λx1 h2=>
.o 7 (cRA [.t (.d (.seq 2 (List.map yH Z))),.cl F1 (C1.map λl=>l.map cpT)] (zHh W Z F1 C1 J I u _ h2) (.cons (.plain (.refl _) rfl) (.cons (clH u) .nil)))<|
.e (decide (x1>=0))
def yR(W:Hp)(Z:List zJ)(F1:Nat)(C1:List (List T))(U:(zJ->Option Bool))(I:∀(u:zJ) r,U u=some r->FH F1 ([.t (.agg [iD u.From,iD u.Len])]++C1.map A.imt) [] [] (hpA W) (hpA W) (bA r))(J:FnH Tryz.prog F1 C1 1):Option Bool:=(zCf W Z F1 C1 U I J).run Env.nil
theorem zGV(W:Hp)(Z:List zJ)(F1:Nat)(C1:List (List T))(J:(zJ->Option Bool))(u:∀(U:zJ) r,J U=some r->FH F1 ([.t (.agg [iD U.From,iD U.Len])]++C1.map A.imt) [] [] (hpA W) (hpA W) (bA r))(I:FnH Tryz.prog F1 C1 1):∀r,yR W Z F1 C1 J u I=some r->FH 106 [.t (.d (.seq 2 (List.map yH Z))),.cl F1 C1] [] [] (hpA W) (hpA W) (bA r):=zM mixed [] Tryz.func106 (zCf W Z F1 C1 J u I) (by kernel_rfl)
def zDh(u:List zJ)(z5:Int)(W:Hp)(δ:Bool):TT (List zJ) [Int×(List zJ)]:=
.i 86 δ (λα=> .b (idx u (wi ((u.length:Int)-1))) λJ Z=>
.c 51 (idxV rfl Z)<|
.o 53 (lldA (zTk (c:=yH) Z) (fl_at2 (c:=yH) (k:=2) (q:=1) Z rfl (λ_=>rfl)))<|
.b (idx u (wi ((u.length:Int)-1))) λU I=>
.c 55 (idxV rfl I)<|
.o 59 (lstA (n:=1) (zTk (c:=yH) I) (zF4 (c:=yH) (k:=2) (q:=1) (n:=1) I (λ_=>rfl) rfl) (zHw (x:=[T.d (iD (wi (J.Len+1)))]) (c:=yH) (k:=2) (q:=1) I (zJ.mk U.From (wi (J.Len+1))) (λ_=>rfl) rfl rfl) (gb_set I).symm (OB+0))<|
.t 9 3 (vwE (n:=u.length) (n':=(u.set (Int.toNat (wi ((u.length:Int)-1))) (zJ.mk U.From (wi (J.Len+1)))).length) 0 0 204 2 (vI.trans rfl).symm)<|
.k [] .z ((wi (z5+1)),(u.set (Int.toNat (wi ((u.length:Int)-1))) (zJ.mk U.From (wi (J.Len+1)))))) λα=>
.b (appI 16 u [(zJ.mk z5 1)]) λβ γ=>
.vv 22 (apg (c:=yH) (k:=2) (f:=hpA W) 0 γ (λ_=>rfl) (Nat.succ_pos _) [obG 0 yH u,obH (hpA W)])<|
.k [] .z ((wi (z5+1)),β)
def zDc(x3:zO)(p0:O)(W:Hp)(J:Int)(u:List zJ):TT (List zJ) [Int×(List zJ)]:=
.i 44 (decide (J<x3.n_)) (λh7=> .fR 26 (zGX p0 J W) λx8=>
.i 71 (!x8) (λδ=> .k [] .z ((wi (J+1)),u)) λδ=>
.j 115 (λU=>[(0,oA 8 p0),(3,.t (.view 0 0 204 2 u.length)),(4,iA J),(5,iA (u.length:Int)),(12,iA x3.n_),(13,iA J),(28,bA U),((OB+0),gbA yH u),kH W]) (λU=>zDh u J W U)<|
.i 96 (decide ((u.length:Int)>0)) (λβ=> .b (idx u (wi ((u.length:Int)-1))) λα I=>
.c 35 (idxV rfl I)<|
.o 37 (lldA (zTk (c:=yH) I) (fl_at2 (c:=yH) (k:=2) (q:=0) I rfl (λ_=>rfl)))<|
.b (idx u (wi ((u.length:Int)-1))) λγ Z=>
.c 41 (idxV rfl Z)<|
.o 43 (lldA (zTk (c:=yH) Z) (fl_at2 (c:=yH) (k:=2) (q:=1) Z rfl (λ_=>rfl)))<|
.k [] .z ((wi (α.From+γ.Len))==J)) λβ=>
.k [] .z false) λh7=>
.f 1 (frzG (c:=yH) (k:=2) 2 0 (y:=u) (λ_=>rfl) (f:=hpA W) [obG 0 yH u,obH (hpA W)])<|
.e u
def zGz(I:O)(W:Hp):TT (List zJ) []:=
.g 3 (.t (.view 0 0 204 2 0))<|
.p I (λu=> .t 28 6 (ptN 8 u)<|
.f 1 (frzN (c:=yH) (k:=2) 2 0 (y:=[]) (λ_=>rfl) (f:=hpA W) (n0:=0) (by first|rfl|(simp;done)) [obG 0 yH [],obH (hpA W)])<|
.e []) λZ u=>
.s 28 6 8 u<|
.s 40 9 8 u<|
.b (W.ge_sp Z) λJ U=>
.o 12 (ld (zIh U))<|
.l [] (λq=>[(0,oA 8 I),(3,.t (.view 0 0 204 2 q.2.length)),(12,iA J.n_),(13,iA q.1),((OB+0),gbA yH q.2),kH W]) (Int.toNat J.n_+1) (λq=>zDc J I W q.1 q.2) (0,[])
def zBY p0 W:=(zGz p0 W).q
theorem zKT p0 W:∀r,zBY p0 W=some r->FH 107 [oA 8 p0] [] [] (hpA W) (hpA W) (.t (.d (.seq 2 (List.map yH r)))):=zM mixed [0] Tryz.func107 _
def zJD(u:zJ)(Z:Nat)(W:Hp):TT Bool []:=
.b (W.ge_st Z) λJ I=>
.o 9 (ldS (zIs I))<|
.fA 10 (zBm J.geometry_) λU=>
.e (decide (u.From<U))
def zBN p0 c1 W:=(zJD p0 c1 W).q
theorem zHV p0 c1 W:∀r,zBN p0 c1 W=some r->FH 108 [.t (.agg [iD p0.From,iD p0.Len]),.imt [.opt 10 (some c1)]] [] [] (hpA W) (hpA W) (bA r):=zM mixed [] Tryz.func108 _
def zM3(p0:O)(W:Hp):TT (O×Int×Hp) []:=
.fH 11 (zNG p0 W) λI=>
.i 47 (I.2.1 !=0) (λh3=> .e (none,I.2.1,I.2.2)) λh3=>
.fR 18 (zAd p0 I.2.2) λx4=>
.fA 19 (zLK x4) λx6=>
let Z:qE:=(qE.mk x6 I.1);let w8:=(I.2.2.nw_st Z);.o 22 (nwW (fr_st I.2.2) (nw_st I.2.2 Z))<|
have U:w8.ge_st I.2.2.ln_st=some Z:=zSA;.o 26 (ldS (zIs U))<|
.fA 27 (zCF Z.geometry_) λγ=>
.i 90 (decide (γ<1)) (λα=> .e (none,11,w8)) λα=>
.fR 31 (zB1 I.1 w8) λι=>
.o 36 (ld (zIs U))<|
.i 116 (ι !=Z.geometry_.homes_) (λη=> .e (none,11,w8)) λη=>
.fH 41 (zBT (some I.2.2.ln_st) w8) λu=>
.i 137 (u.2.1 !=0) (λβ=> .e (none,u.2.1,u.2.2)) λβ=>
.p u.1 (λJ=> .t 192 47 (ptN 11 J)<|
.no) λζ J=>
.s 192 47 11 J<|
.b (u.2.2.ge_vw ζ) λθ μ=>
.o 50 (ld (zDA μ))<|
.f 46 (fzT 6)<|
.fR 52 (zKT θ.p_ u.2.2) λκ=>
.fR 54 (zGV u.2.2 κ 108 [[.opt 10 (some I.2.2.ln_st)]] (λa0=>zBN a0 I.2.2.ln_st u.2.2) (λa0 r h=>zHV a0 I.2.2.ln_st u.2.2 r h) ⟨⟨_,Tryz.func108,rfl,rfl⟩,rfl,rfl⟩) λδ=>
.i 164 δ (λε=> .e (none,11,u.2.2)) λε=>
.e ((some I.2.2.ln_st),0,u.2.2)
def zBU p0 W:=(zM3 p0 W).q
theorem zHK p0 W:∀r,zBU p0 W=some r->FH 29 [oA 1 p0] [] [] (hpA W) (hpA r.2.2) (.tup [.opt 10 r.1,iT r.2.1]):=zM mixed [] Tryz.func29 _
def zMk(Z U:Int)(W:Hp):TT (O×O×Hp) []:=
.fH 13 (zMw (wi (1041+Z)) W) λu=>
.fH 18 (zFh u.1 U u.2.2) λJ=>
.iF 59 (J.1 !=0) λh5=>
.fH 23 (zHK u.1 J.2) λI=>
.e (u.1,I.1,I.2.2)
def zHk(I u:Int)(W:Hp):Option (O×O×Hp):=(zMk I u W).run Env.nil
theorem zRr(I u:Int)(W:Hp):∀r,zHk I u W=some r->FH 35 [iA I,iA u] [] [] (hpA W) (hpA r.2.2) (.tup [.opt 1 r.1,.opt 10 r.2.1]):=zM mixed [] Tryz.func35 (zMk I u W) (by kernel_rfl)
def zQE(I J:Y)(u:Int):TT Bool [Int]:=
.ln 13 I cU8<|
.i 44 (decide (u<(I.length:Int))) (λh3=> .b (idx I u) λZ h5=>
.ix 19 cU8 h5<|
.b (idx J u) λx6 W=>
.ix 23 cU8 W<|
.i 77 ((Z.toNat:Int) !=(x6.toNat:Int)) (λU=> .e false) λU=>
.k [] .z (wi (u+1))) λh3=>
.e true
def zPO(u I:Y):TT Bool []:=
.ln 7 u cU8<|
.ln 9 I cU8<|
.i 32 ((u.length:Int) !=(I.length:Int)) (λU=> .e false) λU=>
.l [] (λJ=>[(0,yA u),(1,yA I),(5,iA J)]) (u.length+1) (λJ=>zQE u I J) 0
def zMM(I u:Y):Option Bool:=(zPO I u).run Env.nil
theorem zOK(I u:Y):∀r,zMM I u=some r->FP 39 [yA I,yA u] [] (bA r):=zAM mixed Tryz.func39 (zPO I u) (by kernel_rfl)
def zOF(W:Hp):TT (Bool×Hp) []:=
.fH 8 (zRr 30 1000 W) λx1=>
.fH 16 (zI2 x1.2.1 [(zQ.mk 2 [107] 0 [5])] x1.2.2) λx3=>
.fH 21 (zGJ x1.2.1 [107] x3.2.2) λu=>
.fA 24 (zH5 1100) λx7=>
.i 81 (x7==59) (λh9=> .i 93 (x3.2.1==0) (λJ=> .i 105 (u.2.1==0) (λα=> .i 117 (x3.1==1) (λZ=> .i 132 (u.1.Version==1) (λI=> .fA 47 (zOK u.1.Data [5]) λU=>
.e (U,u.2.2)) λI=> .no) λZ=> .no) λα=> .no) λJ=> .no) λh9=> .no
def zFJ W:=(zOF W).q
theorem zQD W:∀r,zFJ W=some r->FH 24 [] [] [] (hpA W) (hpA r.2) (bA r.1):=zM mixed [] Tryz.func24 _
def zPQ(u:Int):TT Int []:=
.i 21 (decide (u<1)) (λU=> .e 0) λU=>
.i 29 (decide (u>16384)) (λI=> .e 0) λI=>
.i 59 (decide ((wi ((wi (u-3))-(wi (2*(wi (513+(wi (Int.tdiv (wi (u+511)) 512))))))))<1)) (λZ=> .e 0) λZ=>
.i 83 (decide ((wi ((wi ((wi ((wi (u-3))-(wi (2*(wi (513+(wi (Int.tdiv (wi (u+511)) 512))))))))-5))-(wi (Int.tdiv (wi ((wi ((wi (u-3))-(wi (2*(wi (513+(wi (Int.tdiv (wi (u+511)) 512))))))))+511)) 512))))<0)) (λJ=> .e 0) λJ=>
.e (wi ((wi ((wi ((wi (u-3))-(wi (2*(wi (513+(wi (Int.tdiv (wi (u+511)) 512))))))))-5))-(wi (Int.tdiv (wi ((wi ((wi (u-3))-(wi (2*(wi (513+(wi (Int.tdiv (wi (u+511)) 512))))))))+511)) 512))))
def zEh p0:=(zPQ p0).q
theorem zIF p0:∀r,zEh p0=some r->FP 26 [iA p0] [] (iA r):=zAM mixed Tryz.func26 _
def zGy(p0:O)(W:Hp):TT (zGD×Int×Hp) []:=
.fH 8 (zBT p0 W) λu=>
.i 38 (u.2.1 !=0) (λh3=> .e ((zGD.mk 0 0 0 0 0 0 0),u.2.1,u.2.2)) λh3=>
.p u.1 (λI=> .t 64 15 (ptN 11 I)<|
.no) λi5 I=>
.s 64 15 11 I<|
.b (u.2.2.ge_vw i5) λU J=>
.o 19 (ld (zDA J))<|
.s 84 20 11 I<|
.o 24 (ld (zDA J))<|
.s 104 25 11 I<|
.o 29 (ld (zDA J))<|
.s 124 30 11 I<|
.o 34 (ld (zDA J))<|
.fR 36 (zGS u.1 u.2.2) λx8=>
.s 152 37 11 I<|
.o 40 (ld (zDA J))<|
.fR 41 (zFo U.p_ u.2.2) λZ=>
.s 172 42 11 I<|
.o 45 (ld (zDA J))<|
.fR 46 (zKq U.p_ u.2.2) λα=>
.e ((zGD.mk U.h_.count_ U.h_.keys_ U.h_.bytes_ U.h_.quota_ x8 Z α),0,u.2.2)
def zA3 p0 W:=(zGy p0 W).q
theorem zFq p0 W:∀r,zA3 p0 W=some r->FH 30 [oA 10 p0] [] [] (hpA W) (hpA r.2.2) (.tup [.agg [iD r.1.Count,iD r.1.Keys,iD r.1.Bytes,iD r.1.Quota,iD r.1.Used,iD r.1.Free,iD r.1.Top],iT r.2.1]):=zM mixed [] Tryz.func30 _
def zLV(u:Y):TT Bool []:=
.w 5 trivial (sneE u u)<|
.e (!(u==u))
def zLZ p0:=(zLV p0).q
theorem zGa p0:∀r,zLZ p0=some r->FP 300 [sA p0] [] (bA r):=zAM mixed Tryz.func300 _
def zFr(p0 u:Y):TT Int []:=
.fA 8 (zGa p0) λx1=>
.fA 10 (zGa u) λI=>
.i 35 x1 (λh5=> .i 38 I (λJ=> .e 0) λJ=>
.e (-1)) λh5=>
.i 41 I (λW=> .e 1) λW=>
.w 16 trivial (sltE p0 u)<|
.i 50 (sLt p0 u) (λZ=> .e (-1)) λZ=>
.w 19 trivial (sgtE p0 u)<|
.i 59 (!(sLt p0 u||p0==u)) (λU=> .e 1) λU=>
.e 0
def zKW(I u:Y):Option Int:=(zFr I u).run Env.nil
theorem zJX(I u:Y):∀r,zKW I u=some r->FP 224 [sA I,sA u] [] (iA r):=zAM mixed Tryz.func224 (zFr I u) (by kernel_rfl)
def zFn(J u:zC):TT Int []:=
.fA 9 (zJX J.Key u.Key) λI=>
.e I
def zD8(I u:zC):Option Int:=(zFn I u).run Env.nil
theorem zFU(I u:zC):∀r,zD8 I u=some r->FP 223 [.t (.agg [sD I.Key,iD I.Version,iD I.Len,iD I.First]),.t (.agg [sD u.Key,iD u.Version,iD u.Len,iD u.First])] [] (iA r):=zAM mixed Tryz.func223 (zFn I u) (by kernel_rfl)
def zAD(u:Int):TT Unit [Int]:=
.k [] .z (wi (u+1))
def zAB(I u:Int):TT Unit [Int,Unit,Int]:=
.iF 66 (decide (u>I)) λJ=>
.k [] (.s .z) ()
def zAA(p2 p1:Int)(F3:Nat)(C3:(List (List D)))(p3:(zC->zC->Option Int))(hp3:∀(a0 a1:zC) r,p3 a0 a1=some r->FP F3 ([.t (.agg [sD a0.Key,iD a0.Version,iD a0.Len,iD a0.First]),.t (.agg [sD a1.Key,iD a1.Version,iD a1.Len,iD a1.First])]++C3.map A.imm) [] (iA r))(hf3:∃fn,Tryz.prog.funcs[F3]? =some fn/\fn.body.isNone=false/\(fn.name== "runtime.NumGoroutine")=false)(z1:Int):TT Unit [Int]:=
.i 44 (decide (z1<p2)) (λh2=> .j 10 (λ_=>[(0,.t (nT)),(1,iA p1),(2,iA p2),(3,.t (.d (.clo F3 C3))),(8,iA z1),(22,.tup []),(23,.tup []),(24,.tup []),(25,.tup []),(26,.tup []),(27,.tup []),(28,.tup []),(29,.tup []),(30,.tup []),(31,.tup []),(32,.tup []),(33,.tup [])]) (λ_=>zAD z1)<|
.l [] (λz3=>[(0,.t (nT)),(1,iA p1),(2,iA p2),(3,.t (.d (.clo F3 C3))),(8,iA z1),(9,iA z3)]) (3) (λz3=>zAB p1 z3) z1) λh2=>
.e ()
def zAV(p1 p2:Int)(F3:Nat)(C3:List (List D))(p3:(zC->zC->Option Int))(hp3:∀(a0 a1:zC) r,p3 a0 a1=some r->FP F3 ([.t (.agg [sD a0.Key,iD a0.Version,iD a0.Len,iD a0.First]),.t (.agg [sD a1.Key,iD a1.Version,iD a1.Len,iD a1.First])]++C3.map A.imm) [] (iA r))(hf3:∃fn,Tryz.prog.funcs[F3]? =some fn/\fn.body.isNone=false/\(fn.name== "runtime.NumGoroutine")=false):TT Unit []:=
.l [] (λz1=>[(0,.t (nT)),(1,iA p1),(2,iA p2),(3,.t (.d (.clo F3 C3))),(8,iA z1)]) (3) (λz1=>zAA p2 p1 F3 C3 p3 hp3 hf3 z1) (wi (p1+1))
def qM(p1 p2:Int)(F3:Nat)(C3:List (List D))(p3:(zC->zC->Option Int))(hp3:∀(a0 a1:zC) r,p3 a0 a1=some r->FP F3 ([.t (.agg [sD a0.Key,iD a0.Version,iD a0.Len,iD a0.First]),.t (.agg [sD a1.Key,iD a1.Version,iD a1.Len,iD a1.First])]++C3.map A.imm) [] (iA r))(hf3:∃fn,Tryz.prog.funcs[F3]? =some fn/\fn.body.isNone=false/\(fn.name== "runtime.NumGoroutine")=false):Option Unit:=(zAV p1 p2 F3 C3 p3 hp3 hf3).run Env.nil
theorem zBR(p1 p2:Int)(F3:Nat)(C3:List (List D))(p3:(zC->zC->Option Int))(hp3:∀(a0 a1:zC) r,p3 a0 a1=some r->FP F3 ([.t (.agg [sD a0.Key,iD a0.Version,iD a0.Len,iD a0.First]),.t (.agg [sD a1.Key,iD a1.Version,iD a1.Len,iD a1.First])]++C3.map A.imm) [] (iA r))(hf3:∃fn,Tryz.prog.funcs[F3]? =some fn/\fn.body.isNone=false/\(fn.name== "runtime.NumGoroutine")=false):∀r,qM p1 p2 F3 C3 p3 hp3 hf3=some r->FP 338 [.t (nT),iA p1,iA p2,.t (.d (.clo F3 C3))] [] (.tup []):=zAM mixed Tryz.func338 (zAV p1 p2 F3 C3 p3 hp3 hf3) (by kernel_rfl)
def zAv(u J I:Int):TT Unit [Int]:=
.iF 164 (decide ((wi (I+u))<J)) λU=>
.k [] .z (wi (u*2))
def zAz(J U I:Int):TT Unit [Int×Int,Int,Int]:=
.iF 107 (decide (I<=J)) λu=>
.k [] (.s .z) U
def zA0(p1:Int)(F2:Nat)(C2:(List (List D)))(p2:(zC->zC->Option Int))(hp2:∀(a0 a1:zC) r,p2 a0 a1=some r->FP F2 ([.t (.agg [sD a0.Key,iD a0.Version,iD a0.Len,iD a0.First]),.t (.agg [sD a1.Key,iD a1.Version,iD a1.Len,iD a1.First])]++C2.map A.imm) [] (iA r))(hf2:∃fn,Tryz.prog.funcs[F2]? =some fn/\fn.body.isNone=false/\(fn.name== "runtime.NumGoroutine")=false)(z4:Int):TT Unit [Int]:=
.i 92 (decide (z4<p1)) (λh5=> .j 54 (λy6=>[(0,.t (nT)),(1,iA p1),(2,.t (.d (.clo F2 C2))),(6,iA z4),(7,iA y6)]) (λy6=>zAv z4 p1 y6)<|
.l [] (λq=>[(0,.t (nT)),(1,iA p1),(2,.t (.d (.clo F2 C2))),(6,iA z4),(7,iA q.1),(8,iA q.2)]) (3) (λq=>zAz p1 q.1 q.2) (0,(wi (2*z4)))) λh5=>
.e ()
def zAw(p1:Int)(F2:Nat)(C2:(List (List D)))(p2:(zC->zC->Option Int))(hp2:∀(a0 a1:zC) r,p2 a0 a1=some r->FP F2 ([.t (.agg [sD a0.Key,iD a0.Version,iD a0.Len,iD a0.First]),.t (.agg [sD a1.Key,iD a1.Version,iD a1.Len,iD a1.First])]++C2.map A.imm) [] (iA r))(hf2:∃fn,Tryz.prog.funcs[F2]? =some fn/\fn.body.isNone=false/\(fn.name== "runtime.NumGoroutine")=false)(y1:Int):TT Unit []:=
.fA 27 (zBR y1 p1 F2 C2 p2 hp2 hf2) λx2=>
.l [] (λz4=>[(0,.t (nT)),(1,iA p1),(2,.t (.d (.clo F2 C2))),(6,iA z4)]) (3) (λz4=>zA0 p1 F2 C2 p2 hp2 hf2 z4) 20
def zAy(p1:Int)(F2:Nat)(C2:(List (List D)))(p2:(zC->zC->Option Int))(hp2:∀(a0 a1:zC) r,p2 a0 a1=some r->FP F2 ([.t (.agg [sD a0.Key,iD a0.Version,iD a0.Len,iD a0.First]),.t (.agg [sD a1.Key,iD a1.Version,iD a1.Len,iD a1.First])]++C2.map A.imm) [] (iA r))(hf2:∃fn,Tryz.prog.funcs[F2]? =some fn/\fn.body.isNone=false/\(fn.name== "runtime.NumGoroutine")=false)(z11 z12:Int):TT Unit [Int×Int,Int]:=
.i 41 (decide (z12<=p1)) (λh13=> .fA 18 (zBR z11 z12 F2 C2 p2 hp2 hf2) λx14=>
.k [] .z (z12,(wi (z12+20)))) λh13=>
.k [] (.s .z) z11
def zCm(p1:Int)(F2:Nat)(C2:List (List D))(p2:(zC->zC->Option Int))(hp2:∀(a0 a1:zC) r,p2 a0 a1=some r->FP F2 ([.t (.agg [sD a0.Key,iD a0.Version,iD a0.Len,iD a0.First]),.t (.agg [sD a1.Key,iD a1.Version,iD a1.Len,iD a1.First])]++C2.map A.imm) [] (iA r))(hf2:∃fn,Tryz.prog.funcs[F2]? =some fn/\fn.body.isNone=false/\(fn.name== "runtime.NumGoroutine")=false):TT Unit []:=
.j 26 (λy1=>[(0,.t (nT)),(1,iA p1),(2,.t (.d (.clo F2 C2))),(6,iA 20),(7,iA y1)]) (λy1=>zAw p1 F2 C2 p2 hp2 hf2 y1)<|
.l [] (λq=>[(0,.t (nT)),(1,iA p1),(2,.t (.d (.clo F2 C2))),(6,iA 20),(7,iA q.1),(8,iA q.2)]) (3) (λq=>zAy p1 F2 C2 p2 hp2 hf2 q.1 q.2) (0,20)
def zAZ p1 F2 C2 p2 hp2 hf2:=(zCm p1 F2 C2 p2 hp2 hf2).q
theorem zE3 p1 F2 C2 p2 hp2 hf2:∀r,zAZ p1 F2 C2 p2 hp2 hf2=some r->FP 299 [.t (nT),iA p1,.t (.d (.clo F2 C2))] [] (.tup []):=zAM mixed Tryz.func299 _
def zCg(F1:Nat)(C1:List (List D))(p1:(zC->zC->Option Int))(hp1:∀(a0 a1:zC) r,p1 a0 a1=some r->FP F1 ([.t (.agg [sD a0.Key,iD a0.Version,iD a0.Len,iD a0.First]),.t (.agg [sD a1.Key,iD a1.Version,iD a1.Len,iD a1.First])]++C1.map A.imm) [] (iA r))(hf1:∃fn,Tryz.prog.funcs[F1]? =some fn/\fn.body.isNone=false/\(fn.name== "runtime.NumGoroutine")=false):TT Unit []:=
.fA 8 (zE3 0 F1 C1 p1 hp1 hf1) λx1=>
.e ()
def zAI F1 C1 p1 hp1 hf1:=(zCg F1 C1 p1 hp1 hf1).q
theorem zEs F1 C1 p1 hp1 hf1:∀r,zAI F1 C1 p1 hp1 hf1=some r->FP 222 [.t (nT),.t (.d (.clo F1 C1))] [] (.tup []):=zAM mixed Tryz.func222 _
def zD9:TT ((List zC)×Int) [Unit]:=
.fA 27 (zEs 223 [] zD8 zFU ⟨_,Tryz.func223,rfl,rfl⟩) λu=>
.e ([],0)
def zED(J:O)(W:Hp)(u:Int):TT ((List zC)×Int) [Int,Unit,Unit]:=
.i 35 (decide (u<64)) (λU=> .fR 17 (zFp J u 221 [[nD]] (λ_ _=>none) (λ_ _ _ h=>none_ne h) ⟨_,Tryz.func221,rfl,rfl⟩ W) λI=>
.i 71 (I.2.2.2==35) (λZ=> .k [] .z (wi (u+1))) λZ=>
.e ([],I.2.2.2)) λU=>
.k [] (.s .z) ()
def zEB(W:Hp)(I:O):TT ((List zC)×Int) [Unit]:=
.j 38 (λ_=>[(4,.imm [nD]),kH W]) (λ_=>zD9)<|
.f 10 (fzV 4)<|
.l [] (λu=>[(0,oA 7 I),(4,.imm [nD]),(10,iA u),kH W]) (Int.toNat 64+1) (λu=>zED I W u) 0
def zHd(u:O)(W:Hp):TT ((List zC)×Int) []:=
.l [] (λ_=>[(0,oA 7 u),(4,.box [nT]),kH W]) (2) (λ_=>zEB W u) ()
def zB2 p0 W:=(zHd p0 W).q
theorem zKy p0 W:∀r,zB2 p0 W=some r->FH 123 [oA 7 p0] [] [] (hpA W) (hpA W) (.tup [nT,iT r.2]):=zM mixed [] Tryz.func123 _
def zDo(I:(O×Int×Hp))(u:List Y):TT ((List Y)×Int×Hp) []:=
.y 47 true<|
.y 4 true<|
.e (u,0,I.2.2)
def zDm(u:List Y)(I:Int):TT ((List Y)×Int×Hp) [(List Y)×Int,(List Y)]:=
.iF 104 (decide (I<0)) λJ=>
.k [] (.s .z) u
def zG1(p0:O)(p1:Y)(W:Hp):TT ((List Y)×Int×Hp) []:=
.fH 14 (zBT p0 W) λu=>
.i 56 (u.2.1 !=0) (λh3=> .e ([],u.2.1,u.2.2)) λh3=>
.p u.1 (λU=> .t 88 21 (ptN 11 U)<|
.no) λi5 U=>
.s 88 21 11 U<|
.b (u.2.2.ge_vw i5) λx6 h7=>
.o 24 (ld (zDA h7))<|
.fR 25 (zKy x6.x_ u.2.2) λZ=>
.i 89 (Z.2 !=0) (λJ=> .e ([],Z.2,u.2.2)) λJ=>
.j 58 (λI=>[(9,.t (.own 9 1 (List.map cStr I))),kH u.2.2]) (λI=>zDo u I)<|
.l [9] (λq=>[(1,sA p1),(9,.t (.own 9 1 (List.map cStr q.1))),(31,.t (nT)),(32,iA 0),(33,iA q.2),kH u.2.2]) (Int.toNat 0+1) (λq=>zDm q.1 q.2) ([],0)
def zCX p0 p1 W:=(zG1 p0 p1 W).q
theorem zKG p0 p1 W:∀r,zCX p0 p1 W=some r->FH 38 [oA 10 p0,sA p1] [] [] (hpA W) (hpA r.2.2) (.tup [.d (.seq 1 (List.map cStr r.1)),iT r.2.1]):=zM mixed [] Tryz.func38 _
def zHB(I Z:List Y)(u:Int):TT Bool [Int]:=
.i 44 (decide (u<(I.length:Int))) (λh3=> .b (idx I u) λJ h5=>
.ix 18 cStr h5<|
.b (idx Z u) λU h7=>
.ix 22 cStr h7<|
.w 24 trivial (sneE J U)<|
.i 74 (!(J==U)) (λW=> .e false) λW=>
.k [] .z (wi (u+1))) λh3=>
.e true
def zLJ(u I:List Y):TT Bool []:=
.ln 7 u cStr<|
.ln 9 I cStr<|
.i 32 ((u.length:Int) !=(I.length:Int)) (λU=> .e false) λU=>
.ln 12 u cStr<|
.l [] (λJ=>[(0,.t (.d (.seq 1 (List.map cStr u)))),(1,.t (.d (.seq 1 (List.map cStr I)))),(12,iA (u.length:Int)),(13,iA J)]) (u.length+1) (λJ=>zHB u I J) 0
def zIP(I u:List Y):Option Bool:=(zLJ I u).run Env.nil
theorem zRY(I u:List Y):∀r,zIP I u=some r->FP 112 [.t (.d (.seq 1 (List.map cStr I))),.t (.d (.seq 1 (List.map cStr u)))] [] (bA r):=zAM mixed Tryz.func112 (zLJ I u) (by kernel_rfl)
def zEK(I:yI)(J u:Int):TT Int [Int×Int]:=
.ln 10 I.Blobs zBF<|
.i 35 (decide (u<(I.Blobs.length:Int))) (λW=> .b (idx I.Blobs u) λU Z=>
.ix 20 zBF Z<|
.ln 23 U.Data cU8<|
.k [] .z ((wi (J+(U.Data.length:Int))),(wi (u+1)))) λW=>
.e J
def zHR(u:yI):TT Int []:=
.l [] (λq=>[(0,.imm [.seq 1 (List.map cStr u.Keys),.seq 2 (List.map zBF u.Blobs),iD u.Count,iD u.Quota,iD u.Room]),(3,iA q.1),(4,iA q.2)]) (u.Blobs.length+1) (λq=>zEK u q.1 q.2) (0,0)
def zCn p0:=(zHR p0).q
theorem zL9 p0:∀r,zCn p0=some r->FP 113 [.imm [.seq 1 (List.map cStr p0.Keys),.seq 2 (List.map zBF p0.Blobs),iD p0.Count,iD p0.Quota,iD p0.Room]] [] (iA r):=zAM mixed Tryz.func113 _
def zOp(u I:Int):TT Int [Int×Int]:=
.i 17 (decide (u>0)) (λJ=> .k [] .z ((wi (u-60)),(wi (I+1)))) λJ=>
.e I
def zSV(u:Int):TT Int []:=
.l [] (λq=>[(0,iA q.1),(3,iA q.2)]) (Int.toNat u+1) (λq=>zOp q.1 q.2) (u,0)
def zOh p0:=(zSV p0).q
theorem zRp p0:∀r,zOh p0=some r->FP 210 [iA p0] [] (iA r):=zAM mixed Tryz.func210 _
def zEb(I:yI)(J u:Int):TT Int [Int×Int]:=
.ln 10 I.Blobs zBF<|
.i 35 (decide (u<(I.Blobs.length:Int))) (λh3=> .b (idx I.Blobs u) λU Z=>
.ix 21 zBF Z<|
.ln 24 U.Data cU8<|
.fA 25 (zRp (U.Data.length:Int)) λW=>
.k [] .z ((wi ((wi (J+1))+W)),(wi (u+1)))) λh3=>
.e J
def zIX(u:yI):TT Int []:=
.l [] (λq=>[(0,.imm [.seq 1 (List.map cStr u.Keys),.seq 2 (List.map zBF u.Blobs),iD u.Count,iD u.Quota,iD u.Room]),(3,iA q.1),(4,iA q.2)]) (u.Blobs.length+1) (λq=>zEb u q.1 q.2) (0,0)
def zCN p0:=(zIX p0).q
theorem zHl p0:∀r,zCN p0=some r->FP 114 [.imm [.seq 1 (List.map cStr p0.Keys),.seq 2 (List.map zBF p0.Blobs),iD p0.Count,iD p0.Quota,iD p0.Room]] [] (iA r):=zAM mixed Tryz.func114 _
def zHG(p0:O)(I:yI)(y7:Hp):TT (Bool×Hp) []:=
.fH 76 (zFq p0 y7) λu=>
.i 246 (u.2.1==0) (λZ=> .i 273 (u.1.Count==I.Count) (λδ=> .ln 97 I.Keys cStr<|
.i 303 (u.1.Keys==(I.Keys.length:Int)) (λW=> .fA 104 (zL9 I) λγ=>
.i 324 (u.1.Bytes==γ) (λα=> .i 351 (u.1.Quota==I.Quota) (λε=> .fA 120 (zHl I) λβ=>
.i 372 (u.1.Used==β) (λU=> .fA 131 (zHl I) λJ=>
.e ((u.1.Free==(wi (I.Room-J))),u.2.2)) λU=>
.e (false,u.2.2)) λε=>
.e (false,u.2.2)) λα=>
.e (false,u.2.2)) λW=>
.e (false,u.2.2)) λδ=>
.e (false,u.2.2)) λZ=>
.e (false,u.2.2)
def zHH(U:yI)(p0:O)(I:Int)(J:Hp):TT (Bool×Hp) [Int×Hp,Hp]:=
.i 104 (decide (I<(U.Keys.length:Int))) (λε=> .b (idx U.Keys I) λα Z=>
.ix 36 cStr Z<|
.fH 41 (zGJ p0 α J) λu=>
.i 141 (u.2.1 !=0) (λW=> .e (false,u.2.2)) λW=>
.b (idx U.Blobs I) λζ β=>
.ix 54 zBF β<|
.i 180 (u.1.Version !=ζ.Version) (λη=> .e (false,u.2.2)) λη=>
.b (idx U.Blobs I) λι γ=>
.ix 67 zBF γ<|
.fA 70 (zOK u.1.Data ι.Data) λθ=>
.i 218 (!θ) (λδ=> .e (false,u.2.2)) λδ=>
.k [] .z ((wi (I+1)),u.2.2)) λε=>
.k [] (.s .z) J
def zOB(I:O)(u:yI)(W:Hp):TT (Bool×Hp) []:=
.fH 14 (zKG I [] W) λJ=>
.i 60 (J.2.1 !=0) (λh3=> .e (false,J.2.2)) λh3=>
.fA 25 (zRY J.1 u.Keys) λx4=>
.i 83 (!x4) (λZ=> .e (false,J.2.2)) λZ=>
.j 46 (λU=>[(0,oA 10 I),(1,.imm [.seq 1 (List.map cStr u.Keys),.seq 2 (List.map zBF u.Blobs),iD u.Count,iD u.Quota,iD u.Room]),kH U]) (λU=>zHG I u U)<|
.ln 32 u.Keys cStr<|
.l [] (λq=>[(0,oA 10 I),(1,.imm [.seq 1 (List.map cStr u.Keys),.seq 2 (List.map zBF u.Blobs),iD u.Count,iD u.Quota,iD u.Room]),(31,.t (.d (.seq 1 (List.map cStr u.Keys)))),(32,iA (u.Keys.length:Int)),(33,iA q.1),kH q.2]) (u.Keys.length+1) (λq=>zHH u I q.1 q.2) (0,J.2.2)
def zFF p0 p1 W:=(zOB p0 p1 W).q
theorem zP4 p0 p1 W:∀r,zFF p0 p1 W=some r->FH 31 [oA 10 p0,.imm [.seq 1 (List.map cStr p1.Keys),.seq 2 (List.map zBF p1.Blobs),iD p1.Count,iD p1.Quota,iD p1.Room]] [] [] (hpA W) (hpA r.2) (bA r.1):=zM mixed [] Tryz.func31 _
def zEz(W:(O×Int×Hp))(J:(Int×Hp))(p2 p1:Int)(ζ:Bool):TT (Bool×Hp) []:=
.i 152 ζ (λι=> .fH 53 (zHK W.1 J.2) λZ=>
.i 177 (J.1==2) (λγ=> .e ((Z.2.1==11),Z.2.2)) λγ=>
.e (false,Z.2.2)) λι=>
.fH 64 (zHK W.1 J.2) λI=>
.fH 69 (zFq I.1 I.2.2) λu=>
.i 225 (J.1==0) (λη=> .i 237 (I.2.1==0) (λδ=> .i 249 (u.2.1==0) (λε=> .fA 86 (zIF (wi ((wi (Int.tmod p2 2000))+1))) λα=>
.o 90 (eqr false (b':=((u.1.Count==0)&&((u.1.Keys==0)&&((u.1.Bytes==0)&&((u.1.Quota==p1)&&((u.1.Used==0)&&((u.1.Free==α)&&((u.1.Top==u.1.Top)&&true)))))))) (andE rfl (andE rfl (andE rfl (andE rfl (andE rfl (andE rfl (andE rfl rfl))))))))<|
.i 279 ((u.1.Count==0)&&((u.1.Keys==0)&&((u.1.Bytes==0)&&((u.1.Quota==p1)&&((u.1.Used==0)&&((u.1.Free==α)&&((u.1.Top==u.1.Top)&&true))))))) (λθ=> .fA 96 (zIF (wi ((wi (Int.tmod p2 2000))+1))) λU=>
.o 98 (boxI (l:=[nD,nD,iD 0,iD p1,iD U]) (l':=[.seq 1 [],.seq 2 [],iD 0,iD p1,iD U]) (.cons (.nil _) (.cons (.nil _) (.cons .r (.cons .r (.cons .r .nil))))))<|
.fH 99 (zP4 I.1 (yI.mk [] [] 0 p1 U) u.2.2) λβ=>
.e (β.1,β.2)) λθ=>
.e (false,u.2.2)) λε=>
.e (false,u.2.2)) λδ=>
.e (false,u.2.2)) λη=>
.e (false,u.2.2)
def zGI(p0 U Z:Int)(W:Hp):TT (Bool×Hp) []:=
.fH 17 (zQD W) λx1=>
.i 56 (!x1.1) (λh3=> .e (false,x1.2)) λh3=>
.fA 20 (zH5 p0) λx4=>
.fA 22 (zIF p0) λx6=>
.i 75 (x4 !=x6) (λh8=> .e (false,x1.2)) λh8=>
.fH 25 (zFh none 5 x1.2) λx9=>
.i 83 (x9.1 !=1) (λγ=> .e (false,x9.2)) λγ=>
.fH 34 (zMw (wi ((wi (Int.tmod Z 2000))+1)) x9.2) λu=>
.fH 39 (zFh u.1 U u.2.2) λI=>
.j 203 (λJ=>[(1,iA U),(7,iA (wi ((wi (Int.tmod Z 2000))+1))),(8,oA 1 u.1),(10,iA I.1),(50,bA J),kH I.2]) (λJ=>zEz u I Z U J)<|
.fA 41 (zIF (wi ((wi (Int.tmod Z 2000))+1))) λδ=>
.i 132 (decide (δ<1)) (λβ=> .k [] .z true) λβ=>
.i 144 (decide (U<0)) (λα=> .k [] .z true) λα=>
.k [] .z (decide (U>2305843009213693952))
def zCk(J u I:Int)(W:Hp):Option (Bool×Hp):=(zGI J u I W).run Env.nil
theorem zMt(J u I:Int)(W:Hp):∀r,zCk J u I W=some r->FH 4 [iA J,iA u,.t (.d (.lit (.int .u16 I)))] [] [] (hpA W) (hpA r.2) (bA r.1):=zM mixed [] Tryz.func4 (zGI J u I W) (by kernel_rfl)
end
end Go.Proofs.YtocolhfjpadaoaaGreatDoor
