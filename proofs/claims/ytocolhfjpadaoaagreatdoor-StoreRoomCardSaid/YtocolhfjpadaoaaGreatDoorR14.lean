/-
  Lemmas of this claim, joined.
-/
import Derived.Test.YtocolhfjpadaoaaGreatDoorR13
set_option linter.unusedVariables false
set_option linter.unusedSimpArgs false
set_option linter.constructorNameAsVariable false
namespace Go.Proofs.YtocolhfjpadaoaaGreatDoor
open Go Go.RowKit
variable {P:Program}{w0:World}{w:World}{m0:Mem}{m:Mem}{o0:OwnM}{o:OwnM}{G:GD}{pins:List Nat}{N:Nat}{a:Act}{op:Oper}{S:Nat->A}{M:Nat->A}{L:SL}{v:Value}{W:World}{Q:Mem}{X:OwnM}
set_option maxRecDepth 20000
noncomputable section
def yQ(Z:List zJ)(W:Hp)(F1:Nat)(C1:(List (List T)))(I:(zJ->Option Bool))(U:∀(J:zJ) r,I J=some r->FH F1 ([.t (.agg [iD J.From,iD J.Len])]++C1.map A.imt) [] [] (hpA W) (hpA W) (bA r))(α:FnH Tryz.prog F1 C1 1):Nat->Int->Option Int
 |0,_=>none
 |n0+1,u=>
  bif (decide (u<(Z.length:Int)))then((idx Z u).bind λx3=>
  (I x3).bind λx5=>
  bif x5 then(some u)else
  yQ Z W F1 C1 I U α n0 (wi (u+1)))else
  some (-1)
theorem zHJ(Z:List zJ)(W:Hp)(F1:Nat)(C1:(List (List T)))(J:(zJ->Option Bool))(u:∀(U:zJ) r,J U=some r->FH F1 ([.t (.agg [iD U.From,iD U.Len])]++C1.map A.imt) [] [] (hpA W) (hpA W) (bA r))(I:FnH Tryz.prog F1 C1 1):∀n q,lpn (λk (q:Int)=>(zCd Z W F1 C1 J u I q).run (Env.nil.cons k)) n q=yQ Z W F1 C1 J u I n q:=zAl (g:=λn (q:Int)=>yQ Z W F1 C1 J u I n q) (λ_=>rfl) λn q=>by simp only[zCd,rn]<;>rfl
theorem zIn(W:Hp)(Z:List zJ)(F1:Nat)(C1:List (List T))(J:(zJ->Option Bool))(u:∀(U:zJ) r,J U=some r->FH F1 ([.t (.agg [iD U.From,iD U.Len])]++C1.map A.imt) [] [] (hpA W) (hpA W) (bA r))(I:FnH Tryz.prog F1 C1 1):zBC W Z F1 C1 J u I=
yQ Z W F1 C1 J u I (Z.length+1) 0:=by simp only[zBC,zDP,rn,zHJ]<;>rfl
theorem zHC(W:Hp)(Z:List zJ)(F1:Nat)(C1:List (List T))(J:(zJ->Option Bool))(u:∀(U:zJ) r,J U=some r->FH F1 ([.t (.agg [iD U.From,iD U.Len])]++C1.map A.imt) [] [] (hpA W) (hpA W) (bA r))(I:FnH Tryz.prog F1 C1 1):yR W Z F1 C1 J u I=
(zBC W Z F1 C1 J u I).bind λx1=>
some (decide (x1>=0)):=by simp only[yR,zCf,rn]<;>rfl
def zCU(k0:(Int×(List zJ))->Option (List zJ))(u:List zJ)(Z:Int)(W:Hp)(α:Bool):Option (List zJ):=
bif α then((idx u (wi ((u.length:Int)-1))).bind λU=>
(idx u (wi ((u.length:Int)-1))).bind λI=>
k0 ((wi (Z+1)),(u.set (Int.toNat (wi ((u.length:Int)-1))) (zJ.mk I.From (wi (U.Len+1))))))else
(appI 16 u [(zJ.mk Z 1)]).bind λJ=>
k0 ((wi (Z+1)),J)
theorem zJx(U:(Int×(List zJ))->Option (List zJ))(J:List zJ)(I:Int)(W:Hp)(u:Bool):(zDh J I W u).run (Env.nil.cons U)=zCU U J I W u:=by simp only[zDh,rn]<;>rfl
def qC(U:zO)(J:O)(W:Hp):Nat->Int->List zJ->Option (List zJ)
 |0,_,_=>none
 |n0+1,I,u=>
  bif (decide (I<U.n_))then((zAo J I W).bind λx8=>
  bif (!x8)then(qC U J W n0 (wi (I+1)) u)else
  bif (decide ((u.length:Int)>0))then((idx u (wi ((u.length:Int)-1))).bind λZ=>
  (idx u (wi ((u.length:Int)-1))).bind λα=>
  zCU (λq=>qC U J W n0 q.1 q.2) u I W ((wi (Z.From+α.Len))==I))else
  zCU (λq=>qC U J W n0 q.1 q.2) u I W false)else
  some u
theorem zJs(u:zO)(I:O)(W:Hp):∀n q,lpn (λk (q:Int×(List zJ))=>(zDc u I W q.1 q.2).run (Env.nil.cons k)) n q=qC u I W n q.1 q.2:=zAl (g:=λn (q:Int×(List zJ))=>qC u I W n q.1 q.2) (λ_=>rfl) λn q=>by simp only[zDc,rn,zJx]<;>rfl
theorem zML(u:O)(W:Hp):zBY u W=
ptM u (some []) λJ=>
(W.ge_sp J).bind λI=>
qC I u W (Int.toNat I.n_+1) 0 []:=by simp only[zBY,zGz,rn,zJs]<;>rfl
theorem zN7(I:zJ)(u:Nat)(W:Hp):zBN I u W=
(W.ge_st u).bind λJ=>
(zY J.geometry_).bind λU=>
some (decide (I.From<U)):=by simp only[zBN,zJD,rn]<;>rfl
theorem zNH(p0:O)(W:Hp):zBU p0 W=
(zCQ p0 W).bind λI=>
bif (I.2.1 !=0)then(some (none,I.2.1,I.2.2))else
(qH p0 I.2.2).bind λx4=>
(zEi x4).bind λx6=>
let x9:qE:=(qE.mk x6 I.1);let J:=(I.2.2.nw_st x9);(yB x9.geometry_).bind λα=>
bif (decide (α<1))then(some (none,11,J))else
(yO I.1 J).bind λγ=>
bif (γ !=x9.geometry_.homes_)then(some (none,11,J))else
(zAK (some I.2.2.ln_st) J).bind λu=>
bif (u.2.1 !=0)then(some (none,u.2.1,u.2.2))else
ptM u.1 (none) λε=>
(u.2.2.ge_vw ε).bind λβ=>
(zBY β.p_ u.2.2).bind λδ=>
(yR u.2.2 δ 108 [[.opt 10 (some I.2.2.ln_st)]] (λU=>zBN U I.2.2.ln_st u.2.2) (λU r h=>zHV U I.2.2.ln_st u.2.2 r h) ⟨⟨_,Tryz.func108,rfl,rfl⟩,rfl,rfl⟩).bind λZ=>
bif Z then(some (none,11,u.2.2))else
some ((some I.2.2.ln_st),0,u.2.2):=by simp only[zBU,zM3,rn]<;>rfl
theorem zUF(u:Int):zEh u=
bif (decide (u<1))then(some 0)else
bif (decide (u>16384))then(some 0)else
bif (decide ((wi ((wi (u-3))-(wi (2*(wi (513+(wi (Int.tdiv (wi (u+511)) 512))))))))<1))then(some 0)else
bif (decide ((wi ((wi ((wi ((wi (u-3))-(wi (2*(wi (513+(wi (Int.tdiv (wi (u+511)) 512))))))))-5))-(wi (Int.tdiv (wi ((wi ((wi (u-3))-(wi (2*(wi (513+(wi (Int.tdiv (wi (u+511)) 512))))))))+511)) 512))))<0))then(some 0)else
some (wi ((wi ((wi ((wi (u-3))-(wi (2*(wi (513+(wi (Int.tdiv (wi (u+511)) 512))))))))-5))-(wi (Int.tdiv (wi ((wi ((wi (u-3))-(wi (2*(wi (513+(wi (Int.tdiv (wi (u+511)) 512))))))))+511)) 512)))):=by simp only[zEh,zPQ,rn]<;>rfl
theorem zLu(Z:O)(W:Hp):zA3 Z W=
(zAK Z W).bind λu=>
bif (u.2.1 !=0)then(some ((zGD.mk 0 0 0 0 0 0 0),u.2.1,u.2.2))else
ptM u.1 (none) λi5=>
(u.2.2.ge_vw i5).bind λI=>
(zBw u.1 u.2.2).bind λx8=>
(zAb I.p_ u.2.2).bind λJ=>
(zBt I.p_ u.2.2).bind λU=>
some ((zGD.mk I.h_.count_ I.h_.keys_ I.h_.bytes_ I.h_.quota_ x8 J U),0,u.2.2):=by simp only[zA3,zGy,rn]<;>rfl
def zBB(I:Int->Option Unit)(u:Int):Option Unit:=
I (wi (u+1))
theorem zDO(I:Int->Option Unit)(u:Int):(zAD u).run (Env.nil.cons I)=zBB I u:=by simp only[zAD,rn]<;>rfl
def zAE(k1:Unit->Option Unit)(I:Int):Nat->Int->Option Unit
 |0,_=>none
 |n0+1,u=>
  bif (decide (u>I))then(none)else
  k1 ()
theorem zDJ(k1:Unit->Option Unit)(k2:Int->Option Unit)(u:Int):∀n q,lpn (λk (q:Int)=>(zAB u q).run (((Env.nil.cons k2).cons k1).cons k)) n q=zAE k1 u n q:=zAl (g:=λn (q:Int)=>zAE k1 u n q) (λ_=>rfl) λn q=>by simp only[zAB,rn]<;>rfl
def qY(p2:Int)(p1:Int)(F3:Nat)(C3:(List (List D)))(p3:(zC->zC->Option Int))(hp3:∀(a0 a1:zC) r,p3 a0 a1=some r->FP F3 ([.t (.agg [sD a0.Key,iD a0.Version,iD a0.Len,iD a0.First]),.t (.agg [sD a1.Key,iD a1.Version,iD a1.Len,iD a1.First])]++C3.map A.imm) [] (iA r))(hf3:∃fn,Tryz.prog.funcs[F3]? =some fn/\fn.body.isNone=false/\(fn.name== "runtime.NumGoroutine")=false):Nat->Int->Option Unit
 |0,_=>none
 |n0+1,z1=>
  bif (decide (z1<p2))then(zAE (λq=>zBB (λq=>qY p2 p1 F3 C3 p3 hp3 hf3 n0 q) z1) p1 (3) z1)else
  some ()
theorem zDM(p2:Int)(p1:Int)(F3:Nat)(C3:(List (List D)))(p3:(zC->zC->Option Int))(hp3:∀(a0 a1:zC) r,p3 a0 a1=some r->FP F3 ([.t (.agg [sD a0.Key,iD a0.Version,iD a0.Len,iD a0.First]),.t (.agg [sD a1.Key,iD a1.Version,iD a1.Len,iD a1.First])]++C3.map A.imm) [] (iA r))(hf3:∃fn,Tryz.prog.funcs[F3]? =some fn/\fn.body.isNone=false/\(fn.name== "runtime.NumGoroutine")=false):∀n q,lpn (λk (q:Int)=>(zAA p2 p1 F3 C3 p3 hp3 hf3 q).run (Env.nil.cons k)) n q=qY p2 p1 F3 C3 p3 hp3 hf3 n q:=zAl (g:=λn (q:Int)=>qY p2 p1 F3 C3 p3 hp3 hf3 n q) (λ_=>rfl) λn q=>by simp only[zAA,rn,zDO,zDJ]<;>rfl
theorem zDx(p1:Int)(p2:Int)(F3:Nat)(C3:List (List D))(p3:(zC->zC->Option Int))(hp3:∀(a0 a1:zC) r,p3 a0 a1=some r->FP F3 ([.t (.agg [sD a0.Key,iD a0.Version,iD a0.Len,iD a0.First]),.t (.agg [sD a1.Key,iD a1.Version,iD a1.Len,iD a1.First])]++C3.map A.imm) [] (iA r))(hf3:∃fn,Tryz.prog.funcs[F3]? =some fn/\fn.body.isNone=false/\(fn.name== "runtime.NumGoroutine")=false):qM p1 p2 F3 C3 p3 hp3 hf3=
qY p2 p1 F3 C3 p3 hp3 hf3 (3) (wi (p1+1)):=by simp only[qM,zAV,rn,zDM]<;>rfl
def zCH(U:Int->Option Unit)(u:Int)(J:Int)(I:Int):Option Unit:=
bif (decide ((wi (I+u))<J))then(none)else
U (wi (u*2))
theorem zEq(J:Int->Option Unit)(U:Int)(I:Int)(u:Int):(zAv U I u).run (Env.nil.cons J)=zCH J U I u:=by simp only[zAv,rn]<;>rfl
def zAu(k1:Int->Option Unit)(J:Int):Nat->Int->Int->Option Unit
 |0,_,_=>none
 |n0+1,I,u=>
  bif (decide (u<=J))then(none)else
  k1 I
theorem zEn(k1:Int->Option Unit)(k2:Int->Option Unit)(u:Int):∀n q,lpn (λk (q:Int×Int)=>(zAz u q.1 q.2).run (((Env.nil.cons k2).cons k1).cons k)) n q=zAu k1 u n q.1 q.2:=zAl (g:=λn (q:Int×Int)=>zAu k1 u n q.1 q.2) (λ_=>rfl) λn q=>by simp only[zAz,rn]<;>rfl
def yP(p1:Int)(F2:Nat)(C2:(List (List D)))(p2:(zC->zC->Option Int))(hp2:∀(a0 a1:zC) r,p2 a0 a1=some r->FP F2 ([.t (.agg [sD a0.Key,iD a0.Version,iD a0.Len,iD a0.First]),.t (.agg [sD a1.Key,iD a1.Version,iD a1.Len,iD a1.First])]++C2.map A.imm) [] (iA r))(hf2:∃fn,Tryz.prog.funcs[F2]? =some fn/\fn.body.isNone=false/\(fn.name== "runtime.NumGoroutine")=false):Nat->Int->Option Unit
 |0,_=>none
 |n0+1,z4=>
  bif (decide (z4<p1))then(zAu (zCH (λq=>yP p1 F2 C2 p2 hp2 hf2 n0 q) z4 p1) p1 (3) 0 (wi (2*z4)))else
  some ()
theorem zEp(p1:Int)(F2:Nat)(C2:(List (List D)))(p2:(zC->zC->Option Int))(hp2:∀(a0 a1:zC) r,p2 a0 a1=some r->FP F2 ([.t (.agg [sD a0.Key,iD a0.Version,iD a0.Len,iD a0.First]),.t (.agg [sD a1.Key,iD a1.Version,iD a1.Len,iD a1.First])]++C2.map A.imm) [] (iA r))(hf2:∃fn,Tryz.prog.funcs[F2]? =some fn/\fn.body.isNone=false/\(fn.name== "runtime.NumGoroutine")=false):∀n q,lpn (λk (q:Int)=>(zA0 p1 F2 C2 p2 hp2 hf2 q).run (Env.nil.cons k)) n q=yP p1 F2 C2 p2 hp2 hf2 n q:=zAl (g:=λn (q:Int)=>yP p1 F2 C2 p2 hp2 hf2 n q) (λ_=>rfl) λn q=>by simp only[zA0,rn,zEq,zEn]<;>rfl
def zAx(p1:Int)(F2:Nat)(C2:(List (List D)))(p2:(zC->zC->Option Int))(hp2:∀(a0 a1:zC) r,p2 a0 a1=some r->FP F2 ([.t (.agg [sD a0.Key,iD a0.Version,iD a0.Len,iD a0.First]),.t (.agg [sD a1.Key,iD a1.Version,iD a1.Len,iD a1.First])]++C2.map A.imm) [] (iA r))(hf2:∃fn,Tryz.prog.funcs[F2]? =some fn/\fn.body.isNone=false/\(fn.name== "runtime.NumGoroutine")=false)(y1:Int):Option Unit:=
(qM y1 p1 F2 C2 p2 hp2 hf2).bind λx2=>
yP p1 F2 C2 p2 hp2 hf2 (3) 20
theorem zEr(p1:Int)(F2:Nat)(C2:(List (List D)))(p2:(zC->zC->Option Int))(hp2:∀(a0 a1:zC) r,p2 a0 a1=some r->FP F2 ([.t (.agg [sD a0.Key,iD a0.Version,iD a0.Len,iD a0.First]),.t (.agg [sD a1.Key,iD a1.Version,iD a1.Len,iD a1.First])]++C2.map A.imm) [] (iA r))(hf2:∃fn,Tryz.prog.funcs[F2]? =some fn/\fn.body.isNone=false/\(fn.name== "runtime.NumGoroutine")=false)(y1:Int):(zAw p1 F2 C2 p2 hp2 hf2 y1).run Env.nil=zAx p1 F2 C2 p2 hp2 hf2 y1:=by simp only[zAw,rn,zEp]<;>rfl
def qJ(k1:Int->Option Unit)(p1:Int)(F2:Nat)(C2:(List (List D)))(p2:(zC->zC->Option Int))(hp2:∀(a0 a1:zC) r,p2 a0 a1=some r->FP F2 ([.t (.agg [sD a0.Key,iD a0.Version,iD a0.Len,iD a0.First]),.t (.agg [sD a1.Key,iD a1.Version,iD a1.Len,iD a1.First])]++C2.map A.imm) [] (iA r))(hf2:∃fn,Tryz.prog.funcs[F2]? =some fn/\fn.body.isNone=false/\(fn.name== "runtime.NumGoroutine")=false):Nat->Int->Int->Option Unit
 |0,_,_=>none
 |n0+1,z11,z12=>
  bif (decide (z12<=p1))then((qM z11 z12 F2 C2 p2 hp2 hf2).bind λx14=>
  qJ k1 p1 F2 C2 p2 hp2 hf2 n0 z12 (wi (z12+20)))else
  k1 z11
theorem zEo(k1:Int->Option Unit)(p1:Int)(F2:Nat)(C2:(List (List D)))(p2:(zC->zC->Option Int))(hp2:∀(a0 a1:zC) r,p2 a0 a1=some r->FP F2 ([.t (.agg [sD a0.Key,iD a0.Version,iD a0.Len,iD a0.First]),.t (.agg [sD a1.Key,iD a1.Version,iD a1.Len,iD a1.First])]++C2.map A.imm) [] (iA r))(hf2:∃fn,Tryz.prog.funcs[F2]? =some fn/\fn.body.isNone=false/\(fn.name== "runtime.NumGoroutine")=false):∀n q,lpn (λk (q:Int×Int)=>(zAy p1 F2 C2 p2 hp2 hf2 q.1 q.2).run ((Env.nil.cons k1).cons k)) n q=qJ k1 p1 F2 C2 p2 hp2 hf2 n q.1 q.2:=zAl (g:=λn (q:Int×Int)=>qJ k1 p1 F2 C2 p2 hp2 hf2 n q.1 q.2) (λ_=>rfl) λn q=>by simp only[zAy,rn]<;>rfl
theorem zFQ(p1:Int)(F2:Nat)(C2:List (List D))(p2:(zC->zC->Option Int))(hp2:∀(a0 a1:zC) r,p2 a0 a1=some r->FP F2 ([.t (.agg [sD a0.Key,iD a0.Version,iD a0.Len,iD a0.First]),.t (.agg [sD a1.Key,iD a1.Version,iD a1.Len,iD a1.First])]++C2.map A.imm) [] (iA r))(hf2:∃fn,Tryz.prog.funcs[F2]? =some fn/\fn.body.isNone=false/\(fn.name== "runtime.NumGoroutine")=false):zAZ p1 F2 C2 p2 hp2 hf2=
qJ (zAx p1 F2 C2 p2 hp2 hf2) p1 F2 C2 p2 hp2 hf2 (3) 0 20:=by simp only[zAZ,zCm,rn,zEr,zEo]<;>rfl
theorem zE4(F1:Nat)(C1:List (List D))(p1:(zC->zC->Option Int))(hp1:∀(a0 a1:zC) r,p1 a0 a1=some r->FP F1 ([.t (.agg [sD a0.Key,iD a0.Version,iD a0.Len,iD a0.First]),.t (.agg [sD a1.Key,iD a1.Version,iD a1.Len,iD a1.First])]++C1.map A.imm) [] (iA r))(hf1:∃fn,Tryz.prog.funcs[F1]? =some fn/\fn.body.isNone=false/\(fn.name== "runtime.NumGoroutine")=false):zAI F1 C1 p1 hp1 hf1=
(zAZ 0 F1 C1 p1 hp1 hf1).bind λx1=>
some ():=by simp only[zAI,zCg,rn]<;>rfl
def zD6:Option ((List zC)×Int):=
(zAI 223 [] zD8 zFU ⟨_,Tryz.func223,rfl,rfl⟩).bind λu=>
some ([],0)
theorem zKA(u:Unit->Option ((List zC)×Int)):(zD9).run (Env.nil.cons u)=zD6:=by simp only[zD9,rn]<;>rfl
def zA8(k1:Unit->Option ((List zC)×Int))(J:O)(W:Hp):Nat->Int->Option ((List zC)×Int)
 |0,_=>none
 |n0+1,u=>
  bif (decide (u<64))then((zCV J u 221 [[nD]] (λ_ _=>none) (λ_ _ _ h=>none_ne h) ⟨_,Tryz.func221,rfl,rfl⟩ W).bind λI=>
  bif (I.2.2.2==35)then(zA8 k1 J W n0 (wi (u+1)))else
  some ([],I.2.2.2))else
  k1 ()
theorem zKL(k1:Unit->Option ((List zC)×Int))(k2:Unit->Option ((List zC)×Int))(u:O)(W:Hp):∀n q,lpn (λk (q:Int)=>(zED u W q).run (((Env.nil.cons k2).cons k1).cons k)) n q=zA8 k1 u W n q:=zAl (g:=λn (q:Int)=>zA8 k1 u W n q) (λ_=>rfl) λn q=>by simp only[zED,rn]<;>rfl
def zBg(W:Hp)(u:O):Nat->Option ((List zC)×Int)
 |0=>none
 |n0+1=>
  zA8 (λq=>zD6) u W (Int.toNat 64+1) 0
theorem zKQ(W:Hp)(u:O):∀n q,lpn (λk (q:Unit)=>(zEB W u).run (Env.nil.cons k)) n q=zBg W u n:=zAl (g:=λn (q:Unit)=>zBg W u n) (λ_=>rfl) λn q=>by simp only[zEB,rn,zKA,zKL]<;>rfl
theorem zMU(u:O)(W:Hp):zB2 u W=
zBg W u (2):=by simp only[zB2,zHd,rn,zKQ]<;>rfl
def zFV(I:(O×Int×Hp))(u:List Y):Option ((List Y)×Int×Hp):=
some (u,0,I.2.2)
theorem zI3(I:(O×Int×Hp))(u:List Y):(zDo I u).run Env.nil=zFV I u:=by simp only[zDo,rn]<;>rfl
def zDj(k1:(List Y)->Option ((List Y)×Int×Hp)):Nat->List Y->Int->Option ((List Y)×Int×Hp)
 |0,_,_=>none
 |n0+1,I,u=>
  bif (decide (u<0))then(none)else
  k1 I
theorem zJg(k1:(List Y)->Option ((List Y)×Int×Hp)):∀n q,lpn (λk (q:(List Y)×Int)=>(zDm q.1 q.2).run ((Env.nil.cons k1).cons k)) n q=zDj k1 n q.1 q.2:=zAl (g:=λn (q:(List Y)×Int)=>zDj k1 n q.1 q.2) (λ_=>rfl) λn q=>by simp only[zDm,rn]<;>rfl
theorem zL7(I:O)(U:Y)(W:Hp):zCX I U W=
(zAK I W).bind λu=>
bif (u.2.1 !=0)then(some ([],u.2.1,u.2.2))else
ptM u.1 (none) λZ=>
(u.2.2.ge_vw Z).bind λx6=>
(zB2 x6.x_ u.2.2).bind λJ=>
bif (J.2 !=0)then(some ([],J.2,u.2.2))else
zDj (zFV u) (Int.toNat 0+1) [] 0:=by simp only[zCX,zG1,rn,zI3,zJg]<;>rfl
def zFT(I:List Y)(J:List Y):Nat->Int->Option Bool
 |0,_=>none
 |n0+1,u=>
  bif (decide (u<(I.length:Int)))then((idx I u).bind λU=>
  (idx J u).bind λZ=>
  bif (!(U==Z))then(some false)else
  zFT I J n0 (wi (u+1)))else
  some true
theorem zOt(I:List Y)(u:List Y):∀n q,lpn (λk (q:Int)=>(zHB I u q).run (Env.nil.cons k)) n q=zFT I u n q:=zAl (g:=λn (q:Int)=>zFT I u n q) (λ_=>rfl) λn q=>by simp only[zHB,rn]<;>rfl
theorem zR2(u:List Y)(I:List Y):zIP u I=
bif ((u.length:Int) !=(I.length:Int))then(some false)else
zFT u I (u.length+1) 0:=by simp only[zIP,zLJ,rn,zOt]<;>rfl
def zCh(I:yI):Nat->Int->Int->Option Int
 |0,_,_=>none
 |n0+1,J,u=>
  bif (decide (u<(I.Blobs.length:Int)))then((idx I.Blobs u).bind λU=>
  zCh I n0 (wi (J+(U.Data.length:Int))) (wi (u+1)))else
  some J
theorem zKK(u:yI):∀n q,lpn (λk (q:Int×Int)=>(zEK u q.1 q.2).run (Env.nil.cons k)) n q=zCh u n q.1 q.2:=zAl (g:=λn (q:Int×Int)=>zCh u n q.1 q.2) (λ_=>rfl) λn q=>by simp only[zEK,rn]<;>rfl
theorem zMe(u:yI):zCn u=
zCh u (u.Blobs.length+1) 0 0:=by simp only[zCn,zHR,rn,zKK]<;>rfl
def zC7(I:yI):Nat->Int->Int->Option Int
 |0,_,_=>none
 |n0+1,J,u=>
  bif (decide (u<(I.Blobs.length:Int)))then((idx I.Blobs u).bind λU=>
  (zOh (U.Data.length:Int)).bind λZ=>
  zC7 I n0 (wi ((wi (J+1))+Z)) (wi (u+1)))else
  some J
theorem zK9(u:yI):∀n q,lpn (λk (q:Int×Int)=>(zEb u q.1 q.2).run (Env.nil.cons k)) n q=zC7 u n q.1 q.2:=zAl (g:=λn (q:Int×Int)=>zC7 u n q.1 q.2) (λ_=>rfl) λn q=>by simp only[zEb,rn]<;>rfl
theorem zNQ(u:yI):zCN u=
zC7 u (u.Blobs.length+1) 0 0:=by simp only[zCN,zIX,rn,zK9]<;>rfl
def zHM(p0:O)(I:yI)(W:Hp):Option (Bool×Hp):=
(zA3 p0 W).bind λu=>
bif (u.2.1==0)then(bif (u.1.Count==I.Count)then(bif (u.1.Keys==(I.Keys.length:Int))then((zCn I).bind λZ=>
bif (u.1.Bytes==Z)then(bif (u.1.Quota==I.Quota)then((zCN I).bind λU=>
bif (u.1.Used==U)then((zCN I).bind λJ=>
some ((u.1.Free==(wi (I.Room-J))),u.2.2))else
some (false,u.2.2))else
some (false,u.2.2))else
some (false,u.2.2))else
some (false,u.2.2))else
some (false,u.2.2))else
some (false,u.2.2)
theorem zO7(J:O)(I:yI)(u:Hp):(zHG J I u).run Env.nil=zHM J I u:=by simp only[zHG,rn]<;>rfl
def zDF(k1:Hp->Option (Bool×Hp))(J:yI)(p0:O):Nat->Int->Hp->Option (Bool×Hp)
 |0,_,_=>none
 |n0+1,I,U=>
  bif (decide (I<(J.Keys.length:Int)))then((idx J.Keys I).bind λZ=>
  (zDs p0 Z U).bind λu=>
  bif (u.2.1 !=0)then(some (false,u.2.2))else
  (idx J.Blobs I).bind λW=>
  bif (u.1.Version !=W.Version)then(some (false,u.2.2))else
  (idx J.Blobs I).bind λβ=>
  (zMM u.1.Data β.Data).bind λα=>
  bif (!α)then(some (false,u.2.2))else
  zDF k1 J p0 n0 (wi (I+1)) u.2.2)else
  k1 U
theorem zO8(k1:Hp->Option (Bool×Hp))(u:yI)(I:O):∀n q,lpn (λk (q:Int×Hp)=>(zHH u I q.1 q.2).run ((Env.nil.cons k1).cons k)) n q=zDF k1 u I n q.1 q.2:=zAl (g:=λn (q:Int×Hp)=>zDF k1 u I n q.1 q.2) (λ_=>rfl) λn q=>by simp only[zHH,rn]<;>rfl
theorem zSI(J:O)(I:yI)(W:Hp):zFF J I W=
(zCX J [] W).bind λu=>
bif (u.2.1 !=0)then(some (false,u.2.2))else
(zIP u.1 I.Keys).bind λU=>
bif (!U)then(some (false,u.2.2))else
zDF (zHM J I) I J (I.Keys.length+1) 0 u.2.2:=by simp only[zFF,zOB,rn,zO7,zO8]<;>rfl
def zA2(Z:(O×Int×Hp))(J:(Int×Hp))(p2:Int)(p1:Int)(β:Bool):Option (Bool×Hp):=
bif β then((zBU Z.1 J.2).bind λU=>
bif (J.1==2)then(some ((U.2.1==11),U.2.2))else
some (false,U.2.2))else
(zBU Z.1 J.2).bind λI=>
(zA3 I.1 I.2.2).bind λu=>
bif (J.1==0)then(bif (I.2.1==0)then(bif (u.2.1==0)then((zEh (wi ((wi (Int.tmod p2 2000))+1))).bind λγ=>
bif ((u.1.Count==0)&&((u.1.Keys==0)&&((u.1.Bytes==0)&&((u.1.Quota==p1)&&((u.1.Used==0)&&((u.1.Free==γ)&&((u.1.Top==u.1.Top)&&true)))))))then((zEh (wi ((wi (Int.tmod p2 2000))+1))).bind λα=>
(zFF I.1 (yI.mk [] [] 0 p1 α) u.2.2).bind λW=>
some (W.1,W.2))else
some (false,u.2.2))else
some (false,u.2.2))else
some (false,u.2.2))else
some (false,u.2.2)
theorem zLY(u:(O×Int×Hp))(I:(Int×Hp))(Z:Int)(U:Int)(J:Bool):(zEz u I Z U J).run Env.nil=zA2 u I Z U J:=by simp only[zEz,rn]<;>rfl
theorem zNv(p0:Int)(I:Int)(U:Int)(W:Hp):zCk p0 I U W=
(zFJ W).bind λZ=>
bif (!Z.1)then(some (false,Z.2))else
(zCY p0).bind λx4=>
(zEh p0).bind λx6=>
bif (x4 !=x6)then(some (false,Z.2))else
(yV none 5 Z.2).bind λx9=>
bif (x9.1 !=1)then(some (false,x9.2))else
(zDv (wi ((wi (Int.tmod U 2000))+1)) x9.2).bind λu=>
(yV u.1 I u.2.2).bind λJ=>
(zEh (wi ((wi (Int.tmod U 2000))+1))).bind λα=>
bif (decide (α<1))then(zA2 u J U I true)else
bif (decide (I<0))then(zA2 u J U I true)else
zA2 u J U I (decide (I>2305843009213693952)):=by simp only[zCk,zGI,rn,zLY]<;>rfl
theorem zRy(u:Int):zEm u=
some (wi (Int.tdiv (wi ((wi (u+512))-1)) 512)):=by simp only[zEm,zM5,rn]<;>rfl
theorem zT0(u:Int):zEi u=
(zEm u).bind λI=>
(zEm (if 0>(wi ((wi (u-2))-(wi (1+(wi (2*(wi (513+I))))))))then 0 else(wi ((wi (u-2))-(wi (1+(wi (2*(wi (513+I)))))))))).bind λJ=>
some (zF.mk (wi (1+(wi (2*(wi (513+I)))))) (if 0>(wi ((wi (u-2))-(wi (1+(wi (2*(wi (513+I))))))))then 0 else(wi ((wi (u-2))-(wi (1+(wi (2*(wi (513+I))))))))) J):=by simp only[zEi,zPP,rn]<;>rfl
theorem zIk(u:zF):zAC u=
some (wi (1+u.maps_)):=by simp only[zAC,zE7,rn]<;>rfl
theorem zIg(u:zF):zY u=
(zAC u).bind λI=>
some (wi (I+4)):=by simp only[zY,zFA,rn]<;>rfl
theorem zJc(u:zF):yB u=
(zY u).bind λI=>
some (wi (u.homes_-I)):=by simp only[yB,zFY,rn]<;>rfl
theorem zQ9(u:Int):zCY u=
bif (decide (u<1))then(some 0)else
bif (decide (u>16384))then(some 0)else
(zEi u).bind λJ=>
(yB J).bind λI=>
some (if 0>I then 0 else I):=by simp only[zCY,zM0,rn]<;>rfl
theorem zG5(u:O)(W:Hp):zBs u W=
ptM u (some false) λI=>
(W.ge_dk I).bind λJ=>
some (decide ((J.now_.2:Int)>0)):=by simp only[zBs,zKa,rn]<;>rfl
theorem zOl(u:O)(W:Hp):zCD u W=
(zBs u W).bind λJ=>
bif J then(ptM u (none) λU=>
(W.ge_dk U).bind λI=>
some I.off_)else
some false:=by simp only[zCD,zJN,rn]<;>rfl
theorem zMO(u:O)(W:Hp):zAU u W=
(zBs u W).bind λJ=>
bif (!J)then(some 0)else
ptM u (none) λU=>
(W.ge_dk U).bind λI=>
some I.lives_:=by simp only[zAU,zHZ,rn]<;>rfl
def zBZ(J:O)(W:Hp)(Z:Bool):Option Int:=
bif Z then(some 1)else
ptM J (none) λU=>
(W.ge_lg U).bind λI=>
(zCD I.d_ W).bind λx7=>
bif x7 then(some 30)else
(zAU I.d_ W).bind λu=>
bif (u !=I.life_)then(some 30)else
some 0
theorem zLy(I:O)(W:Hp)(u:Bool):(zE2 I W u).run Env.nil=zBZ I W u:=by simp only[zE2,rn]<;>rfl
theorem zNy(u:O)(W:Hp):zAP u W=
ptM u (zBZ u W true) λI=>
(W.ge_lg I).bind λJ=>
ptM J.d_ (zBZ u W true) λU=>
zBZ u W false:=by simp only[zAP,zJf,rn,zLy]<;>rfl
theorem zJh(u:O)(W:Hp):zAf u W=
(zAP u W).bind λx1=>
bif (x1 !=0)then(some (none,x1,W))else
ptM u (none) λi5=>
(W.ge_lg i5).bind λx6=>
let I:(List (Int×Y)):=([]:(List (Int×Y)));let Z:=(W.nw_mp I);let J:zAF:=(zAF.mk u x6.commits_ false W.ln_mp);let U:=(Z.nw_tx J);some ((some Z.ln_tx),0,U):=by simp only[zAf,zJb,rn]<;>rfl
theorem zUI(I:O)(u:Int)(W:Hp):zJ5 I u W=
let J:zBM:=(zBM.mk I u);let U:=(W.nw_ix J);some ((some W.ln_ix),U):=by simp only[zJ5,zPS,rn]<;>rfl
def zBE(u:Y):Option Y:=
(apzI 1 u.length (wi (64-(u.length:Int)))).bind λI=>
some (u++List.replicate I 0)
theorem zIv(u:Y):(zDR u).run Env.nil=zBE u:=by simp only[zDR,rn]<;>rfl
def yZ(k1:Y->Option Y)(u:zH):Nat->Y->Int->Option Y
 |0,_,_=>none
 |n0+1,U,J=>
  bif (decide (J<([u.count_,u.quota_,u.bytes_,u.keys_].length:Int)))then((idx [u.count_,u.quota_,u.bytes_,u.keys_] J).bind λW=>
  (zFK W 8).bind λZ=>
  (appI 1 U Z.1).bind λI=>
  yZ k1 u n0 I (wi (J+1)))else
  k1 U
theorem zIp(k1:Y->Option Y)(u:zH):∀n q,lpn (λk (q:Y×Int)=>(zDL u q.1 q.2).run ((Env.nil.cons k1).cons k)) n q=yZ k1 u n q.1 q.2:=zAl (g:=λn (q:Y×Int)=>yZ k1 u n q.1 q.2) (λ_=>rfl) λn q=>by simp only[zDL,rn]<;>rfl
theorem zKu(u:zH):zBG u=
yZ zBE u ([u.count_,u.quota_,u.bytes_,u.keys_].length+1) [] 0:=by simp only[zBG,zGW,rn,zIv,zIp]<;>rfl
theorem zJk(U:O)(W:Hp):zBO U W=
ptM U (some 1) λi2=>
(W.ge_tx i2).bind λu=>
(zAP u.l_ W).bind λZ=>
bif (Z !=0)then(some Z)else
bif u.over_ then(some 34)else
ptM u.l_ (none) λJ=>
(W.ge_lg J).bind λI=>
bif (u.at_ !=I.commits_)then(some 34)else
some 0:=by simp only[zBO,zI7,rn]<;>rfl
theorem zIc(u:O)(W:Hp):qH u W=
(zBs u W).bind λJ=>
bif (!J)then(some 0)else
ptM u (none) λU=>
(W.ge_dk U).bind λI=>
some (I.now_.2:Int):=by simp only[qH,zIa,rn]<;>rfl
theorem zOW(I:O)(W:Hp):yO I W=
ptM I (some 0) λJ=>
(W.ge_lg J).bind λu=>
ptM u.d_ (some 0) λZ=>
(qH u.d_ W).bind λU=>
some (wi ((wi (U-2))-u.size_)):=by simp only[yO,zJZ,rn]<;>rfl
theorem zGU(I:O)(u:Int)(W:Hp):zAj I u W=
(zBs I W).bind λZ=>
bif (!Z)then(some 1)else
ptM I (none) λU=>
(W.ge_dk U).bind λJ=>
bif J.off_ then(some 30)else
bif (decide (u<0))then(some 31)else
bif (decide (u>=(J.now_.2:Int)))then(some 31)else
some 0:=by simp only[zAj,zJE,rn]<;>rfl
theorem zIb(J:O)(I:Int)(W:Hp):zAk J I W=
(zAj J I W).bind λx1=>
bif (x1 !=0)then(some ([],x1))else
ptM J (none) λi5=>
(W.ge_dk i5).bind λZ=>
(W.ge_sec Z.now_.1).bind λU=>
(lenI U.length Z.now_.2).bind λα=>
(idx U I).bind λu=>
some ((padA (0:UInt8) u 0 64),0):=by simp only[zAk,zIZ,rn]<;>rfl
theorem zO0(I:O)(u:Int)(W:Hp):zCb I u W=
ptM I (none) λJ=>
(W.ge_lg J).bind λU=>
some (wi ((wi (2+U.size_))+u)):=by simp only[zCb,zKp,rn]<;>rfl
theorem zOx(u:O)(J:Int)(W:Hp):zDH u J W=
(zAP u W).bind λx1=>
bif (x1 !=0)then(some ([],x1))else
bif (decide (J<0))then(some ([],31))else
(yO u W).bind λx5=>
bif (decide (J>=x5))then(some ([],31))else
ptM u (none) λi9=>
(W.ge_lg i9).bind λU=>
(zCb u J W).bind λZ=>
(zAk U.d_ Z W).bind λI=>
some (I.1,I.2):=by simp only[zDH,zKj,rn]<;>rfl
theorem zOr(J:O)(I:Int)(W:Hp):zAi J I W=
(zBO J W).bind λx1=>
bif (x1 !=0)then(some ([],x1))else
ptM J (none) λi5=>
(W.ge_tx i5).bind λx6=>
(W.ge_mp x6.now_).bind λZ=>
bif ((zCG Z I).isSome)then((zBK ((zCG Z I).getD ([]:Y))).bind λU=>
some (U,0))else
(zDH x6.l_ I W).bind λu=>
some (u.1,u.2):=by simp only[zAi,zKo,rn]<;>rfl
def zBD(I:Y)(J:Y):Nat->Int->Option Bool
 |0,_=>none
 |n0+1,u=>
  bif (decide (u<(I.length:Int)))then((idx I u).bind λU=>
  (idx J u).bind λZ=>
  bif ((U.toNat:Int) !=(Z.toNat:Int))then(some false)else
  zBD I J n0 (wi (u+1)))else
  some true
theorem zIm(I:Y)(u:Y):∀n q,lpn (λk (q:Int)=>(zDQ I u q).run (Env.nil.cons k)) n q=zBD I u n q:=zAl (g:=λn (q:Int)=>zBD I u n q) (λ_=>rfl) λn q=>by simp only[zDQ,rn]<;>rfl
theorem zLE(u:Y)(I:Y):zAQ u I=
bif ((u.length:Int) !=(I.length:Int))then(some false)else
zBD u I (u.length+1) 0:=by simp only[zAQ,zET,rn,zIm]<;>rfl
def zCz(u:Int):Option (Int×Int):=
bif (decide (u>4611686018427387904))then(some (0,11))else
some ((wi u),0)
theorem zQM(u:Int):(zH2 u).run Env.nil=zCz u:=by simp only[zH2,rn]<;>rfl
def zC1(k1:Int->Option (Int×Int))(I:Y):Nat->Int->Int->Option (Int×Int)
 |0,_,_=>none
 |n0+1,J,u=>
  bif (decide (u<(I.length:Int)))then((idx I u).bind λU=>
  zC1 k1 I n0 (IntKind.u64.wrap ((((BitVec.ofInt IntKind.u64.bits (IntKind.u64.wrap (J*2^8)))|||(BitVec.ofInt IntKind.u64.bits (U.toNat:Int))).toNat:Nat):Int)) (wi (u+1)))else
  k1 J
theorem zP5(k1:Int->Option (Int×Int))(u:Y):∀n q,lpn (λk (q:Int×Int)=>(zII u q.1 q.2).run ((Env.nil.cons k1).cons k)) n q=zC1 k1 u n q.1 q.2:=zAl (g:=λn (q:Int×Int)=>zC1 k1 u n q.1 q.2) (λ_=>rfl) λn q=>by simp only[zII,rn]<;>rfl
theorem zUL(u:Y):zBX u=
bif ((u.length:Int)==0)then(some (0,10))else
bif (decide ((u.length:Int)>8))then(some (0,2))else
zC1 zCz u (u.length+1) 0 0:=by simp only[zBX,zPa,rn,zQM,zP5]<;>rfl
def zA4(x1:(Y×Int))(I:List Int):Option (zH×Int):=
(idxA 4 I 0).bind λx5=>
(idxA 4 I 1).bind λW=>
(idxA 4 I 2).bind λZ=>
(idxA 4 I 3).bind λu=>
(zBG (zH.mk x5 W Z u)).bind λU=>
(zAQ U x1.1).bind λJ=>
bif (!J)then(some ((zH.mk 0 0 0 0),11))else
some ((zH.mk x5 W Z u),0)
theorem zGK(I:(Y×Int))(u:List Int):(zCC I u).run Env.nil=zA4 I u:=by simp only[zCC,rn]<;>rfl
def qX(k1:(List Int)->Option (zH×Int))(Z:(Y×Int)):Nat->Int->List Int->Option (zH×Int)
 |0,_,_=>none
 |n0+1,u,J=>
  bif (decide (u<4))then((cutI Z.1 (wi (8*u)) (wi ((wi (8*u))+8))).bind λU=>
  (zBX U).bind λI=>
  bif (I.2 !=0)then(some ((zH.mk 0 0 0 0),11))else
  bif (decide (I.1>2305843009213693952))then(some ((zH.mk 0 0 0 0),11))else
  (idxA 4 J u).bind λW=>
  qX k1 Z n0 (wi (u+1)) (J.set (Int.toNat u) I.1))else
  k1 J
theorem zGQ(k1:(List Int)->Option (zH×Int))(u:(Y×Int)):∀n q,lpn (λk (q:Int×(List Int))=>(zCB u q.1 q.2).run ((Env.nil.cons k1).cons k)) n q=qX k1 u n q.1 q.2:=zAl (g:=λn (q:Int×(List Int))=>qX k1 u n q.1 q.2) (λ_=>rfl) λn q=>by simp only[zCB,rn]<;>rfl
theorem zHN(J:zF)(I:O)(W:Hp):zAH J I W=
(zAi I 0 W).bind λu=>
bif (u.2 !=0)then(some ((zH.mk 0 0 0 0),u.2))else
qX (zA4 u) u (Int.toNat 4+1) 0 (List.replicate 4 (0:Int)):=by simp only[zAH,zEf,rn,zGK,zGQ]<;>rfl
def yL(p0:Y)(F1:Nat)(C1:(List (List D)))(p1:(UInt8->Option Bool))(hp1:∀(a0:UInt8) r,p1 a0=some r->FP F1 ([.t (.d (.lit (.int .u8 (a0.toNat:Int))))]++C1.map A.imm) [] (bA r))(hf1:∃fn,Tryz.prog.funcs[F1]? =some fn/\fn.body.isNone=false/\(fn.name== "runtime.NumGoroutine")=false):Nat->Int->Option Int
 |0,_=>none
 |n0+1,z1=>
  bif (decide (z1<(p0.length:Int)))then((idx p0 z1).bind λx3=>
  (p1 x3).bind λx5=>
  bif x5 then(some z1)else
  yL p0 F1 C1 p1 hp1 hf1 n0 (wi (z1+1)))else
  some (-1)
theorem zGm(p0:Y)(F1:Nat)(C1:(List (List D)))(p1:(UInt8->Option Bool))(hp1:∀(a0:UInt8) r,p1 a0=some r->FP F1 ([.t (.d (.lit (.int .u8 (a0.toNat:Int))))]++C1.map A.imm) [] (bA r))(hf1:∃fn,Tryz.prog.funcs[F1]? =some fn/\fn.body.isNone=false/\(fn.name== "runtime.NumGoroutine")=false):∀n q,lpn (λk (q:Int)=>(zCL p0 F1 C1 p1 hp1 hf1 q).run (Env.nil.cons k)) n q=yL p0 F1 C1 p1 hp1 hf1 n q:=zAl (g:=λn (q:Int)=>yL p0 F1 C1 p1 hp1 hf1 n q) (λ_=>rfl) λn q=>by simp only[zCL,rn]<;>rfl
theorem zIJ(p0:Y)(F1:Nat)(C1:List (List D))(p1:(UInt8->Option Bool))(hp1:∀(a0:UInt8) r,p1 a0=some r->FP F1 ([.t (.d (.lit (.int .u8 (a0.toNat:Int))))]++C1.map A.imm) [] (bA r))(hf1:∃fn,Tryz.prog.funcs[F1]? =some fn/\fn.body.isNone=false/\(fn.name== "runtime.NumGoroutine")=false):zBj p0 F1 C1 p1 hp1 hf1=
yL p0 F1 C1 p1 hp1 hf1 (p0.length+1) 0:=by simp only[zBj,zC3,rn,zGm]<;>rfl
theorem zGj(p0:Y)(F1:Nat)(C1:List (List D))(p1:(UInt8->Option Bool))(hp1:∀(a0:UInt8) r,p1 a0=some r->FP F1 ([.t (.d (.lit (.int .u8 (a0.toNat:Int))))]++C1.map A.imm) [] (bA r))(hf1:∃fn,Tryz.prog.funcs[F1]? =some fn/\fn.body.isNone=false/\(fn.name== "runtime.NumGoroutine")=false):zA9 p0 F1 C1 p1 hp1 hf1=
(zBj p0 F1 C1 p1 hp1 hf1).bind λx1=>
some (decide (x1>=0)):=by simp only[zA9,zCI,rn]<;>rfl
theorem zF5(u:UInt8):yG u=
some ((u.toNat:Int) !=0):=by simp only[yG,zDV,rn]<;>rfl
theorem zSW(u:Int)(W:Hp):zEW u W=
bif (decide (u<0))then(some (none,2,W))else
bif (decide (u>16384))then(some (none,2,W))else
(mkI 8 (wi (Int.tdiv (wi ((wi (u+64))-1)) 64))).bind λJ=>
let x6:(List Int):=(List.replicate J (0:Int));let U:=(W.nw_w64 x6);let I:zO:=(zO.mk u u (W.ln_w64,J) true);let Z:=(U.nw_sp I);some ((some U.ln_sp),0,Z):=by simp only[zEW,zN8,rn]<;>rfl
def zGN(I:(O×Int×Hp))(u:Hp):Option (O×Int×Hp):=
some (I.1,0,u)
theorem zOk(I:(O×Int×Hp))(u:Hp):(zGg I u).run Env.nil=zGN I u:=by simp only[zGg,rn]<;>rfl
def zCp(k1:Hp->Option (O×Int×Hp))(W:Y)(x1:(O×Int×Hp)):Nat->Int->Hp->Option (O×Int×Hp)
 |0,_,_=>none
 |n0+1,J,Z=>
  bif (decide (J<(W.length:Int)))then((idx W J).bind λx7=>
  ptM x1.1 (none) λU=>
  (Z.ge_sp U).bind λu=>
  (Z.ge_w64 u.l_.1).bind λI=>
  (lenI I.length u.l_.2).bind λκ=>
  (idx I (wi (Int.tdiv J 8))).bind λγ=>
  (shlI .u64 (x7.toNat:Int) (IntKind.u64.wrap (wi (8*(Int.tmod J 8))))).bind λα=>
  (lenI I.length u.l_.2).bind λι=>
  (idx I (wi (Int.tdiv J 8))).bind λθ=>
  let ε:(List Int):=(I.set (Int.toNat (wi (Int.tdiv J 8))) (IntKind.u64.wrap ((((BitVec.ofInt IntKind.u64.bits γ)|||(BitVec.ofInt IntKind.u64.bits α)).toNat:Nat):Int)));let ζ:=(Z.st_w64 u.l_.1 ε);(zBA x7).bind λδ=>
  let η:zO:=(zO.mk u.n_ (wi (u.free_-δ)) u.l_ u.is_);let β:=(ζ.st_sp U η);zCp k1 W x1 n0 (wi (J+1)) β)else
  k1 Z
theorem zOi(k1:Hp->Option (O×Int×Hp))(I:Y)(u:(O×Int×Hp)):∀n q,lpn (λk (q:Int×Hp)=>(zGH I u q.1 q.2).run ((Env.nil.cons k1).cons k)) n q=zCp k1 I u n q.1 q.2:=zAl (g:=λn (q:Int×Hp)=>zCp k1 I u n q.1 q.2) (λ_=>rfl) λn q=>by simp only[zGH,rn]<;>rfl
def zDq(u:(O×Int×Hp))(I:Y):Option (O×Int×Hp):=
zCp (zGN u) I u (I.length+1) 0 u.2.2
theorem zOg(I:(O×Int×Hp))(u:Y):(zGT I u).run Env.nil=zDq I u:=by simp only[zGT,rn,zOk,zOi]<;>rfl
theorem zRJ(I:Int)(J:Y)(W:Hp):zFW I J W=
(zEW I W).bind λu=>
bif (u.2.1 !=0)then(some (none,u.2.1,u.2.2))else
bif (decide ((J.length:Int)<(wi (Int.tdiv (wi (I+7)) 8))))then(some (none,10,u.2.2))else
bif (decide ((J.length:Int)>(wi (Int.tdiv (wi (I+7)) 8))))then(some (none,12,u.2.2))else
bif ((Int.tmod I 8) !=0)then((idx J (wi ((wi (Int.tdiv (wi (I+7)) 8))-1))).bind λU=>
(shrI .u8 (U.toNat:Int) (IntKind.u64.wrap (Int.tmod I 8))).bind λZ=>
bif (Z !=0)then(some (none,11,u.2.2))else
zDq u J)else
zDq u J:=by simp only[zFW,zMy,rn,zOg]<;>rfl
def zAt(J:zF)(W:Hp)(I:Y):Option (O×Int×Hp):=
(cutI I (wi (Int.tdiv (wi (J.homes_+7)) 8)) (I.length:Int)).bind λx2=>
(zA9 x2 289 [] yG zBa ⟨_,Tryz.func289,rfl,rfl⟩).bind λU=>
bif U then(some (none,11,W))else
(cutI I 0 (wi (Int.tdiv (wi (J.homes_+7)) 8))).bind λZ=>
(zFW J.homes_ Z W).bind λu=>
bif (u.2.1 !=0)then(some (none,11,u.2.2))else
some (u.1,0,u.2.2)
theorem zFz(I:zF)(W:Hp)(u:Y):(zBo I W u).run Env.nil=zAt I W u:=by simp only[zBo,rn]<;>rfl
def qT(k1:Y->Option (O×Int×Hp))(p0:zF)(Z:O)(W:Hp):Nat->Y->Int->Option (O×Int×Hp)
 |0,_,_=>none
 |n0+1,J,u=>
  bif (decide (u<p0.maps_))then((zAi Z (wi (1+u)) W).bind λI=>
  bif (I.2 !=0)then(some (none,I.2,W))else
  (appI 1 J I.1).bind λU=>
  qT k1 p0 Z W n0 U (wi (u+1)))else
  k1 J
theorem zF8(k1:Y->Option (O×Int×Hp))(I:zF)(u:O)(W:Hp):∀n q,lpn (λk (q:Y×Int)=>(zBn I u W q.1 q.2).run ((Env.nil.cons k1).cons k)) n q=qT k1 I u W n q.1 q.2:=zAl (g:=λn (q:Y×Int)=>qT k1 I u W n q.1 q.2) (λ_=>rfl) λn q=>by simp only[zBn,rn]<;>rfl
theorem zG9(u:zF)(I:O)(W:Hp):yW u I W=
qT (zAt u W) u I W (Int.toNat u.maps_+1) [] 0:=by simp only[yW,zEM,rn,zFz,zF8]<;>rfl
theorem zKs(p0:O)(W:Hp):zAK p0 W=
ptM p0 (some (none,1,W)) λi2=>
(W.ge_st i2).bind λx3=>
(zAf x3.l_ W).bind λZ=>
bif (Z.2.1 !=0)then(some (none,Z.2.1,Z.2.2))else
(Z.2.2.ge_st i2).bind λx8=>
(zAC x8.geometry_).bind λζ=>
(zJ5 Z.1 ζ Z.2.2).bind λu=>
let J:zU:=(zU.mk p0 Z.1 u.1 (zH.mk 0 0 0 0) none);let β:=(u.2.nw_vw J);(β.ge_st i2).bind λδ=>
(zAH δ.geometry_ Z.1 β).bind λα=>
let η:zU:=(zU.mk J.s_ J.t_ J.x_ α.1 J.p_);let γ:=(β.st_vw u.2.ln_vw η);bif (α.2 !=0)then(some (none,α.2,γ))else
(yW δ.geometry_ Z.1 γ).bind λI=>
(I.2.2.ge_vw u.2.ln_vw).bind λU=>
let θ:zU:=(zU.mk U.s_ U.t_ U.x_ U.h_ I.1);let ε:=(I.2.2.st_vw u.2.ln_vw θ);bif (I.2.1 !=0)then(some (none,I.2.1,ε))else
some ((some u.2.ln_vw),0,ε):=by simp only[zAK,zGY,rn]<;>rfl
theorem zL8(u:O)(W:Hp):zAb u W=
ptM u (some 0) λI=>
(W.ge_sp I).bind λJ=>
some J.free_:=by simp only[zAb,zGw,rn]<;>rfl
theorem zMc(I:O)(W:Hp):zBw I W=
ptM I (none) λU=>
(W.ge_vw U).bind λJ=>
ptM J.s_ (none) λi6=>
(W.ge_st i6).bind λx7=>
(yB x7.geometry_).bind λZ=>
(zAb J.p_ W).bind λu=>
some (wi (Z-u)):=by simp only[zBw,zHp,rn]<;>rfl
def zCu(I:(Y×Int))(u:Int):Option (Y×Int):=
some (I.1,u)
theorem zH0(I:(Y×Int))(u:Int):(zC6 I u).run Env.nil=zCu I u:=by simp only[zC6,rn]<;>rfl
theorem zKC(J:O)(I:Int)(W:Hp):zA6 J I W=
ptM J (some ([],1)) λU=>
(W.ge_ix U).bind λZ=>
(zAi Z.t_ I W).bind λu=>
bif (u.2==31)then(zCu u 11)else
zCu u u.2:=by simp only[zA6,zFt,rn,zH0]<;>rfl
theorem zR3(I:Y):zIN I=
(zBX I).bind λu=>
bif (u.2 !=0)then(some (-1))else
some u.1:=by simp only[zIN,zOT,rn]<;>rfl
theorem zK6(J:O)(u:zX)(W:Hp):zCE J u W=
(zA6 J u.home_ W).bind λI=>
bif (I.2 !=0)then(some (0,I.2))else
(cutI I.1 u.off_ (wi (u.off_+4))).bind λU=>
(zIN U).bind λZ=>
some (Z,0):=by simp only[zCE,zGc,rn]<;>rfl
theorem zLT(I:O)(u:Int)(W:Hp):zCa I u W=
ptM I (some (zX.mk 0 0)) λJ=>
(W.ge_ix J).bind λU=>
some (zX.mk (wi (U.table_+(wi (Int.tdiv u 16)))) (wi (4*(Int.tmod u 16)))):=by simp only[zCa,zGr,rn]<;>rfl
def zAq(p0:O)(w0:Hp)(p1:Int)(F2:Nat)(C2:(List (List D)))(p2:(Int->zI->Option Bool))(hp2:∀(a0:Int) (a1:zI) r,p2 a0 a1=some r->FP F2 ([iA a0,.t (.agg [sD a1.Entry.Key,iD a1.Entry.Version,iD a1.Entry.Len,iD a1.Entry.First,iD a1.next_])]++C2.map A.imm) [] (bA r))(hf2:∃fn,Tryz.prog.funcs[F2]? =some fn/\fn.body.isNone=false/\(fn.name== "runtime.NumGoroutine")=false):Nat->Int->Int->Int->Int->Option (zX×Int×zI×Int)
 |0,_,_,_,_=>none
 |n0+1,z6,z7,z8,z9=>
  bif (z8==0)then(some ((zX.mk 0 0),0,(zI.mk (zC.mk [] 0 0 0) 0),35))else
  (zA6 p0 z8 w0).bind λx11=>
  bif (x11.2 !=0)then(some ((zX.mk 0 0),0,(zI.mk (zC.mk [] 0 0 0) 0),x11.2))else
  (zM9 x11.1 w0).bind λx14=>
  (zKl x14.1.Entry.Key).bind λx16=>
  bif (!x14.2)then(some ((zX.mk 0 0),0,(zI.mk (zC.mk [] 0 0 0) 0),11))else
  bif (x16.1 !=p1)then(some ((zX.mk 0 0),0,(zI.mk (zC.mk [] 0 0 0) 0),11))else
  bif (decide ((wi (z9+1))>16384))then(some ((zX.mk 0 0),0,(zI.mk (zC.mk [] 0 0 0) 0),11))else
  (p2 z8 x14.1).bind λx21=>
  bif x21 then(some ((zX.mk z6 z7),z8,x14.1,0))else
  zAq p0 w0 p1 F2 C2 p2 hp2 hf2 n0 z8 0 x14.1.next_ (wi (z9+1))
theorem zJr(p0:O)(w0:Hp)(p1:Int)(F2:Nat)(C2:(List (List D)))(p2:(Int->zI->Option Bool))(hp2:∀(a0:Int) (a1:zI) r,p2 a0 a1=some r->FP F2 ([iA a0,.t (.agg [sD a1.Entry.Key,iD a1.Entry.Version,iD a1.Entry.Len,iD a1.Entry.First,iD a1.next_])]++C2.map A.imm) [] (bA r))(hf2:∃fn,Tryz.prog.funcs[F2]? =some fn/\fn.body.isNone=false/\(fn.name== "runtime.NumGoroutine")=false):∀n q,lpn (λk (q:Int×Int×Int×Int)=>(zDi p0 w0 p1 F2 C2 p2 hp2 hf2 q.1 q.2.1 q.2.2.1 q.2.2.2).run (Env.nil.cons k)) n q=zAq p0 w0 p1 F2 C2 p2 hp2 hf2 n q.1 q.2.1 q.2.2.1 q.2.2.2:=zAl (g:=λn (q:Int×Int×Int×Int)=>zAq p0 w0 p1 F2 C2 p2 hp2 hf2 n q.1 q.2.1 q.2.2.1 q.2.2.2) (λ_=>rfl) λn q=>by simp only[zDi,rn]<;>rfl
theorem zLz(p0:O)(p1:Int)(F2:Nat)(C2:List (List D))(p2:(Int->zI->Option Bool))(hp2:∀(a0:Int) (a1:zI) r,p2 a0 a1=some r->FP F2 ([iA a0,.t (.agg [sD a1.Entry.Key,iD a1.Entry.Version,iD a1.Entry.Len,iD a1.Entry.First,iD a1.next_])]++C2.map A.imm) [] (bA r))(hf2:∃fn,Tryz.prog.funcs[F2]? =some fn/\fn.body.isNone=false/\(fn.name== "runtime.NumGoroutine")=false)(w0:Hp):zCV p0 p1 F2 C2 p2 hp2 hf2 w0=
(zCa p0 p1 w0).bind λx1=>
(zCE p0 x1 w0).bind λx3=>
bif (x3.2 !=0)then(some ((zX.mk 0 0),0,(zI.mk (zC.mk [] 0 0 0) 0),x3.2))else
zAq p0 w0 p1 F2 C2 p2 hp2 hf2 (16400) x1.home_ x1.off_ x3.1 0:=by simp only[zCV,zEx,rn,zJr]<;>rfl
theorem zHj(Z:O)(u:Int)(W:Hp):zAo Z u W=
ptM Z (some false) λi2=>
bif (decide (u>=0))then((W.ge_sp i2).bind λJ=>
bif (decide (u<J.n_))then((W.ge_w64 J.l_.1).bind λx7=>
(lenI x7.length J.l_.2).bind λx9=>
(idx x7 (wi (Int.tdiv u 64))).bind λI=>
(shrI .u64 I (IntKind.u64.wrap (Int.tmod u 64))).bind λU=>
some ((IntKind.u64.wrap ((((BitVec.ofInt IntKind.u64.bits U)&&&(BitVec.ofInt IntKind.u64.bits 1)).toNat:Nat):Int))==0))else
some false)else
some false:=by simp only[zAo,zHf,rn]<;>rfl
theorem zLx(p0:O)(J:Int)(W:Hp):zCZ p0 J W=
ptM p0 (none) λi2=>
(W.ge_sp i2).bind λu=>
(W.ge_w64 u.l_.1).bind λU=>
(lenI U.length u.l_.2).bind λx7=>
(idx U (wi (Int.tdiv J 64))).bind λx9=>
(shlI .u64 1 (IntKind.u64.wrap (Int.tmod J 64))).bind λα=>
(lenI U.length u.l_.2).bind λθ=>
(idx U (wi (Int.tdiv J 64))).bind λη=>
let Z:(List Int):=(U.set (Int.toNat (wi (Int.tdiv J 64))) (IntKind.u64.wrap ((((BitVec.ofInt IntKind.u64.bits x9)^^^(BitVec.ofInt IntKind.u64.bits α)).toNat:Nat):Int)));let I:=(W.st_w64 u.l_.1 Z);(zAo p0 J I).bind λβ=>
bif β then(let γ:zO:=(zO.mk u.n_ (wi (u.free_+1)) u.l_ u.is_);let δ:=(I.st_sp i2 γ);some δ)else
let ε:zO:=(zO.mk u.n_ (wi (u.free_-1)) u.l_ u.is_);let ζ:=(I.st_sp i2 ε);some ζ:=by simp only[zCZ,zG0,rn]<;>rfl
theorem zOa(U:O)(u:Int)(p2:Y)(W:Hp):zA5 U u p2 W=
(zBO U W).bind λx1=>
bif (x1 !=0)then(some (x1,W))else
bif (decide (u<0))then(some (31,W))else
ptM U (none) λi6=>
(W.ge_tx i6).bind λx7=>
(yO x7.l_ W).bind λx9=>
bif (decide (u>=x9))then(some (31,W))else
bif ((p2.length:Int) !=64)then(some (2,W))else
(zBK p2).bind λα=>
(W.ge_mp x7.now_).bind λZ=>
let J:(List (Int×Y)):=(mset Z u α);let I:=(W.st_mp x7.now_ J);some (0,I):=by simp only[zA5,zJG,rn]<;>rfl
def zBQ(I:List Int)(u:Hp):Option ((List Int)×Int×Hp):=
some (I,0,u)
theorem zJP(I:List Int)(u:Hp):(zDk I u).run Env.nil=zBQ I u:=by simp only[zDk,rn]<;>rfl
def zAL(k1:((List Int)×Hp)->Option ((List Int)×Int×Hp))(p1:Int)(p0:O)(i5:Nat):Nat->List Int->Int->Hp->Option ((List Int)×Int×Hp)
 |0,_,_,_=>none
 |n0+1,J,I,u=>
  bif (decide ((J.length:Int)<p1))then((u.ge_sp i5).bind λZ=>
  (u.ge_w64 Z.l_.1).bind λW=>
  (lenI W.length Z.l_.2).bind λδ=>
  (idx W I).bind λU=>
  bif ((IntKind.u64.wrap ((((BitVec.ofInt IntKind.u64.bits 18446744073709551615)^^^(BitVec.ofInt IntKind.u64.bits U)).toNat:Nat):Int)) !=0)then((zCA (IntKind.u64.wrap ((((BitVec.ofInt IntKind.u64.bits 18446744073709551615)^^^(BitVec.ofInt IntKind.u64.bits U)).toNat:Nat):Int))).bind λα=>
  (zCZ p0 (wi ((wi (64*I))+α)) u).bind λβ=>
  (appI 8 J [(wi ((wi (64*I))+α))]).bind λγ=>
  zAL k1 p1 p0 i5 n0 γ I β)else
  zAL k1 p1 p0 i5 n0 J (wi (I+1)) u)else
  k1 (J,u)
theorem zJA(k1:((List Int)×Hp)->Option ((List Int)×Int×Hp))(J:Int)(I:O)(u:Nat)(U:I=some u):∀n q,lpn (λk (q:(List Int)×Int×Hp)=>(zDl J I u U q.1 q.2.1 q.2.2).run ((Env.nil.cons k1).cons k)) n q=zAL k1 J I u n q.1 q.2.1 q.2.2:=zAl (g:=λn (q:(List Int)×Int×Hp)=>zAL k1 J I u n q.1 q.2.1 q.2.2) (λ_=>rfl) λn q=>by simp only[zDl,rn]<;>rfl
def zCT(W:Hp)(u:Int)(I:O)(Z:Bool):Option ((List Int)×Int×Hp):=
bif Z then(some ([],1,W))else
bif (decide (u<0))then(some ([],2,W))else
ptM I (none) λJ=>
(W.ge_sp J).bind λU=>
bif (decide (u>U.free_))then(some ([],32,W))else
zAL (λq=>zBQ q.1 q.2) u I J (Int.toNat u+300) [] 0 W
theorem zJY(W:Hp)(I:Int)(J:O)(u:Bool):(zDf W I J u).run Env.nil=zCT W I J u:=by simp only[zDf,rn,zJP,zJA]<;>rfl
theorem zLv(u:O)(J:Int)(W:Hp):zBW u J W=
ptM u (zCT W J u true) λI=>
(W.ge_sp I).bind λx32=>
zCT W J u (!x32.is_):=by simp only[zBW,zG3,rn,zJY]<;>rfl
theorem zHa(J:zF)(u:O)(I:zH)(W:Hp):zAG J u I W=
(zBG I).bind λU=>
(zA5 u 0 U W).bind λZ=>
some Z.2:=by simp only[zAG,zEg,rn]<;>rfl
def zAe(x5:Nat)(p0:O)(i2:Nat)(W:Hp)(x3:zO):Nat->Int->Y->Option Y
 |0,_,_=>none
 |n0+1,u,J=>
  bif (decide (u<((x5:Nat):Int)))then((W.ge_w64 x3.l_.1).bind λI=>
  (lenI I.length x3.l_.2).bind λβ=>
  (idx I (wi (Int.tdiv u 8))).bind λZ=>
  (shrI .u64 Z (IntKind.u64.wrap (wi (8*(Int.tmod u 8))))).bind λU=>
  (idx J u).bind λγ=>
  zAe x5 p0 i2 W x3 n0 (wi (u+1)) (J.set (Int.toNat u) (U8 U)))else
  (neI J).bind λα=>
  some J
theorem zIr(U:Nat)(I:O)(u:Nat)(h1:I=some u)(W:Hp)(J:zO)(Z:W.ge_sp u=some J):∀n q,lpn (λk (q:Int×Y)=>(zDN U I u h1 W J Z q.1 q.2).run (Env.nil.cons k)) n q=zAe U I u W J n q.1 q.2:=zAl (g:=λn (q:Int×Y)=>zAe U I u W J n q.1 q.2) (λ_=>rfl) λn q=>by simp only[zDN,rn]<;>rfl
theorem zLD(I:O)(W:Hp):zB4 I W=
ptM I (some []) λJ=>
(W.ge_sp J).bind λU=>
(mkI 1 (wi (Int.tdiv (wi (U.n_+7)) 8))).bind λu=>
zAe u I J W U (Int.toNat ((u:Nat):Int)+1) 0 (List.replicate u (0:UInt8)):=by simp only[zB4,zGG,rn,zIr]<;>rfl
def qF(Z:zF)(W:Y)(x3:Nat)(J:O):Nat->Int->Hp->Option Hp
 |0,_,_=>none
 |n0+1,u,U=>
  bif (decide (u<Z.maps_))then((cutI (W++List.replicate x3 0) (wi (64*u)) (wi (64*(wi (u+1))))).bind λx8=>
  (zAi J (wi (1+u)) U).bind λI=>
  bif (I.2==0)then((zAQ I.1 x8).bind λβ=>
  bif (!β)then((zA5 J (wi (1+u)) x8 U).bind λα=>
  qF Z W x3 J n0 (wi (u+1)) α.2)else
  qF Z W x3 J n0 (wi (u+1)) U)else
  qF Z W x3 J n0 (wi (u+1)) U)else
  some U
theorem zFy(U:zF)(u:Y)(J:Nat)(I:O):∀n q,lpn (λk (q:Int×Hp)=>(zBk U u J I q.1 q.2).run (Env.nil.cons k)) n q=qF U u J I n q.1 q.2:=zAl (g:=λn (q:Int×Hp)=>qF U u J I n q.1 q.2) (λ_=>rfl) λn q=>by simp only[zBk,rn]<;>rfl
theorem zHD(u:zF)(I:O)(J:O)(W:Hp):yU u I J W=
(zB4 J W).bind λU=>
(apzI 1 U.length 64).bind λZ=>
qF u U Z I (Int.toNat u.maps_+1) 0 W:=by simp only[yU,zCe,rn,zFy]<;>rfl
theorem zFj(U:O)(W:Hp):yN U W=
ptM U (none) λJ=>
(W.ge_dk J).bind λu=>
bif (decide (u.fuse_<0))then(some (false,W))else
let Z:zP:=(zP.mk u.kept_ u.now_ u.wait_ u.fuse_ (u.fuse_==0) u.lives_);let w6:=(W.st_dk J Z);let I:zP:=(zP.mk u.kept_ u.now_ u.wait_ (wi (Z.fuse_-1)) (u.fuse_==0) u.lives_);let w9:=(w6.st_dk J I);some (I.off_,w9):=by simp only[yN,zId,rn]<;>rfl
theorem zFP(p0:O)(Z:Int)(p2:Y)(W:Hp):zZ p0 Z p2 W=
(zAj p0 Z W).bind λx1=>
bif (x1 !=0)then(some (x1,W))else
bif ((p2.length:Int) !=64)then(some (2,W))else
(s2aI 64 p2).bind λx5=>
ptM p0 (none) λi8=>
(W.ge_dk i8).bind λU=>
(appI 72 U.wait_ [(qP.mk Z x5)]).bind λβ=>
let u:zP:=(zP.mk U.kept_ U.now_ β U.fuse_ U.off_ U.lives_);let α:=(W.st_dk i8 u);(α.ge_sec u.now_.1).bind λJ=>
(lenI J.length u.now_.2).bind λζ=>
(idx J Z).bind λε=>
let δ:(List Y):=(J.set (Int.toNat Z) x5);let γ:=(α.st_sec u.now_.1 δ);(yN p0 γ).bind λI=>
bif I.1 then(some (30,I.2))else
some (0,I.2):=by simp only[zZ,zHg,rn]<;>rfl
def zBi(W:O)(U:Hp):Option (Int×Hp):=
ptM W (none) λZ=>
(U.ge_dk Z).bind λu=>
let J:zP:=(zP.mk u.kept_ u.now_ [] u.fuse_ u.off_ u.lives_);let I:=(U.st_dk Z J);some (0,I)
theorem zKD(I:O)(u:Hp):(zEA I u).run Env.nil=zBi I u:=by simp only[zEA,rn]<;>rfl
def qI(k1:Hp->Option (Int×Hp))(Z:zP)(p0:O)(α:Nat):Nat->Int->Hp->Option (Int×Hp)
 |0,_,_=>none
 |n0+1,U,u=>
  bif (decide (U<(Z.wait_.length:Int)))then((idx Z.wait_ U).bind λI=>
  (u.ge_dk α).bind λW=>
  (u.ge_sec W.kept_.1).bind λJ=>
  (lenI J.length W.kept_.2).bind λε=>
  (idx J I.n_).bind λδ=>
  let γ:(List Y):=(J.set (Int.toNat I.n_) I.b_);let β:=(u.st_sec W.kept_.1 γ);qI k1 Z p0 α n0 (wi (U+1)) β)else
  k1 u
theorem zKH(k1:Hp->Option (Int×Hp))(I:zP)(J:O)(u:Nat)(U:J=some u):∀n q,lpn (λk (q:Int×Hp)=>(zD4 I J u U q.1 q.2).run ((Env.nil.cons k1).cons k)) n q=qI k1 I J u n q.1 q.2:=zAl (g:=λn (q:Int×Hp)=>qI k1 I J u n q.1 q.2) (λ_=>rfl) λn q=>by simp only[zD4,rn]<;>rfl
theorem zFL(u:O)(W:Hp):qB u W=
(zAj u 0 W).bind λZ=>
bif (Z !=0)then(some (Z,W))else
(yN u W).bind λU=>
bif U.1 then(some (30,U.2))else
ptM u (none) λJ=>
(U.2.ge_dk J).bind λI=>
qI (zBi u) I u J (I.wait_.length+1) 0 U.2:=by simp only[qB,zHS,rn,zKD,zKH]<;>rfl
def zAr(U:List zB)(Z:O):Nat->Int->Hp->Option (Int×Hp)
 |0,_,_=>none
 |n0+1,W,I=>
  bif (decide (W<(U.length:Int)))then((idx U W).bind λx4=>
  ptM Z (none) λi7=>
  (I.ge_lg i7).bind λx8=>
  (zCb Z x4.Home I).bind λJ=>
  (zZ x8.d_ J x4.Data I).bind λu=>
  bif (u.1 !=0)then(some (u.1,u.2))else
  zAr U Z n0 (wi (W+1)) u.2)else
  some (0,I)
theorem zMq(u:List zB)(I:O):∀n q,lpn (λk (q:Int×Hp)=>(zFN u I q.1 q.2).run (Env.nil.cons k)) n q=zAr u I n q.1 q.2:=zAl (g:=λn (q:Int×Hp)=>zAr u I n q.1 q.2) (λ_=>rfl) λn q=>by simp only[zFN,rn]<;>rfl
theorem zKh(I:O)(u:List zB)(W:Hp):zBL I u W=
zAr u I (u.length+1) 0 W:=by simp only[zBL,zKi,rn,zMq]<;>rfl
theorem zR0(u:Y)(X:Nat)(n0:Nat)(I:Int):qQ u X n0 I=
(zFK I ((n0:Nat):Int)).bind λU=>
(cpyI u X n0 U.1).bind λJ=>
(lenI J.length u.length).bind λZ=>
some J:=by simp only[qQ,zJu,rn]<;>rfl
theorem zOe(U:Int)(p1:Int)(W:Hp):zB8 U p1 W=
(mkI 1 64).bind λI=>
(vcut I 0 8).bind λx3=>
(qQ (List.replicate I (0:UInt8)) (0+Int.toNat 0*1) (Int.toNat 8-Int.toNat 0) U).bind λZ=>
(lenI Z.length (List.replicate I (0:UInt8)).length).bind λx7=>
(vcut I 8 12).bind λx9=>
(qQ Z (0+Int.toNat 8*1) (Int.toNat 12-Int.toNat 8) p1).bind λu=>
(lenI u.length Z.length).bind λγ=>
(vcut I 56 (I:Int)).bind λβ=>
(qQ u (0+Int.toNat 56*1) (Int.toNat (I:Int)-Int.toNat 56) U).bind λJ=>
(lenI J.length u.length).bind λα=>
some J:=by simp only[zB8,zGZ,rn]<;>rfl
theorem zJW(p0:O)(W:Hp):zB6 p0 W=
ptM p0 (none) λZ=>
(W.ge_lg Z).bind λJ=>
(zB8 (wi (J.base_+J.size_)) J.size_ W).bind λx5=>
(zZ J.d_ (wi (1-J.slot_)) x5 W).bind λx7=>
bif (x7.1 !=0)then(some (x7.1,x7.2))else
(x7.2.ge_lg Z).bind λα=>
(qB α.d_ x7.2).bind λI=>
bif (I.1 !=0)then(some (I.1,I.2))else
(I.2.ge_lg Z).bind λu=>
let δ:zW:=(zW.mk u.d_ u.size_ u.base_ (wi (1-J.slot_)) u.used_ u.life_ u.commits_);let γ:=(I.2.st_lg Z δ);let U:zW:=(zW.mk u.d_ u.size_ u.base_ (wi (1-J.slot_)) 0 u.life_ u.commits_);let ζ:=(γ.st_lg Z U);let ε:zW:=(zW.mk u.d_ u.size_ (wi (U.base_+U.size_)) (wi (1-J.slot_)) 0 u.life_ u.commits_);let β:=(ζ.st_lg Z ε);some (0,β):=by simp only[zB6,zJn,rn]<;>rfl
theorem zFx(I:O)(W:Hp):yY I W=
(zAP I W).bind λZ=>
bif (Z !=0)then(some (Z,W))else
ptM I (none) λi5=>
(W.ge_lg i5).bind λU=>
bif (decide (U.base_>(wi (2305843009213693952-U.size_))))then(some (3,W))else
(qB U.d_ W).bind λJ=>
bif (J.1 !=0)then(some (J.1,J.2))else
(zB6 I J.2).bind λu=>
some (u.1,u.2):=by simp only[yY,zFu,rn]<;>rfl
theorem zO6(I:O)(W:Hp):zEL I W=
ptM I (some 0) λJ=>
(W.ge_lg J).bind λu=>
some (wi (u.size_-u.used_)):=by simp only[zEL,zKX,rn]<;>rfl
def zEP(J:List zB)(u:List zG):Option (List zG):=
(appI 48 u [(zG.mk 3 (J.length:Int) [] false)]).bind λI=>
some I
theorem zNe(I:List zB)(u:List zG):(zFk I u).run Env.nil=zEP I u:=by simp only[zFk,rn]<;>rfl
def zCR(k1:(List zG)->Option (List zG))(J:List zB):Nat->List zG->Int->Option (List zG)
 |0,_,_=>none
 |n0+1,W,Z=>
  bif (decide (Z<(J.length:Int)))then((idx J Z).bind λu=>
  (cutI u.Data 0 32).bind λx9=>
  (cutI u.Data 32 (u.Data.length:Int)).bind λI=>
  (appI 48 W [(zG.mk 1 u.Home x9 false),(zG.mk 2 u.Home I false)]).bind λU=>
  zCR k1 J n0 U (wi (Z+1)))else
  k1 W
theorem zNM(k1:(List zG)->Option (List zG))(u:List zB):∀n q,lpn (λk (q:(List zG)×Int)=>(zFc u q.1 q.2).run ((Env.nil.cons k1).cons k)) n q=zCR k1 u n q.1 q.2:=zAl (g:=λn (q:(List zG)×Int)=>zCR k1 u n q.1 q.2) (λ_=>rfl) λn q=>by simp only[zFc,rn]<;>rfl
theorem zQX(u:List zB):zE1 u=
zCR (zEP u) u (u.length+1) [] 0:=by simp only[zE1,zLj,rn,zNe,zNM]<;>rfl
theorem zMs(Z:zG)(p1:Int)(W:Hp):zAY Z p1 W=
(mkI 1 64).bind λu=>
(idx (List.replicate u (0:UInt8)) 0).bind λx3=>
(vcut u 1 5).bind λx5=>
(qQ ((List.replicate u (0:UInt8)).set (Int.toNat 0) (U8 Z.kind_)) (0+Int.toNat 1*1) (Int.toNat 5-Int.toNat 1) Z.number_).bind λx7=>
(lenI x7.length ((List.replicate u (0:UInt8)).set (Int.toNat 0) (U8 Z.kind_)).length).bind λx9=>
(vcut u 5 37).bind λε=>
(cpyI x7 (0+Int.toNat 5*1) (Int.toNat 37-Int.toNat 5) Z.data_).bind λJ=>
(lenI J.length x7.length).bind λζ=>
(vcut u 56 (u:Int)).bind λμ=>
(qQ J (0+Int.toNat 56*1) (Int.toNat (u:Int)-Int.toNat 56) p1).bind λI=>
(lenI I.length J.length).bind λθ=>
(vcut u 52 56).bind λδ=>
(vcut u 0 52).bind λη=>
(vcut u 56 (u:Int)).bind λκ=>
(zGp I (0+Int.toNat 0*1) (Int.toNat 52-Int.toNat 0)).bind λγ=>
(zGp I (0+Int.toNat 56*1) (Int.toNat (u:Int)-Int.toNat 56)).bind λα=>
(zHW [γ,α]).bind λβ=>
(qQ I (0+Int.toNat 52*1) (Int.toNat 56-Int.toNat 52) (wi β)).bind λU=>
(lenI U.length I.length).bind λι=>
some U:=by simp only[zAY,zHe,rn]<;>rfl
def zAS(p0:O)(W:List zB)(y5:Hp):Option (Int×Hp):=
ptM p0 (none) λZ=>
(y5.ge_lg Z).bind λx8=>
(qB x8.d_ y5).bind λI=>
bif (I.1 !=0)then(some (I.1,I.2))else
(I.2.ge_lg Z).bind λu=>
let J:zW:=(zW.mk u.d_ u.size_ u.base_ u.slot_ (wi (u.used_+(wi ((wi (2*(W.length:Int)))+1)))) u.life_ u.commits_);let α:=(I.2.st_lg Z J);let β:zW:=(zW.mk u.d_ u.size_ u.base_ u.slot_ (wi (u.used_+(wi ((wi (2*(W.length:Int)))+1)))) u.life_ (wi (J.commits_+1)));let γ:=(α.st_lg Z β);(zBL p0 W γ).bind λU=>
some (U.1,U.2)
theorem zLQ(J:O)(u:List zB)(I:Hp):(zEc J u I).run Env.nil=zAS J u I:=by simp only[zEc,rn]<;>rfl
def zAN(k1:Hp->Option (Int×Hp))(U:List zG)(p0:O):Nat->Int->Hp->Option (Int×Hp)
 |0,_,_=>none
 |n0+1,u,J=>
  bif (decide (u<(U.length:Int)))then((idx U u).bind λα=>
  ptM p0 (none) λZ=>
  (J.ge_lg Z).bind λx32=>
  (zAY α (wi (x32.base_+(wi (x32.used_+u)))) J).bind λW=>
  (zZ x32.d_ (wi (2+(wi (x32.used_+u)))) W J).bind λI=>
  bif (I.1 !=0)then(some (I.1,I.2))else
  zAN k1 U p0 n0 (wi (u+1)) I.2)else
  k1 J
theorem zLC(k1:Hp->Option (Int×Hp))(u:List zG)(I:O):∀n q,lpn (λk (q:Int×Hp)=>(zEX u I q.1 q.2).run ((Env.nil.cons k1).cons k)) n q=zAN k1 u I n q.1 q.2:=zAl (g:=λn (q:Int×Hp)=>zAN k1 u I n q.1 q.2) (λ_=>rfl) λn q=>by simp only[zEX,rn]<;>rfl
def zBI(J:O)(I:List zB)(U:Hp):Option (Int×Hp):=
(zE1 I).bind λu=>
zAN (zAS J I) u J (u.length+1) 0 U
theorem zK7(J:O)(I:List zB)(u:Hp):(zEa J I u).run Env.nil=zBI J I u:=by simp only[zEa,rn,zLQ,zLC]<;>rfl
def qN(I:List zB)(J:O)(W:Hp):Option (Int×Hp):=
ptM J (none) λZ=>
(W.ge_lg Z).bind λα=>
bif (decide ((wi ((wi (2*(I.length:Int)))+1))>α.size_))then(some (3,W))else
bif ((I.length:Int)==0)then(some (0,W))else
(zEL J W).bind λU=>
bif (decide ((wi ((wi (2*(I.length:Int)))+1))>U))then((yY J W).bind λu=>
bif (u.1 !=0)then(some (u.1,u.2))else
zBI J I u.2)else
zBI J I W
theorem zLI(u:List zB)(I:O)(W:Hp):(zEY u I W).run Env.nil=qN u I W:=by simp only[zEY,rn,zK7]<;>rfl
def qO(k1:Unit->Option (Int×Hp))(J:List zB)(W:Hp)(Z:O):Nat->Int->Option (Int×Hp)
 |0,_=>none
 |n0+1,u=>
  bif (decide (u<(J.length:Int)))then((idx J u).bind λI=>
  bif (decide (I.Home<0))then(some (2,W))else
  (yO Z W).bind λU=>
  bif (decide (I.Home>=U))then(some (2,W))else
  bif ((I.Data.length:Int) !=64)then(some (2,W))else
  qO k1 J W Z n0 (wi (u+1)))else
  k1 ()
theorem zK2(k1:Unit->Option (Int×Hp))(u:List zB)(W:Hp)(I:O):∀n q,lpn (λk (q:Int)=>(zEU u W I q).run ((Env.nil.cons k1).cons k)) n q=qO k1 u W I n q:=zAl (g:=λn (q:Int)=>qO k1 u W I n q) (λ_=>rfl) λn q=>by simp only[zEU,rn]<;>rfl
theorem zIR(I:O)(u:List zB)(W:Hp):zAT I u W=
(zAP I W).bind λJ=>
bif (J !=0)then(some (J,W))else
qO (λq=>qN u I W) u W I (u.length+1) 0:=by simp only[zAT,zIS,rn,zLI,zK2]<;>rfl
def zC8(Z:O)(W:Nat)(J:Hp)(U:zAF)(I:List zB):Option (Int×Hp):=
(zAT U.l_ I J).bind λu=>
some (u.1,u.2)
theorem zLA(U:O)(I:Nat)(h4:U=some I)(J:Hp)(W:zAF)(Z:J.ge_tx I=some W)(u:List zB):(zER U I h4 J W Z u).run Env.nil=zC8 U I J W u:=by simp only[zER,rn]<;>rfl
def zAR(k1:(List zB)->Option (Int×Hp))(u:List Int)(p0:O)(i5:Nat)(w8:Hp)(x9:zAF)(U:(List (Int×Y))):Nat->List zB->Int->Option (Int×Hp)
 |0,_,_=>none
 |n0+1,Z,I=>
  bif (decide (I<(u.length:Int)))then((idx u I).bind λJ=>
  (appI 32 Z [(zB.mk J ((zCG U J).getD ([]:Y)))]).bind λW=>
  zAR k1 u p0 i5 w8 x9 U n0 W (wi (I+1)))else
  k1 Z
theorem zLN(k1:(List zB)->Option (Int×Hp))(I:List Int)(W:O)(U:Nat)(h4:W=some U)(J:Hp)(Z:zAF)(α:J.ge_tx U=some Z)(u:(List (Int×Y)))(β:J.ge_mp Z.now_=some u):∀n q,lpn (λk (q:(List zB)×Int)=>(zEV I W U h4 J Z α u β q.1 q.2).run ((Env.nil.cons k1).cons k)) n q=zAR k1 I W U J Z u n q.1 q.2:=zAl (g:=λn (q:(List zB)×Int)=>zAR k1 I W U J Z u n q.1 q.2) (λ_=>rfl) λn q=>by simp only[zEV,rn]<;>rfl
theorem zUS(I:O)(u:Int)(W:Hp):zEl I u W=
bif (decide (u>=3))then((qH I W).bind λJ=>
some (decide (u<=(wi ((wi (J-2))-1)))))else
some false:=by simp only[zEl,zPg,rn]<;>rfl
def zAh(U:O)(p1:Int)(W:Hp):Option (Int×Hp):=
(qB U W).bind λJ=>
bif (J.1 !=0)then(some (J.1,J.2))else
(zB8 1 p1 J.2).bind λZ=>
(zZ U 0 Z J.2).bind λu=>
bif (u.1 !=0)then(some (u.1,u.2))else
(qB U u.2).bind λI=>
some (I.1,I.2)
theorem zOY(J:O)(I:Int)(u:Hp):(zGM J I u).run Env.nil=zAh J I u:=by simp only[zGM,rn]<;>rfl
def zAJ(k1:Hp->Option (Int×Hp))(Z:Int)(W:O):Nat->Int->Hp->Option (Int×Hp)
 |0,_,_=>none
 |n0+1,I,J=>
  bif (decide (I<(wi (2+Z))))then((mkI 1 64).bind λU=>
  (zZ W I (List.replicate U (0:UInt8)) J).bind λu=>
  bif (u.1 !=0)then(some (u.1,u.2))else
  zAJ k1 Z W n0 (wi (I+1)) u.2)else
  k1 J
theorem zOE(k1:Hp->Option (Int×Hp))(u:Int)(I:O):∀n q,lpn (λk (q:Int×Hp)=>(zGb u I q.1 q.2).run ((Env.nil.cons k1).cons k)) n q=zAJ k1 u I n q.1 q.2:=zAl (g:=λn (q:Int×Hp)=>zAJ k1 u I n q.1 q.2) (λ_=>rfl) λn q=>by simp only[zGb,rn]<;>rfl
theorem zJQ(I:O)(u:Int)(W:Hp):zBV I u W=
(qH I W).bind λJ=>
bif (J==0)then(some (1,W))else
(zEl I u W).bind λU=>
bif (!U)then(some (2,W))else
zAJ (zAh I u) u I (Int.toNat (wi (2+u))+1) 1 W:=by simp only[zBV,zM4,rn,zOY,zOE]<;>rfl
theorem zHL(p0:O)(p1:Int)(W:Hp):zAg p0 p1 W=
(zAk p0 p1 W).bind λI=>
bif (I.2 !=0)then(some (0,0,false))else
(cutI I.1 0 8).bind λx4=>
(zBX x4).bind λU=>
(cutI I.1 56 (I.1.length:Int)).bind λx8=>
(zBX x8).bind λJ=>
(cutI I.1 8 12).bind λZ=>
(zBX Z).bind λu=>
bif (U.2 !=0)then(some (0,0,false))else
bif (J.2 !=0)then(some (0,0,false))else
bif (u.2 !=0)then(some (0,0,false))else
bif (U.1 !=J.1)then(some (0,0,false))else
bif (decide (U.1<1))then(some (0,0,false))else
bif (decide (U.1>2305843009213693952))then(some (0,0,false))else
(zEl p0 u.1 W).bind λβ=>
bif (!β)then(some (0,0,false))else
(cutI I.1 12 56).bind λα=>
(zD0 α).bind λγ=>
bif (!γ)then(some (0,0,false))else
some (U.1,u.1,true):=by simp only[zAg,zKn,rn]<;>rfl
theorem zRA(p0:O)(U:Int)(W:Hp):zBP p0 U W=
ptM p0 (none) λi2=>
(W.ge_lg i2).bind λx3=>
bif (decide (U>=x3.size_))then(some (zG.mk 0 0 [] false))else
(zAk x3.d_ (wi (2+U)) W).bind λJ=>
bif (J.2 !=0)then(some (zG.mk 0 0 [] false))else
(idx J.1 0).bind λx9=>
(cutI J.1 5 37).bind λu=>
(cutI J.1 1 5).bind λβ=>
(zBX β).bind λI=>
(zAY (zG.mk (x9.toNat:Int) I.1 u false) (wi (x3.base_+U)) W).bind λα=>
(zAQ J.1 α).bind λZ=>
some (zG.mk (x9.toNat:Int) I.1 u Z):=by simp only[zBP,zM7,rn]<;>rfl
def yC(u:List Y):Nat->Y->Int->Option Y
 |0,_,_=>none
 |n0+1,J,I=>
  bif (decide (I<(u.length:Int)))then((idx u I).bind λZ=>
  (appI 1 J Z).bind λU=>
  yC u n0 U (wi (I+1)))else
  some J
theorem zIA(u:List Y):∀n q,lpn (λk (q:Y×Int)=>(zCw u q.1 q.2).run (Env.nil.cons k)) n q=yC u n q.1 q.2:=zAl (g:=λn (q:Y×Int)=>yC u n q.1 q.2) (λ_=>rfl) λn q=>by simp only[zCw,rn]<;>rfl
def zAX(u:List Y)(I:Int):Option Y:=
(zDg I).bind λJ=>
yC u (u.length+1) J 0
theorem zIL(I:List Y)(u:Int):(zC5 I u).run Env.nil=zAX I u:=by simp only[zC5,rn,zIA]<;>rfl
def yE(k1:Int->Option Y)(U:List Y):Nat->Int->Int->Option Y
 |0,_,_=>none
 |n0+1,I,u=>
  bif (decide (u<(U.length:Int)))then((idx U u).bind λJ=>
  bif (decide ((wi (I+(J.length:Int)))<0))then(none)else
  yE k1 U n0 (wi (I+(J.length:Int))) (wi (u+1)))else
  k1 I
theorem zH4(k1:Int->Option Y)(u:List Y):∀n q,lpn (λk (q:Int×Int)=>(zCt u q.1 q.2).run ((Env.nil.cons k1).cons k)) n q=yE k1 u n q.1 q.2:=zAl (g:=λn (q:Int×Int)=>yE k1 u n q.1 q.2) (λ_=>rfl) λn q=>by simp only[zCt,rn]<;>rfl
theorem zKJ(u:List Y):zA7 u=
yE (zAX u) u (u.length+1) 0 0:=by simp only[zA7,zFw,rn,zIL,zH4]<;>rfl
def zBd(k0:((List zB)×Int)->Option ((List zB)×Int))(z1:List zB)(J:Int)(p1:Int)(I:zG)(p0:O)(W:Hp)(y6:Bool):Option ((List zB)×Int):=
bif y6 then(some (z1,(wi ((wi (J+1))-p1))))else
bif (I.kind_ !=1)then(some ([],0))else
(yO p0 W).bind λx9=>
bif (decide (I.number_>=x9))then(some ([],0))else
(zBP p0 (wi (J+1)) W).bind λu=>
bif (!u.ok_)then(some ([],0))else
bif (u.kind_ !=2)then(some ([],0))else
bif (u.number_ !=I.number_)then(some ([],0))else
(zA7 [I.data_,u.data_]).bind λZ=>
(appI 32 z1 [(zB.mk I.number_ Z)]).bind λU=>
k0 (U,(wi (J+2)))
theorem zNU(k0:((List zB)×Int)->Option ((List zB)×Int))(Z:List zB)(J:Int)(I:Int)(x3:zG)(U:O)(W:Hp)(u:Bool):(zFg Z J I x3 U W u).run (Env.nil.cons k0)=zBd k0 Z J I x3 U W u:=by simp only[zFg,rn]<;>rfl
def qW(u:O)(W:Hp)(I:Int):Nat->List zB->Int->Option ((List zB)×Int)
 |0,_,_=>none
 |n0+1,U,Z=>
  (zBP u Z W).bind λJ=>
  bif (!J.ok_)then(some ([],0))else
  bif (J.kind_==3)then(bif (decide ((U.length:Int)>0))then(bif (J.number_==(U.length:Int))then((zD0 J.data_).bind λα=>
  zBd (λq=>qW u W I n0 q.1 q.2) U Z I J u W α)else
  zBd (λq=>qW u W I n0 q.1 q.2) U Z I J u W false)else
  zBd (λq=>qW u W I n0 q.1 q.2) U Z I J u W false)else
  zBd (λq=>qW u W I n0 q.1 q.2) U Z I J u W false
theorem zNb(I:O)(W:Hp)(u:Int):∀n q,lpn (λk (q:(List zB)×Int)=>(zFi I W u q.1 q.2).run (Env.nil.cons k)) n q=qW I W u n q.1 q.2:=zAl (g:=λn (q:(List zB)×Int)=>qW I W u n q.1 q.2) (λ_=>rfl) λn q=>by simp only[zFi,rn,zNU]<;>rfl
theorem zH9(I:O)(u:Int)(W:Hp):zCx I u W=
qW I W u (16400) [] u:=by simp only[zCx,zME,rn,zNb]<;>rfl
def yS(J:O)(W:Hp):Nat->List zB->Int->Option (List zB)
 |0,_,_=>none
 |n0+1,U,I=>
  (zCx J I W).bind λu=>
  bif (u.2==0)then(some U)else
  (appI 32 U u.1).bind λZ=>
  yS J W n0 Z (wi (I+u.2))
theorem zMh(u:O)(W:Hp):∀n q,lpn (λk (q:(List zB)×Int)=>(zFM u W q.1 q.2).run (Env.nil.cons k)) n q=yS u W n q.1 q.2:=zAl (g:=λn (q:(List zB)×Int)=>yS u W n q.1 q.2) (λ_=>rfl) λn q=>by simp only[zFM,rn]<;>rfl
theorem zKe(u:O)(W:Hp):zBr u W=
yS u W (16400) [] 0:=by simp only[zBr,zKZ,rn,zMh]<;>rfl
def qS(W:Hp)(u:Hp):Option (O×Int×Hp):=
(u.ge_lg W.ln_lg).bind λU=>
bif (U.base_==0)then(some (none,11,u))else
bif (decide (U.base_>(wi (2305843009213693952-U.size_))))then(some (none,3,u))else
(zBr (some W.ln_lg) u).bind λZ=>
(zBL (some W.ln_lg) Z u).bind λI=>
bif (I.1 !=0)then(some (none,I.1,I.2))else
(yY (some W.ln_lg) I.2).bind λJ=>
bif (J.1 !=0)then(some (none,J.1,J.2))else
some ((some W.ln_lg),0,J.2)
theorem zQO(W:Hp)(u:Hp):(zIM W u).run Env.nil=qS W u:=by simp only[zIM,rn]<;>rfl
def zC0(k0:(Int×Hp)->Option (O×Int×Hp))(J:Hp)(W:Hp)(u:(Int×Int×Bool))(I:Int)(U:Bool):Option (O×Int×Hp):=
bif U then((J.ge_lg W.ln_lg).bind λx32=>
let δ:zW:=(zW.mk x32.d_ x32.size_ u.1 x32.slot_ x32.used_ x32.life_ x32.commits_);let Z:=(J.st_lg W.ln_lg δ);let β:zW:=(zW.mk x32.d_ u.2.1 u.1 x32.slot_ x32.used_ x32.life_ x32.commits_);let α:=(Z.st_lg W.ln_lg β);let ε:zW:=(zW.mk x32.d_ u.2.1 u.1 I x32.used_ x32.life_ x32.commits_);let γ:=(α.st_lg W.ln_lg ε);k0 ((wi (I+1)),γ))else
k0 ((wi (I+1)),J)
theorem zQU(Z:(Int×Hp)->Option (O×Int×Hp))(k1:Hp->Option (O×Int×Hp))(J:Hp)(W:Hp)(U:(Int×Int×Bool))(I:Int)(u:Bool):(zHx J W U I u).run ((Env.nil.cons k1).cons Z)=zC0 Z J W U I u:=by simp only[zHx,rn]<;>rfl
def qD(k1:Hp->Option (O×Int×Hp))(Z:O)(W:Hp):Nat->Int->Hp->Option (O×Int×Hp)
 |0,_,_=>none
 |n0+1,I,u=>
  bif (decide (I<2))then((zAg Z I u).bind λJ=>
  bif J.2.2 then((u.ge_lg W.ln_lg).bind λU=>
  zC0 (λq=>qD k1 Z W n0 q.1 q.2) u W J I (decide (J.1>U.base_)))else
  zC0 (λq=>qD k1 Z W n0 q.1 q.2) u W J I false)else
  k1 u
theorem zQY(k1:Hp->Option (O×Int×Hp))(u:O)(W:Hp):∀n q,lpn (λk (q:Int×Hp)=>(zID u W q.1 q.2).run ((Env.nil.cons k1).cons k)) n q=qD k1 u W n q.1 q.2:=zAl (g:=λn (q:Int×Hp)=>qD k1 u W n q.1 q.2) (λ_=>rfl) λn q=>by simp only[zID,rn,zQU]<;>rfl
theorem zMf(u:O)(W:Hp):zCQ u W=
(qH u W).bind λZ=>
bif (Z==0)then(some (none,1,W))else
(zCD u W).bind λJ=>
bif J then(some (none,30,W))else
(zAU u W).bind λx7=>
let I:zW:=(zW.mk u 0 0 0 0 x7 0);let U:=(W.nw_lg I);qD (qS W) u W (Int.toNat 2+1) 0 U:=by simp only[zCQ,zPj,rn,zQO,zQY]<;>rfl
def zBJ(W:Hp)(I:(O×Int×Hp))(p1:Int)(Z:Hp):Option (Int×Hp):=
(Z.ge_st W.ln_st).bind λη=>
(zEW η.geometry_.homes_ Z).bind λu=>
(u.2.2.ge_st W.ln_st).bind λδ=>
(zY δ.geometry_).bind λβ=>
(zBW u.1 β u.2.2).bind λα=>
(α.2.2.ge_st W.ln_st).bind λζ=>
(zAG ζ.geometry_ I.1 (zH.mk 0 p1 0 0) α.2.2).bind λU=>
(U.ge_st W.ln_st).bind λε=>
(yU ε.geometry_ I.1 u.1 U).bind λγ=>
(zC9 I.1 γ).bind λJ=>
some (J.1,J.2)
theorem zMQ(W:Hp)(u:(O×Int×Hp))(J:Int)(I:Hp):(zFH W u J I).run Env.nil=zBJ W u J I:=by simp only[zFH,rn]<;>rfl
def zAs(k1:Hp->Option (Int×Hp))(U:Int)(J:(O×Int×Hp)):Nat->Int->Hp->Option (Int×Hp)
 |0,_,_=>none
 |n0+1,u,I=>
  bif (decide (u<U))then((mkI 1 64).bind λW=>
  (zA5 J.1 u (List.replicate W (0:UInt8)) I).bind λZ=>
  zAs k1 U J n0 (wi (u+1)) Z.2)else
  k1 I
theorem zMV(k1:Hp->Option (Int×Hp))(I:Int)(u:(O×Int×Hp)):∀n q,lpn (λk (q:Int×Hp)=>(zFG I u q.1 q.2).run ((Env.nil.cons k1).cons k)) n q=zAs k1 I u n q.1 q.2:=zAl (g:=λn (q:Int×Hp)=>zAs k1 I u n q.1 q.2) (λ_=>rfl) λn q=>by simp only[zFG,rn]<;>rfl
theorem zFS(U:O)(p1:Int)(W:Hp):yV U p1 W=
(qH U W).bind λx1=>
bif (x1==0)then(some (1,W))else
(qH U W).bind λx4=>
(zCY x4).bind λx6=>
bif (decide (x6<1))then(some (2,W))else
bif (decide (p1<0))then(some (2,W))else
bif (decide (p1>2305843009213693952))then(some (2,W))else
(qH U W).bind λβ=>
(zEi β).bind λε=>
let Z:qE:=(qE.mk ε none);let γ:=(W.nw_st Z);(zBV U Z.geometry_.size_ γ).bind λJ=>
bif (J.1 !=0)then(some (J.1,J.2))else
(zCQ U J.2).bind λu=>
bif (u.2.1 !=0)then(some (u.2.1,u.2.2))else
(u.2.2.ge_st W.ln_st).bind λδ=>
let ζ:qE:=(qE.mk δ.geometry_ u.1);let η:=(u.2.2.st_st W.ln_st ζ);(zAf u.1 η).bind λI=>
bif (I.2.1 !=0)then(some (I.2.1,I.2.2))else
(I.2.2.ge_st W.ln_st).bind λθ=>
(zY θ.geometry_).bind λα=>
zAs (zBJ W I p1) α I (Int.toNat α+1) 0 I.2.2:=by simp only[yV,zKk,rn,zMQ,zMV]<;>rfl
theorem zT6(u:Int)(W:Hp):zDv u W=
bif (decide (u<1))then(some (none,2,W))else
bif (decide (u>16384))then(some (none,2,W))else
(mkI 64 u).bind λI=>
(mkI 64 u).bind λJ=>
some ((some ((W.nw_sec (List.replicate I ([]:Y))).nw_sec (List.replicate J ([]:Y))).ln_dk),0,(((W.nw_sec (List.replicate I ([]:Y))).nw_sec (List.replicate J ([]:Y))).nw_dk (zP.mk (W.ln_sec,I) ((W.nw_sec (List.replicate I ([]:Y))).ln_sec,J) [] (-1) false 0))):=by simp only[zDv,zPo,rn]<;>rfl
theorem zUd(J:Int)(I:Int)(W:Hp):zHk J I W=
(zDv (wi (1041+J)) W).bind λu=>
(yV u.1 I u.2.2).bind λZ=>
bif (Z.1 !=0)then(none)else
(zBU u.1 Z.2).bind λU=>
some (u.1,U.1,U.2.2):=by simp only[zHk,zMk,rn]<;>rfl
theorem zSF(W:Hp):zFJ W=
(zHk 30 1000 W).bind λJ=>
(zEd J.2.1 [(zQ.mk 2 [107] 0 [5])] J.2.2).bind λU=>
(zDs J.2.1 [107] U.2.2).bind λu=>
(zCY 1100).bind λZ=>
bif (Z==59)then(bif (U.2.1==0)then(bif (u.2.1==0)then(bif (U.1==1)then(bif (u.1.Version==1)then((zMM u.1.Data [5]).bind λI=>
some (I,u.2.2))else
none)else
none)else
none)else
none)else
none:=by simp only[zFJ,zOF,rn]<;>rfl
end
end Go.Proofs.YtocolhfjpadaoaaGreatDoor
