/-
  Lemmas of this claim, joined.
-/
import Derived.Test.YtocolhfjpadaoaaGreatDoorR16
import Derived.Lib.SmallJoins
set_option linter.unusedVariables false
set_option linter.unusedSimpArgs false
set_option linter.constructorNameAsVariable false
namespace Go.Proofs.YtocolhfjpadaoaaGreatDoor
open Go Go.RowKit
variable {P:Program}{w0:World}{w:World}{m0:Mem}{m:Mem}{o0:OwnM}{o:OwnM}{G:GD}{pins:List Nat}{N:Nat}{a:Act}{op:Oper}{S:Nat->A}{M:Nat->A}{L:SL}{v:Value}{W:World}{Q:Mem}{X:OwnM}
set_option maxRecDepth 100000
def sts{α:Type}(l:List α)(s:List (Nat×α)):List α:=s.foldl (λl x=>l.set x.1 x.2) l
def zs(s:List (Nat×UInt8)):List UInt8:=sts Z64 s
def K1:Hp:=⟨[⟨(0,1071),(1,1071),[],(-1),false,0⟩],[],[],[],[],[],[],[],[(List.replicate 1071 []),(List.replicate 1071 [])],[],[]⟩
def K2:Hp:={K1 with st:=[⟨⟨1033,36,1⟩,none⟩]}
def P1:List Y:=sts (A1 1071 1034) [(0,(zs [(7,1),(10,4),(11,9),(63,1)]))]
def K3:Hp:={K2 with sec:=[P1,P1]}
def P2:List Y:=sts P1 [(1,(zs [(6,4),(7,10),(10,4),(11,9),(62,4),(63,10)]))]
def K4:Hp:={K3 with lg:=[⟨(some 0),1033,1034,1,0,0,0⟩],sec:=[P2,P2]}
def P3:List Y:=sts P2 [(2,(zs [(0,1),(19,3),(20,232),(52,78),(53,127),(54,25),(55,243),(62,4),(63,10)])),(3,(zs [(0,2),(52,185),(53,122),(54,142),(55,219),(62,4),(63,11)])),(4,(zs [(0,1),(4,1),(5,63),(52,77),(53,16),(54,86),(55,139),(62,4),(63,12)])),(5,(zs [(0,2),(4,1),(52,77),(53,140),(54,56),(55,57),(62,4),(63,13)])),(6,(zs [(0,1),(4,2),(52,118),(53,63),(54,200),(55,42),(62,4),(63,14)])),(7,(zs [(0,2),(4,2),(52,133),(53,61),(54,109),(55,108),(62,4),(63,15)])),(8,(zs [(0,1),(4,3),(52,145),(53,165),(54,230),(55,158),(62,4),(63,16)])),(9,(zs [(0,2),(4,3),(52,98),(53,167),(54,67),(55,216),(62,4),(63,17)])),(10,(zs [(0,1),(4,4),(52,47),(53,64),(54,252),(55,151),(62,4),(63,18)])),(11,(zs [(0,2),(4,4),(52,220),(53,66),(54,89),(55,209),(62,4),(63,19)])),(12,(zs [(0,1),(4,5),(52,219),(53,182),(54,74),(55,117),(62,4),(63,20)])),(13,(zs [(0,2),(4,5),(52,40),(53,180),(54,239),(55,51),(62,4),(63,21)])),(14,(zs [(0,3),(4,6),(52,93),(53,209),(54,4),(55,127),(62,4),(63,22)]))]
def P4:List Y:=sts P3 [(1035,(zs [(14,3),(15,232)])),(1036,(zs [(0,63)])),(1037,Z64),(1038,Z64),(1039,Z64),(1040,Z64)]
def K5:Hp:=⟨[(zP.mk (0,1071) (1,1071) [(qP.mk 1035 (zs [(14,3),(15,232)])),(qP.mk 1036 (zs [(0,63)])),⟨1037,Z64⟩,⟨1038,Z64⟩,⟨1039,Z64⟩,⟨1040,Z64⟩] (-1) false 0)],[⟨(some 0),1033,1034,1,13,0,1⟩],[⟨(some 0),0,true,0⟩],[],[⟨36,30,(0,1),true⟩],[⟨⟨1033,36,1⟩,(some 0)⟩],[],[],[P3,P4],[[63]],[[(0,(zs [(14,3),(15,232)])),(1,(zs [(0,63)])),(2,Z64),(3,Z64),(4,Z64),(5,Z64)]]⟩
def P5:List Y:=sts P4 [(0,(zs [(6,8),(7,19),(10,4),(11,9),(62,8),(63,19)]))]
def K6:Hp:=⟨[⟨(0,1071),(1,1071),[],(-1),false,0⟩],[⟨(some 0),1033,1034,1,13,0,1⟩,⟨(some 0),1033,2067,0,0,0,0⟩],[⟨(some 0),0,true,0⟩,⟨(some 1),0,false,1⟩],[⟨(some 1),2⟩],[⟨36,30,(0,1),true⟩,⟨36,30,(1,1),true⟩],[⟨⟨1033,36,1⟩,(some 0)⟩,⟨⟨1033,36,1⟩,(some 1)⟩],[⟨(some 1),(some 1),(some 0),⟨0,1000,0,0⟩,(some 1)⟩],[],[P5,P5],[[63],[63]],[[(0,(zs [(14,3),(15,232)])),(1,(zs [(0,63)])),(2,Z64),(3,Z64),(4,Z64),(5,Z64)],[]]⟩
def P6:List Y:=sts P5 [(2,(zs [(0,1),(12,1),(19,3),(20,232),(28,1),(36,1),(52,203),(53,239),(54,114),(55,110),(62,8),(63,19)])),(3,(zs [(0,2),(52,152),(53,199),(54,204),(55,34),(62,8),(63,20)])),(4,(zs [(0,1),(4,1),(5,255),(52,104),(53,205),(54,140),(55,209),(62,8),(63,21)])),(5,(zs [(0,2),(4,1),(52,107),(53,92),(54,190),(55,217),(62,8),(63,22)])),(6,(zs [(0,1),(4,4),(52,243),(53,159),(54,71),(55,20),(62,8),(63,23)])),(7,(zs [(0,2),(4,4),(20,7),(52,29),(53,24),(54,60),(55,2),(62,8),(63,24)])),(8,(zs [(0,1),(4,6),(9,5),(52,123),(53,42),(54,124),(55,224),(62,8),(63,25)])),(9,(zs [(0,2),(4,6),(52,50),(53,1),(54,137),(55,215),(62,8),(63,26)])),(10,(zs [(0,1),(4,7),(16,1),(20,1),(24,6),(25,1),(26,107),(52,16),(53,245),(54,92),(55,54),(62,8),(63,27)])),(11,(zs [(0,2),(4,7),(52,198),(53,247),(54,63),(55,53),(62,8),(63,28)])),(12,(zs [(0,3),(4,5),(52,64),(53,9),(54,166),(55,130),(62,8),(63,29)]))]
def P7:List Y:=sts P6 [(1035,(zs [(7,1),(14,3),(15,232),(23,1),(31,1)])),(1036,(zs [(0,255)])),(1039,(zs [(47,7)])),(1041,(zs [(4,5)])),(1042,(zs [(11,1),(15,1),(19,6),(20,1),(21,107)]))]
def K7:Hp:=⟨[(zP.mk (0,1071) (1,1071) [(qP.mk 1035 (zs [(7,1),(14,3),(15,232),(23,1),(31,1)])),(qP.mk 1036 (zs [(0,255)])),(qP.mk 1039 (zs [(47,7)])),(qP.mk 1041 (zs [(4,5)])),(qP.mk 1042 (zs [(11,1),(15,1),(19,6),(20,1),(21,107)]))] (-1) false 0)],[⟨(some 0),1033,1034,1,13,0,1⟩,⟨(some 0),1033,2067,0,11,0,1⟩],[⟨(some 0),0,true,0⟩,⟨(some 1),0,false,1⟩,⟨(some 1),0,true,2⟩],[⟨(some 1),2⟩,⟨(some 2),2⟩],[⟨36,30,(0,1),true⟩,⟨36,30,(1,1),true⟩,⟨36,28,(2,1),true⟩],[⟨⟨1033,36,1⟩,(some 0)⟩,⟨⟨1033,36,1⟩,(some 1)⟩],[⟨(some 1),(some 1),(some 0),⟨0,1000,0,0⟩,(some 1)⟩,⟨(some 1),(some 2),(some 1),⟨1,1000,1,1⟩,(some 2)⟩],[],[P6,P7],[[63],[63],[255]],[[(0,(zs [(14,3),(15,232)])),(1,(zs [(0,63)])),(2,Z64),(3,Z64),(4,Z64),(5,Z64)],[],[(6,(zs [(4,5)])),(7,(zs [(11,1),(15,1),(19,6),(20,1),(21,107)])),(4,(zs [(47,7)])),(0,(zs [(7,1),(14,3),(15,232),(23,1),(31,1)])),(1,(zs [(0,255)]))]]⟩
def K8:Hp:={K7 with tx:=[⟨(some 0),0,true,0⟩,⟨(some 1),0,false,1⟩,⟨(some 1),0,true,2⟩,⟨(some 1),1,false,3⟩],ix:=[⟨(some 1),2⟩,⟨(some 2),2⟩,⟨(some 3),2⟩],sp:=[⟨36,30,(0,1),true⟩,⟨36,30,(1,1),true⟩,⟨36,28,(2,1),true⟩,⟨36,28,(3,1),true⟩],vw:=[⟨(some 1),(some 1),(some 0),⟨0,1000,0,0⟩,(some 1)⟩,⟨(some 1),(some 2),(some 1),⟨1,1000,1,1⟩,(some 2)⟩,⟨(some 1),(some 3),(some 2),⟨1,1000,1,1⟩,(some 3)⟩],w64:=[[63],[63],[255],[255]],mp:=[[(0,(zs [(14,3),(15,232)])),(1,(zs [(0,63)])),(2,Z64),(3,Z64),(4,Z64),(5,Z64)],[],[(6,(zs [(4,5)])),(7,(zs [(11,1),(15,1),(19,6),(20,1),(21,107)])),(4,(zs [(47,7)])),(0,(zs [(7,1),(14,3),(15,232),(23,1),(31,1)])),(1,(zs [(0,255)]))],[]]}
theorem k_disk:zDv 1071 Hp.e=some (some 0,0,K1):=by kernel_rfl
theorem k_format:zBV (some 0) 1033 K2=some (0,K3):=by rw[zJQ,show qH (some 0) K2=some 1071 by kernel_rfl,wA,zD (by rfl),show zEl (some 0) 1033 K2=some true by kernel_rfl,wA,zD (by rfl)];show zAJ _ ((1033:Nat):Int) (some 0) 1036 ((0+1:Nat):Int) K2=_;rw[show K2=Hz K2 1071 0 0 (W1 0) by kernel_rfl,zOI (by omega) (by omega) _ 1036 0 (by omega) (by omega)];show zAh (some 0) 1033 (Hz K2 1071 0 1034 (W1 1034))=_;unfold zAh;rw[z_flush (by omega) (by omega),wA,zD (by rfl)];kernel_rfl
theorem k_open:zCQ (some 0) K3=some ((some 0),(0,K4)):=by kernel_rfl
theorem k_rest{W H2 U Z:Hp}{J n m:Int}{g:zF}{R:Option (Int×Hp)}(h1:qH (some 0) W=some n)(h2:(n==0)=false)(h3:zCY n=some m)(h4:decide (m<1)=false)(h5:decide (J<0)=false)(h6:decide (J>2305843009213693952)=false)(h7:zEi n=some g)(h8:W.nw_st ⟨g,none⟩=H2)(h9:zBV (some 0) g.size_ H2=some (0,U))(α:zCQ (some 0) U=some (some 0,0,Z))
(h:((Z.ge_st W.ln_st).bind λε=>
  let δ:qE:=⟨ε.geometry_,some 0⟩;let β:=Z.st_st W.ln_st δ;(zAf (some 0) β).bind λu=>
  bif (u.2.1 !=0)then(some (u.2.1,u.2.2))else
  (u.2.2.ge_st W.ln_st).bind λγ=>
  (zY γ.geometry_).bind λI=>
  zAs (zBJ W u J) I u (Int.toNat I+1) 0 u.2.2)=R):yV (some 0) J W=R:=by
 subst h8
 rw[zFS,h1,wA,h2,cond_false,wA,h3,wA,h4,cond_false,h5,cond_false,h6,cond_false,wA,h7,wA]
 show Option.bind (zBV (some 0) g.size_ _) _=_
 rw[h9,wA]
 show Option.bind (zCQ (some 0) U) _=_
 rw[α,wA]
 exact h
theorem k_store:yV (some 0) 1000 K1=some (0,K5):=k_rest (n:=1071) (m:=30) (g:=⟨1033,36,1⟩) (H2:=K2) (by kernel_rfl) rfl (by kernel_rfl) rfl rfl rfl (by kernel_rfl) (by kernel_rfl) k_format k_open (by kernel_rfl)
theorem k_sopen:zBU (some 0) K5=some ((some 1),(0,K6)):=by kernel_rfl
theorem k_made:zHk 30 1000 Hp.e=some (some 0,some 1,K6):=by rw[zUd];show Option.bind (zDv 1071 Hp.e) _=_;rw[k_disk,wA,k_store,wA,zD (by rfl),k_sopen];rfl
theorem k_apply:zEd (some 1) [⟨2,[107],0,[5]⟩] K6=some (1,(0,K7)):=by kernel_rfl
theorem k_get:zDs (some 1) [107] K7=some (⟨1,[5]⟩,(0,K8)):=by kernel_rfl
theorem k_awake:zFJ Hp.e=some (true,K8):=by rw[zSF,k_made,wA,k_apply,wA,k_get,wA,show zCY 1100=some 59 by kernel_rfl,wA];kernel_rfl
theorem zRc(J I u:Int)(U:0<=u):∃Z,zCk J I u Hp.e=some (true,Z):=zSH J I u U k_awake
theorem zNh(J u I:Int)(r:Bool)(h:∃H,zCk J u I Hp.e=some (r,H)):FC Tryz.prog 4 [.t (.d (.lit (.int .i64 J))),.t (.d (.lit (.int .i64 u))),.t (.d (.lit (.int .u16 I)))] [] (.t (.d (.lit (.bool r)))):=by obtain⟨H,h⟩:=h;exact fc_of_h (zMt J u I Hp.e _ h) hpA_e rfl (by show 3<=OB;decide)
end Go.Proofs.YtocolhfjpadaoaaGreatDoor
namespace Go.Proofs.YtocolhfjpadaoaaGreatDoor
open Go Go.RowKit Go.ChangeShapes Go.WideShapes Go.ChangeAt
set_option linter.unusedVariables false
set_option maxRecDepth 20000
def memW(w:World):Mem:=λb p=>w.cell? ⟨b,p,none⟩
theorem memW_sat(w:World):∀b p u,memW w b p=some u->w.cell? ⟨b,p,none⟩=some u:=λ_ _ _ h=>h
def OpT{H:Type}(enc:TypeId×Value->H)(w:World){α:Type}(t:TypeId)(c:α->List D)(ok:α->Prop):Prop:=
 ∀(base:Nat) (u:Nat->Bool) (J:Bool) (I:Nat) (U:List Value) (x:DataW H×List MemPlace),DataW.trod enc Tryz.prog w base u J I t U=some x->∃v:α,RepL (memW w) (c v) U/\ok v
def OpF{H:Type}(enc:TypeId×Value->H)(w:World){α:Type}(m:Nat)(t:TypeId)(c:α->List D)(ok:α->Prop):Prop:=
 ∀(base:Nat) (I:Nat->Bool) (J:Bool) (u:Nat) (U:List Value) (x:DataW H×List MemPlace),u<m->DataW.trod enc Tryz.prog w base I J u t U=some x->∃v:α,RepL (memW w) (c v) U/\ok v
theorem OpT.lt{H:Type}{enc:TypeId×Value->H}{w:World}{α:Type}{t:TypeId}{c:α->List D}{ok:α->Prop}(h:OpT enc w t c ok)(m:Nat):OpF enc w m t c ok:=λb s l f u x _ k=>h b s l f u x k
theorem OpT.of{H:Type}{enc:TypeId×Value->H}{w:World}{α:Type}{t:TypeId}{c:α->List D}{ok:α->Prop}(h:∀m,OpF enc w m t c ok):OpT enc w t c ok:=λb s l f u x k=>h (f+1) b s l f u x (Nat.lt_succ_self f) k
theorem fc_law{f:FuncId}{args:List A}(h:FC Tryz.prog f args [] (.t (.d (.lit (.bool true))))){w:World}{vals:Array Value}(hs:vals.size=args.length)(I:∀b p u,memW w b p=some u->w.cell? ⟨b,p,none⟩=some u)(hr:∀s,RepA (memW w) w (λ_=>none) (argS args) s (argS args s) (vals.getD s undef))(U:Mle TBL (memW w):=by intro b p u h;simp[TBL,TBLS]at h):
 Calls Tryz.prog f vals w λe w'=>e= .returned (.bool true)/\Below w.heap.size w w':=by
 refine(h w (memW w) (λ_=>none) vals I U (λ_ _ h=>by cases h) (λ_ _ _ h=>by cases h) hs hr).mono ?_
 rintro e w' ⟨u,m',o',S',a',ρ,rfl,J,Z,_⟩
 have W:Same (λ_=>False) w w':=J.same.weaken λg h=>h rfl
 have Z:RepD m' (.lit (.bool true)) u:=Z
 cases Z
 exact⟨rfl,W.below⟩
end Go.Proofs.YtocolhfjpadaoaaGreatDoor
