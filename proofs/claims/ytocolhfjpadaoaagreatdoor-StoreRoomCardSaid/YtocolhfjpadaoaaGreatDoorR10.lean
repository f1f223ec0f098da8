/-
  Lemmas of this claim, joined.
-/
import Derived.Test.YtocolhfjpadaoaaGreatDoorR09
import Derived.RangeFuncBox
import Derived.RangeFuncLeaves
import Derived.Shelf.Abstract
import Derived.OwnWalkIn
import Derived.TacticsInMore
import Derived.LoopIn
set_option linter.unusedVariables false
set_option linter.unusedSimpArgs false
set_option linter.constructorNameAsVariable false
namespace Go.Proofs.YtocolhfjpadaoaaGreatDoor
open Go
abbrev wA:=@Option.bind_some
abbrev uM:=@List.not_mem_nil
abbrev sB:=@List.cons_append
abbrev sM:=@Array.replicate_succ
abbrev sN:=@Array.replicate_zero
abbrev sR:=@List.append_toArray
end Go.Proofs.YtocolhfjpadaoaaGreatDoor
namespace Go.Proofs.YtocolhfjpadaoaaGreatDoor
open Go Go.RowKit
variable {P:Program}{w0:World}{w:World}{m0:Mem}{m:Mem}{o0:OwnM}{o:OwnM}{G:GD}{pins:List Nat}{N:Nat}{a:Act}{op:Oper}{S:Nat->A}{M:Nat->A}{L:SL}{v:Value}{W:World}{Q:Mem}{X:OwnM}
noncomputable section
def zGx(u:Int):Option Int:=
some (IntKind.u32.wrap ((((BitVec.ofInt IntKind.u32.bits 4294967295)^^^(BitVec.ofInt IntKind.u32.bits u)).toNat:Nat):Int))
theorem zQr(u:Int):(zJL u).run Env.nil=zGx u:=by simp only[zJL,rn]<;>rfl
def zDa(k1:(Int×Int)->Option Int)(J:Int):Nat->Int->Int->Option Int
 |0,_,_=>none
 |n0+1,u,I=>
  bif (decide (I<8))then(bif ((IntKind.u32.wrap ((((BitVec.ofInt IntKind.u32.bits u)&&&(BitVec.ofInt IntKind.u32.bits 1)).toNat:Nat):Int))==1)then(zDa k1 J n0 (IntKind.u32.wrap ((((BitVec.ofInt IntKind.u32.bits (Int.fdiv u (2^1)))^^^(BitVec.ofInt IntKind.u32.bits 3988292384)).toNat:Nat):Int)) (wi (I+1)))else
  zDa k1 J n0 (Int.fdiv u (2^1)) (wi (I+1)))else
  k1 (u,(wi (J+1)))
theorem zRF(k1:(Int×Int)->Option Int)(k2:(Int×Int)->Option Int)(k3:Int->Option Int)(u:Int):∀n q,lpn (λk (q:Int×Int)=>(zI9 u q.1 q.2).run ((((Env.nil.cons k3).cons k2).cons k1).cons k)) n q=zDa k1 u n q.1 q.2:=zAl (g:=λn (q:Int×Int)=>zDa k1 u n q.1 q.2) (λ_=>rfl) λn q=>by simp only[zI9,rn]<;>rfl
def zCq(k1:(Int×Int)->Option Int)(J:(List UInt8))(W:(List (List UInt8)))(Z:Int):Nat->Int->Int->Option Int
 |0,_,_=>none
 |n0+1,U,I=>
  bif (decide (I<(J.length:Int)))then(Option.bind (idx J I) λu=>
  zDa (λq=>zCq k1 J W Z n0 q.1 q.2) I (Int.toNat 8+1) (IntKind.u32.wrap ((((BitVec.ofInt IntKind.u32.bits U)^^^(BitVec.ofInt IntKind.u32.bits (u.toNat:Int))).toNat:Nat):Int)) 0)else
  k1 (U,(wi (Z+1)))
theorem zQ0(k1:(Int×Int)->Option Int)(k2:Int->Option Int)(I:(List UInt8))(J:(List (List UInt8)))(u:Int):∀n q,lpn (λk (q:Int×Int)=>(zI5 I J u q.1 q.2).run (((Env.nil.cons k2).cons k1).cons k)) n q=zCq k1 I J u n q.1 q.2:=zAl (g:=λn (q:Int×Int)=>zCq k1 I J u n q.1 q.2) (λ_=>rfl) λn q=>by simp only[zI5,rn,zRF]<;>rfl
def zCs(k1:Int->Option Int)(u:(List (List UInt8))):Nat->Int->Int->Option Int
 |0,_,_=>none
 |n0+1,U,I=>
  bif (decide (I<(u.length:Int)))then(Option.bind (idx u I) λJ=>
  zCq (λq=>zCs k1 u n0 q.1 q.2) J u I (J.length+1) U 0)else
  k1 U
theorem zRG(k1:Int->Option Int)(u:(List (List UInt8))):∀n q,lpn (λk (q:Int×Int)=>(zJp u q.1 q.2).run ((Env.nil.cons k1).cons k)) n q=zCs k1 u n q.1 q.2:=zAl (g:=λn (q:Int×Int)=>zCs k1 u n q.1 q.2) (λ_=>rfl) λn q=>by simp only[zJp,rn,zQ0]<;>rfl
theorem zUQ(u:(List (List UInt8))):zJ0 u=
zCs zGx u (u.length+1) 4294967295 0:=by simp only[zJ0,zN0,rn,zQr,zRG]<;>rfl
end
theorem yF{z:Int}(u: -9223372036854775808<=z)(I:z<=9223372036854775807):wi z=z:=wrap_id u I
theorem zCy{n:Nat}(h:n<9223372036854775807):wi ((n:Int)+1)=((n+1:Nat):Int):=by rw[yF (by omega) (by omega)];omega
theorem zCv{α:Type}{l:List α}{i:Nat}(h:i<l.length):idx l (i:Int)=some l[i]:=by unfold idx;grind
theorem zRt{α:Type}{l:List α}{n:Nat}(h:n<=l.length):cutI l 0 (n:Int)=some (l.take n):=by unfold cutI;grind
theorem zOm{α:Type}{l:List α}{n:Nat}(h:n<=l.length):cutI l (n:Int) (l.length:Int)=some (l.drop n):=by unfold cutI;rw[if_pos ⟨by omega,by omega,by omega⟩];simp
theorem zEI{α:Type}{u:Nat}{l l':List α}(h:(l.length+l'.length)*u<=140737488355328):appI u l l'=some (l++l'):=by unfold appI;grind
theorem zK{α:Type}{c:Bool}{a b:α}(h:c=true):(bif c then a else b)=a:=by rw[h];rfl
theorem zD{α:Type}{c:Bool}{a b:α}(h:c=false):(bif c then a else b)=b:=by rw[h];rfl
theorem zAm{p:Prop}[Decidable p](h:p):decide p=true:=decide_eq_true h
theorem zAW{p:Prop}[Decidable p](h:¬p):decide p=false:=decide_eq_false h
theorem zQq{a b:Int}(h:a=b):(a==b)=true:=by simp[h]
theorem zOs{a b:Int}(h:a≠b):(a==b)=false:=by simp[h]
theorem ine_t{a b:Int}(h:a≠b):(a !=b)=true:=by simp[h]
theorem zGl{a b:Int}(h:a=b):(a !=b)=false:=by simp[h]
theorem zRi{α:Type}(a b:List α)(hl:a.length=b.length)(hb:a.length<4611686018427387904)(eq:α->α->Option Bool)(F:Nat->Int->Option Bool)
(Z:∀n z,F (n+1) z=bif decide (z<(a.length:Int))then(Option.bind (idx a z) λx=>Option.bind (idx b z) λy=>Option.bind (eq x y) λe=>bif (!e)then some false else F n (wi (z+1)))else some true)
(I:∀x∈a,∀y,∃r,eq x y=some r/\(r=true↔x=y)):∀(n i:Nat),i<=a.length->a.length-i<n->∃r,F n (i:Int)=some r/\(r=true↔a.drop i=b.drop i)
 |0,i,_,h=>by omega
 |n+1,i,hi,h=>by rw[Z];by_cases u:i<a.length;((have J:i<b.length:=by omega);have ha:a.drop i=a[i]::a.drop (i+1):=uD u;have U:b.drop i=b[i]::b.drop (i+1):=uD J;obtain⟨e,he,β⟩:=I _ (uA u) b[i];rw[zK (zAm (by omega)),zCv u,wA,zCv J,wA,he,wA,zCy (by omega),ha,U];obtain⟨r,hr,W⟩:=zRi a b hl hb eq F Z I n (i+1) (by omega) (by omega);grind);(refine⟨true,by rw[zD (zAW (by omega))],⟨λ_=> ?_,λ_=>rfl⟩⟩;grind)
def ofBE(b:List UInt8):Nat:=b.foldl (λx c=>x*256+c.toNat) 0
theorem zN4(b:List UInt8)(c:UInt8):ofBE (b++[c])=ofBE b*256+c.toNat:=by simp[ofBE]
theorem zQd:∀(n:Nat) (b:List UInt8),b.length=n->ofBE b<256^n
 |0,b,h=>by rw[vF h];decide
 |n+1,b,h=>by(have u:b≠[]:=λe=>by rw[e]at h;cases h);rw[<-List.dropLast_concat_getLast u,zN4];have:=zQd n b.dropLast (by simp[h]);have I:=(b.getLast u).toNat_lt;grind
theorem zQR:∀(k n:Nat),ofBE (be k n)=n %256^k
 |0,n=>by simp[be,le,ofBE,Nat.mod_one]
 |k+1,n=>by(have h:be (k+1) n=be k (n/256)++[UInt8.ofNat (n %256)]:=by simp only[be,le,List.reverse_cons]);rw[h,zN4,zQR k (n/256)];rw[Nat.pow_succ,tC (256^k) 256,Nat.mod_mul];(have:(UInt8.ofNat (n %256)).toNat=n %256:=by simp);rw[this];omega
theorem u64_id{z:Int}(u:0<=z)(I:z<=18446744073709551615):IntKind.u64.wrap z=z:=by simp[IntKind.wrap,IntKind.bits,IntKind.signed];omega
theorem get_step(x c:Nat)(hx:x<72057594037927936)(J:c<256):IntKind.u64.wrap ((((BitVec.ofInt IntKind.u64.bits (IntKind.u64.wrap ((x:Int)*2^8)))|||(BitVec.ofInt IntKind.u64.bits (c:Int))).toNat:Nat):Int)=((x*256+c:Nat):Int):=by(have u:IntKind.u64.wrap ((x:Int)*2^8)=((x*256:Nat):Int):=by rw[u64_id (by omega) (by omega)];omega);rw[u];(have I:(BitVec.ofInt 64 ((x*256:Nat):Int)|||BitVec.ofInt 64 (c:Int)).toNat=x*256+c:=by rw[BitVec.toNat_or,BitVec.ofInt_natCast,BitVec.ofInt_natCast,BitVec.toNat_ofNat,BitVec.toNat_ofNat,tQ (by omega),tQ (by omega)];have:=Nat.shiftLeft_add_eq_or_of_lt (i:=8) (b:=c) (by omega) x;rw[Nat.shiftLeft_eq]at this;grind);show IntKind.u64.wrap ((BitVec.ofInt 64 ((x*256:Nat):Int)|||BitVec.ofInt 64 (c:Int)).toNat:Int)=_;rw[I,u64_id (by omega) (by omega)]
def zI6(x:Option Bool)(p:Prop):Prop:=∃r,x=some r/\(r=true↔p)
theorem zI6.iff{x:Option Bool}{p q:Prop}(h:zI6 x p)(u:p↔q):zI6 x q:=by obtain⟨r,J,I⟩:=h;exact⟨r,J,I.trans u⟩
theorem zI6.yes{x:Option Bool}{p:Prop}(h:zI6 x p)(hp:p):x=some true:=by obtain⟨r,u,I⟩:=h;grind
theorem zI6.no{x:Option Bool}{p:Prop}(h:zI6 x p)(hp:¬p):x=some false:=by obtain⟨r,u,I⟩:=h;grind
theorem zI6.of{b:Bool}{p:Prop}(h:b=true↔p):zI6 (some b) p:=⟨b,rfl,h⟩
theorem zI6.bool{x:Option Bool}{b:Bool}(h:zI6 x (b=true)):x=some b:=by(cases b with|true=>exact h.yes rfl|false=>exact h.no (by simp))
theorem zRb{α:Type}{len:Nat}(F:Nat->Int->Option α)(P:Nat->Prop)(K bad:Option α)
(u:∀n i,i<len->(P i->F (n+1) (i:Int)=F n ((i+1:Nat):Int))/\(¬P i->F (n+1) (i:Int)=bad))
(I:∀n,F (n+1) (len:Int)=K):∀n i,i<=len->len-i<n->((∀j,i<=j->j<len->P j)->F n (i:Int)=K)/\(¬(∀j,i<=j->j<len->P j)->F n (i:Int)=bad)
 |0,i,_,h=>by omega
 |n+1,i,W,h=>by by_cases J:i<len;(obtain⟨U,Z⟩:=u n i J;by_cases hp:P i;(rw[U hp];obtain⟨k1,k2⟩:=zRb F P K bad u I n (i+1) (by omega) (by omega);grind);grind);grind
end Go.Proofs.YtocolhfjpadaoaaGreatDoor
namespace Go.Proofs.YtocolhfjpadaoaaGreatDoor.Crc
def poly:Nat:=3988292384
def stp(x:Nat):Nat:=if x %2=1 then(x/2)^^^poly else x/2
def stpN:Nat->Nat->Nat
 |0,x=>x
 |k+1,x=>stpN k (stp x)
def upd(x c:Nat):Nat:=stpN 8 (x^^^c)
def run(x:Nat)(l:List UInt8):Nat:=l.foldl (λx c=>upd x c.toNat) x
def crc(l:List UInt8):Nat:=4294967295-run 4294967295 l
theorem xor_lt{a b:Nat}(u:a<4294967296)(hb:b<4294967296):a^^^b<4294967296:=Nat.xor_lt_two_pow (n:=32) u hb
theorem stp_lt{x:Nat}(h:x<4294967296):stp x<4294967296:=by unfold stp;split;exact xor_lt (by omega) (by decide);omega
theorem stpN_lt(k:Nat){x:Nat}(h:x<4294967296):stpN k x<4294967296:=by(induction k generalizing x with|zero=>exact h|succ k u=>exact u (stp_lt h))
theorem upd_lt{x:Nat}(h:x<4294967296)(c:UInt8):upd x c.toNat<4294967296:=by have:=c.toNat_lt;exact stpN_lt 8 (xor_lt h (by omega))
theorem run_lt(l:List UInt8){x:Nat}(h:x<4294967296):run x l<4294967296:=by(induction l generalizing x with|nil=>exact h|cons c l u=>exact u (upd_lt h c))
theorem run_append(x:Nat)(a b:List UInt8):run x (a++b)=run (run x a) b:=by simp[run,List.foldl_append]
theorem crc_le(l:List UInt8):crc l<4294967296:=by unfold crc;omega
end Go.Proofs.YtocolhfjpadaoaaGreatDoor.Crc
namespace Go.Proofs.YtocolhfjpadaoaaGreatDoor
open Go Go.RowKit
variable {P:Program}{w0:World}{w:World}{m0:Mem}{m:Mem}{o0:OwnM}{o:OwnM}{G:GD}{pins:List Nat}{N:Nat}{a:Act}{op:Oper}{S:Nat->A}{M:Nat->A}{L:SL}{v:Value}{W:World}{Q:Mem}{X:OwnM}
theorem u32_id{z:Int}(u:0<=z)(I:z<=4294967295):IntKind.u32.wrap z=z:=by simp[IntKind.wrap,IntKind.bits,IntKind.signed];omega
theorem x32{a b:Nat}(u:a<4294967296)(hb:b<4294967296):IntKind.u32.wrap ((((BitVec.ofInt IntKind.u32.bits (a:Int))^^^(BitVec.ofInt IntKind.u32.bits (b:Int))).toNat:Nat):Int)=((a^^^b:Nat):Int):=by(have I:(BitVec.ofInt 32 (a:Int)^^^BitVec.ofInt 32 (b:Int)).toNat=a^^^b:=by grind);show IntKind.u32.wrap ((BitVec.ofInt 32 (a:Int)^^^BitVec.ofInt 32 (b:Int)).toNat:Int)=_;have:=Crc.xor_lt u hb;rw[I,u32_id (by omega) (by omega)]
theorem a32{a:Nat}(I:a<4294967296):IntKind.u32.wrap ((((BitVec.ofInt IntKind.u32.bits (a:Int))&&&(BitVec.ofInt IntKind.u32.bits 1)).toNat:Nat):Int)=((a %2:Nat):Int):=by(have u:(BitVec.ofInt 32 (a:Int)&&&BitVec.ofInt 32 ((1:Nat):Int)).toNat=a %2:=by grind);show IntKind.u32.wrap ((BitVec.ofInt 32 (a:Int)&&&BitVec.ofInt 32 ((1:Nat):Int)).toNat:Int)=_;rw[u,u32_id (by omega) (by omega)]
theorem half{a:Nat}:Int.fdiv (a:Int) (2^1)=((a/2:Nat):Int):=by grind
theorem zTR(k1:Int×Int->Option Int)(z:Int):∀(n j x:Nat),j<=8->8-j<n->x<4294967296->zDa k1 z n (x:Int) (j:Int)=k1 ((Crc.stpN (8-j) x:Nat),wi (z+1))
 |0,j,x,_,h,_=>by omega
 |n+1,j,x,J,h,hx=>by unfold zDa;by_cases I:j<8;((have e:8-j=(8-(j+1))+1:=by omega);have hy:=Crc.stp_lt hx;have u:=zTR k1 z n (j+1) (Crc.stp x) (by omega) (by omega) hy;rw[zK (zAm (by omega)),a32 hx,half,zCy (by omega),e];show _=k1 ((Crc.stpN (8-(j+1)) (Crc.stp x):Nat),wi (z+1));rw[<-u];by_cases hp:x %2=1;((have hs:Crc.stp x=x/2^^^Crc.poly:=by unfold Crc.stp;rw[if_pos hp]);rw[zK (zQq (by omega)),hs];have:=x32 (a:=x/2) (b:=Crc.poly) (by omega) (by decide);rw[<-this];rfl);((have hs:Crc.stp x=x/2:=by unfold Crc.stp;rw[if_neg hp]);rw[zD (zOs (by omega)),hs]));((have e:8-j=0:=by omega);rw[zD (zAW (by omega)),e];rfl)
theorem zS0(k1:Int×Int->Option Int)(p:List UInt8)(I:List (List UInt8))(z:Int)(hp:p.length<4611686018427387904):∀(n i x:Nat),i<=p.length->p.length-i<n->x<4294967296->zCq k1 p I z n (x:Int) (i:Int)=k1 ((Crc.run x (p.drop i):Nat),wi (z+1))
 |0,i,x,_,h,_=>by omega
 |n+1,i,x,Z,h,hx=>by unfold zCq;by_cases u:i<p.length;(have U:=p[i].toNat_lt;have hX:=Crc.xor_lt hx (b:=p[i].toNat) (by omega);rw[zK (zAm (by omega)),zCv u,wA,x32 hx (by omega)];have J:=zTR (λq=>zCq k1 p I z n q.1 q.2) (i:Int) (Int.toNat 8+1) 0 (x^^^p[i].toNat) (by omega) (by decide) hX;rw[show((0:Nat):Int)=0 from rfl]at J;rw[J];show zCq k1 p I z n _ _=_;rw[zCy (by omega),zS0 k1 p I z hp n (i+1) _ (by omega) (by omega) (Crc.stpN_lt _ hX),uD u];rfl);(rw[zD (zAW (by omega)),vU (by omega)];rfl)
theorem zS5(k1:Int->Option Int)(u:List (List UInt8))(hl:∀p∈u,p.length<4611686018427387904)(hn:u.length<4611686018427387904):∀(n i x:Nat),i<=u.length->u.length-i<n->x<4294967296->zCs k1 u n (x:Int) (i:Int)=k1 (Crc.run x (u.drop i).flatten:Nat)
 |0,i,x,_,h,_=>by omega
 |n+1,i,x,U,h,hx=>by unfold zCs;by_cases I:i<u.length;(rw[zK (zAm (by omega)),zCv I,wA];have J:=zS0 (λq=>zCs k1 u n q.1 q.2) u[i] u (i:Int) (hl _ (uA I)) (u[i].length+1) 0 x (by omega) (by omega) hx;rw[show((0:Nat):Int)=0 from rfl]at J;rw[J];show zCs k1 u n _ _=_;rw[zCy (by omega),zS5 k1 u hl hn n (i+1) _ (by omega) (by omega) (Crc.run_lt _ hx),uD I,List.flatten_cons,Crc.run_append];rfl);(rw[zD (zAW (by omega)),vU (by omega)];rfl)
theorem n_Sum(u:List (List UInt8))(hl:∀p∈u,p.length<4611686018427387904)(hn:u.length<4611686018427387904):zJ0 u=some ((Crc.crc u.flatten:Nat):Int):=by rw[zUQ];have I:=zS5 (λq=>zGx q) u hl hn (u.length+1) 0 4294967295 (by omega) (by omega) (by decide);rw[show((0:Nat):Int)=0 from rfl,show((4294967295:Nat):Int)=4294967295 from rfl]at I;rw[I];have hx:=Crc.run_lt u.flatten (x:=4294967295) (by decide);(have e:(4294967295^^^Crc.run 4294967295 u.flatten:Nat)=4294967295-Crc.run 4294967295 u.flatten:=by have J:=congrArg BitVec.toNat (BitVec.allOnes_xor (x:=BitVec.ofNat 32 (Crc.run 4294967295 u.flatten)));grind);unfold zGx;have:=x32 (a:=4294967295) (b:=Crc.run 4294967295 (u.drop 0).flatten) (by decide) hx;refine congrArg some (this.trans ?_);rw[List.drop_zero,e];rfl
def zHW(u:List (List UInt8)):Option Int:=if(u.all λp=>Nat.blt p.length 4611686018427387904)&&Nat.blt u.length 4611686018427387904 then some (Crc.crc u.flatten:Nat)else none
theorem zTz(u:(List (List UInt8))):∀r:Int,zHW u=some r->FC Tryz.prog 336 [.t (.d (.seq 1 (List.map (cSl 1 cU8) u)))] [] (.t (.d (.lit (.int .u32 r)))):=λr h=>by unfold zHW at h;split at h;(rename_i I;simp only[wI,wG,Nat.blt_eq]at I;exact zSy u r ((n_Sum u I.1 I.2).trans h));cases h
section
variable {w0:World}{m0:Mem}{o0:OwnM}{G:GD}{pins:List Nat}{S M:Nat->A}{a:Act}{w:World}{m:Mem}{o:OwnM}{P:Program}{N:Nat}{op:Oper}
theorem boxI_ok(I:Inv w0 m0 o0 G pins S a w m o){d:Nat}(E:TypeId)(hd:d<a.tmps.size)(Z:(S d).isBox=false){l:List D}(hy:RepL m l v.cells.toList):
 ∃m',Inv w0 m0 o0 G pins (upd S d (.imm l)) (a.put (some d) (.pointer (some ⟨w.heap.size,0,none⟩))) (w.alloc (.cells v.cells E)) m' o:=by
 have α:∀{b p u},m b p=some u->b<w.heap.size:=λ{b p u} U=>by have:=wT w _ (I.sat b p u U);simpa using this
 have J:∀g,g<w.heap.size->(w.alloc (.cells v.cells E)).heap[g]? =w.heap[g]? :=λg hg=>(Same.alloc (λ_=>False) w (.cells v.cells E)).block g hg id
 have W:=zMo I (wJ _) λp=>v.cells.toList[p]?
 refine⟨_,I.put d (.imm l) _ hd Z ⟨w.heap.size,0,rfl,λj x hj=> ?_⟩ (I.same.trans ((Same.alloc (λ_=>False) w _).weaken λ_ h=>h.elim)) ?_ W (λb hb=> ?_) (λg hg=>J g hg) (by simp)⟩
 · obtain⟨u,h1,h2⟩:=hy.2 j x hj;exact⟨u,by rw[vJ,zB5];exact h1,h2.mono W⟩
 · intro b p u U;unfold newM at U;split at U;(rename_i e;subst e;rw[cell_of_row _ w.heap.size p v.cells E _ (heap_alloc_new w _)];simpa using U);(rw[vS (w:=w) (J b (α U))];exact I.sat b p u U)
 · funext p;unfold newM;rw[if_neg (by omega)]
theorem ok_boxI(hM:Mk M S){d E:Nat}{x:Operand}{l:List D}(U:op.op= .box E x)(hl:zRP (cpO M x)=some l){l':List D}(Z:WkL l l')(hd:op.dst=some d)(u:okD N pins S d=true):OpOK P pins N op S (upd S d (.imm l')):=by refine zL λw0 m0 o0 G a w m o hN I=> ?_;obtain⟨h1,W,h3⟩:=zS u;obtain⟨m',J⟩:=boxI_ok I E (by omega) W (Z.rep (zMj hl (qA hM I x 0)));refine⟨_,_,m',o,?_,by rw[hd];exact J⟩;unfold execOp;rw[U];simp only[wE,zQp,wD];rfl
end
def boxI{l l':List D}(U:WkL l l'):yM P where
 hk:=[]
 pr pins N M op:=match op.dst,op.op with
  |some d,.box E x=>some ([bp (okD N pins M d),⟨zRP (cpO M x),some l⟩],[(d,.imm l')])
  |_,_=>none
 ok pins N S M op c0 e hM hd h hc:=by split at h;(rename_i d E x u Z;cases h;obtain⟨I,W,_⟩:=hc;exact .of (e:=[(d,_)]) λJ=>⟨ok_boxI hM.hx Z W U u (qR J (zB0 I (hd d u))),zBz (qG J (zB0 I (hd d u)))⟩);cases h
set_option maxRecDepth 20000
noncomputable section
structure qP where
 n_:Int
 b_:Y
structure zP where
 kept_:(Nat×Nat)
 now_:(Nat×Nat)
 wait_:(List qP)
 fuse_:Int
 off_:Bool
 lives_:Int
abbrev zDX(x:Y):List D:=ar cU8 (0:UInt8) x 0 64
abbrev zC4(x:qP):List D:=[D.lit (.int .i64 x.n_)]++ar cU8 (0:UInt8) x.b_ 0 64
structure zW where
 d_:O
 size_:Int
 base_:Int
 slot_:Int
 used_:Int
 life_:Int
 commits_:Int
structure zAF where
 l_:O
 at_:Int
 over_:Bool
 now_:Nat
structure zBM where
 t_:O
 table_:Int
structure zO where
 n_:Int
 free_:Int
 l_:(Nat×Nat)
 is_:Bool
structure zF where
 size_:Int
 homes_:Int
 maps_:Int
structure qE where
 geometry_:zF
 l_:O
structure zH where
 count_:Int
 quota_:Int
 bytes_:Int
 keys_:Int
structure zU where
 s_:O
 t_:O
 x_:O
 h_:zH
 p_:O
structure zJB where
 d_:O
 s_:O
abbrev zQu(i:Nat)(x:zP):List T:=[.hvw (cd 2 x.kept_.1) 0 236 64 x.kept_.2,.hvw (cd 2 x.now_.1) 0 236 64 x.now_.2,.own 238 65 (List.map zC4 x.wait_),iT x.fuse_,bT' x.off_,iT x.lives_]
abbrev zSJ(i:Nat)(x:zW):List T:=[.opt 1 x.d_,iT x.size_,iT x.base_,iT x.slot_,iT x.used_,iT x.life_,iT x.commits_]
abbrev zR5(i:Nat)(x:zAF):List T:=[.opt 3 x.l_,iT x.at_,bT' x.over_,.mpt (OB+cd 6 x.now_)]
abbrev zUK(i:Nat)(x:zBM):List T:=[.opt 5 x.t_,iT x.table_]
abbrev zSP(i:Nat)(x:zO):List T:=[iT x.n_,iT x.free_,.hvw (cd 9 x.l_.1) 0 299 1 x.l_.2,bT' x.is_]
abbrev zSq(i:Nat)(x:qE):List T:=[iT x.geometry_.size_,iT x.geometry_.homes_,iT x.geometry_.maps_,.opt 3 x.l_]
abbrev zSL(i:Nat)(x:zU):List T:=[.opt 10 x.s_,.opt 5 x.t_,.opt 7 x.x_,iT x.h_.count_,iT x.h_.quota_,iT x.h_.bytes_,iT x.h_.keys_,.opt 8 x.p_]
abbrev hc_sv(i:Nat)(x:zJB):List T:=[.opt 1 x.d_,.opt 10 x.s_]
abbrev zPF(_:Nat)(x:List Y):List T:=fl (dT zDX) x
abbrev zPm(_:Nat)(x:List Int):List T:=fl (dT (cInt .u64)) x
structure Hp where
 dk:List zP
 lg:List zW
 tx:List zAF
 ix:List zBM
 sp:List zO
 st:List qE
 vw:List zU
 sv:List zJB
 sec:List (List Y)
 w64:List (List Int)
 mp:List (List (Int×Y))
def Hp.e:Hp:=⟨[],[],[],[],[],[],[],[],[],[],[]⟩
abbrev Hp.ge_dk(H:Hp)(i:Nat):Option zP:=H.dk[i]?
def Hp.st_dk(H:Hp)(i:Nat)(x:zP):Hp:={H with dk:=H.dk.set i x}
def Hp.nw_dk(H:Hp)(x:zP):Hp:={H with dk:=H.dk++[x]}
abbrev Hp.ln_dk(H:Hp):Nat:=H.dk.length
abbrev Hp.ge_lg(H:Hp)(i:Nat):Option zW:=H.lg[i]?
def Hp.st_lg(H:Hp)(i:Nat)(x:zW):Hp:={H with lg:=H.lg.set i x}
def Hp.nw_lg(H:Hp)(x:zW):Hp:={H with lg:=H.lg++[x]}
abbrev Hp.ln_lg(H:Hp):Nat:=H.lg.length
abbrev Hp.ge_tx(H:Hp)(i:Nat):Option zAF:=H.tx[i]?
def Hp.st_tx(H:Hp)(i:Nat)(x:zAF):Hp:={H with tx:=H.tx.set i x}
def Hp.nw_tx(H:Hp)(x:zAF):Hp:={H with tx:=H.tx++[x]}
abbrev Hp.ln_tx(H:Hp):Nat:=H.tx.length
abbrev Hp.ge_ix(H:Hp)(i:Nat):Option zBM:=H.ix[i]?
def Hp.nw_ix(H:Hp)(x:zBM):Hp:={H with ix:=H.ix++[x]}
abbrev Hp.ln_ix(H:Hp):Nat:=H.ix.length
abbrev Hp.ge_sp(H:Hp)(i:Nat):Option zO:=H.sp[i]?
def Hp.st_sp(H:Hp)(i:Nat)(x:zO):Hp:={H with sp:=H.sp.set i x}
def Hp.nw_sp(H:Hp)(x:zO):Hp:={H with sp:=H.sp++[x]}
abbrev Hp.ln_sp(H:Hp):Nat:=H.sp.length
abbrev Hp.ge_st(H:Hp)(i:Nat):Option qE:=H.st[i]?
def Hp.st_st(H:Hp)(i:Nat)(x:qE):Hp:={H with st:=H.st.set i x}
def Hp.nw_st(H:Hp)(x:qE):Hp:={H with st:=H.st++[x]}
abbrev Hp.ln_st(H:Hp):Nat:=H.st.length
abbrev Hp.ge_vw(H:Hp)(i:Nat):Option zU:=H.vw[i]?
def Hp.st_vw(H:Hp)(i:Nat)(x:zU):Hp:={H with vw:=H.vw.set i x}
def Hp.nw_vw(H:Hp)(x:zU):Hp:={H with vw:=H.vw++[x]}
abbrev Hp.ln_vw(H:Hp):Nat:=H.vw.length
abbrev Hp.ge_sec(H:Hp)(i:Nat):Option (List Y):=H.sec[i]?
def Hp.st_sec(H:Hp)(i:Nat)(x:List Y):Hp:={H with sec:=H.sec.set i x}
def Hp.nw_sec(H:Hp)(x:List Y):Hp:={H with sec:=H.sec++[x]}
abbrev Hp.ln_sec(H:Hp):Nat:=H.sec.length
abbrev Hp.ge_w64(H:Hp)(i:Nat):Option (List Int):=H.w64[i]?
def Hp.st_w64(H:Hp)(i:Nat)(x:List Int):Hp:={H with w64:=H.w64.set i x}
def Hp.nw_w64(H:Hp)(x:List Int):Hp:={H with w64:=H.w64++[x]}
abbrev Hp.ln_w64(H:Hp):Nat:=H.w64.length
abbrev Hp.ge_mp(H:Hp)(i:Nat):Option (List (Int×Y)):=H.mp[i]?
def Hp.st_mp(H:Hp)(i:Nat)(x:(List (Int×Y))):Hp:={H with mp:=H.mp.set i x}
def Hp.nw_mp(H:Hp)(x:(List (Int×Y))):Hp:={H with mp:=H.mp++[x]}
abbrev Hp.ln_mp(H:Hp):Nat:=H.mp.length
def hpT(H:Hp):Nat->Nat->A
 |1,i=>arA H.dk zQu i
 |2,i=>arA H.sec zPF i
 |3,i=>arA H.lg zSJ i
 |5,i=>arA H.tx zR5 i
 |6,i=>arM (λz:Int=>Value.int .i64 z) (λl:List UInt8=>D.seq 1 (qV l)) H.mp i
 |7,i=>arA H.ix zUK i
 |8,i=>arA H.sp zSP i
 |9,i=>arA H.w64 zPm i
 |10,i=>arA H.st zSq i
 |11,i=>arA H.vw zSL i
 |12,i=>arA H.sv hc_sv i
 |_,_=> .free
def hpA(H:Hp):Nat->A:=hpF (hpT H)
theorem zIB{H:Hp}{i:Nat}{x:zP}(h:H.ge_dk i=some x):hpA H (cd 1 i)=(.box (zQu i x)):=(zEj (by decide)).trans (zHF h)
theorem su_dk{H:Hp}{i:Nat}{x x':zP}(h:H.ge_dk i=some x):hpA (H.st_dk i x')=updF (hpA H) (cd 1 i) (.box (zQu i x')):=by refine zC2 (by decide) (zM8 h) λI j u=> ?_;(match I with|1=>exact zNB λe=>u ⟨rfl,e⟩|0|2|3|4|5|6|7|8|9|10|11|12=>exact rfl|k+13=>rfl)
theorem su2_dk{H:Hp}{i:Nat}{x x':zP}{y:A}(h:H.ge_dk i=some x):hpA (H.st_dk i x')=updF (updF (hpA H) (cd 1 i) y) (cd 1 i) (.box (zQu i x')):=by rw[su_dk h];funext k;unfold updF;split<;>rfl
theorem fr_dk(H:Hp):hpA H (cd 1 H.ln_dk)= .free:=(zEj (by decide)).trans zF6
theorem nw_dk(H:Hp)(x:zP):hpA (H.nw_dk x)=updF (hpA H) (cd 1 H.ln_dk) (.box (zQu H.ln_dk x)):=by refine zC2 (by decide) zIG λI j u=> ?_;(match I with|1=>exact zHt λe=>u ⟨rfl,e⟩|0|2|3|4|5|6|7|8|9|10|11|12=>exact rfl|k+13=>rfl)
theorem zBv{H:Hp}{i:Nat}{x:zW}(h:H.ge_lg i=some x):hpA H (cd 3 i)=(.box (zSJ i x)):=(zEj (by decide)).trans (zHF h)
theorem zRT{H:Hp}{i:Nat}{x x':zW}(h:H.ge_lg i=some x):hpA (H.st_lg i x')=updF (hpA H) (cd 3 i) (.box (zSJ i x')):=by refine zC2 (by decide) (zM8 h) λI j u=> ?_;(match I with|3=>exact zNB λe=>u ⟨rfl,e⟩|0|1|2|4|5|6|7|8|9|10|11|12=>exact rfl|k+13=>rfl)
theorem fr_lg(H:Hp):hpA H (cd 3 H.ln_lg)= .free:=(zEj (by decide)).trans zF6
theorem nw_lg(H:Hp)(x:zW):hpA (H.nw_lg x)=updF (hpA H) (cd 3 H.ln_lg) (.box (zSJ H.ln_lg x)):=by refine zC2 (by decide) zIG λI j u=> ?_;(match I with|3=>exact zHt λe=>u ⟨rfl,e⟩|0|1|2|4|5|6|7|8|9|10|11|12=>exact rfl|k+13=>rfl)
theorem zK3{H:Hp}{i:Nat}{x:zAF}(h:H.ge_tx i=some x):hpA H (cd 5 i)=(.box (zR5 i x)):=(zEj (by decide)).trans (zHF h)
theorem su_tx{H:Hp}{i:Nat}{x x':zAF}(h:H.ge_tx i=some x):hpA (H.st_tx i x')=updF (hpA H) (cd 5 i) (.box (zR5 i x')):=by refine zC2 (by decide) (zM8 h) λI j u=> ?_;(match I with|5=>exact zNB λe=>u ⟨rfl,e⟩|0|1|2|3|4|6|7|8|9|10|11|12=>exact rfl|k+13=>rfl)
theorem fr_tx(H:Hp):hpA H (cd 5 H.ln_tx)= .free:=(zEj (by decide)).trans zF6
theorem nw_tx(H:Hp)(x:zAF):hpA (H.nw_tx x)=updF (hpA H) (cd 5 H.ln_tx) (.box (zR5 H.ln_tx x)):=by refine zC2 (by decide) zIG λI j u=> ?_;(match I with|5=>exact zHt λe=>u ⟨rfl,e⟩|0|1|2|3|4|6|7|8|9|10|11|12=>exact rfl|k+13=>rfl)
theorem zSE{H:Hp}{i:Nat}{x:zBM}(h:H.ge_ix i=some x):hpA H (cd 7 i)=(.box (zUK i x)):=(zEj (by decide)).trans (zHF h)
theorem fr_ix(H:Hp):hpA H (cd 7 H.ln_ix)= .free:=(zEj (by decide)).trans zF6
theorem nw_ix(H:Hp)(x:zBM):hpA (H.nw_ix x)=updF (hpA H) (cd 7 H.ln_ix) (.box (zUK H.ln_ix x)):=by refine zC2 (by decide) zIG λI j u=> ?_;(match I with|7=>exact zHt λe=>u ⟨rfl,e⟩|0|1|2|3|4|5|6|8|9|10|11|12=>exact rfl|k+13=>rfl)
theorem zIh{H:Hp}{i:Nat}{x:zO}(h:H.ge_sp i=some x):hpA H (cd 8 i)=(.box (zSP i x)):=(zEj (by decide)).trans (zHF h)
theorem su_sp{H:Hp}{i:Nat}{x x':zO}(h:H.ge_sp i=some x):hpA (H.st_sp i x')=updF (hpA H) (cd 8 i) (.box (zSP i x')):=by refine zC2 (by decide) (zM8 h) λI j u=> ?_;(match I with|8=>exact zNB λe=>u ⟨rfl,e⟩|0|1|2|3|4|5|6|7|9|10|11|12=>exact rfl|k+13=>rfl)
theorem fr_sp(H:Hp):hpA H (cd 8 H.ln_sp)= .free:=(zEj (by decide)).trans zF6
theorem nw_sp(H:Hp)(x:zO):hpA (H.nw_sp x)=updF (hpA H) (cd 8 H.ln_sp) (.box (zSP H.ln_sp x)):=by refine zC2 (by decide) zIG λI j u=> ?_;(match I with|8=>exact zHt λe=>u ⟨rfl,e⟩|0|1|2|3|4|5|6|7|9|10|11|12=>exact rfl|k+13=>rfl)
theorem zIs{H:Hp}{i:Nat}{x:qE}(h:H.ge_st i=some x):hpA H (cd 10 i)=(.box (zSq i x)):=(zEj (by decide)).trans (zHF h)
theorem su_st{H:Hp}{i:Nat}{x x':qE}(h:H.ge_st i=some x):hpA (H.st_st i x')=updF (hpA H) (cd 10 i) (.box (zSq i x')):=by refine zC2 (by decide) (zM8 h) λI j u=> ?_;(match I with|10=>exact zNB λe=>u ⟨rfl,e⟩|0|1|2|3|4|5|6|7|8|9|11|12=>exact rfl|k+13=>rfl)
theorem fr_st(H:Hp):hpA H (cd 10 H.ln_st)= .free:=(zEj (by decide)).trans zF6
theorem nw_st(H:Hp)(x:qE):hpA (H.nw_st x)=updF (hpA H) (cd 10 H.ln_st) (.box (zSq H.ln_st x)):=by refine zC2 (by decide) zIG λI j u=> ?_;(match I with|10=>exact zHt λe=>u ⟨rfl,e⟩|0|1|2|3|4|5|6|7|8|9|11|12=>exact rfl|k+13=>rfl)
theorem zDA{H:Hp}{i:Nat}{x:zU}(h:H.ge_vw i=some x):hpA H (cd 11 i)=(.box (zSL i x)):=(zEj (by decide)).trans (zHF h)
theorem su_vw{H:Hp}{i:Nat}{x x':zU}(h:H.ge_vw i=some x):hpA (H.st_vw i x')=updF (hpA H) (cd 11 i) (.box (zSL i x')):=by refine zC2 (by decide) (zM8 h) λI j u=> ?_;(match I with|11=>exact zNB λe=>u ⟨rfl,e⟩|0|1|2|3|4|5|6|7|8|9|10|12=>exact rfl|k+13=>rfl)
theorem fr_vw(H:Hp):hpA H (cd 11 H.ln_vw)= .free:=(zEj (by decide)).trans zF6
theorem nw_vw(H:Hp)(x:zU):hpA (H.nw_vw x)=updF (hpA H) (cd 11 H.ln_vw) (.box (zSL H.ln_vw x)):=by refine zC2 (by decide) zIG λI j u=> ?_;(match I with|11=>exact zHt λe=>u ⟨rfl,e⟩|0|1|2|3|4|5|6|7|8|9|10|12=>exact rfl|k+13=>rfl)
theorem zTZ{H:Hp}{i:Nat}{x:(List Y)}(h:H.ge_sec i=some x):hpA H (cd 2 i)=(.box (zPF i x)):=(zEj (by decide)).trans (zHF h)
theorem su_sec{H:Hp}{i:Nat}{x x':(List Y)}(h:H.ge_sec i=some x):hpA (H.st_sec i x')=updF (hpA H) (cd 2 i) (.box (zPF i x')):=by refine zC2 (by decide) (zM8 h) λI j u=> ?_;(match I with|2=>exact zNB λe=>u ⟨rfl,e⟩|0|1|3|4|5|6|7|8|9|10|11|12=>exact rfl|k+13=>rfl)
theorem fr_sec(H:Hp):hpA H (cd 2 H.ln_sec)= .free:=(zEj (by decide)).trans zF6
theorem nw_sec(H:Hp)(x:List Y):hpA (H.nw_sec x)=updF (hpA H) (cd 2 H.ln_sec) (.box (zPF H.ln_sec x)):=by refine zC2 (by decide) zIG λI j u=> ?_;(match I with|2=>exact zHt λe=>u ⟨rfl,e⟩|0|1|3|4|5|6|7|8|9|10|11|12=>exact rfl|k+13=>rfl)
theorem zNJ{H:Hp}{i:Nat}{x:(List Int)}(h:H.ge_w64 i=some x):hpA H (cd 9 i)=(.box (zPm i x)):=(zEj (by decide)).trans (zHF h)
theorem su_w64{H:Hp}{i:Nat}{x x':(List Int)}(h:H.ge_w64 i=some x):hpA (H.st_w64 i x')=updF (hpA H) (cd 9 i) (.box (zPm i x')):=by refine zC2 (by decide) (zM8 h) λI j u=> ?_;(match I with|9=>exact zNB λe=>u ⟨rfl,e⟩|0|1|2|3|4|5|6|7|8|10|11|12=>exact rfl|k+13=>rfl)
theorem fr_w64(H:Hp):hpA H (cd 9 H.ln_w64)= .free:=(zEj (by decide)).trans zF6
theorem nw_w64(H:Hp)(x:List Int):hpA (H.nw_w64 x)=updF (hpA H) (cd 9 H.ln_w64) (.box (zPm H.ln_w64 x)):=by refine zC2 (by decide) zIG λI j u=> ?_;(match I with|9=>exact zHt λe=>u ⟨rfl,e⟩|0|1|2|3|4|5|6|7|8|10|11|12=>exact rfl|k+13=>rfl)
theorem gl_mp{H:Hp}{i:Nat}{x:(List (Int×Y))}(h:H.ge_mp i=some x):hpA H (cd 6 i)=(mpA (λz:Int=>Value.int .i64 z) (λl:List UInt8=>D.seq 1 (qV l)) x):=(zEj (by decide)).trans (arM_get h)
theorem su_mp{H:Hp}{i:Nat}{x x':(List (Int×Y))}(h:H.ge_mp i=some x):hpA (H.st_mp i x')=updF (hpA H) (cd 6 i) (mpA (λz:Int=>Value.int .i64 z) (λl:List UInt8=>D.seq 1 (qV l)) x'):=by refine zC2 (by decide) (arM_eq h) λI j u=> ?_;(match I with|6=>exact arM_ne λe=>u ⟨rfl,e⟩|0|1|2|3|4|5|7|8|9|10|11|12=>exact rfl|k+13=>rfl)
theorem fr_mp(H:Hp):hpA H (cd 6 H.ln_mp)= .free:=(zEj (by decide)).trans arM_free
theorem nw_mp(H:Hp)(x:(List (Int×Y))):hpA (H.nw_mp x)=updF (hpA H) (cd 6 H.ln_mp) (mpA (λz:Int=>Value.int .i64 z) (λl:List UInt8=>D.seq 1 (qV l)) x):=by refine zC2 (by decide) arM_new λI j u=> ?_;(match I with|6=>exact arM_old λe=>u ⟨rfl,e⟩|0|1|2|3|4|5|7|8|9|10|11|12=>exact rfl|k+13=>rfl)
theorem zS8(H:Hp):zDy (hpA H):=hpF_pure λt i l h=>by(match t,h with|0,h=>exact nomatch h|1,h=>exact zFR (f:=zQu) (λi x y hy=>by simp only[zQu,vL,uM,or_false]at hy;rcases hy with rfl|rfl|rfl|rfl|rfl|rfl<;>first|rfl|exact zJR _ _) l h|2,h=>exact zFR (f:=zPF) (λi x=>fl_loc _ _) l h|3,h=>exact zFR (f:=zSJ) (λi x y hy=>by simp only[zSJ,vL,uM,or_false]at hy;rcases hy with rfl|rfl|rfl|rfl|rfl|rfl|rfl<;>first|rfl|exact zJR _ _) l h|4,h=>exact nomatch h|5,h=>exact zFR (f:=zR5) (λi x y hy=>by simp only[zR5,vL,uM,or_false]at hy;rcases hy with rfl|rfl|rfl|rfl<;>first|rfl|exact zJR _ _|exact mpt_loc _) l h|6,h=>exact arM_pure h|7,h=>exact zFR (f:=zUK) (λi x y hy=>by simp only[zUK,vL,uM,or_false]at hy;rcases hy with rfl|rfl<;>first|rfl|exact zJR _ _) l h|8,h=>exact zFR (f:=zSP) (λi x y hy=>by simp only[zSP,vL,uM,or_false]at hy;rcases hy with rfl|rfl|rfl|rfl<;>first|rfl|exact zJR _ _) l h|9,h=>exact zFR (f:=zPm) (λi x=>fl_loc _ _) l h|10,h=>exact zFR (f:=zSq) (λi x y hy=>by simp only[zSq,vL,uM,or_false]at hy;rcases hy with rfl|rfl|rfl|rfl<;>first|rfl|exact zJR _ _) l h|11,h=>exact zFR (f:=zSL) (λi x y hy=>by simp only[zSL,vL,uM,or_false]at hy;rcases hy with rfl|rfl|rfl|rfl|rfl|rfl|rfl|rfl<;>first|rfl|exact zJR _ _) l h|12,h=>exact zFR (f:=hc_sv) (λi x y hy=>by simp only[hc_sv,vL,uM,or_false]at hy;rcases hy with rfl|rfl<;>first|rfl|exact zJR _ _) l h|k+13,h=>exact nomatch h)
theorem zPu(H:Hp)(c:Nat):san (hpA H c)=hpA H c:=by show san (hpT H (c %64) (c/64))=hpT H (c %64) (c/64);generalize c %64=t;(match t with|1=>exact zHI _ _ _|2=>exact zHI _ _ _|3=>exact zHI _ _ _|5=>exact zHI _ _ _|6=>exact san_arM _ _ _ _|7=>exact zHI _ _ _|8=>exact zHI _ _ _|9=>exact zHI _ _ _|10=>exact zHI _ _ _|11=>exact zHI _ _ _|12=>exact zHI _ _ _|0|4=>exact rfl|k+13=>rfl)
theorem rn_hpA(H:Hp)(j c k:Nat):rnA j c (hpA H k)=hpA H k:=rn_pure (λl e=>zS8 H k l e) (zPu H k) j c
theorem hpA_e(c:Nat):san (hpA Hp.e c)= .free:=by rw[zPu];show hpT Hp.e (c %64) (c/64)= .free;generalize c %64=t;(match t with|0|1|2|3|4|5|6|7|8|9|10|11|12=>exact rfl|k+13=>rfl)
abbrev kH(H:Hp):Nat×A:=(HK,.hp (hpA H))
instance (H:Hp):PuH (hpA H):=⟨zS8 H⟩
theorem nc_hpA(H:Hp):NC (hpA H):=by refine NC_hpF (λi=>rfl) (λt i l h=> ?_) (λt i b u J I h=> ?_);(match t,h with|0,h=>exact nomatch h|1,h=>exact zHA (f:=zQu) (λi x=>by(repeat(first|exact zEF|refine zLk ?_|refine zH7 ?_|refine zIE rfl ?_|refine zJI (by decide) ?_|refine zJi (by decide) ?_))) h|2,h=>exact zHA (f:=zPF) (λi x=>nz_fl _ _) h|3,h=>exact zHA (f:=zSJ) (λi x=>by(repeat(first|exact zEF|refine zLk ?_|refine zH7 ?_|refine zIE rfl ?_|refine zJI (by decide) ?_|refine zJi (by decide) ?_))) h|4,h=>exact nomatch h|5,h=>exact zHA (f:=zR5) (λi x=>by(repeat(first|exact zEF|refine zLk ?_|refine zH7 ?_|refine zIE rfl ?_|refine zJI (by decide) ?_|refine zJi (by decide) ?_))) h|6,h=>exact(arM_nbox h).elim|7,h=>exact zHA (f:=zUK) (λi x=>by(repeat(first|exact zEF|refine zLk ?_|refine zH7 ?_|refine zIE rfl ?_|refine zJI (by decide) ?_|refine zJi (by decide) ?_))) h|8,h=>exact zHA (f:=zSP) (λi x=>by(repeat(first|exact zEF|refine zLk ?_|refine zH7 ?_|refine zIE rfl ?_|refine zJI (by decide) ?_|refine zJi (by decide) ?_))) h|9,h=>exact zHA (f:=zPm) (λi x=>nz_fl _ _) h|10,h=>exact zHA (f:=zSq) (λi x=>by(repeat(first|exact zEF|refine zLk ?_|refine zH7 ?_|refine zIE rfl ?_|refine zJI (by decide) ?_|refine zJi (by decide) ?_))) h|11,h=>exact zHA (f:=zSL) (λi x=>by(repeat(first|exact zEF|refine zLk ?_|refine zH7 ?_|refine zIE rfl ?_|refine zJI (by decide) ?_|refine zJi (by decide) ?_))) h|12,h=>exact zHA (f:=hc_sv) (λi x=>by(repeat(first|exact zEF|refine zLk ?_|refine zH7 ?_|refine zIE rfl ?_|refine zJI (by decide) ?_|refine zJi (by decide) ?_))) h|k+13,h=>exact nomatch h);(match t,h with|0,h=>exact nomatch h|1,h=>exact zG6 h|2,h=>exact zG6 h|3,h=>exact zG6 h|4,h=>exact nomatch h|5,h=>exact zG6 h|6,h=>exact arM_nrcd h|7,h=>exact zG6 h|8,h=>exact zG6 h|9,h=>exact zG6 h|10,h=>exact zG6 h|11,h=>exact zG6 h|12,h=>exact zG6 h|k+13,h=>exact nomatch h)
structure zX where
 home_:Int
 off_:Int
structure zC where
 Key:Y
 Version:Int
 Len:Int
 First:Int
structure zI where
 Entry:zC
 next_:Int
structure zAn where
 Kind:Int
 Key:Y
 Version:Int
 Size:Int
abbrev zAa(x:zAn):List D:=[iD x.Kind,sD x.Key,iD x.Version,iD x.Size]
structure zQ where
 Kind:Int
 Key:Y
 Version:Int
 Data:Y
abbrev qL(x:zQ):List D:=[iD x.Kind,sD x.Key,iD x.Version,yD x.Data]
structure zBH where
 home_:Int
 data_:Y
structure zB where
 Home:Int
 Data:Y
abbrev zN(x:zB):List D:=[iD x.Home,yD x.Data]
structure zG where
 kind_:Int
 number_:Int
 data_:Y
 ok_:Bool
abbrev zBS(x:zG):List D:=[iD x.kind_,iD x.number_,yD x.data_,bD x.ok_]
structure zFO where
 Version:Int
 Data:Y
structure zJ where
 From:Int
 Len:Int
abbrev yH(x:zJ):List D:=[iD x.From,iD x.Len]
structure zGD where
 Count:Int
 Keys:Int
 Bytes:Int
 Quota:Int
 Used:Int
 Free:Int
 Top:Int
structure yI where
 Keys:(List Y)
 Blobs:(List zFO)
 Count:Int
 Quota:Int
 Room:Int
abbrev zBF(x:zFO):List D:=[iD x.Version,yD x.Data]
def zEC(J U:Int):TT Int []:=
.w 21 trivial (u8E J)<|
.b (idx ([0,1,2,2,3,3,3,3,4,4,4,4,4,4,4,4,5,5,5,5,5,5,5,5,5,5,5,5,5,5,5,5,6,6,6,6,6,6,6,6,6,6,6,6,6,6,6,6,6,6,6,6,6,6,6,6,6,6,6,6,6,6,6,6,7,7,7,7,7,7,7,7,7,7,7,7,7,7,7,7,7,7,7,7,7,7,7,7,7,7,7,7,7,7,7,7,7,7,7,7,7,7,7,7,7,7,7,7,7,7,7,7,7,7,7,7,7,7,7,7,7,7,7,7,7,7,7,7,8,8,8,8,8,8,8,8,8,8,8,8,8,8,8,8,8,8,8,8,8,8,8,8,8,8,8,8,8,8,8,8,8,8,8,8,8,8,8,8,8,8,8,8,8,8,8,8,8,8,8,8,8,8,8,8,8,8,8,8,8,8,8,8,8,8,8,8,8,8,8,8,8,8,8,8,8,8,8,8,8,8,8,8,8,8,8,8,8,8,8,8,8,8,8,8,8,8,8,8,8,8,8,8,8,8,8,8,8,8,8,8,8,8,8,8,8,8,8,8,8,8,8,8,8,8,8,8]:Y) ((U8 J).toNat:Int)) λI u=>
.w 22 (zOG u) (.oe (zN1 u))<|
.w 23 trivial (i648E I)<|
.e (wi (U+(I.toNat:Int)))
def zEH(u I:Int):TT Int []:=
.j 42 (λq=>[(0,.t (.d (.lit (.int .u64 q.1)))),(2,iA q.2)]) (λq=>zEC q.1 q.2)<|
.i 44 (decide (u>=256)) (λJ=> .k [] .z ((Int.fdiv u (2^8)),(wi (I+8)))) λJ=>
.k [] .z (u,I)
def zEJ(I J:Int):TT Int []:=
.j 30 (λq=>[(0,.t (.d (.lit (.int .u64 q.1)))),(2,iA q.2)]) (λq=>zEH q.1 q.2)<|
.i 26 (decide (I>=65536)) (λu=> .k [] .z ((Int.fdiv I (2^16)),(wi (J+16)))) λu=>
.k [] .z (I,J)
def zHX(I:Int):TT Int []:=
.j 18 (λq=>[(0,.t (.d (.lit (.int .u64 q.1)))),(2,iA q.2)]) (λq=>zEJ q.1 q.2)<|
.i 14 (decide (I>=4294967296)) (λu=> .k [] .z ((Int.fdiv I (2^32)),32)) λu=>
.k [] .z (I,0)
def zAp p0:=(zHX p0).q
theorem zLo p0:∀r,zAp p0=some r->FP 209 [.t (.d (.lit (.int .u64 p0)))] [] (iA r):=zAM mixed Tryz.func209 _
end
set_option maxRecDepth 20000
set_option maxRecDepth 20000
noncomputable section
def zBf(J:Int)(I:Int):Option Int:=
Option.bind (idx ([0,1,2,2,3,3,3,3,4,4,4,4,4,4,4,4,5,5,5,5,5,5,5,5,5,5,5,5,5,5,5,5,6,6,6,6,6,6,6,6,6,6,6,6,6,6,6,6,6,6,6,6,6,6,6,6,6,6,6,6,6,6,6,6,7,7,7,7,7,7,7,7,7,7,7,7,7,7,7,7,7,7,7,7,7,7,7,7,7,7,7,7,7,7,7,7,7,7,7,7,7,7,7,7,7,7,7,7,7,7,7,7,7,7,7,7,7,7,7,7,7,7,7,7,7,7,7,7,8,8,8,8,8,8,8,8,8,8,8,8,8,8,8,8,8,8,8,8,8,8,8,8,8,8,8,8,8,8,8,8,8,8,8,8,8,8,8,8,8,8,8,8,8,8,8,8,8,8,8,8,8,8,8,8,8,8,8,8,8,8,8,8,8,8,8,8,8,8,8,8,8,8,8,8,8,8,8,8,8,8,8,8,8,8,8,8,8,8,8,8,8,8,8,8,8,8,8,8,8,8,8,8,8,8,8,8,8,8,8,8,8,8,8,8,8,8,8,8,8,8,8,8,8,8,8,8]:Y) ((U8 J).toNat:Int)) λu=>
some (wi (I+(u.toNat:Int)))
theorem zKF(I:Int)(u:Int):(zEC I u).run Env.nil=zBf I u:=by simp only[zEC,rn]<;>rfl
def zBh(u:Int)(I:Int):Option Int:=
bif (decide (u>=256))then(zBf (Int.fdiv u (2^8)) (wi (I+8)))else
zBf u I
theorem zKV(u:Int)(I:Int):(zEH u I).run Env.nil=zBh u I:=by simp only[zEH,rn,zKF]<;>rfl
def zBe(u:Int)(I:Int):Option Int:=
bif (decide (u>=65536))then(zBh (Int.fdiv u (2^16)) (wi (I+16)))else
zBh u I
theorem zKP(u:Int)(I:Int):(zEJ u I).run Env.nil=zBe u I:=by simp only[zEJ,rn,zKV]<;>rfl
theorem zMr(u:Int):zAp u=
bif (decide (u>=4294967296))then(zBe (Int.fdiv u (2^32)) 32)else
zBe u 0:=by simp only[zAp,zHX,rn,zKP]<;>rfl
end
end Go.Proofs.YtocolhfjpadaoaaGreatDoor
namespace Go.Proofs.YtocolhfjpadaoaaGreatDoor
open Go Go.RowKit Go.Shelf
attribute [local go_sem] Oper.semAt_some
def upto{α:Type}(f:Nat->α)(k:Nat):List α:=(List.range k).map f
theorem zOJ{α:Type}(f:Nat->α)(k:Nat):upto f (k+1)=upto f k++[f k]:=by simp[upto,List.range_succ]
theorem zLF{α:Type}(f:Nat->α)(k:Nat):(upto f k).length=k:=by simp[upto]
def bk(zs:List Int)(j:Nat):Nat×Int:=(zs.length-1-j,zs[zs.length-1-j]?.getD 0)
theorem bk_step{zs:List Int}{k:Nat}(hk:k+1<=zs.length):upto (bk zs) (zs.length-(k+1))++[(k,zs[k]?.getD 0)]=upto (bk zs) (zs.length-k):=by(have e:zs.length-k=(zs.length-(k+1))+1:=by omega);rw[e,zOJ];(have u:zs.length-1-(zs.length-(k+1))=k:=by omega);unfold bk;rw[u]
set_option maxRecDepth 100000 in
set_option maxHeartbeats 2000000 in
theorem back1_in (F:Fence) (n:Nat) (h8:F.fn 291) (γ:F.round=none) (hn:1<=n) (l Bs n₀ b cap:Nat) (ad:Option Addr) (zs:List Int) (ζ:zs.length≠0->ad=some ⟨b,0,none⟩) (α:zs.length*8<=140737488351232) (hb:b<n₀) (J Jx:List (Nat×Int)->World->Prop)
 (hY:∀u x W,J u W->u.length<zs.length->YieldAt F (n-1) Tryz.prog l #[.int .i64 (x.1:Int),.int .u64 x.2] W λe U=>
  (e= .returned (.bool true)/\J (u++[x]) U/\Below n₀ W U)\/(e= .returned (.bool false)/\Jx (u++[x]) U))
 (W:World) (δ:W.cell? ⟨Bs,0,none⟩=some (.slice ad zs.length cap)) (hc:∀j,j<zs.length->W.cell? ⟨b,j,none⟩=some (.int .u64 (zs[j]?.getD 0))) (ε:Bs<n₀) (h0:J [] W):
 CallsIn F n Tryz.prog 291 #[.func (.yield l) #[] #[],.pointer (some ⟨Bs,0,none⟩)] W λe U=>(∃v,e= .returned v)/\
  (J (upto (bk zs) zs.length) U\/(∃k,k<=zs.length/\Jx (upto (bk zs) k) U)):=by
 refine callsIn_of_wp Tryz.func291 rfl h8 ?_ γ
 simp only[Tryz.ntmps291,vV,uS,uR,Nat.reduceAdd,Nat.reduceSub,sM,sN,List.push_toArray,sR,tF,sB]
 gi_wp2
 gi_loopw [3] (λi wr=>∃k:Nat,k<=zs.length/\i= .int .i64 ((k:Int)-1)/\J (upto (bk zs) (zs.length-k)) wr/\Below n₀ W wr)
  (λi _=>(intOf i+1).toNat)
 case atStart=>exact⟨zs.length,wJ _,rfl,by rw[sE];exact h0,Below.refl _ _⟩
 case round=>
  obtain⟨k,hk,rfl,Z,I⟩:=hrel
  cases k with
   |zero=>
    have e:((0:Nat):Int)-1= -1:=rfl
    rw[e]
    gi_wp2
    go_end0
    exact⟨⟨_,rfl⟩,.inl Z⟩
   |succ k=>
    obtain rfl:=ζ (by omega)
    have e:((k+1:Nat):Int)-1=k:=by omega
    rw[e]
    have ι:wr.cell? ⟨b,k,none⟩=some (.int .u64 (zs[k]?.getD 0)):=(I.cell (p:=⟨b,k,none⟩) hb).trans (hc k hk)
    have κ:=(I.cell (p:=⟨Bs,0,none⟩) ε).trans δ
    obtain⟨fn,θ,β,η,hy,hR⟩:=hY _ (k,zs[k]?.getD 0) wr Z (by rw[zLF];omega)
    dsimp only at hy
    gi_wp2
    refine hR.mono ?_
    rintro e W3 (⟨rfl,hJ3,hk3⟩|⟨rfl,hJx3⟩)
    · gi_wp2;go_roundw;(case rel=>exact⟨k,by omega,rfl,by rw[<-bk_step hk];exact hJ3,I.trans hk3⟩);(case measure=>simp only[intOf];omega)
    · gi_wp2;refine bodyPost_ret (results_none rfl _ _ _) rfl ?_;exact⟨⟨_,rfl⟩,.inr ⟨zs.length-k,by omega,by rw[<-bk_step hk];exact hJx3⟩⟩
set_option maxHeartbeats 1000000 in
theorem back_in (F:Fence) (n:Nat) (I:F.fn 208) (u:F.round=none) (a:Option Addr) (len cap:Nat) (w:World):
 CallsIn F n Tryz.prog 208 #[.slice a len cap] w λe w'=>e= .returned (.func (.func 291) #[] #[.pointer (some ⟨w.heap.size,0,none⟩)])/\w'=w.alloc (.cells #[.slice a len cap] 296):=by
 refine callsIn_of_wp Tryz.func208 rfl I ?_ u
 simp only[Tryz.ntmps208,vV,uS,uR,Nat.reduceAdd,Nat.reduceSub,sM,sN,List.push_toArray,sR,tF,sB]
 gi_wp2
 go_ret
 exact⟨rfl,rfl⟩
theorem zTt(F:Fence)(n:Nat)(h8:F.fn 291)(α:F.round=none)(hn:1<=n)(U n₀ b cap:Nat)(ad:Option Addr)(zs:List Int)(δ:zs.length≠0->ad=some ⟨b,0,none⟩)(u:zs.length*8<=140737488351232)(hb:b<n₀)(Z:U<n₀)(w:World)(I:n₀<=w.heap.size)
(γ:w.cell? ⟨U,0,none⟩=some (.slice ad zs.length cap))(hc:∀j,j<zs.length->w.cell? ⟨b,j,none⟩=some (.int .u64 (zs[j]?.getD 0))):
 SeqStopsK F n Tryz.prog 291 #[.pointer (some ⟨U,0,none⟩)] (λx:Nat×Int=> #[Value.int .i64 (x.1:Int),Value.int .u64 x.2]) (Below n₀) (λys=>ys=upto (bk zs) zs.length)
  (λβ=>∃k,k<=zs.length/\β=upto (bk zs) k) zs.length w:=λl J Jx W hW _ _ hY h0=>
 (back1_in F n h8 α hn l U n₀ b cap ad zs δ u hb J Jx hY W ((hW.cell (p:=⟨U,0,none⟩) (wO Z I)).trans γ) (λj hj=>(hW.cell (p:=⟨b,j,none⟩) (wO hb I)).trans (hc j hj)) Z h0).mono λe W' ⟨he,h⟩=>
  ⟨he,h.imp (λh=>⟨_,rfl,h⟩) (λ⟨k,hk,h⟩=>⟨_,⟨k,hk,rfl⟩,h⟩)⟩
noncomputable def topM(zs:List Int):Nat->Option Int
 |0=>some (-1)
 |k+1=>bif zs[k]?.getD 0 !=0 then(Option.bind (zAp (zs[k]?.getD 0)) λv=>some (wi (wi (wi (64*(k:Int))+v)-1)))else topM zs k
noncomputable def zBt(u:Option Nat)(w0:Hp):Option Int:=ptM u (some (-1)) λi=>Option.bind (w0.ge_sp i) λx=>Option.bind (w0.ge_w64 x.l_.1) λzs=>Option.bind (bif Nat.beq zs.length x.l_.2&&decide (zs.length<=10000000000000)then some ()else none) λ_=>Option.bind (topM zs zs.length) λv=>some v
theorem zSX{W:World}{m:Mem}(J:∀b p u,m b p=some u->W.cell? ⟨b,p,none⟩=some u)(U:Mle TBL m){z v:Int}(h:zAp z=some v):
 Calls Tryz.prog 209 #[.int .u64 z] W λe Z=>e= .returned (.int .i64 v)/\Below W.heap.size W Z:=by
 refine(zLo z v h W m (λ_=>none) #[.int .u64 z] J U (λg l h=>by cases h) (λg g' l h=>by cases h) rfl (λs=> ?_)).mono ?_
 · (cases s with|zero=>exact RepD.lit _ rfl|succ s=>trivial)
 · rintro e Z ⟨u,m',o',S',a',ρ,rfl,I,hr,_⟩;refine⟨?_,(I.same.weaken λk hk=>hk rfl).below⟩;(cases hr with|lit u hu=>rfl)
def tblLen:List UInt8:=([0,1,2,2,3,3,3,3,4,4,4,4,4,4,4,4,5,5,5,5,5,5,5,5,5,5,5,5,5,5,5,5,6,6,6,6,6,6,6,6,6,6,6,6,6,6,6,6,6,6,6,6,6,6,6,6,6,6,6,6,6,6,6,6,7,7,7,7,7,7,7,7,7,7,7,7,7,7,7,7,7,7,7,7,7,7,7,7,7,7,7,7,7,7,7,7,7,7,7,7,7,7,7,7,7,7,7,7,7,7,7,7,7,7,7,7,7,7,7,7,7,7,7,7,7,7,7,7,8,8,8,8,8,8,8,8,8,8,8,8,8,8,8,8,8,8,8,8,8,8,8,8,8,8,8,8,8,8,8,8,8,8,8,8,8,8,8,8,8,8,8,8,8,8,8,8,8,8,8,8,8,8,8,8,8,8,8,8,8,8,8,8,8,8,8,8,8,8,8,8,8,8,8,8,8,8,8,8,8,8,8,8,8,8,8,8,8,8,8,8,8,8,8,8,8,8,8,8,8,8,8,8,8,8,8,8,8,8,8,8,8,8,8,8,8,8,8,8,8,8,8,8,8,8,8,8])
theorem zUE:tblLen.length=256:=by kernel_rfl
theorem idx_some{α:Type}{l:List α}{i:Nat}(h:i<l.length):∃y,idx l (i:Int)=some y:=⟨_,zCv h⟩
theorem bnd{α β:Type}{x:Option α}{y:α}{f:α->β}(h:x=some y):(Option.bind x λz=>some (f z))=some (f y):=by rw[h];rfl
theorem zUC(z:Int):∃v,zAp z=some v:=by(have J:∀a b,∃v,zBf a b=some v:=λa b=>by unfold zBf;obtain⟨y,hy⟩:=idx_some (l:=tblLen) (i:=(U8 a).toNat) (by rw[zUE];exact(U8 a).toNat_lt);exact⟨wi (b+(y.toNat:Int)),bnd hy⟩);(have I:∀a b,∃v,zBh a b=some v:=λa b=>by unfold zBh;cases decide (a>=256)<;>exact J _ _);(have u:∀a b,∃v,zBe a b=some v:=λa b=>by unfold zBe;cases decide (a>=65536)<;>exact I _ _);rw[zMr];cases decide (z>=4294967296)<;>exact u _ _
structure Hid(p:Prop):Prop where
 out:p
theorem zL3{B:Nat}{W u:World}(h:Below W.heap.size W u):KeepsFrom B W u:=
 ⟨h.size,λk o _ hk _=>(h.block k (uH.1 hk).1).trans hk⟩
set_option maxRecDepth 100000 in
set_option maxHeartbeats 4000000 in
theorem Top_in (n : Nat) (hn : 3 ≤ n) (w : World) (m : Mem) (ε : ∀ b p u, m b p = some u → w.cell? ⟨b, p, none⟩ = some u) (ξ : Mle TBL m) (g b cap : Nat) (ad : Option Addr) (zs : List Int) (φ : zs.length ≠ 0 → ad = some ⟨b, 0, none⟩)
    (γ : zs.length * 8 ≤ 140737488351232) (hb : b < w.heap.size) (τ : w.cell? ⟨g, 2, none⟩ = some (.slice ad zs.length cap)) (hc : ∀ j, j < zs.length → w.cell? ⟨b, j, none⟩ = some (.int .u64 (zs[j]?.getD 0))) (v : Int) (hv : topM zs zs.length = some v) :
    CallsIn Fence.wide n Tryz.prog 111 #[.pointer (some ⟨g, 0, none⟩)] w fun e W' => e = .returned (.int .i64 v) ∧ Below w.heap.size w W' := by
  have h1 : 1 ≤ n := by omega
  have β : Fence.wide.round = none := rfl
  have hF : ∀ f, Fence.wide.fn f := fun _ => trivial
  refine callsIn_of_wp_marks Tryz.func111 rfl (hF _) ?_ β
  simp only [Tryz.ntmps111, vV, uS, uR, Nat.reduceAdd, Nat.reduceSub, sM, sN, List.push_toArray, sR, tF, sB]
  have hg : g < w.heap.size := by simpa using wT w _ τ
  gi_wp2_with (gi_at_call 208; refine (back_in Fence.wide (n - 1) (hF _) β _ _ _ _).mono ?_; rintro e w' ⟨rfl, rfl⟩)
  have bR := Boxed.new w 3 (.int .i64 0)
  have bN := Boxed.new (w.alloc (.cells #[.int .i64 0] 3)) 296 (.slice ad zs.length cap)
  rw [tI] at bN
  have ν : Below w.heap.size w ((w.alloc (.cells #[.int .i64 0] 3)).alloc (.cells #[.slice ad zs.length cap] 296)) := ((Below.refl _ w).alloc (wJ _) _).alloc (by simp) _
  have μ : ∀ b p u, m b p = some u → b < w.heap.size := fun b p u h => by
    have := wT w _ (ε b p u h)
    simpa using this
  refine wpIn_rangeFunc_ownG β h1 (gf := 291) (lb := #[.pointer (some ⟨w.heap.size + 1, 0, none⟩)]) rfl (hF _) (enters_of Tryz.func291 (by kernel_rfl) rfl)
    (zTt Fence.wide (n - 1) (hF _) β (by omega) (w.heap.size + 1) (w.heap.size + 2) b cap ad zs φ γ (by omega) (by omega) _ (by simp) bN.cell (fun j hj => (ν.cell (p := ⟨b, j, none⟩) hb).trans (hc j hj))) belowK_t (belowK_b (by simp)) (Below.refl _ _) (fun _ => rfl)
    (fun I W => ((∃ k, k ≤ zs.length ∧ I.length = zs.length - k ∧ (I = upto (bk zs) I.length → topM zs k = some v)) ∧ W.cell? ⟨w.heap.size, 0, none⟩ = some (.int .i64 0) ∧ W.frozen? ⟨w.heap.size, 0, none⟩ = false) ∧ Below w.heap.size w W)
    (fun c I W => (c = .ret ∧ (I = upto (bk zs) I.length → W.cell? ⟨w.heap.size, 0, none⟩ = some (.int .i64 v))) ∧ Below w.heap.size w W)
    (OwnFrom.and (Own.from (fun s A B row hs hg hr => ⟨hs.1, cell_kept hs.2.1 hg hr, (frozen_kept hs.2.1 hg hr).trans hs.2.2⟩) _) (ownFrom_below (wJ _) (by simp; omega)))
    (fun c => OwnFrom.and (Own.from (fun s A B row hs hg hr => ⟨hs.1, fun e => cell_kept (hs.2 e) hg hr⟩) _) (ownFrom_below (wJ _) (by simp; omega)))
    ⟨⟨⟨zs.length, wJ _, by simp, fun _ => hv⟩, (bR.alloc _).cell, (bR.alloc _).frozen⟩, ν⟩
    (fun x => { tmps := #[.pointer (some ⟨g, 0, none⟩), undef, .pointer (some ⟨w.heap.size, 0, none⟩), .int .i64 (x.1 : Int), .int .u64 x.2, .pointer (some ⟨g, 0, none⟩), .bool false, .pointer (some ⟨g, 0, none⟩), .pointer (some ⟨g, 0, none⟩), .pointer (some ⟨g, 2, none⟩), .slice ad zs.length cap, .func (.func 291) #[] #[.pointer (some ⟨w.heap.size + 1, 0, none⟩)], .int .i64 (x.1 : Int), .int .u64 x.2, undef, undef, undef, undef, undef, undef, undef, undef], defers := [] }) ?assign ?body ?done ?stop
  case assign =>
    intro l x W K hK
    gi_wp2
    exact hK
  case body =>
    rintro l I x W ⟨⟨⟨k, hk, J, ht⟩, U, ζ⟩, hB⟩ Z
    obtain ⟨z, hz⟩ := zUC x.2
    obtain ⟨k, rfl⟩ : ∃ j, k = j + 1 := ⟨k - 1, by omega⟩
    have α : ∀ b p u, m b p = some u → W.cell? ⟨b, p, none⟩ = some u := fun b p u h => (hB.cell (p := ⟨b, p, none⟩) (μ b p u h)).trans (ε b p u h)
    have ι := zSX α ξ hz
    have HH : Hid (zAp x.2 = some z ∧ I.length < zs.length ∧ I.length = zs.length - (k + 1) ∧ (I = upto (bk zs) I.length → topM zs (k + 1) = some v)) := ⟨hz, Z, J, ht⟩
    clear α hz Z J ht
    gi_wp2
    · have hW : w.heap.size < W.heap.size := by simpa using wT W _ U
      refine ⟨fun _ => by omega, (CallsIn.inRound l (callsIn_wide.2 ι)).mono ?_⟩
      rintro e W' ⟨rfl, δ⟩
      have π := (δ.cell (p := ⟨w.heap.size, 0, none⟩) hW).trans U
      have χ := (δ.frozen (p := ⟨w.heap.size, 0, none⟩) hW).trans ζ
      have σ : Below w.heap.size w W' := hB.trans (δ.mono (Nat.le_of_lt hW))
      dsimp only
      gi_wp2
      obtain ⟨hz, Z, J, ht⟩ := HH.out
      have θ : I ++ [x] = upto (bk zs) (I ++ [x]).length → topM zs (k + 1) = some v ∧ x = (k, zs[k]?.getD 0) := fun e => by
        rw [wS, tV, zOJ] at e
        obtain ⟨e1, e2⟩ := List.append_inj' e rfl
        refine ⟨ht e1, ?_⟩
        injection e2 with e2
        rw [e2]
        unfold bk
        rw [show zs.length - 1 - I.length = k by omega]
      have hx : (x.2 != 0) = true := by assumption
      refine ⟨(zL3 δ).trans ((KeepsOthers.setCell _ _ _).from _), ⟨rfl, fun e => ?_⟩, σ.setCell (p := ⟨w.heap.size, 0, none⟩) (wJ _) _⟩
      obtain ⟨h1, h2⟩ := θ e
      have ρ : wi (wi (wi (64 * (x.1 : Int)) + z) - 1) = v := by
        unfold topM at h1
        rw [h2] at hx hz
        rw [show (zs[k]?.getD 0 != 0) = true from hx, cond_true, hz] at h1
        rw [h2]
        injection h1
      rw [← ρ]
      have hw : ∀ z, wi z = wrap64 z := IntWalk.i64_left
      rw [hw, hw, hw]
      exact World.cell?_setCell_same' _ _ _ (by rw [π]; rfl)
    · obtain ⟨hz, Z, J, ht⟩ := HH.out
      have θ : I ++ [x] = upto (bk zs) (I ++ [x]).length → topM zs (k + 1) = some v ∧ x = (k, zs[k]?.getD 0) := fun e => by
        rw [wS, tV, zOJ] at e
        obtain ⟨e1, e2⟩ := List.append_inj' e rfl
        refine ⟨ht e1, ?_⟩
        injection e2 with e2
        rw [e2]
        unfold bk
        rw [show zs.length - 1 - I.length = k by omega]
      have hx : x.2 = 0 := by have h : (x.2 != 0) = false := by assumption
                              simpa using h
      refine ⟨KeepsFrom.refl _ _, Below.refl _ _, ⟨⟨k, by omega, by simp; omega, fun e => ?_⟩, U, ζ⟩, hB⟩
      obtain ⟨h1, h2⟩ := θ e
      unfold topM at h1
      rw [h2] at hx
      rwa [show (zs[k]?.getD 0 != 0) = false by simpa using hx] at h1
  case done =>
    rintro D ys W hD rfl ⟨⟨⟨k, hk, J, ht⟩, U, ζ⟩, hB⟩ hK
    rw [zLF] at J ht
    obtain rfl : k = 0 := by omega
    obtain rfl : v = -1 := by have h := ht rfl; injection h with h; exact h.symm
    clear ht
    gi_wp2
    have κ := (KeepsOthers.setCell W ⟨w.heap.size, 0, none⟩ (.int .i64 (-1))).same D _ hK rfl
    refine ⟨by simp, .inl ⟨_, _, rfl, run_takeDeferred κ, ?_⟩⟩
    have η := cell_kept (World.cell?_setCell_same' W ⟨w.heap.size, 0, none⟩ (.int .i64 (-1)) (by rw [U]; rfl)) (grownBy_putObj' _ D (.deferred none)) (fun r e => by cases e; exact ⟨_, κ, rfl⟩)
    refine ⟨.int .i64 (-1), ?_, rfl, (hB.setCell (p := ⟨w.heap.size, 0, none⟩) (wJ _) _).trans (belowK_b (w := w) (wJ _) _ D _ _ (by simp at hD; omega) κ rfl rfl)⟩
    simp [results, Tryz.f111, go_sem, η]
  case stop =>
    rintro D c I W hD ⟨k, hk, rfl⟩ ⟨⟨rfl, U⟩, hB⟩ hK
    have U := U (by rw [zLF])
    gi_wp2
    refine ⟨by simp, .inl ⟨_, _, rfl, run_takeDeferred hK, ?_⟩⟩
    have η := cell_kept U (grownBy_putObj' _ D (.deferred none)) (fun r e => by cases e; exact ⟨_, hK, rfl⟩)
    refine ⟨.int .i64 v, ?_, rfl, hB.trans (belowK_b (w := w) (wJ _) W D _ _ (by simp at hD; omega) hK rfl rfl)⟩
    simp [results, Tryz.f111, go_sem, η]
set_option maxRecDepth 100000 in
theorem Top_nil (n:Nat) (hn:3<=n) (w:World):CallsIn Fence.wide n Tryz.prog 111 #[.pointer none] w λe J=>e= .returned (.int .i64 (-1))/\Below w.heap.size w J:=by have u:Fence.wide.round=none:=rfl;have U:∀f,Fence.wide.fn f:=λ_=>trivial;refine callsIn_of_wp Tryz.func111 rfl (U _) ?_ u;simp only[Tryz.ntmps111,vV,uS,uR,Nat.reduceAdd,Nat.reduceSub,sM,sN,List.push_toArray,sR,tF,sB];gi_wp2;refine bodyPost_ret (v:= .int .i64 (-1)) ?_ rfl ⟨rfl,(Below.refl _ w).alloc (wJ _) _⟩;have I:=(Boxed.new w 3 (.int .i64 (-1))).cell;simp[results,Tryz.f111,go_sem,I]
theorem zTF{w:World}{g:Nat}{cs:Array Value}{E:Nat}(h:w.heap[g]? =some (.cells cs E (0,0))){p:Nat}{u:Value}(hp:cs[p]? =some u):w.cell? ⟨g,p,none⟩=some u:=by simp[World.cell?,h,hp]
theorem zKq(p0:Option Nat)(w0:Hp)(r:Int)(h:zBt p0 w0=some r):FCH Tryz.prog 111 [.t (T.opt 8 p0)] [] [] (hpA w0) (hpA w0) (.t (.d (.lit (.int .i64 r)))):=by intro w m o I α γ β Z δ J;(have ζ:∀b p u,m b p=some u->b<w.heap.size:=λb p u h=>by have:=wT w _ (α b p u h);simpa using this);(have ε:∀g j,o g=some (OB+j,0)->OB2<=OB+j:=by intro g j h;refine Nat.le_of_not_lt λh2=> ?_;have hs:=J (OB+j);(have e:argH [.t (T.opt 8 p0)] [] (hpA w0) (OB+j)= .free:=by unfold argH;rw[if_neg (by omega),if_neg (by omega)];rfl);rw[e]at hs;exact hs g 0 h);(have fin:∀(v:Int),r=v->(Calls Tryz.prog 111 I w λe W'=>e= .returned (.int .i64 v)/\Below w.heap.size w W')->Calls Tryz.prog 111 I w λe w'=>∃(u:Value) (m':Mem) (o':OwnM) (S':Nat->A) (a':Act) (ρ:Nat),e= .returned u/\Inv w m o ⟨λg=>o g≠none,[]⟩ (zGn 0) S' a' w' m' o'/\RepA m' w' o' S' ρ (.t (.d (.lit (.int .i64 r)))) u/\(∀(i:Nat) (x:A),([]:List A)[i]? =some x->S' (OB+i)=x)/\(∀c,S' (OB+(OB+c))=san (hpA w0 c))/\ρ<OB:=by intro v hr hc;subst hr;refine hc.mono ?_;rintro e w' ⟨rfl,hb⟩;have K:Keep (λ_=>False) m w o m w' o:=⟨Mle.refl _,λ_ _ _ _=>rfl,λg l h _=>hb.block g (β g l h),λ_ _ h _=>h,λ_ _ h=>h,λg _ k _ h=>⟨g,k,h⟩,λg _ h=> .of_eq (hb.block g (β g _ h))⟩;refine⟨.int .i64 r,m,o,argH [.t (T.opt 8 p0)] [] (hpA w0),{tmps:=I,defers:=[]},0,rfl,⟨Same.of_below hb,λb p u h=>(hb.cell (p:=⟨b,p,none⟩) (ζ b p u h)).trans (α b p u h),Mle.refl _,λ_ _ _=>rfl,λg l h=> .inl (by show o g≠none;rw[h];simp),λg l h=>wO (β g l h) hb.size,Z,λs _ g hg=>hg,λs=>(J s).keep K (λ_=>id) (λb off _ _=>⟨id,id⟩),rfl,γ,by rw[δ];exact(show 1<=OB by decide),λg j h=>⟨.inr (ε g j h),K.sh g j h⟩⟩,.lit _ rfl,λi x h=>by simp at h,λc=> ?_,by decide⟩;unfold argH;rw[if_neg (by omega),if_pos (by rw[<-yK];omega),<-yK,wP]);obtain⟨v0,rfl⟩:∃v0,I= #[v0]:=⟨I[0]'(by rw[δ];exact Nat.one_pos),by apply Array.ext (by simp[δ]);intro i h1 h2;simp at h2;subst h2;rfl⟩;have h0:=J 0;(have U:∀c,RepA m w o (argH [.t (T.opt 8 p0)] [] (hpA w0)) (OB+(OB+c)) (san (hpA w0 c)) (#[v0].getD (OB+(OB+c)) undef):=λc=>by have:=J (OB+(OB+c));(have e:argH [.t (T.opt 8 p0)] [] (hpA w0) (OB+(OB+c))=san (hpA w0 c):=by unfold argH;rw[if_neg (by omega),if_pos (by rw[<-yK];omega),<-yK,wP]);rw[e]at this;exact this);unfold zBt at h;rcases ptM_some h with⟨rfl,h⟩|⟨i,rfl,h⟩;(injection h with h;(obtain rfl:v0= .pointer none:=by rcases h0 with⟨_,h⟩|⟨i,h,_⟩;exact h;cases h);exact fin (-1) h.symm ((Top_nil 3 (by omega) w).calls λk=>room_wide k));(obtain⟨x,hx,h⟩:=bind_some h;obtain⟨zs,hz,h⟩:=bind_some h;obtain⟨_,W,h⟩:=bind_some h;obtain⟨v,hv,h⟩:=bind_some h;injection h with h;(obtain⟨ι,W⟩:zs.length=x.l_.2/\zs.length<=10000000000000:=by(cases hd:Nat.beq zs.length x.l_.2&&decide (zs.length<=10000000000000)with|true=>rw[wI]at hd;exact⟨wV hd.1,of_decide_eq_true hd.2⟩|false=>rw[hd]at W;cases W));(obtain⟨g,hg,rfl⟩:∃g,o g=some (OB+(OB+cd 8 i),0)/\v0= .pointer (some ⟨g,0,none⟩):=by rcases h0 with⟨h,_⟩|⟨j,h,g,h1,h2⟩;cases h;cases h;exact⟨g,h1,h2⟩);have θ:=U (cd 8 i);rw[zPu,zIh hx]at θ;obtain⟨g1,-,k1,k2,cs,E,k3,k4,k5⟩:=θ;obtain rfl:=Z g g1 _ hg k1;obtain⟨-,u,k6,k7⟩:=k5 2 _ rfl;obtain⟨A',q,q1,q2,rfl,q4⟩:=k7;have η:=U (cd 9 x.l_.1);rw[zPu,zNJ hz]at η;obtain⟨b,-,j1,j2,cs2,E2,j3,j4,j5⟩:=η;rw[<-ι]at k6;refine fin v h.symm ((Top_in 3 (by omega) w m α γ g b q A' zs (λκ=> ?_) (by omega) (β b _ j1) (zTF k3 k6) (λj hj=> ?_) v hv).calls λk=>room_wide k);(rcases q4 with rfl|⟨b',μ,E',e1,e2,-⟩;omega;(obtain rfl:=Z b b' _ j1 e1;exact e2));(obtain⟨-,u,l1,l2⟩:=j5 j _ (by have:=zO2 (c:=cInt .u64) (zCv hj) rfl (λ_=>rfl);rw[wR,vJ,uQ]at this;exact this);(cases l2 with|lit _ _=>rw[wF hj];exact zTF j3 l1)))
end Go.Proofs.YtocolhfjpadaoaaGreatDoor
