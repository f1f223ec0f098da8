/-
  Lemmas of this claim, joined.
-/
import Derived.WalkKit
import Derived.OpenShut
import Derived.ProofKit
import Derived.Deep.QuietTactic
import Derived.BigQuiet
import Derived.Lib.Hide
import Derived.WalkSmall
import Derived.Laws.OwnMore
import Derived.Deep.Draws
import Derived.WalkSpells
import Derived.WalkLawsBesides
import Derived.Deep.RegionHeld3
import Derived.Deep.Cut
import Derived.StillTailTactics
import Derived.Deep.CutRange
import Derived.Deep.CutBlock
import Derived.Deep.DeepFit
import Derived.Laws.BitsAllLaws
import Derived.Maps.AppendAt
import Derived.Deep.MidRow
import Derived.Great.BuildSlice
set_option linter.unusedVariables false
set_option linter.unusedSimpArgs false
set_option linter.constructorNameAsVariable false
namespace Go.Proofs.YtocolhfjpadaoaaGreatDoor
open Go
abbrev wB:=@List.getElem?_eq_some_iff
abbrev wC:=@List.mem_of_getElem?
abbrev wD:=@Result.andThen_ok
abbrev wE:=@Sem.run_bind
abbrev wF:=@List.getElem?_eq_getElem
abbrev wG:=@List.all_eq_true
abbrev wH:=@List.getElem?_map
abbrev wJ:=@Nat.le_refl
abbrev wM:=@Array.getD_eq_getD_getElem?
abbrev wO:=@Nat.lt_of_lt_of_le
abbrev wP:=@Nat.add_sub_cancel_left
abbrev wS:=@List.length_append
abbrev wT:=@World.block_lt_of_cell?
abbrev wU:=@Sem.run_pure
abbrev wY:=@Nat.lt_or_ge
abbrev vA:=@List.map_toArray
abbrev vB:=@List.map_cons
abbrev vD:=@Nat.le_add_right
abbrev vF:=@List.eq_nil_of_length_eq_zero
abbrev vJ:=@Nat.zero_add
abbrev vM:=@Array.length_toList
abbrev vQ:=@List.mem_map
abbrev vR:=@List.getElem?_take
abbrev vS:=@World.cell?_of_block
abbrev vV:=@List.size_toArray
abbrev vW:=@List.append_assoc
abbrev vY:=@List.getElem?_drop
abbrev vZ:=@List.length_take
abbrev uB:=@List.map_nil
abbrev uC:=@Nat.mul_le_mul_right
abbrev uE:=@Array.getElem?_eq_none
abbrev uF:=@Nat.zero_le
abbrev uH:=@Array.getElem?_eq_some_iff
abbrev uI:=@List.getElem?_eq_none
abbrev uK:=@List.getElem?_append_right
abbrev uN:=@List.getElem?_append_left
abbrev uP:=@Nat.add_zero
abbrev uW:=@Nat.le_trans
abbrev uX:=@Array.getElem?_setIfInBounds
abbrev uY:=@List.length_drop
abbrev tC:=@Nat.mul_comm
abbrev tF:=@List.nil_append
abbrev tM:=@World.ownsRow_nil
abbrev tN:=@Nat.le_mul_of_pos_right
abbrev tP:=@Nat.add_mul
abbrev tQ:=@Nat.mod_eq_of_lt
abbrev tR:=@Nat.eq_zero_or_pos
abbrev tS:=@List.mem_range
abbrev tU:=@Array.getElem?_toList
abbrev sI:=@Array.size_append
abbrev sK:=@List.getElem?_append
abbrev sL:=@Nat.div_lt_of_lt_mul
end Go.Proofs.YtocolhfjpadaoaaGreatDoor
namespace Go.Proofs.YtocolhfjpadaoaaGreatDoor
open Go.RowKit
def Row(w:World)(A:Option Addr)(xs:List Value):Prop:=∀j u,xs[j]? =some u->∃I,A=some I/\w.cell? (I.add j)=some u
theorem block_add(a:Addr)(n:Nat):(a.add n).block=a.block:=by unfold Addr.add;split<;>rfl
theorem add_add(a:Addr)(i j:Nat):(a.add i).add j=a.add (i+j):=by unfold Addr.add;grind
theorem add_zero(a:Addr):a.add 0=a:=by simp[Addr.add]
section
variable {w w':World}{A:Option Addr}{xs:List Value}
theorem Row.nil(w:World)(A:Option Addr):Row w A []:=by intro j u h;simp at h
theorem Row.keep(h:Row w A xs)(hk:∀p:Addr,p.block<w.heap.size->w'.cell? p=w.cell? p):Row w' A xs:=by intro j u J;obtain⟨U,e,I⟩:=h j u J;exact⟨U,e,(hk _ (wT w _ I)).trans I⟩
theorem Row.below(h:Row w A xs)(hb:Below w.heap.size w w'):Row w' A xs:=h.keep λ_ hp=>hb.cell hp
theorem Row.drew(h:Row w A xs):Row w.drew A xs:=h
theorem Row.alloc(h:Row w A xs)(o:Obj):Row (w.alloc o) A xs:=h.keep λp hp=>World.cell?_alloc_lt w o p hp
theorem Row.at_(h:Row w A xs){j:Nat}(I:j<xs.length):∃u,A=some u/\w.cell? (u.add j)=some xs[j]:=h j _ (wF I)
theorem Row.take(h:Row w A xs)(k:Nat):Row w A (xs.take k):=by intro j u I;rw[vR]at I;split at I;exact h j u I;grind
theorem Row.cut(h:Row w A xs){k cap:Nat}(Z:xs.length<=cap):Row w (if cap=k then A else A.map (·.add k)) (xs.drop k):=by intro j u J;rw[vY]at J;obtain⟨W,rfl,I⟩:=h _ u J;(have U:k+j<xs.length:=by grind);rw[if_neg (by omega)];exact⟨_,rfl,by rw[add_add];exact I⟩
theorem Row.of_own{base:Nat}{e:TypeId}{c n sz:Nat}(h:w.ownsRow base e sz (.slice A n c) n xs):Row w A xs:=by intro j u J;rcases A with _|ad;(rcases h.2 with⟨_,U⟩|⟨g,cap,I,hv,_⟩;(subst U;have:=h.1;grind);grind);(rcases h.2 with⟨hv,_⟩|⟨g,cap,I,hv,_⟩;grind;(cases hv;exact⟨_,rfl,h.cells (g:=g) rfl j u J⟩))
end
def cb8(b:UInt8):Value:= .int .u8 (b.toNat:Int)
def u8s(bs:List UInt8):List Value:=bs.map cb8
theorem zJ1(bs:List UInt8):(u8s bs).length=bs.length:=by simp[u8s]
def Byt(w:World)(A:Option Addr)(bs:List UInt8):Prop:=Row w A (u8s bs)
section
variable {w w':World}{A:Option Addr}{bs:List UInt8}
theorem Byt.nil(w:World)(A:Option Addr):Byt w A []:=Row.nil w A
theorem Byt.below(h:Byt w A bs)(hb:Below w.heap.size w w'):Byt w' A bs:=Row.below h hb
theorem Byt.drew(h:Byt w A bs):Byt w.drew A bs:=h
theorem Byt.alloc(h:Byt w A bs)(o:Obj):Byt (w.alloc o) A bs:=Row.alloc h o
theorem Byt.at_(h:Byt w A bs){j:Nat}(I:j<bs.length):∃u,A=some u/\w.cell? (u.add j)=some (.int .u8 (bs[j].toNat:Int)):=by obtain⟨u,e,J⟩:=Row.at_ h (j:=j) (by simpa[u8s]using I);exact⟨u,e,by simpa[cb8,u8s]using J⟩
theorem Byt.take(h:Byt w A bs)(k:Nat):Byt w A (bs.take k):=by have:=Row.take h k;unfold u8s at this;rwa [<-List.map_take]at this
theorem Byt.cut(h:Byt w A bs){k cap:Nat}(u:bs.length<=cap):Byt w (if cap=k then A else A.map (·.add k)) (bs.drop k):=by have:=Row.cut h (k:=k) (cap:=cap) (by simpa[u8s]using u);unfold u8s at this;rwa [<-List.map_drop]at this
end
end Go.Proofs.YtocolhfjpadaoaaGreatDoor
namespace Go.Proofs.YtocolhfjpadaoaaGreatDoor
open Go.RowKit
structure zIW(P:Program)(t e:TypeId)(sz nb:Nat):Prop where
 under:P.underlying t=some (.slice e)
 info:∃i z,P.info? e=some i/\i.zero=some z/\i.size=sz/\i.bytes=nb/\z.cells.size=sz
 pos:0<sz
 posb:0<nb
theorem zIW.mk'{P:Program}{t e:TypeId}{z:Value}{sz u:Nat}(U:P.underlying t=some (.slice e))(h:(P.info? e).map (λi=>(i.zero,i.size,i.bytes))=some (some z,sz,u))
(hz:z.cells.size=sz)(J:0<sz)(I:0<u):zIW P t e sz u:=by
 obtain⟨i,Z,a,b,c⟩:=info_parts h
 exact⟨U,⟨i,z,Z,a,b,c,hz⟩,J,I⟩
def Own(w:World)(B:Nat)(e:TypeId)(sz:Nat)(A:Option Addr)(n c:Nat)(xs:List Value):Prop:=w.ownsRow B e sz (.slice A n c) n xs
def blk(A:Option Addr):Option Nat:=A.map (·.block)
theorem yJ(A:Option Addr)(n c:Nat):Value.ownBlock (.slice A n c)=blk A:=by cases A<;>rfl
section
variable {w w':World}{B:Nat}{e:TypeId}{sz n c:Nat}{A:Option Addr}{xs:List Value}
theorem Own.nil(w:World)(B:Nat)(e:TypeId)(sz:Nat):Own w B e sz none 0 0 []:=tM w B e sz
theorem Own.lit(w:World)(cs:Array Value)(e:TypeId)(sz n:Nat)(hb:B<=w.heap.size)(u:n<=maxLen)(hs:cs.size=n*sz):Own (w.alloc (.cells cs e)) B e sz (some ⟨w.heap.size,0,none⟩) n n cs.toList:=
 World.ownsRow_lit w cs n hb u hs
theorem Own.litAt{w:World}{g:Nat}(cs:Array Value)(e:TypeId)(sz n:Nat)(xs:List Value)(u:g=w.heap.size)(hb:B<=w.heap.size)(I:n<=maxLen)(hs:cs.size=n*sz)(hx:cs.toList=xs):Own (w.alloc (.cells cs e)) B e sz (some ⟨g,0,none⟩) n n xs:=by subst u hx;exact Own.lit w cs e sz n hb I hs
theorem Own.row(h:Own w B e sz A n c xs):Row w A xs:=Row.of_own h
theorem Own.len(h:Own w B e sz A n c xs):xs.length=n*sz:=h.1
theorem Own.cap(h:Own w B e sz A n c xs):n<=c:=by rcases h.2 with⟨hv,I⟩|⟨g,cap,u,hv,_,_,hn,_⟩;(all_goals grind)
theorem Own.capMax(h:Own w B e sz A n c xs):c<=maxLen:=by rcases h.2 with⟨hv,J⟩|⟨g,cap,u,hv,_,_,_,I,_⟩;(all_goals grind)
theorem Own.drew(h:Own w B e sz A n c xs):Own w.drew B e sz A n c xs:=h
theorem Own.alloc(h:Own w B e sz A n c xs)(o:Obj):Own (w.alloc o) B e sz A n c xs:=World.ownsRow.alloc h o
theorem Own.kept(h:Own w B e sz A n c xs){r:Option Nat}(I:w.grownBy w' r)(u:blk A=none\/blk A≠r):Own w' B e sz A n c xs:=
 World.ownsRow.kept h I (by rw[yJ];exact u)
theorem Own.lt(h:Own w B e sz A n c xs):∀k,blk A=some k->B<=k/\k<w.heap.size:=λk hk=>World.ownsRow.lt h k (by rw[yJ];exact hk)
theorem Own.below(h:Own w B e sz A n c xs)(hb:Below w.heap.size w w'):Own w' B e sz A n c xs:=
 h.kept (r:=none) ⟨hb.os,hb.tape,hb.output,hb.size,λk hk _=>hb.block k hk⟩ (by grind)
theorem Own.belowOf(h:Own w B e sz A n c xs){u:Nat}{w0:World}(hb:Below u w0 w)(I:w.grownBy w' (blk A))(h0:u<=w.heap.size)(J:u<=B):Below u w0 w':=
 hb.grown I h0 (λk hk=>uW J (h.lt k hk).1)
theorem Row.grown(h:Row w A xs){r:Option Nat}(Z:w.grownBy w' r)(J:∀I,A=Option.some I->Option.some I.block≠r):Row w' A xs:=by intro j u U;obtain⟨I,e,W⟩:=h j u U;refine⟨I,e,Z.cell W ?_⟩;rw[block_add];grind
theorem Own.addr(h:Own w B e sz A n c xs)(hn:0<n):∃g,A=some ⟨g,0,none⟩/\B<=g/\g<w.heap.size:=by rcases h.2 with⟨_,J⟩|⟨g,cap,u,hv,hb,I,_⟩;(all_goals grind)
end
section
variable {P:Program}(w:World)
theorem run_app{t e:TypeId}{sz nb:Nat}(E:zIW P t e sz nb)(ty:TypeId)(B:Nat)(A:Option Addr)(n c:Nat)(xs:List Value)(J:Own w B e sz A n c xs)
(A':Option Addr)(m c':Nat)(I:List Value)(hl:I.length=m*sz)(U:Row w A' I)(h1:∀u∈I,u.oneCell'=true)(hb:(n+m)*nb<=140737488355328)(hB:B<=w.heap.size):
 ∃W c2 w',(Builtin.append_ #[t,t] ty #[.slice A n c,.slice A' m c']).run P w= .ok (.slice W (n+m) c2) w'/\Own w' B e sz W (n+m) c2 (xs++I)/\w.grownBy w' (blk A)/\(blk W=blk A\/blk W=some w.heap.size):=by
 obtain⟨i,z,hi,hz,α,ζ,θ⟩:=E.info
 have δ:n+m<=maxLen:=by have:=tN (n+m) E.posb;unfold maxLen;omega
 cases A' with
  |none=>
   have hn:I=[]:=by(cases I with|nil=>rfl|cons u r=>obtain⟨ad,h,_⟩:=U 0 u rfl;cases h)
   subst hn
   have hm:m=0:=by rcases tR m with h|h;exact h;(have h2:=Nat.mul_pos h E.pos;grind)
   subst hm
   refine⟨A,c,w,?_,by simpa using J,World.grownBy.refl w _,.inl rfl⟩
   rcases J.2 with⟨hv,_⟩|⟨g,cap,ε,hv,_,_,η,_⟩
   · cases hv;simp[Builtin.append_,run_underlying E.under,sizeOf,typeInfo,hi,Builtin.lenOf,Builtin.firstCells]
   · cases hv;simp[Builtin.append_,run_underlying E.under,sizeOf,typeInfo,hi,Builtin.lenOf,Builtin.firstCells,η,storeCells]
  |some ad=>
   have Z:∀j u,I[j]? =some u->w.cell? (ad.add j)=some u:=by intro j u hu;obtain⟨ι,h,hc⟩:=U j u hu;grind
   obtain⟨v',w',γ,h2,h3,_,h5⟩:=run_append_own_at (P:=P) w B t ty e i z sz nb E.under hi hz α ζ θ E.pos _ n xs J ad m c' I hl Z h1 δ hb hB
   have β:∃W c2,v'= .slice W (n+m) c2:=by rcases h2.2 with⟨hv,h0⟩|⟨g,cap,ε,hv,_⟩;(all_goals grind)
   obtain⟨W,c2,rfl⟩:=β
   rw[yJ]at h3
   rw[yJ,yJ]at h5
   exact⟨W,c2,w',γ,h2,h3,h5⟩
theorem wp_app{o:Oper}{a:Act}{K:Act->World->Prop}{Q:Exit->Act->World->Prop}{t e:TypeId}{sz nb:Nat}(E:zIW P t e sz nb)(s x:Operand)
(ho:o.op= .call {callee:= .builtin .append,args:= #[s,x],argTypes:= #[t,t]})
(B:Nat)(A:Option Addr)(n c:Nat)(xs:List Value)(hs:a.eval s= .slice A n c)(U:Own w B e sz A n c xs)
(A':Option Addr)(m c':Nat)(I:List Value)(hx:a.eval x= .slice A' m c')(hl:I.length=m*sz)(J:Row w A' I)(h1:∀u∈I,u.oneCell'=true)
(hb:(n+m)*nb<=140737488355328)(hB:B<=w.heap.size)
(h:∀W c2 w',Own w' B e sz W (n+m) c2 (xs++I)->w.grownBy w' (blk A)->(blk W=blk A\/blk W=some w.heap.size)->K (a.put o.dst (.slice W (n+m) c2)) w'):o.wp P a w K Q:=by
 obtain⟨W,c2,w',Z,h2,h3,h4⟩:=run_app (P:=P) w E o.type B A n c xs U A' m c' I hl J h1 hb hB
 unfold Oper.wp execOp
 simp only[ho,resolve,invoke,builtin,wE,wU,wD,vA,vB,uB,hs,hx,Z]
 exact h _ _ _ h2 h3 h4
theorem zUA{ops:Array Oper}{J:List Oper}{o:Oper}{a:Act}{Q:Exit->Act->World->Prop}{t e:TypeId}{sz nb:Nat}(E:zIW P t e sz nb)(α:o.guard=none)(s x:Operand)
(ho:o.op= .call {callee:= .builtin .append,args:= #[s,x],argTypes:= #[t,t]})
(B:Nat)(A:Option Addr)(n c:Nat)(xs:List Value)(hs:a.eval s= .slice A n c)(W:Own w B e sz A n c xs)
(A':Option Addr)(m c':Nat)(I:List Value)(hx:a.eval x= .slice A' m c')(hl:I.length=m*sz)(U:Row w A' I)(h1:∀u∈I,u.oneCell'=true)
(hb:(n+m)*nb<=140737488355328)(hB:B<=w.heap.size)
(h:∀Z c2 w',Own w' B e sz Z (n+m) c2 (xs++I)->w.grownBy w' (blk A)->(blk Z=blk A\/blk Z=some w.heap.size)->wpList P ops Q J (a.put o.dst (.slice Z (n+m) c2)) w'):wpList P ops Q (o::J) a w:=
 wpList_plain α λ_ hK=>wp_app w E s x ho B A n c xs hs W A' m c' I hx hl U h1 hb hB λZ c2 w' h2 h3 h4=>hK _ _ (h Z c2 w' h2 h3 h4)
end
theorem u8_ofNat(q:Nat):Value.int .u8 ((q:Int) %256)=cb8 (UInt8.ofNat (q %256)):=by unfold cb8;simp_all
theorem u8_one(bs:List UInt8):∀u∈u8s bs,u.oneCell'=true:=by intro u I;unfold u8s at I;obtain⟨b,_,rfl⟩:=vQ.1 I;rfl
theorem zUc{P:Program}(w:World){ops:Array Oper}{u:List Oper}{o:Oper}{a:Act}{Q:Exit->Act->World->Prop}{t e:TypeId}(W:P.underlying t=some (.slice e))
(hz:(P.info? e).map (λi=>(i.zero,i.size,i.bytes))=some (some (.int .u8 0),1,1))(hg:o.guard=none)(l c:Operand)(I:o.op=Op.makeSlice t l c)
(B:Nat)(kl J:IntKind)(L C:Int)(n:Nat)(hl:a.eval l= .int kl L)(hc:a.eval c= .int J C)(hL:L=(n:Int))(hC:C=(n:Int))(b:n<=281474976710656)(hB:B<=w.heap.size)
(hK:∀w',Own w' B e 1 (some ⟨w.heap.size,0,none⟩) n n (u8s (List.replicate n 0))->w.grownBy w' none->wpList P ops Q u (a.put o.dst (.slice (some ⟨w.heap.size,0,none⟩) n n)) w'):
 wpList P ops Q (o::u) a w:=by
 obtain⟨i,hi,U,h3,h4⟩:=info_parts hz
 refine wpList_make_full w hg l c t I B e i (.int .u8 0) 1 W hi U h3 kl J L C n hl hc hL hC (by rw[h4];omega) (by unfold maxLen;omega) hB λw' Z hw=>hK w' ?_ hw
 have he:(madeCells (Value.int .u8 0).cells (n*1)).toList=u8s (List.replicate n 0):=by unfold madeCells u8s;apply List.ext_getElem;simp;(intro j W U;simp[Value.cells,cb8,Nat.mod_one])
 rw[he]at Z
 exact Z
section
variable {w:World}{B:Nat}{e:TypeId}{g n c:Nat}
theorem Own.byteAt{bs:List UInt8}(h:Own w B e 1 (some ⟨g,0,none⟩) n c (u8s bs)){j:Nat}(u:j<bs.length):w.cell? ⟨g,j,none⟩=some (.int .u8 (bs[j].toNat:Int))/\w.frozen? ⟨g,j,none⟩=false:=by have hl:=h.len;rw[zJ1]at hl;refine⟨?_,World.ownsRow.frozenAt h j⟩;rw[World.ownsRow.cellAt h j (by omega)];simp[u8s,cb8,u]
theorem Own.setByte{bs:List UInt8}(h:Own w B e 1 (some ⟨g,0,none⟩) n c (u8s bs))(j:Nat)(b:UInt8):
 Own (w.setCell ⟨g,j,none⟩ (cb8 b)) B e 1 (some ⟨g,0,none⟩) n c (u8s (bs.set j b)):=by
 have:=(World.ownsRow.stored h j (cb8 b)).1
 unfold u8s at this⊢
 rw[List.map_set]
 exact this
end
end Go.Proofs.YtocolhfjpadaoaaGreatDoor
namespace Go.Proofs.YtocolhfjpadaoaaGreatDoor
open Go
def zNr:List Int:=[0,1,56,2,57,49,28,3,61,58,42,50,38,29,17,4,62,47,59,36,45,43,51,22,53,39,33,30,24,18,12,5,63,55,48,27,60,41,37,16,46,35,44,21,52,32,23,11,54,26,40,15,34,20,31,10,25,14,19,9,13,8,7,6]
def TBLS:List (Nat×List Value):=[(0,[.int .u8 0,.int .u8 1,.int .u8 56,.int .u8 2,.int .u8 57,.int .u8 49,.int .u8 28,.int .u8 3,.int .u8 61,.int .u8 58,.int .u8 42,.int .u8 50,.int .u8 38,.int .u8 29,.int .u8 17,.int .u8 4,.int .u8 62,.int .u8 47,.int .u8 59,.int .u8 36,.int .u8 45,.int .u8 43,.int .u8 51,.int .u8 22,.int .u8 53,.int .u8 39,.int .u8 33,.int .u8 30,.int .u8 24,.int .u8 18,.int .u8 12,.int .u8 5,.int .u8 63,.int .u8 55,.int .u8 48,.int .u8 27,.int .u8 60,.int .u8 41,.int .u8 37,.int .u8 16,.int .u8 46,.int .u8 35,.int .u8 44,.int .u8 21,.int .u8 52,.int .u8 32,.int .u8 23,.int .u8 11,.int .u8 54,.int .u8 26,.int .u8 40,.int .u8 15,.int .u8 34,.int .u8 20,.int .u8 31,.int .u8 10,.int .u8 25,.int .u8 14,.int .u8 19,.int .u8 9,.int .u8 13,.int .u8 8,.int .u8 7,.int .u8 6])]
end Go.Proofs.YtocolhfjpadaoaaGreatDoor
namespace Go.Proofs.YtocolhfjpadaoaaGreatDoor
open Go Go.RowKit
inductive D where
 |lit(v:Value)
 |seq(k:Nat)(l:List (List D))
 |clo(f:FuncId)(caps:List (List D))
instance:Inhabited D:=⟨.lit undef⟩
abbrev Mem:=Nat->Nat->Option Value
inductive RepD(m:Mem):D->Value->Prop
 |lit (u:Value) (h:u.oneCell'=true):RepD m (.lit u) u
 |seq (k:Nat) (l:List (List D)) (A:Option Addr) (cap g o:Nat) (f:Nat->Nat->Value)
  (hcap:l.length<=cap) (hmax:cap<=maxLen) (hA:l≠[]->A=some ⟨g,o,none⟩)
  (hw:∀(i:Nat) (r:List D),l[i]? =some r->r.length=k)
  (hm:∀(i:Nat) (r:List D) (j:Nat) (d:D),l[i]? =some r->r[j]? =some d->m g (o+i*k+j)=some (f i j))
  (hr:∀(i:Nat) (r:List D) (j:Nat) (d:D),l[i]? =some r->r[j]? =some d->RepD m d (f i j)):RepD m (.seq k l) (.slice A l.length cap)
 |clo (fn:FuncId) (l:List (List D)) (ptrs:Array Value) (g p:Nat->Nat) (f:Nat->Nat->Value) (hsz:ptrs.size=l.length)
  (hp:∀(i:Nat) (r:List D),l[i]? =some r->ptrs[i]? =some (.pointer (some ⟨g i,p i,none⟩)))
  (hm:∀(i:Nat) (r:List D) (j:Nat) (d:D),l[i]? =some r->r[j]? =some d->m (g i) (p i+j)=some (f i j))
  (hr:∀(i:Nat) (r:List D) (j:Nat) (d:D),l[i]? =some r->r[j]? =some d->RepD m d (f i j)):RepD m (.clo fn l) (.func (.func fn) #[] ptrs)
def TBL:Mem:=λb p=>match TBLS.find? (λx=>x.1==b)with
 |some x=>x.2[p]?
 |none=>none
def Mle(m m':Mem):Prop:=∀b p u,m b p=some u->m' b p=some u
theorem Mle.refl(m:Mem):Mle m m:=λ_ _ _ h=>h
theorem Mle.trans{a b c:Mem}(h:Mle a b)(k:Mle b c):Mle a c:=λ_ _ _ x=>k _ _ _ (h _ _ _ x)
theorem RepD.mono{m m':Mem}(hm:Mle m m'){d:D}{v:Value}(h:RepD m d v):RepD m' d v:=by(induction h with|lit u h=>exact .lit u h|seq k l A cap g o f Z U W h4 h5 _ J=>exact .seq k l A cap g o f Z U W h4 (λi r j d a b=>hm _ _ _ (h5 i r j d a b)) J|clo fn l I g p f Z U W _ J=>exact .clo fn l I g p f Z U (λi r j d a b=>hm _ _ _ (W i r j d a b)) J)
theorem RepD.one{m:Mem}{d:D}{v:Value}(h:RepD m d v):v.oneCell'=true:=by(cases h with|lit u h=>exact h|seq=>rfl|clo=>rfl)
theorem RepD.cells{m:Mem}{d:D}{v:Value}(h:RepD m d v):v.cells= #[v]:=by have:=h.one;cases v<;>first|rfl|(cases this)
def RepL(m:Mem)(l:List D)(vs:List Value):Prop:=vs.length=l.length/\∀(j:Nat) (d:D),l[j]? =some d->∃u,vs[j]? =some u/\RepD m d u
theorem RepL.mono{m m':Mem}(J:Mle m m'){l:List D}{vs:List Value}(h:RepL m l vs):RepL m' l vs:=
 ⟨h.1,λj d I=>let⟨u,a,b⟩:=h.2 j d I;⟨u,a,b.mono J⟩⟩
def OB:Nat:=1099511627776
def cd(t i:Nat):Nat:=i*64+t
inductive T where
 |d(x:D)
 |agg(l:List D)
 |own(E k:Nat)(l:List (List D))
 |ptr(j off:Nat)
 |view(j off E k n:Nat)
 |hpt(c off:Nat)
 |opt(t:Nat)(p:Option Nat)
 |hvw(c off E k n:Nat)
 |mpt(j:Nat)
 |xs(E k:Nat)(l:List (List D))(r:Option Value)
 |ags(l:List D)(js:List (Nat×Nat×Nat×List (List D)))
 |any
instance:Inhabited T:=⟨.d default⟩
inductive CkE where
 |live(c:Nat)
 |fz(l:List D)
inductive A where
 |t(x:T)
 |tup(l:List T)
 |imm(l:List D)
 |box(l:List T)
 |ref(s off:Nat)
 |free
 |ag(l:List T)
 |hp(f:Nat->A)
 |mp(l:List (T×T))
 |lst(l:List T)
 |fr(E k:Nat)
 |cl(f:FuncId)(caps:List (List T))
 |ck(f:FuncId)(cs:List CkE)
 |imt(l:List T)
 |rcd(b:Nat)(u:Obj)(mE:Mem)(oE:Nat->Option (Nat×Nat))
 |any
instance:Inhabited A:=⟨.any⟩
abbrev OwnM:=Nat->Option (Nat×Nat)
def OFB:Nat:=1099511627776
def ownE(w:World)(E g q c:Nat)(u:Array Value):Prop:=∃e,w.heap[g]? =some (.cells u e (0,0))/\(E=OFB\/(e=E/\q=0/\u.size=c))
def zHo(w:World)(e size:Nat)(v:Value)(n:Nat)(xs:List Value):Prop:=
 xs.length=n*size/\((v= .slice none 0 0/\n=0)\/∃g q cap u,v= .slice (some ⟨g,q,none⟩) n cap/\ownE w e g q (cap*size) u/\n<=cap/\cap<=maxLen/\(u.size=q+cap*size\/cap=0/\q<=u.size)/\(u.toList.drop q).take (n*size)=xs)
theorem zF3{w:World}{B e size n:Nat}{v:Value}{xs:List Value}(h:w.ownsRow B e size v n xs):zHo w e size v n xs:=
 ⟨h.1,h.2.imp id λ⟨g,cap,u,Z,_,J,h3,U,W,I⟩=>⟨g,0,cap,u,Z,⟨_,J,.inr ⟨rfl,rfl,W⟩⟩,h3,U,.inl (by grind),I⟩⟩
def offA:Option Addr->Nat
 |some a=>a.off
 |none=>0
def zJO(m:Mem)(w:World)(o:OwnM)(loc:Nat×Nat)(E k:Nat)(l:List (List D))(v:Value):Prop:=
 ∃(I:Option Addr) (cap:Nat) (xs:List Value),v= .slice I l.length cap/\zHo w E k v l.length xs/\(∀g,blk I=some g->o g=some loc/\∀p,p<cap*k->m g (offA I+p)=xs[p]?)/\
  (∀(i:Nat) (r:List D),l[i]? =some r->r.length=k)/\∀(i:Nat) (r:List D) (j:Nat) (d:D),l[i]? =some r->r[j]? =some d->∃u,xs[i*k+j]? =some u/\RepD m d u
def XsAt(m:Mem)(w:World)(o:OwnM)(loc:Nat×Nat)(E k:Nat)(l:List (List D))(r:Option Value)(v:Value):Prop:=
 ∃(I:Option Addr) (cap:Nat) (xs:List Value),v= .slice I l.length cap/\zHo w E k v l.length xs/\(∀g,blk I=some g->o g=some loc/\∀p,m g p=none)/\
  ((∀(i:Nat) (r:List D),l[i]? =some r->r.length=k)/\(l=[]->cap=0)/\∀u,r=some u->v=u)/\∀(i:Nat) (r:List D) (j:Nat) (d:D),l[i]? =some r->r[j]? =some d->∃u,xs[i*k+j]? =some u/\RepD m d u
def elE(E u c n k sz:Nat):Prop:=E=0\/(E<OFB/\u=E)\/(E=OFB+u/\c=n/\sz=n*k)
theorem elE.ty{E u c n k sz:Nat}(h:elE E u c n k sz)(h0:E≠0)(I:E<OFB):u=E:=by rcases h with h|⟨_,h⟩|⟨h,_⟩;(all_goals grind)
def DjV(vs:Array Value)(u:List (Nat×Nat×Nat×List (List D))):Prop:=∀a∈u,∀b∈u,a.1≠b.1->∀g,((vs[a.1]?).bind (·.ownBlock))=some g->((vs[b.1]?).bind (·.ownBlock))≠some g
def zH3(m:Mem)(w:World)(o:OwnM)(loc:Nat×Nat)(l:List D)(J:List (Nat×Nat×Nat×List (List D)))(v:Value):Prop:=
 ∃I:Array Value,v= .agg I/\RepL m l I.toList/\DjV I J/\∀c∈J,∃u,I[c.1]? =some u/\zJO m w o loc c.2.1 c.2.2.1 c.2.2.2 u
theorem zH3.map{m m':Mem}{w w':World}{o o':OwnM}{loc loc':Nat×Nat}{l:List D}{I:List (Nat×Nat×Nat×List (List D))}{v:Value}(J:Mle m m')(hO:∀E k r u,zJO m w o loc E k r u->zJO m' w' o' loc' E k r u)(h:zH3 m w o loc l I v):zH3 m' w' o' loc' l I v:=by obtain⟨U,e,W,Z,h3⟩:=h;refine⟨U,e,W.mono J,Z,λc hc=> ?_⟩;grind
theorem zJO.own{m:Mem}{w:World}{o o':OwnM}{loc loc':Nat×Nat}(J:∀g,o g=some loc->o' g=some loc'){E k:Nat}{l:List (List D)}{v:Value}(h:zJO m w o loc E k l v):zJO m w o' loc' E k l v:=by obtain⟨A',cap,xs,e,Z,u,W,U⟩:=h;exact⟨A',cap,xs,e,Z,λg I=>⟨J g (u g I).1,(u g I).2⟩,W,U⟩
theorem zH3.own{m:Mem}{w:World}{o o':OwnM}{loc loc':Nat×Nat}(I:∀g,o g=some loc->o' g=some loc'){l:List D}{u:List (Nat×Nat×Nat×List (List D))}{v:Value}(h:zH3 m w o loc l u v):zH3 m w o' loc' l u v:=
 h.map (λ_ _ _ q=>q) λ_ _ _ _ q=>q.own I
theorem zH3.agg{m:Mem}{w:World}{o:OwnM}{loc:Nat×Nat}{l:List D}{J:List (Nat×Nat×Nat×List (List D))}{v:Value}(h:zH3 m w o loc l J v):∃u:Array Value,v= .agg u/\RepL m l u.toList:=let⟨u,e,I,_⟩:=h;⟨u,e,I⟩
def RepT(m:Mem)(w:World)(o:OwnM)(loc:Nat×Nat):T->Value->Prop
 | .d x,v=>RepD m x v
 | .agg l,v=>∃U:Array Value,v= .agg U/\RepL m l U.toList
 | .own E k l,v=>zJO m w o loc E k l v
 | .ptr j off,v=>∃g,o g=some (OB+j,0)/\v= .pointer (some ⟨g,off,none⟩)
 | .view j off E k n,v=>∃J c,n<=c/\c<=maxLen/\v= .slice J n c/\(c=0\/∃g u I,o g=some (OB+j,0)/\J=some ⟨g,off,none⟩/\w.heap[g]? =some (.cells u I (0,0))/\off+c*k<=u.size/\elE E I c n k u.size)
 | .hpt c off,v=>∃g,o g=some (OB+(OB+c),0)/\v= .pointer (some ⟨g,off,none⟩)
 | .opt t p,v=>(p=none/\v= .pointer none)\/∃i,p=some i/\∃g,o g=some (OB+(OB+cd t i),0)/\v= .pointer (some ⟨g,0,none⟩)
 | .hvw c off E k n,v=>∃J q,n<=q/\q<=maxLen/\v= .slice J n q/\(q=0\/∃g u I,o g=some (OB+(OB+c),0)/\J=some ⟨g,off,none⟩/\w.heap[g]? =some (.cells u I (0,0))/\off+q*k<=u.size/\elE E I q n k u.size)
 | .mpt j,v=>∃g,o g=some (OB+j,0)/\v= .map (some g)
 | .xs E k l r,v=>XsAt m w o loc E k l r v
 | .ags l Z,v=>zH3 m w o loc l Z v
 | .any,v=>v.oneCell'=true
def T.isPt:T->Bool| .any| .xs _ _ _ _| .mpt _| .ptr _ _| .view _ _ _ _ _| .hpt _ _| .opt _ _| .hvw _ _ _ _ _=>true|_=>false
def noPt(l:List T):Bool:=l.all λx=> !x.isPt
def T.isAgg:T->Bool| .agg _| .ags _ _=>true|_=>false
def zQm(m:Mem)(w:World)(o:OwnM)(s:Nat)(l:List T)(g:Nat):Prop:=
 o g=some (s,0)/\(∀p,m g p=none)/\∃(I:Array Value) (E:Nat),w.heap[g]? =some (.cells I E (0,0))/\l.length<=I.size/\
  ∀(j:Nat) (x:T),l[j]? =some x->x.isAgg=false/\∃u,I[j]? =some u/\RepT m w o (s,j+1) x u
def RepE(m:Mem):T->Value->Prop
 | .d x,v=>RepD m x v
 | .agg l,v=>∃u:Array Value,v= .agg u/\RepL m l u.toList
 |_,_=>False
theorem RepE.mono{m m':Mem}(u:Mle m m'):∀{x:T} {v:Value},RepE m x v->RepE m' x v
 | .d _,_,h=>RepD.mono u h
 | .agg _,_,⟨I,e,h⟩=>⟨I,e,h.mono u⟩
def RepC(m:Mem)(o:OwnM):CkE->Value->Prop
 | .live c,v=>∃g,v= .pointer (some ⟨g,0,none⟩)/\o g=some (OB+(OB+c),0)
 | .fz l,v=>∃g p,v= .pointer (some ⟨g,p,none⟩)/\∀(j:Nat) (d:D),l[j]? =some d->∃u,m g (p+j)=some u/\RepD m d u
def Stm(u:Array MapEntry)(ck:Nat):Prop:=(∀x∈u.toList,x.born<ck)/\(u.toList.map (·.born)).Nodup
def RepA(m:Mem)(w:World)(o:OwnM)(S:Nat->A)(s:Nat):A->Value->Prop
 | .t x,v=>RepT m w o (s,0) x v
 | .tup l,v=>∃U:Array Value,v= .tuple U/\U.size=l.length/\∀(j:Nat) (x:T),l[j]? =some x->∃u,U[j]? =some u/\RepT m w o (s,j+1) x u
 | .imm l,v=>∃g p,v= .pointer (some ⟨g,p,none⟩)/\∀(j:Nat) (d:D),l[j]? =some d->∃u,m g (p+j)=some u/\RepD m d u
 | .box l,v=>∃g,(s<OB->v= .pointer (some ⟨g,0,none⟩))/\zQm m w o s l g
 | .ref b off,v=>∃g,o g=some (b,0)/\v= .pointer (some ⟨g,off,none⟩)/\(b<OB->∃l,S b= .box l)
 | .free,_=>∀g k,o g≠some (s,k)
 | .ag l,v=>∃U:Array Value,v= .agg U/\U.size=l.length/\∀(j:Nat) (x:T),l[j]? =some x->∃u,U[j]? =some u/\u.oneCell'=true/\RepT m w o (s,j+1) x u
 | .hp _,_=>True
 | .mp l,_=>∃g,o g=some (s,0)/\(∀p,m g p=none)/\∃(W:Array MapEntry) (ck:Nat),w.heap[g]? =some (.map W ck)/\Stm W ck/\W.size=l.length/\∀(i:Nat) (x:T×T),l[i]? =some x->∃e,W[i]? =some e/\RepE m x.1 e.key/\RepE m x.2 e.val
 | .lst l,v=>∃g cap,v= .slice (some ⟨g,0,none⟩) l.length cap/\l.length<=cap/\cap<=maxLen/\∀(j:Nat) (x:T),l[j]? =some x->∃u,m g j=some u/\RepT m w o (s,j+1) x u
 | .cl f J,v=>∃I:Array Value,v= .func (.func f) #[] I/\I.size=J.length/\∀(i:Nat) (l:List T),J[i]? =some l->∃g,I[i]? =some (.pointer (some ⟨g,0,none⟩))/\∀(j:Nat) (x:T),l[j]? =some x->∃u,m g j=some u/\RepT m w o (s,0) x u
 | .ck f cs,v=>∃I:Array Value,v= .func (.func f) #[] I/\I.size=cs.length/\∀(i:Nat) (c:CkE),cs[i]? =some c->∃v,I[i]? =some v/\RepC m o c v
 | .imt l,v=>∃g,v= .pointer (some ⟨g,0,none⟩)/\∀(j:Nat) (x:T),l[j]? =some x->∃u,m g j=some u/\RepT m w o (s,0) x u
 | .rcd b u mE oE,_=>o b=some (s,0)/\(∀p,m b p=none)/\w.heap[b]? =some u/\Mle mE m/\∀g c,oE g=some (OB+(OB+c),0)->o g=some (OB+(OB+c),0)
 | .fr E k,v=>∃g n cap Z,v= .slice (some ⟨g,0,none⟩) n cap/\o g=some (s,0)/\(∀p,m g p=none)/\w.heap[g]? =some (.cells Z E (0,0))/\n<=cap/\cap<=maxLen/\Z.size=cap*k
 | .any,_=>True
def zBc(w w':World)(g:Nat):Prop:=∀(I:Array Value) (E:Nat) (f:Nat×Nat),w.heap[g]? =some (.cells I E f)->∃u:Array Value,w'.heap[g]? =some (.cells u E f)/\u.size=I.size
theorem zBc.refl(w:World)(g:Nat):zBc w w g:=λu _ _ h=>⟨u,h,rfl⟩
theorem zBc.trans{a b c:World}{g:Nat}(h:zBc a b g)(k:zBc b c g):zBc a c g:=λZ E f q=>
 let⟨I,U,J⟩:=h Z E f q
 let⟨u,W,e2⟩:=k I E f U
 ⟨u,W,e2.trans J⟩
theorem zBc.of_eq{w w':World}{g:Nat}(h:w'.heap[g]? =w.heap[g]?):zBc w w' g:=λu _ _ q=>⟨u,h.trans q,rfl⟩
theorem zBc.of_lt{w w':World}{g:Nat}(h:g<w.heap.size->w'.heap[g]? =w.heap[g]?):zBc w w' g:=λu E f q=>⟨u,(h (by rcases wY g w.heap.size with h|h;exact h;rw[uE h]at q;cases q)).trans q,rfl⟩
def WShp(w w':World)(g:Nat):Prop:=∀(I:Array Value) (E:Nat) (f:Nat×Nat),w.heap[g]? =some (.cells I E f)->∃(u:Array Value) (f':Nat×Nat),w'.heap[g]? =some (.cells u E f')/\u.size=I.size
theorem zBc.w{w w':World}{g:Nat}(h:zBc w w' g):WShp w w' g:=λI E f q=>let⟨u,a,b⟩:=h I E f q;⟨u,f,a,b⟩
theorem WShp.trans{a b c:World}{g:Nat}(h:WShp a b g)(k:WShp b c g):WShp a c g:=λW E f q=>
 let⟨I,Z,q1,U⟩:=h W E f q
 let⟨u,J,q2,e2⟩:=k I E Z q1
 ⟨u,J,q2,e2.trans U⟩
structure Same(G:Nat->Prop)(w w':World):Prop where
 os:w'.os=w.os
 tape:w'.tape=w.tape
 output:w'.output=w.output
 size:w.heap.size<=w'.heap.size
 block:∀k,k<w.heap.size->¬G k->w'.heap[k]? =w.heap[k]?
 shape:∀k,WShp w w' k
theorem Same.refl(G:Nat->Prop)(w:World):Same G w w:=⟨rfl,rfl,rfl,wJ _,λ_ _ _=>rfl,λ_=>(zBc.refl _ _).w⟩
theorem Same.trans{G:Nat->Prop}{a b c:World}(h:Same G a b)(k:Same (λx=>G x\/a.heap.size<=x) b c):Same G a c:=
 ⟨k.os.trans h.os,k.tape.trans h.tape,k.output.trans h.output,uW h.size k.size,λi I u=>(k.block i (wO I h.size) (λe=>e.elim u (λJ=>absurd J (by omega)))).trans (h.block i I u),λi=>(h.shape i).trans (k.shape i)⟩
theorem Same.weaken{G u:Nat->Prop}{a b:World}(h:Same G a b)(I:∀k,G k->u k):Same u a b:=
 ⟨h.os,h.tape,h.output,h.size,λi J hn=>h.block i J λe=>hn (I _ e),h.shape⟩
theorem Same.below{a b:World}(h:Same (λ_=>False) a b):Below a.heap.size a b:=⟨h.os,h.tape,h.output,h.size,λk hk=>h.block k hk id⟩
theorem Same.of_below{G:Nat->Prop}{a b:World}(h:Below a.heap.size a b):Same G a b:=⟨h.os,h.tape,h.output,h.size,λk hk _=>h.block k hk,λk=>(zBc.of_lt λhk=>h.block k hk).w⟩
theorem Same.alloc(G:Nat->Prop)(w:World)(o:Obj):Same G w (w.alloc o):= .of_below ((Below.refl _ _).alloc (wJ _) o)
theorem Same.drew(G:Nat->Prop)(w:World):Same G w w.drew:=⟨rfl,rfl,rfl,wJ _,λ_ _ _=>rfl,λ_=>(zBc.refl _ _).w⟩
def OB2:Nat:=2199023255552
def HK:Nat:=2199023255551
def pin(pins:List Nat)(o0 o:OwnM):Prop:=∀s,(s∈pins\/OB<=s)->∀g,o0 g=some (s,0)->o g=some (s,0)
def shp(pins:List Nat)(o0:OwnM)(w0 w:World):Prop:=∀g j,o0 g=some (OB+j,0)->(OB+j∈pins\/OB2<=OB+j)/\zBc w0 w g
structure GD where
 p:Nat->Prop
 ds:List Deferred
instance:CoeFun GD λ_=>Nat->Prop:=⟨GD.p⟩
structure Inv(w0:World)(m0:Mem)(o0:OwnM)(G:GD)(pins:List Nat)(S:Nat->A)(a:Act)(w:World)(m:Mem)(o:OwnM):Prop where
 same:Same G.p w0 w
 sat:∀b p u,m b p=some u->w.cell? ⟨b,p,none⟩=some u
 mono:Mle m0 m
 old:∀b,b<w0.heap.size->¬G b->m b=m0 b
 own:∀g l,o g=some l->G g\/w0.heap.size<=g
 lt:∀g l,o g=some l->g<w.heap.size
 inj:∀g g' l,o g=some l->o g'=some l->g=g'
 pinned:pin pins o0 o
 slots:∀s,RepA m w o S s (S s) (a.tmps.getD s undef)
 defers:a.defers=G.ds
 tbl:Mle TBL m0
 wide:a.tmps.size<=OB
 shps:shp pins o0 w0 w
theorem shp.keep{pins:List Nat}{o0 o:OwnM}{w0 w w':World}(h:shp pins o0 w0 w)(hp:pin pins o0 o)(k:∀g j,o g=some (OB+j,0)->zBc w w' g):shp pins o0 w0 w':=
 λg j u=>⟨(h g j u).1,(h g j u).2.trans (k g j (hp _ (.inr (vD _ _)) g u))⟩
structure Keep(C:Nat×Nat->Prop)(m:Mem)(w:World)(o:OwnM)(m':Mem)(w':World)(o':OwnM):Prop where
 mle:Mle m m'
 mem:∀g l,o g=some l->¬C l->m' g=m g
 heap:∀g l,o g=some l->¬C l->w'.heap[g]? =w.heap[g]?
 own:∀g l,o g=some l->¬C l->o' g=some l
 pt:∀g j,o g=some (OB+j,0)->o' g=some (OB+j,0)
 up:∀g s k,¬C (s,k)->o' g=some (s,k)->∃g' k',o g'=some (s,k')
 sh:∀g j,o g=some (OB+j,0)->zBc w w' g
section
variable {C:Nat×Nat->Prop}{m m':Mem}{w w':World}{o o':OwnM}
theorem zEt{j off E k n:Nat}(hpt:∀g j,o g=some (OB+j,0)->o' g=some (OB+j,0))(u:∀g j,o g=some (OB+j,0)->zBc w w' g){loc loc':Nat×Nat}{v:Value}(h:RepT m w o loc (.view j off E k n) v):RepT m' w' o' loc' (.view j off E k n) v:=by obtain⟨A',c,W,J,h3,U⟩:=h;refine⟨A',c,W,J,h3,U.imp id ?_⟩;rintro⟨g,Z,E1,k1,k2,k3,k4,k5⟩;obtain⟨I,q1,q2⟩:=u g j k1 Z _ _ k3;grind
theorem zH1{c off E k n:Nat}(hpt:∀g j,o g=some (OB+j,0)->o' g=some (OB+j,0))(u:∀g j,o g=some (OB+j,0)->zBc w w' g){loc loc':Nat×Nat}{v:Value}(h:RepT m w o loc (.hvw c off E k n) v):RepT m' w' o' loc' (.hvw c off E k n) v:=
 zEt (m:=m) (m':=m') (j:=OB+c) (loc:=loc) (loc':=loc') hpt u h
theorem zDw{v:Value}{E k n:Nat}{xs:List Value}(h:zHo w E k v n xs)(hh:∀g,v.ownBlock=some g->w'.heap[g]? =w.heap[g]?):zHo w' E k v n xs:=by refine⟨h.1,?_⟩;rcases h.2 with h|⟨g,q,cap,u,hv,Z,J⟩;grind;(obtain⟨e,I,U⟩:=Z;exact .inr ⟨g,q,cap,u,hv,⟨e,(hh g (by rw[hv];rfl)).trans I,U⟩,J⟩)
theorem zJO.keep(K:Keep C m w o m' w' o'){loc:Nat×Nat}(J:¬C loc){E k:Nat}{l:List (List D)}{v:Value}(h:zJO m w o loc E k l v):zJO m' w' o' loc E k l v:=by obtain⟨A',cap,xs,e,W,U,h3,Z⟩:=h;refine⟨A',cap,xs,e,?_,?_,h3,?_⟩;(refine zDw W λg I=> ?_;rw[e,yJ]at I;exact K.heap g loc (U g I).1 J);(intro g I;refine⟨K.own g loc (U g I).1 J,λp hp=> ?_⟩;rw[K.mem g loc (U g I).1 J];grind);(intro i r j d a b;obtain⟨u,c,f⟩:=Z i r j d a b;exact⟨u,c,f.mono K.mle⟩)
theorem RepT.keep(K:Keep C m w o m' w' o'){loc:Nat×Nat}(U:¬C loc){x:T}{v:Value}(h:RepT m w o loc x v):RepT m' w' o' loc x v:=by(cases x with|d x=>exact RepD.mono K.mle h|agg l=>obtain⟨W,e,h⟩:=h;exact⟨W,e,h.mono K.mle⟩|own E k l=>exact zJO.keep K U h|ags l js=>exact h.map K.mle λ_ _ _ _ q=>q.keep K U|ptr j off=>obtain⟨g,J,I⟩:=h;exact⟨g,K.pt g j J,I⟩|view j off E k n=>exact zEt K.pt K.sh h|hpt c off=>obtain⟨g,J,I⟩:=h;exact⟨g,K.pt g _ J,I⟩|opt t p=>exact h.imp id λ⟨i,e,g,J,I⟩=>⟨i,e,g,K.pt g _ J,I⟩|hvw c off E k n=>exact zH1 K.pt K.sh h|mpt j=>obtain⟨g,J,I⟩:=h;exact⟨g,K.pt g j J,I⟩|xs E k l rv=>obtain⟨A',cap,xs,e,J,I,h3,h4⟩:=h;refine⟨A',cap,xs,e,?_,?_,h3,?_⟩;(refine zDw J λg Z=> ?_;rw[e,yJ]at Z;exact K.heap g loc (I g Z).1 U);(intro g Z;refine⟨K.own g loc (I g Z).1 U,λp=> ?_⟩;rw[K.mem g loc (I g Z).1 U];grind);(intro i r j d a b;obtain⟨u,c,f⟩:=h4 i r j d a b;exact⟨u,c,f.mono K.mle⟩)|any=>exact h)
theorem zQm.keep(K:Keep C m w o m' w' o'){s:Nat}(I:∀j,¬C (s,j)){l:List T}{g:Nat}(h:zQm m w o s l g):zQm m' w' o' s l g:=by obtain⟨J,Z,cs,E,h3,W,h5⟩:=h;refine⟨K.own g _ J (I 0),λp=>by rw[K.mem g _ J (I 0)];exact Z p,cs,E,(K.heap g _ J (I 0)).trans h3,W,λj x U=> ?_⟩;obtain⟨a,u,b,c⟩:=h5 j x U;exact⟨a,u,b,c.keep K (I _)⟩
theorem RepA.keep(K:Keep C m w o m' w' o'){S S':Nat->A}{s:Nat}(U:∀j,¬C (s,j)){x:A}{v:Value}
(hS:∀b off,x= .ref b off->b<OB->(¬C (b,0))/\((∃l,S b= .box l)->∃l,S' b= .box l))(h:RepA m w o S s x v):RepA m' w' o' S' s x v:=by
 cases x with
  |t x=>exact RepT.keep K (U 0) h
  |tup l=>
   obtain⟨vs,e,I,J⟩:=h
   refine⟨vs,e,I,λj x Z=> ?_⟩
   obtain⟨u,a,b⟩:=J j x Z
   exact⟨u,a,b.keep K (U _)⟩
  |imm l=>
   obtain⟨g,p,e,h⟩:=h
   refine⟨g,p,e,λj d Z=> ?_⟩
   obtain⟨u,a,b⟩:=h j d Z
   exact⟨u,K.mle _ _ _ a,b.mono K.mle⟩
  |box l=>obtain⟨g,e,h⟩:=h;exact⟨g,e,h.keep K U⟩
  |ref b off=>
   obtain⟨g,I,J,h3⟩:=h
   by_cases hb:b<OB
   · obtain⟨a,b'⟩:=hS b off rfl hb;exact⟨g,K.own g _ I a,J,λ_=>b' (h3 hb)⟩
   · obtain⟨j,rfl⟩:∃j,b=OB+j:=⟨b-OB,by omega⟩;exact⟨g,K.pt g j I,J,λh=>absurd h hb⟩
  |free=>exactλg k e=>let⟨g',k',e'⟩:=K.up g s k (U k) e;h g' k' e'
  |ag l=>
   obtain⟨vs,e,I,J⟩:=h
   refine⟨vs,e,I,λj x Z=> ?_⟩
   obtain⟨u,a,c,b⟩:=J j x Z
   exact⟨u,a,c,b.keep K (U _)⟩
  |lst l=>
   obtain⟨g,cap,e,I,J,h3⟩:=h
   refine⟨g,cap,e,I,J,λj x Z=> ?_⟩
   obtain⟨u,a,b⟩:=h3 j x Z
   exact⟨u,K.mle _ _ _ a,b.keep K (U _)⟩
  |fr E k=>
   obtain⟨g,n,cap,β,I,J,h3,h4,h5⟩:=h
   exact⟨g,n,cap,β,I,K.own g _ J (U 0),λp=>by rw[K.mem g _ J (U 0)];exact h3 p,(K.heap g _ J (U 0)).trans h4,h5⟩
  |hp f=>trivial
  |cl f γ=>
   obtain⟨W,e,I,J⟩:=h
   refine⟨W,e,I,λi l hi=> ?_⟩
   obtain⟨g,a,b⟩:=J i l hi
   refine⟨g,a,λj x Z=> ?_⟩
   obtain⟨u,c,d⟩:=b j x Z
   exact⟨u,K.mle _ _ _ c,d.keep K (U 0)⟩
  |ck f cs=>
   obtain⟨W,e,I,J⟩:=h
   refine⟨W,e,I,λi c hi=> ?_⟩
   obtain⟨v,a,b⟩:=J i c hi
   refine⟨v,a,?_⟩
   cases c with
    |live c=>obtain⟨g,b1,b2⟩:=b;exact⟨g,b1,K.pt g _ b2⟩
    |fz l=>obtain⟨g,p,b1,b2⟩:=b;exact⟨g,p,b1,λj d Z=>let⟨u,q1,q2⟩:=b2 j d Z;⟨u,K.mle _ _ _ q1,q2.mono K.mle⟩⟩
  |imt l=>
   obtain⟨g,a,b⟩:=h
   refine⟨g,a,λj x Z=> ?_⟩
   obtain⟨u,c,d⟩:=b j x Z
   exact⟨u,K.mle _ _ _ c,d.keep K (U 0)⟩
  |rcd b u mE oE=>
   obtain⟨I,J,h3,h4,h5⟩:=h
   exact⟨K.own b _ I (U 0),λp=>by rw[K.mem b _ I (U 0)];exact J p,(K.heap b _ I (U 0)).trans h3,h4.trans K.mle,λg c hg=>K.pt g _ (h5 g c hg)⟩
  |mp l=>
   obtain⟨g,I,J,es,ck,h3,α,h4,h5⟩:=h
   refine⟨g,K.own g _ I (U 0),λp=>by rw[K.mem g _ I (U 0)];exact J p,es,ck,(K.heap g _ I (U 0)).trans h3,α,h4,λi x hi=> ?_⟩
   obtain⟨e,a,b,c⟩:=h5 i x hi
   exact⟨e,a,b.mono K.mle,c.mono K.mle⟩
  |any=>trivial
end
def upd(S:Nat->A)(d:Nat)(x:A):Nat->A:=λt=>if t=d then x else S t
def A.isBox:A->Bool| .box _=>true|_=>false
theorem zT(S:Nat->A)(d:Nat)(x:A):upd S d x d=x:=by simp[upd]
theorem zE{S:Nat->A}{d t:Nat}{x:A}(h:t≠d):upd S d x t=S t:=by simp[upd,h]
theorem zNj(a:Act)(d:Nat)(v:Value)(s:Nat):(a.put (some d) v).tmps.getD s undef=if s=d/\d<a.tmps.size then v else a.tmps.getD s undef:=by unfold Act.put;simp only[wM,uX];grind
theorem zMu{d j:Nat}(h:d<OB):OB+j≠d:=by omega
theorem zCW(a:Act)(d:Option Nat)(v:Value):(a.put d v).tmps.size=a.tmps.size:=by cases d<;>simp[Act.put]
section
variable {w0:World}{m0:Mem}{o0:OwnM}{G:GD}{pins:List Nat}{S:Nat->A}{a:Act}{w:World}{m:Mem}{o:OwnM}
theorem Inv.put{w':World}{m':Mem}(I:Inv w0 m0 o0 G pins S a w m o)(d:Nat)(x:A)(v:Value)(hd:d<a.tmps.size)(U:(S d).isBox=false)(hx:RepA m' w' o (upd S d x) d x v)
(hs:Same G w0 w')(W:∀b p u,m' b p=some u->w'.cell? ⟨b,p,none⟩=some u)(hm:Mle m m')(Z:∀b,b<w.heap.size->m' b=m b)(J:∀g,g<w.heap.size->w'.heap[g]? =w.heap[g]?)(α:w.heap.size<=w'.heap.size):
 Inv w0 m0 o0 G pins (upd S d x) (a.put (some d) v) w' m' o:=by
 have K:Keep (λ_=>False) m w o m' w' o:=⟨hm,λg l h _=>Z g (I.lt g l h),λg l h _=>J g (I.lt g l h),λg l h _=>h,λg j h=>h,λg _ k _ h=>⟨g,k,h⟩,λg j h=> .of_eq (J g (I.lt g _ h))⟩
 refine⟨hs,W,I.mono.trans hm,λb hb hg=> ?_,I.own,λg l h=>wO (I.lt g l h) α,I.inj,I.pinned,λs=> ?_,I.defers,I.tbl,by rw[zCW];exact I.wide,I.shps.keep I.pinned K.sh⟩
 · rw[Z b (wO hb I.same.size)];exact I.old b hb hg
 · rw[zNj];by_cases h:s=d;(subst h;rw[if_pos ⟨rfl,hd⟩,zT];exact hx);(rw[if_neg (λe=>h e.1),zE h];refine RepA.keep K (λ_=>id) (λb off _ _=>⟨id,λ⟨l,hl⟩=> ?_⟩) (I.slots s);refine⟨l,?_⟩;(have:b≠d:=λe=>by subst e;rw[hl]at U;cases U);rw[zE this,hl])
theorem Inv.set(I:Inv w0 m0 o0 G pins S a w m o)(d:Nat)(x:A)(v:Value)(hd:d<a.tmps.size)(u:(S d).isBox=false)(hx:RepA m w o (upd S d x) d x v):
 Inv w0 m0 o0 G pins (upd S d x) (a.put (some d) v) w m o:=
 I.put d x v hd u hx I.same I.sat (Mle.refl _) (λ_ _=>rfl) (λ_ _=>rfl) (wJ _)
theorem Inv.drew(I:Inv w0 m0 o0 G pins S a w m o):Inv w0 m0 o0 G pins S a w.drew m o:=
 ⟨I.same.trans (Same.drew _ _),I.sat,I.mono,I.old,I.own,I.lt,I.inj,I.pinned,λs=>RepA.keep (C:=λ_=>False) (w:=w) (w':=w.drew) ⟨Mle.refl _,λ_ _ _ _=>rfl,λ_ _ _ _=>rfl,λ_ _ h _=>h,λ_ _ h=>h,λg _ k _ h=>⟨g,k,h⟩,λg _ _=> .of_eq rfl⟩ (λ_=>id) (λ_ _ _ _=>⟨id,id⟩) (I.slots s),I.defers,I.tbl,I.wide,I.shps.keep I.pinned λg _ _=> .of_eq rfl⟩
end
def cpT:T->T
 | .own _ k l=> .d (.seq k l)
 | .xs _ _ _ _=> .any
 | .ags l _=> .agg l
 |x=>x
def cpA:A->A
 | .t x=> .t (cpT x)
 | .tup l=> .tup (l.map cpT)
 | .box _=> .any
 | .free=> .any
 | .hp _=> .any
 | .mp _=> .any
 | .rcd _ _ _ _=> .any
 | .cl f u=> .cl f (u.map λl=>l.map cpT)
 | .imt l=> .imt (l.map cpT)
 | .ag l=> .ag (l.map cpT)
 | .lst l=> .lst (l.map cpT)
 | .fr _ _=> .any
 |x=>x
def litA(v:Value):A:=match v with
 | .agg u=>if u.toList.all (·.oneCell')then .t (.agg (u.toList.map .lit))else .any
 | .tuple _=> .any
 |v=> .t (.d (.lit v))
def cpO(S:Nat->A):Operand->A
 | .tmp t=>match S t with| .box _=>bif Nat.blt t OB then .ref t 0 else .any| .t (.ptr j off)=> .ref (OB+j) off|x=>cpA x
 | .const v=>litA v
 | .func f=> .t (.d (.lit (.func (.func f) #[] #[])))
 | .global _=> .any
def dO(S:Nat->A)(x:Operand):Option D:=match cpO S x with| .t (.d y)=>some y|_=>none
def vO(S:Nat->A)(x:Operand):Option Value:=match dO S x with|some (.lit u)=>some u|_=>none
def Mk(M S:Nat->A):Prop:=∀t,M t= .any\/M t=S t
theorem Mk.refl(S:Nat->A):Mk S S:=λ_=> .inr rfl
section
variable {w0:World}{m0:Mem}{o0:OwnM}{G:GD}{pins:List Nat}{S M:Nat->A}{a:Act}{w:World}{m:Mem}{o:OwnM}
theorem zHz{loc:Nat×Nat}{E k:Nat}{l:List (List D)}{v:Value}(β:∀b p u,m b p=some u->w.cell? ⟨b,p,none⟩=some u)(h:zJO m w o loc E k l v):RepD m (.seq k l) v:=by obtain⟨A',cap,xs,rfl,U,h2,h3,h4⟩:=h;rcases A' with _|ad;((have hl:l=[]:=by rcases U.2 with⟨_,h⟩|⟨g,q,c,J,hv,_⟩;(all_goals grind));subst hl;exact .seq k [] none cap 0 0 (λ_ _=>undef) (by simp) (by rcases U.2 with⟨hv,_⟩|⟨g,q,c,J,hv,_⟩;grind;(injection hv with hv;cases hv)) (λh=>absurd rfl h) (λi r h=>by simp at h) (λi r j d h=>by simp at h) (λi r j d h=>by simp at h));((obtain⟨g,q,hg⟩:∃g q,ad=⟨g,q,none⟩:=by rcases U.2 with⟨hv,_⟩|⟨g,q,c,J,hv,_⟩;(all_goals grind));subst hg;(have I:l.length<=cap/\cap<=maxLen:=by rcases U.2 with⟨hv,_⟩|⟨g,q,c,J,hv,_,h5,h6,_⟩;(all_goals grind));refine .seq k l _ cap g q (λi j=>(xs[i*k+j]?).getD undef) I.1 I.2 (λ_=>rfl) h3 (λi r j d a b=> ?_) (λi r j d a b=> ?_);(obtain⟨u,hu,_⟩:=h4 i r j d a b;have Z:i<l.length:=(wB.1 a).1;(have W:j<k:=by rw[<-h3 i r a];exact(wB.1 b).1);have α:i*k+j<cap*k:=wO (by rw[Nat.add_comm];exact wO (Nat.add_lt_add_right W _) (by rw[Nat.add_comm,<-Nat.succ_mul];exact uC _ Z)) (uC _ I.1);have:=(h2 g rfl).2 (i*k+j) α;rw[Nat.add_assoc,show q+(i*k+j)=offA (some ⟨g,q,none⟩)+(i*k+j)from rfl,this,hu];rfl);grind)
theorem zFb(I:∀b p u,m b p=some u->w.cell? ⟨b,p,none⟩=some u){loc loc':Nat×Nat}{x:T}{v:Value}(h:RepT m w o loc x v):RepT m w o loc' (cpT x) v:=by(cases x with|d x=>exact h|agg l=>exact h|own E k l=>exact zHz I h|ptr j off=>exact h|view j off E k n=>exact h|hpt c off=>exact h|opt t p=>exact h|mpt c=>exact h|ags l1 W=>exact zH3.agg h|xs E k l rv=>(first|exact h|exact hr|exact k2|exact k3|exact h4|exact h5|exact id|trivial|(cases hp;done)|(cases hx;done)|(cases hl;done)|(obtain⟨A1,Z,U,J,_⟩:=h;subst J;rfl)|(obtain⟨A1,Z,U,J,_⟩:=hr;subst J;rfl)|rfl)|any=>exact h|hvw c off E k n=>exact h)
theorem zF9(s:Nat)(v:Value):RepA m w o S s (litA v) v:=by
 cases v<;>try exact RepD.lit _ rfl
 case agg cs=>
  unfold litA
  simp only
  split
  case isFalse=>trivial
  rename_i I
  refine⟨cs,rfl,by simp,λj d J=> ?_⟩
  rw[wH]at J
  cases U:cs.toList[j]? with
   |none=>grind
   |some u=>
    rw[U]at J
    cases J
    exact⟨u,rfl,.lit u (wG.1 I u (wC U))⟩
 case tuple=>trivial
theorem qA(hM:Mk M S)(I:Inv w0 m0 o0 G pins S a w m o)(x:Operand)(s:Nat):RepA m w o S s (cpO M x) (a.eval x):=by(cases x with|const v=>exact zF9 s v|global g=>trivial|func f=>exact RepD.lit _ rfl|tmp t=>have h:=I.slots t;unfold cpO;rcases hM t with e|e;(simp only[e];trivial);((show RepA m w o S s (match M t with| .box _=>(bif Nat.blt t OB then .ref t 0 else .any)| .t (.ptr j off)=> .ref (OB+j) off|x=>cpA x) (a.tmps.getD t undef));rw[e];revert h;generalize a.tmps.getD t undef=v;generalize δ:S t=x;intro h;(cases x with|t x=>(cases x with|ptr j off=>obtain⟨g,U,h2⟩:=h;exact⟨g,U,h2,λhb=>absurd hb (by omega)⟩|d x=>exact h|agg l=>exact h|own E k l=>exact zHz I.sat h|view j off E k n=>exact h|hpt c off=>exact h|opt t p=>exact h|mpt c=>exact h|ags l1 ε=>exact zH3.agg h|xs E k l rv=>(first|exact h|exact hr|exact k2|exact k3|exact W|exact h5|exact id|trivial|(cases hp;done)|(cases hx;done)|(cases hl;done)|(obtain⟨A1,c1,γ,e1,_⟩:=h;subst e1;rfl)|(obtain⟨A1,c1,γ,e1,_⟩:=hr;subst e1;rfl)|rfl)|any=>exact h|hvw c off E k n=>exact h)|tup l=>obtain⟨vs,e,U,h2⟩:=h;refine⟨vs,e,by simpa using U,λj y J=> ?_⟩;rw[wH]at J;(cases Z:l[j]? with|none=>grind|some z=>rw[Z]at J;cases J;obtain⟨u,h3,W⟩:=h2 j z Z;exact⟨u,h3,zFb I.sat W⟩)|imm l=>exact h|box l=>obtain⟨g,e,U,_⟩:=h;show RepA m w o S s (bif Nat.blt t OB then .ref t 0 else .any) v;(cases hb:Nat.blt t OB with|true=>exact⟨g,U,e (by simpa using hb),λ_=>⟨l,δ⟩⟩|false=>trivial)|ref b off=>exact h|free=>trivial|hp f=>trivial|mp l=>trivial|rcd b u mE oE=>trivial|ck f cs=>exact h|cl f β=>obtain⟨α,e,U,h2⟩:=h;refine⟨α,e,by simpa using U,λi l hi=> ?_⟩;rw[wH]at hi;(cases Z:β[i]? with|none=>grind|some z=>rw[Z]at hi;cases hi;obtain⟨g,h3,W⟩:=h2 i z Z;refine⟨g,h3,λj y J=> ?_⟩;rw[wH]at J;(cases hw:z[j]? with|none=>grind|some q=>rw[hw]at J;cases J;obtain⟨u,h5,h6⟩:=W j q hw;exact⟨u,h5,zFb I.sat h6⟩))|imt l=>obtain⟨g,h3,W⟩:=h;refine⟨g,h3,λj y J=> ?_⟩;rw[wH]at J;(cases hw:l[j]? with|none=>grind|some q=>rw[hw]at J;cases J;obtain⟨u,h5,h6⟩:=W j q hw;exact⟨u,h5,zFb I.sat h6⟩)|ag l=>obtain⟨vs,e,U,h2⟩:=h;refine⟨vs,e,by simpa using U,λj y J=> ?_⟩;rw[wH]at J;(cases Z:l[j]? with|none=>grind|some z=>rw[Z]at J;cases J;obtain⟨u,h3,h5,W⟩:=h2 j z Z;exact⟨u,h3,h5,zFb I.sat W⟩)|lst l=>obtain⟨g,cap,e,U,h2,h6⟩:=h;refine⟨g,cap,by simpa using e,by simpa using U,h2,λj y J=> ?_⟩;rw[wH]at J;(cases Z:l[j]? with|none=>grind|some z=>rw[Z]at J;cases J;obtain⟨u,h3,W⟩:=h6 j z Z;exact⟨u,h3,zFb I.sat W⟩)|fr E k=>trivial|any=>trivial)))
theorem zG2(u:Mk M S)(I:Inv w0 m0 o0 G pins S a w m o){x:Operand}{d:D}(h:dO M x=some d):RepD m d (a.eval x):=by have:=qA u I x 0;unfold dO at h;split at h;(rename_i y hy;cases h;rw[hy]at this;exact this);cases h
theorem zCK(J:Mk M S)(I:Inv w0 m0 o0 G pins S a w m o){x:Operand}{u:Value}(h:vO M x=some u):a.eval x=u:=by unfold vO at h;split at h;(rename_i y hy;cases h;cases zG2 J I hy;rfl);cases h
end
def zHb(s:Sem Value):Option Value:=match s with| .pure v=>some v|_=>none
theorem zJz{s:Sem Value}{v:Value}(h:zHb s=some v)(P:Program)(w:World):s.run P w= .ok v w:=by unfold zHb at h;split at h;(all_goals simp_all)
def binV(op:BinOp)(u v:Value):Option Value:=match op,u,v with
 | .shl,.int k a,.int I b=>zHb (Op.shift .shl k a I b)
 | .shr,.int k a,.int I b=>zHb (Op.shift .shr k a I b)
 |op,.int k a,.int J b=>if k≠J then none else match op with| .add| .sub| .mul=>zHb (Op.intArith op k a b)| .quo| .rem=>zHb (Op.intDiv op k a b)| .and| .or| .xor| .andNot=>zHb (Op.intBits op k a b)|_=>zHb (Op.intCmp op a b)
 |op,.string a,.string b=>zHb (Op.stringOp op a b)
 |_,_,_=>none
theorem binV_str(op:BinOp)(a b:ByteArray):binV op (.string a) (.string b)=zHb (Op.stringOp op a b):=by cases op<;>rfl
theorem binV_run {op : BinOp} {u v r : Value} (h : binV op u v = some r) (P : Program) (w : World) (t : TypeId) (x y : Operand) : (do eqGuard op t x y u v; binOp op t u v).run P w = .ok r w := by
  have I : ∀ {u v : Value}, (match u, v with | .int _ _, .int _ _ => true | .string _, .string _ => true | _, _ => false) = true → (eqGuard op t x y u v).run P w = .ok () w := by
    intro u v h
    unfold eqGuard
    cases op <;> (cases u <;> first | (cases h; done) | (cases v <;> first | (cases h; done) | rfl))
  cases u <;> try (cases op <;> cases h; done)
  case int k a =>
    cases v <;> try (cases op <;> cases h; done)
    case int k' b =>
      rw [wE, I rfl, wD]
      cases op <;> first
        | exact zJz h P w
        | (unfold binV at h
           simp only at h
           split at h
           · cases h
           · rename_i hk
             simp only [binOp]
             rw [if_neg hk]
             exact zJz h P w)
  case string a =>
    cases v <;> try (cases op <;> cases h; done)
    case string b =>
      rw [wE, I rfl, wD]
      rw [binV_str] at h
      rw [show binOp op t (.string a) (.string b) = Op.stringOp op a b by cases op <;> rfl]
      exact zJz h P w
def unV(op:UnOp)(u:Value):Option Value:=zHb (Op.unary op u)
def TypeDesc.aggr:TypeDesc->Bool| .struct _| .array _ _=>true|_=>false
def tyA(P:Program)(t:TypeId):Option (Bool×Nat):=match P.underlying t,P.info? t with
 |some d,some i=>some (TypeDesc.aggr d,i.size)
 |_,_=>none
def toD:T->D
 | .d x=>x
 | .own _ k l=> .seq k l
 | .agg _=> .lit undef
 | .ptr _ _=> .lit undef
 | .view _ _ _ _ _=> .lit undef
 | .hpt _ _=> .lit undef
 | .opt _ _=> .lit undef
 | .hvw _ _ _ _ _=> .lit undef
 | .mpt _=> .lit undef
 | .xs _ _ _ _=> .lit undef
 | .ags _ _=> .lit undef
 | .any=> .lit undef
def norA:T->A
 | .ptr j off=> .ref (OB+j) off
 |x=> .t (cpT x)
def slD(k:Nat):Option D->Option (List (List D))
 |some (.seq u l)=>if k=u then some l else none
 |some (.lit (.slice none 0 0))=>some []
 |_=>none
def qV(bs:List UInt8):List (List D):=bs.map λb=>[.lit (.int .u8 (b.toNat:Int))]
section
variable {w0:World}{m0:Mem}{o0:OwnM}{G:GD}{pins:List Nat}{S M:Nat->A}{a:Act}{w:World}{m:Mem}{o:OwnM}{P:Program}
theorem zTn{t:TypeId}{b:Bool}{n:Nat}(h:tyA P t=some (b,n)):∃d i,P.underlying t=some d/\P.info? t=some i/\TypeDesc.aggr d=b/\i.size=n:=by unfold tyA at h;grind
theorem zRZ{t:TypeId}{d:TypeDesc}(h:P.underlying t=some d)(w:World):(isAgg t).run P w= .ok (TypeDesc.aggr d) w:=by unfold isAgg;rw[wE,run_underlying h w];cases d<;>rfl
theorem zCo{t:TypeId}{n:Nat}(h:tyA P t=some (false,n)){I:Addr}{u:Value}(Z:w.cell? I=some u):(loadVar t I).run P w= .ok u w:=by obtain⟨d,i,J,W,U,h4⟩:=zTn h;simp[loadVar,zRZ J,U,Z]
theorem zFe{t:TypeId}{n:Nat}(h:tyA P t=some (true,n)){g p:Nat}{vs:List Value}(hn:vs.length=n)(J:∀j v,vs[j]? =some v->w.cell? ⟨g,p+j,none⟩=some v):(loadVar t ⟨g,p,none⟩).run P w= .ok (.agg vs.toArray) w:=by obtain⟨d,i,u,U,I,Z⟩:=zTn h;refine run_loadVar_mid w g p t vs d J u ?_ (by grind);cases d<;>first|rfl|(cases I)
def ldF(P:Program)(M:Nat->A)(t:TypeId)(x:Operand):Option A:=match cpO M x,tyA P t with
 | .imm l,some (false,_)=>(l[0]?).map λd=> .t (.d d)
 | .imm l,some (true,n)=>if n=l.length then some (.t (.agg l))else if n<=l.length then some (.t (.agg (l.take n)))else none
 | .ref b off,some (false,_)=>match M b with| .box l=>(l[off]?).map norA|_=>none
 | .ref b off,some (true,n)=>match M b with| .box l=>if noPt ((l.drop off).take n)=true then(if off=0/\n=l.length then some (.t (.agg (l.map toD)))else if off+n<=l.length then some (.t (.agg (((l.drop off).take n).map toD)))else none)else none|_=>none
 |_,_=>none
theorem zSx{l:List D}{g p:Nat}(h:∀(j:Nat) (d:D),l[j]? =some d->∃u,m g (p+j)=some u/\RepD m d u):∃I:List Value,RepL m l I/\∀j v,I[j]? =some v->m g (p+j)=some v:=by refine⟨l.zipIdx.map λx=>(m g (p+x.2)).getD undef,⟨by simp,λj d J=> ?_⟩,λj v J=> ?_⟩;(all_goals grind)
theorem RepT.toD{loc:Nat×Nat}{x:T}{v:Value}(I:∀b p u,m b p=some u->w.cell? ⟨b,p,none⟩=some u)(h:RepT m w o loc x v)(hx:x.isAgg=false)(hp:x.isPt=false):RepD m (toD x) v:=by(cases x with|d x=>exact h|own E k l=>exact zHz I h|agg l=>cases hx|ptr j off=>cases hp|view j off E k n=>cases hp|hpt c off=>cases hp|opt t p=>cases hp|mpt c=>cases hp|ags l1 W=>cases hx|xs E k l rv=>(first|exact h|exact hr|exact k2|exact k3|exact h4|exact h5|exact id|trivial|(cases hp;done)|(cases hx;done)|(cases hl;done)|(obtain⟨A1,Z,U,J,_⟩:=h;subst J;rfl)|(obtain⟨A1,Z,U,J,_⟩:=hr;subst J;rfl)|rfl)|any=>cases hp|hvw c off E k n=>cases hp)
theorem norA_rep{S:Nat->A}(I:∀b p u,m b p=some u->w.cell? ⟨b,p,none⟩=some u){loc:Nat×Nat}{s:Nat}{x:T}{v:Value}(h:RepT m w o loc x v):RepA m w o S s (norA x) v:=by(cases x with|ptr j off=>obtain⟨g,W,Z⟩:=h;exact⟨g,W,Z,λhb=>absurd hb (by omega)⟩|d x=>exact h|agg l=>exact h|own E k l=>exact zHz I h|view j off E k n=>exact h|hpt c off=>exact h|opt t p=>exact h|mpt c=>exact h|ags l1 α=>exact zH3.agg h|xs E k l rv=>(first|exact h|exact hr|exact k2|exact k3|exact h4|exact h5|exact id|trivial|(cases hp;done)|(cases hx;done)|(cases hl;done)|(obtain⟨A1,c1,U,J,_⟩:=h;subst J;rfl)|(obtain⟨A1,c1,U,J,_⟩:=hr;subst J;rfl)|rfl)|any=>exact h|hvw c off E k n=>exact h)
theorem zTg(u:Mk M S){b:Nat}{l:List T}(h:M b= .box l):S b= .box l:=by rcases u b with e|e;(all_goals grind)
theorem zR9(hM:Mk M S)(I:Inv w0 m0 o0 G pins S a w m o){t:TypeId}{x:Operand}{y:A}(h:ldF P M t x=some y):∀s,∃v,(Instr.loadAt t (a.eval x)).run P w= .ok v w/\RepA m w o S s y v:=by intro s;have hx:=qA hM I x s;unfold ldF at h;split at h;(rename_i l n hl ht;rw[hl]at hx;obtain⟨g,p,e,hc⟩:=hx;(cases hd:l[0]? with|none=>grind|some d=>rw[hd]at h;cases h;obtain⟨u,U,Z⟩:=hc 0 d hd;refine⟨u,?_,Z⟩;rw[e];simp only[Instr.loadAt,Instr.sureAddr,wE,wU,wD];exact zCo ht (I.sat _ _ _ U)));(rename_i l n hl ht;rw[hl]at hx;obtain⟨g,p,e,hc⟩:=hx;(have h:(if n<=l.length then some (A.t (.agg (l.take n)))else none)=some y:=by grind);split at h;(rename_i hn;cases h;obtain⟨vs,U,Z⟩:=zSx (m:=m) (l:=l.take n) (g:=g) (p:=p) (λj d J=>hc j d (by grind));refine⟨.agg vs.toArray,?_,vs.toArray,rfl,by simpa using U⟩;rw[e];simp only[Instr.loadAt,Instr.sureAddr,wE,wU,wD];refine zFe ht (by rw[U.1];simp[hn]) λj v J=>I.sat _ _ _ (Z j v J));cases h);(rename_i b off n hl ht;rw[hl]at hx;obtain⟨g,U,e,_⟩:=hx;split at h;(rename_i l hb;have hs:=I.slots b;rw[zTg hM hb]at hs;obtain⟨g',_,Z,h3,W,E,h4,h5,h6⟩:=hs;have:=I.inj _ _ _ U Z;subst this;(cases hd:l[off]? with|none=>grind|some z=>rw[hd]at h;cases h;obtain⟨hz,u,h7,h8⟩:=h6 off z hd;refine⟨u,?_,norA_rep I.sat h8⟩;rw[e];simp only[Instr.loadAt,Instr.sureAddr,wE,wU,wD];exact zCo ht (by rw[cell_of_row w g off W E _ h4];exact h7)));cases h);(rename_i b off n hl ht;rw[hl]at hx;obtain⟨g,U,e,_⟩:=hx;split at h;(rename_i l hb;have hs:=I.slots b;rw[zTg hM hb]at hs;obtain⟨g',_,Z,h3,W,E,h4,h5,h6⟩:=hs;have:=I.inj _ _ _ U Z;subst this;split at h;(case isFalse=>cases h);rename_i hpt;(have h:(if off+n<=l.length then some (A.t (.agg (((l.drop off).take n).map toD)))else none)=some y:=by grind);split at h;(rename_i hn;cases h;refine⟨.agg ((W.toList.drop off).take n).toArray,?_,_,rfl,?_,λj d J=> ?_⟩;(rw[e];simp only[Instr.loadAt,Instr.sureAddr,wE,wU,wD];refine zFe ht (by grind) λj v J=> ?_;rw[cell_of_row w g (off+j) W E _ h4];grind);grind;(rw[wH,vR,vY]at J;simp only[vR,vY];split at J;(rename_i α;rw[if_pos α];(cases hz:l[off+j]? with|none=>grind|some z=>rw[hz]at J;cases J;obtain⟨ha,u,h7,h8⟩:=h6 (off+j) z hz;(have β:z.isPt=false:=by have:=wG.1 hpt z (wC (i:=j) (by grind));grind);exact⟨u,by simpa using h7,h8.toD I.sat ha β⟩));grind));cases h);cases h);cases h
def fdF(P:Program)(M:Nat->A)(t:TypeId)(x:Operand)(f:Nat):Option A:=match P.underlying t with
 |some (.struct I)=>match I[f]? with
  |some u=>match P.info? u.type with
   |some i=>if i.size=0 then none else match cpO M x with
    | .imm l=>some (.imm (l.drop u.offset))
    | .ref b off=>some (.ref b (off+u.offset))
    |_=>none
   |none=>none
  |none=>none
 |_=>none
theorem fdF_rep(Z:Mk M S)(I:Inv w0 m0 o0 G pins S a w m o){t:TypeId}{x:Operand}{f:Nat}{y:A}(h:fdF P M t x f=some y):∀s,∃v,(Instr.fieldAt t (a.eval x) f).run P w= .ok v w/\RepA m w o S s y v:=by intro s;have hx:=qA Z I x s;unfold fdF at h;split at h;(case h_2=>cases h);rename_i fs hu;split at h;(case h_2=>cases h);rename_i U hf;split at h;(case h_2=>cases h);rename_i i hi;split at h;cases h;rename_i J;(have u:∀g p,(Instr.fieldAt t (.pointer (some ⟨g,p,none⟩)) f).run P w= .ok (.pointer (some ⟨g,p+U.offset,none⟩)) w:=by intro g p;simp[Instr.fieldAt,run_underlying hu,hf,Instr.sureAddr,fieldPlace,sizeOf,typeInfo,hi,J,Addr.add_mid]);split at h;(rename_i l hl;rw[hl]at hx;cases h;obtain⟨g,p,e,hc⟩:=hx;refine⟨_,by rw[e];exact u g p,g,p+U.offset,rfl,λj d hj=> ?_⟩;grind);(rename_i b off hl;rw[hl]at hx;cases h;obtain⟨g,W,e,hb⟩:=hx;exact⟨_,by rw[e];exact u g off,g,W,rfl,hb⟩);cases h
theorem zJS{k:Nat}{x:Option D}{l:List (List D)}{v:Value}(h:slD k x=some l)(hr:∀d,x=some d->RepD m d v):RepD m (.seq k l) v:=by unfold slD at h;split at h;grind;(cases h;cases hr _ rfl;exact .seq k [] none 0 0 0 (λ_ _=>undef) (wJ _) (uF _) (λh=>absurd rfl h) (λi r h=>by simp at h) (λi r j d h=>by simp at h) (λi r j d h=>by simp at h));cases h
def ixF(P:Program)(M:Nat->A)(t:TypeId)(x i:Operand):Option A:=match vO M i with
  |some (.int _ n)=>match P.underlying t with
    |some (.slice e)=>match P.info? e with
      |some u=>match slD u.size (dO M x)with
        |some l=>if 0<=n/\n<l.length then(l[n.toNat]?).map .imm else none
        |none=>none
      |none=>none
    |some (.array len e)=>match P.info? e with
      |some u=>if 0<=n/\n<len then match cpO M x with
          | .imm l=>some (.imm (l.drop (n.toNat*u.size)))
          | .ref b off=>some (.ref b (off+n.toNat*u.size))
          |_=>none
        else none
      |none=>none
    |_=>none
  |_=>none
theorem ixF_rep(hM:Mk M S)(I:Inv w0 m0 o0 G pins S a w m o){t:TypeId}{x i:Operand}{y:A}(h:ixF P M t x i=some y):∀s,∃v,(Instr.indexAt t (a.eval x) (a.eval i)).run P w= .ok v w/\RepA m w o S s y v:=by intro s;unfold ixF at h;split at h;(case h_2=>cases h);rename_i ki n hn;rw[zCK hM I hn];split at h;(rename_i e hu;split at h;(case h_2=>cases h);rename_i Z U;split at h;(case h_2=>cases h);rename_i l hl;split at h;(case isFalse=>cases h);rename_i hb;have hr:=zJS (m:=m) (v:=a.eval x) hl (λd hd=>zG2 hM I hd);(cases u:l[n.toNat]? with|none=>grind|some r=>rw[u]at h;cases h;generalize a.eval x=v at hr⊢;(cases hr with|seq _ _ A' cap g p f α β hA hw hm hr=>(have W:l≠[]:=by intro e;subst e;simp at u);rw[hA W];refine⟨.pointer (some ⟨g,p+n.toNat*Z.size,none⟩),?_,g,p+n.toNat*Z.size,rfl,λj d hj=>⟨f n.toNat j,hm _ _ _ _ u hj,hr _ _ _ _ u hj⟩⟩;simp[Instr.indexAt,asIntOf,run_underlying hu,hb,sizeOf,typeInfo,U,Addr.add_mid])));(rename_i len e hu;split at h;(case h_2=>cases h);rename_i Z U;split at h;(case isFalse=>cases h);rename_i hb;have hx:=qA hM I x s;(have J:∀g p,(Instr.indexAt t (.pointer (some ⟨g,p,none⟩)) (.int ki n)).run P w= .ok (.pointer (some ⟨g,p+n.toNat*Z.size,none⟩)) w:=by intro g p;simp[Instr.indexAt,asIntOf,Instr.sureAddr,run_underlying hu,hb,sizeOf,typeInfo,U,Addr.add_mid]);split at h;(rename_i l hl;rw[hl]at hx;cases h;obtain⟨g,p,e,hc⟩:=hx;refine⟨_,by rw[e];exact J g p,g,_,rfl,λj d hj=> ?_⟩;grind);(rename_i b off hl;rw[hl]at hx;cases h;obtain⟨g,h1,e,hb⟩:=hx;exact⟨_,by rw[e];exact J g off,g,h1,rfl,hb⟩);cases h);cases h
def lnF(P:Program)(M:Nat->A)(t:TypeId)(x:Operand):Option Value:=match P.underlying t with
 |some (.slice _)=>match dO M x with|some (.seq _ l)=>some (.int .i64 l.length)|some (.lit (.slice _ n _))=>some (.int .i64 n)|_=>none
 |some .string=>match vO M x with|some (.string s)=>some (.int .i64 s.size)|_=>none
 |some (.array n _)=>some (.int .i64 n)
 |_=>none
theorem lnF_run(J:Mk M S)(I:Inv w0 m0 o0 G pins S a w m o){t ty:TypeId}{x:Operand}{y:Value}(h:lnF P M t x=some y):(Builtin.len_ #[t] ty #[a.eval x]).run P w= .ok y w:=by unfold lnF at h;split at h;(rename_i e u;split at h;(rename_i k l hd;cases h;have hr:=zG2 J I hd;generalize a.eval x=v at hr⊢;cases hr;simp[Builtin.len_,run_underlying u,goInt]);(rename_i U n c hd;cases h;(have e:a.eval x= .slice U n c:=by have:=zG2 J I hd;generalize a.eval x=v at this;cases this;rfl);rw[e];simp[Builtin.len_,run_underlying u,goInt]);cases h);(rename_i u;split at h;(rename_i s hs;cases h;rw[zCK J I hs];simp[Builtin.len_,run_underlying u,goInt]);cases h);(rename_i n e u;cases h;simp[Builtin.len_,run_underlying u,goInt]);cases h
end
def newM(m:Mem)(g:Nat)(f:Nat->Option Value):Mem:=λb p=>if b=g then f p else m b p
def newO(o:OwnM)(d g:Nat):OwnM:=λb=>if b=g then some (d,0)else if(o b).map (·.1)=some d then none else o b
section
variable {w0:World}{m0:Mem}{o0:OwnM}{G:GD}{pins:List Nat}{S M:Nat->A}{a:Act}{w:World}{m:Mem}{o:OwnM}{P:Program}
theorem Inv.mem_none(I:Inv w0 m0 o0 G pins S a w m o){g p:Nat}(h:w.heap.size<=g):m g p=none:=by(cases J:m g p with|none=>rfl|some u=>have:=wT w _ (I.sat _ _ _ J);grind)
theorem Inv.free(I:Inv w0 m0 o0 G pins S a w m o){g d:Nat}(h:w.heap.size<=g):∀l,o g=some l->l.1=d:=λl hl=>absurd (I.lt g l hl) (by omega)
theorem Inv.newG(I:Inv w0 m0 o0 G pins S a w m o){g:Nat}(h:w.heap.size<=g):G g\/w0.heap.size<=g:= .inr (uW I.same.size h)
theorem Inv.own_put(I:Inv w0 m0 o0 G pins S a w m o)(d:Nat)(x:A)(v:Value)(f:Nat->Option Value)(g:Nat)(w':World)(hd:d<a.tmps.size)(α:(S d).isBox=false)(δ:d∉pins)
(ι:∀l,o g=some l->l.1=d)(hG:G g\/w0.heap.size<=g)(U:Same (λb=>b=g/\b<w.heap.size) w w')(hg:g<w'.heap.size)(ε:∀p u,m g p=some u->f p=some u)
(hf:∀p u,f p=some u->w'.cell? ⟨g,p,none⟩=some u)(hx:RepA (newM m g f) w' (newO o d g) (upd S d x) d x v):Inv w0 m0 o0 G pins (upd S d x) (a.put (some d) v) w' (newM m g f) (newO o d g):=by
 have κ:=I.same.size
 have Z:∀b l,o b=some l->l.1≠d->b≠g:=λb l J W e=>W (ι l (e▸J))
 have K:Keep (λl=>l.1=d) m w o (newM m g f) w' (newO o d g):=by refine⟨λb p u h=> ?_,λb l J W=> ?_,λb l J W=> ?_,λb l J W=> ?_,λb j J=> ?_,λb s k hs J=> ?_,λb j J=> ?_⟩;(unfold newM;split;rename_i e;subst e;exact ε p u h;exact h);(funext p;unfold newM;rw[if_neg (Z b l J W)]);exact U.block b (I.lt b l J) λe=>Z b l J W e.1;(unfold newO;rw[if_neg (Z b l J W),J,if_neg (by simpa using W)]);(have γ:OB+j≠d:=zMu (wO hd I.wide);unfold newO;rw[if_neg (Z b _ J γ),J,if_neg (by simpa using γ)]);(unfold newO at J;split at J;(injection J with J;injection J with J _;exact absurd J.symm hs);(split at J;cases J;exact⟨_,_,J⟩));refine .of_lt λW=>U.block b W λe=>Z b _ J (zMu (wO hd I.wide)) e.1
 refine⟨?_,?_,I.mono.trans K.mle,?_,?_,?_,?_,?_,?_,I.defers,I.tbl,by rw[zCW];exact I.wide,I.shps.keep I.pinned K.sh⟩
 · refine I.same.trans (U.weaken ?_);rintro k ⟨rfl,hk⟩;exact hG
 · intro b p u h;unfold newM at h;split at h;rename_i e;subst e;exact hf p u h;(rename_i e;have J:=I.sat b p u h;(have ζ:b<w.heap.size:=by have:=wT w _ J;simpa using this);rw[vS (w:=w) (U.block b ζ λe'=>e e'.1)];exact J)
 · intro b hb β;rw[<-I.old b hb β];funext p;unfold newM;rw[if_neg];intro e;subst e;rcases hG with h|h;exact β h;omega
 · intro b l h;unfold newO at h;split at h;rename_i e;subst e;exact hG;(split at h;cases h;exact I.own b l h)
 · intro b l h;unfold newO at h;split at h;rename_i e;subst e;exact hg;(split at h;cases h;exact wO (I.lt b l h) U.size)
 · intro b b' l h h';unfold newO at h h';split at h;(rename_i e;cases h;split at h';rename_i e';rw[e,e'];(split at h';cases h';(rename_i hn;exact absurd (by rw[h'];rfl) hn)));(split at h;cases h;(rename_i hn;split at h';(rename_i e';cases h';exact absurd (by rw[h];rfl) hn);(split at h';cases h';exact I.inj b b' l h h')))
 · intro s hs b hb;(have θ:s≠d:=hs.elim (λhs e=>δ (e▸hs)) λhs e=>by have:=I.wide;omega);exact K.own b _ (I.pinned s hs b hb) θ
 · intro s;rw[zNj];by_cases h:s=d;(subst h;rw[if_pos ⟨rfl,hd⟩,zT];exact hx);(rw[if_neg (λe=>h e.1),zE h];refine RepA.keep K (λ_=>h) (λb off e η=> ?_) (I.slots s);(have hb:(∃l,S b= .box l)->b≠d:=λ⟨l,hl⟩ e=>by subst e;rw[hl]at α;cases α);have hr:=I.slots s;rw[e]at hr;obtain⟨_,_,_,hr⟩:=hr;exact⟨hb (hr η),λ⟨l,hl⟩=>⟨l,by rw[zE (hb ⟨l,hl⟩),hl]⟩⟩)
theorem zB5(m:Mem)(g:Nat)(f:Nat->Option Value)(p:Nat):newM m g f g p=f p:=by simp[newM]
theorem zAO(o:OwnM)(d g:Nat):newO o d g g=some (d,0):=by simp[newO]
theorem zMo(I:Inv w0 m0 o0 G pins S a w m o){g:Nat}(h:w.heap.size<=g)(f:Nat->Option Value):Mle m (newM m g f):=by intro b p u J;unfold newM;rw[if_neg];exact J;(intro e;subst e;rw[I.mem_none h]at J;cases J)
def zGs:A->Option (List T)
 | .t (.d x)=>some [.d x]
 | .t (.agg l)=>some (l.map .d)
 |_=>none
theorem zQp(E:TypeId)(v:Value)(w:World):(Instr.box E v).run P w= .ok (.pointer (some ⟨w.heap.size,0,none⟩)) (w.alloc (.cells v.cells E)):=by simp[Instr.box,newVar,newRow]
theorem box_ok(I:Inv w0 m0 o0 G pins S a w m o){d:Nat}{y:A}{l:List T}(E:TypeId){v:Value}(hd:d<a.tmps.size)(J:(S d).isBox=false)(Z:d∉pins){s:Nat}(hy:RepA m w o S s y v)(hl:zGs y=some l):
 ∃m' o',Inv w0 m0 o0 G pins (upd S d (.box l)) (a.put (some d) (.pointer (some ⟨w.heap.size,0,none⟩))) (w.alloc (.cells v.cells E)) m' o':=by
 have W:∃ds:List D,l=ds.map .d/\RepL m ds v.cells.toList:=by(cases y with|t z=>(cases z with|d x=>cases hl;have:RepD m x v:=hy;(exact⟨[x],rfl,by rw[this.cells];simp,λj e U=>by rw[this.cells];(cases j with|zero=>grind|succ j=>simp at U)⟩)|agg ds=>cases hl;obtain⟨vs,e,h⟩:=hy;subst e;exact⟨ds,rfl,h⟩|_=>cases hl)|_=>cases hl)
 obtain⟨ds,rfl,hr⟩:=W
 refine⟨_,_,I.own_put d _ _ (λ_=>none) w.heap.size _ hd J Z (I.free (wJ _)) (I.newG (wJ _)) ((Same.alloc (λ_=>False) w _).weaken (λ_ h=>h.elim)) (by simp) (λp u h=>by rw[I.mem_none (wJ _)]at h;cases h) (λp u h=>by cases h) ?_⟩
 refine⟨w.heap.size,λ_=>rfl,zAO _ _ _,λp=>zB5 _ _ _ _,v.cells,E,heap_alloc_new w _,?_,λj x U=> ?_⟩
 · have:=hr.1;grind
 · rw[wH]at U;(cases hd:ds[j]? with|none=>grind|some e=>rw[hd]at U;cases U;obtain⟨u,h1,h2⟩:=hr.2 j e hd;exact⟨rfl,u,by simpa using h1,h2.mono (zMo I (wJ _) _)⟩)
def zIl(m:Mem)(k:Nat)(l:List (List D))(xs:List Value):Prop:=
 xs.length=l.length*k/\(∀(i:Nat) (r:List D),l[i]? =some r->r.length=k)/\∀(i:Nat) (r:List D) (j:Nat) (d:D),l[i]? =some r->r[j]? =some d->∃u,xs[i*k+j]? =some u/\RepD m d u
theorem zIl.mono{m':Mem}(h:Mle m m'){k:Nat}{l:List (List D)}{xs:List Value}(hr:zIl m k l xs):zIl m' k l xs:=
 ⟨hr.1,hr.2.1,λi r j d a b=>let⟨u,c,e⟩:=hr.2.2 i r j d a b;⟨u,c,e.mono h⟩⟩
theorem zIl.append{k:Nat}{l l':List (List D)}{xs Z:List Value}(h:zIl m k l xs)(U:zIl m k l' Z):zIl m k (l++l') (xs++Z):=by refine⟨by rw[wS,wS,h.1,U.1,tP],λi r I=> ?_,λi r j d I W=> ?_⟩;(rw[sK]at I;split at I;exact h.2.1 i r I;exact U.2.1 _ r I);(rw[sK]at I;split at I;(rename_i α;obtain⟨u,c,e⟩:=h.2.2 i r j d I W;grind);(rename_i J;obtain⟨u,c,e⟩:=U.2.2 _ r j d I W;refine⟨u,?_,e⟩;rw[uK];(rw[h.1];(have:i*k+j-l.length*k=(i-l.length)*k+j:=by rw[Nat.sub_mul];have:=uC k (Nat.le_of_not_lt J);omega);grind);(rw[h.1];have:=uC k (Nat.le_of_not_lt J);omega)))
theorem mul_lt{i k j n:Nat}(hi:i<n)(u:j<k):i*k+j<n*k:=by have:=uC k hi;grind
theorem RepD.rows{k:Nat}{l:List (List D)}{v:Value}(h:RepD m (.seq k l) v):∃(A':Option Addr) (cap:Nat) (xs:List Value),v= .slice A' l.length cap/\l.length<=cap/\cap<=maxLen/\zIl m k l xs/\(∀u∈xs,u.oneCell'=true)/\∀j u,xs[j]? =some u->∃g o,A'=some ⟨g,o,none⟩/\m g (o+j)=some u:=by(cases h with|seq _ _ A' cap g o f h1 h2 hA W hm hr=>(have Z:∀q,q<l.length*k->∃r d,l[q/k]? =some r/\r[q %k]? =some d/\k≠0/\q/k*k+q %k=q:=by intro q hq;(have hk:0<k:=Nat.pos_of_ne_zero λe=>by subst e;simp at hq);have J:q/k<l.length:=sL (by rw[tC];exact hq);have β:=W (q/k) l[q/k] (wF J);(have U:q %k<l[q/k].length:=by rw[β];exact Nat.mod_lt _ hk);exact⟨_,_,wF J,wF U,by omega,by rw[tC];exact Nat.div_add_mod q k⟩);refine⟨A',cap,(List.range (l.length*k)).map λq=>f (q/k) (q %k),rfl,h1,h2,⟨by simp,W,λi r j d J U=> ?_⟩,λu hu=> ?_,λq u hq=> ?_⟩;(have α:i<l.length:=(wB.1 J).1;(have I:j<k:=by rw[<-W i r J];exact(wB.1 U).1);refine⟨f i j,?_,hr i r j d J U⟩;rw[wH,List.getElem?_range (mul_lt α I)];(have e1:(i*k+j)/k=i:=by rw[tC,Nat.mul_add_div (by omega),Nat.div_eq_of_lt I,uP]);(have e2:(i*k+j) %k=j:=by rw[tC,Nat.mul_add_mod,tQ I]);grind);(obtain⟨q,hq,rfl⟩:=vQ.1 hu;obtain⟨r,d,h3,h4,_,_⟩:=Z q (tS.1 hq);exact(hr _ r _ d h3 h4).one);grind)
theorem zNW{P:Program}(w:World)(t ty e e2:TypeId)(i:TypeInfo)(ht:P.underlying t=some (.slice e))(hi:P.info? e=some i)
(g q0 J Z:Nat)(U:Array Value)(hg:w.heap[g]? =some (.cells U e2 (0,0)))
(a:Addr)(m c:Nat)(I:List Value)(hl:I.length=m*i.size)(W:∀j u,I[j]? =some u->w.cell? (a.add j)=some u)(h1:∀u∈I,u.oneCell'=true)
(α:J+m<=Z)(γ:q0+J*i.size+I.length<=U.size):
 (Builtin.append_ #[t,t] ty #[.slice (some ⟨g,q0,none⟩) J Z,.slice (some a) m c]).run P w=
  .ok (.slice (some ⟨g,q0,none⟩) (J+m) Z) (w.setRow g (U.toList.take (q0+J*i.size)++I++U.toList.drop (q0+J*i.size+I.length)).toArray):=by
 have hf:=run_firstCells_some (P:=P) w i.size m a m c I hl W
 have β:=run_storeCells_at P g (q0+J*i.size) e2 I 0 U w hg (by simpa using γ) h1
 simp only[uP]at β
 simp[Builtin.append_,run_underlying ht,sizeOf,typeInfo,hi,Builtin.lenOf,α,hf,Addr.add_lit,β]
theorem run_app3(w:World){t e E0:TypeId}{sz nb:Nat}(E:zIW P t e sz nb)(σ:e=E0\/E0=OFB)(ty:TypeId)(A':Option Addr)(n c:Nat)(xs:List Value)(α:zHo w E0 sz (.slice A' n c) n xs)
(B':Option Addr)(k c':Nat)(I:List Value)(hl:I.length=k*sz)(δ:Row w B' I)(h1:∀u∈I,u.oneCell'=true)(hb:(n+k)*nb<=140737488355328)(ζ:I≠[]):
 ∃A2 c2 w',(Builtin.append_ #[t,t] ty #[.slice A' n c,.slice B' k c']).run P w= .ok (.slice A2 (n+k) c2) w'/\zHo w' E0 sz (.slice A2 (n+k) c2) (n+k) (xs++I)/\
  ((A2=A'/\c2=c/\n+k<=c/\(∀g p u,blk A'=some g->p<offA A'->w.cell? ⟨g,p,none⟩=some u->w'.cell? ⟨g,p,none⟩=some u)/\w.grownBy w' (blk A')/\∀g,zBc w w' g)\/(A2=some ⟨w.heap.size,0,none⟩/\w.grownBy w' none)):=by
 obtain⟨i,z,hi,hz,rfl,rfl,τ⟩:=E.info
 have ν:n+k<=maxLen:=by have:=tN (n+k) E.posb;unfold maxLen;omega
 have π:n+k<=9223372036854775807:=by simp only[maxLen]at ν;omega
 cases B' with
  |none=>
   have hn:I=[]:=by(cases I with|nil=>rfl|cons u r=>obtain⟨ad,h,_⟩:=δ 0 u rfl;cases h)
   grind
  |some ad=>
   have W:∀j u,I[j]? =some u->w.cell? (ad.add j)=some u:=by intro j u hu;obtain⟨ω,h,hc⟩:=δ j u hu;cases h;exact hc
   have β:(xs++I).length=(n+k)*i.size:=by rw[wS,α.1,hl,tP]
   have grown:∀(old:Nat),old<n+k->
    zHo (w.drew.alloc (.cells (xs.toArray++I.toArray++Builtin.zeroCells z.cells (grownCap w (n+k) old e-(n+k))) e)) E0 i.size (.slice (some ⟨w.heap.size,0,none⟩) (n+k) (grownCap w (n+k) old e)) (n+k) (xs++I)/\
    w.grownBy (w.drew.alloc (.cells (xs.toArray++I.toArray++Builtin.zeroCells z.cells (grownCap w (n+k) old e-(n+k))) e)) none:=by
    intro old ho
    have ρ:=grownCap_ge w (n+k) old e
    have θ:grownCap w (n+k) old e<=maxLen:=grownCap_le_maxLen w (n+k) old e ν
    have η:(xs.toArray++I.toArray++Builtin.zeroCells z.cells (grownCap w (n+k) old e-(n+k))).size=grownCap w (n+k) old e*i.size:=by simp only[sI,vV,size_zeroCells,τ,α.1,hl,<-tP];congr 1;omega
    refine⟨⟨β,.inr ⟨w.heap.size,0,_,_,rfl,⟨_,heap_alloc_new w.drew _,σ.elim (λh=> .inr ⟨h,rfl,η⟩) .inl⟩,ρ,θ,.inl ?_,?_⟩⟩,⟨rfl,rfl,rfl,by simp,λq hq _=>Below.heap_alloc w.drew _ q hq⟩⟩
    · rw[vJ];exact η
    · simp only[Array.toList_append,vW,List.drop_zero];rw[<-vW,<-β];exact List.take_left
   rcases α.2 with⟨hv,rfl⟩|⟨g,U,cap,J,hv,⟨e2,hg,he⟩,hnc,θ,ε,htake⟩
   · cases hv;have hx:xs=[]:=vF (by simpa using α.1);subst hx;by_cases hm:k=0;(subst hm;exact absurd (vF (by simpa using hl)) ζ);(have hr:=run_append_nil (P:=P) w t ty e i z E.under hi hz ad k c' I hl W (by omega) (by omega) (by have hb:=hb;simp only[vJ]at hb;omega);have μ:=grown 0 (by omega);simp only[vJ,tF,Array.empty_append]at μ⊢;exact⟨_,_,_,hr,μ.1,.inr ⟨rfl,μ.2⟩⟩)
   · cases hv;(have γ:∀p,w.cell? ⟨g,p,none⟩=J[p]? :=λp=>by unfold World.cell?;simp[hg]);by_cases Z:n+k<=c;((have φ:n*i.size+k*i.size<=c*i.size:=by rw[<-tP];exact uC _ Z);(have ψ:0<k:=by rcases tR k with h|h;rw[h,Nat.zero_mul]at hl;exact absurd (vF hl) ζ;exact h);(have ε:J.size=U+c*i.size:=ε.resolve_right λh=>by omega);(have ξ:U+n*i.size+I.length<=J.size:=by rw[hl,ε];omega);have hr:=zNW (P:=P) w t ty e e2 i E.under hi g U n c J hg ad k c' I hl W h1 Z ξ;(have κ:(J.toList.take (U+n*i.size)++I++J.toList.drop (U+n*i.size+I.length)).length=J.size:=by simp only[wS,vZ,uY,vM];omega);refine⟨_,_,_,hr,⟨β,.inr ⟨g,U,c,_,rfl,⟨e2,setRow_heap w g J _ e2 _ hg,he.imp id λ⟨a,b,c⟩=>⟨a,b,by rw[vV,κ];exact c⟩⟩,Z,θ,.inl ?_,?_⟩⟩,.inl ⟨rfl,rfl,Z,λg' p u hb hp hu=> ?_,⟨rfl,rfl,rfl,by simp,λk _ hk=>setRow_other w g k _ (λe=>hk (by simp[blk,e]))⟩,λq=> ?_⟩⟩;rw[vV,κ];exact ε;(show((J.toList.take (U+n*i.size)++I++J.toList.drop (U+n*i.size+I.length)).drop U).take ((n+k)*i.size)=xs++I;(have e1:(J.toList.take (U+n*i.size)).drop U=xs:=by rw[List.drop_take,wP];exact htake);(have e2:U<=(J.toList.take (U+n*i.size)).length:=by simp only[vZ,vM];omega);rw[vW,List.drop_append_of_le_length e2,e1,<-vW,<-β];exact List.take_left);(cases hb;have hp:p<U:=hp;rw[γ]at hu;have χ:=(uH.1 hu).1;(have e4:(J.toList.take (U+n*i.size)++I++J.toList.drop (U+n*i.size+I.length))[p]? =J[p]? :=by rw[vW,uN (by simp only[vZ,vM];omega),vR,if_pos (by omega),tU]);(have e5:(w.setRow g (J.toList.take (U+n*i.size)++I++J.toList.drop (U+n*i.size+I.length)).toArray).cell? ⟨g,p,none⟩=(J.toList.take (U+n*i.size)++I++J.toList.drop (U+n*i.size+I.length))[p]? :=by unfold World.cell?;simp[setRow_heap w g J _ e2 _ hg]);grind);(by_cases e1:q=g;(subst e1;intro cs E1 f1 hq;rw[hg]at hq;cases hq;exact⟨_,setRow_heap w q _ _ _ _ hg,by rw[vV,κ]⟩);exact .of_eq (setRow_other w g q _ e1)));((have ι:∀j u,xs[j]? =some u->w.cell? ((⟨g,U,none⟩:Addr).add j)=some u:=λj u hj=>by rw[Addr.add_mid,γ,<-tU];grind);have hr:=run_append_grow (P:=P) w t ty e i z E.under hi hz ⟨g,U,none⟩ n c xs α.1 ι ad k c' I hl W (by omega) (by omega) (growslice_fits (by omega) hb);grind)
theorem Inv.dropX(I:Inv w0 m0 o0 G pins S a w m o)(s:Nat)(hs:s∉pins)(U:s<OB){x:T}(hx:S s= .t x)(u:(∃d,x= .d d)\/x= .any):∃o',Inv w0 m0 o0 G pins S a w m o'/\(∀g l,o' g=some l->l.1≠s/\o g=some l):=by
 have hk:∀g l,(λb=>if(o b).map (·.1)=some s then none else o b) g=some l->l.1≠s/\o g=some l:=by
  grind
 have K:Keep (λl=>l.1=s) m w o m w (λb=>if(o b).map (·.1)=some s then none else o b):=
  ⟨Mle.refl _,λ_ _ _ _=>rfl,λ_ _ _ _=>rfl,λg l h hn=>by
   show(if(o g).map (·.1)=some s then none else o g)=_
   rw[h,if_neg (by simpa using hn)],λg j h=>by
   show(if(o g).map (·.1)=some s then none else o g)=_
   rw[h,if_neg (by simpa using zMu U)],λg t k _ h=>⟨g,k,(hk g _ h).2⟩,λg _ _=> .of_eq rfl⟩
 refine⟨_,⟨I.same,I.sat,I.mono,I.old,λg l h=>I.own g l (hk g l h).2,λg l h=>I.lt g l (hk g l h).2,λg Z l h W=>I.inj g Z l (hk g l h).2 (hk Z l W).2,λp hp g hg=> ?_,λt=> ?_,I.defers,I.tbl,I.wide,I.shps⟩,hk⟩
 · exact K.own g _ (I.pinned p hp g hg) (λe=>hp.elim (λhp=>hs (by rw[<-e];exact hp)) λhp=>by have e:p=s:=e;omega)
 ·
  have h:=I.slots t
  by_cases e:t=s
  ·
   subst e
   rw[hx]at h⊢
   rcases u with⟨d,rfl⟩|rfl
   · exact h
   · exact h
  ·
   refine RepA.keep K (λ_=>e) (λb off he J=> ?_) h
   rw[he]at h
   obtain⟨_,_,_,hl⟩:=h
   obtain⟨l,hl⟩:=hl J
   exact⟨λe2=>(by rw[show b=s from e2,hx]at hl;cases hl),id⟩
theorem Inv.drop(I:Inv w0 m0 o0 G pins S a w m o)(s:Nat)(hs:s∉pins)(u:s<OB){x:D}(hx:S s= .t (.d x)):∃o',Inv w0 m0 o0 G pins S a w m o'/\(∀g l,o' g=some l->l.1≠s/\o g=some l):=I.dropX s hs u hx (.inl ⟨x,rfl⟩)
theorem Inv.degrade(I:Inv w0 m0 o0 G pins S a w m o)(s:Nat)(U:(S s).isBox=false):Inv w0 m0 o0 G pins (upd S s (cpA (S s))) a w m o:=by refine⟨I.same,I.sat,I.mono,I.old,I.own,I.lt,I.inj,I.pinned,λt=> ?_,I.defers,I.tbl,I.wide,I.shps⟩;(have hk:RepA m w o (upd S s (cpA (S s))) t (S t) (a.tmps.getD t undef):=by refine RepA.keep (C:=λ_=>False) ⟨Mle.refl _,λ_ _ _ _=>rfl,λ_ _ _ _=>rfl,λ_ _ h _=>h,λ_ _ h=>h,λg _ k _ h=>⟨g,k,h⟩,λg _ _=> .of_eq rfl⟩ (λ_=>id) (λb off e _=>⟨id,λ⟨l,hl⟩=>⟨l,?_⟩⟩) (I.slots t);(have:b≠s:=λe=>by subst e;rw[hl]at U;cases U);rw[zE this,hl]);by_cases h:t=s;(subst h;rw[zT];revert hk;generalize a.tmps.getD t undef=v;generalize upd S t (cpA (S t))=S';intro hk;(cases hx:S t with|t x=>rw[hx]at hk;exact zFb I.sat hk|tup l=>rw[hx]at hk;obtain⟨vs,e,h1,h2⟩:=hk;refine⟨vs,e,by simpa using h1,λj y J=> ?_⟩;rw[wH]at J;(cases Z:l[j]? with|none=>grind|some z=>rw[Z]at J;cases J;obtain⟨u,h3,W⟩:=h2 j z Z;exact⟨u,h3,zFb I.sat W⟩)|imm l=>rw[hx]at hk;exact hk|box l=>rw[hx]at U;cases U|ref b off=>rw[hx]at hk;exact hk|free=>trivial|hp f=>trivial|mp l=>trivial|rcd b u mE oE=>trivial|ck f cs=>rw[hx]at hk;exact hk|cl f β=>rw[hx]at hk;obtain⟨α,e,h1,h2⟩:=hk;refine⟨α,e,by simpa using h1,λi l hi=> ?_⟩;rw[wH]at hi;(cases Z:β[i]? with|none=>grind|some z=>rw[Z]at hi;cases hi;obtain⟨g,h3,W⟩:=h2 i z Z;refine⟨g,h3,λj y J=> ?_⟩;rw[wH]at J;(cases hw:z[j]? with|none=>grind|some q=>rw[hw]at J;cases J;obtain⟨u,h5,h6⟩:=W j q hw;exact⟨u,h5,zFb I.sat h6⟩))|imt l=>rw[hx]at hk;obtain⟨g,h3,W⟩:=hk;refine⟨g,h3,λj y J=> ?_⟩;rw[wH]at J;(cases hw:l[j]? with|none=>grind|some q=>rw[hw]at J;cases J;obtain⟨u,h5,h6⟩:=W j q hw;exact⟨u,h5,zFb I.sat h6⟩)|ag l=>rw[hx]at hk;obtain⟨vs,e,h1,h2⟩:=hk;refine⟨vs,e,by simpa using h1,λj y J=> ?_⟩;rw[wH]at J;(cases Z:l[j]? with|none=>grind|some z=>rw[Z]at J;cases J;obtain⟨u,h3,h5,W⟩:=h2 j z Z;exact⟨u,h3,h5,zFb I.sat W⟩)|lst l=>rw[hx]at hk;obtain⟨g,cap,e,h1,h2,h6⟩:=hk;refine⟨g,cap,by simpa using e,by simpa using h1,h2,λj y J=> ?_⟩;rw[wH]at J;(cases Z:l[j]? with|none=>grind|some z=>rw[Z]at J;cases J;obtain⟨u,h3,W⟩:=h6 j z Z;exact⟨u,h3,zFb I.sat W⟩)|fr E k=>trivial|any=>trivial));(rw[zE h];exact hk)
theorem zHo.addr{A':Option Addr}{n c:Nat}{xs:List Value}{e sz:Nat}{w:World}(h:zHo w e sz (.slice A' n c) n xs):(A'=none/\c=0)\/∃g q u,A'=some ⟨g,q,none⟩/\ownE w e g q (c*sz) u/\n<=c/\c<=maxLen/\(u.size=q+c*sz\/c=0/\q<=u.size)/\(u.toList.drop q).take (n*sz)=xs:=by rcases h.2 with⟨hv,_⟩|⟨g,q,cap,u,hv,U,I,W,J,Z⟩;(all_goals grind)
theorem zHo.lt{A':Option Addr}{n c:Nat}{xs:List Value}{e sz g:Nat}{w:World}(h:zHo w e sz (.slice A' n c) n xs)(u:blk A'=some g):g<w.heap.size:=by rcases h.addr with⟨rfl,_⟩|⟨U,q,I,rfl,⟨_,J,_⟩,_⟩;cases u;cases u;grind
theorem zHo.cellAt{A':Option Addr}{n c:Nat}{xs:List Value}{e sz g:Nat}{w:World}(h:zHo w e sz (.slice A' n c) n xs)(I:blk A'=some g){p:Nat}{u:Value}(hp:xs[p]? =some u):w.cell? ⟨g,offA A'+p,none⟩=some u:=by rcases h.addr with⟨rfl,_⟩|⟨W,q,J,rfl,⟨_,U,_⟩,_,_,_,Z⟩;cases I;(cases I;unfold World.cell?;simp only[U,blk]at*;rw[<-Z,vR]at hp;split at hp;rw[vY,tU]at hp;exact hp;grind)
theorem zRg{A':Option Addr}{n c:Nat}{xs:List Value}{e sz:Nat}{w:World}(h:zHo w e sz (.slice A' n c) n xs):A'=none\/∃g q,A'=some ⟨g,q,none⟩:=by rcases h.addr with⟨h,_⟩|⟨g,q,_,h,_⟩;(all_goals grind)
theorem zNn{A':Option Addr}{n c:Nat}{xs:List Value}{e sz:Nat}{w:World}(h:Own w 0 e sz A' n c xs):A'=none\/∃g,A'=some ⟨g,0,none⟩:=by rcases h.2 with⟨hv,_⟩|⟨g,cap,u,hv,_⟩;(all_goals grind)
theorem Own.cellAt{A':Option Addr}{n c:Nat}{xs:List Value}{e sz g:Nat}{w:World}(h:Own w 0 e sz A' n c xs)(I:blk A'=some g){p:Nat}{u:Value}(hp:xs[p]? =some u):w.cell? ⟨g,p,none⟩=some u:=by rcases zNn h with rfl|⟨J,rfl⟩;cases I;(cases I;have:=World.ownsRow.cells h (g:=J) rfl p u hp;rwa [Addr.add_mid,vJ]at this)
theorem zJ2(m:Mem)(g:Nat)(f:Nat->Option Value)(p:Nat):newM m g f g (offA (some ⟨g,0,none⟩)+p)=f p:=by show newM m g f g (0+p)=_;rw[vJ];simp[newM]
theorem Own.off0{A':Option Addr}{n c:Nat}{xs:List Value}{e sz:Nat}{w:World}(h:Own w 0 e sz A' n c xs):offA A'=0:=by rcases zNn h with rfl|⟨g,rfl⟩<;>rfl
theorem zHo.own{A':Option Addr}{n c:Nat}{xs:List Value}{E sz:Nat}{w:World}(h:zHo w E sz (.slice A' n c) n xs)(u:Nat.blt E OFB=true):Own w 0 E sz A' n c xs:=by refine⟨h.1,?_⟩;rcases h.2 with h|⟨g,q,cap,W,e1,⟨E2,hg,I⟩,U,Z,γ,β⟩;grind;((obtain⟨α,rfl,J⟩:=I.resolve_left λh=>by rw[h]at u;simp at u);grind)
theorem Inv.ownAll(I:Inv w0 m0 o0 G pins S a w m o){A':Option Addr}{n c g:Nat}{xs:List Value}{E sz:Nat}(h:Own w 0 E sz A' n c xs)(J:blk A'=some g)(hm:∀p,p<c*sz->m g p=xs[p]?)(p:Nat):m g p=xs[p]? :=by by_cases hp:p<c*sz;grind;(rcases h.2 with⟨hv,_⟩|⟨g',cap,U,hv,_,h1,Z,_,h4,_⟩;cases hv;cases J;(cases hv;injection J with J;subst J;have hx:xs[p]? =none:=uI (by rw[h.1];exact uW (uC _ Z) (by omega));rw[hx];(cases hu:m g' p with|none=>rfl|some u=>have W:=I.sat _ _ _ hu;unfold World.cell? at W;grind)))
def appM(A:Option Addr)(u:Nat->Option Value)(I:List Value):Nat->Option Value:=λp=>if p<offA A then u p else I[p-offA A]?
theorem app_ok(I:Inv w0 m0 o0 G pins S a w m o){t e E0 sz nb:Nat}(E:zIW P t e sz nb)(χ:e=E0\/E0=OFB)(ty:TypeId){d:Nat}(hd:d<a.tmps.size)(γ:(S d).isBox=false)(η:d∉pins)
{A':Option Addr}{c:Nat}{l:List (List D)}{xs:List Value}(W:zHo w E0 sz (.slice A' l.length c) l.length xs)(U:zIl m sz l xs)(κ:∀g,blk A'=some g->(∀l,o g=some l->l.1=d)/\(G g\/w0.heap.size<=g)/\g<w.heap.size/\∀p,p<c*sz->m g (offA A'+p)=xs[p]?)
{l':List (List D)}{v':Value}(hv':RepD m (.seq sz l') v')(hb:(l.length+l'.length)*nb<=140737488355328):
 ∃v w' m' o',(Builtin.append_ #[t,t] ty #[.slice A' l.length c,v']).run P w= .ok v w'/\Inv w0 m0 o0 G pins (upd S d (.t (.own E0 sz (l++l')))) (a.put (some d) v) w' m' o':=by
 obtain⟨B',c',Z,rfl,_,_,δ,h1,φ⟩:=hv'.rows
 have π:Row w B' Z:=by intro j u hu;obtain⟨g,p,e,ψ⟩:=φ j u hu;exact⟨_,e,by rw[Addr.add_mid];exact I.sat _ _ _ ψ⟩
 by_cases θ:Z=[]
 · subst θ;(have hk:l'.length=0:=by rcases tR l'.length with h|h;exact h;(have h2:=Nat.mul_pos h E.pos;have h3:=δ.1;grind));have hl':l'=[]:=vF hk;subst hl';(have ρ:l.length<=c:=by rcases W.2 with⟨hv,h0⟩|⟨g,q,cap,ξ,hv,_,h,_⟩;(all_goals grind));(have β:(Builtin.append_ #[t,t] ty #[.slice A' l.length c,.slice B' 0 c']).run P w= .ok (.slice A' l.length c) w:=by obtain⟨i,z,hi,hz,rfl,rfl,hzs⟩:=E.info;(have hf:(Builtin.firstCells i.size 0 (.slice B' 0 c')).run P w= .ok #[] w:=by(cases B' with|none=>simp[Builtin.firstCells]|some ad=>simpa using run_firstCells_some (P:=P) w i.size 0 ad 0 c' [] (by simp) (λj u h=>by simp at h)));cases A'<;>simp[Builtin.append_,run_underlying E.under,sizeOf,typeInfo,hi,Builtin.lenOf,ρ,hf,storeCells]);refine⟨.slice A' l.length c,w,?_⟩;rw[List.append_nil];rcases W.addr with⟨rfl,_⟩|⟨g,q,ξ,rfl,_⟩;exact⟨m,o,β,I.put d _ _ hd γ ⟨none,c,xs,rfl,W,λg hg=>(by cases hg),U.2.1,U.2.2⟩ I.same I.sat (Mle.refl _) (λ_ _=>rfl) (λ_ _=>rfl) (wJ _)⟩;(obtain⟨h2,h3,h4,h5⟩:=κ g rfl;(have hme:newM m g (m g)=m:=by funext b p;unfold newM;grind);refine⟨_,_,β,I.own_put d _ _ (m g) g w hd γ η h2 h3 (Same.refl _ _) h4 (λp u h=>h) (λp u h=>I.sat g p u h) ?_⟩;rw[hme];refine⟨some ⟨g,q,none⟩,c,xs,rfl,W,λg' ε=> ?_,U.2.1,U.2.2⟩;cases ε;exact⟨zAO _ _ _,h5⟩)
 obtain⟨A2,c2,w',β,α,μ⟩:=run_app3 (P:=P) w E χ ty A' l.length c xs W B' l'.length c' Z δ.1 π h1 hb θ
 refine⟨.slice A2 (l.length+l'.length) c2,w',?_⟩
 have ζ:∀(i:Nat) (r:List D),(l++l')[i]? =some r->r.length=sz:=(U.append δ).2.1
 have fin:∀(g:Nat),blk A2=some g->(∀l,o g=some l->l.1=d)->(G g\/w0.heap.size<=g)->Same (λb=>b=g/\b<w.heap.size) w w'->(∀p u,m g p=some u->appM A2 (m g) (xs++Z) p=some u)->(∀p u,p<offA A2->m g p=some u->w'.cell? ⟨g,p,none⟩=some u)->∃m' o',(Builtin.append_ #[t,t] ty #[.slice A' l.length c,.slice B' l'.length c']).run P w= .ok (.slice A2 (l.length+l'.length) c2) w'/\Inv w0 m0 o0 G pins (upd S d (.t (.own E0 sz (l++l')))) (a.put (some d) (.slice A2 (l.length+l'.length) c2)) w' m' o':=by intro g hg h2 h3 h4 h5 h6;have ν:g<w'.heap.size:=zHo.lt α hg;refine⟨_,_,β,I.own_put d _ _ (appM A2 (m g) (xs++Z)) g w' hd γ η h2 h3 h4 ν h5 (λp u hp=> ?_) ?_⟩;(unfold appM at hp;split at hp;grind;(rename_i hq;have:=zHo.cellAt α hg hp;grind));(have τ:Mle m (newM m g (appM A2 (m g) (xs++Z))):=by intro b p u hu;unfold newM;grind);refine⟨A2,c2,xs++Z,by rw[wS],by rw[wS];exact α,λg' ε=> ?_,ζ,((U.append δ).mono τ).2.2⟩;rw[hg]at ε;cases ε;refine⟨zAO _ _ _,λp _=> ?_⟩;rw[zB5];unfold appM;grind
 rcases μ with⟨rfl,rfl,ω,hcl,J,ι⟩|⟨hb2,J⟩
 · rcases W.addr with⟨rfl,_⟩|⟨g,q,ξ,rfl,⟨_,hcg,_⟩,_,_,σ,_⟩;(have hS:Same (λ_=>False) w w':=⟨J.os,J.tape,J.output,J.size,λk hk _=>J.block k hk (by simp[blk]),λk=>(ι k).w⟩;refine⟨m,o,β,I.put d _ _ hd γ ⟨none,c2,xs++Z,by rw[wS],by rw[wS];exact α,λg hg=>(by cases hg),ζ,(U.append δ).2.2⟩ (I.same.trans (hS.weaken λ_ h=>h.elim)) (λb p u h=> ?_) (Mle.refl _) (λ_ _=>rfl) (λg hg=>hS.block g hg id) J.size⟩;have h1:=I.sat b p u h;(have ν:b<w.heap.size:=by have:=wT w _ h1;simpa using this);rw[vS (w:=w) (hS.block b ν id)];exact h1);(obtain⟨h2,h3,h4,h5⟩:=κ g rfl;refine fin g rfl h2 h3 ⟨J.os,J.tape,J.output,J.size,λk hk hn=>J.block k hk λe=>hn ?_,λk=>(ι k).w⟩ (λp u hu=> ?_) λp u hp hu=>hcl g p u rfl hp (I.sat _ _ _ hu);injection e with e;grind;(unfold appM;split;exact hu;(rename_i hq;(have hpos:0<l'.length:=by rcases tR l'.length with h|h;(have h3:=δ.1;rw[h,Nat.zero_mul]at h3;grind);exact h);(have σ:=σ.resolve_right λh=>by omega);(have hps:p<ξ.size:=by have h1:=I.sat _ _ _ hu;unfold World.cell? at h1;grind);(have hq':q<=p:=by have:¬p<q:=hq;omega);have h6:=h5 (p-offA (some ⟨g,q,none⟩)) (by show p-q<_;omega);grind)))
 · subst hb2;exact fin _ rfl (I.free (wJ _)) (I.newG (wJ _)) ⟨J.os,J.tape,J.output,J.size,λk hk hn=>J.block k hk (by simp),λk=>(zBc.of_lt λhk=>J.block k hk (by simp)).w⟩ (λp u hu=>by rw[I.mem_none (wJ _)]at hu;cases hu) (λp u hp=>by cases hp)
end
end Go.Proofs.YtocolhfjpadaoaaGreatDoor
