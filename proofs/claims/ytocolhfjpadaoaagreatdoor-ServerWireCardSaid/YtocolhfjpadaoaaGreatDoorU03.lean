/-
  Lemmas of this claim, joined.
-/
import Derived.Test.YtocolhfjpadaoaaGreatDoorU02
import Derived.Laws.StructEq
import Derived.Lib.SliceRun
import Derived.Laws.MakeOwn
import Derived.Laws.CopyRow
import Derived.Laws.Pointers
set_option linter.unusedVariables false
set_option linter.unusedSimpArgs false
set_option linter.constructorNameAsVariable false
namespace Go.Proofs.YtocolhfjpadaoaaGreatDoor
open Go
abbrev wW:=@List.length_replicate
abbrev uJ:=@List.getElem?_replicate
abbrev tD:=@List.take_of_length_le
abbrev tJ:=@Int.le_refl
abbrev sJ:=@Bool.eq_iff_iff
abbrev sS:=@List.foldl_append
end Go.Proofs.YtocolhfjpadaoaaGreatDoor
namespace Go.Proofs.YtocolhfjpadaoaaGreatDoor
open Go Go.RowKit
variable {P:Program}{w0:World}{w:World}{m0:Mem}{m:Mem}{o0:OwnM}{o:OwnM}{G:GD}{pins:List Nat}{N:Nat}{a:Act}{op:Oper}{S:Nat->A}{M:Nat->A}{L:SL}{v:Value}{W:World}{Q:Mem}{X:OwnM}
theorem zWa{α:Type}{c:Bool}{a b:Option α}{r:α}(h:(bif c then a else b)=some r):(c=true/\a=some r)\/(c=false/\b=some r):=by grind
theorem bind_some{α β:Type}{a:Option α}{f:α->Option β}{r:β}(h:Option.bind a f=some r):∃y,a=some y/\f y=some r:=Option.bind_eq_some_iff.1 h
def idx{α:Type}(l:List α)(n:Int):Option α:=bif decide (0<=n)then l[n.toNat]? else none
def cutI{α:Type}(l:List α)(lo hi:Int):Option (List α):=if 0<=lo/\lo<=hi/\hi<=l.length then some ((l.take hi.toNat).drop lo.toNat)else none
def appI{α:Type}(u:Nat)(l l':List α):Option (List α):=if(l.length+l'.length)*u<=140737488355328 then some (l++l')else none
abbrev wi(z:Int):Int:=IntKind.i64.wrap z
def U8(z:Int):UInt8:=UInt8.ofNat (z %256).toNat
theorem u8c(z:Int):IntKind.u8.wrap z=((U8 z).toNat:Int):=by simp[IntKind.wrap,IntKind.bits,IntKind.signed,U8];omega
theorem zFM{α:Type}{l:List α}{n:Int}{x:α}(h:idx l n=some x):0<=n/\n<l.length/\l[n.toNat]? =some x:=by unfold idx at h;grind
theorem idxC{α β:Type}{l:List α}{n:Int}{x:α}{c:α->β}(h:idx l n=some x):0<=n/\n<((l.map c).length:Int):=by rw[wM];exact⟨(zFM h).1,(zFM h).2.1⟩
theorem idxE{α:Type}{l:List α}{n:Int}{x:α}{c:α->List D}(h:idx l n=some x):A.imm ((l.map c).getD n.toNat [])= .imm (c x):=by rw[wK,wG,(zFM h).2.2];rfl
theorem zA8{α:Type}{l:List α}{n:Int}{x:α}{c u:α->List D}(I:∀x,c x=u x)(h:idx l n=some x):A.imm ((l.map c).getD n.toNat [])= .imm (u x):=by rw[idxE h,I]
theorem lenE{α β:Type}(l:List α)(c:α->β):A.t (.d (.lit (.int .i64 ((l.map c).length:Nat))))= .t (.d (.lit (.int .i64 (l.length:Nat)))):=by rw[wM]
theorem zHW{l:List UInt8}{n:Int}{x:UInt8}(h:idx l n=some x):0<=n/\n<((ByteArray.mk ⟨l⟩).size:Int):=⟨(zFM h).1,(zFM h).2.1⟩
theorem zHM{l:List UInt8}{n:Int}{x:UInt8}(h:idx l n=some x):A.t (.d (.lit (.int .u8 (((ByteArray.mk ⟨l⟩).data.toList.getD n.toNat 0).toNat:Int))))= .t (.d (.lit (.int .u8 (x.toNat:Int)))):=by show A.t (.d (.lit (.int .u8 ((l.getD n.toNat 0).toNat:Int))))=_;rw[wK,(zFM h).2.2];rfl
theorem zF2{α:Type}{l:List α}{lo hi:Int}{z:List α}(h:cutI l lo hi=some z):(0<=lo/\lo<=hi/\hi<=l.length)/\z=(l.take hi.toNat).drop lo.toNat:=by unfold cutI at h;grind
theorem cutC{α:Type}{l z:List α}{lo hi:Int}{c:α->List D}(h:cutI l lo hi=some z):zVf (l.map c).length (some lo) (some hi) none:=by obtain⟨⟨u,I,J⟩,_⟩:=zF2 h;rw[wM];exact⟨u,I,J,tJ _,λe=>by cases e⟩
theorem cutE{α:Type}{l z:List α}{lo hi:Int}{c:α->List D}{k:Nat}(h:cutI l lo hi=some z):A.t (.d (.seq k (cutL (l.map c) (some lo) (some hi))))= .t (.d (.seq k (z.map c))):=by obtain⟨_,rfl⟩:=zF2 h;simp[cutL,List.map_take,List.map_drop]
theorem cutC3{α:Type}{l z:List α}{lo hi:Int}{c:α->List D}(h:cutI l lo hi=some z):zVf (l.map c).length (some lo) (some hi) (some hi):=by obtain⟨⟨u,I,J⟩,_⟩:=zF2 h;rw[wM];exact⟨u,I,tJ _,J,λ_=>rfl⟩
theorem zUj{α:Type}{l z:List α}{lo:Int}{c:α->List D}(h:cutI l lo l.length=some z):zVf (l.map c).length (some lo) none none:=by obtain⟨⟨u,I,J⟩,_⟩:=zF2 h;rw[wM];exact⟨u,I,tJ _,tJ _,λe=>by cases e⟩
theorem zVG{α:Type}{l z:List α}{lo:Int}{c:α->List D}{k:Nat}(h:cutI l lo l.length=some z):A.t (.d (.seq k (cutL (l.map c) (some lo) none)))= .t (.d (.seq k (z.map c))):=by obtain⟨_,rfl⟩:=zF2 h;simp[cutL,List.map_drop,tD]
theorem zVg{α:Type}{l z:List α}{hi:Int}{c:α->List D}(h:cutI l 0 hi=some z):zVf (l.map c).length none (some hi) none:=by obtain⟨⟨u,I,J⟩,_⟩:=zF2 h;rw[wM];exact⟨u,I,J,tJ _,λe=>by cases e⟩
theorem cutCh3{α:Type}{l z:List α}{hi:Int}{c:α->List D}(h:cutI l 0 hi=some z):zVf (l.map c).length none (some hi) (some hi):=by obtain⟨⟨u,I,J⟩,_⟩:=zF2 h;rw[wM];exact⟨u,I,tJ _,J,λ_=>rfl⟩
theorem zUB{α:Type}{l z:List α}{hi:Int}{c:α->List D}{k:Nat}(h:cutI l 0 hi=some z):A.t (.d (.seq k (cutL (l.map c) none (some hi))))= .t (.d (.seq k (z.map c))):=by obtain⟨_,rfl⟩:=zF2 h;simp[cutL,List.map_take]
theorem zKB{α:Type}{u:Nat}{l l' z:List α}(h:appI u l l'=some z):(l.length+l'.length)*u<=140737488355328/\z=l++l':=by unfold appI at h;grind
theorem appC{α β:Type}{u:Nat}{l l' z:List α}{c:α->β}(h:appI u l l'=some z):((l.map c).length+(l'.map c).length)*u<=140737488355328:=by rw[wM,wM];exact(zKB h).1
theorem appE{α:Type}{u E k:Nat}{l l' z:List α}{c:α->List D}(h:appI u l l'=some z):A.t (.own E k (l.map c++l'.map c))= .t (.own E k (z.map c)):=by rw[(zKB h).2,List.map_append]
theorem appE0{α:Type}{u E k:Nat}{l' z:List α}{c:α->List D}(h:appI u [] l'=some z):A.t (.own E k (l'.map c))= .t (.own E k (z.map c)):=by rw[(zKB h).2,List.nil_append]
theorem appC0{α β:Type}{u:Nat}{l' z:List α}{c:α->β}(h:appI u [] l'=some z):(l'.map c).length*u<=140737488355328:=by have:=(zKB h).1;grind
theorem zSp(x y:List UInt8):((ByteArray.mk ⟨x⟩).toList==(ByteArray.mk ⟨y⟩).toList)=(x==y):=by rw[sJ];simp
theorem strE(l:List UInt8):A.t (.d (.lit (.string (strD (zV l)))))= .t (.d (.lit (.string ⟨⟨l⟩⟩))):=by rw[zX7]
def shrI(k:IntKind)(a b:Int):Option Int:=bif decide (0<=b)then some (a.fdiv (2^min b.toNat k.bits))else none
def shlI(k:IntKind)(a b:Int):Option Int:=bif decide (0<=b)then some (k.wrap (a*2^min b.toNat k.bits))else none
theorem shrIE {k yk : IntKind} {a b z : Int} (h : shrI k a b = some z) : binV .shr (.int k a) (.int yk b) = some (.int k z) := by
  unfold shrI at h
  rcases zWa h with ⟨h1, h2⟩ | ⟨_, h2⟩
  · have h1 : ¬ b < 0 := by have : 0 ≤ b := by simpa using h1
                            omega
    injection h2 with h2
    show zGy (Op.shift .shr k a yk b) = _
    unfold Op.shift
    rw [if_neg h1, ← h2]
    rfl
  grind
theorem shlIE {k yk : IntKind} {a b z : Int} (h : shlI k a b = some z) : binV .shl (.int k a) (.int yk b) = some (.int k z) := by
  unfold shlI at h
  rcases zWa h with ⟨h1, h2⟩ | ⟨_, h2⟩
  · have h1 : ¬ b < 0 := by have : 0 ≤ b := by simpa using h1
                            omega
    injection h2 with h2
    show zGy (Op.shift .shl k a yk b) = _
    unfold Op.shift
    rw [if_neg h1, ← h2]
    rfl
  grind
def notB:Value->Bool| .bool _=>false|_=>true
theorem opF_bin{tk:Bool}{d:Nat}{I:BinOp}{t J:TypeId}{x y:Operand}{u r:Value}(hx:vO M x=some u)(hy:vO M y=some v)(U:notB u=true)(hv:binV I u v=some r):opF P pins tk M d (.binOp I t x y J)=some (True,[(d,litA r)]):=by show(valF P M (.binOp I t x y J)).map (λy=>(True,[(d,y)]))=_;unfold valF;simp only[hx,hy];cases u<;>first|(cases U;done)|(simp only[hv];rfl)
theorem i64_u8(c:UInt8):IntKind.i64.wrap (c.toNat:Int)=(c.toNat:Int):=by have:=c.toNat_lt;exact wrap_id (by omega) (by omega)
theorem u64_u8(c:UInt8):IntKind.u64.wrap (c.toNat:Int)=(c.toNat:Int):=by have:=c.toNat_lt;simp[IntKind.wrap,IntKind.bits,IntKind.signed];omega
theorem u32_u8(c:UInt8):IntKind.u32.wrap (c.toNat:Int)=(c.toNat:Int):=by have:=c.toNat_lt;simp[IntKind.wrap,IntKind.bits,IntKind.signed];omega
def strB(l:List UInt8):Option (List UInt8):=if l.length<=maxLen then some l else none
theorem strBC{l z:List UInt8}(h:strB l=some z):(ByteArray.mk ⟨l⟩).size<=maxLen:=by unfold strB at h;split at h;assumption;cases h
theorem strBE{l z:List UInt8}(h:strB l=some z):A.t (.d (.seq 1 (zV (ByteArray.mk ⟨l⟩).data.toList)))= .t (.d (.seq 1 (zV z))):=by unfold strB at h;grind
abbrev cU8(b:UInt8):List D:=[.lit (.int .u8 (b.toNat:Int))]
abbrev cI64(n:Int):List D:=[.lit (.int .i64 n)]
abbrev cInt(k:IntKind)(n:Int):List D:=[.lit (.int k n)]
abbrev cStr(x:List UInt8):List D:=[.lit (.string ⟨⟨x⟩⟩)]
theorem zMc{α:Type}{c u:α->List D}(I:∀x,c x=u x)(l:List α):l.map u=l.map c:=by rw[show c=u from funext I]
abbrev cSl{α:Type}(k:Nat)(c:α->List D)(x:List α):List D:=[.seq k (x.map c)]
theorem RepA.turn{S S':Nat->A}{s:Nat}{x:A}(h:RepA m w o S s x v)(hb:∀b l,S b= .box l->∃U,S' b= .box U):RepA m w o S' s x v:=by(cases x with|ref b off=>obtain⟨g,Z,J,I⟩:=h;exact⟨g,Z,J,λu=>let⟨l,I⟩:=I u;hb b l I⟩|_=>exact h)
theorem WkA.box_of{l:List T}{y:A}(h:WkA (.box l) y)(hy:y≠ .any):∃u,y= .box u:=by(cases h with|refl=>grind|any=>grind|box h=>grind)
inductive WkE:Eff->Eff->Prop
 |nil:WkE [] []
 |cons {s:Nat} {x y:A} {l l':Eff} (h:WkA x y) (hy:y≠ .any) (t:WkE l l'):WkE ((s,x)::l) ((s,y)::l')
theorem WkE.appW{e J:Eff}(h:WkE e J):∀{S S':Nat->A},(∀s,WkA (S s) (S' s)/\∀l,S s= .box l->∃u,S' s= .box u)->∀s,WkA (app S e s) (app S' J s)/\∀l,app S e s= .box l->∃u,app S' J s= .box u:=by(induction h with|nil=>exactλh=>h| @cons t x y l u I hy _ U=>intro S S' Z;refine U λs=> ?_;show WkA (upd S t x s) (upd S' t y s)/\∀l,upd S t x s= .box l->∃u,upd S' t y s= .box u;unfold upd;by_cases e:s=t;(rw[if_pos e,if_pos e];exact⟨I,λl hl=>by subst hl;exact I.box_of hy⟩);grind)
theorem WkE.any{e u:Eff}(h:WkE e u):∀{S S':Nat->A},(∀s,S' s= .any->S s= .any)->∀s,app S' u s= .any->app S e s= .any:=by(induction h with|nil=>exactλh=>h| @cons t x y l Z I hy _ J=>intro S S' U;refine J λs=> ?_;show upd S' t y s= .any->upd S t x s= .any;unfold upd;grind)
theorem WkA.hp_of{x:A}{f:Nat->A}(h:WkA x (.hp f)):x= .hp f:=by cases h;rfl
theorem WkA.of_hp{f:Nat->A}{y:A}(h:WkA (.hp f) y):y= .hp f\/y= .any:=by cases h;(all_goals grind)
theorem hxW{S S':Nat->A}(h:∀s,WkA (S s) (S' s))(U:∀s,S' s= .any->S s= .any)(s:Nat):WkA (hx S s) (hx S' s):=by by_cases I:S s= .any;((have u:S' s= .any:=by have:=h s;rw[I]at this;exact this.of_any);unfold hx;rw[I,u];simp only;split;(have hk:=h HK;(cases J:S' HK with|hp f=>rw[J]at hk;rw[hk.hp_of];exact .refl _|_=>exact .any _));grind);(have u:S' s≠ .any:=λe=>I (U s e);rw[yM rfl I,yM rfl u];exact h s)
theorem OpH.weak{e e':Eff}(h:OpH P pins N op S (app S e))(he:WkE e e'):OpH P pins N op S (app S e'):=by intro β δ;obtain⟨h,U⟩:=h β δ;have Z:=he.appW (S:=S) (S':=S) (λs=>⟨.refl _,λl hl=>⟨l,hl⟩⟩);refine⟨λW m0 X G a w m o hN I K Q hK=> ?_,λt ht=>by have:=(Z t).1;rw[U t ht]at this;exact this.of_any⟩;refine h W m0 X G a w m o hN I K Q λa' w' m' o' α J=>hK a' w' m' o' α ?_;have ha:=he.any (S:=S) (S':=S) (λs h=>h);refine⟨J.same,J.sat,J.mono,J.old,J.own,J.lt,J.inj,J.pinned,λs=>(((hxW (λs=>(Z s).1) ha s).rep J.sat (J.slots s)).turn λb l hl=> ?_),J.defers,J.tbl,J.wide,J.shps⟩;have h1:=hxW (λs=>(Z s).1) ha b;rw[hl]at h1;refine h1.box_of λe0=> ?_;by_cases hs:app S e' b= .any;(have γ:=ha b hs;revert hl e0;unfold hx;rw[hs,γ];simp only;split;(have hk:=(Z HK).1;have ζ:=ha HK;(cases u:app S e' HK with|hp f=>rw[u]at hk;rw[hk.hp_of];grind|any=>grind|_=>(cases ε:app S e HK with|hp f=>rw[u,ε]at hk;rcases hk.of_hp with h|h<;>cases h|_=>grind)));grind);(rw[yM rfl hs]at e0;grind)
section
variable {P:Program}{pins:List Nat}{N:Nat}{ops:Array Oper}{Q:SL->Prop}{r:List Oper}{op:Oper}{L:SL}
theorem g0(u:op.guard=none):yes ops op L true:=by unfold yes;rw[u]
theorem gy{j t:Nat}{c u:Bool}(J:op.guard=some (j,u))(ht:(ops[j]?).bind (·.dst)=some t)(U:gt L t= .t (.d (.lit (.bool c))))(I:c=u):yes ops op L true:=by unfold yes;grind
theorem o_ofY{e:Eff}{L':SL}(hy:yes ops op L true)(h:OpY P pins N op (gt L) (app (gt L) e))(u:setL L e=L')(k:zCc P pins N ops Q r L'):zCc P pins N ops Q (op::r) L:=by subst u;refine⟨true,hy,?_⟩;rw[if_pos rfl];exact⟨setL L e,by show OpY _ _ _ _ _ (gt (setL L e));rw[zTH];exact h,k⟩
theorem o_of{e:Eff}{L':SL}(hy:yes ops op L true)(h:OpH P pins N op (gt L) (app (gt L) e))(u:setL L e=L')(k:zCc P pins N ops Q r L'):zCc P pins N ops Q (op::r) L:=o_ofY hy h.y u k
theorem o_s{d:Nat}(x:A)(hy:yes ops op L true)(hd:op.dst=some d)(u:okD N pins (gt L) d=true)(h:opF P pins false (gt L) d op.op=some (True,[(d,x)]))(k:zCc P pins N ops Q r ((d,x)::L)):zCc P pins N ops Q (op::r) L:=
 o_of hy (zPf (Mk.refl _) hd u h trivial) rfl k
theorem o_2{d s:Nat}(z x:A)(hy:yes ops op L true)(hd:op.dst=some d)(u:okD N pins (gt L) d=true)(h:opF P pins true (gt L) d op.op=some (True,[(s,z),(d,x)]))(k:zCc P pins N ops Q r ((d,x)::(s,z)::L)):zCc P pins N ops Q (op::r) L:=
 o_of hy (zPf (Mk.refl _) hd u h trivial) rfl k
theorem o_2c{d s:Nat}{z I x:A}{C:Prop}(hy:yes ops op L true)(hd:op.dst=some d)(u:okD N pins (gt L) d=true)(h:opF P pins false (gt L) d op.op=some (C,[(s,z),(d,I)]))(J:I=x)(U:C)(k:zCc P pins N ops Q r ((d,x)::(s,z)::L)):zCc P pins N ops Q (op::r) L:=by subst J;exact o_of hy (zPf (Mk.refl _) hd u h U) rfl k
theorem o_skip{j t d:Nat}{c u:Bool}(U:op.guard=some (j,u))(ht:(ops[j]?).bind (·.dst)=some t)(Z:gt L t= .t (.d (.lit (.bool c))))(J:c= !u)(hd:op.dst=some d)(I:okD N pins (gt L) d=true)(k:zCc P pins N ops Q r ((d,.tup [])::L)):zCc P pins N ops Q (op::r) L:=
 o_no U ht Z J hd I rfl k
theorem o_un{j t d:Nat}{u:Bool}(J:op.guard=some (j,u))(ht:(ops[j]?).bind (·.dst)=some t)(U:gt L t= .tup [])(hd:op.dst=some d)(I:okD N pins (gt L) d=true)(k:zCc P pins N ops Q r ((d,.tup [])::L)):zCc P pins N ops Q (op::r) L:=
 ops_un J ht U hd I k
end
section
variable {P:Program}{pins:List Nat}{N:Nat}{Q:Exit->SL->Prop}{L:SL}
theorem c_t{b:Bool}{c:Nat}{x y:Code}(hb:b=true)(u:gt L c= .t (.d (.lit (.bool b))))(hx:qG P pins N x Q L):qG P pins N (.cond (.tmp c) x y) Q L:=c_cond u (λ_=>hx) (λh=>by rw[h]at hb;cases hb)
theorem c_f{b:Bool}{c:Nat}{x y:Code}(hb:b=false)(u:gt L c= .t (.d (.lit (.bool b))))(hy:qG P pins N y Q L):qG P pins N (.cond (.tmp c) x y) Q L:=c_cond u (λh=>by rw[h]at hb;cases hb) (λ_=>hy)
end
def le:Nat->Nat->List UInt8
 |0,_=>[]
 |k+1,n=>UInt8.ofNat (n %256)::le k (n/256)
def be(k n:Nat):List UInt8:=(le k n).reverse
theorem zAZ:∀k n,(le k n).length=k
 |0,_=>rfl
 |k+1,n=>by simp[le,zAZ k]
theorem qO(k n:Nat):(be k n).length=k:=by simp[be,zAZ]
theorem zV6:∀k n,le (k+1) n=le k n++[UInt8.ofNat (n/256^k %256)]
 |0,n=>by simp[le]
 |k+1,n=>by rw[le,zV6 k (n/256),le,Nat.div_div_eq_div_mul,Nat.pow_succ,uQ 256];rfl
theorem be_succ(k n:Nat):be (k+1) n=UInt8.ofNat (n/256^k %256)::be k n:=by rw[be,zV6,List.reverse_append];rfl
def wid:Nat->Nat
 |0=>0
 |n+1=>wid ((n+1)/256)+1
 decreasing_by omega
theorem zO5:wid 0=0:=by rw[wid]
theorem zV8{n:Nat}(h:0<n):wid n=wid (n/256)+1:=by(cases n with|zero=>omega|succ n=>rw[wid])
theorem zIH:∀(k n:Nat),n<256^k↔wid n<=k
 |0,n=>by rcases tH n with h|h;subst h;simp[zO5];rw[zV8 h];grind
 |k+1,n=>by rcases tH n with h|h;subst h;simp[zO5,Nat.pow_pos];rw[zV8 h,Nat.add_le_add_iff_right,<-zIH k (n/256),Nat.pow_succ,Nat.div_lt_iff_lt_mul (by decide)]
theorem zHn{n:Nat}(h:n<=4611686018427387904):wid n<=8:=(zIH 8 n).1 (by omega)
def zC2(n:Nat):List UInt8:=be (wid n) n
theorem zMo(n:Nat):(zC2 n).length=wid n:=qO _ _
theorem zQ5(n:Nat):UInt8.ofNat (n %256)=0↔n %256=0:=by constructor;(intro h;have u:=congrArg UInt8.toNat h;rw[UInt8.toNat_ofNat']at u;grind);intro h;rw[h];rfl
theorem be_zero(k n:Nat)(h:wid n<=k):be (k+1) n=0::be k n:=by rw[be_succ];have:=(zIH k n).2 h;rw[sX this];rfl
theorem zW9(k n:Nat)(h:wid n=k+1):∃c,be (k+1) n=c::be k n/\c≠0:=by refine⟨_,be_succ k n,λu=> ?_⟩;have Z:=(zQ5 _).1 u;(have J:¬n<256^k:=λhl=>by have:=(zIH k n).1 hl;omega);have I:n<256^(k+1):=(zIH (k+1) n).2 (by omega);(have U:n/256^k<256:=by rw[Nat.div_lt_iff_lt_mul (Nat.pow_pos (by decide)),uQ,<-Nat.pow_succ];exact I);have W:0<n/256^k:=Nat.div_pos (by omega) (Nat.pow_pos (by decide));omega
section
variable {P:Program}{pins:List Nat}{N:Nat}{S M:Nat->A}
theorem ok_mf{d f:Nat}(J:op.op= .makeFunc (.func f) #[] #[])(hd:op.dst=some d)(u:okD N pins S d=true):OpOK P pins N op S (upd S d (.t (.d (.lit (.func (.func f) #[] #[]))))):=by refine zL λW Q X G a w m o U I=> ?_;obtain⟨k1,k2,k3⟩:=zP u;refine⟨.func (.func f) #[] #[],w,m,o,?_,by rw[hd];exact I.set d _ _ (by omega) k2 (.lit _ rfl)⟩;unfold execOp;rw[J];simp[Instr.makeFunc]
theorem ok_b0{d t e sz nb:Nat}(α:op.op= .buildSlice t 0 #[])(hd:op.dst=some d)(U:okD N pins S d=true)(hE:elF P t=some (e,sz,nb)):OpOK P pins N op S (upd S d (.t (.own e sz []))):=by refine zL λW Q X G a w m o hN I=> ?_;obtain⟨h1,h2,h3⟩:=zP U;have E:=zNv hE;obtain⟨i,z,hi,hz,rfl,rfl,β⟩:=E.info;(have J:Own (w.alloc (.cells #[] e)) 0 e i.size (some ⟨w.heap.size,0,none⟩) 0 0 []:=by have:=Own.lit (B:=0) w #[] e i.size 0 (vI _) (by unfold maxLen;omega) (by simp);grind);refine⟨.slice (some ⟨w.heap.size,0,none⟩) 0 0,w.alloc (.cells #[] e),_,_,?_,by rw[hd];refine I.own_put d _ _ (λp=>([]:List Value)[p]?) w.heap.size _ (by omega) h2 h3 (I.free (wL _)) (I.newG (wL _)) ((Same.alloc (λ_=>False) w _).weaken (λ_ h=>h.elim)) (by simp) (λp u h=>by rw[I.mem_none (wL _)]at h;cases h) (λp u hp=>Own.cellAt J rfl hp) ?_;exact⟨some ⟨w.heap.size,0,none⟩,0,[],rfl,zEL J,λg Z=>by injection Z with Z;subst Z;exact⟨qT _ _ _,λp _=>zKF _ _ _ _⟩,λi r h=>by simp at h,λi r j d h=>by simp at h⟩⟩;unfold execOp;rw[α];simp[Instr.buildSlice,run_underlying E.under,sizeOf,typeInfo,hi,Instr.fill,newRow];grind
def eqV:Value->Value->TypeDesc->Option Bool
 | .int k a,.int u b,.int _=>if k=u then some (a==b)else none
 | .bool a,.bool b,.bool=>some (a==b)
 | .string a,.string b,.string=>some (a.toList==b.toList)
 |_,_,_=>none
def eqFs(P:Program):List Field->List D->List D->Option Bool
  |[],_,_=>some true
  |f::fs,xs,ys=>if f.name= "_" then none else match xs[f.offset]?,ys[f.offset]?,P.underlying f.type,P.info? f.type with
    |some (.lit u),some (.lit v),some t,some i=>if i.size=1/\TypeDesc.aggr t=false then match eqV u v t,eqFs P fs xs ys with
      |some b,some c=>some (b&&c)
      |_,_=>none
      else none
    |_,_,_,_=>none
theorem eqV_run{u:Value}{I:TypeDesc}{b:Bool}(h:eqV u v I=some b){t:TypeId}(ht:P.underlying t=some I)(w:World)(d:Nat):(Op.equalIn (d+1) t u v).run P w= .ok b w:=by unfold eqV at h;split at h;(split at h;(rename_i hk;subst hk;injection h with h;rw[run_equalIn_int w d t _ _ _ _ ht,h]);cases h);(injection h with h;rw[run_equalIn_bool w d t _ _ ht,h]);(injection h with h;rw[run_equalIn_string w d t _ _ ht,h]);cases h
theorem zW0{t:TypeId}{I:TypeDesc}{i:TypeInfo}(ht:P.underlying t=some I)(hi:P.info? t=some i)(Z:i.size=1)(J:TypeDesc.aggr I=false){xs:Array Value}{off:Nat}{u:Value}(U:xs[off]? =some u)(w:World):(part t xs off).run P w= .ok u w:=by simp[part,zUm ht,J,U]
theorem zWu{xs Z:List D}{U vs:Array Value}(hx:RepL m xs U.toList)(hy:RepL m Z vs.toList)(w:World)(d:Nat):∀(fs:List Field) (b:Bool),eqFs P fs xs Z=some b->(Op.eqFields (d+1) U vs fs).run P w= .ok b w
 |[],b,h=>by cases h;rfl
 |f::fs,b,h=>by unfold eqFs at h;split at h;cases h;rename_i hn;split at h;(case h_2=>cases h);rename_i u v t i h1 h2 J W;split at h;(case isFalse=>cases h);rename_i I;split at h;(case h_2=>cases h);rename_i b1 c h5 h6;cases h;have ih:=zWu hx hy w d fs c h6;obtain⟨u',k1,k2⟩:=hx.2 _ _ h1;obtain⟨v',k3,k4⟩:=hy.2 _ _ h2;cases k2;cases k4;simp only[Op.eqFields,if_pos hn,wE,zW0 J W I.1 I.2 (by simpa using k1) w,zW0 J W I.1 I.2 (by simpa using k3) w,wC,eqV_run h5 J w d];cases b1;rfl;grind
def eqS(P:Program)(M:Nat->A)(t:TypeId)(x y:Operand):Option Bool:=match cpO M x,cpO M y with
 | .t (.agg xs),.t (.agg I)=>match P.underlying t with|some (.struct u)=>if P.stoodInHeld t=false/\P.eqGuardType P.depth t=false then eqFs P u.toList xs I else none|_=>none
 |_,_=>none
theorem ok_eqs(hM:Mk M S){U:BinOp}{d t yt:Nat}{x y:Operand}(ng:Bool)(hb:U=bif ng then .neq else .eql)(α:op.op= .binOp U t x y yt)(hd:op.dst=some d)(β:okD N pins S d=true){b:Bool}(h:eqS P M t x y=some b):OpOK P pins N op S (upd S d (.t (.d (.lit (.bool (ng^^b)))))):=by refine zL λW Q X G a w m o hN I=> ?_;obtain⟨k1,k2,k3⟩:=zP β;unfold eqS at h;split at h;(case h_2=>cases h);rename_i xs ys hx hy;split at h;(case h_2=>cases h);rename_i fs hu;split at h;(case isFalse=>cases h);rename_i hc;have ex:=zW hM I x 0;have ey:=zW hM I y 0;rw[hx]at ex;rw[hy]at ey;obtain⟨us,e1,r1⟩:=ex;obtain⟨Z,e2,r2⟩:=ey;(have hf:P.fieldsOf t=fs:=by unfold Program.fieldsOf;rw[hu]);have u:=zWu (P:=P) r1 r2 w 9998 fs.toList b h;have J:=run_equalIn_agg (P:=P) w 9999 t us Z (by rw[hf];exact hu) hc.1;rw[hf]at J;refine⟨.bool (ng^^b),w,m,o,?_,by rw[hd];exact I.set d _ _ (by omega) k2 (.lit _ rfl)⟩;unfold execOp;rw[α];simp only[wE];rw[e1,e2,run_eqGuard_agg w U t x y us Z hc.2,wC];subst hb;cases ng;(show Result.andThen ((binOp .eql t (.agg us) (.agg Z)).run P w) _=_;rw[run_eql_struct,J,u];simp);(show Result.andThen ((binOp .neq t (.agg us) (.agg Z)).run P w) _=_;rw[run_neq_struct,J,u];simp)
end
section
variable {P:Program}{pins:List Nat}{N:Nat}{ops:Array Oper}{Q:SL->Prop}{r:List Oper}{op:Oper}{L:SL}
theorem o_b0{d t e sz Z:Nat}(x:A)(hy:yes ops op L true)(I:op.op= .buildSlice t 0 #[])(hd:op.dst=some d)(u:okD N pins (gt L) d=true)(U:elF P t=some (e,sz,Z))(hx:A.t (.own e sz [])=x)(k:zCc P pins N ops Q r ((d,x)::L)):zCc P pins N ops Q (op::r) L:=by subst hx;exact o_of (e:=[(d,_)]) hy (.of (e:=[(d,_)]) λJ=>⟨ok_b0 I hd (qA J u) U,zAr (zX J u)⟩) rfl k
end
section
variable {P:Program}{pins:List Nat}{N:Nat}
theorem ops_tail{F:Fence}{n:Nat}(hF:zJJ F){ops:Array Oper}{Q:SL->Prop}{u:List Oper}{R:Exit->Act->World->Prop}(hQ:∀L a w,Q L->St W m0 X G pins N L a w->wpListIn F n P ops R u a w):∀(l:List Oper) (L:SL) (a:Act) (w:World),zCc P pins N ops Q l L->St W m0 X G pins N L a w->wpListIn F n P ops R (l++u) a w:=by intro l;(induction l with|nil=>intro L a w h hS;exact hQ L a w h hS|cons op r ih=>intro L a w h hS;obtain⟨b,hy,hb⟩:=h;refine wpListIn_step λK hK=> ?_;rw[zRi hy hS];(cases b with|true=>rw[if_pos rfl]at hb⊢;obtain⟨L',J,hr⟩:=hb;obtain⟨hN,α,m,o,I⟩:=hS;obtain⟨J,β⟩:=J (by rw[<-hN];exact I.wide) α;exact J F n hF W m0 X G a w m o hN I _ _ λa' w' m' o' γ I'=>hK _ _ (ih L' a' w' hr ⟨γ,β,m',o',I'⟩)|false=>rw[if_neg (by simp)]at hb⊢;obtain⟨d,hd,U,hr⟩:=hb;obtain⟨hN,α,m,o,I⟩:=hS;(have Z:N<=OB:=by rw[<-hN];exact I.wide);obtain⟨h1,h2,h3⟩:=zP (qA Z U);refine⟨λf _=>hF.fn f,hK _ _ (ih _ _ w hr ⟨by rw[zAK,hN],by rw[zQ];exact α.upd (by have:=zX Z U;unfold OB at this;unfold OB2;omega),m,o,?_⟩)⟩;rw[hd,zQ,zQC (.inl (zX Z U))];exact I.set d (.tup []) undef (by omega) h2 ⟨#[],rfl,rfl,λj x h=>by simp at h⟩))
theorem c_nil{id:Nat}{l1:List Oper}{d t yt e k:Nat}{x:Operand}{l:List (List D)}{Q:Exit->SL->Prop}(δ:op.op= .binOp .eql t x (.const (.slice none 0 0)) yt)(hg:op.guard=none)(hd:op.dst=some d)(ht:P.underlying t=some (.slice e))
(h:zCc P pins N (l1++[op]).toArray (λZ=>okD N pins (gt Z) d=true/\dO (gt Z) x=some (.seq k l)/\∀b:Bool,(b=true->l=[])->Q .normal ((d,.t (.d (.lit (.bool b))))::Z)) l1 L):qG P pins N (.region id (l1++[op]).toArray false) Q L:=by
 intro Fe ne hF W m0 X G a w hS
 refine wpIn_region_lit (ops_tail hF.w (λZ a w hq hS=> ?_) l1 L a w h hS)
 obtain⟨u,γ,hb⟩:=hq
 obtain⟨hN,ζ,m,o,I⟩:=hS
 have J:N<=OB:=by rw[<-hN];exact I.wide
 obtain⟨h1,h2,h3⟩:=zP (qA J u)
 refine wpListIn_step λK hK=> ?_
 have hw:Region.wanted op (yielded (l1++[op]).toArray a.tmps)=true:=by unfold Region.wanted;rw[hg]
 rw[hw,if_pos rfl]
 have hr:=zGF (Mk_hx _) I γ
 have key:∀v,RepD m (.seq k l) v->∃b:Bool,(b=true->l=[])/\∀y:Operand,(do eqGuard .eql t x y v (.slice none 0 0);binOp .eql t v (.slice none 0 0)).run P w= .ok (.bool b) w:=by intro v hv;(cases hv with|seq _ _ A' cap g o f η θ hA hw hm hr=>refine⟨A'.isNone,λhb=> ?_,λy=> ?_⟩;grind;((have α:(eqGuard .eql t x y (.slice A' l.length cap) (.slice none 0 0)).run P w= .ok () w:=by unfold eqGuard;rfl);rw[wE,α,wC];exact Go.Lib.run_eql_slice_nil w t e A' _ cap 0 0 ht))
 obtain⟨b,β,U⟩:=key _ hr
 refine op_in hF.w ?_
 unfold Oper.wp
 have ε:(execOp a.eval op).run P w= .ok (.value (.bool b)) w:=by unfold execOp;rw[δ];have:=U (.const (.slice none 0 0));show Sem.run P (do pure (Next.value (<-(do eqGuard .eql t x (.const (.slice none 0 0)) (a.eval x) (.slice none 0 0);binOp .eql t (a.eval x) (.slice none 0 0))))) w=_;rw[wE,this];rfl
 rw[ε]
 refine⟨by rw[hd];rfl,hK _ _ (wpListIn_nil ⟨_,hb b β,by rw[zAK,hN],by rw[zQ];exact ζ.upd (by have:=zX J u;unfold OB at this;unfold OB2;omega),m,o,?_⟩)⟩
 rw[hd,zQ,zQC (.inl (zX J u))]
 exact I.set d _ _ (by omega) h2 (.lit _ rfl)
end
theorem andE{a b c d:Bool}(h:a=b)(k:c=d):(a&&c)=(b&&d):=by rw[h,k]
def zBw(l:List UInt8):Option (List UInt8):=appI 1 [] l
def zAG(n size:Int):Option (List UInt8×Int):=if 0<=n/\n<=4611686018427387904/\1<=size/\size<=8/\n.toNat<256^size.toNat then some (be size.toNat n.toNat,0)else none
abbrev D.i(z:Int):D:= .lit (.int .i64 z)
abbrev T.i(z:Int):T:= .d (.lit (.int .i64 z))
abbrev A.i(z:Int):A:= .t (.d (.lit (.int .i64 z)))
abbrev D.b(z:Bool):D:= .lit (.bool z)
abbrev T.b(z:Bool):T:= .d (.lit (.bool z))
abbrev A.b(z:Bool):A:= .t (.d (.lit (.bool z)))
abbrev D.s(z:List UInt8):D:= .lit (.string ⟨⟨z⟩⟩)
abbrev T.s(z:List UInt8):T:= .d (.lit (.string ⟨⟨z⟩⟩))
abbrev A.s(z:List UInt8):A:= .t (.d (.lit (.string ⟨⟨z⟩⟩)))
abbrev D.y(z:List UInt8):D:= .seq 1 (zV z)
abbrev T.y(z:List UInt8):T:= .d (.seq 1 (zV z))
abbrev A.y(z:List UInt8):A:= .t (.d (.seq 1 (zV z)))
abbrev D.n:D:= .lit (.slice none 0 0)
abbrev T.n:T:= .d (.lit (.slice none 0 0))
abbrev A.n:A:= .t (.d (.lit (.slice none 0 0)))
theorem WkD.r{x:D}:WkD x x:= .refl _
theorem WkT.r{x:T}:WkT x x:= .refl _
theorem WkA.r{x:A}:WkA x x:= .refl _
theorem k1{K:SL->Prop}{Q:Exit->SL->Prop}(h:K L):zIi K Q .normal L:=h
theorem k2{K:SL->Prop}{Q:Exit->SL->Prop}{i:Nat}(h:Q (.exit i) L):zIi K Q (.exit i) L:=h
theorem k3{K:SL->Prop}{Q:Exit->SL->Prop}(h:Q .ret L):zIi K Q .ret L:=h
theorem k4{i:Nat}{Q:Exit->SL->Prop}(h:Q .normal L):zN1 i Q .normal L:=h
theorem k5{i:Nat}{Q:Exit->SL->Prop}(h:Q .ret L):zN1 i Q .ret L:=h
theorem k6{i:Nat}{Q:Exit->SL->Prop}(h:Q .normal L):zN1 i Q (.exit i) L:=zYF h
def frzD:T->D
 | .d x=>x
 | .own _ k l=> .seq k l
 |_=>default
section
variable {w0:World}{m0:Mem}{o0:OwnM}{G:GD}{pins:List Nat}{S M:Nat->A}{a:Act}{w:World}{m:Mem}{o:OwnM}{P:Program}{N:Nat}
theorem Inv.freeze(I:Inv w0 m0 o0 G pins S a w m o)(s:Nat)(W:s<OB)(hs:s∉pins){l:List T}(hpt:noPt l=true)(Z:S s= .box l)(α:∀t off,S t≠ .ref s off):∃m' o',Inv w0 m0 o0 G pins (upd S s (.imm (l.map frzD))) a w m' o':=by have hb:=I.slots s;rw[Z]at hb;obtain⟨g,e,h1,h2,cs,E,h3,h4,h5⟩:=hb;(have hk:∀b l,(λb=>if(o b).map (·.1)=some s then none else o b) b=some l->l.1≠s/\o b=some l:=by grind);(have J:∀b l,o b=some l->l.1≠s->(if(o b).map (·.1)=some s then none else o b)=some l:=λb l h hn=>by rw[h,if_neg (by simpa using hn)]);(have K:Keep (λl=>l.1=s) m w o (newM m g λp=>cs[p]?) w (λb=>if(o b).map (·.1)=some s then none else o b):=by refine⟨λb p u h=> ?_,λb l h hn=> ?_,λ_ _ _ _=>rfl,λb l h hn=>J b l h hn,λb j h=>J b _ h (zLu W),λb t k _ h=>⟨b,k,(hk b _ h).2⟩,λb j _=> .of_eq rfl⟩;(unfold newM;grind);((have:b≠g:=λe=>by grind);funext p;unfold newM;grind));refine⟨_,_,⟨I.same,λb p u h=> ?_,I.mono.trans K.mle,λb hb hg=> ?_,λb l h=>I.own b l (hk b l h).2,λb l h=>I.lt b l (hk b l h).2,λb b' l h h'=>I.inj b b' l (hk b l h).2 (hk b' l h').2,λp hp b hb=> ?_,λt=> ?_,I.defers,I.tbl,I.wide,I.shps⟩⟩;(unfold newM at h;split at h;(rename_i hb;subst hb;unfold World.cell?;grind);exact I.sat b p u h);((have:b≠g:=λe=>by subst e;rcases I.own b _ h1 with h|h;(all_goals grind));rw[<-I.old b hb hg];funext p;unfold newM;grind);(exact J b _ (I.pinned p hp b hb) λe=>hp.elim (λhp=>hs (by rw[<-e];exact hp)) λhp=>by have e:p=s:=e;omega);(by_cases ht:t=s;(subst ht;rw[zK];refine⟨g,0,e W,λj d hj=> ?_⟩;rw[wG]at hj;(cases hx:l[j]? with|none=>grind|some x=>rw[hx]at hj;cases hj;obtain⟨ha,u,hu,hr⟩:=h5 j x hx;refine⟨u,by rw[vF,zAY];exact hu,?_⟩;refine RepD.mono K.mle ?_;(cases x with|d y=>exact hr|agg l=>cases ha|own E k l=>exact zEn I.sat hr|ptr=>exact absurd (zCK hpt hx) (by simp[T.isPt])|view=>exact absurd (zCK hpt hx) (by simp[T.isPt])|hpt=>exact absurd (zCK hpt hx) (by simp[T.isPt])|opt=>exact absurd (zCK hpt hx) (by simp[T.isPt])|hvw=>exact absurd (zCK hpt hx) (by simp[T.isPt])|mpt=>exact absurd (zCK hpt hx) (by simp[T.isPt])|ags l1 β=>cases ha|xs E k l rv=>exact absurd (zCK hpt hx) (by simp[T.isPt])|any=>exact absurd (zCK hpt hx) (by simp[T.isPt]))));(rw[zE ht];refine RepA.keep K (λj e=>ht e) (λb off e _=> ?_) (I.slots t);have U:b≠s:=λe'=>α t off (by rw[e,e']);exact⟨U,λ⟨l,hl⟩=>⟨l,by rw[zE U,hl]⟩⟩))
def zLP(s:Nat):SL->Bool
 |[]=>true
 |(_,x)::r=>(match x with| .ref b _=>b !=s|_=>true)&&zLP s r
theorem zRj{s:Nat}(h:zLP s L=true)(t off:Nat):gt L t≠ .ref s off:=by(induction L with|nil=>intro h;cases h|cons x r I=>obtain⟨u,y⟩:=x;simp only[zLP,wH]at h;rw[zQ,upd];grind)
theorem st_fz{L L':SL}(s:Nat){l:List T}{z:A}(hb:gt L s= .box l)(hp:(pins.contains s|| !Nat.blt s OB)=false)(U:(zLP s L&&noPt l)=true)(hz:A.imm (l.map frzD)=z)(hL:(s,z)::L=L')(Z:St w0 m0 o0 G pins N L a w):St w0 m0 o0 G pins N L' a w:=by subst hz hL;obtain⟨W,u,m,o,I⟩:=Z;rw[sC]at hp;rw[wH]at U;obtain⟨m',o',J⟩:=I.freeze s (by simpa using hp.2) (by simpa using hp.1) U.2 (yM hb (by simp)) (λt off e=>zRj U.1 t off (hx_ref e));exact⟨W,by rw[zQ];exact u.upd (lt2 (by simpa using hp.2)),m',o',by rw[zQ,zQC (.inl (by simpa using hp.2))];exact J⟩
def capsF(M:Nat->A):List Operand->Option (List (List D))
 |[]=>some []
 |x::r=>match cpO M x,capsF M r with| .imm l,some k=>some (l::k)|_,_=>none
theorem zTx(J:Mk M S)(I:Inv w0 m0 o0 G pins S a w m o):∀{xs:List Operand} {u:List (List D)},capsF M xs=some u->xs.length=u.length/\∀i l,u[i]? =some l->RepA m w o S 0 (.imm l) ((xs.map a.eval).getD i undef)
 |[],u,h=>by injection h with h;subst h;exact⟨rfl,λi l h=>by simp at h⟩
 |x::r,u,h=>by unfold capsF at h;split at h;(case h_2=>cases h);rename_i l k h1 U;cases h;obtain⟨k1,k2⟩:=zTx J I U;refine⟨by simpa using k1,λi W Z=> ?_⟩;(cases i with|zero=>cases Z;have:=zW J I x 0;grind|succ i=>grind)
theorem clo_rep{f:FuncId}{I:List (List D)}{J:Array Value}(Z:J.size=I.length)(h:∀(i:Nat) (l:List D),I[i]? =some l->∃g p,J[i]? =some (Value.pointer (some ⟨g,p,none⟩))/\∀(j:Nat) (d:D),l[j]? =some d->∃u,m g (p+j)=some u/\RepD m d u):RepD m (.clo f I) (.func (.func f) #[] J):=by(have H:∀i:Nat,∃x:Nat×Nat,∀l:List D,I[i]? =some l->J[i]? =some (Value.pointer (some ⟨x.1,x.2,none⟩))/\∀(j:Nat) (d:D),l[j]? =some d->∃u,m x.1 (x.2+j)=some u/\RepD m d u:=by intro i;(cases hc:I[i]? with|none=>exact⟨(0,0),λl h=>by cases h⟩|some l=>obtain⟨g,p,h1,W⟩:=h i l hc;exact⟨(g,p),λl' h=>by injection h with h;subst h;exact⟨h1,W⟩⟩));refine .clo f I J (λi=>(H i).choose.1) (λi=>(H i).choose.2) (λi j=>(m (H i).choose.1 ((H i).choose.2+j)).getD undef) Z (λi r U=>((H i).choose_spec r U).1) (λi r j d U hd=> ?_) (λi r j d U hd=> ?_);(all_goals grind)
theorem ok_mfc(hM:Mk M S){d f:Nat}{xs:List Operand}(Z:op.op= .makeFunc (.func f) #[] xs.toArray)(hd:op.dst=some d)(U:okD N pins S d=true){u:List (List D)}(hc:capsF M xs=some u):OpOK P pins N op S (upd S d (.t (.d (.clo f u)))):=by refine zL λw0 m0 o0 G a w m o hN I=> ?_;obtain⟨k1,k2,k3⟩:=zP U;obtain⟨c1,c2⟩:=zTx hM I hc;(have J:RepD m (.clo f u) (.func (.func f) #[] (xs.map a.eval).toArray):=by refine clo_rep (by simpa using c1) λi l W=> ?_;(have α:i<xs.length:=by rw[c1];exact(wF.1 W).1);obtain⟨g,p,e,h⟩:=c2 i l W;grind);refine⟨.func (.func f) #[] (xs.map a.eval).toArray,w,m,o,?_,by rw[hd];exact I.set d _ _ (by omega) k2 J⟩;unfold execOp;rw[Z];simp[Instr.makeFunc]
theorem ok_callc(hM:Mk M S){d f:Nat}{xs:List Operand}{ts:Array TypeId}{fx:Operand}{caps:List (List D)}(hop:op.op= .call {callee:= .value fx,args:=xs.toArray,argTypes:=ts})(hfx:dO M fx=some (.clo f caps))(hd:op.dst=some d)(hok:okD N pins S d=true){fn:Func}(hfn:P.funcs[f]? =some fn)(hbody:fn.body.isNone=false)(hname:(fn.name== "runtime.NumGoroutine")=false){args:List A}{r:A}(hargs:zIB (xs.map (cpO M)) args)(hp:args.all A.plain=true)(hf:FC P f (args++caps.map A.imm) [] r)(hnr:r.noRef=true):OpOK P pins N op S (upd S d r):=by
 intro w0 m0 o0 G a w m o hN I K Q hK
 obtain⟨h1,h2,h3⟩:=zP hok
 have key:∀(xs:List Operand) (args:List A),zIB (xs.map (cpO M)) args->(xs.map a.eval).length=args.length/\∀i x,args[i]? =some x->∃s,RepA m w o S s x ((xs.map a.eval).getD i undef):=by intro xs;(induction xs with|nil=>intro args h;cases h;exact⟨rfl,λi x h=>by simp at h⟩|cons y ys ih=>intro args h;(cases h with|cons hx ht=>obtain⟨k1,k2⟩:=ih _ ht;refine⟨by simpa using k1,λi x hi=> ?_⟩;(cases i with|zero=>injection hi with hi;subst hi;exact⟨0,hx.rep I.sat (zW hM I y 0)⟩|succ i=>simpa using k2 i x (by simpa using hi))))
 obtain⟨k1,k2⟩:=key xs args hargs
 have hfv:=zGF hM I hfx
 generalize hfe:a.eval fx=fv at hfv
 cases hfv with
  |clo _ _ ptrs g p fu q1 q2 q3 q4=>
   have hpl:(args++caps.map A.imm).all A.plain=true:=by rw[List.all_append,hp,Bool.true_and,wI];intro x hx;obtain⟨l,_,rfl⟩:=vW.1 hx;rfl
   have hc:=zR4 I hf hpl (vals:=(xs.map a.eval).toArray++ptrs) (by simp[q1];simpa using k1) (λi x hi=>by rw[tX]at hi;rw[wJ,sV];split at hi;(rename_i hlt;rw[if_pos (by simp at k1⊢;omega)];have:=k2 i x hi;simpa[wK]using this);(rename_i hlt;rw[if_neg (by simp at k1⊢;omega)];rw[wG]at hi;(cases hc:caps[i-args.length]? with|none=>rw[hc]at hi;cases hi|some l=>rw[hc]at hi;cases hi;(have e:i-(xs.map a.eval).toArray.size=i-args.length:=by simp at k1⊢;omega);rw[e,q2 _ l hc];(exact⟨0,g _,p _,rfl,λj d hj=>⟨_,q3 _ l j d hc hj,q4 _ l j d hc hj⟩⟩)))) (d:=d) (by omega) h2 h3 hnr
   unfold Oper.wp
   have hrun:(execOp a.eval op).run P w= .ok (.enter f ((xs.map a.eval).toArray++ptrs)) w:=by unfold execOp;rw[hop];simp only[resolve,hfe,Deferred.ofValue,wU];(have hb:fn.body≠none:=λe=>by rw[e]at hbody;cases hbody);(have hn:fn.name≠ "runtime.NumGoroutine" :=λe=>by rw[e]at hname;simp at hname);simp[invoke,callFunc,hfn,hn,hb]
   rw[hrun]
   refine Calls.mono hc ?_
   rintro e w' ⟨u,m',o',rfl,J⟩
   rw[<-hd]at J
   exact hK _ _ _ _ (by rw[zAK,hN]) J
end
section
variable {w0:World}{m0:Mem}{o0:OwnM}{G:GD}{pins:List Nat}{S M:Nat->A}{a:Act}{w:World}{m:Mem}{o:OwnM}{P:Program}{N:Nat}
theorem Inv.dropPart(I:Inv w0 m0 o0 G pins S a w m o){s i E k:Nat}{l:List T}{ls:List (List D)}(hb:S s= .tup l)(hl:l[i]? =some (.own E k ls)):
  ∃o',Inv w0 m0 o0 G pins (upd S s (.tup (l.set i (.d (.seq k ls))))) a w m o'/\(∀g x,o' g=some x->x≠(s,i+1)/\o g=some x):=by
 have hk:∀g x,(λg=>if o g=some (s,i+1)then none else o g) g=some x->x≠(s,i+1)/\o g=some x:=by
  intro g x h
  simp only at h
  split at h
  · cases h
  ·
   rename_i hn
   exact⟨λe=>hn (by rw[h,e]),h⟩
 have K:Keep (λx=>x=(s,i+1)) m w o m w (λg=>if o g=some (s,i+1)then none else o g):=
  ⟨Mle.refl _,λ_ _ _ _=>rfl,λ_ _ _ _=>rfl,λg x h hn=>by
   show(if o g=some (s,i+1)then none else o g)=_
   rw[h,if_neg (by simpa using hn)],λg j h=>by
   show(if o g=some (s,i+1)then none else o g)=_
   rw[h,if_neg (by intro e;injection e with e;injection e with _ e;omega)],λg s k _ h=>⟨g,k,(hk g _ h).2⟩,λg _ _=> .of_eq rfl⟩
 refine⟨_,⟨I.same,I.sat,I.mono,I.old,λg x h=>I.own g x (hk g x h).2,λg x h=>I.lt g x (hk g x h).2,λg g' x h h'=>I.inj g g' x (hk g x h).2 (hk g' x h').2,λp hp g hg=> ?_,λt=> ?_,I.defers,I.tbl,I.wide,I.shps⟩,hk⟩
 · exact K.own g _ (I.pinned p hp g hg) (λe=>by injection e with _ e;omega)
 ·
  have h:=I.slots t
  by_cases e:t=s
  ·
   subst e
   rw[hb]at h
   rw[zK]
   obtain⟨vs,e1,h1,h2⟩:=h
   refine⟨vs,e1,by simpa using h1,λj x Z=> ?_⟩
   rw[uS]at Z
   split at Z
   ·
    rename_i e
    subst e
    split at Z
    ·
     cases Z
     obtain⟨u,h6,W⟩:=h2 i _ hl
     exact⟨u,h6,zEn I.sat W⟩
    · cases Z
   ·
    rename_i e
    obtain⟨u,W,h8⟩:=h2 j x Z
    exact⟨u,W,h8.keep K (λJ=>by injection J with _ J;omega)⟩
  ·
   rw[zE e]
   refine RepA.keep K (λj J=>by injection J with J _;exact e J) (λb' α he _=>⟨λJ=>by injection J with _ J;omega,λ⟨l',U⟩=> ?_⟩) h
   have:b'≠s:=λe3=>by subst e3;rw[hb]at U;cases U
   exact⟨l',by rw[zE this,U]⟩
theorem ok_xt{s i d E k:Nat}{l:List T}{W:List (List D)}(ζ:op.op= .extract (.tmp s) i)(hb:S s= .tup l)(hl:l[i]? =some (.own E k W))(α:(s==d)=false)(hd:op.dst=some d)(κ:okD N pins S d=true):
 OpOK P pins N op S (app S [(s,.tup (l.set i (.d (.seq k W)))),(d,.t (.own E k W))]):=by
 refine zL λw0 m0 o0 G a w m o hN I=> ?_
 obtain⟨h1,h2,h3⟩:=zP κ
 have α:s≠d:=by simpa using α
 have hs:=I.slots s
 rw[hb]at hs
 obtain⟨vs,e,k1,k2⟩:=hs
 obtain⟨u,k3,U⟩:=k2 i _ hl
 have U:zGv m w o (s,i+1) E k W u:=U
 obtain⟨o1,I2,ι⟩:=I.dropPart hb hl
 have Z:(upd S s (.tup (l.set i (.d (.seq k W)))) d).isBox=false:=by rw[zE (Ne.symm α)];exact h2
 suffices h:∃m' o',Inv w0 m0 o0 G pins (app S [(s,.tup (l.set i (.d (.seq k W)))),(d,.t (.own E k W))]) (a.put (some d) u) w m' o' by obtain⟨m',o',h⟩:=h;refine⟨u,w,m',o',?_,by rw[hd];exact h⟩;unfold execOp;rw[ζ];simp only[wE];rw[show a.eval (.tmp s)=_ from e];simp[Instr.extract,k3]
 obtain⟨A',cap,xs,e,J,η,δ,γ⟩:=U
 rw[e]
 show∃m' o',Inv w0 m0 o0 G pins (upd (upd S s (.tup (l.set i (.d (.seq k W))))) d (.t (.own E k W))) _ w m' o'
 rcases zDc (w:=w) (e:=E) (sz:=k) (n:=W.length) (c:=cap) (xs:=xs) (by rw[e]at J;exact J)with rfl|⟨g,q,rfl⟩
 · refine⟨m,o1,I2.set d _ _ (by omega) Z ⟨none,cap,xs,rfl,by rw[e]at J;exact J,λg hg=>(by cases hg),δ,γ⟩⟩
 · obtain⟨hg,hm⟩:=η g rfl;have ε:=I.lt g _ hg;refine⟨_,_,I2.own_put d _ _ (λp=>m g p) g w (by omega) Z h3 (λx hx=> ?_) (I.own g _ hg) (Same.refl _ _) ε (λp u h=>h) (λp u h=>I.sat g p u h) ?_⟩;(obtain⟨q1,q2⟩:=ι g x hx;rw[hg]at q2;injection q2 with q2;exact absurd q2.symm q1);((have θ:newM m g (λp=>m g p)=m:=by funext b p;unfold newM;split;rename_i e;rw[e];rfl);rw[θ];exact⟨some ⟨g,q,none⟩,cap,xs,rfl,by rw[e]at J;exact J,λg' β=>by injection β with β;subst β;exact⟨qT _ _ _,hm⟩,δ,γ⟩)
def mkI(u:Nat)(n:Int):Option Nat:=if 0<=n/\(u:Int)*n<=281474976710656/\n<=140737488351232 then some n.toNat else none
theorem mkI_iff{u q:Nat}{n:Int}(h:mkI u n=some q):0<=n/\(u:Int)*n<=281474976710656/\n<=140737488351232/\q=n.toNat:=by unfold mkI at h;grind
theorem ok_mko(hM:Mk M S){d t e sz nb q:Nat}{xn xc:Operand}{kl kc:IntKind}{n:Int}{ie:TypeInfo}{z:Value}(δ:op.op= .makeSlice t xn xc)(hn:vO M xn=some (.int kl n))(hc:vO M xc=some (.int kc n))(hE:elF P t=some (e,1,nb))(α:P.info? e=some ie)(hz:ie.zero=some z)(ε:z.cells= #[z])(ζ:z.oneCell'=true)
(hq:mkI nb n=some q)(hd:op.dst=some d)(ι:okD N pins S d=true):
 OpOK P pins N op S (upd S d (.t (.own e 1 (List.replicate q [.lit z])))):=by
 obtain⟨q1,q2,q3,rfl⟩:=mkI_iff hq
 refine zL λw0 m0 o0 G a w m o hN I=> ?_
 obtain⟨h1,h2,h3⟩:=zP ι
 have E:=zNv hE
 obtain⟨i,z',U,β,θ,κ,μ⟩:=E.info
 rw[α]at U
 cases U
 rw[hz]at β
 cases β;subst κ
 have Z:=run_make (P:=P) (w:=w) t e ie z E.under α hz kl kc n n q1 (tJ _) q2 (by omega)
 rw[θ,uI,ε]at Z
 have η:madeCells #[z] n.toNat=(List.replicate n.toNat z).toArray:=by apply Array.ext_getElem?;intro i;unfold madeCells;rw[Array.getElem?_map,Array.getElem?_range];by_cases h:i<n.toNat;rw[if_pos h];simp[h,Nat.mod_one];rw[if_neg h];simp[h]
 rw[η]at Z
 have W:Own (w.alloc (.cells (List.replicate n.toNat z).toArray e)) 0 e 1 (some ⟨w.heap.size,0,none⟩) n.toNat n.toNat (List.replicate n.toNat z):=by have:=Own.lit (B:=0) w (List.replicate n.toNat z).toArray e 1 n.toNat (vI _) (by unfold maxLen;omega) (by simp);simpa using this
 have hw:∀(i:Nat) (r:List D),(List.replicate n.toNat [D.lit z])[i]? =some r->r.length=1:=by intro i r U;rw[uJ]at U;split at U;cases U;rfl;cases U
 have hr:∀(m':Mem) (i:Nat) (r:List D) (j:Nat) (x:D),(List.replicate n.toNat [D.lit z])[i]? =some r->r[j]? =some x->∃u,(List.replicate n.toNat z)[i*1+j]? =some u/\RepD m' x u:=by intro m' i r j x U hj;rw[uJ]at U;split at U;(rename_i γ;cases U;(cases j with|zero=>injection hj with hj;subst hj;exact⟨z,by rw[uJ];simp[γ],.lit z ζ⟩|succ j=>simp at hj));cases U
 have J:=I.own_put d (.t (.own e 1 (List.replicate n.toNat [.lit z]))) (.slice (some ⟨w.heap.size,0,none⟩) n.toNat n.toNat) (λp=>(List.replicate n.toNat z)[p]?) w.heap.size (w.alloc (.cells (List.replicate n.toNat z).toArray e)) (by omega) h2 h3 (I.free (wL _)) (I.newG (wL _)) ((Same.alloc (λ_=>False) w _).weaken (λ_ h=>h.elim)) (by simp) (λp u h=>by rw[I.mem_none (wL _)]at h;cases h) (λp u hp=>Own.cellAt W rfl hp)
  ⟨some ⟨w.heap.size,0,none⟩,n.toNat,List.replicate n.toNat z,by rw[wW],by rw[wW];exact zEL W,(λg hg=>by injection hg with hg;subst hg;exact⟨qT _ _ _,λp _=>zKF _ _ _ _⟩),hw,hr _⟩
 refine⟨_,_,_,_,?_,by rw[hd];exact J⟩
 unfold execOp
 rw[δ]
 simp only[wE]
 rw[zA0 hM I hn,zA0 hM I hc,Z]
 rfl
end
section
variable {S:Nat->A}{f f':Nat->A}{c:Nat}{x:A}
theorem qX(c:Nat):OB2+c=OB+(OB+c):=by unfold OB OB2;omega
theorem zDO(hl:Low S)(hk:S HK= .hp f)(c:Nat):hx S (OB+(OB+c))=san (f c):=by rw[<-qX];unfold hx;rw[hl (OB2+c) (wV _ _)];grind
theorem zLp:HK<OB2:=by decide
def updF(f:Nat->A)(c:Nat)(x:A):Nat->A:=λk=>if k=c then x else f k
theorem zWn(hl:Low S)(hk:S HK= .hp f)(J:san x=x):hx (upd S HK (.hp (updF f c x)))=upd (upd (hx S) (OB+(OB+c)) x) HK (.hp (updF f c x)):=by funext t;by_cases e:t=HK;(subst e;rw[zK];exact yM (zK _ _ _) (by simp));(rw[zE e];rcases wR t OB2 with h|h;rw[zBx h,zE e,zE (by unfold OB;unfold OB2 at h;omega),zBx h];(obtain⟨k,rfl⟩:∃k,t=OB2+k:=⟨t-OB2,by omega⟩;have u:Low (upd S HK (.hp (updF f c x))):=hl.upd zLp;rw[qX,zDO u (zK _ _ _)];unfold updF;by_cases I:k=c;(subst I;rw[if_pos rfl,zK,J]);rw[if_neg I,zE (by omega),zDO hl hk]))
end
section
variable {w0:World}{m0:Mem}{o0:OwnM}{G:GD}{pins:List Nat}{S M:Nat->A}{a:Act}{w:World}{m:Mem}{o:OwnM}{P:Program}{N:Nat}{f:Nat->A}
theorem Inv.hk(I:Inv w0 m0 o0 G pins S a w m o)(hk:S HK= .hp f)(f':Nat->A):Inv w0 m0 o0 G pins (upd S HK (.hp f')) a w m o:=by refine⟨I.same,I.sat,I.mono,I.old,I.own,I.lt,I.inj,I.pinned,λs=> ?_,I.defers,I.tbl,I.wide,I.shps⟩;by_cases e:s=HK;(subst e;rw[zK];trivial);(rw[zE e];refine(I.slots s).turn λb l hb=>⟨l,?_⟩;rw[zE (λe=>by rw[e,hk]at hb;cases hb),hb])
theorem run_field{t:TypeId}{fs:Array Field}{k:Nat}{u:Field}{i:TypeInfo}(J:P.underlying t=some (.struct fs))(hf:fs[k]? =some u)(hi:P.info? u.type=some i)(I:i.size≠0)(g p:Nat):(Instr.fieldAt t (.pointer (some ⟨g,p,none⟩)) k).run P w= .ok (.pointer (some ⟨g,p+u.offset,none⟩)) w:=by simp[Instr.fieldAt,run_underlying J,hf,Instr.sureAddr,fieldPlace,sizeOf,typeInfo,hi,I,Addr.add_mid]
def fdH(P:Program)(t:TypeId)(k:Nat):Option Nat:=match P.underlying t with
 |some (.struct I)=>match I[k]? with
  |some u=>match P.info? u.type with
   |some i=>if i.size=0 then none else some u.offset
   |none=>none
  |none=>none
 |_=>none
theorem ok_hfd(hM:Mk M S){d c off t k q:Nat}{x:Operand}(Z:op.op= .fieldAddr t x k)(hx:cpO M x= .t (.hpt c off))(u:fdH P t k=some q)(hd:op.dst=some d)(U:okD N pins S d=true):OpOK P pins N op S (upd S d (.t (.hpt c (off+q)))):=by refine zL λw0 m0 o0 G a w m o hN I=> ?_;obtain⟨h1,h2,h3⟩:=zP U;have J:=zW hM I x 0;rw[hx]at J;obtain⟨g,k1,k2⟩:=J;unfold fdH at u;split at u;(case h_2=>cases u);rename_i fs hu;split at u;(case h_2=>cases u);rename_i fd hf;split at u;(case h_2=>cases u);rename_i i hi;split at u;cases u;rename_i W;cases u;refine⟨.pointer (some ⟨g,off+fd.offset,none⟩),w,m,o,?_,by rw[hd];exact I.set d _ _ (by omega) h2 ⟨g,k1,rfl⟩⟩;unfold execOp;rw[Z];simp only[wE];rw[k2,run_field hu hf hi W];rfl
def ixH(P:Program)(t:TypeId):Option (Option Nat×Nat):=match P.underlying t with
 |some (.slice e)=>(P.info? e).map λi=>(none,i.size)
 |some (.array len e)=>(P.info? e).map λi=>(some len,i.size)
 |_=>none
theorem ok_hix(hM:Mk M S){d c off E k n t:Nat}{x i:Operand}{ki:IntKind}{z:Int}(W:op.op= .indexAddr t x i)(hx:cpO M x= .t (.hvw c off E k n))(hi:vO M i=some (.int ki z))(J:ixH P t=some (none,k))(hz:0<=z/\z<n)(hd:op.dst=some d)(Z:okD N pins S d=true):OpOK P pins N op S (upd S d (.t (.hpt c (off+z.toNat*k)))):=by refine zL λw0 m0 o0 G a w m o hN I=> ?_;obtain⟨h1,h2,h3⟩:=zP Z;have U:=zW hM I x 0;rw[hx]at U;obtain⟨A',q,k1,_,k3,k4⟩:=U;unfold ixH at J;split at J;(rename_i e hu;(cases u:P.info? e with|none=>grind|some ie=>rw[u]at J;cases J;rcases k4 with k4|⟨g,cs,_,k5,k6,_⟩;omega;(subst k6;refine⟨.pointer (some ⟨g,off+z.toNat*ie.size,none⟩),w,m,o,?_,by rw[hd];exact I.set d _ _ (by omega) h2 ⟨g,k5,rfl⟩⟩;unfold execOp;rw[W];simp only[wE];rw[zA0 hM I hi,k3];simp[Instr.indexAt,asIntOf,run_underlying hu,hz,sizeOf,typeInfo,u,Addr.add_mid])));(rename_i len e hu;cases u:P.info? e<;>rw[u]at J<;>cases J);grind
theorem ok_hia(hM:Mk M S){d c off k len t:Nat}{x i:Operand}{ki:IntKind}{z:Int}(W:op.op= .indexAddr t x i)(hx:cpO M x= .t (.hpt c off))(hi:vO M i=some (.int ki z))(J:ixH P t=some (some len,k))(hz:0<=z/\z<len)(hd:op.dst=some d)(Z:okD N pins S d=true):OpOK P pins N op S (upd S d (.t (.hpt c (off+z.toNat*k)))):=by refine zL λw0 m0 o0 G a w m o hN I=> ?_;obtain⟨h1,h2,h3⟩:=zP Z;have U:=zW hM I x 0;rw[hx]at U;obtain⟨g,k1,k2⟩:=U;unfold ixH at J;split at J;(rename_i e hu;cases u:P.info? e<;>rw[u]at J<;>cases J);(rename_i α e hu;(cases u:P.info? e with|none=>grind|some ie=>rw[u]at J;cases J;refine⟨.pointer (some ⟨g,off+z.toNat*ie.size,none⟩),w,m,o,?_,by rw[hd];exact I.set d _ _ (by omega) h2 ⟨g,k1,rfl⟩⟩;unfold execOp;rw[W];simp only[wE];rw[zA0 hM I hi,k2];simp[Instr.indexAt,asIntOf,Instr.sureAddr,run_underlying hu,hz,sizeOf,typeInfo,u,Addr.add_mid]));grind
theorem ok_hln(W:Mk M S){d c off E k n t e:Nat}{x:Operand}(U:op.op= .call {callee:= .builtin .len,args:= #[x],argTypes:= #[t]})(hx:cpO M x= .t (.hvw c off E k n))(hu:P.underlying t=some (.slice e))(hd:op.dst=some d)(J:okD N pins S d=true):
 OpOK P pins N op S (upd S d (.t (.d (.lit (.int .i64 n))))):=by
 refine zL λw0 m0 o0 G a w m o hN I=> ?_
 obtain⟨h1,Z,h3⟩:=zP J
 have u:=zW W I x 0
 rw[hx]at u
 obtain⟨A',q,_,_,k3,_⟩:=u
 refine⟨.int .i64 n,w,m,o,?_,by rw[hd];exact I.set d _ _ (by omega) Z (.lit _ rfl)⟩
 unfold execOp
 rw[U]
 simp only[resolve,invoke,builtin,wE,wQ,wC,wU,vC,vS]
 rw[k3]
 simp[Builtin.len_,run_underlying hu,goInt]
def ptrN:A->Option Bool
 | .t (.hpt _ _)=>some false
 | .t (.opt _ p)=>some p.isNone
 | .t (.ptr _ _)=>some false
 | .ref _ _=>some false
 | .imm _=>some false
 | .t (.d (.lit (.pointer none)))=>some true
 |_=>none
theorem ptrN_rep{s:Nat}{x:A}{b:Bool}(h:ptrN x=some b)(u:RepA m w o S s x v):∃p,v= .pointer p/\p.isNone=b:=by unfold ptrN at h;split at h;obtain⟨g,_,e⟩:=u;grind;rcases u with⟨J,I⟩|⟨i,J,g,_,I⟩<;>(injection h with h;subst h;exact⟨_,I,by rw[J];rfl⟩);obtain⟨g,_,e⟩:=u;grind;obtain⟨g,_,e,_⟩:=u;grind;obtain⟨g,p,e,_⟩:=u;grind;(cases h;have u:RepD m (.lit (.pointer none)) v:=u;cases u;grind);cases h
theorem ok_hpn(hM:Mk M S){u:BinOp}{d t yt e:Nat}{x:Operand}{b ng:Bool}(U:op.op= .binOp u t x (.const (.pointer none)) yt)(hb:u=bif ng then .neq else .eql)(ht:P.underlying t=some (.pointer e))(hx:ptrN (cpO M x)=some b)(hd:op.dst=some d)(J:okD N pins S d=true):OpOK P pins N op S (upd S d (.t (.d (.lit (.bool (b !=ng)))))):=by refine zL λw0 m0 o0 G a w m o hN I=> ?_;obtain⟨h1,W,h3⟩:=zP J;obtain⟨p,hv,rfl⟩:=ptrN_rep hx (zW hM I x 0);refine⟨.bool (p.isNone !=ng),w,m,o,?_,by rw[hd];exact I.set d _ _ (by omega) W (.lit _ rfl)⟩;subst hb;unfold execOp;rw[U];show Sem.run P (do pure (Next.value (<-(do eqGuard _ t x _ (a.eval x) (.pointer none);binOp _ t (a.eval x) (.pointer none))))) w=_;rw[hv,wE];(have Z:∀u:BinOp,(eqGuard u t x (.const (.pointer none)) (.pointer p) (.pointer none)).run P w= .ok () w:=by intro u;unfold eqGuard;cases u<;>rfl);(have hpt:P.underlying t=some (.pointer (P.pointee t)):=by unfold Program.pointee;rw[ht]);(cases ng with|false=>show Result.andThen (Sem.run P (do eqGuard .eql t x _ (.pointer p) (.pointer none);binOp .eql t (.pointer p) (.pointer none)) w) _=_;rw[wE,Z,wC,run_eql_pointer_nil w t p hpt];cases p<;>rfl|true=>show Result.andThen (Sem.run P (do eqGuard .neq t x _ (.pointer p) (.pointer none);binOp .neq t (.pointer p) (.pointer none)) w) _=_;rw[wE,Z,wC,run_neq_pointer_nil w t p hpt];cases p<;>rfl)
def norH:T->Option A
 | .ptr _ _=>none
 | .view j off E k n=>some (.t (.view j off E k n))
 | .agg _=>none
 | .own _ k l=>some (.t (.d (.seq k l)))
 | .xs _ _ _ _=>some (.t .any)
 | .ags l _=>some (.t (.agg l))
 |x=>some (.t x)
theorem zXD{loc:Nat×Nat}{s:Nat}{x:T}{y:A}(I:∀b p u,m b p=some u->w.cell? ⟨b,p,none⟩=some u)(hy:norH x=some y)(h:RepT m w o loc x v):RepA m w o S s y v:=by(cases x with|ptr j off=>cases hy|agg l=>cases hy|own E k l=>injection hy with hy;subst hy;exact zEn I h|d x=>injection hy with hy;subst hy;exact h|view j off E k n=>injection hy with hy;subst hy;exact h|hpt c off=>injection hy with hy;subst hy;exact h|opt t p=>injection hy with hy;subst hy;exact h|mpt c=>injection hy with hy;subst hy;exact h|ags W Z=>injection hy with hy;subst hy;exact zEX.agg h|xs E k l rv=>injection hy with hy;subst hy;obtain⟨A1,c1,U,J,_⟩:=h;subst J;rfl|any=>injection hy with hy;subst hy;exact h|hvw c off E k n=>injection hy with hy;subst hy;exact h)
theorem ok_hld(hM:Mk M S){d c off t n:Nat}{x:Operand}{l:List T}{z:T}{y:A}(U:op.op= .load t x)(ht:tyA P t=some (false,n))(hx:cpO M x= .t (.hpt c off))(hb:S (OB+(OB+c))= .box l)(hz:l[off]? =some z)(hy:norH z=some y)(hd:op.dst=some d)(Z:okD N pins S d=true):OpOK P pins N op S (upd S d y):=by refine zL λw0 m0 o0 G a w m o hN I=> ?_;obtain⟨h1,h2,h3⟩:=zP Z;have J:=zW hM I x 0;rw[hx]at J;obtain⟨g,k1,e⟩:=J;have W:=I.slots (OB+(OB+c));rw[hb]at W;obtain⟨g',_,q1,q2,cs,E,q3,q4,q5⟩:=W;have:=I.inj _ _ _ k1 q1;subst this;obtain⟨α,u,hu,hr⟩:=q5 off z hz;refine⟨u,w,m,o,?_,by rw[hd];exact I.set d _ _ (by omega) h2 (zXD I.sat hy hr)⟩;unfold execOp;rw[U];simp only[wE];rw[e];simp only[Instr.loadAt,Instr.sureAddr,wE,wQ,wC];rw[zBb ht (by rw[cell_of_row w g off cs E _ q3];exact hu)];rfl
theorem ok_hlr(hM:Mk M S){d c off t n:Nat}{x:Operand}{l r:List T}{y:List D}(β:op.op= .load t x)(ht:tyA P t=some (true,n))(hx:cpO M x= .t (.hpt c off))(hb:S (OB+(OB+c))= .box l)(hl:(l.drop off).take n=r)(hr:r.length=n)(hpt:noPt r=true)(hy:r.map toD=y)(hd:op.dst=some d)(δ:okD N pins S d=true):OpOK P pins N op S (upd S d (.t (.agg y))):=by subst hy;refine zL λw0 m0 o0 G a w m o hN I=> ?_;obtain⟨h1,h2,h3⟩:=zP δ;have J:=zW hM I x 0;rw[hx]at J;obtain⟨g,k1,e⟩:=J;have hs:=I.slots (OB+(OB+c));rw[hb]at hs;obtain⟨g',_,q1,q2,U,E,q3,q4,q5⟩:=hs;have:=I.inj _ _ _ k1 q1;subst this;(have ζ:n=0\/off+n<=l.length:=by grind);(have ε:n=0\/off+n<=U.size:=by omega);(have α:RepL m (r.map toD) ((U.toList.drop off).take n):=by refine⟨by rw[wM,hr,uA,sY,vE];omega,λj z hj=> ?_⟩;rw[wG,<-hl,vH,uL]at hj;rw[vH,uL];split at hj;(rename_i Z;rw[if_pos Z];(cases hz:l[off+j]? with|none=>grind|some z=>rw[hz]at hj;cases hj;obtain⟨ha,u,h7,h8⟩:=q5 (off+j) z hz;(have γ:z.isPt=false:=by have:=wI.1 hpt z (wD (i:=j) (by rw[<-hl,vH,if_pos Z,uL];exact hz));grind);exact⟨u,by simpa using h7,h8.toD I.sat ha γ⟩));grind);(have W:=zBz (P:=P) (w:=w) ht (g:=g) (p:=off) (vs:=(U.toList.drop off).take n) (by rw[uA,sY,vE];omega) λj v hj=>by rw[cell_of_row w g (off+j) U E _ q3];grind);refine⟨.agg ((U.toList.drop off).take n).toArray,w,m,o,?_,by rw[hd];exact I.set d _ _ (by omega) h2 ⟨_,rfl,by simpa using α⟩⟩;unfold execOp;rw[β];simp only[wE];rw[e];simp only[Instr.loadAt,Instr.sureAddr,wE,wQ,wC];rw[W];rfl
theorem zSD{g:Nat}{loc loc':Nat×Nat}{cs cs':Array Value}{E:Nat}(h1:o g=some loc')(h4:w.heap[g]? =some (.cells cs E (0,0)))(J:cs'.size=cs.size)(α:loc'≠loc){z:T}{u:Value}(k0:z.isAgg=false)(k2:RepT m w o loc z u):RepT m (w.setRow g cs') o loc z u:=by(cases z with|d x=>exact k2|agg l=>cases k0|ptr j off=>exact k2|hpt c off=>exact k2|opt t p=>exact k2|mpt c=>exact k2|ags l1 β=>cases k0|xs E' k ls rv=>obtain⟨A',cap,xs,U,W,q2,q3,q4⟩:=k2;refine⟨A',cap,xs,U,zAs W λZ I=> ?_,q2,q3,q4⟩;rw[U,qN]at I;refine setRow_other w g Z _ λe2=> ?_;grind|any=>exact k2|view j off E k n=>exact zDP (m':=m) (λ_ _ h=>h) (λg' _ _=>zBE h4 J g') k2|hvw c off E k n=>exact zHS (m':=m) (λ_ _ h=>h) (λg' _ _=>zBE h4 J g') k2|own E' k ls=>obtain⟨A',cap,xs,U,W,q2,q3,q4⟩:=k2;refine⟨A',cap,xs,U,zAs W λZ I=> ?_,q2,q3,q4⟩;rw[U,qN]at I;refine setRow_other w g Z _ λe2=> ?_;grind)
theorem ok_hst(hM:Mk M S){t c off:Nat}{x y:Operand}(η:op.op= .store t x y)(hd:op.dst=none){i:TypeInfo}(hi:P.info? t=some i)(hx:cpO M x= .t (.hpt c off)){l:List T}(hb:S (OB+(OB+c))= .box l){q:List T}(hc:zCH (cpO M y)=some q)(ι:q.length=i.size)(κ:off+i.size<=l.length):
 OpOK P pins N op S (upd S (OB+(OB+c)) (.box (qD l off q))):=by
 refine zGt hd λw0 m0 o0 G a w m o hN I=> ?_
 have α:=zW hM I x 0
 rw[hx]at α
 obtain⟨g,h1,e⟩:=α
 have hs:=I.slots (OB+(OB+c))
 rw[hb]at hs
 obtain⟨g',_,q1,q2,J,E,h4,h5,h6⟩:=hs
 have:=I.inj _ _ _ h1 q1
 subst this
 have U:=zD4 hc (zW hM I y 0)
 have ζ:(a.eval y).cells.size=i.size:=by have:=U.1;simp at this;omega
 have γ:=U.2.1
 have β:=zE1 (P:=P) (w:=w) (off:=off) hi h4 ζ γ (by omega)
 have ε:(a.eval y).cells.toList.length=q.length:=U.1
 have θ:(qD J.toList off (a.eval y).cells.toList).length=J.toList.length:=zAM J.toList off (a.eval y).cells.toList (by simp only[vE];omega)
 have W:(qD J.toList off (a.eval y).cells.toList).toArray.size=J.size:=by simpa using θ
 refine⟨_,m,o,?_,I.box_put hb h1 h4 (cs':=(qD J.toList off (a.eval y).cells.toList).toArray) W o (λ_=>False) (λs h=>h.elim) (λg l h _ _=>h) h1 (λg l h=>⟨l,h⟩) I.inj (λg l l' h h' k=>by rw[h]at h';injection h' with h';rw[h'];exact k) ?_ (λj z hj=> ?_)⟩
 · unfold execOp;rw[η];simp only[wE];rw[e,β];rfl
 · exact zAM l off q (by omega)
 · (have δ:(qD J.toList off (a.eval y).cells.toList).toArray[j]? =(qD J.toList off (a.eval y).cells.toList)[j]? :=by simp);rw[δ,zCA J.toList off (a.eval y).cells.toList (by simp only[vE]at ε⊢;omega)];rw[zCA l off q (by omega)]at hj;rw[ε];split at hj;(rename_i Z;rw[if_pos Z];obtain⟨k0,u,k1,k2⟩:=U.2.2 _ z hj;exact⟨k0,u,k1,k2 _ _ (zBE h4 W)⟩);(rename_i Z;rw[if_neg Z];obtain⟨k0,u,k1,k2⟩:=h6 j z hj;exact⟨k0,u,by simpa using k1,zSD h1 h4 W (by intro e;injection e with _ e;omega) k0 k2⟩)
def T.noOwn:T->Bool
 | .own _ _ _| .agg _| .ags _ _| .xs _ _ _ _=>false
 |_=>true
theorem noOwn_rep{x:T}(hx:x.noOwn=true){o':OwnM}(J:∀g j,o g=some (OB+j,0)->o' g=some (OB+j,0)){loc loc':Nat×Nat}{w':World}(W:∀g,zAX w w' g)(h:RepT m w o loc x v):RepT m w' o' loc' x v:=by(cases x with|d x=>exact h|agg l=>cases hx|own E k l=>cases hx|ptr j off=>obtain⟨g,I,u⟩:=h;exact⟨g,J g j I,u⟩|hpt j off=>obtain⟨g,I,u⟩:=h;exact⟨g,J g _ I,u⟩|opt t p=>exact h.imp id λ⟨i,e,g,I,u⟩=>⟨i,e,g,J g _ I,u⟩|mpt j=>obtain⟨g,I,u⟩:=h;exact⟨g,J g _ I,u⟩|ags l1 α=>cases hx|xs E k l rv=>(first|(exact h)|exact h|exact hr|exact k2|exact k3|exact h4|exact h5|exact id|trivial|(cases hp;done)|(cases hx;done)|(cases hl;done)|(obtain⟨A1,c1,Z,U,_⟩:=h;subst U;rfl)|(obtain⟨A1,c1,Z,U,_⟩:=hr;subst U;rfl)|rfl)|any=>exact h|view j off E k n=>exact zDP (m':=m) J (λg _ _=>W g) h|hvw j off E k n=>exact zHS (m':=m) J (λg _ _=>W g) h)
theorem Inv.obj_new(I:Inv w0 m0 o0 G pins S a w m o){j:Nat}{l:List T}{cs:Array Value}{E:Nat}(U:S (OB+j)= .free)(α:l.length<=cs.size)
(hc:∀(i:Nat) (x:T),l[i]? =some x->x.noOwn=true/\∃u,cs[i]? =some u/\RepT m w o (0,0) x u):
 Inv w0 m0 o0 G pins (upd S (OB+j) (.box l)) a (w.alloc (.cells cs E)) m (newO o (OB+j) w.heap.size):=by
 have hf:∀g k,o g≠some (OB+j,k):=by have:=I.slots (OB+j);rw[U]at this;exact this
 have hS:Same (λ_=>False) w (w.alloc (.cells cs E)):=Same.alloc _ _ _
 have δ:∀b l,o b=some l->b≠w.heap.size:=λb l h e=>by have:=I.lt b l h;omega
 have hk:∀b l,o b=some l->newO o (OB+j) w.heap.size b=some l:=by intro b l h;unfold newO;rw[if_neg (δ b l h),h,if_neg];intro e;obtain⟨s,k⟩:=l;cases e;exact hf b k h
 have J:∀b l,newO o (OB+j) w.heap.size b=some l->(b=w.heap.size/\l=(OB+j,0))\/(b≠w.heap.size/\o b=some l):=by intro b l h;unfold newO at h;split at h;rename_i e;injection h with h;exact .inl ⟨e,h.symm⟩;(split at h;cases h;rename_i e _;exact .inr ⟨e,h⟩)
 have β:∀g,zAX w (w.alloc (.cells cs E)) g:=λg=> .of_lt λh=>hS.block g h id
 have K:Keep (λl=>l.1=OB+j) m w o m (w.alloc (.cells cs E)) (newO o (OB+j) w.heap.size):=
  ⟨Mle.refl _,λ_ _ _ _=>rfl,λb l h _=>hS.block b (I.lt b l h) id,λb l h _=>hk b l h,λb j' h=>hk b _ h,λb s k hs h=>by rcases J b _ h with⟨_,e⟩|⟨_,e⟩;injection e with e _;exact absurd e hs;exact⟨b,k,e⟩,λg _ _=>β g⟩
 refine⟨I.same.trans (hS.weaken λ_ h=>h.elim),λb p u h=> ?_,I.mono,I.old,λg l h=> ?_,λg l h=> ?_,λg g' l h h'=> ?_,λs hs g hg=>hk g _ (I.pinned s hs g hg),λs=> ?_,I.defers,I.tbl,I.wide,I.shps.keep I.pinned K.sh⟩
 · have W:=I.sat b p u h;(have γ:b<w.heap.size:=by have:=wY w _ W;simpa using this);rw[vP (w:=w) (hS.block b γ id)];exact W
 · rcases J g l h with⟨e,_⟩|⟨_,e⟩;subst e;exact I.newG (wL _);exact I.own g l e
 · rcases J g l h with⟨e,_⟩|⟨_,e⟩;subst e;simp;exact wN (I.lt g l e) hS.size
 · rcases J g l h with⟨e,q⟩|⟨_,e⟩<;>rcases J g' l h' with⟨Z,q'⟩|⟨_,Z⟩;rw[e,Z];subst q;exact absurd Z (hf _ _);subst q';exact absurd e (hf _ _);exact I.inj _ _ _ e Z
 · by_cases e:s=OB+j;(subst e;rw[zK];refine⟨w.heap.size,λh=>absurd h (by omega),qT _ _ _,λp=>I.mem_none (wL _),cs,E,heap_alloc_new w _,α,λi x hi=> ?_⟩;obtain⟨W,u,h2,h3⟩:=hc i x hi;refine⟨?_,u,h2,noOwn_rep W (λg j' h=>hk g _ h) β h3⟩;cases x<;>first|rfl|cases W);(rw[zE e];exact RepA.keep K (λ_=>e) (λb off _ hb=>⟨λZ=>by have:b=OB+j:=Z;omega,λ⟨l',ε⟩=>⟨l',by rw[zE (by omega),ε]⟩⟩) (I.slots s))
theorem zF3{y:A}{l:List T}(hl:zCH y=some l):∀x∈l,x.noOwn=true:=by intro x hx;(cases y with|t y=>(cases y with|d y=>injection hl with hl;subst hl;simp at hx;subst hx;rfl|agg y=>injection hl with hl;subst hl;obtain⟨_,_,rfl⟩:=vW.1 hx;rfl|view j off E k n=>injection hl with hl;subst hl;simp at hx;subst hx;rfl|hpt c off=>injection hl with hl;subst hl;simp at hx;subst hx;rfl|opt t p=>injection hl with hl;subst hl;simp at hx;subst hx;rfl|mpt c=>injection hl with hl;subst hl;simp at hx;subst hx;rfl|ags l1 α=>cases hl|xs E k l rv=>(first|(cases hl)|exact h|exact hr|exact k2|exact k3|exact h4|exact h5|exact id|trivial|(cases hp;done)|(cases hx;done)|(cases hl;done)|(obtain⟨A1,Z,I,u,_⟩:=h;subst u;rfl)|(obtain⟨A1,Z,I,u,_⟩:=hr;subst u;rfl)|rfl)|any=>cases hl|hvw c off E k n=>injection hl with hl;subst hl;simp at hx;subst hx;rfl|own E k l=>cases hl|ptr j off=>cases hl)|ref b off=>have hl:(if OB<=b then some [T.ptr (b-OB) off]else none)=some l:=hl;split at hl;cases hl;simp at hx;subst hx;rfl;grind|ag J=>have hl:(if J.all T.cell then some J else none)=some l:=hl;split at hl;(rename_i W;cases hl;have U:=wI.1 W x hx;cases x<;>first|rfl|cases U);grind|_=>cases hl)
theorem ok_hmk{d c:Nat}{l:List T}(hd:op.dst=some d)(β:okD N pins S d=true)(γ:d<OB)(U:S (OB+(OB+c))= .free)
(h:∀(w0:World) (m0:Mem) (o0:OwnM) (G:GD) (a:Act) (w:World) (m:Mem) (o:OwnM),Inv w0 m0 o0 G pins S a w m o->∃v W E,(execOp a.eval op).run P w= .ok (.value v) (w.alloc (.cells W E))/\l.length<=W.size/\
  (∀(i:Nat) (x:T),l[i]? =some x->x.noOwn=true/\∃u,W[i]? =some u/\RepT m w o (0,0) x u)/\v= .pointer (some ⟨w.heap.size,0,none⟩)):
 OpOK P pins N op S (app S [(OB+(OB+c),.box l),(d,.t (.hpt c 0))]):=by
 refine zL λw0 m0 o0 G a w m o hN I=> ?_
 obtain⟨h1,h2,h3⟩:=zP β
 obtain⟨v,W,E,Z,α,hc,rfl⟩:=h w0 m0 o0 G a w m o I
 refine⟨_,w.alloc (.cells W E),m,newO o (OB+(OB+c)) w.heap.size,Z,?_⟩
 rw[hd]
 have J:=I.obj_new (E:=E) U α hc
 exact J.set d _ _ (by omega) (by rw[zE (by omega)];exact h2) ⟨_,qT _ _ _,rfl⟩
theorem ok_hbox(hM:Mk M S){d c E:Nat}{x:Operand}{l:List T}(W:op.op= .box E x)(hl:zCH (cpO M x)=some l)(hd:op.dst=some d)(U:okD N pins S d=true)(Z:d<OB)(J:S (OB+(OB+c))= .free):
 OpOK P pins N op S (app S [(OB+(OB+c),.box l),(d,.t (.hpt c 0))]):=by
 refine ok_hmk hd U Z J λw0 m0 o0 G a w m o I=> ?_
 obtain⟨k1,k2,k3⟩:=zD4 hl (zW hM I x 0)
 refine⟨_,(a.eval x).cells,E,?_,by simpa using Nat.le_of_eq k1.symm,λi x hx=> ?_,rfl⟩
 · unfold execOp;rw[W];simp[Instr.box,newVar,newRow]
 · obtain⟨q1,u,q2,q3⟩:=k3 i x hx;exact⟨zF3 hl x (wD hx),u,by simpa using q2,q3 _ _ (zAX.refl w)⟩
end
def fillT(M:Nat->A)(u:Nat->Option (Nat×Nat)):List T->List (Nat×Operand)->Option (List T)
 |ts,[]=>some ts
 |ts,(i,x)::r=>match u i,zCH (cpO M x)with|some (off,size),some c=>if c.length=size/\off+size<=ts.length then fillT M u (qD ts off c) r else none|_,_=>none
def bdT(P:Program)(M:Nat->A)(t:TypeId)(I:List (Nat×Operand)):Option (List T):=match P.info? t with
 |some it=>match it.zero,zSY P t with
  |some z,some u=>match z with
   | .agg J=>if J.toList.all (·.oneCell')then fillT M u (J.toList.map λv=> .d (.lit v)) I else none
   |_=>none
  |_,_=>none
 |none=>none
section
variable {w0:World}{m0:Mem}{o0:OwnM}{G:GD}{pins:List Nat}{S M:Nat->A}{a:Act}{w:World}{m:Mem}{o:OwnM}{P:Program}{N:Nat}{f:Nat->A}
def RepTs(m:Mem)(w:World)(o:OwnM)(ts:List T)(vs:List Value):Prop:=vs.length=ts.length/\∀(j:Nat) (x:T),ts[j]? =some x->∃u,vs[j]? =some u/\u.oneCell'=true/\∀I,RepT m w o I x u
theorem zV2{s:Nat}{y:A}{l:List T}(hl:zCH y=some l)(hy:RepA m w o S s y v):RepTs m w o l v.cells.toList:=by obtain⟨k1,k2,k3⟩:=zD4 hl hy;refine⟨k1,λj x U=> ?_⟩;obtain⟨_,u,J,Z⟩:=k3 j x U;exact⟨u,J,k2 u (wD J),λI=>Z w I (zAX.refl w)⟩
theorem zT3(hM:Mk M S)(I:Inv w0 m0 o0 G pins S a w m o){U:Nat->Option (Nat×Nat)}:∀(J:List (Nat×Operand)) (ds Z:List T) (cells:Array Value),fillT M U ds J=some Z->RepTs m w o ds cells.toList->
 ∃u,Instr.fill U cells (J.map λx=>(x.1,a.eval x.2))=some u/\RepTs m w o Z u.toList
 |[],ds,Z,cells,h,hr=>by injection h with h;subst h;exact⟨cells,rfl,hr⟩
 |(i,x)::r,ds,Z,cells,h,hr=>by unfold fillT at h;split at h;(rename_i off size c hp hc;split at h;(rename_i δ;have hx:=zV2 hc (zW hM I x 0);(have W:(a.eval x).cells.size=size:=by have:=hx.1;simp at this;omega);(have γ:ds.length=cells.size:=by have:=hr.1;simpa using this.symm);obtain⟨g1,g2⟩:=Great.foldl_set off (a.eval x).cells.toList 0 cells;(have β:RepTs m w o (qD ds off c) (((a.eval x).cells.toList.zipIdx 0).foldl (λcs (x:Value×Nat)=>cs.setIfInBounds (off+x.2) x.1) cells).toList:=by refine⟨by simp only[vE];rw[g1,zAM _ _ _ (by omega),γ],λj d hj=> ?_⟩;rw[zCA _ _ _ (by omega)]at hj;rw[tI,g2 j];simp only[uC,vE,W];split at hj;(rename_i α;rw[if_pos (by omega)];exact hx.2 _ d hj);(rename_i α;rw[if_neg (by omega)];have:=hr.2 j d hj;grind));obtain⟨u,h1,h2⟩:=zT3 hM I r _ Z _ h β;refine⟨u,?_,h2⟩;rw[vC];unfold Instr.fill;simp only[hp,W];rw[if_neg (by simp;omega),<-h1];congr 1;rw[<-Array.foldl_toList,Array.toList_zipIdx]);cases h);cases h
theorem bdT_run(hM:Mk M S)(I:Inv w0 m0 o0 G pins S a w m o){t:TypeId}{U:List (Nat×Operand)}{W:List T}(h:bdT P M t U=some W)(s:Nat):∃v,(Instr.build t (U.map λx=>(x.1,a.eval x.2)).toArray).run P w= .ok v w/\RepA m w o S s (.ag W) v:=by unfold bdT at h;split at h;(case h_2=>cases h);rename_i it β;split at h;(case h_2=>cases h);rename_i z ε hz hp;split at h;(case h_2=>cases h);rename_i cs;split at h;(case isFalse=>cases h);rename_i α;(have δ:RepTs m w o (cs.toList.map λv=> .d (.lit v)) cs.toList:=by refine⟨by simp,λj d hj=> ?_⟩;rw[wG]at hj;(cases hu:cs.toList[j]? with|none=>grind|some u=>rw[hu]at hj;cases hj;have h1:=wI.1 α u (wD hu);exact⟨u,rfl,h1,λ_=> .lit u h1⟩));obtain⟨J,h1,h2⟩:=zT3 hM I U _ W cs h δ;refine⟨.agg J,run_build w t _ J ?_,J,rfl,by simpa using h2.1,λj x hj=> ?_⟩;(unfold Program.built;unfold zSY at hp;split at hp;(rename_i Z hu;rw[β,hu];simp only[hz];(cases hq:Z.toList.mapM (λf=>(P.info? f.type).map λi=>(f.offset,i.size))with|none=>grind|some γ=>rw[hq]at hp;cases hp;simp only[Value.cells];rw[<-h1];congr 1;grind));(rename_i n e hu;rw[β,hu];simp only[hz];(cases hq:P.info? e with|none=>grind|some ie=>rw[hq]at hp;cases hp;exact h1));grind);(obtain⟨u,k1,k2,k3⟩:=h2.2 j x hj;grind)
theorem ok_buildT(hM:Mk M S){d t:Nat}{u:List (Nat×Operand)}(U:op.op= .build t u.toArray)(hd:op.dst=some d)(J:okD N pins S d=true){l:List T}(h:bdT P M t u=some l):OpOK P pins N op S (upd S d (.ag l)):=by refine zL λw0 m0 o0 G a w m o hN I=> ?_;obtain⟨h1,Z,h3⟩:=zP J;obtain⟨v,hv,W⟩:=bdT_run hM I h d;refine⟨v,w,m,o,?_,by rw[hd];exact I.set d _ v (by omega) Z W⟩;unfold execOp;rw[U];simp only[wU,wE];rw[hv];rfl
def rnT(j c:Nat):T->T
 | .ptr i off=>bif Nat.beq i j then .hpt c off else .ptr i off
 | .view i off E k n=>bif Nat.beq i j then .hvw c off E k n else .view i off E k n
 | .mpt i=>bif Nat.blt i OB&&Nat.beq i j then .mpt (OB+c)else .mpt i
 |x=>x
def rnA(j c:Nat):A->A
 | .t x=> .t (rnT j c x)
 | .tup l=> .tup (l.map (rnT j c))
 | .box l=> .box (l.map (rnT j c))
 | .ag l=> .ag (l.map (rnT j c))
 | .lst l=> .lst (l.map (rnT j c))
 | .cl f u=> .cl f (u.map λl=>l.map (rnT j c))
 | .imt l=> .imt (l.map (rnT j c))
 | .ref b off=>bif Nat.beq b (OB+j)then .t (.hpt c off)else .ref b off
 |x=>x
theorem zTQ(i j:Nat):Nat.beq i j=decide (i=j):=by by_cases h:i=j;subst h;simp;(cases hb:Nat.beq i j with|true=>exact absurd (wT hb) h|false=>simp[h])
def rnO(j c:Nat)(o:OwnM):OwnM:=λg=>match o g with
 |some (s,k)=>if s=OB+j then some (OB+(OB+c),k)else some (s,k)
 |none=>none
theorem rnO_iff{j c:Nat}{g:Nat}{l:Nat×Nat}(u:∀g k,o g≠some (OB+(OB+c),k)):rnO j c o g=some l↔(l.1=OB+(OB+c)/\o g=some (OB+j,l.2))\/(l.1≠OB+j/\l.1≠OB+(OB+c)/\o g=some l):=by obtain⟨s,k⟩:=l;unfold rnO;grind
theorem zJ6{j c:Nat}(hj:j<OB){loc loc':Nat×Nat}(hl:∀g,o g=some loc->rnO j c o g=some loc'){x:T}(h:RepT m w o loc x v):RepT m w (rnO j c o) loc' (rnT j c x) v:=by(have u:∀g s,s≠OB+j->o g=some (s,0)->rnO j c o g=some (s,0):=λg s hs h=>by unfold rnO;rw[h];simp only;rw[if_neg hs]);(have same:∀g,o g=some (OB+j,0)->rnO j c o g=some (OB+(OB+c),0):=λg h=>by unfold rnO;rw[h];simp);(cases x with|d x=>exact h|agg l=>exact h|own E k l=>obtain⟨W,cap,xs,e,J,I,Z,U⟩:=h;exact⟨W,cap,xs,e,J,λg hg=>⟨hl g (I g hg).1,(I g hg).2⟩,Z,U⟩|ptr i off=>show RepT m w (rnO j c o) loc' (bif Nat.beq i j then .hpt c off else .ptr i off) v;rw[zTQ];obtain⟨g,J,I⟩:=h;by_cases e:i=j;(subst e;simp only[decide_true,cond_true];exact⟨g,same g J,I⟩);(simp only[e,decide_false,cond_false];exact⟨g,u g _ (by omega) J,I⟩)|view i off E k n=>show RepT m w (rnO j c o) loc' (bif Nat.beq i j then .hvw c off E k n else .view i off E k n) v;rw[zTQ];obtain⟨W,q,J,I,Z,U⟩:=h;by_cases e:i=j;(subst e;simp only[decide_true,cond_true];exact⟨W,q,J,I,Z,U.imp id λ⟨g,cs,E1,k1,k2⟩=>⟨g,cs,E1,same g k1,k2⟩⟩);(simp only[e,decide_false,cond_false];exact⟨W,q,J,I,Z,U.imp id λ⟨g,cs,E1,k1,k2⟩=>⟨g,cs,E1,u g _ (by omega) k1,k2⟩⟩)|ags l1 α=>exact zEX.own hl h|xs E k l rv=>obtain⟨W,cap,xs,e,J,I,Z,U⟩:=h;exact⟨W,cap,xs,e,J,λg hg=>⟨hl g (I g hg).1,(I g hg).2⟩,Z,U⟩|any=>exact h|hpt i off=>obtain⟨g,J,I⟩:=h;exact⟨g,u g _ (by omega) J,I⟩|opt t p=>exact h.imp id λ⟨i,e,g,J,I⟩=>⟨i,e,g,u g _ (by omega) J,I⟩|mpt i=>show RepT m w (rnO j c o) loc' (bif Nat.blt i OB&&Nat.beq i j then .mpt (OB+c)else .mpt i) v;rw[zTQ];obtain⟨g,J,I⟩:=h;by_cases e:i=j;(subst e;rw[show Nat.blt i OB=true by simpa using hj];simp only[decide_true,Bool.and_self,cond_true];exact⟨g,same g J,I⟩);(simp only[e,decide_false,Bool.and_false,cond_false];exact⟨g,u g _ (by omega) J,I⟩)|hvw i off E k n=>obtain⟨W,q,J,I,Z,U⟩:=h;exact⟨W,q,J,I,Z,U.imp id λ⟨g,cs,E1,k1,k2⟩=>⟨g,cs,E1,u g _ (by omega) k1,k2⟩⟩)
theorem rnT_agg{j c:Nat}{x:T}:(rnT j c x).isAgg=x.isAgg:=by(cases x with|ptr i off=>show(bif Nat.beq i j then T.hpt c off else .ptr i off).isAgg=_;cases Nat.beq i j<;>rfl|view i off E k n=>show(bif Nat.beq i j then T.hvw c off E k n else .view i off E k n).isAgg=_;cases Nat.beq i j<;>rfl|mpt i=>show(bif Nat.blt i OB&&Nat.beq i j then T.mpt (OB+c)else .mpt i).isAgg=_;cases(Nat.blt i OB&&Nat.beq i j)<;>rfl|_=>rfl)
theorem zTA{j c:Nat}{l:List T}(h:noPt l=true):l.map (rnT j c)=l:=by
  conv=>rhs;rw[<-sP l]
  refine uV λx hx=> ?_
  have:=wI.1 h x hx
  cases x<;>first|rfl|cases this
theorem Inv.pub(I:Inv w0 m0 o0 G pins S a w m o){j c:Nat}{la:List T}(hj:j<OB)(ζ:OB+j∉pins)(β:S (OB+(OB+c))= .free)(hb:S (OB+j)= .box la)(θ:la.map (rnT j c)=la){S':Nat->A}
(h1:S' (OB+j)= .free)(h2:S' (OB+(OB+c))= .box la)(h3:∀t,t≠OB+j->t≠OB+(OB+c)->S' t=rnA j c (S t)):∃o',Inv w0 m0 o0 G pins S' a w m o':=by
 have hf:∀g k,o g≠some (OB+(OB+c),k):=by have:=I.slots (OB+(OB+c));rw[β]at this;exact this
 have iff:=λg l=>rnO_iff (o:=o) (j:=j) (c:=c) (g:=g) (l:=l) hf
 have η:∀g,o0 g≠some (OB+j,0):=λg h=>(I.shps g j h).1.elim ζ λh=>by unfold OB at*;unfold OB2 at h;omega
 have keep:∀g l,l.1≠OB+j->o g=some l->rnO j c o g=some l:=λg l hl h=>(iff g l).2 (.inr ⟨hl,λe=>hf g l.2 (by rw[h,<-e]),h⟩)
 refine⟨rnO j c o,I.same,I.sat,I.mono,I.old,λg l h=> ?_,λg l h=> ?_,λg g' l h h'=> ?_,λs hs g hg=> ?_,λt=> ?_,I.defers,I.tbl,I.wide,I.shps⟩
 · rcases(iff g l).1 h with⟨_,h⟩|⟨_,_,h⟩<;>exact I.own g _ h
 · rcases(iff g l).1 h with⟨_,h⟩|⟨_,_,h⟩<;>exact I.lt g _ h
 · rcases(iff g l).1 h with⟨e1,h⟩|⟨_,e1,h⟩<;>rcases(iff g' l).1 h' with⟨e2,h'⟩|⟨_,e2,h'⟩;exact I.inj g g' _ h h';grind;grind;exact I.inj g g' _ h h'
 · have:=I.pinned s hs g hg;grind
 · by_cases e1:t=OB+j;(subst e1;rw[h1];intro g k h;grind);(by_cases e2:t=OB+(OB+c);(subst e2;rw[h2];have hs:=I.slots (OB+j);rw[hb]at hs;obtain⟨g,_,k1,k2,cs,E,k3,k4,k5⟩:=hs;refine⟨g,λh=>absurd h (by omega),(iff g _).2 (.inl ⟨rfl,k1⟩),k2,cs,E,k3,k4,λq x U=> ?_⟩;obtain⟨q1,u,q2,Z⟩:=k5 q x U;refine⟨q1,u,q2,?_⟩;have:=zJ6 (c:=c) hj (loc':=(OB+(OB+c),q+1)) (λg hg=>(iff g _).2 (.inl ⟨rfl,hg⟩)) Z;grind);(rw[h3 t e1 e2];have J:∀k g,o g=some (t,k)->rnO j c o g=some (t,k):=λk g h=>keep g _ e1 h;have hs:=I.slots t;have γ:∀b l,b<OB->S b= .box l->∃l',S' b= .box l':=λb l hb h=>⟨_,by rw[h3 b (by omega) (by omega),h];rfl⟩;revert hs;generalize a.tmps.getD t undef=v;(cases S t with|t x=>exactλhs=>zJ6 hj (J 0) hs|tup l=>rintro⟨vs,e,q1,q2⟩;refine⟨vs,e,by simpa using q1,λq x U=> ?_⟩;rw[wG]at U;(cases W:l[q]? with|none=>grind|some z=>rw[W]at U;cases U;obtain⟨u,Z,q4⟩:=q2 q z W;exact⟨u,Z,zJ6 hj (J _) q4⟩)|ag l=>rintro⟨vs,e,q1,q2⟩;refine⟨vs,e,by simpa using q1,λq x U=> ?_⟩;rw[wG]at U;(cases W:l[q]? with|none=>grind|some z=>rw[W]at U;cases U;obtain⟨u,Z,q5,q4⟩:=q2 q z W;exact⟨u,Z,q5,zJ6 hj (J _) q4⟩)|lst l=>rintro⟨g,cap,e,q1,q6,q2⟩;refine⟨g,cap,by simpa using e,by simpa using q1,q6,λq x U=> ?_⟩;rw[wG]at U;(cases W:l[q]? with|none=>grind|some z=>rw[W]at U;cases U;obtain⟨u,Z,q4⟩:=q2 q z W;exact⟨u,Z,zJ6 hj (J _) q4⟩)|fr E k=>rintro⟨g,n,cap,ε,q1,q2,Z⟩;exact⟨g,n,cap,ε,q1,J 0 g q2,Z⟩|imm l=>exact id|box l=>rintro⟨g,e,k1,k2,cs,E,k3,k4,k5⟩;refine⟨g,e,J 0 g k1,k2,cs,E,k3,by simpa using k4,λq x U=> ?_⟩;rw[wG]at U;(cases W:l[q]? with|none=>grind|some z=>rw[W]at U;cases U;obtain⟨q5,u,Z,q4⟩:=k5 q z W;exact⟨by rw[rnT_agg];exact q5,u,Z,zJ6 hj (J _) q4⟩)|ref b off=>rintro⟨g,k1,k2,k3⟩;show RepA m w (rnO j c o) S' t (bif Nat.beq b (OB+j)then .t (.hpt c off)else .ref b off) v;rw[zTQ];by_cases e:b=OB+j;(subst e;simp only[decide_true,cond_true];exact⟨g,(iff g _).2 (.inl ⟨rfl,k1⟩),k2⟩);(simp only[e,decide_false,cond_false];exact⟨g,keep g _ e k1,k2,λhb=>let⟨l,hl⟩:=k3 hb;γ b l hb hl⟩)|free=>intro hs g k h;rcases(iff g _).1 h with⟨e,_⟩|⟨_,_,h⟩;grind;exact hs g k h|hp f=>exact id|mp l=>rintro⟨g,k1,k2⟩;exact⟨g,J 0 g k1,k2⟩|ck f cs=>rintro⟨α,e,q1,q2⟩;refine⟨α,e,q1,λi c' hi=> ?_⟩;obtain⟨v,Z,q4⟩:=q2 i c' hi;refine⟨v,Z,?_⟩;(cases c' with|live c'=>obtain⟨g,b1,b2⟩:=q4;exact⟨g,b1,keep g _ (by unfold OB at*;omega) b2⟩|fz l=>exact q4)|cl f δ=>rintro⟨α,e,q1,q2⟩;refine⟨α,e,by simpa using q1,λi l hi=> ?_⟩;rw[wG]at hi;(cases hz:δ[i]? with|none=>grind|some z=>rw[hz]at hi;cases hi;obtain⟨g,Z,q4⟩:=q2 i z hz;refine⟨g,Z,λq x U=> ?_⟩;rw[wG]at U;(cases W:z[q]? with|none=>grind|some y=>rw[W]at U;cases U;obtain⟨u,q5,q6⟩:=q4 q y W;exact⟨u,q5,zJ6 hj (J _) q6⟩))|imt l=>rintro⟨g,Z,q4⟩;refine⟨g,Z,λq x U=> ?_⟩;rw[wG]at U;(cases W:l[q]? with|none=>grind|some y=>rw[W]at U;cases U;obtain⟨u,q5,q6⟩:=q4 q y W;exact⟨u,q5,zJ6 hj (J _) q6⟩)|rcd b u mE oE=>rintro⟨q1,q2,Z,q4,q5⟩;exact⟨J 0 b q1,q2,Z,q4,λg c' hg=>keep g _ (by show OB+(OB+c')≠OB+j;omega) (q5 g c' hg)⟩|any=>exact id)))
end
def posN:List Nat->Nat->Option Nat
 |[],_=>none
 |x::r,j=>if x=j then some 0 else(posN r j).map (· +1)
theorem zBG:∀{σ:List Nat} {j i:Nat},posN σ j=some i->σ[i]? =some j
 |[],_,_,h=>by cases h
 |x::r,j,i,h=>by unfold posN at h;split at h;grind;(cases u:posN r j with|none=>grind|some q=>rw[u]at h;injection h with h;subst h;simpa using zBG u)
theorem zCZ:∀{σ:List Nat} {j i:Nat},σ.Nodup->σ[i]? =some j->posN σ j=some i
 |[],_,_,_,h=>by simp at h
 |x::r,j,i,u,h=>by unfold posN;rw[List.nodup_cons]at u;(cases i with|zero=>grind|succ i=>(have h:r[i]? =some j:=by simpa using h);rw[if_neg (λe=>u.1 (by rw[e];exact wD h)),zCZ u.2 h];rfl)
def zIn(σ:List Nat)(t:Nat):Prop:=OB<=t/\t-OB∈σ
instance (σ:List Nat)(t:Nat):Decidable (zIn σ t):=by unfold zIn;exact inferInstance
theorem zHx{σ:List Nat}{j:Nat}(h:j∈σ):zIn σ (OB+j):=⟨by omega,by rw[wO];exact h⟩
theorem zJg{σ:List Nat}{j:Nat}:zIn σ (OB+j)↔j∈σ:=⟨λh=>by have:=h.2;rwa [wO]at this,zHx⟩
def zCq:List Nat->List A->Eff
 |j::σ,l::r=>(OB+j,l)::zCq σ r
 |_,_=>[]
theorem zFG:∀{σ:List Nat} {u:List A} {S:Nat->A} {s:Nat},¬zIn σ s->app S (zCq σ u) s=S s
 |[],u,S,s,_=>by cases u<;>rfl
 |j::σ,[],S,s,_=>rfl
 |j::σ,l::r,S,s,h=>by show app (upd S (OB+j) l) (zCq σ r) s=_;rw[zFG (λe=>h ⟨e.1,vM _ e.2⟩),zE];intro e;subst e;exact h (zHx (by simp))
theorem zXC:∀{σ:List Nat} {J:List A} {S:Nat->A} {i j:Nat} {l:A},σ.Nodup->σ[i]? =some j->J[i]? =some l->app S (zCq σ J) (OB+j)=l
 |[],J,S,i,j,l,_,h,_=>by simp at h
 |x::σ,[],S,i,j,l,_,_,h=>by simp at h
 |x::σ,y::r,S,i,j,l,U,u,I=>by rw[List.nodup_cons]at U;show app (upd S (OB+x) y) (zCq σ r) (OB+j)=_;(cases i with|zero=>injection u with u;injection I with I;subst u I;rw[zFG (λe=>U.1 (zJg.1 e)),zK]|succ i=>exact zXC U.2 (by simpa using u) (by simpa using I))
theorem zKL(S:Nat->A)(e u:Eff):app S (e++u)=app (app S e) u:=by unfold app;rw[sS]
def argH(args:List A)(ins:List A)(f:Nat->A):Nat->A:=λs=>if s<OB then args.getD s .any else if OB2<=s then san (f (s-OB2))else match ins[s-OB]? with
 |some x=>x
 |none=> .free
def zGe(n:Nat):List Nat:=(List.range n).map (OB+·)
def FCK(K:Array Value->World->(Ending->World->Prop)->Prop)(args:List A)(ins outs:List A)(f f':Nat->A)(r:A):Prop:=
 ∀(w:World) (m:Mem) (o:OwnM) (I:Array Value),(∀b p u,m b p=some u->w.cell? ⟨b,p,none⟩=some u)->Mle TBL m->(∀g l,o g=some l->g<w.heap.size)->(∀g U l,o g=some l->o U=some l->g=U)->I.size=args.length->
  (∀s,RepA m w o (argH args ins f) s (argH args ins f s) (I.getD s undef))->
  K I w λe w'=>∃(u:Value) (m':Mem) (o':OwnM) (J:Nat->A) (Z:Act) (ρ:Nat),e= .returned u/\Inv w m o ⟨λg=>o g≠none,[]⟩ (zGe ins.length) J Z w' m' o'/\RepA m' w' o' J ρ r u/\(∀(i:Nat) (x:A),outs[i]? =some x->J (OB+i)=x)/\(∀c,J (OB+(OB+c))=san (f' c))/\ρ<OB
def FCH(P:Program)(fn:FuncId)(args:List A)(ins outs:List A)(f f':Nat->A)(r:A):Prop:=FCK (Calls P fn) args ins outs f f' r
def T.isLoc:T->Bool| .ptr _ _| .view _ _ _ _ _=>true| .mpt j=>Nat.blt j OB|_=>false
def zCO(f:Nat->A):Prop:=∀c l,f c= .box l->∀x∈l,x.isLoc=false
theorem zTF{f:Nat->A}(h:zCO f)(c:Nat):∀l,san (f c)= .box l->∀x∈l,x.isLoc=false:=by intro l hl;cases hf:f c<;>rw[hf]at hl<;>cases hl;exact h c _ hf
def movH(σ:List Nat)(o:OwnM):OwnM:=λg=>match o g with
 |some (s,k)=>if OB2<=s then some (s,k)else if OB<=s then(posN σ (s-OB)).map λi=>(OB+i,k)else none
 |none=>none
theorem zCF{σ:List Nat}(hn:σ.Nodup)(hl:σ.length<=OB)(Z:∀j∈σ,j<OB){g:Nat}{l:Nat×Nat}:movH σ o g=some l↔(∃c,l.1=OB+(OB+c)/\o g=some l)\/∃i j,l.1=OB+i/\i<OB/\σ[i]? =some j/\o g=some (OB+j,l.2):=by unfold movH;constructor;(intro h;split at h;(rename_i s k W;split at h;(rename_i I;cases h;exact .inl ⟨s-OB2,by rw[<-qX];show s=_;omega,W⟩);(split at h;(rename_i I U;(cases J:posN σ (s-OB)with|none=>grind|some i=>rw[J]at h;cases h;have hi:=zBG J;grind));cases h));cases h);(rintro(⟨c,u,I⟩|⟨i,j,u,hi,I,h3⟩);(obtain⟨s,k⟩:=l;have u:s=OB+(OB+c):=u;rw[I];simp only;rw[if_pos (by rw[u,<-qX];omega)]);(obtain⟨a,b⟩:=l;have u:a=OB+i:=u;subst u;have hj:=Z j (wD I);rw[h3];simp only;rw[if_neg (by unfold OB OB2 at*;omega),if_pos (by omega),wO,zCZ hn I];rfl))
def inH(τ:List Nat)(t:Nat):Prop:=OB2<=t\/zIn τ t
instance (τ:List Nat)(t:Nat):Decidable (inH τ t):=by unfold inH;exact inferInstance
def keptH(o:OwnM)(d:Nat)(τ:List Nat):OwnM:=λg=>match o g with
 |some (t,k)=>if t=d\/inH τ t then none else some (t,k)
 |none=>none
theorem zMW{d:Nat}{τ:List Nat}{g:Nat}{l:Nat×Nat}:keptH o d τ g=some l↔l.1≠d/\¬inH τ l.1/\o g=some l:=by unfold keptH;grind
def mixH(o o':OwnM)(d ρ:Nat)(τ:List Nat):OwnM:=λg=>match o' g with
 |some (t,k)=>if t=ρ then some (d,k)else if OB2<=t then some (t,k)else if OB<=t then(match τ[t-OB]? with|some j=>some (OB+j,k)|none=>keptH o d τ g)else keptH o d τ g
 |none=>keptH o d τ g
inductive PtR(τ:List Nat):T->T->Prop
 |flat {x:T} (h:x.isPt=false):PtR τ x x
 |hpt (c off:Nat):PtR τ (.hpt c off) (.hpt c off)
 |opt (t:Nat) (p:Option Nat):PtR τ (.opt t p) (.opt t p)
 |hvw (c off E k n:Nat):PtR τ (.hvw c off E k n) (.hvw c off E k n)
 |view {i j off E k n:Nat} (h:τ[i]? =some j):PtR τ (.view i off E k n) (.view j off E k n)
inductive PtRs(τ:List Nat):List T->List T->Prop
 |nil:PtRs τ [] []
 |cons {x y:T} {l l':List T} (h:PtR τ x y) (t:PtRs τ l l'):PtRs τ (x::l) (y::l')
theorem PtRs.get{τ:List Nat}{l l':List T}(h:PtRs τ l l'):l'.length=l.length/\∀(j:Nat) (y:T),l'[j]? =some y->∃x,l[j]? =some x/\PtR τ x y:=by(induction h with|nil=>grind|cons hx ht u=>grind)
theorem PtRs.refl{τ:List Nat}:∀{l:List T},l.all (λx=> !x.isPt)=true->PtRs τ l l
 |[],_=> .nil
 |x::l,h=>by simp only[uO,wH]at h;exact .cons (.flat (by simpa using h.1)) (PtRs.refl h.2)
inductive ResH(τ:List Nat):A->A->Prop
 |t {x y:T} (h:PtR τ x y):ResH τ (.t x) (.t y)
 |tup {l l':List T} (h:PtRs τ l l'):ResH τ (.tup l) (.tup l')
 |plain {x:A} (h:x.plain=true):ResH τ x x
 |cl {f:FuncId} {caps:List (List T)} (h:∀l∈caps,∀x∈l,PtR τ x x):ResH τ (.cl f caps) (.cl f caps)
def dhT:T->Bool
 | .d _| .hpt _ _| .opt _ _=>true
 |_=>false
inductive ArgH(σ:List Nat):A->A->Prop
 |plain {x y:A} (h:WkA x y) (hp:y.plain=true):ArgH σ x y
 |hpt (c off:Nat):ArgH σ (.t (.hpt c off)) (.t (.hpt c off))
 |opt {x:T} {t:Nat} {p:Option Nat} (h:WkT x (.opt t p)):ArgH σ (.t x) (.t (.opt t p))
 |hvw (c off E k n:Nat):ArgH σ (.t (.hvw c off E k n)) (.t (.hvw c off E k n))
 |view {i j off E k n:Nat} (h:σ[i]? =some j):ArgH σ (.t (.view j off E k n)) (.t (.view i off E k n))
 |ck (f:FuncId) (cs:List CkE):ArgH σ (.ck f cs) (.ck f cs)
 |cl (f:FuncId) {caps:List (List T)} (h:caps.all (λl=>l.all dhT)=true):ArgH σ (.cl f caps) (.cl f caps)
 |view0 {i j off E k n:Nat} (h:σ[i]? =some j):ArgH σ (.t (.view j off E k n)) (.t (.view i off 0 k n))
inductive zIL(σ:List Nat):List A->List A->Prop
 |nil:zIL σ [] []
 |cons {x y:A} {l l':List A} (h:ArgH σ x y) (t:zIL σ l l'):zIL σ (x::l) (y::l')
def A.flatO:A->Bool
 | .box l=>noPt l
 | .any=>true
 | .free=>true
 |_=>false
section
variable {m:Mem}{w:World}{o o':OwnM}
theorem zLY{τ:List Nat}(hh:∀g c,o g=some (OB+(OB+c),0)->o' g=some (OB+(OB+c),0))(hl:∀g i j,τ[i]? =some j->o g=some (OB+i,0)->o' g=some (OB+j,0)){loc loc':Nat×Nat}(ho:∀g,o g=some loc->o' g=some loc'){x y:T}(hx:PtR τ x y)(h:RepT m w o loc x v):RepT m w o' loc' y v:=by(cases hx with|flat hx=>exact h.reloc ho hx|>λh=>h|hpt c off=>obtain⟨g,I,u⟩:=h;exact⟨g,hh g c I,u⟩|opt t p=>exact h.imp id λ⟨i,e,g,I,u⟩=>⟨i,e,g,hh g _ I,u⟩|hvw c off E k n=>obtain⟨A',q,I,u,W,J⟩:=h;exact⟨A',q,I,u,W,J.imp id λ⟨g,U,Z,k1,k2⟩=>⟨g,U,Z,hh g c k1,k2⟩⟩|view hi=>obtain⟨A',q,I,u,W,J⟩:=h;exact⟨A',q,I,u,W,J.imp id λ⟨g,U,Z,k1,k2⟩=>⟨g,U,Z,hl g _ _ hi k1,k2⟩⟩)
theorem loc_rep(hh:∀g c,o g=some (OB+(OB+c),0)->o' g=some (OB+(OB+c),0)){loc loc':Nat×Nat}(u:∀g,o g=some loc->o' g=some loc'){x:T}(hx:x.isLoc=false)(h:RepT m w o loc x v):RepT m w o' loc' x v:=by(cases x with|ptr j off=>cases hx|view j off E k n=>cases hx|hpt c off=>exact zLY (τ:=[]) hh (λg i j h=>by simp at h) u (.hpt c off) h|opt t p=>exact zLY (τ:=[]) hh (λg i j h=>by simp at h) u (.opt t p) h|mpt j=>(have hj:¬j<OB:=by have hx:Nat.blt j OB=false:=hx;intro h;rw[show Nat.blt j OB=true by simpa using h]at hx;cases hx);obtain⟨c,rfl⟩:∃c,j=OB+c:=⟨j-OB,by omega⟩;obtain⟨g,J,I⟩:=h;exact⟨g,hh g c J,I⟩|hvw c off E k n=>exact zLY (τ:=[]) hh (λg i j h=>by simp at h) u (.hvw c off E k n) h|d x=>exact h|ags l1 α=>exact zEX.own u h|xs E k l rv=>obtain⟨A',cap,xs,e,J,I,W,Z⟩:=h;exact⟨A',cap,xs,e,J,λg U=>⟨u g (I g U).1,(I g U).2⟩,W,Z⟩|any=>exact h|agg l=>exact h|own E k l=>exact zLY (τ:=[]) hh (λg i j h=>by simp at h) u (.flat rfl) h)
end
end Go.Proofs.YtocolhfjpadaoaaGreatDoor
