/-
  Lemmas of this claim, joined.
-/
import Derived.Test.YtocolhfjpadaoaaGreatDoorR04
import Derived.Test.YtocolhfjpadaoaaGreatDoorProg
set_option linter.unusedVariables false
set_option linter.unusedSimpArgs false
set_option linter.constructorNameAsVariable false
namespace Go.Proofs.YtocolhfjpadaoaaGreatDoor
open Go
abbrev wR:=@Int.toNat_natCast
abbrev vI:=@List.length_set
abbrev vU:=@List.drop_of_length_le
abbrev uL:=@Int.eq_ofNat_of_zero_le
abbrev sJ:=@List.ext_getElem?
end Go.Proofs.YtocolhfjpadaoaaGreatDoor
namespace Go.Proofs.YtocolhfjpadaoaaGreatDoor
open Go Go.RowKit
variable {P:Program}{w0:World}{w:World}{m0:Mem}{m:Mem}{o0:OwnM}{o:OwnM}{G:GD}{pins:List Nat}{N:Nat}{a:Act}{op:Oper}{S:Nat->A}{M:Nat->A}{L:SL}{v:Value}{W:World}{Q:Mem}{X:OwnM}
def gbA{α:Type}(c:α->List D):List α->A
 |[]=> .free
 |a::l=> .box (fl (dT c) (a::l))
theorem gb_ne{α:Type}{c:α->List D}{y:List α}(h:y≠[]):gbA c y= .box (fl (dT c) y):=by(cases y with|nil=>grind|cons a l=>rfl)
theorem zTk{α:Type}{c:α->List D}{y:List α}{z:Int}{a:α}(h:idx y z=some a):gbA c y= .box (fl (dT c) y):=gb_ne λe=>by have:=(zGE h).2.2;rw[e]at this;simp at this
theorem gb_set{α:Type}{c:α->List D}{y:List α}{z:Int}{a b:α}{k:Nat}(h:idx y z=some a):A.box (fl (dT c) (y.set k b))=gbA c (y.set k b):=(gb_ne λe=>by have u:=(zGE h).2.2;(have:(y.set k b).length=0:=by rw[e];rfl);rw[vI]at this;rw[vF this]at u;simp at u).symm
theorem ob_gb{α:Type}(c:α->List D)(y:List α)(j:Nat):zCl j (gbA c y)=false:=by(cases y with|nil=>rfl|cons a l=>exact zTL (zMY c _) j)
theorem fl_at2{α:Type}{c:α->List D}{l:List α}{z:Int}{y:α}{k q:Nat}(h:idx l z=some y){d:D}(hd:(c y)[q]? =some d)(u:∀a,(c a).length=k):(fl (dT c) l)[0+z.toNat*k+q]? =some (.d d):=by(have hq:q<k:=by rw[<-u y];exact(wB.1 hd).1);have:=zSp (c:=dT c) (k:=k) (zKd u) (zGE h).2.2 hq;rw[vJ,this];show((c y).map T.d)[q]? =_;grind
theorem zHw{α:Type}{c:α->List D}{l:List α}{z:Int}{y:α}{k q:Nat}(h:idx l z=some y)(v:α)(u:∀a,(c a).length=k){x:List T}(hx:qZ (dT c y) q x=dT c v)(hq:Nat.ble (q+x.length) k=true):qZ (fl (dT c) l) (0+z.toNat*k+q) x=fl (dT c) (l.set z.toNat v):=by have:=fl_splice (c:=dT c) (k:=k) (zKd u) (zGE h).2.2 (q:=q) (b:=v) (d:=x) hx (by simpa using hq);grind
theorem zF4{α:Type}{c:α->List D}{l:List α}{z:Int}{y:α}{k q n:Nat}(h:idx l z=some y)(J:∀a,(c a).length=k)(hq:Nat.ble (q+n) k=true):0+z.toNat*k+q+n<=(fl (dT c) l).length:=by have Z:=zGE h;rw[zOD (zKd J)];(have u:z.toNat+1<=l.length:=by omega);have I:=uC k u;rw[Nat.succ_mul]at I;(have U:q+n<=k:=by simpa using hq);omega
def NoM(j:Nat)(ex:List Nat)(L:SL):Prop:=∀s,ex.contains s=false->zCl j (gt L s)=false
theorem NoM.nil{j:Nat}{ex:List Nat}:NoM j ex []:=λ_ _=>rfl
theorem NoM.cons{j:Nat}{ex:List Nat}{s:Nat}{x:A}(h:zCl j x=false)(hr:NoM j (s::ex) L):NoM j ex ((s,x)::L):=λt ht=>by rw[zR];unfold upd;by_cases e:t=s;rw[if_pos e];exact h;(rw[if_neg e];exact hr t (by rw[List.contains_cons,ht,Bool.or_false];exact beq_eq_false_iff_ne.2 e))
theorem NoM.skip{j:Nat}{ex:List Nat}{s:Nat}{x:A}(h:ex.contains s=true)(hr:NoM j ex L):NoM j ex ((s,x)::L):=λt ht=>by rw[zR];unfold upd;by_cases e:t=s;rw[e,h]at ht;cases ht;rw[if_neg e];exact hr t ht
def anyE(u:List Nat):Eff:=u.map λs=>(s,A.any)
theorem zNu(S:Nat->A):∀(u:List Nat) (t:Nat),app S (anyE u) t=if u.contains t then A.any else S t:=by intro u;(induction u generalizing S with|nil=>intro t;rfl|cons s r I=>intro t;show app (upd S s .any) (anyE r) t=_;rw[I];by_cases h:r.contains t=true;rw[if_pos h,if_pos (by rw[List.contains_cons,h,Bool.or_true])];(rw[if_neg h];unfold upd;grind))
section
variable {w0:World}{m0:Mem}{o0:OwnM}{G:GD}{pins:List Nat}{S M:Nat->A}{P:Program}{N:Nat}{Q:Exit->SL->Prop}{L:SL}{op:Oper}{d:Nat}
theorem fl_rows{α:Type}(c:α->List D)(l:List α):fl (dT c) l=((l.map c).flatMap id).map T.d:=zLG c l
theorem h_apg{α:Type}{c:α->List D}(hM:Mk M S){j E k nb t:Nat}{x y:Operand}{l l':List α}{e:Eff}(J:List Nat)(ε:op.op= .call {callee:= .builtin .append,args:=⟨[x,y]⟩,argTypes:=⟨[t,t]⟩})(hE:elF P t=some (E,k,nb))(η:cpO M x= .t (.view j 0 E k l.length))(hb:M (OB+j)=gbA c l)(hc:∀a,(c a).length=k)
(hy:slD k (dO M y)=some (l'.map c))(u:0<l'.length)(ι:(l.length+l'.length)*nb<=140737488355328)(hd:op.dst=some d)(γ:okD N pins S d=true)(hj:((Nat.blt 0 E&&Nat.blt E OFB)&&Nat.blt (j+1) OB&& !pins.contains (OB+j)&&J.all (λs=>Nat.blt s OB&& !(S s).isBox))=true)
(hm:∀s,((OB+j)::J).contains s=false->zCl j (S s)=false)(hh:S HK= .any\/∃f,S HK= .hp f/\zDy f)(he:anyE J++[(OB+j,gbA c (l++l')),(d,.t (.view j 0 E k (l++l').length))]=e):OpH P pins N op S (app S e):=by
 subst he
 intro hN θ
 simp only[wI,vX,vP,decide_eq_false_iff_not]at hj
 obtain⟨⟨⟨c1,c2⟩,c3⟩,c4⟩:=hj
 obtain⟨e1,e2,e3⟩:=zTu c2
 have μ:E<OFB:=by simpa using c1.2
 have U:=qG hN γ
 have β:∀s,J.contains s=true->s<OB/\(S s).isBox=false:=λs hs=>by have:=wG.1 c4 s (by simpa using hs);simp only[wI,vX]at this;exact⟨by simpa using this.1,this.2⟩
 have κ:l++l'≠[]:=λh=>by have:=(List.append_eq_nil_iff.1 h).2;rw[this]at u;simp at u
 have I:Low (app S (anyE J)):=λt ht=>by rw[zNu];split;rfl;exact θ t ht
 have ξ:app S (anyE J++[(OB+j,gbA c (l++l')),(d,.t (.view j 0 E k (l++l').length))])=upd (upd (app S (anyE J)) (OB+j) (gbA c (l++l'))) d (.t (.view j 0 E k (l++l').length)):=by unfold app;rw[List.foldl_append];rfl
 rw[ξ]
 refine⟨?_,(I.upd e1).upd (lt2 U)⟩
 rw[zCJ (lt2 U) (by unfold HK;unfold OB at U;omega),zCJ e1 e2]
 have δ:app S (anyE J) HK=S HK:=by rw[zNu,if_neg];intro h;have:=(β HK h).1;unfold HK OB at this;omega
 have W:∀s,hx (app S (anyE J)) s=hx S s\/(hx (app S (anyE J)) s= .any/\(hx S s).isBox=false):=λs=>by rcases wY s OB2 with h2|h2;(rw[zDY h2,zDY h2,zNu];split;rename_i h;exact .inr ⟨rfl,(β s h).2⟩;exact .inl rfl);(refine .inl ?_;unfold hx;rw[I s h2,θ s h2];simp only;rw[δ])
 have ν:∀s,s≠OB+j->zCl j (hx (app S (anyE J)) s)=false:=λs hs=>by rcases wY s OB2 with h2|h2;(rw[zDY h2,zNu];split;rfl;(rename_i h;refine hm s ?_;rw[List.contains_cons];simp only[Bool.or_eq_false_iff];exact⟨beq_eq_false_iff_ne.2 hs,by simpa using h⟩));(obtain⟨k,rfl⟩:∃k,s=OB2+k:=⟨s-OB2,by omega⟩;exact zJm I (by rw[δ];exact hh) k)
 rw[gb_ne κ,fl_rows,sW]
 have ζ:(l++l').length=(l.map c++l'.map c).length:=by simp
 rw[ζ]
 have Z:S (OB+j)=gbA c l:=by rcases hM (OB+j)with h|h;(rw[h]at hb;(cases l with|nil=>cases hb|cons a r=>cases hb));rw[<-h,hb]
 cases l with
  |nil=>
   refine ok_apg1 hM.hx ε hd (qR hN γ) U hE η (zBq Z (by intro h;cases h)) hy (by simpa using u) (by simpa using ι) W ?_ μ
   rcases W (OB+j)with h|⟨h,_⟩
   · rw[h,zBq Z (by intro h;cases h)];rfl
   · rw[zDY e1,zNu]at h;split at h;(rename_i h2;have:=(β _ h2).1;omega);rw[Z]at h;cases h
  |cons a r=>
   refine ok_apg (l:=(a::r).map c) hM.hx ε hd (qR hN γ) U hE e3 c3 (by rw[wL];exact η) (zBq (by rw[Z,gb_ne (by simp),fl_rows]) (by simp)) (λq hq=>by obtain⟨b,_,rfl⟩:=vQ.1 hq;exact hc b) hy (by simpa using u) (by simpa using ι) (by simp only[wI];exact c1) W ν
theorem NoM.get{j:Nat}{ex:List Nat}(h:NoM j ex L):∀s,ex.contains s=false->zCl j (gt L s)=false:=h
theorem h_apgI{α:Type}{c:α->List D}(hM:Mk M S){j E k Z t:Nat}{x y:Operand}{l l' z:List α}{e:Eff}(I:List Nat)(hz:appI Z l l'=some z)(U:op.op= .call {callee:= .builtin .append,args:=⟨[x,y]⟩,argTypes:=⟨[t,t]⟩})(W:elF P t=some (E,k,Z))(hx:cpO M x= .t (.view j 0 E k l.length))(hb:M (OB+j)=gbA c l)(hc:∀a,(c a).length=k)
(hy:slD k (dO M y)=some (l'.map c))(u:0<l'.length)(hd:op.dst=some d)(J:okD N pins S d=true)(hj:((Nat.blt 0 E&&Nat.blt E OFB)&&Nat.blt (j+1) OB&& !pins.contains (OB+j)&&I.all (λs=>Nat.blt s OB&& !(S s).isBox))=true)
(hm:∀s,((OB+j)::I).contains s=false->zCl j (S s)=false)(hh:S HK= .any\/∃f,S HK= .hp f/\zDy f)(he:anyE I++[(OB+j,gbA c z),(d,.t (.view j 0 E k z.length))]=e):OpH P pins N op S (app S e):=by
 obtain⟨h1,rfl⟩:=zNi hz
 exact h_apg hM I U W hx hb hc hy u h1 hd J hj hm hh he
theorem st_frzG{α:Type}{cc:α->List D}{L':SL}{y:List α}(d j:Nat){E k:Nat}(hd:gt L d= .t (.view j 0 E k y.length))(hb:gt L (OB+j)=gbA cc y)(ζ:∀a,(cc a).length=k)
(hc:(Nat.blt d OB&&Nat.blt (j+1) OB&& !pins.contains (OB+j)&& !pins.contains d&&Nat.blt 0 k&&zIQ j d L)=true)(hh:zO5 L)(hL:(d,.t (.d (.seq k (y.map cc))))::(OB+j,.free)::zB3 j d L=L'){w0:World}{m0:Mem}{o0:OwnM}{G:GD}{a:Act}{w:World}(hS:St w0 m0 o0 G pins N L a w):St w0 m0 o0 G pins N L' a w:=by
 cases y with
  |cons b r=>exact st_frz d j (l:=fl (dT cc) (b::r)) (rs:=(b::r).map cc) hd hb (by simp) (zLG _ _) (zOf ζ _) hc hh hL hS
  |nil=>
   subst hL
   simp only[wI,vX,vP,decide_eq_false_iff_not]at hc
   obtain⟨⟨⟨⟨⟨J,c2⟩,c3⟩,c4⟩,c5⟩,c6⟩:=hc
   have J:d<OB:=by simpa using J
   have c2:j+1<OB:=by simpa using c2
   obtain⟨hN,ε,m,o,I⟩:=hS
   have η:∀s,gt (zB3 j d L) s=gt L s\/(gt (zB3 j d L) s= .any/\(gt L s).isBox=false):=λs=>by rw[zDU];(cases hm:(Nat.blt s OB&&(zCl j (gt L s)&& !Nat.beq s d))with|true=>exact .inr ⟨rfl,zHU c6 s hm⟩|false=>exact .inl rfl)
   have δ:gt (zB3 j d L) HK=gt L HK:=zBb L (by unfold HK OB;omega)
   obtain⟨Z,γ⟩:=zNx ε δ η
   have u:=I.less γ
   have e1:OB+j<OB2:=by unfold OB OB2 at*;omega
   have e2:OB+j≠HK:=by unfold HK;unfold OB at*;omega
   have U:hx (gt (zB3 j d L)) d= .t (.view j 0 E k 0):=by rw[zDY (lt2 J),zDU,hd];simp
   have W:hx (gt (zB3 j d L)) (OB+j)= .free:=by rw[zDY e1,zBb L (vD _ _),hb];rfl
   have β:=u.slots d
   rw[U]at β
   obtain⟨A',c0,q2,q3,q5,q4⟩:=β
   have hf:∀g k,o g≠some (OB+j,k):=by have:=u.slots (OB+j);rw[W]at this;exact this
   have θ:c0=0:=q4.resolve_right λ⟨g,cs,_,z,_⟩=>hf g 0 z
   refine⟨hN,?_,m,o,?_⟩
   · rw[zR,zR];exact(Z.upd e1).upd (lt2 J)
   · rw[zR,zR,zCJ (lt2 J) (by unfold HK;unfold OB at J;omega),zCJ e1 e2];(have he:upd (hx (gt (zB3 j d L))) (OB+j) .free=hx (gt (zB3 j d L)):=by funext t;unfold upd;split;rename_i e;rw[e,W];rfl);rw[he];refine⟨u.same,u.sat,u.mono,u.old,u.own,u.lt,u.inj,u.pinned,λs=> ?_,u.defers,u.tbl,u.wide,u.shps⟩;by_cases e:s=d;(subst e;rw[zT,q5];exact RepD.seq k [] A' c0 0 0 (λ_ _=>undef) (uF _) q3 (λh=>absurd rfl h) (λi r h=>by simp at h) (λi r j d h=>by simp at h) (λi r j d h=>by simp at h));(rw[zE e];refine(u.slots s).turn λb l hb=>⟨l,?_⟩;rw[zE (λe3=>by rw[e3,U]at hb;cases hb),hb])
end
section
variable {w0:World}{m0:Mem}{o0:OwnM}{G:GD}{pins:List Nat}{S M:Nat->A}{a:Act}{w:World}{m:Mem}{o:OwnM}{P:Program}{N:Nat}{op:Oper}{d:Nat}
theorem h_max(U:Mk M S){ts:Array TypeId}{x y:Operand}{k ky:IntKind}{a b:Int}(J:op.op= .call {callee:= .builtin .max,args:= #[x,y],argTypes:=ts})(hx:vO M x=some (.int k a))(hy:vO M y=some (.int ky b))(hd:op.dst=some d)(u:okD N pins S d=true):OpH P pins N op S (app S [(d,.t (.d (.lit (.int k (if b>a then b else a)))))]):=by refine .of (e:=[(d,_)]) λZ=>⟨?_,zBz (qG Z u)⟩;refine zL λw0 m0 o0 G ac w m o W I=> ?_;obtain⟨h1,h2,h3⟩:=zS (qR Z u);refine⟨.int k (if b>a then b else a),w,m,o,?_,by rw[hd];exact I.set d _ _ (by omega) h2 (.lit _ rfl)⟩;unfold execOp;rw[J];simp only[resolve,invoke,builtin,wE,wU,wD,vA,vB,uB];rw[zCK U.hx I hx,zCK U.hx I hy];simp[Builtin.max_,Builtin.max2]
end
section
variable {α:Type}{c:α->List D}{z:α}{k:Nat}
def ar(c:α->List D)(z:α)(l:List α):Nat->Nat->List D
 |_,0=>[]
 |i,n+1=>c (l.getD i z)++ar c z l (i+1) n
def padA(z:α)(l:List α):Nat->Nat->List α
 |_,0=>[]
 |i,n+1=>l.getD i z::padA z l (i+1) n
theorem zPx(l:List α):∀(n i:Nat),(padA z l i n).length=n
 |0,_=>rfl
 |n+1,i=>congrArg (· +1) (zPx l n (i+1))
theorem ar_pad(l:List α):∀(n i:Nat),ar c z l i n=fl c (padA z l i n)
 |0,_=>rfl
 |n+1,i=>congrArg (c (l.getD i z)++·) (ar_pad l n (i+1))
theorem zRz(l:List α):∀(n i:Nat),i+n=l.length->padA z l i n=l.drop i
 |0,i,h=>by rw[vU (by omega)];rfl
 |n+1,i,h=>by(have u:i<l.length:=by omega);show l.getD i z::padA z l (i+1) n=_;rw[zRz l n (i+1) (by omega),uD u,wK,wF u];rfl
theorem padA_id{l:List α}{n:Nat}(h:l.length=n):padA z l 0 n=l:=by rw[zRz l n 0 (by omega)];rfl
theorem ar_id{l:List α}{n:Nat}(h:l.length=n):ar c z l 0 n=fl c l:=by rw[ar_pad,padA_id h]
theorem zQo{β:Type}{f:α->List β}(hf:∀a,(f a).length=1):∀(x:List α) (i:Nat),(fl f x).take i=fl f (x.take i)
 |[],i=>by simp[fl]
 |a::t,0=>by simp[fl]
 |a::t,i+1=>by have h:=hf a;show(f a++fl f t).take (i+1)=f a++fl f (t.take i);rw[<-zQo hf t i];(match u:f a,h with|[b],_=>rfl)
theorem zPq{β:Type}{f:α->List β}(hf:∀a,(f a).length=1):∀(x:List α) (i:Nat),(fl f x).drop i=fl f (x.drop i)
 |[],i=>by simp[fl]
 |a::t,0=>by simp
 |a::t,i+1=>by have h:=hf a;show(f a++fl f t).drop (i+1)=fl f (t.drop i);rw[<-zPq hf t i];(match u:f a,h with|[b],_=>rfl)
theorem zRO{β:Type}(f:α->List β)(x y:List α):fl f (x++y)=fl f x++fl f y:=List.flatMap_append
theorem flr_at{l:List α}{z:Int}{y:α}{k:Nat}(h:idx l z=some y)(u:∀a,(c a).length=k):((fl (dT c) l).drop (0+z.toNat*k)).take k=dT c y:=by rw[vJ];exact fl_row (zKd u) (zGE h).2.2
def s2aI(n:Nat)(l:List α):Option (List α):=if n<=l.length then some (l.take n)else none
theorem zTC{n:Nat}{l x:List α}(h:s2aI n l=some x):n<=l.length/\x=l.take n:=by unfold s2aI at h;grind
theorem s2a_row{n:Nat}{l x:List α}(h:s2aI n l=some x):((l.map c).take n).flatMap id=ar c z x 0 n:=by obtain⟨u,rfl⟩:=zTC h;rw[ar_id (by rw[vZ];omega),<-List.map_take];unfold fl;rw[List.flatMap_map];rfl
def cpyL(x:List α)(off n:Nat)(y:List α):List α:=x.take off++(y.take n++x.drop (off+min y.length n))
def cpyI(x:List α)(off n:Nat)(y:List α):Option (List α):=if off+n<=x.length then some (cpyL x off n y)else none
theorem zTb{x y v:List α}{off n:Nat}(h:cpyI x off n y=some v):off+n<=x.length/\v=cpyL x off n y:=by unfold cpyI at h;grind
theorem cpy_row(I:∀a,(c a).length=1)(x y:List α)(off n:Nat):qZ (fl (dT c) x) off ((((y.map c).take n).flatMap id).map T.d)=fl (dT c) (cpyL x off n y):=by(have u:((((y.map c).take n).flatMap id).map T.d)=fl (dT c) (y.take n):=by rw[<-List.map_take,<-zLG]);have hd:=zKd I;(have J:(fl (dT c) (y.take n)).length=min y.length n:=by rw[zOD hd,vZ];omega);unfold qZ cpyL;rw[u,J,zQo hd,zPq hd,zRO,zRO,vW]
def zGp(x:List α)(off n:Nat):Option (List α):=if off+n<=x.length then some ((x.drop off).take n)else none
theorem zPN{x y:List α}{off n:Nat}(h:zGp x off n=some y):off+n<=x.length/\y=(x.drop off).take n:=by unfold zGp at h;grind
def vcut(n:Nat)(lo hi:Int):Option Unit:=if 0<=lo/\lo<=hi/\hi<=n then some ()else none
theorem zCi{n:Nat}{lo hi:Int}{u:Unit}(h:vcut n lo hi=some u):0<=lo/\lo<=hi/\hi<=n:=by unfold vcut at h;grind
end
section
variable {w0:World}{m0:Mem}{o0:OwnM}{G:GD}{pins:List Nat}{S M:Nat->A}{a:Act}{w:World}{m:Mem}{o:OwnM}{P:Program}{N:Nat}{op:Oper}{d c:Nat}{f f':Nat->A}
theorem Inv.tell(I:Inv w0 m0 o0 G pins S a w m o)(d:Nat)(x:A)(u:(S d).isBox=false)(hx:RepA m w o (upd S d x) d x (a.tmps.getD d undef)):Inv w0 m0 o0 G pins (upd S d x) a w m o:=by refine⟨I.same,I.sat,I.mono,I.old,I.own,I.lt,I.inj,I.pinned,λs=> ?_,I.defers,I.tbl,I.wide,I.shps⟩;by_cases e:s=d;(subst e;rw[zT];exact hx);(rw[zE e];refine(I.slots s).turn λb l hb=>⟨l,?_⟩;rw[zE (λe=>by rw[e]at hb;rw[hb]at u;cases u),hb])
theorem OpOK.post{U J:Nat->A}(h:OpOK P pins N op S U)(k:∀w0 m0 o0 G a w m o,Inv w0 m0 o0 G pins U a w m o->Inv w0 m0 o0 G pins J a w m o):OpOK P pins N op S J:=
 λw0 m0 o0 G a w m o hN I K Q W=>h w0 m0 o0 G a w m o hN I K Q λZ w' m' o' u I'=>W Z w' m' o' u (k _ _ _ _ _ _ _ _ I')
theorem OpH.lo2{j:Nat}{W Z:A}(hj:Nat.blt (j+1) OB=true)(J:okD N pins S d=true)(h:N<=OB->Low S->OpOK P pins N op (hx S) (app (hx S) [(OB+j,W),(d,Z)])):OpH P pins N op S (app S [(OB+j,W),(d,Z)]):=by intro hN I;obtain⟨U,e2,e3⟩:=zTu hj;have u:=qG hN J;refine⟨?_,(I.upd U).upd (lt2 u)⟩;show OpOK P pins N op (hx S) (hx (upd (upd S (OB+j) _) d _));rw[zCJ (lt2 u) (by unfold HK;unfold OB at u;omega),zCJ U e2];exact h hN I
theorem zTi(u:Mk M S){j:Nat}(h:M (OB+j)= .free):hx S (OB+j)= .free:=by rcases u (OB+j)with e|e;grind;rw[e]at h;exact zBq h (by simp)
theorem zQT(u:Mk M S){j:Nat}{l:List T}(h:M (OB+j)= .box l):hx S (OB+j)= .box l:=by rcases u (OB+j)with e|e;grind;rw[e]at h;exact zBq h (by simp)
theorem ok_s2a(hM:Mk M S){t n e k:Nat}{x:Operand}{l:List (List D)}(α:op.op= .sliceToArrayPointer t x)(hu:P.underlying t=some (.array n e))(hx:dO M x=some (.seq k l))(hk:0<k)(ζ:0<n)(hn:n<=l.length)(hd:op.dst=some d)(δ:okD N pins S d=true):
 OpOK P pins N op S (upd S d (.imm ((l.take n).flatMap id))):=by
 refine zL λw0 m0 o0 G a w m o hN I=> ?_
 obtain⟨h1,h2,h3⟩:=zS δ
 have hr:=zG2 hM I hx
 generalize hv:a.eval x=v at hr
 cases hr with
  |seq _ _ A' cap g p fv η θ hA hw hm hr=>
   have W:l≠[]:=λe=>by rw[e]at hn;simp at hn;omega
   have hA:=hA W
   subst hA
   refine⟨.pointer (some ⟨g,p,none⟩),w,m,o,?_,by rw[hd];refine I.set d _ _ (by omega) h2 ⟨g,p,rfl,λj dd hj=> ?_⟩;(have J:∀r∈l.take n,r.length=k:=λr hr=>by obtain⟨i,hi⟩:=uG (List.mem_of_mem_take hr);grind);(have Z:j<n*k:=by have:=(wB.1 hj).1;rw[zGO J,vZ]at this;grind);have U:j/k<n:=sL (by rw[tC];exact Z);have β:j %k<k:=Nat.mod_lt _ hk;(have he:j/k*k+j %k=j:=by rw[tC];exact Nat.div_add_mod j k);(have γ:j/k<l.length:=by omega);obtain⟨r,u⟩:∃r,l[j/k]? =some r:=⟨_,wF γ⟩;(have ε:(l.take n)[j/k]? =some r:=by rw[vR,if_pos U];exact u);have h5:=zEk J ε β;rw[he,hj]at h5;refine⟨fv (j/k) (j %k),?_,hr _ r _ dd u h5.symm⟩;have:=hm _ r _ dd u h5.symm;rw[Nat.add_assoc,he]at this;exact this⟩
   unfold execOp
   rw[α]
   simp only[wE]
   rw[hv]
   simp[Instr.arrayAt,run_underlying hu]
   grind
theorem h_s2a{α:Type}{cc:α->List D}{l y:List α}{z:α}(U:Mk M S){t n e k:Nat}{x:Operand}(I:op.op= .sliceToArrayPointer t x)(Z:P.underlying t=some (.array n e))(hx:dO M x=some (.seq k (l.map cc)))(hk:(Nat.blt 0 k&&Nat.blt 0 n)=true)(hn:s2aI n l=some y)(hd:op.dst=some d)(u:okD N pins S d=true):
 OpH P pins N op S (app S [(d,.imm (ar cc z y 0 n))]):=by
 simp only[wI]at hk
 rw[<-s2a_row (z:=z) hn]
 exact .of (e:=[(d,_)]) λJ=>⟨ok_s2a U.hx I Z hx (by simpa using hk.1) (by simpa using hk.2) (by rw[wL];exact(zTC hn).1) hd (qR J u),zBz (qG J u)⟩
theorem h_mkh(hM:Mk M S)(hk:S HK= .hp f){t e q E:Nat}{xn xc:Operand}{kl kc:IntKind}{n:Int}{u:TypeInfo}{z:Value}{c0 l:List T}(α:op.op= .makeSlice t xn xc)(hn:vO M xn=some (.int kl n))(hc:vO M xc=some (.int kc n))(hu:P.underlying t=some (.slice e))(ζ:P.info? e=some u)(hz:u.zero=some z)
(W:zGs (litA z)=some c0)(δ:c0.length=u.size)(hE:u.size=E)(hq:mkI u.bytes n=some q)(hl:fl (λ_=>c0) (List.replicate q ())=l)(hd:op.dst=some d)(U:okD N pins S d=true)(hf:f c= .free)(γ:f'=updF f c (.box l))(Z:Nat.blt e OFB=true):
 OpH P pins N op S (app S [(HK,.hp f'),(d,.t (.hvw c 0 e E q))]):=by
 subst hl hE
 refine h_mk hk γ U λhN ε=> ?_
 have β:=qG hN U
 refine(ok_make (j:=OB+c) hM.hx α hn hc hu ζ hz W δ hq hd (qR hN U) (by simpa using β) (zSC ε hk hf) (.inl ⟨rfl,by simpa using Z⟩)).post λw0 m0 o0 G a w m o I=> ?_
 have h:=I.slots d
 show Inv w0 m0 o0 G pins (upd (upd (hx S) (OB+(OB+c)) _) d _) a w m o
 have h1:app (hx S) [(OB+(OB+c),A.box (fl (λ_=>c0) (List.replicate q ()))),(d,.t (.view (OB+c) 0 e u.size q))] d= .t (.view (OB+c) 0 e u.size q):=zT _ _ _
 rw[h1]at h
 have J:=I.tell d (.t (.hvw c 0 e u.size q)) (by rw[h1];rfl) h
 have e2:upd (app (hx S) [(OB+(OB+c),A.box (fl (λ_=>c0) (List.replicate q ()))),(d,.t (.view (OB+c) 0 e u.size q))]) d (.t (.hvw c 0 e u.size q))=upd (upd (hx S) (OB+(OB+c)) (.box (fl (λ_=>c0) (List.replicate q ())))) d (.t (.hvw c 0 e u.size q)):=zRL _ _ _ _
 grind
theorem h_mko{α:Type}{c:α->List D}(hM:Mk M S){t e I q:Nat}{xn xc:Operand}{kl kc:IntKind}{n:Int}{ie:TypeInfo}{z:Value}{rs:List (List D)}(W:op.op= .makeSlice t xn xc)(hn:vO M xn=some (.int kl n))(hc:vO M xc=some (.int kc n))(hE:elF P t=some (e,1,I))(U:P.info? e=some ie)(hz:ie.zero=some z)(Z:z.cells= #[z])(J:z.oneCell'=true)(β:I=I)
(hq:mkI I n=some q)(hr:List.replicate q [.lit z]=rs)(hd:op.dst=some d)(u:okD N pins S d=true):OpH P pins N op S (app S [(d,.t (.own e 1 rs))]):=by
 subst hr
 exact .of (e:=[(d,_)]) λhN=>⟨ok_mko (sz:=0) hM.hx W hn hc hE U hz Z J hq hd (qR hN u),zBz (qG hN u)⟩
theorem ok_lmk{j:Nat}{l:List T}(hd:op.dst=some d)(β:okD N pins S d=true)(γ:d<OB)(U:S (OB+j)= .free)
(h:∀(w0:World) (m0:Mem) (o0:OwnM) (G:GD) (a:Act) (w:World) (m:Mem) (o:OwnM),Inv w0 m0 o0 G pins S a w m o->∃v W E,(execOp a.eval op).run P w= .ok (.value v) (w.alloc (.cells W E))/\l.length<=W.size/\
  (∀(i:Nat) (x:T),l[i]? =some x->x.noOwn=true/\∃u,W[i]? =some u/\RepT m w o (0,0) x u)/\v= .pointer (some ⟨w.heap.size,0,none⟩)):
 OpOK P pins N op S (app S [(OB+j,.box l),(d,.t (.ptr j 0))]):=by
 refine zL λw0 m0 o0 G a w m o hN I=> ?_
 obtain⟨h1,h2,h3⟩:=zS β
 obtain⟨v,W,E,Z,α,hc,rfl⟩:=h w0 m0 o0 G a w m o I
 refine⟨_,w.alloc (.cells W E),m,newO o (OB+j) w.heap.size,Z,?_⟩
 rw[hd]
 have J:=I.obj_new (E:=E) U α hc
 exact J.set d _ _ (by omega) (by rw[zE (by omega)];exact h2) ⟨_,zAO _ _ _,rfl⟩
theorem h_lnew(hM:Mk M S){j E:Nat}{i:TypeInfo}{z:Value}{l0 l:List T}(α:op.op= .alloc E)(hi:P.info? E=some i)(hz:i.zero=some z)(hl:zGs (litA z)=some l0)(W:l0=l)(hd:op.dst=some d)(J:okD N pins S d=true)(hj:Nat.blt (j+1) OB=true)(U:M (OB+j)= .free):
  OpH P pins N op S (app S [(OB+j,.box l),(d,.t (.ptr j 0))]):=by
 subst W
 refine .lo2 hj J λhN β=> ?_
 refine ok_lmk hd (qR hN J) (qG hN J) (zTi hM U) λw0 m0 o0 G a w m o I=> ?_
 have Z:zDS (litA z)=some l0:=by
  revert hl
  generalize litA z=y
  intro hl
  cases y with
  |t y=>cases y<;>first|exact hl|cases hl
  |_=>cases hl
 obtain⟨k1,k2,k3⟩:=zFI Z (zF9 (m:=m) (w:=w) (o:=o) (S:=S) 0 z)
 refine⟨_,z.cells,E,?_,by simpa using Nat.le_of_eq k1.symm,λi x hx=> ?_,rfl⟩
 ·
  unfold execOp
  rw[α]
  simp[Instr.alloc,zeroValue,typeInfo,hi,hz,newVar,newRow]
 ·
  obtain⟨q1,u,q2,q3⟩:=k3 i x hx
  exact⟨zGo Z x (wC hx),u,by simpa using q2,q3 _ _ (zBc.refl w)⟩
theorem h_lbox(hM:Mk M S){j E:Nat}{x:Operand}{l0 l:List T}(W:op.op= .box E x)(hl:zDS (cpO M x)=some l0)(Z:l0=l)(hd:op.dst=some d)(J:okD N pins S d=true)(hj:Nat.blt (j+1) OB=true)(U:M (OB+j)= .free):
 OpH P pins N op S (app S [(OB+j,.box l),(d,.t (.ptr j 0))]):=by
 subst Z
 refine .lo2 hj J λhN α=> ?_
 refine ok_lmk hd (qR hN J) (qG hN J) (zTi hM U) λw0 m0 o0 G a w m o I=> ?_
 obtain⟨k1,k2,k3⟩:=zFI hl (qA hM.hx I x 0)
 refine⟨_,(a.eval x).cells,E,?_,by simpa using Nat.le_of_eq k1.symm,λi x hx=> ?_,rfl⟩
 · unfold execOp;rw[W];simp[Instr.box,newVar,newRow]
 · obtain⟨q1,u,q2,q3⟩:=k3 i x hx;exact⟨zGo hl x (wC hx),u,by simpa using q2,q3 _ _ (zBc.refl w)⟩
theorem zT1{n:Nat}{l0 h0:Option Int}{kl kh:Int->IntKind}(J:0<=l0.getD 0/\l0.getD 0<=h0.getD n/\h0.getD n<=n):
 (Instr.sliceBounds false n n (l0.map λz=> .int (kl z) z) (h0.map λz=> .int (kh z) z) none).run P w= .ok ((l0.getD 0).toNat,(h0.getD n).toNat,n) w:=by
 have I:(l0.map Int.toNat).getD 0=(l0.getD 0).toNat:=by cases l0<;>rfl
 have u:(h0.map Int.toNat).getD n=(h0.getD n).toNat:=by cases h0<;>simp
 rw[<-I,<-u]
 unfold Instr.sliceBounds
 cases l0<;>cases h0<;>simp only[Option.getD_none,uT,sF,uO,sX,sC]at J⊢ <;>
  (simp only[wE,wU,wD]
   repeat(rw[zBu (by omega) (by omega),wD]))
theorem sla_run{t n e g off:Nat}{I:TypeInfo}{l0 h0:Option Int}{kl kh:Int->IntKind}(J:P.underlying t=some (.array n e))(u:P.info? e=some I)(U:0<=l0.getD 0/\l0.getD 0<=h0.getD n/\h0.getD n<=n):
 (Instr.sliceAt t (.pointer (some ⟨g,off,none⟩)) (l0.map λz=> .int (kl z) z) (h0.map λz=> .int (kh z) z) none).run P w= .ok (.slice (some (if n=(l0.getD 0).toNat then⟨g,off,none⟩else⟨g,off+(l0.getD 0).toNat*I.size,none⟩)) ((h0.getD n).toNat-(l0.getD 0).toNat) (n-(l0.getD 0).toNat)) w:=by
 unfold Instr.sliceAt
 simp only[wE,run_underlying J,wD]
 rw[show(Instr.sureAddr (.pointer (some ⟨g,off,none⟩))).run P w= .ok ⟨g,off,none⟩ w from rfl,wD,zT1 U]
 simp[sizeOf,typeInfo,u,Addr.add_mid]
theorem ok_sla{j off n t e:Nat}{x:Operand}{lo hi:Option Operand}{l0 h0:Option Int}{u:TypeInfo}{l:List T}(hM:Mk M S)(J:op.op= .slice t x lo hi none)(hx:∀{w0 m0 o0 G a w m o},Inv w0 m0 o0 G pins S a w m o->∃g,o g=some (OB+j,0)/\a.eval x= .pointer (some ⟨g,off,none⟩))(hb:S (OB+j)= .box l)(W:bndO M lo=some l0)(U:bndO M hi=some h0)(hu:P.underlying t=some (.array n e))(α:P.info? e=some u)
(β:off+n*u.size<=l.length)(hn:n<=65536)(hc:0<=l0.getD 0/\l0.getD 0<=h0.getD n/\h0.getD n<=n)(hd:op.dst=some d)(Z:okD N pins S d=true):
 OpOK P pins N op S (upd S d (.t (.view j (off+(l0.getD 0).toNat*u.size) 0 u.size ((h0.getD n).toNat-(l0.getD 0).toNat)))):=by
 refine zL λw0 m0 o0 G a w m o hN I=> ?_
 obtain⟨h1,h2,h3⟩:=zS Z
 obtain⟨g,k1,k2⟩:=hx I
 have hs:=I.slots (OB+j)
 rw[hb]at hs
 obtain⟨g',_,q1,q2,cs,E,q3,q4,q5⟩:=hs
 have:=I.inj _ _ _ k1 q1
 subst this
 obtain⟨kl,e1⟩:=zGf hM I W
 obtain⟨kh,e2⟩:=zGf hM I U
 refine⟨.slice (some (if n=(l0.getD 0).toNat then⟨g,off,none⟩else⟨g,off+(l0.getD 0).toNat*u.size,none⟩)) ((h0.getD n).toNat-(l0.getD 0).toNat) (n-(l0.getD 0).toNat),w,m,o,?_,?_⟩
 · unfold execOp;rw[J];simp only[wE];rw[e1,e2,k2];show Result.andThen (Sem.run P (Instr.sliceAt t _ _ _ none) w) _=_;rw[sla_run hu α hc];rfl
 · rw[hd];refine I.set d _ _ (by omega) h2 ?_;refine⟨_,n-(l0.getD 0).toNat,by omega,by unfold maxLen;omega,rfl,?_⟩;by_cases hz:n=(l0.getD 0).toNat;exact .inl (by omega);(refine .inr ⟨g,cs,E,k1,by rw[if_neg hz],q3,?_,.inl rfl⟩;(have:(l0.getD 0).toNat*u.size+(n-(l0.getD 0).toNat)*u.size=n*u.size:=by rw[<-tP];congr 1;omega);omega)
theorem h_sla(hM:Mk M S){j off n t e:Nat}{x:Operand}{lo hi:Option Operand}{l0 h0:Option Int}{J:TypeInfo}{l:List T}{y:T}(β:op.op= .slice t x lo hi none)(hx:cpO M x= .ref (OB+j) off)(hb:M (OB+j)= .box l)(Z:bndO M lo=some l0)(U:bndO M hi=some h0)(hu:P.underlying t=some (.array n e))(W:P.info? e=some J)
(α:Nat.ble (off+n*J.size) l.length=true)(hn:Nat.ble n 65536=true)(hc:0<=l0.getD 0/\l0.getD 0<=h0.getD n/\h0.getD n<=n)(hy:T.view j (off+(l0.getD 0).toNat*J.size) 0 J.size ((h0.getD n).toNat-(l0.getD 0).toNat)=y)(hd:op.dst=some d)(u:okD N pins S d=true):OpH P pins N op S (app S [(d,.t y)]):=by
 subst hy
 refine .of (e:=[(d,_)]) λhN=>⟨ok_sla hM.hx β (λ{w0 m0 o0 G a w m o} I=> ?_) (zQT hM hb) Z U hu W (by simpa using α) (by simpa using hn) hc hd (qR hN u),zBz (qG hN u)⟩
 have h:=qA hM.hx I x 0
 rw[hx]at h
 obtain⟨g,h1,h2,_⟩:=h
 grind
theorem Inv.box_spl(I:Inv w0 m0 o0 G pins S a w m o){b g off E:Nat}{l:List T}{cs:Array Value}{q:List D}{vs:List Value}(hb:S b= .box l)(h1:o g=some (b,0))(h4:w.heap[g]? =some (.cells cs E (0,0)))(γ:l.length<=cs.size)(h6:∀(j:Nat) (x:T),l[j]? =some x->x.isAgg=false/\∃u,cs[j]? =some u/\RepT m w o (b,j+1) x u)
(hv:RepL m q vs)(δ:off+q.length<=l.length):Inv w0 m0 o0 G pins (upd S b (.box (qZ l off (q.map .d)))) a (w.setRow g (qZ cs.toList off vs).toArray) m o:=by
 have β:=hv.1
 have α:(qZ cs.toList off vs).length=cs.toList.length:=zBl cs.toList off vs (by simp only[vM];omega)
 have Z:(qZ cs.toList off vs).toArray.size=cs.size:=by simpa using α
 refine I.box_put hb h1 h4 (cs':=(qZ cs.toList off vs).toArray) Z o (λ_=>False) (λs h=>h.elim) (λg l h _ _=>h) h1 (λg l h=>⟨l,h⟩) I.inj (λg l l' h h' k=>by rw[h]at h';injection h' with h';rw[h'];exact k) ?_ (λj z U=> ?_)
 · exact zBl l off _ (by rw[wL];omega)
 · (have W:(qZ cs.toList off vs).toArray[j]? =(qZ cs.toList off vs)[j]? :=by simp);rw[W,zDz cs.toList off vs (by simp only[vM];omega)];rw[zDz l off _ (by rw[wL];omega),wL]at U;rw[β];split at U;(rename_i J;rw[if_pos J];rw[wH]at U;(cases hq:q[j-off]? with|none=>grind|some dd=>rw[hq]at U;cases U;obtain⟨u,k1,k2⟩:=hv.2 _ dd hq;exact⟨rfl,u,k1,k2⟩));(rename_i J;rw[if_neg J];obtain⟨k0,u,k1,k2⟩:=h6 j z U;exact⟨k0,u,by simpa using k1,zPl h1 h4 Z (by intro e;injection e with _ e;omega) k0 k2⟩)
theorem run_copy0{t t' e ty:Nat}{ie:TypeInfo}{A1 U:Option Addr}{Z c1 W c2:Nat}(J:P.underlying t=some (.slice e))(u:P.info? e=some ie)(h0:min W Z=0):
 (Builtin.copy_ #[t,t'] ty #[.slice A1 Z c1,.slice U W c2]).run P w= .ok (goInt 0) w:=by
 have I:Nat.min W Z=0:=h0
 cases A1 with
  |none=>cases U with|none=>simp[Builtin.copy_,run_underlying J,Builtin.lenOf,Builtin.firstCells,sizeOf,typeInfo,u,I,storeCells]|some a2=>have:=run_loadCells_list (P:=P) w a2 [] (λj v h=>by simp at h);simp only[uR]at this;simp[Builtin.copy_,run_underlying J,Builtin.lenOf,Builtin.firstCells,sizeOf,typeInfo,u,I,storeCells,this]
  |some a1=>cases U with|none=>simp[Builtin.copy_,run_underlying J,Builtin.lenOf,Builtin.firstCells,sizeOf,typeInfo,u,I,storeCells]|some a2=>have:=run_loadCells_list (P:=P) w a2 [] (λj v h=>by simp at h);simp only[uR]at this;simp[Builtin.copy_,run_underlying J,Builtin.lenOf,Builtin.firstCells,sizeOf,typeInfo,u,I,storeCells,this]
theorem flat1:∀{rs:List (List D)},(∀r∈rs,r.length=1)->(rs.flatMap id).length=rs.length
 |rs,h=>by rw[zGO h,uQ]
theorem zPi{α:Type}(l:List α)(off:Nat):qZ l off []=l:=by unfold qZ;simp
theorem ok_cpy(hM:Mk M S){j off E n t t' e:Nat}{x y:Operand}{ie:TypeInfo}{l:List T}{l':List (List D)}(β:op.op= .call {callee:= .builtin .copy,args:= #[x,y],argTypes:= #[t,t']})(hu:P.underlying t=some (.slice e))(ι:P.info? e=some ie)(ρ:ie.size=1)(hx:∀{w0 m0 o0 G a w m o},Inv w0 m0 o0 G pins S a w m o->RepT m w o (0,0) (.view j off E 1 n) (a.eval x))(hb:S (OB+j)= .box l)(hy:slD 1 (dO M y)=some l')(τ:∀r∈l',r.length=1)(hle:off+n<=l.length)(hd:op.dst=some d)(φ:okD N pins S d=true)(hdO:d<OB):
  OpOK P pins N op S (app S [(OB+j,.box (qZ l off (((l'.take n).flatMap id).map .d))),(d,.t (.d (.lit (.int .i64 ((min l'.length n:Nat):Int)))))]):=by
 refine zL λw0 m0 o0 G a w m o hN I=> ?_
 obtain⟨h1,h2,h3⟩:=zS φ
 have ν:RepD m (.seq 1 l') (a.eval y):=zJS hy λd hd=>zG2 hM I hd
 obtain⟨A2,c2,xs,γ,_,_,Z,θ,δ⟩:=ν.rows
 obtain⟨A1,c1,k1,k2,ε,k4⟩:=hx I
 have μ:xs.length=l'.length:=by have:=Z.1;omega
 have W:∀x,(upd S (OB+j) x d).isBox=false:=λx=>by rw[zE (by omega)];exact h2
 by_cases h0:min l'.length n=0
 ·
  have he:(l'.take n).flatMap id=[]:=by
   grind
  refine⟨goInt 0,w,m,o,?_,?_⟩
  ·
   unfold execOp
   rw[β]
   simp only[resolve,invoke,builtin,wE,wU,wD,vA,vB,uB]
   rw[ε,γ,run_copy0 hu ι h0]
   rfl
  ·
   rw[hd,he,h0]
   show Inv w0 m0 o0 G pins (upd (upd S (OB+j) (.box (qZ l off []))) d _) _ w m o
   rw[zPi]
   have e1:upd S (OB+j) (.box l)=S:=by
    funext s
    unfold upd
    grind
   rw[e1]
   exact I.set d _ _ (by omega) h2 (.lit _ rfl)
 ·
  obtain⟨g,cs,E',q1,q2,q3,q4,_⟩:=k4.resolve_left λe=>by omega
  clear k4
  subst q2
  have hs:=I.slots (OB+j)
  rw[hb]at hs
  obtain⟨g',_,p1,p2,cs',E2,p3,p4,p5⟩:=hs
  have:=I.inj _ _ _ q1 p1
  subst this
  rw[q3]at p3
  cases p3
  have U:(xs.take (min l'.length n)).length=Nat.min l'.length n:=by
   grind
  have π:0<xs.length:=by rw[μ];exact wO (Nat.pos_of_ne_zero h0) (Nat.min_le_left _ _)
  have ψ:∃u,xs[0]? =some u:=⟨_,wF π⟩
  obtain⟨u0,σ⟩:=ψ
  obtain⟨g2,o2,rfl,_⟩:=δ 0 u0 σ
  have ζ:=run_copy_row P w t t' op.type e g off n c1 ⟨g2,o2,none⟩ l'.length c2 cs E' (xs.take (min l'.length n)) hu (by rw[ι,<-ρ];rfl) q3 U (λq v hq=>by
   rw[vR]at hq
   split at hq
   ·
    obtain⟨g3,o3,e3,ξ⟩:=δ q v hq
    cases e3
    rw[Addr.add_mid]
    exact I.sat _ _ _ ξ
   · cases hq) (by rw[U];show off+min l'.length n<=cs.size;omega) (λv hv=>θ v (List.mem_of_mem_take hv))
  have η:∀r∈l'.take n,r.length=1:=λr hr=>τ r (List.mem_of_mem_take hr)
  have α:((l'.take n).flatMap id).length=min l'.length n:=by rw[flat1 η,vZ,Nat.min_comm]
  have κ:RepL m ((l'.take n).flatMap id) (xs.take (min l'.length n)):=by
   refine⟨by rw[U,α],λq dd hq=> ?_⟩
   have ω:q<min l'.length n:=by rw[<-α];exact(wB.1 hq).1
   obtain⟨r,hr⟩:∃r,l'[q]? =some r:=⟨_,wF (by omega)⟩
   have χ:(l'.take n)[q]? =some r:=by rw[vR,if_pos (by omega)];exact hr
   have h5:=zEk η χ (q:=0) (by omega)
   rw[uQ,uP,hq]at h5
   obtain⟨u,z1,z2⟩:=Z.2.2 q r 0 dd hr h5.symm
   grind
  have J:=I.box_spl (off:=off) hb q1 q3 p4 p5 κ (by rw[α];omega)
  refine⟨goInt (xs.take (min l'.length n)).length,w.setRow g (qZ cs.toList off (xs.take (min l'.length n))).toArray,m,o,?_,?_⟩
  ·
   unfold execOp
   rw[β]
   simp only[resolve,invoke,builtin,wE,wU,wD,vA,vB,uB]
   rw[ε,γ,ζ]
   rfl
  ·
   rw[hd]
   have J2:=J.set d (.t (.d (.lit (.int .i64 ((min l'.length n:Nat):Int))))) (goInt (xs.take (min l'.length n)).length) (by omega) (W _) (by rw[U];exact RepD.lit _ rfl)
   exact J2
theorem h_cpy{α:Type}{cc:α->List D}{U yl v:List α}(W:Mk M S){j off E n t t' e:Nat}{x y:Operand}{ie:TypeInfo}(β:op.op= .call {callee:= .builtin .copy,args:=⟨[x,y]⟩,argTypes:=⟨[t,t']⟩})(hu:P.underlying t=some (.slice e))(Z:P.info? e=some ie)(J:ie.size=1)(hx:cpO M x= .t (.view j off E 1 n))(hb:M (OB+j)= .box (fl (dT cc) U))(hc:∀a,(cc a).length=1)(hy:slD 1 (dO M y)=some (yl.map cc))(hv:cpyI U off n yl=some v)(hj:Nat.blt (j+1) OB=true)(hd:op.dst=some d)(u:okD N pins S d=true):
 OpH P pins N op S (app S [(OB+j,.box (fl (dT cc) v)),(d,.t (.d (.lit (.int .i64 ((min yl.length n:Nat):Int)))))]):=by
 obtain⟨h1,rfl⟩:=zTb hv
 refine .lo2 hj u λhN γ=> ?_
 rw[<-cpy_row hc]
 have:=ok_cpy (j:=j) (off:=off) (E:=E) (n:=n) (l:=fl (dT cc) U) (l':=yl.map cc) W.hx β hu Z J (λ{w0 m0 o0 G a w m o} I=>by have h:=qA W.hx I x 0;rw[hx]at h;(exact h)) (zQT W hb) hy (λr hr=>by obtain⟨a,_,rfl⟩:=vQ.1 hr;exact hc a) (by rw[zOD (zKd hc)];omega) hd (qR hN u) (qG hN u)
 grind
end
section
variable {w0:World}{m0:Mem}{o0:OwnM}{G:GD}{pins:List Nat}{S M:Nat->A}{a:Act}{w:World}{m:Mem}{o:OwnM}{P:Program}{N:Nat}{op:Oper}{d c:Nat}{f f':Nat->A}
def vwsO(M:Nat->A):Nat->List (Nat×Operand)->Option (List T)
  |_,[]=>some []
  |n,(i,x)::r=>if i=n then match cpO M x,vwsO M (n+1) r with
      | .t (.view j off E k q),some t=>some (.view j off E k q::t)
      |_,_=>none
    else none
theorem zTU(Z:Mk M S)(I:Inv w0 m0 o0 G pins S a w m o):∀(n:Nat) (J:List (Nat×Operand)) (l:List T),vwsO M n J=some l->
 (J.map λx=>(x.1,a.eval x.2))=((J.map λx=>a.eval x.2).zipIdx n).map (λx=>(x.2,x.1))/\(∀v∈J.map (λx=>a.eval x.2),v.cells= #[v]/\v.oneCell'=true)/\l.length=J.length/\
  ∀(i:Nat) (x:T),l[i]? =some x->∃u,(J.map λx=>a.eval x.2)[i]? =some u/\∃j off E k q,x= .view j off E k q/\RepT m w o (0,0) x u
 |n,[],l,h=>by cases h;exact⟨rfl,by simp,rfl,λi x h=>by simp at h⟩
 |n,(i,x)::r,l,h=>by unfold vwsO at h;split at h;(case isFalse=>cases h);rename_i e;subst e;split at h;(rename_i j off E k q t hx ht;cases h;obtain⟨W,h2,h3,h4⟩:=zTU Z I (i+1) r t ht;have U:=qA Z I x 0;rw[hx]at U;have U:RepT m w o (0,0) (.view j off E k q) (a.eval x):=U;obtain⟨A',c',k1,k2,k3,k4⟩:=id U;refine⟨by simp[W,List.zipIdx_cons],λv hv=> ?_,by simp[h3],λp y hp=> ?_⟩;(simp only[vB,vL]at hv;rcases hv with rfl|hv;rw[k3];exact⟨rfl,rfl⟩;grind);grind);cases h
theorem ok_bsv(hM:Mk M S){t e nb n:Nat}{J:List (Nat×Operand)}(ζ:op.op= .buildSlice t n J.toArray)(hn:n=J.length)(hd:op.dst=some d)(η:okD N pins S d=true)(hE:elF P t=some (e,1,nb)){l:List T}(h:vwsO M 0 J=some l)(ε:J≠[])(hb:J.length<=16777216):OpOK P pins N op S (upd S d (.lst l)):=by subst hn;refine zL λw0 m0 o0 G a w m o hN I=> ?_;obtain⟨h1,h2,h3⟩:=zS η;have E:=zMv hE;obtain⟨i,z,hi,hz,α,rfl,ι⟩:=E.info;obtain⟨k1,k2,k3,k4⟩:=zTU hM I 0 J l h;(have β:(J.map λx=>a.eval x.2).length=J.length:=by simp);have θ:0<J.length:=uU.2 ε;(have γ:∀(U:List Value),(∀v∈U,v.cells= #[v]/\v.oneCell'=true)->U.flatMap (λv=>v.cells.toList)=U:=by intro U;(induction U with|nil=>grind|cons v r ih=>intro hv;rw[List.flatMap_cons,(hv v (by simp)).1,ih λx hx=>hv x (by simp[hx])];rfl));have W:=run_buildSlice (P:=P) w t e J.length (J.map λx=>(x.1,a.eval x.2)).toArray _ i z E.under hi hz (by first|omega|(rw[α];omega)) (by first|omega|(rw[α];omega)) (by rw[show(J.map λx=>(x.1,a.eval x.2)).toArray.toList=_ from k1];exact Great.fill_whole (by rw[α];omega) _ _ (λv hv=>by rw[(k2 v hv).1,α];rfl) (by rw[β];simp));rw[γ _ k2]at W;generalize κ:(J.map λx=>a.eval x.2)=U at W k2 k4 β;refine⟨.slice (some ⟨w.heap.size,0,none⟩) J.length J.length,w.alloc (.cells U.toArray e),newM m w.heap.size (λp=>U[p]?),o,?_,?_⟩;(unfold execOp;rw[ζ];simp only[vA,wE];rw[W];rfl);rw[hd];(have δ:∀{b p u},m b p=some u->b<w.heap.size:=λ{b p u} hu=>by have:=wT w _ (I.sat b p u hu);grind);have Z:∀g,g<w.heap.size->(w.alloc (.cells U.toArray e)).heap[g]? =w.heap[g]? :=λg hg=>(Same.alloc (λ_=>False) w (.cells U.toArray e)).block g hg id;refine I.put d (.lst l) _ (by omega) h2 ?_ (I.same.trans ((Same.alloc (λ_=>False) w _).weaken λ_ h=>h.elim)) ?_ (zMo I (wJ _) _) (λb hb=> ?_) (λg hg=>Z g hg) ?_;(refine⟨w.heap.size,J.length,by rw[k3],by omega,by unfold maxLen;omega,λq x hq=> ?_⟩;obtain⟨u,z1,j,off,E1,k,n,rfl,z2⟩:=k4 q x hq;exact⟨u,by rw[zB5];exact z1,zEt (loc:=(0,0)) (λ_ _ h=>h) (λg j hg=> .of_lt λ_=>Z g (I.lt g _ hg)) z2⟩);(intro b p u hu;unfold newM at hu;split at hu;(rename_i e2;subst e2;rw[cell_of_row _ w.heap.size p U.toArray e _ (heap_alloc_new w _)];grind);(rw[vS (w:=w) (Z b (δ hu))];exact I.sat b p u hu));(funext p;unfold newM;grind);simp
theorem h_bsv(hM:Mk M S){t e nb n:Nat}{u:List (Nat×Operand)}(U:op.op= .buildSlice t n ⟨u⟩)(hn:n=u.length)(hd:op.dst=some d)(J:okD N pins S d=true)(W:elF P t=some (e,1,nb)){l:List T}(h:vwsO M 0 u=some l)(I:(!u.isEmpty&&Nat.ble u.length 16777216)=true):OpH P pins N op S (app S [(d,.lst l)]):=by simp only[wI]at I;exact .of (e:=[(d,_)]) λZ=>⟨ok_bsv hM.hx U hn hd (qR Z J) W h (λe=>by rw[e]at I;cases I.1) (by simpa using I.2),zBz (qG Z J)⟩
def zOU(w:World):Mem:=λb p=>w.cell? ⟨b,p,none⟩
inductive BorD(B:Nat->List T->Prop):T->D->Prop
 |d (x:D):BorD B (.d x) x
 |nil (k:Nat):BorD B (.d (.lit (.slice none 0 0))) (.seq k [])
 |own (E k:Nat) (l:List (List D)):BorD B (.own E k l) (.seq k l)
 |vw {j off E k n:Nat} {l:List T} {rs:List (List D)} (hb:B j l) (hr:∀r∈rs,r.length=k) (hn:rs.length=n) (hl:(l.drop off).take (n*k)=(rs.flatMap id).map .d):BorD B (.view j off E k n) (.seq k rs)
 |hv {c off E k n:Nat} {l:List T} {rs:List (List D)} (hb:B (OB+c) l) (hr:∀r∈rs,r.length=k) (hn:rs.length=n) (hl:(l.drop off).take (n*k)=(rs.flatMap id).map .d):BorD B (.hvw c off E k n) (.seq k rs)
inductive BorL(B:Nat->List T->Prop):List T->List (List D)->Prop
 |nil:BorL B [] []
 |cons {x:T} {y:D} {l:List T} {r:List (List D)} (h:BorD B x y) (t:BorL B l r):BorL B (x::l) ([y]::r)
inductive BorA(B:Nat->List T->Prop):A->A->Prop
 |d {x:T} {y:D} (h:BorD B x y):BorA B (.t x) (.t (.d y))
 |lst {l:List T} {rs:List (List D)} (h:BorL B l rs):BorA B (.lst l) (.t (.d (.seq 1 rs)))
 |pl {x:A} (h:x.plain=true):BorA B x x
inductive zP1(B:Nat->List T->Prop):List A->List A->Prop
 |nil:zP1 B [] []
 |cons {x y:A} {l l':List A} (h:BorA B x y) (t:zP1 B l l'):zP1 B (x::l) (y::l')
theorem zJj(I:Inv w0 m0 o0 G pins S a w m o):Mle m (zOU w):=λb p u h=>I.sat b p u h
theorem bor_vw(I:Inv w0 m0 o0 G pins S a w m o){j off E k n:Nat}{l:List T}{rs:List (List D)}(hb:S (OB+j)= .box l)(hr:∀r∈rs,r.length=k)(hn:rs.length=n)(hl:(l.drop off).take (n*k)=(rs.flatMap id).map .d){loc:Nat×Nat}(h:RepT m w o loc (.view j off E k n) v):RepD (zOU w) (.seq k rs) v:=by
 obtain⟨A',q,h1,h2,rfl,h4⟩:=h
 subst hn
 have hs:=I.slots (OB+j)
 rw[hb]at hs
 obtain⟨g,_,p1,p2,cs,E2,p3,p4,p5⟩:=hs
 refine .seq k rs A' q g off (λi q=>(cs[off+i*k+q]?).getD undef) h1 h2 (λW=> ?_) (λi r J=>hr r (wC J)) (λi r q dd J hq=> ?_) (λi r q dd J hq=> ?_)
 · (obtain⟨g',γ,E',q1,q2,_⟩:=h4.resolve_left λe=>by have:=uU.2 W;omega);have:=I.inj _ _ _ p1 q1;grind
 all_goals
  have β:=hr r (wC J)
  have U:q<k:=by rw[<-β];exact(wB.1 hq).1
  have α:i<rs.length:=(wB.1 J).1
  have hc:((rs.flatMap id).map T.d)[i*k+q]? =some (.d dd):=by rw[wH,zEk hr J U,hq];rfl
  have Z:i*k+q<rs.length*k:=mul_lt α U
  rw[<-hl,vR,if_pos Z,vY,<-Nat.add_assoc]at hc
  obtain⟨_,u,k1,k2⟩:=p5 _ _ hc
 · show w.cell? ⟨g,off+i*k+q,none⟩=some ((cs[off+i*k+q]?).getD undef);rw[cell_of_row w g _ cs E2 _ p3,k1];rfl
 · rw[k1];exact RepD.mono (zJj I) k2
theorem BorD.rep(I:Inv w0 m0 o0 G pins S a w m o){x:T}{y:D}{B:Nat->List T->Prop}(J:∀j l,B j l->S (OB+j)= .box l)(h:BorD B x y){loc:Nat×Nat}(hr:RepT m w o loc x v):RepD (zOU w) y v:=by(cases h with|d x=>exact RepD.mono (zJj I) hr|nil k=>have hr:RepD m (.lit (.slice none 0 0)) v:=hr;cases hr;exact RepD.nilSeq _ k|own E k l=>exact RepD.mono (zJj I) (zHz I.sat hr)|vw hb u hn hl=>exact bor_vw I (J _ _ hb) u hn hl hr| @hv c off E k n l rs hb u hn hl=>exact bor_vw (j:=OB+c) I (J _ _ hb) u hn hl (loc:=loc) hr)
theorem BorL.get{B:Nat->List T->Prop}{l:List T}{rs:List (List D)}(h:BorL B l rs):rs.length=l.length/\∀(i:Nat) (r:List D),rs[i]? =some r->∃x y,l[i]? =some x/\r=[y]/\BorD B x y:=by(induction h with|nil=>grind|cons h t u=>grind)
theorem BorA.rep(I:Inv w0 m0 o0 G pins S a w m o){x y:A}{B:Nat->List T->Prop}(hB:∀j l,B j l->S (OB+j)= .box l)(h:BorA B x y){s:Nat}(hr:RepA m w o S s x v)(S':Nat->A)(s':Nat):RepA (zOU w) w (λ_=>none) S' s' y v:=by
 cases h with
  |d h=>exact h.rep I hB (loc:=(s,0)) hr
  |pl h=>
   cases x with
    |t x=>cases x with|d x=>exact RepD.mono (zJj I) hr|agg l=>obtain⟨vs,e,k⟩:=hr;exact⟨vs,e,k.mono (zJj I)⟩|_=>cases h
    |imm l=>
     obtain⟨g,p,e,k⟩:=hr
     exact⟨g,p,e,λj d hj=>let⟨u,k1,k2⟩:=k j d hj;⟨u,zJj I _ _ _ k1,k2.mono (zJj I)⟩⟩
    |any=>trivial
    |_=>cases h
  | @lst l rs h=>
   obtain⟨g,cap,rfl,h1,h2,h3⟩:=hr
   obtain⟨k1,k2⟩:=h.get
   show RepD (zOU w) (.seq 1 rs) _
   rw[<-k1]
   refine .seq 1 rs _ cap g 0 (λi q=>(w.cell? ⟨g,i,none⟩).getD undef) (by omega) h2 (λ_=>rfl) (λi r U=> ?_) (λi r q W U hq=> ?_) (λi r q W U hq=> ?_)
   · grind
   all_goals
    obtain⟨x,y,q1,rfl,q2⟩:=k2 i r U
    have Z:q=0/\W=y:=by grind
    obtain⟨rfl,rfl⟩:=Z
    obtain⟨u,z1,z2⟩:=h3 i x q1
    have J:=I.sat _ _ _ z1
   · show w.cell? ⟨g,0+i*1+0,none⟩=some ((w.cell? ⟨g,i,none⟩).getD undef);grind
   · show RepD (zOU w) W ((w.cell? ⟨g,i,none⟩).getD undef);rw[J];exact q2.rep I hB z2
theorem zP1.rep(U:Mk M S)(I:Inv w0 m0 o0 G pins S a w m o){B:Nat->List T->Prop}(Z:∀j l,B j l->S (OB+j)= .box l):∀(xs:List Operand) (args:List A),zP1 B (xs.map (cpO M)) args->(xs.map a.eval).length=args.length/\∀(i:Nat) (x:A),args[i]? =some x->∀u J,RepA (zOU w) w (λ_=>none) u J x ((xs.map a.eval).getD i undef)
 |[],args,h=>by cases h;exact⟨rfl,λi x h=>by simp at h⟩
 |x::r,args,h=>by(cases h with|cons h t=>obtain⟨k1,k2⟩:=zP1.rep U I Z r _ t;refine⟨by simp[<-k1],λi y W u J=> ?_⟩;(cases i with|zero=>cases W;exact h.rep I Z (qA U I x 0) u J|succ i=>simpa using k2 i y (by simpa using W) u J))
def A.isLits:A->Bool
 | .t (.d (.lit _))=>true
 | .tup l=>l.all λx=>match x with| .d (.lit _)=>true|_=>false
 |_=>false
theorem lits_rep{r:A}(h:r.isLits=true){w w':World}{o o':OwnM}{S S':Nat->A}{s s':Nat}(hr:RepA m w o S s r v)(m':Mem):RepA m' w' o' S' s' r v:=by
 cases r with
 |t x=>cases x with
  |d x=>cases x with
   |lit u=>cases hr;exact .lit _ (by assumption)
   |_=>cases h
  |_=>cases h
 |tup l=>
  obtain⟨J,e,Z,U⟩:=hr
  refine⟨J,e,Z,λj x I=> ?_⟩
  obtain⟨u,k1,k2⟩:=U j x I
  have:=wG.1 h x (wC I)
  refine⟨u,k1,?_⟩
  cases x with
  |d x=>cases x with
   |lit u=>cases k2;exact .lit _ (by assumption)
   |_=>grind
  |_=>grind
 |_=>cases h
theorem look_args(I:Inv w0 m0 o0 G pins S a w m o){fn:FuncId}{args:List A}{r:A}(hf:FC P fn args [] r){vals:Array Value}(hv:vals.size=args.length)(hr:∀i x,args[i]? =some x->∀S' J,RepA (zOU w) w (λ_=>none) S' J x (vals.getD i undef)):
 Calls P fn vals w λe w'=>∃(u:Value) (m':Mem) (o':OwnM) (S':Nat->A) (U:Act) (ρ:Nat),e= .returned u/\Inv w (zOU w) (λ_=>none) ⟨λg=>(λ_=>none:OwnM) g≠none,[]⟩ (zEw 0 args) S' U w' m' o'/\RepA m' w' o' S' ρ r u/\∀(i:Nat) (l:List T),(i,l)∈([]:List (Nat×List T))->S' i= .box l/\i≠ρ:=
 hf w (zOU w) (λ_=>none) vals (λ_ _ _ h=>h) ((I.tbl.trans I.mono).trans (zJj I)) (λ_ _ h=>by cases h) (λ_ _ _ h=>by cases h) hv (λs=>by unfold argS;rw[wK];(cases hx:args[s]? with|none=>trivial|some x=>exact hr s x hx _ _))
theorem call_lits(I:Inv w0 m0 o0 G pins S a w m o){fn:FuncId}{args:List A}{r:A}(hf:FC P fn args [] r)(hl:r.isLits=true){vals:Array Value}(hv:vals.size=args.length)(hr:∀i x,args[i]? =some x->∀W s',RepA (zOU w) w (λ_=>none) W s' x (vals.getD i undef)){d:Nat}(hd:d<a.tmps.size)(U:(S d).isBox=false):
 Calls P fn vals w λe w'=>∃u,e= .returned u/\Inv w0 m0 o0 G pins (upd S d r) (a.put (some d) u) w' m o:=by
 refine(look_args I hf hv hr).mono ?_
 rintro e w' ⟨u,m',o',W,a',ρ,rfl,J,hr,_⟩
 have Z:Same (λ_=>False) w w':=J.same.weaken λg h=>h rfl
 refine⟨u,rfl,I.put d r u hd U (lits_rep hl hr m) (I.same.trans (Z.weaken λ_ h=>h.elim)) (λb p v h=> ?_) (Mle.refl _) (λ_ _=>rfl) (λg hg=>Z.block g hg id) Z.size⟩
 have hb:b<w.heap.size:=by have:=wT w _ (I.sat b p v h);grind
 rw[vS (w:=w) (Z.block b hb id)]
 exact I.sat b p v h
theorem zOM(hM:Mk M S)(I:Inv w0 m0 o0 G pins S a w m o){fn:FuncId}{xs:List Operand}{ts:Array TypeId}{fx:Operand}(hop:op.op= .call {callee:= .value fx,args:=xs.toArray,argTypes:=ts})(hfx:vO M fx=some (.func (.func fn) #[] #[])){F:Func}(hfn:P.funcs[fn]? =some F)(hbody:F.body.isNone=false)(hname:(F.name== "runtime.NumGoroutine")=false):
 (execOp a.eval op).run P w= .ok (.enter fn (xs.map a.eval).toArray) w:=by
 unfold execOp
 rw[hop]
 simp only[resolve,zCK hM I hfx,Deferred.ofValue,vA]
 have hb:F.body≠none:=λe=>by rw[e]at hbody;cases hbody
 have hn:F.name≠ "runtime.NumGoroutine" :=λe=>by rw[e]at hname;simp at hname
 simp[invoke,callFunc,hfn,hn,hb]
def zSu(M:Nat->A)(f:Nat->A)(j:Nat)(l:List T):Prop:=M (OB+j)= .box l\/∃c,j=OB+c/\f c= .box l
theorem boxes_hx(I:Mk M S)(u:Low S)(hk:S HK= .hp f)(j:Nat)(l:List T)(h:zSu M f j l):hx S (OB+j)= .box l:=by rcases h with h|⟨c,rfl,h⟩;exact zQT I h;exact zOL u hk h
theorem h_look(hM:Mk M S)(hk:S HK= .hp f){fn:Nat}{xs:List Operand}{ts:Array TypeId}{fx:Operand}{r:A}{args:List A}(hop:op.op= .call {callee:= .value fx,args:=xs.toArray,argTypes:=ts})(hfx:vO M fx=some (.func (.func fn) #[] #[]))(hd:op.dst=some d)(hok:okD N pins S d=true){F:Func}(hfn:P.funcs[fn]? =some F)(hbody:F.body.isNone=false)(hname:(F.name== "runtime.NumGoroutine")=false)
(hf:FC P fn args [] r)(hargs:zP1 (zSu M f) (xs.map (cpO M)) args)(hl:r.isLits=true):OpH P pins N op S (app S [(d,r)]):=by
 refine .of' (e:=[(d,_)]) λhN hlo=>⟨?_,zBz (qG hN hok)⟩
 intro w0 m0 o0 G a w m o hNa I K Q hK
 obtain⟨h1,h2,h3⟩:=zS (qR hN hok)
 obtain⟨k1,k2⟩:=zP1.rep hM.hx I (boxes_hx hM hlo hk) xs args hargs
 unfold Oper.wp
 rw[zOM hM.hx I hop hfx hfn hbody hname]
 refine Calls.mono (call_lits I hf hl (vals:=(xs.map a.eval).toArray) (by simpa using k1) (λi x hi S' s'=>by simpa using k2 i x hi S' s') (d:=d) (by omega) h2) ?_
 rintro e w' ⟨u,rfl,J⟩
 rw[<-hd]at J
 exact hK _ _ _ _ (by rw[zCW,hNa]) J
theorem h_htake(hM:Mk M S)(hk:S HK= .hp f){off t n E k:Nat}{x:Operand}{l l':List T}{W:List (List D)}(α:op.op= .load t x)(ht:tyA P t=some (false,n))(hx:cpO M x= .t (.hpt c off))(hb:f c= .box l)(hl:l[off]? =some (.own E k W))(γ:l.set off (.d (.seq k W))=l')(hd:op.dst=some d)(U:okD N pins S d=true)(β:f'=updF f c (.box l')):
 OpH P pins N op S (app S [(HK,.hp f'),(d,.t (.own E k W))]):=by
 subst γ
 refine h_mk hk β U λhN δ=> ?_
 refine zL λw0 m0 o0 G a w m o ζ I=> ?_
 obtain⟨h1,h2,h3⟩:=zS (qR hN U)
 have Z:=qA hM.hx I x 0
 rw[hx]at Z
 obtain⟨g,q1,q2⟩:=Z
 have ε:=qG hN U
 obtain⟨g',u,m',o',p1,p2,J⟩:=zMx (b:=OB+(OB+c)) (d:=d) I (zOL δ hk hb) hl (by omega) (by omega) h2 h3
 have:=I.inj _ _ _ q1 p1
 subst this
 refine⟨u,w,m',o',?_,by rw[hd];exact J⟩
 unfold execOp
 rw[α]
 simp only[wE]
 rw[q2]
 have e1:(Instr.loadAt t (.pointer (some ⟨g,off,none⟩))).run P w=(loadVar t ⟨g,off,none⟩).run P w:=rfl
 rw[e1,zCo ht p2]
 rfl
theorem h_hsto(hM:Mk M S)(hk:S HK= .hp f){off t s E' k:Nat}{x:Operand}{l l':List T}{U:List (List D)}{i:TypeInfo}(Z:op.op= .store t x (.tmp s))(hd:op.dst=none)(hi:P.info? t=some i)(α:i.size=1)(hx:cpO M x= .t (.hpt c off))(hb:f c= .box l)(hs:M s= .t (.own E' k U))(J:Nat.blt off l.length=true)(β:l.set off (.own E' k U)=l')(u:okD N pins S s=true)(W:f'=updF f c (.box l')):
 OpH P pins N op S (app S [(HK,.hp f'),(s,.t (.d (.seq k U)))]):=by
 subst β
 refine h_mk hk W u λhN γ=> ?_
 have δ:=qG hN u
 obtain⟨h1,h2,h3⟩:=zS (qR hN u)
 have:=zMF (N:=N) (b:=OB+(OB+c)) (s:=s) hM.hx Z hd hi α (λ{w0 m0 o0 G a w m o} I=>by have h:=qA hM.hx I x 0;rw[hx]at h;obtain⟨g,q1,q2⟩:=h;(exact⟨g,q1,q2⟩)) (zOL γ hk hb) hs (by simpa using J) (by omega) h3
 rw[zJy (by omega)]at this
 exact this
theorem Inv.wkbox{b:Nat}{l l':List T}(I:Inv w0 m0 o0 G pins (upd S b (.box l)) a w m o)(h:WkTs l l')(U:l'.all (λx=> !x.isAgg)=true):Inv w0 m0 o0 G pins (upd S b (.box l')) a w m o:=by refine⟨I.same,I.sat,I.mono,I.old,I.own,I.lt,I.inj,I.pinned,λs=> ?_,I.defers,I.tbl,I.wide,I.shps⟩;have hs:=I.slots s;by_cases e:s=b;(subst e;rw[zT]at hs⊢;(exact((WkA.box h U).rep I.sat hs).turn λu J hb=>by by_cases e:u=s;subst e;exact⟨_,zT ..⟩;rw[zE e]at hb;exact⟨J,by rw[zE e,hb]⟩));(rw[zE e]at hs⊢;refine hs.turn λu J hb=> ?_;by_cases e:u=b;subst e;exact⟨_,zT ..⟩;rw[zE e]at hb;exact⟨J,by rw[zE e,hb]⟩)
theorem h_stw(hM:Mk M S)(hk:S HK= .hp f){t off:Nat}{x y:Operand}(U:op.op= .store t x y)(hd:op.dst=none){i:TypeInfo}(hi:P.info? t=some i)(hx:cpO M x= .t (.hpt c off)){l l':List T}(hf:f c= .box l){q:List T}(hc:zDS (cpO M y)=some q)(Z:q.length=i.size)(u:off+i.size<=l.length)(W:WkTs (qZ l off q) l')(ha:l'.all (λx=> !x.isAgg)=true)(J:f'=updF f c (.box l')):OpH P pins N op S (app S [(HK,.hp f')]):=
 h_put hk J λhN hl=>(ok_hst hM.hx U hd hi hx (zOL hl hk hf) hc Z u).post λw0 m0 o0 G a w m o I=>I.wkbox W ha
theorem h_boxw(hM:Mk M S)(hk:S HK= .hp f){E:Nat}{x:Operand}{l l':List T}(W:op.op= .box E x)(hl:zDS (cpO M x)=some l)(hd:op.dst=some d)(u:okD N pins S d=true)(hf:f c= .free)(hw:WkTs l l')(ha:l'.all (λx=> !x.isAgg)=true)(U:f'=updF f c (.box l')):OpH P pins N op S (app S [(HK,.hp f'),(d,.t (.hpt c 0))]):=by refine h_mk hk U u λZ J=> ?_;have α:=qG Z u;refine(ok_hbox hM.hx W hl hd (qR Z u) (qG Z u) (zSC J hk hf)).post λw0 m0 o0 G a w m o I=> ?_;have e1:∀q:List T,app (hx S) [(OB+(OB+c),A.box q),(d,.t (.hpt c 0))]=upd (upd (hx S) d (.t (.hpt c 0))) (OB+(OB+c)) (.box q):=λq=>zJy (S:=hx S) (s:=OB+(OB+c)) (t:=d) (by omega);rw[e1]at I⊢;exact I.wkbox hw ha
end
section
variable {P:Program}{pins:List Nat}{N:Nat}{Q:Exit->SL->Prop}{L L':SL}
theorem WkTs.rfl':∀(l:List T),WkTs l l
 |[]=> .nil
 |x::l=> .cons (.refl x) (WkTs.rfl' l)
theorem pbE{g f2:Nat->A}{j c:Nat}{la:List T}(hp:∀k,rnA j c (g k)=g k)(u:f2=updF g c (.box la))(k:Nat):f2 k=if k=c then .box la else rnA j c (g k):=by rw[u,hp];rfl
theorem st_pubw(j:Nat){c:Nat}{f1 f2:Nat->A}{la u:List T}(hk:gt L HK= .hp f1)(hb:gt L (OB+j)= .box la)(hc:(Nat.blt (j+1) OB&& !pins.contains (OB+j))=true)(γ:la.map (rnT j c)=la)(U:f1 c= .free)(hw:WkTs la u)(ha:u.all (λx=> !x.isAgg)=true)(ε:∀k,f2 k=if k=c then .box u else rnA j c (f1 k))(hL:(HK,.hp f2)::(OB+j,.free)::renL j c L=L')(hS:St w0 m0 o0 G pins N L a w):St w0 m0 o0 G pins N L' a w:=by
 subst hL
 simp only[wI,vX,vP,decide_eq_false_iff_not]at hc
 obtain⟨c2,c3⟩:=hc
 have c2:j+1<OB:=by simpa using c2
 have e1:OB+j<OB2:=by unfold OB OB2 at*;omega
 have e2:OB+j≠HK:=by unfold HK;unfold OB at*;omega
 obtain⟨hN,Z,m,o,I⟩:=hS
 have δ:Low (gt (renL j c L)):=λt ht=>by rw[zN5,Z t ht];rfl
 have β:Low (gt ((HK,.hp f2)::(OB+j,.free)::renL j c L)):=by
  rw[zR,zR]
  exact(δ.upd e1).upd zNg
 have α:gt ((HK,.hp f2)::(OB+j,.free)::renL j c L) HK= .hp f2:=by rw[zR,zT]
 have he:hx (gt ((HK,.hp f2)::(OB+j,.free)::renL j c L))=upd (upd (λt=>if t=OB+j then .free else if t=OB+(OB+c)then .box la else rnA j c (hx (gt L) t)) (OB+(OB+c)) (.box u)) HK (.hp f2):=by
  funext t
  by_cases e:t=HK
  ·
   subst e
   rw[zT]
   exact zBq α (by simp)
  ·
   rw[zE e]
   rcases wY t OB2 with h2|h2
   ·
    have W:t≠OB+(OB+c):=by unfold OB OB2 at*;omega
    rw[zDY h2,zR,zE e,zR,zE W]
    unfold upd
    by_cases e3:t=OB+j
    · grind
    · rw[if_neg e3,if_neg e3,if_neg W,zN5,zDY h2]
   ·
    obtain⟨k,rfl⟩:∃k,t=OB2+k:=⟨t-OB2,by omega⟩
    rw[yK,zE6 β α,ε]
    by_cases e3:k=c
    · subst e3;rw[if_pos rfl,zT];rfl
    · rw[if_neg e3,zE (by omega),if_neg (by unfold OB OB2 at*;omega),if_neg (by omega),zE6 Z hk,san_rn]
 obtain⟨o2,J⟩:=I.pub (j:=j) (c:=c) (la:=la) (by omega) c3 (by rw[zE6 Z hk,U];rfl) (zBq hb (by simp)) γ (S':=λt=>if t=OB+j then .free else if t=OB+(OB+c)then .box la else rnA j c (hx (gt L) t)) (if_pos rfl) (by
  show(if OB+(OB+c)=OB+j then _ else _)=_
  rw[if_neg (by omega),if_pos rfl]) (λt h1 h2=>by
  show(if t=OB+j then _ else _)=_
  rw[if_neg h1,if_neg h2])
 have e5:(λt=>if t=OB+j then A.free else if t=OB+(OB+c)then .box la else rnA j c (hx (gt L) t))=upd (λt=>if t=OB+j then A.free else if t=OB+(OB+c)then .box la else rnA j c (hx (gt L) t)) (OB+(OB+c)) (.box la):=by
  funext t
  unfold upd
  grind
 rw[e5]at J
 have J2:=(J.wkbox hw ha).hk (f:=f1) (by
  rw[zE (by unfold HK OB;omega)]
  show(if HK=OB+j then _ else if HK=OB+(OB+c)then _ else rnA j c (hx (gt L) HK))=_
  rw[if_neg (Ne.symm e2),if_neg (by unfold HK OB;omega),zBq hk (by simp)]
  rfl) f2
 rw[<-he]at J2
 exact⟨hN,β,m,o2,J2⟩
theorem fl_noAg{α:Type}(c:α->List D)(l:List α):(fl (dT c) l).all (λx=> !x.isAgg)=true:=by rw[zLG,List.all_map];exact wG.2 λ_ _=>rfl
end
section
variable {α:Type}{c:α->List D}{k:Nat}
theorem zQv{x y:List α}{off n:Nat}(h:zGp x off n=some y):(y.map c).length=n:=by obtain⟨u,rfl⟩:=zPN h;grind
theorem zOS{x y:List α}{off n:Nat}(u:∀a,(c a).length=1)(h:zGp x off n=some y):((fl (dT c) x).drop off).take (n*1)=((y.map c).flatMap id).map .d:=by obtain⟨I,rfl⟩:=zPN h;rw[uQ,zPq (zKd u),zQo (zKd u),zLG]
variable {P:Program}{pins:List Nat}{N:Nat}{S M:Nat->A}{op:Oper}{d:Nat}
theorem h_min(U:Mk M S){ts:Array TypeId}{x y:Operand}{k ky:IntKind}{a b:Int}(J:op.op= .call {callee:= .builtin .min,args:= #[x,y],argTypes:=ts})(hx:vO M x=some (.int k a))(hy:vO M y=some (.int ky b))(hd:op.dst=some d)(u:okD N pins S d=true):OpH P pins N op S (app S [(d,.t (.d (.lit (.int k (if b<a then b else a)))))]):=by refine .of (e:=[(d,_)]) λZ=>⟨?_,zBz (qG Z u)⟩;refine zL λw0 m0 o0 G ac w m o W I=> ?_;obtain⟨h1,h2,h3⟩:=zS (qR Z u);refine⟨.int k (if b<a then b else a),w,m,o,?_,by rw[hd];exact I.set d _ _ (by omega) h2 (.lit _ rfl)⟩;unfold execOp;rw[J];simp only[resolve,invoke,builtin,wE,wU,wD,vA,vB,uB];rw[zCK U.hx I hx,zCK U.hx I hy];simp[Builtin.min_,Builtin.min2]
def mi3(a b c:Int):Int:=if c<(if b<a then b else a)then c else(if b<a then b else a)
theorem h_min3(J:Mk M S){ts:Array TypeId}{x y z:Operand}{k ky kz:IntKind}{a b c:Int}(U:op.op= .call {callee:= .builtin .min,args:= #[x,y,z],argTypes:=ts})(hx:vO M x=some (.int k a))(hy:vO M y=some (.int ky b))(hz:vO M z=some (.int kz c))(hd:op.dst=some d)(u:okD N pins S d=true):OpH P pins N op S (app S [(d,.t (.d (.lit (.int k (mi3 a b c)))))]):=by refine .of (e:=[(d,_)]) λZ=>⟨?_,zBz (qG Z u)⟩;refine zL λw0 m0 o0 G ac w m o W I=> ?_;obtain⟨h1,h2,h3⟩:=zS (qR Z u);refine⟨.int k (mi3 a b c),w,m,o,?_,by rw[hd];exact I.set d _ _ (by omega) h2 (.lit _ rfl)⟩;unfold execOp;rw[U];simp only[resolve,invoke,builtin,wE,wU,wD,vA,vB,uB];rw[zCK J.hx I hx,zCK J.hx I hy,zCK J.hx I hz];simp[Builtin.min_,Builtin.min2,mi3]
def ma3(a b c:Int):Int:=if c>(if b>a then b else a)then c else(if b>a then b else a)
theorem h_max3(J:Mk M S){ts:Array TypeId}{x y z:Operand}{k ky kz:IntKind}{a b c:Int}(U:op.op= .call {callee:= .builtin .max,args:= #[x,y,z],argTypes:=ts})(hx:vO M x=some (.int k a))(hy:vO M y=some (.int ky b))(hz:vO M z=some (.int kz c))(hd:op.dst=some d)(u:okD N pins S d=true):OpH P pins N op S (app S [(d,.t (.d (.lit (.int k (ma3 a b c)))))]):=by refine .of (e:=[(d,_)]) λZ=>⟨?_,zBz (qG Z u)⟩;refine zL λw0 m0 o0 G ac w m o W I=> ?_;obtain⟨h1,h2,h3⟩:=zS (qR Z u);refine⟨.int k (ma3 a b c),w,m,o,?_,by rw[hd];exact I.set d _ _ (by omega) h2 (.lit _ rfl)⟩;unfold execOp;rw[U];simp only[resolve,invoke,builtin,wE,wU,wD,vA,vB,uB];rw[zCK J.hx I hx,zCK J.hx I hy,zCK J.hx I hz];simp[Builtin.max_,Builtin.max2,ma3]
theorem app_same{t:Nat}{x:A}(h:S t=x):upd S t x=S:=by funext k;unfold upd;grind
theorem zQL{f:Nat->A}(hM:Mk M S)(hk:S HK= .hp f){fn:Nat}{xs:List Operand}{ts:Array TypeId}{fx:Operand}(hop:op.op= .call {callee:= .value fx,args:=xs.toArray,argTypes:=ts})(hfx:vO M fx=some (.func (.func fn) #[] #[]))(hd:op.dst=some d)(hok:okD N pins S d=true){F:Func}(hfn:P.funcs[fn]? =some F)(hbody:F.body.isNone=false)(hname:(F.name== "runtime.NumGoroutine")=false){args:List A}{ins outs:List A}{r r':A}{σ fr:List Nat}(hf:FCH P fn args ins outs f f r)(hp:zDy f)(hb:zSB M σ fr outs=true)(b3:ins.all A.flatO=true)(b4:outs.all A.flatO=true)(hin:σ.map (λj=>S (OB+j))=ins)(hargs:zKB σ (xs.map (cpO M)) args)(hle:Nat.ble args.length OB=true)(hres:ResH (σ++fr) r r'):
 OpH P pins N op S (app S (zD7 (σ++fr) outs++[(d,r')])):=by
 have h:=h_call hM hk hop hfx hd hok hfn hbody hname hf hp hp hb b3 b4 hin hargs hle hres
 have hj:∀j∈σ++fr,j+1<OB:=λj h=>by unfold zSB at hb;simp only[wI]at hb;have:=wG.1 hb.1.1.1.2 j h;simpa using this
 have e:app S (zD7 (σ++fr) outs++[(HK,.hp f),(d,r')])=app S (zD7 (σ++fr) outs++[(d,r')]):=by rw[zJ7,zJ7];show upd (upd (app S (zD7 (σ++fr) outs)) HK (.hp f)) d r'=upd (app S (zD7 (σ++fr) outs)) d r';have e1:upd (app S (zD7 (σ++fr) outs)) HK (.hp f)=app S (zD7 (σ++fr) outs):=app_same (by rw[zGA,hk];rintro⟨h1,h2⟩;have:=hj _ h2;unfold HK OB at this;omega);rw[e1]
 rw[e]at h
 exact h
theorem st_frzN{α:Type}{cc:α->List D}{L':SL}{y:List α}(d j:Nat){E k n:Nat}(hd:gt L d= .t (.view j 0 E k n))(hn:n=y.length)(hb:gt L (OB+j)=gbA cc y)(u:∀a,(cc a).length=k)
(U:(Nat.blt d OB&&Nat.blt (j+1) OB&& !pins.contains (OB+j)&& !pins.contains d&&Nat.blt 0 k&&zIQ j d L)=true)(hh:zO5 L)(J:(d,.t (.d (.seq k (y.map cc))))::(OB+j,.free)::zB3 j d L=L'){w0:World}{m0:Mem}{o0:OwnM}{G:GD}{a:Act}{w:World}(I:St w0 m0 o0 G pins N L a w):St w0 m0 o0 G pins N L' a w:=by
 subst hn
 exact st_frzG d j hd hb u U hh J I
theorem put_self(a:Act)(d:Nat):a.put (some d) (a.tmps.getD d undef)=a:=by obtain⟨u,ds⟩:=a;show Act.mk _ _=_;congr 1;rw[Array.setIfInBounds_def];split;(rename_i h;exact Array.set_getElem_self h);rfl
theorem Inv.toOwn(I:Inv w0 m0 o0 G pins S a w m o){j d E k:Nat}{l:List T}{rs:List (List D)}(hj:j<OB)(hd:d<OB)(ζ:d<a.tmps.size)(hp:OB+j∉pins)(ι:d∉pins)(hS:S d= .t (.view j 0 (OFB+E) k rs.length))(hb:S (OB+j)= .box l)(hm:∀s,s≠d->s≠OB+j->zCl j (S s)=false)(hk:0<k)(hn:rs≠[])(U:∀r∈rs,r.length=k)(hl:l=(rs.flatMap id).map .d):
 ∃m' o',Inv w0 m0 o0 G pins (upd (upd S (OB+j) .free) d (.t (.own E k rs))) a w m' o':=by
 have hs:=I.slots (OB+j)
 rw[hb]at hs
 obtain⟨g,_,h1,h2,W,E',h3,h4,h5⟩:=hs
 have β:=I.slots d
 rw[hS]at β
 obtain⟨A',c,q2,q3,q5,q4⟩:=β
 have μ:=uU.2 hn
 obtain⟨g',ξ,E1,z1,z2,z3,z4,z5⟩:=q4.resolve_left λh=>by omega
 have:=I.inj _ _ _ h1 z1
 subst this
 rw[h3]at z3
 cases z3
 obtain⟨γ,hc,Z⟩:=(z5.resolve_left (by unfold OFB;omega)).resolve_left λh=>by have:=h.1;omega
 have γ:E=E':=by omega
 subst hc γ
 have ν:l.length=rs.length*k:=by subst hl;rw[wL];exact zGO U
 have I1:=I.tell d .any (by rw[hS];rfl) trivial
 have I2:=I1.forget hj hp λs=>by by_cases e:s=d;subst e;rw[zT];rfl;(rw[zE e];by_cases e2:s=OB+j;(subst e2;rw[hb];subst hl;exact zTL (noPt_d _) j);exact hm s e e2)
 have κ:d≠OB+j:=by omega
 have δ:zLw o j g=none:=by(cases θ:zLw o j g with|none=>rfl|some l0=>obtain⟨y1,y2⟩:=qU.1 θ;rw[h1]at y1;injection y1 with y1;exact absurd (by rw[<-y1]) y2)
 have J:=I2.own_put d (.t (.own E k rs)) (a.tmps.getD d undef) (λp=>W[p]?) g w ζ (by rw[zE κ,zT];rfl) ι (λl h=>by rw[δ]at h;cases h) (I.own g _ h1) (Same.refl _ _) (I.lt g _ h1) (λp u h=>by rw[h2]at h;cases h) (λp u h=>by rw[cell_of_row w g p W E _ h3];exact h) (by refine⟨A',rs.length,W.toList,q5,⟨by rw[vM];exact Z,.inr ⟨g,0,rs.length,W,by rw[q5,z2],⟨E,h3,.inr ⟨rfl,rfl,Z⟩⟩,wJ _,q3,.inl (by rw[vJ];exact Z),by rw[List.drop_zero,vE (by rw[vM];omega)]⟩⟩,λg2 α=> ?_,λi r hi=>U r (wC hi),λi r q e hi hq=> ?_⟩;(rw[z2]at α;cases α;refine⟨zAO _ _ _,λp _=> ?_⟩;rw[zB5,z2];show W[0+p]? =_;simp);(have η:=U r (wC hi);(have ε:q<k:=by rw[<-η];exact(wB.1 hq).1);(have:l[i*k+q]? =some (.d e):=by subst hl;rw[wH,zEk U hi ε,hq];rfl);obtain⟨_,u,k1,k2⟩:=h5 _ _ this;refine⟨u,by simpa using k1,RepD.mono (λb p u hu=> ?_) k2⟩;unfold newM;split;rename_i e;subst e;rw[h2]at hu;cases hu;exact hu))
 rw[put_self]at J
 have e:upd (upd (upd S d .any) (OB+j) .free) d (.t (.own E k rs))=upd (upd S (OB+j) .free) d (.t (.own E k rs)):=by funext s;unfold upd;split;rfl;split<;>rfl
 rw[e]at J
 exact⟨_,_,J⟩
theorem st_own{L L':SL}(d j:Nat){E k n:Nat}{l:List T}{rs:List (List D)}(hd:gt L d= .t (.view j 0 (OFB+E) k n))(hb:gt L (OB+j)= .box l)(hn:n=rs.length)(γ:rs≠[])(hl:l=(rs.flatMap id).map .d)(ε:∀r∈rs,r.length=k)
(hc:(Nat.blt d OB&&Nat.blt (j+1) OB&& !pins.contains (OB+j)&& !pins.contains d&&Nat.blt 0 k&&zIQ j d L)=true)(U:Nat.blt d N=true)(hh:zO5 L)(hL:(d,.t (.own E k rs))::(OB+j,.free)::zB3 j d L=L')(hS:St w0 m0 o0 G pins N L a w):St w0 m0 o0 G pins N L' a w:=by
 subst hL hn
 simp only[wI,vX,vP,decide_eq_false_iff_not]at hc
 obtain⟨⟨⟨⟨⟨Z,c2⟩,c3⟩,c4⟩,c5⟩,c6⟩:=hc
 have Z:d<OB:=by simpa using Z
 have c2:j+1<OB:=by simpa using c2
 have c5:0<k:=by simpa using c5
 have U:d<N:=by simpa using U
 obtain⟨hN,θ,m,o,I⟩:=hS
 have α:∀s,gt (zB3 j d L) s=gt L s\/(gt (zB3 j d L) s= .any/\(gt L s).isBox=false):=λs=>by rw[zDU];(cases hm:(Nat.blt s OB&&(zCl j (gt L s)&& !Nat.beq s d))with|true=>exact .inr ⟨rfl,zHU c6 s hm⟩|false=>grind)
 have W:gt (zB3 j d L) HK=gt L HK:=zBb L (by unfold HK OB;omega)
 obtain⟨u,δ⟩:=zNx θ W α
 have I2:=I.less δ
 have β:gt (zB3 j d L) d= .t (.view j 0 (OFB+E) k rs.length):=by rw[zDU,hd];simp
 have ζ:gt (zB3 j d L) (OB+j)= .box l:=by rcases α (OB+j)with e|⟨_,e⟩;grind;rw[hb]at e;cases e
 have hm:∀s,s≠d->s≠OB+j->zCl j (hx (gt (zB3 j d L)) s)=false:=λs h1 h2=>by rcases wY s OB2 with h3|h3;(rw[zDY h3];rcases wY s OB with h4|h4;(rw[zDU];(have η:Nat.beq s d=false:=by(cases hb:Nat.beq s d with|false=>rfl|true=>exact absurd (wV hb) h1));(have ι:Nat.blt s OB=true:=by simpa using h4);rw[η,ι];(cases hm:zCl j (gt L s)with|true=>rfl|false=>exact hm));rw[zBb L h4];exact hh.2 s h4 j);(obtain⟨k,rfl⟩:∃k,s=OB2+k:=⟨s-OB2,by omega⟩;exact zJm u (by rw[W];exact hh.1) k)
 obtain⟨m',o',J⟩:=I2.toOwn (j:=j) (d:=d) (E:=E) (k:=k) (l:=l) (rs:=rs) (by omega) Z (by rw[hN];exact U) c3 c4 (zBq β (by simp)) (zBq ζ (by simp)) hm c5 γ ε hl
 have e1:OB+j<OB2:=by unfold OB OB2 at*;omega
 have e2:OB+j≠HK:=by unfold HK;unfold OB at*;omega
 refine⟨hN,?_,m',o',?_⟩
 · rw[zR,zR];exact(u.upd e1).upd (lt2 Z)
 · rw[zR,zR,zCJ (lt2 Z) (by unfold HK;unfold OB at Z;omega),zCJ e1 e2];exact J
theorem gb_flatO{α:Type}(c:α->List D)(l:List α):(gbA c l).flatO=true:=by(cases l with|nil=>rfl|cons a r=>exact zMY c (a::r))
end
class PuH (f:Nat->A):Prop where
 h:zDy f
theorem zTV:zSB M [] [] []=true:=rfl
end Go.Proofs.YtocolhfjpadaoaaGreatDoor
namespace Go.Proofs.YtocolhfjpadaoaaGreatDoor
open Go.RowKit
theorem el_u8:zIW Tryz.prog 22 5 1 1:= .mk' (z:= .int .u8 0) Tryz.underlying22 (by kernel_rfl) rfl (by decide) (by decide)
def New(w w':World)(A:Option Addr)(bs:List UInt8):Prop:=Byt w' A bs/\∀u,A=some u->w.heap.size<=u.block
theorem New.from{w u w':World}{A:Option Addr}{bs:List UInt8}(h:New u w' A bs)(hs:w.heap.size<=u.heap.size):New w w' A bs:=⟨h.1,λI e=>uW hs (h.2 I e)⟩
def GivesB(bs:List UInt8)(w:World)(e:Ending)(w':World):Prop:=∃A c,e= .returned (.slice A bs.length c)/\New w w' A bs/\(bs.length<=c/\c<=maxLen)/\Below w.heap.size w w'
def zSc(bs:List UInt8)(u:Int)(w:World)(e:Ending)(w':World):Prop:=∃A c,e= .returned (.tuple #[.slice A bs.length c,.int .i64 u])/\New w w' A bs/\(bs.length<=c/\c<=maxLen)/\Below w.heap.size w w'
theorem Own.byt{w:World}{B:Nat}{e:TypeId}{A:Option Addr}{n c:Nat}{bs:List UInt8}(h:Own w B e 1 A n c (u8s bs)):(Byt w A bs/\∀ad,A=some ad->B<=ad.block)/\bs.length=n/\(bs.length<=c/\c<=maxLen):=
 ⟨⟨h.row,λad e=>(h.lt ad.block (by rw[e];rfl)).1⟩,by have:=h.len;rw[zJ1]at this;omega,⟨by have:=h.len;have:=h.cap;rw[zJ1]at*;omega,h.capMax⟩⟩
end Go.Proofs.YtocolhfjpadaoaaGreatDoor
namespace Go.Proofs.YtocolhfjpadaoaaGreatDoor
open Go Go.RowKit
variable {P:Program}{w0:World}{w:World}{m0:Mem}{m:Mem}{o0:OwnM}{o:OwnM}{G:GD}{pins:List Nat}{N:Nat}{a:Act}{op:Oper}{S:Nat->A}{M:Nat->A}{L:SL}{v:Value}{W:World}{Q:Mem}{X:OwnM}
def zMz(m:Mem)(w w':World):Mem:=λb p=>if b<w.heap.size then m b p else w'.cell? ⟨b,p,none⟩
theorem zQ8{w w':World}(U:∀b p u,m b p=some u->w.cell? ⟨b,p,none⟩=some u)(Z:Mle TBL m)(I:∀g l,o g=some l->g<w.heap.size/\l.1<OB)(J:∀g g' l,o g=some l->o g'=some l->g=g')(hb:Below w.heap.size w w'):
 Inv w m o ⟨λg=>o g≠none,[]⟩ pins (λ_=> .any) {tmps:= #[],defers:=[]} w' (zMz m w w') o:=by
 have W:∀b p u,m b p=some u->b<w.heap.size:=λb p u h=>by have:=wT w _ (U b p u h);grind
 refine⟨Same.of_below hb,λb p u h=> ?_,λb p u h=> ?_,λb α _=> ?_,λg l h=> .inl (by show o g≠none;rw[h];simp),λg l h=>wO (I g l h).1 hb.size,J,λs _ g hg=>hg,λs=>trivial,rfl,Z,uF _,λg j h=>absurd (I g _ h).2 (by show¬OB+j<OB;omega)⟩
 · unfold zMz at h;split at h;(rename_i I;rw[hb.cell (p:=⟨b,p,none⟩) I];grind);exact h
 · unfold zMz;grind
 · funext p;unfold zMz;grind
theorem zUe{w w':World}{A':Option Addr}{bs:List UInt8}{c:Nat}(h:New w w' A' bs)(hc:bs.length<=c/\c<=maxLen):RepD (zMz m w w') (.seq 1 (qV bs)) (.slice A' bs.length c):=by have hl:(qV bs).length=bs.length:=zQi bs;(have Z:∀U:Option Addr,(qV bs≠[]->∃g p,U=some ⟨g,p,none⟩/\w.heap.size<=g/\∀i (u:i<bs.length),w'.cell? ⟨g,p+i,none⟩=some (.int .u8 (bs[i].toNat:Int)))->RepD (zMz m w w') (.seq 1 (qV bs)) (.slice U (qV bs).length c):=by intro U β;by_cases he:qV bs=[];(rw[he];exact .seq 1 [] U c 0 0 (λ_ _=>undef) (by simp) hc.2 (λh=>absurd rfl h) (λi r h=>by simp at h) (λi r j d h=>by simp at h) (λi r j d h=>by simp at h));(obtain⟨g,p,e,hg,δ⟩:=β he;(have hb:∀(i:Nat) (r:List D),(qV bs)[i]? =some r->∃u:i<bs.length,r=[D.lit (.int .u8 (bs[i].toNat:Int))]:=by intro i r u;(have I:i<bs.length:=by rw[<-hl];exact(wB.1 u).1);refine⟨I,?_⟩;unfold qV at u;grind);refine .seq 1 _ U c g p (λi _=>if h:i<bs.length then .int .u8 (bs[i].toNat:Int)else undef) (by rw[hl];exact hc.1) hc.2 (λ_=>e) (λi r u=> ?_) (λi r j d u hj=> ?_) (λi r j d u hj=> ?_);grind;(obtain⟨I,rfl⟩:=hb i r u;(cases j with|succ j=>grind|zero=>unfold zMz;grind));(obtain⟨I,rfl⟩:=hb i r u;(cases j with|succ j=>grind|zero=>cases hj;simp only[I,dif_pos];exact .lit _ rfl))));rw[<-hl];refine Z A' λW=> ?_;(have J:0<bs.length:=by rw[<-hl];exact uU.2 W);obtain⟨ad,e,α⟩:=h.1.at_ (j:=0) J;(have hs:ad.spot=none:=by have:=World.cell?_spot α;simpa[Addr.add]using this);obtain⟨g,p,sp⟩:=ad;simp only at hs;subst hs;refine⟨g,p,e,h.2 _ e,λi u=> ?_⟩;obtain⟨ε,e',γ⟩:=h.1.at_ (j:=i) u;rw[e]at e';cases e';rwa [Addr.add_mid]at γ
theorem zRl{f:FuncId}{args:List A}{bs:List UInt8}{er:Int}(h:∀(w:World) (m:Mem) (o:OwnM) (vals:Array Value),vals.size=args.length->(∀s,RepA m w o (argS args) s (argS args s) (vals.getD s undef))->Calls Tryz.prog f vals w (zSc bs er w)):FC Tryz.prog f args [] (.tup [.d (.seq 1 (qV bs)),.d (.lit (.int .i64 er))]):=by intro w m o vals U Z α J β I;refine(h w m o vals β I).mono ?_;rintro e w' ⟨A',c,rfl,W,hc,hb⟩;refine⟨_,zMz m w w',o,_,_,0,rfl,zQ8 U Z α J hb,⟨_,rfl,rfl,λj x u=> ?_⟩,λi l h=>by cases h⟩;(match j,u with|0,u=>injection u with u;subst u;exact⟨_,rfl,zUe W hc⟩|1,u=>injection u with u;subst u;exact⟨_,rfl,.lit _ rfl⟩|j+2,u=>grind)
theorem vals2{x y:Value}{vals:Array Value}(hs:vals.size=2)(h0:vals.getD 0 undef=x)(u:vals.getD 1 undef=y):vals= #[x,y]:=by obtain⟨l⟩:=vals;(match l,hs with|[p,q],_=>simp at h0 u;grind)
theorem int_of{s:Nat}{n:Int}(h:RepA m w o S s (intA n) v):v= .int .i64 n:=by have h:RepD m (.lit (.int .i64 n)) v:=h;cases h;rfl
end Go.Proofs.YtocolhfjpadaoaaGreatDoor
namespace Go.Proofs.YtocolhfjpadaoaaGreatDoor
open Go.RowKit
theorem pow8(k:Nat):2^(8*k)=256^k:=by rw[Nat.pow_mul]
theorem div8(n k:Nat):((n:Int)/2^(8*k))=((n/256^k:Nat):Int):=by rw[<-pow8,Int.natCast_ediv,Int.natCast_pow];rfl
theorem fill_step(n k size:Nat)(h:k<size):(le k n++List.replicate (size-k) 0).set k (UInt8.ofNat (n/256^k %256))=le (k+1) n++List.replicate (size-(k+1)) 0:=by rw[List.set_append_right _ _ (by rw[zEN];omega),zEN,sE,le_snoc,vW];congr 1;rw[show size-k=(size-(k+1))+1 by omega,List.replicate_succ];rfl
set_option maxHeartbeats 2000000 in
theorem low_any (n size:Nat) (w:World) (hn:n<=4611686018427387904) (h1:1<=size) (h8:size<=8) (hw:wid n<=size):
  Calls Tryz.prog 252 #[.int .i64 n,.int .i64 size] w (zSc (le size n) 0 w):=by
 have hd:((n:Int)/2^(8*size) !=0)=false:=by
  rw[div8,Nat.div_eq_of_lt ((lt_wid _ n).2 hw)]
  rfl
 go_enter Tryz.func252,Tryz.ntmps252
 go_wp2_with (first|(at_make;go_loud (refine zUc _ Tryz.underlying22 (by kernel_rfl) rfl _ _ rfl w.heap.size _ _ _ _ size rfl rfl rfl rfl (by omega) (Nat.le_refl _) ?_)))
 all_goals
  intro w1 hO1 hg1
  have hB1:Below w.heap.size w w1:=(Below.refl _ _).grown hg1 (Nat.le_refl _) (by simp)
  have hsz1:=hO1.lt _ rfl
  clear hg1
  go_wp2_with fail
  go_loopw [38] (λi wr=>∃k:Nat,k<=size/\i= .int .i64 k/\Own wr w.heap.size 5 1 (some ⟨w.heap.size,0,none⟩) size size (u8s (le k n++List.replicate (size-k) 0))/\Below w.heap.size w wr)
   (λi _=>size-(intOf i).toNat)
  case atStart=>exact⟨0,Nat.zero_le _,rfl,hO1,hB1⟩
  case round=>
   obtain⟨k,hk,rfl,hO,hB⟩:=hrel
   by_cases hlt:k<size
   ·
    have HS:=Lib.hid (fill_step n k size hlt)
    have hdk:=div8 n k
    have hc:=hO.byteAt (j:=k) (by rw[List.length_append,zEN,List.length_replicate];omega)
    obtain⟨hc1,hc2⟩:=hc
    generalize(le k n++List.replicate (size-k) 0)[k]'(by rw[List.length_append,zEN,List.length_replicate];omega)=old at*
    have hO2:=hO.setByte k (UInt8.ofNat (n/256^k %256))
    generalize n/256^k=q at*
    rw[HS.out,<-u8_ofNat]at hO2
    clear hO HS
    have hB2:=hB.setCell (p:=⟨w.heap.size,k,none⟩) (Nat.le_refl _) (.int .u8 ((q:Int) %256))
    go_wp2_with fail
    go_roundw
    case rel=>exact⟨k+1,by omega,by go_num,hO2,hB2⟩
    case measure=>simp[intOf];omega
   ·
    have HE:Hid (le k n++List.replicate (size-k) 0=le size n):=by
     show _=_
     rw[show k=size by omega,Nat.sub_self];simp
    go_wp2_with fail
    go_ret2
    rw[HE.out]at hO
    obtain⟨a1,a2,a3⟩:=hO.byt
    exact⟨_,_,by rw[zEN];rfl,a1,a3,hB⟩
def GivesO(bs:List UInt8)(w:World)(e:Ending)(w':World):Prop:=∃A c,e= .returned (.slice A bs.length c)/\Own w' w.heap.size 5 1 A bs.length c (u8s bs)/\Below w.heap.size w w'
set_option maxHeartbeats 1000000 in
theorem clone_any (bs:List UInt8) (A:Option Addr) (n c:Nat) (w:World) (hn:bs.length=n) (hl:n<=1000000000000) (W:Byt w A bs):
 Calls Tryz.prog 164 #[.slice A n c] w (GivesO bs w):=by
 have Z:=λ(w:World) (A:Option Addr) (n c:Nat)=>Lib.run_eql_slice_nil (P:=Tryz.prog) w 22 5 A n c 0 0 Tryz.underlying22
 cases A with
  |none=>
   have hb:bs=[]:=by(cases bs with|nil=>rfl|cons b r=>obtain⟨ad,h,_⟩:=W.at_ (j:=0) (by simp);cases h)
   subst hb
   go_enter Tryz.func164,Tryz.ntmps164
   go_wp2_with fail
   go_ret
   exact⟨none,0,rfl,Own.nil _ _ _ _,Below.refl _ _⟩
  |some ad=>
   have I:=Lib.hid hn
   have α:n<=bs.length:=by omega
   have β:bs.length<=n:=by omega
   clear hn
   go_enter Tryz.func164,Tryz.ntmps164
   go_wp2_with (first|(at_builtin;go_loud (refine zUA _ el_u8 rfl _ _ rfl w.heap.size _ 0 0 [] rfl (Own.litAt #[] _ 1 0 [] rfl (wJ _) (by decide) rfl rfl) (some ad) n c (u8s bs) rfl (by rw[zJ1,I.out];omega) (W.alloc _) (u8_one _) (by omega) (by simp) ?_)))
   intro A2 c2 w2 J U _
   have u:=(Own.litAt (B:=w.heap.size) (w:=w) #[] 5 1 0 [] rfl (wJ _) (by decide) rfl rfl).belowOf (((Below.refl _ _).alloc (wJ _) _)) U (by simp) (wJ _)
   go_wp2_with fail
   go_ret
   exact⟨A2,c2,by rw[I.out];rfl,by rw[I.out];simpa using J,u⟩
theorem swap_step(bs L:List UInt8)(i j:Nat)(hl:L.length=bs.length)(u:i+j+1=bs.length)(h:i<j)
(J:∀t,t<bs.length->L[t]? =if t<i\/j<t then bs.reverse[t]? else bs[t]?)(hi:i<L.length)(I:j<L.length):
 ∀t,t<bs.length->((L.set i L[j]).set j L[i])[t]? =if t<i+1\/j-1<t then bs.reverse[t]? else bs[t]? :=by
 grind
theorem swap_done(bs L:List UInt8)(i:Nat)(j:Int)(hl:L.length=bs.length)(u:(i:Int)+j+1=bs.length)(h:¬(i:Int)<j)
(I:∀t,t<bs.length->L[t]? =if t<i\/j<(t:Int)then bs.reverse[t]? else bs[t]?):L=bs.reverse:=by
 apply sJ
 grind
set_option maxHeartbeats 2000000 in
theorem zSj (bs:List UInt8) (B:Nat) (A:Option Addr) (n c:Nat) (w:World) (hn:bs.length=n) (hl:n<=1000000000000) (hO:Own w B 5 1 A n c (u8s bs)):
    Calls Tryz.prog 317 #[.slice A n c] w λe w'=>e= .returned (.tuple #[])/\Own w' B 5 1 A n c (u8s bs.reverse)/\Below B w w':=by
  by_cases h2:n<2
  · have hr:bs.reverse=bs:=by
      match bs,hn with
      |[],_=>rfl
      |[a],_=>rfl
      |a::b::r,hn=>simp at hn;omega
    rw[hr]
    have W:¬(0:Int)<(n:Int)-1:=by omega
    go_enter Tryz.func317,Tryz.ntmps317
    go_wp2_with fail
    refine wp_loop_rounds 1 ?_
    rw[rounds_succ]
    go_wp2_with fail
    go_end0
    exact⟨rfl,hO,Below.refl _ _⟩
  · obtain⟨g,rfl,U,μ⟩:=hO.addr (by omega)
    have HN:=Lib.hid hn
    have β:bs.length<=n:=by omega
    have θ:n<=bs.length:=by omega
    clear hn
    go_enter Tryz.func317,Tryz.ntmps317
    go_wp2_with fail
    go_loopw [2,3] (λx y wr=>∃(i:Nat) (j:Int) (L:List UInt8),x= .int .i64 i/\y= .int .i64 j/\Hid ((i:Int)+j+1=n)/\L.length<=n/\n<=L.length/\ -1<=j/\(i:Int)<=n/\j<n/\Own wr B 5 1 (some ⟨g,0,none⟩) n c (u8s L)/\Below B w wr/\
        Hid (∀t,t<bs.length->L[t]? =if t<i\/j<(t:Int)then bs.reverse[t]? else bs[t]?)) (λ_ y _=>(intOf y+1).toNat)
    case atStart=>exact⟨0,_,bs,rfl,rfl,Lib.hid (by omega),β,θ,by omega,by omega,by omega,hO,Below.refl _ _,λt ht=>by rw[if_neg (by omega)]⟩
    case round=>
      obtain⟨i,j,L,rfl,rfl,HI,κ,ξ,ι,π,ν,I,hB,HL⟩:=hrel
      by_cases W:(i:Int)<j
      · obtain⟨u,ε⟩:∃u:Nat,j=u:=⟨j.toNat,by omega⟩
        subst ε
        have J:i<L.length:=by omega
        have Z:u<L.length:=by omega
        obtain⟨c1,f1⟩:=I.byteAt J
        obtain⟨c2,f2⟩:=I.byteAt Z
        have i1:(i:Int)<(n:Int):=by omega
        have i2:(u:Int)<(n:Int):=by omega
        have i3:(0:Int)<=(i:Int):=by omega
        have i4:(0:Int)<=(u:Int):=by omega
        go_wp2_with fail
        go_region
        have η:Own ((wr.setCell ⟨g,i,none⟩ (.int .u8 (L[u].toNat:Int))).setCell ⟨g,u,none⟩ (.int .u8 (L[i].toNat:Int))).drew B 5 1 (some ⟨g,0,none⟩) n c (u8s ((L.set i L[u]).set u L[i])):=
          ((I.setByte i L[u]).setByte u L[i]).drew
        have ζ:=((hB.setCell (p:=⟨g,i,none⟩) U (.int .u8 (L[u].toNat:Int))).setCell (p:=⟨g,u,none⟩) U (.int .u8 (L[i].toNat:Int))).drew
        have HS:Hid (∀t,t<bs.length->((L.set i L[u]).set u L[i])[t]? =if t<i+1\/(u:Int)-1<(t:Int)then bs.reverse[t]? else bs[t]?):=by
          intro t ht
          have γ:=HI.out
          have h:=swap_step bs L i u (by omega) (by omega) (by omega) (λt ht=>by
            rw[HL.out t ht]
            by_cases h:t<i\/u<t
            · rw[if_pos h,if_pos (by omega)]
            · rw[if_neg h,if_neg (by omega)]) J Z t ht
          rw[h]
          by_cases h:t<i+1\/u-1<t
          · rw[if_pos h,if_pos (by omega)]
          · rw[if_neg h,if_neg (by omega)]
        have δ:((L.set i L[u]).set u L[i]).length<=n:=by simp;omega
        have α:n<=((L.set i L[u]).set u L[i]).length:=by simp;omega
        generalize(L.set i L[u]).set u L[i]=L2 at*
        clear I hB HL
        go_wp2_with fail
        go_roundw
        case rel=>exact⟨i+1,_,L2,by go_num,rfl,by have:=HI.out;exact Lib.hid (by omega),δ,α,by omega,by omega,by omega,η,ζ,HS.out⟩
        case measure=>simp[intOf]<;>omega
      · go_wp2_with fail
        go_end0
        have γ:=HI.out
        have:=swap_done bs L i j (by omega) (by omega) (by omega) HL.out
        subst this
        exact⟨rfl,I,hB⟩
set_option maxHeartbeats 1000000 in
theorem zUG (bs:List UInt8) (A:Option Addr) (n c:Nat) (w:World) (hn:bs.length=n) (hl:n<=1000000000000) (ha:Byt w A bs):
  Calls Tryz.prog 253 #[.slice A n c] w (GivesB bs.reverse w):=by
 subst hn
 go_enter Tryz.func253,Tryz.ntmps253
 go_wp2_with fail
 refine(clone_any bs A bs.length c w rfl hl ha).mono ?_
 rintro e w1 ⟨A1,c1,rfl,hO,hB⟩
 go_wp2_with fail
 refine(zSj bs w.heap.size A1 bs.length c1 w1 rfl (by omega) hO).mono ?_
 rintro e w2 ⟨rfl,hO2,hB2⟩
 go_wp2_with fail
 go_ret
 rw[<-List.length_reverse]at hO2
 obtain⟨a1,a2,a3⟩:=hO2.byt
 exact⟨A1,c1,by rw[List.length_reverse];rfl,a1,a3,hB.trans hB2⟩
set_option maxHeartbeats 1000000 in
theorem put_any (n size:Nat) (w:World) (hn:n<=4611686018427387904) (h1:1<=size) (h8:size<=8) (W:wid n<=size):
 Calls Tryz.prog 167 #[.int .i64 n,.int .i64 size] w (zSc (be size n) 0 w):=by
 go_enter Tryz.func167,Tryz.ntmps167
 go_wp2_with fail
 refine(low_any n size _ hn h1 h8 W).mono ?_
 rintro e w1 ⟨A,c,rfl,hb,hc,J⟩
 go_wp2_with fail
 refine(zUG (le size n) A _ c w1 rfl (by rw[zEN];omega) hb.1).mono ?_
 rintro e w2 ⟨A2,Z,rfl,U,I,u⟩
 go_wp2_with fail
 go_ret2
 exact⟨A2,Z,by rw[zV,zEN];rfl,U.from J.size,by rw[zV];simpa[zEN]using I,J.trans (u.mono J.size)⟩
end Go.Proofs.YtocolhfjpadaoaaGreatDoor
namespace Go.Proofs.YtocolhfjpadaoaaGreatDoor
open Go Go.RowKit
variable {P:Program}{w0:World}{w:World}{m0:Mem}{m:Mem}{o0:OwnM}{o:OwnM}{G:GD}{pins:List Nat}{N:Nat}{a:Act}{op:Oper}{S:Nat->A}{M:Nat->A}{L:SL}{v:Value}{W:World}{Q:Mem}{X:OwnM}
set_option maxHeartbeats 4000000
set_option maxRecDepth 20000
theorem zFv(u:List UInt8)(r:List UInt8)(h:zBK u=some r):FC Tryz.prog 164 [.t (.d (.seq 1 (qV u)))] [] (.t (.d (.seq 1 (qV r)))):=by refine fc_mk (rs:=[.tmp 2]) (n:=8) Tryz.func164 rfl rfl (wZ rfl) rfl (pins:=[]) rfl (L:=[(0,.t (.d (.seq 1 (qV u))))]) rfl ?_;(have hr:r=u:=by have:=(zNi h).2;grind);refine zOv ?_;refine zNk ?_;refine o_s (.t (.d (.lit (.slice none 0 0)))) (g0 rfl) rfl rfl rfl ?_;refine o_nil ?_;refine zGe ?_;refine zOv ?_;refine zOv ?_;refine c_nil (l1:=[_]) (k:=1) (l:=qV u) rfl rfl rfl rfl ?_;refine o_s (.t (.d (.seq 1 (qV u)))) (g0 rfl) rfl rfl rfl ?_;refine o_nil ⟨rfl,rfl,λb hb=> ?_⟩;refine zGe ?_;refine c_cond rfl (λI=> ?_) (λI=> ?_);(have hb:=hb I;(have hp:u=[]:=by unfold qV at hb;simpa using hb);refine zOv ?_;refine zNk ?_;refine o_s (.t (.d (.lit (.slice none 0 0)))) (g0 rfl) rfl rfl rfl ?_;refine o_nil ?_;refine zGe ?_;refine c_ret ?_;(repeat(refine then_ret ?_));subst hr hp;exact end0 rfl (.t (.d (.nil _))));(refine c_skip ?_;refine zGe ?_;refine zOv ?_;refine zNk ?_;refine o_b0 (.t (.own 5 1 (List.map cU8 []))) (g0 rfl) rfl rfl rfl rfl rfl ?_;refine o_s (.t (.d (.seq 1 (qV u)))) (g0 rfl) rfl rfl rfl ?_;refine o_2c (g0 rfl) rfl rfl rfl (appE (c:=cU8) h) (appC (c:=cU8) h) ?_;refine o_2 (.t (.d (.seq 1 (qV r)))) (.t (.own 5 1 (qV r))) (g0 rfl) rfl rfl rfl ?_;refine o_nil ?_;refine zGe ?_;refine c_ret ?_;exact end0 rfl (.t (.own _ _ _)))
theorem zKz(J I:Int)(r:List UInt8×Int)(h:zFK J I=some r):FC Tryz.prog 167 [.t (.d (.lit (.int .i64 J))),.t (.d (.lit (.int .i64 I)))] [] (.tup [.d (.seq 1 (qV r.1)),.d (.lit (.int .i64 r.2))]):=by unfold zFK at h;split at h;(case isFalse=>cases h);rename_i hc;cases h;obtain⟨W,h2,h3,h4,Z⟩:=hc;obtain⟨n,rfl⟩:=uL W;obtain⟨k,rfl⟩:=uL (show 0<=I by omega);refine zRl λw m o U hs u=> ?_;rw[vals2 hs (int_of (u 0)) (int_of (u 1))];simp only[wR]at Z⊢;exact put_any n k w (by omega) (by omega) (by omega) ((lt_wid k n).1 Z)
end Go.Proofs.YtocolhfjpadaoaaGreatDoor
