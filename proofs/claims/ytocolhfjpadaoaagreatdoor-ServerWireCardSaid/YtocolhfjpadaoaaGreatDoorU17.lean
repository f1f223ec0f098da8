/-
  Lemmas of this claim, joined.
-/
import Derived.Test.YtocolhfjpadaoaaGreatDoorU16
import Derived.Lib.SmallJoins
set_option linter.unusedVariables false
set_option linter.unusedSimpArgs false
set_option linter.constructorNameAsVariable false
namespace Go.Proofs.YtocolhfjpadaoaaGreatDoor
open Go Go.RowKit
variable {P:Program}{w0:World}{w:World}{m0:Mem}{m:Mem}{o0:OwnM}{o:OwnM}{G:GD}{pins:List Nat}{N:Nat}{a:Act}{op:Oper}{S:Nat->A}{M:Nat->A}{L:SL}{v:Value}{W:World}{Q:Mem}{X:OwnM}
def zKs(x:V):Option zJ:=if zDM x [1,2,1,1]=true then match x.l with
 |[a,b,c,d]=>some ⟨a.n,b.b,c.n,d.n⟩
 |_=>none else none
def zEN(x:V):Option zF:=if zDM x [1,2,1,2]=true then match x.l with
 |[a,b,c,d]=>some ⟨a.n,b.b,c.n,d.b⟩
 |_=>none else none
def gath{α β:Type}(f:α->Option β):List α->Option (List β)
 |[]=>some []
 |x::r=>match f x with|some y=>(gath f r).map (y::·)|none=>none
theorem zWk{α β:Type}{f:α->Option β}{g:β->α}(h:∀y,f (g y)=some y)(l:List β):gath f (l.map g)=some l:=by(induction l with|nil=>rfl|cons x r u=>(show(match f (g x)with|some y=>(gath f (r.map g)).map (y::·)|none=>none)=_);rw[h,u];rfl)
theorem zSQ{α β:Type}{f:α->Option β}:∀{l:List α} {z:List β},gath f l=some z->z.length=l.length
 |[],z,h=>by cases h;rfl
 |x::r,z,h=>by unfold gath at h;split at h;(cases u:gath f r with|none=>rw[u]at h;cases h|some y=>rw[u]at h;cases h;simp[zSQ u]);cases h
def zQ9{α β γ:Type}(f:α->Option β)(K:List β->Option γ)(bad:Option γ)(out:List β)(l:List α):Option γ:=match gath f l with
 |some z=>K (out++z)
 |none=>bad
theorem zJ3{α β γ:Type}{l:List α}(f:α->Option β)(F:Nat->List β->Int->Option γ)(K:List β->Option γ)(bad:Option γ)
(u:∀n out i (hi:i<l.length),out.length<=i->F (n+1) out (i:Int)=match f l[i]with|some y=>F n (out++[y]) ((i+1:Nat):Int)|none=>bad)
(I:∀n out,F (n+1) out (l.length:Int)=K out):∀n i out,i<=l.length->l.length-i<n->out.length<=i->F n out (i:Int)=zQ9 f K bad out (l.drop i)
 |0,i,out,_,h,_=>by omega
 |n+1,i,out,hi,h,U=>by by_cases J:i<l.length;(rw[u n out i J U,vL J];unfold zQ9;(rw[show gath f (l[i]::l.drop (i+1))=match f l[i]with|some y=>(gath f (l.drop (i+1))).map (y::·)|none=>none from rfl]);(cases f l[i]with|none=>rfl|some y=>simp only;rw[zJ3 f F K bad u I n (i+1) (out++[y]) (by omega) (by omega) (by simp;omega)];unfold zQ9;(cases gath f (l.drop (i+1))with|none=>rfl|some z=>simp)));((have e:i=l.length:=by omega);subst e;rw[I,List.drop_length];simp[zQ9,gath])
theorem zWR{x:V}{c d e f:Int}(h:zDM x [c,d,e,f]=true):∃a b p q,x.l=[a,b,p,q]:=by unfold zDM at h;rw[wH,decide_eq_true_eq,beq_iff_eq]at h;rcases hl:x.l with _|⟨a,_|⟨b,_|⟨p,_|⟨q,_|⟨u,r⟩⟩⟩⟩⟩<;>rw[hl]at h<;>simp at h;exact⟨a,b,p,q,rfl⟩
abbrev zLU:zB:=⟨0,[],0,[],[],[]⟩
theorem n_Read_l4 (K : List zJ → Option (zB × Int)) (x : V) (hx : x.l.length ≤ 4096) : zAB K x (x.l.length + 1) [] 0 = zQ9 zKs K (some (zLU, 13)) [] x.l :=
 zJ3 (l := x.l) zKs (zAB K x) K (some (zLU, 13)) (fun n out i u I => by
  rw [zAB, zI (yG (by omega)), yC u, wA, zSu _ _ (by simp), wA]
  unfold zKs
  by_cases hk : zDM x.l[i] [1, 2, 1, 1] = true
  ·
   obtain ⟨a, b, c, d, hl⟩ := zWR hk
   rw [if_pos hk, if_pos hk, hl, zH (by rfl)]
   show Option.bind (appI 40 out [⟨a.n, b.b, c.n, d.n⟩]) _ = _
   rw [yV (by simp; omega), wA, qZ (by omega)]
  · rw [if_neg hk, if_neg hk, zI (by rfl)]) (fun n out => by
  rw [zAB, zH (yE (by omega))]) (x.l.length + 1) 0 [] (by omega) (by omega) (by simp)
theorem n_Read_l3 (K : List zF → Option (zB × Int)) (x : V) (hx : x.l.length ≤ 4096) : yY K x (x.l.length + 1) [] 0 = zQ9 zEN K (some (zLU, 13)) [] x.l :=
 zJ3 (l := x.l) zEN (yY K x) K (some (zLU, 13)) (fun n out i u I => by
  rw [yY, zI (yG (by omega)), yC u, wA, zSu _ _ (by simp), wA]
  unfold zEN
  by_cases hk : zDM x.l[i] [1, 2, 1, 2] = true
  ·
   obtain ⟨a, b, c, d, hl⟩ := zWR hk
   rw [if_pos hk, if_pos hk, hl, zH (by rfl)]
   show Option.bind (appI 56 out [⟨a.n, b.b, c.n, d.b⟩]) _ = _
   rw [yV (by simp; omega), wA, qZ (by omega)]
  · rw [if_neg hk, if_neg hk, zI (by rfl)]) (fun n out => by
  rw [yY, zH (yE (by omega))]) (x.l.length + 1) 0 [] (by omega) (by omega) (by simp)
theorem zX5 (K : List zJ → Option (zB × Bool)) (v : V × Int) (x : V) (hv : v.1.l[4]? = some x) (hx : x.l.length ≤ 4096) : zBI K v 5002 [] 0 = zQ9 zKs K (some (zLU, false)) [] x.l :=
 have u : idx v.1.l 4 = some x := hv
 zJ3 (l := x.l) zKs (zBI K v) K (some (zLU, false)) (fun n out i I J => by
  rw [zBI, u, wA, zI (yG (by omega)), wA, yC I, wA, zVw _ _ (by simp), wA]
  unfold zKs
  by_cases hk : zDM x.l[i] [1, 2, 1, 1] = true
  ·
   obtain ⟨a, b, c, d, hl⟩ := zWR hk
   rw [hk, if_pos rfl, hl, zH (by rfl)]
   show Option.bind (appI 40 out [⟨a.n, b.b, c.n, d.n⟩]) _ = _
   rw [yV (by simp; omega), wA, qZ (by omega)]
  · rw [if_neg hk, zI (by simpa using hk)]) (fun n out => by
  rw [zBI, u, wA, zH (yE (by omega))]) 5002 0 [] (by omega) (by omega) (by simp)
theorem zX0 (K : List zF → Option (zB × Bool)) (v : V × Int) (x : V) (hv : v.1.l[5]? = some x) (hx : x.l.length ≤ 4096) : zBJ K v 5002 [] 0 = zQ9 zEN K (some (zLU, false)) [] x.l :=
 have u : idx v.1.l 5 = some x := hv
 zJ3 (l := x.l) zEN (zBJ K v) K (some (zLU, false)) (fun n out i I J => by
  rw [zBJ, u, wA, zI (yG (by omega)), wA, yC I, wA, zVw _ _ (by simp), wA]
  unfold zEN
  by_cases hk : zDM x.l[i] [1, 2, 1, 2] = true
  ·
   obtain ⟨a, b, c, d, hl⟩ := zWR hk
   rw [hk, if_pos rfl, hl, zH (by rfl)]
   show Option.bind (appI 56 out [⟨a.n, b.b, c.n, d.b⟩]) _ = _
   rw [yV (by simp; omega), wA, qZ (by omega)]
  · rw [if_neg hk, zI (by simpa using hk)]) (fun n out => by
  rw [zBJ, u, wA, zH (yE (by omega))]) 5002 0 [] (by omega) (by omega) (by simp)
def zQT (b : List UInt8) : Option zB := match decS b with
 | .error _ => none
 | .ok v => if zDM v [1, 2, 1, 2, 3, 3] = true then match v.l with
  | [a, u, n, k, x, y] => match gath zKs x.l with
   | some I => match gath zEN y.l with
    | some J => some ⟨a.n, u.b, n.n, k.b, I, J⟩
    | none => none
   | none => none
  | _ => none else none
theorem kinds6{x:V}(h:zDM x [1,2,1,2,3,3]=true):∃a u n k p q,x.k=3/\x.l=[a,u,n,k,p,q]/\u.k=2/\p.k=3/\q.k=3:=by unfold zDM at h;rw[wH,decide_eq_true_eq,beq_iff_eq]at h;obtain⟨I,h⟩:=h;rcases hl:x.l with _|⟨a,_|⟨b,_|⟨c,_|⟨d,_|⟨e,_|⟨f,_|⟨u,r⟩⟩⟩⟩⟩⟩⟩<;>rw[hl]at h<;>simp at h;exact⟨a,b,c,d,e,f,I,rfl,h.2.1,h.2.2.2.2.1,h.2.2.2.2.2⟩
theorem zWp{v x:V}(h:v.rpure=true)(u:v.k=3)(hx:x∈v.l)(hk:x.k=3):x.l.length<=4096:=
 (pure_list (V.rpure_items h u x hx) hk).2
theorem n_Read(b:List UInt8):(∀r,zQT b=some r->zRs r)/\
 zAd b=(match zQT b with|some r=>Option.bind (zCS r) λx=>bif !x then some (zLU,13)else some (r,0)|none=>some (zLU,13))/\
 zEI b=(match zQT b with|some r=>Option.bind (zFg r) λx=>bif !x then some (zLU,false)else some (r,true)|none=>some (zLU,false)):=by
 rw[zTP,zXr,n_Decode,zU7,wA,wA]
 unfold decA zQT
 cases hd:decS b with
  |error e=>
   have he:e≠0:=by rcases decS_err hd with h|h|h|h<;>omega
   exact⟨λr h=>(by cases h),by rw[zI (zLj he)],by rw[zI (zLj he)]⟩
  |ok v=>
   obtain⟨_,hp,α,hs⟩:=decS_ok hd
   simp only
   rw[zH (by rfl),zH (by rfl),zSu v _ (by simp),zVw v _ (by simp),wA,wA]
   by_cases hk:zDM v [1,2,1,2,3,3]=true
   case neg=>
    rw[if_neg hk,if_neg hk]
    exact⟨λr h=>(by cases h),by rw[zI (by rfl)],by rw[zI (by simpa using hk)]⟩
   rw[if_pos hk,if_pos hk,hk]
   obtain⟨a,u,n,k,x,y,h3,hl,ku,kx,ky⟩:=kinds6 hk
   have hx:=zWp hp h3 (x:=x) (by rw[hl];simp) kx
   have hy:=zWp hp h3 (x:=y) (by rw[hl];simp) ky
   have hu:=sz_bytes ku
   have β:=sz_item h3 (x:=u) (by rw[hl];simp)
   rw[hl,zH (by rfl),zH (by rfl)]
   simp only
   have I:=n_Read_l4 (zEo a u n k ([a,u,n,k,x,y],true)) x hx
   have J:=zX5 (zHF a u n k (v,0)) (v,0) x (by show v.l[4]? =_;rw[hl];rfl) hx
   unfold zQ9 at I J
   cases W:gath zKs x.l with
    |none=>
     rw[W]at I J
     exact⟨λr h=>(by cases h),I,J⟩
    |some ws=>
     rw[W]at I J
     have Z:=n_Read_l3 (zEq a u n k ws) y hy
     have U:=zX0 (zHT a u n k ws) (v,0) y (by show v.l[5]? =_;rw[hl];rfl) hy
     unfold zQ9 at Z U
     cases hc:gath zEN y.l with
      |none=>
       rw[hc]at Z U
       exact⟨λr h=>(by cases h),I.trans Z,J.trans U⟩
      |some cs=>
       rw[hc]at Z U
       refine⟨λr h=> ?_,I.trans Z,J.trans U⟩
       cases h
       exact⟨by show u.b.length<=_;omega,by show ws.length<=_;rw[zSQ W];omega,by show cs.length<=_;rw[zSQ hc];omega⟩
theorem want_back(w:zJ):zKs (zMD w)=some w:=rfl
theorem zVq(c:zF):zEN (zDj c)=some c:=rfl
theorem pre_back {r : zB} (h : ReqP r) : zQT (reqV r).enc = some r := by
 unfold zQT
 rw [decS_enc (zPR h)]
 simp only
 rw [if_pos (show zDM (reqV r) [1, 2, 1, 2, 3, 3] = true from rfl)]
 show (match gath zKs (r.Wants.map zMD) with
  | some u => match gath zEN (r.Changes.map zDj) with
   | some I => some (⟨r.Kind, r.User, r.Number, r.Key, u, I⟩ : zB)
   | none => none
  | none => none) = _
 rw [zWk want_back, zWk zVq]
theorem n_both(b:List UInt8):(∃r,ReqP r/\zAd b=some (r,0)/\zEI b=some (r,true))\/(zAd b=some (zLU,13)/\zEI b=some (zLU,false)):=by obtain⟨Z,I,u⟩:=n_Read b;(cases hp:zQT b with|none=>rw[hp]at I u;exact .inr ⟨I,u⟩|some r=>rw[hp]at I u;simp only at I u;have U:=Z r hp;by_cases J:MayP r;(rw[(zEf r U).yes J]at I;rw[(zMR r U).yes J]at u;exact .inl ⟨r,J.req,I,u⟩);(rw[(zEf r U).no J]at I;rw[(zMR r U).no J]at u;exact .inr ⟨I,u⟩))
theorem n_back{r:zB}(h:MayP r):zAd (reqV r).enc=some (r,0):=by obtain⟨_,u,_⟩:=n_Read (reqV r).enc;rw[u,pre_back h.req];simp only;rw[(zEf r h.req.short).yes h];rfl
theorem zS8 {r : zB} (h : ReqP r) : zFH r r = some true := by
 have I := h.wl
 have J := h.cl
 rw [zYB, zH (zHe rfl), beq_self_eq_true, zH (by rfl), zH (zHe rfl), beq_self_eq_true, zH (by rfl), zH (zHe rfl), zH (zHe rfl)]
 refine ((zG0 (len := r.Wants.length) (zBv (fun _ => zDd r r) r r) (fun _ => True) (zDd r r) none (fun n i u => ⟨fun _ => by
  rw [zBv, zI (yG (by omega)), yC u, wA, wA, zH (by simp), qZ (by omega)], fun h => absurd trivial h⟩) (fun n => by
  rw [zBv, zH (yE (by omega))]) (r.Wants.length + 1) 0 (by omega) (by omega)).1 fun _ _ _ => trivial).trans ?_
 unfold zDd
 exact (zG0 (len := r.Changes.length) (zBr r r) (fun _ => True) (some true) none (fun n i u => ⟨fun _ => by
  have hd := (h.c _ (vX u)).2.2.2
  rw [zBr, zI (yG (by omega)), yC u, wA, wA, zH (zHe rfl), beq_self_eq_true, zH (by rfl), zH (zHe rfl), zRk _ _ (by omega), wA, beq_self_eq_true, zH (by rfl), qZ (by omega)], fun h => absurd trivial h⟩) (fun n => by
  rw [zBr, zH (yE (by omega))]) (r.Changes.length + 1) 0 (by omega) (by omega)).1 fun _ _ _ => trivial
theorem req_zero:ReqP zLU:=⟨by decide,by decide,by decide,by decide,by decide,by simp,by decide,by simp⟩
noncomputable section
theorem zQs(u:O)(W:Hp):zEO u W=
ptM u (none) λI=>
(W.ge_dk I).bind λJ=>
some (decide ((J.now_.2:Int)>0)):=by simp only[zEO,zKv,rn]<;>rfl
theorem zP9(I:O)(u:Int)(W:Hp):zA4 I u W=
(zEO I W).bind λZ=>
bif (!Z)then(none)else
ptM I (none) λU=>
(W.ge_dk U).bind λJ=>
bif J.off_ then(none)else
bif (decide (u<0))then(none)else
bif (decide (u>=(J.now_.2:Int)))then(none)else
some 0:=by simp only[zA4,zI4,rn]<;>rfl
theorem zOr(u:O)(W:Hp):yZ u W=
ptM u (none) λI=>
(W.ge_dk I).bind λJ=>
bif (decide (J.fuse_<0))then(some (false,W))else
none:=by simp only[yZ,zIJ,rn]<;>rfl
theorem zNp(p0:O)(U:Int)(p2:Y)(W:Hp):zAI p0 U p2 W=
(zA4 p0 U W).bind λx1=>
bif (x1 !=0)then(none)else
bif ((p2.length:Int) !=64)then(none)else
(s2aI 64 p2).bind λx5=>
ptM p0 (none) λi8=>
(W.ge_dk i8).bind λJ=>
(appI 72 J.wait_ [(qU.mk U x5)]).bind λβ=>
let u:qF:=(qF.mk J.kept_ J.now_ β J.fuse_ J.off_ J.lives_);let α:=(W.st_dk i8 u);(α.ge_sec u.now_.1).bind λI=>
(lenI I.length u.now_.2).bind λζ=>
(idx I U).bind λε=>
let δ:(List Y):=(I.set (Int.toNat U) x5);let γ:=(α.st_sec u.now_.1 δ);(yZ p0 γ).bind λZ=>
bif Z.1 then(none)else
some (0,Z.2):=by simp only[zAI,zG4,rn]<;>rfl
def zEz(W:O)(U:Hp):Option (Int×Hp):=
ptM W (none) λZ=>
(U.ge_dk Z).bind λu=>
let J:qF:=(qF.mk u.kept_ u.now_ [] u.fuse_ u.off_ u.lives_);let I:=(U.st_dk Z J);some (0,I)
theorem zKP(I:O)(u:Hp):(zCr I u).run Env.nil=zEz I u:=by simp only[zCr,rn]<;>rfl
def qY(k1:Hp->Option (Int×Hp))(Z:qF)(p0:O)(α:Nat):Nat->Int->Hp->Option (Int×Hp)
 |0,_,_=>none
 |n0+1,U,u=>
  bif (decide (U<(Z.wait_.length:Int)))then((idx Z.wait_ U).bind λI=>
  (u.ge_dk α).bind λW=>
  (u.ge_sec W.kept_.1).bind λJ=>
  (lenI J.length W.kept_.2).bind λε=>
  (idx J I.n_).bind λδ=>
  let γ:(List Y):=(J.set (Int.toNat I.n_) I.b_);let β:=(u.st_sec W.kept_.1 γ);qY k1 Z p0 α n0 (wi (U+1)) β)else
  k1 u
theorem zKS(k1:Hp->Option (Int×Hp))(I:qF)(J:O)(u:Nat)(U:J=some u):∀n q,lpn (λk (q:Int×Hp)=>(zCo I J u U q.1 q.2).run ((Env.nil.cons k1).cons k)) n q=qY k1 I J u n q.1 q.2:=yS (g:=λn (q:Int×Hp)=>qY k1 I J u n q.1 q.2) (λ_=>rfl) λn q=>by simp only[zCo,rn]<;>rfl
theorem zNW(u:O)(W:Hp):zAo u W=
(zA4 u 0 W).bind λZ=>
bif (Z !=0)then(none)else
(yZ u W).bind λU=>
bif U.1 then(none)else
ptM u (none) λJ=>
(U.2.ge_dk J).bind λI=>
qY (zEz u) I u J (I.wait_.length+1) 0 U.2:=by simp only[zAo,zGn,rn,zKP,zKS]<;>rfl
def zDU(J:O)(p1:Int)(W:Hp):Option (Int×Hp):=
(zAo J W).bind λZ=>
bif (Z.1 !=0)then(none)else
(zJR 1 p1 Z.2).bind λU=>
(zAI J 0 U Z.2).bind λI=>
bif (I.1 !=0)then(none)else
(zAo J I.2).bind λu=>
some (u.1,u.2)
theorem zQF(J:O)(I:Int)(u:Hp):(zFY J I u).run Env.nil=zDU J I u:=by simp only[zFY,rn]<;>rfl
def zAw(k1:Hp->Option (Int×Hp))(Z:Int)(W:O):Nat->Int->Hp->Option (Int×Hp)
 |0,_,_=>none
 |n0+1,u,J=>
  bif (decide (u<(wi (2+Z))))then((mkI 1 64).bind λU=>
  (zAI W u (List.replicate U (0:UInt8)) J).bind λI=>
  bif (I.1 !=0)then(none)else
  zAw k1 Z W n0 (wi (u+1)) I.2)else
  k1 J
theorem zPX(k1:Hp->Option (Int×Hp))(u:Int)(I:O):∀n q,lpn (λk (q:Int×Hp)=>(zFp u I q.1 q.2).run ((Env.nil.cons k1).cons k)) n q=zAw k1 u I n q.1 q.2:=yS (g:=λn (q:Int×Hp)=>zAw k1 u I n q.1 q.2) (λ_=>rfl) λn q=>by simp only[zFp,rn]<;>rfl
theorem zUR(I:O)(u:Int)(W:Hp):zCf I u W=
(zAT I W).bind λJ=>
bif (J==0)then(none)else
(zNq I u W).bind λU=>
bif (!U)then(none)else
zAw (zDU I u) u I (Int.toNat (wi (2+u))+1) 1 W:=by simp only[zCf,zN2,rn,zQF,zPX]<;>rfl
def zEE(W:Hp)(I:(O×Int×Hp))(p1:Int)(Z:Hp):Option (Int×Hp):=
(Z.ge_st W.ln_st).bind λη=>
(zP4 η.geometry_.homes_ Z).bind λu=>
(u.2.2.ge_st W.ln_st).bind λδ=>
(zA6 δ.geometry_).bind λβ=>
(zF1 u.1 β u.2.2).bind λα=>
(α.2.2.ge_st W.ln_st).bind λζ=>
(zDK ζ.geometry_ I.1 (zT.mk 0 p1 0 0) α.2.2).bind λU=>
(U.ge_st W.ln_st).bind λε=>
(zCy ε.geometry_ I.1 u.1 U).bind λγ=>
(zIC I.1 γ).bind λJ=>
some (J.1,J.2)
theorem zM5(W:Hp)(u:(O×Int×Hp))(J:Int)(I:Hp):(zD1 W u J I).run Env.nil=zEE W u J I:=by simp only[zD1,rn]<;>rfl
def zBc(k1:Hp->Option (Int×Hp))(U:Int)(J:(O×Int×Hp)):Nat->Int->Hp->Option (Int×Hp)
 |0,_,_=>none
 |n0+1,u,I=>
  bif (decide (u<U))then((mkI 1 64).bind λW=>
  (zJu J.1 u (List.replicate W (0:UInt8)) I).bind λZ=>
  zBc k1 U J n0 (wi (u+1)) Z.2)else
  k1 I
theorem zNB(k1:Hp->Option (Int×Hp))(I:Int)(u:(O×Int×Hp)):∀n q,lpn (λk (q:Int×Hp)=>(zDw I u q.1 q.2).run ((Env.nil.cons k1).cons k)) n q=zBc k1 I u n q.1 q.2:=yS (g:=λn (q:Int×Hp)=>zBc k1 I u n q.1 q.2) (λ_=>rfl) λn q=>by simp only[zDw,rn]<;>rfl
theorem zRJ(J:O)(p1:Int)(W:Hp):zB5 J p1 W=
(zAT J W).bind λx1=>
bif (x1==0)then(none)else
(zAT J W).bind λx4=>
(zJc x4).bind λx6=>
bif (decide (x6<1))then(none)else
bif (decide (p1<0))then(none)else
bif (decide (p1>2305843009213693952))then(none)else
(zAT J W).bind λβ=>
(zNY β).bind λε=>
let U:qJ:=(qJ.mk ε none);let γ:=(W.nw_st U);(zCf J U.geometry_.size_ γ).bind λZ=>
bif (Z.1 !=0)then(none)else
(zG1 J Z.2).bind λu=>
bif (u.2.1 !=0)then(none)else
(u.2.2.ge_st W.ln_st).bind λδ=>
let ζ:qJ:=(qJ.mk δ.geometry_ u.1);let η:=(u.2.2.st_st W.ln_st ζ);(zFN u.1 η).bind λI=>
bif (I.2.1 !=0)then(none)else
(I.2.2.ge_st W.ln_st).bind λθ=>
(zA6 θ.geometry_).bind λα=>
zBc (zEE W I p1) α I (Int.toNat α+1) 0 I.2.2:=by simp only[zB5,zK3,rn,zM5,zNB]<;>rfl
theorem zUV(p0:Int)(Z:Int)(W:Hp):zER p0 Z W=
(zNc p0 W).bind λu=>
bif (u.2.1 !=0)then(none)else
(zB5 u.1 Z u.2.2).bind λx4=>
bif (x4.1 !=0)then(none)else
(zJn u.1 x4.2).bind λI=>
bif (I.2.1 !=0)then(none)else
let J:yK:=(yK.mk u.1 I.1);let U:=(I.2.2.nw_sv J);some ((some I.2.2.ln_sv),0,U):=by simp only[zER,zJt,rn]<;>rfl
theorem zV5(W:Hp):zFX W=
(zER 1100 1000 W).bind λU=>
(zAC U.1 [3,0,0] U.2.2).bind λx3=>
(zBL x3.1).bind λx5=>
bif (U.2.1 !=0)then(none)else
bif (x5.2 !=0)then(none)else
bif (x5.1.Err !=13)then(none)else
(zDI (zB.mk 4 [97] 1 [] [] [(zF.mk 2 [107] 0 [1])])).bind λZ=>
(zAC U.1 Z x3.2).bind λI=>
(zBL I.1).bind λJ=>
bif (J.2 !=0)then(none)else
bif (J.1.Err !=0)then(none)else
(zCY U.1 I.2).bind λα=>
(zD5 α [107] I.2).bind λu=>
bif (u.2.1==0)then(some ((u.1.Version==1),u.2.2))else
none:=by simp only[zFX,zQf,rn]<;>rfl
end
abbrev Z64:List UInt8:=List.replicate 64 0
def W1(z:Nat):List qU:=(List.range z).map λi=>⟨((i+1:Nat):Int),Z64⟩
def A1(n z:Nat):List Y:=[]::(List.replicate z Z64++List.replicate (n-1-z) [])
def Hz(H:Hp)(n a b:Nat)(w:List qU):Hp:={H with dk:=[⟨(0,n),(1,n),w,-1,false,0⟩],sec:=[A1 n a,A1 n b]}
theorem zUc(z:Nat):(W1 z).length=z:=by simp[W1]
theorem W1_succ(z:Nat):W1 (z+1)=W1 z++[⟨((z+1:Nat):Int),Z64⟩]:=by simp[W1,List.range_succ]
theorem W1_get{s j:Nat}(h:j<s):(W1 s)[j]'(by rw[zUc];exact h)=⟨((j+1:Nat):Int),Z64⟩:=by simp[W1]
theorem zWg{n z:Nat}(h:z<n):(A1 n z).length=n:=by simp[A1];omega
theorem app_set{α:Type}(Z X:α)(z m:Nat):(List.replicate z Z++List.replicate (m+1) X).set z Z=List.replicate (z+1) Z++List.replicate m X:=by rw[List.set_append_right _ _ (by simp),List.replicate_succ' (n:=z),vG,wW,sR];rfl
theorem A1_set{n z:Nat}(h:z+1<n):(A1 n z).set (z+1) Z64=A1 n (z+1):=by(have e:n-1-z=(n-1-(z+1))+1:=by omega);unfold A1;rw[e,List.set_cons_succ,app_set]
section
variable {H:Hp}{n a b:Nat}{w:List qU}
theorem z_may{k:Nat}(hk:k<n):zA4 (some 0) (k:Int) (Hz H n a b w)=some 0:=by rw[zP9,zQs];show Option.bind (some (decide ((n:Int)>0))) _=_;rw[wA,zH (by simp;omega)];show(bif false then none else bif decide ((k:Int)<0)then none else bif decide ((k:Int)>=(n:Int))then none else some 0)=_;grind
theorem z_burn:yZ (some 0) (Hz H n a b w)=some (false,Hz H n a b w):=by rw[zOr];rfl
theorem z_write{z:Nat}(hz:z+1<n)(u:n<=16384):zAI (some 0) ((z+1:Nat):Int) Z64 (Hz H n a z (W1 z))=some (0,Hz H n a (z+1) (W1 (z+1))):=by rw[zNp,z_may hz,wA,zH (by rfl),zH (by rfl)];show Option.bind (appI 72 (W1 z) [⟨((z+1:Nat):Int),Z64⟩]) _=_;rw[yV (by rw[zUc];simp;omega),wA,<-W1_succ];show Option.bind (lenI (A1 n z).length n) _=_;unfold lenI;rw[if_pos (zWg (by omega)),wA,yC (by rw[zWg (by omega)];exact hz),wA];show Option.bind (yZ (some 0) {Hz H n a z (W1 (z+1))with sec:=[A1 n a,(A1 n z).set (Int.toNat ((z+1:Nat):Int)) Z64]}) _=_;rw[uF,A1_set hz];show Option.bind (yZ (some 0) (Hz H n a (z+1) (W1 (z+1)))) _=_;rw[z_burn];rfl
theorem zRn{s:Nat}(I:s<n)(J:n<=16384)(k1:Hp->Option (Int×Hp))(x:qF)(hx:x.wait_=W1 s):∀m j:Nat,j<=s->s-j<m->qY k1 x (some 0) 0 m (j:Int) (Hz H n j s (W1 s))=k1 (Hz H n s s (W1 s))
 |0,j,_,h=>by omega
 |m+1,j,U,h=>by unfold qY;rw[hx,zUc];by_cases u:j<s;(rw[zI (yG (by omega)),yC (by rw[zUc];exact u),wA,W1_get u];show Option.bind (lenI (A1 n j).length n) _=_;unfold lenI;rw[if_pos (zWg (by omega)),wA,yC (by rw[zWg (by omega)];omega),wA];show qY k1 x (some 0) 0 m (wi ((j:Int)+1)) {Hz H n j s (W1 s)with sec:=[(A1 n j).set (Int.toNat ((j+1:Nat):Int)) Z64,A1 n s]}=_;rw[uF,A1_set (by omega),qZ (by omega)];exact zRn I J k1 x hx m (j+1) (by omega) (by omega));grind
theorem z_flush{s:Nat}(u:s<n)(I:n<=16384):zAo (some 0) (Hz H n 0 s (W1 s))=some (0,Hz H n s s []):=by rw[zNW,show zA4 (some 0) 0 (Hz H n 0 s (W1 s))=some 0 from z_may (k:=0) (by omega),wA,zH (by rfl),z_burn,wA,zH (by rfl)];show qY _ ⟨(0,n),(1,n),W1 s,-1,false,0⟩ (some 0) 0 _ ((0:Nat):Int) _=_;rw[zRn u I _ _ rfl _ 0 (by omega) (by rw[zUc];omega)];rfl
theorem zPp{s:Nat}(I:1+s<n)(u:n<=16384)(k1:Hp->Option (Int×Hp)):∀m z:Nat,z<=1+s->1+s-z<m->zAw k1 (s:Int) (some 0) m ((z+1:Nat):Int) (Hz H n 0 z (W1 z))=k1 (Hz H n 0 (1+s) (W1 (1+s)))
 |0,z,_,h=>by omega
 |m+1,z,hz,h=>by unfold zAw;rw[zEa (z:=2+(s:Int)) (by omega) (by omega)];by_cases J:z<1+s;(rw[zI (yG (by omega))];show Option.bind (zAI (some 0) ((z+1:Nat):Int) Z64 (Hz H n 0 z (W1 z))) _=_;rw[z_write (by omega) u,wA,zH (by rfl),qZ (by omega)];exact zPp I u k1 m (z+1) (by omega) (by omega));grind
end
set_option maxRecDepth 100000
def sts{α:Type}(l:List α)(s:List (Nat×α)):List α:=s.foldl (λl x=>l.set x.1 x.2) l
def zs(s:List (Nat×UInt8)):List UInt8:=sts Z64 s
def K1:Hp:=⟨[⟨(0,1100),(1,1100),[],(-1),false,0⟩],[],[],[],[],[],[],[],[(List.replicate 1100 []),(List.replicate 1100 [])],[],[]⟩
def K2:Hp:={K1 with st:=[⟨⟨1033,65,1⟩,none⟩]}
def P1:List Y:=sts (A1 1100 1034) [(0,(zs [(7,1),(10,4),(11,9),(63,1)]))]
def K3:Hp:={K2 with sec:=[P1,P1]}
def P2:List Y:=sts P1 [(1,(zs [(6,4),(7,10),(10,4),(11,9),(62,4),(63,10)]))]
def K4:Hp:={K3 with lg:=[⟨(some 0),1033,1034,1,0,0,0⟩],sec:=[P2,P2]}
def P3:List Y:=sts P2 [(2,(zs [(0,1),(19,3),(20,232),(52,78),(53,127),(54,25),(55,243),(62,4),(63,10)])),(3,(zs [(0,2),(52,185),(53,122),(54,142),(55,219),(62,4),(63,11)])),(4,(zs [(0,1),(4,1),(5,63),(52,77),(53,16),(54,86),(55,139),(62,4),(63,12)])),(5,(zs [(0,2),(4,1),(52,77),(53,140),(54,56),(55,57),(62,4),(63,13)])),(6,(zs [(0,1),(4,2),(52,118),(53,63),(54,200),(55,42),(62,4),(63,14)])),(7,(zs [(0,2),(4,2),(52,133),(53,61),(54,109),(55,108),(62,4),(63,15)])),(8,(zs [(0,1),(4,3),(52,145),(53,165),(54,230),(55,158),(62,4),(63,16)])),(9,(zs [(0,2),(4,3),(52,98),(53,167),(54,67),(55,216),(62,4),(63,17)])),(10,(zs [(0,1),(4,4),(52,47),(53,64),(54,252),(55,151),(62,4),(63,18)])),(11,(zs [(0,2),(4,4),(52,220),(53,66),(54,89),(55,209),(62,4),(63,19)])),(12,(zs [(0,1),(4,5),(52,219),(53,182),(54,74),(55,117),(62,4),(63,20)])),(13,(zs [(0,2),(4,5),(52,40),(53,180),(54,239),(55,51),(62,4),(63,21)])),(14,(zs [(0,3),(4,6),(52,93),(53,209),(54,4),(55,127),(62,4),(63,22)]))]
def P4:List Y:=sts P3 [(1035,(zs [(14,3),(15,232)])),(1036,(zs [(0,63)])),(1037,Z64),(1038,Z64),(1039,Z64),(1040,Z64)]
def K5:Hp:=⟨[(qF.mk (0,1100) (1,1100) [(qU.mk 1035 (zs [(14,3),(15,232)])),(qU.mk 1036 (zs [(0,63)])),⟨1037,Z64⟩,⟨1038,Z64⟩,⟨1039,Z64⟩,⟨1040,Z64⟩] (-1) false 0)],[⟨(some 0),1033,1034,1,13,0,1⟩],[⟨(some 0),0,true,0⟩],[],[⟨65,59,(0,2),true⟩],[⟨⟨1033,65,1⟩,(some 0)⟩],[],[],[P3,P4],[[63,0]],[[(0,(zs [(14,3),(15,232)])),(1,(zs [(0,63)])),(2,Z64),(3,Z64),(4,Z64),(5,Z64)]]⟩
def P5:List Y:=sts P4 [(0,(zs [(6,8),(7,19),(10,4),(11,9),(62,8),(63,19)]))]
def K6:Hp:=⟨[⟨(0,1100),(1,1100),[],(-1),false,0⟩],[⟨(some 0),1033,1034,1,13,0,1⟩,⟨(some 0),1033,2067,0,0,0,0⟩],[⟨(some 0),0,true,0⟩,⟨(some 1),0,false,1⟩],[⟨(some 1),2⟩],[⟨65,59,(0,2),true⟩,⟨65,59,(1,2),true⟩],[⟨⟨1033,65,1⟩,(some 0)⟩,⟨⟨1033,65,1⟩,(some 1)⟩],[⟨(some 1),(some 1),(some 0),⟨0,1000,0,0⟩,(some 1)⟩],[],[P5,P5],[[63,0],[63,0]],[[(0,(zs [(14,3),(15,232)])),(1,(zs [(0,63)])),(2,Z64),(3,Z64),(4,Z64),(5,Z64)],[]]⟩
def K7:Hp:={K6 with sv:=[⟨(some 0),(some 1)⟩]}
def P6:List Y:=sts P5 [(2,(zs [(0,1),(12,1),(19,3),(20,232),(28,121),(36,2),(52,34),(53,107),(54,231),(55,141),(62,8),(63,19)])),(3,(zs [(0,2),(52,152),(53,199),(54,204),(55,34),(62,8),(63,20)])),(4,(zs [(0,1),(4,1),(5,255),(6,7),(52,108),(53,181),(54,208),(55,211),(62,8),(63,21)])),(5,(zs [(0,2),(4,1),(52,107),(53,92),(54,190),(55,217),(62,8),(63,22)])),(6,(zs [(0,1),(4,2),(32,10),(52,176),(53,37),(54,61),(55,52),(62,8),(63,23)])),(7,(zs [(0,2),(4,2),(52,170),(53,91),(54,167),(55,167),(62,8),(63,24)])),(8,(zs [(0,1),(4,4),(52,20),(53,39),(54,106),(55,19),(62,8),(63,25)])),(9,(zs [(0,2),(4,4),(20,7),(52,243),(53,22),(54,93),(55,46),(62,8),(63,26)])),(10,(zs [(0,1),(4,6),(9,1),(52,11),(53,61),(54,223),(55,2),(62,8),(63,27)])),(11,(zs [(0,2),(4,6),(52,219),(53,98),(54,44),(55,226),(62,8),(63,28)])),(12,(zs [(0,1),(4,7),(16,1),(20,1),(24,6),(25,1),(26,107),(52,249),(53,150),(54,249),(55,3),(62,8),(63,29)])),(13,(zs [(0,2),(4,7),(52,40),(53,249),(54,94),(55,25),(62,8),(63,30)])),(14,(zs [(0,1),(4,8),(8,9),(10,6),(11,3),(13,1),(14,1),(15,1),(16,1),(52,141),(53,34),(54,161),(55,45),(62,8),(63,31)])),(15,(zs [(0,2),(4,8),(52,85),(53,219),(54,166),(55,47),(62,8),(63,32)])),(16,(zs [(0,1),(4,9),(52,187),(53,76),(54,16),(55,190),(62,8),(63,33)])),(17,(zs [(0,2),(4,9),(52,166),(53,64),(54,212),(55,212),(62,8),(63,34)])),(18,(zs [(0,1),(4,10),(16,1),(20,120),(24,8),(25,3),(26,116),(27,47),(28,97),(52,43),(53,42),(54,107),(55,48),(62,8),(63,35)])),(19,(zs [(0,2),(4,10),(52,105),(53,156),(54,69),(55,152),(62,8),(63,36)])),(20,(zs [(0,3),(4,9),(52,242),(53,247),(54,207),(55,248),(62,8),(63,37)]))]
def P7:List Y:=sts P6 [(1035,(zs [(7,1),(14,3),(15,232),(23,121),(31,2)])),(1036,(zs [(0,255),(1,7)])),(1037,(zs [(27,10)])),(1039,(zs [(47,7)])),(1041,(zs [(4,1)])),(1042,(zs [(11,1),(15,1),(19,6),(20,1),(21,107)])),(1043,(zs [(3,9),(5,6),(6,3),(8,1),(9,1),(10,1),(11,1)])),(1044,Z64),(1045,(zs [(11,1),(15,120),(19,8),(20,3),(21,116),(22,47),(23,97)]))]
def K8:Hp:={K7 with dk:=[(qF.mk (0,1100) (1,1100) [(qU.mk 1035 (zs [(7,1),(14,3),(15,232),(23,121),(31,2)])),(qU.mk 1036 (zs [(0,255),(1,7)])),(qU.mk 1037 (zs [(27,10)])),(qU.mk 1039 (zs [(47,7)])),(qU.mk 1041 (zs [(4,1)])),(qU.mk 1042 (zs [(11,1),(15,1),(19,6),(20,1),(21,107)])),(qU.mk 1043 (zs [(3,9),(5,6),(6,3),(8,1),(9,1),(10,1),(11,1)])),⟨1044,Z64⟩,(qU.mk 1045 (zs [(11,1),(15,120),(19,8),(20,3),(21,116),(22,47),(23,97)]))] (-1) false 0)],lg:=[⟨(some 0),1033,1034,1,13,0,1⟩,⟨(some 0),1033,2067,0,19,0,1⟩],tx:=[⟨(some 0),0,true,0⟩,⟨(some 1),0,false,1⟩,⟨(some 1),0,false,2⟩,⟨(some 1),0,true,3⟩],ix:=[⟨(some 1),2⟩,⟨(some 2),2⟩,⟨(some 3),2⟩],sp:=[⟨65,59,(0,2),true⟩,⟨65,59,(1,2),true⟩,⟨65,59,(2,2),true⟩,⟨65,54,(3,2),true⟩],vw:=[⟨(some 1),(some 1),(some 0),⟨0,1000,0,0⟩,(some 1)⟩,⟨(some 1),(some 2),(some 1),⟨0,1000,0,0⟩,(some 2)⟩,⟨(some 1),(some 3),(some 2),⟨1,1000,121,2⟩,(some 3)⟩],sec:=[P6,P7],w64:=[[63,0],[63,0],[63,0],[2047,0]],mp:=[[(0,(zs [(14,3),(15,232)])),(1,(zs [(0,63)])),(2,Z64),(3,Z64),(4,Z64),(5,Z64)],[],[],[(6,(zs [(4,1)])),(7,(zs [(11,1),(15,1),(19,6),(20,1),(21,107)])),(4,(zs [(47,7)])),(8,(zs [(3,9),(5,6),(6,3),(8,1),(9,1),(10,1),(11,1)])),(9,Z64),(10,(zs [(11,1),(15,120),(19,8),(20,3),(21,116),(22,47),(23,97)])),(2,(zs [(27,10)])),(0,(zs [(7,1),(14,3),(15,232),(23,121),(31,2)])),(1,(zs [(0,255),(1,7)]))]]}
def K9:Hp:={K8 with tx:=[⟨(some 0),0,true,0⟩,⟨(some 1),0,false,1⟩,⟨(some 1),0,false,2⟩,⟨(some 1),0,true,3⟩,⟨(some 1),1,false,4⟩],ix:=[⟨(some 1),2⟩,⟨(some 2),2⟩,⟨(some 3),2⟩,⟨(some 4),2⟩],sp:=[⟨65,59,(0,2),true⟩,⟨65,59,(1,2),true⟩,⟨65,59,(2,2),true⟩,⟨65,54,(3,2),true⟩,⟨65,54,(4,2),true⟩],vw:=[⟨(some 1),(some 1),(some 0),⟨0,1000,0,0⟩,(some 1)⟩,⟨(some 1),(some 2),(some 1),⟨0,1000,0,0⟩,(some 2)⟩,⟨(some 1),(some 3),(some 2),⟨1,1000,121,2⟩,(some 3)⟩,⟨(some 1),(some 4),(some 3),⟨1,1000,121,2⟩,(some 4)⟩],w64:=[[63,0],[63,0],[63,0],[2047,0],[2047,0]],mp:=[[(0,(zs [(14,3),(15,232)])),(1,(zs [(0,63)])),(2,Z64),(3,Z64),(4,Z64),(5,Z64)],[],[],[(6,(zs [(4,1)])),(7,(zs [(11,1),(15,1),(19,6),(20,1),(21,107)])),(4,(zs [(47,7)])),(8,(zs [(3,9),(5,6),(6,3),(8,1),(9,1),(10,1),(11,1)])),(9,Z64),(10,(zs [(11,1),(15,120),(19,8),(20,3),(21,116),(22,47),(23,97)])),(2,(zs [(27,10)])),(0,(zs [(7,1),(14,3),(15,232),(23,121),(31,2)])),(1,(zs [(0,255),(1,7)]))],[]]}
theorem k_disk:zNc 1100 Hp.e=some (some 0,0,K1):=by kernel_rfl
theorem k_format:zCf (some 0) 1033 K2=some (0,K3):=by rw[zUR,show zAT (some 0) K2=some 1100 by kernel_rfl,wA,zH (by rfl),show zNq (some 0) 1033 K2=some true by kernel_rfl,wA,zH (by rfl)];show zAw _ ((1033:Nat):Int) (some 0) 1036 ((0+1:Nat):Int) K2=_;rw[show K2=Hz K2 1100 0 0 (W1 0) by kernel_rfl,zPp (by omega) (by omega) _ 1036 0 (by omega) (by omega)];show zDU (some 0) 1033 (Hz K2 1100 0 1034 (W1 1034))=_;unfold zDU;rw[z_flush (by omega) (by omega),wA,zH (by rfl)];kernel_rfl
theorem k_open:zG1 (some 0) K3=some ((some 0),(0,K4)):=by kernel_rfl
theorem k_rest{W H2 U Z:Hp}{J n m:Int}{g:qB}{R:Option (Int×Hp)}(h1:zAT (some 0) W=some n)(h2:(n==0)=false)(h3:zJc n=some m)(h4:decide (m<1)=false)(h5:decide (J<0)=false)(h6:decide (J>2305843009213693952)=false)(h7:zNY n=some g)(h8:W.nw_st ⟨g,none⟩=H2)(h9:zCf (some 0) g.size_ H2=some (0,U))(α:zG1 (some 0) U=some (some 0,0,Z))
(h:((Z.ge_st W.ln_st).bind λε=>
  let δ:qJ:=⟨ε.geometry_,some 0⟩;let β:=Z.st_st W.ln_st δ;(zFN (some 0) β).bind λu=>
  bif (u.2.1 !=0)then none else
  (u.2.2.ge_st W.ln_st).bind λγ=>
  (zA6 γ.geometry_).bind λI=>
  zBc (zEE W u J) I u (Int.toNat I+1) 0 u.2.2)=R):zB5 (some 0) J W=R:=by
 subst h8
 rw[zRJ,h1,wA,h2,cond_false,wA,h3,wA,h4,cond_false,h5,cond_false,h6,cond_false,wA,h7,wA]
 show Option.bind (zCf (some 0) g.size_ _) _=_
 rw[h9,wA]
 show Option.bind (zG1 (some 0) U) _=_
 rw[α,wA]
 exact h
theorem k_store:zB5 (some 0) 1000 K1=some (0,K5):=k_rest (n:=1100) (m:=59) (g:=⟨1033,65,1⟩) (H2:=K2) (by kernel_rfl) rfl (by kernel_rfl) rfl rfl rfl (by kernel_rfl) (by kernel_rfl) k_format k_open (by kernel_rfl)
theorem k_sopen:zJn (some 0) K5=some ((some 1),(0,K6)):=by kernel_rfl
theorem k_new:zER 1100 1000 Hp.e=some ((some 0),(0,K7)):=by rw[zUV,k_disk,wA,zH (by rfl),k_store,wA,zH (by rfl),k_sopen,wA,zH (by rfl)];kernel_rfl
theorem k_one:zAC (some 0) [3,0,0] K7=some ([3,0,4,1,1,13,1,0,2,0,0,0,3,0,0],K7):=by kernel_rfl
theorem k_two:zAC (some 0) [3,0,6,1,1,4,2,0,0,1,97,1,1,1,2,0,0,0,3,0,0,3,0,1,3,0,4,1,1,2,2,0,0,1,107,1,0,2,0,0,1,1] K7=some ((sts (List.replicate 14 0) [(0,3),(2,4),(3,1),(5,1),(7,2),(11,3)]),K8):=by kernel_rfl
theorem k_get:zD5 (some 1) [107] K8=some (⟨1,[1]⟩,(0,K9)):=by kernel_rfl
theorem k_awake:zFX Hp.e=some (true,K9):=by rw[zV5,k_new,wA,k_one,wA,show zBL [3,0,4,1,1,13,1,0,2,0,0,0,3,0,0]=some (⟨13,0,[],[]⟩,0) by kernel_rfl,wA,zH (by rfl),zH (by rfl),zH (by rfl),show zDI ⟨4,[97],1,[],[],[⟨2,[107],0,[1]⟩]⟩=some [3,0,6,1,1,4,2,0,0,1,97,1,1,1,2,0,0,0,3,0,0,3,0,1,3,0,4,1,1,2,2,0,0,1,107,1,0,2,0,0,1,1] by kernel_rfl,wA,k_two,wA,show zBL (sts (List.replicate 14 0) [(0,3),(2,4),(3,1),(5,1),(7,2),(11,3)])=some (⟨0,0,[],[]⟩,0) by kernel_rfl,wA,zH (by rfl),zH (by rfl),show zCY (some 0) K8=some (some 1) by kernel_rfl,wA,k_get,wA,zI (by rfl)];rfl
theorem n_Few (r : zB) (hl : r.Changes.length ≤ 9223372036854775807) : ∃ t, zI9 r = some t ∧ (t = true → zRs r) := by
 have hf : zBi (zI3 r.Changes) ((∀ c ∈ r.Changes, c.Data.length ≤ 1100 ∧ c.Key.length ≤ 100) ∧ r.Changes.length ≤ 70) := by
  rw [u_L22_Few]
  refine zFJ (zCT (fun _ => zJd r.Changes) r.Changes) (fun n i J => ?_) fun n => ?_
  ·
   rw [zCT, zI (yG (by omega)), yC J, wA, qZ (by omega)]
   simp only [zPJ]
   repeat' split
   all_goals first | rfl | omega
  ·
   rw [zCT, zH (yE (by omega))]
   exact .of (by rw [decide_eq_true_eq]; omega)
 obtain ⟨t, ht, I⟩ := hf
 rw [u_L36_Few, ht]
 by_cases Z : (r.User.length : Int) > 20
 · exact ⟨false, by rw [zI (yG Z)], fun h => by cases h⟩
 rw [zH (yE Z)]
 by_cases U : (r.Key.length : Int) > 100
 · exact ⟨false, by rw [zI (yG U)], fun h => by cases h⟩
 rw [zH (yE U)]
 by_cases W : (r.Wants.length : Int) > 70
 · exact ⟨false, by rw [zI (yG W)], fun h => by cases h⟩
 rw [zH (yE W), wA]
 cases t with
 | false => exact ⟨false, rfl, fun h => by cases h⟩
 | true =>
  have hc := (I.1 rfl).2
  obtain ⟨u, hu, _⟩ := zFJ (l := r.Wants) (P := fun w => w.Key.length ≤ 100) (E := True) (zCe r) (fun n i J => by
   rw [zCe, zI (yG (by omega)), yC J, wA, qZ (by omega)]
   simp only [zPJ]
   repeat' split
   all_goals first | rfl | omega) (fun n => by
   rw [zCe, zH (yE (by omega))]
   exact .of (by simp))
  exact ⟨u, by rw [zH (by rfl)]; exact hu, fun _ => ⟨by omega, by omega, by omega⟩⟩
theorem zJv(b:List UInt8):zA3 b (true,K9)=some (true,K9):=by unfold zA3;rcases n_both b with⟨r,J,u,I⟩|⟨u,I⟩;(rw[u,I,wA,wA,zS8 J];rfl);(rw[u,I,wA,wA,zS8 req_zero];rfl)
theorem zUM(r:zB)(b:List UInt8)(hl:r.Changes.length<=9223372036854775807):∃w',zBy r b Hp.e=some (true,w'):=by rw[zOf,k_awake,wA,zH (by rfl)];obtain⟨t,ht,u⟩:=n_Few r hl;rw[ht,wA];(cases t with|false=>exact⟨_,rfl⟩|true=>have u:=u rfl;rw[zH (by rfl)];by_cases I:(b.length:Int)>5000;rw[zI (yG I)];exact⟨_,rfl⟩;rw[zH (yE I)];refine⟨K9,?_⟩;by_cases h:MayP r;(rw[n_Write h,(zMR r u).yes h,wA,wA,zI rfl];simp only;rw[n_back h,wA,zH (by rfl),zVO h,wA,zRk _ _ (by have:=(zUW h.req).2;omega),wA,beq_self_eq_true,zH (by rfl),zH (by rfl)];simp only;rw[zS8 h.req,wA,zH (by rfl)];exact zJv b);(rw[zYP u h,(zMR r u).no h,wA,wA,zH rfl,zH (by rfl),zH (by rfl)];exact zJv b))
theorem zNd(u:zB)(I:List UInt8)(r:Bool)(h:∃H,zBy u I Hp.e=some (r,H)):FC Tryz.prog 10 [.t (.agg [.lit (.int .i64 u.Kind),.lit (.string ⟨⟨u.User⟩⟩),.lit (.int .i64 u.Number),.lit (.string ⟨⟨u.Key⟩⟩),.seq 4 (List.map zG u.Wants),.seq 4 (List.map zC u.Changes)]),.t (.d (.seq 1 (zV I)))] [] (.t (.d (.lit (.bool r)))):=by obtain⟨H,h⟩:=h;exact fc_of_h (zMq u I Hp.e _ h) hpA_e rfl (by show 2<=OB;decide)
end Go.Proofs.YtocolhfjpadaoaaGreatDoor
namespace Go.Proofs.YtocolhfjpadaoaaGreatDoor
open Go Go.RowKit Go.ChangeShapes Go.WideShapes Go.ChangeAt
set_option linter.unusedVariables false
set_option maxRecDepth 20000
def memW(w:World):Mem:=λb p=>w.cell? ⟨b,p,none⟩
theorem memW_sat(w:World):∀b p u,memW w b p=some u->w.cell? ⟨b,p,none⟩=some u:=λ_ _ _ h=>h
def OpT{H:Type}(enc:TypeId×Value->H)(w:World){α:Type}(t:TypeId)(c:α->List D)(ok:α->Prop):Prop:=
 ∀(base:Nat) (u:Nat->Bool) (J:Bool) (I:Nat) (U:List Value) (x:DataW H×List MemPlace),DataW.trod enc Tryz.prog w base u J I t U=some x->∃v:α,RepL (memW w) (c v) U/\ok v
def OpF{H:Type}(enc:TypeId×Value->H)(w:World){α:Type}(m:Nat)(t:TypeId)(c:α->List D)(ok:α->Prop):Prop:=
 ∀(base:Nat) (I:Nat->Bool) (J:Bool) (u:Nat) (U:List Value) (x:DataW H×List MemPlace),u<m->DataW.trod enc Tryz.prog w base I J u t U=some x->∃v:α,RepL (memW w) (c v) U/\ok v
theorem OpT.lt{H:Type}{enc:TypeId×Value->H}{w:World}{α:Type}{t:TypeId}{c:α->List D}{ok:α->Prop}(h:OpT enc w t c ok)(m:Nat):OpF enc w m t c ok:=λb s l f u x _ k=>h b s l f u x k
theorem OpT.of{H:Type}{enc:TypeId×Value->H}{w:World}{α:Type}{t:TypeId}{c:α->List D}{ok:α->Prop}(h:∀m,OpF enc w m t c ok):OpT enc w t c ok:=λb s l f u x k=>h (f+1) b s l f u x (Nat.lt_succ_self f) k
def zTw(k:IntKind)(n:Int):Prop:=(Lit.int k n).wf=true
def okAny{α:Type}(_:α):Prop:=True
def okLen{α:Type}(l:List α):Prop:=l.length<=9223372036854775807
def zSB{α:Type}(ok:α->Prop)(l:List α):Prop:=l.length<=9223372036854775807/\∀x∈l,ok x
theorem zKD{m:Mem}{d:D}{u:Value}(h:RepD m d u):RepL m [d] [u]:=by refine⟨rfl,λj e I=> ?_⟩;grind
theorem zBM{m:Mem}{l1 Z:List D}{cs:List Value}{o k:Nat}(J:RepL m l1 ((cs.drop o).take k))(U:RepL m Z (cs.drop (o+k))):RepL m (l1++Z) (cs.drop o):=by(have e:cs.drop o=(cs.drop o).take k++cs.drop (o+k):=by rw[<-sE,uW]);rw[e];refine⟨by rw[wP,wP,J.1,U.1],λj d I=> ?_⟩;rcases wR j l1.length with hl|hl;(rw[uN hl]at I;obtain⟨u,a,b⟩:=J.2 j d I;grind);(rw[uB hl]at I;obtain⟨u,a,b⟩:=U.2 _ d I;exact⟨u,by rw[uB (by rw[J.1];exact hl),J.1];exact a,b⟩)
theorem zTC{m:Mem}{cs:List Value}{n:Nat}(h:cs.length=n):RepL m [] (cs.drop n):=by rw[tS (by omega)];exact⟨rfl,λj d u=>by simp at u⟩
section
variable {H:Type}{enc:TypeId×Value->H}{w:World}
theorem zP6{t:TypeId}{k:IntKind}(ht:Tryz.prog.underlying t=some (.int k)):OpT enc w t (cInt k) (zTw k):=λb s l f I x h=>by obtain⟨n,rfl,_,u⟩:=DataW.trod_int ht h;exact⟨n,zKD (.lit _ rfl),u⟩
theorem op_u8{t:TypeId}(ht:Tryz.prog.underlying t=some (.int .u8)):OpT enc w t cU8 okAny:=λb s l f J x h=>by obtain⟨n,rfl,_,u⟩:=DataW.trod_int ht h;refine⟨UInt8.ofNat n.toNat,zKD ?_,trivial⟩;(have I:0<=n/\n<=255:=by simp[Lit.wf,IntKind.min,IntKind.max,IntKind.signed,IntKind.bits]at u;omega);(have:((UInt8.ofNat n.toNat).toNat:Int)=n:=by simp;omega);rw[this];exact .lit _ rfl
theorem zWy{t:TypeId}(ht:Tryz.prog.underlying t=some .string):OpT enc w t cStr okLen:=λb s l f I x h=>by obtain⟨n,rfl,_,u⟩:=DataW.trod_string ht h;refine⟨n.data.toList,zKD ?_,?_⟩;(obtain⟨⟨y⟩⟩:=n;exact .lit _ rfl);(unfold maxLen at u;show n.data.toList.length<=_;(have:n.data.toList.length=n.size:=by simp);omega)
theorem zU8{α:Type}(P:Nat->α->Prop):∀n:Nat,(∀i,i<n->∃x,P i x)->∃l:List α,l.length=n/\∀i (h:i<l.length),P i l[i]
 |0,_=>⟨[],rfl,λi h=>absurd h (by simp)⟩
 |n+1,h=>by obtain⟨l,hl,hp⟩:=zU8 P n λi u=>h i (by omega);obtain⟨x,hx⟩:=h n (by omega);refine⟨l++[x],by simp[hl],λi u=> ?_⟩;grind
theorem op_sliceF{α:Type}{t te:TypeId}{k m:Nat}{c:α->List D}{ok:α->Prop}(ht:Tryz.prog.underlying t=some (.slice te))(hk:Tryz.prog.cellsOf te=k)(ν:0<k)(he:OpF enc w m te c ok):OpF enc w (m+1) t (cSl k c) (zSB ok):=λb s l f cs x hf h=>by
  rcases DataW.trod_slice ht h with⟨rfl,_⟩|⟨a,len,cap,U,ι,n,hn,rfl,_,μ,τ,Z,ξ,ζ,_⟩
  · exact⟨[],zKD (RepD.nilSeq _ _),by simp,λx hx=>by cases hx⟩
  · have get:∀i,i<len->∃v:α,(∃I:List Value,I.length=k/\(∀j u,I[j]? =some u->w.cell? ((a.add (i*k)).add j)=some u)/\RepL (memW w) (c v) I)/\ok v:=by
      intro i J
      have h1:=ζ i J
      obtain⟨y,hy⟩:∃y,U[i]? =some y:=⟨U[i],wB (by omega)⟩
      rw[hy,hk]at h1
      obtain⟨I,γ,η⟩:=Option.bind_eq_some_iff.1 h1
      obtain⟨φ,ρ,κ⟩:=World.cells?_some γ
      obtain⟨v,θ,σ⟩:=he _ _ _ n I y (by omega) η
      grind
    by_cases h0:len=0
    · subst h0
      exact⟨[],zKD (.seq k [] _ cap 0 0 (λ_ _=>undef) (by simp) Z (λh=>absurd rfl h) (λi r h=>by simp at h) (λi r j d h=>by simp at h) (λi r j d h=>by simp at h)),by simp,λx hx=>by cases hx⟩
    · have hs:a.spot=none:=by
        obtain⟨v,⟨I,π,W,_⟩,_⟩:=get 0 (by omega)
        have:=World.cell?_spot (W 0 _ (wB (by omega)))
        simpa[Addr.add]using this
      obtain⟨g,o,sp⟩:=a
      simp only at hs
      subst hs
      obtain⟨l,ε,δ⟩:=zU8 _ len get
      refine⟨l,zKD ?_,by unfold maxLen at Z;omega,λx hx=> ?_⟩
      · have:=RepD.seq (m:=memW w) k (l.map c) (some ⟨g,o,none⟩) cap g o (λi j=>(memW w g (o+i*k+j)).getD undef) (by simp;omega) Z (λ_=>rfl) (λi r J=> ?_) (λi r j d J hj=> ?_) (λi r j d J hj=> ?_)
        · rwa [wM,ε]at this
        all_goals
          rw[wG]at J
          have β:i<l.length:=by
            rcases wR i l.length with g|g
            · exact g
            · rw[vY g]at J;cases J
          rw[wB β]at J
          injection J with J
          subst J
          obtain⟨⟨I,h1,h2,h3⟩,_⟩:=δ i β
        · have:=h3.1
          omega
        all_goals
          obtain⟨u,k1,k2⟩:=h3.2 j d hj
          have k3:=h2 j u k1
          rw[Addr.add_mid,Addr.add_mid]at k3
          have k4:memW w g (o+i*k+j)=some u:=k3
          rw[k4]
        · rfl
        · exact k2
      · obtain⟨i,J,rfl⟩:=List.getElem_of_mem hx
        exact(δ i J).2
theorem zO2{α:Type}{t te:TypeId}{k:Nat}{c:α->List D}{ok:α->Prop}(ht:Tryz.prog.underlying t=some (.slice te))(hk:Tryz.prog.cellsOf te=k)(u:0<k)(I:OpT enc w te c ok):OpT enc w t (cSl k c) (zSB ok):=
 λb s l f J x h=>op_sliceF ht hk u (I.lt f) b s l f J x (Nat.lt_succ_self f) h
end
theorem fc_law{f:FuncId}{args:List A}(h:FC Tryz.prog f args [] (.t (.d (.lit (.bool true))))){w:World}{vals:Array Value}(hs:vals.size=args.length)(I:∀b p u,memW w b p=some u->w.cell? ⟨b,p,none⟩=some u)(hr:∀s,RepA (memW w) w (λ_=>none) (argS args) s (argS args s) (vals.getD s undef))(U:Mle TBL (memW w):=by intro b p u h;simp[TBL,TBLS]at h):
 Calls Tryz.prog f vals w λe w'=>e= .returned (.bool true)/\Below w.heap.size w w':=by
 refine(h w (memW w) (λ_=>none) vals I U (λ_ _ h=>by cases h) (λ_ _ _ h=>by cases h) hs hr).mono ?_
 rintro e w' ⟨u,m',o',S',a',ρ,rfl,J,Z,_⟩
 have W:Same (λ_=>False) w w':=J.same.weaken λg h=>h rfl
 have Z:RepD m' (.lit (.bool true)) u:=Z
 cases Z
 exact⟨rfl,W.below⟩
theorem repl_head{m:Mem}{d:D}{cs:List Value}(h:RepL m [d] cs):∃u,cs=[u]/\RepD m d u:=by(match cs,h.1 with|[u],_=>obtain⟨v,I,J⟩:=h.2 0 d rfl;grind)
end Go.Proofs.YtocolhfjpadaoaaGreatDoor
