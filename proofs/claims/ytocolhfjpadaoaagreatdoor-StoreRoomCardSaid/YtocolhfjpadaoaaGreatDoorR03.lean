/-
  Lemmas of this claim, joined.
-/
import Derived.Test.YtocolhfjpadaoaaGreatDoorR02
import Derived.Laws.StructEq
import Derived.Lib.SliceRun
import Derived.Laws.MakeOwn
import Derived.Laws.CopyRow
import Derived.Laws.Pointers
set_option linter.unusedVariables false
set_option linter.unusedSimpArgs false
set_option linter.constructorNameAsVariable false
namespace Go.Proofs.YtocolhfjpadaoaaGreatDoor
open Go
abbrev wN:=@List.length_replicate
abbrev vH:=@List.getElem?_replicate
abbrev tX:=@List.mem_append_left
end Go.Proofs.YtocolhfjpadaoaaGreatDoor
namespace Go.Proofs.YtocolhfjpadaoaaGreatDoor
open Go Go.RowKit
variable {P:Program}{w0:World}{w:World}{m0:Mem}{m:Mem}{o0:OwnM}{o:OwnM}{G:GD}{pins:List Nat}{N:Nat}{a:Act}{op:Oper}{S:Nat->A}{M:Nat->A}{L:SL}{v:Value}{W:World}{Q:Mem}{X:OwnM}
section
variable {P:Program}{pins:List Nat}{N:Nat}{S M:Nat->A}
theorem ok_mf{d f:Nat}(J:op.op= .makeFunc (.func f) #[] #[])(hd:op.dst=some d)(u:okD N pins S d=true):OpOK P pins N op S (upd S d (.t (.d (.lit (.func (.func f) #[] #[]))))):=by refine zL λW Q X G a w m o U I=> ?_;obtain⟨k1,k2,k3⟩:=zS u;refine⟨.func (.func f) #[] #[],w,m,o,?_,by rw[hd];exact I.set d _ _ (by omega) k2 (.lit _ rfl)⟩;unfold execOp;rw[J];simp[Instr.makeFunc]
theorem ok_b0{d t e sz nb:Nat}(α:op.op= .buildSlice t 0 #[])(hd:op.dst=some d)(U:okD N pins S d=true)(hE:elF P t=some (e,sz,nb)):OpOK P pins N op S (upd S d (.t (.own e sz []))):=by refine zL λW Q X G a w m o hN I=> ?_;obtain⟨h1,h2,h3⟩:=zS U;have E:=zMv hE;obtain⟨i,z,hi,hz,rfl,rfl,β⟩:=E.info;(have J:Own (w.alloc (.cells #[] e)) 0 e i.size (some ⟨w.heap.size,0,none⟩) 0 0 []:=by have:=Own.lit (B:=0) w #[] e i.size 0 (uF _) (by unfold maxLen;omega) (by simp);grind);refine⟨.slice (some ⟨w.heap.size,0,none⟩) 0 0,w.alloc (.cells #[] e),_,_,?_,by rw[hd];refine I.own_put d _ _ (λp=>([]:List Value)[p]?) w.heap.size _ (by omega) h2 h3 (I.free (wJ _)) (I.newG (wJ _)) ((Same.alloc (λ_=>False) w _).weaken (λ_ h=>h.elim)) (by simp) (λp u h=>by rw[I.mem_none (wJ _)]at h;cases h) (λp u hp=>Own.cellAt J rfl hp) ?_;exact⟨some ⟨w.heap.size,0,none⟩,0,[],rfl,zF3 J,λg Z=>by injection Z with Z;subst Z;exact⟨zAO _ _ _,λp _=>zJ2 _ _ _ _⟩,λi r h=>by simp at h,λi r j d h=>by simp at h⟩⟩;unfold execOp;rw[α];simp[Instr.buildSlice,run_underlying E.under,sizeOf,typeInfo,hi,Instr.fill,newRow];grind
def eqV:Value->Value->TypeDesc->Option Bool
 | .int k a,.int u b,.int _=>if k=u then some (a==b)else none
 | .bool a,.bool b,.bool=>some (a==b)
 | .string a,.string b,.string=>some (a.toList==b.toList)
 |_,_,_=>none
def eqFs(P:Program):List Field->List D->List D->Option Bool
  |[],_,_=>some true
  |f::fs,xs,ys=>if f.name= "_" then none else match xs[f.offset]?,ys[f.offset]?,P.underlying f.type,P.info? f.type with
    |some (.lit u),some (.lit v),some t,some i=>if i.size=1/\TypeDesc.aggr t=false then match eqV u v t,eqFs P fs xs ys with
      |some b,some c=>some (b&&c)
      |_,_=>none
      else none
    |_,_,_,_=>none
theorem eqV_run{u:Value}{I:TypeDesc}{b:Bool}(h:eqV u v I=some b){t:TypeId}(ht:P.underlying t=some I)(w:World)(d:Nat):(Op.equalIn (d+1) t u v).run P w= .ok b w:=by unfold eqV at h;split at h;(split at h;(rename_i hk;subst hk;injection h with h;rw[run_equalIn_int w d t _ _ _ _ ht,h]);cases h);(injection h with h;rw[run_equalIn_bool w d t _ _ ht,h]);(injection h with h;rw[run_equalIn_string w d t _ _ ht,h]);cases h
theorem zTX{t:TypeId}{I:TypeDesc}{i:TypeInfo}(ht:P.underlying t=some I)(hi:P.info? t=some i)(Z:i.size=1)(J:TypeDesc.aggr I=false){xs:Array Value}{off:Nat}{u:Value}(U:xs[off]? =some u)(w:World):(part t xs off).run P w= .ok u w:=by simp[part,zRZ ht,J,U]
theorem zTS{xs W:List D}{Z vs:Array Value}(hx:RepL m xs Z.toList)(hy:RepL m W vs.toList)(w:World)(d:Nat):∀(I:List Field) (b:Bool),eqFs P I xs W=some b->(Op.eqFields (d+1) Z vs I).run P w= .ok b w
 |[],b,h=>by cases h;rfl
 |f::I,b,h=>by unfold eqFs at h;split at h;cases h;rename_i hn;split at h;(case h_2=>cases h);rename_i u v t i h1 h2 U h4;split at h;(case isFalse=>cases h);rename_i J;split at h;(case h_2=>cases h);rename_i b1 c h5 h6;cases h;have ih:=zTS hx hy w d I c h6;obtain⟨u',k1,k2⟩:=hx.2 _ _ h1;obtain⟨v',k3,k4⟩:=hy.2 _ _ h2;cases k2;cases k4;simp only[Op.eqFields,if_pos hn,wE,zTX U h4 J.1 J.2 (by simpa using k1) w,zTX U h4 J.1 J.2 (by simpa using k3) w,wD,eqV_run h5 U w d];cases b1;rfl;grind
def eqS(P:Program)(M:Nat->A)(t:TypeId)(x y:Operand):Option Bool:=match cpO M x,cpO M y with
 | .t (.agg xs),.t (.agg I)=>match P.underlying t with|some (.struct u)=>if P.stoodInHeld t=false/\P.eqGuardType P.depth t=false then eqFs P u.toList xs I else none|_=>none
 |_,_=>none
theorem ok_eqs(hM:Mk M S){J:BinOp}{d t yt:Nat}{x y:Operand}(ng:Bool)(hb:J=bif ng then .neq else .eql)(β:op.op= .binOp J t x y yt)(hd:op.dst=some d)(α:okD N pins S d=true){b:Bool}(h:eqS P M t x y=some b):OpOK P pins N op S (upd S d (.t (.d (.lit (.bool (ng^^b)))))):=by refine zL λW Q X G a w m o hN I=> ?_;obtain⟨k1,k2,k3⟩:=zS α;unfold eqS at h;split at h;(case h_2=>cases h);rename_i xs ys hx hy;split at h;(case h_2=>cases h);rename_i fs hu;split at h;(case isFalse=>cases h);rename_i hc;have ex:=qA hM I x 0;have ey:=qA hM I y 0;rw[hx]at ex;rw[hy]at ey;obtain⟨Z,e1,r1⟩:=ex;obtain⟨vs,e2,r2⟩:=ey;(have hf:P.fieldsOf t=fs:=by unfold Program.fieldsOf;rw[hu]);have u:=zTS (P:=P) r1 r2 w 9998 fs.toList b h;have U:=run_equalIn_agg (P:=P) w 9999 t Z vs (by rw[hf];exact hu) hc.1;rw[hf]at U;refine⟨.bool (ng^^b),w,m,o,?_,by rw[hd];exact I.set d _ _ (by omega) k2 (.lit _ rfl)⟩;unfold execOp;rw[β];simp only[wE];rw[e1,e2,run_eqGuard_agg w J t x y Z vs hc.2,wD];subst hb;cases ng;(show Result.andThen ((binOp .eql t (.agg Z) (.agg vs)).run P w) _=_;rw[run_eql_struct,U,u];simp);(show Result.andThen ((binOp .neq t (.agg Z) (.agg vs)).run P w) _=_;rw[run_neq_struct,U,u];simp)
end
section
variable {P:Program}{pins:List Nat}{N:Nat}{ops:Array Oper}{Q:SL->Prop}{r:List Oper}{op:Oper}{L:SL}
theorem o_b0{d t e sz Z:Nat}(x:A)(hy:yes ops op L true)(I:op.op= .buildSlice t 0 #[])(hd:op.dst=some d)(u:okD N pins (gt L) d=true)(U:elF P t=some (e,sz,Z))(hx:A.t (.own e sz [])=x)(k:zDp P pins N ops Q r ((d,x)::L)):zDp P pins N ops Q (op::r) L:=by subst hx;exact o_of (e:=[(d,_)]) hy (.of (e:=[(d,_)]) λJ=>⟨ok_b0 I hd (qR J u) U,zBz (qG J u)⟩) rfl k
end
section
variable {P:Program}{pins:List Nat}{N:Nat}
theorem ops_tail{F:Fence}{n:Nat}(hF:zJK F){ops:Array Oper}{Q:SL->Prop}{u:List Oper}{R:Exit->Act->World->Prop}(hQ:∀L a w,Q L->St W m0 X G pins N L a w->wpListIn F n P ops R u a w):∀(l:List Oper) (L:SL) (a:Act) (w:World),zDp P pins N ops Q l L->St W m0 X G pins N L a w->wpListIn F n P ops R (l++u) a w:=by intro l;(induction l with|nil=>intro L a w h hS;exact hQ L a w h hS|cons op r ih=>intro L a w h hS;obtain⟨b,hy,hb⟩:=h;refine wpListIn_step λK hK=> ?_;rw[zPH hy hS];(cases b with|true=>rw[if_pos rfl]at hb⊢;obtain⟨L',α,hr⟩:=hb;obtain⟨hN,Z,m,o,I⟩:=hS;obtain⟨α,β⟩:=α (by rw[<-hN];exact I.wide) Z;exact α F n hF W m0 X G a w m o hN I _ _ λa' w' m' o' γ I'=>hK _ _ (ih L' a' w' hr ⟨γ,β,m',o',I'⟩)|false=>rw[if_neg (by simp)]at hb⊢;obtain⟨d,hd,J,hr⟩:=hb;obtain⟨hN,Z,m,o,I⟩:=hS;(have U:N<=OB:=by rw[<-hN];exact I.wide);obtain⟨h1,h2,h3⟩:=zS (qR U J);refine⟨λf _=>hF.fn f,hK _ _ (ih _ _ w hr ⟨by rw[zCW,hN],by rw[zR];exact Z.upd (by have:=qG U J;unfold OB at this;unfold OB2;omega),m,o,?_⟩)⟩;rw[hd,zR,zOX (.inl (qG U J))];exact I.set d (.tup []) undef (by omega) h2 ⟨#[],rfl,rfl,λj x h=>by simp at h⟩))
theorem c_nil{id:Nat}{l1:List Oper}{d t yt e k:Nat}{x:Operand}{l:List (List D)}{Q:Exit->SL->Prop}(δ:op.op= .binOp .eql t x (.const (.slice none 0 0)) yt)(hg:op.guard=none)(hd:op.dst=some d)(ht:P.underlying t=some (.slice e))
(h:zDp P pins N (l1++[op]).toArray (λZ=>okD N pins (gt Z) d=true/\dO (gt Z) x=some (.seq k l)/\∀b:Bool,(b=true->l=[])->Q .normal ((d,.t (.d (.lit (.bool b))))::Z)) l1 L):qK P pins N (.region id (l1++[op]).toArray false) Q L:=by
 intro Fe ne hF W m0 X G a w hS
 refine wpIn_region_lit (ops_tail hF.w (λZ a w hq hS=> ?_) l1 L a w h hS)
 obtain⟨u,γ,hb⟩:=hq
 obtain⟨hN,η,m,o,I⟩:=hS
 have J:N<=OB:=by rw[<-hN];exact I.wide
 obtain⟨h1,h2,h3⟩:=zS (qR J u)
 refine wpListIn_step λK hK=> ?_
 have hw:Region.wanted op (yielded (l1++[op]).toArray a.tmps)=true:=by unfold Region.wanted;rw[hg]
 rw[hw,if_pos rfl]
 have hr:=zG2 (Mk_hx _) I γ
 have ε:∀v,RepD m (.seq k l) v->∃b:Bool,(b=true->l=[])/\∀y:Operand,(do eqGuard .eql t x y v (.slice none 0 0);binOp .eql t v (.slice none 0 0)).run P w= .ok (.bool b) w:=by intro v hv;(cases hv with|seq _ _ A' cap g o f θ ι hA hw hm hr=>refine⟨A'.isNone,λhb=> ?_,λy=> ?_⟩;grind;((have α:(eqGuard .eql t x y (.slice A' l.length cap) (.slice none 0 0)).run P w= .ok () w:=by unfold eqGuard;rfl);rw[wE,α,wD];exact Go.Lib.run_eql_slice_nil w t e A' _ cap 0 0 ht))
 obtain⟨b,β,U⟩:=ε _ hr
 refine op_in hF.w ?_
 unfold Oper.wp
 have ζ:(execOp a.eval op).run P w= .ok (.value (.bool b)) w:=by unfold execOp;rw[δ];have:=U (.const (.slice none 0 0));show Sem.run P (do pure (Next.value (<-(do eqGuard .eql t x (.const (.slice none 0 0)) (a.eval x) (.slice none 0 0);binOp .eql t (a.eval x) (.slice none 0 0))))) w=_;rw[wE,this];rfl
 rw[ζ]
 refine⟨by rw[hd];rfl,hK _ _ (wpListIn_nil ⟨_,hb b β,by rw[zCW,hN],by rw[zR];exact η.upd (by have:=qG J u;unfold OB at this;unfold OB2;omega),m,o,?_⟩)⟩
 rw[hd,zR,zOX (.inl (qG J u))]
 exact I.set d _ _ (by omega) h2 (.lit _ rfl)
end
theorem andE{a b c d:Bool}(h:a=b)(k:c=d):(a&&c)=(b&&d):=by rw[h,k]
def zBK(l:List UInt8):Option (List UInt8):=appI 1 [] l
def zFK(n size:Int):Option (List UInt8×Int):=if 0<=n/\n<=4611686018427387904/\1<=size/\size<=8/\n.toNat<256^size.toNat then some (be size.toNat n.toNat,0)else none
theorem str_ltL(x y:List UInt8):Op.bytesLess (ByteArray.mk ⟨x⟩).toList (ByteArray.mk ⟨y⟩).toList=Op.bytesLess x y:=by simp
def sLt(x y:List UInt8):Bool:=Op.bytesLess x y
theorem s_lt(x y:List UInt8):Op.bytesLess (ByteArray.mk ⟨x⟩).toList (ByteArray.mk ⟨y⟩).toList=sLt x y:=str_ltL x y
theorem s_le(x y:List UInt8):(Op.bytesLess (ByteArray.mk ⟨x⟩).toList (ByteArray.mk ⟨y⟩).toList||(ByteArray.mk ⟨x⟩).toList==(ByteArray.mk ⟨y⟩).toList)=(sLt x y||x==y):=by rw[s_lt,zQG]
theorem s_gt(x y:List UInt8):(!(Op.bytesLess (ByteArray.mk ⟨x⟩).toList (ByteArray.mk ⟨y⟩).toList||(ByteArray.mk ⟨x⟩).toList==(ByteArray.mk ⟨y⟩).toList))=(!(sLt x y||x==y)):=by rw[s_le]
abbrev D.i(z:Int):D:= .lit (.int .i64 z)
abbrev T.i(z:Int):T:= .d (.lit (.int .i64 z))
abbrev A.i(z:Int):A:= .t (.d (.lit (.int .i64 z)))
abbrev D.b(z:Bool):D:= .lit (.bool z)
abbrev T.b(z:Bool):T:= .d (.lit (.bool z))
abbrev A.b(z:Bool):A:= .t (.d (.lit (.bool z)))
abbrev D.s(z:List UInt8):D:= .lit (.string ⟨⟨z⟩⟩)
abbrev T.s(z:List UInt8):T:= .d (.lit (.string ⟨⟨z⟩⟩))
abbrev A.s(z:List UInt8):A:= .t (.d (.lit (.string ⟨⟨z⟩⟩)))
abbrev D.y(z:List UInt8):D:= .seq 1 (qV z)
abbrev T.y(z:List UInt8):T:= .d (.seq 1 (qV z))
abbrev A.y(z:List UInt8):A:= .t (.d (.seq 1 (qV z)))
abbrev D.n:D:= .lit (.slice none 0 0)
abbrev T.n:T:= .d (.lit (.slice none 0 0))
abbrev A.n:A:= .t (.d (.lit (.slice none 0 0)))
theorem WkD.r{x:D}:WkD x x:= .refl _
theorem WkT.r{x:T}:WkT x x:= .refl _
theorem WkA.r{x:A}:WkA x x:= .refl _
theorem k1{K:SL->Prop}{Q:Exit->SL->Prop}(h:K L):zIx K Q .normal L:=h
theorem k2{K:SL->Prop}{Q:Exit->SL->Prop}{i:Nat}(h:Q (.exit i) L):zIx K Q (.exit i) L:=h
theorem k3{K:SL->Prop}{Q:Exit->SL->Prop}(h:Q .ret L):zIx K Q .ret L:=h
theorem k4{i:Nat}{Q:Exit->SL->Prop}(h:Q .normal L):zKb i Q .normal L:=h
theorem k5{i:Nat}{Q:Exit->SL->Prop}(h:Q .ret L):zKb i Q .ret L:=h
theorem k6{i:Nat}{Q:Exit->SL->Prop}(h:Q .normal L):zKb i Q (.exit i) L:=zUV h
theorem k7{i j:Nat}{Q:Exit->SL->Prop}(u:(j==i)=false)(h:Q (.exit j) L):zKb i Q (.exit j) L:=zUD u h
def frzD:T->D
 | .d x=>x
 | .own _ k l=> .seq k l
 |_=>default
section
variable {w0:World}{m0:Mem}{o0:OwnM}{G:GD}{pins:List Nat}{S M:Nat->A}{a:Act}{w:World}{m:Mem}{o:OwnM}{P:Program}{N:Nat}
theorem Inv.freeze(I:Inv w0 m0 o0 G pins S a w m o)(s:Nat)(W:s<OB)(hs:s∉pins){l:List T}(hpt:noPt l=true)(Z:S s= .box l)(α:∀t off,S t≠ .ref s off):∃m' o',Inv w0 m0 o0 G pins (upd S s (.imm (l.map frzD))) a w m' o':=by have hb:=I.slots s;rw[Z]at hb;obtain⟨g,e,h1,h2,cs,E,h3,h4,h5⟩:=hb;(have hk:∀b l,(λb=>if(o b).map (·.1)=some s then none else o b) b=some l->l.1≠s/\o b=some l:=by grind);(have J:∀b l,o b=some l->l.1≠s->(if(o b).map (·.1)=some s then none else o b)=some l:=λb l h hn=>by rw[h,if_neg (by simpa using hn)]);(have K:Keep (λl=>l.1=s) m w o (newM m g λp=>cs[p]?) w (λb=>if(o b).map (·.1)=some s then none else o b):=by refine⟨λb p u h=> ?_,λb l h hn=> ?_,λ_ _ _ _=>rfl,λb l h hn=>J b l h hn,λb j h=>J b _ h (zMu W),λb t k _ h=>⟨b,k,(hk b _ h).2⟩,λb j _=> .of_eq rfl⟩;(unfold newM;grind);((have:b≠g:=λe=>by grind);funext p;unfold newM;grind));refine⟨_,_,⟨I.same,λb p u h=> ?_,I.mono.trans K.mle,λb hb hg=> ?_,λb l h=>I.own b l (hk b l h).2,λb l h=>I.lt b l (hk b l h).2,λb b' l h h'=>I.inj b b' l (hk b l h).2 (hk b' l h').2,λp hp b hb=> ?_,λt=> ?_,I.defers,I.tbl,I.wide,I.shps⟩⟩;(unfold newM at h;split at h;(rename_i hb;subst hb;unfold World.cell?;grind);exact I.sat b p u h);((have:b≠g:=λe=>by subst e;rcases I.own b _ h1 with h|h;(all_goals grind));rw[<-I.old b hb hg];funext p;unfold newM;grind);(exact J b _ (I.pinned p hp b hb) λe=>hp.elim (λhp=>hs (by rw[<-e];exact hp)) λhp=>by have e:p=s:=e;omega);(by_cases ht:t=s;(subst ht;rw[zT];refine⟨g,0,e W,λj d hj=> ?_⟩;rw[wH]at hj;(cases hx:l[j]? with|none=>grind|some x=>rw[hx]at hj;cases hj;obtain⟨ha,u,hu,hr⟩:=h5 j x hx;refine⟨u,by rw[vJ,zB5];exact hu,?_⟩;refine RepD.mono K.mle ?_;(cases x with|d y=>exact hr|agg l=>cases ha|own E k l=>exact zHz I.sat hr|ptr=>exact absurd (zDW hpt hx) (by simp[T.isPt])|view=>exact absurd (zDW hpt hx) (by simp[T.isPt])|hpt=>exact absurd (zDW hpt hx) (by simp[T.isPt])|opt=>exact absurd (zDW hpt hx) (by simp[T.isPt])|hvw=>exact absurd (zDW hpt hx) (by simp[T.isPt])|mpt=>exact absurd (zDW hpt hx) (by simp[T.isPt])|ags l1 β=>cases ha|xs E k l rv=>exact absurd (zDW hpt hx) (by simp[T.isPt])|any=>exact absurd (zDW hpt hx) (by simp[T.isPt]))));(rw[zE ht];refine RepA.keep K (λj e=>ht e) (λb off e _=> ?_) (I.slots t);have U:b≠s:=λe'=>α t off (by rw[e,e']);exact⟨U,λ⟨l,hl⟩=>⟨l,by rw[zE U,hl]⟩⟩))
def zK5(s:Nat):SL->Bool
 |[]=>true
 |(_,x)::r=>(match x with| .ref b _=>b !=s|_=>true)&&zK5 s r
theorem zPI{s:Nat}(h:zK5 s L=true)(t off:Nat):gt L t≠ .ref s off:=by(induction L with|nil=>intro h;cases h|cons x r I=>obtain⟨u,y⟩:=x;simp only[zK5,wI]at h;rw[zR,upd];grind)
theorem st_fz{L L':SL}(s:Nat){l:List T}{z:A}(hb:gt L s= .box l)(hp:(pins.contains s|| !Nat.blt s OB)=false)(hr:(zK5 s L&&noPt l)=true)(hz:A.imm (l.map frzD)=z)(U:(s,z)::L=L')(Z:St w0 m0 o0 G pins N L a w):St w0 m0 o0 G pins N L' a w:=by subst hz U;obtain⟨W,u,m,o,I⟩:=Z;rw[Bool.or_eq_false_iff]at hp;rw[wI]at hr;obtain⟨m',o',J⟩:=I.freeze s (by simpa using hp.2) (by simpa using hp.1) hr.2 (zBq hb (by simp)) (λt off e=>zPI hr.1 t off (hx_ref e));exact⟨W,by rw[zR];exact u.upd (lt2 (by simpa using hp.2)),m',o',by rw[zR,zOX (.inl (by simpa using hp.2))];exact J⟩
def capsF(M:Nat->A):List Operand->Option (List (List D))
 |[]=>some []
 |x::r=>match cpO M x,capsF M r with| .imm l,some k=>some (l::k)|_,_=>none
theorem zQ2(J:Mk M S)(I:Inv w0 m0 o0 G pins S a w m o):∀{xs:List Operand} {u:List (List D)},capsF M xs=some u->xs.length=u.length/\∀i l,u[i]? =some l->RepA m w o S 0 (.imm l) ((xs.map a.eval).getD i undef)
 |[],u,h=>by injection h with h;subst h;exact⟨rfl,λi l h=>by simp at h⟩
 |x::r,u,h=>by unfold capsF at h;split at h;(case h_2=>cases h);rename_i l k h1 U;cases h;obtain⟨k1,k2⟩:=zQ2 J I U;refine⟨by simpa using k1,λi W Z=> ?_⟩;(cases i with|zero=>cases Z;have:=qA J I x 0;grind|succ i=>grind)
theorem clo_rep{f:FuncId}{I:List (List D)}{J:Array Value}(U:J.size=I.length)(h:∀(i:Nat) (l:List D),I[i]? =some l->∃g p,J[i]? =some (Value.pointer (some ⟨g,p,none⟩))/\∀(j:Nat) (d:D),l[j]? =some d->∃u,m g (p+j)=some u/\RepD m d u):RepD m (.clo f I) (.func (.func f) #[] J):=by(have H:∀i:Nat,∃x:Nat×Nat,∀l:List D,I[i]? =some l->J[i]? =some (Value.pointer (some ⟨x.1,x.2,none⟩))/\∀(j:Nat) (d:D),l[j]? =some d->∃u,m x.1 (x.2+j)=some u/\RepD m d u:=by intro i;(cases hc:I[i]? with|none=>exact⟨(0,0),λl h=>by cases h⟩|some l=>obtain⟨g,p,W,Z⟩:=h i l hc;exact⟨(g,p),λl' h=>by injection h with h;subst h;exact⟨W,Z⟩⟩));refine .clo f I J (λi=>(H i).choose.1) (λi=>(H i).choose.2) (λi j=>(m (H i).choose.1 ((H i).choose.2+j)).getD undef) U (λi r hr=>((H i).choose_spec r hr).1) (λi r j d hr hd=> ?_) (λi r j d hr hd=> ?_);(all_goals grind)
theorem ok_mfc(hM:Mk M S){d f:Nat}{xs:List Operand}(Z:op.op= .makeFunc (.func f) #[] xs.toArray)(hd:op.dst=some d)(U:okD N pins S d=true){u:List (List D)}(hc:capsF M xs=some u):OpOK P pins N op S (upd S d (.t (.d (.clo f u)))):=by refine zL λw0 m0 o0 G a w m o hN I=> ?_;obtain⟨k1,k2,k3⟩:=zS U;obtain⟨c1,c2⟩:=zQ2 hM I hc;(have J:RepD m (.clo f u) (.func (.func f) #[] (xs.map a.eval).toArray):=by refine clo_rep (by simpa using c1) λi l W=> ?_;(have α:i<xs.length:=by rw[c1];exact(wB.1 W).1);obtain⟨g,p,e,h⟩:=c2 i l W;grind);refine⟨.func (.func f) #[] (xs.map a.eval).toArray,w,m,o,?_,by rw[hd];exact I.set d _ _ (by omega) k2 J⟩;unfold execOp;rw[Z];simp[Instr.makeFunc]
theorem ok_callc(hM:Mk M S){d f:Nat}{xs:List Operand}{ts:Array TypeId}{fx:Operand}{caps:List (List D)}(hop:op.op= .call {callee:= .value fx,args:=xs.toArray,argTypes:=ts})(hfx:dO M fx=some (.clo f caps))(hd:op.dst=some d)(hok:okD N pins S d=true){fn:Func}(hfn:P.funcs[f]? =some fn)(hbody:fn.body.isNone=false)(hname:(fn.name== "runtime.NumGoroutine")=false){args:List A}{r:A}(hargs:zKc (xs.map (cpO M)) args)(hp:args.all A.plain=true)(hf:FC P f (args++caps.map A.imm) [] r)(hnr:r.noRef=true):OpOK P pins N op S (upd S d r):=by
 intro w0 m0 o0 G a w m o hN I K Q hK
 obtain⟨h1,h2,h3⟩:=zS hok
 have key:∀(xs:List Operand) (args:List A),zKc (xs.map (cpO M)) args->(xs.map a.eval).length=args.length/\∀i x,args[i]? =some x->∃s,RepA m w o S s x ((xs.map a.eval).getD i undef):=by intro xs;(induction xs with|nil=>intro args h;cases h;exact⟨rfl,λi x h=>by simp at h⟩|cons y ys ih=>intro args h;(cases h with|cons hx ht=>obtain⟨k1,k2⟩:=ih _ ht;refine⟨by simpa using k1,λi x hi=> ?_⟩;(cases i with|zero=>injection hi with hi;subst hi;exact⟨0,hx.rep I.sat (qA hM I y 0)⟩|succ i=>simpa using k2 i x (by simpa using hi))))
 obtain⟨k1,k2⟩:=key xs args hargs
 have hfv:=zG2 hM I hfx
 generalize hfe:a.eval fx=fv at hfv
 cases hfv with
  |clo _ _ ptrs g p fu q1 q2 q3 q4=>
   have hpl:(args++caps.map A.imm).all A.plain=true:=by rw[List.all_append,hp,Bool.true_and,wG];intro x hx;obtain⟨l,_,rfl⟩:=vQ.1 hx;rfl
   have hc:=zPe I hf hpl (vals:=(xs.map a.eval).toArray++ptrs) (by simp[q1];simpa using k1) (λi x hi=>by rw[sK]at hi;rw[wM,Array.getElem?_append];split at hi;(rename_i hlt;rw[if_pos (by simp at k1⊢;omega)];have:=k2 i x hi;simpa[wK]using this);(rename_i hlt;rw[if_neg (by simp at k1⊢;omega)];rw[wH]at hi;(cases hc:caps[i-args.length]? with|none=>rw[hc]at hi;cases hi|some l=>rw[hc]at hi;cases hi;(have e:i-(xs.map a.eval).toArray.size=i-args.length:=by simp at k1⊢;omega);rw[e,q2 _ l hc];(exact⟨0,g _,p _,rfl,λj d hj=>⟨_,q3 _ l j d hc hj,q4 _ l j d hc hj⟩⟩)))) (d:=d) (by omega) h2 h3 hnr
   unfold Oper.wp
   have hrun:(execOp a.eval op).run P w= .ok (.enter f ((xs.map a.eval).toArray++ptrs)) w:=by unfold execOp;rw[hop];simp only[resolve,hfe,Deferred.ofValue,vA];(have hb:fn.body≠none:=λe=>by rw[e]at hbody;cases hbody);(have hn:fn.name≠ "runtime.NumGoroutine" :=λe=>by rw[e]at hname;simp at hname);simp[invoke,callFunc,hfn,hn,hb]
   rw[hrun]
   refine Calls.mono hc ?_
   rintro e w' ⟨u,m',o',rfl,J⟩
   rw[<-hd]at J
   exact hK _ _ _ _ (by rw[zCW,hN]) J
end
section
variable {w0:World}{m0:Mem}{o0:OwnM}{G:GD}{pins:List Nat}{S M:Nat->A}{a:Act}{w:World}{m:Mem}{o:OwnM}{P:Program}{N:Nat}
def mkI(u:Nat)(n:Int):Option Nat:=if 0<=n/\(u:Int)*n<=281474976710656/\n<=140737488351232 then some n.toNat else none
theorem mkI_iff{u q:Nat}{n:Int}(h:mkI u n=some q):0<=n/\(u:Int)*n<=281474976710656/\n<=140737488351232/\q=n.toNat:=by unfold mkI at h;grind
theorem ok_mko(hM:Mk M S){d t e sz nb q:Nat}{xn xc:Operand}{kl kc:IntKind}{n:Int}{ie:TypeInfo}{z:Value}(δ:op.op= .makeSlice t xn xc)(hn:vO M xn=some (.int kl n))(hc:vO M xc=some (.int kc n))(hE:elF P t=some (e,1,nb))(α:P.info? e=some ie)(hz:ie.zero=some z)(ε:z.cells= #[z])(ζ:z.oneCell'=true)
(hq:mkI nb n=some q)(hd:op.dst=some d)(ι:okD N pins S d=true):
 OpOK P pins N op S (upd S d (.t (.own e 1 (List.replicate q [.lit z])))):=by
 obtain⟨q1,q2,q3,rfl⟩:=mkI_iff hq
 refine zL λw0 m0 o0 G a w m o hN I=> ?_
 obtain⟨h1,h2,h3⟩:=zS ι
 have E:=zMv hE
 obtain⟨i,z',U,β,θ,κ,μ⟩:=E.info
 rw[α]at U
 cases U
 rw[hz]at β
 cases β;subst κ
 have Z:=run_make (P:=P) (w:=w) t e ie z E.under α hz kl kc n n q1 (tW _) q2 (by omega)
 rw[θ,uQ,ε]at Z
 have η:madeCells #[z] n.toNat=(List.replicate n.toNat z).toArray:=by apply Array.ext_getElem?;intro i;unfold madeCells;rw[Array.getElem?_map,Array.getElem?_range];by_cases h:i<n.toNat;rw[if_pos h];simp[h,Nat.mod_one];rw[if_neg h];simp[h]
 rw[η]at Z
 have W:Own (w.alloc (.cells (List.replicate n.toNat z).toArray e)) 0 e 1 (some ⟨w.heap.size,0,none⟩) n.toNat n.toNat (List.replicate n.toNat z):=by have:=Own.lit (B:=0) w (List.replicate n.toNat z).toArray e 1 n.toNat (uF _) (by unfold maxLen;omega) (by simp);simpa using this
 have hw:∀(i:Nat) (r:List D),(List.replicate n.toNat [D.lit z])[i]? =some r->r.length=1:=by intro i r U;rw[vH]at U;split at U;cases U;rfl;cases U
 have hr:∀(m':Mem) (i:Nat) (r:List D) (j:Nat) (x:D),(List.replicate n.toNat [D.lit z])[i]? =some r->r[j]? =some x->∃u,(List.replicate n.toNat z)[i*1+j]? =some u/\RepD m' x u:=by intro m' i r j x U hj;rw[vH]at U;split at U;(rename_i γ;cases U;(cases j with|zero=>injection hj with hj;subst hj;exact⟨z,by rw[vH];simp[γ],.lit z ζ⟩|succ j=>simp at hj));cases U
 have J:=I.own_put d (.t (.own e 1 (List.replicate n.toNat [.lit z]))) (.slice (some ⟨w.heap.size,0,none⟩) n.toNat n.toNat) (λp=>(List.replicate n.toNat z)[p]?) w.heap.size (w.alloc (.cells (List.replicate n.toNat z).toArray e)) (by omega) h2 h3 (I.free (wJ _)) (I.newG (wJ _)) ((Same.alloc (λ_=>False) w _).weaken (λ_ h=>h.elim)) (by simp) (λp u h=>by rw[I.mem_none (wJ _)]at h;cases h) (λp u hp=>Own.cellAt W rfl hp)
  ⟨some ⟨w.heap.size,0,none⟩,n.toNat,List.replicate n.toNat z,by rw[wN],by rw[wN];exact zF3 W,(λg hg=>by injection hg with hg;subst hg;exact⟨zAO _ _ _,λp _=>zJ2 _ _ _ _⟩),hw,hr _⟩
 refine⟨_,_,_,_,?_,by rw[hd];exact J⟩
 unfold execOp
 rw[δ]
 simp only[wE]
 rw[zCK hM I hn,zCK hM I hc,Z]
 rfl
end
section
variable {S:Nat->A}{f f':Nat->A}{c:Nat}{x:A}
theorem yK(c:Nat):OB2+c=OB+(OB+c):=by unfold OB OB2;omega
theorem zE6(hl:Low S)(hk:S HK= .hp f)(c:Nat):hx S (OB+(OB+c))=san (f c):=by rw[<-yK];unfold hx;rw[hl (OB2+c) (vD _ _)];grind
theorem zNg:HK<OB2:=by decide
def updF(f:Nat->A)(c:Nat)(x:A):Nat->A:=λk=>if k=c then x else f k
theorem zTI(hl:Low S)(hk:S HK= .hp f)(hs:san x=x):hx (upd S HK (.hp (updF f c x)))=upd (upd (hx S) (OB+(OB+c)) x) HK (.hp (updF f c x)):=by funext t;by_cases e:t=HK;(subst e;rw[zT];exact zBq (zT _ _ _) (by simp));(rw[zE e];rcases wY t OB2 with h|h;rw[zDY h,zE e,zE (by unfold OB;unfold OB2 at h;omega),zDY h];(obtain⟨k,rfl⟩:∃k,t=OB2+k:=⟨t-OB2,by omega⟩;have u:Low (upd S HK (.hp (updF f c x))):=hl.upd zNg;rw[yK,zE6 u (zT _ _ _)];unfold updF;by_cases I:k=c;(subst I;rw[if_pos rfl,zT,hs]);rw[if_neg I,zE (by omega),zE6 hl hk]))
end
section
variable {w0:World}{m0:Mem}{o0:OwnM}{G:GD}{pins:List Nat}{S M:Nat->A}{a:Act}{w:World}{m:Mem}{o:OwnM}{P:Program}{N:Nat}{f:Nat->A}
theorem Inv.hk(I:Inv w0 m0 o0 G pins S a w m o)(hk:S HK= .hp f)(f':Nat->A):Inv w0 m0 o0 G pins (upd S HK (.hp f')) a w m o:=by refine⟨I.same,I.sat,I.mono,I.old,I.own,I.lt,I.inj,I.pinned,λs=> ?_,I.defers,I.tbl,I.wide,I.shps⟩;by_cases e:s=HK;(subst e;rw[zT];trivial);(rw[zE e];refine(I.slots s).turn λb l hb=>⟨l,?_⟩;rw[zE (λe=>by rw[e,hk]at hb;cases hb),hb])
theorem run_field{t:TypeId}{J:Array Field}{k:Nat}{u:Field}{i:TypeInfo}(U:P.underlying t=some (.struct J))(hf:J[k]? =some u)(hi:P.info? u.type=some i)(I:i.size≠0)(g p:Nat):(Instr.fieldAt t (.pointer (some ⟨g,p,none⟩)) k).run P w= .ok (.pointer (some ⟨g,p+u.offset,none⟩)) w:=by simp[Instr.fieldAt,run_underlying U,hf,Instr.sureAddr,fieldPlace,sizeOf,typeInfo,hi,I,Addr.add_mid]
def fdH(P:Program)(t:TypeId)(k:Nat):Option Nat:=match P.underlying t with
 |some (.struct I)=>match I[k]? with
  |some u=>match P.info? u.type with
   |some i=>if i.size=0 then none else some u.offset
   |none=>none
  |none=>none
 |_=>none
theorem ok_hfd(hM:Mk M S){d c off t k q:Nat}{x:Operand}(U:op.op= .fieldAddr t x k)(hx:cpO M x= .t (.hpt c off))(hq:fdH P t k=some q)(hd:op.dst=some d)(J:okD N pins S d=true):OpOK P pins N op S (upd S d (.t (.hpt c (off+q)))):=by refine zL λw0 m0 o0 G a w m o hN I=> ?_;obtain⟨h1,h2,h3⟩:=zS J;have u:=qA hM I x 0;rw[hx]at u;obtain⟨g,k1,k2⟩:=u;unfold fdH at hq;split at hq;(case h_2=>cases hq);rename_i fs hu;split at hq;(case h_2=>cases hq);rename_i W hf;split at hq;(case h_2=>cases hq);rename_i i hi;split at hq;cases hq;rename_i Z;cases hq;refine⟨.pointer (some ⟨g,off+W.offset,none⟩),w,m,o,?_,by rw[hd];exact I.set d _ _ (by omega) h2 ⟨g,k1,rfl⟩⟩;unfold execOp;rw[U];simp only[wE];rw[k2,run_field hu hf hi Z];rfl
def ixH(P:Program)(t:TypeId):Option (Option Nat×Nat):=match P.underlying t with
 |some (.slice e)=>(P.info? e).map λi=>(none,i.size)
 |some (.array len e)=>(P.info? e).map λi=>(some len,i.size)
 |_=>none
theorem ok_hix(W:Mk M S){d c off E k n t:Nat}{x i:Operand}{ki:IntKind}{z:Int}(Z:op.op= .indexAddr t x i)(hx:cpO M x= .t (.hvw c off E k n))(hi:vO M i=some (.int ki z))(hq:ixH P t=some (none,k))(hz:0<=z/\z<n)(hd:op.dst=some d)(U:okD N pins S d=true):OpOK P pins N op S (upd S d (.t (.hpt c (off+z.toNat*k)))):=by refine zL λw0 m0 o0 G a w m o hN I=> ?_;obtain⟨h1,h2,h3⟩:=zS U;have J:=qA W I x 0;rw[hx]at J;obtain⟨A',q,k1,_,k3,k4⟩:=J;unfold ixH at hq;split at hq;(rename_i e hu;(cases u:P.info? e with|none=>grind|some ie=>rw[u]at hq;cases hq;rcases k4 with k4|⟨g,cs,_,k5,k6,_⟩;omega;(subst k6;refine⟨.pointer (some ⟨g,off+z.toNat*ie.size,none⟩),w,m,o,?_,by rw[hd];exact I.set d _ _ (by omega) h2 ⟨g,k5,rfl⟩⟩;unfold execOp;rw[Z];simp only[wE];rw[zCK W I hi,k3];simp[Instr.indexAt,asIntOf,run_underlying hu,hz,sizeOf,typeInfo,u,Addr.add_mid])));(rename_i len e hu;cases u:P.info? e<;>rw[u]at hq<;>cases hq);grind
theorem ok_hia(W:Mk M S){d c off k len t:Nat}{x i:Operand}{ki:IntKind}{z:Int}(Z:op.op= .indexAddr t x i)(hx:cpO M x= .t (.hpt c off))(hi:vO M i=some (.int ki z))(hq:ixH P t=some (some len,k))(hz:0<=z/\z<len)(hd:op.dst=some d)(U:okD N pins S d=true):OpOK P pins N op S (upd S d (.t (.hpt c (off+z.toNat*k)))):=by refine zL λw0 m0 o0 G a w m o hN I=> ?_;obtain⟨h1,h2,h3⟩:=zS U;have J:=qA W I x 0;rw[hx]at J;obtain⟨g,k1,k2⟩:=J;unfold ixH at hq;split at hq;(rename_i e hu;cases u:P.info? e<;>rw[u]at hq<;>cases hq);(rename_i α e hu;(cases u:P.info? e with|none=>grind|some ie=>rw[u]at hq;cases hq;refine⟨.pointer (some ⟨g,off+z.toNat*ie.size,none⟩),w,m,o,?_,by rw[hd];exact I.set d _ _ (by omega) h2 ⟨g,k1,rfl⟩⟩;unfold execOp;rw[Z];simp only[wE];rw[zCK W I hi,k2];simp[Instr.indexAt,asIntOf,Instr.sureAddr,run_underlying hu,hz,sizeOf,typeInfo,u,Addr.add_mid]));grind
theorem ok_hln(W:Mk M S){d c off E k n t e:Nat}{x:Operand}(U:op.op= .call {callee:= .builtin .len,args:= #[x],argTypes:= #[t]})(hx:cpO M x= .t (.hvw c off E k n))(hu:P.underlying t=some (.slice e))(hd:op.dst=some d)(J:okD N pins S d=true):
 OpOK P pins N op S (upd S d (.t (.d (.lit (.int .i64 n))))):=by
 refine zL λw0 m0 o0 G a w m o hN I=> ?_
 obtain⟨h1,Z,h3⟩:=zS J
 have u:=qA W I x 0
 rw[hx]at u
 obtain⟨A',q,_,_,k3,_⟩:=u
 refine⟨.int .i64 n,w,m,o,?_,by rw[hd];exact I.set d _ _ (by omega) Z (.lit _ rfl)⟩
 unfold execOp
 rw[U]
 simp only[resolve,invoke,builtin,wE,wU,wD,vA,vB,uB]
 rw[k3]
 simp[Builtin.len_,run_underlying hu,goInt]
def ptrN:A->Option Bool
 | .t (.hpt _ _)=>some false
 | .t (.opt _ p)=>some p.isNone
 | .t (.ptr _ _)=>some false
 | .ref _ _=>some false
 | .imm _=>some false
 | .t (.d (.lit (.pointer none)))=>some true
 |_=>none
theorem ptrN_rep{s:Nat}{x:A}{b:Bool}(h:ptrN x=some b)(hr:RepA m w o S s x v):∃p,v= .pointer p/\p.isNone=b:=by unfold ptrN at h;split at h;obtain⟨g,_,e⟩:=hr;grind;rcases hr with⟨I,u⟩|⟨i,I,g,_,u⟩<;>(injection h with h;subst h;exact⟨_,u,by rw[I];rfl⟩);obtain⟨g,_,e⟩:=hr;grind;obtain⟨g,_,e,_⟩:=hr;grind;obtain⟨g,p,e,_⟩:=hr;grind;(cases h;have hr:RepD m (.lit (.pointer none)) v:=hr;cases hr;grind);cases h
theorem ok_hpn(hM:Mk M S){u:BinOp}{d t yt e:Nat}{x:Operand}{b ng:Bool}(U:op.op= .binOp u t x (.const (.pointer none)) yt)(hb:u=bif ng then .neq else .eql)(ht:P.underlying t=some (.pointer e))(hx:ptrN (cpO M x)=some b)(hd:op.dst=some d)(J:okD N pins S d=true):OpOK P pins N op S (upd S d (.t (.d (.lit (.bool (b !=ng)))))):=by refine zL λw0 m0 o0 G a w m o hN I=> ?_;obtain⟨h1,W,h3⟩:=zS J;obtain⟨p,hv,rfl⟩:=ptrN_rep hx (qA hM I x 0);refine⟨.bool (p.isNone !=ng),w,m,o,?_,by rw[hd];exact I.set d _ _ (by omega) W (.lit _ rfl)⟩;subst hb;unfold execOp;rw[U];show Sem.run P (do pure (Next.value (<-(do eqGuard _ t x _ (a.eval x) (.pointer none);binOp _ t (a.eval x) (.pointer none))))) w=_;rw[hv,wE];(have Z:∀u:BinOp,(eqGuard u t x (.const (.pointer none)) (.pointer p) (.pointer none)).run P w= .ok () w:=by intro u;unfold eqGuard;cases u<;>rfl);(have hpt:P.underlying t=some (.pointer (P.pointee t)):=by unfold Program.pointee;rw[ht]);(cases ng with|false=>show Result.andThen (Sem.run P (do eqGuard .eql t x _ (.pointer p) (.pointer none);binOp .eql t (.pointer p) (.pointer none)) w) _=_;rw[wE,Z,wD,run_eql_pointer_nil w t p hpt];cases p<;>rfl|true=>show Result.andThen (Sem.run P (do eqGuard .neq t x _ (.pointer p) (.pointer none);binOp .neq t (.pointer p) (.pointer none)) w) _=_;rw[wE,Z,wD,run_neq_pointer_nil w t p hpt];cases p<;>rfl)
def norH:T->Option A
 | .ptr _ _=>none
 | .view j off E k n=>some (.t (.view j off E k n))
 | .agg _=>none
 | .own _ k l=>some (.t (.d (.seq k l)))
 | .xs _ _ _ _=>some (.t .any)
 | .ags l _=>some (.t (.agg l))
 |x=>some (.t x)
theorem zTf{loc:Nat×Nat}{s:Nat}{x:T}{y:A}(I:∀b p u,m b p=some u->w.cell? ⟨b,p,none⟩=some u)(hy:norH x=some y)(h:RepT m w o loc x v):RepA m w o S s y v:=by(cases x with|ptr j off=>cases hy|agg l=>cases hy|own E k l=>injection hy with hy;subst hy;exact zHz I h|d x=>injection hy with hy;subst hy;exact h|view j off E k n=>injection hy with hy;subst hy;exact h|hpt c off=>injection hy with hy;subst hy;exact h|opt t p=>injection hy with hy;subst hy;exact h|mpt c=>injection hy with hy;subst hy;exact h|ags W Z=>injection hy with hy;subst hy;exact zH3.agg h|xs E k l rv=>injection hy with hy;subst hy;obtain⟨A1,c1,U,J,_⟩:=h;subst J;rfl|any=>injection hy with hy;subst hy;exact h|hvw c off E k n=>injection hy with hy;subst hy;exact h)
theorem ok_hld(hM:Mk M S){d c off t n:Nat}{x:Operand}{l:List T}{z:T}{y:A}(Z:op.op= .load t x)(ht:tyA P t=some (false,n))(hx:cpO M x= .t (.hpt c off))(hb:S (OB+(OB+c))= .box l)(hz:l[off]? =some z)(hy:norH z=some y)(hd:op.dst=some d)(U:okD N pins S d=true):OpOK P pins N op S (upd S d y):=by refine zL λw0 m0 o0 G a w m o hN I=> ?_;obtain⟨h1,W,h3⟩:=zS U;have J:=qA hM I x 0;rw[hx]at J;obtain⟨g,k1,e⟩:=J;have hs:=I.slots (OB+(OB+c));rw[hb]at hs;obtain⟨g',_,q1,q2,cs,E,q3,q4,q5⟩:=hs;have:=I.inj _ _ _ k1 q1;subst this;obtain⟨α,u,hu,hr⟩:=q5 off z hz;refine⟨u,w,m,o,?_,by rw[hd];exact I.set d _ _ (by omega) W (zTf I.sat hy hr)⟩;unfold execOp;rw[Z];simp only[wE];rw[e];simp only[Instr.loadAt,Instr.sureAddr,wE,wU,wD];rw[zCo ht (by rw[cell_of_row w g off cs E _ q3];exact hu)];rfl
theorem ok_hlr(hM:Mk M S){d c off t n:Nat}{x:Operand}{l r:List T}{y:List D}(β:op.op= .load t x)(ht:tyA P t=some (true,n))(hx:cpO M x= .t (.hpt c off))(hb:S (OB+(OB+c))= .box l)(hl:(l.drop off).take n=r)(hr:r.length=n)(hpt:noPt r=true)(hy:r.map toD=y)(hd:op.dst=some d)(δ:okD N pins S d=true):OpOK P pins N op S (upd S d (.t (.agg y))):=by subst hy;refine zL λw0 m0 o0 G a w m o hN I=> ?_;obtain⟨h1,h2,h3⟩:=zS δ;have J:=qA hM I x 0;rw[hx]at J;obtain⟨g,k1,e⟩:=J;have hs:=I.slots (OB+(OB+c));rw[hb]at hs;obtain⟨g',_,q1,q2,U,E,q3,q4,q5⟩:=hs;have:=I.inj _ _ _ k1 q1;subst this;(have ζ:n=0\/off+n<=l.length:=by grind);(have ε:n=0\/off+n<=U.size:=by omega);(have α:RepL m (r.map toD) ((U.toList.drop off).take n):=by refine⟨by rw[wL,hr,vZ,uY,vM];omega,λj z hj=> ?_⟩;rw[wH,<-hl,vR,vY]at hj;rw[vR,vY];split at hj;(rename_i Z;rw[if_pos Z];(cases hz:l[off+j]? with|none=>grind|some z=>rw[hz]at hj;cases hj;obtain⟨ha,u,h7,h8⟩:=q5 (off+j) z hz;(have γ:z.isPt=false:=by have:=wG.1 hpt z (wC (i:=j) (by rw[<-hl,vR,if_pos Z,vY];exact hz));grind);exact⟨u,by simpa using h7,h8.toD I.sat ha γ⟩));grind);(have W:=zFe (P:=P) (w:=w) ht (g:=g) (p:=off) (vs:=(U.toList.drop off).take n) (by rw[vZ,uY,vM];omega) λj v hj=>by rw[cell_of_row w g (off+j) U E _ q3];grind);refine⟨.agg ((U.toList.drop off).take n).toArray,w,m,o,?_,by rw[hd];exact I.set d _ _ (by omega) h2 ⟨_,rfl,by simpa using α⟩⟩;unfold execOp;rw[β];simp only[wE];rw[e];simp only[Instr.loadAt,Instr.sureAddr,wE,wU,wD];rw[W];rfl
theorem zPl{g:Nat}{loc loc':Nat×Nat}{cs cs':Array Value}{E:Nat}(h1:o g=some loc')(h4:w.heap[g]? =some (.cells cs E (0,0)))(J:cs'.size=cs.size)(α:loc'≠loc){z:T}{u:Value}(k0:z.isAgg=false)(k2:RepT m w o loc z u):RepT m (w.setRow g cs') o loc z u:=by(cases z with|d x=>exact k2|agg l=>cases k0|ptr j off=>exact k2|hpt c off=>exact k2|opt t p=>exact k2|mpt c=>exact k2|ags l1 β=>cases k0|xs E' k ls rv=>obtain⟨A',cap,xs,U,W,q2,q3,q4⟩:=k2;refine⟨A',cap,xs,U,zDw W λZ I=> ?_,q2,q3,q4⟩;rw[U,yJ]at I;refine setRow_other w g Z _ λe2=> ?_;grind|any=>exact k2|view j off E k n=>exact zEt (m':=m) (λ_ _ h=>h) (λg' _ _=>zCP h4 J g') k2|hvw c off E k n=>exact zH1 (m':=m) (λ_ _ h=>h) (λg' _ _=>zCP h4 J g') k2|own E' k ls=>obtain⟨A',cap,xs,U,W,q2,q3,q4⟩:=k2;refine⟨A',cap,xs,U,zDw W λZ I=> ?_,q2,q3,q4⟩;rw[U,yJ]at I;refine setRow_other w g Z _ λe2=> ?_;grind)
theorem ok_hst(hM:Mk M S){t c off:Nat}{x y:Operand}(η:op.op= .store t x y)(hd:op.dst=none){i:TypeInfo}(hi:P.info? t=some i)(hx:cpO M x= .t (.hpt c off)){l:List T}(hb:S (OB+(OB+c))= .box l){q:List T}(hc:zDS (cpO M y)=some q)(ι:q.length=i.size)(κ:off+i.size<=l.length):
 OpOK P pins N op S (upd S (OB+(OB+c)) (.box (qZ l off q))):=by
 refine zJ3 hd λw0 m0 o0 G a w m o hN I=> ?_
 have α:=qA hM I x 0
 rw[hx]at α
 obtain⟨g,h1,e⟩:=α
 have hs:=I.slots (OB+(OB+c))
 rw[hb]at hs
 obtain⟨g',_,q1,q2,J,E,h4,h5,h6⟩:=hs
 have:=I.inj _ _ _ h1 q1
 subst this
 have U:=zFI hc (qA hM I y 0)
 have ζ:(a.eval y).cells.size=i.size:=by have:=U.1;simp at this;omega
 have γ:=U.2.1
 have β:=zHv (P:=P) (w:=w) (off:=off) hi h4 ζ γ (by omega)
 have ε:(a.eval y).cells.toList.length=q.length:=U.1
 have θ:(qZ J.toList off (a.eval y).cells.toList).length=J.toList.length:=zBl J.toList off (a.eval y).cells.toList (by simp only[vM];omega)
 have W:(qZ J.toList off (a.eval y).cells.toList).toArray.size=J.size:=by simpa using θ
 refine⟨_,m,o,?_,I.box_put hb h1 h4 (cs':=(qZ J.toList off (a.eval y).cells.toList).toArray) W o (λ_=>False) (λs h=>h.elim) (λg l h _ _=>h) h1 (λg l h=>⟨l,h⟩) I.inj (λg l l' h h' k=>by rw[h]at h';injection h' with h';rw[h'];exact k) ?_ (λj z hj=> ?_)⟩
 · unfold execOp;rw[η];simp only[wE];rw[e,β];rfl
 · exact zBl l off q (by omega)
 · (have δ:(qZ J.toList off (a.eval y).cells.toList).toArray[j]? =(qZ J.toList off (a.eval y).cells.toList)[j]? :=by simp);rw[δ,zDz J.toList off (a.eval y).cells.toList (by simp only[vM]at ε⊢;omega)];rw[zDz l off q (by omega)]at hj;rw[ε];split at hj;(rename_i Z;rw[if_pos Z];obtain⟨k0,u,k1,k2⟩:=U.2.2 _ z hj;exact⟨k0,u,k1,k2 _ _ (zCP h4 W)⟩);(rename_i Z;rw[if_neg Z];obtain⟨k0,u,k1,k2⟩:=h6 j z hj;exact⟨k0,u,by simpa using k1,zPl h1 h4 W (by intro e;injection e with _ e;omega) k0 k2⟩)
def T.noOwn:T->Bool
 | .own _ _ _| .agg _| .ags _ _| .xs _ _ _ _=>false
 |_=>true
theorem noOwn_rep{x:T}(hx:x.noOwn=true){o':OwnM}(J:∀g j,o g=some (OB+j,0)->o' g=some (OB+j,0)){loc loc':Nat×Nat}{w':World}(hs:∀g,zBc w w' g)(h:RepT m w o loc x v):RepT m w' o' loc' x v:=by(cases x with|d x=>exact h|agg l=>cases hx|own E k l=>cases hx|ptr j off=>obtain⟨g,I,u⟩:=h;exact⟨g,J g j I,u⟩|hpt j off=>obtain⟨g,I,u⟩:=h;exact⟨g,J g _ I,u⟩|opt t p=>exact h.imp id λ⟨i,e,g,I,u⟩=>⟨i,e,g,J g _ I,u⟩|mpt j=>obtain⟨g,I,u⟩:=h;exact⟨g,J g _ I,u⟩|ags l1 α=>cases hx|xs E k l rv=>(first|(exact h)|exact h|exact hr|exact k2|exact k3|exact h4|exact h5|exact id|trivial|(cases hp;done)|(cases hx;done)|(cases hl;done)|(obtain⟨A1,W,Z,U,_⟩:=h;subst U;rfl)|(obtain⟨A1,W,Z,U,_⟩:=hr;subst U;rfl)|rfl)|any=>exact h|view j off E k n=>exact zEt (m':=m) J (λg _ _=>hs g) h|hvw j off E k n=>exact zH1 (m':=m) J (λg _ _=>hs g) h)
theorem Inv.obj_new(I:Inv w0 m0 o0 G pins S a w m o){j:Nat}{l:List T}{cs:Array Value}{E:Nat}(U:S (OB+j)= .free)(α:l.length<=cs.size)
(hc:∀(i:Nat) (x:T),l[i]? =some x->x.noOwn=true/\∃u,cs[i]? =some u/\RepT m w o (0,0) x u):
 Inv w0 m0 o0 G pins (upd S (OB+j) (.box l)) a (w.alloc (.cells cs E)) m (newO o (OB+j) w.heap.size):=by
 have hf:∀g k,o g≠some (OB+j,k):=by have:=I.slots (OB+j);rw[U]at this;exact this
 have hS:Same (λ_=>False) w (w.alloc (.cells cs E)):=Same.alloc _ _ _
 have δ:∀b l,o b=some l->b≠w.heap.size:=λb l h e=>by have:=I.lt b l h;omega
 have hk:∀b l,o b=some l->newO o (OB+j) w.heap.size b=some l:=by intro b l h;unfold newO;rw[if_neg (δ b l h),h,if_neg];intro e;obtain⟨s,k⟩:=l;cases e;exact hf b k h
 have J:∀b l,newO o (OB+j) w.heap.size b=some l->(b=w.heap.size/\l=(OB+j,0))\/(b≠w.heap.size/\o b=some l):=by intro b l h;unfold newO at h;split at h;rename_i e;injection h with h;exact .inl ⟨e,h.symm⟩;(split at h;cases h;rename_i e _;exact .inr ⟨e,h⟩)
 have β:∀g,zBc w (w.alloc (.cells cs E)) g:=λg=> .of_lt λh=>hS.block g h id
 have K:Keep (λl=>l.1=OB+j) m w o m (w.alloc (.cells cs E)) (newO o (OB+j) w.heap.size):=
  ⟨Mle.refl _,λ_ _ _ _=>rfl,λb l h _=>hS.block b (I.lt b l h) id,λb l h _=>hk b l h,λb j' h=>hk b _ h,λb s k hs h=>by rcases J b _ h with⟨_,e⟩|⟨_,e⟩;injection e with e _;exact absurd e hs;exact⟨b,k,e⟩,λg _ _=>β g⟩
 refine⟨I.same.trans (hS.weaken λ_ h=>h.elim),λb p u h=> ?_,I.mono,I.old,λg l h=> ?_,λg l h=> ?_,λg g' l h h'=> ?_,λs hs g hg=>hk g _ (I.pinned s hs g hg),λs=> ?_,I.defers,I.tbl,I.wide,I.shps.keep I.pinned K.sh⟩
 · have W:=I.sat b p u h;(have γ:b<w.heap.size:=by have:=wT w _ W;simpa using this);rw[vS (w:=w) (hS.block b γ id)];exact W
 · rcases J g l h with⟨e,_⟩|⟨_,e⟩;subst e;exact I.newG (wJ _);exact I.own g l e
 · rcases J g l h with⟨e,_⟩|⟨_,e⟩;subst e;simp;exact wO (I.lt g l e) hS.size
 · rcases J g l h with⟨e,q⟩|⟨_,e⟩<;>rcases J g' l h' with⟨Z,q'⟩|⟨_,Z⟩;rw[e,Z];subst q;exact absurd Z (hf _ _);subst q';exact absurd e (hf _ _);exact I.inj _ _ _ e Z
 · by_cases e:s=OB+j;(subst e;rw[zT];refine⟨w.heap.size,λh=>absurd h (by omega),zAO _ _ _,λp=>I.mem_none (wJ _),cs,E,heap_alloc_new w _,α,λi x hi=> ?_⟩;obtain⟨W,u,h2,h3⟩:=hc i x hi;refine⟨?_,u,h2,noOwn_rep W (λg j' h=>hk g _ h) β h3⟩;cases x<;>first|rfl|cases W);(rw[zE e];exact RepA.keep K (λ_=>e) (λb off _ hb=>⟨λZ=>by have:b=OB+j:=Z;omega,λ⟨l',ε⟩=>⟨l',by rw[zE (by omega),ε]⟩⟩) (I.slots s))
theorem zGo{y:A}{l:List T}(hl:zDS y=some l):∀x∈l,x.noOwn=true:=by intro x hx;(cases y with|t y=>(cases y with|d y=>injection hl with hl;subst hl;simp at hx;subst hx;rfl|agg y=>injection hl with hl;subst hl;obtain⟨_,_,rfl⟩:=vQ.1 hx;rfl|view j off E k n=>injection hl with hl;subst hl;simp at hx;subst hx;rfl|hpt c off=>injection hl with hl;subst hl;simp at hx;subst hx;rfl|opt t p=>injection hl with hl;subst hl;simp at hx;subst hx;rfl|mpt c=>injection hl with hl;subst hl;simp at hx;subst hx;rfl|ags l1 α=>cases hl|xs E k l rv=>(first|(cases hl)|exact h|exact hr|exact k2|exact k3|exact h4|exact h5|exact id|trivial|(cases hp;done)|(cases hx;done)|(cases hl;done)|(obtain⟨A1,Z,I,u,_⟩:=h;subst u;rfl)|(obtain⟨A1,Z,I,u,_⟩:=hr;subst u;rfl)|rfl)|any=>cases hl|hvw c off E k n=>injection hl with hl;subst hl;simp at hx;subst hx;rfl|own E k l=>cases hl|ptr j off=>cases hl)|ref b off=>have hl:(if OB<=b then some [T.ptr (b-OB) off]else none)=some l:=hl;split at hl;cases hl;simp at hx;subst hx;rfl;grind|ag J=>have hl:(if J.all T.cell then some J else none)=some l:=hl;split at hl;(rename_i W;cases hl;have U:=wG.1 W x hx;cases x<;>first|rfl|cases U);grind|_=>cases hl)
theorem ok_hmk{d c:Nat}{l:List T}(hd:op.dst=some d)(β:okD N pins S d=true)(γ:d<OB)(U:S (OB+(OB+c))= .free)
(h:∀(w0:World) (m0:Mem) (o0:OwnM) (G:GD) (a:Act) (w:World) (m:Mem) (o:OwnM),Inv w0 m0 o0 G pins S a w m o->∃v W E,(execOp a.eval op).run P w= .ok (.value v) (w.alloc (.cells W E))/\l.length<=W.size/\
  (∀(i:Nat) (x:T),l[i]? =some x->x.noOwn=true/\∃u,W[i]? =some u/\RepT m w o (0,0) x u)/\v= .pointer (some ⟨w.heap.size,0,none⟩)):
 OpOK P pins N op S (app S [(OB+(OB+c),.box l),(d,.t (.hpt c 0))]):=by
 refine zL λw0 m0 o0 G a w m o hN I=> ?_
 obtain⟨h1,h2,h3⟩:=zS β
 obtain⟨v,W,E,Z,α,hc,rfl⟩:=h w0 m0 o0 G a w m o I
 refine⟨_,w.alloc (.cells W E),m,newO o (OB+(OB+c)) w.heap.size,Z,?_⟩
 rw[hd]
 have J:=I.obj_new (E:=E) U α hc
 exact J.set d _ _ (by omega) (by rw[zE (by omega)];exact h2) ⟨_,zAO _ _ _,rfl⟩
theorem ok_hbox(hM:Mk M S){d c E:Nat}{x:Operand}{l:List T}(W:op.op= .box E x)(hl:zDS (cpO M x)=some l)(hd:op.dst=some d)(U:okD N pins S d=true)(Z:d<OB)(J:S (OB+(OB+c))= .free):
 OpOK P pins N op S (app S [(OB+(OB+c),.box l),(d,.t (.hpt c 0))]):=by
 refine ok_hmk hd U Z J λw0 m0 o0 G a w m o I=> ?_
 obtain⟨k1,k2,k3⟩:=zFI hl (qA hM I x 0)
 refine⟨_,(a.eval x).cells,E,?_,by simpa using Nat.le_of_eq k1.symm,λi x hx=> ?_,rfl⟩
 · unfold execOp;rw[W];simp[Instr.box,newVar,newRow]
 · obtain⟨q1,u,q2,q3⟩:=k3 i x hx;exact⟨zGo hl x (wC hx),u,by simpa using q2,q3 _ _ (zBc.refl w)⟩
end
def fillT(M:Nat->A)(u:Nat->Option (Nat×Nat)):List T->List (Nat×Operand)->Option (List T)
 |ts,[]=>some ts
 |ts,(i,x)::r=>match u i,zDS (cpO M x)with|some (off,size),some c=>if c.length=size/\off+size<=ts.length then fillT M u (qZ ts off c) r else none|_,_=>none
def bdT(P:Program)(M:Nat->A)(t:TypeId)(I:List (Nat×Operand)):Option (List T):=match P.info? t with
 |some it=>match it.zero,zP3 P t with
  |some z,some u=>match z with
   | .agg J=>if J.toList.all (·.oneCell')then fillT M u (J.toList.map λv=> .d (.lit v)) I else none
   |_=>none
  |_,_=>none
 |none=>none
section
variable {w0:World}{m0:Mem}{o0:OwnM}{G:GD}{pins:List Nat}{S M:Nat->A}{a:Act}{w:World}{m:Mem}{o:OwnM}{P:Program}{N:Nat}{f:Nat->A}
def RepTs(m:Mem)(w:World)(o:OwnM)(ts:List T)(vs:List Value):Prop:=vs.length=ts.length/\∀(j:Nat) (x:T),ts[j]? =some x->∃u,vs[j]? =some u/\u.oneCell'=true/\∀I,RepT m w o I x u
theorem zSg{s:Nat}{y:A}{l:List T}(hl:zDS y=some l)(hy:RepA m w o S s y v):RepTs m w o l v.cells.toList:=by obtain⟨k1,k2,k3⟩:=zFI hl hy;refine⟨k1,λj x U=> ?_⟩;obtain⟨_,u,J,Z⟩:=k3 j x U;exact⟨u,J,k2 u (wC J),λI=>Z w I (zBc.refl w)⟩
theorem zQ7(hM:Mk M S)(I:Inv w0 m0 o0 G pins S a w m o){U:Nat->Option (Nat×Nat)}:∀(J:List (Nat×Operand)) (ds Z:List T) (cells:Array Value),fillT M U ds J=some Z->RepTs m w o ds cells.toList->
 ∃u,Instr.fill U cells (J.map λx=>(x.1,a.eval x.2))=some u/\RepTs m w o Z u.toList
 |[],ds,Z,cells,h,hr=>by injection h with h;subst h;exact⟨cells,rfl,hr⟩
 |(i,x)::r,ds,Z,cells,h,hr=>by unfold fillT at h;split at h;(rename_i off size c hp hc;split at h;(rename_i δ;have hx:=zSg hc (qA hM I x 0);(have W:(a.eval x).cells.size=size:=by have:=hx.1;simp at this;omega);(have γ:ds.length=cells.size:=by have:=hr.1;simpa using this.symm);obtain⟨g1,g2⟩:=Great.foldl_set off (a.eval x).cells.toList 0 cells;(have β:RepTs m w o (qZ ds off c) (((a.eval x).cells.toList.zipIdx 0).foldl (λcs (x:Value×Nat)=>cs.setIfInBounds (off+x.2) x.1) cells).toList:=by refine⟨by simp only[vM];rw[g1,zBl _ _ _ (by omega),γ],λj d hj=> ?_⟩;rw[zDz _ _ _ (by omega)]at hj;rw[tU,g2 j];simp only[uP,vM,W];split at hj;(rename_i α;rw[if_pos (by omega)];exact hx.2 _ d hj);(rename_i α;rw[if_neg (by omega)];have:=hr.2 j d hj;grind));obtain⟨u,h1,h2⟩:=zQ7 hM I r _ Z _ h β;refine⟨u,?_,h2⟩;rw[vB];unfold Instr.fill;simp only[hp,W];rw[if_neg (by simp;omega),<-h1];congr 1;rw[<-Array.foldl_toList,Array.toList_zipIdx]);cases h);cases h
theorem bdT_run(hM:Mk M S)(I:Inv w0 m0 o0 G pins S a w m o){t:TypeId}{U:List (Nat×Operand)}{W:List T}(h:bdT P M t U=some W)(s:Nat):∃v,(Instr.build t (U.map λx=>(x.1,a.eval x.2)).toArray).run P w= .ok v w/\RepA m w o S s (.ag W) v:=by unfold bdT at h;split at h;(case h_2=>cases h);rename_i it β;split at h;(case h_2=>cases h);rename_i z ε hz hp;split at h;(case h_2=>cases h);rename_i cs;split at h;(case isFalse=>cases h);rename_i α;(have δ:RepTs m w o (cs.toList.map λv=> .d (.lit v)) cs.toList:=by refine⟨by simp,λj d hj=> ?_⟩;rw[wH]at hj;(cases hu:cs.toList[j]? with|none=>grind|some u=>rw[hu]at hj;cases hj;have h1:=wG.1 α u (wC hu);exact⟨u,rfl,h1,λ_=> .lit u h1⟩));obtain⟨J,h1,h2⟩:=zQ7 hM I U _ W cs h δ;refine⟨.agg J,run_build w t _ J ?_,J,rfl,by simpa using h2.1,λj x hj=> ?_⟩;(unfold Program.built;unfold zP3 at hp;split at hp;(rename_i Z hu;rw[β,hu];simp only[hz];(cases hq:Z.toList.mapM (λf=>(P.info? f.type).map λi=>(f.offset,i.size))with|none=>grind|some γ=>rw[hq]at hp;cases hp;simp only[Value.cells];rw[<-h1];congr 1;grind));(rename_i n e hu;rw[β,hu];simp only[hz];(cases hq:P.info? e with|none=>grind|some ie=>rw[hq]at hp;cases hp;exact h1));grind);(obtain⟨u,k1,k2,k3⟩:=h2.2 j x hj;grind)
theorem ok_buildT(W:Mk M S){d t:Nat}{u:List (Nat×Operand)}(U:op.op= .build t u.toArray)(hd:op.dst=some d)(J:okD N pins S d=true){l:List T}(h:bdT P M t u=some l):OpOK P pins N op S (upd S d (.ag l)):=by refine zL λw0 m0 o0 G a w m o hN I=> ?_;obtain⟨h1,Z,h3⟩:=zS J;obtain⟨v,hv,hr⟩:=bdT_run W I h d;refine⟨v,w,m,o,?_,by rw[hd];exact I.set d _ v (by omega) Z hr⟩;unfold execOp;rw[U];simp only[vA,wE];rw[hv];rfl
def rnT(j c:Nat):T->T
 | .ptr i off=>bif Nat.beq i j then .hpt c off else .ptr i off
 | .view i off E k n=>bif Nat.beq i j then .hvw c off E k n else .view i off E k n
 | .mpt i=>bif Nat.blt i OB&&Nat.beq i j then .mpt (OB+c)else .mpt i
 |x=>x
def rnA(j c:Nat):A->A
 | .t x=> .t (rnT j c x)
 | .tup l=> .tup (l.map (rnT j c))
 | .box l=> .box (l.map (rnT j c))
 | .ag l=> .ag (l.map (rnT j c))
 | .lst l=> .lst (l.map (rnT j c))
 | .cl f u=> .cl f (u.map λl=>l.map (rnT j c))
 | .imt l=> .imt (l.map (rnT j c))
 | .ref b off=>bif Nat.beq b (OB+j)then .t (.hpt c off)else .ref b off
 |x=>x
theorem zQk(i j:Nat):Nat.beq i j=decide (i=j):=by by_cases h:i=j;subst h;simp;(cases hb:Nat.beq i j with|true=>exact absurd (wV hb) h|false=>simp[h])
def rnO(j c:Nat)(o:OwnM):OwnM:=λg=>match o g with
 |some (s,k)=>if s=OB+j then some (OB+(OB+c),k)else some (s,k)
 |none=>none
theorem rnO_iff{j c:Nat}{g:Nat}{l:Nat×Nat}(u:∀g k,o g≠some (OB+(OB+c),k)):rnO j c o g=some l↔(l.1=OB+(OB+c)/\o g=some (OB+j,l.2))\/(l.1≠OB+j/\l.1≠OB+(OB+c)/\o g=some l):=by obtain⟨s,k⟩:=l;unfold rnO;grind
theorem zJv{j c:Nat}(hj:j<OB){loc loc':Nat×Nat}(hl:∀g,o g=some loc->rnO j c o g=some loc'){x:T}(h:RepT m w o loc x v):RepT m w (rnO j c o) loc' (rnT j c x) v:=by(have u:∀g s,s≠OB+j->o g=some (s,0)->rnO j c o g=some (s,0):=λg s hs h=>by unfold rnO;rw[h];simp only;rw[if_neg hs]);(have same:∀g,o g=some (OB+j,0)->rnO j c o g=some (OB+(OB+c),0):=λg h=>by unfold rnO;rw[h];simp);(cases x with|d x=>exact h|agg l=>exact h|own E k l=>obtain⟨W,cap,xs,e,J,I,Z,U⟩:=h;exact⟨W,cap,xs,e,J,λg hg=>⟨hl g (I g hg).1,(I g hg).2⟩,Z,U⟩|ptr i off=>show RepT m w (rnO j c o) loc' (bif Nat.beq i j then .hpt c off else .ptr i off) v;rw[zQk];obtain⟨g,J,I⟩:=h;by_cases e:i=j;(subst e;simp only[decide_true,cond_true];exact⟨g,same g J,I⟩);(simp only[e,decide_false,cond_false];exact⟨g,u g _ (by omega) J,I⟩)|view i off E k n=>show RepT m w (rnO j c o) loc' (bif Nat.beq i j then .hvw c off E k n else .view i off E k n) v;rw[zQk];obtain⟨W,q,J,I,Z,U⟩:=h;by_cases e:i=j;(subst e;simp only[decide_true,cond_true];exact⟨W,q,J,I,Z,U.imp id λ⟨g,cs,E1,k1,k2⟩=>⟨g,cs,E1,same g k1,k2⟩⟩);(simp only[e,decide_false,cond_false];exact⟨W,q,J,I,Z,U.imp id λ⟨g,cs,E1,k1,k2⟩=>⟨g,cs,E1,u g _ (by omega) k1,k2⟩⟩)|ags l1 α=>exact zH3.own hl h|xs E k l rv=>obtain⟨W,cap,xs,e,J,I,Z,U⟩:=h;exact⟨W,cap,xs,e,J,λg hg=>⟨hl g (I g hg).1,(I g hg).2⟩,Z,U⟩|any=>exact h|hpt i off=>obtain⟨g,J,I⟩:=h;exact⟨g,u g _ (by omega) J,I⟩|opt t p=>exact h.imp id λ⟨i,e,g,J,I⟩=>⟨i,e,g,u g _ (by omega) J,I⟩|mpt i=>show RepT m w (rnO j c o) loc' (bif Nat.blt i OB&&Nat.beq i j then .mpt (OB+c)else .mpt i) v;rw[zQk];obtain⟨g,J,I⟩:=h;by_cases e:i=j;(subst e;rw[show Nat.blt i OB=true by simpa using hj];simp only[decide_true,Bool.and_self,cond_true];exact⟨g,same g J,I⟩);(simp only[e,decide_false,Bool.and_false,cond_false];exact⟨g,u g _ (by omega) J,I⟩)|hvw i off E k n=>obtain⟨W,q,J,I,Z,U⟩:=h;exact⟨W,q,J,I,Z,U.imp id λ⟨g,cs,E1,k1,k2⟩=>⟨g,cs,E1,u g _ (by omega) k1,k2⟩⟩)
theorem rnT_agg{j c:Nat}{x:T}:(rnT j c x).isAgg=x.isAgg:=by(cases x with|ptr i off=>show(bif Nat.beq i j then T.hpt c off else .ptr i off).isAgg=_;cases Nat.beq i j<;>rfl|view i off E k n=>show(bif Nat.beq i j then T.hvw c off E k n else .view i off E k n).isAgg=_;cases Nat.beq i j<;>rfl|mpt i=>show(bif Nat.blt i OB&&Nat.beq i j then T.mpt (OB+c)else .mpt i).isAgg=_;cases(Nat.blt i OB&&Nat.beq i j)<;>rfl|_=>rfl)
theorem zQZ{j c:Nat}{l:List T}(h:noPt l=true):l.map (rnT j c)=l:=by
  conv=>rhs;rw[<-List.map_id l]
  refine tE λx hx=> ?_
  have:=wG.1 h x hx
  cases x<;>first|rfl|cases this
theorem Inv.pub(I:Inv w0 m0 o0 G pins S a w m o){j c:Nat}{la:List T}(hj:j<OB)(ζ:OB+j∉pins)(β:S (OB+(OB+c))= .free)(hb:S (OB+j)= .box la)(θ:la.map (rnT j c)=la){S':Nat->A}
(h1:S' (OB+j)= .free)(h2:S' (OB+(OB+c))= .box la)(h3:∀t,t≠OB+j->t≠OB+(OB+c)->S' t=rnA j c (S t)):∃o',Inv w0 m0 o0 G pins S' a w m o':=by
 have hf:∀g k,o g≠some (OB+(OB+c),k):=by have:=I.slots (OB+(OB+c));rw[β]at this;exact this
 have iff:=λg l=>rnO_iff (o:=o) (j:=j) (c:=c) (g:=g) (l:=l) hf
 have η:∀g,o0 g≠some (OB+j,0):=λg h=>(I.shps g j h).1.elim ζ λh=>by unfold OB at*;unfold OB2 at h;omega
 have keep:∀g l,l.1≠OB+j->o g=some l->rnO j c o g=some l:=λg l hl h=>(iff g l).2 (.inr ⟨hl,λe=>hf g l.2 (by rw[h,<-e]),h⟩)
 refine⟨rnO j c o,I.same,I.sat,I.mono,I.old,λg l h=> ?_,λg l h=> ?_,λg g' l h h'=> ?_,λs hs g hg=> ?_,λt=> ?_,I.defers,I.tbl,I.wide,I.shps⟩
 · rcases(iff g l).1 h with⟨_,h⟩|⟨_,_,h⟩<;>exact I.own g _ h
 · rcases(iff g l).1 h with⟨_,h⟩|⟨_,_,h⟩<;>exact I.lt g _ h
 · rcases(iff g l).1 h with⟨e1,h⟩|⟨_,e1,h⟩<;>rcases(iff g' l).1 h' with⟨e2,h'⟩|⟨_,e2,h'⟩;exact I.inj g g' _ h h';grind;grind;exact I.inj g g' _ h h'
 · have:=I.pinned s hs g hg;grind
 · by_cases e1:t=OB+j;(subst e1;rw[h1];intro g k h;grind);(by_cases e2:t=OB+(OB+c);(subst e2;rw[h2];have hs:=I.slots (OB+j);rw[hb]at hs;obtain⟨g,_,k1,k2,cs,E,k3,k4,k5⟩:=hs;refine⟨g,λh=>absurd h (by omega),(iff g _).2 (.inl ⟨rfl,k1⟩),k2,cs,E,k3,k4,λq x hq=> ?_⟩;obtain⟨q1,u,q2,U⟩:=k5 q x hq;refine⟨q1,u,q2,?_⟩;have:=zJv (c:=c) hj (loc':=(OB+(OB+c),q+1)) (λg hg=>(iff g _).2 (.inl ⟨rfl,hg⟩)) U;grind);(rw[h3 t e1 e2];have J:∀k g,o g=some (t,k)->rnO j c o g=some (t,k):=λk g h=>keep g _ e1 h;have hs:=I.slots t;have γ:∀b l,b<OB->S b= .box l->∃l',S' b= .box l':=λb l hb h=>⟨_,by rw[h3 b (by omega) (by omega),h];rfl⟩;revert hs;generalize a.tmps.getD t undef=v;(cases S t with|t x=>exactλhs=>zJv hj (J 0) hs|tup l=>rintro⟨vs,e,q1,q2⟩;refine⟨vs,e,by simpa using q1,λq x hq=> ?_⟩;rw[wH]at hq;(cases Z:l[q]? with|none=>grind|some z=>rw[Z]at hq;cases hq;obtain⟨u,U,W⟩:=q2 q z Z;exact⟨u,U,zJv hj (J _) W⟩)|ag l=>rintro⟨vs,e,q1,q2⟩;refine⟨vs,e,by simpa using q1,λq x hq=> ?_⟩;rw[wH]at hq;(cases Z:l[q]? with|none=>grind|some z=>rw[Z]at hq;cases hq;obtain⟨u,U,q5,W⟩:=q2 q z Z;exact⟨u,U,q5,zJv hj (J _) W⟩)|lst l=>rintro⟨g,cap,e,q1,q6,q2⟩;refine⟨g,cap,by simpa using e,by simpa using q1,q6,λq x hq=> ?_⟩;rw[wH]at hq;(cases Z:l[q]? with|none=>grind|some z=>rw[Z]at hq;cases hq;obtain⟨u,U,W⟩:=q2 q z Z;exact⟨u,U,zJv hj (J _) W⟩)|fr E k=>rintro⟨g,n,cap,ε,q1,q2,U⟩;exact⟨g,n,cap,ε,q1,J 0 g q2,U⟩|imm l=>exact id|box l=>rintro⟨g,e,k1,k2,cs,E,k3,k4,k5⟩;refine⟨g,e,J 0 g k1,k2,cs,E,k3,by simpa using k4,λq x hq=> ?_⟩;rw[wH]at hq;(cases Z:l[q]? with|none=>grind|some z=>rw[Z]at hq;cases hq;obtain⟨q5,u,U,W⟩:=k5 q z Z;exact⟨by rw[rnT_agg];exact q5,u,U,zJv hj (J _) W⟩)|ref b off=>rintro⟨g,k1,k2,k3⟩;show RepA m w (rnO j c o) S' t (bif Nat.beq b (OB+j)then .t (.hpt c off)else .ref b off) v;rw[zQk];by_cases e:b=OB+j;(subst e;simp only[decide_true,cond_true];exact⟨g,(iff g _).2 (.inl ⟨rfl,k1⟩),k2⟩);(simp only[e,decide_false,cond_false];exact⟨g,keep g _ e k1,k2,λhb=>let⟨l,hl⟩:=k3 hb;γ b l hb hl⟩)|free=>intro hs g k h;rcases(iff g _).1 h with⟨e,_⟩|⟨_,_,h⟩;grind;exact hs g k h|hp f=>exact id|mp l=>rintro⟨g,k1,k2⟩;exact⟨g,J 0 g k1,k2⟩|ck f cs=>rintro⟨α,e,q1,q2⟩;refine⟨α,e,q1,λi c' hi=> ?_⟩;obtain⟨v,U,W⟩:=q2 i c' hi;refine⟨v,U,?_⟩;(cases c' with|live c'=>obtain⟨g,b1,b2⟩:=W;exact⟨g,b1,keep g _ (by unfold OB at*;omega) b2⟩|fz l=>exact W)|cl f δ=>rintro⟨α,e,q1,q2⟩;refine⟨α,e,by simpa using q1,λi l hi=> ?_⟩;rw[wH]at hi;(cases hz:δ[i]? with|none=>grind|some z=>rw[hz]at hi;cases hi;obtain⟨g,U,W⟩:=q2 i z hz;refine⟨g,U,λq x hq=> ?_⟩;rw[wH]at hq;(cases Z:z[q]? with|none=>grind|some y=>rw[Z]at hq;cases hq;obtain⟨u,q5,q6⟩:=W q y Z;exact⟨u,q5,zJv hj (J _) q6⟩))|imt l=>rintro⟨g,U,W⟩;refine⟨g,U,λq x hq=> ?_⟩;rw[wH]at hq;(cases Z:l[q]? with|none=>grind|some y=>rw[Z]at hq;cases hq;obtain⟨u,q5,q6⟩:=W q y Z;exact⟨u,q5,zJv hj (J _) q6⟩)|rcd b u mE oE=>rintro⟨q1,q2,U,W,q5⟩;exact⟨J 0 b q1,q2,U,W,λg c' hg=>keep g _ (by show OB+(OB+c')≠OB+j;omega) (q5 g c' hg)⟩|any=>exact id)))
end
def posN:List Nat->Nat->Option Nat
 |[],_=>none
 |x::r,j=>if x=j then some 0 else(posN r j).map (· +1)
theorem zCS:∀{σ:List Nat} {j i:Nat},posN σ j=some i->σ[i]? =some j
 |[],_,_,h=>by cases h
 |x::r,j,i,h=>by unfold posN at h;split at h;grind;(cases hq:posN r j with|none=>grind|some q=>rw[hq]at h;injection h with h;subst h;simpa using zCS hq)
theorem zDn:∀{σ:List Nat} {j i:Nat},σ.Nodup->σ[i]? =some j->posN σ j=some i
 |[],_,_,_,h=>by simp at h
 |x::r,j,i,hn,h=>by unfold posN;rw[List.nodup_cons]at hn;(cases i with|zero=>grind|succ i=>(have h:r[i]? =some j:=by simpa using h);rw[if_neg (λe=>hn.1 (by rw[e];exact wC h)),zDn hn.2 h];rfl)
def zI0(σ:List Nat)(t:Nat):Prop:=OB<=t/\t-OB∈σ
instance (σ:List Nat)(t:Nat):Decidable (zI0 σ t):=by unfold zI0;exact inferInstance
theorem zIH{σ:List Nat}{j:Nat}(h:j∈σ):zI0 σ (OB+j):=⟨by omega,by rw[wP];exact h⟩
theorem zJV{σ:List Nat}{j:Nat}:zI0 σ (OB+j)↔j∈σ:=⟨λh=>by have:=h.2;rwa [wP]at this,zIH⟩
def zD7:List Nat->List A->Eff
 |j::σ,l::r=>(OB+j,l)::zD7 σ r
 |_,_=>[]
theorem zGA:∀{σ:List Nat} {u:List A} {S:Nat->A} {s:Nat},¬zI0 σ s->app S (zD7 σ u) s=S s
 |[],u,S,s,_=>by cases u<;>rfl
 |j::σ,[],S,s,_=>rfl
 |j::σ,l::r,S,s,h=>by show app (upd S (OB+j) l) (zD7 σ r) s=_;rw[zGA (λe=>h ⟨e.1,vG _ e.2⟩),zE];intro e;subst e;exact h (zIH (by simp))
theorem zTe:∀{σ:List Nat} {J:List A} {S:Nat->A} {i j:Nat} {l:A},σ.Nodup->σ[i]? =some j->J[i]? =some l->app S (zD7 σ J) (OB+j)=l
 |[],J,S,i,j,l,_,h,_=>by simp at h
 |x::σ,[],S,i,j,l,_,_,h=>by simp at h
 |x::σ,y::r,S,i,j,l,hn,u,I=>by rw[List.nodup_cons]at hn;show app (upd S (OB+x) y) (zD7 σ r) (OB+j)=_;(cases i with|zero=>injection u with u;injection I with I;subst u I;rw[zGA (λe=>hn.1 (zJV.1 e)),zT]|succ i=>exact zTe hn.2 (by simpa using u) (by simpa using I))
theorem zJ7(S:Nat->A)(e u:Eff):app S (e++u)=app (app S e) u:=by unfold app;rw[List.foldl_append]
def argH(args:List A)(ins:List A)(f:Nat->A):Nat->A:=λs=>if s<OB then args.getD s .any else if OB2<=s then san (f (s-OB2))else match ins[s-OB]? with
 |some x=>x
 |none=> .free
def zGn(n:Nat):List Nat:=(List.range n).map (OB+·)
def FCK(K:Array Value->World->(Ending->World->Prop)->Prop)(args:List A)(ins outs:List A)(f f':Nat->A)(r:A):Prop:=
 ∀(w:World) (m:Mem) (o:OwnM) (I:Array Value),(∀b p u,m b p=some u->w.cell? ⟨b,p,none⟩=some u)->Mle TBL m->(∀g l,o g=some l->g<w.heap.size)->(∀g U l,o g=some l->o U=some l->g=U)->I.size=args.length->
  (∀s,RepA m w o (argH args ins f) s (argH args ins f s) (I.getD s undef))->
  K I w λe w'=>∃(u:Value) (m':Mem) (o':OwnM) (J:Nat->A) (Z:Act) (ρ:Nat),e= .returned u/\Inv w m o ⟨λg=>o g≠none,[]⟩ (zGn ins.length) J Z w' m' o'/\RepA m' w' o' J ρ r u/\(∀(i:Nat) (x:A),outs[i]? =some x->J (OB+i)=x)/\(∀c,J (OB+(OB+c))=san (f' c))/\ρ<OB
def FCH(P:Program)(fn:FuncId)(args:List A)(ins outs:List A)(f f':Nat->A)(r:A):Prop:=FCK (Calls P fn) args ins outs f f' r
def T.isLoc:T->Bool| .ptr _ _| .view _ _ _ _ _=>true| .mpt j=>Nat.blt j OB|_=>false
def zDy(f:Nat->A):Prop:=∀c l,f c= .box l->∀x∈l,x.isLoc=false
theorem zQb{f:Nat->A}(h:zDy f)(c:Nat):∀l,san (f c)= .box l->∀x∈l,x.isLoc=false:=by intro l hl;cases hf:f c<;>rw[hf]at hl<;>cases hl;exact h c _ hf
def movH(σ:List Nat)(o:OwnM):OwnM:=λg=>match o g with
 |some (s,k)=>if OB2<=s then some (s,k)else if OB<=s then(posN σ (s-OB)).map λi=>(OB+i,k)else none
 |none=>none
theorem zDr{σ:List Nat}(hn:σ.Nodup)(hl:σ.length<=OB)(hs:∀j∈σ,j<OB){g:Nat}{l:Nat×Nat}:movH σ o g=some l↔(∃c,l.1=OB+(OB+c)/\o g=some l)\/∃i j,l.1=OB+i/\i<OB/\σ[i]? =some j/\o g=some (OB+j,l.2):=by unfold movH;constructor;(intro h;split at h;(rename_i s k U;split at h;(rename_i I;cases h;exact .inl ⟨s-OB2,by rw[<-yK];show s=_;omega,U⟩);(split at h;(rename_i I J;(cases hq:posN σ (s-OB)with|none=>grind|some i=>rw[hq]at h;cases h;have Z:=zCS hq;grind));cases h));cases h);(rintro(⟨c,u,I⟩|⟨i,j,u,Z,I,h3⟩);(obtain⟨s,k⟩:=l;have u:s=OB+(OB+c):=u;rw[I];simp only;rw[if_pos (by rw[u,<-yK];omega)]);(obtain⟨a,b⟩:=l;have u:a=OB+i:=u;subst u;have W:=hs j (wC I);rw[h3];simp only;rw[if_neg (by unfold OB OB2 at*;omega),if_pos (by omega),wP,zDn hn I];rfl))
def inH(τ:List Nat)(t:Nat):Prop:=OB2<=t\/zI0 τ t
instance (τ:List Nat)(t:Nat):Decidable (inH τ t):=by unfold inH;exact inferInstance
def keptH(o:OwnM)(d:Nat)(τ:List Nat):OwnM:=λg=>match o g with
 |some (t,k)=>if t=d\/inH τ t then none else some (t,k)
 |none=>none
theorem zL0{d:Nat}{τ:List Nat}{g:Nat}{l:Nat×Nat}:keptH o d τ g=some l↔l.1≠d/\¬inH τ l.1/\o g=some l:=by unfold keptH;grind
def mixH(o o':OwnM)(d ρ:Nat)(τ:List Nat):OwnM:=λg=>match o' g with
 |some (t,k)=>if t=ρ then some (d,k)else if OB2<=t then some (t,k)else if OB<=t then(match τ[t-OB]? with|some j=>some (OB+j,k)|none=>keptH o d τ g)else keptH o d τ g
 |none=>keptH o d τ g
inductive PtR(τ:List Nat):T->T->Prop
 |flat {x:T} (h:x.isPt=false):PtR τ x x
 |hpt (c off:Nat):PtR τ (.hpt c off) (.hpt c off)
 |opt (t:Nat) (p:Option Nat):PtR τ (.opt t p) (.opt t p)
 |hvw (c off E k n:Nat):PtR τ (.hvw c off E k n) (.hvw c off E k n)
 |view {i j off E k n:Nat} (h:τ[i]? =some j):PtR τ (.view i off E k n) (.view j off E k n)
inductive PtRs(τ:List Nat):List T->List T->Prop
 |nil:PtRs τ [] []
 |cons {x y:T} {l l':List T} (h:PtR τ x y) (t:PtRs τ l l'):PtRs τ (x::l) (y::l')
theorem PtRs.get{τ:List Nat}{l l':List T}(h:PtRs τ l l'):l'.length=l.length/\∀(j:Nat) (y:T),l'[j]? =some y->∃x,l[j]? =some x/\PtR τ x y:=by(induction h with|nil=>grind|cons hx ht u=>grind)
theorem PtRs.refl{τ:List Nat}:∀{l:List T},l.all (λx=> !x.isPt)=true->PtRs τ l l
 |[],_=> .nil
 |x::l,h=>by simp only[uV,wI]at h;exact .cons (.flat (by simpa using h.1)) (PtRs.refl h.2)
inductive ResH(τ:List Nat):A->A->Prop
 |t {x y:T} (h:PtR τ x y):ResH τ (.t x) (.t y)
 |tup {l l':List T} (h:PtRs τ l l'):ResH τ (.tup l) (.tup l')
 |plain {x:A} (h:x.plain=true):ResH τ x x
 |cl {f:FuncId} {caps:List (List T)} (h:∀l∈caps,∀x∈l,PtR τ x x):ResH τ (.cl f caps) (.cl f caps)
def dhT:T->Bool
 | .d _| .hpt _ _| .opt _ _=>true
 |_=>false
inductive ArgH(σ:List Nat):A->A->Prop
 |plain {x y:A} (h:WkA x y) (hp:y.plain=true):ArgH σ x y
 |hpt (c off:Nat):ArgH σ (.t (.hpt c off)) (.t (.hpt c off))
 |opt {x:T} {t:Nat} {p:Option Nat} (h:WkT x (.opt t p)):ArgH σ (.t x) (.t (.opt t p))
 |hvw (c off E k n:Nat):ArgH σ (.t (.hvw c off E k n)) (.t (.hvw c off E k n))
 |view {i j off E k n:Nat} (h:σ[i]? =some j):ArgH σ (.t (.view j off E k n)) (.t (.view i off E k n))
 |ck (f:FuncId) (cs:List CkE):ArgH σ (.ck f cs) (.ck f cs)
 |cl (f:FuncId) {caps:List (List T)} (h:caps.all (λl=>l.all dhT)=true):ArgH σ (.cl f caps) (.cl f caps)
 |view0 {i j off E k n:Nat} (h:σ[i]? =some j):ArgH σ (.t (.view j off E k n)) (.t (.view i off 0 k n))
inductive zKB(σ:List Nat):List A->List A->Prop
 |nil:zKB σ [] []
 |cons {x y:A} {l l':List A} (h:ArgH σ x y) (t:zKB σ l l'):zKB σ (x::l) (y::l')
def A.flatO:A->Bool
 | .box l=>noPt l
 | .any=>true
 | .free=>true
 |_=>false
section
variable {m:Mem}{w:World}{o o':OwnM}
theorem zLB{τ:List Nat}(hh:∀g c,o g=some (OB+(OB+c),0)->o' g=some (OB+(OB+c),0))(hl:∀g i j,τ[i]? =some j->o g=some (OB+i,0)->o' g=some (OB+j,0)){loc loc':Nat×Nat}(ho:∀g,o g=some loc->o' g=some loc'){x y:T}(hx:PtR τ x y)(h:RepT m w o loc x v):RepT m w o' loc' y v:=by(cases hx with|flat hx=>exact h.reloc ho hx|>λh=>h|hpt c off=>obtain⟨g,I,u⟩:=h;exact⟨g,hh g c I,u⟩|opt t p=>exact h.imp id λ⟨i,e,g,I,u⟩=>⟨i,e,g,hh g _ I,u⟩|hvw c off E k n=>obtain⟨A',q,I,u,W,J⟩:=h;exact⟨A',q,I,u,W,J.imp id λ⟨g,U,Z,k1,k2⟩=>⟨g,U,Z,hh g c k1,k2⟩⟩|view hi=>obtain⟨A',q,I,u,W,J⟩:=h;exact⟨A',q,I,u,W,J.imp id λ⟨g,U,Z,k1,k2⟩=>⟨g,U,Z,hl g _ _ hi k1,k2⟩⟩)
theorem loc_rep(hh:∀g c,o g=some (OB+(OB+c),0)->o' g=some (OB+(OB+c),0)){loc loc':Nat×Nat}(u:∀g,o g=some loc->o' g=some loc'){x:T}(hx:x.isLoc=false)(h:RepT m w o loc x v):RepT m w o' loc' x v:=by(cases x with|ptr j off=>cases hx|view j off E k n=>cases hx|hpt c off=>exact zLB (τ:=[]) hh (λg i j h=>by simp at h) u (.hpt c off) h|opt t p=>exact zLB (τ:=[]) hh (λg i j h=>by simp at h) u (.opt t p) h|mpt j=>(have hj:¬j<OB:=by have hx:Nat.blt j OB=false:=hx;intro h;rw[show Nat.blt j OB=true by simpa using h]at hx;cases hx);obtain⟨c,rfl⟩:∃c,j=OB+c:=⟨j-OB,by omega⟩;obtain⟨g,J,I⟩:=h;exact⟨g,hh g c J,I⟩|hvw c off E k n=>exact zLB (τ:=[]) hh (λg i j h=>by simp at h) u (.hvw c off E k n) h|d x=>exact h|ags l1 α=>exact zH3.own u h|xs E k l rv=>obtain⟨A',cap,xs,e,J,I,W,Z⟩:=h;exact⟨A',cap,xs,e,J,λg U=>⟨u g (I g U).1,(I g U).2⟩,W,Z⟩|any=>exact h|agg l=>exact h|own E k l=>exact zLB (τ:=[]) hh (λg i j h=>by simp at h) u (.flat rfl) h)
end
theorem zEu(x:A):(∃l,san x= .box l)\/san x= .free\/san x= .any\/(∃l,san x= .mp l)\/∃b u J I,san x= .rcd b u J I:=by cases x<;>first|exact .inl ⟨_,rfl⟩|exact .inr (.inl rfl)|exact .inr (.inr (.inl rfl))|exact .inr (.inr (.inr (.inl ⟨_,rfl⟩)))|exact .inr (.inr (.inr (.inr ⟨_,_,_,_,rfl⟩)))
def hpS(S:Nat->A)(f':Nat->A):Nat->A:=λt=>if OB2<=t then san (f' (t-OB2))else S t
section
variable {w0:World}{m0:Mem}{o0:OwnM}{G:GD}{pins:List Nat}{S M:Nat->A}{a:Act}{w:World}{m:Mem}{o:OwnM}{P:Program}{N:Nat}
theorem zUU(I:Inv w0 m0 o0 G pins S a w m o){K:Array Value->World->(Ending->World->Prop)->Prop}(hKm:∀(v:Array Value) (w:World) (R R':Ending->World->Prop),K v w R->(∀e w',R e w'->R' e w')->K v w R'){args:List A}{ins outs:List A}{f f':Nat->A}{r r':A}(hf:FCK K args ins outs f f' r)(hS:∀c,S (OB+(OB+c))=san (f c))(hp:zDy f)(hp':zDy f'){σ fr:List Nat}(μ:(σ++fr).Nodup)(hlo:∀j∈σ++fr,j<OB)(hin:σ.map (λj=>S (OB+j))=ins)(hfi:ins.all A.flatO=true)(hfo:outs.all A.flatO=true)(hfr:∀j∈fr,S (OB+j)= .free)(hlen:outs.length=(σ++fr).length)(hlO:outs.length<=OB)(π:ResH (σ++fr) r r'){vals:Array Value}{oc:OwnM}{X:Nat->Prop}(hoc1:∀g l,movH σ o g=some l->oc g=some l)(hoc2:∀g l,oc g=some l->movH σ o g=some l\/(l.1<OB/\X g))(hX:∀g,X g->o g=none/\g<w.heap.size/\(G g\/w0.heap.size<=g))(hinj:∀g g' l,oc g=some l->oc g'=some l->g=g')(hv:vals.size=args.length)(hr:∀(k:Nat) (x:A),args[k]? =some x->RepA m w oc (argH args ins f) k x (vals.getD k undef))(hargs:args.length<=OB){d:Nat}(hd:d<a.tmps.size)(hbox:(S d).isBox=false)(hpin:d∉pins):
  K vals w λe w'=>∃u m' o',e= .returned u/\Inv w0 m0 o0 G pins (upd (app (hpS S f') (zD7 (σ++fr) outs)) d r') (a.put (some d) u) w' m' o':=by
 have hσ:σ.Nodup:=(List.nodup_append.1 μ).1
 have hdO:d<OB:=wO hd I.wide
 generalize hτ:σ++fr=τ at*
 have hlσ:∀j∈σ,j<OB:=λj h=>hlo j (by rw[<-hτ];exact tX _ h)
 have hσl:σ.length<=OB:=by
  have:σ.length<=τ.length:=by rw[<-hτ];simp
  omega
 have hil:σ.length=ins.length:=by rw[<-hin];simp
 have ν:=λ(o:OwnM) (g:Nat) (l:Nat×Nat)=>zDr (o:=o) (g:=g) (l:=l) hσ hσl hlσ
 have ε:∀(g:Nat) (l:Nat×Nat),oc g=some l->(∃c,l.1=OB+(OB+c)/\o g=some l)\/(∃i j,l.1=OB+i/\i<OB/\σ[i]? =some j/\o g=some (OB+j,l.2))\/(l.1<OB/\X g):=λg l h=>(hoc2 g l h).elim (λh=>((ν o g l).1 h).imp id .inl) (λh=> .inr (.inr h))
 have hστ:∀i j,σ[i]? =some j->τ[i]? =some j:=λi j h=>by rw[<-hτ,uN (wB.1 h).1];exact h
 have hmem:∀j,j∈τ->j∈σ\/j∈fr:=λj h=>by rw[<-hτ]at h;exact List.mem_append.1 h
 have hfree:∀j∈fr,∀g k,o g≠some (OB+j,k):=λj hj=>by have:=I.slots (OB+j);rw[hfr j hj]at this;exact this
 have ψ:∀g i j k,σ[i]? =some j->o g=some (OB+j,k)->oc g=some (OB+i,k):=λg i j k U Z=>hoc1 _ _ ((ν o g _).2 (.inr ⟨i,j,rfl,by have:=(wB.1 U).1;omega,U,Z⟩))
 have δ:∀g c k,o g=some (OB+(OB+c),k)->oc g=some (OB+(OB+c),k):=λg c k h=>hoc1 _ _ ((ν o g _).2 (.inl ⟨c,rfl,h⟩))
 have hrep:∀t,RepA m w (oc) (argH args ins f) t (argH args ins f t) (vals.getD t undef):=by
  intro t
  by_cases ht:t<OB
  ·
   have e:argH args ins f t=args.getD t .any:=by unfold argH;rw[if_pos ht]
   rw[e,wK]
   cases hx:args[t]? with
   |none=>trivial
   |some x=>exact hr t x hx
  ·
   by_cases θ:OB2<=t
   ·
    obtain⟨c,rfl⟩:∃c,t=OB+(OB+c):=⟨t-OB2,by rw[<-yK];omega⟩
    have e:argH args ins f (OB+(OB+c))=san (f c):=by
     unfold argH
     rw[if_neg (by omega),if_pos θ,<-yK,wP]
    rw[e]
    have hs:=I.slots (OB+(OB+c))
    rw[hS]at hs
    rcases zEu (f c)with⟨l,hl⟩|hl|hl|⟨l,hl⟩|⟨b,u,mE,oE,hl⟩
    ·
     have hpu:=zQb hp c l hl
     rw[hl]at hs⊢
     obtain⟨g,e1,k1,k2,cs,E,k3,k4,k5⟩:=hs
     refine⟨g,λh=>absurd h (by omega),δ g c 0 k1,k2,cs,E,k3,k4,λq x hq=> ?_⟩
     obtain⟨q1,u,q2,q3⟩:=k5 q x hq
     exact⟨q1,u,q2,loc_rep (λg c h=>δ g c 0 h) (λg h=>δ g c _ h) (hpu x (wC hq)) q3⟩
    ·
     rw[hl]at hs⊢
     intro g k h
     rcases ε g _ h with⟨_,_,h⟩|⟨i,j,U,hi,Z,h3⟩|⟨U,_⟩
     · exact hs g k h
     all_goals grind
    · rw[hl];trivial
    ·
     rw[hl]at hs⊢
     obtain⟨g,k1,k2⟩:=hs
     exact⟨g,δ g c 0 k1,k2⟩
    ·
     rw[hl]at hs⊢
     obtain⟨k1,k2,k3,k4,k5⟩:=hs
     exact⟨δ b c 0 k1,k2,k3,k4,λg c' hg=>δ g c' 0 (k5 g c' hg)⟩
   ·
    obtain⟨i,rfl⟩:∃i,t=OB+i:=⟨t-OB,by omega⟩
    have hiO:i<OB:=by unfold OB OB2 at*;omega
    cases hl:ins[i]? with
    |none=>
     have e:argH args ins f (OB+i)= .free:=by unfold argH;rw[if_neg ht,if_neg θ,wP,hl]
     rw[e]
     intro g k h
     rcases ε g _ h with⟨c,U,_⟩|⟨i',j,U,hi',Z,_⟩|⟨U,_⟩
     rotate_left 2
     all_goals grind
    |some l=>
     have e:argH args ins f (OB+i)=l:=by unfold argH;rw[if_neg ht,if_neg θ,wP,hl]
     rw[e]
     have hi:i<σ.length:=by rw[hil];exact(wB.1 hl).1
     have β:l.flatO=true:=wG.1 hfi l (wC hl)
     have hsl:S (OB+σ[i])=l:=by
      rw[<-hin,wH,wF hi]at hl
      injection hl
     have hs:=I.slots (OB+σ[i])
     rw[hsl]at hs
     revert hs β
     cases l with
     |box l=>
      rintro β ⟨g,_,k1,k2,cs,E,k3,k4,k5⟩
      refine⟨g,λh=>absurd h ht,ψ g i _ 0 (wF hi) k1,k2,cs,E,k3,k4,λq x hq=> ?_⟩
      obtain⟨q1,u,q2,q3⟩:=k5 q x hq
      exact⟨q1,u,q2,q3.reloc (λg h=>ψ g i _ _ (wF hi) h) (zDW β hq)⟩
     |any=>intro _ _;trivial
     |free=>
      intro _ hs g k h
      rcases ε g _ h with⟨c,U,_⟩|⟨i',j,U,hi',Z,h3⟩|⟨U,_⟩
      rotate_left 2
      · have U:OB+i<OB:=U;omega
      · have U:OB+i=OB+(OB+c):=U;omega
      ·
       have U:OB+i=OB+i':=U
       have U:i'=i:=by omega
       subst U
       rw[wF hi]at Z
       injection Z with Z
       exact hs g k (by rw[Z];exact h3)
     |_=>intro β;cases β
 refine hKm _ _ _ _ (hf w m oc vals I.sat (I.tbl.trans I.mono) (λg l h=> ?_) hinj hv hrep) ?_
 ·
  rcases ε g l h with⟨_,_,h⟩|⟨_,_,_,_,_,h⟩|⟨_,h⟩
  · exact I.lt g _ h
  · exact I.lt g _ h
  grind
 rintro e w' ⟨u,m',o',S',a',ρ,rfl,J,α,hbx,hhp,hρ⟩
 have hgr:∀g,oc g≠none->(∃s k,(zI0 σ s\/OB2<=s)/\o g=some (s,k))\/X g:=by
  intro g h
  cases hg:oc g with
  |none=>exact absurd hg h
  |some l=>
   rcases ε g l hg with⟨c,U,Z⟩|⟨i,j,_,_,Z,h3⟩|⟨_,h⟩
   · exact .inl ⟨l.1,l.2,.inr (by rw[U,<-yK];omega),Z⟩
   · exact .inl ⟨_,_,.inl (zIH (wC Z)),h3⟩
   grind
 have ω:Same (λg=>(∃s k,(zI0 σ s\/OB2<=s)/\o g=some (s,k))\/X g) w w':=J.same.weaken λg h=>hgr g h
 have hστ':∀s,zI0 σ s\/OB2<=s->inH τ s:=λs h=>h.elim (λh=> .inr ⟨h.1,by rw[<-hτ];exact tX _ h.2⟩) .inl
 have hnot:∀g l,o g=some l->¬(zI0 σ l.1\/OB2<=l.1)->oc g=none:=by
  intro g l h hn
  cases hg:oc g with
  |none=>rfl
  |some l'=>
   grind
 have hold:∀b,b<w.heap.size->oc b=none->m' b=m b:=λb hb hn=>J.old b hb λh=>h hn
 have hnew:∀g l,o' g=some l->((∃s k,(zI0 σ s\/OB2<=s)/\o g=some (s,k))\/X g)\/w.heap.size<=g:=λg l h=>(J.own g l h).imp (hgr g) id
 have hdis:∀g l,o g=some l->¬(zI0 σ l.1\/OB2<=l.1)->o' g=none:=by
  intro g l h hn
  cases ho:o' g with
  |none=>rfl
  |some l'=>
   rcases hnew g l' ho with(⟨s,k,hj,hk⟩|hx)|hge
   ·
    rw[h]at hk
    injection hk with hk
    rw[hk]at hn
    exact absurd hj hn
   · rw[(hX g hx).1]at h;cases h
   · exact absurd (I.lt g _ h) (by omega)
 have hτl:τ.length=outs.length:=hlen.symm
 have χ:∀g k,o' g=some (ρ,k)->mixH o o' d ρ τ g=some (d,k):=by
  intro g k h
  unfold mixH
  rw[h]
  simp
 have γ:∀g i j k,τ[i]? =some j->o' g=some (OB+i,k)->mixH o o' d ρ τ g=some (OB+j,k):=by
  intro g i j k U Z
  have hiO:i<OB:=by have:=(wB.1 U).1;omega
  unfold mixH
  rw[Z]
  simp only
  rw[if_neg (by omega),if_neg (by unfold OB OB2 at*;omega),if_pos (by omega),wP,U]
 have W:∀g c k,o' g=some (OB+(OB+c),k)->mixH o o' d ρ τ g=some (OB+(OB+c),k):=by
  intro g c k h
  unfold mixH
  rw[h]
  simp only
  rw[if_neg (by omega),if_pos (by rw[<-yK];omega)]
 have hfrn:∀g l,o g=some l->¬(zI0 σ l.1\/OB2<=l.1)->¬inH τ l.1:=by
  intro g l h hn ht
  rcases ht with ht|ht
  · exact hn (.inr ht)
  ·
   obtain⟨s,k⟩:=l
   obtain⟨j,rfl⟩:∃j,s=OB+j:=⟨s-OB,by have:=ht.1;omega⟩
   rcases hmem j (zJV.1 ht)with hj|hj
   · exact hn (.inl (zIH hj))
   grind
 have φ:∀g l,o g=some l->l.1≠d->¬(zI0 σ l.1\/OB2<=l.1)->mixH o o' d ρ τ g=some l:=by
  intro g l h U Z
  unfold mixH
  rw[hdis g l h Z]
  exact zL0.2 ⟨U,hfrn g l h Z,h⟩
 have ζ:∀g l,mixH o o' d ρ τ g=some l->(l.1=d/\o' g=some (ρ,l.2))\/(∃c,l.1=OB+(OB+c)/\o' g=some l)\/(∃i j,τ[i]? =some j/\l.1=OB+j/\o' g=some (OB+i,l.2))\/(l.1≠d/\¬inH τ l.1/\o g=some l):=by
  intro g l h
  unfold mixH at h
  split at h
  ·
   rename_i t k hg
   split at h
   ·
    rename_i e
    injection h with h
    subst h e
    exact .inl ⟨rfl,hg⟩
   ·
    split at h
    ·
     rename_i ht
     cases h
     exact .inr (.inl ⟨t-OB2,by rw[<-yK];show t=_;omega,hg⟩)
    ·
     split at h
     ·
      rename_i ht
      split at h
      ·
       rename_i j hj
       cases h
       exact .inr (.inr (.inl ⟨t-OB,j,hj,rfl,by rw[show OB+(t-OB)=t by omega];exact hg⟩))
      · exact .inr (.inr (.inr (zL0.1 h)))
     · exact .inr (.inr (.inr (zL0.1 h)))
  · exact .inr (.inr (.inr (zL0.1 h)))
 have hptσ:∀g i j,σ[i]? =some j->o g=some (OB+j,0)->o' g=some (OB+i,0):=λg i j U Z=>J.pinned (OB+i) (.inr (by omega)) g (ψ g i j 0 U Z)
 have hpth:∀g c,o g=some (OB+(OB+c),0)->o' g=some (OB+(OB+c),0):=λg c h=>J.pinned _ (.inr (by omega)) g (δ g c 0 h)
 have hpt:∀g j,o g=some (OB+j,0)->mixH o o' d ρ τ g=some (OB+j,0):=by
  intro g j h
  by_cases hj:j∈σ
  ·
   obtain⟨i,hi⟩:=uG hj
   exact γ g i j 0 (hστ i j hi) (hptσ g i j hi h)
  ·
   by_cases hj2:OB2<=OB+j
   ·
    obtain⟨c,rfl⟩:∃c,j=OB+c:=⟨j-OB,by unfold OB OB2 at*;omega⟩
    exact W g c 0 (hpth g c h)
   · exact φ g _ h (zMu hdO) (λe=>e.elim (λe=>hj (zJV.1 e)) hj2)
 have K:Keep (λl=>l.1=d\/inH τ l.1) m w o m' w' (mixH o o' d ρ τ):=by
  have hC:∀l:Nat×Nat,¬(l.1=d\/inH τ l.1)->¬(zI0 σ l.1\/OB2<=l.1):=λl h hn=>h (.inr (hστ' _ hn))
  refine⟨J.mono,λg l h hn=>hold g (I.lt g l h) (hnot g l h (hC l hn)),λg l h hn=>ω.block g (I.lt g l h) λhq=>hq.elim (λ⟨s,k,hj,hk⟩=> ?_) (λhx=>by rw[(hX g hx).1]at h;cases h),λg l h hn=>φ g l h (λe=>hn (.inl e)) (hC l hn),hpt,λg s k hn h=> ?_,λg j h=> ?_⟩
  ·
   rw[h]at hk
   injection hk with hk
   exact hC l hn (by rw[hk];exact hj)
  ·
   rcases ζ g _ h with⟨e,_⟩|⟨c,e,_⟩|⟨i,j,U,e,_⟩|⟨_,_,h⟩
   · exact absurd (.inl e) hn
   · exact absurd (.inr (.inl (by have e:s=OB+(OB+c):=e;rw[e,<-yK];exact vD _ _))) hn
   ·
    have e:s=OB+j:=e
    exact absurd (.inr (.inr (by rw[e];exact zIH (wC U)))) hn
   grind
  ·
   by_cases hj:zI0 σ (OB+j)\/OB2<=OB+j
   ·
    rcases hj with hj|hj
    ·
     obtain⟨i,hi⟩:=uG (zJV.1 hj)
     exact(J.shps g i (ψ g i j 0 hi h)).2
    ·
     obtain⟨c,rfl⟩:∃c,j=OB+c:=⟨j-OB,by unfold OB OB2 at*;omega⟩
     exact(J.shps g _ (δ g c 0 h)).2
   ·
    refine .of_eq (ω.block g (I.lt g _ h) λhq=>hq.elim (λ⟨s,k,hs,hk⟩=>hj ?_) (λhx=>by rw[(hX g hx).1]at h;cases h))
    rw[h]at hk
    injection hk with hk
    injection hk with hk _
    rw[hk]
    exact hs
 have hpt2:∀s,OB<=s->∀g,o g=some (s,0)->mixH o o' d ρ τ g=some (s,0):=λs hs g h=>by
  obtain⟨j,rfl⟩:∃j,s=OB+j:=⟨s-OB,by omega⟩
  exact hpt g j h
 refine⟨u,m',mixH o o' d ρ τ,rfl,?_,J.sat,I.mono.trans J.mono,λb hb hg=> ?_,λg l h=> ?_,λg l h=> ?_,λg g' l h h'=> ?_,λt ht g hg=> ?_,λt=> ?_,I.defers,I.tbl,by rw[zCW];exact I.wide,I.shps.keep I.pinned K.sh⟩
 ·
  refine I.same.trans (ω.weaken ?_)
  rintro k (⟨s,q,_,hj⟩|hx)
  · exact I.own k _ hj
  grind
 ·
  rw[hold b (wO hb I.same.size) ?_]
  · exact I.old b hb hg
  ·
   cases hq:oc b with
   |none=>rfl
   |some l=>
    have hh:G b\/w0.heap.size<=b:=by
     rcases hgr b (by rw[hq];simp)with⟨s,k,_,h3⟩|hx
     · exact I.own b _ h3
     grind
    grind
 ·
  have key:∀l',o' g=some l'->G g\/w0.heap.size<=g:=λl' U=>by
   rcases hnew g _ U with(⟨s,k,_,hj⟩|hx)|hge
   · exact I.own g _ hj
   · exact(hX g hx).2.2
   · exact .inr (uW I.same.size hge)
  rcases ζ g l h with⟨_,U⟩|⟨_,_,U⟩|⟨_,_,_,_,U⟩|⟨_,_,U⟩
  · exact key _ U
  · exact key _ U
  · exact key _ U
  · exact I.own g l U
 ·
  rcases ζ g l h with⟨_,U⟩|⟨_,_,U⟩|⟨_,_,_,_,U⟩|⟨_,_,U⟩
  · exact J.lt g _ U
  · exact J.lt g _ U
  · exact J.lt g _ U
  · exact wO (I.lt g l U) ω.size
 ·
  have hτO:∀i j,τ[i]? =some j->j<OB:=λi j h=>hlo j (wC h)
  rcases ζ g l h with⟨Z,U⟩|⟨c,Z,U⟩|⟨i,j,h3,Z,U⟩|⟨Z,h3,U⟩<;>rcases ζ g' l h' with⟨η,ι⟩|⟨c',η,ι⟩|⟨i',j',κ,η,ι⟩|⟨η,κ,ι⟩
  · exact J.inj g g' _ U ι
  · omega
  · omega
  · exact absurd Z η
  · omega
  · exact J.inj g g' _ U ι
  · have:=hτO _ _ κ;omega
  · exact absurd (.inl (by rw[Z,<-yK];omega)) κ
  · omega
  · have:=hτO _ _ h3;omega
  ·
   have hjj:j=j':=by omega
   subst hjj
   have e1:=zDn μ h3
   have e2:=zDn μ κ
   rw[e1]at e2
   cases e2
   exact J.inj g g' _ U ι
  · exact absurd (.inr (by rw[Z];exact zIH (wC h3))) κ
  · exact absurd η Z
  · exact absurd (.inl (by rw[η,<-yK];omega)) h3
  · exact absurd (.inr (by rw[η];exact zIH (wC κ))) h3
  · exact I.inj g g' l U ι
 ·
  have U:=I.pinned t ht g hg
  by_cases e:OB<=t
  · exact hpt2 t e g U
  ·
   refine φ g _ U (λe'=> ?_) (λe'=> ?_)
   · grind
   ·
    rcases e' with e'|e'
    · exact e e'.1
    ·
     have:OB2<=t:=e'
     unfold OB OB2 at*;omega
 ·
  rw[zNj]
  by_cases h:t=d
  ·
   subst h
   rw[if_pos ⟨rfl,hd⟩,zT]
   revert α π
   intro π α
   cases π with
   |t hx=>exact zLB (λg c h=>W g c 0 h) (λg i j U Z=>γ g i j 0 U Z) (λg h=>χ g 0 h) hx α
   |tup hx=>
    obtain⟨vs,e1,q1,q2⟩:=α
    obtain⟨k1,k2⟩:=hx.get
    refine⟨vs,e1,by rw[k1];exact q1,λj y hj=> ?_⟩
    obtain⟨x,k3,k4⟩:=k2 j y hj
    obtain⟨u',q3,q4⟩:=q2 j x k3
    exact⟨u',q3,zLB (λg c h=>W g c 0 h) (λg i j U Z=>γ g i j 0 U Z) (λg h=>χ g _ h) k4 q4⟩
   |plain hx=>exact zJa hx α
   |cl hx=>
    obtain⟨ptrs,e1,q1,q2⟩:=α
    refine⟨ptrs,e1,q1,λi l hi=> ?_⟩
    obtain⟨g,q3,q4⟩:=q2 i l hi
    refine⟨g,q3,λj x hj=> ?_⟩
    obtain⟨u',q5,q6⟩:=q4 j x hj
    exact⟨u',q5,zLB (λg c h=>W g c 0 h) (λg i j U Z=>γ g i j 0 U Z) (λg h=>χ g 0 h) (hx l (wC hi) x (wC hj)) q6⟩
  ·
   rw[if_neg (λe=>h e.1),zE h]
   by_cases ht:zI0 τ t
   ·
    obtain⟨j,rfl⟩:∃j,t=OB+j:=⟨t-OB,by have:=ht.1;omega⟩
    obtain⟨i,hi⟩:=uG (zJV.1 ht)
    have ξ:i<outs.length:=by rw[<-hτl];exact(wB.1 hi).1
    rw[zTe μ hi (wF ξ)]
    have hs:=J.slots (OB+i)
    rw[hbx i _ (wF ξ)]at hs
    have β:outs[i].flatO=true:=wG.1 hfo _ (uA ξ)
    revert hs β
    generalize outs[i]=x'
    intro hs β
    cases x' with
    |box l=>
     obtain⟨g,_,k1,k2,cs,E,k3,k4,k5⟩:=hs
     refine⟨g,λhb=>absurd hb (by omega),γ g i j 0 hi k1,k2,cs,E,k3,k4,λq x hq=> ?_⟩
     obtain⟨q1,u',q2,q3⟩:=k5 q x hq
     exact⟨q1,u',q2,q3.reloc (λg h=>γ g i j _ hi h) (zDW β hq)⟩
    |any=>trivial
    |free=>
     intro g k h
     rcases ζ g _ h with⟨e,_⟩|⟨c,e,_⟩|⟨i2,j2,h3,e,U⟩|⟨_,h3,_⟩
     · have e:OB+j=d:=e;omega
     ·
      have e:OB+j=OB+(OB+c):=e
      have:=hlo j (wC hi)
      omega
     ·
      have e:OB+j=OB+j2:=e
      have e:j=j2:=by omega
      subst e
      have e1:=zDn μ h3
      rw[zDn μ hi]at e1
      cases e1
      exact hs g _ U
     grind
    |_=>cases β
   ·
    rw[zGA ht]
    by_cases θ:OB2<=t
    ·
     obtain⟨c,rfl⟩:∃c,t=OB+(OB+c):=⟨t-OB2,by rw[<-yK];omega⟩
     have e:hpS S f' (OB+(OB+c))=san (f' c):=by
      unfold hpS
      rw[if_pos θ,<-yK,wP]
     rw[e]
     have hs:=J.slots (OB+(OB+c))
     rw[hhp]at hs
     rcases zEu (f' c)with⟨l,hl⟩|hl|hl|⟨l,hl⟩|⟨b,u,mE,oE,hl⟩
     ·
      have hpu:=zQb hp' c l hl
      rw[hl]at hs⊢
      obtain⟨g,e1,k1,k2,cs,E,k3,k4,k5⟩:=hs
      refine⟨g,λh=>absurd h (by omega),W g c 0 k1,k2,cs,E,k3,k4,λq x hq=> ?_⟩
      obtain⟨q1,u,q2,q3⟩:=k5 q x hq
      exact⟨q1,u,q2,loc_rep (λg c h=>W g c 0 h) (λg h=>W g c _ h) (hpu x (wC hq)) q3⟩
     ·
      rw[hl]at hs⊢
      intro g k h
      rcases ζ g _ h with⟨e,_⟩|⟨c',e,h⟩|⟨i,j,U,e,_⟩|⟨_,e,_⟩
      · have e:OB+(OB+c)=d:=e;omega
      · exact hs g k h
      all_goals grind
     · rw[hl];trivial
     ·
      rw[hl]at hs⊢
      obtain⟨g,k1,k2⟩:=hs
      exact⟨g,W g c 0 k1,k2⟩
     ·
      rw[hl]at hs⊢
      obtain⟨k1,k2,k3,k4,k5⟩:=hs
      exact⟨W b c 0 k1,k2,k3,k4,λg c' hg=>W g c' 0 (k5 g c' hg)⟩
    ·
     have e:hpS S f' t=S t:=by unfold hpS;rw[if_neg θ]
     rw[e]
     refine RepA.keep K (λj e=>e.elim h (λe=>e.elim θ ht)) (λb off e hb=> ?_) (I.slots t)
     have hr:=I.slots t
     rw[e]at hr
     obtain⟨_,_,_,hr⟩:=hr
     obtain⟨l,hl⟩:=hr hb
     have hbd:b≠d:=λe=>by subst e;rw[hl]at hbox;cases hbox
     have hbo:¬zI0 τ b:=λe=>by have:=e.1;omega
     have hb2:¬OB2<=b:=by unfold OB OB2 at*;omega
     exact⟨λe=>e.elim hbd (λe=>e.elim hb2 hbo),λ⟨l,hl⟩=>⟨l,by rw[zE hbd,zGA hbo];unfold hpS;rw[if_neg hb2,hl]⟩⟩
theorem zPD(I:Inv w0 m0 o0 G pins S a w m o){K:Array Value->World->(Ending->World->Prop)->Prop}(ι:∀(v:Array Value) (w:World) (R R':Ending->World->Prop),K v w R->(∀e w',R e w'->R' e w')->K v w R'){args:List A}{ins outs:List A}{f f':Nat->A}{r r':A}(hf:FCK K args ins outs f f' r)(hS:∀c,S (OB+(OB+c))=san (f c))(hp:zDy f)(κ:zDy f'){σ fr:List Nat}(ζ:(σ++fr).Nodup)(η:∀j∈σ++fr,j<OB)(ν:σ.map (λj=>S (OB+j))=ins)(ρ:ins.all A.flatO=true)(μ:outs.all A.flatO=true)(θ:∀j∈fr,S (OB+j)= .free)(α:outs.length=(σ++fr).length)(ξ:outs.length<=OB)(ε:ResH (σ++fr) r r'){vals:Array Value}(hv:vals.size=args.length)(hr:∀(k:Nat) (x:A),args[k]? =some x->∀k0,RepA m w (movH σ o) (argH args ins f) k0 x (vals.getD k undef))(J:args.length<=OB){d:Nat}(hd:d<a.tmps.size)(Z:(S d).isBox=false)(β:d∉pins):
 K vals w λe w'=>∃u m' o',e= .returned u/\Inv w0 m0 o0 G pins (upd (app (hpS S f') (zD7 (σ++fr) outs)) d r') (a.put (some d) u) w' m' o':=by
 have hσ:σ.Nodup:=(List.nodup_append.1 ζ).1
 have γ:∀j∈σ,j<OB:=λj h=>η j (tX _ h)
 have W:σ.length<=OB:=by grind
 refine zUU (oc:=movH σ o) (X:=λ_=>False) I ι hf hS hp κ ζ η ν ρ μ θ α ξ ε (λ_ _ h=>h) (λ_ _ h=> .inl h) (λ_ h=>h.elim) (λg g' l h U=> ?_) hv (λk x h=>hr k x h k) J hd Z β
 rcases(zDr hσ W γ).1 h with⟨c,h1,h⟩|⟨i,j,h1,hi,h2,h⟩<;>rcases(zDr hσ W γ).1 U with⟨c',π,U⟩|⟨i',j',π,τ,δ,U⟩
 · exact I.inj g g' l h U
 · omega
 · omega
 · (have:i=i':=by omega);subst this;rw[h2]at δ;cases δ;exact I.inj g g' _ h U
theorem call_heap(I:Inv w0 m0 o0 G pins S a w m o){fn:FuncId}{args:List A}{ins outs:List A}{f f':Nat->A}{r r':A}(hf:FCH P fn args ins outs f f' r)(hS:∀c,S (OB+(OB+c))=san (f c))(hp:zDy f)(γ:zDy f'){σ fr:List Nat}(η:(σ++fr).Nodup)(θ:∀j∈σ++fr,j<OB)(ε:σ.map (λj=>S (OB+j))=ins)(ι:ins.all A.flatO=true)(δ:outs.all A.flatO=true)(β:∀j∈fr,S (OB+j)= .free)(Z:outs.length=(σ++fr).length)(ζ:outs.length<=OB)(α:ResH (σ++fr) r r'){vals:Array Value}(hv:vals.size=args.length)(hr:∀(k:Nat) (x:A),args[k]? =some x->∀k0,RepA m w (movH σ o) (argH args ins f) k0 x (vals.getD k undef))(J:args.length<=OB){d:Nat}(hd:d<a.tmps.size)(U:(S d).isBox=false)(W:d∉pins):
 Calls P fn vals w λe w'=>∃u m' o',e= .returned u/\Inv w0 m0 o0 G pins (upd (app (hpS S f') (zD7 (σ++fr) outs)) d r') (a.put (some d) u) w' m' o':=
 zPD (K:=Calls P fn) I (λ_ _ _ _ h k=>Calls.mono h k) hf hS hp γ η θ ε ι δ β Z ζ α hv hr J hd U W
end
end Go.Proofs.YtocolhfjpadaoaaGreatDoor
