/-
  Lemmas of this claim, joined.
-/
import Derived.Test.YtocolhfjpadaoaaGreatDoorR01
set_option linter.unusedVariables false
set_option linter.unusedSimpArgs false
set_option linter.constructorNameAsVariable false
namespace Go.Proofs.YtocolhfjpadaoaaGreatDoor
open Go
abbrev wV:=@Nat.eq_of_beq_eq_true
abbrev wZ:=@Nat.le_of_ble_eq_true
abbrev vE:=@List.take_of_length_le
abbrev vG:=@List.mem_cons_of_mem
abbrev vP:=@List.contains_eq_mem
abbrev vX:=@Bool.not_eq_true'
abbrev tL:=@Array.getElem?_replicate
abbrev tV:=@List.length_singleton
abbrev tW:=@Int.le_refl
abbrev sE:=@Nat.sub_self
abbrev sQ:=@Array.getElem?_eq_getElem
abbrev sW:=@List.map_append
end Go.Proofs.YtocolhfjpadaoaaGreatDoor
namespace Go.Proofs.YtocolhfjpadaoaaGreatDoor
open Go Go.RowKit
def takenF(P:Program)(tk:Bool)(M:Nat->A)(d:Nat)(t:TypeId)(x:Operand):Option Eff:=match tk with
 |false=>none
 |true=>match cpO M x,tyA P t with
  | .ref b off,some (false,_)=>match M b with
   | .box l=>match l[off]? with
    |some (.own E k u)=>if decide (b≠d)then some [(b,.box (l.set off (.d (.seq k u)))),(d,.t (.own E k u))]else none
    |_=>none
   |_=>none
  |_,_=>none
abbrev SL:=List (Nat×A)
def gt:SL->Nat->A
 |[],_=> .any
 |(s,x)::r,t=>bif Nat.beq t s then x else gt r t
theorem zR(L:SL)(d:Nat)(x:A):gt ((d,x)::L)=upd (gt L) d x:=by funext t;unfold upd;by_cases e:t=d;(subst e;have:Nat.beq t t=true:=Nat.beq_refl t;simp[gt,this]);((have h:Nat.beq t d=false:=by(cases hb:Nat.beq t d with|false=>rfl|true=>exact absurd (wV hb) e));simp[gt,h,e])
def setL(L:SL):Eff->SL
 |[]=>L
 |x::r=>setL (x::L) r
theorem zQe(L:SL)(e:Eff):gt (setL L e)=app (gt L) e:=by(induction e generalizing L with|nil=>rfl|cons x r u=>obtain⟨d,y⟩:=x;unfold setL app;rw[List.foldl_cons,u,zR];rfl)
def opF(P:Program)(pins:List Nat)(tk:Bool)(M:Nat->A)(d:Nat):Op->Option (Prop×Eff)
  | .move (.tmp s)=>match M s with
    | .t (.own E k l)=>if tk&&decide (s≠d)&& !pins.contains s then some (True,[(s,.t (.d (.seq k l))),(d,.t (.own E k l))])else some (True,[(d,.t (.d (.seq k l)))])
    |_=>(valF P M (.move (.tmp s))).map λy=>(True,[(d,y)])
  | .assign (.tmp s)=>match M s with
    | .t (.own E k l)=>if decide (s≠d)&& !pins.contains s then some (True,[(s,.t (.d (.seq k l))),(d,.t (.own E k l))])else some (True,[(d,.t (.d (.seq k l)))])
    |_=>(valF P M (.assign (.tmp s))).map λy=>(True,[(d,y)])
  | .box E x=>(zGs (cpO M x)).map λl=>(True,[(d,.box l)])
  | .alloc E=>match P.info? E with
    |some i=>match i.zero with
      |some z=>(zGs (litA z)).map λl=>(True,[(d,.box l)])
      |none=>none
    |none=>none
  | .buildSlice t n ⟨u⟩=>match elF P t with
    |some (e,sz,nb)=>match zT5 M sz 0 u with
      |some l=>if n=u.length/\0<u.length/\u.length*sz<=16777216 then some (True,[(d,.t (.own e sz l))])else none
      |none=>none
    |none=>none
  | .convert J I x=>match vO M x,P.underlying J,P.underlying I with
    |some (.string s),some .string,some (.slice e)=>match P.underlying e with
      |some (.int .u8)=>some (s.size<=maxLen,[(d,.t (.d (.seq 1 (qV s.data.toList))))])
      |_=>none
    |_,_,_=>match slD 1 (dO M x),P.underlying J,P.underlying I with
      |some l,some (.slice e),some .string=>match P.underlying e with
        |some (.int .u8)=>some (isB l,[(d,.t (.d (.lit (.string (strD l)))))])
        |_=>none
      |_,_,_=>(valF P M (.convert J I x)).map λy=>(True,[(d,y)])
  | .slice t x lo hi mx=>match bndO M lo,bndO M hi,bndO M mx,P.underlying t with
    |some l0,some Z,some m0,some (.slice e)=>match P.info? e with
      |some W=>match slD W.size (dO M x)with
        |some l=>some (zT8 l.length l0 Z m0,[(d,.t (.d (.seq W.size (cutL l l0 Z))))])
        |none=>none
      |none=>none
    |some l0,some Z,some none,some .string=>match vO M x,mx with
      |some (.string s),none=>some (0<=l0.getD 0/\l0.getD 0<=Z.getD s.size/\Z.getD s.size<=s.size,[(d,.t (.d (.lit (.string (s.extract (l0.getD 0).toNat (Z.getD s.size).toNat)))))])
      |_,_=>none
    |_,_,_,_=>none
  | .index t x i=>match vO M x,vO M i,P.underlying t with
    |some (.string s),some (.int _ n),some .string=>some (0<=n/\n<s.size,[(d,.t (.d (.lit (.int .u8 ((s.data.toList.getD n.toNat 0).toNat:Int)))))])
    |_,_,_=>none
  | .indexAddr t x i=>match vO M i,P.underlying t with
    |some (.int _ n),some (.slice e)=>match P.info? e with
      |some W=>match slD W.size (dO M x)with
        |some l=>some (0<=n/\n<l.length,[(d,.imm (l.getD n.toNat []))])
        |none=>none
      |none=>none
    |_,_=>(valF P M (.indexAddr t x i)).map λy=>(True,[(d,y)])
  | .call {callee:= .builtin .append,args:=⟨[x,y]⟩,argTypes:=⟨[t,t']⟩}=>if t=t' then match elF P t with
      |some (e,sz,nb)=>match slD sz (dO M y)with
        |some U=>match x with
          | .tmp s=>match M s with
            | .t (.own e' k l)=>if e'=e/\k=sz/\s≠d/\pins.contains s=false then some ((l.length+U.length)*nb<=140737488355328,[(s,.t (.d (.seq sz l))),(d,.t (.own e sz (l++U)))])else none
            | .t (.d (.lit (.slice none 0 0)))=>some (U.length*nb<=140737488355328,[(d,.t (.own e sz U))])
            |_=>none
          | .const (.slice none 0 0)=>some (U.length*nb<=140737488355328,[(d,.t (.own e sz U))])
          |_=>none
        |none=>none
      |none=>none
    else none
  | .build t ⟨u⟩=>(bdF P M t u).map λy=>(True,[(d,y)])
  | .load t x=>match takenF P tk M d t x with
    |some e=>some (True,e)
    |none=>(valF P M (.load t x)).map λy=>(True,[(d,y)])
  |op=>(valF P M op).map λy=>(True,[(d,y)])
section
variable {P:Program}{pins:List Nat}{N:Nat}{S M:Nat->A}
theorem Mk.get(u:Mk M S){s:Nat}{x:A}(h:M s=x)(hx:x≠ .any):S s=x:=by rcases u s with k|k;(all_goals grind)
theorem zPK{op:Oper}{d:Nat}(J:Mk M S)(hd:op.dst=some d)(I:okD N pins S d=true){C:Prop}{u:Eff}(h:(valF P M op.op).map (λy=>(True,[(d,y)]))=some (C,u)):OpOK P pins N op S (app S u):=by(cases hy:valF P M op.op with|none=>grind|some y=>rw[hy]at h;cases h;exact zOc J hd I hy)
theorem seq_val{d s k E:Nat}{l:List (List D)}{op:Oper}(J:Mk M S)(I:op.op= .move (.tmp s)\/op.op= .assign (.tmp s))(hd:op.dst=some d)(u:okD N pins S d=true)(hs:M s= .t (.own E k l)):OpOK P pins N op S (upd S d (.t (.d (.seq k l)))):=by refine zOc J hd u ?_;rcases I with e|e<;>(rw[e];simp[valF,cpO,hs,cpA,cpT])
theorem opF_ok{tk:Bool}{op:Oper}{d:Nat}(U:Mk M S)(hd:op.dst=some d)(J:okD N pins S d=true){C:Prop}{δ:Eff}(h:opF P pins tk M d op.op=some (C,δ))(W:C):OpOK P pins N op S (app S δ):=by generalize u:op.op=o at h;unfold opF at h;split at h;(rename_i s;split at h;(rename_i E k l hs;split at h;(rename_i Z;cases h;simp only[wI,decide_eq_true_eq,vX,vP,decide_eq_false_iff_not]at Z;exact ok_take (.inl u) hd J (U.get hs (by simp)) Z.1.2 Z.2);(cases h;exact seq_val U (.inl u) hd J hs));rw[<-u]at h;exact zPK U hd J h);(rename_i s;split at h;(rename_i E k l hs;split at h;(rename_i Z;cases h;simp only[wI,decide_eq_true_eq,vX,vP,decide_eq_false_iff_not]at Z;exact ok_take (.inr u) hd J (U.get hs (by simp)) Z.1 Z.2);(cases h;exact seq_val U (.inr u) hd J hs));rw[<-u]at h;exact zPK U hd J h);(rename_i E x;(cases hl:zGs (cpO M x)with|none=>grind|some l=>rw[hl]at h;cases h;exact ok_box U u hd J hl));(rename_i E;split at h;(case h_2=>cases h);rename_i i hi;split at h;(case h_2=>cases h);rename_i z hz;(cases hl:zGs (litA z)with|none=>grind|some l=>rw[hl]at h;cases h;exact ok_alloc u hd J hi hz hl));(rename_i t n α;split at h;(case h_2=>cases h);rename_i e sz nb hE;split at h;(case h_2=>cases h);rename_i l hl;split at h;(case isFalse=>cases h);rename_i Z;cases h;exact ok_bsl U u Z.1 hd J hE hl (uU.1 Z.2.1) Z.2.2);(rename_i θ η x;split at h;(rename_i s e h1 h2 h3;split at h;(rename_i h4;cases h;exact ok_str U u hd J h2 h3 h4 h1 W);cases h);(split at h;(rename_i l e h1 h2 h3;split at h;(rename_i h4;cases h;refine zL λw0 m0 o0 G a w m o hN I=> ?_;obtain⟨k1,k2,k3⟩:=zS J;refine⟨.string (strD l),w,m,o,?_,by rw[hd];exact I.set d _ _ (by omega) k2 (.lit _ rfl)⟩;unfold execOp;rw[u];simp only[wE];rw[cvB_run I.sat (zJS h1 λd hd=>zG2 U I hd) W h2 h4 h3];rfl);cases h);rw[<-u]at h;exact zPK U hd J h));(rename_i t x lo hi mx;split at h;(rename_i l0 h0 m0 e b1 b2 b3 hu;split at h;(case h_2=>cases h);rename_i ie ζ;split at h;(case h_2=>cases h);rename_i l hl;cases h;refine zL λw0 γ o0 G a w m o hN I=> ?_;obtain⟨k1,k2,k3⟩:=zS J;obtain⟨kl,e1⟩:=zGf U I b1;obtain⟨kh,e2⟩:=zGf U I b2;obtain⟨km,e3⟩:=zGf U I b3;obtain⟨v',hr,ε⟩:=cut_run (P:=P) I.sat hu ζ (zJS hl λd hd=>zG2 U I hd) W (kl:=kl) (kh:=kh) (km:=km);refine⟨v',w,m,o,?_,by rw[hd];exact I.set d _ _ (by omega) k2 ε⟩;unfold execOp;rw[u];simp only[wE];rw[e1,e2,e3,hr];rfl);(rename_i l0 h0 b1 b2 b3 hu;split at h;(rename_i s hs;cases h;refine zL λw0 γ o0 G a w m o hN I=> ?_;obtain⟨k1,k2,k3⟩:=zS J;obtain⟨kl,e1⟩:=zGf U I b1;obtain⟨kh,e2⟩:=zGf U I b2;have hr:=cutS_run (P:=P) (w:=w) hu s W.1 W.2.1 W.2.2 (kl:=kl) (kh:=kh);refine⟨_,w,m,o,?_,by rw[hd];exact I.set d _ _ (by omega) k2 (.lit (.string _) rfl)⟩;unfold execOp;rw[u];simp only[wE];rw[e1,e2,zCK U I hs];show Result.andThen (Sem.run P (Instr.sliceAt t (.string s) _ _ none) w) _=_;rw[hr];rfl);cases h);cases h);(rename_i t x i;split at h;(rename_i s k n h1 h2 h3;cases h;refine zL λw0 γ o0 G a w m o hN I=> ?_;obtain⟨k1,k2,k3⟩:=zS J;refine⟨_,w,m,o,?_,by rw[hd];exact I.set d _ _ (by omega) k2 (.lit (.int .u8 _) rfl)⟩;unfold execOp;rw[u];simp only[wE];rw[zCK U I h1,zCK U I h2,idxS_run h3 s W.1 W.2];rfl);cases h);(rename_i t x i;split at h;(rename_i kk n e h1 h2;split at h;(case h_2=>cases h);rename_i ie h3;split at h;(case h_2=>cases h);rename_i l h4;cases h;refine zOc U hd J ?_;rw[u];show ixF P M t x i=_;unfold ixF;grind);rw[<-u]at h;exact zPK U hd J h);(rename_i x y t t';split at h;(case isFalse=>cases h);rename_i e0;subst e0;split at h;(case h_2=>cases h);rename_i e sz nb hE;split at h;(case h_2=>cases h);rename_i l' β;split at h;(rename_i s;split at h;(rename_i e' k l hs;split at h;(case isFalse=>cases h);rename_i Z;obtain⟨rfl,rfl,h3,h4⟩:=Z;cases h;exact ok_app U u hd J hE hs h3 (by simpa using h4) β W);(rename_i hs;cases h;exact ok_app0 U u hd J hE (by simp[vO,dO,cpO,hs,cpA,cpT]) β W);cases h);(cases h;exact ok_app0 U u hd J hE rfl β W);cases h);(rename_i t α;(cases hy:bdF P M t α with|none=>grind|some y=>rw[hy]at h;cases h;exact ok_build U u hd J hy));(rename_i t x;split at h;(rename_i e he;cases h;unfold takenF at he;split at he;cases he;split at he;(rename_i b off n hx ht;split at he;(rename_i l hb;split at he;(rename_i E k ls hl;split at he;(rename_i Z;cases he;exact zSw U u ht hx (U.get hb (by simp)) hl (by simpa using Z) hd J);grind);grind);grind);grind);rw[<-u]at h;exact zPK U hd J h);rw[<-u]at h;exact zPK U hd J h
end
def san:A->A
 | .box l=> .box l
 | .free=> .free
 | .mp l=> .mp l
 | .rcd b u J I=> .rcd b u J I
 |_=> .any
def hx(S:Nat->A):Nat->A:=λt=>match S t with
 | .any=>if OB2<=t then(match S HK with| .hp f=>san (f (t-OB2))|_=> .any)else .any
 |x=>x
theorem zBq{S:Nat->A}{t:Nat}{x:A}(h:S t=x)(u:x≠ .any):hx S t=x:=by unfold hx;grind
theorem zDY{S:Nat->A}{t:Nat}(h:t<OB2):hx S t=S t:=by unfold hx;grind
theorem hx_ref {S : Nat → A} {t b off : Nat} (h : hx S t = .ref b off) : S t = .ref b off := by
  unfold hx at h
  cases hs : S t <;> rw [hs] at h <;> first
    | exact h
    | (simp only at h
       split at h
       · cases hk : S HK <;> rw [hk] at h <;> first
           | (cases h; done)
           | (rename_i f; simp only at h; cases hf : f (t - OB2) <;> rw [hf] at h <;> cases h)
       · cases h)
theorem Mk_hx(S:Nat->A):Mk S (hx S):=λt=>by cases hs:S t<;>first|exact .inl rfl|exact .inr (zBq hs (by simp)).symm
theorem Mk.hx{M S:Nat->A}(h:Mk M S):Mk M (hx S):=λt=>by rcases h t with e|e;exact .inl e;(rcases Mk_hx S t with e2|e2;exact .inl (e.trans e2);exact .inr (e.trans e2))
def A.stb:A->Bool
 | .any| .hp _=>false
 |_=>true
def zPy(S:Nat->A)(e:Eff):Prop:=∀x∈e,x.1<OB\/((S x.1).stb=true/\x.2.stb=true)
theorem zOX{S:Nat->A}{d:Nat}{x:A}(h:d<OB\/((S d).stb=true/\x.stb=true)):hx (upd S d x)=upd (hx S) d x:=by funext t;by_cases e:t=d;(subst e;rw[zT];rcases h with h|⟨I,u⟩;rw[zDY (by unfold OB at h;unfold OB2;omega),zT];exact zBq (zT _ _ _) (by intro e;rw[e]at u;cases u));(rw[zE e];(have hk:(match upd S d x HK with| .hp f=>san (f (t-OB2))|_=> .any)=(match S HK with| .hp f=>san (f (t-OB2))|_=>A.any):=by by_cases J:HK=d;(subst J;rw[zT];rcases h with h|⟨I,u⟩;unfold HK OB at h;omega;cases hs:S HK<;>rw[hs]at I<;>first|(cases I;done)|(cases x<;>first|rfl|cases u));rw[zE J]);unfold hx;rw[zE e,hk])
theorem hx_app{S:Nat->A}{e:Eff}(h:zPy S e):hx (app S e)=app (hx S) e:=by(induction e generalizing S with|nil=>rfl|cons x r U=>obtain⟨d,y⟩:=x;have u:=h (d,y) (by simp);show hx (app (upd S d y) r)=app (upd (hx S) d y) r;rw[U,zOX u];intro z hz;rcases h z (vG _ hz)with I|⟨I,J⟩;grind;(by_cases e:z.1=d;(rcases u with u|⟨_,u⟩;grind;exact .inr ⟨by rw[e,zT];exact u,J⟩);exact .inr ⟨by rw[zE e];exact I,J⟩))
theorem lt2{s:Nat}(h:s<OB):s<OB2:=by unfold OB at h;unfold OB2;omega
def Low(S:Nat->A):Prop:=∀t,OB2<=t->S t= .any
theorem Low.upd{S:Nat->A}(h:Low S){d:Nat}{x:A}(hd:d<OB2):Low (upd S d x):=λt ht=>by rw[zE (by omega)];exact h t ht
theorem Low.app{S:Nat->A}(h:Low S){e:Eff}(J:zPy S e):Low (app S e):=by(induction e generalizing S with|nil=>exact h|cons x r Z=>obtain⟨d,y⟩:=x;(have I:∀{s:Nat},s<OB\/((S s).stb=true/\y.stb=true)->s<OB2:=λ{s} hs=>by rcases hs with hs|⟨hs,_⟩;unfold OB at hs;unfold OB2;omega;(rcases wY s OB2 with h2|h2;exact h2;rw[h s h2]at hs;cases hs));have u:=I (J (d,y) (by simp));refine Z (S:=Go.Proofs.YtocolhfjpadaoaaGreatDoor.upd S d y) (h.upd u) λz hz=> ?_;rcases J z (vG _ hz)with h2|⟨h2,U⟩;exact .inl h2;(by_cases e:z.1=d;(rcases J (d,y) (by simp)with u|⟨_,u⟩;exact .inl (by rw[e];exact u);exact .inr ⟨by rw[e,zT];exact u,U⟩);exact .inr ⟨by rw[zE e];exact h2,U⟩))
def OpH(P:Program)(pins:List Nat)(N:Nat)(op:Oper)(S S':Nat->A):Prop:=N<=OB->Low S->OpOK P pins N op (hx S) (hx S')/\Low S'
section
variable {P:Program}{pins:List Nat}{N:Nat}{S M:Nat->A}{op:Oper}{e:Eff}{d:Nat}
theorem OpOK.lo{S S':Nat->A}(h:N<=OB->OpOK P pins N op S S'):OpOK P pins N op S S':=λw0 m0 o0 G a w m o u I=>h (by rw[<-u];exact I.wide) w0 m0 o0 G a w m o u I
theorem OpH.of(h:N<=OB->OpOK P pins N op (hx S) (app (hx S) e)/\zPy S e):OpH P pins N op S (app S e):=
 λJ hl=>by obtain⟨I,u⟩:=h J;rw[hx_app u];exact⟨I,hl.app u⟩
theorem qR(u:N<=OB)(h:okD N pins S d=true):okD N pins (hx S) d=true:=by have:=(zS h).1;unfold okD at h⊢;rw[zDY (by unfold OB at u;unfold OB2;omega)];exact h
theorem qG(u:N<=OB)(h:okD N pins S d=true):d<OB:=by have:=(zS h).1;omega
theorem zBz{x:A}(hd:d<OB):zPy S [(d,x)]:=λy hy=>by simp at hy;subst hy;exact .inl hd
theorem eff_2{s:Nat}{x z:A}(hs:(S s).stb=true)(hz:z.stb=true)(hd:d<OB):zPy S [(s,z),(d,x)]:=λy hy=>by simp at hy;rcases hy with rfl|rfl;exact .inr ⟨hs,hz⟩;exact .inl hd
theorem zPk{s:Nat}{x:A}(I:Mk M S)(h:M s=x)(u:x.stb=true):(S s).stb=true:=by rcases I s with e|e;rw[e]at h;subst h;cases u;grind
theorem opF_eff {tk : Bool} (U : Mk M S) (hd : d < OB) {o : Op} {C : Prop} {u : Eff} (h : opF P pins tk M d o = some (C, u)) : zPy S u := by
  have I : ∀ {α : Type} {z : Option α} {f : α → A}, (z.map fun y => (True, [(d, f y)])) = some (C, u) → zPy S u := by
    intro α z f hz
    cases z with
    | none => cases hz
    | some y => injection hz with hz; injection hz with _ hz; subst hz; exact zBz hd
  unfold opF takenF at h
  repeat' split at h
  all_goals first
    | (cases h; done)
    | exact I (f := id) h
    | exact I h
    | (injection h with h; injection h with _ h; subst h; exact zBz hd)
    | (injection h with h; injection h with _ h; subst h; exact eff_2 (zPk U (by assumption) rfl) rfl hd)
    | (rename_i J; repeat' split at J
       all_goals first
         | (cases J; done)
         | (injection h with h; injection h with _ h; injection J with J; subst h J; exact eff_2 (zPk U (by assumption) rfl) rfl hd))
theorem stF_eff {t : TypeId} {x y : Operand} (I : Mk M S) {u : Eff} (h : stF P pins M t x y = some u) : zPy S u := by
  unfold stF at h
  repeat' split at h
  all_goals first
    | (cases h; done)
    | (injection h with h; subst h
       intro z hz
       simp at hz
       first
         | (subst hz; exact .inr ⟨zPk I (by assumption) rfl, rfl⟩)
         | (rcases hz with rfl | rfl <;> exact .inr ⟨zPk I (by assumption) rfl, rfl⟩))
end
def St(w0:World)(m0:Mem)(o0:OwnM)(G:GD)(pins:List Nat)(N:Nat)(L:SL)(a:Act)(w:World):Prop:=
 a.tmps.size=N/\Low (gt L)/\∃m o,Inv w0 m0 o0 G pins (hx (gt L)) a w m o
def yes(ops:Array Oper)(op:Oper)(L:SL)(b:Bool):Prop:=match op.guard with
 |none=>b=true
 |some (j,u)=>∃t,(ops[j]?).bind (·.dst)=some t/\((∃c,gt L t= .t (.d (.lit (.bool c)))/\b=(c==u))\/(gt L t= .tup []/\b=false))
def OpY(P:Program)(pins:List Nat)(N:Nat)(op:Oper)(S S':Nat->A):Prop:=N<=OB->Low S->(∀(F:Fence) (n:Nat),zJK F->∀(w0:World) (m0:Mem) (o0:OwnM) (G:GD) (a:Act) (w:World) (m:Mem) (o:OwnM),a.tmps.size=N->Inv w0 m0 o0 G pins (hx S) a w m o->
 ∀(K:Act->World->Prop) (Q:Exit->Act->World->Prop),(∀u w' m' o',u.tmps.size=N->Inv w0 m0 o0 G pins (hx S') u w' m' o'->K u w')->op.wpIn F n P a w K Q)/\Low S'
theorem OpH.y{P:Program}{pins:List Nat}{N:Nat}{op:Oper}{S S':Nat->A}(h:OpH P pins N op S S'):OpY P pins N op S S':=λZ hl=>
 ⟨λF n hF w0 m0 o0 G a w m o J I K Q hK=>op_in hF ((h Z hl).1 w0 m0 o0 G a w m o J I _ _ λW w' m' o' u U=>⟨U.defers.trans I.defers.symm,hK W w' m' o' u U⟩),(h Z hl).2⟩
def zDp(P:Program)(pins:List Nat)(N:Nat)(ops:Array Oper)(Q:SL->Prop):List Oper->SL->Prop
 |[],L=>Q L
 |op::r,L=>∃b,yes ops op L b/\if b=true then∃L',OpY P pins N op (gt L) (gt L')/\zDp P pins N ops Q r L' else∃d,op.dst=some d/\okD N pins (gt L) d=true/\zDp P pins N ops Q r ((d,.tup [])::L)
section
variable {P:Program}{pins:List Nat}{N:Nat}{ops:Array Oper}{Q:SL->Prop}{r:List Oper}{op:Oper}{L:SL}
theorem ops_no{j t d:Nat}{c u:Bool}(U:op.guard=some (j,u))(ht:(ops[j]?).bind (·.dst)=some t)(Z:gt L t= .t (.d (.lit (.bool c))))(J:c≠u)(hd:op.dst=some d)(I:okD N pins (gt L) d=true)(k:zDp P pins N ops Q r ((d,.tup [])::L)):zDp P pins N ops Q (op::r) L:=
 ⟨false,by unfold yes;rw[U];exact⟨t,ht,.inl ⟨c,Z,by simp[J]⟩⟩,by rw[if_neg (by simp)];exact⟨d,hd,I,k⟩⟩
theorem ops_un{j t d:Nat}{u:Bool}(J:op.guard=some (j,u))(ht:(ops[j]?).bind (·.dst)=some t)(U:gt L t= .tup [])(hd:op.dst=some d)(I:okD N pins (gt L) d=true)(k:zDp P pins N ops Q r ((d,.tup [])::L)):zDp P pins N ops Q (op::r) L:=
 ⟨false,by unfold yes;rw[J];exact⟨t,ht,.inr ⟨U,rfl⟩⟩,by rw[if_neg (by simp)];exact⟨d,hd,I,k⟩⟩
end
section
variable {w0:World}{m0:Mem}{o0:OwnM}{G:GD}{pins:List Nat}{N:Nat}{P:Program}
theorem zPH{ops:Array Oper}{op:Oper}{L:SL}{b:Bool}{a:Act}{w:World}(hy:yes ops op L b)(hS:St w0 m0 o0 G pins N L a w):Region.wanted op (yielded ops a.tmps)=b:=by obtain⟨hN,α,m,o,I⟩:=hS;unfold yes at hy;unfold Region.wanted;split at hy;grind;(rename_i j Z hg;obtain⟨t,h1,⟨c,U,W⟩|⟨U,W⟩⟩:=hy;rotate_left;(have u:=I.slots t;rw[zBq U (by simp)]at u;obtain⟨vs,J,h6,_⟩:=u;(have h7:yielded ops a.tmps j=none:=by unfold yielded;rw[h1];rw[wM]at J;grind);grind);rw[hg,W];have u:=I.slots t;rw[zBq U (by simp)]at u;(have J:a.tmps.getD t undef= .bool c:=by have u:RepD m (.lit (.bool c)) (a.tmps.getD t undef):=u;generalize a.tmps.getD t undef=v at u;cases u;rfl);(have h6:a.tmps[t]? =some (.bool c):=by rw[wM]at J;(cases hq:a.tmps[t]? with|none=>rw[hq]at J;cases J|some q=>grind));(have h7:yielded ops a.tmps j=some c:=by unfold yielded;grind);grind)
theorem ops_sound{F:Fence}{n:Nat}(hF:zJK F){ops:Array Oper}{Q:SL->Prop}{R:Exit->Act->World->Prop}(hQ:∀L a w,Q L->St w0 m0 o0 G pins N L a w->R .normal a w):∀(l:List Oper) (L:SL) (a:Act) (w:World),zDp P pins N ops Q l L->St w0 m0 o0 G pins N L a w->wpListIn F n P ops R l a w:=by intro l;(induction l with|nil=>intro L a w h hS;exact hQ L a w h hS|cons op r ih=>intro L a w h hS;obtain⟨b,hy,hb⟩:=h;refine wpListIn_step λK hK=> ?_;rw[zPH hy hS];(cases b with|true=>rw[if_pos rfl]at hb⊢;obtain⟨L',Z,hr⟩:=hb;obtain⟨hN,U,m,o,I⟩:=hS;obtain⟨Z,W⟩:=Z (by rw[<-hN];exact I.wide) U;exact Z F n hF w0 m0 o0 G a w m o hN I _ _ λa' w' m' o' α I'=>hK _ _ (ih L' a' w' hr ⟨α,W,m',o',I'⟩)|false=>rw[if_neg (by simp)]at hb⊢;obtain⟨d,hd,u,hr⟩:=hb;obtain⟨hN,U,m,o,I⟩:=hS;(have J:N<=OB:=by rw[<-hN];exact I.wide);obtain⟨h1,h2,h3⟩:=zS (qR J u);refine⟨λf _=>hF.fn f,hK _ _ (ih _ _ w hr ⟨by rw[zCW,hN],by rw[zR];exact U.upd (by have:=qG J u;unfold OB at this;unfold OB2;omega),m,o,?_⟩)⟩;rw[hd,zR,zOX (.inl (qG J u))];exact I.set d (.tup []) undef (by omega) h2 ⟨#[],rfl,rfl,λj x h=>by simp at h⟩))
def DK:Nat:=4398046511104
def StX(e:Exit)(w0:World)(m0:Mem)(o0:OwnM)(G:GD)(pins:List Nat)(N:Nat)(L:SL)(a:Act)(w:World):Prop:=match e with
 | .ret=>St w0 m0 o0 G pins N L a w\/DK∈pins/\∃D,a.defers={target:= .collected D,args:= #[]}::G.ds/\w.heap[D]? =some (.deferred (some []))/\w0.heap.size<=D/\a.tmps.size=N/\Low (gt L)/\∃m o,o D=none/\Inv w0 m0 o0 ⟨G.p,a.defers⟩ pins (hx (gt L)) a w m o
 |_=>St w0 m0 o0 G pins N L a w
theorem box_lt:∀(args:List A) (i s:Nat),s∈zEw i args->s<i+args.length
 |[],i,s,h=>by cases h
 |x::r,i,s,h=>by(have u:s∈zEw (i+1) r->s<i+(x::r).length:=λh=>by have:=box_lt r (i+1) s h;grind);(cases x with|box l=>rcases vL.1 h with rfl|h;(all_goals grind)|_=>exact u h)
theorem box_nodk(args:List A)(h:args.length<=OB):DK∉zEw 0 args:=λu=>by have:=box_lt args 0 DK u;unfold DK at this;unfold OB at h;omega
theorem StX.st{e:Exit}{w0:World}{m0:Mem}{o0:OwnM}{G:GD}{pins:List Nat}{N:Nat}{L:SL}{a:Act}{w:World}(h:StX e w0 m0 o0 G pins N L a w)(hp:DK∉pins):St w0 m0 o0 G pins N L a w:=by(cases e with|ret=>exact h.resolve_right λh=>hp h.1|_=>exact h)
structure WideP(pins:List Nat)(F:Fence):Prop where
 w:zJK F
 out:DK∈pins->F=Fence.wide
def qK(P:Program)(pins:List Nat)(N:Nat)(c:Code)(Q:Exit->SL->Prop)(L:SL):Prop:=
 ∀(u:Fence) (J:Nat),WideP pins u->∀(w0:World) (m0:Mem) (o0:OwnM) (G:GD) (a:Act) (w:World),St w0 m0 o0 G pins N L a w->c.wpIn u J P (λe I w'=>∃L',Q e L'/\StX e w0 m0 o0 G pins N L' I w') a w
def zIx(K:SL->Prop)(Q:Exit->SL->Prop):Exit->SL->Prop
 | .normal,L=>K L
 |e,L=>Q e L
def zKb(id:Nat)(Q:Exit->SL->Prop):Exit->SL->Prop
 | .exit u,L=>if u=id then Q .normal L else Q (.exit u) L
 |e,L=>Q e L
variable {Q:Exit->SL->Prop}{L:SL}
theorem zOv{x y:Code}(h:qK P pins N x (zIx (qK P pins N y Q) Q) L):qK P pins N (.seq x y) Q L:=by intro J I U w0 m0 o0 G a w W;refine wpIn_seq (wpIn_mono (h J I U w0 m0 o0 G a w W) ?_);rintro e Z w' ⟨L',hq,u⟩;cases e<;>first|exact hq J I U w0 m0 o0 G Z w' u|exact⟨L',hq,u⟩
theorem zNk{id:Nat}{l:List Oper}(h:zDp P pins N l.toArray (Q .normal) l L):qK P pins N (.region id l.toArray false) Q L:=by intro J U I w0 m0 o0 G a w u;exact wpIn_region_lit (ops_sound I.w (λL a w hq u=>⟨L,hq,u⟩) l L a w h u)
theorem c_ret(h:Q .ret L):qK P pins N .ret Q L:=λI J U w0 m0 o0 G a w u=>wpIn_ret ⟨L,h,.inl u⟩
theorem c_skip(h:Q .normal L):qK P pins N .skip Q L:=λI J U w0 m0 o0 G a w u=>wpIn_skip ⟨L,h,u⟩
theorem c_exit{id:Nat}(h:Q (.exit id) L):qK P pins N (.exit id) Q L:=λI J U w0 m0 o0 G a w u=>wpIn_exit ⟨L,h,u⟩
theorem c_block{id:Nat}{c:Code}(h:qK P pins N c (zKb id Q) L):qK P pins N (.block id c) Q L:=by intro Z U W w0 m0 o0 G a w J;refine wpIn_block (wpIn_mono (h Z U W w0 m0 o0 G a w J) ?_);rintro e a' w' ⟨L',hq,u⟩;(cases e with|exit I=>simp only[zKb]at hq;by_cases e:I=id;(rw[if_pos e]at hq;simp only[Exit.inBlock];rw[if_pos e];exact⟨L',hq,u⟩);(rw[if_neg e]at hq;simp only[Exit.inBlock];grind)|_=>exact⟨L',hq,u⟩)
theorem c_cond{c:Nat}{x y:Code}{b:Bool}(hc:gt L c= .t (.d (.lit (.bool b))))(hx:b=true->qK P pins N x Q L)(hy:b=false->qK P pins N y Q L):qK P pins N (.cond (.tmp c) x y) Q L:=by intro W U hF w0 m0 o0 G a w Z;have u:=Z;obtain⟨hN,α,m,o,I⟩:=Z;have J:=I.slots c;rw[zBq hc (by simp)]at J;(have h5:a.eval (.tmp c)= .bool b:=by have J:RepD m (.lit (.bool b)) (a.tmps.getD c undef):=J;show a.tmps.getD c undef=_;generalize a.tmps.getD c undef=v at J;cases J;rfl);exact wpIn_cond_split h5 (λh=>hx h W U hF w0 m0 o0 G a w u) (λh=>hy h W U hF w0 m0 o0 G a w u)
theorem c_loopR{c:Code}(R:Nat->SL->Prop)(n0:Nat)(h0:R n0 L)(u:∀n L,R n L->qK P pins N c (zIx (λL'=>∃J U,J<n/\R J U/\∀w0 m0 o0 G a w,St w0 m0 o0 G pins N L' a w->St w0 m0 o0 G pins N U a w) Q) L):qK P pins N (.loop c) Q L:=by intro Fe ne hF w0 m0 o0 G a w Z;(have α:∀k n L a w,n<=k->R n L->St w0 m0 o0 G pins N L a w->Code.roundsIn Fe ne P c (λe W w'=>∃L',Q e L'/\StX e w0 m0 o0 G pins N L' W w') (k+1) a w:=by intro k;(induction k with|zero=>intro n L a w hn hR Z;refine wpIn_mono (u n L hR Fe ne hF w0 m0 o0 G a w Z) ?_;rintro e W w' ⟨L',hq,I⟩;(cases e with|normal=>obtain⟨J,U,β,_⟩:=hq;omega|_=>exact⟨L',hq,I⟩)|succ k ih=>intro n L a w hn hR Z;refine wpIn_mono (u n L hR Fe ne hF w0 m0 o0 G a w Z) ?_;rintro e W w' ⟨L',hq,I⟩;(cases e with|normal=>obtain⟨J,U,β,γ,hw⟩:=hq;exact ih J U W w' (by omega) γ (hw _ _ _ _ _ _ I)|_=>exact⟨L',hq,I⟩)));exact wpIn_loop_rounds _ (α n0 n0 L a w (wJ _) h0 Z)
def zCr:Nat->List A->SL
 |_,[]=>[]
 |i,x::r=>(i,x)::zCr (i+1) r
theorem zMB:∀(args:List A) (i s:Nat),gt (zCr i args) s=if i<=s then argS args (s-i)else .any
 |[],i,s=>by unfold zCr gt argS;grind
 |x::r,i,s=>by unfold zCr;rw[zR,upd,zMB r (i+1) s];by_cases h:s=i;(subst h;simp[argS]);(by_cases u:i<=s;(rw[if_neg h,if_pos (by omega),if_pos u];unfold argS;grind);grind)
def resT(P:Program)(S:Nat->A):ResultVar->Option T
 | .tmp t=>match S t with| .t x=>some (cpT x)| .ref b off=>if OB<=b then some (.ptr (b-OB) off)else none|_=>none
 | .cell b t=>match S b,tyA P t with| .box l,some (true,n)=>if n=l.length/\noPt l=true/\b<OB then some (.agg (l.map toD))else none| .box l,some (false,_)=>if b<OB then(l[0]?).map cpT else none|_,_=>none
def resA(P:Program)(S:Nat->A):List ResultVar->Option A
 |[.tmp t]=>some (S t)
 |[r]=>(resT P S r).map .t
 |rs=>(rs.mapM (resT P S)).map .tup
def resS(u:Array Value):ResultVar->Sem Value
 | .tmp t=>pure (u.getD t undef)
 | .cell b t=>do loadVar t (<-asAddr (u.getD b undef))
theorem zPs{S:Nat->A}{a:Act}{w:World}{m0 m:Mem}{o0 o:OwnM}{w0:World}{G:GD}{pins:List Nat}(I:Inv w0 m0 o0 G pins S a w m o){r:ResultVar}{x:T}(h:resT P S r=some x)(loc:Nat×Nat):
 ∃v,(resS a.tmps r).run P w= .ok v w/\RepT m w o loc x v:=by
 cases r with
  |tmp t=>
   unfold resT at h
   simp only at h
   have hs:=I.slots t
   split at h
   · rename_i y hy;cases h;rw[hy]at hs;exact⟨_,rfl,zFb I.sat hs⟩
   · rename_i b off hy;split at h;(case isFalse=>cases h);rename_i hb;cases h;rw[hy]at hs;obtain⟨g,Z,J,_⟩:=hs;exact⟨_,rfl,g,by rw[show OB+(b-OB)=b by omega];exact Z,J⟩
   · cases h
  |cell b t=>
   have W:∀l,S b= .box l->b<OB->cpO S (.tmp b)= .ref b 0:=by intro l hb u;unfold cpO;simp only[hb];rw[show Nat.blt b OB=true by simpa using u];rfl
   unfold resT at h
   simp only at h
   have hs:=I.slots b
   split at h
   · rename_i l n hb ht;split at h;(rename_i hn;obtain⟨hn,hpt,u⟩:=hn;injection h with h;subst h hn;(have U:ldF P S t (.tmp b)=some (.t (.agg (l.map toD))):=by unfold ldF;grind);obtain⟨v,Z,J⟩:=zR9 (P:=P) (Mk.refl S) I U loc.1;rw[hb]at hs;obtain⟨g,hv,_⟩:=hs;have hv:=hv u;have J:RepT m w o (loc.1,0) (.agg (l.map toD)) v:=J;refine⟨v,?_,J⟩;rw[show a.eval (.tmp b)=_ from hv]at Z;simp only[resS,hv,asAddr,wE,wU,wD];simpa[Instr.loadAt,Instr.sureAddr]using Z);cases h
   · rename_i l n hb ht;split at h;(case isFalse=>cases h);rename_i u;(cases hd:l[0]? with|none=>grind|some z=>rw[hd]at h;cases h;(have U:ldF P S t (.tmp b)=some (norA z):=by unfold ldF;grind);obtain⟨v,Z,J⟩:=zR9 (P:=P) (Mk.refl S) I U loc.1;rw[hb]at hs;obtain⟨g,hv,_⟩:=hs;have hv:=hv u;refine⟨v,?_,?_⟩;(rw[show a.eval (.tmp b)=_ from hv]at Z;simp only[resS,hv,asAddr,wE,wU,wD];simpa[Instr.loadAt,Instr.sureAddr]using Z);(cases z with|ptr j off=>obtain⟨g',k1,k2,_⟩:=J;exact⟨g',k1,k2⟩|_=>exact J))
   · cases h
theorem zQV{S:Nat->A}{a:Act}{w:World}{m0 m:Mem}{o0 o:OwnM}{w0:World}{G:GD}{pins:List Nat}(I:Inv w0 m0 o0 G pins S a w m o)(ρ:Nat):∀(rs:List ResultVar) (l:List T) (n:Nat),rs.mapM (resT P S)=some l->
 ∃J:List Value,(rs.mapM (resS a.tmps)).run P w= .ok J w/\J.length=l.length/\l.length=rs.length/\∀(j:Nat) (x:T),l[j]? =some x->∃u,J[j]? =some u/\RepT m w o (ρ,n+j) x u
 |[],l,n,h=>by simp at h;subst h;exact⟨[],rfl,rfl,rfl,λj x U=>by simp at U⟩
 |r::rs,l,n,h=>by simp only[List.mapM_cons,Option.bind_eq_bind,Option.pure_def]at h;(cases W:resT P S r with|none=>grind|some x=>(cases Z:rs.mapM (resT P S)with|none=>grind|some t=>rw[W,Z]at h;cases h;obtain⟨v,h3,h4⟩:=zPs (P:=P) I W (ρ,n);obtain⟨J,h5,h6,h8,h7⟩:=zQV I ρ rs t (n+1) Z;refine⟨v::J,?_,by simp[h6],by simp[h8],λj y U=> ?_⟩;(rw[List.mapM_cons,wE];rw[h3,wD,wE,h5,wD];rfl);grind))
theorem resT_hx{S:Nat->A}{r:ResultVar}{x:T}(h:resT P S r=some x):resT P (hx S) r=some x:=by
 cases r with
 |tmp t=>
  unfold resT at h⊢
  simp only at h⊢
  cases hs:S t<;>rw[hs]at h<;>first|(cases h;done)|(rw[zBq hs (by simp)];exact h)
 |cell b t=>
  unfold resT at h⊢
  simp only at h⊢
  cases hs:S b<;>rw[hs]at h<;>first|(split at h<;>first|(cases h;done)|(rename_i e _;cases e;done))|(rw[zBq hs (by simp)];exact h)
theorem zTo{S:Nat->A}:∀(rs:List ResultVar) (l:List T),rs.mapM (resT P S)=some l->rs.mapM (resT P (hx S))=some l
 |[],l,h=>h
 |r::rs,l,h=>by simp only[List.mapM_cons,Option.bind_eq_bind,Option.pure_def]at h⊢;(cases u:resT P S r with|none=>grind|some x=>(cases I:rs.mapM (resT P S)with|none=>grind|some t=>rw[resT_hx u,zTo rs t I];grind))
theorem zSQ{S:Nat->A}{rs:List ResultVar}{y:A}(h:resA P S rs=some y):∃y',resA P (hx S) rs=some y'/\(y'=y\/y= .any):=by
 unfold resA at h⊢
 split at h
 ·
  rename_i t
  injection h with h
  refine⟨hx S t,rfl,?_⟩
  rcases Mk_hx S t with e|e
  all_goals grind
 ·
  rename_i r _
  cases hx:resT P S r with
  |none=>grind
  |some x=>rw[hx]at h;exact⟨y,by simp only[resT_hx hx];exact h,.inl rfl⟩
 ·
  cases hx:rs.mapM (resT P S)with
  |none=>grind
  |some l=>rw[hx]at h;exact⟨y,by simp only[zTo rs l hx];exact h,.inl rfl⟩
theorem fresh_nat(l:List Nat):∃z:Nat,z∉l:=by(have:∃z,∀x∈l,x<z:=by(induction l with|nil=>exact⟨0,λx h=>by cases h⟩|cons y r u=>obtain⟨z,hz⟩:=u;refine⟨max z (y+1),λx hx=> ?_⟩;grind));obtain⟨z,hz⟩:=this;exact⟨z,λh=>absurd (hz z h) (by omega)⟩
theorem resA_run{S:Nat->A}{a:Act}{w:World}{m0 m:Mem}{o0 o:OwnM}{w0:World}{G:GD}{pins:List Nat}(I:Inv w0 m0 o0 G pins S a w m o){fn:Func}{rs:List ResultVar}(J:fn.results=rs.toArray){y:A}(h:resA P S rs=some y)(outs:List Nat)(U:∀t,rs=[.tmp t]->t∉outs):
 ∃v ρ,(results fn a.tmps).run P w= .ok v w/\RepA m w o S ρ y v/\ρ∉outs:=by
 obtain⟨z,hz⟩:∃z:Nat,z∉outs:=fresh_nat outs
 have Z:∀l,rs.mapM (resT P S)=some l->rs.length≠1->∃v ρ,(results fn a.tmps).run P w= .ok v w/\RepA m w o S ρ (.tup l) v/\ρ∉outs:=by intro l hl α;obtain⟨u,h5,h6,h8,h7⟩:=zQV (P:=P) I z rs l 1 hl;(have W:u.length≠1:=by omega);refine⟨.tuple u.toArray,z,?_,⟨u.toArray,rfl,by simpa using h6,λj x hj=> ?_⟩,hz⟩;(show(do let u<-fn.results.mapM (resS a.tmps);pure (if h:u.size=1 then u[0]else .tuple u):Sem Value).run P w=_;rw[J,wE,List.mapM_toArray,Sem.run_map,h5,wD,wD,wU];grind);grind
 have one:∀r x,rs=[r]->resT P S r=some x->∃v ρ,(results fn a.tmps).run P w= .ok v w/\RepA m w o S ρ (.t x) v/\ρ∉outs:=by intro r x e hx;subst e;obtain⟨v,h3,h4⟩:=zPs (P:=P) I hx (z,0);refine⟨v,z,?_,h4,hz⟩;show(do let u<-fn.results.mapM (resS a.tmps);pure (if h:u.size=1 then u[0]else .tuple u):Sem Value).run P w=_;rw[J,wE,List.mapM_toArray,Sem.run_map,List.mapM_cons,wE,h3];simp
 unfold resA at h
 split at h
 · rename_i t;cases h;exact⟨_,t,results_tmp J _ _ _,I.slots t,U t rfl⟩
 · rename_i r _;(cases hx:resT P S r with|none=>grind|some x=>grind)
 · rename_i h1 h2;(cases hx:rs.mapM (resT P S)with|none=>grind|some l=>rw[hx]at h;cases h;refine Z l hx λe=> ?_;(match rs,e with|[r],_=>grind))
def frL:List Nat->SL
 |[]=>[]
 |j::r=>(OB+j,.free)::frL r
def zLW(fr:List Nat)(args:List A):SL:=frL fr++zCr 0 args
theorem zOO(fr:List Nat)(args:List A)(s:Nat):gt (zLW fr args) s=argS args s\/(OB<=s/\gt (zLW fr args) s= .free):=by unfold zLW;(induction fr with|nil=>refine .inl ?_;show gt (zCr 0 args) s=_;rw[zMB];simp|cons j r u=>show gt ((OB+j,.free)::(frL r++zCr 0 args)) s=_\/(_/\gt ((OB+j,.free)::(frL r++zCr 0 args)) s=_);rw[zR,upd];by_cases h:s=OB+j;rw[if_pos h];exact .inr ⟨by omega,rfl⟩;rw[if_neg h];exact u)
def endQ(P:Program)(rs:List ResultVar)(outs:List (Nat×List T))(r:A):Exit->SL->Prop
 | .normal,L| .ret,L=>(∃y,resA P (gt L) rs=some y/\WkA y r)/\∀x∈outs,gt L x.1= .box x.2
 |_,_=>False
theorem zPf{fr:List Nat}{args:List A}{n:Nat}(hn:args.length<=n)(I:n<=OB)(u:fr.all (λj=>Nat.blt j OB)=true):Low (gt (zLW fr args)):=by intro t ht;unfold zLW;(induction fr with|nil=>show gt (zCr 0 args) t=_;rw[zMB,if_pos (uF _)];unfold argS;rw[wK,uI (by unfold OB2 at ht;unfold OB at I;omega)];rfl|cons j r J=>simp only[uV,wI]at u;show gt ((OB+j,.free)::(frL r++zCr 0 args)) t=_;(have U:j<OB:=by simpa using u.1);rw[zR,zE (by unfold OB at*;unfold OB2 at ht;omega)];exact J u.2)
theorem hx_none{S:Nat->A}(h:∀f,S HK≠ .hp f):hx S=S:=by
 funext t
 unfold hx
 grind
def Ends(P:Program)(w:World)(m:Mem)(o:OwnM)(fn:Func)(pins:List Nat)(outs:List (Nat×List T))(r:A)(I:Act)(w':World):Prop:=
 I.defers=[]/\∃v,(results fn I.tmps).run P w'= .ok v w'/\∃(u:Value) (m':Mem) (o':OwnM) (J:Nat->A) (I:Act) (ρ:Nat),Ending.returned v= .returned u/\Inv w m o ⟨λg=>o g≠none,[]⟩ pins J I w' m' o'/\RepA m' w' o' J ρ r u/\∀i l,(i,l)∈outs->J i= .box l/\i≠ρ
theorem fc_ofQ{f:FuncId}{fn:Func}{c:Code}{args:List A}{outs:List (Nat×List T)}{r:A}{Q:Exit->SL->Prop}(hf:P.funcs[f]? =some fn)(hb:fn.body=some c)(hn:args.length<=fn.ntmps)(hw:fn.ntmps<=OB)(fr:List Nat)(ζ:fr.all (λj=>Nat.blt j OB)=true)(hc:qK P (zEw 0 args) fn.ntmps c Q (zLW fr args))
    (hq:∀(w:World) (m:Mem) (o:OwnM) (e:Exit) (L:SL) (W:Act) (w':World) (m':Mem) (o':OwnM),Q e L->W.tmps.size=fn.ntmps->Inv w m o ⟨λg=>o g≠none,[]⟩ (zEw 0 args) (hx (gt L)) W w' m' o'->(e= .normal\/e= .ret)/\Ends P w m o fn (zEw 0 args) outs r W w'):FC P f args outs r:=by
  intro w m o u β γ U Z α δ
  refine calls_of_wp hf hb (wpIn_wide.1 (wpIn_mono (hc Fence.wide 0 ⟨.wide,λ_=>rfl⟩ w m o ⟨λg=>o g≠none,[]⟩ _ w ⟨?_,?_,m,o,?_⟩) ?_))
  · simp[α];omega
  · exact zPf hn hw ζ
  · refine⟨Same.refl _ _,β,Mle.refl _,λ_ _ _=>rfl,λg l h=> .inl (by show o g≠none;rw[h];simp),λg l h=>(U g l h).1,Z,λs hs g hg=>hg,λs=> ?_,rfl,γ,by simp[α];omega,λg j h=>absurd (U g _ h).2 (by show¬OB+j<OB;omega)⟩
    have ε:(u++Array.replicate (fn.ntmps-u.size) undef).getD s undef=u.getD s undef:=by
      simp only[wM,Array.getElem?_append,tL]
      by_cases h:s<u.size
      · simp[h]
      · rw[if_neg h,uE (by omega)]
        split<;>rfl
    rw[hx_none λf J=> ?hk]
    case hk=>
      rcases zOO fr args HK with e|⟨_,e⟩
      · rw[e]at J
        unfold argS at J
        rw[wK,uI (by unfold HK;unfold OB at hw;omega)]at J
        cases J
      · rw[e]at J;cases J
    show RepA m w o (gt (zLW fr args)) s (gt (zLW fr args) s) ((u++Array.replicate (fn.ntmps-u.size) undef).getD s undef)
    rw[ε]
    rcases zOO fr args s with e|⟨e1,e2⟩
    · rw[e]
      have h:=δ s
      cases hx:argS args s with
      |ref b off=>
        rw[hx]at h
        obtain⟨g,h1,h2,h3⟩:=h
        refine⟨g,h1,h2,λhb=> ?_⟩
        rcases zOO fr args b with e|⟨e1,_⟩
        · rw[e];exact h3 hb
        · omega
      |_=>rw[hx]at h;exact h
    · rw[e2]
      intro g k hg
      have:=(U g _ hg).2
      omega
  · rintro e W w' ⟨L',η,hS⟩
    obtain⟨hN,_,m',o',I⟩:=hS.st (box_nodk args (by omega))
    obtain⟨J,hE⟩:=hq w m o e L' W w' m' o' η hN I
    rcases J with rfl|rfl<;>exact hE
theorem fc_of{f:FuncId}{fn:Func}{c:Code}{args:List A}{rs:List ResultVar}{outs:List (Nat×List T)}{r:A}(hf:P.funcs[f]? =some fn)(hb:fn.body=some c)(hn:args.length<=fn.ntmps)(J:fn.results=rs.toArray)(u:(match rs with|[.tmp t]=>outs.all λx=>x.1 !=t|_=>true)=true)(U:fn.ntmps<=OB)(fr:List Nat)(Z:fr.all (λj=>Nat.blt j OB)=true)(hc:qK P (zEw 0 args) fn.ntmps c (endQ P rs outs r) (zLW fr args)):FC P f args outs r:=
 fc_ofQ hf hb hn U fr Z hc λw m o e L' a' w' m' o' hq hN I=>by(have fin:((∃y,resA P (gt L') rs=some y/\WkA y r)/\∀x∈outs,gt L' x.1= .box x.2)->Ends P w m o fn (zEw 0 args) outs r a' w':=by rintro⟨⟨y,hy,U⟩,ho⟩;obtain⟨y',α,W⟩:=zSQ hy;obtain⟨v,ρ,h1,h2,h3⟩:=resA_run (P:=P) I J α (outs.map (·.1)) (λt ht hm=>by subst ht;obtain⟨x,hx,rfl⟩:=vQ.1 hm;have:=wG.1 u x hx;simp at this);exact⟨I.defers,v,h1,v,m',o',hx (gt L'),a',ρ,rfl,I,U.rep I.sat (by rcases W with rfl|rfl;exact h2;exact trivial),λi l h=>⟨zBq (ho (i,l) h) (by simp),λe=>h3 (by rw[<-e];exact vQ.2 ⟨(i,l),h,rfl⟩)⟩⟩);cases e<;>first|exact⟨.inl rfl,fin hq⟩|exact⟨.inr rfl,fin hq⟩|exact hq.elim
end
def wants(d:Nat):List Oper->Bool
 |[]=>false
 |op::r=>(match op.op with| .call {callee:= .builtin .append,args:=⟨[.tmp s,_]⟩,..}=>s==d|_=>false)||wants d r
def frcN{R:Sort _}:List Nat->Nat->(Nat->R)->R
 |[],k,K=>K k
 |n::r,k,K=>bif Nat.beq k n then K n else frcN r k K
theorem frcN_eq{R:Sort _}(k:Nat)(K:Nat->R):∀l,frcN l k K=K k
 |[]=>rfl
 |n::r=>by unfold frcN;(cases h:Nat.beq k n with|true=>rw[wV h];rfl|false=>exact frcN_eq k K r)
def frcK{R:Sort _}(k:Nat)(K:Nat->R):R:=frcN [0,1,2,3,4,5,6,7,8,9,10,11,12,13,14,15,16,17,18,19,20,21,22,23,24] k K
theorem zSS{R:Sort _}(k:Nat)(K:Nat->R):frcK k K=K k:=frcN_eq k K _
def frcD{R:Sort _}(b:Bool)(x:D)(K:D->R):R:=match b with
 |false=>K x
 |true=>match x with| .lit v=>K (.lit v)| .seq k l=>frcK k λk=>K (.seq k l)| .clo f l=>K (.clo f l)
theorem frcD_eq{R:Sort _}(b:Bool)(x:D)(K:D->R):frcD b x K=K x:=by cases b<;>cases x<;>simp[frcD,zSS]
def frcDs{R:Sort _}(b:Bool):List D->(List D->R)->R
 |[],K=>K []
 |x::r,K=>frcD b x λx=>frcDs b r λr=>K (x::r)
theorem zQN{R:Sort _}(b:Bool):∀(l:List D) (K:List D->R),frcDs b l K=K l
 |[],_=>rfl
 |x::r,K=>by unfold frcDs;rw[frcD_eq,zQN]
def frcT{R:Sort _}(b:Bool):T->(T->R)->R
 | .d x,K=>frcD b x λx=>K (.d x)
 | .agg l,K=>frcDs b l λl=>K (.agg l)
 | .own E k l,K=>frcK k λk=>K (.own E k l)
 |x,K=>K x
theorem frcT_eq{R:Sort _}(b:Bool)(x:T)(K:T->R):frcT b x K=K x:=by cases x<;>simp[frcT,frcD_eq,zQN,zSS]
def zQ3{R:Sort _}(b:Bool):List T->(List T->R)->R
 |[],K=>K []
 |x::r,K=>frcT b x λx=>zQ3 b r λr=>K (x::r)
theorem zTq{R:Sort _}(b:Bool):∀(l:List T) (K:List T->R),zQ3 b l K=K l
 |[],_=>rfl
 |x::r,K=>by unfold zQ3;rw[frcT_eq,zTq]
def frcA{R:Sort _}(b:Bool):A->(A->R)->R
 | .t x,K=>frcT b x λx=>K (.t x)
 | .tup l,K=>zQ3 b l λl=>K (.tup l)
 | .imm l,K=>frcDs b l λl=>K (.imm l)
 | .box l,K=>zQ3 b l λl=>K (.box l)
 | .ref s off,K=>frcK off λoff=>K (.ref s off)
 | .free,K=>K .free
 | .hp f,K=>K (.hp f)
 | .mp l,K=>K (.mp l)
 | .cl f l,K=>K (.cl f l)
 | .ck f l,K=>K (.ck f l)
 | .imt l,K=>zQ3 b l λl=>K (.imt l)
 | .rcd g u J I,K=>K (.rcd g u J I)
 | .ag l,K=>zQ3 b l λl=>K (.ag l)
 | .lst l,K=>zQ3 b l λl=>K (.lst l)
 | .fr E k,K=>K (.fr E k)
 | .any,K=>K .any
theorem frcA_eq{R:Sort _}(b:Bool)(x:A)(K:A->R):frcA b x K=K x:=by cases x<;>simp[frcA,frcT_eq,zTq,zQN,zSS]
section
variable {P:Program}{pins:List Nat}{N:Nat}{ops:Array Oper}{Q:SL->Prop}{r:List Oper}{op:Oper}{L L':SL}
theorem o_no{d j t:Nat}{c u:Bool}(Z:op.guard=some (j,u))(ht:(ops[j]?).bind (·.dst)=some t)(U:gt L t= .t (.d (.lit (.bool c))))(J:c= !u)(hd:op.dst=some d)(I:okD N pins (gt L) d=true)(W:(d,.tup [])::L=L')(k:zDp P pins N ops Q r L'):zDp P pins N ops Q (op::r) L:=by subst W;exact ops_no Z ht U (by rw[J];cases u<;>simp) hd I k
theorem o_nil(h:Q L):zDp P pins N ops Q [] L:=h
theorem zGe{K:SL->Prop}{Q:Exit->SL->Prop}(h:K L):zIx K Q .normal L:=h
theorem then_ret{K:SL->Prop}{Q:Exit->SL->Prop}(h:Q .ret L):zIx K Q .ret L:=h
theorem zUV{i:Nat}{Q:Exit->SL->Prop}(h:Q .normal L):zKb i Q (.exit i) L:=by show if i=i then _ else _;grind
theorem zUD{i j:Nat}{Q:Exit->SL->Prop}(u:(j==i)=false)(h:Q (.exit j) L):zKb i Q (.exit j) L:=by show if j=i then _ else _;grind
theorem fc_mk{f:FuncId}{fn:Func}{c:Code}{args:List A}{rs:List ResultVar}{y:A}{n:Nat}{L:SL}(hf:P.funcs[f]? =some fn)(hb:fn.body=some c)(hn:fn.ntmps=n)(J:args.length<=n)(I:fn.results=rs.toArray)(u:(zEw 0 args,Nat.ble n OB)=(pins,true))(W:zCr 0 args=L)(Z:qK P pins n c (endQ P rs [] y) L):FC P f args [] y:=by injection u with u U;subst hn u W;exact fc_of hf hb J I (by split<;>rfl) (wZ U) [] rfl Z
theorem fc_outs{f:FuncId}{fn:Func}{c:Code}{args:List A}{rs:List ResultVar}{outs:List (Nat×List T)}{y:A}{n:Nat}{L:SL}(hf:P.funcs[f]? =some fn)(hb:fn.body=some c)(hn:fn.ntmps=n)(U:args.length<=n)(J:fn.results=rs.toArray)(u:(zEw 0 args,Nat.ble n OB)=(pins,true))(W:zCr 0 args=L)(I:(match rs with|[.tmp t]=>outs.all λx=>x.1 !=t|_=>true)=true)(hc:qK P pins n c (endQ P rs outs y) L):FC P f args outs y:=by injection u with u Z;subst hn u W;exact fc_of hf hb U J I (wZ Z) [] rfl hc
theorem end0{rs:List ResultVar}{r y:A}(h:resA P (gt L) rs=some y)(u:WkA y r):endQ P rs [] r .ret L:=⟨⟨y,h,u⟩,λx hx=>by cases hx⟩
end
def WkS(L:SL):SL->Prop
 |[]=>True
 |(s,y)::r=>WkA (gt L s) y/\WkS L r
theorem WkS.get{L:SL}:∀{F:SL},WkS L F->∀s,WkA (gt L s) (gt F s)
 |[],_,s=> .any _
 |(t,y)::r,h,s=>by rw[zR,upd];by_cases e:s=t;(subst e;rw[if_pos rfl];exact h.1);(rw[if_neg e];exact WkS.get h.2 s)
def zNq(L0:SL):SL->Bool
 |[]=>true
 |(s,x)::r=>(bif Nat.blt s OB then(match x with| .ref b _=>(gt L0 b).isBox|_=>true)else true)&&zNq L0 r
def zHi(L:SL):Bool:=zNq L L
def wkOK(_ F:SL):Bool:=zHi F
theorem gt_refIn{L0 l:SL}(h:zNq L0 l=true){s b off:Nat}(u:s<OB)(hs:gt l s= .ref b off):(gt L0 b).isBox=true:=by(induction l with|nil=>cases hs|cons x r I=>obtain⟨t,y⟩:=x;simp only[zNq,wI]at h;rw[zR,upd]at hs;split at hs;(rename_i e;subst hs e;have:=h.1;rw[show Nat.blt s OB=true by simpa using u]at this;grind);grind)
section
variable {P:Program}{pins:List Nat}{N:Nat}{Q:Exit->SL->Prop}{L L':SL}
theorem WkA.of_any{y:A}(h:WkA .any y):y= .any:=by cases h<;>rfl
theorem St.weaken{w0:World}{m0:Mem}{o0:OwnM}{G:GD}{a:Act}{w:World}(hS:St w0 m0 o0 G pins N L a w)(Z:WkS L L')(hr:wkOK L L'=true):St w0 m0 o0 G pins N L' a w:=by obtain⟨hN,U,m,o,I⟩:=hS;refine⟨hN,λt ht=>by have:=Z.get t;rw[U t ht]at this;exact this.of_any,m,o,I.same,I.sat,I.mono,I.old,I.own,I.lt,I.inj,I.pinned,λs=> ?_,I.defers,I.tbl,I.wide,I.shps⟩;unfold wkOK at hr;have hs:=I.slots s;rcases wY s OB2 with W|hge;(rw[zDY W]at hs⊢;have h1:=(Z.get s).rep I.sat hs;revert h1;(cases J:gt L' s with|ref b off=>rintro⟨g,h1,u,_⟩;(have α:s<OB:=by rcases wY s OB with h|h;exact h;(rw[wM,uE (uW I.wide h)]at u;cases u));have hb:=gt_refIn hr α J;(cases hl:gt L' b with|box l=>exact⟨g,h1,u,λ_=>⟨l,zBq hl (by simp)⟩⟩|_=>rw[hl]at hb;cases hb)|_=>exactλh=>h));(have hL:=U s hge;(cases J:gt L' s with|any=>unfold hx;rw[J];simp only;rw[if_pos hge];(cases hk:gt L' HK with|hp f=>have u:=Z.get HK;rw[hk]at u;(have h3:gt L HK= .hp f:=by revert u;generalize gt L HK=y;intro u;cases u;rfl);(have h4:hx (gt L) s=san (f (s-OB2)):=by unfold hx;grind);rw[h4]at hs;simp only;revert hs;cases f (s-OB2)<;>exactλh=>h|_=>trivial)|_=>have u:=Z.get s;rw[hL,J]at u;cases u))
end
section
variable {F:Fence}{n:Nat}{P:Program}{ops:Array Oper}{Q:Exit->Act->World->Prop}
def zTw(n:Nat)(L:Array Bool):Nat:=((List.range n).filter λj=> !L.getD j true).length
theorem left_set{n i:Nat}{L:Array Bool}(hi:i<n)(h:L.getD i true=false):zTw n (L.setIfInBounds i true)<zTw n L:=by unfold zTw;(have hs:((List.range n).filter λj=> !(L.setIfInBounds i true).getD j true)=((List.range n).filter λj=> !L.getD j true).filter (λj=>j !=i):=by rw[List.filter_filter];refine List.filter_congr λj _=> ?_;by_cases J:i=j;(subst J;(have u:i<L.size:=by grind);simp[wM,u]);(rw[getD_set_ne true J];grind));rw[hs];have I:i∈(List.range n).filter λj=> !L.getD j true:=List.mem_filter.2 ⟨tS.2 hi,by rw[h];rfl⟩;generalize((List.range n).filter λj=> !L.getD j true)=l at I;clear hs;(induction l with|nil=>cases I|cons y r U=>grind)
theorem wpAny_inv{J:Array Bool->Act->World->Prop}
(I:∀i o L a w,J L a w->ops[i]? =some o->L.getD i true=false->(∀e∈o.after,Region.binds .any e=true->L.getD e.on false=true)->wpOpIn F n P ops Q i (λa' w'=>J (L.setIfInBounds i true) a' w') a w)
(done:∀L a w,J L a w->Region.ready .any ops L=[]->Q .normal a w):
 ∀(fuel:Nat) (L:Array Bool) (a:Act) (w:World),J L a w->zTw ops.size L<=fuel->wpAnyIn F n P .any ops Q fuel L a w:=by
 intro fuel
 induction fuel with
  |zero=>
   intro L a w W hl
   have hr:Region.ready .any ops L=[]:=by rw[List.eq_nil_iff_forall_not_mem];intro j hj;obtain⟨Z,o,U,_⟩:=mem_ready.1 hj;have u:j<ops.size:=(uH.1 U).1;have hm:j∈(List.range ops.size).filter λj=> !L.getD j true:=List.mem_filter.2 ⟨tS.2 u,by rw[Z];rfl⟩;have:0<zTw ops.size L:=List.length_pos_of_mem hm;omega
   exact⟨hr,done L a w W hr⟩
  |succ fuel ih=>
   intro L a w W hl
   refine⟨λhr=>done L a w W hr,λi hi=> ?_⟩
   obtain⟨Z,o,U,hd⟩:=mem_ready.1 hi
   have u:i<ops.size:=(uH.1 U).1
   refine wpOpIn_mono (λa' w' h=>ih _ a' w' h ?_) (I i o L a w W U Z hd)
   have:=left_set u Z
   omega
theorem zUX{J:Array Bool->Act->World->Prop}{id:Nat}{a:Act}{w:World}(I:P.follows .mixedOrders=true)
(h0:J (Array.replicate ops.size false) a w.drew)
(u:∀i o L a w,J L a w->ops[i]? =some o->L.getD i true=false->(∀e∈o.after,Region.binds .any e=true->L.getD e.on false=true)->wpOpIn F n P ops Q i (λU w'=>J (L.setIfInBounds i true) U w') a w)
(done:∀L a w,J L a w->Region.ready .any ops L=[]->Q .normal a w):(Code.region id ops true).wpIn F n P Q a w:=by
 refine wpIn_region_any I (wpAny_inv u done _ _ _ _ h0 ?_)
 unfold zTw
 grind
def backB(ops:Array Oper):Bool:=(List.range ops.size).all λi=>match ops[i]? with|some o=>o.after.all λe=> !Region.binds .any e||decide (e.on<i)|none=>true
theorem zUT{L:Array Bool}(hb:backB ops=true)(W:L.size=ops.size)(hr:Region.ready .any ops L=[]):∀i,i<ops.size->L.getD i true=true:=by intro i;(induction i using Nat.strongRecOn with|_ i Z=>intro u;(cases h:L.getD i true with|true=>rfl|false=>exfalso;(have U:i∈Region.ready .any ops L:=by refine mem_ready.2 ⟨h,ops[i],sQ u,λe I J=> ?_⟩;unfold backB at hb;have:=wG.1 hb i (tS.2 u);rw[sQ u]at this;have:=Array.all_eq_true_iff_forall_mem.1 this e I;grind);grind))
end
def keys(e:Eff):List Nat:=e.map (·.1)
def AK:Nat:=2199023255552
theorem zJC{t:Nat}{e:Eff}(h:t∉keys e)(S:Nat->A):app S e t=S t:=by(induction e generalizing S with|nil=>rfl|cons x r u=>obtain⟨d,y⟩:=x;simp only[keys,vB,vL,not_or]at h;show app (upd S d y) r t=S t;rw[u h.2,zE h.1])
theorem app_congr{t:Nat}{S S':Nat->A}(h:S t=S' t)(e:Eff):app S e t=app S' e t:=by(induction e generalizing S S' with|nil=>exact h|cons x r u=>obtain⟨d,y⟩:=x;show app (upd S d y) r t=app (upd S' d y) r t;refine u ?_;unfold upd;grind)
theorem app_key{t:Nat}{e:Eff}(h:t∈keys e)(S S':Nat->A):app S e t=app S' e t:=by(induction e generalizing S S' with|nil=>cases h|cons x r u=>obtain⟨d,y⟩:=x;show app (upd S d y) r t=app (upd S' d y) r t;by_cases hr:t∈keys r;grind;((have:t=d:=by simp only[keys,vB,vL]at h;exact h.resolve_right hr);subst this;rw[zJC hr,zJC hr,zT,zT]))
def stL(u:Nat->Bool):Nat->List Eff->(Nat->A)->(Nat->A)
 |_,[],S=>S
 |i,e::r,S=>stL u (i+1) r (if u i then app S e else S)
theorem zJF{t:Nat}{J I:Nat->Bool}:∀(u:List Eff) (i:Nat) (S S':Nat->A),S t=S' t->(∀j e,u[j]? =some e->t∈keys e->J (i+j)=I (i+j))->stL J i u S t=stL I i u S' t
 |[],_,_,_,h,_=>h
 |e::r,i,S,S',h,hs=>by unfold stL;refine zJF r (i+1) _ _ ?_ λj e' U ht=> ?_;(by_cases ht:t∈keys e;(have:=hs 0 e rfl ht;rw[uP]at this;rw[this];split;exact app_congr h e;exact h);((have W:(if J i=true then app S e else S) t=S t:=by split;exact zJC ht S;rfl);(have Z:(if I i=true then app S' e else S') t=S' t:=by split;exact zJC ht S';rfl);rw[W,Z,h]));(have:=hs (j+1) e' (by simpa using U) ht;rwa [show i+(j+1)=i+1+j by omega]at this)
theorem zJ6(I:Nat->Bool):∀(u:List Eff) (i:Nat) (S:Nat->A),(∀j,j<u.length->I (i+j)=false)->stL I i u S=S
 |[],_,_,_=>rfl
 |e::r,i,S,h=>by unfold stL;have:=h 0 (by simp);rw[uP]at this;rw[this,if_neg (by simp)];(exact zJ6 I r (i+1) S λj J=>by have:=h (j+1) (by simpa using J);grind)
theorem stL_lt:∀(u:List Eff) (i k:Nat) (e:Eff) (S:Nat->A),u[k]? =some e->stL (λj=>decide (j<i+k+1)) i u S=app (stL (λj=>decide (j<i+k)) i u S) e
 |[],_,_,_,_,h=>by simp at h
 |e0::r,i,0,e,S,h=>by cases h;unfold stL;simp only[uP];rw[if_pos (by simp),if_neg (by simp)];rw[zJ6 _ r (i+1) _ (λj _=>by simp),zJ6 _ r (i+1) _ (λj _=>by simp;omega)]
 |e0::r,i,k+1,e,S,h=>by unfold stL;rw[if_pos (decide_eq_true (by omega)),if_pos (decide_eq_true (by omega))];have:=stL_lt r (i+1) k e (app S e0) (by simpa using h);grind
def ancF:List Oper->List (List Nat)->List (List Nat)
 |[],acc=>acc
 |o::r,acc=>ancF r (acc++[(o.after.toList.filter λe=>Region.binds .any e).flatMap λe=>e.on::acc.getD e.on []])
theorem zMR{ops:List Oper}{L:Nat->Bool}(hL:∀(i:Nat) (o:Oper),ops[i]? =some o->L i=true->∀e∈o.after,Region.binds .any e=true->L e.on=true):∀(r:List Oper) (acc:List (List Nat)),ops.drop acc.length=r->(∀i x,i<acc.length->L i=true->x∈acc.getD i []->L x=true)->∀i x,L i=true->x∈(ancF r acc).getD i []->L x=true
 |[],acc,_,h,i,x,hi,hx=>by unfold ancF at hx;by_cases u:i<acc.length;exact h i x u hi hx;(rw[wK,uI (by omega)]at hx;simp at hx)
 |o::r,acc,hd,h,i,x,hi,hx=>by unfold ancF at hx;(have ho:ops[acc.length]? =some o:=by(have:(ops.drop acc.length)[0]? =some o:=by rw[hd];rfl);grind);refine zMR hL r _ ?_ ?_ i x hi hx;(rw[wS,tV,<-List.drop_drop,hd];rfl);(intro j y hj J hy;rw[wS,tV]at hj;rw[wK]at hy;by_cases u:j<acc.length;(rw[uN u]at hy;exact h j y u J (by rw[wK];exact hy));((have Z:j=acc.length:=by omega);subst Z;rw[uK (wJ _)]at hy;simp only[sE,List.getElem?_cons_zero,uT]at hy;rw[List.mem_flatMap]at hy;obtain⟨e,W,hy⟩:=hy;rw[List.mem_filter]at W;have I:=hL _ o ho J e (by simpa using W.1) W.2;rcases vL.1 hy with rfl|hy;exact I;(by_cases U:e.on<acc.length;exact h e.on y U I hy;(rw[wK,uI (by omega)]at hy;simp at hy))))
def LStep(P:Program)(pins:List Nat)(N:Nat)(ops:Array Oper)(op:Oper)(T:List Nat)(S:Nat->A)(e:Eff):Prop:=
 (∀x∈keys e,x∈T)/\((op.guard=none/\∀I,(∀t∈T,I t=S t)->OpH P pins N op I (app I e))\/
  (∃j u t,op.guard=some (j,u)/\(ops[j]?).bind (·.dst)=some t/\t∈T/\
   ((S t= .t (.d (.lit (.bool u)))/\∀I,(∀t∈T,I t=S t)->OpH P pins N op I (app I e))\/((S t= .t (.d (.lit (.bool (!u))))\/S t= .tup [])/\∃d,op.dst=some d/\d∈T/\okD N pins S d=true/\e=[(d,.tup [])])))\/
  (AK∈keys e/\op.guard=none/\OpH P pins N op S (app S e)))
def mask(T:List Nat)(S:Nat->A):Nat->A:=λt=>if T.contains t then S t else .any
theorem mask_Mk{T:List Nat}{S S':Nat->A}(h:∀t∈T,S' t=S t):Mk (mask T S) S':=by intro t;unfold mask;grind
def tmpsO(l:List Operand):List Nat:=l.filterMap λ | .tmp t=>some t|_=>none
def withRef(S:Nat->A)(t:Nat):List Nat:=match S t with
 | .ref b _=>[t,b]
 |_=>[t]
def zSe(ops:Array Oper)(S:Nat->A)(op:Oper):List Nat:=op.dst.toList++(tmpsO op.op.operands.toList).flatMap (withRef S)++(match op.guard with
 |none=>[]
 |some (j,_)=>((ops[j]?).bind (·.dst)).toList)
def zUZ(l:List Oper)(u:List (List Nat×List Nat)):Bool:=
 let I:=ancF l []
 (List.range u.length).all λi=>(List.range i).all λj=>
  let x:=u.getD i ([],[])
  let y:=u.getD j ([],[])
  (!(y.2.any λk=>x.1.contains k)&& !(x.2.any λk=>y.1.contains k)&&(!x.2.contains AK&& !y.2.contains AK))||(I.getD i []).contains j
def bitsF(acc:List Nat)(u:List Edge):Nat:=u.foldl (λb e=>b|||(1<<<e.on)|||acc.getD e.on 0) 0
def ancB:List Oper->List Nat->List Nat
 |[],acc=>acc
 |o::r,acc=>ancB r (acc++[bitsF acc (o.after.toList.filter λe=>Region.binds .any e)])
def okB(l:List Oper)(u:List (List Nat×List Nat)):Bool:=
 let I:=ancB l []
 (List.range u.length).all λi=>
  let x:=u.getD i ([],[])
  let a:=I.getD i 0
  (List.range i).all λj=>
   a.testBit j||(let y:=u.getD j ([],[]);(!(y.2.any λk=>x.1.contains k)&& !(x.2.any λk=>y.1.contains k)&&(!x.2.contains AK&& !y.2.contains AK)))
theorem zQz{acc:List Nat}{x:Nat}:∀(u:List Edge) (b:Nat),(u.foldl (λb e=>b|||(1<<<e.on)|||acc.getD e.on 0) b).testBit x=true->b.testBit x=true\/∃e∈u,x=e.on\/(acc.getD e.on 0).testBit x=true
 |[],b,h=> .inl h
 |e::r,b,h=>by rcases zQz r _ h with h|⟨J,I,h⟩;(rw[Nat.testBit_or,Nat.testBit_or,Bool.or_eq_true,Bool.or_eq_true]at h;rcases h with(h|h)|h;grind;(refine .inr ⟨e,by simp,.inl ?_⟩;rw[Nat.one_shiftLeft,Nat.testBit_two_pow]at h;grind);grind);grind
theorem zTc:∀(l:List Oper) (acc:List (List Nat)) (bs:List Nat),bs.length=acc.length->(∀i x,(bs.getD i 0).testBit x=true->x∈acc.getD i [])->∀i x,((ancB l bs).getD i 0).testBit x=true->x∈(ancF l acc).getD i []
 |[],acc,bs,_,h=>h
 |o::r,acc,bs,hl,h=>by
  unfold ancB ancF
  refine zTc r _ _ (by simp[hl]) λi x hx=> ?_
  by_cases I:i<bs.length
  ·
   rw[wK,uN I,<-wK]at hx
   grind
  ·
   by_cases u:i=bs.length
   ·
    subst u
    rw[wK,uK (wJ _)]at hx
    rw[wK,uK (by omega)]
    simp only[sE,hl,List.getElem?_cons_zero,uT]at hx⊢
    rcases zQz _ _ hx with J|⟨e,u,J⟩
    all_goals grind
   grind
theorem okB_ord{l:List Oper}{u:List (List Nat×List Nat)}(h:okB l u=true):zUZ l u=true:=by unfold okB at h;refine wG.2 λi J=>wG.2 λj I=> ?_;have h1:=wG.1 (wG.1 h i J) j I;simp only[Bool.or_eq_true]at h1⊢;rcases h1 with h1|h1;exact .inr (by simpa using zTc l [] [] rfl (λi x h=>by simp at h) i j h1);grind
section
variable {P:Program}{pins:List Nat}{N:Nat}{ops:Array Oper}
theorem zNo{l:List Oper}{u:List (List Nat×List Nat)}(h:zUZ l u=true){i j:Nat}(hi:i<u.length)(I:j<i){k:Nat}(hk:(k∈(u.getD j ([],[])).2/\k∈(u.getD i ([],[])).1)\/(k∈(u.getD i ([],[])).2/\k∈(u.getD j ([],[])).1)\/AK∈(u.getD i ([],[])).2\/AK∈(u.getD j ([],[])).2):j∈(ancF l []).getD i []:=by unfold zUZ at h;grind
inductive zST(P:Program)(pins:List Nat)(N:Nat)(ops:Array Oper):List Oper->(Nat->A)->List (List Nat×Eff)->Prop
 |nil (S:Nat->A):zST P pins N ops [] S []
 |cons {op:Oper} {r:List Oper} {S:Nat->A} {T:List Nat} {e:Eff} {tr:List (List Nat×Eff)} (h:LStep P pins N ops op T S e) (t:zST P pins N ops r (app S e) tr):zST P pins N ops (op::r) S ((T,e)::tr)
theorem zST.get{r:List Oper}{S:Nat->A}{u:List (List Nat×Eff)}(h:zST P pins N ops r S u):u.length=r.length/\∀(i:Nat) (op:Oper),r[i]? =some op->∃T e,u[i]? =some (T,e)/\LStep P pins N ops op T (stL (λj=>decide (j<i)) 0 (u.map (·.2)) S) e:=by(induction h with|nil S=>grind| @cons op r S T e u h t I=>refine⟨by simp[I.1],λi J Z=> ?_⟩;(cases i with|zero=>cases Z;refine⟨T,e,rfl,?_⟩;rw[zJ6 _ _ 0 S (λj _=>by simp)];exact h|succ i=>obtain⟨W,e',h1,h2⟩:=I.2 i J (by simpa using Z);refine⟨W,e',by simpa using h1,?_⟩;(have:stL (λj=>decide (j<i+1)) 0 (((T,e)::u).map (·.2)) S=stL (λj=>decide (j<i)) 0 (u.map (·.2)) (app S e):=by rw[vB];show stL _ 1 _ (if decide (0<i+1)=true then app S e else S)=_;rw[if_pos (by simp)];(have U:∀(l:List Eff) (a:Nat) (S:Nat->A),stL (λj=>decide (j<i+1)) (a+1) l S=stL (λj=>decide (j<i)) a l S:=by intro l;(induction l with|nil=>intro a S;rfl|cons x l I=>intro a S;simp only[stL,I];grind));grind);grind))
theorem zUN{F:Fence}{n:Nat}(hF:zJK F){w0:World}{m0:Mem}{o0:OwnM}{G:GD}{Q:Exit->Act->World->Prop}{id:Nat}{a:Act}{w:World}{L:SL}{tr:List (List Nat×Eff)}{l:List Oper}
(hm:P.follows .mixedOrders=true)(hback:backB l.toArray=true)(hS:St w0 m0 o0 G pins N L a w)(ht:zST P pins N l.toArray l (gt L) tr)(ε:zUZ l (tr.map λx=>(x.1,keys x.2))=true)
(done:∀a w,a.tmps.size=N->(Low (stL (λ_=>true) 0 (tr.map (·.2)) (gt L))/\∃m o,Inv w0 m0 o0 G pins (hx (stL (λ_=>true) 0 (tr.map (·.2)) (gt L))) a w m o)->Q .normal a w):(Code.region id l.toArray true).wpIn F n P Q a w:=by
 obtain⟨hlen,hget⟩:=ht.get
 obtain⟨hN,hlo0,m,o,I⟩:=hS
 let u:=tr.map (·.2)
 have hel:u.length=l.length:=by simp[u,hlen]
 let ok (B:Array Bool):Prop:=B.size=l.length/\∀(i:Nat) (o:Oper),l[i]? =some o->B.getD i false=true->∀e∈o.after,Region.binds .any e=true->B.getD e.on false=true
 refine zUX (J:=λB a w=>ok B/\a.tmps.size=N/\Low (stL (λi=>B.getD i false) 0 u (gt L))/\∃m o,Inv w0 m0 o0 G pins (hx (stL (λi=>B.getD i false) 0 u (gt L))) a w m o) hm ?_ ?_ ?_
 · refine⟨⟨by simp,λi o h1 h2=> ?_⟩,hN,?_,m,o,?_⟩;(rw[wM,tL]at h2;split at h2<;>cases h2);(rw[zJ6 _ _ 0 _ (λj _=>by rw[wM,tL];split<;>rfl)];grind);(rw[zJ6 _ _ 0 _ (λj _=>by rw[wM,tL];split<;>rfl)];exact I.drew)
 · rintro i op B a w ⟨⟨hB1,hB2⟩,hN,ν,m,o,I⟩ ζ hi γ;(have χ:N<=OB:=by rw[<-hN];exact I.wide);(have ζ:l[i]? =some op:=by simpa using ζ);have hil:i<l.length:=(wB.1 ζ).1;(have hi:B.getD i false=false:=by rw[wM]at hi⊢;rw[sQ (by omega)]at hi⊢;exact hi);have γ:∀e∈op.after,Region.binds .any e=true->B.getD e.on false=true:=γ;obtain⟨T,e,he,μ⟩:=hget i op ζ;(have hee:u[i]? =some e:=by simp[u,he]);(have hB2':∀(k:Nat) (o:Oper),l[k]? =some o->(B.setIfInBounds i true).getD k false=true->∀e∈o.after,Region.binds .any e=true->(B.setIfInBounds i true).getD e.on false=true:=by intro k o hk hBk e he hb;(have mono:B.getD e.on false=true->(B.setIfInBounds i true).getD e.on false=true:=by intro h;by_cases hq:e.on=i;(rw[hq,wM,uX];simp[show i<B.size by omega]);(rw[getD_set_ne false (Ne.symm hq)];exact h));by_cases hki:k=i;(subst hki;rw[ζ]at hk;cases hk;exact mono (γ e he hb));(rw[getD_set_ne false (Ne.symm hki)]at hBk;exact mono (hB2 k o hk hBk e he hb)));(have htl:∀j,(tr.map λx=>(x.1,keys x.2)).getD j ([],[])=((tr[j]?).map λx=>(x.1,keys x.2)).getD ([],[]):=λj=>by rw[wK,wH]);(have φ:(tr.map λx=>(x.1,keys x.2)).getD i ([],[])=(T,keys e):=by rw[htl,he];rfl);(have wr:∀j e',u[j]? =some e'->j≠i->((∃t∈T,t∈keys e')\/AK∈keys e)->(B.getD j false=decide (j<i)):=by intro j e' hj α hor;(have hjl:j<tr.length:=by have:=(wB.1 hj).1;rw[hel]at this;omega);obtain⟨⟨Tj,ej⟩,hje⟩:∃x,tr[j]? =some x:=⟨_,wF hjl⟩;(have hej:ej=e':=by(have:u[j]? =some ej:=by simp[u,hje]);rw[this]at hj;injection hj);subst hej;(have hj':(tr.map λx=>(x.1,keys x.2)).getD j ([],[])=(Tj,keys ej):=by rw[htl,hje];rfl);rcases wY j i with η|hge;((have θ:j∈(ancF l []).getD i []:=by rcases hor with⟨t,W,Z⟩|hA;exact zNo ε (i:=i) (j:=j) (by rw[wL];omega) η (k:=t) (.inl ⟨by rw[hj'];exact Z,by rw[φ];exact W⟩);exact zNo ε (i:=i) (j:=j) (by rw[wL];omega) η (k:=0) (.inr (.inr (.inl (by rw[φ];exact hA)))));(have hBi:(B.setIfInBounds i true).getD i false=true:=by rw[wM,uX];simp[show i<B.size by omega]);have:=zMR (L:=λk=>(B.setIfInBounds i true).getD k false) hB2' l [] rfl (λk x hk=>by simp at hk) i j hBi θ;rw[getD_set_ne false (Ne.symm α)]at this;grind);((have η:i<j:=by omega);(have θ:i∈(ancF l []).getD j []:=by rcases hor with⟨t,W,Z⟩|hA;exact zNo ε (i:=j) (j:=i) (by rw[wL];omega) η (k:=t) (.inr (.inl ⟨by rw[hj'];exact Z,by rw[φ];exact W⟩));exact zNo ε (i:=j) (j:=i) (by rw[wL];omega) η (k:=0) (.inr (.inr (.inr (by rw[φ];exact hA)))));(have hnot:B.getD j false=false:=by(cases hBj:B.getD j false with|false=>rfl|true=>have:=zMR (L:=λk=>B.getD k false) hB2 l [] rfl (λk x hk=>by simp at hk) j i hBj θ;rw[hi]at this;cases this));grind));have ξ:∀t∈T,∀j e',u[j]? =some e'->t∈keys e'->j≠i->(B.getD j false=decide (j<i)):=λt W j e' hj Z α=>wr j e' hj α (.inl ⟨t,W,Z⟩);(have σ:∀t,∀j e',u[j]? =some e'->t∈keys e'->j=i->e'=e:=by intro t j e' hj _ α;subst α;rw[hee]at hj;injection hj with hj;exact hj.symm);(have π:∀t∈T,stL (λk=>B.getD k false) 0 u (gt L) t=stL (λj=>decide (j<i)) 0 u (gt L) t:=by intro t W;refine zJF u 0 _ _ rfl λj e' hj Z=> ?_;grind);(have hnext:stL (λk=>(B.setIfInBounds i true).getD k false) 0 u (gt L)=app (stL (λk=>B.getD k false) 0 u (gt L)) e:=by funext t;by_cases ρ:t∈keys e;(have W:=μ.1 t ρ;(have h1:stL (λk=>(B.setIfInBounds i true).getD k false) 0 u (gt L) t=stL (λj=>decide (j<0+i+1)) 0 u (gt L) t:=by refine zJF u 0 _ _ rfl λj e' hj Z=> ?_;simp only[vJ];by_cases α:j=i;(subst α;rw[wM,uX];simp[show j<B.size by omega]);(rw[getD_set_ne false (Ne.symm α),ξ t W j e' hj Z α];congr 1;simp;omega));rw[h1,stL_lt u 0 i e (gt L) hee];exact app_key ρ _ _);(rw[zJC ρ];refine zJF u 0 _ _ rfl λj e' hj Z=> ?_;simp only[vJ];by_cases α:j=i;exact absurd (by rw[σ t j e' hj Z α]at Z;exact Z) ρ;rw[getD_set_ne false (Ne.symm α)]));unfold wpOpIn;rw[show l.toArray[i]? =some op by simpa using ζ];simp only;(have τ:∀a' w' m' o',a'.tmps.size=N->Low (app (stL (λi=>B.getD i false) 0 u (gt L)) e)->Inv w0 m0 o0 G pins (hx (app (stL (λi=>B.getD i false) 0 u (gt L)) e)) a' w' m' o'->(ok (B.setIfInBounds i true)/\a'.tmps.size=N/\Low (stL (λk=>(B.setIfInBounds i true).getD k false) 0 u (gt L))/\∃m o,Inv w0 m0 o0 G pins (hx (stL (λk=>(B.setIfInBounds i true).getD k false) 0 u (gt L))) a' w' m o):=by grind);have β:∀t∈T,stL (λi=>B.getD i false) 0 u (gt L) t=stL (λj=>decide (j<i)) 0 (tr.map (·.2)) (gt L) t:=π;(have hyb:∀(j t:Nat) (c:Bool),(l.toArray[j]?).bind (·.dst)=some t->t∈T->stL (λj=>decide (j<i)) 0 (tr.map (·.2)) (gt L) t= .t (.d (.lit (.bool c)))->yielded l.toArray a.tmps j=some c:=by intro j t c Z W hc;have h4:=I.slots t;rw[zBq ((β t W).trans hc) (by simp)]at h4;(have h5:a.tmps.getD t undef= .bool c:=by have h4:RepD m (.lit (.bool c)) (a.tmps.getD t undef):=h4;generalize a.tmps.getD t undef=v at h4;cases h4;rfl);(have h6:a.tmps[t]? =some (.bool c):=by rw[wM]at h5;(cases hq:a.tmps[t]? with|none=>rw[hq]at h5;cases h5|some q=>rw[hq]at h5;simpa using h5));unfold yielded;grind);rcases μ.2 with⟨hg,U⟩|⟨j,δ,t,hg,Z,W,ω⟩|⟨hA,hg,U⟩;((have hw:Region.wanted op (yielded l.toArray a.tmps)=true:=by unfold Region.wanted;rw[hg]);rw[hw,if_pos rfl];obtain⟨U,κ⟩:=U _ β χ ν;exact op_in hF (U w0 m0 o0 G a w m o hN I _ _ λa' w' m' o' ι I'=>⟨I'.defers.trans I.defers.symm,τ a' w' m' o' ι κ I'⟩));(rcases ω with⟨hc,U⟩|⟨hc,d,hd,hdT,hok,rfl⟩;((have hw:Region.wanted op (yielded l.toArray a.tmps)=true:=by unfold Region.wanted;rw[hg];show(yielded l.toArray a.tmps j==some δ)=true;rw[hyb j t _ Z W hc];cases δ<;>rfl);rw[hw,if_pos rfl];obtain⟨U,κ⟩:=U _ β χ ν;exact op_in hF (U w0 m0 o0 G a w m o hN I _ _ λa' w' m' o' ι I'=>⟨I'.defers.trans I.defers.symm,τ a' w' m' o' ι κ I'⟩));((have hw:Region.wanted op (yielded l.toArray a.tmps)=false:=by unfold Region.wanted;rw[hg];show(yielded l.toArray a.tmps j==some δ)=false;rcases hc with hc|hc;(rw[hyb j t _ Z W hc];cases δ<;>rfl);(have h4:=I.slots t;rw[zBq ((β t W).trans hc) (by simp)]at h4;obtain⟨vs,h5,_,_⟩:=h4;(have h7:yielded l.toArray a.tmps j=none:=by unfold yielded;rw[Z];rw[wM]at h5;grind);grind));rw[hw,if_neg (by simp)];obtain⟨h1,h2,h3⟩:=zS hok;have hdO:=qG χ hok;refine⟨λf _=>hF.fn f,?_⟩;refine τ _ w m o (by rw[zCW,hN]) (ν.upd (by unfold OB at hdO;unfold OB2;omega)) ?_;rw[hd];show Inv w0 m0 o0 G pins (hx (upd (stL (λi=>B.getD i false) 0 u (gt L)) d (.tup []))) _ _ _ _;rw[zOX (.inl hdO)];exact I.set d (.tup []) undef (by omega) (by rw[zDY (by unfold OB at hdO;unfold OB2;omega),β d hdT];exact h2) ⟨#[],rfl,rfl,λj x h=>by simp at h⟩));((have hw:Region.wanted op (yielded l.toArray a.tmps)=true:=by unfold Region.wanted;rw[hg]);rw[hw,if_pos rfl];(have ψ:stL (λk=>B.getD k false) 0 u (gt L)=stL (λj=>decide (j<i)) 0 (tr.map (·.2)) (gt L):=by grind);rw[<-ψ]at U;obtain⟨U,κ⟩:=U χ ν;exact op_in hF (U w0 m0 o0 G a w m o hN I _ _ λa' w' m' o' ι I'=>⟨I'.defers.trans I.defers.symm,τ a' w' m' o' ι κ I'⟩))
 · rintro B a w ⟨⟨hB1,hB2⟩,hN,ν,m,o,I⟩ hr;have ψ:=zUT hback (by simpa using hB1) hr;refine done a w hN (?_:_/\_);(have:stL (λ_=>true) 0 (tr.map (·.2)) (gt L)=stL (λi=>B.getD i false) 0 u (gt L):=by funext t;refine zJF _ 0 _ _ rfl λj e' hj _=> ?_;grind);grind
end
def DOK(P:Program)(pins:List Nat)(N:Nat)(l0:List Oper)(Q:SL->Prop):List Oper->List (List Nat×List Nat)->SL->Prop
 |[],acc,L=>zUZ l0 acc.reverse=true/\Q L
 |op::r,acc,L=>∃T e,LStep P pins N l0.toArray op T (gt L) e/\DOK P pins N l0 Q r ((T,keys e)::acc) (setL L e)
section
variable {P:Program}{pins:List Nat}{N:Nat}{l0:List Oper}{Q:SL->Prop}{r:List Oper}{op:Oper}{L L':SL}{acc:List (List Nat×List Nat)}
theorem zQ4:∀(r:List Oper) (acc:List (List Nat×List Nat)) (L:SL),DOK P pins N l0 Q r acc L->∃I L',zST P pins N l0.toArray r (gt L) I/\zUZ l0 (acc.reverse++I.map λx=>(x.1,keys x.2))=true/\Q L'/\gt L'=stL (λ_=>true) 0 (I.map (·.2)) (gt L)
 |[],acc,L,⟨J,Z⟩=>⟨[],L,.nil _,by simpa using J,Z,rfl⟩
 |op::r,acc,L,⟨T,e,J,W⟩=>by obtain⟨I,L',k1,k2,k3,k5⟩:=zQ4 r _ _ W;have hg:gt (setL L e)=app (gt L) e:=zQe L e;rw[hg]at k1 k5;refine⟨(T,e)::I,L',.cons J k1,by simpa using k2,k3,?_⟩;rw[k5,vB];show _=stL _ 1 _ (if true=true then app (gt L) e else gt L);rw[if_pos rfl];(have u:∀(l:List Eff) (a:Nat) (S:Nat->A),stL (λ_=>true) (a+1) l S=stL (λ_=>true) a l S:=by intro l;(induction l with|nil=>intro a S;rfl|cons x l U=>intro a S;simp only[stL,U]));exact(u _ 0 _).symm
theorem c_draw{id:Nat}{Q:Exit->SL->Prop}(U:P.follows .mixedOrders=true)(u:backB l0.toArray=true)(h:DOK P pins N l0 (Q .normal) l0 [] L):qK P pins N (.region id l0.toArray true) Q L:=by intro Fe ne W w0 m0 o0 G a w Z;obtain⟨tr,L',k1,k2,k3,k5⟩:=zQ4 l0 [] L h;refine zUN W.w U u Z k1 (by simpa using k2) λa' w' J ⟨hl,m,o,I⟩=>⟨L',k3,J,by rw[k5];exact hl,m,o,by rw[k5];exact I⟩
theorem all_T{e:Eff}{T:List Nat}(h:(keys e).all T.contains=true):∀x∈keys e,x∈T:=λx hx=>by simpa using wG.1 h x hx
theorem zOH{S M:Nat->A}{tk:Bool}{d:Nat}(J:Mk M S)(hd:op.dst=some d)(u:okD N pins S d=true){C:Prop}{I:Eff}(h:opF P pins tk M d op.op=some (C,I))(Z:C):OpH P pins N op S (app S I):=
 .of λU=>⟨opF_ok J.hx hd (qR U u) h Z,opF_eff J (qG U u) h⟩
theorem stF_okh{S M:Nat->A}(J:Mk M S){t:TypeId}{x y:Operand}(I:op.op= .store t x y)(hd:op.dst=none){u:Eff}(h:stF P pins M t x y=some u):OpH P pins N op S (app S u):=
 .of λ_=>⟨stF_ok J.hx I hd h,stF_eff J h⟩
theorem ok_callh{S M:Nat->A}(hM:Mk M S){d f:Nat}{xs:List Operand}{ts:Array TypeId}{fx:Operand}(hop:op.op= .call {callee:= .value fx,args:=xs.toArray,argTypes:=ts})(hfx:vO M fx=some (.func (.func f) #[] #[]))(hd:op.dst=some d)(hok:okD N pins S d=true){fn:Func}(hfn:P.funcs[f]? =some fn)(hbody:fn.body.isNone=false)(hname:(fn.name== "runtime.NumGoroutine")=false)
{args:List A}{y:A}(hargs:zKc (xs.map (cpO M)) args)(hp:args.all A.plain=true)(hf:FC P f args [] y)(hnr:y.noRef=true):OpH P pins N op S (app S [(d,y)]):=
 .of (e:=[(d,y)]) λhN=>⟨ok_call hM.hx hop hfx hd (qR hN hok) hfn hbody hname hargs hp hf hnr,zBz (qG hN hok)⟩
def frcNs{R:Sort _}:List Nat->(List Nat->R)->R
 |[],K=>K []
 |x::r,K=>frcNs r λr=>K (x::r)
theorem zQQ:∀{R:Sort _} (l:List Nat) (K:List Nat->R),frcNs l K=K l
 |_,[],_=>rfl
 |_,x::r,K=>by unfold frcNs;rw[zQQ]
end
theorem zQi(x:List UInt8):(qV x).length=x.length:=by simp[qV]
abbrev intA(n:Int):A:= .t (.d (.lit (.int .i64 n)))
theorem wrap_id{z:Int}(u: -9223372036854775808<=z)(I:z<=9223372036854775807):IntKind.i64.wrap z=z:=IntWalk.i64_in z ⟨u,I⟩
theorem zS7{α:Type}{c:Bool}{a b:Option α}{r:α}(h:(bif c then a else b)=some r):(c=true/\a=some r)\/(c=false/\b=some r):=by grind
theorem bind_some{α β:Type}{a:Option α}{f:α->Option β}{r:β}(h:Option.bind a f=some r):∃y,a=some y/\f y=some r:=Option.bind_eq_some_iff.1 h
def idx{α:Type}(l:List α)(n:Int):Option α:=bif decide (0<=n)then l[n.toNat]? else none
def cutI{α:Type}(l:List α)(lo hi:Int):Option (List α):=if 0<=lo/\lo<=hi/\hi<=l.length then some ((l.take hi.toNat).drop lo.toNat)else none
def appI{α:Type}(u:Nat)(l l':List α):Option (List α):=if(l.length+l'.length)*u<=140737488355328 then some (l++l')else none
abbrev wi(z:Int):Int:=IntKind.i64.wrap z
def U8(z:Int):UInt8:=UInt8.ofNat (z %256).toNat
theorem u8c(z:Int):IntKind.u8.wrap z=((U8 z).toNat:Int):=by simp[IntKind.wrap,IntKind.bits,IntKind.signed,U8];omega
theorem zGE{α:Type}{l:List α}{n:Int}{x:α}(h:idx l n=some x):0<=n/\n<l.length/\l[n.toNat]? =some x:=by unfold idx at h;grind
theorem idxC{α β:Type}{l:List α}{n:Int}{x:α}{c:α->β}(h:idx l n=some x):0<=n/\n<((l.map c).length:Int):=by rw[wL];exact⟨(zGE h).1,(zGE h).2.1⟩
theorem idxE{α:Type}{l:List α}{n:Int}{x:α}{c:α->List D}(h:idx l n=some x):A.imm ((l.map c).getD n.toNat [])= .imm (c x):=by rw[wK,wH,(zGE h).2.2];rfl
theorem lenE{α β:Type}(l:List α)(c:α->β):A.t (.d (.lit (.int .i64 ((l.map c).length:Nat))))= .t (.d (.lit (.int .i64 (l.length:Nat)))):=by rw[wL]
theorem zOG{l:List UInt8}{n:Int}{x:UInt8}(h:idx l n=some x):0<=n/\n<((ByteArray.mk ⟨l⟩).size:Int):=⟨(zGE h).1,(zGE h).2.1⟩
theorem zN1{l:List UInt8}{n:Int}{x:UInt8}(h:idx l n=some x):A.t (.d (.lit (.int .u8 (((ByteArray.mk ⟨l⟩).data.toList.getD n.toNat 0).toNat:Int))))= .t (.d (.lit (.int .u8 (x.toNat:Int)))):=by show A.t (.d (.lit (.int .u8 ((l.getD n.toNat 0).toNat:Int))))=_;rw[wK,(zGE h).2.2];rfl
theorem zHq{α:Type}{l:List α}{lo hi:Int}{z:List α}(h:cutI l lo hi=some z):(0<=lo/\lo<=hi/\hi<=l.length)/\z=(l.take hi.toNat).drop lo.toNat:=by unfold cutI at h;grind
theorem cutC{α:Type}{l z:List α}{lo hi:Int}{c:α->List D}(h:cutI l lo hi=some z):zT8 (l.map c).length (some lo) (some hi) none:=by obtain⟨⟨u,I,J⟩,_⟩:=zHq h;rw[wL];exact⟨u,I,J,tW _,λe=>by cases e⟩
theorem cutE{α:Type}{l z:List α}{lo hi:Int}{c:α->List D}{k:Nat}(h:cutI l lo hi=some z):A.t (.d (.seq k (cutL (l.map c) (some lo) (some hi))))= .t (.d (.seq k (z.map c))):=by obtain⟨_,rfl⟩:=zHq h;simp[cutL,List.map_take,List.map_drop]
theorem cutC3{α:Type}{l z:List α}{lo hi:Int}{c:α->List D}(h:cutI l lo hi=some z):zT8 (l.map c).length (some lo) (some hi) (some hi):=by obtain⟨⟨u,I,J⟩,_⟩:=zHq h;rw[wL];exact⟨u,I,tW _,J,λ_=>rfl⟩
theorem zUO{α:Type}{l z:List α}{lo:Int}{c:α->List D}(h:cutI l lo l.length=some z):zT8 (l.map c).length (some lo) none none:=by obtain⟨⟨u,I,J⟩,_⟩:=zHq h;rw[wL];exact⟨u,I,tW _,tW _,λe=>by cases e⟩
theorem zUf{α:Type}{l z:List α}{lo:Int}{c:α->List D}{k:Nat}(h:cutI l lo l.length=some z):A.t (.d (.seq k (cutL (l.map c) (some lo) none)))= .t (.d (.seq k (z.map c))):=by obtain⟨_,rfl⟩:=zHq h;simp[cutL,List.map_drop,vE]
theorem zSM{α:Type}{l z:List α}{hi:Int}{c:α->List D}(h:cutI l 0 hi=some z):zT8 (l.map c).length none (some hi) none:=by obtain⟨⟨u,I,J⟩,_⟩:=zHq h;rw[wL];exact⟨u,I,J,tW _,λe=>by cases e⟩
theorem zSD{α:Type}{l z:List α}{hi:Int}{c:α->List D}{k:Nat}(h:cutI l 0 hi=some z):A.t (.d (.seq k (cutL (l.map c) none (some hi))))= .t (.d (.seq k (z.map c))):=by obtain⟨_,rfl⟩:=zHq h;simp[cutL,List.map_take]
theorem zNi{α:Type}{u:Nat}{l l' z:List α}(h:appI u l l'=some z):(l.length+l'.length)*u<=140737488355328/\z=l++l':=by unfold appI at h;grind
theorem appC{α β:Type}{u:Nat}{l l' z:List α}{c:α->β}(h:appI u l l'=some z):((l.map c).length+(l'.map c).length)*u<=140737488355328:=by rw[wL,wL];exact(zNi h).1
theorem appE{α:Type}{u E k:Nat}{l l' z:List α}{c:α->List D}(h:appI u l l'=some z):A.t (.own E k (l.map c++l'.map c))= .t (.own E k (z.map c)):=by rw[(zNi h).2,sW]
theorem zQG(x y:List UInt8):((ByteArray.mk ⟨x⟩).toList==(ByteArray.mk ⟨y⟩).toList)=(x==y):=by rw[Bool.eq_iff_iff];simp
theorem strE(l:List UInt8):A.t (.d (.lit (.string (strD (qV l)))))= .t (.d (.lit (.string ⟨⟨l⟩⟩))):=by rw[zUP]
def shrI(k:IntKind)(a b:Int):Option Int:=bif decide (0<=b)then some (a.fdiv (2^min b.toNat k.bits))else none
def shlI(k:IntKind)(a b:Int):Option Int:=bif decide (0<=b)then some (k.wrap (a*2^min b.toNat k.bits))else none
theorem shrIE {k yk : IntKind} {a b z : Int} (h : shrI k a b = some z) : binV .shr (.int k a) (.int yk b) = some (.int k z) := by
  unfold shrI at h
  rcases zS7 h with ⟨h1, h2⟩ | ⟨_, h2⟩
  · have h1 : ¬ b < 0 := by have : 0 ≤ b := by simpa using h1
                            omega
    injection h2 with h2
    show zHb (Op.shift .shr k a yk b) = _
    unfold Op.shift
    rw [if_neg h1, ← h2]
    rfl
  grind
theorem shlIE {k yk : IntKind} {a b z : Int} (h : shlI k a b = some z) : binV .shl (.int k a) (.int yk b) = some (.int k z) := by
  unfold shlI at h
  rcases zS7 h with ⟨h1, h2⟩ | ⟨_, h2⟩
  · have h1 : ¬ b < 0 := by have : 0 ≤ b := by simpa using h1
                            omega
    injection h2 with h2
    show zHb (Op.shift .shl k a yk b) = _
    unfold Op.shift
    rw [if_neg h1, ← h2]
    rfl
  grind
def notB:Value->Bool| .bool _=>false|_=>true
theorem opF_bin{P:Program}{pins:List Nat}{tk:Bool}{M:Nat->A}{d:Nat}{I:BinOp}{t J:TypeId}{x y:Operand}{u v r:Value}(hx:vO M x=some u)(hy:vO M y=some v)(hn:notB u=true)(hv:binV I u v=some r):opF P pins tk M d (.binOp I t x y J)=some (True,[(d,litA r)]):=by show(valF P M (.binOp I t x y J)).map (λy=>(True,[(d,y)]))=_;unfold valF;simp only[hx,hy];cases u<;>first|(cases hn;done)|(simp only[hv];rfl)
theorem none_ne{α:Type}{r:α}{p:Prop}(h:(none:Option α)=some r):p:=by cases h
theorem i64_u8(c:UInt8):IntKind.i64.wrap (c.toNat:Int)=(c.toNat:Int):=by have:=c.toNat_lt;exact wrap_id (by omega) (by omega)
theorem u64_u8(c:UInt8):IntKind.u64.wrap (c.toNat:Int)=(c.toNat:Int):=by have:=c.toNat_lt;simp[IntKind.wrap,IntKind.bits,IntKind.signed];omega
theorem u32_u8(c:UInt8):IntKind.u32.wrap (c.toNat:Int)=(c.toNat:Int):=by have:=c.toNat_lt;simp[IntKind.wrap,IntKind.bits,IntKind.signed];omega
abbrev cU8(b:UInt8):List D:=[.lit (.int .u8 (b.toNat:Int))]
abbrev cI64(n:Int):List D:=[.lit (.int .i64 n)]
abbrev cInt(k:IntKind)(n:Int):List D:=[.lit (.int k n)]
abbrev cStr(x:List UInt8):List D:=[.lit (.string ⟨⟨x⟩⟩)]
abbrev cSl{α:Type}(k:Nat)(c:α->List D)(x:List α):List D:=[.seq k (x.map c)]
theorem RepA.turn{m:Mem}{w:World}{o:OwnM}{S S':Nat->A}{s:Nat}{x:A}{v:Value}(h:RepA m w o S s x v)(hb:∀b l,S b= .box l->∃U,S' b= .box U):RepA m w o S' s x v:=by(cases x with|ref b off=>obtain⟨g,Z,J,I⟩:=h;exact⟨g,Z,J,λu=>let⟨l,I⟩:=I u;hb b l I⟩|_=>exact h)
theorem WkA.box_of{l:List T}{y:A}(h:WkA (.box l) y)(hy:y≠ .any):∃u,y= .box u:=by(cases h with|refl=>grind|any=>grind|box h=>grind)
inductive WkE:Eff->Eff->Prop
 |nil:WkE [] []
 |cons {s:Nat} {x y:A} {l l':Eff} (h:WkA x y) (hy:y≠ .any) (t:WkE l l'):WkE ((s,x)::l) ((s,y)::l')
theorem WkE.appW{e J:Eff}(h:WkE e J):∀{S S':Nat->A},(∀s,WkA (S s) (S' s)/\∀l,S s= .box l->∃u,S' s= .box u)->∀s,WkA (app S e s) (app S' J s)/\∀l,app S e s= .box l->∃u,app S' J s= .box u:=by(induction h with|nil=>exactλh=>h| @cons t x y l u I hy _ U=>intro S S' Z;refine U λs=> ?_;show WkA (upd S t x s) (upd S' t y s)/\∀l,upd S t x s= .box l->∃u,upd S' t y s= .box u;unfold upd;by_cases e:s=t;(rw[if_pos e,if_pos e];exact⟨I,λl hl=>by subst hl;exact I.box_of hy⟩);grind)
theorem WkE.any{e u:Eff}(h:WkE e u):∀{S S':Nat->A},(∀s,S' s= .any->S s= .any)->∀s,app S' u s= .any->app S e s= .any:=by(induction h with|nil=>exactλh=>h| @cons t x y l Z I hy _ J=>intro S S' U;refine J λs=> ?_;show upd S' t y s= .any->upd S t x s= .any;unfold upd;grind)
theorem WkA.hp_of{x:A}{f:Nat->A}(h:WkA x (.hp f)):x= .hp f:=by cases h;rfl
theorem WkA.of_hp{f:Nat->A}{y:A}(h:WkA (.hp f) y):y= .hp f\/y= .any:=by cases h;(all_goals grind)
theorem hxW{S S':Nat->A}(h:∀s,WkA (S s) (S' s))(J:∀s,S' s= .any->S s= .any)(s:Nat):WkA (hx S s) (hx S' s):=by by_cases hs:S s= .any;((have u:S' s= .any:=by have:=h s;rw[hs]at this;exact this.of_any);unfold hx;rw[hs,u];simp only;split;(have hk:=h HK;(cases I:S' HK with|hp f=>rw[I]at hk;rw[hk.hp_of];exact .refl _|_=>exact .any _));grind);(have u:S' s≠ .any:=λe=>hs (J s e);rw[zBq rfl hs,zBq rfl u];exact h s)
theorem OpH.weak{P:Program}{pins:List Nat}{N:Nat}{op:Oper}{S:Nat->A}{e e':Eff}(h:OpH P pins N op S (app S e))(he:WkE e e'):OpH P pins N op S (app S e'):=by intro β δ;obtain⟨h,U⟩:=h β δ;have Z:=he.appW (S:=S) (S':=S) (λs=>⟨.refl _,λl hl=>⟨l,hl⟩⟩);refine⟨λw0 m0 o0 G a w m o hN I K Q hK=> ?_,λt ht=>by have:=(Z t).1;rw[U t ht]at this;exact this.of_any⟩;refine h w0 m0 o0 G a w m o hN I K Q λa' w' m' o' α J=>hK a' w' m' o' α ?_;have W:=he.any (S:=S) (S':=S) (λs h=>h);refine⟨J.same,J.sat,J.mono,J.old,J.own,J.lt,J.inj,J.pinned,λs=>(((hxW (λs=>(Z s).1) W s).rep J.sat (J.slots s)).turn λb l hl=> ?_),J.defers,J.tbl,J.wide,J.shps⟩;have h1:=hxW (λs=>(Z s).1) W b;rw[hl]at h1;refine h1.box_of λe0=> ?_;by_cases hs:app S e' b= .any;(have γ:=W b hs;revert hl e0;unfold hx;rw[hs,γ];simp only;split;(have hk:=(Z HK).1;have ζ:=W HK;(cases u:app S e' HK with|hp f=>rw[u]at hk;rw[hk.hp_of];grind|any=>grind|_=>(cases ε:app S e HK with|hp f=>rw[u,ε]at hk;rcases hk.of_hp with h|h<;>cases h|_=>grind)));grind);(rw[zBq rfl hs]at e0;grind)
section
variable {P:Program}{pins:List Nat}{N:Nat}{ops:Array Oper}{Q:SL->Prop}{r:List Oper}{op:Oper}{L:SL}
theorem g0(u:op.guard=none):yes ops op L true:=by unfold yes;rw[u]
theorem gy{j t:Nat}{c u:Bool}(J:op.guard=some (j,u))(ht:(ops[j]?).bind (·.dst)=some t)(U:gt L t= .t (.d (.lit (.bool c))))(I:c=u):yes ops op L true:=by unfold yes;grind
theorem o_ofY{e:Eff}{L':SL}(hy:yes ops op L true)(h:OpY P pins N op (gt L) (app (gt L) e))(u:setL L e=L')(k:zDp P pins N ops Q r L'):zDp P pins N ops Q (op::r) L:=by subst u;refine⟨true,hy,?_⟩;rw[if_pos rfl];exact⟨setL L e,by show OpY _ _ _ _ _ (gt (setL L e));rw[zQe];exact h,k⟩
theorem o_of{e:Eff}{L':SL}(hy:yes ops op L true)(h:OpH P pins N op (gt L) (app (gt L) e))(u:setL L e=L')(k:zDp P pins N ops Q r L'):zDp P pins N ops Q (op::r) L:=o_ofY hy h.y u k
theorem o_s{d:Nat}(x:A)(hy:yes ops op L true)(hd:op.dst=some d)(u:okD N pins (gt L) d=true)(h:opF P pins false (gt L) d op.op=some (True,[(d,x)]))(k:zDp P pins N ops Q r ((d,x)::L)):zDp P pins N ops Q (op::r) L:=
 o_of hy (zOH (Mk.refl _) hd u h trivial) rfl k
theorem o_2{d s:Nat}(z x:A)(hy:yes ops op L true)(hd:op.dst=some d)(u:okD N pins (gt L) d=true)(h:opF P pins true (gt L) d op.op=some (True,[(s,z),(d,x)]))(k:zDp P pins N ops Q r ((d,x)::(s,z)::L)):zDp P pins N ops Q (op::r) L:=
 o_of hy (zOH (Mk.refl _) hd u h trivial) rfl k
theorem o_2c{d s:Nat}{z I x:A}{C:Prop}(hy:yes ops op L true)(hd:op.dst=some d)(u:okD N pins (gt L) d=true)(h:opF P pins false (gt L) d op.op=some (C,[(s,z),(d,I)]))(J:I=x)(U:C)(k:zDp P pins N ops Q r ((d,x)::(s,z)::L)):zDp P pins N ops Q (op::r) L:=by subst J;exact o_of hy (zOH (Mk.refl _) hd u h U) rfl k
theorem o_skip{j t d:Nat}{c u:Bool}(U:op.guard=some (j,u))(ht:(ops[j]?).bind (·.dst)=some t)(Z:gt L t= .t (.d (.lit (.bool c))))(J:c= !u)(hd:op.dst=some d)(I:okD N pins (gt L) d=true)(k:zDp P pins N ops Q r ((d,.tup [])::L)):zDp P pins N ops Q (op::r) L:=
 o_no U ht Z J hd I rfl k
theorem o_un{j t d:Nat}{u:Bool}(J:op.guard=some (j,u))(ht:(ops[j]?).bind (·.dst)=some t)(U:gt L t= .tup [])(hd:op.dst=some d)(I:okD N pins (gt L) d=true)(k:zDp P pins N ops Q r ((d,.tup [])::L)):zDp P pins N ops Q (op::r) L:=
 ops_un J ht U hd I k
end
section
variable {P:Program}{pins:List Nat}{N:Nat}{Q:Exit->SL->Prop}{L:SL}
theorem c_t{b:Bool}{c:Nat}{x y:Code}(hb:b=true)(u:gt L c= .t (.d (.lit (.bool b))))(hx:qK P pins N x Q L):qK P pins N (.cond (.tmp c) x y) Q L:=c_cond u (λ_=>hx) (λh=>by rw[h]at hb;cases hb)
theorem c_f{b:Bool}{c:Nat}{x y:Code}(hb:b=false)(u:gt L c= .t (.d (.lit (.bool b))))(hy:qK P pins N y Q L):qK P pins N (.cond (.tmp c) x y) Q L:=c_cond u (λh=>by rw[h]at hb;cases hb) (λ_=>hy)
end
def le:Nat->Nat->List UInt8
 |0,_=>[]
 |k+1,n=>UInt8.ofNat (n %256)::le k (n/256)
def be(k n:Nat):List UInt8:=(le k n).reverse
theorem zEN:∀k n,(le k n).length=k
 |0,_=>rfl
 |k+1,n=>by simp[le,zEN k]
theorem zV(k n:Nat):(be k n).length=k:=by simp[be,zEN]
theorem le_snoc:∀k n,le (k+1) n=le k n++[UInt8.ofNat (n/256^k %256)]
 |0,n=>by simp[le]
 |k+1,n=>by rw[le,le_snoc k (n/256),le,Nat.div_div_eq_div_mul,Nat.pow_succ,tC 256];rfl
def wid:Nat->Nat
 |0=>0
 |n+1=>wid ((n+1)/256)+1
 decreasing_by omega
theorem zTW:wid 0=0:=by rw[wid]
theorem wid_pos{n:Nat}(h:0<n):wid n=wid (n/256)+1:=by(cases n with|zero=>omega|succ n=>rw[wid])
theorem lt_wid:∀(k n:Nat),n<256^k↔wid n<=k
 |0,n=>by rcases tR n with h|h;subst h;simp[zTW];rw[wid_pos h];grind
 |k+1,n=>by rcases tR n with h|h;subst h;simp[zTW,Nat.pow_pos];rw[wid_pos h,Nat.add_le_add_iff_right,<-lt_wid k (n/256),Nat.pow_succ,Nat.div_lt_iff_lt_mul (by decide)]
end Go.Proofs.YtocolhfjpadaoaaGreatDoor
