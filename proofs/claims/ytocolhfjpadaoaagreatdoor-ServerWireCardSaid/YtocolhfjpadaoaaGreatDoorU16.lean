/-
  Lemmas of this claim, joined.
-/
import Derived.Test.YtocolhfjpadaoaaGreatDoorU15
set_option linter.unusedVariables false
set_option linter.unusedSimpArgs false
set_option linter.constructorNameAsVariable false
namespace Go.Proofs.YtocolhfjpadaoaaGreatDoor
open Go
abbrev uU:=@List.drop_eq_nil_of_le
abbrev tG:=@List.cons_append
abbrev sI:=@List.take_append_getElem
abbrev sQ:=@List.length_eq_zero_iff
end Go.Proofs.YtocolhfjpadaoaaGreatDoor
namespace Go.Proofs.YtocolhfjpadaoaaGreatDoor
open Go Go.RowKit
variable {P:Program}{w0:World}{w:World}{m0:Mem}{m:Mem}{o0:OwnM}{o:OwnM}{G:GD}{pins:List Nat}{N:Nat}{a:Act}{op:Oper}{S:Nat->A}{M:Nat->A}{L:SL}{v:Value}{W:World}{Q:Mem}{X:OwnM}
theorem zMB(a b:List UInt8)(hl:a.length=b.length)(hb:a.length<4611686018427387904):∀(n i:Nat),i<=a.length->a.length-i<n->zCi a b n (i:Int)=some (a.drop i==b.drop i)
 |0,i,_,h=>by omega
 |n+1,i,Z,h=>by unfold zCi;by_cases u:i<a.length;((have I:i<b.length:=by omega);rw[zI (yG (by omega)),yC u,wA,yC I,wA,qZ (by omega),zMB a b hl hb n (i+1) (by omega) (by omega)];have U:a.drop i=a[i]::a.drop (i+1):=vL u;have hb:b.drop i=b[i]::b.drop (i+1):=vL I;rw[U,hb];generalize a[i]=x;generalize b[i]=y;by_cases J:x=y;(subst J;rw[zH (zHe rfl)];simp);(rw[zI (zLj (λh=>J (UInt8.toNat_inj.1 (by omega))))];simp[J]));(rw[zH (yE (by omega)),uU (by omega),uU (by omega)];rfl)
theorem zRk(a b:List UInt8)(hb:a.length<4611686018427387904):zFF a b=some (a==b):=by rw[zX4];by_cases hl:a.length=b.length;(rw[zH (zHe (by omega))];exact zMB a b hl hb _ 0 (vI _) (by omega));(rw[zI (zLj (by omega))];congr 1;symm;rw[beq_eq_false_iff_ne];exactλe=>hl (by rw[e]))
theorem zR5(m:Nat):∀(n k:Nat),k<n->wid m<=k->zAV n (be k m)=some (zC2 m)
 |0,k,h,_=>by omega
 |n+1,k,h,U=>by unfold zAV;rw[qO];by_cases J:k=wid m;(subst J;(cases hk:wid m with|zero=>rw[zH (yE (by omega))];unfold zC2;rw[hk]|succ j=>obtain⟨c,I,u⟩:=zW9 j m hk;rw[zI (yG (by omega)),I,zO3,wA];rw[zH (zCN (λe=>u (UInt8.toNat_inj.1 (by rw[show(0:UInt8).toNat=0 from rfl];omega))))];unfold zC2;rw[hk,I]));(obtain⟨j,rfl⟩:∃j,k=j+1:=⟨k-1,by omega⟩;rw[zI (yG (by omega)),be_zero j m (by omega),zO3,wA,zI (zCP (a:=((0:UInt8).toNat:Int)) (b:=0) rfl)];have:=zVH (l:=0::be j m) (n:=1) (by simp);rw[show(0::be j m).length=j+1 by simp[qO]]at this;rw[show((j+1:Nat):Int)=((j+1:Nat):Int)from rfl]at this;rw[show cutI (0::be j m) 1 ((j+1:Nat):Int)=some (be j m)from this,wA];exact zR5 m n j (by omega) (by omega))
theorem zWJ(n:Int)(h0:0<=n)(I:n<=4611686018427387904):zBm n=some (zC2 n.toNat):=by have u:=zHn (n:=n.toNat) (by omega);rw[zST];unfold zAG;rw[if_pos ⟨h0,I,by omega,by omega,(zIH 8 n.toNat).2 u⟩,wA];show zAV ((be 8 n.toNat).length+1) (be 8 n.toNat)=_;rw[qO];exact zR5 n.toNat 9 8 (by omega) u
theorem n_pure_j1(a b c:Bool):zA5 a b c=some (a&&(b&&c)):=by unfold zA5;rw[zVu,zVu]
theorem n_pure(v:V):zEV v=some v.pureB:=by rw[zU1];unfold V.pureB;simp only[n_pure_j1,zTV];by_cases I:v.k=1;(rw[zI (zCP I),if_pos I];cases u:decide (v.n>=0);((have:¬0<=v.n:=by simpa using u);simp[this]);((have:0<=v.n:=by simpa using u);simp[this,Bool.and_assoc]));(rw[zH (zCN I),if_neg I];by_cases u:v.k=2;(rw[zI (zCP u),if_pos u,show decide ((v.b.length:Int)<=1048576)=decide (v.b.length<=1048576)from len_le v.b 1048576,Bool.and_assoc];rfl);(rw[zH (zCN u),if_neg u];by_cases J:v.k=3;(rw[zI (zCP J),if_pos J,show decide ((v.l.length:Int)<=4096)=decide (v.l.length<=4096)from len_le v.l 4096,Bool.and_assoc];rfl);rw[zH (zCN J),if_neg J]))
theorem zKI(n:Nat):(zC2 n).length=wid n:=qO _ _
theorem zPA{v:V}(h:v.pureB=true)(hk:v.k=1):0<=v.n/\v.n<=4611686018427387904:=by unfold V.pureB at h;rw[if_pos hk]at h;simp at h;omega
theorem zOz{v:V}(h:v.pureB=true):v.b.length<=1048576/\v.l.length<=4096:=by unfold V.pureB at h;split at h;simp at h;simp[h];split at h;simp at h;simp[h];split at h;simp at h;simp[h];cases h
def msO:Option Nat->Int×Bool
 |some s=>((s:Int),true)
 |none=>(0,false)
theorem zWe(d:Nat)(I:∀(v:V) (u:Int) (s:Nat),V.mF v u d=some s->0<=u/\(s:Int)<=u+1048580):∀(l:List V) (u:Int) (a s:Nat),(a:Int)<=u+1048580->V.mF.mloop l u d a=some s->(s:Int)<=u+1048580
 |[],u,a,s,U,h=>by rw[V.mF.mloop]at h;injection h with h;omega
 |x::r,u,a,s,U,h=>by rw[V.mF.mloop]at h;split at h;cases h;(rename_i m J;have:=(I x (u-a) m J).2;exact zWe d I r u (a+m) s (by omega) h)
theorem mF_bd:∀(d:Nat) (v:V) (u:Int) (s:Nat),V.mF v u d=some s->0<=u/\(s:Int)<=u+1048580:=by intro d;(induction d with|zero=>intro v u s h;rw[V.mF_eq]at h;split at h;cases h;rename_i I;(have hp:v.pureB=true:=by cases hb:v.pureB<;>simp[hb]at I⊢);(have J:0<=u:=by omega);have hl:=zOz hp;refine⟨J,?_⟩;split at h;(rename_i hk;have:=zHn (n:=v.n.toNat) (by have:=zPA hp hk;omega);injection h with h;omega);(split at h;injection h with h;omega;simp at h)|succ d U=>intro v u s h;rw[V.mF_eq]at h;split at h;cases h;rename_i I;(have hp:v.pureB=true:=by cases hb:v.pureB<;>simp[hb]at I⊢);(have J:0<=u:=by omega);have hl:=zOz hp;refine⟨J,?_⟩;split at h;(rename_i hk;have:=zHn (n:=v.n.toNat) (by have:=zPA hp hk;omega);injection h with h;omega);(split at h;injection h with h;omega;(rw[if_neg (by omega)]at h;exact zWe d U v.l u 3 s (by omega) h)))
theorem zNw(v:V)(u:Int)(d:Nat)(U:u<=1048576)(W:0<=u)(hv:v.l.length<=4096)(self:V->Int->Int->Option (Int×Bool))(hd:d<=1000)
(I:∀x∈v.l,∀Z:Int,Z<=1048576-> -9000000000<=Z->self x Z (d:Int)=some (msO (x.mF Z d))):
 ∀(n i s:Nat),i<=v.l.length->v.l.length-i<n->(s:Int)<=u+1048580->yU zCL v self u ((d+1:Nat):Int) n (s:Int) (i:Int)=some (msO (V.mF.mloop (v.l.drop i) u d s))
 |0,i,s,_,h,_=>by omega
 |n+1,i,s,hi,h,hs=>by unfold yU;by_cases J:i<v.l.length;(have hx:=vX J;rw[zI (yG (by omega)),yC J,wA,zEa (z:=u-s) (by omega) (by omega),zEa (z:=((d+1:Nat):Int)-1) (by omega) (by omega),show((d+1:Nat):Int)-1=(d:Int) by omega,I _ hx _ (by omega) (by omega),wA,vL J,V.mF.mloop];(cases hm:V.mF v.l[i] (u-s) d with|none=>rfl|some m=>have:=(mF_bd d _ _ m hm).2;show yU zCL v self u _ n (wi ((s:Int)+(m:Int))) (wi ((i:Int)+1))=_;rw[qZ (by omega),zEa (by omega) (by omega),show(s:Int)+(m:Int)=((s+m:Nat):Int) by omega];exact zNw v u d U W hv self hd I n (i+1) (s+m) (by omega) (by omega) (by omega)));(rw[zH (yE (by omega)),uU (by omega),V.mF.mloop];rfl)
theorem n_measure:∀(d:Nat) (v:V) (u:Int),d<=1000->u<=1048576-> -9000000000<=u->zAO (d+1) v u (d:Int)=some (msO (v.mF u d)):=by intro d;(induction d with|zero=>intro v u _ W Z;rw[zJ9];rw[n_pure,wA,V.mF_eq];(cases hp:v.pureB with|false=>rfl|true=>rw[zH (c:= !true) rfl];by_cases U:u<0;(rw[zI (yG U),if_pos (.inr U)];rfl);rw[zH (yE U),if_neg (by simp[U]),zH (yE (by omega))];by_cases I:v.k=1;(obtain⟨a,b⟩:=zPA hp I;have:=zHn (n:=v.n.toNat) (by omega);rw[zI (zCP I),if_pos I,zWJ _ a b,wA,zKI,zEa (by omega) (by omega)];rfl);(rw[zH (zCN I),if_neg I];by_cases J:v.k=2;(have:=zOz hp;rw[zI (zCP J),if_pos J,zEa (by omega) (by omega)];rfl);(rw[zH (zCN J),if_neg J,zI (zCP (a:=((0:Nat):Int)) (b:=0) rfl),if_pos rfl];rfl)))|succ d ih=>intro v u hd W Z;rw[zJ9];rw[n_pure,wA,V.mF_eq];(cases hp:v.pureB with|false=>rfl|true=>rw[zH (c:= !true) rfl];by_cases U:u<0;(rw[zI (yG U),if_pos (.inr U)];rfl);rw[zH (yE U),if_neg (by simp[U]),zH (yE (by omega))];by_cases I:v.k=1;(obtain⟨a,b⟩:=zPA hp I;have:=zHn (n:=v.n.toNat) (by omega);rw[zI (zCP I),if_pos I,zWJ _ a b,wA,zKI,zEa (by omega) (by omega)];rfl);(rw[zH (zCN I),if_neg I];have hl:=zOz hp;by_cases J:v.k=2;(rw[zI (zCP J),if_pos J,zEa (by omega) (by omega)];rfl);(rw[zH (zCN J),if_neg J,zH (zCN (by omega)),if_neg (by omega)];have:=zNw v u d W (by omega) hl.2 (zAO (d+1)) (by omega) (λx _ rm I J=>ih x rm (by omega) I J) (v.l.length+1) 0 3 (vI _) (by omega) (by omega);exact this))))
theorem n_Size(v:V):zEW v=some (if v.right=true then((v.sz:Int),true)else(0,false)):=by rw[zUu];have h:=n_measure 16 v 1048576 (by omega) (by omega) (by omega);have h:zAO (Int.toNat 16+1) v 1048576 16=some (msO (v.mF 1048576 16)):=h;rw[h,wA];have hz:=V.sizeF_eq v;unfold V.sizeF at hz;(cases J:V.mF v 1048576 16 with|none=>rw[J]at hz;(have U:¬v.right=true:=λe=>by rw[if_pos e]at hz;cases hz);rw[if_neg U];rfl|some s=>rw[J]at hz;have hz:(if s<=1048576 then some s else none)=if v.right=true then some v.sz else none:=hz;show(bif !true then _ else bif decide ((s:Int)>1048576)then _ else some ((s:Int),true))=_;rw[zH (c:= !true) rfl];by_cases I:s<=1048576;(rw[zH (yE (by omega))];rw[if_pos I]at hz;by_cases u:v.right=true;(rw[if_pos u]at hz⊢;injection hz with hz;rw[hz]);rw[if_neg u]at hz;cases hz);(rw[zI (yG (by omega))];rw[if_neg I]at hz;by_cases u:v.right=true;rw[if_pos u]at hz;cases hz;rw[if_neg u]))
theorem U8_nat{k:Nat}(h:k<256):U8 (k:Int)=UInt8.ofNat k:=by unfold U8;congr 1;omega
theorem zU9(l:List V)(i:Nat)(h:i<l.length):V.enc.encs (l.drop i)=l[i].enc++V.enc.encs (l.drop (i+1)):=by rw[vL h,V.enc.encs]
theorem zWf(l:List V)(i:Nat)(h:i<l.length):V.sz.szs (l.drop i)=l[i].sz+V.sz.szs (l.drop (i+1)):=by rw[vL h,V.sz.szs]
theorem zO7(v:V)(self:List UInt8->V->Option Y)(hl:v.l.length<=4096)(u:∀x∈v.l,∀out:List UInt8,out.length+x.sz<=1000000000->self out x=some (out++x.enc)):
 ∀(n i:Nat) (out:List UInt8),i<=v.l.length->v.l.length-i<n->out.length+V.sz.szs (v.l.drop i)<=1000000000->zAh v self n out (i:Int)=some (out++V.enc.encs (v.l.drop i))
 |0,i,out,_,h,_=>by omega
 |n+1,i,out,U,h,J=>by unfold zAh;by_cases I:i<v.l.length;(rw[zWf _ _ I]at J;rw[zI (yG (by omega)),yC I,wA,u _ (vX I) out (by omega),wA,qZ (by omega),zO7 v self hl u n (i+1) _ (by omega) (by omega) (by rw[wP,V.enc_length];omega),zU9 _ _ I,vG]);rw[zH (yE (by omega)),uU (by omega),V.enc.encs,tT]
theorem n_wput{n k:Nat}(h:n<256^k)(u:1<=k)(I:k<=8)(J:n<=4611686018427387904):zAG (n:Int) (k:Int)=some (be k n,0):=by unfold zAG;rw[if_pos ⟨by omega,by omega,by omega,by omega,by simpa using h⟩];simp
theorem n_wput3{n:Nat}(h:n<16777216):zAG (n:Int) 3=some (be 3 n,0):=n_wput (k:=3) (by omega) (by omega) (by omega) (by omega)
theorem n_wput2{n:Nat}(h:n<65536):zAG (n:Int) 2=some (be 2 n,0):=n_wput (k:=2) (by omega) (by omega) (by omega) (by omega)
theorem n_put:∀(k:Nat) (v:V) (out:List UInt8),v.ht<=k->v.rpure=true->v.sz<=1048576->out.length+v.sz<=1000000000->zAv k out v=some (out++v.enc)
 |0,v,out,h,_,_,_=>absurd v.ht_pos (by omega)
 |k+1,v,out,h,hp,hs,Z=>by rw[zQE];have hf:=V.rpure_flat hp;have I:=V.enc_eq v;have U:=V.enc_length v;by_cases u:v.k=1;(rw[zI (zCP u)];rw[if_pos u]at I;(have W:0<=v.n/\v.n<=4611686018427387904:=by unfold V.flat at hf;rw[if_pos u]at hf;simp at hf;omega);have hw:=zHn (n:=v.n.toNat) (by omega);rw[zWJ _ W.1 W.2,wA,yV (by simp;omega),wA,yV (by simp[zKI];omega),wA,I,zKI,U8_nat (by omega)];simp);(rw[zH (zCN u)];rw[if_neg u]at I;by_cases J:v.k=2;(rw[zI (zCP J)];rw[if_pos J]at I;(have hb:v.b.length<=1048576:=by rw[I]at U;simp[qO]at U;omega);rw[n_wput3 (by omega),wA,yV (by simp;omega),wA,yV (by simp[qO];omega),wA,yV (by simp[qO];omega),wA,I];simp);(rw[zH (zCN J)];rw[if_neg J]at I;obtain⟨h3,_,_,hl⟩:=V.flat_kind hf u J;have hi:=V.rpure_items hp h3;rw[n_wput2 (by omega),wA,yV (by simp;omega),wA,yV (by simp[qO];omega),wA];(have hz:V.sz.szs v.l+3=v.sz:=by(cases v with|mk k n b l=>have u:¬k=1:=u;have J:¬k=2:=J;rw[V.sz,if_neg u,if_neg J];show V.sz.szs l+3=_;omega));have:=zO7 v (zAv k) hl (λx hx o Z=>n_put k x o (by have:=V.ht_item v x hx;omega) (hi x hx) (by have:=V.sz_le_szs v.l x hx;omega) Z) (v.l.length+1) 0 (out++[3]++be 2 v.l.length) (vI _) (by omega) (by simp[qO];omega);rw[show(0:Int)=((0:Nat):Int)from rfl,this,I];simp))
theorem zK2(v:V):∀(n:Nat) (o:List UInt8) (i:Int),zAt v n o i=zAh v (λo x=>zAv x.ht o x) n o i
 |0,_,_=>rfl
 |n+1,o,i=>by unfold zAt zAh;simp only[zK2 v n]
theorem n_put_n0(v:V)(hp:v.rpure=true)(U:v.sz<=1048576):zCB v=some v.enc:=by(have h:zCB v=zAv (v.ht+1) [] v:=by rw[zRD];rw[zQE];by_cases I:v.k=1;rw[zI (zCP I),zI (zCP I)];(rw[zH (zCN I),zH (zCN I)];by_cases u:v.k=2;rw[zI (zCP u),zI (zCP u)];(rw[zH (zCN u),zH (zCN u)];have hf:=V.rpure_flat hp;obtain⟨h3,_,_,hl⟩:=V.flat_kind hf I u;have Z:=V.rpure_items hp h3;(have hz:V.sz.szs v.l<=1048576:=by(cases v with|mk k n b l=>have I:¬k=1:=I;have u:¬k=2:=u;rw[V.sz,if_neg I,if_neg u]at U;show V.sz.szs l<=_;omega));rw[n_wput2 (by omega),wA,wA,yV (by simp),wA,wA,yV (by simp[qO]),wA,wA,zK2];have W:=zO7 v (λo x=>zAv x.ht o x) hl (λx hx o J=>n_put x.ht x o (wL _) (Z x hx) (by have:=V.sz_le_szs v.l x hx;omega) J) (v.l.length+1) 0 ([]++[3]++be 2 v.l.length) (vI _) (by omega) (by simp[qO];omega);have e2:=zO7 v (zAv v.ht) hl (λx hx o J=>n_put v.ht x o (by have:=V.ht_item v x hx;omega) (Z x hx) (by have:=V.sz_le_szs v.l x hx;omega) J) (v.l.length+1) 0 ([]++[3]++be 2 v.l.length) (vI _) (by omega) (by simp[qO];omega);exact W.trans e2.symm)));rw[h,n_put (v.ht+1) v [] (by omega) hp U (by simp;omega),List.nil_append]
theorem zU5{v:V}(h:v.right=true):v.rpure=true/\v.deep<=16/\v.sz<=1048576:=by unfold V.right at h;simpa[and_assoc]using h
theorem n_Encode(v:V):zB7 v=some (if v.right=true then(v.enc,0)else([],2)):=by rw[zQu];(try rw[V.eta]);rw[n_Size,wA];by_cases h:v.right=true;(rw[if_pos h,if_pos h];rw[zH (c:= !true) rfl,n_put_n0 v (zU5 h).1 (zU5 h).2.2];rfl);(rw[if_neg h,if_neg h];rfl)
def pvN:List UInt8->Except Int (V×List UInt8)
 |[]=> .error 10
 |c::r=>if 8<c.toNat then .error 11 else if r.length<c.toNat then .error 10 else if c.toNat=0 then .ok (.mk 1 0 [] [],r)else if 4611686018427387904<ofBE (r.take c.toNat)\/r.head?=some 0 then .error 11 else .ok (.mk 1 (ofBE (r.take c.toNat)) [] [],r.drop c.toNat)
theorem pvN_nil:pvN []= .error 10:=rfl
theorem zW3(c:UInt8)(r:List UInt8):pvN (c::r)=if 8<c.toNat then .error 11 else if r.length<c.toNat then .error 10 else if c.toNat=0 then .ok (.mk 1 0 [] [],r)
 else if 4611686018427387904<ofBE (r.take c.toNat)\/r.head?=some 0 then .error 11 else .ok (.mk 1 (ofBE (r.take c.toNat)) [] [],r.drop c.toNat):=rfl
def pvB(b:List UInt8):Except Int (V×List UInt8):=
 if b.length<3 then .error 10 else if(b.drop 3).length<ofBE (b.take 3)then .error 10 else .ok (.mk 2 0 ((b.drop 3).take (ofBE (b.take 3))) [],(b.drop 3).drop (ofBE (b.take 3)))
def pvI(f:List UInt8->Except Int (V×List UInt8)):Nat->List UInt8->Except Int (List V×List UInt8)
 |0,b=> .ok ([],b)
 |n+1,b=>match f b with| .error e=> .error e| .ok (v,r)=>match pvI f n r with| .error e=> .error e| .ok (l,u)=> .ok (v::l,u)
def pvL(x:Except Int (List V×List UInt8)):Except Int (V×List UInt8):=match x with
 | .error e=> .error e
 | .ok (l,r)=> .ok (.mk 3 0 [] l,r)
def pvK(u:Option (List UInt8->Except Int (V×List UInt8))):List UInt8->Except Int (V×List UInt8)
 |[]=> .error 10
 |k::b=>if k.toNat=1 then pvN b else if k.toNat=2 then pvB b else if k.toNat=3 then(if b.length<2 then .error 10 else if 4096<ofBE (b.take 2)then .error 11 else match u with|none=> .error 11|some f=>pvL (pvI f (ofBE (b.take 2)) (b.drop 2)))else .error 11
def pv:Nat->List UInt8->Except Int (V×List UInt8)
 |0=>pvK none
 |d+1=>pvK (some (pv d))
theorem zSy(u:Option (List UInt8->Except Int (V×List UInt8))):pvK u []= .error 10:=rfl
theorem zGE(u:Option (List UInt8->Except Int (V×List UInt8)))(k:UInt8)(b:List UInt8):pvK u (k::b)=if k.toNat=1 then pvN b else if k.toNat=2 then pvB b else if k.toNat=3 then
 (if b.length<2 then .error 10 else if 4096<ofBE (b.take 2)then .error 11 else match u with
  |none=> .error 11
  |some f=>pvL (pvI f (ofBE (b.take 2)) (b.drop 2)))
 else .error 11:=rfl
def decS(b:List UInt8):Except Int V:=if 1048576<b.length then .error 3 else match pv 16 b with
 | .error e=> .error e
 | .ok (v,r)=>if r.isEmpty=true then .ok v else .error 12
theorem pvI_err{f:List UInt8->Except Int (V×List UInt8)}(hf:∀b e,f b= .error e->e=10\/e=11):∀(n:Nat) (b:List UInt8) (e:Int),pvI f n b= .error e->e=10\/e=11
 |0,b,e,h=>by cases h
 |n+1,b,e,h=>by rw[pvI]at h;split at h;grind;(rename_i v r hv;split at h;(rename_i I u;injection h with h;subst h;exact pvI_err hf n r _ u);cases h)
theorem pvK_err{u:Option (List UInt8->Except Int (V×List UInt8))}(I:∀f,u=some f->∀b e,f b= .error e->e=10\/e=11):∀(b:List UInt8) (e:Int),pvK u b= .error e->e=10\/e=11
 |[],e,h=>by rw[zSy]at h;injection h with h;omega
 |k::b,e,h=>by rw[zGE]at h;split at h;(unfold pvN at h;grind);split at h;(unfold pvB at h;grind);split at h;(split at h;grind;split at h;grind;split at h;grind;(rename_i f;unfold pvL at h;split at h;(rename_i U J;injection h with h;subst h;exact pvI_err (I f rfl) _ _ _ J);cases h));grind
theorem pv_err:∀(d:Nat) (b:List UInt8) (e:Int),pv d b= .error e->e=10\/e=11
 |0=>pvK_err λf h=>by cases h
 |d+1=>pvK_err λf h=>by injection h with h;subst h;exact pv_err d
theorem zUe{n:Int}(h0:0<=n)(u:n<=4611686018427387904):V.rpure (.mk 1 n [] [])=true:=by simp[V.rpure,V.flat,V.k,V.n,V.b,V.l,h0,u]
theorem zSF{l:List V}(h:l.length<=4096)(hl:∀x∈l,x.rpure=true):V.rpure (.mk 3 0 [] l)=true:=by rw[V.rpure,if_pos rfl,(V.all_iff l).2 hl];simp[V.flat,V.k,V.n,V.b,V.l,h]
theorem zPT{k:UInt8}{n:Nat}(h:k.toNat=n):k=UInt8.ofNat n:=by rw[<-h];simp
theorem pvN_sound{b:List UInt8}{v:V}{r:List UInt8}(h:pvN b= .ok (v,r)):1::b=v.enc++r/\v.rpure=true/\v.deep=0:=by unfold pvN at h;split at h;cases h;rename_i c I;split at h;cases h;rename_i h8;split at h;cases h;rename_i hl;split at h;(rename_i Z;injection h with h;injection h with J U;subst J U;refine⟨?_,by simp[V.rpure,V.flat,V.k,V.n,V.b,V.l],by simp[V.deep]⟩;rw[V.enc,if_pos rfl,zPT Z];simp[zC2,zO5,be,le]);rename_i Z;split at h;cases h;rename_i W;injection h with h;injection h with J U;subst J U;(have β:I.take c.toNat≠[]:=by intro e;have:=congrArg List.length e;grind);(have u:(I.take c.toNat).length=c.toNat:=by simp;omega);(obtain⟨x,y,α⟩:∃x y,I.take c.toNat=x::y:=by(cases ht:I.take c.toNat with|nil=>grind|cons x y=>grind));(have hx:x≠0:=by intro e;subst e;apply W;right;(cases I with|nil=>grind|cons z w=>grind));(have hw:wid (ofBE (I.take c.toNat))=c.toNat:=by have J:=zJm c.toNat _ u;have U:=(zIH c.toNat _).1 J;rcases wR (wid (ofBE (I.take c.toNat))) c.toNat with h3|h3;(exfalso;have h4:=zPt c.toNat _ u;obtain⟨j,hj⟩:∃j,c.toNat=j+1:=⟨c.toNat-1,by omega⟩;have h5:=be_zero j (ofBE (I.take c.toNat)) (by omega);grind);omega);refine⟨?_,?_,by simp[V.deep]⟩;(rw[V.enc,if_pos rfl];simp only[uF];unfold zC2;rw[hw,zPt _ _ u];simp);(have:ofBE (I.take c.toNat)<=4611686018427387904:=Nat.le_of_not_lt λh=>W (.inl h);exact zUe (by omega) (by omega))
theorem zVN{f:List UInt8->Except Int (V×List UInt8)}{d:Nat}(hf:∀b v r,f b= .ok (v,r)->b=v.enc++r/\v.rpure=true/\v.deep<=d):∀(n:Nat) (b:List UInt8) (l:List V) (r:List UInt8),pvI f n b= .ok (l,r)->b=V.enc.encs l++r/\l.length=n/\∀x∈l,x.rpure=true/\x.deep<=d
 |0,b,l,r,h=>by rw[pvI]at h;injection h with h;injection h with I u;subst I u;exact⟨rfl,rfl,λx hx=>by cases hx⟩
 |n+1,b,l,r,h=>by rw[pvI]at h;split at h;cases h;rename_i v r1 hv;split at h;cases h;rename_i Z r2 hl;injection h with h;injection h with I u;subst I u;obtain⟨a1,a2,a3⟩:=hf _ _ _ hv;obtain⟨J,U,W⟩:=zVN hf n _ _ _ hl;refine⟨by rw[a1,J,V.enc.encs,vG],by simp[U],λx hx=> ?_⟩;grind
theorem zUb{d:Nat}{u:Option (List UInt8->Except Int (V×List UInt8))}(hs:∀f,u=some f->∃J,d=J+1/\∀b v r,f b= .ok (v,r)->b=v.enc++r/\v.rpure=true/\v.deep<=J):∀(b:List UInt8) (v:V) (r:List UInt8),pvK u b= .ok (v,r)->b=v.enc++r/\v.rpure=true/\v.deep<=d
 |[],v,r,h=>by rw[zSy]at h;cases h
 |k::b,v,r,h=>by rw[zGE]at h;split at h;(rename_i hk;obtain⟨a1,a2,a3⟩:=pvN_sound h;exact⟨by rw[zPT hk];exact a1,a2,by omega⟩);split at h;(rename_i hk;unfold pvB at h;split at h;cases h;rename_i W;split at h;cases h;rename_i hl;injection h with h;injection h with U Z;subst U Z;refine⟨?_,by simp[V.rpure,V.flat,V.k,V.n,V.b,V.l],by simp[V.deep]⟩;(have I:((b.drop 3).take (ofBE (b.take 3))).length=ofBE (b.take 3):=by rw[uA];omega);rw[V.enc,if_neg (by decide),if_pos rfl,I,zPt 3 _ (by simp;omega),zPT hk,tG,vG,uW,uW];rfl);split at h;(rename_i hk;split at h;cases h;rename_i Z;split at h;cases h;rename_i hn;split at h;cases h;rename_i f;obtain⟨J,rfl,hf⟩:=hs f rfl;unfold pvL at h;split at h;cases h;rename_i l r1 hl;injection h with h;injection h with U W;subst U W;obtain⟨a1,a2,a3⟩:=zVN hf _ _ _ _ hl;refine⟨?_,?_,?_⟩;(rw[V.enc,if_neg (by decide),if_neg (by decide),a2,zPt 2 _ (by simp;omega),zPT hk];rw[tG,vG,<-a1,uW];rfl);exact zSF (by omega) λx hx=>(a3 x hx).1;(rw[V.deep,if_pos rfl];exact V.dm_le l 1 _ (λx hx=>by have:=(a3 x hx).2;omega) (by omega)));cases h
theorem zWb:∀(d:Nat) (b:List UInt8) (v:V) (r:List UInt8),pv d b= .ok (v,r)->b=v.enc++r/\v.rpure=true/\v.deep<=d
 |0=>zUb λf h=>by cases h
 |d+1=>zUb λf h=>by injection h with h;subst h;exact⟨d,rfl,zWb d⟩
theorem zW5{f:List UInt8->Except Int (V×List UInt8)}:∀(l:List V) (r:List UInt8),(∀x∈l,∀r,f (x.enc++r)= .ok (x,r))->pvI f l.length (V.enc.encs l++r)= .ok (l,r)
 |[],r,_=>rfl
 |x::l,r,h=>by rw[tO,pvI,V.enc.encs,vG,h x sN];simp only;rw[zW5 l r λy hy=>h y (vM _ hy)]
theorem zWQ(n:Int)(h0:0<=n)(h1:n<=4611686018427387904)(r:List UInt8):pvN (UInt8.ofNat (wid n.toNat)::zC2 n.toNat++r)= .ok (.mk 1 n [] [],r):=by have W:=zHn (n:=n.toNat) (by omega);(have Z:(UInt8.ofNat (wid n.toNat)).toNat=wid n.toNat:=by simp;omega);have hl:(zC2 n.toNat).length=wid n.toNat:=zMo _;have u:=(zIH (wid n.toNat) n.toNat).2 (wL _);rw[tG,pvN,Z,if_neg (by omega),if_neg (by simp[hl])];by_cases hz:wid n.toNat=0;grind;(obtain⟨k,hk⟩:∃k,wid n.toNat=k+1:=⟨wid n.toNat-1,by omega⟩;obtain⟨c,I,U⟩:=zW9 k n.toNat hk;(have ht:(zC2 n.toNat++r).take (wid n.toNat)=zC2 n.toNat:=by rw[<-hl,tZ]);(have hd:(zC2 n.toNat++r).drop (wid n.toNat)=r:=by rw[<-hl,List.drop_left]);(have J:ofBE (zC2 n.toNat)=n.toNat:=by unfold zC2;rw[zS0,tM u]);rw[if_neg hz,ht,hd,J,if_neg];grind;(rintro(h|h);omega;(unfold zC2 at h;grind)))
theorem pv_full:∀(d:Nat) (v:V) (r:List UInt8),v.rpure=true->v.deep<=d->v.sz<=1048576->pv d (v.enc++r)= .ok (v,r):=by intro d;(induction d with|zero=>intro v r hp hd hs;have hf:=V.rpure_flat hp;have U:=V.enc_eq v;have u:=V.enc_length v;rw[U];by_cases I:v.k=1;(rw[if_pos I,tG,pv,zGE,if_pos (by decide)];unfold V.flat at hf;rw[if_pos I]at hf;simp at hf;rw[zWQ v.n (by omega) (by omega) r];have:=V.eta v;grind);(rw[if_neg I];by_cases J:v.k=2;exact raw_full none v r J hf hs U u I;(obtain⟨W,_,_,_⟩:=V.flat_kind hf I J;exfalso;rw[V.deep_eq v W]at hd;have:=dm_ge1 v.l 1;omega))|succ d ih=>intro v r hp hd hs;have hf:=V.rpure_flat hp;have U:=V.enc_eq v;have u:=V.enc_length v;rw[U];by_cases I:v.k=1;(rw[if_pos I,tG,pv,zGE,if_pos (by decide)];unfold V.flat at hf;rw[if_pos I]at hf;simp at hf;rw[zWQ v.n (by omega) (by omega) r];have:=V.eta v;grind);(rw[if_neg I];by_cases J:v.k=2;exact raw_full (some (pv d)) v r J hf hs U u I;(obtain⟨W,hn,hb,hl⟩:=V.flat_kind hf I J;have hi:=V.rpure_items hp W;rw[if_neg J,tG,pv,zGE,if_neg (by decide),if_neg (by decide),if_pos (by decide)];(have ht:(be 2 v.l.length++V.enc.encs v.l++r).take 2=be 2 v.l.length:=by rw[vG,List.take_left' (qO _ _)]);(have Z:(be 2 v.l.length++V.enc.encs v.l++r).drop 2=V.enc.encs v.l++r:=by rw[vG,List.drop_left' (qO _ _)]);rw[ht,Z,zS0,tM (by omega),if_neg (by simp[qO]),if_neg (by omega)];show pvL (pvI (pv d) v.l.length (V.enc.encs v.l++r))=_;(have hz:V.sz.szs v.l+3=v.sz:=by(cases v with|mk k n b l=>have I:¬k=1:=I;have J:¬k=2:=J;rw[V.sz,if_neg I,if_neg J];show V.sz.szs l+3=_;omega));rw[V.deep_eq v W]at hd;rw[zW5 v.l r λx hx r=>ih x r (hi x hx) (by have:=dm_mem v.l 1 x hx;omega) (by have:=V.sz_le_szs v.l x hx;omega)];have:=V.eta v;rw[W,hn,hb]at this;show Except.ok (V.mk 3 0 [] v.l,r)=_;rw[this])))
where
 dm_ge1:∀(l:List V) (e:Nat),e<=V.deep.dm l e
  |[],_=>wL _
  |x::r,e=>vR (Nat.le_max_left _ _) (by rw[V.deep.dm];exact dm_ge1 r _)
 dm_mem:∀(l:List V) (e:Nat) (x:V),x∈l->x.deep+1<=V.deep.dm l e
  |y::r,e,x,h=>by rw[V.deep.dm];rcases vD.1 h with rfl|h;exact vR (Nat.le_max_right _ _) (dm_ge1 r _);exact dm_mem r _ x h
 raw_full (α:Option (List UInt8->Except Int (V×List UInt8))) (v:V) (r:List UInt8) (J:v.k=2) (hf:v.flat=true) (hs:v.sz<=1048576) (U:v.enc=if v.k=1 then 1::UInt8.ofNat (wid v.n.toNat)::zC2 v.n.toNat else if v.k=2 then 2::(be 3 v.b.length++v.b)else 3::(be 2 v.l.length++V.enc.encs v.l)) (u:v.enc.length=v.sz) (I:¬v.k=1):pvK α ((if v.k=2 then 2::(be 3 v.b.length++v.b)else 3::(be 2 v.l.length++V.enc.encs v.l))++r)= .ok (v,r):=by rw[if_neg I,if_pos J]at U;rw[if_pos J,tG,zGE,if_neg (by decide),if_pos (by decide)];(have hb:v.b.length<=1048576:=by rw[U]at u;simp[qO]at u;omega);(have ht:(be 3 v.b.length++v.b++r).take 3=be 3 v.b.length:=by rw[vG,List.take_left' (qO _ _)]);(have Z:(be 3 v.b.length++v.b++r).drop 3=v.b++r:=by rw[vG,List.drop_left' (qO _ _)]);unfold pvB;rw[ht,Z,zS0,tM (by omega),if_neg (by simp[qO]),if_neg (by simp),tZ,List.drop_left];unfold V.flat at hf;rw[if_neg I,if_pos J]at hf;simp at hf;have:=V.eta v;rw[J,hf.1,hf.2]at this;rw[this]
theorem decS_enc{v:V}(h:v.rpure=true/\v.deep<=16/\v.sz<=1048576):decS v.enc= .ok v:=by have:=pv_full 16 v [] h.1 h.2.1 h.2.2;rw[tT]at this;unfold decS;rw[if_neg (by rw[V.enc_length];omega),this];rfl
theorem decS_ok{b:List UInt8}{v:V}(h:decS b= .ok v):b=v.enc/\v.rpure=true/\v.deep<=16/\v.sz<=1048576:=by unfold decS at h;split at h;cases h;rename_i hl;split at h;cases h;rename_i I r hv;split at h;(rename_i u;injection h with h;subst h;obtain⟨a1,a2,a3⟩:=zWb 16 _ _ _ hv;(have:r=[]:=by simpa using u);subst this;rw[tT]at a1;exact⟨a1,a2,a3,by rw[<-V.enc_length,<-a1];omega⟩);cases h
theorem decS_err{b:List UInt8}{e:Int}(h:decS b= .error e):e=3\/e=10\/e=11\/e=12:=by unfold decS at h;split at h;grind;split at h;(rename_i I u;injection h with h;subst h;have:=pv_err _ _ _ u;omega);grind
def getN(b:List UInt8):Int:=if b.length=0\/8<b.length\/4611686018427387904<ofBE b then 0 else ofBE b
def getE(b:List UInt8):Int:=if b.length=0 then 10 else if 8<b.length then 2 else if 4611686018427387904<ofBE b then 11 else 0
theorem zWU(b:List UInt8)(hb:b.length<=8):∀(n i:Nat),i<=b.length->b.length-i<n->zBt zBs b n ((ofBE (b.take i):Nat):Int) (i:Int)=zBs ((ofBE b:Nat):Int)
 |0,i,_,h=>by omega
 |n+1,i,J,h=>by unfold zBt;by_cases u:i<b.length;((have I:ofBE (b.take i)<72057594037927936:=by have h:=zJm i (b.take i) (by simp;omega);have:256^i<=256^7:=Nat.pow_le_pow_right (by omega) (by omega);omega);(have ht:ofBE (b.take (i+1))=ofBE (b.take i)*256+b[i].toNat:=by rw[<-sI u,zIw]);rw[zI (yG (by omega)),yC u,wA,get_step _ _ I b[i].toNat_lt,<-ht,qZ (by omega)];exact zWU b hb n (i+1) (by omega) (by omega));rw[zH (yE (by omega)),tD (by omega)]
theorem n_Get(b:List UInt8):zD0 b=some (getN b,getE b):=by rw[zX1];unfold getN getE;by_cases I:b.length=0;rw[zI (zCP (by omega)),if_pos (.inl I),if_pos I];(rw[zH (zCN (by omega)),if_neg I];by_cases u:8<b.length;rw[zI (yG (by omega)),if_pos (.inr (.inl u)),if_pos u];(rw[zH (yE (by omega)),if_neg u];have:=zWU b (by omega) (b.length+1) 0 (vI _) (by omega);have h:zBt zBs b (b.length+1) 0 0=zBs ((ofBE b:Nat):Int):=this;rw[h];unfold zBs;by_cases hb:4611686018427387904<ofBE b;rw[zI (yG (by omega)),if_pos (.inr (.inr hb)),if_pos hb];rw[zH (yE (by omega)),if_neg (by omega),if_neg hb,zEa (by omega) (by omega)]))
theorem zMK{b:List UInt8}{n:Nat}(h:n<=b.length):zY ⟨b,0⟩ (n:Int)=some (b.take n,⟨b.drop n,0⟩):=by rw[zDF];rw[zI (zCP rfl),zH (yE (by show¬(n:Int)>(b.length:Int);omega))];unfold yJ;show(bif ((0:Int) !=0)then _ else _)=_;rw[zH (zHe rfl)];show Option.bind (cutI b 0 (n:Int)) _=_;rw[cutI_take h,wA];show Option.bind (cutI b (n:Int) (b.length:Int)) _=_;rw[zVH h];rfl
theorem zKH{b:List UInt8}{n:Nat}(h:b.length<n):zY ⟨b,0⟩ (n:Int)=some ([],⟨b,10⟩):=by rw[zDF];rw[zI (zCP rfl),zI (yG (by show(n:Int)>(b.length:Int);omega))];rfl
theorem zR0{b:List UInt8}{e n:Int}(h:e≠0):zY ⟨b,e⟩ n=some ([],⟨b,e⟩):=by rw[zDF];rw[zH (zCN h)];unfold yJ;rw[zI (zLj h)]
theorem getN_nil:getN []=0:=rfl
theorem zM2{b:List UInt8}(h:0<b.length)(u:b.length<=3):getN b=ofBE b:=by have:=zJm b.length b rfl;have:256^b.length<=256^3:=Nat.pow_le_pow_right (by omega) u;unfold getN;rw[if_neg (by omega)]
theorem zX2{b:List UInt8}{n:Nat}(h:n<=b.length)(h0:0<n)(u:n<=3):qC ⟨b,0⟩ (n:Int)=some ((ofBE (b.take n):Int),⟨b.drop n,0⟩):=by rw[zEx];rw[zMK h,wA,n_Get,wA,zM2 (by simp;omega) (by simp;omega)]
theorem zVr{b:List UInt8}{n:Nat}(h:b.length<n):qC ⟨b,0⟩ (n:Int)=some (0,⟨b,10⟩):=by rw[zEx];rw[zKH h,wA,n_Get,wA,getN_nil]
theorem n_fail(b:List UInt8):zR ⟨b,0⟩=some ⟨b,11⟩:=rfl
theorem zXx{b:List UInt8}{e:Int}(h:e≠0):zR ⟨b,e⟩=some ⟨b,e⟩:=by rw[zLn];rw[zH (zCN h)]
theorem zXV{b:List UInt8}(z:Int){n:Nat}(hz:z=n)(h:n<=b.length):zY ⟨b,0⟩ z=some (b.take n,⟨b.drop n,0⟩):=by rw[hz,zMK h]
theorem zVk{b:List UInt8}(z:Int){n:Nat}(hz:z=n)(h:b.length<n):zY ⟨b,0⟩ z=some ([],⟨b,10⟩):=by rw[hz,zKH h]
theorem zLW{b:List UInt8}(z:Int){n:Nat}(hz:z=n)(h:n<=b.length)(h0:0<n)(u:n<=3):qC ⟨b,0⟩ z=some ((ofBE (b.take n):Int),⟨b.drop n,0⟩):=by rw[hz,zX2 h h0 u]
theorem zJP{b:List UInt8}(z:Int){n:Nat}(hz:z=n)(h:b.length<n):qC ⟨b,0⟩ z=some (0,⟨b,10⟩):=by rw[hz,zVr h]
def zH5(x:Option (V×zD))(y:Except Int (V×List UInt8)):Prop:=match y with
 | .ok (v,r)=>x=some (v,⟨r,0⟩)
 | .error e=>e≠0/\∃v r,x=some (v,⟨r,e⟩)
theorem zB2{x:Option (V×zD)}{e:Int}(u:e≠0)(h:∃v r,x=some (v,⟨r,e⟩)):zH5 x (.error e):=⟨u,h⟩
theorem zRg{u:Int×zD}{b:List UInt8}{e:Int}(h:e≠0):qS u b e=some (.mk 1 0 [] [],⟨b,e⟩):=by unfold qS;rw[zR0 h,wA];rfl
theorem n_number(b:List UInt8):zH5 (yF ⟨b,0⟩) (pvN b):=by rw[zJq];(cases b with|nil=>rw[zJP (b:=[]) 1 (n:=1) rfl (by simp),wA,pvN_nil];refine zB2 (by decide) ⟨.mk 1 0 [] [],[],?_⟩;rw[zH (yE (by show¬(0:Int)>8;decide))];exact zRg (by decide)|cons c r=>rw[zLW (b:=c::r) 1 (n:=1) rfl (by simp) (by omega) (by omega),wA];(have h1:ofBE ((c::r).take 1)=c.toNat:=by simp[ofBE]);have W:(c::r).drop 1=r:=rfl;rw[h1,W,zW3];by_cases U:8<c.toNat;(rw[if_pos U];refine zB2 (by decide) ⟨.mk 1 0 [] [],r,?_⟩;rw[zI (yG (by show(c.toNat:Int)>8;omega))];show Option.bind (zR ⟨r,0⟩) _=_;rw[n_fail,wA];exact zRg (e:=11) (by decide));(rw[if_neg U,zH (yE (by show¬(c.toNat:Int)>8;omega))];show zH5 (qS ((c.toNat:Int),⟨r,0⟩) r 0) _;unfold qS;show zH5 (Option.bind (zY ⟨r,0⟩ (c.toNat:Int)) _) _;by_cases hl:r.length<c.toNat;(rw[if_pos hl,zKH hl,wA];exact zB2 (by decide) ⟨.mk 1 0 [] [],r,rfl⟩);(rw[if_neg hl,zMK (by omega),wA];by_cases J:c.toNat=0;(rw[if_pos J,J];rfl);(rw[if_neg J];(have u:(r.take c.toNat).length=c.toNat:=by simp;omega);rw[zH (zCN (by show((r.take c.toNat).length:Int)≠0;rw[u];omega))];show zH5 (Option.bind (zD0 (r.take c.toNat)) _) _;rw[n_Get,wA];unfold getN getE;rw[u,if_neg (show¬c.toNat=0 from J),if_neg U];by_cases hb:4611686018427387904<ofBE (r.take c.toNat);(rw[if_pos (show c.toNat=0\/8<c.toNat\/4611686018427387904<ofBE (r.take c.toNat)from .inr (.inr hb)),if_pos hb,if_pos (.inl hb)];refine zB2 (by decide) ⟨.mk 1 0 [] [],r.drop c.toNat,?_⟩;rfl);(rw[if_neg (show¬(c.toNat=0\/8<c.toNat\/4611686018427387904<ofBE (r.take c.toNat)) by omega),if_neg hb];(obtain⟨x,y,I⟩:∃x y,r.take c.toNat=x::y:=by(cases ht:r.take c.toNat with|nil=>rw[ht]at u;simp at u;omega|cons x y=>exact⟨x,y,rfl⟩));(have hx:r.head?=some x:=by(cases r with|nil=>simp at I|cons z w=>(cases Z:c.toNat with|zero=>omega|succ j=>rw[Z]at I;simp at I;simp[I.1])));rw[hx];rw[zH (zHe rfl)];show zH5 (Option.bind (idx (r.take c.toNat) 0) _) _;rw[I,zO3,wA,<-I];by_cases hz:x=0;(subst hz;rw[if_pos (.inr rfl),zI (zCP (a:=((0:UInt8).toNat:Int)) (b:=0) rfl)];exact zB2 (by decide) ⟨_,_,rfl⟩);(rw[if_neg (by simp[hb,hz]),zH (zCN (λe=>hz (UInt8.toNat_inj.1 (by rw[show(0:UInt8).toNat=0 from rfl];omega))))];rfl))))))
theorem zWP{I:Int×zD}{self:zD->Int->Option (V×zD)}{J:Int}{u:V}{n:Nat}{b:List UInt8}{e:Int}{l:List V}{i:Int}(h:e≠0):zS I self J u (n+1) b e l i=some (.mk u.k u.n [] l,⟨b,e⟩):=by unfold zS;rw[zH (c:=e==0) (zCN h)];cases decide (i<I.1)<;>rfl
theorem zR3(N:Nat)(hN:N<=65536)(q:zD)(f:List UInt8->Except Int (V×List UInt8))(self:zD->Int->Option (V×zD))(d:Nat)(hd:d<=1000)(u:∀b,zH5 (self ⟨b,0⟩ (d:Int)) (f b)):
 ∀(n i:Nat) (b:List UInt8) (l:List V),i<=N->N-i<n->l.length=i->zH5 (zS ((N:Int),q) self ((d+1:Nat):Int) (.mk 3 0 [] []) n b 0 l (i:Int)) (match pvI f (N-i) b with| .error e=> .error e| .ok (U,r)=> .ok (.mk 3 0 [] (l++U),r))
 |0,i,b,l,_,h,_=>by omega
 |n+1,i,b,l,hi,h,hl=>by unfold zS;by_cases α:i<N;(rw[zI (yG (by show(i:Int)<(N:Int);omega)),zI (zCP rfl),zEa (by omega) (by omega),show((d+1:Nat):Int)-1=(d:Int) by omega];obtain⟨j,hj⟩:∃j,N-i=j+1:=⟨N-i-1,by omega⟩;have I:=u b;rw[hj,pvI];(cases hf:f b with|error e=>rw[hf]at I;obtain⟨he,v,r,I⟩:=I;rw[I,wA];refine⟨he,?_⟩;rw[yV (by simp;omega),wA];obtain⟨W,rfl⟩:∃W,n=W+1:=⟨n-1,by omega⟩;exact⟨_,_,zWP he⟩|ok vr=>obtain⟨v,r⟩:=vr;rw[hf]at I;have I:self ⟨b,0⟩ (d:Int)=some (v,⟨r,0⟩):=I;rw[I,wA];rw[yV (by simp;omega),wA,qZ (by omega)];have J:=zR3 N hN q f self d hd u n (i+1) r (l++[v]) (by omega) (by omega) (by simp[hl]);rw[show N-(i+1)=j by omega]at J;show zH5 (zS ((N:Int),q) self ((d+1:Nat):Int) (.mk 3 0 [] []) n r 0 (l++[v]) ((i+1:Nat):Int)) _;(show zH5 _ (match(match pvI f j r with| .error e=>(.error e:Except Int (List V×List UInt8))| .ok (U,Z)=> .ok (v::U,Z))with| .error e=> .error e| .ok (U,Z)=> .ok (.mk 3 0 [] (l++U),Z)));generalize pvI f j r=z at J⊢;(cases z with|error e=>exact J|ok lr=>obtain⟨U,Z⟩:=lr;have J:zS _ _ _ _ _ _ _ _ _=_:=J;show zS _ _ _ _ _ _ _ _ _=_;rw[J,vG];rfl)));(rw[zH (yE (by show¬(i:Int)<(N:Int);omega)),show N-i=0 by omega,pvI];show some _=some _;rw[tT];rfl)
theorem zWA(b:List UInt8):zH5 ((yF ⟨b,0⟩).bind λI=>some ((V.mk I.1.k I.1.n [] []),I.2)) (pvN b):=by have h:=n_number b;(cases hp:pvN b with|error e=>rw[hp]at h;obtain⟨J,v,r,h⟩:=h;rw[h];exact⟨J,_,_,rfl⟩|ok U=>obtain⟨v,r⟩:=U;rw[hp]at h;have h:yF ⟨b,0⟩=some (v,⟨r,0⟩):=h;rw[h];(have:v.b=[]/\v.l=[]:=by unfold pvN at hp;split at hp;cases hp;split at hp;cases hp;split at hp;cases hp;split at hp;injection hp with hp;injection hp with u _;subst u;exact⟨rfl,rfl⟩;split at hp;cases hp;injection hp with hp;injection hp with u _;subst u;exact⟨rfl,rfl⟩);have e:=V.eta v;rw[this.1,this.2]at e;show some (V.mk v.k v.n [] [],_)=_;rw[e])
theorem zWB(b:List UInt8):zH5 ((qC ⟨b,0⟩ 3).bind λI=>
 (zY I.2 I.1).bind λJ=>
 (zBw J.1).bind λU=>
 (zDE U).bind λu=>
 some ((V.mk u.k u.n u.b []),J.2)) (pvB b):=by
 unfold pvB
 by_cases Z:b.length<3
 · rw[if_pos Z,zJP 3 (n:=3) rfl Z,wA,zR0 (by decide),wA];exact zB2 (by decide) ⟨_,_,rfl⟩
 · rw[if_neg Z,zLW 3 (n:=3) rfl (by omega) (by omega) (by omega),wA];by_cases hl:(b.drop 3).length<ofBE (b.take 3);(rw[if_pos hl,zKH hl,wA];exact zB2 (by decide) ⟨_,_,rfl⟩);(rw[if_neg hl,zMK (by omega),wA];unfold zBw;have W:=zJm 3 (b.take 3) (by simp;omega);rw[yV (by rw[uA];simp only[tC];omega),wA];rfl)
theorem zTn(b:List UInt8)(J:Nat)(I:Int)(U:Option (List UInt8->Except Int (V×List UInt8)))
(h0:I=0->U=none)(h1:I≠0->∃d f,d<=1000/\I=((d+1:Nat):Int)/\U=some f/\∀b,zH5 (zM J ⟨b,0⟩ (d:Int)) (f b)):
 zH5 ((qC ⟨b,0⟩ 2).bind λu=>
 bif (decide (u.1>4096))then((zR u.2).bind λW=>
 qI I u (zM J) W.b_ W.e_)else(bif (I==0)then((zR u.2).bind λZ=>
 qI I u (zM J) Z.b_ Z.e_)else(qI I u (zM J) u.2.b_ u.2.e_)))
 (if b.length<2 then .error 10 else if 4096<ofBE (b.take 2)then .error 11 else match U with
  |none=> .error 11
  |some f=>pvL (pvI f (ofBE (b.take 2)) (b.drop 2))):=by
 have bad:∀(u:Int×zD) (b:List UInt8) (e:Int),e≠0->∃v r,qI I u (zM J) b e=some (v,⟨r,e⟩):=by intro u b e he;unfold qI;show∃v r,zS u (zM J) I (V.mk 3 0 [] []) (Int.toNat u.1+1) b e [] 0=_;exact⟨_,_,zWP he⟩
 by_cases h2:b.length<2
 · rw[if_pos h2,zJP 2 (n:=2) rfl h2,wA];refine zB2 (by decide) ?_;rw[zH (yE (by show¬(0:Int)>4096;omega))];(cases hp:(I==0)with|true=>rw[zI (c:=true) rfl];show∃v r,Option.bind (zR ⟨b,10⟩) _=_;rw[zXx (by decide),wA];exact bad _ _ 10 (by decide)|false=>exact bad _ _ 10 (by decide))
 · rw[if_neg h2,zLW 2 (n:=2) rfl (by omega) (by omega) (by omega),wA];have hN:=zJm 2 (b.take 2) (by simp;omega);generalize ofBE (b.take 2)=N at hN⊢;by_cases h4:4096<N;(rw[if_pos h4,zI (yG (by show(N:Int)>4096;omega))];refine zB2 (by decide) ?_;show∃v r,Option.bind (zR ⟨b.drop 2,0⟩) _=_;rw[n_fail,wA];exact bad _ _ 11 (by decide));(rw[if_neg h4,zH (yE (by show¬(N:Int)>4096;omega))];by_cases hp:I=0;(rw[zI (zCP hp),h0 hp];refine zB2 (by decide) ?_;show∃v r,Option.bind (zR ⟨b.drop 2,0⟩) _=_;rw[n_fail,wA];exact bad _ _ 11 (by decide));(rw[zH (zCN hp)];obtain⟨d,f,hd,rfl,rfl,hf⟩:=h1 hp;show zH5 (zS ((N:Int),⟨b.drop 2,0⟩) (zM J) ((d+1:Nat):Int) (V.mk 3 0 [] []) (Int.toNat (N:Int)+1) (b.drop 2) 0 [] 0) _;exact zR3 N (by omega) ⟨b.drop 2,0⟩ f (zM J) d hd hf (N+1) 0 (b.drop 2) [] (vI _) (by omega) rfl))
theorem zN4(b:List UInt8)(J:Nat)(I:Int)(u:Option (List UInt8->Except Int (V×List UInt8)))
(h0:I=0->u=none)(h1:I≠0->∃d f,d<=1000/\I=((d+1:Nat):Int)/\u=some f/\∀b,zH5 (zM J ⟨b,0⟩ (d:Int)) (f b)):
 zH5 (zM (J+1) ⟨b,0⟩ I) (pvK u b):=by
 rw[zKX]
 cases b with
  |nil=>
   rw[zVk (b:=[]) 1 (n:=1) rfl (by simp),wA,zSy]
   exact zB2 (by decide) ⟨_,_,rfl⟩
  |cons c r=>
   rw[zXV (b:=c::r) 1 (n:=1) rfl (by simp),wA,zGE]
   show zH5 (bif ((0:Int) !=0)then _ else Option.bind (idx [c] 0) _) _
   rw[zH (zHe rfl),zO3,wA]
   by_cases W:c.toNat=1
   · rw[if_pos W,zI (zCP (by omega))];exact zWA r
   rw[if_neg W,zH (zCN (by omega))]
   by_cases U:c.toNat=2
   · rw[if_pos U,zI (zCP (by omega))];exact zWB r
   rw[if_neg U,zH (zCN (by omega))]
   by_cases Z:c.toNat=3
   · rw[if_pos Z,zI (zCP (by omega))];exact zTn r J I u h0 h1
   rw[if_neg Z,zH (zCN (by omega))]
   exact zB2 (by decide) ⟨_,_,rfl⟩
theorem n_value:∀(d:Nat) (b:List UInt8),d<=1000->zH5 (zM (d+1) ⟨b,0⟩ (d:Int)) (pv d b)
 |0,b,_=>zN4 b 0 0 none (λ_=>rfl) (λh=>absurd rfl h)
 |d+1,b,h=>zN4 b (d+1) ((d+1:Nat):Int) (some (pv d)) (λh=>by omega) (λ_=>⟨d,pv d,by omega,rfl,rfl,λb=>n_value d b (by omega)⟩)
def decA(b:List UInt8):V×Int:=match decS b with
 | .ok v=>(v,0)
 | .error e=>(.mk 0 0 [] [],e)
theorem n_Decode(b:List UInt8):zC0 b=some (decA b):=by rw[zQl];unfold decA decS;by_cases hl:1048576<b.length;rw[zI (yG (by omega)),if_pos hl];(rw[zH (yE (by omega)),if_neg hl];have h:=n_value 16 b (by omega);have e:zM (Int.toNat 16+1) ⟨b,0⟩ 16=zM (16+1) ⟨b,0⟩ ((16:Nat):Int):=rfl;rw[e];(cases hp:pv 16 b with|error e=>rw[hp]at h;obtain⟨u,v,r,h⟩:=h;rw[h,wA];show(bif e==0 then _ else zAn _ e)=_;rw[zH (c:=e==0) (zCN u)];unfold zAn;rw[zI (zLj u)]|ok I=>obtain⟨v,r⟩:=I;rw[hp]at h;have h:zM (16+1) ⟨b,0⟩ ((16:Nat):Int)=some (v,⟨r,0⟩):=h;rw[h,wA];(show(bif ((0:Int)==0)then(bif decide ((r.length:Int)>0)then _ else _)else _)=some (match(if r.isEmpty=true then Except.ok v else Except.error 12:Except Int V)with| .ok v=>(v,0)| .error e=>(V.mk 0 0 [] [],e)));rw[zI (zCP rfl)];(cases r with|nil=>rfl|cons c r=>rw[zI (yG (by simp))];rfl)))
theorem zPj{α:Type}{b r:List α}{c:α}{i:Nat}(h:b.drop i=c::r):i<b.length/\idx b (i:Int)=some c/\b.drop (i+1)=r:=by(have u:i<b.length:=by by_cases u:i<b.length;exact u;rw[uU (by omega)]at h;cases h);rw[vL u]at h;injection h with I J;exact⟨u,by rw[yC u,I],J⟩
theorem drop_nil{α:Type}{b:List α}{i:Nat}(h:b.drop i=[]):b.length<=i:=by have:=congrArg List.length h;simp at this;omega
theorem zO0{α:Type}{l:List α}{lo n:Nat}(h:lo+n<=l.length)(z:Int)(hz:z=((lo+n:Nat):Int)):cutI l (lo:Int) z=some ((l.drop lo).take n):=by subst hz;unfold cutI;rw[if_pos ⟨by omega,by omega,by omega⟩,uF,uF,List.drop_take];simp
theorem ofBE_le(x y:List UInt8):ofBE x<=ofBE (x++y):=by unfold ofBE;rw[sS];generalize List.foldl (λx c=>x*256+c.toNat) 0 x=a;(induction y generalizing a with|nil=>exact wL _|cons c r u=>exact vR (by omega) (u (a*256+UInt8.toNat c)))
theorem zN9(b:List UInt8)(hb:b.length<=8):∀(n i:Nat),i<=b.length->b.length-i<n->ofBE (b.take i)<=4611686018427387904->zAR zCW b n (ofBE (b.take i):Int) (i:Int)=some (if 4611686018427387904<ofBE b then(0,11)else((ofBE b:Int),0))
 |0,i,_,h,_=>by omega
 |n+1,i,hi,h,U=>by unfold zAR;by_cases u:i<b.length;(rw[zI (yG (by omega)),yC u,wA];(have ht:ofBE (b.take (i+1))=ofBE (b.take i)*256+b[i].toNat:=by rw[<-sI u,zIw]);(have Z:ofBE (b.take (i+1))<=ofBE b:=by have:=ofBE_le (b.take (i+1)) (b.drop (i+1));rwa [uW]at this);have hc:=b[i].toNat_lt;(have I:ofBE (b.take (i+1))<=4611686018427387904->∀y z,zF5 (λq=>zAR zCW b n q.1 q.2) (ofBE (b.take i):Int) b[i] (i:Int) y z=some (if 4611686018427387904<ofBE b then(0,11)else((ofBE b:Int),0)):=by intro J y z;show zAR zCW b n _ _=_;rw[qZ (by omega),zEa (z:=256*(ofBE (b.take i):Int)) (by omega) (by omega),zEa (by omega) (by omega)];rw[show(256*(ofBE (b.take i):Int)+(b[i].toNat:Int))=((ofBE (b.take (i+1)):Nat):Int) by rw[ht];omega];exact zN9 b hb n (i+1) (by omega) (by omega) J);by_cases h1:18014398509481984<ofBE (b.take i);rw[zI (yG (by omega)),if_pos (by omega)];(rw[zH (yE (by omega))];by_cases W:ofBE (b.take i)=18014398509481984;(rw[zI (zCP (by omega))];by_cases h3:0<b[i].toNat;rw[zI (yG (by omega)),if_pos (by omega)];(rw[zH (yE (by omega))];exact I (by omega) _ _));(rw[zH (zCN (by omega))];exact I (by omega) _ _)));((have e:i=b.length:=by omega);subst e;rw[zH (yE (by omega))];rw[List.take_length]at U⊢;rw[if_neg (by omega)];rfl)
theorem zP3(b:List UInt8):zFs b=some (getN b,getE b):=by rw[u_R01_Get];unfold getN getE;by_cases I:b.length=0;rw[zI (zCP (by omega)),if_pos (.inl I),if_pos I];(rw[zH (zCN (by omega)),if_neg I];by_cases u:8<b.length;rw[zI (yG (by omega)),if_pos (.inr (.inl u)),if_pos u];(rw[zH (yE (by omega)),if_neg u];have h:=zN9 b (by omega) (b.length+1) 0 (by omega) (by omega) (by simp[ofBE]);have e:zAR zCW b (b.length+1) 0 0=zAR zCW b (b.length+1) ((ofBE (b.take 0):Nat):Int) ((0:Nat):Int):=rfl;rw[e,h];by_cases hx:4611686018427387904<ofBE b;rw[if_pos hx,if_pos hx,if_pos (.inr (.inr hx))];rw[if_neg hx,if_neg hx,if_neg (by omega)]))
def Gv(x:Option (V×Int×Int))(b:List UInt8)(y:Except Int (V×List UInt8)):Prop:=match y with
 | .ok (v,r)=>∃i:Nat,x=some (v,(i:Int),0)/\i<=b.length/\b.drop i=r
 | .error e=>e≠0/\x=some (.mk 0 0 [] [],0,e)
theorem gv10{b:List UInt8}{x:Option (V×Int×Int)}(h:x=some (.mk 0 0 [] [],0,10)):Gv x b (.error 10):=⟨by decide,h⟩
theorem gv11{b:List UInt8}{x:Option (V×Int×Int)}(h:x=some (.mk 0 0 [] [],0,11)):Gv x b (.error 11):=⟨by decide,h⟩
theorem zMJ(N:Nat)(hN:N<=65536)(W:Int)(f:List UInt8->Except Int (V×List UInt8))(b:List UInt8)(self:List UInt8->Int->Int->Option (V×Int×Int))(d:Nat)(hd:d<=1000)
(u:∀j,j<=b.length->Gv (self b (j:Int) (d:Int)) b (f (b.drop j))):
 ∀(n q j:Nat) (l:List V),q<=N->N-q<n->j<=b.length->l.length=q->Gv (zBO (λq=>zDl q.1 q.2) ((N:Int),W) self b ((d+1:Nat):Int) n (j:Int) l (q:Int)) b (match pvI f (N-q) (b.drop j)with| .error e=> .error e| .ok (I,r)=> .ok (.mk 3 0 [] (l++I),r))
 |0,q,j,l,_,h,_,_=>by omega
 |n+1,q,j,l,hq,h,hj,hl=>by unfold zBO;by_cases α:q<N;(rw[zI (yG (by show(q:Int)<(N:Int);omega))];obtain⟨k,hk⟩:∃k,N-q=k+1:=⟨N-q-1,by omega⟩;rw[zEa (z:=((d+1:Nat):Int)-1) (by omega) (by omega),show((d+1:Nat):Int)-1=(d:Int) by omega,hk,pvI];have J:=u j hj;(cases hf:f (b.drop j)with|error e=>rw[hf]at J;obtain⟨he,J⟩:=J;rw[J,wA,zI (c:=e !=0) (zLj he)];exact⟨he,rfl⟩|ok vr=>obtain⟨v,r⟩:=vr;rw[hf]at J;obtain⟨i,J,hi,hr⟩:=J;rw[J,wA,zH (c:=(0:Int) !=0) rfl,yV (by simp;omega),wA,qZ (by omega)];have Z:=zMJ N hN W f b self d hd u n (q+1) i (l++[v]) (by omega) (by omega) hi (by simp[hl]);rw[show N-(q+1)=k by omega,hr]at Z;(show Gv (zBO (λq=>zDl q.1 q.2) ((N:Int),W) self b ((d+1:Nat):Int) n (i:Int) (l++[v]) ((q+1:Nat):Int)) b (match(match pvI f k r with| .error e=>(.error e:Except Int (List V×List UInt8))| .ok (I,U)=> .ok (v::I,U))with| .error e=> .error e| .ok (I,U)=> .ok (.mk 3 0 [] (l++I),U)));generalize pvI f k r=z at Z⊢;(cases z with|error e=>exact Z|ok lr=>obtain⟨I,U⟩:=lr;show Gv _ b (.ok (.mk 3 0 [] (l++v::I),U));rw[show l++v::I=l++[v]++I by simp];exact Z)));((have e:N-q=0:=by omega);rw[zH (yE (by show¬(q:Int)<(N:Int);omega)),e,pvI];show Gv _ b (.ok (.mk 3 0 [] (l++[]),b.drop j));rw[tT];exact⟨j,rfl,hj,rfl⟩)
theorem zJj(b:List UInt8)(hb:b.length<=1048576)(i:Nat)(hi:i<=b.length)(k0:Nat)(p2:Int)(W:Option (List UInt8->Except Int (V×List UInt8)))
(h0:p2=0->W=none)(h1:p2≠0->∃d f,d<=1000/\p2=((d+1:Nat):Int)/\W=some f/\∀j,j<=b.length->Gv (zBC k0 b (j:Int) (d:Int)) b (f (b.drop j))):
 Gv (zBC (k0+1) b (i:Int) p2) b (pvK W (b.drop i)):=by
 rw[zYD]
 cases hx:b.drop i with
  |nil=>
   have:=drop_nil hx
   rw[zI (yG (by omega)),zSy]
   exact gv10 rfl
  |cons k r=>
   obtain⟨ξ,hk,hr⟩:=zPj hx
   have γ:r.length=b.length-(i+1):=by rw[<-hr];simp
   rw[zH (yE (by omega)),hk,wA,qZ (by omega),zGE]
   by_cases k1:k.toNat=1
   · rw[zI (zCP (by omega)),if_pos k1];(cases hy:r with|nil=>rw[hy]at γ;simp only[tC]at γ;rw[zI (yG (by omega)),pvN_nil];exact gv10 rfl|cons c s=>rw[hy]at hr;obtain⟨δ,hc,Z⟩:=zPj hr;(have π:s.length=b.length-(i+2):=by rw[<-Z];simp);rw[zH (yE (by omega)),hc,wA,qZ (n:=i+1) (by omega),zW3];by_cases c8:8<c.toNat;(rw[zI (yG (by omega)),if_pos c8];exact gv11 rfl);(rw[zH (yE (by omega)),if_neg c8,zEa (z:=(b.length:Int)-((i+1+1:Nat):Int)) (by omega) (by omega)];by_cases I:s.length<c.toNat;(rw[zI (yG (by omega)),if_pos I];exact gv10 rfl);(rw[zH (yE (by omega)),if_neg I];by_cases c0:c.toNat=0;(rw[zI (zCP (by omega)),if_pos c0];exact⟨i+1+1,rfl,by omega,Z⟩);(rw[zH (zCN (by omega)),if_neg c0,zEa (z:=((i+1+1:Nat):Int)+(c.toNat:Int)) (by omega) (by omega),zO0 (n:=c.toNat) (by omega) _ (by omega),wA,zP3,wA,Z];(have hl:(s.take c.toNat).length=c.toNat:=by simp;omega);(obtain⟨x,s',U⟩:∃x s',s=x::s':=by(cases κ:s with|nil=>rw[κ]at I;simp at I;omega|cons x s'=>exact⟨x,s',rfl⟩));rw[U]at Z;obtain⟨_,ι,_⟩:=zPj Z;rw[ι,wA];by_cases u:4611686018427387904<ofBE (s.take c.toNat);((have he:getE (s.take c.toNat)=11:=by unfold getE;rw[hl,if_neg c0,if_neg c8,if_pos u]);rw[he,zI (c:=(11:Int) !=0) rfl,if_pos (.inl u)];exact gv11 rfl);((have he:getE (s.take c.toNat)=0:=by unfold getE;rw[hl,if_neg c0,if_neg c8,if_neg u]);(have hn:getN (s.take c.toNat)=ofBE (s.take c.toNat):=by unfold getN;rw[hl,if_neg (by omega)]);rw[he,hn,zH (c:=(0:Int) !=0) rfl];by_cases J:x.toNat=0;((have η:x=0:=by have:=zPT J;simpa using this);rw[zI (zCP (by omega)),if_pos (.inr (by rw[U,η];rfl))];exact gv11 rfl);(rw[zH (zCN (by omega)),if_neg (by rintro(h|h);exact u h;(rw[U]at h;injection h with h;rw[h]at J;exact J rfl))];refine⟨i+1+1+c.toNat,?_,by omega,?_⟩;rw[show((i+1+1:Nat):Int)+(c.toNat:Int)=((i+1+1+c.toNat:Nat):Int) by omega];rw[<-sE,Z,<-U]))))))
   · rw[zH (zCN (by omega)),if_neg k1];by_cases k2:k.toNat=2;(rw[zI (zCP (by omega)),if_pos k2,zEa (z:=(b.length:Int)-((i+1:Nat):Int)) (by omega) (by omega)];unfold pvB;by_cases h3:r.length<3;(rw[zI (yG (by omega)),if_pos h3];exact gv10 rfl);(rw[zH (yE (by omega)),if_neg h3,zEa (z:=((i+1:Nat):Int)+3) (by omega) (by omega),zO0 (n:=3) (by omega) _ (by omega),wA,zP3,wA,hr];(have θ:(r.take 3).length=3:=by simp;omega);rw[zM2 (by omega) (by omega)];have ν:=zJm 3 _ θ;rw[zEa (z:=(b.length:Int)-(((i+1:Nat):Int)+3)) (by omega) (by omega)];by_cases I:(r.drop 3).length<ofBE (r.take 3);(rw[zI (yG (by simp at I;show((ofBE (r.take 3):Nat):Int)>_;omega)),if_pos I];exact gv10 rfl);(rw[zH (yE (by simp at I;show¬((ofBE (r.take 3):Nat):Int)>_;omega)),if_neg I];(have β:b.drop (i+1+3)=r.drop 3:=by rw[<-sE,hr]);(have μ:ofBE (r.take 3)<=b.length-(i+1+3):=by simp at I;omega);show Gv (Option.bind (cutI b (((i+1:Nat):Int)+3) (wi (((i+1:Nat):Int)+3+((ofBE (r.take 3):Nat):Int)))) _) b _;rw[zEa (by omega) (by omega),show((i+1:Nat):Int)+3=((i+1+3:Nat):Int) by omega,zO0 (n:=ofBE (r.take 3)) (by omega) _ (by omega),wA,β];refine⟨i+1+3+ofBE (r.take 3),?_,by omega,?_⟩;rw[show((i+1+3:Nat):Int)+((ofBE (r.take 3):Nat):Int)=((i+1+3+ofBE (r.take 3):Nat):Int) by omega];rw[<-sE,β])));(rw[zH (zCN (by omega)),if_neg k2];by_cases k3:k.toNat=3;(rw[zH (zHe (by omega)),if_pos k3,zEa (z:=(b.length:Int)-((i+1:Nat):Int)) (by omega) (by omega)];by_cases h2:r.length<2;(rw[zI (yG (by omega)),if_pos h2];exact gv10 rfl);(rw[zH (yE (by omega)),if_neg h2,zEa (z:=((i+1:Nat):Int)+2) (by omega) (by omega),zO0 (n:=2) (by omega) _ (by omega),wA,zP3,wA,hr];(have ζ:(r.take 2).length=2:=by simp;omega);rw[zM2 (by omega) (by omega)];have δ:=zJm 2 _ ζ;(have ε:b.drop (i+1+2)=r.drop 2:=by rw[<-sE,hr]);by_cases u:4096<ofBE (r.take 2);(rw[zI (yG (by show((ofBE (r.take 2):Nat):Int)>_;omega)),if_pos u];exact gv11 rfl);(rw[zH (yE (by show¬((ofBE (r.take 2):Nat):Int)>_;omega)),if_neg u];by_cases hp:p2=0;(rw[zI (zCP hp),h0 hp];exact gv11 rfl);(obtain⟨d,f,hd,e,Z,α⟩:=h1 hp;rw[zH (zCN hp),Z];subst e;have h:=zMJ (ofBE (r.take 2)) (by omega) (getE (r.take 2)) f b (zBC k0) d hd α (ofBE (r.take 2)+1) 0 (i+1+2) [] (by omega) (by omega) (by omega) rfl;rw[Nat.sub_zero,ε]at h;show Gv (zBO (λq=>zDl q.1 q.2) (((ofBE (r.take 2):Nat):Int),getE (r.take 2)) (zBC k0) b ((d+1:Nat):Int) (ofBE (r.take 2)+1) (((i+1:Nat):Int)+2) [] ((0:Nat):Int)) b _;rw[show((i+1:Nat):Int)+2=((i+1+2:Nat):Int) by omega];show Gv _ b (pvL (pvI f (ofBE (r.take 2)) (r.drop 2)));generalize pvI f (ofBE (r.take 2)) (r.drop 2)=z at h⊢;(cases z with|error e=>exact h|ok lr=>exact h)))));(rw[zI (zLj (by omega)),if_neg k3];exact gv11 rfl))
theorem zRm(b:List UInt8)(hb:b.length<=1048576):∀(d i:Nat),d<=1000->i<=b.length->Gv (zBC (d+1) b (i:Int) (d:Int)) b (pv d (b.drop i))
 |0,i,_,u=>zJj b hb i u 0 0 none (λ_=>rfl) (λh=>absurd rfl h)
 |d+1,i,hd,u=>zJj b hb i u (d+1) ((d+1:Nat):Int) (some (pv d)) (λh=>by omega) (λ_=>⟨d,pv d,by omega,rfl,rfl,λj I=>zRm b hb d j (by omega) I⟩)
theorem zU7(b:List UInt8):zEc b=some (decA b):=by rw[zUr];unfold decA decS;by_cases hl:1048576<b.length;rw[zI (yG (by omega)),if_pos hl];(rw[zH (yE (by omega)),if_neg hl];have h:=zRm b (by omega) 16 0 (by omega) (by omega);have e:zBC (Int.toNat 16+1) b 0 16=zBC (16+1) b ((0:Nat):Int) ((16:Nat):Int):=rfl;rw[List.drop_zero]at h;rw[e];(cases hp:pv 16 b with|error e=>rw[hp]at h;obtain⟨I,h⟩:=h;rw[h,wA];show(bif e !=0 then some (V.mk 0 0 [] [],e)else _)=_;rw[zI (zLj I)]|ok U=>obtain⟨v,r⟩:=U;rw[hp]at h;obtain⟨i,h,Z,J⟩:=h;rw[h,wA];(show(bif (0:Int) !=0 then _ else bif decide ((i:Int)<(b.length:Int))then _ else some (v,0))=some (match(if r.isEmpty=true then Except.ok v else Except.error 12:Except Int V)with| .ok v=>(v,0)| .error e=>(V.mk 0 0 [] [],e)));rw[zH (zHe rfl)];(have u:r.length=b.length-i:=by rw[<-J];simp);(cases r with|nil=>simp only[tC]at u;rw[zH (yE (by omega))];rfl|cons c r=>simp only[tO]at u;rw[zI (yG (by omega))];rfl)))
theorem zN5(k:Nat)(hk:k<=8):∀(n i m:Nat) (out:List UInt8),i<=k->k-i<n->out.length=i->m<=4611686018427387904->zCX (λq=>zEh q.1 q.2) (k:Int) n (m:Int) out (i:Int)=some (if 0<m/256^(k-i)then([],2)else(out++le (k-i) m,0))
 |0,i,m,out,_,h,_,_=>by omega
 |n+1,i,m,out,hi,h,J,hm=>by unfold zCX;by_cases I:i<k;(rw[zI (yG (by omega)),yV (by simp;omega),wA,qZ (by omega)];have U:Int.tdiv (m:Int) 256=((m/256:Nat):Int):=rfl;have W:Int.tmod (m:Int) 256=((m %256:Nat):Int):=rfl;rw[U,W,zEa (by omega) (by omega),U8_nat (by omega),zN5 k hk n (i+1) (m/256) _ (by omega) (by omega) (by simp[J]) (by omega)];obtain⟨j,Z⟩:∃j,k-i=j+1:=⟨k-i-1,by omega⟩;rw[show k-(i+1)=j by omega,Z,Nat.div_div_eq_div_mul,<-Nat.pow_succ',le];simp);((have e:k-i=0:=by omega);rw[zH (yE (by omega)),e];unfold zEh;by_cases u:0<m;rw[zI (yG (by omega)),if_pos (by simpa using u)];(rw[zH (yE (by omega)),if_neg (by simpa using u)];simp[le]))
theorem zJb(b:List UInt8)(hb:b.length<=4611686018427387904):∀(n i:Nat) (out:List UInt8),i<=b.length->i<n->out.length+i<=1000000000->zBf b n out ((i:Int)-1)=some (out++(b.take i).reverse)
 |0,i,out,_,h,_=>by omega
 |n+1,i,out,u,h,I=>by unfold zBf;(cases i with|zero=>rw[zH (yE (by omega))];simp|succ i=>rw[zI (yG (by omega)),show((i+1:Nat):Int)-1=(i:Int) by omega,yC (by omega),wA,yV (by simp;omega),wA,zEa (by omega) (by omega),zJb b hb n i _ (by omega) (by omega) (by simp;omega),<-sI (by omega:i<b.length),List.reverse_append];simp)
theorem zVF{n k:Nat}(h:n<256^k)(J:1<=k)(u:k<=8)(I:n<=4611686018427387904):zEQ (n:Int) (k:Int)=some (be k n,0):=by rw[u_R01_Put];rw[u_R01_Low];rw[zH (yE (by omega)),zH (yE (by omega)),zH (yE (by omega)),zH (yE (by omega)),uF];have hl:=zN5 k u (k+1) 0 n [] (by omega) (by omega) rfl I;rw[Nat.sub_zero,if_neg (by rw[sX h];omega)]at hl;show Option.bind (zCX (λq=>zEh q.1 q.2) (k:Int) (k+1) (n:Int) [] ((0:Nat):Int)) _=_;rw[hl,wA];show Option.bind (zEb (le k n)) _=_;rw[zTy];rw[zAZ,zEa (by omega) (by omega)];have ht:=zJb (le k n) (by rw[zAZ];omega) (Int.toNat ((k:Int)-1)+2) k [] (by rw[zAZ];exact wL _) (by omega) (by simp;omega);rw[ht,wA,show(le k n).take k=le k n from tD (by rw[zAZ];exact wL _)];rfl
theorem zRl{z:Int}{w:Int}{n k:Nat}(hz:z=n)(I:w=k)(h:n<256^k)(U:1<=k)(u:k<=8)(J:n<=4611686018427387904):zEQ z w=some (be k n,0):=by rw[hz,I,zVF h U u J]
theorem zKy(v:V):∀(n:Nat) (i m:Nat),wid m<n->i+wid m<=100->m<=4611686018427387904->zBR (zB8 v) n (i:Int) (m:Int)=zB8 v ((i+wid m:Nat):Int)
 |0,i,m,h,_,_=>by omega
 |n+1,i,m,h,Z,U=>by unfold zBR;by_cases J:0<m;(have u:=zV8 J;have I:Int.tdiv (m:Int) 256=((m/256:Nat):Int):=rfl;rw[zI (yG (by omega)),I,qZ (by omega),zEa (by omega) (by omega),zKy v n (i+1) (m/256) (by omega) (by omega) (by omega),u];rw[show i+1+wid (m/256)=i+(wid (m/256)+1) by omega]);((have e:m=0:=by omega);subst e;rw[zH (yE (by omega)),zO5,uC])
theorem zKn(v:V)(self:V->Option Y)(hl:v.l.length<=4096)(u:∀x∈v.l,self x=some x.enc):∀(n i:Nat) (out:List UInt8),i<=v.l.length->v.l.length-i<n->out.length+V.sz.szs (v.l.drop i)<=1000000000->zBP v self n out (i:Int)=some (out++V.enc.encs (v.l.drop i))
 |0,i,out,_,h,_=>by omega
 |n+1,i,out,U,h,J=>by unfold zBP;by_cases I:i<v.l.length;(rw[zWf _ _ I]at J;rw[zI (yG (by omega)),yC I,wA,u _ (vX I),wA,yV (by rw[V.enc_length];omega),wA,qZ (by omega),zKn v self hl u n (i+1) _ (by omega) (by omega) (by rw[wP,V.enc_length];omega),zU9 _ _ I];simp);(rw[zH (yE (by omega)),uU (by omega)];simp[V.enc.encs])
theorem zQa:∀(k:Nat) (v:V),v.ht<=k->v.rpure=true->v.sz<=1048576->zBS k v=some v.enc
 |0,v,h,_,_=>absurd v.ht_pos (by omega)
 |k+1,v,h,hp,hs=>by rw[zVo];have u:=V.rpure_flat hp;by_cases k1:v.k=1;((have hn:0<=v.n/\v.n<=4611686018427387904:=by unfold V.flat at u;rw[if_pos k1]at u;simp at u;omega);obtain⟨m,Z⟩:=uK hn.1;have W:wid m<=8:=zHn (by omega);rw[zI (zCP k1),Z];show zBR (zB8 v) 70 ((0:Nat):Int) (m:Int)=_;rw[zKy v 70 0 m (by omega) (by omega) (by omega),vF,V.enc_eq,if_pos k1];unfold zB8;rw[U8_nat (by omega),Z,uF];by_cases α:0<wid m;(rw[zI (yG (by omega)),zVF ((zIH _ _).2 (wL _)) (by omega) W (by omega),wA];show Option.bind (appI 1 [1,UInt8.ofNat (wid m)] (be (wid m) m)) _=_;rw[yV (by rw[qO];simp;omega)];rfl);((have e:wid m=0:=by omega);rw[zH (yE (by omega))];unfold zC2;rw[e];rfl));(rw[zH (zCN k1)];by_cases k2:v.k=2;((have U:v.b.length<=1048576:=by(have:v.sz=4+v.b.length:=by rw[<-v.eta];simp[V.sz,k2];simp[V.b]);omega);rw[zI (zCP k2),zRl (z:=(v.b.length:Int)) (w:=3) (n:=v.b.length) (k:=3) rfl rfl (by omega) (by omega) (by omega) (by omega),wA];show Option.bind (appI 1 [2] (be 3 v.b.length)) _=_;rw[yV (by rw[qO];simp),wA,yV (by simp[qO];omega),wA,V.enc_eq,if_neg k1,if_pos k2];rfl);(obtain⟨k3,_,_,J⟩:=V.flat_kind u k1 k2;(have U:V.sz.szs v.l<=1048576:=by(have:v.sz=3+V.sz.szs v.l:=by(cases v with|mk a b c d=>simp[V.k]at k1 k2;simp[V.sz,V.l,k1,k2]));omega);have I:∀x∈v.l,zBS k x=some x.enc:=λx hx=>zQa k x (by have:=V.ht_item v x hx;omega) (V.rpure_items hp k3 x hx) (by have:=V.sz_le_szs v.l x hx;omega);rw[zH (zCN k2),zRl (z:=(v.l.length:Int)) (w:=2) (n:=v.l.length) (k:=2) rfl rfl (by omega) (by omega) (by omega) (by omega),wA];show Option.bind (appI 1 [3] (be 2 v.l.length)) _=_;rw[yV (by rw[qO];simp),wA];show zBP v (zBS k) (v.l.length+1) ([3]++be 2 v.l.length) ((0:Nat):Int)=_;rw[zKn v (zBS k) J I (v.l.length+1) 0 _ (by omega) (by omega) (by simp[qO];omega),V.enc_eq,if_neg k1,if_neg k2];rfl))
set_option maxRecDepth 20000
def zPQ(s:List UInt8):V:= .mk 2 0 s []
def numV(n:Int):V:= .mk 1 n [] []
def zKM(l:List V):V:= .mk 3 0 [] l
theorem zG3(s:List UInt8):(zPQ s).rpure=true:=by simp[zPQ,V.rpure,V.flat,V.k,V.n,V.b,V.l]
theorem zD8{n:Int}(h0:0<=n)(u:n<=4611686018427387904):(numV n).rpure=true:=zUe h0 u
theorem zLM{l:List V}(h:l.length<=4096)(hl:∀x∈l,x.rpure=true):(zKM l).rpure=true:=zSF h hl
theorem zJa(s:List UInt8):(zPQ s).deep=0:=V.deep_zero _ (by show¬(2:Int)=3;decide)
theorem zHo(n:Int):(numV n).deep=0:=V.deep_zero _ (by show¬(1:Int)=3;decide)
theorem zPr{l:List V}{d:Nat}(h:∀x∈l,x.deep<=d):(zKM l).deep<=d+1:=by rw[V.deep_eq _ rfl];exact V.dm_le l 1 (d+1) (λx hx=>by have:=h x hx;omega) (by omega)
theorem zPw(s:List UInt8):(zPQ s).sz=4+s.length:=by simp[zPQ,V.sz]
theorem zPh{n:Int}(h0:0<=n)(u:n<=4611686018427387904):(numV n).sz<=10:=by have:=zHn (n:=n.toNat) (by omega);simp[numV,V.sz];omega
theorem zTU(l:List V):(zKM l).sz=3+V.sz.szs l:=by simp[zKM,V.sz]
theorem szs_le(l:List V)(c:Nat)(h:∀x∈l,x.sz<=c):V.sz.szs l<=l.length*c:=by(induction l with|nil=>simp[V.sz.szs]|cons x r u=>have I:=h x (by simp);have J:=u λy hy=>h y (by simp[hy]);rw[V.sz.szs,tO,Nat.succ_mul];omega)
theorem zPg{s:List UInt8}(h:s.length<=100):strB s=some s:=by unfold strB;rw[if_pos (by unfold maxLen;omega)]
def zDM(v:V)(u:List Int):Bool:=decide (v.k=3)&&(v.l.map V.k==u)
theorem zEi(v:V)(u:List Int):zDM v u=true↔v.k=3/\v.l.length=u.length/\∀j,j<u.length->∀x y,v.l[j]? =some x->u[j]? =some y->x.k=y:=by unfold zDM;rw[wH,decide_eq_true_eq,beq_iff_eq];refine and_congr_right λ_=>⟨λh=> ?_,λ⟨hl,h⟩=> ?_⟩;(subst h;refine⟨by simp,λj U x y hx hy=> ?_⟩;rw[wG,hx]at hy;injection hy);(refine List.ext_getElem (by simp[hl]) λi J I=> ?_;rw[List.getElem_map];exact h i I _ _ (wB _) (wB _))
theorem zSu(v:V)(u:List Int)(hk:u.length<=100):zBQ v u=some (if zDM v u=true then(v.l,true)else([],false)):=by
 rw[zQk]
 by_cases Z:v.k=3
 case neg=>
  rw[zI (zLj Z),if_neg (λh=>Z ((zEi v u).1 h).1)]
 rw[zH (zHe Z)]
 by_cases hl:v.l.length=u.length
 case neg=>
  rw[zI (zLj (by omega)),if_neg (λh=>hl ((zEi v u).1 h).2.1)]
 rw[zH (zHe (by omega))]
 have h:=zG0 (len:=u.length) (qL (λq=>zAH v) u v) (λj=>∀x y,v.l[j]? =some x->u[j]? =some y->x.k=y) (some (v.l,true)) (some ([],false)) (λn i hi=>by
  rw[qL]
  have I:i<v.l.length:=by omega
  rw[zI (yG (by omega)),yC hi,wA]
  have J:zAl (λq=>qL (λq=>zAH v) u v n q) v (i:Int) u[i]=bif (v.l[i].k !=u[i])then some ([],false)else qL (λq=>zAH v) u v n ((i+1:Nat):Int):=by
   unfold zAl
   rw[yC I,wA,qZ (by omega)]
  rw[J]
  have hb:∀(a b:Bool) (z:Option (List V×Bool)),(bif a then z else bif b then z else z)=z:=λa b z=>by cases a<;>cases b<;>rfl
  rw[hb]
  by_cases U:v.l[i].k=u[i]
  ·
   rw[zH (zHe U)]
   refine⟨λ_=>rfl,λh=>absurd (λx y hx hy=> ?_) h⟩
   rw[wB I]at hx
   rw[wB hi]at hy
   injection hx with hx
   injection hy with hy
   rw[<-hx,<-hy,U]
  ·
   rw[zI (zLj U)]
   exact⟨λh=>absurd (h _ _ (wB I) (wB hi)) U,λ_=>rfl⟩) (λn=>by
  rw[qL]
  rw[zH (yE (by omega))]
  rfl) (u.length+1) 0 (by omega) (by omega)
 have e:qL (λq=>zAH v) u v (u.length+1) 0=qL (λq=>zAH v) u v (u.length+1) ((0:Nat):Int):=rfl
 rw[e]
 by_cases W:∀j,0<=j->j<u.length->∀x y,v.l[j]? =some x->u[j]? =some y->x.k=y
 · rw[h.1 W,if_pos ((zEi v u).2 ⟨Z,hl,λj J=>W j (by omega) J⟩)]
 · rw[h.2 W,if_neg (λh=>W λj _ J=>((zEi v u).1 h).2.2 j J)]
theorem zVw(v:V)(u:List Int)(hk:u.length<=100):zDJ v u=some (zDM v u):=by
 rw[zVb]
 have no:∀(p:Prop),(zDM v u=true->p)->¬p->some false=some (zDM v u):=λp h hp=>by
  cases hb:zDM v u with
  |false=>rfl
  |true=>exact absurd (h hb) hp
 by_cases U:v.k=3
 case neg=>
  rw[zI (zLj U)]
  exact no _ (λh=>((zEi v u).1 h).1) U
 rw[zH (zHe U)]
 by_cases hl:v.l.length=u.length
 case neg=>
  rw[zI (zLj (by omega))]
  exact no _ (λh=>((zEi v u).1 h).2.1) hl
 rw[zH (zHe (by omega))]
 have h:=zG0 (len:=u.length) (zAL u v) (λj=>∀x y,v.l[j]? =some x->u[j]? =some y->x.k=y) (some true) (some false) (λn i hi=>by
  rw[zAL]
  have I:i<v.l.length:=by omega
  rw[zI (yG (by omega)),yC I,wA,yC hi,wA,qZ (by omega)]
  by_cases J:v.l[i].k=u[i]
  ·
   rw[zH (zHe J)]
   refine⟨λ_=>rfl,λh=>absurd (λx y hx hy=> ?_) h⟩
   rw[wB I]at hx
   rw[wB hi]at hy
   injection hx with hx
   injection hy with hy
   rw[<-hx,<-hy,J]
  ·
   rw[zI (zLj J)]
   exact⟨λh=>absurd (h _ _ (wB I) (wB hi)) J,λ_=>rfl⟩) (λn=>by
  rw[zAL]
  rw[zH (yE (by omega))]) (u.length+1) 0 (by omega) (by omega)
 have e:zAL u v (u.length+1) 0=zAL u v (u.length+1) ((0:Nat):Int):=rfl
 rw[e]
 by_cases Z:∀j,0<=j->j<u.length->∀x y,v.l[j]? =some x->u[j]? =some y->x.k=y
 · rw[h.1 Z,(zEi v u).2 ⟨U,hl,λj W=>Z j (by omega) W⟩]
 ·
  rw[h.2 Z]
  exact no _ (λh j _ W=>((zEi v u).1 h).2.2 j W) Z
theorem pure_list{a:V}(h:a.rpure=true)(hk:a.k=3):a=zKM a.l/\a.l.length<=4096:=by obtain⟨_,u,I,J⟩:=V.flat_kind (V.rpure_flat h) (by omega) (by omega);exact⟨V.eta a▸(by rw[hk,u,I];rfl:V.mk a.k a.n a.b a.l=zKM (V.mk a.k a.n a.b a.l).l),J⟩
theorem sz_items{v:V}(hk:v.k=3):v.sz=3+V.sz.szs v.l:=by(cases v with|mk a b c d=>have hk:a=3:=hk;subst hk;simp[V.sz,V.l])
theorem sz_item{v x:V}(hk:v.k=3)(hx:x∈v.l):x.sz<=v.sz:=by have:=V.sz_le_szs v.l x hx;rw[sz_items hk];omega
theorem sz_bytes{a:V}(hk:a.k=2):a.b.length<=a.sz:=by(cases a with|mk k n b l=>have hk:k=2:=hk;subst hk;simp[V.sz,V.b])
def chB(c:UInt8):Bool:=(decide (97<=c.toNat)&&decide (c.toNat<=122))||(decide (48<=c.toNat)&&decide (c.toNat<=57))
def NameP(s:List UInt8):Prop:=(∀j,j<s.length->∀c,s[j]? =some c->chB c=true)/\1<=s.length/\s.length<=12
theorem zUK{s:List UInt8}(F:Nat->Int->Option Bool)(K:Option Bool)(Z:∀n i (h:i<s.length),F (n+1) (i:Int)=bif chB s[i]then F n ((i+1:Nat):Int)else some false)(U:∀n,F (n+1) (s.length:Int)=K):
 ((∀j,j<s.length->∀c,s[j]? =some c->chB c=true)->F (s.length+1) 0=K)/\(¬(∀j,j<s.length->∀c,s[j]? =some c->chB c=true)->F (s.length+1) 0=some false):=by
 have h:=zG0 (len:=s.length) F (λj=>∀c,s[j]? =some c->chB c=true) K (some false) (λn i J=>by rw[Z n i J];refine⟨λh=> ?_,λh=> ?_⟩;rw[h _ (wB J)];rfl;((have:chB s[i]=false:=by(cases W:chB s[i]with|false=>rfl|true=>exact absurd (λc u=>by rw[wB J]at u;injection u with e;rw[<-e];exact W) h));(rw[this];rfl))) U (s.length+1) 0 (by omega) (by omega)
 exact⟨λk=>h.1 λj _ I=>k j I,λk=>h.2 λk'=>k λj I=>k' j (by omega) I⟩
theorem zVd(s:List UInt8)(hl:s.length<=9223372036854775807):zBi (zEC s) (NameP s):=by
 rw[zVZ]
 have h:=zUK (s:=s) (zAN (λ_=>zC4 s) s) (zC4 s) (λn i J=>by
  rw[zAN,zI (yG (by omega)),yC J,wA,qZ (by omega)]
  rw[dlt s[i].toNat 97 97 rfl,dlt s[i].toNat 48 48 rfl,dgt s[i].toNat 57 57 rfl,dgt s[i].toNat 122 122 rfl]
  unfold chB
  cases decide (97<=s[i].toNat)<;>cases decide (s[i].toNat<=122)<;>cases decide (48<=s[i].toNat)<;>cases decide (s[i].toNat<=57)<;>rfl) (λn=>by
  rw[zAN,zH (yE (by omega))])
 by_cases u:∀j,j<s.length->∀c,s[j]? =some c->chB c=true
 ·
  rw[h.1 u]
  unfold zC4
  rw[dge s.length 1 1 rfl,dle s.length 12 12 rfl]
  refine⟨decide (1<=s.length)&&decide (s.length<=12),zVu,?_⟩
  simp[NameP]
  exactλ_ _ j I=>u j I
 ·
  rw[h.2 u]
  exact⟨false,rfl,⟨λh=>Bool.noConfusion h,λh=>absurd h.1 u⟩⟩
theorem zXd(s:List UInt8)(hl:s.length<=9223372036854775807):zBi (zG5 s) (NameP s):=by
 rw[zYK,dlt s.length 1 1 rfl,dgt s.length 12 12 rfl]
 by_cases u:1<=s.length
 ·
  by_cases J:s.length<=12
  ·
   rw[yG u,yG J]
   show zBi (zAf s (s.length+1) 0) (NameP s)
   have h:=zUK (s:=s) (zAf s) (some true) (λn i U=>by
    rw[zAf,zI (yG (by omega))]
    unfold zFE zE6 zE9
    simp only[yC U,wA]
    rw[qZ (by omega)]
    rw[dge s[i].toNat 97 97 rfl,dle s[i].toNat 122 122 rfl,dge s[i].toNat 48 48 rfl,dle s[i].toNat 57 57 rfl]
    unfold chB
    cases decide (97<=s[i].toNat)<;>cases decide (s[i].toNat<=122)<;>cases decide (48<=s[i].toNat)<;>cases decide (s[i].toNat<=57)<;>rfl) (λn=>by
    rw[zAf,zH (yE (by omega))])
   by_cases I:∀j,j<s.length->∀c,s[j]? =some c->chB c=true
   ·
    rw[h.1 I]
    exact⟨true,rfl,⟨λ_=>⟨I,u,J⟩,λ_=>rfl⟩⟩
   ·
    rw[h.2 I]
    exact⟨false,rfl,⟨λh=>Bool.noConfusion h,λh=>absurd h.1 I⟩⟩
  ·
   rw[yG u,yE J]
   exact⟨false,rfl,⟨λh=>Bool.noConfusion h,λh=>absurd h.2.2 J⟩⟩
 ·
  rw[yE u]
  exact⟨false,rfl,⟨λh=>Bool.noConfusion h,λh=>absurd h.2.1 u⟩⟩
def numP(n:Int):Prop:=0<=n/\n<=4611686018427387904
def zSZ(w:zJ):Prop:=w.Key.length<=40/\numP w.Kind/\numP w.Version/\numP w.Size
def zHc(c:zF):Prop:=c.Key.length<=40/\numP c.Kind/\numP c.Version/\c.Data.length<=1024
instance (n:Int):Decidable (numP n):=by unfold numP;infer_instance
instance (w:zJ):Decidable (zSZ w):=by unfold zSZ;infer_instance
instance (c:zF):Decidable (zHc c):=by unfold zHc;infer_instance
theorem zFJ{α:Type}{l:List α}{P:α->Prop}[∀x,Decidable (P x)]{E:Prop}(F:Nat->Int->Option Bool)(u:∀n i (hi:i<l.length),F (n+1) (i:Int)=bif decide (P l[i])then F n ((i+1:Nat):Int)else some false)(I:∀n,zBi (F (n+1) (l.length:Int)) E):zBi (F (l.length+1) 0) ((∀x∈l,P x)/\E):=by refine(zRq (len:=l.length) F (λi=>∀x,l[i]? =some x->P x) E (λn i hi=>⟨decide (P l[i]),?_,u n i hi⟩) I (l.length+1) 0 (by omega) (by omega)).iff ⟨λh=>⟨λx hx=> ?_,h.2⟩,λh=>⟨λj _ J x hx=>h.1 x (wD hx),h.2⟩⟩;(rw[decide_eq_true_eq,wB hi];exact⟨λh x e=>by cases e;exact h,λh=>h _ rfl⟩);(obtain⟨i,hi,e⟩:=List.getElem_of_mem hx;exact h.1 i (by omega) hi x (by rw[wB hi,e]))
theorem zPJ{α:Type}{p:Prop}[Decidable p]{a b:α}:(bif decide p then a else b)=if p then a else b:=by by_cases h:p<;>simp[h]
theorem mi3_lt(a b c:Int):mi3 a b c<0↔a<0\/b<0\/c<0:=by unfold mi3;by_cases h:b<a<;>simp only[h,if_true,if_false]<;>split<;>omega
theorem ma3_gt(a b c z:Int):ma3 a b c>z↔a>z\/b>z\/c>z:=by unfold ma3;by_cases h:b>a<;>simp only[h,if_true,if_false]<;>split<;>omega
theorem mi2_lt(a b:Int):(if b<a then b else a)<0↔a<0\/b<0:=by split<;>omega
theorem ma2_gt(a b z:Int):(if b>a then b else a)>z↔a>z\/b>z:=by split<;>omega
theorem zT6{x:Option Bool}{p:Prop}(h:x=some true/\p\/x=some false/\¬p):zBi x p:=by rcases h with⟨h,k⟩|⟨h,k⟩;exact⟨true,h,by simp[k]⟩;exact⟨false,h,by simp[k]⟩
theorem n_wants(l:List zJ)(hl:l.length<=9223372036854775807):zBi (zB4 l) ((∀w∈l,zSZ w)/\l.length<=64):=by
 rw[zRU]
 refine zFJ (zAJ (λ_=>zEA l) l) (λn i I=> ?_) λn=> ?_
 ·
  rw[zAJ,zI (yG (by omega)),yC I,wA,qZ (by omega)]
  simp only[zPJ,mi3_lt,ma3_gt]
  by_cases u:zSZ l[i]
  ·
   rw[if_pos u]
   obtain⟨W,⟨U,h3⟩,⟨Z,h5⟩,J,h7⟩:=u
   rw[if_neg (by omega),if_neg (by omega),if_neg (by omega)]
  ·
   rw[if_neg u]
   repeat' split
   all_goals first|rfl|exact absurd ⟨by omega,⟨by omega,by omega⟩,⟨by omega,by omega⟩,by omega,by omega⟩ u
 ·
  rw[zAJ,zH (yE (by omega))]
  exact .of (by rw[decide_eq_true_eq];omega)
theorem n_changes(l:List zF)(hl:l.length<=9223372036854775807):zBi (zBD l) ((∀w∈l,zHc w)/\l.length<=64):=by
 rw[zOV]
 refine zFJ (yN (λ_=>zC8 l) l) (λn i I=> ?_) λn=> ?_
 ·
  rw[yN,zI (yG (by omega)),yC I,wA,qZ (by omega)]
  simp only[zPJ,mi2_lt,ma2_gt]
  by_cases u:zHc l[i]
  ·
   rw[if_pos u]
   obtain⟨W,⟨U,h3⟩,⟨Z,h5⟩,J⟩:=u
   rw[if_neg (by omega),if_neg (by omega),if_neg (by omega),if_neg (by omega)]
  ·
   rw[if_neg u]
   repeat' split
   all_goals first|rfl|exact absurd ⟨by omega,⟨by omega,by omega⟩,⟨by omega,by omega⟩,by omega⟩ u
 ·
  rw[yN,zH (yE (by omega))]
  exact .of (by rw[decide_eq_true_eq];omega)
theorem zVI(n:Int):zBN n=some (decide (numP n)):=by
 rw[zUH]
 simp only[zPJ,numP]
 grind(splits:=40) [List.isEmpty_iff,List.length_eq_zero_iff]
theorem n_May_l1(r:zB)(hl:r.Wants.length<=9223372036854775807):zBi (zBh r (r.Wants.length+1) 0) ((∀w∈r.Wants,zSZ w)/\True):=by refine zFJ (zBh r) (λn i u=> ?_) λn=> ?_;(rw[zBh,zI (yG (by omega)),yC u,wA,qZ (by omega),zVI,zVI,zVI];simp only[wA,zSZ,cond_eq_ite,decide_eq_true_eq];grind);(rw[zBh,zH (yE (by omega))];exact .of (by simp))
theorem n_May_l2(r:zB)(hl:r.Changes.length<=9223372036854775807):zBi (zBk r (r.Changes.length+1) 0) ((∀w∈r.Changes,zHc w)/\True):=by refine zFJ (zBk r) (λn i u=> ?_) λn=> ?_;(rw[zBk,zI (yG (by omega)),yC u,wA,qZ (by omega),zVI,zVI];simp only[wA,zHc,cond_eq_ite,decide_eq_true_eq];grind);(rw[zBk,zH (yE (by omega))];exact .of (by simp))
def MayP(r:zB):Prop:=
 ((r.Kind=1\/r.Kind=2)/\r.Key.length<=40/\r.User=[]/\r.Number=0/\r.Wants=[]/\r.Changes=[])\/
 (r.Key=[]/\NameP r.User/\((r.Kind=3/\r.Number=0/\r.Changes=[]/\r.Wants.length<=64/\∀w∈r.Wants,zSZ w)\/
  (r.Kind=4/\1<=r.Number/\r.Number<=1099511627776/\r.Wants=[]/\r.Changes.length<=64/\∀c∈r.Changes,zHc c)))
def zRs(r:zB):Prop:=r.User.length<=9223372036854775807/\r.Wants.length<=9223372036854775807/\r.Changes.length<=9223372036854775807
theorem zMR(r:zB)(h:zRs r):zBi (zFg r) (MayP r):=by
 obtain⟨nb,hn,hni⟩:=zXd r.User h.1
 obtain⟨wb,hw,hwi⟩:=n_May_l1 r h.2.1
 obtain⟨cb,hc,hci⟩:=n_May_l2 r h.2.2
 rw[u_R36_May,hn,hw,hc,Option.bind_some]
 refine zT6 ?_
 simp only[cond_eq_ite,decide_eq_true_eq,zTV]
 unfold MayP
 grind(splits:=40) [List.isEmpty_iff,List.length_eq_zero_iff]
theorem zEf(r:zB)(h:zRs r):zBi (zCS r) (MayP r):=by
 obtain⟨nb,hn,hni⟩:=zVd r.User h.1
 obtain⟨wb,hw,hwi⟩:=n_wants r.Wants h.2.1
 obtain⟨cb,hc,hci⟩:=n_changes r.Changes h.2.2
 rw[zTf]
 unfold zDk zDh yL zDQ
 rw[hn,hw,hc]
 refine zT6 ?_
 simp only[Option.bind_some,cond_eq_ite,decide_eq_true_eq,zTV]
 unfold MayP
 grind(splits:=40) [List.isEmpty_iff,List.length_eq_zero_iff]
def zMD(w:zJ):V:=zKM [numV w.Kind,zPQ w.Key,numV w.Version,numV w.Size]
def zDj(c:zF):V:=zKM [numV c.Kind,zPQ c.Key,numV c.Version,zPQ c.Data]
def reqV(r:zB):V:=zKM [numV r.Kind,zPQ r.User,numV r.Number,zPQ r.Key,zKM (r.Wants.map zMD),zKM (r.Changes.map zDj)]
structure ReqP(r:zB):Prop where
 kind:0<=r.Kind/\r.Kind<=4
 num:numP r.Number
 user:r.User.length<=12
 key:r.Key.length<=40
 wl:r.Wants.length<=64
 w:∀w∈r.Wants,zSZ w
 cl:r.Changes.length<=64
 c:∀c∈r.Changes,zHc c
theorem MayP.req{r:zB}(h:MayP r):ReqP r:=by rcases h with⟨Z,J,h3,U,I,u⟩|⟨Z,⟨_,_,J⟩,h⟩;exact⟨by omega,by rw[U];exact⟨by omega,by omega⟩,by rw[h3];simp,J,by rw[I];simp,by rw[I];simp,by rw[u];simp,by rw[u];simp⟩;(rcases h with⟨h3,U,I,u,W⟩|⟨h3,U,I,u,W,h8⟩;exact⟨by omega,by rw[U];exact⟨by omega,by omega⟩,J,by rw[Z];simp,u,W,by rw[I];simp,by rw[I];simp⟩;exact⟨by omega,⟨by omega,by omega⟩,J,by rw[Z];simp,by rw[u];simp,by rw[u];simp,W,h8⟩)
theorem ReqP.short{r:zB}(h:ReqP r):zRs r:=⟨by have:=h.user;omega,by have:=h.wl;omega,by have:=h.cl;omega⟩
theorem right4{l:List V}(hl:l.length=4)(h:∀x∈l,x.rpure=true/\x.deep=0):(zKM l).rpure=true/\(zKM l).deep<=1:=
 ⟨zLM (by omega) λx hx=>(h x hx).1,zPr (d:=0) λx hx=>Nat.le_of_eq (h x hx).2⟩
theorem zXW{w:zJ}(h:zSZ w):((zMD w).rpure=true/\(zMD w).deep<=1)/\(zMD w).sz<=1200:=by obtain⟨W,u,J,I⟩:=h;refine⟨right4 rfl λx hx=> ?_,?_⟩;(simp only[vD,uD,or_false]at hx;rcases hx with rfl|rfl|rfl|rfl;exact⟨zD8 u.1 u.2,zHo _⟩;exact⟨zG3 _,zJa _⟩;exact⟨zD8 J.1 J.2,zHo _⟩;exact⟨zD8 I.1 I.2,zHo _⟩);(have Z:=zPh u.1 u.2;have U:=zPh J.1 J.2;have z3:=zPh I.1 I.2;unfold zMD;rw[zTU];simp only[V.sz.szs];rw[zPw];omega)
theorem zVA{c:zF}(h:zHc c):((zDj c).rpure=true/\(zDj c).deep<=1)/\(zDj c).sz<=1200:=by obtain⟨W,u,I,U⟩:=h;refine⟨right4 rfl λx hx=> ?_,?_⟩;(simp only[vD,uD,or_false]at hx;rcases hx with rfl|rfl|rfl|rfl;exact⟨zD8 u.1 u.2,zHo _⟩;exact⟨zG3 _,zJa _⟩;exact⟨zD8 I.1 I.2,zHo _⟩;exact⟨zG3 _,zJa _⟩);(have Z:=zPh u.1 u.2;have J:=zPh I.1 I.2;unfold zDj;rw[zTU];simp only[V.sz.szs];rw[zPw,zPw];omega)
theorem zSC{α:Type}{l:List α}{g:α->V}(hl:l.length<=64)(h:∀x∈l,((g x).rpure=true/\(g x).deep<=1)/\(g x).sz<=1200):((zKM (l.map g)).rpure=true/\(zKM (l.map g)).deep<=2)/\(zKM (l.map g)).sz<=77000:=by(have k:∀y∈l.map g,(y.rpure=true/\y.deep<=1)/\y.sz<=1200:=λy hy=>by obtain⟨x,hx,rfl⟩:=vW.1 hy;exact h x hx);have s:=szs_le (l.map g) 1200 λx hx=>(k x hx).2;rw[wM]at s;have u:V.sz.szs (l.map g)<=64*1200:=vR s (vN _ hl);exact⟨⟨zLM (by rw[wM];omega) λx hx=>(k x hx).1.1,zPr (d:=1) λx hx=>(k x hx).1.2⟩,by rw[zTU];omega⟩
theorem zPR{r:zB}(h:ReqP r):(reqV r).rpure=true/\(reqV r).deep<=16/\(reqV r).sz<=1048576:=by have a:=zSC (g:=zMD) h.wl λx hx=>zXW (h.w x hx);have b:=zSC (g:=zDj) h.cl λx hx=>zVA (h.c x hx);have I:=h.kind;have u:=h.num;have W:=h.user;have U:=h.key;have Z:=zPh (n:=r.Kind) I.1 (by omega);have J:=zPh u.1 u.2;refine⟨zLM (by simp) λx hx=> ?_,vR (zPr (d:=2) λx hx=> ?_) (by omega),?_⟩;(simp only[vD,uD,or_false]at hx;rcases hx with rfl|rfl|rfl|rfl|rfl|rfl;exact zD8 I.1 (by omega);exact zG3 _;exact zD8 u.1 u.2;exact zG3 _;exact a.1.1;exact b.1.1);(simp only[vD,uD,or_false]at hx;rcases hx with rfl|rfl|rfl|rfl|rfl|rfl;rw[zHo];omega;rw[zJa];omega;rw[zHo];omega;rw[zJa];omega;exact a.1.2;exact b.1.2);(unfold reqV;rw[zTU];simp only[V.sz.szs];rw[zPw,zPw];omega)
theorem zUW{r:zB}(h:ReqP r):V.right (reqV r)=true/\(reqV r).enc.length<=1048576:=by obtain⟨I,J,u⟩:=zPR h;refine⟨?_,by rw[V.enc_length];exact u⟩;unfold V.right;rw[I,decide_eq_true J,decide_eq_true u];rfl
theorem zW1{k:List UInt8}(h:k.length<=100):zBF k=some (zPQ k):=by rw[zTK,zPg h,wA,zQN];rfl
theorem zXc{r:zB}(h:ReqP r)(K:List V->Option (List UInt8×Int)):yP K r (r.Wants.length+1) [] 0=K (r.Wants.map zMD):=
 (zMf (l:=r.Wants) (yP K r) (λ_=>True) zMD K none (λn out i u J=>⟨λ_=>by
  have I:=h.wl
  rw[yP,zI (yG (by omega)),yC u,wA,zDH,wA,zW1 (by have:=(h.w _ (vX u)).1;omega),wA,zDH,wA,zDH,wA,zNF,wA]
  show Option.bind (appI 64 out [zMD r.Wants[i]]) _=_
  rw[yV (by simp;omega),wA,qZ (by omega)],λh=>absurd trivial h⟩) (λn out=>by
  rw[yP,zH (yE (by omega))]) (r.Wants.length+1) 0 [] (by omega) (by omega) (by simp)).1 λ_ _=>trivial
theorem zX6{r:zB}(h:ReqP r)(K:List V->Option (List UInt8×Int)):yQ K r (r.Changes.length+1) [] 0=K (r.Changes.map zDj):=
 (zMf (l:=r.Changes) (yQ K r) (λ_=>True) zDj K none (λn out i u J=>⟨λ_=>by
  have I:=h.cl
  rw[yQ,zI (yG (by omega)),yC u,wA,zDH,wA,zW1 (by have:=(h.c _ (vX u)).1;omega),wA,zDH,wA,zQN,wA,zNF,wA]
  show Option.bind (appI 64 out [zDj r.Changes[i]]) _=_
  rw[yV (by simp;omega),wA,qZ (by omega)],λh=>absurd trivial h⟩) (λn out=>by
  rw[yQ,zH (yE (by omega))]) (r.Changes.length+1) 0 [] (by omega) (by omega) (by simp)).1 λ_ _=>trivial
theorem n_Write{r:zB}(h:MayP r):zB6 r=some ((reqV r).enc,0):=by have u:=h.req;rw[zKt,(zEf r u.short).yes h,wA,zH (by rfl)];show Option.bind (some (V.mk 3 0 [] [])) _=_;rw[wA];show Option.bind (some (V.mk 3 0 [] [])) _=_;rw[wA,zXc u];unfold zEB;rw[zX6 u];unfold zEG;rw[zDH,wA,zW1 (by have:=u.user;omega),wA,zDH,wA,zW1 (by have:=u.key;omega),wA,zNF,wA];show Option.bind (zB7 (reqV r)) _=_;rw[n_Encode,if_pos (zUW u).1];rfl
theorem zYP{r:zB}(u:zRs r)(h:¬MayP r):zB6 r=some ([],2):=by rw[zKt,(zEf r u).no h,wA,zI (by rfl)]
theorem zXg{r:zB}(h:ReqP r)(K:List V->Option (List UInt8)):zAg K r (r.Wants.length+1) [] 0=K (r.Wants.map zMD):=
 (zMf (l:=r.Wants) (zAg K r) (λ_=>True) zMD K none (λn out i u J=>⟨λ_=>by
  have I:=h.wl
  rw[zAg,zI (yG (by omega)),yC u,wA,zFW,wA,zPg (by have:=(h.w _ (vX u)).1;omega),wA,zJO,wA,zFW,wA,zFW,wA,zMP,wA]
  show Option.bind (appI 64 out [zMD r.Wants[i]]) _=_
  rw[yV (by simp;omega),wA,qZ (by omega)],λh=>absurd trivial h⟩) (λn out=>by
  rw[zAg,zH (yE (by omega))]) (r.Wants.length+1) 0 [] (by omega) (by omega) (by simp)).1 λ_ _=>trivial
theorem zXf{r:zB}(h:ReqP r)(K:List V->Option (List UInt8)):zAi K r (r.Changes.length+1) [] 0=K (r.Changes.map zDj):=
 (zMf (l:=r.Changes) (zAi K r) (λ_=>True) zDj K none (λn out i u J=>⟨λ_=>by
  have I:=h.cl
  rw[zAi,zI (yG (by omega)),yC u,wA,zFW,wA,zPg (by have:=(h.c _ (vX u)).1;omega),wA,zJO,wA,zFW,wA,zJO,wA,zMP,wA]
  show Option.bind (appI 64 out [zDj r.Changes[i]]) _=_
  rw[yV (by simp;omega),wA,qZ (by omega)],λh=>absurd trivial h⟩) (λn out=>by
  rw[zAi,zH (yE (by omega))]) (r.Changes.length+1) 0 [] (by omega) (by omega) (by simp)).1 λ_ _=>trivial
theorem zVO{r:zB}(h:MayP r):zDI r=some (reqV r).enc:=by have u:=h.req;rw[zWL,zXg u];unfold zGI;rw[zXf u];unfold zGH;rw[zFW,wA,zPg (by have:=u.user;omega),wA,zJO,wA,zFW,wA,zPg (by have:=u.key;omega),wA,zJO,wA,zMP,wA,zMP,wA,zMP,wA];show Option.bind (zBS (V.ht (reqV r)) (reqV r)) _=_;obtain⟨r1,r2,r3⟩:=zPR u;rw[zQa _ _ (wL _) r1 r3];rfl
end Go.Proofs.YtocolhfjpadaoaaGreatDoor
