/-
  Lemmas of this claim, joined.
-/
import Derived.Test.YtocolhfjpadaoaaGreatDoorR15
import Derived.Lib.SmallJoins
set_option linter.unusedVariables false
set_option linter.unusedSimpArgs false
set_option linter.constructorNameAsVariable false
namespace Go.Proofs.YtocolhfjpadaoaaGreatDoor
open Go Go.RowKit
variable {P:Program}{w0:World}{w:World}{m0:Mem}{m:Mem}{o0:OwnM}{o:OwnM}{G:GD}{pins:List Nat}{N:Nat}{a:Act}{op:Oper}{S:Nat->A}{M:Nat->A}{L:SL}{v:Value}{W:World}{Q:Mem}{X:OwnM}
theorem zOJ{α:Type}{b r:List α}{c:α}{i:Nat}(h:b.drop i=c::r):i<b.length/\idx b (i:Int)=some c/\b.drop (i+1)=r:=by(have u:i<b.length:=by by_cases u:i<b.length;exact u;rw[uV (by omega)]at h;cases h);rw[vH u]at h;injection h with I J;exact⟨u,by rw[zAQ u,I],J⟩
theorem drop_nil{α:Type}{b:List α}{i:Nat}(h:b.drop i=[]):b.length<=i:=by have:=congrArg List.length h;simp at this;omega
theorem zNZ{α:Type}{l:List α}{lo n:Nat}(h:lo+n<=l.length)(z:Int)(hz:z=((lo+n:Nat):Int)):cutI l (lo:Int) z=some ((l.drop lo).take n):=by subst hz;unfold cutI;rw[if_pos ⟨by omega,by omega,by omega⟩,uE,uE,List.drop_take];simp
theorem ofBE_le(x y:List UInt8):ofBE x<=ofBE (x++y):=by unfold ofBE;rw[sR];generalize List.foldl (λx c=>x*256+c.toNat) 0 x=a;(induction y generalizing a with|nil=>exact wL _|cons c r u=>exact vR (by omega) (u (a*256+UInt8.toNat c)))
theorem zMi(b:List UInt8)(hb:b.length<=8):∀(n i:Nat),i<=b.length->b.length-i<n->ofBE (b.take i)<=4611686018427387904->zAN zCJ b n (ofBE (b.take i):Int) (i:Int)=some (if 4611686018427387904<ofBE b then(0,11)else((ofBE b:Int),0))
 |0,i,_,h,_=>by omega
 |n+1,i,hi,h,U=>by unfold zAN;by_cases u:i<b.length;(rw[zG (yJ (by omega)),zAQ u,wA];(have ht:ofBE (b.take (i+1))=ofBE (b.take i)*256+b[i].toNat:=by rw[<-sJ u,zHm]);(have Z:ofBE (b.take (i+1))<=ofBE b:=by have:=ofBE_le (b.take (i+1)) (b.drop (i+1));rwa [uX]at this);have hc:=b[i].toNat_lt;(have I:ofBE (b.take (i+1))<=4611686018427387904->∀y z,zFJ (λq=>zAN zCJ b n q.1 q.2) (ofBE (b.take i):Int) b[i] (i:Int) y z=some (if 4611686018427387904<ofBE b then(0,11)else((ofBE b:Int),0)):=by intro J y z;show zAN zCJ b n _ _=_;rw[zAS (by omega),zDg (z:=256*(ofBE (b.take i):Int)) (by omega) (by omega),zDg (by omega) (by omega)];rw[show(256*(ofBE (b.take i):Int)+(b[i].toNat:Int))=((ofBE (b.take (i+1)):Nat):Int) by rw[ht];omega];exact zMi b hb n (i+1) (by omega) (by omega) J);by_cases h1:18014398509481984<ofBE (b.take i);rw[zG (yJ (by omega)),if_pos (by omega)];(rw[zE (yC (by omega))];by_cases W:ofBE (b.take i)=18014398509481984;(rw[zG (zBu (by omega))];by_cases h3:0<b[i].toNat;rw[zG (yJ (by omega)),if_pos (by omega)];(rw[zE (yC (by omega))];exact I (by omega) _ _));(rw[zE (zCC (by omega))];exact I (by omega) _ _)));((have e:i=b.length:=by omega);subst e;rw[zE (yC (by omega))];rw[List.take_length]at U⊢;rw[if_neg (by omega)];rfl)
theorem zOb(b:List UInt8):zE4 b=some (getN b,getE b):=by rw[u_R01_Get];unfold getN getE;by_cases I:b.length=0;rw[zG (zBu (by omega)),if_pos (.inl I),if_pos I];(rw[zE (zCC (by omega)),if_neg I];by_cases u:8<b.length;rw[zG (yJ (by omega)),if_pos (.inr (.inl u)),if_pos u];(rw[zE (yC (by omega)),if_neg u];have h:=zMi b (by omega) (b.length+1) 0 (by omega) (by omega) (by simp[ofBE]);have e:zAN zCJ b (b.length+1) 0 0=zAN zCJ b (b.length+1) ((ofBE (b.take 0):Nat):Int) ((0:Nat):Int):=rfl;rw[e,h];by_cases hx:4611686018427387904<ofBE b;rw[if_pos hx,if_pos hx,if_pos (.inr (.inr hx))];rw[if_neg hx,if_neg hx,if_neg (by omega)]))
def Gv(x:Option (V×Int×Int))(b:List UInt8)(y:Except Int (V×List UInt8)):Prop:=match y with
 | .ok (v,r)=>∃i:Nat,x=some (v,(i:Int),0)/\i<=b.length/\b.drop i=r
 | .error e=>e≠0/\x=some (.mk 0 0 [] [],0,e)
theorem gv10{b:List UInt8}{x:Option (V×Int×Int)}(h:x=some (.mk 0 0 [] [],0,10)):Gv x b (.error 10):=⟨by decide,h⟩
theorem gv11{b:List UInt8}{x:Option (V×Int×Int)}(h:x=some (.mk 0 0 [] [],0,11)):Gv x b (.error 11):=⟨by decide,h⟩
theorem zKz(N:Nat)(hN:N<=65536)(W:Int)(f:List UInt8->Except Int (V×List UInt8))(b:List UInt8)(self:List UInt8->Int->Int->Option (V×Int×Int))(d:Nat)(hd:d<=1000)
(u:∀j,j<=b.length->Gv (self b (j:Int) (d:Int)) b (f (b.drop j))):
 ∀(n q j:Nat) (l:List V),q<=N->N-q<n->j<=b.length->l.length=q->Gv (zBC (λq=>zDN q.1 q.2) ((N:Int),W) self b ((d+1:Nat):Int) n (j:Int) l (q:Int)) b (match pvI f (N-q) (b.drop j)with| .error e=> .error e| .ok (I,r)=> .ok (.mk 3 0 [] (l++I),r))
 |0,q,j,l,_,h,_,_=>by omega
 |n+1,q,j,l,hq,h,hj,hl=>by unfold zBC;by_cases α:q<N;(rw[zG (yJ (by show(q:Int)<(N:Int);omega))];obtain⟨k,hk⟩:∃k,N-q=k+1:=⟨N-q-1,by omega⟩;rw[zDg (z:=((d+1:Nat):Int)-1) (by omega) (by omega),show((d+1:Nat):Int)-1=(d:Int) by omega,hk,pvI];have J:=u j hj;(cases hf:f (b.drop j)with|error e=>rw[hf]at J;obtain⟨he,J⟩:=J;rw[J,wA,zG (c:=e !=0) (zIa he)];exact⟨he,rfl⟩|ok vr=>obtain⟨v,r⟩:=vr;rw[hf]at J;obtain⟨i,J,hi,hr⟩:=J;rw[J,wA,zE (c:=(0:Int) !=0) rfl,zAT (by simp;omega),wA,zAS (by omega)];have Z:=zKz N hN W f b self d hd u n (q+1) i (l++[v]) (by omega) (by omega) hi (by simp[hl]);rw[show N-(q+1)=k by omega,hr]at Z;(show Gv (zBC (λq=>zDN q.1 q.2) ((N:Int),W) self b ((d+1:Nat):Int) n (i:Int) (l++[v]) ((q+1:Nat):Int)) b (match(match pvI f k r with| .error e=>(.error e:Except Int (List V×List UInt8))| .ok (I,U)=> .ok (v::I,U))with| .error e=> .error e| .ok (I,U)=> .ok (.mk 3 0 [] (l++I),U)));generalize pvI f k r=z at Z⊢;(cases z with|error e=>exact Z|ok lr=>obtain⟨I,U⟩:=lr;show Gv _ b (.ok (.mk 3 0 [] (l++v::I),U));rw[show l++v::I=l++[v]++I by simp];exact Z)));((have e:N-q=0:=by omega);rw[zE (yC (by show¬(q:Int)<(N:Int);omega)),e,pvI];show Gv _ b (.ok (.mk 3 0 [] (l++[]),b.drop j));rw[tT];exact⟨j,rfl,hj,rfl⟩)
theorem zIX(b:List UInt8)(hb:b.length<=1048576)(i:Nat)(hi:i<=b.length)(k0:Nat)(p2:Int)(W:Option (List UInt8->Except Int (V×List UInt8)))
(h0:p2=0->W=none)(h1:p2≠0->∃d f,d<=1000/\p2=((d+1:Nat):Int)/\W=some f/\∀j,j<=b.length->Gv (zA6 k0 b (j:Int) (d:Int)) b (f (b.drop j))):
 Gv (zA6 (k0+1) b (i:Int) p2) b (pvK W (b.drop i)):=by
 rw[zWI]
 cases hx:b.drop i with
  |nil=>
   have:=drop_nil hx
   rw[zG (yJ (by omega)),zRQ]
   exact gv10 rfl
  |cons k r=>
   obtain⟨ξ,hk,hr⟩:=zOJ hx
   have γ:r.length=b.length-(i+1):=by rw[<-hr];simp
   rw[zE (yC (by omega)),hk,wA,zAS (by omega),zFT]
   by_cases k1:k.toNat=1
   · rw[zG (zBu (by omega)),if_pos k1];(cases hy:r with|nil=>rw[hy]at γ;simp only[tD]at γ;rw[zG (yJ (by omega)),pvN_nil];exact gv10 rfl|cons c s=>rw[hy]at hr;obtain⟨δ,hc,Z⟩:=zOJ hr;(have π:s.length=b.length-(i+2):=by rw[<-Z];simp);rw[zE (yC (by omega)),hc,wA,zAS (n:=i+1) (by omega),zVG];by_cases c8:8<c.toNat;(rw[zG (yJ (by omega)),if_pos c8];exact gv11 rfl);(rw[zE (yC (by omega)),if_neg c8,zDg (z:=(b.length:Int)-((i+1+1:Nat):Int)) (by omega) (by omega)];by_cases I:s.length<c.toNat;(rw[zG (yJ (by omega)),if_pos I];exact gv10 rfl);(rw[zE (yC (by omega)),if_neg I];by_cases c0:c.toNat=0;(rw[zG (zBu (by omega)),if_pos c0];exact⟨i+1+1,rfl,by omega,Z⟩);(rw[zE (zCC (by omega)),if_neg c0,zDg (z:=((i+1+1:Nat):Int)+(c.toNat:Int)) (by omega) (by omega),zNZ (n:=c.toNat) (by omega) _ (by omega),wA,zOb,wA,Z];(have hl:(s.take c.toNat).length=c.toNat:=by simp;omega);(obtain⟨x,s',U⟩:∃x s',s=x::s':=by(cases κ:s with|nil=>rw[κ]at I;simp at I;omega|cons x s'=>exact⟨x,s',rfl⟩));rw[U]at Z;obtain⟨_,ι,_⟩:=zOJ Z;rw[ι,wA];by_cases u:4611686018427387904<ofBE (s.take c.toNat);((have he:getE (s.take c.toNat)=11:=by unfold getE;rw[hl,if_neg c0,if_neg c8,if_pos u]);rw[he,zG (c:=(11:Int) !=0) rfl,if_pos (.inl u)];exact gv11 rfl);((have he:getE (s.take c.toNat)=0:=by unfold getE;rw[hl,if_neg c0,if_neg c8,if_neg u]);(have hn:getN (s.take c.toNat)=ofBE (s.take c.toNat):=by unfold getN;rw[hl,if_neg (by omega)]);rw[he,hn,zE (c:=(0:Int) !=0) rfl];by_cases J:x.toNat=0;((have η:x=0:=by have:=zN3 J;simpa using this);rw[zG (zBu (by omega)),if_pos (.inr (by rw[U,η];rfl))];exact gv11 rfl);(rw[zE (zCC (by omega)),if_neg (by rintro(h|h);exact u h;(rw[U]at h;injection h with h;rw[h]at J;exact J rfl))];refine⟨i+1+1+c.toNat,?_,by omega,?_⟩;rw[show((i+1+1:Nat):Int)+(c.toNat:Int)=((i+1+1+c.toNat:Nat):Int) by omega];rw[<-sF,Z,<-U]))))))
   · rw[zE (zCC (by omega)),if_neg k1];by_cases k2:k.toNat=2;(rw[zG (zBu (by omega)),if_pos k2,zDg (z:=(b.length:Int)-((i+1:Nat):Int)) (by omega) (by omega)];unfold pvB;by_cases h3:r.length<3;(rw[zG (yJ (by omega)),if_pos h3];exact gv10 rfl);(rw[zE (yC (by omega)),if_neg h3,zDg (z:=((i+1:Nat):Int)+3) (by omega) (by omega),zNZ (n:=3) (by omega) _ (by omega),wA,zOb,wA,hr];(have θ:(r.take 3).length=3:=by simp;omega);rw[zMH (by omega) (by omega)];have ν:=zIb 3 _ θ;rw[zDg (z:=(b.length:Int)-(((i+1:Nat):Int)+3)) (by omega) (by omega)];by_cases I:(r.drop 3).length<ofBE (r.take 3);(rw[zG (yJ (by simp at I;show((ofBE (r.take 3):Nat):Int)>_;omega)),if_pos I];exact gv10 rfl);(rw[zE (yC (by simp at I;show¬((ofBE (r.take 3):Nat):Int)>_;omega)),if_neg I];(have β:b.drop (i+1+3)=r.drop 3:=by rw[<-sF,hr]);(have μ:ofBE (r.take 3)<=b.length-(i+1+3):=by simp at I;omega);show Gv (Option.bind (cutI b (((i+1:Nat):Int)+3) (wi (((i+1:Nat):Int)+3+((ofBE (r.take 3):Nat):Int)))) _) b _;rw[zDg (by omega) (by omega),show((i+1:Nat):Int)+3=((i+1+3:Nat):Int) by omega,zNZ (n:=ofBE (r.take 3)) (by omega) _ (by omega),wA,β];refine⟨i+1+3+ofBE (r.take 3),?_,by omega,?_⟩;rw[show((i+1+3:Nat):Int)+((ofBE (r.take 3):Nat):Int)=((i+1+3+ofBE (r.take 3):Nat):Int) by omega];rw[<-sF,β])));(rw[zE (zCC (by omega)),if_neg k2];by_cases k3:k.toNat=3;(rw[zE (zF5 (by omega)),if_pos k3,zDg (z:=(b.length:Int)-((i+1:Nat):Int)) (by omega) (by omega)];by_cases h2:r.length<2;(rw[zG (yJ (by omega)),if_pos h2];exact gv10 rfl);(rw[zE (yC (by omega)),if_neg h2,zDg (z:=((i+1:Nat):Int)+2) (by omega) (by omega),zNZ (n:=2) (by omega) _ (by omega),wA,zOb,wA,hr];(have ζ:(r.take 2).length=2:=by simp;omega);rw[zMH (by omega) (by omega)];have δ:=zIb 2 _ ζ;(have ε:b.drop (i+1+2)=r.drop 2:=by rw[<-sF,hr]);by_cases u:4096<ofBE (r.take 2);(rw[zG (yJ (by show((ofBE (r.take 2):Nat):Int)>_;omega)),if_pos u];exact gv11 rfl);(rw[zE (yC (by show¬((ofBE (r.take 2):Nat):Int)>_;omega)),if_neg u];by_cases hp:p2=0;(rw[zG (zBu hp),h0 hp];exact gv11 rfl);(obtain⟨d,f,hd,e,Z,α⟩:=h1 hp;rw[zE (zCC hp),Z];subst e;have h:=zKz (ofBE (r.take 2)) (by omega) (getE (r.take 2)) f b (zA6 k0) d hd α (ofBE (r.take 2)+1) 0 (i+1+2) [] (by omega) (by omega) (by omega) rfl;rw[Nat.sub_zero,ε]at h;show Gv (zBC (λq=>zDN q.1 q.2) (((ofBE (r.take 2):Nat):Int),getE (r.take 2)) (zA6 k0) b ((d+1:Nat):Int) (ofBE (r.take 2)+1) (((i+1:Nat):Int)+2) [] ((0:Nat):Int)) b _;rw[show((i+1:Nat):Int)+2=((i+1+2:Nat):Int) by omega];show Gv _ b (pvL (pvI f (ofBE (r.take 2)) (r.drop 2)));generalize pvI f (ofBE (r.take 2)) (r.drop 2)=z at h⊢;(cases z with|error e=>exact h|ok lr=>exact h)))));(rw[zG (zIa (by omega)),if_neg k3];exact gv11 rfl))
theorem zQO(b:List UInt8)(hb:b.length<=1048576):∀(d i:Nat),d<=1000->i<=b.length->Gv (zA6 (d+1) b (i:Int) (d:Int)) b (pv d (b.drop i))
 |0,i,_,u=>zIX b hb i u 0 0 none (λ_=>rfl) (λh=>absurd rfl h)
 |d+1,i,hd,u=>zIX b hb i u (d+1) ((d+1:Nat):Int) (some (pv d)) (λh=>by omega) (λ_=>⟨d,pv d,by omega,rfl,rfl,λj I=>zQO b hb d j (by omega) I⟩)
theorem zTP(b:List UInt8):zD1 b=some (decA b):=by rw[zTA];unfold decA decS;by_cases hl:1048576<b.length;rw[zG (yJ (by omega)),if_pos hl];(rw[zE (yC (by omega)),if_neg hl];have h:=zQO b (by omega) 16 0 (by omega) (by omega);have e:zA6 (Int.toNat 16+1) b 0 16=zA6 (16+1) b ((0:Nat):Int) ((16:Nat):Int):=rfl;rw[tZ]at h;rw[e];(cases hp:pv 16 b with|error e=>rw[hp]at h;obtain⟨I,h⟩:=h;rw[h,wA];show(bif e !=0 then some (V.mk 0 0 [] [],e)else _)=_;rw[zG (zIa I)]|ok U=>obtain⟨v,r⟩:=U;rw[hp]at h;obtain⟨i,h,Z,J⟩:=h;rw[h,wA];(show(bif (0:Int) !=0 then _ else bif decide ((i:Int)<(b.length:Int))then _ else some (v,0))=some (match(if r.isEmpty=true then Except.ok v else Except.error 12:Except Int V)with| .ok v=>(v,0)| .error e=>(V.mk 0 0 [] [],e)));rw[zE (zF5 rfl)];(have u:r.length=b.length-i:=by rw[<-J];simp);(cases r with|nil=>simp only[tD]at u;rw[zE (yC (by omega))];rfl|cons c r=>simp only[tP]at u;rw[zG (yJ (by omega))];rfl)))
theorem zMe(k:Nat)(hk:k<=8):∀(n i m:Nat) (out:List UInt8),i<=k->k-i<n->out.length=i->m<=4611686018427387904->zCK (λq=>zD5 q.1 q.2) (k:Int) n (m:Int) out (i:Int)=some (if 0<m/256^(k-i)then([],2)else(out++le (k-i) m,0))
 |0,i,m,out,_,h,_,_=>by omega
 |n+1,i,m,out,hi,h,J,hm=>by unfold zCK;by_cases I:i<k;(rw[zG (yJ (by omega)),zAT (by simp;omega),wA,zAS (by omega)];have U:Int.tdiv (m:Int) 256=((m/256:Nat):Int):=rfl;have W:Int.tmod (m:Int) 256=((m %256:Nat):Int):=rfl;rw[U,W,zDg (by omega) (by omega),U8_nat (by omega),zMe k hk n (i+1) (m/256) _ (by omega) (by omega) (by simp[J]) (by omega)];obtain⟨j,Z⟩:∃j,k-i=j+1:=⟨k-i-1,by omega⟩;rw[show k-(i+1)=j by omega,Z,Nat.div_div_eq_div_mul,<-Nat.pow_succ',le];simp);((have e:k-i=0:=by omega);rw[zE (yC (by omega)),e];unfold zD5;by_cases u:0<m;rw[zG (yJ (by omega)),if_pos (by simpa using u)];(rw[zE (yC (by omega)),if_neg (by simpa using u)];simp[le]))
theorem zIQ(b:List UInt8)(hb:b.length<=4611686018427387904):∀(n i:Nat) (out:List UInt8),i<=b.length->i<n->out.length+i<=1000000000->zBT b n out ((i:Int)-1)=some (out++(b.take i).reverse)
 |0,i,out,_,h,_=>by omega
 |n+1,i,out,u,h,I=>by unfold zBT;(cases i with|zero=>rw[zE (yC (by omega))];simp|succ i=>rw[zG (yJ (by omega)),show((i+1:Nat):Int)-1=(i:Int) by omega,zAQ (by omega),wA,zAT (by simp;omega),wA,zDg (by omega) (by omega),zIQ b hb n i _ (by omega) (by omega) (by simp;omega),<-sJ (by omega:i<b.length),List.reverse_append];simp)
theorem zTX{n k:Nat}(h:n<256^k)(J:1<=k)(u:k<=8)(I:n<=4611686018427387904):zDq (n:Int) (k:Int)=some (be k n,0):=by rw[u_R01_Put];rw[u_R01_Low];rw[zE (yC (by omega)),zE (yC (by omega)),zE (yC (by omega)),zE (yC (by omega)),uE];have hl:=zMe k u (k+1) 0 n [] (by omega) (by omega) rfl I;rw[Nat.sub_zero,if_neg (by rw[sW h];omega)]at hl;show Option.bind (zCK (λq=>zD5 q.1 q.2) (k:Int) (k+1) (n:Int) [] ((0:Nat):Int)) _=_;rw[hl,wA];show Option.bind (zD0 (le k n)) _=_;rw[zSK];rw[zAX,zDg (by omega) (by omega)];have ht:=zIQ (le k n) (by rw[zAX];omega) (Int.toNat ((k:Int)-1)+2) k [] (by rw[zAX];exact wL _) (by omega) (by simp;omega);rw[ht,wA,show(le k n).take k=le k n from tE (by rw[zAX];exact wL _)];rfl
theorem zQN{z:Int}{w:Int}{n k:Nat}(hz:z=n)(I:w=k)(h:n<256^k)(U:1<=k)(u:k<=8)(J:n<=4611686018427387904):zDq z w=some (be k n,0):=by rw[hz,I,zTX h U u J]
theorem zJj(v:V):∀(n:Nat) (i m:Nat),wid m<n->i+wid m<=100->m<=4611686018427387904->zBE (zBq v) n (i:Int) (m:Int)=zBq v ((i+wid m:Nat):Int)
 |0,i,m,h,_,_=>by omega
 |n+1,i,m,h,Z,U=>by unfold zBE;by_cases J:0<m;(have u:=zUO J;have I:Int.tdiv (m:Int) 256=((m/256:Nat):Int):=rfl;rw[zG (yJ (by omega)),I,zAS (by omega),zDg (by omega) (by omega),zJj v n (i+1) (m/256) (by omega) (by omega) (by omega),u];rw[show i+1+wid (m/256)=i+(wid (m/256)+1) by omega]);((have e:m=0:=by omega);subst e;rw[zE (yC (by omega)),zNd,uB])
theorem zJa(v:V)(self:V->Option Y)(hl:v.l.length<=4096)(u:∀x∈v.l,self x=some x.enc):∀(n i:Nat) (out:List UInt8),i<=v.l.length->v.l.length-i<n->out.length+V.sz.szs (v.l.drop i)<=1000000000->zBD v self n out (i:Int)=some (out++V.enc.encs (v.l.drop i))
 |0,i,out,_,h,_=>by omega
 |n+1,i,out,U,h,J=>by unfold zBD;by_cases I:i<v.l.length;(rw[zUt _ _ I]at J;rw[zG (yJ (by omega)),zAQ I,wA,u _ (uC I),wA,zAT (by rw[V.enc_length];omega),wA,zAS (by omega),zJa v self hl u n (i+1) _ (by omega) (by omega) (by rw[wP,V.enc_length];omega),zTR _ _ I];simp);(rw[zE (yC (by omega)),uV (by omega)];simp[V.enc.encs])
theorem zO9:∀(k:Nat) (v:V),v.ht<=k->v.rpure=true->v.sz<=1048576->zBF k v=some v.enc
 |0,v,h,_,_=>absurd v.ht_pos (by omega)
 |k+1,v,h,hp,hs=>by rw[zT4];have u:=V.rpure_flat hp;by_cases k1:v.k=1;((have hn:0<=v.n/\v.n<=4611686018427387904:=by unfold V.flat at u;rw[if_pos k1]at u;simp at u;omega);obtain⟨m,Z⟩:=uJ hn.1;have W:wid m<=8:=zGj (by omega);rw[zG (zBu k1),Z];show zBE (zBq v) 70 ((0:Nat):Int) (m:Int)=_;rw[zJj v 70 0 m (by omega) (by omega) (by omega),vG,V.enc_eq,if_pos k1];unfold zBq;rw[U8_nat (by omega),Z,uE];by_cases α:0<wid m;(rw[zG (yJ (by omega)),zTX ((zG5 _ _).2 (wL _)) (by omega) W (by omega),wA];show Option.bind (appI 1 [1,UInt8.ofNat (wid m)] (be (wid m) m)) _=_;rw[zAT (by rw[qP];simp;omega)];rfl);((have e:wid m=0:=by omega);rw[zE (yC (by omega))];unfold zCq;rw[e];rfl));(rw[zE (zCC k1)];by_cases k2:v.k=2;((have U:v.b.length<=1048576:=by(have:v.sz=4+v.b.length:=by rw[<-v.eta];simp[V.sz,k2];simp[V.b]);omega);rw[zG (zBu k2),zQN (z:=(v.b.length:Int)) (w:=3) (n:=v.b.length) (k:=3) rfl rfl (by omega) (by omega) (by omega) (by omega),wA];show Option.bind (appI 1 [2] (be 3 v.b.length)) _=_;rw[zAT (by rw[qP];simp),wA,zAT (by simp[qP];omega),wA,V.enc_eq,if_neg k1,if_pos k2];rfl);(obtain⟨k3,_,_,J⟩:=V.flat_kind u k1 k2;(have U:V.sz.szs v.l<=1048576:=by(have:v.sz=3+V.sz.szs v.l:=by(cases v with|mk a b c d=>simp[V.k]at k1 k2;simp[V.sz,V.l,k1,k2]));omega);have I:∀x∈v.l,zBF k x=some x.enc:=λx hx=>zO9 k x (by have:=V.ht_item v x hx;omega) (V.rpure_items hp k3 x hx) (by have:=V.sz_le_szs v.l x hx;omega);rw[zE (zCC k2),zQN (z:=(v.l.length:Int)) (w:=2) (n:=v.l.length) (k:=2) rfl rfl (by omega) (by omega) (by omega) (by omega),wA];show Option.bind (appI 1 [3] (be 2 v.l.length)) _=_;rw[zAT (by rw[qP];simp),wA];show zBD v (zBF k) (v.l.length+1) ([3]++be 2 v.l.length) ((0:Nat):Int)=_;rw[zJa v (zBF k) J I (v.l.length+1) 0 _ (by omega) (by omega) (by simp[qP];omega),V.enc_eq,if_neg k1,if_neg k2];rfl))
set_option maxRecDepth 20000
def zHC(s:List UInt8):V:= .mk 2 0 s []
def numV(n:Int):V:= .mk 1 n [] []
def zRx(l:List V):V:= .mk 3 0 [] l
theorem zQi(s:List UInt8):(zHC s).rpure=true:=by simp[zHC,V.rpure,V.flat,V.k,V.n,V.b,V.l]
theorem zQZ{n:Int}(h0:0<=n)(u:n<=4611686018427387904):(numV n).rpure=true:=zSy h0 u
theorem zOL{l:List V}(h:l.length<=4096)(hl:∀x∈l,x.rpure=true):(zRx l).rpure=true:=zQo h hl
theorem zS0(s:List UInt8):(zHC s).deep=0:=V.deep_zero _ (by show¬(2:Int)=3;decide)
theorem zVE(n:Int):(numV n).deep=0:=V.deep_zero _ (by show¬(1:Int)=3;decide)
theorem zSm{l:List V}{d:Nat}(h:∀x∈l,x.deep<=d):(zRx l).deep<=d+1:=by rw[V.deep_eq _ rfl];exact V.dm_le l 1 (d+1) (λx hx=>by have:=h x hx;omega) (by omega)
theorem sz_word(s:List UInt8):(zHC s).sz=4+s.length:=by simp[zHC,V.sz]
theorem sz_num{n:Int}(h0:0<=n)(u:n<=4611686018427387904):(numV n).sz<=10:=by have:=zGj (n:=n.toNat) (by omega);simp[numV,V.sz];omega
theorem sz_list(l:List V):(zRx l).sz=3+V.sz.szs l:=by simp[zRx,V.sz]
theorem szs_le(l:List V)(c:Nat)(h:∀x∈l,x.sz<=c):V.sz.szs l<=l.length*c:=by(induction l with|nil=>simp[V.sz.szs]|cons x r u=>have I:=h x (by simp);have J:=u λy hy=>h y (by simp[hy]);rw[V.sz.szs,tP,Nat.succ_mul];omega)
theorem strB_ok{s:List UInt8}(h:s.length<=100):strB s=some s:=by unfold strB;rw[if_pos (by unfold maxLen;omega)]
def zGD(v:V)(u:List Int):Bool:=decide (v.k=3)&&(v.l.map V.k==u)
theorem zD7(v:V)(u:List Int):zGD v u=true↔v.k=3/\v.l.length=u.length/\∀j,j<u.length->∀x y,v.l[j]? =some x->u[j]? =some y->x.k=y:=by unfold zGD;rw[wI,decide_eq_true_eq,beq_iff_eq];refine and_congr_right λ_=>⟨λh=> ?_,λ⟨hl,h⟩=> ?_⟩;(subst h;refine⟨by simp,λj U x y hx hy=> ?_⟩;rw[wG,hx]at hy;injection hy);(refine List.ext_getElem (by simp[hl]) λi J I=> ?_;rw[List.getElem_map];exact h i I _ _ (wB _) (wB _))
theorem n_Fields (v : V) (u : List Int) (hk : u.length ≤ 100) : zCs v u = some (if zGD v u = true then (v.l, true) else ([], false)) := by
 rw [zPI]
 by_cases Z : v.k = 3
 case neg =>
  rw [zG (zIa Z), if_neg (fun h => Z ((zD7 v u).1 h).1)]
 rw [zE (zF5 Z)]
 by_cases hl : v.l.length = u.length
 case neg =>
  rw [zG (zIa (by omega)), if_neg (fun h => hl ((zD7 v u).1 h).2.1)]
 rw [zE (zF5 (by omega))]
 have h := zIV (len := u.length) (qL (fun q => zAE v) u v) (fun j => ∀ x y, v.l[j]? = some x → u[j]? = some y → x.k = y) (some (v.l, true)) (some ([], false)) (fun n i hi => by
  rw [qL]
  have I : i < v.l.length := by omega
  rw [zG (yJ (by omega)), zAQ hi, wA]
  have J : zAe (fun q => qL (fun q => zAE v) u v n q) v (i : Int) u[i] = bif (v.l[i].k != u[i]) then some ([], false) else qL (fun q => zAE v) u v n ((i + 1 : Nat) : Int) := by
   unfold zAe
   rw [zAQ I, wA, zAS (by omega)]
  rw [J]
  have hb : ∀ (a b : Bool) (z : Option (List V × Bool)), (bif a then z else bif b then z else z) = z := fun a b z => by cases a <;> cases b <;> rfl
  rw [hb]
  by_cases U : v.l[i].k = u[i]
  ·
   rw [zE (zF5 U)]
   refine ⟨fun _ => rfl, fun h => absurd (fun x y hx hy => ?_) h⟩
   rw [wB I] at hx
   rw [wB hi] at hy
   injection hx with hx
   injection hy with hy
   rw [← hx, ← hy, U]
  ·
   rw [zG (zIa U)]
   exact ⟨fun h => absurd (h _ _ (wB I) (wB hi)) U, fun _ => rfl⟩) (fun n => by
  rw [qL]
  rw [zE (yC (by omega))]
  rfl) (u.length + 1) 0 (by omega) (by omega)
 have e : qL (fun q => zAE v) u v (u.length + 1) 0 = qL (fun q => zAE v) u v (u.length + 1) ((0 : Nat) : Int) := rfl
 rw [e]
 by_cases W : ∀ j, 0 ≤ j → j < u.length → ∀ x y, v.l[j]? = some x → u[j]? = some y → x.k = y
 · rw [h.1 W, if_pos ((zD7 v u).2 ⟨Z, hl, fun j J => W j (by omega) J⟩)]
 · rw [h.2 W, if_neg (fun h => W fun j _ J => ((zD7 v u).1 h).2.2 j J)]
theorem n_Kinds (v : V) (u : List Int) (hk : u.length ≤ 100) : zE9 v u = some (zGD v u) := by
 rw [zTr]
 have no : ∀ (p : Prop), (zGD v u = true → p) → ¬ p → some false = some (zGD v u) := fun p h hp => by
  cases hb : zGD v u with
  | false => rfl
  | true => exact absurd (h hb) hp
 by_cases U : v.k = 3
 case neg =>
  rw [zG (zIa U)]
  exact no _ (fun h => ((zD7 v u).1 h).1) U
 rw [zE (zF5 U)]
 by_cases hl : v.l.length = u.length
 case neg =>
  rw [zG (zIa (by omega))]
  exact no _ (fun h => ((zD7 v u).1 h).2.1) hl
 rw [zE (zF5 (by omega))]
 have h := zIV (len := u.length) (zAH u v) (fun j => ∀ x y, v.l[j]? = some x → u[j]? = some y → x.k = y) (some true) (some false) (fun n i hi => by
  rw [zAH]
  have I : i < v.l.length := by omega
  rw [zG (yJ (by omega)), zAQ I, wA, zAQ hi, wA, zAS (by omega)]
  by_cases J : v.l[i].k = u[i]
  ·
   rw [zE (zF5 J)]
   refine ⟨fun _ => rfl, fun h => absurd (fun x y hx hy => ?_) h⟩
   rw [wB I] at hx
   rw [wB hi] at hy
   injection hx with hx
   injection hy with hy
   rw [← hx, ← hy, J]
  ·
   rw [zG (zIa J)]
   exact ⟨fun h => absurd (h _ _ (wB I) (wB hi)) J, fun _ => rfl⟩) (fun n => by
  rw [zAH]
  rw [zE (yC (by omega))]) (u.length + 1) 0 (by omega) (by omega)
 have e : zAH u v (u.length + 1) 0 = zAH u v (u.length + 1) ((0 : Nat) : Int) := rfl
 rw [e]
 by_cases Z : ∀ j, 0 ≤ j → j < u.length → ∀ x y, v.l[j]? = some x → u[j]? = some y → x.k = y
 · rw [h.1 Z, (zD7 v u).2 ⟨U, hl, fun j W => Z j (by omega) W⟩]
 ·
  rw [h.2 Z]
  exact no _ (fun h j _ W => ((zD7 v u).1 h).2.2 j W) Z
theorem pure_list{a:V}(h:a.rpure=true)(hk:a.k=3):a=zRx a.l/\a.l.length<=4096:=by obtain⟨_,u,I,J⟩:=V.flat_kind (V.rpure_flat h) (by omega) (by omega);exact⟨V.eta a▸(by rw[hk,u,I];rfl:V.mk a.k a.n a.b a.l=zRx (V.mk a.k a.n a.b a.l).l),J⟩
theorem sz_items{v:V}(hk:v.k=3):v.sz=3+V.sz.szs v.l:=by(cases v with|mk a b c d=>have hk:a=3:=hk;subst hk;simp[V.sz,V.l])
theorem sz_item{v x:V}(hk:v.k=3)(hx:x∈v.l):x.sz<=v.sz:=by have:=V.sz_le_szs v.l x hx;rw[sz_items hk];omega
theorem sz_bytes{a:V}(hk:a.k=2):a.b.length<=a.sz:=by(cases a with|mk k n b l=>have hk:k=2:=hk;subst hk;simp[V.sz,V.b])
noncomputable section
theorem zPP(u:O)(W:Hp):zDo u W=
ptM u (none) λI=>
(W.ge_dk I).bind λJ=>
some (decide ((J.now_.2:Int)>0)):=by simp only[zDo,zJh,rn]<;>rfl
theorem zOg(I:O)(u:Int)(W:Hp):zAz I u W=
(zDo I W).bind λZ=>
bif (!Z)then(none)else
ptM I (none) λU=>
(W.ge_dk U).bind λJ=>
bif J.off_ then(none)else
bif (decide (u<0))then(none)else
bif (decide (u>=(J.now_.2:Int)))then(none)else
some 0:=by simp only[zAz,zHw,rn]<;>rfl
theorem zNQ(u:O)(W:Hp):yY u W=
ptM u (none) λI=>
(W.ge_dk I).bind λJ=>
bif (decide (J.fuse_<0))then(some (false,W))else
none:=by simp only[yY,zG6,rn]<;>rfl
theorem zMR(p0:O)(U:Int)(p2:Y)(W:Hp):zAF p0 U p2 W=
(zAz p0 U W).bind λx1=>
bif (x1 !=0)then(none)else
bif ((p2.length:Int) !=64)then(none)else
(s2aI 64 p2).bind λx5=>
ptM p0 (none) λi8=>
(W.ge_dk i8).bind λJ=>
(appI 72 J.wait_ [(qW.mk U x5)]).bind λβ=>
let u:qF:=(qF.mk J.kept_ J.now_ β J.fuse_ J.off_ J.lives_);let α:=(W.st_dk i8 u);(α.ge_sec u.now_.1).bind λI=>
(lenI I.length u.now_.2).bind λζ=>
(idx I U).bind λε=>
let δ:(List Y):=(I.set (Int.toNat U) x5);let γ:=(α.st_sec u.now_.1 δ);(yY p0 γ).bind λZ=>
bif Z.1 then(none)else
some (0,Z.2):=by simp only[zAF,zGC,rn]<;>rfl
def zEJ(W:O)(U:Hp):Option (Int×Hp):=
ptM W (none) λZ=>
(U.ge_dk Z).bind λu=>
let J:qF:=(qF.mk u.kept_ u.now_ [] u.fuse_ u.off_ u.lives_);let I:=(U.st_dk Z J);some (0,I)
theorem zJC(I:O)(u:Hp):(zCh I u).run Env.nil=zEJ I u:=by simp only[zCh,rn]<;>rfl
def yB(k1:Hp->Option (Int×Hp))(Z:qF)(p0:O)(α:Nat):Nat->Int->Hp->Option (Int×Hp)
 |0,_,_=>none
 |n0+1,U,u=>
  bif (decide (U<(Z.wait_.length:Int)))then((idx Z.wait_ U).bind λI=>
  (u.ge_dk α).bind λW=>
  (u.ge_sec W.kept_.1).bind λJ=>
  (lenI J.length W.kept_.2).bind λε=>
  (idx J I.n_).bind λδ=>
  let γ:(List Y):=(J.set (Int.toNat I.n_) I.b_);let β:=(u.st_sec W.kept_.1 γ);yB k1 Z p0 α n0 (wi (U+1)) β)else
  k1 u
theorem zJF(k1:Hp->Option (Int×Hp))(I:qF)(J:O)(u:Nat)(U:J=some u):∀n q,lpn (λk (q:Int×Hp)=>(zCe I J u U q.1 q.2).run ((Env.nil.cons k1).cons k)) n q=yB k1 I J u n q.1 q.2:=zBG (g:=λn (q:Int×Hp)=>yB k1 I J u n q.1 q.2) (λ_=>rfl) λn q=>by simp only[zCe,rn]<;>rfl
theorem zMB(u:O)(W:Hp):zAh u W=
(zAz u 0 W).bind λZ=>
bif (Z !=0)then(none)else
(yY u W).bind λU=>
bif U.1 then(none)else
ptM u (none) λJ=>
(U.2.ge_dk J).bind λI=>
yB (zEJ u) I u J (I.wait_.length+1) 0 U.2:=by simp only[zAh,zFw,rn,zJC,zJF]<;>rfl
def zDC(J:O)(p1:Int)(W:Hp):Option (Int×Hp):=
(zAh J W).bind λZ=>
bif (Z.1 !=0)then(none)else
(zII 1 p1 Z.2).bind λU=>
(zAF J 0 U Z.2).bind λI=>
bif (I.1 !=0)then(none)else
(zAh J I.2).bind λu=>
some (u.1,u.2)
theorem zOo(J:O)(I:Int)(u:Hp):(zEn J I u).run Env.nil=zDC J I u:=by simp only[zEn,rn]<;>rfl
def zAo(k1:Hp->Option (Int×Hp))(Z:Int)(W:O):Nat->Int->Hp->Option (Int×Hp)
 |0,_,_=>none
 |n0+1,u,J=>
  bif (decide (u<(wi (2+Z))))then((mkI 1 64).bind λU=>
  (zAF W u (List.replicate U (0:UInt8)) J).bind λI=>
  bif (I.1 !=0)then(none)else
  zAo k1 Z W n0 (wi (u+1)) I.2)else
  k1 J
theorem zN7(k1:Hp->Option (Int×Hp))(u:Int)(I:O):∀n q,lpn (λk (q:Int×Hp)=>(zE1 u I q.1 q.2).run ((Env.nil.cons k1).cons k)) n q=zAo k1 u I n q.1 q.2:=zBG (g:=λn (q:Int×Hp)=>zAo k1 u I n q.1 q.2) (λ_=>rfl) λn q=>by simp only[zE1,rn]<;>rfl
theorem zSl(I:O)(u:Int)(W:Hp):zCT I u W=
(zAP I W).bind λJ=>
bif (J==0)then(none)else
(zMS I u W).bind λU=>
bif (!U)then(none)else
zAo (zDC I u) u I (Int.toNat (wi (2+u))+1) 1 W:=by simp only[zCT,zMb,rn,zOo,zN7]<;>rfl
def zDj(W:Hp)(I:(O×Int×Hp))(p1:Int)(Z:Hp):Option (Int×Hp):=
(Z.ge_st W.ln_st).bind λη=>
(zOc η.geometry_.homes_ Z).bind λu=>
(u.2.2.ge_st W.ln_st).bind λδ=>
(zA1 δ.geometry_).bind λβ=>
(zFF u.1 β u.2.2).bind λα=>
(α.2.2.ge_st W.ln_st).bind λζ=>
(zC2 ζ.geometry_ I.1 (zT.mk 0 p1 0 0) α.2.2).bind λU=>
(U.ge_st W.ln_st).bind λε=>
(zCn ε.geometry_ I.1 u.1 U).bind λγ=>
(zG1 I.1 γ).bind λJ=>
some (J.1,J.2)
theorem zLm(W:Hp)(u:(O×Int×Hp))(J:Int)(I:Hp):(zDZ W u J I).run Env.nil=zDj W u J I:=by simp only[zDZ,rn]<;>rfl
def zBQ(k1:Hp->Option (Int×Hp))(U:Int)(J:(O×Int×Hp)):Nat->Int->Hp->Option (Int×Hp)
 |0,_,_=>none
 |n0+1,u,I=>
  bif (decide (u<U))then((mkI 1 64).bind λW=>
  (zIk J.1 u (List.replicate W (0:UInt8)) I).bind λZ=>
  zBQ k1 U J n0 (wi (u+1)) Z.2)else
  k1 I
theorem zLt(k1:Hp->Option (Int×Hp))(I:Int)(u:(O×Int×Hp)):∀n q,lpn (λk (q:Int×Hp)=>(zDX I u q.1 q.2).run ((Env.nil.cons k1).cons k)) n q=zBQ k1 I u n q.1 q.2:=zBG (g:=λn (q:Int×Hp)=>zBQ k1 I u n q.1 q.2) (λ_=>rfl) λn q=>by simp only[zDX,rn]<;>rfl
theorem zPs(J:O)(p1:Int)(W:Hp):zBo J p1 W=
(zAP J W).bind λx1=>
bif (x1==0)then(none)else
(zAP J W).bind λx4=>
(zIR x4).bind λx6=>
bif (decide (x6<1))then(none)else
bif (decide (p1<0))then(none)else
bif (decide (p1>2305843009213693952))then(none)else
(zAP J W).bind λβ=>
(zMD β).bind λε=>
let U:qJ:=(qJ.mk ε none);let γ:=(W.nw_st U);(zCT J U.geometry_.size_ γ).bind λZ=>
bif (Z.1 !=0)then(none)else
(zF9 J Z.2).bind λu=>
bif (u.2.1 !=0)then(none)else
(u.2.2.ge_st W.ln_st).bind λδ=>
let ζ:qJ:=(qJ.mk δ.geometry_ u.1);let η:=(u.2.2.st_st W.ln_st ζ);(zEe u.1 η).bind λI=>
bif (I.2.1 !=0)then(none)else
(I.2.2.ge_st W.ln_st).bind λθ=>
(zA1 θ.geometry_).bind λα=>
zBQ (zDj W I p1) α I (Int.toNat α+1) 0 I.2.2:=by simp only[zBo,zJo,rn,zLm,zLt]<;>rfl
theorem zSp(p0:Int)(Z:Int)(W:Hp):zDr p0 Z W=
(zMI p0 W).bind λu=>
bif (u.2.1 !=0)then(none)else
(zBo u.1 Z u.2.2).bind λx4=>
bif (x4.1 !=0)then(none)else
(zIc u.1 x4.2).bind λI=>
bif (I.2.1 !=0)then(none)else
let J:yO:=(yO.mk u.1 I.1);let U:=(I.2.2.nw_sv J);some ((some I.2.2.ln_sv),0,U):=by simp only[zDr,zIj,rn]<;>rfl
theorem zUJ(W:Hp):zEm W=
(zDr 1100 1000 W).bind λU=>
(zAA U.1 [3,0,0] U.2.2).bind λx3=>
(qV x3.1).bind λx5=>
bif (U.2.1 !=0)then(none)else
bif (x5.2 !=0)then(none)else
bif (x5.1.Err !=13)then(none)else
(zKS (zS.mk 4 [97] 1 [] [] [(zI.mk 2 [107] 0 [1])])).bind λZ=>
(zAA U.1 Z x3.2).bind λI=>
(qV I.1).bind λJ=>
bif (J.2 !=0)then(none)else
bif (J.1.Err !=0)then(none)else
(zCL U.1 I.2).bind λα=>
(zDd α [107] I.2).bind λu=>
bif (u.2.1==0)then(some ((u.1.Version==1),u.2.2))else
none:=by simp only[zEm,zPE,rn]<;>rfl
end
abbrev Z64:List UInt8:=List.replicate 64 0
def W1(z:Nat):List qW:=(List.range z).map λi=>⟨((i+1:Nat):Int),Z64⟩
def A1(n z:Nat):List Y:=[]::(List.replicate z Z64++List.replicate (n-1-z) [])
def Hz(H:Hp)(n a b:Nat)(w:List qW):Hp:={H with dk:=[⟨(0,n),(1,n),w,-1,false,0⟩],sec:=[A1 n a,A1 n b]}
theorem zSw(z:Nat):(W1 z).length=z:=by simp[W1]
theorem W1_succ(z:Nat):W1 (z+1)=W1 z++[⟨((z+1:Nat):Int),Z64⟩]:=by simp[W1,List.range_succ]
theorem W1_get{s j:Nat}(h:j<s):(W1 s)[j]'(by rw[zSw];exact h)=⟨((j+1:Nat):Int),Z64⟩:=by simp[W1]
theorem zUu{n z:Nat}(h:z<n):(A1 n z).length=n:=by simp[A1];omega
theorem app_set{α:Type}(Z X:α)(z m:Nat):(List.replicate z Z++List.replicate (m+1) X).set z Z=List.replicate (z+1) Z++List.replicate m X:=by rw[List.set_append_right _ _ (by simp),List.replicate_succ' (n:=z),vE,wW,sQ];rfl
theorem A1_set{n z:Nat}(h:z+1<n):(A1 n z).set (z+1) Z64=A1 n (z+1):=by(have e:n-1-z=(n-1-(z+1))+1:=by omega);unfold A1;rw[e,List.set_cons_succ,app_set]
section
variable {H:Hp}{n a b:Nat}{w:List qW}
theorem z_may{k:Nat}(hk:k<n):zAz (some 0) (k:Int) (Hz H n a b w)=some 0:=by rw[zOg,zPP];show Option.bind (some (decide ((n:Int)>0))) _=_;rw[wA,zE (by simp;omega)];show(bif false then none else bif decide ((k:Int)<0)then none else bif decide ((k:Int)>=(n:Int))then none else some 0)=_;grind
theorem z_burn:yY (some 0) (Hz H n a b w)=some (false,Hz H n a b w):=by rw[zNQ];rfl
theorem z_write{z:Nat}(hz:z+1<n)(u:n<=16384):zAF (some 0) ((z+1:Nat):Int) Z64 (Hz H n a z (W1 z))=some (0,Hz H n a (z+1) (W1 (z+1))):=by rw[zMR,z_may hz,wA,zE (by rfl),zE (by rfl)];show Option.bind (appI 72 (W1 z) [⟨((z+1:Nat):Int),Z64⟩]) _=_;rw[zAT (by rw[zSw];simp;omega),wA,<-W1_succ];show Option.bind (lenI (A1 n z).length n) _=_;unfold lenI;rw[if_pos (zUu (by omega)),wA,zAQ (by rw[zUu (by omega)];exact hz),wA];show Option.bind (yY (some 0) {Hz H n a z (W1 (z+1))with sec:=[A1 n a,(A1 n z).set (Int.toNat ((z+1:Nat):Int)) Z64]}) _=_;rw[uE,A1_set hz];show Option.bind (yY (some 0) (Hz H n a (z+1) (W1 (z+1)))) _=_;rw[z_burn];rfl
theorem zQP{s:Nat}(I:s<n)(J:n<=16384)(k1:Hp->Option (Int×Hp))(x:qF)(hx:x.wait_=W1 s):∀m j:Nat,j<=s->s-j<m->yB k1 x (some 0) 0 m (j:Int) (Hz H n j s (W1 s))=k1 (Hz H n s s (W1 s))
 |0,j,_,h=>by omega
 |m+1,j,U,h=>by unfold yB;rw[hx,zSw];by_cases u:j<s;(rw[zG (yJ (by omega)),zAQ (by rw[zSw];exact u),wA,W1_get u];show Option.bind (lenI (A1 n j).length n) _=_;unfold lenI;rw[if_pos (zUu (by omega)),wA,zAQ (by rw[zUu (by omega)];omega),wA];show yB k1 x (some 0) 0 m (wi ((j:Int)+1)) {Hz H n j s (W1 s)with sec:=[(A1 n j).set (Int.toNat ((j+1:Nat):Int)) Z64,A1 n s]}=_;rw[uE,A1_set (by omega),zAS (by omega)];exact zQP I J k1 x hx m (j+1) (by omega) (by omega));grind
theorem z_flush{s:Nat}(u:s<n)(I:n<=16384):zAh (some 0) (Hz H n 0 s (W1 s))=some (0,Hz H n s s []):=by rw[zMB,show zAz (some 0) 0 (Hz H n 0 s (W1 s))=some 0 from z_may (k:=0) (by omega),wA,zE (by rfl),z_burn,wA,zE (by rfl)];show yB _ ⟨(0,n),(1,n),W1 s,-1,false,0⟩ (some 0) 0 _ ((0:Nat):Int) _=_;rw[zQP u I _ _ rfl _ 0 (by omega) (by rw[zSw];omega)];rfl
theorem zOO{s:Nat}(I:1+s<n)(u:n<=16384)(k1:Hp->Option (Int×Hp)):∀m z:Nat,z<=1+s->1+s-z<m->zAo k1 (s:Int) (some 0) m ((z+1:Nat):Int) (Hz H n 0 z (W1 z))=k1 (Hz H n 0 (1+s) (W1 (1+s)))
 |0,z,_,h=>by omega
 |m+1,z,hz,h=>by unfold zAo;rw[zDg (z:=2+(s:Int)) (by omega) (by omega)];by_cases J:z<1+s;(rw[zG (yJ (by omega))];show Option.bind (zAF (some 0) ((z+1:Nat):Int) Z64 (Hz H n 0 z (W1 z))) _=_;rw[z_write (by omega) u,wA,zE (by rfl),zAS (by omega)];exact zOO I u k1 m (z+1) (by omega) (by omega));grind
end
set_option maxRecDepth 100000
def sts{α:Type}(l:List α)(s:List (Nat×α)):List α:=s.foldl (λl x=>l.set x.1 x.2) l
def zs(s:List (Nat×UInt8)):List UInt8:=sts Z64 s
def K1:Hp:=⟨[⟨(0,1100),(1,1100),[],(-1),false,0⟩],[],[],[],[],[],[],[],[(List.replicate 1100 []),(List.replicate 1100 [])],[],[]⟩
def K2:Hp:={K1 with st:=[⟨⟨1033,65,1⟩,none⟩]}
def P1:List Y:=sts (A1 1100 1034) [(0,(zs [(7,1),(10,4),(11,9),(63,1)]))]
def K3:Hp:={K2 with sec:=[P1,P1]}
def P2:List Y:=sts P1 [(1,(zs [(6,4),(7,10),(10,4),(11,9),(62,4),(63,10)]))]
def K4:Hp:={K3 with lg:=[⟨(some 0),1033,1034,1,0,0,0⟩],sec:=[P2,P2]}
def P3:List Y:=sts P2 [(2,(zs [(0,1),(19,3),(20,232),(52,78),(53,127),(54,25),(55,243),(62,4),(63,10)])),(3,(zs [(0,2),(52,185),(53,122),(54,142),(55,219),(62,4),(63,11)])),(4,(zs [(0,1),(4,1),(5,63),(52,77),(53,16),(54,86),(55,139),(62,4),(63,12)])),(5,(zs [(0,2),(4,1),(52,77),(53,140),(54,56),(55,57),(62,4),(63,13)])),(6,(zs [(0,1),(4,2),(52,118),(53,63),(54,200),(55,42),(62,4),(63,14)])),(7,(zs [(0,2),(4,2),(52,133),(53,61),(54,109),(55,108),(62,4),(63,15)])),(8,(zs [(0,1),(4,3),(52,145),(53,165),(54,230),(55,158),(62,4),(63,16)])),(9,(zs [(0,2),(4,3),(52,98),(53,167),(54,67),(55,216),(62,4),(63,17)])),(10,(zs [(0,1),(4,4),(52,47),(53,64),(54,252),(55,151),(62,4),(63,18)])),(11,(zs [(0,2),(4,4),(52,220),(53,66),(54,89),(55,209),(62,4),(63,19)])),(12,(zs [(0,1),(4,5),(52,219),(53,182),(54,74),(55,117),(62,4),(63,20)])),(13,(zs [(0,2),(4,5),(52,40),(53,180),(54,239),(55,51),(62,4),(63,21)])),(14,(zs [(0,3),(4,6),(52,93),(53,209),(54,4),(55,127),(62,4),(63,22)]))]
def P4:List Y:=sts P3 [(1035,(zs [(14,3),(15,232)])),(1036,(zs [(0,63)])),(1037,Z64),(1038,Z64),(1039,Z64),(1040,Z64)]
def K5:Hp:=⟨[(qF.mk (0,1100) (1,1100) [(qW.mk 1035 (zs [(14,3),(15,232)])),(qW.mk 1036 (zs [(0,63)])),⟨1037,Z64⟩,⟨1038,Z64⟩,⟨1039,Z64⟩,⟨1040,Z64⟩] (-1) false 0)],[⟨(some 0),1033,1034,1,13,0,1⟩],[⟨(some 0),0,true,0⟩],[],[⟨65,59,(0,2),true⟩],[⟨⟨1033,65,1⟩,(some 0)⟩],[],[],[P3,P4],[[63,0]],[[(0,(zs [(14,3),(15,232)])),(1,(zs [(0,63)])),(2,Z64),(3,Z64),(4,Z64),(5,Z64)]]⟩
def P5:List Y:=sts P4 [(0,(zs [(6,8),(7,19),(10,4),(11,9),(62,8),(63,19)]))]
def K6:Hp:=⟨[⟨(0,1100),(1,1100),[],(-1),false,0⟩],[⟨(some 0),1033,1034,1,13,0,1⟩,⟨(some 0),1033,2067,0,0,0,0⟩],[⟨(some 0),0,true,0⟩,⟨(some 1),0,false,1⟩],[⟨(some 1),2⟩],[⟨65,59,(0,2),true⟩,⟨65,59,(1,2),true⟩],[⟨⟨1033,65,1⟩,(some 0)⟩,⟨⟨1033,65,1⟩,(some 1)⟩],[⟨(some 1),(some 1),(some 0),⟨0,1000,0,0⟩,(some 1)⟩],[],[P5,P5],[[63,0],[63,0]],[[(0,(zs [(14,3),(15,232)])),(1,(zs [(0,63)])),(2,Z64),(3,Z64),(4,Z64),(5,Z64)],[]]⟩
def K7:Hp:={K6 with sv:=[⟨(some 0),(some 1)⟩]}
def P6:List Y:=sts P5 [(2,(zs [(0,1),(12,1),(19,3),(20,232),(28,121),(36,2),(52,34),(53,107),(54,231),(55,141),(62,8),(63,19)])),(3,(zs [(0,2),(52,152),(53,199),(54,204),(55,34),(62,8),(63,20)])),(4,(zs [(0,1),(4,1),(5,255),(6,7),(52,108),(53,181),(54,208),(55,211),(62,8),(63,21)])),(5,(zs [(0,2),(4,1),(52,107),(53,92),(54,190),(55,217),(62,8),(63,22)])),(6,(zs [(0,1),(4,2),(32,10),(52,176),(53,37),(54,61),(55,52),(62,8),(63,23)])),(7,(zs [(0,2),(4,2),(52,170),(53,91),(54,167),(55,167),(62,8),(63,24)])),(8,(zs [(0,1),(4,4),(52,20),(53,39),(54,106),(55,19),(62,8),(63,25)])),(9,(zs [(0,2),(4,4),(20,7),(52,243),(53,22),(54,93),(55,46),(62,8),(63,26)])),(10,(zs [(0,1),(4,6),(9,1),(52,11),(53,61),(54,223),(55,2),(62,8),(63,27)])),(11,(zs [(0,2),(4,6),(52,219),(53,98),(54,44),(55,226),(62,8),(63,28)])),(12,(zs [(0,1),(4,7),(16,1),(20,1),(24,6),(25,1),(26,107),(52,249),(53,150),(54,249),(55,3),(62,8),(63,29)])),(13,(zs [(0,2),(4,7),(52,40),(53,249),(54,94),(55,25),(62,8),(63,30)])),(14,(zs [(0,1),(4,8),(8,9),(10,6),(11,3),(13,1),(14,1),(15,1),(16,1),(52,141),(53,34),(54,161),(55,45),(62,8),(63,31)])),(15,(zs [(0,2),(4,8),(52,85),(53,219),(54,166),(55,47),(62,8),(63,32)])),(16,(zs [(0,1),(4,9),(52,187),(53,76),(54,16),(55,190),(62,8),(63,33)])),(17,(zs [(0,2),(4,9),(52,166),(53,64),(54,212),(55,212),(62,8),(63,34)])),(18,(zs [(0,1),(4,10),(16,1),(20,120),(24,8),(25,3),(26,116),(27,47),(28,97),(52,43),(53,42),(54,107),(55,48),(62,8),(63,35)])),(19,(zs [(0,2),(4,10),(52,105),(53,156),(54,69),(55,152),(62,8),(63,36)])),(20,(zs [(0,3),(4,9),(52,242),(53,247),(54,207),(55,248),(62,8),(63,37)]))]
def P7:List Y:=sts P6 [(1035,(zs [(7,1),(14,3),(15,232),(23,121),(31,2)])),(1036,(zs [(0,255),(1,7)])),(1037,(zs [(27,10)])),(1039,(zs [(47,7)])),(1041,(zs [(4,1)])),(1042,(zs [(11,1),(15,1),(19,6),(20,1),(21,107)])),(1043,(zs [(3,9),(5,6),(6,3),(8,1),(9,1),(10,1),(11,1)])),(1044,Z64),(1045,(zs [(11,1),(15,120),(19,8),(20,3),(21,116),(22,47),(23,97)]))]
def K8:Hp:={K7 with dk:=[(qF.mk (0,1100) (1,1100) [(qW.mk 1035 (zs [(7,1),(14,3),(15,232),(23,121),(31,2)])),(qW.mk 1036 (zs [(0,255),(1,7)])),(qW.mk 1037 (zs [(27,10)])),(qW.mk 1039 (zs [(47,7)])),(qW.mk 1041 (zs [(4,1)])),(qW.mk 1042 (zs [(11,1),(15,1),(19,6),(20,1),(21,107)])),(qW.mk 1043 (zs [(3,9),(5,6),(6,3),(8,1),(9,1),(10,1),(11,1)])),⟨1044,Z64⟩,(qW.mk 1045 (zs [(11,1),(15,120),(19,8),(20,3),(21,116),(22,47),(23,97)]))] (-1) false 0)],lg:=[⟨(some 0),1033,1034,1,13,0,1⟩,⟨(some 0),1033,2067,0,19,0,1⟩],tx:=[⟨(some 0),0,true,0⟩,⟨(some 1),0,false,1⟩,⟨(some 1),0,false,2⟩,⟨(some 1),0,true,3⟩],ix:=[⟨(some 1),2⟩,⟨(some 2),2⟩,⟨(some 3),2⟩],sp:=[⟨65,59,(0,2),true⟩,⟨65,59,(1,2),true⟩,⟨65,59,(2,2),true⟩,⟨65,54,(3,2),true⟩],vw:=[⟨(some 1),(some 1),(some 0),⟨0,1000,0,0⟩,(some 1)⟩,⟨(some 1),(some 2),(some 1),⟨0,1000,0,0⟩,(some 2)⟩,⟨(some 1),(some 3),(some 2),⟨1,1000,121,2⟩,(some 3)⟩],sec:=[P6,P7],w64:=[[63,0],[63,0],[63,0],[2047,0]],mp:=[[(0,(zs [(14,3),(15,232)])),(1,(zs [(0,63)])),(2,Z64),(3,Z64),(4,Z64),(5,Z64)],[],[],[(6,(zs [(4,1)])),(7,(zs [(11,1),(15,1),(19,6),(20,1),(21,107)])),(4,(zs [(47,7)])),(8,(zs [(3,9),(5,6),(6,3),(8,1),(9,1),(10,1),(11,1)])),(9,Z64),(10,(zs [(11,1),(15,120),(19,8),(20,3),(21,116),(22,47),(23,97)])),(2,(zs [(27,10)])),(0,(zs [(7,1),(14,3),(15,232),(23,121),(31,2)])),(1,(zs [(0,255),(1,7)]))]]}
def K9:Hp:={K8 with tx:=[⟨(some 0),0,true,0⟩,⟨(some 1),0,false,1⟩,⟨(some 1),0,false,2⟩,⟨(some 1),0,true,3⟩,⟨(some 1),1,false,4⟩],ix:=[⟨(some 1),2⟩,⟨(some 2),2⟩,⟨(some 3),2⟩,⟨(some 4),2⟩],sp:=[⟨65,59,(0,2),true⟩,⟨65,59,(1,2),true⟩,⟨65,59,(2,2),true⟩,⟨65,54,(3,2),true⟩,⟨65,54,(4,2),true⟩],vw:=[⟨(some 1),(some 1),(some 0),⟨0,1000,0,0⟩,(some 1)⟩,⟨(some 1),(some 2),(some 1),⟨0,1000,0,0⟩,(some 2)⟩,⟨(some 1),(some 3),(some 2),⟨1,1000,121,2⟩,(some 3)⟩,⟨(some 1),(some 4),(some 3),⟨1,1000,121,2⟩,(some 4)⟩],w64:=[[63,0],[63,0],[63,0],[2047,0],[2047,0]],mp:=[[(0,(zs [(14,3),(15,232)])),(1,(zs [(0,63)])),(2,Z64),(3,Z64),(4,Z64),(5,Z64)],[],[],[(6,(zs [(4,1)])),(7,(zs [(11,1),(15,1),(19,6),(20,1),(21,107)])),(4,(zs [(47,7)])),(8,(zs [(3,9),(5,6),(6,3),(8,1),(9,1),(10,1),(11,1)])),(9,Z64),(10,(zs [(11,1),(15,120),(19,8),(20,3),(21,116),(22,47),(23,97)])),(2,(zs [(27,10)])),(0,(zs [(7,1),(14,3),(15,232),(23,121),(31,2)])),(1,(zs [(0,255),(1,7)]))],[]]}
theorem k_disk:zMI 1100 Hp.e=some (some 0,0,K1):=by kernel_rfl
theorem k_format:zCT (some 0) 1033 K2=some (0,K3):=by rw[zSl,show zAP (some 0) K2=some 1100 by kernel_rfl,wA,zE (by rfl),show zMS (some 0) 1033 K2=some true by kernel_rfl,wA,zE (by rfl)];show zAo _ ((1033:Nat):Int) (some 0) 1036 ((0+1:Nat):Int) K2=_;rw[show K2=Hz K2 1100 0 0 (W1 0) by kernel_rfl,zOO (by omega) (by omega) _ 1036 0 (by omega) (by omega)];show zDC (some 0) 1033 (Hz K2 1100 0 1034 (W1 1034))=_;unfold zDC;rw[z_flush (by omega) (by omega),wA,zE (by rfl)];kernel_rfl
theorem k_open:zF9 (some 0) K3=some ((some 0),(0,K4)):=by kernel_rfl
theorem k_rest{W H2 U Z:Hp}{J n m:Int}{g:qB}{R:Option (Int×Hp)}(h1:zAP (some 0) W=some n)(h2:(n==0)=false)(h3:zIR n=some m)(h4:decide (m<1)=false)(h5:decide (J<0)=false)(h6:decide (J>2305843009213693952)=false)(h7:zMD n=some g)(h8:W.nw_st ⟨g,none⟩=H2)(h9:zCT (some 0) g.size_ H2=some (0,U))(α:zF9 (some 0) U=some (some 0,0,Z))
(h:((Z.ge_st W.ln_st).bind λε=>
  let δ:qJ:=⟨ε.geometry_,some 0⟩;let β:=Z.st_st W.ln_st δ;(zEe (some 0) β).bind λu=>
  bif (u.2.1 !=0)then none else
  (u.2.2.ge_st W.ln_st).bind λγ=>
  (zA1 γ.geometry_).bind λI=>
  zBQ (zDj W u J) I u (Int.toNat I+1) 0 u.2.2)=R):zBo (some 0) J W=R:=by
 subst h8
 rw[zPs,h1,wA,h2,cond_false,wA,h3,wA,h4,cond_false,h5,cond_false,h6,cond_false,wA,h7,wA]
 show Option.bind (zCT (some 0) g.size_ _) _=_
 rw[h9,wA]
 show Option.bind (zF9 (some 0) U) _=_
 rw[α,wA]
 exact h
theorem k_store:zBo (some 0) 1000 K1=some (0,K5):=k_rest (n:=1100) (m:=59) (g:=⟨1033,65,1⟩) (H2:=K2) (by kernel_rfl) rfl (by kernel_rfl) rfl rfl rfl (by kernel_rfl) (by kernel_rfl) k_format k_open (by kernel_rfl)
theorem k_sopen:zIc (some 0) K5=some ((some 1),(0,K6)):=by kernel_rfl
theorem k_new:zDr 1100 1000 Hp.e=some ((some 0),(0,K7)):=by rw[zSp,k_disk,wA,zE (by rfl),k_store,wA,zE (by rfl),k_sopen,wA,zE (by rfl)];kernel_rfl
theorem k_one:zAA (some 0) [3,0,0] K7=some ([3,0,4,1,1,13,1,0,2,0,0,0,3,0,0],K7):=by kernel_rfl
theorem k_two:zAA (some 0) [3,0,6,1,1,4,2,0,0,1,97,1,1,1,2,0,0,0,3,0,0,3,0,1,3,0,4,1,1,2,2,0,0,1,107,1,0,2,0,0,1,1] K7=some ((sts (List.replicate 14 0) [(0,3),(2,4),(3,1),(5,1),(7,2),(11,3)]),K8):=by kernel_rfl
theorem k_get:zDd (some 1) [107] K8=some (⟨1,[1]⟩,(0,K9)):=by kernel_rfl
theorem k_awake:zEm Hp.e=some (true,K9):=by rw[zUJ,k_new,wA,k_one,wA,show qV [3,0,4,1,1,13,1,0,2,0,0,0,3,0,0]=some (⟨13,0,[],[]⟩,0) by kernel_rfl,wA,zE (by rfl),zE (by rfl),zE (by rfl),show zKS ⟨4,[97],1,[],[],[⟨2,[107],0,[1]⟩]⟩=some [3,0,6,1,1,4,2,0,0,1,97,1,1,1,2,0,0,0,3,0,0,3,0,1,3,0,4,1,1,2,2,0,0,1,107,1,0,2,0,0,1,1] by kernel_rfl,wA,k_two,wA,show qV (sts (List.replicate 14 0) [(0,3),(2,4),(3,1),(5,1),(7,2),(11,3)])=some (⟨0,0,[],[]⟩,0) by kernel_rfl,wA,zE (by rfl),zE (by rfl),show zCL (some 0) K8=some (some 1) by kernel_rfl,wA,k_get,wA,zG (by rfl)];rfl
def repV(r:zD):V:=zRx [numV r.Err,numV r.Version,zHC r.Data,zRx (r.Keys.map zHC)]
def zM1(r:zD):Prop:=0<=r.Err/\r.Err<=255/\0<=r.Version/\r.Version<=2305843009213693952
def zOj(r:zD):Prop:=r.Data.length<=2000/\r.Keys.length<=50/\∀k∈r.Keys,k.length<=100
theorem zOr{r:zD}(h:zM1 r)(hf:zOj r):(repV r).rpure=true/\(repV r).deep<=16/\(repV r).sz<=1048576:=by obtain⟨u,h2,I,h4⟩:=h;obtain⟨W,J,U⟩:=hf;(have w:∀x∈r.Keys.map zHC,x.rpure=true/\x.deep<=0/\x.sz<=104:=λx hx=>by obtain⟨k,hk,rfl⟩:=vW.1 hx;have:=U k hk;exact⟨zQi k,by rw[zS0];omega,by rw[sz_word];omega⟩);have s:=szs_le (r.Keys.map zHC) 104 λx hx=>(w x hx).2.2;rw[wM]at s;have s2:V.sz.szs (r.Keys.map zHC)<=50*104:=vR s (vN _ J);have z1:=sz_num (n:=r.Err) u (by omega);have Z:=sz_num (n:=r.Version) I (by omega);refine⟨zOL (by simp) λx hx=> ?_,?_,?_⟩;(simp only[vI,uN,or_false]at hx;rcases hx with rfl|rfl|rfl|rfl;exact zQZ u (by omega);exact zQZ I (by omega);exact zQi _;exact zOL (by rw[wM];omega) λx hx=>(w x hx).1);(refine vR (zSm (d:=1) λx hx=> ?_) (by omega);simp only[vI,uN,or_false]at hx;rcases hx with rfl|rfl|rfl|rfl;rw[zVE];omega;rw[zVE];omega;rw[zS0];omega;exact zSm (d:=0) λx hx=>(w x hx).2.1);(unfold repV;rw[sz_list];simp only[V.sz.szs];rw[sz_word,sz_list];omega)
theorem zNj{r:zD}(h:zM1 r)(hf:zOj r):V.right (repV r)=true/\(repV r).enc.length<=1048576:=by obtain⟨I,J,u⟩:=zOr h hf;refine⟨?_,by rw[V.enc_length];exact u⟩;unfold V.right;rw[I,decide_eq_true J,decide_eq_true u];rfl
theorem n_word{k:List UInt8}(h:k.length<=100):zC6 k=some (zHC k):=by rw[zRk,strB_ok h,wA,zOx];rfl
theorem zSZ {r : zD} (hf : zOj r) [Decidable (zM1 r)] : zAr r = some (if zM1 r then ((repV r).enc, 0) else ([], 2)) := by
 rw [zJ5]
 by_cases U : r.Err < 0
 · rw [zG (yJ U), if_neg (fun h => by have := h.1; omega)]
 rw [zE (yC U)]
 by_cases I : r.Err > 255
 · rw [zG (yJ I), if_neg (fun h => by have := h.2.1; omega)]
 rw [zE (yC I)]
 by_cases Z : r.Version < 0
 · rw [zG (yJ Z), if_neg (fun h => by have := h.2.2.1; omega)]
 rw [zE (yC Z)]
 by_cases J : r.Version > 2305843009213693952
 · rw [zG (yJ J), if_neg (fun h => by have := h.2.2.2; omega)]
 have u : zM1 r := ⟨by omega, by omega, by omega, by omega⟩
 rw [zE (yC J), if_pos u]
 show Option.bind (some (V.mk 3 0 [] [])) _ = _
 rw [wA]
 have h := (zVH (l := r.Keys) (yE (yZ r (V.mk 3 0 [] [])) r) (fun _ => True) zHC (yZ r (V.mk 3 0 [] [])) none (fun n out i W ho => ⟨fun _ => by
  have hk := hf.2.1
  rw [yE, zG (yJ (by omega)), zAQ W, wA, n_word (hf.2.2 _ (uC W)), wA]
  show Option.bind (appI 64 out [zHC r.Keys[i]]) _ = _
  rw [zAT (by simp; omega), wA, zAS (by omega)], fun h => absurd trivial h⟩) (fun n out => by
  rw [yE, zE (yC (by omega))]) (r.Keys.length + 1) 0 [] (by omega) (by omega) (by simp)).1 fun _ _ => trivial
 rw [show ((0 : Nat) : Int) = 0 from rfl] at h
 rw [h]
 unfold yZ
 rw [zOu, wA, zOu, wA, zOx, wA, zVq, wA]
 show Option.bind (zBp (repV r)) _ = _
 rw [n_Encode, if_pos (zNj u hf).1]
 rfl
theorem zQp{r:zD}(hf:zOj r)(k1:List V->Option (List UInt8×Int)):∀(m i n:Nat) (out:List V),i<=r.Keys.length->r.Keys.length-i<m->n<=100*i->out.length<=i->zBm k1 r m out (n:Int) (i:Int)=k1 (out++(r.Keys.drop i).map zHC)
 |0,i,n,out,_,h,_,_=>by omega
 |m+1,i,n,out,J,h,I,U=>by unfold zBm;have hk:=hf.2.1;by_cases u:i<r.Keys.length;(have hl:=hf.2.2 _ (uC u);rw[zG (yJ (by omega)),zAQ u,wA,zDg (z:=(n:Int)+_) (by omega) (by omega),zE (yC (by omega)),wA,strB_ok hl,wA,zSe,wA];show Option.bind (appI 64 out [zHC r.Keys[i]]) _=_;rw[zAT (by simp;omega),wA,zAS (by omega),show(n:Int)+(r.Keys[i].length:Int)=((n+r.Keys[i].length:Nat):Int) by omega,zQp hf k1 m (i+1) _ _ (by omega) (by omega) (by omega) (by simp;omega),show r.Keys.drop i=r.Keys[i]::r.Keys.drop (i+1)from vH u,vB,vE];rfl);(rw[zE (yC (by omega)),uM (by omega)];simp)
theorem n_Reply{r:zD}(hf:zOj r)[Decidable (zM1 r)]:zEo r=some (if zM1 r then((repV r).enc,0)else([],2)):=by rw[zTp];by_cases h1:r.Err<0;rw[zG (yJ h1),if_neg (λh=>by have:=h.1;omega)];rw[zE (yC h1)];by_cases Z:r.Err>255;rw[zG (yJ Z),if_neg (λh=>by have:=h.2.1;omega)];rw[zE (yC Z)];by_cases h3:r.Version<0;rw[zG (yJ h3),if_neg (λh=>by have:=h.2.2.1;omega)];rw[zE (yC h3)];by_cases W:r.Version>2305843009213693952;rw[zG (yJ W),if_neg (λh=>by have:=h.2.2.2;omega)];have u:zM1 r:=⟨by omega,by omega,by omega,by omega⟩;obtain⟨J,I,U⟩:=hf;rw[zE (yC W),if_pos u,zE (yC (by omega)),zE (yC (by omega))];have h:=zQp ⟨J,I,U⟩ (zDk r) (r.Keys.length+1) 0 0 [] (by omega) (by omega) (by omega) (by simp);rw[show((0:Nat):Int)=0 from rfl]at h;rw[h];unfold zDk;rw[zSh,wA,zSh,wA,zSe,wA,zU0,wA,zU0,wA];show Option.bind (zBF (V.ht (repV r)) (repV r)) _=_;obtain⟨r1,r2,r3⟩:=zOr u ⟨J,I,U⟩;rw[zO9 _ _ (wL _) r1 r3,wA,zE (yC (by have:=(zNj u ⟨J,I,U⟩).2;omega))]
def zD6:List V->Option (List Y)
 |[]=>some []
 |x::r=>if x.k=2 then(zD6 r).map (x.b::·)else none
theorem zTH(l:List Y):zD6 (l.map zHC)=some l:=by(induction l with|nil=>rfl|cons x r u=>show(if(2:Int)=2 then(zD6 (r.map zHC)).map (x::·)else none)=_;rw[if_pos rfl,u];rfl)
theorem zQI:∀(l:List V) {z:List Y},zD6 l=some z->z.length=l.length
 |[],z,h=>by injection h with h;subst h;rfl
 |x::r,z,h=>by unfold zD6 at h;split at h;(cases u:zD6 r with|none=>rw[u]at h;cases h|some y=>rw[u]at h;injection h with h;subst h;simp[zQI r u]);cases h
abbrev zQ2(e:Int):zD×Int:=(⟨0,0,[],[]⟩,e)
def zQ6(K:List Y->Option (zD×Int))(out:List Y)(l:List V):Option (zD×Int):=match zD6 l with
 |some z=>K (out++z)
 |none=>some (zQ2 11)
theorem zQf(K:List Y->Option (zD×Int))(out:List Y)(x:V)(l:List V):zQ6 K out (x::l)=if x.k=2 then zQ6 K (out++[x.b]) l else some (zQ2 11):=by unfold zQ6;rw[show zD6 (x::l)=if x.k=2 then(zD6 l).map (x.b::·)else none from rfl];by_cases hk:x.k=2;(rw[if_pos hk,if_pos hk];(cases zD6 l with|none=>rfl|some y=>simp));rw[if_neg hk,if_neg hk]
theorem zJf(K:List Y->Option (zD×Int))(x:V)(hx:x.l.length<=4096):∀(n i:Nat) (out:List Y),i<=x.l.length->x.l.length-i<n->out.length<=i->yI K x n out (i:Int)=zQ6 K out (x.l.drop i)
 |0,i,out,_,h,_=>by omega
 |n+1,i,out,I,h,J=>by unfold yI;by_cases u:i<x.l.length;(rw[zG (yJ (by omega)),zAQ u,wA,vH u,zQf];by_cases hk:x.l[i].k=2;(rw[zE (zF5 hk),if_pos hk,zAT (by simp;omega),wA,zAS (by omega)];exact zJf K x hx n (i+1) _ (by omega) (by omega) (by simp;omega));rw[zG (zIa hk),if_neg hk]);(rw[zE (yC (by omega)),uM (by omega)];simp[zQ6,zD6])
theorem zFH(K:List Y->Option (zD×Int))(y:V×Int)(x:V)(hy:y.1.l[3]? =some x)(hx:x.l.length<=4096):∀(n i:Nat) (out:List Y),i<=x.l.length->x.l.length-i<n->out.length<=i->yS K y n out (i:Int)=zQ6 K out (x.l.drop i)
 |0,i,out,_,h,_=>by omega
 |n+1,i,out,J,h,U=>by have I:idx y.1.l 3=some x:=hy;unfold yS;rw[I,wA];by_cases u:i<x.l.length;(rw[zG (yJ (by omega)),wA,zAQ u,wA,vH u,zQf];by_cases hk:x.l[i].k=2;(rw[zE (zF5 hk),if_pos hk,wA,zAQ u,wA,zAT (by simp;omega),wA,zAS (by omega)];exact zFH K y x hy hx n (i+1) _ (by omega) (by omega) (by simp;omega));rw[zG (zIa hk),if_neg hk]);(rw[zE (yC (by omega)),uM (by omega)];simp[zQ6,zD6])
theorem kinds4{x:V}{c d e f:Int}(h:zGD x [c,d,e,f]=true):∃a b p q,x.k=3/\x.l=[a,b,p,q]/\a.k=c/\b.k=d/\p.k=e/\q.k=f:=by unfold zGD at h;rw[wI,decide_eq_true_eq,beq_iff_eq]at h;obtain⟨I,h⟩:=h;rcases hl:x.l with _|⟨a,_|⟨b,_|⟨p,_|⟨q,_|⟨u,r⟩⟩⟩⟩⟩<;>rw[hl]at h<;>simp at h;exact⟨a,b,p,q,I,rfl,h⟩
def zTo(a c d x:V):zD×Int:=if a.n>255\/c.n>2305843009213693952 then zQ2 11 else match zD6 x.l with
 |some z=>(⟨a.n,c.n,d.b,z⟩,0)
 |none=>zQ2 11
def zHn(b:List UInt8):zD×Int:=match decS b with
 | .error e=>zQ2 e
 | .ok v=>if zGD v [1,1,2,3]=true then(match v.l with|[a,c,d,x]=>zTo a c d x|_=>zQ2 11)else zQ2 11
theorem zU4{v x:V}(h:v.rpure=true)(u:v.k=3)(hx:x∈v.l)(hk:x.k=3):x.l.length<=4096:=
 (pure_list (V.rpure_items h u x hx) hk).2
theorem zOH(b:List UInt8):qV b=some (zHn b)/\zCS b=some (zHn b):=by
 rw[zLT,zOi,n_Decode,zTP,wA,wA]
 unfold decA zHn
 cases hd:decS b with
  |error e=>
   have Z:e≠0:=by rcases decS_err hd with h|h|h|h<;>omega
   exact⟨by rw[zG (zIa Z)],by rw[zG (zIa Z)]⟩
  |ok v=>
   obtain⟨_,hp,α,hs⟩:=decS_ok hd
   simp only
   rw[zE (by rfl),zE (by rfl),n_Fields v _ (by simp),n_Kinds v _ (by simp),wA,wA]
   by_cases hk:zGD v [1,1,2,3]=true
   case neg=>
    rw[if_neg hk,if_neg hk]
    refine⟨by rw[zG (by rfl)],by rw[zG (by simpa using hk)]⟩
   rw[if_pos hk,if_pos hk,hk]
   obtain⟨a,c,d,x,h3,hl,ka,kc,kd,kx⟩:=kinds4 hk
   have J:=zU4 hp h3 (by rw[hl];simp) kx
   rw[hl]
   rw[zE (by rfl),zE (by rfl)]
   show(Option.bind (some a) _=some (zTo a c d x))/\(Option.bind (some a) _=some (zTo a c d x))
   unfold zTo
   rw[wA,wA]
   by_cases I:a.n>255
   · rw[zG (yJ I),zG (yJ I),if_pos (.inl I)];exact⟨rfl,rfl⟩
   rw[zE (yC I),zE (yC I)]
   show(Option.bind (some c) _=_)/\(Option.bind (some c) _=_)
   rw[wA,wA]
   by_cases u:c.n>2305843009213693952
   · rw[zG (yJ u),zG (yJ u),if_pos (.inr u)];exact⟨rfl,rfl⟩
   rw[zE (yC u),zE (yC u),if_neg (λh=>h.elim I u)]
   have U:=zJf (zBB a c d) x J (x.l.length+1) 0 [] (by omega) (by omega) (by simp)
   have W:=zFH (zB8 a c d) (v,0) x (by show v.l[3]? =_;rw[hl];rfl) J 5002 0 [] (by omega) (by omega) (by simp)
   rw[show((0:Nat):Int)=0 from rfl]at U W
   constructor
   · show yI (zBB a c d) x (x.l.length+1) [] 0=_;rw[U];unfold zQ6;rw[tZ];(cases zD6 x.l with|none=>rfl|some z=>rfl)
   · show yS (zB8 a c d) (v,0) 5002 [] 0=_;rw[W];unfold zQ6;rw[tZ];(cases zD6 x.l with|none=>rfl|some z=>rfl)
theorem read_rep{r:zD}(h:zM1 r)(hf:zOj r):zHn (repV r).enc=(r,0):=by unfold zHn;rw[decS_enc (zOr h hf)];simp only;rw[if_pos (show zGD (repV r) [1,1,2,3]=true from rfl)];(show(if r.Err>255\/r.Version>2305843009213693952 then zQ2 11 else match zD6 (r.Keys.map zHC)with|some z=>(⟨r.Err,r.Version,r.Data,z⟩,0)|none=>zQ2 11)=_);rw[if_neg (by obtain⟨_,_,_,_⟩:=h;omega),zTH]
theorem zU3 (r : zD) (u : r.Data.length < 4611686018427387904) (J : r.Keys.length < 4611686018427387904) : zAt r r = some true := by
 rw [zNy, zE (zF5 rfl), zE (zF5 rfl), zLv _ _ u, wA, beq_self_eq_true, zE (by rfl), zE (zF5 rfl)]
 have := (zIV (len := r.Keys.length) (yV r r) (fun _ => True) (some true) none (fun n i I => ⟨fun _ => by
  rw [yV, zG (yJ (by omega)), zAQ I, wA, wA, beq_self_eq_true, zE (by rfl), zAS (by omega)], fun h => absurd trivial h⟩) (fun n => by
  rw [yV, zE (yC (by omega))]) (r.Keys.length + 1) 0 (by omega) (by omega)).1 fun _ _ _ => trivial
 exact this
theorem zUN(b:List UInt8):(zHn b).1.Data.length<=1048576/\(zHn b).1.Keys.length<=4096:=by unfold zHn;(cases hd:decS b with|error e=>exact⟨wY _,wY _⟩|ok v=>obtain⟨_,hp,J,hs⟩:=decS_ok hd;simp only;by_cases hk:zGD v [1,1,2,3]=true;(case neg=>rw[if_neg hk];exact⟨wY _,wY _⟩);rw[if_pos hk];obtain⟨a,c,d,x,I,hl,ka,kc,kd,U⟩:=kinds4 hk;have u:=zU4 hp I (by rw[hl];simp) U;have Z:=sz_bytes kd;have W:=sz_item I (x:=d) (by rw[hl];simp);rw[hl];show(zTo a c d x).1.Data.length<=1048576/\(zTo a c d x).1.Keys.length<=4096;unfold zTo;split;exact⟨wY _,wY _⟩;(cases hz:zD6 x.l with|none=>exact⟨wY _,wY _⟩|some z=>exact⟨by show d.b.length<=_;omega,by show z.length<=_;rw[zQI _ hz];exact u⟩))
theorem zFR(b:List UInt8):zAC b (true,K9)=some (true,K9):=by obtain⟨u,I⟩:=zOH b;obtain⟨J,U⟩:=zUN b;unfold zAC;rw[u,wA,I,wA,zG (zBu rfl),zU3 _ (by omega) (by omega)];rfl
theorem zKd{r:zD}(hf:zOj r)(b:List UInt8):yM r (true,K9) b=some (true,K9):=by(have:Decidable (zM1 r):=by unfold zM1;infer_instance);unfold yM;rw[zSZ hf,wA,n_Reply hf,wA,zE (zF5 rfl)];by_cases h:zM1 r;(rw[if_pos h,zLv _ _ (by have:=(zNj h hf).2;show(repV r).enc.length<_;omega),wA,beq_self_eq_true,zE (by rfl),zG (zBu rfl)];rw[(zOH _).1,wA,read_rep h hf,zE (zF5 rfl),show zAt (r,(0:Int)).1 r=some true from zU3 r (by have:=hf.1;omega) (by have:=hf.2.1;omega),wA,zE (by rfl)];exact zFR b);(rw[if_neg h,zLv _ _ (by decide),wA,beq_self_eq_true,zE (by rfl),zE (by rfl)];exact zFR b)
theorem zNr (r : zD) (b : List UInt8) : ∃ w', zAq r b Hp.e = some (true, w') := by
 rw [zJw, k_awake, wA, zE (by rfl)]
 by_cases U : (r.Data.length : Int) > 2000
 · rw [zG (yJ U)]; exact ⟨_, rfl⟩
 rw [zE (yC U)]
 by_cases J : (r.Keys.length : Int) > 50
 · rw [zG (yJ J)]; exact ⟨_, rfl⟩
 rw [zE (yC J)]
 by_cases Z : (b.length : Int) > 5000
 · rw [zG (yJ Z)]; exact ⟨_, rfl⟩
 rw [zE (yC Z)]
 have h := zIV (len := r.Keys.length) (yG (fun _ => yM r (true, K9) b) r (true, K9)) (fun i => ∀ k, r.Keys[i]? = some k → k.length ≤ 100) (yM r (true, K9) b) (some (true, K9)) (fun n i u => by
  rw [yG, zG (yJ (by omega)), zAQ u, wA]
  by_cases hl : r.Keys[i].length ≤ 100
  ·
   rw [zE (yC (by omega)), zAS (by omega)]
   exact ⟨fun _ => rfl, fun h => absurd (fun k hk => by rw [wB u] at hk; injection hk with hk; rw [← hk]; exact hl) h⟩
  ·
   rw [zG (yJ (by omega))]
   exact ⟨fun h => absurd (h _ (wB u)) hl, fun _ => rfl⟩) (fun n => by
  rw [yG, zE (yC (by omega))]) (r.Keys.length + 1) 0 (by omega) (by omega)
 rw [show ((0 : Nat) : Int) = 0 from rfl] at h
 by_cases I : ∀ i, 0 ≤ i → i < r.Keys.length → ∀ k, r.Keys[i]? = some k → k.length ≤ 100
 ·
  refine ⟨_, (h.1 I).trans (zKd ⟨by omega, by omega, fun k hk => ?_⟩ b)⟩
  obtain ⟨i, u, e⟩ := List.getElem_of_mem hk
  exact I i (by omega) u k (by rw [wB u, e])
 · exact ⟨_, h.2 I⟩
theorem zJU(u:zD)(I:List UInt8)(r:Bool)(h:∃H,zAq u I Hp.e=some (r,H)):FC Tryz.prog 9 [.t (.agg [.lit (.int .i64 u.Err),.lit (.int .i64 u.Version),.seq 1 (zU u.Data),.seq 1 (List.map cStr u.Keys)]),.t (.d (.seq 1 (zU I)))] [] (.t (.d (.lit (.bool r)))):=by obtain⟨H,h⟩:=h;exact fc_of_h (zIr u I Hp.e _ h) hpA_e rfl (by show 2<=OB;decide)
end Go.Proofs.YtocolhfjpadaoaaGreatDoor
namespace Go.Proofs.YtocolhfjpadaoaaGreatDoor
open Go Go.RowKit Go.ChangeShapes Go.WideShapes Go.ChangeAt
set_option linter.unusedVariables false
set_option maxRecDepth 20000
def memW(w:World):Mem:=λb p=>w.cell? ⟨b,p,none⟩
theorem memW_sat(w:World):∀b p u,memW w b p=some u->w.cell? ⟨b,p,none⟩=some u:=λ_ _ _ h=>h
def OpT{H:Type}(enc:TypeId×Value->H)(w:World){α:Type}(t:TypeId)(c:α->List D)(ok:α->Prop):Prop:=
 ∀(base:Nat) (u:Nat->Bool) (J:Bool) (I:Nat) (U:List Value) (x:DataW H×List MemPlace),DataW.trod enc Tryz.prog w base u J I t U=some x->∃v:α,RepL (memW w) (c v) U/\ok v
def OpF{H:Type}(enc:TypeId×Value->H)(w:World){α:Type}(m:Nat)(t:TypeId)(c:α->List D)(ok:α->Prop):Prop:=
 ∀(base:Nat) (I:Nat->Bool) (J:Bool) (u:Nat) (U:List Value) (x:DataW H×List MemPlace),u<m->DataW.trod enc Tryz.prog w base I J u t U=some x->∃v:α,RepL (memW w) (c v) U/\ok v
theorem OpT.lt{H:Type}{enc:TypeId×Value->H}{w:World}{α:Type}{t:TypeId}{c:α->List D}{ok:α->Prop}(h:OpT enc w t c ok)(m:Nat):OpF enc w m t c ok:=λb s l f u x _ k=>h b s l f u x k
def okInt(k:IntKind)(n:Int):Prop:=(Lit.int k n).wf=true
def okAny{α:Type}(_:α):Prop:=True
def okLen{α:Type}(l:List α):Prop:=l.length<=9223372036854775807
def zTN{α:Type}(ok:α->Prop)(l:List α):Prop:=l.length<=9223372036854775807/\∀x∈l,ok x
theorem zI1{m:Mem}{d:D}{u:Value}(h:RepD m d u):RepL m [d] [u]:=by refine⟨rfl,λj e I=> ?_⟩;grind
theorem zLG{m:Mem}{l1 Z:List D}{cs:List Value}{o k:Nat}(J:RepL m l1 ((cs.drop o).take k))(U:RepL m Z (cs.drop (o+k))):RepL m (l1++Z) (cs.drop o):=by(have e:cs.drop o=(cs.drop o).take k++cs.drop (o+k):=by rw[<-sF,uX]);rw[e];refine⟨by rw[wP,wP,J.1,U.1],λj d I=> ?_⟩;rcases wR j l1.length with hl|hl;(rw[uO hl]at I;obtain⟨u,a,b⟩:=J.2 j d I;grind);(rw[uA hl]at I;obtain⟨u,a,b⟩:=U.2 _ d I;exact⟨u,by rw[uA (by rw[J.1];exact hl),J.1];exact a,b⟩)
theorem repl_nil{m:Mem}{cs:List Value}{n:Nat}(h:cs.length=n):RepL m [] (cs.drop n):=by rw[uM (by omega)];exact⟨rfl,λj d u=>by simp at u⟩
section
variable {H:Type}{enc:TypeId×Value->H}{w:World}
theorem op_int{t:TypeId}{k:IntKind}(ht:Tryz.prog.underlying t=some (.int k)):OpT enc w t (cInt k) (okInt k):=λb s l f I x h=>by obtain⟨n,rfl,_,u⟩:=DataW.trod_int ht h;exact⟨n,zI1 (.lit _ rfl),u⟩
theorem op_u8{t:TypeId}(ht:Tryz.prog.underlying t=some (.int .u8)):OpT enc w t cU8 okAny:=λb s l f J x h=>by obtain⟨n,rfl,_,u⟩:=DataW.trod_int ht h;refine⟨UInt8.ofNat n.toNat,zI1 ?_,trivial⟩;(have I:0<=n/\n<=255:=by simp[Lit.wf,IntKind.min,IntKind.max,IntKind.signed,IntKind.bits]at u;omega);(have:((UInt8.ofNat n.toNat).toNat:Int)=n:=by simp;omega);rw[this];exact .lit _ rfl
theorem op_str{t:TypeId}(ht:Tryz.prog.underlying t=some .string):OpT enc w t cStr okLen:=λb s l f I x h=>by obtain⟨n,rfl,_,u⟩:=DataW.trod_string ht h;refine⟨n.data.toList,zI1 ?_,?_⟩;(obtain⟨⟨y⟩⟩:=n;exact .lit _ rfl);(unfold maxLen at u;show n.data.toList.length<=_;(have:n.data.toList.length=n.size:=by simp);omega)
theorem zTQ{α:Type}(P:Nat->α->Prop):∀n:Nat,(∀i,i<n->∃x,P i x)->∃l:List α,l.length=n/\∀i (h:i<l.length),P i l[i]
 |0,_=>⟨[],rfl,λi h=>absurd h (by simp)⟩
 |n+1,h=>by obtain⟨l,hl,hp⟩:=zTQ P n λi u=>h i (by omega);obtain⟨x,hx⟩:=h n (by omega);refine⟨l++[x],by simp[hl],λi u=> ?_⟩;grind
theorem op_sliceF{α:Type}{t te:TypeId}{k m:Nat}{c:α->List D}{ok:α->Prop}(ht:Tryz.prog.underlying t=some (.slice te))(hk:Tryz.prog.cellsOf te=k)(ν:0<k)(he:OpF enc w m te c ok):OpF enc w (m+1) t (cSl k c) (zTN ok):=λb s l f cs x hf h=>by
  rcases DataW.trod_slice ht h with⟨rfl,_⟩|⟨a,len,cap,U,ι,n,hn,rfl,_,μ,τ,Z,ξ,ζ,_⟩
  · exact⟨[],zI1 (RepD.nilSeq _ _),by simp,λx hx=>by cases hx⟩
  · have get:∀i,i<len->∃v:α,(∃I:List Value,I.length=k/\(∀j u,I[j]? =some u->w.cell? ((a.add (i*k)).add j)=some u)/\RepL (memW w) (c v) I)/\ok v:=by
      intro i J
      have h1:=ζ i J
      obtain⟨y,hy⟩:∃y,U[i]? =some y:=⟨U[i],wB (by omega)⟩
      rw[hy,hk]at h1
      obtain⟨I,γ,η⟩:=Option.bind_eq_some_iff.1 h1
      obtain⟨φ,ρ,κ⟩:=World.cells?_some γ
      obtain⟨v,θ,σ⟩:=he _ _ _ n I y (by omega) η
      grind
    by_cases h0:len=0
    · subst h0
      exact⟨[],zI1 (.seq k [] _ cap 0 0 (λ_ _=>undef) (by simp) Z (λh=>absurd rfl h) (λi r h=>by simp at h) (λi r j d h=>by simp at h) (λi r j d h=>by simp at h)),by simp,λx hx=>by cases hx⟩
    · have hs:a.spot=none:=by
        obtain⟨v,⟨I,π,W,_⟩,_⟩:=get 0 (by omega)
        have:=World.cell?_spot (W 0 _ (wB (by omega)))
        simpa[Addr.add]using this
      obtain⟨g,o,sp⟩:=a
      simp only at hs
      subst hs
      obtain⟨l,ε,δ⟩:=zTQ _ len get
      refine⟨l,zI1 ?_,by unfold maxLen at Z;omega,λx hx=> ?_⟩
      · have:=RepD.seq (m:=memW w) k (l.map c) (some ⟨g,o,none⟩) cap g o (λi j=>(memW w g (o+i*k+j)).getD undef) (by simp;omega) Z (λ_=>rfl) (λi r J=> ?_) (λi r j d J hj=> ?_) (λi r j d J hj=> ?_)
        · rwa [wM,ε]at this
        all_goals
          rw[wG]at J
          have β:i<l.length:=by
            rcases wR i l.length with g|g
            · exact g
            · rw[vX g]at J;cases J
          rw[wB β]at J
          injection J with J
          subst J
          obtain⟨⟨I,h1,h2,h3⟩,_⟩:=δ i β
        · have:=h3.1
          omega
        all_goals
          obtain⟨u,k1,k2⟩:=h3.2 j d hj
          have k3:=h2 j u k1
          rw[Addr.add_mid,Addr.add_mid]at k3
          have k4:memW w g (o+i*k+j)=some u:=k3
          rw[k4]
        · rfl
        · exact k2
      · obtain⟨i,J,rfl⟩:=List.getElem_of_mem hx
        exact(δ i J).2
theorem zRJ{α:Type}{t te:TypeId}{k:Nat}{c:α->List D}{ok:α->Prop}(ht:Tryz.prog.underlying t=some (.slice te))(hk:Tryz.prog.cellsOf te=k)(u:0<k)(I:OpT enc w te c ok):OpT enc w t (cSl k c) (zTN ok):=
 λb s l f J x h=>op_sliceF ht hk u (I.lt f) b s l f J x (Nat.lt_succ_self f) h
end
theorem fc_law{f:FuncId}{args:List A}(h:FC Tryz.prog f args [] (.t (.d (.lit (.bool true))))){w:World}{vals:Array Value}(hs:vals.size=args.length)(I:∀b p u,memW w b p=some u->w.cell? ⟨b,p,none⟩=some u)(hr:∀s,RepA (memW w) w (λ_=>none) (argS args) s (argS args s) (vals.getD s undef))(U:Mle TBL (memW w):=by intro b p u h;simp[TBL,TBLS]at h):
 Calls Tryz.prog f vals w λe w'=>e= .returned (.bool true)/\Below w.heap.size w w':=by
 refine(h w (memW w) (λ_=>none) vals I U (λ_ _ h=>by cases h) (λ_ _ _ h=>by cases h) hs hr).mono ?_
 rintro e w' ⟨u,m',o',S',a',ρ,rfl,J,Z,_⟩
 have W:Same (λ_=>False) w w':=J.same.weaken λg h=>h rfl
 have Z:RepD m' (.lit (.bool true)) u:=Z
 cases Z
 exact⟨rfl,W.below⟩
theorem repl_head{m:Mem}{d:D}{cs:List Value}(h:RepL m [d] cs):∃u,cs=[u]/\RepD m d u:=by(match cs,h.1 with|[u],_=>obtain⟨v,I,J⟩:=h.2 0 d rfl;grind)
end Go.Proofs.YtocolhfjpadaoaaGreatDoor
