/-
  Lemmas of this claim, joined.
-/
import Derived.Test.YtocolhfjpadaoaaGreatDoorR14
set_option linter.unusedVariables false
set_option linter.unusedSimpArgs false
set_option linter.constructorNameAsVariable false
namespace Go.Proofs.YtocolhfjpadaoaaGreatDoor
open Go
abbrev wQ:=@List.getElem?_set_self
abbrev uJ:=@List.getElem?_concat_length
abbrev uZ:=@List.drop_append
abbrev tG:=@List.replicate_append_replicate
abbrev tO:=@Int.toNat_of_nonneg
abbrev tZ:=@List.take_append_getElem
abbrev sG:=@List.take_left'
abbrev sH:=@List.drop_left'
abbrev sP:=@List.take_append
abbrev sS:=@List.drop_replicate
abbrev sU:=@List.drop_succ_cons
end Go.Proofs.YtocolhfjpadaoaaGreatDoor
namespace Go.Proofs.YtocolhfjpadaoaaGreatDoor
open Go Go.RowKit
variable {P:Program}{w0:World}{w:World}{m0:Mem}{m:Mem}{o0:OwnM}{o:OwnM}{G:GD}{pins:List Nat}{N:Nat}{a:Act}{op:Oper}{S:Nat->A}{M:Nat->A}{L:SL}{v:Value}{W:World}{Q:Mem}{X:OwnM}
theorem zGt{α:Type}{l:List α}{lo n:Nat}(h:lo+n<=l.length)(z:Int)(hz:z=((lo+n:Nat):Int)):cutI l (lo:Int) z=some ((l.drop lo).take n):=by subst hz;unfold cutI;rw[if_pos ⟨by omega,by omega,by omega⟩,wR,wR,List.drop_take];simp
def getN(b:List UInt8):Int:=if b.length=0\/8<b.length\/4611686018427387904<ofBE b then 0 else ofBE b
def getE(b:List UInt8):Int:=if b.length=0 then 10 else if 8<b.length then 2 else if 4611686018427387904<ofBE b then 11 else 0
theorem zS3(b:List UInt8)(hb:b.length<=8):∀(n i:Nat),i<=b.length->b.length-i<n->zC1 zCz b n ((ofBE (b.take i):Nat):Int) (i:Int)=zCz ((ofBE b:Nat):Int)
 |0,i,_,h=>by omega
 |n+1,i,J,h=>by unfold zC1;by_cases u:i<b.length;((have I:ofBE (b.take i)<72057594037927936:=by have h:=zQd i (b.take i) (by simp;omega);have:256^i<=256^7:=Nat.pow_le_pow_right (by omega) (by omega);omega);(have ht:ofBE (b.take (i+1))=ofBE (b.take i)*256+b[i].toNat:=by rw[<-tZ u,zN4]);rw[zK (zAm (by omega)),zCv u,wA,get_step _ _ I b[i].toNat_lt,<-ht,zCy (by omega)];exact zS3 b hb n (i+1) (by omega) (by omega));rw[zD (zAW (by omega)),vE (by omega)]
theorem n_Get(b:List UInt8):zBX b=some (getN b,getE b):=by rw[zUL];unfold getN getE;by_cases I:b.length=0;rw[zK (zQq (by omega)),if_pos (.inl I),if_pos I];(rw[zD (zOs (by omega)),if_neg I];by_cases u:8<b.length;rw[zK (zAm (by omega)),if_pos (.inr (.inl u)),if_pos u];(rw[zD (zAW (by omega)),if_neg u];have:=zS3 b (by omega) (b.length+1) 0 (uF _) (by omega);have h:zC1 zCz b (b.length+1) 0 0=zCz ((ofBE b:Nat):Int):=this;rw[h];unfold zCz;by_cases hb:4611686018427387904<ofBE b;rw[zK (zAm (by omega)),if_pos (.inr (.inr hb)),if_pos hb];rw[zD (zAW (by omega)),if_neg (by omega),if_neg hb,yF (by omega) (by omega)]))
theorem getN_4{b:List UInt8}(h:b.length=4):getN b=ofBE b/\getE b=0:=by have:=zQd 4 b h;unfold getN getE;rw[if_neg (by omega),if_neg (by omega),if_neg (by omega),if_neg (by omega)];exact⟨rfl,rfl⟩
theorem zSG{n k:Nat}(h:n<256^k)(I:1<=k)(u:k<=8)(hn:n<=4611686018427387904):getN (be k n)=n/\getE (be k n)=0:=by(have e:ofBE (be k n)=n:=by rw[zQR,tQ h]);unfold getN getE;rw[e,zV,if_neg (by omega),if_neg (by omega),if_neg (by omega),if_neg (by omega)];exact⟨rfl,rfl⟩
theorem zTy{p:List UInt8}{o k n:Nat}(h:o+k<=p.length)(hn:n<256^k)(J:1<=k)(u:k<=8)(I:n<=4611686018427387904):qQ p o k (n:Int)=some (p.take o++(be k n++p.drop (o+k))):=by rw[zR0];unfold zFK;rw[if_pos ⟨by omega,by omega,by omega,by omega,by simpa using hn⟩,wA];unfold cpyI;rw[if_pos h,wA];(have e:cpyL p o k (be k n)=p.take o++(be k n++p.drop (o+k)):=by unfold cpyL;rw[zV,Nat.min_self,vE (l:=be k n) (by rw[zV];omega)]);simp only[wR];rw[e];unfold lenI;rw[if_pos (by simp[zV];omega)];rfl
def zDZ(b s:Nat):List UInt8:=be 8 b++(be 4 s++(List.replicate 44 0++be 8 b))
theorem zLn(b s:Nat):(zDZ b s).length=64:=by simp[zDZ,zV]
theorem zOV{H:Hp}{b s:Nat}(hb:b<=4611686018427387904)(hs:s<4294967296):zB8 (b:Int) (s:Int) H=some (zDZ b s):=by have W:(List.replicate 64 (0:UInt8)).length=64:=wN;have u:=zTy (p:=List.replicate 64 (0:UInt8)) (o:=0) (k:=8) (n:=b) (by rw[W];omega) (by omega) (by omega) (by omega) hb;(have U:((List.replicate 64 (0:UInt8)).take 0++(be 8 b++(List.replicate 64 (0:UInt8)).drop (0+8)))=be 8 b++List.replicate 56 0:=by simp);rw[U]at u;have J:=zTy (p:=be 8 b++List.replicate 56 0) (o:=8) (k:=4) (n:=s) (by simp[zV]) (by omega) (by omega) (by omega) (by omega);(have Z:((be 8 b++List.replicate 56 (0:UInt8)).take 8++(be 4 s++(be 8 b++List.replicate 56 (0:UInt8)).drop (8+4)))=be 8 b++(be 4 s++List.replicate 52 0):=by simp[sP,uZ,zV,vE,vU]);rw[Z]at J;have I:=zTy (p:=be 8 b++(be 4 s++List.replicate 52 0)) (o:=56) (k:=8) (n:=b) (by simp[zV]) (by omega) (by omega) (by omega) hb;(have l3:((be 8 b++(be 4 s++List.replicate 52 (0:UInt8))).take 56++(be 8 b++(be 8 b++(be 4 s++List.replicate 52 (0:UInt8))).drop (56+8)))=zDZ b s:=by simp[zDZ,sP,uZ,zV,vE,vU]);rw[l3]at I;rw[zOe];show Option.bind (qQ (List.replicate 64 (0:UInt8)) 0 8 (b:Int)) _=_;rw[u,wA];(have k1:lenI (be 8 b++List.replicate 56 (0:UInt8)).length (List.replicate 64 (0:UInt8)).length=some ():=by unfold lenI;rw[if_pos (by simp[zV])]);(have k2:lenI (be 8 b++(be 4 s++List.replicate 52 (0:UInt8))).length (be 8 b++List.replicate 56 (0:UInt8)).length=some ():=by unfold lenI;rw[if_pos (by simp[zV])]);(have k3:lenI (zDZ b s).length (be 8 b++(be 4 s++List.replicate 52 (0:UInt8))).length=some ():=by unfold lenI;rw[if_pos (by simp[zV,zLn])]);show Option.bind (lenI (be 8 b++List.replicate 56 (0:UInt8)).length (List.replicate 64 (0:UInt8)).length) _=_;rw[k1,wA];show Option.bind (qQ (be 8 b++List.replicate 56 (0:UInt8)) 8 4 (s:Int)) _=_;rw[J,wA];show Option.bind (lenI (be 8 b++(be 4 s++List.replicate 52 (0:UInt8))).length (be 8 b++List.replicate 56 (0:UInt8)).length) _=_;rw[k2,wA];show Option.bind (qQ (be 8 b++(be 4 s++List.replicate 52 (0:UInt8))) 56 8 (b:Int)) _=_;rw[I,wA];show Option.bind (lenI (zDZ b s).length (be 8 b++(be 4 s++List.replicate 52 (0:UInt8))).length) _=_;rw[k3];rfl
def zE5(k n:Nat)(d:List UInt8):List UInt8:=UInt8.ofNat k::(be 4 n++(d++List.replicate (47-d.length) 0))
def zEe(k n:Nat)(d:List UInt8)(st:Nat):List UInt8:=zE5 k n d++(be 4 (Crc.crc (zE5 k n d++be 8 st))++be 8 st)
theorem zDB{k n:Nat}{d:List UInt8}(h:d.length<=32):(zE5 k n d).length=52:=by simp[zE5,zV];omega
theorem zPb{k n st:Nat}{d:List UInt8}(h:d.length<=32):(zEe k n d st).length=64:=by simp[zEe,zDB h,zV]
theorem n_bytes{H:Hp}{k n st:Nat}{d:List UInt8}{ok:Bool}(hk:k<256)(hn:n<4294967296)(hd:d.length<=32)(hs:st<=4611686018427387904):zAY ⟨(k:Int),(n:Int),d,ok⟩ (st:Int) H=some (zEe k n d st):=by(have hU:U8 (k:Int)=UInt8.ofNat k:=by unfold U8;congr 1;omega);(have hL:(List.replicate 64 (0:UInt8)).set 0 (U8 (k:Int))=UInt8.ofNat k::List.replicate 63 0:=by rw[hU];rfl);have u:=zTy (p:=UInt8.ofNat k::List.replicate 63 0) (o:=1) (k:=4) (n:=n) (by simp) (by omega) (by omega) (by omega) (by omega);(have l1:((UInt8.ofNat k::List.replicate 63 (0:UInt8)).take 1++(be 4 n++(UInt8.ofNat k::List.replicate 63 (0:UInt8)).drop (1+4)))=UInt8.ofNat k::(be 4 n++List.replicate 59 0):=by simp);rw[l1]at u;(have l2:cpyI (UInt8.ofNat k::(be 4 n++List.replicate 59 (0:UInt8))) 5 32 d=some (UInt8.ofNat k::(be 4 n++(d++List.replicate (59-d.length) 0))):=by unfold cpyI;rw[if_pos (by simp[zV])];congr 1;unfold cpyL;rw[Nat.min_eq_left hd,vE (l:=d) hd];(have J:(UInt8.ofNat k::be 4 n).length=5:=by simp[zV]);rw[show UInt8.ofNat k::(be 4 n++List.replicate 59 (0:UInt8))=(UInt8.ofNat k::be 4 n)++List.replicate 59 0 from rfl,sG J,uZ,vU (l:=UInt8.ofNat k::be 4 n) (by omega),J,sS,show 59-(5+d.length-5)=59-d.length by omega];rfl);have I:=zTy (p:=UInt8.ofNat k::(be 4 n++(d++List.replicate (59-d.length) 0))) (o:=56) (k:=8) (n:=st) (by simp[zV];omega) (by omega) (by omega) (by omega) hs;(have hT:(UInt8.ofNat k::(be 4 n++(d++List.replicate (59-d.length) (0:UInt8))))=zE5 k n d++List.replicate 12 0:=by unfold zE5;rw[show 59-d.length=(47-d.length)+12 by omega,<-tG];simp);(have l3:((UInt8.ofNat k::(be 4 n++(d++List.replicate (59-d.length) (0:UInt8)))).take 56++(be 8 st++(UInt8.ofNat k::(be 4 n++(d++List.replicate (59-d.length) (0:UInt8)))).drop (56+8)))=zE5 k n d++(List.replicate 4 0++be 8 st):=by rw[hT];simp[sP,uZ,zDB hd,vE,vU]);rw[l3]at I;(have W:zGp (zE5 k n d++(List.replicate 4 0++be 8 st)) 0 52=some (zE5 k n d):=by unfold zGp;rw[if_pos (by simp[zDB hd,zV])];simp[sP,zDB hd,vE]);(have p2:zGp (zE5 k n d++(List.replicate 4 0++be 8 st)) 56 8=some (be 8 st):=by unfold zGp;rw[if_pos (by simp[zDB hd,zV])];simp[uZ,zDB hd,vE,zV,vU]);(have hS:zHW [zE5 k n d,be 8 st]=some ((Crc.crc (zE5 k n d++be 8 st):Nat):Int):=by have h1:=zDB (k:=k) (n:=n) hd;have h2:=zV 8 st;unfold zHW;rw[if_pos (by simp[h1,h2])];simp);have hc:=Crc.crc_le (zE5 k n d++be 8 st);have U:=zTy (p:=zE5 k n d++(List.replicate 4 0++be 8 st)) (o:=52) (k:=4) (n:=Crc.crc (zE5 k n d++be 8 st)) (by simp[zDB hd,zV]) (by omega) (by omega) (by omega) (by omega);(have Z:((zE5 k n d++(List.replicate 4 0++be 8 st)).take 52++(be 4 (Crc.crc (zE5 k n d++be 8 st))++(zE5 k n d++(List.replicate 4 0++be 8 st)).drop (52+4)))=zEe k n d st:=by simp[zEe,sP,uZ,zDB hd,vE,vU]);rw[Z]at U;(have len:∀{a b:Nat},a=b->lenI a b=some ():=λh=>by unfold lenI;rw[if_pos h]);rw[zMs];show Option.bind (qQ ((List.replicate 64 (0:UInt8)).set 0 (U8 (k:Int))) 1 4 (n:Int)) _=_;rw[hL,u,wA];show Option.bind (lenI (UInt8.ofNat k::(be 4 n++List.replicate 59 (0:UInt8))).length ((List.replicate 64 (0:UInt8)).set 0 (U8 (k:Int))).length) _=_;rw[len (by simp[zV]),wA];rw[show vcut (Int.toNat 64) 5 37=some ()from rfl,wA];show Option.bind (cpyI (UInt8.ofNat k::(be 4 n++List.replicate 59 (0:UInt8))) 5 32 d) _=_;rw[l2,wA,len (by simp[zV];omega),wA];show Option.bind (qQ (UInt8.ofNat k::(be 4 n++(d++List.replicate (59-d.length) (0:UInt8)))) 56 8 (st:Int)) _=_;rw[I,wA,len (by simp[zV,zDB hd];omega),wA];rw[show vcut (Int.toNat 64) 52 56=some ()from rfl,wA,show vcut (Int.toNat 64) 0 52=some ()from rfl,wA,show vcut (Int.toNat 64) 56 ((Int.toNat 64:Nat):Int)=some ()from rfl,wA];show Option.bind (zGp (zE5 k n d++(List.replicate 4 0++be 8 st)) 0 52) _=_;rw[W,wA];show Option.bind (zGp (zE5 k n d++(List.replicate 4 0++be 8 st)) 56 8) _=_;rw[p2,wA,hS,wA];rw[yF (by omega) (by omega)];show Option.bind (qQ (zE5 k n d++(List.replicate 4 0++be 8 st)) 52 4 ((Crc.crc (zE5 k n d++be 8 st):Nat):Int)) _=_;rw[U,wA,len (by simp[zV,zDB hd,zPb hd])];rfl
def Valid(st:Nat)(r:List UInt8):Prop:=∃h s t:List UInt8,r=h++(s++t)/\h.length=52/\h.drop 37=List.replicate 15 0/\s=be 4 (Crc.crc (h++t))/\t=be 8 st
theorem zSZ{k n st:Nat}{d:List UInt8}(hd:d.length<=32):Valid st (zEe k n d st):=by refine⟨zE5 k n d,_,_,rfl,zDB hd,?_,rfl,rfl⟩;unfold zE5;(have:(47-d.length)=(32-d.length)+15:=by omega);rw[this,<-tG];(have e:UInt8.ofNat k::(be 4 n++(d++(List.replicate (32-d.length) (0:UInt8)++List.replicate 15 0)))=(UInt8.ofNat k::(be 4 n++(d++List.replicate (32-d.length) (0:UInt8))))++List.replicate 15 0:=by simp);rw[e,sH (by simp[zV];omega)]
abbrev pad(x:List UInt8):List UInt8:=padA (0:UInt8) x 0 64
theorem pad_len(x:List UInt8):(pad x).length=64:=zPx x 64 0
theorem pad_id{x:List UInt8}(h:x.length=64):pad x=x:=padA_id h
structure Dsk where
 kept:List Y
 now:List Y
 wait:List qP
 fuse:Int
 off:Bool
 lives:Int
def apw(k:List Y)(l:List qP):List Y:=l.foldl (λs w=>s.set w.n_.toNat w.b_) k
theorem apw_snoc(k:List Y)(l:List qP)(w:qP):apw k (l++[w])=(apw k l).set w.n_.toNat w.b_:=by simp[apw,List.foldl_append]
structure DIn(H:Hp)(i:Nat)(d:Dsk):Prop where
 at_:∃a b ks ns,a≠b/\H.dk[i]? =some ⟨(a,ks.length),(b,ns.length),d.wait,d.fuse,d.off,d.lives⟩/\H.sec[a]? =some ks/\H.sec[b]? =some ns/\ks.map pad=d.kept/\ns.map pad=d.now
 len:d.kept.length=d.now.length
 wok:∀w∈d.wait,0<=w.n_/\w.n_<(d.now.length:Int)/\w.b_.length=64
 same:d.now=apw d.kept d.wait
section
variable {H:Hp}{i:Nat}{d:Dsk}
theorem DIn.lg{H':Hp}(h:DIn H i d)(U:H'.dk=H.dk)(I:H'.sec=H.sec):DIn H' i d:=by obtain⟨W,J,Z,u⟩:=h;exact⟨by rw[U,I];exact W,J,Z,u⟩
theorem DIn.row(h:DIn H i d){k:Nat}{r:List UInt8}(hr:d.now[k]? =some r):r.length=64:=by obtain⟨⟨a,b,Z,J,u,hd,hk,hn,U,I⟩,_⟩:=h;rw[<-I,wH]at hr;(cases hq:J[k]? with|none=>rw[hq]at hr;cases hr|some y=>rw[hq]at hr;injection hr with hr;rw[<-hr];exact pad_len y)
theorem n_is(h:DIn H i d)(h0:0<d.now.length):zBs (some i) H=some true:=by obtain⟨⟨a,b,Z,u,I,hd,hk,hn,U,J⟩,_⟩:=h;(have hl:u.length=d.now.length:=by rw[<-J,wL]);rw[zG5];show Option.bind (H.dk[i]?) _=_;rw[hd,wA];show some (decide ((u.length:Int)>0))=_;rw[zAm (by omega)]
theorem zM1(h:DIn H i d)(h0:0<d.now.length):qH (some i) H=some (d.now.length:Int):=by have U:=n_is h h0;obtain⟨⟨a,b,W,u,I,hd,hk,hn,Z,J⟩,_⟩:=h;(have hl:u.length=d.now.length:=by rw[<-J,wL]);rw[zIc];rw[U,wA];show Option.bind (H.dk[i]?) _=_;rw[hd,wA];show some (u.length:Int)=_;rw[hl]
theorem n_Off(h:DIn H i d)(h0:0<d.now.length):zCD (some i) H=some d.off:=by have I:=n_is h h0;obtain⟨⟨a,b,W,U,u,hd,hk,hn,J,Z⟩,_⟩:=h;rw[zOl];rw[I,wA];show Option.bind (H.dk[i]?) _=_;rw[hd,wA]
theorem zSl(h:DIn H i d)(h0:0<d.now.length):zAU (some i) H=some d.lives:=by have I:=n_is h h0;obtain⟨⟨a,b,W,U,u,hd,hk,hn,J,Z⟩,_⟩:=h;rw[zMO];rw[I,wA];show Option.bind (H.dk[i]?) _=_;rw[hd,wA]
theorem n_may(h:DIn H i d)(I:d.off=false){k:Nat}(hk:k<d.now.length):zAj (some i) (k:Int) H=some 0:=by have W:=n_is h (by omega);obtain⟨⟨a,b,ks,u,U,hd,J,hn,ek,Z⟩,_⟩:=h;(have hl:u.length=d.now.length:=by rw[<-Z,wL]);rw[zGU];rw[W,wA];show Option.bind (H.dk[i]?) _=_;rw[hd,wA];show(bif d.off then _ else bif decide ((k:Int)<0)then _ else bif decide ((k:Int)>=(u.length:Int))then _ else some 0)=_;rw[I,zD rfl,zD (zAW (by omega)),zD (zAW (by omega))]
theorem n_burn{x:zP}(h:H.dk[i]? =some x)(hf:x.fuse_<0):yN (some i) H=some (false,H):=by rw[zFj];show Option.bind (H.dk[i]?) _=_;rw[h,wA,zK (zAm hf)]
theorem zS2(h:DIn H i d)(J:d.off=false){k:Nat}{r:List UInt8}(hr:d.now[k]? =some r):zAk (some i) (k:Int) H=some (r,0):=by have hk:k<d.now.length:=(wB.1 hr).1;have I:=n_may h J hk;obtain⟨⟨a,b,ks,W,Z,hd,U,hn,ek,u⟩,_⟩:=h;(have hl:W.length=d.now.length:=by rw[<-u,wL]);rw[zIb];rw[I,wA,zD (zGl rfl)];show Option.bind (H.dk[i]?) _=_;rw[hd,wA];show Option.bind (H.sec[b]?) _=_;rw[hn,wA];unfold lenI;rw[if_pos rfl,wA,zCv (by omega),wA];rw[<-u,wH,wF (by omega)]at hr;injection hr with hr;rw[<-hr]
theorem zSs(h:DIn H i d)(ho:d.off=false)(hf:d.fuse<0){k:Nat}(hk:k<d.now.length){x:List UInt8}(hx:x.length=64)(hw:d.wait.length<1000000):
 ∃Z,zZ (some i) (k:Int) x H=some (0,Z)/\DIn Z i {d with now:=d.now.set k x,wait:=d.wait++[⟨k,x⟩]}/\Z.lg=H.lg:=by
 have hm:=n_may h ho hk
 obtain⟨⟨a,b,ks,u,I,hd,U,hn,ek,en⟩,h4,h5,h6⟩:=h
 have hl:u.length=d.now.length:=by rw[<-en,wL]
 have W:i<H.dk.length:=(wB.1 hd).1
 have J:b<H.sec.length:=(wB.1 hn).1
 let X:zP:=⟨(a,ks.length),(b,u.length),d.wait++[⟨k,x⟩],d.fuse,d.off,d.lives⟩
 have g1:((H.st_dk i X).st_sec b (u.set k x)).dk[i]? =some X:=wQ W
 refine⟨(H.st_dk i X).st_sec b (u.set k x),?_,⟨⟨a,b,ks,u.set k x,I,?_,?_,?_,ek,?_⟩,?_,?_,?_⟩,rfl⟩
 · rw[zFP];rw[hm,wA,zD (zGl rfl),zD (zGl (by omega))];(have e1:s2aI 64 x=some x:=by unfold s2aI;rw[if_pos (by omega),vE (by omega)]);rw[e1,wA];show Option.bind (H.dk[i]?) _=_;rw[hd,wA,zEI (by show(d.wait.length+_)*_<=_;simp;omega),wA];show Option.bind (H.sec[b]?) _=_;rw[hn,wA];unfold lenI;rw[if_pos rfl,wA,zCv (by omega),wA];show Option.bind (yN (some i) ((H.st_dk i X).st_sec b (u.set k x))) _=_;rw[n_burn g1 hf];rfl
 · rw[g1,vI]
 · show(H.sec.set b _)[a]? =_;rw[vN (λe=>I e.symm),U]
 · exact wQ J
 · show _=d.now.set k x;rw[List.map_set,en,pad_id hx]
 · show d.kept.length=(d.now.set k x).length;rw[vI,h4]
 · intro w hw;show 0<=w.n_/\w.n_<((d.now.set k x).length:Int)/\_;rw[vI];rcases List.mem_append.1 hw with hw|hw;exact h5 w hw;(rw[tH.1 hw];exact⟨by show(0:Int)<=(k:Int);omega,by show(k:Int)<_;omega,hx⟩)
 · show d.now.set k x=apw d.kept (d.wait++[⟨k,x⟩]);rw[apw_snoc,<-h6];rfl
theorem zPE{a b:Nat}(W:a≠b){X:zP}{L:Nat}(J:X.kept_=(a,L))(hw:∀w∈X.wait_,0<=w.n_/\w.n_<(L:Int)/\w.b_.length=64)(α:X.wait_.length<4611686018427387904)(i:Nat)(ns:List Y):∀(n j:Nat) (H:Hp) (I:List Y),j<=X.wait_.length->X.wait_.length-j<n->H.dk[i]? =some X->H.sec[a]? =some I->H.sec[b]? =some ns->I.length=L->
 ∃U u,qI (zBi (some i)) X (some i) i n (j:Int) H=some (0,U)/\U.dk[i]? =some ⟨X.kept_,X.now_,[],X.fuse_,X.off_,X.lives_⟩/\U.sec[a]? =some u/\U.sec[b]? =some ns/\u.map pad=apw (I.map pad) (X.wait_.drop j)/\U.lg=H.lg/\u.length=L
 |0,j,_,_,_,h,_,_,_,_=>by omega
 |n+1,j,H,I,hj,h,hd,hk,hn,hL=>by unfold qI;by_cases Z:j<X.wait_.length;(obtain⟨h1,h2,h3⟩:=hw _ (uA Z);have δ:a<H.sec.length:=(wB.1 hk).1;rw[zK (zAm (by omega)),zCv Z,wA];show∃U u,Option.bind (H.dk[i]?) _=_/\_;rw[hd,wA];(have e1:Hp.ge_sec H X.kept_.1=some I:=by rw[J];exact hk);rw[e1,wA];(have e2:lenI I.length X.kept_.2=some ():=by unfold lenI;rw[J,if_pos hL]);rw[e2,wA];(have e3:idx I X.wait_[j].n_=some (I[X.wait_[j].n_.toNat]'(by omega)):=by have:=zCv (l:=I) (i:=X.wait_[j].n_.toNat) (by omega);rwa [tO h1]at this);rw[e3,wA,zCy (by omega)];(have β:(H.st_sec X.kept_.1 (I.set X.wait_[j].n_.toNat X.wait_[j].b_)).sec[a]? =some (I.set X.wait_[j].n_.toNat X.wait_[j].b_):=by rw[J];exact wQ δ);(have γ:(H.st_sec X.kept_.1 (I.set X.wait_[j].n_.toNat X.wait_[j].b_)).sec[b]? =some ns:=by rw[J];show(H.sec.set a _)[b]? =_;rw[vN W,hn]);obtain⟨U,u,g1,g2,g3,g4,g5,g6,g7⟩:=zPE W J hw α i ns n (j+1) (H.st_sec X.kept_.1 (I.set X.wait_[j].n_.toNat X.wait_[j].b_)) _ (by omega) (by omega) (show _ from hd) β γ (by rw[vI,hL]);refine⟨U,u,g1,g2,g3,g4,?_,g6,g7⟩;rw[g5,uD Z,List.map_set,pad_id h3];rfl);((have e:j=X.wait_.length:=by omega);subst e;rw[zD (zAW (by omega))];unfold zBi;show∃U u,Option.bind (H.dk[i]?) _=_/\_;rw[hd,wA];refine⟨_,I,rfl,?_,hk,hn,?_,rfl,hL⟩;exact wQ (wB.1 hd).1;(rw[List.drop_length];rfl))
theorem zSK(h:DIn H i d)(ho:d.off=false)(hf:d.fuse<0)(h0:0<d.now.length)(W:d.wait.length<1000000):
 ∃u,qB (some i) H=some (0,u)/\DIn u i {d with kept:=d.now,wait:=[]}/\u.lg=H.lg:=by
 have hm:=n_may h ho h0
 obtain⟨⟨a,b,Z,U,J,hd,α,hn,ek,en⟩,h4,h5,h6⟩:=h
 have hl:U.length=d.now.length:=by rw[<-en,wL]
 have β:Z.length=d.kept.length:=by rw[<-ek,wL]
 rw[zFL]
 rw[show((0:Nat):Int)=0 from rfl]at hm
 rw[hm,wA,zD (zGl rfl),n_burn hd hf,wA,zD rfl]
 show∃u,Option.bind (H.dk[i]?) _=_/\_
 rw[hd,wA]
 obtain⟨u,I,g1,g2,g3,g4,g5,g6,g7⟩:=zPE J (X:=⟨(a,Z.length),(b,U.length),d.wait,d.fuse,d.off,d.lives⟩) (L:=Z.length) rfl (λw W=>by have:=h5 w W;exact⟨this.1,by omega,this.2.2⟩) (by show d.wait.length<_;omega) i U (d.wait.length+1) 0 H Z (uF _) (by show d.wait.length-0<_;omega) hd α hn rfl
 have e:I.map pad=d.now:=by rw[g5,ek,h6];rfl
 exact⟨u,g1,⟨⟨a,b,I,U,J,by rw[g2,g7],g3,g4,e,en⟩,rfl,λw W=>absurd W uM,rfl⟩,g6⟩
theorem n_New{H:Hp}{n:Nat}(J:1<=n)(U:n<=16384):∃u,zDv (n:Int) H=some (some H.dk.length,0,u)/\DIn u H.dk.length ⟨List.replicate n (List.replicate 64 0),List.replicate n (List.replicate 64 0),[],-1,false,0⟩/\u.lg=H.lg:=by(have e:mkI 64 (n:Int)=some n:=by unfold mkI;rw[if_pos ⟨by omega,by omega,by omega⟩,wR]);(have hp:(List.replicate n ([]:List UInt8)).map pad=List.replicate n (List.replicate 64 0):=by rw[sY];rfl);rw[zT6];rw[zD (zAW (by omega)),zD (zAW (by omega)),e,wA,wA];refine⟨_,rfl,⟨⟨H.sec.length,H.sec.length+1,List.replicate n [],List.replicate n [],by omega,?_,?_,?_,hp,hp⟩,rfl,λw I=>absurd I uM,rfl⟩,rfl⟩;(show(H.dk++[_])[H.dk.length]? =_;simp[Hp.ln_sec,Hp.nw_sec]);(show(H.sec++[List.replicate n []]++[List.replicate n []])[H.sec.length]? =_;simp);(show(H.sec++[List.replicate n []]++[List.replicate n []])[H.sec.length+1]? =_;simp)
end
theorem n_pair{α:Type}(a b:List α)(J:a.length<4611686018427387904)(eq:α->α->Option Bool)(F:Nat->Int->Option Bool)
(Z:∀n z,F (n+1) z=bif decide (z<(a.length:Int))then((idx a z).bind λx=>(idx b z).bind λy=>(eq x y).bind λe=>bif (!e)then some false else F n (wi (z+1)))else some true)
(u:∀x∈a,∀y,∃r,eq x y=some r/\(r=true↔x=y))[DecidableEq α]:(bif ((a.length:Int) !=(b.length:Int))then some false else F (a.length+1) 0)=some (decide (a=b)):=by
 by_cases hl:a.length=b.length
 · rw[zD (zGl (by omega))];obtain⟨r,I,U⟩:=zRi a b hl J eq F Z u (a.length+1) 0 (by omega) (by omega);rw[show((0:Nat):Int)=0 from rfl]at I;rw[I];congr 1;rw[Bool.eq_iff_iff,U,decide_eq_true_iff];rfl
 · rw[zK (ine_t (by omega)),decide_eq_false (λe=>hl (by rw[e]))]
theorem zSv(a b:List UInt8)(u:a.length<4611686018427387904):zAQ a b=some (decide (a=b)):=by rw[zLE];exact n_pair a b u (λx y=>some ((x.toNat:Int)==(y.toNat:Int))) (zBD a b) (λn z=>rfl) λx _ y=>⟨_,rfl,by rw[beq_iff_eq,<-UInt8.toNat_inj];omega⟩
def atE(st:Nat)(r:List UInt8):zG:=⟨((r.headD 0).toNat:Int),(ofBE ((r.drop 1).take 4):Int),(r.drop 5).take 32,decide (r=zEe (r.headD 0).toNat (ofBE ((r.drop 1).take 4)) ((r.drop 5).take 32) st)⟩
theorem zOZ{k n st:Nat}{d:List UInt8}(hk:k<256)(hn:n<4294967296)(hd:d.length=32):atE st (zEe k n d st)=⟨k,n,d,true⟩:=by(have e:zEe k n d st=UInt8.ofNat k::(be 4 n++(d++(List.replicate (47-d.length) 0++(be 4 (Crc.crc (zE5 k n d++be 8 st))++be 8 st)))):=by simp[zEe,zE5]);(have u:(zEe k n d st).headD 0=UInt8.ofNat k:=by rw[e];rfl);(have I:((zEe k n d st).drop 1).take 4=be 4 n:=by rw[e,sU,List.drop_zero,sG (zV 4 n)]);(have U:((zEe k n d st).drop 5).take 32=d:=by rw[e,sU,sH (zV 4 n),sG hd]);(have J:(UInt8.ofNat k).toNat=k:=by simp;omega);unfold atE;rw[u,I,U,J,zQR,tQ (by omega),decide_eq_true rfl]
theorem zUb(k n st:Nat):zEe k n [] st=zEe k n (List.replicate 32 0) st:=by have:zE5 k n []=zE5 k n (List.replicate 32 0):=rfl;unfold zEe;rw[this]
theorem atE_bad{st:Nat}{r:List UInt8}(h:¬Valid st r)(hr:r.length=64):(atE st r).ok_=false:=by refine decide_eq_false λe=>h ?_;rw[e];exact zSZ (by rw[vZ];omega)
theorem valid_end{st:Nat}{r:List UInt8}(h:Valid st r):r.drop 56=be 8 st:=by obtain⟨u,s,t,rfl,hl,hz,hs,ht⟩:=h;rw[<-vW,sH (by simp[hl,hs,zV]),ht]
structure LIn(H:Hp)(i j:Nat)(d:Dsk)(s base slot used:Nat)(com:Int):Prop where
 dsk:DIn H i d
 off:d.off=false
 lg:H.lg[j]? =some ⟨some i,s,base,slot,used,d.lives,com⟩
 s3:3<=s
 sl:2+s<d.now.length
 ln:d.now.length<=16384
 bs:base+s<=2305843009213693952
structure WIn(H:Hp)(i j:Nat)(d:Dsk)(s base slot used:Nat)(com:Int):Prop extends LIn H i j d s base slot used com where
 fuse:d.fuse<0
section
variable {H:Hp}{i j:Nat}{d:Dsk}{s base slot used:Nat}{com:Int}
theorem zKr(h:LIn H i j d s base slot used com):zAP (some j) H=some 0:=by have:=h.sl;(have u:0<d.now.length:=by omega);have hx:=h.lg;rw[zNy];show Option.bind (H.lg[j]?) _=_;rw[hx,wA];show zBZ (some j) H false=_;unfold zBZ;rw[zD rfl];show Option.bind (H.lg[j]?) _=_;rw[hx,wA];show Option.bind (zCD (some i) H) _=_;rw[n_Off h.dsk u,wA,h.off,zD rfl];show Option.bind (zAU (some i) H) _=_;rw[zSl h.dsk u,wA,zD (zGl rfl)]
theorem zOn(h:LIn H i j d s base slot used com):yO (some j) H=some ((d.now.length-2-s:Nat):Int):=by have:=h.sl;have:=h.ln;rw[zOW];show Option.bind (H.lg[j]?) _=_;rw[h.lg,wA];show Option.bind (qH (some i) H) _=_;rw[zM1 h.dsk (by omega),wA];show some (wi (wi ((d.now.length:Int)-2)-(s:Int)))=_;rw[yF (z:=(d.now.length:Int)-2) (by omega) (by omega),yF (by omega) (by omega)];congr 1;omega
theorem n_home(h:LIn H i j d s base slot used com)(k:Nat)(hk:k<=100000):zCb (some j) (k:Int) H=some ((2+s+k:Nat):Int):=by have:=h.sl;have:=h.ln;rw[zO0];show Option.bind (H.lg[j]?) _=_;rw[h.lg,wA];show some (wi (wi (2+(s:Int))+(k:Int)))=_;rw[yF (z:=2+(s:Int)) (by omega) (by omega),yF (by omega) (by omega)];congr 1
theorem n_LRead(h:LIn H i j d s base slot used com){k:Nat}{r:List UInt8}(hr:d.now[2+s+k]? =some r):zDH (some j) (k:Int) H=some (r,0):=by have:=h.ln;have:=h.sl;have hk:2+s+k<d.now.length:=(wB.1 hr).1;rw[zOx];rw[zKr h,wA,zD (zGl rfl),zD (zAW (by omega)),zOn h,wA,zD (zAW (by omega))];show Option.bind (H.lg[j]?) _=_;rw[h.lg,wA,n_home h k (by omega),wA];show Option.bind (zAk (some i) ((2+s+k:Nat):Int) H) _=_;rw[zS2 h.dsk h.off hr];rfl
theorem n_at(h:LIn H i j d s base slot used com){p:Nat}{r:List UInt8}(hp:p<s)(hr:d.now[2+p]? =some r):zBP (some j) (p:Int) H=some (atE (base+p) r):=by have:=h.ln;have:=h.sl;have:=h.bs;have hl:=h.dsk.row hr;rw[zRA];show Option.bind (H.lg[j]?) _=_;rw[h.lg,wA];show(bif decide ((p:Int)>=(s:Int))then _ else _)=_;rw[zD (zAW (by omega)),yF (z:=2+(p:Int)) (by omega) (by omega)];show Option.bind (zAk (some i) (2+(p:Int)) H) _=_;rw[show 2+(p:Int)=((2+p:Nat):Int) by omega,zS2 h.dsk h.off hr,wA,zD (zGl rfl)];(have e0:idx r 0=some (r.headD 0):=by(cases r with|nil=>cases hl|cons x t=>rfl));have I:cutI r 5 37=some ((r.drop 5).take 32):=zGt (l:=r) (lo:=5) (n:=32) (by omega) 37 rfl;have u:cutI r 1 5=some ((r.drop 1).take 4):=zGt (l:=r) (lo:=1) (n:=4) (by omega) 5 rfl;have g:=getN_4 (b:=(r.drop 1).take 4) (by simp;omega);have hb:=zQd 4 ((r.drop 1).take 4) (by simp;omega);show Option.bind (idx r 0) _=_;rw[e0,wA];show Option.bind (cutI r 5 37) _=_;rw[I,wA];show Option.bind (cutI r 1 5) _=_;rw[u,wA,n_Get,wA,g.1,g.2];show Option.bind (zAY ⟨((r.headD 0).toNat:Int),(ofBE ((r.drop 1).take 4):Int),(r.drop 5).take 32,false⟩ (wi ((base:Int)+(p:Int))) H) _=_;rw[yF (z:=(base:Int)+(p:Int)) (by omega) (by omega),show(base:Int)+(p:Int)=((base+p:Nat):Int) by omega];rw[n_bytes (by have:=(r.headD 0).toNat_lt;omega) (by omega) (by simp;omega) (by omega),wA];show Option.bind (zAQ r _) _=_;rw[zSv r _ (by omega)];rfl
theorem n_Concat{a b:List UInt8}(u:a.length=32)(hb:b.length=32):zA7 [a,b]=some (a++b):=by(have j:zAX [a,b] 64=some (a++b):=by unfold zAX;rw[show zDg 64=some [] by decide+kernel,wA];show yC [a,b] 3 [] 0=_;unfold yC;rw[zK (by show decide ((0:Int)<2)=true;decide)];show Option.bind (some a) _=_;rw[wA,zEI (by simp;omega),wA];show yC [a,b] 2 _ 1=_;unfold yC;rw[zK (by show decide ((1:Int)<2)=true;decide)];show Option.bind (some b) _=_;rw[wA,zEI (by simp;omega),wA];rfl);rw[zKJ];show yE (zAX [a,b]) [a,b] 3 0 0=_;unfold yE;rw[zK (by show decide ((0:Int)<2)=true;decide)];show Option.bind (some a) _=_;rw[wA,u,zD (by decide)];show yE (zAX [a,b]) [a,b] 2 32 1=_;unfold yE;rw[zK (by show decide ((1:Int)<2)=true;decide)];show Option.bind (some b) _=_;rw[wA,hb,zD (by decide)];exact j
def Good(s n:Nat)(ws:List zB):Prop:=∀w∈ws,0<=w.Home/\w.Home<((n-2-s:Nat):Int)/\w.Data.length=64
structure Stand(H:Hp)(j:Nat)(ws:List zB)(T:Nat):Prop where
 a:∀k (hk:k<ws.length),2*k<T->zBP (some j) ((2*k:Nat):Int) H=some ⟨1,ws[k].Home,ws[k].Data.take 32,true⟩
 b:∀k (hk:k<ws.length),2*k+1<T->zBP (some j) ((2*k+1:Nat):Int) H=some ⟨2,ws[k].Home,ws[k].Data.drop 32,true⟩
 c:2*ws.length<T->zBP (some j) ((2*ws.length:Nat):Int) H=some ⟨3,ws.length,List.replicate 32 0,true⟩
 t:∃e,zBP (some j) (T:Int) H=some e/\e.ok_=false
theorem n_one(h:LIn H i j d s base slot used com){ws:List zB}{T:Nat}(hg:Good s d.now.length ws)(h1:0<ws.length)(hl:ws.length<=10000)(hs:Stand H j ws T)(hT:T<=2*ws.length+1):∀(n k:Nat),k<=ws.length->ws.length-k<n->2*k<=T->
 qW (some j) H 0 n (ws.take k) ((2*k:Nat):Int)=some (if T=2*ws.length+1 then(ws,(T:Int))else([],0))
 |0,k,_,hn,_=>by omega
 |n+1,k,hk,hn,β=>by unfold qW;by_cases I:2*k=T;(obtain⟨e,Z,W⟩:=hs.t;rw[I,Z,wA,W,zK (by rfl),if_neg (by omega)]);(by_cases u:k<ws.length;(obtain⟨w1,w2,w3⟩:=hg _ (uA u);rw[hs.a k u (by omega),wA,zD (by rfl)];show(bif ((1:Int)==3)then _ else _)=_;rw[zD (by decide)];unfold zBd;rw[zD (by rfl),zD (by show((1:Int) !=1)=false;decide)];show Option.bind (yO (some j) H) _=_;rw[zOn h,wA];show(bif decide (ws[k].Home>=_)then _ else _)=_;rw[zD (zAW (by omega))];rw[zCy (by omega)];by_cases J:2*k+1=T;(obtain⟨e,Z,W⟩:=hs.t;rw[J,Z,wA,W,zK (by rfl),if_neg (by omega)]);(rw[hs.b k u (by omega),wA,zD (by rfl),zD (by show((2:Int) !=2)=false;decide)];show(bif (ws[k].Home !=ws[k].Home)then _ else _)=_;rw[zD (zGl rfl)];show Option.bind (zA7 [ws[k].Data.take 32,ws[k].Data.drop 32]) _=_;rw[n_Concat (by simp;omega) (by simp;omega),wA,List.take_append_drop];rw[zEI (by simp;omega),wA];(have e:List.take k ws++[⟨ws[k].Home,ws[k].Data⟩]=ws.take (k+1):=by rw[<-tZ u]);show qW (some j) H 0 n (List.take k ws++[⟨ws[k].Home,ws[k].Data⟩]) _=_;rw[e,yF (by omega) (by omega),show((2*k:Nat):Int)+2=((2*(k+1):Nat):Int) by omega];exact n_one h hg h1 hl hs hT n (k+1) (by omega) (by omega) (by omega)));((have α:k=ws.length:=by omega);subst α;(have U:T=2*ws.length+1:=by omega);rw[hs.c (by omega),wA,zD (by rfl),vE (wJ _)];show(bif ((3:Int)==3)then _ else _)=_;rw[zK (by decide),zK (zAm (by omega))];show(bif ((ws.length:Int)==(ws.length:Int))then _ else _)=_;rw[zK (zQq rfl)];show Option.bind (zD0 (List.replicate 32 0)) _=_;rw[show zD0 (List.replicate 32 0)=some true by decide+kernel,wA];unfold zBd;rw[zK (by rfl),if_pos U,zCy (by omega),yF (by omega) (by omega),U];simp))
theorem zSk(h:LIn H i j d s base slot used com)(hs:∃e,zBP (some j) 0 H=some e/\e.ok_=false):zBr (some j) H=some []:=by obtain⟨e,I,u⟩:=hs;rw[zKe];show yS (some j) H (16399+1) [] 0=_;unfold yS;(have g:zCx (some j) 0 H=some ([],0):=by rw[zH9];show qW (some j) H 0 (16399+1) [] 0=_;unfold qW;rw[I,wA,u];rfl);rw[g,wA];rfl
theorem zSf(h:LIn H i j d s base slot used com){ws:List zB}(J:Good s d.now.length ws)(I:0<ws.length)(hl:ws.length<=10000)(hs:Stand H j ws (2*ws.length+1)):zBr (some j) H=some ws:=by have:=n_one h J I hl hs (by omega) 16400 0 (by omega) (by omega) (by omega);rw[if_pos rfl]at this;rw[zKe];show yS (some j) H (16399+1) [] 0=_;unfold yS;(have e:zCx (some j) 0 H=some (ws,((2*ws.length+1:Nat):Int)):=by rw[zH9];exact this);rw[e,wA,zD (zOs (by omega)),zEI (by simp;omega),wA,tF];show yS (some j) H (16398+1) ws (wi (0+((2*ws.length+1:Nat):Int)))=_;unfold yS;obtain⟨y,u,U⟩:=hs.t;(have g:zCx (some j) ((2*ws.length+1:Nat):Int) H=some ([],0):=by rw[zH9];show qW (some j) H _ (16399+1) [] _=_;unfold qW;rw[u,wA,U];rfl);rw[yF (by omega) (by omega),show(0:Int)+((2*ws.length+1:Nat):Int)=((2*ws.length+1:Nat):Int) by omega,g,wA];rfl
end
section
variable {H:Hp}{i j:Nat}{d:Dsk}{s base slot used:Nat}{com:Int}
theorem WIn.wr(h:WIn H i j d s base slot used com){k:Nat}(hk:k<d.now.length){x:List UInt8}(hx:x.length=64)(I:d.wait.length<1000000):
 ∃u,zZ (some i) (k:Int) x H=some (0,u)/\WIn u i j {d with now:=d.now.set k x,wait:=d.wait++[⟨k,x⟩]} s base slot used com:=by
 obtain⟨u,J,Z,U⟩:=zSs h.dsk h.off h.fuse hk hx I
 refine⟨u,J,⟨Z,h.off,by rw[U];exact h.lg,h.s3,?_,?_,h.bs⟩,h.fuse⟩
 · show _<(d.now.set k x).length;rw[vI];exact h.sl
 · show(d.now.set k x).length<=_;rw[vI];exact h.ln
theorem WIn.fl(h:WIn H i j d s base slot used com)(I:d.wait.length<1000000):
 ∃u,qB (some i) H=some (0,u)/\WIn u i j {d with kept:=d.now,wait:=[]} s base slot used com:=by
 have:=h.sl
 obtain⟨u,J,Z,U⟩:=zSK h.dsk h.off h.fuse (by omega) I
 exact⟨u,J,⟨Z,h.off,by rw[U];exact h.lg,h.s3,h.sl,h.ln,h.bs⟩,h.fuse⟩
theorem WIn.jl(h:WIn H i j d s base slot used com):j<H.lg.length:=(wB.1 h.lg).1
def rd(s:Nat)(now:List Y)(ws:List zB):List Y:=ws.foldl (λt w=>t.set (2+s+w.Home.toNat) w.Data) now
theorem rd_len(s:Nat)(ws:List zB):∀t,(rd s t ws).length=t.length:=by(induction ws with|nil=>intro t;rfl|cons w r u=>intro t;show(rd s (t.set _ _) r).length=_;rw[u,vI])
theorem zRo{ws:List zB}(Z:ws.length<=100000):∀(n z:Nat) (H:Hp) (d:Dsk),WIn H i j d s base slot used com->Good s d.now.length ws->d.wait.length+(ws.length-z)<=200000->z<=ws.length->ws.length-z<n->
 ∃J u,zAr ws (some j) n (z:Int) H=some (0,J)/\WIn J i j u s base slot used com/\u.now=rd s d.now (ws.drop z)/\u.kept=d.kept/\u.wait.length<=d.wait.length+(ws.length-z)/\u.lives=d.lives
 |0,z,_,_,_,_,_,_,h=>by omega
 |n+1,z,H,d,h,W,hw,hz,hn=>by have:=h.ln;have:=h.sl;unfold zAr;by_cases I:z<ws.length;(obtain⟨w1,w2,w3⟩:=W _ (uA I);have hH:ws[z].Home=(ws[z].Home.toNat:Int):=(tO w1).symm;(have hb:2+s+ws[z].Home.toNat<d.now.length:=by omega);rw[zK (zAm (by omega)),zCv I,wA];show∃J u,Option.bind (H.lg[j]?) _=_/\_;rw[h.lg,wA];(have e1:zCb (some j) ws[z].Home H=some ((2+s+ws[z].Home.toNat:Nat):Int):=by have:=n_home h.toLIn ws[z].Home.toNat (by omega);rwa [<-hH]at this);rw[e1,wA];obtain⟨H1,g1,g2⟩:=h.wr hb w3 (by omega);show∃J u,Option.bind (zZ (some i) ((2+s+ws[z].Home.toNat:Nat):Int) ws[z].Data H) _=_/\_;rw[g1,wA,zD (by rfl),zCy (by omega)];obtain⟨J,u,k1,k2,k3,k4,k5,k6⟩:=zRo Z n (z+1) H1 _ g2 (by show Good s (d.now.set _ _).length ws;rw[vI];exact W) (by show(d.wait++[_]).length+_<=_;simp;omega) (by omega) (by omega);refine⟨J,u,k1,k2,?_,k4,?_,k6⟩;(rw[k3,uD I];rfl);(have U:u.wait.length<=(d.wait++[_]).length+(ws.length-(z+1)):=k5;simp at U;omega));((have e:z=ws.length:=by omega);subst e;rw[zD (zAW (by omega))];exact⟨H,d,rfl,h,by rw[List.drop_length];rfl,rfl,by omega,rfl⟩)
theorem n_redo{ws:List zB}(h:WIn H i j d s base slot used com)(I:ws.length<=100000)(U:Good s d.now.length ws)(Z:d.wait.length<=100000):
 ∃J u,zBL (some j) ws H=some (0,J)/\WIn J i j u s base slot used com/\u.now=rd s d.now ws/\u.kept=d.kept/\u.wait.length<=d.wait.length+ws.length/\u.lives=d.lives:=by
 rw[zKh]
 exact zRo I (ws.length+1) 0 H d h U (by omega) (by omega) (by omega)
theorem n_raise(h:WIn H i j d s base slot used com)(hs:slot<=1)(hb:base+s+s<=2305843009213693952)(hw:d.wait.length<999999):
 ∃I u,zB6 (some j) H=some (0,I)/\WIn I i j u s (base+s) (1-slot) 0 com/\u.now=d.now.set (1-slot) (zDZ (base+s) s)/\u.kept=u.now/\u.wait=[]/\u.lives=d.lives:=by
 have:=h.sl
 have:=h.ln
 rw[zJW]
 show∃I u,Option.bind (H.lg[j]?) _=_/\_
 rw[h.lg,wA]
 show∃I u,Option.bind (zB8 (wi ((base:Int)+(s:Int))) (s:Int) H) _=_/\_
 rw[yF (z:=(base:Int)+(s:Int)) (by omega) (by omega),show(base:Int)+(s:Int)=((base+s:Nat):Int) by omega,zOV (by omega) (by omega),wA]
 obtain⟨Z,W,J⟩:=h.wr (k:=1-slot) (by omega) (zLn (base+s) s) (by omega)
 show∃I u,Option.bind (zZ (some i) (wi (1-(slot:Int))) (zDZ (base+s) s) H) _=_/\_
 rw[yF (z:=1-(slot:Int)) (by omega) (by omega),show 1-(slot:Int)=((1-slot:Nat):Int) by omega,W,wA,zD (by rfl)]
 show∃I u,Option.bind (Z.lg[j]?) _=_/\_
 rw[J.lg,wA]
 obtain⟨U,k1,k2⟩:=J.fl (by show(d.wait++[_]).length<_;simp;omega)
 show∃I u,Option.bind (qB (some i) Z) _=_/\_
 rw[k1,wA,zD (by rfl)]
 show∃I u,Option.bind (U.lg[j]?) _=_/\_
 rw[k2.lg,wA]
 refine⟨_,_,rfl,⟨⟨k2.dsk.lg rfl rfl,k2.off,?_,h.s3,k2.sl,k2.ln,by omega⟩,k2.fuse⟩,rfl,rfl,rfl,rfl⟩
 have hj:=k2.jl
 show(((U.lg.set j _).set j _).set j _)[j]? =_
 rw[wQ (by simp;omega)]
 show some (zW.mk _ _ (wi ((base:Int)+(s:Int))) _ _ _ _)=_
 rw[yF (z:=(base:Int)+(s:Int)) (by omega) (by omega),show(base:Int)+(s:Int)=((base+s:Nat):Int) by omega]
 rfl
theorem zRn(h:WIn H i j d s base slot used com)(hs:slot<=1)(hb:base+s+s<=2305843009213693952)(W:d.wait.length<999999):
 ∃I u,yY (some j) H=some (0,I)/\WIn I i j u s (base+s) (1-slot) 0 com/\u.now=d.now.set (1-slot) (zDZ (base+s) s)/\u.kept=u.now/\u.wait=[]/\u.lives=d.lives:=by
 have:=h.sl
 have:=h.ln
 rw[zFx]
 rw[zKr h.toLIn,wA,zD (by rfl)]
 show∃I u,Option.bind (H.lg[j]?) _=_/\_
 rw[h.lg,wA]
 show∃I u,(bif decide ((base:Int)>wi (2305843009213693952-(s:Int)))then _ else _)=_/\_
 rw[yF (z:=2305843009213693952-(s:Int)) (by omega) (by omega),zD (zAW (by omega))]
 obtain⟨Z,U,J⟩:=h.fl (by omega)
 show∃I u,Option.bind (qB (some i) H) _=_/\_
 rw[U,wA,zD (by rfl)]
 obtain⟨I,u,k1,k2,k3,k4,k5,k6⟩:=n_raise J hs hb (by show([]:List qP).length<_;simp)
 show∃I u,Option.bind (zB6 (some j) Z) _=_/\_
 rw[k1,wA]
 exact⟨I,u,rfl,k2,k3,k4,k5,k6⟩
theorem zRM(h:LIn H i j d s base slot used com)(ws:List zB)(hl:ws.length<=10000):(Good s d.now.length ws->zAT (some j) ws H=qN ws (some j) H)/\(¬Good s d.now.length ws->zAT (some j) ws H=some (2,H)):=by have u:=zRb (len:=ws.length) (qO (λ_=>qN ws (some j) H) ws H (some j)) (λk=>∀hk:k<ws.length,0<=ws[k].Home/\ws[k].Home<((d.now.length-2-s:Nat):Int)/\ws[k].Data.length=64) (qN ws (some j) H) (some (2,H)) (λn k hk=>by(have W:qO (λ_=>qN ws (some j) H) ws H (some j) (n+1) (k:Int)=(bif decide (ws[k].Home<0)then some (2,H)else bif decide (ws[k].Home>=((d.now.length-2-s:Nat):Int))then some (2,H)else bif ((ws[k].Data.length:Int) !=64)then some (2,H)else qO (λ_=>qN ws (some j) H) ws H (some j) n ((k+1:Nat):Int)):=by rw[qO,zK (zAm (by omega)),zCv hk,wA,zOn h,wA,zCy (by omega)]);rw[W];refine⟨λhp=> ?_,λhp=> ?_⟩;(obtain⟨I,U,h3⟩:=hp hk;rw[zD (zAW (by omega)),zD (zAW (by omega)),zD (zGl (by omega))]);(by_cases I:ws[k].Home<0;rw[zK (zAm I)];(rw[zD (zAW I)];by_cases U:ws[k].Home<((d.now.length-2-s:Nat):Int);rw[zD (zAW (by omega)),zK (ine_t λe=>hp λ_=>⟨by omega,U,by omega⟩)];(rw[zK (zAm (by omega))])))) (λn=>by rw[qO,zD (zAW (by omega))]) (ws.length+1) 0 (by omega) (by omega);(have e:zAT (some j) ws H=qO (λ_=>qN ws (some j) H) ws H (some j) (ws.length+1) ((0:Nat):Int):=by rw[zIR];rw[zKr h,wA,zD (by rfl)];rfl);rw[e];refine⟨λJ=>u.1 λk _ hk _=>J _ (uA hk),λJ=>u.2 λhc=>J λw Z=> ?_⟩;obtain⟨k,hk,rfl⟩:=List.getElem_of_mem Z;exact hc k (by omega) hk hk
def ents:List zB->List zG
 |[]=>[]
 |w::r=>⟨1,w.Home,w.Data.take 32,false⟩::⟨2,w.Home,w.Data.drop 32,false⟩::ents r
def zHQ(ws:List zB):List zG:=ents ws++[⟨3,ws.length,[],false⟩]
theorem zTQ:∀a b:List zB,ents (a++b)=ents a++ents b
 |[],b=>rfl
 |w::r,b=>by simp[ents,zTQ r b]
theorem zIO:∀a:List zB,(ents a).length=2*a.length
 |[]=>rfl
 |w::r=>by simp[ents,zIO r];omega
theorem zHP(a:List zB):(zHQ a).length=2*a.length+1:=by simp[zHQ,zIO]
theorem ents_at(ws:List zB):∀k (hk:k<ws.length),(ents ws)[2*k]? =some ⟨1,ws[k].Home,ws[k].Data.take 32,false⟩/\(ents ws)[2*k+1]? =some ⟨2,ws[k].Home,ws[k].Data.drop 32,false⟩:=by(induction ws with|nil=>intro k hk;cases hk|cons w r u=>intro k hk;(cases k with|zero=>exact⟨rfl,rfl⟩|succ k=>have:=u k (by simp at hk;omega);exact⟨this.1,this.2⟩))
theorem n_entries(ws:List zB)(hl:ws.length<=10000)(W:∀w∈ws,w.Data.length=64):zE1 ws=some (zHQ ws):=by(have I:∀(n k:Nat),k<=ws.length->ws.length-k<n->zCR (zEP ws) ws n (ents (ws.take k)) (k:Int)=some (zHQ ws):=by intro n;(induction n with|zero=>intro k _ h;omega|succ n U=>intro k hk h;unfold zCR;by_cases u:k<ws.length;(have Z:=W _ (uA u);have J:cutI ws[k].Data 0 32=some (ws[k].Data.take 32):=zRt (n:=32) (by omega);have e2:cutI ws[k].Data 32 (ws[k].Data.length:Int)=some (ws[k].Data.drop 32):=zOm (n:=32) (by omega);(have α:(ents (ws.take k)).length<=20000:=by rw[zIO,vZ];omega);rw[zK (zAm (by omega)),zCv u,wA,J,wA,e2,wA,zEI (by simp;omega),wA,zCy (by omega)];(have e:ents (ws.take k)++[⟨1,ws[k].Home,ws[k].Data.take 32,false⟩,⟨2,ws[k].Home,ws[k].Data.drop 32,false⟩]=ents (ws.take (k+1)):=by rw[<-tZ u,zTQ];rfl);rw[e];exact U (k+1) (by omega) (by omega));((have e:k=ws.length:=by omega);subst e;rw[zD (zAW (by omega)),vE (wJ _)];unfold zEP;rw[zEI (by rw[zIO];simp;omega)];rfl)));rw[zQX];exact I (ws.length+1) 0 (by omega) (by omega)
def rowE(e:zG)(st:Nat):List UInt8:=zEe e.kind_.toNat e.number_.toNat e.data_ st
def OkE(e:zG):Prop:=0<=e.kind_/\e.kind_<256/\0<=e.number_/\e.number_<4294967296/\e.data_.length<=32
theorem rowE_len{e:zG}{st:Nat}(h:OkE e):(rowE e st).length=64:=zPb h.2.2.2.2
theorem n_rowE{H:Hp}{e:zG}{st:Nat}(h:OkE e)(hs:st<=4611686018427387904):zAY e (st:Int) H=some (rowE e st):=by obtain⟨k,n,W,ok⟩:=e;obtain⟨u,J,I,U,Z⟩:=h;have:=n_bytes (H:=H) (k:=k.toNat) (n:=n.toNat) (st:=st) (d:=W) (ok:=ok) (by simp only at u J;omega) (by simp only at I U;omega) Z hs;rw[tO u,tO I]at this;exact this
theorem ok_ents{s n:Nat}(ws:List zB)(I:Good s n ws)(hn:n<=16384):∀e∈ents ws,OkE e:=by(induction ws with|nil=>intro e he;cases he|cons w r U=>obtain⟨u,W,Z⟩:=I w tT;intro e he;rcases vL.1 he with rfl|he;exact⟨by show(0:Int)<=1;omega,by show(1:Int)<256;omega,u,by show w.Home<_;omega,by show(w.Data.take 32).length<=32;rw[vZ];omega⟩;(rcases vL.1 he with rfl|he;exact⟨by show(0:Int)<=2;omega,by show(2:Int)<256;omega,u,by show w.Home<_;omega,by show(w.Data.drop 32).length<=32;rw[uY];omega⟩;exact U (λw J=>I w (vG _ J)) e he))
theorem ok_entsA{s n:Nat}(ws:List zB)(u:Good s n ws)(hn:n<=16384)(hl:ws.length<=10000):∀e∈zHQ ws,OkE e:=by intro e he;rcases List.mem_append.1 he with he|he;exact ok_ents ws u hn e he;(rw[tH.1 he];exact⟨by show(0:Int)<=3;omega,by show(3:Int)<256;omega,by show(0:Int)<=(ws.length:Int);omega,by show(ws.length:Int)<_;omega,by show([]:List UInt8).length<=32;simp⟩)
def wrs(o b:Nat):List zG->Nat->List Y->List Y
 |[],_,t=>t
 |e::r,p,t=>wrs o b r (p+1) (t.set (o+p) (rowE e (b+p)))
theorem zSt(o b:Nat):∀(u:List zG) (p:Nat) (t:List Y),(wrs o b u p t).length=t.length
 |[],_,t=>rfl
 |e::r,p,t=>by show(wrs o b r (p+1) (t.set (o+p) _)).length=_;rw[zSt o b r,vI]
theorem zQJ(o b q:Nat):∀(u:List zG) (p:Nat) (t:List Y),(q<o+p\/o+p+u.length<=q)->(wrs o b u p t)[q]? =t[q]?
 |[],_,t,_=>rfl
 |e::r,p,t,h=>by show(wrs o b r (p+1) (t.set (o+p) _))[q]? =_;have I:q<o+p\/o+p+(r.length+1)<=q:=h;rw[zQJ o b q r (p+1) _ (by omega),vN (by omega)]
theorem wrs_at(o b:Nat):∀(u:List zG) (p:Nat) (t:List Y) (k:Nat) (e:zG),u[k]? =some e->o+p+u.length<=t.length->(wrs o b u p t)[o+p+k]? =some (rowE e (b+p+k))
 |[],_,t,k,e,h,_=>by simp at h
 |e0::r,p,t,0,e,h,hl=>by(have J:e0=e:=by simpa using h);subst J;have I:o+p+(r.length+1)<=t.length:=hl;show(wrs o b r (p+1) (t.set (o+p) _))[o+p]? =_;rw[zQJ o b (o+p) r (p+1) _ (by omega),wQ (by omega)];rfl
 |e0::r,p,t,k+1,e,h,hl=>by have I:o+p+(r.length+1)<=t.length:=hl;(have U:r[k]? =some e:=by simpa using h);have:=wrs_at o b r (p+1) (t.set (o+p) (rowE e0 (b+p))) k e U (by rw[vI];omega);show(wrs o b r (p+1) (t.set (o+p) _))[o+p+(k+1)]? =_;rw[show o+p+(k+1)=o+(p+1)+k by omega,show b+p+(k+1)=b+(p+1)+k by omega];exact this
theorem zOQ{u:List zG}{ws:List zB}(Z:∀e∈u,OkE e)(α:used+u.length<=s):∀(n z:Nat) (H:Hp) (d:Dsk),WIn H i j d s base slot used com->d.wait.length+(u.length-z)<=200000->z<=u.length->u.length-z<n->
 ∃U I,zAN (zAS (some j) ws) u (some j) n (z:Int) H=zAS (some j) ws U/\WIn U i j I s base slot used com/\I.now=wrs (2+used) (base+used) (u.drop z) z d.now/\I.wait.length<=d.wait.length+(u.length-z)/\I.lives=d.lives
 |0,z,_,_,_,_,_,h=>by omega
 |n+1,z,H,d,h,hw,hz,hn=>by have:=h.ln;have:=h.sl;have:=h.bs;unfold zAN;by_cases J:z<u.length;(have W:=Z _ (uA J);rw[zK (zAm (by omega)),zCv J,wA];show∃U I,Option.bind (H.lg[j]?) _=_/\_;rw[h.lg,wA];show∃U I,Option.bind (zAY u[z] (wi ((base:Int)+wi ((used:Int)+(z:Int)))) H) _=_/\_;rw[yF (z:=(used:Int)+(z:Int)) (by omega) (by omega),yF (z:=(base:Int)+((used:Int)+(z:Int))) (by omega) (by omega),show(base:Int)+((used:Int)+(z:Int))=((base+used+z:Nat):Int) by omega,n_rowE W (by omega),wA,yF (z:=2+((used:Int)+(z:Int))) (by omega) (by omega),show 2+((used:Int)+(z:Int))=((2+used+z:Nat):Int) by omega];obtain⟨H1,g1,g2⟩:=h.wr (k:=2+used+z) (by omega) (rowE_len (st:=base+used+z) W) (by omega);show∃U I,Option.bind (zZ (some i) ((2+used+z:Nat):Int) (rowE u[z] (base+used+z)) H) _=_/\_;rw[g1,wA,zD (by rfl),zCy (by omega)];obtain⟨U,I,k1,k2,k3,k4,k5⟩:=zOQ Z α n (z+1) H1 _ g2 (by show(d.wait++[_]).length+_<=_;simp;omega) (by omega) (by omega);refine⟨U,I,k1,k2,?_,?_,k5⟩;(rw[k3,uD J];rfl);(have β:I.wait.length<=(d.wait++[_]).length+(u.length-(z+1)):=k4;simp at β;omega));((have e:z=u.length:=by omega);subst e;rw[zD (zAW (by omega))];exact⟨H,d,rfl,h,by rw[List.drop_length];rfl,by omega,rfl⟩)
theorem n_Commit(h:WIn H i j d s base slot used com){ws:List zB}(W:Good s d.now.length ws)(h1:0<ws.length)(hu:used+(2*ws.length+1)<=s)(hw:d.wait.length<=1000):
 ∃J I u,zAT (some j) ws H=some (0,J)/\WIn J i j I s base slot (used+(2*ws.length+1)) u/\I.kept=wrs (2+used) (base+used) (zHQ ws) 0 d.now/\I.now=rd s I.kept ws/\I.wait.length<=ws.length/\I.lives=d.lives:=by
 have:=h.ln
 have:=h.sl
 have:=h.bs
 have hl:ws.length<=10000:=by omega
 rw[(zRM h.toLIn ws hl).1 W]
 unfold qN
 show∃J I u,Option.bind (H.lg[j]?) _=_/\_
 rw[h.lg,wA]
 show∃J I u,(bif decide (wi (wi (2*(ws.length:Int))+1)>(s:Int))then _ else _)=_/\_
 have ew:wi (wi (2*(ws.length:Int))+1)=((2*ws.length+1:Nat):Int):=by rw[yF (z:=2*(ws.length:Int)) (by omega) (by omega),yF (by omega) (by omega)];omega
 rw[ew,zD (zAW (by omega)),zD (zOs (by omega))]
 have eL:zEL (some j) H=some ((s-used:Nat):Int):=by rw[zO6];show Option.bind (H.lg[j]?) _=_;rw[h.lg,wA];show some (wi ((s:Int)-(used:Int)))=_;rw[yF (by omega) (by omega)];congr 1;omega
 rw[eL,wA,zD (zAW (by omega))]
 unfold zBI
 rw[n_entries ws hl (λw hw=>(W w hw).2.2),wA]
 obtain⟨H1,U,g1,g2,g3,g4,g5⟩:=zOQ (ws:=ws) (ok_entsA ws W (by omega) hl) (by rw[zHP];omega) ((zHQ ws).length+1) 0 H d h (by rw[zHP];omega) (by omega) (by omega)
 rw[zHP]at g4
 rw[show((0:Nat):Int)=0 from rfl]at g1
 rw[g1]
 unfold zAS
 show∃J I u,Option.bind (H1.lg[j]?) _=_/\_
 rw[g2.lg,wA]
 obtain⟨H2,k1,k2⟩:=g2.fl (by omega)
 show∃J I u,Option.bind (qB (some i) H1) _=_/\_
 rw[k1,wA,zD (by rfl)]
 show∃J I u,Option.bind (H2.lg[j]?) _=_/\_
 rw[k2.lg,wA,ew]
 have hj:=k2.jl
 have hW:∃u,WIn ((H2.st_lg j (zW.mk (some i) (s:Int) (base:Int) (slot:Int) (wi ((used:Int)+((2*ws.length+1:Nat):Int))) U.lives com)).st_lg j (zW.mk (some i) (s:Int) (base:Int) (slot:Int) (wi ((used:Int)+((2*ws.length+1:Nat):Int))) U.lives (wi (com+1)))) i j {U with kept:=U.now,wait:=[]} s base slot (used+(2*ws.length+1)) u:=by refine⟨wi (com+1),⟨k2.dsk.lg rfl rfl,k2.off,?_,h.s3,k2.sl,k2.ln,h.bs⟩,k2.fuse⟩;show((H2.lg.set j _).set j _)[j]? =_;rw[wQ (by simp;omega),yF (z:=(used:Int)+((2*ws.length+1:Nat):Int)) (by omega) (by omega),show(used:Int)+((2*ws.length+1:Nat):Int)=((used+(2*ws.length+1):Nat):Int) by omega]
 obtain⟨u,hW⟩:=hW
 have Z:U.now.length=d.now.length:=by rw[g3,zSt]
 obtain⟨H3,d3,m1,m2,m3,m4,m5,m6⟩:=n_redo (ws:=ws) hW (by omega) (by show Good s U.now.length ws;rw[Z];exact W) (by show([]:List qP).length<=_;simp)
 refine⟨H3,d3,u,?_,m2,?_,?_,?_,by rw[m6,<-g5]⟩
 · show Option.bind (zBL (some j) ws _) _=_;refine(congrArg (λt=>Option.bind t _) m1).trans ?_;rfl
 · rw[m4];exact g3
 · rw[m3,m4]
 · simpa using m5
abbrev Z64:List UInt8:=List.replicate 64 0
theorem zOP{n s:Nat}(hn:n<=16384)(hs:2+s<n):∀(m z:Nat) (H:Hp) (d:Dsk),DIn H i d->d.off=false->d.fuse<0->d.now=List.replicate n Z64->d.wait.length+(2+s-z)<=200000->z<=2+s->2+s-z<m->
 ∃J I,zAJ (zAh (some i) (s:Int)) (s:Int) (some i) m (z:Int) H=zAh (some i) (s:Int) J/\DIn J i I/\I.off=false/\I.fuse<0/\I.now=List.replicate n Z64/\I.wait.length<=200000/\I.lives=d.lives/\J.lg=H.lg
 |0,z,_,_,_,_,_,_,_,_,h=>by omega
 |m+1,z,H,d,h,U,hf,u,hw,hz,hm=>by unfold zAJ;rw[yF (z:=2+(s:Int)) (by omega) (by omega)];by_cases W:z<2+s;(rw[zK (zAm (by omega))];obtain⟨H1,g1,Z,g3⟩:=zSs h U hf (k:=z) (x:=Z64) (by rw[u,wN];omega) (by simp) (by omega);show∃J I,Option.bind (zZ (some i) (z:Int) Z64 H) _=_/\_;rw[g1,wA,zD (by rfl),zCy (by omega)];obtain⟨J,I,k1,k2,k3,k4,k5,k6,k7,k8⟩:=zOP hn hs m (z+1) H1 _ Z U hf (by show d.now.set z Z64=_;rw[u,List.set_replicate_self]) (by show(d.wait++[_]).length+_<=_;simp;omega) (by omega) (by omega);exact⟨J,I,k1,k2,k3,k4,k5,k6,k7,by rw[k8,g3]⟩);(rw[zD (zAW (by omega))];exact⟨H,d,rfl,h,U,hf,u,by omega,rfl,rfl⟩)
theorem n_room{n:Nat}(h:DIn H i d)(hl:d.now.length=n)(hn:n<=16384)(hs:3<=s)(u:2+s<n):zEl (some i) (s:Int) H=some true:=by rw[zUS];rw[zK (zAm (by omega)),zM1 h (by omega),wA,yF (z:=(d.now.length:Int)-2) (by omega) (by omega),yF (by omega) (by omega),zAm (by omega)]
theorem n_Format{n s:Nat}(h:DIn H i d)(ho:d.off=false)(hf:d.fuse<0)(I:d.now=List.replicate n Z64)(hw:d.wait=[])(hn:n<=16384)(hs:3<=s)(h2:2+s<n):
 ∃J u,zBV (some i) (s:Int) H=some (0,J)/\DIn J i u/\u.off=false/\u.fuse<0/\u.now=(List.replicate n Z64).set 0 (zDZ 1 s)/\u.kept=u.now/\u.wait=[]/\u.lives=d.lives/\J.lg=H.lg:=by
 have hl:d.now.length=n:=by rw[I,wN]
 rw[zJQ]
 rw[zM1 h (by omega),wA,zD (zOs (by omega)),n_room h hl hn hs h2,wA,zD (by rfl),yF (z:=2+(s:Int)) (by omega) (by omega)]
 obtain⟨H1,d1,g1,g2,W,U,Z,g6,g7,g8⟩:=zOP (s:=s) hn h2 ((2+(s:Int)).toNat+1) 1 H d h ho hf I (by rw[hw];simp;omega) (by omega) (by omega)
 rw[show((1:Nat):Int)=1 from rfl]at g1
 rw[g1]
 unfold zAh
 obtain⟨H2,k1,k2,k3⟩:=zSK g2 W U (by rw[Z,wN];omega) (by omega)
 rw[k1,wA,zD (by rfl)]
 have eS:=zOV (H:=H2) (b:=1) (s:=s) (by omega) (by omega)
 rw[show((1:Nat):Int)=1 from rfl]at eS
 rw[eS,wA]
 obtain⟨H3,m1,m2,m3⟩:=zSs k2 W U (k:=0) (by show 0<d1.now.length;rw[Z,wN];omega) (zLn 1 s) (by show([]:List qP).length<_;simp)
 rw[show((0:Nat):Int)=0 from rfl]at m1
 show∃J u,Option.bind (zZ (some i) 0 (zDZ 1 s) H2) _=_/\_
 rw[m1,wA,zD (by rfl)]
 obtain⟨H4,q1,q2,q3⟩:=zSK m2 W U (by show 0<(d1.now.set 0 _).length;rw[vI,Z,wN];omega) (by show([]++[_]:List qP).length<_;simp)
 show∃J u,Option.bind (qB (some i) H3) _=_/\_
 rw[q1]
 exact⟨H4,_,rfl,q2,W,U,by show d1.now.set 0 _=_;rw[Z],rfl,rfl,g7,by rw[q3,m3,k3,g8]⟩
theorem zPn{n b s k:Nat}(h:DIn H i d)(J:d.off=false)(hl:d.now.length=n)(hn:n<=16384)(hs:3<=s)(W:2+s<n)(hb:1<=b)(α:b<=2305843009213693952)(hr:d.now[k]? =some (zDZ b s)):zAg (some i) (k:Int) H=some ((b:Int),(s:Int),true):=by rw[zHL];rw[zS2 h J hr,wA,zD (by rfl)];have hL:=zLn b s;(have U:cutI (zDZ b s) 0 8=some (be 8 b):=by have:=zGt (l:=zDZ b s) (lo:=0) (n:=8) (by omega) 8 rfl;rw[show((0:Nat):Int)=0 from rfl,List.drop_zero]at this;rw[this];unfold zDZ;rw[sG (zV 8 b)]);(have e2:cutI (zDZ b s) 56 ((zDZ b s).length:Int)=some (be 8 b):=by have:=zOm (l:=zDZ b s) (n:=56) (by omega);rw[show((56:Nat):Int)=56 from rfl]at this;rw[this];unfold zDZ;rw[show be 8 b++(be 4 s++(List.replicate 44 (0:UInt8)++be 8 b))=(be 8 b++(be 4 s++List.replicate 44 (0:UInt8)))++be 8 b by simp only[vW],sH (by simp[zV])]);(have Z:cutI (zDZ b s) 8 12=some (be 4 s):=by have:=zGt (l:=zDZ b s) (lo:=8) (n:=4) (by omega) 12 rfl;rw[show((8:Nat):Int)=8 from rfl]at this;rw[this];unfold zDZ;rw[sH (zV 8 b),sG (zV 4 s)]);(have e4:cutI (zDZ b s) 12 56=some (List.replicate 44 0):=by have:=zGt (l:=zDZ b s) (lo:=12) (n:=44) (by omega) 56 rfl;rw[show((12:Nat):Int)=12 from rfl]at this;rw[this];unfold zDZ;rw[show be 8 b++(be 4 s++(List.replicate 44 (0:UInt8)++be 8 b))=(be 8 b++be 4 s)++(List.replicate 44 (0:UInt8)++be 8 b) by simp only[vW],sH (by simp[zV]),sG (by simp)]);obtain⟨gb,u⟩:=zSG (n:=b) (k:=8) (by omega) (by omega) (by omega) (by omega);obtain⟨gs,I⟩:=zSG (n:=s) (k:=4) (by omega) (by omega) (by omega) (by omega);show Option.bind (cutI (zDZ b s) 0 8) _=_;rw[U,wA,n_Get,wA];show Option.bind (cutI (zDZ b s) 56 ((zDZ b s).length:Int)) _=_;rw[e2,wA,n_Get,wA];show Option.bind (cutI (zDZ b s) 8 12) _=_;rw[Z,wA,n_Get,wA,gb,u,gs,I];rw[zD (by rfl),zD (by rfl),zD (by rfl),zD (zGl rfl),zD (zAW (by show¬(b:Int)<1;omega)),zD (zAW (by show¬(b:Int)>2305843009213693952;omega))];show Option.bind (zEl (some i) (s:Int) H) _=_;rw[n_room h hl hn hs W,wA,zD (by rfl)];show Option.bind (cutI (zDZ b s) 12 56) _=_;rw[e4,wA,show zD0 (List.replicate 44 0)=some true by decide+kernel,wA,zD (by rfl)]
theorem zMS{k:Nat}(h:DIn H i d)(u:d.off=false)(hr:d.now[k]? =some Z64):zAg (some i) (k:Int) H=some (0,0,false):=by rw[zHL];rw[zS2 h u hr,wA,zD (by rfl)];show Option.bind (cutI Z64 0 8) _=_;rw[show cutI Z64 0 8=some (List.replicate 8 0) by decide+kernel,wA,show zBX (List.replicate 8 0)=some (0,0) by decide+kernel,wA];show Option.bind (cutI Z64 56 64) _=_;rw[show cutI Z64 56 64=some (List.replicate 8 0) by decide+kernel,wA,show zBX (List.replicate 8 0)=some (0,0) by decide+kernel,wA];show Option.bind (cutI Z64 8 12) _=_;rw[show cutI Z64 8 12=some (List.replicate 4 0) by decide+kernel,wA,show zBX (List.replicate 4 0)=some (0,0) by decide+kernel,wA];rfl
theorem zOR{H0 K:Hp}{x:zW}{b s n z:Nat}(I:DIn K i d)(hx:K.lg[H0.lg.length]? =some x)(hz:z<2)(hr:zAg (some i) (z:Int) K=some ((b:Int),(s:Int),true))(hb:x.base_<(b:Int)):
 ∃u,qD (qS H0) (some i) H0 (n+1) (z:Int) K=qD (qS H0) (some i) H0 n ((z+1:Nat):Int) u/\u.lg[H0.lg.length]? =some ⟨x.d_,s,b,z,x.used_,x.life_,x.commits_⟩/\DIn u i d:=by
 have hl:H0.lg.length<K.lg.length:=(wB.1 hx).1
 rw[qD,zK (zAm (by omega)),hr,wA,zK (by rfl)]
 show∃u,Option.bind (K.lg[H0.lg.length]?) _=_/\_
 rw[hx,wA,zAm (show(b:Int)>x.base_ from hb)]
 unfold zC0
 rw[zK (by rfl)]
 show∃u,Option.bind (K.lg[H0.lg.length]?) _=_/\_
 rw[hx,wA,zCy (by omega)]
 refine⟨_,rfl,?_,I.lg rfl rfl⟩
 show(((K.lg.set H0.lg.length _).set H0.lg.length _).set H0.lg.length _)[H0.lg.length]? =_
 rw[wQ (by simp;omega)]
theorem zLO{H0 K:Hp}{u v:Int}{n z:Nat}(hz:z<2)(hr:zAg (some i) (z:Int) K=some (u,v,false)):qD (qS H0) (some i) H0 (n+1) (z:Int) K=qD (qS H0) (some i) H0 n ((z+1:Nat):Int) K:=by rw[qD,zK (zAm (by omega)),hr,wA,zD (by rfl)];unfold zC0;rw[zD (by rfl),zCy (by omega)]
theorem zRI{n b s:Nat}(h:DIn H i d)(u:d.off=false)(hf:d.fuse<0)(hl:d.now.length=n)(hn:n<=16384)(hs:3<=s)(h2:2+s<n)(hb:1<=b)(Z:b+s<=2305843009213693952)(h0:d.now[0]? =some (zDZ b s))(c:Nat)(J:d.now[1]? =some Z64/\c=0\/d.now[1]? =some (zDZ c s)/\b<c/\c+s<=2305843009213693952):
 ∃K,zCQ (some i) H=qS H K/\WIn K i H.lg.length d s (if c=0 then b else c) (if c=0 then 0 else 1) 0 0:=by
 rw[zMf]
 rw[zM1 h (by omega),wA,zD (zOs (by omega)),n_Off h (by omega),wA,u,zD (by rfl)]
 show∃K,Option.bind (zAU (some i) H) _=_/\_
 rw[zSl h (by omega),wA]
 have I:DIn (H.nw_lg ⟨some i,0,0,0,0,d.lives,0⟩) i d:=h.lg rfl rfl
 obtain⟨K1,g1,W,U⟩:=zOR (H0:=H) (n:=2) (z:=0) I (x:=⟨some i,0,0,0,0,d.lives,0⟩) (by show(H.lg++[_])[H.lg.length]? =_;simp) (by omega) (zPn I u hl hn hs h2 hb (by omega) h0) (by show(0:Int)<(b:Int);omega)
 show∃K,qD (qS H) (some i) H (2+1) ((0:Nat):Int) (H.nw_lg ⟨some i,0,0,0,0,d.lives,0⟩)=_/\_
 rw[g1]
 rcases J with⟨J,rfl⟩|⟨J,h3,h4⟩
 · rw[zLO (z:=0+1) (by omega) (zMS U u J)];refine⟨K1,?_,⟨U,u,W,hs,by omega,by omega,Z⟩,hf⟩;show qD (qS H) (some i) H (0+1) 2 K1=_;rw[qD,zD (by decide)]
 · obtain⟨K2,k1,k2,k3⟩:=zOR (H0:=H) (n:=1) (z:=0+1) U W (by omega) (zPn U u hl hn hs h2 (by omega) (by omega) J) (by show(b:Int)<(c:Int);omega);rw[k1,if_neg (by omega),if_neg (by omega)];refine⟨K2,?_,⟨k3,u,k2,hs,by omega,by omega,h4⟩,hf⟩;show qD (qS H) (some i) H (0+1) 2 K2=_;rw[qD,zD (by decide)]
theorem zRu{K:Hp}{L:List zB}(h:WIn K i H.lg.length d s base slot 0 com)(h1:1<=base)(hs:slot<=1)(hb:base+s+s<=2305843009213693952)(hL:zBr (some H.lg.length) K=some L)(hg:Good s d.now.length L)(hl:L.length<=100000)(hw:d.wait.length<=1000):
 ∃I u,qS H K=some (some H.lg.length,0,I)/\WIn I i H.lg.length u s (base+s) (1-slot) 0 com/\u.now=(rd s d.now L).set (1-slot) (zDZ (base+s) s)/\u.kept=u.now/\u.wait=[]/\u.lives=d.lives:=by
 have:=h.ln
 have:=h.sl
 unfold qS
 show∃I u,Option.bind (K.lg[H.lg.length]?) _=_/\_
 rw[h.lg,wA]
 show∃I u,(bif ((base:Int)==0)then _ else bif decide ((base:Int)>wi (2305843009213693952-(s:Int)))then _ else _)=_/\_
 rw[zD (zOs (by omega)),yF (z:=2305843009213693952-(s:Int)) (by omega) (by omega),zD (zAW (by omega))]
 show∃I u,Option.bind (zBr (some H.lg.length) K) _=_/\_
 rw[hL,wA]
 obtain⟨H1,d1,g1,Z,g3,g4,g5,J⟩:=n_redo h hl hg (by omega)
 show∃I u,Option.bind (zBL (some H.lg.length) L K) _=_/\_
 rw[g1,wA,zD (by rfl)]
 obtain⟨W,U,k1,k2,k3,k4,k5,k6⟩:=zRn Z hs hb (by omega)
 show∃I u,Option.bind (yY (some H.lg.length) H1) _=_/\_
 rw[k1,wA,zD (by rfl)]
 exact⟨W,U,rfl,k2,by rw[k3,g3],k4,k5,by rw[k6,J]⟩
end
section
variable {ν:Type}
theorem mf_nil(k:Int):zCG ([]:List (Int×ν)) k=none:=rfl
theorem zKx(a:Int×ν)(l:List (Int×ν))(k:Int):zCG (a::l) k=if k=a.1 then some a.2 else zCG l k:=by unfold zCG mpos;rw[List.findIdx?_cons];by_cases h:k=a.1;(rw[if_pos (by simpa using h),if_pos h];rfl);(rw[if_neg (by simpa using h),if_neg h];cases List.findIdx? (λp:Int×ν=>k==p.1) l<;>rfl)
theorem ms_nil(k:Int)(v:ν):mset [] k v=[(k,v)]:=rfl
theorem ms_cons(a:Int×ν)(l:List (Int×ν))(k:Int)(v:ν):mset (a::l) k v=if k=a.1 then(k,v)::l else a::mset l k v:=by unfold mset mpos;rw[List.findIdx?_cons];by_cases h:k=a.1;(rw[if_pos (by simpa using h),if_pos h];rfl);(rw[if_neg (by simpa using h),if_neg h];cases List.findIdx? (λp:Int×ν=>k==p.1) l<;>rfl)
theorem mf_ms(l:List (Int×ν))(k q:Int)(v:ν):zCG (mset l k v) q=if q=k then some v else zCG l q:=by(induction l with|nil=>rw[ms_nil,zKx,mf_nil]|cons a l I=>rw[ms_cons];by_cases h:k=a.1;(rw[if_pos h,zKx,zKx];by_cases u:q=k;rw[if_pos u,if_pos u];rw[if_neg u,if_neg u,if_neg (by rw[<-h];exact u)]);(rw[if_neg h,zKx,zKx,I];by_cases u:q=k;rw[if_pos u,if_pos u,if_neg (by rw[u];exact h)];rw[if_neg u,if_neg u]))
end
structure TIn(H:Hp)(t:Nat)(hs:List Y)(mp:List (Int×List UInt8)):Prop where
 at_:∃i j d s b sl us com m,LIn H i j d s b sl us com/\H.tx[t]? =some ⟨some j,com,false,m⟩/\H.mp[m]? =some mp/\hs.length=d.now.length-2-s/\
  ∀(k:Nat) (r:List UInt8),hs[k]? =some r->zCG mp (k:Int)=some r\/zCG mp (k:Int)=none/\d.now[2+s+k]? =some r
 row:∀r∈hs,r.length=64
 keys:∀(q:Int) (r:List UInt8),zCG mp q=some r->0<=q/\q<(hs.length:Int)
section
variable {H:Hp}{t:Nat}{hs:List Y}{mp:List (Int×List UInt8)}
theorem TIn.wide(h:TIn H t hs mp){k:Nat}{r:List UInt8}(hk:hs[k]? =some r):r.length=64:=h.row r (wC hk)
theorem TIn.ht(h:TIn H t hs mp):t<H.tx.length:=by obtain⟨⟨i,j,d,s,b,sl,I,com,m,U,u,W,J,Z⟩,_,_⟩:=h;exact(wB.1 u).1
theorem TIn.tell{H':Hp}(h:TIn H t hs mp)(Z:H'.dk=H.dk)(e2:H'.sec=H.sec)(W:H'.lg=H.lg)(e4:H'.tx=H.tx)(J:H'.mp=H.mp):TIn H' t hs mp:=by obtain⟨⟨i,j,d,s,b,sl,U,com,m,u,h2,h3,h4,h5⟩,I,h7⟩:=h;exact⟨⟨i,j,d,s,b,sl,U,com,m,⟨u.dsk.lg Z e2,u.off,by rw[W];exact u.lg,u.s3,u.sl,u.ln,u.bs⟩,by rw[e4];exact h2,by rw[J];exact h3,h4,h5⟩,I,h7⟩
theorem zTE(h:TIn H t hs mp):zBO (some t) H=some 0:=by obtain⟨⟨i,j,d,s,b,sl,U,com,m,u,I,h3,Z,h5⟩,J,W⟩:=h;rw[zJk];show Option.bind (H.tx[t]?) _=_;rw[I,wA];show Option.bind (zAP (some j) H) _=_;rw[zKr u,wA,zD (zGl rfl)];show Option.bind (H.lg[j]?) _=_;rw[u.lg,wA];show(bif com !=com then some 34 else some 0)=_;rw[zD (zGl rfl)]
theorem zOC(h:TIn H t hs mp){k:Nat}{r:List UInt8}(hr:hs[k]? =some r):zAi (some t) (k:Int) H=some (r,0):=by have J:=zTE h;have hw:=h.wide hr;obtain⟨⟨i,j,d,s,b,sl,us,com,m,Z,U,h3,h4,W⟩,h6,h7⟩:=h;rw[zOr];rw[J,wA,zD (zGl rfl)];show Option.bind (H.tx[t]?) _=_;rw[U,wA];show Option.bind (H.mp[m]?) _=_;rw[h3,wA];rcases W k r hr with u|⟨u,I⟩;(rw[u,zK (by rfl)];show Option.bind (zBK r) _=_;unfold zBK;rw[zEI (by rw[uR];omega),wA];rfl);(rw[u,zD (by rfl)];show Option.bind (zDH (some j) (k:Int) H) _=_;rw[n_LRead Z I];rfl)
theorem zQF(h:TIn H t hs mp){k:Nat}(hk:k<hs.length){x:List UInt8}(hx:x.length=64):
 ∃I,zA5 (some t) (k:Int) x H=some (0,I)/\TIn I t (hs.set k x) (mset mp (k:Int) x)/\∃m v,I=H.st_mp m v:=by
 have ha:=zTE h
 obtain⟨⟨i,j,d,s,b,sl,us,com,m,u,J,U,h4,h5⟩,W,h7⟩:=h
 have Z:m<H.mp.length:=(wB.1 U).1
 refine⟨H.st_mp m (mset mp (k:Int) x),?_,⟨⟨i,j,d,s,b,sl,us,com,m,⟨u.dsk.lg rfl rfl,u.off,u.lg,u.s3,u.sl,u.ln,u.bs⟩,J,wQ Z,by rw[vI];exact h4,λq r hq=> ?_⟩,λr hr=> ?_,λq r hq=> ?_⟩,m,_,rfl⟩
 · rw[zOa];rw[ha,wA,zD (zGl rfl),zD (zAW (by omega))];show Option.bind (H.tx[t]?) _=_;rw[J,wA];show Option.bind (yO (some j) H) _=_;rw[zOn u,wA,zD (zAW (by omega)),zD (zGl (by omega))];unfold zBK;rw[zEI (by rw[uR];omega),wA];show Option.bind (H.mp[m]?) _=_;rw[U,wA];rfl
 · rw[mf_ms];by_cases e:q=k;(subst e;rw[wQ hk]at hq;rw[if_pos rfl];exact .inl hq);(rw[vN (by omega)]at hq;rw[if_neg (by omega)];exact h5 q r hq)
 · rcases List.mem_or_eq_of_mem_set hr with hr|rfl;exact W r hr;exact hx
 · rw[vI];rw[mf_ms]at hq;by_cases e:q=k;omega;(rw[if_neg e]at hq;exact h7 q r hq)
end
theorem z_badA{st:Nat}(u:0<st)(I:st<18446744073709551616):¬Valid st Z64:=by intro h;have:=congrArg ofBE (valid_end h);rw[zQR,tQ (by omega),show ofBE (Z64.drop 56)=0 by decide+kernel]at this;omega
theorem n_Begin{H:Hp}{i j:Nat}{d:Dsk}{s b sl I:Nat}{com:Int}(h:LIn H i j d s b sl I com):∃u,zAf (some j) H=some (some H.tx.length,0,u)/\TIn u H.tx.length (d.now.drop (2+s)) []/\u.ix=H.ix:=by have U:=h.sl;let X:zAF:=⟨some j,com,false,H.mp.length⟩;(have J:((H.nw_mp []).nw_tx X).tx[H.tx.length]? =some X:=by show(H.tx++[X])[H.tx.length]? =_;exact uJ);(have Z:((H.nw_mp []).nw_tx X).mp[H.mp.length]? =some []:=by show(H.mp++[[]])[H.mp.length]? =_;exact uJ);refine⟨(H.nw_mp []).nw_tx X,?_,⟨⟨i,j,d,s,b,sl,I,com,H.mp.length,⟨h.dsk.lg rfl rfl,h.off,h.lg,h.s3,h.sl,h.ln,h.bs⟩,J,Z,by rw[uY];omega,λk r hk=> .inr ⟨rfl,by rw[vY]at hk;exact hk⟩⟩,λr hr=> ?_,λq r hq=>by cases hq⟩,rfl⟩;(rw[zJh];rw[zKr h,wA,zD (zGl rfl)];show Option.bind (H.lg[j]?) _=_;rw[h.lg,wA];rfl);(obtain⟨k,hk⟩:=uG hr;rw[vY]at hk;exact h.dsk.row hk)
def Hld{β:Type}(Q:β->Prop)(o:Option β):Prop:=∀r,o=some r->Q r
section
variable {α β:Type}{Q:β->Prop}{R:α->Prop}
theorem hl_n:Hld Q none:=λ_ h=>by cases h
theorem hl_s{r:β}(h:Q r):Hld Q (some r):=λ_ e=>by cases e;exact h
theorem hl_b{x:Option α}{f:α->Option β}(h:∀y,Hld Q (f y)):Hld Q (Option.bind x f):=λr e=>by obtain⟨y,_,e⟩:=bind_some e;exact h y r e
theorem zJT{x:Option α}{f:α->Option β}(hx:Hld R x)(h:∀y,R y->Hld Q (f y)):Hld Q (Option.bind x f):=λr e=>by obtain⟨y,hy,e⟩:=bind_some e;exact h y (hx y hy) r e
theorem hl_i{c:Bool}{a b:Option β}(u:Hld Q a)(hb:Hld Q b):Hld Q (bif c then a else b):=by cases c<;>assumption
theorem hl_p{p:Option Nat}{a:Option β}{f:Nat->Option β}(u:Hld Q a)(hf:∀i,Hld Q (f i)):Hld Q (ptM p a f):=by(cases p with|none=>exact u|some i=>exact hf i)
end
def rst(H:Hp):=(H.ix,H.sp,H.st,H.vw,H.w64,H.sv)
def rs2(H:Hp):=(H.tx,H.mp,rst H)
abbrev Fr{α:Type}(H:Hp)(o:Option (α×Hp)):Prop:=Hld (λr=>rs2 r.2=rs2 H) o
abbrev Fr3{α β:Type}(H:Hp)(o:Option (α×β×Hp)):Prop:=Hld (λr=>rs2 r.2.2=rs2 H) o
theorem fr_burn(p:Option Nat)(H:Hp):Fr H (yN p H):=by rw[zFj];exact hl_p hl_n λ_=>hl_b λ_=>hl_i (hl_s rfl) (hl_s rfl)
theorem zLX(p:Option Nat)(k:Int)(b:List UInt8)(H:Hp):Fr H (zZ p k b H):=by rw[zFP];exact hl_b λ_=>hl_i (hl_s rfl) (hl_i (hl_s rfl) (hl_b λ_=>hl_p hl_n λ_=>hl_b λ_=>hl_b λ_=>hl_b λ_=>hl_b λ_=>hl_b λ_=>zJT (fr_burn _ _) λy hy=>hl_i (hl_s hy) (hl_s hy)))
theorem zNs(k1:Hp->Option (Int×Hp))(H:Hp)(hk:∀H',rs2 H'=rs2 H->Fr H (k1 H'))(x:zP)(p:Option Nat)(i:Nat):∀(n:Nat) (z:Int) (H':Hp),rs2 H'=rs2 H->Fr H (qI k1 x p i n z H')
 |0,_,_,_=>hl_n
 |n+1,z,H',h=>by unfold qI;exact hl_i (hl_b λ_=>hl_b λ_=>hl_b λ_=>hl_b λ_=>hl_b λ_=>zNs k1 H hk x p i n _ _ h) (hk _ h)
theorem zMJ(p:Option Nat)(H:Hp):Fr H (qB p H):=by rw[zFL];exact hl_b λ_=>hl_i (hl_s rfl) (zJT (fr_burn _ _) λy hy=>hl_i (hl_s hy) (hl_p hl_n λ_=>hl_b λ_=>zNs _ H (λu h=>by unfold zBi;exact hl_p hl_n λ_=>hl_b λ_=>hl_s h) _ _ _ _ _ _ hy))
theorem zPT(H:Hp)(ws:List zB)(p:Option Nat):∀(n:Nat) (z:Int) (H':Hp),rs2 H'=rs2 H->Fr H (zAr ws p n z H')
 |0,_,_,_=>hl_n
 |n+1,z,H',h=>by unfold zAr;refine hl_i (hl_b λ_=>hl_p hl_n λ_=>hl_b λ_=>hl_b λ_=>zJT (zLX _ _ _ _) λy hy=>hl_i (hl_s (hy.trans h)) (zPT H ws p n _ _ (hy.trans h))) (hl_s h)
theorem fr_redo(p:Option Nat)(ws:List zB)(H:Hp):Fr H (zBL p ws H):=by rw[zKh];exact zPT H ws p _ _ _ rfl
theorem fr_raise(p:Option Nat)(H:Hp):Fr H (zB6 p H):=by rw[zJW];exact hl_p hl_n λ_=>hl_b λ_=>hl_b λ_=>zJT (zLX _ _ _ _) λy hy=>hl_i (hl_s hy) (hl_b λ_=>zJT (zMJ _ _) λz hz=>hl_i (hl_s (hz.trans hy)) (hl_b λ_=>hl_s (hz.trans hy)))
theorem zMC(p:Option Nat)(H:Hp):Fr H (yY p H):=by rw[zFx];exact hl_b λ_=>hl_i (hl_s rfl) (hl_p hl_n λ_=>hl_b λ_=>hl_i (hl_s rfl) (zJT (zMJ _ _) λy hy=>hl_i (hl_s hy) (zJT (fr_raise _ _) λz hz=>hl_s (hz.trans hy))))
theorem zRk(p:Option Nat)(ws:List zB)(H H':Hp)(h:rs2 H'=rs2 H):Fr H (zAS p ws H'):=by unfold zAS;exact hl_p hl_n λ_=>hl_b λ_=>zJT (zMJ _ _) λy hy=>hl_i (hl_s (hy.trans h)) (hl_b λ_=>zJT (fr_redo _ _ _) λz hz=>hl_s (hz.trans (hy.trans h)))
theorem zM2(H:Hp)(ws:List zB)(u:List zG)(p:Option Nat):∀(n:Nat) (z:Int) (H':Hp),rs2 H'=rs2 H->Fr H (zAN (zAS p ws) u p n z H')
 |0,_,_,_=>hl_n
 |n+1,z,H',h=>by unfold zAN;exact hl_i (hl_b λ_=>hl_p hl_n λ_=>hl_b λ_=>hl_b λ_=>zJT (zLX _ _ _ _) λy hy=>hl_i (hl_s (hy.trans h)) (zM2 H ws u p n _ _ (hy.trans h))) (zRk _ _ _ _ h)
theorem zRf(ws:List zB)(p:Option Nat)(H:Hp):Fr H (qN ws p H):=by(have I:∀u,rs2 u=rs2 H->Fr H (zBI p ws u):=λu h=>by unfold zBI;exact hl_b λ_=>zM2 H ws _ p _ _ _ h);unfold qN;exact hl_p hl_n λ_=>hl_b λ_=>hl_i (hl_s rfl) (hl_i (hl_s rfl) (hl_b λ_=>hl_i (zJT (zMC _ _) λy hy=>hl_i (hl_s hy) (I _ hy)) (I _ rfl)))
theorem fr_Commit(p:Option Nat)(ws:List zB)(H:Hp):Fr H (zAT p ws H):=by(have I:∀(n:Nat) (z:Int),Fr H (qO (λ_=>qN ws p H) ws H p n z):=by intro n;(induction n with|zero=>intro z;exact hl_n|succ n u=>intro z;unfold qO;exact hl_i (hl_b λ_=>hl_i (hl_s rfl) (hl_b λ_=>hl_i (hl_s rfl) (hl_i (hl_s rfl) (u _)))) (zRf _ _ _)));rw[zIR];exact hl_b λ_=>hl_i (hl_s rfl) (I _ _)
theorem fr_Format(p:Option Nat)(s:Int)(H:Hp):Fr H (zBV p s H):=by(have U:∀I,rs2 I=rs2 H->Fr H (zAh p s I):=λI h=>by unfold zAh;exact zJT (zMJ _ _) λy hy=>hl_i (hl_s (hy.trans h)) (hl_b λ_=>zJT (zLX _ _ _ _) λz hz=>hl_i (hl_s (hz.trans (hy.trans h))) (zJT (zMJ _ _) λu W=>hl_s (W.trans (hz.trans (hy.trans h))))));(have Z:∀(n:Nat) (z:Int) (I:Hp),rs2 I=rs2 H->Fr H (zAJ (zAh p s) s p n z I):=by intro n;(induction n with|zero=>intro z I _;exact hl_n|succ n J=>intro z I h;unfold zAJ;exact hl_i (hl_b λ_=>zJT (zLX _ _ _ _) λy hy=>hl_i (hl_s (hy.trans h)) (J _ _ (hy.trans h))) (U _ h)));rw[zJQ];exact hl_b λ_=>hl_i (hl_s rfl) (hl_b λ_=>hl_i (hl_s rfl) (Z _ _ _ rfl))
theorem fr_Open(p:Option Nat)(H:Hp):Fr3 H (zCQ p H):=by(have U:∀u,rs2 u=rs2 H->Fr3 H (qS H u):=λu h=>by unfold qS;exact hl_b λ_=>hl_i (hl_s h) (hl_i (hl_s h) (hl_b λ_=>zJT (fr_redo _ _ _) λy hy=>hl_i (hl_s (hy.trans h)) (zJT (zMC _ _) λz hz=>hl_i (hl_s (hz.trans (hy.trans h))) (hl_s (hz.trans (hy.trans h)))))));(have Z:∀(n:Nat) (z:Int) (u:Hp),rs2 u=rs2 H->Fr3 H (qD (qS H) p H n z u):=by intro n;(induction n with|zero=>intro z u _;exact hl_n|succ n I=>intro z u h;(have J:∀x b,Fr3 H (zC0 (λq=>qD (qS H) p H n q.1 q.2) u H x z b):=λx b=>by unfold zC0;exact hl_i (hl_b λ_=>I _ _ h) (I _ _ h));unfold qD;exact hl_i (hl_b λ_=>hl_i (hl_b λ_=>J _ _) (J _ _)) (U _ h)));rw[zMf];exact hl_b λ_=>hl_i (hl_s rfl) (hl_b λ_=>hl_i (hl_s rfl) (hl_b λ_=>Z _ _ _ rfl))
theorem pb{α β:Type}{o:Option α}{a:α}(h:o=some a)(f:(x:α)->o=some x->Option β):Option.pbind o f=f a h:=by subst h;rfl
theorem u_TCommit{H:Hp}{t:Nat}{x:zAF}{mp:List (Int×List UInt8)}(hx:H.ge_tx t=some x)(J:(H.st_tx t ⟨x.l_,x.at_,true,x.now_⟩).ge_mp x.now_=some mp):zC9 (some t) H=
 (zBO (some t) H).bind λI=>bif (I !=0)then some (I,H)else(zPr mp).bind λu=>zAR (zC8 (some t) t (H.st_tx t ⟨x.l_,x.at_,true,x.now_⟩) ⟨x.l_,x.at_,true,x.now_⟩) u (some t) t (H.st_tx t ⟨x.l_,x.at_,true,x.now_⟩) ⟨x.l_,x.at_,true,x.now_⟩ mp (u.length+1) [] 0:=by
 unfold zC9 zIT
 simp only[rn]
 refine congrArg (Option.bind _) (funext λI=> ?_)
 cases(I !=0)
 case true=>rfl
 show Option.pbind (H.ge_tx t) _=_
 rw[pb hx]
 refine(pb J _).trans ?_
 show Option.bind (zPr mp) _=_
 refine congrArg (Option.bind _) (funext λu=> ?_)
 refine(zLN _ u (some t) t rfl (H.st_tx t ⟨x.l_,x.at_,true,x.now_⟩) ⟨x.l_,x.at_,true,x.now_⟩ (zEZ hx) mp J (u.length+1) ([],0)).trans ?_
 refine congrArg (λk=>zAR k u (some t) t _ _ mp (u.length+1) [] 0) (funext λq=> ?_)
 exact zLA (some t) t rfl (H.st_tx t ⟨x.l_,x.at_,true,x.now_⟩) ⟨x.l_,x.at_,true,x.now_⟩ (zEZ hx) q
theorem zPd:∀(l:List Int),l.Pairwise (· <·)->isI l=l
 |[],_=>rfl
 |[x],_=>rfl
 |x::y::r,h=>by rw[tJ]at h;have e:=zPd (y::r) h.2;show insI x (isI (y::r))=_;rw[e];unfold insI;rw[if_pos (by have:=h.1 y (by simp);omega)]
def wsOf(mp:List (Int×List UInt8)):List zB:=mp.map λp=>⟨p.1,p.2⟩
theorem mf_at:∀{mp:List (Int×List UInt8)},(mp.map (·.1)).Pairwise (· <·)->∀(i:Nat) (p:Int×List UInt8),mp[i]? =some p->zCG mp p.1=some p.2
 |[],_,i,p,h=>by simp at h
 |a::r,hs,0,p,h=>by cases h;rw[zKx,if_pos rfl]
 |a::r,hs,i+1,p,h=>by rw[vB,tJ]at hs;(have h:r[i]? =some p:=by simpa using h);have:=hs.1 p.1 (vQ.2 ⟨p,wC h,rfl⟩);rw[zKx,if_neg (by omega)];exact mf_at hs.2 i p h
theorem zNE{mp:List (Int×List UInt8)}(hs:(mp.map (·.1)).Pairwise (· <·))(hl:mp.length<=10000)(K:List zB->Option (Int×Hp))(p:Option Nat)(t:Nat)(H:Hp)(x:zAF):∀(n k:Nat),k<=mp.length->mp.length-k<n->zAR K (mp.map (·.1)) p t H x mp n (wsOf (mp.take k)) (k:Int)=K (wsOf mp)
 |0,k,_,h=>by omega
 |n+1,k,hk,h=>by unfold zAR;by_cases u:k<mp.length;(have e:=mf_at hs k mp[k] (wF u);(have J:(wsOf (mp.take k)).length<=10000:=by unfold wsOf;simp;omega);rw[zK (zAm (by simp;omega)),zCv (by simpa using u),wA,List.getElem_map,e,zEI (by simp;omega),wA,zCy (by omega)];(have I:wsOf (mp.take k)++[⟨mp[k].1,mp[k].2⟩]=wsOf (mp.take (k+1)):=by unfold wsOf;rw[<-tZ u,sW];rfl);show zAR K _ p t H x mp n (wsOf (mp.take k)++[⟨mp[k].1,mp[k].2⟩]) _=_;rw[I];exact zNE hs hl K p t H x n (k+1) (by omega) (by omega));((have e:k=mp.length:=by omega);subst e;rw[zD (zAW (by simp)),vE (wJ _)])
theorem WIn.tell{H H':Hp}{i j:Nat}{d:Dsk}{s base slot used:Nat}{com:Int}(h:WIn H i j d s base slot used com)(J:H'.dk=H.dk)(I:H'.sec=H.sec)(u:H'.lg=H.lg):WIn H' i j d s base slot used com:=
 ⟨⟨h.dsk.lg J I,h.off,by rw[u];exact h.lg,h.s3,h.sl,h.ln,h.bs⟩,h.fuse⟩
theorem n_TCommit{H:Hp}{i j t m:Nat}{d:Dsk}{s base slot used:Nat}{com:Int}{mp:List (Int×List UInt8)}(h:WIn H i j d s base slot used com)(hx:H.tx[t]? =some ⟨some j,com,false,m⟩)(hm:H.mp[m]? =some mp)(hs:(mp.map (·.1)).Pairwise (· <·))(W:Good s d.now.length (wsOf mp))(h1:0<mp.length)(hl:mp.length<=1000)(hu:used+(2*mp.length+1)<=s)(hw:d.wait.length<=1000):
 ∃J I u,zC9 (some t) H=some (0,J)/\WIn J i j I s base slot (used+(2*mp.length+1)) u/\I.kept=wrs (2+used) (base+used) (zHQ (wsOf mp)) 0 d.now/\I.now=rd s I.kept (wsOf mp)/\I.wait.length<=mp.length/\I.lives=d.lives/\rst J=rst H:=by
 have U:(wsOf mp).length=mp.length:=by unfold wsOf;simp
 have Z:zBO (some t) H=some 0:=by rw[zJk];show Option.bind (H.tx[t]?) _=_;rw[hx,wA];show Option.bind (zAP (some j) H) _=_;rw[zKr h.toLIn,wA,zD (zGl rfl)];show Option.bind (H.lg[j]?) _=_;rw[h.lg,wA];show(bif com !=com then some 34 else some 0)=_;rw[zD (zGl rfl)]
 have ht:=(wB.1 hx).1
 have hk:zPr mp=some (mp.map (·.1)):=by unfold zPr;rw[if_pos ⟨by omega,hs.imp λh=>by omega,λp hp=>by have h3:=W ⟨p.1,p.2⟩ (vQ.2 ⟨p,hp,rfl⟩);have h4:0<=p.1/\p.1<((d.now.length-2-s:Nat):Int):=⟨h3.1,h3.2.1⟩;have:=h.ln;omega⟩,zPd _ hs]
 rw[u_TCommit (x:=⟨some j,com,false,m⟩) hx (mp:=mp) hm,Z,wA,zD (by rfl),hk,wA]
 have e:=zNE hs (by omega) (zC8 (some t) t (H.st_tx t ⟨some j,com,true,m⟩) ⟨some j,com,true,m⟩) (some t) t (H.st_tx t ⟨some j,com,true,m⟩) ⟨some j,com,true,m⟩ ((mp.map (·.1)).length+1) 0 (by omega) (by simp)
 rw[show((0:Nat):Int)=0 from rfl]at e
 have h2:WIn (H.st_tx t ⟨some j,com,true,m⟩) i j d s base slot used com:=h.tell rfl rfl rfl
 obtain⟨J,I,u,g1,g2,g3,g4,g5,g6⟩:=n_Commit h2 W (by omega) (by omega) hw
 have hf:=fr_Commit (some j) (wsOf mp) (H.st_tx t ⟨some j,com,true,m⟩) _ g1
 refine⟨J,I,u,e.trans ?_,by rw[<-U];exact g2,g3,g4,by omega,g6,?_⟩
 · unfold zC8;show Option.bind (zAT (some j) (wsOf mp) _) _=_;rw[g1];rfl
 · exact congrArg (λq=>q.2.2) hf
def ovr(n:Nat):Nat:=(n+511)/512
def gsz(n:Nat):Nat:=1+2*(513+ovr n)
def ghm(n:Nat):Nat:=n-2-gsz n
def gmp(n:Nat):Nat:=ovr (ghm n)
def gfx(n:Nat):Nat:=5+gmp n
def grm(n:Nat):Nat:=ghm n-gfx n
theorem zNK{a b:Nat}:Int.tdiv (a:Int) (b:Int)=((a/b:Nat):Int):=by rw[Int.tdiv_eq_ediv_of_nonneg (by omega)];rfl
theorem n_over{k:Nat}(h:k<=100000):zEm (k:Int)=some (ovr k:Int):=by rw[zRy,yF (z:=(k:Int)+512) (by omega) (by omega),yF (z:=(k:Int)+512-1) (by omega) (by omega),show(k:Int)+512-1=((k+511:Nat):Int) by omega];have:=zNK (a:=k+511) (b:=512);rw[show((512:Nat):Int)=512 from rfl]at this;rw[this,yF (by omega) (by omega)];rfl
theorem n_of{n:Nat}(h:n<=16384):zEi (n:Int)=some ⟨(gsz n:Int),(ghm n:Int),(gmp n:Int)⟩:=by(have U:ovr n<=32:=by unfold ovr;omega);rw[zT0,n_over (by omega),wA];(have I:wi (1+wi (2*wi (513+(ovr n:Int))))=(gsz n:Int):=by rw[yF (z:=513+(ovr n:Int)) (by omega) (by omega),yF (z:=2*(513+(ovr n:Int))) (by omega) (by omega),yF (by omega) (by omega)];unfold gsz;omega);(have J:gsz n<=2000:=by unfold gsz;omega);(have u:(if 0>wi (wi ((n:Int)-2)-(gsz n:Int))then 0 else wi (wi ((n:Int)-2)-(gsz n:Int)))=(ghm n:Int):=by rw[yF (z:=(n:Int)-2) (by omega) (by omega),yF (by omega) (by omega)];unfold ghm;split<;>omega);rw[I,u,n_over (by unfold ghm;omega),wA];rfl
theorem n_table{a b:Nat}{c:Nat}(h:c<=100):zAC ⟨(a:Int),(b:Int),(c:Int)⟩=some ((1+c:Nat):Int):=by rw[zIk,yF (by show-9223372036854775808<=1+(c:Int);omega) (by show 1+(c:Int)<=_;omega)];congr 1
theorem zQj{a b c:Nat}(h:c<=100):zY ⟨(a:Int),(b:Int),(c:Int)⟩=some ((5+c:Nat):Int):=by rw[zIg,n_table h,wA,yF (by omega) (by omega)];congr 1;omega
theorem zSN{a b c:Nat}(h:c<=100)(hb:b<=16384):yB ⟨(a:Int),(b:Int),(c:Int)⟩=some ((b:Int)-((5+c:Nat):Int)):=by rw[zJc,zQj h,wA];show some (wi ((b:Int)-((5+c:Nat):Int)))=_;rw[yF (by omega) (by omega)]
theorem gmp_le{n:Nat}(h:n<=16384):gmp n<=32/\ghm n<=16384:=by unfold gmp ghm ovr;omega
def zRE(z:Int):Nat:=if 1<=z/\z<=16384 then grm z.toNat else 0
theorem n_Room(z:Int):zCY z=some (zRE z:Int):=by rw[zQ9];unfold zRE;by_cases I:z<1;rw[zK (zAm I),if_neg (by omega)];rfl;rw[zD (zAW I)];by_cases u:z>16384;rw[zK (zAm u),if_neg (by omega)];rfl;rw[zD (zAW u),if_pos (by omega)];obtain⟨n,rfl⟩:=uL (show 0<=z by omega);(have hn:n<=16384:=by omega);obtain⟨U,J⟩:=gmp_le hn;rw[n_of hn,wA,zSN (by omega) J,wA];congr 1;rw[wR];unfold grm gfx;split<;>omega
theorem zP6(z:Int):zEh z=some (zRE z:Int):=by rw[zUF];unfold zRE;by_cases J:z<1;rw[zK (zAm J),if_neg (by omega)];rfl;rw[zD (zAW J)];by_cases u:z>16384;rw[zK (zAm u),if_neg (by omega)];rfl;rw[zD (zAW u),if_pos (by omega)];obtain⟨n,rfl⟩:=uL (show 0<=z by omega);(have hn:n<=16384:=by omega);(have ho:ovr n<=32:=by unfold ovr;omega);(have Z:wi (Int.tdiv (wi ((n:Int)+511)) 512)=(ovr n:Int):=by rw[yF (z:=(n:Int)+511) (by omega) (by omega),show(n:Int)+511=((n+511:Nat):Int) by omega];have:=zNK (a:=n+511) (b:=512);rw[show((512:Nat):Int)=512 from rfl]at this;rw[this,yF (by omega) (by omega)];rfl);(have e2:wi (wi ((n:Int)-3)-wi (2*wi (513+wi (Int.tdiv (wi ((n:Int)+511)) 512))))=(n:Int)-2-(gsz n:Int):=by rw[Z,yF (z:=(n:Int)-3) (by omega) (by omega),yF (z:=513+(ovr n:Int)) (by omega) (by omega),yF (z:=2*(513+(ovr n:Int))) (by omega) (by omega),yF (by omega) (by omega)];unfold gsz;omega);rw[e2,wR];by_cases U:(n:Int)-2-(gsz n:Int)<1;(rw[zK (zAm U)];(have:ghm n=0:=by unfold ghm;omega);unfold grm;rw[this];simp);rw[zD (zAW U)];(have hh:(n:Int)-2-(gsz n:Int)=(ghm n:Int):=by unfold ghm;omega);obtain⟨g1,g2⟩:=gmp_le hn;(have W:wi (wi ((ghm n:Int)-5)-wi (Int.tdiv (wi ((ghm n:Int)+511)) 512))=(ghm n:Int)-(gfx n:Int):=by rw[yF (z:=(ghm n:Int)-5) (by omega) (by omega),yF (z:=(ghm n:Int)+511) (by omega) (by omega),show(ghm n:Int)+511=((ghm n+511:Nat):Int) by omega];have:=zNK (a:=ghm n+511) (b:=512);rw[show((512:Nat):Int)=512 from rfl]at this;rw[this,yF (z:=(((ghm n+511)/512:Nat):Int)) (by omega) (by omega),yF (by omega) (by omega)];unfold gfx gmp ovr;omega);rw[hh,W];unfold grm;by_cases I:(ghm n:Int)-(gfx n:Int)<0;(rw[zK (zAm I)];exact congrArg some (by omega));(rw[zD (zAW I)];exact congrArg some (by omega))
end Go.Proofs.YtocolhfjpadaoaaGreatDoor
