/-
  Lemmas of this claim, joined.
-/
import Derived.Test.YtocolhfjpadaoaaGreatDoorU11
set_option linter.unusedVariables false
set_option linter.unusedSimpArgs false
set_option linter.constructorNameAsVariable false
namespace Go.Proofs.YtocolhfjpadaoaaGreatDoor
open Go
abbrev uD:=@List.not_mem_nil
end Go.Proofs.YtocolhfjpadaoaaGreatDoor
namespace Go.Proofs.YtocolhfjpadaoaaGreatDoor
open Go Go.RowKit
variable {P:Program}{w0:World}{w:World}{m0:Mem}{m:Mem}{o0:OwnM}{o:OwnM}{G:GD}{pins:List Nat}{N:Nat}{a:Act}{op:Oper}{S:Nat->A}{M:Nat->A}{L:SL}{v:Value}{W:World}{Q:Mem}{X:OwnM}
set_option maxRecDepth 20000
noncomputable section
structure qU where
 n_:Int
 b_:Y
structure qF where
 kept_:(Nat×Nat)
 now_:(Nat×Nat)
 wait_:(List qU)
 fuse_:Int
 off_:Bool
 lives_:Int
abbrev zCM(x:Y):List D:=ar cU8 (0:UInt8) x 0 64
abbrev zBu(x:qU):List D:=[D.lit (.int .i64 x.n_)]++ar cU8 (0:UInt8) x.b_ 0 64
structure qV where
 d_:O
 size_:Int
 base_:Int
 slot_:Int
 used_:Int
 life_:Int
 commits_:Int
structure zBH where
 l_:O
 at_:Int
 over_:Bool
 now_:Nat
structure zBK where
 t_:O
 table_:Int
structure qR where
 n_:Int
 free_:Int
 l_:(Nat×Nat)
 is_:Bool
structure qB where
 size_:Int
 homes_:Int
 maps_:Int
structure qJ where
 geometry_:qB
 l_:O
structure zT where
 count_:Int
 quota_:Int
 bytes_:Int
 keys_:Int
structure qE where
 s_:O
 t_:O
 x_:O
 h_:zT
 p_:O
structure yK where
 d_:O
 s_:O
abbrev zTh(i:Nat)(x:qF):List T:=[.hvw (cd 2 x.kept_.1) 0 236 64 x.kept_.2,.hvw (cd 2 x.now_.1) 0 236 64 x.now_.2,.own 238 65 (List.map zBu x.wait_),iT x.fuse_,bT' x.off_,iT x.lives_]
abbrev zVc(i:Nat)(x:qV):List T:=[.opt 1 x.d_,iT x.size_,iT x.base_,iT x.slot_,iT x.used_,iT x.life_,iT x.commits_]
abbrev zVP(i:Nat)(x:zBH):List T:=[.opt 3 x.l_,iT x.at_,bT' x.over_,.mpt (OB+cd 6 x.now_)]
abbrev zXy(i:Nat)(x:zBK):List T:=[.opt 5 x.t_,iT x.table_]
abbrev zVj(i:Nat)(x:qR):List T:=[iT x.n_,iT x.free_,.hvw (cd 9 x.l_.1) 0 299 1 x.l_.2,bT' x.is_]
abbrev zWF(i:Nat)(x:qJ):List T:=[iT x.geometry_.size_,iT x.geometry_.homes_,iT x.geometry_.maps_,.opt 3 x.l_]
abbrev zVe(i:Nat)(x:qE):List T:=[.opt 10 x.s_,.opt 5 x.t_,.opt 7 x.x_,iT x.h_.count_,iT x.h_.quota_,iT x.h_.bytes_,iT x.h_.keys_,.opt 8 x.p_]
abbrev zXU(i:Nat)(x:yK):List T:=[.opt 1 x.d_,.opt 10 x.s_]
abbrev zRf(_:Nat)(x:List Y):List T:=fl (dT zCM) x
abbrev zSE(_:Nat)(x:List Int):List T:=fl (dT (cInt .u64)) x
structure Hp where
 dk:List qF
 lg:List qV
 tx:List zBH
 ix:List zBK
 sp:List qR
 st:List qJ
 vw:List qE
 sv:List yK
 sec:List (List Y)
 w64:List (List Int)
 mp:List (List (Int×Y))
def Hp.e:Hp:=⟨[],[],[],[],[],[],[],[],[],[],[]⟩
abbrev Hp.ge_dk(H:Hp)(i:Nat):Option qF:=H.dk[i]?
def Hp.st_dk(H:Hp)(i:Nat)(x:qF):Hp:={H with dk:=H.dk.set i x}
def Hp.nw_dk(H:Hp)(x:qF):Hp:={H with dk:=H.dk++[x]}
abbrev Hp.ln_dk(H:Hp):Nat:=H.dk.length
abbrev Hp.ge_lg(H:Hp)(i:Nat):Option qV:=H.lg[i]?
def Hp.st_lg(H:Hp)(i:Nat)(x:qV):Hp:={H with lg:=H.lg.set i x}
def Hp.nw_lg(H:Hp)(x:qV):Hp:={H with lg:=H.lg++[x]}
abbrev Hp.ln_lg(H:Hp):Nat:=H.lg.length
abbrev Hp.ge_tx(H:Hp)(i:Nat):Option zBH:=H.tx[i]?
def Hp.st_tx(H:Hp)(i:Nat)(x:zBH):Hp:={H with tx:=H.tx.set i x}
def Hp.nw_tx(H:Hp)(x:zBH):Hp:={H with tx:=H.tx++[x]}
abbrev Hp.ln_tx(H:Hp):Nat:=H.tx.length
abbrev Hp.ge_ix(H:Hp)(i:Nat):Option zBK:=H.ix[i]?
def Hp.nw_ix(H:Hp)(x:zBK):Hp:={H with ix:=H.ix++[x]}
abbrev Hp.ln_ix(H:Hp):Nat:=H.ix.length
abbrev Hp.ge_sp(H:Hp)(i:Nat):Option qR:=H.sp[i]?
def Hp.st_sp(H:Hp)(i:Nat)(x:qR):Hp:={H with sp:=H.sp.set i x}
def Hp.nw_sp(H:Hp)(x:qR):Hp:={H with sp:=H.sp++[x]}
abbrev Hp.ln_sp(H:Hp):Nat:=H.sp.length
abbrev Hp.ge_st(H:Hp)(i:Nat):Option qJ:=H.st[i]?
def Hp.st_st(H:Hp)(i:Nat)(x:qJ):Hp:={H with st:=H.st.set i x}
def Hp.nw_st(H:Hp)(x:qJ):Hp:={H with st:=H.st++[x]}
abbrev Hp.ln_st(H:Hp):Nat:=H.st.length
abbrev Hp.ge_vw(H:Hp)(i:Nat):Option qE:=H.vw[i]?
def Hp.st_vw(H:Hp)(i:Nat)(x:qE):Hp:={H with vw:=H.vw.set i x}
def Hp.nw_vw(H:Hp)(x:qE):Hp:={H with vw:=H.vw++[x]}
abbrev Hp.ln_vw(H:Hp):Nat:=H.vw.length
abbrev Hp.ge_sv(H:Hp)(i:Nat):Option yK:=H.sv[i]?
def Hp.nw_sv(H:Hp)(x:yK):Hp:={H with sv:=H.sv++[x]}
abbrev Hp.ln_sv(H:Hp):Nat:=H.sv.length
abbrev Hp.ge_sec(H:Hp)(i:Nat):Option (List Y):=H.sec[i]?
def Hp.st_sec(H:Hp)(i:Nat)(x:List Y):Hp:={H with sec:=H.sec.set i x}
def Hp.nw_sec(H:Hp)(x:List Y):Hp:={H with sec:=H.sec++[x]}
abbrev Hp.ln_sec(H:Hp):Nat:=H.sec.length
abbrev Hp.ge_w64(H:Hp)(i:Nat):Option (List Int):=H.w64[i]?
def Hp.st_w64(H:Hp)(i:Nat)(x:List Int):Hp:={H with w64:=H.w64.set i x}
def Hp.nw_w64(H:Hp)(x:List Int):Hp:={H with w64:=H.w64++[x]}
abbrev Hp.ln_w64(H:Hp):Nat:=H.w64.length
abbrev Hp.ge_mp(H:Hp)(i:Nat):Option (List (Int×Y)):=H.mp[i]?
def Hp.st_mp(H:Hp)(i:Nat)(x:(List (Int×Y))):Hp:={H with mp:=H.mp.set i x}
def Hp.nw_mp(H:Hp)(x:(List (Int×Y))):Hp:={H with mp:=H.mp++[x]}
abbrev Hp.ln_mp(H:Hp):Nat:=H.mp.length
def hpT(H:Hp):Nat->Nat->A
 |1,i=>arA H.dk zTh i
 |2,i=>arA H.sec zRf i
 |3,i=>arA H.lg zVc i
 |5,i=>arA H.tx zVP i
 |6,i=>arM (λz:Int=>Value.int .i64 z) (λl:List UInt8=>D.seq 1 (zV l)) H.mp i
 |7,i=>arA H.ix zXy i
 |8,i=>arA H.sp zVj i
 |9,i=>arA H.w64 zSE i
 |10,i=>arA H.st zWF i
 |11,i=>arA H.vw zVe i
 |12,i=>arA H.sv zXU i
 |_,_=> .free
def hpA(H:Hp):Nat->A:=hpF (hpT H)
theorem zMa{H:Hp}{i:Nat}{x:qF}(h:H.ge_dk i=some x):hpA H (cd 1 i)=(.box (zTh i x)):=(zCm (by decide)).trans (zFl h)
theorem su_dk{H:Hp}{i:Nat}{x x':qF}(h:H.ge_dk i=some x):hpA (H.st_dk i x')=updF (hpA H) (cd 1 i) (.box (zTh i x')):=by refine zBe (by decide) (zOA h) λI j u=> ?_;(match I with|1=>exact zOD λe=>u ⟨rfl,e⟩|0|2|3|4|5|6|7|8|9|10|11|12=>exact rfl|k+13=>rfl)
theorem su2_dk{H:Hp}{i:Nat}{x x':qF}{y:A}(h:H.ge_dk i=some x):hpA (H.st_dk i x')=updF (updF (hpA H) (cd 1 i) y) (cd 1 i) (.box (zTh i x')):=by rw[su_dk h];funext k;unfold updF;split<;>rfl
theorem fr_dk(H:Hp):hpA H (cd 1 H.ln_dk)= .free:=(zCm (by decide)).trans zEM
theorem nw_dk(H:Hp)(x:qF):hpA (H.nw_dk x)=updF (hpA H) (cd 1 H.ln_dk) (.box (zTh H.ln_dk x)):=by refine zBe (by decide) zGd λI j u=> ?_;(match I with|1=>exact zGK λe=>u ⟨rfl,e⟩|0|2|3|4|5|6|7|8|9|10|11|12=>exact rfl|k+13=>rfl)
theorem zAm{H:Hp}{i:Nat}{x:qV}(h:H.ge_lg i=some x):hpA H (cd 3 i)=(.box (zVc i x)):=(zCm (by decide)).trans (zFl h)
theorem zUZ{H:Hp}{i:Nat}{x x':qV}(h:H.ge_lg i=some x):hpA (H.st_lg i x')=updF (hpA H) (cd 3 i) (.box (zVc i x')):=by refine zBe (by decide) (zOA h) λI j u=> ?_;(match I with|3=>exact zOD λe=>u ⟨rfl,e⟩|0|1|2|4|5|6|7|8|9|10|11|12=>exact rfl|k+13=>rfl)
theorem fr_lg(H:Hp):hpA H (cd 3 H.ln_lg)= .free:=(zCm (by decide)).trans zEM
theorem nw_lg(H:Hp)(x:qV):hpA (H.nw_lg x)=updF (hpA H) (cd 3 H.ln_lg) (.box (zVc H.ln_lg x)):=by refine zBe (by decide) zGd λI j u=> ?_;(match I with|3=>exact zGK λe=>u ⟨rfl,e⟩|0|1|2|4|5|6|7|8|9|10|11|12=>exact rfl|k+13=>rfl)
theorem zLN{H:Hp}{i:Nat}{x:zBH}(h:H.ge_tx i=some x):hpA H (cd 5 i)=(.box (zVP i x)):=(zCm (by decide)).trans (zFl h)
theorem su_tx{H:Hp}{i:Nat}{x x':zBH}(h:H.ge_tx i=some x):hpA (H.st_tx i x')=updF (hpA H) (cd 5 i) (.box (zVP i x')):=by refine zBe (by decide) (zOA h) λI j u=> ?_;(match I with|5=>exact zOD λe=>u ⟨rfl,e⟩|0|1|2|3|4|6|7|8|9|10|11|12=>exact rfl|k+13=>rfl)
theorem fr_tx(H:Hp):hpA H (cd 5 H.ln_tx)= .free:=(zCm (by decide)).trans zEM
theorem nw_tx(H:Hp)(x:zBH):hpA (H.nw_tx x)=updF (hpA H) (cd 5 H.ln_tx) (.box (zVP H.ln_tx x)):=by refine zBe (by decide) zGd λI j u=> ?_;(match I with|5=>exact zGK λe=>u ⟨rfl,e⟩|0|1|2|3|4|6|7|8|9|10|11|12=>exact rfl|k+13=>rfl)
theorem zVa{H:Hp}{i:Nat}{x:zBK}(h:H.ge_ix i=some x):hpA H (cd 7 i)=(.box (zXy i x)):=(zCm (by decide)).trans (zFl h)
theorem fr_ix(H:Hp):hpA H (cd 7 H.ln_ix)= .free:=(zCm (by decide)).trans zEM
theorem nw_ix(H:Hp)(x:zBK):hpA (H.nw_ix x)=updF (hpA H) (cd 7 H.ln_ix) (.box (zXy H.ln_ix x)):=by refine zBe (by decide) zGd λI j u=> ?_;(match I with|7=>exact zGK λe=>u ⟨rfl,e⟩|0|1|2|3|4|5|6|8|9|10|11|12=>exact rfl|k+13=>rfl)
theorem zLH{H:Hp}{i:Nat}{x:qR}(h:H.ge_sp i=some x):hpA H (cd 8 i)=(.box (zVj i x)):=(zCm (by decide)).trans (zFl h)
theorem su_sp{H:Hp}{i:Nat}{x x':qR}(h:H.ge_sp i=some x):hpA (H.st_sp i x')=updF (hpA H) (cd 8 i) (.box (zVj i x')):=by refine zBe (by decide) (zOA h) λI j u=> ?_;(match I with|8=>exact zOD λe=>u ⟨rfl,e⟩|0|1|2|3|4|5|6|7|9|10|11|12=>exact rfl|k+13=>rfl)
theorem fr_sp(H:Hp):hpA H (cd 8 H.ln_sp)= .free:=(zCm (by decide)).trans zEM
theorem nw_sp(H:Hp)(x:qR):hpA (H.nw_sp x)=updF (hpA H) (cd 8 H.ln_sp) (.box (zVj H.ln_sp x)):=by refine zBe (by decide) zGd λI j u=> ?_;(match I with|8=>exact zGK λe=>u ⟨rfl,e⟩|0|1|2|3|4|5|6|7|9|10|11|12=>exact rfl|k+13=>rfl)
theorem zIc{H:Hp}{i:Nat}{x:qJ}(h:H.ge_st i=some x):hpA H (cd 10 i)=(.box (zWF i x)):=(zCm (by decide)).trans (zFl h)
theorem su_st{H:Hp}{i:Nat}{x x':qJ}(h:H.ge_st i=some x):hpA (H.st_st i x')=updF (hpA H) (cd 10 i) (.box (zWF i x')):=by refine zBe (by decide) (zOA h) λI j u=> ?_;(match I with|10=>exact zOD λe=>u ⟨rfl,e⟩|0|1|2|3|4|5|6|7|8|9|11|12=>exact rfl|k+13=>rfl)
theorem fr_st(H:Hp):hpA H (cd 10 H.ln_st)= .free:=(zCm (by decide)).trans zEM
theorem nw_st(H:Hp)(x:qJ):hpA (H.nw_st x)=updF (hpA H) (cd 10 H.ln_st) (.box (zWF H.ln_st x)):=by refine zBe (by decide) zGd λI j u=> ?_;(match I with|10=>exact zGK λe=>u ⟨rfl,e⟩|0|1|2|3|4|5|6|7|8|9|11|12=>exact rfl|k+13=>rfl)
theorem zDG{H:Hp}{i:Nat}{x:qE}(h:H.ge_vw i=some x):hpA H (cd 11 i)=(.box (zVe i x)):=(zCm (by decide)).trans (zFl h)
theorem su_vw{H:Hp}{i:Nat}{x x':qE}(h:H.ge_vw i=some x):hpA (H.st_vw i x')=updF (hpA H) (cd 11 i) (.box (zVe i x')):=by refine zBe (by decide) (zOA h) λI j u=> ?_;(match I with|11=>exact zOD λe=>u ⟨rfl,e⟩|0|1|2|3|4|5|6|7|8|9|10|12=>exact rfl|k+13=>rfl)
theorem fr_vw(H:Hp):hpA H (cd 11 H.ln_vw)= .free:=(zCm (by decide)).trans zEM
theorem nw_vw(H:Hp)(x:qE):hpA (H.nw_vw x)=updF (hpA H) (cd 11 H.ln_vw) (.box (zVe H.ln_vw x)):=by refine zBe (by decide) zGd λI j u=> ?_;(match I with|11=>exact zGK λe=>u ⟨rfl,e⟩|0|1|2|3|4|5|6|7|8|9|10|12=>exact rfl|k+13=>rfl)
theorem gl_sv{H:Hp}{i:Nat}{x:yK}(h:H.ge_sv i=some x):hpA H (cd 12 i)=(.box (zXU i x)):=(zCm (by decide)).trans (zFl h)
theorem fr_sv(H:Hp):hpA H (cd 12 H.ln_sv)= .free:=(zCm (by decide)).trans zEM
theorem nw_sv(H:Hp)(x:yK):hpA (H.nw_sv x)=updF (hpA H) (cd 12 H.ln_sv) (.box (zXU H.ln_sv x)):=by refine zBe (by decide) zGd λI j u=> ?_;(match I with|12=>exact zGK λe=>u ⟨rfl,e⟩|0|1|2|3|4|5|6|7|8|9|10|11=>exact rfl|k+13=>rfl)
theorem zW4{H:Hp}{i:Nat}{x:(List Y)}(h:H.ge_sec i=some x):hpA H (cd 2 i)=(.box (zRf i x)):=(zCm (by decide)).trans (zFl h)
theorem su_sec{H:Hp}{i:Nat}{x x':(List Y)}(h:H.ge_sec i=some x):hpA (H.st_sec i x')=updF (hpA H) (cd 2 i) (.box (zRf i x')):=by refine zBe (by decide) (zOA h) λI j u=> ?_;(match I with|2=>exact zOD λe=>u ⟨rfl,e⟩|0|1|3|4|5|6|7|8|9|10|11|12=>exact rfl|k+13=>rfl)
theorem fr_sec(H:Hp):hpA H (cd 2 H.ln_sec)= .free:=(zCm (by decide)).trans zEM
theorem nw_sec(H:Hp)(x:List Y):hpA (H.nw_sec x)=updF (hpA H) (cd 2 H.ln_sec) (.box (zRf H.ln_sec x)):=by refine zBe (by decide) zGd λI j u=> ?_;(match I with|2=>exact zGK λe=>u ⟨rfl,e⟩|0|1|3|4|5|6|7|8|9|10|11|12=>exact rfl|k+13=>rfl)
theorem zQe{H:Hp}{i:Nat}{x:(List Int)}(h:H.ge_w64 i=some x):hpA H (cd 9 i)=(.box (zSE i x)):=(zCm (by decide)).trans (zFl h)
theorem su_w64{H:Hp}{i:Nat}{x x':(List Int)}(h:H.ge_w64 i=some x):hpA (H.st_w64 i x')=updF (hpA H) (cd 9 i) (.box (zSE i x')):=by refine zBe (by decide) (zOA h) λI j u=> ?_;(match I with|9=>exact zOD λe=>u ⟨rfl,e⟩|0|1|2|3|4|5|6|7|8|10|11|12=>exact rfl|k+13=>rfl)
theorem fr_w64(H:Hp):hpA H (cd 9 H.ln_w64)= .free:=(zCm (by decide)).trans zEM
theorem nw_w64(H:Hp)(x:List Int):hpA (H.nw_w64 x)=updF (hpA H) (cd 9 H.ln_w64) (.box (zSE H.ln_w64 x)):=by refine zBe (by decide) zGd λI j u=> ?_;(match I with|9=>exact zGK λe=>u ⟨rfl,e⟩|0|1|2|3|4|5|6|7|8|10|11|12=>exact rfl|k+13=>rfl)
theorem gl_mp{H:Hp}{i:Nat}{x:(List (Int×Y))}(h:H.ge_mp i=some x):hpA H (cd 6 i)=(mpA (λz:Int=>Value.int .i64 z) (λl:List UInt8=>D.seq 1 (zV l)) x):=(zCm (by decide)).trans (arM_get h)
theorem su_mp{H:Hp}{i:Nat}{x x':(List (Int×Y))}(h:H.ge_mp i=some x):hpA (H.st_mp i x')=updF (hpA H) (cd 6 i) (mpA (λz:Int=>Value.int .i64 z) (λl:List UInt8=>D.seq 1 (zV l)) x'):=by refine zBe (by decide) (arM_eq h) λI j u=> ?_;(match I with|6=>exact arM_ne λe=>u ⟨rfl,e⟩|0|1|2|3|4|5|7|8|9|10|11|12=>exact rfl|k+13=>rfl)
theorem fr_mp(H:Hp):hpA H (cd 6 H.ln_mp)= .free:=(zCm (by decide)).trans arM_free
theorem nw_mp(H:Hp)(x:(List (Int×Y))):hpA (H.nw_mp x)=updF (hpA H) (cd 6 H.ln_mp) (mpA (λz:Int=>Value.int .i64 z) (λl:List UInt8=>D.seq 1 (zV l)) x):=by refine zBe (by decide) arM_new λI j u=> ?_;(match I with|6=>exact arM_old λe=>u ⟨rfl,e⟩|0|1|2|3|4|5|7|8|9|10|11|12=>exact rfl|k+13=>rfl)
theorem zWc(H:Hp):zCO (hpA H):=hpF_pure λt i l h=>by(match t,h with|0,h=>exact nomatch h|1,h=>exact zEJ (f:=zTh) (λi x y hy=>by simp only[zTh,vD,uD,or_false]at hy;rcases hy with rfl|rfl|rfl|rfl|rfl|rfl<;>first|rfl|exact zJS _ _) l h|2,h=>exact zEJ (f:=zRf) (λi x=>fl_loc _ _) l h|3,h=>exact zEJ (f:=zVc) (λi x y hy=>by simp only[zVc,vD,uD,or_false]at hy;rcases hy with rfl|rfl|rfl|rfl|rfl|rfl|rfl<;>first|rfl|exact zJS _ _) l h|4,h=>exact nomatch h|5,h=>exact zEJ (f:=zVP) (λi x y hy=>by simp only[zVP,vD,uD,or_false]at hy;rcases hy with rfl|rfl|rfl|rfl<;>first|rfl|exact zJS _ _|exact mpt_loc _) l h|6,h=>exact arM_pure h|7,h=>exact zEJ (f:=zXy) (λi x y hy=>by simp only[zXy,vD,uD,or_false]at hy;rcases hy with rfl|rfl<;>first|rfl|exact zJS _ _) l h|8,h=>exact zEJ (f:=zVj) (λi x y hy=>by simp only[zVj,vD,uD,or_false]at hy;rcases hy with rfl|rfl|rfl|rfl<;>first|rfl|exact zJS _ _) l h|9,h=>exact zEJ (f:=zSE) (λi x=>fl_loc _ _) l h|10,h=>exact zEJ (f:=zWF) (λi x y hy=>by simp only[zWF,vD,uD,or_false]at hy;rcases hy with rfl|rfl|rfl|rfl<;>first|rfl|exact zJS _ _) l h|11,h=>exact zEJ (f:=zVe) (λi x y hy=>by simp only[zVe,vD,uD,or_false]at hy;rcases hy with rfl|rfl|rfl|rfl|rfl|rfl|rfl|rfl<;>first|rfl|exact zJS _ _) l h|12,h=>exact zEJ (f:=zXU) (λi x y hy=>by simp only[zXU,vD,uD,or_false]at hy;rcases hy with rfl|rfl<;>first|rfl|exact zJS _ _) l h|k+13,h=>exact nomatch h)
theorem san_hpA(H:Hp)(c:Nat):san (hpA H c)=hpA H c:=by show san (hpT H (c %64) (c/64))=hpT H (c %64) (c/64);generalize c %64=t;(match t with|1=>exact zGc _ _ _|2=>exact zGc _ _ _|3=>exact zGc _ _ _|5=>exact zGc _ _ _|6=>exact san_arM _ _ _ _|7=>exact zGc _ _ _|8=>exact zGc _ _ _|9=>exact zGc _ _ _|10=>exact zGc _ _ _|11=>exact zGc _ _ _|12=>exact zGc _ _ _|0|4=>exact rfl|k+13=>rfl)
theorem rn_hpA(H:Hp)(j c k:Nat):rnA j c (hpA H k)=hpA H k:=rn_pure (λl e=>zWc H k l e) (san_hpA H k) j c
theorem hpA_e(c:Nat):san (hpA Hp.e c)= .free:=by rw[san_hpA];show hpT Hp.e (c %64) (c/64)= .free;generalize c %64=t;(match t with|0|1|2|3|4|5|6|7|8|9|10|11|12=>exact rfl|k+13=>rfl)
abbrev kH(H:Hp):Nat×A:=(HK,.hp (hpA H))
instance (H:Hp):PuH (hpA H):=⟨zWc H⟩
theorem nc_hpA(H:Hp):NC (hpA H):=by refine NC_hpF (λi=>rfl) (λt i l h=> ?_) (λt i b u J I h=> ?_);(match t,h with|0,h=>exact nomatch h|1,h=>exact zGR (f:=zTh) (λi x=>by(repeat(first|exact zCu|refine zMF ?_|refine zHb ?_|refine zHu rfl ?_|refine zI7 (by decide) ?_|refine zJo (by decide) ?_))) h|2,h=>exact zGR (f:=zRf) (λi x=>nz_fl _ _) h|3,h=>exact zGR (f:=zVc) (λi x=>by(repeat(first|exact zCu|refine zMF ?_|refine zHb ?_|refine zHu rfl ?_|refine zI7 (by decide) ?_|refine zJo (by decide) ?_))) h|4,h=>exact nomatch h|5,h=>exact zGR (f:=zVP) (λi x=>by(repeat(first|exact zCu|refine zMF ?_|refine zHb ?_|refine zHu rfl ?_|refine zI7 (by decide) ?_|refine zJo (by decide) ?_))) h|6,h=>exact(arM_nbox h).elim|7,h=>exact zGR (f:=zXy) (λi x=>by(repeat(first|exact zCu|refine zMF ?_|refine zHb ?_|refine zHu rfl ?_|refine zI7 (by decide) ?_|refine zJo (by decide) ?_))) h|8,h=>exact zGR (f:=zVj) (λi x=>by(repeat(first|exact zCu|refine zMF ?_|refine zHb ?_|refine zHu rfl ?_|refine zI7 (by decide) ?_|refine zJo (by decide) ?_))) h|9,h=>exact zGR (f:=zSE) (λi x=>nz_fl _ _) h|10,h=>exact zGR (f:=zWF) (λi x=>by(repeat(first|exact zCu|refine zMF ?_|refine zHb ?_|refine zHu rfl ?_|refine zI7 (by decide) ?_|refine zJo (by decide) ?_))) h|11,h=>exact zGR (f:=zVe) (λi x=>by(repeat(first|exact zCu|refine zMF ?_|refine zHb ?_|refine zHu rfl ?_|refine zI7 (by decide) ?_|refine zJo (by decide) ?_))) h|12,h=>exact zGR (f:=zXU) (λi x=>by(repeat(first|exact zCu|refine zMF ?_|refine zHb ?_|refine zHu rfl ?_|refine zI7 (by decide) ?_|refine zJo (by decide) ?_))) h|k+13,h=>exact nomatch h);(match t,h with|0,h=>exact nomatch h|1,h=>exact zGN h|2,h=>exact zGN h|3,h=>exact zGN h|4,h=>exact nomatch h|5,h=>exact zGN h|6,h=>exact arM_nrcd h|7,h=>exact zGN h|8,h=>exact zGN h|9,h=>exact zGN h|10,h=>exact zGN h|11,h=>exact zGN h|12,h=>exact zGN h|k+13,h=>exact nomatch h)
structure zAj where
 home_:Int
 off_:Int
structure yO where
 Key:Y
 Version:Int
 Len:Int
 First:Int
structure qM where
 Entry:yO
 next_:Int
structure zA2 where
 home_:Int
 data_:Y
structure zNo where
 Version:Int
 Data:Y
structure zD where
 b_:Y
 e_:Int
structure zAF where
 Err:Int
 Version:Int
 Data:Y
 Keys:(List Y)
structure zJ where
 Kind:Int
 Key:Y
 Version:Int
 Size:Int
structure zF where
 Kind:Int
 Key:Y
 Version:Int
 Data:Y
structure zB where
 Kind:Int
 User:Y
 Number:Int
 Key:Y
 Wants:(List zJ)
 Changes:(List zF)
abbrev zG(x:zJ):List D:=[iD x.Kind,sD x.Key,iD x.Version,iD x.Size]
abbrev zC(x:zF):List D:=[iD x.Kind,sD x.Key,iD x.Version,yD x.Data]
structure zZ where
 Home:Int
 Data:Y
abbrev zO(x:zZ):List D:=[iD x.Home,yD x.Data]
structure yB where
 kind_:Int
 number_:Int
 data_:Y
 ok_:Bool
abbrev zAQ(x:yB):List D:=[iD x.kind_,iD x.number_,yD x.data_,bD x.ok_]
structure qH where
 From:Int
 Len:Int
abbrev qW(x:qH):List D:=[iD x.From,iD x.Len]
def zHZ(I J:Y)(u:Int):TT Bool [Int]:=
.ln 13 I cU8<|
.i 44 (decide (u<(I.length:Int))) (λh3=> .b (idx I u) λZ h5=>
.ix 19 cU8 h5<|
.b (idx J u) λx6 W=>
.ix 23 cU8 W<|
.i 77 ((Z.toNat:Int) !=(x6.toNat:Int)) (λU=> .e false) λU=>
.k [] .z (wi (u+1))) λh3=>
.e true
def zNN(u I:Y):TT Bool []:=
.ln 7 u cU8<|
.ln 9 I cU8<|
.i 32 ((u.length:Int) !=(I.length:Int)) (λU=> .e false) λU=>
.l [] (λJ=>[(0,yA u),(1,yA I),(5,iA J)]) (u.length+1) (λJ=>zHZ u I J) 0
def zFF(I u:Y):Option Bool:=(zNN I u).run Env.nil
theorem zPv(I u:Y):∀r,zFF I u=some r->FP 39 [yA I,yA u] [] (bA r):=zU mixed Tryz.func39 (zNN I u) (by kernel_rfl)
def zKv(I:O)(W:Hp):TT Bool []:=
.pS I λU u=>
.s 16 3 1 u<|
.s 28 6 1 u<|
.b (W.ge_dk U) λZ J=>
.o 9 (ld (zMa J))<|
.e (decide ((Z.now_.2:Int)>0))
def zEO p0 W:=(zKv p0 W).q
theorem zC7 p0 W:∀r,zEO p0 W=some r->FH 135 [oA 1 p0] [] [] (hpA W) (hpA W) (bA r):=zN mixed [] Tryz.func135 _
def zPo(u:O)(W:Hp):TT Bool []:=
.fR 4 (zC7 u W) λx1=>
.i 18 x1 (λh3=> .pS u λI J=>
.s 28 6 1 J<|
.b (W.ge_dk I) λZ U=>
.o 9 (ld (zMa U))<|
.e Z.off_) λh3=> .no
def zQO p0 W:=(zPo p0 W).q
theorem zHC p0 W:∀r,zQO p0 W=some r->FH 185 [oA 1 p0] [] [] (hpA W) (hpA W) (bA r):=zN mixed [] Tryz.func185 _
def zNS(u:O)(W:Hp):TT Int []:=
.fR 4 (zC7 u W) λx1=>
.iF 17 (!x1) λh3=>
.pS u λI J=>
.s 28 6 1 J<|
.b (W.ge_dk I) λZ U=>
.o 9 (ld (zMa U))<|
.e Z.lives_
def zM6 p0 W:=(zNS p0 W).q
theorem zFt p0 W:∀r,zM6 p0 W=some r->FH 186 [oA 1 p0] [] [] (hpA W) (hpA W) (iA r):=zN mixed [] Tryz.func186 _
def zMy(Z:O)(W:Hp)(y1:Bool):TT Int []:=
.i 11 y1 (λh2=> .e 1) λh2=>
.pS Z λi4 J=>
.s 60 14 3 J<|
.b (W.ge_lg i4) λU I=>
.o 17 (ld (zAm I))<|
.fR 18 (zHC U.d_ W) λx7=>
.iF 60 x7 λh9=>
.s 84 20 3 J<|
.o 23 (ld (zAm I))<|
.fR 24 (zFt U.d_ W) λu=>
.s 104 25 3 J<|
.o 28 (ld (zAm I))<|
.iF 41 (u !=U.life_) λα=>
.e 0
def zQL(I:O)(W:Hp):TT Int []:=
.j 15 (λU=>[(0,oA 3 I),(3,bA U),kH W]) (λU=>zMy I W U)<|
.pS I λZ u=>
.s 20 4 3 u<|
.s 32 7 3 u<|
.b (W.ge_lg Z) λJ α=>
.o 10 (ld (zAm α))<|
.pS J.d_ λγ β=>
.s 44 10 1 β<|
.k [] .z false
def zQK p0 W:=(zQL p0 W).q
theorem zAq p0 W:∀r,zQK p0 W=some r->FH 191 [oA 3 p0] [] [] (hpA W) (hpA W) (iA r):=zN mixed [] Tryz.func191 _
def zQD(U:O)(W:Hp):TT (O×Int×Hp) []:=
.fR 6 (zAq U W) λx1=>
.iF 26 (x1 !=0) λh3=>
.pS U λi5 h4=>
.s 48 11 3 h4<|
.b (W.ge_lg i5) λx6 h7=>
.o 14 (ld (zAm h7))<|
let u:(List (Int×Y)):=([]:(List (Int×Y)));let J:=(W.nw_mp u);.o 15 (mkmH (fr_mp W) (nw_mp W u))<|
let I:zBH:=(zBH.mk U x6.commits_ false W.ln_mp);let Z:=(J.nw_tx I);.o 17 (nwW (fr_tx J) (nw_tx J I))<|
.e ((some J.ln_tx),0,Z)
def zFN p0 W:=(zQD p0 W).q
theorem zGu p0 W:∀r,zFN p0 W=some r->FH 96 [oA 3 p0] [] [] (hpA W) (hpA r.2.2) (.tup [.opt 5 r.1,iT r.2.1]):=zN mixed [0] Tryz.func96 _
def zIN(u:qB):TT Int []:=
.e (wi (1+u.maps_))
def zIX p0:=(zIN p0).q
theorem zDX p0:∀r,zIX p0=some r->FP 192 [.t (.agg [iD p0.size_,iD p0.homes_,iD p0.maps_])] [] (iA r):=zU mixed Tryz.func192 _
def zXq(U:O)(J:Int)(W:Hp):TT (O×Hp) []:=
let u:zBK:=(zBK.mk U J);let I:=(W.nw_ix u);.o 8 (nwW (fr_ix W) (nw_ix W u))<|
.e ((some W.ln_ix),I)
def zXz p0 p1 W:=(zXq p0 p1 W).q
theorem zUo p0 p1 W:∀r,zXz p0 p1 W=some r->FH 203 [oA 5 p0,iA p1] [] [] (hpA W) (hpA r.2) (oA 7 r.1):=zN mixed [] Tryz.func203 _
def zIl(u:Y):TT Y []:=
.y 31 true<|
.ln 33 u cU8<|
.b (apzI 1 u.length (wi (64-(u.length:Int)))) λI J=>
.o 35 (apz (e0:=5) 31 (apzC (c:=cU8) J) (apzE (c:=cU8) (a:=0) (z:= .int .u8 0) rfl))<|
.y 2 true<|
.e (u++List.replicate I 0)
def zIS(u:zT)(Z:Y)(U:Int):TT Y [Y×Int,Y]:=
.i 59 (decide (U<([u.count_,u.quota_,u.bytes_,u.keys_].length:Int))) (λW=> .b (idx [u.count_,u.quota_,u.bytes_,u.keys_] U) λx7 h8=>
.ix 20 cI64 h8<|
.fA 24 (zBn x7 8) λx9=>
.y 27 true<|
.b (appI 1 Z x9.1) λJ I=>
.w 29 (appC (c:=cU8) I) (.oe (appE (E:=5) (k:=1) (c:=cU8) I))<|
.y 3 true<|
.k [] .z (J,(wi (U+1)))) λW=>
.k [] (.s .z) Z
def zLa(u:zT):TT Y []:=
.j 34 (λI=>[(3,.t (.own 5 1 (zV I)))]) (λI=>zIl I)<|
.w 17 trivial (lnE [u.count_,u.quota_,u.bytes_,u.keys_] cI64)<|
.l [3] (λq=>[(3,.t (.own 5 1 (zV q.1))),(16,.t (.own 3 1 (List.map cI64 [u.count_,u.quota_,u.bytes_,u.keys_]))),(17,iA ([u.count_,u.quota_,u.bytes_,u.keys_].length:Int)),(18,iA q.2)]) ([u.count_,u.quota_,u.bytes_,u.keys_].length+1) (λq=>zIS u q.1 q.2) ([],0)
def zLK p0:=(zLa p0).q
theorem zEw p0:∀r,zLK p0=some r->FP 196 [.t (.agg [iD p0.count_,iD p0.quota_,iD p0.bytes_,iD p0.keys_])] [] (.t (.own 5 1 (zV r))):=zU mixed Tryz.func196 _
def zPO(p0:O)(W:Hp):TT Int []:=
.pS p0 λi2 u=>
.s 20 4 5 u<|
.s 32 7 5 u<|
.b (W.ge_tx i2) λJ I=>
.o 10 (ld (zLN I))<|
.s 56 13 5 u<|
.o 16 (ld (zLN I))<|
.fR 17 (zAq J.l_ W) λx5=>
.iF 59 (x5 !=0) λh7=>
.s 88 21 5 u<|
.o 24 (ld (zLN I))<|
.iF 78 J.over_ λh8=>
.s 108 26 5 u<|
.o 29 (ld (zLN I))<|
.s 124 30 5 u<|
.o 33 (ld (zLN I))<|
.pS J.l_ λα h9=>
.s 136 33 3 h9<|
.b (W.ge_lg α) λU Z=>
.o 36 (ld (zAm Z))<|
.iF 116 (J.at_ !=U.commits_) λβ=>
.e 0
def zPH p0 W:=(zPO p0 W).q
theorem zCh p0 W:∀r,zPH p0 W=some r->FH 193 [oA 5 p0] [] [] (hpA W) (hpA W) (iA r):=zN mixed [] Tryz.func193 _
def zOb(u:O)(W:Hp):TT Int []:=
.fR 4 (zC7 u W) λx1=>
.iF 17 (!x1) λh3=>
.pS u λI J=>
.s 28 6 1 J<|
.b (W.ge_dk I) λZ U=>
.o 9 (ld (zMa U))<|
.e (Z.now_.2:Int)
def zAT p0 W:=(zOb p0 W).q
theorem yI p0 W:∀r,zAT p0 W=some r->FH 93 [oA 1 p0] [] [] (hpA W) (hpA W) (iA r):=zN mixed [] Tryz.func93 _
def zQB(U:O)(W:Hp):TT Int []:=
.pS U λZ u=>
.s 16 3 3 u<|
.s 28 6 3 u<|
.b (W.ge_lg Z) λJ I=>
.o 9 (ld (zAm I))<|
.pS J.d_ λi6 h5=>
.s 40 9 1 h5<|
.s 52 12 3 u<|
.o 15 (ld (zAm I))<|
.fR 16 (yI J.d_ W) λx7=>
.s 76 18 3 u<|
.o 21 (ld (zAm I))<|
.e (wi ((wi (x7-2))-J.size_))
def zPm p0 W:=(zQB p0 W).q
theorem zAu p0 W:∀r,zPm p0 W=some r->FH 104 [oA 3 p0] [] [] (hpA W) (hpA W) (iA r):=zN mixed [] Tryz.func104 _
def zI4(I:O)(u:Int)(W:Hp):TT Int []:=
.fR 7 (zC7 I W) λx1=>
.iF 17 (!x1) λh3=>
.pS I λi5 J=>
.s 44 10 1 J<|
.b (W.ge_dk i5) λZ U=>
.o 13 (ld (zMa U))<|
.iF 29 Z.off_ λh8=>
.iF 54 (decide (u<0)) λh9=>
.s 80 19 1 J<|
.o 22 (ld (zMa U))<|
.iF 44 (decide (u>=(Z.now_.2:Int))) λα=>
.e 0
def zA4 p0 p1 W:=(zI4 p0 p1 W).q
theorem zCg p0 p1 W:∀r,zA4 p0 p1 W=some r->FH 275 [oA 1 p0,iA p1] [] [] (hpA W) (hpA W) (iA r):=zN mixed [] Tryz.func275 _
def zOa(Z:O)(U:Int)(W:Hp):TT (Y×Int) []:=
.fR 10 (zCg Z U W) λx1=>
.iF 38 (x1 !=0) λh3=>
.pS Z λi5 h4=>
.s 60 14 1 h4<|
.b (W.ge_dk i5) λx6 h7=>
.o 17 (ld (zMa h7))<|
.b (W.ge_sec x6.now_.1) λx8 h9=>
.b (lenI x8.length x6.now_.2) λα J=>
.b (idx x8 U) λu I=>
.c 19 (idxV (yR J) I)<|
.o 20 (lrA (zW4 h9) (flr_at (k:=64) I (λ_=>(by kernel_rfl))))<|
.o 7 (lnew 0 (fl (dT cU8) (padA (0:UInt8) ([]:Y) 0 64)))<|
.o 22 (lstW (OB+0) (fl (dT cU8) (padA (0:UInt8) u 0 64)))<|
.o 21 (sla)<|
.f 1 (frzB (c:=cU8) (k:=1) 4 0 (y:=(padA (0:UInt8) u 0 64)) (λ_=>rfl) (f:=hpA W) (n0:=64) (by rw[zWX]) [obB 0 cU8 (padA (0:UInt8) u 0 64),obH (hpA W)])<|
.e ((padA (0:UInt8) u 0 64),0)
def zOo p0 p1 W:=(zOa p0 p1 W).q
theorem zDT p0 p1 W:∀r,zOo p0 p1 W=some r->FH 278 [oA 1 p0,iA p1] [] [] (hpA W) (hpA W) (.tup [yT r.1,iT r.2]):=zN mixed [0] Tryz.func278 _
def zRY(I:O)(u:Int)(W:Hp):TT Int []:=
.pS I λZ U=>
.s 24 5 3 U<|
.b (W.ge_lg Z) λx3 J=>
.o 8 (ld (zAm J))<|
.e (wi ((wi (2+x3.size_))+u))
def zQ6 p0 p1 W:=(zRY p0 p1 W).q
theorem zEt p0 p1 W:∀r,zQ6 p0 p1 W=some r->FH 280 [oA 3 p0,iA p1] [] [] (hpA W) (hpA W) (iA r):=zN mixed [] Tryz.func280 _
def zQ7(I:O)(Z:Int)(W:Hp):TT (Y×Int) []:=
.fR 8 (zAq I W) λx1=>
.iF 32 (x1 !=0) λh3=>
.iF 45 (decide (Z<0)) λh4=>
.fR 17 (zAu I W) λx5=>
.iF 59 (decide (Z>=x5)) λh7=>
.pS I λi9 h8=>
.s 84 20 3 h8<|
.b (W.ge_lg i9) λJ α=>
.o 23 (ld (zAm α))<|
.fR 26 (zEt I Z W) λU=>
.fR 27 (zDT J.d_ U W) λu=>
.e (u.1,u.2)
def zRS p0 p1 W:=(zQ7 p0 p1 W).q
theorem zOP p0 p1 W:∀r,zRS p0 p1 W=some r->FH 283 [oA 3 p0,iA p1] [] [] (hpA W) (hpA W) (.tup [yT r.1,iT r.2]):=zN mixed [] Tryz.func283 _
def zRX(Z:O)(I:Int)(W:Hp):TT (Y×Int) []:=
.fR 10 (zCh Z W) λx1=>
.iF 38 (x1 !=0) λh3=>
.pS Z λi5 h4=>
.s 64 15 5 h4<|
.b (W.ge_tx i5) λx6 h7=>
.o 18 (ld (zLN h7))<|
.b (W.ge_mp x6.now_) λx8 h9=>
.o 20 (mlkH (kv:=(λz:Int=>Value.int .i64 z)) (vT:=(λv=>T.d ((λl:List UInt8=>D.seq 1 (zV l)) v))) (gl_mp h9) I (zU3 (kt:=3) (by kernel_rfl)) (z:=([]:Y)) (λ_=>RepD.nilSeq _ _))<|
.i 71 ((zC5 x8 I).isSome) (λU=> .fA 25 (zCw ((zC5 x8 I).getD ([]:Y))) λJ=>
.e (J,0)) λU=>
.s 108 26 5 h4<|
.o 29 (ld (zLN h7))<|
.fR 31 (zOP x6.l_ I W) λu=>
.e (u.1,u.2)
def zK4 p0 p1 W:=(zRX p0 p1 W).q
theorem zB1 p0 p1 W:∀r,zK4 p0 p1 W=some r->FH 198 [oA 5 p0,iA p1] [] [] (hpA W) (hpA W) (.tup [yT r.1,iT r.2]):=zN mixed [] Tryz.func198 _
def zIe(I J:Y)(u:Int):TT Bool [Int]:=
.i 44 (decide (u<(I.length:Int))) (λh3=> .b (idx I u) λZ h5=>
.ix 18 cU8 h5<|
.b (idx J u) λx6 W=>
.ix 22 cU8 W<|
.i 74 ((Z.toNat:Int) !=(x6.toNat:Int)) (λU=> .e false) λU=>
.k [] .z (wi (u+1))) λh3=>
.e true
def zFQ(u I:Y):TT Bool []:=
.ln 7 u cU8<|
.ln 9 I cU8<|
.iF 32 ((u.length:Int) !=(I.length:Int)) λU=>
.ln 12 u cU8<|
.l [] (λJ=>[(0,yA u),(1,yA I),(12,iA (u.length:Int)),(13,iA J)]) (u.length+1) (λJ=>zIe u I J) 0
def zLm(I u:Y):Option Bool:=(zFQ I u).run Env.nil
theorem zBY(I u:Y):∀r,zLm I u=some r->FP 199 [yA I,yA u] [] (bA r):=zU mixed Tryz.func199 (zFQ I u) (by kernel_rfl)
def zHV(u:Int):TT (Int×Int) []:=
.i 86 (decide (u>4611686018427387904)) (λI=> .e (0,11)) λI=>
.e ((wi u),0)
def zHy(I:Y)(U u:Int):TT (Int×Int) [Int×Int,Int]:=
.i 56 (decide (u<(I.length:Int))) (λW=> .b (idx I u) λJ Z=>
.ix 19 cU8 Z<|
.w 24 trivial (u648E J)<|
.k [] .z ((IntKind.u64.wrap ((((BitVec.ofInt IntKind.u64.bits (IntKind.u64.wrap (U*2^8)))|||(BitVec.ofInt IntKind.u64.bits (J.toNat:Int))).toNat:Nat):Int)),(wi (u+1)))) λW=>
.k [] (.s .z) U
def zR1(u:Y):TT (Int×Int) []:=
.ln 9 u cU8<|
.i 23 ((u.length:Int)==0) (λJ=> .e (0,10)) λJ=>
.ln 13 u cU8<|
.i 35 (decide ((u.length:Int)>8)) (λU=> .e (0,2)) λU=>
.j 46 (λI=>[(4,.t (.d (.lit (.int .u64 I))))]) (λI=>zHV I)<|
.ln 16 u cU8<|
.l [] (λq=>[(4,.t (.d (.lit (.int .u64 q.1)))),(15,yA u),(16,iA (u.length:Int)),(17,iA q.2)]) (u.length+1) (λq=>zHy u q.1 q.2) (0,0)
def zD0 p0:=(zR1 p0).q
theorem zBp p0:∀r,zD0 p0=some r->FP 257 [yA p0] [] (.tup [iT r.1,iT r.2]):=zU mixed Tryz.func257 _
def zFk(x1:(Y×Int))(U:List Int):TT (zT×Int) []:=
.b (idxA 4 U 0) λx5 h6=>
.o 47 (ixA (zUs h6))<|
.o 48 (lldA rfl (zS7 (c:=cI64) (zR7 h6) rfl (λ_=>rfl)))<|
.b (idxA 4 U 1) λx7 h8=>
.o 49 (ixA (zUs h8))<|
.o 50 (lldA rfl (zS7 (c:=cI64) (zR7 h8) rfl (λ_=>rfl)))<|
.b (idxA 4 U 2) λx9 u=>
.o 51 (ixA (zUs u))<|
.o 52 (lldA rfl (zS7 (c:=cI64) (zR7 u) rfl (λ_=>rfl)))<|
.b (idxA 4 U 3) λI J=>
.o 53 (ixA (zUs J))<|
.o 54 (lldA rfl (zS7 (c:=cI64) (zR7 J) rfl (λ_=>rfl)))<|
.fA 57 (zEw (zT.mk x5 x7 x9 I)) λW=>
.fA 59 (zBY W x1.1) λZ=>
.iF 182 (!Z) λα=>
.e ((zT.mk x5 x7 x9 I),0)
def zFi(x1:(Y×Int))(u:Int)(J:List Int):TT (zT×Int) [Int×(List Int),(List Int)]:=
.i 71 (decide (u<4)) (λW=> .b (cutI x1.1 (wi (8*u)) (wi ((wi (8*u))+8))) λα Z=>
.w 32 (cutC (c:=cU8) Z) (.oe (cutE (k:=1) (c:=cU8) Z))<|
.fA 33 (zBp α) λI=>
.iF 117 (I.2 !=0) λγ=>
.iF 125 (decide (I.1>2305843009213693952)) λβ=>
.b (idxA 4 J u) λδ U=>
.o 45 (ixA (zUs U))<|
.o 63 (lstA (n:=1) rfl (zE7 (c:=cI64) (k:=1) (q:=0) (n:=1) (zR7 U) (λ_=>rfl) rfl) (zHP (x:=dT cI64 I.1) (c:=cI64) (k:=1) (q:=0) (zR7 U) I.1 (λ_=>rfl) rfl rfl) rfl (OB+0))<|
.k [] .z ((wi (u+1)),(J.set (Int.toNat u) I.1))) λW=>
.k [] (.s .z) J
def zGp(U:qB)(J:O)(W:Hp):TT (zT×Int) []:=
.fR 15 (zB1 J 0 W) λu=>
.iF 59 (u.2 !=0) λZ=>
.o 8 (lnew 0 (fl (dT cI64) (List.replicate 4 (0:Int))))<|
.j 54 (λI=>[(4,.box [iT 0,iT 0,iT 0,iT 0]),(6,yA u.1),(8,.t (.ptr 0 0)),((OB+0),.box (fl (dT cI64) I)),kH W]) (λI=>zFk u I)<|
.l [] (λq=>[(4,.box [iT 0,iT 0,iT 0,iT 0]),(6,yA u.1),(8,.t (.ptr 0 0)),(22,iA q.1),((OB+0),.box (fl (dT cI64) q.2)),kH W]) (Int.toNat 4+1) (λq=>zFi u q.1 q.2) (0,(List.replicate 4 (0:Int)))
def zG7 p0 p1 W:=(zGp p0 p1 W).q
theorem zFy p0 p1 W:∀r,zG7 p0 p1 W=some r->FH 204 [.t (.agg [iD p0.size_,iD p0.homes_,iD p0.maps_]),oA 5 p1] [] [] (hpA W) (hpA W) (.tup [.agg [iD r.1.count_,iD r.1.quota_,iD r.1.bytes_,iD r.1.keys_],iT r.2]):=zN mixed [0] Tryz.func204 _
end
set_option maxRecDepth 20000
noncomputable section
def zF0(p0:Y)(F1:Nat)(C1:(List (List D)))(p1:(UInt8->Option Bool))(hp1:∀(a0:UInt8) r,p1 a0=some r->FP F1 ([.t (.d (.lit (.int .u8 (a0.toNat:Int))))]++C1.map A.imm) [] (bA r))(hf1:∃fn,Tryz.prog.funcs[F1]? =some fn/\fn.body.isNone=false/\(fn.name== "runtime.NumGoroutine")=false)(z1:Int):TT Int [Int]:=
.i 29 (decide (z1<(p0.length:Int))) (λh2=> .b (idx p0 z1) λx3 h4=>
.ix 14 cU8 h4<|
.b (p1 x3) λx5 h6=>
.o 16 (cP (hp1 x3 _ h6) hf1)<|
.iF 50 x5 λh7=>
.k [] .z (wi (z1+1))) λh2=>
.e (-1)
def zDa(p0:Y)(F1:Nat)(C1:List (List D))(p1:(UInt8->Option Bool))(hp1:∀(a0:UInt8) r,p1 a0=some r->FP F1 ([.t (.d (.lit (.int .u8 (a0.toNat:Int))))]++C1.map A.imm) [] (bA r))(hf1:∃fn,Tryz.prog.funcs[F1]? =some fn/\fn.body.isNone=false/\(fn.name== "runtime.NumGoroutine")=false):TT Int []:=
.ln 7 p0 cU8<|
.l [] (λz1=>[(0,yA p0),(1,.t (.d (.clo F1 C1))),(7,iA (p0.length:Int)),(8,iA z1)]) (p0.length+1) (λz1=>zF0 p0 F1 C1 p1 hp1 hf1 z1) 0
def zHJ(p0:Y)(F1:Nat)(C1:List (List D))(p1:(UInt8->Option Bool))(hp1:∀(a0:UInt8) r,p1 a0=some r->FP F1 ([.t (.d (.lit (.int .u8 (a0.toNat:Int))))]++C1.map A.imm) [] (bA r))(hf1:∃fn,Tryz.prog.funcs[F1]? =some fn/\fn.body.isNone=false/\(fn.name== "runtime.NumGoroutine")=false):Option Int:=(zDa p0 F1 C1 p1 hp1 hf1).run Env.nil
theorem zGz(p0:Y)(F1:Nat)(C1:List (List D))(p1:(UInt8->Option Bool))(hp1:∀(a0:UInt8) r,p1 a0=some r->FP F1 ([.t (.d (.lit (.int .u8 (a0.toNat:Int))))]++C1.map A.imm) [] (bA r))(hf1:∃fn,Tryz.prog.funcs[F1]? =some fn/\fn.body.isNone=false/\(fn.name== "runtime.NumGoroutine")=false):∀r,zHJ p0 F1 C1 p1 hp1 hf1=some r->FP 321 [yA p0,.t (.d (.clo F1 C1))] [] (iA r):=zU mixed Tryz.func321 (zDa p0 F1 C1 p1 hp1 hf1) (by kernel_rfl)
def zCk(p0:Y)(F1:Nat)(C1:List (List D))(p1:(UInt8->Option Bool))(hp1:∀(a0:UInt8) r,p1 a0=some r->FP F1 ([.t (.d (.lit (.int .u8 (a0.toNat:Int))))]++C1.map A.imm) [] (bA r))(hf1:∃fn,Tryz.prog.funcs[F1]? =some fn/\fn.body.isNone=false/\(fn.name== "runtime.NumGoroutine")=false):TT Bool []:=
.fA 7 (zGz p0 F1 C1 p1 hp1 hf1) λx1=>
.e (decide (x1>=0))
def zFz(p0:Y)(F1:Nat)(C1:List (List D))(p1:(UInt8->Option Bool))(hp1:∀(a0:UInt8) r,p1 a0=some r->FP F1 ([.t (.d (.lit (.int .u8 (a0.toNat:Int))))]++C1.map A.imm) [] (bA r))(hf1:∃fn,Tryz.prog.funcs[F1]? =some fn/\fn.body.isNone=false/\(fn.name== "runtime.NumGoroutine")=false):Option Bool:=(zCk p0 F1 C1 p1 hp1 hf1).run Env.nil
theorem zCR(p0:Y)(F1:Nat)(C1:List (List D))(p1:(UInt8->Option Bool))(hp1:∀(a0:UInt8) r,p1 a0=some r->FP F1 ([.t (.d (.lit (.int .u8 (a0.toNat:Int))))]++C1.map A.imm) [] (bA r))(hf1:∃fn,Tryz.prog.funcs[F1]? =some fn/\fn.body.isNone=false/\(fn.name== "runtime.NumGoroutine")=false):∀r,zFz p0 F1 C1 p1 hp1 hf1=some r->FP 258 [yA p0,.t (.d (.clo F1 C1))] [] (bA r):=zU mixed Tryz.func258 (zCk p0 F1 C1 p1 hp1 hf1) (by kernel_rfl)
def zFD(u:UInt8):TT Bool []:=
.e ((u.toNat:Int) !=0)
def zCG p0:=(zFD p0).q
theorem zEk p0:∀r,zCG p0=some r->FP 289 [.t (.d (.lit (.int .u8 (p0.toNat:Int))))] [] (bA r):=zU mixed Tryz.func289 _
def zVV(I:Int)(W:Hp):TT (O×Int×Hp) []:=
.iF 21 (decide (I<0)) λh1=>
.iF 29 (decide (I>16384)) λh2=>
.b (mkI 8 (wi (Int.tdiv (wi ((wi (I+64))-1)) 64))) λU h4=>
let Z:(List Int):=(List.replicate U (0:Int));let J:=(W.nw_w64 Z);.o 16 (mkh (c0:=dT (cInt .u64) (0:Int)) h4 (zOC (c:=(cInt .u64)) (z:=(0:Int)) (by kernel_rfl) U) (fr_w64 W) (nw_w64 W Z))<|
let u:qR:=(qR.mk I I (W.ln_w64,U) true);let w8:=(J.nw_sp u);.o 18 (nwW (fr_sp J) (nw_sp J u))<|
.e ((some J.ln_sp),0,w8)
def zP4 p0 W:=(zVV p0 W).q
theorem zL2 p0 W:∀r,zP4 p0 W=some r->FH 99 [iA p0] [] [] (hpA W) (hpA r.2.2) (.tup [.opt 8 r.1,iT r.2.1]):=zN mixed [0] Tryz.func99 _
def zIR(J:UInt8):TT Int []:=
.b (idx ([0,1,1,2,1,2,2,3,1,2,2,3,2,3,3,4,1,2,2,3,2,3,3,4,2,3,3,4,3,4,4,5,1,2,2,3,2,3,3,4,2,3,3,4,3,4,4,5,2,3,3,4,3,4,4,5,3,4,4,5,4,5,5,6,1,2,2,3,2,3,3,4,2,3,3,4,3,4,4,5,2,3,3,4,3,4,4,5,3,4,4,5,4,5,5,6,2,3,3,4,3,4,4,5,3,4,4,5,4,5,5,6,3,4,4,5,4,5,5,6,4,5,5,6,5,6,6,7,1,2,2,3,2,3,3,4,2,3,3,4,3,4,4,5,2,3,3,4,3,4,4,5,3,4,4,5,4,5,5,6,2,3,3,4,3,4,4,5,3,4,4,5,4,5,5,6,3,4,4,5,4,5,5,6,4,5,5,6,5,6,6,7,2,3,3,4,3,4,4,5,3,4,4,5,4,5,5,6,3,4,4,5,4,5,5,6,4,5,5,6,5,6,6,7,3,4,4,5,4,5,5,6,4,5,5,6,5,6,6,7,4,5,5,6,5,6,6,7,5,6,6,7,6,7,7,8]:Y) (J.toNat:Int)) λI u=>
.w 4 (zHW u) (.oe (zHM u))<|
.w 5 trivial (zWG I)<|
.e (I.toNat:Int)
def zIP p0:=(zIR p0).q
theorem zHq p0:∀r,zIP p0=some r->FP 337 [.t (.d (.lit (.int .u8 (p0.toNat:Int))))] [] (iA r):=zU mixed Tryz.func337 _
def zQY(I:(O×Int×Hp))(u:Hp):TT (O×Int×Hp) []:=
.e (I.1,0,u)
def zPG(p1:Y)(x1:(O×Int×Hp))(Z:Int)(z5:Hp):TT (O×Int×Hp) [Int×Hp,Hp]:=
.i 158 (decide (Z<(p1.length:Int))) (λh6=> .b (idx p1 Z) λx7 h8=>
.ix 54 cU8 h8<|
.pS x1.1 λW h9=>
.s 228 56 8 h9<|
.b (z5.ge_sp W) λu δ=>
.o 59 (ld (zLH δ))<|
.b (z5.ge_w64 u.l_.1) λI U=>
.b (lenI I.length u.l_.2) λρ μ=>
.b (idx I (wi (Int.tdiv Z 8))) λγ θ=>
.c 62 (idxV (yR μ) θ)<|
.o 63 (ldA (zQe U) (zS7 θ rfl (λ_=>rfl)))<|
.w 65 trivial (u648E x7)<|
.b (shlI .u64 (x7.toNat:Int) (IntKind.u64.wrap (wi (8*(Int.tmod Z 8))))) λJ ν=>
.o 70 (bv (shlIE (yk:= .u64) ν))<|
.b (lenI I.length u.l_.2) λσ ι=>
.b (idx I (wi (Int.tdiv Z 8))) λπ α=>
.c 72 (idxV (yR ι) α)<|
let η:(List Int):=(I.set (Int.toNat (wi (Int.tdiv Z 8))) (IntKind.u64.wrap ((((BitVec.ofInt IntKind.u64.bits γ)|||(BitVec.ofInt IntKind.u64.bits J)).toNat:Nat):Int)));let ε:=(z5.st_w64 u.l_.1 η);.o 84 (stA (n:=1) (zQe U) (zE7 (c:=(cInt .u64)) (k:=1) (q:=0) α (λ_=>(by kernel_rfl)) rfl) (zHP (x:=dT (cInt .u64) (IntKind.u64.wrap ((((BitVec.ofInt IntKind.u64.bits γ)|||(BitVec.ofInt IntKind.u64.bits J)).toNat:Nat):Int))) (c:=(cInt .u64)) (k:=1) (q:=0) α (IntKind.u64.wrap ((((BitVec.ofInt IntKind.u64.bits γ)|||(BitVec.ofInt IntKind.u64.bits J)).toNat:Nat):Int)) (λ_=>(by kernel_rfl)) (by kernel_rfl) (by kernel_rfl)) (su_w64 (x':=η) U))<|
have β:ε.ge_sp W=some u:=δ;.s 296 73 8 h9<|
.o 76 (ld (zLH β))<|
.fA 78 (zHq x7) λξ=>
let ζ:qR:=(qR.mk u.n_ (wi (u.free_-ξ)) u.l_ u.is_);let κ:=(ε.st_sp W ζ);.o 84 (stw (zLH β) (su_sp (x':=ζ) β))<|
.k [] .z ((wi (Z+1)),κ)) λh6=>
.k [] (.s .z) z5
def zP8(I:(O×Int×Hp))(u:Y):TT (O×Int×Hp) []:=
.j 70 (λJ=>[(6,oA 8 I.1),kH J]) (λJ=>zQY I J)<|
.ln 50 u cU8<|
.l [] (λq=>[(6,oA 8 I.1),(49,yA u),(50,iA (u.length:Int)),(51,iA q.1),kH q.2]) (u.length+1) (λq=>zPG u I q.1 q.2) (0,I.2.2)
def zTv(I:Int)(u:Y)(W:Hp):TT (O×Int×Hp) []:=
.fH 13 (zL2 I W) λJ=>
.j 46 (λ_=>[(1,yA u),(6,oA 8 J.1),kH J.2.2]) (λ_=>zP8 J u)<|
.iF 59 (J.2.1 !=0) λε=>
.ln 25 u cU8<|
.iF 71 (decide ((u.length:Int)<(wi (Int.tdiv (wi (I+7)) 8)))) λδ=>
.ln 30 u cU8<|
.iF 86 (decide ((u.length:Int)>(wi (Int.tdiv (wi (I+7)) 8)))) λζ=>
.i 114 ((Int.tmod I 8) !=0) (λβ=> .b (idx u (wi ((wi (Int.tdiv (wi (I+7)) 8))-1))) λU Z=>
.ix 41 cU8 Z<|
.b (shrI .u8 (U.toNat:Int) (IntKind.u64.wrap (Int.tmod I 8))) λγ α=>
.o 46 (bv (shrIE (yk:= .u64) α))<|
.iF 101 (γ !=0) λη=>
.k [] .z ()) λβ=> .no
def zUO p0 p1 W:=(zTv p0 p1 W).q
theorem zRF p0 p1 W:∀r,zUO p0 p1 W=some r->FH 290 [iA p0,yA p1] [] [] (hpA W) (hpA r.2.2) (.tup [.opt 8 r.1,iT r.2.1]):=zN mixed [] Tryz.func290 _
def zFB(I:qB)(W:Hp)(J:Y):TT (O×Int×Hp) []:=
.b (cutI J (wi (Int.tdiv (wi (I.homes_+7)) 8)) (J.length:Int)) λx2 Z=>
.w 38 (zUj (c:=cU8) Z) (.oe (zVG (k:=1) (c:=cU8) Z))<|
.fA 39 (zCR x2 289 [] zCG zEk ⟨_,Tryz.func289,rfl,rfl⟩) λx4=>
.iF 119 x4 λh6=>
.b (cutI J 0 (wi (Int.tdiv (wi (I.homes_+7)) 8))) λx7 U=>
.w 45 (zVg (c:=cU8) U) (.oe (zUB (k:=1) (c:=cU8) U))<|
.fH 46 (zRF I.homes_ x7 W) λu=>
.iF 152 (u.2.1 !=0) λα=>
.e (u.1,0,u.2.2)
def zFA(p0:qB)(p1:O)(W:Hp)(U:Y)(u:Int):TT (O×Int×Hp) [Y×Int,Y]:=
.i 50 (decide (u<p0.maps_)) (λZ=> .fR 22 (zB1 p1 (wi (1+u)) W) λJ=>
.iF 80 (J.2 !=0) λβ=>
.y 28 true<|
.b (appI 1 U J.1) λα I=>
.w 30 (appC (c:=cU8) I) (.oe (appE (E:=5) (k:=1) (c:=cU8) I))<|
.y 6 true<|
.k [] .z (α,(wi (u+1)))) λZ=>
.k [] (.s .z) U
def zGL(u:qB)(J:O)(W:Hp):TT (O×Int×Hp) []:=
.j 42 (λI=>[(2,.box [iT u.size_,iT u.homes_,iT u.maps_]),(6,.t (.own 5 1 (zV I))),kH W]) (λI=>zFB u W I)<|
.l [6] (λq=>[(1,oA 5 J),(2,.box [iT u.size_,iT u.homes_,iT u.maps_]),(6,.t (.own 5 1 (zV q.1))),(14,iA u.maps_),(15,iA q.2),kH W]) (Int.toNat u.maps_+1) (λq=>zFA u J W q.1 q.2) ([],0)
def zGh p0 p1 W:=(zGL p0 p1 W).q
theorem zFL p0 p1 W:∀r,zGh p0 p1 W=some r->FH 205 [.t (.agg [iD p0.size_,iD p0.homes_,iD p0.maps_]),oA 5 p1] [] [] (hpA W) (hpA r.2.2) (.tup [.opt 8 r.1,iT r.2.1]):=zN mixed [] Tryz.func205 _
def zLc(p0:O)(W:Hp):TT (O×Int×Hp) []:=
.pS p0 λi2 h1=>
.s 32 7 10 h1<|
.s 44 10 10 h1<|
.b (W.ge_st i2) λx3 h4=>
.o 13 (ld (zIc h4))<|
.fH 14 (zGu x3.l_ W) λx5=>
.iF 56 (x5.2.1 !=0) λh7=>
.s 96 23 10 h1<|
.b (x5.2.2.ge_st i2) λx8 h9=>
.o 26 (ldS (zIc h9))<|
.fA 27 (zDX x8.geometry_) λμ=>
.fH 28 (zUo x5.1 μ x5.2.2) λu=>
let I:qE:=(qE.mk p0 x5.1 u.1 (zT.mk 0 0 0 0) none);let Z:=(u.2.nw_vw I);.o 30 (nwW (fr_vw u.2) (nw_vw u.2 I))<|
have ε:Z.ge_vw u.2.ln_vw=some I:=zVT;.s 136 33 10 h1<|
.b (Z.ge_st i2) λα θ=>
.o 36 (ldS (zIc θ))<|
.fR 38 (zFy α.geometry_ x5.1 Z) λγ=>
let β:qE:=(qE.mk I.s_ I.t_ I.x_ γ.1 I.p_);let η:=(Z.st_vw u.2.ln_vw β);.o 63 (stw (zDG ε) (su_vw (x':=β) ε))<|
have ι:η.ge_st i2=some α:=θ;.iF 134 (γ.2 !=0) λν=>
.s 196 48 10 h1<|
.o 51 (ldS (zIc ι))<|
.fH 53 (zFL α.geometry_ x5.1 η) λJ=>
.b (J.2.2.ge_vw u.2.ln_vw) λU ζ=>
let δ:qE:=(qE.mk U.s_ U.t_ U.x_ U.h_ J.1);let κ:=(J.2.2.st_vw u.2.ln_vw δ);.o 63 (stw (zDG ζ) (su_vw (x':=δ) ζ))<|
.iF 179 (J.2.1 !=0) λξ=>
.e ((some u.2.ln_vw),0,κ)
def zLQ p0 W:=(zLc p0 W).q
theorem zCd p0 W:∀r,zLQ p0 W=some r->FH 105 [oA 10 p0] [] [] (hpA W) (hpA r.2.2) (.tup [.opt 11 r.1,iT r.2.1]):=zN mixed [] Tryz.func105 _
def zNe(u:Int):TT (Int×Bool) []:=
.e ((wi (Int.tmod u 64)),true)
def zNa(Z:Y)(z4 J:Int):TT (Int×Bool) [Int×Int,Int]:=
.i 53 (decide (J<(Z.length:Int))) (λh6=> .b (idx Z J) λx7 h8=>
.w 21 (zHW h8) (.oe (zHM h8))<|
.iF 72 (decide ((x7.toNat:Int)<33)) λh9=>
.b (idx Z J) λW U=>
.w 26 (zHW U) (.oe (zHM U))<|
.iF 86 (decide ((W.toNat:Int)>126)) λα=>
.b (idx Z J) λI u=>
.w 33 (zHW u) (.oe (zHM u))<|
.w 34 trivial (u328E I)<|
.k [] .z ((IntKind.u32.wrap ((IntKind.u32.wrap (31*z4))+(I.toNat:Int))),(wi (J+1)))) λh6=>
.k [] (.s .z) z4
def zRC(u:Y):TT (Int×Bool) []:=
.iF 30 (decide ((u.length:Int)<1)) λJ=>
.iF 41 (decide ((u.length:Int)>40)) λU=>
.j 46 (λI=>[(4,.t (.d (.lit (.int .u32 I))))]) (λI=>zNe I)<|
.l [] (λq=>[(0,sA u),(4,.t (.d (.lit (.int .u32 q.1)))),(15,iA (u.length:Int)),(16,iA q.2)]) (u.length+1) (λq=>zNa u q.1 q.2) (0,0)
def zRG p0:=(zRC p0).q
theorem zCU p0:∀r,zRG p0=some r->FP 234 [sA p0] [] (.tup [iT r.1,bT' r.2]):=zU mixed Tryz.func234 _
def zH7(I:(Y×Int))(u:Int):TT (Y×Int) []:=
.e (I.1,u)
def zKb(Z:O)(U:Int)(W:Hp):TT (Y×Int) []:=
.pS Z λi2 J=>
.s 36 8 7 J<|
.s 48 11 7 J<|
.b (W.ge_ix i2) λx3 h4=>
.o 14 (ld (zVa h4))<|
.fR 16 (zB1 x3.t_ U W) λu=>
.j 26 (λI=>[(6,yA u.1),(7,iA I),kH W]) (λI=>zH7 u I)<|
.iF 62 (u.2==31) λh8=>
.k [] .z u.2
def zKT p0 p1 W:=(zKb p0 p1 W).q
theorem zDs p0 p1 W:∀r,zKT p0 p1 W=some r->FH 297 [oA 7 p0,iA p1] [] [] (hpA W) (hpA W) (.tup [yT r.1,iT r.2]):=zN mixed [] Tryz.func297 _
def zVv(I:Y):TT Int []:=
.fA 7 (zBp I) λu=>
.iF 35 (u.2 !=0) λJ=>
.e u.1
def zWD p0:=(zVv p0).q
theorem zEd p0:∀r,zWD p0=some r->FP 304 [yA p0] [] (iA r):=zU mixed Tryz.func304 _
def zLf(U:O)(u:zAj)(W:Hp):TT (Int×Int) []:=
.fR 12 (zDs U u.home_ W) λJ=>
.iF 50 (J.2 !=0) λh3=>
.b (cutI J.1 u.off_ (wi (u.off_+4))) λZ I=>
.w 24 (cutC (c:=cU8) I) (.oe (cutE (k:=1) (c:=cU8) I))<|
.fA 25 (zEd Z) λx6=>
.e (x6,0)
def zLs p0 p1 W:=(zLf p0 p1 W).q
theorem zEY p0 p1 W:∀r,zLs p0 p1 W=some r->FH 235 [oA 7 p0,.t (.agg [iD p1.home_,iD p1.off_])] [] [] (hpA W) (hpA W) (.tup [iT r.1,iT r.2]):=zN mixed [] Tryz.func235 _
def zMC(J:O)(u:Int)(W:Hp):TT zAj []:=
.pS J λZ I=>
.s 24 5 7 I<|
.s 36 8 7 I<|
.b (W.ge_ix Z) λx3 U=>
.o 11 (ld (zVa U))<|
.e (zAj.mk (wi (x3.table_+(wi (Int.tdiv u 16)))) (wi (4*(Int.tmod u 16))))
def zMl p0 p1 W:=(zMC p0 p1 W).q
theorem zCn p0 p1 W:∀r,zMl p0 p1 W=some r->FH 236 [oA 7 p0,iA p1] [] [] (hpA W) (hpA W) (.t (.agg [iD r.home_,iD r.off_])):=zN mixed [] Tryz.func236 _
def zVm(u:yO):TT Bool []:=
.fA 8 (zCU u.Key) λx1=>
.i 39 x1.2 (λh3=> .i 54 (decide (u.Version>=0)) (λU=> .i 69 (decide (u.Version<=4611686018427387904)) (λW=> .i 84 (decide (u.Len>=0)) (λI=> .i 99 (decide (u.Len<=1024)) (λZ=> .i 114 (decide (u.First>=0)) (λJ=> .e (decide (u.First<=16384))) λJ=> .no) λZ=> .no) λI=> .no) λW=> .no) λU=> .no) λh3=> .no
def zV3 p0:=(zVm p0).q
theorem zOK p0:∀r,zV3 p0=some r->FP 233 [.t (.agg [sD p0.Key,iD p0.Version,iD p0.Len,iD p0.First])] [] (bA r):=zU mixed Tryz.func233 _
def zK1(u:Y)(X n0:Nat)(J:Int):TT Y []:=
.fA 10 (zBn J ((n0:Nat):Int)) λZ=>
.b (cpyI u X n0 Z.1) λI U=>
.b (lenI I.length u.length) λW _=>
.o 15 (cpy (c:=cU8) 0 (λ_=>rfl) U)<|
.e I
def zB9(I:Y)(X n0:Nat)(u:Int):Option Y:=(zK1 I X n0 u).run Env.nil
theorem zB0(I:Y)(X n0:Nat)(u:Int)(W:Hp):∀r,zB9 I X n0 u=some r->FH 302 [.t (.view 0 X 0 1 n0),iA u] [.box (fl (dT cU8) I)] [.box (fl (dT cU8) r)] (hpA W) (hpA W) (.tup []):=zN mixed [] Tryz.func302 (zK1 I X n0 u) (by kernel_rfl)
def zMs(u:qM)(W:Hp):TT Y []:=
.b (mkI 1 64) λI h2=>
.o 4 (mkl false 0 (c0:=dT cU8 (0:UInt8)) h2 (zOC (c:=cU8) (z:=(0:UInt8)) (by kernel_rfl) I))<|
.b (vcut I 0 4) λx3 h4=>
.o 6 (lsl (off':=(0+Int.toNat 0*1)) (n':=(Int.toNat 4-Int.toNat 0)) (zBW h4))<|
.b (zB9 (List.replicate I (0:UInt8)) (0+Int.toNat 0*1) (Int.toNat 4-Int.toNat 0) u.next_) λx5 h6=>
.b (lenI x5.length (List.replicate I (0:UInt8)).length) λx7 h8=>
.o 9 (cOR [0] [] (zB0 (List.replicate I (0:UInt8)) (0+Int.toNat 0*1) (Int.toNat 4-Int.toNat 0) u.next_ W _ h6) (zBA _ _ yH) (zBA _ _ yH))<|
.b (vcut I 4 12) λx9 η=>
.o 11 (lsl (off':=(0+Int.toNat 4*1)) (n':=(Int.toNat 12-Int.toNat 4)) (zBW η))<|
.b (zB9 x5 (0+Int.toNat 4*1) (Int.toNat 12-Int.toNat 4) u.Entry.Version) λU θ=>
.b (lenI U.length x5.length) λψ γ=>
.o 15 (cOR [0] [] (zB0 x5 (0+Int.toNat 4*1) (Int.toNat 12-Int.toNat 4) u.Entry.Version W _ θ) (zBA _ _ yH) (zBA _ _ yH))<|
.b (vcut I 12 16) λσ μ=>
.o 17 (lsl (off':=(0+Int.toNat 12*1)) (n':=(Int.toNat 16-Int.toNat 12)) (zBW μ))<|
.b (zB9 U (0+Int.toNat 12*1) (Int.toNat 16-Int.toNat 12) u.Entry.Len) λα π=>
.b (lenI α.length U.length) λρ δ=>
.o 21 (cOR [0] [] (zB0 U (0+Int.toNat 12*1) (Int.toNat 16-Int.toNat 12) u.Entry.Len W _ π) (zBA _ _ yH) (zBA _ _ yH))<|
.b (vcut I 16 20) λχ ζ=>
.o 23 (lsl (off':=(0+Int.toNat 16*1)) (n':=(Int.toNat 20-Int.toNat 16)) (zBW ζ))<|
.b (zB9 α (0+Int.toNat 16*1) (Int.toNat 20-Int.toNat 16) u.Entry.First) λJ ν=>
.b (lenI J.length α.length) λφ ε=>
.o 27 (cOR [0] [] (zB0 α (0+Int.toNat 16*1) (Int.toNat 20-Int.toNat 16) u.Entry.First W _ ν) (zBA _ _ yH) (zBA _ _ yH))<|
.w 33 trivial (u8E (u.Entry.Key.length:Int))<|
.b (idx J 20) λx27 β=>
.c 34 (idxV (n:=I) ((yR ε).trans ((yR δ).trans ((yR γ).trans ((yR h8).trans wW)))) β)<|
.o 42 (lstA (n:=1) rfl (zE7 (c:=cU8) (k:=1) (q:=0) (n:=1) β (λ_=>rfl) rfl) (zHP (x:=dT cU8 (U8 (u.Entry.Key.length:Int))) (c:=cU8) (k:=1) (q:=0) β (U8 (u.Entry.Key.length:Int)) (λ_=>rfl) rfl rfl) rfl (OB+0))<|
.b (vcut I 21 (I:Int)) λω κ=>
.o 36 (lsl (off':=(0+Int.toNat 21*1)) (n':=(Int.toNat (I:Int)-Int.toNat 21)) (zBW κ))<|
.b (cpySI (J.set (Int.toNat 20) (U8 (u.Entry.Key.length:Int))) (0+Int.toNat 21*1) (Int.toNat (I:Int)-Int.toNat 21) u.Entry.Key) λZ ι=>
.b (lenI Z.length (J.set (Int.toNat 20) (U8 (u.Entry.Key.length:Int))).length) λτ ξ=>
.o 40 (cpyS 0 ι)<|
.f 1 (frzB (c:=cU8) (k:=1) 2 0 (y:=Z) (λ_=>rfl) (f:=hpA W) (n0:=I) ((yR ξ).trans (sK.trans ((yR ε).trans ((yR δ).trans ((yR γ).trans ((yR h8).trans wW)))))).symm [obB 0 cU8 Z,obH (hpA W)])<|
.e Z
def zL0 p0 W:=(zMs p0 W).q
theorem zEv p0 W:∀r,zL0 p0 W=some r->FH 237 [.t (.agg [sD p0.Entry.Key,iD p0.Entry.Version,iD p0.Entry.Len,iD p0.Entry.First,iD p0.next_])] [] [] (hpA W) (hpA W) (yA r):=zN mixed [0] Tryz.func237 _
def zPI(x7 u I x3:Int)(W:Hp)(p0 J:Y):TT (qM×Bool) []:=
.fA 41 (zOK (yO.mk J x7 u I)) λβ=>
.i 129 β (λU=> .fR 44 (zEv (qM.mk (yO.mk J x7 u I) x3) W) λα=>
.fA 46 (zBY α p0) λZ=>
.e ((qM.mk (yO.mk J x7 u I) x3),Z)) λU=> .no
def zUX(u:Y)(W:Hp):TT (qM×Bool) []:=
.b (cutI u 0 4) λx1 h2=>
.w 7 (zVg (c:=cU8) h2) (.oe (zUB (k:=1) (c:=cU8) h2))<|
.fA 8 (zEd x1) λx3=>
.b (cutI u 4 12) λx5 h6=>
.w 11 (cutC (c:=cU8) h6) (.oe (cutE (k:=1) (c:=cU8) h6))<|
.fA 12 (zEd x5) λx7=>
.b (cutI u 12 16) λx9 γ=>
.w 14 (cutC (c:=cU8) γ) (.oe (cutE (k:=1) (c:=cU8) γ))<|
.fA 15 (zEd x9) λZ=>
.b (cutI u 16 20) λζ β=>
.w 17 (cutC (c:=cU8) β) (.oe (cutE (k:=1) (c:=cU8) β))<|
.fA 18 (zEd ζ) λα=>
.j 26 (λI=>[(0,yA u),(2,.box [sT [],iT 0,iT 0,iT 0,iT 0]),(4,.box [sT I,iT x7,iT Z,iT α,iT x3]),kH W]) (λI=>zPI x7 Z α x3 W u I)<|
.b (idx u 20) λU η=>
.ix 26 cU8 η<|
.w 28 trivial (zWG U)<|
.i 92 (decide ((U.toNat:Int)<=40)) (λε=> .b (cutI u 21 (wi (21+(U.toNat:Int)))) λJ δ=>
.w 34 (cutC (c:=cU8) δ) (.oe (cutE (k:=1) (c:=cU8) δ))<|
.w 35 (zDe J) (.oe (strE J))<|
.k [] .z J) λε=> .no
def zUx p0 W:=(zUX p0 W).q
theorem zRE p0 W:∀r,zUx p0 W=some r->FH 298 [yA p0] [] [] (hpA W) (hpA W) (.tup [.agg [sD r.1.Entry.Key,iD r.1.Entry.Version,iD r.1.Entry.Len,iD r.1.Entry.First,iD r.1.next_],bT' r.2]):=zN mixed [] Tryz.func298 _
def zJH(p0:O)(w0:Hp)(p1:Int)(F2:Nat)(C2:(List (List D)))(p2:(Int->qM->Option Bool))(hp2:∀(a0:Int) (a1:qM) r,p2 a0 a1=some r->FP F2 ([iA a0,.t (.agg [sD a1.Entry.Key,iD a1.Entry.Version,iD a1.Entry.Len,iD a1.Entry.First,iD a1.next_])]++C2.map A.imm) [] (bA r))(hf2:∃fn,Tryz.prog.funcs[F2]? =some fn/\fn.body.isNone=false/\(fn.name== "runtime.NumGoroutine")=false)(z6 z7 z8 z9:Int):TT (zAj×Int×qM×Int) [Int×Int×Int×Int]:=
.i 104 (z8==0) (λh10=> .e ((zAj.mk 0 0),0,(qM.mk (yO.mk [] 0 0 0) 0),35)) λh10=>
.fR 40 (zDs p0 z8 w0) λx11=>
.iF 134 (x11.2 !=0) λh13=>
.fR 50 (zRE x11.1 w0) λx14=>
.fA 57 (zCU x14.1.Entry.Key) λx16=>
.iF 195 (!x14.2) λh18=>
.iF 210 (x16.1 !=p1) λh19=>
.iF 218 (decide ((wi (z9+1))>16384)) λh20=>
.b (p2 z8 x14.1) λx21 h22=>
.o 78 (cP (hp2 z8 x14.1 _ h22) hf2)<|
.i 236 x21 (λh23=> .e ((zAj.mk z6 z7),z8,x14.1,0)) λh23=> .no
def zF9(p0:O)(p1:Int)(F2:Nat)(C2:List (List D))(p2:(Int->qM->Option Bool))(hp2:∀(a0:Int) (a1:qM) r,p2 a0 a1=some r->FP F2 ([iA a0,.t (.agg [sD a1.Entry.Key,iD a1.Entry.Version,iD a1.Entry.Len,iD a1.Entry.First,iD a1.next_])]++C2.map A.imm) [] (bA r))(hf2:∃fn,Tryz.prog.funcs[F2]? =some fn/\fn.body.isNone=false/\(fn.name== "runtime.NumGoroutine")=false)(w0:Hp):TT (zAj×Int×qM×Int) []:=
.fR 21 (zCn p0 p1 w0) λx1=>
.fR 25 (zEY p0 x1 w0) λx3=>
.iF 89 (x3.2 !=0) λh5=>
.l [] (λq=>[(0,oA 7 p0),(1,iA p1),(2,.t (.d (.clo F2 C2))),(6,.box [iT 0,iT 0]),(8,.box [sT [],iT 0,iT 0,iT 0,iT 0]),(10,.box [iT q.1,iT q.2.1]),(11,iA q.2.2.1),(13,iA q.2.2.2),kH w0]) (16400) (λq=>zJH p0 w0 p1 F2 C2 p2 hp2 hf2 q.1 q.2.1 q.2.2.1 q.2.2.2) (x1.home_,x1.off_,x3.1,0)
def zL9(p0:O)(p1:Int)(F2:Nat)(C2:List (List D))(p2:(Int->qM->Option Bool))(hp2:∀(a0:Int) (a1:qM) r,p2 a0 a1=some r->FP F2 ([iA a0,.t (.agg [sD a1.Entry.Key,iD a1.Entry.Version,iD a1.Entry.Len,iD a1.Entry.First,iD a1.next_])]++C2.map A.imm) [] (bA r))(hf2:∃fn,Tryz.prog.funcs[F2]? =some fn/\fn.body.isNone=false/\(fn.name== "runtime.NumGoroutine")=false)(w0:Hp):Option (zAj×Int×qM×Int):=(zF9 p0 p1 F2 C2 p2 hp2 hf2 w0).run Env.nil
theorem zKW(p0:O)(p1:Int)(F2:Nat)(C2:List (List D))(p2:(Int->qM->Option Bool))(hp2:∀(a0:Int) (a1:qM) r,p2 a0 a1=some r->FP F2 ([iA a0,.t (.agg [sD a1.Entry.Key,iD a1.Entry.Version,iD a1.Entry.Len,iD a1.Entry.First,iD a1.next_])]++C2.map A.imm) [] (bA r))(hf2:∃fn,Tryz.prog.funcs[F2]? =some fn/\fn.body.isNone=false/\(fn.name== "runtime.NumGoroutine")=false)(w0:Hp):∀r,zL9 p0 p1 F2 C2 p2 hp2 hf2 w0=some r->FH 220 [oA 7 p0,iA p1,.t (.d (.clo F2 C2))] [] [] (hpA w0) (hpA w0) (.tup [.agg [iD r.1.home_,iD r.1.off_],iT r.2.1,.agg [sD r.2.2.1.Entry.Key,iD r.2.2.1.Entry.Version,iD r.2.2.1.Entry.Len,iD r.2.2.1.Entry.First,iD r.2.2.1.next_],iT r.2.2.2]):=zN mixed [] Tryz.func220 (zF9 p0 p1 F2 C2 p2 hp2 hf2 w0) (by kernel_rfl)
def zJ5(J:Int)(I:qM)(u:Y):TT Bool []:=
.w 10 trivial (seqE I.Entry.Key u)<|
.e (I.Entry.Key==u)
def zEZ p0 p1 c2:=(zJ5 p0 p1 c2).q
theorem zIh p0 p1 c2:∀r,zEZ p0 p1 c2=some r->FP 295 [iA p0,.t (.agg [sD p1.Entry.Key,iD p1.Entry.Version,iD p1.Entry.Len,iD p1.Entry.First,iD p1.next_]),.imm [sD c2]] [] (bA r):=zU mixed Tryz.func295 _
def zL3(Z:O)(u:Y)(W:Hp):TT (zAj×Int×qM×Int) []:=
.fA 12 (zCU u) λU=>
.iF 50 (!U.2) λh3=>
.f 18 (fzV 3)<|
.fR 22 (zKW Z U.1 295 [[sD u]] (λJ a1=>zEZ J a1 u) (λJ a1 r h=>zIh J a1 u r h) ⟨_,Tryz.func295,rfl,rfl⟩ W) λI=>
.e (I.1,I.2.1,I.2.2.1,I.2.2.2)
def zL1 p0 p1 W:=(zL3 p0 p1 W).q
theorem zEy p0 p1 W:∀r,zL1 p0 p1 W=some r->FH 217 [oA 7 p0,sA p1] [] [] (hpA W) (hpA W) (.tup [.agg [iD r.1.home_,iD r.1.off_],iT r.2.1,.agg [sD r.2.2.1.Entry.Key,iD r.2.2.1.Entry.Version,iD r.2.2.1.Entry.Len,iD r.2.2.1.Entry.First,iD r.2.2.1.next_],iT r.2.2.2]):=zN mixed [] Tryz.func217 _
def zMI(J:O)(I:Y)(W:Hp):TT (yO×Int×Int) []:=
.fR 14 (zEy J I W) λu=>
.e (u.2.2.1.Entry,u.2.1,u.2.2.2)
def zLv p0 p1 W:=(zMI p0 p1 W).q
theorem zCv p0 p1 W:∀r,zLv p0 p1 W=some r->FH 121 [oA 7 p0,sA p1] [] [] (hpA W) (hpA W) (.tup [.agg [sD r.1.Key,iD r.1.Version,iD r.1.Len,iD r.1.First],iT r.2.1,iT r.2.2]):=zN mixed [] Tryz.func121 _
def zXu(u:Int):TT Bool []:=
.i 18 (decide (u>=0)) (λI=> .e (decide (u<=1024))) λI=> .no
def zXj p0:=(zXu p0).q
theorem zLq p0:∀r,zXj p0=some r->FP 218 [iA p0] [] (bA r):=zU mixed Tryz.func218 _
def zUn(u:Int):TT Int []:=
.fA 4 (zLq u) λI=>
.iF 17 (!I) λJ=>
.e (wi (Int.tdiv (wi ((wi (u+60))-1)) 60))
def zUk p0:=(zUn p0).q
theorem zDb p0:∀r,zUk p0=some r->FP 212 [iA p0] [] (iA r):=zU mixed Tryz.func212 _
abbrev zBB(a:(zA2×Int)):List A:=[.t (.agg [iD a.1.home_,yD a.1.data_]),iA a.2]
def zMN{X:Type}(yld:((zA2×Int)->X×Hp->Option (Bool×(X×Hp))))(z:(Option (ItC Tryz.prog hpA zBB X yld)))(u:Int)(I:(X×Hp)):TT (X×Hp) []:=
.iF 152 (u !=0) λJ=>
.e I
def zL8{X:Type}(yld:((zA2×Int)->X×Hp->Option (Bool×(X×Hp))))(z:(Option (ItC Tryz.prog hpA zBB X yld)))(β:(X×Hp))(u:(Y×Int))(z8:Int)(z9:Int)(δ:Int):TT (X×Hp) [Int×Int×(X×Hp),Int×(X×Hp)]:=
.iF 92 (δ !=0) λζ=>
.b (cutI u.1 4 (u.1.length:Int)) λγ J=>
.w 38 (zUj (c:=cU8) J) (.oe (zVG (k:=1) (c:=cU8) J))<|
.b (yld ((zA2.mk z8 γ),0) β) λI Z=>
.vv 40 (yr z Z)<|
.iF 125 (!I.1) λε=>
.b (cutI u.1 0 4) λW U=>
.w 44 (zVg (c:=cU8) U) (.oe (zUB (k:=1) (c:=cU8) U))<|
.fA 45 (zBp W) λα=>
.k [] .z (α.1,(wi (z9+1)),I.2)
def zMO{X:Type}(yld:((zA2×Int)->X×Hp->Option (Bool×(X×Hp))))(z:(Option (ItC Tryz.prog hpA zBB X yld)))(x6:Int)(c3:Nat)(U:Int)(W:Int)(u:(X×Hp)):TT (X×Hp) [Int×Int×(X×Hp),Int×(X×Hp)]:=
.i 38 (decide (W<x6)) (λβ=> .b (zK4 (some c3) U u.2) λI Z=>
.o 16 (cRZ z u (zB1 (some c3) U u.2 _ Z) nc_hpA)<|
.j 26 (λJ=>[(0,.t (.d (.lit (yv (itL z))))),(3,.imt [.opt 5 (some c3)]),(5,iA U),(6,yA I.1),(7,iA J),(10,iA x6),(11,iA W),(HK,.hp (itH z u))]) (λJ=>zL8 yld z u I U W J)<|
.iF 66 (I.2==31) λδ=>
.i 75 (I.2==0) (λα=> .iF 86 (U==0) λγ=>
.k [] .z I.2) λα=> .no) λβ=>
.k [] (.s .z) (U,u)
def zIy{X:Type}(yld:(zA2×Int)->X×Hp->Option (Bool×(X×Hp)))(z:Option (ItC Tryz.prog hpA zBB X yld))(U:Int)(J:Int)(I:Nat)(W:X×Hp):TT (X×Hp) []:=
.j 46 (λq=>[(0,.t (.d (.lit (yv (itL z))))),(5,iA q.1),(HK,.hp (itH z q.2))]) (λq=>zMN yld z q.1 q.2)<|
.fA 10 (zDb J) λu=>
.l [] (λq=>[(0,.t (.d (.lit (yv (itL z))))),(3,.imt [.opt 5 (some I)]),(5,iA q.1),(10,iA u),(11,iA q.2.1),(HK,.hp (itH z q.2.2))]) (Int.toNat u+1) (λq=>zMO yld z u I q.1 q.2.1 q.2.2) (U,0,W)
def zIo{X:Type}(yld:(zA2×Int)->X×Hp->Option (Bool×(X×Hp)))(I:Int)(u:Int)(J:Nat)(W:X×Hp):Option (X×Hp):=(zIy yld none I u J W).run Env.nil
theorem zOi(I u:Int)(J:Nat):ITR Tryz.prog 296 [[iT I],[iT u],[.opt 5 (some J)]] hpA zBB (λX yld q=>zIo yld I u J q):=itr_chk mixed Tryz.func296 [] (λX yld z q=>zIy yld z I u J q) (λ_ _ _ _=>rfl) (by kernel_rfl)
def zOG(I:O)(u J:Int)(W:Hp):TT (Int×Int×Nat) []:=
.p I (λ_=> .no) λZ U=>
.s 5 0 5 U<|
.f 6 (fzT 4)<|
.f 6 (fzT 5)<|
.f 6 (fzT 3)<|
.e (u,J,Z)
def zVK(J:O)(u I:Int)(W:Hp):Option (Int×Int×Nat):=(zOG J u I W).run Env.nil
theorem zQt(J:O)(u I:Int)(W:Hp):∀r,zVK J u I W=some r->FH 219 [oA 5 J,iA u,iA I] [] [] (hpA W) (hpA W) (.cl 296 [[iT r.1],[iT r.2.1],[.opt 5 (some r.2.2)]]):=zN mixed [] Tryz.func219 (zOG J u I W) (by kernel_rfl)
def zHL(Z:zA2)(I z8:Int)(z9:Y)(U:Hp):TT (Bool×(Int×Y)×Hp) []:=
.iF 71 (I !=0) λW=>
.y 25 true<|
.b (appI 1 z9 Z.data_) λJ u=>
.w 28 (appC (c:=cU8) u) (.oe (appE (E:=5) (k:=1) (c:=cU8) u))<|
.e (true,(z8,J),U)
theorem zRM(u:Int):RndOK Tryz.prog 122 0 [6,7,8] [20,21] zBB hpA (λb:(Int×Y)=>[[nT],[iT b.1],[.own 5 1 (zV b.2)]]) [(2,iA u)] (λ(a:(zA2×Int)) (b:(Int×Y)) w=>(zHL a.1 a.2 b.1 b.2 w).run Env.nil):=rnd_chk mixed Tryz.func122 0 (λ(a:(zA2×Int)) (b:(Int×Y)) w=>zHL a.1 a.2 b.1 b.2 w) (by kernel_rfl)
def zTY(u:((Bool×(Int×Y))×Hp))(U:Int):TT (Y×Int×Hp) []:=
.b (cutI u.1.2.2 0 U) λJ I=>
.w 45 (zVg (c:=cU8) I) (.oe (zUB (k:=1) (c:=cU8) I))<|
.e (J,0,u.2)
def zSq(I:Y)(W:((Bool×(Int×Y))×Hp))(u:Int):TT (Y×Int×Hp) [Int,Unit]:=
.i 113 (decide (u<(I.length:Int))) (λZ=> .b (idx I u) λU J=>
.ix 38 cU8 J<|
.iF 125 ((U.toNat:Int) !=0) λα=>
.k [] .z (wi (u+1))) λZ=>
.k [] (.s .z) ()
def zRu(p0:O)(p1 J:Int)(W:Hp):TT (Y×Int×Hp) []:=
.p p0 (λ_=> .no) λi2 h1=>
.s 5 0 5 h1<|
.fA 14 (zLq J) λx3=>
.iF 47 (!x3) λh5=>
.fR 19 (zQt (some i2) p1 J W) λZ=>
.b (zIo (lpY (λ(a:(zA2×Int)) (b:(Int×Y)) w=>(zHL a.1 a.2 b.1 b.2 w).run Env.nil)) Z.1 Z.2.1 Z.2.2 ((true,(0,[])),W)) λu β=>
.rr (rg 19 [8] (zOi Z.1 Z.2.1 Z.2.2) (zRM J) β nc_hpA (λ_=>rfl) (λb=>(all_cons (p:=nzC) (zMF zCu) (all_cons (p:=nzC) (zMF zCu) (all_cons (p:=nzC) (zHb zCu) all_nil)))) (λ_=>⟨rfl,rfl⟩) ⟨.inl ⟨rfl,rfl⟩,trivial⟩) u.1.1 (λγ=>
.j 66 (λ_=>[(2,iA J),(6,.box [nT]),(7,.box [iT u.1.2.1]),(8,.box [.own 5 1 (zV u.1.2.2)]),kH u.2]) (λ_=>zTY u J)<|
.ln 32 u.1.2.2 cU8<|
.b (cutI u.1.2.2 (if(u.1.2.2.length:Int)<J then(u.1.2.2.length:Int)else J) (u.1.2.2.length:Int)) λI α=>
.w 34 (zUj (c:=cU8) α) (.oe (zVG (k:=1) (c:=cU8) α))<|
.ln 35 I cU8<|
.l [] (λU=>[(2,iA J),(6,.box [nT]),(7,.box [iT u.1.2.1]),(8,.box [.own 5 1 (zV u.1.2.2)]),(34,yA I),(35,iA (I.length:Int)),(36,iA U),kH u.2]) (I.length+1) (λU=>zSq I u U) 0) (([],u.1.2.1,u.2))
def zXp(J:O)(u I:Int)(W:Hp):Option (Y×Int×Hp):=(zRu J u I W).run Env.nil
theorem zUI(J:O)(u I:Int)(W:Hp):∀r,zXp J u I W=some r->FH 122 [oA 5 J,iA u,iA I] [] [] (hpA W) (hpA r.2.2) (.tup [yT r.1,iT r.2.1]):=zXB mixed [] Tryz.func122 (zRu J u I W) (by kernel_rfl)
def zNI(p0:O)(p1:Y)(W:Hp):TT (zNo×Int×Hp) []:=
.fH 13 (zCd p0 W) λI=>
.iF 53 (I.2.1 !=0) λh3=>
.pS I.1 λi5 Z=>
.s 88 21 11 Z<|
.b (I.2.2.ge_vw i5) λx6 h7=>
.o 24 (ld (zDG h7))<|
.fR 26 (zCv x6.x_ p1 I.2.2) λJ=>
.i 95 (J.2.2 !=0) (λU=> .e ((zNo.mk 0 []),J.2.2,I.2.2)) λU=>
.s 144 35 11 Z<|
.o 38 (ld (zDG h7))<|
.fH 43 (zUI x6.t_ J.1.First J.1.Len I.2.2) λu=>
.iF 143 (u.2.1 !=0) λα=>
.e ((zNo.mk J.1.Version u.1),0,u.2.2)
def zD5 p0 p1 W:=(zNI p0 p1 W).q
theorem zFO p0 p1 W:∀r,zD5 p0 p1 W=some r->FH 34 [oA 10 p0,sA p1] [] [] (hpA W) (hpA r.2.2) (.tup [.agg [iD r.1.Version,yD r.1.Data],iT r.2.1]):=zN mixed [] Tryz.func34 _
def zRc(u:List V):TT V []:=
.e (V.mk 3 0 [] u)
def zFI p0:=(zRc p0).q
theorem zH0 p0:∀r,zFI p0=some r->FP 140 [.t (.d (.seq 4 (List.map V.cells p0)))] [] (.t (.agg [iD r.k,iD r.n,nD,.seq 4 (List.map V.cells r.l)])):=zU mixed Tryz.func140 _
def zQW(u:Y):TT V []:=
.e (V.mk 2 0 u [])
def zDE p0:=(zQW p0).q
theorem zF4 p0:∀r,zDE p0=some r->FP 144 [yA p0] [] (.t (.agg [iD r.k,iD r.n,yD r.b,nD])):=zU mixed Tryz.func144 _
def zCD(u:zD)(U I:Int):TT (Y×zD) []:=
.i 83 (I !=0) (λW=> .e ([],(zD.mk u.b_ I))) λW=>
.b (cutI u.b_ 0 U) λx3 Z=>
.w 34 (cutCh3 (c:=cU8) Z) (.oe (zUB (k:=1) (c:=cU8) Z))<|
.b (cutI u.b_ U (u.b_.length:Int)) λx5 J=>
.w 41 (zUj (c:=cU8) J) (.oe (zVG (k:=1) (c:=cU8) J))<|
.e (x3,(zD.mk x5 I))
def zFa(u:zD)(I:Int):TT (Y×zD) []:=
.j 14 (λJ=>[(0,.box [yT u.b_,iT J]),(1,iA I)]) (λJ=>zCD u I J)<|
.i 36 (u.e_==0) (λZ=> .ln 17 u.b_ cU8<|
.i 59 (decide (I>(u.b_.length:Int))) (λU=> .k [] .z 10) λU=>
.k [] .z u.e_) λZ=>
.k [] .z u.e_
def zY p0 p1:=(zFa p0 p1).q
theorem zBZ p0 p1:∀r,zY p0 p1=some r->FP 309 [.box [yT p0.b_,iT p0.e_],iA p1] [(0,[yT r.2.b_,iT r.2.e_])] (yA r.1):=zU mixed Tryz.func309 _
def zQd(u:Int):TT V []:=
.e (V.mk 1 u [] [])
def zAW p0:=(zQd p0).q
theorem zAA p0:∀r,zAW p0=some r->FP 143 [iA p0] [] (.t (.agg [iD r.k,iD r.n,nD,nD])):=zU mixed Tryz.func143 _
def zE0(U:zD)(I:Int):TT (Int×zD) []:=
.fM 10 0 0 (zBZ U I) λu=>
.fA 11 (zBp u.1) λJ=>
.e (J.1,u.2)
def qC p0 p1:=(zE0 p0 p1).q
theorem zCb p0 p1:∀r,qC p0 p1=some r->FP 311 [.box [yT p0.b_,iT p0.e_],iA p1] [(0,[yT r.2.b_,iT r.2.e_])] (iA r.1):=zU mixed Tryz.func311 _
def zFR(u:zD):TT zD []:=
.i 20 (u.e_==0) (λI=> .e (zD.mk u.b_ 11)) λI=>
.e u
def zR p0:=(zFR p0).q
theorem yW p0:∀r,zR p0=some r->FP 312 [.box [yT p0.b_,iT p0.e_]] [(0,[yT r.b_,iT r.e_])] (.tup []):=zU mixed Tryz.func312 _
end
end Go.Proofs.YtocolhfjpadaoaaGreatDoor
