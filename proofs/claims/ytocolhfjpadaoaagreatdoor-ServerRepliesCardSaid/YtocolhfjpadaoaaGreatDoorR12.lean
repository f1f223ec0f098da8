/-
  Lemmas of this claim, joined.
-/
import Derived.Test.YtocolhfjpadaoaaGreatDoorR11
set_option linter.unusedVariables false
set_option linter.unusedSimpArgs false
set_option linter.constructorNameAsVariable false
namespace Go.Proofs.YtocolhfjpadaoaaGreatDoor
open Go
abbrev uN:=@List.not_mem_nil
end Go.Proofs.YtocolhfjpadaoaaGreatDoor
namespace Go.Proofs.YtocolhfjpadaoaaGreatDoor
open Go Go.RowKit
variable {P:Program}{w0:World}{w:World}{m0:Mem}{m:Mem}{o0:OwnM}{o:OwnM}{G:GD}{pins:List Nat}{N:Nat}{a:Act}{op:Oper}{S:Nat->A}{M:Nat->A}{L:SL}{v:Value}{W:World}{Q:Mem}{X:OwnM}
set_option maxRecDepth 20000
noncomputable section
structure qW where
 n_:Int
 b_:Y
structure qF where
 kept_:(Nat×Nat)
 now_:(Nat×Nat)
 wait_:(List qW)
 fuse_:Int
 off_:Bool
 lives_:Int
abbrev zCB(x:Y):List D:=ar cU8 (0:UInt8) x 0 64
abbrev zBe(x:qW):List D:=[D.lit (.int .i64 x.n_)]++ar cU8 (0:UInt8) x.b_ 0 64
structure qX where
 d_:O
 size_:Int
 base_:Int
 slot_:Int
 used_:Int
 life_:Int
 commits_:Int
structure zA9 where
 l_:O
 at_:Int
 over_:Bool
 now_:Nat
structure zBA where
 t_:O
 table_:Int
structure qS where
 n_:Int
 free_:Int
 l_:(Nat×Nat)
 is_:Bool
structure qB where
 size_:Int
 homes_:Int
 maps_:Int
structure qJ where
 geometry_:qB
 l_:O
structure zT where
 count_:Int
 quota_:Int
 bytes_:Int
 keys_:Int
structure qE where
 s_:O
 t_:O
 x_:O
 h_:zT
 p_:O
structure yO where
 d_:O
 s_:O
abbrev zR3(i:Nat)(x:qF):List T:=[.hvw (cd 2 x.kept_.1) 0 236 64 x.kept_.2,.hvw (cd 2 x.now_.1) 0 236 64 x.now_.2,.own 238 65 (List.map zBe x.wait_),iT x.fuse_,bT' x.off_,iT x.lives_]
abbrev zTs(i:Nat)(x:qX):List T:=[.opt 1 x.d_,iT x.size_,iT x.base_,iT x.slot_,iT x.used_,iT x.life_,iT x.commits_]
abbrev zTf(i:Nat)(x:zA9):List T:=[.opt 3 x.l_,iT x.at_,bT' x.over_,.mpt (OB+cd 6 x.now_)]
abbrev zV7(i:Nat)(x:zBA):List T:=[.opt 5 x.t_,iT x.table_]
abbrev zTz(i:Nat)(x:qS):List T:=[iT x.n_,iT x.free_,.hvw (cd 9 x.l_.1) 0 299 1 x.l_.2,bT' x.is_]
abbrev zUV(i:Nat)(x:qJ):List T:=[iT x.geometry_.size_,iT x.geometry_.homes_,iT x.geometry_.maps_,.opt 3 x.l_]
abbrev zTt(i:Nat)(x:qE):List T:=[.opt 10 x.s_,.opt 5 x.t_,.opt 7 x.x_,iT x.h_.count_,iT x.h_.quota_,iT x.h_.bytes_,iT x.h_.keys_,.opt 8 x.p_]
abbrev zVi(i:Nat)(x:yO):List T:=[.opt 1 x.d_,.opt 10 x.s_]
abbrev zQH(_:Nat)(x:List Y):List T:=fl (dT zCB) x
abbrev zQn(_:Nat)(x:List Int):List T:=fl (dT (cInt .u64)) x
structure Hp where
 dk:List qF
 lg:List qX
 tx:List zA9
 ix:List zBA
 sp:List qS
 st:List qJ
 vw:List qE
 sv:List yO
 sec:List (List Y)
 w64:List (List Int)
 mp:List (List (Int×Y))
def Hp.e:Hp:=⟨[],[],[],[],[],[],[],[],[],[],[]⟩
abbrev Hp.ge_dk(H:Hp)(i:Nat):Option qF:=H.dk[i]?
def Hp.st_dk(H:Hp)(i:Nat)(x:qF):Hp:={H with dk:=H.dk.set i x}
def Hp.nw_dk(H:Hp)(x:qF):Hp:={H with dk:=H.dk++[x]}
abbrev Hp.ln_dk(H:Hp):Nat:=H.dk.length
abbrev Hp.ge_lg(H:Hp)(i:Nat):Option qX:=H.lg[i]?
def Hp.st_lg(H:Hp)(i:Nat)(x:qX):Hp:={H with lg:=H.lg.set i x}
def Hp.nw_lg(H:Hp)(x:qX):Hp:={H with lg:=H.lg++[x]}
abbrev Hp.ln_lg(H:Hp):Nat:=H.lg.length
abbrev Hp.ge_tx(H:Hp)(i:Nat):Option zA9:=H.tx[i]?
def Hp.st_tx(H:Hp)(i:Nat)(x:zA9):Hp:={H with tx:=H.tx.set i x}
def Hp.nw_tx(H:Hp)(x:zA9):Hp:={H with tx:=H.tx++[x]}
abbrev Hp.ln_tx(H:Hp):Nat:=H.tx.length
abbrev Hp.ge_ix(H:Hp)(i:Nat):Option zBA:=H.ix[i]?
def Hp.nw_ix(H:Hp)(x:zBA):Hp:={H with ix:=H.ix++[x]}
abbrev Hp.ln_ix(H:Hp):Nat:=H.ix.length
abbrev Hp.ge_sp(H:Hp)(i:Nat):Option qS:=H.sp[i]?
def Hp.st_sp(H:Hp)(i:Nat)(x:qS):Hp:={H with sp:=H.sp.set i x}
def Hp.nw_sp(H:Hp)(x:qS):Hp:={H with sp:=H.sp++[x]}
abbrev Hp.ln_sp(H:Hp):Nat:=H.sp.length
abbrev Hp.ge_st(H:Hp)(i:Nat):Option qJ:=H.st[i]?
def Hp.st_st(H:Hp)(i:Nat)(x:qJ):Hp:={H with st:=H.st.set i x}
def Hp.nw_st(H:Hp)(x:qJ):Hp:={H with st:=H.st++[x]}
abbrev Hp.ln_st(H:Hp):Nat:=H.st.length
abbrev Hp.ge_vw(H:Hp)(i:Nat):Option qE:=H.vw[i]?
def Hp.st_vw(H:Hp)(i:Nat)(x:qE):Hp:={H with vw:=H.vw.set i x}
def Hp.nw_vw(H:Hp)(x:qE):Hp:={H with vw:=H.vw++[x]}
abbrev Hp.ln_vw(H:Hp):Nat:=H.vw.length
abbrev Hp.ge_sv(H:Hp)(i:Nat):Option yO:=H.sv[i]?
def Hp.nw_sv(H:Hp)(x:yO):Hp:={H with sv:=H.sv++[x]}
abbrev Hp.ln_sv(H:Hp):Nat:=H.sv.length
abbrev Hp.ge_sec(H:Hp)(i:Nat):Option (List Y):=H.sec[i]?
def Hp.st_sec(H:Hp)(i:Nat)(x:List Y):Hp:={H with sec:=H.sec.set i x}
def Hp.nw_sec(H:Hp)(x:List Y):Hp:={H with sec:=H.sec++[x]}
abbrev Hp.ln_sec(H:Hp):Nat:=H.sec.length
abbrev Hp.ge_w64(H:Hp)(i:Nat):Option (List Int):=H.w64[i]?
def Hp.st_w64(H:Hp)(i:Nat)(x:List Int):Hp:={H with w64:=H.w64.set i x}
def Hp.nw_w64(H:Hp)(x:List Int):Hp:={H with w64:=H.w64++[x]}
abbrev Hp.ln_w64(H:Hp):Nat:=H.w64.length
abbrev Hp.ge_mp(H:Hp)(i:Nat):Option (List (Int×Y)):=H.mp[i]?
def Hp.st_mp(H:Hp)(i:Nat)(x:(List (Int×Y))):Hp:={H with mp:=H.mp.set i x}
def Hp.nw_mp(H:Hp)(x:(List (Int×Y))):Hp:={H with mp:=H.mp++[x]}
abbrev Hp.ln_mp(H:Hp):Nat:=H.mp.length
def hpT(H:Hp):Nat->Nat->A
 |1,i=>arA H.dk zR3 i
 |2,i=>arA H.sec zQH i
 |3,i=>arA H.lg zTs i
 |5,i=>arA H.tx zTf i
 |6,i=>arM (λz:Int=>Value.int .i64 z) (λl:List UInt8=>D.seq 1 (zU l)) H.mp i
 |7,i=>arA H.ix zV7 i
 |8,i=>arA H.sp zTz i
 |9,i=>arA H.w64 zQn i
 |10,i=>arA H.st zUV i
 |11,i=>arA H.vw zTt i
 |12,i=>arA H.sv zVi i
 |_,_=> .free
def hpA(H:Hp):Nat->A:=hpF (hpT H)
theorem zLF{H:Hp}{i:Nat}{x:qF}(h:H.ge_dk i=some x):hpA H (cd 1 i)=(.box (zR3 i x)):=(zCc (by decide)).trans (zEy h)
theorem su_dk{H:Hp}{i:Nat}{x x':qF}(h:H.ge_dk i=some x):hpA (H.st_dk i x')=updF (hpA H) (cd 1 i) (.box (zR3 i x')):=by refine zBS (by decide) (zMj h) λI j u=> ?_;(match I with|1=>exact zMm λe=>u ⟨rfl,e⟩|0|2|3|4|5|6|7|8|9|10|11|12=>exact rfl|k+13=>rfl)
theorem su2_dk{H:Hp}{i:Nat}{x x':qF}{y:A}(h:H.ge_dk i=some x):hpA (H.st_dk i x')=updF (updF (hpA H) (cd 1 i) y) (cd 1 i) (.box (zR3 i x')):=by rw[su_dk h];funext k;unfold updF;split<;>rfl
theorem fr_dk(H:Hp):hpA H (cd 1 H.ln_dk)= .free:=(zCc (by decide)).trans zDn
theorem nw_dk(H:Hp)(x:qF):hpA (H.nw_dk x)=updF (hpA H) (cd 1 H.ln_dk) (.box (zR3 H.ln_dk x)):=by refine zBS (by decide) zFq λI j u=> ?_;(match I with|1=>exact zFX λe=>u ⟨rfl,e⟩|0|2|3|4|5|6|7|8|9|10|11|12=>exact rfl|k+13=>rfl)
theorem zAf{H:Hp}{i:Nat}{x:qX}(h:H.ge_lg i=some x):hpA H (cd 3 i)=(.box (zTs i x)):=(zCc (by decide)).trans (zEy h)
theorem zSt{H:Hp}{i:Nat}{x x':qX}(h:H.ge_lg i=some x):hpA (H.st_lg i x')=updF (hpA H) (cd 3 i) (.box (zTs i x')):=by refine zBS (by decide) (zMj h) λI j u=> ?_;(match I with|3=>exact zMm λe=>u ⟨rfl,e⟩|0|1|2|4|5|6|7|8|9|10|11|12=>exact rfl|k+13=>rfl)
theorem fr_lg(H:Hp):hpA H (cd 3 H.ln_lg)= .free:=(zCc (by decide)).trans zDn
theorem nw_lg(H:Hp)(x:qX):hpA (H.nw_lg x)=updF (hpA H) (cd 3 H.ln_lg) (.box (zTs H.ln_lg x)):=by refine zBS (by decide) zFq λI j u=> ?_;(match I with|3=>exact zFX λe=>u ⟨rfl,e⟩|0|1|2|4|5|6|7|8|9|10|11|12=>exact rfl|k+13=>rfl)
theorem zJ7{H:Hp}{i:Nat}{x:zA9}(h:H.ge_tx i=some x):hpA H (cd 5 i)=(.box (zTf i x)):=(zCc (by decide)).trans (zEy h)
theorem su_tx{H:Hp}{i:Nat}{x x':zA9}(h:H.ge_tx i=some x):hpA (H.st_tx i x')=updF (hpA H) (cd 5 i) (.box (zTf i x')):=by refine zBS (by decide) (zMj h) λI j u=> ?_;(match I with|5=>exact zMm λe=>u ⟨rfl,e⟩|0|1|2|3|4|6|7|8|9|10|11|12=>exact rfl|k+13=>rfl)
theorem fr_tx(H:Hp):hpA H (cd 5 H.ln_tx)= .free:=(zCc (by decide)).trans zDn
theorem nw_tx(H:Hp)(x:zA9):hpA (H.nw_tx x)=updF (hpA H) (cd 5 H.ln_tx) (.box (zTf H.ln_tx x)):=by refine zBS (by decide) zFq λI j u=> ?_;(match I with|5=>exact zFX λe=>u ⟨rfl,e⟩|0|1|2|3|4|6|7|8|9|10|11|12=>exact rfl|k+13=>rfl)
theorem zTq{H:Hp}{i:Nat}{x:zBA}(h:H.ge_ix i=some x):hpA H (cd 7 i)=(.box (zV7 i x)):=(zCc (by decide)).trans (zEy h)
theorem fr_ix(H:Hp):hpA H (cd 7 H.ln_ix)= .free:=(zCc (by decide)).trans zDn
theorem nw_ix(H:Hp)(x:zBA):hpA (H.nw_ix x)=updF (hpA H) (cd 7 H.ln_ix) (.box (zV7 H.ln_ix x)):=by refine zBS (by decide) zFq λI j u=> ?_;(match I with|7=>exact zFX λe=>u ⟨rfl,e⟩|0|1|2|3|4|5|6|8|9|10|11|12=>exact rfl|k+13=>rfl)
theorem zJ1{H:Hp}{i:Nat}{x:qS}(h:H.ge_sp i=some x):hpA H (cd 8 i)=(.box (zTz i x)):=(zCc (by decide)).trans (zEy h)
theorem su_sp{H:Hp}{i:Nat}{x x':qS}(h:H.ge_sp i=some x):hpA (H.st_sp i x')=updF (hpA H) (cd 8 i) (.box (zTz i x')):=by refine zBS (by decide) (zMj h) λI j u=> ?_;(match I with|8=>exact zMm λe=>u ⟨rfl,e⟩|0|1|2|3|4|5|6|7|9|10|11|12=>exact rfl|k+13=>rfl)
theorem fr_sp(H:Hp):hpA H (cd 8 H.ln_sp)= .free:=(zCc (by decide)).trans zDn
theorem nw_sp(H:Hp)(x:qS):hpA (H.nw_sp x)=updF (hpA H) (cd 8 H.ln_sp) (.box (zTz H.ln_sp x)):=by refine zBS (by decide) zFq λI j u=> ?_;(match I with|8=>exact zFX λe=>u ⟨rfl,e⟩|0|1|2|3|4|5|6|7|9|10|11|12=>exact rfl|k+13=>rfl)
theorem zHQ{H:Hp}{i:Nat}{x:qJ}(h:H.ge_st i=some x):hpA H (cd 10 i)=(.box (zUV i x)):=(zCc (by decide)).trans (zEy h)
theorem su_st{H:Hp}{i:Nat}{x x':qJ}(h:H.ge_st i=some x):hpA (H.st_st i x')=updF (hpA H) (cd 10 i) (.box (zUV i x')):=by refine zBS (by decide) (zMj h) λI j u=> ?_;(match I with|10=>exact zMm λe=>u ⟨rfl,e⟩|0|1|2|3|4|5|6|7|8|9|11|12=>exact rfl|k+13=>rfl)
theorem fr_st(H:Hp):hpA H (cd 10 H.ln_st)= .free:=(zCc (by decide)).trans zDn
theorem nw_st(H:Hp)(x:qJ):hpA (H.nw_st x)=updF (hpA H) (cd 10 H.ln_st) (.box (zUV H.ln_st x)):=by refine zBS (by decide) zFq λI j u=> ?_;(match I with|10=>exact zFX λe=>u ⟨rfl,e⟩|0|1|2|3|4|5|6|7|8|9|11|12=>exact rfl|k+13=>rfl)
theorem zC0{H:Hp}{i:Nat}{x:qE}(h:H.ge_vw i=some x):hpA H (cd 11 i)=(.box (zTt i x)):=(zCc (by decide)).trans (zEy h)
theorem su_vw{H:Hp}{i:Nat}{x x':qE}(h:H.ge_vw i=some x):hpA (H.st_vw i x')=updF (hpA H) (cd 11 i) (.box (zTt i x')):=by refine zBS (by decide) (zMj h) λI j u=> ?_;(match I with|11=>exact zMm λe=>u ⟨rfl,e⟩|0|1|2|3|4|5|6|7|8|9|10|12=>exact rfl|k+13=>rfl)
theorem fr_vw(H:Hp):hpA H (cd 11 H.ln_vw)= .free:=(zCc (by decide)).trans zDn
theorem nw_vw(H:Hp)(x:qE):hpA (H.nw_vw x)=updF (hpA H) (cd 11 H.ln_vw) (.box (zTt H.ln_vw x)):=by refine zBS (by decide) zFq λI j u=> ?_;(match I with|11=>exact zFX λe=>u ⟨rfl,e⟩|0|1|2|3|4|5|6|7|8|9|10|12=>exact rfl|k+13=>rfl)
theorem gl_sv{H:Hp}{i:Nat}{x:yO}(h:H.ge_sv i=some x):hpA H (cd 12 i)=(.box (zVi i x)):=(zCc (by decide)).trans (zEy h)
theorem fr_sv(H:Hp):hpA H (cd 12 H.ln_sv)= .free:=(zCc (by decide)).trans zDn
theorem nw_sv(H:Hp)(x:yO):hpA (H.nw_sv x)=updF (hpA H) (cd 12 H.ln_sv) (.box (zVi H.ln_sv x)):=by refine zBS (by decide) zFq λI j u=> ?_;(match I with|12=>exact zFX λe=>u ⟨rfl,e⟩|0|1|2|3|4|5|6|7|8|9|10|11=>exact rfl|k+13=>rfl)
theorem zVI{H:Hp}{i:Nat}{x:(List Y)}(h:H.ge_sec i=some x):hpA H (cd 2 i)=(.box (zQH i x)):=(zCc (by decide)).trans (zEy h)
theorem su_sec{H:Hp}{i:Nat}{x x':(List Y)}(h:H.ge_sec i=some x):hpA (H.st_sec i x')=updF (hpA H) (cd 2 i) (.box (zQH i x')):=by refine zBS (by decide) (zMj h) λI j u=> ?_;(match I with|2=>exact zMm λe=>u ⟨rfl,e⟩|0|1|3|4|5|6|7|8|9|10|11|12=>exact rfl|k+13=>rfl)
theorem fr_sec(H:Hp):hpA H (cd 2 H.ln_sec)= .free:=(zCc (by decide)).trans zDn
theorem nw_sec(H:Hp)(x:List Y):hpA (H.nw_sec x)=updF (hpA H) (cd 2 H.ln_sec) (.box (zQH H.ln_sec x)):=by refine zBS (by decide) zFq λI j u=> ?_;(match I with|2=>exact zFX λe=>u ⟨rfl,e⟩|0|1|3|4|5|6|7|8|9|10|11|12=>exact rfl|k+13=>rfl)
theorem zPD{H:Hp}{i:Nat}{x:(List Int)}(h:H.ge_w64 i=some x):hpA H (cd 9 i)=(.box (zQn i x)):=(zCc (by decide)).trans (zEy h)
theorem su_w64{H:Hp}{i:Nat}{x x':(List Int)}(h:H.ge_w64 i=some x):hpA (H.st_w64 i x')=updF (hpA H) (cd 9 i) (.box (zQn i x')):=by refine zBS (by decide) (zMj h) λI j u=> ?_;(match I with|9=>exact zMm λe=>u ⟨rfl,e⟩|0|1|2|3|4|5|6|7|8|10|11|12=>exact rfl|k+13=>rfl)
theorem fr_w64(H:Hp):hpA H (cd 9 H.ln_w64)= .free:=(zCc (by decide)).trans zDn
theorem nw_w64(H:Hp)(x:List Int):hpA (H.nw_w64 x)=updF (hpA H) (cd 9 H.ln_w64) (.box (zQn H.ln_w64 x)):=by refine zBS (by decide) zFq λI j u=> ?_;(match I with|9=>exact zFX λe=>u ⟨rfl,e⟩|0|1|2|3|4|5|6|7|8|10|11|12=>exact rfl|k+13=>rfl)
theorem gl_mp{H:Hp}{i:Nat}{x:(List (Int×Y))}(h:H.ge_mp i=some x):hpA H (cd 6 i)=(mpA (λz:Int=>Value.int .i64 z) (λl:List UInt8=>D.seq 1 (zU l)) x):=(zCc (by decide)).trans (arM_get h)
theorem su_mp{H:Hp}{i:Nat}{x x':(List (Int×Y))}(h:H.ge_mp i=some x):hpA (H.st_mp i x')=updF (hpA H) (cd 6 i) (mpA (λz:Int=>Value.int .i64 z) (λl:List UInt8=>D.seq 1 (zU l)) x'):=by refine zBS (by decide) (arM_eq h) λI j u=> ?_;(match I with|6=>exact arM_ne λe=>u ⟨rfl,e⟩|0|1|2|3|4|5|7|8|9|10|11|12=>exact rfl|k+13=>rfl)
theorem fr_mp(H:Hp):hpA H (cd 6 H.ln_mp)= .free:=(zCc (by decide)).trans arM_free
theorem nw_mp(H:Hp)(x:(List (Int×Y))):hpA (H.nw_mp x)=updF (hpA H) (cd 6 H.ln_mp) (mpA (λz:Int=>Value.int .i64 z) (λl:List UInt8=>D.seq 1 (zU l)) x):=by refine zBS (by decide) arM_new λI j u=> ?_;(match I with|6=>exact arM_old λe=>u ⟨rfl,e⟩|0|1|2|3|4|5|7|8|9|10|11|12=>exact rfl|k+13=>rfl)
theorem zUq(H:Hp):zCD (hpA H):=hpF_pure λt i l h=>by(match t,h with|0,h=>exact nomatch h|1,h=>exact zDl (f:=zR3) (λi x y hy=>by simp only[zR3,vI,uN,or_false]at hy;rcases hy with rfl|rfl|rfl|rfl|rfl|rfl<;>first|rfl|exact zIJ _ _) l h|2,h=>exact zDl (f:=zQH) (λi x=>fl_loc _ _) l h|3,h=>exact zDl (f:=zTs) (λi x y hy=>by simp only[zTs,vI,uN,or_false]at hy;rcases hy with rfl|rfl|rfl|rfl|rfl|rfl|rfl<;>first|rfl|exact zIJ _ _) l h|4,h=>exact nomatch h|5,h=>exact zDl (f:=zTf) (λi x y hy=>by simp only[zTf,vI,uN,or_false]at hy;rcases hy with rfl|rfl|rfl|rfl<;>first|rfl|exact zIJ _ _|exact mpt_loc _) l h|6,h=>exact arM_pure h|7,h=>exact zDl (f:=zV7) (λi x y hy=>by simp only[zV7,vI,uN,or_false]at hy;rcases hy with rfl|rfl<;>first|rfl|exact zIJ _ _) l h|8,h=>exact zDl (f:=zTz) (λi x y hy=>by simp only[zTz,vI,uN,or_false]at hy;rcases hy with rfl|rfl|rfl|rfl<;>first|rfl|exact zIJ _ _) l h|9,h=>exact zDl (f:=zQn) (λi x=>fl_loc _ _) l h|10,h=>exact zDl (f:=zUV) (λi x y hy=>by simp only[zUV,vI,uN,or_false]at hy;rcases hy with rfl|rfl|rfl|rfl<;>first|rfl|exact zIJ _ _) l h|11,h=>exact zDl (f:=zTt) (λi x y hy=>by simp only[zTt,vI,uN,or_false]at hy;rcases hy with rfl|rfl|rfl|rfl|rfl|rfl|rfl|rfl<;>first|rfl|exact zIJ _ _) l h|12,h=>exact zDl (f:=zVi) (λi x y hy=>by simp only[zVi,vI,uN,or_false]at hy;rcases hy with rfl|rfl<;>first|rfl|exact zIJ _ _) l h|k+13,h=>exact nomatch h)
theorem san_hpA(H:Hp)(c:Nat):san (hpA H c)=hpA H c:=by show san (hpT H (c %64) (c/64))=hpT H (c %64) (c/64);generalize c %64=t;(match t with|1=>exact zFp _ _ _|2=>exact zFp _ _ _|3=>exact zFp _ _ _|5=>exact zFp _ _ _|6=>exact san_arM _ _ _ _|7=>exact zFp _ _ _|8=>exact zFp _ _ _|9=>exact zFp _ _ _|10=>exact zFp _ _ _|11=>exact zFp _ _ _|12=>exact zFp _ _ _|0|4=>exact rfl|k+13=>rfl)
theorem rn_hpA(H:Hp)(j c k:Nat):rnA j c (hpA H k)=hpA H k:=rn_pure (λl e=>zUq H k l e) (san_hpA H k) j c
theorem hpA_e(c:Nat):san (hpA Hp.e c)= .free:=by rw[san_hpA];show hpT Hp.e (c %64) (c/64)= .free;generalize c %64=t;(match t with|0|1|2|3|4|5|6|7|8|9|10|11|12=>exact rfl|k+13=>rfl)
abbrev kH(H:Hp):Nat×A:=(HK,.hp (hpA H))
instance (H:Hp):PuH (hpA H):=⟨zUq H⟩
theorem nc_hpA(H:Hp):NC (hpA H):=by refine NC_hpF (λi=>rfl) (λt i l h=> ?_) (λt i b u J I h=> ?_);(match t,h with|0,h=>exact nomatch h|1,h=>exact zFg (f:=zR3) (λi x=>by(repeat(first|exact zCk|refine zKv ?_|refine zGc ?_|refine zGn rfl ?_|refine zHz (by decide) ?_|refine zId (by decide) ?_))) h|2,h=>exact zFg (f:=zQH) (λi x=>nz_fl _ _) h|3,h=>exact zFg (f:=zTs) (λi x=>by(repeat(first|exact zCk|refine zKv ?_|refine zGc ?_|refine zGn rfl ?_|refine zHz (by decide) ?_|refine zId (by decide) ?_))) h|4,h=>exact nomatch h|5,h=>exact zFg (f:=zTf) (λi x=>by(repeat(first|exact zCk|refine zKv ?_|refine zGc ?_|refine zGn rfl ?_|refine zHz (by decide) ?_|refine zId (by decide) ?_))) h|6,h=>exact(arM_nbox h).elim|7,h=>exact zFg (f:=zV7) (λi x=>by(repeat(first|exact zCk|refine zKv ?_|refine zGc ?_|refine zGn rfl ?_|refine zHz (by decide) ?_|refine zId (by decide) ?_))) h|8,h=>exact zFg (f:=zTz) (λi x=>by(repeat(first|exact zCk|refine zKv ?_|refine zGc ?_|refine zGn rfl ?_|refine zHz (by decide) ?_|refine zId (by decide) ?_))) h|9,h=>exact zFg (f:=zQn) (λi x=>nz_fl _ _) h|10,h=>exact zFg (f:=zUV) (λi x=>by(repeat(first|exact zCk|refine zKv ?_|refine zGc ?_|refine zGn rfl ?_|refine zHz (by decide) ?_|refine zId (by decide) ?_))) h|11,h=>exact zFg (f:=zTt) (λi x=>by(repeat(first|exact zCk|refine zKv ?_|refine zGc ?_|refine zGn rfl ?_|refine zHz (by decide) ?_|refine zId (by decide) ?_))) h|12,h=>exact zFg (f:=zVi) (λi x=>by(repeat(first|exact zCk|refine zKv ?_|refine zGc ?_|refine zGn rfl ?_|refine zHz (by decide) ?_|refine zId (by decide) ?_))) h|k+13,h=>exact nomatch h);(match t,h with|0,h=>exact nomatch h|1,h=>exact zFb h|2,h=>exact zFb h|3,h=>exact zFb h|4,h=>exact nomatch h|5,h=>exact zFb h|6,h=>exact arM_nrcd h|7,h=>exact zFb h|8,h=>exact zFb h|9,h=>exact zFb h|10,h=>exact zFb h|11,h=>exact zFb h|12,h=>exact zFb h|k+13,h=>exact nomatch h)
structure zAc where
 home_:Int
 off_:Int
structure yQ where
 Key:Y
 Version:Int
 Len:Int
 First:Int
structure qN where
 Entry:yQ
 next_:Int
structure zAy where
 home_:Int
 data_:Y
structure zMQ where
 Version:Int
 Data:Y
structure zB where
 b_:Y
 e_:Int
structure zD where
 Err:Int
 Version:Int
 Data:Y
 Keys:(List Y)
structure qM where
 Kind:Int
 Key:Y
 Version:Int
 Size:Int
structure zI where
 Kind:Int
 Key:Y
 Version:Int
 Data:Y
structure zS where
 Kind:Int
 User:Y
 Number:Int
 Key:Y
 Wants:(List qM)
 Changes:(List zI)
abbrev zK(x:qM):List D:=[iD x.Kind,sD x.Key,iD x.Version,iD x.Size]
abbrev zF(x:zI):List D:=[iD x.Kind,sD x.Key,iD x.Version,yD x.Data]
structure zZ where
 Home:Int
 Data:Y
abbrev zN(x:zZ):List D:=[iD x.Home,yD x.Data]
structure yF where
 kind_:Int
 number_:Int
 data_:Y
 ok_:Bool
abbrev zAM(x:yF):List D:=[iD x.kind_,iD x.number_,yD x.data_,bD x.ok_]
structure qH where
 From:Int
 Len:Int
abbrev qY(x:qH):List D:=[iD x.From,iD x.Len]
def zGa(I J:Y)(u:Int):TT Bool [Int]:=
.ln 13 I cU8<|
.i 44 (decide (u<(I.length:Int))) (λh3=> .b (idx I u) λZ h5=>
.ix 19 cU8 h5<|
.b (idx J u) λx6 W=>
.ix 23 cU8 W<|
.i 77 ((Z.toNat:Int) !=(x6.toNat:Int)) (λU=> .e false) λU=>
.k [] .z (wi (u+1))) λh3=>
.e true
def zL3(u I:Y):TT Bool []:=
.ln 7 u cU8<|
.ln 9 I cU8<|
.i 32 ((u.length:Int) !=(I.length:Int)) (λU=> .e false) λU=>
.l [] (λJ=>[(0,yA u),(1,yA I),(5,iA J)]) (u.length+1) (λJ=>zGa u I J) 0
def zEW(I u:Y):Option Bool:=(zL3 I u).run Env.nil
theorem zOS(I u:Y):∀r,zEW I u=some r->FP 39 [yA I,yA u] [] (bA r):=zV mixed Tryz.func39 (zL3 I u) (by kernel_rfl)
def zJh(I:O)(W:Hp):TT Bool []:=
.pS I λU u=>
.s 16 3 1 u<|
.s 28 6 1 u<|
.b (W.ge_dk U) λZ J=>
.o 9 (ld (zLF J))<|
.e (decide ((Z.now_.2:Int)>0))
def zDo p0 W:=(zJh p0 W).q
theorem zCv p0 W:∀r,zDo p0 W=some r->FH 135 [oA 1 p0] [] [] (hpA W) (hpA W) (bA r):=zM mixed [] Tryz.func135 _
def zON(u:O)(W:Hp):TT Bool []:=
.fR 4 (zCv u W) λx1=>
.i 18 x1 (λh3=> .pS u λI J=>
.s 28 6 1 J<|
.b (W.ge_dk I) λZ U=>
.o 9 (ld (zLF U))<|
.e Z.off_) λh3=> .no
def zOy p0 W:=(zON p0 W).q
theorem zGK p0 W:∀r,zOy p0 W=some r->FH 185 [oA 1 p0] [] [] (hpA W) (hpA W) (bA r):=zM mixed [] Tryz.func185 _
def zL7(u:O)(W:Hp):TT Int []:=
.fR 4 (zCv u W) λx1=>
.iF 17 (!x1) λh3=>
.pS u λI J=>
.s 28 6 1 J<|
.b (W.ge_dk I) λZ U=>
.o 9 (ld (zLF U))<|
.e Z.lives_
def zLn p0 W:=(zL7 p0 W).q
theorem zE5 p0 W:∀r,zLn p0 W=some r->FH 186 [oA 1 p0] [] [] (hpA W) (hpA W) (iA r):=zM mixed [] Tryz.func186 _
def zLf(Z:O)(W:Hp)(y1:Bool):TT Int []:=
.i 11 y1 (λh2=> .e 1) λh2=>
.pS Z λi4 J=>
.s 60 14 3 J<|
.b (W.ge_lg i4) λU I=>
.o 17 (ld (zAf I))<|
.fR 18 (zGK U.d_ W) λx7=>
.iF 60 x7 λh9=>
.s 84 20 3 J<|
.o 23 (ld (zAf I))<|
.fR 24 (zE5 U.d_ W) λu=>
.s 104 25 3 J<|
.o 28 (ld (zAf I))<|
.iF 41 (u !=U.life_) λα=>
.e 0
def zOv(I:O)(W:Hp):TT Int []:=
.j 15 (λU=>[(0,oA 3 I),(3,bA U),kH W]) (λU=>zLf I W U)<|
.pS I λZ u=>
.s 20 4 3 u<|
.s 32 7 3 u<|
.b (W.ge_lg Z) λJ α=>
.o 10 (ld (zAf α))<|
.pS J.d_ λγ β=>
.s 44 10 1 β<|
.k [] .z false
def zOt p0 W:=(zOv p0 W).q
theorem zAj p0 W:∀r,zOt p0 W=some r->FH 191 [oA 3 p0] [] [] (hpA W) (hpA W) (iA r):=zM mixed [] Tryz.func191 _
def zOm(U:O)(W:Hp):TT (O×Int×Hp) []:=
.fR 6 (zAj U W) λx1=>
.iF 26 (x1 !=0) λh3=>
.pS U λi5 h4=>
.s 48 11 3 h4<|
.b (W.ge_lg i5) λx6 h7=>
.o 14 (ld (zAf h7))<|
let u:(List (Int×Y)):=([]:(List (Int×Y)));let J:=(W.nw_mp u);.o 15 (mkmH (fr_mp W) (nw_mp W u))<|
let I:zA9:=(zA9.mk U x6.commits_ false W.ln_mp);let Z:=(J.nw_tx I);.o 17 (nwW (fr_tx J) (nw_tx J I))<|
.e ((some J.ln_tx),0,Z)
def zEe p0 W:=(zOm p0 W).q
theorem zF3 p0 W:∀r,zEe p0 W=some r->FH 96 [oA 3 p0] [] [] (hpA W) (hpA r.2.2) (.tup [.opt 5 r.1,iT r.2.1]):=zM mixed [0] Tryz.func96 _
def zHA(u:qB):TT Int []:=
.e (wi (1+u.maps_))
def zHL p0:=(zHA p0).q
theorem zDF p0:∀r,zHL p0=some r->FP 192 [.t (.agg [iD p0.size_,iD p0.homes_,iD p0.maps_])] [] (iA r):=zV mixed Tryz.func192 _
def zV0(U:O)(J:Int)(W:Hp):TT (O×Hp) []:=
let u:zBA:=(zBA.mk U J);let I:=(W.nw_ix u);.o 8 (nwW (fr_ix W) (nw_ix W u))<|
.e ((some W.ln_ix),I)
def zV8 p0 p1 W:=(zV0 p0 p1 W).q
theorem zS7 p0 p1 W:∀r,zV8 p0 p1 W=some r->FH 203 [oA 5 p0,iA p1] [] [] (hpA W) (hpA r.2) (oA 7 r.1):=zM mixed [] Tryz.func203 _
def zHb(u:Y):TT Y []:=
.y 31 true<|
.ln 33 u cU8<|
.b (apzI 1 u.length (wi (64-(u.length:Int)))) λI J=>
.o 35 (apz (e0:=5) 31 (apzC (c:=cU8) J) (apzE (c:=cU8) (a:=0) (z:= .int .u8 0) rfl))<|
.y 2 true<|
.e (u++List.replicate I 0)
def zHG(u:zT)(Z:Y)(U:Int):TT Y [Y×Int,Y]:=
.i 59 (decide (U<([u.count_,u.quota_,u.bytes_,u.keys_].length:Int))) (λW=> .b (idx [u.count_,u.quota_,u.bytes_,u.keys_] U) λx7 h8=>
.ix 20 cI64 h8<|
.fA 24 (zBY x7 8) λx9=>
.y 27 true<|
.b (appI 1 Z x9.1) λJ I=>
.w 29 (appC (c:=cU8) I) (.oe (appE (E:=5) (k:=1) (c:=cU8) I))<|
.y 3 true<|
.k [] .z (J,(wi (U+1)))) λW=>
.k [] (.s .z) Z
def zKI(u:zT):TT Y []:=
.j 34 (λI=>[(3,.t (.own 5 1 (zU I)))]) (λI=>zHb I)<|
.w 17 trivial (lnE [u.count_,u.quota_,u.bytes_,u.keys_] cI64)<|
.l [3] (λq=>[(3,.t (.own 5 1 (zU q.1))),(16,.t (.own 3 1 (List.map cI64 [u.count_,u.quota_,u.bytes_,u.keys_]))),(17,iA ([u.count_,u.quota_,u.bytes_,u.keys_].length:Int)),(18,iA q.2)]) ([u.count_,u.quota_,u.bytes_,u.keys_].length+1) (λq=>zHG u q.1 q.2) ([],0)
def zJ3 p0:=(zKI p0).q
theorem zEF p0:∀r,zJ3 p0=some r->FP 196 [.t (.agg [iD p0.count_,iD p0.quota_,iD p0.bytes_,iD p0.keys_])] [] (.t (.own 5 1 (zU r))):=zV mixed Tryz.func196 _
def zN0(p0:O)(W:Hp):TT Int []:=
.pS p0 λi2 u=>
.s 20 4 5 u<|
.s 32 7 5 u<|
.b (W.ge_tx i2) λJ I=>
.o 10 (ld (zJ7 I))<|
.s 56 13 5 u<|
.o 16 (ld (zJ7 I))<|
.fR 17 (zAj J.l_ W) λx5=>
.iF 59 (x5 !=0) λh7=>
.s 88 21 5 u<|
.o 24 (ld (zJ7 I))<|
.iF 78 J.over_ λh8=>
.s 108 26 5 u<|
.o 29 (ld (zJ7 I))<|
.s 124 30 5 u<|
.o 33 (ld (zJ7 I))<|
.pS J.l_ λα h9=>
.s 136 33 3 h9<|
.b (W.ge_lg α) λU Z=>
.o 36 (ld (zAf Z))<|
.iF 116 (J.at_ !=U.commits_) λβ=>
.e 0
def zNq p0 W:=(zN0 p0 W).q
theorem zCX p0 W:∀r,zNq p0 W=some r->FH 193 [oA 5 p0] [] [] (hpA W) (hpA W) (iA r):=zM mixed [] Tryz.func193 _
def zNB(u:O)(W:Hp):TT Int []:=
.fR 4 (zCv u W) λx1=>
.iF 17 (!x1) λh3=>
.pS u λI J=>
.s 28 6 1 J<|
.b (W.ge_dk I) λZ U=>
.o 9 (ld (zLF U))<|
.e (Z.now_.2:Int)
def zAP p0 W:=(zNB p0 W).q
theorem yL p0 W:∀r,zAP p0 W=some r->FH 93 [oA 1 p0] [] [] (hpA W) (hpA W) (iA r):=zM mixed [] Tryz.func93 _
def zOk(U:O)(W:Hp):TT Int []:=
.pS U λZ u=>
.s 16 3 3 u<|
.s 28 6 3 u<|
.b (W.ge_lg Z) λJ I=>
.o 9 (ld (zAf I))<|
.pS J.d_ λi6 h5=>
.s 40 9 1 h5<|
.s 52 12 3 u<|
.o 15 (ld (zAf I))<|
.fR 16 (yL J.d_ W) λx7=>
.s 76 18 3 u<|
.o 21 (ld (zAf I))<|
.e (wi ((wi (x7-2))-J.size_))
def zOK p0 W:=(zOk p0 W).q
theorem zAm p0 W:∀r,zOK p0 W=some r->FH 104 [oA 3 p0] [] [] (hpA W) (hpA W) (iA r):=zM mixed [] Tryz.func104 _
def zHw(I:O)(u:Int)(W:Hp):TT Int []:=
.fR 7 (zCv I W) λx1=>
.iF 17 (!x1) λh3=>
.pS I λi5 J=>
.s 44 10 1 J<|
.b (W.ge_dk i5) λZ U=>
.o 13 (ld (zLF U))<|
.iF 29 Z.off_ λh8=>
.iF 54 (decide (u<0)) λh9=>
.s 80 19 1 J<|
.o 22 (ld (zLF U))<|
.iF 44 (decide (u>=(Z.now_.2:Int))) λα=>
.e 0
def zAz p0 p1 W:=(zHw p0 p1 W).q
theorem zCW p0 p1 W:∀r,zAz p0 p1 W=some r->FH 275 [oA 1 p0,iA p1] [] [] (hpA W) (hpA W) (iA r):=zM mixed [] Tryz.func275 _
def zM9(Z:O)(U:Int)(W:Hp):TT (Y×Int) []:=
.fR 10 (zCW Z U W) λx1=>
.iF 38 (x1 !=0) λh3=>
.pS Z λi5 h4=>
.s 60 14 1 h4<|
.b (W.ge_dk i5) λx6 h7=>
.o 17 (ld (zLF h7))<|
.b (W.ge_sec x6.now_.1) λx8 h9=>
.b (lenI x8.length x6.now_.2) λα J=>
.b (idx x8 U) λu I=>
.c 19 (idxV (yR J) I)<|
.o 20 (lrA (zVI h9) (flr_at (k:=64) I (λ_=>(by kernel_rfl))))<|
.o 7 (lnew 0 (fl (dT cU8) (padA (0:UInt8) ([]:Y) 0 64)))<|
.o 22 (lstW (OB+0) (fl (dT cU8) (padA (0:UInt8) u 0 64)))<|
.o 21 (sla)<|
.f 1 (frzB (c:=cU8) (k:=1) 4 0 (y:=(padA (0:UInt8) u 0 64)) (λ_=>rfl) (f:=hpA W) (n0:=64) (by rw[zUl]) [obB 0 cU8 (padA (0:UInt8) u 0 64),obH (hpA W)])<|
.e ((padA (0:UInt8) u 0 64),0)
def zNO p0 p1 W:=(zM9 p0 p1 W).q
theorem zDB p0 p1 W:∀r,zNO p0 p1 W=some r->FH 278 [oA 1 p0,iA p1] [] [] (hpA W) (hpA W) (.tup [yT r.1,iT r.2]):=zM mixed [0] Tryz.func278 _
def zQB(I:O)(u:Int)(W:Hp):TT Int []:=
.pS I λZ U=>
.s 24 5 3 U<|
.b (W.ge_lg Z) λx3 J=>
.o 8 (ld (zAf J))<|
.e (wi ((wi (2+x3.size_))+u))
def zPf p0 p1 W:=(zQB p0 p1 W).q
theorem zED p0 p1 W:∀r,zPf p0 p1 W=some r->FH 280 [oA 3 p0,iA p1] [] [] (hpA W) (hpA W) (iA r):=zM mixed [] Tryz.func280 _
def zPg(I:O)(Z:Int)(W:Hp):TT (Y×Int) []:=
.fR 8 (zAj I W) λx1=>
.iF 32 (x1 !=0) λh3=>
.iF 45 (decide (Z<0)) λh4=>
.fR 17 (zAm I W) λx5=>
.iF 59 (decide (Z>=x5)) λh7=>
.pS I λi9 h8=>
.s 84 20 3 h8<|
.b (W.ge_lg i9) λJ α=>
.o 23 (ld (zAf α))<|
.fR 26 (zED I Z W) λU=>
.fR 27 (zDB J.d_ U W) λu=>
.e (u.1,u.2)
def zP5 p0 p1 W:=(zPg p0 p1 W).q
theorem zMw p0 p1 W:∀r,zP5 p0 p1 W=some r->FH 283 [oA 3 p0,iA p1] [] [] (hpA W) (hpA W) (.tup [yT r.1,iT r.2]):=zM mixed [] Tryz.func283 _
def zQA(Z:O)(I:Int)(W:Hp):TT (Y×Int) []:=
.fR 10 (zCX Z W) λx1=>
.iF 38 (x1 !=0) λh3=>
.pS Z λi5 h4=>
.s 64 15 5 h4<|
.b (W.ge_tx i5) λx6 h7=>
.o 18 (ld (zJ7 h7))<|
.b (W.ge_mp x6.now_) λx8 h9=>
.o 20 (mlkH (kv:=(λz:Int=>Value.int .i64 z)) (vT:=(λv=>T.d ((λl:List UInt8=>D.seq 1 (zU l)) v))) (gl_mp h9) I (zTM (kt:=3) (by kernel_rfl)) (z:=([]:Y)) (λ_=>RepD.nilSeq _ _))<|
.i 71 ((zCt x8 I).isSome) (λU=> .fA 25 (zCm ((zCt x8 I).getD ([]:Y))) λJ=>
.e (J,0)) λU=>
.s 108 26 5 h4<|
.o 29 (ld (zJ7 h7))<|
.fR 31 (zMw x6.l_ I W) λu=>
.e (u.1,u.2)
def zJp p0 p1 W:=(zQA p0 p1 W).q
theorem zBk p0 p1 W:∀r,zJp p0 p1 W=some r->FH 198 [oA 5 p0,iA p1] [] [] (hpA W) (hpA W) (.tup [yT r.1,iT r.2]):=zM mixed [] Tryz.func198 _
def zHU(I J:Y)(u:Int):TT Bool [Int]:=
.i 44 (decide (u<(I.length:Int))) (λh3=> .b (idx I u) λZ h5=>
.ix 18 cU8 h5<|
.b (idx J u) λx6 W=>
.ix 22 cU8 W<|
.i 74 ((Z.toNat:Int) !=(x6.toNat:Int)) (λU=> .e false) λU=>
.k [] .z (wi (u+1))) λh3=>
.e true
def zEh(u I:Y):TT Bool []:=
.ln 7 u cU8<|
.ln 9 I cU8<|
.iF 32 ((u.length:Int) !=(I.length:Int)) λU=>
.ln 12 u cU8<|
.l [] (λJ=>[(0,yA u),(1,yA I),(12,iA (u.length:Int)),(13,iA J)]) (u.length+1) (λJ=>zHU u I J) 0
def zKT(I u:Y):Option Bool:=(zEh I u).run Env.nil
theorem zBM(I u:Y):∀r,zKT I u=some r->FP 199 [yA I,yA u] [] (bA r):=zV mixed Tryz.func199 (zEh I u) (by kernel_rfl)
def zGX(u:Int):TT (Int×Int) []:=
.i 86 (decide (u>4611686018427387904)) (λI=> .e (0,11)) λI=>
.e ((wi u),0)
def zGq(I:Y)(U u:Int):TT (Int×Int) [Int×Int,Int]:=
.i 56 (decide (u<(I.length:Int))) (λW=> .b (idx I u) λJ Z=>
.ix 19 cU8 Z<|
.w 24 trivial (u648E J)<|
.k [] .z ((IntKind.u64.wrap ((((BitVec.ofInt IntKind.u64.bits (IntKind.u64.wrap (U*2^8)))|||(BitVec.ofInt IntKind.u64.bits (J.toNat:Int))).toNat:Nat):Int)),(wi (u+1)))) λW=>
.k [] (.s .z) U
def zQb(u:Y):TT (Int×Int) []:=
.ln 9 u cU8<|
.i 23 ((u.length:Int)==0) (λJ=> .e (0,10)) λJ=>
.ln 13 u cU8<|
.i 35 (decide ((u.length:Int)>8)) (λU=> .e (0,2)) λU=>
.j 46 (λI=>[(4,.t (.d (.lit (.int .u64 I))))]) (λI=>zGX I)<|
.ln 16 u cU8<|
.l [] (λq=>[(4,.t (.d (.lit (.int .u64 q.1)))),(15,yA u),(16,iA (u.length:Int)),(17,iA q.2)]) (u.length+1) (λq=>zGq u q.1 q.2) (0,0)
def zDY p0:=(zQb p0).q
theorem zBa p0:∀r,zDY p0=some r->FP 257 [yA p0] [] (.tup [iT r.1,iT r.2]):=zV mixed Tryz.func257 _
def zEx(x1:(Y×Int))(U:List Int):TT (zT×Int) []:=
.b (idxA 4 U 0) λx5 h6=>
.o 47 (ixA (zTB h6))<|
.o 48 (lldA rfl (zRa (c:=cI64) (zQj h6) rfl (λ_=>rfl)))<|
.b (idxA 4 U 1) λx7 h8=>
.o 49 (ixA (zTB h8))<|
.o 50 (lldA rfl (zRa (c:=cI64) (zQj h8) rfl (λ_=>rfl)))<|
.b (idxA 4 U 2) λx9 u=>
.o 51 (ixA (zTB u))<|
.o 52 (lldA rfl (zRa (c:=cI64) (zQj u) rfl (λ_=>rfl)))<|
.b (idxA 4 U 3) λI J=>
.o 53 (ixA (zTB J))<|
.o 54 (lldA rfl (zRa (c:=cI64) (zQj J) rfl (λ_=>rfl)))<|
.fA 57 (zEF (zT.mk x5 x7 x9 I)) λW=>
.fA 59 (zBM W x1.1) λZ=>
.iF 182 (!Z) λα=>
.e ((zT.mk x5 x7 x9 I),0)
def zEv(x1:(Y×Int))(u:Int)(J:List Int):TT (zT×Int) [Int×(List Int),(List Int)]:=
.i 71 (decide (u<4)) (λW=> .b (cutI x1.1 (wi (8*u)) (wi ((wi (8*u))+8))) λα Z=>
.w 32 (cutC (c:=cU8) Z) (.oe (cutE (k:=1) (c:=cU8) Z))<|
.fA 33 (zBa α) λI=>
.iF 117 (I.2 !=0) λγ=>
.iF 125 (decide (I.1>2305843009213693952)) λβ=>
.b (idxA 4 J u) λδ U=>
.o 45 (ixA (zTB U))<|
.o 63 (lstA (n:=1) rfl (zEQ (c:=cI64) (k:=1) (q:=0) (n:=1) (zQj U) (λ_=>rfl) rfl) (zGT (x:=dT cI64 I.1) (c:=cI64) (k:=1) (q:=0) (zQj U) I.1 (λ_=>rfl) rfl rfl) rfl (OB+0))<|
.k [] .z ((wi (u+1)),(J.set (Int.toNat u) I.1))) λW=>
.k [] (.s .z) J
def zFy(U:qB)(J:O)(W:Hp):TT (zT×Int) []:=
.fR 15 (zBk J 0 W) λu=>
.iF 59 (u.2 !=0) λZ=>
.o 8 (lnew 0 (fl (dT cI64) (List.replicate 4 (0:Int))))<|
.j 54 (λI=>[(4,.box [iT 0,iT 0,iT 0,iT 0]),(6,yA u.1),(8,.t (.ptr 0 0)),((OB+0),.box (fl (dT cI64) I)),kH W]) (λI=>zEx u I)<|
.l [] (λq=>[(4,.box [iT 0,iT 0,iT 0,iT 0]),(6,yA u.1),(8,.t (.ptr 0 0)),(22,iA q.1),((OB+0),.box (fl (dT cI64) q.2)),kH W]) (Int.toNat 4+1) (λq=>zEv u q.1 q.2) (0,(List.replicate 4 (0:Int)))
def zGF p0 p1 W:=(zFy p0 p1 W).q
theorem zFC p0 p1 W:∀r,zGF p0 p1 W=some r->FH 204 [.t (.agg [iD p0.size_,iD p0.homes_,iD p0.maps_]),oA 5 p1] [] [] (hpA W) (hpA W) (.tup [.agg [iD r.1.count_,iD r.1.quota_,iD r.1.bytes_,iD r.1.keys_],iT r.2]):=zM mixed [0] Tryz.func204 _
end
set_option maxRecDepth 20000
noncomputable section
def zFE(p0:Y)(F1:Nat)(C1:(List (List D)))(p1:(UInt8->Option Bool))(hp1:∀(a0:UInt8) r,p1 a0=some r->FP F1 ([.t (.d (.lit (.int .u8 (a0.toNat:Int))))]++C1.map A.imm) [] (bA r))(hf1:∃fn,Tryz.prog.funcs[F1]? =some fn/\fn.body.isNone=false/\(fn.name== "runtime.NumGoroutine")=false)(z1:Int):TT Int [Int]:=
.i 29 (decide (z1<(p0.length:Int))) (λh2=> .b (idx p0 z1) λx3 h4=>
.ix 14 cU8 h4<|
.b (p1 x3) λx5 h6=>
.o 16 (cP (hp1 x3 _ h6) hf1)<|
.iF 50 x5 λh7=>
.k [] .z (wi (z1+1))) λh2=>
.e (-1)
def zDI(p0:Y)(F1:Nat)(C1:List (List D))(p1:(UInt8->Option Bool))(hp1:∀(a0:UInt8) r,p1 a0=some r->FP F1 ([.t (.d (.lit (.int .u8 (a0.toNat:Int))))]++C1.map A.imm) [] (bA r))(hf1:∃fn,Tryz.prog.funcs[F1]? =some fn/\fn.body.isNone=false/\(fn.name== "runtime.NumGoroutine")=false):TT Int []:=
.ln 7 p0 cU8<|
.l [] (λz1=>[(0,yA p0),(1,.t (.d (.clo F1 C1))),(7,iA (p0.length:Int)),(8,iA z1)]) (p0.length+1) (λz1=>zFE p0 F1 C1 p1 hp1 hf1 z1) 0
def zGP(p0:Y)(F1:Nat)(C1:List (List D))(p1:(UInt8->Option Bool))(hp1:∀(a0:UInt8) r,p1 a0=some r->FP F1 ([.t (.d (.lit (.int .u8 (a0.toNat:Int))))]++C1.map A.imm) [] (bA r))(hf1:∃fn,Tryz.prog.funcs[F1]? =some fn/\fn.body.isNone=false/\(fn.name== "runtime.NumGoroutine")=false):Option Int:=(zDI p0 F1 C1 p1 hp1 hf1).run Env.nil
theorem zF8(p0:Y)(F1:Nat)(C1:List (List D))(p1:(UInt8->Option Bool))(hp1:∀(a0:UInt8) r,p1 a0=some r->FP F1 ([.t (.d (.lit (.int .u8 (a0.toNat:Int))))]++C1.map A.imm) [] (bA r))(hf1:∃fn,Tryz.prog.funcs[F1]? =some fn/\fn.body.isNone=false/\(fn.name== "runtime.NumGoroutine")=false):∀r,zGP p0 F1 C1 p1 hp1 hf1=some r->FP 321 [yA p0,.t (.d (.clo F1 C1))] [] (iA r):=zV mixed Tryz.func321 (zDI p0 F1 C1 p1 hp1 hf1) (by kernel_rfl)
def zCa(p0:Y)(F1:Nat)(C1:List (List D))(p1:(UInt8->Option Bool))(hp1:∀(a0:UInt8) r,p1 a0=some r->FP F1 ([.t (.d (.lit (.int .u8 (a0.toNat:Int))))]++C1.map A.imm) [] (bA r))(hf1:∃fn,Tryz.prog.funcs[F1]? =some fn/\fn.body.isNone=false/\(fn.name== "runtime.NumGoroutine")=false):TT Bool []:=
.fA 7 (zF8 p0 F1 C1 p1 hp1 hf1) λx1=>
.e (decide (x1>=0))
def zFD(p0:Y)(F1:Nat)(C1:List (List D))(p1:(UInt8->Option Bool))(hp1:∀(a0:UInt8) r,p1 a0=some r->FP F1 ([.t (.d (.lit (.int .u8 (a0.toNat:Int))))]++C1.map A.imm) [] (bA r))(hf1:∃fn,Tryz.prog.funcs[F1]? =some fn/\fn.body.isNone=false/\(fn.name== "runtime.NumGoroutine")=false):Option Bool:=(zCa p0 F1 C1 p1 hp1 hf1).run Env.nil
theorem zCF(p0:Y)(F1:Nat)(C1:List (List D))(p1:(UInt8->Option Bool))(hp1:∀(a0:UInt8) r,p1 a0=some r->FP F1 ([.t (.d (.lit (.int .u8 (a0.toNat:Int))))]++C1.map A.imm) [] (bA r))(hf1:∃fn,Tryz.prog.funcs[F1]? =some fn/\fn.body.isNone=false/\(fn.name== "runtime.NumGoroutine")=false):∀r,zFD p0 F1 C1 p1 hp1 hf1=some r->FP 258 [yA p0,.t (.d (.clo F1 C1))] [] (bA r):=zV mixed Tryz.func258 (zCa p0 F1 C1 p1 hp1 hf1) (by kernel_rfl)
def zEV(u:UInt8):TT Bool []:=
.e ((u.toNat:Int) !=0)
def zB4 p0:=(zEV p0).q
theorem zD9 p0:∀r,zB4 p0=some r->FP 289 [.t (.d (.lit (.int .u8 (p0.toNat:Int))))] [] (bA r):=zV mixed Tryz.func289 _
def zTl(I:Int)(W:Hp):TT (O×Int×Hp) []:=
.iF 21 (decide (I<0)) λh1=>
.iF 29 (decide (I>16384)) λh2=>
.b (mkI 8 (wi (Int.tdiv (wi ((wi (I+64))-1)) 64))) λU h4=>
let Z:(List Int):=(List.replicate U (0:Int));let J:=(W.nw_w64 Z);.o 16 (mkh (c0:=dT (cInt .u64) (0:Int)) h4 (zMl (c:=(cInt .u64)) (z:=(0:Int)) (by kernel_rfl) U) (fr_w64 W) (nw_w64 W Z))<|
let u:qS:=(qS.mk I I (W.ln_w64,U) true);let w8:=(J.nw_sp u);.o 18 (nwW (fr_sp J) (nw_sp J u))<|
.e ((some J.ln_sp),0,w8)
def zOc p0 W:=(zTl p0 W).q
theorem zKj p0 W:∀r,zOc p0 W=some r->FH 99 [iA p0] [] [] (hpA W) (hpA r.2.2) (.tup [.opt 8 r.1,iT r.2.1]):=zM mixed [0] Tryz.func99 _
def zHF(J:UInt8):TT Int []:=
.b (idx ([0,1,1,2,1,2,2,3,1,2,2,3,2,3,3,4,1,2,2,3,2,3,3,4,2,3,3,4,3,4,4,5,1,2,2,3,2,3,3,4,2,3,3,4,3,4,4,5,2,3,3,4,3,4,4,5,3,4,4,5,4,5,5,6,1,2,2,3,2,3,3,4,2,3,3,4,3,4,4,5,2,3,3,4,3,4,4,5,3,4,4,5,4,5,5,6,2,3,3,4,3,4,4,5,3,4,4,5,4,5,5,6,3,4,4,5,4,5,5,6,4,5,5,6,5,6,6,7,1,2,2,3,2,3,3,4,2,3,3,4,3,4,4,5,2,3,3,4,3,4,4,5,3,4,4,5,4,5,5,6,2,3,3,4,3,4,4,5,3,4,4,5,4,5,5,6,3,4,4,5,4,5,5,6,4,5,5,6,5,6,6,7,2,3,3,4,3,4,4,5,3,4,4,5,4,5,5,6,3,4,4,5,4,5,5,6,4,5,5,6,5,6,6,7,3,4,4,5,4,5,5,6,4,5,5,6,5,6,6,7,4,5,5,6,5,6,6,7,5,6,6,7,6,7,7,8]:Y) (J.toNat:Int)) λI u=>
.w 4 (zOF u) (.oe (zNv u))<|
.w 5 trivial (zUW I)<|
.e (I.toNat:Int)
def zHB p0:=(zHF p0).q
theorem zGl p0:∀r,zHB p0=some r->FP 337 [.t (.d (.lit (.int .u8 (p0.toNat:Int))))] [] (iA r):=zV mixed Tryz.func337 _
def zO6(I:(O×Int×Hp))(u:Hp):TT (O×Int×Hp) []:=
.e (I.1,0,u)
def zNp(p1:Y)(x1:(O×Int×Hp))(Z:Int)(z5:Hp):TT (O×Int×Hp) [Int×Hp,Hp]:=
.i 158 (decide (Z<(p1.length:Int))) (λh6=> .b (idx p1 Z) λx7 h8=>
.ix 54 cU8 h8<|
.pS x1.1 λW h9=>
.s 228 56 8 h9<|
.b (z5.ge_sp W) λu δ=>
.o 59 (ld (zJ1 δ))<|
.b (z5.ge_w64 u.l_.1) λI U=>
.b (lenI I.length u.l_.2) λρ μ=>
.b (idx I (wi (Int.tdiv Z 8))) λγ θ=>
.c 62 (idxV (yR μ) θ)<|
.o 63 (ldA (zPD U) (zRa θ rfl (λ_=>rfl)))<|
.w 65 trivial (u648E x7)<|
.b (shlI .u64 (x7.toNat:Int) (IntKind.u64.wrap (wi (8*(Int.tmod Z 8))))) λJ ν=>
.o 70 (bv (shlIE (yk:= .u64) ν))<|
.b (lenI I.length u.l_.2) λσ ι=>
.b (idx I (wi (Int.tdiv Z 8))) λπ α=>
.c 72 (idxV (yR ι) α)<|
let η:(List Int):=(I.set (Int.toNat (wi (Int.tdiv Z 8))) (IntKind.u64.wrap ((((BitVec.ofInt IntKind.u64.bits γ)|||(BitVec.ofInt IntKind.u64.bits J)).toNat:Nat):Int)));let ε:=(z5.st_w64 u.l_.1 η);.o 84 (stA (n:=1) (zPD U) (zEQ (c:=(cInt .u64)) (k:=1) (q:=0) α (λ_=>(by kernel_rfl)) rfl) (zGT (x:=dT (cInt .u64) (IntKind.u64.wrap ((((BitVec.ofInt IntKind.u64.bits γ)|||(BitVec.ofInt IntKind.u64.bits J)).toNat:Nat):Int))) (c:=(cInt .u64)) (k:=1) (q:=0) α (IntKind.u64.wrap ((((BitVec.ofInt IntKind.u64.bits γ)|||(BitVec.ofInt IntKind.u64.bits J)).toNat:Nat):Int)) (λ_=>(by kernel_rfl)) (by kernel_rfl) (by kernel_rfl)) (su_w64 (x':=η) U))<|
have β:ε.ge_sp W=some u:=δ;.s 296 73 8 h9<|
.o 76 (ld (zJ1 β))<|
.fA 78 (zGl x7) λξ=>
let ζ:qS:=(qS.mk u.n_ (wi (u.free_-ξ)) u.l_ u.is_);let κ:=(ε.st_sp W ζ);.o 84 (stw (zJ1 β) (su_sp (x':=ζ) β))<|
.k [] .z ((wi (Z+1)),κ)) λh6=>
.k [] (.s .z) z5
def zOf(I:(O×Int×Hp))(u:Y):TT (O×Int×Hp) []:=
.j 70 (λJ=>[(6,oA 8 I.1),kH J]) (λJ=>zO6 I J)<|
.ln 50 u cU8<|
.l [] (λq=>[(6,oA 8 I.1),(49,yA u),(50,iA (u.length:Int)),(51,iA q.1),kH q.2]) (u.length+1) (λq=>zNp u I q.1 q.2) (0,I.2.2)
def zSI(I:Int)(u:Y)(W:Hp):TT (O×Int×Hp) []:=
.fH 13 (zKj I W) λJ=>
.j 46 (λ_=>[(1,yA u),(6,oA 8 J.1),kH J.2.2]) (λ_=>zOf J u)<|
.iF 59 (J.2.1 !=0) λε=>
.ln 25 u cU8<|
.iF 71 (decide ((u.length:Int)<(wi (Int.tdiv (wi (I+7)) 8)))) λδ=>
.ln 30 u cU8<|
.iF 86 (decide ((u.length:Int)>(wi (Int.tdiv (wi (I+7)) 8)))) λζ=>
.i 114 ((Int.tmod I 8) !=0) (λβ=> .b (idx u (wi ((wi (Int.tdiv (wi (I+7)) 8))-1))) λU Z=>
.ix 41 cU8 Z<|
.b (shrI .u8 (U.toNat:Int) (IntKind.u64.wrap (Int.tmod I 8))) λγ α=>
.o 46 (bv (shrIE (yk:= .u64) α))<|
.iF 101 (γ !=0) λη=>
.k [] .z ()) λβ=> .no
def zSi p0 p1 W:=(zSI p0 p1 W).q
theorem zPo p0 p1 W:∀r,zSi p0 p1 W=some r->FH 290 [iA p0,yA p1] [] [] (hpA W) (hpA r.2.2) (.tup [.opt 8 r.1,iT r.2.1]):=zM mixed [] Tryz.func290 _
def zET(I:qB)(W:Hp)(J:Y):TT (O×Int×Hp) []:=
.b (cutI J (wi (Int.tdiv (wi (I.homes_+7)) 8)) (J.length:Int)) λx2 Z=>
.w 38 (zS3 (c:=cU8) Z) (.oe (zTY (k:=1) (c:=cU8) Z))<|
.fA 39 (zCF x2 289 [] zB4 zD9 ⟨_,Tryz.func289,rfl,rfl⟩) λx4=>
.iF 119 x4 λh6=>
.b (cutI J 0 (wi (Int.tdiv (wi (I.homes_+7)) 8))) λx7 U=>
.w 45 (zTv (c:=cU8) U) (.oe (zSW (k:=1) (c:=cU8) U))<|
.fH 46 (zPo I.homes_ x7 W) λu=>
.iF 152 (u.2.1 !=0) λα=>
.e (u.1,0,u.2.2)
def zES(p0:qB)(p1:O)(W:Hp)(U:Y)(u:Int):TT (O×Int×Hp) [Y×Int,Y]:=
.i 50 (decide (u<p0.maps_)) (λZ=> .fR 22 (zBk p1 (wi (1+u)) W) λJ=>
.iF 80 (J.2 !=0) λβ=>
.y 28 true<|
.b (appI 1 U J.1) λα I=>
.w 30 (appC (c:=cU8) I) (.oe (appE (E:=5) (k:=1) (c:=cU8) I))<|
.y 6 true<|
.k [] .z (α,(wi (u+1)))) λZ=>
.k [] (.s .z) U
def zFZ(u:qB)(J:O)(W:Hp):TT (O×Int×Hp) []:=
.j 42 (λI=>[(2,.box [iT u.size_,iT u.homes_,iT u.maps_]),(6,.t (.own 5 1 (zU I))),kH W]) (λI=>zET u W I)<|
.l [6] (λq=>[(1,oA 5 J),(2,.box [iT u.size_,iT u.homes_,iT u.maps_]),(6,.t (.own 5 1 (zU q.1))),(14,iA u.maps_),(15,iA q.2),kH W]) (Int.toNat u.maps_+1) (λq=>zES u J W q.1 q.2) ([],0)
def zFs p0 p1 W:=(zFZ p0 p1 W).q
theorem zEb p0 p1 W:∀r,zFs p0 p1 W=some r->FH 205 [.t (.agg [iD p0.size_,iD p0.homes_,iD p0.maps_]),oA 5 p1] [] [] (hpA W) (hpA r.2.2) (.tup [.opt 8 r.1,iT r.2.1]):=zM mixed [] Tryz.func205 _
def zKK(p0:O)(W:Hp):TT (O×Int×Hp) []:=
.pS p0 λi2 h1=>
.s 32 7 10 h1<|
.s 44 10 10 h1<|
.b (W.ge_st i2) λx3 h4=>
.o 13 (ld (zHQ h4))<|
.fH 14 (zF3 x3.l_ W) λx5=>
.iF 56 (x5.2.1 !=0) λh7=>
.s 96 23 10 h1<|
.b (x5.2.2.ge_st i2) λx8 h9=>
.o 26 (ldS (zHQ h9))<|
.fA 27 (zDF x8.geometry_) λμ=>
.fH 28 (zS7 x5.1 μ x5.2.2) λu=>
let I:qE:=(qE.mk p0 x5.1 u.1 (zT.mk 0 0 0 0) none);let Z:=(u.2.nw_vw I);.o 30 (nwW (fr_vw u.2) (nw_vw u.2 I))<|
have ε:Z.ge_vw u.2.ln_vw=some I:=zTj;.s 136 33 10 h1<|
.b (Z.ge_st i2) λα θ=>
.o 36 (ldS (zHQ θ))<|
.fR 38 (zFC α.geometry_ x5.1 Z) λγ=>
let β:qE:=(qE.mk I.s_ I.t_ I.x_ γ.1 I.p_);let η:=(Z.st_vw u.2.ln_vw β);.o 63 (stw (zC0 ε) (su_vw (x':=β) ε))<|
have ι:η.ge_st i2=some α:=θ;.iF 134 (γ.2 !=0) λν=>
.s 196 48 10 h1<|
.o 51 (ldS (zHQ ι))<|
.fH 53 (zEb α.geometry_ x5.1 η) λJ=>
.b (J.2.2.ge_vw u.2.ln_vw) λU ζ=>
let δ:qE:=(qE.mk U.s_ U.t_ U.x_ U.h_ J.1);let κ:=(J.2.2.st_vw u.2.ln_vw δ);.o 63 (stw (zC0 ζ) (su_vw (x':=δ) ζ))<|
.iF 179 (J.2.1 !=0) λξ=>
.e ((some u.2.ln_vw),0,κ)
def zKA p0 W:=(zKK p0 W).q
theorem zCR p0 W:∀r,zKA p0 W=some r->FH 105 [oA 10 p0] [] [] (hpA W) (hpA r.2.2) (.tup [.opt 11 r.1,iT r.2.1]):=zM mixed [] Tryz.func105 _
def zMJ(u:Int):TT (Int×Bool) []:=
.e ((wi (Int.tmod u 64)),true)
def zMF(Z:Y)(z4 J:Int):TT (Int×Bool) [Int×Int,Int]:=
.i 53 (decide (J<(Z.length:Int))) (λh6=> .b (idx Z J) λx7 h8=>
.w 21 (zOF h8) (.oe (zNv h8))<|
.iF 72 (decide ((x7.toNat:Int)<33)) λh9=>
.b (idx Z J) λW U=>
.w 26 (zOF U) (.oe (zNv U))<|
.iF 86 (decide ((W.toNat:Int)>126)) λα=>
.b (idx Z J) λI u=>
.w 33 (zOF u) (.oe (zNv u))<|
.w 34 trivial (u328E I)<|
.k [] .z ((IntKind.u32.wrap ((IntKind.u32.wrap (31*z4))+(I.toNat:Int))),(wi (J+1)))) λh6=>
.k [] (.s .z) z4
def zPk(u:Y):TT (Int×Bool) []:=
.iF 30 (decide ((u.length:Int)<1)) λJ=>
.iF 41 (decide ((u.length:Int)>40)) λU=>
.j 46 (λI=>[(4,.t (.d (.lit (.int .u32 I))))]) (λI=>zMJ I)<|
.l [] (λq=>[(0,sA u),(4,.t (.d (.lit (.int .u32 q.1)))),(15,iA (u.length:Int)),(16,iA q.2)]) (u.length+1) (λq=>zMF u q.1 q.2) (0,0)
def zPp p0:=(zPk p0).q
theorem zCG p0:∀r,zPp p0=some r->FP 234 [sA p0] [] (.tup [iT r.1,bT' r.2]):=zV mixed Tryz.func234 _
def zGw(I:(Y×Int))(u:Int):TT (Y×Int) []:=
.e (I.1,u)
def zJN(Z:O)(U:Int)(W:Hp):TT (Y×Int) []:=
.pS Z λi2 J=>
.s 36 8 7 J<|
.s 48 11 7 J<|
.b (W.ge_ix i2) λx3 h4=>
.o 14 (ld (zTq h4))<|
.fR 16 (zBk x3.t_ U W) λu=>
.j 26 (λI=>[(6,yA u.1),(7,iA I),kH W]) (λI=>zGw u I)<|
.iF 62 (u.2==31) λh8=>
.k [] .z u.2
def zJG p0 p1 W:=(zJN p0 p1 W).q
theorem zDV p0 p1 W:∀r,zJG p0 p1 W=some r->FH 297 [oA 7 p0,iA p1] [] [] (hpA W) (hpA W) (.tup [yT r.1,iT r.2]):=zM mixed [] Tryz.func297 _
def zT9(I:Y):TT Int []:=
.fA 7 (zBa I) λu=>
.iF 35 (u.2 !=0) λJ=>
.e u.1
def zUT p0:=(zT9 p0).q
theorem zD2 p0:∀r,zUT p0=some r->FP 304 [yA p0] [] (iA r):=zV mixed Tryz.func304 _
def zKN(U:O)(u:zAc)(W:Hp):TT (Int×Int) []:=
.fR 12 (zDV U u.home_ W) λJ=>
.iF 50 (J.2 !=0) λh3=>
.b (cutI J.1 u.off_ (wi (u.off_+4))) λZ I=>
.w 24 (cutC (c:=cU8) I) (.oe (cutE (k:=1) (c:=cU8) I))<|
.fA 25 (zD2 Z) λx6=>
.e (x6,0)
def zKZ p0 p1 W:=(zKN p0 p1 W).q
theorem zDx p0 p1 W:∀r,zKZ p0 p1 W=some r->FH 235 [oA 7 p0,.t (.agg [iD p1.home_,iD p1.off_])] [] [] (hpA W) (hpA W) (.tup [iT r.1,iT r.2]):=zM mixed [] Tryz.func235 _
def zKt(J:O)(u:Int)(W:Hp):TT zAc []:=
.pS J λZ I=>
.s 24 5 7 I<|
.s 36 8 7 I<|
.b (W.ge_ix Z) λx3 U=>
.o 11 (ld (zTq U))<|
.e (zAc.mk (wi (x3.table_+(wi (Int.tdiv u 16)))) (wi (4*(Int.tmod u 16))))
def zLR p0 p1 W:=(zKt p0 p1 W).q
theorem zCd p0 p1 W:∀r,zLR p0 p1 W=some r->FH 236 [oA 7 p0,iA p1] [] [] (hpA W) (hpA W) (.t (.agg [iD r.home_,iD r.off_])):=zM mixed [] Tryz.func236 _
def zT2(u:yQ):TT Bool []:=
.fA 8 (zCG u.Key) λx1=>
.i 39 x1.2 (λh3=> .i 54 (decide (u.Version>=0)) (λU=> .i 69 (decide (u.Version<=4611686018427387904)) (λW=> .i 84 (decide (u.Len>=0)) (λI=> .i 99 (decide (u.Len<=1024)) (λZ=> .i 114 (decide (u.First>=0)) (λJ=> .e (decide (u.First<=16384))) λJ=> .no) λZ=> .no) λI=> .no) λW=> .no) λU=> .no) λh3=> .no
def zUH p0:=(zT2 p0).q
theorem zMr p0:∀r,zUH p0=some r->FP 233 [.t (.agg [sD p0.Key,iD p0.Version,iD p0.Len,iD p0.First])] [] (bA r):=zV mixed Tryz.func233 _
def zJm(u:Y)(X n0:Nat)(J:Int):TT Y []:=
.fA 10 (zBY J ((n0:Nat):Int)) λZ=>
.b (cpyI u X n0 Z.1) λI U=>
.b (lenI I.length u.length) λW _=>
.o 15 (cpy (c:=cU8) 0 (λ_=>rfl) U)<|
.e I
def zBr(I:Y)(X n0:Nat)(u:Int):Option Y:=(zJm I X n0 u).run Env.nil
theorem zBj(I:Y)(X n0:Nat)(u:Int)(W:Hp):∀r,zBr I X n0 u=some r->FH 302 [.t (.view 0 X 0 1 n0),iA u] [.box (fl (dT cU8) I)] [.box (fl (dT cU8) r)] (hpA W) (hpA W) (.tup []):=zM mixed [] Tryz.func302 (zJm I X n0 u) (by kernel_rfl)
def zLZ(u:qN)(W:Hp):TT Y []:=
.b (mkI 1 64) λI h2=>
.o 4 (mkl false 0 (c0:=dT cU8 (0:UInt8)) h2 (zMl (c:=cU8) (z:=(0:UInt8)) (by kernel_rfl) I))<|
.b (vcut I 0 4) λx3 h4=>
.o 6 (lsl (off':=(0+Int.toNat 0*1)) (n':=(Int.toNat 4-Int.toNat 0)) (zBK h4))<|
.b (zBr (List.replicate I (0:UInt8)) (0+Int.toNat 0*1) (Int.toNat 4-Int.toNat 0) u.next_) λx5 h6=>
.b (lenI x5.length (List.replicate I (0:UInt8)).length) λx7 h8=>
.o 9 (cOR [0] [] (zBj (List.replicate I (0:UInt8)) (0+Int.toNat 0*1) (Int.toNat 4-Int.toNat 0) u.next_ W _ h6) (zA4 _ _ yK) (zA4 _ _ yK))<|
.b (vcut I 4 12) λx9 η=>
.o 11 (lsl (off':=(0+Int.toNat 4*1)) (n':=(Int.toNat 12-Int.toNat 4)) (zBK η))<|
.b (zBr x5 (0+Int.toNat 4*1) (Int.toNat 12-Int.toNat 4) u.Entry.Version) λU θ=>
.b (lenI U.length x5.length) λψ γ=>
.o 15 (cOR [0] [] (zBj x5 (0+Int.toNat 4*1) (Int.toNat 12-Int.toNat 4) u.Entry.Version W _ θ) (zA4 _ _ yK) (zA4 _ _ yK))<|
.b (vcut I 12 16) λσ μ=>
.o 17 (lsl (off':=(0+Int.toNat 12*1)) (n':=(Int.toNat 16-Int.toNat 12)) (zBK μ))<|
.b (zBr U (0+Int.toNat 12*1) (Int.toNat 16-Int.toNat 12) u.Entry.Len) λα π=>
.b (lenI α.length U.length) λρ δ=>
.o 21 (cOR [0] [] (zBj U (0+Int.toNat 12*1) (Int.toNat 16-Int.toNat 12) u.Entry.Len W _ π) (zA4 _ _ yK) (zA4 _ _ yK))<|
.b (vcut I 16 20) λχ ζ=>
.o 23 (lsl (off':=(0+Int.toNat 16*1)) (n':=(Int.toNat 20-Int.toNat 16)) (zBK ζ))<|
.b (zBr α (0+Int.toNat 16*1) (Int.toNat 20-Int.toNat 16) u.Entry.First) λJ ν=>
.b (lenI J.length α.length) λφ ε=>
.o 27 (cOR [0] [] (zBj α (0+Int.toNat 16*1) (Int.toNat 20-Int.toNat 16) u.Entry.First W _ ν) (zA4 _ _ yK) (zA4 _ _ yK))<|
.w 33 trivial (u8E (u.Entry.Key.length:Int))<|
.b (idx J 20) λx27 β=>
.c 34 (idxV (n:=I) ((yR ε).trans ((yR δ).trans ((yR γ).trans ((yR h8).trans wW)))) β)<|
.o 42 (lstA (n:=1) rfl (zEQ (c:=cU8) (k:=1) (q:=0) (n:=1) β (λ_=>rfl) rfl) (zGT (x:=dT cU8 (U8 (u.Entry.Key.length:Int))) (c:=cU8) (k:=1) (q:=0) β (U8 (u.Entry.Key.length:Int)) (λ_=>rfl) rfl rfl) rfl (OB+0))<|
.b (vcut I 21 (I:Int)) λω κ=>
.o 36 (lsl (off':=(0+Int.toNat 21*1)) (n':=(Int.toNat (I:Int)-Int.toNat 21)) (zBK κ))<|
.b (cpySI (J.set (Int.toNat 20) (U8 (u.Entry.Key.length:Int))) (0+Int.toNat 21*1) (Int.toNat (I:Int)-Int.toNat 21) u.Entry.Key) λZ ι=>
.b (lenI Z.length (J.set (Int.toNat 20) (U8 (u.Entry.Key.length:Int))).length) λτ ξ=>
.o 40 (cpyS 0 ι)<|
.f 1 (frzB (c:=cU8) (k:=1) 2 0 (y:=Z) (λ_=>rfl) (f:=hpA W) (n0:=I) ((yR ξ).trans (sK.trans ((yR ε).trans ((yR δ).trans ((yR γ).trans ((yR h8).trans wW)))))).symm [obB 0 cU8 Z,obH (hpA W)])<|
.e Z
def zKh p0 W:=(zLZ p0 W).q
theorem zEE p0 W:∀r,zKh p0 W=some r->FH 237 [.t (.agg [sD p0.Entry.Key,iD p0.Entry.Version,iD p0.Entry.Len,iD p0.Entry.First,iD p0.next_])] [] [] (hpA W) (hpA W) (yA r):=zM mixed [0] Tryz.func237 _
def zNs(x7 u I x3:Int)(W:Hp)(p0 J:Y):TT (qN×Bool) []:=
.fA 41 (zMr (yQ.mk J x7 u I)) λβ=>
.i 129 β (λU=> .fR 44 (zEE (qN.mk (yQ.mk J x7 u I) x3) W) λα=>
.fA 46 (zBM α p0) λZ=>
.e ((qN.mk (yQ.mk J x7 u I) x3),Z)) λU=> .no
def zSr(u:Y)(W:Hp):TT (qN×Bool) []:=
.b (cutI u 0 4) λx1 h2=>
.w 7 (zTv (c:=cU8) h2) (.oe (zSW (k:=1) (c:=cU8) h2))<|
.fA 8 (zD2 x1) λx3=>
.b (cutI u 4 12) λx5 h6=>
.w 11 (cutC (c:=cU8) h6) (.oe (cutE (k:=1) (c:=cU8) h6))<|
.fA 12 (zD2 x5) λx7=>
.b (cutI u 12 16) λx9 γ=>
.w 14 (cutC (c:=cU8) γ) (.oe (cutE (k:=1) (c:=cU8) γ))<|
.fA 15 (zD2 x9) λZ=>
.b (cutI u 16 20) λζ β=>
.w 17 (cutC (c:=cU8) β) (.oe (cutE (k:=1) (c:=cU8) β))<|
.fA 18 (zD2 ζ) λα=>
.j 26 (λI=>[(0,yA u),(2,.box [sT [],iT 0,iT 0,iT 0,iT 0]),(4,.box [sT I,iT x7,iT Z,iT α,iT x3]),kH W]) (λI=>zNs x7 Z α x3 W u I)<|
.b (idx u 20) λU η=>
.ix 26 cU8 η<|
.w 28 trivial (zUW U)<|
.i 92 (decide ((U.toNat:Int)<=40)) (λε=> .b (cutI u 21 (wi (21+(U.toNat:Int)))) λJ δ=>
.w 34 (cutC (c:=cU8) δ) (.oe (cutE (k:=1) (c:=cU8) δ))<|
.w 35 (zGB J) (.oe (strE J))<|
.k [] .z J) λε=> .no
def zTF p0 W:=(zSr p0 W).q
theorem zPm p0 W:∀r,zTF p0 W=some r->FH 298 [yA p0] [] [] (hpA W) (hpA W) (.tup [.agg [sD r.1.Entry.Key,iD r.1.Entry.Version,iD r.1.Entry.Len,iD r.1.Entry.First,iD r.1.next_],bT' r.2]):=zM mixed [] Tryz.func298 _
def zH7(p0:O)(w0:Hp)(p1:Int)(F2:Nat)(C2:(List (List D)))(p2:(Int->qN->Option Bool))(hp2:∀(a0:Int) (a1:qN) r,p2 a0 a1=some r->FP F2 ([iA a0,.t (.agg [sD a1.Entry.Key,iD a1.Entry.Version,iD a1.Entry.Len,iD a1.Entry.First,iD a1.next_])]++C2.map A.imm) [] (bA r))(hf2:∃fn,Tryz.prog.funcs[F2]? =some fn/\fn.body.isNone=false/\(fn.name== "runtime.NumGoroutine")=false)(z6 z7 z8 z9:Int):TT (zAc×Int×qN×Int) [Int×Int×Int×Int]:=
.i 104 (z8==0) (λh10=> .e ((zAc.mk 0 0),0,(qN.mk (yQ.mk [] 0 0 0) 0),35)) λh10=>
.fR 40 (zDV p0 z8 w0) λx11=>
.iF 134 (x11.2 !=0) λh13=>
.fR 50 (zPm x11.1 w0) λx14=>
.fA 57 (zCG x14.1.Entry.Key) λx16=>
.iF 195 (!x14.2) λh18=>
.iF 210 (x16.1 !=p1) λh19=>
.iF 218 (decide ((wi (z9+1))>16384)) λh20=>
.b (p2 z8 x14.1) λx21 h22=>
.o 78 (cP (hp2 z8 x14.1 _ h22) hf2)<|
.i 236 x21 (λh23=> .e ((zAc.mk z6 z7),z8,x14.1,0)) λh23=> .no
def zFO(p0:O)(p1:Int)(F2:Nat)(C2:List (List D))(p2:(Int->qN->Option Bool))(hp2:∀(a0:Int) (a1:qN) r,p2 a0 a1=some r->FP F2 ([iA a0,.t (.agg [sD a1.Entry.Key,iD a1.Entry.Version,iD a1.Entry.Len,iD a1.Entry.First,iD a1.next_])]++C2.map A.imm) [] (bA r))(hf2:∃fn,Tryz.prog.funcs[F2]? =some fn/\fn.body.isNone=false/\(fn.name== "runtime.NumGoroutine")=false)(w0:Hp):TT (zAc×Int×qN×Int) []:=
.fR 21 (zCd p0 p1 w0) λx1=>
.fR 25 (zDx p0 x1 w0) λx3=>
.iF 89 (x3.2 !=0) λh5=>
.l [] (λq=>[(0,oA 7 p0),(1,iA p1),(2,.t (.d (.clo F2 C2))),(6,.box [iT 0,iT 0]),(8,.box [sT [],iT 0,iT 0,iT 0,iT 0]),(10,.box [iT q.1,iT q.2.1]),(11,iA q.2.2.1),(13,iA q.2.2.2),kH w0]) (16400) (λq=>zH7 p0 w0 p1 F2 C2 p2 hp2 hf2 q.1 q.2.1 q.2.2.1 q.2.2.2) (x1.home_,x1.off_,x3.1,0)
def zKq(p0:O)(p1:Int)(F2:Nat)(C2:List (List D))(p2:(Int->qN->Option Bool))(hp2:∀(a0:Int) (a1:qN) r,p2 a0 a1=some r->FP F2 ([iA a0,.t (.agg [sD a1.Entry.Key,iD a1.Entry.Version,iD a1.Entry.Len,iD a1.Entry.First,iD a1.next_])]++C2.map A.imm) [] (bA r))(hf2:∃fn,Tryz.prog.funcs[F2]? =some fn/\fn.body.isNone=false/\(fn.name== "runtime.NumGoroutine")=false)(w0:Hp):Option (zAc×Int×qN×Int):=(zFO p0 p1 F2 C2 p2 hp2 hf2 w0).run Env.nil
theorem zJJ(p0:O)(p1:Int)(F2:Nat)(C2:List (List D))(p2:(Int->qN->Option Bool))(hp2:∀(a0:Int) (a1:qN) r,p2 a0 a1=some r->FP F2 ([iA a0,.t (.agg [sD a1.Entry.Key,iD a1.Entry.Version,iD a1.Entry.Len,iD a1.Entry.First,iD a1.next_])]++C2.map A.imm) [] (bA r))(hf2:∃fn,Tryz.prog.funcs[F2]? =some fn/\fn.body.isNone=false/\(fn.name== "runtime.NumGoroutine")=false)(w0:Hp):∀r,zKq p0 p1 F2 C2 p2 hp2 hf2 w0=some r->FH 220 [oA 7 p0,iA p1,.t (.d (.clo F2 C2))] [] [] (hpA w0) (hpA w0) (.tup [.agg [iD r.1.home_,iD r.1.off_],iT r.2.1,.agg [sD r.2.2.1.Entry.Key,iD r.2.2.1.Entry.Version,iD r.2.2.1.Entry.Len,iD r.2.2.1.Entry.First,iD r.2.2.1.next_],iT r.2.2.2]):=zM mixed [] Tryz.func220 (zFO p0 p1 F2 C2 p2 hp2 hf2 w0) (by kernel_rfl)
def zIs(J:Int)(I:qN)(u:Y):TT Bool []:=
.w 10 trivial (seqE I.Entry.Key u)<|
.e (I.Entry.Key==u)
def zDy p0 p1 c2:=(zIs p0 p1 c2).q
theorem zHX p0 p1 c2:∀r,zDy p0 p1 c2=some r->FP 295 [iA p0,.t (.agg [sD p1.Entry.Key,iD p1.Entry.Version,iD p1.Entry.Len,iD p1.Entry.First,iD p1.next_]),.imm [sD c2]] [] (bA r):=zV mixed Tryz.func295 _
def zKk(Z:O)(u:Y)(W:Hp):TT (zAc×Int×qN×Int) []:=
.fA 12 (zCG u) λU=>
.iF 50 (!U.2) λh3=>
.f 18 (fzV 3)<|
.fR 22 (zJJ Z U.1 295 [[sD u]] (λJ a1=>zDy J a1 u) (λJ a1 r h=>zHX J a1 u r h) ⟨_,Tryz.func295,rfl,rfl⟩ W) λI=>
.e (I.1,I.2.1,I.2.2.1,I.2.2.2)
def zKi p0 p1 W:=(zKk p0 p1 W).q
theorem zEH p0 p1 W:∀r,zKi p0 p1 W=some r->FH 217 [oA 7 p0,sA p1] [] [] (hpA W) (hpA W) (.tup [.agg [iD r.1.home_,iD r.1.off_],iT r.2.1,.agg [sD r.2.2.1.Entry.Key,iD r.2.2.1.Entry.Version,iD r.2.2.1.Entry.Len,iD r.2.2.1.Entry.First,iD r.2.2.1.next_],iT r.2.2.2]):=zM mixed [] Tryz.func217 _
def zKy(J:O)(I:Y)(W:Hp):TT (yQ×Int×Int) []:=
.fR 14 (zEH J I W) λu=>
.e (u.2.2.1.Entry,u.2.1,u.2.2.2)
def zKc p0 p1 W:=(zKy p0 p1 W).q
theorem zCl p0 p1 W:∀r,zKc p0 p1 W=some r->FH 121 [oA 7 p0,sA p1] [] [] (hpA W) (hpA W) (.tup [.agg [sD r.1.Key,iD r.1.Version,iD r.1.Len,iD r.1.First],iT r.2.1,iT r.2.2]):=zM mixed [] Tryz.func121 _
def zV3(u:Int):TT Bool []:=
.i 18 (decide (u>=0)) (λI=> .e (decide (u<=1024))) λI=> .no
def zVt p0:=(zV3 p0).q
theorem zKX p0:∀r,zVt p0=some r->FP 218 [iA p0] [] (bA r):=zV mixed Tryz.func218 _
def zS6(u:Int):TT Int []:=
.fA 4 (zKX u) λI=>
.iF 17 (!I) λJ=>
.e (wi (Int.tdiv (wi ((wi (u+60))-1)) 60))
def zS4 p0:=(zS6 p0).q
theorem zDJ p0:∀r,zS4 p0=some r->FP 212 [iA p0] [] (iA r):=zV mixed Tryz.func212 _
abbrev zA5(a:(zAy×Int)):List A:=[.t (.agg [iD a.1.home_,yD a.1.data_]),iA a.2]
def zK4{X:Type}(yld:((zAy×Int)->X×Hp->Option (Bool×(X×Hp))))(z:(Option (ItC Tryz.prog hpA zA5 X yld)))(u:Int)(I:(X×Hp)):TT (X×Hp) []:=
.iF 152 (u !=0) λJ=>
.e I
def zKp{X:Type}(yld:((zAy×Int)->X×Hp->Option (Bool×(X×Hp))))(z:(Option (ItC Tryz.prog hpA zA5 X yld)))(β:(X×Hp))(u:(Y×Int))(z8:Int)(z9:Int)(δ:Int):TT (X×Hp) [Int×Int×(X×Hp),Int×(X×Hp)]:=
.iF 92 (δ !=0) λζ=>
.b (cutI u.1 4 (u.1.length:Int)) λγ J=>
.w 38 (zS3 (c:=cU8) J) (.oe (zTY (k:=1) (c:=cU8) J))<|
.b (yld ((zAy.mk z8 γ),0) β) λI Z=>
.vv 40 (yr z Z)<|
.iF 125 (!I.1) λε=>
.b (cutI u.1 0 4) λW U=>
.w 44 (zTv (c:=cU8) U) (.oe (zSW (k:=1) (c:=cU8) U))<|
.fA 45 (zBa W) λα=>
.k [] .z (α.1,(wi (z9+1)),I.2)
def zK5{X:Type}(yld:((zAy×Int)->X×Hp->Option (Bool×(X×Hp))))(z:(Option (ItC Tryz.prog hpA zA5 X yld)))(x6:Int)(c3:Nat)(U:Int)(W:Int)(u:(X×Hp)):TT (X×Hp) [Int×Int×(X×Hp),Int×(X×Hp)]:=
.i 38 (decide (W<x6)) (λβ=> .b (zJp (some c3) U u.2) λI Z=>
.o 16 (cRZ z u (zBk (some c3) U u.2 _ Z) nc_hpA)<|
.j 26 (λJ=>[(0,.t (.d (.lit (yv (itL z))))),(3,.imt [.opt 5 (some c3)]),(5,iA U),(6,yA I.1),(7,iA J),(10,iA x6),(11,iA W),(HK,.hp (itH z u))]) (λJ=>zKp yld z u I U W J)<|
.iF 66 (I.2==31) λδ=>
.i 75 (I.2==0) (λα=> .iF 86 (U==0) λγ=>
.k [] .z I.2) λα=> .no) λβ=>
.k [] (.s .z) (U,u)
def zHp{X:Type}(yld:(zAy×Int)->X×Hp->Option (Bool×(X×Hp)))(z:Option (ItC Tryz.prog hpA zA5 X yld))(U:Int)(J:Int)(I:Nat)(W:X×Hp):TT (X×Hp) []:=
.j 46 (λq=>[(0,.t (.d (.lit (yv (itL z))))),(5,iA q.1),(HK,.hp (itH z q.2))]) (λq=>zK4 yld z q.1 q.2)<|
.fA 10 (zDJ J) λu=>
.l [] (λq=>[(0,.t (.d (.lit (yv (itL z))))),(3,.imt [.opt 5 (some I)]),(5,iA q.1),(10,iA u),(11,iA q.2.1),(HK,.hp (itH z q.2.2))]) (Int.toNat u+1) (λq=>zK5 yld z u I q.1 q.2.1 q.2.2) (U,0,W)
def zHf{X:Type}(yld:(zAy×Int)->X×Hp->Option (Bool×(X×Hp)))(I:Int)(u:Int)(J:Nat)(W:X×Hp):Option (X×Hp):=(zHp yld none I u J W).run Env.nil
theorem zNI(I u:Int)(J:Nat):ITR Tryz.prog 296 [[iT I],[iT u],[.opt 5 (some J)]] hpA zA5 (λX yld q=>zHf yld I u J q):=itr_chk mixed Tryz.func296 [] (λX yld z q=>zHp yld z I u J q) (λ_ _ _ _=>rfl) (by kernel_rfl)
def zMn(I:O)(u J:Int)(W:Hp):TT (Int×Int×Nat) []:=
.p I (λ_=> .no) λZ U=>
.s 5 0 5 U<|
.f 6 (fzT 4)<|
.f 6 (fzT 5)<|
.f 6 (fzT 3)<|
.e (u,J,Z)
def zTb(J:O)(u I:Int)(W:Hp):Option (Int×Int×Nat):=(zMn J u I W).run Env.nil
theorem zPQ(J:O)(u I:Int)(W:Hp):∀r,zTb J u I W=some r->FH 219 [oA 5 J,iA u,iA I] [] [] (hpA W) (hpA W) (.cl 296 [[iT r.1],[iT r.2.1],[.opt 5 (some r.2.2)]]):=zM mixed [] Tryz.func219 (zMn J u I W) (by kernel_rfl)
def zGQ(Z:zAy)(I z8:Int)(z9:Y)(U:Hp):TT (Bool×(Int×Y)×Hp) []:=
.iF 71 (I !=0) λW=>
.y 25 true<|
.b (appI 1 z9 Z.data_) λJ u=>
.w 28 (appC (c:=cU8) u) (.oe (appE (E:=5) (k:=1) (c:=cU8) u))<|
.e (true,(z8,J),U)
theorem zPv(u:Int):RndOK Tryz.prog 122 0 [6,7,8] [20,21] zA5 hpA (λb:(Int×Y)=>[[nT],[iT b.1],[.own 5 1 (zU b.2)]]) [(2,iA u)] (λ(a:(zAy×Int)) (b:(Int×Y)) w=>(zGQ a.1 a.2 b.1 b.2 w).run Env.nil):=rnd_chk mixed Tryz.func122 0 (λ(a:(zAy×Int)) (b:(Int×Y)) w=>zGQ a.1 a.2 b.1 b.2 w) (by kernel_rfl)
def zRt(u:((Bool×(Int×Y))×Hp))(U:Int):TT (Y×Int×Hp) []:=
.b (cutI u.1.2.2 0 U) λJ I=>
.w 45 (zTv (c:=cU8) I) (.oe (zSW (k:=1) (c:=cU8) I))<|
.e (J,0,u.2)
def zRK(I:Y)(W:((Bool×(Int×Y))×Hp))(u:Int):TT (Y×Int×Hp) [Int,Unit]:=
.i 113 (decide (u<(I.length:Int))) (λZ=> .b (idx I u) λU J=>
.ix 38 cU8 J<|
.iF 125 ((U.toNat:Int) !=0) λα=>
.k [] .z (wi (u+1))) λZ=>
.k [] (.s .z) ()
def zQT(p0:O)(p1 J:Int)(W:Hp):TT (Y×Int×Hp) []:=
.p p0 (λ_=> .no) λi2 h1=>
.s 5 0 5 h1<|
.fA 14 (zKX J) λx3=>
.iF 47 (!x3) λh5=>
.fR 19 (zPQ (some i2) p1 J W) λZ=>
.b (zHf (lpY (λ(a:(zAy×Int)) (b:(Int×Y)) w=>(zGQ a.1 a.2 b.1 b.2 w).run Env.nil)) Z.1 Z.2.1 Z.2.2 ((true,(0,[])),W)) λu β=>
.rr (rg 19 [8] (zNI Z.1 Z.2.1 Z.2.2) (zPv J) β nc_hpA (λ_=>rfl) (λb=>(all_cons (p:=nzC) (zKv zCk) (all_cons (p:=nzC) (zKv zCk) (all_cons (p:=nzC) (zGc zCk) all_nil)))) (λ_=>⟨rfl,rfl⟩) ⟨.inl ⟨rfl,rfl⟩,trivial⟩) u.1.1 (λγ=>
.j 66 (λ_=>[(2,iA J),(6,.box [nT]),(7,.box [iT u.1.2.1]),(8,.box [.own 5 1 (zU u.1.2.2)]),kH u.2]) (λ_=>zRt u J)<|
.ln 32 u.1.2.2 cU8<|
.b (cutI u.1.2.2 (if(u.1.2.2.length:Int)<J then(u.1.2.2.length:Int)else J) (u.1.2.2.length:Int)) λI α=>
.w 34 (zS3 (c:=cU8) α) (.oe (zTY (k:=1) (c:=cU8) α))<|
.ln 35 I cU8<|
.l [] (λU=>[(2,iA J),(6,.box [nT]),(7,.box [iT u.1.2.1]),(8,.box [.own 5 1 (zU u.1.2.2)]),(34,yA I),(35,iA (I.length:Int)),(36,iA U),kH u.2]) (I.length+1) (λU=>zRK I u U) 0) (([],u.1.2.1,u.2))
def zVz(J:O)(u I:Int)(W:Hp):Option (Y×Int×Hp):=(zQT J u I W).run Env.nil
theorem zSc(J:O)(u I:Int)(W:Hp):∀r,zVz J u I W=some r->FH 122 [oA 5 J,iA u,iA I] [] [] (hpA W) (hpA r.2.2) (.tup [yT r.1,iT r.2.1]):=zVP mixed [] Tryz.func122 (zQT J u I W) (by kernel_rfl)
def zL0(p0:O)(p1:Y)(W:Hp):TT (zMQ×Int×Hp) []:=
.fH 13 (zCR p0 W) λI=>
.iF 53 (I.2.1 !=0) λh3=>
.pS I.1 λi5 Z=>
.s 88 21 11 Z<|
.b (I.2.2.ge_vw i5) λx6 h7=>
.o 24 (ld (zC0 h7))<|
.fR 26 (zCl x6.x_ p1 I.2.2) λJ=>
.i 95 (J.2.2 !=0) (λU=> .e ((zMQ.mk 0 []),J.2.2,I.2.2)) λU=>
.s 144 35 11 Z<|
.o 38 (ld (zC0 h7))<|
.fH 43 (zSc x6.t_ J.1.First J.1.Len I.2.2) λu=>
.iF 143 (u.2.1 !=0) λα=>
.e ((zMQ.mk J.1.Version u.1),0,u.2.2)
def zDd p0 p1 W:=(zL0 p0 p1 W).q
theorem zEf p0 p1 W:∀r,zDd p0 p1 W=some r->FH 34 [oA 10 p0,sA p1] [] [] (hpA W) (hpA r.2.2) (.tup [.agg [iD r.1.Version,yD r.1.Data],iT r.2.1]):=zM mixed [] Tryz.func34 _
def zQE(u:List V):TT V []:=
.e (V.mk 3 0 [] u)
def zIz p0:=(zQE p0).q
theorem zUK p0:∀r,zIz p0=some r->FP 140 [.t (.d (.seq 4 (List.map V.cells p0)))] [] (.t (.agg [iD r.k,iD r.n,nD,.seq 4 (List.map V.cells r.l)])):=zV mixed Tryz.func140 _
def zO5(u:Y):TT V []:=
.e (V.mk 2 0 u [])
def zCy p0:=(zO5 p0).q
theorem zHq p0:∀r,zCy p0=some r->FP 144 [yA p0] [] (.t (.agg [iD r.k,iD r.n,yD r.b,nD])):=zV mixed Tryz.func144 _
def zBx(u:zB)(U I:Int):TT (Y×zB) []:=
.i 83 (I !=0) (λW=> .e ([],(zB.mk u.b_ I))) λW=>
.b (cutI u.b_ 0 U) λx3 Z=>
.w 34 (cutCh3 (c:=cU8) Z) (.oe (zSW (k:=1) (c:=cU8) Z))<|
.b (cutI u.b_ U (u.b_.length:Int)) λx5 J=>
.w 41 (zS3 (c:=cU8) J) (.oe (zTY (k:=1) (c:=cU8) J))<|
.e (x3,(zB.mk x5 I))
def zEq(u:zB)(I:Int):TT (Y×zB) []:=
.j 14 (λJ=>[(0,.box [yT u.b_,iT J]),(1,iA I)]) (λJ=>zBx u I J)<|
.i 36 (u.e_==0) (λZ=> .ln 17 u.b_ cU8<|
.i 59 (decide (I>(u.b_.length:Int))) (λU=> .k [] .z 10) λU=>
.k [] .z u.e_) λZ=>
.k [] .z u.e_
def zY p0 p1:=(zEq p0 p1).q
theorem zBN p0 p1:∀r,zY p0 p1=some r->FP 309 [.box [yT p0.b_,iT p0.e_],iA p1] [(0,[yT r.2.b_,iT r.2.e_])] (yA r.1):=zV mixed Tryz.func309 _
def zPC(u:Int):TT V []:=
.e (V.mk 1 u [] [])
def zC1 p0:=(zPC p0).q
theorem zDz p0:∀r,zC1 p0=some r->FP 143 [iA p0] [] (.t (.agg [iD r.k,iD r.n,nD,nD])):=zV mixed Tryz.func143 _
def zEK(U:zB)(I:Int):TT (Int×zB) []:=
.fM 10 0 0 (zBN U I) λu=>
.fA 11 (zBa u.1) λJ=>
.e (J.1,u.2)
def qC p0 p1:=(zEK p0 p1).q
theorem zCO p0 p1:∀r,qC p0 p1=some r->FP 311 [.box [yT p0.b_,iT p0.e_],iA p1] [(0,[yT r.2.b_,iT r.2.e_])] (iA r.1):=zV mixed Tryz.func311 _
def zEi(u:zB):TT zB []:=
.i 20 (u.e_==0) (λI=> .e (zB.mk u.b_ 11)) λI=>
.e u
def zQ p0:=(zEi p0).q
theorem yW p0:∀r,zQ p0=some r->FP 312 [.box [yT p0.b_,iT p0.e_]] [(0,[yT r.b_,iT r.e_])] (.tup []):=zV mixed Tryz.func312 _
end
end Go.Proofs.YtocolhfjpadaoaaGreatDoor
