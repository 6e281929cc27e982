/- LetterNests answers true for all numbers and flags, at any start: texts of this proof, merged. -/
import Derived.Test.YtmpiobfdchlikaaGreatDoorNk
import Derived.Test.YtmpiobfdchlikaaGreatDoorTie
import Derived.Test.YtmpiobfdchlikaaGreatDoorCards
import Derived.SevenTiedAt
set_option linter.unusedVariables false
set_option linter.unusedSimpArgs false
set_option maxHeartbeats 4000000
section
set_option synthInstance.maxSize 4000
set_option maxRecDepth 100000
namespace Go.Proofs.YtmpiobfdchlikaaGreatDoor
open Go.RowKit Nun
open Go.ChangeShapes Go.WideShapes Go.ChangeAt
open Go.ChangeMaps (open_string shut_string)
def ΓN:Glob where
 D g:=g=0
 G:=zfu
 lt w h g hg:=by
  subst hg;obtain ⟨m,hm⟩:=h;exact World.block_lt_of_cell? w _ hm
 keep w w' h hk:=by
  obtain ⟨m,hm⟩:=h
  refine ⟨m,?_⟩
  unfold World.cell? at hm ⊢;rw [hk _ rfl];exact hm
noncomputable def libN:Nun.Callee:=both zrq libR
theorem ykh:zbv Tryz.prog ΓN libN:=zeo (z8h yjp (yc5 fun w h=>h)) ykf
theorem yqd:zus libN:=fun s hs=>zg3 (z8g s hs)
theorem lN_R:LibR libN:=⟨fun s h=>by unfold libN;rw [zat (zkq (by decide))];exact zxc.fold s h,fun s h=>by unfold libN;rw [zat (zkq (by decide))];exact zxc.dq s h,fun s h=>by unfold libN;rw [zat (zkq (by decide))];exact zxc.um s h,fun s h=>by unfold libN;rw [zat (zkq (by decide))];exact zxc.par s h,fun s h=>by unfold libN;rw [zat (zkq (by decide))];exact zxc.spl s h⟩
theorem okN:zbv Tryz.prog ΓN (evW code libN):=z3y Tryz.checked.mixed (by kernel_rfl) zt7 ykh
theorem zo1 (d k:Int) (b:Bool) (w:World) (hm:zfu w) (hd:(Lit.int .u8 d).wf=true) (hk:(Lit.int .u8 k).wf=true):Calls Tryz.prog 5 #[.int .u8 d,.int .u8 k,.bool b] w (Ret (.bool true) w):=by
 have hb:∀ n:Int,(Lit.int .u8 n).wf=true→0≤n∧n≤255:=fun n hn=>by
  have h1:IntKind.min .u8=0:=rfl
  have h2:IntKind.max .u8=255:=rfl
  simpa [Lit.wf,h1,h2] using hn
 obtain ⟨d0,d1⟩:=hb d hd
 obtain ⟨k0,k1⟩:=hb k hk
 obtain ⟨x,rfl⟩:∃ x:Nat,d=(x:Int):=⟨d.toNat,by omega⟩
 obtain ⟨y,rfl⟩:∃ y:Nat,k=(y:Int):=⟨k.toNat,by omega⟩
 exact z9k okN (by decide) (ydq yqd lN_R x y (by omega) (by omega) b) hm (Fr:=fun _=>0) (vs:=[.int .u8 x,.int .u8 y,.bool b]) (by simp [Rds,Rd,zcm])
namespace letterNestsDone
theorem own:ownKnob Tryz.prog.godebug=none:=by kernel_rfl
set_option maxRecDepth 100000 in
theorem lifted (os:Os) (started:os.Started) (H:Type) (enc:TypeId × Value→H) :
 ReturnsInHanded {} Tryz.checked os 5 .any (fun w args=>(Rows.letterNestsSpec.pre enc Tryz.prog Tryz.f5 [] false w args∧laidMetH Tryz.prog [("unicode/utf8.acceptRanges",Rows.laid_unicode_utf8_acceptRanges),("unicode/utf8.first",Rows.laid_unicode_utf8_first)] w)∧sizedMet enc Tryz.prog Tryz.f5 (OpenSpec.ofChange Rows.letterNestsSpec) false w args)
  (Rows.letterNestsSpec.post enc Tryz.prog Tryz.f5 false true false false):=by
 refine zev (C:=Tryz.checked) (X:=fun w _=>laidMetH Tryz.prog [("unicode/utf8.acceptRanges",Rows.laid_unicode_utf8_acceptRanges),("unicode/utf8.first",Rows.laid_unicode_utf8_first)] w) (fun _ _ _ hh h=>h.of_heap hh) own started (by kernel_rfl) Tryz.func5
  (ChangeSpec.witness_shaped (enc:=enc) (C:=Tryz.checked) (os:=os) (X:=fun w _=>laidMetH Tryz.prog [("unicode/utf8.acceptRanges",Rows.laid_unicode_utf8_acceptRanges),("unicode/utf8.first",Rows.laid_unicode_utf8_first)] w) false (yqc os) #[.int .u8 0,.int .u8 0,.bool false] 8 rfl (World.shaped_of_RefB (by kernel_rfl) (by kernel_rfl)) (by kernel_rfl) (by kernel_rfl) (by kernel_rfl) (yd3 os _)) ?_
 intro W base args ds gs before hval0 hW _ _ hL hsh _
 have hval:∀ (j:Nat) t v,Tryz.f5.params[j]? =some t→args[j]? =some v→Value.okWide Tryz.prog W .any base t v:=hval0
 have hW':=hW
 obtain ⟨p,q,hA0,hV,rfl,hfz,hnd⟩:=hW
 have hA:DataW.TrodAll enc Tryz.prog W 0 (fun _=>true) true Tryz.f5.params.toList args.toList ds p:=hA0
 rw [Tryz.params5] at hA hval
 obtain ⟨v0,vs0,d0,ds0,p0,q0,hargs,rfl,rfl,h0,r0⟩:=trodAll_cons hA
 obtain ⟨v1,vs1,d1,ds1,p1,q1,rfl,rfl,rfl,h1,r1⟩:=trodAll_cons r0
 obtain ⟨v2,vs2,d2,ds2,p2,q2,rfl,rfl,rfl,h2,r2⟩:=trodAll_cons r1
 obtain ⟨rfl,rfl,rfl⟩:=trodAll_nil r2
 obtain rfl:args=#[v0,v1,v2]:=by cases args;simp_all
 obtain ⟨rfl,rfl⟩:=trodVars_none hV
 obtain ⟨d,rfl,rfl,rfl,w0⟩:=open_int Tryz.underlying5 (hval 0 5 v0 rfl rfl) h0
 obtain ⟨k,rfl,rfl,rfl,w1⟩:=open_int Tryz.underlying5 (hval 1 5 v1 rfl rfl) h1
 obtain ⟨b,rfl,rfl,rfl⟩:=open_bool Tryz.underlying4 (hval 2 4 v2 rfl rfl) h2
 clear hA0 hval0
 refine (zo1 d k b W (zxd hsh) w0 w1).mono fun e W' ⟨he,bel⟩=>?_
 subst he
 exact ⟨_,rfl,_,_,_,[],_,[],hW',trodAll_mk1 (shut_bool Tryz.underlying4 _),(trodAll_cons_mk (shut_int Tryz.underlying5 w0) (trodAll_cons_mk (shut_int Tryz.underlying5 w1) (trodAll_cons_mk (shut_bool Tryz.underlying4 b) trodAll_mk0))),rfl,bel.frame _,fun h=>by cases h⟩
theorem over:Rows.letterNestsRow.holds Tryz.pinned (OpenSpec.ofChange Rows.letterNestsSpec) :=
 OpenClaim.holds_of_wide 5 Tryz.f5 rfl rfl rfl rfl rfl rfl rfl ⟨rfl,rfl,rfl,rfl,rfl⟩ rfl rfl rfl rfl rfl (by kernel_rfl) Tryz.func5 (by kernel_rfl)
  (of_decide_eq_true (by kernel_rfl)) (by unfold Func.isWrapper;first | (rw [if_pos (by decide +kernel)];kernel_rfl) | (rw [if_neg (by decide +kernel)];exact ⟨rfl,rfl⟩))
  (fun os started H enc _=>lifted os started H enc)
theorem proved:Rows.LetterNestsCardSaid :=
 Claim7.holds_tied_plain_at .later [] [.data,.pinned] true (true,"e420b8c8c04be5be850ab7770be3e24bcc9ecd9650fc6a74deb89aa4cf9c60c4") true
  over (fun _ h=>by cases h) (by kernel_rfl) (fun _ h=>by cases h) letterNests_row_tie rfl ⟨rfl,rfl⟩ (by kernel_rfl) rfl
  (fun f fn hf hfn=>by
    obtain rfl:f=5:=Option.some.inj ((show Tryz.prog.funcNamed "nuncio/nunciolaw14.LetterNests"=some 5 by kernel_rfl).symm.trans hf) |>.symm
    obtain rfl:fn=Tryz.f5:=(Option.some.inj (Tryz.func5.symm.trans hfn)).symm
    exact ⟨by kernel_rfl,fun j t ht=>by
     rw [Tryz.params5] at ht
     have hm:t∈[5,5,4]:=by simpa using Array.mem_of_getElem? ht
     have hall:([5,5,4].all fun u=>!Tryz.prog.wantsStandIn u)=true:=by kernel_rfl
     exact (show Tryz.prog.wantsStandIn t=false by simpa using List.all_eq_true.1 hall t hm)⟩)
  (by kernel_rfl)
end letterNestsDone
end Go.Proofs.YtmpiobfdchlikaaGreatDoor
end
