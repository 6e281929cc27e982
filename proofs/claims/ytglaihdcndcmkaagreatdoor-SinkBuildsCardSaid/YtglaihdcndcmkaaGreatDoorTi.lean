/- What is built of a mail, a webhook message or a post is read, and its texts are found (SinkBuilds is true), where three tables are laid as start-up lays them. -/
import Derived.Test.YtglaihdcndcmkaaGreatDoorTh
import Derived.Test.YtglaihdcndcmkaaGreatDoorTie
import Derived.Test.YtglaihdcndcmkaaGreatDoorCards
import Derived.SevenTiedAt
set_option linter.all false
open ya Go.RowKit
set_option maxHeartbeats 4000000
section
set_option synthInstance.maxSize 4000
set_option maxRecDepth 100000
namespace Go.Proofs.YtglaihdcndcmkaaGreatDoor
open Go.ChangeShapes Go.WideShapes Go.ChangeAt
namespace sinkBuildsDone
def own:ownKnob Tryz.prog.godebug=none:=ca
def kids:Kids Tryz.prog (·<Tryz.prog.types.size):=kids_rows ca ca
def full:∀t e,t<Tryz.prog.types.size->Tryz.prog.underlying t=some (.slice e)->0<Tryz.prog.cellsOf e:=slices_full_of Tryz.prog ca
def typed:∀t∈Tryz.f5.params.toList,t<Tryz.prog.types.size:=fun t ht=>by
 rw[Tryz.params5]at ht;have a:([23,40,42].all fun u=>decide (u<Tryz.prog.types.size))=true:=ca
 exact of_decide_eq_true (Ag.1 a t ht)
set_option maxRecDepth 100000 in
theorem lifted(os:Os)(a:os.Started)(H:Type)(enc:TypeId×Value->H):
 ReturnsInHanded {} Tryz.checked os 5 .any (fun w args=>(Rows.sinkBuildsSpec.pre enc Tryz.prog Tryz.f5 [] false w args/\laidMetH Tryz.prog [("unicode/utf8.acceptRanges",Rows.laid_unicode_utf8_acceptRanges),("nuncio/b64.table",Rows.laid_nuncio_b64_table),("unicode/utf8.first",Rows.laid_unicode_utf8_first)] w)/\sizedMet enc Tryz.prog Tryz.f5 (OpenSpec.ofChange Rows.sinkBuildsSpec) false w args)
  (Rows.sinkBuildsSpec.post enc Tryz.prog Tryz.f5 false true false false):=by
 refine zdx (C:=Tryz.checked) (X:=fun w _=>laidMetH Tryz.prog [("unicode/utf8.acceptRanges",Rows.laid_unicode_utf8_acceptRanges),("nuncio/b64.table",Rows.laid_nuncio_b64_table),("unicode/utf8.first",Rows.laid_unicode_utf8_first)] w) (fun _ _ _ A h=>h.of_heap A) own a ca Tryz.func5
  (ChangeSpec.witness_shaped (enc:=enc) (C:=Tryz.checked) (os:=os) (X:=fun w _=>laidMetH Tryz.prog [("unicode/utf8.acceptRanges",Rows.laid_unicode_utf8_acceptRanges),("nuncio/b64.table",Rows.laid_nuncio_b64_table),("unicode/utf8.first",Rows.laid_unicode_utf8_first)] w) false (pS os) #[.agg #[.string ⟨#[]⟩,.string ⟨#[]⟩,.string ⟨#[]⟩,.string ⟨#[]⟩,.string ⟨#[]⟩],.agg #[.bool false,.string ⟨#[]⟩,.string ⟨#[]⟩],.agg #[.string ⟨#[]⟩,.bool false]] 8 rfl (World.shaped_of_RefB ca ca) ca ca ca (H2 os _)) ?_
 intro W base args r J d c n _ _ y k _;have i:=n;obtain⟨p,q,l,_⟩:=n;obtain⟨si,B,D⟩:=qK kids full typed (fun j t v u x=>c j t v (by simpa using u) (by simpa using x)) l;have b:=BW l;have o:=zhC W (q4 y k) si args.toList B D;rw[Array.toArray_toList]at o;refine o.mono fun e E ⟨z,g⟩=>?_
 subst z;refine⟨_,rfl,zcE (tb:=4) kids full i rfl ?_ rfl Tryz.underlying4 typed g⟩;rw[Tryz.params5]at b
 match r,b with
 |[F,G,I],_=>rfl
def facts:joinedFacts Tryz.pinned.checked.prog 5 Tryz.f5 Rows.sinkBuildsSpec Rows.sinkBuildsRow=true:=by
 unfold joinedFacts;simp only[cc]
 repeat' apply And.intro
 all_goals as_aux_lemma=>kernel_rfl
def named:Tryz.pinned.checked.prog.funcNamed Rows.sinkBuildsRow.func=some 5:=ca
def inst:Tryz.f5.isInstance Tryz.pinned.checked.prog Rows.sinkBuildsRow.origin Rows.sinkBuildsRow.targs:=of_decide_eq_true ca
def over:Rows.sinkBuildsRow.holds Tryz.pinned (OpenSpec.ofChange Rows.sinkBuildsSpec):=
 OpenClaim.holds_of_wide 5 Tryz.f5 rfl rfl rfl rfl rfl rfl rfl ⟨rfl,rfl,rfl,rfl,rfl⟩ rfl rfl rfl rfl rfl named Tryz.func5 facts
  inst (by unfold Func.isWrapper;first|(rw[if_pos Hb];kernel_rfl)|(rw[if_neg Hb];exact⟨rfl,rfl⟩))
  (fun os a H enc _=>lifted os a H enc)
theorem proved:Rows.SinkBuildsCardSaid:=
 Claim7.holds_tied_plain_at .later [] [.data,.data,.pinned] true (true,"f9fca511065ef4902a09895d9e9ebcb2f47c35296c4fc38f523faf72ad352627") true
  over (fun _ h=>by cases h) ca (fun _ h=>by cases h) sinkBuilds_row_tie rfl ⟨rfl,rfl⟩ ca rfl
  (fun f fn c b=>by
    obtain rfl:f=5:=Xe ((show Tryz.prog.funcNamed "nuncio/nunciolaw39.SinkBuilds"=some 5 by kernel_rfl).symm.trans c) |>.symm;obtain rfl:fn=Tryz.f5:=(Xe (Tryz.func5.symm.trans b)).symm;exact⟨ca,fun j t ht=>by
     rw[Tryz.params5]at ht;have d:t∈[23,40,42]:=by simpa using Array.mem_of_getElem? ht
     have a:([23,40,42].all fun u=>!Tryz.prog.wantsStandIn u)=true:=ca
     exact(show Tryz.prog.wantsStandIn t=false by simpa using List.all_eq_true.1 a t d)⟩)
  ca
end sinkBuildsDone
end Go.Proofs.YtglaihdcndcmkaaGreatDoor
end
