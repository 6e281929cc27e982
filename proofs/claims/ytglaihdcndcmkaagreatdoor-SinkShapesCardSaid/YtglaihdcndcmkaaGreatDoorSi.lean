/- Payloads of mails and webhook messages that are alike but for their texts have the same shape (SinkShapes is true), where three tables are laid as start-up lays them. -/
import Derived.Test.YtglaihdcndcmkaaGreatDoorSh
import Derived.Test.YtglaihdcndcmkaaGreatDoorTie
import Derived.Test.YtglaihdcndcmkaaGreatDoorCards
import Derived.SevenTiedAt
set_option linter.all false
open ya Go.RowKit
set_option maxHeartbeats 4000000
section
set_option synthInstance.maxSize 4000
set_option maxRecDepth 100000
namespace Go.Proofs.YtglaihdcndcmkaaGreatDoor
open Go.ChangeShapes Go.WideShapes Go.ChangeAt
namespace sinkShapesDone
def own:ownKnob Tryz.prog.godebug=none:=ca
def kids:Kids Tryz.prog (·<Tryz.prog.types.size):=kids_rows ca ca
def full:∀t e,t<Tryz.prog.types.size->Tryz.prog.underlying t=some (.slice e)->0<Tryz.prog.cellsOf e:=slices_full_of Tryz.prog ca
def typed:∀t∈Tryz.f6.params.toList,t<Tryz.prog.types.size:=fun t ht=>by
 rw[Tryz.params6]at ht;have a:([23,40,9,9,9].all fun u=>decide (u<Tryz.prog.types.size))=true:=ca
 exact of_decide_eq_true (Bg.1 a t ht)
set_option maxRecDepth 100000 in
theorem lifted(os:Os)(a:os.Started)(H:Type)(enc:TypeId×Value->H):
 ReturnsInHanded {} Tryz.checked os 6 .any (fun w args=>(Rows.sinkShapesSpec.pre enc Tryz.prog Tryz.f6 [] false w args/\laidMetH Tryz.prog [("unicode/utf8.acceptRanges",Rows.laid_unicode_utf8_acceptRanges),("nuncio/b64.table",Rows.laid_nuncio_b64_table),("unicode/utf8.first",Rows.laid_unicode_utf8_first)] w)/\sizedMet enc Tryz.prog Tryz.f6 (OpenSpec.ofChange Rows.sinkShapesSpec) false w args)
  (Rows.sinkShapesSpec.post enc Tryz.prog Tryz.f6 false true false false):=by
 refine zce (C:=Tryz.checked) (X:=fun w _=>laidMetH Tryz.prog [("unicode/utf8.acceptRanges",Rows.laid_unicode_utf8_acceptRanges),("nuncio/b64.table",Rows.laid_nuncio_b64_table),("unicode/utf8.first",Rows.laid_unicode_utf8_first)] w) (fun _ _ _ A h=>h.of_heap A) own a ca Tryz.func6
  (ChangeSpec.witness_shaped (enc:=enc) (C:=Tryz.checked) (os:=os) (X:=fun w _=>laidMetH Tryz.prog [("unicode/utf8.acceptRanges",Rows.laid_unicode_utf8_acceptRanges),("nuncio/b64.table",Rows.laid_nuncio_b64_table),("unicode/utf8.first",Rows.laid_unicode_utf8_first)] w) false (pR os) #[.agg #[.string ⟨#[]⟩,.string ⟨#[]⟩,.string ⟨#[]⟩,.string ⟨#[]⟩,.string ⟨#[]⟩],.agg #[.bool false,.string ⟨#[]⟩,.string ⟨#[]⟩],.string ⟨#[]⟩,.string ⟨#[]⟩,.string ⟨#[]⟩] 8 rfl (World.shaped_of_RefB ca ca) ca ca ca (q1 os _)) ?_
 intro W base args r L d c n _ _ y k _;have i:=n;obtain⟨p,q,l,_⟩:=n;obtain⟨mi,B,D⟩:=JJ kids full typed (fun j t v u x=>c j t v (by simpa using u) (by simpa using x)) l;have b:=yV l;have o:=zfz W (S2 y k) mi args.toList B D;rw[Array.toArray_toList]at o;refine o.mono fun e E ⟨z,g⟩=>?_
 subst z;refine⟨_,rfl,zbq (tb:=4) kids full i rfl ?_ rfl Tryz.underlying4 typed g⟩;rw[Tryz.params6]at b
 match r,b with
 |[F,G,I,J,K],_=>rfl
def facts:joinedFacts Tryz.pinned.checked.prog 6 Tryz.f6 Rows.sinkShapesSpec Rows.sinkShapesRow=true:=by
 unfold joinedFacts;simp only[bc]
 repeat' apply And.intro
 all_goals as_aux_lemma=>kernel_rfl
def named:Tryz.pinned.checked.prog.funcNamed Rows.sinkShapesRow.func=some 6:=ca
def inst:Tryz.f6.isInstance Tryz.pinned.checked.prog Rows.sinkShapesRow.origin Rows.sinkShapesRow.targs:=of_decide_eq_true ca
def over:Rows.sinkShapesRow.holds Tryz.pinned (OpenSpec.ofChange Rows.sinkShapesSpec):=
 OpenClaim.holds_of_wide 6 Tryz.f6 rfl rfl rfl rfl rfl rfl rfl ⟨rfl,rfl,rfl,rfl,rfl⟩ rfl rfl rfl rfl rfl named Tryz.func6 facts
  inst (by unfold Func.isWrapper;first|(rw[if_pos Fb];kernel_rfl)|(rw[if_neg Fb];exact⟨rfl,rfl⟩))
  (fun os a H enc _=>lifted os a H enc)
theorem proved:Rows.SinkShapesCardSaid:=
 Claim7.holds_tied_plain_at .later [] [.data,.data,.pinned] true (true,"f9fca511065ef4902a09895d9e9ebcb2f47c35296c4fc38f523faf72ad352627") true
  over (fun _ h=>by cases h) ca (fun _ h=>by cases h) sinkShapes_row_tie rfl ⟨rfl,rfl⟩ ca rfl
  (fun f fn hf b=>by
    obtain rfl:f=6:=jf ((show Tryz.prog.funcNamed "nuncio/nunciolaw39.SinkShapes"=some 6 by kernel_rfl).symm.trans hf) |>.symm;obtain rfl:fn=Tryz.f6:=(jf (Tryz.func6.symm.trans b)).symm;exact⟨ca,fun j t ht=>by
     rw[Tryz.params6]at ht;have c:t∈[23,40,9,9,9]:=by simpa using Array.mem_of_getElem? ht
     have a:([23,40,9,9,9].all fun u=>!Tryz.prog.wantsStandIn u)=true:=ca
     exact(show Tryz.prog.wantsStandIn t=false by simpa using List.all_eq_true.1 a t c)⟩)
  ca
end sinkShapesDone
end Go.Proofs.YtglaihdcndcmkaaGreatDoor
end
