/- email.Read and the document's Read answer alike on every text (EmailReads is true), where three tables are laid as start-up lays them. -/
import Derived.Test.YtglaihdcndcmkaaGreatDoorRh
set_option linter.all false
open Go wa Go.Proofs Go.RowKit Go.Proofs.YtglaihdcndcmkaaGreatDoor
set_option maxHeartbeats 4000000
section
set_option synthInstance.maxSize 4000
set_option maxRecDepth 100000
namespace wa
def p0{W:World}(a:laidMetH Tryz.prog WA W)(h:W.ShapedOpen Tryz.prog):VA W:=
 ⟨Go.Proofs.cell_of_shapedOpen_int (zero:=#[.int .i64 0]) (t:=3) h (of_decide_eq_true ca) ca rfl ca ca Tryz.underlying3,zcx a⟩
def zb6{n:Nat}{ps:List PV}(h:fit Tryz.prog n 9 ps):∃s:ba,ps=[.flat (.string (S s))]/\s.length<=9223372036854775807:=by
 cases n with
 |zero=>cases h
 |succ n=>
  simp only[fit,Tryz.underlying9]at h;obtain⟨s,rfl,hs⟩:=h;refine⟨s.data.toList,rfl,?_⟩;have:s.data.toList.length=s.size:=rfl;rw[this];unfold maxLen at hs;omega
def N0{n:Nat}{p:PV}(h:wq Tryz.prog n 9 p):∃s:ba,p=.flat (.string (S s))/\s.length<=9223372036854775807:=by
 simp only[wq,Tryz.underlying9]at h;obtain⟨s,a,b⟩:=zb6 h;exact⟨s,by simpa using a,b⟩
def s7:dc Tryz.prog ro (fa code jp):=gD Tryz.checked.mixed ca Ix k6
def zdQ(W:World)(c:VA W)(Pg:List PV)(vs:List Value)(hr:sa W (Mk W) [] Pg vs)(a:fits Tryz.prog Tryz.f3.params.toList Pg):Calls Tryz.prog 3 vs.toArray W (ud (.bool true) W):=by
 rw[Tryz.params3]at a
 match Pg,a with
 |[p],⟨⟨n,b⟩,_⟩=>
  obtain⟨s,rfl,hs⟩:=N0 b;exact rW s7 ga (q_ i6 s hs) c hr
end wa
namespace Go.Proofs.YtglaihdcndcmkaaGreatDoor
open Go.ChangeShapes Go.WideShapes Go.ChangeAt
namespace emailReadsDone
def own:ownKnob Tryz.prog.godebug=none:=ca
def kids:Kids Tryz.prog (·<Tryz.prog.types.size):=kids_rows ca ca
def full:∀t e,t<Tryz.prog.types.size->Tryz.prog.underlying t=some (.slice e)->0<Tryz.prog.cellsOf e:=slices_full_of Tryz.prog ca
def typed:∀t∈Tryz.f3.params.toList,t<Tryz.prog.types.size:=fun t ht=>by
 rw[Tryz.params3]at ht;have a:([9].all fun u=>decide (u<Tryz.prog.types.size))=true:=ca
 exact of_decide_eq_true (Dj.1 a t ht)
set_option maxRecDepth 100000 in
theorem lifted(os:Os)(a:os.Started)(H:Type)(enc:TypeId×Value->H):
 ReturnsInHanded {} Tryz.checked os 3 .any (fun w args=>(Rows.emailReadsSpec.pre enc Tryz.prog Tryz.f3 [] false w args/\laidMetH Tryz.prog [("unicode/utf8.acceptRanges",Rows.laid_unicode_utf8_acceptRanges),("nuncio/b64.table",Rows.laid_nuncio_b64_table),("unicode/utf8.first",Rows.laid_unicode_utf8_first)] w)/\sizedMet enc Tryz.prog Tryz.f3 (OpenSpec.ofChange Rows.emailReadsSpec) false w args)
  (Rows.emailReadsSpec.post enc Tryz.prog Tryz.f3 false true false false):=by
 refine E_ (C:=Tryz.checked) (X:=fun w _=>laidMetH Tryz.prog [("unicode/utf8.acceptRanges",Rows.laid_unicode_utf8_acceptRanges),("nuncio/b64.table",Rows.laid_nuncio_b64_table),("unicode/utf8.first",Rows.laid_unicode_utf8_first)] w) (fun _ _ _ A h=>h.of_heap A) own a ca Tryz.func3
  (ChangeSpec.witness_shaped (enc:=enc) (C:=Tryz.checked) (os:=os) (X:=fun w _=>laidMetH Tryz.prog [("unicode/utf8.acceptRanges",Rows.laid_unicode_utf8_acceptRanges),("nuncio/b64.table",Rows.laid_nuncio_b64_table),("unicode/utf8.first",Rows.laid_unicode_utf8_first)] w) false (zP os) #[.string ⟨#[]⟩] 8 rfl (World.shaped_of_RefB ca ca) ca ca ca (ZY os _)) ?_
 intro W base args r G d c n _ _ y k _;have i:=n;obtain⟨p,q,l,_⟩:=n;obtain⟨Pg,B,D⟩:=jJ kids full typed (fun j t v u x=>c j t v (by simpa using u) (by simpa using x)) l;have b:=aU l;have o:=zdQ W (p0 y k) Pg args.toList B D;rw[Array.toArray_toList]at o;refine o.mono fun e E ⟨z,g⟩=>?_
 subst z;refine⟨_,rfl,F9 (tb:=4) kids full i rfl ?_ rfl Tryz.underlying4 typed g⟩;rw[Tryz.params3]at b
 match r,b with
 |[F],_=>rfl
def over:Rows.emailReadsRow.holds Tryz.pinned (OpenSpec.ofChange Rows.emailReadsSpec):=
 OpenClaim.holds_of_wide 3 Tryz.f3 rfl rfl rfl rfl rfl rfl rfl ⟨rfl,rfl,rfl,rfl,rfl⟩ rfl rfl rfl rfl rfl ca Tryz.func3 ca
  (of_decide_eq_true ca) (by unfold Func.isWrapper;first|(rw[if_pos lc];kernel_rfl)|(rw[if_neg lc];exact⟨rfl,rfl⟩))
  (fun os a H enc _=>lifted os a H enc)
theorem proved:Rows.EmailReadsCardSaid:=
 Claim7.holds_tied_plain_at .later [] [.data,.data,.pinned] true (true,"f9fca511065ef4902a09895d9e9ebcb2f47c35296c4fc38f523faf72ad352627") true
  over (fun _ h=>by cases h) ca (fun _ h=>by cases h) emailReads_row_tie rfl ⟨rfl,rfl⟩ ca rfl
  (fun f fn c b=>by
    obtain rfl:f=3:=ko ((show Tryz.prog.funcNamed "nuncio/nunciolaw36.EmailReads"=some 3 by kernel_rfl).symm.trans c) |>.symm;obtain rfl:fn=Tryz.f3:=(ko (Tryz.func3.symm.trans b)).symm;exact⟨ca,fun j t ht=>by
     rw[Tryz.params3]at ht;have d:t∈[9]:=by simpa using Array.mem_of_getElem? ht
     have a:([9].all fun u=>!Tryz.prog.wantsStandIn u)=true:=ca
     exact(show Tryz.prog.wantsStandIn t=false by simpa using List.all_eq_true.1 a t d)⟩)
  ca
end emailReadsDone
end Go.Proofs.YtglaihdcndcmkaaGreatDoor
end
