/- LetterNests answers true for all numbers and flags, at any start: texts of this proof, merged. -/
import Derived.Test.YtmpiobfdchlikaaGreatDoorNb
import Derived.Test.YtmpiobfdchlikaaGreatDoorProg
import Derived.KernelRfl
set_option linter.unusedVariables false
set_option linter.unusedSimpArgs false
set_option maxHeartbeats 4000000
section
namespace Nun
open Go
section
variable {cf:Callee} {n:Nat} {st:St} {sl:List (Nat × PV)} {ow:List Loc} {al:List (Nat × Loc)} {bx:zao} {d:Nat} {live:List Nat}
theorem look_nil {i:Nat}:look [] i=.unk:=rfl
theorem z3z {j i:Nat} {v:PV}:look ((j,v)::sl) i=if j=i then v else look sl i:=rfl
def zl2 (sl:List (Nat × PV)):List Nat→List (Nat × PV)
 | []=>[]
 | i::r=>(i,look sl i)::zl2 sl r
theorem z30:zl2 sl []=[]:=rfl
theorem znq {i:Nat} {r:List Nat}:zl2 sl (i::r)=(i,look sl i)::zl2 sl r:=rfl
theorem zzc:∀ l:List Nat,zl2 sl l=l.map fun i=>(i,look sl i)
 | []=>rfl
 | i::r=>by rw [znq,zzc r];rfl
def owns:List Loc→Loc→Bool
 | [],_=>false
 | .slot i::r,.slot j=>if i=j then true else owns r (.slot j)
 | .cell b o::r,.cell b' o'=>if b=b'∧o=o' then true else owns r (.cell b' o')
 | _::r,L=>owns r L
theorem zdf:∀ {l:List Loc} {L:Loc},owns l L=true ↔ L∈l
 | [],L=>by simp [owns]
 | .slot i::r,.slot j=>by
   simp only [owns,List.mem_cons,Loc.slot.injEq]
   by_cases h:i=j
   ·simp [h]
   ·simp only [h,if_false];rw [zdf];simp [Ne.symm h]
 | .cell b o::r,.cell b' o'=>by
   simp only [owns,List.mem_cons,Loc.cell.injEq]
   by_cases h:b=b'∧o=o'
   ·simp [h]
   ·rw [if_neg h,zdf]
    simp only [iff_or_self]
    rintro ⟨h1,h2⟩;exact absurd ⟨h1.symm,h2.symm⟩ h
 | .slot i::r,.cell b o=>by simp only [owns,List.mem_cons,reduceCtorEq,false_or];exact zdf
 | .cell b o::r,.slot i=>by simp only [owns,List.mem_cons,reduceCtorEq,false_or];exact zdf
theorem z9l {L:Loc}:owns [] L=false:=by cases L<;>rfl
theorem ye7 {i j:Nat} {r:List Loc}:owns (.slot i::r) (.slot j)=if i=j then true else owns r (.slot j):=rfl
theorem ye8 {b o b' o':Nat} {r:List Loc}:owns (.cell b o::r) (.cell b' o')=if b=b'∧o=o' then true else owns r (.cell b' o'):=rfl
theorem ye9 {i b o:Nat} {r:List Loc}:owns (.slot i::r) (.cell b o)=owns r (.cell b o):=rfl
theorem zxq {i b o:Nat} {r:List Loc}:owns (.cell b o::r) (.slot i)=owns r (.slot i):=rfl
theorem zvh:zag d []=[]:=rfl
theorem z1b {i:Nat} {r:List Loc}:zag d (.slot i::r)=if i=d then zag d r else .slot i::zag d r:=by
 by_cases h:i=d
 ·subst h;simp [zag,ment]
 ·simp [zag,ment,h]
theorem znr {b o:Nat} {r:List Loc}:zag d (.cell b o::r)=.cell b o::zag d r:=by simp [zag,ment]
theorem z1c:za8 d []=[]:=rfl
theorem z9m {t i:Nat} {r:List (Nat × Loc)}:za8 d ((t,.slot i)::r)=if t=d then za8 d r else if i=d then za8 d r else (t,.slot i)::za8 d r:=by
 by_cases h:t=d
 ·subst h;simp [za8,ment]
 ·by_cases k:i=d
  ·subst k;simp [za8,ment]
  ·simp [za8,ment,h,k]
theorem z9n {t b o:Nat} {r:List (Nat × Loc)}:za8 d ((t,.cell b o)::r)=if t=d then za8 d r else (t,.cell b o)::za8 d r:=by
 by_cases h:t=d
 ·subst h;simp [za8,ment]
 ·simp [za8,ment,h]
def z1d (ow:List Loc):List Nat→List Loc
 | []=>[]
 | i::r=>if owns ow (.slot i) then .slot i::z1d ow r else z1d ow r
theorem z1e {i:Nat} {r:List Nat}:z1d ow (i::r)=if owns ow (.slot i) then .slot i::z1d ow r else z1d ow r:=rfl
theorem z31:zbu .unk=false:=rfl
theorem z32 {m:Nat} {cs:List PV}:zbu (.slc m cs)=false:=rfl
theorem z33 {cs:List PV}:zbu (.agg cs)=false:=rfl
theorem z34 {cs:List PV}:zbu (.tup cs)=false:=rfl
theorem z35 {b o:Nat}:zbu (.ptr b o)=false:=rfl
theorem z36 {cs:List PV}:zbu (.elt cs)=false:=rfl
theorem z38 {f:FuncId} {cs:List PV}:zbu (.clo f cs)=false:=rfl
theorem z39 {b:Nat}:zbu (.yld b)=false:=rfl
theorem z4a {b o m:Nat}:zbu (.bsl b o m)=false:=rfl
theorem z9o {f k:Nat} {s:LpS} {cs:List PV}:zbu (.lp f k s live cs)=false:=rfl
theorem z4b {k:IntKind} {m:Int}:zbu (.flat (.int k m))=false:=rfl
theorem z4c {z:ByteArray}:zbu (.flat (.string z))=false:=rfl
theorem z1f {b:Bool}:zbu (.flat (.bool b))=false:=rfl
theorem z4d {a:Option Addr}:zbu (.flat (.pointer a))=false:=rfl
theorem z9p:zbu (.flat .nilFunc)=false:=rfl
theorem z9q:zbu (.flat .nilIface)=false:=rfl
theorem z4e:zbu (.flat (.slice none 0 0))=true:=rfl
theorem yko:wk .unk=.unk:=rfl
theorem ykp {m:Nat} {cs:List PV}:wk (.slc m cs)=.slc m cs:=rfl
theorem ykq {cs:List PV}:wk (.agg cs)=.agg cs:=rfl
theorem ykr {cs:List PV}:wk (.tup cs)=.tup cs:=rfl
theorem yks {b o:Nat}:wk (.ptr b o)=.ptr b o:=rfl
theorem ykt {cs:List PV}:wk (.elt cs)=.elt cs:=rfl
theorem yku {f:FuncId} {cs:List PV}:wk (.clo f cs)=.clo f cs:=rfl
theorem ykv {b:Nat}:wk (.yld b)=.yld b:=rfl
theorem ykw {b o m:Nat}:wk (.bsl b o m)=.bsl b o m:=rfl
theorem yqe {f k:Nat} {s:LpS} {cs:List PV}:wk (.lp f k s live cs)=.lp f k s live cs:=rfl
theorem ykx {k:IntKind} {m:Int}:wk (.flat (.int k m))=.flat (.int k m):=rfl
theorem yky {z:ByteArray}:wk (.flat (.string z))=.flat (.string z):=rfl
theorem yfa {b:Bool}:wk (.flat (.bool b))=.flat (.bool b):=rfl
theorem ykz {a:Option Addr}:wk (.flat (.pointer a))=.flat (.pointer a):=rfl
theorem yqf:wk (.flat .nilFunc)=.flat .nilFunc:=rfl
theorem yqg:wk (.flat .nilIface)=.flat .nilIface:=rfl
theorem yk0:wk (.flat (.slice none 0 0))=.slc 0 []:=rfl
theorem z9r:PV.weak .unk=.unk:=rfl
theorem z4f {v:Value}:PV.weak (.flat v)=wk (.flat v):=rfl
theorem z9s {m:Nat} {cs:List PV}:PV.weak (.slc m cs)=.slc m cs:=rfl
theorem z9t {cs:List PV}:PV.weak (.agg cs)=.agg (zep cs):=rfl
theorem z9u {cs:List PV}:PV.weak (.tup cs)=.tup cs:=rfl
theorem z9v {b o:Nat}:PV.weak (.ptr b o)=.ptr b o:=rfl
theorem z9w {cs:List PV}:PV.weak (.elt cs)=.elt cs:=rfl
theorem z9x {f:FuncId} {cs:List PV}:PV.weak (.clo f cs)=.clo f cs:=rfl
theorem z9y {b:Nat}:PV.weak (.yld b)=.yld b:=rfl
theorem z9z {b o m:Nat}:PV.weak (.bsl b o m)=.bsl b o m:=rfl
theorem z4g:zep []=[]:=rfl
theorem z1g {p:PV} {r:List PV}:zep (p::r)=wk p::zep r:=rfl
theorem zvi {b o:Nat}:za5 b o []=[]:=rfl
theorem ztx {b o:Nat} {p:PV} {r:List PV}:za5 b o (p::r)=if zbu p then .cell b o::za5 b (o+1) r else za5 b (o+1) r:=rfl
theorem z4h:zpn []=true:=rfl
theorem z1h {p:PV} {r:List PV}:zpn (p::r)=(!zbu p && zpn r):=rfl
theorem z90 {m:Nat} {cs:List PV}:isU8 (.slc m cs)=false:=rfl
theorem z91 {cs:List PV}:isU8 (.agg cs)=false:=rfl
theorem z92 {b o:Nat}:isU8 (.ptr b o)=false:=rfl
theorem z93 {cs:List PV}:isU8 (.elt cs)=false:=rfl
theorem z94 {f:FuncId} {cs:List PV}:isU8 (.clo f cs)=false:=rfl
theorem z95 {z:ByteArray}:isU8 (.flat (.string z))=false:=rfl
theorem z4i {b:Bool}:isU8 (.flat (.bool b))=false:=rfl
theorem z96 {a:Option Addr}:isU8 (.flat (.pointer a))=false:=rfl
theorem yfb {m:Int}:isU8 (.flat (.int .u8 m))=true:=rfl
theorem z97 {m:Int}:isU8 (.flat (.int .i32 m))=false:=rfl
theorem z98 {m:Int}:isU8 (.flat (.int .i64 m))=false:=rfl
theorem z99 {m:Int}:isU8 (.flat (.int .u32 m))=false:=rfl
theorem yaa {m:Int}:isU8 (.flat (.int .u16 m))=false:=rfl
theorem yab {m:Int}:isU8 (.flat (.int .u64 m))=false:=rfl
theorem yac:noU8 []=true:=rfl
theorem zmt {p:PV} {r:List PV}:noU8 (p::r)=(!isU8 p && noU8 r):=rfl
theorem zzd {cs ds:List PV}:noU8 (cs++ds)=(noU8 cs && noU8 ds):=by
 induction cs with
 | nil=>rfl
 | cons p r ih=>rw [List.cons_append,zmt,zmt,ih,Bool.and_assoc]
theorem z4j:zia []=true:=rfl
theorem zin {p:PV} {r:List PV}:zia (p::r)=(isU8 p && zia r):=rfl
theorem z4k {cs ds:List PV}:zia (cs++ds)=(zia cs && zia ds):=by
 induction cs with
 | nil=>rfl
 | cons p r ih=>rw [List.cons_append,zin,zin,ih,Bool.and_assoc]
theorem zxr {z:ByteArray}:zia (zhy z)=true:=by
 unfold zhy
 induction z.data.toList with
 | nil=>rfl
 | cons c l ih=>rw [List.map_cons,zin,ih];rfl
theorem yk1 {m:Nat} {cs ds:List PV}:tyOk true m cs ds=zia cs:=rfl
theorem yk2 {m:Nat} {cs ds:List PV}:tyOk false m cs ds=if m=1 then noU8 cs && noU8 ds else true:=by
 unfold tyOk
 by_cases h:m=1<;>simp [h]
def lookW (sl:List (Nat × PV)):List Nat→List (Nat × PV)
 | []=>[]
 | i::r=>(i,wk (look sl i))::lookW sl r
theorem z4l:lookW sl []=[]:=rfl
theorem zsk {i:Nat} {r:List Nat}:lookW sl (i::r)=(i,wk (look sl i))::lookW sl r:=rfl
theorem zo6:∀ l:List Nat,lookW sl l=l.map fun i=>(i,look (sl.map fun q=>(q.1,wk q.2)) i)
 | []=>rfl
 | i::r=>by rw [zsk,zo6 r,List.map_cons,zpu]
def keepW (sl:List (Nat × PV)) (ow:List Loc):List Nat→List Loc
 | []=>[]
 | i::r=>if zbu (look sl i) then .slot i::keepW sl ow r else if owns ow (.slot i) then .slot i::keepW sl ow r else keepW sl ow r
theorem z4m:keepW sl ow []=[]:=rfl
theorem zsl {i:Nat} {r:List Nat}:keepW sl ow (i::r)=if zbu (look sl i) then .slot i::keepW sl ow r else if owns ow (.slot i) then .slot i::keepW sl ow r else keepW sl ow r:=rfl
theorem zty (L:List Nat):∀ l:List Nat,(∀ i∈l,i∈L)→keepW sl ow l=(l.filter fun i=>decide (.slot i∈(L.filter fun i=>zbu (look sl i)).map .slot++ow)).map .slot
 | [],_=>rfl
 | i::r,h=>by
   rw [zsl,zty L r (fun j hj=>h j (by simp [hj])),List.filter_cons]
   have hi:i∈L:=h i (by simp)
   by_cases hn:zbu (look sl i)=true
   ·rw [if_pos hn];simp [hn,hi]
   ·by_cases ho:Loc.slot i∈ow
    ·rw [if_neg hn,if_pos (zdf.2 ho)];simp [ho]
    ·have:owns ow (.slot i)=false:=by cases hh:owns ow (.slot i) with | false=>rfl | true=>exact absurd (zdf.1 hh) ho
     rw [if_neg hn,this];simp [ho,hn]
def zdv:List Loc→List Loc
 | []=>[]
 | .slot _::r=>zdv r
 | .cell b o::r=>.cell b o::zdv r
theorem z1i:zdv []=[]:=rfl
theorem zo7 {i:Nat} {r:List Loc}:zdv (.slot i::r)=zdv r:=rfl
theorem zo8 {b o:Nat} {r:List Loc}:zdv (.cell b o::r)=.cell b o::zdv r:=rfl
theorem zhn:∀ l:List Loc,l.filter zah=zdv l
 | []=>rfl
 | .slot i::r=>by rw [List.filter_cons_of_neg (by simp [zah]),zhn r];rfl
 | .cell b o::r=>by rw [List.filter_cons_of_pos rfl,zhn r];rfl
def zho:List Loc→List Loc
 | []=>[]
 | .slot i::r=>.slot i::zho r
 | .cell _ _::r=>zho r
theorem z1j:zho []=[]:=rfl
theorem ztz {i:Nat} {r:List Loc}:zho (.slot i::r)=.slot i::zho r:=rfl
theorem zo9 {b o:Nat} {r:List Loc}:zho (.cell b o::r)=zho r:=rfl
theorem zqb:∀ l:List Loc,(l.filter fun L=>!zah L)=zho l
 | []=>rfl
 | .slot i::r=>by rw [List.filter_cons_of_pos rfl,zqb r];rfl
 | .cell b o::r=>by rw [List.filter_cons_of_neg (by simp [zah]),zqb r];rfl
theorem zns:∀ {l m:List Loc},zho (l++m)=zho l++zho m
 | [],m=>rfl
 | .slot i::r,m=>by rw [List.cons_append,ztz,ztz,zns];rfl
 | .cell b o::r,m=>by rw [List.cons_append,zo9,zo9,zns]
theorem zk1:∀ {l m:List Loc},zdv (l++m)=zdv l++zdv m
 | [],m=>rfl
 | .slot i::r,m=>by rw [List.cons_append,zo7,zo7,zk1]
 | .cell b o::r,m=>by rw [List.cons_append,zo8,zo8,zk1];rfl
def zcq (nb:Nat):List Loc→List Loc
 | []=>[]
 | .slot _::r=>zcq nb r
 | .cell b o::r=>if b<nb then .cell b o::zcq nb r else zcq nb r
theorem z1k {nb:Nat}:zcq nb []=[]:=rfl
theorem zmu {nb i:Nat} {r:List Loc}:zcq nb (.slot i::r)=zcq nb r:=rfl
theorem zk2 {nb b o:Nat} {r:List Loc}:zcq nb (.cell b o::r)=if b<nb then .cell b o::zcq nb r else zcq nb r:=rfl
theorem zge {nb:Nat}:∀ l:List Loc,zbq nb l=zcq nb l
 | []=>rfl
 | .slot i::r=>by rw [zmu,← zge r];simp [zbq]
 | .cell b o::r=>by
   rw [zk2,← zge r]
   by_cases h:b<nb<;>simp [zbq,h]
theorem yk3 {v:PV}:St.put ⟨sl,ow,al,bx⟩ d v=⟨(d,v)::sl,zag d ow,za8 d al,bx⟩:=rfl
theorem z4n {v:PV}:St.putOwn ⟨sl,ow,al,bx⟩ d v=⟨(d,v)::sl,.slot d::zag d ow,za8 d al,bx⟩:=rfl
theorem z4o {v:PV}:St.putD st none v=st:=rfl
theorem z4p {v:PV}:St.putD st (some d) v=st.put d v:=rfl
theorem zoj:∀ l:List Nat,zdv (l.map .slot)=[]
 | []=>rfl
 | i::r=>by rw [List.map_cons,zo7,zoj r]
theorem yfc:St.keep ⟨sl,ow,al,bx⟩ live=⟨lookW sl live,keepW sl ow live++zdv ow,[],bx⟩:=by
 unfold St.keep
 simp only [St.keep0,St.nrm]
 rw [zo6,zty live live (fun _ h=>h),zhn,zk1,zoj,List.nil_append]
 rfl
def vals:List (Nat × PV)→List PV
 | []=>[]
 | (_,v)::r=>v::vals r
theorem yad:vals []=[]:=rfl
theorem zqc {i:Nat} {v:PV} {r:List (Nat × PV)}:vals ((i,v)::r)=v::vals r:=rfl
theorem zt0:∀ l:List (Nat × PV),l.map (·.2)=vals l
 | []=>rfl
 | (i,v)::r=>by rw [zqc,← zt0 r];rfl
def z4q (nb:Nat) (bx:zao) (b:Bool):zao:=if b then bx.take nb else bx
def zcf (nb:Nat):zao→Bool
 | []=>true
 | q::r=>lows nb q.2 && zcf nb r
theorem zqd {nb:Nat}:zcf nb []=true:=rfl
theorem zh0 {nb:Nat} {q:Nat × List PV} {r:zao}:zcf nb (q::r)=(lows nb q.2 && zcf nb r):=rfl
theorem znt {nb:Nat}:∀ l:zao,(l.all fun q=>lows nb q.2)=zcf nb l
 | []=>rfl
 | q::r=>by rw [List.all_cons,znt r];rfl
theorem z4r {nb:Nat} {vs:List PV}:trim nb vs bx=if bx.length=nb then bx else z4q nb bx (lows nb vs && zcf nb (bx.take nb)):=by
 unfold trim z4q;rw [znt]
theorem yfd {nb:Nat}:z4q nb bx true=bx.take nb:=rfl
theorem yfe {nb:Nat}:z4q nb bx false=bx:=rfl
def cutK (st:St) (nb:Nat) (bx':zao):St:=⟨st.sl,if bx'.length=st.bx.length then st.ow else st.ow.filter (fun | .slot _=>true | .cell b _=>decide (b<bx'.length)),[],bx'⟩
theorem yff {nb:Nat}:St.cutB ⟨sl,ow,al,bx⟩ nb=if bx.length=nb then ⟨sl,ow,[],bx⟩ else cutK ⟨sl,ow,al,bx⟩ nb (z4q nb bx (lows nb (vals sl) && zcf nb (bx.take nb))):=by
 unfold St.cutB
 simp only [z4r,zt0]
 split
 ·simp
 ·rfl
def ltO (nb:Nat):List Loc→List Loc
 | []=>[]
 | .slot i::r=>.slot i::ltO nb r
 | .cell b o::r=>if b<nb then .cell b o::ltO nb r else ltO nb r
theorem yfg {nb:Nat}:ltO nb []=[]:=rfl
theorem yk4 {nb i:Nat} {r:List Loc}:ltO nb (.slot i::r)=.slot i::ltO nb r:=rfl
theorem yfh {nb b o:Nat} {r:List Loc}:ltO nb (.cell b o::r)=if b<nb then .cell b o::ltO nb r else ltO nb r:=rfl
theorem z4s {nb:Nat}:∀ l:List Loc,(l.filter (fun | .slot _=>true | .cell b _=>decide (b<nb)))=ltO nb l
 | []=>rfl
 | .slot i::r=>by rw [yk4,← z4s r];simp
 | .cell b o::r=>by
   rw [yfh,← z4s r]
   by_cases h:b<nb<;>simp [h]
theorem yfi {nb:Nat} {bx':zao}:cutK ⟨sl,ow,al,bx⟩ nb bx'=⟨sl,if bx'.length=bx.length then ow else ltO bx'.length ow,[],bx'⟩:=by
 unfold cutK;rw [z4s]
theorem znu {nb:Nat}:∀ {l m:List Loc},zcq nb (l++m)=zcq nb l++zcq nb m
 | [],m=>rfl
 | .slot i::r,m=>by rw [List.cons_append,zmu,zmu,znu]
 | .cell b o::r,m=>by
   rw [List.cons_append,zk2,zk2,znu]
   split<;>rfl
theorem zok {nb:Nat}:∀ l:List Nat,zcq nb (l.map .slot)=[]
 | []=>rfl
 | i::r=>by rw [List.map_cons,zmu,zok r]
theorem yfj {nb:Nat}:St.only ⟨sl,ow,al,bx⟩ live nb=⟨lookW sl live,keepW sl ow live++zcq (trim nb (vals (lookW sl live)) bx).length ow,[],trim nb (vals (lookW sl live)) bx⟩:=by
 have h1:live.map (look (sl.map fun q=>(q.1,wk q.2)))=vals (lookW sl live):=by
  rw [← zt0,zo6,List.map_map];rfl
 have h2:∀ (m:Nat) (l:List Loc),(l.filter (fun | .slot _=>false | .cell b _=>decide (b<m)))=zcq m l:=fun m l=>by rw [← zge];rfl
 show (⟨live.map fun i=>(i,look (sl.map fun q:Nat × PV=>(q.1,wk q.2)) i),(live.filter fun i=>decide (Loc.slot i∈(live.filter fun i=>zbu (look sl i)).map Loc.slot++ow)).map Loc.slot++(((live.filter fun i=>zbu (look sl i)).map Loc.slot++ow).filter (fun | .slot _=>false | .cell b _=>decide (b<(trim nb (live.map (look (sl.map fun q:Nat × PV=>(q.1,wk q.2)))) bx).length))),[],trim nb (live.map (look (sl.map fun q:Nat × PV=>(q.1,wk q.2)))) bx⟩:St)=_
 rw [h1,h2,znu,zok,List.nil_append,zty live live (fun _ h=>h),← zo6]
theorem ev_t {i:Nat}:X.ev sl (.t i)=look sl i:=rfl
theorem ev_c {v:PV}:X.ev sl (.c v)=v:=rfl
def evL (sl:List (Nat × PV)):List X→List PV
 | []=>[]
 | x::r=>x.ev sl::evL sl r
theorem yfk:evL sl []=[]:=rfl
theorem zze {x:X} {r:List X}:evL sl (x::r)=x.ev sl::evL sl r:=rfl
theorem yd5:∀ l:List X,l.map (·.ev sl)=evL sl l
 | []=>rfl
 | x::r=>by rw [zze,← yd5 r];rfl
def evA (sl:List (Nat × PV)):List X→List PV
 | []=>[]
 | x::r=>(x.ev sl).weak::evA sl r
theorem yfl:evA sl []=[]:=rfl
theorem zzf {x:X} {r:List X}:evA sl (x::r)=(x.ev sl).weak::evA sl r:=rfl
theorem zqe:∀ l:List X,(l.map fun x=>(x.ev sl).weak)=evA sl l
 | []=>rfl
 | x::r=>by rw [zzf,← zqe r];rfl
def evPs (sl:List (Nat × PV)):List (Nat × Nat × X)→List (Nat × Nat × PV)
 | []=>[]
 | (o,m,x)::r=>(o,m,x.ev sl)::evPs sl r
theorem yae:evPs sl []=[]:=rfl
theorem zvj {o m:Nat} {x:X} {r:List (Nat × Nat × X)}:evPs sl ((o,m,x)::r)=(o,m,x.ev sl)::evPs sl r:=rfl
theorem zxs:∀ l:List (Nat × Nat × X),(l.map fun q=>(q.1,q.2.1,q.2.2.ev sl))=evPs sl l
 | []=>rfl
 | (o,m,x)::r=>by rw [zvj,← zxs r];rfl
def kPut (st:St) (d:Nat):Option PV→Option St
 | some v=>some (st.put d v)
 | none=>none
theorem z4t {v:PV}:kPut st d (some v)=some (st.put d v):=rfl
theorem zbs {x:Option PV}:x.map (st.putD (some d))=kPut st d x:=by cases x<;>rfl
theorem zj4 {x:Option PV}:x.map (st.put d)=kPut st d x:=by cases x<;>rfl
theorem yqh {x:X}:zaa cf st (some d) (.mv x)=some (st.put d (x.ev st.sl)):=rfl
theorem yk5 {s:Nat}:zaa cf ⟨sl,ow,al,bx⟩ (some d) (.mvA s)=if s=d then none else some ⟨(d,look sl s)::sl,zag d ow,(d,.slot s)::za8 d al,bx⟩:=rfl
theorem yk6 {s:Nat}:zaa cf ⟨sl,ow,al,bx⟩ (some d) (.asg (.t s))=if s=d then none else if owns ow (.slot s) then some ⟨(d,look sl s)::sl,.slot d::zag s (zag d ow),za8 s (za8 d al),bx⟩ else some ⟨(d,look sl s)::sl,zag d ow,za8 d al,bx⟩:=by
 simp only [zaa,zdf];rfl
theorem yfm {v:Value}:zaa cf st (some d) (.asg (.c (.flat v)))=some (st.put d (.flat v)):=rfl
theorem yfn {f:FuncId} {cs:List PV}:zaa cf st (some d) (.asg (.c (.clo f cs)))=some (st.put d (.clo f cs)):=rfl
def yfo (st:St) (d:Nat) (a b:PV):PV→Option St
 | .flat (.bool t)=>some (st.put d (if t then a else b))
 | _=>none
theorem yfp {c a b:X}:zaa cf st (some d) (.pick c a b)=yfo st d (a.ev st.sl) (b.ev st.sl) (c.ev st.sl):=by
 simp only [zaa,zar]
 unfold yfo
 generalize c.ev st.sl=p
 cases p with
 | flat v=>cases v<;>first | rfl | (dsimp only;split<;>rfl) | (dsimp only [zbs,zj4];rw [zbs])
 | _=>first | rfl | (dsimp only;split<;>rfl) | (dsimp only;rw [zbs])
theorem yfq {a b:PV} {t:Bool}:yfo st d a b (.flat (.bool t))=some (st.put d (if t then a else b)):=rfl
def z4u (st:St) (d:Nat):Option Value→Option St
 | some v=>some (st.put d (.flat v))
 | none=>none
theorem z1l {v:Value}:z4u st d (some v)=some (st.put d (.flat v)):=rfl
def kBin (st:St) (d:Nat) (op:BinOp):PV→PV→Option St
 | .flat a,.flat b=>z4u st d (zbd op a b)
 | _,_=>none
theorem yk7 {op:BinOp} {x y:X}:zaa cf st (some d) (.bin op x y)=kBin st d op (x.ev st.sl) (y.ev st.sl):=by
 simp only [zaa,zar]
 generalize x.ev st.sl=p
 generalize y.ev st.sl=q
 cases p with
 | flat v =>
   cases q with
   | flat u=>simp only [kBin];cases zbd op v u<;>rfl
   | _=>rfl
 | _=>cases q<;>rfl
theorem yk8 {op:BinOp} {a b:Value}:kBin st d op (.flat a) (.flat b)=z4u st d (zbd op a b):=rfl
def kBeq (st:St) (d:Nat) (ne:Bool):PV→PV→Option St
 | .flat (.bool a),.flat (.bool b)=>some (st.put d (.flat (.bool (if ne then !(a == b) else a == b))))
 | _,_=>none
theorem yk9 {ne:Bool} {x y:X}:zaa cf st (some d) (.beq ne x y)=kBeq st d ne (x.ev st.sl) (y.ev st.sl):=by
 simp only [zaa,zar]
 unfold kBeq
 generalize x.ev st.sl=p
 generalize y.ev st.sl=q
 cases p with
 | flat v =>
   cases q with
   | flat u=>cases v<;>cases u<;>first | rfl | (dsimp only;split<;>rfl)
   | _=>cases v<;>rfl
 | _ =>
   cases q with
   | flat u=>cases u<;>first | rfl | (dsimp only;split<;>rfl)
   | _=>rfl
theorem yla {ne a b:Bool}:kBeq st d ne (.flat (.bool a)) (.flat (.bool b))=some (st.put d (.flat (.bool (if ne then !(a == b) else a == b)))):=rfl
def kAnd (t:Bool):Option Bool→Option Bool
 | some r=>some (t && r)
 | none=>none
theorem ylb {t r:Bool}:kAnd t (some r)=some (t && r):=rfl
theorem eq_n:eqCs [] [] []=some true:=rfl
theorem eq_b {a b:Bool} {ks:List LK} {cs ds:List PV}:eqCs (.b::ks) (.flat (.bool a)::cs) (.flat (.bool b)::ds)=kAnd (a == b) (eqCs ks cs ds):=by
 simp only [eqCs];cases eqCs ks cs ds<;>rfl
theorem eq_i {k:IntKind} {a b:Int} {ks:List LK} {cs ds:List PV}:eqCs (.i k::ks) (.flat (.int k a)::cs) (.flat (.int k b)::ds)=kAnd (decide (a=b)) (eqCs ks cs ds):=by
 simp only [eqCs,and_self,if_true];cases eqCs ks cs ds<;>rfl
def kEqB (st:St) (d:Nat) (ne:Bool):Option Bool→Option St
 | some t=>some (st.put d (.flat (.bool (if ne then !t else t))))
 | none=>none
theorem ylc {ne t:Bool}:kEqB st d ne (some t)=some (st.put d (.flat (.bool (if ne then !t else t)))):=rfl
def kEqS (st:St) (d:Nat) (ne:Bool) (ks:List LK):PV→PV→Option St
 | .agg cs,.agg ds=>kEqB st d ne (eqCs ks cs ds)
 | _,_=>none
theorem yle {ne:Bool} {ks:List LK} {cs ds:List PV}:kEqS st d ne ks (.agg cs) (.agg ds)=kEqB st d ne (eqCs ks cs ds):=rfl
theorem ylf {ne:Bool} {ks:List LK} {x y:X}:zaa cf st (some d) (.eqS ne ks x y)=kEqS st d ne ks (x.ev st.sl) (y.ev st.sl):=by
 simp only [zaa,zar]
 generalize x.ev st.sl=p
 generalize y.ev st.sl=q
 cases p with
 | agg cs =>
   cases q with
   | agg ds=>simp only [kEqS];cases eqCs ks cs ds<;>rfl
   | _=>rfl
 | _=>cases q<;>rfl
def z1m (st:St) (d:Nat):PV→Option St
 | .ptr b o=>some (st.put d (.ptr b o))
 | .elt cs=>some (st.put d (.elt cs))
 | .clo f cs=>some (st.put d (.clo f cs))
 | .yld b=>some (st.put d (.yld b))
 | _=>none
theorem yfr {x:X}:zaa cf st (some d) (.nilc x)=z1m st d (x.ev st.sl):=by
 simp only [zaa,zar]
 unfold z1m
 generalize x.ev st.sl=p
 cases p with
 | flat v=>cases v<;>first | rfl | (dsimp only;split<;>rfl) | (dsimp only [zbs,zj4];rw [zbs])
 | _=>first | rfl | (dsimp only;split<;>rfl) | (dsimp only;rw [zbs])
theorem yfs {b o:Nat}:z1m st d (.ptr b o)=some (st.put d (.ptr b o)):=rfl
theorem yft {cs:List PV}:z1m st d (.elt cs)=some (st.put d (.elt cs)):=rfl
theorem yfu {f:FuncId} {cs:List PV}:z1m st d (.clo f cs)=some (st.put d (.clo f cs)):=rfl
theorem yfv {b:Nat}:z1m st d (.yld b)=some (st.put d (.yld b)):=rfl
def kUn (st:St) (d:Nat) (op:UnOp):PV→Option St
 | .flat a=>z4u st d (zoe op a)
 | _=>none
theorem yqi {op:UnOp} {x:X}:zaa cf st (some d) (.un op x)=kUn st d op (x.ev st.sl):=by
 simp only [zaa,zar]
 generalize x.ev st.sl=p
 cases p with
 | flat v=>simp only [kUn];cases zoe op v<;>rfl
 | _=>rfl
theorem yqj {op:UnOp} {a:Value}:kUn st d op (.flat a)=z4u st d (zoe op a):=rfl
def yfw (st:St) (d:Nat) (k:IntKind):PV→Option St
 | .flat (.int _ m)=>some (st.put d (.flat (.int k (k.wrap m))))
 | _=>none
theorem yfx {k:IntKind} {x:X}:zaa cf st (some d) (.conv k x)=yfw st d k (x.ev st.sl):=by
 simp only [zaa,zar]
 unfold yfw
 generalize x.ev st.sl=p
 cases p with
 | flat v=>cases v<;>first | rfl | (dsimp only;split<;>rfl) | (dsimp only [zbs,zj4];rw [zbs])
 | _=>first | rfl | (dsimp only;split<;>rfl) | (dsimp only;rw [zbs])
theorem yfy {k k':IntKind} {m:Int}:yfw st d k (.flat (.int k' m))=some (st.put d (.flat (.int k (k.wrap m)))):=rfl
theorem ylg {x:X}:zaa cf st (some d) (.b2s x)=kPut st d (b2sV (x.ev st.sl) st.bx):=by
 simp only [zaa,zbs]
theorem yaf:b2sV (.flat (.slice none 0 0)) bx=some (.flat (.string ⟨#[]⟩)):=rfl
theorem z4v {m:Nat} {cs:List PV}:b2sV (.slc m cs) bx=if cs.length=m then (bytesOf cs).map fun l=>.flat (.string ⟨l.toArray⟩) else none:=rfl
def zvk (o m:Nat):Option (Nat × List PV)→Option PV
 | some (_,cs)=>if o+m≤cs.length then kStr (bytesOf ((cs.drop o).take m)) else none
 | none=>none
where kStr:Option (List UInt8)→Option PV
 | some l=>some (.flat (.string ⟨l.toArray⟩))
 | none=>none
theorem ylh {l:List UInt8}:zvk.kStr (some l)=some (.flat (.string ⟨l.toArray⟩)):=rfl
theorem zzg {o m e:Nat} {cs:List PV}:zvk o m (some (e,cs))=if o+m≤cs.length then zvk.kStr (bytesOf ((cs.drop o).take m)) else none:=rfl
theorem yag {b o m:Nat}:b2sV (.bsl b o m) bx=zvk o m (ze0 bx b):=by
 simp only [b2sV]
 cases ze0 bx b with
 | none=>rfl
 | some q =>
   obtain ⟨e,cs⟩:=q
   simp only [Option.bind_some,zzg]
   split
   ·cases bytesOf ((cs.drop o).take m)<;>rfl
   ·rfl
theorem yfz {m:Nat} {cs:List PV}:b2sV (.slc m cs) bx=if cs.length=m then zvk.kStr (bytesOf cs) else none:=by
 rw [z4v]
 split
 ·cases bytesOf cs<;>rfl
 ·rfl
theorem yah {e:Nat} {zs:List PV}:zaa cf ⟨sl,ow,al,bx⟩ (some d) (.alloc e zs)=some ⟨(d,.ptr bx.length 0)::sl,za5 bx.length 0 zs++zag d ow,za8 d al,bx++[(e,zep zs)]⟩:=by
 rw [← zmk];rfl
def kBox (st:St) (d e m:Nat) (v:PV):Option St:=if v.good=true∧v.cells.length=m then some ⟨(d,.ptr st.bx.length 0)::st.sl,za5 st.bx.length 0 v.cells++zag d st.ow,za8 d st.al,st.bx++[(e,zep v.cells)]⟩ else none
theorem yli {e m:Nat} {x:X}:zaa cf st (some d) (.box e m x)=kBox st d e m (x.ev st.sl):=by
 unfold kBox
 rw [← zmk];rfl
theorem yf0 {e m:Nat} {v:PV}:kBox ⟨sl,ow,al,bx⟩ d e m v=if v.good=true∧v.cells.length=m then some ⟨(d,.ptr bx.length 0)::sl,za5 bx.length 0 v.cells++zag d ow,za8 d al,bx++[(e,zep v.cells)]⟩ else none:=rfl
def yd6 (st:St) (d:Nat):Option (List PV)→Option St
 | some cs=>some (st.put d (.agg cs))
 | none=>none
theorem yai {zs:List PV} {ps:List (Nat × Nat × X)}:zaa cf st (some d) (.build zs ps)=yd6 st d (zlt zs (evPs st.sl ps)):=by
 simp only [zaa,zar,zxs]
 cases zlt zs (evPs st.sl ps)<;>rfl
theorem yaj {cs:List PV}:yd6 st d (some cs)=some (st.put d (.agg cs)):=rfl
def ylj (st:St) (d:Nat) (byte:Bool) (m size:Nat):Option (List PV)→Option St
 | some cs=>if byte=true∨size≠1∨noU8 (zep cs)=true then some (st.putOwn d (.slc m (zep cs))) else none
 | none=>none
theorem yf1 {byte:Bool} {m size:Nat} {zs:List PV} {ps:List (Nat × Nat × X)}:zaa cf st (some d) (.mksl byte m size zs ps)=ylj st d byte m size (zlt zs (evPs st.sl ps)):=by
 simp only [zaa,Option.bind_some,zxs]
 cases zlt zs (evPs st.sl ps)<;>rfl
theorem yf2 {byte:Bool} {m size:Nat} {cs:List PV}:ylj st d byte m size (some cs)=if byte=true∨size≠1∨noU8 (zep cs)=true then some (st.putOwn d (.slc m (zep cs))) else none:=rfl
theorem yf3 {agg:Bool} {m:Nat} {a:X}:zaa cf st (some d) (.load agg m a)=kPut st d (zry agg m (a.ev st.sl) st.bx):=by
 simp only [zaa,Option.bind_some,zj4]
def zqf (agg:Bool) (m o:Nat):Option (Nat × List PV)→Option PV
 | some (_,cs)=>if o+m≤cs.length then (match agg with | true=>some (.agg ((cs.drop o).take m)) | false=>cs[o]?) else none
 | none=>none
theorem yf4 {m o e:Nat} {cs:List PV}:zqf true m o (some (e,cs))=if o+m≤cs.length then some (.agg ((cs.drop o).take m)) else none:=rfl
theorem zxt {m o e:Nat} {cs:List PV}:zqf false m o (some (e,cs))=if o+m≤cs.length then cs[o]? else none:=rfl
theorem yak {agg:Bool} {m b o:Nat}:zry agg m (.ptr b o) bx=zqf agg m o (ze0 bx b):=by
 simp only [zry]
 cases ze0 bx b with
 | none=>rfl
 | some q=>rfl
theorem z4w {m:Nat} {cs:List PV}:zry true m (.elt cs) bx=if m≤cs.length then some (.agg (cs.take m)) else none:=rfl
theorem z4x {m:Nat} {cs:List PV}:zry false m (.elt cs) bx=if m≤cs.length then cs[0]? else none:=rfl
def yd7:Option (Nat × List PV)→Option (Nat × List PV)
 | some (e,cs)=>if isLp cs then none else some (e,cs)
 | none=>none
theorem yal {b:Nat}:ze0 bx b=yd7 (bx[b]?):=by
 unfold ze0
 cases bx[b]? with
 | none=>rfl
 | some q=>rfl
theorem yam {e:Nat} {cs:List PV}:yd7 (some (e,cs))=if isLp cs then none else some (e,cs):=rfl
def z4y (st:St) (d b o:Nat):Option PV→Option St
 | some v=>some ⟨(d,v)::st.sl,zag d st.ow,(d,.cell b o)::za8 d st.al,st.bx⟩
 | none=>none
def z4z (st:St) (d:Nat):PV→Option St
 | .ptr b o=>z4y st d b o (zqf false 1 o (ze0 st.bx b))
 | _=>none
theorem yan {a:X}:zaa cf st (some d) (.loadA a)=z4z st d (a.ev st.sl):=by
 simp only [zaa,Option.bind_some]
 generalize a.ev st.sl=p
 cases p with
 | ptr b o =>
   simp only [z4z]
   cases h:ze0 st.bx b with
   | none=>rfl
   | some q =>
     obtain ⟨e,cs⟩:=q
     simp only [Option.bind_some,zxt]
     by_cases hl:o+1≤cs.length
     ·rw [if_pos hl]
      cases h2:cs[o]? <;>rfl
     ·rw [if_neg hl,List.getElem?_eq_none (by omega)];rfl
 | _=>rfl
theorem yao {b o:Nat}:z4z st d (.ptr b o)=z4y st d b o (zqf false 1 o (ze0 st.bx b)):=rfl
theorem yap {b o:Nat} {v:PV}:z4y ⟨sl,ow,al,bx⟩ d b o (some v)=some ⟨(d,v)::sl,zag d ow,(d,.cell b o)::za8 d al,bx⟩:=rfl
def zhp (b o m:Nat):List Loc→List Loc
 | []=>[]
 | .slot i::r=>.slot i::zhp b o m r
 | .cell b' j::r=>if b'=b∧o≤j∧j<o+m then zhp b o m r else .cell b' j::zhp b o m r
theorem z40 {b o m:Nat}:zhp b o m []=[]:=rfl
theorem z41 {b o m i:Nat} {r:List Loc}:zhp b o m (.slot i::r)=.slot i::zhp b o m r:=rfl
theorem zt1 {b o m b' j:Nat} {r:List Loc}:zhp b o m (.cell b' j::r)=if b'=b∧o≤j∧j<o+m then zhp b o m r else .cell b' j::zhp b o m r:=rfl
theorem zvl {b o m b' j:Nat}:zeq b o m (.cell b' j)=decide (b'=b∧o≤j∧j<o+m):=by
 unfold zeq
 by_cases h1:b'=b<;>by_cases h2:o≤j<;>by_cases h3:j<o+m<;>simp [h1,h2,h3]
theorem zpa {b o m:Nat}:∀ l:List Loc,(l.filter fun L=>!zeq b o m L)=zhp b o m l
 | []=>rfl
 | .slot i::r=>by rw [z41,← zpa r];simp [zeq]
 | .cell b' j::r=>by
   rw [zt1,← zpa r,List.filter_cons,zvl]
   by_cases h:b'=b∧o≤j∧j<o+m<;>simp [h]
def zh1 (b o m:Nat) (l:List (Nat × Loc)):List (Nat × Loc):=l.filter fun p=>!zeq b o m p.2
theorem z1n {b o m:Nat}:zh1 b o m []=[]:=rfl
theorem yaq {b o m t i:Nat} {r:List (Nat × Loc)}:zh1 b o m ((t,.slot i)::r)=(t,.slot i)::zh1 b o m r:=by simp [zh1,zeq]
theorem yar {b o m t b' j:Nat} {r:List (Nat × Loc)}:zh1 b o m ((t,.cell b' j)::r)=if b'=b∧o≤j∧j<o+m then zh1 b o m r else (t,.cell b' j)::zh1 b o m r:=by
 unfold zh1
 rw [List.filter_cons,zvl]
 by_cases h:b'=b∧o≤j∧j<o+m<;>simp [h]
def kStW (st:St) (b o m:Nat) (x:X) (v:PV) (e:Nat) (cs:List PV):Option St:=if v.good=true∧v.cells.length=m∧o+m≤cs.length then
    (match x with
     | .t s=>if owns st.ow (.slot s) then some ⟨st.sl,.cell b o::zag s (za5 b o v.cells++zhp b o m st.ow),za8 s (zh1 b o m st.al),st.bx.set b (e,cs.take o++zep v.cells++cs.drop (o+m))⟩ else some ⟨st.sl,za5 b o v.cells++zhp b o m st.ow,zh1 b o m st.al,st.bx.set b (e,cs.take o++zep v.cells++cs.drop (o+m))⟩
     | .c _=>some ⟨st.sl,za5 b o v.cells++zhp b o m st.ow,zh1 b o m st.al,st.bx.set b (e,cs.take o++zep v.cells++cs.drop (o+m))⟩) else none
def kStQ (st:St) (b o m:Nat) (x:X) (v:PV):Option (Nat × List PV)→Option St
 | some (e,cs)=>kStW st b o m x v e cs
 | none=>none
def kSt (st:St) (m:Nat) (x:X) (v:PV):PV→Option St
 | .ptr b o=>kStQ st b o m x v (ze0 st.bx b)
 | _=>none
theorem yas {m:Nat} {a x:X}:zaa cf st none (.store m a x)=kSt st m x (x.ev st.sl) (a.ev st.sl):=by
 simp only [zaa]
 generalize a.ev st.sl=p
 cases p with
 | ptr b o =>
   dsimp only
   simp only [kSt,kStQ]
   cases h:ze0 st.bx b with
   | none=>rfl
   | some q =>
     obtain ⟨e,cs⟩:=q
     simp only [Option.bind_some,kStW]
     split
     ·cases x with
      | t s=>simp only [zpa,zdf,zmk];rfl
      | c v=>simp only [zpa,zmk];rfl
     ·rfl
 | _=>rfl
theorem yqk {b o m:Nat} {x:X} {v:PV}:kSt st m x v (.ptr b o)=kStQ st b o m x v (ze0 st.bx b):=rfl
theorem ylk {b o m e:Nat} {x:X} {v:PV} {cs:List PV}:kStQ st b o m x v (some (e,cs))=kStW st b o m x v e cs:=rfl
theorem yll {b o m e s:Nat} {v:PV} {cs:List PV}:kStW ⟨sl,ow,al,bx⟩ b o m (.t s) v e cs=if v.good=true∧v.cells.length=m∧o+m≤cs.length then (if owns ow (.slot s) then some ⟨sl,.cell b o::zag s (za5 b o v.cells++zhp b o m ow),za8 s (zh1 b o m al),bx.set b (e,cs.take o++zep v.cells++cs.drop (o+m))⟩ else some ⟨sl,za5 b o v.cells++zhp b o m ow,zh1 b o m al,bx.set b (e,cs.take o++zep v.cells++cs.drop (o+m))⟩) else none:=rfl
theorem ylm {b o m e:Nat} {u v:PV} {cs:List PV}:kStW ⟨sl,ow,al,bx⟩ b o m (.c u) v e cs=if v.good=true∧v.cells.length=m∧o+m≤cs.length then some ⟨sl,za5 b o v.cells++zhp b o m ow,zh1 b o m al,bx.set b (e,cs.take o++zep v.cells++cs.drop (o+m))⟩ else none:=rfl
def yat (st:St) (d off:Nat):PV→Option St
 | .ptr b o=>some (st.put d (.ptr b (o+off)))
 | .elt cs=>some (st.put d (.elt (cs.drop off)))
 | _=>none
theorem yf5 {off:Nat} {a:X}:zaa cf st (some d) (.fadr off a)=yat st d off (a.ev st.sl):=by
 simp only [zaa,zar]
 unfold yat
 generalize a.ev st.sl=p
 cases p with
 | flat v=>cases v<;>first | rfl | (dsimp only;split<;>rfl) | (dsimp only [zbs,zj4];rw [zbs])
 | _=>first | rfl | (dsimp only;split<;>rfl) | (dsimp only;rw [zbs])
theorem yf6 {off b o:Nat}:yat st d off (.ptr b o)=some (st.put d (.ptr b (o+off))):=rfl
theorem yf7 {off:Nat} {cs:List PV}:yat st d off (.elt cs)=some (st.put d (.elt (cs.drop off))):=rfl
def yf8 (st:St) (d off m:Nat):PV→Option St
 | .agg cs=>if off+m≤cs.length then some (st.put d (.agg ((cs.drop off).take m))) else none
 | _=>none
def yf9 (st:St) (d off:Nat):PV→Option St
 | .agg cs=>kPut st d (cs[off]?)
 | _=>none
theorem yga {off m:Nat} {x:X}:zaa cf st (some d) (.fld true off m x)=yf8 st d off m (x.ev st.sl):=by
 simp only [zaa,zar]
 unfold yf8
 generalize x.ev st.sl=p
 cases p with
 | flat v=>cases v<;>first | rfl | (dsimp only;split<;>rfl) | (dsimp only [zbs,zj4];rw [zbs])
 | _=>first | rfl | (dsimp only;split<;>rfl) | (dsimp only;rw [zbs])
theorem ygb {off m:Nat} {x:X}:zaa cf st (some d) (.fld false off m x)=yf9 st d off (x.ev st.sl):=by
 simp only [zaa,zar]
 generalize x.ev st.sl=p
 cases p with
 | agg cs=>simp only [yf9,zbs]
 | _=>rfl
theorem ygc {off m:Nat} {cs:List PV}:yf8 st d off m (.agg cs)=if off+m≤cs.length then some (st.put d (.agg ((cs.drop off).take m))) else none:=rfl
theorem ygd {off:Nat} {cs:List PV}:yf9 st d off (.agg cs)=kPut st d (cs[off]?):=rfl
def yau (st:St) (d size:Nat):PV→PV→Option St
 | .slc m cs,.flat (.int _ i)=>if 0≤i∧i<m then some (st.put d (.elt (cs.drop (i.toNat * size)))) else none
 | .bsl b o m,.flat (.int _ i)=>if 0≤i∧i<m then some (st.put d (.ptr b (o+i.toNat * size))) else none
 | _,_=>none
theorem yge {size:Nat} {x i:X}:zaa cf st (some d) (.iadr size x i)=yau st d size (x.ev st.sl) (i.ev st.sl):=by
 simp only [zaa,zar]
 unfold yau
 generalize x.ev st.sl=p
 generalize i.ev st.sl=q
 cases p with
 | flat v =>
   cases q with
   | flat u=>cases v<;>cases u<;>first | rfl | (dsimp only;split<;>rfl)
   | _=>cases v<;>rfl
 | _ =>
   cases q with
   | flat u=>cases u<;>first | rfl | (dsimp only;split<;>rfl)
   | _=>rfl
theorem ygf {size m:Nat} {cs:List PV} {k:IntKind} {i:Int}:yau st d size (.slc m cs) (.flat (.int k i))=if 0≤i∧i<m then some (st.put d (.elt (cs.drop (i.toNat * size)))) else none:=rfl
theorem ygg {size b o m:Nat} {k:IntKind} {i:Int}:yau st d size (.bsl b o m) (.flat (.int k i))=if 0≤i∧i<m then some (st.put d (.ptr b (o+i.toNat * size))) else none:=rfl
def ygh (st:St) (d len size:Nat):PV→PV→Option St
 | .ptr b o,.flat (.int _ i)=>if 0≤i∧i<len then some (st.put d (.ptr b (o+i.toNat * size))) else none
 | _,_=>none
theorem ygi {len size:Nat} {x i:X}:zaa cf st (some d) (.paddr len size x i)=ygh st d len size (x.ev st.sl) (i.ev st.sl):=by
 simp only [zaa,zar]
 unfold ygh
 generalize x.ev st.sl=p
 generalize i.ev st.sl=q
 cases p with
 | flat v =>
   cases q with
   | flat u=>cases v<;>cases u<;>first | rfl | (dsimp only;split<;>rfl)
   | _=>cases v<;>rfl
 | _ =>
   cases q with
   | flat u=>cases u<;>first | rfl | (dsimp only;split<;>rfl)
   | _=>rfl
theorem ygj {len size b o:Nat} {k:IntKind} {i:Int}:ygh st d len size (.ptr b o) (.flat (.int k i))=if 0≤i∧i<len then some (st.put d (.ptr b (o+i.toNat * size))) else none:=rfl
def yav (st:St) (d:Nat):Option UInt8→Option St
 | some c=>some (st.put d (.flat (.int .u8 c.toNat)))
 | none=>none
def kIdx (st:St) (d:Nat):PV→PV→Option St
 | .flat (.string s),.flat (.int _ i)=>if 0≤i then yav st d (s[i.toNat]?) else none
 | _,_=>none
theorem yln {x i:X}:zaa cf st (some d) (.idx x i)=kIdx st d (x.ev st.sl) (i.ev st.sl):=by
 simp only [zaa,zar]
 generalize x.ev st.sl=p
 generalize i.ev st.sl=q
 cases p with
 | flat v =>
   cases q with
   | flat u =>
     cases v<;>cases u<;>try rfl
     rename_i s k j
     simp only [kIdx]
     split
     ·cases s[j.toNat]? <;>rfl
     ·rfl
   | _=>cases v<;>rfl
 | _=>cases q<;>rfl
theorem ylo {s:ByteArray} {k:IntKind} {i:Int}:kIdx st d (.flat (.string s)) (.flat (.int k i))=if 0≤i then yav st d (s[i.toNat]?) else none:=rfl
theorem ygk {c:UInt8}:yav st d (some c)=some (st.put d (.flat (.int .u8 c.toNat))):=rfl
def yaw (st:St) (d:Nat) (agg:Bool) (len size:Nat):PV→PV→Option St
 | .agg cs,.flat (.int _ i)=>if 0≤i∧i<len∧i.toNat * size+size≤cs.length then (match agg with | true=>some (st.put d (.agg ((cs.drop (i.toNat * size)).take size))) | false=>kPut st d (cs[i.toNat * size]?)) else none
 | _,_=>none
theorem ygl {agg:Bool} {len size:Nat} {x i:X}:zaa cf st (some d) (.idxA agg len size x i)=yaw st d agg len size (x.ev st.sl) (i.ev st.sl):=by
 simp only [zaa,zar]
 generalize x.ev st.sl=p
 generalize i.ev st.sl=q
 cases p with
 | agg cs =>
   cases q with
   | flat u =>
     cases u<;>try rfl
     rename_i k j
     simp only [yaw]
     split
     ·cases agg
      ·simp only [zbs]
      ·rfl
     ·rfl
   | _=>rfl
 | _=>cases q<;>rfl
theorem ygm {len size:Nat} {cs:List PV} {k:IntKind} {i:Int}:yaw st d true len size (.agg cs) (.flat (.int k i))=if 0≤i∧i<len∧i.toNat * size+size≤cs.length then some (st.put d (.agg ((cs.drop (i.toNat * size)).take size))) else none:=rfl
theorem ygn {len size:Nat} {cs:List PV} {k:IntKind} {i:Int}:yaw st d false len size (.agg cs) (.flat (.int k i))=if 0≤i∧i<len∧i.toNat * size+size≤cs.length then kPut st d (cs[i.toNat * size]?) else none:=rfl
def evO (sl:List (Nat × PV)):Option X→Option PV
 | none=>none
 | some x=>some (x.ev sl)
theorem yql:evO sl none=none:=rfl
theorem yqm {x:X}:evO sl (some x)=some (x.ev sl):=rfl
theorem z42 {x:Option X}:x.map (·.ev sl)=evO sl x:=by cases x<;>rfl
def kSub (st:St) (d:Nat) (s:ByteArray):Option (Nat × Nat)→Option St
 | some (l,h)=>some (st.put d (.flat (.string (s.extract l h))))
 | none=>none
def kSlS (st:St) (d:Nat) (lo hi:Option PV):PV→Option St
 | .flat (.string s)=>kSub st d s (zbo s.size lo hi)
 | _=>none
theorem z43 {x:X} {lo hi:Option X}:zaa cf st (some d) (.sliceS x lo hi)=kSlS st d (evO st.sl lo) (evO st.sl hi) (x.ev st.sl):=by
 simp only [zaa,zar,z42]
 generalize x.ev st.sl=p
 cases p with
 | flat v =>
   cases v<;>try rfl
   rename_i s
   simp only [kSlS]
   cases zbo s.size (evO st.sl lo) (evO st.sl hi)<;>rfl
 | _=>rfl
theorem ylp {lo hi:Option PV} {s:ByteArray}:kSlS st d lo hi (.flat (.string s))=kSub st d s (zbo s.size lo hi):=rfl
theorem ylq {s:ByteArray} {l h:Nat}:kSub st d s (some (l,h))=some (st.put d (.flat (.string (s.extract l h)))):=rfl
theorem ylr {m:Nat}:zbo m none none=some (0,m):=by simp [zbo]
theorem yls {m:Nat} {k:IntKind} {i:Int}:zbo m none (some (.flat (.int k i)))=if 0≤i∧i≤m then some (0,i.toNat) else none:=by
 simp only [zbo,zlu,Option.bind_some]
 split<;>rfl
theorem ylt {m:Nat} {k:IntKind} {i:Int}:zbo m (some (.flat (.int k i))) none=if 0≤i∧i≤m then some (i.toNat,m) else none:=by
 simp only [zbo,zlu,Option.bind_some]
 split<;>rfl
theorem ylu {m:Nat} {k k':IntKind} {i j:Int}:zbo m (some (.flat (.int k i))) (some (.flat (.int k' j)))=if 0≤i∧i≤j∧j≤m then some (i.toNat,j.toNat) else none:=by
 simp only [zbo,zlu,Option.bind_some]
 by_cases h:0≤j∧j≤(m:Int)
 ·rw [if_pos h]
  simp only [Option.bind_some]
  by_cases h2:0≤i∧i≤((j.toNat:Nat):Int)
  ·rw [if_pos h2,if_pos (by omega)];rfl
  ·rw [if_neg h2,if_neg (by omega)];rfl
 ·rw [if_neg h,if_neg (by omega)];rfl
def ygo (st:St) (d size m:Nat) (cs:List PV):Option (Nat × Nat)→Option St
 | some (l,h)=>some (st.put d (.slc (h - l) ((cs.take (h * size)).drop (l * size))))
 | none=>none
def z44 (st:St) (d size b o:Nat):Option (Nat × Nat)→Option St
 | some (l,h)=>some (st.put d (.bsl b (o+l * size) (h - l)))
 | none=>none
def kSl (st:St) (d size:Nat) (lo hi:Option PV):PV→Option St
 | .slc m cs=>if cs.length=m * size∧0<size then ygo st d size m cs (zbo m lo hi) else none
 | .bsl b o m=>z44 st d size b o (zbo m lo hi)
 | _=>none
theorem yax {size:Nat} {x:X} {lo hi:Option X}:zaa cf st (some d) (.slice size x lo hi)=kSl st d size (evO st.sl lo) (evO st.sl hi) (x.ev st.sl):=by
 simp only [zaa,zar,z42]
 generalize x.ev st.sl=p
 cases p with
 | slc m cs =>
   simp only [kSl]
   split
   ·cases zbo m (evO st.sl lo) (evO st.sl hi)<;>rfl
   ·rfl
 | bsl b o m=>simp only [kSl];cases zbo m (evO st.sl lo) (evO st.sl hi)<;>rfl
 | _=>rfl
theorem yqn {size m:Nat} {cs:List PV} {lo hi:Option PV}:kSl st d size lo hi (.slc m cs)=if cs.length=m * size∧0<size then ygo st d size m cs (zbo m lo hi) else none:=rfl
theorem yqo {size b o m:Nat} {lo hi:Option PV}:kSl st d size lo hi (.bsl b o m)=z44 st d size b o (zbo m lo hi):=rfl
theorem ygp {size m l h:Nat} {cs:List PV}:ygo st d size m cs (some (l,h))=some (st.put d (.slc (h - l) ((cs.take (h * size)).drop (l * size)))):=rfl
theorem ygq {size b o l h:Nat}:z44 st d size b o (some (l,h))=some (st.put d (.bsl b (o+l * size) (h - l))):=rfl
def kSlP (st:St) (d len size:Nat) (lo hi:Option PV):PV→Option St
 | .ptr b o=>z44 st d size b o (zbo len lo hi)
 | _=>none
theorem z45 {len size:Nat} {x:X} {lo hi:Option X}:zaa cf st (some d) (.sliceP len size x lo hi)=kSlP st d len size (evO st.sl lo) (evO st.sl hi) (x.ev st.sl):=by
 simp only [zaa,zar,z42]
 generalize x.ev st.sl=p
 cases p with
 | ptr b o=>simp only [kSlP];cases zbo len (evO st.sl lo) (evO st.sl hi)<;>rfl
 | _=>rfl
theorem ylv {len size b o:Nat} {lo hi:Option PV}:kSlP st d len size lo hi (.ptr b o)=z44 st d size b o (zbo len lo hi):=rfl
def kExt (st:St) (d i:Nat):PV→Option St
 | .tup vs=>kPut st d (vs[i]?)
 | _=>none
theorem ylw {x:X} {i:Nat}:zaa cf st (some d) (.ext x i)=kExt st d i (x.ev st.sl):=by
 simp only [zaa,zar]
 generalize x.ev st.sl=p
 cases p with
 | tup vs=>simp only [kExt,zbs]
 | _=>rfl
theorem ylx {i:Nat} {vs:List PV}:kExt st d i (.tup vs)=kPut st d (vs[i]?):=rfl
def kLen (st:St) (d:Nat):PV→Option St
 | .slc m _=>some (st.put d (.flat (.int .i64 m)))
 | .bsl _ _ m=>some (st.put d (.flat (.int .i64 m)))
 | .flat (.slice none 0 0)=>some (st.put d (.flat (.int .i64 0)))
 | _=>none
theorem yly {x:X}:zaa cf st (some d) (.len x)=kLen st d (x.ev st.sl):=by
 simp only [zaa,zar]
 unfold kLen
 generalize x.ev st.sl=p
 split<;>first | rfl | (split<;>first | rfl | simp_all)
theorem ylz:kLen st d (.flat (.slice none 0 0))=some (st.put d (.flat (.int .i64 0))):=rfl
theorem yl0 {m:Nat} {cs:List PV}:kLen st d (.slc m cs)=some (st.put d (.flat (.int .i64 m))):=rfl
theorem yl1 {b o m:Nat}:kLen st d (.bsl b o m)=some (st.put d (.flat (.int .i64 m))):=rfl
def ygr (st:St) (d:Nat):PV→Option St
 | .flat (.string s)=>some (st.put d (.flat (.int .i64 s.size)))
 | _=>none
theorem ygs {x:X}:zaa cf st (some d) (.lenS x)=ygr st d (x.ev st.sl):=by
 simp only [zaa,zar]
 unfold ygr
 generalize x.ev st.sl=p
 cases p with
 | flat v=>cases v<;>first | rfl | (dsimp only;split<;>rfl) | (dsimp only [zbs,zj4];rw [zbs])
 | _=>first | rfl | (dsimp only;split<;>rfl) | (dsimp only;rw [zbs])
theorem ygt {s:ByteArray}:ygr st d (.flat (.string s))=some (st.put d (.flat (.int .i64 s.size))):=rfl
def kMvS (st:St) (d:Nat):PV→Option St
 | .flat (.string s)=>some (st.put d (.flat (.string s)))
 | _=>none
theorem yl2 {x:X}:zaa cf st (some d) (.mvS x)=kMvS st d (x.ev st.sl):=by
 simp only [zaa,zar]
 unfold kMvS
 generalize x.ev st.sl=p
 cases p with
 | flat v=>cases v<;>first | rfl | (dsimp only;split<;>rfl) | (dsimp only [zbs,zj4];rw [zbs])
 | _=>first | rfl | (dsimp only;split<;>rfl) | (dsimp only;rw [zbs])
theorem yl3 {s:ByteArray}:kMvS st d (.flat (.string s))=some (st.put d (.flat (.string s))):=rfl
def kMm (st:St) (d:Nat) (mx:Bool):PV→PV→Option St
 | .flat (.int k a),.flat (.int k' b)=>if k=k' then some (st.put d (.flat (.int k (if mx then (if b > a then b else a) else (if b<a then b else a))))) else none
 | _,_=>none
theorem yqp {mx:Bool} {x y:X}:zaa cf st (some d) (.mm mx x y)=kMm st d mx (x.ev st.sl) (y.ev st.sl):=by
 simp only [zaa,zar]
 unfold kMm
 generalize x.ev st.sl=p
 generalize y.ev st.sl=q
 cases p with
 | flat v =>
   cases q with
   | flat u=>cases v<;>cases u<;>first | rfl | (dsimp only;split<;>rfl)
   | _=>cases v<;>rfl
 | _ =>
   cases q with
   | flat u=>cases u<;>first | rfl | (dsimp only;split<;>rfl)
   | _=>rfl
theorem yqq {mx:Bool} {k k':IntKind} {a b:Int}:kMm st d mx (.flat (.int k a)) (.flat (.int k' b))=if k=k' then some (st.put d (.flat (.int k (if mx then (if b > a then b else a) else (if b<a then b else a))))) else none:=rfl
theorem ygu {f:FuncId} {cs:List X}:zaa cf st (some d) (.clos f cs)=some (st.put d (.clo f (evL st.sl cs))):=by
 simp only [zaa,zar,yd5];rfl
def zfm (ow:List Loc) (al:List (Nat × Loc)) (t:Nat):Option Loc:=if owns ow (.slot t) then some (.slot t) else alOf t al
where alOf (t:Nat):List (Nat × Loc)→Option Loc
 | []=>none
 | (u,L)::r=>if u=t then some L else alOf t r
theorem yay {t:Nat}:zfm.alOf t []=none:=rfl
theorem zvm {t u:Nat} {L:Loc} {r:List (Nat × Loc)}:zfm.alOf t ((u,L)::r)=if u=t then some L else zfm.alOf t r:=rfl
theorem z47 {t:Nat}:∀ l:List (Nat × Loc),(l.find? fun p=>p.1 == t).map (·.2)=zfm.alOf t l
 | []=>rfl
 | (u,L)::r=>by
   rw [zvm,← z47 r,List.find?_cons]
   by_cases h:u=t
   ·subst h;simp
   ·have:(u == t)=false:=by simpa using h
    simp only [this,h,if_false]
theorem z1o {t:Nat}:zfm ow al t=if owns ow (.slot t) then some (.slot t) else zfm.alOf t al:=rfl
theorem zvn {t:Nat}:origin st t=zfm st.ow st.al t:=by
 unfold origin zfm
 rw [z47]
 by_cases h:Loc.slot t∈st.ow
 ·rw [if_pos h,if_pos (zdf.2 h)]
 ·rw [if_neg h,if_neg (fun k=>h (zdf.1 k))]
def zfn (L:Loc) (l:List Loc):List Loc:=l.filter (·≠L)
theorem z48 {L:Loc}:zfn L []=[]:=rfl
theorem yaz {i j:Nat} {r:List Loc}:zfn (.slot i) (.slot j::r)=if j=i then zfn (.slot i) r else .slot j::zfn (.slot i) r:=by
 by_cases h:j=i<;>simp [zfn,h]
theorem zt2 {i b o:Nat} {r:List Loc}:zfn (.slot i) (.cell b o::r)=.cell b o::zfn (.slot i) r:=by simp [zfn]
theorem ya0 {i b o:Nat} {r:List Loc}:zfn (.cell b o) (.slot i::r)=.slot i::zfn (.cell b o) r:=by simp [zfn]
theorem zzh {b o b' o':Nat} {r:List Loc}:zfn (.cell b o) (.cell b' o'::r)=if b'=b∧o'=o then zfn (.cell b o) r else .cell b' o'::zfn (.cell b o) r:=by
 by_cases h1:b'=b<;>by_cases h2:o'=o<;>simp [zfn,h1,h2]
def zmv (L:Loc) (l:List (Nat × Loc)):List (Nat × Loc):=l.filter fun p=>p.2≠L
def zl3 (st:St) (d b o:Nat):Bool→Option PV→Option St
 | true,some v=>some ⟨(d,v)::st.sl,.slot d::zfn (.cell b o) (zag d st.ow),[],st.bx⟩
 | _,_=>none
def z49 (st:St) (d:Nat):PV→Option St
 | .ptr b o=>zl3 st d b o (owns st.ow (.cell b o)) (zqf false 1 o (ze0 st.bx b))
 | _=>none
theorem ya1 {a:X}:zaa cf st (some d) (.loadM a)=z49 st d (a.ev st.sl):=by
 simp only [zaa,Option.bind_some]
 generalize a.ev st.sl=p
 cases p with
 | ptr b o =>
   simp only [z49]
   have ho:owns st.ow (.cell b o)=decide (.cell b o∈st.ow):=by
    by_cases h:Loc.cell b o∈st.ow
    ·rw [zdf.2 h];simp [h]
    ·have:owns st.ow (.cell b o)=false:=by cases hh:owns st.ow (.cell b o) with | false=>rfl | true=>exact absurd (zdf.1 hh) h
     rw [this];simp [h]
   rw [ho]
   cases h:ze0 st.bx b with
   | none=>by_cases hm:Loc.cell b o∈st.ow<;>simp [hm,zl3,zqf]
   | some q =>
     obtain ⟨e,cs⟩:=q
     simp only [Option.bind_some,zxt]
     have hr:(if o+1≤cs.length then cs[o]? else none)=cs[o]? :=by
      by_cases hl:o+1≤cs.length
      ·rw [if_pos hl]
      ·rw [if_neg hl,List.getElem?_eq_none (by omega)]
     rw [hr]
     cases h2:cs[o]? with
     | none=>by_cases hm:Loc.cell b o∈st.ow<;>simp [hm,zl3]
     | some v =>
       by_cases hm:Loc.cell b o∈st.ow
       ·simp only [hm,Option.bind_some,if_true,decide_true,zl3,zfn];rfl
       ·simp [hm,zl3]
 | _=>rfl
theorem ya2 {b o:Nat}:z49 st d (.ptr b o)=zl3 st d b o (owns st.ow (.cell b o)) (zqf false 1 o (ze0 st.bx b)):=rfl
theorem z5a {b o:Nat} {v:PV}:zl3 st d b o true (some v)=some ⟨(d,v)::st.sl,.slot d::zfn (.cell b o) (zag d st.ow),[],st.bx⟩:=rfl
theorem z1p {L:Loc}:zmv L []=[]:=rfl
theorem zxu {L K:Loc} {t:Nat} {r:List (Nat × Loc)}:zmv L ((t,K)::r)=if K=L then zmv L r else (t,K)::zmv L r:=by
 by_cases h:K=L<;>simp [zmv,h]
def kApp (st:St) (d:Nat) (byte:Bool) (size:Nat) (L:Loc):Option PV→PV→Option St
 | some (.slc m cs),.slc m' ds=>if m+m'≤bound∧cs.length=m * size∧ds.length=m' * size∧owns st.ow L=true∧tyOk byte size cs ds=true then
  some ⟨(d,.slc (m+m') (cs++ds))::st.sl,.slot d::zag d (zfn L st.ow),za8 d (zmv L st.al),st.bx⟩ else none
 | _,_=>none
def ya3 (st:St) (d:Nat) (byte:Bool) (size:Nat) (y:PV):Option Loc→Option St
 | some L=>kApp st d byte size L (pvAt st L) y
 | none=>none
def z5b (st:St) (d:Nat) (byte:Bool) (size:Nat):PV→Option St
 | .slc m ds=>if m≤bound∧ds.length=m * size∧tyOk byte size [] ds=true then (if m=0 then some (st.put d (.flat (.slice none 0 0))) else some (st.putOwn d (.slc m ds))) else none
 | _=>none
theorem ygv {byte:Bool} {size m:Nat} {ds:List PV}:z5b st d byte size (.slc m ds)=if m≤bound∧ds.length=m * size∧tyOk byte size [] ds=true then (if m=0 then some (st.put d (.flat (.slice none 0 0))) else some (st.putOwn d (.slc m ds))) else none:=rfl
theorem zvo {byte:Bool} {size:Nat} {x y:X}:zaa cf st (some d) (.append byte size x y)=if zbu (x.ev st.sl) then z5b st d byte size (y.ev st.sl).weak else (match x with | .t s=>ya3 st d byte size (y.ev st.sl).weak (zfm st.ow st.al s) | .c _=>none):=by
 simp only [zaa]
 split
 ·generalize (y.ev st.sl).weak=q
  cases q with
  | slc m ds =>
    simp only [z5b]
    split
    ·rw [Option.map_some];split<;>rfl
    ·rfl
  | _=>rfl
 ·cases x with
  | c v=>rfl
  | t s =>
    simp only [zvn]
    cases zfm st.ow st.al s with
    | none=>rfl
    | some L =>
      simp only [Option.bind_some,ya3]
      generalize pvAt st L=p
      generalize (y.ev st.sl).weak=q
      cases p with
      | none=>cases q<;>rfl
      | some p =>
        cases p with
        | slc m cs =>
          cases q with
          | slc m' ds=>simp only [kApp,zdf];rfl
          | _=>rfl
        | _=>cases q<;>rfl
theorem ygw {byte:Bool} {size s:Nat} {y:X}:zaa cf st (some d) (.append byte size (.t s) y)=if zbu (look st.sl s) then z5b st d byte size (y.ev st.sl).weak else ya3 st d byte size (y.ev st.sl).weak (zfm st.ow st.al s):=zvo
theorem ygx {byte:Bool} {size:Nat} {v:PV} {y:X}:zaa cf st (some d) (.append byte size (.c v) y)=if zbu v then z5b st d byte size (y.ev st.sl).weak else none:=zvo
theorem ygy {byte:Bool} {size:Nat} {y:PV} {L:Loc}:ya3 st d byte size y (some L)=kApp st d byte size L (pvAt st L) y:=rfl
theorem yl4 {byte:Bool} {size m m':Nat} {L:Loc} {cs ds:List PV}:kApp ⟨sl,ow,al,bx⟩ d byte size L (some (.slc m cs)) (.slc m' ds)=if m+m'≤bound∧cs.length=m * size∧ds.length=m' * size∧owns ow L=true∧tyOk byte size cs ds=true then some ⟨(d,.slc (m+m') (cs++ds))::sl,.slot d::zag d (zfn L ow),za8 d (zmv L al),bx⟩ else none:=rfl
theorem yl5 {i:Nat}:pvAt ⟨sl,ow,al,bx⟩ (.slot i)=some (look sl i):=rfl
def yl6 (o:Nat):Option (Nat × List PV)→Option PV
 | some (_,cs)=>cs[o]?
 | none=>none
theorem yl7 {b o:Nat}:pvAt ⟨sl,ow,al,bx⟩ (.cell b o)=yl6 o (bx[b]?):=by
 simp only [pvAt];cases bx[b]? <;>rfl
theorem ygz {o e:Nat} {cs:List PV}:yl6 o (some (e,cs))=cs[o]? :=rfl
def kApS (st:St) (d:Nat) (L:Loc):Option PV→PV→Option St
 | some (.slc m cs),.flat (.string z)=>if m+z.size≤bound∧cs.length=m∧owns st.ow L=true∧zia cs=true then
  some ⟨(d,.slc (m+z.size) (cs++zhy z))::st.sl,.slot d::zag d (zfn L st.ow),za8 d (zmv L st.al),st.bx⟩ else none
 | _,_=>none
def ya4 (st:St) (d:Nat) (y:PV):Option Loc→Option St
 | some L=>kApS st d L (pvAt st L) y
 | none=>none
def z5c (st:St) (d:Nat):PV→Option St
 | .flat (.string z)=>if z.size≤bound then (if z.size=0 then some (st.put d (.flat (.slice none 0 0))) else some (st.putOwn d (.slc z.size (zhy z)))) else none
 | _=>none
theorem z5d {z:ByteArray}:z5c st d (.flat (.string z))=if z.size≤bound then (if z.size=0 then some (st.put d (.flat (.slice none 0 0))) else some (st.putOwn d (.slc z.size (zhy z)))) else none:=rfl
theorem zsm {x y:X}:zaa cf st (some d) (.appendS x y)=if zbu (x.ev st.sl) then z5c st d (y.ev st.sl) else (match x with | .t s=>ya4 st d (y.ev st.sl) (zfm st.ow st.al s) | .c _=>none):=by
 simp only [zaa]
 split
 ·generalize y.ev st.sl=q
  split
  ·rw [z5d]
   split
   ·rw [Option.map_some];split<;>rfl
   ·rfl
  ·unfold z5c
   split<;>first | rfl | simp_all
 ·cases x with
  | c v=>rfl
  | t s =>
    simp only [zvn]
    cases zfm st.ow st.al s with
    | none=>rfl
    | some L =>
      simp only [Option.bind_some,ya4]
      generalize pvAt st L=p
      generalize y.ev st.sl=q
      cases p with
      | none=>cases q<;>rfl
      | some p =>
        cases p with
        | slc m cs =>
          cases q with
          | flat v=>cases v<;>first | rfl | (simp only [kApS,zdf];rfl)
          | _=>rfl
        | _=>cases q<;>rfl
theorem yg0 {s:Nat} {y:X}:zaa cf st (some d) (.appendS (.t s) y)=if zbu (look st.sl s) then z5c st d (y.ev st.sl) else ya4 st d (y.ev st.sl) (zfm st.ow st.al s):=zsm
theorem yg1 {v:PV} {y:X}:zaa cf st (some d) (.appendS (.c v) y)=if zbu v then z5c st d (y.ev st.sl) else none:=zsm
theorem yg2 {y:PV} {L:Loc}:ya4 st d y (some L)=kApS st d L (pvAt st L) y:=rfl
theorem yl8 {m:Nat} {L:Loc} {cs:List PV} {z:ByteArray}:kApS ⟨sl,ow,al,bx⟩ d L (some (.slc m cs)) (.flat (.string z))=if m+z.size≤bound∧cs.length=m∧owns ow L=true∧zia cs=true then some ⟨(d,.slc (m+z.size) (cs++zhy z))::sl,.slot d::zag d (zfn L ow),za8 d (zmv L al),bx⟩ else none:=rfl
def kRes (st:St):Option Nat→List PV→Bool→St
 | none,_,_=>st
 | some d,vs,true=>st.putOwn d (zd7 vs)
 | some d,vs,false=>st.put d (zd7 vs)
theorem yl9 {vs:List PV} {os:Bool}:kRes st none vs os=st:=rfl
theorem yma {vs:List PV}:kRes st (some d) vs true=st.putOwn d (zd7 vs):=rfl
theorem ymb {vs:List PV}:kRes st (some d) vs false=st.put d (zd7 vs):=rfl
def zlj (al:List (Nat × Loc)):List (Nat × Loc):=al.filter fun p=>!zah p.2
theorem zfa:zlj []=[]:=rfl
theorem ya5 {t i:Nat} {r:List (Nat × Loc)}:zlj ((t,.slot i)::r)=(t,.slot i)::zlj r:=by simp [zlj,zah]
theorem ya6 {t b o:Nat} {r:List (Nat × Loc)}:zlj ((t,.cell b o)::r)=zlj r:=by simp [zlj,zah]
def z5e (st:St) (dst:Option Nat):Option Ans→Option St
 | some (vs,os,bx,oc)=>some (kRes ⟨st.sl,zdv oc++zho st.ow,zlj st.al,bx⟩ dst vs os)
 | none=>none
theorem z5f {dst:Option Nat} {f:FuncId} {args:List PV}:callBx cf ⟨sl,ow,al,bx⟩ dst f args=z5e ⟨sl,ow,al,bx⟩ dst (cf f args bx (zdv ow)):=by
 simp only [callBx,zhn]
 cases cf f args bx (zdv ow) with
 | none=>rfl
 | some r =>
   obtain ⟨vs,os,bx',oc⟩:=r
   simp only [Option.map_some,z5e,zqb,zlj]
   cases dst with
   | none=>rfl
   | some d=>cases os<;>rfl
theorem ya7 {dst:Option Nat} {vs:List PV} {os:Bool} {bx':zao} {oc:List Loc}:z5e ⟨sl,ow,al,bx⟩ dst (some (vs,os,bx',oc))=some (kRes ⟨sl,zdv oc++zho ow,zlj al,bx'⟩ dst vs os):=rfl
def zzi (cf:Callee) (st:St) (dst:Option Nat) (f:FuncId) (args:List PV):Option Ans→Option St
 | some (vs,os,_,_)=>if zcb vs then some (kRes st dst vs os) else callBx cf st dst f args
 | none=>none
def ya8 (cf:Callee) (st:St) (dst:Option Nat) (f:FuncId) (args:List PV):Bool→Option St
 | true=>zzi cf st dst f args (cf f args [] [])
 | false=>callBx cf st dst f args
theorem z5g {dst:Option Nat} {f:FuncId} {args:List PV}:callSt cf st dst f args=ya8 cf st dst f args (zcb args):=by
 unfold callSt
 cases zcb args with
 | false=>rfl
 | true =>
   simp only [if_true,ya8]
   cases cf f args [] [] with
   | none=>rfl
   | some r =>
     obtain ⟨vs,os,bx',oc⟩:=r
     simp only [Option.bind_some,zzi]
     split
     ·cases dst with
      | none=>rfl
      | some d=>cases os<;>rfl
     ·rfl
theorem yg3 {dst:Option Nat} {f:FuncId} {args:List PV}:ya8 cf st dst f args true=zzi cf st dst f args (cf f args [] []):=rfl
theorem yg4 {dst:Option Nat} {f:FuncId} {args:List PV}:ya8 cf st dst f args false=callBx cf st dst f args:=rfl
theorem ya9 {dst:Option Nat} {f:FuncId} {args vs:List PV} {os:Bool} {bx':zao} {oc:List Loc}:zzi cf st dst f args (some (vs,os,bx',oc))=if zcb vs then some (kRes st dst vs os) else callBx cf st dst f args:=rfl
theorem yg5 {dst:Option Nat} {f:FuncId} {args:List X}:zaa cf st dst (.call f args)=callSt cf st dst f (evA st.sl args):=by
 simp only [zaa,zqe]
def z5h (cf:Callee) (st:St) (dst:Option Nat) (args:List PV):PV→Option St
 | .clo f caps=>if f=yldF then none else callSt cf st dst f (args++caps)
 | .yld b=>callBx cf st dst yldF (.yld b::args)
 | _=>none
theorem yba {dst:Option Nat} {g:X} {args:List X}:zaa cf st dst (.callv g args)=z5h cf st dst (evA st.sl args) (g.ev st.sl):=by
 simp only [zaa,zqe]
 generalize g.ev st.sl=p
 cases p<;>rfl
theorem ybb {dst:Option Nat} {args caps:List PV} {f:FuncId}:z5h cf st dst args (.clo f caps)=if f=yldF then none else callSt cf st dst f (args++caps):=rfl
theorem ybc {dst:Option Nat} {args:List PV} {b:Nat}:z5h cf st dst args (.yld b)=callBx cf st dst yldF (.yld b::args):=rfl
theorem sg_n {dst:Option Nat} {op:COp}:stepG cf st ⟨dst,none,op⟩=zaa cf st dst op:=rfl
def z5i (cf:Callee) (st:St) (dst:Option Nat) (op:COp) (want:Bool):PV→Option St
 | .flat (.bool b)=>if b=want then zaa cf st dst op else some (st.putD dst (.tup []))
 | .tup []=>some (st.putD dst (.tup []))
 | _=>none
theorem sg_s {dst:Option Nat} {op:COp} {s:Nat} {want:Bool}:stepG cf st ⟨dst,some (s,want),op⟩=z5i cf st dst op want (look st.sl s):=by
 simp only [stepG,zbp]
 generalize look st.sl s=p
 cases p with
 | flat v=>cases v<;>first | rfl | (rename_i b;cases b<;>cases want<;>rfl)
 | tup l=>cases l<;>rfl
 | _=>rfl
theorem ybd {dst:Option Nat} {op:COp} {b want:Bool}:z5i cf st dst op want (.flat (.bool b))=if b=want then zaa cf st dst op else some (st.putD dst (.tup [])):=rfl
theorem ybe {dst:Option Nat} {op:COp} {want:Bool}:z5i cf st dst op want (.tup [])=some (st.putD dst (.tup [])):=rfl
def kOps (cf:Callee) (r:List COper):Option St→Option St
 | some st=>zc0 cf r st
 | none=>none
theorem yg6:zc0 cf [] st=some st:=rfl
theorem ybf {o:COper} {r:List COper}:zc0 cf (o::r) st=kOps cf r (stepG cf st o):=by
 simp only [zc0];cases stepG cf st o<;>rfl
theorem ymc {r:List COper}:kOps cf r (some st)=zc0 cf r st:=rfl
def kPre (cf:Callee) (r:List COper):Option St→Option St
 | some st=>zhh cf r st
 | none=>none
theorem pre_nil:zhh cf [] st=some st:=rfl
theorem ybg {o:COper} {r:List COper}:zhh cf (o::r) st=kPre cf r (zer cf st o):=by
 simp only [zhh];cases zer cf st o<;>rfl
theorem ymd {r:List COper}:kPre cf r (some st)=zhh cf r st:=rfl
def kDyn (cf:Callee) (st:St) (dst:Option Nat) (op:COp):Bool→Option St
 | true=>zaa cf st dst op
 | false=>none
theorem yme {dst:Option Nat} {op:COp}:kDyn cf st dst op true=zaa cf st dst op:=rfl
theorem sp_n {dst:Option Nat} {op:COp}:zer cf st ⟨dst,none,op⟩=kDyn cf st dst op (za7 cf st.sl op):=by
 simp only [zer,zbp,Option.bind_some,if_true]
 cases za7 cf st.sl op<;>rfl
def zt3 (cf:Callee) (st:St) (dst:Option Nat) (op:COp) (want:Bool):PV→Option St
 | .flat (.bool b)=>if b=want then kDyn cf st dst op (za7 cf st.sl op) else some (st.putD dst (.tup []))
 | .tup []=>some (st.putD dst (.tup []))
 | _=>none
theorem sp_s {dst:Option Nat} {op:COp} {s:Nat} {want:Bool}:zer cf st ⟨dst,some (s,want),op⟩=zt3 cf st dst op want (look st.sl s):=by
 simp only [zer,zbp]
 generalize look st.sl s=p
 cases p with
 | flat v =>
   cases v<;>first | rfl | skip
   rename_i b
   cases b<;>cases want<;>first | rfl | (simp only [zt3,Option.bind_some,BEq.rfl,if_true];cases za7 cf st.sl op<;>rfl)
 | tup l=>cases l<;>rfl
 | _=>rfl
theorem z5j {dst:Option Nat} {op:COp} {b want:Bool}:zt3 cf st dst op want (.flat (.bool b))=if b=want then kDyn cf st dst op (za7 cf st.sl op) else some (st.putD dst (.tup [])):=rfl
theorem z5k {dst:Option Nat} {op:COp} {want:Bool}:zt3 cf st dst op want (.tup [])=some (st.putD dst (.tup [])):=rfl
theorem yqr {x:X}:za7 cf sl (.mv x)=true:=rfl
theorem ymf {s:Nat}:za7 cf sl (.mvA s)=true:=rfl
theorem ymg {x:X}:za7 cf sl (.asg x)=true:=rfl
theorem yg7 {a b c:X}:za7 cf sl (.pick a b c)=true:=rfl
theorem ymh {o:BinOp} {x y:X}:za7 cf sl (.bin o x y)=true:=rfl
theorem ymi {b:Bool} {ks:List LK} {x y:X}:za7 cf sl (.eqS b ks x y)=true:=rfl
theorem ymj {b:Bool} {x y:X}:za7 cf sl (.beq b x y)=true:=rfl
theorem ymk {x:X}:za7 cf sl (.mvS x)=true:=rfl
theorem yg8 {x:X}:za7 cf sl (.nilc x)=true:=rfl
theorem yqs {o:UnOp} {x:X}:za7 cf sl (.un o x)=true:=rfl
theorem yg9 {k:IntKind} {x:X}:za7 cf sl (.conv k x)=true:=rfl
theorem yml {x:X}:za7 cf sl (.b2s x)=true:=rfl
theorem ybh {zs:List PV} {ps:List (Nat × Nat × X)}:za7 cf sl (.build zs ps)=true:=rfl
theorem yha {b:Bool} {m k:Nat} {zs:List PV} {ps:List (Nat × Nat × X)}:za7 cf sl (.mksl b m k zs ps)=true:=rfl
theorem yhb {g:Bool} {m:Nat} {a:X}:za7 cf sl (.load g m a)=true:=rfl
theorem ybi {a:X}:za7 cf sl (.loadA a)=true:=rfl
theorem yhc {o:Nat} {a:X}:za7 cf sl (.fadr o a)=true:=rfl
theorem ymm {g:Bool} {o m:Nat} {a:X}:za7 cf sl (.fld g o m a)=true:=rfl
theorem yhd {m:Nat} {x i:X}:za7 cf sl (.iadr m x i)=true:=rfl
theorem ymn {x i:X}:za7 cf sl (.idx x i)=true:=rfl
theorem yhe {g:Bool} {m k:Nat} {x i:X}:za7 cf sl (.idxA g m k x i)=true:=rfl
theorem ybj {m k:Nat} {x i:X}:za7 cf sl (.paddr m k x i)=true:=rfl
theorem z5l {m k:Nat} {x:X} {lo hi:Option X}:za7 cf sl (.sliceP m k x lo hi)=true:=rfl
theorem ybk {m:Nat} {x:X} {lo hi:Option X}:za7 cf sl (.slice m x lo hi)=true:=rfl
theorem z5m {x:X} {lo hi:Option X}:za7 cf sl (.sliceS x lo hi)=true:=rfl
theorem ymo {x:X} {i:Nat}:za7 cf sl (.ext x i)=true:=rfl
theorem ymp {x:X}:za7 cf sl (.len x)=true:=rfl
theorem yhf {x:X}:za7 cf sl (.lenS x)=true:=rfl
theorem yqt {b:Bool} {x y:X}:za7 cf sl (.mm b x y)=true:=rfl
theorem yhg {f:FuncId} {cs:List X}:za7 cf sl (.clos f cs)=true:=rfl
theorem ybl {e:Nat} {zs:List PV}:za7 cf sl (.alloc e zs)=zpn zs:=rfl
theorem ymq {e m:Nat} {x:X}:za7 cf sl (.box e m x)=zpn (x.ev sl).cells:=rfl
theorem yhh {f:FuncId} {args:List X}:za7 cf sl (.call f args)=zcs cf f (evA sl args):=by simp only [za7,zqe]
theorem ybm {g:X} {args:List X}:za7 cf sl (.callv g args)=match g.ev sl with | .clo f caps=>f != yldF && zcs cf f (evA sl args++caps) | _=>false:=by
 simp only [za7,zqe];rfl
def z5n:Option Ans→Bool
 | some (vs,_)=>zcb vs
 | none=>false
theorem zvp {f:FuncId} {args:List PV}:zcs cf f args=(zcb args && z5n (cf f args [] [])):=by
 unfold zcs z5n
 cases cf f args [] []<;>rfl
theorem ybn {vs:List PV} {r:Bool × zao × List Loc}:z5n (some (vs,r))=zcb vs:=rfl
def kReg (live:List Nat):Option St→Option (Out × St)
 | some st=>some (.normal,st.keep live)
 | none=>none
theorem ymr:kReg live (some st)=some (.normal,st.keep live):=rfl
def yhi (cf:Callee) (live:List Nat) (tail:List COper):Option St→Option (Out × St)
 | some st=>kReg live (zc0 cf tail st)
 | none=>none
theorem yhj {tail:List COper}:yhi cf live tail (some st)=kReg live (zc0 cf tail st):=rfl
noncomputable def kT (cf:Callee) (live:List Nat) (t:BT):Option St→Option St
 | some st=>evT cf live t st
 | none=>none
theorem kT_s {t:BT}:kT cf live t (some st)=evT cf live t st:=rfl
theorem yms:evT cf live .done st=some (st.keep live):=rfl
theorem yqu {o:COper} {t:BT}:evT cf live (.one o t) st=kT cf live t (stepG cf st o):=by
 simp only [evT];cases stepG cf st o<;>rfl
theorem yqv {o:COper} {t r:BT}:evT cf live (.two o t r) st=same (kT cf live t (stepG cf st o)) (evT cf live r st):=by
 simp only [evT];cases stepG cf st o<;>rfl
theorem ymt {st:St}:same (some st) (some st)=some st:=if_pos rfl
def ybo:Option St→Option (Out × St)
 | some st=>some (.normal,st)
 | none=>none
theorem yhk:ybo (some st)=some (.normal,st):=rfl
theorem yqw:evQ cf [] st=some st:=rfl
noncomputable def kQ (cf:Callee) (r:List COper):Option St→Option St
 | some st=>evQ cf r st
 | none=>none
theorem kQ_s {r:List COper}:kQ cf r (some st)=evQ cf r st:=rfl
theorem ymu {o:COper} {r:List COper}:evQ cf (o::r) st=kQ cf r (zdn cf st o):=by
 simp only [evQ];cases zdn cf st o<;>rfl
noncomputable def kQc (st:St) (d:Nat):Option St→Option St
 | some s'=>kQd st d s' (s'.bx=st.bx) (s'.ow.filter zah=st.ow.filter zah)
 | none=>none
where
 kQd (st:St) (d:Nat) (s':St) (p q:Prop):Option St:=open Classical in if p∧q then some (st.put d (look s'.sl d)) else none
theorem yqx {s1:List (Nat × PV)} {o1:List Loc} {a1:List (Nat × Loc)} {b1:zao} {d:Nat}:kQc ⟨sl,ow,al,bx⟩ d (some ⟨s1,o1,a1,b1⟩)=kQc.kQd ⟨sl,ow,al,bx⟩ d ⟨s1,o1,a1,b1⟩ (b1=bx) (zdv o1=zdv ow):=by
 simp only [kQc,zhn]
theorem yqy {d:Nat} {s1:List (Nat × PV)} {o1:List Loc} {a1:List (Nat × Loc)} {b1:zao}:kQc.kQd st d ⟨s1,o1,a1,b1⟩ True True=some (st.put d (look s1 d)):=by
 unfold kQc.kQd;rw [if_pos ⟨trivial,trivial⟩]
theorem yhl {d:Nat} {g:Option (Nat × Bool)} {f:FuncId} {az:List X}:zdn cf st ⟨some d,g,.call f az⟩=kQc st d (stepG cf st ⟨some d,g,.call f az⟩):=by
 unfold zdn
 dsimp only
 cases stepG cf st ⟨some d,g,.call f az⟩ with
 | none=>rfl
 | some s' =>
   rw [Option.bind_some]
   unfold kQc kQc.kQd
   dsimp only
   by_cases h:s'.bx=st.bx∧s'.ow.filter zah=st.ow.filter zah
   ·rw [if_pos h,if_pos h]
   ·rw [if_neg h,if_neg h]
theorem yqz {d:Option Nat} {g:Option (Nat × Bool)} {x:X}:zdn cf st ⟨d,g,.mv x⟩=stepG cf st ⟨d,g,.mv x⟩:=by cases d<;>rfl
theorem ymv {d:Option Nat} {g:Option (Nat × Bool)} {x:X}:zdn cf st ⟨d,g,.asg x⟩=stepG cf st ⟨d,g,.asg x⟩:=by cases d<;>rfl
theorem yhm {d:Option Nat} {g:Option (Nat × Bool)} {a b c:X}:zdn cf st ⟨d,g,.pick c a b⟩=stepG cf st ⟨d,g,.pick c a b⟩:=by cases d<;>rfl
theorem ymw {d:Option Nat} {g:Option (Nat × Bool)} {o:BinOp} {x y:X}:zdn cf st ⟨d,g,.bin o x y⟩=stepG cf st ⟨d,g,.bin o x y⟩:=by cases d<;>rfl
theorem ymx {d:Option Nat} {g:Option (Nat × Bool)} {b:Bool} {ks:List LK} {x y:X}:zdn cf st ⟨d,g,.eqS b ks x y⟩=stepG cf st ⟨d,g,.eqS b ks x y⟩:=by cases d<;>rfl
theorem ymy {d:Option Nat} {g:Option (Nat × Bool)} {b:Bool} {x y:X}:zdn cf st ⟨d,g,.beq b x y⟩=stepG cf st ⟨d,g,.beq b x y⟩:=by cases d<;>rfl
theorem ymz {d:Option Nat} {g:Option (Nat × Bool)} {x:X}:zdn cf st ⟨d,g,.mvS x⟩=stepG cf st ⟨d,g,.mvS x⟩:=by cases d<;>rfl
theorem yhn {d:Option Nat} {g:Option (Nat × Bool)} {x:X}:zdn cf st ⟨d,g,.nilc x⟩=stepG cf st ⟨d,g,.nilc x⟩:=by cases d<;>rfl
theorem yq0 {d:Option Nat} {g:Option (Nat × Bool)} {o:UnOp} {x:X}:zdn cf st ⟨d,g,.un o x⟩=stepG cf st ⟨d,g,.un o x⟩:=by cases d<;>rfl
theorem yho {d:Option Nat} {g:Option (Nat × Bool)} {k:IntKind} {x:X}:zdn cf st ⟨d,g,.conv k x⟩=stepG cf st ⟨d,g,.conv k x⟩:=by cases d<;>rfl
theorem ybp {d:Option Nat} {g:Option (Nat × Bool)} {zs:List PV} {ps:List (Nat × Nat × X)}:zdn cf st ⟨d,g,.build zs ps⟩=stepG cf st ⟨d,g,.build zs ps⟩:=by cases d<;>rfl
theorem yhp {d:Option Nat} {g:Option (Nat × Bool)} {b:Bool} {m:Nat} {x:X}:zdn cf st ⟨d,g,.load b m x⟩=stepG cf st ⟨d,g,.load b m x⟩:=by cases d<;>rfl
theorem yhq {d:Option Nat} {g:Option (Nat × Bool)} {o:Nat} {x:X}:zdn cf st ⟨d,g,.fadr o x⟩=stepG cf st ⟨d,g,.fadr o x⟩:=by cases d<;>rfl
theorem ym0 {d:Option Nat} {g:Option (Nat × Bool)} {b:Bool} {o m:Nat} {x:X}:zdn cf st ⟨d,g,.fld b o m x⟩=stepG cf st ⟨d,g,.fld b o m x⟩:=by cases d<;>rfl
theorem yhr {d:Option Nat} {g:Option (Nat × Bool)} {m:Nat} {x i:X}:zdn cf st ⟨d,g,.iadr m x i⟩=stepG cf st ⟨d,g,.iadr m x i⟩:=by cases d<;>rfl
theorem ym1 {d:Option Nat} {g:Option (Nat × Bool)} {x i:X}:zdn cf st ⟨d,g,.idx x i⟩=stepG cf st ⟨d,g,.idx x i⟩:=by cases d<;>rfl
theorem yhs {d:Option Nat} {g:Option (Nat × Bool)} {b:Bool} {m k:Nat} {x i:X}:zdn cf st ⟨d,g,.idxA b m k x i⟩=stepG cf st ⟨d,g,.idxA b m k x i⟩:=by cases d<;>rfl
theorem ybq {d:Option Nat} {g:Option (Nat × Bool)} {m k:Nat} {x i:X}:zdn cf st ⟨d,g,.paddr m k x i⟩=stepG cf st ⟨d,g,.paddr m k x i⟩:=by cases d<;>rfl
theorem z5o {d:Option Nat} {g:Option (Nat × Bool)} {m k:Nat} {x:X} {lo hi:Option X}:zdn cf st ⟨d,g,.sliceP m k x lo hi⟩=stepG cf st ⟨d,g,.sliceP m k x lo hi⟩:=by cases d<;>rfl
theorem ybr {d:Option Nat} {g:Option (Nat × Bool)} {m:Nat} {x:X} {lo hi:Option X}:zdn cf st ⟨d,g,.slice m x lo hi⟩=stepG cf st ⟨d,g,.slice m x lo hi⟩:=by cases d<;>rfl
theorem z5p {d:Option Nat} {g:Option (Nat × Bool)} {x:X} {lo hi:Option X}:zdn cf st ⟨d,g,.sliceS x lo hi⟩=stepG cf st ⟨d,g,.sliceS x lo hi⟩:=by cases d<;>rfl
theorem ym2 {d:Option Nat} {g:Option (Nat × Bool)} {x:X} {i:Nat}:zdn cf st ⟨d,g,.ext x i⟩=stepG cf st ⟨d,g,.ext x i⟩:=by cases d<;>rfl
theorem ym3 {d:Option Nat} {g:Option (Nat × Bool)} {x:X}:zdn cf st ⟨d,g,.len x⟩=stepG cf st ⟨d,g,.len x⟩:=by cases d<;>rfl
theorem yht {d:Option Nat} {g:Option (Nat × Bool)} {x:X}:zdn cf st ⟨d,g,.lenS x⟩=stepG cf st ⟨d,g,.lenS x⟩:=by cases d<;>rfl
theorem yq1 {d:Option Nat} {g:Option (Nat × Bool)} {b:Bool} {x y:X}:zdn cf st ⟨d,g,.mm b x y⟩=stepG cf st ⟨d,g,.mm b x y⟩:=by cases d<;>rfl
theorem yhu {d:Option Nat} {g:Option (Nat × Bool)} {f:FuncId} {xs:List X}:zdn cf st ⟨d,g,.clos f xs⟩=stepG cf st ⟨d,g,.clos f xs⟩:=by cases d<;>rfl
noncomputable def z5q (cf:Callee) (live:List Nat) (t:BT):Option St→Option (Out × St)
 | some st=>ybo (evT cf live t st)
 | none=>none
theorem ybs {t:BT}:z5q cf live t (some st)=ybo (evT cf live t st):=rfl
theorem ym4 {t:BT}:evC cf n (.regT live [] t) st=ybo (evT cf live t st):=by
 simp only [evC,evQ,Option.bind_some];cases evT cf live t st<;>rfl
theorem yhv {p:COper} {ps:List COper} {t:BT}:evC cf n (.regT live (p::ps) t) st=z5q cf live t (evQ cf (p::ps) st):=by
 simp only [evC]
 cases evQ cf (p::ps) st with
 | none=>rfl
 | some s=>simp only [Option.bind_some,z5q];cases evT cf live t s<;>rfl
theorem ym5:evC cf n .skip st=some (.normal,st):=rfl
theorem yq2 {tail:List COper}:evC cf n (.reg live [] tail) st=kReg live (zc0 cf tail st):=by
 simp only [evC,zhh,Option.bind_some];cases zc0 cf tail st<;>rfl
theorem ym6 {p:COper} {ps tail:List COper}:evC cf n (.reg live (p::ps) tail) st=yhi cf live tail (zhh cf (p::ps) st):=by
 simp only [evC]
 cases zhh cf (p::ps) st with
 | none=>rfl
 | some s=>simp only [Option.bind_some,yhi];cases zc0 cf tail s<;>rfl
noncomputable def kSeq (cf:Callee) (n:Nat) (b:CCode):Option (Out × St)→Option (Out × St)
 | some (.normal,st)=>evC cf n b st
 | some (.exit i,st)=>some (.exit i,st)
 | some (.ret,st)=>some (.ret,st)
 | none=>none
theorem yq3 {a b:CCode}:evC cf n (.seq a b) st=kSeq cf n b (evC cf n a st):=by
 simp only [evC]
 cases evC cf n a st with
 | none=>rfl
 | some r=>obtain ⟨o,s⟩:=r;cases o<;>rfl
theorem ym7 {b:CCode}:kSeq cf n b (some (.normal,st))=evC cf n b st:=rfl
theorem ym8 {b:CCode} {i:Nat}:kSeq cf n b (some (.exit i,st))=some (.exit i,st):=rfl
theorem ym9 {b:CCode}:kSeq cf n b (some (.ret,st))=some (.ret,st):=rfl
noncomputable def yna (cf:Callee) (n:Nat) (a b:CCode) (st:St):PV→Option (Out × St)
 | .flat (.bool t)=>if t then evC cf n a st else evC cf n b st
 | _=>none
theorem ynb {c:X} {a b:CCode}:evC cf n (.cond c a b) st=yna cf n a b st (c.ev st.sl):=by
 simp only [evC]
 generalize c.ev st.sl=p
 cases p with
 | flat v=>cases v<;>rfl
 | _=>rfl
theorem yhw {a b:CCode} {t:Bool}:yna cf n a b st (.flat (.bool t))=if t then evC cf n a st else evC cf n b st:=rfl
def zvq (id nb:Nat):Option (Out × St)→Option (Out × St)
 | some (.normal,st)=>some (.normal,st.cutB nb)
 | some (.exit j,st)=>if j=id then some (.normal,st.cutB nb) else some (.exit j,st)
 | some (.ret,st)=>some (.ret,st)
 | none=>none
theorem yhx {id:Nat} {b:CCode}:evC cf n (.block id b) st=zvq id st.bx.length (evC cf n b st):=by
 simp only [evC]
 cases evC cf n b st with
 | none=>rfl
 | some r =>
   obtain ⟨o,s⟩:=r
   cases o with
   | exit j=>simp only [Option.map_some,zvq];split<;>rfl
   | _=>rfl
theorem ybt {id nb:Nat}:zvq id nb (some (.normal,st))=some (.normal,st.cutB nb):=rfl
theorem ybu {id nb j:Nat}:zvq id nb (some (.exit j,st))=if j=id then some (.normal,st.cutB nb) else some (.exit j,st):=rfl
theorem ybv {id nb:Nat}:zvq id nb (some (.ret,st))=some (.ret,st):=rfl
theorem ync {b:CCode}:evC cf n (.loop live b) st=zb3 (evC cf n b) live st.bx.length n (st.only live st.bx.length):=rfl
theorem ynd {id:Nat}:evC cf n (.exit id live) st=some (.exit id,st.keep live):=rfl
theorem yq4:evC cf n (.ret live) st=some (.ret,st.keep live):=rfl
def z5r (b:Nat) (f k:Nat) (live:List Nat) (snap:List PV) (st:St):LpS→Option (Out × St)
 | .ready=>some (.normal,⟨st.sl,st.ow,st.al,st.bx.set b (0,[.lp f k .over live snap])⟩)
 | .done (.exit i)=>some (.exit i,⟨st.sl,st.ow,st.al,st.bx.set b (0,[.lp f k .over live snap])⟩)
 | .done .ret=>some (.ret,⟨st.sl,st.ow,st.al,st.bx.set b (0,[.lp f k .over live snap])⟩)
 | _=>none
theorem yhy {b f k:Nat} {snap:List PV}:z5r b f k live snap ⟨sl,ow,al,bx⟩ .ready=some (.normal,⟨sl,ow,al,bx.set b (0,[.lp f k .over live snap])⟩):=rfl
theorem yhz {b f k i:Nat} {snap:List PV}:z5r b f k live snap ⟨sl,ow,al,bx⟩ (.done (.exit i))=some (.exit i,⟨sl,ow,al,bx.set b (0,[.lp f k .over live snap])⟩):=rfl
theorem yh0 {b f k:Nat} {snap:List PV}:z5r b f k live snap ⟨sl,ow,al,bx⟩ (.done .ret)=some (.ret,⟨sl,ow,al,bx.set b (0,[.lp f k .over live snap])⟩):=rfl
def kEnd (b:Nat) (st:St):Option (Nat × List PV)→Option (Out × St)
 | some (_,[.lp f k s live snap])=>z5r b f k live snap st s
 | _=>none
theorem yne {b e f k:Nat} {s:LpS} {snap:List PV}:kEnd b st (some (e,[.lp f k s live snap]))=z5r b f k live snap st s:=rfl
def kRng (b:Nat):Option St→Option (Out × St)
 | some st=>kEnd b st (st.bx[b]?)
 | none=>none
theorem ynf {b:Nat}:kRng b (some ⟨sl,ow,al,bx⟩)=kEnd b ⟨sl,ow,al,bx⟩ (bx[b]?):=rfl
def z5s (cf:Callee) (f k:Nat) (live:List Nat) (st:St):PV→Option (Out × St)
 | .clo h caps=>if h=yldF then none else kRng st.bx.length (callBx cf ⟨st.sl,st.ow,st.al,st.bx++[(0,[.lp f k .ready live (vals (zl2 st.sl live))])]⟩ none h (.yld st.bx.length::caps))
 | _=>none
theorem yh1 {f k:Nat} {g:X}:evC cf n (.range f k live g) st=z5s cf f k live st (g.ev st.sl):=by
 have h1:live.map (look st.sl)=vals (zl2 st.sl live):=by
  rw [← zt0,zzc,List.map_map];rfl
 simp only [evC,zgp]
 generalize g.ev st.sl=p
 cases p with
 | clo h caps =>
   simp only [z5s]
   split
   ·rfl
   ·rw [h1]
    cases callBx cf ⟨st.sl,st.ow,st.al,st.bx++[(0,[.lp f k .ready live (vals (zl2 st.sl live))])]⟩ none h (.yld st.bx.length::caps) with
    | none=>rfl
    | some s2 =>
      simp only [Option.bind_some,kRng]
      cases s2.bx[st.bx.length]? with
      | none=>rfl
      | some q =>
        obtain ⟨e,cs⟩:=q
        rcases cs with _ | ⟨p,_ | ⟨p2,r⟩⟩
        ·rfl
        ·cases p with
         | lp f' k' s live' snap' =>
           simp only [kEnd]
           cases s with
           | done j=>cases j<;>rfl
           | _=>rfl
         | _=>rfl
        ·cases p<;>rfl
 | _=>rfl
theorem ybw {f k:Nat} {h:FuncId} {caps:List PV}:z5s cf f k live ⟨sl,ow,al,bx⟩ (.clo h caps)=if h=yldF then none else kRng bx.length (callBx cf ⟨sl,ow,al,bx++[(0,[.lp f k .ready live (vals (zl2 sl live))])]⟩ none h (.yld bx.length::caps)):=rfl
def resL (st:St):List (Sum Nat (Nat × Bool × Nat))→Option (List PV)
 | []=>some []
 | .inl i::r=>(resL st r).map (look st.sl i::·)
 | .inr (i,agg,m)::r=>kResL (match look st.sl i with | .ptr b o=>zqf agg m o (ze0 st.bx b) | _=>none) (resL st r)
where kResL:Option PV→Option (List PV)→Option (List PV)
 | some v,some vs=>some (v::vs)
 | _,_=>none
theorem ybx:resL st []=some []:=rfl
theorem yd8 {i:Nat} {r:List (Sum Nat (Nat × Bool × Nat))}:resL st (.inl i::r)=(resL st r).map (look st.sl i::·):=rfl
def z1q (st:St) (agg:Bool) (m:Nat):PV→Option PV
 | .ptr b o=>zqf agg m o (ze0 st.bx b)
 | _=>none
theorem yd9 {i m:Nat} {agg:Bool} {r:List (Sum Nat (Nat × Bool × Nat))}:resL st (.inr (i,agg,m)::r)=resL.kResL (z1q st agg m (look st.sl i)) (resL st r):=by
 simp only [resL];unfold z1q;cases look st.sl i<;>rfl
theorem yh2 {agg:Bool} {m b o:Nat}:z1q ⟨sl,ow,al,bx⟩ agg m (.ptr b o)=zqf agg m o (ze0 bx b):=rfl
theorem yh3 {v:PV} {vs:List PV}:resL.kResL (some v) (some vs)=some (v::vs):=rfl
theorem zxv:∀ l:List (Sum Nat (Nat × Bool × Nat)),l.mapM (resV st)=resL st l
 | []=>rfl
 | .inl i::r=>by
   rw [List.mapM_cons,zxv r,yd8]
   simp only [resV,Option.pure_def,Option.bind_eq_bind,Option.bind_some]
   cases resL st r<;>rfl
 | .inr (i,agg,m)::r=>by
   rw [List.mapM_cons,zxv r,yd9]
   have h1:resV st (.inr (i,agg,m))=z1q st agg m (look st.sl i):=by
    simp only [resV]
    generalize look st.sl i=p
    cases p with
    | ptr b o =>
      simp only [z1q]
      cases ze0 st.bx b with
      | none=>rfl
      | some q=>obtain ⟨e,cs⟩:=q;cases agg<;>rfl
    | _=>rfl
   rw [h1]
   simp only [Option.pure_def,Option.bind_eq_bind]
   cases z1q st agg m (look st.sl i) with
   | none=>rfl
   | some v=>cases resL st r<;>rfl
def zow (res:List (Sum Nat (Nat × Bool × Nat))) (bx:zao) (st:St):Option (List PV)→Option Ans
 | some vs=>some (vs,ownB res st.ow,trim bx.length vs st.bx,zcq (trim bx.length vs st.bx).length st.ow)
 | none=>none
where ownB:List (Sum Nat (Nat × Bool × Nat))→List Loc→Bool
 | [.inl s],ow=>owns ow (.slot s)
 | _,_=>false
def kFin (res:List (Sum Nat (Nat × Bool × Nat))) (bx:zao):Option (Out × St)→Option Ans
 | some (.normal,st)=>zow res bx st (resL st res)
 | some (.ret,st)=>zow res bx st (resL st res)
 | _=>none
theorem zbw {code:FuncId→Option CFun} {lib:Callee} {f:FuncId} {nt:Nat} {res:List (Sum Nat (Nat × Bool × Nat))} {body:CCode} {rngs:List (List Nat × CCode × CCode)} (hk:code f=some ⟨nt,res,body,rngs⟩) {args:List PV} {bx:zao} {oc:List Loc} {r:Ans} (hl:args.length≤nt)
 (h:kFin res bx (evC (evW code lib) big body ⟨zfi 0 args,oc,[],bx⟩)=some r):evW code lib f args bx oc=some r:=by
 refine ykn (n:=big) hk ?_
 unfold evB
 dsimp only
 rw [if_pos hl]
 cases he:evC (evW code lib) big body ⟨zfi 0 args,oc,[],bx⟩ with
 | none=>rw [he] at h;cases h
 | some p =>
   obtain ⟨o,st⟩:=p
   rw [he] at h
   have hown:zmi res st.ow=zow.ownB res st.ow:=by
    have hd:∀ s,decide (Loc.slot s∈st.ow)=owns st.ow (.slot s):=fun s=>by
     cases ho:owns st.ow (.slot s) with
     | true=>simpa using zdf.1 ho
     | false=>simp only [decide_eq_false_iff_not];intro hm;rw [zdf.2 hm] at ho;cases ho
    clear he h hk
    generalize res=rs
    rcases rs with _ | ⟨q,_ | ⟨q2,rs⟩⟩
    ·rfl
    ·cases q with
     | inl s=>exact hd s
     | inr x=>rfl
    ·cases q<;>rfl
   have fin:zow res bx st (resL st res)=some r→(res.mapM (resV st)).map (fun vs=>(vs,zmi res st.ow,trim bx.length vs st.bx,zbq (trim bx.length vs st.bx).length st.ow))=some r:=fun h=>by
    rw [zxv]
    cases hr:resL st res with
    | none=>rw [hr] at h;cases h
    | some vs=>rw [hr] at h;simp only [Option.map_some,hown,zge];exact h
   cases o with
   | exit i=>cases h
   | normal=>exact fin h
   | ret=>exact fin h
theorem yng {res:List (Sum Nat (Nat × Bool × Nat))}:kFin res bx (some (.normal,st))=zow res bx st (resL st res):=rfl
theorem ynh {res:List (Sum Nat (Nat × Bool × Nat))}:kFin res bx (some (.ret,st))=zow res bx st (resL st res):=rfl
theorem yh4 {res:List (Sum Nat (Nat × Bool × Nat))} {vs:List PV}:zow res bx st (some vs)=some (vs,zow.ownB res st.ow,trim bx.length vs st.bx,zcq (trim bx.length vs st.bx).length st.ow):=rfl
theorem yni {s:Nat}:zow.ownB [.inl s] ow=owns ow (.slot s):=rfl
theorem ynj:zow.ownB [] ow=false:=rfl
theorem ynk {q:Nat × Bool × Nat} {r:List (Sum Nat (Nat × Bool × Nat))}:zow.ownB (.inr q::r) ow=false:=rfl
theorem ynl {a b:Sum Nat (Nat × Bool × Nat)} {r:List (Sum Nat (Nat × Bool × Nat))}:zow.ownB (a::b::r) ow=false:=by cases a<;>rfl
def zvr (nb b:Nat) (f k:Nat) (live:List Nat) (snap:List PV) (o:Out) (ow:List Loc) (bx:zao):Option Ans :=
 match o with
 | .normal=>some ([.flat (.bool true)],false,trim nb [] (bx.set b (0,[.lp f k .ready live snap])),zcq (trim nb [] (bx.set b (0,[.lp f k .ready live snap]))).length ow)
 | .exit i=>some ([.flat (.bool false)],false,trim nb [] (bx.set b (0,[.lp f k (.done (.exit i)) live snap])),zcq (trim nb [] (bx.set b (0,[.lp f k (.done (.exit i)) live snap]))).length ow)
 | .ret=>some ([.flat (.bool false)],false,trim nb [] (bx.set b (0,[.lp f k (.done .ret) live snap])),zcq (trim nb [] (bx.set b (0,[.lp f k (.done .ret) live snap]))).length ow)
def zzj (nb b:Nat) (o:Out) (st:St):Option (Nat × List PV)→Option Ans
 | some (_,[.lp f k .busy live snap])=>zvr nb b f k live snap o st.ow st.bx
 | _=>none
def zzk (nb b:Nat):Option (Out × St)→Option Ans
 | some (o,st)=>zzj nb b o st (st.bx[b]?)
 | none=>none
noncomputable def zzl (cf:Callee) (n:Nat) (nb b:Nat) (body:CCode) (st:St):Option (Nat × List PV)→Option Ans
 | some (_,[.lp f k .ready live snap])=>zzk nb b (evC cf n body ⟨st.sl,st.ow,st.al,st.bx.set b (0,[.lp f k .busy live snap])⟩)
 | _=>none
noncomputable def z5t (cf:Callee) (n:Nat) (nb b:Nat) (body:CCode):Option (Out × St)→Option Ans
 | some (.normal,st)=>zzl cf n nb b body st (st.bx[b]?)
 | _=>none
theorem z5u {code:FuncId→Option CFun} {lib:Callee} (hy:code yldF=none) {f k b e:Nat} {snap:List PV} {c:CFun} {ps:List Nat} {ca cb:CCode} (hc:code f=some c) (hq:c.rngs[k]? =some (ps,ca,cb)) {az:List PV} {bx:zao} {oc:List Loc} {r:Ans}
 (hb:bx[b]? =some (e,[.lp f k .ready live snap])) (hl:az.length=ps.length)
 (h:z5t (evW code lib) big bx.length b cb (evC (evW code lib) big ca ⟨(ps.zip az).foldl (fun l p=>p::l) (live.zip snap),oc,[],bx⟩)=some r):evW code lib yldF (.yld b::az) bx oc=some r:=by
 refine ye6 (n:=big) hy ?_
 unfold zpo
 dsimp only
 rw [hb]
 dsimp only
 rw [hc,Option.bind_some,hq,Option.bind_some,if_pos hl]
 dsimp only
 cases he:evC (evW code lib) big ca ⟨(ps.zip az).foldl (fun l p=>p::l) (live.zip snap),oc,[],bx⟩ with
 | none=>rw [he] at h;cases h
 | some p =>
   obtain ⟨o1,s1⟩:=p
   rw [he] at h
   simp only [Option.bind_some]
   cases o1 with
   | exit i=>cases h
   | ret=>cases h
   | normal =>
     simp only [z5t] at h
     unfold zzl at h
     split at h
     case h_2=>cases h
     rename_i e1 f1 k1 live1 snap1 hb1
     rw [hb1]
     dsimp only
     cases he2:evC (evW code lib) big cb ⟨s1.sl,s1.ow,s1.al,s1.bx.set b (0,[.lp f1 k1 .busy live1 snap1])⟩ with
     | none=>rw [he2] at h;cases h
     | some p =>
       obtain ⟨o,s⟩:=p
       rw [he2] at h
       simp only [Option.bind_some]
       simp only [zzk] at h
       unfold zzj at h
       split at h
       case h_2=>cases h
       rename_i e2 f2 k2 live2 snap2 hb2
       rw [hb2]
       dsimp only
       have ht:∀ (v:Bool) (bx':zao),trim bx.length [.flat (.bool v)] bx'=trim bx.length [] bx':=fun v bx'=>by
        unfold trim
        rw [show lows bx.length [.flat (.bool v)]=lows bx.length [] from rfl]
       cases o with
       | normal=>simp only [zvr] at h;simp only [ht,zge];exact h
       | exit i=>simp only [zvr] at h;simp only [ht,zge];exact h
       | ret=>simp only [zvr] at h;simp only [ht,zge];exact h
theorem yby {nb b:Nat} {body:CCode}:z5t cf n nb b body (some (.normal,⟨sl,ow,al,bx⟩))=zzl cf n nb b body ⟨sl,ow,al,bx⟩ (bx[b]?):=rfl
theorem ybz {nb b e f k:Nat} {body:CCode} {snap:List PV}:zzl cf n nb b body ⟨sl,ow,al,bx⟩ (some (e,[.lp f k .ready live snap]))=zzk nb b (evC cf n body ⟨sl,ow,al,bx.set b (0,[.lp f k .busy live snap])⟩):=rfl
theorem yb0 {nb b:Nat} {o:Out}:zzk nb b (some (o,⟨sl,ow,al,bx⟩))=zzj nb b o ⟨sl,ow,al,bx⟩ (bx[b]?):=rfl
theorem yb1 {nb b e f k:Nat} {o:Out} {snap:List PV}:zzj nb b o ⟨sl,ow,al,bx⟩ (some (e,[.lp f k .busy live snap]))=zvr nb b f k live snap o ow bx:=rfl
theorem yh5 {nb b f k:Nat} {snap:List PV}:zvr nb b f k live snap .normal ow bx=some ([.flat (.bool true)],false,trim nb [] (bx.set b (0,[.lp f k .ready live snap])),zcq (trim nb [] (bx.set b (0,[.lp f k .ready live snap]))).length ow):=rfl
theorem yh6 {nb b f k i:Nat} {snap:List PV}:zvr nb b f k live snap (.exit i) ow bx=some ([.flat (.bool false)],false,trim nb [] (bx.set b (0,[.lp f k (.done (.exit i)) live snap])),zcq (trim nb [] (bx.set b (0,[.lp f k (.done (.exit i)) live snap]))).length ow):=rfl
theorem yh7 {nb b f k:Nat} {snap:List PV}:zvr nb b f k live snap .ret ow bx=some ([.flat (.bool false)],false,trim nb [] (bx.set b (0,[.lp f k (.done .ret) live snap])),zcq (trim nb [] (bx.set b (0,[.lp f k (.done .ret) live snap]))).length ow):=rfl
end
end Nun
namespace Nun
open Go
theorem ynm {k:IntKind} {a b:Int}:zbd .add (.int k a) (.int k b)=some (.int k (k.wrap (a+b))):=by simp [zbd]
theorem ynn {k:IntKind} {a b:Int}:zbd .sub (.int k a) (.int k b)=some (.int k (k.wrap (a - b))):=by simp [zbd]
theorem yno {k:IntKind} {a b:Int}:zbd .mul (.int k a) (.int k b)=some (.int k (k.wrap (a * b))):=by simp [zbd]
theorem ynp {k:IntKind} {a b:Int}:zbd .quo (.int k a) (.int k b)=if b=0 then none else some (.int k (k.wrap (a.tdiv b))):=by simp [zbd]
theorem ynq {k:IntKind} {a b:Int}:zbd .rem (.int k a) (.int k b)=if b=0 then none else some (.int k (a.tmod b)):=by simp [zbd]
def yea (k:IntKind) (a b:Int):Int:=k.wrap (BitVec.ofInt k.bits a &&& BitVec.ofInt k.bits b).toNat
theorem ynr {k:IntKind} {a b:Int}:zbd .and (.int k a) (.int k b)=some (.int k (yea k a b)):=by simp [zbd,yea]
def yb2 (k:IntKind) (a b:Int):Int:=k.wrap (BitVec.ofInt k.bits a ||| BitVec.ofInt k.bits b).toNat
theorem yq5 {k:IntKind} {a b:Int}:zbd .or (.int k a) (.int k b)=some (.int k (yb2 k a b)):=by simp [zbd,yb2]
def yeb (k:IntKind) (a b:Int):Int:=k.wrap (BitVec.ofInt k.bits a ^^^ BitVec.ofInt k.bits b).toNat
theorem yns {k:IntKind} {a b:Int}:zbd .xor (.int k a) (.int k b)=some (.int k (yeb k a b)):=by simp [zbd,yeb]
theorem ynt {k k':IntKind} {a b:Int}:zbd .shl (.int k a) (.int k' b)=if b<0 then none else some (.int k (k.wrap (a * 2 ^ (min b.toNat k.bits)))):=by simp [zbd]
theorem ynu {k k':IntKind} {a b:Int}:zbd .shr (.int k a) (.int k' b)=if b<0 then none else some (.int k (a.fdiv (2 ^ (min b.toNat k.bits)))):=by simp [zbd]
theorem ynv {k:IntKind} {a b:Int}:zbd .eql (.int k a) (.int k b)=some (.bool (decide (a=b))):=by simp [zbd];rfl
theorem ynw {k:IntKind} {a b:Int}:zbd .neq (.int k a) (.int k b)=some (.bool (!decide (a=b))):=by simp [zbd];rfl
theorem ynx {k:IntKind} {a b:Int}:zbd .lss (.int k a) (.int k b)=some (.bool (decide (a<b))):=by simp [zbd]
theorem yny {k:IntKind} {a b:Int}:zbd .leq (.int k a) (.int k b)=some (.bool (decide (a≤b))):=by simp [zbd]
theorem ynz {k:IntKind} {a b:Int}:zbd .gtr (.int k a) (.int k b)=some (.bool (decide (b<a))):=by simp [zbd]
theorem yn0 {k:IntKind} {a b:Int}:zbd .geq (.int k a) (.int k b)=some (.bool (decide (b≤a))):=by simp [zbd]
theorem zvs (a:ByteArray):a.toList=a.data.toList:=ByteArray.toList_eq a
def eqB (a b:ByteArray):Bool:=decide (a=b)
theorem yn1 {a b:ByteArray}:zbd .add (.string a) (.string b)=if a.size+b.size≤bound then some (.string (a++b)) else none:=rfl
theorem zzm {a b:ByteArray}:(a.toList == b.toList)=eqB a b:=by
 unfold eqB
 by_cases h:a=b
 ·subst h;simp
 ·have:a.toList≠b.toList:=fun e=>h (by
   cases a with | mk x=>cases b with | mk y =>
   rw [zvs,zvs] at e
   congr 1
   exact Array.ext' e)
  simp [h,this]
theorem eq_s {a b:ByteArray} {ks:List LK} {cs ds:List PV}:eqCs (.s::ks) (.flat (.string a)::cs) (.flat (.string b)::ds)=kAnd (eqB a b) (eqCs ks cs ds):=by
 have h:(a == b)=eqB a b:=by
  show (a.data == b.data)=_
  unfold eqB
  by_cases h:a=b
  ·subst h;simp
  ·have:a.data≠b.data:=fun e=>h (by cases a;cases b;cases e;rfl)
   simp [h,this]
 simp only [eqCs,h];cases eqCs ks cs ds<;>rfl
theorem yn2 {a b:ByteArray}:zbd .eql (.string a) (.string b)=some (.bool (eqB a b)):=by rw [← zzm];rfl
theorem yn3 {a b:ByteArray}:zbd .neq (.string a) (.string b)=some (.bool !(eqB a b)):=by rw [← zzm];rfl
theorem yn4 {b:Bool}:zoe .not (.bool b)=some (.bool !b):=rfl
theorem yn5 {k:IntKind} {a:Int}:zoe .neg (.int k a)=some (.int k (k.wrap (0 - a))):=rfl
theorem wrap64 {n:Int} (h:-9223372036854775808≤n∧n<9223372036854775808):IntKind.i64.wrap n=n:=by
 unfold IntKind.wrap;simp [IntKind.bits,IntKind.signed];omega
theorem wrap32 {n:Int} (h:-2147483648≤n∧n<2147483648):IntKind.i32.wrap n=n:=by
 unfold IntKind.wrap;simp [IntKind.bits,IntKind.signed];omega
theorem yb3 {n:Int} (h:0≤n∧n<256):IntKind.u8.wrap n=n:=by
 unfold IntKind.wrap;simp [IntKind.bits,IntKind.signed];omega
theorem z1r {i:Nat}:zfi i []=[]:=rfl
theorem zxw {i:Nat} {v:PV} {r:List PV}:zfi i (v::r)=(i,v)::zfi (i+1) r:=rfl
end Nun
namespace Nun
theorem yh8 {f:Nat}:(f=yldF)=(f=4611686018427387904):=rfl
end Nun
end
