/- LetterSames answers true for all letters: texts of this proof, merged. -/
import Derived.Test.YtmpiobfdchlikaaDoorGb
import Derived.Test.YtmpiobfdchlikaaDoorProg
import Derived.KernelRfl
set_option linter.unusedVariables false
set_option linter.unusedSimpArgs false
section
namespace Nun
open Go
section
variable {cf:Callee} {n:Nat} {st:St} {sl:List (Nat × PV)} {ow:List Loc} {al:List (Nat × Loc)} {bx:Boxes} {d:Nat} {live:List Nat}
theorem look_nil {i:Nat}:look [] i=.unk:=rfl
theorem look_if {j i:Nat} {v:PV}:look ((j,v)::sl) i=if j=i then v else look sl i:=rfl
def lookL (sl:List (Nat × PV)):List Nat→List (Nat × PV)
 | []=>[]
 | i::r=>(i,look sl i)::lookL sl r
theorem lookL_nil:lookL sl []=[]:=rfl
theorem lookL_cons {i:Nat} {r:List Nat}:lookL sl (i::r)=(i,look sl i)::lookL sl r:=rfl
theorem lookL_eq:∀ l:List Nat,lookL sl l=l.map fun i=>(i,look sl i)
 | []=>rfl
 | i::r=>by rw [lookL_cons,lookL_eq r];rfl
def owns:List Loc→Loc→Bool
 | [],_=>false
 | .slot i::r,.slot j=>if i=j then true else owns r (.slot j)
 | .cell b o::r,.cell b' o'=>if b=b'∧o=o' then true else owns r (.cell b' o')
 | _::r,L=>owns r L
theorem owns_mem:∀ {l:List Loc} {L:Loc},owns l L=true ↔ L∈l
 | [],L=>by simp [owns]
 | .slot i::r,.slot j=>by
   simp only [owns,List.mem_cons,Loc.slot.injEq]
   by_cases h:i=j
   ·simp [h]
   ·simp only [h,if_false];rw [owns_mem];simp [Ne.symm h]
 | .cell b o::r,.cell b' o'=>by
   simp only [owns,List.mem_cons,Loc.cell.injEq]
   by_cases h:b=b'∧o=o'
   ·simp [h]
   ·rw [if_neg h,owns_mem]
    simp only [iff_or_self]
    rintro ⟨h1,h2⟩;exact absurd ⟨h1.symm,h2.symm⟩ h
 | .slot i::r,.cell b o=>by simp only [owns,List.mem_cons,reduceCtorEq,false_or];exact owns_mem
 | .cell b o::r,.slot i=>by simp only [owns,List.mem_cons,reduceCtorEq,false_or];exact owns_mem
theorem owns_nil {L:Loc}:owns [] L=false:=by cases L<;>rfl
theorem owns_ss {i j:Nat} {r:List Loc}:owns (.slot i::r) (.slot j)=if i=j then true else owns r (.slot j):=rfl
theorem owns_cc {b o b' o':Nat} {r:List Loc}:owns (.cell b o::r) (.cell b' o')=if b=b'∧o=o' then true else owns r (.cell b' o'):=rfl
theorem owns_sc {i b o:Nat} {r:List Loc}:owns (.slot i::r) (.cell b o)=owns r (.cell b o):=rfl
theorem owns_cs {i b o:Nat} {r:List Loc}:owns (.cell b o::r) (.slot i)=owns r (.slot i):=rfl
theorem dropSlot_nil:dropSlot d []=[]:=rfl
theorem dropSlot_s {i:Nat} {r:List Loc}:dropSlot d (.slot i::r)=if i=d then dropSlot d r else .slot i::dropSlot d r:=by
 by_cases h:i=d
 ·subst h;simp [dropSlot,ment]
 ·simp [dropSlot,ment,h]
theorem dropSlot_c {b o:Nat} {r:List Loc}:dropSlot d (.cell b o::r)=.cell b o::dropSlot d r:=by simp [dropSlot,ment]
theorem dropAl_nil:dropAl d []=[]:=rfl
theorem dropAl_s {t i:Nat} {r:List (Nat × Loc)}:dropAl d ((t,.slot i)::r)=if t=d then dropAl d r else if i=d then dropAl d r else (t,.slot i)::dropAl d r:=by
 by_cases h:t=d
 ·subst h;simp [dropAl,ment]
 ·by_cases k:i=d
  ·subst k;simp [dropAl,ment]
  ·simp [dropAl,ment,h,k]
theorem dropAl_c {t b o:Nat} {r:List (Nat × Loc)}:dropAl d ((t,.cell b o)::r)=if t=d then dropAl d r else (t,.cell b o)::dropAl d r:=by
 by_cases h:t=d
 ·subst h;simp [dropAl,ment]
 ·simp [dropAl,ment,h]
def keepO (ow:List Loc):List Nat→List Loc
 | []=>[]
 | i::r=>if owns ow (.slot i) then .slot i::keepO ow r else keepO ow r
theorem keepO_cons {i:Nat} {r:List Nat}:keepO ow (i::r)=if owns ow (.slot i) then .slot i::keepO ow r else keepO ow r:=rfl
theorem isNil_unk:isNilS .unk=false:=rfl
theorem isNil_slc {m:Nat} {cs:List PV}:isNilS (.slc m cs)=false:=rfl
theorem isNil_agg {cs:List PV}:isNilS (.agg cs)=false:=rfl
theorem isNil_tup {cs:List PV}:isNilS (.tup cs)=false:=rfl
theorem isNil_ptr {b o:Nat}:isNilS (.ptr b o)=false:=rfl
theorem isNil_elt {cs:List PV}:isNilS (.elt cs)=false:=rfl
theorem isNil_clo {f:FuncId} {cs:List PV}:isNilS (.clo f cs)=false:=rfl
theorem isNil_yld {b:Nat}:isNilS (.yld b)=false:=rfl
theorem isNil_bsl {b o m:Nat}:isNilS (.bsl b o m)=false:=rfl
theorem isNil_lp {f k:Nat} {s:LpS} {cs:List PV}:isNilS (.lp f k s live cs)=false:=rfl
theorem isNil_int {k:IntKind} {m:Int}:isNilS (.flat (.int k m))=false:=rfl
theorem isNil_str {z:ByteArray}:isNilS (.flat (.string z))=false:=rfl
theorem isNil_bool {b:Bool}:isNilS (.flat (.bool b))=false:=rfl
theorem isNil_pnt {a:Option Addr}:isNilS (.flat (.pointer a))=false:=rfl
theorem isNil_nf:isNilS (.flat .nilFunc)=false:=rfl
theorem isNil_ni:isNilS (.flat .nilIface)=false:=rfl
theorem isNil_nil:isNilS (.flat (.slice none 0 0))=true:=rfl
theorem wk_unk:wk .unk=.unk:=rfl
theorem wk_slc {m:Nat} {cs:List PV}:wk (.slc m cs)=.slc m cs:=rfl
theorem wk_agg {cs:List PV}:wk (.agg cs)=.agg cs:=rfl
theorem wk_tup {cs:List PV}:wk (.tup cs)=.tup cs:=rfl
theorem wk_ptr {b o:Nat}:wk (.ptr b o)=.ptr b o:=rfl
theorem wk_elt {cs:List PV}:wk (.elt cs)=.elt cs:=rfl
theorem wk_clo {f:FuncId} {cs:List PV}:wk (.clo f cs)=.clo f cs:=rfl
theorem wk_yld {b:Nat}:wk (.yld b)=.yld b:=rfl
theorem wk_bsl {b o m:Nat}:wk (.bsl b o m)=.bsl b o m:=rfl
theorem wk_lp {f k:Nat} {s:LpS} {cs:List PV}:wk (.lp f k s live cs)=.lp f k s live cs:=rfl
theorem wk_int {k:IntKind} {m:Int}:wk (.flat (.int k m))=.flat (.int k m):=rfl
theorem wk_str {z:ByteArray}:wk (.flat (.string z))=.flat (.string z):=rfl
theorem wk_bool {b:Bool}:wk (.flat (.bool b))=.flat (.bool b):=rfl
theorem wk_pnt {a:Option Addr}:wk (.flat (.pointer a))=.flat (.pointer a):=rfl
theorem wk_nf:wk (.flat .nilFunc)=.flat .nilFunc:=rfl
theorem wk_ni:wk (.flat .nilIface)=.flat .nilIface:=rfl
theorem wk_nil:wk (.flat (.slice none 0 0))=.slc 0 []:=rfl
theorem weak_unk:PV.weak .unk=.unk:=rfl
theorem weak_flat {v:Value}:PV.weak (.flat v)=wk (.flat v):=rfl
theorem weak_slc {m:Nat} {cs:List PV}:PV.weak (.slc m cs)=.slc m cs:=rfl
theorem weak_agg {cs:List PV}:PV.weak (.agg cs)=.agg (weaks cs):=rfl
theorem weak_tup {cs:List PV}:PV.weak (.tup cs)=.tup cs:=rfl
theorem weak_ptr {b o:Nat}:PV.weak (.ptr b o)=.ptr b o:=rfl
theorem weak_elt {cs:List PV}:PV.weak (.elt cs)=.elt cs:=rfl
theorem weak_clo {f:FuncId} {cs:List PV}:PV.weak (.clo f cs)=.clo f cs:=rfl
theorem weak_yld {b:Nat}:PV.weak (.yld b)=.yld b:=rfl
theorem weak_bsl {b o m:Nat}:PV.weak (.bsl b o m)=.bsl b o m:=rfl
theorem weaks_nil:weaks []=[]:=rfl
theorem weaks_cons {p:PV} {r:List PV}:weaks (p::r)=wk p::weaks r:=rfl
theorem nilCells_nil {b o:Nat}:nilCells b o []=[]:=rfl
theorem nilCells_cons {b o:Nat} {p:PV} {r:List PV}:nilCells b o (p::r)=if isNilS p then .cell b o::nilCells b (o+1) r else nilCells b (o+1) r:=rfl
theorem noNil_nil:noNil []=true:=rfl
theorem noNil_cons {p:PV} {r:List PV}:noNil (p::r)=(!isNilS p && noNil r):=rfl
theorem isU8_slc {m:Nat} {cs:List PV}:isU8 (.slc m cs)=false:=rfl
theorem isU8_agg {cs:List PV}:isU8 (.agg cs)=false:=rfl
theorem isU8_ptr {b o:Nat}:isU8 (.ptr b o)=false:=rfl
theorem isU8_elt {cs:List PV}:isU8 (.elt cs)=false:=rfl
theorem isU8_clo {f:FuncId} {cs:List PV}:isU8 (.clo f cs)=false:=rfl
theorem isU8_str {z:ByteArray}:isU8 (.flat (.string z))=false:=rfl
theorem isU8_bool {b:Bool}:isU8 (.flat (.bool b))=false:=rfl
theorem isU8_pnt {a:Option Addr}:isU8 (.flat (.pointer a))=false:=rfl
theorem isU8_u8 {m:Int}:isU8 (.flat (.int .u8 m))=true:=rfl
theorem isU8_i32 {m:Int}:isU8 (.flat (.int .i32 m))=false:=rfl
theorem isU8_i64 {m:Int}:isU8 (.flat (.int .i64 m))=false:=rfl
theorem isU8_u32 {m:Int}:isU8 (.flat (.int .u32 m))=false:=rfl
theorem isU8_u16 {m:Int}:isU8 (.flat (.int .u16 m))=false:=rfl
theorem isU8_u64 {m:Int}:isU8 (.flat (.int .u64 m))=false:=rfl
theorem noU8_nil:noU8 []=true:=rfl
theorem noU8_cons {p:PV} {r:List PV}:noU8 (p::r)=(!isU8 p && noU8 r):=rfl
theorem noU8_app {cs ds:List PV}:noU8 (cs++ds)=(noU8 cs && noU8 ds):=by
 induction cs with
 | nil=>rfl
 | cons p r ih=>rw [List.cons_append,noU8_cons,noU8_cons,ih,Bool.and_assoc]
theorem allU8_nil:allU8 []=true:=rfl
theorem allU8_cons {p:PV} {r:List PV}:allU8 (p::r)=(isU8 p && allU8 r):=rfl
theorem allU8_app {cs ds:List PV}:allU8 (cs++ds)=(allU8 cs && allU8 ds):=by
 induction cs with
 | nil=>rfl
 | cons p r ih=>rw [List.cons_append,allU8_cons,allU8_cons,ih,Bool.and_assoc]
theorem allU8_bytes {z:ByteArray}:allU8 (byteCs z)=true:=by
 unfold byteCs
 induction z.data.toList with
 | nil=>rfl
 | cons c l ih=>rw [List.map_cons,allU8_cons,ih];rfl
theorem tyOk_t {m:Nat} {cs ds:List PV}:tyOk true m cs ds=allU8 cs:=rfl
theorem tyOk_f {m:Nat} {cs ds:List PV}:tyOk false m cs ds=if m=1 then noU8 cs && noU8 ds else true:=by
 unfold tyOk
 by_cases h:m=1<;>simp [h]
def lookW (sl:List (Nat × PV)):List Nat→List (Nat × PV)
 | []=>[]
 | i::r=>(i,wk (look sl i))::lookW sl r
theorem lookW_nil:lookW sl []=[]:=rfl
theorem lookW_cons {i:Nat} {r:List Nat}:lookW sl (i::r)=(i,wk (look sl i))::lookW sl r:=rfl
theorem lookW_eq:∀ l:List Nat,lookW sl l=l.map fun i=>(i,look (sl.map fun q=>(q.1,wk q.2)) i)
 | []=>rfl
 | i::r=>by rw [lookW_cons,lookW_eq r,List.map_cons,look_wk]
def keepW (sl:List (Nat × PV)) (ow:List Loc):List Nat→List Loc
 | []=>[]
 | i::r=>if isNilS (look sl i) then .slot i::keepW sl ow r else if owns ow (.slot i) then .slot i::keepW sl ow r else keepW sl ow r
theorem keepW_nil:keepW sl ow []=[]:=rfl
theorem keepW_cons {i:Nat} {r:List Nat}:keepW sl ow (i::r)=if isNilS (look sl i) then .slot i::keepW sl ow r else if owns ow (.slot i) then .slot i::keepW sl ow r else keepW sl ow r:=rfl
theorem keepW_eq (L:List Nat):∀ l:List Nat,(∀ i∈l,i∈L)→keepW sl ow l=(l.filter fun i=>decide (.slot i∈(L.filter fun i=>isNilS (look sl i)).map .slot++ow)).map .slot
 | [],_=>rfl
 | i::r,h=>by
   rw [keepW_cons,keepW_eq L r (fun j hj=>h j (by simp [hj])),List.filter_cons]
   have hi:i∈L:=h i (by simp)
   by_cases hn:isNilS (look sl i)=true
   ·rw [if_pos hn];simp [hn,hi]
   ·by_cases ho:Loc.slot i∈ow
    ·rw [if_neg hn,if_pos (owns_mem.2 ho)];simp [ho]
    ·have:owns ow (.slot i)=false:=by cases hh:owns ow (.slot i) with | false=>rfl | true=>exact absurd (owns_mem.1 hh) ho
     rw [if_neg hn,this];simp [ho,hn]
def cellsO:List Loc→List Loc
 | []=>[]
 | .slot _::r=>cellsO r
 | .cell b o::r=>.cell b o::cellsO r
theorem cellsO_nil:cellsO []=[]:=rfl
theorem cellsO_s {i:Nat} {r:List Loc}:cellsO (.slot i::r)=cellsO r:=rfl
theorem cellsO_c {b o:Nat} {r:List Loc}:cellsO (.cell b o::r)=.cell b o::cellsO r:=rfl
theorem cellsO_eq:∀ l:List Loc,l.filter isCell=cellsO l
 | []=>rfl
 | .slot i::r=>by rw [List.filter_cons_of_neg (by simp [isCell]),cellsO_eq r];rfl
 | .cell b o::r=>by rw [List.filter_cons_of_pos rfl,cellsO_eq r];rfl
def slotsO:List Loc→List Loc
 | []=>[]
 | .slot i::r=>.slot i::slotsO r
 | .cell _ _::r=>slotsO r
theorem slotsO_nil:slotsO []=[]:=rfl
theorem slotsO_s {i:Nat} {r:List Loc}:slotsO (.slot i::r)=.slot i::slotsO r:=rfl
theorem slotsO_c {b o:Nat} {r:List Loc}:slotsO (.cell b o::r)=slotsO r:=rfl
theorem slotsO_eq:∀ l:List Loc,(l.filter fun L=>!isCell L)=slotsO l
 | []=>rfl
 | .slot i::r=>by rw [List.filter_cons_of_pos rfl,slotsO_eq r];rfl
 | .cell b o::r=>by rw [List.filter_cons_of_neg (by simp [isCell]),slotsO_eq r];rfl
theorem slotsO_app:∀ {l m:List Loc},slotsO (l++m)=slotsO l++slotsO m
 | [],m=>rfl
 | .slot i::r,m=>by rw [List.cons_append,slotsO_s,slotsO_s,slotsO_app];rfl
 | .cell b o::r,m=>by rw [List.cons_append,slotsO_c,slotsO_c,slotsO_app]
theorem cellsO_app:∀ {l m:List Loc},cellsO (l++m)=cellsO l++cellsO m
 | [],m=>rfl
 | .slot i::r,m=>by rw [List.cons_append,cellsO_s,cellsO_s,cellsO_app]
 | .cell b o::r,m=>by rw [List.cons_append,cellsO_c,cellsO_c,cellsO_app];rfl
def underO (nb:Nat):List Loc→List Loc
 | []=>[]
 | .slot _::r=>underO nb r
 | .cell b o::r=>if b<nb then .cell b o::underO nb r else underO nb r
theorem underO_nil {nb:Nat}:underO nb []=[]:=rfl
theorem underO_s {nb i:Nat} {r:List Loc}:underO nb (.slot i::r)=underO nb r:=rfl
theorem underO_c {nb b o:Nat} {r:List Loc}:underO nb (.cell b o::r)=if b<nb then .cell b o::underO nb r else underO nb r:=rfl
theorem underO_eq {nb:Nat}:∀ l:List Loc,cellsUpto nb l=underO nb l
 | []=>rfl
 | .slot i::r=>by rw [underO_s,← underO_eq r];simp [cellsUpto]
 | .cell b o::r=>by
   rw [underO_c,← underO_eq r]
   by_cases h:b<nb<;>simp [cellsUpto,h]
theorem put_mk {v:PV}:St.put ⟨sl,ow,al,bx⟩ d v=⟨(d,v)::sl,dropSlot d ow,dropAl d al,bx⟩:=rfl
theorem putOwn_mk {v:PV}:St.putOwn ⟨sl,ow,al,bx⟩ d v=⟨(d,v)::sl,.slot d::dropSlot d ow,dropAl d al,bx⟩:=rfl
theorem putD_none {v:PV}:St.putD st none v=st:=rfl
theorem putD_some {v:PV}:St.putD st (some d) v=st.put d v:=rfl
theorem cellsO_slots:∀ l:List Nat,cellsO (l.map .slot)=[]
 | []=>rfl
 | i::r=>by rw [List.map_cons,cellsO_s,cellsO_slots r]
theorem keep_mk:St.keep ⟨sl,ow,al,bx⟩ live=⟨lookW sl live,keepW sl ow live++cellsO ow,[],bx⟩:=by
 unfold St.keep
 simp only [St.keep0,St.nrm]
 rw [lookW_eq,keepW_eq live live (fun _ h=>h),cellsO_eq,cellsO_app,cellsO_slots,List.nil_append]
 rfl
def vals:List (Nat × PV)→List PV
 | []=>[]
 | (_,v)::r=>v::vals r
theorem vals_nil:vals []=[]:=rfl
theorem vals_cons {i:Nat} {v:PV} {r:List (Nat × PV)}:vals ((i,v)::r)=v::vals r:=rfl
theorem vals_eq:∀ l:List (Nat × PV),l.map (·.2)=vals l
 | []=>rfl
 | (i,v)::r=>by rw [vals_cons,← vals_eq r];rfl
def trimK (nb:Nat) (bx:Boxes) (b:Bool):Boxes:=if b then bx.take nb else bx
def boxLows (nb:Nat):Boxes→Bool
 | []=>true
 | q::r=>lows nb q.2 && boxLows nb r
theorem boxLows_nil {nb:Nat}:boxLows nb []=true:=rfl
theorem boxLows_cons {nb:Nat} {q:Nat × List PV} {r:Boxes}:boxLows nb (q::r)=(lows nb q.2 && boxLows nb r):=rfl
theorem boxLows_eq {nb:Nat}:∀ l:Boxes,(l.all fun q=>lows nb q.2)=boxLows nb l
 | []=>rfl
 | q::r=>by rw [List.all_cons,boxLows_eq r];rfl
theorem trim_eq {nb:Nat} {vs:List PV}:trim nb vs bx=if bx.length=nb then bx else trimK nb bx (lows nb vs && boxLows nb (bx.take nb)):=by
 unfold trim trimK;rw [boxLows_eq]
theorem trimK_t {nb:Nat}:trimK nb bx true=bx.take nb:=rfl
theorem trimK_f {nb:Nat}:trimK nb bx false=bx:=rfl
def cutK (st:St) (nb:Nat) (bx':Boxes):St:=⟨st.sl,if bx'.length=st.bx.length then st.ow else st.ow.filter (fun | .slot _=>true | .cell b _=>decide (b<bx'.length)),[],bx'⟩
theorem cutB_mk {nb:Nat}:St.cutB ⟨sl,ow,al,bx⟩ nb=if bx.length=nb then ⟨sl,ow,[],bx⟩ else cutK ⟨sl,ow,al,bx⟩ nb (trimK nb bx (lows nb (vals sl) && boxLows nb (bx.take nb))):=by
 unfold St.cutB
 simp only [trim_eq,vals_eq]
 split
 ·simp
 ·rfl
def ltO (nb:Nat):List Loc→List Loc
 | []=>[]
 | .slot i::r=>.slot i::ltO nb r
 | .cell b o::r=>if b<nb then .cell b o::ltO nb r else ltO nb r
theorem ltO_nil {nb:Nat}:ltO nb []=[]:=rfl
theorem ltO_s {nb i:Nat} {r:List Loc}:ltO nb (.slot i::r)=.slot i::ltO nb r:=rfl
theorem ltO_c {nb b o:Nat} {r:List Loc}:ltO nb (.cell b o::r)=if b<nb then .cell b o::ltO nb r else ltO nb r:=rfl
theorem ltO_eq {nb:Nat}:∀ l:List Loc,(l.filter (fun | .slot _=>true | .cell b _=>decide (b<nb)))=ltO nb l
 | []=>rfl
 | .slot i::r=>by rw [ltO_s,← ltO_eq r];simp
 | .cell b o::r=>by
   rw [ltO_c,← ltO_eq r]
   by_cases h:b<nb<;>simp [h]
theorem cutK_mk {nb:Nat} {bx':Boxes}:cutK ⟨sl,ow,al,bx⟩ nb bx'=⟨sl,if bx'.length=bx.length then ow else ltO bx'.length ow,[],bx'⟩:=by
 unfold cutK;rw [ltO_eq]
theorem underO_app {nb:Nat}:∀ {l m:List Loc},underO nb (l++m)=underO nb l++underO nb m
 | [],m=>rfl
 | .slot i::r,m=>by rw [List.cons_append,underO_s,underO_s,underO_app]
 | .cell b o::r,m=>by
   rw [List.cons_append,underO_c,underO_c,underO_app]
   split<;>rfl
theorem underO_slots {nb:Nat}:∀ l:List Nat,underO nb (l.map .slot)=[]
 | []=>rfl
 | i::r=>by rw [List.map_cons,underO_s,underO_slots r]
theorem only_mk {nb:Nat}:St.only ⟨sl,ow,al,bx⟩ live nb=⟨lookW sl live,keepW sl ow live++underO (trim nb (vals (lookW sl live)) bx).length ow,[],trim nb (vals (lookW sl live)) bx⟩:=by
 have h1:live.map (look (sl.map fun q=>(q.1,wk q.2)))=vals (lookW sl live):=by
  rw [← vals_eq,lookW_eq,List.map_map];rfl
 have h2:∀ (m:Nat) (l:List Loc),(l.filter (fun | .slot _=>false | .cell b _=>decide (b<m)))=underO m l:=fun m l=>by rw [← underO_eq];rfl
 show (⟨live.map fun i=>(i,look (sl.map fun q:Nat × PV=>(q.1,wk q.2)) i),(live.filter fun i=>decide (Loc.slot i∈(live.filter fun i=>isNilS (look sl i)).map Loc.slot++ow)).map Loc.slot++(((live.filter fun i=>isNilS (look sl i)).map Loc.slot++ow).filter (fun | .slot _=>false | .cell b _=>decide (b<(trim nb (live.map (look (sl.map fun q:Nat × PV=>(q.1,wk q.2)))) bx).length))),[],trim nb (live.map (look (sl.map fun q:Nat × PV=>(q.1,wk q.2)))) bx⟩:St)=_
 rw [h1,h2,underO_app,underO_slots,List.nil_append,keepW_eq live live (fun _ h=>h),← lookW_eq]
theorem ev_t {i:Nat}:X.ev sl (.t i)=look sl i:=rfl
theorem ev_c {v:PV}:X.ev sl (.c v)=v:=rfl
def evL (sl:List (Nat × PV)):List X→List PV
 | []=>[]
 | x::r=>x.ev sl::evL sl r
theorem evL_nil:evL sl []=[]:=rfl
theorem evL_cons {x:X} {r:List X}:evL sl (x::r)=x.ev sl::evL sl r:=rfl
theorem evL_eq:∀ l:List X,l.map (·.ev sl)=evL sl l
 | []=>rfl
 | x::r=>by rw [evL_cons,← evL_eq r];rfl
def evA (sl:List (Nat × PV)):List X→List PV
 | []=>[]
 | x::r=>(x.ev sl).weak::evA sl r
theorem evA_nil:evA sl []=[]:=rfl
theorem evA_cons {x:X} {r:List X}:evA sl (x::r)=(x.ev sl).weak::evA sl r:=rfl
theorem evA_eq:∀ l:List X,(l.map fun x=>(x.ev sl).weak)=evA sl l
 | []=>rfl
 | x::r=>by rw [evA_cons,← evA_eq r];rfl
def evPs (sl:List (Nat × PV)):List (Nat × Nat × X)→List (Nat × Nat × PV)
 | []=>[]
 | (o,m,x)::r=>(o,m,x.ev sl)::evPs sl r
theorem evPs_nil:evPs sl []=[]:=rfl
theorem evPs_cons {o m:Nat} {x:X} {r:List (Nat × Nat × X)}:evPs sl ((o,m,x)::r)=(o,m,x.ev sl)::evPs sl r:=rfl
theorem evPs_eq:∀ l:List (Nat × Nat × X),(l.map fun q=>(q.1,q.2.1,q.2.2.ev sl))=evPs sl l
 | []=>rfl
 | (o,m,x)::r=>by rw [evPs_cons,← evPs_eq r];rfl
def kPut (st:St) (d:Nat):Option PV→Option St
 | some v=>some (st.put d v)
 | none=>none
theorem kPut_some {v:PV}:kPut st d (some v)=some (st.put d v):=rfl
theorem map_putD {x:Option PV}:x.map (st.putD (some d))=kPut st d x:=by cases x<;>rfl
theorem map_put {x:Option PV}:x.map (st.put d)=kPut st d x:=by cases x<;>rfl
theorem so_mv {x:X}:stepOp cf st (some d) (.mv x)=some (st.put d (x.ev st.sl)):=rfl
theorem so_mvA {s:Nat}:stepOp cf ⟨sl,ow,al,bx⟩ (some d) (.mvA s)=if s=d then none else some ⟨(d,look sl s)::sl,dropSlot d ow,(d,.slot s)::dropAl d al,bx⟩:=rfl
theorem so_asg {s:Nat}:stepOp cf ⟨sl,ow,al,bx⟩ (some d) (.asg (.t s))=if s=d then none else if owns ow (.slot s) then some ⟨(d,look sl s)::sl,.slot d::dropSlot s (dropSlot d ow),dropAl s (dropAl d al),bx⟩ else some ⟨(d,look sl s)::sl,dropSlot d ow,dropAl d al,bx⟩:=by
 simp only [stepOp,owns_mem];rfl
theorem so_asgF {v:Value}:stepOp cf st (some d) (.asg (.c (.flat v)))=some (st.put d (.flat v)):=rfl
theorem so_asgC {f:FuncId} {cs:List PV}:stepOp cf st (some d) (.asg (.c (.clo f cs)))=some (st.put d (.clo f cs)):=rfl
def kPick (st:St) (d:Nat) (a b:PV):PV→Option St
 | .flat (.bool t)=>some (st.put d (if t then a else b))
 | _=>none
theorem so_pick {c a b:X}:stepOp cf st (some d) (.pick c a b)=kPick st d (a.ev st.sl) (b.ev st.sl) (c.ev st.sl):=by
 simp only [stepOp,simpleV]
 unfold kPick
 generalize c.ev st.sl=p
 cases p with
 | flat v=>cases v<;>first | rfl | (dsimp only;split<;>rfl) | (dsimp only [map_putD,map_put];rw [map_putD])
 | _=>first | rfl | (dsimp only;split<;>rfl) | (dsimp only;rw [map_putD])
theorem kPick_b {a b:PV} {t:Bool}:kPick st d a b (.flat (.bool t))=some (st.put d (if t then a else b)):=rfl
def kFlat (st:St) (d:Nat):Option Value→Option St
 | some v=>some (st.put d (.flat v))
 | none=>none
theorem kFlat_some {v:Value}:kFlat st d (some v)=some (st.put d (.flat v)):=rfl
def kBin (st:St) (d:Nat) (op:BinOp):PV→PV→Option St
 | .flat a,.flat b=>kFlat st d (flatBin op a b)
 | _,_=>none
theorem so_bin {op:BinOp} {x y:X}:stepOp cf st (some d) (.bin op x y)=kBin st d op (x.ev st.sl) (y.ev st.sl):=by
 simp only [stepOp,simpleV]
 generalize x.ev st.sl=p
 generalize y.ev st.sl=q
 cases p with
 | flat v =>
   cases q with
   | flat u=>simp only [kBin];cases flatBin op v u<;>rfl
   | _=>rfl
 | _=>cases q<;>rfl
theorem kBin_f {op:BinOp} {a b:Value}:kBin st d op (.flat a) (.flat b)=kFlat st d (flatBin op a b):=rfl
def kBeq (st:St) (d:Nat) (ne:Bool):PV→PV→Option St
 | .flat (.bool a),.flat (.bool b)=>some (st.put d (.flat (.bool (if ne then !(a == b) else a == b))))
 | _,_=>none
theorem so_beq {ne:Bool} {x y:X}:stepOp cf st (some d) (.beq ne x y)=kBeq st d ne (x.ev st.sl) (y.ev st.sl):=by
 simp only [stepOp,simpleV]
 unfold kBeq
 generalize x.ev st.sl=p
 generalize y.ev st.sl=q
 cases p with
 | flat v =>
   cases q with
   | flat u=>cases v<;>cases u<;>first | rfl | (dsimp only;split<;>rfl)
   | _=>cases v<;>rfl
 | _ =>
   cases q with
   | flat u=>cases u<;>first | rfl | (dsimp only;split<;>rfl)
   | _=>rfl
theorem kBeq_b {ne a b:Bool}:kBeq st d ne (.flat (.bool a)) (.flat (.bool b))=some (st.put d (.flat (.bool (if ne then !(a == b) else a == b)))):=rfl
def kAnd (t:Bool):Option Bool→Option Bool
 | some r=>some (t && r)
 | none=>none
theorem kAnd_s {t r:Bool}:kAnd t (some r)=some (t && r):=rfl
theorem eq_n:eqCs [] [] []=some true:=rfl
theorem eq_b {a b:Bool} {ks:List LK} {cs ds:List PV}:eqCs (.b::ks) (.flat (.bool a)::cs) (.flat (.bool b)::ds)=kAnd (a == b) (eqCs ks cs ds):=by
 simp only [eqCs];cases eqCs ks cs ds<;>rfl
theorem eq_i {k:IntKind} {a b:Int} {ks:List LK} {cs ds:List PV}:eqCs (.i k::ks) (.flat (.int k a)::cs) (.flat (.int k b)::ds)=kAnd (decide (a=b)) (eqCs ks cs ds):=by
 simp only [eqCs,and_self,if_true];cases eqCs ks cs ds<;>rfl
def kEqB (st:St) (d:Nat) (ne:Bool):Option Bool→Option St
 | some t=>some (st.put d (.flat (.bool (if ne then !t else t))))
 | none=>none
theorem kEqB_s {ne t:Bool}:kEqB st d ne (some t)=some (st.put d (.flat (.bool (if ne then !t else t)))):=rfl
def kEqS (st:St) (d:Nat) (ne:Bool) (ks:List LK):PV→PV→Option St
 | .agg cs,.agg ds=>kEqB st d ne (eqCs ks cs ds)
 | _,_=>none
theorem kEqS_a {ne:Bool} {ks:List LK} {cs ds:List PV}:kEqS st d ne ks (.agg cs) (.agg ds)=kEqB st d ne (eqCs ks cs ds):=rfl
theorem so_eqS {ne:Bool} {ks:List LK} {x y:X}:stepOp cf st (some d) (.eqS ne ks x y)=kEqS st d ne ks (x.ev st.sl) (y.ev st.sl):=by
 simp only [stepOp,simpleV]
 generalize x.ev st.sl=p
 generalize y.ev st.sl=q
 cases p with
 | agg cs =>
   cases q with
   | agg ds=>simp only [kEqS];cases eqCs ks cs ds<;>rfl
   | _=>rfl
 | _=>cases q<;>rfl
def kNilc (st:St) (d:Nat):PV→Option St
 | .ptr b o=>some (st.put d (.ptr b o))
 | .elt cs=>some (st.put d (.elt cs))
 | .clo f cs=>some (st.put d (.clo f cs))
 | .yld b=>some (st.put d (.yld b))
 | _=>none
theorem so_nilc {x:X}:stepOp cf st (some d) (.nilc x)=kNilc st d (x.ev st.sl):=by
 simp only [stepOp,simpleV]
 unfold kNilc
 generalize x.ev st.sl=p
 cases p with
 | flat v=>cases v<;>first | rfl | (dsimp only;split<;>rfl) | (dsimp only [map_putD,map_put];rw [map_putD])
 | _=>first | rfl | (dsimp only;split<;>rfl) | (dsimp only;rw [map_putD])
theorem kNilc_p {b o:Nat}:kNilc st d (.ptr b o)=some (st.put d (.ptr b o)):=rfl
theorem kNilc_e {cs:List PV}:kNilc st d (.elt cs)=some (st.put d (.elt cs)):=rfl
theorem kNilc_c {f:FuncId} {cs:List PV}:kNilc st d (.clo f cs)=some (st.put d (.clo f cs)):=rfl
theorem kNilc_y {b:Nat}:kNilc st d (.yld b)=some (st.put d (.yld b)):=rfl
def kUn (st:St) (d:Nat) (op:UnOp):PV→Option St
 | .flat a=>kFlat st d (flatUn op a)
 | _=>none
theorem so_un {op:UnOp} {x:X}:stepOp cf st (some d) (.un op x)=kUn st d op (x.ev st.sl):=by
 simp only [stepOp,simpleV]
 generalize x.ev st.sl=p
 cases p with
 | flat v=>simp only [kUn];cases flatUn op v<;>rfl
 | _=>rfl
theorem kUn_f {op:UnOp} {a:Value}:kUn st d op (.flat a)=kFlat st d (flatUn op a):=rfl
def kConv (st:St) (d:Nat) (k:IntKind):PV→Option St
 | .flat (.int _ m)=>some (st.put d (.flat (.int k (k.wrap m))))
 | _=>none
theorem so_conv {k:IntKind} {x:X}:stepOp cf st (some d) (.conv k x)=kConv st d k (x.ev st.sl):=by
 simp only [stepOp,simpleV]
 unfold kConv
 generalize x.ev st.sl=p
 cases p with
 | flat v=>cases v<;>first | rfl | (dsimp only;split<;>rfl) | (dsimp only [map_putD,map_put];rw [map_putD])
 | _=>first | rfl | (dsimp only;split<;>rfl) | (dsimp only;rw [map_putD])
theorem kConv_i {k k':IntKind} {m:Int}:kConv st d k (.flat (.int k' m))=some (st.put d (.flat (.int k (k.wrap m)))):=rfl
theorem so_b2s {x:X}:stepOp cf st (some d) (.b2s x)=kPut st d (b2sV (x.ev st.sl) st.bx):=by
 simp only [stepOp,map_putD]
theorem b2sV_nil:b2sV (.flat (.slice none 0 0)) bx=some (.flat (.string ⟨#[]⟩)):=rfl
theorem b2sV_slc' {m:Nat} {cs:List PV}:b2sV (.slc m cs) bx=if cs.length=m then (bytesOf cs).map fun l=>.flat (.string ⟨l.toArray⟩) else none:=rfl
def kBytes (o m:Nat):Option (Nat × List PV)→Option PV
 | some (_,cs)=>if o+m≤cs.length then kStr (bytesOf ((cs.drop o).take m)) else none
 | none=>none
where kStr:Option (List UInt8)→Option PV
 | some l=>some (.flat (.string ⟨l.toArray⟩))
 | none=>none
theorem kStr_s {l:List UInt8}:kBytes.kStr (some l)=some (.flat (.string ⟨l.toArray⟩)):=rfl
theorem kBytes_s {o m e:Nat} {cs:List PV}:kBytes o m (some (e,cs))=if o+m≤cs.length then kBytes.kStr (bytesOf ((cs.drop o).take m)) else none:=rfl
theorem b2sV_bsl {b o m:Nat}:b2sV (.bsl b o m) bx=kBytes o m (boxAt bx b):=by
 simp only [b2sV]
 cases boxAt bx b with
 | none=>rfl
 | some q =>
   obtain ⟨e,cs⟩:=q
   simp only [Option.bind_some,kBytes_s]
   split
   ·cases bytesOf ((cs.drop o).take m)<;>rfl
   ·rfl
theorem b2sV_sl {m:Nat} {cs:List PV}:b2sV (.slc m cs) bx=if cs.length=m then kBytes.kStr (bytesOf cs) else none:=by
 rw [b2sV_slc']
 split
 ·cases bytesOf cs<;>rfl
 ·rfl
theorem so_alloc {e:Nat} {zs:List PV}:stepOp cf ⟨sl,ow,al,bx⟩ (some d) (.alloc e zs)=some ⟨(d,.ptr bx.length 0)::sl,nilCells bx.length 0 zs++dropSlot d ow,dropAl d al,bx++[(e,weaks zs)]⟩:=by
 rw [← weaks_eq];rfl
def kBox (st:St) (d e m:Nat) (v:PV):Option St:=if v.good=true∧v.cells.length=m then some ⟨(d,.ptr st.bx.length 0)::st.sl,nilCells st.bx.length 0 v.cells++dropSlot d st.ow,dropAl d st.al,st.bx++[(e,weaks v.cells)]⟩ else none
theorem so_box {e m:Nat} {x:X}:stepOp cf st (some d) (.box e m x)=kBox st d e m (x.ev st.sl):=by
 unfold kBox
 rw [← weaks_eq];rfl
theorem kBox_mk {e m:Nat} {v:PV}:kBox ⟨sl,ow,al,bx⟩ d e m v=if v.good=true∧v.cells.length=m then some ⟨(d,.ptr bx.length 0)::sl,nilCells bx.length 0 v.cells++dropSlot d ow,dropAl d al,bx++[(e,weaks v.cells)]⟩ else none:=rfl
def kBuild (st:St) (d:Nat):Option (List PV)→Option St
 | some cs=>some (st.put d (.agg cs))
 | none=>none
theorem so_build {zs:List PV} {ps:List (Nat × Nat × X)}:stepOp cf st (some d) (.build zs ps)=kBuild st d (fillP zs (evPs st.sl ps)):=by
 simp only [stepOp,simpleV,evPs_eq]
 cases fillP zs (evPs st.sl ps)<;>rfl
theorem kBuild_s {cs:List PV}:kBuild st d (some cs)=some (st.put d (.agg cs)):=rfl
def kMksl (st:St) (d:Nat) (byte:Bool) (m size:Nat):Option (List PV)→Option St
 | some cs=>if byte=true∨size≠1∨noU8 (weaks cs)=true then some (st.putOwn d (.slc m (weaks cs))) else none
 | none=>none
theorem so_mksl {byte:Bool} {m size:Nat} {zs:List PV} {ps:List (Nat × Nat × X)}:stepOp cf st (some d) (.mksl byte m size zs ps)=kMksl st d byte m size (fillP zs (evPs st.sl ps)):=by
 simp only [stepOp,Option.bind_some,evPs_eq]
 cases fillP zs (evPs st.sl ps)<;>rfl
theorem kMksl_s {byte:Bool} {m size:Nat} {cs:List PV}:kMksl st d byte m size (some cs)=if byte=true∨size≠1∨noU8 (weaks cs)=true then some (st.putOwn d (.slc m (weaks cs))) else none:=rfl
theorem so_load {agg:Bool} {m:Nat} {a:X}:stepOp cf st (some d) (.load agg m a)=kPut st d (loadV agg m (a.ev st.sl) st.bx):=by
 simp only [stepOp,Option.bind_some,map_put]
def readQ (agg:Bool) (m o:Nat):Option (Nat × List PV)→Option PV
 | some (_,cs)=>if o+m≤cs.length then (match agg with | true=>some (.agg ((cs.drop o).take m)) | false=>cs[o]?) else none
 | none=>none
theorem readQ_t {m o e:Nat} {cs:List PV}:readQ true m o (some (e,cs))=if o+m≤cs.length then some (.agg ((cs.drop o).take m)) else none:=rfl
theorem readQ_f {m o e:Nat} {cs:List PV}:readQ false m o (some (e,cs))=if o+m≤cs.length then cs[o]? else none:=rfl
theorem load_ptr {agg:Bool} {m b o:Nat}:loadV agg m (.ptr b o) bx=readQ agg m o (boxAt bx b):=by
 simp only [loadV]
 cases boxAt bx b with
 | none=>rfl
 | some q=>rfl
theorem load_eltT {m:Nat} {cs:List PV}:loadV true m (.elt cs) bx=if m≤cs.length then some (.agg (cs.take m)) else none:=rfl
theorem load_eltF {m:Nat} {cs:List PV}:loadV false m (.elt cs) bx=if m≤cs.length then cs[0]? else none:=rfl
def kBoxAt:Option (Nat × List PV)→Option (Nat × List PV)
 | some (e,cs)=>if isLp cs then none else some (e,cs)
 | none=>none
theorem boxAt_eq {b:Nat}:boxAt bx b=kBoxAt (bx[b]?):=by
 unfold boxAt
 cases bx[b]? with
 | none=>rfl
 | some q=>rfl
theorem kBoxAt_s {e:Nat} {cs:List PV}:kBoxAt (some (e,cs))=if isLp cs then none else some (e,cs):=rfl
def kLoadA (st:St) (d b o:Nat):Option PV→Option St
 | some v=>some ⟨(d,v)::st.sl,dropSlot d st.ow,(d,.cell b o)::dropAl d st.al,st.bx⟩
 | none=>none
def kLoadP (st:St) (d:Nat):PV→Option St
 | .ptr b o=>kLoadA st d b o (readQ false 1 o (boxAt st.bx b))
 | _=>none
theorem so_loadA {a:X}:stepOp cf st (some d) (.loadA a)=kLoadP st d (a.ev st.sl):=by
 simp only [stepOp,Option.bind_some]
 generalize a.ev st.sl=p
 cases p with
 | ptr b o =>
   simp only [kLoadP]
   cases h:boxAt st.bx b with
   | none=>rfl
   | some q =>
     obtain ⟨e,cs⟩:=q
     simp only [Option.bind_some,readQ_f]
     by_cases hl:o+1≤cs.length
     ·rw [if_pos hl]
      cases h2:cs[o]? <;>rfl
     ·rw [if_neg hl,List.getElem?_eq_none (by omega)];rfl
 | _=>rfl
theorem kLoadP_p {b o:Nat}:kLoadP st d (.ptr b o)=kLoadA st d b o (readQ false 1 o (boxAt st.bx b)):=rfl
theorem kLoadA_s {b o:Nat} {v:PV}:kLoadA ⟨sl,ow,al,bx⟩ d b o (some v)=some ⟨(d,v)::sl,dropSlot d ow,(d,.cell b o)::dropAl d al,bx⟩:=rfl
def dropC (b o m:Nat):List Loc→List Loc
 | []=>[]
 | .slot i::r=>.slot i::dropC b o m r
 | .cell b' j::r=>if b'=b∧o≤j∧j<o+m then dropC b o m r else .cell b' j::dropC b o m r
theorem dropC_nil {b o m:Nat}:dropC b o m []=[]:=rfl
theorem dropC_s {b o m i:Nat} {r:List Loc}:dropC b o m (.slot i::r)=.slot i::dropC b o m r:=rfl
theorem dropC_c {b o m b' j:Nat} {r:List Loc}:dropC b o m (.cell b' j::r)=if b'=b∧o≤j∧j<o+m then dropC b o m r else .cell b' j::dropC b o m r:=rfl
theorem mentC_iff {b o m b' j:Nat}:mentC b o m (.cell b' j)=decide (b'=b∧o≤j∧j<o+m):=by
 unfold mentC
 by_cases h1:b'=b<;>by_cases h2:o≤j<;>by_cases h3:j<o+m<;>simp [h1,h2,h3]
theorem dropC_eq {b o m:Nat}:∀ l:List Loc,(l.filter fun L=>!mentC b o m L)=dropC b o m l
 | []=>rfl
 | .slot i::r=>by rw [dropC_s,← dropC_eq r];simp [mentC]
 | .cell b' j::r=>by
   rw [dropC_c,← dropC_eq r,List.filter_cons,mentC_iff]
   by_cases h:b'=b∧o≤j∧j<o+m<;>simp [h]
def dropCA (b o m:Nat) (l:List (Nat × Loc)):List (Nat × Loc):=l.filter fun p=>!mentC b o m p.2
theorem dropCA_nil {b o m:Nat}:dropCA b o m []=[]:=rfl
theorem dropCA_s {b o m t i:Nat} {r:List (Nat × Loc)}:dropCA b o m ((t,.slot i)::r)=(t,.slot i)::dropCA b o m r:=by simp [dropCA,mentC]
theorem dropCA_c {b o m t b' j:Nat} {r:List (Nat × Loc)}:dropCA b o m ((t,.cell b' j)::r)=if b'=b∧o≤j∧j<o+m then dropCA b o m r else (t,.cell b' j)::dropCA b o m r:=by
 unfold dropCA
 rw [List.filter_cons,mentC_iff]
 by_cases h:b'=b∧o≤j∧j<o+m<;>simp [h]
def kStW (st:St) (b o m:Nat) (x:X) (v:PV) (e:Nat) (cs:List PV):Option St:=if v.good=true∧v.cells.length=m∧o+m≤cs.length then
    (match x with
     | .t s=>if owns st.ow (.slot s) then some ⟨st.sl,.cell b o::dropSlot s (nilCells b o v.cells++dropC b o m st.ow),dropAl s (dropCA b o m st.al),st.bx.set b (e,cs.take o++weaks v.cells++cs.drop (o+m))⟩ else some ⟨st.sl,nilCells b o v.cells++dropC b o m st.ow,dropCA b o m st.al,st.bx.set b (e,cs.take o++weaks v.cells++cs.drop (o+m))⟩
     | .c _=>some ⟨st.sl,nilCells b o v.cells++dropC b o m st.ow,dropCA b o m st.al,st.bx.set b (e,cs.take o++weaks v.cells++cs.drop (o+m))⟩) else none
def kStQ (st:St) (b o m:Nat) (x:X) (v:PV):Option (Nat × List PV)→Option St
 | some (e,cs)=>kStW st b o m x v e cs
 | none=>none
def kSt (st:St) (m:Nat) (x:X) (v:PV):PV→Option St
 | .ptr b o=>kStQ st b o m x v (boxAt st.bx b)
 | _=>none
theorem so_store {m:Nat} {a x:X}:stepOp cf st none (.store m a x)=kSt st m x (x.ev st.sl) (a.ev st.sl):=by
 simp only [stepOp]
 generalize a.ev st.sl=p
 cases p with
 | ptr b o =>
   dsimp only
   simp only [kSt,kStQ]
   cases h:boxAt st.bx b with
   | none=>rfl
   | some q =>
     obtain ⟨e,cs⟩:=q
     simp only [Option.bind_some,kStW]
     split
     ·cases x with
      | t s=>simp only [dropC_eq,owns_mem,weaks_eq];rfl
      | c v=>simp only [dropC_eq,weaks_eq];rfl
     ·rfl
 | _=>rfl
theorem kSt_p {b o m:Nat} {x:X} {v:PV}:kSt st m x v (.ptr b o)=kStQ st b o m x v (boxAt st.bx b):=rfl
theorem kStQ_s {b o m e:Nat} {x:X} {v:PV} {cs:List PV}:kStQ st b o m x v (some (e,cs))=kStW st b o m x v e cs:=rfl
theorem kStW_t {b o m e s:Nat} {v:PV} {cs:List PV}:kStW ⟨sl,ow,al,bx⟩ b o m (.t s) v e cs=if v.good=true∧v.cells.length=m∧o+m≤cs.length then (if owns ow (.slot s) then some ⟨sl,.cell b o::dropSlot s (nilCells b o v.cells++dropC b o m ow),dropAl s (dropCA b o m al),bx.set b (e,cs.take o++weaks v.cells++cs.drop (o+m))⟩ else some ⟨sl,nilCells b o v.cells++dropC b o m ow,dropCA b o m al,bx.set b (e,cs.take o++weaks v.cells++cs.drop (o+m))⟩) else none:=rfl
theorem kStW_c {b o m e:Nat} {u v:PV} {cs:List PV}:kStW ⟨sl,ow,al,bx⟩ b o m (.c u) v e cs=if v.good=true∧v.cells.length=m∧o+m≤cs.length then some ⟨sl,nilCells b o v.cells++dropC b o m ow,dropCA b o m al,bx.set b (e,cs.take o++weaks v.cells++cs.drop (o+m))⟩ else none:=rfl
def kFadr (st:St) (d off:Nat):PV→Option St
 | .ptr b o=>some (st.put d (.ptr b (o+off)))
 | .elt cs=>some (st.put d (.elt (cs.drop off)))
 | _=>none
theorem so_fadr {off:Nat} {a:X}:stepOp cf st (some d) (.fadr off a)=kFadr st d off (a.ev st.sl):=by
 simp only [stepOp,simpleV]
 unfold kFadr
 generalize a.ev st.sl=p
 cases p with
 | flat v=>cases v<;>first | rfl | (dsimp only;split<;>rfl) | (dsimp only [map_putD,map_put];rw [map_putD])
 | _=>first | rfl | (dsimp only;split<;>rfl) | (dsimp only;rw [map_putD])
theorem kFadr_p {off b o:Nat}:kFadr st d off (.ptr b o)=some (st.put d (.ptr b (o+off))):=rfl
theorem kFadr_e {off:Nat} {cs:List PV}:kFadr st d off (.elt cs)=some (st.put d (.elt (cs.drop off))):=rfl
def kFldT (st:St) (d off m:Nat):PV→Option St
 | .agg cs=>if off+m≤cs.length then some (st.put d (.agg ((cs.drop off).take m))) else none
 | _=>none
def kFldF (st:St) (d off:Nat):PV→Option St
 | .agg cs=>kPut st d (cs[off]?)
 | _=>none
theorem so_fldT {off m:Nat} {x:X}:stepOp cf st (some d) (.fld true off m x)=kFldT st d off m (x.ev st.sl):=by
 simp only [stepOp,simpleV]
 unfold kFldT
 generalize x.ev st.sl=p
 cases p with
 | flat v=>cases v<;>first | rfl | (dsimp only;split<;>rfl) | (dsimp only [map_putD,map_put];rw [map_putD])
 | _=>first | rfl | (dsimp only;split<;>rfl) | (dsimp only;rw [map_putD])
theorem so_fldF {off m:Nat} {x:X}:stepOp cf st (some d) (.fld false off m x)=kFldF st d off (x.ev st.sl):=by
 simp only [stepOp,simpleV]
 generalize x.ev st.sl=p
 cases p with
 | agg cs=>simp only [kFldF,map_putD]
 | _=>rfl
theorem kFldT_a {off m:Nat} {cs:List PV}:kFldT st d off m (.agg cs)=if off+m≤cs.length then some (st.put d (.agg ((cs.drop off).take m))) else none:=rfl
theorem kFldF_a {off:Nat} {cs:List PV}:kFldF st d off (.agg cs)=kPut st d (cs[off]?):=rfl
def kIadr (st:St) (d size:Nat):PV→PV→Option St
 | .slc m cs,.flat (.int _ i)=>if 0≤i∧i<m then some (st.put d (.elt (cs.drop (i.toNat * size)))) else none
 | .bsl b o m,.flat (.int _ i)=>if 0≤i∧i<m then some (st.put d (.ptr b (o+i.toNat * size))) else none
 | _,_=>none
theorem so_iadr {size:Nat} {x i:X}:stepOp cf st (some d) (.iadr size x i)=kIadr st d size (x.ev st.sl) (i.ev st.sl):=by
 simp only [stepOp,simpleV]
 unfold kIadr
 generalize x.ev st.sl=p
 generalize i.ev st.sl=q
 cases p with
 | flat v =>
   cases q with
   | flat u=>cases v<;>cases u<;>first | rfl | (dsimp only;split<;>rfl)
   | _=>cases v<;>rfl
 | _ =>
   cases q with
   | flat u=>cases u<;>first | rfl | (dsimp only;split<;>rfl)
   | _=>rfl
theorem kIadr_s {size m:Nat} {cs:List PV} {k:IntKind} {i:Int}:kIadr st d size (.slc m cs) (.flat (.int k i))=if 0≤i∧i<m then some (st.put d (.elt (cs.drop (i.toNat * size)))) else none:=rfl
theorem kIadr_b {size b o m:Nat} {k:IntKind} {i:Int}:kIadr st d size (.bsl b o m) (.flat (.int k i))=if 0≤i∧i<m then some (st.put d (.ptr b (o+i.toNat * size))) else none:=rfl
def kPadr (st:St) (d len size:Nat):PV→PV→Option St
 | .ptr b o,.flat (.int _ i)=>if 0≤i∧i<len then some (st.put d (.ptr b (o+i.toNat * size))) else none
 | _,_=>none
theorem so_padr {len size:Nat} {x i:X}:stepOp cf st (some d) (.paddr len size x i)=kPadr st d len size (x.ev st.sl) (i.ev st.sl):=by
 simp only [stepOp,simpleV]
 unfold kPadr
 generalize x.ev st.sl=p
 generalize i.ev st.sl=q
 cases p with
 | flat v =>
   cases q with
   | flat u=>cases v<;>cases u<;>first | rfl | (dsimp only;split<;>rfl)
   | _=>cases v<;>rfl
 | _ =>
   cases q with
   | flat u=>cases u<;>first | rfl | (dsimp only;split<;>rfl)
   | _=>rfl
theorem kPadr_p {len size b o:Nat} {k:IntKind} {i:Int}:kPadr st d len size (.ptr b o) (.flat (.int k i))=if 0≤i∧i<len then some (st.put d (.ptr b (o+i.toNat * size))) else none:=rfl
def kByte (st:St) (d:Nat):Option UInt8→Option St
 | some c=>some (st.put d (.flat (.int .u8 c.toNat)))
 | none=>none
def kIdx (st:St) (d:Nat):PV→PV→Option St
 | .flat (.string s),.flat (.int _ i)=>if 0≤i then kByte st d (s[i.toNat]?) else none
 | _,_=>none
theorem so_idx {x i:X}:stepOp cf st (some d) (.idx x i)=kIdx st d (x.ev st.sl) (i.ev st.sl):=by
 simp only [stepOp,simpleV]
 generalize x.ev st.sl=p
 generalize i.ev st.sl=q
 cases p with
 | flat v =>
   cases q with
   | flat u =>
     cases v<;>cases u<;>try rfl
     rename_i s k j
     simp only [kIdx]
     split
     ·cases s[j.toNat]? <;>rfl
     ·rfl
   | _=>cases v<;>rfl
 | _=>cases q<;>rfl
theorem kIdx_s {s:ByteArray} {k:IntKind} {i:Int}:kIdx st d (.flat (.string s)) (.flat (.int k i))=if 0≤i then kByte st d (s[i.toNat]?) else none:=rfl
theorem kByte_s {c:UInt8}:kByte st d (some c)=some (st.put d (.flat (.int .u8 c.toNat))):=rfl
def kIdxA (st:St) (d:Nat) (agg:Bool) (len size:Nat):PV→PV→Option St
 | .agg cs,.flat (.int _ i)=>if 0≤i∧i<len∧i.toNat * size+size≤cs.length then (match agg with | true=>some (st.put d (.agg ((cs.drop (i.toNat * size)).take size))) | false=>kPut st d (cs[i.toNat * size]?)) else none
 | _,_=>none
theorem so_idxA {agg:Bool} {len size:Nat} {x i:X}:stepOp cf st (some d) (.idxA agg len size x i)=kIdxA st d agg len size (x.ev st.sl) (i.ev st.sl):=by
 simp only [stepOp,simpleV]
 generalize x.ev st.sl=p
 generalize i.ev st.sl=q
 cases p with
 | agg cs =>
   cases q with
   | flat u =>
     cases u<;>try rfl
     rename_i k j
     simp only [kIdxA]
     split
     ·cases agg
      ·simp only [map_putD]
      ·rfl
     ·rfl
   | _=>rfl
 | _=>cases q<;>rfl
theorem kIdxA_t {len size:Nat} {cs:List PV} {k:IntKind} {i:Int}:kIdxA st d true len size (.agg cs) (.flat (.int k i))=if 0≤i∧i<len∧i.toNat * size+size≤cs.length then some (st.put d (.agg ((cs.drop (i.toNat * size)).take size))) else none:=rfl
theorem kIdxA_f {len size:Nat} {cs:List PV} {k:IntKind} {i:Int}:kIdxA st d false len size (.agg cs) (.flat (.int k i))=if 0≤i∧i<len∧i.toNat * size+size≤cs.length then kPut st d (cs[i.toNat * size]?) else none:=rfl
def evO (sl:List (Nat × PV)):Option X→Option PV
 | none=>none
 | some x=>some (x.ev sl)
theorem evO_n:evO sl none=none:=rfl
theorem evO_s {x:X}:evO sl (some x)=some (x.ev sl):=rfl
theorem evO_eq {x:Option X}:x.map (·.ev sl)=evO sl x:=by cases x<;>rfl
def kSub (st:St) (d:Nat) (s:ByteArray):Option (Nat × Nat)→Option St
 | some (l,h)=>some (st.put d (.flat (.string (s.extract l h))))
 | none=>none
def kSlS (st:St) (d:Nat) (lo hi:Option PV):PV→Option St
 | .flat (.string s)=>kSub st d s (sliceBnd s.size lo hi)
 | _=>none
theorem so_sliceS {x:X} {lo hi:Option X}:stepOp cf st (some d) (.sliceS x lo hi)=kSlS st d (evO st.sl lo) (evO st.sl hi) (x.ev st.sl):=by
 simp only [stepOp,simpleV,evO_eq]
 generalize x.ev st.sl=p
 cases p with
 | flat v =>
   cases v<;>try rfl
   rename_i s
   simp only [kSlS]
   cases sliceBnd s.size (evO st.sl lo) (evO st.sl hi)<;>rfl
 | _=>rfl
theorem kSlS_s {lo hi:Option PV} {s:ByteArray}:kSlS st d lo hi (.flat (.string s))=kSub st d s (sliceBnd s.size lo hi):=rfl
theorem kSub_s {s:ByteArray} {l h:Nat}:kSub st d s (some (l,h))=some (st.put d (.flat (.string (s.extract l h)))):=rfl
theorem bnd_nn {m:Nat}:sliceBnd m none none=some (0,m):=by simp [sliceBnd]
theorem bnd_ns {m:Nat} {k:IntKind} {i:Int}:sliceBnd m none (some (.flat (.int k i)))=if 0≤i∧i≤m then some (0,i.toNat) else none:=by
 simp only [sliceBnd,intOfPV,Option.bind_some]
 split<;>rfl
theorem bnd_sn {m:Nat} {k:IntKind} {i:Int}:sliceBnd m (some (.flat (.int k i))) none=if 0≤i∧i≤m then some (i.toNat,m) else none:=by
 simp only [sliceBnd,intOfPV,Option.bind_some]
 split<;>rfl
theorem bnd_ss {m:Nat} {k k':IntKind} {i j:Int}:sliceBnd m (some (.flat (.int k i))) (some (.flat (.int k' j)))=if 0≤i∧i≤j∧j≤m then some (i.toNat,j.toNat) else none:=by
 simp only [sliceBnd,intOfPV,Option.bind_some]
 by_cases h:0≤j∧j≤(m:Int)
 ·rw [if_pos h]
  simp only [Option.bind_some]
  by_cases h2:0≤i∧i≤((j.toNat:Nat):Int)
  ·rw [if_pos h2,if_pos (by omega)];rfl
  ·rw [if_neg h2,if_neg (by omega)];rfl
 ·rw [if_neg h,if_neg (by omega)];rfl
def kCutS (st:St) (d size m:Nat) (cs:List PV):Option (Nat × Nat)→Option St
 | some (l,h)=>some (st.put d (.slc (h - l) ((cs.take (h * size)).drop (l * size))))
 | none=>none
def kCutB (st:St) (d size b o:Nat):Option (Nat × Nat)→Option St
 | some (l,h)=>some (st.put d (.bsl b (o+l * size) (h - l)))
 | none=>none
def kSl (st:St) (d size:Nat) (lo hi:Option PV):PV→Option St
 | .slc m cs=>if cs.length=m * size∧0<size then kCutS st d size m cs (sliceBnd m lo hi) else none
 | .bsl b o m=>kCutB st d size b o (sliceBnd m lo hi)
 | _=>none
theorem so_slice {size:Nat} {x:X} {lo hi:Option X}:stepOp cf st (some d) (.slice size x lo hi)=kSl st d size (evO st.sl lo) (evO st.sl hi) (x.ev st.sl):=by
 simp only [stepOp,simpleV,evO_eq]
 generalize x.ev st.sl=p
 cases p with
 | slc m cs =>
   simp only [kSl]
   split
   ·cases sliceBnd m (evO st.sl lo) (evO st.sl hi)<;>rfl
   ·rfl
 | bsl b o m=>simp only [kSl];cases sliceBnd m (evO st.sl lo) (evO st.sl hi)<;>rfl
 | _=>rfl
theorem kSl_s {size m:Nat} {cs:List PV} {lo hi:Option PV}:kSl st d size lo hi (.slc m cs)=if cs.length=m * size∧0<size then kCutS st d size m cs (sliceBnd m lo hi) else none:=rfl
theorem kSl_b {size b o m:Nat} {lo hi:Option PV}:kSl st d size lo hi (.bsl b o m)=kCutB st d size b o (sliceBnd m lo hi):=rfl
theorem kCutS_s {size m l h:Nat} {cs:List PV}:kCutS st d size m cs (some (l,h))=some (st.put d (.slc (h - l) ((cs.take (h * size)).drop (l * size)))):=rfl
theorem kCutB_s {size b o l h:Nat}:kCutB st d size b o (some (l,h))=some (st.put d (.bsl b (o+l * size) (h - l))):=rfl
def kSlP (st:St) (d len size:Nat) (lo hi:Option PV):PV→Option St
 | .ptr b o=>kCutB st d size b o (sliceBnd len lo hi)
 | _=>none
theorem so_sliceP {len size:Nat} {x:X} {lo hi:Option X}:stepOp cf st (some d) (.sliceP len size x lo hi)=kSlP st d len size (evO st.sl lo) (evO st.sl hi) (x.ev st.sl):=by
 simp only [stepOp,simpleV,evO_eq]
 generalize x.ev st.sl=p
 cases p with
 | ptr b o=>simp only [kSlP];cases sliceBnd len (evO st.sl lo) (evO st.sl hi)<;>rfl
 | _=>rfl
theorem kSlP_p {len size b o:Nat} {lo hi:Option PV}:kSlP st d len size lo hi (.ptr b o)=kCutB st d size b o (sliceBnd len lo hi):=rfl
def kExt (st:St) (d i:Nat):PV→Option St
 | .tup vs=>kPut st d (vs[i]?)
 | _=>none
theorem so_ext {x:X} {i:Nat}:stepOp cf st (some d) (.ext x i)=kExt st d i (x.ev st.sl):=by
 simp only [stepOp,simpleV]
 generalize x.ev st.sl=p
 cases p with
 | tup vs=>simp only [kExt,map_putD]
 | _=>rfl
theorem kExt_t {i:Nat} {vs:List PV}:kExt st d i (.tup vs)=kPut st d (vs[i]?):=rfl
def kLen (st:St) (d:Nat):PV→Option St
 | .slc m _=>some (st.put d (.flat (.int .i64 m)))
 | .bsl _ _ m=>some (st.put d (.flat (.int .i64 m)))
 | .flat (.slice none 0 0)=>some (st.put d (.flat (.int .i64 0)))
 | _=>none
theorem so_len {x:X}:stepOp cf st (some d) (.len x)=kLen st d (x.ev st.sl):=by
 simp only [stepOp,simpleV]
 unfold kLen
 generalize x.ev st.sl=p
 split<;>first | rfl | (split<;>first | rfl | simp_all)
theorem kLen_n:kLen st d (.flat (.slice none 0 0))=some (st.put d (.flat (.int .i64 0))):=rfl
theorem kLen_s {m:Nat} {cs:List PV}:kLen st d (.slc m cs)=some (st.put d (.flat (.int .i64 m))):=rfl
theorem kLen_b {b o m:Nat}:kLen st d (.bsl b o m)=some (st.put d (.flat (.int .i64 m))):=rfl
def kLenS (st:St) (d:Nat):PV→Option St
 | .flat (.string s)=>some (st.put d (.flat (.int .i64 s.size)))
 | _=>none
theorem so_lenS {x:X}:stepOp cf st (some d) (.lenS x)=kLenS st d (x.ev st.sl):=by
 simp only [stepOp,simpleV]
 unfold kLenS
 generalize x.ev st.sl=p
 cases p with
 | flat v=>cases v<;>first | rfl | (dsimp only;split<;>rfl) | (dsimp only [map_putD,map_put];rw [map_putD])
 | _=>first | rfl | (dsimp only;split<;>rfl) | (dsimp only;rw [map_putD])
theorem kLenS_s {s:ByteArray}:kLenS st d (.flat (.string s))=some (st.put d (.flat (.int .i64 s.size))):=rfl
def kMvS (st:St) (d:Nat):PV→Option St
 | .flat (.string s)=>some (st.put d (.flat (.string s)))
 | _=>none
theorem so_mvS {x:X}:stepOp cf st (some d) (.mvS x)=kMvS st d (x.ev st.sl):=by
 simp only [stepOp,simpleV]
 unfold kMvS
 generalize x.ev st.sl=p
 cases p with
 | flat v=>cases v<;>first | rfl | (dsimp only;split<;>rfl) | (dsimp only [map_putD,map_put];rw [map_putD])
 | _=>first | rfl | (dsimp only;split<;>rfl) | (dsimp only;rw [map_putD])
theorem kMvS_s {s:ByteArray}:kMvS st d (.flat (.string s))=some (st.put d (.flat (.string s))):=rfl
def kMm (st:St) (d:Nat) (mx:Bool):PV→PV→Option St
 | .flat (.int k a),.flat (.int k' b)=>if k=k' then some (st.put d (.flat (.int k (if mx then (if b > a then b else a) else (if b<a then b else a))))) else none
 | _,_=>none
theorem so_mm {mx:Bool} {x y:X}:stepOp cf st (some d) (.mm mx x y)=kMm st d mx (x.ev st.sl) (y.ev st.sl):=by
 simp only [stepOp,simpleV]
 unfold kMm
 generalize x.ev st.sl=p
 generalize y.ev st.sl=q
 cases p with
 | flat v =>
   cases q with
   | flat u=>cases v<;>cases u<;>first | rfl | (dsimp only;split<;>rfl)
   | _=>cases v<;>rfl
 | _ =>
   cases q with
   | flat u=>cases u<;>first | rfl | (dsimp only;split<;>rfl)
   | _=>rfl
theorem kMm_i {mx:Bool} {k k':IntKind} {a b:Int}:kMm st d mx (.flat (.int k a)) (.flat (.int k' b))=if k=k' then some (st.put d (.flat (.int k (if mx then (if b > a then b else a) else (if b<a then b else a))))) else none:=rfl
theorem so_clos {f:FuncId} {cs:List X}:stepOp cf st (some d) (.clos f cs)=some (st.put d (.clo f (evL st.sl cs))):=by
 simp only [stepOp,simpleV,evL_eq];rfl
def originL (ow:List Loc) (al:List (Nat × Loc)) (t:Nat):Option Loc:=if owns ow (.slot t) then some (.slot t) else alOf t al
where alOf (t:Nat):List (Nat × Loc)→Option Loc
 | []=>none
 | (u,L)::r=>if u=t then some L else alOf t r
theorem alOf_nil {t:Nat}:originL.alOf t []=none:=rfl
theorem alOf_cons {t u:Nat} {L:Loc} {r:List (Nat × Loc)}:originL.alOf t ((u,L)::r)=if u=t then some L else originL.alOf t r:=rfl
theorem alOf_eq {t:Nat}:∀ l:List (Nat × Loc),(l.find? fun p=>p.1 == t).map (·.2)=originL.alOf t l
 | []=>rfl
 | (u,L)::r=>by
   rw [alOf_cons,← alOf_eq r,List.find?_cons]
   by_cases h:u=t
   ·subst h;simp
   ·have:(u == t)=false:=by simpa using h
    simp only [this,h,if_false]
theorem originL_eq {t:Nat}:originL ow al t=if owns ow (.slot t) then some (.slot t) else originL.alOf t al:=rfl
theorem origin_eq {t:Nat}:origin st t=originL st.ow st.al t:=by
 unfold origin originL
 rw [alOf_eq]
 by_cases h:Loc.slot t∈st.ow
 ·rw [if_pos h,if_pos (owns_mem.2 h)]
 ·rw [if_neg h,if_neg (fun k=>h (owns_mem.1 k))]
def dropL (L:Loc) (l:List Loc):List Loc:=l.filter (·≠L)
theorem dropL_nil {L:Loc}:dropL L []=[]:=rfl
theorem dropL_ss {i j:Nat} {r:List Loc}:dropL (.slot i) (.slot j::r)=if j=i then dropL (.slot i) r else .slot j::dropL (.slot i) r:=by
 by_cases h:j=i<;>simp [dropL,h]
theorem dropL_sc {i b o:Nat} {r:List Loc}:dropL (.slot i) (.cell b o::r)=.cell b o::dropL (.slot i) r:=by simp [dropL]
theorem dropL_cs {i b o:Nat} {r:List Loc}:dropL (.cell b o) (.slot i::r)=.slot i::dropL (.cell b o) r:=by simp [dropL]
theorem dropL_cc {b o b' o':Nat} {r:List Loc}:dropL (.cell b o) (.cell b' o'::r)=if b'=b∧o'=o then dropL (.cell b o) r else .cell b' o'::dropL (.cell b o) r:=by
 by_cases h1:b'=b<;>by_cases h2:o'=o<;>simp [dropL,h1,h2]
def dropLA (L:Loc) (l:List (Nat × Loc)):List (Nat × Loc):=l.filter fun p=>p.2≠L
def kLoadMv (st:St) (d b o:Nat):Bool→Option PV→Option St
 | true,some v=>some ⟨(d,v)::st.sl,.slot d::dropL (.cell b o) (dropSlot d st.ow),[],st.bx⟩
 | _,_=>none
def kLoadM (st:St) (d:Nat):PV→Option St
 | .ptr b o=>kLoadMv st d b o (owns st.ow (.cell b o)) (readQ false 1 o (boxAt st.bx b))
 | _=>none
theorem so_loadM {a:X}:stepOp cf st (some d) (.loadM a)=kLoadM st d (a.ev st.sl):=by
 simp only [stepOp,Option.bind_some]
 generalize a.ev st.sl=p
 cases p with
 | ptr b o =>
   simp only [kLoadM]
   have ho:owns st.ow (.cell b o)=decide (.cell b o∈st.ow):=by
    by_cases h:Loc.cell b o∈st.ow
    ·rw [owns_mem.2 h];simp [h]
    ·have:owns st.ow (.cell b o)=false:=by cases hh:owns st.ow (.cell b o) with | false=>rfl | true=>exact absurd (owns_mem.1 hh) h
     rw [this];simp [h]
   rw [ho]
   cases h:boxAt st.bx b with
   | none=>by_cases hm:Loc.cell b o∈st.ow<;>simp [hm,kLoadMv,readQ]
   | some q =>
     obtain ⟨e,cs⟩:=q
     simp only [Option.bind_some,readQ_f]
     have hr:(if o+1≤cs.length then cs[o]? else none)=cs[o]? :=by
      by_cases hl:o+1≤cs.length
      ·rw [if_pos hl]
      ·rw [if_neg hl,List.getElem?_eq_none (by omega)]
     rw [hr]
     cases h2:cs[o]? with
     | none=>by_cases hm:Loc.cell b o∈st.ow<;>simp [hm,kLoadMv]
     | some v =>
       by_cases hm:Loc.cell b o∈st.ow
       ·simp only [hm,Option.bind_some,if_true,decide_true,kLoadMv,dropL];rfl
       ·simp [hm,kLoadMv]
 | _=>rfl
theorem kLoadM_p {b o:Nat}:kLoadM st d (.ptr b o)=kLoadMv st d b o (owns st.ow (.cell b o)) (readQ false 1 o (boxAt st.bx b)):=rfl
theorem kLoadMv_t {b o:Nat} {v:PV}:kLoadMv st d b o true (some v)=some ⟨(d,v)::st.sl,.slot d::dropL (.cell b o) (dropSlot d st.ow),[],st.bx⟩:=rfl
theorem dropLA_nil {L:Loc}:dropLA L []=[]:=rfl
theorem dropLA_cons {L K:Loc} {t:Nat} {r:List (Nat × Loc)}:dropLA L ((t,K)::r)=if K=L then dropLA L r else (t,K)::dropLA L r:=by
 by_cases h:K=L<;>simp [dropLA,h]
def kApp (st:St) (d:Nat) (byte:Bool) (size:Nat) (L:Loc):Option PV→PV→Option St
 | some (.slc m cs),.slc m' ds=>if m+m'≤bound∧cs.length=m * size∧ds.length=m' * size∧owns st.ow L=true∧tyOk byte size cs ds=true then
  some ⟨(d,.slc (m+m') (cs++ds))::st.sl,.slot d::dropSlot d (dropL L st.ow),dropAl d (dropLA L st.al),st.bx⟩ else none
 | _,_=>none
def kAppO (st:St) (d:Nat) (byte:Bool) (size:Nat) (y:PV):Option Loc→Option St
 | some L=>kApp st d byte size L (pvAt st L) y
 | none=>none
def kApp0 (st:St) (d:Nat) (byte:Bool) (size:Nat):PV→Option St
 | .slc m ds=>if m≤bound∧ds.length=m * size∧tyOk byte size [] ds=true then (if m=0 then some (st.put d (.flat (.slice none 0 0))) else some (st.putOwn d (.slc m ds))) else none
 | _=>none
theorem kApp0_s {byte:Bool} {size m:Nat} {ds:List PV}:kApp0 st d byte size (.slc m ds)=if m≤bound∧ds.length=m * size∧tyOk byte size [] ds=true then (if m=0 then some (st.put d (.flat (.slice none 0 0))) else some (st.putOwn d (.slc m ds))) else none:=rfl
theorem so_append {byte:Bool} {size:Nat} {x y:X}:stepOp cf st (some d) (.append byte size x y)=if isNilS (x.ev st.sl) then kApp0 st d byte size (y.ev st.sl).weak else (match x with | .t s=>kAppO st d byte size (y.ev st.sl).weak (originL st.ow st.al s) | .c _=>none):=by
 simp only [stepOp]
 split
 ·generalize (y.ev st.sl).weak=q
  cases q with
  | slc m ds =>
    simp only [kApp0]
    split
    ·rw [Option.map_some];split<;>rfl
    ·rfl
  | _=>rfl
 ·cases x with
  | c v=>rfl
  | t s =>
    simp only [origin_eq]
    cases originL st.ow st.al s with
    | none=>rfl
    | some L =>
      simp only [Option.bind_some,kAppO]
      generalize pvAt st L=p
      generalize (y.ev st.sl).weak=q
      cases p with
      | none=>cases q<;>rfl
      | some p =>
        cases p with
        | slc m cs =>
          cases q with
          | slc m' ds=>simp only [kApp,owns_mem];rfl
          | _=>rfl
        | _=>cases q<;>rfl
theorem so_appT {byte:Bool} {size s:Nat} {y:X}:stepOp cf st (some d) (.append byte size (.t s) y)=if isNilS (look st.sl s) then kApp0 st d byte size (y.ev st.sl).weak else kAppO st d byte size (y.ev st.sl).weak (originL st.ow st.al s):=so_append
theorem so_appC {byte:Bool} {size:Nat} {v:PV} {y:X}:stepOp cf st (some d) (.append byte size (.c v) y)=if isNilS v then kApp0 st d byte size (y.ev st.sl).weak else none:=so_append
theorem kAppO_s {byte:Bool} {size:Nat} {y:PV} {L:Loc}:kAppO st d byte size y (some L)=kApp st d byte size L (pvAt st L) y:=rfl
theorem kApp_s {byte:Bool} {size m m':Nat} {L:Loc} {cs ds:List PV}:kApp ⟨sl,ow,al,bx⟩ d byte size L (some (.slc m cs)) (.slc m' ds)=if m+m'≤bound∧cs.length=m * size∧ds.length=m' * size∧owns ow L=true∧tyOk byte size cs ds=true then some ⟨(d,.slc (m+m') (cs++ds))::sl,.slot d::dropSlot d (dropL L ow),dropAl d (dropLA L al),bx⟩ else none:=rfl
theorem pvAt_s {i:Nat}:pvAt ⟨sl,ow,al,bx⟩ (.slot i)=some (look sl i):=rfl
def kCell (o:Nat):Option (Nat × List PV)→Option PV
 | some (_,cs)=>cs[o]?
 | none=>none
theorem pvAt_c {b o:Nat}:pvAt ⟨sl,ow,al,bx⟩ (.cell b o)=kCell o (bx[b]?):=by
 simp only [pvAt];cases bx[b]? <;>rfl
theorem kCell_s {o e:Nat} {cs:List PV}:kCell o (some (e,cs))=cs[o]? :=rfl
def kApS (st:St) (d:Nat) (L:Loc):Option PV→PV→Option St
 | some (.slc m cs),.flat (.string z)=>if m+z.size≤bound∧cs.length=m∧owns st.ow L=true∧allU8 cs=true then
  some ⟨(d,.slc (m+z.size) (cs++byteCs z))::st.sl,.slot d::dropSlot d (dropL L st.ow),dropAl d (dropLA L st.al),st.bx⟩ else none
 | _,_=>none
def kApSO (st:St) (d:Nat) (y:PV):Option Loc→Option St
 | some L=>kApS st d L (pvAt st L) y
 | none=>none
def kApS0 (st:St) (d:Nat):PV→Option St
 | .flat (.string z)=>if z.size≤bound then (if z.size=0 then some (st.put d (.flat (.slice none 0 0))) else some (st.putOwn d (.slc z.size (byteCs z)))) else none
 | _=>none
theorem kApS0_s {z:ByteArray}:kApS0 st d (.flat (.string z))=if z.size≤bound then (if z.size=0 then some (st.put d (.flat (.slice none 0 0))) else some (st.putOwn d (.slc z.size (byteCs z)))) else none:=rfl
theorem so_appendS {x y:X}:stepOp cf st (some d) (.appendS x y)=if isNilS (x.ev st.sl) then kApS0 st d (y.ev st.sl) else (match x with | .t s=>kApSO st d (y.ev st.sl) (originL st.ow st.al s) | .c _=>none):=by
 simp only [stepOp]
 split
 ·generalize y.ev st.sl=q
  split
  ·rw [kApS0_s]
   split
   ·rw [Option.map_some];split<;>rfl
   ·rfl
  ·unfold kApS0
   split<;>first | rfl | simp_all
 ·cases x with
  | c v=>rfl
  | t s =>
    simp only [origin_eq]
    cases originL st.ow st.al s with
    | none=>rfl
    | some L =>
      simp only [Option.bind_some,kApSO]
      generalize pvAt st L=p
      generalize y.ev st.sl=q
      cases p with
      | none=>cases q<;>rfl
      | some p =>
        cases p with
        | slc m cs =>
          cases q with
          | flat v=>cases v<;>first | rfl | (simp only [kApS,owns_mem];rfl)
          | _=>rfl
        | _=>cases q<;>rfl
theorem so_apsT {s:Nat} {y:X}:stepOp cf st (some d) (.appendS (.t s) y)=if isNilS (look st.sl s) then kApS0 st d (y.ev st.sl) else kApSO st d (y.ev st.sl) (originL st.ow st.al s):=so_appendS
theorem so_apsC {v:PV} {y:X}:stepOp cf st (some d) (.appendS (.c v) y)=if isNilS v then kApS0 st d (y.ev st.sl) else none:=so_appendS
theorem kApSO_s {y:PV} {L:Loc}:kApSO st d y (some L)=kApS st d L (pvAt st L) y:=rfl
theorem kApS_s {m:Nat} {L:Loc} {cs:List PV} {z:ByteArray}:kApS ⟨sl,ow,al,bx⟩ d L (some (.slc m cs)) (.flat (.string z))=if m+z.size≤bound∧cs.length=m∧owns ow L=true∧allU8 cs=true then some ⟨(d,.slc (m+z.size) (cs++byteCs z))::sl,.slot d::dropSlot d (dropL L ow),dropAl d (dropLA L al),bx⟩ else none:=rfl
def kRes (st:St):Option Nat→List PV→Bool→St
 | none,_,_=>st
 | some d,vs,true=>st.putOwn d (tupOf vs)
 | some d,vs,false=>st.put d (tupOf vs)
theorem kRes_n {vs:List PV} {os:Bool}:kRes st none vs os=st:=rfl
theorem kRes_t {vs:List PV}:kRes st (some d) vs true=st.putOwn d (tupOf vs):=rfl
theorem kRes_f {vs:List PV}:kRes st (some d) vs false=st.put d (tupOf vs):=rfl
def dropCs (al:List (Nat × Loc)):List (Nat × Loc):=al.filter fun p=>!isCell p.2
theorem dropCs_nil:dropCs []=[]:=rfl
theorem dropCs_s {t i:Nat} {r:List (Nat × Loc)}:dropCs ((t,.slot i)::r)=(t,.slot i)::dropCs r:=by simp [dropCs,isCell]
theorem dropCs_c {t b o:Nat} {r:List (Nat × Loc)}:dropCs ((t,.cell b o)::r)=dropCs r:=by simp [dropCs,isCell]
def kCallB (st:St) (dst:Option Nat):Option Ans→Option St
 | some (vs,os,bx,oc)=>some (kRes ⟨st.sl,cellsO oc++slotsO st.ow,dropCs st.al,bx⟩ dst vs os)
 | none=>none
theorem callBx_eq {dst:Option Nat} {f:FuncId} {args:List PV}:callBx cf ⟨sl,ow,al,bx⟩ dst f args=kCallB ⟨sl,ow,al,bx⟩ dst (cf f args bx (cellsO ow)):=by
 simp only [callBx,cellsO_eq]
 cases cf f args bx (cellsO ow) with
 | none=>rfl
 | some r =>
   obtain ⟨vs,os,bx',oc⟩:=r
   simp only [Option.map_some,kCallB,slotsO_eq,dropCs]
   cases dst with
   | none=>rfl
   | some d=>cases os<;>rfl
theorem kCallB_s {dst:Option Nat} {vs:List PV} {os:Bool} {bx':Boxes} {oc:List Loc}:kCallB ⟨sl,ow,al,bx⟩ dst (some (vs,os,bx',oc))=some (kRes ⟨sl,cellsO oc++slotsO ow,dropCs al,bx'⟩ dst vs os):=rfl
def kCallP (cf:Callee) (st:St) (dst:Option Nat) (f:FuncId) (args:List PV):Option Ans→Option St
 | some (vs,os,_,_)=>if noPtrs vs then some (kRes st dst vs os) else callBx cf st dst f args
 | none=>none
def kCall (cf:Callee) (st:St) (dst:Option Nat) (f:FuncId) (args:List PV):Bool→Option St
 | true=>kCallP cf st dst f args (cf f args [] [])
 | false=>callBx cf st dst f args
theorem callSt_eq {dst:Option Nat} {f:FuncId} {args:List PV}:callSt cf st dst f args=kCall cf st dst f args (noPtrs args):=by
 unfold callSt
 cases noPtrs args with
 | false=>rfl
 | true =>
   simp only [if_true,kCall]
   cases cf f args [] [] with
   | none=>rfl
   | some r =>
     obtain ⟨vs,os,bx',oc⟩:=r
     simp only [Option.bind_some,kCallP]
     split
     ·cases dst with
      | none=>rfl
      | some d=>cases os<;>rfl
     ·rfl
theorem kCall_t {dst:Option Nat} {f:FuncId} {args:List PV}:kCall cf st dst f args true=kCallP cf st dst f args (cf f args [] []):=rfl
theorem kCall_f {dst:Option Nat} {f:FuncId} {args:List PV}:kCall cf st dst f args false=callBx cf st dst f args:=rfl
theorem kCallP_s {dst:Option Nat} {f:FuncId} {args vs:List PV} {os:Bool} {bx':Boxes} {oc:List Loc}:kCallP cf st dst f args (some (vs,os,bx',oc))=if noPtrs vs then some (kRes st dst vs os) else callBx cf st dst f args:=rfl
theorem so_call {dst:Option Nat} {f:FuncId} {args:List X}:stepOp cf st dst (.call f args)=callSt cf st dst f (evA st.sl args):=by
 simp only [stepOp,evA_eq]
def kCallV (cf:Callee) (st:St) (dst:Option Nat) (args:List PV):PV→Option St
 | .clo f caps=>if f=yldF then none else callSt cf st dst f (args++caps)
 | .yld b=>callBx cf st dst yldF (.yld b::args)
 | _=>none
theorem so_callv {dst:Option Nat} {g:X} {args:List X}:stepOp cf st dst (.callv g args)=kCallV cf st dst (evA st.sl args) (g.ev st.sl):=by
 simp only [stepOp,evA_eq]
 generalize g.ev st.sl=p
 cases p<;>rfl
theorem kCallV_c {dst:Option Nat} {args caps:List PV} {f:FuncId}:kCallV cf st dst args (.clo f caps)=if f=yldF then none else callSt cf st dst f (args++caps):=rfl
theorem kCallV_y {dst:Option Nat} {args:List PV} {b:Nat}:kCallV cf st dst args (.yld b)=callBx cf st dst yldF (.yld b::args):=rfl
theorem sg_n {dst:Option Nat} {op:COp}:stepG cf st ⟨dst,none,op⟩=stepOp cf st dst op:=rfl
def kGuard (cf:Callee) (st:St) (dst:Option Nat) (op:COp) (want:Bool):PV→Option St
 | .flat (.bool b)=>if b=want then stepOp cf st dst op else some (st.putD dst (.tup []))
 | .tup []=>some (st.putD dst (.tup []))
 | _=>none
theorem sg_s {dst:Option Nat} {op:COp} {s:Nat} {want:Bool}:stepG cf st ⟨dst,some (s,want),op⟩=kGuard cf st dst op want (look st.sl s):=by
 simp only [stepG,guardOk]
 generalize look st.sl s=p
 cases p with
 | flat v=>cases v<;>first | rfl | (rename_i b;cases b<;>cases want<;>rfl)
 | tup l=>cases l<;>rfl
 | _=>rfl
theorem kGuard_b {dst:Option Nat} {op:COp} {b want:Bool}:kGuard cf st dst op want (.flat (.bool b))=if b=want then stepOp cf st dst op else some (st.putD dst (.tup [])):=rfl
theorem kGuard_t {dst:Option Nat} {op:COp} {want:Bool}:kGuard cf st dst op want (.tup [])=some (st.putD dst (.tup [])):=rfl
def kOps (cf:Callee) (r:List COper):Option St→Option St
 | some st=>evOps cf r st
 | none=>none
theorem ops_nil:evOps cf [] st=some st:=rfl
theorem ops_cons {o:COper} {r:List COper}:evOps cf (o::r) st=kOps cf r (stepG cf st o):=by
 simp only [evOps];cases stepG cf st o<;>rfl
theorem kOps_s {r:List COper}:kOps cf r (some st)=evOps cf r st:=rfl
def kPre (cf:Callee) (r:List COper):Option St→Option St
 | some st=>evPre cf r st
 | none=>none
theorem pre_nil:evPre cf [] st=some st:=rfl
theorem pre_cons {o:COper} {r:List COper}:evPre cf (o::r) st=kPre cf r (stepP cf st o):=by
 simp only [evPre];cases stepP cf st o<;>rfl
theorem kPre_s {r:List COper}:kPre cf r (some st)=evPre cf r st:=rfl
def kDyn (cf:Callee) (st:St) (dst:Option Nat) (op:COp):Bool→Option St
 | true=>stepOp cf st dst op
 | false=>none
theorem kDyn_t {dst:Option Nat} {op:COp}:kDyn cf st dst op true=stepOp cf st dst op:=rfl
theorem sp_n {dst:Option Nat} {op:COp}:stepP cf st ⟨dst,none,op⟩=kDyn cf st dst op (preDyn cf st.sl op):=by
 simp only [stepP,guardOk,Option.bind_some,if_true]
 cases preDyn cf st.sl op<;>rfl
def kGuardP (cf:Callee) (st:St) (dst:Option Nat) (op:COp) (want:Bool):PV→Option St
 | .flat (.bool b)=>if b=want then kDyn cf st dst op (preDyn cf st.sl op) else some (st.putD dst (.tup []))
 | .tup []=>some (st.putD dst (.tup []))
 | _=>none
theorem sp_s {dst:Option Nat} {op:COp} {s:Nat} {want:Bool}:stepP cf st ⟨dst,some (s,want),op⟩=kGuardP cf st dst op want (look st.sl s):=by
 simp only [stepP,guardOk]
 generalize look st.sl s=p
 cases p with
 | flat v =>
   cases v<;>first | rfl | skip
   rename_i b
   cases b<;>cases want<;>first | rfl | (simp only [kGuardP,Option.bind_some,BEq.rfl,if_true];cases preDyn cf st.sl op<;>rfl)
 | tup l=>cases l<;>rfl
 | _=>rfl
theorem kGuardP_b {dst:Option Nat} {op:COp} {b want:Bool}:kGuardP cf st dst op want (.flat (.bool b))=if b=want then kDyn cf st dst op (preDyn cf st.sl op) else some (st.putD dst (.tup [])):=rfl
theorem kGuardP_t {dst:Option Nat} {op:COp} {want:Bool}:kGuardP cf st dst op want (.tup [])=some (st.putD dst (.tup [])):=rfl
theorem pd_mv {x:X}:preDyn cf sl (.mv x)=true:=rfl
theorem pd_mvA {s:Nat}:preDyn cf sl (.mvA s)=true:=rfl
theorem pd_asg {x:X}:preDyn cf sl (.asg x)=true:=rfl
theorem pd_pick {a b c:X}:preDyn cf sl (.pick a b c)=true:=rfl
theorem pd_bin {o:BinOp} {x y:X}:preDyn cf sl (.bin o x y)=true:=rfl
theorem pd_eqS {b:Bool} {ks:List LK} {x y:X}:preDyn cf sl (.eqS b ks x y)=true:=rfl
theorem pd_beq {b:Bool} {x y:X}:preDyn cf sl (.beq b x y)=true:=rfl
theorem pd_mvS {x:X}:preDyn cf sl (.mvS x)=true:=rfl
theorem pd_nilc {x:X}:preDyn cf sl (.nilc x)=true:=rfl
theorem pd_un {o:UnOp} {x:X}:preDyn cf sl (.un o x)=true:=rfl
theorem pd_conv {k:IntKind} {x:X}:preDyn cf sl (.conv k x)=true:=rfl
theorem pd_b2s {x:X}:preDyn cf sl (.b2s x)=true:=rfl
theorem pd_build {zs:List PV} {ps:List (Nat × Nat × X)}:preDyn cf sl (.build zs ps)=true:=rfl
theorem pd_mksl {b:Bool} {m k:Nat} {zs:List PV} {ps:List (Nat × Nat × X)}:preDyn cf sl (.mksl b m k zs ps)=true:=rfl
theorem pd_load {g:Bool} {m:Nat} {a:X}:preDyn cf sl (.load g m a)=true:=rfl
theorem pd_loadA {a:X}:preDyn cf sl (.loadA a)=true:=rfl
theorem pd_fadr {o:Nat} {a:X}:preDyn cf sl (.fadr o a)=true:=rfl
theorem pd_fld {g:Bool} {o m:Nat} {a:X}:preDyn cf sl (.fld g o m a)=true:=rfl
theorem pd_iadr {m:Nat} {x i:X}:preDyn cf sl (.iadr m x i)=true:=rfl
theorem pd_idx {x i:X}:preDyn cf sl (.idx x i)=true:=rfl
theorem pd_idxA {g:Bool} {m k:Nat} {x i:X}:preDyn cf sl (.idxA g m k x i)=true:=rfl
theorem pd_paddr {m k:Nat} {x i:X}:preDyn cf sl (.paddr m k x i)=true:=rfl
theorem pd_sliceP {m k:Nat} {x:X} {lo hi:Option X}:preDyn cf sl (.sliceP m k x lo hi)=true:=rfl
theorem pd_slice {m:Nat} {x:X} {lo hi:Option X}:preDyn cf sl (.slice m x lo hi)=true:=rfl
theorem pd_sliceS {x:X} {lo hi:Option X}:preDyn cf sl (.sliceS x lo hi)=true:=rfl
theorem pd_ext {x:X} {i:Nat}:preDyn cf sl (.ext x i)=true:=rfl
theorem pd_len {x:X}:preDyn cf sl (.len x)=true:=rfl
theorem pd_lenS {x:X}:preDyn cf sl (.lenS x)=true:=rfl
theorem pd_mm {b:Bool} {x y:X}:preDyn cf sl (.mm b x y)=true:=rfl
theorem pd_clos {f:FuncId} {cs:List X}:preDyn cf sl (.clos f cs)=true:=rfl
theorem pd_alloc {e:Nat} {zs:List PV}:preDyn cf sl (.alloc e zs)=noNil zs:=rfl
theorem pd_box {e m:Nat} {x:X}:preDyn cf sl (.box e m x)=noNil (x.ev sl).cells:=rfl
theorem pd_call {f:FuncId} {args:List X}:preDyn cf sl (.call f args)=plainCall cf f (evA sl args):=by simp only [preDyn,evA_eq]
theorem pd_callv {g:X} {args:List X}:preDyn cf sl (.callv g args)=match g.ev sl with | .clo f caps=>f != yldF && plainCall cf f (evA sl args++caps) | _=>false:=by
 simp only [preDyn,evA_eq];rfl
def kPlain:Option Ans→Bool
 | some (vs,_)=>noPtrs vs
 | none=>false
theorem plainCall_eq {f:FuncId} {args:List PV}:plainCall cf f args=(noPtrs args && kPlain (cf f args [] [])):=by
 unfold plainCall kPlain
 cases cf f args [] []<;>rfl
theorem kPlain_s {vs:List PV} {r:Bool × Boxes × List Loc}:kPlain (some (vs,r))=noPtrs vs:=rfl
def kReg (live:List Nat):Option St→Option (Out × St)
 | some st=>some (.normal,st.keep live)
 | none=>none
theorem kReg_s:kReg live (some st)=some (.normal,st.keep live):=rfl
def kRegP (cf:Callee) (live:List Nat) (tail:List COper):Option St→Option (Out × St)
 | some st=>kReg live (evOps cf tail st)
 | none=>none
theorem kRegP_s {tail:List COper}:kRegP cf live tail (some st)=kReg live (evOps cf tail st):=rfl
noncomputable def kT (cf:Callee) (live:List Nat) (t:BT):Option St→Option St
 | some st=>evT cf live t st
 | none=>none
theorem kT_s {t:BT}:kT cf live t (some st)=evT cf live t st:=rfl
theorem t_done:evT cf live .done st=some (st.keep live):=rfl
theorem t_one {o:COper} {t:BT}:evT cf live (.one o t) st=kT cf live t (stepG cf st o):=by
 simp only [evT];cases stepG cf st o<;>rfl
theorem t_two {o:COper} {t r:BT}:evT cf live (.two o t r) st=same (kT cf live t (stepG cf st o)) (evT cf live r st):=by
 simp only [evT];cases stepG cf st o<;>rfl
theorem same_s {st:St}:same (some st) (some st)=some st:=if_pos rfl
def kRegT:Option St→Option (Out × St)
 | some st=>some (.normal,st)
 | none=>none
theorem kRegT_s:kRegT (some st)=some (.normal,st):=rfl
theorem q_nil:evQ cf [] st=some st:=rfl
noncomputable def kQ (cf:Callee) (r:List COper):Option St→Option St
 | some st=>evQ cf r st
 | none=>none
theorem kQ_s {r:List COper}:kQ cf r (some st)=evQ cf r st:=rfl
theorem q_cons {o:COper} {r:List COper}:evQ cf (o::r) st=kQ cf r (stepQ cf st o):=by
 simp only [evQ];cases stepQ cf st o<;>rfl
noncomputable def kQc (st:St) (d:Nat):Option St→Option St
 | some s'=>kQd st d s' (s'.bx=st.bx) (s'.ow.filter isCell=st.ow.filter isCell)
 | none=>none
where
 kQd (st:St) (d:Nat) (s':St) (p q:Prop):Option St:=open Classical in if p∧q then some (st.put d (look s'.sl d)) else none
theorem kQc_s {s1:List (Nat × PV)} {o1:List Loc} {a1:List (Nat × Loc)} {b1:Boxes} {d:Nat}:kQc ⟨sl,ow,al,bx⟩ d (some ⟨s1,o1,a1,b1⟩)=kQc.kQd ⟨sl,ow,al,bx⟩ d ⟨s1,o1,a1,b1⟩ (b1=bx) (cellsO o1=cellsO ow):=by
 simp only [kQc,cellsO_eq]
theorem kQd_t {d:Nat} {s1:List (Nat × PV)} {o1:List Loc} {a1:List (Nat × Loc)} {b1:Boxes}:kQc.kQd st d ⟨s1,o1,a1,b1⟩ True True=some (st.put d (look s1 d)):=by
 unfold kQc.kQd;rw [if_pos ⟨trivial,trivial⟩]
theorem sq_call {d:Nat} {g:Option (Nat × Bool)} {f:FuncId} {az:List X}:stepQ cf st ⟨some d,g,.call f az⟩=kQc st d (stepG cf st ⟨some d,g,.call f az⟩):=by
 unfold stepQ
 dsimp only
 cases stepG cf st ⟨some d,g,.call f az⟩ with
 | none=>rfl
 | some s' =>
   rw [Option.bind_some]
   unfold kQc kQc.kQd
   dsimp only
   by_cases h:s'.bx=st.bx∧s'.ow.filter isCell=st.ow.filter isCell
   ·rw [if_pos h,if_pos h]
   ·rw [if_neg h,if_neg h]
theorem sq_mv {d:Option Nat} {g:Option (Nat × Bool)} {x:X}:stepQ cf st ⟨d,g,.mv x⟩=stepG cf st ⟨d,g,.mv x⟩:=by cases d<;>rfl
theorem sq_asg {d:Option Nat} {g:Option (Nat × Bool)} {x:X}:stepQ cf st ⟨d,g,.asg x⟩=stepG cf st ⟨d,g,.asg x⟩:=by cases d<;>rfl
theorem sq_pick {d:Option Nat} {g:Option (Nat × Bool)} {a b c:X}:stepQ cf st ⟨d,g,.pick c a b⟩=stepG cf st ⟨d,g,.pick c a b⟩:=by cases d<;>rfl
theorem sq_bin {d:Option Nat} {g:Option (Nat × Bool)} {o:BinOp} {x y:X}:stepQ cf st ⟨d,g,.bin o x y⟩=stepG cf st ⟨d,g,.bin o x y⟩:=by cases d<;>rfl
theorem sq_eqS {d:Option Nat} {g:Option (Nat × Bool)} {b:Bool} {ks:List LK} {x y:X}:stepQ cf st ⟨d,g,.eqS b ks x y⟩=stepG cf st ⟨d,g,.eqS b ks x y⟩:=by cases d<;>rfl
theorem sq_beq {d:Option Nat} {g:Option (Nat × Bool)} {b:Bool} {x y:X}:stepQ cf st ⟨d,g,.beq b x y⟩=stepG cf st ⟨d,g,.beq b x y⟩:=by cases d<;>rfl
theorem sq_mvS {d:Option Nat} {g:Option (Nat × Bool)} {x:X}:stepQ cf st ⟨d,g,.mvS x⟩=stepG cf st ⟨d,g,.mvS x⟩:=by cases d<;>rfl
theorem sq_nilc {d:Option Nat} {g:Option (Nat × Bool)} {x:X}:stepQ cf st ⟨d,g,.nilc x⟩=stepG cf st ⟨d,g,.nilc x⟩:=by cases d<;>rfl
theorem sq_un {d:Option Nat} {g:Option (Nat × Bool)} {o:UnOp} {x:X}:stepQ cf st ⟨d,g,.un o x⟩=stepG cf st ⟨d,g,.un o x⟩:=by cases d<;>rfl
theorem sq_conv {d:Option Nat} {g:Option (Nat × Bool)} {k:IntKind} {x:X}:stepQ cf st ⟨d,g,.conv k x⟩=stepG cf st ⟨d,g,.conv k x⟩:=by cases d<;>rfl
theorem sq_build {d:Option Nat} {g:Option (Nat × Bool)} {zs:List PV} {ps:List (Nat × Nat × X)}:stepQ cf st ⟨d,g,.build zs ps⟩=stepG cf st ⟨d,g,.build zs ps⟩:=by cases d<;>rfl
theorem sq_load {d:Option Nat} {g:Option (Nat × Bool)} {b:Bool} {m:Nat} {x:X}:stepQ cf st ⟨d,g,.load b m x⟩=stepG cf st ⟨d,g,.load b m x⟩:=by cases d<;>rfl
theorem sq_fadr {d:Option Nat} {g:Option (Nat × Bool)} {o:Nat} {x:X}:stepQ cf st ⟨d,g,.fadr o x⟩=stepG cf st ⟨d,g,.fadr o x⟩:=by cases d<;>rfl
theorem sq_fld {d:Option Nat} {g:Option (Nat × Bool)} {b:Bool} {o m:Nat} {x:X}:stepQ cf st ⟨d,g,.fld b o m x⟩=stepG cf st ⟨d,g,.fld b o m x⟩:=by cases d<;>rfl
theorem sq_iadr {d:Option Nat} {g:Option (Nat × Bool)} {m:Nat} {x i:X}:stepQ cf st ⟨d,g,.iadr m x i⟩=stepG cf st ⟨d,g,.iadr m x i⟩:=by cases d<;>rfl
theorem sq_idx {d:Option Nat} {g:Option (Nat × Bool)} {x i:X}:stepQ cf st ⟨d,g,.idx x i⟩=stepG cf st ⟨d,g,.idx x i⟩:=by cases d<;>rfl
theorem sq_idxA {d:Option Nat} {g:Option (Nat × Bool)} {b:Bool} {m k:Nat} {x i:X}:stepQ cf st ⟨d,g,.idxA b m k x i⟩=stepG cf st ⟨d,g,.idxA b m k x i⟩:=by cases d<;>rfl
theorem sq_paddr {d:Option Nat} {g:Option (Nat × Bool)} {m k:Nat} {x i:X}:stepQ cf st ⟨d,g,.paddr m k x i⟩=stepG cf st ⟨d,g,.paddr m k x i⟩:=by cases d<;>rfl
theorem sq_sliceP {d:Option Nat} {g:Option (Nat × Bool)} {m k:Nat} {x:X} {lo hi:Option X}:stepQ cf st ⟨d,g,.sliceP m k x lo hi⟩=stepG cf st ⟨d,g,.sliceP m k x lo hi⟩:=by cases d<;>rfl
theorem sq_slice {d:Option Nat} {g:Option (Nat × Bool)} {m:Nat} {x:X} {lo hi:Option X}:stepQ cf st ⟨d,g,.slice m x lo hi⟩=stepG cf st ⟨d,g,.slice m x lo hi⟩:=by cases d<;>rfl
theorem sq_sliceS {d:Option Nat} {g:Option (Nat × Bool)} {x:X} {lo hi:Option X}:stepQ cf st ⟨d,g,.sliceS x lo hi⟩=stepG cf st ⟨d,g,.sliceS x lo hi⟩:=by cases d<;>rfl
theorem sq_ext {d:Option Nat} {g:Option (Nat × Bool)} {x:X} {i:Nat}:stepQ cf st ⟨d,g,.ext x i⟩=stepG cf st ⟨d,g,.ext x i⟩:=by cases d<;>rfl
theorem sq_len {d:Option Nat} {g:Option (Nat × Bool)} {x:X}:stepQ cf st ⟨d,g,.len x⟩=stepG cf st ⟨d,g,.len x⟩:=by cases d<;>rfl
theorem sq_lenS {d:Option Nat} {g:Option (Nat × Bool)} {x:X}:stepQ cf st ⟨d,g,.lenS x⟩=stepG cf st ⟨d,g,.lenS x⟩:=by cases d<;>rfl
theorem sq_mm {d:Option Nat} {g:Option (Nat × Bool)} {b:Bool} {x y:X}:stepQ cf st ⟨d,g,.mm b x y⟩=stepG cf st ⟨d,g,.mm b x y⟩:=by cases d<;>rfl
theorem sq_clos {d:Option Nat} {g:Option (Nat × Bool)} {f:FuncId} {xs:List X}:stepQ cf st ⟨d,g,.clos f xs⟩=stepG cf st ⟨d,g,.clos f xs⟩:=by cases d<;>rfl
noncomputable def kRegTP (cf:Callee) (live:List Nat) (t:BT):Option St→Option (Out × St)
 | some st=>kRegT (evT cf live t st)
 | none=>none
theorem kRegTP_s {t:BT}:kRegTP cf live t (some st)=kRegT (evT cf live t st):=rfl
theorem c_regT {t:BT}:evC cf n (.regT live [] t) st=kRegT (evT cf live t st):=by
 simp only [evC,evQ,Option.bind_some];cases evT cf live t st<;>rfl
theorem c_regTP {p:COper} {ps:List COper} {t:BT}:evC cf n (.regT live (p::ps) t) st=kRegTP cf live t (evQ cf (p::ps) st):=by
 simp only [evC]
 cases evQ cf (p::ps) st with
 | none=>rfl
 | some s=>simp only [Option.bind_some,kRegTP];cases evT cf live t s<;>rfl
theorem c_skip:evC cf n .skip st=some (.normal,st):=rfl
theorem c_reg {tail:List COper}:evC cf n (.reg live [] tail) st=kReg live (evOps cf tail st):=by
 simp only [evC,evPre,Option.bind_some];cases evOps cf tail st<;>rfl
theorem c_regP {p:COper} {ps tail:List COper}:evC cf n (.reg live (p::ps) tail) st=kRegP cf live tail (evPre cf (p::ps) st):=by
 simp only [evC]
 cases evPre cf (p::ps) st with
 | none=>rfl
 | some s=>simp only [Option.bind_some,kRegP];cases evOps cf tail s<;>rfl
noncomputable def kSeq (cf:Callee) (n:Nat) (b:CCode):Option (Out × St)→Option (Out × St)
 | some (.normal,st)=>evC cf n b st
 | some (.exit i,st)=>some (.exit i,st)
 | some (.ret,st)=>some (.ret,st)
 | none=>none
theorem c_seq {a b:CCode}:evC cf n (.seq a b) st=kSeq cf n b (evC cf n a st):=by
 simp only [evC]
 cases evC cf n a st with
 | none=>rfl
 | some r=>obtain ⟨o,s⟩:=r;cases o<;>rfl
theorem kSeq_n {b:CCode}:kSeq cf n b (some (.normal,st))=evC cf n b st:=rfl
theorem kSeq_e {b:CCode} {i:Nat}:kSeq cf n b (some (.exit i,st))=some (.exit i,st):=rfl
theorem kSeq_r {b:CCode}:kSeq cf n b (some (.ret,st))=some (.ret,st):=rfl
noncomputable def kCond (cf:Callee) (n:Nat) (a b:CCode) (st:St):PV→Option (Out × St)
 | .flat (.bool t)=>if t then evC cf n a st else evC cf n b st
 | _=>none
theorem c_cond {c:X} {a b:CCode}:evC cf n (.cond c a b) st=kCond cf n a b st (c.ev st.sl):=by
 simp only [evC]
 generalize c.ev st.sl=p
 cases p with
 | flat v=>cases v<;>rfl
 | _=>rfl
theorem kCond_b {a b:CCode} {t:Bool}:kCond cf n a b st (.flat (.bool t))=if t then evC cf n a st else evC cf n b st:=rfl
def kBlock (id nb:Nat):Option (Out × St)→Option (Out × St)
 | some (.normal,st)=>some (.normal,st.cutB nb)
 | some (.exit j,st)=>if j=id then some (.normal,st.cutB nb) else some (.exit j,st)
 | some (.ret,st)=>some (.ret,st)
 | none=>none
theorem c_block {id:Nat} {b:CCode}:evC cf n (.block id b) st=kBlock id st.bx.length (evC cf n b st):=by
 simp only [evC]
 cases evC cf n b st with
 | none=>rfl
 | some r =>
   obtain ⟨o,s⟩:=r
   cases o with
   | exit j=>simp only [Option.map_some,kBlock];split<;>rfl
   | _=>rfl
theorem kBlock_n {id nb:Nat}:kBlock id nb (some (.normal,st))=some (.normal,st.cutB nb):=rfl
theorem kBlock_e {id nb j:Nat}:kBlock id nb (some (.exit j,st))=if j=id then some (.normal,st.cutB nb) else some (.exit j,st):=rfl
theorem kBlock_r {id nb:Nat}:kBlock id nb (some (.ret,st))=some (.ret,st):=rfl
theorem c_loop {b:CCode}:evC cf n (.loop live b) st=evLoop (evC cf n b) live st.bx.length n (st.only live st.bx.length):=rfl
theorem c_exit {id:Nat}:evC cf n (.exit id live) st=some (.exit id,st.keep live):=rfl
theorem c_ret:evC cf n (.ret live) st=some (.ret,st.keep live):=rfl
def kOver (b:Nat) (f k:Nat) (live:List Nat) (snap:List PV) (st:St):LpS→Option (Out × St)
 | .ready=>some (.normal,⟨st.sl,st.ow,st.al,st.bx.set b (0,[.lp f k .over live snap])⟩)
 | .done (.exit i)=>some (.exit i,⟨st.sl,st.ow,st.al,st.bx.set b (0,[.lp f k .over live snap])⟩)
 | .done .ret=>some (.ret,⟨st.sl,st.ow,st.al,st.bx.set b (0,[.lp f k .over live snap])⟩)
 | _=>none
theorem kOver_n {b f k:Nat} {snap:List PV}:kOver b f k live snap ⟨sl,ow,al,bx⟩ .ready=some (.normal,⟨sl,ow,al,bx.set b (0,[.lp f k .over live snap])⟩):=rfl
theorem kOver_e {b f k i:Nat} {snap:List PV}:kOver b f k live snap ⟨sl,ow,al,bx⟩ (.done (.exit i))=some (.exit i,⟨sl,ow,al,bx.set b (0,[.lp f k .over live snap])⟩):=rfl
theorem kOver_r {b f k:Nat} {snap:List PV}:kOver b f k live snap ⟨sl,ow,al,bx⟩ (.done .ret)=some (.ret,⟨sl,ow,al,bx.set b (0,[.lp f k .over live snap])⟩):=rfl
def kEnd (b:Nat) (st:St):Option (Nat × List PV)→Option (Out × St)
 | some (_,[.lp f k s live snap])=>kOver b f k live snap st s
 | _=>none
theorem kEnd_s {b e f k:Nat} {s:LpS} {snap:List PV}:kEnd b st (some (e,[.lp f k s live snap]))=kOver b f k live snap st s:=rfl
def kRng (b:Nat):Option St→Option (Out × St)
 | some st=>kEnd b st (st.bx[b]?)
 | none=>none
theorem kRng_s {b:Nat}:kRng b (some ⟨sl,ow,al,bx⟩)=kEnd b ⟨sl,ow,al,bx⟩ (bx[b]?):=rfl
def kRange (cf:Callee) (f k:Nat) (live:List Nat) (st:St):PV→Option (Out × St)
 | .clo h caps=>if h=yldF then none else kRng st.bx.length (callBx cf ⟨st.sl,st.ow,st.al,st.bx++[(0,[.lp f k .ready live (vals (lookL st.sl live))])]⟩ none h (.yld st.bx.length::caps))
 | _=>none
theorem c_range {f k:Nat} {g:X}:evC cf n (.range f k live g) st=kRange cf f k live st (g.ev st.sl):=by
 have h1:live.map (look st.sl)=vals (lookL st.sl live):=by
  rw [← vals_eq,lookL_eq,List.map_map];rfl
 simp only [evC,evRange]
 generalize g.ev st.sl=p
 cases p with
 | clo h caps =>
   simp only [kRange]
   split
   ·rfl
   ·rw [h1]
    cases callBx cf ⟨st.sl,st.ow,st.al,st.bx++[(0,[.lp f k .ready live (vals (lookL st.sl live))])]⟩ none h (.yld st.bx.length::caps) with
    | none=>rfl
    | some s2 =>
      simp only [Option.bind_some,kRng]
      cases s2.bx[st.bx.length]? with
      | none=>rfl
      | some q =>
        obtain ⟨e,cs⟩:=q
        rcases cs with _ | ⟨p,_ | ⟨p2,r⟩⟩
        ·rfl
        ·cases p with
         | lp f' k' s live' snap' =>
           simp only [kEnd]
           cases s with
           | done j=>cases j<;>rfl
           | _=>rfl
         | _=>rfl
        ·cases p<;>rfl
 | _=>rfl
theorem kRange_c {f k:Nat} {h:FuncId} {caps:List PV}:kRange cf f k live ⟨sl,ow,al,bx⟩ (.clo h caps)=if h=yldF then none else kRng bx.length (callBx cf ⟨sl,ow,al,bx++[(0,[.lp f k .ready live (vals (lookL sl live))])]⟩ none h (.yld bx.length::caps)):=rfl
def resL (st:St):List (Sum Nat (Nat × Bool × Nat))→Option (List PV)
 | []=>some []
 | .inl i::r=>(resL st r).map (look st.sl i::·)
 | .inr (i,agg,m)::r=>kResL (match look st.sl i with | .ptr b o=>readQ agg m o (boxAt st.bx b) | _=>none) (resL st r)
where kResL:Option PV→Option (List PV)→Option (List PV)
 | some v,some vs=>some (v::vs)
 | _,_=>none
theorem resL_nil:resL st []=some []:=rfl
theorem resL_l {i:Nat} {r:List (Sum Nat (Nat × Bool × Nat))}:resL st (.inl i::r)=(resL st r).map (look st.sl i::·):=rfl
def kResP (st:St) (agg:Bool) (m:Nat):PV→Option PV
 | .ptr b o=>readQ agg m o (boxAt st.bx b)
 | _=>none
theorem resL_r {i m:Nat} {agg:Bool} {r:List (Sum Nat (Nat × Bool × Nat))}:resL st (.inr (i,agg,m)::r)=resL.kResL (kResP st agg m (look st.sl i)) (resL st r):=by
 simp only [resL];unfold kResP;cases look st.sl i<;>rfl
theorem kResP_p {agg:Bool} {m b o:Nat}:kResP ⟨sl,ow,al,bx⟩ agg m (.ptr b o)=readQ agg m o (boxAt bx b):=rfl
theorem kResL_s {v:PV} {vs:List PV}:resL.kResL (some v) (some vs)=some (v::vs):=rfl
theorem resL_eq:∀ l:List (Sum Nat (Nat × Bool × Nat)),l.mapM (resV st)=resL st l
 | []=>rfl
 | .inl i::r=>by
   rw [List.mapM_cons,resL_eq r,resL_l]
   simp only [resV,Option.pure_def,Option.bind_eq_bind,Option.bind_some]
   cases resL st r<;>rfl
 | .inr (i,agg,m)::r=>by
   rw [List.mapM_cons,resL_eq r,resL_r]
   have h1:resV st (.inr (i,agg,m))=kResP st agg m (look st.sl i):=by
    simp only [resV]
    generalize look st.sl i=p
    cases p with
    | ptr b o =>
      simp only [kResP]
      cases boxAt st.bx b with
      | none=>rfl
      | some q=>obtain ⟨e,cs⟩:=q;cases agg<;>rfl
    | _=>rfl
   rw [h1]
   simp only [Option.pure_def,Option.bind_eq_bind]
   cases kResP st agg m (look st.sl i) with
   | none=>rfl
   | some v=>cases resL st r<;>rfl
def kLeft (res:List (Sum Nat (Nat × Bool × Nat))) (bx:Boxes) (st:St):Option (List PV)→Option Ans
 | some vs=>some (vs,ownB res st.ow,trim bx.length vs st.bx,underO (trim bx.length vs st.bx).length st.ow)
 | none=>none
where ownB:List (Sum Nat (Nat × Bool × Nat))→List Loc→Bool
 | [.inl s],ow=>owns ow (.slot s)
 | _,_=>false
def kFin (res:List (Sum Nat (Nat × Bool × Nat))) (bx:Boxes):Option (Out × St)→Option Ans
 | some (.normal,st)=>kLeft res bx st (resL st res)
 | some (.ret,st)=>kLeft res bx st (resL st res)
 | _=>none
theorem evW_eq {code:FuncId→Option CFun} {lib:Callee} {f:FuncId} {nt:Nat} {res:List (Sum Nat (Nat × Bool × Nat))} {body:CCode} {rngs:List (List Nat × CCode × CCode)} (hk:code f=some ⟨nt,res,body,rngs⟩) {args:List PV} {bx:Boxes} {oc:List Loc} {r:Ans} (hl:args.length≤nt)
 (h:kFin res bx (evC (evW code lib) big body ⟨initSl 0 args,oc,[],bx⟩)=some r):evW code lib f args bx oc=some r:=by
 refine evW_of (n:=big) hk ?_
 unfold evB
 dsimp only
 rw [if_pos hl]
 cases he:evC (evW code lib) big body ⟨initSl 0 args,oc,[],bx⟩ with
 | none=>rw [he] at h;cases h
 | some p =>
   obtain ⟨o,st⟩:=p
   rw [he] at h
   have hown:ownRes res st.ow=kLeft.ownB res st.ow:=by
    have hd:∀ s,decide (Loc.slot s∈st.ow)=owns st.ow (.slot s):=fun s=>by
     cases ho:owns st.ow (.slot s) with
     | true=>simpa using owns_mem.1 ho
     | false=>simp only [decide_eq_false_iff_not];intro hm;rw [owns_mem.2 hm] at ho;cases ho
    clear he h hk
    generalize res=rs
    rcases rs with _ | ⟨q,_ | ⟨q2,rs⟩⟩
    ·rfl
    ·cases q with
     | inl s=>exact hd s
     | inr x=>rfl
    ·cases q<;>rfl
   have fin:kLeft res bx st (resL st res)=some r→(res.mapM (resV st)).map (fun vs=>(vs,ownRes res st.ow,trim bx.length vs st.bx,cellsUpto (trim bx.length vs st.bx).length st.ow))=some r:=fun h=>by
    rw [resL_eq]
    cases hr:resL st res with
    | none=>rw [hr] at h;cases h
    | some vs=>rw [hr] at h;simp only [Option.map_some,hown,underO_eq];exact h
   cases o with
   | exit i=>cases h
   | normal=>exact fin h
   | ret=>exact fin h
theorem kFin_n {res:List (Sum Nat (Nat × Bool × Nat))}:kFin res bx (some (.normal,st))=kLeft res bx st (resL st res):=rfl
theorem kFin_r {res:List (Sum Nat (Nat × Bool × Nat))}:kFin res bx (some (.ret,st))=kLeft res bx st (resL st res):=rfl
theorem kLeft_s {res:List (Sum Nat (Nat × Bool × Nat))} {vs:List PV}:kLeft res bx st (some vs)=some (vs,kLeft.ownB res st.ow,trim bx.length vs st.bx,underO (trim bx.length vs st.bx).length st.ow):=rfl
theorem ownB_1 {s:Nat}:kLeft.ownB [.inl s] ow=owns ow (.slot s):=rfl
theorem ownB_0:kLeft.ownB [] ow=false:=rfl
theorem ownB_r {q:Nat × Bool × Nat} {r:List (Sum Nat (Nat × Bool × Nat))}:kLeft.ownB (.inr q::r) ow=false:=rfl
theorem ownB_2 {a b:Sum Nat (Nat × Bool × Nat)} {r:List (Sum Nat (Nat × Bool × Nat))}:kLeft.ownB (a::b::r) ow=false:=by cases a<;>rfl
def kTurn (nb b:Nat) (f k:Nat) (live:List Nat) (snap:List PV) (o:Out) (ow:List Loc) (bx:Boxes):Option Ans :=
 match o with
 | .normal=>some ([.flat (.bool true)],false,trim nb [] (bx.set b (0,[.lp f k .ready live snap])),underO (trim nb [] (bx.set b (0,[.lp f k .ready live snap]))).length ow)
 | .exit i=>some ([.flat (.bool false)],false,trim nb [] (bx.set b (0,[.lp f k (.done (.exit i)) live snap])),underO (trim nb [] (bx.set b (0,[.lp f k (.done (.exit i)) live snap]))).length ow)
 | .ret=>some ([.flat (.bool false)],false,trim nb [] (bx.set b (0,[.lp f k (.done .ret) live snap])),underO (trim nb [] (bx.set b (0,[.lp f k (.done .ret) live snap]))).length ow)
def kTurnB (nb b:Nat) (o:Out) (st:St):Option (Nat × List PV)→Option Ans
 | some (_,[.lp f k .busy live snap])=>kTurn nb b f k live snap o st.ow st.bx
 | _=>none
def kTurnE (nb b:Nat):Option (Out × St)→Option Ans
 | some (o,st)=>kTurnB nb b o st (st.bx[b]?)
 | none=>none
noncomputable def kTurnG (cf:Callee) (n:Nat) (nb b:Nat) (body:CCode) (st:St):Option (Nat × List PV)→Option Ans
 | some (_,[.lp f k .ready live snap])=>kTurnE nb b (evC cf n body ⟨st.sl,st.ow,st.al,st.bx.set b (0,[.lp f k .busy live snap])⟩)
 | _=>none
noncomputable def kTurnA (cf:Callee) (n:Nat) (nb b:Nat) (body:CCode):Option (Out × St)→Option Ans
 | some (.normal,st)=>kTurnG cf n nb b body st (st.bx[b]?)
 | _=>none
theorem evW_round {code:FuncId→Option CFun} {lib:Callee} (hy:code yldF=none) {f k b e:Nat} {snap:List PV} {c:CFun} {ps:List Nat} {ca cb:CCode} (hc:code f=some c) (hq:c.rngs[k]? =some (ps,ca,cb)) {az:List PV} {bx:Boxes} {oc:List Loc} {r:Ans}
 (hb:bx[b]? =some (e,[.lp f k .ready live snap])) (hl:az.length=ps.length)
 (h:kTurnA (evW code lib) big bx.length b cb (evC (evW code lib) big ca ⟨(ps.zip az).foldl (fun l p=>p::l) (live.zip snap),oc,[],bx⟩)=some r):evW code lib yldF (.yld b::az) bx oc=some r:=by
 refine evW_yld (n:=big) hy ?_
 unfold evYld
 dsimp only
 rw [hb]
 dsimp only
 rw [hc,Option.bind_some,hq,Option.bind_some,if_pos hl]
 dsimp only
 cases he:evC (evW code lib) big ca ⟨(ps.zip az).foldl (fun l p=>p::l) (live.zip snap),oc,[],bx⟩ with
 | none=>rw [he] at h;cases h
 | some p =>
   obtain ⟨o1,s1⟩:=p
   rw [he] at h
   simp only [Option.bind_some]
   cases o1 with
   | exit i=>cases h
   | ret=>cases h
   | normal =>
     simp only [kTurnA] at h
     unfold kTurnG at h
     split at h
     case h_2=>cases h
     rename_i e1 f1 k1 live1 snap1 hb1
     rw [hb1]
     dsimp only
     cases he2:evC (evW code lib) big cb ⟨s1.sl,s1.ow,s1.al,s1.bx.set b (0,[.lp f1 k1 .busy live1 snap1])⟩ with
     | none=>rw [he2] at h;cases h
     | some p =>
       obtain ⟨o,s⟩:=p
       rw [he2] at h
       simp only [Option.bind_some]
       simp only [kTurnE] at h
       unfold kTurnB at h
       split at h
       case h_2=>cases h
       rename_i e2 f2 k2 live2 snap2 hb2
       rw [hb2]
       dsimp only
       have ht:∀ (v:Bool) (bx':Boxes),trim bx.length [.flat (.bool v)] bx'=trim bx.length [] bx':=fun v bx'=>by
        unfold trim
        rw [show lows bx.length [.flat (.bool v)]=lows bx.length [] from rfl]
       cases o with
       | normal=>simp only [kTurn] at h;simp only [ht,underO_eq];exact h
       | exit i=>simp only [kTurn] at h;simp only [ht,underO_eq];exact h
       | ret=>simp only [kTurn] at h;simp only [ht,underO_eq];exact h
theorem kTurnA_n {nb b:Nat} {body:CCode}:kTurnA cf n nb b body (some (.normal,⟨sl,ow,al,bx⟩))=kTurnG cf n nb b body ⟨sl,ow,al,bx⟩ (bx[b]?):=rfl
theorem kTurnG_s {nb b e f k:Nat} {body:CCode} {snap:List PV}:kTurnG cf n nb b body ⟨sl,ow,al,bx⟩ (some (e,[.lp f k .ready live snap]))=kTurnE nb b (evC cf n body ⟨sl,ow,al,bx.set b (0,[.lp f k .busy live snap])⟩):=rfl
theorem kTurnE_s {nb b:Nat} {o:Out}:kTurnE nb b (some (o,⟨sl,ow,al,bx⟩))=kTurnB nb b o ⟨sl,ow,al,bx⟩ (bx[b]?):=rfl
theorem kTurnB_s {nb b e f k:Nat} {o:Out} {snap:List PV}:kTurnB nb b o ⟨sl,ow,al,bx⟩ (some (e,[.lp f k .busy live snap]))=kTurn nb b f k live snap o ow bx:=rfl
theorem kTurn_n {nb b f k:Nat} {snap:List PV}:kTurn nb b f k live snap .normal ow bx=some ([.flat (.bool true)],false,trim nb [] (bx.set b (0,[.lp f k .ready live snap])),underO (trim nb [] (bx.set b (0,[.lp f k .ready live snap]))).length ow):=rfl
theorem kTurn_e {nb b f k i:Nat} {snap:List PV}:kTurn nb b f k live snap (.exit i) ow bx=some ([.flat (.bool false)],false,trim nb [] (bx.set b (0,[.lp f k (.done (.exit i)) live snap])),underO (trim nb [] (bx.set b (0,[.lp f k (.done (.exit i)) live snap]))).length ow):=rfl
theorem kTurn_r {nb b f k:Nat} {snap:List PV}:kTurn nb b f k live snap .ret ow bx=some ([.flat (.bool false)],false,trim nb [] (bx.set b (0,[.lp f k (.done .ret) live snap])),underO (trim nb [] (bx.set b (0,[.lp f k (.done .ret) live snap]))).length ow):=rfl
end
end Nun
namespace Nun
open Go
theorem fb_add {k:IntKind} {a b:Int}:flatBin .add (.int k a) (.int k b)=some (.int k (k.wrap (a+b))):=by simp [flatBin]
theorem fb_sub {k:IntKind} {a b:Int}:flatBin .sub (.int k a) (.int k b)=some (.int k (k.wrap (a - b))):=by simp [flatBin]
theorem fb_mul {k:IntKind} {a b:Int}:flatBin .mul (.int k a) (.int k b)=some (.int k (k.wrap (a * b))):=by simp [flatBin]
theorem fb_quo {k:IntKind} {a b:Int}:flatBin .quo (.int k a) (.int k b)=if b=0 then none else some (.int k (k.wrap (a.tdiv b))):=by simp [flatBin]
theorem fb_rem {k:IntKind} {a b:Int}:flatBin .rem (.int k a) (.int k b)=if b=0 then none else some (.int k (a.tmod b)):=by simp [flatBin]
def bitand (k:IntKind) (a b:Int):Int:=k.wrap (BitVec.ofInt k.bits a &&& BitVec.ofInt k.bits b).toNat
theorem fb_and {k:IntKind} {a b:Int}:flatBin .and (.int k a) (.int k b)=some (.int k (bitand k a b)):=by simp [flatBin,bitand]
def bitor (k:IntKind) (a b:Int):Int:=k.wrap (BitVec.ofInt k.bits a ||| BitVec.ofInt k.bits b).toNat
theorem fb_or {k:IntKind} {a b:Int}:flatBin .or (.int k a) (.int k b)=some (.int k (bitor k a b)):=by simp [flatBin,bitor]
def bitxor (k:IntKind) (a b:Int):Int:=k.wrap (BitVec.ofInt k.bits a ^^^ BitVec.ofInt k.bits b).toNat
theorem fb_xor {k:IntKind} {a b:Int}:flatBin .xor (.int k a) (.int k b)=some (.int k (bitxor k a b)):=by simp [flatBin,bitxor]
theorem fb_shl {k k':IntKind} {a b:Int}:flatBin .shl (.int k a) (.int k' b)=if b<0 then none else some (.int k (k.wrap (a * 2 ^ (min b.toNat k.bits)))):=by simp [flatBin]
theorem fb_shr {k k':IntKind} {a b:Int}:flatBin .shr (.int k a) (.int k' b)=if b<0 then none else some (.int k (a.fdiv (2 ^ (min b.toNat k.bits)))):=by simp [flatBin]
theorem fb_eql {k:IntKind} {a b:Int}:flatBin .eql (.int k a) (.int k b)=some (.bool (decide (a=b))):=by simp [flatBin];rfl
theorem fb_neq {k:IntKind} {a b:Int}:flatBin .neq (.int k a) (.int k b)=some (.bool (!decide (a=b))):=by simp [flatBin];rfl
theorem fb_lss {k:IntKind} {a b:Int}:flatBin .lss (.int k a) (.int k b)=some (.bool (decide (a<b))):=by simp [flatBin]
theorem fb_leq {k:IntKind} {a b:Int}:flatBin .leq (.int k a) (.int k b)=some (.bool (decide (a≤b))):=by simp [flatBin]
theorem fb_gtr {k:IntKind} {a b:Int}:flatBin .gtr (.int k a) (.int k b)=some (.bool (decide (b<a))):=by simp [flatBin]
theorem fb_geq {k:IntKind} {a b:Int}:flatBin .geq (.int k a) (.int k b)=some (.bool (decide (b≤a))):=by simp [flatBin]
theorem ba_toList (a:ByteArray):a.toList=a.data.toList:=ByteArray.toList_eq a
def eqB (a b:ByteArray):Bool:=decide (a=b)
theorem fs_add {a b:ByteArray}:flatBin .add (.string a) (.string b)=if a.size+b.size≤bound then some (.string (a++b)) else none:=rfl
theorem eqB_list {a b:ByteArray}:(a.toList == b.toList)=eqB a b:=by
 unfold eqB
 by_cases h:a=b
 ·subst h;simp
 ·have:a.toList≠b.toList:=fun e=>h (by
   cases a with | mk x=>cases b with | mk y =>
   rw [ba_toList,ba_toList] at e
   congr 1
   exact Array.ext' e)
  simp [h,this]
theorem eq_s {a b:ByteArray} {ks:List LK} {cs ds:List PV}:eqCs (.s::ks) (.flat (.string a)::cs) (.flat (.string b)::ds)=kAnd (eqB a b) (eqCs ks cs ds):=by
 have h:(a == b)=eqB a b:=by
  show (a.data == b.data)=_
  unfold eqB
  by_cases h:a=b
  ·subst h;simp
  ·have:a.data≠b.data:=fun e=>h (by cases a;cases b;cases e;rfl)
   simp [h,this]
 simp only [eqCs,h];cases eqCs ks cs ds<;>rfl
theorem fs_eql {a b:ByteArray}:flatBin .eql (.string a) (.string b)=some (.bool (eqB a b)):=by rw [← eqB_list];rfl
theorem fs_neq {a b:ByteArray}:flatBin .neq (.string a) (.string b)=some (.bool !(eqB a b)):=by rw [← eqB_list];rfl
theorem fu_not {b:Bool}:flatUn .not (.bool b)=some (.bool !b):=rfl
theorem fu_neg {k:IntKind} {a:Int}:flatUn .neg (.int k a)=some (.int k (k.wrap (0 - a))):=rfl
theorem wrap64 {n:Int} (h:-9223372036854775808≤n∧n<9223372036854775808):IntKind.i64.wrap n=n:=by
 unfold IntKind.wrap;simp [IntKind.bits,IntKind.signed];omega
theorem wrap32 {n:Int} (h:-2147483648≤n∧n<2147483648):IntKind.i32.wrap n=n:=by
 unfold IntKind.wrap;simp [IntKind.bits,IntKind.signed];omega
theorem wrap8 {n:Int} (h:0≤n∧n<256):IntKind.u8.wrap n=n:=by
 unfold IntKind.wrap;simp [IntKind.bits,IntKind.signed];omega
theorem initSl_nil {i:Nat}:initSl i []=[]:=rfl
theorem initSl_cons {i:Nat} {v:PV} {r:List PV}:initSl i (v::r)=(i,v)::initSl (i+1) r:=rfl
end Nun
namespace Nun
theorem yld_dec {f:Nat}:(f=yldF)=(f=4611686018427387904):=rfl
end Nun
end
