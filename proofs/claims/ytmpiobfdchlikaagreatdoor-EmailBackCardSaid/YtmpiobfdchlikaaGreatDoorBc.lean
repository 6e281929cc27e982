/- Texts of this proof, merged. -/
import Derived.Test.YtmpiobfdchlikaaGreatDoorBb
import Derived.Test.YtmpiobfdchlikaaGreatDoorProg
import Derived.KernelRfl
import Derived.Test.YtmpiobfdchlikaaGreatDoorRows
import Derived.Shelf.Strings.BuilderK
import Derived.Lib.FrozenHead2
import Derived.Lib.OthersKept
import Derived.Lib.Builder
import Derived.Laws.Externs
set_option linter.all false
set_option maxHeartbeats 4000000
section
namespace Nun
open Go
section
variable {cf:Callee} {n:Nat} {st:St} {sl:List (Nat × PV)} {ow:List Loc} {al:List (Nat × Loc)} {bx:zae} {d:Nat} {live:List Nat}
theorem look_nil{i:Nat}:look [] i=.unk:=rfl
theorem yrb{j i:Nat}{v:PV}:look ((j,v)::sl) i=if j=i then v else look sl i:=rfl
def z1p(sl:List (Nat×PV)):List Nat->List (Nat×PV)
 |[]=>[]
 |i::r=>(i,look sl i)::z1p sl r
theorem yev:z1p sl []=[]:=rfl
theorem zzi{i:Nat}{r:List Nat}:z1p sl (i::r)=(i,look sl i)::z1p sl r:=rfl
theorem z9u:∀l:List Nat,z1p sl l=l.map fun i=>(i,look sl i)
 |[]=>rfl
 |i::r=>by rw[zzi,z9u r];rfl
def owns:List Loc->Loc->Bool
 |[],_=>false
 | .slot i::r,.slot j=>if i=j then true else owns r (.slot j)
 | .cell b o::r,.cell b' o'=>if b=b'/\o=o' then true else owns r (.cell b' o')
 |_::r,L=>owns r L
theorem zdu:∀{l:List Loc}{L:Loc},owns l L=true ↔ L∈l
 |[],L=>by simp[owns]
 | .slot i::r,.slot j=>by
   simp only[owns,waq,Loc.slot.injEq];by_cases h:i=j
   ·simp[h]
   ·simp only[h,if_false];rw[zdu];simp[was h]
 | .cell b o::r,.cell b' o'=>by
   simp only[owns,waq,Loc.cell.injEq];by_cases h:b=b'/\o=o'
   ·simp[h]
   ·rw[if_neg h,zdu]
    simp only[iff_or_self];rintro⟨h1,h2⟩;exact absurd ⟨h1.symm,h2.symm⟩ h
 | .slot i::r,.cell b o=>by simp only[owns,waq,reduceCtorEq,false_or];exact zdu
 | .cell b o::r,.slot i=>by simp only[owns,waq,reduceCtorEq,false_or];exact zdu
theorem ykq{L:Loc}:owns [] L=false:=by cases L<;>rfl
theorem yrc{i j:Nat}{r:List Loc}:owns (.slot i::r) (.slot j)=if i=j then true else owns r (.slot j):=rfl
theorem yew{b o b' o':Nat}{r:List Loc}:owns (.cell b o::r) (.cell b' o')=if b=b'/\o=o' then true else owns r (.cell b' o'):=rfl
theorem yrd{i b o:Nat}{r:List Loc}:owns (.slot i::r) (.cell b o)=owns r (.cell b o):=rfl
theorem z7f{i b o:Nat}{r:List Loc}:owns (.cell b o::r) (.slot i)=owns r (.slot i):=rfl
theorem z4i:zac d []=[]:=rfl
theorem yb9{i:Nat}{r:List Loc}:zac d (.slot i::r)=if i=d then zac d r else .slot i::zac d r:=by
 by_cases h:i=d
 ·subst h;simp[zac,ment]
 ·simp[zac,ment,h]
theorem zsi{b o:Nat}{r:List Loc}:zac d (.cell b o::r)=.cell b o::zac d r:=by simp[zac,ment]
theorem yca:za8 d []=[]:=rfl
theorem ykr{t i:Nat}{r:List (Nat×Loc)}:za8 d ((t,.slot i)::r)=if t=d then za8 d r else if i=d then za8 d r else(t,.slot i)::za8 d r:=by
 by_cases h:t=d
 ·subst h;simp[za8,ment]
 ·by_cases k:i=d
  ·subst k;simp[za8,ment]
  ·simp[za8,ment,h,k]
theorem yks{t b o:Nat}{r:List (Nat×Loc)}:za8 d ((t,.cell b o)::r)=if t=d then za8 d r else(t,.cell b o)::za8 d r:=by
 by_cases h:t=d
 ·subst h;simp[za8,ment]
 ·simp[za8,ment,h]
def ycb(ow:List Loc):List Nat->List Loc
 |[]=>[]
 |i::r=>if owns ow (.slot i)then .slot i::ycb ow r else ycb ow r
theorem ycc{i:Nat}{r:List Nat}:ycb ow (i::r)=if owns ow (.slot i)then .slot i::ycb ow r else ycb ow r:=rfl
theorem yex:zby .unk=false:=rfl
theorem yey{m:Nat}{cs:List PV}:zby (.slc m cs)=false:=rfl
theorem yez{cs:List PV}:zby (.agg cs)=false:=rfl
theorem ye0{cs:List PV}:zby (.tup cs)=false:=rfl
theorem ye1{b o:Nat}:zby (.ptr b o)=false:=rfl
theorem ye2{cs:List PV}:zby (.elt cs)=false:=rfl
theorem ye3{f:FuncId}{cs:List PV}:zby (.clo f cs)=false:=rfl
theorem ye4{b:Nat}:zby (.yld b)=false:=rfl
theorem ye5{b o m:Nat}:zby (.bsl b o m)=false:=rfl
theorem ykt{f k:Nat}{s:LpS}{cs:List PV}:zby (.lp f k s live cs)=false:=rfl
theorem ye6{k:IntKind}{m:Int}:zby (.flat (.int k m))=false:=rfl
theorem ye7{z:ByteArray}:zby (.flat (.string z))=false:=rfl
theorem ycd{b:Bool}:zby (.flat (.bool b))=false:=rfl
theorem ye8{a:Option Addr}:zby (.flat (.pointer a))=false:=rfl
theorem yku:zby (.flat .nilFunc)=false:=rfl
theorem ykv:zby (.flat .nilIface)=false:=rfl
theorem ye9:zby (.flat (.slice none 0 0))=true:=rfl
theorem yw0:wk .unk=.unk:=rfl
theorem yw1{m:Nat}{cs:List PV}:wk (.slc m cs)=.slc m cs:=rfl
theorem yw2{cs:List PV}:wk (.agg cs)=.agg cs:=rfl
theorem yw3{cs:List PV}:wk (.tup cs)=.tup cs:=rfl
theorem yw4{b o:Nat}:wk (.ptr b o)=.ptr b o:=rfl
theorem yw5{cs:List PV}:wk (.elt cs)=.elt cs:=rfl
theorem yw6{f:FuncId}{cs:List PV}:wk (.clo f cs)=.clo f cs:=rfl
theorem yw7{b:Nat}:wk (.yld b)=.yld b:=rfl
theorem yw8{b o m:Nat}:wk (.bsl b o m)=.bsl b o m:=rfl
theorem y18{f k:Nat}{s:LpS}{cs:List PV}:wk (.lp f k s live cs)=.lp f k s live cs:=rfl
theorem yw9{k:IntKind}{m:Int}:wk (.flat (.int k m))=.flat (.int k m):=rfl
theorem yxa{z:ByteArray}:wk (.flat (.string z))=.flat (.string z):=rfl
theorem yre{b:Bool}:wk (.flat (.bool b))=.flat (.bool b):=rfl
theorem yxb{a:Option Addr}:wk (.flat (.pointer a))=.flat (.pointer a):=rfl
theorem y19:wk (.flat .nilFunc)=.flat .nilFunc:=rfl
theorem y2a:wk (.flat .nilIface)=.flat .nilIface:=rfl
theorem yxc:wk (.flat (.slice none 0 0))=.slc 0 []:=rfl
theorem ykw:PV.weak .unk=.unk:=rfl
theorem yfa{v:Value}:PV.weak (.flat v)=wk (.flat v):=rfl
theorem ykx{m:Nat}{cs:List PV}:PV.weak (.slc m cs)=.slc m cs:=rfl
theorem yky{cs:List PV}:PV.weak (.agg cs)=.agg (zff cs):=rfl
theorem ykz{cs:List PV}:PV.weak (.tup cs)=.tup cs:=rfl
theorem yk0{b o:Nat}:PV.weak (.ptr b o)=.ptr b o:=rfl
theorem yk1{cs:List PV}:PV.weak (.elt cs)=.elt cs:=rfl
theorem yk2{f:FuncId}{cs:List PV}:PV.weak (.clo f cs)=.clo f cs:=rfl
theorem yk3{b:Nat}:PV.weak (.yld b)=.yld b:=rfl
theorem yk4{b o m:Nat}:PV.weak (.bsl b o m)=.bsl b o m:=rfl
theorem yfb:zff []=[]:=rfl
theorem yce{p:PV}{r:List PV}:zff (p::r)=wk p::zff r:=rfl
theorem z4j{b o:Nat}:za5 b o []=[]:=rfl
theorem z1q{b o:Nat}{p:PV}{r:List PV}:za5 b o (p::r)=if zby p then .cell b o::za5 b (o+1) r else za5 b (o+1) r:=rfl
theorem yfc:zvk []=true:=rfl
theorem ycf{p:PV}{r:List PV}:zvk (p::r)=(!zby p&&zvk r):=rfl
theorem yk5{m:Nat}{cs:List PV}:isU8 (.slc m cs)=false:=rfl
theorem yk6{cs:List PV}:isU8 (.agg cs)=false:=rfl
theorem yk7{b o:Nat}:isU8 (.ptr b o)=false:=rfl
theorem yk8{cs:List PV}:isU8 (.elt cs)=false:=rfl
theorem yk9{f:FuncId}{cs:List PV}:isU8 (.clo f cs)=false:=rfl
theorem yla{z:ByteArray}:isU8 (.flat (.string z))=false:=rfl
theorem yfd{b:Bool}:isU8 (.flat (.bool b))=false:=rfl
theorem ylb{a:Option Addr}:isU8 (.flat (.pointer a))=false:=rfl
theorem yrf{m:Int}:isU8 (.flat (.int .u8 m))=true:=rfl
theorem ylc{m:Int}:isU8 (.flat (.int .i32 m))=false:=rfl
theorem yle{m:Int}:isU8 (.flat (.int .i64 m))=false:=rfl
theorem ylf{m:Int}:isU8 (.flat (.int .u32 m))=false:=rfl
theorem ylg{m:Int}:isU8 (.flat (.int .u16 m))=false:=rfl
theorem ylh{m:Int}:isU8 (.flat (.int .u64 m))=false:=rfl
theorem yli:noU8 []=true:=rfl
theorem zm1{p:PV}{r:List PV}:noU8 (p::r)=(!isU8 p&&noU8 r):=rfl
theorem z1r{cs ds:List PV}:noU8 (cs++ds)=(noU8 cs&&noU8 ds):=by
 induction cs with
 |nil=>rfl
 |cons p r ih=>rw[wai,zm1,zm1,ih,wbb]
theorem yfe:zj1 []=true:=rfl
theorem zkr{p:PV}{r:List PV}:zj1 (p::r)=(isU8 p&&zj1 r):=rfl
theorem yff{cs ds:List PV}:zj1 (cs++ds)=(zj1 cs&&zj1 ds):=by
 induction cs with
 |nil=>rfl
 |cons p r ih=>rw[wai,zkr,zkr,ih,wbb]
theorem z7g{z:ByteArray}:zj1 (zhh z)=true:=by
 unfold zhh
 induction z.data.toList with
 |nil=>rfl
 |cons c l ih=>rw[wax,zkr,ih];rfl
theorem yxd{m:Nat}{cs ds:List PV}:tyOk true m cs ds=zj1 cs:=rfl
theorem yxe{m:Nat}{cs ds:List PV}:tyOk false m cs ds=if m=1 then noU8 cs&&noU8 ds else true:=by
 unfold tyOk;by_cases h:m=1<;>simp[h]
def lookW(sl:List (Nat×PV)):List Nat->List (Nat×PV)
 |[]=>[]
 |i::r=>(i,wk (look sl i))::lookW sl r
theorem yfg:lookW sl []=[]:=rfl
theorem zzj{i:Nat}{r:List Nat}:lookW sl (i::r)=(i,wk (look sl i))::lookW sl r:=rfl
theorem zu5:∀l:List Nat,lookW sl l=l.map fun i=>(i,look (sl.map fun q=>(q.1,wk q.2)) i)
 |[]=>rfl
 |i::r=>by rw[zzj,zu5 r,wax,zvr]
def keepW(sl:List (Nat×PV))(ow:List Loc):List Nat->List Loc
 |[]=>[]
 |i::r=>if zby (look sl i)then .slot i::keepW sl ow r else if owns ow (.slot i)then .slot i::keepW sl ow r else keepW sl ow r
theorem yfh:keepW sl ow []=[]:=rfl
theorem zzk{i:Nat}{r:List Nat}:keepW sl ow (i::r)=if zby (look sl i)then .slot i::keepW sl ow r else if owns ow (.slot i)then .slot i::keepW sl ow r else keepW sl ow r:=rfl
theorem z1s(L:List Nat):∀l:List Nat,(∀i∈l,i∈L)->keepW sl ow l=(l.filter fun i=>decide (.slot i∈(L.filter fun i=>zby (look sl i)).map .slot++ow)).map .slot
 |[],_=>rfl
 |i::r,h=>by
  rw[zzk,z1s L r (fun j hj=>h j (by simp[hj])),wcv];have hi:i∈L:=h i (by simp);by_cases hn:zby (look sl i)=true
  ·rw[if_pos hn];simp[hn,hi]
  ·by_cases ho:Loc.slot i∈ow
   ·rw[if_neg hn,if_pos (zdu.2 ho)];simp[ho]
   ·have:owns ow (.slot i)=false:=by cases hh:owns ow (.slot i)with|false=>rfl|true=>exact absurd (zdu.1 hh) ho
    rw[if_neg hn,this];simp[ho,hn]
def zfh:List Loc->List Loc
 |[]=>[]
 | .slot _::r=>zfh r
 | .cell b o::r=>.cell b o::zfh r
theorem ycg:zfh []=[]:=rfl
theorem zu6{i:Nat}{r:List Loc}:zfh (.slot i::r)=zfh r:=rfl
theorem zu7{b o:Nat}{r:List Loc}:zfh (.cell b o::r)=.cell b o::zfh r:=rfl
theorem zm2:∀l:List Loc,l.filter zad=zfh l
 |[]=>rfl
 | .slot i::r=>by rw[List.filter_cons_of_neg (by simp[zad]),zm2 r];rfl
 | .cell b o::r=>by rw[List.filter_cons_of_pos rfl,zm2 r];rfl
def zir:List Loc->List Loc
 |[]=>[]
 | .slot i::r=>.slot i::zir r
 | .cell _ _::r=>zir r
theorem ych:zir []=[]:=rfl
theorem z1t{i:Nat}{r:List Loc}:zir (.slot i::r)=.slot i::zir r:=rfl
theorem zu8{b o:Nat}{r:List Loc}:zir (.cell b o::r)=zir r:=rfl
theorem zv8:∀l:List Loc,(l.filter fun L=>!zad L)=zir l
 |[]=>rfl
 | .slot i::r=>by rw[List.filter_cons_of_pos rfl,zv8 r];rfl
 | .cell b o::r=>by rw[List.filter_cons_of_neg (by simp[zad]),zv8 r];rfl
theorem zsj:∀{l m:List Loc},zir (l++m)=zir l++zir m
 |[],m=>rfl
 | .slot i::r,m=>by rw[wai,z1t,z1t,zsj];rfl
 | .cell b o::r,m=>by rw[wai,zu8,zu8,zsj]
theorem zoi:∀{l m:List Loc},zfh (l++m)=zfh l++zfh m
 |[],m=>rfl
 | .slot i::r,m=>by rw[wai,zu6,zu6,zoi]
 | .cell b o::r,m=>by rw[wai,zu7,zu7,zoi];rfl
def zbm(nb:Nat):List Loc->List Loc
 |[]=>[]
 | .slot _::r=>zbm nb r
 | .cell b o::r=>if b<nb then .cell b o::zbm nb r else zbm nb r
theorem yci{nb:Nat}:zbm nb []=[]:=rfl
theorem zq3{nb i:Nat}{r:List Loc}:zbm nb (.slot i::r)=zbm nb r:=rfl
theorem zf9{nb b o:Nat}{r:List Loc}:zbm nb (.cell b o::r)=if b<nb then .cell b o::zbm nb r else zbm nb r:=rfl
theorem zis{nb:Nat}:∀l:List Loc,zdj nb l=zbm nb l
 |[]=>rfl
 | .slot i::r=>by rw[zq3,<-zis r];simp[zdj]
 | .cell b o::r=>by
   rw[zf9,<-zis r];by_cases h:b<nb<;>simp[zdj,h]
theorem yxf{v:PV}:St.put ⟨sl,ow,al,bx⟩ d v=⟨(d,v)::sl,zac d ow,za8 d al,bx⟩:=rfl
theorem yfi{v:PV}:St.putOwn ⟨sl,ow,al,bx⟩ d v=⟨(d,v)::sl,.slot d::zac d ow,za8 d al,bx⟩:=rfl
theorem yfj{v:PV}:St.putD st none v=st:=rfl
theorem yfk{v:PV}:St.putD st (some d) v=st.put d v:=rfl
theorem ztm:∀l:List Nat,zfh (l.map .slot)=[]
 |[]=>rfl
 |i::r=>by rw[wax,zu6,ztm r]
theorem yrg:St.keep ⟨sl,ow,al,bx⟩ live=⟨lookW sl live,keepW sl ow live++zfh ow,[],bx⟩:=by
 unfold St.keep;simp only[St.keep0,St.nrm];rw[zu5,z1s live live (fun _ h=>h),zm2,zoi,ztm,wa5];rfl
def vals:List (Nat×PV)->List PV
 |[]=>[]
 |(_,v)::r=>v::vals r
theorem ylj:vals []=[]:=rfl
theorem z4k{i:Nat}{v:PV}{r:List (Nat×PV)}:vals ((i,v)::r)=v::vals r:=rfl
theorem z1u:∀l:List (Nat×PV),l.map (·.2)=vals l
 |[]=>rfl
 |(i,v)::r=>by rw[z4k,<-z1u r];rfl
def yfl(nb:Nat)(bx:zae)(b:Bool):zae:=if b then bx.take nb else bx
def zbs(nb:Nat):zae->Bool
 |[]=>true
 |q::r=>lows nb q.2&&zbs nb r
theorem zg0{nb:Nat}:zbs nb []=true:=rfl
theorem zcp{nb:Nat}{q:Nat×List PV}{r:zae}:zbs nb (q::r)=(lows nb q.2&&zbs nb r):=rfl
theorem zzl{nb:Nat}:∀l:zae,(l.all fun q=>lows nb q.2)=zbs nb l
 |[]=>rfl
 |q::r=>by rw[wcg,zzl r];rfl
theorem yfm{nb:Nat}{vs:List PV}:trim nb vs bx=if bx.length=nb then bx else yfl nb bx (lows nb vs&&zbs nb (bx.take nb)):=by
 unfold trim yfl;rw[zzl]
theorem yrh{nb:Nat}:yfl nb bx true=bx.take nb:=rfl
theorem yri{nb:Nat}:yfl nb bx false=bx:=rfl
def cutK(st:St)(nb:Nat)(bx':zae):St:=⟨st.sl,if bx'.length=st.bx.length then st.ow else st.ow.filter (fun| .slot _=>true| .cell b _=>decide (b<bx'.length)),[],bx'⟩
theorem yrj{nb:Nat}:St.cutB ⟨sl,ow,al,bx⟩ nb=if bx.length=nb then⟨sl,ow,[],bx⟩else cutK ⟨sl,ow,al,bx⟩ nb (yfl nb bx (lows nb (vals sl)&&zbs nb (bx.take nb))):=by
 unfold St.cutB;simp only[yfm,z1u];split
 ·simp
 ·rfl
def ltO(nb:Nat):List Loc->List Loc
 |[]=>[]
 | .slot i::r=>.slot i::ltO nb r
 | .cell b o::r=>if b<nb then .cell b o::ltO nb r else ltO nb r
theorem yrk{nb:Nat}:ltO nb []=[]:=rfl
theorem yxg{nb i:Nat}{r:List Loc}:ltO nb (.slot i::r)=.slot i::ltO nb r:=rfl
theorem yrl{nb b o:Nat}{r:List Loc}:ltO nb (.cell b o::r)=if b<nb then .cell b o::ltO nb r else ltO nb r:=rfl
theorem yfn{nb:Nat}:∀l:List Loc,(l.filter (fun| .slot _=>true| .cell b _=>decide (b<nb)))=ltO nb l
 |[]=>rfl
 | .slot i::r=>by rw[yxg,<-yfn r];simp
 | .cell b o::r=>by
   rw[yrl,<-yfn r];by_cases h:b<nb<;>simp[h]
theorem yrm{nb:Nat}{bx':zae}:cutK ⟨sl,ow,al,bx⟩ nb bx'=⟨sl,if bx'.length=bx.length then ow else ltO bx'.length ow,[],bx'⟩:=by
 unfold cutK;rw[yfn]
theorem zsk{nb:Nat}:∀{l m:List Loc},zbm nb (l++m)=zbm nb l++zbm nb m
 |[],m=>rfl
 | .slot i::r,m=>by rw[wai,zq3,zq3,zsk]
 | .cell b o::r,m=>by
   rw[wai,zf9,zf9,zsk];split<;>rfl
theorem ztn{nb:Nat}:∀l:List Nat,zbm nb (l.map .slot)=[]
 |[]=>rfl
 |i::r=>by rw[wax,zq3,ztn r]
theorem yrn{nb:Nat}:St.only ⟨sl,ow,al,bx⟩ live nb=⟨lookW sl live,keepW sl ow live++zbm (trim nb (vals (lookW sl live)) bx).length ow,[],trim nb (vals (lookW sl live)) bx⟩:=by
 have h1:live.map (look (sl.map fun q=>(q.1,wk q.2)))=vals (lookW sl live):=by
  rw[<-z1u,zu5,List.map_map];rfl
 have h2:∀(m:Nat)(l:List Loc),(l.filter (fun| .slot _=>false| .cell b _=>decide (b<m)))=zbm m l:=fun m l=>by rw[<-zis];rfl
 show(⟨live.map fun i=>(i,look (sl.map fun q:Nat×PV=>(q.1,wk q.2)) i),(live.filter fun i=>decide (Loc.slot i∈(live.filter fun i=>zby (look sl i)).map Loc.slot++ow)).map Loc.slot++(((live.filter fun i=>zby (look sl i)).map Loc.slot++ow).filter (fun| .slot _=>false| .cell b _=>decide (b<(trim nb (live.map (look (sl.map fun q:Nat×PV=>(q.1,wk q.2)))) bx).length))),[],trim nb (live.map (look (sl.map fun q:Nat×PV=>(q.1,wk q.2)))) bx⟩:St)=_;rw[h1,h2,zsk,ztn,wa5,z1s live live (fun _ h=>h),<-zu5]
theorem ev_t{i:Nat}:X.ev sl (.t i)=look sl i:=rfl
theorem ev_c{v:PV}:X.ev sl (.c v)=v:=rfl
def evL(sl:List (Nat×PV)):List X->List PV
 |[]=>[]
 |x::r=>x.ev sl::evL sl r
theorem yro:evL sl []=[]:=rfl
theorem z9v{x:X}{r:List X}:evL sl (x::r)=x.ev sl::evL sl r:=rfl
theorem ypx:∀l:List X,l.map (·.ev sl)=evL sl l
 |[]=>rfl
 |x::r=>by rw[z9v,<-ypx r];rfl
def evA(sl:List (Nat×PV)):List X->List PV
 |[]=>[]
 |x::r=>(x.ev sl).weak::evA sl r
theorem yrp:evA sl []=[]:=rfl
theorem z9w{x:X}{r:List X}:evA sl (x::r)=(x.ev sl).weak::evA sl r:=rfl
theorem z4l:∀l:List X,(l.map fun x=>(x.ev sl).weak)=evA sl l
 |[]=>rfl
 |x::r=>by rw[z9w,<-z4l r];rfl
def evPs(sl:List (Nat×PV)):List (Nat×Nat×X)->List (Nat×Nat×PV)
 |[]=>[]
 |(o,m,x)::r=>(o,m,x.ev sl)::evPs sl r
theorem ylk:evPs sl []=[]:=rfl
theorem z4m{o m:Nat}{x:X}{r:List (Nat×Nat×X)}:evPs sl ((o,m,x)::r)=(o,m,x.ev sl)::evPs sl r:=rfl
theorem z7h:∀l:List (Nat×Nat×X),(l.map fun q=>(q.1,q.2.1,q.2.2.ev sl))=evPs sl l
 |[]=>rfl
 |(o,m,x)::r=>by rw[z4m,<-z7h r];rfl
def kPut(st:St)(d:Nat):Option PV->Option St
 |some v=>some (st.put d v)
 |none=>none
theorem yfo{v:PV}:kPut st d (some v)=some (st.put d v):=rfl
theorem zbw{x:Option PV}:x.map (st.putD (some d))=kPut st d x:=by cases x<;>rfl
theorem zm3{x:Option PV}:x.map (st.put d)=kPut st d x:=by cases x<;>rfl
theorem y2b{x:X}:zaa cf st (some d) (.mv x)=some (st.put d (x.ev st.sl)):=rfl
theorem yxh{s:Nat}:zaa cf ⟨sl,ow,al,bx⟩ (some d) (.mvA s)=if s=d then none else some ⟨(d,look sl s)::sl,zac d ow,(d,.slot s)::za8 d al,bx⟩:=rfl
theorem yxi{s:Nat}:zaa cf ⟨sl,ow,al,bx⟩ (some d) (.asg (.t s))=if s=d then none else if owns ow (.slot s)then some ⟨(d,look sl s)::sl,.slot d::zac s (zac d ow),za8 s (za8 d al),bx⟩else some ⟨(d,look sl s)::sl,zac d ow,za8 d al,bx⟩:=by
 simp only[zaa,zdu];rfl
theorem yrq{v:Value}:zaa cf st (some d) (.asg (.c (.flat v)))=some (st.put d (.flat v)):=rfl
theorem yrr{f:FuncId}{cs:List PV}:zaa cf st (some d) (.asg (.c (.clo f cs)))=some (st.put d (.clo f cs)):=rfl
def yrs(st:St)(d:Nat)(a b:PV):PV->Option St
 | .flat (.bool t)=>some (st.put d (if t then a else b))
 |_=>none
theorem yrt{c a b:X}:zaa cf st (some d) (.pick c a b)=yrs st d (a.ev st.sl) (b.ev st.sl) (c.ev st.sl):=by
 simp only[zaa,zao];unfold yrs;generalize c.ev st.sl=p;cases p with
 |flat v=>cases v<;>first|rfl|(dsimp only;split<;>rfl)|(dsimp only[zbw,zm3];rw[zbw])
 |_=>first|rfl|(dsimp only;split<;>rfl)|(dsimp only;rw[zbw])
theorem yru{a b:PV}{t:Bool}:yrs st d a b (.flat (.bool t))=some (st.put d (if t then a else b)):=rfl
def yfp(st:St)(d:Nat):Option Value->Option St
 |some v=>some (st.put d (.flat v))
 |none=>none
theorem ycj{v:Value}:yfp st d (some v)=some (st.put d (.flat v)):=rfl
def kBin(st:St)(d:Nat)(op:BinOp):PV->PV->Option St
 | .flat a,.flat b=>yfp st d (za9 op a b)
 |_,_=>none
theorem yxj{op:BinOp}{x y:X}:zaa cf st (some d) (.bin op x y)=kBin st d op (x.ev st.sl) (y.ev st.sl):=by
 simp only[zaa,zao];generalize x.ev st.sl=p;generalize y.ev st.sl=q;cases p with
 |flat v=>
  cases q with
  |flat u=>simp only[kBin];cases za9 op v u<;>rfl
  |_=>rfl
 |_=>cases q<;>rfl
theorem yxk{op:BinOp}{a b:Value}:kBin st d op (.flat a) (.flat b)=yfp st d (za9 op a b):=rfl
def kBeq(st:St)(d:Nat)(ne:Bool):PV->PV->Option St
 | .flat (.bool a),.flat (.bool b)=>some (st.put d (.flat (.bool (if ne then !(a==b)else a==b))))
 |_,_=>none
theorem yxl{ne:Bool}{x y:X}:zaa cf st (some d) (.beq ne x y)=kBeq st d ne (x.ev st.sl) (y.ev st.sl):=by
 simp only[zaa,zao];unfold kBeq;generalize x.ev st.sl=p;generalize y.ev st.sl=q;cases p with
 |flat v=>
  cases q with
  |flat u=>cases v<;>cases u<;>first|rfl|(dsimp only;split<;>rfl)
  |_=>cases v<;>rfl
 |_=>
  cases q with
  |flat u=>cases u<;>first|rfl|(dsimp only;split<;>rfl)
  |_=>rfl
theorem yxm{ne a b:Bool}:kBeq st d ne (.flat (.bool a)) (.flat (.bool b))=some (st.put d (.flat (.bool (if ne then !(a==b)else a==b)))):=rfl
def kAnd(t:Bool):Option Bool->Option Bool
 |some r=>some (t&&r)
 |none=>none
theorem yxn{t r:Bool}:kAnd t (some r)=some (t&&r):=rfl
theorem eq_n:eqCs [] [] []=some true:=rfl
theorem eq_b{a b:Bool}{ks:List LK}{cs ds:List PV}:eqCs (.b::ks) (.flat (.bool a)::cs) (.flat (.bool b)::ds)=kAnd (a==b) (eqCs ks cs ds):=by
 simp only[eqCs];cases eqCs ks cs ds<;>rfl
theorem eq_i{k:IntKind}{a b:Int}{ks:List LK}{cs ds:List PV}:eqCs (.i k::ks) (.flat (.int k a)::cs) (.flat (.int k b)::ds)=kAnd (decide (a=b)) (eqCs ks cs ds):=by
 simp only[eqCs,and_self,if_true];cases eqCs ks cs ds<;>rfl
def kEqB(st:St)(d:Nat)(ne:Bool):Option Bool->Option St
 |some t=>some (st.put d (.flat (.bool (if ne then !t else t))))
 |none=>none
theorem yxo{ne t:Bool}:kEqB st d ne (some t)=some (st.put d (.flat (.bool (if ne then !t else t)))):=rfl
def kEqS(st:St)(d:Nat)(ne:Bool)(ks:List LK):PV->PV->Option St
 | .agg cs,.agg ds=>kEqB st d ne (eqCs ks cs ds)
 |_,_=>none
theorem yxp{ne:Bool}{ks:List LK}{cs ds:List PV}:kEqS st d ne ks (.agg cs) (.agg ds)=kEqB st d ne (eqCs ks cs ds):=rfl
theorem yxq{ne:Bool}{ks:List LK}{x y:X}:zaa cf st (some d) (.eqS ne ks x y)=kEqS st d ne ks (x.ev st.sl) (y.ev st.sl):=by
 simp only[zaa,zao];generalize x.ev st.sl=p;generalize y.ev st.sl=q;cases p with
 |agg cs=>
  cases q with
  |agg ds=>simp only[kEqS];cases eqCs ks cs ds<;>rfl
  |_=>rfl
 |_=>cases q<;>rfl
def yck(st:St)(d:Nat):PV->Option St
 | .ptr b o=>some (st.put d (.ptr b o))
 | .elt cs=>some (st.put d (.elt cs))
 | .clo f cs=>some (st.put d (.clo f cs))
 | .yld b=>some (st.put d (.yld b))
 |_=>none
theorem yrv{x:X}:zaa cf st (some d) (.nilc x)=yck st d (x.ev st.sl):=by
 simp only[zaa,zao];unfold yck;generalize x.ev st.sl=p;cases p with
 |flat v=>cases v<;>first|rfl|(dsimp only;split<;>rfl)|(dsimp only[zbw,zm3];rw[zbw])
 |_=>first|rfl|(dsimp only;split<;>rfl)|(dsimp only;rw[zbw])
theorem yrw{b o:Nat}:yck st d (.ptr b o)=some (st.put d (.ptr b o)):=rfl
theorem yrx{cs:List PV}:yck st d (.elt cs)=some (st.put d (.elt cs)):=rfl
theorem yry{f:FuncId}{cs:List PV}:yck st d (.clo f cs)=some (st.put d (.clo f cs)):=rfl
theorem yrz{b:Nat}:yck st d (.yld b)=some (st.put d (.yld b)):=rfl
def kUn(st:St)(d:Nat)(op:UnOp):PV->Option St
 | .flat a=>yfp st d (zth op a)
 |_=>none
theorem y2c{op:UnOp}{x:X}:zaa cf st (some d) (.un op x)=kUn st d op (x.ev st.sl):=by
 simp only[zaa,zao];generalize x.ev st.sl=p;cases p with
 |flat v=>simp only[kUn];cases zth op v<;>rfl
 |_=>rfl
theorem y2d{op:UnOp}{a:Value}:kUn st d op (.flat a)=yfp st d (zth op a):=rfl
def yr0(st:St)(d:Nat)(k:IntKind):PV->Option St
 | .flat (.int _ m)=>some (st.put d (.flat (.int k (k.wrap m))))
 |_=>none
theorem yr1{k:IntKind}{x:X}:zaa cf st (some d) (.conv k x)=yr0 st d k (x.ev st.sl):=by
 simp only[zaa,zao];unfold yr0;generalize x.ev st.sl=p;cases p with
 |flat v=>cases v<;>first|rfl|(dsimp only;split<;>rfl)|(dsimp only[zbw,zm3];rw[zbw])
 |_=>first|rfl|(dsimp only;split<;>rfl)|(dsimp only;rw[zbw])
theorem yr2{k k':IntKind}{m:Int}:yr0 st d k (.flat (.int k' m))=some (st.put d (.flat (.int k (k.wrap m)))):=rfl
theorem yxr{x:X}:zaa cf st (some d) (.b2s x)=kPut st d (b2sV (x.ev st.sl) st.bx):=by
 simp only[zaa,zbw]
theorem yll:b2sV (.flat (.slice none 0 0)) bx=some (.flat (.string ⟨#[]⟩)):=rfl
theorem yfq{m:Nat}{cs:List PV}:b2sV (.slc m cs) bx=if cs.length=m then(bytesOf cs).map fun l=>.flat (.string ⟨l.toArray⟩)else none:=rfl
def z4n(o m:Nat):Option (Nat×List PV)->Option PV
 |some (_,cs)=>if o+m<=cs.length then kStr (bytesOf ((cs.drop o).take m))else none
 |none=>none
where kStr:Option (List UInt8)->Option PV
 |some l=>some (.flat (.string ⟨l.toArray⟩))
 |none=>none
theorem yxs{l:List UInt8}:z4n.kStr (some l)=some (.flat (.string ⟨l.toArray⟩)):=rfl
theorem z9x{o m e:Nat}{cs:List PV}:z4n o m (some (e,cs))=if o+m<=cs.length then z4n.kStr (bytesOf ((cs.drop o).take m))else none:=rfl
theorem ylm{b o m:Nat}:b2sV (.bsl b o m) bx=z4n o m (zes bx b):=by
 simp only[b2sV];cases zes bx b with
 |none=>rfl
 |some q=>
  obtain⟨e,cs⟩:=q;simp only[wat,z9x];split
  ·cases bytesOf ((cs.drop o).take m)<;>rfl
  ·rfl
theorem yr3{m:Nat}{cs:List PV}:b2sV (.slc m cs) bx=if cs.length=m then z4n.kStr (bytesOf cs)else none:=by
 rw[yfq];split
 ·cases bytesOf cs<;>rfl
 ·rfl
theorem yln{e:Nat}{zs:List PV}:zaa cf ⟨sl,ow,al,bx⟩ (some d) (.alloc e zs)=some ⟨(d,.ptr bx.length 0)::sl,za5 bx.length 0 zs++zac d ow,za8 d al,bx++[(e,zff zs)]⟩:=by
 rw[<-zqt];rfl
def kBox(st:St)(d e m:Nat)(v:PV):Option St:=if v.good=true/\v.cells.length=m then some ⟨(d,.ptr st.bx.length 0)::st.sl,za5 st.bx.length 0 v.cells++zac d st.ow,za8 d st.al,st.bx++[(e,zff v.cells)]⟩else none
theorem yxt{e m:Nat}{x:X}:zaa cf st (some d) (.box e m x)=kBox st d e m (x.ev st.sl):=by
 unfold kBox;rw[<-zqt];rfl
theorem yr4{e m:Nat}{v:PV}:kBox ⟨sl,ow,al,bx⟩ d e m v=if v.good=true/\v.cells.length=m then some ⟨(d,.ptr bx.length 0)::sl,za5 bx.length 0 v.cells++zac d ow,za8 d al,bx++[(e,zff v.cells)]⟩else none:=rfl
def ypy(st:St)(d:Nat):Option (List PV)->Option St
 |some cs=>some (st.put d (.agg cs))
 |none=>none
theorem ylo{zs:List PV}{ps:List (Nat×Nat×X)}:zaa cf st (some d) (.build zs ps)=ypy st d (zpv zs (evPs st.sl ps)):=by
 simp only[zaa,zao,z7h];cases zpv zs (evPs st.sl ps)<;>rfl
theorem ylp{cs:List PV}:ypy st d (some cs)=some (st.put d (.agg cs)):=rfl
def yxu(st:St)(d:Nat)(byte:Bool)(m size:Nat):Option (List PV)->Option St
 |some cs=>if byte=true\/size≠1\/noU8 (zff cs)=true then some (st.putOwn d (.slc m (zff cs)))else none
 |none=>none
theorem yr5{byte:Bool}{m size:Nat}{zs:List PV}{ps:List (Nat×Nat×X)}:zaa cf st (some d) (.mksl byte m size zs ps)=yxu st d byte m size (zpv zs (evPs st.sl ps)):=by
 simp only[zaa,wat,z7h];cases zpv zs (evPs st.sl ps)<;>rfl
theorem yr6{byte:Bool}{m size:Nat}{cs:List PV}:yxu st d byte m size (some cs)=if byte=true\/size≠1\/noU8 (zff cs)=true then some (st.putOwn d (.slc m (zff cs)))else none:=rfl
theorem yr7{agg:Bool}{m:Nat}{a:X}:zaa cf st (some d) (.load agg m a)=kPut st d (zyf agg m (a.ev st.sl) st.bx):=by
 simp only[zaa,wat,zm3]
def zv9(agg:Bool)(m o:Nat):Option (Nat×List PV)->Option PV
 |some (_,cs)=>if o+m<=cs.length then(match agg with|true=>some (.agg ((cs.drop o).take m))|false=>cs[o]?)else none
 |none=>none
theorem yr8{m o e:Nat}{cs:List PV}:zv9 true m o (some (e,cs))=if o+m<=cs.length then some (.agg ((cs.drop o).take m))else none:=rfl
theorem z7i{m o e:Nat}{cs:List PV}:zv9 false m o (some (e,cs))=if o+m<=cs.length then cs[o]? else none:=rfl
theorem ylq{agg:Bool}{m b o:Nat}:zyf agg m (.ptr b o) bx=zv9 agg m o (zes bx b):=by
 simp only[zyf];cases zes bx b with
 |none=>rfl
 |some q=>rfl
theorem yfr{m:Nat}{cs:List PV}:zyf true m (.elt cs) bx=if m<=cs.length then some (.agg (cs.take m))else none:=rfl
theorem yfs{m:Nat}{cs:List PV}:zyf false m (.elt cs) bx=if m<=cs.length then cs[0]? else none:=rfl
def ypz:Option (Nat×List PV)->Option (Nat×List PV)
 |some (e,cs)=>if isLp cs then none else some (e,cs)
 |none=>none
theorem z1v{b:Nat}:zes bx b=ypz (bx[b]?):=by
 unfold zes;cases bx[b]? with
 |none=>rfl
 |some q=>rfl
theorem z1w{e:Nat}{cs:List PV}:ypz (some (e,cs))=if isLp cs then none else some (e,cs):=rfl
def yft(st:St)(d b o:Nat):Option PV->Option St
 |some v=>some ⟨(d,v)::st.sl,zac d st.ow,(d,.cell b o)::za8 d st.al,st.bx⟩
 |none=>none
def yfu(st:St)(d:Nat):PV->Option St
 | .ptr b o=>yft st d b o (zv9 false 1 o (zes st.bx b))
 |_=>none
theorem ylr{a:X}:zaa cf st (some d) (.loadA a)=yfu st d (a.ev st.sl):=by
 simp only[zaa,wat];generalize a.ev st.sl=p;cases p with
 |ptr b o=>
  simp only[yfu];cases h:zes st.bx b with
  |none=>rfl
  |some q=>
   obtain⟨e,cs⟩:=q;simp only[wat,z7i];by_cases hl:o+1<=cs.length
   ·rw[if_pos hl]
    cases h2:cs[o]?<;>rfl
   ·rw[if_neg hl,wb8 (by omega)];rfl
 |_=>rfl
theorem yls{b o:Nat}:yfu st d (.ptr b o)=yft st d b o (zv9 false 1 o (zes st.bx b)):=rfl
theorem ylt{b o:Nat}{v:PV}:yft ⟨sl,ow,al,bx⟩ d b o (some v)=some ⟨(d,v)::sl,zac d ow,(d,.cell b o)::za8 d al,bx⟩:=rfl
def zev(b o m:Nat):List Loc->List Loc
 |[]=>[]
 | .slot i::r=>.slot i::zev b o m r
 | .cell b' j::r=>if b'=b/\o<=j/\j<o+m then zev b o m r else .cell b' j::zev b o m r
theorem yfv{b o m:Nat}:zev b o m []=[]:=rfl
theorem yfw{b o m i:Nat}{r:List Loc}:zev b o m (.slot i::r)=.slot i::zev b o m r:=rfl
theorem zg1{b o m b' j:Nat}{r:List Loc}:zev b o m (.cell b' j::r)=if b'=b/\o<=j/\j<o+m then zev b o m r else .cell b' j::zev b o m r:=rfl
theorem z4o{b o m b' j:Nat}:ze0 b o m (.cell b' j)=decide (b'=b/\o<=j/\j<o+m):=by
 unfold ze0;by_cases h1:b'=b<;>by_cases h2:o<=j<;>by_cases h3:j<o+m<;>simp[h1,h2,h3]
theorem zu9{b o m:Nat}:∀l:List Loc,(l.filter fun L=>!ze0 b o m L)=zev b o m l
 |[]=>rfl
 | .slot i::r=>by rw[yfw,<-zu9 r];simp[ze0]
 | .cell b' j::r=>by
   rw[zg1,<-zu9 r,wcv,z4o];by_cases h:b'=b/\o<=j/\j<o+m<;>simp[h]
def zjn(b o m:Nat)(l:List (Nat×Loc)):List (Nat×Loc):=l.filter fun p=>!ze0 b o m p.2
theorem ycl{b o m:Nat}:zjn b o m []=[]:=rfl
theorem ylu{b o m t i:Nat}{r:List (Nat×Loc)}:zjn b o m ((t,.slot i)::r)=(t,.slot i)::zjn b o m r:=by simp[zjn,ze0]
theorem ylv{b o m t b' j:Nat}{r:List (Nat×Loc)}:zjn b o m ((t,.cell b' j)::r)=if b'=b/\o<=j/\j<o+m then zjn b o m r else(t,.cell b' j)::zjn b o m r:=by
 unfold zjn;rw[wcv,z4o];by_cases h:b'=b/\o<=j/\j<o+m<;>simp[h]
def kStW(st:St)(b o m:Nat)(x:X)(v:PV)(e:Nat)(cs:List PV):Option St:=if v.good=true/\v.cells.length=m/\o+m<=cs.length then
    (match x with
     | .t s=>if owns st.ow (.slot s)then some ⟨st.sl,.cell b o::zac s (za5 b o v.cells++zev b o m st.ow),za8 s (zjn b o m st.al),st.bx.set b (e,cs.take o++zff v.cells++cs.drop (o+m))⟩else some ⟨st.sl,za5 b o v.cells++zev b o m st.ow,zjn b o m st.al,st.bx.set b (e,cs.take o++zff v.cells++cs.drop (o+m))⟩
     | .c _=>some ⟨st.sl,za5 b o v.cells++zev b o m st.ow,zjn b o m st.al,st.bx.set b (e,cs.take o++zff v.cells++cs.drop (o+m))⟩)else none
def kStQ(st:St)(b o m:Nat)(x:X)(v:PV):Option (Nat×List PV)->Option St
 |some (e,cs)=>kStW st b o m x v e cs
 |none=>none
def kSt(st:St)(m:Nat)(x:X)(v:PV):PV->Option St
 | .ptr b o=>kStQ st b o m x v (zes st.bx b)
 |_=>none
theorem ylw{m:Nat}{a x:X}:zaa cf st none (.store m a x)=kSt st m x (x.ev st.sl) (a.ev st.sl):=by
 simp only[zaa];generalize a.ev st.sl=p;cases p with
 |ptr b o=>
  dsimp only;simp only[kSt,kStQ];cases h:zes st.bx b with
  |none=>rfl
  |some q=>
   obtain⟨e,cs⟩:=q;simp only[wat,kStW];split
   ·cases x with
    |t s=>simp only[zu9,zdu,zqt];rfl
    |c v=>simp only[zu9,zqt];rfl
   ·rfl
 |_=>rfl
theorem y2e{b o m:Nat}{x:X}{v:PV}:kSt st m x v (.ptr b o)=kStQ st b o m x v (zes st.bx b):=rfl
theorem yxv{b o m e:Nat}{x:X}{v:PV}{cs:List PV}:kStQ st b o m x v (some (e,cs))=kStW st b o m x v e cs:=rfl
theorem yxw{b o m e s:Nat}{v:PV}{cs:List PV}:kStW ⟨sl,ow,al,bx⟩ b o m (.t s) v e cs=if v.good=true/\v.cells.length=m/\o+m<=cs.length then(if owns ow (.slot s)then some ⟨sl,.cell b o::zac s (za5 b o v.cells++zev b o m ow),za8 s (zjn b o m al),bx.set b (e,cs.take o++zff v.cells++cs.drop (o+m))⟩else some ⟨sl,za5 b o v.cells++zev b o m ow,zjn b o m al,bx.set b (e,cs.take o++zff v.cells++cs.drop (o+m))⟩)else none:=rfl
theorem yxx{b o m e:Nat}{u v:PV}{cs:List PV}:kStW ⟨sl,ow,al,bx⟩ b o m (.c u) v e cs=if v.good=true/\v.cells.length=m/\o+m<=cs.length then some ⟨sl,za5 b o v.cells++zev b o m ow,zjn b o m al,bx.set b (e,cs.take o++zff v.cells++cs.drop (o+m))⟩else none:=rfl
def ylx(st:St)(d off:Nat):PV->Option St
 | .ptr b o=>some (st.put d (.ptr b (o+off)))
 | .elt cs=>some (st.put d (.elt (cs.drop off)))
 |_=>none
theorem yr9{off:Nat}{a:X}:zaa cf st (some d) (.fadr off a)=ylx st d off (a.ev st.sl):=by
 simp only[zaa,zao];unfold ylx;generalize a.ev st.sl=p;cases p with
 |flat v=>cases v<;>first|rfl|(dsimp only;split<;>rfl)|(dsimp only[zbw,zm3];rw[zbw])
 |_=>first|rfl|(dsimp only;split<;>rfl)|(dsimp only;rw[zbw])
theorem ysa{off b o:Nat}:ylx st d off (.ptr b o)=some (st.put d (.ptr b (o+off))):=rfl
theorem ysb{off:Nat}{cs:List PV}:ylx st d off (.elt cs)=some (st.put d (.elt (cs.drop off))):=rfl
def ysc(st:St)(d off m:Nat):PV->Option St
 | .agg cs=>if off+m<=cs.length then some (st.put d (.agg ((cs.drop off).take m)))else none
 |_=>none
def ysd(st:St)(d off:Nat):PV->Option St
 | .agg cs=>kPut st d (cs[off]?)
 |_=>none
theorem yse{off m:Nat}{x:X}:zaa cf st (some d) (.fld true off m x)=ysc st d off m (x.ev st.sl):=by
 simp only[zaa,zao];unfold ysc;generalize x.ev st.sl=p;cases p with
 |flat v=>cases v<;>first|rfl|(dsimp only;split<;>rfl)|(dsimp only[zbw,zm3];rw[zbw])
 |_=>first|rfl|(dsimp only;split<;>rfl)|(dsimp only;rw[zbw])
theorem ysf{off m:Nat}{x:X}:zaa cf st (some d) (.fld false off m x)=ysd st d off (x.ev st.sl):=by
 simp only[zaa,zao];generalize x.ev st.sl=p;cases p with
 |agg cs=>simp only[ysd,zbw]
 |_=>rfl
theorem ysg{off m:Nat}{cs:List PV}:ysc st d off m (.agg cs)=if off+m<=cs.length then some (st.put d (.agg ((cs.drop off).take m)))else none:=rfl
theorem ysh{off:Nat}{cs:List PV}:ysd st d off (.agg cs)=kPut st d (cs[off]?):=rfl
def yly(st:St)(d size:Nat):PV->PV->Option St
 | .slc m cs,.flat (.int _ i)=>if 0<=i/\i<m then some (st.put d (.elt (cs.drop (i.toNat* size))))else none
 | .bsl b o m,.flat (.int _ i)=>if 0<=i/\i<m then some (st.put d (.ptr b (o+i.toNat* size)))else none
 |_,_=>none
theorem ysi{size:Nat}{x i:X}:zaa cf st (some d) (.iadr size x i)=yly st d size (x.ev st.sl) (i.ev st.sl):=by
 simp only[zaa,zao];unfold yly;generalize x.ev st.sl=p;generalize i.ev st.sl=q;cases p with
 |flat v=>
  cases q with
  |flat u=>cases v<;>cases u<;>first|rfl|(dsimp only;split<;>rfl)
  |_=>cases v<;>rfl
 |_=>
  cases q with
  |flat u=>cases u<;>first|rfl|(dsimp only;split<;>rfl)
  |_=>rfl
theorem ysj{size m:Nat}{cs:List PV}{k:IntKind}{i:Int}:yly st d size (.slc m cs) (.flat (.int k i))=if 0<=i/\i<m then some (st.put d (.elt (cs.drop (i.toNat* size))))else none:=rfl
theorem ysk{size b o m:Nat}{k:IntKind}{i:Int}:yly st d size (.bsl b o m) (.flat (.int k i))=if 0<=i/\i<m then some (st.put d (.ptr b (o+i.toNat* size)))else none:=rfl
def ysl(st:St)(d len size:Nat):PV->PV->Option St
 | .ptr b o,.flat (.int _ i)=>if 0<=i/\i<len then some (st.put d (.ptr b (o+i.toNat* size)))else none
 |_,_=>none
theorem ysm{len size:Nat}{x i:X}:zaa cf st (some d) (.paddr len size x i)=ysl st d len size (x.ev st.sl) (i.ev st.sl):=by
 simp only[zaa,zao];unfold ysl;generalize x.ev st.sl=p;generalize i.ev st.sl=q;cases p with
 |flat v=>
  cases q with
  |flat u=>cases v<;>cases u<;>first|rfl|(dsimp only;split<;>rfl)
  |_=>cases v<;>rfl
 |_=>
  cases q with
  |flat u=>cases u<;>first|rfl|(dsimp only;split<;>rfl)
  |_=>rfl
theorem ysn{len size b o:Nat}{k:IntKind}{i:Int}:ysl st d len size (.ptr b o) (.flat (.int k i))=if 0<=i/\i<len then some (st.put d (.ptr b (o+i.toNat* size)))else none:=rfl
def ylz(st:St)(d:Nat):Option UInt8->Option St
 |some c=>some (st.put d (.flat (.int .u8 c.toNat)))
 |none=>none
def kIdx(st:St)(d:Nat):PV->PV->Option St
 | .flat (.string s),.flat (.int _ i)=>if 0<=i then ylz st d (s[i.toNat]?)else none
 |_,_=>none
theorem yxy{x i:X}:zaa cf st (some d) (.idx x i)=kIdx st d (x.ev st.sl) (i.ev st.sl):=by
 simp only[zaa,zao];generalize x.ev st.sl=p;generalize i.ev st.sl=q;cases p with
 |flat v=>
  cases q with
  |flat u=>
   cases v<;>cases u<;>try rfl
   rename_i s k j;simp only[kIdx];split
   ·cases s[j.toNat]?<;>rfl
   ·rfl
  |_=>cases v<;>rfl
 |_=>cases q<;>rfl
theorem yxz{s:ByteArray}{k:IntKind}{i:Int}:kIdx st d (.flat (.string s)) (.flat (.int k i))=if 0<=i then ylz st d (s[i.toNat]?)else none:=rfl
theorem yso{c:UInt8}:ylz st d (some c)=some (st.put d (.flat (.int .u8 c.toNat))):=rfl
def yl0(st:St)(d:Nat)(agg:Bool)(len size:Nat):PV->PV->Option St
 | .agg cs,.flat (.int _ i)=>if 0<=i/\i<len/\i.toNat* size+size<=cs.length then(match agg with|true=>some (st.put d (.agg ((cs.drop (i.toNat* size)).take size)))|false=>kPut st d (cs[i.toNat* size]?))else none
 |_,_=>none
theorem ysp{agg:Bool}{len size:Nat}{x i:X}:zaa cf st (some d) (.idxA agg len size x i)=yl0 st d agg len size (x.ev st.sl) (i.ev st.sl):=by
 simp only[zaa,zao];generalize x.ev st.sl=p;generalize i.ev st.sl=q;cases p with
 |agg cs=>
  cases q with
  |flat u=>
   cases u<;>try rfl
   rename_i k j;simp only[yl0];split
   ·cases agg
    ·simp only[zbw]
    ·rfl
   ·rfl
  |_=>rfl
 |_=>cases q<;>rfl
theorem ysq{len size:Nat}{cs:List PV}{k:IntKind}{i:Int}:yl0 st d true len size (.agg cs) (.flat (.int k i))=if 0<=i/\i<len/\i.toNat* size+size<=cs.length then some (st.put d (.agg ((cs.drop (i.toNat* size)).take size)))else none:=rfl
theorem ysr{len size:Nat}{cs:List PV}{k:IntKind}{i:Int}:yl0 st d false len size (.agg cs) (.flat (.int k i))=if 0<=i/\i<len/\i.toNat* size+size<=cs.length then kPut st d (cs[i.toNat* size]?)else none:=rfl
def evO(sl:List (Nat×PV)):Option X->Option PV
 |none=>none
 |some x=>some (x.ev sl)
theorem y2f:evO sl none=none:=rfl
theorem y2g{x:X}:evO sl (some x)=some (x.ev sl):=rfl
theorem yfx{x:Option X}:x.map (·.ev sl)=evO sl x:=by cases x<;>rfl
def kSub(st:St)(d:Nat)(s:ByteArray):Option (Nat×Nat)->Option St
 |some (l,h)=>some (st.put d (.flat (.string (s.extract l h))))
 |none=>none
def kSlS(st:St)(d:Nat)(lo hi:Option PV):PV->Option St
 | .flat (.string s)=>kSub st d s (zbt s.size lo hi)
 |_=>none
theorem yfy{x:X}{lo hi:Option X}:zaa cf st (some d) (.sliceS x lo hi)=kSlS st d (evO st.sl lo) (evO st.sl hi) (x.ev st.sl):=by
 simp only[zaa,zao,yfx];generalize x.ev st.sl=p;cases p with
 |flat v=>
  cases v<;>try rfl
  rename_i s;simp only[kSlS];cases zbt s.size (evO st.sl lo) (evO st.sl hi)<;>rfl
 |_=>rfl
theorem yx0{lo hi:Option PV}{s:ByteArray}:kSlS st d lo hi (.flat (.string s))=kSub st d s (zbt s.size lo hi):=rfl
theorem yx1{s:ByteArray}{l h:Nat}:kSub st d s (some (l,h))=some (st.put d (.flat (.string (s.extract l h)))):=rfl
theorem yx2{m:Nat}:zbt m none none=some (0,m):=by simp[zbt]
theorem yx3{m:Nat}{k:IntKind}{i:Int}:zbt m none (some (.flat (.int k i)))=if 0<=i/\i<=m then some (0,i.toNat)else none:=by
 simp only[zbt,zpw,wat];split<;>rfl
theorem yx4{m:Nat}{k:IntKind}{i:Int}:zbt m (some (.flat (.int k i))) none=if 0<=i/\i<=m then some (i.toNat,m)else none:=by
 simp only[zbt,zpw,wat];split<;>rfl
theorem yx5{m:Nat}{k k':IntKind}{i j:Int}:zbt m (some (.flat (.int k i))) (some (.flat (.int k' j)))=if 0<=i/\i<=j/\j<=m then some (i.toNat,j.toNat)else none:=by
 simp only[zbt,zpw,wat];by_cases h:0<=j/\j<=(m:Int)
 ·rw[if_pos h]
  simp only[wat];by_cases h2:0<=i/\i<=((j.toNat:Nat):Int)
  ·rw[if_pos h2,if_pos (by omega)];rfl
  ·rw[if_neg h2,if_neg (by omega)];rfl
 ·rw[if_neg h,if_neg (by omega)];rfl
def yss(st:St)(d size m:Nat)(cs:List PV):Option (Nat×Nat)->Option St
 |some (l,h)=>some (st.put d (.slc (h - l) ((cs.take (h* size)).drop (l* size))))
 |none=>none
def yfz(st:St)(d size b o:Nat):Option (Nat×Nat)->Option St
 |some (l,h)=>some (st.put d (.bsl b (o+l* size) (h - l)))
 |none=>none
def kSl(st:St)(d size:Nat)(lo hi:Option PV):PV->Option St
 | .slc m cs=>if cs.length=m* size/\0<size then yss st d size m cs (zbt m lo hi)else none
 | .bsl b o m=>yfz st d size b o (zbt m lo hi)
 |_=>none
theorem yl1{size:Nat}{x:X}{lo hi:Option X}:zaa cf st (some d) (.slice size x lo hi)=kSl st d size (evO st.sl lo) (evO st.sl hi) (x.ev st.sl):=by
 simp only[zaa,zao,yfx];generalize x.ev st.sl=p;cases p with
 |slc m cs=>
  simp only[kSl];split
  ·cases zbt m (evO st.sl lo) (evO st.sl hi)<;>rfl
  ·rfl
 |bsl b o m=>simp only[kSl];cases zbt m (evO st.sl lo) (evO st.sl hi)<;>rfl
 |_=>rfl
theorem y2h{size m:Nat}{cs:List PV}{lo hi:Option PV}:kSl st d size lo hi (.slc m cs)=if cs.length=m* size/\0<size then yss st d size m cs (zbt m lo hi)else none:=rfl
theorem y2i{size b o m:Nat}{lo hi:Option PV}:kSl st d size lo hi (.bsl b o m)=yfz st d size b o (zbt m lo hi):=rfl
theorem yst{size m l h:Nat}{cs:List PV}:yss st d size m cs (some (l,h))=some (st.put d (.slc (h - l) ((cs.take (h* size)).drop (l* size)))):=rfl
theorem ysu{size b o l h:Nat}:yfz st d size b o (some (l,h))=some (st.put d (.bsl b (o+l* size) (h - l))):=rfl
def kSlP(st:St)(d len size:Nat)(lo hi:Option PV):PV->Option St
 | .ptr b o=>yfz st d size b o (zbt len lo hi)
 |_=>none
theorem yf0{len size:Nat}{x:X}{lo hi:Option X}:zaa cf st (some d) (.sliceP len size x lo hi)=kSlP st d len size (evO st.sl lo) (evO st.sl hi) (x.ev st.sl):=by
 simp only[zaa,zao,yfx];generalize x.ev st.sl=p;cases p with
 |ptr b o=>simp only[kSlP];cases zbt len (evO st.sl lo) (evO st.sl hi)<;>rfl
 |_=>rfl
theorem yx6{len size b o:Nat}{lo hi:Option PV}:kSlP st d len size lo hi (.ptr b o)=yfz st d size b o (zbt len lo hi):=rfl
def kExt(st:St)(d i:Nat):PV->Option St
 | .tup vs=>kPut st d (vs[i]?)
 |_=>none
theorem yx7{x:X}{i:Nat}:zaa cf st (some d) (.ext x i)=kExt st d i (x.ev st.sl):=by
 simp only[zaa,zao];generalize x.ev st.sl=p;cases p with
 |tup vs=>simp only[kExt,zbw]
 |_=>rfl
theorem yx8{i:Nat}{vs:List PV}:kExt st d i (.tup vs)=kPut st d (vs[i]?):=rfl
def kLen(st:St)(d:Nat):PV->Option St
 | .slc m _=>some (st.put d (.flat (.int .i64 m)))
 | .bsl _ _ m=>some (st.put d (.flat (.int .i64 m)))
 | .flat (.slice none 0 0)=>some (st.put d (.flat (.int .i64 0)))
 |_=>none
theorem yx9{x:X}:zaa cf st (some d) (.len x)=kLen st d (x.ev st.sl):=by
 simp only[zaa,zao];unfold kLen;generalize x.ev st.sl=p;split<;>first|rfl|(split<;>first|rfl|simp_all)
theorem yya:kLen st d (.flat (.slice none 0 0))=some (st.put d (.flat (.int .i64 0))):=rfl
theorem yyb{m:Nat}{cs:List PV}:kLen st d (.slc m cs)=some (st.put d (.flat (.int .i64 m))):=rfl
theorem yyc{b o m:Nat}:kLen st d (.bsl b o m)=some (st.put d (.flat (.int .i64 m))):=rfl
def ysv(st:St)(d:Nat):PV->Option St
 | .flat (.string s)=>some (st.put d (.flat (.int .i64 s.size)))
 |_=>none
theorem ysw{x:X}:zaa cf st (some d) (.lenS x)=ysv st d (x.ev st.sl):=by
 simp only[zaa,zao];unfold ysv;generalize x.ev st.sl=p;cases p with
 |flat v=>cases v<;>first|rfl|(dsimp only;split<;>rfl)|(dsimp only[zbw,zm3];rw[zbw])
 |_=>first|rfl|(dsimp only;split<;>rfl)|(dsimp only;rw[zbw])
theorem ysx{s:ByteArray}:ysv st d (.flat (.string s))=some (st.put d (.flat (.int .i64 s.size))):=rfl
def kMvS(st:St)(d:Nat):PV->Option St
 | .flat (.string s)=>some (st.put d (.flat (.string s)))
 |_=>none
theorem yyd{x:X}:zaa cf st (some d) (.mvS x)=kMvS st d (x.ev st.sl):=by
 simp only[zaa,zao];unfold kMvS;generalize x.ev st.sl=p;cases p with
 |flat v=>cases v<;>first|rfl|(dsimp only;split<;>rfl)|(dsimp only[zbw,zm3];rw[zbw])
 |_=>first|rfl|(dsimp only;split<;>rfl)|(dsimp only;rw[zbw])
theorem yye{s:ByteArray}:kMvS st d (.flat (.string s))=some (st.put d (.flat (.string s))):=rfl
def kMm(st:St)(d:Nat)(mx:Bool):PV->PV->Option St
 | .flat (.int k a),.flat (.int k' b)=>if k=k' then some (st.put d (.flat (.int k (if mx then(if b>a then b else a)else(if b<a then b else a)))))else none
 |_,_=>none
theorem y2j{mx:Bool}{x y:X}:zaa cf st (some d) (.mm mx x y)=kMm st d mx (x.ev st.sl) (y.ev st.sl):=by
 simp only[zaa,zao];unfold kMm;generalize x.ev st.sl=p;generalize y.ev st.sl=q;cases p with
 |flat v=>
  cases q with
  |flat u=>cases v<;>cases u<;>first|rfl|(dsimp only;split<;>rfl)
  |_=>cases v<;>rfl
 |_=>
  cases q with
  |flat u=>cases u<;>first|rfl|(dsimp only;split<;>rfl)
  |_=>rfl
theorem y2k{mx:Bool}{k k':IntKind}{a b:Int}:kMm st d mx (.flat (.int k a)) (.flat (.int k' b))=if k=k' then some (st.put d (.flat (.int k (if mx then(if b>a then b else a)else(if b<a then b else a)))))else none:=rfl
theorem ysy{f:FuncId}{cs:List X}:zaa cf st (some d) (.clos f cs)=some (st.put d (.clo f (evL st.sl cs))):=by
 simp only[zaa,zao,ypx];rfl
def zga(ow:List Loc)(al:List (Nat×Loc))(t:Nat):Option Loc:=if owns ow (.slot t)then some (.slot t)else alOf t al
where alOf (t:Nat):List (Nat×Loc)->Option Loc
 |[]=>none
 |(u,L)::r=>if u=t then some L else alOf t r
theorem yl2{t:Nat}:zga.alOf t []=none:=rfl
theorem z4p{t u:Nat}{L:Loc}{r:List (Nat×Loc)}:zga.alOf t ((u,L)::r)=if u=t then some L else zga.alOf t r:=rfl
theorem yf1{t:Nat}:∀l:List (Nat×Loc),(l.find? fun p=>p.1==t).map (·.2)=zga.alOf t l
 |[]=>rfl
 |(u,L)::r=>by
  rw[z4p,<-yf1 r,List.find?_cons];by_cases h:u=t
  ·subst h;simp
  ·have:(u==t)=false:=by simpa using h
   simp only[this,h,if_false]
theorem ycm{t:Nat}:zga ow al t=if owns ow (.slot t)then some (.slot t)else zga.alOf t al:=rfl
theorem z4q{t:Nat}:origin st t=zga st.ow st.al t:=by
 unfold origin zga;rw[yf1];by_cases h:Loc.slot t∈st.ow
 ·rw[if_pos h,if_pos (zdu.2 h)]
 ·rw[if_neg h,if_neg (fun k=>h (zdu.1 k))]
def zer(L:Loc)(l:List Loc):List Loc:=l.filter (·≠L)
theorem yf2{L:Loc}:zer L []=[]:=rfl
theorem yl3{i j:Nat}{r:List Loc}:zer (.slot i) (.slot j::r)=if j=i then zer (.slot i) r else .slot j::zer (.slot i) r:=by
 by_cases h:j=i<;>simp[zer,h]
theorem z1x{i b o:Nat}{r:List Loc}:zer (.slot i) (.cell b o::r)=.cell b o::zer (.slot i) r:=by simp[zer]
theorem yl4{i b o:Nat}{r:List Loc}:zer (.cell b o) (.slot i::r)=.slot i::zer (.cell b o) r:=by simp[zer]
theorem zq4{b o b' o':Nat}{r:List Loc}:zer (.cell b o) (.cell b' o'::r)=if b'=b/\o'=o then zer (.cell b o) r else .cell b' o'::zer (.cell b o) r:=by
 by_cases h1:b'=b<;>by_cases h2:o'=o<;>simp[zer,h1,h2]
def zq5(L:Loc)(l:List (Nat×Loc)):List (Nat×Loc):=l.filter fun p=>p.2≠L
def zp5(st:St)(d b o:Nat):Bool->Option PV->Option St
 |true,some v=>some ⟨(d,v)::st.sl,.slot d::zer (.cell b o) (zac d st.ow),[],st.bx⟩
 |_,_=>none
def yf3(st:St)(d:Nat):PV->Option St
 | .ptr b o=>zp5 st d b o (owns st.ow (.cell b o)) (zv9 false 1 o (zes st.bx b))
 |_=>none
theorem yl5{a:X}:zaa cf st (some d) (.loadM a)=yf3 st d (a.ev st.sl):=by
 simp only[zaa,wat];generalize a.ev st.sl=p;cases p with
 |ptr b o=>
  simp only[yf3];have ho:owns st.ow (.cell b o)=decide (.cell b o∈st.ow):=by
   by_cases h:Loc.cell b o∈st.ow
   ·rw[zdu.2 h];simp[h]
   ·have:owns st.ow (.cell b o)=false:=by cases hh:owns st.ow (.cell b o)with|false=>rfl|true=>exact absurd (zdu.1 hh) h
    rw[this];simp[h]
  rw[ho];cases h:zes st.bx b with
  |none=>by_cases hm:Loc.cell b o∈st.ow<;>simp[hm,zp5,zv9]
  |some q=>
   obtain⟨e,cs⟩:=q;simp only[wat,z7i];have hr:(if o+1<=cs.length then cs[o]? else none)=cs[o]?:=by
    by_cases hl:o+1<=cs.length
    ·rw[if_pos hl]
    ·rw[if_neg hl,wb8 (by omega)]
   rw[hr];cases h2:cs[o]? with
   |none=>by_cases hm:Loc.cell b o∈st.ow<;>simp[hm,zp5]
   |some v=>
    by_cases hm:Loc.cell b o∈st.ow
    ·simp only[hm,wat,if_true,decide_true,zp5,zer];rfl
    ·simp[hm,zp5]
 |_=>rfl
theorem yl6{b o:Nat}:yf3 st d (.ptr b o)=zp5 st d b o (owns st.ow (.cell b o)) (zv9 false 1 o (zes st.bx b)):=rfl
theorem yf4{b o:Nat}{v:PV}:zp5 st d b o true (some v)=some ⟨(d,v)::st.sl,.slot d::zer (.cell b o) (zac d st.ow),[],st.bx⟩:=rfl
theorem ycn{L:Loc}:zq5 L []=[]:=rfl
theorem z7j{L K:Loc}{t:Nat}{r:List (Nat×Loc)}:zq5 L ((t,K)::r)=if K=L then zq5 L r else(t,K)::zq5 L r:=by
 by_cases h:K=L<;>simp[zq5,h]
def kApp(st:St)(d:Nat)(byte:Bool)(size:Nat)(L:Loc):Option PV->PV->Option St
 |some (.slc m cs),.slc m' ds=>if m+m'<=bound/\cs.length=m* size/\ds.length=m'* size/\owns st.ow L=true/\tyOk byte size cs ds=true then
  some ⟨(d,.slc (m+m') (cs++ds))::st.sl,.slot d::zac d (zer L st.ow),za8 d (zq5 L st.al),st.bx⟩else none
 |_,_=>none
def yl7(st:St)(d:Nat)(byte:Bool)(size:Nat)(y:PV):Option Loc->Option St
 |some L=>kApp st d byte size L (pvAt st L) y
 |none=>none
def yf5(st:St)(d:Nat)(byte:Bool)(size:Nat):PV->Option St
 | .slc m ds=>if m<=bound/\ds.length=m* size/\tyOk byte size [] ds=true then(if m=0 then some (st.put d (.flat (.slice none 0 0)))else some (st.putOwn d (.slc m ds)))else none
 |_=>none
theorem ysz{byte:Bool}{size m:Nat}{ds:List PV}:yf5 st d byte size (.slc m ds)=if m<=bound/\ds.length=m* size/\tyOk byte size [] ds=true then(if m=0 then some (st.put d (.flat (.slice none 0 0)))else some (st.putOwn d (.slc m ds)))else none:=rfl
theorem z4r{byte:Bool}{size:Nat}{x y:X}:zaa cf st (some d) (.append byte size x y)=if zby (x.ev st.sl)then yf5 st d byte size (y.ev st.sl).weak else(match x with| .t s=>yl7 st d byte size (y.ev st.sl).weak (zga st.ow st.al s)| .c _=>none):=by
 simp only[zaa];split
 ·generalize (y.ev st.sl).weak=q
  cases q with
  |slc m ds=>
   simp only[yf5];split
   ·rw[wau];split<;>rfl
   ·rfl
  |_=>rfl
 ·cases x with
  |c v=>rfl
  |t s=>
   simp only[z4q];cases zga st.ow st.al s with
   |none=>rfl
   |some L=>
    simp only[wat,yl7];generalize pvAt st L=p;generalize (y.ev st.sl).weak=q;cases p with
    |none=>cases q<;>rfl
    |some p=>
     cases p with
     |slc m cs=>
      cases q with
      |slc m' ds=>simp only[kApp,zdu];rfl
      |_=>rfl
     |_=>cases q<;>rfl
theorem ys0{byte:Bool}{size s:Nat}{y:X}:zaa cf st (some d) (.append byte size (.t s) y)=if zby (look st.sl s)then yf5 st d byte size (y.ev st.sl).weak else yl7 st d byte size (y.ev st.sl).weak (zga st.ow st.al s):=z4r
theorem ys1{byte:Bool}{size:Nat}{v:PV}{y:X}:zaa cf st (some d) (.append byte size (.c v) y)=if zby v then yf5 st d byte size (y.ev st.sl).weak else none:=z4r
theorem ys2{byte:Bool}{size:Nat}{y:PV}{L:Loc}:yl7 st d byte size y (some L)=kApp st d byte size L (pvAt st L) y:=rfl
theorem yyf{byte:Bool}{size m m':Nat}{L:Loc}{cs ds:List PV}:kApp ⟨sl,ow,al,bx⟩ d byte size L (some (.slc m cs)) (.slc m' ds)=if m+m'<=bound/\cs.length=m* size/\ds.length=m'* size/\owns ow L=true/\tyOk byte size cs ds=true then some ⟨(d,.slc (m+m') (cs++ds))::sl,.slot d::zac d (zer L ow),za8 d (zq5 L al),bx⟩else none:=rfl
theorem yyg{i:Nat}:pvAt ⟨sl,ow,al,bx⟩ (.slot i)=some (look sl i):=rfl
def yyh(o:Nat):Option (Nat×List PV)->Option PV
 |some (_,cs)=>cs[o]?
 |none=>none
theorem yyi{b o:Nat}:pvAt ⟨sl,ow,al,bx⟩ (.cell b o)=yyh o (bx[b]?):=by
 simp only[pvAt];cases bx[b]?<;>rfl
theorem ys3{o e:Nat}{cs:List PV}:yyh o (some (e,cs))=cs[o]?:=rfl
def kApS(st:St)(d:Nat)(L:Loc):Option PV->PV->Option St
 |some (.slc m cs),.flat (.string z)=>if m+z.size<=bound/\cs.length=m/\owns st.ow L=true/\zj1 cs=true then
  some ⟨(d,.slc (m+z.size) (cs++zhh z))::st.sl,.slot d::zac d (zer L st.ow),za8 d (zq5 L st.al),st.bx⟩else none
 |_,_=>none
def yl8(st:St)(d:Nat)(y:PV):Option Loc->Option St
 |some L=>kApS st d L (pvAt st L) y
 |none=>none
def yf6(st:St)(d:Nat):PV->Option St
 | .flat (.string z)=>if z.size<=bound then(if z.size=0 then some (st.put d (.flat (.slice none 0 0)))else some (st.putOwn d (.slc z.size (zhh z))))else none
 |_=>none
theorem yf7{z:ByteArray}:yf6 st d (.flat (.string z))=if z.size<=bound then(if z.size=0 then some (st.put d (.flat (.slice none 0 0)))else some (st.putOwn d (.slc z.size (zhh z))))else none:=rfl
theorem zzm{x y:X}:zaa cf st (some d) (.appendS x y)=if zby (x.ev st.sl)then yf6 st d (y.ev st.sl)else(match x with| .t s=>yl8 st d (y.ev st.sl) (zga st.ow st.al s)| .c _=>none):=by
 simp only[zaa];split
 ·generalize y.ev st.sl=q
  split
  ·rw[yf7]
   split
   ·rw[wau];split<;>rfl
   ·rfl
  ·unfold yf6
   split<;>first|rfl|simp_all
 ·cases x with
  |c v=>rfl
  |t s=>
   simp only[z4q];cases zga st.ow st.al s with
   |none=>rfl
   |some L=>
    simp only[wat,yl8];generalize pvAt st L=p;generalize y.ev st.sl=q;cases p with
    |none=>cases q<;>rfl
    |some p=>
     cases p with
     |slc m cs=>
      cases q with
      |flat v=>cases v<;>first|rfl|(simp only[kApS,zdu];rfl)
      |_=>rfl
     |_=>cases q<;>rfl
theorem ys4{s:Nat}{y:X}:zaa cf st (some d) (.appendS (.t s) y)=if zby (look st.sl s)then yf6 st d (y.ev st.sl)else yl8 st d (y.ev st.sl) (zga st.ow st.al s):=zzm
theorem ys5{v:PV}{y:X}:zaa cf st (some d) (.appendS (.c v) y)=if zby v then yf6 st d (y.ev st.sl)else none:=zzm
theorem ys6{y:PV}{L:Loc}:yl8 st d y (some L)=kApS st d L (pvAt st L) y:=rfl
theorem yyj{m:Nat}{L:Loc}{cs:List PV}{z:ByteArray}:kApS ⟨sl,ow,al,bx⟩ d L (some (.slc m cs)) (.flat (.string z))=if m+z.size<=bound/\cs.length=m/\owns ow L=true/\zj1 cs=true then some ⟨(d,.slc (m+z.size) (cs++zhh z))::sl,.slot d::zac d (zer L ow),za8 d (zq5 L al),bx⟩else none:=rfl
def kRes(st:St):Option Nat->List PV->Bool->St
 |none,_,_=>st
 |some d,vs,true=>st.putOwn d (zef vs)
 |some d,vs,false=>st.put d (zef vs)
theorem yyk{vs:List PV}{os:Bool}:kRes st none vs os=st:=rfl
theorem yyl{vs:List PV}:kRes st (some d) vs true=st.putOwn d (zef vs):=rfl
theorem yym{vs:List PV}:kRes st (some d) vs false=st.put d (zef vs):=rfl
def zpc(al:List (Nat×Loc)):List (Nat×Loc):=al.filter fun p=>!zad p.2
theorem zag:zpc []=[]:=rfl
theorem yl9{t i:Nat}{r:List (Nat×Loc)}:zpc ((t,.slot i)::r)=(t,.slot i)::zpc r:=by simp[zpc,zad]
theorem yma{t b o:Nat}{r:List (Nat×Loc)}:zpc ((t,.cell b o)::r)=zpc r:=by simp[zpc,zad]
def yf8(st:St)(dst:Option Nat):Option Ans->Option St
 |some (vs,os,bx,oc)=>some (kRes ⟨st.sl,zfh oc++zir st.ow,zpc st.al,bx⟩ dst vs os)
 |none=>none
theorem yf9{dst:Option Nat}{f:FuncId}{args:List PV}:callBx cf ⟨sl,ow,al,bx⟩ dst f args=yf8 ⟨sl,ow,al,bx⟩ dst (cf f args bx (zfh ow)):=by
 simp only[callBx,zm2];cases cf f args bx (zfh ow)with
 |none=>rfl
 |some r=>
  obtain⟨vs,os,bx',oc⟩:=r;simp only[wau,yf8,zv8,zpc];cases dst with
  |none=>rfl
  |some d=>cases os<;>rfl
theorem ymb{dst:Option Nat}{vs:List PV}{os:Bool}{bx':zae}{oc:List Loc}:yf8 ⟨sl,ow,al,bx⟩ dst (some (vs,os,bx',oc))=some (kRes ⟨sl,zfh oc++zir ow,zpc al,bx'⟩ dst vs os):=rfl
def z9y(cf:Callee)(st:St)(dst:Option Nat)(f:FuncId)(args:List PV):Option Ans->Option St
 |some (vs,os,_,_)=>if zcd vs then some (kRes st dst vs os)else callBx cf st dst f args
 |none=>none
def ymc(cf:Callee)(st:St)(dst:Option Nat)(f:FuncId)(args:List PV):Bool->Option St
 |true=>z9y cf st dst f args (cf f args [] [])
 |false=>callBx cf st dst f args
theorem yga{dst:Option Nat}{f:FuncId}{args:List PV}:callSt cf st dst f args=ymc cf st dst f args (zcd args):=by
 unfold callSt;cases zcd args with
 |false=>rfl
 |true=>
  simp only[if_true,ymc];cases cf f args [] []with
  |none=>rfl
  |some r=>
   obtain⟨vs,os,bx',oc⟩:=r;simp only[wat,z9y];split
   ·cases dst with
    |none=>rfl
    |some d=>cases os<;>rfl
   ·rfl
theorem ys7{dst:Option Nat}{f:FuncId}{args:List PV}:ymc cf st dst f args true=z9y cf st dst f args (cf f args [] []):=rfl
theorem ys8{dst:Option Nat}{f:FuncId}{args:List PV}:ymc cf st dst f args false=callBx cf st dst f args:=rfl
theorem ymd{dst:Option Nat}{f:FuncId}{args vs:List PV}{os:Bool}{bx':zae}{oc:List Loc}:z9y cf st dst f args (some (vs,os,bx',oc))=if zcd vs then some (kRes st dst vs os)else callBx cf st dst f args:=rfl
theorem ys9{dst:Option Nat}{f:FuncId}{args:List X}:zaa cf st dst (.call f args)=callSt cf st dst f (evA st.sl args):=by
 simp only[zaa,z4l]
def ygb(cf:Callee)(st:St)(dst:Option Nat)(args:List PV):PV->Option St
 | .clo f caps=>if f=yldF then none else callSt cf st dst f (args++caps)
 | .yld b=>callBx cf st dst yldF (.yld b::args)
 |_=>none
theorem yme{dst:Option Nat}{g:X}{args:List X}:zaa cf st dst (.callv g args)=ygb cf st dst (evA st.sl args) (g.ev st.sl):=by
 simp only[zaa,z4l];generalize g.ev st.sl=p;cases p<;>rfl
theorem ymf{dst:Option Nat}{args caps:List PV}{f:FuncId}:ygb cf st dst args (.clo f caps)=if f=yldF then none else callSt cf st dst f (args++caps):=rfl
theorem ymg{dst:Option Nat}{args:List PV}{b:Nat}:ygb cf st dst args (.yld b)=callBx cf st dst yldF (.yld b::args):=rfl
theorem sg_n{dst:Option Nat}{op:COp}:stepG cf st ⟨dst,none,op⟩=zaa cf st dst op:=rfl
def ygc(cf:Callee)(st:St)(dst:Option Nat)(op:COp)(want:Bool):PV->Option St
 | .flat (.bool b)=>if b=want then zaa cf st dst op else some (st.putD dst (.tup []))
 | .tup []=>some (st.putD dst (.tup []))
 |_=>none
theorem sg_s{dst:Option Nat}{op:COp}{s:Nat}{want:Bool}:stepG cf st ⟨dst,some (s,want),op⟩=ygc cf st dst op want (look st.sl s):=by
 simp only[stepG,zej];generalize look st.sl s=p;cases p with
 |flat v=>cases v<;>first|rfl|(rename_i b;cases b<;>cases want<;>rfl)
 |tup l=>cases l<;>rfl
 |_=>rfl
theorem ymh{dst:Option Nat}{op:COp}{b want:Bool}:ygc cf st dst op want (.flat (.bool b))=if b=want then zaa cf st dst op else some (st.putD dst (.tup [])):=rfl
theorem ymi{dst:Option Nat}{op:COp}{want:Bool}:ygc cf st dst op want (.tup [])=some (st.putD dst (.tup [])):=rfl
def kOps(cf:Callee)(r:List COper):Option St->Option St
 |some st=>zdc cf r st
 |none=>none
theorem yta:zdc cf [] st=some st:=rfl
theorem ymj{o:COper}{r:List COper}:zdc cf (o::r) st=kOps cf r (stepG cf st o):=by
 simp only[zdc];cases stepG cf st o<;>rfl
theorem yyn{r:List COper}:kOps cf r (some st)=zdc cf r st:=rfl
def kPre(cf:Callee)(r:List COper):Option St->Option St
 |some st=>zij cf r st
 |none=>none
theorem pre_nil:zij cf [] st=some st:=rfl
theorem ymk{o:COper}{r:List COper}:zij cf (o::r) st=kPre cf r (zfg cf st o):=by
 simp only[zij];cases zfg cf st o<;>rfl
theorem yyo{r:List COper}:kPre cf r (some st)=zij cf r st:=rfl
def kDyn(cf:Callee)(st:St)(dst:Option Nat)(op:COp):Bool->Option St
 |true=>zaa cf st dst op
 |false=>none
theorem yyp{dst:Option Nat}{op:COp}:kDyn cf st dst op true=zaa cf st dst op:=rfl
theorem sp_n{dst:Option Nat}{op:COp}:zfg cf st ⟨dst,none,op⟩=kDyn cf st dst op (za6 cf st.sl op):=by
 simp only[zfg,zej,wat,if_true];cases za6 cf st.sl op<;>rfl
def z1y(cf:Callee)(st:St)(dst:Option Nat)(op:COp)(want:Bool):PV->Option St
 | .flat (.bool b)=>if b=want then kDyn cf st dst op (za6 cf st.sl op)else some (st.putD dst (.tup []))
 | .tup []=>some (st.putD dst (.tup []))
 |_=>none
theorem sp_s{dst:Option Nat}{op:COp}{s:Nat}{want:Bool}:zfg cf st ⟨dst,some (s,want),op⟩=z1y cf st dst op want (look st.sl s):=by
 simp only[zfg,zej];generalize look st.sl s=p;cases p with
 |flat v=>
  cases v<;>first|rfl|skip
  rename_i b;cases b<;>cases want<;>first|rfl|(simp only[z1y,wat,BEq.rfl,if_true];cases za6 cf st.sl op<;>rfl)
 |tup l=>cases l<;>rfl
 |_=>rfl
theorem ygd{dst:Option Nat}{op:COp}{b want:Bool}:z1y cf st dst op want (.flat (.bool b))=if b=want then kDyn cf st dst op (za6 cf st.sl op)else some (st.putD dst (.tup [])):=rfl
theorem yge{dst:Option Nat}{op:COp}{want:Bool}:z1y cf st dst op want (.tup [])=some (st.putD dst (.tup [])):=rfl
theorem y2l{x:X}:za6 cf sl (.mv x)=true:=rfl
theorem yyq{s:Nat}:za6 cf sl (.mvA s)=true:=rfl
theorem yyr{x:X}:za6 cf sl (.asg x)=true:=rfl
theorem ytb{a b c:X}:za6 cf sl (.pick a b c)=true:=rfl
theorem yys{o:BinOp}{x y:X}:za6 cf sl (.bin o x y)=true:=rfl
theorem yyt{b:Bool}{ks:List LK}{x y:X}:za6 cf sl (.eqS b ks x y)=true:=rfl
theorem yyu{b:Bool}{x y:X}:za6 cf sl (.beq b x y)=true:=rfl
theorem yyv{x:X}:za6 cf sl (.mvS x)=true:=rfl
theorem ytc{x:X}:za6 cf sl (.nilc x)=true:=rfl
theorem y2m{o:UnOp}{x:X}:za6 cf sl (.un o x)=true:=rfl
theorem ytd{k:IntKind}{x:X}:za6 cf sl (.conv k x)=true:=rfl
theorem yyw{x:X}:za6 cf sl (.b2s x)=true:=rfl
theorem yml{zs:List PV}{ps:List (Nat×Nat×X)}:za6 cf sl (.build zs ps)=true:=rfl
theorem yte{b:Bool}{m k:Nat}{zs:List PV}{ps:List (Nat×Nat×X)}:za6 cf sl (.mksl b m k zs ps)=true:=rfl
theorem ytf{g:Bool}{m:Nat}{a:X}:za6 cf sl (.load g m a)=true:=rfl
theorem ymm{a:X}:za6 cf sl (.loadA a)=true:=rfl
theorem ytg{o:Nat}{a:X}:za6 cf sl (.fadr o a)=true:=rfl
theorem yyx{g:Bool}{o m:Nat}{a:X}:za6 cf sl (.fld g o m a)=true:=rfl
theorem yth{m:Nat}{x i:X}:za6 cf sl (.iadr m x i)=true:=rfl
theorem yyy{x i:X}:za6 cf sl (.idx x i)=true:=rfl
theorem yti{g:Bool}{m k:Nat}{x i:X}:za6 cf sl (.idxA g m k x i)=true:=rfl
theorem ymn{m k:Nat}{x i:X}:za6 cf sl (.paddr m k x i)=true:=rfl
theorem ygf{m k:Nat}{x:X}{lo hi:Option X}:za6 cf sl (.sliceP m k x lo hi)=true:=rfl
theorem ymo{m:Nat}{x:X}{lo hi:Option X}:za6 cf sl (.slice m x lo hi)=true:=rfl
theorem ygg{x:X}{lo hi:Option X}:za6 cf sl (.sliceS x lo hi)=true:=rfl
theorem yyz{x:X}{i:Nat}:za6 cf sl (.ext x i)=true:=rfl
theorem yy0{x:X}:za6 cf sl (.len x)=true:=rfl
theorem ytj{x:X}:za6 cf sl (.lenS x)=true:=rfl
theorem y2n{b:Bool}{x y:X}:za6 cf sl (.mm b x y)=true:=rfl
theorem ytk{f:FuncId}{cs:List X}:za6 cf sl (.clos f cs)=true:=rfl
theorem ymp{e:Nat}{zs:List PV}:za6 cf sl (.alloc e zs)=zvk zs:=rfl
theorem yy1{e m:Nat}{x:X}:za6 cf sl (.box e m x)=zvk (x.ev sl).cells:=rfl
theorem ytl{f:FuncId}{args:List X}:za6 cf sl (.call f args)=zc7 cf f (evA sl args):=by simp only[za6,z4l]
theorem ymq{g:X}{args:List X}:za6 cf sl (.callv g args)=match g.ev sl with| .clo f caps=>f !=yldF&&zc7 cf f (evA sl args++caps)|_=>false:=by
 simp only[za6,z4l];rfl
def ygh:Option Ans->Bool
 |some (vs,_)=>zcd vs
 |none=>false
theorem z4s{f:FuncId}{args:List PV}:zc7 cf f args=(zcd args&&ygh (cf f args [] [])):=by
 unfold zc7 ygh;cases cf f args [] []<;>rfl
theorem ymr{vs:List PV}{r:Bool×zae×List Loc}:ygh (some (vs,r))=zcd vs:=rfl
def kReg(live:List Nat):Option St->Option (Out×St)
 |some st=>some (.normal,st.keep live)
 |none=>none
theorem yy2:kReg live (some st)=some (.normal,st.keep live):=rfl
def ytm(cf:Callee)(live:List Nat)(tail:List COper):Option St->Option (Out×St)
 |some st=>kReg live (zdc cf tail st)
 |none=>none
theorem ytn{tail:List COper}:ytm cf live tail (some st)=kReg live (zdc cf tail st):=rfl
noncomputable def kT(cf:Callee)(live:List Nat)(t:BT):Option St->Option St
 |some st=>evT cf live t st
 |none=>none
theorem kT_s{t:BT}:kT cf live t (some st)=evT cf live t st:=rfl
theorem yy3:evT cf live .done st=some (st.keep live):=rfl
theorem y2o{o:COper}{t:BT}:evT cf live (.one o t) st=kT cf live t (stepG cf st o):=by
 simp only[evT];cases stepG cf st o<;>rfl
theorem y2p{o:COper}{t r:BT}:evT cf live (.two o t r) st=same (kT cf live t (stepG cf st o)) (evT cf live r st):=by
 simp only[evT];cases stepG cf st o<;>rfl
theorem zwa{st:St}:same (some st) (some st)=some st:=if_pos rfl
def yms:Option St->Option (Out×St)
 |some st=>some (.normal,st)
 |none=>none
theorem yto:yms (some st)=some (.normal,st):=rfl
theorem y2q:evQ cf [] st=some st:=rfl
noncomputable def kQ(cf:Callee)(r:List COper):Option St->Option St
 |some st=>evQ cf r st
 |none=>none
theorem kQ_s{r:List COper}:kQ cf r (some st)=evQ cf r st:=rfl
theorem yy4{o:COper}{r:List COper}:evQ cf (o::r) st=kQ cf r (zd6 cf st o):=by
 simp only[evQ];cases zd6 cf st o<;>rfl
noncomputable def kQc(st:St)(d:Nat):Option St->Option St
 |some s'=>kQd st d s' (s'.bx=st.bx) (s'.ow.filter zad=st.ow.filter zad)
 |none=>none
where
 kQd (st:St) (d:Nat) (s':St) (p q:Prop):Option St:=open Classical in if p/\q then some (st.put d (look s'.sl d))else none
theorem y2r{s1:List (Nat×PV)}{o1:List Loc}{a1:List (Nat×Loc)}{b1:zae}{d:Nat}:kQc ⟨sl,ow,al,bx⟩ d (some ⟨s1,o1,a1,b1⟩)=kQc.kQd ⟨sl,ow,al,bx⟩ d ⟨s1,o1,a1,b1⟩ (b1=bx) (zfh o1=zfh ow):=by
 simp only[kQc,zm2]
theorem y2s{d:Nat}{s1:List (Nat×PV)}{o1:List Loc}{a1:List (Nat×Loc)}{b1:zae}:kQc.kQd st d ⟨s1,o1,a1,b1⟩ True True=some (st.put d (look s1 d)):=by
 unfold kQc.kQd;rw[if_pos ⟨trivial,trivial⟩]
theorem ytp{d:Nat}{g:Option (Nat×Bool)}{f:FuncId}{az:List X}:zd6 cf st ⟨some d,g,.call f az⟩=kQc st d (stepG cf st ⟨some d,g,.call f az⟩):=by
 unfold zd6;dsimp only;cases stepG cf st ⟨some d,g,.call f az⟩with
 |none=>rfl
 |some s'=>
  rw[wat];unfold kQc kQc.kQd;dsimp only;by_cases h:s'.bx=st.bx/\s'.ow.filter zad=st.ow.filter zad
  ·rw[if_pos h,if_pos h]
  ·rw[if_neg h,if_neg h]
theorem y2t{d:Option Nat}{g:Option (Nat×Bool)}{x:X}:zd6 cf st ⟨d,g,.mv x⟩=stepG cf st ⟨d,g,.mv x⟩:=by cases d<;>rfl
theorem yy5{d:Option Nat}{g:Option (Nat×Bool)}{x:X}:zd6 cf st ⟨d,g,.asg x⟩=stepG cf st ⟨d,g,.asg x⟩:=by cases d<;>rfl
theorem ytq{d:Option Nat}{g:Option (Nat×Bool)}{a b c:X}:zd6 cf st ⟨d,g,.pick c a b⟩=stepG cf st ⟨d,g,.pick c a b⟩:=by cases d<;>rfl
theorem yy6{d:Option Nat}{g:Option (Nat×Bool)}{o:BinOp}{x y:X}:zd6 cf st ⟨d,g,.bin o x y⟩=stepG cf st ⟨d,g,.bin o x y⟩:=by cases d<;>rfl
theorem yy7{d:Option Nat}{g:Option (Nat×Bool)}{b:Bool}{ks:List LK}{x y:X}:zd6 cf st ⟨d,g,.eqS b ks x y⟩=stepG cf st ⟨d,g,.eqS b ks x y⟩:=by cases d<;>rfl
theorem yy8{d:Option Nat}{g:Option (Nat×Bool)}{b:Bool}{x y:X}:zd6 cf st ⟨d,g,.beq b x y⟩=stepG cf st ⟨d,g,.beq b x y⟩:=by cases d<;>rfl
theorem yy9{d:Option Nat}{g:Option (Nat×Bool)}{x:X}:zd6 cf st ⟨d,g,.mvS x⟩=stepG cf st ⟨d,g,.mvS x⟩:=by cases d<;>rfl
theorem ytr{d:Option Nat}{g:Option (Nat×Bool)}{x:X}:zd6 cf st ⟨d,g,.nilc x⟩=stepG cf st ⟨d,g,.nilc x⟩:=by cases d<;>rfl
theorem y2u{d:Option Nat}{g:Option (Nat×Bool)}{o:UnOp}{x:X}:zd6 cf st ⟨d,g,.un o x⟩=stepG cf st ⟨d,g,.un o x⟩:=by cases d<;>rfl
theorem yts{d:Option Nat}{g:Option (Nat×Bool)}{k:IntKind}{x:X}:zd6 cf st ⟨d,g,.conv k x⟩=stepG cf st ⟨d,g,.conv k x⟩:=by cases d<;>rfl
theorem ymt{d:Option Nat}{g:Option (Nat×Bool)}{zs:List PV}{ps:List (Nat×Nat×X)}:zd6 cf st ⟨d,g,.build zs ps⟩=stepG cf st ⟨d,g,.build zs ps⟩:=by cases d<;>rfl
theorem ytt{d:Option Nat}{g:Option (Nat×Bool)}{b:Bool}{m:Nat}{x:X}:zd6 cf st ⟨d,g,.load b m x⟩=stepG cf st ⟨d,g,.load b m x⟩:=by cases d<;>rfl
theorem ytu{d:Option Nat}{g:Option (Nat×Bool)}{o:Nat}{x:X}:zd6 cf st ⟨d,g,.fadr o x⟩=stepG cf st ⟨d,g,.fadr o x⟩:=by cases d<;>rfl
theorem yza{d:Option Nat}{g:Option (Nat×Bool)}{b:Bool}{o m:Nat}{x:X}:zd6 cf st ⟨d,g,.fld b o m x⟩=stepG cf st ⟨d,g,.fld b o m x⟩:=by cases d<;>rfl
theorem ytv{d:Option Nat}{g:Option (Nat×Bool)}{m:Nat}{x i:X}:zd6 cf st ⟨d,g,.iadr m x i⟩=stepG cf st ⟨d,g,.iadr m x i⟩:=by cases d<;>rfl
theorem yzb{d:Option Nat}{g:Option (Nat×Bool)}{x i:X}:zd6 cf st ⟨d,g,.idx x i⟩=stepG cf st ⟨d,g,.idx x i⟩:=by cases d<;>rfl
theorem ytw{d:Option Nat}{g:Option (Nat×Bool)}{b:Bool}{m k:Nat}{x i:X}:zd6 cf st ⟨d,g,.idxA b m k x i⟩=stepG cf st ⟨d,g,.idxA b m k x i⟩:=by cases d<;>rfl
theorem ymu{d:Option Nat}{g:Option (Nat×Bool)}{m k:Nat}{x i:X}:zd6 cf st ⟨d,g,.paddr m k x i⟩=stepG cf st ⟨d,g,.paddr m k x i⟩:=by cases d<;>rfl
theorem ygi{d:Option Nat}{g:Option (Nat×Bool)}{m k:Nat}{x:X}{lo hi:Option X}:zd6 cf st ⟨d,g,.sliceP m k x lo hi⟩=stepG cf st ⟨d,g,.sliceP m k x lo hi⟩:=by cases d<;>rfl
theorem ymv{d:Option Nat}{g:Option (Nat×Bool)}{m:Nat}{x:X}{lo hi:Option X}:zd6 cf st ⟨d,g,.slice m x lo hi⟩=stepG cf st ⟨d,g,.slice m x lo hi⟩:=by cases d<;>rfl
theorem ygj{d:Option Nat}{g:Option (Nat×Bool)}{x:X}{lo hi:Option X}:zd6 cf st ⟨d,g,.sliceS x lo hi⟩=stepG cf st ⟨d,g,.sliceS x lo hi⟩:=by cases d<;>rfl
theorem yzc{d:Option Nat}{g:Option (Nat×Bool)}{x:X}{i:Nat}:zd6 cf st ⟨d,g,.ext x i⟩=stepG cf st ⟨d,g,.ext x i⟩:=by cases d<;>rfl
theorem yzd{d:Option Nat}{g:Option (Nat×Bool)}{x:X}:zd6 cf st ⟨d,g,.len x⟩=stepG cf st ⟨d,g,.len x⟩:=by cases d<;>rfl
theorem ytx{d:Option Nat}{g:Option (Nat×Bool)}{x:X}:zd6 cf st ⟨d,g,.lenS x⟩=stepG cf st ⟨d,g,.lenS x⟩:=by cases d<;>rfl
theorem y2v{d:Option Nat}{g:Option (Nat×Bool)}{b:Bool}{x y:X}:zd6 cf st ⟨d,g,.mm b x y⟩=stepG cf st ⟨d,g,.mm b x y⟩:=by cases d<;>rfl
theorem yty{d:Option Nat}{g:Option (Nat×Bool)}{f:FuncId}{xs:List X}:zd6 cf st ⟨d,g,.clos f xs⟩=stepG cf st ⟨d,g,.clos f xs⟩:=by cases d<;>rfl
noncomputable def ygk(cf:Callee)(live:List Nat)(t:BT):Option St->Option (Out×St)
 |some st=>yms (evT cf live t st)
 |none=>none
theorem ymw{t:BT}:ygk cf live t (some st)=yms (evT cf live t st):=rfl
theorem yze{t:BT}:evC cf n (.regT live [] t) st=yms (evT cf live t st):=by
 simp only[evC,evQ,wat];cases evT cf live t st<;>rfl
theorem ytz{p:COper}{ps:List COper}{t:BT}:evC cf n (.regT live (p::ps) t) st=ygk cf live t (evQ cf (p::ps) st):=by
 simp only[evC];cases evQ cf (p::ps) st with
 |none=>rfl
 |some s=>simp only[wat,ygk];cases evT cf live t s<;>rfl
theorem yzf:evC cf n .skip st=some (.normal,st):=rfl
theorem y2w{tail:List COper}:evC cf n (.reg live [] tail) st=kReg live (zdc cf tail st):=by
 simp only[evC,zij,wat];cases zdc cf tail st<;>rfl
theorem yzg{p:COper}{ps tail:List COper}:evC cf n (.reg live (p::ps) tail) st=ytm cf live tail (zij cf (p::ps) st):=by
 simp only[evC];cases zij cf (p::ps) st with
 |none=>rfl
 |some s=>simp only[wat,ytm];cases zdc cf tail s<;>rfl
noncomputable def kSeq(cf:Callee)(n:Nat)(b:CCode):Option (Out×St)->Option (Out×St)
 |some (.normal,st)=>evC cf n b st
 |some (.exit i,st)=>some (.exit i,st)
 |some (.ret,st)=>some (.ret,st)
 |none=>none
theorem y2x{a b:CCode}:evC cf n (.seq a b) st=kSeq cf n b (evC cf n a st):=by
 simp only[evC];cases evC cf n a st with
 |none=>rfl
 |some r=>obtain⟨o,s⟩:=r;cases o<;>rfl
theorem yzh{b:CCode}:kSeq cf n b (some (.normal,st))=evC cf n b st:=rfl
theorem yzi{b:CCode}{i:Nat}:kSeq cf n b (some (.exit i,st))=some (.exit i,st):=rfl
theorem yzj{b:CCode}:kSeq cf n b (some (.ret,st))=some (.ret,st):=rfl
noncomputable def yzk(cf:Callee)(n:Nat)(a b:CCode)(st:St):PV->Option (Out×St)
 | .flat (.bool t)=>if t then evC cf n a st else evC cf n b st
 |_=>none
theorem yzl{c:X}{a b:CCode}:evC cf n (.cond c a b) st=yzk cf n a b st (c.ev st.sl):=by
 simp only[evC];generalize c.ev st.sl=p;cases p with
 |flat v=>cases v<;>rfl
 |_=>rfl
theorem yt0{a b:CCode}{t:Bool}:yzk cf n a b st (.flat (.bool t))=if t then evC cf n a st else evC cf n b st:=rfl
def z4t(id nb:Nat):Option (Out×St)->Option (Out×St)
 |some (.normal,st)=>some (.normal,st.cutB nb)
 |some (.exit j,st)=>if j=id then some (.normal,st.cutB nb)else some (.exit j,st)
 |some (.ret,st)=>some (.ret,st)
 |none=>none
theorem yt1{id:Nat}{b:CCode}:evC cf n (.block id b) st=z4t id st.bx.length (evC cf n b st):=by
 simp only[evC];cases evC cf n b st with
 |none=>rfl
 |some r=>
  obtain⟨o,s⟩:=r;cases o with
  |exit j=>simp only[wau,z4t];split<;>rfl
  |_=>rfl
theorem ymx{id nb:Nat}:z4t id nb (some (.normal,st))=some (.normal,st.cutB nb):=rfl
theorem ymy{id nb j:Nat}:z4t id nb (some (.exit j,st))=if j=id then some (.normal,st.cutB nb)else some (.exit j,st):=rfl
theorem ymz{id nb:Nat}:z4t id nb (some (.ret,st))=some (.ret,st):=rfl
theorem yzm{b:CCode}:evC cf n (.loop live b) st=zcn (evC cf n b) live st.bx.length n (st.only live st.bx.length):=rfl
theorem yzn{id:Nat}:evC cf n (.exit id live) st=some (.exit id,st.keep live):=rfl
theorem y2y:evC cf n (.ret live) st=some (.ret,st.keep live):=rfl
def ygl(b:Nat)(f k:Nat)(live:List Nat)(snap:List PV)(st:St):LpS->Option (Out×St)
 | .ready=>some (.normal,⟨st.sl,st.ow,st.al,st.bx.set b (0,[.lp f k .over live snap])⟩)
 | .done (.exit i)=>some (.exit i,⟨st.sl,st.ow,st.al,st.bx.set b (0,[.lp f k .over live snap])⟩)
 | .done .ret=>some (.ret,⟨st.sl,st.ow,st.al,st.bx.set b (0,[.lp f k .over live snap])⟩)
 |_=>none
theorem yt2{b f k:Nat}{snap:List PV}:ygl b f k live snap ⟨sl,ow,al,bx⟩ .ready=some (.normal,⟨sl,ow,al,bx.set b (0,[.lp f k .over live snap])⟩):=rfl
theorem yt3{b f k i:Nat}{snap:List PV}:ygl b f k live snap ⟨sl,ow,al,bx⟩ (.done (.exit i))=some (.exit i,⟨sl,ow,al,bx.set b (0,[.lp f k .over live snap])⟩):=rfl
theorem yt4{b f k:Nat}{snap:List PV}:ygl b f k live snap ⟨sl,ow,al,bx⟩ (.done .ret)=some (.ret,⟨sl,ow,al,bx.set b (0,[.lp f k .over live snap])⟩):=rfl
def kEnd(b:Nat)(st:St):Option (Nat×List PV)->Option (Out×St)
 |some (_,[.lp f k s live snap])=>ygl b f k live snap st s
 |_=>none
theorem yzo{b e f k:Nat}{s:LpS}{snap:List PV}:kEnd b st (some (e,[.lp f k s live snap]))=ygl b f k live snap st s:=rfl
def kRng(b:Nat):Option St->Option (Out×St)
 |some st=>kEnd b st (st.bx[b]?)
 |none=>none
theorem yzp{b:Nat}:kRng b (some ⟨sl,ow,al,bx⟩)=kEnd b ⟨sl,ow,al,bx⟩ (bx[b]?):=rfl
def ygm(cf:Callee)(f k:Nat)(live:List Nat)(st:St):PV->Option (Out×St)
 | .clo h caps=>if h=yldF then none else kRng st.bx.length (callBx cf ⟨st.sl,st.ow,st.al,st.bx++[(0,[.lp f k .ready live (vals (z1p st.sl live))])]⟩ none h (.yld st.bx.length::caps))
 |_=>none
theorem yt5{f k:Nat}{g:X}:evC cf n (.range f k live g) st=ygm cf f k live st (g.ev st.sl):=by
 have h1:live.map (look st.sl)=vals (z1p st.sl live):=by
  rw[<-z1u,z9u,List.map_map];rfl
 simp only[evC,zhq];generalize g.ev st.sl=p;cases p with
 |clo h caps=>
  simp only[ygm];split
  ·rfl
  ·rw[h1]
   cases callBx cf ⟨st.sl,st.ow,st.al,st.bx++[(0,[.lp f k .ready live (vals (z1p st.sl live))])]⟩ none h (.yld st.bx.length::caps)with
   |none=>rfl
   |some s2=>
    simp only[wat,kRng];cases s2.bx[st.bx.length]? with
    |none=>rfl
    |some q=>
     obtain⟨e,cs⟩:=q;rcases cs with _|⟨p,_|⟨p2,r⟩⟩
     ·rfl
     ·cases p with
      |lp f' k' s live' snap'=>
       simp only[kEnd];cases s with
       |done j=>cases j<;>rfl
       |_=>rfl
      |_=>rfl
     ·cases p<;>rfl
 |_=>rfl
theorem ym0{f k:Nat}{h:FuncId}{caps:List PV}:ygm cf f k live ⟨sl,ow,al,bx⟩ (.clo h caps)=if h=yldF then none else kRng bx.length (callBx cf ⟨sl,ow,al,bx++[(0,[.lp f k .ready live (vals (z1p sl live))])]⟩ none h (.yld bx.length::caps)):=rfl
def resL(st:St):List (Sum Nat (Nat×Bool×Nat))->Option (List PV)
 |[]=>some []
 | .inl i::r=>(resL st r).map (look st.sl i::·)
 | .inr (i,agg,m)::r=>kResL (match look st.sl i with| .ptr b o=>zv9 agg m o (zes st.bx b)|_=>none) (resL st r)
where kResL:Option PV->Option (List PV)->Option (List PV)
 |some v,some vs=>some (v::vs)
 |_,_=>none
theorem ym1:resL st []=some []:=rfl
theorem yp0{i:Nat}{r:List (Sum Nat (Nat×Bool×Nat))}:resL st (.inl i::r)=(resL st r).map (look st.sl i::·):=rfl
def yco(st:St)(agg:Bool)(m:Nat):PV->Option PV
 | .ptr b o=>zv9 agg m o (zes st.bx b)
 |_=>none
theorem yp1{i m:Nat}{agg:Bool}{r:List (Sum Nat (Nat×Bool×Nat))}:resL st (.inr (i,agg,m)::r)=resL.kResL (yco st agg m (look st.sl i)) (resL st r):=by
 simp only[resL];unfold yco;cases look st.sl i<;>rfl
theorem yt6{agg:Bool}{m b o:Nat}:yco ⟨sl,ow,al,bx⟩ agg m (.ptr b o)=zv9 agg m o (zes bx b):=rfl
theorem yt7{v:PV}{vs:List PV}:resL.kResL (some v) (some vs)=some (v::vs):=rfl
theorem z7k:∀l:List (Sum Nat (Nat×Bool×Nat)),l.mapM (resV st)=resL st l
 |[]=>rfl
 | .inl i::r=>by
   rw[wa8,z7k r,yp0];simp only[resV,Option.pure_def,Option.bind_eq_bind,wat];cases resL st r<;>rfl
 | .inr (i,agg,m)::r=>by
   rw[wa8,z7k r,yp1];have h1:resV st (.inr (i,agg,m))=yco st agg m (look st.sl i):=by
    simp only[resV];generalize look st.sl i=p;cases p with
    |ptr b o=>
     simp only[yco];cases zes st.bx b with
     |none=>rfl
     |some q=>obtain⟨e,cs⟩:=q;cases agg<;>rfl
    |_=>rfl
   rw[h1];simp only[Option.pure_def,Option.bind_eq_bind];cases yco st agg m (look st.sl i)with
   |none=>rfl
   |some v=>cases resL st r<;>rfl
def zul(res:List (Sum Nat (Nat×Bool×Nat)))(bx:zae)(st:St):Option (List PV)->Option Ans
 |some vs=>some (vs,ownB res st.ow,trim bx.length vs st.bx,zbm (trim bx.length vs st.bx).length st.ow)
 |none=>none
where ownB:List (Sum Nat (Nat×Bool×Nat))->List Loc->Bool
 |[.inl s],ow=>owns ow (.slot s)
 |_,_=>false
def kFin(res:List (Sum Nat (Nat×Bool×Nat)))(bx:zae):Option (Out×St)->Option Ans
 |some (.normal,st)=>zul res bx st (resL st res)
 |some (.ret,st)=>zul res bx st (resL st res)
 |_=>none
theorem zab{code:FuncId->Option CFun}{lib:Callee}{f:FuncId}{nt:Nat}{res:List (Sum Nat (Nat×Bool×Nat))}{body:CCode}{rngs:List (List Nat×CCode×CCode)}(hk:code f=some ⟨nt,res,body,rngs⟩){args:List PV}{bx:zae}{oc:List Loc}{r:Ans}(hl:args.length<=nt)
 (h:kFin res bx (evC (evW code lib) big body ⟨zik 0 args,oc,[],bx⟩)=some r):evW code lib f args bx oc=some r:=by
 refine ywy (n:=big) hk ?_;unfold evB;dsimp only;rw[if_pos hl];cases he:evC (evW code lib) big body ⟨zik 0 args,oc,[],bx⟩with
 |none=>rw[he]at h;cases h
 |some p=>
  obtain⟨o,st⟩:=p;rw[he]at h;have hown:zti res st.ow=zul.ownB res st.ow:=by
   have hd:∀s,decide (Loc.slot s∈st.ow)=owns st.ow (.slot s):=fun s=>by
    cases ho:owns st.ow (.slot s)with
    |true=>simpa using zdu.1 ho
    |false=>simp only[decide_eq_false_iff_not];intro hm;rw[zdu.2 hm]at ho;cases ho
   clear he h hk;generalize res=rs;rcases rs with _|⟨q,_|⟨q2,rs⟩⟩
   ·rfl
   ·cases q with
    |inl s=>exact hd s
    |inr x=>rfl
   ·cases q<;>rfl
  have fin:zul res bx st (resL st res)=some r->(res.mapM (resV st)).map (fun vs=>(vs,zti res st.ow,trim bx.length vs st.bx,zdj (trim bx.length vs st.bx).length st.ow))=some r:=fun h=>by
   rw[z7k];cases hr:resL st res with
   |none=>rw[hr]at h;cases h
   |some vs=>rw[hr]at h;simp only[wau,hown,zis];exact h
  cases o with
  |exit i=>cases h
  |normal=>exact fin h
  |ret=>exact fin h
theorem yzq{res:List (Sum Nat (Nat×Bool×Nat))}:kFin res bx (some (.normal,st))=zul res bx st (resL st res):=rfl
theorem yzr{res:List (Sum Nat (Nat×Bool×Nat))}:kFin res bx (some (.ret,st))=zul res bx st (resL st res):=rfl
theorem yt8{res:List (Sum Nat (Nat×Bool×Nat))}{vs:List PV}:zul res bx st (some vs)=some (vs,zul.ownB res st.ow,trim bx.length vs st.bx,zbm (trim bx.length vs st.bx).length st.ow):=rfl
theorem yzs{s:Nat}:zul.ownB [.inl s] ow=owns ow (.slot s):=rfl
theorem yzt:zul.ownB [] ow=false:=rfl
theorem yzu{q:Nat×Bool×Nat}{r:List (Sum Nat (Nat×Bool×Nat))}:zul.ownB (.inr q::r) ow=false:=rfl
theorem yzv{a b:Sum Nat (Nat×Bool×Nat)}{r:List (Sum Nat (Nat×Bool×Nat))}:zul.ownB (a::b::r) ow=false:=by cases a<;>rfl
def z4u(nb b:Nat)(f k:Nat)(live:List Nat)(snap:List PV)(o:Out)(ow:List Loc)(bx:zae):Option Ans:=
 match o with
 | .normal=>some ([.flat (.bool true)],false,trim nb [] (bx.set b (0,[.lp f k .ready live snap])),zbm (trim nb [] (bx.set b (0,[.lp f k .ready live snap]))).length ow)
 | .exit i=>some ([.flat (.bool false)],false,trim nb [] (bx.set b (0,[.lp f k (.done (.exit i)) live snap])),zbm (trim nb [] (bx.set b (0,[.lp f k (.done (.exit i)) live snap]))).length ow)
 | .ret=>some ([.flat (.bool false)],false,trim nb [] (bx.set b (0,[.lp f k (.done .ret) live snap])),zbm (trim nb [] (bx.set b (0,[.lp f k (.done .ret) live snap]))).length ow)
def z9z(nb b:Nat)(o:Out)(st:St):Option (Nat×List PV)->Option Ans
 |some (_,[.lp f k .busy live snap])=>z4u nb b f k live snap o st.ow st.bx
 |_=>none
def z90(nb b:Nat):Option (Out×St)->Option Ans
 |some (o,st)=>z9z nb b o st (st.bx[b]?)
 |none=>none
noncomputable def z91(cf:Callee)(n:Nat)(nb b:Nat)(body:CCode)(st:St):Option (Nat×List PV)->Option Ans
 |some (_,[.lp f k .ready live snap])=>z90 nb b (evC cf n body ⟨st.sl,st.ow,st.al,st.bx.set b (0,[.lp f k .busy live snap])⟩)
 |_=>none
noncomputable def ygn(cf:Callee)(n:Nat)(nb b:Nat)(body:CCode):Option (Out×St)->Option Ans
 |some (.normal,st)=>z91 cf n nb b body st (st.bx[b]?)
 |_=>none
theorem zks{code:FuncId->Option CFun}{lib:Callee}(hy:code yldF=none){f k b e:Nat}{snap:List PV}{c:CFun}{ps:List Nat}{ca cb:CCode}(hc:code f=some c)(hq:c.rngs[k]?=some (ps,ca,cb)){az:List PV}{bx:zae}{oc:List Loc}{r:Ans}
 (hb:bx[b]?=some (e,[.lp f k .ready live snap])) (hl:az.length=ps.length)
 (h:ygn (evW code lib) big bx.length b cb (evC (evW code lib) big ca ⟨(ps.zip az).foldl (fun l p=>p::l) (live.zip snap),oc,[],bx⟩)=some r):evW code lib yldF (.yld b::az) bx oc=some r:=by
 refine yra (n:=big) hy ?_;unfold zvl;dsimp only;rw[hb];dsimp only;rw[hc,wat,hq,wat,if_pos hl];dsimp only;cases he:evC (evW code lib) big ca ⟨(ps.zip az).foldl (fun l p=>p::l) (live.zip snap),oc,[],bx⟩with
 |none=>rw[he]at h;cases h
 |some p=>
  obtain⟨o1,s1⟩:=p;rw[he]at h;simp only[wat];cases o1 with
  |exit i=>cases h
  |ret=>cases h
  |normal=>
   simp only[ygn]at h;unfold z91 at h;split at h
   case h_2=>cases h
   rename_i e1 f1 k1 live1 snap1 hb1;rw[hb1];dsimp only;cases he2:evC (evW code lib) big cb ⟨s1.sl,s1.ow,s1.al,s1.bx.set b (0,[.lp f1 k1 .busy live1 snap1])⟩with
   |none=>rw[he2]at h;cases h
   |some p=>
    obtain⟨o,s⟩:=p;rw[he2]at h;simp only[wat];simp only[z90]at h;unfold z9z at h;split at h
    case h_2=>cases h
    rename_i e2 f2 k2 live2 snap2 hb2;rw[hb2];dsimp only;have ht:∀(v:Bool)(bx':zae),trim bx.length [.flat (.bool v)] bx'=trim bx.length [] bx':=fun v bx'=>by
     unfold trim;rw[show lows bx.length [.flat (.bool v)]=lows bx.length []from rfl]
    cases o with
    |normal=>simp only[z4u]at h;simp only[ht,zis];exact h
    |exit i=>simp only[z4u]at h;simp only[ht,zis];exact h
    |ret=>simp only[z4u]at h;simp only[ht,zis];exact h
theorem ym2{nb b:Nat}{body:CCode}:ygn cf n nb b body (some (.normal,⟨sl,ow,al,bx⟩))=z91 cf n nb b body ⟨sl,ow,al,bx⟩ (bx[b]?):=rfl
theorem ym3{nb b e f k:Nat}{body:CCode}{snap:List PV}:z91 cf n nb b body ⟨sl,ow,al,bx⟩ (some (e,[.lp f k .ready live snap]))=z90 nb b (evC cf n body ⟨sl,ow,al,bx.set b (0,[.lp f k .busy live snap])⟩):=rfl
theorem ym4{nb b:Nat}{o:Out}:z90 nb b (some (o,⟨sl,ow,al,bx⟩))=z9z nb b o ⟨sl,ow,al,bx⟩ (bx[b]?):=rfl
theorem ym5{nb b e f k:Nat}{o:Out}{snap:List PV}:z9z nb b o ⟨sl,ow,al,bx⟩ (some (e,[.lp f k .busy live snap]))=z4u nb b f k live snap o ow bx:=rfl
theorem yt9{nb b f k:Nat}{snap:List PV}:z4u nb b f k live snap .normal ow bx=some ([.flat (.bool true)],false,trim nb [] (bx.set b (0,[.lp f k .ready live snap])),zbm (trim nb [] (bx.set b (0,[.lp f k .ready live snap]))).length ow):=rfl
theorem yua{nb b f k i:Nat}{snap:List PV}:z4u nb b f k live snap (.exit i) ow bx=some ([.flat (.bool false)],false,trim nb [] (bx.set b (0,[.lp f k (.done (.exit i)) live snap])),zbm (trim nb [] (bx.set b (0,[.lp f k (.done (.exit i)) live snap]))).length ow):=rfl
theorem yub{nb b f k:Nat}{snap:List PV}:z4u nb b f k live snap .ret ow bx=some ([.flat (.bool false)],false,trim nb [] (bx.set b (0,[.lp f k (.done .ret) live snap])),zbm (trim nb [] (bx.set b (0,[.lp f k (.done .ret) live snap]))).length ow):=rfl
end
end Nun
namespace Nun
open Go
theorem yzw{k:IntKind}{a b:Int}:za9 .add (.int k a) (.int k b)=some (.int k (k.wrap (a+b))):=by simp[za9]
theorem yzx{k:IntKind}{a b:Int}:za9 .sub (.int k a) (.int k b)=some (.int k (k.wrap (a - b))):=by simp[za9]
theorem yzy{k:IntKind}{a b:Int}:za9 .mul (.int k a) (.int k b)=some (.int k (k.wrap (a* b))):=by simp[za9]
theorem yzz{k:IntKind}{a b:Int}:za9 .quo (.int k a) (.int k b)=if b=0 then none else some (.int k (k.wrap (a.tdiv b))):=by simp[za9]
theorem yz0{k:IntKind}{a b:Int}:za9 .rem (.int k a) (.int k b)=if b=0 then none else some (.int k (a.tmod b)):=by simp[za9]
def zpd(k:IntKind)(a b:Int):Int:=k.wrap (BitVec.ofInt k.bits a&&&BitVec.ofInt k.bits b).toNat
theorem yz1{k:IntKind}{a b:Int}:za9 .and (.int k a) (.int k b)=some (.int k (zpd k a b)):=by simp[za9,zpd]
def zwb(k:IntKind)(a b:Int):Int:=k.wrap (BitVec.ofInt k.bits a|||BitVec.ofInt k.bits b).toNat
theorem y2z{k:IntKind}{a b:Int}:za9 .or (.int k a) (.int k b)=some (.int k (zwb k a b)):=by simp[za9,zwb]
def yp2(k:IntKind)(a b:Int):Int:=k.wrap (BitVec.ofInt k.bits a ^^^ BitVec.ofInt k.bits b).toNat
theorem yz2{k:IntKind}{a b:Int}:za9 .xor (.int k a) (.int k b)=some (.int k (yp2 k a b)):=by simp[za9,yp2]
theorem yz3{k k':IntKind}{a b:Int}:za9 .shl (.int k a) (.int k' b)=if b<0 then none else some (.int k (k.wrap (a* 2^(min b.toNat k.bits)))):=by simp[za9]
theorem yz4{k k':IntKind}{a b:Int}:za9 .shr (.int k a) (.int k' b)=if b<0 then none else some (.int k (a.fdiv (2^(min b.toNat k.bits)))):=by simp[za9]
theorem yz5{k:IntKind}{a b:Int}:za9 .eql (.int k a) (.int k b)=some (.bool (decide (a=b))):=by simp[za9];rfl
theorem yz6{k:IntKind}{a b:Int}:za9 .neq (.int k a) (.int k b)=some (.bool (!decide (a=b))):=by simp[za9];rfl
theorem yz7{k:IntKind}{a b:Int}:za9 .lss (.int k a) (.int k b)=some (.bool (decide (a<b))):=by simp[za9]
theorem yz8{k:IntKind}{a b:Int}:za9 .leq (.int k a) (.int k b)=some (.bool (decide (a<=b))):=by simp[za9]
theorem yz9{k:IntKind}{a b:Int}:za9 .gtr (.int k a) (.int k b)=some (.bool (decide (b<a))):=by simp[za9]
theorem y0a{k:IntKind}{a b:Int}:za9 .geq (.int k a) (.int k b)=some (.bool (decide (b<=a))):=by simp[za9]
theorem zm4(a:ByteArray):a.toList=a.data.toList:=ByteArray.toList_eq a
def eqB(a b:ByteArray):Bool:=decide (a=b)
theorem y0b{a b:ByteArray}:za9 .add (.string a) (.string b)=if a.size+b.size<=bound then some (.string (a++b))else none:=rfl
theorem z92{a b:ByteArray}:(a.toList==b.toList)=eqB a b:=by
 unfold eqB;by_cases h:a=b
 ·subst h;simp
 ·have:a.toList≠b.toList:=fun e=>h (by
   cases a with|mk x=>cases b with|mk y=>
   rw[zm4,zm4]at e;congr 1;exact wba e)
  simp[h,this]
theorem eq_s{a b:ByteArray}{ks:List LK}{cs ds:List PV}:eqCs (.s::ks) (.flat (.string a)::cs) (.flat (.string b)::ds)=kAnd (eqB a b) (eqCs ks cs ds):=by
 have h:(a==b)=eqB a b:=by
  show(a.data==b.data)=_;unfold eqB;by_cases h:a=b
  ·subst h;simp
  ·have:a.data≠b.data:=fun e=>h (by cases a;cases b;cases e;rfl)
   simp[h,this]
 simp only[eqCs,h];cases eqCs ks cs ds<;>rfl
theorem y0c{a b:ByteArray}:za9 .eql (.string a) (.string b)=some (.bool (eqB a b)):=by rw[<-z92];rfl
theorem y0d{a b:ByteArray}:za9 .neq (.string a) (.string b)=some (.bool !(eqB a b)):=by rw[<-z92];rfl
theorem y0e{b:Bool}:zth .not (.bool b)=some (.bool !b):=rfl
theorem y0f{k:IntKind}{a:Int}:zth .neg (.int k a)=some (.int k (k.wrap (0 - a))):=rfl
theorem wrap64{n:Int}(h:-9223372036854775808<=n/\n<9223372036854775808):IntKind.i64.wrap n=n:=by
 unfold IntKind.wrap;simp[IntKind.bits,IntKind.signed];omega
theorem wrap32{n:Int}(h:-2147483648<=n/\n<2147483648):IntKind.i32.wrap n=n:=by
 unfold IntKind.wrap;simp[IntKind.bits,IntKind.signed];omega
theorem zsl{n:Int}(h:0<=n/\n<256):IntKind.u8.wrap n=n:=by
 unfold IntKind.wrap;simp[IntKind.bits,IntKind.signed];omega
theorem ycp{i:Nat}:zik i []=[]:=rfl
theorem z7l{i:Nat}{v:PV}{r:List PV}:zik i (v::r)=(i,v)::zik (i+1) r:=rfl
end Nun
namespace Nun
theorem yuc{f:Nat}:(f=yldF)=(f=4611686018427387904):=rfl
end Nun
end
section
namespace Nun
open Go
def CCode.lv:CCode->List (List Nat)
 | .loop l c=>l::c.lv
 | .reg l _ _=>[l]
 | .regT l _ _=>[l]
 | .range _ _ l _=>[l]
 | .exit _ l=>[l]
 | .ret l=>[l]
 | .seq a b=>a.lv++b.lv
 | .cond _ a b=>a.lv++b.lv
 | .block _ a=>a.lv
 | .skip=>[]
def lvOf(qs:List Nat)(F:CFun):Lv:=⟨F.body.lv,F.rngs.map fun q=>q.2.1.lv++q.2.2.lv,qs⟩
theorem onB{x y:CCode}(h:x=y)(cf:Callee)(m:Nat)(st:St):evC cf m x st=evC cf m y st:=by rw[h]
theorem ygo{α:Type}:∀{l:List (FuncId×α)}{f:FuncId}{a:α},l.lookup f=some a->(f,a)∈l
 |[],_,_,h=>by cases h
 |(k,b)::l,f,a,h=>by
  rw[List.lookup_cons]at h;split at h
  ·rename_i e
   cases h;rw[eq_of_beq e];exact wcy
  ·exact wcw _ (ygo h)
namespace Q
abbrev i(n:Nat):X:=.c (.flat (.int .i64 n))
abbrev u(n:Nat):X:=.c (.flat (.int .u8 n))
abbrev s(l:Array UInt8):X:=.c (.flat (.string ⟨l⟩))
abbrev b(x:Bool):X:=.c (.flat (.bool x))
abbrev Z:PV:=.flat (.string ⟨#[]⟩)
abbrev V:PV:=.flat (.slice .none 0 0)
abbrev J:PV:=.flat (.int .i64 0)
abbrev o(d:Nat)(p:COp):COper:=⟨some d,none,p⟩
abbrev n(p:COp):COper:=⟨none,none,p⟩
abbrev g(k d:Nat)(p:COp):COper:=⟨some d,some ⟨k,true⟩,p⟩
abbrev h(k d:Nat)(p:COp):COper:=⟨some d,some ⟨k,false⟩,p⟩
abbrev m(d x:Nat):COper:=⟨some d,none,.mv (.t x)⟩
abbrev a(d x:Nat):COper:=⟨some d,none,.asg (.t x)⟩
abbrev M(x:Nat):COp:=.mv (.t x)
abbrev A(x:Nat):COp:=.asg (.t x)
abbrev AI(x:Nat):COp:=.asg (i x)
abbrev AS(x:Array UInt8):COp:=.asg (s x)
abbrev AB(x:Bool):COp:=.asg (b x)
abbrev P(x y:Nat):COp:=.pick (.t x) (.t y) (b false)
abbrev O(x y:Nat):COp:=.pick (.t x) (b true) (.t y)
abbrev F(k x:Nat):COp:=.fadr k (.t x)
abbrev L(k x:Nat):COp:=.load false k (.t x)
abbrev LT(k x:Nat):COp:=.load true k (.t x)
abbrev B(k:BinOp)(x y:Nat):COp:=.bin k (.t x) (.t y)
abbrev BI(k:BinOp)(x y:Nat):COp:=.bin k (.t x) (i y)
abbrev BU(k:BinOp)(x y:Nat):COp:=.bin k (.t x) (u y)
abbrev BS(k:BinOp)(x:Nat)(y:Array UInt8):COp:=.bin k (.t x) (s y)
abbrev IB(k:BinOp)(x y:Nat):COp:=.bin k (i x) (.t y)
abbrev SB(k:BinOp)(x:Array UInt8)(y:Nat):COp:=.bin k (s x) (.t y)
abbrev E(x y:Nat):COp:=.ext (.t x) y
abbrev S(k x y:Nat):COp:=.store k (.t x) (.t y)
abbrev N(x:Nat):COp:=.nilc (.t x)
abbrev U(x:Nat):COp:=.un .not (.t x)
abbrev K(x:Nat):COp:=.lenS (.t x)
abbrev W(x:Nat):COp:=.len (.t x)
abbrev D(x y:Nat):COp:=.idx (.t x) (.t y)
abbrev Y(k x y:Nat):COp:=.iadr k (.t x) (.t y)
abbrev C(k x:Nat):COp:=.call k [.t x]
abbrev CC(k x y:Nat):COp:=.call k [.t x,.t y]
abbrev CI(k x y:Nat):COp:=.call k [.t x,i y]
abbrev CS(k x:Nat)(y:Array UInt8):COp:=.call k [.t x,s y]
abbrev r(l:List Nat)(p:List COper):CCode:=.reg l [] p
abbrev q(x y:CCode):CCode:=.seq x y
abbrev w(x:Nat)(y z:CCode):CCode:=.cond (.t x) y z
abbrev k(x:Nat)(l:List Nat)(y:CCode):CCode:=.block x (.loop l y)
abbrev x(l:List Nat):CCode:=.ret l
abbrev z:CCode:=.skip
end Q
end Nun
set_option maxRecDepth 100000
namespace Go.Proofs.YtmpiobfdchlikaaGreatDoor
open Nun Nun.Q
def zgb:CFun:=⟨42,[.inl 2],(q (r [1] [o 1 (.box 23 5 (.t 0)),o 2 (AB false)]) (q (r [1] [o 7 (LT 5 1),o 8 (C 8 7),n (S 5 1 8)]) (q (r [1,3,4] [o 10 (LT 5 1),o 11 (C 10 10),m 9 11,o 12 (E 9 0),o 13 (E 9 1),a 3 12,a 4 13]) (q (q (r [1,3,4,15] [m 14 4,o 15 (BI .neq 14 0)]) (w 15 (q (r [2] [m 16 3,o 17 (BS .eql 16 #[]),m 18 17,g 18 19 (LT 5 1),g 18 20 (C 24 19),g 18 21 (M 4),g 18 22 (B .eql 20 21),o 23 (P 18 22),m 24 23,g 24 25 (.call 15 []),o 26 (P 24 25),a 2 26]) (x [2])) z)) (q (r [1,5,6] [m 28 3,o 29 (C 22 28),m 27 29,o 30 (E 27 0),o 31 (E 27 1),o 5 (.alloc 23 [Z,Z,Z,Z,Z]),n (S 5 5 30),a 6 31]) (q (r [2] [m 32 6,o 33 (BI .eql 32 0),m 34 33,g 34 35 (LT 5 5),g 34 36 (LT 5 1),g 34 37 (.eqS false [.s,.s,.s,.s,.s] (.t 35) (.t 36)),o 38 (P 34 37),m 39 38,g 39 40 (.call 15 []),o 41 (P 39 40),a 2 41]) (x [2]))))))),[]⟩
def zit:CFun:=⟨19,[.inr ⟨2,⟨true,5⟩⟩],(q (r [1,2] [o 1 (.box 23 5 (.t 0)),o 2 (.alloc 23 [Z,Z,Z,Z,Z])]) (q (.reg [2] [o 3 (F 0 1),o 4 (L 1 3),o 5 (C 9 4),o 6 (F 1 1),o 7 (L 1 6),o 8 (C 9 7),o 9 (F 2 1),o 10 (L 1 9),o 11 (C 9 10),o 12 (F 3 1),o 13 (L 1 12),o 14 (C 9 13),o 15 (F 4 1),o 16 (L 1 15)] [o 17 (C 9 16),o 18 (.build [Z,Z,Z,Z,Z] [⟨0,⟨1,.t 5⟩⟩,⟨1,⟨1,.t 8⟩⟩,⟨2,⟨1,.t 11⟩⟩,⟨3,⟨1,.t 14⟩⟩,⟨4,⟨1,.t 17⟩⟩]),n (S 5 2 18)]) (x [2]))),[]⟩
def zkt:CFun:=⟨8,[.inl 2],(q (r [0] [o 2 (AS #[])]) (q (r [2] [m 3 0,m 4 0,o 5 (K 4),o 6 (.mm false (.t 5) (i 250)),o 7 (.sliceS (.t 3) .none (.some (.t 6))),a 2 7]) (x [2]))),[]⟩
def ziu:CFun:=⟨35,[.inl 0],(q (r [] [o 0 (AB false)]) (q (r [1,2] [o 6 (.build [Z,Z,Z,Z,Z] [⟨0,⟨1,s #[97,64,98]⟩⟩,⟨1,⟨1,s #[99,64,100]⟩⟩,⟨2,⟨1,s #[120]⟩⟩,⟨3,⟨1,s #[104,105,10]⟩⟩,⟨4,⟨1,s #[60,112,62,104,105,60,47,112,62]⟩⟩]),o 7 (C 10 6),m 5 7,o 8 (E 5 0),o 9 (E 5 1),a 1 8,a 2 9]) (q (r [2,3,4] [m 11 1,o 12 (C 16 11),m 10 12,o 13 (E 10 0),o 14 (E 10 1),o 3 (.alloc 36 [V,Z,Z,V]),n (S 4 3 13),a 4 14]) (q (r [0] [m 15 2,o 16 (BI .eql 15 0),m 17 16,g 17 18 (M 4),g 17 19 (BI .eql 18 0),o 20 (P 17 19),m 21 20,g 21 22 (F 3 3),g 21 23 (L 1 22),g 21 24 (W 23),g 21 25 (BI .eql 24 2),o 26 (P 21 25),m 27 26,g 27 28 (F 3 3),g 27 29 (L 1 28),g 27 30 (.iadr 4 (.t 29) (i 0)),g 27 31 (F 2 30),g 27 32 (L 1 31),g 27 33 (BS .eql 32 #[104,105,10]),o 34 (P 27 33),a 0 34]) (x [0]))))),[]⟩
def zg2:CCode:=(q (r [0,6,7,8] [o 8 (B .lss 7 6)]) (q (w 8 z (.exit 0 [0])) (q (.block 1 (q (r [0,3,6,7] [m 9 7,a 3 9]) (q (r [0,6,7,26] [m 10 0,m 11 3,o 12 (D 10 11),o 13 (BU .leq 12 32),m 14 13,h 14 15 (M 0),h 14 16 (M 3),h 14 17 (D 15 16),h 14 18 (BU .gtr 17 126),o 19 (O 14 18),m 20 19,h 20 21 (M 0),h 20 22 (M 3),h 20 23 (D 21 22),h 20 24 (.call 32 [s #[60,62,40,41,91,93,44,59,58,34,92],.t 23]),h 20 25 (BI .geq 24 0),o 26 (O 20 25)]) (w 26 (q (r [2] [o 2 (AB false)]) (x [2])) z)))) (r [0,6,7] [o 27 (BI .add 7 1),m 7 27]))))
def zg3:CCode:=zg2
def zgc:=@onB zg3 zg2 rfl
def zm5:CFun:=⟨60,[.inl 2],(q (r [0] [o 2 (AB false)]) (q (q (r [0,6,7] [m 5 0,o 6 (K 5),o 7 (.mv (i 0))]) (k 0 [0,6,7] zg3)) (q (r [0,4] [m 28 0,o 29 (.call 32 [.t 28,u 64]),a 4 29]) (q (r [2] [m 30 0,o 31 (K 30),o 32 (BI .geq 31 3),m 33 32,g 33 34 (M 0),g 33 35 (K 34),g 33 36 (BI .leq 35 60),o 37 (P 33 36),m 38 37,g 38 39 (M 4),g 38 40 (BI .gtr 39 0),o 41 (P 38 40),m 42 41,g 42 43 (M 4),g 42 44 (M 0),g 42 45 (K 44),g 42 46 (BI .sub 45 1),g 42 47 (B .lss 43 46),o 48 (P 42 47),m 49 48,g 49 50 (M 4),g 49 51 (M 0),g 49 52 (.call 34 [.t 51,u 64]),g 49 53 (B .eql 50 52),o 54 (P 49 53),m 55 54,g 55 56 (M 0),g 55 57 (CS 35 56 #[61,63]),g 55 58 (U 57),o 59 (P 55 58),a 2 59]) (x [2]))))),[]⟩
def zto:CFun:=⟨16,[.inl 2],(q (r [0] [o 2 (AB false)]) (q (r [3,4] [m 6 0,o 7 (C 56 6),m 5 7,o 8 (E 5 0),o 9 (E 5 1),a 3 8,a 4 9]) (q (r [2] [m 10 4,o 11 (BI .eql 10 0),m 12 11,g 12 13 (M 3),g 12 14 (C 57 13),o 15 (P 12 14),a 2 15]) (x [2])))),[]⟩
def ziv:CCode:=(q (r [1,21,22,23] [o 23 (BI .lss 22 3)]) (q (w 23 z (.exit 0 [1])) (q (.block 1 (q (r [1,4,21,22] [o 24 (.idxA false 3 1 (.t 21) (.t 22)),a 4 24]) (q (r [1,21,22,28] [m 25 4,o 26 (C 31 25),m 27 4,o 28 (B .neq 26 27)]) (w 28 (q (r [2] [o 2 (AI 7)]) (x [2])) z)))) (r [1,21,22] [o 29 (BI .add 22 1),m 22 29]))))
def zm6:CCode:=ziv
def zdg:=@onB zm6 ziv rfl
def zq6:CFun:=⟨40,[.inl 2],(q (r [1] [o 1 (.box 23 5 (.t 0)),o 2 (AI 0)]) (q (q (r [1,14] [o 5 (F 0 1),o 6 (L 1 5),o 7 (C 13 6),o 8 (U 7),m 9 8,h 9 10 (F 1 1),h 9 11 (L 1 10),h 9 12 (C 13 11),h 9 13 (U 12),o 14 (O 9 13)]) (w 14 (q (r [2] [o 2 (AI 1)]) (x [2])) z)) (q (q (r [1,21,22] [o 15 (F 2 1),o 16 (L 1 15),o 17 (F 3 1),o 18 (L 1 17),o 19 (F 4 1),o 20 (L 1 19),o 21 (.build [Z,Z,Z] [⟨0,⟨1,.t 16⟩⟩,⟨1,⟨1,.t 18⟩⟩,⟨2,⟨1,.t 20⟩⟩]),o 22 (.mv (i 0))]) (k 0 [1,21,22] zm6)) (q (q (r [39] [o 30 (F 2 1),o 31 (L 1 30),o 32 (.call 32 [.t 31,u 10]),o 33 (BI .geq 32 0),m 34 33,h 34 35 (F 4 1),h 34 36 (L 1 35),h 34 37 (C 33 36),h 34 38 (U 37),o 39 (O 34 38)]) (w 39 (q (r [2] [o 2 (AI 7)]) (x [2])) z)) (q (r [2] [o 2 (AI 0)]) (x [2])))))),[]⟩
def zq7:CFun:=⟨43,[.inl 2,.inl 3],(q (r [1] [o 1 (.box 23 5 (.t 0)),o 2 (AS #[]),o 3 (AI 0)]) (q (q (r [1,4] [o 6 (LT 5 1),o 7 (C 12 6),a 4 7]) (q (r [1,4,9] [m 8 4,o 9 (BI .neq 8 0)]) (w 9 (q (r [2,3] [m 10 4,o 2 (AS #[]),a 3 10]) (x [2,3])) z))) (q (r [1,5] [o 11 (.build [.flat (.pointer .none),V] []),o 12 (.box 61 2 (.t 11)),a 5 12]) (q (r [1,5] [m 13 5,o 14 (F 0 1),o 15 (L 1 14),o 16 (.call 25 [.t 13,s #[70,114,111,109],.t 15])]) (q (r [1,5] [m 17 5,o 18 (F 1 1),o 19 (L 1 18),o 20 (.call 25 [.t 17,s #[84,111],.t 19])]) (q (r [1,5] [m 21 5,o 22 (F 2 1),o 23 (L 1 22),o 24 (.call 25 [.t 21,s #[83,117,98,106,101,99,116],.t 23])]) (q (r [1,5] [m 25 5,o 26 (.mksl false 3 1 [Z,Z,Z] [⟨0,⟨1,s #[77,73,77,69,45,86,101,114,115,105,111,110,58,32,49,46,48]⟩⟩,⟨1,⟨1,s #[67,111,110,116,101,110,116,45,84,121,112,101,58,32,109,117,108,116,105,112,97,114,116,47,97,108,116,101,114,110,97,116,105,118,101,59,32,98,111,117,110,100,97,114,121,61,34,61,95,110,117,110,99,105,111,34]⟩⟩,⟨2,⟨1,s #[]⟩⟩]),o 27 (CC 26 25 26)]) (q (r [1,5] [m 28 5,o 29 (F 3 1),o 30 (L 1 29),o 31 (.call 27 [.t 28,s #[112,108,97,105,110],.t 30])]) (q (r [5] [m 32 5,o 33 (F 4 1),o 34 (L 1 33),o 35 (.call 27 [.t 32,s #[104,116,109,108],.t 34])]) (q (r [5] [m 36 5,o 37 (.mksl false 1 1 [Z] [⟨0,⟨1,s #[45,45,61,95,110,117,110,99,105,111,45,45]⟩⟩]),o 38 (CC 26 36 37)]) (q (r [2,3] [m 39 5,o 40 (N 39),o 41 (F 0 40),o 42 (C 28 41),a 2 42,o 3 (AI 0)]) (x [2,3])))))))))))),[]⟩
def zj2:CCode:=(q (r [0,2,4,6,48,49,50] [o 50 (BI .lss 49 3)]) (q (w 50 z (.exit 0 [0,2,6])) (q (.block 1 (q (r [0,2,4,6,7,8,48,49] [m 51 49,o 52 (.idxA false 3 1 (.t 48) (.t 49)),a 7 51,a 8 52]) (q (r [0,2,4,6,8,10,11,48,49] [o 54 (F 0 4),o 55 (L 1 54),m 56 7,o 57 (Y 2 55 56),o 58 (F 1 57),o 59 (L 1 58),o 60 (SB .add #[88,58,32] 59),o 61 (BS .add 60 #[13,10]),o 62 (C 41 61),m 53 62,o 63 (E 53 0),o 64 (E 53 1),o 65 (E 53 2),a 9 63,a 10 64,a 11 65]) (q (q (r [0,2,4,6,8,10,48,49,67] [m 66 11,o 67 (BI .neq 66 0)]) (w 67 (q (r [2,3] [o 68 (.build [Z,Z,Z,Z,Z] []),n (S 5 2 68),o 3 (AI 7)]) (x [2,3])) z)) (r [0,2,4,6,48,49] [m 69 8,m 70 10,o 71 (N 69),n (S 1 71 70)]))))) (r [0,2,4,6,48,49] [o 72 (BI .add 49 1),m 49 72]))))
def zpe:CCode:=zj2
def zwc:=@onB zpe zj2 rfl
def ztp:CFun:=⟨87,[.inr ⟨2,⟨true,5⟩⟩,.inl 3],(q (r [0,2] [o 2 (.alloc 23 [Z,Z,Z,Z,Z]),o 3 (AI 0)]) (q (r [0,2,4,5] [m 15 0,o 16 (C 18 15),m 14 16,o 17 (E 14 0),o 18 (E 14 1),o 4 (.alloc 48 [V,Z,Z,V]),n (S 4 4 17),a 5 18]) (q (q (r [0,2,4,32] [m 19 5,o 20 (BI .neq 19 0),m 21 20,h 21 22 (F 3 4),h 21 23 (L 1 22),h 21 24 (W 23),h 21 25 (BI .neq 24 2),o 26 (O 21 25),m 27 26,h 27 28 (F 0 4),h 27 29 (L 1 28),h 27 30 (W 29),h 27 31 (BI .lss 30 3),o 32 (O 27 31)]) (w 32 (q (r [2,3] [o 33 (.build [Z,Z,Z,Z,Z] []),n (S 5 2 33),o 3 (AI 7)]) (x [2,3])) z)) (q (.reg [0,2,4,6] [o 34 (F 3 4),o 35 (L 1 34),o 36 (.iadr 4 (.t 35) (i 0)),o 37 (F 2 36),o 38 (L 1 37),o 39 (F 3 4),o 40 (L 1 39),o 41 (.iadr 4 (.t 40) (i 1)),o 42 (F 2 41),o 43 (L 1 42),o 44 (.build [Z,Z,Z,Z,Z] [⟨3,⟨1,.t 38⟩⟩,⟨4,⟨1,.t 43⟩⟩]),o 6 (.alloc 23 [Z,Z,Z,Z,Z])] [n (S 5 6 44)]) (q (q (r [0,2,4,6,48,49] [o 45 (F 0 6),o 46 (F 1 6),o 47 (F 2 6),o 48 (.build [.flat (.pointer .none),.flat (.pointer .none),.flat (.pointer .none)] [⟨0,⟨1,.t 45⟩⟩,⟨1,⟨1,.t 46⟩⟩,⟨2,⟨1,.t 47⟩⟩]),o 49 (.mv (i 0))]) (k 0 [0,2,4,6,48,49] zpe)) (q (q (r [0,2,6,12,13] [o 74 (LT 5 6),o 75 (C 10 74),m 73 75,o 76 (E 73 0),o 77 (E 73 1),a 12 76,a 13 77]) (q (r [2,6,84] [m 78 13,o 79 (BI .neq 78 0),m 80 79,h 80 81 (M 12),h 80 82 (M 0),h 80 83 (B .neq 81 82),o 84 (O 80 83)]) (w 84 (q (r [2,3] [o 85 (.build [Z,Z,Z,Z,Z] []),n (S 5 2 85),o 3 (AI 7)]) (x [2,3])) z))) (q (r [2,3] [o 86 (LT 5 6),n (S 5 2 86),o 3 (AI 0)]) (x [2,3])))))))),[]⟩
def zek:CCode:=(q (r [0,6,7,8,9] [o 9 (B .lss 8 7)]) (q (w 9 z (.exit 0 [])) (q (.block 1 (q (r [0,5,6,7,8] [o 10 (Y 1 6 8),o 11 (L 1 10),a 5 11]) (q (r [0,6,7,8] [m 12 0,o 13 (N 12),o 14 (F 0 13),m 15 5,o 16 (CC 47 14 15)]) (r [0,6,7,8] [m 17 0,o 18 (N 17),o 19 (F 0 18),o 20 (CS 47 19 #[13,10])])))) (r [0,6,7,8] [o 21 (BI .add 8 1),m 8 21]))))
def zel:CCode:=zek
def zgd:=@onB zel zek rfl
def zh3:CFun:=⟨22,[],(q (r [0,6,7,8] [m 6 1,o 7 (W 6),o 8 (.mv (i 0))]) (k 0 [0,6,7,8] zel)),[]⟩
def zh4:CFun:=⟨19,[],(q (r [0,6] [m 9 1,m 10 2,o 11 (CC 46 9 10),m 8 11,o 12 (E 8 0),o 13 (E 8 1),a 6 12,a 7 13]) (r [] [m 14 0,o 15 (N 14),o 16 (F 0 15),m 17 6,o 18 (CC 47 16 17)])),[]⟩
def ziw:CFun:=⟨14,[],(r [] [m 6 0,m 7 1,o 8 (SB .add #[67,111,110,116,101,110,116,45,84,121,112,101,58,32,116,101,120,116,47] 7),o 9 (BS .add 8 #[59,32,99,104,97,114,115,101,116,61,117,116,102,45,56]),m 10 2,o 11 (C 48 10),o 12 (.mksl false 5 1 [Z,Z,Z,Z,Z] [⟨0,⟨1,s #[45,45,61,95,110,117,110,99,105,111]⟩⟩,⟨1,⟨1,.t 9⟩⟩,⟨2,⟨1,s #[67,111,110,116,101,110,116,45,84,114,97,110,115,102,101,114,45,69,110,99,111,100,105,110,103,58,32,113,117,111,116,101,100,45,112,114,105,110,116,97,98,108,101]⟩⟩,⟨3,⟨1,s #[]⟩⟩,⟨4,⟨1,.t 11⟩⟩]),o 13 (CC 26 6 12)]),[]⟩
def zge:CCode:=(q (r [1,3,4,5,10] [a 5 9]) (r [1,3,4,5,6] [a 6 10]))
def zgf:CCode:=(.block 1 (q (r [1,3,4,5] [o 11 (L 1 4),m 12 6,o 13 (B .add 11 12),n (S 1 4 13)]) (q (q (r [1,3,4,5,15] [m 14 5,o 15 (.bin .eql (.t 14) (.c (.flat (.int .i32 13))))]) (w 15 (q (q (r [3,25] [o 16 (L 1 4),o 17 (L 1 1),o 18 (K 17),o 19 (B .lss 16 18),m 20 19,g 20 21 (L 1 1),g 20 22 (L 1 4),g 20 23 (D 21 22),g 20 24 (BU .eql 23 10),o 25 (P 20 24)]) (w 25 (.exit 1 []) z)) (r [3,5] [o 5 (.asg (.c (.flat (.int .i32 10))))])) z)) (r [] [m 26 5,o 27 (C 54 26),o 28 (C 53 27),o 29 (CC 47 3 28)]))))
def zwd:CFun:=⟨31,[.inl 2],(q (r [1,2] [o 1 (.box 9 1 (.t 0)),o 2 (AS #[])]) (q (r [1,2,3] [o 3 (.alloc 59 [.flat (.pointer .none),V])]) (q (r [1,2,3,4] [o 4 (.alloc 3 [J]),n (.store 1 (.t 4) (i 0))]) (q (q (r [1,2,3,4,8] [o 7 (L 1 1),o 8 (C 52 7)]) (.block 0 (.range 31 0 [1,3,4] (.t 8)))) (q (r [2] [o 30 (C 28 3),a 2 30]) (x [2])))))),[([9,10],zge,zgf)]⟩
def z4v:CFun:=⟨4,[.inl 2],(q (r [1] [o 1 (.box 9 1 (.t 0)),o 2 (.asg (.c (.flat .nilFunc)))]) (q (r [2] [o 3 (.clos 102 [.t 1]),a 2 3]) (x [2]))),[]⟩
def zlp:CCode:=(q (q (r [0,1,3,9] [m 6 3,o 7 (L 1 1),o 8 (K 7),o 9 (B .lss 6 8)]) (w 9 z (.exit 0 []))) (.block 1 (q (r [0,1,3,4,5] [o 11 (L 1 1),m 12 3,o 13 (CC 103 11 12),m 10 13,o 14 (E 10 0),o 15 (E 10 1),a 4 14,a 5 15]) (q (q (r [0,1,3,5,20] [m 16 0,m 17 4,m 18 5,o 19 (.callv (.t 16) [.t 17,.t 18]),o 20 (U 19)]) (w 20 (x []) z)) (r [0,1,3] [m 21 3,m 22 5,o 23 (B .add 21 22),a 3 23])))))
def zlq:CCode:=zlp
def zj3:=@onB zlq zlp rfl
def zwe:CFun:=⟨24,[],(q (r [0,1,3] [o 3 (AI 0)]) (k 0 [0,1,3] zlq)),[]⟩
def zzn:CFun:=⟨81,[.inl 4,.inl 5],(q (r [0,1] [o 4 (.asg (.c (.flat (.int .i32 0)))),o 5 (AI 0)]) (q (q (r [0,1,17] [m 10 1,o 11 (BI .lss 10 0),m 12 11,h 12 13 (M 1),h 12 14 (M 0),h 12 15 (K 14),h 12 16 (B .geq 13 15),o 17 (O 12 16)]) (w 17 (q (r [4,5] [o 4 (.asg (.c (.flat (.int .i32 0)))),o 5 (AI 0)]) (x [4,5])) z)) (q (r [0,1,6] [m 18 0,m 19 1,o 20 (D 18 19),a 6 20,o 7 (.asg (.c (.flat (.int .i32 0)))),o 8 (AI 0)]) (q (.block 0 (q (r [0,1,6,21] [m 22 6,o 23 (BU .lss 22 128),a 21 23]) (w 21 (q (r [4,5] [m 24 6,o 25 (.conv .i32 (.t 24)),a 4 25,o 5 (AI 1)]) (x [4,5])) (q (r [0,1,6,26] [m 27 6,o 28 (BU .geq 27 192),m 29 28,g 29 30 (M 6),g 29 31 (BU .lss 30 224),o 32 (P 29 31),a 26 32]) (w 26 (r [0,1,4,7,8] [m 33 6,o 34 (BU .and 33 31),o 35 (.conv .i32 (.t 34)),a 4 35,o 7 (.asg (.c (.flat (.int .i32 128)))),o 8 (AI 1)]) (q (r [0,1,6,36] [m 37 6,o 38 (BU .geq 37 224),m 39 38,g 39 40 (M 6),g 39 41 (BU .lss 40 240),o 42 (P 39 41),a 36 42]) (w 36 (r [0,1,4,7,8] [m 43 6,o 44 (BU .and 43 15),o 45 (.conv .i32 (.t 44)),a 4 45,o 7 (.asg (.c (.flat (.int .i32 2048)))),o 8 (AI 2)]) (q (r [0,1,6,46] [m 47 6,o 48 (BU .geq 47 240),m 49 48,g 49 50 (M 6),g 49 51 (BU .lss 50 248),o 52 (P 49 51),a 46 52]) (w 46 (r [0,1,4,7,8] [m 53 6,o 54 (BU .and 53 7),o 55 (.conv .i32 (.t 54)),a 4 55,o 7 (.asg (.c (.flat (.int .i32 65536)))),o 8 (AI 3)]) (q (r [4,5] [o 4 (.asg (.c (.flat (.int .i32 65533)))),o 5 (AI 1)]) (x [4,5]))))))))))) (q (r [4,7,8,9] [m 57 0,m 58 1,o 59 (BI .add 58 1),o 60 (.sliceS (.t 57) (.some (.t 59)) .none),m 61 4,m 62 8,o 63 (.call 158 [.t 60,.t 61,.t 62]),m 56 63,o 64 (E 56 0),o 65 (E 56 1),a 4 64,a 9 65]) (q (q (r [4,8,77] [m 66 9,o 67 (U 66),m 68 67,h 68 69 (M 4),h 68 70 (M 7),h 68 71 (B .lss 69 70),o 72 (O 68 71),m 73 72,h 73 74 (M 4),h 73 75 (C 104 74),h 73 76 (U 75),o 77 (O 73 76)]) (w 77 (q (r [4,5] [o 4 (.asg (.c (.flat (.int .i32 65533)))),o 5 (AI 1)]) (x [4,5])) z)) (q (r [4,5] [m 78 4,m 79 8,o 80 (BI .add 79 1),a 4 78,a 5 80]) (x [4,5])))))))),[]⟩
def zlr:CCode:=(q (q (r [0,3,4,5,32] [m 31 5,o 32 (BI .gtr 31 0)]) (w 32 z (.exit 4 [0,3,4]))) (q (.block 5 (q (r [0,3,4,5] [m 35 5,m 36 0,o 37 (.bin .and (.t 36) (.c (.flat (.int .i32 63)))),o 38 (.conv .u8 (.t 37)),o 39 (.bin .or (u 128) (.t 38)),o 40 (.paddr 4 1 (.t 3) (.t 35)),n (S 1 40 39)]) (r [0,3,4,5] [m 41 0,o 42 (.bin .shr (.t 41) (.c (.flat (.int .u64 6)))),a 0 42]))) (r [0,3,4,5] [m 33 5,o 34 (BI .sub 33 1),a 5 34])))
def zq8:CCode:=zlr
def zhd:=@onB zq8 zlr rfl
def zwf:CFun:=⟨54,[.inl 2],(q (r [0] [o 2 (AS #[])]) (q (q (r [0,8] [m 6 0,o 7 (C 104 6),o 8 (U 7)]) (w 8 (r [0] [o 0 (.asg (.c (.flat (.int .i32 65533))))]) z)) (q (r [0,3] [o 3 (.alloc 154 [.flat (.int .u8 0),.flat (.int .u8 0),.flat (.int .u8 0),.flat (.int .u8 0)])]) (q (r [0,3,4] [o 4 (AI 0)]) (q (.block 0 (q (.block 3 (q (.block 2 (q (.block 1 (q (q (q (r [0,3,4,9] [m 10 0,o 11 (.bin .geq (.t 10) (.c (.flat (.int .i32 65536)))),a 9 11]) (w 9 (.exit 1 [0,3,4]) z)) (q (q (r [0,3,4,12] [m 13 0,o 14 (.bin .geq (.t 13) (.c (.flat (.int .i32 2048)))),a 12 14]) (w 12 (.exit 2 [0,3,4]) z)) (q (r [0,3,4,15] [m 16 0,o 17 (.bin .geq (.t 16) (.c (.flat (.int .i32 128)))),a 15 17]) (w 15 (.exit 3 [0,3,4]) z)))) (.exit 0 [0,3,4]))) (r [0,3,4] [m 18 4,o 19 (BI .add 18 1),a 4 19]))) (r [0,3,4] [m 20 4,o 21 (BI .add 20 1),a 4 21]))) (q (r [0,3,4] [m 22 4,o 23 (BI .add 22 1),a 4 23]) (.exit 0 [0,3,4])))) (q (q (r [0,3,4,25] [m 24 4,o 25 (BI .eql 24 0)]) (w 25 (q (r [2] [m 26 0,o 27 (.conv .u8 (.t 26)),o 28 (.mksl true 1 1 [.flat (.int .u8 0)] [⟨0,⟨1,.t 27⟩⟩]),o 29 (.b2s (.t 28)),a 2 29]) (x [2])) z)) (q (q (r [0,3,4,5] [m 30 4,a 5 30]) (k 4 [0,3,4,5] zq8)) (q (r [3,4] [m 43 4,o 44 (IB .sub 7 43),o 45 (.bin .shl (u 255) (.t 44)),m 46 0,o 47 (.conv .u8 (.t 46)),o 48 (B .or 45 47),o 49 (.paddr 4 1 (.t 3) (i 0)),n (S 1 49 48)]) (q (r [2] [m 50 4,o 51 (BI .add 50 1),o 52 (.sliceP 4 1 (.t 3) .none (.some (.t 51))),o 53 (.b2s (.t 52)),a 2 53]) (x [2])))))))))),[]⟩
def ztq:CCode:=(q (r [0,1,13,14,15] [o 15 (B .lss 14 13)]) (q (w 15 z (.exit 0 [1])) (q (.block 1 (q (r [0,1,8,13,14] [m 16 14,a 8 16]) (q (q (r [0,1,8,13,14,21] [m 17 0,m 18 8,o 19 (D 17 18),o 20 (BU .and 19 192),o 21 (BU .neq 20 128)]) (w 21 (q (r [6,7] [o 6 (.asg (.c (.flat (.int .i32 0)))),o 7 (AB false)]) (x [6,7])) z)) (r [0,1,13,14] [m 22 1,o 23 (.bin .shl (.t 22) (.c (.flat (.int .u64 6)))),m 24 0,m 25 8,o 26 (D 24 25),o 27 (BU .and 26 63),o 28 (.conv .i32 (.t 27)),o 29 (B .or 23 28),a 1 29])))) (r [0,1,13,14] [o 30 (BI .add 14 1),m 14 30]))))
def zfz:CCode:=ztq
def zzo:CFun:=⟨32,[.inl 6,.inl 7],(q (r [0,1,2] [o 6 (.asg (.c (.flat (.int .i32 0)))),o 7 (AB false)]) (q (q (r [0,1,2,12] [m 9 0,o 10 (K 9),m 11 2,o 12 (B .lss 10 11)]) (w 12 (q (r [6,7] [o 6 (.asg (.c (.flat (.int .i32 0)))),o 7 (AB false)]) (x [6,7])) z)) (q (q (r [0,1,13,14] [m 13 2,o 14 (.mv (i 0))]) (k 0 [0,1,13,14] zfz)) (q (r [6,7] [m 31 1,a 6 31,o 7 (AB true)]) (x [6,7]))))),[]⟩
def z93:CFun:=⟨17,[.inl 2],(q (r [0] [o 2 (AB false)]) (q (r [2] [m 3 0,o 4 (.bin .geq (.t 3) (.c (.flat (.int .i32 0)))),m 5 4,g 5 6 (M 0),g 5 7 (.bin .leq (.t 6) (.c (.flat (.int .i32 1114111)))),o 8 (P 5 7),m 9 8,g 9 10 (M 0),g 9 11 (.bin .lss (.t 10) (.c (.flat (.int .i32 55296)))),g 9 12 (M 11),h 12 13 (M 0),h 12 14 (.bin .gtr (.t 13) (.c (.flat (.int .i32 57343)))),g 9 15 (O 12 14),o 16 (P 9 15),a 2 16]) (x [2]))),[]⟩
def zwg:CFun:=⟨22,[.inl 2],(q (r [0] [o 2 (.asg (.c (.flat (.int .i32 0))))]) (q (q (r [0,20] [m 3 0,o 4 (.bin .lss (.t 3) (.c (.flat (.int .i32 32)))),m 5 4,g 5 6 (M 0),g 5 7 (.bin .neq (.t 6) (.c (.flat (.int .i32 9)))),o 8 (P 5 7),m 9 8,g 9 10 (M 0),g 9 11 (.bin .neq (.t 10) (.c (.flat (.int .i32 10)))),o 12 (P 9 11),m 13 12,h 13 14 (M 0),h 13 15 (.bin .geq (.t 14) (.c (.flat (.int .i32 127)))),h 13 16 (M 15),g 16 17 (M 0),g 16 18 (.bin .lss (.t 17) (.c (.flat (.int .i32 160)))),h 13 19 (P 16 18),o 20 (O 13 19)]) (w 20 (q (r [2] [o 2 (.asg (.c (.flat (.int .i32 65533))))]) (x [2])) z)) (q (r [2] [m 21 0,a 2 21]) (x [2])))),[]⟩
def zoj:CCode:=(q (r [2,3,8] [a 3 7]) (r [2,3,4] [a 4 8]))
def zok:CCode:=(.block 1 (q (r [2,14] [m 9 3,o 10 (.bin .eql (.t 9) (.c (.flat (.int .i32 65533)))),m 11 10,g 11 12 (M 4),g 11 13 (BI .eql 12 1),o 14 (P 11 13)]) (w 14 (q (r [] [n (.store 1 (.t 2) (b false))]) (x [])) z)))
def z94:CFun:=⟨15,[.inr ⟨2,⟨false,1⟩⟩],(q (r [0,2] [o 2 (.alloc 4 [.flat (.bool false)])]) (q (q (r [2,6] [m 5 0,o 6 (C 52 5)]) (.block 0 (.range 106 0 [2] (.t 6)))) (q (r [2] [n (.store 1 (.t 2) (b true))]) (x [2])))),[([7,8],zoj,zok)]⟩
def zq9:CCode:=(r [3,4] [a 4 7])
def zra:CCode:=(.block 1 (r [] [o 9 (.loadA (.t 3)),m 10 4,o 11 (.mksl false 1 1 [.flat (.int .i32 0)] [⟨0,⟨1,.t 10⟩⟩]),o 12 (.append false 1 (.t 9) (.t 11)),n (S 1 3 12)]))
def zwh:CFun:=⟨14,[.inl 2],(q (r [0,2] [o 2 (.asg (.c V))]) (q (r [0,2,3] [o 3 (.alloc 181 [V])]) (q (q (r [2,3,6] [m 5 0,o 6 (C 52 5)]) (.block 0 (.range 149 0 [3] (.t 6)))) (q (r [2] [o 13 (L 1 3),a 2 13]) (x [2]))))),[([7,8],zq9,zra)]⟩
def zpf:CCode:=(r [6,7] [a 7 21])
def zpg:CCode:=(.block 1 (r [] [m 22 7,o 23 (CC 94 6 22)]))
def ztr:CFun:=⟨28,[.inl 4,.inl 5],(q (r [0,1,4,5] [o 4 (AS #[]),o 5 (AI 0)]) (q (q (r [0,1,4,5,10] [m 8 0,o 9 (C 80 8),o 10 (U 9)]) (w 10 (q (r [4,5] [o 4 (AS #[]),o 5 (AI 1)]) (x [4,5])) z)) (q (r [0,1,4,5,6] [m 11 0,o 12 (K 11),o 13 (BI .add 12 1),o 14 (.build [.flat (.pointer .none),V,J] [⟨2,⟨1,.t 13⟩⟩]),o 6 (.alloc 144 [.flat (.pointer .none),V,J]),n (S 3 6 14)]) (q (r [1,4,5,6] [o 15 (F 0 6),m 16 0,o 17 (BS .add 16 #[58]),o 18 (CC 47 15 17)]) (q (q (r [4,5,6,20] [m 19 1,o 20 (C 93 19)]) (.block 0 (.range 46 0 [6] (.t 20)))) (q (r [6] [o 24 (F 0 6),o 25 (CS 47 24 #[13,10])]) (q (r [4,5] [o 26 (F 0 6),o 27 (C 28 26),a 4 27,o 5 (AI 0)]) (x [4,5])))))))),[([21],zpf,zpg)]⟩
def zls:CCode:=(q (r [0,6,7,8] [o 8 (B .lss 7 6)]) (q (w 8 z (.exit 0 [0])) (q (.block 1 (q (r [0,3,6,7] [m 9 7,a 3 9]) (q (r [0,4,6,7] [m 10 0,m 11 3,o 12 (D 10 11),a 4 12]) (q (r [0,6,7,32] [m 13 4,o 14 (BU .or 13 32),o 15 (BU .lss 14 97),m 16 15,h 16 17 (M 4),h 16 18 (BU .or 17 32),h 16 19 (BU .gtr 18 122),o 20 (O 16 19),m 21 20,g 21 22 (M 4),g 21 23 (BU .lss 22 48),g 21 24 (M 23),h 24 25 (M 4),h 24 26 (BU .gtr 25 57),g 21 27 (O 24 26),o 28 (P 21 27),m 29 28,g 29 30 (M 4),g 29 31 (BU .neq 30 45),o 32 (P 29 31)]) (w 32 (q (r [2] [o 2 (AB false)]) (x [2])) z))))) (r [0,6,7] [o 33 (BI .add 7 1),m 7 33]))))
def zh9:CCode:=zls
def zj4:=@onB zh9 zls rfl
def zwi:CFun:=⟨41,[.inl 2],(q (r [0] [o 2 (AB false)]) (q (q (r [0,6,7] [m 5 0,o 6 (K 5),o 7 (.mv (i 0))]) (k 0 [0,6,7] zh9)) (q (r [2] [m 34 0,o 35 (BS .neq 34 #[]),m 36 35,g 36 37 (M 0),g 36 38 (K 37),g 36 39 (BI .leq 38 32),o 40 (P 36 39),a 2 40]) (x [2])))),[]⟩
def zj5:CCode:=(q (r [0,3,9,10,11] [o 11 (B .lss 10 9)]) (q (w 11 z (.exit 0 [3])) (q (.block 1 (q (r [0,3,4,9,10] [m 12 10,a 4 12]) (q (r [0,3,4,5,9,10] [m 13 0,m 14 4,o 15 (D 13 14),a 5 15]) (q (q (r [0,3,5,9,10,34] [m 16 5,o 17 (BU .eql 16 32),m 18 17,g 18 19 (M 3),g 18 20 (BI .eql 19 0),o 21 (P 18 20),m 22 21,h 22 23 (M 5),h 22 24 (BU .lss 23 32),o 25 (O 22 24),m 26 25,h 26 27 (M 5),h 26 28 (BU .gtr 27 126),o 29 (O 26 28),m 30 29,h 30 31 (M 0),h 30 32 (M 4),h 30 33 (.call 134 [.t 31,s #[61,63],.t 32]),o 34 (O 30 33)]) (w 34 (q (r [2] [o 2 (AB false)]) (x [2])) z)) (q (q (r [0,3,5,9,10] [m 35 3,o 36 (BI .add 35 1),a 3 36]) (q (r [0,3,9,10,38] [m 37 5,o 38 (BU .eql 37 32)]) (w 38 (r [0,3,9,10] [o 3 (AI 0)]) z))) (q (r [0,3,9,10,40] [m 39 3,o 40 (BI .gtr 39 60)]) (w 40 (q (r [2] [o 2 (AB false)]) (x [2])) z))))))) (r [0,3,9,10] [o 41 (BI .add 10 1),m 10 41]))))
def zhe:CCode:=zj5
def zm7:=@onB zhe zj5 rfl
def zts:CFun:=⟨44,[.inl 2],(q (r [0] [o 2 (AB false)]) (q (q (r [0,7] [m 6 0,o 7 (BS .eql 6 #[])]) (w 7 (q (r [2] [o 2 (AB true)]) (x [2])) z)) (q (r [0,3] [o 3 (AI 0)]) (q (q (r [0,3,9,10] [m 8 0,o 9 (K 8),o 10 (.mv (i 0))]) (k 0 [0,3,9,10] zhe)) (q (r [2] [m 42 3,o 43 (BI .gtr 42 0),a 2 43]) (x [2])))))),[]⟩
def ztt:CFun:=⟨4,[.inl 2],(q (r [1] [o 1 (.box 9 1 (.t 0)),o 2 (.asg (.c (.flat .nilFunc)))]) (q (r [2] [o 3 (.clos 147 [.t 1]),a 2 3]) (x [2]))),[]⟩
def zhr:CCode:=(q (r [0,14,15,16,17] [o 17 (B .lss 16 15)]) (q (w 17 z (.exit 0 [])) (q (.block 1 (q (r [0,4,14,15,16] [o 18 (Y 1 14 16),o 19 (L 1 18),a 4 19]) (q (r [0,14,15,16,23] [m 20 0,m 21 4,o 22 (.callv (.t 20) [.t 21]),o 23 (U 22)]) (w 23 (x []) z)))) (r [0,14,15,16] [o 24 (BI .add 16 1),m 16 24]))))
def zfm:CCode:=zhr
def zku:=@onB zfm zhr rfl
def zhs:CCode:=(q (r [0,5,26,27,28,29] [o 29 (B .lss 28 27)]) (q (w 29 z (.exit 2 [0,5])) (q (.block 3 (q (r [0,5,7,26,27,28] [o 30 (Y 1 26 28),o 31 (L 1 30),a 7 31]) (q (r [0,5,8,26,27,28] [m 32 7,o 33 (C 53 32),a 8 33]) (q (q (r [0,5,8,26,27,28,39] [m 34 8,o 35 (K 34),m 36 5,o 37 (K 36),o 38 (IB .sub 45 37),o 39 (B .gtr 35 38)]) (w 39 (q (q (r [0,8,26,27,28,46] [m 40 0,m 41 5,o 42 (C 150 41),o 43 (SB .add #[61,63,85,84,70,45,56,63,66,63] 42),o 44 (BS .add 43 #[63,61]),o 45 (.callv (.t 40) [.t 44]),o 46 (U 45)]) (w 46 (x []) z)) (r [0,5,8,26,27,28] [o 5 (AS #[])])) z)) (r [0,5,26,27,28] [m 47 5,m 48 8,o 49 (B .add 47 48),a 5 49]))))) (r [0,5,26,27,28] [o 50 (BI .add 28 1),m 28 50]))))
def zfn:CCode:=zhs
def zg4:=@onB zfn zhs rfl
def zph:CFun:=⟨57,[],(q (q (r [0,1,10] [o 9 (L 1 1),o 10 (BS .eql 9 #[])]) (w 10 (x []) z)) (q (q (r [0,1,12] [o 11 (L 1 1),o 12 (C 148 11)]) (w 12 (q (q (r [0,14,15,16] [o 13 (L 1 1),o 14 (.call 81 [.t 13,u 32]),o 15 (W 14),o 16 (.mv (i 0))]) (k 0 [0,14,15,16] zfm)) (x [])) z)) (q (r [0,1,5] [o 5 (AS #[])]) (q (q (r [0,5,26,27,28] [o 25 (L 1 1),o 26 (C 149 25),o 27 (W 26),o 28 (.mv (i 0))]) (k 2 [0,5,26,27,28] zfn)) (r [] [m 51 0,m 52 5,o 53 (C 150 52),o 54 (SB .add #[61,63,85,84,70,45,56,63,66,63] 53),o 55 (BS .add 54 #[63,61]),o 56 (.callv (.t 51) [.t 55])]))))),[]⟩
def zmj:CFun:=⟨35,[],(q (q (r [0,1,11] [m 4 1,o 5 (K 4),m 6 0,o 7 (N 6),o 8 (F 2 7),o 9 (L 1 8),o 10 (IB .sub 76 9),o 11 (B .geq 5 10)]) (w 11 (q (r [0,1] [m 12 0,o 13 (N 12),o 14 (F 0 13),o 15 (CS 47 14 #[13,10])]) (r [0,1] [m 16 0,o 17 (N 16),o 18 (F 2 17),n (.store 1 (.t 18) (i 0))])) z)) (q (r [0,1] [m 19 0,o 20 (N 19),o 21 (F 0 20),m 22 1,o 23 (SB .add #[32] 22),o 24 (CC 47 21 23)]) (r [] [m 25 0,o 26 (N 25),o 27 (F 2 26),o 28 (L 1 27),m 29 1,o 30 (K 29),o 31 (IB .add 1 30),o 32 (B .add 28 31),o 33 (N 25),o 34 (F 2 33),n (S 1 34 32)]))),[]⟩
def zlt:CCode:=(q (r [2,9,10,11,40,41,42,43] [o 43 (B .lss 42 41)]) (q (w 43 z (.exit 0 [2,9])) (q (.block 1 (q (r [2,9,10,11,13,40,41,42] [o 44 (Y 1 40 42),o 45 (L 1 44),a 13 45]) (q (q (r [2,9,10,11,13,40,41,42,47] [m 46 13,o 47 (BS .eql 46 #[])]) (w 47 (.exit 1 [2,9,10,11,40,41,42]) z)) (q (r [2,9,10,11,14,15,40,41,42] [m 49 13,o 50 (C 83 49),m 48 50,o 51 (E 48 0),o 52 (E 48 1),a 14 51,a 15 52]) (q (q (r [2,9,14,15,40,41,42,60] [m 53 10,m 54 53,g 54 55 (M 11),g 54 56 (M 55),g 56 57 (M 15),g 54 58 (P 56 57),g 54 59 (U 58),o 60 (P 54 59)]) (w 60 (r [2,9,14,15,40,41,42] [o 61 (.call 84 [.t 9,u 32])]) z)) (q (r [2,9,15,40,41,42] [m 62 14,o 63 (CC 47 9 62)]) (r [2,9,10,11,40,41,42] [m 64 15,o 10 (AB true),a 11 64]))))))) (r [2,9,10,11,40,41,42] [o 65 (BI .add 42 1),m 42 65]))))
def zia:CCode:=zlt
def zei:=@onB zia zlt rfl
def zwj:CFun:=⟨68,[.inl 2,.inl 3,.inl 4],(q (r [0] [o 2 (AS #[]),o 3 (AS #[]),o 4 (AI 0)]) (q (r [5,6] [m 17 0,o 18 (C 78 17),m 16 18,o 19 (E 16 0),o 20 (E 16 1),a 5 19,a 6 20]) (q (r [2,6,7,8] [m 22 5,o 23 (CS 79 22 #[58]),m 21 23,o 24 (E 21 0),o 25 (E 21 1),o 26 (E 21 2),a 2 24,a 7 25,a 8 26]) (q (q (r [2,7,37] [m 27 6,o 28 (U 27),m 29 28,h 29 30 (M 8),h 29 31 (U 30),o 32 (O 29 31),m 33 32,h 33 34 (M 2),h 33 35 (C 80 34),h 33 36 (U 35),o 37 (O 33 36)]) (w 37 (q (r [2,3,4] [o 2 (AS #[]),o 3 (AS #[]),o 4 (AI 7)]) (x [2,3,4])) z)) (q (r [2,7,9] [o 9 (.alloc 59 [.flat (.pointer .none),V])]) (q (r [2,7,9,10,11] [o 10 (AB false),o 11 (AB false)]) (q (q (r [2,9,10,11,40,41,42] [m 38 7,o 39 (.call 82 [.t 38,s #[9],s #[32]]),o 40 (.call 81 [.t 39,u 32]),o 41 (W 40),o 42 (.mv (i 0))]) (k 0 [2,9,10,11,40,41,42] zia)) (q (r [2,3,4] [m 66 2,o 67 (C 28 9),a 2 66,a 3 67,o 4 (AI 0)]) (x [2,3,4]))))))))),[]⟩
def zlu:CCode:=(q (q (r [0,5,6,17] [m 14 6,m 15 0,o 16 (K 15),o 17 (B .lss 14 16)]) (w 17 z (.exit 0 [5]))) (q (.block 1 (q (q (r [0,5,6,36] [m 20 0,m 21 6,o 22 (.call 134 [.t 20,s #[13,10],.t 21]),m 23 22,g 23 24 (M 6),g 23 25 (BI .add 24 2),g 23 26 (M 0),g 23 27 (K 26),g 23 28 (B .lss 25 27),o 29 (P 23 28),m 30 29,g 30 31 (M 0),g 30 32 (M 6),g 30 33 (BI .add 32 2),g 30 34 (D 31 33),g 30 35 (C 135 34),o 36 (P 30 35)]) (w 36 (q (r [0,5,6] [m 37 6,o 38 (BI .add 37 1),a 6 38]) (.exit 1 [0,5,6])) z)) (q (q (r [0,5,6,48] [m 39 0,m 40 6,o 41 (D 39 40),o 42 (BU .eql 41 13),m 43 42,h 43 44 (M 0),h 43 45 (M 6),h 43 46 (D 44 45),h 43 47 (BU .eql 46 10),o 48 (O 43 47)]) (w 48 (q (r [2,3] [o 2 (AS #[]),o 3 (AB false)]) (x [2,3])) z)) (r [0,5,6] [m 49 0,m 50 6,o 51 (D 49 50),o 52 (CC 84 5 51)])))) (r [0,5,6] [m 18 6,o 19 (BI .add 18 1),a 6 19])))
def zlv:CCode:=zlu
def zdm:=@onB zlv zlu rfl
def zwk:CFun:=⟨54,[.inl 2,.inl 3],(q (r [0] [o 2 (AS #[]),o 3 (AB false)]) (q (r [0,4] [m 8 0,o 9 (CS 133 8 #[13,10]),m 7 9,o 10 (E 7 0),o 11 (E 7 1),a 0 10,a 4 11]) (q (q (r [0,13] [m 12 4,o 13 (U 12)]) (w 13 (q (r [2,3] [o 2 (AS #[]),o 3 (AB false)]) (x [2,3])) z)) (q (r [0,5] [o 5 (.alloc 59 [.flat (.pointer .none),V])]) (q (q (r [0,5,6] [o 6 (AI 0)]) (k 0 [0,5,6] zlv)) (q (r [2,3] [o 53 (C 28 5),a 2 53,o 3 (AB true)]) (x [2,3]))))))),[]⟩
def zpi:CFun:=⟨40,[.inl 2,.inl 3],(q (r [0] [o 2 (AS #[]),o 3 (AB false)]) (q (r [0,4,5] [m 10 0,o 11 (CS 132 10 #[61,63,85,84,70,45,56,63,66,63]),m 9 11,o 12 (E 9 0),o 13 (E 9 1),a 4 12,a 5 13]) (q (r [0,4,5,6] [m 15 4,o 16 (CS 133 15 #[63,61]),m 14 16,o 17 (E 14 0),o 18 (E 14 1),a 4 17,a 6 18]) (q (q (r [0,4,24] [m 19 5,o 20 (U 19),m 21 20,h 21 22 (M 6),h 21 23 (U 22),o 24 (O 21 23)]) (w 24 (q (r [2,3] [m 25 0,a 2 25,o 3 (AB false)]) (x [2,3])) z)) (q (r [0,7,8] [m 27 4,o 28 (C 139 27),m 26 28,o 29 (E 26 0),o 30 (E 26 1),a 7 29,a 8 30]) (q (q (r [0,7,37] [m 31 8,o 32 (BI .neq 31 0),m 33 32,h 33 34 (M 7),h 33 35 (C 106 34),h 33 36 (U 35),o 37 (O 33 36)]) (w 37 (q (r [2,3] [m 38 0,a 2 38,o 3 (AB false)]) (x [2,3])) z)) (q (r [2,3] [m 39 7,a 2 39,o 3 (AB true)]) (x [2,3])))))))),[]⟩
def ztu:CFun:=⟨9,[.inl 2],(q (r [0] [o 2 (AB false)]) (q (r [2] [m 3 0,o 4 (BU .eql 3 32),m 5 4,h 5 6 (M 0),h 5 7 (BU .eql 6 9),o 8 (O 5 7),a 2 8]) (x [2]))),[]⟩
def zeh:CFun:=⟨19,[.inl 4,.inl 5],(q (r [0,1] [o 4 (AI 0),o 5 (.asg (.c (.flat .nilIface)))]) (q (r [0,1] [m 6 0,o 7 (C 95 6)]) (q (r [1] [m 8 0,m 9 0,o 10 (N 9),o 11 (F 1 10),o 12 (.loadA (.t 11)),m 13 1,o 14 (.appendS (.t 12) (.t 13)),o 15 (N 8),o 16 (F 1 15),n (S 1 16 14)]) (q (r [4,5] [m 17 1,o 18 (K 17),a 4 18,o 5 (.asg (.c (.flat .nilIface)))]) (x [4,5]))))),[]⟩
def zew:CFun:=⟨17,[.inl 4],(q (r [0,1] [o 4 (.asg (.c (.flat .nilIface)))]) (q (r [0,1] [m 5 0,o 6 (C 95 5)]) (q (r [] [m 7 0,m 8 0,o 9 (N 8),o 10 (F 1 9),o 11 (.loadA (.t 10)),m 12 1,o 13 (.mksl true 1 1 [.flat (.int .u8 0)] [⟨0,⟨1,.t 12⟩⟩]),o 14 (.append true 1 (.t 11) (.t 13)),o 15 (N 7),o 16 (F 1 15),n (S 1 16 14)]) (q (r [4] [o 4 (.asg (.c (.flat .nilIface)))]) (x [4]))))),[]⟩
def zrb:CCode:=(r [5,6] [a 6 10])
def zrc:CCode:=(.block 1 (r [] [o 11 (.loadA (.t 5)),m 12 6,o 13 (.mksl false 1 1 [Z] [⟨0,⟨1,.t 12⟩⟩]),o 14 (.append false 1 (.t 11) (.t 13)),n (S 1 5 14)]))
def zwl:CFun:=⟨16,[.inl 4],(q (r [0,1,4] [o 4 (.asg (.c V))]) (q (r [0,1,4,5] [o 5 (.alloc 39 [V])]) (q (q (r [4,5,9] [m 7 0,m 8 1,o 9 (CC 137 7 8)]) (.block 0 (.range 81 0 [5] (.t 9)))) (q (r [4] [o 15 (L 1 5),a 4 15]) (x [4]))))),[([10],zrb,zrc)]⟩
def zpj:CFun:=⟨6,[.inl 4],(q (r [2,3] [o 2 (.box 9 1 (.t 0)),o 3 (.box 5 1 (.t 1)),o 4 (.asg (.c (.flat .nilFunc)))]) (q (r [4] [o 5 (.clos 182 [.t 2,.t 3]),a 4 5]) (x [4]))),[]⟩
def zgg:CCode:=(.block 1 (q (r [0,1,2,4] [o 5 (L 1 1),o 6 (L 1 2),o 7 (CC 32 5 6),a 4 7]) (q (q (r [0,1,2,4,9] [m 8 4,o 9 (BI .lss 8 0)]) (w 9 (q (r [] [m 10 0,o 11 (L 1 1),o 12 (.callv (.t 10) [.t 11])]) (x [])) z)) (q (q (r [0,1,2,4,18] [m 13 0,o 14 (L 1 1),m 15 4,o 16 (.sliceS (.t 14) .none (.some (.t 15))),o 17 (.callv (.t 13) [.t 16]),o 18 (U 17)]) (w 18 (x []) z)) (r [0,1,2] [o 19 (L 1 1),m 20 4,o 21 (BI .add 20 1),o 22 (.sliceS (.t 19) (.some (.t 21)) .none),n (S 1 1 22)])))))
def zgh:CCode:=zgg
def zfr:=@onB zgh zgg rfl
def zmk:CFun:=⟨23,[],(k 0 [0,1,2] zgh),[]⟩
def zpk:CFun:=⟨22,[.inl 6],(q (r [0,1,2] [o 6 (AB false)]) (q (r [6] [m 7 2,o 8 (BI .geq 7 0),m 9 8,g 9 10 (M 2),g 9 11 (M 0),g 9 12 (K 11),g 9 13 (B .leq 10 12),o 14 (P 9 13),m 15 14,g 15 16 (M 0),g 15 17 (M 2),g 15 18 (.sliceS (.t 16) (.some (.t 17)) .none),g 15 19 (M 1),g 15 20 (CC 74 18 19),o 21 (P 15 20),a 6 21]) (x [6]))),[]⟩
def zix:CCode:=(q (q (r [4,5,19] [m 15 4,o 16 (N 15),o 17 (F 0 16),o 18 (C 107 17),o 19 (U 18)]) (w 19 z (.exit 0 [5]))) (.block 1 (q (r [4,5,6,7] [m 21 4,o 22 (C 108 21),m 20 22,o 23 (E 20 0),o 24 (E 20 1),o 6 (.alloc 163 [.flat (.int .u8 0),Z,Z,V,J,J]),n (S 6 6 23),a 7 24]) (q (q (r [4,5,6,26] [m 25 7,o 26 (U 25)]) (w 26 (q (r [2,3] [o 2 (.asg (.c V)),o 3 (AI 7)]) (x [2,3])) z)) (r [4,5] [o 27 (.mvA 5),o 28 (LT 6 6),o 29 (.mksl false 1 6 [.flat (.int .u8 0),Z,Z,V,J,J] [⟨0,⟨6,.t 28⟩⟩]),o 30 (.append false 6 (.t 27) (.t 29)),a 5 30])))))
def ziy:CCode:=zix
def zht:=@onB ziy zix rfl
def zrd:CFun:=⟨32,[.inl 2,.inl 3],(q (r [0] [o 2 (.asg (.c V)),o 3 (AI 0)]) (q (q (r [0,10] [m 8 0,o 9 (C 106 8),o 10 (U 9)]) (w 10 (q (r [2,3] [o 2 (.asg (.c V)),o 3 (AI 7)]) (x [2,3])) z)) (q (r [4] [m 11 0,o 12 (.build [Z,J] [⟨0,⟨1,.t 11⟩⟩]),o 13 (.build [Z,J] [⟨0,⟨2,.t 12⟩⟩]),o 14 (.box 160 2 (.t 13)),a 4 14]) (q (r [4,5] [o 5 (.asg (.c V))]) (q (k 0 [4,5] ziy) (q (r [2,3] [m 31 5,a 2 31,o 3 (AI 0)]) (x [2,3]))))))),[]⟩
def zwm:CFun:=⟨13,[.inl 2],(q (r [0] [o 2 (AB false)]) (q (r [2] [m 3 0,o 4 (BS .eql 3 #[98,114]),m 5 4,h 5 6 (M 0),h 5 7 (BS .eql 6 #[104,114]),o 8 (O 5 7),m 9 8,h 9 10 (M 0),h 9 11 (BS .eql 10 #[105,109,103]),o 12 (O 9 11),a 2 12]) (x [2]))),[]⟩
def zpl:CFun:=⟨6,[.inl 2],(q (r [0] [o 2 (AB false)]) (q (r [2] [o 3 (.mksl false 26 1 [Z,Z,Z,Z,Z,Z,Z,Z,Z,Z,Z,Z,Z,Z,Z,Z,Z,Z,Z,Z,Z,Z,Z,Z,Z,Z] [⟨0,⟨1,s #[97]⟩⟩,⟨1,⟨1,s #[98]⟩⟩,⟨2,⟨1,s #[98,114]⟩⟩,⟨3,⟨1,s #[99,111,100,101]⟩⟩,⟨4,⟨1,s #[100,105,118]⟩⟩,⟨5,⟨1,s #[101,109]⟩⟩,⟨6,⟨1,s #[104,49]⟩⟩,⟨7,⟨1,s #[104,50]⟩⟩,⟨8,⟨1,s #[104,51]⟩⟩,⟨9,⟨1,s #[104,114]⟩⟩,⟨10,⟨1,s #[105]⟩⟩,⟨11,⟨1,s #[105,109,103]⟩⟩,⟨12,⟨1,s #[108,105]⟩⟩,⟨13,⟨1,s #[111,108]⟩⟩,⟨14,⟨1,s #[112]⟩⟩,⟨15,⟨1,s #[112,114,101]⟩⟩,⟨16,⟨1,s #[115,112,97,110]⟩⟩,⟨17,⟨1,s #[115,116,114,111,110,103]⟩⟩,⟨18,⟨1,s #[116,97,98,108,101]⟩⟩,⟨19,⟨1,s #[116,98,111,100,121]⟩⟩,⟨20,⟨1,s #[116,100]⟩⟩,⟨21,⟨1,s #[116,104]⟩⟩,⟨22,⟨1,s #[116,104,101,97,100]⟩⟩,⟨23,⟨1,s #[116,114]⟩⟩,⟨24,⟨1,s #[117]⟩⟩,⟨25,⟨1,s #[117,108]⟩⟩]),m 4 0,o 5 (CC 194 3 4),a 2 5]) (x [2]))),[]⟩
def zml:CFun:=⟨6,[.inl 2],(q (r [0] [o 2 (AB false)]) (q (r [2] [o 3 (.mksl false 9 1 [Z,Z,Z,Z,Z,Z,Z,Z,Z] [⟨0,⟨1,s #[97,108,116]⟩⟩,⟨1,⟨1,s #[99,108,97,115,115]⟩⟩,⟨2,⟨1,s #[99,111,108,115,112,97,110]⟩⟩,⟨3,⟨1,s #[104,114,101,102]⟩⟩,⟨4,⟨1,s #[105,100]⟩⟩,⟨5,⟨1,s #[114,111,119,115,112,97,110]⟩⟩,⟨6,⟨1,s #[115,114,99]⟩⟩,⟨7,⟨1,s #[116,105,116,108,101]⟩⟩,⟨8,⟨1,s #[119,105,100,116,104]⟩⟩]),m 4 0,o 5 (CC 194 3 4),a 2 5]) (x [2]))),[]⟩
def ztv:CFun:=⟨13,[.inl 2],(q (r [0] [o 2 (AB false)]) (q (r [2] [m 3 0,o 4 (BU .eql 3 32),m 5 4,h 5 6 (M 0),h 5 7 (BU .eql 6 9),o 8 (O 5 7),m 9 8,h 9 10 (M 0),h 9 11 (BU .eql 10 10),o 12 (O 9 11),a 2 12]) (x [2]))),[]⟩
def zre:CFun:=⟨17,[.inl 2],(q (r [0] [o 2 (AB false)]) (q (r [2] [m 3 0,o 4 (BU .geq 3 97),m 5 4,g 5 6 (M 0),g 5 7 (BU .leq 6 122),o 8 (P 5 7),m 9 8,h 9 10 (M 0),h 9 11 (BU .geq 10 48),h 9 12 (M 11),g 12 13 (M 0),g 12 14 (BU .leq 13 57),h 9 15 (P 12 14),o 16 (O 9 15),a 2 16]) (x [2]))),[]⟩
def zmm:CFun:=⟨13,[.inl 2],(q (r [0] [o 2 (AB false)]) (q (.reg [2] [m 3 0,o 4 (N 3),o 5 (F 1 4),o 6 (L 1 5),m 7 0,o 8 (N 7),o 9 (F 0 8),o 10 (L 1 9),o 11 (K 10)] [o 12 (B .geq 6 11),a 2 12]) (x [2]))),[]⟩
def zmn:CFun:=⟨26,[.inl 4],(q (r [0,1] [o 4 (AB false)]) (q (q (.reg [0,1,16] [m 5 0,o 6 (N 5),o 7 (F 0 6),o 8 (L 1 7),m 9 0,o 10 (N 9),o 11 (F 1 10),o 12 (L 1 11),o 13 (.sliceS (.t 8) (.some (.t 12)) .none),m 14 1] [o 15 (CC 74 13 14),o 16 (U 15)]) (w 16 (q (r [4] [o 4 (AB false)]) (x [4])) z)) (q (r [] [m 17 0,o 18 (N 17),o 19 (F 1 18),o 20 (L 1 19),m 21 1,o 22 (K 21),o 23 (B .add 20 22),o 24 (N 17),o 25 (F 1 24),n (S 1 25 23)]) (q (r [4] [o 4 (AB true)]) (x [4]))))),[]⟩
def zfs:CCode:=(q (q (.regT [0,1,5,25] [m 10 0,o 11 (C 107 10),o 12 (U 11),m 13 12,g 13 14 (M 1),g 13 15 (M 0),g 13 16 (N 15),g 13 17 (F 0 16),g 13 18 (L 1 17),g 13 19 (M 0),g 13 20 (N 19),g 13 21 (F 1 20),g 13 22 (L 1 21),g 13 23 (D 18 22)] (.one (g 13 24 (.callv (.t 14) [.t 23])) (.one (o 25 (P 13 24)) .done))) (w 25 z (.exit 0 [0,5]))) (.block 1 (r [0,1,5] [m 26 0,o 27 (N 26),o 28 (F 1 27),o 29 (L 1 28),o 30 (BI .add 29 1),o 31 (N 26),o 32 (F 1 31),n (S 1 32 30)])))
def zft:CCode:=zfs
def ze8:=@onB zft zfs rfl
def zkv:CFun:=⟨43,[.inl 4],(q (r [0,1] [o 4 (AS #[])]) (q (r [0,1,5] [m 6 0,o 7 (N 6),o 8 (F 1 7),o 9 (L 1 8),a 5 9]) (q (k 0 [0,1,5] zft) (q (.reg [4] [m 33 0,o 34 (N 33),o 35 (F 0 34),o 36 (L 1 35),m 37 5,m 38 0,o 39 (N 38),o 40 (F 1 39),o 41 (L 1 40)] [o 42 (.sliceS (.t 36) (.some (.t 37)) (.some (.t 41))),a 4 42]) (x [4]))))),[]⟩
def zjo:CFun:=⟨69,[.inr ⟨2,⟨true,6⟩⟩,.inl 3],(q (r [0,2] [o 2 (.alloc 163 [.flat (.int .u8 0),Z,Z,V,J,J]),o 3 (AB false)]) (q (r [0,2,4] [m 9 0,o 10 (N 9),o 11 (F 0 10),o 12 (F 1 11),o 13 (L 1 12),a 4 13]) (q (.block 0 (q (r [0,2,4,14] [m 15 0,o 16 (N 15),o 17 (F 0 16),o 18 (CS 159 17 #[60,47]),a 14 18]) (w 14 (q (r [0,2,4,5] [m 19 0,o 20 (N 19),o 21 (F 0 20),o 22 (.call 160 [.t 21,.c (.clo 161 [])]),a 5 22]) (q (r [0,2,4,5,6] [m 23 5,o 24 (C 162 23),m 25 24,g 25 26 (M 5),g 25 27 (C 109 26),g 25 28 (U 27),o 29 (P 25 28),m 30 29,g 30 31 (M 0),g 30 32 (N 31),g 30 33 (F 0 32),g 30 34 (CS 159 33 #[62]),o 35 (P 30 34),a 6 35]) (q (r [2,3] [m 36 5,m 37 4,m 38 0,o 39 (N 38),o 40 (F 0 39),o 41 (F 1 40),o 42 (L 1 41),o 43 (.build [.flat (.int .u8 0),Z,Z,V,J,J] [⟨0,⟨1,u 99⟩⟩,⟨1,⟨1,.t 36⟩⟩,⟨4,⟨1,.t 37⟩⟩,⟨5,⟨1,.t 42⟩⟩]),m 44 6,n (S 6 2 43),a 3 44]) (x [2,3])))) (q (r [0,2,4,45] [m 46 0,o 47 (N 46),o 48 (F 0 47),o 49 (CS 159 48 #[60]),a 45 49]) (w 45 (q (r [2,3] [m 50 0,m 51 4,o 52 (CC 163 50 51),o 53 (E 52 0),o 54 (E 52 1),n (S 6 2 53),a 3 54]) (x [2,3])) z))))) (q (r [0,2,4,7,8] [m 56 0,o 57 (.call 164 [.t 56,u 60,u 62]),m 55 57,o 58 (E 55 0),o 59 (E 55 1),a 7 58,a 8 59]) (q (r [2,3] [m 60 7,m 61 4,m 62 0,o 63 (N 62),o 64 (F 0 63),o 65 (F 1 64),o 66 (L 1 65),o 67 (.build [.flat (.int .u8 0),Z,Z,V,J,J] [⟨0,⟨1,u 116⟩⟩,⟨2,⟨1,.t 60⟩⟩,⟨4,⟨1,.t 61⟩⟩,⟨5,⟨1,.t 66⟩⟩]),m 68 8,n (S 6 2 67),a 3 68]) (x [2,3])))))),[]⟩
def ze9:CCode:=(.block 1 (q (r [0,4,6,7] [m 21 0,o 22 (N 21),o 23 (F 0 22),o 24 (.call 160 [.t 23,.c (.clo 195 [])]),a 7 24]) (q (q (r [0,4,6,7,28] [m 25 0,o 26 (N 25),o 27 (F 0 26),o 28 (CS 159 27 #[62])]) (w 28 (q (r [4,6] [m 29 0,o 30 (N 29),o 31 (F 0 30),o 32 (F 1 31),o 33 (L 1 32),o 34 (F 5 6),n (S 1 34 33)]) (q (r [4,5] [o 35 (LT 6 6),n (S 6 4 35),o 5 (AB true)]) (x [4,5]))) z)) (q (r [0,4,6,7,8,9] [m 37 0,o 38 (C 196 37),m 36 38,o 39 (E 36 0),o 40 (E 36 1),o 8 (.alloc 214 [Z,Z,J,J]),n (S 4 8 39),a 9 40]) (q (q (r [0,4,6,8,52] [m 41 9,o 42 (U 41),m 43 42,h 43 44 (M 7),h 43 45 (BS .eql 44 #[]),o 46 (O 43 45),m 47 46,h 47 48 (F 3 6),h 47 49 (L 1 48),h 47 50 (.clos 198 [.t 8]),h 47 51 (CC 197 49 50),o 52 (O 47 51)]) (w 52 (q (r [4,5] [o 53 (LT 6 6),n (S 6 4 53),o 5 (AB false)]) (x [4,5])) z)) (r [0,4,6] [o 54 (F 3 6),o 55 (.loadA (.t 54)),o 56 (LT 4 8),o 57 (.mksl false 1 4 [Z,Z,J,J] [⟨0,⟨4,.t 56⟩⟩]),o 58 (.append false 4 (.t 55) (.t 57)),o 59 (F 3 6),n (S 1 59 58)]))))))
def zcc:CCode:=ze9
def zcq:=@onB zcc ze9 rfl
def zjp:CFun:=⟨60,[.inr ⟨4,⟨true,6⟩⟩,.inl 5],(q (r [0,1,4] [o 4 (.alloc 163 [.flat (.int .u8 0),Z,Z,V,J,J]),o 5 (AB false)]) (q (r [0,4,6] [m 10 0,o 11 (N 10),o 12 (F 0 11),o 13 (.call 160 [.t 12,.c (.clo 161 [])]),m 14 1,o 15 (.build [.flat (.int .u8 0),Z,Z,V,J,J] [⟨0,⟨1,u 111⟩⟩,⟨1,⟨1,.t 13⟩⟩,⟨4,⟨1,.t 14⟩⟩]),o 6 (.alloc 163 [.flat (.int .u8 0),Z,Z,V,J,J]),n (S 6 6 15)]) (q (q (r [0,4,6,19] [o 16 (F 1 6),o 17 (L 1 16),o 18 (C 162 17),o 19 (U 18)]) (w 19 (q (r [4,5] [o 20 (LT 6 6),n (S 6 4 20),o 5 (AB false)]) (x [4,5])) z)) (k 0 [0,4,6] zcc)))),[]⟩
def zh5:CFun:=⟨9,[.inl 3],(q (r [1,2] [o 2 (.box 214 4 (.t 0)),o 3 (AB false)]) (q (r [3] [o 4 (F 0 2),o 5 (L 1 4),o 6 (F 0 1),o 7 (L 1 6),o 8 (B .eql 5 7),a 3 8]) (x [3]))),[]⟩
def zfa:CCode:=(q (q (.regT [0,1,2,8,31] [m 12 0,o 13 (N 12),o 14 (F 0 13),o 15 (C 107 14),o 16 (U 15),m 17 16,g 17 18 (M 0),g 17 19 (N 18),g 17 20 (F 0 19),g 17 21 (F 0 20),g 17 22 (L 1 21),g 17 23 (M 0),g 17 24 (N 23),g 17 25 (F 0 24),g 17 26 (F 1 25),g 17 27 (L 1 26),g 17 28 (D 22 27),g 17 29 (M 1),g 17 30 (B .neq 28 29),o 31 (P 17 30)] .done) (w 31 z (.exit 0 [8]))) (.block 1 (q (.reg [0,1,2,8,9] [m 32 0,o 33 (N 32),o 34 (F 0 33),o 35 (F 0 34),o 36 (L 1 35),m 37 0,o 38 (N 37),o 39 (F 0 38),o 40 (F 1 39),o 41 (L 1 40)] [o 42 (D 36 41),a 9 42]) (q (r [0,1,2,8,9,43] [m 43 9]) (.block 2 (q (r [0,1,2,8,9,43,55] [m 56 2,o 57 (B .eql 43 56),a 55 57]) (w 55 (q (r [6,7] [o 6 (AS #[]),o 7 (AB false)]) (x [6,7])) (q (r [0,1,2,8,9,58] [o 59 (BU .eql 43 38),a 58 59]) (w 58 (q (r [0,1,2,8,10,11] [m 61 0,o 62 (C 199 61),m 60 62,o 63 (E 60 0),o 64 (E 60 1),a 10 63,a 11 64]) (q (q (r [0,1,2,8,10,66] [m 65 11,o 66 (U 65)]) (w 66 (q (r [6,7] [o 6 (AS #[]),o 7 (AB false)]) (x [6,7])) z)) (r [0,1,2,8] [m 67 10,o 68 (CC 47 8 67)]))) (q (r [0,1,2,8] [m 44 9,o 45 (CC 84 8 44)]) (r [0,1,2,8] [m 46 0,o 47 (N 46),o 48 (F 0 47),o 49 (F 1 48),o 50 (L 1 49),o 51 (BI .add 50 1),o 52 (N 46),o 53 (F 0 52),o 54 (F 1 53),n (S 1 54 51)])))))))))))
def zfb:CCode:=zfa
def zb0:=@onB zfb zfa rfl
def zjq:CFun:=⟨70,[.inl 6,.inl 7],(q (r [0,1,2] [o 6 (AS #[]),o 7 (AB false)]) (q (r [0,1,2,8] [o 8 (.alloc 59 [.flat (.pointer .none),V])]) (q (k 0 [0,1,2,8] zfb) (q (r [6,7] [o 69 (C 28 8),a 6 69,o 7 (AB true)]) (x [6,7]))))),[]⟩
def zgi:CFun:=⟨42,[.inl 2,.inl 3],(q (r [0] [o 2 (AS #[]),o 3 (AB false)]) (q (.block 0 (q (r [0,4] [m 5 0,o 6 (N 5),o 7 (F 0 6),o 8 (CS 159 7 #[38,97,109,112,59]),a 4 8]) (w 4 (q (r [2,3] [o 2 (AS #[38]),o 3 (AB true)]) (x [2,3])) (q (r [0,9] [m 10 0,o 11 (N 10),o 12 (F 0 11),o 13 (CS 159 12 #[38,108,116,59]),a 9 13]) (w 9 (q (r [2,3] [o 2 (AS #[60]),o 3 (AB true)]) (x [2,3])) (q (r [0,14] [m 15 0,o 16 (N 15),o 17 (F 0 16),o 18 (CS 159 17 #[38,103,116,59]),a 14 18]) (w 14 (q (r [2,3] [o 2 (AS #[62]),o 3 (AB true)]) (x [2,3])) (q (r [0,19] [m 20 0,o 21 (N 20),o 22 (F 0 21),o 23 (CS 159 22 #[38,113,117,111,116,59]),a 19 23]) (w 19 (q (r [2,3] [o 2 (AS #[34]),o 3 (AB true)]) (x [2,3])) (q (r [0,24] [m 25 0,o 26 (N 25),o 27 (F 0 26),o 28 (CS 159 27 #[38,35,120]),a 24 28]) (w 24 (q (r [2,3] [m 29 0,o 30 (.call 224 [.t 29,i 16,i 6]),o 31 (E 30 0),o 32 (E 30 1),a 2 31,a 3 32]) (x [2,3])) (q (r [0,33] [m 34 0,o 35 (N 34),o 36 (F 0 35),o 37 (CS 159 36 #[38,35]),a 33 37]) (w 33 (q (r [2,3] [m 38 0,o 39 (.call 224 [.t 38,i 10,i 7]),o 40 (E 39 0),o 41 (E 39 1),a 2 40,a 3 41]) (x [2,3])) z))))))))))))) (q (r [2,3] [o 2 (AS #[]),o 3 (AB false)]) (x [2,3])))),[]⟩
def zem:CCode:=(q (q (r [0,1,2,8,9,24] [m 15 0,o 16 (N 15),o 17 (F 0 16),o 18 (C 107 17),o 19 (U 18),m 20 19,g 20 21 (M 9),g 20 22 (M 2),g 20 23 (B .lss 21 22),o 24 (P 20 23)]) (w 24 z (.exit 0 [0,8]))) (.block 1 (q (r [0,1,2,8,9,10] [m 25 1,a 10 25]) (q (q (.reg [0,1,2,8,9,10,11] [m 26 0,o 27 (N 26),o 28 (F 0 27),o 29 (F 0 28),o 30 (L 1 29),m 31 0,o 32 (N 31),o 33 (F 0 32),o 34 (F 1 33),o 35 (L 1 34)] [o 36 (D 30 35),a 11 36]) (.block 2 (q (r [0,1,2,8,9,10,11,37] [m 38 11,o 39 (BU .geq 38 48),m 40 39,g 40 41 (M 11),g 40 42 (BU .leq 41 57),o 43 (P 40 42),a 37 43]) (w 37 (r [0,1,2,8,9,10] [m 44 11,o 45 (BU .sub 44 48),o 46 (.conv .i64 (.t 45)),a 10 46]) (q (r [0,1,2,8,9,10,11,47] [m 48 11,o 49 (BU .or 48 32),o 50 (BU .geq 49 97),m 51 50,g 51 52 (M 11),g 51 53 (BU .or 52 32),g 51 54 (BU .leq 53 102),o 55 (P 51 54),a 47 55]) (w 47 (r [0,1,2,8,9,10] [m 56 11,o 57 (BU .or 56 32),o 58 (BU .sub 57 97),o 59 (.conv .i64 (.t 58)),o 60 (BI .add 59 10),a 10 60]) z)))))) (q (q (r [0,1,2,8,9,10,63] [m 61 10,m 62 1,o 63 (B .geq 61 62)]) (w 63 (.exit 0 [0,8]) z)) (q (r [0,1,2,8,9] [m 64 8,m 65 1,o 66 (B .mul 64 65),m 67 10,o 68 (B .add 66 67),a 8 68]) (q (r [0,1,2,8,9] [m 69 9,o 70 (BI .add 69 1),a 9 70]) (r [0,1,2,8,9] [m 71 0,o 72 (N 71),o 73 (F 0 72),o 74 (F 1 73),o 75 (L 1 74),o 76 (BI .add 75 1),o 77 (N 71),o 78 (F 0 77),o 79 (F 1 78),n (S 1 79 76)]))))))))
def zen:CCode:=zem
def zar:=@onB zen zem rfl
def zh6:CFun:=⟨104,[.inl 6,.inl 7],(q (r [0,1,2] [o 6 (AS #[]),o 7 (AB false)]) (q (r [0,1,2,8,9] [o 8 (AI 0),o 9 (AI 0)]) (q (k 0 [0,1,2,8,9] zen) (q (r [0,8,12] [m 80 8,o 81 (.conv .i32 (.t 80)),o 82 (C 53 81),a 12 82]) (q (q (r [0,8,12,13] [m 84 12,o 85 (CI 103 84 0),m 83 85,o 86 (E 83 0),o 87 (E 83 1),a 13 86,a 14 87]) (q (r [12,102] [m 88 8,o 89 (BI .eql 88 0),m 90 89,h 90 91 (M 13),h 90 92 (.conv .i64 (.t 91)),h 90 93 (M 8),h 90 94 (B .neq 92 93),o 95 (O 90 94),m 96 95,h 96 97 (M 0),h 96 98 (N 97),h 96 99 (F 0 98),h 96 100 (CS 159 99 #[59]),h 96 101 (U 100),o 102 (O 96 101)]) (w 102 (q (r [6,7] [o 6 (AS #[]),o 7 (AB false)]) (x [6,7])) z))) (q (r [6,7] [m 103 12,a 6 103,o 7 (AB true)]) (x [6,7]))))))),[]⟩
def zjr:CFun:=⟨51,[.inr ⟨2,⟨true,4⟩⟩,.inl 3],(q (r [0,2] [o 2 (.alloc 214 [Z,Z,J,J]),o 3 (AB false)]) (q (r [0,2,4] [m 7 0,o 8 (N 7),o 9 (F 0 8),o 10 (.call 160 [.t 9,.c (.clo 161 [])]),o 11 (.build [Z,Z,J,J] [⟨0,⟨1,.t 10⟩⟩]),o 4 (.alloc 214 [Z,Z,J,J]),n (S 4 4 11)]) (q (q (r [0,2,4,22] [o 12 (F 0 4),o 13 (L 1 12),o 14 (C 222 13),o 15 (U 14),m 16 15,h 16 17 (M 0),h 16 18 (N 17),h 16 19 (F 0 18),h 16 20 (CS 159 19 #[61,34]),h 16 21 (U 20),o 22 (O 16 21)]) (w 22 (q (r [2,3] [o 23 (LT 4 4),n (S 4 2 23),o 3 (AB false)]) (x [2,3])) z)) (q (r [0,2,4] [m 24 0,o 25 (N 24),o 26 (F 0 25),o 27 (F 1 26),o 28 (L 1 27),o 29 (F 2 4),n (S 1 29 28)]) (q (r [0,2,4,5,6] [m 31 0,o 32 (.call 164 [.t 31,u 34,u 60]),m 30 32,o 33 (E 30 0),o 34 (E 30 1),a 5 33,a 6 34]) (q (.regT [0,2,4,6] [m 35 5,m 36 0,o 37 (N 36),o 38 (F 0 37),o 39 (F 1 38),o 41 (F 1 4)] (.two (o 40 (L 1 39)) (.one (n (S 1 41 35)) (.one (o 42 (F 3 4)) (.one (n (S 1 42 40)) .done))) (.one (n (S 1 41 35)) (.one (o 40 (L 1 39)) (.one (o 42 (F 3 4)) (.one (n (S 1 42 40)) .done)))))) (q (.regT [2,3] [m 44 6,m 45 44,g 45 46 (M 0),g 45 47 (N 46),g 45 48 (F 0 47)] (.two (o 43 (LT 4 4)) (.one (g 45 49 (CS 159 48 #[34])) (.two (o 50 (P 45 49)) (.one (n (S 4 2 43)) (.one (a 3 50) .done)) (.one (n (S 4 2 43)) (.one (o 50 (P 45 49)) (.one (a 3 50) .done))))) (.one (g 45 49 (CS 159 48 #[34])) (.two (o 43 (LT 4 4)) (.two (o 50 (P 45 49)) (.one (n (S 4 2 43)) (.one (a 3 50) .done)) (.one (n (S 4 2 43)) (.one (o 50 (P 45 49)) (.one (a 3 50) .done)))) (.one (o 50 (P 45 49)) (.one (o 43 (LT 4 4)) (.one (n (S 4 2 43)) (.one (a 3 50) .done)))))))) (x [2,3])))))))),[]⟩
def zce:CFun:=⟨9,[.inl 4],(q (r [0,1] [o 4 (AB false)]) (q (r [4] [m 5 0,m 6 1,o 7 (CC 223 5 6),o 8 (BI .geq 7 0),a 4 8]) (x [4]))),[]⟩
def zbk:CCode:=(q (r [0,1,7,8,9] [o 9 (B .lss 8 7)]) (q (w 9 z (.exit 0 [])) (q (.block 1 (q (r [0,1,5,7,8] [m 10 8,a 5 10]) (q (r [0,1,5,7,8,16] [m 11 1,m 12 0,m 13 5,o 14 (Y 4 12 13),o 15 (LT 4 14),o 16 (.callv (.t 11) [.t 15])]) (w 16 (q (r [4] [m 17 5,a 4 17]) (x [4])) z)))) (r [0,1,7,8] [o 18 (BI .add 8 1),m 8 18]))))
def zbl:CCode:=zbk
def zbj:=@onB zbl zbk rfl
def zcx:CFun:=⟨19,[.inl 4],(q (r [0,1] [o 4 (AI 0)]) (q (q (r [0,1,7,8] [m 6 0,o 7 (W 6),o 8 (.mv (i 0))]) (k 0 [0,1,7,8] zbl)) (q (r [4] [o 4 (.asg (.c (.flat (.int .i64 (.negSucc 0)))))]) (x [4])))),[]⟩
def zdx:CFun:=⟨9,[.inl 4],(q (r [0,1] [o 4 (AB false)]) (q (r [4] [m 5 0,m 6 1,o 7 (CC 221 5 6),o 8 (BI .geq 7 0),a 4 8]) (x [4]))),[]⟩
def zcr:CCode:=(q (r [0,1,7,8,9] [o 9 (B .lss 8 7)]) (q (w 9 z (.exit 0 [])) (q (.block 1 (q (r [0,1,5,7,8] [m 10 8,a 5 10]) (q (r [0,1,5,7,8,16] [m 11 1,m 12 0,m 13 5,o 14 (Y 1 12 13),o 15 (L 1 14),o 16 (B .eql 11 15)]) (w 16 (q (r [4] [m 17 5,a 4 17]) (x [4])) z)))) (r [0,1,7,8] [o 18 (BI .add 8 1),m 8 18]))))
def zcs:CCode:=zcr
def zch:=@onB zcs zcr rfl
def zeo:CFun:=⟨19,[.inl 4],(q (r [0,1] [o 4 (AI 0)]) (q (q (r [0,1,7,8] [m 6 0,o 7 (W 6),o 8 (.mv (i 0))]) (k 0 [0,1,7,8] zcs)) (q (r [4] [o 4 (.asg (.c (.flat (.int .i64 (.negSucc 0)))))]) (x [4])))),[]⟩
def zdy:CCode:=(q (r [0,2,6,10,91,92,93,94] [o 94 (B .lss 93 92)]) (q (w 94 z (.exit 2 [6,10])) (q (.block 3 (q (r [0,2,6,10,17,91,92,93] [o 95 (Y 1 91 93),o 96 (L 1 95),a 17 96]) (.regT [0,2,6,10,91,92,93] [o 97 (F 3 10),m 99 0,m 100 17,m 101 2,o 102 (BI .add 101 1)] (.two (o 98 (.loadM (.t 97))) (.one (o 103 (.call 39 [.t 99,.t 100,.t 102])) (.one (o 104 (.mksl false 1 4 [V,Z,Z,V] [⟨0,⟨4,.t 103⟩⟩])) (.one (o 105 (.append false 4 (.t 98) (.t 104))) (.one (o 106 (F 3 10)) (.one (n (S 1 106 105)) .done))))) (.one (o 103 (.call 39 [.t 99,.t 100,.t 102])) (.two (o 98 (.loadM (.t 97))) (.one (o 104 (.mksl false 1 4 [V,Z,Z,V] [⟨0,⟨4,.t 103⟩⟩])) (.one (o 105 (.append false 4 (.t 98) (.t 104))) (.one (o 106 (F 3 10)) (.one (n (S 1 106 105)) .done)))) (.one (o 104 (.mksl false 1 4 [V,Z,Z,V] [⟨0,⟨4,.t 103⟩⟩])) (.one (o 98 (.loadM (.t 97))) (.one (o 105 (.append false 4 (.t 98) (.t 104))) (.one (o 106 (F 3 10)) (.one (n (S 1 106 105)) .done))))))))))) (r [0,2,6,10,91,92,93] [o 107 (BI .add 93 1),m 93 107]))))
def zb1:CCode:=zdy
def zcl:=@onB zb1 zdy rfl
def zf0:CCode:=(r [14,15] [a 15 68])
def zf1:CCode:=(.block 1 (r [] [o 69 (.loadA (.t 14)),m 70 15,o 71 (.mksl false 1 1 [Z] [⟨0,⟨1,.t 70⟩⟩]),o 72 (.append false 1 (.t 69) (.t 71)),n (S 1 14 72)]))
def zgt:CFun:=⟨109,[.inr ⟨6,⟨true,4⟩⟩],(q (r [0,1,2,6] [o 6 (.alloc 48 [V,Z,Z,V])]) (q (r [0,1,2,6,7,8,9] [m 19 1,o 20 (C 69 19),m 18 20,o 21 (E 18 0),o 22 (E 18 1),o 23 (E 18 2),a 7 21,a 8 22,a 9 23]) (q (r [0,1,2,6,7,8] [m 24 9,o 25 (BI .eql 24 0),m 26 9,o 27 (CC 70 25 26)]) (q (r [0,1,2,6,7,8,10] [m 28 7,o 29 (.build [V,Z,Z,V] [⟨0,⟨1,.t 28⟩⟩]),o 10 (.alloc 48 [V,Z,Z,V]),n (S 4 10 29)]) (q (r [0,1,2,6,7,8,10] [o 11 (AS #[])]) (q (r [0,1,2,6,7,8,10,11] [m 31 7,o 32 (C 71 31),m 30 32,o 33 (E 30 0),o 34 (E 30 1),o 35 (F 1 10),n (S 1 35 33),a 11 34]) (q (r [0,1,2,6,8,10,11,12,13] [m 37 7,o 38 (CS 72 37 #[99,111,110,116,101,110,116,45,116,114,97,110,115,102,101,114,45,101,110,99,111,100,105,110,103]),m 36 38,o 39 (E 36 0),o 40 (E 36 1),a 12 39,a 13 40]) (q (q (r [0,1,2,6,8,10,11,12,42] [m 41 13,o 42 (BI .eql 41 0)]) (w 42 (r [0,1,2,6,8,10,11,12] [o 12 (AS #[55,98,105,116])]) z)) (q (r [0,1,2,6,8,10,11,12] [m 43 12,o 44 (C 73 43),a 12 44]) (q (q (r [0,1,2,6,8,10,11,12,48] [o 45 (F 1 10),o 46 (L 1 45),o 47 (CS 74 46 #[109,117,108,116,105,112,97,114,116,47]),o 48 (U 47)]) (w 48 (q (r [6,10] [m 49 1,m 50 8,o 51 (.sliceS (.t 49) (.some (.t 50)) .none),m 52 12,o 53 (CC 75 51 52),o 54 (F 2 10),n (S 1 54 53)]) (q (r [6] [o 55 (LT 4 10),n (S 4 6 55)]) (x [6]))) z)) (q (r [0,1,2,6,8,10,11] [m 56 12,o 57 (BS .eql 56 #[55,98,105,116]),m 58 57,g 58 59 (M 11),g 58 60 (C 76 59),o 61 (P 58 60),o 62 (CI 70 61 7)]) (q (r [0,1,2,6,8,10,11,14] [o 14 (.alloc 39 [V])]) (q (q (r [0,2,6,10,14,67] [m 63 1,m 64 8,o 65 (.sliceS (.t 63) (.some (.t 64)) .none),m 66 11,o 67 (CC 77 65 66)]) (.block 0 (.range 39 0 [14] (.t 67)))) (q (r [0,2,6,10,14] [m 73 2,o 74 (BI .lss 73 4),o 75 (CI 70 74 8)]) (q (.reg [0,2,6,10,14] [m 76 0,o 77 (N 76),o 78 (F 0 77),o 79 (L 1 78),o 80 (L 1 14),o 81 (W 80)] [o 82 (B .add 79 81),o 83 (N 76),o 84 (F 0 83),n (S 1 84 82)]) (q (r [0,2,6,10,14] [m 85 0,o 86 (N 85),o 87 (F 0 86),o 88 (L 1 87),o 89 (BI .leq 88 64),o 90 (CI 70 89 5)]) (q (q (r [0,2,6,10,91,92,93] [o 91 (L 1 14),o 92 (W 91),o 93 (.mv (i 0))]) (k 2 [0,2,6,10,91,92,93] zb1)) (q (r [6] [o 108 (LT 4 10),n (S 4 6 108)]) (x [6]))))))))))))))))))),[([68],zf0,zf1)]⟩
def zrf:CFun:=⟨9,[],(q (r [1,5] [m 4 0,o 5 (U 4)]) (w 5 (r [] [m 6 1,o 7 (.build [J] [⟨0,⟨1,.t 6⟩⟩]),o 8 (.nilc (.c .unk)),n (.nilc (.c .unk))]) z)),[]⟩
def ziz:CCode:=(q (r [8,11,46,47,48,49] [o 49 (B .lss 48 47)]) (q (w 49 z (.exit 0 [8,11])) (q (.block 1 (q (r [8,11,13,46,47,48] [o 50 (Y 2 46 48),o 51 (LT 2 50),o 13 (.alloc 114 [Z,Z]),n (S 2 13 51)]) (q (r [8,11,13,46,47,48,54] [o 52 (F 0 13),o 53 (L 1 52),o 54 (CS 126 53 #[98,111,117,110,100,97,114,121])]) (w 54 (r [8,11,46,47,48] [o 55 (F 1 13),o 56 (L 1 55),a 11 56]) z)))) (r [8,11,46,47,48] [o 57 (BI .add 48 1),m 48 57]))))
def zgj:CCode:=ziz
def zhu:=@onB zgj ziz rfl
def zrg:CFun:=⟨82,[.inl 2,.inl 3],(q (r [0] [o 2 (AS #[]),o 3 (AS #[])]) (q (r [0,4,5] [m 18 0,o 19 (CS 72 18 #[99,111,110,116,101,110,116,45,116,121,112,101]),m 17 19,o 20 (E 17 0),o 21 (E 17 1),a 4 20,a 5 21]) (q (r [4,5,7] [m 23 0,o 24 (CS 72 23 #[99,111,110,116,101,110,116,45,116,114,97,110,115,102,101,114,45,101,110,99,111,100,105,110,103]),m 22 24,o 25 (E 22 0),o 26 (E 22 1),a 6 25,a 7 26]) (q (r [4,5] [m 27 5,o 28 (BI .lss 27 2),m 29 28,g 29 30 (M 7),g 29 31 (BI .lss 30 2),o 32 (P 29 31),o 33 (CI 70 32 9)]) (q (q (r [4,35] [m 34 5,o 35 (BI .eql 34 0)]) (w 35 (q (r [2,3] [o 2 (AS #[116,101,120,116,47,112,108,97,105,110]),o 3 (AS #[])]) (x [2,3])) z)) (q (r [8,9,10] [m 37 4,o 38 (C 125 37),m 36 38,o 39 (E 36 0),o 40 (E 36 1),o 41 (E 36 2),a 8 39,a 9 40,a 10 41]) (q (r [8,9] [m 42 10,o 43 (BI .eql 42 0),m 44 10,o 45 (CC 70 43 44)]) (q (r [8,9,11] [o 11 (AS #[])]) (q (q (r [8,11,46,47,48] [m 46 9,o 47 (W 46),o 48 (.mv (i 0))]) (k 0 [8,11,46,47,48] zgj)) (q (r [8,11,14,15,16] [m 59 8,o 60 (CS 79 59 #[47]),m 58 60,o 61 (E 58 0),o 62 (E 58 1),o 63 (E 58 2),a 14 61,a 15 62,a 16 63]) (q (r [8,11] [m 64 16,m 65 64,g 65 66 (M 14),g 65 67 (BS .neq 66 #[]),o 68 (P 65 67),m 69 68,g 69 70 (M 15),g 69 71 (BS .neq 70 #[]),o 72 (P 69 71),m 73 72,g 73 74 (M 15),g 73 75 (.call 32 [.t 74,u 47]),g 73 76 (BI .lss 75 0),o 77 (P 73 76),o 78 (CI 70 77 7)]) (q (r [2,3] [m 79 8,o 80 (C 73 79),m 81 11,a 2 80,a 3 81]) (x [2,3]))))))))))))),[]⟩
def zrh:CFun:=⟨30,[.inl 4],(q (r [0,1] [o 4 (AS #[])]) (q (r [0,1,5,6] [o 5 (AS #[]),o 6 (AI 7)]) (q (q (r [0,5,6,7] [m 7 1]) (.block 0 (q (r [0,5,6,7,8] [o 9 (BS .eql 7 #[55,98,105,116]),a 8 9]) (w 8 (q (r [4] [m 10 0,o 11 (C 128 10),a 4 11]) (x [4])) (q (r [0,5,6,7,12] [o 13 (BS .eql 7 #[113,117,111,116,101,100,45,112,114,105,110,116,97,98,108,101]),a 12 13]) (w 12 (r [5,6] [m 15 0,o 16 (C 129 15),m 14 16,o 17 (E 14 0),o 18 (E 14 1),a 5 17,a 6 18]) (q (r [0,5,6,19] [o 20 (BS .eql 7 #[98,97,115,101,54,52]),a 19 20]) (w 19 (r [5,6] [m 22 0,o 23 (C 130 22),m 21 23,o 24 (E 21 0),o 25 (E 21 1),a 5 24,a 6 25]) z)))))))) (q (r [5] [m 26 6,o 27 (BI .eql 26 0),o 28 (CI 70 27 7)]) (q (r [4] [m 29 5,a 4 29]) (x [4])))))),[]⟩
def zmo:CCode:=(q (r [0,6,7,8] [o 8 (B .lss 7 6)]) (q (w 8 z (.exit 0 [0])) (q (.block 1 (q (r [0,3,6,7] [m 9 7,a 3 9]) (r [0,6,7] [m 10 0,m 11 3,o 12 (D 10 11),o 13 (BU .gtr 12 0),m 14 13,g 14 15 (M 0),g 14 16 (M 3),g 14 17 (D 15 16),g 14 18 (BU .lss 17 128),o 19 (P 14 18),o 20 (CI 70 19 7)]))) (r [0,6,7] [o 21 (BI .add 7 1),m 7 21]))))
def zum:CCode:=zmo
def zyg:CFun:=⟨35,[.inl 2],(q (r [0] [o 2 (AS #[])]) (q (q (r [0,6,7] [m 5 0,o 6 (K 5),o 7 (.mv (i 0))]) (k 0 [0,6,7] zum)) (q (r [4] [m 22 0,o 23 (.call 82 [.t 22,s #[13,10],s #[0]]),a 4 23]) (q (r [4] [m 24 4,o 25 (.call 32 [.t 24,u 13]),o 26 (BI .lss 25 0),m 27 26,g 27 28 (M 4),g 27 29 (.call 32 [.t 28,u 10]),g 27 30 (BI .lss 29 0),o 31 (P 27 30),o 32 (CI 70 31 7)]) (q (r [2] [m 33 4,o 34 (.call 82 [.t 33,s #[0],s #[10]]),a 2 34]) (x [2])))))),[]⟩
def zg5:CCode:=(q (r [0,6,7,8] [o 8 (B .lss 7 6)]) (q (w 8 z (.exit 0 [0])) (q (.block 1 (q (r [0,3,6,7] [m 9 7,a 3 9]) (q (r [0,4,6,7] [m 10 0,m 11 3,o 12 (D 10 11),a 4 12]) (q (r [0,6,7,33] [m 13 4,o 14 (BU .lss 13 48),m 15 14,h 15 16 (M 4),h 15 17 (BU .gtr 16 57),o 18 (O 15 17),m 19 18,g 19 20 (M 4),g 19 21 (BU .or 20 32),g 19 22 (BU .lss 21 97),g 19 23 (M 22),h 23 24 (M 4),h 23 25 (BU .or 24 32),h 23 26 (BU .gtr 25 122),g 19 27 (O 23 26),o 28 (P 19 27),m 29 28,g 29 30 (M 4),g 29 31 (.call 32 [s #[45,95,61,46],.t 30]),g 29 32 (BI .lss 31 0),o 33 (P 29 32)]) (w 33 (q (r [2] [o 2 (AB false)]) (x [2])) z))))) (r [0,6,7] [o 34 (BI .add 7 1),m 7 34]))))
def zg6:CCode:=zg5
def zgk:=@onB zg6 zg5 rfl
def zm8:CFun:=⟨42,[.inl 2],(q (r [0] [o 2 (AB false)]) (q (q (r [0,6,7] [m 5 0,o 6 (K 5),o 7 (.mv (i 0))]) (k 0 [0,6,7] zg6)) (q (r [2] [m 35 0,o 36 (BS .neq 35 #[]),m 37 36,g 37 38 (M 0),g 37 39 (K 38),g 37 40 (BI .leq 39 70),o 41 (P 37 40),a 2 41]) (x [2])))),[]⟩
def zm9:CFun:=⟨6,[.inl 4],(q (r [2,3] [o 2 (.box 9 1 (.t 0)),o 3 (.box 9 1 (.t 1)),o 4 (.asg (.c (.flat .nilFunc)))]) (q (r [4] [o 5 (.clos 131 [.t 3,.t 2]),a 4 5]) (x [4]))),[]⟩
def zfu:CCode:=(.block 1 (q (r [0,4,5,7,8,9] [m 23 5,m 24 8,o 25 (.sliceS (.t 23) (.some (.t 24)) .none),m 26 4,o 27 (CC 59 25 26),a 9 27]) (q (r [0,4,5,7,8,9] [m 28 9,o 29 (BI .geq 28 0),o 30 (CI 70 29 7)]) (q (r [0,4,5,7,8] [m 31 8,m 32 9,o 33 (B .add 31 32),a 8 33]) (q (r [0,4,5,7,8,10] [m 34 5,m 35 8,m 36 4,o 37 (K 36),o 38 (B .add 35 37),o 39 (.sliceS (.t 34) (.some (.t 38)) .none),a 10 39]) (q (q (r [0,4,5,7,8,10,41] [m 40 10,o 41 (CS 74 40 #[45,45,13,10])]) (w 41 (q (r [0,5,7,8] [m 42 10,o 43 (BS .eql 42 #[45,45,13,10]),o 44 (CI 70 43 7)]) (q (r [] [m 45 0,m 46 5,m 47 7,m 48 8,o 49 (.sliceS (.t 46) (.some (.t 47)) (.some (.t 48))),o 50 (.callv (.t 45) [.t 49])]) (x []))) z)) (q (q (r [0,4,5,7,8,53] [m 51 10,o 52 (CS 74 51 #[13,10]),o 53 (U 52)]) (w 53 (q (r [0,4,5,7,8] [m 54 8,o 55 (BI .add 54 1),a 8 55]) (.exit 1 [0,4,5,7,8])) z)) (q (q (r [0,4,5,8,62] [m 56 0,m 57 5,m 58 7,m 59 8,o 60 (.sliceS (.t 57) (.some (.t 58)) (.some (.t 59))),o 61 (.callv (.t 56) [.t 60]),o 62 (U 61)]) (w 62 (x []) z)) (q (r [0,4,5,7] [m 63 8,m 64 4,o 65 (K 64),o 66 (B .add 63 65),o 67 (BI .add 66 2),a 7 67]) (r [0,4,5,7,8] [m 68 7,a 8 68]))))))))))
def zfv:CCode:=zfu
def zfc:=@onB zfv zfu rfl
def zkw:CFun:=⟨69,[],(q (r [0,2,4] [o 11 (L 1 1),o 12 (SB .add #[13,10,45,45] 11),a 4 12]) (q (r [0,4,5,6] [o 14 (L 1 2),o 15 (SB .add #[13,10] 14),m 16 4,o 17 (BS .add 16 #[13,10]),o 18 (CC 132 15 17),m 13 18,o 19 (E 13 0),o 20 (E 13 1),a 5 19,a 6 20]) (q (r [0,4,5] [m 21 6,o 22 (CI 70 21 7)]) (q (r [0,4,5,7] [o 7 (AI 0)]) (q (r [0,4,5,7,8] [o 8 (AI 0)]) (k 0 [0,4,5,7,8] zfv)))))),[]⟩
def zna:CCode:=(q (r [1,6,7,10,11,12,13] [o 13 (B .lss 12 11)]) (q (w 13 z (.exit 0 [6,7])) (q (.block 1 (q (r [1,6,7,9,10,11,12] [o 14 (Y 2 10 12),o 15 (LT 2 14),o 9 (.alloc 80 [Z,Z]),n (S 2 9 15)]) (q (q (r [1,6,7,9,10,11,12,20] [o 16 (F 0 9),o 17 (L 1 16),m 18 1,o 19 (CC 126 17 18),o 20 (U 19)]) (w 20 (.exit 1 [1,6,7,10,11,12]) z)) (q (q (r [1,6,7,9,10,11,12,22] [m 21 7,o 22 (BI .eql 21 0)]) (w 22 (r [1,6,7,10,11,12] [o 23 (F 1 9),o 24 (L 1 23),a 6 24]) z)) (r [1,6,7,10,11,12] [m 25 7,o 26 (BI .add 25 1),a 7 26]))))) (r [1,6,7,10,11,12] [o 27 (BI .add 12 1),m 12 27]))))
def znb:CCode:=zna
def zib:=@onB znb zna rfl
def zzp:CFun:=⟨30,[.inl 4,.inl 5],(q (r [0,1] [o 4 (AS #[]),o 5 (AI 0)]) (q (r [0,1,6,7] [o 6 (AS #[]),o 7 (AI 0)]) (q (q (r [1,6,7,10,11,12] [m 10 0,o 11 (W 10),o 12 (.mv (i 0))]) (k 0 [1,6,7,10,11,12] znb)) (q (r [4,5] [m 28 6,m 29 7,a 4 28,a 5 29]) (x [4,5]))))),[]⟩
def zi0:CCode:=(q (q (r [0,3,4,33] [m 30 4,m 31 0,o 32 (K 31),o 33 (B .lss 30 32)]) (w 33 z (.exit 0 [3]))) (q (.block 1 (q (q (r [0,3,4,53] [m 36 0,m 37 4,o 38 (D 36 37),o 39 (BU .lss 38 33),m 40 39,h 40 41 (M 0),h 40 42 (M 4),h 40 43 (D 41 42),h 40 44 (BU .gtr 43 126),o 45 (O 40 44),m 46 45,h 46 47 (M 0),h 46 48 (M 4),h 46 49 (M 4),h 46 50 (BI .add 49 1),h 46 51 (.sliceS (.t 47) (.some (.t 48)) (.some (.t 50))),h 46 52 (.call 36 [s #[60,62,40,41,91,93,44,59,58,34,92],.t 51]),o 53 (O 46 52)]) (w 53 (q (r [2] [o 2 (AB false)]) (x [2])) z)) (q (r [0,3,4,57] [m 54 0,m 55 4,o 56 (D 54 55),o 57 (BU .eql 56 64)]) (w 57 (r [0,3,4] [m 58 3,o 59 (BI .add 58 1),a 3 59]) z)))) (r [0,3,4] [m 34 4,o 35 (BI .add 34 1),a 4 35])))
def zi1:CCode:=zi0
def zmp:=@onB zi1 zi0 rfl
def zri:CFun:=⟨62,[.inl 2],(q (r [0] [o 2 (AB false)]) (q (q (r [0,29] [m 5 0,o 6 (K 5),o 7 (BI .lss 6 3),m 8 7,h 8 9 (M 0),h 8 10 (K 9),h 8 11 (BI .gtr 10 60),o 12 (O 8 11),m 13 12,h 13 14 (M 0),h 13 15 (.idx (.t 14) (i 0)),h 13 16 (BU .eql 15 64),o 17 (O 13 16),m 18 17,h 18 19 (M 0),h 18 20 (M 0),h 18 21 (K 20),h 18 22 (BI .sub 21 1),h 18 23 (D 19 22),h 18 24 (BU .eql 23 64),o 25 (O 18 24),m 26 25,h 26 27 (M 0),h 26 28 (CS 36 27 #[61,63]),o 29 (O 26 28)]) (w 29 (q (r [2] [o 2 (AB false)]) (x [2])) z)) (q (r [0,3] [o 3 (AI 0)]) (q (q (r [0,3,4] [o 4 (AI 0)]) (k 0 [0,3,4] zi1)) (q (r [2] [m 60 3,o 61 (BI .eql 60 1),a 2 61]) (x [2])))))),[]⟩
def zwn:CFun:=⟨57,[.inl 2],(q (r [1] [o 1 (.box 23 5 (.t 0)),o 2 (AI 0)]) (q (q (r [1,14] [o 5 (F 0 1),o 6 (L 1 5),o 7 (C 14 6),o 8 (U 7),m 9 8,h 9 10 (F 1 1),h 9 11 (L 1 10),h 9 12 (C 14 11),h 9 13 (U 12),o 14 (O 9 13)]) (w 14 (q (r [2] [o 2 (AI 1)]) (x [2])) z)) (q (r [1,3,4] [o 16 (F 4 1),o 17 (L 1 16),o 18 (C 43 17),m 15 18,o 19 (E 15 0),o 20 (E 15 1),a 3 19,a 4 20]) (q (q (.reg [56] [o 21 (F 2 1),o 22 (L 1 21),o 23 (C 44 22),o 24 (F 2 1),o 25 (L 1 24),o 26 (B .neq 23 25),m 27 26,h 27 28 (F 3 1),h 27 29 (L 1 28),h 27 30 (C 44 29),h 27 31 (F 3 1),h 27 32 (L 1 31),h 27 33 (B .neq 30 32),o 34 (O 27 33),m 35 34,h 35 36 (F 4 1),h 35 37 (L 1 36),h 35 38 (C 44 37),h 35 39 (F 4 1),h 35 40 (L 1 39)] [h 35 41 (B .neq 38 40),o 42 (O 35 41),m 43 42,h 43 44 (F 2 1),h 43 45 (L 1 44),h 43 46 (CS 36 45 #[10]),o 47 (O 43 46),m 48 47,h 48 49 (M 4),h 48 50 (BI .neq 49 0),o 51 (O 48 50),m 52 51,h 52 53 (M 3),h 52 54 (C 45 53),h 52 55 (U 54),o 56 (O 52 55)]) (w 56 (q (r [2] [o 2 (AI 7)]) (x [2])) z)) (q (r [2] [o 2 (AI 0)]) (x [2])))))),[]⟩
def zj6:CCode:=(q (q (r [0,1,5,9] [m 6 5,m 7 0,o 8 (K 7),o 9 (B .lss 6 8)]) (w 9 z (.exit 0 []))) (q (.block 1 (q (r [0,1,5,15] [m 12 0,m 13 1,m 14 5,o 15 (.call 60 [.t 12,.t 13,.t 14])]) (w 15 (q (r [4] [o 4 (AB true)]) (x [4])) z))) (r [0,1,5] [m 10 5,o 11 (BI .add 10 1),a 5 11])))
def zj7:CCode:=zj6
def zi2:=@onB zj7 zj6 rfl
def ztw:CFun:=⟨16,[.inl 4],(q (r [0,1] [o 4 (AB false)]) (q (q (r [0,1,5] [o 5 (AI 0)]) (k 0 [0,1,5] zj7)) (q (r [4] [o 4 (AB false)]) (x [4])))),[]⟩
def zlw:CCode:=(q (q (r [0,3,4,10] [m 7 4,m 8 0,o 9 (K 8),o 10 (B .lss 7 9)]) (w 10 z (.exit 0 [3]))) (.block 1 (q (r [0,3,4,5,6] [m 12 0,m 13 4,o 14 (CC 90 12 13),m 11 14,o 15 (E 11 0),o 16 (E 11 1),a 5 15,a 6 16]) (q (r [0,3,4,5] [m 17 4,m 18 6,o 19 (B .add 17 18),a 4 19]) (q (q (r [0,3,4,5,21] [m 20 5,o 21 (BI .eql 20 13)]) (w 21 (q (q (r [0,3,4,31] [m 22 4,m 23 0,o 24 (K 23),o 25 (B .lss 22 24),m 26 25,g 26 27 (M 0),g 26 28 (M 4),g 26 29 (D 27 28),g 26 30 (BU .eql 29 10),o 31 (P 26 30)]) (w 31 (.exit 1 [0,3,4]) z)) (r [0,3,4,5] [o 5 (AI 10)])) z)) (q (q (r [0,3,4,5,49] [m 32 5,o 33 (BI .lss 32 32),m 34 33,g 34 35 (M 5),g 34 36 (BI .neq 35 9),o 37 (P 34 36),m 38 37,g 38 39 (M 5),g 38 40 (BI .neq 39 10),o 41 (P 38 40),m 42 41,h 42 43 (M 5),h 42 44 (BI .geq 43 127),h 42 45 (M 44),g 45 46 (M 5),g 45 47 (BI .leq 46 159),h 42 48 (P 45 47),o 49 (O 42 48)]) (w 49 (r [0,3,4,5] [o 5 (AI 65533)]) z)) (r [0,3,4] [m 50 3,m 51 5,o 52 (C 91 51),o 53 (B .add 50 52),a 3 53])))))))
def zlx:CCode:=zlw
def zb8:=@onB zlx zlw rfl
def zwo:CFun:=⟨55,[.inl 2],(q (r [0] [o 2 (AS #[])]) (q (r [0,3] [o 3 (AS #[])]) (q (q (r [0,3,4] [o 4 (AI 0)]) (k 0 [0,3,4] zlx)) (q (r [2] [m 54 3,a 2 54]) (x [2]))))),[]⟩
def zwp:CFun:=⟨61,[.inl 2],(q (r [0] [o 2 (AS #[])]) (q (q (r [0,5] [m 3 0,o 4 (C 146 3),o 5 (U 4)]) (w 5 (r [0] [o 0 (AI 65533)]) z)) (q (q (r [0,7] [m 6 0,o 7 (BI .lss 6 128)]) (w 7 (q (r [2] [m 8 0,o 9 (.conv .u8 (.t 8)),o 10 (.mksl true 1 1 [.flat (.int .u8 0)] [⟨0,⟨1,.t 9⟩⟩]),o 11 (.b2s (.t 10)),a 2 11]) (x [2])) z)) (q (q (r [0,13] [m 12 0,o 13 (BI .lss 12 2048)]) (w 13 (q (r [2] [m 14 0,o 15 (BI .quo 14 64),o 16 (IB .add 192 15),o 17 (.conv .u8 (.t 16)),m 18 0,o 19 (BI .rem 18 64),o 20 (IB .add 128 19),o 21 (.conv .u8 (.t 20)),o 22 (.mksl true 2 1 [.flat (.int .u8 0),.flat (.int .u8 0)] [⟨0,⟨1,.t 17⟩⟩,⟨1,⟨1,.t 21⟩⟩]),o 23 (.b2s (.t 22)),a 2 23]) (x [2])) z)) (q (q (r [0,25] [m 24 0,o 25 (BI .lss 24 65536)]) (w 25 (q (r [2] [m 26 0,o 27 (BI .quo 26 4096),o 28 (IB .add 224 27),o 29 (.conv .u8 (.t 28)),m 30 0,o 31 (BI .quo 30 64),o 32 (BI .rem 31 64),o 33 (IB .add 128 32),o 34 (.conv .u8 (.t 33)),m 35 0,o 36 (BI .rem 35 64),o 37 (IB .add 128 36),o 38 (.conv .u8 (.t 37)),o 39 (.mksl true 3 1 [.flat (.int .u8 0),.flat (.int .u8 0),.flat (.int .u8 0)] [⟨0,⟨1,.t 29⟩⟩,⟨1,⟨1,.t 34⟩⟩,⟨2,⟨1,.t 38⟩⟩]),o 40 (.b2s (.t 39)),a 2 40]) (x [2])) z)) (q (r [2] [m 41 0,o 42 (BI .quo 41 262144),o 43 (IB .add 240 42),o 44 (.conv .u8 (.t 43)),m 45 0,o 46 (BI .quo 45 4096),o 47 (BI .rem 46 64),o 48 (IB .add 128 47),o 49 (.conv .u8 (.t 48)),m 50 0,o 51 (BI .quo 50 64),o 52 (BI .rem 51 64),o 53 (IB .add 128 52),o 54 (.conv .u8 (.t 53)),m 55 0,o 56 (BI .rem 55 64),o 57 (IB .add 128 56),o 58 (.conv .u8 (.t 57)),o 59 (.mksl true 4 1 [.flat (.int .u8 0),.flat (.int .u8 0),.flat (.int .u8 0),.flat (.int .u8 0)] [⟨0,⟨1,.t 44⟩⟩,⟨1,⟨1,.t 49⟩⟩,⟨2,⟨1,.t 54⟩⟩,⟨3,⟨1,.t 58⟩⟩]),o 60 (.b2s (.t 59)),a 2 60]) (x [2]))))))),[]⟩
def znc:CCode:=(q (q (r [0,1,6,7,8,9,42] [m 40 9,m 41 7,o 42 (B .lss 40 41)]) (w 42 z (.exit 2 [0,1,6,7,8]))) (q (.block 3 (r [0,1,6,7,8,9] [m 45 8,o 46 (IB .mul 64 45),m 47 0,m 48 1,m 49 9,o 50 (B .add 48 49),o 51 (D 47 50),o 52 (.conv .i64 (.t 51)),o 53 (B .add 46 52),o 54 (BI .sub 53 128),a 8 54])) (r [0,1,6,7,8,9] [m 43 9,o 44 (BI .add 43 1),a 9 44])))
def znd:CCode:=znc
def zrj:=@onB znd znc rfl
def zne:CCode:=(q (q (r [0,1,6,7,28] [m 19 7,o 20 (BI .leq 19 4),m 21 20,g 21 22 (M 7),g 21 23 (M 0),g 21 24 (K 23),g 21 25 (M 1),g 21 26 (B .sub 24 25),g 21 27 (B .leq 22 26),o 28 (P 21 27)]) (w 28 z (.exit 0 []))) (q (.block 1 (q (.reg [0,1,6,7,8] [m 31 0,m 32 1,o 33 (D 31 32),o 34 (.conv .i64 (.t 33)),m 35 6,m 36 7,o 37 (Y 1 35 36),o 38 (L 1 37)] [o 39 (B .sub 34 38),a 8 39]) (q (q (r [0,1,6,7,8,9] [o 9 (AI 1)]) (k 2 [0,1,6,7,8,9] znd)) (q (.reg [0,1,6,7,8,71] [m 55 8,o 56 (BI .geq 55 0),m 57 56,g 57 58 (M 8),g 57 59 (C 146 58),o 60 (P 57 59),m 61 60,g 61 62 (M 8),g 61 63 (C 91 62),g 61 64 (M 0),g 61 65 (M 1),g 61 66 (M 1),g 61 67 (M 7),g 61 68 (B .add 66 67),g 61 69 (.sliceS (.t 64) (.some (.t 65)) (.some (.t 68)))] [g 61 70 (B .eql 63 69),o 71 (P 61 70)]) (w 71 (q (r [4,5] [m 72 8,m 73 7,a 4 72,a 5 73]) (x [4,5])) z))))) (r [0,1,6,7] [m 29 7,o 30 (BI .add 29 1),a 7 30])))
def znf:CCode:=zne
def ze2:=@onB znf zne rfl
def zzq:CFun:=⟨74,[.inl 4,.inl 5],(q (r [0,1] [o 4 (AI 0),o 5 (AI 0)]) (q (q (r [0,1,17] [m 10 1,o 11 (BI .lss 10 0),m 12 11,h 12 13 (M 1),h 12 14 (M 0),h 12 15 (K 14),h 12 16 (B .geq 13 15),o 17 (O 12 16)]) (w 17 (q (r [4,5] [o 4 (AI 0),o 5 (AI 0)]) (x [4,5])) z)) (q (r [0,1,6] [o 18 (.mksl false 5 1 [J,J,J,J,J] [⟨0,⟨1,i 0⟩⟩,⟨1,⟨1,i 0⟩⟩,⟨2,⟨1,i 192⟩⟩,⟨3,⟨1,i 224⟩⟩,⟨4,⟨1,i 240⟩⟩]),a 6 18]) (q (q (r [0,1,6,7] [o 7 (AI 1)]) (k 0 [0,1,6,7] znf)) (q (r [4,5] [o 4 (AI 65533),o 5 (AI 1)]) (x [4,5])))))),[]⟩
def zzr:CFun:=⟨18,[.inl 2],(q (r [0] [o 2 (AB false)]) (q (r [2] [m 3 0,o 4 (BI .geq 3 0),m 5 4,g 5 6 (M 0),g 5 7 (BI .leq 6 1114111),o 8 (P 5 7),m 9 8,g 9 10 (M 0),g 9 11 (BI .geq 10 55296),g 9 12 (M 11),g 12 13 (M 0),g 12 14 (BI .leq 13 57343),g 9 15 (P 12 14),g 9 16 (U 15),o 17 (P 9 16),a 2 17]) (x [2]))),[]⟩
def zrk:CCode:=(q (q (r [0,3,4,11] [m 8 4,m 9 0,o 10 (K 9),o 11 (B .lss 8 10)]) (w 11 z (.exit 0 [3]))) (.block 1 (q (r [0,3,4,5,6] [m 13 0,m 14 4,o 15 (CC 90 13 14),m 12 15,o 16 (E 12 0),o 17 (E 12 1),a 5 16,a 6 17]) (q (r [0,3,4,6] [o 18 (.mvA 3),m 19 5,o 20 (.mksl false 1 1 [J] [⟨0,⟨1,.t 19⟩⟩]),o 21 (.append false 1 (.t 18) (.t 20)),a 3 21]) (r [0,3,4] [m 22 4,m 23 6,o 24 (B .add 22 23),a 4 24])))))
def z1z:CCode:=zrk
def z7m:CFun:=⟨26,[.inl 2],(q (r [0] [o 2 (.asg (.c V))]) (q (r [0,3] [o 7 (.mksl false 0 1 [] []),a 3 7]) (q (q (r [0,3,4] [o 4 (AI 0)]) (k 0 [0,3,4] z1z)) (q (r [2] [m 25 3,a 2 25]) (x [2]))))),[]⟩
def zsm:CCode:=(q (q (r [0,3,9] [m 6 3,m 7 0,o 8 (K 7),o 9 (B .lss 6 8)]) (w 9 z (.exit 0 []))) (.block 1 (q (r [0,3,4,5] [m 11 0,m 12 3,o 13 (CC 90 11 12),m 10 13,o 14 (E 10 0),o 15 (E 10 1),a 4 14,a 5 15]) (q (q (r [0,3,5,21] [m 16 4,o 17 (BI .eql 16 65533),m 18 17,g 18 19 (M 5),g 18 20 (BI .eql 19 1),o 21 (P 18 20)]) (w 21 (q (r [2] [o 2 (AB false)]) (x [2])) z)) (r [0,3] [m 22 3,m 23 5,o 24 (B .add 22 23),a 3 24])))))
def zsn:CCode:=zsm
def zly:=@onB zsn zsm rfl
def z95:CFun:=⟨25,[.inl 2],(q (r [0] [o 2 (AB false)]) (q (q (r [0,3] [o 3 (AI 0)]) (k 0 [0,3] zsn)) (q (r [2] [o 2 (AB true)]) (x [2])))),[]⟩
def zj8:CCode:=(q (q (r [0,4,5,15] [m 12 5,m 13 0,o 14 (K 13),o 15 (B .lss 12 14)]) (w 15 z (.exit 0 [4]))) (.block 1 (q (r [0,4,6,7] [m 17 0,m 18 5,o 19 (CC 89 17 18),m 16 19,o 20 (E 16 0),o 21 (E 16 1),o 6 (.alloc 137 [.flat (.int .u8 0),Z,Z,V,J,J]),n (S 6 6 20),a 7 21]) (q (q (r [0,4,6,23] [m 22 7,o 23 (U 22)]) (w 23 (q (r [2,3] [o 2 (.asg (.c V)),o 3 (AI 7)]) (x [2,3])) z)) (q (r [0,4,6] [o 24 (.mvA 4),o 25 (LT 6 6),o 26 (.mksl false 1 6 [.flat (.int .u8 0),Z,Z,V,J,J] [⟨0,⟨6,.t 25⟩⟩]),o 27 (.append false 6 (.t 24) (.t 26)),a 4 27]) (r [0,4,5] [o 28 (F 5 6),o 29 (L 1 28),a 5 29]))))))
def zj9:CCode:=zj8
def zi3:=@onB zj9 zj8 rfl
def ztx:CFun:=⟨31,[.inl 2,.inl 3],(q (r [0] [o 2 (.asg (.c V)),o 3 (AI 0)]) (q (q (r [0,10] [m 8 0,o 9 (C 88 8),o 10 (U 9)]) (w 10 (q (r [2,3] [o 2 (.asg (.c V)),o 3 (AI 7)]) (x [2,3])) z)) (q (r [0,4] [o 11 (.mksl false 0 6 [] []),a 4 11]) (q (q (r [0,4,5] [o 5 (AI 0)]) (k 0 [0,4,5] zj9)) (q (r [2,3] [m 30 4,a 2 30,o 3 (AI 0)]) (x [2,3])))))),[]⟩
def z4w:CFun:=⟨63,[.inr ⟨4,⟨true,6⟩⟩,.inl 5],(q (r [0,1,4] [o 4 (.alloc 137 [.flat (.int .u8 0),Z,Z,V,J,J]),o 5 (AB false)]) (q (q (r [0,1,4,14] [m 11 0,m 12 1,o 13 (D 11 12),o 14 (BU .neq 13 60)]) (w 14 (q (r [1,4,6,7,8] [m 16 0,m 17 1,o 18 (.call 141 [.t 16,.t 17,u 60,u 62]),m 15 18,o 19 (E 15 0),o 20 (E 15 1),o 21 (E 15 2),a 6 19,a 7 20,a 8 21]) (q (r [4,5] [m 22 6,m 23 1,m 24 7,o 25 (.build [.flat (.int .u8 0),Z,Z,V,J,J] [⟨0,⟨1,u 116⟩⟩,⟨2,⟨1,.t 22⟩⟩,⟨4,⟨1,.t 23⟩⟩,⟨5,⟨1,.t 24⟩⟩]),m 26 8,n (S 6 4 25),a 5 26]) (x [4,5]))) z)) (q (q (r [0,1,4,30] [m 27 0,m 28 1,o 29 (.call 60 [.t 27,s #[60,47],.t 28]),o 30 (U 29)]) (w 30 (q (r [4,5] [m 31 0,m 32 1,o 33 (CC 142 31 32),o 34 (E 33 0),o 35 (E 33 1),n (S 6 4 34),a 5 35]) (x [4,5])) z)) (q (r [0,1,4,9] [m 36 0,m 37 1,o 38 (BI .add 37 2),o 39 (CC 143 36 38),a 9 39]) (q (r [0,1,4,9,10] [m 40 1,o 41 (BI .add 40 2),m 42 9,o 43 (K 42),o 44 (B .add 41 43),a 10 44]) (q (r [4,5] [m 45 9,m 46 1,m 47 10,o 48 (BI .add 47 1),o 49 (.build [.flat (.int .u8 0),Z,Z,V,J,J] [⟨0,⟨1,u 99⟩⟩,⟨1,⟨1,.t 45⟩⟩,⟨4,⟨1,.t 46⟩⟩,⟨5,⟨1,.t 48⟩⟩]),o 50 (.call 145 []),m 51 9,o 52 (CC 144 50 51),m 53 52,g 53 54 (M 9),g 53 55 (C 92 54),g 53 56 (U 55),o 57 (P 53 56),m 58 57,g 58 59 (M 0),g 58 60 (M 10),g 58 61 (.call 60 [.t 59,s #[62],.t 60]),o 62 (P 58 61),n (S 6 4 49),a 5 62]) (x [4,5]))))))),[]⟩
def zi4:CCode:=(q (q (r [0,4,6,7,8,9,70] [m 66 9,o 67 (F 3 6),o 68 (L 1 67),o 69 (W 68),o 70 (B .lss 66 69)]) (w 70 z (.exit 2 [0,4,6,7,8]))) (q (.block 3 (q (.reg [0,4,6,7,8,9,81] [o 73 (F 3 6),o 74 (L 1 73),m 75 9,o 76 (Y 4 74 75),o 77 (F 0 76),o 78 (L 1 77),o 79 (F 0 8),o 80 (L 1 79)] [o 81 (B .eql 78 80)]) (w 81 (q (r [4,5] [o 82 (LT 6 6),n (S 6 4 82),o 5 (AB false)]) (x [4,5])) z))) (r [0,4,6,7,8,9] [m 71 9,o 72 (BI .add 71 1),a 9 72])))
def zgl:CCode:=zi4
def zhv:=@onB zgl zi4 rfl
def zi5:CCode:=(.block 1 (q (r [0,1,4,6,7] [m 31 0,m 32 1,o 33 (CC 189 31 32),a 7 33]) (q (q (r [0,1,4,6,7,36] [m 34 0,m 35 7,o 36 (.call 60 [.t 34,s #[62],.t 35])]) (w 36 (q (r [4,6] [m 37 7,o 38 (BI .add 37 1),o 39 (F 5 6),n (S 1 39 38)]) (q (r [4,5] [o 40 (LT 6 6),n (S 6 4 40),o 5 (AB true)]) (x [4,5]))) z)) (q (r [0,1,4,6,7,8] [m 41 0,m 42 7,o 43 (CC 143 41 42),o 44 (.build [Z,Z,J,J] [⟨0,⟨1,.t 43⟩⟩]),o 8 (.alloc 210 [Z,Z,J,J]),n (S 4 8 44)]) (q (q (.reg [0,4,6,7,8,64] [m 45 7,m 46 1,o 47 (B .eql 45 46),m 48 47,h 48 49 (.call 190 []),h 48 50 (F 0 8),h 48 51 (L 1 50),h 48 52 (CC 144 49 51),h 48 53 (U 52),o 54 (O 48 53),m 55 54,h 55 56 (M 0),h 55 57 (M 7),h 55 58 (F 0 8),h 55 59 (L 1 58),h 55 60 (K 59),h 55 61 (B .add 57 60)] [h 55 62 (.call 60 [.t 56,s #[61,34],.t 61]),h 55 63 (U 62),o 64 (O 55 63)]) (w 64 (q (r [4,5] [o 65 (LT 6 6),n (S 6 4 65),o 5 (AB false)]) (x [4,5])) z)) (q (q (r [0,4,6,7,8,9] [o 9 (AI 0)]) (k 2 [0,4,6,7,8,9] zgl)) (q (r [0,4,6,8] [m 83 7,o 84 (F 0 8),o 85 (L 1 84),o 86 (K 85),o 87 (B .add 83 86),o 88 (BI .add 87 2),o 89 (F 2 8),n (S 1 89 88)]) (q (r [0,4,6,8,10,11,12] [m 91 0,o 92 (F 2 8),o 93 (L 1 92),o 94 (.call 141 [.t 91,.t 93,u 34,u 60]),m 90 94,o 95 (E 90 0),o 96 (E 90 1),o 97 (E 90 2),a 10 95,a 11 96,a 12 97]) (q (q (r [0,4,6,8,10,11,105] [m 98 12,o 99 (U 98),m 100 99,h 100 101 (M 11),h 100 102 (M 0),h 100 103 (K 102),h 100 104 (B .geq 101 103),o 105 (O 100 104)]) (w 105 (q (r [4,5] [o 106 (LT 6 6),n (S 6 4 106),o 5 (AB false)]) (x [4,5])) z)) (q (r [0,4,6,8,11] [m 107 10,o 108 (F 1 8),n (S 1 108 107)]) (q (r [0,4,6,8,11] [m 109 11,o 110 (F 3 8),n (S 1 110 109)]) (q (r [0,4,6,11] [o 111 (F 3 6),o 112 (.loadA (.t 111)),o 113 (LT 4 8),o 114 (.mksl false 1 4 [Z,Z,J,J] [⟨0,⟨4,.t 113⟩⟩]),o 115 (.append false 4 (.t 112) (.t 114)),o 116 (F 3 6),n (S 1 116 115)]) (r [0,1,4,6] [m 117 11,o 118 (BI .add 117 1),a 1 118])))))))))))))
def zdz:CCode:=zi5
def zbq:=@onB zdz zi5 rfl
def zrl:CFun:=⟨119,[.inr ⟨4,⟨true,6⟩⟩,.inl 5],(q (r [0,1,4] [o 4 (.alloc 137 [.flat (.int .u8 0),Z,Z,V,J,J]),o 5 (AB false)]) (q (r [0,1,4,6] [m 13 0,m 14 1,o 15 (BI .add 14 1),o 16 (CC 143 13 15),m 17 1,o 18 (.build [.flat (.int .u8 0),Z,Z,V,J,J] [⟨0,⟨1,u 111⟩⟩,⟨1,⟨1,.t 16⟩⟩,⟨4,⟨1,.t 17⟩⟩]),o 6 (.alloc 137 [.flat (.int .u8 0),Z,Z,V,J,J]),n (S 6 6 18)]) (q (r [0,1,4,6] [m 19 1,o 20 (BI .add 19 1),o 21 (F 1 6),o 22 (L 1 21),o 23 (K 22),o 24 (B .add 20 23),a 1 24]) (q (q (.reg [0,1,4,6,29] [o 25 (.call 145 []),o 26 (F 1 6),o 27 (L 1 26)] [o 28 (CC 144 25 27),o 29 (U 28)]) (w 29 (q (r [4,5] [o 30 (LT 6 6),n (S 6 4 30),o 5 (AB false)]) (x [4,5])) z)) (k 0 [0,1,4,6] zdz))))),[]⟩
def zng:CCode:=(q (q (r [0,1,2,3,11,25] [m 15 1,m 16 0,o 17 (K 16),o 18 (B .lss 15 17),m 19 18,g 19 20 (M 0),g 19 21 (M 1),g 19 22 (D 20 21),g 19 23 (M 2),g 19 24 (B .neq 22 23),o 25 (P 19 24)]) (w 25 z (.exit 0 [1,11]))) (.block 1 (q (q (r [0,1,2,3,11,30] [m 26 0,m 27 1,o 28 (D 26 27),m 29 3,o 30 (B .eql 28 29)]) (w 30 (q (r [8,9,10] [o 8 (AS #[]),o 9 (AI 0),o 10 (AB false)]) (x [8,9,10])) z)) (q (q (r [0,1,2,3,11,34] [m 31 0,m 32 1,o 33 (D 31 32),o 34 (BU .eql 33 38)]) (w 34 (q (r [0,1,2,3,11,12,13,14] [m 36 0,m 37 1,o 38 (CC 188 36 37),m 35 38,o 39 (E 35 0),o 40 (E 35 1),o 41 (E 35 2),a 12 39,a 13 40,a 14 41]) (q (q (r [0,1,2,3,11,12,13,43] [m 42 14,o 43 (U 42)]) (w 43 (q (r [8,9,10] [o 8 (AS #[]),o 9 (AI 0),o 10 (AB false)]) (x [8,9,10])) z)) (q (r [0,1,2,3,11,13] [m 44 11,m 45 12,o 46 (B .add 44 45),a 11 46]) (q (r [0,1,2,3,11] [m 47 1,m 48 13,o 49 (B .add 47 48),a 1 49]) (.exit 1 [0,1,2,3,11]))))) z)) (q (r [0,1,2,3,11] [m 50 11,m 51 0,m 52 1,m 53 1,o 54 (BI .add 53 1),o 55 (.sliceS (.t 51) (.some (.t 52)) (.some (.t 54))),o 56 (B .add 50 55),a 11 56]) (r [0,1,2,3,11] [m 57 1,o 58 (BI .add 57 1),a 1 58]))))))
def znh:CCode:=zng
def ze3:=@onB znh zng rfl
def zzs:CFun:=⟨61,[.inl 8,.inl 9,.inl 10],(q (r [0,1,2,3] [o 8 (AS #[]),o 9 (AI 0),o 10 (AB false)]) (q (r [0,1,2,3,11] [o 11 (AS #[])]) (q (k 0 [0,1,2,3,11] znh) (q (r [8,9,10] [m 59 11,m 60 1,a 8 59,a 9 60,o 10 (AB true)]) (x [8,9,10]))))),[]⟩
def zni:CCode:=(q (q (r [0,1,5,34] [m 7 1,m 8 0,o 9 (K 8),o 10 (B .lss 7 9),m 11 10,g 11 12 (M 0),g 11 13 (M 1),g 11 14 (D 12 13),g 11 15 (BU .geq 14 97),g 11 16 (M 15),g 16 17 (M 0),g 16 18 (M 1),g 16 19 (D 17 18),g 16 20 (BU .leq 19 122),g 11 21 (P 16 20),g 11 22 (M 21),h 22 23 (M 0),h 22 24 (M 1),h 22 25 (D 23 24),h 22 26 (BU .geq 25 48),h 22 27 (M 26),g 27 28 (M 0),g 27 29 (M 1),g 27 30 (D 28 29),g 27 31 (BU .leq 30 57),h 22 32 (P 27 31),g 11 33 (O 22 32),o 34 (P 11 33)]) (w 34 z (.exit 0 [0,1,5]))) (.block 1 (r [0,1,5] [m 35 1,o 36 (BI .add 35 1),a 1 36])))
def znj:CCode:=zni
def zrm:=@onB znj zni rfl
def zzt:CFun:=⟨41,[.inl 4],(q (r [0,1] [o 4 (AS #[])]) (q (r [0,1,5] [m 6 1,a 5 6]) (q (k 0 [0,1,5] znj) (q (r [4] [m 37 0,m 38 5,m 39 1,o 40 (.sliceS (.t 37) (.some (.t 38)) (.some (.t 39))),a 4 40]) (x [4]))))),[]⟩
def zka:CCode:=(q (q (r [0,1,26] [m 5 1,m 6 0,o 7 (K 6),o 8 (B .lss 5 7),m 9 8,g 9 10 (M 0),g 9 11 (M 1),g 9 12 (D 10 11),g 9 13 (BU .eql 12 32),g 9 14 (M 13),h 14 15 (M 0),h 14 16 (M 1),h 14 17 (D 15 16),h 14 18 (BU .eql 17 9),g 9 19 (O 14 18),g 9 20 (M 19),h 20 21 (M 0),h 20 22 (M 1),h 20 23 (D 21 22),h 20 24 (BU .eql 23 10),g 9 25 (O 20 24),o 26 (P 9 25)]) (w 26 z (.exit 0 [1]))) (.block 1 (r [0,1] [m 27 1,o 28 (BI .add 27 1),a 1 28])))
def zkb:CCode:=zka
def znk:=@onB zkb zka rfl
def zty:CFun:=⟨30,[.inl 4],(q (r [0,1] [o 4 (AI 0)]) (q (k 0 [0,1] zkb) (q (r [4] [m 29 1,a 4 29]) (x [4])))),[]⟩
def zso:CCode:=(q (q (r [0,1,5,9] [m 6 5,m 7 0,o 8 (W 7),o 9 (B .lss 6 8)]) (w 9 z (.exit 0 []))) (q (.block 1 (q (r [0,1,5,17] [m 12 0,m 13 5,o 14 (Y 1 12 13),o 15 (L 1 14),m 16 1,o 17 (B .eql 15 16)]) (w 17 (q (r [4] [o 4 (AB true)]) (x [4])) z))) (r [0,1,5] [m 10 5,o 11 (BI .add 10 1),a 5 11])))
def zsp:CCode:=zso
def zp6:=@onB zsp zso rfl
def z96:CFun:=⟨18,[.inl 4],(q (r [0,1] [o 4 (AB false)]) (q (q (r [0,1,5] [o 5 (AI 0)]) (k 0 [0,1,5] zsp)) (q (r [4] [o 4 (AB false)]) (x [4])))),[]⟩
def zwq:CFun:=⟨2,[.inl 0],(q (r [] [o 0 (.asg (.c V))]) (q (r [0] [o 1 (.mksl false 26 1 [Z,Z,Z,Z,Z,Z,Z,Z,Z,Z,Z,Z,Z,Z,Z,Z,Z,Z,Z,Z,Z,Z,Z,Z,Z,Z] [⟨0,⟨1,s #[97]⟩⟩,⟨1,⟨1,s #[98]⟩⟩,⟨2,⟨1,s #[98,114]⟩⟩,⟨3,⟨1,s #[99,111,100,101]⟩⟩,⟨4,⟨1,s #[100,105,118]⟩⟩,⟨5,⟨1,s #[101,109]⟩⟩,⟨6,⟨1,s #[104,49]⟩⟩,⟨7,⟨1,s #[104,50]⟩⟩,⟨8,⟨1,s #[104,51]⟩⟩,⟨9,⟨1,s #[104,114]⟩⟩,⟨10,⟨1,s #[105]⟩⟩,⟨11,⟨1,s #[105,109,103]⟩⟩,⟨12,⟨1,s #[108,105]⟩⟩,⟨13,⟨1,s #[111,108]⟩⟩,⟨14,⟨1,s #[112]⟩⟩,⟨15,⟨1,s #[112,114,101]⟩⟩,⟨16,⟨1,s #[115,112,97,110]⟩⟩,⟨17,⟨1,s #[115,116,114,111,110,103]⟩⟩,⟨18,⟨1,s #[116,97,98,108,101]⟩⟩,⟨19,⟨1,s #[116,98,111,100,121]⟩⟩,⟨20,⟨1,s #[116,100]⟩⟩,⟨21,⟨1,s #[116,104]⟩⟩,⟨22,⟨1,s #[116,104,101,97,100]⟩⟩,⟨23,⟨1,s #[116,114]⟩⟩,⟨24,⟨1,s #[117]⟩⟩,⟨25,⟨1,s #[117,108]⟩⟩]),a 0 1]) (x [0]))),[]⟩
def zwr:CFun:=⟨2,[.inl 0],(q (r [] [o 0 (.asg (.c V))]) (q (r [0] [o 1 (.mksl false 9 1 [Z,Z,Z,Z,Z,Z,Z,Z,Z] [⟨0,⟨1,s #[97,108,116]⟩⟩,⟨1,⟨1,s #[99,108,97,115,115]⟩⟩,⟨2,⟨1,s #[99,111,108,115,112,97,110]⟩⟩,⟨3,⟨1,s #[104,114,101,102]⟩⟩,⟨4,⟨1,s #[105,100]⟩⟩,⟨5,⟨1,s #[114,111,119,115,112,97,110]⟩⟩,⟨6,⟨1,s #[115,114,99]⟩⟩,⟨7,⟨1,s #[116,105,116,108,101]⟩⟩,⟨8,⟨1,s #[119,105,100,116,104]⟩⟩]),a 0 1]) (x [0]))),[]⟩
def zzu:CFun:=⟨13,[.inl 2],(q (r [0] [o 2 (AB false)]) (q (r [2] [m 3 0,o 4 (BS .eql 3 #[98,114]),m 5 4,h 5 6 (M 0),h 5 7 (BS .eql 6 #[104,114]),o 8 (O 5 7),m 9 8,h 9 10 (M 0),h 9 11 (BS .eql 10 #[105,109,103]),o 12 (O 9 11),a 2 12]) (x [2]))),[]⟩
def zkc:CCode:=(q (q (r [0,3,4,10] [m 7 4,m 8 0,o 9 (W 8),o 10 (B .lss 7 9)]) (w 10 z (.exit 0 [3]))) (q (.block 1 (q (r [0,3,4,5] [m 13 3,o 14 (W 13),a 5 14]) (q (q (r [0,3,4,5,29] [m 15 0,m 16 4,o 17 (Y 6 15 16),o 18 (F 0 17),o 19 (L 1 18),o 20 (BU .eql 19 111),m 21 20,g 21 22 (M 0),g 21 23 (M 4),g 21 24 (Y 6 22 23),g 21 25 (F 1 24),g 21 26 (L 1 25),g 21 27 (C 92 26),g 21 28 (U 27),o 29 (P 21 28)]) (w 29 (.regT [0,3,4,5] [m 31 3,m 33 0,m 34 4,o 35 (Y 6 33 34),o 36 (F 1 35),o 37 (L 1 36)] (.two (o 30 (.mksl false 0 1 [] [])) (.two (o 32 (.append false 1 (.t 30) (.t 31))) (.one (o 38 (.mksl false 1 1 [Z] [⟨0,⟨1,.t 37⟩⟩])) (.one (o 39 (.append false 1 (.t 32) (.t 38))) (.one (a 3 39) .done))) (.one (o 38 (.mksl false 1 1 [Z] [⟨0,⟨1,.t 37⟩⟩])) (.one (o 32 (.append false 1 (.t 30) (.t 31))) (.one (o 39 (.append false 1 (.t 32) (.t 38))) (.one (a 3 39) .done))))) (.one (o 38 (.mksl false 1 1 [Z] [⟨0,⟨1,.t 37⟩⟩])) (.one (o 30 (.mksl false 0 1 [] [])) (.one (o 32 (.append false 1 (.t 30) (.t 31))) (.one (o 39 (.append false 1 (.t 32) (.t 38))) (.one (a 3 39) .done))))))) z)) (q (q (r [0,3,4,5,45] [m 40 0,m 41 4,o 42 (Y 6 40 41),o 43 (F 0 42),o 44 (L 1 43),o 45 (BU .eql 44 99)]) (w 45 (q (q (.reg [0,3,4,5,60] [m 46 5,o 47 (BI .eql 46 0),m 48 47,h 48 49 (M 3),h 48 50 (M 5),h 48 51 (BI .sub 50 1),h 48 52 (Y 1 49 51),h 48 53 (L 1 52),h 48 54 (M 0),h 48 55 (M 4),h 48 56 (Y 6 54 55),h 48 57 (F 1 56),h 48 58 (L 1 57)] [h 48 59 (B .neq 53 58),o 60 (O 48 59)]) (w 60 (q (r [2] [o 2 (AB false)]) (x [2])) z)) (r [0,3,4] [m 61 3,m 62 5,o 63 (BI .sub 62 1),o 64 (.slice 1 (.t 61) .none (.some (.t 63))),a 3 64])) z)) (q (r [0,3,4,67] [m 65 3,o 66 (W 65),o 67 (BI .gtr 66 32)]) (w 67 (q (r [2] [o 2 (AB false)]) (x [2])) z)))))) (r [0,3,4] [m 11 4,o 12 (BI .add 11 1),a 4 12])))
def zkd:CCode:=zkc
def za1:=@onB zkd zkc rfl
def ztz:CFun:=⟨71,[.inl 2],(q (r [0] [o 2 (AB false)]) (q (r [0,3] [o 6 (.mksl false 0 1 [] []),a 3 6]) (q (q (r [0,3,4] [o 4 (AI 0)]) (k 0 [0,3,4] zkd)) (q (r [2] [m 68 3,o 69 (W 68),o 70 (BI .eql 69 0),a 2 70]) (x [2]))))),[]⟩
def zp7:CCode:=(q (q (r [0,1,7,8,9,16] [m 15 9,o 16 (BI .lss 15 4)]) (w 16 z (.exit 0 [0,1]))) (q (.block 1 (q (r [0,1,7,8,9,25] [m 19 0,m 20 7,m 21 9,o 22 (Y 1 20 21),o 23 (L 1 22),m 24 1,o 25 (.call 60 [.t 19,.t 23,.t 24])]) (w 25 (q (.reg [4,5,6] [m 26 8,m 27 9,o 28 (Y 1 26 27),o 29 (L 1 28),m 30 7,m 31 9,o 32 (Y 1 30 31),o 33 (L 1 32),o 34 (K 33),m 4 29] [a 5 34,o 6 (AB true)]) (x [4,5,6])) z))) (r [0,1,7,8,9] [m 17 9,o 18 (BI .add 17 1),a 9 18])))
def zws:CCode:=zp7
def zb2:=@onB zws zp7 rfl
def z4x:CFun:=⟨73,[.inl 4,.inl 5,.inl 6],(q (r [0,1] [o 4 (AS #[]),o 5 (AI 0),o 6 (AB false)]) (q (r [0,1,7] [o 13 (.mksl false 4 1 [Z,Z,Z,Z] [⟨0,⟨1,s #[38,97,109,112,59]⟩⟩,⟨1,⟨1,s #[38,108,116,59]⟩⟩,⟨2,⟨1,s #[38,103,116,59]⟩⟩,⟨3,⟨1,s #[38,113,117,111,116,59]⟩⟩]),a 7 13]) (q (r [0,1,7,8] [o 14 (.mksl false 4 1 [Z,Z,Z,Z] [⟨0,⟨1,s #[38]⟩⟩,⟨1,⟨1,s #[60]⟩⟩,⟨2,⟨1,s #[62]⟩⟩,⟨3,⟨1,s #[34]⟩⟩]),a 8 14]) (q (q (r [0,1,7,8,9] [o 9 (AI 0)]) (k 0 [0,1,7,8,9] zws)) (q (r [0,1,10,11,12] [o 10 (AI 0),o 11 (AI 0),o 12 (AI 0)]) (q (q (r [0,1,10,11,12,37] [m 35 0,m 36 1,o 37 (.call 60 [.t 35,s #[38,35,120],.t 36])]) (w 37 (q (r [0,1,12] [o 12 (AI 3)]) (r [10,11,12] [m 39 0,m 40 1,o 41 (BI .add 40 3),o 42 (.sliceS (.t 39) (.some (.t 41)) .none),o 43 (.call 220 [.t 42,i 16,i 6]),m 38 43,o 44 (E 38 0),o 45 (E 38 1),a 10 44,a 11 45])) (q (r [0,1,10,11,12,48] [m 46 0,m 47 1,o 48 (.call 60 [.t 46,s #[38,35],.t 47])]) (w 48 (q (r [0,1,12] [o 12 (AI 2)]) (r [10,11,12] [m 50 0,m 51 1,o 52 (BI .add 51 2),o 53 (.sliceS (.t 50) (.some (.t 52)) .none),o 54 (.call 220 [.t 53,i 10,i 7]),m 49 54,o 55 (E 49 0),o 56 (E 49 1),a 10 55,a 11 56])) z)))) (q (q (r [10,11,12,67] [m 57 11,o 58 (BI .eql 57 0),m 59 58,h 59 60 (M 10),h 59 61 (BI .eql 60 0),o 62 (O 59 61),m 63 62,h 63 64 (M 10),h 63 65 (C 146 64),h 63 66 (U 65),o 67 (O 63 66)]) (w 67 (q (r [4,5,6] [o 4 (AS #[]),o 5 (AI 0),o 6 (AB false)]) (x [4,5,6])) z)) (q (r [4,5,6] [m 68 10,o 69 (C 91 68),m 70 12,m 71 11,o 72 (B .add 70 71),a 4 69,a 5 72,o 6 (AB true)]) (x [4,5,6]))))))))),[]⟩
def zhw:CCode:=(q (q (r [0,1,2,8,9,19] [m 11 9,m 12 0,o 13 (K 12),o 14 (B .lss 11 13),m 15 14,g 15 16 (M 9),g 15 17 (M 2),g 15 18 (B .leq 16 17),o 19 (P 15 18)]) (w 19 z (.exit 0 []))) (q (.block 1 (q (q (r [0,1,2,8,9,29] [m 22 0,m 23 9,o 24 (D 22 23),o 25 (BU .eql 24 59),m 26 25,g 26 27 (M 9),g 26 28 (BI .gtr 27 0),o 29 (P 26 28)]) (w 29 (q (r [6,7] [m 30 8,m 31 9,o 32 (BI .add 31 1),a 6 30,a 7 32]) (x [6,7])) z)) (q (r [0,1,2,8,9,10] [m 33 0,m 34 9,o 35 (D 33 34),m 36 1,o 37 (CC 229 35 36),a 10 37]) (q (q (r [0,1,2,8,9,10,39] [m 38 10,o 39 (BI .lss 38 0)]) (w 39 (q (r [6,7] [o 6 (AI 0),o 7 (AI 0)]) (x [6,7])) z)) (r [0,1,2,8,9] [m 40 8,m 41 1,o 42 (B .mul 40 41),m 43 10,o 44 (B .add 42 43),a 8 44]))))) (r [0,1,2,8,9] [m 20 9,o 21 (BI .add 20 1),a 9 21])))
def zhx:CCode:=zhw
def zc4:=@onB zhx zhw rfl
def zpm:CFun:=⟨45,[.inl 6,.inl 7],(q (r [0,1,2] [o 6 (AI 0),o 7 (AI 0)]) (q (r [0,1,2,8] [o 8 (AI 0)]) (q (q (r [0,1,2,8,9] [o 9 (AI 0)]) (k 0 [0,1,2,8,9] zhx)) (q (r [6,7] [o 6 (AI 0),o 7 (AI 0)]) (x [6,7]))))),[]⟩
def zwt:CFun:=⟨39,[.inl 4],(q (r [0,1] [o 4 (AI 0)]) (q (r [0,1,5] [o 5 (.asg (.c (.flat (.int .i64 (.negSucc 0)))))]) (q (q (r [0,1,5,11] [m 6 0,o 7 (BU .geq 6 48),m 8 7,g 8 9 (M 0),g 8 10 (BU .leq 9 57),o 11 (P 8 10)]) (w 11 (r [0,1,5] [m 12 0,o 13 (.conv .i64 (.t 12)),o 14 (BI .sub 13 48),a 5 14]) z)) (q (q (r [0,1,5,20] [m 15 0,o 16 (BU .geq 15 65),m 17 16,g 17 18 (M 0),g 17 19 (BU .leq 18 70),o 20 (P 17 19)]) (w 20 (r [0,1,5] [m 21 0,o 22 (.conv .i64 (.t 21)),o 23 (BI .sub 22 65),o 24 (BI .add 23 10),a 5 24]) z)) (q (q (r [0,1,5,30] [m 25 0,o 26 (BU .geq 25 97),m 27 26,g 27 28 (M 0),g 27 29 (BU .leq 28 102),o 30 (P 27 29)]) (w 30 (r [1,5] [m 31 0,o 32 (.conv .i64 (.t 31)),o 33 (BI .sub 32 97),o 34 (BI .add 33 10),a 5 34]) z)) (q (q (r [5,37] [m 35 5,m 36 1,o 37 (B .geq 35 36)]) (w 37 (q (r [4] [o 4 (.asg (.c (.flat (.int .i64 (.negSucc 0)))))]) (x [4])) z)) (q (r [4] [m 38 5,a 4 38]) (x [4])))))))),[]⟩
def zwu:CFun:=⟨15,[.inr ⟨2,⟨true,4⟩⟩,.inl 3],(q (r [0,2] [o 2 (.alloc 36 [V,Z,Z,V]),o 3 (AI 0)]) (q (r [2,4,6] [m 8 0,o 9 (.call 37 [.t 8,i 0,i 0]),m 7 9,o 10 (E 7 0),o 11 (E 7 1),o 12 (E 7 2),o 4 (.alloc 36 [V,Z,Z,V]),n (S 4 4 10),a 5 11,a 6 12]) (q (r [2,3] [o 13 (LT 4 4),m 14 6,n (S 4 2 13),a 3 14]) (x [2,3])))),[]⟩
def znl:CCode:=(q (q (r [0,1,2,6,9,11,15,16,17,18,20,22,83] [m 80 22,m 81 20,o 82 (W 81),o 83 (B .lss 80 82)]) (w 83 z (.exit 0 [0,1,2,6,9,11,15,16,17,18]))) (q (.block 1 (q (r [0,1,2,6,9,11,15,16,17,18,20,22,92] [m 86 20,m 87 22,o 88 (Y 2 86 87),o 89 (F 0 88),o 90 (L 1 89),o 91 (C 64 90),o 92 (BS .eql 91 #[98,111,117,110,100,97,114,121])]) (w 92 (r [0,1,2,6,9,11,15,16,17,18,20,22] [m 93 20,m 94 22,o 95 (Y 2 93 94),o 96 (F 1 95),o 97 (L 1 96),a 18 97]) z))) (r [0,1,2,6,9,11,15,16,17,18,20,22] [m 84 22,o 85 (BI .add 84 1),a 22 85])))
def zt0:CCode:=znl
def zlz:=@onB zt0 znl rfl
def znm:CCode:=(q (q (r [1,2,6,9,17,26,28,163] [m 160 28,m 161 26,o 162 (W 161),o 163 (B .lss 160 162)]) (w 163 z (.exit 2 [2,6,17]))) (q (.block 3 (q (r [1,2,6,9,17,26,28,29,30,31] [m 167 26,m 168 28,o 169 (Y 1 167 168),o 170 (L 1 169),m 171 1,o 172 (BI .add 171 1),m 173 2,o 174 (.call 37 [.t 170,.t 172,.t 173]),m 166 174,o 175 (E 166 0),o 176 (E 166 1),o 177 (E 166 2),o 29 (.alloc 36 [V,Z,Z,V]),n (S 4 29 175),a 30 176,a 31 177]) (q (q (r [1,2,6,9,17,26,28,29,30,31,179] [m 178 31,o 179 (BI .neq 178 0)]) (w 179 (q (r [6,7,8] [o 180 (LT 4 9),m 181 2,m 182 31,n (S 4 6 180),a 7 181,a 8 182]) (x [6,7,8])) z)) (q (r [1,6,9,17,26,28,30] [o 183 (F 3 17),o 184 (.loadA (.t 183)),o 185 (LT 4 29),o 186 (.mksl false 1 4 [V,Z,Z,V] [⟨0,⟨4,.t 185⟩⟩]),o 187 (.append false 4 (.t 184) (.t 186)),o 188 (F 3 17),n (S 1 188 187)]) (r [1,2,6,9,17,26,28] [m 189 30,a 2 189]))))) (r [1,2,6,9,17,26,28] [m 164 28,o 165 (BI .add 164 1),a 28 165])))
def zt1:CCode:=znm
def z10:=@onB zt1 znm rfl
def zzv:CFun:=⟨192,[.inr ⟨6,⟨true,4⟩⟩,.inl 7,.inl 8],(q (r [0,1,2,6] [o 6 (.alloc 36 [V,Z,Z,V]),o 7 (AI 0),o 8 (AI 0)]) (q (r [0,1,2,6,9] [o 32 (.build [V,Z,Z,V] []),o 9 (.alloc 36 [V,Z,Z,V]),n (S 4 9 32)]) (q (r [0,1,2,6,9,10,11,12] [m 34 0,o 35 (C 61 34),m 33 35,o 36 (E 33 0),o 37 (E 33 1),o 38 (E 33 2),a 10 36,a 11 37,a 12 38]) (q (q (r [0,1,2,6,9,10,11,12,40] [m 39 12,o 40 (BI .neq 39 0)]) (w 40 (q (r [6,7,8] [o 41 (LT 4 9),m 42 2,m 43 12,n (S 4 6 41),a 7 42,a 8 43]) (x [6,7,8])) z)) (q (r [0,1,2,6,9,10,11,13,14] [m 45 10,o 46 (CS 62 45 #[67,111,110,116,101,110,116,45,84,121,112,101]),m 44 46,o 47 (E 44 0),o 48 (E 44 1),a 13 47,a 14 48]) (q (r [0,1,2,6,9,10,11,13,14,15,16] [m 50 10,o 51 (CS 62 50 #[67,111,110,116,101,110,116,45,84,114,97,110,115,102,101,114,45,69,110,99,111,100,105,110,103]),m 49 51,o 52 (E 49 0),o 53 (E 49 1),a 15 52,a 16 53]) (q (q (r [0,1,2,6,9,10,11,13,14,15,16,59] [m 54 14,o 55 (BI .gtr 54 1),m 56 55,h 56 57 (M 16),h 56 58 (BI .gtr 57 1),o 59 (O 56 58)]) (w 59 (q (r [6,7,8] [o 60 (LT 4 9),m 61 2,n (S 4 6 60),a 7 61,o 8 (AI 9)]) (x [6,7,8])) z)) (q (r [0,1,2,6,9,11,13,14,15,16,17] [m 62 10,o 63 (.build [V,Z,Z,V] [⟨0,⟨1,.t 62⟩⟩,⟨1,⟨1,s #[116,101,120,116,47,112,108,97,105,110]⟩⟩]),o 17 (.alloc 36 [V,Z,Z,V]),n (S 4 17 63)]) (q (r [0,1,2,6,9,11,13,14,15,16,17,18] [o 18 (AS #[])]) (q (q (r [0,1,2,6,9,11,13,15,16,17,18,65] [m 64 14,o 65 (BI .eql 64 1)]) (w 65 (q (r [0,1,2,6,9,11,15,16,17,18,19,20,21] [m 67 13,o 68 (C 63 67),m 66 68,o 69 (E 66 0),o 70 (E 66 1),o 71 (E 66 2),a 19 69,a 20 70,a 21 71]) (q (q (r [0,1,2,6,9,11,15,16,17,18,19,20,21,73] [m 72 21,o 73 (BI .neq 72 0)]) (w 73 (q (r [6,7,8] [o 74 (LT 4 9),m 75 2,m 76 21,n (S 4 6 74),a 7 75,a 8 76]) (x [6,7,8])) z)) (q (r [0,1,2,6,9,11,15,16,17,18,20] [m 77 19,o 78 (C 64 77),o 79 (F 1 17),n (S 1 79 78)]) (q (r [0,1,2,6,9,11,15,16,17,18,20,22] [o 22 (AI 0)]) (k 0 [0,1,2,6,9,11,15,16,17,18,20,22] zt0))))) z)) (q (q (r [0,1,2,6,9,11,15,16,17,18,101] [o 98 (F 1 17),o 99 (L 1 98),o 100 (C 65 99),o 101 (U 100)]) (w 101 (q (r [6,7,8] [o 102 (LT 4 9),m 103 2,n (S 4 6 102),a 7 103,o 8 (AI 7)]) (x [6,7,8])) z)) (q (r [0,1,2,6,9,11,15,16,17,18] [m 104 15,o 105 (C 64 104),a 15 105]) (q (q (r [0,1,2,6,9,11,15,17,18,107] [m 106 16,o 107 (BI .eql 106 0)]) (w 107 (r [0,1,2,6,9,11,15,17,18] [o 15 (AS #[55,98,105,116])]) z)) (q (r [1,2,6,9,15,17,18,23] [m 108 0,m 109 11,o 110 (.sliceS (.t 108) (.some (.t 109)) .none),a 23 110]) (q (q (r [1,2,6,9,15,17,18,23,114] [o 111 (F 1 17),o 112 (L 1 111),o 113 (.call 60 [.t 112,s #[109,117,108,116,105,112,97,114,116,47],i 0]),o 114 (U 113)]) (w 114 (q (r [2,6,9,17,24,25] [m 116 23,m 117 15,o 118 (CC 66 116 117),m 115 118,o 119 (E 115 0),o 120 (E 115 1),a 24 119,a 25 120]) (q (q (r [2,6,9,17,24,122] [m 121 25,o 122 (U 121)]) (w 122 (q (r [6,7,8] [o 123 (LT 4 9),m 124 2,n (S 4 6 123),a 7 124,o 8 (AI 7)]) (x [6,7,8])) z)) (q (r [2,6,17] [m 125 24,o 126 (F 2 17),n (S 1 126 125)]) (q (r [6,7,8] [o 127 (LT 4 17),m 128 2,n (S 4 6 127),a 7 128,o 8 (AI 0)]) (x [6,7,8]))))) z)) (q (r [1,2,6,9,15,17,18,26,27] [m 130 23,m 131 18,o 132 (CC 67 130 131),m 129 132,o 133 (E 129 0),o 134 (E 129 1),a 26 133,a 27 134]) (q (q (r [1,2,6,9,17,26,145] [m 135 15,o 136 (BS .neq 135 #[55,98,105,116]),m 137 136,h 137 138 (M 18),h 137 139 (C 68 138),h 137 140 (U 139),o 141 (O 137 140),m 142 141,h 142 143 (M 27),h 142 144 (U 143),o 145 (O 142 144)]) (w 145 (q (r [6,7,8] [o 146 (LT 4 9),m 147 2,n (S 4 6 146),a 7 147,o 8 (AI 7)]) (x [6,7,8])) z)) (q (q (r [1,2,6,9,17,26,149] [m 148 1,o 149 (BI .geq 148 4)]) (w 149 (q (r [6,7,8] [o 150 (LT 4 9),m 151 2,n (S 4 6 150),a 7 151,o 8 (AI 8)]) (x [6,7,8])) z)) (q (r [1,2,6,9,17,26] [m 152 2,m 153 26,o 154 (W 153),o 155 (B .add 152 154),a 2 155]) (q (q (r [1,2,6,9,17,26,157] [m 156 2,o 157 (BI .gtr 156 64)]) (w 157 (q (r [6,7,8] [o 158 (LT 4 9),m 159 2,n (S 4 6 158),a 7 159,o 8 (AI 5)]) (x [6,7,8])) z)) (q (q (r [1,2,6,9,17,26,28] [o 28 (AI 0)]) (k 2 [1,2,6,9,17,26,28] zt1)) (q (r [6,7,8] [o 190 (LT 4 17),m 191 2,n (S 4 6 190),a 7 191,o 8 (AI 0)]) (x [6,7,8]))))))))))))))))))))))),[]⟩
def zke:CCode:=(q (q (r [0,7,8,9,10,11,32] [m 29 11,m 30 0,o 31 (K 30),o 32 (B .lss 29 31)]) (w 32 z (.exit 0 []))) (q (.block 1 (q (r [0,7,8,9,10,11,38] [m 35 0,m 36 7,m 37 11,o 38 (.call 60 [.t 35,.t 36,.t 37])]) (w 38 (q (r [0,7,8,9,11] [o 39 (.mvA 9),m 40 0,m 41 10,m 42 11,o 43 (.sliceS (.t 40) (.some (.t 41)) (.some (.t 42))),o 44 (.mksl false 1 1 [Z] [⟨0,⟨1,.t 43⟩⟩]),o 45 (.append false 1 (.t 39) (.t 44)),a 9 45]) (q (r [0,7,8,9,10] [m 46 11,m 47 7,o 48 (K 47),o 49 (B .add 46 48),a 10 49]) (r [0,7,8,9,10,11] [m 50 10,o 51 (BI .sub 50 1),a 11 51]))) (q (r [0,7,8,9,10,11,55] [m 52 0,m 53 8,m 54 11,o 55 (.call 60 [.t 52,.t 53,.t 54])]) (w 55 (q (r [4,5] [o 56 (.mvA 9),m 57 0,m 58 10,m 59 11,o 60 (.sliceS (.t 57) (.some (.t 58)) (.some (.t 59))),o 61 (.mksl false 1 1 [Z] [⟨0,⟨1,.t 60⟩⟩]),o 62 (.append false 1 (.t 56) (.t 61)),m 63 11,m 64 8,o 65 (K 64),o 66 (B .add 63 65),m 67 0,o 68 (K 67),o 69 (B .eql 66 68),a 4 62,a 5 69]) (x [4,5])) z))))) (r [0,7,8,9,10,11] [m 33 11,o 34 (BI .add 33 1),a 11 34])))
def zkf:CCode:=zke
def zgm:=@onB zkf zke rfl
def zt2:CFun:=⟨70,[.inl 4,.inl 5],(q (r [0,1] [o 4 (.asg (.c V)),o 5 (AB false)]) (q (r [0,1,6] [m 12 1,o 13 (SB .add #[45,45] 12),o 14 (BS .add 13 #[13,10]),a 6 14]) (q (q (r [0,1,6,18] [m 15 0,m 16 6,o 17 (.call 60 [.t 15,.t 16,i 0]),o 18 (U 17)]) (w 18 (q (r [4,5] [o 4 (.asg (.c V)),o 5 (AB false)]) (x [4,5])) z)) (q (r [0,6,7,8] [m 19 1,o 20 (SB .add #[13,10,45,45] 19),o 21 (BS .add 20 #[13,10]),m 22 1,o 23 (SB .add #[13,10,45,45] 22),o 24 (BS .add 23 #[45,45,13,10]),a 7 21,a 8 24]) (q (r [0,6,7,8,9] [o 25 (.mksl false 0 1 [] []),a 9 25]) (q (r [0,7,8,9,10] [m 26 6,o 27 (K 26),a 10 27]) (q (q (r [0,7,8,9,10,11] [m 28 10,a 11 28]) (k 0 [0,7,8,9,10,11] zkf)) (q (r [4,5] [o 4 (.asg (.c V)),o 5 (AB false)]) (x [4,5]))))))))),[]⟩
def zwv:CCode:=(q (q (r [0,1,5,6,7,12] [m 9 7,m 10 0,o 11 (K 10),o 12 (B .lss 9 11)]) (w 12 z (.exit 0 [0,5,6]))) (q (.block 1 (q (r [0,1,5,6,7,19] [m 15 0,m 16 7,o 17 (D 15 16),m 18 1,o 19 (B .eql 17 18)]) (w 19 (q (r [0,1,5,7] [o 20 (.mvA 5),m 21 0,m 22 6,m 23 7,o 24 (.sliceS (.t 21) (.some (.t 22)) (.some (.t 23))),o 25 (.mksl false 1 1 [Z] [⟨0,⟨1,.t 24⟩⟩]),o 26 (.append false 1 (.t 20) (.t 25)),a 5 26]) (r [0,1,5,6,7] [m 27 7,o 28 (BI .add 27 1),a 6 28])) z))) (r [0,1,5,6,7] [m 13 7,o 14 (BI .add 13 1),a 7 14])))
def z7n:CCode:=zwv
def ygp:CFun:=⟨35,[.inl 4],(q (r [0,1] [o 4 (.asg (.c V))]) (q (r [0,1,5] [o 8 (.mksl false 0 1 [] []),a 5 8]) (q (r [0,1,5,6] [o 6 (AI 0)]) (q (q (r [0,1,5,6,7] [o 7 (AI 0)]) (k 0 [0,1,5,6,7] z7n)) (q (r [4] [o 29 (.mvA 5),m 30 0,m 31 6,o 32 (.sliceS (.t 30) (.some (.t 31)) .none),o 33 (.mksl false 1 1 [Z] [⟨0,⟨1,.t 32⟩⟩]),o 34 (.append false 1 (.t 29) (.t 33)),a 4 34]) (x [4])))))),[]⟩
def zt3:CFun:=⟨35,[.inl 6],(q (r [0,1,2] [o 6 (AB false)]) (q (r [6] [m 7 2,o 8 (BI .geq 7 0),m 9 8,g 9 10 (M 2),g 9 11 (M 0),g 9 12 (K 11),g 9 13 (B .leq 10 12),o 14 (P 9 13),m 15 14,g 15 16 (M 1),g 15 17 (K 16),g 15 18 (M 0),g 15 19 (K 18),g 15 20 (M 2),g 15 21 (B .sub 19 20),g 15 22 (B .leq 17 21),o 23 (P 15 22),m 24 23,g 24 25 (M 0),g 24 26 (M 2),g 24 27 (M 2),g 24 28 (M 1),g 24 29 (K 28),g 24 30 (B .add 27 29),g 24 31 (.sliceS (.t 25) (.some (.t 26)) (.some (.t 30))),g 24 32 (M 1),g 24 33 (B .eql 31 32),o 34 (P 24 33),a 6 34]) (x [6]))),[]⟩
attribute [go_sem] zg2 ziv zj2 zek zlp zlr ztq zls zj5 zhr zhs zlt zlu zgg zix zfs ze9 zfa zem zbk zcr zdy ziz zmo zg5 zfu zna zi0 zj6 zlw znc zne zrk zsm zj8 zi4 zi5 zng zni zka zso zkc zp7 zhw znl znm zke zwv
def lvs:List (FuncId×Lv):=[(66,⟨[[0,1],[0,1,11],[4,5],[4,5],[0,1,17],[6,7],[4,5],[4,5],[0,27],[8,9],[4,5],[4,5],[4,5],[4,5]],[],[107,4611686018427387943]⟩),(65,⟨[[0],[3],[2],[2]],[],[107,4611686018427387943]⟩),(68,⟨[[0],[0,12],[2],[2],[0,3],[0,3],[0,3,16],[],[0,3,4],[0,3,60],[2],[2],[0,3],[2],[2]],[],[107,4611686018427387943]⟩),(62,⟨[[0,1],[0,1,6],[0,1,6,7],[0,1,6,7,8],[0,1,6,7,8],[0,1,6,7,8,12],[6,7],[0,1,6,7,8,23],[0,1,6,7,8],[0,1,6,7,8,25],[0,1,6,7,8],[0,1,6,7,8],[0,1,6,7,8],[4,5],[4,5]],[],[107,4611686018427387943]⟩),(63,⟨[[0],[0,5],[0,5,6],[0,6,7],[0,6,7,23],[2,3,4],[2,3,4],[0,6,7,8],[0,6,7,8,9],[0,5,7,8,9],[0,5,7,8,9],[0,5,7,8,9,31],[7,8,9],[0,5,7,8,9,38],[2,3,4],[2,3,4],[0,5,7,8,9],[0,5,6,7,8,9],[0,6,7,8,9,10],[0,6,7,8,9,10,58],[2,3,4],[2,3,4],[0,6,7,8,9,10],[0,6,7,8,9,10,62],[0,5,7,8,9,10,11],[0,5,7,8,9,10,11,71],[2,3,4],[2,3,4],[0,5,6,7,8,9,10],[0,5,7,8,9,10,11],[0,5,7,8,9,10,11,82],[2,3,4],[2,3,4],[0,5,7,8,9,10,11,12],[0,5,7,8,9,10,11,12],[0,5,7,8,9,10,11,12,86],[0,5,7,8,9,10,11],[0,5,7,8,9,10,11,12],[0,5,7,8,9,10,11,12],[0,5,7,8,9],[0,5,7,8,9],[7,8,107],[2,3,4],[2,3,4],[2,3,4],[2,3,4]],[],[107,4611686018427387943]⟩),(113,⟨[[0],[2],[2]],[],[107,4611686018427387943]⟩),(115,⟨[[0,1],[0,1],[0,1,14],[1],[0,1],[4],[4]],[],[107,4611686018427387943]⟩),(116,⟨[[0,1],[0,1],[0,1,14],[1],[0,1],[4],[4]],[],[107,4611686018427387943]⟩),(169,⟨[[0],[2],[2]],[],[107,4611686018427387943]⟩),(117,⟨[[0,1],[0,1,6],[0,1,6],[0,1,6,11],[],[0,1,6,7],[0,1,6,7,16],[4,5],[4,5],[0,1,6,7,25],[4,5],[4,5],[0,1,6,27],[0,1,6],[0,1,6,45],[4,5],[4,5],[0,1,6],[0,1,6],[4,5],[4,5]],[],[107,4611686018427387943]⟩),(64,⟨[[0],[0,3],[0,3,4],[0,3,4],[0,3,4,10],[3],[0,3,4,5],[0,3,4,5,21],[0,3,4,5],[0,3,4],[0,3,4],[2],[2]],[],[107,4611686018427387943]⟩),(49,⟨[[0],[0,12],[2],[2],[0,3],[0,3],[0,3,16],[],[0,3,4],[0,3,48],[2],[2],[0,3],[2],[2]],[],[107,4611686018427387943]⟩),(119,⟨[[0],[0,4],[0,4,5],[0,4,5],[0,4,5,13],[4],[0,4,5,6],[0,4,5,6,19],[0,4,5],[0,4,5],[0,4,5,6,27],[0,4,5],[0,4,5,6,31],[0,4,5,7,8],[0,4,5,7,40],[2,3],[2,3],[0,4,5],[0,4,5],[0,4,5,6,56],[0,4,5],[0,4,5],[2,3],[2,3],[2,3],[2,3]],[],[107,4611686018427387943]⟩),(170,⟨[[0,1],[0,1,16],[4,5],[4,5],[6,7],[6,7,31],[4,5],[4,5],[4,5],[4,5]],[],[107,4611686018427387943]⟩),(201,⟨[[0],[0,8],[2],[2],[0,17],[2],[2],[0,27],[2],[2],[2],[2]],[],[107,4611686018427387943]⟩),(156,⟨[[0],[2],[2]],[],[107,4611686018427387943]⟩),(125,⟨[[0],[5],[5],[5,6],[5,6,7],[5,6,7,8],[5,6,7,8],[5,6,7,8],[5,6,7,8,24],[6,7,8],[5,6,7,8,29],[2,3,4],[2,3,4],[5,6,7,8,9,10],[5,6,7,8,9,36],[2,3,4],[2,3,4],[5,6,7,8,9,39],[5,6,7,8,9],[5,6,7,8],[5,6,7,8],[6,7,8,44],[2,3,4],[2,3,4],[6,7,8,47],[2,3,4],[2,3,4],[2,3,4],[2,3,4]],[],[107,4611686018427387943]⟩),(123,⟨[[0],[0,6,7],[0,6,7],[0,6,7,8],[0],[0,3,6,7],[0,4,6,7],[0,6,7,32],[2],[2],[0,6,7],[2],[2]],[],[107,4611686018427387943]⟩),(178,⟨[[1,2],[3],[3]],[],[107,4611686018427387943]⟩),(173,⟨[[]],[],[107,4611686018427387943]⟩),(174,⟨[[0],[0,3],[0,3],[0,3,39],[0,3],[0,3],[0,3,4],[4],[2],[2]],[],[107,4611686018427387943]⟩),(175,⟨[[0,1],[0,18],[4],[4],[],[4],[4]],[],[107,4611686018427387943]⟩),(176,⟨[[0,2],[0,2],[0,2,4],[0,2,4,20],[2,3],[2,3],[0,2,4,23],[2,4,5,6],[2,4,6],[2,3],[2,3],[2,4],[2,3],[2,3]],[],[107,4611686018427387943]⟩),(210,⟨[[0],[0,4],[0,4,5],[0,4,5],[0,4,5,13],[0,4,5],[0,4,5,6],[0,4,5,6,20],[0,4,5],[0,4,5,6,23],[2,3],[2,3],[0,4,5,30],[0,4,5],[0,4,5,59],[2,3],[2,3],[0,4,5],[0,4,5],[0,4,5,77],[2,3],[2,3],[4],[2,3],[2,3]],[],[107,4611686018427387943]⟩),(177,⟨[[0,1],[4],[4]],[],[107,4611686018427387943]⟩),(211,⟨[[0,1],[0,1,7,8],[0,1,7,8],[0,1,7,8,9],[],[0,1,5,7,8],[0,1,5,7,8,16],[4],[4],[0,1,7,8],[4],[4]],[],[107,4611686018427387943]⟩)]
def tab:List (FuncId×CFun):=[(7,zgb),(8,zit),(9,zkt),(15,ziu),(13,zm5),(33,zto),(12,zq6),(10,zq7),(22,ztp),(26,zh3),(25,zh4),(27,ziw),(31,zwd),(52,z4v),(102,zwe),(103,zzn),(53,zwf),(158,zzo),(104,z93),(54,zwg),(106,z94),(149,zwh),(46,ztr),(80,zwi),(148,zts),(93,ztt),(147,zph),(94,zmj),(41,zwj),(78,zwk),(83,zpi),(135,ztu),(47,zeh),(84,zew),(81,zwl),(137,zpj),(182,zmk),(134,zpk),(56,zrd),(109,zwm),(162,zpl),(222,zml),(195,ztv),(161,zre),(107,zmm),(159,zmn),(160,zkv),(108,zjo),(163,zjp),(198,zh5),(164,zjq),(199,zgi),(224,zh6),(196,zjr),(197,zce),(223,zcx),(194,zdx),(221,zeo),(39,zgt),(70,zrf),(71,zrg),(75,zrh),(128,zyg),(76,zm8),(77,zm9),(131,zkw),(72,zzp),(14,zri),(24,zwn),(36,ztw),(44,zwo),(91,zwp),(90,zzq),(146,zzr),(99,z7m),(88,z95),(43,ztx),(89,z4w),(142,zrl),(141,zzs),(143,zzt),(189,zty),(144,z96),(145,zwq),(190,zwr),(92,zzu),(45,ztz),(188,z4x),(220,zpm),(229,zwt),(16,zwu),(37,zzv),(67,zt2),(98,ygp),(60,zt3)]
noncomputable def code:FuncId->Option CFun:=fun f=>match tab.lookup f with
 |some c=>some c
 |none=>(lvs.lookup f).bind fun lv=>z36 Tryz.prog lv f
theorem y0g:tab.map (fun p=>z36 Tryz.prog (lvOf [107,4611686018427387943] p.2) p.1)=tab.map (fun p=>some p.2):=by kernel_rfl
theorem ygq:∀f c,code f=some c->∃lv,z36 Tryz.prog lv f=some c:=fun f c h=>by
 unfold code at h;split at h
 ·rename_i c' hl
  cases h;exact⟨_,List.map_inj_left.1 y0g _ (ygo hl)⟩
 ·obtain⟨lv,_,h2⟩:=qb h
  exact⟨lv,h2⟩
theorem zol:code Nun.yldF=none:=by kernel_rfl
theorem zjg:code 7=some zgb:=by kernel_rfl
theorem zmr:code 8=some zit:=by kernel_rfl
theorem zo1:code 9=some zkt:=by kernel_rfl
theorem zms:code 15=some ziu:=by kernel_rfl
theorem zrn:code 13=some zm5:=by kernel_rfl
theorem zww:code 33=some zto:=by kernel_rfl
theorem zun:code 12=some zq6:=by kernel_rfl
theorem zmq:code 10=some zq7:=by kernel_rfl
theorem zwx:code 22=some ztp:=by kernel_rfl
theorem zl0:code 26=some zh3:=by kernel_rfl
theorem zl1:code 25=some zh4:=by kernel_rfl
theorem zmt:code 27=some ziw:=by kernel_rfl
theorem zpn:code 31=some zwd:=by kernel_rfl
theorem z4y:code 52=some z4v:=by kernel_rfl
theorem zyh:code 102=some zwe:=by kernel_rfl
theorem z11:code 103=some zzn:=by kernel_rfl
theorem zyi:code 53=some zwf:=by kernel_rfl
theorem z12:code 158=some zzo:=by kernel_rfl
theorem z7o:code 104=some z93:=by kernel_rfl
theorem zyj:code 54=some zwg:=by kernel_rfl
theorem zwy:code 106=some z94:=by kernel_rfl
theorem zpo:code 149=some zwh:=by kernel_rfl
theorem znn:code 46=some ztr:=by kernel_rfl
theorem zyk:code 80=some zwi:=by kernel_rfl
theorem zwz:code 148=some zts:=by kernel_rfl
theorem zw0:code 93=some ztt:=by kernel_rfl
theorem zsq:code 147=some zph:=by kernel_rfl
theorem zp8:code 94=some zmj:=by kernel_rfl
theorem zyl:code 41=some zwj:=by kernel_rfl
theorem zym:code 78=some zwk:=by kernel_rfl
theorem zsr:code 83=some zpi:=by kernel_rfl
theorem zw1:code 135=some ztu:=by kernel_rfl
theorem zgs:code 47=some zeh:=by kernel_rfl
theorem zhi:code 84=some zew:=by kernel_rfl
theorem zpp:code 81=some zwl:=by kernel_rfl
theorem zkx:code 137=some zpj:=by kernel_rfl
theorem zp9:code 182=some zmk:=by kernel_rfl
theorem zss:code 134=some zpk:=by kernel_rfl
theorem zhy:code 56=some zrd:=by kernel_rfl
theorem zyn:code 109=some zwm:=by kernel_rfl
theorem zst:code 162=some zpl:=by kernel_rfl
theorem zqa:code 222=some zml:=by kernel_rfl
theorem zw2:code 195=some ztv:=by kernel_rfl
theorem zuo:code 161=some zre:=by kernel_rfl
theorem zqb:code 107=some zmm:=by kernel_rfl
theorem zqc:code 159=some zmn:=by kernel_rfl
theorem zo2:code 160=some zkv:=by kernel_rfl
theorem zbd:code 108=some zjo:=by kernel_rfl
theorem zex:code 163=some zjp:=by kernel_rfl
theorem zl2:code 198=some zh5:=by kernel_rfl
theorem zhj:code 164=some zjq:=by kernel_rfl
theorem zau:code 199=some zgi:=by kernel_rfl
theorem zc1:code 224=some zh6:=by kernel_rfl
theorem zct:code 196=some zjr:=by kernel_rfl
theorem zd7:code 197=some zce:=by kernel_rfl
theorem zcf:code 223=some zcx:=by kernel_rfl
theorem zf7:code 194=some zdx:=by kernel_rfl
theorem zd0:code 221=some zeo:=by kernel_rfl
theorem zdn:code 39=some zgt:=by kernel_rfl
theorem zup:code 70=some zrf:=by kernel_rfl
theorem zuq:code 71=some zrg:=by kernel_rfl
theorem zur:code 75=some zrh:=by kernel_rfl
theorem zro:code 76=some zm8:=by kernel_rfl
theorem zrp:code 77=some zm9:=by kernel_rfl
theorem zo3:code 131=some zkw:=by kernel_rfl
theorem z13:code 72=some zzp:=by kernel_rfl
theorem zus:code 14=some zri:=by kernel_rfl
theorem zyo:code 24=some zwn:=by kernel_rfl
theorem zw3:code 36=some ztw:=by kernel_rfl
theorem zyp:code 44=some zwo:=by kernel_rfl
theorem zyq:code 91=some zwp:=by kernel_rfl
theorem z14:code 90=some zzq:=by kernel_rfl
theorem z15:code 146=some zzr:=by kernel_rfl
theorem z7p:code 88=some z95:=by kernel_rfl
theorem zi6:code 43=some ztx:=by kernel_rfl
theorem zd8:code 89=some z4w:=by kernel_rfl
theorem zhz:code 142=some zrl:=by kernel_rfl
theorem zrq:code 141=some zzs:=by kernel_rfl
theorem z16:code 143=some zzt:=by kernel_rfl
theorem zw4:code 189=some zty:=by kernel_rfl
theorem zw5:code 144=some z96:=by kernel_rfl
theorem zyr:code 145=some zwq:=by kernel_rfl
theorem zys:code 190=some zwr:=by kernel_rfl
theorem z17:code 92=some zzu:=by kernel_rfl
theorem zno:code 45=some ztz:=by kernel_rfl
theorem zb3:code 188=some z4x:=by kernel_rfl
theorem zsu:code 220=some zpm:=by kernel_rfl
theorem zyt:code 229=some zwt:=by kernel_rfl
theorem zyu:code 16=some zwu:=by kernel_rfl
theorem zrr:code 37=some zzv:=by kernel_rfl
theorem zw6:code 67=some zt2:=by kernel_rfl
theorem zw7:code 60=some zt3:=by kernel_rfl
noncomputable abbrev yud:=code
theorem ygr:code=yud:=rfl
end Go.Proofs.YtmpiobfdchlikaaGreatDoor
end
namespace Nun
open Go
attribute [go_sem] look_nil yrb yev zzi yfg zzj yex yey yez ye0 ye1 ye2
attribute [go_sem] ye3 ye4 ye5 ykt ye6 ye7 ycd ye8 yku ykv ye9 yw0
attribute [go_sem] yw1 yw2 yw3 yw4 yw5 yw6 yw7 yw8 y18 yw9 yxa yre
attribute [go_sem] yxb y19 y2a yxc ykw yfa ykx yky ykz yk0 yk1 yk2
attribute [go_sem] yk3 yk4 yfb yce z4j z1q yfc ycf yk5 yk6 yk7 yk8
attribute [go_sem] yk9 yla yfd ylb yrf ylc yle ylf ylg ylh yli zm1
attribute [go_sem] z1r yfe zkr yff z7g yxd yxe ykq yrc yew yrd z7f
attribute [go_sem] z4i yb9 zsi yca ykr yks yfh zzk ycg zu6 zu7 ych
attribute [go_sem] z1t zu8 zsj zoi yci zq3 zf9 yxf yfi yfj yfk yrg
attribute [go_sem] ylj z4k zg0 zcp yfm yrh yri yrj yrk yxg yrl yrm
attribute [go_sem] yrn ev_t ev_c yro z9v yrp z9w ylk z4m yfo y2b yxh
attribute [go_sem] yxi yrq yrr yrt yru ycj yxj yxk yxl yxm yxq yxp
attribute [go_sem] yxo eq_n eq_b eq_i eq_s yxn yrv yrw yrx yry yrz y2c
attribute [go_sem] y2d yr1 yr2 yxr yll yr3 ylm yxs z9x yln yxt yr4
attribute [go_sem] ylo ylp yr5 yr6 yr7 yr8 z7i ylq yfr yfs z1v z1w
attribute [go_sem] ylr yls ylt yl5 yl6 yf4 yfv yfw zg1 ycl ylu ylv
attribute [go_sem] ylw y2e yxv yxw yxx yr9 ysa ysb yse ysf ysg ysh
attribute [go_sem] ysi ysj ysk ysm ysn yxy yxz yso ysp ysq ysr y2f
attribute [go_sem] y2g yfy yx0 yx1 yx2 yx3 yx4 yx5 yl1 y2h y2i yst
attribute [go_sem] ysu yf0 yx6 yx7 yx8 yx9 yyb yyc yya ysw ysx yyd
attribute [go_sem] yye y2j y2k ysy yl2 z4p ycm yf2 yl3 z1x yl4 zq4
attribute [go_sem] ycn z7j ys0 ys1 ysz ys2 yyf yyg yyi ys3 ys4 ys5
attribute [go_sem] yf7 ys6 yyj yyk yyl yym zag yl9 yma yf9 ymb yga
attribute [go_sem] ys7 ys8 ymd ys9 yme ymf ymg sg_n sg_s ymh ymi yta
attribute [go_sem] ymj yyn pre_nil ymk yyo yyp sp_n sp_s ygd yge ytl ymq
attribute [go_sem] ymp yy1 y2l yyq yyr ytb yys yyu yyt yyv ytc y2m
attribute [go_sem] ytd yyw yml yte ytf ymm ytg yyx yth yyy yti ymn
attribute [go_sem] ygf ymo ygg yyz yy0 ytj y2n ytk z4s ymr yy2 ytn
attribute [go_sem] y2q yy4 kQ_s y2r y2s ytp y2t yy5 ytq yy6 yy8 yy7
attribute [go_sem] yy9 ytr y2u yts ymt ytt ytu yza ytv yzb ytw ymu
attribute [go_sem] ygi ymv ygj yzc yzd ytx y2v yty kT_s yy3 y2o y2p
attribute [go_sem] zwa yto ymw yze ytz yzf y2w yzg y2x yzh yzi yzj
attribute [go_sem] yzl yt0 yt1 ymx ymy ymz yzm yzn y2y yt2 yt3 yt4
attribute [go_sem] yzo yzp yt5 ym0 ym1 yp0 yp1 yt6 yt7 yzq yzr yt8
attribute [go_sem] yzs yzt yzu yzv ym2 ym3 ym4 ym5 yt9 yua yub yzw
attribute [go_sem] yzx yzy yzz yz0 yz1 y2z yz2 yz3 yz4 yz5 yz6 yz7
attribute [go_sem] yz8 yz9 y0a y0b y0c y0d y0e y0f ycp z7l lows PV.low
attribute [go_sem] zcd PV.noPtr PV.good PV.cells zpv zef isLp Option.map_some Option.map_none List.length_cons List.length_nil List.take_succ_cons
attribute [go_sem] List.take_zero List.take_nil List.drop_succ_cons List.drop_zero List.drop_nil List.cons_append List.nil_append List.append_nil List.getElem?_cons_zero List.getElem?_cons_succ List.getElem?_nil List.set_cons_zero
attribute [go_sem] List.set_cons_succ List.zip_cons_cons List.zip_nil_left List.zip_nil_right List.foldl_cons List.foldl_nil if_true if_false decide_true decide_false Bool.and_true Bool.true_and
attribute [go_sem] Bool.and_false Bool.false_and Bool.not_true Bool.not_false Bool.false_eq_true and_true true_and and_self and_false false_and true_or or_true
attribute [go_sem] or_false false_or or_self ne_eq not_false_eq_true not_true_eq_false Nat.le_refl Nat.zero_le Nat.zero_add Nat.add_zero Nat.mul_one yuc
attribute [go_sem] bne_iff_ne Option.some.injEq Int.cast_ofNat_Int
abbrev Str:=List UInt8
def S(l:Str):ByteArray:=⟨l.toArray⟩
theorem mk_S{l:Str}:ByteArray.mk (List.toArray l)=S l:=rfl
theorem zai{l:Str}:(S l).size=l.length:=by simp[S,ByteArray.size]
theorem zdo{l:Str}{i:Nat}:(S l)[i]?=l[i]?:=by
 show(ByteArray.mk l.toArray)[i]?=_;by_cases h:i<l.length
 ·rw[qe h]
  have h2:i<(ByteArray.mk l.toArray).size:=by simpa[ByteArray.size]using h
  rw[getElem?_pos (ByteArray.mk l.toArray) i h2];rfl
 ·rw[wb8 (by omega),getElem?_neg]
  simpa[ByteArray.size]using h
theorem zo4{a b:Str}:S a++S b=S (a++b):=wdf (by simp[S])
theorem zi7{l:Str}{a b:Nat}:(S l).extract a b=S ((l.take b).drop a):=wdf (by
 rw[ByteArray.data_extract];apply wba;simp[S,List.extract_eq_take_drop,wdg])
theorem yue{a b:Str}:S a=S b ↔ a=b:=⟨fun h=>by simpa[S]using h,fun h=>by rw[h]⟩
theorem zrs{a b:Str}:eqB (S a) (S b)=decide (a=b):=by simp only[eqB,yue]
theorem ym6{a:Str}:zhh (S a)=a.map fun b=>.flat (.int .u8 b.toNat):=by simp[zhh,S]
def zc8(a:Str):List PV:=a.map fun b=>.flat (.int .u8 b.toNat)
theorem z97{a:Str}:zhh (S a)=zc8 a:=ym6
theorem zzw{a b:Str}:zc8 a++zc8 b=zc8 (a++b):=by simp[zc8]
theorem zsv{a:Str}:(zc8 a).length=a.length:=by simp[zc8]
theorem zpq:∀(a:Str),bytesOf (zc8 a)=some a
 |[]=>rfl
 |b::a=>by
  show bytesOf (.flat (.int .u8 b.toNat)::zc8 a)=_;have hb:=b.toNat_lt;rw[bytesOf,if_pos (by omega),zpq a];simp
theorem zsw{n:Nat}:∀a:Str,lows n (zc8 a)=true
 |[]=>rfl
 |b::a=>by show lows n (.flat (.int .u8 b.toNat)::zc8 a)=true;simp[lows,PV.low,zsw a]
theorem ygs{l:Str}{k:Nat}{c:UInt8}{r:Str}(h:l.drop k=c::r):l[k]?=some c:=by
 have:=congrArg (fun x=>x[0]?) h;simpa using this
theorem znp{l:Str}{k:Nat}{c:UInt8}{r:Str}(h:l.drop k=c::r):l.drop (k+1)=r:=by
 have:=congrArg (List.drop 1) h;simpa[Nat.add_comm]using this
theorem za3{st:St}{d:Nat}{c:UInt8}:ylz st d (some c)=some (st.put d (.flat (.int .u8 c.toNat))):=rfl
theorem zhf{p:Nat->Bool}(h:(List.range 256).all p=true)(c:UInt8):p c.toNat=true:=wa9.1 h _ (wcl.2 c.toNat_lt)
theorem n0:((0:Nat):Int)=0:=rfl
theorem n1:((1:Nat):Int)=1:=rfl
theorem n2:((2:Nat):Int)=2:=rfl
theorem n3:((3:Nat):Int)=3:=rfl
theorem n4:((4:Nat):Int)=4:=rfl
theorem zjs:((65533:Nat):Int)=65533:=rfl
theorem ygt:IntKind.i64.wrap 0=0:=by decide
theorem yuf:IntKind.i64.wrap 5=5:=by decide
theorem y20:IntKind.i64.wrap 6=6:=by decide
theorem ym7:IntKind.i64.wrap 1=1:=by decide
theorem z7q:IntKind.i64.wrap 2=2:=by decide
theorem z7r:IntKind.i64.wrap 3=3:=by decide
theorem z7s:IntKind.i64.wrap 4=4:=by decide
theorem u8_and(a b:Nat)(ha:a<256)(hb:b<256):zpd .u8 (a:Int) (b:Int)=((a&&&b:Nat):Int):=by
 show IntKind.u8.wrap ((BitVec.ofInt 8 (a:Int)&&&BitVec.ofInt 8 (b:Int)).toNat:Int)=_;have h1:(a&&&b)<=a:=Nat.and_le_left;have h2:BitVec.ofInt 8 (a:Int)=BitVec.ofNat 8 a:=by simp
 have h3:BitVec.ofInt 8 (b:Int)=BitVec.ofNat 8 b:=by simp
 rw[h2,h3,BitVec.toNat_and,wdh,wdh,wdi (by omega),wdi (by omega),zsl (by omega)]
theorem u8_or(a b:Nat)(ha:a<256)(hb:b<256):zwb .u8 (a:Int) (b:Int)=((a|||b:Nat):Int):=by
 show IntKind.u8.wrap ((BitVec.ofInt 8 (a:Int)|||BitVec.ofInt 8 (b:Int)).toNat:Int)=_;have h1:(a|||b)<2^8:=Nat.or_lt_two_pow (by omega) (by omega);have h2:BitVec.ofInt 8 (a:Int)=BitVec.ofNat 8 a:=by simp
 have h3:BitVec.ofInt 8 (b:Int)=BitVec.ofNat 8 b:=by simp
 rw[h2,h3,BitVec.toNat_or,wdh,wdh,wdi (by omega),wdi (by omega),zsl (by omega)]
theorem y0h(a b:Nat)(ha:a<2147483648)(hb:b<2147483648):zwb .i32 (a:Int) (b:Int)=((a|||b:Nat):Int):=by
 show IntKind.i32.wrap ((BitVec.ofInt 32 (a:Int)|||BitVec.ofInt 32 (b:Int)).toNat:Int)=_;have h1:(a|||b)<2^31:=Nat.or_lt_two_pow (by omega) (by omega);have h2:BitVec.ofInt 32 (a:Int)=BitVec.ofNat 32 a:=by simp
 have h3:BitVec.ofInt 32 (b:Int)=BitVec.ofNat 32 b:=by simp
 rw[h2,h3,BitVec.toNat_or,wdh,wdh,wdi (by omega),wdi (by omega),wrap32 (by omega)]
theorem yug(a b:Nat)(ha:a<2147483648)(hb:b<2147483648):zpd .i32 (a:Int) (b:Int)=((a&&&b:Nat):Int):=by
 show IntKind.i32.wrap ((BitVec.ofInt 32 (a:Int)&&&BitVec.ofInt 32 (b:Int)).toNat:Int)=_;have h1:(a&&&b)<=a:=Nat.and_le_left;have h2:BitVec.ofInt 32 (a:Int)=BitVec.ofNat 32 a:=by simp
 have h3:BitVec.ofInt 32 (b:Int)=BitVec.ofNat 32 b:=by simp
 rw[h2,h3,BitVec.toNat_and,wdh,wdh,wdi (by omega),wdi (by omega),wrap32 (by omega)]
theorem y0i(m x:Nat)(hx:x<64):(m* 64)|||x=m* 64+x:=by
 have:=Nat.shiftLeft_add_eq_or_of_lt (i:=6) (b:=x) (by simpa using hx) m;rw[Nat.shiftLeft_eq]at this;simpa using this.symm
def ym8(body:St->Option (Out×St))(live:List Nat)(nb n:Nat):Option (Out×St)->Option (Out×St)
 |some (.normal,st)=>zcn body live nb n (st.only live nb)
 |some (.exit i,st)=>some (.exit i,st)
 |some (.ret,st)=>some (.ret,st)
 |none=>none
theorem zbv{body:St->Option (Out×St)}{live:List Nat}{nb n:Nat}{st:St}:zcn body live nb (n+1) st=ym8 body live nb n (body st):=by
 simp only[zcn];cases body st with
 |none=>rfl
 |some p=>obtain⟨o,s⟩:=p;cases o<;>rfl
theorem zbz{body:St->Option (Out×St)}{live:List Nat}{nb n:Nat}{st:St}:ym8 body live nb n (some (.normal,st))=zcn body live nb n (st.only live nb):=rfl
theorem zb9{body:St->Option (Out×St)}{live:List Nat}{nb n i:Nat}{st:St}:ym8 body live nb n (some (.exit i,st))=some (.exit i,st):=rfl
theorem zee{body:St->Option (Out×St)}{live:List Nat}{nb n:Nat}{st:St}:ym8 body live nb n (some (.ret,st))=some (.ret,st):=rfl
theorem zfd{α:Type}{body:St->Option (Out×St)}{live:List Nat}{nb:Nat}(head:α->St)(I:α->Prop)(μ:α->Nat)(res:α->Out×St)
 (h:∀a,I a->(∃o s,body (head a)=some (o,s)/\o≠.normal/\res a=(o,s))\/∃s b,body (head a)=some (.normal,s)/\s.only live nb=head b/\I b/\μ b<μ a/\res b=res a):∀{n:Nat}{a:α},I a->μ a<n->zcn body live nb n (head a)=some (res a)
 |0,a,_,hm=>by omega
 |n+1,a,hi,hm=>by
  rw[zbv];rcases h a hi with⟨o,s,h1,h2,h3⟩|⟨s,b,h1,h2,h3,h4,h5⟩
  ·rw[h1,h3]
   cases o with
   |normal=>exact absurd rfl h2
   |exit i=>rfl
   |ret=>rfl
  ·rw[h1,zbz,h2,<-h5]
   exact zfd head I μ res h h3 (by omega)
end Nun
namespace Nun
open Go Go.RowKit Go.Proofs Go.Proofs.YtmpiobfdchlikaaGreatDoor
variable {lib:Callee}
theorem zd9{n:Nat}{r:List PV}(h:n<256):bytesOf (.flat (.int .u8 (n:Int))::r)=(bytesOf r).map (UInt8.ofNat n::·):=by
 rw[bytesOf,if_pos (by omega)];rfl
theorem zey:bytesOf []=some []:=rfl
theorem zdr:big=18446744073709551615+1:=by decide
def cl(m:List (Nat×Nat)):List Loc:=m.map fun q=>.cell q.1 q.2
theorem zaf:∀m:List (Nat×Nat),zfh (cl m)=cl m
 |[]=>rfl
 |q::m=>by show zfh (.cell q.1 q.2::cl m)=_;rw[zu7,zaf m];rfl
theorem zaj:∀m:List (Nat×Nat),zir (cl m)=[]
 |[]=>rfl
 |q::m=>by show zir (.cell q.1 q.2::cl m)=_;rw[zu8,zaj m]
theorem zak{i:Nat}:∀m:List (Nat×Nat),owns (cl m) (.slot i)=false
 |[]=>rfl
 |q::m=>by show owns (.cell q.1 q.2::cl m) (.slot i)=_;rw[z7f,zak m]
theorem zal(m:List (Nat×Nat)):∀l:List Nat,ycb (cl m) l=[]
 |[]=>rfl
 |i::l=>by rw[ycc,zak,zal m l];rfl
theorem zap{d:Nat}:∀m:List (Nat×Nat),zac d (cl m)=cl m
 |[]=>rfl
 |q::m=>by show zac d (.cell q.1 q.2::cl m)=_;rw[zsi,zap m];rfl
theorem zah{n:Nat}:∀m:List (Nat×Nat),(∀q∈m,q.1<n)->zbm n (cl m)=cl m
 |[],_=>rfl
 |q::m,h=>by
  show zbm n (.cell q.1 q.2::cl m)=_;rw[zf9,if_pos (h q (by simp)),zah m fun q hq=>h q (by simp[hq])];rfl
def zg7{α ι:Type}(step:α->ι->α×Bool):α->List ι->α×Bool
 |a,[]=>(a,true)
 |a,x::r=>if(step a x).2 then zg7 step (step a x).1 r else((step a x).1,false)
theorem zat{nb:Nat}{vs:List PV}{bx:zae}(h:bx.length=nb):trim nb vs bx=bx:=by unfold trim;rw[if_pos h]
theorem zzx:cl []=[]:=rfl
theorem zjt{bx:zae}{b:Nat}{q:Nat×List PV}(h:bx[b]?=some q):bx.set b q=bx:=by
 apply List.ext_getElem?;intro i;by_cases e:b=i
 ·subst e;rw[wbp (qg h).1,h]
 ·rw[wbq e]
theorem zgn{b o:Nat}:∀m:List (Nat×Nat),(∀q∈m,q≠(b,o))->zer (.cell b o) (cl m)=cl m
 |[],_=>rfl
 |q::m,h=>by
  show zer (.cell b o) (.cell q.1 q.2::cl m)=_;rw[zq4,if_neg (fun k=>h q (by simp) (Prod.ext k.1 k.2)),zgn m fun q hq=>h q (by simp[hq])];rfl
theorem zb6{b o:Nat}:∀m:List (Nat×Nat),(∀q∈m,q≠(b,o))->zev b o 1 (cl m)=cl m
 |[],_=>rfl
 |q::m,h=>by
  show zev b o 1 (.cell q.1 q.2::cl m)=_;rw[zg1,if_neg (fun k=>h q (by simp) (Prod.ext k.1 (by omega))),zb6 m fun q hq=>h q (by simp[hq])];rfl
theorem znq:∀a:Str,zj1 (zc8 a)=true
 |[]=>rfl
 |c::a=>by show zj1 (.flat (.int .u8 c.toNat)::zc8 a)=true;rw[zkr,znq a];rfl
def runS{σ ρ:Type}(step:σ->σ ⊕ ρ)(d:ρ):Nat->σ->ρ
 |0,_=>d
 |n+1,a=>match step a with
  | .inl b=>runS step d n b
  | .inr r=>r
theorem zep{σ ρ:Type}{step:σ->σ ⊕ ρ}{d:ρ}{n:Nat}{a b:σ}(h:step a=.inl b):runS step d (n+1) a=runS step d n b:=by simp only[runS,h]
theorem zca{σ ρ:Type}{step:σ->σ ⊕ ρ}{d r:ρ}{n:Nat}{a:σ}(h:step a=.inr r):runS step d (n+1) a=r:=by simp only[runS,h]
theorem z7t{σ ρ:Type}{step:σ->σ ⊕ ρ}{d:ρ}{I:σ->Prop}{μ:σ->Nat}(h:∀a b,I a->step a=.inl b->I b/\μ b<μ a):∀(n m:Nat)(a:σ),I a->μ a<n->μ a<m->runS step d n a=runS step d m a
 |0,_,_,_,h1,_=>by omega
 |_,0,_,_,_,h2=>by omega
 |n+1,m+1,a,hi,h1,h2=>by
  cases hs:step a with
  |inl b=>
   obtain⟨k1,k2⟩:=h a b hi hs;rw[zep hs,zep hs];exact z7t h n m b k1 (by omega) (by omega)
  |inr r=>rw[zca hs,zca hs]
theorem zl3{σ ρ:Type}{step:σ->σ ⊕ ρ}{d:ρ}{I:σ->Prop}{μ:σ->Nat}{Q:ρ->Prop}(h:∀a,I a->match step a with| .inl b=>I b/\μ b<μ a| .inr r=>Q r):∀(n:Nat)(a:σ),I a->μ a<n->Q (runS step d n a)
 |0,_,_,h1=>by omega
 |n+1,a,hi,h1=>by
  have hs:=h a hi;cases hk:step a with
  |inl b=>rw[hk]at hs;rw[zep hk];exact zl3 h n b hs.1 (by have:=hs.2;omega)
  |inr r=>rw[hk]at hs;rw[zca hk];exact hs
def outS{σ ρ:Type}(head:σ->St)(fin:ρ->Out×St):σ ⊕ ρ->Out×St
 | .inl b=>(.normal,head b)
 | .inr r=>fin r
theorem zl4{σ ρ:Type}{body:St->Option (Out×St)}{live:List Nat}{nb:Nat}(head:σ->St)(step:σ->σ ⊕ ρ)(d:ρ)(fin:ρ->Out×St)(I:σ->Prop)(μ:σ->Nat)
 (hr:∀a,I a->body (head a)=some (outS head fin (step a))) (ho:∀a,I a->(head a).only live nb=head a) (hI:∀a b,I a->step a=.inl b->I b/\μ b<μ a) (hf:∀r,(fin r).1≠.normal) {n:Nat} (a:σ) (hi:I a) (hn:μ a<n) (hb:μ a<big):
 zcn body live nb big (head a)=some (fin (runS step d n a)):=by
 have hloop:=zfd (body:=body) (live:=live) (nb:=nb) head I μ (fun a=>fin (runS step d (μ a+1) a)) (fun a hi=>?_) (n:=big) (a:=a) hi hb
 ·rw[hloop,z7t hI (μ a+1) n a hi (by omega) hn]
 ·have h1:=hr a hi
  cases hs:step a with
  |inl b=>
   rw[hs]at h1;obtain⟨k1,k2⟩:=hI a b hi hs;refine .inr ⟨head b,b,h1,ho b k1,k1,k2,?_⟩;rw[zep hs,z7t hI (μ b+1) (μ a) b k1 (by omega) (by omega)]
  |inr r=>
   rw[hs]at h1;exact .inl ⟨(fin r).1,(fin r).2,h1,hf r,by rw[zca hs]⟩
theorem zgo{p s:Str}(h:p.isPrefixOf s=true):p.length<=s.length:=(wdj.1 h).length_le
theorem wr64{k m:Nat}(h:k+m<9223372036854775808):IntKind.i64.wrap ((k:Int)+(m:Int))=((k+m:Nat):Int):=by rw[wrap64 (by omega)];rfl
theorem wr1{k:Nat}(h:k+1<9223372036854775808):IntKind.i64.wrap ((k:Int)+1)=((k+1:Nat):Int):=wr64 (m:=1) h
theorem zic{η σ ρ:Type}{body:St->Option (Out×St)}{live:List Nat}{nb:Nat}(head:η->σ->St)(step:σ->σ ⊕ ρ)(d:ρ)(Q:ρ->Out->St->Prop)(I:σ->Prop)(μ:σ->Nat)
 (hr:∀h a,I a->match step a with| .inl b=>∃h',body (head h a)=some (.normal,head h' b)| .inr r=>∃o s,body (head h a)=some (o,s)/\o≠.normal/\Q r o s) (ho:∀h a,I a->(head h a).only live nb=head h a) (hI:∀a b,I a->step a=.inl b->I b/\μ b<μ a):
 ∀{n m:Nat}(h:η)(a:σ),I a->μ a<n->μ a<m->∃o s,zcn body live nb m (head h a)=some (o,s)/\Q (runS step d n a) o s
 |n,0,h,a,hi,hn,hm=>by omega
 |0,_,h,a,hi,hn,hm=>by omega
 |n+1,m+1,h,a,hi,hn,hm=>by
  have h1:=hr h a hi;rw[zbv];cases hs:step a with
  |inl b=>
   rw[hs]at h1;obtain⟨h',h1⟩:=h1;obtain⟨k1,k2⟩:=hI a b hi hs;rw[h1,zbz,ho h' b k1,zep hs];exact zic head step d Q I μ hr ho hI h' b k1 (by omega) (by omega)
  |inr r=>
   rw[hs]at h1;obtain⟨o,s,h1,h2,h3⟩:=h1;rw[h1,zca hs];refine⟨o,s,?_,h3⟩;cases o with
   |normal=>exact absurd rfl h2
   |exit i=>rfl
   |ret=>rfl
theorem ygu{n b:Nat}{q:Nat×List PV}(hq:lows n q.2=true):∀{bx:zae},zbs n bx=true->zbs n (bx.set b q)=true:=by
 intro bx
 induction bx generalizing b with
 |nil=>exact fun h=>h
 |cons p l ih=>
  intro h;rw[zcp,wb1]at h;cases b with
  |zero=>rw[wa3,zcp,hq,h.2];rfl
  |succ b=>rw[List.set_cons_succ,zcp,h.1,ih h.2];rfl
theorem zw8{n:Nat}:∀{bx by_:zae},zbs n (bx++by_)=(zbs n bx&&zbs n by_)
 |[],by_=>by rw[wa5,zg0,wbh]
 |p::l,by_=>by rw[wai,zcp,zcp,zw8,wbb]
theorem ap_b{bx:zae}{b:Nat}{x q:Nat×List PV}(h:b<bx.length):(bx.set b x++[q])[b]?=some x:=by
 rw[waa (by rw[wbo];exact h),wbp h]
theorem ap_n{bx:zae}{b:Nat}{x q:Nat×List PV}:(bx.set b x++[q])[bx.length]?=some q:=by
 have:bx.length=(bx.set b x).length:=by rw[wbo]
 rw[this,List.getElem?_concat_length]
theorem znr{bx:zae}{b:Nat}{x y q:Nat×List PV}(h:b<bx.length):(bx.set b x++[q]).set b y=bx.set b y++[q]:=by
 rw[wdk _ _ (by rw[wbo];exact h),wcb]
theorem zns{bx:zae}{b:Nat}{x q z:Nat×List PV}:(bx.set b x++[q]).set bx.length z=bx.set b x++[z]:=by
 rw[wa1 _ _ (by rw[wbo];exact wab _),wbo,wch];rfl
theorem zky{bx:zae}{b:Nat}{x q:Nat×List PV}:(bx.set b x++[q]).length=bx.length+1:=by
 rw[wb0,wbo];rfl
theorem ygv{bx:zae}{b:Nat}{x q:Nat×List PV}:(bx.set b x++[q]).take bx.length=bx.set b x:=by
 rw[wcz (by rw[wbo];exact wab _),wco (by rw[wbo];exact wab _)]
theorem yuh{n:Nat}{x:Nat×Nat}{r:List (Nat×Nat)}(h:∀q∈r,q.1<n):∀q∈(n,1)::r,q.1<n+1:=by
 intro q hq;rcases waq.1 hq with rfl|hq
 ·exact Nat.lt_succ_self _
 ·exact Nat.lt_succ_of_lt (h q hq)
theorem zom{b o m:Nat}:∀r:List (Nat×Nat),(∀q∈r,q.1<b)->zev b o m (cl r)=cl r
 |[],_=>rfl
 |q::r,h=>by
  have h1:=h q wcy;have h2:=zom (o:=o) (m:=m) r fun x hx=>h x (wcw _ hx)
  show zev b o m (Loc.cell q.1 q.2::cl r)=Loc.cell q.1 q.2::cl r;rw[zg1,h2];rw[if_neg (by omega)]
mutual
theorem ygw{n m:Nat}(h:n<=m):∀v:PV,v.low n=true->v.low m=true
 | .ptr b _,k=>by simp only[PV.low,decide_eq_true_eq]at k⊢;omega
 | .yld b,k=>by simp only[PV.low,decide_eq_true_eq]at k⊢;omega
 | .bsl b _ _,k=>by simp only[PV.low,decide_eq_true_eq]at k⊢;omega
 | .slc _ cs,k=>by simp only[PV.low]at k⊢;exact znt h cs k
 | .agg cs,k=>by simp only[PV.low]at k⊢;exact znt h cs k
 | .tup cs,k=>by simp only[PV.low]at k⊢;exact znt h cs k
 | .elt cs,k=>by simp only[PV.low]at k⊢;exact znt h cs k
 | .clo _ cs,k=>by simp only[PV.low]at k⊢;exact znt h cs k
 | .lp _ _ _ _ cs,k=>by simp only[PV.low]at k⊢;exact znt h cs k
 | .flat _,_=>rfl
 | .unk,_=>rfl
theorem znt{n m:Nat}(h:n<=m):∀l:List PV,lows n l=true->lows m l=true
 |[],_=>rfl
 |v::l,k=>by
  simp only[lows,wb1]at k⊢;exact⟨ygw h v k.1,znt h l k.2⟩
end
theorem zkz{n m:Nat}(h:n<=m):∀l:zae,zbs n l=true->zbs m l=true
 |[],_=>rfl
 |q::l,hl=>by
  rw[zcp,wb1]at hl⊢;exact⟨znt h _ hl.1,zkz h l hl.2⟩
theorem ym9{n:Nat}:∀r:List (Nat×Nat),(∀q∈r,q.1<n)->ltO n (cl r)=cl r
 |[],_=>rfl
 |q::r,h=>by
  have h1:=h q wcy;have h2:=ym9 (n:=n) r fun x hx=>h x (wcw _ hx)
  show ltO n (Loc.cell q.1 q.2::cl r)=Loc.cell q.1 q.2::cl r;rw[yrl,if_pos h1,h2]
def zi8{α β:Type}(f:α->Nat->β->α ⊕ (Out×St))(fin:α->Out×St):α->Nat->List β->Out×St
 |a,_,[]=>fin a
 |a,k,x::t=>match f a k x with
  | .inl a'=>zi8 f fin a' (k+1) t
  | .inr r=>r
theorem z98{α β:Type}{body:St->Option (Out×St)}{live:List Nat}{nb:Nat}(head:α->Nat->St)(L:List β)(I:α->Nat->Prop)(f:α->Nat->β->α ⊕ (Out×St))(fin:α->Out×St)
 (hr:∀a k x,I a k->k<L.length->L[k]?=some x->L.drop k=x::L.drop (k+1)->
   (∃a' s,f a k x=.inl a'/\body (head a k)=some (.normal,s)/\s.only live nb=head a' (k+1)/\I a' (k+1))\/(∃r,f a k x=.inr r/\body (head a k)=some r/\r.1≠.normal))
 (he:∀a,I a L.length->body (head a L.length)=some (fin a)/\(fin a).1≠.normal) (a:α) (ha:I a 0) (hL:L.length<big):
 zcn body live nb big (head a 0)=some (zi8 f fin a 0 L):=by
 have hloop:=zfd (body:=body) (live:=live) (nb:=nb) (fun q:α×Nat=>head q.1 q.2) (fun q=>I q.1 q.2/\q.2<=L.length) (fun q=>L.length - q.2)
  (fun q=>zi8 f fin q.1 q.2 (L.drop q.2)) (fun⟨a,k⟩ ha=>?_) (n:=big) (a:=(a,0)) ⟨ha,wa7 _⟩ (by dsimp only;omega)
 ·exact hloop
 ·dsimp only at ha⊢
  obtain⟨ha,hk⟩:=ha;by_cases hlt:k<L.length
  ·have hc:L[k]?=some L[k]:=qe hlt
   have hd:L.drop k=L[k]::L.drop (k+1):=wcm hlt;rcases hr a k L[k] ha hlt hc hd with⟨a',s,h1,h2,h3,h4⟩|⟨r,h1,h2,h3⟩
   ·right
    exact⟨s,(a',k+1),h2,h3,⟨h4,hlt⟩,by dsimp only;omega,by dsimp only;rw[hd,zi8,h1]⟩
   ·left
    exact⟨r.1,r.2,h2,h3,by rw[hd,zi8,h1]⟩
  ·left
   obtain rfl:k=L.length:=by omega
   obtain⟨h1,h2⟩:=he a ha;exact⟨(fin a).1,(fin a).2,h1,h2,by rw[wdl,zi8]⟩
theorem zl5{α β:Type}{body:St->Option (Out×St)}{live:List Nat}{nb:Nat}(head:α->Nat->St)(L:List β)(I:α->Nat->Prop)(f:α->Nat->β->α ⊕ (Out×St))(fin:α->Out×St)
 (hr:∀a k x,I a k->k<L.length->L[k]?=some x->L.drop k=x::L.drop (k+1)->body (head a k)=match f a k x with| .inl a'=>some (.normal,head a' (k+1))| .inr r=>some r)
 (ho:∀a k,(head a k).only live nb=head a k) (hI:∀a k x a',I a k->k<L.length->L[k]?=some x->f a k x=.inl a'->I a' (k+1)) (hn:∀a k x r,f a k x=.inr r->r.1≠.normal)
 (he:∀a,I a L.length->body (head a L.length)=some (fin a)) (hf:∀a,(fin a).1≠.normal) (a:α) (ha:I a 0) (hL:L.length<big):
 zcn body live nb big (head a 0)=some (zi8 f fin a 0 L):=
 z98 head L I f fin (fun a k x hi hk hx hd=>by
  have h:=hr a k x hi hk hx hd;cases hq:f a k x with
  |inl a'=>
   rw[hq]at h;exact .inl ⟨a',_,rfl,h,ho a' (k+1),hI a k x a' hi hk hx hq⟩
  |inr r=>
   rw[hq]at h;exact .inr ⟨r,rfl,h,hn a k x r hq⟩) (fun a hi=>⟨he a hi,hf a⟩) a ha hL
theorem z18{β:Type}{p:β->Bool}{r:Out×St}{fin:Unit->Out×St}:∀(L:List β)(k:Nat),zi8 (fun(_:Unit) _ x=>if p x then .inl ()else .inr r) fin () k L=if L.all p then fin ()else r
 |[],k=>rfl
 |x::t,k=>by
  rw[zi8,wcg];cases hp:p x with
  |true=>rw[if_pos rfl,wbh];exact z18 t _
  |false=>rw[if_neg (by simp),wdd,if_neg (by simp)]
theorem ygx(s w:Str)(k:Nat)(h:w.length<=s.length - k)(hk:k<=s.length):decide ((s.take (k+w.length)).drop k=w)=w.isPrefixOf (s.drop k):=by
 rw[wdg,wbs,wdm,decide_eq_true_eq,wdj,List.prefix_iff_eq_take];exact eq_comm
theorem yna(s w:Str)(h:¬w.length<=s.length):w.isPrefixOf s=false:=by
 rw[wdn];intro hp;exact h (List.IsPrefix.length_le (wdj.1 hp))
def at1(c:UInt8):Str->Option Nat
 |[]=>none
 |x::l=>if x=c then some 0 else(at1 c l).map (·+1)
theorem z4z{c:UInt8}:∀{l:Str}{i:Nat},at1 c l=some i->i<l.length
 |[],i,h=>by cases h
 |x::l,i,h=>by
  simp only[at1]at h;split at h
  ·cases h;simp
  ·obtain⟨j,hj,rfl⟩:=qm h
   have:=z4z hj;simp;omega
def zf2(lib:Callee):Prop:=∀(s:Str)(c:UInt8),s.length<=1000000000->lib 32 [.flat (.string (S s)),.flat (.int .u8 c.toNat)] [] []=some ([.flat (.int .i64 (match at1 c s with|some i=>(i:Int)|none=>-1))],false,[],[])
theorem zzy(H:zf2 lib)(s:Str)(c:UInt8)(h:s.length<=1000000000):evW code lib 32 [.flat (.string (S s)),.flat (.int .u8 c.toNat)] [] []=some ([.flat (.int .i64 (match at1 c s with|some i=>(i:Int)|none=>-1))],false,[],[]):=
 zde (by decide) (by kernel_rfl) (H s c h)
def zaq(l:List Str):List PV:=l.map fun x=>.flat (.string (S x))
theorem zam{l:List Str}:(zaq l).length=l.length:=by simp[zaq]
theorem zk0{a b:List Str}:zaq a++zaq b=zaq (a++b):=by simp[zaq]
theorem zbf:∀a:List Str,noU8 (zaq a)=true
 |[]=>rfl
 |c::a=>by show noU8 (.flat (.string (S c))::zaq a)=true;rw[zm1,zbf a];rfl
theorem zcy{n:Nat}:∀a:List Str,lows n (zaq a)=true
 |[]=>rfl
 |c::a=>by show lows n (.flat (.string (S c))::zaq a)=true;simp only[lows,PV.low,zcy a,wbh]
def zcz(lib:Callee):Prop:=∀s p:Str,s.length<=1000000000->p.length<=1000000000->lib 74 [.flat (.string (S s)),.flat (.string (S p))] [] []=some ([.flat (.bool (p.isPrefixOf s))],false,[],[])
def zav(s w:Str)(k:Nat):Bool:=decide (k<=s.length)&&w.isPrefixOf (s.drop k)
theorem zbh:∀a:List Str,zcd (zaq a)=true
 |[]=>rfl
 |c::a=>by show zcd (.flat (.string (S c))::zaq a)=true;simp only[zcd,PV.noPtr,zbh a,wbh]
theorem zc5{s w:Str}{k:Nat}(hk:k<=s.length):zav s w k=w.isPrefixOf (s.drop k):=by unfold zav;simp only[hk,decide_true,wbh]
theorem z40(c:UInt8):∀s:Str,(at1 c s).isSome=s.contains c
 |[]=>rfl
 |x::l=>by
  have:=z40 c l;rw[List.contains_cons,<-this];by_cases h:x=c
  ·simp only[at1,h,if_true,wc3,BEq.rfl,wdo]
  ·have h2:(c==x)=false:=by simpa using fun e=>h e.symm
   simp only[at1,h,if_false,Option.isSome_map,h2,wcx]
end Nun
namespace Nun
open Go Go.RowKit
open Go.Proofs.YtmpiobfdchlikaaGreatDoor
variable {lib:Callee}
def goU:Str->Nat->Nat->Nat×Bool
 |_,r,0=>(r,true)
 |c::l,r,m+1=>if 128<=c.toNat/\c.toNat<192 then goU l (r* 64+(c.toNat - 128)) m else(0,false)
 |[],_,_+1=>(0,false)
theorem zw9:∀(l:Str)(r m:Nat),l.length<m->goU l r m=(0,false)
 |l,r,0,h=>by omega
 |[],r,m+1,h=>rfl
 |c::l,r,m+1,h=>by
  simp only[goU];split
  ·exact zw9 l _ m (by simp at h;omega)
  ·rfl
theorem z41:∀(l:Str)(r m:Nat),(goU l r m).2=false->goU l r m=(0,false)
 |l,r,0,h=>by simp[goU]at h
 |[],r,m+1,h=>rfl
 |c::l,r,m+1,h=>by
  simp only[goU]at h⊢;split at h
  ·rename_i hc;rw[if_pos hc];exact z41 l _ m h
  ·rename_i hc;rw[if_neg hc]
theorem ynb(c:UInt8):(c.toNat&&&192=128) ↔ (128<=c.toNat/\c.toNat<192):=by
 have:=zhf (p:=fun n=>decide ((n&&&192=128) ↔ (128<=n/\n<192))) (by decide+kernel) c;exact of_decide_eq_true this
theorem yui(c:UInt8)(h:128<=c.toNat/\c.toNat<192):c.toNat&&&63=c.toNat - 128:=by
 have:=zhf (p:=fun n=>decide (128<=n/\n<192->n&&&63=n - 128)) (by decide+kernel) c;exact of_decide_eq_true this h
def ycq(l:Str)(many r i:Nat):St:=⟨[(0,.flat (.string (S l))),(1,.flat (.int .i32 r)),(13,.flat (.int .i64 many)),(14,.flat (.int .i64 i))],[],[],[]⟩
def resT(q:Nat×Bool):Out×St:=if q.2 then(.exit 0,⟨[(1,.flat (.int .i32 q.1))],[],[],[]⟩)else(.ret,⟨[(6,.flat (.int .i32 0)),(7,.flat (.bool false))],[],[],[]⟩)
theorem ygy(l:Str)(many:Nat)(hm:many<=3)(hl:many<=l.length)(r:Nat)(hr:r<32):zcn (evC (evW code lib) big zfz) [0,1,13,14] 0 big (ycq l many r 0)=some (resT (goU l r many)):=by
 have:=zfd (body:=evC (evW code lib) big zfz) (live:=[0,1,13,14]) (nb:=0) (fun a:Nat×Nat=>ycq l many a.1 a.2) (fun a=>a.2<=many/\a.1<32* 64^a.2) (fun a=>many - a.2) (fun a=>resT (goU (l.drop a.2) a.1 (many - a.2))) (fun⟨r,i⟩ ⟨hi,hr⟩=>?_) (n:=big) (a:=(r,0)) ⟨by omega,by simpa using hr⟩ (by unfold big;dsimp only;omega)
 ·simpa using this
 dsimp only at hi hr⊢;have hr2:r<8388608:=by
  have:(64:Nat)^i<=64^3:=wdp (by omega) (by omega);have h9:(64:Nat)^3=262144:=by decide
  omega
 by_cases hlt:i<many
 ·obtain⟨c,t,ht⟩:∃c t,l.drop i=c::t:=⟨l[i],l.drop (i+1),wcm (by omega)⟩
  have e1:=ygs ht;have hc:=c.toNat_lt;have e2:=znp ht;have e3:=ynb c;have e4:zpd .u8 (c.toNat:Int) 192=_:=u8_and c.toNat 192 (by omega) (by omega);have e5:zpd .u8 (c.toNat:Int) 63=_:=u8_and c.toNat 63 (by omega) (by omega);have hm1:many - i=(many - (i+1))+1:=by omega
  by_cases hcc:128<=c.toNat/\c.toNat<192
  ·right
   have e6:=yui c hcc;have e7:c.toNat&&&192=128:=e3.2 hcc;rw[e7]at e4;rw[e6]at e5;have e9:((128:Nat):Int)=128:=rfl;have e8:=y0h (r* 64) (c.toNat - 128) (by omega) (by omega);rw[y0i _ _ (by omega)]at e8;refine⟨⟨[(0,.flat (.string (S l))),(1,.flat (.int .i32 (r* 64+(c.toNat - 128):Nat))),(13,.flat (.int .i64 many)),(14,.flat (.int .i64 (i+1:Nat)))],[],[],[]⟩,(r* 64+(c.toNat - 128),i+1),?_,rfl,⟨by omega,?_⟩,by dsimp only;omega,?_⟩
   ·have h1:((i:Int)<many):=by omega
    have h2:(0:Int)<=i:=by omega
    have h3:IntKind.i32.wrap ((r:Int)* 2^min 6 32)=((r* 64:Nat):Int):=by rw[wrap32 (by simp;omega)];simp
    have h4:IntKind.i64.wrap ((i:Int)+1)=((i+1:Nat):Int):=wrap64 (by omega);have h5:IntKind.i32.wrap ((c.toNat - 128:Nat):Int)=((c.toNat - 128:Nat):Int):=wrap32 (by omega);simp only[zfz,ycq,go_sem,simprocAttr,h1,h2,zdo,wdq,e1,IntKind.bits,e4,e5,h3,h4,h5,e8,e9]
   ·rw[wdr];omega
   ·dsimp only;rw[ht,hm1,e2];simp only[goU];rw[if_pos hcc]
  ·left
   have h1:((i:Int)<many):=by omega
   have h2:(0:Int)<=i:=by omega
   have e7:¬((c.toNat&&&192:Nat):Int)=128:=fun e=>hcc (e3.1 (by omega))
   refine⟨.ret,⟨[(6,.flat (.int .i32 0)),(7,.flat (.bool false))],[],[],[]⟩,?_,by simp,?_⟩
   ·simp only[zfz,ycq,go_sem,simprocAttr,h1,h2,zdo,wdq,e1,IntKind.bits,e4,e7]
   ·rw[ht,hm1];simp only[goU];rw[if_neg hcc];rfl
 ·left
  have hil:i=many:=by omega
  subst hil;refine⟨.exit 0,⟨[(1,.flat (.int .i32 r))],[],[],[]⟩,?_,by simp,by rw[wch];simp[goU,resT]⟩;have h1:¬((i:Int)<i):=by omega
  simp only[zfz,ycq,go_sem,simprocAttr,h1]
theorem yuj(l:Str)(many:Nat)(hm:many<=3)(r:Nat)(hr:r<32):evW code lib 158 [.flat (.string (S l)),.flat (.int .i32 r),.flat (.int .i64 many)] [] []=some ([.flat (.int .i32 (goU l r many).1),.flat (.bool (goU l r many).2)],false,[],[]):=by
 refine zab z12 (qa rfl) ?_;by_cases hl:l.length<many
 ·have h1:((l.length:Int)<many):=by omega
  rw[zw9 l r many hl];simp only[go_sem,simprocAttr,zai,h1]
 ·have h1:¬((l.length:Int)<many):=by omega
  have h2:=ygy (lib:=lib) l many hm (by omega) r hr;simp only[ycq,n0]at h2;cases hg:(goU l r many).2 with
  |true=>
   simp only[resT,hg,if_true]at h2;simp only[go_sem,simprocAttr,zai,h1,mk_S,h2]
  |false=>
   have h3:=z41 l r many hg;simp only[resT,hg,wbf,if_false]at h2;simp only[go_sem,simprocAttr,zai,h1,mk_S,h2,h3,n0]
def isN(n:Nat):Bool:=decide (n<=1114111)&&(decide (n<55296)||decide (57343<n))
theorem ync(n:Nat):evW code lib 104 [.flat (.int .i32 n)] [] []=some ([.flat (.bool (isN n))],false,[],[]):=by
 refine zab z7o (qa rfl) ?_;have h0:(0:Int)<=n:=by omega
 by_cases h2:n<=1114111<;>by_cases h3:n<55296
 all_goals
  have h2':((n:Int)<=1114111)=(n<=1114111):=by apply propext;omega
  have h3':((n:Int)<55296)=(n<55296):=by apply propext;omega
  have h4':((57343:Int)<n)=(57343<n):=by apply propext;omega
  simp only[go_sem,simprocAttr,isN,h0,h2',h3',h4',h2,h3,wdo,wcx]
def finU(r least many:Nat)(l:Str):Nat×Nat:=if(goU l r many).2=true/\least<=(goU l r many).1/\isN (goU l r many).1=true then((goU l r many).1,many+1)else(65533,1)
def decU:Str->Nat×Nat
 |[]=>(0,0)
 |c::l=>
  if c.toNat<128 then(c.toNat,1)
  else if 192<=c.toNat/\c.toNat<224 then finU (c.toNat - 192) 128 1 l
  else if 224<=c.toNat/\c.toNat<240 then finU (c.toNat - 224) 2048 2 l
  else if 240<=c.toNat/\c.toNat<248 then finU (c.toNat - 240) 65536 3 l
  else(65533,1)
theorem y21(c:UInt8)(h:192<=c.toNat/\c.toNat<224):c.toNat&&&31=c.toNat - 192:=by
 have:=zhf (p:=fun n=>decide (192<=n/\n<224->n&&&31=n - 192)) (by decide+kernel) c;exact of_decide_eq_true this h
theorem y22(c:UInt8)(h:224<=c.toNat/\c.toNat<240):c.toNat&&&15=c.toNat - 224:=by
 have:=zhf (p:=fun n=>decide (224<=n/\n<240->n&&&15=n - 224)) (by decide+kernel) c;exact of_decide_eq_true this h
theorem y23(c:UInt8)(h:240<=c.toNat/\c.toNat<248):c.toNat&&&7=c.toNat - 240:=by
 have:=zhf (p:=fun n=>decide (240<=n/\n<248->n&&&7=n - 240)) (by decide+kernel) c;exact of_decide_eq_true this h
def Sm(l:Str):Prop:=l.length<=1000000000000
theorem yuk:∀(l:Str)(r m:Nat),r<32->m<=3->(goU l r m).1<8388608:=by
 have key:∀(m:Nat)(l:Str)(r k:Nat),r<32* 64^k->m+k<=3->(goU l r m).1<8388608:=by
  intro m
  induction m with
  |zero=>
   intro l r k hr hk;have:(64:Nat)^k<=64^3:=wdp (by omega) (by omega);have h9:(64:Nat)^3=262144:=by decide
   simp only[goU];omega
  |succ m ih=>
   intro l r k hr hk;cases l with
   |nil=>simp[goU]
   |cons c l=>
    simp only[goU];split
    ·exact ih l _ (k+1) (by rw[wdr];omega) (by omega)
    ·simp
 exact fun l r m hr hm=>key m l r 0 (by simpa using hr) (by omega)
theorem ygz(l:Str)(hs:Sm l)(k:Nat)(hk:k<=l.length):evW code lib 103 [.flat (.string (S l)),.flat (.int .i64 k)] [] []=some ([.flat (.int .i32 (decU (l.drop k)).1),.flat (.int .i64 (decU (l.drop k)).2)],false,[],[]):=by
 unfold Sm at hs;refine zab z11 (qa rfl) ?_;have h0:¬((k:Int)<0):=by omega
 by_cases hlt:k<l.length
 ·obtain⟨c,t,ht⟩:∃c t,l.drop k=c::t:=⟨l[k],l.drop (k+1),wcm hlt⟩
  have e1:=ygs ht;have hc:=c.toNat_lt;have e2:=znp ht;have h1:¬((l.length:Int)<=k):=by omega
  have h2:(0:Int)<=k:=by omega
  have c1:((c.toNat:Int)<128)=(c.toNat<128):=by apply propext;omega
  have c2:((192:Int)<=c.toNat)=(192<=c.toNat):=by apply propext;omega
  have c3:((c.toNat:Int)<224)=(c.toNat<224):=by apply propext;omega
  have c4:((224:Int)<=c.toNat)=(224<=c.toNat):=by apply propext;omega
  have c5:((c.toNat:Int)<240)=(c.toNat<240):=by apply propext;omega
  have c6:((240:Int)<=c.toNat)=(240<=c.toNat):=by apply propext;omega
  have c7:((c.toNat:Int)<248)=(c.toNat<248):=by apply propext;omega
  rw[ht];by_cases a1:c.toNat<128
  ·have w1:IntKind.i32.wrap (c.toNat:Int)=c.toNat:=wrap32 (by omega)
   simp only[go_sem,simprocAttr,zai,zdo,h0,h1,h2,wdq,e1,c1,a1,w1,decU,n1]
  ·have w2:IntKind.i64.wrap ((k:Int)+1)=((k+1:Nat):Int):=wrap64 (by omega)
   have b1:(0:Int)<=((k+1:Nat):Int)/\((k+1:Nat):Int)<=l.length:=by omega
   have x1:(l.take l.length).drop (k+1)=t:=by rw[wds,e2]
   have fin:∀(r least many:Nat),r<32->many<=3->
    (finU r least many t=((goU t r many).1,many+1)/\(goU t r many).2=true/\least<=(goU t r many).1/\isN (goU t r many).1=true)\/(finU r least many t=(65533,1)/\((goU t r many).2=false\/(goU t r many).2=true/\(¬least<=(goU t r many).1\/least<=(goU t r many).1/\isN (goU t r many).1=false))):=fun r least many _ _=>by
    unfold finU;by_cases g1:(goU t r many).2=true<;>by_cases g2:least<=(goU t r many).1<;>by_cases g3:isN (goU t r many).1=true<;>simp[g1,g2,g3]<;>simpa using g1
   have run:∀(r least many:Nat),r<32->many<=3->evW code lib 158 [.flat (.string (S t)),.flat (.int .i32 r),.flat (.int .i64 many)] [] []=_:=fun r _ many hr hm=>yuj (lib:=lib) t many hm r hr
   by_cases a2:192<=c.toNat/\c.toNat<224
   ·have l1:zpd .u8 (c.toNat:Int) 31=((c.toNat - 192:Nat):Int):=by rw[<-y21 c a2];exact u8_and c.toNat 31 (by omega) (by omega)
    have w3:IntKind.i32.wrap ((c.toNat - 192:Nat):Int)=((c.toNat - 192:Nat):Int):=wrap32 (by omega);have t1:=run (c.toNat - 192) 128 1 (by omega) (by omega);have i1:=ync (lib:=lib) (goU t (c.toNat - 192) 1).1;rw[n1]at t1;have hd:decU (c::t)=finU (c.toNat - 192) 128 1 t:=by
     simp only[decU];rw[if_neg a1,if_pos a2]
    have lt:(((goU t (c.toNat - 192) 1).1:Int)<128)=¬(128<=(goU t (c.toNat - 192) 1).1):=by apply propext;omega
    have q2:(192<=c.toNat)=True:=by simp;omega
    have r2:(c.toNat<224)=True:=by simp;omega
    have q3:(224<=c.toNat)=False:=by simp;omega
    have r3:(c.toNat<240)=True:=by simp;omega
    have q4:(240<=c.toNat)=False:=by simp;omega
    have r4:(c.toNat<248)=True:=by simp;omega
    rw[hd];rcases fin (c.toNat - 192) 128 1 (by omega) (by omega)with⟨f1,f2,f3,f4⟩|⟨f1,f2|⟨f2,f3|⟨f3,f4⟩⟩⟩
    ·rw[f1];simp only[go_sem,simprocAttr,zai,zdo,zi7,h0,h1,h2,wdq,e1,c1,c2,c3,c4,c5,c6,c7,a1,q2,r2,q3,r3,q4,r4,l1,w2,b1.1,b1.2,x1,w3,t1,f2,lt,f3,i1,f4,n2,n3,n4,z7q,z7r,z7s]
    ·rw[f1];simp only[go_sem,simprocAttr,zai,zdo,zi7,h0,h1,h2,wdq,e1,c1,c2,c3,c4,c5,c6,c7,a1,q2,r2,q3,r3,q4,r4,l1,w2,b1.1,b1.2,x1,w3,t1,f2,n1,zjs]
    ·rw[f1];simp only[go_sem,simprocAttr,zai,zdo,zi7,h0,h1,h2,wdq,e1,c1,c2,c3,c4,c5,c6,c7,a1,q2,r2,q3,r3,q4,r4,l1,w2,b1.1,b1.2,x1,w3,t1,f2,lt,f3,n1,zjs]
    ·rw[f1];simp only[go_sem,simprocAttr,zai,zdo,zi7,h0,h1,h2,wdq,e1,c1,c2,c3,c4,c5,c6,c7,a1,q2,r2,q3,r3,q4,r4,l1,w2,b1.1,b1.2,x1,w3,t1,f2,lt,f3,i1,f4,n1,zjs]
   by_cases a3:224<=c.toNat/\c.toNat<240
   ·have l1:zpd .u8 (c.toNat:Int) 15=((c.toNat - 224:Nat):Int):=by rw[<-y22 c a3];exact u8_and c.toNat 15 (by omega) (by omega)
    have w3:IntKind.i32.wrap ((c.toNat - 224:Nat):Int)=((c.toNat - 224:Nat):Int):=wrap32 (by omega);have t1:=run (c.toNat - 224) 2048 2 (by omega) (by omega);have i1:=ync (lib:=lib) (goU t (c.toNat - 224) 2).1;rw[n2]at t1;have hd:decU (c::t)=finU (c.toNat - 224) 2048 2 t:=by
     simp only[decU];rw[if_neg a1,if_neg (by omega),if_pos a3]
    have lt:(((goU t (c.toNat - 224) 2).1:Int)<2048)=¬(2048<=(goU t (c.toNat - 224) 2).1):=by apply propext;omega
    have q2:(192<=c.toNat)=True:=by simp;omega
    have r2:(c.toNat<224)=False:=by simp;omega
    have q3:(224<=c.toNat)=True:=by simp;omega
    have r3:(c.toNat<240)=True:=by simp;omega
    have q4:(240<=c.toNat)=False:=by simp;omega
    have r4:(c.toNat<248)=True:=by simp;omega
    rw[hd];rcases fin (c.toNat - 224) 2048 2 (by omega) (by omega)with⟨f1,f2,f3,f4⟩|⟨f1,f2|⟨f2,f3|⟨f3,f4⟩⟩⟩
    ·rw[f1];simp only[go_sem,simprocAttr,zai,zdo,zi7,h0,h1,h2,wdq,e1,c1,c2,c3,c4,c5,c6,c7,a1,q2,r2,q3,r3,q4,r4,l1,w2,b1.1,b1.2,x1,w3,t1,f2,lt,f3,i1,f4,n2,n3,n4,z7q,z7r,z7s]
    ·rw[f1];simp only[go_sem,simprocAttr,zai,zdo,zi7,h0,h1,h2,wdq,e1,c1,c2,c3,c4,c5,c6,c7,a1,q2,r2,q3,r3,q4,r4,l1,w2,b1.1,b1.2,x1,w3,t1,f2,n1,zjs]
    ·rw[f1];simp only[go_sem,simprocAttr,zai,zdo,zi7,h0,h1,h2,wdq,e1,c1,c2,c3,c4,c5,c6,c7,a1,q2,r2,q3,r3,q4,r4,l1,w2,b1.1,b1.2,x1,w3,t1,f2,lt,f3,n1,zjs]
    ·rw[f1];simp only[go_sem,simprocAttr,zai,zdo,zi7,h0,h1,h2,wdq,e1,c1,c2,c3,c4,c5,c6,c7,a1,q2,r2,q3,r3,q4,r4,l1,w2,b1.1,b1.2,x1,w3,t1,f2,lt,f3,i1,f4,n1,zjs]
   by_cases a4:240<=c.toNat/\c.toNat<248
   ·have l1:zpd .u8 (c.toNat:Int) 7=((c.toNat - 240:Nat):Int):=by rw[<-y23 c a4];exact u8_and c.toNat 7 (by omega) (by omega)
    have w3:IntKind.i32.wrap ((c.toNat - 240:Nat):Int)=((c.toNat - 240:Nat):Int):=wrap32 (by omega);have t1:=run (c.toNat - 240) 65536 3 (by omega) (by omega);have i1:=ync (lib:=lib) (goU t (c.toNat - 240) 3).1;rw[n3]at t1;have hd:decU (c::t)=finU (c.toNat - 240) 65536 3 t:=by
     simp only[decU];rw[if_neg a1,if_neg (by omega),if_neg (by omega),if_pos a4]
    have lt:(((goU t (c.toNat - 240) 3).1:Int)<65536)=¬(65536<=(goU t (c.toNat - 240) 3).1):=by apply propext;omega
    have q2:(192<=c.toNat)=True:=by simp;omega
    have r2:(c.toNat<224)=False:=by simp;omega
    have q3:(224<=c.toNat)=True:=by simp;omega
    have r3:(c.toNat<240)=False:=by simp;omega
    have q4:(240<=c.toNat)=True:=by simp;omega
    have r4:(c.toNat<248)=True:=by simp;omega
    rw[hd];rcases fin (c.toNat - 240) 65536 3 (by omega) (by omega)with⟨f1,f2,f3,f4⟩|⟨f1,f2|⟨f2,f3|⟨f3,f4⟩⟩⟩
    ·rw[f1];simp only[go_sem,simprocAttr,zai,zdo,zi7,h0,h1,h2,wdq,e1,c1,c2,c3,c4,c5,c6,c7,a1,q2,r2,q3,r3,q4,r4,l1,w2,b1.1,b1.2,x1,w3,t1,f2,lt,f3,i1,f4,n2,n3,n4,z7q,z7r,z7s]
    ·rw[f1];simp only[go_sem,simprocAttr,zai,zdo,zi7,h0,h1,h2,wdq,e1,c1,c2,c3,c4,c5,c6,c7,a1,q2,r2,q3,r3,q4,r4,l1,w2,b1.1,b1.2,x1,w3,t1,f2,n1,zjs]
    ·rw[f1];simp only[go_sem,simprocAttr,zai,zdo,zi7,h0,h1,h2,wdq,e1,c1,c2,c3,c4,c5,c6,c7,a1,q2,r2,q3,r3,q4,r4,l1,w2,b1.1,b1.2,x1,w3,t1,f2,lt,f3,n1,zjs]
    ·rw[f1];simp only[go_sem,simprocAttr,zai,zdo,zi7,h0,h1,h2,wdq,e1,c1,c2,c3,c4,c5,c6,c7,a1,q2,r2,q3,r3,q4,r4,l1,w2,b1.1,b1.2,x1,w3,t1,f2,lt,f3,i1,f4,n1,zjs]
   have hd:decU (c::t)=(65533,1):=by
    simp only[decU];rw[if_neg a1,if_neg a2,if_neg a3,if_neg a4]
   rw[hd];have q4:(240<=c.toNat/\c.toNat<248)=False:=by simp;omega
   by_cases z1:192<=c.toNat
   ·have r2:¬c.toNat<224:=by omega
    have q3:224<=c.toNat:=by omega
    have r3:¬c.toNat<240:=by omega
    have q4:240<=c.toNat:=by omega
    have r4:¬c.toNat<248:=by omega
    simp only[go_sem,simprocAttr,zai,zdo,h0,h1,h2,wdq,e1,c1,c2,c3,c4,c5,c6,c7,a1,z1,r2,q3,r3,q4,r4,n1,zjs]
   ·have q3:¬224<=c.toNat:=by omega
    have q4:¬240<=c.toNat:=by omega
    simp only[go_sem,simprocAttr,zai,zdo,h0,h1,h2,wdq,e1,c1,c2,c4,c6,a1,z1,q3,q4,n1,zjs]
 ·have hkl:k=l.length:=by omega
  subst hkl;have h1:((l.length:Int)<=l.length):=by omega
  simp only[go_sem,simprocAttr,zai,h0,h1,wdl,decU,n0]
def zea(n:Nat):List Nat:=
 if n<128 then[n]
 else if n<2048 then[192+n/64,128+n % 64]
 else if n<65536 then[224+n/4096,128+n/64 % 64,128+n % 64]
 else[240+n/262144,128+n/4096 % 64,128+n/64 % 64,128+n % 64]
def za7(n:Nat):Str:=(zea (if isN n then n else 65533)).map UInt8.ofNat
theorem y24(x:Nat)(h:x<64):128|||x=128+x:=by
 have:=zhf (p:=fun n=>decide (n<64->128|||n=128+n)) (by decide+kernel) (UInt8.ofNat x);have h2:(UInt8.ofNat x).toNat=x:=by simp;omega
 rw[h2]at this;exact of_decide_eq_true this h
theorem y25(x:Nat)(h:x<32):192|||x=192+x:=by
 have:=zhf (p:=fun n=>decide (n<32->192|||n=192+n)) (by decide+kernel) (UInt8.ofNat x);have h2:(UInt8.ofNat x).toNat=x:=by simp;omega
 rw[h2]at this;exact of_decide_eq_true this h
theorem y26(x:Nat)(h:x<16):224|||x=224+x:=by
 have:=zhf (p:=fun n=>decide (n<16->224|||n=224+n)) (by decide+kernel) (UInt8.ofNat x);have h2:(UInt8.ofNat x).toNat=x:=by simp;omega
 rw[h2]at this;exact of_decide_eq_true this h
theorem y27(x:Nat)(h:x<8):240|||x=240+x:=by
 have:=zhf (p:=fun n=>decide (n<8->240|||n=240+n)) (by decide+kernel) (UInt8.ofNat x);have h2:(UInt8.ofNat x).toNat=x:=by simp;omega
 rw[h2]at this;exact of_decide_eq_true this h
theorem and63(n:Nat)(h:n<2147483648):zpd .i32 (n:Int) 63=((n % 64:Nat):Int):=by
 have h1:=yug n 63 h (by omega);have h2:=wdt n 6;rw[show(2:Nat)^6 - 1=63 from rfl,show(2:Nat)^6=64 from rfl]at h2;rw[h2]at h1;exact h1
theorem shr6(n:Nat):(n:Int).fdiv (2^(min 6 32))=((n/64:Nat):Int):=by
 rw[show((2:Int)^(min 6 32))=64 from rfl,Int.fdiv_eq_ediv_of_nonneg _ (by omega)];rfl
theorem or8(x:Nat)(h:x<64):zwb .u8 128 (x:Int)=((128+x:Nat):Int):=by rw[<-y24 x h];exact u8_or 128 x (by omega) (by omega)
theorem sh1:IntKind.u8.wrap (255* 2^min 6 8)=192:=by decide
theorem sh2:IntKind.u8.wrap (255* 2^min 5 8)=224:=by decide
theorem sh3:IntKind.u8.wrap (255* 2^min 4 8)=240:=by decide
theorem z19(n:Nat)(hn:n<2147483648):evW code lib 53 [.flat (.int .i32 n)] [] []=some ([.flat (.string (S (za7 n)))],false,[],[]):=by
 refine zab zyi (qa rfl) ?_;have i1:=ync (lib:=lib) n;cases hi:isN n with
 |true=>
  rw[hi]at i1;have hle:n<=1114111:=by simp only[isN,wb1,decide_eq_true_eq]at hi;exact hi.1
  have c1:((65536:Int)<=n)=(65536<=n):=by apply propext;omega
  have c2:((2048:Int)<=n)=(2048<=n):=by apply propext;omega
  have c3:((128:Int)<=n)=(128<=n):=by apply propext;omega
  have a0:=and63 n hn;have a1:=and63 (n/64) (by omega);have a2:=and63 (n/64/64) (by omega);have s0:=shr6 n;have s1:=shr6 (n/64);have s2:=shr6 (n/64/64);have o0:=or8 (n % 64) (by omega);have o1:=or8 (n/64 % 64) (by omega);have o2:=or8 (n/64/64 % 64) (by omega);have v0:IntKind.u8.wrap ((n % 64:Nat):Int)=((n % 64:Nat):Int):=zsl (by omega);have v1:IntKind.u8.wrap ((n/64 % 64:Nat):Int)=((n/64 % 64:Nat):Int):=zsl (by omega);have v2:IntKind.u8.wrap ((n/64/64 % 64:Nat):Int)=((n/64/64 % 64:Nat):Int):=zsl (by omega);simp only[za7,hi,if_true];by_cases h3:65536<=n
  ·have h2:2048<=n:=by omega
   have h1:128<=n:=by omega
   have l1:IntKind.u8.wrap ((n/64/64/64:Nat):Int)=((n/64/64/64:Nat):Int):=zsl (by omega);have l2:zwb .u8 240 ((n/64/64/64:Nat):Int)=((240+n/64/64/64:Nat):Int):=by rw[<-y27 _ (by omega)];exact u8_or 240 _ (by omega) (by omega)
   have hb:zea n=[240+n/64/64/64,128+n/64/64 % 64,128+n/64 % 64,128+n % 64]:=by
    unfold zea;rw[if_neg (by omega),if_neg (by omega),if_neg (by omega)];simp only[Nat.div_div_eq_div_mul]
   rw[hb];simp(disch:=omega) only[go_sem,simprocAttr,i1,c1,c2,c3,h3,h2,h1,ym7,z7q,z7r,z7s,ygt,zdr,zbv,zhd,zbz,zb9,a0,a1,a2,s0,s1,s2,o0,o1,o2,v0,v1,v2,l1,l2,sh1,sh2,sh3,IntKind.bits,zd9,zey,mk_S,wax,wc7]
  ·by_cases h2:2048<=n
   ·have h1:128<=n:=by omega
    have l1:IntKind.u8.wrap ((n/64/64:Nat):Int)=((n/64/64:Nat):Int):=zsl (by omega);have l2:zwb .u8 224 ((n/64/64:Nat):Int)=((224+n/64/64:Nat):Int):=by rw[<-y26 _ (by omega)];exact u8_or 224 _ (by omega) (by omega)
    have hb:zea n=[224+n/64/64,128+n/64 % 64,128+n % 64]:=by
     unfold zea;rw[if_neg (by omega),if_neg (by omega),if_pos (by omega)];simp only[Nat.div_div_eq_div_mul]
    rw[hb];simp(disch:=omega) only[go_sem,simprocAttr,i1,c1,c2,c3,h3,h2,h1,ym7,z7q,z7r,z7s,yuf,ygt,zdr,zbv,zhd,zbz,zb9,a0,a1,s0,s1,o0,o1,v0,v1,l1,l2,sh1,sh2,sh3,IntKind.bits,zd9,zey,mk_S,wax,wc7]
   ·by_cases h1:128<=n
    ·have l1:IntKind.u8.wrap ((n/64:Nat):Int)=((n/64:Nat):Int):=zsl (by omega)
     have l2:zwb .u8 192 ((n/64:Nat):Int)=((192+n/64:Nat):Int):=by rw[<-y25 _ (by omega)];exact u8_or 192 _ (by omega) (by omega)
     have hb:zea n=[192+n/64,128+n % 64]:=by
      unfold zea;rw[if_neg (by omega),if_pos (by omega)]
     rw[hb];simp(disch:=omega) only[go_sem,simprocAttr,i1,c1,c2,c3,h3,h2,h1,ym7,z7q,z7r,z7s,yuf,y20,ygt,zdr,zbv,zhd,zbz,zb9,a0,s0,o0,v0,l1,l2,sh1,sh2,sh3,IntKind.bits,zd9,zey,mk_S,wax,wc7]
    ·have l1:IntKind.u8.wrap (n:Int)=(n:Int):=zsl (by omega)
     have hb:zea n=[n]:=by unfold zea;rw[if_pos (by omega)]
     rw[hb];simp(disch:=omega) only[go_sem,simprocAttr,i1,c1,c2,c3,h3,h2,h1,ygt,l1,zd9,zey,mk_S,wax,wc7]
 |false=>
  rw[hi]at i1;have hb:za7 n=[239,191,189]:=by unfold za7;rw[hi];simp only[wbf,if_false];decide
  rw[hb];have a0:=and63 65533 (by omega);have a1:=and63 (65533/64) (by omega);have s0:=shr6 65533;have s1:=shr6 (65533/64);have o0:=or8 (65533 % 64) (by omega);have o1:=or8 (65533/64 % 64) (by omega);have v0:IntKind.u8.wrap 61=61:=by decide
  have v1:IntKind.u8.wrap 63=63:=by decide
  have v2:IntKind.u8.wrap 15=15:=by decide
  have l2:zwb .u8 224 15=239:=by decide
  simp only[wde,Nat.reduceDiv,Nat.reduceMod,Nat.reduceAdd]at a0 a1 s0 s1 o0 o1;have d1:bytesOf [.flat (.int .u8 239),.flat (.int .u8 191),.flat (.int .u8 189)]=some [239,191,189]:=by decide
  simp only[go_sem,simprocAttr,i1,ym7,z7q,z7r,z7s,yuf,ygt,zdr,zbv,zhd,zbz,zb9,a0,a1,s0,s1,o0,o1,v0,v1,v2,l2,sh1,sh2,sh3,IntKind.bits,d1,mk_S]
theorem zk1(c:UInt8)(l:Str):1<=(decU (c::l)).2/\(decU (c::l)).2<=4:=by
 have hf:∀r least many,many<=3->1<=(finU r least many l).2/\(finU r least many l).2<=4:=fun r least many h=>by
  unfold finU;split<;>simp;omega
 simp only[decU];split
 ·simp
 ·split
  ·exact hf _ _ _ (by omega)
  ·split
   ·exact hf _ _ _ (by omega)
   ·split
    ·exact hf _ _ _ (by omega)
    ·simp
def zxa:Nat->Str->List (Nat×Nat)
 |0,_=>[]
 |_+1,[]=>[]
 |n+1,c::l=>decU (c::l)::zxa n ((c::l).drop (decU (c::l)).2)
def zds(l:Str):List (Nat×Nat):=zxa l.length l
theorem yg0:∀(n:Nat)(l:Str),l.length<=n->zxa n l=zds l:=by
 have key:∀(n m:Nat)(l:Str),l.length<=n->l.length<=m->zxa n l=zxa m l:=by
  intro n
  induction n with
  |zero=>intro m l h1 h2;have:l=[]:=qz (by omega);subst this;cases m<;>rfl
  |succ n ih=>
   intro m l h1 h2;cases l with
   |nil=>cases m<;>rfl
   |cons c l=>
    cases m with
    |zero=>simp at h2
    |succ m=>
     have:=zk1 c l;simp only[zxa];rw[ih m _ (by rw[wbc];simp at h1⊢;omega) (by rw[wbc];simp at h2⊢;omega)]
 exact fun n l h=>key n _ l h (wab _)
theorem zsx:zds []=[]:=rfl
theorem zi9(c:UInt8)(l:Str):zds (c::l)=decU (c::l)::zds ((c::l).drop (decU (c::l)).2):=by
 have:=zk1 c l;rw[zds,waf,zxa,yg0];rw[wbc];simp;omega
theorem z42:∀(l:Str),(decU l).2<=l.length:=by
 have hg:∀(l:Str)(r m:Nat),(goU l r m).2=true->m<=l.length:=fun l r m h=>by
  rcases wcn l.length m with h1|h1
  ·rw[zw9 l r m h1]at h;cases h
  ·exact h1
 intro l;cases l with
 |nil=>simp[decU]
 |cons c l=>
  have hf:∀r least many,(finU r least many l).2<=(c::l).length:=fun r least many=>by
   unfold finU;split
   ·rename_i h;have:=hg l r many h.1;simp;omega
   ·simp
  simp only[decU];split
  ·simp
  ·split
   ·exact hf _ _ _
   ·split
    ·exact hf _ _ _
    ·split
     ·exact hf _ _ _
     ·simp
theorem zva:∀(l:Str),(decU l).1<8388608:=by
 intro l;cases l with
 |nil=>simp[decU]
 |cons c l=>
  have hc:=c.toNat_lt;have hf:∀r least many,r<32->many<=3->(finU r least many l).1<8388608:=fun r least many h1 h2=>by
   unfold finU;split
   ·exact yuk l r many h1 h2
   ·simp
  simp only[decU];split
  ·simp;omega
  ·split
   ·exact hf _ _ _ (by omega) (by omega)
   ·split
    ·exact hf _ _ _ (by omega) (by omega)
    ·split
     ·exact hf _ _ _ (by omega) (by omega)
     ·simp
theorem z7u{α:Type}(l:Str)(hs:Sm l)(BX:α->zae)(oc:α->List (Nat×Nat))(step:α->Nat×Nat->α×Bool)(I:α->Nat->Prop)(b p nb:Nat)(hbox:∀a k,I a k->(BX a)[p]?=some (9,[.flat (.string (S l))]))(hlen:∀a,(BX a).length=nb)(hoc:∀a,∀q∈oc a,q.1<nb)
 (hI:∀a k q,I a k->k<l.length->decU (l.drop k)=q->1<=q.2->k+q.2<=l.length->(step a q).2=true->I (step a q).1 (k+q.2))
 (hy:∀a k q,I a k->k<l.length->decU (l.drop k)=q->k+q.2<=l.length->q.1<8388608->q.2<=4->evW code lib yldF [.yld b,.flat (.int .i32 (q.1:Nat)),.flat (.int .i64 (q.2:Nat))] (BX a) (cl (oc a))=some ([.flat (.bool (step a q).2)],false,BX (step a q).1,cl (oc (step a q).1))) (a:α) (ha:I a 0):
 evW code lib 102 [.yld b,.ptr p 0] (BX a) (cl (oc a))=some ([],false,BX (zg7 step a (zds l)).1,cl (oc (zg7 step a (zds l)).1)):=by
 refine zab zyh (qa rfl) ?_
 have hloop:=zfd (body:=evC (evW code lib) big zlq) (live:=[0,1,3]) (nb:=nb) (fun q:α×Nat=>(⟨[(0,.yld b),(1,.ptr p 0),(3,.flat (.int .i64 (q.2:Nat)))],cl (oc q.1),[],BX q.1⟩:St)) (fun q=>I q.1 q.2/\q.2<=l.length) (fun q=>l.length - q.2)
  (fun q=>(if(zg7 step q.1 (zds (l.drop q.2))).2 then .exit 0 else .ret,⟨[],cl (oc (zg7 step q.1 (zds (l.drop q.2))).1),[],BX (zg7 step q.1 (zds (l.drop q.2))).1⟩)) (fun⟨a,k⟩ ⟨ha,hk⟩=>?_) (n:=big) (a:=(a,0)) ⟨ha,wa7 _⟩ (by unfold Sm at hs;unfold big;dsimp only;omega)
 ·have h1:=hlen a
  have h2:=hlen (zg7 step a (zds l)).1;have hi0:((0:Nat):Int)=0:=rfl;simp only[wc8,hi0]at hloop;by_cases hf:(zg7 step a (zds l)).2=true
  ·simp only[hf,if_true]at hloop
   simp only[go_sem,simprocAttr,zal,zak,zaf,zap,zat h1,h1,zah _ (hoc _),hloop,h2,zat h2]
  ·simp only[hf,wbf,if_false]at hloop
   simp only[go_sem,simprocAttr,zal,zak,zaf,zap,zat h1,h1,zah _ (hoc _),hloop,h2,zat h2]
 ·unfold Sm at hs
  dsimp only at ha hk⊢;have hb:=hbox a k ha;have h1:=hlen a;have h0:(0:Int)<=k:=by omega
  have e1:=ygz (lib:=lib) l hs k hk;by_cases hlt:k<l.length
  ·obtain⟨c,t,ht⟩:∃c t,l.drop k=c::t:=⟨l[k],l.drop (k+1),wcm hlt⟩
   have hc:((k:Int)<l.length):=by omega
   have hsz:=zk1 c t;have hft:=z42 (l.drop k);rw[wbc]at hft;have hnum:(decU (l.drop k)).1<8388608:=zva _;have hr:zds (l.drop k)=decU (l.drop k)::zds (l.drop (k+(decU (l.drop k)).2)):=by
    rw[<-wbd,ht,zi9]
   rw[<-ht]at hsz;have hyy:=hy a k (decU (l.drop k)) ha hlt rfl (by omega) hnum hsz.2;obtain⟨q,hq⟩:∃q,decU (l.drop k)=q:=⟨_,rfl⟩;rw[hq]at e1 hyy hr hft hsz;rw[hr];have h2:=hlen (step a q).1;have w1:IntKind.i64.wrap ((k:Int)+(q.2:Nat))=((k+q.2:Nat):Int):=wrap64 (by omega);simp only[zg7];by_cases hst:(step a q).2=true
   ·right
    rw[hst]at hyy;refine⟨⟨[(0,.yld b),(1,.ptr p 0),(3,.flat (.int .i64 ((k+q.2:Nat):Int)))],cl (oc (step a q).1),[],BX (step a q).1⟩,((step a q).1,k+q.2),?_,?_,⟨hI a k q ha hlt hq hsz.1 (by omega) hst,by dsimp only;omega⟩,by dsimp only;omega,?_⟩
    ·simp only[zj3,go_sem,simprocAttr,zal,zak,zaf,zap,zaj,hb,zai,hc,e1,hyy,w1,zat h1,h1,h2,zag]
    ·simp only[go_sem,simprocAttr,zal,zak,zat h2,h2,zah _ (hoc _)]
    ·simp only[hst,if_true]
   ·left
    have hst:(step a q).2=false:=by simpa using hst
    rw[hst]at hyy;refine⟨.ret,⟨[],cl (oc (step a q).1),[],BX (step a q).1⟩,?_,by simp,?_⟩
    ·simp only[zj3,go_sem,simprocAttr,zal,zak,zaf,zap,zaj,hb,zai,hc,e1,hyy,zat h1,h1,h2,zag]
    ·simp only[hst,wbf,if_false]
  ·left
   have hkl:k=l.length:=by omega
   subst hkl;have hc:¬((l.length:Int)<l.length):=by omega
   refine⟨.exit 0,⟨[],cl (oc a),[],BX a⟩,?_,by simp,?_⟩
   ·simp only[zj3,go_sem,simprocAttr,zal,zak,zaf,zap,zaj,hb,zai,hc,zat h1,h1]
   ·simp only[wdl,zsx,zg7,if_true]
theorem yg1(l:Str)(bx:zae)(oc:List (Nat×Nat))(h:∀q∈oc,q.1<bx.length):evW code lib 52 [.flat (.string (S l))] bx (cl oc)=some ([.clo 102 [.ptr bx.length 0]],false,bx++[(9,[.flat (.string (S l))])],cl oc):=by
 refine zab z4y (qa rfl) ?_;have h2:∀q∈oc,q.1<(bx++[(9,[PV.flat (.string (S l))])]).length:=fun q hq=>by have:=h q hq;simp;omega
 have h3:¬(bx.length+1=bx.length):=by omega
 have h4:zbm (bx.length+1) (cl oc)=cl oc:=zah _ fun q hq=>by have:=h q hq;omega
 simp only[go_sem,simprocAttr,zal,zak,zaf,zap,wb0,h3,Nat.lt_irrefl,h4]
theorem z7v(l:Str)(bx:zae):evW code lib 52 [.flat (.string (S l))] bx []=some ([.clo 102 [.ptr bx.length 0]],false,bx++[(9,[.flat (.string (S l))])],[]):=yg1 l bx [] (by simp)
def badQ(q:Nat×Nat):Bool:=decide (q.1=65533/\q.2=1)
def isU(l:Str):Bool:=(zds l).all fun q=>!badQ q
def z2a(a:Bool)(q:Nat×Nat):Bool×Bool:=if badQ q then(true,false)else(a,true)
def bxI(l:Str)(a:Bool):zae:=[(4,[.flat (.bool false)]),(9,[.flat (.string (S l))]),(0,[.lp 106 0 (if a then .done .ret else .ready) [2] [.ptr 0 0]])]
theorem y28(L:List (Nat×Nat)):zg7 z2a false L=(!(L.all fun q=>!badQ q),L.all fun q=>!badQ q):=by
 induction L with
 |nil=>rfl
 |cons q L ih=>
  simp only[zg7,z2a,wcg];by_cases h:badQ q=true
  ·simp[h]
  ·simp only[h,wbf,if_false,if_true]
   rw[ih];simp
theorem yg2(l:Str)(q:Nat×Nat)(h1:q.1<8388608)(h2:q.2<=4):evW code lib yldF [.yld 2,.flat (.int .i32 (q.1:Nat)),.flat (.int .i64 (q.2:Nat))] (bxI l false) []=some ([.flat (.bool (z2a false q).2)],false,bxI l (z2a false q).1,[]):=by
 refine zks zol zwy rfl rfl rfl ?_;by_cases c1:q.1=65533
 ·have c1':((q.1:Nat):Int)=65533:=by omega
  by_cases c2:q.2=1
  ·have c2':((q.2:Nat):Int)=1:=by omega
   have hb:badQ q=true:=by simp[badQ,c1,c2]
   simp only[zoj,zok,bxI,z2a,hb,c1',c2',go_sem,simprocAttr]
  ·have c2':¬((q.2:Nat):Int)=1:=by omega
   have hb:badQ q=false:=by simp[badQ,c2]
   simp only[zoj,zok,bxI,z2a,hb,c1',c2',go_sem,simprocAttr]
 ·have c1':¬((q.1:Nat):Int)=65533:=by omega
  have hb:badQ q=false:=by simp[badQ,c1]
  simp only[zoj,zok,bxI,z2a,hb,c1',go_sem,simprocAttr]
theorem yp3(l:Str)(hs:Sm l):evW code lib 106 [.flat (.string (S l))] [] []=some ([.flat (.bool (isU l))],false,[],[]):=by
 refine zab zwy (qa rfl) ?_;have hrun:=z7u (lib:=lib) l hs (bxI l) (fun _=>[]) z2a (fun a _=>a=false) 2 1 3 (fun a _ _=>rfl) (fun a=>rfl) (fun a q hq=>by cases hq) (fun a k q ha _ _ _ _ hst=>by
  subst ha;unfold z2a at hst⊢;split<;>simp_all) (fun a k q ha _ _ _ h1 h2=>by subst ha;exact yg2 l q h1 h2) false rfl
 rw[y28]at hrun;simp only[zzx]at hrun;have e0:=fun bx=>z7v (lib:=lib) l bx
 cases hi:isU l with
 |true=>
  have hi':((zds l).all fun q=>!badQ q)=true:=hi;simp only[hi',bxI,wbe,wbf,if_false]at hrun;simp only[go_sem,simprocAttr,e0,hrun]
 |false=>
  have hi':((zds l).all fun q=>!badQ q)=false:=hi;simp only[hi',bxI,wbj,wbf,if_false,if_true]at hrun;simp only[go_sem,simprocAttr,e0,hrun]
def zez(l:List Nat):List PV:=l.map fun r=>.flat (.int .i32 (r:Nat))
theorem zsy{l:List Nat}:(zez l).length=l.length:=by simp[zez]
theorem ycr{a b:List Nat}:zez a++zez b=zez (a++b):=by simp[zez]
theorem zxb:∀a:List Nat,noU8 (zez a)=true
 |[]=>rfl
 |c::a=>by show noU8 (.flat (.int .i32 (c:Nat))::zez a)=true;rw[zm1,zxb a];rfl
theorem zsz{n:Nat}:∀a:List Nat,lows n (zez a)=true
 |[]=>rfl
 |c::a=>by show lows n (.flat (.int .i32 (c:Nat))::zez a)=true;simp only[lows,PV.low,zsz a,wbh]
def bxR(l:Str)(out:List Nat):zae:=[(181,[.slc out.length (zez out)]),(9,[.flat (.string (S l))]),(0,[.lp 149 0 .ready [3] [.ptr 0 0]])]
def ynd(out:List Nat)(q:Nat×Nat):List Nat×Bool:=(out++[q.1],true)
theorem y0j:∀(L:List (Nat×Nat))(out:List Nat),zg7 ynd out L=(out++L.map (·.1),true)
 |[],out=>by simp[zg7]
 |q::L,out=>by simp only[zg7,ynd,if_true];rw[y0j L];simp
theorem z7w(l:Str)(out:List Nat)(q:Nat×Nat)(ho:out.length<4294967296):evW code lib yldF [.yld 2,.flat (.int .i32 (q.1:Nat)),.flat (.int .i64 (q.2:Nat))] (bxR l out) [.cell 0 0]=some ([.flat (.bool true)],false,bxR l (out++[q.1]),[.cell 0 0]):=by
 refine zks zol zpo rfl rfl rfl ?_;have hb:out.length+1<=bound:=by unfold bound;omega
 have h1:[PV.flat (.int .i32 (q.1:Nat))]=zez [q.1]:=rfl;simp only[zq9,zra,bxR,go_sem,simprocAttr,zsy,zxb,hb,Nat.mul_one];simp only[h1,ycr,wb0,waf,wdb]
def zl6(l:Str):List Nat:=(zds l).map (·.1)
theorem yne(l:Str)(hs:l.length<4294967296):evW code lib 149 [.flat (.string (S l))] [] []=some ([.slc (zl6 l).length (zez (zl6 l))],false,[],[]):=by
 refine zab zpo (qa rfl) ?_;have hrun:=z7u (lib:=lib) l (by unfold Sm;omega) (bxR l) (fun _=>[(0,0)]) ynd (fun out k=>out.length<=k) 2 1 3 (fun a _ _=>rfl) (fun a=>rfl) (fun a q hq=>by simp at hq;subst hq;decide) (fun a k q ha _ _ h1 _ _=>by simp only[ynd,wb0,waf,wdb];omega) (fun a k q ha h0 _ h1 _ _=>z7w l a q (by omega)) [] (wa7 _);rw[y0j]at hrun;have hc:cl [(0,0)]=[.cell 0 0]:=rfl;simp only[hc,wa5]at hrun;have e0:=fun bx h=>yg1 (lib:=lib) l bx [(0,0)] h
 simp only[hc]at e0;have hrun2:evW code lib 102 [.yld 2,.ptr 1 0] [(181,[.slc 0 []]),(9,[.flat (.string (S l))]),(0,[.lp 149 0 .ready [3] [.ptr 0 0]])] [.cell 0 0]=some ([],false,bxR l (zl6 l),[.cell 0 0]):=hrun;have e1:=e0 [(181,[.slc 0 []])] (by simp);simp only[go_sem,simprocAttr]at e1;have e2:=z7v (lib:=lib) l [];simp only[go_sem,simprocAttr]at e2;simp only[go_sem,simprocAttr,e1,e2,hrun2,bxR,zsz]
end Nun
