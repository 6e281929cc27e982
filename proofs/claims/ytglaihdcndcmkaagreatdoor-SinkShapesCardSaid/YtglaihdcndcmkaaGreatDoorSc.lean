/- Texts of this proof, merged. -/
import Derived.Test.YtglaihdcndcmkaaGreatDoorSb
import Derived.Test.YtglaihdcndcmkaaGreatDoorProg
import Derived.KernelRfl
set_option linter.all false
open Go ya
set_option maxHeartbeats 4000000
namespace ya
section
variable {cf:Callee} {n:Nat} {st:St} {sl:List (Nat × PV)} {ow:List Loc} {al:List (Nat × Loc)} {bx:Oa} {d:Nat} {live:List Nat}
theorem look_nil{i}:look [] i=.Hd:=rfl
theorem l9{j i}{v}:look ((j,v)::sl) i=if j=i then v else look sl i:=rfl
def Nn(sl:List (Nat×PV)):List Nat->List (Nat×PV)
 |[]=>[]
 |i::r=>(i,look sl i)::Nn sl r
theorem j9:Nn sl []=[]:=rfl
theorem HR{i}{r}:Nn sl (i::r)=(i,look sl i)::Nn sl r:=rfl
theorem IR:∀l,Nn sl l=l.map fun i=>(i,look sl i)
 |[]=>rfl
 |i::r=>by rw[HR,IR r];rfl
def owns:List Loc->Loc->Bool
 |[],_=>false
 | .slot i::r,.slot j=>if i=j then true else owns r (.slot j)
 | .cell b o::r,.cell a c=>if b=a/\o=c then true else owns r (.cell a c)
 |_::r,L=>owns r L
theorem vj:∀{l}{L},owns l L=true ↔ L∈l
 |[],L=>by simp[owns]
 | .slot i::r,.slot j=>by
   simp only[owns,wb,Loc.slot.injEq];by_cases h:i=j
   ·simp[h]
   ·simp only[h,if_false];rw[vj];grind
 | .cell b o::r,.cell a c=>by
   simp only[owns,wb,Loc.cell.injEq];by_cases h:b=a/\o=c
   ·simp[h]
   ·rw[if_neg h,vj]
    grind
 | .slot i::r,.cell b o=>by simp only[owns,wb,reduceCtorEq,false_or];exact vj
 | .cell b o::r,.slot i=>by simp only[owns,wb,reduceCtorEq,false_or];exact vj
theorem zan{L}:owns [] L=false:=ra
theorem zap{i j}{r}:owns (.slot i::r) (.slot j)=if i=j then true else owns r (.slot j):=rfl
theorem eT{b o a c}{r}:owns (.cell b o::r) (.cell a c)=if b=a/\o=c then true else owns r (.cell a c):=rfl
theorem zao{i b o}{r}:owns (.slot i::r) (.cell b o)=owns r (.cell b o):=rfl
theorem fT{i b o}{r}:owns (.cell b o::r) (.slot i)=owns r (.slot i):=rfl
theorem N1:Va d []=[]:=rfl
theorem O1{i}{r}:Va d (.slot i::r)=if i=d then Va d r else .slot i::Va d r:=by
 grind [Va,Vd]
theorem OO{b o}{r}:Va d (.cell b o::r)=.cell b o::Va d r:=ra
theorem y1:Jb d []=[]:=rfl
theorem z1{t i}{r}:Jb d ((t,.slot i)::r)=if t=d then Jb d r else if i=d then Jb d r else(t,.slot i)::Jb d r:=by
 grind [Jb,Vd]
theorem x1{t b o}{r}:Jb d ((t,.cell b o)::r)=if t=d then Jb d r else(t,.cell b o)::Jb d r:=by
 grind [Jb,Vd]
def Hs(ow:List Loc):List Nat->List Loc
 |[]=>[]
 |i::r=>if owns ow (.slot i)then .slot i::Hs ow r else Hs ow r
def g8{i}{r}:Hs ow (i::r)=if owns ow (.slot i)then .slot i::Hs ow r else Hs ow r:=rfl
theorem o5:Dc .Hd=false:=rfl
theorem k5{m}{cs}:Dc (.ia m cs)=false:=rfl
theorem V4{cs}:Dc (.agg cs)=false:=rfl
theorem n5{cs}:Dc (.Jc cs)=false:=rfl
theorem j5{b o}:Dc (.ptr b o)=false:=rfl
theorem Z4{cs}:Dc (.vd cs)=false:=rfl
theorem Y4{f}{cs}:Dc (.ib f cs)=false:=rfl
theorem m5{f}{cs}:Dc (.tag f cs)=false:=rfl
theorem p5{b}:Dc (.Sa b)=false:=rfl
theorem X4{b o m}:Dc (.ve b o m)=false:=rfl
theorem d5{f k}{s}{cs}:Dc (.lp f k s live cs)=false:=rfl
theorem b5{k}{m}:Dc (.flat (.int k m))=false:=rfl
theorem l5{z}:Dc (.flat (.string z))=false:=rfl
theorem W4{b}:Dc (.flat (.bool b))=false:=rfl
theorem i5{a}:Dc (.flat (.pointer a))=false:=rfl
theorem f5:Dc (.flat .nilFunc)=false:=rfl
theorem g5:Dc (.flat .nilIface)=false:=rfl
theorem h5:Dc (.flat (.slice none 0 0))=true:=rfl
theorem zf4:wk .Hd=.Hd:=rfl
theorem zf0{m}{cs}:wk (.ia m cs)=.ia m cs:=rfl
theorem zfO{cs}:wk (.agg cs)=.agg cs:=rfl
theorem zf3{cs}:wk (.Jc cs)=.Jc cs:=rfl
theorem zfZ{b o}:wk (.ptr b o)=.ptr b o:=rfl
theorem zfS{cs}:wk (.vd cs)=.vd cs:=rfl
theorem zfR{f}{cs}:wk (.ib f cs)=.ib f cs:=rfl
theorem zf2{f}{cs}:wk (.tag f cs)=.tag f cs:=rfl
theorem zf5{b}:wk (.Sa b)=.Sa b:=rfl
theorem zfQ{b o m}:wk (.ve b o m)=.ve b o m:=rfl
theorem zfU{f k}{s}{cs}:wk (.lp f k s live cs)=.lp f k s live cs:=rfl
theorem zfT{k}{m}:wk (.flat (.int k m))=.flat (.int k m):=rfl
theorem zf1{z}:wk (.flat (.string z))=.flat (.string z):=rfl
theorem zfP{b}:wk (.flat (.bool b))=.flat (.bool b):=rfl
theorem zfY{a}:wk (.flat (.pointer a))=.flat (.pointer a):=rfl
theorem zfV:wk (.flat .nilFunc)=.flat .nilFunc:=rfl
theorem zfW:wk (.flat .nilIface)=.flat .nilIface:=rfl
theorem zfX:wk (.flat (.slice none 0 0))=.ia 0 []:=rfl
theorem zfK:PV.jb .Hd=.Hd:=rfl
theorem zfF{v}:PV.jb (.flat v)=wk (.flat v):=rfl
theorem zfH{m}{cs}:PV.jb (.ia m cs)=.ia m cs:=rfl
theorem zfB{cs}:PV.jb (.agg cs)=.agg (zd cs):=rfl
theorem zfJ{cs}:PV.jb (.Jc cs)=.Jc cs:=rfl
theorem zfG{b o}:PV.jb (.ptr b o)=.ptr b o:=rfl
theorem zfE{cs}:PV.jb (.vd cs)=.vd cs:=rfl
theorem zfD{f}{cs}:PV.jb (.ib f cs)=.ib f cs:=rfl
theorem zfI{f}{cs}:PV.jb (.tag f cs)=.tag f cs:=rfl
theorem zfL{b}:PV.jb (.Sa b)=.Sa b:=rfl
theorem zfC{b o m}:PV.jb (.ve b o m)=.ve b o m:=rfl
theorem zfN:zd []=[]:=rfl
theorem zfM{p}{r}:zd (p::r)=wk p::zd r:=rfl
theorem b_{b o}:Zc b o []=[]:=rfl
theorem a_{b o}{p}{r}:Zc b o (p::r)=if Dc p then .cell b o::Zc b (o+1) r else Zc b (o+1) r:=rfl
theorem d_:Ll []=true:=rfl
theorem c_{p}{r}:Ll (p::r)=(!Dc p&&Ll r):=rfl
theorem C5{m}{cs}:dh (.ia m cs)=false:=rfl
theorem q5{cs}:dh (.agg cs)=false:=rfl
theorem B5{b o}:dh (.ptr b o)=false:=rfl
theorem w5{cs}:dh (.vd cs)=false:=rfl
theorem u5{f}{cs}:dh (.ib f cs)=false:=rfl
theorem E5{f}{cs}:dh (.tag f cs)=false:=rfl
theorem D5{z}:dh (.flat (.string z))=false:=rfl
theorem s5{b}:dh (.flat (.bool b))=false:=rfl
theorem A5{a}:dh (.flat (.pointer a))=false:=rfl
theorem I5{m}:dh (.flat (.int .u8 m))=true:=rfl
theorem x5{m}:dh (.flat (.int .i32 m))=false:=rfl
theorem y5{m}:dh (.flat (.int .i64 m))=false:=rfl
theorem G5{m}:dh (.flat (.int .u32 m))=false:=rfl
theorem F5{m}:dh (.flat (.int .u16 m))=false:=rfl
theorem H5{m}:dh (.flat (.int .u64 m))=false:=rfl
theorem f_:sd []=true:=rfl
theorem zv{p}{r}:sd (p::r)=(!dh p&&sd r):=rfl
theorem e_{cs a}:sd (cs++a)=(sd cs&&sd a):=by
 induction cs with
 |nil=>rfl
 |cons p r b=>grind [zv]
theorem xW:ng []=true:=rfl
theorem qx{p}{r}:ng (p::r)=(dh p&&ng r):=rfl
theorem vW{cs a}:ng (cs++a)=(ng cs&&ng a):=by
 induction cs with
 |nil=>rfl
 |cons p r b=>grind [qx]
theorem wW{z}:ng (ci z)=true:=by
 unfold ci
 induction z.data.toList with
 |nil=>rfl
 |cons c l a=>rw[gc,qx,a];rfl
theorem zfk{m}{cs a}:Xl true m cs a=ng cs:=rfl
theorem zfj{m}{cs a}:Xl false m cs a=if m=1 then sd cs&&sd a else true:=by
 grind [Xl]
def lookW(sl:List (Nat×PV)):List Nat->List (Nat×PV)
 |[]=>[]
 |i::r=>(i,wk (look sl i))::lookW sl r
theorem k9:lookW sl []=[]:=rfl
theorem JR{i}{r}:lookW sl (i::r)=(i,wk (look sl i))::lookW sl r:=rfl
theorem wz:∀l,lookW sl l=l.map fun i=>(i,look (sl.map fun q=>(q.1,wk q.2)) i)
 |[]=>rfl
 |i::r=>by rw[JR,wz r,gc,rv]
def Gl(sl:List (Nat×PV))(ow:List Loc):List Nat->List Loc
 |[]=>[]
 |i::r=>if Dc (look sl i)then .slot i::Gl sl ow r else if owns ow (.slot i)then .slot i::Gl sl ow r else Gl sl ow r
theorem h8:Gl sl ow []=[]:=rfl
theorem lR{i}{r}:Gl sl ow (i::r)=if Dc (look sl i)then .slot i::Gl sl ow r else if owns ow (.slot i)then .slot i::Gl sl ow r else Gl sl ow r:=rfl
theorem BG(L:List Nat):∀l,(∀i∈l,i∈L)->Gl sl ow l=(l.filter fun i=>decide (.slot i∈(L.filter fun i=>Dc (look sl i)).map .slot++ow)).map .slot
 |[],_=>rfl
 |i::r,h=>by
  rw[lR,BG L r (fun j a=>h j (by simp[a])),List.filter_cons]
  grind [vj]
def og:List Loc->List Loc
 |[]=>[]
 | .slot _::r=>og r
 | .cell b o::r=>.cell b o::og r
theorem eY:og []=[]:=rfl
theorem Sx{i}{r}:og (.slot i::r)=og r:=rfl
theorem Rx{b o}{r}:og (.cell b o::r)=.cell b o::og r:=rfl
theorem lu:∀l,l.filter Da=og l
 |[]=>rfl
 | .slot i::r=>by rw[List.filter_cons_of_neg (by simp[Da]),lu r];rfl
 | .cell b o::r=>by rw[List.filter_cons_of_pos rfl,lu r];rfl
def Li:List Loc->List Loc
 |[]=>[]
 | .slot i::r=>.slot i::Li r
 | .cell _ _::r=>Li r
theorem zcS:Li []=[]:=rfl
theorem lI{i}{r}:Li (.slot i::r)=.slot i::Li r:=rfl
theorem yA{b o}{r}:Li (.cell b o::r)=Li r:=rfl
theorem kI:∀l,(l.filter fun L=>!Da L)=Li l
 |[]=>rfl
 | .slot i::r=>by rw[List.filter_cons_of_pos rfl,kI r];rfl
 | .cell b o::r=>by rw[List.filter_cons_of_neg (by simp[Da]),kI r];rfl
theorem jI:∀{l m},Li (l++m)=Li l++Li m
 |[],m=>rfl
 | .slot i::r,m=>by rw[Ha,lI,lI,jI];rfl
 | .cell b o::r,m=>by rw[Ha,yA,yA,jI]
theorem Qx:∀{l m},og (l++m)=og l++og m
 |[],m=>rfl
 | .slot i::r,m=>by rw[Ha,Sx,Sx,Qx]
 | .cell b o::r,m=>by rw[Ha,Rx,Rx,Qx];rfl
def qc(nb:Nat):List Loc->List Loc
 |[]=>[]
 | .slot _::r=>qc nb r
 | .cell b o::r=>if b<nb then .cell b o::qc nb r else qc nb r
theorem zfo{nb}:qc nb []=[]:=rfl
theorem zt{nb i}{r}:qc nb (.slot i::r)=qc nb r:=rfl
theorem ol{nb b o}{r}:qc nb (.cell b o::r)=if b<nb then .cell b o::qc nb r else qc nb r:=rfl
theorem yt{nb}:∀l,dj nb l=qc nb l
 |[]=>rfl
 | .slot i::r=>by rw[zt,<-yt r];rfl
 | .cell b o::r=>by
   rw[ol,<-yt r]
   grind [dj]
theorem zbA{v}:St.put ⟨sl,ow,al,bx⟩ d v=⟨(d,v)::sl,Va d ow,Jb d al,bx⟩:=rfl
theorem zby{v}:St.Ic ⟨sl,ow,al,bx⟩ d v=⟨(d,v)::sl,.slot d::Va d ow,Jb d al,bx⟩:=rfl
theorem zbv{v}:St.Nd st none v=st:=rfl
theorem zbw{v}:St.Nd st (some d) v=st.put d v:=rfl
theorem rN:∀l:List Nat,og (l.map .slot)=[]
 |[]=>rfl
 |i::r=>by rw[gc,Sx,rN r]
theorem i8:St.Ye ⟨sl,ow,al,bx⟩ live=⟨lookW sl live,Gl sl ow live++og ow,[],bx⟩:=by
 unfold St.Ye;simp only[St.Xq,St.ck];rw[wz,BG live live (fun _ h=>h),lu,Qx,rN,Ra];rfl
def rk:List (Nat×PV)->List PV
 |[]=>[]
 |(_,v)::r=>v::rk r
theorem zfu:rk []=[]:=rfl
theorem GV{i}{v}{r}:rk ((i,v)::r)=v::rk r:=rfl
theorem NA:∀l,l.map (·.2)=rk l
 |[]=>rfl
 |(i,v)::r=>by rw[GV,<-NA r];rfl
def tw(nb:Nat)(bx:Oa)(b:Bool):Oa:=if b then bx.take nb else bx
def nf(nb:Nat):Oa->Bool
 |[]=>true
 |q::r=>Ia nb q.2&&nf nb r
theorem iu{nb}:nf nb []=true:=rfl
theorem ym{nb}{q}{r:Oa}:nf nb (q::r)=(Ia nb q.2&&nf nb r):=rfl
theorem jK{nb}:∀l,(l.all fun q=>Ia nb q.2)=nf nb l
 |[]=>rfl
 |q::r=>by rw[zk,jK r];rfl
theorem uV{nb}{vs}:trim nb vs bx=if bx.length=nb then bx else tw nb bx (Ia nb vs&&nf nb (bx.take nb)):=by
 unfold trim tw;rw[jK]
theorem zfa{nb}:tw nb bx true=bx.take nb:=rfl
theorem ze9{nb}:tw nb bx false=bx:=rfl
def oD(st:St)(nb:Nat)(bx':Oa):St:=⟨st.sl,if bx'.length=st.bx.length then st.ow else st.ow.filter (fun| .slot _=>true| .cell b _=>decide (b<bx'.length)),[],bx'⟩
theorem B0{nb}:St.xi ⟨sl,ow,al,bx⟩ nb=if bx.length=nb then⟨sl,ow,[],bx⟩else oD ⟨sl,ow,al,bx⟩ nb (tw nb bx (Ia nb (rk sl)&&nf nb (bx.take nb))):=by
 unfold St.xi;simp only[uV,NA];split
 ·simp
 ·rfl
def Uk(nb:Nat):List Loc->List Loc
 |[]=>[]
 | .slot i::r=>.slot i::Uk nb r
 | .cell b o::r=>if b<nb then .cell b o::Uk nb r else Uk nb r
theorem p9{nb}:Uk nb []=[]:=rfl
theorem QR{nb i}{r}:Uk nb (.slot i::r)=.slot i::Uk nb r:=rfl
theorem OG{nb b o}{r}:Uk nb (.cell b o::r)=if b<nb then .cell b o::Uk nb r else Uk nb r:=rfl
theorem PG{nb}:∀l,(l.filter (fun| .slot _=>true| .cell b _=>decide (b<nb)))=Uk nb l
 |[]=>rfl
 | .slot i::r=>by rw[QR,<-PG r];simp
 | .cell b o::r=>by
   rw[OG,<-PG r]
   grind
theorem C0{nb}{bx'}:oD ⟨sl,ow,al,bx⟩ nb bx'=⟨sl,if bx'.length=bx.length then ow else Uk bx'.length ow,[],bx'⟩:=by
 grind [oD,PG]
theorem II{nb}:∀{l m},qc nb (l++m)=qc nb l++qc nb m
 |[],m=>rfl
 | .slot i::r,m=>by rw[Ha,zt,zt,II]
 | .cell b o::r,m=>by
   rw[Ha,ol,ol,II]
   grind
theorem AV{nb}:∀l:List Nat,qc nb (l.map .slot)=[]
 |[]=>rfl
 |i::r=>by rw[gc,zt,AV r]
theorem L_{nb}:St.only ⟨sl,ow,al,bx⟩ live nb=⟨lookW sl live,Gl sl ow live++qc (trim nb (rk (lookW sl live)) bx).length ow,[],trim nb (rk (lookW sl live)) bx⟩:=by
 have a:live.map (look (sl.map fun q=>(q.1,wk q.2)))=rk (lookW sl live):=by
  rw[<-NA,wz,List.map_map];rfl
 have c:∀(m:Nat)(l:List Loc),(l.filter (fun| .slot _=>false| .cell b _=>decide (b<m)))=qc m l:=fun m l=>by rw[<-yt];rfl
 show(⟨live.map fun i=>(i,look (sl.map fun q:Nat×PV=>(q.1,wk q.2)) i),(live.filter fun i=>decide (Loc.slot i∈(live.filter fun i=>Dc (look sl i)).map Loc.slot++ow)).map Loc.slot++(((live.filter fun i=>Dc (look sl i)).map Loc.slot++ow).filter (fun| .slot _=>false| .cell b _=>decide (b<(trim nb (live.map (look (sl.map fun q:Nat×PV=>(q.1,wk q.2)))) bx).length))),[],trim nb (live.map (look (sl.map fun q:Nat×PV=>(q.1,wk q.2)))) bx⟩:St)=_;rw[a,c,II,AV,Ra,BG live live (fun _ h=>h),<-wz]
theorem H2{i}:X.ev sl (.t i)=look sl i:=rfl
theorem G2{v}:X.ev sl (.c v)=v:=rfl
def Gq(sl:List (Nat×PV)):List X->List PV
 |[]=>[]
 |x::r=>x.ev sl::Gq sl r
theorem x2:Gq sl []=[]:=rfl
theorem dP{x}{r}:Gq sl (x::r)=x.ev sl::Gq sl r:=rfl
theorem ND:∀l,l.map (·.ev sl)=Gq sl l
 |[]=>rfl
 |x::r=>by rw[dP,<-ND r];rfl
def Gm(sl:List (Nat×PV)):List X->List PV
 |[]=>[]
 |x::r=>(x.ev sl).jb::Gm sl r
theorem u2:Gm sl []=[]:=rfl
theorem cP{x}{r}:Gm sl (x::r)=(x.ev sl).jb::Gm sl r:=rfl
theorem ts:∀l,(l.map fun x=>(x.ev sl).jb)=Gm sl l
 |[]=>rfl
 |x::r=>by rw[cP,<-ts r];rfl
def Hn(sl:List (Nat×PV)):List (Nat×Nat×X)->List (Nat×Nat×PV)
 |[]=>[]
 |(o,m,x)::r=>(o,m,x.ev sl)::Hn sl r
theorem A2:Hn sl []=[]:=rfl
theorem hP{o m}{x}{r}:Hn sl ((o,m,x)::r)=(o,m,x.ev sl)::Hn sl r:=rfl
theorem QD:∀l,(l.map fun q=>(q.1,q.2.1,q.2.2.ev sl))=Hn sl l
 |[]=>rfl
 |(o,m,x)::r=>by rw[hP,<-QD r];rfl
def El(st:St)(d:Nat):Option PV->Option St
 |some v=>some (st.put d v)
 |none=>none
theorem t7{v}:El st d (some v)=some (st.put d v):=rfl
theorem fh{x}:x.map (st.Nd (some d))=El st d x:=by cases x<;>rfl
def tv{x}:x.map (st.put d)=El st d x:=by cases x<;>rfl
theorem zdr{x}:oa cf st (some d) (.mv x)=some (st.put d (x.ev st.sl)):=rfl
theorem zds{s}:oa cf ⟨sl,ow,al,bx⟩ (some d) (.mvA s)=if s=d then none else some ⟨(d,look sl s)::sl,Va d ow,(d,.slot s)::Jb d al,bx⟩:=rfl
theorem zcY{s}:oa cf ⟨sl,ow,al,bx⟩ (some d) (.asg (.t s))=if s=d then none else if owns ow (.slot s)then some ⟨(d,look sl s)::sl,.slot d::Va s (Va d ow),Jb s (Jb d al),bx⟩else some ⟨(d,look sl s)::sl,Va d ow,Jb d al,bx⟩:=by
 simp only[oa,vj];rfl
theorem zc0{v}:oa cf st (some d) (.asg (.c (.flat v)))=some (st.put d (.flat v)):=rfl
theorem zcZ{f}{cs}:oa cf st (some d) (.asg (.c (.ib f cs)))=some (st.put d (.ib f cs)):=rfl
def WE(st:St)(d:Nat)(a b:PV):PV->Option St
 | .flat (.bool t)=>some (st.put d (if t then a else b))
 |_=>none
theorem zdw{c a b}:oa cf st (some d) (.pick c a b)=WE st d (a.ev st.sl) (b.ev st.sl) (c.ev st.sl):=by
 simp only[oa,cb];unfold WE;generalize c.ev st.sl=p;cases p with
 |flat v=>cases v<;>first|rfl|(dsimp only;split<;>rfl)|(dsimp only[fh,tv];rw[fh])
 |_=>first|rfl|(dsimp only;split<;>rfl)|(dsimp only;rw[fh])
theorem q7{a b}{t}:WE st d a b (.flat (.bool t))=some (st.put d (if t then a else b)):=rfl
def bv(st:St)(d:Nat):Option Value->Option St
 |some v=>some (st.put d (.flat v))
 |none=>none
theorem G6{v}:bv st d (some v)=some (st.put d (.flat v)):=rfl
def zE(st:St)(d:Nat)(op:BinOp):PV->PV->Option St
 | .flat a,.flat b=>bv st d (Tc op a b)
 |_,_=>none
theorem zc3{op}{x y}:oa cf st (some d) (.bin op x y)=zE st d op (x.ev st.sl) (y.ev st.sl):=by
 simp only[oa,cb];generalize x.ev st.sl=p;generalize y.ev st.sl=q;cases p with
 |flat v=>
  cases q with
  |flat u=>simp only[zE];cases Tc op v u<;>rfl
  |_=>rfl
 |_=>cases q<;>rfl
theorem Z5{op}{a b}:zE st d op (.flat a) (.flat b)=bv st d (Tc op a b):=rfl
def yE(st:St)(d:Nat)(c:Bool):PV->PV->Option St
 | .flat (.bool a),.flat (.bool b)=>some (st.put d (.flat (.bool (if c then !(a==b)else a==b))))
 |_,_=>none
theorem zc2{a}{x y}:oa cf st (some d) (.beq a x y)=yE st d a (x.ev st.sl) (y.ev st.sl):=by
 simp only[oa,cb];unfold yE;generalize x.ev st.sl=p;generalize y.ev st.sl=q;cases p with
 |flat v=>
  cases q with
  |flat u=>cases v<;>cases u<;>first|rfl|(dsimp only;split<;>rfl)
  |_=>cases v<;>rfl
 |_=>
  cases q with
  |flat u=>cases u<;>first|rfl|(dsimp only;split<;>rfl)
  |_=>rfl
theorem Y5{c a b}:yE st d c (.flat (.bool a)) (.flat (.bool b))=some (st.put d (.flat (.bool (if c then !(a==b)else a==b)))):=rfl
def Qy(t:Bool):Option Bool->Option Bool
 |some r=>some (t&&r)
 |none=>none
theorem R5{t r}:Qy t (some r)=some (t&&r):=rfl
theorem d2:Mc [] [] []=some true:=rfl
theorem Z1{a b}{ks}{cs c}:Mc (.b::ks) (.flat (.bool a)::cs) (.flat (.bool b)::c)=Qy (a==b) (Mc ks cs c):=by
 simp only[Mc];cases Mc ks cs c<;>rfl
theorem b2{k}{a b}{ks}{cs c}:Mc (.i k::ks) (.flat (.int k a)::cs) (.flat (.int k b)::c)=Qy (decide (a=b)) (Mc ks cs c):=by
 simp only[Mc,and_self,if_true];cases Mc ks cs c<;>rfl
def HE(st:St)(d:Nat)(a:Bool):Option Bool->Option St
 |some t=>some (st.put d (.flat (.bool (if a then !t else t))))
 |none=>none
theorem y6{a t}:HE st d a (some t)=some (st.put d (.flat (.bool (if a then !t else t)))):=rfl
def IE(st:St)(d:Nat)(b:Bool)(ks:List LK):PV->PV->Option St
 | .agg cs,.agg a=>HE st d b (Mc ks cs a)
 |_,_=>none
theorem z6{b}{ks}{cs a}:IE st d b ks (.agg cs) (.agg a)=HE st d b (Mc ks cs a):=rfl
theorem zdb{a}{ks}{x y}:oa cf st (some d) (.Cn a ks x y)=IE st d a ks (x.ev st.sl) (y.ev st.sl):=by
 simp only[oa,cb];generalize x.ev st.sl=p;generalize y.ev st.sl=q;cases p with
 |agg cs=>
  cases q with
  |agg b=>simp only[IE];cases Mc ks cs b<;>rfl
  |_=>rfl
 |_=>cases q<;>rfl
def Vq(st:St)(d:Nat):PV->Option St
 | .ptr b o=>some (st.put d (.ptr b o))
 | .vd cs=>some (st.put d (.vd cs))
 | .ib f cs=>some (st.put d (.ib f cs))
 | .tag f cs=>some (st.put d (.tag f cs))
 | .Sa b=>some (st.put d (.Sa b))
 |_=>none
theorem zdu{x}:oa cf st (some d) (.Um x)=Vq st d (x.ev st.sl):=by
 simp only[oa,cb];unfold Vq;generalize x.ev st.sl=p;cases p with
 |flat v=>rfl
 |_=>first|rfl|(dsimp only;split<;>rfl)|(dsimp only;rw[fh])
theorem i7{b o}:Vq st d (.ptr b o)=some (st.put d (.ptr b o)):=rfl
theorem h7{cs}:Vq st d (.vd cs)=some (st.put d (.vd cs)):=rfl
theorem g7{f}{cs}:Vq st d (.ib f cs)=some (st.put d (.ib f cs)):=rfl
theorem j7{f}{cs}:Vq st d (.tag f cs)=some (st.put d (.tag f cs)):=rfl
theorem k7{b}:Vq st d (.Sa b)=some (st.put d (.Sa b)):=rfl
def iF(st:St)(d:Nat)(op:UnOp):PV->Option St
 | .flat a=>bv st d (ip op a)
 |_=>none
theorem zdB{op}{x}:oa cf st (some d) (.un op x)=iF st d op (x.ev st.sl):=by
 simp only[oa,cb];generalize x.ev st.sl=p;cases p with
 |flat v=>simp only[iF];cases ip op v<;>rfl
 |_=>rfl
theorem d8{op}{a}:iF st d op (.flat a)=bv st d (ip op a):=rfl
def DE(st:St)(d:Nat)(k:IntKind):PV->Option St
 | .flat (.int _ m)=>some (st.put d (.flat (.int k (k.wrap m))))
 |_=>none
theorem zda{k}{x}:oa cf st (some d) (.conv k x)=DE st d k (x.ev st.sl):=by
 simp only[oa,cb];unfold DE;generalize x.ev st.sl=p;cases p with
 |flat v=>cases v<;>first|rfl|(dsimp only;split<;>rfl)|(dsimp only[fh,tv];rw[fh])
 |_=>first|rfl|(dsimp only;split<;>rfl)|(dsimp only;rw[fh])
theorem t6{k k'}{m}:DE st d k (.flat (.int k' m))=some (st.put d (.flat (.int k (k.wrap m)))):=rfl
theorem zc1{x}:oa cf st (some d) (.b2s x)=El st d (um (x.ev st.sl) st.bx):=by
 simp only[oa,fh]
theorem KW:um (.flat (.slice none 0 0)) bx=some (.flat (.string ⟨#[]⟩)):=rfl
def MW{m}{cs}:um (.ia m cs) bx=if cs.length=m then(bytesOf cs).map fun l=>.flat (.string ⟨l.toArray⟩)else none:=rfl
def Zu(o m:Nat):Option (Nat×List PV)->Option PV
 |some (_,cs)=>if o+m<=cs.length then lz (bytesOf ((cs.drop o).take m))else none
 |none=>none
where lz:Option (List UInt8)->Option PV
 |some l=>some (.flat (.string ⟨l.toArray⟩))
 |none=>none
theorem S7{l}:Zu.lz (some l)=some (.flat (.string ⟨l.toArray⟩)):=rfl
theorem XQ{o m e}{cs}:Zu o m (some (e,cs))=if o+m<=cs.length then Zu.lz (bytesOf ((cs.drop o).take m))else none:=rfl
theorem JW{b o m}:um (.ve b o m) bx=Zu o m (td bx b):=by
 simp only[um];cases td bx b with
 |none=>rfl
 |some q=>
  obtain⟨e,cs⟩:=q;simp only[Ja,XQ];split
  ·cases bytesOf ((cs.drop o).take m)<;>rfl
  ·rfl
theorem LW{m}{cs}:um (.ia m cs) bx=if cs.length=m then Zu.lz (bytesOf cs)else none:=by
 rw[MW];split
 ·cases bytesOf cs<;>rfl
 ·rfl
theorem zcT{e}{zs}:oa cf ⟨sl,ow,al,bx⟩ (some d) (.alloc e zs)=some ⟨(d,.ptr bx.length 0)::sl,Zc bx.length 0 zs++Va d ow,Jb d al,bx++[(e,zd zs)]⟩:=by
 rw[<-Lw];rfl
def AE(st:St)(d e m:Nat)(v:PV):Option St:=if v.fi=true/\v.cells.length=m then some ⟨(d,.ptr st.bx.length 0)::st.sl,Zc st.bx.length 0 v.cells++Va d st.ow,Jb d st.al,st.bx++[(e,zd v.cells)]⟩else none
theorem zc4{e m}{x}:oa cf st (some d) (.box e m x)=AE st d e m (x.ev st.sl):=by
 unfold AE;rw[<-Lw];rfl
theorem d6{e m}{v}:AE ⟨sl,ow,al,bx⟩ d e m v=if v.fi=true/\v.cells.length=m then some ⟨(d,.ptr bx.length 0)::sl,Zc bx.length 0 v.cells++Va d ow,Jb d al,bx++[(e,zd v.cells)]⟩else none:=rfl
def WQ(st:St)(d:Nat):Option (List PV)->Option St
 |some cs=>some (st.put d (.agg cs))
 |none=>none
theorem zc5{zs}{ps}:oa cf st (some d) (.build zs ps)=WQ st d (zi zs (Hn st.sl ps)):=by
 simp only[oa,cb,QD];cases zi zs (Hn st.sl ps)<;>rfl
theorem g6{cs}:WQ st d (some cs)=some (st.put d (.agg cs)):=rfl
def cR(st:St)(d:Nat)(a:Bool)(m size:Nat):Option (List PV)->Option St
 |some cs=>if a=true\/size≠1\/sd (zd cs)=true then some (st.Ic d (.ia m (zd cs)))else none
 |none=>none
theorem zdo{a}{m size}{zs}{ps}:oa cf st (some d) (.mksl a m size zs ps)=cR st d a m size (zi zs (Hn st.sl ps)):=by
 simp only[oa,Ja,QD];cases zi zs (Hn st.sl ps)<;>rfl
theorem d7{a}{m size}{cs}:cR st d a m size (some cs)=if a=true\/size≠1\/sd (zd cs)=true then some (st.Ic d (.ia m (zd cs)))else none:=rfl
theorem zdl{agg}{m}{a}:oa cf st (some d) (.load agg m a)=El st d (Om agg m (a.ev st.sl) st.bx):=by
 simp only[oa,Ja,tv]
def Sl(agg:Bool)(m o:Nat):Option (Nat×List PV)->Option PV
 |some (_,cs)=>if o+m<=cs.length then(match agg with|true=>some (.agg ((cs.drop o).take m))|false=>cs[o]?)else none
 |none=>none
theorem zbR{m o e}{cs}:Sl true m o (some (e,cs))=if o+m<=cs.length then some (.agg ((cs.drop o).take m))else none:=rfl
theorem RH{m o e}{cs}:Sl false m o (some (e,cs))=if o+m<=cs.length then cs[o]? else none:=rfl
theorem i9{agg}{m b o}:Om agg m (.ptr b o) bx=Sl agg m o (td bx b):=by
 simp only[Om];cases td bx b with
 |none=>rfl
 |some q=>rfl
theorem h9{m}{cs}:Om true m (.vd cs) bx=if m<=cs.length then some (.agg (cs.take m))else none:=rfl
theorem g9{m}{cs}:Om false m (.vd cs) bx=if m<=cs.length then cs[0]? else none:=rfl
def VQ:Option (Nat×List PV)->Option (Nat×List PV)
 |some (e,cs)=>if Tq cs then none else some (e,cs)
 |none=>none
theorem LC{b}:td bx b=VQ (bx[b]?):=by
 unfold td;cases bx[b]? with
 |none=>rfl
 |some q=>rfl
theorem BE{e}{cs}:VQ (some (e,cs))=if Tq cs then none else some (e,cs):=rfl
def QE(st:St)(d b o:Nat):Option PV->Option St
 |some v=>some ⟨(d,v)::st.sl,Va d st.ow,(d,.cell b o)::Jb d st.al,st.bx⟩
 |none=>none
def SE(st:St)(d:Nat):PV->Option St
 | .ptr b o=>QE st d b o (Sl false 1 o (td st.bx b))
 |_=>none
theorem zdm{a}:oa cf st (some d) (.loadA a)=SE st d (a.ev st.sl):=by
 simp only[oa,Ja];generalize a.ev st.sl=p;cases p with
 |ptr b o=>
  simp only[SE];cases h:td st.bx b with
  |none=>rfl
  |some q=>
   obtain⟨e,cs⟩:=q;simp only[Ja,RH];by_cases c:o+1<=cs.length
   ·rw[if_pos c]
    cases g:cs[o]?<;>rfl
   ·rw[if_neg c,Qf aa];rfl
 |_=>rfl
theorem c7{b o}:SE st d (.ptr b o)=QE st d b o (Sl false 1 o (td st.bx b)):=rfl
theorem Z6{b o}{v}:QE ⟨sl,ow,al,bx⟩ d b o (some v)=some ⟨(d,v)::sl,Va d ow,(d,.cell b o)::Jb d al,bx⟩:=rfl
def Td(b o m:Nat):List Loc->List Loc
 |[]=>[]
 | .slot i::r=>.slot i::Td b o m r
 | .cell a j::r=>if a=b/\o<=j/\j<o+m then Td b o m r else .cell a j::Td b o m r
theorem D1{b o m}:Td b o m []=[]:=rfl
theorem NO{b o m i}{r}:Td b o m (.slot i::r)=.slot i::Td b o m r:=rfl
theorem Pj{b o m a j}{r}:Td b o m (.cell a j::r)=if a=b/\o<=j/\j<o+m then Td b o m r else .cell a j::Td b o m r:=rfl
theorem UR{b o m a j}:Md b o m (.cell a j)=decide (a=b/\o<=j/\j<o+m):=by
 grind [Md]
theorem vy{b o m}:∀l,(l.filter fun L=>!Md b o m L)=Td b o m l
 |[]=>rfl
 | .slot i::r=>by rw[NO,<-vy r];rfl
 | .cell a j::r=>by
   rw[Pj,<-vy r,List.filter_cons,UR]
   grind
def Oj(b o m:Nat)(l:List (Nat×Loc)):List (Nat×Loc):=l.filter fun p=>!Md b o m p.2
theorem B1{b o m}:Oj b o m []=[]:=rfl
theorem C1{b o m t i}{r}:Oj b o m ((t,.slot i)::r)=(t,.slot i)::Oj b o m r:=ra
theorem A1{b o m t a j}{r}:Oj b o m ((t,.cell a j)::r)=if a=b/\o<=j/\j<o+m then Oj b o m r else(t,.cell a j)::Oj b o m r:=by
 grind [Oj,UR]
def nv(st:St)(b o m:Nat)(x:X)(v:PV)(e:Nat)(cs:List PV):Option St:=if v.fi=true/\v.cells.length=m/\o+m<=cs.length then
    (match x with
     | .t s=>if owns st.ow (.slot s)then some ⟨st.sl,.cell b o::Va s (Zc b o v.cells++Td b o m st.ow),Jb s (Oj b o m st.al),st.bx.set b (e,cs.take o++zd v.cells++cs.drop (o+m))⟩else some ⟨st.sl,Zc b o v.cells++Td b o m st.ow,Oj b o m st.al,st.bx.set b (e,cs.take o++zd v.cells++cs.drop (o+m))⟩
     | .c _=>some ⟨st.sl,Zc b o v.cells++Td b o m st.ow,Oj b o m st.al,st.bx.set b (e,cs.take o++zd v.cells++cs.drop (o+m))⟩)else none
def kz(st:St)(b o m:Nat)(x:X)(v:PV):Option (Nat×List PV)->Option St
 |some (e,cs)=>nv st b o m x v e cs
 |none=>none
def eF(st:St)(m:Nat)(x:X)(v:PV):PV->Option St
 | .ptr b o=>kz st b o m x v (td st.bx b)
 |_=>none
theorem zdA{m}{a x}:oa cf st none (.store m a x)=eF st m x (x.ev st.sl) (a.ev st.sl):=by
 simp only[oa];generalize a.ev st.sl=p;cases p with
 |ptr b o=>
  dsimp only;simp only[eF,kz];cases h:td st.bx b with
  |none=>rfl
  |some q=>
   obtain⟨e,cs⟩:=q;simp only[Ja,nv];split
   ·cases x with
    |t s=>simp only[vy,vj,Lw];rfl
    |c v=>simp only[vy,Lw];rfl
   ·rfl
 |_=>rfl
theorem R7{b o m}{x}{v}:eF st m x v (.ptr b o)=kz st b o m x v (td st.bx b):=rfl
theorem O7{b o m e}{x}{v}{cs}:kz st b o m x v (some (e,cs))=nv st b o m x v e cs:=rfl
theorem Q7{b o m e s}{v}{cs}:nv ⟨sl,ow,al,bx⟩ b o m (.t s) v e cs=if v.fi=true/\v.cells.length=m/\o+m<=cs.length then(if owns ow (.slot s)then some ⟨sl,.cell b o::Va s (Zc b o v.cells++Td b o m ow),Jb s (Oj b o m al),bx.set b (e,cs.take o++zd v.cells++cs.drop (o+m))⟩else some ⟨sl,Zc b o v.cells++Td b o m ow,Oj b o m al,bx.set b (e,cs.take o++zd v.cells++cs.drop (o+m))⟩)else none:=rfl
theorem P7{b o m e}{u v}{cs}:nv ⟨sl,ow,al,bx⟩ b o m (.c u) v e cs=if v.fi=true/\v.cells.length=m/\o+m<=cs.length then some ⟨sl,Zc b o v.cells++Td b o m ow,Oj b o m al,bx.set b (e,cs.take o++zd v.cells++cs.drop (o+m))⟩else none:=rfl
def bz(st:St)(d a:Nat):PV->Option St
 | .ptr b o=>some (st.put d (.ptr b (o+a)))
 | .vd cs=>some (st.put d (.vd (cs.drop a)))
 |_=>none
theorem zdd{b}{a}:oa cf st (some d) (.fp b a)=bz st d b (a.ev st.sl):=by
 simp only[oa,cb];unfold bz;generalize a.ev st.sl=p;cases p with
 |flat v=>rfl
 |_=>first|rfl|(dsimp only;split<;>rfl)|(dsimp only;rw[fh])
theorem D6{a b o}:bz st d a (.ptr b o)=some (st.put d (.ptr b (o+a))):=rfl
theorem C6{a}{cs}:bz st d a (.vd cs)=some (st.put d (.vd (cs.drop a))):=rfl
def ME(st:St)(d a m:Nat):PV->Option St
 | .agg cs=>if a+m<=cs.length then some (st.put d (.agg ((cs.drop a).take m)))else none
 |_=>none
def KE(st:St)(d a:Nat):PV->Option St
 | .agg cs=>El st d (cs[a]?)
 |_=>none
theorem zdf{a m}{x}:oa cf st (some d) (.In true a m x)=ME st d a m (x.ev st.sl):=by
 simp only[oa,cb];unfold ME;generalize x.ev st.sl=p;cases p with
 |flat v=>rfl
 |_=>first|rfl|(dsimp only;split<;>rfl)|(dsimp only;rw[fh])
theorem zde{a m}{x}:oa cf st (some d) (.In false a m x)=KE st d a (x.ev st.sl):=by
 simp only[oa,cb]
 grind [KE,fh]
theorem I6{a m}{cs}:ME st d a m (.agg cs)=if a+m<=cs.length then some (st.put d (.agg ((cs.drop a).take m)))else none:=rfl
theorem H6{a}{cs}:KE st d a (.agg cs)=El st d (cs[a]?):=rfl
def dz(st:St)(d size:Nat):PV->PV->Option St
 | .ia m cs,.flat (.int _ i)=>if 0<=i/\i<m then some (st.put d (.vd (cs.drop (i.toNat* size))))else none
 | .ve b o m,.flat (.int _ i)=>if 0<=i/\i<m then some (st.put d (.ptr b (o+i.toNat* size)))else none
 |_,_=>none
theorem zdg{size}{x i}:oa cf st (some d) (.Rk size x i)=dz st d size (x.ev st.sl) (i.ev st.sl):=by
 simp only[oa,cb];unfold dz;generalize x.ev st.sl=p;generalize i.ev st.sl=q;cases p with
 |flat v=>
  rfl
 |_=>
  cases q with
  |flat u=>cases u<;>first|rfl|(dsimp only;split<;>rfl)
  |_=>rfl
theorem P6{size m}{cs}{k}{i}:dz st d size (.ia m cs) (.flat (.int k i))=if 0<=i/\i<m then some (st.put d (.vd (cs.drop (i.toNat* size))))else none:=rfl
theorem O6{size b o m}{k}{i}:dz st d size (.ve b o m) (.flat (.int k i))=if 0<=i/\i<m then some (st.put d (.ptr b (o+i.toNat* size)))else none:=rfl
def VE(st:St)(d len size:Nat):PV->PV->Option St
 | .ptr b o,.flat (.int _ i)=>if 0<=i/\i<len then some (st.put d (.ptr b (o+i.toNat* size)))else none
 |_,_=>none
theorem zdv{len size}{x i}:oa cf st (some d) (.Yn len size x i)=VE st d len size (x.ev st.sl) (i.ev st.sl):=by
 simp only[oa,cb];unfold VE;generalize x.ev st.sl=p;generalize i.ev st.sl=q;cases p with
 |flat v=>
  rfl
 |_=>
  cases q with
  |flat u=>cases u<;>first|rfl|(dsimp only;split<;>rfl)
  |_=>rfl
theorem p7{len size b o}{k}{i}:VE st d len size (.ptr b o) (.flat (.int k i))=if 0<=i/\i<len then some (st.put d (.ptr b (o+i.toNat* size)))else none:=rfl
def Vy(st:St)(d:Nat):Option UInt8->Option St
 |some c=>some (st.put d (.flat (.int .u8 c.toNat)))
 |none=>none
def OE(st:St)(d:Nat):PV->PV->Option St
 | .flat (.string s),.flat (.int _ i)=>if 0<=i then Vy st d (s[i.toNat]?)else none
 |_,_=>none
theorem zdh{x i}:oa cf st (some d) (.idx x i)=OE st d (x.ev st.sl) (i.ev st.sl):=by
 simp only[oa,cb];generalize x.ev st.sl=p;generalize i.ev st.sl=q;cases p with
 |flat v=>
  cases q with
  |flat u=>
   cases v<;>cases u<;>try rfl
   rename_i s k j;simp only[OE];split
   ·cases s[j.toNat]?<;>rfl
   ·rfl
  |_=>cases v<;>rfl
 |_=>cases q<;>rfl
theorem S6{s}{k}{i}:OE st d (.flat (.string s)) (.flat (.int k i))=if 0<=i then Vy st d (s[i.toNat]?)else none:=rfl
theorem i6{c}:Vy st d (some c)=some (st.put d (.flat (.int .u8 c.toNat))):=rfl
def ez(st:St)(d:Nat)(agg:Bool)(len size:Nat):PV->PV->Option St
 | .agg cs,.flat (.int _ i)=>if 0<=i/\i<len/\i.toNat* size+size<=cs.length then(match agg with|true=>some (st.put d (.agg ((cs.drop (i.toNat* size)).take size)))|false=>El st d (cs[i.toNat* size]?))else none
 |_,_=>none
theorem zdi{agg}{len size}{x i}:oa cf st (some d) (.Lm agg len size x i)=ez st d agg len size (x.ev st.sl) (i.ev st.sl):=by
 simp only[oa,cb];generalize x.ev st.sl=p;generalize i.ev st.sl=q;cases p with
 |agg cs=>
  cases q with
  |flat u=>
   cases u<;>try rfl
   rename_i k j;simp only[ez];split
   ·cases agg
    ·grind [fh]
    ·rfl
   ·rfl
  |_=>rfl
 |_=>cases q<;>rfl
theorem R6{len size}{cs}{k}{i}:ez st d true len size (.agg cs) (.flat (.int k i))=if 0<=i/\i<len/\i.toNat* size+size<=cs.length then some (st.put d (.agg ((cs.drop (i.toNat* size)).take size)))else none:=rfl
theorem Q6{len size}{cs}{k}{i}:ez st d false len size (.agg cs) (.flat (.int k i))=if 0<=i/\i<len/\i.toNat* size+size<=cs.length then El st d (cs[i.toNat* size]?)else none:=rfl
def Rh(sl:List (Nat×PV)):Option X->Option PV
 |none=>none
 |some x=>some (x.ev sl)
theorem y2:Rh sl none=none:=rfl
theorem z2{x}:Rh sl (some x)=some (x.ev sl):=rfl
def PD{x}:x.map (·.ev sl)=Rh sl x:=by cases x<;>rfl
def fF(st:St)(d:Nat)(s:ByteArray):Option (Nat×Nat)->Option St
 |some (l,h)=>some (st.put d (.flat (.string (s.extract l h))))
 |none=>none
def dF(st:St)(d:Nat)(b a:Option PV):PV->Option St
 | .flat (.string s)=>fF st d s (Nf s.size b a)
 |_=>none
theorem zdz{x}{b a}:oa cf st (some d) (.sliceS x b a)=dF st d (Rh st.sl b) (Rh st.sl a) (x.ev st.sl):=by
 simp only[oa,cb,PD];generalize x.ev st.sl=p;cases p with
 |flat v=>
  cases v<;>try rfl
  rename_i s;simp only[dF];cases Nf s.size (Rh st.sl b) (Rh st.sl a)<;>rfl
 |_=>rfl
theorem L7{b a}{s}:dF st d b a (.flat (.string s))=fF st d s (Nf s.size b a):=rfl
theorem T7{s}{l h}:fF st d s (some (l,h))=some (st.put d (.flat (.string (s.extract l h)))):=rfl
theorem cX{m}:Nf m none none=some (0,m):=ra
theorem dX{m}{k}{i}:Nf m none (some (.flat (.int k i)))=if 0<=i/\i<=m then some (0,i.toNat)else none:=by
 grind [Nf,Rq]
theorem eX{m}{k}{i}:Nf m (some (.flat (.int k i))) none=if 0<=i/\i<=m then some (i.toNat,m)else none:=by
 grind [Nf,Rq]
theorem fX{m}{k k'}{i j}:Nf m (some (.flat (.int k i))) (some (.flat (.int k' j)))=if 0<=i/\i<=j/\j<=m then some (i.toNat,j.toNat)else none:=by
 simp only[Nf,Rq,Ja]
 grind
def EE(st:St)(d size m:Nat)(cs:List PV):Option (Nat×Nat)->Option St
 |some (l,h)=>some (st.put d (.ia (h - l) ((cs.take (h* size)).drop (l* size))))
 |none=>none
def av(st:St)(d size b o:Nat):Option (Nat×Nat)->Option St
 |some (l,h)=>some (st.put d (.ve b (o+l* size) (h - l)))
 |none=>none
def kv(st:St)(d size:Nat)(c a:Option PV):PV->Option St
 | .ia m cs=>if cs.length=m* size/\0<size then EE st d size m cs (Nf m c a)else none
 | .ve b o m=>av st d size b o (Nf m c a)
 |_=>none
theorem zdx{size}{x}{c a}:oa cf st (some d) (.slice size x c a)=kv st d size (Rh st.sl c) (Rh st.sl a) (x.ev st.sl):=by
 simp only[oa,cb,PD];generalize x.ev st.sl=p;cases p with
 |ia m cs=>
  simp only[kv];split
  ·cases Nf m (Rh st.sl c) (Rh st.sl a)<;>rfl
  ·rfl
 |ve b o m=>simp only[kv];cases Nf m (Rh st.sl c) (Rh st.sl a)<;>rfl
 |_=>rfl
theorem N7{size m}{cs}{b a}:kv st d size b a (.ia m cs)=if cs.length=m* size/\0<size then EE st d size m cs (Nf m b a)else none:=rfl
theorem M7{size b o m}{c a}:kv st d size c a (.ve b o m)=av st d size b o (Nf m c a):=rfl
theorem v6{size m l h}{cs}:EE st d size m cs (some (l,h))=some (st.put d (.ia (h - l) ((cs.take (h* size)).drop (l* size)))):=rfl
theorem u6{size b o l h}:av st d size b o (some (l,h))=some (st.put d (.ve b (o+l* size) (h - l))):=rfl
def cF(st:St)(d len size:Nat)(c a:Option PV):PV->Option St
 | .ptr b o=>av st d size b o (Nf len c a)
 |_=>none
theorem zdy{len size}{x}{c a}:oa cf st (some d) (.sliceP len size x c a)=cF st d len size (Rh st.sl c) (Rh st.sl a) (x.ev st.sl):=by
 simp only[oa,cb,PD];generalize x.ev st.sl=p;cases p with
 |ptr b o=>simp only[cF];cases Nf len (Rh st.sl c) (Rh st.sl a)<;>rfl
 |_=>rfl
theorem K7{len size b o}{c a}:cF st d len size c a (.ptr b o)=av st d size b o (Nf len c a):=rfl
def JE(st:St)(d i:Nat):PV->Option St
 | .Jc vs=>El st d (vs[i]?)
 |_=>none
theorem zdc{x}{i}:oa cf st (some d) (.ext x i)=JE st d i (x.ev st.sl):=by
 simp only[oa,cb]
 grind [JE,fh]
theorem A6{i}{vs}:JE st d i (.Jc vs)=El st d (vs[i]?):=rfl
def dv(st:St)(d:Nat):PV->Option St
 | .ia m _=>some (st.put d (.flat (.int .i64 m)))
 | .ve _ _ m=>some (st.put d (.flat (.int .i64 m)))
 | .flat (.slice none 0 0)=>some (st.put d (.flat (.int .i64 0)))
 |_=>none
theorem zdj{x}:oa cf st (some d) (.len x)=dv st d (x.ev st.sl):=by
 simp only[oa,cb];unfold dv;generalize x.ev st.sl=p;split<;>first|rfl|simp
theorem W6:dv st d (.flat (.slice none 0 0))=some (st.put d (.flat (.int .i64 0))):=rfl
theorem X6{m}{cs}:dv st d (.ia m cs)=some (st.put d (.flat (.int .i64 m))):=rfl
theorem V6{b o m}:dv st d (.ve b o m)=some (st.put d (.flat (.int .i64 m))):=rfl
def PE(st:St)(d:Nat):PV->Option St
 | .flat (.string s)=>some (st.put d (.flat (.int .i64 s.size)))
 |_=>none
theorem zdk{x}:oa cf st (some d) (.tp x)=PE st d (x.ev st.sl):=by
 simp only[oa,cb];unfold PE;generalize x.ev st.sl=p;cases p with
 |flat v=>cases v<;>first|rfl|(dsimp only;split<;>rfl)|(dsimp only[fh,tv];rw[fh])
 |_=>first|rfl|(dsimp only;split<;>rfl)|(dsimp only;rw[fh])
theorem U6{s}:PE st d (.flat (.string s))=some (st.put d (.flat (.int .i64 s.size))):=rfl
def UE(st:St)(d:Nat):PV->Option St
 | .flat (.string s)=>some (st.put d (.flat (.string s)))
 |_=>none
theorem zdt{x}:oa cf st (some d) (.jr x)=UE st d (x.ev st.sl):=by
 simp only[oa,cb];unfold UE;generalize x.ev st.sl=p;cases p with
 |flat v=>cases v<;>first|rfl|(dsimp only;split<;>rfl)|(dsimp only[fh,tv];rw[fh])
 |_=>first|rfl|(dsimp only;split<;>rfl)|(dsimp only;rw[fh])
theorem f7{s}:UE st d (.flat (.string s))=some (st.put d (.flat (.string s))):=rfl
def TE(st:St)(d:Nat)(c:Bool):PV->PV->Option St
 | .flat (.int k a),.flat (.int k' b)=>if k=k' then some (st.put d (.flat (.int k (if c then(if b>a then b else a)else(if b<a then b else a)))))else none
 |_,_=>none
theorem zdq{a}{x y}:oa cf st (some d) (.mm a x y)=TE st d a (x.ev st.sl) (y.ev st.sl):=by
 simp only[oa,cb];unfold TE;generalize x.ev st.sl=p;generalize y.ev st.sl=q;cases p with
 |flat v=>
  cases q with
  |flat u=>cases v<;>cases u<;>first|rfl|(dsimp only;split<;>rfl)
  |_=>cases v<;>rfl
 |_=>
  cases q with
  |flat u=>cases u<;>first|rfl|(dsimp only;split<;>rfl)
  |_=>rfl
theorem e7{c}{k k'}{a b}:TE st d c (.flat (.int k a)) (.flat (.int k' b))=if k=k' then some (st.put d (.flat (.int k (if c then(if b>a then b else a)else(if b<a then b else a)))))else none:=rfl
theorem zc9{f}{cs}:oa cf st (some d) (.clos f cs)=some (st.put d (.ib f (Gq st.sl cs))):=by
 simp only[oa,cb,ND];rfl
theorem zdp{f}{cs}:oa cf st (some d) (.mkt f cs)=some (st.put d (.tag f (Gq st.sl cs))):=by
 simp only[oa,cb,ND];rfl
def tj(ow:List Loc)(al:List (Nat×Loc))(t:Nat):Option Loc:=if owns ow (.slot t)then some (.slot t)else jq t al
where jq (t:Nat):List (Nat×Loc)->Option Loc
 |[]=>none
 |(u,L)::r=>if u=t then some L else jq t r
theorem qW{t}:tj.jq t []=none:=rfl
theorem yJ{t u}{L}{r}:tj.jq t ((u,L)::r)=if u=t then some L else tj.jq t r:=rfl
theorem AJ{t}:∀l,(l.find? fun p=>p.1==t).map (·.2)=tj.jq t l
 |[]=>rfl
 |(u,L)::r=>by
  rw[yJ,<-AJ r,List.find?_cons]
  grind
theorem zad{t}:tj ow al t=if owns ow (.slot t)then some (.slot t)else tj.jq t al:=rfl
def cT{t}:origin st t=tj st.ow st.al t:=by
 grind [origin,tj,AJ,vj]
def fe(L:Loc)(l:List Loc):List Loc:=l.filter (·≠L)
theorem J1{L}:fe L []=[]:=rfl
theorem L1{i j}{r}:fe (.slot i) (.slot j::r)=if j=i then fe (.slot i) r else .slot j::fe (.slot i) r:=by
 grind [fe]
theorem K1{i b o}{r}:fe (.slot i) (.cell b o::r)=.cell b o::fe (.slot i) r:=ra
theorem I1{i b o}{r}:fe (.cell b o) (.slot i::r)=.slot i::fe (.cell b o) r:=ra
theorem Gu{b o a c}{r}:fe (.cell b o) (.cell a c::r)=if a=b/\c=o then fe (.cell b o) r else .cell a c::fe (.cell b o) r:=by
 grind [fe]
def An(L:Loc)(l:List (Nat×Loc)):List (Nat×Loc):=l.filter fun p=>p.2≠L
def Uq(st:St)(d b o:Nat):Bool->Option PV->Option St
 |true,some v=>some ⟨(d,v)::st.sl,.slot d::fe (.cell b o) (Va d st.ow),[],st.bx⟩
 |_,_=>none
def RE(st:St)(d:Nat):PV->Option St
 | .ptr b o=>Uq st d b o (owns st.ow (.cell b o)) (Sl false 1 o (td st.bx b))
 |_=>none
theorem zdn{a}:oa cf st (some d) (.loadM a)=RE st d (a.ev st.sl):=by
 simp only[oa,Ja];generalize a.ev st.sl=p;cases p with
 |ptr b o=>
  simp only[RE];have g:owns st.ow (.cell b o)=decide (.cell b o∈st.ow):=by
   by_cases h:Loc.cell b o∈st.ow
   ·grind [vj]
   ·grind [vj]
  rw[g];cases h:td st.bx b with
  |none=>grind [Uq,Sl]
  |some q=>
   obtain⟨e,cs⟩:=q;simp only[Ja,RH];have hr:(if o+1<=cs.length then cs[o]? else none)=cs[o]?:=by
    by_cases c:o+1<=cs.length
    ·grind
    ·grind
   rw[hr];cases i:cs[o]? with
   |none=>grind [Uq]
   |some v=>
    by_cases c:Loc.cell b o∈st.ow
    ·simp only[c,Ja,if_true,decide_true,Uq,fe];rfl
    grind [Uq]
 |_=>rfl
theorem a7{b o}:RE st d (.ptr b o)=Uq st d b o (owns st.ow (.cell b o)) (Sl false 1 o (td st.bx b)):=rfl
theorem b7{b o}{v}:Uq st d b o true (some v)=some ⟨(d,v)::st.sl,.slot d::fe (.cell b o) (Va d st.ow),[],st.bx⟩:=rfl
theorem H1{L}:An L []=[]:=rfl
theorem G1{L K}{t}{r}:An L ((t,K)::r)=if K=L then An L r else(t,K)::An L r:=by
 grind [An]
def Ty(st:St)(d:Nat)(a:Bool)(size:Nat)(L:Loc):Option PV->PV->Option St
 |some (.ia m cs),.ia c b=>if m+c<=za/\cs.length=m* size/\b.length=c* size/\owns st.ow L=true/\Xl a size cs b=true then
  some ⟨(d,.ia (m+c) (cs++b))::st.sl,.slot d::Va d (fe L st.ow),Jb d (An L st.al),st.bx⟩else none
 |_,_=>none
def Uy(st:St)(d:Nat)(a:Bool)(size:Nat)(y:PV):Option Loc->Option St
 |some L=>Ty st d a size L (bb st L) y
 |none=>none
def Xu(st:St)(d:Nat)(a:Bool)(size:Nat):PV->Option St
 | .ia m b=>if m<=za/\b.length=m* size/\Xl a size [] b=true then(if m=0 then some (st.put d (.flat (.slice none 0 0)))else some (st.Ic d (.ia m b)))else none
 |_=>none
theorem V5{a}{size m}{b}:Xu st d a size (.ia m b)=if m<=za/\b.length=m* size/\Xl a size [] b=true then(if m=0 then some (st.put d (.flat (.slice none 0 0)))else some (st.Ic d (.ia m b)))else none:=rfl
def HU{a}{size}{x y}:oa cf st (some d) (.append a size x y)=if Dc (x.ev st.sl)then Xu st d a size (y.ev st.sl).jb else(match x with| .t s=>Uy st d a size (y.ev st.sl).jb (tj st.ow st.al s)| .c _=>none):=by
 simp only[oa];split
 ·grind [Xu]
 ·cases x with
  |c v=>rfl
  |t s=>
   simp only[cT];cases tj st.ow st.al s with
   |none=>rfl
   |some L=>
    simp only[Ja,Uy];generalize bb st L=p;generalize (y.ev st.sl).jb=q;cases p with
    |none=>rfl
    |some p=>
     cases p with
     |ia m cs=>
      cases q with
      |ia e b=>simp only[Ty,vj];rfl
      |_=>rfl
     |_=>cases q<;>rfl
theorem zcV{a}{size s}{y}:oa cf st (some d) (.append a size (.t s) y)=if Dc (look st.sl s)then Xu st d a size (y.ev st.sl).jb else Uy st d a size (y.ev st.sl).jb (tj st.ow st.al s):=HU
theorem zcU{a}{size}{v}{y}:oa cf st (some d) (.append a size (.c v) y)=if Dc v then Xu st d a size (y.ev st.sl).jb else none:=HU
theorem W5{a}{size}{y}{L}:Uy st d a size y (some L)=Ty st d a size L (bb st L) y:=rfl
theorem X5{a}{size m c}{L}{cs b}:Ty ⟨sl,ow,al,bx⟩ d a size L (some (.ia m cs)) (.ia c b)=if m+c<=za/\cs.length=m* size/\b.length=c* size/\owns ow L=true/\Xl a size cs b=true then some ⟨(d,.ia (m+c) (cs++b))::sl,.slot d::Va d (fe L ow),Jb d (An L al),bx⟩else none:=rfl
theorem zbC{i}:bb ⟨sl,ow,al,bx⟩ (.slot i)=some (look sl i):=rfl
def ZQ(o:Nat):Option (Nat×List PV)->Option PV
 |some (_,cs)=>cs[o]?
 |none=>none
theorem zbB{b o}:bb ⟨sl,ow,al,bx⟩ (.cell b o)=ZQ o (bx[b]?):=by
 simp only[bb];cases bx[b]?<;>rfl
theorem r6{o e}{cs}:ZQ o (some (e,cs))=cs[o]?:=rfl
def Ry(st:St)(d:Nat)(L:Loc):Option PV->PV->Option St
 |some (.ia m cs),.flat (.string z)=>if m+z.size<=za/\cs.length=m/\owns st.ow L=true/\ng cs=true then
  some ⟨(d,.ia (m+z.size) (cs++ci z))::st.sl,.slot d::Va d (fe L st.ow),Jb d (An L st.al),st.bx⟩else none
 |_,_=>none
def Sy(st:St)(d:Nat)(y:PV):Option Loc->Option St
 |some L=>Ry st d L (bb st L) y
 |none=>none
def Wu(st:St)(d:Nat):PV->Option St
 | .flat (.string z)=>if z.size<=za then(if z.size=0 then some (st.put d (.flat (.slice none 0 0)))else some (st.Ic d (.ia z.size (ci z))))else none
 |_=>none
theorem S5{z}:Wu st d (.flat (.string z))=if z.size<=za then(if z.size=0 then some (st.put d (.flat (.slice none 0 0)))else some (st.Ic d (.ia z.size (ci z))))else none:=rfl
def IU{x y}:oa cf st (some d) (.appendS x y)=if Dc (x.ev st.sl)then Wu st d (y.ev st.sl)else(match x with| .t s=>Sy st d (y.ev st.sl) (tj st.ow st.al s)| .c _=>none):=by
 simp only[oa];split
 ·grind [Wu]
 ·cases x with
  |c v=>rfl
  |t s=>
   simp only[cT];cases tj st.ow st.al s with
   |none=>rfl
   |some L=>
    simp only[Ja,Sy];generalize bb st L=p;generalize y.ev st.sl=q;cases p with
    |none=>rfl
    |some p=>
     cases p with
     |ia m cs=>
      cases q with
      |flat v=>cases v<;>first|rfl|(simp only[Ry,vj];rfl)
      |_=>rfl
     |_=>cases q<;>rfl
theorem zcX{s}{y}:oa cf st (some d) (.appendS (.t s) y)=if Dc (look st.sl s)then Wu st d (y.ev st.sl)else Sy st d (y.ev st.sl) (tj st.ow st.al s):=IU
theorem zcW{v}{y}:oa cf st (some d) (.appendS (.c v) y)=if Dc v then Wu st d (y.ev st.sl)else none:=IU
theorem T5{y}{L}:Sy st d y (some L)=Ry st d L (bb st L) y:=rfl
theorem U5{m}{L}{cs}{z}:Ry ⟨sl,ow,al,bx⟩ d L (some (.ia m cs)) (.flat (.string z))=if m+z.size<=za/\cs.length=m/\owns ow L=true/\ng cs=true then some ⟨(d,.ia (m+z.size) (cs++ci z))::sl,.slot d::Va d (fe L ow),Jb d (An L al),bx⟩else none:=rfl
def Wq(st:St):Option Nat->List PV->Bool->St
 |none,_,_=>st
 |some d,vs,true=>st.Ic d (ed vs)
 |some d,vs,false=>st.put d (ed vs)
theorem F7{vs}{os}:Wq st none vs os=st:=rfl
theorem G7{vs}:Wq st (some d) vs true=st.Ic d (ed vs):=rfl
theorem E7{vs}:Wq st (some d) vs false=st.put d (ed vs):=rfl
def ap(al:List (Nat×Loc)):List (Nat×Loc):=al.filter fun p=>!Da p.2
theorem zc:ap []=[]:=rfl
theorem F1{t i}{r}:ap ((t,.slot i)::r)=(t,.slot i)::ap r:=ra
theorem E1{t b o}{r}:ap ((t,.cell b o)::r)=ap r:=ra
def CE(st:St)(dst:Option Nat):Option Fe->Option St
 |some (vs,os,bx,oc)=>some (Wq ⟨st.sl,og oc++Li st.ow,ap st.al,bx⟩ dst vs os)
 |none=>none
theorem VX{dst}{f}{args}:Lc cf ⟨sl,ow,al,bx⟩ dst f args=CE ⟨sl,ow,al,bx⟩ dst (cf f args bx (og ow)):=by
 simp only[Lc,lu];cases cf f args bx (og ow)with
 |none=>rfl
 |some r=>
  obtain⟨vs,os,bx',oc⟩:=r;simp only[fd,CE,kI,ap];cases dst with
  |none=>rfl
  |some d=>cases os<;>rfl
theorem j6{dst}{vs}{os}{bx'}{oc}:CE ⟨sl,ow,al,bx⟩ dst (some (vs,os,bx',oc))=some (Wq ⟨sl,og oc++Li ow,ap al,bx'⟩ dst vs os):=rfl
def Xy(cf:Callee)(st:St)(dst:Option Nat)(f:FuncId)(args:List PV):Option Fe->Option St
 |some (vs,os,_,_)=>if Ib vs then some (Wq st dst vs os)else Lc cf st dst f args
 |none=>none
def Wy(cf:Callee)(st:St)(dst:Option Nat)(f:FuncId)(args:List PV):Bool->Option St
 |true=>Xy cf st dst f args (cf f args [] [])
 |false=>Lc cf st dst f args
theorem WX{dst}{f}{args}:Sc cf st dst f args=Wy cf st dst f args (Ib args):=by
 unfold Sc;cases Ib args with
 |false=>rfl
 |true=>
  simp only[if_true,Wy];cases cf f args [] []with
  |none=>rfl
  |some r=>
   obtain⟨vs,os,bx',oc⟩:=r;simp only[Ja,Xy];split
   ·cases dst with
    |none=>rfl
    |some d=>cases os<;>rfl
   ·rfl
theorem q6{dst}{f}{args}:Wy cf st dst f args true=Xy cf st dst f args (cf f args [] []):=rfl
theorem p6{dst}{f}{args}:Wy cf st dst f args false=Lc cf st dst f args:=rfl
theorem l6{dst}{f}{args vs}{os}{bx'}{oc}:Xy cf st dst f args (some (vs,os,bx',oc))=if Ib vs then some (Wq st dst vs os)else Lc cf st dst f args:=rfl
theorem zc6{dst}{f}{args}:oa cf st dst (.call f args)=Sc cf st dst f (Gm st.sl args):=by
 simp only[oa,ts]
def Yy(cf:Callee)(st:St)(dst:Option Nat)(args:List PV):PV->Option St
 | .ib f fb=>if f=kb then none else Sc cf st dst f (args++fb)
 | .tag k cs=>if k % 2=0/\k/2≠kb then Sc cf st dst (k/2) (cs++args)else none
 | .Sa b=>Lc cf st dst kb (.Sa b::args)
 |_=>none
theorem zc8{dst}{g}{args}:oa cf st dst (.callv g args)=Yy cf st dst (Gm st.sl args) (g.ev st.sl):=by
 simp only[oa,ts];rfl
theorem m6{dst}{args fb}{f}:Yy cf st dst args (.ib f fb)=if f=kb then none else Sc cf st dst f (args++fb):=rfl
theorem n6{dst}{args cs}{k}:Yy cf st dst args (.tag k cs)=if k % 2=0/\k/2≠kb then Sc cf st dst (k/2) (cs++args)else none:=rfl
def YQ(cf:Callee)(st:St)(dst:Option Nat)(Eh:List (Nat×Nat))(args:List PV):PV->Option St
 | .tag k [v]=>(Eh.lookup k).bind fun f=>if f=kb then none else Sc cf st dst f (v.jb::args)
 |_=>none
theorem zc7{dst}{Eh}{x}{args}:oa cf st dst (.calli Eh x args)=YQ cf st dst Eh (Gm st.sl args) (x.ev st.sl):=by
 simp only[oa,ts];rfl
theorem k6{dst}{Eh}{args}{k v}:YQ cf st dst Eh args (.tag k [v])=(Eh.lookup k).bind fun f=>if f=kb then none else Sc cf st dst f (v.jb::args):=rfl
theorem o6{dst}{args}{b}:Yy cf st dst args (.Sa b)=Lc cf st dst kb (.Sa b::args):=rfl
theorem zcu{dst}{op}:stepG cf st ⟨dst,none,op⟩=oa cf st dst op:=rfl
def NE(cf:Callee)(st:St)(dst:Option Nat)(op:Ea)(a:Bool):PV->Option St
 | .flat (.bool b)=>if b=a then oa cf st dst op else some (st.Nd dst (.Jc []))
 | .Jc []=>some (st.Nd dst (.Jc []))
 |_=>none
theorem zcv{dst}{op}{s}{a}:stepG cf st ⟨dst,some (s,a),op⟩=NE cf st dst op a (look st.sl s):=by
 simp only[stepG,xh];generalize look st.sl s=p;cases p with
 |flat v=>cases v<;>first|rfl|(rename_i b;cases b<;>cases a<;>rfl)
 |Jc l=>cases l<;>rfl
 |_=>rfl
theorem M6{dst}{op}{b a}:NE cf st dst op a (.flat (.bool b))=if b=a then oa cf st dst op else some (st.Nd dst (.Jc [])):=rfl
theorem N6{dst}{op}{a}:NE cf st dst op a (.Jc [])=some (st.Nd dst (.Jc [])):=rfl
def dR(cf:Callee)(r:List Wa):Option St->Option St
 |some st=>Hc cf r st
 |none=>none
theorem W_:Hc cf [] st=some st:=rfl
theorem V_{o}{r}:Hc cf (o::r) st=dR cf r (stepG cf st o):=by
 simp only[Hc];cases stepG cf st o<;>rfl
theorem l7{r}:dR cf r (some st)=Hc cf r st:=rfl
def fR(cf:Callee)(r:List Wa):Option St->Option St
 |some st=>tg cf r st
 |none=>none
theorem pre_nil:tg cf [] st=some st:=rfl
theorem zbs{o}{r}:tg cf (o::r) st=fR cf r (ce cf st o):=by
 simp only[tg];cases ce cf st o<;>rfl
theorem s7{r}:fR cf r (some st)=tg cf r st:=rfl
def Zy(cf:Callee)(st:St)(dst:Option Nat)(op:Ea):Bool->Option St
 |true=>oa cf st dst op
 |false=>none
theorem w6{dst}{op}:Zy cf st dst op true=oa cf st dst op:=rfl
theorem zdC{dst}{op}:ce cf st ⟨dst,none,op⟩=Zy cf st dst op (ob cf st.sl op):=by
 simp only[ce,xh,Ja,if_true];cases ob cf st.sl op<;>rfl
def cz(cf:Callee)(st:St)(dst:Option Nat)(op:Ea)(a:Bool):PV->Option St
 | .flat (.bool b)=>if b=a then Zy cf st dst op (ob cf st.sl op)else some (st.Nd dst (.Jc []))
 | .Jc []=>some (st.Nd dst (.Jc []))
 |_=>none
theorem zdD{dst}{op}{s}{a}:ce cf st ⟨dst,some (s,a),op⟩=cz cf st dst op a (look st.sl s):=by
 simp only[ce,xh];generalize look st.sl s=p;cases p with
 |flat v=>
  cases v<;>first|rfl|skip
  rename_i b;cases b<;>cases a<;>first|rfl|(simp only[cz,Ja,BEq.rfl,if_true];cases ob cf st.sl op<;>rfl)
 |Jc l=>cases l<;>rfl
 |_=>rfl
theorem K6{dst}{op}{b a}:cz cf st dst op a (.flat (.bool b))=if b=a then Zy cf st dst op (ob cf st.sl op)else some (st.Nd dst (.Jc [])):=rfl
theorem L6{dst}{op}{a}:cz cf st dst op a (.Jc [])=some (st.Nd dst (.Jc [])):=rfl
theorem za4{x}:ob cf sl (.mv x)=true:=rfl
theorem za5{s}:ob cf sl (.mvA s)=true:=rfl
theorem zaG{x}:ob cf sl (.asg x)=true:=rfl
theorem za9{a b c}:ob cf sl (.pick a b c)=true:=rfl
theorem zaJ{o}{x y}:ob cf sl (.bin o x y)=true:=rfl
theorem zaQ{b}{ks}{x y}:ob cf sl (.Cn b ks x y)=true:=rfl
theorem zaI{b}{x y}:ob cf sl (.beq b x y)=true:=rfl
theorem za6{x}:ob cf sl (.jr x)=true:=rfl
theorem za7{x}:ob cf sl (.Um x)=true:=rfl
theorem zbd{o}{x}:ob cf sl (.un o x)=true:=rfl
theorem zaP{k}{x}:ob cf sl (.conv k x)=true:=rfl
theorem zaH{x}:ob cf sl (.b2s x)=true:=rfl
theorem zaL{zs}{ps}:ob cf sl (.build zs ps)=true:=rfl
theorem za1{b}{m k}{zs}{ps}:ob cf sl (.mksl b m k zs ps)=true:=rfl
theorem zaZ{g}{m}{a}:ob cf sl (.load g m a)=true:=rfl
theorem za0{a}:ob cf sl (.loadA a)=true:=rfl
theorem zaS{o}{a}:ob cf sl (.fp o a)=true:=rfl
theorem zaT{g}{o m}{a}:ob cf sl (.In g o m a)=true:=rfl
theorem zaU{m}{x i}:ob cf sl (.Rk m x i)=true:=rfl
theorem zaV{x i}:ob cf sl (.idx x i)=true:=rfl
theorem zaW{g}{m k}{x i}:ob cf sl (.Lm g m k x i)=true:=rfl
theorem za8{m k}{x i}:ob cf sl (.Yn m k x i)=true:=rfl
theorem zbb{m k}{x}{b a}:ob cf sl (.sliceP m k x b a)=true:=rfl
theorem zba{m}{x}{b a}:ob cf sl (.slice m x b a)=true:=rfl
theorem zbc{x}{b a}:ob cf sl (.sliceS x b a)=true:=rfl
theorem zaR{x}{i}:ob cf sl (.ext x i)=true:=rfl
theorem zaX{x}:ob cf sl (.len x)=true:=rfl
theorem zaY{x}:ob cf sl (.tp x)=true:=rfl
theorem za3{b}{x y}:ob cf sl (.mm b x y)=true:=rfl
theorem zaO{f}{cs}:ob cf sl (.clos f cs)=true:=rfl
theorem za2{f}{cs}:ob cf sl (.mkt f cs)=true:=rfl
theorem zaF{e}{zs}:ob cf sl (.alloc e zs)=Ll zs:=rfl
theorem zaK{e m}{x}:ob cf sl (.box e m x)=Ll (x.ev sl).cells:=rfl
theorem zaM{f}{args}:ob cf sl (.call f args)=wj cf f (Gm sl args):=by grind [ob,ts]
theorem zaN{g}{args}:ob cf sl (.callv g args)=match g.ev sl with| .ib f fb=>f !=kb&&wj cf f (Gm sl args++fb)|_=>false:=by
 grind [ob,ts]
def eR:Option Fe->Bool
 |some (vs,_)=>Ib vs
 |none=>false
theorem zbk{f}{args}:wj cf f args=(Ib args&&eR (cf f args [] [])):=by
 rfl
theorem r7{vs}{r}:eR (some (vs,r))=Ib vs:=rfl
def hz(live:List Nat):Option St->Option (Out×St)
 |some st=>some (.normal,st.Ye live)
 |none=>none
theorem B7:hz live (some st)=some (.normal,st.Ye live):=rfl
def YE(cf:Callee)(live:List Nat)(a:List Wa):Option St->Option (Out×St)
 |some st=>hz live (Hc cf a st)
 |none=>none
theorem y7{a}:YE cf live a (some st)=hz live (Hc cf a st):=rfl
noncomputable def kT(cf:Callee)(live:List Nat)(t:BT):Option St->Option St
 |some st=>wd cf live t st
 |none=>none
theorem U7{t}:kT cf live t (some st)=wd cf live t st:=rfl
theorem zeK:wd cf live .done st=some (st.Ye live):=rfl
theorem zeL{o}{t}:wd cf live (.one o t) st=kT cf live t (stepG cf st o):=by
 simp only[wd];cases stepG cf st o<;>rfl
theorem zeM{o}{t r}:wd cf live (.two o t r) st=same (kT cf live t (stepG cf st o)) (wd cf live r st):=by
 simp only[wd];cases stepG cf st o<;>rfl
theorem eI{st:St}:same (some st) (some st)=some st:=if_pos rfl
def iz:Option St->Option (Out×St)
 |some st=>some (.normal,st)
 |none=>none
theorem A7:iz (some st)=some (.normal,st):=rfl
theorem zbF:Tf cf [] st=some st:=rfl
noncomputable def kQ(cf:Callee)(r:List Wa):Option St->Option St
 |some st=>Tf cf r st
 |none=>none
theorem u7{r}:kQ cf r (some st)=Tf cf r st:=rfl
theorem zbE{o}{r}:Tf cf (o::r) st=kQ cf r (Pc cf st o):=by
 simp only[Tf];cases Pc cf st o<;>rfl
noncomputable def sp(st:St)(d:Nat):Option St->Option St
 |some s'=>gv st d s' (s'.bx=st.bx) (s'.ow.filter Da=st.ow.filter Da)
 |none=>none
where
 gv (st:St) (d:Nat) (s':St) (p q:Prop):Option St:=open Classical in if p/\q then some (st.put d (look s'.sl d))else none
theorem v7{s1}{b}{c}{a}{d}:sp ⟨sl,ow,al,bx⟩ d (some ⟨s1,b,c,a⟩)=sp.gv ⟨sl,ow,al,bx⟩ d ⟨s1,b,c,a⟩ (a=bx) (og b=og ow):=by
 grind [sp,lu]
theorem w7{d}{s1}{c}{a}{b}:sp.gv st d ⟨s1,c,a,b⟩ True True=some (st.put d (look s1 d)):=by
 grind [sp.gv]
theorem zdO{d}{g}{f}{az}:Pc cf st ⟨some d,g,.call f az⟩=sp st d (stepG cf st ⟨some d,g,.call f az⟩):=by
 unfold Pc;dsimp only;cases stepG cf st ⟨some d,g,.call f az⟩<;>grind [sp,sp.gv]
theorem zd3{d}{g}{x}:Pc cf st ⟨d,g,.mv x⟩=stepG cf st ⟨d,g,.mv x⟩:=ra
theorem zdK{d}{g}{x}:Pc cf st ⟨d,g,.asg x⟩=stepG cf st ⟨d,g,.asg x⟩:=ra
theorem zd7{d}{g}{a b c}:Pc cf st ⟨d,g,.pick c a b⟩=stepG cf st ⟨d,g,.pick c a b⟩:=ra
theorem zdM{d}{g}{o}{x y}:Pc cf st ⟨d,g,.bin o x y⟩=stepG cf st ⟨d,g,.bin o x y⟩:=ra
theorem zdR{d}{g}{b}{ks}{x y}:Pc cf st ⟨d,g,.Cn b ks x y⟩=stepG cf st ⟨d,g,.Cn b ks x y⟩:=ra
theorem zdL{d}{g}{b}{x y}:Pc cf st ⟨d,g,.beq b x y⟩=stepG cf st ⟨d,g,.beq b x y⟩:=ra
theorem zd4{d}{g}{x}:Pc cf st ⟨d,g,.jr x⟩=stepG cf st ⟨d,g,.jr x⟩:=ra
theorem zd5{d}{g}{x}:Pc cf st ⟨d,g,.Um x⟩=stepG cf st ⟨d,g,.Um x⟩:=ra
theorem zeb{d}{g}{o}{x}:Pc cf st ⟨d,g,.un o x⟩=stepG cf st ⟨d,g,.un o x⟩:=ra
theorem zdQ{d}{g}{k}{x}:Pc cf st ⟨d,g,.conv k x⟩=stepG cf st ⟨d,g,.conv k x⟩:=ra
theorem zdN{d}{g}{zs}{ps}:Pc cf st ⟨d,g,.build zs ps⟩=stepG cf st ⟨d,g,.build zs ps⟩:=ra
theorem zd0{d}{g}{b}{m}{x}:Pc cf st ⟨d,g,.load b m x⟩=stepG cf st ⟨d,g,.load b m x⟩:=ra
theorem zdT{d}{g}{o}{x}:Pc cf st ⟨d,g,.fp o x⟩=stepG cf st ⟨d,g,.fp o x⟩:=ra
theorem zdU{d}{g}{b}{o m}{x}:Pc cf st ⟨d,g,.In b o m x⟩=stepG cf st ⟨d,g,.In b o m x⟩:=ra
theorem zdV{d}{g}{m}{x i}:Pc cf st ⟨d,g,.Rk m x i⟩=stepG cf st ⟨d,g,.Rk m x i⟩:=ra
theorem zdW{d}{g}{x i}:Pc cf st ⟨d,g,.idx x i⟩=stepG cf st ⟨d,g,.idx x i⟩:=ra
theorem zdX{d}{g}{b}{m k}{x i}:Pc cf st ⟨d,g,.Lm b m k x i⟩=stepG cf st ⟨d,g,.Lm b m k x i⟩:=ra
theorem zd6{d}{g}{m k}{x i}:Pc cf st ⟨d,g,.Yn m k x i⟩=stepG cf st ⟨d,g,.Yn m k x i⟩:=ra
theorem zd9{d}{g}{m k}{x}{b a}:Pc cf st ⟨d,g,.sliceP m k x b a⟩=stepG cf st ⟨d,g,.sliceP m k x b a⟩:=ra
theorem zd8{d}{g}{m}{x}{b a}:Pc cf st ⟨d,g,.slice m x b a⟩=stepG cf st ⟨d,g,.slice m x b a⟩:=ra
theorem zea{d}{g}{x}{b a}:Pc cf st ⟨d,g,.sliceS x b a⟩=stepG cf st ⟨d,g,.sliceS x b a⟩:=ra
theorem zdS{d}{g}{x}{i}:Pc cf st ⟨d,g,.ext x i⟩=stepG cf st ⟨d,g,.ext x i⟩:=ra
theorem zdY{d}{g}{x}:Pc cf st ⟨d,g,.len x⟩=stepG cf st ⟨d,g,.len x⟩:=ra
theorem zdZ{d}{g}{x}:Pc cf st ⟨d,g,.tp x⟩=stepG cf st ⟨d,g,.tp x⟩:=ra
theorem zd2{d}{g}{b}{x y}:Pc cf st ⟨d,g,.mm b x y⟩=stepG cf st ⟨d,g,.mm b x y⟩:=ra
theorem zdP{d}{g}{f}{xs}:Pc cf st ⟨d,g,.clos f xs⟩=stepG cf st ⟨d,g,.clos f xs⟩:=ra
theorem zd1{d}{g}{f}{xs}:Pc cf st ⟨d,g,.mkt f xs⟩=stepG cf st ⟨d,g,.mkt f xs⟩:=ra
noncomputable def ZE(cf:Callee)(live:List Nat)(t:BT):Option St->Option (Out×St)
 |some st=>iz (wd cf live t st)
 |none=>none
theorem z7{t}:ZE cf live t (some st)=iz (wd cf live t st):=rfl
theorem QX{t}:ma cf n (.Od live [] t) st=iz (wd cf live t st):=by
 simp only[ma,Tf,Ja];cases wd cf live t st<;>rfl
theorem RX{p}{ps}{t}:ma cf n (.Od live (p::ps) t) st=ZE cf live t (Tf cf (p::ps) st):=by
 simp only[ma];cases Tf cf (p::ps) st with
 |none=>rfl
 |some s=>simp only[Ja,ZE];cases wd cf live t s<;>rfl
theorem TX:ma cf n .skip st=some (.normal,st):=rfl
theorem OX{a}:ma cf n (.Ab live [] a) st=hz live (Hc cf a st):=by
 simp only[ma,tg,Ja];cases Hc cf a st<;>rfl
theorem PX{p}{ps a}:ma cf n (.Ab live (p::ps) a) st=YE cf live a (tg cf (p::ps) st):=by
 simp only[ma];cases tg cf (p::ps) st with
 |none=>rfl
 |some s=>simp only[Ja,YE];cases Hc cf a s<;>rfl
noncomputable def jz(cf:Callee)(n:Nat)(b:ka):Option (Out×St)->Option (Out×St)
 |some (.normal,st)=>ma cf n b st
 |some (.exit i,st)=>some (.exit i,st)
 |some (.ret,st)=>some (.ret,st)
 |none=>none
theorem ju{a b}:ma cf n (.seq a b) st=jz cf n b (ma cf n a st):=by
 simp only[ma];cases ma cf n a st with
 |none=>rfl
 |some r=>obtain⟨o,s⟩:=r;cases o<;>rfl
theorem jv{b}:jz cf n b (some (.normal,st))=ma cf n b st:=rfl
theorem I7{b}{i}:jz cf n b (some (.exit i,st))=some (.exit i,st):=rfl
theorem J7{b}:jz cf n b (some (.ret,st))=some (.ret,st):=rfl
noncomputable def aR(cf:Callee)(n:Nat)(a b:ka)(st:St):PV->Option (Out×St)
 | .flat (.bool t)=>if t then ma cf n a st else ma cf n b st
 |_=>none
theorem CX{c}{a b}:ma cf n (.cond c a b) st=aR cf n a b st (c.ev st.sl):=by
 rfl
theorem s6{a b}{t}:aR cf n a b st (.flat (.bool t))=if t then ma cf n a st else ma cf n b st:=rfl
def Yu(id nb:Nat):Option (Out×St)->Option (Out×St)
 |some (.normal,st)=>some (.normal,st.xi nb)
 |some (.exit j,st)=>if j=id then some (.normal,st.xi nb)else some (.exit j,st)
 |some (.ret,st)=>some (.ret,st)
 |none=>none
theorem AX{id}{b}:ma cf n (.block id b) st=Yu id st.bx.length (ma cf n b st):=by
 simp only[ma];cases ma cf n b st with
 |none=>rfl
 |some r=>
  obtain⟨o,s⟩:=r;cases o<;>grind [Yu]
theorem b6{id nb}:Yu id nb (some (.normal,st))=some (.normal,st.xi nb):=rfl
theorem a6{id nb j}:Yu id nb (some (.exit j,st))=if j=id then some (.normal,st.xi nb)else some (.exit j,st):=rfl
theorem c6{id nb}:Yu id nb (some (.ret,st))=some (.ret,st):=rfl
theorem EX{b}:ma cf n (.loop live b) st=Ac (ma cf n b) live st.bx.length n (st.only live st.bx.length):=rfl
theorem DX{id}:ma cf n (.exit id live) st=some (.exit id,st.Ye live):=rfl
theorem SX:ma cf n (.ret live) st=some (.ret,st.Ye live):=rfl
def fv(b:Nat)(f k:Nat)(live:List Nat)(a:List PV)(st:St):gq->Option (Out×St)
 | .ready=>some (.normal,⟨st.sl,st.ow,st.al,st.bx.set b (0,[.lp f k .over live a])⟩)
 | .done (.exit i)=>some (.exit i,⟨st.sl,st.ow,st.al,st.bx.set b (0,[.lp f k .over live a])⟩)
 | .done .ret=>some (.ret,⟨st.sl,st.ow,st.al,st.bx.set b (0,[.lp f k .over live a])⟩)
 |_=>none
theorem n7{b f k}{a}:fv b f k live a ⟨sl,ow,al,bx⟩ .ready=some (.normal,⟨sl,ow,al,bx.set b (0,[.lp f k .over live a])⟩):=rfl
theorem m7{b f k i}{a}:fv b f k live a ⟨sl,ow,al,bx⟩ (.done (.exit i))=some (.exit i,⟨sl,ow,al,bx.set b (0,[.lp f k .over live a])⟩):=rfl
theorem o7{b f k}{a}:fv b f k live a ⟨sl,ow,al,bx⟩ (.done .ret)=some (.ret,⟨sl,ow,al,bx.set b (0,[.lp f k .over live a])⟩):=rfl
def FE(b:Nat)(st:St):Option (Nat×List PV)->Option (Out×St)
 |some (_,[.lp f k s live a])=>fv b f k live a st s
 |_=>none
theorem x6{b e f k}{s}{a}:FE b st (some (e,[.lp f k s live a]))=fv b f k live a st s:=rfl
def bF(b:Nat):Option St->Option (Out×St)
 |some st=>FE b st (st.bx[b]?)
 |none=>none
theorem H7{b}:bF b (some ⟨sl,ow,al,bx⟩)=FE b ⟨sl,ow,al,bx⟩ (bx[b]?):=rfl
def XE(cf:Callee)(f k:Nat)(live:List Nat)(st:St):PV->Option (Out×St)
 | .ib h fb=>if h=kb then none else bF st.bx.length (Lc cf ⟨st.sl,st.ow,st.al,st.bx++[(0,[.lp f k .ready live (rk (Nn st.sl live))])]⟩ none h (.Sa st.bx.length::fb))
 |_=>none
theorem NX{f k}{g}:ma cf n (.range f k live g) st=XE cf f k live st (g.ev st.sl):=by
 have a:live.map (look st.sl)=rk (Nn st.sl live):=by
  rw[<-NA,IR,List.map_map];rfl
 simp only[ma,Lk];generalize g.ev st.sl=p;cases p with
 |ib h fb=>
  simp only[XE];split
  ·rfl
  ·rw[a]
   cases Lc cf ⟨st.sl,st.ow,st.al,st.bx++[(0,[.lp f k .ready live (rk (Nn st.sl live))])]⟩ none h (.Sa st.bx.length::fb)with
   |none=>rfl
   |some b=>
    rfl
 |_=>rfl
theorem x7{f k}{h}{fb}:XE cf f k live ⟨sl,ow,al,bx⟩ (.ib h fb)=if h=kb then none else bF bx.length (Lc cf ⟨sl,ow,al,bx++[(0,[.lp f k .ready live (rk (Nn sl live))])]⟩ none h (.Sa bx.length::fb)):=rfl
def Ng(st:St):List (Sum Nat (Nat×Bool×Nat))->Option (List PV)
 |[]=>some []
 | .inl i::r=>(Ng st r).map (look st.sl i::·)
 | .inr (i,agg,m)::r=>aF (match look st.sl i with| .ptr b o=>Sl agg m o (td st.bx b)|_=>none) (Ng st r)
where aF:Option PV->Option (List PV)->Option (List PV)
 |some v,some vs=>some (v::vs)
 |_,_=>none
theorem zca:Ng st []=some []:=rfl
theorem TT{i}{r}:Ng st (.inl i::r)=(Ng st r).map (look st.sl i::·):=rfl
def iv(st:St)(agg:Bool)(m:Nat):PV->Option PV
 | .ptr b o=>Sl agg m o (td st.bx b)
 |_=>none
theorem UT{i m}{agg}{r}:Ng st (.inr (i,agg,m)::r)=Ng.aF (iv st agg m (look st.sl i)) (Ng st r):=by
 rfl
theorem D7{agg}{m b o}:iv ⟨sl,ow,al,bx⟩ agg m (.ptr b o)=Sl agg m o (td bx b):=rfl
theorem C7{v}{vs}:Ng.aF (some v) (some vs)=some (v::vs):=rfl
theorem kA:∀l,l.mapM (Hi st)=Ng st l
 |[]=>rfl
 | .inl i::r=>by
   rw[Qp,kA r,TT];simp only[Hi,Option.pure_def,Option.bind_eq_bind,Ja];cases Ng st r<;>rfl
 | .inr (i,agg,m)::r=>by
   rw[Qp,kA r,UT];have a:Hi st (.inr (i,agg,m))=iv st agg m (look st.sl i):=by
    simp only[Hi];generalize look st.sl i=p;cases p with
    |ptr b o=>
     simp only[iv];cases td st.bx b with
     |none=>rfl
     |some q=>obtain⟨e,cs⟩:=q;cases agg<;>rfl
    |_=>rfl
   rw[a];simp only[Option.pure_def,Option.bind_eq_bind];cases iv st agg m (look st.sl i)with
   |none=>rfl
   |some v=>cases Ng st r<;>rfl
def kj(Ua:List (Sum Nat (Nat×Bool×Nat)))(bx:Oa)(st:St):Option (List PV)->Option Fe
 |some vs=>some (vs,Hp Ua st.ow,trim bx.length vs st.bx,qc (trim bx.length vs st.bx).length st.ow)
 |none=>none
where Hp:List (Sum Nat (Nat×Bool×Nat))->List Loc->Bool
 |[.inl s],ow=>owns ow (.slot s)
 |_,_=>false
def Uj(Ua:List (Sum Nat (Nat×Bool×Nat)))(bx:Oa):Option (Out×St)->Option Fe
 |some (.normal,st)=>kj Ua bx st (Ng st Ua)
 |some (.ret,st)=>kj Ua bx st (Ng st Ua)
 |_=>none
theorem la{code}{lib}{f}{nt}{Ua}{body}{bo}(c:code f=some ⟨nt,Ua,body,bo⟩){args}{bx}{oc}{r}(e:args.length<=nt)
 (h:Uj Ua bx (ma (da code lib) ja body ⟨yh 0 args,oc,[],bx⟩)=some r):da code lib f args bx oc=some r:=by
 refine kP (n:=ja) c ?_;unfold En;dsimp only;rw[if_pos e];cases b:ma (da code lib) ja body ⟨yh 0 args,oc,[],bx⟩with
 |none=>rw[b]at h;cases h
 |some p=>
  obtain⟨o,st⟩:=p;rw[b]at h;have a:Ol Ua st.ow=kj.Hp Ua st.ow:=by
   have d:∀s,decide (Loc.slot s∈st.ow)=owns st.ow (.slot s):=fun s=>by
    grind [vj]
   clear b h c;generalize Ua=rs;rcases rs with _|⟨q,_|⟨g,rs⟩⟩
   ·rfl
   ·cases q with
    |inl s=>exact d s
    |inr x=>rfl
   ·cases q<;>rfl
  have fin:kj Ua bx st (Ng st Ua)=some r->(Ua.mapM (Hi st)).map (fun vs=>(vs,Ol Ua st.ow,trim bx.length vs st.bx,dj (trim bx.length vs st.bx).length st.ow))=some r:=fun h=>by
   rw[kA];cases hr:Ng st Ua with
   |none=>rw[hr]at h;cases h
   |some vs=>rw[hr]at h;simp only[fd,a,yt];exact h
  cases o with
  |exit i=>cases h
  |normal=>exact fin h
  |ret=>exact fin h
theorem E6{Ua}:Uj Ua bx (some (.normal,st))=kj Ua bx st (Ng st Ua):=rfl
theorem F6{Ua}:Uj Ua bx (some (.ret,st))=kj Ua bx st (Ng st Ua):=rfl
theorem T6{Ua}{vs}:kj Ua bx st (some vs)=some (vs,kj.Hp Ua st.ow,trim bx.length vs st.bx,qc (trim bx.length vs st.bx).length st.ow):=rfl
theorem zah{s}:kj.Hp [.inl s] ow=owns ow (.slot s):=rfl
theorem zag:kj.Hp [] ow=false:=rfl
theorem zaj{q}{r}:kj.Hp (.inr q::r) ow=false:=rfl
theorem zai{a b}{r}:kj.Hp (a::b::r) ow=false:=by cases a<;>rfl
def Gs(nb b:Nat)(f k:Nat)(live:List Nat)(a:List PV)(o:Out)(ow:List Loc)(bx:Oa):Option Fe:=
 match o with
 | .normal=>some ([.flat (.bool true)],false,trim nb [] (bx.set b (0,[.lp f k .ready live a])),qc (trim nb [] (bx.set b (0,[.lp f k .ready live a]))).length ow)
 | .exit i=>some ([.flat (.bool false)],false,trim nb [] (bx.set b (0,[.lp f k (.done (.exit i)) live a])),qc (trim nb [] (bx.set b (0,[.lp f k (.done (.exit i)) live a]))).length ow)
 | .ret=>some ([.flat (.bool false)],false,trim nb [] (bx.set b (0,[.lp f k (.done .ret) live a])),qc (trim nb [] (bx.set b (0,[.lp f k (.done .ret) live a]))).length ow)
def mz(nb b:Nat)(o:Out)(st:St):Option (Nat×List PV)->Option Fe
 |some (_,[.lp f k .busy live a])=>Gs nb b f k live a o st.ow st.bx
 |_=>none
def nz(nb b:Nat):Option (Out×St)->Option Fe
 |some (o,st)=>mz nb b o st (st.bx[b]?)
 |none=>none
noncomputable def oz(cf:Callee)(n:Nat)(nb b:Nat)(body:ka)(st:St):Option (Nat×List PV)->Option Fe
 |some (_,[.lp f k .ready live a])=>nz nb b (ma cf n body ⟨st.sl,st.ow,st.al,st.bx.set b (0,[.lp f k .busy live a])⟩)
 |_=>none
noncomputable def gF(cf:Callee)(n:Nat)(nb b:Nat)(body:ka):Option (Out×St)->Option Fe
 |some (.normal,st)=>oz cf n nb b body st (st.bx[b]?)
 |_=>none
theorem ep{code}{lib}(F:code kb=none){f k b e:Nat}{a}{c}{ps}{q t}(C:code f=some c)(E:c.bo[k]?=some (ps,q,t)){az}{bx}{oc}{r}
 (B:bx[b]?=some (e,[.lp f k .ready live a])) (D:az.length=ps.length)
 (h:gF (da code lib) ja bx.length b t (ma (da code lib) ja q ⟨(ps.zip az).foldl (fun l p=>p::l) (live.zip a),oc,[],bx⟩)=some r):da code lib kb (.Sa b::az) bx oc=some r:=by
 refine E2 (n:=ja) F ?_;unfold Bl;dsimp only;rw[B];dsimp only;rw[C,Ja,E,Ja,if_pos D];dsimp only;cases z:ma (da code lib) ja q ⟨(ps.zip az).foldl (fun l p=>p::l) (live.zip a),oc,[],bx⟩with
 |none=>rw[z]at h;cases h
 |some p=>
  obtain⟨H,s1⟩:=p;rw[z]at h;simp only[Ja];cases H with
  |exit i=>cases h
  |ret=>cases h
  |normal=>
   simp only[gF]at h;unfold oz at h;split at h
   case h_2=>cases h
   rename_i e1 A G d g u;rw[u];dsimp only;cases j:ma (da code lib) ja t ⟨s1.sl,s1.ow,s1.al,s1.bx.set b (0,[.lp A G .busy d g])⟩with
   |none=>rw[j]at h;cases h
   |some p=>
    obtain⟨o,s⟩:=p;rw[j]at h;simp only[Ja];simp only[nz]at h;unfold mz at h;split at h
    case h_2=>cases h
    rename_i e2 I J x y w;rw[w];dsimp only;have ht:∀(v:Bool)(bx':Oa),trim bx.length [.flat (.bool v)] bx'=trim bx.length [] bx':=fun v bx'=>by
     rfl
    grind [Gs,yt]
theorem V7{nb b}{body}:gF cf n nb b body (some (.normal,⟨sl,ow,al,bx⟩))=oz cf n nb b body ⟨sl,ow,al,bx⟩ (bx[b]?):=rfl
theorem Y7{nb b e f k}{body}{a}:oz cf n nb b body ⟨sl,ow,al,bx⟩ (some (e,[.lp f k .ready live a]))=nz nb b (ma cf n body ⟨sl,ow,al,bx.set b (0,[.lp f k .busy live a])⟩):=rfl
theorem X7{nb b}{o}:nz nb b (some (o,⟨sl,ow,al,bx⟩))=mz nb b o ⟨sl,ow,al,bx⟩ (bx[b]?):=rfl
theorem W7{nb b e f k}{o}{a}:mz nb b o ⟨sl,ow,al,bx⟩ (some (e,[.lp f k .busy live a]))=Gs nb b f k live a o ow bx:=rfl
theorem a8{nb b f k}{a}:Gs nb b f k live a .normal ow bx=some ([.flat (.bool true)],false,trim nb [] (bx.set b (0,[.lp f k .ready live a])),qc (trim nb [] (bx.set b (0,[.lp f k .ready live a]))).length ow):=rfl
theorem Z7{nb b f k i}{a}:Gs nb b f k live a (.exit i) ow bx=some ([.flat (.bool false)],false,trim nb [] (bx.set b (0,[.lp f k (.done (.exit i)) live a])),qc (trim nb [] (bx.set b (0,[.lp f k (.done (.exit i)) live a]))).length ow):=rfl
theorem c8{nb b f k}{a}:Gs nb b f k live a .ret ow bx=some ([.flat (.bool false)],false,trim nb [] (bx.set b (0,[.lp f k (.done .ret) live a])),qc (trim nb [] (bx.set b (0,[.lp f k (.done .ret) live a]))).length ow):=rfl
end
theorem T2{k}{a b}:Tc .add (.int k a) (.int k b)=some (.int k (k.wrap (a+b))):=by simp[Tc]
theorem l3{k}{a b}:Tc .sub (.int k a) (.int k b)=some (.int k (k.wrap (a - b))):=by simp[Tc]
theorem b3{k}{a b}:Tc .mul (.int k a) (.int k b)=some (.int k (k.wrap (a* b))):=by simp[Tc]
theorem h3{k}{a b}:Tc .quo (.int k a) (.int k b)=if b=0 then none else some (.int k (k.wrap (a.tdiv b))):=by simp[Tc]
theorem i3{k}{a b}:Tc .rem (.int k a) (.int k b)=if b=0 then none else some (.int k (a.tmod b)):=by simp[Tc]
def wm(k:IntKind)(a b:Int):Int:=k.wrap (BitVec.ofInt k.bits a&&&BitVec.ofInt k.bits b).toNat
theorem U2{k}{a b}:Tc .and (.int k a) (.int k b)=some (.int k (wm k a b)):=by simp[Tc,wm]
def Fg(k:IntKind)(a b:Int):Int:=k.wrap (BitVec.ofInt k.bits a|||BitVec.ofInt k.bits b).toNat
theorem f3{k}{a b}:Tc .or (.int k a) (.int k b)=some (.int k (Fg k a b)):=by simp[Tc,Fg]
def eK(k:IntKind)(a b:Int):Int:=k.wrap (BitVec.ofInt k.bits a ^^^ BitVec.ofInt k.bits b).toNat
theorem m3{k}{a b}:Tc .xor (.int k a) (.int k b)=some (.int k (eK k a b)):=by simp[Tc,eK]
theorem j3{k k'}{a b}:Tc .shl (.int k a) (.int k' b)=if b<0 then none else some (.int k (k.wrap (a* 2^(min b.toNat k.bits)))):=ra
theorem k3{k k'}{a b}:Tc .shr (.int k a) (.int k' b)=if b<0 then none else some (.int k (a.fdiv (2^(min b.toNat k.bits)))):=ra
theorem V2{k}{a b}:Tc .eql (.int k a) (.int k b)=some (.bool (decide (a=b))):=by grind [Tc]
theorem d3{k}{a b}:Tc .neq (.int k a) (.int k b)=some (.bool (!decide (a=b))):=by grind [Tc]
theorem Z2{k}{a b}:Tc .lss (.int k a) (.int k b)=some (.bool (decide (a<b))):=by simp[Tc]
theorem Y2{k}{a b}:Tc .leq (.int k a) (.int k b)=some (.bool (decide (a<=b))):=by simp[Tc]
theorem X2{k}{a b}:Tc .gtr (.int k a) (.int k b)=some (.bool (decide (b<a))):=by simp[Tc]
theorem W2{k}{a b}:Tc .geq (.int k a) (.int k b)=some (.bool (decide (b<=a))):=by simp[Tc]
theorem Cx(a:ByteArray):a.toList=a.data.toList:=ByteArray.toList_eq a
def Bn(a b:ByteArray):Bool:=decide (a=b)
theorem Z3{a b}:Tc .add (.string a) (.string b)=if a.size+b.size<=za then some (.string (a++b))else none:=rfl
def WO{a b}:(a.toList==b.toList)=Bn a b:=by
 unfold Bn;by_cases h:a=b
 ·grind
 ·have:a.toList≠b.toList:=fun e=>h (by
   cases a with|mk x=>cases b<;>grind [Cx,Array.ext'])
  grind
theorem f2{a b}{ks}{cs c}:Mc (.s::ks) (.flat (.string a)::cs) (.flat (.string b)::c)=Qy (Bn a b) (Mc ks cs c):=by
 have h:(a==b)=Bn a b:=by
  show(a.data==b.data)=_;unfold Bn;by_cases h:a=b
  ·grind
  ·have:a.data≠b.data:=fun e=>h (by cases a;simp_all)
   grind
 simp only[Mc,h];cases Mc ks cs c<;>rfl
theorem b4{a b}:Tc .eql (.string a) (.string b)=some (.bool (Bn a b)):=by rw[<-WO];rfl
theorem d4{a b}:Tc .neq (.string a) (.string b)=some (.bool !(Bn a b)):=by rw[<-WO];rfl
theorem k4{b}:ip .not (.bool b)=some (.bool !b):=rfl
theorem j4{k}{a}:ip .neg (.int k a)=some (.int k (k.wrap (0 - a))):=rfl
theorem wrap64{n}(h:-9223372036854775808<=n/\n<9223372036854775808):IntKind.i64.wrap n=n:=by
 grind [IntKind.wrap,IntKind.bits,IntKind.signed]
theorem wrap32{n}(h:-2147483648<=n/\n<2147483648):IntKind.i32.wrap n=n:=by
 grind [IntKind.wrap,IntKind.bits,IntKind.signed]
theorem Fj{n}(h:0<=n/\n<256):IntKind.u8.wrap n=n:=by
 grind [IntKind.wrap,IntKind.bits,IntKind.signed]
theorem T4{i}:yh i []=[]:=rfl
theorem S4{i}{v}{r}:yh i (v::r)=(i,v)::yh (i+1) r:=rfl
theorem zgq{f:Nat}:(f=kb)=(f=4611686018427387904):=rfl
def ka.lv:ka->List (List Nat)
 | .loop l c=>l::c.lv
 | .Ab l _ _=>[l]
 | .Od l _ _=>[l]
 | .range _ _ l _=>[l]
 | .exit _ l=>[l]
 | .ret l=>[l]
 | .seq a b=>a.lv++b.lv
 | .cond _ a b=>a.lv++b.lv
 | .block _ a=>a.lv
 | .skip=>[]
def q9(qs:List Nat)(F:pa):Lv:=⟨F.body.lv,F.bo.map fun q=>q.2.1.lv++q.2.2.lv,qs⟩
def Za{x y:ka}(h:x=y)(cf:Callee)(m:Nat)(st:St):ma cf m x st=ma cf m y st:=by rw[h]
theorem LG{α:Type}:∀{l:List (FuncId×α)}{f:FuncId}{a:α},l.lookup f=some a->(f,a)∈l
 |[],_,_,h=>by cases h
 |(k,b)::l,f,a,h=>by
  rw[List.lookup_cons]at h;split at h
  ·rename_i e
   cases h;rw[eq_of_beq e];exact It
  ·exact kn _ (LG h)
namespace Q
abbrev i(n:Nat):X:=.c (.flat (.int .i64 n))
abbrev u(n:Nat):X:=.c (.flat (.int .u8 n))
abbrev s(l:Array UInt8):X:=.c (.flat (.string ⟨l⟩))
abbrev b(x:Bool):X:=.c (.flat (.bool x))
abbrev Z:PV:=.flat (.string ⟨#[]⟩)
abbrev V:PV:=.flat (.slice .none 0 0)
abbrev J:PV:=.flat (.int .i64 0)
abbrev o(d:Nat)(p:Ea):Wa:=⟨some d,none,p⟩
abbrev n(p:Ea):Wa:=⟨none,none,p⟩
abbrev g(k d:Nat)(p:Ea):Wa:=⟨some d,some ⟨k,true⟩,p⟩
abbrev h(k d:Nat)(p:Ea):Wa:=⟨some d,some ⟨k,false⟩,p⟩
abbrev m(d x:Nat):Wa:=⟨some d,none,.mv (.t x)⟩
abbrev a(d x:Nat):Wa:=⟨some d,none,.asg (.t x)⟩
abbrev M(x:Nat):Ea:=.mv (.t x)
abbrev A(x:Nat):Ea:=.asg (.t x)
abbrev AI(x:Nat):Ea:=.asg (i x)
abbrev AU(x:Nat):Ea:=.asg (u x)
abbrev AS(x:Array UInt8):Ea:=.asg (s x)
abbrev AB(x:Bool):Ea:=.asg (b x)
abbrev P(x y:Nat):Ea:=.pick (.t x) (.t y) (b false)
abbrev O(x y:Nat):Ea:=.pick (.t x) (b true) (.t y)
abbrev F(k x:Nat):Ea:=.fp k (.t x)
abbrev L(k x:Nat):Ea:=.load false k (.t x)
abbrev LT(k x:Nat):Ea:=.load true k (.t x)
abbrev B(k:BinOp)(x y:Nat):Ea:=.bin k (.t x) (.t y)
abbrev BI(k:BinOp)(x y:Nat):Ea:=.bin k (.t x) (i y)
abbrev BU(k:BinOp)(x y:Nat):Ea:=.bin k (.t x) (u y)
abbrev BS(k:BinOp)(x:Nat)(y:Array UInt8):Ea:=.bin k (.t x) (s y)
abbrev IB(k:BinOp)(x y:Nat):Ea:=.bin k (i x) (.t y)
abbrev SB(k:BinOp)(x:Array UInt8)(y:Nat):Ea:=.bin k (s x) (.t y)
abbrev E(x y:Nat):Ea:=.ext (.t x) y
abbrev S(k x y:Nat):Ea:=.store k (.t x) (.t y)
abbrev N(x:Nat):Ea:=.Um (.t x)
abbrev U(x:Nat):Ea:=.un .not (.t x)
abbrev K(x:Nat):Ea:=.tp (.t x)
abbrev W(x:Nat):Ea:=.len (.t x)
abbrev D(x y:Nat):Ea:=.idx (.t x) (.t y)
abbrev Y(k x y:Nat):Ea:=.Rk k (.t x) (.t y)
abbrev C(k x:Nat):Ea:=.call k [.t x]
abbrev CC(k x y:Nat):Ea:=.call k [.t x,.t y]
abbrev CI(k x y:Nat):Ea:=.call k [.t x,i y]
abbrev CS(k x:Nat)(y:Array UInt8):Ea:=.call k [.t x,s y]
abbrev r(l:List Nat)(p:List Wa):ka:=.Ab l [] p
abbrev q(x y:ka):ka:=.seq x y
abbrev w(x:Nat)(y z:ka):ka:=.cond (.t x) y z
abbrev k(x:Nat)(l:List Nat)(y:ka):ka:=.block x (.loop l y)
abbrev x(l:List Nat):ka:=.ret l
abbrev z:ka:=.skip
end Q
end ya
set_option maxRecDepth 100000
namespace Go.Proofs.YtglaihdcndcmkaaGreatDoor
open ya.Q
def Lx:pa:=⟨144,[.inl 10],(q (r [2,3,4,5,6] [o 5 (.box 23 5 (.t 0)),o 6 (.box 40 3 (.t 1)),o 10 (AB false)]) (q (.Ab [2,3,4,5,6] [o 29 (F 0 5),o 30 (L 1 29),o 31 (C 15 30),o 32 (F 1 5),o 33 (L 1 32),o 34 (C 15 33),o 35 (F 2 5),o 36 (L 1 35),o 37 (C 15 36),o 38 (F 3 5),o 39 (L 1 38),o 40 (C 15 39),o 41 (F 4 5),o 42 (L 1 41)] [o 43 (C 15 42),o 44 (.build [Z,Z,Z,Z,Z] [⟨0,⟨1,.t 31⟩⟩,⟨1,⟨1,.t 34⟩⟩,⟨2,⟨1,.t 37⟩⟩,⟨3,⟨1,.t 40⟩⟩,⟨4,⟨1,.t 43⟩⟩]),n (S 5 5 44)]) (q (.Ab [2,3,4,5,6] [o 45 (F 0 6),o 46 (L 1 45),o 47 (F 1 6),o 48 (L 1 47),o 49 (C 15 48),o 50 (F 2 6),o 51 (L 1 50),o 52 (C 15 51)] [o 53 (.build [.flat (.bool false),Z,Z] [⟨0,⟨1,.t 46⟩⟩,⟨1,⟨1,.t 49⟩⟩,⟨2,⟨1,.t 52⟩⟩]),n (S 3 6 53)]) (q (.Od [2,3,4,5,6,11,12] [o 54 (LT 5 5)] (.two (o 55 (LT 3 6)) (.two (o 11 (.alloc 23 [Z,Z,Z,Z,Z])) (.one (o 12 (.alloc 40 [.flat (.bool false),Z,Z])) (.one (n (S 5 11 54)) (.one (n (S 3 12 55)) .done))) (.one (o 12 (.alloc 40 [.flat (.bool false),Z,Z])) (.one (o 11 (.alloc 23 [Z,Z,Z,Z,Z])) (.one (n (S 5 11 54)) (.one (n (S 3 12 55)) .done))))) (.two (o 11 (.alloc 23 [Z,Z,Z,Z,Z])) (.two (o 55 (LT 3 6)) (.one (o 12 (.alloc 40 [.flat (.bool false),Z,Z])) (.one (n (S 5 11 54)) (.one (n (S 3 12 55)) .done))) (.one (o 12 (.alloc 40 [.flat (.bool false),Z,Z])) (.two (o 55 (LT 3 6)) (.one (n (S 5 11 54)) (.one (n (S 3 12 55)) .done)) (.one (n (S 5 11 54)) (.one (o 55 (LT 3 6)) (.one (n (S 3 12 55)) .done)))))) (.one (o 12 (.alloc 40 [.flat (.bool false),Z,Z])) (.two (o 55 (LT 3 6)) (.one (o 11 (.alloc 23 [Z,Z,Z,Z,Z])) (.one (n (S 5 11 54)) (.one (n (S 3 12 55)) .done))) (.one (o 11 (.alloc 23 [Z,Z,Z,Z,Z])) (.two (o 55 (LT 3 6)) (.one (n (S 5 11 54)) (.one (n (S 3 12 55)) .done)) (.one (n (S 5 11 54)) (.one (o 55 (LT 3 6)) (.one (n (S 3 12 55)) .done)))))))))) (q (r [4,5,6,11,12] [m 56 2,o 57 (C 15 56),m 58 3,o 59 (C 15 58),o 60 (F 2 11),n (S 1 60 57),o 61 (F 3 11),n (S 1 61 59)]) (q (.Od [5,6,11,12] [m 62 4,o 64 (F 0 6)] (.two (o 63 (C 15 62)) (.two (o 65 (L 1 64)) (.two (o 66 (U 65)) (.one (o 67 (F 1 12)) (.one (n (S 1 67 63)) (.one (o 68 (F 0 12)) (.one (n (S 1 68 66)) .done)))) (.one (o 67 (F 1 12)) (.two (o 66 (U 65)) (.one (n (S 1 67 63)) (.one (o 68 (F 0 12)) (.one (n (S 1 68 66)) .done))) (.one (n (S 1 67 63)) (.one (o 66 (U 65)) (.one (o 68 (F 0 12)) (.one (n (S 1 68 66)) .done))))))) (.one (o 67 (F 1 12)) (.two (o 65 (L 1 64)) (.two (o 66 (U 65)) (.one (n (S 1 67 63)) (.one (o 68 (F 0 12)) (.one (n (S 1 68 66)) .done))) (.one (n (S 1 67 63)) (.one (o 66 (U 65)) (.one (o 68 (F 0 12)) (.one (n (S 1 68 66)) .done))))) (.one (n (S 1 67 63)) (.one (o 65 (L 1 64)) (.one (o 66 (U 65)) (.one (o 68 (F 0 12)) (.one (n (S 1 68 66)) .done)))))))) (.one (o 65 (L 1 64)) (.two (o 63 (C 15 62)) (.two (o 66 (U 65)) (.one (o 67 (F 1 12)) (.one (n (S 1 67 63)) (.one (o 68 (F 0 12)) (.one (n (S 1 68 66)) .done)))) (.one (o 67 (F 1 12)) (.two (o 66 (U 65)) (.one (n (S 1 67 63)) (.one (o 68 (F 0 12)) (.one (n (S 1 68 66)) .done))) (.one (n (S 1 67 63)) (.one (o 66 (U 65)) (.one (o 68 (F 0 12)) (.one (n (S 1 68 66)) .done))))))) (.one (o 66 (U 65)) (.one (o 63 (C 15 62)) (.one (o 67 (F 1 12)) (.one (n (S 1 67 63)) (.one (o 68 (F 0 12)) (.one (n (S 1 68 66)) .done)))))))))) (q (r [6,11,12,13,14] [o 70 (LT 5 5),o 71 (C 16 70),m 69 71,o 72 (E 69 0),o 73 (E 69 1),a 13 72,a 14 73]) (q (r [6,12,13,14,15,16] [o 75 (LT 5 11),o 76 (C 16 75),m 74 76,o 77 (E 74 0),o 78 (E 74 1),a 15 77,a 16 78]) (q (r [12,13,14,15,16,17,18] [o 80 (LT 3 6),o 81 (C 17 80),m 79 81,o 82 (E 79 0),o 83 (E 79 1),a 17 82,a 18 83]) (q (r [13,14,15,16,17,18,19,20] [o 85 (LT 3 12),o 86 (C 17 85),m 84 86,o 87 (E 84 0),o 88 (E 84 1),a 19 87,a 20 88]) (q (q (r [13,15,17,18,19,20,94] [m 89 14,o 90 (BI .eql 89 0),m 91 90,g 91 92 (M 16),g 91 93 (BI .eql 92 0),o 94 (P 91 93)]) (w 94 (q (r [15,17,18,19,20,21,22] [m 96 13,o 97 (.call 11 [i 1,.t 96]),m 95 97,o 98 (E 95 0),o 99 (E 95 1),a 21 98,a 22 99]) (q (r [17,18,19,20,21,22,23,24] [m 101 15,o 102 (.call 11 [i 1,.t 101]),m 100 102,o 103 (E 100 0),o 104 (E 100 1),a 23 103,a 24 104]) (q (r [17,18,19,20,115] [m 105 21,m 106 23,o 107 (B .neq 105 106),m 108 107,h 108 109 (M 22),h 108 110 (BI .neq 109 0),o 111 (O 108 110),m 112 111,h 112 113 (M 24),h 112 114 (BI .neq 113 0),o 115 (O 112 114)]) (w 115 (q (r [10] [o 10 (AB false)]) (x [10])) z)))) z)) (q (q (r [17,19,121] [m 116 18,o 117 (BI .eql 116 0),m 118 117,g 118 119 (M 20),g 118 120 (BI .eql 119 0),o 121 (P 118 120)]) (w 121 (q (r [19,25,26] [m 123 17,o 124 (.call 11 [i 2,.t 123]),m 122 124,o 125 (E 122 0),o 126 (E 122 1),a 25 125,a 26 126]) (q (r [25,26,27,28] [m 128 19,o 129 (.call 11 [i 2,.t 128]),m 127 129,o 130 (E 127 0),o 131 (E 127 1),a 27 130,a 28 131]) (q (r [142] [m 132 25,m 133 27,o 134 (B .neq 132 133),m 135 134,h 135 136 (M 26),h 135 137 (BI .neq 136 0),o 138 (O 135 137),m 139 138,h 139 140 (M 28),h 139 141 (BI .neq 140 0),o 142 (O 139 141)]) (w 142 (q (r [10] [o 10 (AB false)]) (x [10])) z)))) z)) (q (r [10] [o 143 (.call 14 []),a 10 143]) (x [10])))))))))))))),[]⟩
def oM:pa:=⟨37,[.inl 0],(q (r [] [o 0 (AB false)]) (q (r [1] [o 8 (.build [.flat (.bool false),Z,Z] [⟨1,⟨1,s #[114]⟩⟩,⟨2,⟨1,s #[123,34,97,34,58,91,34,120,34,44,49,93,125]⟩⟩]),o 9 (C 17 8),m 7 9,o 10 (E 7 0),o 11 (E 7 1),a 1 10,a 2 11]) (q (r [1,3,4] [m 13 1,o 14 (.call 10 [i 2,.t 13]),m 12 14,o 15 (E 12 0),o 16 (E 12 1),a 3 15,a 4 16]) (q (r [3,4,5,6] [m 18 1,o 19 (.call 11 [i 2,.t 18]),m 17 19,o 20 (E 17 0),o 21 (E 17 1),a 5 20,a 6 21]) (q (r [0] [m 22 4,o 23 (BI .eql 22 0),m 24 23,g 24 25 (M 6),g 24 26 (BI .eql 25 0),o 27 (P 24 26),m 28 27,g 28 29 (M 3),g 28 30 (.mksl false 4 1 [Z,Z,Z,Z] [⟨0,⟨1,s #[114]⟩⟩,⟨1,⟨1,s #[123,34,97,34,58,91,34,120,34,44,49,93,125]⟩⟩,⟨2,⟨1,s #[97]⟩⟩,⟨3,⟨1,s #[120]⟩⟩]),g 28 31 (CC 13 29 30),o 32 (P 28 31),m 33 32,g 33 34 (M 5),g 33 35 (BS .eql 34 #[123,34,34,58,91,34,34,44,49,93,125]),o 36 (P 33 35),a 0 36]) (x [0])))))),[]⟩
def pM:pa:=⟨8,[.inl 2],(q (r [0] [o 2 (AS #[])]) (q (r [2] [m 3 0,m 4 0,o 5 (K 4),o 6 (.mm false (.t 5) (i 200)),o 7 (.sliceS (.t 3) .none (.some (.t 6))),a 2 7]) (x [2]))),[]⟩
def jF:ka:=(q (r [0,6,7,8] [o 8 (B .lss 7 6)]) (q (w 8 z (.exit 0 [0])) (q (.block 1 (q (r [0,3,6,7] [m 9 7,a 3 9]) (q (r [0,6,7,26] [m 10 0,m 11 3,o 12 (D 10 11),o 13 (BU .leq 12 32),m 14 13,h 14 15 (M 0),h 14 16 (M 3),h 14 17 (D 15 16),h 14 18 (BU .gtr 17 126),o 19 (O 14 18),m 20 19,h 20 21 (M 0),h 20 22 (M 3),h 20 23 (D 21 22),h 20 24 (.call 96 [s #[60,62,40,41,91,93,44,59,58,34,92],.t 23]),h 20 25 (BI .geq 24 0),o 26 (O 20 25)]) (w 26 (q (r [2] [o 2 (AB false)]) (x [2])) z)))) (r [0,6,7] [o 27 (BI .add 7 1),m 7 27]))))
def CB:ka:=jF
def fH:=@Za CB jF rfl
def uK:pa:=⟨60,[.inl 2],(q (r [0] [o 2 (AB false)]) (q (q (r [0,6,7] [m 5 0,o 6 (K 5),o 7 (.mv (i 0))]) (k 0 [0,6,7] CB)) (q (r [0,4] [m 28 0,o 29 (.call 96 [.t 28,u 64]),a 4 29]) (q (r [2] [m 30 0,o 31 (K 30),o 32 (BI .geq 31 3),m 33 32,g 33 34 (M 0),g 33 35 (K 34),g 33 36 (BI .leq 35 60),o 37 (P 33 36),m 38 37,g 38 39 (M 4),g 38 40 (BI .gtr 39 0),o 41 (P 38 40),m 42 41,g 42 43 (M 4),g 42 44 (M 0),g 42 45 (K 44),g 42 46 (BI .sub 45 1),g 42 47 (B .lss 43 46),o 48 (P 42 47),m 49 48,g 49 50 (M 4),g 49 51 (M 0),g 49 52 (.call 157 [.t 51,u 64]),g 49 53 (B .eql 50 52),o 54 (P 49 53),m 55 54,g 55 56 (M 0),g 55 57 (CS 158 56 #[61,63]),g 55 58 (U 57),o 59 (P 55 58),a 2 59]) (x [2]))))),[]⟩
def yK:pa:=⟨16,[.inl 2],(q (r [0] [o 2 (AB false)]) (q (r [3,4] [m 6 0,o 7 (C 56 6),m 5 7,o 8 (E 5 0),o 9 (E 5 1),a 3 8,a 4 9]) (q (r [2] [m 10 4,o 11 (BI .eql 10 0),m 12 11,g 12 13 (M 3),g 12 14 (C 162 13),o 15 (P 12 14),a 2 15]) (x [2])))),[]⟩
def lF:ka:=(q (r [1,21,22,23] [o 23 (BI .lss 22 3)]) (q (w 23 z (.exit 0 [1])) (q (.block 1 (q (r [1,4,21,22] [o 24 (.Lm false 3 1 (.t 21) (.t 22)),a 4 24]) (q (r [1,21,22,28] [m 25 4,o 26 (C 95 25),m 27 4,o 28 (B .neq 26 27)]) (w 28 (q (r [2] [o 2 (AI 7)]) (x [2])) z)))) (r [1,21,22] [o 29 (BI .add 22 1),m 22 29]))))
def OJ:ka:=lF
def Rs:=@Za OJ lF rfl
def wK:pa:=⟨40,[.inl 2],(q (r [1] [o 1 (.box 23 5 (.t 0)),o 2 (AI 0)]) (q (q (r [1,14] [o 5 (F 0 1),o 6 (L 1 5),o 7 (C 94 6),o 8 (U 7),m 9 8,h 9 10 (F 1 1),h 9 11 (L 1 10),h 9 12 (C 94 11),h 9 13 (U 12),o 14 (O 9 13)]) (w 14 (q (r [2] [o 2 (AI 1)]) (x [2])) z)) (q (q (r [1,21,22] [o 15 (F 2 1),o 16 (L 1 15),o 17 (F 3 1),o 18 (L 1 17),o 19 (F 4 1),o 20 (L 1 19),o 21 (.build [Z,Z,Z] [⟨0,⟨1,.t 16⟩⟩,⟨1,⟨1,.t 18⟩⟩,⟨2,⟨1,.t 20⟩⟩]),o 22 (.mv (i 0))]) (k 0 [1,21,22] OJ)) (q (q (r [39] [o 30 (F 2 1),o 31 (L 1 30),o 32 (.call 96 [.t 31,u 10]),o 33 (BI .geq 32 0),m 34 33,h 34 35 (F 4 1),h 34 36 (L 1 35),h 34 37 (C 97 36),h 34 38 (U 37),o 39 (O 34 38)]) (w 39 (q (r [2] [o 2 (AI 7)]) (x [2])) z)) (q (r [2] [o 2 (AI 0)]) (x [2])))))),[]⟩
def vK:pa:=⟨43,[.inl 2,.inl 3],(q (r [1] [o 1 (.box 23 5 (.t 0)),o 2 (AS #[]),o 3 (AI 0)]) (q (q (r [1,4] [o 6 (LT 5 1),o 7 (C 47 6),a 4 7]) (q (r [1,4,9] [m 8 4,o 9 (BI .neq 8 0)]) (w 9 (q (r [2,3] [m 10 4,o 2 (AS #[]),a 3 10]) (x [2,3])) z))) (q (r [1,5] [o 11 (.build [.flat (.pointer .none),V] []),o 12 (.box 111 2 (.t 11)),a 5 12]) (q (r [1,5] [m 13 5,o 14 (F 0 1),o 15 (L 1 14),o 16 (.call 48 [.t 13,s #[70,114,111,109],.t 15])]) (q (r [1,5] [m 17 5,o 18 (F 1 1),o 19 (L 1 18),o 20 (.call 48 [.t 17,s #[84,111],.t 19])]) (q (r [1,5] [m 21 5,o 22 (F 2 1),o 23 (L 1 22),o 24 (.call 48 [.t 21,s #[83,117,98,106,101,99,116],.t 23])]) (q (r [1,5] [m 25 5,o 26 (.mksl false 3 1 [Z,Z,Z] [⟨0,⟨1,s #[77,73,77,69,45,86,101,114,115,105,111,110,58,32,49,46,48]⟩⟩,⟨1,⟨1,s #[67,111,110,116,101,110,116,45,84,121,112,101,58,32,109,117,108,116,105,112,97,114,116,47,97,108,116,101,114,110,97,116,105,118,101,59,32,98,111,117,110,100,97,114,121,61,34,61,95,110,117,110,99,105,111,34]⟩⟩,⟨2,⟨1,s #[]⟩⟩]),o 27 (CC 49 25 26)]) (q (r [1,5] [m 28 5,o 29 (F 3 1),o 30 (L 1 29),o 31 (.call 50 [.t 28,s #[112,108,97,105,110],.t 30])]) (q (r [5] [m 32 5,o 33 (F 4 1),o 34 (L 1 33),o 35 (.call 50 [.t 32,s #[104,116,109,108],.t 34])]) (q (r [5] [m 36 5,o 37 (.mksl false 1 1 [Z] [⟨0,⟨1,s #[45,45,61,95,110,117,110,99,105,111,45,45]⟩⟩]),o 38 (CC 49 36 37)]) (q (r [2,3] [m 39 5,o 40 (N 39),o 41 (F 0 40),o 42 (C 46 41),a 2 42,o 3 (AI 0)]) (x [2,3])))))))))))),[]⟩
def mF:ka:=(q (r [0,2,4,6,48,49,50] [o 50 (BI .lss 49 3)]) (q (w 50 z (.exit 0 [0,2,6])) (q (.block 1 (q (r [0,2,4,6,7,8,48,49] [m 51 49,o 52 (.Lm false 3 1 (.t 48) (.t 49)),a 7 51,a 8 52]) (q (r [0,2,4,6,8,10,11,48,49] [o 54 (F 0 4),o 55 (L 1 54),m 56 7,o 57 (Y 2 55 56),o 58 (F 1 57),o 59 (L 1 58),o 60 (SB .add #[88,58,32] 59),o 61 (BS .add 60 #[13,10]),o 62 (C 20 61),m 53 62,o 63 (E 53 0),o 64 (E 53 1),o 65 (E 53 2),a 9 63,a 10 64,a 11 65]) (q (q (r [0,2,4,6,8,10,48,49,67] [m 66 11,o 67 (BI .neq 66 0)]) (w 67 (q (r [2,3] [o 68 (.build [Z,Z,Z,Z,Z] []),n (S 5 2 68),o 3 (AI 7)]) (x [2,3])) z)) (r [0,2,4,6,48,49] [m 69 8,m 70 10,o 71 (N 69),n (S 1 71 70)]))))) (r [0,2,4,6,48,49] [o 72 (BI .add 49 1),m 49 72]))))
def PJ:ka:=mF
def y_:=@Za PJ mF rfl
def xK:pa:=⟨87,[.inr ⟨2,⟨true,5⟩⟩,.inl 3],(q (r [0,2] [o 2 (.alloc 23 [Z,Z,Z,Z,Z]),o 3 (AI 0)]) (q (r [0,2,4,5] [m 15 0,o 16 (C 19 15),m 14 16,o 17 (E 14 0),o 18 (E 14 1),o 4 (.alloc 52 [V,Z,Z,V]),n (S 4 4 17),a 5 18]) (q (q (r [0,2,4,32] [m 19 5,o 20 (BI .neq 19 0),m 21 20,h 21 22 (F 3 4),h 21 23 (L 1 22),h 21 24 (W 23),h 21 25 (BI .neq 24 2),o 26 (O 21 25),m 27 26,h 27 28 (F 0 4),h 27 29 (L 1 28),h 27 30 (W 29),h 27 31 (BI .lss 30 3),o 32 (O 27 31)]) (w 32 (q (r [2,3] [o 33 (.build [Z,Z,Z,Z,Z] []),n (S 5 2 33),o 3 (AI 7)]) (x [2,3])) z)) (q (.Ab [0,2,4,6] [o 34 (F 3 4),o 35 (L 1 34),o 36 (.Rk 4 (.t 35) (i 0)),o 37 (F 2 36),o 38 (L 1 37),o 39 (F 3 4),o 40 (L 1 39),o 41 (.Rk 4 (.t 40) (i 1)),o 42 (F 2 41),o 43 (L 1 42),o 44 (.build [Z,Z,Z,Z,Z] [⟨3,⟨1,.t 38⟩⟩,⟨4,⟨1,.t 43⟩⟩]),o 6 (.alloc 23 [Z,Z,Z,Z,Z])] [n (S 5 6 44)]) (q (q (r [0,2,4,6,48,49] [o 45 (F 0 6),o 46 (F 1 6),o 47 (F 2 6),o 48 (.build [.flat (.pointer .none),.flat (.pointer .none),.flat (.pointer .none)] [⟨0,⟨1,.t 45⟩⟩,⟨1,⟨1,.t 46⟩⟩,⟨2,⟨1,.t 47⟩⟩]),o 49 (.mv (i 0))]) (k 0 [0,2,4,6,48,49] PJ)) (q (q (r [0,2,6,12,13] [o 74 (LT 5 6),o 75 (C 21 74),m 73 75,o 76 (E 73 0),o 77 (E 73 1),a 12 76,a 13 77]) (q (r [2,6,84] [m 78 13,o 79 (BI .neq 78 0),m 80 79,h 80 81 (M 12),h 80 82 (M 0),h 80 83 (B .neq 81 82),o 84 (O 80 83)]) (w 84 (q (r [2,3] [o 85 (.build [Z,Z,Z,Z,Z] []),n (S 5 2 85),o 3 (AI 7)]) (x [2,3])) z))) (q (r [2,3] [o 86 (LT 5 6),n (S 5 2 86),o 3 (AI 0)]) (x [2,3])))))))),[]⟩
def nF:ka:=(q (r [0,6,7,8,9] [o 9 (B .lss 8 7)]) (q (w 9 z (.exit 0 [])) (q (.block 1 (q (r [0,5,6,7,8] [o 10 (Y 1 6 8),o 11 (L 1 10),a 5 11]) (q (r [0,6,7,8] [m 12 0,o 13 (N 12),o 14 (F 0 13),m 15 5,o 16 (CC 45 14 15)]) (r [0,6,7,8] [m 17 0,o 18 (N 17),o 19 (F 0 18),o 20 (CS 45 19 #[13,10])])))) (r [0,6,7,8] [o 21 (BI .add 8 1),m 8 21]))))
def DB:ka:=nF
def IS:=@Za DB nF rfl
def AK:pa:=⟨22,[],(q (r [0,6,7,8] [m 6 1,o 7 (W 6),o 8 (.mv (i 0))]) (k 0 [0,6,7,8] DB)),[]⟩
def zK:pa:=⟨19,[],(q (r [0,6] [m 9 1,m 10 2,o 11 (CC 98 9 10),m 8 11,o 12 (E 8 0),o 13 (E 8 1),a 6 12,a 7 13]) (r [] [m 14 0,o 15 (N 14),o 16 (F 0 15),m 17 6,o 18 (CC 45 16 17)])),[]⟩
def BK:pa:=⟨14,[],(r [] [m 6 0,m 7 1,o 8 (SB .add #[67,111,110,116,101,110,116,45,84,121,112,101,58,32,116,101,120,116,47] 7),o 9 (BS .add 8 #[59,32,99,104,97,114,115,101,116,61,117,116,102,45,56]),m 10 2,o 11 (C 99 10),o 12 (.mksl false 5 1 [Z,Z,Z,Z,Z] [⟨0,⟨1,s #[45,45,61,95,110,117,110,99,105,111]⟩⟩,⟨1,⟨1,.t 9⟩⟩,⟨2,⟨1,s #[67,111,110,116,101,110,116,45,84,114,97,110,115,102,101,114,45,69,110,99,111,100,105,110,103,58,32,113,117,111,116,101,100,45,112,114,105,110,116,97,98,108,101]⟩⟩,⟨3,⟨1,s #[]⟩⟩,⟨4,⟨1,.t 11⟩⟩]),o 13 (CC 49 6 12)]),[]⟩
def Qu:ka:=(q (r [1,3,4,5,10] [a 5 9]) (r [1,3,4,5,6] [a 6 10]))
def Ou:ka:=(.block 1 (q (r [1,3,4,5] [o 11 (L 1 4),m 12 6,o 13 (B .add 11 12),n (S 1 4 13)]) (q (q (r [1,3,4,5,15] [m 14 5,o 15 (.bin .eql (.t 14) (.c (.flat (.int .i32 13))))]) (w 15 (q (q (r [3,25] [o 16 (L 1 4),o 17 (L 1 1),o 18 (K 17),o 19 (B .lss 16 18),m 20 19,g 20 21 (L 1 1),g 20 22 (L 1 4),g 20 23 (D 21 22),g 20 24 (BU .eql 23 10),o 25 (P 20 24)]) (w 25 (.exit 1 []) z)) (r [3,5] [o 5 (.asg (.c (.flat (.int .i32 10))))])) z)) (r [] [m 26 5,o 27 (C 160 26),o 28 (C 159 27),o 29 (CC 45 3 28)]))))
def ZM:pa:=⟨31,[.inl 2],(q (r [1,2] [o 1 (.box 9 1 (.t 0)),o 2 (AS #[])]) (q (r [1,2,3] [o 3 (.alloc 101 [.flat (.pointer .none),V])]) (q (r [1,2,3,4] [o 4 (.alloc 3 [J]),n (.store 1 (.t 4) (i 0))]) (q (q (r [1,2,3,4,8] [o 7 (L 1 1),o 8 (C 155 7)]) (.block 0 (.range 95 0 [1,3,4] (.t 8)))) (q (r [2] [o 30 (C 46 3),a 2 30]) (x [2])))))),[([9,10],Qu,Ou)]⟩
def dN:pa:=⟨4,[.inl 2],(q (r [1] [o 1 (.box 9 1 (.t 0)),o 2 (.asg (.c (.flat .nilFunc)))]) (q (r [2] [o 3 (.clos 224 [.t 1]),a 2 3]) (x [2]))),[]⟩
def zG:ka:=(q (q (r [0,1,3,9] [m 6 3,o 7 (L 1 1),o 8 (K 7),o 9 (B .lss 6 8)]) (w 9 z (.exit 0 []))) (.block 1 (q (r [0,1,3,4,5] [o 11 (L 1 1),m 12 3,o 13 (CC 225 11 12),m 10 13,o 14 (E 10 0),o 15 (E 10 1),a 4 14,a 5 15]) (q (q (r [0,1,3,5,20] [m 16 0,m 17 4,m 18 5,o 19 (.callv (.t 16) [.t 17,.t 18]),o 20 (U 19)]) (w 20 (x []) z)) (r [0,1,3] [m 21 3,m 22 5,o 23 (B .add 21 22),a 3 23])))))
def yC:ka:=zG
def zH:=@Za yC zG rfl
def eN:pa:=⟨24,[],(q (r [0,1,3] [o 3 (AI 0)]) (k 0 [0,1,3] yC)),[]⟩
def bN:pa:=⟨81,[.inl 4,.inl 5],(q (r [0,1] [o 4 (.asg (.c (.flat (.int .i32 0)))),o 5 (AI 0)]) (q (q (r [0,1,17] [m 10 1,o 11 (BI .lss 10 0),m 12 11,h 12 13 (M 1),h 12 14 (M 0),h 12 15 (K 14),h 12 16 (B .geq 13 15),o 17 (O 12 16)]) (w 17 (q (r [4,5] [o 4 (.asg (.c (.flat (.int .i32 0)))),o 5 (AI 0)]) (x [4,5])) z)) (q (r [0,1,6] [m 18 0,m 19 1,o 20 (D 18 19),a 6 20,o 7 (.asg (.c (.flat (.int .i32 0)))),o 8 (AI 0)]) (q (.block 0 (q (r [0,1,6,21] [m 22 6,o 23 (BU .lss 22 128),a 21 23]) (w 21 (q (r [4,5] [m 24 6,o 25 (.conv .i32 (.t 24)),a 4 25,o 5 (AI 1)]) (x [4,5])) (q (r [0,1,6,26] [m 27 6,o 28 (BU .geq 27 192),m 29 28,g 29 30 (M 6),g 29 31 (BU .lss 30 224),o 32 (P 29 31),a 26 32]) (w 26 (r [0,1,4,7,8] [m 33 6,o 34 (BU .and 33 31),o 35 (.conv .i32 (.t 34)),a 4 35,o 7 (.asg (.c (.flat (.int .i32 128)))),o 8 (AI 1)]) (q (r [0,1,6,36] [m 37 6,o 38 (BU .geq 37 224),m 39 38,g 39 40 (M 6),g 39 41 (BU .lss 40 240),o 42 (P 39 41),a 36 42]) (w 36 (r [0,1,4,7,8] [m 43 6,o 44 (BU .and 43 15),o 45 (.conv .i32 (.t 44)),a 4 45,o 7 (.asg (.c (.flat (.int .i32 2048)))),o 8 (AI 2)]) (q (r [0,1,6,46] [m 47 6,o 48 (BU .geq 47 240),m 49 48,g 49 50 (M 6),g 49 51 (BU .lss 50 248),o 52 (P 49 51),a 46 52]) (w 46 (r [0,1,4,7,8] [m 53 6,o 54 (BU .and 53 7),o 55 (.conv .i32 (.t 54)),a 4 55,o 7 (.asg (.c (.flat (.int .i32 65536)))),o 8 (AI 3)]) (q (r [4,5] [o 4 (.asg (.c (.flat (.int .i32 65533)))),o 5 (AI 1)]) (x [4,5]))))))))))) (q (r [4,7,8,9] [m 57 0,m 58 1,o 59 (BI .add 58 1),o 60 (.sliceS (.t 57) (.some (.t 59)) .none),m 61 4,m 62 8,o 63 (.call 275 [.t 60,.t 61,.t 62]),m 56 63,o 64 (E 56 0),o 65 (E 56 1),a 4 64,a 9 65]) (q (q (r [4,8,77] [m 66 9,o 67 (U 66),m 68 67,h 68 69 (M 4),h 68 70 (M 7),h 68 71 (B .lss 69 70),o 72 (O 68 71),m 73 72,h 73 74 (M 4),h 73 75 (C 227 74),h 73 76 (U 75),o 77 (O 73 76)]) (w 77 (q (r [4,5] [o 4 (.asg (.c (.flat (.int .i32 65533)))),o 5 (AI 1)]) (x [4,5])) z)) (q (r [4,5] [m 78 4,m 79 8,o 80 (BI .add 79 1),a 4 78,a 5 80]) (x [4,5])))))))),[]⟩
def yG:ka:=(q (q (r [0,3,4,5,32] [m 31 5,o 32 (BI .gtr 31 0)]) (w 32 z (.exit 4 [0,3,4]))) (q (.block 5 (q (r [0,3,4,5] [m 35 5,m 36 0,o 37 (.bin .and (.t 36) (.c (.flat (.int .i32 63)))),o 38 (.conv .u8 (.t 37)),o 39 (.bin .or (u 128) (.t 38)),o 40 (.Yn 4 1 (.t 3) (.t 35)),n (S 1 40 39)]) (r [0,3,4,5] [m 41 0,o 42 (.bin .shr (.t 41) (.c (.flat (.int .u64 6)))),a 0 42]))) (r [0,3,4,5] [m 33 5,o 34 (BI .sub 33 1),a 5 34])))
def VJ:ka:=yG
def Xz:=@Za VJ yG rfl
def YM:pa:=⟨54,[.inl 2],(q (r [0] [o 2 (AS #[])]) (q (q (r [0,8] [m 6 0,o 7 (C 227 6),o 8 (U 7)]) (w 8 (r [0] [o 0 (.asg (.c (.flat (.int .i32 65533))))]) z)) (q (r [0,3] [o 3 (.alloc 277 [.flat (.int .u8 0),.flat (.int .u8 0),.flat (.int .u8 0),.flat (.int .u8 0)])]) (q (r [0,3,4] [o 4 (AI 0)]) (q (.block 0 (q (.block 3 (q (.block 2 (q (.block 1 (q (q (q (r [0,3,4,9] [m 10 0,o 11 (.bin .geq (.t 10) (.c (.flat (.int .i32 65536)))),a 9 11]) (w 9 (.exit 1 [0,3,4]) z)) (q (q (r [0,3,4,12] [m 13 0,o 14 (.bin .geq (.t 13) (.c (.flat (.int .i32 2048)))),a 12 14]) (w 12 (.exit 2 [0,3,4]) z)) (q (r [0,3,4,15] [m 16 0,o 17 (.bin .geq (.t 16) (.c (.flat (.int .i32 128)))),a 15 17]) (w 15 (.exit 3 [0,3,4]) z)))) (.exit 0 [0,3,4]))) (r [0,3,4] [m 18 4,o 19 (BI .add 18 1),a 4 19]))) (r [0,3,4] [m 20 4,o 21 (BI .add 20 1),a 4 21]))) (q (r [0,3,4] [m 22 4,o 23 (BI .add 22 1),a 4 23]) (.exit 0 [0,3,4])))) (q (q (r [0,3,4,25] [m 24 4,o 25 (BI .eql 24 0)]) (w 25 (q (r [2] [m 26 0,o 27 (.conv .u8 (.t 26)),o 28 (.mksl true 1 1 [.flat (.int .u8 0)] [⟨0,⟨1,.t 27⟩⟩]),o 29 (.b2s (.t 28)),a 2 29]) (x [2])) z)) (q (q (r [0,3,4,5] [m 30 4,a 5 30]) (k 4 [0,3,4,5] VJ)) (q (r [3,4] [m 43 4,o 44 (IB .sub 7 43),o 45 (.bin .shl (u 255) (.t 44)),m 46 0,o 47 (.conv .u8 (.t 46)),o 48 (B .or 45 47),o 49 (.Yn 4 1 (.t 3) (i 0)),n (S 1 49 48)]) (q (r [2] [m 50 4,o 51 (BI .add 50 1),o 52 (.sliceP 4 1 (.t 3) .none (.some (.t 51))),o 53 (.b2s (.t 52)),a 2 53]) (x [2])))))))))),[]⟩
def hR:ka:=(q (r [0,1,13,14,15] [o 15 (B .lss 14 13)]) (q (w 15 z (.exit 0 [1])) (q (.block 1 (q (r [0,1,8,13,14] [m 16 14,a 8 16]) (q (q (r [0,1,8,13,14,21] [m 17 0,m 18 8,o 19 (D 17 18),o 20 (BU .and 19 192),o 21 (BU .neq 20 128)]) (w 21 (q (r [6,7] [o 6 (.asg (.c (.flat (.int .i32 0)))),o 7 (AB false)]) (x [6,7])) z)) (r [0,1,13,14] [m 22 1,o 23 (.bin .shl (.t 22) (.c (.flat (.int .u64 6)))),m 24 0,m 25 8,o 26 (D 24 25),o 27 (BU .and 26 63),o 28 (.conv .i32 (.t 27)),o 29 (B .or 23 28),a 1 29])))) (r [0,1,13,14] [o 30 (BI .add 14 1),m 14 30]))))
def Ur:ka:=hR
def hN:pa:=⟨32,[.inl 6,.inl 7],(q (r [0,1,2] [o 6 (.asg (.c (.flat (.int .i32 0)))),o 7 (AB false)]) (q (q (r [0,1,2,12] [m 9 0,o 10 (K 9),m 11 2,o 12 (B .lss 10 11)]) (w 12 (q (r [6,7] [o 6 (.asg (.c (.flat (.int .i32 0)))),o 7 (AB false)]) (x [6,7])) z)) (q (q (r [0,1,13,14] [m 13 2,o 14 (.mv (i 0))]) (k 0 [0,1,13,14] Ur)) (q (r [6,7] [m 31 1,a 6 31,o 7 (AB true)]) (x [6,7]))))),[]⟩
def fN:pa:=⟨17,[.inl 2],(q (r [0] [o 2 (AB false)]) (q (r [2] [m 3 0,o 4 (.bin .geq (.t 3) (.c (.flat (.int .i32 0)))),m 5 4,g 5 6 (M 0),g 5 7 (.bin .leq (.t 6) (.c (.flat (.int .i32 1114111)))),o 8 (P 5 7),m 9 8,g 9 10 (M 0),g 9 11 (.bin .lss (.t 10) (.c (.flat (.int .i32 55296)))),g 9 12 (M 11),h 12 13 (M 0),h 12 14 (.bin .gtr (.t 13) (.c (.flat (.int .i32 57343)))),g 9 15 (O 12 14),o 16 (P 9 15),a 2 16]) (x [2]))),[]⟩
def gN:pa:=⟨22,[.inl 2],(q (r [0] [o 2 (.asg (.c (.flat (.int .i32 0))))]) (q (q (r [0,20] [m 3 0,o 4 (.bin .lss (.t 3) (.c (.flat (.int .i32 32)))),m 5 4,g 5 6 (M 0),g 5 7 (.bin .neq (.t 6) (.c (.flat (.int .i32 9)))),o 8 (P 5 7),m 9 8,g 9 10 (M 0),g 9 11 (.bin .neq (.t 10) (.c (.flat (.int .i32 10)))),o 12 (P 9 11),m 13 12,h 13 14 (M 0),h 13 15 (.bin .geq (.t 14) (.c (.flat (.int .i32 127)))),h 13 16 (M 15),g 16 17 (M 0),g 16 18 (.bin .lss (.t 17) (.c (.flat (.int .i32 160)))),h 13 19 (P 16 18),o 20 (O 13 19)]) (w 20 (q (r [2] [o 2 (.asg (.c (.flat (.int .i32 65533))))]) (x [2])) z)) (q (r [2] [m 21 0,a 2 21]) (x [2])))),[]⟩
def Ky:ka:=(q (r [2,3,8] [a 3 7]) (r [2,3,4] [a 4 8]))
def Hy:ka:=(.block 1 (q (r [2,14] [m 9 3,o 10 (.bin .eql (.t 9) (.c (.flat (.int .i32 65533)))),m 11 10,g 11 12 (M 4),g 11 13 (BI .eql 12 1),o 14 (P 11 13)]) (w 14 (q (r [] [n (.store 1 (.t 2) (b false))]) (x [])) z)))
def aN:pa:=⟨15,[.inr ⟨2,⟨false,1⟩⟩],(q (r [0,2] [o 2 (.alloc 4 [.flat (.bool false)])]) (q (q (r [2,6] [m 5 0,o 6 (C 155 5)]) (.block 0 (.range 92 0 [2] (.t 6)))) (q (r [2] [n (.store 1 (.t 2) (b true))]) (x [2])))),[([7,8],Ky,Hy)]⟩
def mQ:ka:=(r [3,4] [a 4 7])
def WP:ka:=(.block 1 (r [] [o 9 (.loadA (.t 3)),m 10 4,o 11 (.mksl false 1 1 [.flat (.int .i32 0)] [⟨0,⟨1,.t 10⟩⟩]),o 12 (.append false 1 (.t 9) (.t 11)),n (S 1 3 12)]))
def cN:pa:=⟨14,[.inl 2],(q (r [0,2] [o 2 (.asg (.c V))]) (q (r [0,2,3] [o 3 (.alloc 278 [V])]) (q (q (r [2,3,6] [m 5 0,o 6 (C 155 5)]) (.block 0 (.range 231 0 [3] (.t 6)))) (q (r [2] [o 13 (L 1 3),a 2 13]) (x [2]))))),[([7,8],mQ,WP)]⟩
def gQ:ka:=(r [6,7] [a 7 21])
def QP:ka:=(.block 1 (r [] [m 22 7,o 23 (CC 164 6 22)]))
def EK:pa:=⟨28,[.inl 4,.inl 5],(q (r [0,1,4,5] [o 4 (AS #[]),o 5 (AI 0)]) (q (q (r [0,1,4,5,10] [m 8 0,o 9 (C 40 8),o 10 (U 9)]) (w 10 (q (r [4,5] [o 4 (AS #[]),o 5 (AI 1)]) (x [4,5])) z)) (q (r [0,1,4,5,6] [m 11 0,o 12 (K 11),o 13 (BI .add 12 1),o 14 (.build [.flat (.pointer .none),V,J] [⟨2,⟨1,.t 13⟩⟩]),o 6 (.alloc 236 [.flat (.pointer .none),V,J]),n (S 3 6 14)]) (q (r [1,4,5,6] [o 15 (F 0 6),m 16 0,o 17 (BS .add 16 #[58]),o 18 (CC 45 15 17)]) (q (q (r [4,5,6,20] [m 19 1,o 20 (C 163 19)]) (.block 0 (.range 98 0 [6] (.t 20)))) (q (r [6] [o 24 (F 0 6),o 25 (CS 45 24 #[13,10])]) (q (r [4,5] [o 26 (F 0 6),o 27 (C 46 26),a 4 27,o 5 (AI 0)]) (x [4,5])))))))),[([21],gQ,QP)]⟩
def rF:ka:=(q (r [0,6,7,8] [o 8 (B .lss 7 6)]) (q (w 8 z (.exit 0 [0])) (q (.block 1 (q (r [0,3,6,7] [m 9 7,a 3 9]) (q (r [0,4,6,7] [m 10 0,m 11 3,o 12 (D 10 11),a 4 12]) (q (r [0,6,7,32] [m 13 4,o 14 (BU .or 13 32),o 15 (BU .lss 14 97),m 16 15,h 16 17 (M 4),h 16 18 (BU .or 17 32),h 16 19 (BU .gtr 18 122),o 20 (O 16 19),m 21 20,g 21 22 (M 4),g 21 23 (BU .lss 22 48),g 21 24 (M 23),h 24 25 (M 4),h 24 26 (BU .gtr 25 57),g 21 27 (O 24 26),o 28 (P 21 27),m 29 28,g 29 30 (M 4),g 29 31 (BU .neq 30 45),o 32 (P 29 31)]) (w 32 (q (r [2] [o 2 (AB false)]) (x [2])) z))))) (r [0,6,7] [o 33 (BI .add 7 1),m 7 33]))))
def wx:ka:=rF
def gH:=@Za wx rF rfl
def JK:pa:=⟨41,[.inl 2],(q (r [0] [o 2 (AB false)]) (q (q (r [0,6,7] [m 5 0,o 6 (K 5),o 7 (.mv (i 0))]) (k 0 [0,6,7] wx)) (q (r [2] [m 34 0,o 35 (BS .neq 34 #[]),m 36 35,g 36 37 (M 0),g 36 38 (K 37),g 36 39 (BI .leq 38 32),o 40 (P 36 39),a 2 40]) (x [2])))),[]⟩
def oF:ka:=(q (r [0,3,9,10,11] [o 11 (B .lss 10 9)]) (q (w 11 z (.exit 0 [3])) (q (.block 1 (q (r [0,3,4,9,10] [m 12 10,a 4 12]) (q (r [0,3,4,5,9,10] [m 13 0,m 14 4,o 15 (D 13 14),a 5 15]) (q (q (r [0,3,5,9,10,34] [m 16 5,o 17 (BU .eql 16 32),m 18 17,g 18 19 (M 3),g 18 20 (BI .eql 19 0),o 21 (P 18 20),m 22 21,h 22 23 (M 5),h 22 24 (BU .lss 23 32),o 25 (O 22 24),m 26 25,h 26 27 (M 5),h 26 28 (BU .gtr 27 126),o 29 (O 26 28),m 30 29,h 30 31 (M 0),h 30 32 (M 4),h 30 33 (.call 85 [.t 31,s #[61,63],.t 32]),o 34 (O 30 33)]) (w 34 (q (r [2] [o 2 (AB false)]) (x [2])) z)) (q (q (r [0,3,5,9,10] [m 35 3,o 36 (BI .add 35 1),a 3 36]) (q (r [0,3,9,10,38] [m 37 5,o 38 (BU .eql 37 32)]) (w 38 (r [0,3,9,10] [o 3 (AI 0)]) z))) (q (r [0,3,9,10,40] [m 39 3,o 40 (BI .gtr 39 60)]) (w 40 (q (r [2] [o 2 (AB false)]) (x [2])) z))))))) (r [0,3,9,10] [o 41 (BI .add 10 1),m 10 41]))))
def ux:ka:=oF
def JS:=@Za ux oF rfl
def CK:pa:=⟨44,[.inl 2],(q (r [0] [o 2 (AB false)]) (q (q (r [0,7] [m 6 0,o 7 (BS .eql 6 #[])]) (w 7 (q (r [2] [o 2 (AB true)]) (x [2])) z)) (q (r [0,3] [o 3 (AI 0)]) (q (q (r [0,3,9,10] [m 8 0,o 9 (K 8),o 10 (.mv (i 0))]) (k 0 [0,3,9,10] ux)) (q (r [2] [m 42 3,o 43 (BI .gtr 42 0),a 2 43]) (x [2])))))),[]⟩
def KK:pa:=⟨4,[.inl 2],(q (r [1] [o 1 (.box 9 1 (.t 0)),o 2 (.asg (.c (.flat .nilFunc)))]) (q (r [2] [o 3 (.clos 229 [.t 1]),a 2 3]) (x [2]))),[]⟩
def tF:ka:=(q (r [0,14,15,16,17] [o 17 (B .lss 16 15)]) (q (w 17 z (.exit 0 [])) (q (.block 1 (q (r [0,4,14,15,16] [o 18 (Y 1 14 16),o 19 (L 1 18),a 4 19]) (q (r [0,14,15,16,23] [m 20 0,m 21 4,o 22 (.callv (.t 20) [.t 21]),o 23 (U 22)]) (w 23 (x []) z)))) (r [0,14,15,16] [o 24 (BI .add 16 1),m 16 24]))))
def xx:ka:=tF
def KS:=@Za xx tF rfl
def uF:ka:=(q (r [0,5,26,27,28,29] [o 29 (B .lss 28 27)]) (q (w 29 z (.exit 2 [0,5])) (q (.block 3 (q (r [0,5,7,26,27,28] [o 30 (Y 1 26 28),o 31 (L 1 30),a 7 31]) (q (r [0,5,8,26,27,28] [m 32 7,o 33 (C 159 32),a 8 33]) (q (q (r [0,5,8,26,27,28,39] [m 34 8,o 35 (K 34),m 36 5,o 37 (K 36),o 38 (IB .sub 45 37),o 39 (B .gtr 35 38)]) (w 39 (q (q (r [0,8,26,27,28,46] [m 40 0,m 41 5,o 42 (C 232 41),o 43 (SB .add #[61,63,85,84,70,45,56,63,66,63] 42),o 44 (BS .add 43 #[63,61]),o 45 (.callv (.t 40) [.t 44]),o 46 (U 45)]) (w 46 (x []) z)) (r [0,5,8,26,27,28] [o 5 (AS #[])])) z)) (r [0,5,26,27,28] [m 47 5,m 48 8,o 49 (B .add 47 48),a 5 49]))))) (r [0,5,26,27,28] [o 50 (BI .add 28 1),m 28 50]))))
def yx:ka:=uF
def hH:=@Za yx uF rfl
def MK:pa:=⟨57,[],(q (q (r [0,1,10] [o 9 (L 1 1),o 10 (BS .eql 9 #[])]) (w 10 (x []) z)) (q (q (r [0,1,12] [o 11 (L 1 1),o 12 (C 230 11)]) (w 12 (q (q (r [0,14,15,16] [o 13 (L 1 1),o 14 (.call 41 [.t 13,u 32]),o 15 (W 14),o 16 (.mv (i 0))]) (k 0 [0,14,15,16] xx)) (x [])) z)) (q (r [0,1,5] [o 5 (AS #[])]) (q (q (r [0,5,26,27,28] [o 25 (L 1 1),o 26 (C 231 25),o 27 (W 26),o 28 (.mv (i 0))]) (k 2 [0,5,26,27,28] yx)) (r [] [m 51 0,m 52 5,o 53 (C 232 52),o 54 (SB .add #[61,63,85,84,70,45,56,63,66,63] 53),o 55 (BS .add 54 #[63,61]),o 56 (.callv (.t 51) [.t 55])]))))),[]⟩
def IK:pa:=⟨35,[],(q (q (r [0,1,11] [m 4 1,o 5 (K 4),m 6 0,o 7 (N 6),o 8 (F 2 7),o 9 (L 1 8),o 10 (IB .sub 76 9),o 11 (B .geq 5 10)]) (w 11 (q (r [0,1] [m 12 0,o 13 (N 12),o 14 (F 0 13),o 15 (CS 45 14 #[13,10])]) (r [0,1] [m 16 0,o 17 (N 16),o 18 (F 2 17),n (.store 1 (.t 18) (i 0))])) z)) (q (r [0,1] [m 19 0,o 20 (N 19),o 21 (F 0 20),m 22 1,o 23 (SB .add #[32] 22),o 24 (CC 45 21 23)]) (r [] [m 25 0,o 26 (N 25),o 27 (F 2 26),o 28 (L 1 27),m 29 1,o 30 (K 29),o 31 (IB .add 1 30),o 32 (B .add 28 31),o 33 (N 25),o 34 (F 2 33),n (S 1 34 32)]))),[]⟩
def pF:ka:=(q (r [2,9,10,11,40,41,42,43] [o 43 (B .lss 42 41)]) (q (w 43 z (.exit 0 [2,9])) (q (.block 1 (q (r [2,9,10,11,13,40,41,42] [o 44 (Y 1 40 42),o 45 (L 1 44),a 13 45]) (q (q (r [2,9,10,11,13,40,41,42,47] [m 46 13,o 47 (BS .eql 46 #[])]) (w 47 (.exit 1 [2,9,10,11,40,41,42]) z)) (q (r [2,9,10,11,14,15,40,41,42] [m 49 13,o 50 (C 43 49),m 48 50,o 51 (E 48 0),o 52 (E 48 1),a 14 51,a 15 52]) (q (q (r [2,9,14,15,40,41,42,60] [m 53 10,m 54 53,g 54 55 (M 11),g 54 56 (M 55),g 56 57 (M 15),g 54 58 (P 56 57),g 54 59 (U 58),o 60 (P 54 59)]) (w 60 (r [2,9,14,15,40,41,42] [o 61 (.call 44 [.t 9,u 32])]) z)) (q (r [2,9,15,40,41,42] [m 62 14,o 63 (CC 45 9 62)]) (r [2,9,10,11,40,41,42] [m 64 15,o 10 (AB true),a 11 64]))))))) (r [2,9,10,11,40,41,42] [o 65 (BI .add 42 1),m 42 65]))))
def vx:ka:=pF
def Ss:=@Za vx pF rfl
def DK:pa:=⟨68,[.inl 2,.inl 3,.inl 4],(q (r [0] [o 2 (AS #[]),o 3 (AS #[]),o 4 (AI 0)]) (q (r [5,6] [m 17 0,o 18 (C 38 17),m 16 18,o 19 (E 16 0),o 20 (E 16 1),a 5 19,a 6 20]) (q (r [2,6,7,8] [m 22 5,o 23 (CS 39 22 #[58]),m 21 23,o 24 (E 21 0),o 25 (E 21 1),o 26 (E 21 2),a 2 24,a 7 25,a 8 26]) (q (q (r [2,7,37] [m 27 6,o 28 (U 27),m 29 28,h 29 30 (M 8),h 29 31 (U 30),o 32 (O 29 31),m 33 32,h 33 34 (M 2),h 33 35 (C 40 34),h 33 36 (U 35),o 37 (O 33 36)]) (w 37 (q (r [2,3,4] [o 2 (AS #[]),o 3 (AS #[]),o 4 (AI 7)]) (x [2,3,4])) z)) (q (r [2,7,9] [o 9 (.alloc 101 [.flat (.pointer .none),V])]) (q (r [2,7,9,10,11] [o 10 (AB false),o 11 (AB false)]) (q (q (r [2,9,10,11,40,41,42] [m 38 7,o 39 (.call 42 [.t 38,s #[9],s #[32]]),o 40 (.call 41 [.t 39,u 32]),o 41 (W 40),o 42 (.mv (i 0))]) (k 0 [2,9,10,11,40,41,42] vx)) (q (r [2,3,4] [m 66 2,o 67 (C 46 9),a 2 66,a 3 67,o 4 (AI 0)]) (x [2,3,4]))))))))),[]⟩
def qF:ka:=(q (q (r [0,5,6,17] [m 14 6,m 15 0,o 16 (K 15),o 17 (B .lss 14 16)]) (w 17 z (.exit 0 [5]))) (q (.block 1 (q (q (r [0,5,6,36] [m 20 0,m 21 6,o 22 (.call 85 [.t 20,s #[13,10],.t 21]),m 23 22,g 23 24 (M 6),g 23 25 (BI .add 24 2),g 23 26 (M 0),g 23 27 (K 26),g 23 28 (B .lss 25 27),o 29 (P 23 28),m 30 29,g 30 31 (M 0),g 30 32 (M 6),g 30 33 (BI .add 32 2),g 30 34 (D 31 33),g 30 35 (C 86 34),o 36 (P 30 35)]) (w 36 (q (r [0,5,6] [m 37 6,o 38 (BI .add 37 1),a 6 38]) (.exit 1 [0,5,6])) z)) (q (q (r [0,5,6,48] [m 39 0,m 40 6,o 41 (D 39 40),o 42 (BU .eql 41 13),m 43 42,h 43 44 (M 0),h 43 45 (M 6),h 43 46 (D 44 45),h 43 47 (BU .eql 46 10),o 48 (O 43 47)]) (w 48 (q (r [2,3] [o 2 (AS #[]),o 3 (AB false)]) (x [2,3])) z)) (r [0,5,6] [m 49 0,m 50 6,o 51 (D 49 50),o 52 (CC 44 5 51)])))) (r [0,5,6] [m 18 6,o 19 (BI .add 18 1),a 6 19])))
def EB:ka:=qF
def pr:=@Za EB qF rfl
def HK:pa:=⟨54,[.inl 2,.inl 3],(q (r [0] [o 2 (AS #[]),o 3 (AB false)]) (q (r [0,4] [m 8 0,o 9 (CS 84 8 #[13,10]),m 7 9,o 10 (E 7 0),o 11 (E 7 1),a 0 10,a 4 11]) (q (q (r [0,13] [m 12 4,o 13 (U 12)]) (w 13 (q (r [2,3] [o 2 (AS #[]),o 3 (AB false)]) (x [2,3])) z)) (q (r [0,5] [o 5 (.alloc 101 [.flat (.pointer .none),V])]) (q (q (r [0,5,6] [o 6 (AI 0)]) (k 0 [0,5,6] EB)) (q (r [2,3] [o 53 (C 46 5),a 2 53,o 3 (AB true)]) (x [2,3]))))))),[]⟩
def GK:pa:=⟨40,[.inl 2,.inl 3],(q (r [0] [o 2 (AS #[]),o 3 (AB false)]) (q (r [0,4,5] [m 10 0,o 11 (CS 90 10 #[61,63,85,84,70,45,56,63,66,63]),m 9 11,o 12 (E 9 0),o 13 (E 9 1),a 4 12,a 5 13]) (q (r [0,4,5,6] [m 15 4,o 16 (CS 84 15 #[63,61]),m 14 16,o 17 (E 14 0),o 18 (E 14 1),a 4 17,a 6 18]) (q (q (r [0,4,24] [m 19 5,o 20 (U 19),m 21 20,h 21 22 (M 6),h 21 23 (U 22),o 24 (O 21 23)]) (w 24 (q (r [2,3] [m 25 0,a 2 25,o 3 (AB false)]) (x [2,3])) z)) (q (r [0,7,8] [m 27 4,o 28 (C 91 27),m 26 28,o 29 (E 26 0),o 30 (E 26 1),a 7 29,a 8 30]) (q (q (r [0,7,37] [m 31 8,o 32 (BI .neq 31 0),m 33 32,h 33 34 (M 7),h 33 35 (C 92 34),h 33 36 (U 35),o 37 (O 33 36)]) (w 37 (q (r [2,3] [m 38 0,a 2 38,o 3 (AB false)]) (x [2,3])) z)) (q (r [2,3] [m 39 7,a 2 39,o 3 (AB true)]) (x [2,3])))))))),[]⟩
def FK:pa:=⟨9,[.inl 2],(q (r [0] [o 2 (AB false)]) (q (r [2] [m 3 0,o 4 (BU .eql 3 32),m 5 4,h 5 6 (M 0),h 5 7 (BU .eql 6 9),o 8 (O 5 7),a 2 8]) (x [2]))),[]⟩
def HM:pa:=⟨19,[.inl 4,.inl 5],(q (r [0,1] [o 4 (AI 0),o 5 (.asg (.c (.flat .nilIface)))]) (q (r [0,1] [m 6 0,o 7 (C 93 6)]) (q (r [1] [m 8 0,m 9 0,o 10 (N 9),o 11 (F 1 10),o 12 (.loadA (.t 11)),m 13 1,o 14 (.appendS (.t 12) (.t 13)),o 15 (N 8),o 16 (F 1 15),n (S 1 16 14)]) (q (r [4,5] [m 17 1,o 18 (K 17),a 4 18,o 5 (.asg (.c (.flat .nilIface)))]) (x [4,5]))))),[]⟩
def GM:pa:=⟨17,[.inl 4],(q (r [0,1] [o 4 (.asg (.c (.flat .nilIface)))]) (q (r [0,1] [m 5 0,o 6 (C 93 5)]) (q (r [] [m 7 0,m 8 0,o 9 (N 8),o 10 (F 1 9),o 11 (.loadA (.t 10)),m 12 1,o 13 (.mksl true 1 1 [.flat (.int .u8 0)] [⟨0,⟨1,.t 12⟩⟩]),o 14 (.append true 1 (.t 11) (.t 13)),o 15 (N 7),o 16 (F 1 15),n (S 1 16 14)]) (q (r [4] [o 4 (.asg (.c (.flat .nilIface)))]) (x [4]))))),[]⟩
def jQ:ka:=(r [5,6] [a 6 10])
def UP:ka:=(.block 1 (r [] [o 11 (.loadA (.t 5)),m 12 6,o 13 (.mksl false 1 1 [Z] [⟨0,⟨1,.t 12⟩⟩]),o 14 (.append false 1 (.t 11) (.t 13)),n (S 1 5 14)]))
def sM:pa:=⟨16,[.inl 4],(q (r [0,1,4] [o 4 (.asg (.c V))]) (q (r [0,1,4,5] [o 5 (.alloc 29 [V])]) (q (q (r [4,5,9] [m 7 0,m 8 1,o 9 (CC 88 7 8)]) (.block 0 (.range 41 0 [5] (.t 9)))) (q (r [4] [o 15 (L 1 5),a 4 15]) (x [4]))))),[([10],jQ,UP)]⟩
def tM:pa:=⟨6,[.inl 4],(q (r [2,3] [o 2 (.box 9 1 (.t 0)),o 3 (.box 5 1 (.t 1)),o 4 (.asg (.c (.flat .nilFunc)))]) (q (r [4] [o 5 (.clos 149 [.t 2,.t 3]),a 4 5]) (x [4]))),[]⟩
def mG:ka:=(.block 1 (q (r [0,1,2,4] [o 5 (L 1 1),o 6 (L 1 2),o 7 (CC 96 5 6),a 4 7]) (q (q (r [0,1,2,4,9] [m 8 4,o 9 (BI .lss 8 0)]) (w 9 (q (r [] [m 10 0,o 11 (L 1 1),o 12 (.callv (.t 10) [.t 11])]) (x [])) z)) (q (q (r [0,1,2,4,18] [m 13 0,o 14 (L 1 1),m 15 4,o 16 (.sliceS (.t 14) .none (.some (.t 15))),o 17 (.callv (.t 13) [.t 16]),o 18 (U 17)]) (w 18 (x []) z)) (r [0,1,2] [o 19 (L 1 1),m 20 4,o 21 (BI .add 20 1),o 22 (.sliceS (.t 19) (.some (.t 21)) .none),n (S 1 1 22)])))))
def oC:ka:=mG
def tH:=@Za oC mG rfl
def uM:pa:=⟨23,[],(k 0 [0,1,2] oC),[]⟩
def qM:pa:=⟨22,[.inl 6],(q (r [0,1,2] [o 6 (AB false)]) (q (r [6] [m 7 2,o 8 (BI .geq 7 0),m 9 8,g 9 10 (M 2),g 9 11 (M 0),g 9 12 (K 11),g 9 13 (B .leq 10 12),o 14 (P 9 13),m 15 14,g 15 16 (M 0),g 15 17 (M 2),g 15 18 (.sliceS (.t 16) (.some (.t 17)) .none),g 15 19 (M 1),g 15 20 (CC 80 18 19),o 21 (P 15 20),a 6 21]) (x [6]))),[]⟩
def tG:ka:=(q (q (r [4,5,19] [m 15 4,o 16 (N 15),o 17 (F 0 16),o 18 (C 111 17),o 19 (U 18)]) (w 19 z (.exit 0 [5]))) (.block 1 (q (r [4,5,6,7] [m 21 4,o 22 (C 112 21),m 20 22,o 23 (E 20 0),o 24 (E 20 1),o 6 (.alloc 190 [.flat (.int .u8 0),Z,Z,V,J,J]),n (S 6 6 23),a 7 24]) (q (q (r [4,5,6,26] [m 25 7,o 26 (U 25)]) (w 26 (q (r [2,3] [o 2 (.asg (.c V)),o 3 (AI 7)]) (x [2,3])) z)) (r [4,5] [o 27 (.mvA 5),o 28 (LT 6 6),o 29 (.mksl false 1 6 [.flat (.int .u8 0),Z,Z,V,J,J] [⟨0,⟨6,.t 28⟩⟩]),o 30 (.append false 6 (.t 27) (.t 29)),a 5 30])))))
def uC:ka:=tG
def xH:=@Za uC tG rfl
def IM:pa:=⟨32,[.inl 2,.inl 3],(q (r [0] [o 2 (.asg (.c V)),o 3 (AI 0)]) (q (q (r [0,10] [m 8 0,o 9 (C 92 8),o 10 (U 9)]) (w 10 (q (r [2,3] [o 2 (.asg (.c V)),o 3 (AI 7)]) (x [2,3])) z)) (q (r [4] [m 11 0,o 12 (.build [Z,J] [⟨0,⟨1,.t 11⟩⟩]),o 13 (.build [Z,J] [⟨0,⟨2,.t 12⟩⟩]),o 14 (.box 187 2 (.t 13)),a 4 14]) (q (r [4,5] [o 5 (.asg (.c V))]) (q (k 0 [4,5] uC) (q (r [2,3] [m 31 5,a 2 31,o 3 (AI 0)]) (x [2,3]))))))),[]⟩
def JM:pa:=⟨13,[.inl 2],(q (r [0] [o 2 (AB false)]) (q (r [2] [m 3 0,o 4 (BS .eql 3 #[98,114]),m 5 4,h 5 6 (M 0),h 5 7 (BS .eql 6 #[104,114]),o 8 (O 5 7),m 9 8,h 9 10 (M 0),h 9 11 (BS .eql 10 #[105,109,103]),o 12 (O 9 11),a 2 12]) (x [2]))),[]⟩
def MM:pa:=⟨6,[.inl 2],(q (r [0] [o 2 (AB false)]) (q (r [2] [o 3 (.mksl false 26 1 [Z,Z,Z,Z,Z,Z,Z,Z,Z,Z,Z,Z,Z,Z,Z,Z,Z,Z,Z,Z,Z,Z,Z,Z,Z,Z] [⟨0,⟨1,s #[97]⟩⟩,⟨1,⟨1,s #[98]⟩⟩,⟨2,⟨1,s #[98,114]⟩⟩,⟨3,⟨1,s #[99,111,100,101]⟩⟩,⟨4,⟨1,s #[100,105,118]⟩⟩,⟨5,⟨1,s #[101,109]⟩⟩,⟨6,⟨1,s #[104,49]⟩⟩,⟨7,⟨1,s #[104,50]⟩⟩,⟨8,⟨1,s #[104,51]⟩⟩,⟨9,⟨1,s #[104,114]⟩⟩,⟨10,⟨1,s #[105]⟩⟩,⟨11,⟨1,s #[105,109,103]⟩⟩,⟨12,⟨1,s #[108,105]⟩⟩,⟨13,⟨1,s #[111,108]⟩⟩,⟨14,⟨1,s #[112]⟩⟩,⟨15,⟨1,s #[112,114,101]⟩⟩,⟨16,⟨1,s #[115,112,97,110]⟩⟩,⟨17,⟨1,s #[115,116,114,111,110,103]⟩⟩,⟨18,⟨1,s #[116,97,98,108,101]⟩⟩,⟨19,⟨1,s #[116,98,111,100,121]⟩⟩,⟨20,⟨1,s #[116,100]⟩⟩,⟨21,⟨1,s #[116,104]⟩⟩,⟨22,⟨1,s #[116,104,101,97,100]⟩⟩,⟨23,⟨1,s #[116,114]⟩⟩,⟨24,⟨1,s #[117]⟩⟩,⟨25,⟨1,s #[117,108]⟩⟩]),m 4 0,o 5 (CC 241 3 4),a 2 5]) (x [2]))),[]⟩
def KM:pa:=⟨6,[.inl 2],(q (r [0] [o 2 (AB false)]) (q (r [2] [o 3 (.mksl false 9 1 [Z,Z,Z,Z,Z,Z,Z,Z,Z] [⟨0,⟨1,s #[97,108,116]⟩⟩,⟨1,⟨1,s #[99,108,97,115,115]⟩⟩,⟨2,⟨1,s #[99,111,108,115,112,97,110]⟩⟩,⟨3,⟨1,s #[104,114,101,102]⟩⟩,⟨4,⟨1,s #[105,100]⟩⟩,⟨5,⟨1,s #[114,111,119,115,112,97,110]⟩⟩,⟨6,⟨1,s #[115,114,99]⟩⟩,⟨7,⟨1,s #[116,105,116,108,101]⟩⟩,⟨8,⟨1,s #[119,105,100,116,104]⟩⟩]),m 4 0,o 5 (CC 241 3 4),a 2 5]) (x [2]))),[]⟩
def LM:pa:=⟨13,[.inl 2],(q (r [0] [o 2 (AB false)]) (q (r [2] [m 3 0,o 4 (BU .eql 3 32),m 5 4,h 5 6 (M 0),h 5 7 (BU .eql 6 9),o 8 (O 5 7),m 9 8,h 9 10 (M 0),h 9 11 (BU .eql 10 10),o 12 (O 9 11),a 2 12]) (x [2]))),[]⟩
def QM:pa:=⟨17,[.inl 2],(q (r [0] [o 2 (AB false)]) (q (r [2] [m 3 0,o 4 (BU .geq 3 97),m 5 4,g 5 6 (M 0),g 5 7 (BU .leq 6 122),o 8 (P 5 7),m 9 8,h 9 10 (M 0),h 9 11 (BU .geq 10 48),h 9 12 (M 11),g 12 13 (M 0),g 12 14 (BU .leq 13 57),h 9 15 (P 12 14),o 16 (O 9 15),a 2 16]) (x [2]))),[]⟩
def NM:pa:=⟨13,[.inl 2],(q (r [0] [o 2 (AB false)]) (q (.Ab [2] [m 3 0,o 4 (N 3),o 5 (F 1 4),o 6 (L 1 5),m 7 0,o 8 (N 7),o 9 (F 0 8),o 10 (L 1 9),o 11 (K 10)] [o 12 (B .geq 6 11),a 2 12]) (x [2]))),[]⟩
def OM:pa:=⟨26,[.inl 4],(q (r [0,1] [o 4 (AB false)]) (q (q (.Ab [0,1,16] [m 5 0,o 6 (N 5),o 7 (F 0 6),o 8 (L 1 7),m 9 0,o 10 (N 9),o 11 (F 1 10),o 12 (L 1 11),o 13 (.sliceS (.t 8) (.some (.t 12)) .none),m 14 1] [o 15 (CC 80 13 14),o 16 (U 15)]) (w 16 (q (r [4] [o 4 (AB false)]) (x [4])) z)) (q (r [] [m 17 0,o 18 (N 17),o 19 (F 1 18),o 20 (L 1 19),m 21 1,o 22 (K 21),o 23 (B .add 20 22),o 24 (N 17),o 25 (F 1 24),n (S 1 25 23)]) (q (r [4] [o 4 (AB true)]) (x [4]))))),[]⟩
def uG:ka:=(q (q (.Od [0,1,5,25] [m 10 0,o 11 (C 111 10),o 12 (U 11),m 13 12,g 13 14 (M 1),g 13 15 (M 0),g 13 16 (N 15),g 13 17 (F 0 16),g 13 18 (L 1 17),g 13 19 (M 0),g 13 20 (N 19),g 13 21 (F 1 20),g 13 22 (L 1 21),g 13 23 (D 18 22)] (.one (g 13 24 (.callv (.t 14) [.t 23])) (.one (o 25 (P 13 24)) .done))) (w 25 z (.exit 0 [0,5]))) (.block 1 (r [0,1,5] [m 26 0,o 27 (N 26),o 28 (F 1 27),o 29 (L 1 28),o 30 (BI .add 29 1),o 31 (N 26),o 32 (F 1 31),n (S 1 32 30)])))
def vC:ka:=uG
def yH:=@Za vC uG rfl
def PM:pa:=⟨43,[.inl 4],(q (r [0,1] [o 4 (AS #[])]) (q (r [0,1,5] [m 6 0,o 7 (N 6),o 8 (F 1 7),o 9 (L 1 8),a 5 9]) (q (k 0 [0,1,5] vC) (q (.Ab [4] [m 33 0,o 34 (N 33),o 35 (F 0 34),o 36 (L 1 35),m 37 5,m 38 0,o 39 (N 38),o 40 (F 1 39),o 41 (L 1 40)] [o 42 (.sliceS (.t 36) (.some (.t 37)) (.some (.t 41))),a 4 42]) (x [4]))))),[]⟩
def SM:pa:=⟨69,[.inr ⟨2,⟨true,6⟩⟩,.inl 3],(q (r [0,2] [o 2 (.alloc 190 [.flat (.int .u8 0),Z,Z,V,J,J]),o 3 (AB false)]) (q (r [0,2,4] [m 9 0,o 10 (N 9),o 11 (F 0 10),o 12 (F 1 11),o 13 (L 1 12),a 4 13]) (q (.block 0 (q (r [0,2,4,14] [m 15 0,o 16 (N 15),o 17 (F 0 16),o 18 (CS 178 17 #[60,47]),a 14 18]) (w 14 (q (r [0,2,4,5] [m 19 0,o 20 (N 19),o 21 (F 0 20),o 22 (.call 179 [.t 21,.c (.ib 180 [])]),a 5 22]) (q (r [0,2,4,5,6] [m 23 5,o 24 (C 181 23),m 25 24,g 25 26 (M 5),g 25 27 (C 182 26),g 25 28 (U 27),o 29 (P 25 28),m 30 29,g 30 31 (M 0),g 30 32 (N 31),g 30 33 (F 0 32),g 30 34 (CS 178 33 #[62]),o 35 (P 30 34),a 6 35]) (q (r [2,3] [m 36 5,m 37 4,m 38 0,o 39 (N 38),o 40 (F 0 39),o 41 (F 1 40),o 42 (L 1 41),o 43 (.build [.flat (.int .u8 0),Z,Z,V,J,J] [⟨0,⟨1,u 99⟩⟩,⟨1,⟨1,.t 36⟩⟩,⟨4,⟨1,.t 37⟩⟩,⟨5,⟨1,.t 42⟩⟩]),m 44 6,n (S 6 2 43),a 3 44]) (x [2,3])))) (q (r [0,2,4,45] [m 46 0,o 47 (N 46),o 48 (F 0 47),o 49 (CS 178 48 #[60]),a 45 49]) (w 45 (q (r [2,3] [m 50 0,m 51 4,o 52 (CC 183 50 51),o 53 (E 52 0),o 54 (E 52 1),n (S 6 2 53),a 3 54]) (x [2,3])) z))))) (q (r [0,2,4,7,8] [m 56 0,o 57 (.call 184 [.t 56,u 60,u 62]),m 55 57,o 58 (E 55 0),o 59 (E 55 1),a 7 58,a 8 59]) (q (r [2,3] [m 60 7,m 61 4,m 62 0,o 63 (N 62),o 64 (F 0 63),o 65 (F 1 64),o 66 (L 1 65),o 67 (.build [.flat (.int .u8 0),Z,Z,V,J,J] [⟨0,⟨1,u 116⟩⟩,⟨2,⟨1,.t 60⟩⟩,⟨4,⟨1,.t 61⟩⟩,⟨5,⟨1,.t 66⟩⟩]),m 68 8,n (S 6 2 67),a 3 68]) (x [2,3])))))),[]⟩
def wG:ka:=(.block 1 (q (r [0,4,6,7] [m 21 0,o 22 (N 21),o 23 (F 0 22),o 24 (.call 179 [.t 23,.c (.ib 242 [])]),a 7 24]) (q (q (r [0,4,6,7,28] [m 25 0,o 26 (N 25),o 27 (F 0 26),o 28 (CS 178 27 #[62])]) (w 28 (q (r [4,6] [m 29 0,o 30 (N 29),o 31 (F 0 30),o 32 (F 1 31),o 33 (L 1 32),o 34 (F 5 6),n (S 1 34 33)]) (q (r [4,5] [o 35 (LT 6 6),n (S 6 4 35),o 5 (AB true)]) (x [4,5]))) z)) (q (r [0,4,6,7,8,9] [m 37 0,o 38 (C 243 37),m 36 38,o 39 (E 36 0),o 40 (E 36 1),o 8 (.alloc 282 [Z,Z,J,J]),n (S 4 8 39),a 9 40]) (q (q (r [0,4,6,8,52] [m 41 9,o 42 (U 41),m 43 42,h 43 44 (M 7),h 43 45 (BS .eql 44 #[]),o 46 (O 43 45),m 47 46,h 47 48 (F 3 6),h 47 49 (L 1 48),h 47 50 (.clos 245 [.t 8]),h 47 51 (CC 244 49 50),o 52 (O 47 51)]) (w 52 (q (r [4,5] [o 53 (LT 6 6),n (S 6 4 53),o 5 (AB false)]) (x [4,5])) z)) (r [0,4,6] [o 54 (F 3 6),o 55 (.loadA (.t 54)),o 56 (LT 4 8),o 57 (.mksl false 1 4 [Z,Z,J,J] [⟨0,⟨4,.t 56⟩⟩]),o 58 (.append false 4 (.t 55) (.t 57)),o 59 (F 3 6),n (S 1 59 58)]))))))
def Tr:ka:=wG
def Fv:=@Za Tr wG rfl
def UM:pa:=⟨60,[.inr ⟨4,⟨true,6⟩⟩,.inl 5],(q (r [0,1,4] [o 4 (.alloc 190 [.flat (.int .u8 0),Z,Z,V,J,J]),o 5 (AB false)]) (q (r [0,4,6] [m 10 0,o 11 (N 10),o 12 (F 0 11),o 13 (.call 179 [.t 12,.c (.ib 180 [])]),m 14 1,o 15 (.build [.flat (.int .u8 0),Z,Z,V,J,J] [⟨0,⟨1,u 111⟩⟩,⟨1,⟨1,.t 13⟩⟩,⟨4,⟨1,.t 14⟩⟩]),o 6 (.alloc 190 [.flat (.int .u8 0),Z,Z,V,J,J]),n (S 6 6 15)]) (q (q (r [0,4,6,19] [o 16 (F 1 6),o 17 (L 1 16),o 18 (C 181 17),o 19 (U 18)]) (w 19 (q (r [4,5] [o 20 (LT 6 6),n (S 6 4 20),o 5 (AB false)]) (x [4,5])) z)) (k 0 [0,4,6] Tr)))),[]⟩
def VM:pa:=⟨9,[.inl 3],(q (r [1,2] [o 2 (.box 282 4 (.t 0)),o 3 (AB false)]) (q (r [3] [o 4 (F 0 2),o 5 (L 1 4),o 6 (F 0 1),o 7 (L 1 6),o 8 (B .eql 5 7),a 3 8]) (x [3]))),[]⟩
def xG:ka:=(q (q (.Od [0,1,2,8,31] [m 12 0,o 13 (N 12),o 14 (F 0 13),o 15 (C 111 14),o 16 (U 15),m 17 16,g 17 18 (M 0),g 17 19 (N 18),g 17 20 (F 0 19),g 17 21 (F 0 20),g 17 22 (L 1 21),g 17 23 (M 0),g 17 24 (N 23),g 17 25 (F 0 24),g 17 26 (F 1 25),g 17 27 (L 1 26),g 17 28 (D 22 27),g 17 29 (M 1),g 17 30 (B .neq 28 29),o 31 (P 17 30)] .done) (w 31 z (.exit 0 [8]))) (.block 1 (q (.Ab [0,1,2,8,9] [m 32 0,o 33 (N 32),o 34 (F 0 33),o 35 (F 0 34),o 36 (L 1 35),m 37 0,o 38 (N 37),o 39 (F 0 38),o 40 (F 1 39),o 41 (L 1 40)] [o 42 (D 36 41),a 9 42]) (q (r [0,1,2,8,9,43] [m 43 9]) (.block 2 (q (r [0,1,2,8,9,43,55] [m 56 2,o 57 (B .eql 43 56),a 55 57]) (w 55 (q (r [6,7] [o 6 (AS #[]),o 7 (AB false)]) (x [6,7])) (q (r [0,1,2,8,9,58] [o 59 (BU .eql 43 38),a 58 59]) (w 58 (q (r [0,1,2,8,10,11] [m 61 0,o 62 (C 246 61),m 60 62,o 63 (E 60 0),o 64 (E 60 1),a 10 63,a 11 64]) (q (q (r [0,1,2,8,10,66] [m 65 11,o 66 (U 65)]) (w 66 (q (r [6,7] [o 6 (AS #[]),o 7 (AB false)]) (x [6,7])) z)) (r [0,1,2,8] [m 67 10,o 68 (CC 45 8 67)]))) (q (r [0,1,2,8] [m 44 9,o 45 (CC 44 8 44)]) (r [0,1,2,8] [m 46 0,o 47 (N 46),o 48 (F 0 47),o 49 (F 1 48),o 50 (L 1 49),o 51 (BI .add 50 1),o 52 (N 46),o 53 (F 0 52),o 54 (F 1 53),n (S 1 54 51)])))))))))))
def xC:ka:=xG
def Ws:=@Za xC xG rfl
def XM:pa:=⟨70,[.inl 6,.inl 7],(q (r [0,1,2] [o 6 (AS #[]),o 7 (AB false)]) (q (r [0,1,2,8] [o 8 (.alloc 101 [.flat (.pointer .none),V])]) (q (k 0 [0,1,2,8] xC) (q (r [6,7] [o 69 (C 46 8),a 6 69,o 7 (AB true)]) (x [6,7]))))),[]⟩
def WM:pa:=⟨42,[.inl 2,.inl 3],(q (r [0] [o 2 (AS #[]),o 3 (AB false)]) (q (.block 0 (q (r [0,4] [m 5 0,o 6 (N 5),o 7 (F 0 6),o 8 (CS 178 7 #[38,97,109,112,59]),a 4 8]) (w 4 (q (r [2,3] [o 2 (AS #[38]),o 3 (AB true)]) (x [2,3])) (q (r [0,9] [m 10 0,o 11 (N 10),o 12 (F 0 11),o 13 (CS 178 12 #[38,108,116,59]),a 9 13]) (w 9 (q (r [2,3] [o 2 (AS #[60]),o 3 (AB true)]) (x [2,3])) (q (r [0,14] [m 15 0,o 16 (N 15),o 17 (F 0 16),o 18 (CS 178 17 #[38,103,116,59]),a 14 18]) (w 14 (q (r [2,3] [o 2 (AS #[62]),o 3 (AB true)]) (x [2,3])) (q (r [0,19] [m 20 0,o 21 (N 20),o 22 (F 0 21),o 23 (CS 178 22 #[38,113,117,111,116,59]),a 19 23]) (w 19 (q (r [2,3] [o 2 (AS #[34]),o 3 (AB true)]) (x [2,3])) (q (r [0,24] [m 25 0,o 26 (N 25),o 27 (F 0 26),o 28 (CS 178 27 #[38,35,120]),a 24 28]) (w 24 (q (r [2,3] [m 29 0,o 30 (.call 281 [.t 29,i 16,i 6]),o 31 (E 30 0),o 32 (E 30 1),a 2 31,a 3 32]) (x [2,3])) (q (r [0,33] [m 34 0,o 35 (N 34),o 36 (F 0 35),o 37 (CS 178 36 #[38,35]),a 33 37]) (w 33 (q (r [2,3] [m 38 0,o 39 (.call 281 [.t 38,i 10,i 7]),o 40 (E 39 0),o 41 (E 39 1),a 2 40,a 3 41]) (x [2,3])) z))))))))))))) (q (r [2,3] [o 2 (AS #[]),o 3 (AB false)]) (x [2,3])))),[]⟩
def vG:ka:=(q (q (r [0,1,2,8,9,24] [m 15 0,o 16 (N 15),o 17 (F 0 16),o 18 (C 111 17),o 19 (U 18),m 20 19,g 20 21 (M 9),g 20 22 (M 2),g 20 23 (B .lss 21 22),o 24 (P 20 23)]) (w 24 z (.exit 0 [0,8]))) (.block 1 (q (r [0,1,2,8,9,10] [m 25 1,a 10 25]) (q (q (.Ab [0,1,2,8,9,10,11] [m 26 0,o 27 (N 26),o 28 (F 0 27),o 29 (F 0 28),o 30 (L 1 29),m 31 0,o 32 (N 31),o 33 (F 0 32),o 34 (F 1 33),o 35 (L 1 34)] [o 36 (D 30 35),a 11 36]) (.block 2 (q (r [0,1,2,8,9,10,11,37] [m 38 11,o 39 (BU .geq 38 48),m 40 39,g 40 41 (M 11),g 40 42 (BU .leq 41 57),o 43 (P 40 42),a 37 43]) (w 37 (r [0,1,2,8,9,10] [m 44 11,o 45 (BU .sub 44 48),o 46 (.conv .i64 (.t 45)),a 10 46]) (q (r [0,1,2,8,9,10,11,47] [m 48 11,o 49 (BU .or 48 32),o 50 (BU .geq 49 97),m 51 50,g 51 52 (M 11),g 51 53 (BU .or 52 32),g 51 54 (BU .leq 53 102),o 55 (P 51 54),a 47 55]) (w 47 (r [0,1,2,8,9,10] [m 56 11,o 57 (BU .or 56 32),o 58 (BU .sub 57 97),o 59 (.conv .i64 (.t 58)),o 60 (BI .add 59 10),a 10 60]) z)))))) (q (q (r [0,1,2,8,9,10,63] [m 61 10,m 62 1,o 63 (B .geq 61 62)]) (w 63 (.exit 0 [0,8]) z)) (q (r [0,1,2,8,9] [m 64 8,m 65 1,o 66 (B .mul 64 65),m 67 10,o 68 (B .add 66 67),a 8 68]) (q (r [0,1,2,8,9] [m 69 9,o 70 (BI .add 69 1),a 9 70]) (r [0,1,2,8,9] [m 71 0,o 72 (N 71),o 73 (F 0 72),o 74 (F 1 73),o 75 (L 1 74),o 76 (BI .add 75 1),o 77 (N 71),o 78 (F 0 77),o 79 (F 1 78),n (S 1 79 76)]))))))))
def wC:ka:=vG
def Zk:=@Za wC vG rfl
def TM:pa:=⟨104,[.inl 6,.inl 7],(q (r [0,1,2] [o 6 (AS #[]),o 7 (AB false)]) (q (r [0,1,2,8,9] [o 8 (AI 0),o 9 (AI 0)]) (q (k 0 [0,1,2,8,9] wC) (q (r [0,8,12] [m 80 8,o 81 (.conv .i32 (.t 80)),o 82 (C 159 81),a 12 82]) (q (q (r [0,8,12,13] [m 84 12,o 85 (CI 225 84 0),m 83 85,o 86 (E 83 0),o 87 (E 83 1),a 13 86,a 14 87]) (q (r [12,102] [m 88 8,o 89 (BI .eql 88 0),m 90 89,h 90 91 (M 13),h 90 92 (.conv .i64 (.t 91)),h 90 93 (M 8),h 90 94 (B .neq 92 93),o 95 (O 90 94),m 96 95,h 96 97 (M 0),h 96 98 (N 97),h 96 99 (F 0 98),h 96 100 (CS 178 99 #[59]),h 96 101 (U 100),o 102 (O 96 101)]) (w 102 (q (r [6,7] [o 6 (AS #[]),o 7 (AB false)]) (x [6,7])) z))) (q (r [6,7] [m 103 12,a 6 103,o 7 (AB true)]) (x [6,7]))))))),[]⟩
def RM:pa:=⟨51,[.inr ⟨2,⟨true,4⟩⟩,.inl 3],(q (r [0,2] [o 2 (.alloc 282 [Z,Z,J,J]),o 3 (AB false)]) (q (r [0,2,4] [m 7 0,o 8 (N 7),o 9 (F 0 8),o 10 (.call 179 [.t 9,.c (.ib 180 [])]),o 11 (.build [Z,Z,J,J] [⟨0,⟨1,.t 10⟩⟩]),o 4 (.alloc 282 [Z,Z,J,J]),n (S 4 4 11)]) (q (q (r [0,2,4,22] [o 12 (F 0 4),o 13 (L 1 12),o 14 (C 279 13),o 15 (U 14),m 16 15,h 16 17 (M 0),h 16 18 (N 17),h 16 19 (F 0 18),h 16 20 (CS 178 19 #[61,34]),h 16 21 (U 20),o 22 (O 16 21)]) (w 22 (q (r [2,3] [o 23 (LT 4 4),n (S 4 2 23),o 3 (AB false)]) (x [2,3])) z)) (q (r [0,2,4] [m 24 0,o 25 (N 24),o 26 (F 0 25),o 27 (F 1 26),o 28 (L 1 27),o 29 (F 2 4),n (S 1 29 28)]) (q (r [0,2,4,5,6] [m 31 0,o 32 (.call 184 [.t 31,u 34,u 60]),m 30 32,o 33 (E 30 0),o 34 (E 30 1),a 5 33,a 6 34]) (q (.Od [0,2,4,6] [m 35 5,m 36 0,o 37 (N 36),o 38 (F 0 37),o 39 (F 1 38),o 41 (F 1 4)] (.two (o 40 (L 1 39)) (.one (n (S 1 41 35)) (.one (o 42 (F 3 4)) (.one (n (S 1 42 40)) .done))) (.one (n (S 1 41 35)) (.one (o 40 (L 1 39)) (.one (o 42 (F 3 4)) (.one (n (S 1 42 40)) .done)))))) (q (.Od [2,3] [m 44 6,m 45 44,g 45 46 (M 0),g 45 47 (N 46),g 45 48 (F 0 47)] (.two (o 43 (LT 4 4)) (.one (g 45 49 (CS 178 48 #[34])) (.two (o 50 (P 45 49)) (.one (n (S 4 2 43)) (.one (a 3 50) .done)) (.one (n (S 4 2 43)) (.one (o 50 (P 45 49)) (.one (a 3 50) .done))))) (.one (g 45 49 (CS 178 48 #[34])) (.two (o 43 (LT 4 4)) (.two (o 50 (P 45 49)) (.one (n (S 4 2 43)) (.one (a 3 50) .done)) (.one (n (S 4 2 43)) (.one (o 50 (P 45 49)) (.one (a 3 50) .done)))) (.one (o 50 (P 45 49)) (.one (o 43 (LT 4 4)) (.one (n (S 4 2 43)) (.one (a 3 50) .done)))))))) (x [2,3])))))))),[]⟩
def CM:pa:=⟨9,[.inl 4],(q (r [0,1] [o 4 (AB false)]) (q (r [4] [m 5 0,m 6 1,o 7 (CC 280 5 6),o 8 (BI .geq 7 0),a 4 8]) (x [4]))),[]⟩
def rG:ka:=(q (r [0,1,7,8,9] [o 9 (B .lss 8 7)]) (q (w 9 z (.exit 0 [])) (q (.block 1 (q (r [0,1,5,7,8] [m 10 8,a 5 10]) (q (r [0,1,5,7,8,16] [m 11 1,m 12 0,m 13 5,o 14 (Y 4 12 13),o 15 (LT 4 14),o 16 (.callv (.t 11) [.t 15])]) (w 16 (q (r [4] [m 17 5,a 4 17]) (x [4])) z)))) (r [0,1,7,8] [o 18 (BI .add 8 1),m 8 18]))))
def sC:ka:=rG
def vH:=@Za sC rG rfl
def EM:pa:=⟨19,[.inl 4],(q (r [0,1] [o 4 (AI 0)]) (q (q (r [0,1,7,8] [m 6 0,o 7 (W 6),o 8 (.mv (i 0))]) (k 0 [0,1,7,8] sC)) (q (r [4] [o 4 (.asg (.c (.flat (.int .i64 (.negSucc 0)))))]) (x [4])))),[]⟩
def DM:pa:=⟨9,[.inl 4],(q (r [0,1] [o 4 (AB false)]) (q (r [4] [m 5 0,m 6 1,o 7 (CC 278 5 6),o 8 (BI .geq 7 0),a 4 8]) (x [4]))),[]⟩
def sG:ka:=(q (r [0,1,7,8,9] [o 9 (B .lss 8 7)]) (q (w 9 z (.exit 0 [])) (q (.block 1 (q (r [0,1,5,7,8] [m 10 8,a 5 10]) (q (r [0,1,5,7,8,16] [m 11 1,m 12 0,m 13 5,o 14 (Y 1 12 13),o 15 (L 1 14),o 16 (B .eql 11 15)]) (w 16 (q (r [4] [m 17 5,a 4 17]) (x [4])) z)))) (r [0,1,7,8] [o 18 (BI .add 8 1),m 8 18]))))
def tC:ka:=sG
def wH:=@Za tC sG rfl
def FM:pa:=⟨19,[.inl 4],(q (r [0,1] [o 4 (AI 0)]) (q (q (r [0,1,7,8] [m 6 0,o 7 (W 6),o 8 (.mv (i 0))]) (k 0 [0,1,7,8] tC)) (q (r [4] [o 4 (.asg (.c (.flat (.int .i64 (.negSucc 0)))))]) (x [4])))),[]⟩
def FF:ka:=(q (r [0,2,6,10,91,92,93,94] [o 94 (B .lss 93 92)]) (q (w 94 z (.exit 2 [6,10])) (q (.block 3 (q (r [0,2,6,10,17,91,92,93] [o 95 (Y 1 91 93),o 96 (L 1 95),a 17 96]) (.Od [0,2,6,10,91,92,93] [o 97 (F 3 10),m 99 0,m 100 17,m 101 2,o 102 (BI .add 101 1)] (.two (o 98 (.loadM (.t 97))) (.one (o 103 (.call 37 [.t 99,.t 100,.t 102])) (.one (o 104 (.mksl false 1 4 [V,Z,Z,V] [⟨0,⟨4,.t 103⟩⟩])) (.one (o 105 (.append false 4 (.t 98) (.t 104))) (.one (o 106 (F 3 10)) (.one (n (S 1 106 105)) .done))))) (.one (o 103 (.call 37 [.t 99,.t 100,.t 102])) (.two (o 98 (.loadM (.t 97))) (.one (o 104 (.mksl false 1 4 [V,Z,Z,V] [⟨0,⟨4,.t 103⟩⟩])) (.one (o 105 (.append false 4 (.t 98) (.t 104))) (.one (o 106 (F 3 10)) (.one (n (S 1 106 105)) .done)))) (.one (o 104 (.mksl false 1 4 [V,Z,Z,V] [⟨0,⟨4,.t 103⟩⟩])) (.one (o 98 (.loadM (.t 97))) (.one (o 105 (.append false 4 (.t 98) (.t 104))) (.one (o 106 (F 3 10)) (.one (n (S 1 106 105)) .done))))))))))) (r [0,2,6,10,91,92,93] [o 107 (BI .add 93 1),m 93 107]))))
def SJ:ka:=FF
def A_:=@Za SJ FF rfl
def iQ:ka:=(r [14,15] [a 15 68])
def SP:ka:=(.block 1 (r [] [o 69 (.loadA (.t 14)),m 70 15,o 71 (.mksl false 1 1 [Z] [⟨0,⟨1,.t 70⟩⟩]),o 72 (.append false 1 (.t 69) (.t 71)),n (S 1 14 72)]))
def pL:pa:=⟨109,[.inr ⟨6,⟨true,4⟩⟩],(q (r [0,1,2,6] [o 6 (.alloc 52 [V,Z,Z,V])]) (q (r [0,1,2,6,7,8,9] [m 19 1,o 20 (C 75 19),m 18 20,o 21 (E 18 0),o 22 (E 18 1),o 23 (E 18 2),a 7 21,a 8 22,a 9 23]) (q (r [0,1,2,6,7,8] [m 24 9,o 25 (BI .eql 24 0),m 26 9,o 27 (CC 76 25 26)]) (q (r [0,1,2,6,7,8,10] [m 28 7,o 29 (.build [V,Z,Z,V] [⟨0,⟨1,.t 28⟩⟩]),o 10 (.alloc 52 [V,Z,Z,V]),n (S 4 10 29)]) (q (r [0,1,2,6,7,8,10] [o 11 (AS #[])]) (q (r [0,1,2,6,7,8,10,11] [m 31 7,o 32 (C 77 31),m 30 32,o 33 (E 30 0),o 34 (E 30 1),o 35 (F 1 10),n (S 1 35 33),a 11 34]) (q (r [0,1,2,6,8,10,11,12,13] [m 37 7,o 38 (CS 78 37 #[99,111,110,116,101,110,116,45,116,114,97,110,115,102,101,114,45,101,110,99,111,100,105,110,103]),m 36 38,o 39 (E 36 0),o 40 (E 36 1),a 12 39,a 13 40]) (q (q (r [0,1,2,6,8,10,11,12,42] [m 41 13,o 42 (BI .eql 41 0)]) (w 42 (r [0,1,2,6,8,10,11,12] [o 12 (AS #[55,98,105,116])]) z)) (q (r [0,1,2,6,8,10,11,12] [m 43 12,o 44 (C 79 43),a 12 44]) (q (q (r [0,1,2,6,8,10,11,12,48] [o 45 (F 1 10),o 46 (L 1 45),o 47 (CS 80 46 #[109,117,108,116,105,112,97,114,116,47]),o 48 (U 47)]) (w 48 (q (r [6,10] [m 49 1,m 50 8,o 51 (.sliceS (.t 49) (.some (.t 50)) .none),m 52 12,o 53 (CC 81 51 52),o 54 (F 2 10),n (S 1 54 53)]) (q (r [6] [o 55 (LT 4 10),n (S 4 6 55)]) (x [6]))) z)) (q (r [0,1,2,6,8,10,11] [m 56 12,o 57 (BS .eql 56 #[55,98,105,116]),m 58 57,g 58 59 (M 11),g 58 60 (C 82 59),o 61 (P 58 60),o 62 (CI 76 61 7)]) (q (r [0,1,2,6,8,10,11,14] [o 14 (.alloc 29 [V])]) (q (q (r [0,2,6,10,14,67] [m 63 1,m 64 8,o 65 (.sliceS (.t 63) (.some (.t 64)) .none),m 66 11,o 67 (CC 83 65 66)]) (.block 0 (.range 37 0 [14] (.t 67)))) (q (r [0,2,6,10,14] [m 73 2,o 74 (BI .lss 73 4),o 75 (CI 76 74 8)]) (q (.Ab [0,2,6,10,14] [m 76 0,o 77 (N 76),o 78 (F 0 77),o 79 (L 1 78),o 80 (L 1 14),o 81 (W 80)] [o 82 (B .add 79 81),o 83 (N 76),o 84 (F 0 83),n (S 1 84 82)]) (q (r [0,2,6,10,14] [m 85 0,o 86 (N 85),o 87 (F 0 86),o 88 (L 1 87),o 89 (BI .leq 88 64),o 90 (CI 76 89 5)]) (q (q (r [0,2,6,10,91,92,93] [o 91 (L 1 14),o 92 (W 91),o 93 (.mv (i 0))]) (k 2 [0,2,6,10,91,92,93] SJ)) (q (r [6] [o 108 (LT 4 10),n (S 4 6 108)]) (x [6]))))))))))))))))))),[([68],iQ,SP)]⟩
def oL:pa:=⟨9,[],(q (r [1,5] [m 4 0,o 5 (U 4)]) (w 5 (r [] [m 6 1,o 7 (.build [J] [⟨0,⟨1,.t 6⟩⟩]),o 8 (.mkt 179 [.t 7]),n (.Um (.c .Hd))]) z)),[]⟩
def qL:pa:=⟨30,[.inl 4],(q (r [0,1] [o 4 (AS #[])]) (q (r [0,1,5,6] [o 5 (AS #[]),o 6 (AI 7)]) (q (q (r [0,5,6,7] [m 7 1]) (.block 0 (q (r [0,5,6,7,8] [o 9 (BS .eql 7 #[55,98,105,116]),a 8 9]) (w 8 (q (r [4] [m 10 0,o 11 (C 142 10),a 4 11]) (x [4])) (q (r [0,5,6,7,12] [o 13 (BS .eql 7 #[113,117,111,116,101,100,45,112,114,105,110,116,97,98,108,101]),a 12 13]) (w 12 (r [5,6] [m 15 0,o 16 (C 143 15),m 14 16,o 17 (E 14 0),o 18 (E 14 1),a 5 17,a 6 18]) (q (r [0,5,6,19] [o 20 (BS .eql 7 #[98,97,115,101,54,52]),a 19 20]) (w 19 (r [5,6] [m 22 0,o 23 (C 144 22),m 21 23,o 24 (E 21 0),o 25 (E 21 1),a 5 24,a 6 25]) z)))))))) (q (r [5] [m 26 6,o 27 (BI .eql 26 0),o 28 (CI 76 27 7)]) (q (r [4] [m 29 5,a 4 29]) (x [4])))))),[]⟩
def mL:pa:=⟨6,[.inl 4],(q (r [2,3] [o 2 (.box 9 1 (.t 0)),o 3 (.box 9 1 (.t 1)),o 4 (.asg (.c (.flat .nilFunc)))]) (q (r [4] [o 5 (.clos 145 [.t 3,.t 2]),a 4 5]) (x [4]))),[]⟩
def EF:ka:=(.block 1 (q (r [0,4,5,7,8,9] [m 23 5,m 24 8,o 25 (.sliceS (.t 23) (.some (.t 24)) .none),m 26 4,o 27 (CC 146 25 26),a 9 27]) (q (r [0,4,5,7,8,9] [m 28 9,o 29 (BI .geq 28 0),o 30 (CI 76 29 7)]) (q (r [0,4,5,7,8] [m 31 8,m 32 9,o 33 (B .add 31 32),a 8 33]) (q (r [0,4,5,7,8,10] [m 34 5,m 35 8,m 36 4,o 37 (K 36),o 38 (B .add 35 37),o 39 (.sliceS (.t 34) (.some (.t 38)) .none),a 10 39]) (q (q (r [0,4,5,7,8,10,41] [m 40 10,o 41 (CS 80 40 #[45,45,13,10])]) (w 41 (q (r [0,5,7,8] [m 42 10,o 43 (BS .eql 42 #[45,45,13,10]),o 44 (CI 76 43 7)]) (q (r [] [m 45 0,m 46 5,m 47 7,m 48 8,o 49 (.sliceS (.t 46) (.some (.t 47)) (.some (.t 48))),o 50 (.callv (.t 45) [.t 49])]) (x []))) z)) (q (q (r [0,4,5,7,8,53] [m 51 10,o 52 (CS 80 51 #[13,10]),o 53 (U 52)]) (w 53 (q (r [0,4,5,7,8] [m 54 8,o 55 (BI .add 54 1),a 8 55]) (.exit 1 [0,4,5,7,8])) z)) (q (q (r [0,4,5,8,62] [m 56 0,m 57 5,m 58 7,m 59 8,o 60 (.sliceS (.t 57) (.some (.t 58)) (.some (.t 59))),o 61 (.callv (.t 56) [.t 60]),o 62 (U 61)]) (w 62 (x []) z)) (q (r [0,4,5,7] [m 63 8,m 64 4,o 65 (K 64),o 66 (B .add 63 65),o 67 (BI .add 66 2),a 7 67]) (r [0,4,5,7,8] [m 68 7,a 8 68]))))))))))
def LB:ka:=EF
def kH:=@Za LB EF rfl
def nL:pa:=⟨69,[],(q (r [0,2,4] [o 11 (L 1 1),o 12 (SB .add #[13,10,45,45] 11),a 4 12]) (q (r [0,4,5,6] [o 14 (L 1 2),o 15 (SB .add #[13,10] 14),m 16 4,o 17 (BS .add 16 #[13,10]),o 18 (CC 90 15 17),m 13 18,o 19 (E 13 0),o 20 (E 13 1),a 5 19,a 6 20]) (q (r [0,4,5] [m 21 6,o 22 (CI 76 21 7)]) (q (r [0,4,5,7] [o 7 (AI 0)]) (q (r [0,4,5,7,8] [o 8 (AI 0)]) (k 0 [0,4,5,7,8] LB)))))),[]⟩
def vF:ka:=(q (q (r [5,6,7,8,24] [m 20 5,o 21 (N 20),o 22 (F 0 21),o 23 (L 1 22),o 24 (BS .neq 23 #[])]) (w 24 z (.exit 0 [6,7,8]))) (q (.block 1 (q (q (r [5,6,7,8,29] [m 27 5,o 28 (.call 209 [.t 27,u 59]),o 29 (U 28)]) (w 29 (q (r [2,3,4] [o 2 (AS #[]),o 3 (.asg (.c V)),o 4 (AI 7)]) (x [2,3,4])) z)) (q (r [5,6,7,8,9,10] [m 31 5,o 32 (C 210 31),m 30 32,o 33 (E 30 0),o 34 (E 30 1),o 9 (.alloc 180 [Z,Z]),n (S 2 9 33),a 10 34]) (q (q (r [5,6,7,8,9,36] [m 35 10,o 36 (U 35)]) (w 36 (q (r [2,3,4] [o 2 (AS #[]),o 3 (.asg (.c V)),o 4 (AI 7)]) (x [2,3,4])) z)) (q (q (r [5,6,7,8,9,39] [m 37 7,o 38 (.clos 212 [.t 9]),o 39 (CC 211 37 38)]) (w 39 (r [5,6,7,8,9] [o 8 (AI 9)]) z)) (r [5,6,7,8] [o 40 (.mvA 7),o 41 (LT 2 9),o 42 (.mksl false 1 2 [Z,Z] [⟨0,⟨2,.t 41⟩⟩]),o 43 (.append false 2 (.t 40) (.t 42)),a 7 43])))))) (r [5,6,7,8] [m 25 5,o 26 (C 207 25)])))
def QJ:ka:=vF
def z_:=@Za QJ vF rfl
def NK:pa:=⟨53,[.inl 2,.inl 3,.inl 4],(q (r [0] [o 2 (AS #[]),o 3 (.asg (.c V)),o 4 (AI 0)]) (q (r [5] [m 11 0,o 12 (.build [Z] [⟨0,⟨1,.t 11⟩⟩]),o 13 (.box 261 1 (.t 12)),a 5 13]) (q (r [5] [m 14 5,o 15 (C 207 14)]) (q (r [5,6] [m 16 5,o 17 (C 208 16),a 6 17]) (q (r [5,6,7] [o 7 (.asg (.c V))]) (q (r [5,6,7,8] [o 8 (AI 0)]) (q (q (r [5,6,7,8] [m 18 5,o 19 (C 207 18)]) (k 0 [5,6,7,8] QJ)) (q (.block 2 (q (r [6,7,8,44] [m 45 6,o 46 (BS .eql 45 #[]),a 44 46]) (w 44 (q (r [2,3,4] [o 2 (AS #[]),o 3 (.asg (.c V)),o 4 (AI 7)]) (x [2,3,4])) (q (r [6,7,8,47] [m 48 8,o 49 (BI .neq 48 0),a 47 49]) (w 47 (q (r [2,3,4] [m 50 8,o 2 (AS #[]),o 3 (.asg (.c V)),a 4 50]) (x [2,3,4])) z))))) (q (r [2,3,4] [m 51 6,m 52 7,a 2 51,a 3 52,o 4 (AI 0)]) (x [2,3,4])))))))))),[]⟩
def OK:pa:=⟨40,[.inr ⟨2,⟨true,2⟩⟩,.inl 3],(q (r [0,2] [o 2 (.alloc 180 [Z,Z]),o 3 (AB false)]) (q (r [0,2] [m 7 0,o 8 (C 207 7)]) (q (r [0,2,4] [m 9 0,o 10 (C 208 9),o 11 (.build [Z,Z] [⟨0,⟨1,.t 10⟩⟩]),o 4 (.alloc 180 [Z,Z]),n (S 2 4 11)]) (q (q (r [0,2,4,20] [o 12 (F 0 4),o 13 (L 1 12),o 14 (C 137 13),o 15 (U 14),m 16 15,h 16 17 (M 0),h 16 18 (.call 209 [.t 17,u 61]),h 16 19 (U 18),o 20 (O 16 19)]) (w 20 (q (r [2,3] [o 21 (LT 2 4),n (S 2 2 21),o 3 (AB false)]) (x [2,3])) z)) (q (q (r [0,2,4,23] [m 22 0,o 23 (.call 209 [.t 22,u 34])]) (w 23 (q (r [2,4,5,6] [m 25 0,o 26 (C 270 25),m 24 26,o 27 (E 24 0),o 28 (E 24 1),a 5 27,a 6 28]) (q (r [2,4,6] [m 29 5,o 30 (F 1 4),n (S 1 30 29)]) (q (r [2,3] [o 31 (LT 2 4),m 32 6,n (S 2 2 31),a 3 32]) (x [2,3])))) z)) (q (r [2,4] [m 33 0,o 34 (C 208 33),o 35 (F 1 4),n (S 1 35 34)]) (q (.Od [2,3] [o 36 (LT 2 4),o 37 (F 1 4)] (.two (o 38 (L 1 37)) (.two (o 39 (BS .neq 38 #[])) (.one (n (S 2 2 36)) (.one (a 3 39) .done)) (.one (n (S 2 2 36)) (.one (o 39 (BS .neq 38 #[])) (.one (a 3 39) .done)))) (.one (n (S 2 2 36)) (.one (o 38 (L 1 37)) (.one (o 39 (BS .neq 38 #[])) (.one (a 3 39) .done)))))) (x [2,3])))))))),[]⟩
def lG:ka:=(q (q (r [0,3,4,33] [m 30 4,m 31 0,o 32 (K 31),o 33 (B .lss 30 32)]) (w 33 z (.exit 0 [3]))) (q (.block 1 (q (q (r [0,3,4,53] [m 36 0,m 37 4,o 38 (D 36 37),o 39 (BU .lss 38 33),m 40 39,h 40 41 (M 0),h 40 42 (M 4),h 40 43 (D 41 42),h 40 44 (BU .gtr 43 126),o 45 (O 40 44),m 46 45,h 46 47 (M 0),h 46 48 (M 4),h 46 49 (M 4),h 46 50 (BI .add 49 1),h 46 51 (.sliceS (.t 47) (.some (.t 48)) (.some (.t 50))),h 46 52 (.call 64 [s #[60,62,40,41,91,93,44,59,58,34,92],.t 51]),o 53 (O 46 52)]) (w 53 (q (r [2] [o 2 (AB false)]) (x [2])) z)) (q (r [0,3,4,57] [m 54 0,m 55 4,o 56 (D 54 55),o 57 (BU .eql 56 64)]) (w 57 (r [0,3,4] [m 58 3,o 59 (BI .add 58 1),a 3 59]) z)))) (r [0,3,4] [m 34 4,o 35 (BI .add 34 1),a 4 35])))
def nC:ka:=lG
def VS:=@Za nC lG rfl
def iM:pa:=⟨62,[.inl 2],(q (r [0] [o 2 (AB false)]) (q (q (r [0,29] [m 5 0,o 6 (K 5),o 7 (BI .lss 6 3),m 8 7,h 8 9 (M 0),h 8 10 (K 9),h 8 11 (BI .gtr 10 60),o 12 (O 8 11),m 13 12,h 13 14 (M 0),h 13 15 (.idx (.t 14) (i 0)),h 13 16 (BU .eql 15 64),o 17 (O 13 16),m 18 17,h 18 19 (M 0),h 18 20 (M 0),h 18 21 (K 20),h 18 22 (BI .sub 21 1),h 18 23 (D 19 22),h 18 24 (BU .eql 23 64),o 25 (O 18 24),m 26 25,h 26 27 (M 0),h 26 28 (CS 64 27 #[61,63]),o 29 (O 26 28)]) (w 29 (q (r [2] [o 2 (AB false)]) (x [2])) z)) (q (r [0,3] [o 3 (AI 0)]) (q (q (r [0,3,4] [o 4 (AI 0)]) (k 0 [0,3,4] nC)) (q (r [2] [m 60 3,o 61 (BI .eql 60 1),a 2 61]) (x [2])))))),[]⟩
def kM:pa:=⟨57,[.inl 2],(q (r [1] [o 1 (.box 23 5 (.t 0)),o 2 (AI 0)]) (q (q (r [1,14] [o 5 (F 0 1),o 6 (L 1 5),o 7 (C 63 6),o 8 (U 7),m 9 8,h 9 10 (F 1 1),h 9 11 (L 1 10),h 9 12 (C 63 11),h 9 13 (U 12),o 14 (O 9 13)]) (w 14 (q (r [2] [o 2 (AI 1)]) (x [2])) z)) (q (r [1,3,4] [o 16 (F 4 1),o 17 (L 1 16),o 18 (C 60 17),m 15 18,o 19 (E 15 0),o 20 (E 15 1),a 3 19,a 4 20]) (q (q (.Ab [56] [o 21 (F 2 1),o 22 (L 1 21),o 23 (C 34 22),o 24 (F 2 1),o 25 (L 1 24),o 26 (B .neq 23 25),m 27 26,h 27 28 (F 3 1),h 27 29 (L 1 28),h 27 30 (C 34 29),h 27 31 (F 3 1),h 27 32 (L 1 31),h 27 33 (B .neq 30 32),o 34 (O 27 33),m 35 34,h 35 36 (F 4 1),h 35 37 (L 1 36),h 35 38 (C 34 37),h 35 39 (F 4 1),h 35 40 (L 1 39)] [h 35 41 (B .neq 38 40),o 42 (O 35 41),m 43 42,h 43 44 (F 2 1),h 43 45 (L 1 44),h 43 46 (CS 64 45 #[10]),o 47 (O 43 46),m 48 47,h 48 49 (M 4),h 48 50 (BI .neq 49 0),o 51 (O 48 50),m 52 51,h 52 53 (M 3),h 52 54 (C 65 53),h 52 55 (U 54),o 56 (O 52 55)]) (w 56 (q (r [2] [o 2 (AI 7)]) (x [2])) z)) (q (r [2] [o 2 (AI 0)]) (x [2])))))),[]⟩
def jM:pa:=⟨50,[.inl 2,.inl 3],(q (r [1] [o 1 (.box 23 5 (.t 0)),o 2 (AS #[]),o 3 (AI 0)]) (q (r [1,4] [o 11 (LT 5 1),o 12 (C 29 11),a 4 12]) (q (q (r [1,4,14] [m 13 4,o 14 (BI .neq 13 0)]) (w 14 (q (r [2,3] [m 15 4,o 2 (AS #[]),a 3 15]) (x [2,3])) z)) (q (r [1,5] [o 17 (F 0 1),o 18 (L 1 17),o 19 (.call 30 [s #[70,114,111,109],.t 18]),m 16 19,o 20 (E 16 0),o 21 (E 16 1),a 5 20,a 6 21]) (q (r [1,5,7] [o 23 (F 1 1),o 24 (L 1 23),o 25 (.call 30 [s #[84,111],.t 24]),m 22 25,o 26 (E 22 0),o 27 (E 22 1),a 7 26,a 8 27]) (q (r [1,5,7,9] [o 29 (F 2 1),o 30 (L 1 29),o 31 (.call 30 [s #[83,117,98,106,101,99,116],.t 30]),m 28 31,o 32 (E 28 0),o 33 (E 28 1),a 9 32,a 10 33]) (q (.Ab [2,3] [m 34 5,m 35 7,o 36 (B .add 34 35),m 37 9,o 38 (B .add 36 37),o 39 (BS .add 38 #[77,73,77,69,45,86,101,114,115,105,111,110,58,32,49,46,48,13,10,67,111,110,116,101,110,116,45,84,121,112,101,58,32,109,117,108,116,105,112,97,114,116,47,97,108,116,101,114,110,97,116,105,118,101,59,32,98,111,117,110,100,97,114,121,61,34,61,95,110,117,110,99,105,111,34,13,10,13,10,45,45,61,95,110,117,110,99,105,111,13,10]),o 40 (F 3 1),o 41 (L 1 40),o 42 (.call 31 [s #[112,108,97,105,110],.t 41]),o 43 (B .add 39 42),o 44 (BS .add 43 #[45,45,61,95,110,117,110,99,105,111,13,10]),o 45 (F 4 1),o 46 (L 1 45),o 47 (.call 31 [s #[104,116,109,108],.t 46])] [o 48 (B .add 44 47),o 49 (BS .add 48 #[45,45,61,95,110,117,110,99,105,111,45,45,13,10]),a 2 49,o 3 (AI 0)]) (x [2,3])))))))),[]⟩
def lM:pa:=⟨12,[.inl 4],(q (r [0,1] [o 4 (AS #[])]) (q (r [4] [m 5 0,o 6 (SB .add #[67,111,110,116,101,110,116,45,84,121,112,101,58,32,116,101,120,116,47] 5),o 7 (BS .add 6 #[59,32,99,104,97,114,115,101,116,61,117,116,102,45,56,13,10,67,111,110,116,101,110,116,45,84,114,97,110,115,102,101,114,45,69,110,99,111,100,105,110,103,58,32,113,117,111,116,101,100,45,112,114,105,110,116,97,98,108,101,13,10,13,10]),m 8 1,o 9 (C 67 8),o 10 (B .add 7 9),o 11 (BS .add 10 #[13,10]),a 4 11]) (x [4]))),[]⟩
def kG:ka:=(q (q (r [0,1,5,9] [m 6 5,m 7 0,o 8 (K 7),o 9 (B .lss 6 8)]) (w 9 z (.exit 0 []))) (q (.block 1 (q (r [0,1,5,15] [m 12 0,m 13 1,m 14 5,o 15 (.call 105 [.t 12,.t 13,.t 14])]) (w 15 (q (r [4] [o 4 (AB true)]) (x [4])) z))) (r [0,1,5] [m 10 5,o 11 (BI .add 10 1),a 5 11])))
def mC:ka:=kG
def sH:=@Za mC kG rfl
def hM:pa:=⟨16,[.inl 4],(q (r [0,1] [o 4 (AB false)]) (q (q (r [0,1,5] [o 5 (AI 0)]) (k 0 [0,1,5] mC)) (q (r [4] [o 4 (AB false)]) (x [4])))),[]⟩
def HF:ka:=(q (q (r [0,3,4,10] [m 7 4,m 8 0,o 9 (K 8),o 10 (B .lss 7 9)]) (w 10 z (.exit 0 [3]))) (.block 1 (q (r [0,3,4,5,6] [m 12 0,m 13 4,o 14 (CC 71 12 13),m 11 14,o 15 (E 11 0),o 16 (E 11 1),a 5 15,a 6 16]) (q (r [0,3,4,5] [m 17 4,m 18 6,o 19 (B .add 17 18),a 4 19]) (q (q (r [0,3,4,5,21] [m 20 5,o 21 (BI .eql 20 13)]) (w 21 (q (q (r [0,3,4,31] [m 22 4,m 23 0,o 24 (K 23),o 25 (B .lss 22 24),m 26 25,g 26 27 (M 0),g 26 28 (M 4),g 26 29 (D 27 28),g 26 30 (BU .eql 29 10),o 31 (P 26 30)]) (w 31 (.exit 1 [0,3,4]) z)) (r [0,3,4,5] [o 5 (AI 10)])) z)) (q (q (r [0,3,4,5,49] [m 32 5,o 33 (BI .lss 32 32),m 34 33,g 34 35 (M 5),g 34 36 (BI .neq 35 9),o 37 (P 34 36),m 38 37,g 38 39 (M 5),g 38 40 (BI .neq 39 10),o 41 (P 38 40),m 42 41,h 42 43 (M 5),h 42 44 (BI .geq 43 127),h 42 45 (M 44),g 45 46 (M 5),g 45 47 (BI .leq 46 159),h 42 48 (P 45 47),o 49 (O 42 48)]) (w 49 (r [0,3,4,5] [o 5 (AI 65533)]) z)) (r [0,3,4] [m 50 3,m 51 5,o 52 (C 72 51),o 53 (B .add 50 52),a 3 53])))))))
def NB:ka:=HF
def Vm:=@Za NB HF rfl
def vL:pa:=⟨55,[.inl 2],(q (r [0] [o 2 (AS #[])]) (q (r [0,3] [o 3 (AS #[])]) (q (q (r [0,3,4] [o 4 (AI 0)]) (k 0 [0,3,4] NB)) (q (r [2] [m 54 3,a 2 54]) (x [2]))))),[]⟩
def uL:pa:=⟨61,[.inl 2],(q (r [0] [o 2 (AS #[])]) (q (q (r [0,5] [m 3 0,o 4 (C 134 3),o 5 (U 4)]) (w 5 (r [0] [o 0 (AI 65533)]) z)) (q (q (r [0,7] [m 6 0,o 7 (BI .lss 6 128)]) (w 7 (q (r [2] [m 8 0,o 9 (.conv .u8 (.t 8)),o 10 (.mksl true 1 1 [.flat (.int .u8 0)] [⟨0,⟨1,.t 9⟩⟩]),o 11 (.b2s (.t 10)),a 2 11]) (x [2])) z)) (q (q (r [0,13] [m 12 0,o 13 (BI .lss 12 2048)]) (w 13 (q (r [2] [m 14 0,o 15 (BI .quo 14 64),o 16 (IB .add 192 15),o 17 (.conv .u8 (.t 16)),m 18 0,o 19 (BI .rem 18 64),o 20 (IB .add 128 19),o 21 (.conv .u8 (.t 20)),o 22 (.mksl true 2 1 [.flat (.int .u8 0),.flat (.int .u8 0)] [⟨0,⟨1,.t 17⟩⟩,⟨1,⟨1,.t 21⟩⟩]),o 23 (.b2s (.t 22)),a 2 23]) (x [2])) z)) (q (q (r [0,25] [m 24 0,o 25 (BI .lss 24 65536)]) (w 25 (q (r [2] [m 26 0,o 27 (BI .quo 26 4096),o 28 (IB .add 224 27),o 29 (.conv .u8 (.t 28)),m 30 0,o 31 (BI .quo 30 64),o 32 (BI .rem 31 64),o 33 (IB .add 128 32),o 34 (.conv .u8 (.t 33)),m 35 0,o 36 (BI .rem 35 64),o 37 (IB .add 128 36),o 38 (.conv .u8 (.t 37)),o 39 (.mksl true 3 1 [.flat (.int .u8 0),.flat (.int .u8 0),.flat (.int .u8 0)] [⟨0,⟨1,.t 29⟩⟩,⟨1,⟨1,.t 34⟩⟩,⟨2,⟨1,.t 38⟩⟩]),o 40 (.b2s (.t 39)),a 2 40]) (x [2])) z)) (q (r [2] [m 41 0,o 42 (BI .quo 41 262144),o 43 (IB .add 240 42),o 44 (.conv .u8 (.t 43)),m 45 0,o 46 (BI .quo 45 4096),o 47 (BI .rem 46 64),o 48 (IB .add 128 47),o 49 (.conv .u8 (.t 48)),m 50 0,o 51 (BI .quo 50 64),o 52 (BI .rem 51 64),o 53 (IB .add 128 52),o 54 (.conv .u8 (.t 53)),m 55 0,o 56 (BI .rem 55 64),o 57 (IB .add 128 56),o 58 (.conv .u8 (.t 57)),o 59 (.mksl true 4 1 [.flat (.int .u8 0),.flat (.int .u8 0),.flat (.int .u8 0),.flat (.int .u8 0)] [⟨0,⟨1,.t 44⟩⟩,⟨1,⟨1,.t 49⟩⟩,⟨2,⟨1,.t 54⟩⟩,⟨3,⟨1,.t 58⟩⟩]),o 60 (.b2s (.t 59)),a 2 60]) (x [2]))))))),[]⟩
def KF:ka:=(q (q (r [0,1,6,7,8,9,42] [m 40 9,m 41 7,o 42 (B .lss 40 41)]) (w 42 z (.exit 2 [0,1,6,7,8]))) (q (.block 3 (r [0,1,6,7,8,9] [m 45 8,o 46 (IB .mul 64 45),m 47 0,m 48 1,m 49 9,o 50 (B .add 48 49),o 51 (D 47 50),o 52 (.conv .i64 (.t 51)),o 53 (B .add 46 52),o 54 (BI .sub 53 128),a 8 54])) (r [0,1,6,7,8,9] [m 43 9,o 44 (BI .add 43 1),a 9 44])))
def QB:ka:=KF
def MS:=@Za QB KF rfl
def JF:ka:=(q (q (r [0,1,6,7,28] [m 19 7,o 20 (BI .leq 19 4),m 21 20,g 21 22 (M 7),g 21 23 (M 0),g 21 24 (K 23),g 21 25 (M 1),g 21 26 (B .sub 24 25),g 21 27 (B .leq 22 26),o 28 (P 21 27)]) (w 28 z (.exit 0 []))) (q (.block 1 (q (.Ab [0,1,6,7,8] [m 31 0,m 32 1,o 33 (D 31 32),o 34 (.conv .i64 (.t 33)),m 35 6,m 36 7,o 37 (Y 1 35 36),o 38 (L 1 37)] [o 39 (B .sub 34 38),a 8 39]) (q (q (r [0,1,6,7,8,9] [o 9 (AI 1)]) (k 2 [0,1,6,7,8,9] QB)) (q (.Ab [0,1,6,7,8,71] [m 55 8,o 56 (BI .geq 55 0),m 57 56,g 57 58 (M 8),g 57 59 (C 134 58),o 60 (P 57 59),m 61 60,g 61 62 (M 8),g 61 63 (C 72 62),g 61 64 (M 0),g 61 65 (M 1),g 61 66 (M 1),g 61 67 (M 7),g 61 68 (B .add 66 67),g 61 69 (.sliceS (.t 64) (.some (.t 65)) (.some (.t 68)))] [g 61 70 (B .eql 63 69),o 71 (P 61 70)]) (w 71 (q (r [4,5] [m 72 8,m 73 7,a 4 72,a 5 73]) (x [4,5])) z))))) (r [0,1,6,7] [m 29 7,o 30 (BI .add 29 1),a 7 30])))
def PB:ka:=JF
def Ts:=@Za PB JF rfl
def xL:pa:=⟨74,[.inl 4,.inl 5],(q (r [0,1] [o 4 (AI 0),o 5 (AI 0)]) (q (q (r [0,1,17] [m 10 1,o 11 (BI .lss 10 0),m 12 11,h 12 13 (M 1),h 12 14 (M 0),h 12 15 (K 14),h 12 16 (B .geq 13 15),o 17 (O 12 16)]) (w 17 (q (r [4,5] [o 4 (AI 0),o 5 (AI 0)]) (x [4,5])) z)) (q (r [0,1,6] [o 18 (.mksl false 5 1 [J,J,J,J,J] [⟨0,⟨1,i 0⟩⟩,⟨1,⟨1,i 0⟩⟩,⟨2,⟨1,i 192⟩⟩,⟨3,⟨1,i 224⟩⟩,⟨4,⟨1,i 240⟩⟩]),a 6 18]) (q (q (r [0,1,6,7] [o 7 (AI 1)]) (k 0 [0,1,6,7] PB)) (q (r [4,5] [o 4 (AI 65533),o 5 (AI 1)]) (x [4,5])))))),[]⟩
def yL:pa:=⟨18,[.inl 2],(q (r [0] [o 2 (AB false)]) (q (r [2] [m 3 0,o 4 (BI .geq 3 0),m 5 4,g 5 6 (M 0),g 5 7 (BI .leq 6 1114111),o 8 (P 5 7),m 9 8,g 9 10 (M 0),g 9 11 (BI .geq 10 55296),g 9 12 (M 11),g 12 13 (M 0),g 12 14 (BI .leq 13 57343),g 9 15 (P 12 14),g 9 16 (U 15),o 17 (P 9 16),a 2 17]) (x [2]))),[]⟩
def LF:ka:=(q (q (r [0,3,4,11] [m 8 4,m 9 0,o 10 (K 9),o 11 (B .lss 8 10)]) (w 11 z (.exit 0 [3]))) (.block 1 (q (r [0,3,4,5,6] [m 13 0,m 14 4,o 15 (CC 71 13 14),m 12 15,o 16 (E 12 0),o 17 (E 12 1),a 5 16,a 6 17]) (q (r [0,3,4,6] [o 18 (.mvA 3),m 19 5,o 20 (.mksl false 1 1 [J] [⟨0,⟨1,.t 19⟩⟩]),o 21 (.append false 1 (.t 18) (.t 20)),a 3 21]) (r [0,3,4] [m 22 4,m 23 6,o 24 (B .add 22 23),a 4 24])))))
def RB:ka:=LF
def NS:=@Za RB LF rfl
def zL:pa:=⟨26,[.inl 2],(q (r [0] [o 2 (.asg (.c V))]) (q (r [0,3] [o 7 (.mksl false 0 1 [] []),a 3 7]) (q (q (r [0,3,4] [o 4 (AI 0)]) (k 0 [0,3,4] RB)) (q (r [2] [m 25 3,a 2 25]) (x [2]))))),[]⟩
def IF:ka:=(q (q (r [0,3,9] [m 6 3,m 7 0,o 8 (K 7),o 9 (B .lss 6 8)]) (w 9 z (.exit 0 []))) (.block 1 (q (r [0,3,4,5] [m 11 0,m 12 3,o 13 (CC 71 11 12),m 10 13,o 14 (E 10 0),o 15 (E 10 1),a 4 14,a 5 15]) (q (q (r [0,3,5,21] [m 16 4,o 17 (BI .eql 16 65533),m 18 17,g 18 19 (M 5),g 18 20 (BI .eql 19 1),o 21 (P 18 20)]) (w 21 (q (r [2] [o 2 (AB false)]) (x [2])) z)) (r [0,3] [m 22 3,m 23 5,o 24 (B .add 22 23),a 3 24])))))
def OB:ka:=IF
def Sz:=@Za OB IF rfl
def wL:pa:=⟨25,[.inl 2],(q (r [0] [o 2 (AB false)]) (q (q (r [0,3] [o 3 (AI 0)]) (k 0 [0,3] OB)) (q (r [2] [o 2 (AB true)]) (x [2])))),[]⟩
def dG:ka:=(q (q (r [0,4,5,15] [m 12 5,m 13 0,o 14 (K 13),o 15 (B .lss 12 14)]) (w 15 z (.exit 0 [4]))) (.block 1 (q (r [0,4,6,7] [m 17 0,m 18 5,o 19 (CC 123 17 18),m 16 19,o 20 (E 16 0),o 21 (E 16 1),o 6 (.alloc 135 [.flat (.int .u8 0),Z,Z,V,J,J]),n (S 6 6 20),a 7 21]) (q (q (r [0,4,6,23] [m 22 7,o 23 (U 22)]) (w 23 (q (r [2,3] [o 2 (.asg (.c V)),o 3 (AI 7)]) (x [2,3])) z)) (q (r [0,4,6] [o 24 (.mvA 4),o 25 (LT 6 6),o 26 (.mksl false 1 6 [.flat (.int .u8 0),Z,Z,V,J,J] [⟨0,⟨6,.t 25⟩⟩]),o 27 (.append false 6 (.t 24) (.t 26)),a 4 27]) (r [0,4,5] [o 28 (F 5 6),o 29 (L 1 28),a 5 29]))))))
def hC:ka:=dG
def pH:=@Za hC dG rfl
def XL:pa:=⟨31,[.inl 2,.inl 3],(q (r [0] [o 2 (.asg (.c V)),o 3 (AI 0)]) (q (q (r [0,10] [m 8 0,o 9 (C 110 8),o 10 (U 9)]) (w 10 (q (r [2,3] [o 2 (.asg (.c V)),o 3 (AI 7)]) (x [2,3])) z)) (q (r [0,4] [o 11 (.mksl false 0 6 [] []),a 4 11]) (q (q (r [0,4,5] [o 5 (AI 0)]) (k 0 [0,4,5] hC)) (q (r [2,3] [m 30 4,a 2 30,o 3 (AI 0)]) (x [2,3])))))),[]⟩
def dM:pa:=⟨63,[.inr ⟨4,⟨true,6⟩⟩,.inl 5],(q (r [0,1,4] [o 4 (.alloc 135 [.flat (.int .u8 0),Z,Z,V,J,J]),o 5 (AB false)]) (q (q (r [0,1,4,14] [m 11 0,m 12 1,o 13 (D 11 12),o 14 (BU .neq 13 60)]) (w 14 (q (r [1,4,6,7,8] [m 16 0,m 17 1,o 18 (.call 195 [.t 16,.t 17,u 60,u 62]),m 15 18,o 19 (E 15 0),o 20 (E 15 1),o 21 (E 15 2),a 6 19,a 7 20,a 8 21]) (q (r [4,5] [m 22 6,m 23 1,m 24 7,o 25 (.build [.flat (.int .u8 0),Z,Z,V,J,J] [⟨0,⟨1,u 116⟩⟩,⟨2,⟨1,.t 22⟩⟩,⟨4,⟨1,.t 23⟩⟩,⟨5,⟨1,.t 24⟩⟩]),m 26 8,n (S 6 4 25),a 5 26]) (x [4,5]))) z)) (q (q (r [0,1,4,30] [m 27 0,m 28 1,o 29 (.call 105 [.t 27,s #[60,47],.t 28]),o 30 (U 29)]) (w 30 (q (r [4,5] [m 31 0,m 32 1,o 33 (CC 196 31 32),o 34 (E 33 0),o 35 (E 33 1),n (S 6 4 34),a 5 35]) (x [4,5])) z)) (q (r [0,1,4,9] [m 36 0,m 37 1,o 38 (BI .add 37 2),o 39 (CC 197 36 38),a 9 39]) (q (r [0,1,4,9,10] [m 40 1,o 41 (BI .add 40 2),m 42 9,o 43 (K 42),o 44 (B .add 41 43),a 10 44]) (q (r [4,5] [m 45 9,m 46 1,m 47 10,o 48 (BI .add 47 1),o 49 (.build [.flat (.int .u8 0),Z,Z,V,J,J] [⟨0,⟨1,u 99⟩⟩,⟨1,⟨1,.t 45⟩⟩,⟨4,⟨1,.t 46⟩⟩,⟨5,⟨1,.t 48⟩⟩]),o 50 (.call 199 []),m 51 9,o 52 (CC 198 50 51),m 53 52,g 53 54 (M 9),g 53 55 (C 127 54),g 53 56 (U 55),o 57 (P 53 56),m 58 57,g 58 59 (M 0),g 58 60 (M 10),g 58 61 (.call 105 [.t 59,s #[62],.t 60]),o 62 (P 58 61),n (S 6 4 49),a 5 62]) (x [4,5]))))))),[]⟩
def hG:ka:=(q (q (r [0,4,6,7,8,9,70] [m 66 9,o 67 (F 3 6),o 68 (L 1 67),o 69 (W 68),o 70 (B .lss 66 69)]) (w 70 z (.exit 2 [0,4,6,7,8]))) (q (.block 3 (q (.Ab [0,4,6,7,8,9,81] [o 73 (F 3 6),o 74 (L 1 73),m 75 9,o 76 (Y 4 74 75),o 77 (F 0 76),o 78 (L 1 77),o 79 (F 0 8),o 80 (L 1 79)] [o 81 (B .eql 78 80)]) (w 81 (q (r [4,5] [o 82 (LT 6 6),n (S 6 4 82),o 5 (AB false)]) (x [4,5])) z))) (r [0,4,6,7,8,9] [m 71 9,o 72 (BI .add 71 1),a 9 72])))
def Ax:ka:=hG
def rH:=@Za Ax hG rfl
def gG:ka:=(.block 1 (q (r [0,1,4,6,7] [m 31 0,m 32 1,o 33 (CC 258 31 32),a 7 33]) (q (q (r [0,1,4,6,7,36] [m 34 0,m 35 7,o 36 (.call 105 [.t 34,s #[62],.t 35])]) (w 36 (q (r [4,6] [m 37 7,o 38 (BI .add 37 1),o 39 (F 5 6),n (S 1 39 38)]) (q (r [4,5] [o 40 (LT 6 6),n (S 6 4 40),o 5 (AB true)]) (x [4,5]))) z)) (q (r [0,1,4,6,7,8] [m 41 0,m 42 7,o 43 (CC 197 41 42),o 44 (.build [Z,Z,J,J] [⟨0,⟨1,.t 43⟩⟩]),o 8 (.alloc 137 [Z,Z,J,J]),n (S 4 8 44)]) (q (q (.Ab [0,4,6,7,8,64] [m 45 7,m 46 1,o 47 (B .eql 45 46),m 48 47,h 48 49 (.call 259 []),h 48 50 (F 0 8),h 48 51 (L 1 50),h 48 52 (CC 198 49 51),h 48 53 (U 52),o 54 (O 48 53),m 55 54,h 55 56 (M 0),h 55 57 (M 7),h 55 58 (F 0 8),h 55 59 (L 1 58),h 55 60 (K 59),h 55 61 (B .add 57 60)] [h 55 62 (.call 105 [.t 56,s #[61,34],.t 61]),h 55 63 (U 62),o 64 (O 55 63)]) (w 64 (q (r [4,5] [o 65 (LT 6 6),n (S 6 4 65),o 5 (AB false)]) (x [4,5])) z)) (q (q (r [0,4,6,7,8,9] [o 9 (AI 0)]) (k 2 [0,4,6,7,8,9] Ax)) (q (r [0,4,6,8] [m 83 7,o 84 (F 0 8),o 85 (L 1 84),o 86 (K 85),o 87 (B .add 83 86),o 88 (BI .add 87 2),o 89 (F 2 8),n (S 1 89 88)]) (q (r [0,4,6,8,10,11,12] [m 91 0,o 92 (F 2 8),o 93 (L 1 92),o 94 (.call 195 [.t 91,.t 93,u 34,u 60]),m 90 94,o 95 (E 90 0),o 96 (E 90 1),o 97 (E 90 2),a 10 95,a 11 96,a 12 97]) (q (q (r [0,4,6,8,10,11,105] [m 98 12,o 99 (U 98),m 100 99,h 100 101 (M 11),h 100 102 (M 0),h 100 103 (K 102),h 100 104 (B .geq 101 103),o 105 (O 100 104)]) (w 105 (q (r [4,5] [o 106 (LT 6 6),n (S 6 4 106),o 5 (AB false)]) (x [4,5])) z)) (q (r [0,4,6,8,11] [m 107 10,o 108 (F 1 8),n (S 1 108 107)]) (q (r [0,4,6,8,11] [m 109 11,o 110 (F 3 8),n (S 1 110 109)]) (q (r [0,4,6,11] [o 111 (F 3 6),o 112 (.loadA (.t 111)),o 113 (LT 4 8),o 114 (.mksl false 1 4 [Z,Z,J,J] [⟨0,⟨4,.t 113⟩⟩]),o 115 (.append false 4 (.t 112) (.t 114)),o 116 (F 3 6),n (S 1 116 115)]) (r [0,1,4,6] [m 117 11,o 118 (BI .add 117 1),a 1 118])))))))))))))
def Sr:ka:=gG
def Xm:=@Za Sr gG rfl
def eM:pa:=⟨119,[.inr ⟨4,⟨true,6⟩⟩,.inl 5],(q (r [0,1,4] [o 4 (.alloc 135 [.flat (.int .u8 0),Z,Z,V,J,J]),o 5 (AB false)]) (q (r [0,1,4,6] [m 13 0,m 14 1,o 15 (BI .add 14 1),o 16 (CC 197 13 15),m 17 1,o 18 (.build [.flat (.int .u8 0),Z,Z,V,J,J] [⟨0,⟨1,u 111⟩⟩,⟨1,⟨1,.t 16⟩⟩,⟨4,⟨1,.t 17⟩⟩]),o 6 (.alloc 135 [.flat (.int .u8 0),Z,Z,V,J,J]),n (S 6 6 18)]) (q (r [0,1,4,6] [m 19 1,o 20 (BI .add 19 1),o 21 (F 1 6),o 22 (L 1 21),o 23 (K 22),o 24 (B .add 20 23),a 1 24]) (q (q (.Ab [0,1,4,6,29] [o 25 (.call 199 []),o 26 (F 1 6),o 27 (L 1 26)] [o 28 (CC 198 25 27),o 29 (U 28)]) (w 29 (q (r [4,5] [o 30 (LT 6 6),n (S 6 4 30),o 5 (AB false)]) (x [4,5])) z)) (k 0 [0,1,4,6] Sr))))),[]⟩
def iG:ka:=(q (q (r [0,1,2,3,11,25] [m 15 1,m 16 0,o 17 (K 16),o 18 (B .lss 15 17),m 19 18,g 19 20 (M 0),g 19 21 (M 1),g 19 22 (D 20 21),g 19 23 (M 2),g 19 24 (B .neq 22 23),o 25 (P 19 24)]) (w 25 z (.exit 0 [1,11]))) (.block 1 (q (q (r [0,1,2,3,11,30] [m 26 0,m 27 1,o 28 (D 26 27),m 29 3,o 30 (B .eql 28 29)]) (w 30 (q (r [8,9,10] [o 8 (AS #[]),o 9 (AI 0),o 10 (AB false)]) (x [8,9,10])) z)) (q (q (r [0,1,2,3,11,34] [m 31 0,m 32 1,o 33 (D 31 32),o 34 (BU .eql 33 38)]) (w 34 (q (r [0,1,2,3,11,12,13,14] [m 36 0,m 37 1,o 38 (CC 257 36 37),m 35 38,o 39 (E 35 0),o 40 (E 35 1),o 41 (E 35 2),a 12 39,a 13 40,a 14 41]) (q (q (r [0,1,2,3,11,12,13,43] [m 42 14,o 43 (U 42)]) (w 43 (q (r [8,9,10] [o 8 (AS #[]),o 9 (AI 0),o 10 (AB false)]) (x [8,9,10])) z)) (q (r [0,1,2,3,11,13] [m 44 11,m 45 12,o 46 (B .add 44 45),a 11 46]) (q (r [0,1,2,3,11] [m 47 1,m 48 13,o 49 (B .add 47 48),a 1 49]) (.exit 1 [0,1,2,3,11]))))) z)) (q (r [0,1,2,3,11] [m 50 11,m 51 0,m 52 1,m 53 1,o 54 (BI .add 53 1),o 55 (.sliceS (.t 51) (.some (.t 52)) (.some (.t 54))),o 56 (B .add 50 55),a 11 56]) (r [0,1,2,3,11] [m 57 1,o 58 (BI .add 57 1),a 1 58]))))))
def kC:ka:=iG
def Vs:=@Za kC iG rfl
def fM:pa:=⟨61,[.inl 8,.inl 9,.inl 10],(q (r [0,1,2,3] [o 8 (AS #[]),o 9 (AI 0),o 10 (AB false)]) (q (r [0,1,2,3,11] [o 11 (AS #[])]) (q (k 0 [0,1,2,3,11] kC) (q (r [8,9,10] [m 59 11,m 60 1,a 8 59,a 9 60,o 10 (AB true)]) (x [8,9,10]))))),[]⟩
def jG:ka:=(q (q (r [0,1,5,34] [m 7 1,m 8 0,o 9 (K 8),o 10 (B .lss 7 9),m 11 10,g 11 12 (M 0),g 11 13 (M 1),g 11 14 (D 12 13),g 11 15 (BU .geq 14 97),g 11 16 (M 15),g 16 17 (M 0),g 16 18 (M 1),g 16 19 (D 17 18),g 16 20 (BU .leq 19 122),g 11 21 (P 16 20),g 11 22 (M 21),h 22 23 (M 0),h 22 24 (M 1),h 22 25 (D 23 24),h 22 26 (BU .geq 25 48),h 22 27 (M 26),g 27 28 (M 0),g 27 29 (M 1),g 27 30 (D 28 29),g 27 31 (BU .leq 30 57),h 22 32 (P 27 31),g 11 33 (O 22 32),o 34 (P 11 33)]) (w 34 z (.exit 0 [0,1,5]))) (.block 1 (r [0,1,5] [m 35 1,o 36 (BI .add 35 1),a 1 36])))
def lC:ka:=jG
def US:=@Za lC jG rfl
def gM:pa:=⟨41,[.inl 4],(q (r [0,1] [o 4 (AS #[])]) (q (r [0,1,5] [m 6 1,a 5 6]) (q (k 0 [0,1,5] lC) (q (r [4] [m 37 0,m 38 5,m 39 1,o 40 (.sliceS (.t 37) (.some (.t 38)) (.some (.t 39))),a 4 40]) (x [4]))))),[]⟩
def eG:ka:=(q (q (r [0,1,26] [m 5 1,m 6 0,o 7 (K 6),o 8 (B .lss 5 7),m 9 8,g 9 10 (M 0),g 9 11 (M 1),g 9 12 (D 10 11),g 9 13 (BU .eql 12 32),g 9 14 (M 13),h 14 15 (M 0),h 14 16 (M 1),h 14 17 (D 15 16),h 14 18 (BU .eql 17 9),g 9 19 (O 14 18),g 9 20 (M 19),h 20 21 (M 0),h 20 22 (M 1),h 20 23 (D 21 22),h 20 24 (BU .eql 23 10),g 9 25 (O 20 24),o 26 (P 9 25)]) (w 26 z (.exit 0 [1]))) (.block 1 (r [0,1] [m 27 1,o 28 (BI .add 27 1),a 1 28])))
def iC:ka:=eG
def TS:=@Za iC eG rfl
def aM:pa:=⟨30,[.inl 4],(q (r [0,1] [o 4 (AI 0)]) (q (k 0 [0,1] iC) (q (r [4] [m 29 1,a 4 29]) (x [4])))),[]⟩
def fG:ka:=(q (q (r [0,1,5,9] [m 6 5,m 7 0,o 8 (W 7),o 9 (B .lss 6 8)]) (w 9 z (.exit 0 []))) (q (.block 1 (q (r [0,1,5,17] [m 12 0,m 13 5,o 14 (Y 1 12 13),o 15 (L 1 14),m 16 1,o 17 (B .eql 15 16)]) (w 17 (q (r [4] [o 4 (AB true)]) (x [4])) z))) (r [0,1,5] [m 10 5,o 11 (BI .add 10 1),a 5 11])))
def jC:ka:=fG
def qH:=@Za jC fG rfl
def bM:pa:=⟨18,[.inl 4],(q (r [0,1] [o 4 (AB false)]) (q (q (r [0,1,5] [o 5 (AI 0)]) (k 0 [0,1,5] jC)) (q (r [4] [o 4 (AB false)]) (x [4])))),[]⟩
def cM:pa:=⟨2,[.inl 0],(q (r [] [o 0 (.asg (.c V))]) (q (r [0] [o 1 (.mksl false 26 1 [Z,Z,Z,Z,Z,Z,Z,Z,Z,Z,Z,Z,Z,Z,Z,Z,Z,Z,Z,Z,Z,Z,Z,Z,Z,Z] [⟨0,⟨1,s #[97]⟩⟩,⟨1,⟨1,s #[98]⟩⟩,⟨2,⟨1,s #[98,114]⟩⟩,⟨3,⟨1,s #[99,111,100,101]⟩⟩,⟨4,⟨1,s #[100,105,118]⟩⟩,⟨5,⟨1,s #[101,109]⟩⟩,⟨6,⟨1,s #[104,49]⟩⟩,⟨7,⟨1,s #[104,50]⟩⟩,⟨8,⟨1,s #[104,51]⟩⟩,⟨9,⟨1,s #[104,114]⟩⟩,⟨10,⟨1,s #[105]⟩⟩,⟨11,⟨1,s #[105,109,103]⟩⟩,⟨12,⟨1,s #[108,105]⟩⟩,⟨13,⟨1,s #[111,108]⟩⟩,⟨14,⟨1,s #[112]⟩⟩,⟨15,⟨1,s #[112,114,101]⟩⟩,⟨16,⟨1,s #[115,112,97,110]⟩⟩,⟨17,⟨1,s #[115,116,114,111,110,103]⟩⟩,⟨18,⟨1,s #[116,97,98,108,101]⟩⟩,⟨19,⟨1,s #[116,98,111,100,121]⟩⟩,⟨20,⟨1,s #[116,100]⟩⟩,⟨21,⟨1,s #[116,104]⟩⟩,⟨22,⟨1,s #[116,104,101,97,100]⟩⟩,⟨23,⟨1,s #[116,114]⟩⟩,⟨24,⟨1,s #[117]⟩⟩,⟨25,⟨1,s #[117,108]⟩⟩]),a 0 1]) (x [0]))),[]⟩
def ZL:pa:=⟨2,[.inl 0],(q (r [] [o 0 (.asg (.c V))]) (q (r [0] [o 1 (.mksl false 9 1 [Z,Z,Z,Z,Z,Z,Z,Z,Z] [⟨0,⟨1,s #[97,108,116]⟩⟩,⟨1,⟨1,s #[99,108,97,115,115]⟩⟩,⟨2,⟨1,s #[99,111,108,115,112,97,110]⟩⟩,⟨3,⟨1,s #[104,114,101,102]⟩⟩,⟨4,⟨1,s #[105,100]⟩⟩,⟨5,⟨1,s #[114,111,119,115,112,97,110]⟩⟩,⟨6,⟨1,s #[115,114,99]⟩⟩,⟨7,⟨1,s #[116,105,116,108,101]⟩⟩,⟨8,⟨1,s #[119,105,100,116,104]⟩⟩]),a 0 1]) (x [0]))),[]⟩
def YL:pa:=⟨13,[.inl 2],(q (r [0] [o 2 (AB false)]) (q (r [2] [m 3 0,o 4 (BS .eql 3 #[98,114]),m 5 4,h 5 6 (M 0),h 5 7 (BS .eql 6 #[104,114]),o 8 (O 5 7),m 9 8,h 9 10 (M 0),h 9 11 (BS .eql 10 #[105,109,103]),o 12 (O 9 11),a 2 12]) (x [2]))),[]⟩
def cG:ka:=(q (q (r [0,3,4,10] [m 7 4,m 8 0,o 9 (W 8),o 10 (B .lss 7 9)]) (w 10 z (.exit 0 [3]))) (q (.block 1 (q (r [0,3,4,5] [m 13 3,o 14 (W 13),a 5 14]) (q (q (r [0,3,4,5,29] [m 15 0,m 16 4,o 17 (Y 6 15 16),o 18 (F 0 17),o 19 (L 1 18),o 20 (BU .eql 19 111),m 21 20,g 21 22 (M 0),g 21 23 (M 4),g 21 24 (Y 6 22 23),g 21 25 (F 1 24),g 21 26 (L 1 25),g 21 27 (C 127 26),g 21 28 (U 27),o 29 (P 21 28)]) (w 29 (.Od [0,3,4,5] [m 31 3,m 33 0,m 34 4,o 35 (Y 6 33 34),o 36 (F 1 35),o 37 (L 1 36)] (.two (o 30 (.mksl false 0 1 [] [])) (.two (o 32 (.append false 1 (.t 30) (.t 31))) (.one (o 38 (.mksl false 1 1 [Z] [⟨0,⟨1,.t 37⟩⟩])) (.one (o 39 (.append false 1 (.t 32) (.t 38))) (.one (a 3 39) .done))) (.one (o 38 (.mksl false 1 1 [Z] [⟨0,⟨1,.t 37⟩⟩])) (.one (o 32 (.append false 1 (.t 30) (.t 31))) (.one (o 39 (.append false 1 (.t 32) (.t 38))) (.one (a 3 39) .done))))) (.one (o 38 (.mksl false 1 1 [Z] [⟨0,⟨1,.t 37⟩⟩])) (.one (o 30 (.mksl false 0 1 [] [])) (.one (o 32 (.append false 1 (.t 30) (.t 31))) (.one (o 39 (.append false 1 (.t 32) (.t 38))) (.one (a 3 39) .done))))))) z)) (q (q (r [0,3,4,5,45] [m 40 0,m 41 4,o 42 (Y 6 40 41),o 43 (F 0 42),o 44 (L 1 43),o 45 (BU .eql 44 99)]) (w 45 (q (q (.Ab [0,3,4,5,60] [m 46 5,o 47 (BI .eql 46 0),m 48 47,h 48 49 (M 3),h 48 50 (M 5),h 48 51 (BI .sub 50 1),h 48 52 (Y 1 49 51),h 48 53 (L 1 52),h 48 54 (M 0),h 48 55 (M 4),h 48 56 (Y 6 54 55),h 48 57 (F 1 56),h 48 58 (L 1 57)] [h 48 59 (B .neq 53 58),o 60 (O 48 59)]) (w 60 (q (r [2] [o 2 (AB false)]) (x [2])) z)) (r [0,3,4] [m 61 3,m 62 5,o 63 (BI .sub 62 1),o 64 (.slice 1 (.t 61) .none (.some (.t 63))),a 3 64])) z)) (q (r [0,3,4,67] [m 65 3,o 66 (W 65),o 67 (BI .gtr 66 32)]) (w 67 (q (r [2] [o 2 (AB false)]) (x [2])) z)))))) (r [0,3,4] [m 11 4,o 12 (BI .add 11 1),a 4 12])))
def gC:ka:=cG
def ki:=@Za gC cG rfl
def WL:pa:=⟨71,[.inl 2],(q (r [0] [o 2 (AB false)]) (q (r [0,3] [o 6 (.mksl false 0 1 [] []),a 3 6]) (q (q (r [0,3,4] [o 4 (AI 0)]) (k 0 [0,3,4] gC)) (q (r [2] [m 68 3,o 69 (W 68),o 70 (BI .eql 69 0),a 2 70]) (x [2]))))),[]⟩
def MF:ka:=(q (q (r [0,1,7,8,9,16] [m 15 9,o 16 (BI .lss 15 4)]) (w 16 z (.exit 0 [0,1]))) (q (.block 1 (q (r [0,1,7,8,9,25] [m 19 0,m 20 7,m 21 9,o 22 (Y 1 20 21),o 23 (L 1 22),m 24 1,o 25 (.call 105 [.t 19,.t 23,.t 24])]) (w 25 (q (.Ab [4,5,6] [m 26 8,m 27 9,o 28 (Y 1 26 27),o 29 (L 1 28),m 30 7,m 31 9,o 32 (Y 1 30 31),o 33 (L 1 32),o 34 (K 33),m 4 29] [a 5 34,o 6 (AB true)]) (x [4,5,6])) z))) (r [0,1,7,8,9] [m 17 9,o 18 (BI .add 17 1),a 9 18])))
def TJ:ka:=MF
def ek:=@Za TJ MF rfl
def AL:pa:=⟨73,[.inl 4,.inl 5,.inl 6],(q (r [0,1] [o 4 (AS #[]),o 5 (AI 0),o 6 (AB false)]) (q (r [0,1,7] [o 13 (.mksl false 4 1 [Z,Z,Z,Z] [⟨0,⟨1,s #[38,97,109,112,59]⟩⟩,⟨1,⟨1,s #[38,108,116,59]⟩⟩,⟨2,⟨1,s #[38,103,116,59]⟩⟩,⟨3,⟨1,s #[38,113,117,111,116,59]⟩⟩]),a 7 13]) (q (r [0,1,7,8] [o 14 (.mksl false 4 1 [Z,Z,Z,Z] [⟨0,⟨1,s #[38]⟩⟩,⟨1,⟨1,s #[60]⟩⟩,⟨2,⟨1,s #[62]⟩⟩,⟨3,⟨1,s #[34]⟩⟩]),a 8 14]) (q (q (r [0,1,7,8,9] [o 9 (AI 0)]) (k 0 [0,1,7,8,9] TJ)) (q (r [0,1,10,11,12] [o 10 (AI 0),o 11 (AI 0),o 12 (AI 0)]) (q (q (r [0,1,10,11,12,37] [m 35 0,m 36 1,o 37 (.call 105 [.t 35,s #[38,35,120],.t 36])]) (w 37 (q (r [0,1,12] [o 12 (AI 3)]) (r [10,11,12] [m 39 0,m 40 1,o 41 (BI .add 40 3),o 42 (.sliceS (.t 39) (.some (.t 41)) .none),o 43 (.call 286 [.t 42,i 16,i 6]),m 38 43,o 44 (E 38 0),o 45 (E 38 1),a 10 44,a 11 45])) (q (r [0,1,10,11,12,48] [m 46 0,m 47 1,o 48 (.call 105 [.t 46,s #[38,35],.t 47])]) (w 48 (q (r [0,1,12] [o 12 (AI 2)]) (r [10,11,12] [m 50 0,m 51 1,o 52 (BI .add 51 2),o 53 (.sliceS (.t 50) (.some (.t 52)) .none),o 54 (.call 286 [.t 53,i 10,i 7]),m 49 54,o 55 (E 49 0),o 56 (E 49 1),a 10 55,a 11 56])) z)))) (q (q (r [10,11,12,67] [m 57 11,o 58 (BI .eql 57 0),m 59 58,h 59 60 (M 10),h 59 61 (BI .eql 60 0),o 62 (O 59 61),m 63 62,h 63 64 (M 10),h 63 65 (C 134 64),h 63 66 (U 65),o 67 (O 63 66)]) (w 67 (q (r [4,5,6] [o 4 (AS #[]),o 5 (AI 0),o 6 (AB false)]) (x [4,5,6])) z)) (q (r [4,5,6] [m 68 10,o 69 (C 72 68),m 70 12,m 71 11,o 72 (B .add 70 71),a 4 69,a 5 72,o 6 (AB true)]) (x [4,5,6]))))))))),[]⟩
def NF:ka:=(q (q (r [0,1,2,8,9,19] [m 11 9,m 12 0,o 13 (K 12),o 14 (B .lss 11 13),m 15 14,g 15 16 (M 9),g 15 17 (M 2),g 15 18 (B .leq 16 17),o 19 (P 15 18)]) (w 19 z (.exit 0 []))) (q (.block 1 (q (q (r [0,1,2,8,9,29] [m 22 0,m 23 9,o 24 (D 22 23),o 25 (BU .eql 24 59),m 26 25,g 26 27 (M 9),g 26 28 (BI .gtr 27 0),o 29 (P 26 28)]) (w 29 (q (r [6,7] [m 30 8,m 31 9,o 32 (BI .add 31 1),a 6 30,a 7 32]) (x [6,7])) z)) (q (r [0,1,2,8,9,10] [m 33 0,m 34 9,o 35 (D 33 34),m 36 1,o 37 (CC 292 35 36),a 10 37]) (q (q (r [0,1,2,8,9,10,39] [m 38 10,o 39 (BI .lss 38 0)]) (w 39 (q (r [6,7] [o 6 (AI 0),o 7 (AI 0)]) (x [6,7])) z)) (r [0,1,2,8,9] [m 40 8,m 41 1,o 42 (B .mul 40 41),m 43 10,o 44 (B .add 42 43),a 8 44]))))) (r [0,1,2,8,9] [m 20 9,o 21 (BI .add 20 1),a 9 21])))
def TB:ka:=NF
def Us:=@Za TB NF rfl
def CL:pa:=⟨45,[.inl 6,.inl 7],(q (r [0,1,2] [o 6 (AI 0),o 7 (AI 0)]) (q (r [0,1,2,8] [o 8 (AI 0)]) (q (q (r [0,1,2,8,9] [o 9 (AI 0)]) (k 0 [0,1,2,8,9] TB)) (q (r [6,7] [o 6 (AI 0),o 7 (AI 0)]) (x [6,7]))))),[]⟩
def BL:pa:=⟨39,[.inl 4],(q (r [0,1] [o 4 (AI 0)]) (q (r [0,1,5] [o 5 (.asg (.c (.flat (.int .i64 (.negSucc 0)))))]) (q (q (r [0,1,5,11] [m 6 0,o 7 (BU .geq 6 48),m 8 7,g 8 9 (M 0),g 8 10 (BU .leq 9 57),o 11 (P 8 10)]) (w 11 (r [0,1,5] [m 12 0,o 13 (.conv .i64 (.t 12)),o 14 (BI .sub 13 48),a 5 14]) z)) (q (q (r [0,1,5,20] [m 15 0,o 16 (BU .geq 15 65),m 17 16,g 17 18 (M 0),g 17 19 (BU .leq 18 70),o 20 (P 17 19)]) (w 20 (r [0,1,5] [m 21 0,o 22 (.conv .i64 (.t 21)),o 23 (BI .sub 22 65),o 24 (BI .add 23 10),a 5 24]) z)) (q (q (r [0,1,5,30] [m 25 0,o 26 (BU .geq 25 97),m 27 26,g 27 28 (M 0),g 27 29 (BU .leq 28 102),o 30 (P 27 29)]) (w 30 (r [1,5] [m 31 0,o 32 (.conv .i64 (.t 31)),o 33 (BI .sub 32 97),o 34 (BI .add 33 10),a 5 34]) z)) (q (q (r [5,37] [m 35 5,m 36 1,o 37 (B .geq 35 36)]) (w 37 (q (r [4] [o 4 (.asg (.c (.flat (.int .i64 (.negSucc 0)))))]) (x [4])) z)) (q (r [4] [m 38 5,a 4 38]) (x [4])))))))),[]⟩
def RF:ka:=(q (q (r [0,3,16] [m 13 3,m 14 0,o 15 (K 14),o 16 (B .lss 13 15)]) (w 16 z (.exit 0 []))) (q (.block 1 (q (r [0,3,4] [m 19 0,m 20 3,o 21 (D 19 20),a 4 21]) (q (r [0,3,48] [m 22 4,o 23 (BU .geq 22 65),m 24 23,g 24 25 (M 4),g 24 26 (BU .leq 25 90),o 27 (P 24 26),m 28 27,h 28 29 (M 4),h 28 30 (BU .geq 29 97),h 28 31 (M 30),g 31 32 (M 4),g 31 33 (BU .leq 32 122),h 28 34 (P 31 33),o 35 (O 28 34),m 36 35,h 36 37 (M 4),h 36 38 (BU .geq 37 48),h 36 39 (M 38),g 39 40 (M 4),g 39 41 (BU .leq 40 57),h 36 42 (P 39 41),o 43 (O 36 42),m 44 43,h 44 45 (M 4),h 44 46 (BU .eql 45 45),o 47 (O 44 46),o 48 (U 47)]) (w 48 (q (r [2] [o 2 (AB false)]) (x [2])) z)))) (r [0,3] [m 17 3,o 18 (BI .add 17 1),a 3 18])))
def XB:ka:=RF
def PS:=@Za XB RF rfl
def IL:pa:=⟨49,[.inl 2],(q (r [0] [o 2 (AB false)]) (q (q (r [0,12] [m 5 0,o 6 (K 5),o 7 (BI .lss 6 1),m 8 7,h 8 9 (M 0),h 8 10 (K 9),h 8 11 (BI .gtr 10 32),o 12 (O 8 11)]) (w 12 (q (r [2] [o 2 (AB false)]) (x [2])) z)) (q (q (r [0,3] [o 3 (AI 0)]) (k 0 [0,3] XB)) (q (r [2] [o 2 (AB true)]) (x [2]))))),[]⟩
def SF:ka:=(q (q (r [0,3,4,13] [m 10 4,m 11 3,o 12 (W 11),o 13 (B .lss 10 12)]) (w 13 z (.exit 0 [0]))) (q (.block 1 (q (r [0,3,4,29] [m 16 3,m 17 4,o 18 (Y 1 16 17),o 19 (L 1 18),o 20 (K 19),o 21 (BI .lss 20 1),m 22 21,h 22 23 (M 3),h 22 24 (M 4),h 22 25 (Y 1 23 24),h 22 26 (L 1 25),h 22 27 (K 26),h 22 28 (BI .gtr 27 60),o 29 (O 22 28)]) (w 29 (q (r [2] [o 2 (AB false)]) (x [2])) z))) (r [0,3,4] [m 14 4,o 15 (BI .add 14 1),a 4 15])))
def YB:ka:=SF
def QS:=@Za YB SF rfl
def TF:ka:=(q (q (r [0,5,33] [m 30 5,m 31 0,o 32 (K 31),o 33 (B .lss 30 32)]) (w 33 z (.exit 2 []))) (q (.block 3 (q (r [0,5,50] [m 36 0,m 37 5,o 38 (D 36 37),o 39 (BU .lss 38 32),m 40 39,h 40 41 (M 0),h 40 42 (M 5),h 40 43 (D 41 42),h 40 44 (BU .gtr 43 126),o 45 (O 40 44),m 46 45,h 46 47 (M 0),h 46 48 (M 5),h 46 49 (.call 105 [.t 47,s #[61,63],.t 48]),o 50 (O 46 49)]) (w 50 (q (r [2] [o 2 (AB false)]) (x [2])) z))) (r [0,5] [m 34 5,o 35 (BI .add 34 1),a 5 35])))
def ZB:ka:=TF
def RS:=@Za ZB TF rfl
def JL:pa:=⟨51,[.inl 2],(q (r [0] [o 2 (AB false)]) (q (q (r [0,7] [m 6 0,o 7 (BS .eql 6 #[])]) (w 7 (q (r [2] [o 2 (AB true)]) (x [2])) z)) (q (r [0,3] [m 8 0,o 9 (.call 129 [.t 8,u 32]),a 3 9]) (q (q (r [0,3,4] [o 4 (AI 0)]) (k 0 [0,3,4] YB)) (q (q (r [0,5] [o 5 (AI 0)]) (k 2 [0,5] ZB)) (q (r [2] [o 2 (AB true)]) (x [2]))))))),[]⟩
def VF:ka:=(q (q (r [3,4,5,6,21] [m 18 6,m 19 4,o 20 (W 19),o 21 (B .lss 18 20)]) (w 21 z (.exit 0 [3,5]))) (q (.block 1 (q (r [3,4,5,6,7] [m 24 4,m 25 6,o 26 (Y 1 24 25),o 27 (L 1 26),o 28 (C 72 27),a 7 28]) (q (q (r [3,4,5,6,7,34] [m 29 5,o 30 (K 29),m 31 7,o 32 (K 31),o 33 (B .add 30 32),o 34 (BI .gtr 33 45)]) (w 34 (q (r [3,4,6,7] [o 35 (.mvA 3),m 36 5,o 37 (C 130 36),o 38 (.mksl false 1 1 [Z] [⟨0,⟨1,.t 37⟩⟩]),o 39 (.append false 1 (.t 35) (.t 38)),a 3 39]) (r [3,4,5,6,7] [o 5 (AS #[])])) z)) (r [3,4,5,6] [m 40 5,m 41 7,o 42 (B .add 40 41),a 5 42])))) (r [3,4,5,6] [m 22 6,o 23 (BI .add 22 1),a 6 23])))
def bC:ka:=VF
def oH:=@Za bC VF rfl
def ML:pa:=⟨48,[.inl 2],(q (r [0] [o 2 (.asg (.c V))]) (q (q (r [0,9] [m 8 0,o 9 (BS .eql 8 #[])]) (w 9 (q (r [2] [o 10 (.mksl false 0 1 [] []),a 2 10]) (x [2])) z)) (q (q (r [0,12] [m 11 0,o 12 (C 128 11)]) (w 12 (q (r [2] [m 13 0,o 14 (.call 129 [.t 13,u 32]),a 2 14]) (x [2])) z)) (q (r [0,3] [o 15 (.mksl false 0 1 [] []),a 3 15]) (q (r [3,4] [m 16 0,o 17 (C 69 16),a 4 17]) (q (r [3,4,5] [o 5 (AS #[])]) (q (q (r [3,4,5,6] [o 6 (AI 0)]) (k 0 [3,4,5,6] bC)) (q (r [2] [o 43 (.mvA 3),m 44 5,o 45 (C 130 44),o 46 (.mksl false 1 1 [Z] [⟨0,⟨1,.t 45⟩⟩]),o 47 (.append false 1 (.t 43) (.t 46)),a 2 47]) (x [2]))))))))),[]⟩
def LL:pa:=⟨7,[.inl 2],(q (r [0] [o 2 (AS #[])]) (q (r [2] [m 3 0,o 4 (C 177 3),o 5 (SB .add #[61,63,85,84,70,45,56,63,66,63] 4),o 6 (BS .add 5 #[63,61]),a 2 6]) (x [2]))),[]⟩
def UF:ka:=(q (q (r [6,7,8,9,22] [m 19 9,m 20 8,o 21 (W 20),o 22 (B .lss 19 21)]) (w 22 z (.exit 0 [6]))) (q (.block 1 (q (q (r [6,7,8,9,33] [m 25 7,o 26 (BI .add 25 1),m 27 8,m 28 9,o 29 (Y 1 27 28),o 30 (L 1 29),o 31 (K 30),o 32 (B .add 26 31),o 33 (BI .gtr 32 76)]) (w 33 (q (r [6,8,9] [m 34 6,o 35 (BS .add 34 #[13,10]),a 6 35]) (r [6,7,8,9] [o 7 (AI 0)])) z)) (q (r [6,7,8,9] [m 36 6,o 37 (BS .add 36 #[32]),m 38 8,m 39 9,o 40 (Y 1 38 39),o 41 (L 1 40),o 42 (B .add 37 41),a 6 42]) (r [6,7,8,9] [m 43 7,o 44 (BI .add 43 1),m 45 8,m 46 9,o 47 (Y 1 45 46),o 48 (L 1 47),o 49 (K 48),o 50 (B .add 44 49),a 7 50])))) (r [6,7,8,9] [m 23 9,o 24 (BI .add 23 1),a 9 24])))
def aC:ka:=UF
def nH:=@Za aC UF rfl
def KL:pa:=⟨53,[.inl 4,.inl 5],(q (r [0,1] [o 4 (AS #[]),o 5 (AI 0)]) (q (q (r [0,1,12] [m 10 0,o 11 (C 53 10),o 12 (U 11)]) (w 12 (q (r [4,5] [o 4 (AS #[]),o 5 (AI 1)]) (x [4,5])) z)) (q (r [1,6] [m 13 0,o 14 (BS .add 13 #[58]),a 6 14]) (q (r [1,6,7] [m 15 6,o 16 (K 15),a 7 16]) (q (r [6,7,8] [m 17 1,o 18 (C 66 17),a 8 18]) (q (q (r [6,7,8,9] [o 9 (AI 0)]) (k 0 [6,7,8,9] aC)) (q (r [4,5] [m 51 6,o 52 (BS .add 51 #[13,10]),a 4 52,o 5 (AI 0)]) (x [4,5])))))))),[]⟩
def rL:pa:=⟨35,[.inl 6],(q (r [0,1,2] [o 6 (AB false)]) (q (r [6] [m 7 2,o 8 (BI .geq 7 0),m 9 8,g 9 10 (M 2),g 9 11 (M 0),g 9 12 (K 11),g 9 13 (B .leq 10 12),o 14 (P 9 13),m 15 14,g 15 16 (M 1),g 15 17 (K 16),g 15 18 (M 0),g 15 19 (K 18),g 15 20 (M 2),g 15 21 (B .sub 19 20),g 15 22 (B .leq 17 21),o 23 (P 15 22),m 24 23,g 24 25 (M 0),g 24 26 (M 2),g 24 27 (M 2),g 24 28 (M 1),g 24 29 (K 28),g 24 30 (B .add 27 29),g 24 31 (.sliceS (.t 25) (.some (.t 26)) (.some (.t 30))),g 24 32 (M 1),g 24 33 (B .eql 31 32),o 34 (P 24 33),a 6 34]) (x [6]))),[]⟩
def lQ:ka:=(r [8,9] [a 9 21])
def VP:ka:=(.block 1 (r [] [o 22 (.loadA (.t 8)),m 23 9,o 24 (.mksl false 1 1 [Z] [⟨0,⟨1,.t 23⟩⟩]),o 25 (.append false 1 (.t 22) (.t 24)),n (S 1 8 25)]))
def wM:pa:=⟨27,[.inl 4,.inl 5],(q (r [0,1,4,5] [o 4 (.asg (.c V)),o 5 (AI 0)]) (q (r [4,5,6,7] [m 11 0,m 12 1,o 13 (CC 24 11 12),m 10 13,o 14 (E 10 0),o 15 (E 10 1),a 6 14,a 7 15]) (q (q (r [4,5,6,7,17] [m 16 7,o 17 (BI .neq 16 0)]) (w 17 (q (r [4,5] [m 18 7,o 4 (.asg (.c V)),a 5 18]) (x [4,5])) z)) (q (r [4,5,6,8] [o 8 (.alloc 29 [V])]) (q (q (r [4,5,8,20] [m 19 6,o 20 (.calli [⟨245,313⟩,⟨255,316⟩,⟨259,319⟩] (.t 19) [])]) (.block 0 (.range 10 0 [8] (.t 20)))) (q (r [4,5] [o 26 (L 1 8),a 4 26,o 5 (AI 0)]) (x [4,5]))))))),[([21],lQ,VP)]⟩
def vM:pa:=⟨19,[.inl 4,.inl 5],(q (r [0,1] [o 4 (AS #[]),o 5 (AI 0)]) (q (r [6,7] [m 9 0,m 10 1,o 11 (CC 24 9 10),m 8 11,o 12 (E 8 0),o 13 (E 8 1),a 6 12,a 7 13]) (q (q (r [6,7,15] [m 14 7,o 15 (BI .neq 14 0)]) (w 15 (q (r [4,5] [m 16 7,o 4 (AS #[]),a 5 16]) (x [4,5])) z)) (q (r [4,5] [m 17 6,o 18 (.calli [⟨245,312⟩,⟨255,315⟩,⟨259,318⟩] (.t 17) []),a 4 18,o 5 (AI 0)]) (x [4,5]))))),[]⟩
def BM:pa:=⟨64,[.inl 4,.inl 5],(q (r [0,1] [o 4 (.asg (.c (.flat .nilIface))),o 5 (AI 0)]) (q (q (r [1,16] [m 16 0]) (.block 0 (q (r [1,16,17] [o 18 (BI .eql 16 1),a 17 18]) (w 17 (q (r [6,7] [m 20 1,o 21 (C 7 20),m 19 21,o 22 (E 19 0),o 23 (E 19 1),o 6 (.alloc 23 [Z,Z,Z,Z,Z]),n (S 5 6 22),a 7 23]) (q (r [6,7,8] [o 25 (F 4 6),o 26 (L 1 25),o 27 (C 56 26),m 24 27,o 28 (E 24 0),o 29 (E 24 1),a 8 28,a 9 29]) (q (r [4,5] [o 30 (LT 5 6),m 31 8,o 32 (.build [Z,Z,Z,Z,Z,V] [⟨0,⟨5,.t 30⟩⟩,⟨5,⟨1,.t 31⟩⟩]),o 33 (.mkt 245 [.t 32]),m 34 7,a 4 33,a 5 34]) (x [4,5])))) (q (r [1,16,35] [o 36 (BI .eql 16 2),a 35 36]) (w 35 (q (r [10,11] [m 38 1,o 39 (C 57 38),m 37 39,o 40 (E 37 0),o 41 (E 37 1),o 10 (.alloc 40 [.flat (.bool false),Z,Z]),n (S 3 10 40),a 11 41]) (q (r [10,11,12] [o 43 (F 2 10),o 44 (L 1 43),o 45 (C 58 44),m 42 45,o 46 (E 42 0),o 47 (E 42 1),a 12 46,a 13 47]) (q (r [4,5] [o 48 (LT 3 10),m 49 12,o 50 (.build [.flat (.bool false),Z,Z,V] [⟨0,⟨3,.t 48⟩⟩,⟨3,⟨1,.t 49⟩⟩]),o 51 (.mkt 255 [.t 50]),m 52 11,a 4 51,a 5 52]) (x [4,5])))) (q (r [1,53] [o 54 (BI .eql 16 3),a 53 54]) (w 53 (q (r [14,15] [m 56 1,o 57 (C 59 56),m 55 57,o 58 (E 55 0),o 59 (E 55 1),o 14 (.alloc 42 [Z,.flat (.bool false)]),n (S 2 14 58),a 15 59]) (q (r [4,5] [o 60 (LT 2 14),o 61 (.build [Z,.flat (.bool false)] [⟨0,⟨2,.t 60⟩⟩]),o 62 (.mkt 259 [.t 61]),m 63 15,a 4 62,a 5 63]) (x [4,5]))) z)))))))) (q (r [4,5] [o 4 (.asg (.c (.flat .nilIface))),o 5 (AI 1)]) (x [4,5])))),[]⟩
def qG:ka:=(q (r [3,9,10,11,24,25,26,27] [o 27 (B .lss 26 25)]) (q (w 27 z (.exit 3 [3,9,10,11])) (q (.block 4 (q (r [3,7,9,10,11,24,25,26] [o 28 (Y 4 24 26),o 29 (LT 4 28),o 7 (.alloc 282 [Z,Z,J,J]),n (S 4 7 29)]) (r [3,9,10,11,24,25,26] [o 30 (F 0 7),o 31 (L 1 30),o 32 (SB .add #[32] 31),o 33 (CC 45 3 32)]))) (r [3,9,10,11,24,25,26] [o 34 (BI .add 26 1),m 26 34]))))
def Bx:ka:=qG
def WS:=@Za Bx qG rfl
def pG:ka:=(q (r [3,9,10,11,12] [o 12 (B .lss 11 10)]) (q (w 12 z (.exit 0 [3])) (q (.block 1 (q (r [3,5,9,10,11] [o 13 (Y 6 9 11),o 14 (LT 6 13),o 5 (.alloc 190 [.flat (.int .u8 0),Z,Z,V,J,J]),n (S 6 5 14)]) (q (r [3,5,9,10,11,16] [o 15 (F 0 5),o 16 (L 1 15)]) (.block 2 (q (r [3,5,9,10,11,16,17] [o 18 (BU .eql 16 111),a 17 18]) (w 17 (q (r [3,5,9,10,11] [o 19 (F 1 5),o 20 (L 1 19),o 21 (SB .add #[60] 20),o 22 (CC 45 3 21)]) (q (q (r [3,9,10,11,24,25,26] [o 23 (F 3 5),o 24 (L 1 23),o 25 (W 24),o 26 (.mv (i 0))]) (k 3 [3,9,10,11,24,25,26] Bx)) (r [3,9,10,11] [o 35 (CS 45 3 #[62])]))) (q (r [3,5,9,10,11,36] [o 37 (BU .eql 16 99),a 36 37]) (w 36 (r [3,9,10,11] [o 38 (F 1 5),o 39 (L 1 38),o 40 (SB .add #[60,47] 39),o 41 (BS .add 40 #[62]),o 42 (CC 45 3 41)]) z)))))))) (r [3,9,10,11] [o 43 (BI .add 11 1),m 11 43]))))
def rC:ka:=pG
def Wz:=@Za rC pG rfl
def AM:pa:=⟨45,[.inl 2],(q (r [1] [o 1 (.box 122 6 (.t 0)),o 2 (AS #[])]) (q (r [1,3] [o 3 (.alloc 101 [.flat (.pointer .none),V])]) (q (q (r [3,9,10,11] [o 8 (F 5 1),o 9 (L 1 8),o 10 (W 9),o 11 (.mv (i 0))]) (k 0 [3,9,10,11] rC)) (q (r [2] [o 44 (C 46 3),a 2 44]) (x [2]))))),[]⟩
def nG:ka:=(q (r [3,7,8,9,10] [o 10 (B .lss 9 8)]) (q (w 10 z (.exit 0 [3])) (q (.block 1 (q (r [3,5,7,8,9] [o 11 (Y 4 7 9),o 12 (LT 4 11),o 5 (.alloc 203 [.flat (.int .u8 0),Z,J,J]),n (S 4 5 12)]) (q (r [3,5,7,8,9,14] [o 13 (F 0 5),o 14 (L 1 13)]) (.block 2 (q (r [3,5,7,8,9,14,18] [o 19 (BU .eql 14 34),a 18 19]) (w 18 (r [3,7,8,9] [o 20 (CS 45 3 #[34,34])]) (q (q (r [3,5,7,8,9,14,21] [o 22 (BU .eql 14 48),a 21 22]) (w 21 z (r [3,5,7,8,9,21] [o 23 (BU .eql 14 97),a 21 23]))) (w 21 (r [3,7,8,9] [o 24 (F 1 5),o 25 (L 1 24),o 26 (CC 45 3 25)]) (r [3,7,8,9] [o 15 (F 0 5),o 16 (L 1 15),o 17 (CC 44 3 16)]))))))))) (r [3,7,8,9] [o 27 (BI .add 9 1),m 9 27]))))
def pC:ka:=nG
def Ev:=@Za pC nG rfl
def xM:pa:=⟨29,[.inl 2],(q (r [1] [o 1 (.box 127 4 (.t 0)),o 2 (AS #[])]) (q (r [1,3] [o 3 (.alloc 101 [.flat (.pointer .none),V])]) (q (q (r [3,7,8,9] [o 6 (F 3 1),o 7 (L 1 6),o 8 (W 7),o 9 (.mv (i 0))]) (k 0 [3,7,8,9] pC)) (q (r [2] [o 28 (C 46 3),a 2 28]) (x [2]))))),[]⟩
def yM:pa:=⟨4,[.inl 2],(q (r [1] [o 1 (.box 127 4 (.t 0)),o 2 (.asg (.c (.flat .nilFunc)))]) (q (r [2] [o 3 (.clos 317 [.t 1]),a 2 3]) (x [2]))),[]⟩
def oG:ka:=(q (r [0,20,21,22,23] [o 23 (B .lss 22 21)]) (q (w 23 z (.exit 0 [])) (q (.block 1 (q (r [0,4,20,21,22] [o 24 (Y 4 20 22),o 25 (LT 4 24),o 4 (.alloc 203 [.flat (.int .u8 0),Z,J,J]),n (S 4 4 25)]) (q (r [0,20,21,22,35] [o 26 (F 0 4),o 27 (L 1 26),o 28 (BU .eql 27 34),m 29 28,g 29 30 (M 0),g 29 31 (F 1 4),g 29 32 (L 1 31),g 29 33 (.callv (.t 30) [.t 32]),g 29 34 (U 33),o 35 (P 29 34)]) (w 35 (x []) z)))) (r [0,20,21,22] [o 36 (BI .add 22 1),m 22 36]))))
def qC:ka:=oG
def uH:=@Za qC oG rfl
def zM:pa:=⟨37,[],(q (q (r [0,1,18] [m 5 0,o 6 (F 0 1),o 7 (F 1 6),o 8 (L 1 7),o 9 (.callv (.t 5) [.t 8]),o 10 (U 9),m 11 10,h 11 12 (M 0),h 11 13 (F 0 1),h 11 14 (F 2 13),h 11 15 (L 1 14),h 11 16 (.callv (.t 12) [.t 15]),h 11 17 (U 16),o 18 (O 11 17)]) (w 18 (x []) z)) (q (r [0,20,21,22] [o 19 (F 3 1),o 20 (L 1 19),o 21 (W 20),o 22 (.mv (i 0))]) (k 0 [0,20,21,22] qC))),[]⟩
def AG:ka:=(q (r [0,2,4,19,20,21,22] [o 22 (B .lss 21 20)]) (q (w 22 z (.exit 0 [0,2,4])) (q (.block 1 (q (r [0,2,4,6,19,20,21] [o 23 (Y 1 19 21),o 24 (L 1 23),a 6 24]) (q (r [0,2,4,19,20,21,27] [m 25 6,o 26 (.callv (.t 25) []),o 27 (U 26)]) (w 27 (q (r [2,3] [o 28 (.build [.flat (.bool false),Z,Z] []),n (S 3 2 28),o 3 (AI 7)]) (x [2,3])) z)))) (r [0,2,4,19,20,21] [o 29 (BI .add 21 1),m 21 29]))))
def WJ:ka:=AG
def D_:=@Za WJ AG rfl
def kN:pa:=⟨50,[.inr ⟨2,⟨true,3⟩⟩,.inl 3],(q (r [0,2] [o 2 (.alloc 40 [.flat (.bool false),Z,Z]),o 3 (AI 0)]) (q (r [0,2,4] [m 9 0,o 10 (.build [Z] [⟨0,⟨1,.t 9⟩⟩]),o 11 (.build [Z,.flat (.bool false),Z,Z] [⟨0,⟨1,.t 10⟩⟩]),o 12 (.box 197 4 (.t 11)),a 4 12]) (q (q (r [0,2,4,19,20,21] [m 13 4,o 14 (.mkt 226 [.t 13]),m 15 4,o 16 (.mkt 228 [.t 15]),m 17 4,o 18 (.mkt 230 [.t 17]),o 19 (.mksl false 3 1 [.flat .nilFunc,.flat .nilFunc,.flat .nilFunc] [⟨0,⟨1,.t 14⟩⟩,⟨1,⟨1,.t 16⟩⟩,⟨2,⟨1,.t 18⟩⟩]),o 20 (W 19),o 21 (.mv (i 0))]) (k 0 [0,2,4,19,20,21] WJ)) (q (q (r [0,2,4,7,8] [m 31 4,o 32 (N 31),o 33 (F 1 32),o 34 (LT 3 33),o 35 (C 116 34),m 30 35,o 36 (E 30 0),o 37 (E 30 1),a 7 36,a 8 37]) (q (r [2,4,44] [m 38 8,o 39 (BI .neq 38 0),m 40 39,h 40 41 (M 7),h 40 42 (M 0),h 40 43 (B .neq 41 42),o 44 (O 40 43)]) (w 44 (q (r [2,3] [o 45 (.build [.flat (.bool false),Z,Z] []),n (S 3 2 45),o 3 (AI 7)]) (x [2,3])) z))) (q (r [2,3] [m 46 4,o 47 (N 46),o 48 (F 1 47),o 49 (LT 3 48),n (S 3 2 49),o 3 (AI 0)]) (x [2,3])))))),[]⟩
def iN:pa:=⟨24,[.inl 2,.inl 3],(q (r [1] [o 1 (.box 40 3 (.t 0)),o 2 (AS #[]),o 3 (AI 0)]) (q (q (r [1,4] [o 5 (LT 3 1),o 6 (C 187 5),a 4 6]) (q (r [1,4,8] [m 7 4,o 8 (BI .neq 7 0)]) (w 8 (q (r [2,3] [m 9 4,o 2 (AS #[]),a 3 9]) (x [2,3])) z))) (q (.Ab [2,3] [o 10 (F 1 1),o 11 (L 1 10),o 12 (C 188 11),o 13 (SB .add #[123,34,114,101,99,101,105,118,101,114,34,58,34] 12),o 14 (BS .add 13 #[34,44,34,115,116,97,116,117,115,34,58,34]),o 15 (F 0 1),o 16 (L 1 15),o 17 (C 186 16),o 18 (B .add 14 17),o 19 (BS .add 18 #[34,44,34,98,111,100,121,34,58]),o 20 (F 2 1),o 21 (L 1 20)] [o 22 (B .add 19 21),o 23 (BS .add 22 #[125]),a 2 23,o 3 (AI 0)]) (x [2,3])))),[]⟩
def jN:pa:=⟨33,[.inl 2],(q (r [1] [o 1 (.box 40 3 (.t 0)),o 2 (AI 0)]) (q (r [1,4] [o 8 (F 2 1),o 9 (L 1 8),o 10 (C 247 9),m 7 10,o 11 (E 7 0),o 12 (E 7 1),o 3 (.alloc 291 [.flat (.int .u8 0),Z,V,V]),n (S 4 3 11),a 4 12]) (q (q (.Ab [1,22] [o 13 (F 1 1),o 14 (L 1 13),o 15 (C 95 14),o 16 (F 1 1),o 17 (L 1 16)] [o 18 (B .neq 15 17),m 19 18,h 19 20 (M 4),h 19 21 (BI .eql 20 7),o 22 (O 19 21)]) (w 22 (q (r [2] [o 2 (AI 7)]) (x [2])) z)) (q (q (r [6] [o 24 (F 2 1),o 25 (L 1 24),o 26 (SB .add #[91] 25),o 27 (BS .add 26 #[93]),o 28 (C 247 27),m 23 28,o 29 (E 23 0),o 30 (E 23 1),o 5 (.alloc 291 [.flat (.int .u8 0),Z,V,V]),n (S 4 5 29),a 6 30]) (q (r [32] [m 31 6,o 32 (BI .neq 31 0)]) (w 32 (q (r [2] [o 2 (AI 8)]) (x [2])) z))) (q (r [2] [o 2 (AI 0)]) (x [2])))))),[]⟩
def UX:pa:=⟨4,[.inl 2],(q (r [0] [o 2 (AS #[])]) (q (q (r [3] [m 3 0]) (w 3 (q (r [2] [o 2 (AS #[102,105,114,105,110,103])]) (x [2])) z)) (q (r [2] [o 2 (AS #[114,101,115,111,108,118,101,100])]) (x [2])))),[]⟩
def lN:pa:=⟨21,[.inl 4],(q (r [0,1] [o 4 (AB false)]) (q (r [0,5,6] [m 8 0,o 9 (N 8),o 10 (F 0 9),o 11 (L 1 10),m 12 1,o 13 (CC 90 11 12),m 7 13,o 14 (E 7 0),o 15 (E 7 1),a 5 14,a 6 15]) (q (r [6] [m 16 0,m 17 5,o 18 (N 16),o 19 (F 0 18),n (S 1 19 17)]) (q (r [4] [m 20 6,a 4 20]) (x [4]))))),[]⟩
def nN:pa:=⟨48,[.inl 2],(q (r [0] [o 2 (AB false)]) (q (q (r [0,10] [m 6 0,o 7 (N 6),o 8 (F 0 7),o 9 (CS 185 8 #[123,34,114,101,99,101,105,118,101,114,34,58,34]),o 10 (U 9)]) (w 10 (q (r [2] [o 2 (AB false)]) (x [2])) z)) (q (r [0,3] [m 11 0,o 12 (N 11),o 13 (F 0 12),o 14 (F 0 13),o 15 (L 1 14),o 16 (CS 146 15 #[34,44,34,115,116,97,116,117,115,34,58,34]),a 3 16]) (q (q (r [0,3,18] [m 17 3,o 18 (BI .lss 17 0)]) (w 18 (q (r [2] [o 2 (AB false)]) (x [2])) z)) (q (r [0,3,4,5] [m 20 0,o 21 (N 20),o 22 (F 0 21),o 23 (F 0 22),o 24 (L 1 23),m 25 3,o 26 (.sliceS (.t 24) .none (.some (.t 25))),o 27 (C 120 26),m 19 27,o 28 (E 19 0),o 29 (E 19 1),a 4 28,a 5 29]) (q (.Od [5] [m 30 0,m 31 0,m 32 4,m 33 0,o 34 (N 33),o 35 (F 0 34),o 36 (F 0 35),o 37 (L 1 36),m 38 3,o 39 (.sliceS (.t 37) (.some (.t 38)) .none),o 40 (N 30),o 41 (F 1 40),o 42 (F 1 41)] (.one (n (S 1 42 32)) (.one (o 43 (N 31)) (.one (o 44 (F 0 43)) (.one (o 45 (F 0 44)) (.one (n (S 1 45 39)) .done)))))) (q (r [2] [m 46 5,o 47 (BI .eql 46 0),a 2 47]) (x [2])))))))),[]⟩
def oN:pa:=⟨26,[.inl 2],(q (r [0] [o 2 (AB false)]) (q (.Od [0] [m 3 0,m 4 0,o 5 (N 4),o 6 (F 0 5)] (.one (o 7 (.call 186 [b true])) (.one (o 8 (SB .add #[34,44,34,115,116,97,116,117,115,34,58,34] 7)) (.one (o 9 (CC 185 6 8)) (.one (o 10 (N 3)) (.one (o 11 (F 1 10)) (.one (o 12 (F 0 11)) (.one (n (S 1 12 9)) .done)))))))) (q (.Od [2] [m 13 0,o 14 (N 13),o 15 (F 1 14),o 16 (F 0 15),o 17 (L 1 16),m 18 17,h 18 19 (M 0),h 18 20 (N 19),h 18 21 (F 0 20)] (.one (h 18 22 (.call 186 [b false])) (.one (h 18 23 (SB .add #[34,44,34,115,116,97,116,117,115,34,58,34] 22)) (.one (h 18 24 (CC 185 21 23)) (.one (o 25 (O 18 24)) (.one (a 2 25) .done)))))) (x [2])))),[]⟩
def mN:pa:=⟨25,[.inl 2],(q (r [0] [o 2 (AB false)]) (q (q (r [0,9] [m 5 0,o 6 (N 5),o 7 (F 0 6),o 8 (CS 185 7 #[34,44,34,98,111,100,121,34,58]),o 9 (U 8)]) (w 9 (q (r [2] [o 2 (AB false)]) (x [2])) z)) (q (r [0,3,4] [m 11 0,o 12 (N 11),o 13 (F 0 12),o 14 (F 0 13),o 15 (L 1 14),o 16 (CS 84 15 #[125]),m 10 16,o 17 (E 10 0),o 18 (E 10 1),a 3 17,a 4 18]) (q (r [4] [m 19 0,m 20 3,o 21 (N 19),o 22 (F 1 21),o 23 (F 2 22),n (S 1 23 20)]) (q (r [2] [m 24 4,a 2 24]) (x [2])))))),[]⟩
def wF:ka:=(q (q (r [0,4,5,18] [m 12 4,o 13 (N 12),o 14 (F 1 13),o 15 (L 1 14),m 16 0,o 17 (K 16),o 18 (B .lss 15 17)]) (w 18 z (.exit 0 [5]))) (.block 1 (q (r [0,4,5,6] [m 19 4,o 20 (C 117 19),a 6 20]) (q (q (r [0,4,5,6,23] [m 21 6,o 22 (.call 96 [s #[32,9,13,10],.t 21]),o 23 (BI .geq 22 0)]) (w 23 (q (r [0,4,5] [m 24 4,o 25 (N 24),o 26 (F 1 25),o 27 (L 1 26),o 28 (BI .add 27 1),o 29 (N 24),o 30 (F 1 29),n (S 1 30 28)]) (.exit 1 [0,4,5])) z)) (q (r [0,4,5,7,8] [m 32 4,m 33 6,o 34 (CC 118 32 33),o 35 (.callv (.t 34) []),m 31 35,o 36 (E 31 0),o 37 (E 31 1),o 7 (.alloc 203 [.flat (.int .u8 0),Z,J,J]),n (S 4 7 36),a 8 37]) (q (q (r [0,4,5,7,39] [m 38 8,o 39 (U 38)]) (w 39 (q (r [2,3] [o 2 (.asg (.c V)),o 3 (AI 7)]) (x [2,3])) z)) (r [0,4,5] [o 40 (.mvA 5),o 41 (LT 4 7),o 42 (.mksl false 1 4 [.flat (.int .u8 0),Z,J,J] [⟨0,⟨4,.t 41⟩⟩]),o 43 (.append false 4 (.t 40) (.t 42)),a 5 43])))))))
def FB:ka:=wF
def iH:=@Za FB wF rfl
def QK:pa:=⟨45,[.inl 2,.inl 3],(q (r [0] [o 2 (.asg (.c V)),o 3 (AI 0)]) (q (r [0,4] [m 9 0,o 10 (.build [Z,J] [⟨0,⟨1,.t 9⟩⟩]),o 11 (.box 201 2 (.t 10)),a 4 11]) (q (r [0,4,5] [o 5 (.asg (.c V))]) (q (k 0 [0,4,5] FB) (q (r [2,3] [m 44 5,a 2 44,o 3 (AI 0)]) (x [2,3])))))),[]⟩
def PK:pa:=⟨34,[.inr ⟨2,⟨true,4⟩⟩,.inl 3],(q (r [0,2] [o 2 (.alloc 291 [.flat (.int .u8 0),Z,V,V]),o 3 (AI 0)]) (q (r [2,4,5] [m 10 0,o 11 (C 58 10),m 9 11,o 12 (E 9 0),o 13 (E 9 1),a 4 12,a 5 13]) (q (q (r [2,4,5,15] [m 14 5,o 15 (BI .neq 14 0)]) (w 15 (q (r [2,3] [o 16 (.build [.flat (.int .u8 0),Z,V,V] []),m 17 5,n (S 4 2 16),a 3 17]) (x [2,3])) z)) (q (q (r [2,4,6] [m 18 4,o 19 (C 282 18),a 6 19]) (.block 0 (q (r [2,4,6,20] [m 21 6,o 22 (BI .eql 21 0),a 20 22]) (w 20 (q (r [2,3] [o 23 (.build [.flat (.int .u8 0),Z,V,V] []),n (S 4 2 23),o 3 (AI 7)]) (x [2,3])) (q (r [2,4,24] [m 25 6,o 26 (BI .gtr 25 32),a 24 26]) (w 24 (q (r [2,3] [o 27 (.build [.flat (.int .u8 0),Z,V,V] []),n (S 4 2 27),o 3 (AI 8)]) (x [2,3])) z)))))) (q (r [2,7] [m 29 4,o 30 (C 283 29),m 28 30,o 31 (E 28 0),o 32 (E 28 1),o 7 (.alloc 291 [.flat (.int .u8 0),Z,V,V]),n (S 4 7 31),a 8 32]) (q (r [2,3] [o 33 (LT 4 7),n (S 4 2 33),o 3 (AI 0)]) (x [2,3]))))))),[]⟩
def xF:ka:=(q (q (r [0,2,4,5,39] [m 26 0,m 27 5,o 28 (Y 4 26 27),o 29 (F 0 28),o 30 (L 1 29),o 31 (BU .neq 30 93),m 32 31,g 32 33 (M 0),g 32 34 (M 5),g 32 35 (Y 4 33 34),g 32 36 (F 0 35),g 32 37 (L 1 36),g 32 38 (BU .neq 37 125),o 39 (P 32 38)]) (w 39 z (.exit 0 [2,4,5]))) (.block 1 (q (q (r [0,2,4,5,45] [m 40 0,m 41 5,o 42 (Y 4 40 41),o 43 (F 0 42),o 44 (L 1 43),o 45 (BU .eql 44 44)]) (w 45 (r [0,2,4,5] [m 46 5,o 47 (BI .add 46 1),a 5 47]) z)) (q (q (r [0,2,4,5,50] [o 48 (F 0 4),o 49 (L 1 48),o 50 (BU .eql 49 123)]) (w 50 (q (.Ab [0,2,4,5] [o 51 (F 2 4),o 52 (.loadA (.t 51)),m 53 0,m 54 5,o 55 (Y 4 53 54),o 56 (F 1 55),o 57 (L 1 56),o 58 (.mksl false 1 1 [Z] [⟨0,⟨1,.t 57⟩⟩])] [o 59 (.append false 1 (.t 52) (.t 58)),o 60 (F 2 4),n (S 1 60 59)]) (r [0,2,4,5] [m 61 5,o 62 (BI .add 61 2),a 5 62])) z)) (q (r [0,2,4,5,6,7] [m 64 0,m 65 5,o 66 (.slice 4 (.t 64) (.some (.t 65)) .none),o 67 (C 283 66),m 63 67,o 68 (E 63 0),o 69 (E 63 1),o 6 (.alloc 291 [.flat (.int .u8 0),Z,V,V]),n (S 4 6 68),a 7 69]) (q (r [0,2,4,5,7] [o 70 (F 3 4),o 71 (.loadA (.t 70)),o 72 (LT 4 6),o 73 (.mksl false 1 4 [.flat (.int .u8 0),Z,V,V] [⟨0,⟨4,.t 72⟩⟩]),o 74 (.append false 4 (.t 71) (.t 73)),o 75 (F 3 4),n (S 1 75 74)]) (r [0,2,4,5] [m 76 5,m 77 7,o 78 (B .add 76 77),a 5 78])))))))
def qq:ka:=xF
def Cv:=@Za qq xF rfl
def SK:pa:=⟨82,[.inr ⟨2,⟨true,4⟩⟩,.inl 3],(q (r [0,2] [o 2 (.alloc 291 [.flat (.int .u8 0),Z,V,V]),o 3 (AI 0)]) (q (.Od [0,2,4] [m 8 0,o 9 (.Rk 4 (.t 8) (i 0)),o 10 (F 0 9),o 11 (L 1 10),m 12 0,o 13 (.Rk 4 (.t 12) (i 0)),o 14 (F 1 13),o 15 (L 1 14),o 16 (.build [.flat (.int .u8 0),Z,V,V] [⟨0,⟨1,.t 11⟩⟩,⟨1,⟨1,.t 15⟩⟩])] (.one (o 4 (.alloc 291 [.flat (.int .u8 0),Z,V,V])) (.one (n (S 4 4 16)) .done))) (q (q (r [0,2,4,24] [o 17 (F 0 4),o 18 (L 1 17),o 19 (BU .neq 18 91),m 20 19,g 20 21 (F 0 4),g 20 22 (L 1 21),g 20 23 (BU .neq 22 123),o 24 (P 20 23)]) (w 24 (q (r [2,3] [o 25 (LT 4 4),n (S 4 2 25),o 3 (AI 1)]) (x [2,3])) z)) (q (r [0,2,4,5] [o 5 (AI 1)]) (q (k 0 [0,2,4,5] qq) (q (r [2,3] [o 79 (LT 4 4),m 80 5,o 81 (BI .add 80 1),n (S 4 2 79),a 3 81]) (x [2,3]))))))),[]⟩
def YK:pa:=⟨22,[.inl 2],(q (r [0] [o 2 (AU 0)]) (q (q (.Ab [0,12] [m 3 0,o 4 (N 3),o 5 (F 1 4),o 6 (L 1 5),m 7 0,o 8 (N 7),o 9 (F 0 8),o 10 (L 1 9),o 11 (K 10)] [o 12 (B .geq 6 11)]) (w 12 (q (r [2] [o 2 (AU 0)]) (x [2])) z)) (q (.Ab [2] [m 13 0,o 14 (N 13),o 15 (F 0 14),o 16 (L 1 15),m 17 0,o 18 (N 17),o 19 (F 1 18),o 20 (L 1 19)] [o 21 (D 16 20),a 2 21]) (x [2])))),[]⟩
def WK:pa:=⟨27,[.inl 4],(q (r [0,1] [o 4 (.asg (.c (.flat .nilFunc)))]) (q (.block 0 (q (r [0,1,5] [m 6 1,o 7 (.call 96 [s #[123,125,91,93,58,44],.t 6]),o 8 (BI .geq 7 0),a 5 8]) (w 5 (q (r [4] [m 9 0,o 10 (.mkt 378 [.t 9]),a 4 10]) (x [4])) (q (r [0,1,11] [m 12 1,o 13 (BU .eql 12 34),a 11 13]) (w 11 (q (r [4] [m 14 0,o 15 (.mkt 380 [.t 14]),a 4 15]) (x [4])) (q (r [0,16] [m 17 1,o 18 (BU .geq 17 97),m 19 18,g 19 20 (M 1),g 19 21 (BU .leq 20 122),o 22 (P 19 21),a 16 22]) (w 16 (q (r [4] [m 23 0,o 24 (.mkt 382 [.t 23]),a 4 24]) (x [4])) z))))))) (q (r [4] [m 25 0,o 26 (.mkt 384 [.t 25]),a 4 26]) (x [4])))),[]⟩
def VK:pa:=⟨31,[.inr ⟨2,⟨true,4⟩⟩,.inl 3],(q (r [0,2] [o 2 (.alloc 203 [.flat (.int .u8 0),Z,J,J]),o 3 (AB false)]) (q (r [0,2] [m 4 0,o 5 (N 4),o 6 (F 1 5),o 7 (L 1 6),o 8 (BI .add 7 1),o 9 (N 4),o 10 (F 1 9),n (S 1 10 8)]) (q (.Ab [2,3] [m 11 0,o 12 (N 11),o 13 (F 0 12),o 14 (L 1 13),m 15 0,o 16 (N 15),o 17 (F 1 16),o 18 (L 1 17),o 19 (BI .sub 18 1),o 20 (D 14 19),m 21 0,o 22 (N 21),o 23 (F 1 22),o 24 (L 1 23),o 25 (BI .sub 24 1),m 26 0,o 27 (N 26),o 28 (F 1 27),o 29 (L 1 28)] [o 30 (.build [.flat (.int .u8 0),Z,J,J] [⟨0,⟨1,.t 20⟩⟩,⟨2,⟨1,.t 25⟩⟩,⟨3,⟨1,.t 29⟩⟩]),n (S 4 2 30),o 3 (AB true)]) (x [2,3])))),[]⟩
def zF:ka:=(q (q (.Ab [0,2,4,5,31] [m 22 0,o 23 (N 22),o 24 (F 1 23),o 25 (L 1 24),m 26 0,o 27 (N 26),o 28 (F 0 27),o 29 (L 1 28),o 30 (K 29)] [o 31 (B .lss 25 30)]) (w 31 z (.exit 0 [0,2,4,5]))) (.block 1 (q (.Ab [0,2,4,5,6] [m 32 0,o 33 (N 32),o 34 (F 0 33),o 35 (L 1 34),m 36 0,o 37 (N 36),o 38 (F 1 37),o 39 (L 1 38)] [o 40 (D 35 39),a 6 40]) (.block 2 (q (r [0,2,4,5,6,84] [m 85 6,o 86 (BU .eql 85 34),a 84 86]) (w 84 (.exit 0 [0,2,4,5]) (q (r [0,2,4,5,6,87] [m 88 6,o 89 (BU .eql 88 92),a 87 89]) (w 87 (q (r [0,2,4,5,7,8] [m 91 0,o 92 (C 250 91),m 90 92,o 93 (E 90 0),o 94 (E 90 1),a 7 93,a 8 94]) (q (q (r [0,2,4,5,7,96] [m 95 8,o 96 (U 95)]) (w 96 (q (r [2,3] [o 97 (.build [.flat (.int .u8 0),Z,J,J] []),n (S 4 2 97),o 3 (AB false)]) (x [2,3])) z)) (r [0,2,4,5] [m 98 7,o 99 (C 159 98),o 100 (CC 45 4 99)]))) (q (r [0,2,4,5,101] [m 102 6,o 103 (BU .lss 102 32),a 101 103]) (w 101 (q (r [2,3] [o 104 (.build [.flat (.int .u8 0),Z,J,J] []),n (S 4 2 104),o 3 (AB false)]) (x [2,3])) (q (.Ab [0,2,4,5,9,10] [m 42 0,o 43 (N 42),o 44 (F 0 43),o 45 (L 1 44),m 46 0,o 47 (N 46),o 48 (F 1 47),o 49 (L 1 48),o 50 (CC 225 45 49),m 41 50,o 51 (E 41 0),o 52 (E 41 1),m 9 51] [a 10 52]) (q (q (r [0,2,4,5,10,58] [m 53 9,o 54 (.bin .eql (.t 53) (.c (.flat (.int .i32 65533)))),m 55 54,g 55 56 (M 10),g 55 57 (BI .eql 56 1),o 58 (P 55 57)]) (w 58 (q (r [2,3] [o 59 (.build [.flat (.int .u8 0),Z,J,J] []),n (S 4 2 59),o 3 (AB false)]) (x [2,3])) z)) (q (.Ab [0,2,4,5,10] [m 60 0,o 61 (N 60),o 62 (F 0 61),o 63 (L 1 62),m 64 0,o 65 (N 64),o 66 (F 1 65),o 67 (L 1 66),m 68 0,o 69 (N 68),o 70 (F 1 69),o 71 (L 1 70),m 72 10,o 73 (B .add 71 72)] [o 74 (.sliceS (.t 63) (.some (.t 67)) (.some (.t 73))),o 75 (CC 45 4 74)]) (r [0,2,4,5] [m 76 0,o 77 (N 76),o 78 (F 1 77),o 79 (L 1 78),m 80 10,o 81 (B .add 79 80),o 82 (N 76),o 83 (F 1 82),n (S 1 83 81)]))))))))))))))
def HB:ka:=zF
def Pz:=@Za HB zF rfl
def ZK:pa:=⟨130,[.inr ⟨2,⟨true,4⟩⟩,.inl 3],(q (r [0,2] [o 2 (.alloc 203 [.flat (.int .u8 0),Z,J,J]),o 3 (AB false)]) (q (r [0,2,4] [o 4 (.alloc 101 [.flat (.pointer .none),V])]) (q (r [0,2,4,5] [m 11 0,o 12 (N 11),o 13 (F 1 12),o 14 (L 1 13),a 5 14]) (q (r [0,2,4,5] [m 15 0,o 16 (N 15),o 17 (F 1 16),o 18 (L 1 17),o 19 (BI .add 18 1),o 20 (N 15),o 21 (F 1 20),n (S 1 21 19)]) (q z (q (k 0 [0,2,4,5] HB) (q (q (.Ab [0,2,4,5,114] [m 105 0,o 106 (N 105),o 107 (F 1 106),o 108 (L 1 107),m 109 0,o 110 (N 109),o 111 (F 0 110),o 112 (L 1 111),o 113 (K 112)] [o 114 (B .eql 108 113)]) (w 114 (q (r [2,3] [o 115 (.build [.flat (.int .u8 0),Z,J,J] []),n (S 4 2 115),o 3 (AB false)]) (x [2,3])) z)) (q (r [0,2,4,5] [m 116 0,o 117 (N 116),o 118 (F 1 117),o 119 (L 1 118),o 120 (BI .add 119 1),o 121 (N 116),o 122 (F 1 121),n (S 1 122 120)]) (q (.Od [2,3] [m 124 5,m 125 0,o 126 (N 125),o 127 (F 1 126)] (.two (o 123 (C 46 4)) (.one (o 128 (L 1 127)) (.one (o 129 (.build [.flat (.int .u8 0),Z,J,J] [⟨0,⟨1,u 34⟩⟩,⟨1,⟨1,.t 123⟩⟩,⟨2,⟨1,.t 124⟩⟩,⟨3,⟨1,.t 128⟩⟩])) (.one (n (S 4 2 129)) (.one (o 3 (AB true)) .done)))) (.one (o 128 (L 1 127)) (.one (o 123 (C 46 4)) (.one (o 129 (.build [.flat (.int .u8 0),Z,J,J] [⟨0,⟨1,u 34⟩⟩,⟨1,⟨1,.t 123⟩⟩,⟨2,⟨1,.t 124⟩⟩,⟨3,⟨1,.t 128⟩⟩])) (.one (n (S 4 2 129)) (.one (o 3 (AB true)) .done))))))) (x [2,3])))))))))),[]⟩
def BF:ka:=(q (r [0,2,4,11,12,13] [o 13 (BI .lss 12 3)]) (q (w 13 z (.exit 0 [2])) (q (.block 1 (q (r [0,2,4,6,11,12] [o 14 (.Lm false 3 1 (.t 11) (.t 12)),a 6 14]) (q (r [0,2,4,6,11,12,22] [m 15 0,o 16 (N 15),o 17 (F 0 16),o 18 (L 1 17),m 19 4,o 20 (.sliceS (.t 18) (.some (.t 19)) .none),m 21 6,o 22 (CC 80 20 21)]) (w 22 (q (r [0,2,4,6] [m 23 0,o 24 (N 23),o 25 (F 1 24),o 26 (L 1 25),m 27 6,o 28 (K 27),o 29 (B .add 26 28),o 30 (N 23),o 31 (F 1 30),n (S 1 31 29)]) (q (r [2,3] [m 32 6,m 33 4,m 34 0,o 35 (N 34),o 36 (F 1 35),o 37 (L 1 36),o 38 (.build [.flat (.int .u8 0),Z,J,J] [⟨0,⟨1,u 97⟩⟩,⟨1,⟨1,.t 32⟩⟩,⟨2,⟨1,.t 33⟩⟩,⟨3,⟨1,.t 37⟩⟩]),n (S 4 2 38),o 3 (AB true)]) (x [2,3]))) z)))) (r [0,2,4,11,12] [o 39 (BI .add 12 1),m 12 39]))))
def RJ:ka:=BF
def jH:=@Za RJ BF rfl
def cL:pa:=⟨41,[.inr ⟨2,⟨true,4⟩⟩,.inl 3],(q (r [0,2] [o 2 (.alloc 203 [.flat (.int .u8 0),Z,J,J]),o 3 (AB false)]) (q (r [0,2,4] [m 7 0,o 8 (N 7),o 9 (F 1 8),o 10 (L 1 9),a 4 10]) (q (q (r [0,2,4,11,12] [o 11 (.build [Z,Z,Z] [⟨0,⟨1,s #[116,114,117,101]⟩⟩,⟨1,⟨1,s #[102,97,108,115,101]⟩⟩,⟨2,⟨1,s #[110,117,108,108]⟩⟩]),o 12 (.mv (i 0))]) (k 0 [0,2,4,11,12] RJ)) (q (r [2,3] [o 40 (.build [.flat (.int .u8 0),Z,J,J] []),n (S 4 2 40),o 3 (AB false)]) (x [2,3]))))),[]⟩
def XK:pa:=⟨65,[.inr ⟨2,⟨true,4⟩⟩,.inl 3],(q (r [0,2] [o 2 (.alloc 203 [.flat (.int .u8 0),Z,J,J]),o 3 (AB false)]) (q (r [0,2,4] [m 6 0,o 7 (N 6),o 8 (F 1 7),o 9 (L 1 8),a 4 9]) (q (r [0,2,4] [m 10 0,o 11 (CS 251 10 #[45])]) (q (q (r [0,2,4,19] [m 12 0,o 13 (CS 251 12 #[48]),o 14 (U 13),m 15 14,g 15 16 (M 0),g 15 17 (C 252 16),g 15 18 (BI .eql 17 0),o 19 (P 15 18)]) (w 19 (q (r [2,3] [o 20 (.build [.flat (.int .u8 0),Z,J,J] []),n (S 4 2 20),o 3 (AB false)]) (x [2,3])) z)) (q (r [0,2,4,5] [m 21 0,o 22 (N 21),o 23 (F 1 22),o 24 (L 1 23),a 5 24]) (q (q (r [0,2,4,5,31] [m 25 0,o 26 (CS 251 25 #[46]),m 27 26,g 27 28 (M 0),g 27 29 (C 252 28),g 27 30 (BI .gtr 29 0),o 31 (P 27 30)]) (w 31 (r [0,2,4,5] [m 32 0,o 33 (N 32),o 34 (F 1 33),o 35 (L 1 34),a 5 35]) z)) (q (r [0,2,4,5] [m 36 0,m 37 5,o 38 (N 36),o 39 (F 1 38),n (S 1 39 37)]) (q (q (r [0,2,4,5,41] [m 40 0,o 41 (CS 251 40 #[101,69])]) (w 41 (q (r [0,2,4,5] [m 42 0,o 43 (CS 251 42 #[43,45])]) (q (r [0,2,4,5,46] [m 44 0,o 45 (C 252 44),o 46 (BI .gtr 45 0)]) (w 46 (r [0,2,4,5] [m 47 0,o 48 (N 47),o 49 (F 1 48),o 50 (L 1 49),a 5 50]) z))) z)) (q (r [0,2,4,5] [m 51 0,m 52 5,o 53 (N 51),o 54 (F 1 53),n (S 1 54 52)]) (q (r [2,3] [m 55 0,o 56 (N 55),o 57 (F 0 56),o 58 (L 1 57),m 59 4,m 60 5,o 61 (.sliceS (.t 58) (.some (.t 59)) (.some (.t 60))),m 62 4,m 63 5,o 64 (.build [.flat (.int .u8 0),Z,J,J] [⟨0,⟨1,u 48⟩⟩,⟨1,⟨1,.t 61⟩⟩,⟨2,⟨1,.t 62⟩⟩,⟨3,⟨1,.t 63⟩⟩]),n (S 4 2 64),o 3 (AB true)]) (x [2,3]))))))))))),[]⟩
def UK:pa:=⟨85,[.inl 2,.inl 3],(q (r [0] [o 2 (.asg (.c (.flat (.int .i32 0)))),o 3 (AB false)]) (q (q (.Ab [0,18] [m 8 0,o 9 (N 8),o 10 (F 1 9),o 11 (L 1 10),o 12 (BI .add 11 1),m 13 0,o 14 (N 13),o 15 (F 0 14),o 16 (L 1 15),o 17 (K 16)] [o 18 (B .lss 12 17)]) (w 18 (q (.Ab [0,4] [m 19 0,o 20 (N 19),o 21 (F 0 20),o 22 (L 1 21),m 23 0,o 24 (N 23),o 25 (F 1 24),o 26 (L 1 25),o 27 (BI .add 26 1)] [o 28 (D 22 27),o 29 (.call 96 [s #[34,92,47,98,102,110,114,116],.t 28]),a 4 29]) (q (r [0,4,31] [m 30 4,o 31 (BI .geq 30 0)]) (w 31 (q (r [4] [m 32 0,o 33 (N 32),o 34 (F 1 33),o 35 (L 1 34),o 36 (BI .add 35 2),o 37 (N 32),o 38 (F 1 37),n (S 1 38 36)]) (q (r [2,3] [m 39 4,o 40 (.idx (s #[34,92,47,8,12,10,13,9]) (.t 39)),o 41 (.conv .i32 (.t 40)),a 2 41,o 3 (AB true)]) (x [2,3]))) z))) z)) (q (r [0,5,6] [m 43 0,o 44 (C 284 43),m 42 44,o 45 (E 42 0),o 46 (E 42 1),a 5 45,a 6 46]) (q (q (r [0,5,6,56] [m 47 6,o 48 (U 47),m 49 48,h 49 50 (M 5),h 49 51 (.bin .lss (.t 50) (.c (.flat (.int .i32 55296)))),o 52 (O 49 51),m 53 52,h 53 54 (M 5),h 53 55 (.bin .gtr (.t 54) (.c (.flat (.int .i32 57343)))),o 56 (O 53 55)]) (w 56 (q (r [2,3] [m 57 5,m 58 6,a 2 57,a 3 58]) (x [2,3])) z)) (q (r [5,6,7] [m 60 0,o 61 (C 284 60),m 59 61,o 62 (E 59 0),o 63 (E 59 1),a 7 62,a 6 63]) (q (q (r [5,7,77] [m 64 6,o 65 (U 64),m 66 65,h 66 67 (M 5),h 66 68 (.bin .gtr (.t 67) (.c (.flat (.int .i32 56319)))),o 69 (O 66 68),m 70 69,h 70 71 (M 7),h 70 72 (.bin .lss (.t 71) (.c (.flat (.int .i32 56320)))),o 73 (O 70 72),m 74 73,h 74 75 (M 7),h 74 76 (.bin .gtr (.t 75) (.c (.flat (.int .i32 57343)))),o 77 (O 74 76)]) (w 77 (q (r [2,3] [o 2 (.asg (.c (.flat (.int .i32 0)))),o 3 (AB false)]) (x [2,3])) z)) (q (r [2,3] [m 78 5,o 79 (.bin .sub (.t 78) (.c (.flat (.int .i32 55296)))),o 80 (.bin .shl (.t 79) (.c (.flat (.int .u64 10)))),o 81 (.bin .add (.c (.flat (.int .i32 65536))) (.t 80)),m 82 7,o 83 (.bin .sub (.t 82) (.c (.flat (.int .i32 56320)))),o 84 (B .add 81 83),a 2 84,o 3 (AB true)]) (x [2,3])))))))),[]⟩
def aL:pa:=⟨36,[.inl 4],(q (r [0,1] [o 4 (AB false)]) (q (q (.Ab [0,28] [m 5 0,o 6 (N 5),o 7 (F 1 6),o 8 (L 1 7),m 9 0,o 10 (N 9),o 11 (F 0 10),o 12 (L 1 11),o 13 (K 12),o 14 (B .geq 8 13),m 15 14,h 15 16 (M 1),h 15 17 (M 0),h 15 18 (N 17),h 15 19 (F 0 18),h 15 20 (L 1 19),h 15 21 (M 0),h 15 22 (N 21),h 15 23 (F 1 22),h 15 24 (L 1 23),h 15 25 (D 20 24)] [h 15 26 (CC 96 16 25),h 15 27 (BI .lss 26 0),o 28 (O 15 27)]) (w 28 (q (r [4] [o 4 (AB false)]) (x [4])) z)) (q (r [] [m 29 0,o 30 (N 29),o 31 (F 1 30),o 32 (L 1 31),o 33 (BI .add 32 1),o 34 (N 29),o 35 (F 1 34),n (S 1 35 33)]) (q (r [4] [o 4 (AB true)]) (x [4]))))),[]⟩
def yF:ka:=(q (q (r [0,3,16] [m 11 4,o 12 (BU .geq 11 48),m 13 12,g 13 14 (M 4),g 13 15 (BU .leq 14 57),o 16 (P 13 15)]) (w 16 z (.exit 0 [0,3]))) (q (.block 1 (r [0,3] [m 19 0,o 20 (N 19),o 21 (F 1 20),o 22 (L 1 21),o 23 (BI .add 22 1),o 24 (N 19),o 25 (F 1 24),n (S 1 25 23)])) (r [0,3,4] [m 17 0,o 18 (C 117 17),a 4 18])))
def GB:ka:=yF
def Oz:=@Za GB yF rfl
def TK:pa:=⟨32,[.inl 2],(q (r [0] [o 2 (AI 0)]) (q (r [0,3] [m 5 0,o 6 (N 5),o 7 (F 1 6),o 8 (L 1 7),a 3 8]) (q (q (r [0,3,4] [m 9 0,o 10 (C 117 9),a 4 10]) (k 0 [0,3,4] GB)) (q (r [2] [m 26 0,o 27 (N 26),o 28 (F 1 27),o 29 (L 1 28),m 30 3,o 31 (B .sub 29 30),a 2 31]) (x [2]))))),[]⟩
def AF:ka:=(q (r [0,4,31,32] [o 32 (BI .lss 31 4)]) (q (w 32 z (.exit 0 [0,4])) (q (.block 1 (q (r [0,4,5,31] [m 33 31,a 5 33]) (q (.Ab [0,4,6,31] [m 34 0,o 35 (N 34),o 36 (F 0 35),o 37 (L 1 36),m 38 0,o 39 (N 38),o 40 (F 1 39),o 41 (L 1 40),o 42 (BI .add 41 2),m 43 5,o 44 (B .add 42 43)] [o 45 (D 37 44),a 6 45]) (.block 2 (q (r [0,4,6,31,46] [m 47 6,o 48 (BU .geq 47 48),m 49 48,g 49 50 (M 6),g 49 51 (BU .leq 50 57),o 52 (P 49 51),a 46 52]) (w 46 (r [0,4,31] [m 53 4,o 54 (.bin .shl (.t 53) (.c (.flat (.int .u64 4)))),m 55 6,o 56 (BU .sub 55 48),o 57 (.conv .i32 (.t 56)),o 58 (B .or 54 57),a 4 58]) (q (r [0,4,6,31,59] [m 60 6,o 61 (BU .or 60 32),o 62 (BU .geq 61 97),m 63 62,g 63 64 (M 6),g 63 65 (BU .or 64 32),g 63 66 (BU .leq 65 102),o 67 (P 63 66),a 59 67]) (w 59 (r [0,4,31] [m 68 4,o 69 (.bin .shl (.t 68) (.c (.flat (.int .u64 4)))),m 70 6,o 71 (BU .or 70 32),o 72 (BU .sub 71 97),o 73 (BU .add 72 10),o 74 (.conv .i32 (.t 73)),o 75 (B .or 69 74),a 4 75]) (q (r [2,3] [o 2 (.asg (.c (.flat (.int .i32 0)))),o 3 (AB false)]) (x [2,3])))))))))) (r [0,4,31] [o 76 (BI .add 31 1),m 31 76]))))
def du:ka:=AF
def Qz:=@Za du AF rfl
def bL:pa:=⟨85,[.inl 2,.inl 3],(q (r [0] [o 2 (.asg (.c (.flat (.int .i32 0)))),o 3 (AB false)]) (q (q (.Ab [0,30] [m 7 0,o 8 (N 7),o 9 (F 0 8),o 10 (L 1 9),m 11 0,o 12 (N 11),o 13 (F 1 12),o 14 (L 1 13),o 15 (.sliceS (.t 10) (.some (.t 14)) .none),o 16 (CS 80 15 #[92,117]),o 17 (U 16),m 18 17,h 18 19 (M 0),h 18 20 (N 19),h 18 21 (F 0 20),h 18 22 (L 1 21),h 18 23 (K 22),h 18 24 (M 0),h 18 25 (N 24),h 18 26 (F 1 25),h 18 27 (L 1 26)] [h 18 28 (B .sub 23 27),h 18 29 (BI .lss 28 6),o 30 (O 18 29)]) (w 30 (q (r [2,3] [o 2 (.asg (.c (.flat (.int .i32 0)))),o 3 (AB false)]) (x [2,3])) z)) (q (r [0,4] [o 4 (.asg (.c (.flat (.int .i32 0))))]) (q (q (r [0,4,31] [o 31 (.mv (i 0))]) (k 0 [0,4,31] du)) (q (r [4] [m 77 0,o 78 (N 77),o 79 (F 1 78),o 80 (L 1 79),o 81 (BI .add 80 6),o 82 (N 77),o 83 (F 1 82),n (S 1 83 81)]) (q (r [2,3] [m 84 4,a 2 84,o 3 (AB true)]) (x [2,3]))))))),[]⟩
def hQ:ka:=(r [2,3,4,5] [a 5 8])
def RP:ka:=(.block 1 (q (q (r [2,3,4,5,10] [m 9 5,o 10 (.bin .lss (.t 9) (.c (.flat (.int .i32 0))))]) (w 10 (q (r [] [n (.store 1 (.t 2) (s #[])),n (.store 1 (.t 3) (i 7))]) (x [])) z)) (r [] [m 11 5,o 12 (C 159 11),o 13 (CC 45 4 12)])))
def eL:pa:=⟨15,[.inr ⟨2,⟨false,1⟩⟩,.inr ⟨3,⟨false,1⟩⟩],(q (r [0,2,3] [o 2 (.alloc 9 [Z]),o 3 (.alloc 24 [J])]) (q (r [0,2,3,4] [o 4 (.alloc 101 [.flat (.pointer .none),V])]) (q (q (r [2,3,4,7] [m 6 0,o 7 (C 193 6)]) (.block 0 (.range 120 0 [2,3,4] (.t 7)))) (q (r [2,3] [o 14 (C 46 4),n (S 1 2 14),n (.store 1 (.t 3) (i 0))]) (x [2,3]))))),[([8],hQ,RP)]⟩
def CF:ka:=(q (r [3,7,8,9,10] [o 10 (B .lss 9 8)]) (q (w 10 z (.exit 0 [3])) (q (.block 1 (q (r [3,5,7,8,9] [o 11 (Y 1 7 9),o 12 (L 1 11),a 5 12]) (q (r [3,5,7,8,9,14] [m 13 5,o 14 (C 248 13)]) (.block 2 (q (r [3,5,7,8,9,14,15] [o 16 (BI .eql 14 1),a 15 16]) (w 15 (q (r [3,5,7,8,9] [o 17 (.call 44 [.t 3,u 92])]) (r [3,7,8,9] [m 18 5,o 19 (C 249 18),o 20 (CC 44 3 19)])) (q (r [3,5,7,8,9,14,21] [o 22 (BI .eql 14 2),a 21 22]) (w 21 (r [3,7,8,9] [m 23 5,o 24 (.bin .shr (.t 23) (.c (.flat (.int .u64 8)))),o 25 (.conv .u8 (.t 24)),o 26 (C 234 25),o 27 (SB .add #[92,117] 26),m 28 5,o 29 (.conv .u8 (.t 28)),o 30 (C 234 29),o 31 (B .add 27 30),o 32 (CC 45 3 31)]) (q (r [3,5,7,8,9,33] [o 34 (BI .eql 14 0),a 33 34]) (w 33 (r [3,7,8,9] [m 35 5,o 36 (C 159 35),o 37 (CC 45 3 36)]) z)))))))))) (r [3,7,8,9] [o 38 (BI .add 9 1),m 9 38]))))
def JB:ka:=CF
def Rz:=@Za JB CF rfl
def fL:pa:=⟨40,[.inl 2],(q (r [0] [o 2 (AS #[])]) (q (r [0,3] [o 3 (.alloc 101 [.flat (.pointer .none),V])]) (q (q (r [3,7,8,9] [m 6 0,o 7 (C 231 6),o 8 (W 7),o 9 (.mv (i 0))]) (k 0 [3,7,8,9] JB)) (q (r [2] [o 39 (C 46 3),a 2 39]) (x [2]))))),[]⟩
def jL:pa:=⟨26,[.inl 2],(q (r [0] [o 2 (AI 0)]) (q (.block 0 (q (r [0,3] [m 4 0,o 5 (C 249 4),o 6 (BU .gtr 5 0),a 3 6]) (w 3 (q (r [2] [o 2 (AI 1)]) (x [2])) (q (q (r [0,7] [m 8 0,o 9 (.bin .lss (.t 8) (.c (.flat (.int .i32 32)))),a 7 9]) (w 7 z (q (r [0,7] [m 10 0,o 11 (.bin .eql (.t 10) (.c (.flat (.int .i32 38)))),a 7 11]) (w 7 z (q (r [0,7] [m 12 0,o 13 (.bin .eql (.t 12) (.c (.flat (.int .i32 60)))),a 7 13]) (w 7 z (q (r [0,7] [m 14 0,o 15 (.bin .eql (.t 14) (.c (.flat (.int .i32 62)))),a 7 15]) (w 7 z (q (r [0,7] [m 16 0,o 17 (.bin .geq (.t 16) (.c (.flat (.int .i32 127)))),m 18 17,g 18 19 (M 0),g 18 20 (.bin .lss (.t 19) (.c (.flat (.int .i32 160)))),o 21 (P 18 20),a 7 21]) (w 7 z (q (r [0,7] [m 22 0,o 23 (.bin .eql (.t 22) (.c (.flat (.int .i32 8232)))),a 7 23]) (w 7 z (r [7] [m 24 0,o 25 (.bin .eql (.t 24) (.c (.flat (.int .i32 8233)))),a 7 25]))))))))))))) (w 7 (q (r [2] [o 2 (AI 2)]) (x [2])) z))))) (q (r [2] [o 2 (AI 0)]) (x [2])))),[]⟩
def kL:pa:=⟨19,[.inl 2],(q (r [0] [o 2 (AU 0)]) (q (q (r [0,3] [m 3 0]) (.block 0 (q (q (r [0,3,4] [o 5 (.bin .eql (.t 3) (.c (.flat (.int .i32 34)))),a 4 5]) (w 4 z (r [0,3,4] [o 6 (.bin .eql (.t 3) (.c (.flat (.int .i32 92)))),a 4 6]))) (w 4 (q (r [2] [m 7 0,o 8 (.conv .u8 (.t 7)),a 2 8]) (x [2])) (q (r [3,9] [o 10 (.bin .eql (.t 3) (.c (.flat (.int .i32 8)))),a 9 10]) (w 9 (q (r [2] [o 2 (AU 98)]) (x [2])) (q (r [3,11] [o 12 (.bin .eql (.t 3) (.c (.flat (.int .i32 12)))),a 11 12]) (w 11 (q (r [2] [o 2 (AU 102)]) (x [2])) (q (r [3,13] [o 14 (.bin .eql (.t 3) (.c (.flat (.int .i32 10)))),a 13 14]) (w 13 (q (r [2] [o 2 (AU 110)]) (x [2])) (q (r [3,15] [o 16 (.bin .eql (.t 3) (.c (.flat (.int .i32 13)))),a 15 16]) (w 15 (q (r [2] [o 2 (AU 114)]) (x [2])) (q (r [17] [o 18 (.bin .eql (.t 3) (.c (.flat (.int .i32 9)))),a 17 18]) (w 17 (q (r [2] [o 2 (AU 116)]) (x [2])) z)))))))))))))) (q (r [2] [o 2 (AU 0)]) (x [2])))),[]⟩
def gL:pa:=⟨4,[.inl 2],(q (r [1] [o 1 (.box 9 1 (.t 0)),o 2 (.asg (.c (.flat .nilFunc)))]) (q (r [2] [o 3 (.clos 253 [.t 1]),a 2 3]) (x [2]))),[]⟩
def DF:ka:=(q (q (r [0,1,3,10] [m 7 3,o 8 (L 1 1),o 9 (K 8),o 10 (B .lss 7 9)]) (w 10 z (.exit 0 []))) (.block 1 (q (r [0,1,3,4,5,6] [o 12 (L 1 1),m 13 3,o 14 (CC 254 12 13),m 11 14,o 15 (E 11 0),o 16 (E 11 1),o 17 (E 11 2),a 4 15,a 5 16,a 6 17]) (q (q (r [0,1,3,4,5,19] [m 18 6,o 19 (U 18)]) (w 19 (q (r [] [m 20 0,o 21 (.callv (.t 20) [.c (.flat (.int .i32 (.negSucc 0)))])]) (x [])) z)) (q (q (r [0,1,3,5,25] [m 22 0,m 23 4,o 24 (.callv (.t 22) [.t 23]),o 25 (U 24)]) (w 25 (x []) z)) (r [0,1,3] [m 26 3,m 27 5,o 28 (B .add 26 27),a 3 28]))))))
def KB:ka:=DF
def LS:=@Za KB DF rfl
def iL:pa:=⟨29,[],(q (r [0,1,3] [o 3 (AI 0)]) (k 0 [0,1,3] KB)),[]⟩
def dL:pa:=⟨47,[.inl 4,.inl 5,.inl 6],(q (r [0,1] [o 4 (.asg (.c (.flat (.int .i32 0)))),o 5 (AI 0),o 6 (AB false)]) (q (q (r [0,1,14] [m 7 1,o 8 (BI .lss 7 0),m 9 8,h 9 10 (M 1),h 9 11 (M 0),h 9 12 (K 11),h 9 13 (B .geq 10 12),o 14 (O 9 13)]) (w 14 (q (r [4,5,6] [o 4 (.asg (.c (.flat (.int .i32 0)))),o 5 (AI 0),o 6 (AB false)]) (x [4,5,6])) z)) (q (q (r [0,1,18] [m 15 0,m 16 1,o 17 (D 15 16),o 18 (BU .eql 17 92)]) (w 18 (q (r [4,5,6] [m 19 0,m 20 1,o 21 (CC 285 19 20),o 22 (E 21 0),o 23 (E 21 1),o 24 (E 21 2),a 4 22,a 5 23,a 6 24]) (x [4,5,6])) z)) (q (r [4,5] [m 26 0,m 27 1,o 28 (CC 225 26 27),m 25 28,o 29 (E 25 0),o 30 (E 25 1),a 4 29,a 5 30]) (q (q (r [4,5,44] [m 31 4,o 32 (.bin .lss (.t 31) (.c (.flat (.int .i32 32)))),m 33 32,h 33 34 (M 4),h 33 35 (.bin .eql (.t 34) (.c (.flat (.int .i32 34)))),o 36 (O 33 35),m 37 36,h 37 38 (M 4),h 37 39 (.bin .eql (.t 38) (.c (.flat (.int .i32 65533)))),h 37 40 (M 39),g 40 41 (M 5),g 40 42 (BI .eql 41 1),h 37 43 (P 40 42),o 44 (O 37 43)]) (w 44 (q (r [4,5,6] [o 4 (.asg (.c (.flat (.int .i32 0)))),o 5 (AI 0),o 6 (AB false)]) (x [4,5,6])) z)) (q (r [4,5,6] [m 45 4,m 46 5,a 4 45,a 5 46,o 6 (AB true)]) (x [4,5,6]))))))),[]⟩
def lL:pa:=⟨38,[.inl 4,.inl 5],(q (r [0,1] [o 4 (.asg (.c (.flat (.int .i32 0)))),o 5 (AB false)]) (q (q (r [0,1,13] [m 10 0,m 11 1,o 12 (.call 85 [.t 10,s #[92,117],.t 11]),o 13 (U 12)]) (w 13 (q (r [4,5] [o 4 (.asg (.c (.flat (.int .i32 0)))),o 5 (AB false)]) (x [4,5])) z)) (q (r [0,1,6,7] [m 15 0,m 16 1,o 17 (BI .add 16 2),o 18 (CC 213 15 17),m 14 18,o 19 (E 14 0),o 20 (E 14 1),a 6 19,a 7 20]) (q (r [6,7,8,9] [m 22 0,m 23 1,o 24 (BI .add 23 4),o 25 (CC 213 22 24),m 21 25,o 26 (E 21 0),o 27 (E 21 1),a 8 26,a 9 27]) (q (r [4,5] [m 28 6,o 29 (.conv .i32 (.t 28)),o 30 (.bin .shl (.t 29) (.c (.flat (.int .u64 8)))),m 31 8,o 32 (.conv .i32 (.t 31)),o 33 (B .or 30 32),m 34 7,m 35 34,g 35 36 (M 9),o 37 (P 35 36),a 4 33,a 5 37]) (x [4,5])))))),[]⟩
def rM:pa:=⟨44,[.inl 4,.inl 5],(q (r [0,1] [o 4 (AU 0),o 5 (AB false)]) (q (q (r [0,1,18] [m 10 1,o 11 (BI .lss 10 0),m 12 11,h 12 13 (M 1),h 12 14 (M 0),h 12 15 (K 14),h 12 16 (BI .sub 15 2),h 12 17 (B .gtr 13 16),o 18 (O 12 17)]) (w 18 (q (r [4,5] [o 4 (AU 0),o 5 (AB false)]) (x [4,5])) z)) (q (r [0,1,6,7] [m 20 0,m 21 1,o 22 (D 20 21),o 23 (C 272 22),m 19 23,o 24 (E 19 0),o 25 (E 19 1),a 6 24,a 7 25]) (q (r [6,7,8,9] [m 27 0,m 28 1,o 29 (BI .add 28 1),o 30 (D 27 29),o 31 (C 272 30),m 26 31,o 32 (E 26 0),o 33 (E 26 1),a 8 32,a 9 33]) (q (q (r [6,8,39] [m 34 7,o 35 (U 34),m 36 35,h 36 37 (M 9),h 36 38 (U 37),o 39 (O 36 38)]) (w 39 (q (r [4,5] [o 4 (AU 0),o 5 (AB false)]) (x [4,5])) z)) (q (r [4,5] [m 40 6,o 41 (.bin .shl (.t 40) (.c (.flat (.int .u64 4)))),m 42 8,o 43 (B .or 41 42),a 4 43,o 5 (AB true)]) (x [4,5]))))))),[]⟩
def MX:pa:=⟨26,[.inl 2,.inl 3],(q (r [0] [o 2 (AU 0),o 3 (AB false)]) (q (.block 0 (q (r [0,4] [m 5 0,o 6 (BU .geq 5 48),m 7 6,g 7 8 (M 0),g 7 9 (BU .leq 8 57),o 10 (P 7 9),a 4 10]) (w 4 (q (r [2,3] [m 11 0,o 12 (BU .sub 11 48),a 2 12,o 3 (AB true)]) (x [2,3])) (q (r [0,13] [m 14 0,o 15 (BU .or 14 32),o 16 (BU .geq 15 97),m 17 16,g 17 18 (M 0),g 17 19 (BU .or 18 32),g 17 20 (BU .leq 19 102),o 21 (P 17 20),a 13 21]) (w 13 (q (r [2,3] [m 22 0,o 23 (BU .or 22 32),o 24 (BU .sub 23 97),o 25 (BU .add 24 10),a 2 25,o 3 (AB true)]) (x [2,3])) z))))) (q (r [2,3] [o 2 (AU 0),o 3 (AB false)]) (x [2,3])))),[]⟩
def LX:pa:=⟨11,[.inl 2],(q (r [0] [o 2 (AS #[])]) (q (.Ab [2] [m 3 0,o 4 (.bin .shr (.t 3) (.c (.flat (.int .u64 4)))),o 5 (.idx (s #[48,49,50,51,52,53,54,55,56,57,65,66,67,68,69,70]) (.t 4)),m 6 0,o 7 (BU .and 6 15),o 8 (.idx (s #[48,49,50,51,52,53,54,55,56,57,65,66,67,68,69,70]) (.t 7))] [o 9 (.mksl true 2 1 [.flat (.int .u8 0),.flat (.int .u8 0)] [⟨0,⟨1,.t 5⟩⟩,⟨1,⟨1,.t 8⟩⟩]),o 10 (.b2s (.t 9)),a 2 10]) (x [2]))),[]⟩
def mM:pa:=⟨25,[.inl 2,.inl 3],(q (r [1] [o 1 (.box 40 3 (.t 0)),o 2 (AS #[]),o 3 (AI 0)]) (q (r [1,4] [o 6 (LT 3 1),o 7 (C 32 6),a 4 7]) (q (q (r [1,4,9] [m 8 4,o 9 (BI .neq 8 0)]) (w 9 (q (r [2,3] [m 10 4,o 2 (AS #[]),a 3 10]) (x [2,3])) z)) (q (r [1,5] [o 5 (AS #[114,101,115,111,108,118,101,100])]) (q (q (r [1,5,12] [o 11 (F 0 1),o 12 (L 1 11)]) (w 12 (r [1,5] [o 5 (AS #[102,105,114,105,110,103])]) z)) (q (.Ab [2,3] [o 13 (F 1 1),o 14 (L 1 13),o 15 (C 33 14),o 16 (SB .add #[123,34,114,101,99,101,105,118,101,114,34,58,34] 15),o 17 (BS .add 16 #[34,44,34,115,116,97,116,117,115,34,58,34]),m 18 5,o 19 (B .add 17 18),o 20 (BS .add 19 #[34,44,34,98,111,100,121,34,58]),o 21 (F 2 1),o 22 (L 1 21)] [o 23 (B .add 20 22),o 24 (BS .add 23 #[125]),a 2 24,o 3 (AI 0)]) (x [2,3]))))))),[]⟩
def nM:pa:=⟨28,[.inl 2],(q (r [1] [o 1 (.box 40 3 (.t 0)),o 2 (AI 0)]) (q (r [1,3,4] [o 6 (F 2 1),o 7 (L 1 6),o 8 (C 61 7),m 5 8,o 9 (E 5 0),o 10 (E 5 1),o 3 (.alloc 140 [.flat (.int .u8 0),Z,V,V]),n (S 4 3 9),a 4 10]) (q (q (.Ab [3,4,20] [o 11 (F 1 1),o 12 (L 1 11),o 13 (C 34 12),o 14 (F 1 1),o 15 (L 1 14)] [o 16 (B .neq 13 15),m 17 16,h 17 18 (M 4),h 17 19 (BI .eql 18 7),o 20 (O 17 19)]) (w 20 (q (r [2] [o 2 (AI 7)]) (x [2])) z)) (q (q (r [27] [m 21 4,o 22 (BI .neq 21 0),m 23 22,h 23 24 (LT 4 3),h 23 25 (C 68 24),h 23 26 (BI .geq 25 32),o 27 (O 23 26)]) (w 27 (q (r [2] [o 2 (AI 8)]) (x [2])) z)) (q (r [2] [o 2 (AI 0)]) (x [2])))))),[]⟩
def OL:pa:=⟨32,[.inr ⟨2,⟨true,4⟩⟩,.inl 3],(q (r [0,2] [o 2 (.alloc 140 [.flat (.int .u8 0),Z,V,V]),o 3 (AI 0)]) (q (r [2,4,5] [m 9 0,o 10 (C 62 9),m 8 10,o 11 (E 8 0),o 12 (E 8 1),a 4 11,a 5 12]) (q (q (r [2,4,5,14] [m 13 5,o 14 (BI .neq 13 0)]) (w 14 (q (r [2,3] [o 15 (.build [.flat (.int .u8 0),Z,V,V] []),m 16 5,n (S 4 2 15),a 3 16]) (x [2,3])) z)) (q (r [2,4,6,7] [m 18 4,o 19 (CI 124 18 0),m 17 19,o 20 (E 17 0),o 21 (E 17 1),o 6 (.alloc 140 [.flat (.int .u8 0),Z,V,V]),n (S 4 6 20),a 7 21]) (q (q (r [2,6,25] [m 22 7,m 23 4,o 24 (W 23),o 25 (B .neq 22 24)]) (w 25 (q (r [2,3] [o 26 (.build [.flat (.int .u8 0),Z,V,V] []),n (S 4 2 26),o 3 (AI 7)]) (x [2,3])) z)) (q (q (r [2,6,29] [o 27 (LT 4 6),o 28 (C 68 27),o 29 (BI .gtr 28 32)]) (w 29 (q (r [2,3] [o 30 (.build [.flat (.int .u8 0),Z,V,V] []),n (S 4 2 30),o 3 (AI 8)]) (x [2,3])) z)) (q (r [2,3] [o 31 (LT 4 6),n (S 4 2 31),o 3 (AI 0)]) (x [2,3])))))))),[]⟩
def XF:ka:=(q (q (r [0,4,5,12] [m 9 5,m 10 0,o 11 (K 10),o 12 (B .lss 9 11)]) (w 12 z (.exit 0 [4]))) (.block 1 (q (q (r [0,4,5,16] [m 13 0,m 14 5,o 15 (D 13 14),o 16 (C 125 15)]) (w 16 (q (r [0,4,5] [m 17 5,o 18 (BI .add 17 1),a 5 18]) (.exit 1 [0,4,5])) z)) (q (r [0,4,6,7] [m 20 0,m 21 5,o 22 (CC 126 20 21),m 19 22,o 23 (E 19 0),o 24 (E 19 1),o 6 (.alloc 147 [.flat (.int .u8 0),Z,J,J]),n (S 4 6 23),a 7 24]) (q (q (r [0,4,6,26] [m 25 7,o 26 (U 25)]) (w 26 (q (r [2,3] [o 2 (.asg (.c V)),o 3 (AI 7)]) (x [2,3])) z)) (q (r [0,4,6] [o 27 (.mvA 4),o 28 (LT 4 6),o 29 (.mksl false 1 4 [.flat (.int .u8 0),Z,J,J] [⟨0,⟨4,.t 28⟩⟩]),o 30 (.append false 4 (.t 27) (.t 29)),a 4 30]) (r [0,4,5] [o 31 (F 3 6),o 32 (L 1 31),a 5 32])))))))
def dC:ka:=XF
def Tz:=@Za dC XF rfl
def PL:pa:=⟨34,[.inl 2,.inl 3],(q (r [0] [o 2 (.asg (.c V)),o 3 (AI 0)]) (q (r [0,4] [o 8 (.mksl false 0 4 [] []),a 4 8]) (q (q (r [0,4,5] [o 5 (AI 0)]) (k 0 [0,4,5] dC)) (q (r [2,3] [m 33 4,a 2 33,o 3 (AI 0)]) (x [2,3]))))),[]⟩
def WF:ka:=(q (q (r [1,3,4,9] [m 5 4,o 6 (F 3 1),o 7 (L 1 6),o 8 (W 7),o 9 (B .lss 5 8)]) (w 9 z (.exit 0 [3]))) (q (.block 1 (r [1,3,4] [m 12 3,o 13 (F 3 1),o 14 (L 1 13),m 15 4,o 16 (Y 4 14 15),o 17 (LT 4 16),o 18 (C 68 17),o 19 (.mm true (.t 12) (.t 18)),a 3 19])) (r [1,3,4] [m 10 4,o 11 (BI .add 10 1),a 4 11])))
def cC:ka:=WF
def SS:=@Za cC WF rfl
def NL:pa:=⟨22,[.inl 2],(q (r [1] [o 1 (.box 140 4 (.t 0)),o 2 (AI 0)]) (q (r [1,3] [o 3 (AI 0)]) (q (q (r [1,3,4] [o 4 (AI 0)]) (k 0 [1,3,4] cC)) (q (r [2] [m 20 3,o 21 (BI .add 20 1),a 2 21]) (x [2]))))),[]⟩
def bG:ka:=(.block 1 (q (r [0,1,4,6,7,8] [m 58 1,o 59 (BI .add 58 1),a 1 59]) (q (q (r [0,1,4,6,7,8,61] [m 60 6,o 61 (BU .eql 60 123)]) (w 61 (q (q (r [0,1,4,6,7,8,72] [m 62 0,m 63 1,o 64 (.call 200 [.t 62,.t 63,u 34]),o 65 (U 64),m 66 65,h 66 67 (M 0),h 66 68 (M 1),h 66 69 (BI .add 68 1),h 66 70 (.call 200 [.t 67,.t 69,u 58]),h 66 71 (U 70),o 72 (O 66 71)]) (w 72 (q (r [4,5] [o 73 (.build [.flat (.int .u8 0),Z,V,V] []),n (S 4 4 73),o 5 (.asg (.c (.flat (.int .i64 (.negSucc 0)))))]) (x [4,5])) z)) (q (.Ab [0,1,4,6,7,8] [o 74 (F 2 7),o 75 (.loadA (.t 74)),m 76 0,m 77 1,o 78 (Y 4 76 77),o 79 (F 1 78),o 80 (L 1 79),o 81 (.mksl false 1 1 [Z] [⟨0,⟨1,.t 80⟩⟩])] [o 82 (.append false 1 (.t 75) (.t 81)),o 83 (F 2 7),n (S 1 83 82)]) (r [0,1,4,6,7,8] [m 84 1,o 85 (BI .add 84 2),a 1 85]))) z)) (q (r [0,4,6,7,8,9,10] [m 87 0,m 88 1,o 89 (CC 124 87 88),m 86 89,o 90 (E 86 0),o 91 (E 86 1),o 9 (.alloc 140 [.flat (.int .u8 0),Z,V,V]),n (S 4 9 90),a 10 91]) (q (q (r [0,4,6,7,8,9,10,93] [m 92 10,o 93 (BI .lss 92 0)]) (w 93 (q (r [4,5] [o 94 (.build [.flat (.int .u8 0),Z,V,V] []),n (S 4 4 94),o 5 (.asg (.c (.flat (.int .i64 (.negSucc 0)))))]) (x [4,5])) z)) (q (r [0,4,6,7,8,10] [o 95 (F 3 7),o 96 (.loadA (.t 95)),o 97 (LT 4 9),o 98 (.mksl false 1 4 [.flat (.int .u8 0),Z,V,V] [⟨0,⟨4,.t 97⟩⟩]),o 99 (.append false 4 (.t 96) (.t 98)),o 100 (F 3 7),n (S 1 100 99)]) (q (r [0,1,4,6,7,8] [m 101 10,a 1 101]) (q (q (r [0,1,4,6,7,8,105] [m 102 0,m 103 1,m 104 8,o 105 (.call 200 [.t 102,.t 103,.t 104])]) (w 105 (q (r [4,5] [o 106 (LT 4 7),m 107 1,o 108 (BI .add 107 1),n (S 4 4 106),a 5 108]) (x [4,5])) z)) (q (r [0,1,4,6,7,8,112] [m 109 0,m 110 1,o 111 (.call 200 [.t 109,.t 110,u 44]),o 112 (U 111)]) (w 112 (q (r [4,5] [o 113 (.build [.flat (.int .u8 0),Z,V,V] []),n (S 4 4 113),o 5 (.asg (.c (.flat (.int .i64 (.negSucc 0)))))]) (x [4,5])) z))))))))))
def zx:ka:=bG
def Wm:=@Za zx bG rfl
def VL:pa:=⟨114,[.inr ⟨4,⟨true,4⟩⟩,.inl 5],(q (r [0,1,4] [o 4 (.alloc 140 [.flat (.int .u8 0),Z,V,V]),o 5 (AI 0)]) (q (q (r [0,1,4,14] [m 11 1,m 12 0,o 13 (W 12),o 14 (B .geq 11 13)]) (w 14 (q (r [4,5] [o 15 (.build [.flat (.int .u8 0),Z,V,V] []),n (S 4 4 15),o 5 (.asg (.c (.flat (.int .i64 (.negSucc 0)))))]) (x [4,5])) z)) (q (r [0,1,4,6] [m 16 0,m 17 1,o 18 (Y 4 16 17),o 19 (F 0 18),o 20 (L 1 19),a 6 20]) (q (r [0,1,4,6,7] [m 21 6,m 22 0,m 23 1,o 24 (Y 4 22 23),o 25 (F 1 24),o 26 (L 1 25),o 27 (.build [.flat (.int .u8 0),Z,V,V] [⟨0,⟨1,.t 21⟩⟩,⟨1,⟨1,.t 26⟩⟩]),o 7 (.alloc 140 [.flat (.int .u8 0),Z,V,V]),n (S 4 7 27)]) (q (q (r [0,1,4,6,7,37] [m 28 6,o 29 (BU .eql 28 34),m 30 29,h 30 31 (M 6),h 30 32 (BU .eql 31 48),o 33 (O 30 32),m 34 33,h 34 35 (M 6),h 34 36 (BU .eql 35 97),o 37 (O 34 36)]) (w 37 (q (r [4,5] [o 38 (LT 4 7),m 39 1,o 40 (BI .add 39 1),n (S 4 4 38),a 5 40]) (x [4,5])) z)) (q (q (r [0,1,4,6,7,46] [m 41 6,o 42 (BU .neq 41 91),m 43 42,g 43 44 (M 6),g 43 45 (BU .neq 44 123),o 46 (P 43 45)]) (w 46 (q (r [4,5] [o 47 (.build [.flat (.int .u8 0),Z,V,V] []),n (S 4 4 47),o 5 (.asg (.c (.flat (.int .i64 (.negSucc 0)))))]) (x [4,5])) z)) (q (r [0,1,4,6,7,8] [o 8 (AU 93)]) (q (q (r [0,1,4,6,7,8,49] [m 48 6,o 49 (BU .eql 48 123)]) (w 49 (r [0,1,4,6,7,8] [o 8 (AU 125)]) z)) (q (q (r [0,1,4,6,7,8,54] [m 50 0,m 51 1,o 52 (BI .add 51 1),m 53 8,o 54 (.call 200 [.t 50,.t 52,.t 53])]) (w 54 (q (r [4,5] [o 55 (LT 4 7),m 56 1,o 57 (BI .add 56 2),n (S 4 4 55),a 5 57]) (x [4,5])) z)) (k 0 [0,1,4,6,7,8] zx)))))))))),[]⟩
def JX:pa:=⟨17,[.inl 2],(q (r [0] [o 2 (AB false)]) (q (r [2] [m 3 0,o 4 (BU .eql 3 32),m 5 4,h 5 6 (M 0),h 5 7 (BU .eql 6 9),o 8 (O 5 7),m 9 8,h 9 10 (M 0),h 9 11 (BU .eql 10 10),o 12 (O 9 11),m 13 12,h 13 14 (M 0),h 13 15 (BU .eql 14 13),o 16 (O 13 15),a 2 16]) (x [2]))),[]⟩
def ZF:ka:=(q (q (r [0,1,4,9,10,58] [m 57 10,o 58 (BI .lss 57 3)]) (w 58 z (.exit 0 [0,1,4]))) (q (.block 1 (q (r [0,1,4,9,10,67] [m 61 0,m 62 9,m 63 10,o 64 (Y 1 62 63),o 65 (L 1 64),m 66 1,o 67 (.call 105 [.t 61,.t 65,.t 66])]) (w 67 (q (.Ab [4,5] [m 68 9,m 69 10,o 70 (Y 1 68 69),o 71 (L 1 70),m 72 1,m 73 1,m 74 9,m 75 10,o 76 (Y 1 74 75),o 77 (L 1 76),o 78 (K 77),o 79 (B .add 73 78)] [o 80 (.build [.flat (.int .u8 0),Z,J,J] [⟨0,⟨1,u 97⟩⟩,⟨1,⟨1,.t 71⟩⟩,⟨2,⟨1,.t 72⟩⟩,⟨3,⟨1,.t 79⟩⟩]),n (S 4 4 80),o 5 (AB true)]) (x [4,5])) z))) (r [0,1,4,9,10] [m 59 10,o 60 (BI .add 59 1),a 10 60])))
def UJ:ka:=ZF
def Dv:=@Za UJ ZF rfl
def TL:pa:=⟨94,[.inr ⟨4,⟨true,4⟩⟩,.inl 5],(q (r [0,1,4] [o 4 (.alloc 147 [.flat (.int .u8 0),Z,J,J]),o 5 (AB false)]) (q (r [0,1,4,6] [m 12 0,m 13 1,o 14 (D 12 13),a 6 14]) (q (q (r [0,1,4,6,36] [m 15 6,o 16 (BU .eql 15 123),m 17 16,h 17 18 (M 6),h 17 19 (BU .eql 18 125),o 20 (O 17 19),m 21 20,h 21 22 (M 6),h 21 23 (BU .eql 22 91),o 24 (O 21 23),m 25 24,h 25 26 (M 6),h 25 27 (BU .eql 26 93),o 28 (O 25 27),m 29 28,h 29 30 (M 6),h 29 31 (BU .eql 30 58),o 32 (O 29 31),m 33 32,h 33 34 (M 6),h 33 35 (BU .eql 34 44),o 36 (O 33 35)]) (w 36 (q (r [4,5] [m 37 6,m 38 1,m 39 1,o 40 (BI .add 39 1),o 41 (.build [.flat (.int .u8 0),Z,J,J] [⟨0,⟨1,.t 37⟩⟩,⟨2,⟨1,.t 38⟩⟩,⟨3,⟨1,.t 40⟩⟩]),n (S 4 4 41),o 5 (AB true)]) (x [4,5])) z)) (q (q (r [0,1,4,43] [m 42 6,o 43 (BU .eql 42 34)]) (w 43 (q (r [1,4,7,8] [m 45 0,m 46 1,o 47 (CC 201 45 46),m 44 47,o 48 (E 44 0),o 49 (E 44 1),a 7 48,a 8 49]) (q (r [4,5] [m 50 7,m 51 1,m 52 8,o 53 (.build [.flat (.int .u8 0),Z,J,J] [⟨0,⟨1,u 34⟩⟩,⟨1,⟨1,.t 50⟩⟩,⟨2,⟨1,.t 51⟩⟩,⟨3,⟨1,.t 52⟩⟩]),m 54 8,o 55 (BI .gtr 54 0),n (S 4 4 53),a 5 55]) (x [4,5]))) z)) (q (r [0,1,4,9] [o 56 (.mksl false 3 1 [Z,Z,Z] [⟨0,⟨1,s #[116,114,117,101]⟩⟩,⟨1,⟨1,s #[102,97,108,115,101]⟩⟩,⟨2,⟨1,s #[110,117,108,108]⟩⟩]),a 9 56]) (q (q (r [0,1,4,9,10] [o 10 (AI 0)]) (k 0 [0,1,4,9,10] UJ)) (q (r [0,1,4,11] [m 81 0,m 82 1,o 83 (CC 202 81 82),a 11 83]) (q (q (r [0,1,4,11,85] [m 84 11,o 85 (BI .lss 84 0)]) (w 85 (q (r [4,5] [o 86 (.build [.flat (.int .u8 0),Z,J,J] []),n (S 4 4 86),o 5 (AB false)]) (x [4,5])) z)) (q (r [4,5] [m 87 0,m 88 1,m 89 11,o 90 (.sliceS (.t 87) (.some (.t 88)) (.some (.t 89))),m 91 1,m 92 11,o 93 (.build [.flat (.int .u8 0),Z,J,J] [⟨0,⟨1,u 48⟩⟩,⟨1,⟨1,.t 90⟩⟩,⟨2,⟨1,.t 91⟩⟩,⟨3,⟨1,.t 92⟩⟩]),n (S 4 4 93),o 5 (AB true)]) (x [4,5])))))))))),[]⟩
def RL:pa:=⟨20,[.inl 6],(q (r [0,1,2] [o 6 (AB false)]) (q (r [6] [m 7 1,m 8 0,o 9 (W 8),o 10 (B .lss 7 9),m 11 10,g 11 12 (M 0),g 11 13 (M 1),g 11 14 (Y 4 12 13),g 11 15 (F 0 14),g 11 16 (L 1 15),g 11 17 (M 2),g 11 18 (B .eql 16 17),o 19 (P 11 18),a 6 19]) (x [6]))),[]⟩
def aG:ka:=(q (q (r [0,6,7,16] [m 13 7,m 14 0,o 15 (K 14),o 16 (B .lss 13 15)]) (w 16 z (.exit 0 []))) (.block 1 (q (q (r [0,6,7,20] [m 17 0,m 18 7,o 19 (D 17 18),o 20 (BU .eql 19 34)]) (w 20 (q (r [4,5] [m 21 6,m 22 7,o 23 (BI .add 22 1),a 4 21,a 5 23]) (x [4,5])) z)) (q (r [0,6,7,8,9,10] [m 25 0,m 26 7,o 27 (CC 260 25 26),m 24 27,o 28 (E 24 0),o 29 (E 24 1),o 30 (E 24 2),a 8 28,a 9 29,a 10 30]) (q (q (r [0,6,7,8,9,32] [m 31 10,o 32 (U 31)]) (w 32 (q (r [4,5] [o 4 (AS #[]),o 5 (.asg (.c (.flat (.int .i64 (.negSucc 0)))))]) (x [4,5])) z)) (q (r [0,6,7,9] [m 33 6,m 34 8,o 35 (C 72 34),o 36 (B .add 33 35),a 6 36]) (r [0,6,7] [m 37 7,m 38 9,o 39 (B .add 37 38),a 7 39])))))))
def fC:ka:=aG
def Vz:=@Za fC aG rfl
def UL:pa:=⟨40,[.inl 4,.inl 5],(q (r [0,1] [o 4 (AS #[]),o 5 (AI 0)]) (q (r [0,1,6] [o 6 (AS #[])]) (q (q (r [0,6,7] [m 11 1,o 12 (BI .add 11 1),a 7 12]) (k 0 [0,6,7] fC)) (q (r [4,5] [o 4 (AS #[]),o 5 (.asg (.c (.flat (.int .i64 (.negSucc 0)))))]) (x [4,5]))))),[]⟩
def SL:pa:=⟨69,[.inl 4],(q (r [0,1] [o 4 (AI 0)]) (q (q (r [0,1,9] [m 7 0,m 8 1,o 9 (.call 105 [.t 7,s #[45],.t 8])]) (w 9 (r [0,1] [m 10 1,o 11 (BI .add 10 1),a 1 11]) z)) (q (r [0,1,5] [m 12 0,m 13 1,o 14 (CC 261 12 13),a 5 14]) (q (q (r [0,1,5,17] [m 15 5,m 16 1,o 17 (B .eql 15 16)]) (w 17 (q (r [4] [o 4 (.asg (.c (.flat (.int .i64 (.negSucc 0)))))]) (x [4])) z)) (q (q (r [0,1,5,21] [m 18 0,m 19 1,o 20 (D 18 19),o 21 (BU .eql 20 48)]) (w 21 (r [0,5] [m 22 1,o 23 (BI .add 22 1),a 5 23]) z)) (q (q (r [0,5,35] [m 24 0,m 25 5,o 26 (.call 105 [.t 24,s #[46],.t 25]),m 27 26,g 27 28 (M 0),g 27 29 (M 5),g 27 30 (BI .add 29 1),g 27 31 (CC 261 28 30),g 27 32 (M 5),g 27 33 (BI .add 32 1),g 27 34 (B .gtr 31 33),o 35 (P 27 34)]) (w 35 (r [0,5] [m 36 0,m 37 5,o 38 (BI .add 37 1),o 39 (CC 261 36 38),a 5 39]) z)) (q (q (r [0,5,47] [m 40 0,m 41 5,o 42 (.call 105 [.t 40,s #[101],.t 41]),m 43 42,h 43 44 (M 0),h 43 45 (M 5),h 43 46 (.call 105 [.t 44,s #[69],.t 45]),o 47 (O 43 46)]) (w 47 (q (r [0,5,6] [m 48 5,o 49 (BI .add 48 1),a 6 49]) (q (q (r [0,5,6,57] [m 50 0,m 51 6,o 52 (.call 105 [.t 50,s #[43],.t 51]),m 53 52,h 53 54 (M 0),h 53 55 (M 6),h 53 56 (.call 105 [.t 54,s #[45],.t 55]),o 57 (O 53 56)]) (w 57 (r [0,5,6] [m 58 6,o 59 (BI .add 58 1),a 6 59]) z)) (q (r [0,5,6,64] [m 60 0,m 61 6,o 62 (CC 261 60 61),m 63 6,o 64 (B .gtr 62 63)]) (w 64 (r [5] [m 65 0,m 66 6,o 67 (CC 261 65 66),a 5 67]) z)))) z)) (q (r [4] [m 68 5,a 4 68]) (x [4]))))))))),[]⟩
def YF:ka:=(q (q (r [0,1,20] [m 5 1,m 6 0,o 7 (K 6),o 8 (B .lss 5 7),m 9 8,g 9 10 (M 0),g 9 11 (M 1),g 9 12 (D 10 11),g 9 13 (BU .geq 12 48),o 14 (P 9 13),m 15 14,g 15 16 (M 0),g 15 17 (M 1),g 15 18 (D 16 17),g 15 19 (BU .leq 18 57),o 20 (P 15 19)]) (w 20 z (.exit 0 [1]))) (.block 1 (r [0,1] [m 21 1,o 22 (BI .add 21 1),a 1 22])))
def eC:ka:=YF
def Uz:=@Za eC YF rfl
def QL:pa:=⟨24,[.inl 4],(q (r [0,1] [o 4 (AI 0)]) (q (k 0 [0,1] eC) (q (r [4] [m 23 1,a 4 23]) (x [4])))),[]⟩
def PF:ka:=(q (q (r [3,4,5,11] [m 8 5,m 9 3,o 10 (W 9),o 11 (B .lss 8 10)]) (w 11 z (.exit 0 [4]))) (q (.block 1 (r [3,4,5] [m 14 4,m 15 3,m 16 5,o 17 (Y 1 15 16),o 18 (L 1 17),o 19 (C 70 18),o 20 (B .add 14 19),a 4 20])) (r [3,4,5] [m 12 5,o 13 (BI .add 12 1),a 5 13])))
def VB:ka:=PF
def OS:=@Za VB PF rfl
def EL:pa:=⟨22,[.inl 2],(q (r [0] [o 2 (AS #[])]) (q (r [3] [m 6 0,o 7 (C 69 6),a 3 7]) (q (r [3,4] [o 4 (AS #[])]) (q (q (r [3,4,5] [o 5 (AI 0)]) (k 0 [3,4,5] VB)) (q (r [2] [m 21 4,a 2 21]) (x [2])))))),[]⟩
def QF:ka:=(q (q (r [0,3,4,5,13] [m 10 5,m 11 3,o 12 (W 11),o 13 (B .lss 10 12)]) (w 13 z (.exit 0 [0]))) (q (.block 1 (q (r [0,3,4,5,21] [m 16 3,m 17 5,o 18 (Y 1 16 17),o 19 (L 1 18),m 20 0,o 21 (B .eql 19 20)]) (w 21 (q (r [2] [m 22 4,m 23 5,m 24 5,o 25 (BI .add 24 1),o 26 (.sliceS (.t 22) (.some (.t 23)) (.some (.t 25))),o 27 (SB .add #[92] 26),a 2 27]) (x [2])) z))) (r [0,3,4,5] [m 14 5,o 15 (BI .add 14 1),a 5 15])))
def WB:ka:=QF
def C_:=@Za WB QF rfl
def HL:pa:=⟨63,[.inl 2],(q (r [0] [o 2 (AS #[])]) (q (r [0,3,4] [o 7 (.call 132 []),m 6 7,o 8 (E 6 0),o 9 (E 6 1),a 3 8,a 4 9]) (q (q (r [0,3,4,5] [o 5 (AI 0)]) (k 0 [0,3,4,5] WB)) (q (q (r [0,57] [m 28 0,o 29 (BI .lss 28 32),m 30 29,h 30 31 (M 0),h 30 32 (BI .eql 31 38),o 33 (O 30 32),m 34 33,h 34 35 (M 0),h 34 36 (BI .eql 35 60),o 37 (O 34 36),m 38 37,h 38 39 (M 0),h 38 40 (BI .eql 39 62),o 41 (O 38 40),m 42 41,h 42 43 (M 0),h 42 44 (BI .geq 43 127),h 42 45 (M 44),g 45 46 (M 0),g 45 47 (BI .leq 46 159),h 42 48 (P 45 47),o 49 (O 42 48),m 50 49,h 50 51 (M 0),h 50 52 (BI .eql 51 8232),o 53 (O 50 52),m 54 53,h 54 55 (M 0),h 54 56 (BI .eql 55 8233),o 57 (O 54 56)]) (w 57 (q (r [2] [m 58 0,o 59 (C 133 58),o 60 (SB .add #[92,117] 59),a 2 60]) (x [2])) z)) (q (r [2] [m 61 0,o 62 (C 72 61),a 2 62]) (x [2])))))),[]⟩
def IX:pa:=⟨3,[.inl 0,.inl 1],(q (r [] [o 0 (.asg (.c V)),o 1 (AS #[])]) (q (r [0,1] [o 2 (.mksl false 7 1 [J,J,J,J,J,J,J] [⟨0,⟨1,i 34⟩⟩,⟨1,⟨1,i 92⟩⟩,⟨2,⟨1,i 8⟩⟩,⟨3,⟨1,i 12⟩⟩,⟨4,⟨1,i 10⟩⟩,⟨5,⟨1,i 13⟩⟩,⟨6,⟨1,i 9⟩⟩]),a 0 2,o 1 (AS #[34,92,98,102,110,114,116])]) (x [0,1]))),[]⟩
def FL:pa:=⟨12,[.inl 2],(q (r [0] [o 2 (AS #[])]) (q (r [2] [m 3 0,o 4 (BI .quo 3 256),o 5 (.conv .u8 (.t 4)),o 6 (C 204 5),m 7 0,o 8 (BI .rem 7 256),o 9 (.conv .u8 (.t 8)),o 10 (C 204 9),o 11 (B .add 6 10),a 2 11]) (x [2]))),[]⟩
def OF:ka:=(q (q (r [0,1,9,10,11,55] [m 52 11,m 53 9,o 54 (W 53),o 55 (B .lss 52 54)]) (w 55 z (.exit 0 [0,1]))) (q (.block 1 (q (r [0,1,9,10,11,66] [m 58 0,m 59 10,m 60 11,m 61 11,o 62 (BI .add 61 1),o 63 (.sliceS (.t 59) (.some (.t 60)) (.some (.t 62))),m 64 1,o 65 (BI .add 64 1),o 66 (.call 105 [.t 58,.t 63,.t 65])]) (w 66 (q (r [4,5,6] [m 67 9,m 68 11,o 69 (Y 1 67 68),o 70 (L 1 69),a 4 70,o 5 (AI 2),o 6 (AB true)]) (x [4,5,6])) z))) (r [0,1,9,10,11] [m 56 11,o 57 (BI .add 56 1),a 11 57])))
def UB:ka:=OF
def mH:=@Za UB OF rfl
def DL:pa:=⟨109,[.inl 4,.inl 5,.inl 6],(q (r [0,1] [o 4 (AI 0),o 5 (AI 0),o 6 (AB false)]) (q (q (r [0,1,21] [m 14 1,o 15 (BI .lss 14 0),m 16 15,h 16 17 (M 1),h 16 18 (M 0),h 16 19 (K 18),h 16 20 (B .geq 17 19),o 21 (O 16 20)]) (w 21 (q (r [4,5,6] [o 4 (AI 0),o 5 (AI 0),o 6 (AB false)]) (x [4,5,6])) z)) (q (q (r [0,1,25] [m 22 0,m 23 1,o 24 (D 22 23),o 25 (BU .neq 24 92)]) (w 25 (q (r [7,8] [m 27 0,m 28 1,o 29 (CC 71 27 28),m 26 29,o 30 (E 26 0),o 31 (E 26 1),a 7 30,a 8 31]) (q (q (r [7,8,45] [m 32 7,o 33 (BI .lss 32 32),m 34 33,h 34 35 (M 7),h 34 36 (BI .eql 35 34),o 37 (O 34 36),m 38 37,h 38 39 (M 7),h 38 40 (BI .eql 39 65533),h 38 41 (M 40),g 41 42 (M 8),g 41 43 (BI .eql 42 1),h 38 44 (P 41 43),o 45 (O 38 44)]) (w 45 (q (r [4,5,6] [o 4 (AI 0),o 5 (AI 0),o 6 (AB false)]) (x [4,5,6])) z)) (q (r [4,5,6] [m 46 7,m 47 8,a 4 46,a 5 47,o 6 (AB true)]) (x [4,5,6])))) z)) (q (r [0,1,9,10] [o 49 (.call 132 []),m 48 49,o 50 (E 48 0),o 51 (E 48 1),a 9 50,a 10 51]) (q (q (r [0,1,9,10,11] [o 11 (AI 0)]) (k 0 [0,1,9,10,11] UB)) (q (q (r [0,1,74] [m 71 0,m 72 1,o 73 (BI .add 72 1),o 74 (.call 105 [.t 71,s #[47],.t 73])]) (w 74 (q (r [4,5,6] [o 4 (AI 47),o 5 (AI 2),o 6 (AB true)]) (x [4,5,6])) z)) (q (r [0,1,12] [m 75 0,m 76 1,o 77 (CC 287 75 76),a 12 77]) (q (q (r [0,1,12,83] [m 78 12,o 79 (BI .geq 78 55296),m 80 79,g 80 81 (M 12),g 80 82 (BI .leq 81 56319),o 83 (P 80 82)]) (w 83 (q (r [12,13] [m 84 0,m 85 1,o 86 (BI .add 85 6),o 87 (CC 287 84 86),a 13 87]) (q (r [12,13,93] [m 88 13,o 89 (BI .geq 88 56320),m 90 89,g 90 91 (M 13),g 90 92 (BI .leq 91 57343),o 93 (P 90 92)]) (w 93 (q (r [4,5,6] [m 94 12,o 95 (BI .sub 94 55296),o 96 (IB .mul 1024 95),o 97 (IB .add 65536 96),m 98 13,o 99 (B .add 97 98),o 100 (BI .sub 99 56320),a 4 100,o 5 (AI 12),o 6 (AB true)]) (x [4,5,6])) z))) z)) (q (q (r [12,107] [m 101 12,o 102 (BI .lss 101 0),m 103 102,h 103 104 (M 12),h 103 105 (C 134 104),h 103 106 (U 105),o 107 (O 103 106)]) (w 107 (q (r [4,5,6] [o 4 (AI 0),o 5 (AI 0),o 6 (AB false)]) (x [4,5,6])) z)) (q (r [4,5,6] [m 108 12,a 4 108,o 5 (AI 6),o 6 (AB true)]) (x [4,5,6]))))))))))),[]⟩
def GL:pa:=⟨39,[.inl 4],(q (r [0,1] [o 4 (AI 0)]) (q (q (r [0,1,12] [m 9 0,m 10 1,o 11 (.call 105 [.t 9,s #[92,117],.t 10]),o 12 (U 11)]) (w 12 (q (r [4] [o 4 (.asg (.c (.flat (.int .i64 (.negSucc 0)))))]) (x [4])) z)) (q (r [0,1,5,6] [m 14 0,m 15 1,o 16 (BI .add 15 2),o 17 (CC 237 14 16),m 13 17,o 18 (E 13 0),o 19 (E 13 1),a 5 18,a 6 19]) (q (r [5,6,7,8] [m 21 0,m 22 1,o 23 (BI .add 22 4),o 24 (CC 237 21 23),m 20 24,o 25 (E 20 0),o 26 (E 20 1),a 7 25,a 8 26]) (q (q (r [5,7,32] [m 27 6,o 28 (U 27),m 29 28,h 29 30 (M 8),h 29 31 (U 30),o 32 (O 29 31)]) (w 32 (q (r [4] [o 4 (.asg (.c (.flat (.int .i64 (.negSucc 0)))))]) (x [4])) z)) (q (r [4] [m 33 5,o 34 (.conv .i64 (.t 33)),o 35 (IB .mul 256 34),m 36 7,o 37 (.conv .i64 (.t 36)),o 38 (B .add 35 37),a 4 38]) (x [4]))))))),[]⟩
def FX:pa:=⟨19,[.inl 2],(q (r [0] [o 2 (AS #[])]) (q (r [0,3] [o 3 (AS #[48,49,50,51,52,53,54,55,56,57,65,66,67,68,69,70])]) (q (.Ab [2] [m 4 3,m 5 0,o 6 (BU .quo 5 16),m 7 0,o 8 (BU .quo 7 16),o 9 (BU .add 8 1),o 10 (.sliceS (.t 4) (.some (.t 6)) (.some (.t 9))),m 11 3,m 12 0,o 13 (BU .rem 12 16),m 14 0,o 15 (BU .rem 14 16),o 16 (BU .add 15 1),o 17 (.sliceS (.t 11) (.some (.t 13)) (.some (.t 16)))] [o 18 (B .add 10 17),a 2 18]) (x [2])))),[]⟩
def sL:pa:=⟨37,[.inl 4,.inl 5],(q (r [0,1] [o 4 (AU 0),o 5 (AB false)]) (q (q (r [0,1,16] [m 8 1,o 9 (BI .lss 8 0),m 10 9,h 10 11 (M 1),h 10 12 (M 0),h 10 13 (K 12),h 10 14 (BI .sub 13 2),h 10 15 (B .gtr 11 14),o 16 (O 10 15)]) (w 16 (q (r [4,5] [o 4 (AU 0),o 5 (AB false)]) (x [4,5])) z)) (q (.Ab [6,7] [m 17 0,m 18 1,o 19 (D 17 18),o 20 (C 277 19),m 21 0,m 22 1,o 23 (BI .add 22 1),o 24 (D 21 23)] [o 25 (C 277 24),a 6 20,a 7 25]) (q (q (r [6,7,31] [m 26 6,o 27 (BI .gtr 26 15),m 28 27,h 28 29 (M 7),h 28 30 (BI .gtr 29 15),o 31 (O 28 30)]) (w 31 (q (r [4,5] [o 4 (AU 0),o 5 (AB false)]) (x [4,5])) z)) (q (r [4,5] [m 32 6,o 33 (IB .mul 16 32),m 34 7,o 35 (B .add 33 34),o 36 (.conv .u8 (.t 35)),a 4 36,o 5 (AB true)]) (x [4,5])))))),[]⟩
def HX:pa:=⟨32,[.inl 2],(q (r [0] [o 2 (AI 0)]) (q (q (r [0,8] [m 3 0,o 4 (BU .geq 3 48),m 5 4,g 5 6 (M 0),g 5 7 (BU .leq 6 57),o 8 (P 5 7)]) (w 8 (q (r [2] [m 9 0,o 10 (.conv .i64 (.t 9)),o 11 (BI .sub 10 48),a 2 11]) (x [2])) z)) (q (q (r [0,17] [m 12 0,o 13 (BU .geq 12 65),m 14 13,g 14 15 (M 0),g 14 16 (BU .leq 15 70),o 17 (P 14 16)]) (w 17 (q (r [2] [m 18 0,o 19 (.conv .i64 (.t 18)),o 20 (BI .sub 19 65),o 21 (BI .add 20 10),a 2 21]) (x [2])) z)) (q (q (r [0,27] [m 22 0,o 23 (BU .geq 22 97),m 24 23,g 24 25 (M 0),g 24 26 (BU .leq 25 102),o 27 (P 24 26)]) (w 27 (q (r [2] [m 28 0,o 29 (.conv .i64 (.t 28)),o 30 (BI .sub 29 97),o 31 (BI .add 30 10),a 2 31]) (x [2])) z)) (q (r [2] [o 2 (AI 16)]) (x [2])))))),[]⟩
def gR:ka:=(q (q (r [0,1,5,14] [m 11 5,m 12 0,o 13 (W 12),o 14 (B .lss 11 13)]) (w 14 z (.exit 0 []))) (q (.block 1 (q (.Ab [0,1,5,25] [m 17 0,m 18 5,o 19 (Y 1 17 18),o 20 (L 1 19),m 21 1,m 22 5,o 23 (Y 1 21 22),o 24 (L 1 23)] [o 25 (B .neq 20 24)]) (w 25 (q (r [4] [o 4 (AB false)]) (x [4])) z))) (r [0,1,5] [m 15 5,o 16 (BI .add 15 1),a 5 16])))
def NW:ka:=gR
def GX:pa:=⟨26,[.inl 4],(q (r [0,1] [o 4 (AB false)]) (q (q (r [0,1,10] [m 6 0,o 7 (W 6),m 8 1,o 9 (W 8),o 10 (B .neq 7 9)]) (w 10 (q (r [4] [o 4 (AB false)]) (x [4])) z)) (q (q (r [0,1,5] [o 5 (AI 0)]) (k 0 [0,1,5] NW)) (q (r [4] [o 4 (AB true)]) (x [4]))))),[]⟩
def GF:ka:=(q (q (r [0,1,5,6,7,12] [m 9 7,m 10 0,o 11 (K 10),o 12 (B .lss 9 11)]) (w 12 z (.exit 0 [0,5,6]))) (q (.block 1 (q (r [0,1,5,6,7,19] [m 15 0,m 16 7,o 17 (D 15 16),m 18 1,o 19 (B .eql 17 18)]) (w 19 (q (r [0,1,5,7] [o 20 (.mvA 5),m 21 0,m 22 6,m 23 7,o 24 (.sliceS (.t 21) (.some (.t 22)) (.some (.t 23))),o 25 (.mksl false 1 1 [Z] [⟨0,⟨1,.t 24⟩⟩]),o 26 (.append false 1 (.t 20) (.t 25)),a 5 26]) (r [0,1,5,6,7] [m 27 7,o 28 (BI .add 27 1),a 6 28])) z))) (r [0,1,5,6,7] [m 13 7,o 14 (BI .add 13 1),a 7 14])))
def MB:ka:=GF
def lH:=@Za MB GF rfl
def tL:pa:=⟨35,[.inl 4],(q (r [0,1] [o 4 (.asg (.c V))]) (q (r [0,1,5] [o 8 (.mksl false 0 1 [] []),a 5 8]) (q (r [0,1,5,6] [o 6 (AI 0)]) (q (q (r [0,1,5,6,7] [o 7 (AI 0)]) (k 0 [0,1,5,6,7] MB)) (q (r [4] [o 29 (.mvA 5),m 30 0,m 31 6,o 32 (.sliceS (.t 30) (.some (.t 31)) .none),o 33 (.mksl false 1 1 [Z] [⟨0,⟨1,.t 32⟩⟩]),o 34 (.append false 1 (.t 29) (.t 33)),a 4 34]) (x [4])))))),[]⟩
attribute [go_sem] jF lF mF nF zG yG hR rF oF tF uF pF qF mG tG uG wG xG vG rG sG FF EF vF lG kG HF KF JF LF IF dG hG gG iG jG eG fG cG MF NF RF SF TF VF UF qG pG nG oG AG wF xF zF BF yF AF CF DF XF WF bG ZF aG YF PF QF OF gR GF
def er:List (FuncId×Lv):=[(77,⟨[[0],[0,4,5],[4,5,7],[4,5],[4,35],[2,3],[2,3],[8,9,10],[8,9],[8,9,11],[8,11,46,47,48],[8,11,46,47,48],[8,11,46,47,48,49],[8,11],[8,11,13,46,47,48],[8,11,13,46,47,48,54],[8,11,46,47,48],[8,11,46,47,48],[8,11,14,15,16],[8,11],[2,3],[2,3]],[],[111,4611686018427387941,4611686018427387950,4611686018427388089,9223372036854776099]⟩),(82,⟨[[0],[0,6,7],[0,6,7],[0,6,7,8],[0],[0,3,6,7],[0,4,6,7],[0,6,7,33],[2],[2],[0,6,7],[2],[2]],[],[111,4611686018427387941,4611686018427387950,4611686018427388089,9223372036854776099]⟩),(78,⟨[[0,1],[0,1,6,7],[1,6,7,10,11,12],[1,6,7,10,11,12],[1,6,7,10,11,12,13],[6,7],[1,6,7,9,10,11,12],[1,6,7,9,10,11,12,20],[1,6,7,10,11,12],[1,6,7,9,10,11,12,22],[1,6,7,10,11,12],[1,6,7,10,11,12],[1,6,7,10,11,12],[4,5],[4,5]],[],[111,4611686018427387941,4611686018427387950,4611686018427388089,9223372036854776099]⟩),(137,⟨[[0],[0,6,7],[0,6,7],[0,6,7,8],[0],[0,3,6,7],[0,4,6,7],[0,6,7,32],[2],[2],[0,6,7],[2],[2]],[],[111,4611686018427387941,4611686018427387950,4611686018427388089,9223372036854776099]⟩),(212,⟨[[1,2],[3],[3]],[],[111,4611686018427387941,4611686018427387950,4611686018427388089,9223372036854776099]⟩),(207,⟨[[]],[],[111,4611686018427387941,4611686018427387950,4611686018427388089,9223372036854776099]⟩),(208,⟨[[0],[0,3],[0,3],[0,3,39],[0,3],[0,3],[0,3,4],[4],[2],[2]],[],[111,4611686018427387941,4611686018427387950,4611686018427388089,9223372036854776099]⟩),(209,⟨[[0,1],[0,18],[4],[4],[],[4],[4]],[],[111,4611686018427387941,4611686018427387950,4611686018427388089,9223372036854776099]⟩),(270,⟨[[0],[0,4],[0,4,5],[0,4,5],[0,4,5,13],[0,4,5],[0,4,5,6],[0,4,5,6,20],[0,4,5],[0,4,5,6,23],[2,3],[2,3],[0,4,5,30],[0,4,5],[0,4,5,59],[2,3],[2,3],[0,4,5],[0,4,5],[0,4,5,77],[2,3],[2,3],[4],[2,3],[2,3]],[],[111,4611686018427387941,4611686018427387950,4611686018427388089,9223372036854776099]⟩),(211,⟨[[0,1],[4],[4]],[],[111,4611686018427387941,4611686018427387950,4611686018427388089,9223372036854776099]⟩),(271,⟨[[0,1],[0,1,7,8],[0,1,7,8],[0,1,7,8,9],[],[0,1,5,7,8],[0,1,5,7,8,16],[4],[4],[0,1,7,8],[4],[4]],[],[111,4611686018427387941,4611686018427387950,4611686018427388089,9223372036854776099]⟩)]
def Eh:List (FuncId×pa):=[(6,Lx),(14,oM),(15,pM),(94,uK),(97,yK),(47,wK),(21,vK),(7,xK),(49,AK),(48,zK),(50,BK),(95,ZM),(155,dN),(224,eN),(225,bN),(159,YM),(275,hN),(227,fN),(160,gN),(92,aN),(231,cN),(98,EK),(40,JK),(230,CK),(163,KK),(229,MK),(164,IK),(20,DK),(38,HK),(43,GK),(86,FK),(45,HM),(44,GM),(41,sM),(88,tM),(149,uM),(85,qM),(56,IM),(182,JM),(181,MM),(279,KM),(242,LM),(180,QM),(111,NM),(178,OM),(179,PM),(112,SM),(183,UM),(245,VM),(184,XM),(246,WM),(281,TM),(243,RM),(244,CM),(280,EM),(241,DM),(278,FM),(37,pL),(76,oL),(81,qL),(83,mL),(145,nL),(139,NK),(210,OK),(63,iM),(29,kM),(16,jM),(31,lM),(64,hM),(34,vL),(72,uL),(71,xL),(134,yL),(69,zL),(110,wL),(60,XL),(123,dM),(196,eM),(195,fM),(197,gM),(258,aM),(198,bM),(199,cM),(259,ZL),(127,YL),(65,WL),(257,AL),(286,CL),(292,BL),(53,IL),(128,JL),(66,ML),(130,LL),(30,KL),(105,rL),(10,wM),(11,vM),(24,BM),(312,AM),(315,xM),(316,yM),(317,zM),(57,kN),(116,iN),(187,jN),(186,UX),(185,lN),(113,nN),(114,oN),(115,mN),(58,QK),(247,PK),(283,SK),(117,YK),(118,WK),(189,VK),(190,ZK),(191,cL),(192,XK),(250,UK),(251,aL),(252,TK),(284,bL),(120,eL),(188,fL),(248,jL),(249,kL),(193,gL),(253,iL),(254,dL),(291,lL),(213,rM),(272,MX),(234,LX),(17,mM),(32,nM),(61,OL),(62,PL),(68,NL),(124,VL),(125,JX),(126,TL),(200,RL),(201,UL),(202,SL),(261,QL),(33,EL),(70,HL),(132,IX),(133,FL),(260,DL),(287,GL),(204,FX),(237,sL),(277,HX),(13,GX),(129,tL)]
noncomputable def code:FuncId->Option pa:=fun f=>match Eh.lookup f with
 |some c=>some c
 |none=>(er.lookup f).bind fun lv=>Cm Tryz.prog lv f
def zeO:Eh.map (fun p=>Cm Tryz.prog (q9 [111,4611686018427387941,4611686018427387950,4611686018427388089,9223372036854776099] p.2) p.1)=Eh.map (fun p=>some p.2):=ca
def dy:∀f c,code f=some c->∃lv,Cm Tryz.prog lv f=some c:=fun f c h=>by
 unfold code at h;split at h
 ·rename_i c' a
  cases h;exact⟨_,List.map_inj_left.1 zeO _ (LG a)⟩
 ·obtain⟨lv,_,a⟩:=qb h
  exact⟨lv,a⟩
def Wo:code ya.kb=none:=ca
def BZ:code 6=some Lx:=ca
def CZ:code 14=some oM:=ca
def DZ:code 15=some pM:=ca
def sY:code 94=some uK:=ca
def vY:code 97=some yK:=ca
def tY:code 47=some wK:=ca
def AN:code 21=some vK:=ca
def uY:code 7=some xK:=ca
def xY:code 49=some AK:=ca
def wY:code 48=some zK:=ca
def yY:code 50=some BK:=ca
def WN:code 95=some ZM:=ca
def YZ:code 155=some dN:=ca
def ZZ:code 224=some eN:=ca
def XZ:code 225=some bN:=ca
def WZ:code 159=some YM:=ca
def d0:code 275=some hN:=ca
def b0:code 227=some fN:=ca
def c0:code 160=some gN:=ca
def XN:code 92=some aN:=ca
def YN:code 231=some cN:=ca
def BN:code 98=some EK:=ca
def FY:code 40=some JK:=ca
def zY:code 230=some CK:=ca
def GY:code 163=some KK:=ca
def HY:code 229=some MK:=ca
def EY:code 164=some IK:=ca
def AY:code 20=some DK:=ca
def DY:code 38=some HK:=ca
def CY:code 43=some GK:=ca
def BY:code 86=some FK:=ca
def MZ:code 45=some HM:=ca
def LZ:code 44=some GM:=ca
def NN:code 41=some sM:=ca
def ON:code 88=some tM:=ca
def FZ:code 149=some uM:=ca
def EZ:code 85=some qM:=ca
def lD:code 56=some IM:=ca
def NZ:code 182=some JM:=ca
def QZ:code 181=some MM:=ca
def OZ:code 279=some KM:=ca
def PZ:code 242=some LM:=ca
def UZ:code 180=some QM:=ca
def RZ:code 111=some NM:=ca
def SZ:code 178=some OM:=ca
def TZ:code 179=some PM:=ca
def Vo:code 112=some SM:=ca
def mD:code 183=some UM:=ca
def VZ:code 245=some VM:=ca
def VN:code 184=some XM:=ca
def zn:code 246=some WM:=ca
def ey:code 281=some TM:=ca
def yu:code 243=some RM:=ca
def JZ:code 244=some CM:=ca
def TN:code 280=some EM:=ca
def KZ:code 241=some DM:=ca
def UN:code 278=some FM:=ca
def ru:code 37=some pL:=ca
def XY:code 76=some oL:=ca
def YY:code 81=some qL:=ca
def VY:code 83=some mL:=ca
def WY:code 145=some nL:=ca
def IY:code 139=some NK:=ca
def CN:code 210=some OK:=ca
def yZ:code 63=some iM:=ca
def zZ:code 29=some kM:=ca
def MN:code 16=some jM:=ca
def AZ:code 31=some lM:=ca
def xZ:code 64=some hM:=ca
def cZ:code 34=some vL:=ca
def bZ:code 72=some uL:=ca
def eZ:code 71=some xL:=ca
def fZ:code 134=some yL:=ca
def gZ:code 69=some zL:=ca
def dZ:code 110=some wL:=ca
def iD:code 60=some XL:=ca
def Uo:code 123=some dM:=ca
def jD:code 196=some eM:=ca
def LN:code 195=some fM:=ca
def wZ:code 197=some gM:=ca
def uZ:code 258=some aM:=ca
def KN:code 198=some bM:=ca
def vZ:code 199=some cM:=ca
def tZ:code 259=some ZL:=ca
def sZ:code 127=some YL:=ca
def JN:code 65=some WL:=ca
def Mj:code 257=some AL:=ca
def iZ:code 286=some CL:=ca
def hZ:code 292=some BL:=ca
def lZ:code 53=some IL:=ca
def mZ:code 128=some JL:=ca
def hD:code 66=some ML:=ca
def oZ:code 130=some LL:=ca
def nZ:code 30=some KL:=ca
def ZY:code 105=some rL:=ca
def QN:code 10=some wM:=ca
def PN:code 11=some vM:=ca
def SN:code 24=some BM:=ca
def IZ:code 312=some AM:=ca
def GZ:code 315=some xM:=ca
def RN:code 316=some yM:=ca
def HZ:code 317=some zM:=ca
def f0:code 57=some kN:=ca
def ZN:code 116=some iN:=ca
def e0:code 187=some jN:=ca
def g0:code 185=some lN:=ca
def i0:code 113=some nN:=ca
def aO:code 114=some oN:=ca
def h0:code 115=some mN:=ca
def KY:code 58=some QK:=ca
def JY:code 247=some PK:=ca
def dD:code 283=some SK:=ca
def DN:code 117=some YK:=ca
def qu:code 118=some WK:=ca
def MY:code 189=some VK:=ca
def OY:code 190=some ZK:=ca
def fD:code 191=some cL:=ca
def NY:code 192=some XK:=ca
def ay:code 250=some UK:=ca
def eD:code 251=some aL:=ca
def LY:code 252=some TK:=ca
def PY:code 284=some bL:=ca
def EN:code 120=some eL:=ca
def QY:code 188=some fL:=ca
def SY:code 248=some jL:=ca
def TY:code 249=some kL:=ca
def FN:code 193=some gL:=ca
def RY:code 253=some iL:=ca
def gD:code 254=some dL:=ca
def UY:code 291=some lL:=ca
def xu:code 213=some rM:=ca
def kD:code 17=some mM:=ca
def wu:code 32=some nM:=ca
def vu:code 61=some OL:=ca
def GN:code 62=some PL:=ca
def pZ:code 68=some NL:=ca
def xq:code 124=some VL:=ca
def To:code 126=some TL:=ca
def HN:code 200=some RL:=ca
def IN:code 201=some UL:=ca
def rZ:code 202=some SL:=ca
def qZ:code 261=some QL:=ca
def jZ:code 33=some EL:=ca
def uu:code 70=some HL:=ca
def kZ:code 133=some FL:=ca
def di:code 260=some DL:=ca
def cy:code 287=some GL:=ca
def tu:code 237=some sL:=ca
def aZ:code 129=some tL:=ca
noncomputable abbrev So:=code
def is:code=So:=rfl
end Go.Proofs.YtglaihdcndcmkaaGreatDoor
namespace ya
attribute [go_sem] zd1 za2 k6 zc7 n6 zdp j7 E5 zfI zf2 m5 look_nil
attribute [go_sem] l9 j9 HR k9 JR o5 k5 V4 n5 j5 Z4 Y4
attribute [go_sem] p5 X4 d5 b5 l5 W4 i5 f5 g5 h5 zf4 zf0
attribute [go_sem] zfO zf3 zfZ zfS zfR zf5 zfQ zfU zfT zf1 zfP zfY
attribute [go_sem] zfV zfW zfX zfK zfF zfH zfB zfJ zfG zfE zfD zfL
attribute [go_sem] zfC zfN zfM b_ a_ d_ c_ C5 q5 B5 w5 u5
attribute [go_sem] D5 s5 A5 I5 x5 y5 G5 F5 H5 f_ zv e_
attribute [go_sem] xW qx vW wW zfk zfj zan zap eT zao fT N1
attribute [go_sem] O1 OO y1 z1 x1 h8 lR eY Sx Rx zcS lI
attribute [go_sem] yA jI Qx zfo zt ol zbA zby zbv zbw i8 zfu
attribute [go_sem] GV iu ym uV zfa ze9 B0 p9 QR OG C0 L_
attribute [go_sem] H2 G2 x2 dP u2 cP A2 hP t7 zdr zds zcY
attribute [go_sem] zc0 zcZ zdw q7 G6 zc3 Z5 zc2 Y5 zdb z6 y6
attribute [go_sem] d2 Z1 b2 f2 R5 zdu i7 h7 g7 k7 zdB d8
attribute [go_sem] zda t6 zc1 KW LW JW S7 XQ zcT zc4 d6 zc5
attribute [go_sem] g6 zdo d7 zdl zbR RH i9 h9 g9 LC BE zdm
attribute [go_sem] c7 Z6 zdn a7 b7 D1 NO Pj B1 C1 A1 zdA
attribute [go_sem] R7 O7 Q7 P7 zdd D6 C6 zdf zde I6 H6 zdg
attribute [go_sem] P6 O6 zdv p7 zdh S6 i6 zdi R6 Q6 y2 z2
attribute [go_sem] zdz L7 T7 cX dX eX fX zdx N7 M7 v6 u6
attribute [go_sem] zdy K7 zdc A6 zdj X6 V6 W6 zdk U6 zdt f7
attribute [go_sem] zdq e7 zc9 qW yJ zad J1 L1 K1 I1 Gu H1
attribute [go_sem] G1 zcV zcU V5 W5 X5 zbC zbB r6 zcX zcW S5
attribute [go_sem] T5 U5 F7 G7 E7 zc F1 E1 VX j6 WX q6
attribute [go_sem] p6 l6 zc6 zc8 m6 o6 zcu zcv M6 N6 W_ V_
attribute [go_sem] l7 pre_nil zbs s7 w6 zdC zdD K6 L6 zaM zaN zaF
attribute [go_sem] zaK za4 za5 zaG za9 zaJ zaI zaQ za6 za7 zbd zaP
attribute [go_sem] zaH zaL za1 zaZ za0 zaS zaT zaU zaV zaW za8 zbb
attribute [go_sem] zba zbc zaR zaX zaY za3 zaO zbk r7 B7 y7 zbF
attribute [go_sem] zbE u7 v7 w7 zdO zd3 zdK zd7 zdM zdL zdR zd4
attribute [go_sem] zd5 zeb zdQ zdN zd0 zdT zdU zdV zdW zdX zd6 zd9
attribute [go_sem] zd8 zea zdS zdY zdZ zd2 zdP U7 zeK zeL zeM eI
attribute [go_sem] A7 z7 QX RX TX OX PX ju jv I7 J7 CX
attribute [go_sem] s6 AX b6 a6 c6 EX DX SX n7 m7 o7 x6
attribute [go_sem] H7 NX x7 zca TT UT D7 C7 E6 F6 T6 zah
attribute [go_sem] zag zaj zai V7 Y7 X7 W7 a8 Z7 c8 T2 l3
attribute [go_sem] b3 h3 i3 U2 f3 m3 j3 k3 V2 d3 Z2 Y2
attribute [go_sem] X2 W2 Z3 b4 d4 k4 j4 T4 S4 Ia PV.low Ib
attribute [go_sem] PV.pj PV.fi PV.cells zi ed Tq Option.map_some Option.map_none List.length_cons List.length_nil List.take_succ_cons List.take_zero
attribute [go_sem] List.take_nil List.drop_succ_cons List.drop_zero List.drop_nil List.cons_append List.nil_append List.append_nil List.getElem?_cons_zero List.getElem?_cons_succ List.getElem?_nil List.set_cons_zero List.set_cons_succ
attribute [go_sem] List.zip_cons_cons List.zip_nil_left List.zip_nil_right List.foldl_cons List.foldl_nil if_true if_false decide_true decide_false Bool.and_true Bool.true_and Bool.and_false
attribute [go_sem] Bool.false_and Bool.not_true Bool.not_false Bool.false_eq_true and_true true_and and_self and_false false_and true_or or_true or_false
attribute [go_sem] false_or or_self ne_eq not_false_eq_true not_true_eq_false Nat.le_refl Nat.zero_le Nat.zero_add Nat.add_zero Nat.mul_one zgq bne_iff_ne
attribute [go_sem] Option.some.injEq Int.cast_ofNat_Int
end ya
