/- Texts of this proof, merged. -/
import Derived.Test.YtglaihdcndcmkaaGreatDoorRb
import Derived.Test.YtglaihdcndcmkaaGreatDoorProg
import Derived.KernelRfl
import Derived.RecoverIn
set_option linter.all false
open Go wa Go.Proofs Go.RowKit
set_option maxHeartbeats 4000000
namespace wa
section
variable {cf:Callee} {n:Nat} {st:St} {sl:List (Nat × PV)} {ow:List Loc} {al:List (Nat × Loc)} {bx:Ha} {d:Nat} {live:List Nat}
theorem look_nil{i}:look [] i=.hd:=rfl
theorem dQ{j i}{v}:look ((j,v)::sl) i=if j=i then v else look sl i:=rfl
def oi(sl:List (Nat×PV)):List Nat->List (Nat×PV)
 |[]=>[]
 |i::r=>(i,look sl i)::oi sl r
theorem w6:oi sl []=[]:=rfl
theorem TF{i}{r}:oi sl (i::r)=(i,look sl i)::oi sl r:=rfl
theorem ZP:∀l,oi sl l=l.map fun i=>(i,look sl i)
 |[]=>rfl
 |i::r=>by rw[TF,ZP r];rfl
def owns:List Loc->Loc->Bool
 |[],_=>false
 | .slot i::r,.slot j=>if i=j then true else owns r (.slot j)
 | .cell b o::r,.cell a c=>if b=a/\o=c then true else owns r (.cell a c)
 |_::r,L=>owns r L
theorem sj:∀{l}{L},owns l L=true ↔ L∈l
 |[],L=>by simp[owns]
 | .slot i::r,.slot j=>by
   simp only[owns,Wb,Loc.slot.injEq];by_cases h:i=j
   ·simp[h]
   ·simp only[h,if_false];rw[sj];grind
 | .cell b o::r,.cell a c=>by
   simp only[owns,Wb,Loc.cell.injEq];by_cases h:b=a/\o=c
   ·simp[h]
   ·rw[if_neg h,sj]
    grind
 | .slot i::r,.cell b o=>by simp only[owns,Wb,reduceCtorEq,false_or];exact sj
 | .cell b o::r,.slot i=>by simp only[owns,Wb,reduceCtorEq,false_or];exact sj
theorem e8{L}:owns [] L=false:=ja
theorem g8{i j}{r}:owns (.slot i::r) (.slot j)=if i=j then true else owns r (.slot j):=rfl
theorem zR{b o a c}{r}:owns (.cell b o::r) (.cell a c)=if b=a/\o=c then true else owns r (.cell a c):=rfl
theorem f8{i b o}{r}:owns (.slot i::r) (.cell b o)=owns r (.cell b o):=rfl
theorem NG{i b o}{r}:owns (.cell b o::r) (.slot i)=owns r (.slot i):=rfl
theorem rZ:Ta d []=[]:=rfl
theorem sZ{i}{r}:Ta d (.slot i::r)=if i=d then Ta d r else .slot i::Ta d r:=by
 grind [Ta,Xd]
theorem WC{b o}{r}:Ta d (.cell b o::r)=.cell b o::Ta d r:=ja
theorem dZ:Jb d []=[]:=rfl
theorem eZ{t i}{r}:Jb d ((t,.slot i)::r)=if t=d then Jb d r else if i=d then Jb d r else(t,.slot i)::Jb d r:=by
 grind [Jb,Xd]
theorem cZ{t b o}{r}:Jb d ((t,.cell b o)::r)=if t=d then Jb d r else(t,.cell b o)::Jb d r:=by
 grind [Jb,Xd]
def Fs(ow:List Loc):List Nat->List Loc
 |[]=>[]
 |i::r=>if owns ow (.slot i)then .slot i::Fs ow r else Fs ow r
def i5{i}{r}:Fs ow (i::r)=if owns ow (.slot i)then .slot i::Fs ow r else Fs ow r:=rfl
theorem o2:xc .hd=false:=rfl
theorem k2{m}{cs}:xc (.ha m cs)=false:=rfl
theorem U1{cs}:xc (.agg cs)=false:=rfl
theorem m2{cs}:xc (.Mb cs)=false:=rfl
theorem j2{b o}:xc (.ptr b o)=false:=rfl
theorem Y1{cs}:xc (.xd cs)=false:=rfl
theorem X1{f}{cs}:xc (.fb f cs)=false:=rfl
theorem p2{b}:xc (.Ma b)=false:=rfl
theorem W1{b o m}:xc (.se b o m)=false:=rfl
theorem b2{f k}{s}{cs}:xc (.lp f k s live cs)=false:=rfl
theorem Z1{k}{m}:xc (.flat (.int k m))=false:=rfl
theorem l2{z}:xc (.flat (.string z))=false:=rfl
theorem V1{b}:xc (.flat (.bool b))=false:=rfl
theorem i2{a}:xc (.flat (.pointer a))=false:=rfl
theorem d2:xc (.flat .nilFunc)=false:=rfl
theorem f2:xc (.flat .nilIface)=false:=rfl
theorem h2:xc (.flat (.slice none 0 0))=true:=rfl
theorem zei:wk .hd=.hd:=rfl
theorem zef{m}{cs}:wk (.ha m cs)=.ha m cs:=rfl
theorem zd3{cs}:wk (.agg cs)=.agg cs:=rfl
theorem zeh{cs}:wk (.Mb cs)=.Mb cs:=rfl
theorem zee{b o}:wk (.ptr b o)=.ptr b o:=rfl
theorem zd7{cs}:wk (.xd cs)=.xd cs:=rfl
theorem zd6{f}{cs}:wk (.fb f cs)=.fb f cs:=rfl
theorem zej{b}:wk (.Ma b)=.Ma b:=rfl
theorem zd5{b o m}:wk (.se b o m)=.se b o m:=rfl
theorem zd9{f k}{s}{cs}:wk (.lp f k s live cs)=.lp f k s live cs:=rfl
theorem zd8{k}{m}:wk (.flat (.int k m))=.flat (.int k m):=rfl
theorem zeg{z}:wk (.flat (.string z))=.flat (.string z):=rfl
theorem zd4{b}:wk (.flat (.bool b))=.flat (.bool b):=rfl
theorem zed{a}:wk (.flat (.pointer a))=.flat (.pointer a):=rfl
theorem zea:wk (.flat .nilFunc)=.flat .nilFunc:=rfl
theorem zeb:wk (.flat .nilIface)=.flat .nilIface:=rfl
theorem zec:wk (.flat (.slice none 0 0))=.ha 0 []:=rfl
theorem zdZ:PV.Hb .hd=.hd:=rfl
theorem zdV{v}:PV.Hb (.flat v)=wk (.flat v):=rfl
theorem zdX{m}{cs}:PV.Hb (.ha m cs)=.ha m cs:=rfl
theorem zdR{cs}:PV.Hb (.agg cs)=.agg (ae cs):=rfl
theorem zdY{cs}:PV.Hb (.Mb cs)=.Mb cs:=rfl
theorem zdW{b o}:PV.Hb (.ptr b o)=.ptr b o:=rfl
theorem zdU{cs}:PV.Hb (.xd cs)=.xd cs:=rfl
theorem zdT{f}{cs}:PV.Hb (.fb f cs)=.fb f cs:=rfl
theorem zd0{b}:PV.Hb (.Ma b)=.Ma b:=rfl
theorem zdS{b o m}:PV.Hb (.se b o m)=.se b o m:=rfl
theorem zd2:ae []=[]:=rfl
theorem zd1{p}{r}:ae (p::r)=wk p::ae r:=rfl
theorem c7{b o}:fd b o []=[]:=rfl
theorem b7{b o}{p}{r}:fd b o (p::r)=if xc p then .cell b o::fd b (o+1) r else fd b (o+1) r:=rfl
theorem e7:ol []=true:=rfl
theorem d7{p}{r}:ol (p::r)=(!xc p&&ol r):=rfl
theorem z2{m}{cs}:dh (.ha m cs)=false:=rfl
theorem q2{cs}:dh (.agg cs)=false:=rfl
theorem y2{b o}:dh (.ptr b o)=false:=rfl
theorem u2{cs}:dh (.xd cs)=false:=rfl
theorem s2{f}{cs}:dh (.fb f cs)=false:=rfl
theorem A2{z}:dh (.flat (.string z))=false:=rfl
theorem r2{b}:dh (.flat (.bool b))=false:=rfl
theorem x2{a}:dh (.flat (.pointer a))=false:=rfl
theorem E2{m}:dh (.flat (.int .u8 m))=true:=rfl
theorem v2{m}:dh (.flat (.int .i32 m))=false:=rfl
theorem w2{m}:dh (.flat (.int .i64 m))=false:=rfl
theorem C2{m}:dh (.flat (.int .u32 m))=false:=rfl
theorem B2{m}:dh (.flat (.int .u16 m))=false:=rfl
theorem D2{m}:dh (.flat (.int .u64 m))=false:=rfl
theorem f7:Ad []=true:=rfl
theorem Ev{p}{r}:Ad (p::r)=(!dh p&&Ad r):=rfl
theorem YQ{cs a}:Ad (cs++a)=(Ad cs&&Ad a):=by
 induction cs with
 |nil=>rfl
 |cons p r b=>grind [Ev]
theorem NU:Uf []=true:=rfl
theorem Uw{p}{r}:Uf (p::r)=(dh p&&Uf r):=rfl
theorem LU{cs a}:Uf (cs++a)=(Uf cs&&Uf a):=by
 induction cs with
 |nil=>rfl
 |cons p r b=>grind [Uw]
theorem MU{z}:Uf (Jh z)=true:=by
 unfold Jh
 induction z.data.toList with
 |nil=>rfl
 |cons c l a=>rw[kc,Uw,a];rfl
theorem zdC{m}{cs a}:Cl true m cs a=Uf cs:=rfl
theorem zdB{m}{cs a}:Cl false m cs a=if m=1 then Ad cs&&Ad a else true:=by
 grind [Cl]
def lookW(sl:List (Nat×PV)):List Nat->List (Nat×PV)
 |[]=>[]
 |i::r=>(i,wk (look sl i))::lookW sl r
theorem x6:lookW sl []=[]:=rfl
theorem aQ{i}{r}:lookW sl (i::r)=(i,wk (look sl i))::lookW sl r:=rfl
theorem iz:∀l,lookW sl l=l.map fun i=>(i,look (sl.map fun q=>(q.1,wk q.2)) i)
 |[]=>rfl
 |i::r=>by rw[aQ,iz r,kc,xv]
def fl(sl:List (Nat×PV))(ow:List Loc):List Nat->List Loc
 |[]=>[]
 |i::r=>if xc (look sl i)then .slot i::fl sl ow r else if owns ow (.slot i)then .slot i::fl sl ow r else fl sl ow r
theorem j5:fl sl ow []=[]:=rfl
theorem rP{i}{r}:fl sl ow (i::r)=if xc (look sl i)then .slot i::fl sl ow r else if owns ow (.slot i)then .slot i::fl sl ow r else fl sl ow r:=rfl
theorem CF(L:List Nat):∀l,(∀i∈l,i∈L)->fl sl ow l=(l.filter fun i=>decide (.slot i∈(L.filter fun i=>xc (look sl i)).map .slot++ow)).map .slot
 |[],_=>rfl
 |i::r,h=>by
  rw[rP,CF L r (fun j a=>h j (by simp[a])),List.filter_cons]
  grind [sj]
def Oe:List Loc->List Loc
 |[]=>[]
 | .slot _::r=>Oe r
 | .cell b o::r=>.cell b o::Oe r
theorem xW:Oe []=[]:=rfl
theorem Cx{i}{r}:Oe (.slot i::r)=Oe r:=rfl
theorem Bx{b o}{r}:Oe (.cell b o::r)=.cell b o::Oe r:=rfl
theorem jq:∀l,l.filter Ca=Oe l
 |[]=>rfl
 | .slot i::r=>by rw[List.filter_cons_of_neg (by simp[Ca]),jq r];rfl
 | .cell b o::r=>by rw[List.filter_cons_of_pos rfl,jq r];rfl
def ui:List Loc->List Loc
 |[]=>[]
 | .slot i::r=>.slot i::ui r
 | .cell _ _::r=>ui r
theorem zav:ui []=[]:=rfl
theorem zH{i}{r}:ui (.slot i::r)=.slot i::ui r:=rfl
theorem nA{b o}{r}:ui (.cell b o::r)=ui r:=rfl
theorem yH:∀l,(l.filter fun L=>!Ca L)=ui l
 |[]=>rfl
 | .slot i::r=>by rw[List.filter_cons_of_pos rfl,yH r];rfl
 | .cell b o::r=>by rw[List.filter_cons_of_neg (by simp[Ca]),yH r];rfl
theorem xH:∀{l m},ui (l++m)=ui l++ui m
 |[],m=>rfl
 | .slot i::r,m=>by rw[ub,zH,zH,xH];rfl
 | .cell b o::r,m=>by rw[ub,nA,nA,xH]
theorem Ax:∀{l m},Oe (l++m)=Oe l++Oe m
 |[],m=>rfl
 | .slot i::r,m=>by rw[ub,Cx,Cx,Ax]
 | .cell b o::r,m=>by rw[ub,Bx,Bx,Ax];rfl
def Nb(nb:Nat):List Loc->List Loc
 |[]=>[]
 | .slot _::r=>Nb nb r
 | .cell b o::r=>if b<nb then .cell b o::Nb nb r else Nb nb r
theorem zdI{nb}:Nb nb []=[]:=rfl
theorem xw{nb i}{r}:Nb nb (.slot i::r)=Nb nb r:=rfl
theorem Gk{nb b o}{r}:Nb nb (.cell b o::r)=if b<nb then .cell b o::Nb nb r else Nb nb r:=rfl
theorem Ct{nb}:∀l,Yg nb l=Nb nb l
 |[]=>rfl
 | .slot i::r=>by rw[xw,<-Ct r];rfl
 | .cell b o::r=>by
   rw[Gk,<-Ct r]
   grind [Yg]
theorem P9{v}:St.put ⟨sl,ow,al,bx⟩ d v=⟨(d,v)::sl,Ta d ow,Jb d al,bx⟩:=rfl
theorem N9{v}:St.yc ⟨sl,ow,al,bx⟩ d v=⟨(d,v)::sl,.slot d::Ta d ow,Jb d al,bx⟩:=rfl
theorem K9{v}:St.Uc st none v=st:=rfl
theorem L9{v}:St.Uc st (some d) v=st.put d v:=rfl
theorem sM:∀l:List Nat,Oe (l.map .slot)=[]
 |[]=>rfl
 |i::r=>by rw[kc,Cx,sM r]
theorem k5:St.uf ⟨sl,ow,al,bx⟩ live=⟨lookW sl live,fl sl ow live++Oe ow,[],bx⟩:=by
 unfold St.uf;simp only[St.Hq,St.pj];rw[iz,CF live live (fun _ h=>h),jq,Ax,sM,Gb];rfl
def Rg:List (Nat×PV)->List PV
 |[]=>[]
 |(_,v)::r=>v::Rg r
theorem zdM:Rg []=[]:=rfl
theorem WH{i}{v}{r}:Rg ((i,v)::r)=v::Rg r:=rfl
theorem AA:∀l,l.map (·.2)=Rg l
 |[]=>rfl
 |(i,v)::r=>by rw[WH,<-AA r];rfl
def ww(nb:Nat)(bx:Ha)(b:Bool):Ha:=if b then bx.take nb else bx
def Cc(nb:Nat):Ha->Bool
 |[]=>true
 |q::r=>La nb q.2&&Cc nb r
theorem wu{nb}:Cc nb []=true:=rfl
theorem Zl{nb}{q}{r:Ha}:Cc nb (q::r)=(La nb q.2&&Cc nb r):=rfl
theorem nC{nb}:∀l,(l.all fun q=>La nb q.2)=Cc nb l
 |[]=>rfl
 |q::r=>by rw[Mm,nC r];rfl
theorem YT{nb}{vs}:trim nb vs bx=if bx.length=nb then bx else ww nb bx (La nb vs&&Cc nb (bx.take nb)):=by
 unfold trim ww;rw[nC]
theorem zdp{nb}:ww nb bx true=bx.take nb:=rfl
theorem zdo{nb}:ww nb bx false=bx:=rfl
def NC(st:St)(nb:Nat)(bx':Ha):St:=⟨st.sl,if bx'.length=st.bx.length then st.ow else st.ow.filter (fun| .slot _=>true| .cell b _=>decide (b<bx'.length)),[],bx'⟩
theorem tY{nb}:St.fi ⟨sl,ow,al,bx⟩ nb=if bx.length=nb then⟨sl,ow,[],bx⟩else NC ⟨sl,ow,al,bx⟩ nb (ww nb bx (La nb (Rg sl)&&Cc nb (bx.take nb))):=by
 unfold St.fi;simp only[YT,AA];split
 ·simp
 ·rfl
def Rh(nb:Nat):List Loc->List Loc
 |[]=>[]
 | .slot i::r=>.slot i::Rh nb r
 | .cell b o::r=>if b<nb then .cell b o::Rh nb r else Rh nb r
theorem B6{nb}:Rh nb []=[]:=rfl
theorem qQ{nb i}{r}:Rh nb (.slot i::r)=.slot i::Rh nb r:=rfl
theorem WF{nb b o}{r}:Rh nb (.cell b o::r)=if b<nb then .cell b o::Rh nb r else Rh nb r:=rfl
theorem XF{nb}:∀l,(l.filter (fun| .slot _=>true| .cell b _=>decide (b<nb)))=Rh nb l
 |[]=>rfl
 | .slot i::r=>by rw[qQ,<-XF r];simp
 | .cell b o::r=>by
   rw[WF,<-XF r]
   grind
theorem uY{nb}{bx'}:NC ⟨sl,ow,al,bx⟩ nb bx'=⟨sl,if bx'.length=bx.length then ow else Rh bx'.length ow,[],bx'⟩:=by
 grind [NC,XF]
theorem UH{nb}:∀{l m},Nb nb (l++m)=Nb nb l++Nb nb m
 |[],m=>rfl
 | .slot i::r,m=>by rw[ub,xw,xw,UH]
 | .cell b o::r,m=>by
   rw[ub,Gk,Gk,UH]
   grind
theorem dU{nb}:∀l:List Nat,Nb nb (l.map .slot)=[]
 |[]=>rfl
 |i::r=>by rw[kc,xw,dU r]
theorem w7{nb}:St.only ⟨sl,ow,al,bx⟩ live nb=⟨lookW sl live,fl sl ow live++Nb (trim nb (Rg (lookW sl live)) bx).length ow,[],trim nb (Rg (lookW sl live)) bx⟩:=by
 have a:live.map (look (sl.map fun q=>(q.1,wk q.2)))=Rg (lookW sl live):=by
  rw[<-AA,iz,List.map_map];rfl
 have c:∀(m:Nat)(l:List Loc),(l.filter (fun| .slot _=>false| .cell b _=>decide (b<m)))=Nb m l:=fun m l=>by rw[<-Ct];rfl
 show(⟨live.map fun i=>(i,look (sl.map fun q:Nat×PV=>(q.1,wk q.2)) i),(live.filter fun i=>decide (Loc.slot i∈(live.filter fun i=>xc (look sl i)).map Loc.slot++ow)).map Loc.slot++(((live.filter fun i=>xc (look sl i)).map Loc.slot++ow).filter (fun| .slot _=>false| .cell b _=>decide (b<(trim nb (live.map (look (sl.map fun q:Nat×PV=>(q.1,wk q.2)))) bx).length))),[],trim nb (live.map (look (sl.map fun q:Nat×PV=>(q.1,wk q.2)))) bx⟩:St)=_;rw[a,c,UH,dU,Gb,CF live live (fun _ h=>h),<-iz]
theorem b0{i}:X.ev sl (.t i)=look sl i:=rfl
theorem ZZ{v}:X.ev sl (.c v)=v:=rfl
def es(sl:List (Nat×PV)):List X->List PV
 |[]=>[]
 |x::r=>x.ev sl::es sl r
theorem OZ:es sl []=[]:=rfl
theorem MN{x}{r}:es sl (x::r)=x.ev sl::es sl r:=rfl
theorem NN:∀l,l.map (·.ev sl)=es sl l
 |[]=>rfl
 |x::r=>by rw[MN,<-NN r];rfl
def Tk(sl:List (Nat×PV)):List X->List PV
 |[]=>[]
 |x::r=>(x.ev sl).Hb::Tk sl r
theorem KZ:Tk sl []=[]:=rfl
theorem LN{x}{r}:Tk sl (x::r)=(x.ev sl).Hb::Tk sl r:=rfl
theorem sq:∀l,(l.map fun x=>(x.ev sl).Hb)=Tk sl l
 |[]=>rfl
 |x::r=>by rw[LN,<-sq r];rfl
def zn(sl:List (Nat×PV)):List (Nat×Nat×X)->List (Nat×Nat×PV)
 |[]=>[]
 |(o,m,x)::r=>(o,m,x.ev sl)::zn sl r
theorem RZ:zn sl []=[]:=rfl
theorem RN{o m}{x}{r}:zn sl ((o,m,x)::r)=(o,m,x.ev sl)::zn sl r:=rfl
theorem eD:∀l,(l.map fun q=>(q.1,q.2.1,q.2.2.ev sl))=zn sl l
 |[]=>rfl
 |(o,m,x)::r=>by rw[RN,<-eD r];rfl
def el(st:St)(d:Nat):Option PV->Option St
 |some v=>some (st.put d v)
 |none=>none
theorem q4{v}:el st d (some v)=some (st.put d v):=rfl
theorem Mg{x}:x.map (st.Uc (some d))=el st d x:=by cases x<;>rfl
def zv{x}:x.map (st.put d)=el st d x:=by cases x<;>rfl
theorem za2{x}:na cf st (some d) (.mv x)=some (st.put d (x.ev st.sl)):=rfl
theorem za3{s}:na cf ⟨sl,ow,al,bx⟩ (some d) (.mvA s)=if s=d then none else some ⟨(d,look sl s)::sl,Ta d ow,(d,.slot s)::Jb d al,bx⟩:=rfl
theorem zaB{s}:na cf ⟨sl,ow,al,bx⟩ (some d) (.asg (.t s))=if s=d then none else if owns ow (.slot s)then some ⟨(d,look sl s)::sl,.slot d::Ta s (Ta d ow),Jb s (Jb d al),bx⟩else some ⟨(d,look sl s)::sl,Ta d ow,Jb d al,bx⟩:=by
 simp only[na,sj];rfl
theorem zaD{v}:na cf st (some d) (.asg (.c (.flat v)))=some (st.put d (.flat v)):=rfl
theorem zaC{f}{cs}:na cf st (some d) (.asg (.c (.fb f cs)))=some (st.put d (.fb f cs)):=rfl
def bE(st:St)(d:Nat)(a b:PV):PV->Option St
 | .flat (.bool t)=>some (st.put d (if t then a else b))
 |_=>none
theorem za7{c a b}:na cf st (some d) (.pick c a b)=bE st d (a.ev st.sl) (b.ev st.sl) (c.ev st.sl):=by
 simp only[na,eb];unfold bE;generalize c.ev st.sl=p;cases p with
 |flat v=>cases v<;>first|rfl|(dsimp only;split<;>rfl)|(dsimp only[Mg,zv];rw[Mg])
 |_=>first|rfl|(dsimp only;split<;>rfl)|(dsimp only;rw[Mg])
theorem m4{a b}{t}:bE st d a b (.flat (.bool t))=some (st.put d (if t then a else b)):=rfl
def iv(st:St)(d:Nat):Option Value->Option St
 |some v=>some (st.put d (.flat v))
 |none=>none
theorem B3{v}:iv st d (some v)=some (st.put d (.flat v)):=rfl
def FD(st:St)(d:Nat)(op:BinOp):PV->PV->Option St
 | .flat a,.flat b=>iv st d (Ic op a b)
 |_,_=>none
theorem zaG{op}{x y}:na cf st (some d) (.bin op x y)=FD st d op (x.ev st.sl) (y.ev st.sl):=by
 simp only[na,eb];generalize x.ev st.sl=p;generalize y.ev st.sl=q;cases p with
 |flat v=>
  cases q with
  |flat u=>simp only[FD];cases Ic op v u<;>rfl
  |_=>rfl
 |_=>cases q<;>rfl
theorem R2{op}{a b}:FD st d op (.flat a) (.flat b)=iv st d (Ic op a b):=rfl
def ED(st:St)(d:Nat)(c:Bool):PV->PV->Option St
 | .flat (.bool a),.flat (.bool b)=>some (st.put d (.flat (.bool (if c then !(a==b)else a==b))))
 |_,_=>none
theorem zaF{a}{x y}:na cf st (some d) (.beq a x y)=ED st d a (x.ev st.sl) (y.ev st.sl):=by
 simp only[na,eb];unfold ED;generalize x.ev st.sl=p;generalize y.ev st.sl=q;cases p with
 |flat v=>
  cases q with
  |flat u=>cases v<;>cases u<;>first|rfl|(dsimp only;split<;>rfl)
  |_=>cases v<;>rfl
 |_=>
  cases q with
  |flat u=>cases u<;>first|rfl|(dsimp only;split<;>rfl)
  |_=>rfl
theorem Q2{c a b}:ED st d c (.flat (.bool a)) (.flat (.bool b))=some (st.put d (.flat (.bool (if c then !(a==b)else a==b)))):=rfl
def By(t:Bool):Option Bool->Option Bool
 |some r=>some (t&&r)
 |none=>none
theorem J2{t r}:By t (some r)=some (t&&r):=rfl
theorem DZ:Ec [] [] []=some true:=rfl
theorem BZ{a b}{d}{cs c}:Ec (.b::d) (.flat (.bool a)::cs) (.flat (.bool b)::c)=By (a==b) (Ec d cs c):=by
 simp only[Ec];cases Ec d cs c<;>rfl
theorem CZ{k}{a b}{d}{cs c}:Ec (.i k::d) (.flat (.int k a)::cs) (.flat (.int k b)::c)=By (decide (a=b)) (Ec d cs c):=by
 simp only[Ec,and_self,if_true];cases Ec d cs c<;>rfl
def ND(st:St)(d:Nat)(a:Bool):Option Bool->Option St
 |some t=>some (st.put d (.flat (.bool (if a then !t else t))))
 |none=>none
theorem r3{a t}:ND st d a (some t)=some (st.put d (.flat (.bool (if a then !t else t)))):=rfl
def OD(st:St)(d:Nat)(c:Bool)(b:List LK):PV->PV->Option St
 | .agg cs,.agg a=>ND st d c (Ec b cs a)
 |_,_=>none
theorem s3{c}{b}{cs a}:OD st d c b (.agg cs) (.agg a)=ND st d c (Ec b cs a):=rfl
theorem zaN{b}{a}{x y}:na cf st (some d) (.Sk b a x y)=OD st d b a (x.ev st.sl) (y.ev st.sl):=by
 simp only[na,eb];generalize x.ev st.sl=p;generalize y.ev st.sl=q;cases p with
 |agg cs=>
  cases q with
  |agg c=>simp only[OD];cases Ec a cs c<;>rfl
  |_=>rfl
 |_=>cases q<;>rfl
def Ds(st:St)(d:Nat):PV->Option St
 | .ptr b o=>some (st.put d (.ptr b o))
 | .xd cs=>some (st.put d (.xd cs))
 | .fb f cs=>some (st.put d (.fb f cs))
 | .Ma b=>some (st.put d (.Ma b))
 |_=>none
theorem za5{x}:na cf st (some d) (.qk x)=Ds st d (x.ev st.sl):=by
 simp only[na,eb];unfold Ds;generalize x.ev st.sl=p;cases p with
 |flat v=>rfl
 |_=>first|rfl|(dsimp only;split<;>rfl)|(dsimp only;rw[Mg])
theorem d4{b o}:Ds st d (.ptr b o)=some (st.put d (.ptr b o)):=rfl
theorem b4{cs}:Ds st d (.xd cs)=some (st.put d (.xd cs)):=rfl
theorem Z3{f}{cs}:Ds st d (.fb f cs)=some (st.put d (.fb f cs)):=rfl
theorem f4{b}:Ds st d (.Ma b)=some (st.put d (.Ma b)):=rfl
def mE(st:St)(d:Nat)(op:UnOp):PV->Option St
 | .flat a=>iv st d (ep op a)
 |_=>none
theorem zbc{op}{x}:na cf st (some d) (.un op x)=mE st d op (x.ev st.sl):=by
 simp only[na,eb];generalize x.ev st.sl=p;cases p with
 |flat v=>simp only[mE];cases ep op v<;>rfl
 |_=>rfl
theorem h5{op}{a}:mE st d op (.flat a)=iv st d (ep op a):=rfl
def KD(st:St)(d:Nat)(k:IntKind):PV->Option St
 | .flat (.int _ m)=>some (st.put d (.flat (.int k (k.wrap m))))
 |_=>none
theorem zaM{k}{x}:na cf st (some d) (.conv k x)=KD st d k (x.ev st.sl):=by
 simp only[na,eb];unfold KD;generalize x.ev st.sl=p;cases p with
 |flat v=>cases v<;>first|rfl|(dsimp only;split<;>rfl)|(dsimp only[Mg,zv];rw[Mg])
 |_=>first|rfl|(dsimp only;split<;>rfl)|(dsimp only;rw[Mg])
theorem l3{k k'}{m}:KD st d k (.flat (.int k' m))=some (st.put d (.flat (.int k (k.wrap m)))):=rfl
theorem zaE{x}:na cf st (some d) (.b2s x)=el st d (Vl (x.ev st.sl) st.bx):=by
 simp only[na,Mg]
theorem ZU:Vl (.flat (.slice none 0 0)) bx=some (.flat (.string ⟨#[]⟩)):=rfl
def bV{m}{cs}:Vl (.ha m cs) bx=if cs.length=m then(bytesOf cs).map fun l=>.flat (.string ⟨l.toArray⟩)else none:=rfl
def gv(o m:Nat):Option (Nat×List PV)->Option PV
 |some (_,cs)=>if o+m<=cs.length then Uy (bytesOf ((cs.drop o).take m))else none
 |none=>none
where Uy:Option (List UInt8)->Option PV
 |some l=>some (.flat (.string ⟨l.toArray⟩))
 |none=>none
theorem U4{l}:gv.Uy (some l)=some (.flat (.string ⟨l.toArray⟩)):=rfl
theorem jP{o m e}{cs}:gv o m (some (e,cs))=if o+m<=cs.length then gv.Uy (bytesOf ((cs.drop o).take m))else none:=rfl
theorem YU{b o m}:Vl (.se b o m) bx=gv o m (vd bx b):=by
 simp only[Vl];cases vd bx b with
 |none=>rfl
 |some q=>
  obtain⟨e,cs⟩:=q;simp only[Ra,jP];split
  ·cases bytesOf ((cs.drop o).take m)<;>rfl
  ·rfl
theorem aV{m}{cs}:Vl (.ha m cs) bx=if cs.length=m then gv.Uy (bytesOf cs)else none:=by
 rw[bV];split
 ·cases bytesOf cs<;>rfl
 ·rfl
theorem zaw{e}{zs}:na cf ⟨sl,ow,al,bx⟩ (some d) (.alloc e zs)=some ⟨(d,.ptr bx.length 0)::sl,fd bx.length 0 zs++Ta d ow,Jb d al,bx++[(e,ae zs)]⟩:=by
 rw[<-Iw];rfl
def GD(st:St)(d e m:Nat)(v:PV):Option St:=if v.li=true/\v.cells.length=m then some ⟨(d,.ptr st.bx.length 0)::st.sl,fd st.bx.length 0 v.cells++Ta d st.ow,Jb d st.al,st.bx++[(e,ae v.cells)]⟩else none
theorem zaH{e m}{x}:na cf st (some d) (.box e m x)=GD st d e m (x.ev st.sl):=by
 unfold GD;rw[<-Iw];rfl
theorem V2{e m}{v}:GD ⟨sl,ow,al,bx⟩ d e m v=if v.li=true/\v.cells.length=m then some ⟨(d,.ptr bx.length 0)::sl,fd bx.length 0 v.cells++Ta d ow,Jb d al,bx++[(e,ae v.cells)]⟩else none:=rfl
def iP(st:St)(d:Nat):Option (List PV)->Option St
 |some cs=>some (st.put d (.agg cs))
 |none=>none
theorem zaI{zs}{ps}:na cf st (some d) (.build zs ps)=iP st d (ki zs (zn st.sl ps)):=by
 simp only[na,eb,eD];cases ki zs (zn st.sl ps)<;>rfl
theorem W2{cs}:iP st d (some cs)=some (st.put d (.agg cs)):=rfl
def mP(st:St)(d:Nat)(a:Bool)(m size:Nat):Option (List PV)->Option St
 |some cs=>if a=true\/size≠1\/Ad (ae cs)=true then some (st.yc d (.ha m (ae cs)))else none
 |none=>none
theorem za0{a}{m size}{zs}{ps}:na cf st (some d) (.mksl a m size zs ps)=mP st d a m size (ki zs (zn st.sl ps)):=by
 simp only[na,Ra,eD];cases ki zs (zn st.sl ps)<;>rfl
theorem W3{a}{m size}{cs}:mP st d a m size (some cs)=if a=true\/size≠1\/Ad (ae cs)=true then some (st.yc d (.ha m (ae cs)))else none:=rfl
theorem zaX{agg}{m}{a}:na cf st (some d) (.load agg m a)=el st d (sm agg m (a.ev st.sl) st.bx):=by
 simp only[na,Ra,zv]
def yl(agg:Bool)(m o:Nat):Option (Nat×List PV)->Option PV
 |some (_,cs)=>if o+m<=cs.length then(match agg with|true=>some (.agg ((cs.drop o).take m))|false=>cs[o]?)else none
 |none=>none
theorem j_{m o e}{cs}:yl true m o (some (e,cs))=if o+m<=cs.length then some (.agg ((cs.drop o).take m))else none:=rfl
theorem hH{m o e}{cs}:yl false m o (some (e,cs))=if o+m<=cs.length then cs[o]? else none:=rfl
theorem v6{agg}{m b o}:sm agg m (.ptr b o) bx=yl agg m o (vd bx b):=by
 simp only[sm];cases vd bx b with
 |none=>rfl
 |some q=>rfl
theorem u6{m}{cs}:sm true m (.xd cs) bx=if m<=cs.length then some (.agg (cs.take m))else none:=rfl
theorem t6{m}{cs}:sm false m (.xd cs) bx=if m<=cs.length then cs[0]? else none:=rfl
def hP:Option (Nat×List PV)->Option (Nat×List PV)
 |some (e,cs)=>if Dq cs then none else some (e,cs)
 |none=>none
theorem mC{b}:vd bx b=hP (bx[b]?):=by
 unfold vd;cases bx[b]? with
 |none=>rfl
 |some q=>rfl
theorem HD{e}{cs}:hP (some (e,cs))=if Dq cs then none else some (e,cs):=rfl
def VD(st:St)(d b o:Nat):Option PV->Option St
 |some v=>some ⟨(d,v)::st.sl,Ta d st.ow,(d,.cell b o)::Jb d st.al,st.bx⟩
 |none=>none
def XD(st:St)(d:Nat):PV->Option St
 | .ptr b o=>VD st d b o (yl false 1 o (vd st.bx b))
 |_=>none
theorem zaY{a}:na cf st (some d) (.loadA a)=XD st d (a.ev st.sl):=by
 simp only[na,Ra];generalize a.ev st.sl=p;cases p with
 |ptr b o=>
  simp only[XD];cases h:vd st.bx b with
  |none=>rfl
  |some q=>
   obtain⟨e,cs⟩:=q;simp only[Ra,hH];by_cases c:o+1<=cs.length
   ·rw[if_pos c]
    cases g:cs[o]?<;>rfl
   ·rw[if_neg c,Ie aa];rfl
 |_=>rfl
theorem V3{b o}:XD st d (.ptr b o)=VD st d b o (yl false 1 o (vd st.bx b)):=rfl
theorem S3{b o}{v}:VD ⟨sl,ow,al,bx⟩ d b o (some v)=some ⟨(d,v)::sl,Ta d ow,(d,.cell b o)::Jb d al,bx⟩:=rfl
def Qc(b o m:Nat):List Loc->List Loc
 |[]=>[]
 | .slot i::r=>.slot i::Qc b o m r
 | .cell a j::r=>if a=b/\o<=j/\j<o+m then Qc b o m r else .cell a j::Qc b o m r
theorem iZ{b o m}:Qc b o m []=[]:=rfl
theorem sN{b o m i}{r}:Qc b o m (.slot i::r)=.slot i::Qc b o m r:=rfl
theorem hj{b o m a j}{r}:Qc b o m (.cell a j::r)=if a=b/\o<=j/\j<o+m then Qc b o m r else .cell a j::Qc b o m r:=rfl
theorem wQ{b o m a j}:Nd b o m (.cell a j)=decide (a=b/\o<=j/\j<o+m):=by
 grind [Nd]
theorem ay{b o m}:∀l,(l.filter fun L=>!Nd b o m L)=Qc b o m l
 |[]=>rfl
 | .slot i::r=>by rw[sN,<-ay r];rfl
 | .cell a j::r=>by
   rw[hj,<-ay r,List.filter_cons,wQ]
   grind
def gj(b o m:Nat)(l:List (Nat×Loc)):List (Nat×Loc):=l.filter fun p=>!Nd b o m p.2
theorem gZ{b o m}:gj b o m []=[]:=rfl
theorem hZ{b o m t i}{r}:gj b o m ((t,.slot i)::r)=(t,.slot i)::gj b o m r:=ja
theorem fZ{b o m t a j}{r}:gj b o m ((t,.cell a j)::r)=if a=b/\o<=j/\j<o+m then gj b o m r else(t,.cell a j)::gj b o m r:=by
 grind [gj,wQ]
def qv(st:St)(b o m:Nat)(x:X)(v:PV)(e:Nat)(cs:List PV):Option St:=if v.li=true/\v.cells.length=m/\o+m<=cs.length then
    (match x with
     | .t s=>if owns st.ow (.slot s)then some ⟨st.sl,.cell b o::Ta s (fd b o v.cells++Qc b o m st.ow),Jb s (gj b o m st.al),st.bx.set b (e,cs.take o++ae v.cells++cs.drop (o+m))⟩else some ⟨st.sl,fd b o v.cells++Qc b o m st.ow,gj b o m st.al,st.bx.set b (e,cs.take o++ae v.cells++cs.drop (o+m))⟩
     | .c _=>some ⟨st.sl,fd b o v.cells++Qc b o m st.ow,gj b o m st.al,st.bx.set b (e,cs.take o++ae v.cells++cs.drop (o+m))⟩)else none
def Ty(st:St)(b o m:Nat)(x:X)(v:PV):Option (Nat×List PV)->Option St
 |some (e,cs)=>qv st b o m x v e cs
 |none=>none
def jE(st:St)(m:Nat)(x:X)(v:PV):PV->Option St
 | .ptr b o=>Ty st b o m x v (vd st.bx b)
 |_=>none
theorem zbb{m}{a x}:na cf st none (.store m a x)=jE st m x (x.ev st.sl) (a.ev st.sl):=by
 simp only[na];generalize a.ev st.sl=p;cases p with
 |ptr b o=>
  dsimp only;simp only[jE,Ty];cases h:vd st.bx b with
  |none=>rfl
  |some q=>
   obtain⟨e,cs⟩:=q;simp only[Ra,qv];split
   ·cases x with
    |t s=>simp only[ay,sj,Iw];rfl
    |c v=>simp only[ay,Iw];rfl
   ·rfl
 |_=>rfl
theorem T4{b o m}{x}{v}:jE st m x v (.ptr b o)=Ty st b o m x v (vd st.bx b):=rfl
theorem Q4{b o m e}{x}{v}{cs}:Ty st b o m x v (some (e,cs))=qv st b o m x v e cs:=rfl
theorem S4{b o m e s}{v}{cs}:qv ⟨sl,ow,al,bx⟩ b o m (.t s) v e cs=if v.li=true/\v.cells.length=m/\o+m<=cs.length then(if owns ow (.slot s)then some ⟨sl,.cell b o::Ta s (fd b o v.cells++Qc b o m ow),Jb s (gj b o m al),bx.set b (e,cs.take o++ae v.cells++cs.drop (o+m))⟩else some ⟨sl,fd b o v.cells++Qc b o m ow,gj b o m al,bx.set b (e,cs.take o++ae v.cells++cs.drop (o+m))⟩)else none:=rfl
theorem R4{b o m e}{u v}{cs}:qv ⟨sl,ow,al,bx⟩ b o m (.c u) v e cs=if v.li=true/\v.cells.length=m/\o+m<=cs.length then some ⟨sl,fd b o v.cells++Qc b o m ow,gj b o m al,bx.set b (e,cs.take o++ae v.cells++cs.drop (o+m))⟩else none:=rfl
def Ky(st:St)(d a:Nat):PV->Option St
 | .ptr b o=>some (st.put d (.ptr b (o+a)))
 | .xd cs=>some (st.put d (.xd (cs.drop a)))
 |_=>none
theorem zaP{b}{a}:na cf st (some d) (.im b a)=Ky st d b (a.ev st.sl):=by
 simp only[na,eb];unfold Ky;generalize a.ev st.sl=p;cases p with
 |flat v=>rfl
 |_=>first|rfl|(dsimp only;split<;>rfl)|(dsimp only;rw[Mg])
theorem x3{a b o}:Ky st d a (.ptr b o)=some (st.put d (.ptr b (o+a))):=rfl
theorem w3{a}{cs}:Ky st d a (.xd cs)=some (st.put d (.xd (cs.drop a))):=rfl
def RD(st:St)(d a m:Nat):PV->Option St
 | .agg cs=>if a+m<=cs.length then some (st.put d (.agg ((cs.drop a).take m)))else none
 |_=>none
def QD(st:St)(d a:Nat):PV->Option St
 | .agg cs=>el st d (cs[a]?)
 |_=>none
theorem zaR{a m}{x}:na cf st (some d) (.jm true a m x)=RD st d a m (x.ev st.sl):=by
 simp only[na,eb];unfold RD;generalize x.ev st.sl=p;cases p with
 |flat v=>rfl
 |_=>first|rfl|(dsimp only;split<;>rfl)|(dsimp only;rw[Mg])
theorem zaQ{a m}{x}:na cf st (some d) (.jm false a m x)=QD st d a (x.ev st.sl):=by
 simp only[na,eb]
 grind [QD,Mg]
theorem D3{a m}{cs}:RD st d a m (.agg cs)=if a+m<=cs.length then some (st.put d (.agg ((cs.drop a).take m)))else none:=rfl
theorem C3{a}{cs}:QD st d a (.agg cs)=el st d (cs[a]?):=rfl
def Ny(st:St)(d size:Nat):PV->PV->Option St
 | .ha m cs,.flat (.int _ i)=>if 0<=i/\i<m then some (st.put d (.xd (cs.drop (i.toNat* size))))else none
 | .se b o m,.flat (.int _ i)=>if 0<=i/\i<m then some (st.put d (.ptr b (o+i.toNat* size)))else none
 |_,_=>none
theorem zaS{size}{x i}:na cf st (some d) (.Jg size x i)=Ny st d size (x.ev st.sl) (i.ev st.sl):=by
 simp only[na,eb];unfold Ny;generalize x.ev st.sl=p;generalize i.ev st.sl=q;cases p with
 |flat v=>
  rfl
 |_=>
  cases q with
  |flat u=>cases u<;>first|rfl|(dsimp only;split<;>rfl)
  |_=>rfl
theorem J3{size m}{cs}{k}{i}:Ny st d size (.ha m cs) (.flat (.int k i))=if 0<=i/\i<m then some (st.put d (.xd (cs.drop (i.toNat* size))))else none:=rfl
theorem I3{size b o m}{k}{i}:Ny st d size (.se b o m) (.flat (.int k i))=if 0<=i/\i<m then some (st.put d (.ptr b (o+i.toNat* size)))else none:=rfl
def aE(st:St)(d len size:Nat):PV->PV->Option St
 | .ptr b o,.flat (.int _ i)=>if 0<=i/\i<len then some (st.put d (.ptr b (o+i.toNat* size)))else none
 |_,_=>none
theorem za6{len size}{x i}:na cf st (some d) (.xm len size x i)=aE st d len size (x.ev st.sl) (i.ev st.sl):=by
 simp only[na,eb];unfold aE;generalize x.ev st.sl=p;generalize i.ev st.sl=q;cases p with
 |flat v=>
  rfl
 |_=>
  cases q with
  |flat u=>cases u<;>first|rfl|(dsimp only;split<;>rfl)
  |_=>rfl
theorem l4{len size b o}{k}{i}:aE st d len size (.ptr b o) (.flat (.int k i))=if 0<=i/\i<len then some (st.put d (.ptr b (o+i.toNat* size)))else none:=rfl
def Gy(st:St)(d:Nat):Option UInt8->Option St
 |some c=>some (st.put d (.flat (.int .u8 c.toNat)))
 |none=>none
def TD(st:St)(d:Nat):PV->PV->Option St
 | .flat (.string s),.flat (.int _ i)=>if 0<=i then Gy st d (s[i.toNat]?)else none
 |_,_=>none
theorem zaT{x i}:na cf st (some d) (.idx x i)=TD st d (x.ev st.sl) (i.ev st.sl):=by
 simp only[na,eb];generalize x.ev st.sl=p;generalize i.ev st.sl=q;cases p with
 |flat v=>
  cases q with
  |flat u=>
   cases v<;>cases u<;>try rfl
   rename_i s k j;simp only[TD];split
   ·cases s[j.toNat]?<;>rfl
   ·rfl
  |_=>cases v<;>rfl
 |_=>cases q<;>rfl
theorem M3{s}{k}{i}:TD st d (.flat (.string s)) (.flat (.int k i))=if 0<=i then Gy st d (s[i.toNat]?)else none:=rfl
theorem X2{c}:Gy st d (some c)=some (st.put d (.flat (.int .u8 c.toNat))):=rfl
def Oy(st:St)(d:Nat)(agg:Bool)(len size:Nat):PV->PV->Option St
 | .agg cs,.flat (.int _ i)=>if 0<=i/\i<len/\i.toNat* size+size<=cs.length then(match agg with|true=>some (st.put d (.agg ((cs.drop (i.toNat* size)).take size)))|false=>el st d (cs[i.toNat* size]?))else none
 |_,_=>none
theorem zaU{agg}{len size}{x i}:na cf st (some d) (.om agg len size x i)=Oy st d agg len size (x.ev st.sl) (i.ev st.sl):=by
 simp only[na,eb];generalize x.ev st.sl=p;generalize i.ev st.sl=q;cases p with
 |agg cs=>
  cases q with
  |flat u=>
   cases u<;>try rfl
   rename_i k j;simp only[Oy];split
   ·cases agg
    ·grind [Mg]
    ·rfl
   ·rfl
  |_=>rfl
 |_=>cases q<;>rfl
theorem L3{len size}{cs}{k}{i}:Oy st d true len size (.agg cs) (.flat (.int k i))=if 0<=i/\i<len/\i.toNat* size+size<=cs.length then some (st.put d (.agg ((cs.drop (i.toNat* size)).take size)))else none:=rfl
theorem K3{len size}{cs}{k}{i}:Oy st d false len size (.agg cs) (.flat (.int k i))=if 0<=i/\i<len/\i.toNat* size+size<=cs.length then el st d (cs[i.toNat* size]?)else none:=rfl
def uh(sl:List (Nat×PV)):Option X->Option PV
 |none=>none
 |some x=>some (x.ev sl)
theorem PZ:uh sl none=none:=rfl
theorem QZ{x}:uh sl (some x)=some (x.ev sl):=rfl
def dD{x}:x.map (·.ev sl)=uh sl x:=by cases x<;>rfl
def kE(st:St)(d:Nat)(s:ByteArray):Option (Nat×Nat)->Option St
 |some (l,h)=>some (st.put d (.flat (.string (s.extract l h))))
 |none=>none
def iE(st:St)(d:Nat)(b a:Option PV):PV->Option St
 | .flat (.string s)=>kE st d s (nf s.size b a)
 |_=>none
theorem zba{x}{b a}:na cf st (some d) (.sliceS x b a)=iE st d (uh st.sl b) (uh st.sl a) (x.ev st.sl):=by
 simp only[na,eb,dD];generalize x.ev st.sl=p;cases p with
 |flat v=>
  cases v<;>try rfl
  rename_i s;simp only[iE];cases nf s.size (uh st.sl b) (uh st.sl a)<;>rfl
 |_=>rfl
theorem N4{b a}{s}:iE st d b a (.flat (.string s))=kE st d s (nf s.size b a):=rfl
theorem V4{s}{l h}:kE st d s (some (l,h))=some (st.put d (.flat (.string (s.extract l h)))):=rfl
theorem AV{m}:nf m none none=some (0,m):=ja
theorem BV{m}{k}{i}:nf m none (some (.flat (.int k i)))=if 0<=i/\i<=m then some (0,i.toNat)else none:=by
 grind [nf,Cq]
theorem CV{m}{k}{i}:nf m (some (.flat (.int k i))) none=if 0<=i/\i<=m then some (i.toNat,m)else none:=by
 grind [nf,Cq]
theorem DV{m}{k k'}{i j}:nf m (some (.flat (.int k i))) (some (.flat (.int k' j)))=if 0<=i/\i<=j/\j<=m then some (i.toNat,j.toNat)else none:=by
 simp only[nf,Cq,Ra]
 grind
def LD(st:St)(d size m:Nat)(cs:List PV):Option (Nat×Nat)->Option St
 |some (l,h)=>some (st.put d (.ha (h - l) ((cs.take (h* size)).drop (l* size))))
 |none=>none
def hv(st:St)(d size b o:Nat):Option (Nat×Nat)->Option St
 |some (l,h)=>some (st.put d (.se b (o+l* size) (h - l)))
 |none=>none
def pv(st:St)(d size:Nat)(c a:Option PV):PV->Option St
 | .ha m cs=>if cs.length=m* size/\0<size then LD st d size m cs (nf m c a)else none
 | .se b o m=>hv st d size b o (nf m c a)
 |_=>none
theorem za8{size}{x}{c a}:na cf st (some d) (.slice size x c a)=pv st d size (uh st.sl c) (uh st.sl a) (x.ev st.sl):=by
 simp only[na,eb,dD];generalize x.ev st.sl=p;cases p with
 |ha m cs=>
  simp only[pv];split
  ·cases nf m (uh st.sl c) (uh st.sl a)<;>rfl
  ·rfl
 |se b o m=>simp only[pv];cases nf m (uh st.sl c) (uh st.sl a)<;>rfl
 |_=>rfl
theorem P4{size m}{cs}{b a}:pv st d size b a (.ha m cs)=if cs.length=m* size/\0<size then LD st d size m cs (nf m b a)else none:=rfl
theorem O4{size b o m}{c a}:pv st d size c a (.se b o m)=hv st d size b o (nf m c a):=rfl
theorem o3{size m l h}{cs}:LD st d size m cs (some (l,h))=some (st.put d (.ha (h - l) ((cs.take (h* size)).drop (l* size)))):=rfl
theorem m3{size b o l h}:hv st d size b o (some (l,h))=some (st.put d (.se b (o+l* size) (h - l))):=rfl
def hE(st:St)(d len size:Nat)(c a:Option PV):PV->Option St
 | .ptr b o=>hv st d size b o (nf len c a)
 |_=>none
theorem za9{len size}{x}{c a}:na cf st (some d) (.sliceP len size x c a)=hE st d len size (uh st.sl c) (uh st.sl a) (x.ev st.sl):=by
 simp only[na,eb,dD];generalize x.ev st.sl=p;cases p with
 |ptr b o=>simp only[hE];cases nf len (uh st.sl c) (uh st.sl a)<;>rfl
 |_=>rfl
theorem M4{len size b o}{c a}:hE st d len size c a (.ptr b o)=hv st d size b o (nf len c a):=rfl
def PD(st:St)(d i:Nat):PV->Option St
 | .Mb vs=>el st d (vs[i]?)
 |_=>none
theorem zaO{x}{i}:na cf st (some d) (.ext x i)=PD st d i (x.ev st.sl):=by
 simp only[na,eb]
 grind [PD,Mg]
theorem u3{i}{vs}:PD st d i (.Mb vs)=el st d (vs[i]?):=rfl
def jv(st:St)(d:Nat):PV->Option St
 | .ha m _=>some (st.put d (.flat (.int .i64 m)))
 | .se _ _ m=>some (st.put d (.flat (.int .i64 m)))
 | .flat (.slice none 0 0)=>some (st.put d (.flat (.int .i64 0)))
 |_=>none
theorem zaV{x}:na cf st (some d) (.len x)=jv st d (x.ev st.sl):=by
 simp only[na,eb];unfold jv;generalize x.ev st.sl=p;split<;>first|rfl|simp
theorem Q3:jv st d (.flat (.slice none 0 0))=some (st.put d (.flat (.int .i64 0))):=rfl
theorem R3{m}{cs}:jv st d (.ha m cs)=some (st.put d (.flat (.int .i64 m))):=rfl
theorem P3{b o m}:jv st d (.se b o m)=some (st.put d (.flat (.int .i64 m))):=rfl
def UD(st:St)(d:Nat):PV->Option St
 | .flat (.string s)=>some (st.put d (.flat (.int .i64 s.size)))
 |_=>none
theorem zaW{x}:na cf st (some d) (.Gn x)=UD st d (x.ev st.sl):=by
 simp only[na,eb];unfold UD;generalize x.ev st.sl=p;cases p with
 |flat v=>cases v<;>first|rfl|(dsimp only;split<;>rfl)|(dsimp only[Mg,zv];rw[Mg])
 |_=>first|rfl|(dsimp only;split<;>rfl)|(dsimp only;rw[Mg])
theorem O3{s}:UD st d (.flat (.string s))=some (st.put d (.flat (.int .i64 s.size))):=rfl
def ZD(st:St)(d:Nat):PV->Option St
 | .flat (.string s)=>some (st.put d (.flat (.string s)))
 |_=>none
theorem za4{x}:na cf st (some d) (.sp x)=ZD st d (x.ev st.sl):=by
 simp only[na,eb];unfold ZD;generalize x.ev st.sl=p;cases p with
 |flat v=>cases v<;>first|rfl|(dsimp only;split<;>rfl)|(dsimp only[Mg,zv];rw[Mg])
 |_=>first|rfl|(dsimp only;split<;>rfl)|(dsimp only;rw[Mg])
theorem Y3{s}:ZD st d (.flat (.string s))=some (st.put d (.flat (.string s))):=rfl
def YD(st:St)(d:Nat)(c:Bool):PV->PV->Option St
 | .flat (.int k a),.flat (.int k' b)=>if k=k' then some (st.put d (.flat (.int k (if c then(if b>a then b else a)else(if b<a then b else a)))))else none
 |_,_=>none
theorem za1{a}{x y}:na cf st (some d) (.mm a x y)=YD st d a (x.ev st.sl) (y.ev st.sl):=by
 simp only[na,eb];unfold YD;generalize x.ev st.sl=p;generalize y.ev st.sl=q;cases p with
 |flat v=>
  cases q with
  |flat u=>cases v<;>cases u<;>first|rfl|(dsimp only;split<;>rfl)
  |_=>cases v<;>rfl
 |_=>
  cases q with
  |flat u=>cases u<;>first|rfl|(dsimp only;split<;>rfl)
  |_=>rfl
theorem X3{c}{k k'}{a b}:YD st d c (.flat (.int k a)) (.flat (.int k' b))=if k=k' then some (st.put d (.flat (.int k (if c then(if b>a then b else a)else(if b<a then b else a)))))else none:=rfl
theorem zaL{f}{cs}:na cf st (some d) (.clos f cs)=some (st.put d (.fb f (es st.sl cs))):=by
 simp only[na,eb,NN];rfl
def Li(ow:List Loc)(al:List (Nat×Loc))(t:Nat):Option Loc:=if owns ow (.slot t)then some (.slot t)else Yp t al
where Yp (t:Nat):List (Nat×Loc)->Option Loc
 |[]=>none
 |(u,L)::r=>if u=t then some L else Yp t r
theorem JU{t}:Li.Yp t []=none:=rfl
theorem XI{t u}{L}{r}:Li.Yp t ((u,L)::r)=if u=t then some L else Li.Yp t r:=rfl
theorem YI{t}:∀l,(l.find? fun p=>p.1==t).map (·.2)=Li.Yp t l
 |[]=>rfl
 |(u,L)::r=>by
  rw[XI,<-YI r,List.find?_cons]
  grind
theorem O7{t}:Li ow al t=if owns ow (.slot t)then some (.slot t)else Li.Yp t al:=rfl
def wR{t}:origin st t=Li st.ow st.al t:=by
 grind [origin,Li,YI,sj]
def ad(L:Loc)(l:List Loc):List Loc:=l.filter (·≠L)
theorem oZ{L}:ad L []=[]:=rfl
theorem pZ{i j}{r}:ad (.slot i) (.slot j::r)=if j=i then ad (.slot i) r else .slot j::ad (.slot i) r:=by
 grind [ad]
theorem VC{i b o}{r}:ad (.slot i) (.cell b o::r)=.cell b o::ad (.slot i) r:=ja
theorem nZ{i b o}{r}:ad (.cell b o) (.slot i::r)=.slot i::ad (.cell b o) r:=ja
theorem Lu{b o a c}{r}:ad (.cell b o) (.cell a c::r)=if a=b/\c=o then ad (.cell b o) r else .cell a c::ad (.cell b o) r:=by
 grind [ad]
def wn(L:Loc)(l:List (Nat×Loc)):List (Nat×Loc):=l.filter fun p=>p.2≠L
def Fq(st:St)(d b o:Nat):Bool->Option PV->Option St
 |true,some v=>some ⟨(d,v)::st.sl,.slot d::ad (.cell b o) (Ta d st.ow),[],st.bx⟩
 |_,_=>none
def WD(st:St)(d:Nat):PV->Option St
 | .ptr b o=>Fq st d b o (owns st.ow (.cell b o)) (yl false 1 o (vd st.bx b))
 |_=>none
theorem zaZ{a}:na cf st (some d) (.loadM a)=WD st d (a.ev st.sl):=by
 simp only[na,Ra];generalize a.ev st.sl=p;cases p with
 |ptr b o=>
  simp only[WD];have g:owns st.ow (.cell b o)=decide (.cell b o∈st.ow):=by
   by_cases h:Loc.cell b o∈st.ow
   ·grind [sj]
   ·grind [sj]
  rw[g];cases h:vd st.bx b with
  |none=>grind [Fq,yl]
  |some q=>
   obtain⟨e,cs⟩:=q;simp only[Ra,hH];have hr:(if o+1<=cs.length then cs[o]? else none)=cs[o]?:=by
    by_cases c:o+1<=cs.length
    ·grind
    ·grind
   rw[hr];cases i:cs[o]? with
   |none=>grind [Fq]
   |some v=>
    by_cases c:Loc.cell b o∈st.ow
    ·simp only[c,Ra,if_true,decide_true,Fq,ad];rfl
    grind [Fq]
 |_=>rfl
theorem T3{b o}:WD st d (.ptr b o)=Fq st d b o (owns st.ow (.cell b o)) (yl false 1 o (vd st.bx b)):=rfl
theorem U3{b o}{v}:Fq st d b o true (some v)=some ⟨(d,v)::st.sl,.slot d::ad (.cell b o) (Ta d st.ow),[],st.bx⟩:=rfl
theorem mZ{L}:wn L []=[]:=rfl
theorem lZ{L K}{t}{r}:wn L ((t,K)::r)=if K=L then wn L r else(t,K)::wn L r:=by
 grind [wn]
def Ey(st:St)(d:Nat)(a:Bool)(size:Nat)(L:Loc):Option PV->PV->Option St
 |some (.ha m cs),.ha c b=>if m+c<=Da/\cs.length=m* size/\b.length=c* size/\owns st.ow L=true/\Cl a size cs b=true then
  some ⟨(d,.ha (m+c) (cs++b))::st.sl,.slot d::Ta d (ad L st.ow),Jb d (wn L st.al),st.bx⟩else none
 |_,_=>none
def Fy(st:St)(d:Nat)(a:Bool)(size:Nat)(y:PV):Option Loc->Option St
 |some L=>Ey st d a size L (ab st L) y
 |none=>none
def dv(st:St)(d:Nat)(a:Bool)(size:Nat):PV->Option St
 | .ha m b=>if m<=Da/\b.length=m* size/\Cl a size [] b=true then(if m=0 then some (st.put d (.flat (.slice none 0 0)))else some (st.yc d (.ha m b)))else none
 |_=>none
theorem N2{a}{size m}{b}:dv st d a size (.ha m b)=if m<=Da/\b.length=m* size/\Cl a size [] b=true then(if m=0 then some (st.put d (.flat (.slice none 0 0)))else some (st.yc d (.ha m b)))else none:=rfl
def hT{a}{size}{x y}:na cf st (some d) (.append a size x y)=if xc (x.ev st.sl)then dv st d a size (y.ev st.sl).Hb else(match x with| .t s=>Fy st d a size (y.ev st.sl).Hb (Li st.ow st.al s)| .c _=>none):=by
 simp only[na];split
 ·grind [dv]
 ·cases x with
  |c v=>rfl
  |t s=>
   simp only[wR];cases Li st.ow st.al s with
   |none=>rfl
   |some L=>
    simp only[Ra,Fy];generalize ab st L=p;generalize (y.ev st.sl).Hb=q;cases p with
    |none=>rfl
    |some p=>
     cases p with
     |ha m cs=>
      cases q with
      |ha e b=>simp only[Ey,sj];rfl
      |_=>rfl
     |_=>cases q<;>rfl
theorem zay{a}{size s}{y}:na cf st (some d) (.append a size (.t s) y)=if xc (look st.sl s)then dv st d a size (y.ev st.sl).Hb else Fy st d a size (y.ev st.sl).Hb (Li st.ow st.al s):=hT
theorem zax{a}{size}{v}{y}:na cf st (some d) (.append a size (.c v) y)=if xc v then dv st d a size (y.ev st.sl).Hb else none:=hT
theorem O2{a}{size}{y}{L}:Fy st d a size y (some L)=Ey st d a size L (ab st L) y:=rfl
theorem P2{a}{size m c}{L}{cs b}:Ey ⟨sl,ow,al,bx⟩ d a size L (some (.ha m cs)) (.ha c b)=if m+c<=Da/\cs.length=m* size/\b.length=c* size/\owns ow L=true/\Cl a size cs b=true then some ⟨(d,.ha (m+c) (cs++b))::sl,.slot d::Ta d (ad L ow),Jb d (wn L al),bx⟩else none:=rfl
theorem R9{i}:ab ⟨sl,ow,al,bx⟩ (.slot i)=some (look sl i):=rfl
def kP(o:Nat):Option (Nat×List PV)->Option PV
 |some (_,cs)=>cs[o]?
 |none=>none
theorem Q9{b o}:ab ⟨sl,ow,al,bx⟩ (.cell b o)=kP o (bx[b]?):=by
 simp only[ab];cases bx[b]?<;>rfl
theorem j3{o e}{cs}:kP o (some (e,cs))=cs[o]?:=rfl
def Cy(st:St)(d:Nat)(L:Loc):Option PV->PV->Option St
 |some (.ha m cs),.flat (.string z)=>if m+z.size<=Da/\cs.length=m/\owns st.ow L=true/\Uf cs=true then
  some ⟨(d,.ha (m+z.size) (cs++Jh z))::st.sl,.slot d::Ta d (ad L st.ow),Jb d (wn L st.al),st.bx⟩else none
 |_,_=>none
def Dy(st:St)(d:Nat)(y:PV):Option Loc->Option St
 |some L=>Cy st d L (ab st L) y
 |none=>none
def cv(st:St)(d:Nat):PV->Option St
 | .flat (.string z)=>if z.size<=Da then(if z.size=0 then some (st.put d (.flat (.slice none 0 0)))else some (st.yc d (.ha z.size (Jh z))))else none
 |_=>none
theorem K2{z}:cv st d (.flat (.string z))=if z.size<=Da then(if z.size=0 then some (st.put d (.flat (.slice none 0 0)))else some (st.yc d (.ha z.size (Jh z))))else none:=rfl
def iT{x y}:na cf st (some d) (.appendS x y)=if xc (x.ev st.sl)then cv st d (y.ev st.sl)else(match x with| .t s=>Dy st d (y.ev st.sl) (Li st.ow st.al s)| .c _=>none):=by
 simp only[na];split
 ·grind [cv]
 ·cases x with
  |c v=>rfl
  |t s=>
   simp only[wR];cases Li st.ow st.al s with
   |none=>rfl
   |some L=>
    simp only[Ra,Dy];generalize ab st L=p;generalize y.ev st.sl=q;cases p with
    |none=>rfl
    |some p=>
     cases p with
     |ha m cs=>
      cases q with
      |flat v=>cases v<;>first|rfl|(simp only[Cy,sj];rfl)
      |_=>rfl
     |_=>cases q<;>rfl
theorem zaA{s}{y}:na cf st (some d) (.appendS (.t s) y)=if xc (look st.sl s)then cv st d (y.ev st.sl)else Dy st d (y.ev st.sl) (Li st.ow st.al s):=iT
theorem zaz{v}{y}:na cf st (some d) (.appendS (.c v) y)=if xc v then cv st d (y.ev st.sl)else none:=iT
theorem L2{y}{L}:Dy st d y (some L)=Cy st d L (ab st L) y:=rfl
theorem M2{m}{L}{cs}{z}:Cy ⟨sl,ow,al,bx⟩ d L (some (.ha m cs)) (.flat (.string z))=if m+z.size<=Da/\cs.length=m/\owns ow L=true/\Uf cs=true then some ⟨(d,.ha (m+z.size) (cs++Jh z))::sl,.slot d::Ta d (ad L ow),Jb d (wn L al),bx⟩else none:=rfl
def Gq(st:St):Option Nat->List PV->Bool->St
 |none,_,_=>st
 |some d,vs,true=>st.yc d (Nc vs)
 |some d,vs,false=>st.put d (Nc vs)
theorem G4{vs}{os}:Gq st none vs os=st:=rfl
theorem H4{vs}:Gq st (some d) vs true=st.yc d (Nc vs):=rfl
theorem F4{vs}:Gq st (some d) vs false=st.put d (Nc vs):=rfl
def Wo(al:List (Nat×Loc)):List (Nat×Loc):=al.filter fun p=>!Ca p.2
theorem ic:Wo []=[]:=rfl
theorem kZ{t i}{r}:Wo ((t,.slot i)::r)=(t,.slot i)::Wo r:=ja
theorem jZ{t b o}{r}:Wo ((t,.cell b o)::r)=Wo r:=ja
def ID(st:St)(dst:Option Nat):Option Cg->Option St
 |some (vs,os,bx,oc)=>some (Gq ⟨st.sl,Oe oc++ui st.ow,Wo st.al,bx⟩ dst vs os)
 |none=>none
theorem nW{dst}{f}{args}:Dc cf ⟨sl,ow,al,bx⟩ dst f args=ID ⟨sl,ow,al,bx⟩ dst (cf f args bx (Oe ow)):=by
 simp only[Dc,jq];cases cf f args bx (Oe ow)with
 |none=>rfl
 |some r=>
  obtain⟨vs,os,bx',oc⟩:=r;simp only[kd,ID,yH,Wo];cases dst with
  |none=>rfl
  |some d=>cases os<;>rfl
theorem Y2{dst}{vs}{os}{bx'}{oc}:ID ⟨sl,ow,al,bx⟩ dst (some (vs,os,bx',oc))=some (Gq ⟨sl,Oe oc++ui ow,Wo al,bx'⟩ dst vs os):=rfl
def Iy(cf:Callee)(st:St)(dst:Option Nat)(f:FuncId)(args:List PV):Option Cg->Option St
 |some (vs,os,_,_)=>if gc vs then some (Gq st dst vs os)else Dc cf st dst f args
 |none=>none
def Hy(cf:Callee)(st:St)(dst:Option Nat)(f:FuncId)(args:List PV):Bool->Option St
 |true=>Iy cf st dst f args (cf f args [] [])
 |false=>Dc cf st dst f args
theorem oW{dst}{f}{args}:Sd cf st dst f args=Hy cf st dst f args (gc args):=by
 unfold Sd;cases gc args with
 |false=>rfl
 |true=>
  simp only[if_true,Hy];cases cf f args [] []with
  |none=>rfl
  |some r=>
   obtain⟨vs,os,bx',oc⟩:=r;simp only[Ra,Iy];split
   ·cases dst with
    |none=>rfl
    |some d=>cases os<;>rfl
   ·rfl
theorem i3{dst}{f}{args}:Hy cf st dst f args true=Iy cf st dst f args (cf f args [] []):=rfl
theorem h3{dst}{f}{args}:Hy cf st dst f args false=Dc cf st dst f args:=rfl
theorem Z2{dst}{f}{args vs}{os}{bx'}{oc}:Iy cf st dst f args (some (vs,os,bx',oc))=if gc vs then some (Gq st dst vs os)else Dc cf st dst f args:=rfl
theorem zaJ{dst}{f}{args}:na cf st dst (.call f args)=Sd cf st dst f (Tk st.sl args):=by
 simp only[na,sq]
def JD(cf:Callee)(st:St)(dst:Option Nat)(args:List PV):PV->Option St
 | .fb f Oa=>if f=hb then none else Sd cf st dst f (args++Oa)
 | .Ma b=>Dc cf st dst hb (.Ma b::args)
 |_=>none
theorem zaK{dst}{g}{args}:na cf st dst (.callv g args)=JD cf st dst (Tk st.sl args) (g.ev st.sl):=by
 simp only[na,sq];rfl
theorem b3{dst}{args Oa}{f}:JD cf st dst args (.fb f Oa)=if f=hb then none else Sd cf st dst f (args++Oa):=rfl
theorem d3{dst}{args}{b}:JD cf st dst args (.Ma b)=Dc cf st dst hb (.Ma b::args):=rfl
theorem zak{dst}{op}:stepG cf st ⟨dst,none,op⟩=na cf st dst op:=rfl
def SD(cf:Callee)(st:St)(dst:Option Nat)(op:Ea)(a:Bool):PV->Option St
 | .flat (.bool b)=>if b=a then na cf st dst op else some (st.Uc dst (.Mb []))
 | .Mb []=>some (st.Uc dst (.Mb []))
 |_=>none
theorem zal{dst}{op}{s}{a}:stepG cf st ⟨dst,some (s,a),op⟩=SD cf st dst op a (look st.sl s):=by
 simp only[stepG,de];generalize look st.sl s=p;cases p with
 |flat v=>cases v<;>first|rfl|(rename_i b;cases b<;>cases a<;>rfl)
 |Mb l=>cases l<;>rfl
 |_=>rfl
theorem G3{dst}{op}{b a}:SD cf st dst op a (.flat (.bool b))=if b=a then na cf st dst op else some (st.Uc dst (.Mb [])):=rfl
theorem H3{dst}{op}{a}:SD cf st dst op a (.Mb [])=some (st.Uc dst (.Mb [])):=rfl
def nP(cf:Callee)(r:List Qa):Option St->Option St
 |some st=>vc cf r st
 |none=>none
theorem H7:vc cf [] st=some st:=rfl
theorem G7{o}{r}:vc cf (o::r) st=nP cf r (stepG cf st o):=by
 simp only[vc];cases stepG cf st o<;>rfl
theorem h4{r}:nP cf r (some st)=vc cf r st:=rfl
def pP(cf:Callee)(r:List Qa):Option St->Option St
 |some st=>Xf cf r st
 |none=>none
theorem pre_nil:Xf cf [] st=some st:=rfl
theorem H9{o}{r}:Xf cf (o::r) st=pP cf r (fe cf st o):=by
 simp only[Xf];cases fe cf st o<;>rfl
theorem p4{r}:pP cf r (some st)=Xf cf r st:=rfl
def Jy(cf:Callee)(st:St)(dst:Option Nat)(op:Ea):Bool->Option St
 |true=>na cf st dst op
 |false=>none
theorem p3{dst}{op}:Jy cf st dst op true=na cf st dst op:=rfl
theorem zbd{dst}{op}:fe cf st ⟨dst,none,op⟩=Jy cf st dst op (sb cf st.sl op):=by
 simp only[fe,de,Ra,if_true];cases sb cf st.sl op<;>rfl
def My(cf:Callee)(st:St)(dst:Option Nat)(op:Ea)(a:Bool):PV->Option St
 | .flat (.bool b)=>if b=a then Jy cf st dst op (sb cf st.sl op)else some (st.Uc dst (.Mb []))
 | .Mb []=>some (st.Uc dst (.Mb []))
 |_=>none
theorem zbe{dst}{op}{s}{a}:fe cf st ⟨dst,some (s,a),op⟩=My cf st dst op a (look st.sl s):=by
 simp only[fe,de];generalize look st.sl s=p;cases p with
 |flat v=>
  cases v<;>first|rfl|skip
  rename_i b;cases b<;>cases a<;>first|rfl|(simp only[My,Ra,Dh,if_true];cases sb cf st.sl op<;>rfl)
 |Mb l=>cases l<;>rfl
 |_=>rfl
theorem E3{dst}{op}{b a}:My cf st dst op a (.flat (.bool b))=if b=a then Jy cf st dst op (sb cf st.sl op)else some (st.Uc dst (.Mb [])):=rfl
theorem F3{dst}{op}{a}:My cf st dst op a (.Mb [])=some (st.Uc dst (.Mb [])):=rfl
theorem d9{x}:sb cf sl (.mv x)=true:=rfl
theorem e9{s}:sb cf sl (.mvA s)=true:=rfl
theorem E8{x}:sb cf sl (.asg x)=true:=rfl
theorem i9{a b c}:sb cf sl (.pick a b c)=true:=rfl
theorem H8{o}{x y}:sb cf sl (.bin o x y)=true:=rfl
theorem O8{b}{a}{x y}:sb cf sl (.Sk b a x y)=true:=rfl
theorem G8{b}{x y}:sb cf sl (.beq b x y)=true:=rfl
theorem f9{x}:sb cf sl (.sp x)=true:=rfl
theorem g9{x}:sb cf sl (.qk x)=true:=rfl
theorem m9{o}{x}:sb cf sl (.un o x)=true:=rfl
theorem N8{k}{x}:sb cf sl (.conv k x)=true:=rfl
theorem F8{x}:sb cf sl (.b2s x)=true:=rfl
theorem J8{zs}{ps}:sb cf sl (.build zs ps)=true:=rfl
theorem b9{b}{m k}{zs}{ps}:sb cf sl (.mksl b m k zs ps)=true:=rfl
theorem Y8{g}{m}{a}:sb cf sl (.load g m a)=true:=rfl
theorem Z8{a}:sb cf sl (.loadA a)=true:=rfl
theorem Q8{o}{a}:sb cf sl (.im o a)=true:=rfl
theorem R8{g}{o m}{a}:sb cf sl (.jm g o m a)=true:=rfl
theorem S8{m}{x i}:sb cf sl (.Jg m x i)=true:=rfl
theorem T8{x i}:sb cf sl (.idx x i)=true:=rfl
theorem V8{g}{m k}{x i}:sb cf sl (.om g m k x i)=true:=rfl
theorem h9{m k}{x i}:sb cf sl (.xm m k x i)=true:=rfl
theorem k9{m k}{x}{b a}:sb cf sl (.sliceP m k x b a)=true:=rfl
theorem j9{m}{x}{b a}:sb cf sl (.slice m x b a)=true:=rfl
theorem l9{x}{b a}:sb cf sl (.sliceS x b a)=true:=rfl
theorem P8{x}{i}:sb cf sl (.ext x i)=true:=rfl
theorem W8{x}:sb cf sl (.len x)=true:=rfl
theorem X8{x}:sb cf sl (.Gn x)=true:=rfl
theorem c9{b}{x y}:sb cf sl (.mm b x y)=true:=rfl
theorem M8{f}{cs}:sb cf sl (.clos f cs)=true:=rfl
theorem D8{e}{zs}:sb cf sl (.alloc e zs)=ol zs:=rfl
theorem I8{e m}{x}:sb cf sl (.box e m x)=ol (x.ev sl).cells:=rfl
theorem K8{f}{args}:sb cf sl (.call f args)=Mi cf f (Tk sl args):=by grind [sb,sq]
theorem L8{g}{args}:sb cf sl (.callv g args)=match g.ev sl with| .fb f Oa=>f !=hb&&Mi cf f (Tk sl args++Oa)|_=>false:=by
 grind [sb,sq]
def oP:Option Cg->Bool
 |some (vs,_)=>gc vs
 |none=>false
theorem x9{f}{args}:Mi cf f args=(gc args&&oP (cf f args [] [])):=by
 rfl
theorem o4{vs}{r}:oP (some (vs,r))=gc vs:=rfl
def Qy(live:List Nat):Option St->Option (Out×St)
 |some st=>some (.normal,st.uf live)
 |none=>none
theorem C4:Qy live (some st)=some (.normal,st.uf live):=rfl
def dE(cf:Callee)(live:List Nat)(a:List Qa):Option St->Option (Out×St)
 |some st=>Qy live (vc cf a st)
 |none=>none
theorem y4{a}:dE cf live a (some st)=Qy live (vc cf a st):=rfl
noncomputable def kT(cf:Callee)(live:List Nat)(t:BT):Option St->Option St
 |some st=>yd cf live t st
 |none=>none
theorem W4{t}:kT cf live t (some st)=yd cf live t st:=rfl
theorem zct:yd cf live .done st=some (st.uf live):=rfl
theorem zcu{o}{t}:yd cf live (.one o t) st=kT cf live t (stepG cf st o):=by
 simp only[yd];cases stepG cf st o<;>rfl
theorem zcv{o}{t r}:yd cf live (.two o t r) st=same (kT cf live t (stepG cf st o)) (yd cf live r st):=by
 simp only[yd];cases stepG cf st o<;>rfl
theorem sH{st:St}:same (some st) (some st)=some st:=if_pos rfl
def Ry:Option St->Option (Out×St)
 |some st=>some (.normal,st)
 |none=>none
theorem B4:Ry (some st)=some (.normal,st):=rfl
theorem U9:ye cf [] st=some st:=rfl
noncomputable def kQ(cf:Callee)(r:List Qa):Option St->Option St
 |some st=>ye cf r st
 |none=>none
theorem r4{r}:kQ cf r (some st)=ye cf r st:=rfl
theorem T9{o}{r}:ye cf (o::r) st=kQ cf r (Jc cf st o):=by
 simp only[ye];cases Jc cf st o<;>rfl
noncomputable def ip(st:St)(d:Nat):Option St->Option St
 |some s'=>nv st d s' (s'.bx=st.bx) (s'.ow.filter Ca=st.ow.filter Ca)
 |none=>none
where
 nv (st:St) (d:Nat) (s':St) (p q:Prop):Option St:=open Classical in if p/\q then some (st.put d (look s'.sl d))else none
theorem s4{s1}{b}{c}{a}{d}:ip ⟨sl,ow,al,bx⟩ d (some ⟨s1,b,c,a⟩)=ip.nv ⟨sl,ow,al,bx⟩ d ⟨s1,b,c,a⟩ (a=bx) (Oe b=Oe ow):=by
 grind [ip,jq]
theorem w4{d}{s1}{c}{a}{b}:ip.nv st d ⟨s1,c,a,b⟩ True True=some (st.put d (look s1 d)):=by
 grind [ip.nv]
theorem zbt{d}{g}{f}{az}:Jc cf st ⟨some d,g,.call f az⟩=ip st d (stepG cf st ⟨some d,g,.call f az⟩):=by
 unfold Jc;dsimp only;cases stepG cf st ⟨some d,g,.call f az⟩<;>grind [ip,ip.nv]
theorem zbH{d}{g}{x}:Jc cf st ⟨d,g,.mv x⟩=stepG cf st ⟨d,g,.mv x⟩:=ja
theorem zbp{d}{g}{x}:Jc cf st ⟨d,g,.asg x⟩=stepG cf st ⟨d,g,.asg x⟩:=ja
theorem zbL{d}{g}{a b c}:Jc cf st ⟨d,g,.pick c a b⟩=stepG cf st ⟨d,g,.pick c a b⟩:=ja
theorem zbr{d}{g}{o}{x y}:Jc cf st ⟨d,g,.bin o x y⟩=stepG cf st ⟨d,g,.bin o x y⟩:=ja
theorem zbw{d}{g}{b}{a}{x y}:Jc cf st ⟨d,g,.Sk b a x y⟩=stepG cf st ⟨d,g,.Sk b a x y⟩:=ja
theorem zbq{d}{g}{b}{x y}:Jc cf st ⟨d,g,.beq b x y⟩=stepG cf st ⟨d,g,.beq b x y⟩:=ja
theorem zbI{d}{g}{x}:Jc cf st ⟨d,g,.sp x⟩=stepG cf st ⟨d,g,.sp x⟩:=ja
theorem zbJ{d}{g}{x}:Jc cf st ⟨d,g,.qk x⟩=stepG cf st ⟨d,g,.qk x⟩:=ja
theorem zbP{d}{g}{o}{x}:Jc cf st ⟨d,g,.un o x⟩=stepG cf st ⟨d,g,.un o x⟩:=ja
theorem zbv{d}{g}{k}{x}:Jc cf st ⟨d,g,.conv k x⟩=stepG cf st ⟨d,g,.conv k x⟩:=ja
theorem zbs{d}{g}{zs}{ps}:Jc cf st ⟨d,g,.build zs ps⟩=stepG cf st ⟨d,g,.build zs ps⟩:=ja
theorem zbF{d}{g}{b}{m}{x}:Jc cf st ⟨d,g,.load b m x⟩=stepG cf st ⟨d,g,.load b m x⟩:=ja
theorem zby{d}{g}{o}{x}:Jc cf st ⟨d,g,.im o x⟩=stepG cf st ⟨d,g,.im o x⟩:=ja
theorem zbz{d}{g}{b}{o m}{x}:Jc cf st ⟨d,g,.jm b o m x⟩=stepG cf st ⟨d,g,.jm b o m x⟩:=ja
theorem zbA{d}{g}{m}{x i}:Jc cf st ⟨d,g,.Jg m x i⟩=stepG cf st ⟨d,g,.Jg m x i⟩:=ja
theorem zbB{d}{g}{x i}:Jc cf st ⟨d,g,.idx x i⟩=stepG cf st ⟨d,g,.idx x i⟩:=ja
theorem zbC{d}{g}{b}{m k}{x i}:Jc cf st ⟨d,g,.om b m k x i⟩=stepG cf st ⟨d,g,.om b m k x i⟩:=ja
theorem zbK{d}{g}{m k}{x i}:Jc cf st ⟨d,g,.xm m k x i⟩=stepG cf st ⟨d,g,.xm m k x i⟩:=ja
theorem zbN{d}{g}{m k}{x}{b a}:Jc cf st ⟨d,g,.sliceP m k x b a⟩=stepG cf st ⟨d,g,.sliceP m k x b a⟩:=ja
theorem zbM{d}{g}{m}{x}{b a}:Jc cf st ⟨d,g,.slice m x b a⟩=stepG cf st ⟨d,g,.slice m x b a⟩:=ja
theorem zbO{d}{g}{x}{b a}:Jc cf st ⟨d,g,.sliceS x b a⟩=stepG cf st ⟨d,g,.sliceS x b a⟩:=ja
theorem zbx{d}{g}{x}{i}:Jc cf st ⟨d,g,.ext x i⟩=stepG cf st ⟨d,g,.ext x i⟩:=ja
theorem zbD{d}{g}{x}:Jc cf st ⟨d,g,.len x⟩=stepG cf st ⟨d,g,.len x⟩:=ja
theorem zbE{d}{g}{x}:Jc cf st ⟨d,g,.Gn x⟩=stepG cf st ⟨d,g,.Gn x⟩:=ja
theorem zbG{d}{g}{b}{x y}:Jc cf st ⟨d,g,.mm b x y⟩=stepG cf st ⟨d,g,.mm b x y⟩:=ja
theorem zbu{d}{g}{f}{xs}:Jc cf st ⟨d,g,.clos f xs⟩=stepG cf st ⟨d,g,.clos f xs⟩:=ja
noncomputable def eE(cf:Callee)(live:List Nat)(t:BT):Option St->Option (Out×St)
 |some st=>Ry (yd cf live t st)
 |none=>none
theorem A4{t}:eE cf live t (some st)=Ry (yd cf live t st):=rfl
theorem iW{t}:pa cf n (.dg live [] t) st=Ry (yd cf live t st):=by
 simp only[pa,ye,Ra];cases yd cf live t st<;>rfl
theorem jW{p}{ps}{t}:pa cf n (.dg live (p::ps) t) st=eE cf live t (ye cf (p::ps) st):=by
 simp only[pa];cases ye cf (p::ps) st with
 |none=>rfl
 |some s=>simp only[Ra,eE];cases yd cf live t s<;>rfl
theorem mW:pa cf n .skip st=some (.normal,st):=rfl
theorem gW{a}:pa cf n (.Ld live [] a) st=Qy live (vc cf a st):=by
 simp only[pa,Xf,Ra];cases vc cf a st<;>rfl
theorem hW{p}{ps a}:pa cf n (.Ld live (p::ps) a) st=dE cf live a (Xf cf (p::ps) st):=by
 simp only[pa];cases Xf cf (p::ps) st with
 |none=>rfl
 |some s=>simp only[Ra,dE];cases vc cf a s<;>rfl
noncomputable def Sy(cf:Callee)(n:Nat)(b:oa):Option (Out×St)->Option (Out×St)
 |some (.normal,st)=>pa cf n b st
 |some (.exit i,st)=>some (.exit i,st)
 |some (.ret,st)=>some (.ret,st)
 |none=>none
theorem lW{a b}:pa cf n (.seq a b) st=Sy cf n b (pa cf n a st):=by
 simp only[pa];cases pa cf n a st with
 |none=>rfl
 |some r=>obtain⟨o,s⟩:=r;cases o<;>rfl
theorem K4{b}:Sy cf n b (some (.normal,st))=pa cf n b st:=rfl
theorem J4{b}{i}:Sy cf n b (some (.exit i,st))=some (.exit i,st):=rfl
theorem L4{b}:Sy cf n b (some (.ret,st))=some (.ret,st):=rfl
noncomputable def lP(cf:Callee)(n:Nat)(a b:oa)(st:St):PV->Option (Out×St)
 | .flat (.bool t)=>if t then pa cf n a st else pa cf n b st
 |_=>none
theorem bW{c}{a b}:pa cf n (.cond c a b) st=lP cf n a b st (c.ev st.sl):=by
 rfl
theorem k3{a b}{t}:lP cf n a b st (.flat (.bool t))=if t then pa cf n a st else pa cf n b st:=rfl
def fv(id nb:Nat):Option (Out×St)->Option (Out×St)
 |some (.normal,st)=>some (.normal,st.fi nb)
 |some (.exit j,st)=>if j=id then some (.normal,st.fi nb)else some (.exit j,st)
 |some (.ret,st)=>some (.ret,st)
 |none=>none
theorem aW{id}{b}:pa cf n (.block id b) st=fv id st.bx.length (pa cf n b st):=by
 simp only[pa];cases pa cf n b st with
 |none=>rfl
 |some r=>
  obtain⟨o,s⟩:=r;cases o<;>grind [fv]
theorem T2{id nb}:fv id nb (some (.normal,st))=some (.normal,st.fi nb):=rfl
theorem S2{id nb j}:fv id nb (some (.exit j,st))=if j=id then some (.normal,st.fi nb)else some (.exit j,st):=rfl
theorem U2{id nb}:fv id nb (some (.ret,st))=some (.ret,st):=rfl
theorem dW{b}:pa cf n (.loop live b) st=Fc (pa cf n b) live st.bx.length n (st.only live st.bx.length):=rfl
theorem cW{id}:pa cf n (.exit id live) st=some (.exit id,st.uf live):=rfl
theorem kW:pa cf n (.ret live) st=some (.ret,st.uf live):=rfl
def kv(b:Nat)(f k:Nat)(live:List Nat)(a:List PV)(st:St):Tp->Option (Out×St)
 | .ready=>some (.normal,⟨st.sl,st.ow,st.al,st.bx.set b (0,[.lp f k .over live a])⟩)
 | .done (.exit i)=>some (.exit i,⟨st.sl,st.ow,st.al,st.bx.set b (0,[.lp f k .over live a])⟩)
 | .done .ret=>some (.ret,⟨st.sl,st.ow,st.al,st.bx.set b (0,[.lp f k .over live a])⟩)
 |_=>none
theorem j4{b f k}{a}:kv b f k live a ⟨sl,ow,al,bx⟩ .ready=some (.normal,⟨sl,ow,al,bx.set b (0,[.lp f k .over live a])⟩):=rfl
theorem i4{b f k i}{a}:kv b f k live a ⟨sl,ow,al,bx⟩ (.done (.exit i))=some (.exit i,⟨sl,ow,al,bx.set b (0,[.lp f k .over live a])⟩):=rfl
theorem k4{b f k}{a}:kv b f k live a ⟨sl,ow,al,bx⟩ (.done .ret)=some (.ret,⟨sl,ow,al,bx.set b (0,[.lp f k .over live a])⟩):=rfl
def MD(b:Nat)(st:St):Option (Nat×List PV)->Option (Out×St)
 |some (_,[.lp f k s live a])=>kv b f k live a st s
 |_=>none
theorem q3{b e f k}{s}{a}:MD b st (some (e,[.lp f k s live a]))=kv b f k live a st s:=rfl
def gE(b:Nat):Option St->Option (Out×St)
 |some st=>MD b st (st.bx[b]?)
 |none=>none
theorem I4{b}:gE b (some ⟨sl,ow,al,bx⟩)=MD b ⟨sl,ow,al,bx⟩ (bx[b]?):=rfl
def cE(cf:Callee)(f k:Nat)(live:List Nat)(st:St):PV->Option (Out×St)
 | .fb h Oa=>if h=hb then none else gE st.bx.length (Dc cf ⟨st.sl,st.ow,st.al,st.bx++[(0,[.lp f k .ready live (Rg (oi st.sl live))])]⟩ none h (.Ma st.bx.length::Oa))
 |_=>none
theorem fW{f k}{g}:pa cf n (.range f k live g) st=cE cf f k live st (g.ev st.sl):=by
 have a:live.map (look st.sl)=Rg (oi st.sl live):=by
  rw[<-AA,ZP,List.map_map];rfl
 simp only[pa,Zj];generalize g.ev st.sl=p;cases p with
 |fb h Oa=>
  simp only[cE];split
  ·rfl
  ·rw[a]
   cases Dc cf ⟨st.sl,st.ow,st.al,st.bx++[(0,[.lp f k .ready live (Rg (oi st.sl live))])]⟩ none h (.Ma st.bx.length::Oa)with
   |none=>rfl
   |some b=>
    rfl
 |_=>rfl
theorem x4{f k}{h}{Oa}:cE cf f k live ⟨sl,ow,al,bx⟩ (.fb h Oa)=if h=hb then none else gE bx.length (Dc cf ⟨sl,ow,al,bx++[(0,[.lp f k .ready live (Rg (oi sl live))])]⟩ none h (.Ma bx.length::Oa)):=rfl
def jh(st:St):List (Sum Nat (Nat×Bool×Nat))->Option (List PV)
 |[]=>some []
 | .inl i::r=>(jh st r).map (look st.sl i::·)
 | .inr (i,agg,m)::r=>fE (match look st.sl i with| .ptr b o=>yl agg m o (vd st.bx b)|_=>none) (jh st r)
where fE:Option PV->Option (List PV)->Option (List PV)
 |some v,some vs=>some (v::vs)
 |_,_=>none
theorem B_:jh st []=some []:=rfl
theorem tS{i}{r}:jh st (.inl i::r)=(jh st r).map (look st.sl i::·):=rfl
def ov(st:St)(agg:Bool)(m:Nat):PV->Option PV
 | .ptr b o=>yl agg m o (vd st.bx b)
 |_=>none
theorem uS{i m}{agg}{r}:jh st (.inr (i,agg,m)::r)=jh.fE (ov st agg m (look st.sl i)) (jh st r):=by
 rfl
theorem E4{agg}{m b o}:ov ⟨sl,ow,al,bx⟩ agg m (.ptr b o)=yl agg m o (vd bx b):=rfl
theorem D4{v}{vs}:jh.fE (some v) (some vs)=some (v::vs):=rfl
theorem lH:∀l,l.mapM (Oi st)=jh st l
 |[]=>rfl
 | .inl i::r=>by
   rw[Cp,lH r,tS];simp only[Oi,Option.pure_def,Option.bind_eq_bind,Ra];cases jh st r<;>rfl
 | .inr (i,agg,m)::r=>by
   rw[Cp,lH r,uS];have a:Oi st (.inr (i,agg,m))=ov st agg m (look st.sl i):=by
    simp only[Oi];generalize look st.sl i=p;cases p with
    |ptr b o=>
     simp only[ov];cases vd st.bx b with
     |none=>rfl
     |some q=>obtain⟨e,cs⟩:=q;cases agg<;>rfl
    |_=>rfl
   rw[a];simp only[Option.pure_def,Option.bind_eq_bind];cases ov st agg m (look st.sl i)with
   |none=>rfl
   |some v=>cases jh st r<;>rfl
def fk(yb:List (Sum Nat (Nat×Bool×Nat)))(bx:Ha)(st:St):Option (List PV)->Option Cg
 |some vs=>some (vs,Xq yb st.ow,trim bx.length vs st.bx,Nb (trim bx.length vs st.bx).length st.ow)
 |none=>none
where Xq:List (Sum Nat (Nat×Bool×Nat))->List Loc->Bool
 |[.inl s],ow=>owns ow (.slot s)
 |_,_=>false
def Ly(yb:List (Sum Nat (Nat×Bool×Nat)))(bx:Ha):Option (Out×St)->Option Cg
 |some (.normal,st)=>fk yb bx st (jh st yb)
 |some (.ret,st)=>fk yb bx st (jh st yb)
 |_=>none
theorem ma{code}{lib}{f}{nt}{yb}{body}{Qi}(c:code f=some ⟨nt,yb,body,Qi⟩){args}{bx}{oc}{r}(e:args.length<=nt)
 (h:Ly yb bx (pa (fa code lib) ka body ⟨ag 0 args,oc,[],bx⟩)=some r):fa code lib f args bx oc=some r:=by
 refine VZ (n:=ka) c ?_;unfold bp;dsimp only;rw[if_pos e];cases b:pa (fa code lib) ka body ⟨ag 0 args,oc,[],bx⟩with
 |none=>rw[b]at h;cases h
 |some p=>
  obtain⟨o,st⟩:=p;rw[b]at h;have a:Qn yb st.ow=fk.Xq yb st.ow:=by
   have d:∀s,decide (Loc.slot s∈st.ow)=owns st.ow (.slot s):=fun s=>by
    grind [sj]
   clear b h c;generalize yb=rs;rcases rs with _|⟨q,_|⟨g,rs⟩⟩
   ·rfl
   ·cases q with
    |inl s=>exact d s
    |inr x=>rfl
   ·cases q<;>rfl
  have fin:fk yb bx st (jh st yb)=some r->(yb.mapM (Oi st)).map (fun vs=>(vs,Qn yb st.ow,trim bx.length vs st.bx,Yg (trim bx.length vs st.bx).length st.ow))=some r:=fun h=>by
   rw[lH];cases hr:jh st yb with
   |none=>rw[hr]at h;cases h
   |some vs=>rw[hr]at h;simp only[kd,a,Ct];exact h
  cases o with
  |exit i=>cases h
  |normal=>exact fin h
  |ret=>exact fin h
theorem y3{yb}:Ly yb bx (some (.normal,st))=fk yb bx st (jh st yb):=rfl
theorem A3{yb}:Ly yb bx (some (.ret,st))=fk yb bx st (jh st yb):=rfl
theorem N3{yb}{vs}:fk yb bx st (some vs)=some (vs,fk.Xq yb st.ow,trim bx.length vs st.bx,Nb (trim bx.length vs st.bx).length st.ow):=rfl
theorem W7{s}:fk.Xq [.inl s] ow=owns ow (.slot s):=rfl
theorem V7:fk.Xq [] ow=false:=rfl
theorem Y7{q}{r}:fk.Xq (.inr q::r) ow=false:=rfl
theorem X7{a b}{r}:fk.Xq (a::b::r) ow=false:=by cases a<;>rfl
def Es(nb b:Nat)(f k:Nat)(live:List Nat)(a:List PV)(o:Out)(ow:List Loc)(bx:Ha):Option Cg:=
 match o with
 | .normal=>some ([.flat (.bool true)],false,trim nb [] (bx.set b (0,[.lp f k .ready live a])),Nb (trim nb [] (bx.set b (0,[.lp f k .ready live a]))).length ow)
 | .exit i=>some ([.flat (.bool false)],false,trim nb [] (bx.set b (0,[.lp f k (.done (.exit i)) live a])),Nb (trim nb [] (bx.set b (0,[.lp f k (.done (.exit i)) live a]))).length ow)
 | .ret=>some ([.flat (.bool false)],false,trim nb [] (bx.set b (0,[.lp f k (.done .ret) live a])),Nb (trim nb [] (bx.set b (0,[.lp f k (.done .ret) live a]))).length ow)
def Vy(nb b:Nat)(o:Out)(st:St):Option (Nat×List PV)->Option Cg
 |some (_,[.lp f k .busy live a])=>Es nb b f k live a o st.ow st.bx
 |_=>none
def Wy(nb b:Nat):Option (Out×St)->Option Cg
 |some (o,st)=>Vy nb b o st (st.bx[b]?)
 |none=>none
noncomputable def Xy(cf:Callee)(n:Nat)(nb b:Nat)(body:oa)(st:St):Option (Nat×List PV)->Option Cg
 |some (_,[.lp f k .ready live a])=>Wy nb b (pa cf n body ⟨st.sl,st.ow,st.al,st.bx.set b (0,[.lp f k .busy live a])⟩)
 |_=>none
noncomputable def lE(cf:Callee)(n:Nat)(nb b:Nat)(body:oa):Option (Out×St)->Option Cg
 |some (.normal,st)=>Xy cf n nb b body st (st.bx[b]?)
 |_=>none
theorem fs{code}{lib}(F:code hb=none){f k b e:Nat}{a}{c}{ps}{q t}(C:code f=some c)(E:c.Qi[k]?=some (ps,q,t)){az}{bx}{oc}{r}
 (B:bx[b]?=some (e,[.lp f k .ready live a])) (D:az.length=ps.length)
 (h:lE (fa code lib) ka bx.length b t (pa (fa code lib) ka q ⟨(ps.zip az).foldl (fun l p=>p::l) (live.zip a),oc,[],bx⟩)=some r):fa code lib hb (.Ma b::az) bx oc=some r:=by
 refine WZ (n:=ka) F ?_;unfold Uk;dsimp only;rw[B];dsimp only;rw[C,Ra,E,Ra,if_pos D];dsimp only;cases z:pa (fa code lib) ka q ⟨(ps.zip az).foldl (fun l p=>p::l) (live.zip a),oc,[],bx⟩with
 |none=>rw[z]at h;cases h
 |some p=>
  obtain⟨H,s1⟩:=p;rw[z]at h;simp only[Ra];cases H with
  |exit i=>cases h
  |ret=>cases h
  |normal=>
   simp only[lE]at h;unfold Xy at h;split at h
   case h_2=>cases h
   rename_i e1 A G d g u;rw[u];dsimp only;cases j:pa (fa code lib) ka t ⟨s1.sl,s1.ow,s1.al,s1.bx.set b (0,[.lp A G .busy d g])⟩with
   |none=>rw[j]at h;cases h
   |some p=>
    obtain⟨o,s⟩:=p;rw[j]at h;simp only[Ra];simp only[Wy]at h;unfold Vy at h;split at h
    case h_2=>cases h
    rename_i e2 I J x y w;rw[w];dsimp only;have ht:∀(v:Bool)(bx':Ha),trim bx.length [.flat (.bool v)] bx'=trim bx.length [] bx':=fun v bx'=>by
     rfl
    grind [Es,Ct]
theorem X4{nb b}{body}:lE cf n nb b body (some (.normal,⟨sl,ow,al,bx⟩))=Xy cf n nb b body ⟨sl,ow,al,bx⟩ (bx[b]?):=rfl
theorem b5{nb b e f k}{body}{a}:Xy cf n nb b body ⟨sl,ow,al,bx⟩ (some (e,[.lp f k .ready live a]))=Wy nb b (pa cf n body ⟨sl,ow,al,bx.set b (0,[.lp f k .busy live a])⟩):=rfl
theorem Z4{nb b}{o}:Wy nb b (some (o,⟨sl,ow,al,bx⟩))=Vy nb b o ⟨sl,ow,al,bx⟩ (bx[b]?):=rfl
theorem Y4{nb b e f k}{o}{a}:Vy nb b o ⟨sl,ow,al,bx⟩ (some (e,[.lp f k .busy live a]))=Es nb b f k live a o ow bx:=rfl
theorem f5{nb b f k}{a}:Es nb b f k live a .normal ow bx=some ([.flat (.bool true)],false,trim nb [] (bx.set b (0,[.lp f k .ready live a])),Nb (trim nb [] (bx.set b (0,[.lp f k .ready live a]))).length ow):=rfl
theorem d5{nb b f k i}{a}:Es nb b f k live a (.exit i) ow bx=some ([.flat (.bool false)],false,trim nb [] (bx.set b (0,[.lp f k (.done (.exit i)) live a])),Nb (trim nb [] (bx.set b (0,[.lp f k (.done (.exit i)) live a]))).length ow):=rfl
theorem g5{nb b f k}{a}:Es nb b f k live a .ret ow bx=some ([.flat (.bool false)],false,trim nb [] (bx.set b (0,[.lp f k (.done .ret) live a])),Nb (trim nb [] (bx.set b (0,[.lp f k (.done .ret) live a]))).length ow):=rfl
end
theorem q0{k}{a b}:Ic .add (.int k a) (.int k b)=some (.int k (k.wrap (a+b))):=by simp[Ic]
theorem J0{k}{a b}:Ic .sub (.int k a) (.int k b)=some (.int k (k.wrap (a - b))):=by simp[Ic]
theorem B0{k}{a b}:Ic .mul (.int k a) (.int k b)=some (.int k (k.wrap (a* b))):=by simp[Ic]
theorem E0{k}{a b}:Ic .quo (.int k a) (.int k b)=if b=0 then none else some (.int k (k.wrap (a.tdiv b))):=by simp[Ic]
theorem G0{k}{a b}:Ic .rem (.int k a) (.int k b)=if b=0 then none else some (.int k (a.tmod b)):=by simp[Ic]
def Xl(k:IntKind)(a b:Int):Int:=k.wrap (BitVec.ofInt k.bits a&&&BitVec.ofInt k.bits b).toNat
theorem r0{k}{a b}:Ic .and (.int k a) (.int k b)=some (.int k (Xl k a b)):=by simp[Ic,Xl]
def Pk(k:IntKind)(a b:Int):Int:=k.wrap (BitVec.ofInt k.bits a|||BitVec.ofInt k.bits b).toNat
theorem D0{k}{a b}:Ic .or (.int k a) (.int k b)=some (.int k (Pk k a b)):=by simp[Ic,Pk]
def PJ(k:IntKind)(a b:Int):Int:=k.wrap (BitVec.ofInt k.bits a ^^^ BitVec.ofInt k.bits b).toNat
theorem K0{k}{a b}:Ic .xor (.int k a) (.int k b)=some (.int k (PJ k a b)):=by simp[Ic,PJ]
theorem H0{k k'}{a b}:Ic .shl (.int k a) (.int k' b)=if b<0 then none else some (.int k (k.wrap (a* 2^(min b.toNat k.bits)))):=ja
theorem I0{k k'}{a b}:Ic .shr (.int k a) (.int k' b)=if b<0 then none else some (.int k (a.fdiv (2^(min b.toNat k.bits)))):=ja
theorem s0{k}{a b}:Ic .eql (.int k a) (.int k b)=some (.bool (decide (a=b))):=by grind [Ic]
theorem C0{k}{a b}:Ic .neq (.int k a) (.int k b)=some (.bool (!decide (a=b))):=by grind [Ic]
theorem A0{k}{a b}:Ic .lss (.int k a) (.int k b)=some (.bool (decide (a<b))):=by simp[Ic]
theorem y0{k}{a b}:Ic .leq (.int k a) (.int k b)=some (.bool (decide (a<=b))):=by simp[Ic]
theorem x0{k}{a b}:Ic .gtr (.int k a) (.int k b)=some (.bool (decide (b<a))):=by simp[Ic]
theorem u0{k}{a b}:Ic .geq (.int k a) (.int k b)=some (.bool (decide (b<=a))):=by simp[Ic]
theorem px(a:ByteArray):a.toList=a.data.toList:=ByteArray.toList_eq a
def xn(a b:ByteArray):Bool:=decide (a=b)
theorem t1{a b}:Ic .add (.string a) (.string b)=if a.size+b.size<=Da then some (.string (a++b))else none:=rfl
def GN{a b}:(a.toList==b.toList)=xn a b:=by
 unfold xn;by_cases h:a=b
 ·grind
 ·have:a.toList≠b.toList:=fun e=>h (by
   cases a with|mk x=>cases b<;>grind [px,Array.ext'])
  grind
theorem EZ{a b}{d}{cs c}:Ec (.s::d) (.flat (.string a)::cs) (.flat (.string b)::c)=By (xn a b) (Ec d cs c):=by
 have h:(a==b)=xn a b:=by
  show(a.data==b.data)=_;unfold xn;by_cases h:a=b
  ·grind
  ·have:a.data≠b.data:=fun e=>h (by cases a;simp_all)
   grind
 simp only[Ec,h];cases Ec d cs c<;>rfl
theorem u1{a b}:Ic .eql (.string a) (.string b)=some (.bool (xn a b)):=by rw[<-GN];rfl
theorem v1{a b}:Ic .neq (.string a) (.string b)=some (.bool !(xn a b)):=by rw[<-GN];rfl
theorem x1{b}:ep .not (.bool b)=some (.bool !b):=rfl
theorem w1{k}{a}:ep .neg (.int k a)=some (.int k (k.wrap (0 - a))):=rfl
theorem wrap64{n}(h:-9223372036854775808<=n/\n<9223372036854775808):IntKind.i64.wrap n=n:=by
 grind [IntKind.wrap,IntKind.bits,IntKind.signed]
theorem wrap32{n}(h:-2147483648<=n/\n<2147483648):IntKind.i32.wrap n=n:=by
 grind [IntKind.wrap,IntKind.bits,IntKind.signed]
theorem Mj{n}(h:0<=n/\n<256):IntKind.u8.wrap n=n:=by
 grind [IntKind.wrap,IntKind.bits,IntKind.signed]
theorem S1{i}:ag i []=[]:=rfl
theorem R1{i}{v}{r}:ag i (v::r)=(i,v)::ag (i+1) r:=rfl
theorem ze3{f:Nat}:(f=hb)=(f=4611686018427387904):=rfl
def oa.lv:oa->List (List Nat)
 | .loop l c=>l::c.lv
 | .Ld l _ _=>[l]
 | .dg l _ _=>[l]
 | .range _ _ l _=>[l]
 | .exit _ l=>[l]
 | .ret l=>[l]
 | .seq a b=>a.lv++b.lv
 | .cond _ a b=>a.lv++b.lv
 | .block _ a=>a.lv
 | .skip=>[]
def C6(qs:List Nat)(F:Ba):Lv:=⟨F.body.lv,F.Qi.map fun q=>q.2.1.lv++q.2.2.lv,qs⟩
def rb{x y:oa}(h:x=y)(cf:Callee)(m:Nat)(st:St):pa cf m x st=pa cf m y st:=by rw[h]
theorem QF{α:Type}:∀{l:List (FuncId×α)}{f:FuncId}{a:α},l.lookup f=some a->(f,a)∈l
 |[],_,_,h=>by cases h
 |(k,b)::l,f,a,h=>by
  rw[List.lookup_cons]at h;split at h
  ·rename_i e
   cases h;rw[eq_of_beq e];exact Mt
  ·exact po _ (QF h)
namespace Q
abbrev i(n:Nat):X:=.c (.flat (.int .i64 n))
abbrev u(n:Nat):X:=.c (.flat (.int .u8 n))
abbrev s(l:Array UInt8):X:=.c (.flat (.string ⟨l⟩))
abbrev b(x:Bool):X:=.c (.flat (.bool x))
abbrev Z:PV:=.flat (.string ⟨#[]⟩)
abbrev V:PV:=.flat (.slice .none 0 0)
abbrev J:PV:=.flat (.int .i64 0)
abbrev o(d:Nat)(p:Ea):Qa:=⟨some d,none,p⟩
abbrev n(p:Ea):Qa:=⟨none,none,p⟩
abbrev g(k d:Nat)(p:Ea):Qa:=⟨some d,some ⟨k,true⟩,p⟩
abbrev h(k d:Nat)(p:Ea):Qa:=⟨some d,some ⟨k,false⟩,p⟩
abbrev m(d x:Nat):Qa:=⟨some d,none,.mv (.t x)⟩
abbrev a(d x:Nat):Qa:=⟨some d,none,.asg (.t x)⟩
abbrev M(x:Nat):Ea:=.mv (.t x)
abbrev A(x:Nat):Ea:=.asg (.t x)
abbrev AI(x:Nat):Ea:=.asg (i x)
abbrev AS(x:Array UInt8):Ea:=.asg (s x)
abbrev AB(x:Bool):Ea:=.asg (b x)
abbrev P(x y:Nat):Ea:=.pick (.t x) (.t y) (b false)
abbrev O(x y:Nat):Ea:=.pick (.t x) (b true) (.t y)
abbrev F(k x:Nat):Ea:=.im k (.t x)
abbrev L(k x:Nat):Ea:=.load false k (.t x)
abbrev LT(k x:Nat):Ea:=.load true k (.t x)
abbrev B(k:BinOp)(x y:Nat):Ea:=.bin k (.t x) (.t y)
abbrev BI(k:BinOp)(x y:Nat):Ea:=.bin k (.t x) (i y)
abbrev BU(k:BinOp)(x y:Nat):Ea:=.bin k (.t x) (u y)
abbrev BS(k:BinOp)(x:Nat)(y:Array UInt8):Ea:=.bin k (.t x) (s y)
abbrev IB(k:BinOp)(x y:Nat):Ea:=.bin k (i x) (.t y)
abbrev SB(k:BinOp)(x:Array UInt8)(y:Nat):Ea:=.bin k (s x) (.t y)
abbrev E(x y:Nat):Ea:=.ext (.t x) y
abbrev S(k x y:Nat):Ea:=.store k (.t x) (.t y)
abbrev N(x:Nat):Ea:=.qk (.t x)
abbrev U(x:Nat):Ea:=.un .not (.t x)
abbrev K(x:Nat):Ea:=.Gn (.t x)
abbrev W(x:Nat):Ea:=.len (.t x)
abbrev D(x y:Nat):Ea:=.idx (.t x) (.t y)
abbrev Y(k x y:Nat):Ea:=.Jg k (.t x) (.t y)
abbrev C(k x:Nat):Ea:=.call k [.t x]
abbrev CC(k x y:Nat):Ea:=.call k [.t x,.t y]
abbrev CI(k x y:Nat):Ea:=.call k [.t x,i y]
abbrev CS(k x:Nat)(y:Array UInt8):Ea:=.call k [.t x,s y]
abbrev r(l:List Nat)(p:List Qa):oa:=.Ld l [] p
abbrev q(x y:oa):oa:=.seq x y
abbrev w(x:Nat)(y z:oa):oa:=.cond (.t x) y z
abbrev k(x:Nat)(l:List Nat)(y:oa):oa:=.block x (.loop l y)
abbrev x(l:List Nat):oa:=.ret l
abbrev z:oa:=.skip
end Q
end wa
set_option maxRecDepth 100000
namespace Go.Proofs.YtglaihdcndcmkaaGreatDoor
open wa.Q
def DL:Ba:=⟨33,[.inl 2],(q (r [0] [o 2 (AB false)]) (q (r [0] [m 7 0,m 8 0,o 9 (K 8),o 10 (.mm false (.t 9) (i 1500)),o 11 (.sliceS (.t 7) .none (.some (.t 10))),a 0 11]) (q (r [0,3,4] [m 13 0,o 14 (C 7 13),m 12 14,o 15 (E 12 0),o 16 (E 12 1),o 3 (.alloc 23 [Z,Z,Z,Z,Z]),n (S 5 3 15),a 4 16]) (q (r [3,4,5,6] [m 18 0,o 19 (C 8 18),m 17 19,o 20 (E 17 0),o 21 (E 17 1),o 5 (.alloc 23 [Z,Z,Z,Z,Z]),n (S 5 5 20),a 6 21]) (q (r [2] [o 22 (LT 5 3),o 23 (LT 5 5),o 24 (.Sk false [.s,.s,.s,.s,.s] (.t 22) (.t 23)),m 25 24,g 25 26 (M 4),g 25 27 (M 6),g 25 28 (B .eql 26 27),o 29 (P 25 28),m 30 29,g 30 31 (.call 9 []),o 32 (P 30 31),a 2 32]) (x [2])))))),[]⟩
def EL:Ba:=⟨35,[.inl 0],(q (r [] [o 0 (AB false)]) (q (r [1,2] [o 6 (.build [Z,Z,Z,Z,Z] [⟨0,⟨1,s #[97,64,98]⟩⟩,⟨1,⟨1,s #[99,64,100]⟩⟩,⟨2,⟨1,s #[120]⟩⟩,⟨3,⟨1,s #[104,105,10]⟩⟩,⟨4,⟨1,s #[60,112,62,104,105,60,47,112,62]⟩⟩]),o 7 (C 21 6),m 5 7,o 8 (E 5 0),o 9 (E 5 1),a 1 8,a 2 9]) (q (r [2,3,4] [m 11 1,o 12 (C 22 11),m 10 12,o 13 (E 10 0),o 14 (E 10 1),o 3 (.alloc 64 [V,Z,Z,V]),n (S 4 3 13),a 4 14]) (q (r [0] [m 15 2,o 16 (BI .eql 15 0),m 17 16,g 17 18 (M 4),g 17 19 (BI .eql 18 0),o 20 (P 17 19),m 21 20,g 21 22 (F 3 3),g 21 23 (L 1 22),g 21 24 (W 23),g 21 25 (BI .eql 24 2),o 26 (P 21 25),m 27 26,g 27 28 (F 3 3),g 27 29 (L 1 28),g 27 30 (.Jg 4 (.t 29) (i 0)),g 27 31 (F 2 30),g 27 32 (L 1 31),g 27 33 (BS .eql 32 #[104,105,10]),o 34 (P 27 33),a 0 34]) (x [0]))))),[]⟩
def nE:oa:=(q (r [0,6,7,8] [o 8 (B .lss 7 6)]) (q (w 8 z (.exit 0 [0])) (q (.block 1 (q (r [0,3,6,7] [m 9 7,a 3 9]) (q (r [0,6,7,26] [m 10 0,m 11 3,o 12 (D 10 11),o 13 (BU .leq 12 32),m 14 13,h 14 15 (M 0),h 14 16 (M 3),h 14 17 (D 15 16),h 14 18 (BU .gtr 17 126),o 19 (O 14 18),m 20 19,h 20 21 (M 0),h 20 22 (M 3),h 20 23 (D 21 22),h 20 24 (.call 96 [s #[60,62,40,41,91,93,44,59,58,34,92],.t 23]),h 20 25 (BI .geq 24 0),o 26 (O 20 25)]) (w 26 (q (r [2] [o 2 (AB false)]) (x [2])) z)))) (r [0,6,7] [o 27 (BI .add 7 1),m 7 27]))))
def hB:oa:=nE
def mG:=@rb hB nE rfl
def gK:Ba:=⟨60,[.inl 2],(q (r [0] [o 2 (AB false)]) (q (q (r [0,6,7] [m 5 0,o 6 (K 5),o 7 (.mv (i 0))]) (k 0 [0,6,7] hB)) (q (r [0,4] [m 28 0,o 29 (.call 96 [.t 28,u 64]),a 4 29]) (q (r [2] [m 30 0,o 31 (K 30),o 32 (BI .geq 31 3),m 33 32,g 33 34 (M 0),g 33 35 (K 34),g 33 36 (BI .leq 35 60),o 37 (P 33 36),m 38 37,g 38 39 (M 4),g 38 40 (BI .gtr 39 0),o 41 (P 38 40),m 42 41,g 42 43 (M 4),g 42 44 (M 0),g 42 45 (K 44),g 42 46 (BI .sub 45 1),g 42 47 (B .lss 43 46),o 48 (P 42 47),m 49 48,g 49 50 (M 4),g 49 51 (M 0),g 49 52 (.call 157 [.t 51,u 64]),g 49 53 (B .eql 50 52),o 54 (P 49 53),m 55 54,g 55 56 (M 0),g 55 57 (CS 158 56 #[61,63]),g 55 58 (U 57),o 59 (P 55 58),a 2 59]) (x [2]))))),[]⟩
def kK:Ba:=⟨16,[.inl 2],(q (r [0] [o 2 (AB false)]) (q (r [3,4] [m 6 0,o 7 (C 56 6),m 5 7,o 8 (E 5 0),o 9 (E 5 1),a 3 8,a 4 9]) (q (r [2] [m 10 4,o 11 (BI .eql 10 0),m 12 11,g 12 13 (M 3),g 12 14 (C 162 13),o 15 (P 12 14),a 2 15]) (x [2])))),[]⟩
def oE:oa:=(q (r [1,21,22,23] [o 23 (BI .lss 22 3)]) (q (w 23 z (.exit 0 [1])) (q (.block 1 (q (r [1,4,21,22] [o 24 (.om false 3 1 (.t 21) (.t 22)),a 4 24]) (q (r [1,21,22,28] [m 25 4,o 26 (C 95 25),m 27 4,o 28 (B .neq 26 27)]) (w 28 (q (r [2] [o 2 (AI 7)]) (x [2])) z)))) (r [1,21,22] [o 29 (BI .add 22 1),m 22 29]))))
def CJ:oa:=oE
def Qs:=@rb CJ oE rfl
def iK:Ba:=⟨40,[.inl 2],(q (r [1] [o 1 (.box 23 5 (.t 0)),o 2 (AI 0)]) (q (q (r [1,14] [o 5 (F 0 1),o 6 (L 1 5),o 7 (C 94 6),o 8 (U 7),m 9 8,h 9 10 (F 1 1),h 9 11 (L 1 10),h 9 12 (C 94 11),h 9 13 (U 12),o 14 (O 9 13)]) (w 14 (q (r [2] [o 2 (AI 1)]) (x [2])) z)) (q (q (r [1,21,22] [o 15 (F 2 1),o 16 (L 1 15),o 17 (F 3 1),o 18 (L 1 17),o 19 (F 4 1),o 20 (L 1 19),o 21 (.build [Z,Z,Z] [⟨0,⟨1,.t 16⟩⟩,⟨1,⟨1,.t 18⟩⟩,⟨2,⟨1,.t 20⟩⟩]),o 22 (.mv (i 0))]) (k 0 [1,21,22] CJ)) (q (q (r [39] [o 30 (F 2 1),o 31 (L 1 30),o 32 (.call 96 [.t 31,u 10]),o 33 (BI .geq 32 0),m 34 33,h 34 35 (F 4 1),h 34 36 (L 1 35),h 34 37 (C 97 36),h 34 38 (U 37),o 39 (O 34 38)]) (w 39 (q (r [2] [o 2 (AI 7)]) (x [2])) z)) (q (r [2] [o 2 (AI 0)]) (x [2])))))),[]⟩
def hK:Ba:=⟨43,[.inl 2,.inl 3],(q (r [1] [o 1 (.box 23 5 (.t 0)),o 2 (AS #[]),o 3 (AI 0)]) (q (q (r [1,4] [o 6 (LT 5 1),o 7 (C 47 6),a 4 7]) (q (r [1,4,9] [m 8 4,o 9 (BI .neq 8 0)]) (w 9 (q (r [2,3] [m 10 4,o 2 (AS #[]),a 3 10]) (x [2,3])) z))) (q (r [1,5] [o 11 (.build [.flat (.pointer .none),V] []),o 12 (.box 111 2 (.t 11)),a 5 12]) (q (r [1,5] [m 13 5,o 14 (F 0 1),o 15 (L 1 14),o 16 (.call 48 [.t 13,s #[70,114,111,109],.t 15])]) (q (r [1,5] [m 17 5,o 18 (F 1 1),o 19 (L 1 18),o 20 (.call 48 [.t 17,s #[84,111],.t 19])]) (q (r [1,5] [m 21 5,o 22 (F 2 1),o 23 (L 1 22),o 24 (.call 48 [.t 21,s #[83,117,98,106,101,99,116],.t 23])]) (q (r [1,5] [m 25 5,o 26 (.mksl false 3 1 [Z,Z,Z] [⟨0,⟨1,s #[77,73,77,69,45,86,101,114,115,105,111,110,58,32,49,46,48]⟩⟩,⟨1,⟨1,s #[67,111,110,116,101,110,116,45,84,121,112,101,58,32,109,117,108,116,105,112,97,114,116,47,97,108,116,101,114,110,97,116,105,118,101,59,32,98,111,117,110,100,97,114,121,61,34,61,95,110,117,110,99,105,111,34]⟩⟩,⟨2,⟨1,s #[]⟩⟩]),o 27 (CC 49 25 26)]) (q (r [1,5] [m 28 5,o 29 (F 3 1),o 30 (L 1 29),o 31 (.call 50 [.t 28,s #[112,108,97,105,110],.t 30])]) (q (r [5] [m 32 5,o 33 (F 4 1),o 34 (L 1 33),o 35 (.call 50 [.t 32,s #[104,116,109,108],.t 34])]) (q (r [5] [m 36 5,o 37 (.mksl false 1 1 [Z] [⟨0,⟨1,s #[45,45,61,95,110,117,110,99,105,111,45,45]⟩⟩]),o 38 (CC 49 36 37)]) (q (r [2,3] [m 39 5,o 40 (N 39),o 41 (F 0 40),o 42 (C 46 41),a 2 42,o 3 (AI 0)]) (x [2,3])))))))))))),[]⟩
def pE:oa:=(q (r [0,2,4,6,48,49,50] [o 50 (BI .lss 49 3)]) (q (w 50 z (.exit 0 [0,2,6])) (q (.block 1 (q (r [0,2,4,6,7,8,48,49] [m 51 49,o 52 (.om false 3 1 (.t 48) (.t 49)),a 7 51,a 8 52]) (q (r [0,2,4,6,8,10,11,48,49] [o 54 (F 0 4),o 55 (L 1 54),m 56 7,o 57 (Y 2 55 56),o 58 (F 1 57),o 59 (L 1 58),o 60 (SB .add #[88,58,32] 59),o 61 (BS .add 60 #[13,10]),o 62 (C 20 61),m 53 62,o 63 (E 53 0),o 64 (E 53 1),o 65 (E 53 2),a 9 63,a 10 64,a 11 65]) (q (q (r [0,2,4,6,8,10,48,49,67] [m 66 11,o 67 (BI .neq 66 0)]) (w 67 (q (r [2,3] [o 68 (.build [Z,Z,Z,Z,Z] []),n (S 5 2 68),o 3 (AI 7)]) (x [2,3])) z)) (r [0,2,4,6,48,49] [m 69 8,m 70 10,o 71 (N 69),n (S 1 71 70)]))))) (r [0,2,4,6,48,49] [o 72 (BI .add 49 1),m 49 72]))))
def DJ:oa:=pE
def Rs:=@rb DJ pE rfl
def jK:Ba:=⟨87,[.inr ⟨2,⟨true,5⟩⟩,.inl 3],(q (r [0,2] [o 2 (.alloc 23 [Z,Z,Z,Z,Z]),o 3 (AI 0)]) (q (r [0,2,4,5] [m 15 0,o 16 (C 19 15),m 14 16,o 17 (E 14 0),o 18 (E 14 1),o 4 (.alloc 52 [V,Z,Z,V]),n (S 4 4 17),a 5 18]) (q (q (r [0,2,4,32] [m 19 5,o 20 (BI .neq 19 0),m 21 20,h 21 22 (F 3 4),h 21 23 (L 1 22),h 21 24 (W 23),h 21 25 (BI .neq 24 2),o 26 (O 21 25),m 27 26,h 27 28 (F 0 4),h 27 29 (L 1 28),h 27 30 (W 29),h 27 31 (BI .lss 30 3),o 32 (O 27 31)]) (w 32 (q (r [2,3] [o 33 (.build [Z,Z,Z,Z,Z] []),n (S 5 2 33),o 3 (AI 7)]) (x [2,3])) z)) (q (.Ld [0,2,4,6] [o 34 (F 3 4),o 35 (L 1 34),o 36 (.Jg 4 (.t 35) (i 0)),o 37 (F 2 36),o 38 (L 1 37),o 39 (F 3 4),o 40 (L 1 39),o 41 (.Jg 4 (.t 40) (i 1)),o 42 (F 2 41),o 43 (L 1 42),o 44 (.build [Z,Z,Z,Z,Z] [⟨3,⟨1,.t 38⟩⟩,⟨4,⟨1,.t 43⟩⟩]),o 6 (.alloc 23 [Z,Z,Z,Z,Z])] [n (S 5 6 44)]) (q (q (r [0,2,4,6,48,49] [o 45 (F 0 6),o 46 (F 1 6),o 47 (F 2 6),o 48 (.build [.flat (.pointer .none),.flat (.pointer .none),.flat (.pointer .none)] [⟨0,⟨1,.t 45⟩⟩,⟨1,⟨1,.t 46⟩⟩,⟨2,⟨1,.t 47⟩⟩]),o 49 (.mv (i 0))]) (k 0 [0,2,4,6,48,49] DJ)) (q (q (r [0,2,6,12,13] [o 74 (LT 5 6),o 75 (C 21 74),m 73 75,o 76 (E 73 0),o 77 (E 73 1),a 12 76,a 13 77]) (q (r [2,6,84] [m 78 13,o 79 (BI .neq 78 0),m 80 79,h 80 81 (M 12),h 80 82 (M 0),h 80 83 (B .neq 81 82),o 84 (O 80 83)]) (w 84 (q (r [2,3] [o 85 (.build [Z,Z,Z,Z,Z] []),n (S 5 2 85),o 3 (AI 7)]) (x [2,3])) z))) (q (r [2,3] [o 86 (LT 5 6),n (S 5 2 86),o 3 (AI 0)]) (x [2,3])))))))),[]⟩
def qE:oa:=(q (r [0,6,7,8,9] [o 9 (B .lss 8 7)]) (q (w 9 z (.exit 0 [])) (q (.block 1 (q (r [0,5,6,7,8] [o 10 (Y 1 6 8),o 11 (L 1 10),a 5 11]) (q (r [0,6,7,8] [m 12 0,o 13 (N 12),o 14 (F 0 13),m 15 5,o 16 (CC 45 14 15)]) (r [0,6,7,8] [m 17 0,o 18 (N 17),o 19 (F 0 18),o 20 (CS 45 19 #[13,10])])))) (r [0,6,7,8] [o 21 (BI .add 8 1),m 8 21]))))
def iB:oa:=qE
def jR:=@rb iB qE rfl
def mK:Ba:=⟨22,[],(q (r [0,6,7,8] [m 6 1,o 7 (W 6),o 8 (.mv (i 0))]) (k 0 [0,6,7,8] iB)),[]⟩
def lK:Ba:=⟨19,[],(q (r [0,6] [m 9 1,m 10 2,o 11 (CC 98 9 10),m 8 11,o 12 (E 8 0),o 13 (E 8 1),a 6 12,a 7 13]) (r [] [m 14 0,o 15 (N 14),o 16 (F 0 15),m 17 6,o 18 (CC 45 16 17)])),[]⟩
def nK:Ba:=⟨14,[],(r [] [m 6 0,m 7 1,o 8 (SB .add #[67,111,110,116,101,110,116,45,84,121,112,101,58,32,116,101,120,116,47] 7),o 9 (BS .add 8 #[59,32,99,104,97,114,115,101,116,61,117,116,102,45,56]),m 10 2,o 11 (C 99 10),o 12 (.mksl false 5 1 [Z,Z,Z,Z,Z] [⟨0,⟨1,s #[45,45,61,95,110,117,110,99,105,111]⟩⟩,⟨1,⟨1,.t 9⟩⟩,⟨2,⟨1,s #[67,111,110,116,101,110,116,45,84,114,97,110,115,102,101,114,45,69,110,99,111,100,105,110,103,58,32,113,117,111,116,101,100,45,112,114,105,110,116,97,98,108,101]⟩⟩,⟨3,⟨1,s #[]⟩⟩,⟨4,⟨1,.t 11⟩⟩]),o 13 (CC 49 6 12)]),[]⟩
def Zu:oa:=(q (r [1,3,4,5,10] [a 5 9]) (r [1,3,4,5,6] [a 6 10]))
def Vu:oa:=(.block 1 (q (r [1,3,4,5] [o 11 (L 1 4),m 12 6,o 13 (B .add 11 12),n (S 1 4 13)]) (q (q (r [1,3,4,5,15] [m 14 5,o 15 (.bin .eql (.t 14) (.c (.flat (.int .i32 13))))]) (w 15 (q (q (r [3,25] [o 16 (L 1 4),o 17 (L 1 1),o 18 (K 17),o 19 (B .lss 16 18),m 20 19,g 20 21 (L 1 1),g 20 22 (L 1 4),g 20 23 (D 21 22),g 20 24 (BU .eql 23 10),o 25 (P 20 24)]) (w 25 (.exit 1 []) z)) (r [3,5] [o 5 (.asg (.c (.flat (.int .i32 10))))])) z)) (r [] [m 26 5,o 27 (C 160 26),o 28 (C 159 27),o 29 (CC 45 3 28)]))))
def gM:Ba:=⟨31,[.inl 2],(q (r [1,2] [o 1 (.box 9 1 (.t 0)),o 2 (AS #[])]) (q (r [1,2,3] [o 3 (.alloc 101 [.flat (.pointer .none),V])]) (q (r [1,2,3,4] [o 4 (.alloc 3 [J]),n (.store 1 (.t 4) (i 0))]) (q (q (r [1,2,3,4,8] [o 7 (L 1 1),o 8 (C 155 7)]) (.block 0 (.range 95 0 [1,3,4] (.t 8)))) (q (r [2] [o 30 (C 46 3),a 2 30]) (x [2])))))),[([9,10],Zu,Vu)]⟩
def kM:Ba:=⟨4,[.inl 2],(q (r [1] [o 1 (.box 9 1 (.t 0)),o 2 (.asg (.c (.flat .nilFunc)))]) (q (r [2] [o 3 (.clos 224 [.t 1]),a 2 3]) (x [2]))),[]⟩
def BF:oa:=(q (q (r [0,1,3,9] [m 6 3,o 7 (L 1 1),o 8 (K 7),o 9 (B .lss 6 8)]) (w 9 z (.exit 0 []))) (.block 1 (q (r [0,1,3,4,5] [o 11 (L 1 1),m 12 3,o 13 (CC 225 11 12),m 10 13,o 14 (E 10 0),o 15 (E 10 1),a 4 14,a 5 15]) (q (q (r [0,1,3,5,20] [m 16 0,m 17 4,m 18 5,o 19 (.callv (.t 16) [.t 17,.t 18]),o 20 (U 19)]) (w 20 (x []) z)) (r [0,1,3] [m 21 3,m 22 5,o 23 (B .add 21 22),a 3 23])))))
def WB:oa:=BF
def IG:=@rb WB BF rfl
def lM:Ba:=⟨24,[],(q (r [0,1,3] [o 3 (AI 0)]) (k 0 [0,1,3] WB)),[]⟩
def iM:Ba:=⟨81,[.inl 4,.inl 5],(q (r [0,1] [o 4 (.asg (.c (.flat (.int .i32 0)))),o 5 (AI 0)]) (q (q (r [0,1,17] [m 10 1,o 11 (BI .lss 10 0),m 12 11,h 12 13 (M 1),h 12 14 (M 0),h 12 15 (K 14),h 12 16 (B .geq 13 15),o 17 (O 12 16)]) (w 17 (q (r [4,5] [o 4 (.asg (.c (.flat (.int .i32 0)))),o 5 (AI 0)]) (x [4,5])) z)) (q (r [0,1,6] [m 18 0,m 19 1,o 20 (D 18 19),a 6 20,o 7 (.asg (.c (.flat (.int .i32 0)))),o 8 (AI 0)]) (q (.block 0 (q (r [0,1,6,21] [m 22 6,o 23 (BU .lss 22 128),a 21 23]) (w 21 (q (r [4,5] [m 24 6,o 25 (.conv .i32 (.t 24)),a 4 25,o 5 (AI 1)]) (x [4,5])) (q (r [0,1,6,26] [m 27 6,o 28 (BU .geq 27 192),m 29 28,g 29 30 (M 6),g 29 31 (BU .lss 30 224),o 32 (P 29 31),a 26 32]) (w 26 (r [0,1,4,7,8] [m 33 6,o 34 (BU .and 33 31),o 35 (.conv .i32 (.t 34)),a 4 35,o 7 (.asg (.c (.flat (.int .i32 128)))),o 8 (AI 1)]) (q (r [0,1,6,36] [m 37 6,o 38 (BU .geq 37 224),m 39 38,g 39 40 (M 6),g 39 41 (BU .lss 40 240),o 42 (P 39 41),a 36 42]) (w 36 (r [0,1,4,7,8] [m 43 6,o 44 (BU .and 43 15),o 45 (.conv .i32 (.t 44)),a 4 45,o 7 (.asg (.c (.flat (.int .i32 2048)))),o 8 (AI 2)]) (q (r [0,1,6,46] [m 47 6,o 48 (BU .geq 47 240),m 49 48,g 49 50 (M 6),g 49 51 (BU .lss 50 248),o 52 (P 49 51),a 46 52]) (w 46 (r [0,1,4,7,8] [m 53 6,o 54 (BU .and 53 7),o 55 (.conv .i32 (.t 54)),a 4 55,o 7 (.asg (.c (.flat (.int .i32 65536)))),o 8 (AI 3)]) (q (r [4,5] [o 4 (.asg (.c (.flat (.int .i32 65533)))),o 5 (AI 1)]) (x [4,5]))))))))))) (q (r [4,7,8,9] [m 57 0,m 58 1,o 59 (BI .add 58 1),o 60 (.sliceS (.t 57) (.some (.t 59)) .none),m 61 4,m 62 8,o 63 (.call 275 [.t 60,.t 61,.t 62]),m 56 63,o 64 (E 56 0),o 65 (E 56 1),a 4 64,a 9 65]) (q (q (r [4,8,77] [m 66 9,o 67 (U 66),m 68 67,h 68 69 (M 4),h 68 70 (M 7),h 68 71 (B .lss 69 70),o 72 (O 68 71),m 73 72,h 73 74 (M 4),h 73 75 (C 227 74),h 73 76 (U 75),o 77 (O 73 76)]) (w 77 (q (r [4,5] [o 4 (.asg (.c (.flat (.int .i32 65533)))),o 5 (AI 1)]) (x [4,5])) z)) (q (r [4,5] [m 78 4,m 79 8,o 80 (BI .add 79 1),a 4 78,a 5 80]) (x [4,5])))))))),[]⟩
def AF:oa:=(q (q (r [0,3,4,5,32] [m 31 5,o 32 (BI .gtr 31 0)]) (w 32 z (.exit 4 [0,3,4]))) (q (.block 5 (q (r [0,3,4,5] [m 35 5,m 36 0,o 37 (.bin .and (.t 36) (.c (.flat (.int .i32 63)))),o 38 (.conv .u8 (.t 37)),o 39 (.bin .or (u 128) (.t 38)),o 40 (.xm 4 1 (.t 3) (.t 35)),n (S 1 40 39)]) (r [0,3,4,5] [m 41 0,o 42 (.bin .shr (.t 41) (.c (.flat (.int .u64 6)))),a 0 42]))) (r [0,3,4,5] [m 33 5,o 34 (BI .sub 33 1),a 5 34])))
def GJ:oa:=AF
def Iz:=@rb GJ AF rfl
def fM:Ba:=⟨54,[.inl 2],(q (r [0] [o 2 (AS #[])]) (q (q (r [0,8] [m 6 0,o 7 (C 227 6),o 8 (U 7)]) (w 8 (r [0] [o 0 (.asg (.c (.flat (.int .i32 65533))))]) z)) (q (r [0,3] [o 3 (.alloc 277 [.flat (.int .u8 0),.flat (.int .u8 0),.flat (.int .u8 0),.flat (.int .u8 0)])]) (q (r [0,3,4] [o 4 (AI 0)]) (q (.block 0 (q (.block 3 (q (.block 2 (q (.block 1 (q (q (q (r [0,3,4,9] [m 10 0,o 11 (.bin .geq (.t 10) (.c (.flat (.int .i32 65536)))),a 9 11]) (w 9 (.exit 1 [0,3,4]) z)) (q (q (r [0,3,4,12] [m 13 0,o 14 (.bin .geq (.t 13) (.c (.flat (.int .i32 2048)))),a 12 14]) (w 12 (.exit 2 [0,3,4]) z)) (q (r [0,3,4,15] [m 16 0,o 17 (.bin .geq (.t 16) (.c (.flat (.int .i32 128)))),a 15 17]) (w 15 (.exit 3 [0,3,4]) z)))) (.exit 0 [0,3,4]))) (r [0,3,4] [m 18 4,o 19 (BI .add 18 1),a 4 19]))) (r [0,3,4] [m 20 4,o 21 (BI .add 20 1),a 4 21]))) (q (r [0,3,4] [m 22 4,o 23 (BI .add 22 1),a 4 23]) (.exit 0 [0,3,4])))) (q (q (r [0,3,4,25] [m 24 4,o 25 (BI .eql 24 0)]) (w 25 (q (r [2] [m 26 0,o 27 (.conv .u8 (.t 26)),o 28 (.mksl true 1 1 [.flat (.int .u8 0)] [⟨0,⟨1,.t 27⟩⟩]),o 29 (.b2s (.t 28)),a 2 29]) (x [2])) z)) (q (q (r [0,3,4,5] [m 30 4,a 5 30]) (k 4 [0,3,4,5] GJ)) (q (r [3,4] [m 43 4,o 44 (IB .sub 7 43),o 45 (.bin .shl (u 255) (.t 44)),m 46 0,o 47 (.conv .u8 (.t 46)),o 48 (B .or 45 47),o 49 (.xm 4 1 (.t 3) (i 0)),n (S 1 49 48)]) (q (r [2] [m 50 4,o 51 (BI .add 50 1),o 52 (.sliceP 4 1 (.t 3) .none (.some (.t 51))),o 53 (.b2s (.t 52)),a 2 53]) (x [2])))))))))),[]⟩
def qP:oa:=(q (r [0,1,13,14,15] [o 15 (B .lss 14 13)]) (q (w 15 z (.exit 0 [1])) (q (.block 1 (q (r [0,1,8,13,14] [m 16 14,a 8 16]) (q (q (r [0,1,8,13,14,21] [m 17 0,m 18 8,o 19 (D 17 18),o 20 (BU .and 19 192),o 21 (BU .neq 20 128)]) (w 21 (q (r [6,7] [o 6 (.asg (.c (.flat (.int .i32 0)))),o 7 (AB false)]) (x [6,7])) z)) (r [0,1,13,14] [m 22 1,o 23 (.bin .shl (.t 22) (.c (.flat (.int .u64 6)))),m 24 0,m 25 8,o 26 (D 24 25),o 27 (BU .and 26 63),o 28 (.conv .i32 (.t 27)),o 29 (B .or 23 28),a 1 29])))) (r [0,1,13,14] [o 30 (BI .add 14 1),m 14 30]))))
def Ir:oa:=qP
def oM:Ba:=⟨32,[.inl 6,.inl 7],(q (r [0,1,2] [o 6 (.asg (.c (.flat (.int .i32 0)))),o 7 (AB false)]) (q (q (r [0,1,2,12] [m 9 0,o 10 (K 9),m 11 2,o 12 (B .lss 10 11)]) (w 12 (q (r [6,7] [o 6 (.asg (.c (.flat (.int .i32 0)))),o 7 (AB false)]) (x [6,7])) z)) (q (q (r [0,1,13,14] [m 13 2,o 14 (.mv (i 0))]) (k 0 [0,1,13,14] Ir)) (q (r [6,7] [m 31 1,a 6 31,o 7 (AB true)]) (x [6,7]))))),[]⟩
def mM:Ba:=⟨17,[.inl 2],(q (r [0] [o 2 (AB false)]) (q (r [2] [m 3 0,o 4 (.bin .geq (.t 3) (.c (.flat (.int .i32 0)))),m 5 4,g 5 6 (M 0),g 5 7 (.bin .leq (.t 6) (.c (.flat (.int .i32 1114111)))),o 8 (P 5 7),m 9 8,g 9 10 (M 0),g 9 11 (.bin .lss (.t 10) (.c (.flat (.int .i32 55296)))),g 9 12 (M 11),h 12 13 (M 0),h 12 14 (.bin .gtr (.t 13) (.c (.flat (.int .i32 57343)))),g 9 15 (O 12 14),o 16 (P 9 15),a 2 16]) (x [2]))),[]⟩
def nM:Ba:=⟨22,[.inl 2],(q (r [0] [o 2 (.asg (.c (.flat (.int .i32 0))))]) (q (q (r [0,20] [m 3 0,o 4 (.bin .lss (.t 3) (.c (.flat (.int .i32 32)))),m 5 4,g 5 6 (M 0),g 5 7 (.bin .neq (.t 6) (.c (.flat (.int .i32 9)))),o 8 (P 5 7),m 9 8,g 9 10 (M 0),g 9 11 (.bin .neq (.t 10) (.c (.flat (.int .i32 10)))),o 12 (P 9 11),m 13 12,h 13 14 (M 0),h 13 15 (.bin .geq (.t 14) (.c (.flat (.int .i32 127)))),h 13 16 (M 15),g 16 17 (M 0),g 16 18 (.bin .lss (.t 17) (.c (.flat (.int .i32 160)))),h 13 19 (P 16 18),o 20 (O 13 19)]) (w 20 (q (r [2] [o 2 (.asg (.c (.flat (.int .i32 65533))))]) (x [2])) z)) (q (r [2] [m 21 0,a 2 21]) (x [2])))),[]⟩
def vy:oa:=(q (r [2,3,8] [a 3 7]) (r [2,3,4] [a 4 8]))
def qy:oa:=(.block 1 (q (r [2,14] [m 9 3,o 10 (.bin .eql (.t 9) (.c (.flat (.int .i32 65533)))),m 11 10,g 11 12 (M 4),g 11 13 (BI .eql 12 1),o 14 (P 11 13)]) (w 14 (q (r [] [n (.store 1 (.t 2) (b false))]) (x [])) z)))
def hM:Ba:=⟨15,[.inr ⟨2,⟨false,1⟩⟩],(q (r [0,2] [o 2 (.alloc 4 [.flat (.bool false)])]) (q (q (r [2,6] [m 5 0,o 6 (C 155 5)]) (.block 0 (.range 92 0 [2] (.t 6)))) (q (r [2] [n (.store 1 (.t 2) (b true))]) (x [2])))),[([7,8],vy,qy)]⟩
def AO:oa:=(r [3,4] [a 4 7])
def pO:oa:=(.block 1 (r [] [o 9 (.loadA (.t 3)),m 10 4,o 11 (.mksl false 1 1 [.flat (.int .i32 0)] [⟨0,⟨1,.t 10⟩⟩]),o 12 (.append false 1 (.t 9) (.t 11)),n (S 1 3 12)]))
def jM:Ba:=⟨14,[.inl 2],(q (r [0,2] [o 2 (.asg (.c V))]) (q (r [0,2,3] [o 3 (.alloc 278 [V])]) (q (q (r [2,3,6] [m 5 0,o 6 (C 155 5)]) (.block 0 (.range 231 0 [3] (.t 6)))) (q (r [2] [o 13 (L 1 3),a 2 13]) (x [2]))))),[([7,8],AO,pO)]⟩
def xO:oa:=(r [6,7] [a 7 21])
def mO:oa:=(.block 1 (r [] [m 22 7,o 23 (CC 164 6 22)]))
def qK:Ba:=⟨28,[.inl 4,.inl 5],(q (r [0,1,4,5] [o 4 (AS #[]),o 5 (AI 0)]) (q (q (r [0,1,4,5,10] [m 8 0,o 9 (C 40 8),o 10 (U 9)]) (w 10 (q (r [4,5] [o 4 (AS #[]),o 5 (AI 1)]) (x [4,5])) z)) (q (r [0,1,4,5,6] [m 11 0,o 12 (K 11),o 13 (BI .add 12 1),o 14 (.build [.flat (.pointer .none),V,J] [⟨2,⟨1,.t 13⟩⟩]),o 6 (.alloc 236 [.flat (.pointer .none),V,J]),n (S 3 6 14)]) (q (r [1,4,5,6] [o 15 (F 0 6),m 16 0,o 17 (BS .add 16 #[58]),o 18 (CC 45 15 17)]) (q (q (r [4,5,6,20] [m 19 1,o 20 (C 163 19)]) (.block 0 (.range 98 0 [6] (.t 20)))) (q (r [6] [o 24 (F 0 6),o 25 (CS 45 24 #[13,10])]) (q (r [4,5] [o 26 (F 0 6),o 27 (C 46 26),a 4 27,o 5 (AI 0)]) (x [4,5])))))))),[([21],xO,mO)]⟩
def uE:oa:=(q (r [0,6,7,8] [o 8 (B .lss 7 6)]) (q (w 8 z (.exit 0 [0])) (q (.block 1 (q (r [0,3,6,7] [m 9 7,a 3 9]) (q (r [0,4,6,7] [m 10 0,m 11 3,o 12 (D 10 11),a 4 12]) (q (r [0,6,7,32] [m 13 4,o 14 (BU .or 13 32),o 15 (BU .lss 14 97),m 16 15,h 16 17 (M 4),h 16 18 (BU .or 17 32),h 16 19 (BU .gtr 18 122),o 20 (O 16 19),m 21 20,g 21 22 (M 4),g 21 23 (BU .lss 22 48),g 21 24 (M 23),h 24 25 (M 4),h 24 26 (BU .gtr 25 57),g 21 27 (O 24 26),o 28 (P 21 27),m 29 28,g 29 30 (M 4),g 29 31 (BU .neq 30 45),o 32 (P 29 31)]) (w 32 (q (r [2] [o 2 (AB false)]) (x [2])) z))))) (r [0,6,7] [o 33 (BI .add 7 1),m 7 33]))))
def fx:oa:=uE
def nG:=@rb fx uE rfl
def vK:Ba:=⟨41,[.inl 2],(q (r [0] [o 2 (AB false)]) (q (q (r [0,6,7] [m 5 0,o 6 (K 5),o 7 (.mv (i 0))]) (k 0 [0,6,7] fx)) (q (r [2] [m 34 0,o 35 (BS .neq 34 #[]),m 36 35,g 36 37 (M 0),g 36 38 (K 37),g 36 39 (BI .leq 38 32),o 40 (P 36 39),a 2 40]) (x [2])))),[]⟩
def rE:oa:=(q (r [0,3,9,10,11] [o 11 (B .lss 10 9)]) (q (w 11 z (.exit 0 [3])) (q (.block 1 (q (r [0,3,4,9,10] [m 12 10,a 4 12]) (q (r [0,3,4,5,9,10] [m 13 0,m 14 4,o 15 (D 13 14),a 5 15]) (q (q (r [0,3,5,9,10,34] [m 16 5,o 17 (BU .eql 16 32),m 18 17,g 18 19 (M 3),g 18 20 (BI .eql 19 0),o 21 (P 18 20),m 22 21,h 22 23 (M 5),h 22 24 (BU .lss 23 32),o 25 (O 22 24),m 26 25,h 26 27 (M 5),h 26 28 (BU .gtr 27 126),o 29 (O 26 28),m 30 29,h 30 31 (M 0),h 30 32 (M 4),h 30 33 (.call 85 [.t 31,s #[61,63],.t 32]),o 34 (O 30 33)]) (w 34 (q (r [2] [o 2 (AB false)]) (x [2])) z)) (q (q (r [0,3,5,9,10] [m 35 3,o 36 (BI .add 35 1),a 3 36]) (q (r [0,3,9,10,38] [m 37 5,o 38 (BU .eql 37 32)]) (w 38 (r [0,3,9,10] [o 3 (AI 0)]) z))) (q (r [0,3,9,10,40] [m 39 3,o 40 (BI .gtr 39 60)]) (w 40 (q (r [2] [o 2 (AB false)]) (x [2])) z))))))) (r [0,3,9,10] [o 41 (BI .add 10 1),m 10 41]))))
def cx:oa:=rE
def kR:=@rb cx rE rfl
def oK:Ba:=⟨44,[.inl 2],(q (r [0] [o 2 (AB false)]) (q (q (r [0,7] [m 6 0,o 7 (BS .eql 6 #[])]) (w 7 (q (r [2] [o 2 (AB true)]) (x [2])) z)) (q (r [0,3] [o 3 (AI 0)]) (q (q (r [0,3,9,10] [m 8 0,o 9 (K 8),o 10 (.mv (i 0))]) (k 0 [0,3,9,10] cx)) (q (r [2] [m 42 3,o 43 (BI .gtr 42 0),a 2 43]) (x [2])))))),[]⟩
def wK:Ba:=⟨4,[.inl 2],(q (r [1] [o 1 (.box 9 1 (.t 0)),o 2 (.asg (.c (.flat .nilFunc)))]) (q (r [2] [o 3 (.clos 229 [.t 1]),a 2 3]) (x [2]))),[]⟩
def wE:oa:=(q (r [0,14,15,16,17] [o 17 (B .lss 16 15)]) (q (w 17 z (.exit 0 [])) (q (.block 1 (q (r [0,4,14,15,16] [o 18 (Y 1 14 16),o 19 (L 1 18),a 4 19]) (q (r [0,14,15,16,23] [m 20 0,m 21 4,o 22 (.callv (.t 20) [.t 21]),o 23 (U 22)]) (w 23 (x []) z)))) (r [0,14,15,16] [o 24 (BI .add 16 1),m 16 24]))))
def gx:oa:=wE
def lR:=@rb gx wE rfl
def xE:oa:=(q (r [0,5,26,27,28,29] [o 29 (B .lss 28 27)]) (q (w 29 z (.exit 2 [0,5])) (q (.block 3 (q (r [0,5,7,26,27,28] [o 30 (Y 1 26 28),o 31 (L 1 30),a 7 31]) (q (r [0,5,8,26,27,28] [m 32 7,o 33 (C 159 32),a 8 33]) (q (q (r [0,5,8,26,27,28,39] [m 34 8,o 35 (K 34),m 36 5,o 37 (K 36),o 38 (IB .sub 45 37),o 39 (B .gtr 35 38)]) (w 39 (q (q (r [0,8,26,27,28,46] [m 40 0,m 41 5,o 42 (C 232 41),o 43 (SB .add #[61,63,85,84,70,45,56,63,66,63] 42),o 44 (BS .add 43 #[63,61]),o 45 (.callv (.t 40) [.t 44]),o 46 (U 45)]) (w 46 (x []) z)) (r [0,5,8,26,27,28] [o 5 (AS #[])])) z)) (r [0,5,26,27,28] [m 47 5,m 48 8,o 49 (B .add 47 48),a 5 49]))))) (r [0,5,26,27,28] [o 50 (BI .add 28 1),m 28 50]))))
def hx:oa:=xE
def oG:=@rb hx xE rfl
def xK:Ba:=⟨57,[],(q (q (r [0,1,10] [o 9 (L 1 1),o 10 (BS .eql 9 #[])]) (w 10 (x []) z)) (q (q (r [0,1,12] [o 11 (L 1 1),o 12 (C 230 11)]) (w 12 (q (q (r [0,14,15,16] [o 13 (L 1 1),o 14 (.call 41 [.t 13,u 32]),o 15 (W 14),o 16 (.mv (i 0))]) (k 0 [0,14,15,16] gx)) (x [])) z)) (q (r [0,1,5] [o 5 (AS #[])]) (q (q (r [0,5,26,27,28] [o 25 (L 1 1),o 26 (C 231 25),o 27 (W 26),o 28 (.mv (i 0))]) (k 2 [0,5,26,27,28] hx)) (r [] [m 51 0,m 52 5,o 53 (C 232 52),o 54 (SB .add #[61,63,85,84,70,45,56,63,66,63] 53),o 55 (BS .add 54 #[63,61]),o 56 (.callv (.t 51) [.t 55])]))))),[]⟩
def uK:Ba:=⟨35,[],(q (q (r [0,1,11] [m 4 1,o 5 (K 4),m 6 0,o 7 (N 6),o 8 (F 2 7),o 9 (L 1 8),o 10 (IB .sub 76 9),o 11 (B .geq 5 10)]) (w 11 (q (r [0,1] [m 12 0,o 13 (N 12),o 14 (F 0 13),o 15 (CS 45 14 #[13,10])]) (r [0,1] [m 16 0,o 17 (N 16),o 18 (F 2 17),n (.store 1 (.t 18) (i 0))])) z)) (q (r [0,1] [m 19 0,o 20 (N 19),o 21 (F 0 20),m 22 1,o 23 (SB .add #[32] 22),o 24 (CC 45 21 23)]) (r [] [m 25 0,o 26 (N 25),o 27 (F 2 26),o 28 (L 1 27),m 29 1,o 30 (K 29),o 31 (IB .add 1 30),o 32 (B .add 28 31),o 33 (N 25),o 34 (F 2 33),n (S 1 34 32)]))),[]⟩
def sE:oa:=(q (r [2,9,10,11,40,41,42,43] [o 43 (B .lss 42 41)]) (q (w 43 z (.exit 0 [2,9])) (q (.block 1 (q (r [2,9,10,11,13,40,41,42] [o 44 (Y 1 40 42),o 45 (L 1 44),a 13 45]) (q (q (r [2,9,10,11,13,40,41,42,47] [m 46 13,o 47 (BS .eql 46 #[])]) (w 47 (.exit 1 [2,9,10,11,40,41,42]) z)) (q (r [2,9,10,11,14,15,40,41,42] [m 49 13,o 50 (C 43 49),m 48 50,o 51 (E 48 0),o 52 (E 48 1),a 14 51,a 15 52]) (q (q (r [2,9,14,15,40,41,42,60] [m 53 10,m 54 53,g 54 55 (M 11),g 54 56 (M 55),g 56 57 (M 15),g 54 58 (P 56 57),g 54 59 (U 58),o 60 (P 54 59)]) (w 60 (r [2,9,14,15,40,41,42] [o 61 (.call 44 [.t 9,u 32])]) z)) (q (r [2,9,15,40,41,42] [m 62 14,o 63 (CC 45 9 62)]) (r [2,9,10,11,40,41,42] [m 64 15,o 10 (AB true),a 11 64]))))))) (r [2,9,10,11,40,41,42] [o 65 (BI .add 42 1),m 42 65]))))
def dx:oa:=sE
def Ss:=@rb dx sE rfl
def pK:Ba:=⟨68,[.inl 2,.inl 3,.inl 4],(q (r [0] [o 2 (AS #[]),o 3 (AS #[]),o 4 (AI 0)]) (q (r [5,6] [m 17 0,o 18 (C 38 17),m 16 18,o 19 (E 16 0),o 20 (E 16 1),a 5 19,a 6 20]) (q (r [2,6,7,8] [m 22 5,o 23 (CS 39 22 #[58]),m 21 23,o 24 (E 21 0),o 25 (E 21 1),o 26 (E 21 2),a 2 24,a 7 25,a 8 26]) (q (q (r [2,7,37] [m 27 6,o 28 (U 27),m 29 28,h 29 30 (M 8),h 29 31 (U 30),o 32 (O 29 31),m 33 32,h 33 34 (M 2),h 33 35 (C 40 34),h 33 36 (U 35),o 37 (O 33 36)]) (w 37 (q (r [2,3,4] [o 2 (AS #[]),o 3 (AS #[]),o 4 (AI 7)]) (x [2,3,4])) z)) (q (r [2,7,9] [o 9 (.alloc 101 [.flat (.pointer .none),V])]) (q (r [2,7,9,10,11] [o 10 (AB false),o 11 (AB false)]) (q (q (r [2,9,10,11,40,41,42] [m 38 7,o 39 (.call 42 [.t 38,s #[9],s #[32]]),o 40 (.call 41 [.t 39,u 32]),o 41 (W 40),o 42 (.mv (i 0))]) (k 0 [2,9,10,11,40,41,42] dx)) (q (r [2,3,4] [m 66 2,o 67 (C 46 9),a 2 66,a 3 67,o 4 (AI 0)]) (x [2,3,4]))))))))),[]⟩
def tE:oa:=(q (q (r [0,5,6,17] [m 14 6,m 15 0,o 16 (K 15),o 17 (B .lss 14 16)]) (w 17 z (.exit 0 [5]))) (q (.block 1 (q (q (r [0,5,6,36] [m 20 0,m 21 6,o 22 (.call 85 [.t 20,s #[13,10],.t 21]),m 23 22,g 23 24 (M 6),g 23 25 (BI .add 24 2),g 23 26 (M 0),g 23 27 (K 26),g 23 28 (B .lss 25 27),o 29 (P 23 28),m 30 29,g 30 31 (M 0),g 30 32 (M 6),g 30 33 (BI .add 32 2),g 30 34 (D 31 33),g 30 35 (C 86 34),o 36 (P 30 35)]) (w 36 (q (r [0,5,6] [m 37 6,o 38 (BI .add 37 1),a 6 38]) (.exit 1 [0,5,6])) z)) (q (q (r [0,5,6,48] [m 39 0,m 40 6,o 41 (D 39 40),o 42 (BU .eql 41 13),m 43 42,h 43 44 (M 0),h 43 45 (M 6),h 43 46 (D 44 45),h 43 47 (BU .eql 46 10),o 48 (O 43 47)]) (w 48 (q (r [2,3] [o 2 (AS #[]),o 3 (AB false)]) (x [2,3])) z)) (r [0,5,6] [m 49 0,m 50 6,o 51 (D 49 50),o 52 (CC 44 5 51)])))) (r [0,5,6] [m 18 6,o 19 (BI .add 18 1),a 6 19])))
def jB:oa:=tE
def Uq:=@rb jB tE rfl
def tK:Ba:=⟨54,[.inl 2,.inl 3],(q (r [0] [o 2 (AS #[]),o 3 (AB false)]) (q (r [0,4] [m 8 0,o 9 (CS 84 8 #[13,10]),m 7 9,o 10 (E 7 0),o 11 (E 7 1),a 0 10,a 4 11]) (q (q (r [0,13] [m 12 4,o 13 (U 12)]) (w 13 (q (r [2,3] [o 2 (AS #[]),o 3 (AB false)]) (x [2,3])) z)) (q (r [0,5] [o 5 (.alloc 101 [.flat (.pointer .none),V])]) (q (q (r [0,5,6] [o 6 (AI 0)]) (k 0 [0,5,6] jB)) (q (r [2,3] [o 53 (C 46 5),a 2 53,o 3 (AB true)]) (x [2,3]))))))),[]⟩
def sK:Ba:=⟨40,[.inl 2,.inl 3],(q (r [0] [o 2 (AS #[]),o 3 (AB false)]) (q (r [0,4,5] [m 10 0,o 11 (CS 90 10 #[61,63,85,84,70,45,56,63,66,63]),m 9 11,o 12 (E 9 0),o 13 (E 9 1),a 4 12,a 5 13]) (q (r [0,4,5,6] [m 15 4,o 16 (CS 84 15 #[63,61]),m 14 16,o 17 (E 14 0),o 18 (E 14 1),a 4 17,a 6 18]) (q (q (r [0,4,24] [m 19 5,o 20 (U 19),m 21 20,h 21 22 (M 6),h 21 23 (U 22),o 24 (O 21 23)]) (w 24 (q (r [2,3] [m 25 0,a 2 25,o 3 (AB false)]) (x [2,3])) z)) (q (r [0,7,8] [m 27 4,o 28 (C 91 27),m 26 28,o 29 (E 26 0),o 30 (E 26 1),a 7 29,a 8 30]) (q (q (r [0,7,37] [m 31 8,o 32 (BI .neq 31 0),m 33 32,h 33 34 (M 7),h 33 35 (C 92 34),h 33 36 (U 35),o 37 (O 33 36)]) (w 37 (q (r [2,3] [m 38 0,a 2 38,o 3 (AB false)]) (x [2,3])) z)) (q (r [2,3] [m 39 7,a 2 39,o 3 (AB true)]) (x [2,3])))))))),[]⟩
def rK:Ba:=⟨9,[.inl 2],(q (r [0] [o 2 (AB false)]) (q (r [2] [m 3 0,o 4 (BU .eql 3 32),m 5 4,h 5 6 (M 0),h 5 7 (BU .eql 6 9),o 8 (O 5 7),a 2 8]) (x [2]))),[]⟩
def OL:Ba:=⟨19,[.inl 4,.inl 5],(q (r [0,1] [o 4 (AI 0),o 5 (.asg (.c (.flat .nilIface)))]) (q (r [0,1] [m 6 0,o 7 (C 93 6)]) (q (r [1] [m 8 0,m 9 0,o 10 (N 9),o 11 (F 1 10),o 12 (.loadA (.t 11)),m 13 1,o 14 (.appendS (.t 12) (.t 13)),o 15 (N 8),o 16 (F 1 15),n (S 1 16 14)]) (q (r [4,5] [m 17 1,o 18 (K 17),a 4 18,o 5 (.asg (.c (.flat .nilIface)))]) (x [4,5]))))),[]⟩
def NL:Ba:=⟨17,[.inl 4],(q (r [0,1] [o 4 (.asg (.c (.flat .nilIface)))]) (q (r [0,1] [m 5 0,o 6 (C 93 5)]) (q (r [] [m 7 0,m 8 0,o 9 (N 8),o 10 (F 1 9),o 11 (.loadA (.t 10)),m 12 1,o 13 (.mksl true 1 1 [.flat (.int .u8 0)] [⟨0,⟨1,.t 12⟩⟩]),o 14 (.append true 1 (.t 11) (.t 13)),o 15 (N 7),o 16 (F 1 15),n (S 1 16 14)]) (q (r [4] [o 4 (.asg (.c (.flat .nilIface)))]) (x [4]))))),[]⟩
def zO:oa:=(r [5,6] [a 6 10])
def oO:oa:=(.block 1 (r [] [o 11 (.loadA (.t 5)),m 12 6,o 13 (.mksl false 1 1 [Z] [⟨0,⟨1,.t 12⟩⟩]),o 14 (.append false 1 (.t 11) (.t 13)),n (S 1 5 14)]))
def GL:Ba:=⟨16,[.inl 4],(q (r [0,1,4] [o 4 (.asg (.c V))]) (q (r [0,1,4,5] [o 5 (.alloc 29 [V])]) (q (q (r [4,5,9] [m 7 0,m 8 1,o 9 (CC 88 7 8)]) (.block 0 (.range 41 0 [5] (.t 9)))) (q (r [4] [o 15 (L 1 5),a 4 15]) (x [4]))))),[([10],zO,oO)]⟩
def HL:Ba:=⟨6,[.inl 4],(q (r [2,3] [o 2 (.box 9 1 (.t 0)),o 3 (.box 5 1 (.t 1)),o 4 (.asg (.c (.flat .nilFunc)))]) (q (r [4] [o 5 (.clos 149 [.t 2,.t 3]),a 4 5]) (x [4]))),[]⟩
def qF:oa:=(.block 1 (q (r [0,1,2,4] [o 5 (L 1 1),o 6 (L 1 2),o 7 (CC 96 5 6),a 4 7]) (q (q (r [0,1,2,4,9] [m 8 4,o 9 (BI .lss 8 0)]) (w 9 (q (r [] [m 10 0,o 11 (L 1 1),o 12 (.callv (.t 10) [.t 11])]) (x [])) z)) (q (q (r [0,1,2,4,18] [m 13 0,o 14 (L 1 1),m 15 4,o 16 (.sliceS (.t 14) .none (.some (.t 15))),o 17 (.callv (.t 13) [.t 16]),o 18 (U 17)]) (w 18 (x []) z)) (r [0,1,2] [o 19 (L 1 1),m 20 4,o 21 (BI .add 20 1),o 22 (.sliceS (.t 19) (.some (.t 21)) .none),n (S 1 1 22)])))))
def OB:oa:=qF
def DG:=@rb OB qF rfl
def IL:Ba:=⟨23,[],(k 0 [0,1,2] OB),[]⟩
def FL:Ba:=⟨22,[.inl 6],(q (r [0,1,2] [o 6 (AB false)]) (q (r [6] [m 7 2,o 8 (BI .geq 7 0),m 9 8,g 9 10 (M 2),g 9 11 (M 0),g 9 12 (K 11),g 9 13 (B .leq 10 12),o 14 (P 9 13),m 15 14,g 15 16 (M 0),g 15 17 (M 2),g 15 18 (.sliceS (.t 16) (.some (.t 17)) .none),g 15 19 (M 1),g 15 20 (CC 80 18 19),o 21 (P 15 20),a 6 21]) (x [6]))),[]⟩
def uF:oa:=(q (q (r [4,5,19] [m 15 4,o 16 (N 15),o 17 (F 0 16),o 18 (C 111 17),o 19 (U 18)]) (w 19 z (.exit 0 [5]))) (.block 1 (q (r [4,5,6,7] [m 21 4,o 22 (C 112 21),m 20 22,o 23 (E 20 0),o 24 (E 20 1),o 6 (.alloc 190 [.flat (.int .u8 0),Z,Z,V,J,J]),n (S 6 6 23),a 7 24]) (q (q (r [4,5,6,26] [m 25 7,o 26 (U 25)]) (w 26 (q (r [2,3] [o 2 (.asg (.c V)),o 3 (AI 7)]) (x [2,3])) z)) (r [4,5] [o 27 (.mvA 5),o 28 (LT 6 6),o 29 (.mksl false 1 6 [.flat (.int .u8 0),Z,Z,V,J,J] [⟨0,⟨6,.t 28⟩⟩]),o 30 (.append false 6 (.t 27) (.t 29)),a 5 30])))))
def RB:oa:=uF
def GG:=@rb RB uF rfl
def PL:Ba:=⟨32,[.inl 2,.inl 3],(q (r [0] [o 2 (.asg (.c V)),o 3 (AI 0)]) (q (q (r [0,10] [m 8 0,o 9 (C 92 8),o 10 (U 9)]) (w 10 (q (r [2,3] [o 2 (.asg (.c V)),o 3 (AI 7)]) (x [2,3])) z)) (q (r [4] [m 11 0,o 12 (.build [Z,J] [⟨0,⟨1,.t 11⟩⟩]),o 13 (.build [Z,J] [⟨0,⟨2,.t 12⟩⟩]),o 14 (.box 187 2 (.t 13)),a 4 14]) (q (r [4,5] [o 5 (.asg (.c V))]) (q (k 0 [4,5] RB) (q (r [2,3] [m 31 5,a 2 31,o 3 (AI 0)]) (x [2,3]))))))),[]⟩
def QL:Ba:=⟨13,[.inl 2],(q (r [0] [o 2 (AB false)]) (q (r [2] [m 3 0,o 4 (BS .eql 3 #[98,114]),m 5 4,h 5 6 (M 0),h 5 7 (BS .eql 6 #[104,114]),o 8 (O 5 7),m 9 8,h 9 10 (M 0),h 9 11 (BS .eql 10 #[105,109,103]),o 12 (O 9 11),a 2 12]) (x [2]))),[]⟩
def TL:Ba:=⟨6,[.inl 2],(q (r [0] [o 2 (AB false)]) (q (r [2] [o 3 (.mksl false 26 1 [Z,Z,Z,Z,Z,Z,Z,Z,Z,Z,Z,Z,Z,Z,Z,Z,Z,Z,Z,Z,Z,Z,Z,Z,Z,Z] [⟨0,⟨1,s #[97]⟩⟩,⟨1,⟨1,s #[98]⟩⟩,⟨2,⟨1,s #[98,114]⟩⟩,⟨3,⟨1,s #[99,111,100,101]⟩⟩,⟨4,⟨1,s #[100,105,118]⟩⟩,⟨5,⟨1,s #[101,109]⟩⟩,⟨6,⟨1,s #[104,49]⟩⟩,⟨7,⟨1,s #[104,50]⟩⟩,⟨8,⟨1,s #[104,51]⟩⟩,⟨9,⟨1,s #[104,114]⟩⟩,⟨10,⟨1,s #[105]⟩⟩,⟨11,⟨1,s #[105,109,103]⟩⟩,⟨12,⟨1,s #[108,105]⟩⟩,⟨13,⟨1,s #[111,108]⟩⟩,⟨14,⟨1,s #[112]⟩⟩,⟨15,⟨1,s #[112,114,101]⟩⟩,⟨16,⟨1,s #[115,112,97,110]⟩⟩,⟨17,⟨1,s #[115,116,114,111,110,103]⟩⟩,⟨18,⟨1,s #[116,97,98,108,101]⟩⟩,⟨19,⟨1,s #[116,98,111,100,121]⟩⟩,⟨20,⟨1,s #[116,100]⟩⟩,⟨21,⟨1,s #[116,104]⟩⟩,⟨22,⟨1,s #[116,104,101,97,100]⟩⟩,⟨23,⟨1,s #[116,114]⟩⟩,⟨24,⟨1,s #[117]⟩⟩,⟨25,⟨1,s #[117,108]⟩⟩]),m 4 0,o 5 (CC 241 3 4),a 2 5]) (x [2]))),[]⟩
def RL:Ba:=⟨6,[.inl 2],(q (r [0] [o 2 (AB false)]) (q (r [2] [o 3 (.mksl false 9 1 [Z,Z,Z,Z,Z,Z,Z,Z,Z] [⟨0,⟨1,s #[97,108,116]⟩⟩,⟨1,⟨1,s #[99,108,97,115,115]⟩⟩,⟨2,⟨1,s #[99,111,108,115,112,97,110]⟩⟩,⟨3,⟨1,s #[104,114,101,102]⟩⟩,⟨4,⟨1,s #[105,100]⟩⟩,⟨5,⟨1,s #[114,111,119,115,112,97,110]⟩⟩,⟨6,⟨1,s #[115,114,99]⟩⟩,⟨7,⟨1,s #[116,105,116,108,101]⟩⟩,⟨8,⟨1,s #[119,105,100,116,104]⟩⟩]),m 4 0,o 5 (CC 241 3 4),a 2 5]) (x [2]))),[]⟩
def SL:Ba:=⟨13,[.inl 2],(q (r [0] [o 2 (AB false)]) (q (r [2] [m 3 0,o 4 (BU .eql 3 32),m 5 4,h 5 6 (M 0),h 5 7 (BU .eql 6 9),o 8 (O 5 7),m 9 8,h 9 10 (M 0),h 9 11 (BU .eql 10 10),o 12 (O 9 11),a 2 12]) (x [2]))),[]⟩
def XL:Ba:=⟨17,[.inl 2],(q (r [0] [o 2 (AB false)]) (q (r [2] [m 3 0,o 4 (BU .geq 3 97),m 5 4,g 5 6 (M 0),g 5 7 (BU .leq 6 122),o 8 (P 5 7),m 9 8,h 9 10 (M 0),h 9 11 (BU .geq 10 48),h 9 12 (M 11),g 12 13 (M 0),g 12 14 (BU .leq 13 57),h 9 15 (P 12 14),o 16 (O 9 15),a 2 16]) (x [2]))),[]⟩
def UL:Ba:=⟨13,[.inl 2],(q (r [0] [o 2 (AB false)]) (q (.Ld [2] [m 3 0,o 4 (N 3),o 5 (F 1 4),o 6 (L 1 5),m 7 0,o 8 (N 7),o 9 (F 0 8),o 10 (L 1 9),o 11 (K 10)] [o 12 (B .geq 6 11),a 2 12]) (x [2]))),[]⟩
def VL:Ba:=⟨26,[.inl 4],(q (r [0,1] [o 4 (AB false)]) (q (q (.Ld [0,1,16] [m 5 0,o 6 (N 5),o 7 (F 0 6),o 8 (L 1 7),m 9 0,o 10 (N 9),o 11 (F 1 10),o 12 (L 1 11),o 13 (.sliceS (.t 8) (.some (.t 12)) .none),m 14 1] [o 15 (CC 80 13 14),o 16 (U 15)]) (w 16 (q (r [4] [o 4 (AB false)]) (x [4])) z)) (q (r [] [m 17 0,o 18 (N 17),o 19 (F 1 18),o 20 (L 1 19),m 21 1,o 22 (K 21),o 23 (B .add 20 22),o 24 (N 17),o 25 (F 1 24),n (S 1 25 23)]) (q (r [4] [o 4 (AB true)]) (x [4]))))),[]⟩
def vF:oa:=(q (q (.dg [0,1,5,25] [m 10 0,o 11 (C 111 10),o 12 (U 11),m 13 12,g 13 14 (M 1),g 13 15 (M 0),g 13 16 (N 15),g 13 17 (F 0 16),g 13 18 (L 1 17),g 13 19 (M 0),g 13 20 (N 19),g 13 21 (F 1 20),g 13 22 (L 1 21),g 13 23 (D 18 22)] (.one (g 13 24 (.callv (.t 14) [.t 23])) (.one (o 25 (P 13 24)) .done))) (w 25 z (.exit 0 [0,5]))) (.block 1 (r [0,1,5] [m 26 0,o 27 (N 26),o 28 (F 1 27),o 29 (L 1 28),o 30 (BI .add 29 1),o 31 (N 26),o 32 (F 1 31),n (S 1 32 30)])))
def TB:oa:=vF
def HG:=@rb TB vF rfl
def WL:Ba:=⟨43,[.inl 4],(q (r [0,1] [o 4 (AS #[])]) (q (r [0,1,5] [m 6 0,o 7 (N 6),o 8 (F 1 7),o 9 (L 1 8),a 5 9]) (q (k 0 [0,1,5] TB) (q (.Ld [4] [m 33 0,o 34 (N 33),o 35 (F 0 34),o 36 (L 1 35),m 37 5,m 38 0,o 39 (N 38),o 40 (F 1 39),o 41 (L 1 40)] [o 42 (.sliceS (.t 36) (.some (.t 37)) (.some (.t 41))),a 4 42]) (x [4]))))),[]⟩
def ZL:Ba:=⟨69,[.inr ⟨2,⟨true,6⟩⟩,.inl 3],(q (r [0,2] [o 2 (.alloc 190 [.flat (.int .u8 0),Z,Z,V,J,J]),o 3 (AB false)]) (q (r [0,2,4] [m 9 0,o 10 (N 9),o 11 (F 0 10),o 12 (F 1 11),o 13 (L 1 12),a 4 13]) (q (.block 0 (q (r [0,2,4,14] [m 15 0,o 16 (N 15),o 17 (F 0 16),o 18 (CS 178 17 #[60,47]),a 14 18]) (w 14 (q (r [0,2,4,5] [m 19 0,o 20 (N 19),o 21 (F 0 20),o 22 (.call 179 [.t 21,.c (.fb 180 [])]),a 5 22]) (q (r [0,2,4,5,6] [m 23 5,o 24 (C 181 23),m 25 24,g 25 26 (M 5),g 25 27 (C 182 26),g 25 28 (U 27),o 29 (P 25 28),m 30 29,g 30 31 (M 0),g 30 32 (N 31),g 30 33 (F 0 32),g 30 34 (CS 178 33 #[62]),o 35 (P 30 34),a 6 35]) (q (r [2,3] [m 36 5,m 37 4,m 38 0,o 39 (N 38),o 40 (F 0 39),o 41 (F 1 40),o 42 (L 1 41),o 43 (.build [.flat (.int .u8 0),Z,Z,V,J,J] [⟨0,⟨1,u 99⟩⟩,⟨1,⟨1,.t 36⟩⟩,⟨4,⟨1,.t 37⟩⟩,⟨5,⟨1,.t 42⟩⟩]),m 44 6,n (S 6 2 43),a 3 44]) (x [2,3])))) (q (r [0,2,4,45] [m 46 0,o 47 (N 46),o 48 (F 0 47),o 49 (CS 178 48 #[60]),a 45 49]) (w 45 (q (r [2,3] [m 50 0,m 51 4,o 52 (CC 183 50 51),o 53 (E 52 0),o 54 (E 52 1),n (S 6 2 53),a 3 54]) (x [2,3])) z))))) (q (r [0,2,4,7,8] [m 56 0,o 57 (.call 184 [.t 56,u 60,u 62]),m 55 57,o 58 (E 55 0),o 59 (E 55 1),a 7 58,a 8 59]) (q (r [2,3] [m 60 7,m 61 4,m 62 0,o 63 (N 62),o 64 (F 0 63),o 65 (F 1 64),o 66 (L 1 65),o 67 (.build [.flat (.int .u8 0),Z,Z,V,J,J] [⟨0,⟨1,u 116⟩⟩,⟨2,⟨1,.t 60⟩⟩,⟨4,⟨1,.t 61⟩⟩,⟨5,⟨1,.t 66⟩⟩]),m 68 8,n (S 6 2 67),a 3 68]) (x [2,3])))))),[]⟩
def yF:oa:=(.block 1 (q (r [0,4,6,7] [m 21 0,o 22 (N 21),o 23 (F 0 22),o 24 (.call 179 [.t 23,.c (.fb 242 [])]),a 7 24]) (q (q (r [0,4,6,7,28] [m 25 0,o 26 (N 25),o 27 (F 0 26),o 28 (CS 178 27 #[62])]) (w 28 (q (r [4,6] [m 29 0,o 30 (N 29),o 31 (F 0 30),o 32 (F 1 31),o 33 (L 1 32),o 34 (F 5 6),n (S 1 34 33)]) (q (r [4,5] [o 35 (LT 6 6),n (S 6 4 35),o 5 (AB true)]) (x [4,5]))) z)) (q (r [0,4,6,7,8,9] [m 37 0,o 38 (C 243 37),m 36 38,o 39 (E 36 0),o 40 (E 36 1),o 8 (.alloc 282 [Z,Z,J,J]),n (S 4 8 39),a 9 40]) (q (q (r [0,4,6,8,52] [m 41 9,o 42 (U 41),m 43 42,h 43 44 (M 7),h 43 45 (BS .eql 44 #[]),o 46 (O 43 45),m 47 46,h 47 48 (F 3 6),h 47 49 (L 1 48),h 47 50 (.clos 245 [.t 8]),h 47 51 (CC 244 49 50),o 52 (O 47 51)]) (w 52 (q (r [4,5] [o 53 (LT 6 6),n (S 6 4 53),o 5 (AB false)]) (x [4,5])) z)) (r [0,4,6] [o 54 (F 3 6),o 55 (.loadA (.t 54)),o 56 (LT 4 8),o 57 (.mksl false 1 4 [Z,Z,J,J] [⟨0,⟨4,.t 56⟩⟩]),o 58 (.append false 4 (.t 55) (.t 57)),o 59 (F 3 6),n (S 1 59 58)]))))))
def Hr:oa:=yF
def Gv:=@rb Hr yF rfl
def bM:Ba:=⟨60,[.inr ⟨4,⟨true,6⟩⟩,.inl 5],(q (r [0,1,4] [o 4 (.alloc 190 [.flat (.int .u8 0),Z,Z,V,J,J]),o 5 (AB false)]) (q (r [0,4,6] [m 10 0,o 11 (N 10),o 12 (F 0 11),o 13 (.call 179 [.t 12,.c (.fb 180 [])]),m 14 1,o 15 (.build [.flat (.int .u8 0),Z,Z,V,J,J] [⟨0,⟨1,u 111⟩⟩,⟨1,⟨1,.t 13⟩⟩,⟨4,⟨1,.t 14⟩⟩]),o 6 (.alloc 190 [.flat (.int .u8 0),Z,Z,V,J,J]),n (S 6 6 15)]) (q (q (r [0,4,6,19] [o 16 (F 1 6),o 17 (L 1 16),o 18 (C 181 17),o 19 (U 18)]) (w 19 (q (r [4,5] [o 20 (LT 6 6),n (S 6 4 20),o 5 (AB false)]) (x [4,5])) z)) (k 0 [0,4,6] Hr)))),[]⟩
def cM:Ba:=⟨9,[.inl 3],(q (r [1,2] [o 2 (.box 282 4 (.t 0)),o 3 (AB false)]) (q (r [3] [o 4 (F 0 2),o 5 (L 1 4),o 6 (F 0 1),o 7 (L 1 6),o 8 (B .eql 5 7),a 3 8]) (x [3]))),[]⟩
def zF:oa:=(q (q (.dg [0,1,2,8,31] [m 12 0,o 13 (N 12),o 14 (F 0 13),o 15 (C 111 14),o 16 (U 15),m 17 16,g 17 18 (M 0),g 17 19 (N 18),g 17 20 (F 0 19),g 17 21 (F 0 20),g 17 22 (L 1 21),g 17 23 (M 0),g 17 24 (N 23),g 17 25 (F 0 24),g 17 26 (F 1 25),g 17 27 (L 1 26),g 17 28 (D 22 27),g 17 29 (M 1),g 17 30 (B .neq 28 29),o 31 (P 17 30)] .done) (w 31 z (.exit 0 [8]))) (.block 1 (q (.Ld [0,1,2,8,9] [m 32 0,o 33 (N 32),o 34 (F 0 33),o 35 (F 0 34),o 36 (L 1 35),m 37 0,o 38 (N 37),o 39 (F 0 38),o 40 (F 1 39),o 41 (L 1 40)] [o 42 (D 36 41),a 9 42]) (q (r [0,1,2,8,9,43] [m 43 9]) (.block 2 (q (r [0,1,2,8,9,43,55] [m 56 2,o 57 (B .eql 43 56),a 55 57]) (w 55 (q (r [6,7] [o 6 (AS #[]),o 7 (AB false)]) (x [6,7])) (q (r [0,1,2,8,9,58] [o 59 (BU .eql 43 38),a 58 59]) (w 58 (q (r [0,1,2,8,10,11] [m 61 0,o 62 (C 246 61),m 60 62,o 63 (E 60 0),o 64 (E 60 1),a 10 63,a 11 64]) (q (q (r [0,1,2,8,10,66] [m 65 11,o 66 (U 65)]) (w 66 (q (r [6,7] [o 6 (AS #[]),o 7 (AB false)]) (x [6,7])) z)) (r [0,1,2,8] [m 67 10,o 68 (CC 45 8 67)]))) (q (r [0,1,2,8] [m 44 9,o 45 (CC 44 8 44)]) (r [0,1,2,8] [m 46 0,o 47 (N 46),o 48 (F 0 47),o 49 (F 1 48),o 50 (L 1 49),o 51 (BI .add 50 1),o 52 (N 46),o 53 (F 0 52),o 54 (F 1 53),n (S 1 54 51)])))))))))))
def VB:oa:=zF
def Xs:=@rb VB zF rfl
def eM:Ba:=⟨70,[.inl 6,.inl 7],(q (r [0,1,2] [o 6 (AS #[]),o 7 (AB false)]) (q (r [0,1,2,8] [o 8 (.alloc 101 [.flat (.pointer .none),V])]) (q (k 0 [0,1,2,8] VB) (q (r [6,7] [o 69 (C 46 8),a 6 69,o 7 (AB true)]) (x [6,7]))))),[]⟩
def dM:Ba:=⟨42,[.inl 2,.inl 3],(q (r [0] [o 2 (AS #[]),o 3 (AB false)]) (q (.block 0 (q (r [0,4] [m 5 0,o 6 (N 5),o 7 (F 0 6),o 8 (CS 178 7 #[38,97,109,112,59]),a 4 8]) (w 4 (q (r [2,3] [o 2 (AS #[38]),o 3 (AB true)]) (x [2,3])) (q (r [0,9] [m 10 0,o 11 (N 10),o 12 (F 0 11),o 13 (CS 178 12 #[38,108,116,59]),a 9 13]) (w 9 (q (r [2,3] [o 2 (AS #[60]),o 3 (AB true)]) (x [2,3])) (q (r [0,14] [m 15 0,o 16 (N 15),o 17 (F 0 16),o 18 (CS 178 17 #[38,103,116,59]),a 14 18]) (w 14 (q (r [2,3] [o 2 (AS #[62]),o 3 (AB true)]) (x [2,3])) (q (r [0,19] [m 20 0,o 21 (N 20),o 22 (F 0 21),o 23 (CS 178 22 #[38,113,117,111,116,59]),a 19 23]) (w 19 (q (r [2,3] [o 2 (AS #[34]),o 3 (AB true)]) (x [2,3])) (q (r [0,24] [m 25 0,o 26 (N 25),o 27 (F 0 26),o 28 (CS 178 27 #[38,35,120]),a 24 28]) (w 24 (q (r [2,3] [m 29 0,o 30 (.call 281 [.t 29,i 16,i 6]),o 31 (E 30 0),o 32 (E 30 1),a 2 31,a 3 32]) (x [2,3])) (q (r [0,33] [m 34 0,o 35 (N 34),o 36 (F 0 35),o 37 (CS 178 36 #[38,35]),a 33 37]) (w 33 (q (r [2,3] [m 38 0,o 39 (.call 281 [.t 38,i 10,i 7]),o 40 (E 39 0),o 41 (E 39 1),a 2 40,a 3 41]) (x [2,3])) z))))))))))))) (q (r [2,3] [o 2 (AS #[]),o 3 (AB false)]) (x [2,3])))),[]⟩
def xF:oa:=(q (q (r [0,1,2,8,9,24] [m 15 0,o 16 (N 15),o 17 (F 0 16),o 18 (C 111 17),o 19 (U 18),m 20 19,g 20 21 (M 9),g 20 22 (M 2),g 20 23 (B .lss 21 22),o 24 (P 20 23)]) (w 24 z (.exit 0 [0,8]))) (.block 1 (q (r [0,1,2,8,9,10] [m 25 1,a 10 25]) (q (q (.Ld [0,1,2,8,9,10,11] [m 26 0,o 27 (N 26),o 28 (F 0 27),o 29 (F 0 28),o 30 (L 1 29),m 31 0,o 32 (N 31),o 33 (F 0 32),o 34 (F 1 33),o 35 (L 1 34)] [o 36 (D 30 35),a 11 36]) (.block 2 (q (r [0,1,2,8,9,10,11,37] [m 38 11,o 39 (BU .geq 38 48),m 40 39,g 40 41 (M 11),g 40 42 (BU .leq 41 57),o 43 (P 40 42),a 37 43]) (w 37 (r [0,1,2,8,9,10] [m 44 11,o 45 (BU .sub 44 48),o 46 (.conv .i64 (.t 45)),a 10 46]) (q (r [0,1,2,8,9,10,11,47] [m 48 11,o 49 (BU .or 48 32),o 50 (BU .geq 49 97),m 51 50,g 51 52 (M 11),g 51 53 (BU .or 52 32),g 51 54 (BU .leq 53 102),o 55 (P 51 54),a 47 55]) (w 47 (r [0,1,2,8,9,10] [m 56 11,o 57 (BU .or 56 32),o 58 (BU .sub 57 97),o 59 (.conv .i64 (.t 58)),o 60 (BI .add 59 10),a 10 60]) z)))))) (q (q (r [0,1,2,8,9,10,63] [m 61 10,m 62 1,o 63 (B .geq 61 62)]) (w 63 (.exit 0 [0,8]) z)) (q (r [0,1,2,8,9] [m 64 8,m 65 1,o 66 (B .mul 64 65),m 67 10,o 68 (B .add 66 67),a 8 68]) (q (r [0,1,2,8,9] [m 69 9,o 70 (BI .add 69 1),a 9 70]) (r [0,1,2,8,9] [m 71 0,o 72 (N 71),o 73 (F 0 72),o 74 (F 1 73),o 75 (L 1 74),o 76 (BI .add 75 1),o 77 (N 71),o 78 (F 0 77),o 79 (F 1 78),n (S 1 79 76)]))))))))
def UB:oa:=xF
def sk:=@rb UB xF rfl
def aM:Ba:=⟨104,[.inl 6,.inl 7],(q (r [0,1,2] [o 6 (AS #[]),o 7 (AB false)]) (q (r [0,1,2,8,9] [o 8 (AI 0),o 9 (AI 0)]) (q (k 0 [0,1,2,8,9] UB) (q (r [0,8,12] [m 80 8,o 81 (.conv .i32 (.t 80)),o 82 (C 159 81),a 12 82]) (q (q (r [0,8,12,13] [m 84 12,o 85 (CI 225 84 0),m 83 85,o 86 (E 83 0),o 87 (E 83 1),a 13 86,a 14 87]) (q (r [12,102] [m 88 8,o 89 (BI .eql 88 0),m 90 89,h 90 91 (M 13),h 90 92 (.conv .i64 (.t 91)),h 90 93 (M 8),h 90 94 (B .neq 92 93),o 95 (O 90 94),m 96 95,h 96 97 (M 0),h 96 98 (N 97),h 96 99 (F 0 98),h 96 100 (CS 178 99 #[59]),h 96 101 (U 100),o 102 (O 96 101)]) (w 102 (q (r [6,7] [o 6 (AS #[]),o 7 (AB false)]) (x [6,7])) z))) (q (r [6,7] [m 103 12,a 6 103,o 7 (AB true)]) (x [6,7]))))))),[]⟩
def YL:Ba:=⟨51,[.inr ⟨2,⟨true,4⟩⟩,.inl 3],(q (r [0,2] [o 2 (.alloc 282 [Z,Z,J,J]),o 3 (AB false)]) (q (r [0,2,4] [m 7 0,o 8 (N 7),o 9 (F 0 8),o 10 (.call 179 [.t 9,.c (.fb 180 [])]),o 11 (.build [Z,Z,J,J] [⟨0,⟨1,.t 10⟩⟩]),o 4 (.alloc 282 [Z,Z,J,J]),n (S 4 4 11)]) (q (q (r [0,2,4,22] [o 12 (F 0 4),o 13 (L 1 12),o 14 (C 279 13),o 15 (U 14),m 16 15,h 16 17 (M 0),h 16 18 (N 17),h 16 19 (F 0 18),h 16 20 (CS 178 19 #[61,34]),h 16 21 (U 20),o 22 (O 16 21)]) (w 22 (q (r [2,3] [o 23 (LT 4 4),n (S 4 2 23),o 3 (AB false)]) (x [2,3])) z)) (q (r [0,2,4] [m 24 0,o 25 (N 24),o 26 (F 0 25),o 27 (F 1 26),o 28 (L 1 27),o 29 (F 2 4),n (S 1 29 28)]) (q (r [0,2,4,5,6] [m 31 0,o 32 (.call 184 [.t 31,u 34,u 60]),m 30 32,o 33 (E 30 0),o 34 (E 30 1),a 5 33,a 6 34]) (q (.dg [0,2,4,6] [m 35 5,m 36 0,o 37 (N 36),o 38 (F 0 37),o 39 (F 1 38),o 41 (F 1 4)] (.two (o 40 (L 1 39)) (.one (n (S 1 41 35)) (.one (o 42 (F 3 4)) (.one (n (S 1 42 40)) .done))) (.one (n (S 1 41 35)) (.one (o 40 (L 1 39)) (.one (o 42 (F 3 4)) (.one (n (S 1 42 40)) .done)))))) (q (.dg [2,3] [m 44 6,m 45 44,g 45 46 (M 0),g 45 47 (N 46),g 45 48 (F 0 47)] (.two (o 43 (LT 4 4)) (.one (g 45 49 (CS 178 48 #[34])) (.two (o 50 (P 45 49)) (.one (n (S 4 2 43)) (.one (a 3 50) .done)) (.one (n (S 4 2 43)) (.one (o 50 (P 45 49)) (.one (a 3 50) .done))))) (.one (g 45 49 (CS 178 48 #[34])) (.two (o 43 (LT 4 4)) (.two (o 50 (P 45 49)) (.one (n (S 4 2 43)) (.one (a 3 50) .done)) (.one (n (S 4 2 43)) (.one (o 50 (P 45 49)) (.one (a 3 50) .done)))) (.one (o 50 (P 45 49)) (.one (o 43 (LT 4 4)) (.one (n (S 4 2 43)) (.one (a 3 50) .done)))))))) (x [2,3])))))))),[]⟩
def JL:Ba:=⟨9,[.inl 4],(q (r [0,1] [o 4 (AB false)]) (q (r [4] [m 5 0,m 6 1,o 7 (CC 280 5 6),o 8 (BI .geq 7 0),a 4 8]) (x [4]))),[]⟩
def rF:oa:=(q (r [0,1,7,8,9] [o 9 (B .lss 8 7)]) (q (w 9 z (.exit 0 [])) (q (.block 1 (q (r [0,1,5,7,8] [m 10 8,a 5 10]) (q (r [0,1,5,7,8,16] [m 11 1,m 12 0,m 13 5,o 14 (Y 4 12 13),o 15 (LT 4 14),o 16 (.callv (.t 11) [.t 15])]) (w 16 (q (r [4] [m 17 5,a 4 17]) (x [4])) z)))) (r [0,1,7,8] [o 18 (BI .add 8 1),m 8 18]))))
def PB:oa:=rF
def EG:=@rb PB rF rfl
def LL:Ba:=⟨19,[.inl 4],(q (r [0,1] [o 4 (AI 0)]) (q (q (r [0,1,7,8] [m 6 0,o 7 (W 6),o 8 (.mv (i 0))]) (k 0 [0,1,7,8] PB)) (q (r [4] [o 4 (.asg (.c (.flat (.int .i64 (.negSucc 0)))))]) (x [4])))),[]⟩
def KL:Ba:=⟨9,[.inl 4],(q (r [0,1] [o 4 (AB false)]) (q (r [4] [m 5 0,m 6 1,o 7 (CC 278 5 6),o 8 (BI .geq 7 0),a 4 8]) (x [4]))),[]⟩
def tF:oa:=(q (r [0,1,7,8,9] [o 9 (B .lss 8 7)]) (q (w 9 z (.exit 0 [])) (q (.block 1 (q (r [0,1,5,7,8] [m 10 8,a 5 10]) (q (r [0,1,5,7,8,16] [m 11 1,m 12 0,m 13 5,o 14 (Y 1 12 13),o 15 (L 1 14),o 16 (B .eql 11 15)]) (w 16 (q (r [4] [m 17 5,a 4 17]) (x [4])) z)))) (r [0,1,7,8] [o 18 (BI .add 8 1),m 8 18]))))
def QB:oa:=tF
def FG:=@rb QB tF rfl
def ML:Ba:=⟨19,[.inl 4],(q (r [0,1] [o 4 (AI 0)]) (q (q (r [0,1,7,8] [m 6 0,o 7 (W 6),o 8 (.mv (i 0))]) (k 0 [0,1,7,8] QB)) (q (r [4] [o 4 (.asg (.c (.flat (.int .i64 (.negSucc 0)))))]) (x [4])))),[]⟩
def CE:oa:=(q (r [0,2,6,10,91,92,93,94] [o 94 (B .lss 93 92)]) (q (w 94 z (.exit 2 [6,10])) (q (.block 3 (q (r [0,2,6,10,17,91,92,93] [o 95 (Y 1 91 93),o 96 (L 1 95),a 17 96]) (.dg [0,2,6,10,91,92,93] [o 97 (F 3 10),m 99 0,m 100 17,m 101 2,o 102 (BI .add 101 1)] (.two (o 98 (.loadM (.t 97))) (.one (o 103 (.call 37 [.t 99,.t 100,.t 102])) (.one (o 104 (.mksl false 1 4 [V,Z,Z,V] [⟨0,⟨4,.t 103⟩⟩])) (.one (o 105 (.append false 4 (.t 98) (.t 104))) (.one (o 106 (F 3 10)) (.one (n (S 1 106 105)) .done))))) (.one (o 103 (.call 37 [.t 99,.t 100,.t 102])) (.two (o 98 (.loadM (.t 97))) (.one (o 104 (.mksl false 1 4 [V,Z,Z,V] [⟨0,⟨4,.t 103⟩⟩])) (.one (o 105 (.append false 4 (.t 98) (.t 104))) (.one (o 106 (F 3 10)) (.one (n (S 1 106 105)) .done)))) (.one (o 104 (.mksl false 1 4 [V,Z,Z,V] [⟨0,⟨4,.t 103⟩⟩])) (.one (o 98 (.loadM (.t 97))) (.one (o 105 (.append false 4 (.t 98) (.t 104))) (.one (o 106 (F 3 10)) (.one (n (S 1 106 105)) .done))))))))))) (r [0,2,6,10,91,92,93] [o 107 (BI .add 93 1),m 93 107]))))
def Sj:oa:=CE
def Dz:=@rb Sj CE rfl
def yO:oa:=(r [14,15] [a 15 68])
def nO:oa:=(.block 1 (r [] [o 69 (.loadA (.t 14)),m 70 15,o 71 (.mksl false 1 1 [Z] [⟨0,⟨1,.t 70⟩⟩]),o 72 (.append false 1 (.t 69) (.t 71)),n (S 1 14 72)]))
def EK:Ba:=⟨109,[.inr ⟨6,⟨true,4⟩⟩],(q (r [0,1,2,6] [o 6 (.alloc 52 [V,Z,Z,V])]) (q (r [0,1,2,6,7,8,9] [m 19 1,o 20 (C 75 19),m 18 20,o 21 (E 18 0),o 22 (E 18 1),o 23 (E 18 2),a 7 21,a 8 22,a 9 23]) (q (r [0,1,2,6,7,8] [m 24 9,o 25 (BI .eql 24 0),m 26 9,o 27 (CC 76 25 26)]) (q (r [0,1,2,6,7,8,10] [m 28 7,o 29 (.build [V,Z,Z,V] [⟨0,⟨1,.t 28⟩⟩]),o 10 (.alloc 52 [V,Z,Z,V]),n (S 4 10 29)]) (q (r [0,1,2,6,7,8,10] [o 11 (AS #[])]) (q (r [0,1,2,6,7,8,10,11] [m 31 7,o 32 (C 77 31),m 30 32,o 33 (E 30 0),o 34 (E 30 1),o 35 (F 1 10),n (S 1 35 33),a 11 34]) (q (r [0,1,2,6,8,10,11,12,13] [m 37 7,o 38 (CS 78 37 #[99,111,110,116,101,110,116,45,116,114,97,110,115,102,101,114,45,101,110,99,111,100,105,110,103]),m 36 38,o 39 (E 36 0),o 40 (E 36 1),a 12 39,a 13 40]) (q (q (r [0,1,2,6,8,10,11,12,42] [m 41 13,o 42 (BI .eql 41 0)]) (w 42 (r [0,1,2,6,8,10,11,12] [o 12 (AS #[55,98,105,116])]) z)) (q (r [0,1,2,6,8,10,11,12] [m 43 12,o 44 (C 79 43),a 12 44]) (q (q (r [0,1,2,6,8,10,11,12,48] [o 45 (F 1 10),o 46 (L 1 45),o 47 (CS 80 46 #[109,117,108,116,105,112,97,114,116,47]),o 48 (U 47)]) (w 48 (q (r [6,10] [m 49 1,m 50 8,o 51 (.sliceS (.t 49) (.some (.t 50)) .none),m 52 12,o 53 (CC 81 51 52),o 54 (F 2 10),n (S 1 54 53)]) (q (r [6] [o 55 (LT 4 10),n (S 4 6 55)]) (x [6]))) z)) (q (r [0,1,2,6,8,10,11] [m 56 12,o 57 (BS .eql 56 #[55,98,105,116]),m 58 57,g 58 59 (M 11),g 58 60 (C 82 59),o 61 (P 58 60),o 62 (CI 76 61 7)]) (q (r [0,1,2,6,8,10,11,14] [o 14 (.alloc 29 [V])]) (q (q (r [0,2,6,10,14,67] [m 63 1,m 64 8,o 65 (.sliceS (.t 63) (.some (.t 64)) .none),m 66 11,o 67 (CC 83 65 66)]) (.block 0 (.range 37 0 [14] (.t 67)))) (q (r [0,2,6,10,14] [m 73 2,o 74 (BI .lss 73 4),o 75 (CI 76 74 8)]) (q (.Ld [0,2,6,10,14] [m 76 0,o 77 (N 76),o 78 (F 0 77),o 79 (L 1 78),o 80 (L 1 14),o 81 (W 80)] [o 82 (B .add 79 81),o 83 (N 76),o 84 (F 0 83),n (S 1 84 82)]) (q (r [0,2,6,10,14] [m 85 0,o 86 (N 85),o 87 (F 0 86),o 88 (L 1 87),o 89 (BI .leq 88 64),o 90 (CI 76 89 5)]) (q (q (r [0,2,6,10,91,92,93] [o 91 (L 1 14),o 92 (W 91),o 93 (.mv (i 0))]) (k 2 [0,2,6,10,91,92,93] Sj)) (q (r [6] [o 108 (LT 4 10),n (S 4 6 108)]) (x [6]))))))))))))))))))),[([68],yO,nO)]⟩
def DK:Ba:=⟨9,[],(q (r [1,5] [m 4 0,o 5 (U 4)]) (w 5 (r [] [m 6 1,o 7 (.build [J] [⟨0,⟨1,.t 6⟩⟩]),o 8 (.qk (.c .hd)),n (.qk (.c .hd))]) z)),[]⟩
def BE:oa:=(q (r [8,11,46,47,48,49] [o 49 (B .lss 48 47)]) (q (w 49 z (.exit 0 [8,11])) (q (.block 1 (q (r [8,11,13,46,47,48] [o 50 (Y 2 46 48),o 51 (LT 2 50),o 13 (.alloc 180 [Z,Z]),n (S 2 13 51)]) (q (r [8,11,13,46,47,48,54] [o 52 (F 0 13),o 53 (L 1 52),o 54 (CS 140 53 #[98,111,117,110,100,97,114,121])]) (w 54 (r [8,11,46,47,48] [o 55 (F 1 13),o 56 (L 1 55),a 11 56]) z)))) (r [8,11,46,47,48] [o 57 (BI .add 48 1),m 48 57]))))
def jx:oa:=BE
def qG:=@rb jx BE rfl
def CK:Ba:=⟨82,[.inl 2,.inl 3],(q (r [0] [o 2 (AS #[]),o 3 (AS #[])]) (q (r [0,4,5] [m 18 0,o 19 (CS 78 18 #[99,111,110,116,101,110,116,45,116,121,112,101]),m 17 19,o 20 (E 17 0),o 21 (E 17 1),a 4 20,a 5 21]) (q (r [4,5,7] [m 23 0,o 24 (CS 78 23 #[99,111,110,116,101,110,116,45,116,114,97,110,115,102,101,114,45,101,110,99,111,100,105,110,103]),m 22 24,o 25 (E 22 0),o 26 (E 22 1),a 6 25,a 7 26]) (q (r [4,5] [m 27 5,o 28 (BI .lss 27 2),m 29 28,g 29 30 (M 7),g 29 31 (BI .lss 30 2),o 32 (P 29 31),o 33 (CI 76 32 9)]) (q (q (r [4,35] [m 34 5,o 35 (BI .eql 34 0)]) (w 35 (q (r [2,3] [o 2 (AS #[116,101,120,116,47,112,108,97,105,110]),o 3 (AS #[])]) (x [2,3])) z)) (q (r [8,9,10] [m 37 4,o 38 (C 139 37),m 36 38,o 39 (E 36 0),o 40 (E 36 1),o 41 (E 36 2),a 8 39,a 9 40,a 10 41]) (q (r [8,9] [m 42 10,o 43 (BI .eql 42 0),m 44 10,o 45 (CC 76 43 44)]) (q (r [8,9,11] [o 11 (AS #[])]) (q (q (r [8,11,46,47,48] [m 46 9,o 47 (W 46),o 48 (.mv (i 0))]) (k 0 [8,11,46,47,48] jx)) (q (r [8,11,14,15,16] [m 59 8,o 60 (CS 39 59 #[47]),m 58 60,o 61 (E 58 0),o 62 (E 58 1),o 63 (E 58 2),a 14 61,a 15 62,a 16 63]) (q (r [8,11] [m 64 16,m 65 64,g 65 66 (M 14),g 65 67 (BS .neq 66 #[]),o 68 (P 65 67),m 69 68,g 69 70 (M 15),g 69 71 (BS .neq 70 #[]),o 72 (P 69 71),m 73 72,g 73 74 (M 15),g 73 75 (.call 96 [.t 74,u 47]),g 73 76 (BI .lss 75 0),o 77 (P 73 76),o 78 (CI 76 77 7)]) (q (r [2,3] [m 79 8,o 80 (C 79 79),m 81 11,a 2 80,a 3 81]) (x [2,3]))))))))))))),[]⟩
def FK:Ba:=⟨30,[.inl 4],(q (r [0,1] [o 4 (AS #[])]) (q (r [0,1,5,6] [o 5 (AS #[]),o 6 (AI 7)]) (q (q (r [0,5,6,7] [m 7 1]) (.block 0 (q (r [0,5,6,7,8] [o 9 (BS .eql 7 #[55,98,105,116]),a 8 9]) (w 8 (q (r [4] [m 10 0,o 11 (C 142 10),a 4 11]) (x [4])) (q (r [0,5,6,7,12] [o 13 (BS .eql 7 #[113,117,111,116,101,100,45,112,114,105,110,116,97,98,108,101]),a 12 13]) (w 12 (r [5,6] [m 15 0,o 16 (C 143 15),m 14 16,o 17 (E 14 0),o 18 (E 14 1),a 5 17,a 6 18]) (q (r [0,5,6,19] [o 20 (BS .eql 7 #[98,97,115,101,54,52]),a 19 20]) (w 19 (r [5,6] [m 22 0,o 23 (C 144 22),m 21 23,o 24 (E 21 0),o 25 (E 21 1),a 5 24,a 6 25]) z)))))))) (q (r [5] [m 26 6,o 27 (BI .eql 26 0),o 28 (CI 76 27 7)]) (q (r [4] [m 29 5,a 4 29]) (x [4])))))),[]⟩
def DE:oa:=(q (r [0,6,7,8] [o 8 (B .lss 7 6)]) (q (w 8 z (.exit 0 [0])) (q (.block 1 (q (r [0,3,6,7] [m 9 7,a 3 9]) (r [0,6,7] [m 10 0,m 11 3,o 12 (D 10 11),o 13 (BU .gtr 12 0),m 14 13,g 14 15 (M 0),g 14 16 (M 3),g 14 17 (D 15 16),g 14 18 (BU .lss 17 128),o 19 (P 14 18),o 20 (CI 76 19 7)]))) (r [0,6,7] [o 21 (BI .add 7 1),m 7 21]))))
def cq:oa:=DE
def rG:=@rb cq DE rfl
def GK:Ba:=⟨35,[.inl 2],(q (r [0] [o 2 (AS #[])]) (q (q (r [0,6,7] [m 5 0,o 6 (K 5),o 7 (.mv (i 0))]) (k 0 [0,6,7] cq)) (q (r [4] [m 22 0,o 23 (.call 42 [.t 22,s #[13,10],s #[0]]),a 4 23]) (q (r [4] [m 24 4,o 25 (.call 96 [.t 24,u 13]),o 26 (BI .lss 25 0),m 27 26,g 27 28 (M 4),g 27 29 (.call 96 [.t 28,u 10]),g 27 30 (BI .lss 29 0),o 31 (P 27 30),o 32 (CI 76 31 7)]) (q (r [2] [m 33 4,o 34 (.call 42 [.t 33,s #[0],s #[10]]),a 2 34]) (x [2])))))),[]⟩
def zE:oa:=(q (r [0,6,7,8] [o 8 (B .lss 7 6)]) (q (w 8 z (.exit 0 [0])) (q (.block 1 (q (r [0,3,6,7] [m 9 7,a 3 9]) (q (r [0,4,6,7] [m 10 0,m 11 3,o 12 (D 10 11),a 4 12]) (q (r [0,6,7,33] [m 13 4,o 14 (BU .lss 13 48),m 15 14,h 15 16 (M 4),h 15 17 (BU .gtr 16 57),o 18 (O 15 17),m 19 18,g 19 20 (M 4),g 19 21 (BU .or 20 32),g 19 22 (BU .lss 21 97),g 19 23 (M 22),h 23 24 (M 4),h 23 25 (BU .or 24 32),h 23 26 (BU .gtr 25 122),g 19 27 (O 23 26),o 28 (P 19 27),m 29 28,g 29 30 (M 4),g 29 31 (.call 96 [s #[45,95,61,46],.t 30]),g 29 32 (BI .lss 31 0),o 33 (P 29 32)]) (w 33 (q (r [2] [o 2 (AB false)]) (x [2])) z))))) (r [0,6,7] [o 34 (BI .add 7 1),m 7 34]))))
def lB:oa:=zE
def pG:=@rb lB zE rfl
def zK:Ba:=⟨42,[.inl 2],(q (r [0] [o 2 (AB false)]) (q (q (r [0,6,7] [m 5 0,o 6 (K 5),o 7 (.mv (i 0))]) (k 0 [0,6,7] lB)) (q (r [2] [m 35 0,o 36 (BS .neq 35 #[]),m 37 36,g 37 38 (M 0),g 37 39 (K 38),g 37 40 (BI .leq 39 70),o 41 (P 37 40),a 2 41]) (x [2])))),[]⟩
def AK:Ba:=⟨6,[.inl 4],(q (r [2,3] [o 2 (.box 9 1 (.t 0)),o 3 (.box 9 1 (.t 1)),o 4 (.asg (.c (.flat .nilFunc)))]) (q (r [4] [o 5 (.clos 145 [.t 3,.t 2]),a 4 5]) (x [4]))),[]⟩
def AE:oa:=(.block 1 (q (r [0,4,5,7,8,9] [m 23 5,m 24 8,o 25 (.sliceS (.t 23) (.some (.t 24)) .none),m 26 4,o 27 (CC 146 25 26),a 9 27]) (q (r [0,4,5,7,8,9] [m 28 9,o 29 (BI .geq 28 0),o 30 (CI 76 29 7)]) (q (r [0,4,5,7,8] [m 31 8,m 32 9,o 33 (B .add 31 32),a 8 33]) (q (r [0,4,5,7,8,10] [m 34 5,m 35 8,m 36 4,o 37 (K 36),o 38 (B .add 35 37),o 39 (.sliceS (.t 34) (.some (.t 38)) .none),a 10 39]) (q (q (r [0,4,5,7,8,10,41] [m 40 10,o 41 (CS 80 40 #[45,45,13,10])]) (w 41 (q (r [0,5,7,8] [m 42 10,o 43 (BS .eql 42 #[45,45,13,10]),o 44 (CI 76 43 7)]) (q (r [] [m 45 0,m 46 5,m 47 7,m 48 8,o 49 (.sliceS (.t 46) (.some (.t 47)) (.some (.t 48))),o 50 (.callv (.t 45) [.t 49])]) (x []))) z)) (q (q (r [0,4,5,7,8,53] [m 51 10,o 52 (CS 80 51 #[13,10]),o 53 (U 52)]) (w 53 (q (r [0,4,5,7,8] [m 54 8,o 55 (BI .add 54 1),a 8 55]) (.exit 1 [0,4,5,7,8])) z)) (q (q (r [0,4,5,8,62] [m 56 0,m 57 5,m 58 7,m 59 8,o 60 (.sliceS (.t 57) (.some (.t 58)) (.some (.t 59))),o 61 (.callv (.t 56) [.t 60]),o 62 (U 61)]) (w 62 (x []) z)) (q (r [0,4,5,7] [m 63 8,m 64 4,o 65 (K 64),o 66 (B .add 63 65),o 67 (BI .add 66 2),a 7 67]) (r [0,4,5,7,8] [m 68 7,a 8 68]))))))))))
def dn:oa:=AE
def Fv:=@rb dn AE rfl
def BK:Ba:=⟨69,[],(q (r [0,2,4] [o 11 (L 1 1),o 12 (SB .add #[13,10,45,45] 11),a 4 12]) (q (r [0,4,5,6] [o 14 (L 1 2),o 15 (SB .add #[13,10] 14),m 16 4,o 17 (BS .add 16 #[13,10]),o 18 (CC 90 15 17),m 13 18,o 19 (E 13 0),o 20 (E 13 1),a 5 19,a 6 20]) (q (r [0,4,5] [m 21 6,o 22 (CI 76 21 7)]) (q (r [0,4,5,7] [o 7 (AI 0)]) (q (r [0,4,5,7,8] [o 8 (AI 0)]) (k 0 [0,4,5,7,8] dn)))))),[]⟩
def yE:oa:=(q (r [1,6,7,10,11,12,13] [o 13 (B .lss 12 11)]) (q (w 13 z (.exit 0 [6,7])) (q (.block 1 (q (r [1,6,7,9,10,11,12] [o 14 (Y 2 10 12),o 15 (LT 2 14),o 9 (.alloc 60 [Z,Z]),n (S 2 9 15)]) (q (q (r [1,6,7,9,10,11,12,20] [o 16 (F 0 9),o 17 (L 1 16),m 18 1,o 19 (CC 140 17 18),o 20 (U 19)]) (w 20 (.exit 1 [1,6,7,10,11,12]) z)) (q (q (r [1,6,7,9,10,11,12,22] [m 21 7,o 22 (BI .eql 21 0)]) (w 22 (r [1,6,7,10,11,12] [o 23 (F 1 9),o 24 (L 1 23),a 6 24]) z)) (r [1,6,7,10,11,12] [m 25 7,o 26 (BI .add 25 1),a 7 26]))))) (r [1,6,7,10,11,12] [o 27 (BI .add 12 1),m 12 27]))))
def kB:oa:=yE
def Cz:=@rb kB yE rfl
def yK:Ba:=⟨30,[.inl 4,.inl 5],(q (r [0,1] [o 4 (AS #[]),o 5 (AI 0)]) (q (r [0,1,6,7] [o 6 (AS #[]),o 7 (AI 0)]) (q (q (r [1,6,7,10,11,12] [m 10 0,o 11 (W 10),o 12 (.mv (i 0))]) (k 0 [1,6,7,10,11,12] kB)) (q (r [4,5] [m 28 6,m 29 7,a 4 28,a 5 29]) (x [4,5]))))),[]⟩
def oF:oa:=(q (q (r [0,3,4,33] [m 30 4,m 31 0,o 32 (K 31),o 33 (B .lss 30 32)]) (w 33 z (.exit 0 [3]))) (q (.block 1 (q (q (r [0,3,4,53] [m 36 0,m 37 4,o 38 (D 36 37),o 39 (BU .lss 38 33),m 40 39,h 40 41 (M 0),h 40 42 (M 4),h 40 43 (D 41 42),h 40 44 (BU .gtr 43 126),o 45 (O 40 44),m 46 45,h 46 47 (M 0),h 46 48 (M 4),h 46 49 (M 4),h 46 50 (BI .add 49 1),h 46 51 (.sliceS (.t 47) (.some (.t 48)) (.some (.t 50))),h 46 52 (.call 64 [s #[60,62,40,41,91,93,44,59,58,34,92],.t 51]),o 53 (O 46 52)]) (w 53 (q (r [2] [o 2 (AB false)]) (x [2])) z)) (q (r [0,3,4,57] [m 54 0,m 55 4,o 56 (D 54 55),o 57 (BU .eql 56 64)]) (w 57 (r [0,3,4] [m 58 3,o 59 (BI .add 58 1),a 3 59]) z)))) (r [0,3,4] [m 34 4,o 35 (BI .add 34 1),a 4 35])))
def NB:oa:=oF
def tR:=@rb NB oF rfl
def yL:Ba:=⟨62,[.inl 2],(q (r [0] [o 2 (AB false)]) (q (q (r [0,29] [m 5 0,o 6 (K 5),o 7 (BI .lss 6 3),m 8 7,h 8 9 (M 0),h 8 10 (K 9),h 8 11 (BI .gtr 10 60),o 12 (O 8 11),m 13 12,h 13 14 (M 0),h 13 15 (.idx (.t 14) (i 0)),h 13 16 (BU .eql 15 64),o 17 (O 13 16),m 18 17,h 18 19 (M 0),h 18 20 (M 0),h 18 21 (K 20),h 18 22 (BI .sub 21 1),h 18 23 (D 19 22),h 18 24 (BU .eql 23 64),o 25 (O 18 24),m 26 25,h 26 27 (M 0),h 26 28 (CS 64 27 #[61,63]),o 29 (O 26 28)]) (w 29 (q (r [2] [o 2 (AB false)]) (x [2])) z)) (q (r [0,3] [o 3 (AI 0)]) (q (q (r [0,3,4] [o 4 (AI 0)]) (k 0 [0,3,4] NB)) (q (r [2] [m 60 3,o 61 (BI .eql 60 1),a 2 61]) (x [2])))))),[]⟩
def AL:Ba:=⟨57,[.inl 2],(q (r [1] [o 1 (.box 23 5 (.t 0)),o 2 (AI 0)]) (q (q (r [1,14] [o 5 (F 0 1),o 6 (L 1 5),o 7 (C 63 6),o 8 (U 7),m 9 8,h 9 10 (F 1 1),h 9 11 (L 1 10),h 9 12 (C 63 11),h 9 13 (U 12),o 14 (O 9 13)]) (w 14 (q (r [2] [o 2 (AI 1)]) (x [2])) z)) (q (r [1,3,4] [o 16 (F 4 1),o 17 (L 1 16),o 18 (C 60 17),m 15 18,o 19 (E 15 0),o 20 (E 15 1),a 3 19,a 4 20]) (q (q (.Ld [56] [o 21 (F 2 1),o 22 (L 1 21),o 23 (C 34 22),o 24 (F 2 1),o 25 (L 1 24),o 26 (B .neq 23 25),m 27 26,h 27 28 (F 3 1),h 27 29 (L 1 28),h 27 30 (C 34 29),h 27 31 (F 3 1),h 27 32 (L 1 31),h 27 33 (B .neq 30 32),o 34 (O 27 33),m 35 34,h 35 36 (F 4 1),h 35 37 (L 1 36),h 35 38 (C 34 37),h 35 39 (F 4 1),h 35 40 (L 1 39)] [h 35 41 (B .neq 38 40),o 42 (O 35 41),m 43 42,h 43 44 (F 2 1),h 43 45 (L 1 44),h 43 46 (CS 64 45 #[10]),o 47 (O 43 46),m 48 47,h 48 49 (M 4),h 48 50 (BI .neq 49 0),o 51 (O 48 50),m 52 51,h 52 53 (M 3),h 52 54 (C 65 53),h 52 55 (U 54),o 56 (O 52 55)]) (w 56 (q (r [2] [o 2 (AI 7)]) (x [2])) z)) (q (r [2] [o 2 (AI 0)]) (x [2])))))),[]⟩
def zL:Ba:=⟨50,[.inl 2,.inl 3],(q (r [1] [o 1 (.box 23 5 (.t 0)),o 2 (AS #[]),o 3 (AI 0)]) (q (r [1,4] [o 11 (LT 5 1),o 12 (C 29 11),a 4 12]) (q (q (r [1,4,14] [m 13 4,o 14 (BI .neq 13 0)]) (w 14 (q (r [2,3] [m 15 4,o 2 (AS #[]),a 3 15]) (x [2,3])) z)) (q (r [1,5] [o 17 (F 0 1),o 18 (L 1 17),o 19 (.call 30 [s #[70,114,111,109],.t 18]),m 16 19,o 20 (E 16 0),o 21 (E 16 1),a 5 20,a 6 21]) (q (r [1,5,7] [o 23 (F 1 1),o 24 (L 1 23),o 25 (.call 30 [s #[84,111],.t 24]),m 22 25,o 26 (E 22 0),o 27 (E 22 1),a 7 26,a 8 27]) (q (r [1,5,7,9] [o 29 (F 2 1),o 30 (L 1 29),o 31 (.call 30 [s #[83,117,98,106,101,99,116],.t 30]),m 28 31,o 32 (E 28 0),o 33 (E 28 1),a 9 32,a 10 33]) (q (.Ld [2,3] [m 34 5,m 35 7,o 36 (B .add 34 35),m 37 9,o 38 (B .add 36 37),o 39 (BS .add 38 #[77,73,77,69,45,86,101,114,115,105,111,110,58,32,49,46,48,13,10,67,111,110,116,101,110,116,45,84,121,112,101,58,32,109,117,108,116,105,112,97,114,116,47,97,108,116,101,114,110,97,116,105,118,101,59,32,98,111,117,110,100,97,114,121,61,34,61,95,110,117,110,99,105,111,34,13,10,13,10,45,45,61,95,110,117,110,99,105,111,13,10]),o 40 (F 3 1),o 41 (L 1 40),o 42 (.call 31 [s #[112,108,97,105,110],.t 41]),o 43 (B .add 39 42),o 44 (BS .add 43 #[45,45,61,95,110,117,110,99,105,111,13,10]),o 45 (F 4 1),o 46 (L 1 45),o 47 (.call 31 [s #[104,116,109,108],.t 46])] [o 48 (B .add 44 47),o 49 (BS .add 48 #[45,45,61,95,110,117,110,99,105,111,45,45,13,10]),a 2 49,o 3 (AI 0)]) (x [2,3])))))))),[]⟩
def CL:Ba:=⟨12,[.inl 4],(q (r [0,1] [o 4 (AS #[])]) (q (r [4] [m 5 0,o 6 (SB .add #[67,111,110,116,101,110,116,45,84,121,112,101,58,32,116,101,120,116,47] 5),o 7 (BS .add 6 #[59,32,99,104,97,114,115,101,116,61,117,116,102,45,56,13,10,67,111,110,116,101,110,116,45,84,114,97,110,115,102,101,114,45,69,110,99,111,100,105,110,103,58,32,113,117,111,116,101,100,45,112,114,105,110,116,97,98,108,101,13,10,13,10]),m 8 1,o 9 (C 67 8),o 10 (B .add 7 9),o 11 (BS .add 10 #[13,10]),a 4 11]) (x [4]))),[]⟩
def pF:oa:=(q (q (r [0,2,4,6,7,36] [m 35 7,o 36 (BI .lss 35 3)]) (w 36 z (.exit 0 [0,2,4,6]))) (q (.block 1 (q (r [0,2,4,6,7,9,10] [o 40 (F 0 4),o 41 (L 1 40),m 42 7,o 43 (Y 2 41 42),o 44 (F 1 43),o 45 (L 1 44),o 46 (SB .add #[88,58,32] 45),o 47 (BS .add 46 #[13,10]),o 48 (C 23 47),m 39 48,o 49 (E 39 0),o 50 (E 39 1),o 51 (E 39 2),a 8 49,a 9 50,a 10 51]) (q (q (r [0,2,4,6,7,9,53] [m 52 10,o 53 (BI .neq 52 0)]) (w 53 (q (r [2,3] [o 54 (.build [Z,Z,Z,Z,Z] []),n (S 5 2 54),o 3 (AI 7)]) (x [2,3])) z)) (r [0,2,4,6,7] [o 55 (.mvA 6),m 56 9,o 57 (.mksl false 1 1 [Z] [⟨0,⟨1,.t 56⟩⟩]),o 58 (.append false 1 (.t 55) (.t 57)),a 6 58])))) (r [0,2,4,6,7] [m 37 7,o 38 (BI .add 37 1),a 7 38])))
def FJ:oa:=pF
def Ws:=@rb FJ pF rfl
def BL:Ba:=⟨93,[.inr ⟨2,⟨true,5⟩⟩,.inl 3],(q (r [0,2] [o 2 (.alloc 23 [Z,Z,Z,Z,Z]),o 3 (AI 0)]) (q (r [0,2,4,5] [m 15 0,o 16 (C 22 15),m 14 16,o 17 (E 14 0),o 18 (E 14 1),o 4 (.alloc 64 [V,Z,Z,V]),n (S 4 4 17),a 5 18]) (q (q (r [0,2,4,32] [m 19 5,o 20 (BI .neq 19 0),m 21 20,h 21 22 (F 0 4),h 21 23 (L 1 22),h 21 24 (W 23),h 21 25 (BI .lss 24 3),o 26 (O 21 25),m 27 26,h 27 28 (F 3 4),h 27 29 (L 1 28),h 27 30 (W 29),h 27 31 (BI .neq 30 2),o 32 (O 27 31)]) (w 32 (q (r [2,3] [o 33 (.build [Z,Z,Z,Z,Z] []),n (S 5 2 33),o 3 (AI 7)]) (x [2,3])) z)) (q (r [0,2,4,6] [o 34 (.mksl false 0 1 [] []),a 6 34]) (q (q (r [0,2,4,6,7] [o 7 (AI 0)]) (k 0 [0,2,4,6,7] FJ)) (q (.Ld [0,2,11] [m 59 6,o 60 (.Jg 1 (.t 59) (i 0)),o 61 (L 1 60),m 62 6,o 63 (.Jg 1 (.t 62) (i 1)),o 64 (L 1 63),m 65 6,o 66 (.Jg 1 (.t 65) (i 2)),o 67 (L 1 66),o 68 (F 3 4),o 69 (L 1 68),o 70 (.Jg 4 (.t 69) (i 0)),o 71 (F 2 70),o 72 (L 1 71),o 73 (F 3 4),o 74 (L 1 73),o 75 (.Jg 4 (.t 74) (i 1)),o 76 (F 2 75),o 77 (L 1 76),o 78 (.build [Z,Z,Z,Z,Z] [⟨0,⟨1,.t 61⟩⟩,⟨1,⟨1,.t 64⟩⟩,⟨2,⟨1,.t 67⟩⟩,⟨3,⟨1,.t 72⟩⟩,⟨4,⟨1,.t 77⟩⟩]),o 11 (.alloc 23 [Z,Z,Z,Z,Z])] [n (S 5 11 78)]) (q (r [0,2,11,12,13] [o 80 (LT 5 11),o 81 (C 16 80),m 79 81,o 82 (E 79 0),o 83 (E 79 1),a 12 82,a 13 83]) (q (q (r [2,11,90] [m 84 13,o 85 (BI .neq 84 0),m 86 85,h 86 87 (M 12),h 86 88 (M 0),h 86 89 (B .neq 87 88),o 90 (O 86 89)]) (w 90 (q (r [2,3] [o 91 (.build [Z,Z,Z,Z,Z] []),n (S 5 2 91),o 3 (AI 7)]) (x [2,3])) z)) (q (r [2,3] [o 92 (LT 5 11),n (S 5 2 92),o 3 (AI 0)]) (x [2,3])))))))))),[]⟩
def mF:oa:=(q (q (r [0,1,5,9] [m 6 5,m 7 0,o 8 (K 7),o 9 (B .lss 6 8)]) (w 9 z (.exit 0 []))) (q (.block 1 (q (r [0,1,5,15] [m 12 0,m 13 1,m 14 5,o 15 (.call 105 [.t 12,.t 13,.t 14])]) (w 15 (q (r [4] [o 4 (AB true)]) (x [4])) z))) (r [0,1,5] [m 10 5,o 11 (BI .add 10 1),a 5 11])))
def MB:oa:=mF
def CG:=@rb MB mF rfl
def xL:Ba:=⟨16,[.inl 4],(q (r [0,1] [o 4 (AB false)]) (q (q (r [0,1,5] [o 5 (AI 0)]) (k 0 [0,1,5] MB)) (q (r [4] [o 4 (AB false)]) (x [4])))),[]⟩
def FE:oa:=(q (q (r [0,3,4,10] [m 7 4,m 8 0,o 9 (K 8),o 10 (B .lss 7 9)]) (w 10 z (.exit 0 [3]))) (.block 1 (q (r [0,3,4,5,6] [m 12 0,m 13 4,o 14 (CC 71 12 13),m 11 14,o 15 (E 11 0),o 16 (E 11 1),a 5 15,a 6 16]) (q (r [0,3,4,5] [m 17 4,m 18 6,o 19 (B .add 17 18),a 4 19]) (q (q (r [0,3,4,5,21] [m 20 5,o 21 (BI .eql 20 13)]) (w 21 (q (q (r [0,3,4,31] [m 22 4,m 23 0,o 24 (K 23),o 25 (B .lss 22 24),m 26 25,g 26 27 (M 0),g 26 28 (M 4),g 26 29 (D 27 28),g 26 30 (BU .eql 29 10),o 31 (P 26 30)]) (w 31 (.exit 1 [0,3,4]) z)) (r [0,3,4,5] [o 5 (AI 10)])) z)) (q (q (r [0,3,4,5,49] [m 32 5,o 33 (BI .lss 32 32),m 34 33,g 34 35 (M 5),g 34 36 (BI .neq 35 9),o 37 (P 34 36),m 38 37,g 38 39 (M 5),g 38 40 (BI .neq 39 10),o 41 (P 38 40),m 42 41,h 42 43 (M 5),h 42 44 (BI .geq 43 127),h 42 45 (M 44),g 45 46 (M 5),g 45 47 (BI .leq 46 159),h 42 48 (P 45 47),o 49 (O 42 48)]) (w 49 (r [0,3,4,5] [o 5 (AI 65533)]) z)) (r [0,3,4] [m 50 3,m 51 5,o 52 (C 72 51),o 53 (B .add 50 52),a 3 53])))))))
def nB:oa:=FE
def vm:=@rb nB FE rfl
def KK:Ba:=⟨55,[.inl 2],(q (r [0] [o 2 (AS #[])]) (q (r [0,3] [o 3 (AS #[])]) (q (q (r [0,3,4] [o 4 (AI 0)]) (k 0 [0,3,4] nB)) (q (r [2] [m 54 3,a 2 54]) (x [2]))))),[]⟩
def JK:Ba:=⟨61,[.inl 2],(q (r [0] [o 2 (AS #[])]) (q (q (r [0,5] [m 3 0,o 4 (C 134 3),o 5 (U 4)]) (w 5 (r [0] [o 0 (AI 65533)]) z)) (q (q (r [0,7] [m 6 0,o 7 (BI .lss 6 128)]) (w 7 (q (r [2] [m 8 0,o 9 (.conv .u8 (.t 8)),o 10 (.mksl true 1 1 [.flat (.int .u8 0)] [⟨0,⟨1,.t 9⟩⟩]),o 11 (.b2s (.t 10)),a 2 11]) (x [2])) z)) (q (q (r [0,13] [m 12 0,o 13 (BI .lss 12 2048)]) (w 13 (q (r [2] [m 14 0,o 15 (BI .quo 14 64),o 16 (IB .add 192 15),o 17 (.conv .u8 (.t 16)),m 18 0,o 19 (BI .rem 18 64),o 20 (IB .add 128 19),o 21 (.conv .u8 (.t 20)),o 22 (.mksl true 2 1 [.flat (.int .u8 0),.flat (.int .u8 0)] [⟨0,⟨1,.t 17⟩⟩,⟨1,⟨1,.t 21⟩⟩]),o 23 (.b2s (.t 22)),a 2 23]) (x [2])) z)) (q (q (r [0,25] [m 24 0,o 25 (BI .lss 24 65536)]) (w 25 (q (r [2] [m 26 0,o 27 (BI .quo 26 4096),o 28 (IB .add 224 27),o 29 (.conv .u8 (.t 28)),m 30 0,o 31 (BI .quo 30 64),o 32 (BI .rem 31 64),o 33 (IB .add 128 32),o 34 (.conv .u8 (.t 33)),m 35 0,o 36 (BI .rem 35 64),o 37 (IB .add 128 36),o 38 (.conv .u8 (.t 37)),o 39 (.mksl true 3 1 [.flat (.int .u8 0),.flat (.int .u8 0),.flat (.int .u8 0)] [⟨0,⟨1,.t 29⟩⟩,⟨1,⟨1,.t 34⟩⟩,⟨2,⟨1,.t 38⟩⟩]),o 40 (.b2s (.t 39)),a 2 40]) (x [2])) z)) (q (r [2] [m 41 0,o 42 (BI .quo 41 262144),o 43 (IB .add 240 42),o 44 (.conv .u8 (.t 43)),m 45 0,o 46 (BI .quo 45 4096),o 47 (BI .rem 46 64),o 48 (IB .add 128 47),o 49 (.conv .u8 (.t 48)),m 50 0,o 51 (BI .quo 50 64),o 52 (BI .rem 51 64),o 53 (IB .add 128 52),o 54 (.conv .u8 (.t 53)),m 55 0,o 56 (BI .rem 55 64),o 57 (IB .add 128 56),o 58 (.conv .u8 (.t 57)),o 59 (.mksl true 4 1 [.flat (.int .u8 0),.flat (.int .u8 0),.flat (.int .u8 0),.flat (.int .u8 0)] [⟨0,⟨1,.t 44⟩⟩,⟨1,⟨1,.t 49⟩⟩,⟨2,⟨1,.t 54⟩⟩,⟨3,⟨1,.t 58⟩⟩]),o 60 (.b2s (.t 59)),a 2 60]) (x [2]))))))),[]⟩
def JE:oa:=(q (q (r [0,1,6,7,8,9,42] [m 40 9,m 41 7,o 42 (B .lss 40 41)]) (w 42 z (.exit 2 [0,1,6,7,8]))) (q (.block 3 (r [0,1,6,7,8,9] [m 45 8,o 46 (IB .mul 64 45),m 47 0,m 48 1,m 49 9,o 50 (B .add 48 49),o 51 (D 47 50),o 52 (.conv .i64 (.t 51)),o 53 (B .add 46 52),o 54 (BI .sub 53 128),a 8 54])) (r [0,1,6,7,8,9] [m 43 9,o 44 (BI .add 43 1),a 9 44])))
def qB:oa:=JE
def mR:=@rb qB JE rfl
def IE:oa:=(q (q (r [0,1,6,7,28] [m 19 7,o 20 (BI .leq 19 4),m 21 20,g 21 22 (M 7),g 21 23 (M 0),g 21 24 (K 23),g 21 25 (M 1),g 21 26 (B .sub 24 25),g 21 27 (B .leq 22 26),o 28 (P 21 27)]) (w 28 z (.exit 0 []))) (q (.block 1 (q (.Ld [0,1,6,7,8] [m 31 0,m 32 1,o 33 (D 31 32),o 34 (.conv .i64 (.t 33)),m 35 6,m 36 7,o 37 (Y 1 35 36),o 38 (L 1 37)] [o 39 (B .sub 34 38),a 8 39]) (q (q (r [0,1,6,7,8,9] [o 9 (AI 1)]) (k 2 [0,1,6,7,8,9] qB)) (q (.Ld [0,1,6,7,8,71] [m 55 8,o 56 (BI .geq 55 0),m 57 56,g 57 58 (M 8),g 57 59 (C 134 58),o 60 (P 57 59),m 61 60,g 61 62 (M 8),g 61 63 (C 72 62),g 61 64 (M 0),g 61 65 (M 1),g 61 66 (M 1),g 61 67 (M 7),g 61 68 (B .add 66 67),g 61 69 (.sliceS (.t 64) (.some (.t 65)) (.some (.t 68)))] [g 61 70 (B .eql 63 69),o 71 (P 61 70)]) (w 71 (q (r [4,5] [m 72 8,m 73 7,a 4 72,a 5 73]) (x [4,5])) z))))) (r [0,1,6,7] [m 29 7,o 30 (BI .add 29 1),a 7 30])))
def pB:oa:=IE
def Ts:=@rb pB IE rfl
def NK:Ba:=⟨74,[.inl 4,.inl 5],(q (r [0,1] [o 4 (AI 0),o 5 (AI 0)]) (q (q (r [0,1,17] [m 10 1,o 11 (BI .lss 10 0),m 12 11,h 12 13 (M 1),h 12 14 (M 0),h 12 15 (K 14),h 12 16 (B .geq 13 15),o 17 (O 12 16)]) (w 17 (q (r [4,5] [o 4 (AI 0),o 5 (AI 0)]) (x [4,5])) z)) (q (r [0,1,6] [o 18 (.mksl false 5 1 [J,J,J,J,J] [⟨0,⟨1,i 0⟩⟩,⟨1,⟨1,i 0⟩⟩,⟨2,⟨1,i 192⟩⟩,⟨3,⟨1,i 224⟩⟩,⟨4,⟨1,i 240⟩⟩]),a 6 18]) (q (q (r [0,1,6,7] [o 7 (AI 1)]) (k 0 [0,1,6,7] pB)) (q (r [4,5] [o 4 (AI 65533),o 5 (AI 1)]) (x [4,5])))))),[]⟩
def OK:Ba:=⟨18,[.inl 2],(q (r [0] [o 2 (AB false)]) (q (r [2] [m 3 0,o 4 (BI .geq 3 0),m 5 4,g 5 6 (M 0),g 5 7 (BI .leq 6 1114111),o 8 (P 5 7),m 9 8,g 9 10 (M 0),g 9 11 (BI .geq 10 55296),g 9 12 (M 11),g 12 13 (M 0),g 12 14 (BI .leq 13 57343),g 9 15 (P 12 14),g 9 16 (U 15),o 17 (P 9 16),a 2 17]) (x [2]))),[]⟩
def KE:oa:=(q (q (r [0,3,4,11] [m 8 4,m 9 0,o 10 (K 9),o 11 (B .lss 8 10)]) (w 11 z (.exit 0 [3]))) (.block 1 (q (r [0,3,4,5,6] [m 13 0,m 14 4,o 15 (CC 71 13 14),m 12 15,o 16 (E 12 0),o 17 (E 12 1),a 5 16,a 6 17]) (q (r [0,3,4,6] [o 18 (.mvA 3),m 19 5,o 20 (.mksl false 1 1 [J] [⟨0,⟨1,.t 19⟩⟩]),o 21 (.append false 1 (.t 18) (.t 20)),a 3 21]) (r [0,3,4] [m 22 4,m 23 6,o 24 (B .add 22 23),a 4 24])))))
def rB:oa:=KE
def nR:=@rb rB KE rfl
def PK:Ba:=⟨26,[.inl 2],(q (r [0] [o 2 (.asg (.c V))]) (q (r [0,3] [o 7 (.mksl false 0 1 [] []),a 3 7]) (q (q (r [0,3,4] [o 4 (AI 0)]) (k 0 [0,3,4] rB)) (q (r [2] [m 25 3,a 2 25]) (x [2]))))),[]⟩
def HE:oa:=(q (q (r [0,3,9] [m 6 3,m 7 0,o 8 (K 7),o 9 (B .lss 6 8)]) (w 9 z (.exit 0 []))) (.block 1 (q (r [0,3,4,5] [m 11 0,m 12 3,o 13 (CC 71 11 12),m 10 13,o 14 (E 10 0),o 15 (E 10 1),a 4 14,a 5 15]) (q (q (r [0,3,5,21] [m 16 4,o 17 (BI .eql 16 65533),m 18 17,g 18 19 (M 5),g 18 20 (BI .eql 19 1),o 21 (P 18 20)]) (w 21 (q (r [2] [o 2 (AB false)]) (x [2])) z)) (r [0,3] [m 22 3,m 23 5,o 24 (B .add 22 23),a 3 24])))))
def oB:oa:=HE
def Ez:=@rb oB HE rfl
def MK:Ba:=⟨25,[.inl 2],(q (r [0] [o 2 (AB false)]) (q (q (r [0,3] [o 3 (AI 0)]) (k 0 [0,3] oB)) (q (r [2] [o 2 (AB true)]) (x [2])))),[]⟩
def YE:oa:=(q (q (r [0,4,5,15] [m 12 5,m 13 0,o 14 (K 13),o 15 (B .lss 12 14)]) (w 15 z (.exit 0 [4]))) (.block 1 (q (r [0,4,6,7] [m 17 0,m 18 5,o 19 (CC 123 17 18),m 16 19,o 20 (E 16 0),o 21 (E 16 1),o 6 (.alloc 135 [.flat (.int .u8 0),Z,Z,V,J,J]),n (S 6 6 20),a 7 21]) (q (q (r [0,4,6,23] [m 22 7,o 23 (U 22)]) (w 23 (q (r [2,3] [o 2 (.asg (.c V)),o 3 (AI 7)]) (x [2,3])) z)) (q (r [0,4,6] [o 24 (.mvA 4),o 25 (LT 6 6),o 26 (.mksl false 1 6 [.flat (.int .u8 0),Z,Z,V,J,J] [⟨0,⟨6,.t 25⟩⟩]),o 27 (.append false 6 (.t 24) (.t 26)),a 4 27]) (r [0,4,5] [o 28 (F 5 6),o 29 (L 1 28),a 5 29]))))))
def CB:oa:=YE
def xG:=@rb CB YE rfl
def eL:Ba:=⟨31,[.inl 2,.inl 3],(q (r [0] [o 2 (.asg (.c V)),o 3 (AI 0)]) (q (q (r [0,10] [m 8 0,o 9 (C 110 8),o 10 (U 9)]) (w 10 (q (r [2,3] [o 2 (.asg (.c V)),o 3 (AI 7)]) (x [2,3])) z)) (q (r [0,4] [o 11 (.mksl false 0 6 [] []),a 4 11]) (q (q (r [0,4,5] [o 5 (AI 0)]) (k 0 [0,4,5] CB)) (q (r [2,3] [m 30 4,a 2 30,o 3 (AI 0)]) (x [2,3])))))),[]⟩
def lL:Ba:=⟨63,[.inr ⟨4,⟨true,6⟩⟩,.inl 5],(q (r [0,1,4] [o 4 (.alloc 135 [.flat (.int .u8 0),Z,Z,V,J,J]),o 5 (AB false)]) (q (q (r [0,1,4,14] [m 11 0,m 12 1,o 13 (D 11 12),o 14 (BU .neq 13 60)]) (w 14 (q (r [1,4,6,7,8] [m 16 0,m 17 1,o 18 (.call 195 [.t 16,.t 17,u 60,u 62]),m 15 18,o 19 (E 15 0),o 20 (E 15 1),o 21 (E 15 2),a 6 19,a 7 20,a 8 21]) (q (r [4,5] [m 22 6,m 23 1,m 24 7,o 25 (.build [.flat (.int .u8 0),Z,Z,V,J,J] [⟨0,⟨1,u 116⟩⟩,⟨2,⟨1,.t 22⟩⟩,⟨4,⟨1,.t 23⟩⟩,⟨5,⟨1,.t 24⟩⟩]),m 26 8,n (S 6 4 25),a 5 26]) (x [4,5]))) z)) (q (q (r [0,1,4,30] [m 27 0,m 28 1,o 29 (.call 105 [.t 27,s #[60,47],.t 28]),o 30 (U 29)]) (w 30 (q (r [4,5] [m 31 0,m 32 1,o 33 (CC 196 31 32),o 34 (E 33 0),o 35 (E 33 1),n (S 6 4 34),a 5 35]) (x [4,5])) z)) (q (r [0,1,4,9] [m 36 0,m 37 1,o 38 (BI .add 37 2),o 39 (CC 197 36 38),a 9 39]) (q (r [0,1,4,9,10] [m 40 1,o 41 (BI .add 40 2),m 42 9,o 43 (K 42),o 44 (B .add 41 43),a 10 44]) (q (r [4,5] [m 45 9,m 46 1,m 47 10,o 48 (BI .add 47 1),o 49 (.build [.flat (.int .u8 0),Z,Z,V,J,J] [⟨0,⟨1,u 99⟩⟩,⟨1,⟨1,.t 45⟩⟩,⟨4,⟨1,.t 46⟩⟩,⟨5,⟨1,.t 48⟩⟩]),o 50 (.call 199 []),m 51 9,o 52 (CC 198 50 51),m 53 52,g 53 54 (M 9),g 53 55 (C 127 54),g 53 56 (U 55),o 57 (P 53 56),m 58 57,g 58 59 (M 0),g 58 60 (M 10),g 58 61 (.call 105 [.t 59,s #[62],.t 60]),o 62 (P 58 61),n (S 6 4 49),a 5 62]) (x [4,5]))))))),[]⟩
def cF:oa:=(q (q (r [0,4,6,7,8,9,70] [m 66 9,o 67 (F 3 6),o 68 (L 1 67),o 69 (W 68),o 70 (B .lss 66 69)]) (w 70 z (.exit 2 [0,4,6,7,8]))) (q (.block 3 (q (.Ld [0,4,6,7,8,9,81] [o 73 (F 3 6),o 74 (L 1 73),m 75 9,o 76 (Y 4 74 75),o 77 (F 0 76),o 78 (L 1 77),o 79 (F 0 8),o 80 (L 1 79)] [o 81 (B .eql 78 80)]) (w 81 (q (r [4,5] [o 82 (LT 6 6),n (S 6 4 82),o 5 (AB false)]) (x [4,5])) z))) (r [0,4,6,7,8,9] [m 71 9,o 72 (BI .add 71 1),a 9 72])))
def nx:oa:=cF
def zG:=@rb nx cF rfl
def bF:oa:=(.block 1 (q (r [0,1,4,6,7] [m 31 0,m 32 1,o 33 (CC 258 31 32),a 7 33]) (q (q (r [0,1,4,6,7,36] [m 34 0,m 35 7,o 36 (.call 105 [.t 34,s #[62],.t 35])]) (w 36 (q (r [4,6] [m 37 7,o 38 (BI .add 37 1),o 39 (F 5 6),n (S 1 39 38)]) (q (r [4,5] [o 40 (LT 6 6),n (S 6 4 40),o 5 (AB true)]) (x [4,5]))) z)) (q (r [0,1,4,6,7,8] [m 41 0,m 42 7,o 43 (CC 197 41 42),o 44 (.build [Z,Z,J,J] [⟨0,⟨1,.t 43⟩⟩]),o 8 (.alloc 137 [Z,Z,J,J]),n (S 4 8 44)]) (q (q (.Ld [0,4,6,7,8,64] [m 45 7,m 46 1,o 47 (B .eql 45 46),m 48 47,h 48 49 (.call 259 []),h 48 50 (F 0 8),h 48 51 (L 1 50),h 48 52 (CC 198 49 51),h 48 53 (U 52),o 54 (O 48 53),m 55 54,h 55 56 (M 0),h 55 57 (M 7),h 55 58 (F 0 8),h 55 59 (L 1 58),h 55 60 (K 59),h 55 61 (B .add 57 60)] [h 55 62 (.call 105 [.t 56,s #[61,34],.t 61]),h 55 63 (U 62),o 64 (O 55 63)]) (w 64 (q (r [4,5] [o 65 (LT 6 6),n (S 6 4 65),o 5 (AB false)]) (x [4,5])) z)) (q (q (r [0,4,6,7,8,9] [o 9 (AI 0)]) (k 2 [0,4,6,7,8,9] nx)) (q (r [0,4,6,8] [m 83 7,o 84 (F 0 8),o 85 (L 1 84),o 86 (K 85),o 87 (B .add 83 86),o 88 (BI .add 87 2),o 89 (F 2 8),n (S 1 89 88)]) (q (r [0,4,6,8,10,11,12] [m 91 0,o 92 (F 2 8),o 93 (L 1 92),o 94 (.call 195 [.t 91,.t 93,u 34,u 60]),m 90 94,o 95 (E 90 0),o 96 (E 90 1),o 97 (E 90 2),a 10 95,a 11 96,a 12 97]) (q (q (r [0,4,6,8,10,11,105] [m 98 12,o 99 (U 98),m 100 99,h 100 101 (M 11),h 100 102 (M 0),h 100 103 (K 102),h 100 104 (B .geq 101 103),o 105 (O 100 104)]) (w 105 (q (r [4,5] [o 106 (LT 6 6),n (S 6 4 106),o 5 (AB false)]) (x [4,5])) z)) (q (r [0,4,6,8,11] [m 107 10,o 108 (F 1 8),n (S 1 108 107)]) (q (r [0,4,6,8,11] [m 109 11,o 110 (F 3 8),n (S 1 110 109)]) (q (r [0,4,6,11] [o 111 (F 3 6),o 112 (.loadA (.t 111)),o 113 (LT 4 8),o 114 (.mksl false 1 4 [Z,Z,J,J] [⟨0,⟨4,.t 113⟩⟩]),o 115 (.append false 4 (.t 112) (.t 114)),o 116 (F 3 6),n (S 1 116 115)]) (r [0,1,4,6] [m 117 11,o 118 (BI .add 117 1),a 1 118])))))))))))))
def Gr:oa:=bF
def wm:=@rb Gr bF rfl
def mL:Ba:=⟨119,[.inr ⟨4,⟨true,6⟩⟩,.inl 5],(q (r [0,1,4] [o 4 (.alloc 135 [.flat (.int .u8 0),Z,Z,V,J,J]),o 5 (AB false)]) (q (r [0,1,4,6] [m 13 0,m 14 1,o 15 (BI .add 14 1),o 16 (CC 197 13 15),m 17 1,o 18 (.build [.flat (.int .u8 0),Z,Z,V,J,J] [⟨0,⟨1,u 111⟩⟩,⟨1,⟨1,.t 16⟩⟩,⟨4,⟨1,.t 17⟩⟩]),o 6 (.alloc 135 [.flat (.int .u8 0),Z,Z,V,J,J]),n (S 6 6 18)]) (q (r [0,1,4,6] [m 19 1,o 20 (BI .add 19 1),o 21 (F 1 6),o 22 (L 1 21),o 23 (K 22),o 24 (B .add 20 23),a 1 24]) (q (q (.Ld [0,1,4,6,29] [o 25 (.call 199 []),o 26 (F 1 6),o 27 (L 1 26)] [o 28 (CC 198 25 27),o 29 (U 28)]) (w 29 (q (r [4,5] [o 30 (LT 6 6),n (S 6 4 30),o 5 (AB false)]) (x [4,5])) z)) (k 0 [0,1,4,6] Gr))))),[]⟩
def dF:oa:=(q (q (r [0,1,2,3,11,25] [m 15 1,m 16 0,o 17 (K 16),o 18 (B .lss 15 17),m 19 18,g 19 20 (M 0),g 19 21 (M 1),g 19 22 (D 20 21),g 19 23 (M 2),g 19 24 (B .neq 22 23),o 25 (P 19 24)]) (w 25 z (.exit 0 [1,11]))) (.block 1 (q (q (r [0,1,2,3,11,30] [m 26 0,m 27 1,o 28 (D 26 27),m 29 3,o 30 (B .eql 28 29)]) (w 30 (q (r [8,9,10] [o 8 (AS #[]),o 9 (AI 0),o 10 (AB false)]) (x [8,9,10])) z)) (q (q (r [0,1,2,3,11,34] [m 31 0,m 32 1,o 33 (D 31 32),o 34 (BU .eql 33 38)]) (w 34 (q (r [0,1,2,3,11,12,13,14] [m 36 0,m 37 1,o 38 (CC 257 36 37),m 35 38,o 39 (E 35 0),o 40 (E 35 1),o 41 (E 35 2),a 12 39,a 13 40,a 14 41]) (q (q (r [0,1,2,3,11,12,13,43] [m 42 14,o 43 (U 42)]) (w 43 (q (r [8,9,10] [o 8 (AS #[]),o 9 (AI 0),o 10 (AB false)]) (x [8,9,10])) z)) (q (r [0,1,2,3,11,13] [m 44 11,m 45 12,o 46 (B .add 44 45),a 11 46]) (q (r [0,1,2,3,11] [m 47 1,m 48 13,o 49 (B .add 47 48),a 1 49]) (.exit 1 [0,1,2,3,11]))))) z)) (q (r [0,1,2,3,11] [m 50 11,m 51 0,m 52 1,m 53 1,o 54 (BI .add 53 1),o 55 (.sliceS (.t 51) (.some (.t 52)) (.some (.t 54))),o 56 (B .add 50 55),a 11 56]) (r [0,1,2,3,11] [m 57 1,o 58 (BI .add 57 1),a 1 58]))))))
def FB:oa:=dF
def Vs:=@rb FB dF rfl
def nL:Ba:=⟨61,[.inl 8,.inl 9,.inl 10],(q (r [0,1,2,3] [o 8 (AS #[]),o 9 (AI 0),o 10 (AB false)]) (q (r [0,1,2,3,11] [o 11 (AS #[])]) (q (k 0 [0,1,2,3,11] FB) (q (r [8,9,10] [m 59 11,m 60 1,a 8 59,a 9 60,o 10 (AB true)]) (x [8,9,10]))))),[]⟩
def eF:oa:=(q (q (r [0,1,5,34] [m 7 1,m 8 0,o 9 (K 8),o 10 (B .lss 7 9),m 11 10,g 11 12 (M 0),g 11 13 (M 1),g 11 14 (D 12 13),g 11 15 (BU .geq 14 97),g 11 16 (M 15),g 16 17 (M 0),g 16 18 (M 1),g 16 19 (D 17 18),g 16 20 (BU .leq 19 122),g 11 21 (P 16 20),g 11 22 (M 21),h 22 23 (M 0),h 22 24 (M 1),h 22 25 (D 23 24),h 22 26 (BU .geq 25 48),h 22 27 (M 26),g 27 28 (M 0),g 27 29 (M 1),g 27 30 (D 28 29),g 27 31 (BU .leq 30 57),h 22 32 (P 27 31),g 11 33 (O 22 32),o 34 (P 11 33)]) (w 34 z (.exit 0 [0,1,5]))) (.block 1 (r [0,1,5] [m 35 1,o 36 (BI .add 35 1),a 1 36])))
def GB:oa:=eF
def sR:=@rb GB eF rfl
def oL:Ba:=⟨41,[.inl 4],(q (r [0,1] [o 4 (AS #[])]) (q (r [0,1,5] [m 6 1,a 5 6]) (q (k 0 [0,1,5] GB) (q (r [4] [m 37 0,m 38 5,m 39 1,o 40 (.sliceS (.t 37) (.some (.t 38)) (.some (.t 39))),a 4 40]) (x [4]))))),[]⟩
def ZE:oa:=(q (q (r [0,1,26] [m 5 1,m 6 0,o 7 (K 6),o 8 (B .lss 5 7),m 9 8,g 9 10 (M 0),g 9 11 (M 1),g 9 12 (D 10 11),g 9 13 (BU .eql 12 32),g 9 14 (M 13),h 14 15 (M 0),h 14 16 (M 1),h 14 17 (D 15 16),h 14 18 (BU .eql 17 9),g 9 19 (O 14 18),g 9 20 (M 19),h 20 21 (M 0),h 20 22 (M 1),h 20 23 (D 21 22),h 20 24 (BU .eql 23 10),g 9 25 (O 20 24),o 26 (P 9 25)]) (w 26 z (.exit 0 [1]))) (.block 1 (r [0,1] [m 27 1,o 28 (BI .add 27 1),a 1 28])))
def DB:oa:=ZE
def rR:=@rb DB ZE rfl
def iL:Ba:=⟨30,[.inl 4],(q (r [0,1] [o 4 (AI 0)]) (q (k 0 [0,1] DB) (q (r [4] [m 29 1,a 4 29]) (x [4])))),[]⟩
def aF:oa:=(q (q (r [0,1,5,9] [m 6 5,m 7 0,o 8 (W 7),o 9 (B .lss 6 8)]) (w 9 z (.exit 0 []))) (q (.block 1 (q (r [0,1,5,17] [m 12 0,m 13 5,o 14 (Y 1 12 13),o 15 (L 1 14),m 16 1,o 17 (B .eql 15 16)]) (w 17 (q (r [4] [o 4 (AB true)]) (x [4])) z))) (r [0,1,5] [m 10 5,o 11 (BI .add 10 1),a 5 11])))
def EB:oa:=aF
def yG:=@rb EB aF rfl
def jL:Ba:=⟨18,[.inl 4],(q (r [0,1] [o 4 (AB false)]) (q (q (r [0,1,5] [o 5 (AI 0)]) (k 0 [0,1,5] EB)) (q (r [4] [o 4 (AB false)]) (x [4])))),[]⟩
def kL:Ba:=⟨2,[.inl 0],(q (r [] [o 0 (.asg (.c V))]) (q (r [0] [o 1 (.mksl false 26 1 [Z,Z,Z,Z,Z,Z,Z,Z,Z,Z,Z,Z,Z,Z,Z,Z,Z,Z,Z,Z,Z,Z,Z,Z,Z,Z] [⟨0,⟨1,s #[97]⟩⟩,⟨1,⟨1,s #[98]⟩⟩,⟨2,⟨1,s #[98,114]⟩⟩,⟨3,⟨1,s #[99,111,100,101]⟩⟩,⟨4,⟨1,s #[100,105,118]⟩⟩,⟨5,⟨1,s #[101,109]⟩⟩,⟨6,⟨1,s #[104,49]⟩⟩,⟨7,⟨1,s #[104,50]⟩⟩,⟨8,⟨1,s #[104,51]⟩⟩,⟨9,⟨1,s #[104,114]⟩⟩,⟨10,⟨1,s #[105]⟩⟩,⟨11,⟨1,s #[105,109,103]⟩⟩,⟨12,⟨1,s #[108,105]⟩⟩,⟨13,⟨1,s #[111,108]⟩⟩,⟨14,⟨1,s #[112]⟩⟩,⟨15,⟨1,s #[112,114,101]⟩⟩,⟨16,⟨1,s #[115,112,97,110]⟩⟩,⟨17,⟨1,s #[115,116,114,111,110,103]⟩⟩,⟨18,⟨1,s #[116,97,98,108,101]⟩⟩,⟨19,⟨1,s #[116,98,111,100,121]⟩⟩,⟨20,⟨1,s #[116,100]⟩⟩,⟨21,⟨1,s #[116,104]⟩⟩,⟨22,⟨1,s #[116,104,101,97,100]⟩⟩,⟨23,⟨1,s #[116,114]⟩⟩,⟨24,⟨1,s #[117]⟩⟩,⟨25,⟨1,s #[117,108]⟩⟩]),a 0 1]) (x [0]))),[]⟩
def gL:Ba:=⟨2,[.inl 0],(q (r [] [o 0 (.asg (.c V))]) (q (r [0] [o 1 (.mksl false 9 1 [Z,Z,Z,Z,Z,Z,Z,Z,Z] [⟨0,⟨1,s #[97,108,116]⟩⟩,⟨1,⟨1,s #[99,108,97,115,115]⟩⟩,⟨2,⟨1,s #[99,111,108,115,112,97,110]⟩⟩,⟨3,⟨1,s #[104,114,101,102]⟩⟩,⟨4,⟨1,s #[105,100]⟩⟩,⟨5,⟨1,s #[114,111,119,115,112,97,110]⟩⟩,⟨6,⟨1,s #[115,114,99]⟩⟩,⟨7,⟨1,s #[116,105,116,108,101]⟩⟩,⟨8,⟨1,s #[119,105,100,116,104]⟩⟩]),a 0 1]) (x [0]))),[]⟩
def fL:Ba:=⟨13,[.inl 2],(q (r [0] [o 2 (AB false)]) (q (r [2] [m 3 0,o 4 (BS .eql 3 #[98,114]),m 5 4,h 5 6 (M 0),h 5 7 (BS .eql 6 #[104,114]),o 8 (O 5 7),m 9 8,h 9 10 (M 0),h 9 11 (BS .eql 10 #[105,109,103]),o 12 (O 9 11),a 2 12]) (x [2]))),[]⟩
def XE:oa:=(q (q (r [0,3,4,10] [m 7 4,m 8 0,o 9 (W 8),o 10 (B .lss 7 9)]) (w 10 z (.exit 0 [3]))) (q (.block 1 (q (r [0,3,4,5] [m 13 3,o 14 (W 13),a 5 14]) (q (q (r [0,3,4,5,29] [m 15 0,m 16 4,o 17 (Y 6 15 16),o 18 (F 0 17),o 19 (L 1 18),o 20 (BU .eql 19 111),m 21 20,g 21 22 (M 0),g 21 23 (M 4),g 21 24 (Y 6 22 23),g 21 25 (F 1 24),g 21 26 (L 1 25),g 21 27 (C 127 26),g 21 28 (U 27),o 29 (P 21 28)]) (w 29 (.dg [0,3,4,5] [m 31 3,m 33 0,m 34 4,o 35 (Y 6 33 34),o 36 (F 1 35),o 37 (L 1 36)] (.two (o 30 (.mksl false 0 1 [] [])) (.two (o 32 (.append false 1 (.t 30) (.t 31))) (.one (o 38 (.mksl false 1 1 [Z] [⟨0,⟨1,.t 37⟩⟩])) (.one (o 39 (.append false 1 (.t 32) (.t 38))) (.one (a 3 39) .done))) (.one (o 38 (.mksl false 1 1 [Z] [⟨0,⟨1,.t 37⟩⟩])) (.one (o 32 (.append false 1 (.t 30) (.t 31))) (.one (o 39 (.append false 1 (.t 32) (.t 38))) (.one (a 3 39) .done))))) (.one (o 38 (.mksl false 1 1 [Z] [⟨0,⟨1,.t 37⟩⟩])) (.one (o 30 (.mksl false 0 1 [] [])) (.one (o 32 (.append false 1 (.t 30) (.t 31))) (.one (o 39 (.append false 1 (.t 32) (.t 38))) (.one (a 3 39) .done))))))) z)) (q (q (r [0,3,4,5,45] [m 40 0,m 41 4,o 42 (Y 6 40 41),o 43 (F 0 42),o 44 (L 1 43),o 45 (BU .eql 44 99)]) (w 45 (q (q (.Ld [0,3,4,5,60] [m 46 5,o 47 (BI .eql 46 0),m 48 47,h 48 49 (M 3),h 48 50 (M 5),h 48 51 (BI .sub 50 1),h 48 52 (Y 1 49 51),h 48 53 (L 1 52),h 48 54 (M 0),h 48 55 (M 4),h 48 56 (Y 6 54 55),h 48 57 (F 1 56),h 48 58 (L 1 57)] [h 48 59 (B .neq 53 58),o 60 (O 48 59)]) (w 60 (q (r [2] [o 2 (AB false)]) (x [2])) z)) (r [0,3,4] [m 61 3,m 62 5,o 63 (BI .sub 62 1),o 64 (.slice 1 (.t 61) .none (.some (.t 63))),a 3 64])) z)) (q (r [0,3,4,67] [m 65 3,o 66 (W 65),o 67 (BI .gtr 66 32)]) (w 67 (q (r [2] [o 2 (AB false)]) (x [2])) z)))))) (r [0,3,4] [m 11 4,o 12 (BI .add 11 1),a 4 12])))
def BB:oa:=XE
def Sh:=@rb BB XE rfl
def dL:Ba:=⟨71,[.inl 2],(q (r [0] [o 2 (AB false)]) (q (r [0,3] [o 6 (.mksl false 0 1 [] []),a 3 6]) (q (q (r [0,3,4] [o 4 (AI 0)]) (k 0 [0,3,4] BB)) (q (r [2] [m 68 3,o 69 (W 68),o 70 (BI .eql 69 0),a 2 70]) (x [2]))))),[]⟩
def ME:oa:=(q (q (r [0,1,7,8,9,16] [m 15 9,o 16 (BI .lss 15 4)]) (w 16 z (.exit 0 [0,1]))) (q (.block 1 (q (r [0,1,7,8,9,25] [m 19 0,m 20 7,m 21 9,o 22 (Y 1 20 21),o 23 (L 1 22),m 24 1,o 25 (.call 105 [.t 19,.t 23,.t 24])]) (w 25 (q (.Ld [4,5,6] [m 26 8,m 27 9,o 28 (Y 1 26 27),o 29 (L 1 28),m 30 7,m 31 9,o 32 (Y 1 30 31),o 33 (L 1 32),o 34 (K 33),m 4 29] [a 5 34,o 6 (AB true)]) (x [4,5,6])) z))) (r [0,1,7,8,9] [m 17 9,o 18 (BI .add 17 1),a 9 18])))
def EJ:oa:=ME
def rj:=@rb EJ ME rfl
def QK:Ba:=⟨73,[.inl 4,.inl 5,.inl 6],(q (r [0,1] [o 4 (AS #[]),o 5 (AI 0),o 6 (AB false)]) (q (r [0,1,7] [o 13 (.mksl false 4 1 [Z,Z,Z,Z] [⟨0,⟨1,s #[38,97,109,112,59]⟩⟩,⟨1,⟨1,s #[38,108,116,59]⟩⟩,⟨2,⟨1,s #[38,103,116,59]⟩⟩,⟨3,⟨1,s #[38,113,117,111,116,59]⟩⟩]),a 7 13]) (q (r [0,1,7,8] [o 14 (.mksl false 4 1 [Z,Z,Z,Z] [⟨0,⟨1,s #[38]⟩⟩,⟨1,⟨1,s #[60]⟩⟩,⟨2,⟨1,s #[62]⟩⟩,⟨3,⟨1,s #[34]⟩⟩]),a 8 14]) (q (q (r [0,1,7,8,9] [o 9 (AI 0)]) (k 0 [0,1,7,8,9] EJ)) (q (r [0,1,10,11,12] [o 10 (AI 0),o 11 (AI 0),o 12 (AI 0)]) (q (q (r [0,1,10,11,12,37] [m 35 0,m 36 1,o 37 (.call 105 [.t 35,s #[38,35,120],.t 36])]) (w 37 (q (r [0,1,12] [o 12 (AI 3)]) (r [10,11,12] [m 39 0,m 40 1,o 41 (BI .add 40 3),o 42 (.sliceS (.t 39) (.some (.t 41)) .none),o 43 (.call 286 [.t 42,i 16,i 6]),m 38 43,o 44 (E 38 0),o 45 (E 38 1),a 10 44,a 11 45])) (q (r [0,1,10,11,12,48] [m 46 0,m 47 1,o 48 (.call 105 [.t 46,s #[38,35],.t 47])]) (w 48 (q (r [0,1,12] [o 12 (AI 2)]) (r [10,11,12] [m 50 0,m 51 1,o 52 (BI .add 51 2),o 53 (.sliceS (.t 50) (.some (.t 52)) .none),o 54 (.call 286 [.t 53,i 10,i 7]),m 49 54,o 55 (E 49 0),o 56 (E 49 1),a 10 55,a 11 56])) z)))) (q (q (r [10,11,12,67] [m 57 11,o 58 (BI .eql 57 0),m 59 58,h 59 60 (M 10),h 59 61 (BI .eql 60 0),o 62 (O 59 61),m 63 62,h 63 64 (M 10),h 63 65 (C 134 64),h 63 66 (U 65),o 67 (O 63 66)]) (w 67 (q (r [4,5,6] [o 4 (AS #[]),o 5 (AI 0),o 6 (AB false)]) (x [4,5,6])) z)) (q (r [4,5,6] [m 68 10,o 69 (C 72 68),m 70 12,m 71 11,o 72 (B .add 70 71),a 4 69,a 5 72,o 6 (AB true)]) (x [4,5,6]))))))))),[]⟩
def NE:oa:=(q (q (r [0,1,2,8,9,19] [m 11 9,m 12 0,o 13 (K 12),o 14 (B .lss 11 13),m 15 14,g 15 16 (M 9),g 15 17 (M 2),g 15 18 (B .leq 16 17),o 19 (P 15 18)]) (w 19 z (.exit 0 []))) (q (.block 1 (q (q (r [0,1,2,8,9,29] [m 22 0,m 23 9,o 24 (D 22 23),o 25 (BU .eql 24 59),m 26 25,g 26 27 (M 9),g 26 28 (BI .gtr 27 0),o 29 (P 26 28)]) (w 29 (q (r [6,7] [m 30 8,m 31 9,o 32 (BI .add 31 1),a 6 30,a 7 32]) (x [6,7])) z)) (q (r [0,1,2,8,9,10] [m 33 0,m 34 9,o 35 (D 33 34),m 36 1,o 37 (CC 292 35 36),a 10 37]) (q (q (r [0,1,2,8,9,10,39] [m 38 10,o 39 (BI .lss 38 0)]) (w 39 (q (r [6,7] [o 6 (AI 0),o 7 (AI 0)]) (x [6,7])) z)) (r [0,1,2,8,9] [m 40 8,m 41 1,o 42 (B .mul 40 41),m 43 10,o 44 (B .add 42 43),a 8 44]))))) (r [0,1,2,8,9] [m 20 9,o 21 (BI .add 20 1),a 9 21])))
def sB:oa:=NE
def Us:=@rb sB NE rfl
def TK:Ba:=⟨45,[.inl 6,.inl 7],(q (r [0,1,2] [o 6 (AI 0),o 7 (AI 0)]) (q (r [0,1,2,8] [o 8 (AI 0)]) (q (q (r [0,1,2,8,9] [o 9 (AI 0)]) (k 0 [0,1,2,8,9] sB)) (q (r [6,7] [o 6 (AI 0),o 7 (AI 0)]) (x [6,7]))))),[]⟩
def SK:Ba:=⟨39,[.inl 4],(q (r [0,1] [o 4 (AI 0)]) (q (r [0,1,5] [o 5 (.asg (.c (.flat (.int .i64 (.negSucc 0)))))]) (q (q (r [0,1,5,11] [m 6 0,o 7 (BU .geq 6 48),m 8 7,g 8 9 (M 0),g 8 10 (BU .leq 9 57),o 11 (P 8 10)]) (w 11 (r [0,1,5] [m 12 0,o 13 (.conv .i64 (.t 12)),o 14 (BI .sub 13 48),a 5 14]) z)) (q (q (r [0,1,5,20] [m 15 0,o 16 (BU .geq 15 65),m 17 16,g 17 18 (M 0),g 17 19 (BU .leq 18 70),o 20 (P 17 19)]) (w 20 (r [0,1,5] [m 21 0,o 22 (.conv .i64 (.t 21)),o 23 (BI .sub 22 65),o 24 (BI .add 23 10),a 5 24]) z)) (q (q (r [0,1,5,30] [m 25 0,o 26 (BU .geq 25 97),m 27 26,g 27 28 (M 0),g 27 29 (BU .leq 28 102),o 30 (P 27 29)]) (w 30 (r [1,5] [m 31 0,o 32 (.conv .i64 (.t 31)),o 33 (BI .sub 32 97),o 34 (BI .add 33 10),a 5 34]) z)) (q (q (r [5,37] [m 35 5,m 36 1,o 37 (B .geq 35 36)]) (w 37 (q (r [4] [o 4 (.asg (.c (.flat (.int .i64 (.negSucc 0)))))]) (x [4])) z)) (q (r [4] [m 38 5,a 4 38]) (x [4])))))))),[]⟩
def OE:oa:=(q (q (r [0,3,16] [m 13 3,m 14 0,o 15 (K 14),o 16 (B .lss 13 15)]) (w 16 z (.exit 0 []))) (q (.block 1 (q (r [0,3,4] [m 19 0,m 20 3,o 21 (D 19 20),a 4 21]) (q (r [0,3,48] [m 22 4,o 23 (BU .geq 22 65),m 24 23,g 24 25 (M 4),g 24 26 (BU .leq 25 90),o 27 (P 24 26),m 28 27,h 28 29 (M 4),h 28 30 (BU .geq 29 97),h 28 31 (M 30),g 31 32 (M 4),g 31 33 (BU .leq 32 122),h 28 34 (P 31 33),o 35 (O 28 34),m 36 35,h 36 37 (M 4),h 36 38 (BU .geq 37 48),h 36 39 (M 38),g 39 40 (M 4),g 39 41 (BU .leq 40 57),h 36 42 (P 39 41),o 43 (O 36 42),m 44 43,h 44 45 (M 4),h 44 46 (BU .eql 45 45),o 47 (O 44 46),o 48 (U 47)]) (w 48 (q (r [2] [o 2 (AB false)]) (x [2])) z)))) (r [0,3] [m 17 3,o 18 (BI .add 17 1),a 3 18])))
def tB:oa:=OE
def oR:=@rb tB OE rfl
def UK:Ba:=⟨49,[.inl 2],(q (r [0] [o 2 (AB false)]) (q (q (r [0,12] [m 5 0,o 6 (K 5),o 7 (BI .lss 6 1),m 8 7,h 8 9 (M 0),h 8 10 (K 9),h 8 11 (BI .gtr 10 32),o 12 (O 8 11)]) (w 12 (q (r [2] [o 2 (AB false)]) (x [2])) z)) (q (q (r [0,3] [o 3 (AI 0)]) (k 0 [0,3] tB)) (q (r [2] [o 2 (AB true)]) (x [2]))))),[]⟩
def PE:oa:=(q (q (r [0,3,4,13] [m 10 4,m 11 3,o 12 (W 11),o 13 (B .lss 10 12)]) (w 13 z (.exit 0 [0]))) (q (.block 1 (q (r [0,3,4,29] [m 16 3,m 17 4,o 18 (Y 1 16 17),o 19 (L 1 18),o 20 (K 19),o 21 (BI .lss 20 1),m 22 21,h 22 23 (M 3),h 22 24 (M 4),h 22 25 (Y 1 23 24),h 22 26 (L 1 25),h 22 27 (K 26),h 22 28 (BI .gtr 27 60),o 29 (O 22 28)]) (w 29 (q (r [2] [o 2 (AB false)]) (x [2])) z))) (r [0,3,4] [m 14 4,o 15 (BI .add 14 1),a 4 15])))
def uB:oa:=PE
def pR:=@rb uB PE rfl
def QE:oa:=(q (q (r [0,5,33] [m 30 5,m 31 0,o 32 (K 31),o 33 (B .lss 30 32)]) (w 33 z (.exit 2 []))) (q (.block 3 (q (r [0,5,50] [m 36 0,m 37 5,o 38 (D 36 37),o 39 (BU .lss 38 32),m 40 39,h 40 41 (M 0),h 40 42 (M 5),h 40 43 (D 41 42),h 40 44 (BU .gtr 43 126),o 45 (O 40 44),m 46 45,h 46 47 (M 0),h 46 48 (M 5),h 46 49 (.call 105 [.t 47,s #[61,63],.t 48]),o 50 (O 46 49)]) (w 50 (q (r [2] [o 2 (AB false)]) (x [2])) z))) (r [0,5] [m 34 5,o 35 (BI .add 34 1),a 5 35])))
def vB:oa:=QE
def qR:=@rb vB QE rfl
def VK:Ba:=⟨51,[.inl 2],(q (r [0] [o 2 (AB false)]) (q (q (r [0,7] [m 6 0,o 7 (BS .eql 6 #[])]) (w 7 (q (r [2] [o 2 (AB true)]) (x [2])) z)) (q (r [0,3] [m 8 0,o 9 (.call 129 [.t 8,u 32]),a 3 9]) (q (q (r [0,3,4] [o 4 (AI 0)]) (k 0 [0,3,4] uB)) (q (q (r [0,5] [o 5 (AI 0)]) (k 2 [0,5] vB)) (q (r [2] [o 2 (AB true)]) (x [2]))))))),[]⟩
def WE:oa:=(q (q (r [3,4,5,6,21] [m 18 6,m 19 4,o 20 (W 19),o 21 (B .lss 18 20)]) (w 21 z (.exit 0 [3,5]))) (q (.block 1 (q (r [3,4,5,6,7] [m 24 4,m 25 6,o 26 (Y 1 24 25),o 27 (L 1 26),o 28 (C 72 27),a 7 28]) (q (q (r [3,4,5,6,7,34] [m 29 5,o 30 (K 29),m 31 7,o 32 (K 31),o 33 (B .add 30 32),o 34 (BI .gtr 33 45)]) (w 34 (q (r [3,4,6,7] [o 35 (.mvA 3),m 36 5,o 37 (C 130 36),o 38 (.mksl false 1 1 [Z] [⟨0,⟨1,.t 37⟩⟩]),o 39 (.append false 1 (.t 35) (.t 38)),a 3 39]) (r [3,4,5,6,7] [o 5 (AS #[])])) z)) (r [3,4,5,6] [m 40 5,m 41 7,o 42 (B .add 40 41),a 5 42])))) (r [3,4,5,6] [m 22 6,o 23 (BI .add 22 1),a 6 23])))
def zB:oa:=WE
def wG:=@rb zB WE rfl
def cL:Ba:=⟨48,[.inl 2],(q (r [0] [o 2 (.asg (.c V))]) (q (q (r [0,9] [m 8 0,o 9 (BS .eql 8 #[])]) (w 9 (q (r [2] [o 10 (.mksl false 0 1 [] []),a 2 10]) (x [2])) z)) (q (q (r [0,12] [m 11 0,o 12 (C 128 11)]) (w 12 (q (r [2] [m 13 0,o 14 (.call 129 [.t 13,u 32]),a 2 14]) (x [2])) z)) (q (r [0,3] [o 15 (.mksl false 0 1 [] []),a 3 15]) (q (r [3,4] [m 16 0,o 17 (C 69 16),a 4 17]) (q (r [3,4,5] [o 5 (AS #[])]) (q (q (r [3,4,5,6] [o 6 (AI 0)]) (k 0 [3,4,5,6] zB)) (q (r [2] [o 43 (.mvA 3),m 44 5,o 45 (C 130 44),o 46 (.mksl false 1 1 [Z] [⟨0,⟨1,.t 45⟩⟩]),o 47 (.append false 1 (.t 43) (.t 46)),a 2 47]) (x [2]))))))))),[]⟩
def ZK:Ba:=⟨7,[.inl 2],(q (r [0] [o 2 (AS #[])]) (q (r [2] [m 3 0,o 4 (C 177 3),o 5 (SB .add #[61,63,85,84,70,45,56,63,66,63] 4),o 6 (BS .add 5 #[63,61]),a 2 6]) (x [2]))),[]⟩
def UE:oa:=(q (q (r [6,7,8,9,22] [m 19 9,m 20 8,o 21 (W 20),o 22 (B .lss 19 21)]) (w 22 z (.exit 0 [6]))) (q (.block 1 (q (q (r [6,7,8,9,33] [m 25 7,o 26 (BI .add 25 1),m 27 8,m 28 9,o 29 (Y 1 27 28),o 30 (L 1 29),o 31 (K 30),o 32 (B .add 26 31),o 33 (BI .gtr 32 76)]) (w 33 (q (r [6,8,9] [m 34 6,o 35 (BS .add 34 #[13,10]),a 6 35]) (r [6,7,8,9] [o 7 (AI 0)])) z)) (q (r [6,7,8,9] [m 36 6,o 37 (BS .add 36 #[32]),m 38 8,m 39 9,o 40 (Y 1 38 39),o 41 (L 1 40),o 42 (B .add 37 41),a 6 42]) (r [6,7,8,9] [m 43 7,o 44 (BI .add 43 1),m 45 8,m 46 9,o 47 (Y 1 45 46),o 48 (L 1 47),o 49 (K 48),o 50 (B .add 44 49),a 7 50])))) (r [6,7,8,9] [m 23 9,o 24 (BI .add 23 1),a 9 24])))
def xB:oa:=UE
def vG:=@rb xB UE rfl
def XK:Ba:=⟨53,[.inl 4,.inl 5],(q (r [0,1] [o 4 (AS #[]),o 5 (AI 0)]) (q (q (r [0,1,12] [m 10 0,o 11 (C 53 10),o 12 (U 11)]) (w 12 (q (r [4,5] [o 4 (AS #[]),o 5 (AI 1)]) (x [4,5])) z)) (q (r [1,6] [m 13 0,o 14 (BS .add 13 #[58]),a 6 14]) (q (r [1,6,7] [m 15 6,o 16 (K 15),a 7 16]) (q (r [6,7,8] [m 17 1,o 18 (C 66 17),a 8 18]) (q (q (r [6,7,8,9] [o 9 (AI 0)]) (k 0 [6,7,8,9] xB)) (q (r [4,5] [m 51 6,o 52 (BS .add 51 #[13,10]),a 4 52,o 5 (AI 0)]) (x [4,5])))))))),[]⟩
def RE:oa:=(q (q (r [0,5,6,33] [m 30 6,m 31 0,o 32 (K 31),o 33 (B .lss 30 32)]) (w 33 z (.exit 0 [5]))) (q (.block 1 (q (q (r [0,5,6,55] [m 36 6,m 37 0,o 38 (K 37),o 39 (BI .sub 38 2),o 40 (B .lss 36 39),m 41 40,g 41 42 (M 0),g 41 43 (M 6),g 41 44 (M 6),g 41 45 (BI .add 44 2),g 41 46 (.sliceS (.t 42) (.some (.t 43)) (.some (.t 45))),g 41 47 (BS .eql 46 #[13,10]),o 48 (P 41 47),m 49 48,g 49 50 (M 0),g 49 51 (M 6),g 49 52 (BI .add 51 2),g 49 53 (D 50 52),g 49 54 (C 52 53),o 55 (P 49 54)]) (w 55 (q (r [0,5,6] [m 56 6,o 57 (BI .add 56 1),a 6 57]) (.exit 1 [0,5,6])) z)) (q (q (r [0,5,6,67] [m 58 0,m 59 6,o 60 (D 58 59),o 61 (BU .eql 60 13),m 62 61,h 62 63 (M 0),h 62 64 (M 6),h 62 65 (D 63 64),h 62 66 (BU .eql 65 10),o 67 (O 62 66)]) (w 67 (q (r [2,3,4] [o 2 (AS #[]),o 3 (AS #[]),o 4 (AI 7)]) (x [2,3,4])) z)) (r [0,5,6] [m 68 5,m 69 0,m 70 6,m 71 6,o 72 (BI .add 71 1),o 73 (.sliceS (.t 69) (.some (.t 70)) (.some (.t 72))),o 74 (B .add 68 73),a 5 74])))) (r [0,5,6] [m 34 6,o 35 (BI .add 34 1),a 6 35])))
def kx:oa:=RE
def tl:=@rb kx RE rfl
def SE:oa:=(q (q (r [5,7,84] [m 75 7,m 76 5,o 77 (K 76),o 78 (B .lss 75 77),m 79 78,g 79 80 (M 5),g 79 81 (M 7),g 79 82 (D 80 81),g 79 83 (BU .neq 82 58),o 84 (P 79 83)]) (w 84 z (.exit 2 [5,7]))) (.block 3 (r [5,7] [m 85 7,o 86 (BI .add 85 1),a 7 86])))
def wB:oa:=SE
def tG:=@rb wB SE rfl
def TE:oa:=(q (q (r [5,7,8,9,10,11,106] [m 103 11,m 104 8,o 105 (W 104),o 106 (B .lss 103 105)]) (w 106 z (.exit 4 [5,7,9]))) (q (.block 5 (q (r [5,7,8,9,10,11,12,13] [m 110 8,m 111 11,o 112 (Y 1 110 111),o 113 (L 1 112),o 114 (C 55 113),m 109 114,o 115 (E 109 0),o 116 (E 109 1),a 12 115,a 13 116]) (q (q (r [5,7,8,9,11,12,13,125] [m 117 11,o 118 (BI .gtr 117 0),m 119 118,g 119 120 (M 10),g 119 121 (M 120),g 121 122 (M 13),g 119 123 (P 121 122),g 119 124 (U 123),o 125 (P 119 124)]) (w 125 (r [5,7,8,9,11,12,13] [m 126 9,o 127 (BS .add 126 #[32]),a 9 127]) z)) (q (r [5,7,8,9,11,13] [m 128 9,m 129 12,o 130 (B .add 128 129),a 9 130]) (r [5,7,8,9,10,11] [m 131 13,a 10 131]))))) (r [5,7,8,9,10,11] [m 107 11,o 108 (BI .add 107 1),a 11 108])))
def lx:oa:=TE
def uG:=@rb lx TE rfl
def WK:Ba:=⟨136,[.inl 2,.inl 3,.inl 4],(q (r [0] [o 2 (AS #[]),o 3 (AS #[]),o 4 (AI 0)]) (q (q (r [0,24] [m 14 0,o 15 (K 14),o 16 (BI .lss 15 2),m 17 16,h 17 18 (M 0),h 17 19 (M 0),h 17 20 (K 19),h 17 21 (BI .sub 20 2),h 17 22 (.sliceS (.t 18) (.some (.t 21)) .none),h 17 23 (BS .neq 22 #[13,10]),o 24 (O 17 23)]) (w 24 (q (r [2,3,4] [o 2 (AS #[]),o 3 (AS #[]),o 4 (AI 7)]) (x [2,3,4])) z)) (q (r [0] [m 25 0,m 26 0,o 27 (K 26),o 28 (BI .sub 27 2),o 29 (.sliceS (.t 25) .none (.some (.t 28))),a 0 29]) (q (r [0,5] [o 5 (AS #[])]) (q (q (r [0,5,6] [o 6 (AI 0)]) (k 0 [0,5,6] kx)) (q (r [5,7] [o 7 (AI 0)]) (q (k 2 [5,7] wB) (q (q (r [5,7,97] [m 87 7,m 88 5,o 89 (K 88),o 90 (B .eql 87 89),m 91 90,h 91 92 (M 5),h 91 93 (M 7),h 91 94 (.sliceS (.t 92) .none (.some (.t 93))),h 91 95 (C 53 94),h 91 96 (U 95),o 97 (O 91 96)]) (w 97 (q (r [2,3,4] [o 2 (AS #[]),o 3 (AS #[]),o 4 (AI 7)]) (x [2,3,4])) z)) (q (r [5,7,8] [m 98 5,m 99 7,o 100 (BI .add 99 1),o 101 (.sliceS (.t 98) (.some (.t 100)) .none),o 102 (C 54 101),a 8 102]) (q (r [5,7,8,9] [o 9 (AS #[])]) (q (r [5,7,8,9,10] [o 10 (AB false)]) (q (q (r [5,7,8,9,10,11] [o 11 (AI 0)]) (k 4 [5,7,8,9,10,11] lx)) (q (r [2,3,4] [m 132 5,m 133 7,o 134 (.sliceS (.t 132) .none (.some (.t 133))),m 135 9,a 2 134,a 3 135,o 4 (AI 0)]) (x [2,3,4])))))))))))))),[]⟩
def VE:oa:=(q (q (r [0,3,4,5,10] [m 7 5,m 8 0,o 9 (K 8),o 10 (B .lss 7 9)]) (w 10 z (.exit 0 [3,4]))) (q (.block 1 (q (q (r [0,3,4,5,17] [m 13 0,m 14 5,o 15 (D 13 14),o 16 (C 52 15),o 17 (U 16)]) (w 17 (q (r [0,3,4,5] [m 18 4,m 19 0,m 20 5,m 21 5,o 22 (BI .add 21 1),o 23 (.sliceS (.t 19) (.some (.t 20)) (.some (.t 22))),o 24 (B .add 18 23),a 4 24]) (.exit 1 [0,3,4,5])) z)) (q (q (r [0,3,4,5,26] [m 25 4,o 26 (BS .neq 25 #[])]) (w 26 (r [0,3,5] [o 27 (.mvA 3),m 28 4,o 29 (.mksl false 1 1 [Z] [⟨0,⟨1,.t 28⟩⟩]),o 30 (.append false 1 (.t 27) (.t 29)),a 3 30]) z)) (r [0,3,4,5] [o 4 (AS #[])])))) (r [0,3,4,5] [m 11 5,o 12 (BI .add 11 1),a 5 12])))
def yB:oa:=VE
def Fz:=@rb yB VE rfl
def bL:Ba:=⟨38,[.inl 2],(q (r [0] [o 2 (.asg (.c V))]) (q (r [0,3] [o 6 (.mksl false 0 1 [] []),a 3 6]) (q (r [0,3,4] [o 4 (AS #[])]) (q (q (r [0,3,4,5] [o 5 (AI 0)]) (k 0 [0,3,4,5] yB)) (q (q (r [3,4,32] [m 31 4,o 32 (BS .neq 31 #[])]) (w 32 (r [3] [o 33 (.mvA 3),m 34 4,o 35 (.mksl false 1 1 [Z] [⟨0,⟨1,.t 34⟩⟩]),o 36 (.append false 1 (.t 33) (.t 35)),a 3 36]) z)) (q (r [2] [m 37 3,a 2 37]) (x [2]))))))),[]⟩
def YK:Ba:=⟨9,[.inl 2],(q (r [0] [o 2 (AB false)]) (q (r [2] [m 3 0,o 4 (BU .eql 3 32),m 5 4,h 5 6 (M 0),h 5 7 (BU .eql 6 9),o 8 (O 5 7),a 2 8]) (x [2]))),[]⟩
def aL:Ba:=⟨41,[.inl 2,.inl 3],(q (r [0] [o 2 (AS #[]),o 3 (AB false)]) (q (q (r [0,21] [m 6 0,o 7 (K 6),o 8 (BI .lss 7 12),m 9 8,h 9 10 (M 0),h 9 11 (.sliceS (.t 10) .none (.some (i 10))),h 9 12 (BS .neq 11 #[61,63,85,84,70,45,56,63,66,63]),o 13 (O 9 12),m 14 13,h 14 15 (M 0),h 14 16 (M 0),h 14 17 (K 16),h 14 18 (BI .sub 17 2),h 14 19 (.sliceS (.t 15) (.some (.t 18)) .none),h 14 20 (BS .neq 19 #[63,61]),o 21 (O 14 20)]) (w 21 (q (r [2,3] [m 22 0,a 2 22,o 3 (AB false)]) (x [2,3])) z)) (q (r [0,4,5] [m 24 0,m 25 0,o 26 (K 25),o 27 (BI .sub 26 2),o 28 (.sliceS (.t 24) (.some (i 10)) (.some (.t 27))),o 29 (C 109 28),m 23 29,o 30 (E 23 0),o 31 (E 23 1),a 4 30,a 5 31]) (q (q (r [0,4,38] [m 32 5,o 33 (BI .neq 32 0),m 34 33,h 34 35 (M 4),h 34 36 (C 110 35),h 34 37 (U 36),o 38 (O 34 37)]) (w 38 (q (r [2,3] [m 39 0,a 2 39,o 3 (AB false)]) (x [2,3])) z)) (q (r [2,3] [m 40 4,a 2 40,o 3 (AB true)]) (x [2,3])))))),[]⟩
def rL:Ba:=⟨15,[.inr ⟨2,⟨true,4⟩⟩,.inl 3],(q (r [0,2] [o 2 (.alloc 64 [V,Z,Z,V]),o 3 (AI 0)]) (q (r [2,4,6] [m 8 0,o 9 (.call 51 [.t 8,i 0,i 0]),m 7 9,o 10 (E 7 0),o 11 (E 7 1),o 12 (E 7 2),o 4 (.alloc 64 [V,Z,Z,V]),n (S 4 4 10),a 5 11,a 6 12]) (q (r [2,3] [o 13 (LT 4 4),m 14 6,n (S 4 2 13),a 3 14]) (x [2,3])))),[]⟩
def jF:oa:=(q (q (r [0,1,2,6,9,11,15,16,17,18,20,22,83] [m 80 22,m 81 20,o 82 (W 81),o 83 (B .lss 80 82)]) (w 83 z (.exit 0 [0,1,2,6,9,11,15,16,17,18]))) (q (.block 1 (q (r [0,1,2,6,9,11,15,16,17,18,20,22,92] [m 86 20,m 87 22,o 88 (Y 2 86 87),o 89 (F 0 88),o 90 (L 1 89),o 91 (C 103 90),o 92 (BS .eql 91 #[98,111,117,110,100,97,114,121])]) (w 92 (r [0,1,2,6,9,11,15,16,17,18,20,22] [m 93 20,m 94 22,o 95 (Y 2 93 94),o 96 (F 1 95),o 97 (L 1 96),a 18 97]) z))) (r [0,1,2,6,9,11,15,16,17,18,20,22] [m 84 22,o 85 (BI .add 84 1),a 22 85])))
def ox:oa:=jF
def AG:=@rb ox jF rfl
def kF:oa:=(q (q (r [1,2,6,9,17,26,28,163] [m 160 28,m 161 26,o 162 (W 161),o 163 (B .lss 160 162)]) (w 163 z (.exit 2 [2,6,17]))) (q (.block 3 (q (r [1,2,6,9,17,26,28,29,30,31] [m 167 26,m 168 28,o 169 (Y 1 167 168),o 170 (L 1 169),m 171 1,o 172 (BI .add 171 1),m 173 2,o 174 (.call 51 [.t 170,.t 172,.t 173]),m 166 174,o 175 (E 166 0),o 176 (E 166 1),o 177 (E 166 2),o 29 (.alloc 64 [V,Z,Z,V]),n (S 4 29 175),a 30 176,a 31 177]) (q (q (r [1,2,6,9,17,26,28,29,30,31,179] [m 178 31,o 179 (BI .neq 178 0)]) (w 179 (q (r [6,7,8] [o 180 (LT 4 9),m 181 2,m 182 31,n (S 4 6 180),a 7 181,a 8 182]) (x [6,7,8])) z)) (q (r [1,6,9,17,26,28,30] [o 183 (F 3 17),o 184 (.loadA (.t 183)),o 185 (LT 4 29),o 186 (.mksl false 1 4 [V,Z,Z,V] [⟨0,⟨4,.t 185⟩⟩]),o 187 (.append false 4 (.t 184) (.t 186)),o 188 (F 3 17),n (S 1 188 187)]) (r [1,2,6,9,17,26,28] [m 189 30,a 2 189]))))) (r [1,2,6,9,17,26,28] [m 164 28,o 165 (BI .add 164 1),a 28 165])))
def Do:oa:=kF
def BG:=@rb Do kF rfl
def tL:Ba:=⟨192,[.inr ⟨6,⟨true,4⟩⟩,.inl 7,.inl 8],(q (r [0,1,2,6] [o 6 (.alloc 64 [V,Z,Z,V]),o 7 (AI 0),o 8 (AI 0)]) (q (r [0,1,2,6,9] [o 32 (.build [V,Z,Z,V] []),o 9 (.alloc 64 [V,Z,Z,V]),n (S 4 9 32)]) (q (r [0,1,2,6,9,10,11,12] [m 34 0,o 35 (C 100 34),m 33 35,o 36 (E 33 0),o 37 (E 33 1),o 38 (E 33 2),a 10 36,a 11 37,a 12 38]) (q (q (r [0,1,2,6,9,10,11,12,40] [m 39 12,o 40 (BI .neq 39 0)]) (w 40 (q (r [6,7,8] [o 41 (LT 4 9),m 42 2,m 43 12,n (S 4 6 41),a 7 42,a 8 43]) (x [6,7,8])) z)) (q (r [0,1,2,6,9,10,11,13,14] [m 45 10,o 46 (CS 101 45 #[67,111,110,116,101,110,116,45,84,121,112,101]),m 44 46,o 47 (E 44 0),o 48 (E 44 1),a 13 47,a 14 48]) (q (r [0,1,2,6,9,10,11,13,14,15,16] [m 50 10,o 51 (CS 101 50 #[67,111,110,116,101,110,116,45,84,114,97,110,115,102,101,114,45,69,110,99,111,100,105,110,103]),m 49 51,o 52 (E 49 0),o 53 (E 49 1),a 15 52,a 16 53]) (q (q (r [0,1,2,6,9,10,11,13,14,15,16,59] [m 54 14,o 55 (BI .gtr 54 1),m 56 55,h 56 57 (M 16),h 56 58 (BI .gtr 57 1),o 59 (O 56 58)]) (w 59 (q (r [6,7,8] [o 60 (LT 4 9),m 61 2,n (S 4 6 60),a 7 61,o 8 (AI 9)]) (x [6,7,8])) z)) (q (r [0,1,2,6,9,11,13,14,15,16,17] [m 62 10,o 63 (.build [V,Z,Z,V] [⟨0,⟨1,.t 62⟩⟩,⟨1,⟨1,s #[116,101,120,116,47,112,108,97,105,110]⟩⟩]),o 17 (.alloc 64 [V,Z,Z,V]),n (S 4 17 63)]) (q (r [0,1,2,6,9,11,13,14,15,16,17,18] [o 18 (AS #[])]) (q (q (r [0,1,2,6,9,11,13,15,16,17,18,65] [m 64 14,o 65 (BI .eql 64 1)]) (w 65 (q (r [0,1,2,6,9,11,15,16,17,18,19,20,21] [m 67 13,o 68 (C 102 67),m 66 68,o 69 (E 66 0),o 70 (E 66 1),o 71 (E 66 2),a 19 69,a 20 70,a 21 71]) (q (q (r [0,1,2,6,9,11,15,16,17,18,19,20,21,73] [m 72 21,o 73 (BI .neq 72 0)]) (w 73 (q (r [6,7,8] [o 74 (LT 4 9),m 75 2,m 76 21,n (S 4 6 74),a 7 75,a 8 76]) (x [6,7,8])) z)) (q (r [0,1,2,6,9,11,15,16,17,18,20] [m 77 19,o 78 (C 103 77),o 79 (F 1 17),n (S 1 79 78)]) (q (r [0,1,2,6,9,11,15,16,17,18,20,22] [o 22 (AI 0)]) (k 0 [0,1,2,6,9,11,15,16,17,18,20,22] ox))))) z)) (q (q (r [0,1,2,6,9,11,15,16,17,18,101] [o 98 (F 1 17),o 99 (L 1 98),o 100 (C 104 99),o 101 (U 100)]) (w 101 (q (r [6,7,8] [o 102 (LT 4 9),m 103 2,n (S 4 6 102),a 7 103,o 8 (AI 7)]) (x [6,7,8])) z)) (q (r [0,1,2,6,9,11,15,16,17,18] [m 104 15,o 105 (C 103 104),a 15 105]) (q (q (r [0,1,2,6,9,11,15,17,18,107] [m 106 16,o 107 (BI .eql 106 0)]) (w 107 (r [0,1,2,6,9,11,15,17,18] [o 15 (AS #[55,98,105,116])]) z)) (q (r [1,2,6,9,15,17,18,23] [m 108 0,m 109 11,o 110 (.sliceS (.t 108) (.some (.t 109)) .none),a 23 110]) (q (q (r [1,2,6,9,15,17,18,23,114] [o 111 (F 1 17),o 112 (L 1 111),o 113 (.call 105 [.t 112,s #[109,117,108,116,105,112,97,114,116,47],i 0]),o 114 (U 113)]) (w 114 (q (r [2,6,9,17,24,25] [m 116 23,m 117 15,o 118 (CC 106 116 117),m 115 118,o 119 (E 115 0),o 120 (E 115 1),a 24 119,a 25 120]) (q (q (r [2,6,9,17,24,122] [m 121 25,o 122 (U 121)]) (w 122 (q (r [6,7,8] [o 123 (LT 4 9),m 124 2,n (S 4 6 123),a 7 124,o 8 (AI 7)]) (x [6,7,8])) z)) (q (r [2,6,17] [m 125 24,o 126 (F 2 17),n (S 1 126 125)]) (q (r [6,7,8] [o 127 (LT 4 17),m 128 2,n (S 4 6 127),a 7 128,o 8 (AI 0)]) (x [6,7,8]))))) z)) (q (r [1,2,6,9,15,17,18,26,27] [m 130 23,m 131 18,o 132 (CC 107 130 131),m 129 132,o 133 (E 129 0),o 134 (E 129 1),a 26 133,a 27 134]) (q (q (r [1,2,6,9,17,26,145] [m 135 15,o 136 (BS .neq 135 #[55,98,105,116]),m 137 136,h 137 138 (M 18),h 137 139 (C 108 138),h 137 140 (U 139),o 141 (O 137 140),m 142 141,h 142 143 (M 27),h 142 144 (U 143),o 145 (O 142 144)]) (w 145 (q (r [6,7,8] [o 146 (LT 4 9),m 147 2,n (S 4 6 146),a 7 147,o 8 (AI 7)]) (x [6,7,8])) z)) (q (q (r [1,2,6,9,17,26,149] [m 148 1,o 149 (BI .geq 148 4)]) (w 149 (q (r [6,7,8] [o 150 (LT 4 9),m 151 2,n (S 4 6 150),a 7 151,o 8 (AI 8)]) (x [6,7,8])) z)) (q (r [1,2,6,9,17,26] [m 152 2,m 153 26,o 154 (W 153),o 155 (B .add 152 154),a 2 155]) (q (q (r [1,2,6,9,17,26,157] [m 156 2,o 157 (BI .gtr 156 64)]) (w 157 (q (r [6,7,8] [o 158 (LT 4 9),m 159 2,n (S 4 6 158),a 7 159,o 8 (AI 5)]) (x [6,7,8])) z)) (q (q (r [1,2,6,9,17,26,28] [o 28 (AI 0)]) (k 2 [1,2,6,9,17,26,28] Do)) (q (r [6,7,8] [o 190 (LT 4 17),m 191 2,n (S 4 6 190),a 7 191,o 8 (AI 0)]) (x [6,7,8]))))))))))))))))))))))),[]⟩
def uL:Ba:=⟨36,[.inl 4,.inl 5],(q (r [0,1] [o 4 (AS #[]),o 5 (AB false)]) (q (q (r [0,1,11] [m 10 1,o 11 (BS .eql 10 #[55,98,105,116])]) (w 11 (q (r [4,5] [m 12 0,o 13 (C 173 12),o 14 (E 13 0),o 15 (E 13 1),a 4 14,a 5 15]) (x [4,5])) z)) (q (q (r [0,1,17] [m 16 1,o 17 (BS .eql 16 #[113,117,111,116,101,100,45,112,114,105,110,116,97,98,108,101])]) (w 17 (q (r [6,7] [m 19 0,o 20 (C 174 19),m 18 20,o 21 (E 18 0),o 22 (E 18 1),a 6 21,a 7 22]) (q (r [4,5] [m 23 6,m 24 7,o 25 (BI .eql 24 0),a 4 23,a 5 25]) (x [4,5]))) z)) (q (q (r [0,27] [m 26 1,o 27 (BS .eql 26 #[98,97,115,101,54,52])]) (w 27 (q (r [8,9] [m 29 0,o 30 (C 175 29),m 28 30,o 31 (E 28 0),o 32 (E 28 1),a 8 31,a 9 32]) (q (r [4,5] [m 33 8,m 34 9,o 35 (BI .eql 34 0),a 4 33,a 5 35]) (x [4,5]))) z)) (q (r [4,5] [o 4 (AS #[]),o 5 (AB false)]) (x [4,5])))))),[]⟩
def lF:oa:=(q (q (r [0,4,5,10] [m 7 5,m 8 0,o 9 (K 8),o 10 (B .lss 7 9)]) (w 10 z (.exit 0 [4]))) (q (.block 1 (q (q (r [0,4,5,15] [m 13 0,m 14 5,o 15 (.call 105 [.t 13,s #[13,10],.t 14])]) (w 15 (q (r [0,4,5] [o 16 (.mvA 4),o 17 (.mksl true 1 1 [.flat (.int .u8 0)] [⟨0,⟨1,u 10⟩⟩]),o 18 (.append true 1 (.t 16) (.t 17)),a 4 18]) (q (r [0,4,5] [m 19 5,o 20 (BI .add 19 1),a 5 20]) (.exit 1 [0,4,5]))) z)) (q (q (r [0,4,5,42] [m 21 0,m 22 5,o 23 (D 21 22),o 24 (BU .lss 23 1),m 25 24,h 25 26 (M 0),h 25 27 (M 5),h 25 28 (D 26 27),h 25 29 (BU .gtr 28 127),o 30 (O 25 29),m 31 30,h 31 32 (M 0),h 31 33 (M 5),h 31 34 (D 32 33),h 31 35 (BU .eql 34 13),o 36 (O 31 35),m 37 36,h 37 38 (M 0),h 37 39 (M 5),h 37 40 (D 38 39),h 37 41 (BU .eql 40 10),o 42 (O 37 41)]) (w 42 (q (r [2,3] [o 2 (AS #[]),o 3 (AB false)]) (x [2,3])) z)) (r [0,4,5] [o 43 (.mvA 4),m 44 0,m 45 5,o 46 (D 44 45),o 47 (.mksl true 1 1 [.flat (.int .u8 0)] [⟨0,⟨1,.t 46⟩⟩]),o 48 (.append true 1 (.t 43) (.t 47)),a 4 48])))) (r [0,4,5] [m 11 5,o 12 (BI .add 11 1),a 5 12])))
def LB:oa:=lF
def Vq:=@rb LB lF rfl
def vL:Ba:=⟨51,[.inl 2,.inl 3],(q (r [0] [o 2 (AS #[]),o 3 (AB false)]) (q (r [0,4] [o 6 (.mksl true 0 1 [] []),a 4 6]) (q (q (r [0,4,5] [o 5 (AI 0)]) (k 0 [0,4,5] LB)) (q (r [2,3] [m 49 4,o 50 (.b2s (.t 49)),a 2 50,o 3 (AB true)]) (x [2,3]))))),[]⟩
def wL:Ba:=⟨21,[.inl 2],(q (r [0] [o 2 (AB false)]) (q (r [3] [m 4 0,o 5 (.call 129 [.t 4,u 47]),a 3 5]) (q (r [2] [m 6 3,o 7 (W 6),o 8 (BI .eql 7 2),m 9 8,g 9 10 (M 3),g 9 11 (.Jg 1 (.t 10) (i 0)),g 9 12 (L 1 11),g 9 13 (BS .neq 12 #[]),o 14 (P 9 13),m 15 14,g 15 16 (M 3),g 15 17 (.Jg 1 (.t 16) (i 1)),g 15 18 (L 1 17),g 15 19 (BS .neq 18 #[]),o 20 (P 15 19),a 2 20]) (x [2])))),[]⟩
def gF:oa:=(q (q (r [0,3,16] [m 13 3,m 14 0,o 15 (K 14),o 16 (B .lss 13 15)]) (w 16 z (.exit 0 []))) (q (.block 1 (q (r [0,3,4] [m 19 0,m 20 3,o 21 (D 19 20),a 4 21]) (q (r [0,3,60] [m 22 4,o 23 (BU .geq 22 97),m 24 23,g 24 25 (M 4),g 24 26 (BU .leq 25 122),o 27 (P 24 26),m 28 27,h 28 29 (M 4),h 28 30 (BU .geq 29 65),h 28 31 (M 30),g 31 32 (M 4),g 31 33 (BU .leq 32 90),h 28 34 (P 31 33),o 35 (O 28 34),m 36 35,h 36 37 (M 4),h 36 38 (BU .geq 37 48),h 36 39 (M 38),g 39 40 (M 4),g 39 41 (BU .leq 40 57),h 36 42 (P 39 41),o 43 (O 36 42),m 44 43,h 44 45 (M 4),h 44 46 (BU .eql 45 45),o 47 (O 44 46),m 48 47,h 48 49 (M 4),h 48 50 (BU .eql 49 95),o 51 (O 48 50),m 52 51,h 52 53 (M 4),h 52 54 (BU .eql 53 61),o 55 (O 52 54),m 56 55,h 56 57 (M 4),h 56 58 (BU .eql 57 46),o 59 (O 56 58),o 60 (U 59)]) (w 60 (q (r [2] [o 2 (AB false)]) (x [2])) z)))) (r [0,3] [m 17 3,o 18 (BI .add 17 1),a 3 18])))
def JB:oa:=gF
def pi:=@rb JB gF rfl
def qL:Ba:=⟨61,[.inl 2],(q (r [0] [o 2 (AB false)]) (q (q (r [0,12] [m 5 0,o 6 (K 5),o 7 (BI .lss 6 1),m 8 7,h 8 9 (M 0),h 8 10 (K 9),h 8 11 (BI .gtr 10 70),o 12 (O 8 11)]) (w 12 (q (r [2] [o 2 (AB false)]) (x [2])) z)) (q (q (r [0,3] [o 3 (AI 0)]) (k 0 [0,3] JB)) (q (r [2] [o 2 (AB true)]) (x [2]))))),[]⟩
def iF:oa:=(q (q (r [0,7,8,9,10,11,32] [m 29 11,m 30 0,o 31 (K 30),o 32 (B .lss 29 31)]) (w 32 z (.exit 0 []))) (q (.block 1 (q (r [0,7,8,9,10,11,38] [m 35 0,m 36 7,m 37 11,o 38 (.call 105 [.t 35,.t 36,.t 37])]) (w 38 (q (r [0,7,8,9,11] [o 39 (.mvA 9),m 40 0,m 41 10,m 42 11,o 43 (.sliceS (.t 40) (.some (.t 41)) (.some (.t 42))),o 44 (.mksl false 1 1 [Z] [⟨0,⟨1,.t 43⟩⟩]),o 45 (.append false 1 (.t 39) (.t 44)),a 9 45]) (q (r [0,7,8,9,10] [m 46 11,m 47 7,o 48 (K 47),o 49 (B .add 46 48),a 10 49]) (r [0,7,8,9,10,11] [m 50 10,o 51 (BI .sub 50 1),a 11 51]))) (q (r [0,7,8,9,10,11,55] [m 52 0,m 53 8,m 54 11,o 55 (.call 105 [.t 52,.t 53,.t 54])]) (w 55 (q (r [4,5] [o 56 (.mvA 9),m 57 0,m 58 10,m 59 11,o 60 (.sliceS (.t 57) (.some (.t 58)) (.some (.t 59))),o 61 (.mksl false 1 1 [Z] [⟨0,⟨1,.t 60⟩⟩]),o 62 (.append false 1 (.t 56) (.t 61)),m 63 11,m 64 8,o 65 (K 64),o 66 (B .add 63 65),m 67 0,o 68 (K 67),o 69 (B .eql 66 68),a 4 62,a 5 69]) (x [4,5])) z))))) (r [0,7,8,9,10,11] [m 33 11,o 34 (BI .add 33 1),a 11 34])))
def KB:oa:=iF
def Hz:=@rb KB iF rfl
def sL:Ba:=⟨70,[.inl 4,.inl 5],(q (r [0,1] [o 4 (.asg (.c V)),o 5 (AB false)]) (q (r [0,1,6] [m 12 1,o 13 (SB .add #[45,45] 12),o 14 (BS .add 13 #[13,10]),a 6 14]) (q (q (r [0,1,6,18] [m 15 0,m 16 6,o 17 (.call 105 [.t 15,.t 16,i 0]),o 18 (U 17)]) (w 18 (q (r [4,5] [o 4 (.asg (.c V)),o 5 (AB false)]) (x [4,5])) z)) (q (r [0,6,7,8] [m 19 1,o 20 (SB .add #[13,10,45,45] 19),o 21 (BS .add 20 #[13,10]),m 22 1,o 23 (SB .add #[13,10,45,45] 22),o 24 (BS .add 23 #[45,45,13,10]),a 7 21,a 8 24]) (q (r [0,6,7,8,9] [o 25 (.mksl false 0 1 [] []),a 9 25]) (q (r [0,7,8,9,10] [m 26 6,o 27 (K 26),a 10 27]) (q (q (r [0,7,8,9,10,11] [m 28 10,a 11 28]) (k 0 [0,7,8,9,10,11] KB)) (q (r [4,5] [o 4 (.asg (.c V)),o 5 (AB false)]) (x [4,5]))))))))),[]⟩
def fF:oa:=(q (q (r [0,1,6,7,8,12] [m 9 8,m 10 0,o 11 (W 10),o 12 (B .lss 9 11)]) (w 12 z (.exit 0 [6,7]))) (q (.block 1 (q (q (r [0,1,6,7,8,23] [m 15 0,m 16 8,o 17 (Y 2 15 16),o 18 (F 0 17),o 19 (L 1 18),o 20 (C 103 19),m 21 1,o 22 (C 103 21),o 23 (B .neq 20 22)]) (w 23 (.exit 1 [0,1,6,7,8]) z)) (q (q (r [0,1,6,7,8,25] [m 24 7,o 25 (BI .eql 24 0)]) (w 25 (r [0,1,6,7,8] [m 26 0,m 27 8,o 28 (Y 2 26 27),o 29 (F 1 28),o 30 (L 1 29),a 6 30]) z)) (r [0,1,6,7,8] [m 31 7,o 32 (BI .add 31 1),a 7 32])))) (r [0,1,6,7,8] [m 13 8,o 14 (BI .add 13 1),a 8 14])))
def HB:oa:=fF
def Gz:=@rb HB fF rfl
def pL:Ba:=⟨35,[.inl 4,.inl 5],(q (r [0,1] [o 4 (AS #[]),o 5 (AI 0)]) (q (r [0,1,6] [o 6 (AS #[])]) (q (r [0,1,6,7] [o 7 (AI 0)]) (q (q (r [0,1,6,7,8] [o 8 (AI 0)]) (k 0 [0,1,6,7,8] HB)) (q (r [4,5] [m 33 6,m 34 7,a 4 33,a 5 34]) (x [4,5])))))),[]⟩
def HK:Ba:=⟨35,[.inl 6],(q (r [0,1,2] [o 6 (AB false)]) (q (r [6] [m 7 2,o 8 (BI .geq 7 0),m 9 8,g 9 10 (M 2),g 9 11 (M 0),g 9 12 (K 11),g 9 13 (B .leq 10 12),o 14 (P 9 13),m 15 14,g 15 16 (M 1),g 15 17 (K 16),g 15 18 (M 0),g 15 19 (K 18),g 15 20 (M 2),g 15 21 (B .sub 19 20),g 15 22 (B .leq 17 21),o 23 (P 15 22),m 24 23,g 24 25 (M 0),g 24 26 (M 2),g 24 27 (M 2),g 24 28 (M 1),g 24 29 (K 28),g 24 30 (B .add 27 29),g 24 31 (.sliceS (.t 25) (.some (.t 26)) (.some (.t 30))),g 24 32 (M 1),g 24 33 (B .eql 31 32),o 34 (P 24 33),a 6 34]) (x [6]))),[]⟩
def EE:oa:=(q (q (r [0,1,5,6,7,12] [m 9 7,m 10 0,o 11 (K 10),o 12 (B .lss 9 11)]) (w 12 z (.exit 0 [0,5,6]))) (q (.block 1 (q (r [0,1,5,6,7,19] [m 15 0,m 16 7,o 17 (D 15 16),m 18 1,o 19 (B .eql 17 18)]) (w 19 (q (r [0,1,5,7] [o 20 (.mvA 5),m 21 0,m 22 6,m 23 7,o 24 (.sliceS (.t 21) (.some (.t 22)) (.some (.t 23))),o 25 (.mksl false 1 1 [Z] [⟨0,⟨1,.t 24⟩⟩]),o 26 (.append false 1 (.t 20) (.t 25)),a 5 26]) (r [0,1,5,6,7] [m 27 7,o 28 (BI .add 27 1),a 6 28])) z))) (r [0,1,5,6,7] [m 13 7,o 14 (BI .add 13 1),a 7 14])))
def mB:oa:=EE
def sG:=@rb mB EE rfl
def IK:Ba:=⟨35,[.inl 4],(q (r [0,1] [o 4 (.asg (.c V))]) (q (r [0,1,5] [o 8 (.mksl false 0 1 [] []),a 5 8]) (q (r [0,1,5,6] [o 6 (AI 0)]) (q (q (r [0,1,5,6,7] [o 7 (AI 0)]) (k 0 [0,1,5,6,7] mB)) (q (r [4] [o 29 (.mvA 5),m 30 0,m 31 6,o 32 (.sliceS (.t 30) (.some (.t 31)) .none),o 33 (.mksl false 1 1 [Z] [⟨0,⟨1,.t 32⟩⟩]),o 34 (.append false 1 (.t 29) (.t 33)),a 4 34]) (x [4])))))),[]⟩
attribute [go_sem] nE oE pE qE BF AF qP uE rE wE xE sE tE qF uF vF yF zF xF rF tF CE BE DE zE AE yE oF pF mF FE JE IE KE HE YE cF bF dF eF ZE aF XE ME NE OE PE QE WE UE RE SE TE VE jF kF lF gF iF fF EE
def Nq:List (FuncId×Lv):=[]
def KH:List (FuncId×Ba):=[(3,DL),(9,EL),(94,gK),(97,kK),(47,iK),(21,hK),(7,jK),(49,mK),(48,lK),(50,nK),(95,gM),(155,kM),(224,lM),(225,iM),(159,fM),(275,oM),(227,mM),(160,nM),(92,hM),(231,jM),(98,qK),(40,vK),(230,oK),(163,wK),(229,xK),(164,uK),(20,pK),(38,tK),(43,sK),(86,rK),(45,OL),(44,NL),(41,GL),(88,HL),(149,IL),(85,FL),(56,PL),(182,QL),(181,TL),(279,RL),(242,SL),(180,XL),(111,UL),(178,VL),(179,WL),(112,ZL),(183,bM),(245,cM),(184,eM),(246,dM),(281,aM),(243,YL),(244,JL),(280,LL),(241,KL),(278,ML),(37,EK),(76,DK),(77,CK),(81,FK),(142,GK),(82,zK),(83,AK),(145,BK),(78,yK),(63,yL),(29,AL),(16,zL),(31,CL),(8,BL),(64,xL),(34,KK),(72,JK),(71,NK),(134,OK),(69,PK),(110,MK),(60,eL),(123,lL),(196,mL),(195,nL),(197,oL),(258,iL),(198,jL),(199,kL),(259,gL),(127,fL),(65,dL),(257,QK),(286,TK),(292,SK),(53,UK),(128,VK),(66,cL),(130,ZK),(30,XK),(23,WK),(54,bL),(52,YK),(55,aL),(22,rL),(51,tL),(106,uL),(173,vL),(104,wL),(108,qL),(107,sL),(101,pL),(105,HK),(129,IK)]
noncomputable def code:FuncId->Option Ba:=fun f=>match KH.lookup f with
 |some c=>some c
 |none=>(Nq.lookup f).bind fun lv=>Uj Tryz.prog lv f
def zcy:KH.map (fun p=>Uj Tryz.prog (C6 [111,4611686018427387941] p.2) p.1)=KH.map (fun p=>some p.2):=ca
theorem Ix:∀f c,code f=some c->∃lv,Uj Tryz.prog lv f=some c:=fun f c h=>by
 unfold code at h;split at h
 ·rename_i c' a
  cases h;exact⟨_,List.map_inj_left.1 zcy _ (QF a)⟩
 ·obtain⟨lv,_,a⟩:=qb h
  exact⟨lv,a⟩
def Rr:code wa.hb=none:=ca
def MX:code 3=some DL:=ca
def NX:code 9=some EL:=ca
def JW:code 94=some gK:=ca
def LW:code 97=some kK:=ca
def KW:code 47=some iK:=ca
def xM:code 21=some hK:=ca
def pn:code 7=some jK:=ca
def NW:code 49=some mK:=ca
def MW:code 48=some lK:=ca
def OW:code 50=some nK:=ca
def IM:code 95=some gM:=ca
def fY:code 155=some kM:=ca
def gY:code 224=some lM:=ca
def eY:code 225=some iM:=ca
def dY:code 159=some fM:=ca
def jY:code 275=some oM:=ca
def hY:code 227=some mM:=ca
def iY:code 160=some nM:=ca
def JM:code 92=some hM:=ca
def KM:code 231=some jM:=ca
def yM:code 98=some qK:=ca
def WW:code 40=some vK:=ca
def PW:code 230=some oK:=ca
def XW:code 163=some wK:=ca
def YW:code 229=some xK:=ca
def VW:code 164=some uK:=ca
def QW:code 20=some pK:=ca
def UW:code 38=some tK:=ca
def SW:code 43=some sK:=ca
def RW:code 86=some rK:=ca
def TX:code 45=some OL:=ca
def SX:code 44=some NL:=ca
def DM:code 41=some GL:=ca
def EM:code 88=some HL:=ca
def PX:code 149=some IL:=ca
def OX:code 85=some FL:=ca
def HC:code 56=some PL:=ca
def UX:code 182=some QL:=ca
def XX:code 181=some TL:=ca
def VX:code 279=some RL:=ca
def WX:code 242=some SL:=ca
def bY:code 180=some XL:=ca
def YX:code 111=some UL:=ca
def ZX:code 178=some VL:=ca
def aY:code 179=some WL:=ca
def Vo:code 112=some ZL:=ca
def IC:code 183=some bM:=ca
def cY:code 245=some cM:=ca
def HM:code 184=some eM:=ca
def rn:code 246=some dM:=ca
def Jx:code 281=some aM:=ca
def Hu:code 243=some YL:=ca
def QX:code 244=some JL:=ca
def FM:code 280=some LL:=ca
def RX:code 241=some KL:=ca
def GM:code 278=some ML:=ca
def ej:code 37=some EK:=ca
def cX:code 76=some DK:=ca
def Fu:code 77=some CK:=ca
def Gu:code 81=some FK:=ca
def DC:code 142=some GK:=ca
def aX:code 82=some zK:=ca
def bX:code 83=some AK:=ca
def BC:code 145=some BK:=ca
def ZW:code 78=some yK:=ca
def JX:code 63=some yL:=ca
def KX:code 29=some AL:=ca
def CM:code 16=some zL:=ca
def LX:code 31=some CL:=ca
def qn:code 8=some BL:=ca
def IX:code 64=some xL:=ca
def gX:code 34=some KK:=ca
def fX:code 72=some JK:=ca
def iX:code 71=some NK:=ca
def jX:code 134=some OK:=ca
def kX:code 69=some PK:=ca
def hX:code 110=some MK:=ca
def FC:code 60=some eL:=ca
def To:code 123=some lL:=ca
def GC:code 196=some mL:=ca
def BM:code 195=some nL:=ca
def zX:code 197=some oL:=ca
def xX:code 258=some iL:=ca
def AM:code 198=some jL:=ca
def yX:code 199=some kL:=ca
def wX:code 259=some gL:=ca
def vX:code 127=some fL:=ca
def zM:code 65=some dL:=ca
def fj:code 257=some QK:=ca
def mX:code 286=some TK:=ca
def lX:code 292=some SK:=ca
def nX:code 53=some UK:=ca
def oX:code 128=some VK:=ca
def EC:code 66=some cL:=ca
def sX:code 130=some ZK:=ca
def qX:code 30=some XK:=ca
def pX:code 23=some WK:=ca
def uX:code 54=some bL:=ca
def rX:code 52=some YK:=ca
def tX:code 55=some aL:=ca
def DX:code 22=some rL:=ca
def Zg:code 51=some tL:=ca
def FX:code 106=some uL:=ca
def GX:code 173=some vL:=ca
def HX:code 104=some wL:=ca
def CX:code 108=some qL:=ca
def EX:code 107=some sL:=ca
def AX:code 101=some pL:=ca
def dX:code 105=some HK:=ca
def eX:code 129=some IK:=ca
end Go.Proofs.YtglaihdcndcmkaaGreatDoor
namespace wa
attribute [go_sem] look_nil dQ w6 TF x6 aQ o2 k2 U1 m2 j2 Y1
attribute [go_sem] X1 p2 W1 b2 Z1 l2 V1 i2 d2 f2 h2 zei
attribute [go_sem] zef zd3 zeh zee zd7 zd6 zej zd5 zd9 zd8 zeg zd4
attribute [go_sem] zed zea zeb zec zdZ zdV zdX zdR zdY zdW zdU zdT
attribute [go_sem] zd0 zdS zd2 zd1 c7 b7 e7 d7 z2 q2 y2 u2
attribute [go_sem] s2 A2 r2 x2 E2 v2 w2 C2 B2 D2 f7 Ev
attribute [go_sem] YQ NU Uw LU MU zdC zdB e8 g8 zR f8 NG
attribute [go_sem] rZ sZ WC dZ eZ cZ j5 rP xW Cx Bx zav
attribute [go_sem] zH nA xH Ax zdI xw Gk P9 N9 K9 L9 k5
attribute [go_sem] zdM WH wu Zl YT zdp zdo tY B6 qQ WF uY
attribute [go_sem] w7 b0 ZZ OZ MN KZ LN RZ RN q4 za2 za3
attribute [go_sem] zaB zaD zaC za7 m4 B3 zaG R2 zaF Q2 zaN s3
attribute [go_sem] r3 DZ BZ CZ EZ J2 za5 d4 b4 Z3 f4 zbc
attribute [go_sem] h5 zaM l3 zaE ZU aV YU U4 jP zaw zaH V2
attribute [go_sem] zaI W2 za0 W3 zaX j_ hH v6 u6 t6 mC HD
attribute [go_sem] zaY V3 S3 zaZ T3 U3 iZ sN hj gZ hZ fZ
attribute [go_sem] zbb T4 Q4 S4 R4 zaP x3 w3 zaR zaQ D3 C3
attribute [go_sem] zaS J3 I3 za6 l4 zaT M3 X2 zaU L3 K3 PZ
attribute [go_sem] QZ zba N4 V4 AV BV CV DV za8 P4 O4 o3
attribute [go_sem] m3 za9 M4 zaO u3 zaV R3 P3 Q3 zaW O3 za4
attribute [go_sem] Y3 za1 X3 zaL JU XI O7 oZ pZ VC nZ Lu
attribute [go_sem] mZ lZ zay zax N2 O2 P2 R9 Q9 j3 zaA zaz
attribute [go_sem] K2 L2 M2 G4 H4 F4 ic kZ jZ nW Y2 oW
attribute [go_sem] i3 h3 Z2 zaJ zaK b3 d3 zak zal G3 H3 H7
attribute [go_sem] G7 h4 pre_nil H9 p4 p3 zbd zbe E3 F3 K8 L8
attribute [go_sem] D8 I8 d9 e9 E8 i9 H8 G8 O8 f9 g9 m9
attribute [go_sem] N8 F8 J8 b9 Y8 Z8 Q8 R8 S8 T8 V8 h9
attribute [go_sem] k9 j9 l9 P8 W8 X8 c9 M8 x9 o4 C4 y4
attribute [go_sem] U9 T9 r4 s4 w4 zbt zbH zbp zbL zbr zbq zbw
attribute [go_sem] zbI zbJ zbP zbv zbs zbF zby zbz zbA zbB zbC zbK
attribute [go_sem] zbN zbM zbO zbx zbD zbE zbG zbu W4 zct zcu zcv
attribute [go_sem] sH B4 A4 iW jW mW gW hW lW K4 J4 L4
attribute [go_sem] bW k3 aW T2 S2 U2 dW cW kW j4 i4 k4
attribute [go_sem] q3 I4 fW x4 B_ tS uS E4 D4 y3 A3 N3
attribute [go_sem] W7 V7 Y7 X7 X4 b5 Z4 Y4 f5 d5 g5 q0
attribute [go_sem] J0 B0 E0 G0 r0 D0 K0 H0 I0 s0 C0 A0
attribute [go_sem] y0 x0 u0 t1 u1 v1 x1 w1 S1 R1 La PV.low
attribute [go_sem] gc PV.pl PV.li PV.cells ki Nc Dq Option.map_some Option.map_none List.length_cons List.length_nil List.take_succ_cons
attribute [go_sem] List.take_zero List.take_nil List.drop_succ_cons List.drop_zero List.drop_nil List.cons_append List.nil_append List.append_nil List.getElem?_cons_zero List.getElem?_cons_succ List.getElem?_nil List.set_cons_zero
attribute [go_sem] List.set_cons_succ List.zip_cons_cons List.zip_nil_left List.zip_nil_right List.foldl_cons List.foldl_nil if_true if_false decide_true decide_false Bool.and_true Bool.true_and
attribute [go_sem] Bool.and_false Bool.false_and Bool.not_true Bool.not_false Bool.false_eq_true and_true true_and and_self and_false false_and true_or or_true
attribute [go_sem] or_false false_or or_self ne_eq not_false_eq_true not_true_eq_false Nat.le_refl Nat.zero_le Nat.zero_add Nat.add_zero Nat.mul_one ze3
attribute [go_sem] bne_iff_ne Option.some.injEq Int.cast_ofNat_Int
abbrev ba:=List UInt8
def S(l:ba):ByteArray:=⟨l.toArray⟩
def Ge{l:ba}:ByteArray.mk (List.toArray l)=S l:=rfl
theorem Na{l}:(S l).size=l.length:=ja
def Xc{l}{i:Nat}:(S l)[i]?=l[i]?:=by
 show(ByteArray.mk l.toArray)[i]?=_;by_cases h:i<l.length
 ·rw[qe h]
  have a:i<(ByteArray.mk l.toArray).size:=by simpa[ByteArray.size]using h
  rw[getElem?_pos (ByteArray.mk l.toArray) i a];rfl
 grind [ByteArray.size]
def Zi{a b}:S a++S b=S (a++b):=Jk (by simp[S])
def Tg{l}{a b}:(S l).extract a b=S ((l.take b).drop a):=Jk (by
 rw[ByteArray.data_extract]
 grind [S])
theorem aB{a b}:S a=S b ↔ a=b:=⟨fun h=>by grind [S],fun h=>by rw[h]⟩
def xo{a b}:xn (S a) (S b)=decide (a=b):=by grind [xn,aB]
def AU{a}:Jh (S a)=a.map fun b=>.flat (.int .u8 b.toNat):=ja
def Yc(a:ba):List PV:=a.map fun b=>.flat (.int .u8 b.toNat)
def NI{a}:Jh (S a)=Yc a:=AU
theorem qx{a b}:Yc a++Yc b=Yc (a++b):=by simp[Yc]
def Wl{a}:(Yc a).length=a.length:=by simp[Yc]
theorem pC:∀(a),bytesOf (Yc a)=some a
 |[]=>rfl
 |b::a=>by
  show bytesOf (.flat (.int .u8 b.toNat)::Yc a)=_;have c:=b.toNat_lt;rw[bytesOf,if_pos aa,pC a];simp
theorem XB{n}:∀a,La n (Yc a)=true
 |[]=>rfl
 |b::a=>by show La n (.flat (.int .u8 b.toNat)::Yc a)=true;simp[La,PV.low,XB a]
def JQ{l:ba}{k}{c}{r:ba}(h:l.drop k=c::r):l[k]?=some c:=by
 have:=congrArg (fun x=>x[0]?) h
 grind
def XC{l:ba}{k}{c}{r:ba}(h:l.drop k=c::r):l.drop (k+1)=r:=by
 have:=congrArg (List.drop 1) h;simpa[Nat.add_comm]using this
def Kg{st}{d}{c}:Gy st d (some c)=some (st.put d (.flat (.int .u8 c.toNat))):=rfl
def Rk{p}(h:(List.range 256).all p=true)(c:UInt8):p c.toNat=true:=Dj.1 h _ (mo.2 c.toNat_lt)
def n0:((0:Nat):Int)=0:=rfl
def n1:((1:Nat):Int)=1:=rfl
def n2:((2:Nat):Int)=2:=rfl
def n3:((3:Nat):Int)=3:=rfl
def n4:((4:Nat):Int)=4:=rfl
def Hi:((65533:Nat):Int)=65533:=rfl
def BA:IntKind.i64.wrap 0=0:=ga
def YH:IntKind.i64.wrap 5=5:=ga
def zdP:IntKind.i64.wrap 6=6:=ga
def CA:IntKind.i64.wrap 1=1:=ga
def er:IntKind.i64.wrap 2=2:=ga
def gr:IntKind.i64.wrap 3=3:=ga
def Dt:IntKind.i64.wrap 4=4:=ga
def u8_and(a b:Nat)(c:a<256)(d:b<256):Xl .u8 (a:Int) (b:Int)=((a&&&b:Nat):Int):=by
 show IntKind.u8.wrap ((BitVec.ofInt 8 (a:Int)&&&BitVec.ofInt 8 (b:Int)).toNat:Int)=_
 grind [BitVec.ofNat,Mj]
def u8_or(a b:Nat)(c:a<256)(d:b<256):Pk .u8 (a:Int) (b:Int)=((a|||b:Nat):Int):=by
 show IntKind.u8.wrap ((BitVec.ofInt 8 (a:Int)|||BitVec.ofInt 8 (b:Int)).toNat:Int)=_
 grind [BitVec.ofNat,Mj]
def I1(a b:Nat)(d:a<2147483648)(e:b<2147483648):Pk .i32 (a:Int) (b:Int)=((a|||b:Nat):Int):=by
 show IntKind.i32.wrap ((BitVec.ofInt 32 (a:Int)|||BitVec.ofInt 32 (b:Int)).toNat:Int)=_;have c:(a|||b)<2^31:=Nat.or_lt_two_pow aa aa
 grind [wrap32]
def H1(a b:Nat)(c:a<2147483648)(d:b<2147483648):Xl .i32 (a:Int) (b:Int)=((a&&&b:Nat):Int):=by
 show IntKind.i32.wrap ((BitVec.ofInt 32 (a:Int)&&&BitVec.ofInt 32 (b:Int)).toNat:Int)=_
 grind [Nat.and_le_left,wrap32]
def M7(m x)(a:x<64):(m* 64)|||x=m* 64+x:=by
 have:=Nat.shiftLeft_add_eq_or_of_lt (i:=6) (b:=x) aa m
 grind [Nat.shiftLeft_eq]
def Py(body:St->Option (Out×St))(live:List Nat)(nb n:Nat):Option (Out×St)->Option (Out×St)
 |some (.normal,st)=>Fc body live nb n (st.only live nb)
 |some (.exit i,st)=>some (.exit i,st)
 |some (.ret,st)=>some (.ret,st)
 |none=>none
def tc{body}{live}{nb n}{st}:Fc body live nb (n+1) st=Py body live nb n (body st):=by
 simp only[Fc];cases body st with
 |none=>rfl
 |some p=>obtain⟨o,s⟩:=p;cases o<;>rfl
def Gc{body}{live}{nb n}{st}:Py body live nb n (some (.normal,st))=Fc body live nb n (st.only live nb):=rfl
def Sc{body}{live}{nb n i}{st}:Py body live nb n (some (.exit i,st))=some (.exit i,st):=rfl
def Wd{body}{live}{nb n}{st}:Py body live nb n (some (.ret,st))=some (.ret,st):=rfl
theorem wh{α:Type}{body}{live}{nb}(c:α->St)(I:α->Prop)(μ:α->Nat)(yb:α->Out×St)
 (h:∀a,I a->(∃o s,body (c a)=some (o,s)/\o≠.normal/\yb a=(o,s))\/∃s b,body (c a)=some (.normal,s)/\s.only live nb=c b/\I b/\μ b<μ a/\yb b=yb a):∀{n}{a},I a->μ a<n->Fc body live nb n (c a)=some (yb a)
 |0,a,_,l=>by omega
 |n+1,a,k,l=>by
  rw[tc];rcases h a k with⟨o,s,d,g,e⟩|⟨s,b,d,g,e,p,j⟩
  ·rw[d,e]
   cases o with
   |normal=>grind
   |exit i=>rfl
   |ret=>rfl
  ·rw[d,Gc,g,<-j]
   exact wh c I μ yb h e aa
open Go.Proofs.YtglaihdcndcmkaaGreatDoor
variable {lib:Callee}
def Oo{n:Nat}{r}(h:n<256):bytesOf (.flat (.int .u8 (n:Int))::r)=(bytesOf r).map (UInt8.ofNat n::·):=by
 grind [bytesOf.eq_2]
def Po:bytesOf []=some []:=rfl
def pd:ka=18446744073709551615+1:=ga
def cl(m:List (Nat×Nat)):List Loc:=m.map fun q=>.cell q.1 q.2
theorem wb:∀m,Oe (cl m)=cl m
 |[]=>rfl
 |q::m=>by show Oe (.cell q.1 q.2::cl m)=_;rw[Bx,wb m];rfl
theorem Bb:∀m,ui (cl m)=[]
 |[]=>rfl
 |q::m=>by show ui (.cell q.1 q.2::cl m)=_;rw[nA,Bb m]
theorem cb{i}:∀m,owns (cl m) (.slot i)=false
 |[]=>rfl
 |q::m=>by show owns (.cell q.1 q.2::cl m) (.slot i)=_;rw[NG,cb m]
theorem xb(m):∀l,Fs (cl m) l=[]
 |[]=>rfl
 |i::l=>by rw[i5,cb,xb m l];rfl
theorem pb{d}:∀m,Ta d (cl m)=cl m
 |[]=>rfl
 |q::m=>by show Ta d (.cell q.1 q.2::cl m)=_;rw[WC,pb m];rfl
theorem db{n}:∀m,(∀q∈m,q.1<n)->Nb n (cl m)=cl m
 |[],_=>rfl
 |q::m,h=>by
  show Nb n (.cell q.1 q.2::cl m)=_;rw[Gk,if_pos (h q da),db m fun q a=>h q (by simp[a])];rfl
def Se{α ι:Type}(step:α->ι->α×Bool):α->List ι->α×Bool
 |a,[]=>(a,true)
 |a,x::r=>if(step a x).2 then Se step (step a x).1 r else((step a x).1,false)
def Mc{nb}{vs}{bx}(h:bx.length=nb):trim nb vs bx=bx:=by grind [trim]
def kq:cl []=[]:=rfl
theorem xp{bx:Ha}{b}{q}(h:bx[b]?=some q):bx.set b q=bx:=by
 apply List.ext_getElem?
 grind
theorem mn{b o}:∀m,(∀q∈m,q≠(b,o))->ad (.cell b o) (cl m)=cl m
 |[],_=>rfl
 |q::m,h=>by
  show ad (.cell b o) (.cell q.1 q.2::cl m)=_;rw[Lu,if_neg (fun k=>h q da (Prod.ext k.1 k.2)),mn m fun q a=>h q (by simp[a])];rfl
theorem Hf{b o}:∀m,(∀q∈m,q≠(b,o))->Qc b o 1 (cl m)=cl m
 |[],_=>rfl
 |q::m,h=>by
  show Qc b o 1 (.cell q.1 q.2::cl m)=_;rw[hj,if_neg (fun k=>h q da (Prod.ext k.1 aa)),Hf m fun q a=>h q (by simp[a])];rfl
theorem cn:∀a,Uf (Yc a)=true
 |[]=>rfl
 |c::a=>by show Uf (.flat (.int .u8 c.toNat)::Yc a)=true;rw[Uw,cn a];rfl
def hc{σ ρ:Type}(step:σ->σ ⊕ ρ)(d:ρ):Nat->σ->ρ
 |0,_=>d
 |n+1,a=>match step a with
  | .inl b=>hc step d n b
  | .inr r=>r
theorem xf{σ ρ}{step}{d:ρ}{n}{a b:σ}(h:step a=.inl b):hc step d (n+1) a=hc step d n b:=by grind [hc]
theorem Dd{σ ρ}{step}{d r:ρ}{n}{a:σ}(h:step a=.inr r):hc step d (n+1) a=r:=by grind [hc]
theorem nH{σ ρ}{step}{d:ρ}{I:σ->Prop}{μ:σ->Nat}(h:∀a b,I a->step a=.inl b->I b/\μ b<μ a):∀(n m)(a),I a->μ a<n->μ a<m->hc step d n a=hc step d m a
 |0,_,_,_,c,_=>by omega
 |_,0,_,_,_,e=>by omega
 |n+1,m+1,a,g,c,e=>by
  cases hs:step a with
  |inl b=>
   obtain⟨i,j⟩:=h a b g hs;rw[xf hs,xf hs];exact nH h n m b i aa aa
  |inr r=>grind [Dd]
theorem up{σ ρ:Type}{step:σ->σ ⊕ ρ}{d}{I:σ->Prop}{μ:σ->Nat}{Q:ρ->Prop}(h:∀a,I a->match step a with| .inl b=>I b/\μ b<μ a| .inr r=>Q r):∀(n)(a),I a->μ a<n->Q (hc step d n a)
 |0,_,_,e=>by omega
 |n+1,a,g,e=>by
  have hs:=h a g;cases c:step a with
  |inl b=>rw[c]at hs;rw[xf c];exact up h n b hs.1 aa
  |inr r=>grind [Dd]
def Vb{σ ρ:Type}(a:σ->St)(fin:ρ->Out×St):σ ⊕ ρ->Out×St
 | .inl b=>(.normal,a b)
 | .inr r=>fin r
theorem Jn{σ ρ}{body}{live}{nb}(c)(step)(d)(fin:ρ->Out×St)(I:σ->Prop)(μ:σ->Nat)
 (hr:∀a,I a->body (c a)=some (Vb c fin (step a))) (p:∀a,I a->(c a).only live nb=c a) (i:∀a b,I a->step a=.inl b->I b/\μ b<μ a) (l:∀r,(fin r).1≠.normal) {n} (a) (g:I a) (o:μ a<n) (k:μ a<ka):
 Fc body live nb ka (c a)=some (fin (hc step d n a)):=by
 have e:=wh (body:=body) (live:=live) (nb:=nb) c I μ (fun a=>fin (hc step d (μ a+1) a)) (fun a g=>?_) (n:=ka) (a:=a) g k
 ·rw[e,nH i (μ a+1) n a g aa o]
 ·have h:=hr a g
  cases hs:step a with
  |inl b=>
   rw[hs]at h;obtain⟨j,q⟩:=i a b g hs;refine .inr ⟨c b,b,h,p b j,j,q,?_⟩;rw[xf hs,nH i (μ b+1) (μ a) b j aa aa]
  |inr r=>
   rw[hs]at h;exact .inl ⟨(fin r).1,(fin r).2,h,l r,by rw[Dd hs]⟩
def xk{p s:ba}(h:p.isPrefixOf s=true):p.length<=s.length:=(Ij.1 h).length_le
def Kw{k m:Nat}(h:k+m<9223372036854775808):IntKind.i64.wrap ((k:Int)+(m:Int))=((k+m:Nat):Int):=by grind [wrap64]
def jg{k:Nat}(h:k+1<9223372036854775808):IntKind.i64.wrap ((k:Int)+1)=((k+1:Nat):Int):=Kw (m:=1) h
theorem In{η σ ρ:Type}{body}{live}{nb}(c:η->σ->St)(step:σ->σ ⊕ ρ)(d)(Q:ρ->Out->St->Prop)(I:σ->Prop)(μ:σ->Nat)
 (hr:∀h a,I a->match step a with| .inl b=>∃g,body (c h a)=some (.normal,c g b)| .inr r=>∃o s,body (c h a)=some (o,s)/\o≠.normal/\Q r o s) (q:∀h a,I a->(c h a).only live nb=c h a) (k:∀a b,I a->step a=.inl b->I b/\μ b<μ a):
 ∀{n m}(h)(a),I a->μ a<n->μ a<m->∃o s,Fc body live nb m (c h a)=some (o,s)/\Q (hc step d n a) o s
 |n,0,h,a,j,p,l=>by omega
 |0,_,h,a,j,p,l=>by omega
 |n+1,m+1,h,a,j,p,l=>by
  have e:=hr h a j;rw[tc];cases hs:step a with
  |inl b=>
   rw[hs]at e;obtain⟨g,e⟩:=e;obtain⟨t,u⟩:=k a b j hs;rw[e,Gc,q g b t,xf hs];exact In c step d Q I μ hr q k g b t aa aa
  |inr r=>
   rw[hs]at e;obtain⟨o,s,e,u,t⟩:=e;rw[e,Dd hs];refine⟨o,s,?_,t⟩;cases o with
   |normal=>grind
   |exit i=>rfl
   |ret=>rfl
def oQ{n b}{q}(a:La n q.2=true):∀{bx},Cc n bx=true->Cc n (bx.set b q)=true:=by
 intro bx
 induction bx generalizing b with
 |nil=>simp
 |cons p l c=>
  intro h;rw[Zl,Vc]at h;cases b<;>grind [Zl]
theorem yv{n}:∀{bx a},Cc n (bx++a)=(Cc n bx&&Cc n a)
 |[],a=>by rfl
 |p::l,a=>by rw[ub,Zl,Zl,yv,Bool.and_assoc]
def Ao{bx:Ha}{b}{x q}(h:b<bx.length):(bx.set b x++[q])[b]?=some x:=by
 grind
def Bo{bx:Ha}{b}{x q}:(bx.set b x++[q])[bx.length]?=some q:=by
 simp
def Zp{bx:Ha}{b}{x y q}(h:b<bx.length):(bx.set b x++[q]).set b y=bx.set b y++[q]:=by
 grind [List.set_set]
def aq{bx:Ha}{b}{x q z}:(bx.set b x++[q]).set bx.length z=bx.set b x++[z]:=by
 simp
def Rj{bx:Ha}{b}{x q}:(bx.set b x++[q]).length=bx.length+1:=by
 simp
def fJ{bx:Ha}{b}{x q}:(bx.set b x++[q]).take bx.length=bx.set b x:=by
 simp
def I6{n}{x:Nat×Nat}{r}(h:∀q∈r,q.1<n):∀q∈(n,1)::r,q.1<n+1:=by
 grind
theorem Nr{b o m}:∀r,(∀q∈r,q.1<b)->Qc b o m (cl r)=cl r
 |[],_=>rfl
 |q::r,h=>by
  have c:=h q Mt;have d:=Nr (o:=o) (m:=m) r fun x a=>h x (po _ a)
  grind [cl,hj]
mutual
theorem S9{n m:Nat}(h:n<=m):∀v:PV,v.low n=true->v.low m=true
 | .ptr b _,k=>by grind [PV.low]
 | .Ma b,k=>by grind [PV.low]
 | .se b _ _,k=>by grind [PV.low]
 | .ha _ cs,k=>by simp only[PV.low]at k⊢;exact mp h cs k
 | .agg cs,k=>by simp only[PV.low]at k⊢;exact mp h cs k
 | .Mb cs,k=>by simp only[PV.low]at k⊢;exact mp h cs k
 | .xd cs,k=>by simp only[PV.low]at k⊢;exact mp h cs k
 | .fb _ cs,k=>by simp only[PV.low]at k⊢;exact mp h cs k
 | .lp _ _ _ _ cs,k=>by simp only[PV.low]at k⊢;exact mp h cs k
 | .flat _,_=>rfl
 | .hd,_=>rfl
theorem mp{n m:Nat}(h:n<=m):∀l:List PV,La n l=true->La m l=true
 |[],_=>rfl
 |v::l,k=>by
  simp only[La,Vc]at k⊢;exact⟨S9 h v k.1,mp h l k.2⟩
end
theorem vu{n m}(h:n<=m):∀l,Cc n l=true->Cc m l=true
 |[],_=>rfl
 |q::l,a=>by
  rw[Zl,Vc]at a⊢;exact⟨mp h _ a.1,vu h l a.2⟩
theorem Dx{n}:∀r,(∀q∈r,q.1<n)->Rh n (cl r)=cl r
 |[],_=>rfl
 |q::r,h=>by
  have b:=h q Mt;have c:=Dx (n:=n) r fun x a=>h x (po _ a)
  grind [cl,WF]
def jd{α β:Type}(f:α->Nat->β->α ⊕ (Out×St))(fin:α->Out×St):α->Nat->List β->Out×St
 |a,_,[]=>fin a
 |a,k,x::t=>match f a k x with
  | .inl a'=>jd f fin a' (k+1) t
  | .inr r=>r
def mQ{α β}{body}{live}{nb}(b:α->Nat->St)(L)(I:α->Nat->Prop)(f:α->Nat->β->α ⊕ (Out×St))(fin)
 (hr:∀a k x,I a k->k<L.length->L[k]?=some x->L.drop k=x::L.drop (k+1)->
   (∃a' s,f a k x=.inl a'/\body (b a k)=some (.normal,s)/\s.only live nb=b a' (k+1)/\I a' (k+1))\/(∃r,f a k x=.inr r/\body (b a k)=some r/\r.1≠.normal))
 (p:∀a,I a L.length->body (b a L.length)=some (fin a)/\(fin a).1≠.normal) (a) (c:I a 0) (o:L.length<ka):
 Fc body live nb ka (b a 0)=some (jd f fin a 0 L):=by
 have d:=wh (body:=body) (live:=live) (nb:=nb) (fun q:α×Nat=>b q.1 q.2) (fun q=>I q.1 q.2/\q.2<=L.length) (fun q=>L.length - q.2)
  (fun q=>jd f fin q.1 q.2 (L.drop q.2)) (fun⟨a,k⟩ c=>?_) (n:=ka) (a:=(a,0)) ⟨c,Za _⟩ aa
 ·grind
 ·dsimp only at c⊢
  obtain⟨c,t⟩:=c;by_cases ea:k<L.length
  ·have j:=qe ea
   have l:=ld ea;rcases hr a k L[k] c ea j l with⟨a',s,h,e,g,i⟩|⟨r,h,e,g⟩
   ·right
    exact⟨s,(a',k+1),e,g,⟨i,ea⟩,aa,by grind [jd.eq_2]⟩
   grind [jd.eq_2]
  grind [jd.eq_1]
def Nf{α β:Type}{body}{live}{nb}(b:α->Nat->St)(L)(I:α->Nat->Prop)(f:α->Nat->β->α ⊕ (Out×St))(fin)
 (hr:∀a k x,I a k->k<L.length->L[k]?=some x->L.drop k=x::L.drop (k+1)->body (b a k)=match f a k x with| .inl a'=>some (.normal,b a' (k+1))| .inr r=>some r)
 (o:∀a k,(b a k).only live nb=b a k) (i:∀a k x a',I a k->k<L.length->L[k]?=some x->f a k x=.inl a'->I a' (k+1)) (n:∀a k x r,f a k x=.inr r->r.1≠.normal)
 (g:∀a,I a L.length->body (b a L.length)=some (fin a)) (h:∀a,(fin a).1≠.normal) (a) (e:I a 0) (d:L.length<ka):
 Fc body live nb ka (b a 0)=some (jd f fin a 0 L):=
 mQ b L I f fin (fun a k x c l p j=>by
  grind) (fun a c=>⟨g a c,h a⟩) a e d
theorem Gt{β}{p:β->Bool}{r}{fin}:∀(L)(k),jd (fun(_:Unit) _ x=>if p x then .inl ()else .inr r) fin () k L=if L.all p then fin ()else r
 |[],k=>rfl
 |x::t,k=>by
  rw[jd,Mm];cases a:p x with
  |true=>rw[if_pos rfl,pc];exact Gt t _
  |false=>rfl
def gT(s w:ba)(k)(h:w.length<=s.length - k)(a:k<=s.length):decide ((s.take (k+w.length)).drop k=w)=w.isPrefixOf (s.drop k):=by
 grind [List.prefix_iff_eq_take]
def J9(s w:ba)(h:¬w.length<=s.length):w.isPrefixOf s=false:=by
 grind
def Zb(c:UInt8):ba->Option Nat
 |[]=>none
 |x::l=>if x=c then some 0 else(Zb c l).map (·+1)
theorem Dr{c}:∀{l}{i},Zb c l=some i->i<l.length
 |[],i,h=>by cases h
 |x::l,i,h=>by
  simp only[Zb]at h;split at h
  ·grind
  ·obtain⟨j,a,rfl⟩:=qm h
   have:=Dr a
   grind
def Cf(lib:Callee):Prop:=∀(s:ba)(c:UInt8),s.length<=1000000000->lib 96 [.flat (.string (S s)),.flat (.int .u8 c.toNat)] [] []=some ([.flat (.int .i64 (match Zb c s with|some i=>(i:Int)|none=>-1))],false,[],[])
def dl(H:Cf lib)(s)(c)(h:s.length<=1000000000):fa code lib 96 [.flat (.string (S s)),.flat (.int .u8 c.toNat)] [] []=some ([.flat (.int .i64 (match Zb c s with|some i=>(i:Int)|none=>-1))],false,[],[]):=
 Ud ga ja (H s c h)
def ua(l:List ba):List PV:=l.map fun x=>.flat (.string (S x))
def bc{l}:(ua l).length=l.length:=by simp[ua]
theorem Al{a b}:ua a++ua b=ua (a++b):=by simp[ua]
theorem Xe:∀a,Ad (ua a)=true
 |[]=>rfl
 |c::a=>by show Ad (.flat (.string (S c))::ua a)=true;rw[Ev,Xe a];rfl
theorem yf{n}:∀a,La n (ua a)=true
 |[]=>rfl
 |c::a=>by show La n (.flat (.string (S c))::ua a)=true;simp only[La,PV.low,yf a,pc]
def sd(lib:Callee):Prop:=∀s p:ba,s.length<=1000000000->p.length<=1000000000->lib 80 [.flat (.string (S s)),.flat (.string (S p))] [] []=some ([.flat (.bool (p.isPrefixOf s))],false,[],[])
def Wa(s w:ba)(k:Nat):Bool:=decide (k<=s.length)&&w.isPrefixOf (s.drop k)
theorem Od:∀a,gc (ua a)=true
 |[]=>rfl
 |c::a=>by show gc (.flat (.string (S c))::ua a)=true;simp only[gc,PV.pl,Od a,pc]
theorem Gh{s w}{k}(a:k<=s.length):Wa s w k=w.isPrefixOf (s.drop k):=by grind [Wa]
theorem pu(c):∀s,(Zb c s).isSome=s.contains c
 |[]=>rfl
 |x::l=>by
  have:=pu c l
  grind [Zb]
def XO{a b:Int}(h:a<b):(a<b)=True:=eq_true h
def TO{a b:Int}(h:b<=a):(a<b)=False:=eq_false aa
def SO{a b:Int}(h:a<=b):(a<=b)=True:=eq_true h
def OO{a b:Int}(h:b<a):(a<=b)=False:=eq_false aa
def NO{a b:Int}(h:a=b):(a=b)=True:=eq_true h
def JO{a b:Int}(h:a<b\/b<a):(a=b)=False:=eq_false aa
def UQ{a b:Nat}(h:a<b):(a<b)=True:=eq_true h
def TQ{a b:Nat}(h:b<=a):(a<b)=False:=eq_false aa
def SQ{a b:Nat}(h:a<=b):(a<=b)=True:=eq_true h
def RQ{a b:Nat}(h:b<a):(a<=b)=False:=eq_false aa
def OQ{a b:Nat}(h:a=b):(a=b)=True:=eq_true h
def NQ{a b:Nat}(h:a<b\/b<a):(a=b)=False:=eq_false aa
def sU{x}(a:-9223372036854775808<=x)(b:x<9223372036854775808):IntKind.i64.wrap x=x:=wrap64 ⟨a,b⟩
def tU{x}(a:0<=x)(b:x<256):IntKind.u8.wrap x=x:=Mj ⟨a,b⟩
def rU{x}(a:-2147483648<=x)(b:x<2147483648):IntKind.i32.wrap x=x:=wrap32 ⟨a,b⟩
def yA(a b:UInt8):(a=b)=(a.toNat=b.toNat):=by rw[Yb]
def VT(k m:Nat):((k:Int)+(m:Int)).toNat=k+m:=aa
def QT(k:Nat):((k:Int)+1).toNat=k+1:=aa
def TT(k:Nat):((k:Int)+2).toNat=k+2:=aa
def UT(k:Nat):((k:Int)+3).toNat=k+3:=aa
def QO{n m:Nat}:((n:Int)<=(no_index (@OfNat.ofNat Int m instOfNat)))=(n<=@OfNat.ofNat Nat m (instOfNatNat m)):=propext Kk
def PO{n m:Nat}:((no_index (@OfNat.ofNat Int m instOfNat))<=(n:Int))=(@OfNat.ofNat Nat m (instOfNatNat m)<=n):=propext Kk
def VO{n m:Nat}:((n:Int)<(no_index (@OfNat.ofNat Int m instOfNat)))=(n<@OfNat.ofNat Nat m (instOfNatNat m)):=propext Int.ofNat_lt
def UO{n m:Nat}:((no_index (@OfNat.ofNat Int m instOfNat))<(n:Int))=(@OfNat.ofNat Nat m (instOfNatNat m)<n):=propext Int.ofNat_lt
def LO{n m:Nat}:((n:Int)=(no_index (@OfNat.ofNat Int m instOfNat)))=(n=@OfNat.ofNat Nat m (instOfNatNat m)):=propext Kt
def KO{n m:Nat}:((no_index (@OfNat.ofNat Int m instOfNat))=(n:Int))=(@OfNat.ofNat Nat m (instOfNatNat m)=n):=propext Kt
def RO{n m:Nat}:((n:Int)<=(m:Int))=(n<=m):=propext Kk
def WO{n m:Nat}:((n:Int)<(m:Int))=(n<m):=propext Int.ofNat_lt
def MO{n m:Nat}:((n:Int)=(m:Int))=(n=m):=propext Kt
end wa
namespace Go.Proofs.YtglaihdcndcmkaaGreatDoor
def au:(((((type_of% @QO)/\((type_of% @PO)/\(type_of% @VO)))/\(((type_of% @UO)/\(type_of% @LO))/\((type_of% @KO)/\(type_of% @RO))))/\((((type_of% @WO)/\(type_of% @MO))/\((type_of% @XO)/\(type_of% @TO)))/\(((type_of% @SO)/\(type_of% @OO))/\((type_of% @NO)/\(type_of% @JO)))))/\(((((type_of% @UQ)/\(type_of% @TQ))/\((type_of% @SQ)/\(type_of% @RQ)))/\(((type_of% @OQ)/\(type_of% @NQ))/\((type_of% @sU)/\(type_of% @tU))))/\((((type_of% @rU)/\(type_of% @Na))/\((type_of% @Xc)/\(type_of% @Tg)))/\(((type_of% @Zi)/\(type_of% @xo))/\((type_of% @Ge)/\(type_of% @Kg))))))/\(((((type_of% @decide_eq_true_eq)/\((type_of% @decide_eq_false_iff_not)/\(type_of% @cc)))/\(((type_of% @VT)/\(type_of% @QT))/\((type_of% @TT)/\(type_of% @UT))))/\((((type_of% @xb)/\(type_of% @cb))/\((type_of% @wb)/\(type_of% @pb)))/\(((type_of% @Bb)/\(type_of% @db))/\((type_of% @Hf)/\(type_of% @mn)))))/\(((((type_of% @ic)/\(type_of% @Bc.{0}))/\((type_of% @Eh.{0})/\(type_of% @jo.{0})))/\(((type_of% @sf.{0})/\(type_of% @Ip))/\((type_of% @lr)/\(type_of% @Pm))))/\((((type_of% @Ch)/\(type_of% @Bool.cond_true.{0}))/\((type_of% @Bool.cond_false.{0})/\(type_of% @Wi)))/\(((type_of% @Xi)/\(type_of% @n0))/\((type_of% @n1)/\(type_of% @n2)))))):=
 ⟨⟨⟨⟨⟨@QO,⟨@PO,@VO⟩⟩,⟨⟨@UO,@LO⟩,⟨@KO,@RO⟩⟩⟩,⟨⟨⟨@WO,@MO⟩,⟨@XO,@TO⟩⟩,⟨⟨@SO,@OO⟩,⟨@NO,@JO⟩⟩⟩⟩,⟨⟨⟨⟨@UQ,@TQ⟩,⟨@SQ,@RQ⟩⟩,⟨⟨@OQ,@NQ⟩,⟨@sU,@tU⟩⟩⟩,⟨⟨⟨@rU,@Na⟩,⟨@Xc,@Tg⟩⟩,⟨⟨@Zi,@xo⟩,⟨@Ge,@Kg⟩⟩⟩⟩⟩,⟨⟨⟨⟨@decide_eq_true_eq,⟨@decide_eq_false_iff_not,@cc⟩⟩,⟨⟨@VT,@QT⟩,⟨@TT,@UT⟩⟩⟩,⟨⟨⟨@xb,@cb⟩,⟨@wb,@pb⟩⟩,⟨⟨@Bb,@db⟩,⟨@Hf,@mn⟩⟩⟩⟩,⟨⟨⟨⟨@ic,@Bc.{0}⟩,⟨@Eh.{0},@jo.{0}⟩⟩,⟨⟨@sf.{0},@Ip⟩,⟨@lr,@Pm⟩⟩⟩,⟨⟨⟨@Ch,@Bool.cond_true.{0}⟩,⟨@Bool.cond_false.{0},@Wi⟩⟩,⟨⟨@Xi,@n0⟩,⟨@n1,@n2⟩⟩⟩⟩⟩⟩
def ta{q:Prop}(h:q:=by simp(maxSteps:=999999) (disch:=first|assumption|omega) only[go_sem,simprocAttr,au, *]):q:=h
def va{a q:Prop}(b:a)(h:a->q:=by intros;simp(maxSteps:=999999) (disch:=first|assumption|omega) only[go_sem,simprocAttr,au, *]):q:=h b
def Rc{a b q:Prop}(c:a)(d:b)(h:a->b->q:=by intros;simp(maxSteps:=999999) (disch:=first|assumption|omega) only[go_sem,simprocAttr,au, *]):q:=h c d
def Zf{a b c q:Prop}(d:a)(e:b)(g:c)(h:a->b->c->q:=by intros;simp(maxSteps:=999999) (disch:=first|assumption|omega) only[go_sem,simprocAttr,au, *]):q:=h d e g
def me{a b c d q:Prop}(e:a)(g:b)(i:c)(j:d)(h:a->b->c->d->q:=by intros;simp(maxSteps:=999999) (disch:=first|assumption|omega) only[go_sem,simprocAttr,au, *]):q:=h e g i j
def Zk{a b c d e q:Prop}(g:a)(i:b)(j:c)(k:d)(l:e)(h:a->b->c->d->e->q:=by intros;simp(maxSteps:=999999) (disch:=first|assumption|omega) only[go_sem,simprocAttr,au, *]):q:=h g i j k l
def Bn{a b c d e g q:Prop}(i:a)(j:b)(k:c)(l:d)(n:e)(o:g)(h:a->b->c->d->e->g->q:=by intros;simp(maxSteps:=999999) (disch:=first|assumption|omega) only[go_sem,simprocAttr,au, *]):q:=h i j k l n o
def yD{a b c d e g i q:Prop}(j:a)(k:b)(l:c)(n:d)(o:e)(p:g)(r:i)(h:a->b->c->d->e->g->i->q:=by intros;simp(maxSteps:=999999) (disch:=first|assumption|omega) only[go_sem,simprocAttr,au, *]):q:=h j k l n o p r
def Cn{a b c d e g i j q:Prop}(k:a)(l:b)(n:c)(o:d)(p:e)(r:g)(t:i)(u:j)(h:a->b->c->d->e->g->i->j->q:=by intros;simp(maxSteps:=999999) (disch:=first|assumption|omega) only[go_sem,simprocAttr,au, *]):q:=h k l n o p r t u
def Xu{a b c d e g i j k q:Prop}(l:a)(n:b)(o:c)(p:d)(r:e)(t:g)(u:i)(v:j)(w:k)(h:a->b->c->d->e->g->i->j->k->q:=by intros;simp(maxSteps:=999999) (disch:=first|assumption|omega) only[go_sem,simprocAttr,au, *]):q:=h l n o p r t u v w
def dk{e g i j k l n o p r a b q:Prop}(t:e)(u:g)(v:i)(w:j)(x:k)(y:l)(z:n)(A:o)(B:p)(C:r)(c:a)(d:b)(h:e->g->i->j->k->l->n->o->p->r->a->b->q:=by intros;simp(maxSteps:=999999) (disch:=first|assumption|omega) only[go_sem,simprocAttr,au, *]):q:=h t u v w x y z A B C c d
def ng{code}{lib}{f}{nt}{yb}{body}{Qi}(a:code f=some ⟨nt,yb,body,Qi⟩){args}{bx}{oc}{r}(b:args.length<=nt:=by exact qa rfl)
 (h:Ly yb bx (pa (fa code lib) ka body ⟨ag 0 args,oc,[],bx⟩)=some r:=by simp(maxSteps:=999999) (disch:=first|assumption|omega) only[go_sem,simprocAttr,au, *]):fa code lib f args bx oc=some r:=ma a b h
end Go.Proofs.YtglaihdcndcmkaaGreatDoor
