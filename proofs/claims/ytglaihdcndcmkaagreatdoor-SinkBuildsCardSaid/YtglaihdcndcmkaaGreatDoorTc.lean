/- Texts of this proof, merged. -/
import Derived.Test.YtglaihdcndcmkaaGreatDoorTb
import Derived.Test.YtglaihdcndcmkaaGreatDoorProg
import Derived.KernelRfl
set_option linter.all false
open Go ya
set_option maxHeartbeats 4000000
namespace ya
section
variable {cf:Callee} {n:Nat} {st:St} {sl:List (Nat × PV)} {ow:List Loc} {al:List (Nat × Loc)} {bx:Na} {d:Nat} {live:List Nat}
theorem look_nil{i}:look [] i=.Ad:=rfl
theorem NS{j i}{v}:look ((j,v)::sl) i=if j=i then v else look sl i:=rfl
def Ql(sl:List (Nat×PV)):List Nat->List (Nat×PV)
 |[]=>[]
 |i::r=>(i,look sl i)::Ql sl r
theorem v_:Ql sl []=[]:=rfl
theorem hH{i}{r}:Ql sl (i::r)=(i,look sl i)::Ql sl r:=rfl
theorem KS:∀l,Ql sl l=l.map fun i=>(i,look sl i)
 |[]=>rfl
 |i::r=>by rw[hH,KS r];rfl
def owns:List Loc->Loc->Bool
 |[],_=>false
 | .slot i::r,.slot j=>if i=j then true else owns r (.slot j)
 | .cell b o::r,.cell a c=>if b=a/\o=c then true else owns r (.cell a c)
 |_::r,L=>owns r L
theorem nk:∀{l}{L},owns l L=true ↔ L∈l
 |[],L=>by simp[owns]
 | .slot i::r,.slot j=>by
   simp only[owns,wb,Loc.slot.injEq];by_cases h:i=j
   ·simp[h]
   ·simp only[h,if_false];rw[nk];grind
 | .cell b o::r,.cell a c=>by
   simp only[owns,wb,Loc.cell.injEq];by_cases h:b=a/\o=c
   ·simp[h]
   ·rw[if_neg h,nk]
    grind
 | .slot i::r,.cell b o=>by simp only[owns,wb,reduceCtorEq,false_or];exact nk
 | .cell b o::r,.slot i=>by simp only[owns,wb,reduceCtorEq,false_or];exact nk
theorem zbs{L}:owns [] L=false:=pa
theorem zbu{i j}{r}:owns (.slot i::r) (.slot j)=if i=j then true else owns r (.slot j):=rfl
theorem kU{b o a c}{r}:owns (.cell b o::r) (.cell a c)=if b=a/\o=c then true else owns r (.cell a c):=rfl
theorem zbt{i b o}{r}:owns (.slot i::r) (.cell b o)=owns r (.cell b o):=rfl
theorem lU{i b o}{r}:owns (.cell b o::r) (.slot i)=owns r (.slot i):=rfl
theorem d3:Va d []=[]:=rfl
theorem f3{i}{r}:Va d (.slot i::r)=if i=d then Va d r else .slot i::Va d r:=by
 grind [Va,Xd]
theorem RP{b o}{r}:Va d (.cell b o::r)=.cell b o::Va d r:=pa
theorem M2:Lb d []=[]:=rfl
theorem N2{t i}{r}:Lb d ((t,.slot i)::r)=if t=d then Lb d r else if i=d then Lb d r else(t,.slot i)::Lb d r:=by
 grind [Lb,Xd]
theorem L2{t b o}{r}:Lb d ((t,.cell b o)::r)=if t=d then Lb d r else(t,.cell b o)::Lb d r:=by
 grind [Lb,Xd]
def ft(ow:List Loc):List Nat->List Loc
 |[]=>[]
 |i::r=>if owns ow (.slot i)then .slot i::ft ow r else ft ow r
def u9{i}{r}:ft ow (i::r)=if owns ow (.slot i)then .slot i::ft ow r else ft ow r:=rfl
theorem H6:Ec .Ad=false:=rfl
theorem D6{m}{cs}:Ec (.ga m cs)=false:=rfl
theorem r6{cs}:Ec (.agg cs)=false:=rfl
theorem G6{cs}:Ec (.Jc cs)=false:=rfl
theorem C6{b o}:Ec (.ptr b o)=false:=rfl
theorem v6{cs}:Ec (.xd cs)=false:=rfl
theorem u6{f}{cs}:Ec (.cb f cs)=false:=rfl
theorem F6{f}{cs}:Ec (.tag f cs)=false:=rfl
theorem I6{b}:Ec (.Oa b)=false:=rfl
theorem t6{b o m}:Ec (.we b o m)=false:=rfl
theorem x6{f k}{s}{cs}:Ec (.lp f k s live cs)=false:=rfl
theorem w6{k}{m}:Ec (.flat (.int k m))=false:=rfl
theorem E6{z}:Ec (.flat (.string z))=false:=rfl
theorem s6{b}:Ec (.flat (.bool b))=false:=rfl
theorem B6{a}:Ec (.flat (.pointer a))=false:=rfl
theorem y6:Ec (.flat .nilFunc)=false:=rfl
theorem z6:Ec (.flat .nilIface)=false:=rfl
theorem A6:Ec (.flat (.slice none 0 0))=true:=rfl
theorem zh7:wk .Ad=.Ad:=rfl
theorem zh3{m}{cs}:wk (.ga m cs)=.ga m cs:=rfl
theorem zhR{cs}:wk (.agg cs)=.agg cs:=rfl
theorem zh6{cs}:wk (.Jc cs)=.Jc cs:=rfl
theorem zh2{b o}:wk (.ptr b o)=.ptr b o:=rfl
theorem zhV{cs}:wk (.xd cs)=.xd cs:=rfl
theorem zhU{f}{cs}:wk (.cb f cs)=.cb f cs:=rfl
theorem zh5{f}{cs}:wk (.tag f cs)=.tag f cs:=rfl
theorem zh8{b}:wk (.Oa b)=.Oa b:=rfl
theorem zhT{b o m}:wk (.we b o m)=.we b o m:=rfl
theorem zhX{f k}{s}{cs}:wk (.lp f k s live cs)=.lp f k s live cs:=rfl
theorem zhW{k}{m}:wk (.flat (.int k m))=.flat (.int k m):=rfl
theorem zh4{z}:wk (.flat (.string z))=.flat (.string z):=rfl
theorem zhS{b}:wk (.flat (.bool b))=.flat (.bool b):=rfl
theorem zh1{a}:wk (.flat (.pointer a))=.flat (.pointer a):=rfl
theorem zhY:wk (.flat .nilFunc)=.flat .nilFunc:=rfl
theorem zhZ:wk (.flat .nilIface)=.flat .nilIface:=rfl
theorem zh0:wk (.flat (.slice none 0 0))=.ga 0 []:=rfl
theorem zhN:PV.ib .Ad=.Ad:=rfl
theorem zhI{v}:PV.ib (.flat v)=wk (.flat v):=rfl
theorem zhK{m}{cs}:PV.ib (.ga m cs)=.ga m cs:=rfl
theorem zhE{cs}:PV.ib (.agg cs)=.agg (Dd cs):=rfl
theorem zhM{cs}:PV.ib (.Jc cs)=.Jc cs:=rfl
theorem zhJ{b o}:PV.ib (.ptr b o)=.ptr b o:=rfl
theorem zhH{cs}:PV.ib (.xd cs)=.xd cs:=rfl
theorem zhG{f}{cs}:PV.ib (.cb f cs)=.cb f cs:=rfl
theorem zhL{f}{cs}:PV.ib (.tag f cs)=.tag f cs:=rfl
theorem zhO{b}:PV.ib (.Oa b)=.Oa b:=rfl
theorem zhF{b o m}:PV.ib (.we b o m)=.we b o m:=rfl
theorem zhQ:Dd []=[]:=rfl
theorem zhP{p}{r}:Dd (p::r)=wk p::Dd r:=rfl
theorem zan{b o}:gd b o []=[]:=rfl
theorem zam{b o}{p}{r}:gd b o (p::r)=if Ec p then .cell b o::gd b (o+1) r else gd b (o+1) r:=rfl
theorem zaq:Xl []=true:=rfl
theorem zap{p}{r}:Xl (p::r)=(!Ec p&&Xl r):=rfl
theorem R6{m}{cs}:gh (.ga m cs)=false:=rfl
theorem J6{cs}:gh (.agg cs)=false:=rfl
theorem Q6{b o}:gh (.ptr b o)=false:=rfl
theorem M6{cs}:gh (.xd cs)=false:=rfl
theorem L6{f}{cs}:gh (.cb f cs)=false:=rfl
theorem T6{f}{cs}:gh (.tag f cs)=false:=rfl
theorem S6{z}:gh (.flat (.string z))=false:=rfl
theorem K6{b}:gh (.flat (.bool b))=false:=rfl
theorem P6{a}:gh (.flat (.pointer a))=false:=rfl
theorem X6{m}:gh (.flat (.int .u8 m))=true:=rfl
theorem N6{m}:gh (.flat (.int .i32 m))=false:=rfl
theorem O6{m}:gh (.flat (.int .i64 m))=false:=rfl
theorem V6{m}:gh (.flat (.int .u32 m))=false:=rfl
theorem U6{m}:gh (.flat (.int .u16 m))=false:=rfl
theorem W6{m}:gh (.flat (.int .u64 m))=false:=rfl
theorem zas:td []=true:=rfl
theorem ew{p}{r}:td (p::r)=(!gh p&&td r):=rfl
theorem zar{cs a}:td (cs++a)=(td cs&&td a):=by
 induction cs with
 |nil=>rfl
 |cons p r b=>grind [ew]
theorem CX:pg []=true:=rfl
theorem Qx{p}{r}:pg (p::r)=(gh p&&pg r):=rfl
theorem zX{cs a}:pg (cs++a)=(pg cs&&pg a):=by
 induction cs with
 |nil=>rfl
 |cons p r b=>grind [Qx]
theorem AX{z}:pg (ii z)=true:=by
 unfold ii
 induction z.data.toList with
 |nil=>rfl
 |cons c l a=>rw[Xb,Qx,a];rfl
theorem zhm{m}{cs a}:jm true m cs a=pg cs:=rfl
theorem zhl{m}{cs a}:jm false m cs a=if m=1 then td cs&&td a else true:=by
 grind [jm]
def lookW(sl:List (Nat×PV)):List Nat->List (Nat×PV)
 |[]=>[]
 |i::r=>(i,wk (look sl i))::lookW sl r
theorem w_:lookW sl []=[]:=rfl
theorem LS{i}{r}:lookW sl (i::r)=(i,wk (look sl i))::lookW sl r:=rfl
theorem Sz:∀l,lookW sl l=l.map fun i=>(i,look (sl.map fun q=>(q.1,wk q.2)) i)
 |[]=>rfl
 |i::r=>by rw[LS,Sz r,Xb,Wv]
def Ol(sl:List (Nat×PV))(ow:List Loc):List Nat->List Loc
 |[]=>[]
 |i::r=>if Ec (look sl i)then .slot i::Ol sl ow r else if owns ow (.slot i)then .slot i::Ol sl ow r else Ol sl ow r
theorem w9:Ol sl ow []=[]:=rfl
theorem lS{i}{r}:Ol sl ow (i::r)=if Ec (look sl i)then .slot i::Ol sl ow r else if owns ow (.slot i)then .slot i::Ol sl ow r else Ol sl ow r:=rfl
theorem WG(L:List Nat):∀l,(∀i∈l,i∈L)->Ol sl ow l=(l.filter fun i=>decide (.slot i∈(L.filter fun i=>Ec (look sl i)).map .slot++ow)).map .slot
 |[],_=>rfl
 |i::r,h=>by
  rw[lS,WG L r (fun j a=>h j (by simp[a])),List.filter_cons]
  grind [nk]
def Rf:List Loc->List Loc
 |[]=>[]
 | .slot _::r=>Rf r
 | .cell b o::r=>.cell b o::Rf r
theorem kZ:Rf []=[]:=rfl
theorem uy{i}{r}:Rf (.slot i::r)=Rf r:=rfl
theorem sy{b o}{r}:Rf (.cell b o::r)=.cell b o::Rf r:=rfl
theorem Hs:∀l,l.filter Ba=Rf l
 |[]=>rfl
 | .slot i::r=>by rw[List.filter_cons_of_neg (by simp[Ba]),Hs r];rfl
 | .cell b o::r=>by rw[List.filter_cons_of_pos rfl,Hs r];rfl
def Ui:List Loc->List Loc
 |[]=>[]
 | .slot i::r=>.slot i::Ui r
 | .cell _ _::r=>Ui r
theorem zee:Ui []=[]:=rfl
theorem UI{i}{r}:Ui (.slot i::r)=.slot i::Ui r:=rfl
theorem VA{b o}{r}:Ui (.cell b o::r)=Ui r:=rfl
theorem TI:∀l,(l.filter fun L=>!Ba L)=Ui l
 |[]=>rfl
 | .slot i::r=>by rw[List.filter_cons_of_pos rfl,TI r];rfl
 | .cell b o::r=>by rw[List.filter_cons_of_neg (by simp[Ba]),TI r];rfl
theorem SI:∀{l m},Ui (l++m)=Ui l++Ui m
 |[],m=>rfl
 | .slot i::r,m=>by rw[Fa,UI,UI,SI];rfl
 | .cell b o::r,m=>by rw[Fa,VA,VA,SI]
theorem ry:∀{l m},Rf (l++m)=Rf l++Rf m
 |[],m=>rfl
 | .slot i::r,m=>by rw[Fa,uy,uy,ry]
 | .cell b o::r,m=>by rw[Fa,sy,sy,ry];rfl
def sc(nb:Nat):List Loc->List Loc
 |[]=>[]
 | .slot _::r=>sc nb r
 | .cell b o::r=>if b<nb then .cell b o::sc nb r else sc nb r
theorem zhq{nb}:sc nb []=[]:=rfl
theorem Zt{nb i}{r}:sc nb (.slot i::r)=sc nb r:=rfl
theorem xl{nb b o}{r}:sc nb (.cell b o::r)=if b<nb then .cell b o::sc nb r else sc nb r:=rfl
theorem Yt{nb}:∀l,Th nb l=sc nb l
 |[]=>rfl
 | .slot i::r=>by rw[Zt,<-Yt r];rfl
 | .cell b o::r=>by
   rw[xl,<-Yt r]
   grind [Th]
theorem zcQ{v}:St.put ⟨sl,ow,al,bx⟩ d v=⟨(d,v)::sl,Va d ow,Lb d al,bx⟩:=rfl
theorem zcO{v}:St.Ic ⟨sl,ow,al,bx⟩ d v=⟨(d,v)::sl,.slot d::Va d ow,Lb d al,bx⟩:=rfl
theorem zcL{v}:St.Pd st none v=st:=rfl
theorem zcM{v}:St.Pd st (some d) v=st.put d v:=rfl
theorem pO:∀l:List Nat,Rf (l.map .slot)=[]
 |[]=>rfl
 |i::r=>by rw[Xb,uy,pO r]
theorem x9:St.Gf ⟨sl,ow,al,bx⟩ live=⟨lookW sl live,Ol sl ow live++Rf ow,[],bx⟩:=by
 unfold St.Gf;simp only[St.sr,St.ik];rw[Sz,WG live live (fun _ h=>h),Hs,ry,pO,Ma];rfl
def Xi:List (Nat×PV)->List PV
 |[]=>[]
 |(_,v)::r=>v::Xi r
theorem zhx:Xi []=[]:=rfl
theorem uJ{i}{v}{r}:Xi ((i,v)::r)=v::Xi r:=rfl
theorem kB:∀l,l.map (·.2)=Xi l
 |[]=>rfl
 |(i,v)::r=>by rw[uJ,<-kB r];rfl
def Xw(nb:Nat)(bx:Na)(b:Bool):Na:=if b then bx.take nb else bx
def nf(nb:Nat):Na->Bool
 |[]=>true
 |q::r=>Ia nb q.2&&nf nb r
theorem Lu{nb}:nf nb []=true:=rfl
theorem Hm{nb}{q}{r:Na}:nf nb (q::r)=(Ia nb q.2&&nf nb r):=rfl
theorem WK{nb}:∀l,(l.all fun q=>Ia nb q.2)=nf nb l
 |[]=>rfl
 |q::r=>by rw[Ck,WK r];rfl
theorem xW{nb}{vs}:trim nb vs bx=if bx.length=nb then bx else Xw nb bx (Ia nb vs&&nf nb (bx.take nb)):=by
 unfold trim Xw;rw[WK]
theorem zhc{nb}:Xw nb bx true=bx.take nb:=rfl
theorem zhb{nb}:Xw nb bx false=bx:=rfl
def OD(st:St)(nb:Nat)(bx':Na):St:=⟨st.sl,if bx'.length=st.bx.length then st.ow else st.ow.filter (fun| .slot _=>true| .cell b _=>decide (b<bx'.length)),[],bx'⟩
theorem U1{nb}:St.Ei ⟨sl,ow,al,bx⟩ nb=if bx.length=nb then⟨sl,ow,[],bx⟩else OD ⟨sl,ow,al,bx⟩ nb (Xw nb bx (Ia nb (Xi sl)&&nf nb (bx.take nb))):=by
 unfold St.Ei;simp only[xW,kB];split
 ·simp
 ·rfl
def Xk(nb:Nat):List Loc->List Loc
 |[]=>[]
 | .slot i::r=>.slot i::Xk nb r
 | .cell b o::r=>if b<nb then .cell b o::Xk nb r else Xk nb r
theorem A_{nb}:Xk nb []=[]:=rfl
theorem US{nb i}{r}:Xk nb (.slot i::r)=.slot i::Xk nb r:=rfl
theorem kH{nb b o}{r}:Xk nb (.cell b o::r)=if b<nb then .cell b o::Xk nb r else Xk nb r:=rfl
theorem lH{nb}:∀l,(l.filter (fun| .slot _=>true| .cell b _=>decide (b<nb)))=Xk nb l
 |[]=>rfl
 | .slot i::r=>by rw[US,<-lH r];simp
 | .cell b o::r=>by
   rw[kH,<-lH r]
   grind
theorem V1{nb}{bx'}:OD ⟨sl,ow,al,bx⟩ nb bx'=⟨sl,if bx'.length=bx.length then ow else Xk bx'.length ow,[],bx'⟩:=by
 grind [OD,lH]
theorem nJ{nb}:∀{l m},sc nb (l++m)=sc nb l++sc nb m
 |[],m=>rfl
 | .slot i::r,m=>by rw[Fa,Zt,Zt,nJ]
 | .cell b o::r,m=>by
   rw[Fa,xl,xl,nJ]
   grind
theorem DW{nb}:∀l:List Nat,sc nb (l.map .slot)=[]
 |[]=>rfl
 |i::r=>by rw[Xb,Zt,DW r]
theorem zaX{nb}:St.only ⟨sl,ow,al,bx⟩ live nb=⟨lookW sl live,Ol sl ow live++sc (trim nb (Xi (lookW sl live)) bx).length ow,[],trim nb (Xi (lookW sl live)) bx⟩:=by
 have a:live.map (look (sl.map fun q=>(q.1,wk q.2)))=Xi (lookW sl live):=by
  rw[<-kB,Sz,List.map_map];rfl
 have c:∀(m:Nat)(l:List Loc),(l.filter (fun| .slot _=>false| .cell b _=>decide (b<m)))=sc m l:=fun m l=>by rw[<-Yt];rfl
 show(⟨live.map fun i=>(i,look (sl.map fun q:Nat×PV=>(q.1,wk q.2)) i),(live.filter fun i=>decide (Loc.slot i∈(live.filter fun i=>Ec (look sl i)).map Loc.slot++ow)).map Loc.slot++(((live.filter fun i=>Ec (look sl i)).map Loc.slot++ow).filter (fun| .slot _=>false| .cell b _=>decide (b<(trim nb (live.map (look (sl.map fun q:Nat×PV=>(q.1,wk q.2)))) bx).length))),[],trim nb (live.map (look (sl.map fun q:Nat×PV=>(q.1,wk q.2)))) bx⟩:St)=_;rw[a,c,nJ,DW,Ma,WG live live (fun _ h=>h),<-Sz]
theorem Z3{i}:X.ev sl (.t i)=look sl i:=rfl
theorem Y3{v}:X.ev sl (.c v)=v:=rfl
def Zq(sl:List (Nat×PV)):List X->List PV
 |[]=>[]
 |x::r=>x.ev sl::Zq sl r
theorem P3:Zq sl []=[]:=rfl
theorem hQ{x}{r}:Zq sl (x::r)=x.ev sl::Zq sl r:=rfl
theorem iE:∀l,l.map (·.ev sl)=Zq sl l
 |[]=>rfl
 |x::r=>by rw[hQ,<-iE r];rfl
def Il(sl:List (Nat×PV)):List X->List PV
 |[]=>[]
 |x::r=>(x.ev sl).ib::Il sl r
theorem M3:Il sl []=[]:=rfl
theorem gQ{x}{r}:Il sl (x::r)=(x.ev sl).ib::Il sl r:=rfl
theorem Yq:∀l,(l.map fun x=>(x.ev sl).ib)=Il sl l
 |[]=>rfl
 |x::r=>by rw[gQ,<-Yq r];rfl
def Qn(sl:List (Nat×PV)):List (Nat×Nat×X)->List (Nat×Nat×PV)
 |[]=>[]
 |(o,m,x)::r=>(o,m,x.ev sl)::Qn sl r
theorem S3:Qn sl []=[]:=rfl
theorem mQ{o m}{x}{r}:Qn sl ((o,m,x)::r)=(o,m,x.ev sl)::Qn sl r:=rfl
theorem lE:∀l,(l.map fun q=>(q.1,q.2.1,q.2.2.ev sl))=Qn sl l
 |[]=>rfl
 |(o,m,x)::r=>by rw[mQ,<-lE r];rfl
def Ml(st:St)(d:Nat):Option PV->Option St
 |some v=>some (st.put d v)
 |none=>none
theorem F8{v}:Ml st d (some v)=some (st.put d v):=rfl
theorem ih{x}:x.map (st.Pd (some d))=Ml st d x:=by cases x<;>rfl
def Xv{x}:x.map (st.put d)=Ml st d x:=by cases x<;>rfl
theorem zeN{x}:ma cf st (some d) (.mv x)=some (st.put d (x.ev st.sl)):=rfl
theorem zeO{s}:ma cf ⟨sl,ow,al,bx⟩ (some d) (.mvA s)=if s=d then none else some ⟨(d,look sl s)::sl,Va d ow,(d,.slot s)::Lb d al,bx⟩:=rfl
theorem zek{s}:ma cf ⟨sl,ow,al,bx⟩ (some d) (.asg (.t s))=if s=d then none else if owns ow (.slot s)then some ⟨(d,look sl s)::sl,.slot d::Va s (Va d ow),Lb s (Lb d al),bx⟩else some ⟨(d,look sl s)::sl,Va d ow,Lb d al,bx⟩:=by
 simp only[ma,nk];rfl
theorem zem{v}:ma cf st (some d) (.asg (.c (.flat v)))=some (st.put d (.flat v)):=rfl
theorem zel{f}{cs}:ma cf st (some d) (.asg (.c (.cb f cs)))=some (st.put d (.cb f cs)):=rfl
def qF(st:St)(d:Nat)(a b:PV):PV->Option St
 | .flat (.bool t)=>some (st.put d (if t then a else b))
 |_=>none
theorem zeS{c a b}:ma cf st (some d) (.pick c a b)=qF st d (a.ev st.sl) (b.ev st.sl) (c.ev st.sl):=by
 simp only[ma,bb];unfold qF;generalize c.ev st.sl=p;cases p with
 |flat v=>cases v<;>first|rfl|(dsimp only;split<;>rfl)|(dsimp only[ih,Xv];rw[ih])
 |_=>first|rfl|(dsimp only;split<;>rfl)|(dsimp only;rw[ih])
theorem C8{a b}{t}:qF st d a b (.flat (.bool t))=some (st.put d (if t then a else b)):=rfl
def Iv(st:St)(d:Nat):Option Value->Option St
 |some v=>some (st.put d (.flat v))
 |none=>none
theorem R7{v}:Iv st d (some v)=some (st.put d (.flat v)):=rfl
def TE(st:St)(d:Nat)(op:BinOp):PV->PV->Option St
 | .flat a,.flat b=>Iv st d (Uc op a b)
 |_,_=>none
theorem zep{op}{x y}:ma cf st (some d) (.bin op x y)=TE st d op (x.ev st.sl) (y.ev st.sl):=by
 simp only[ma,bb];generalize x.ev st.sl=p;generalize y.ev st.sl=q;cases p with
 |flat v=>
  cases q with
  |flat u=>simp only[TE];cases Uc op v u<;>rfl
  |_=>rfl
 |_=>cases q<;>rfl
theorem n7{op}{a b}:TE st d op (.flat a) (.flat b)=Iv st d (Uc op a b):=rfl
def SE(st:St)(d:Nat)(c:Bool):PV->PV->Option St
 | .flat (.bool a),.flat (.bool b)=>some (st.put d (.flat (.bool (if c then !(a==b)else a==b))))
 |_,_=>none
theorem zeo{a}{x y}:ma cf st (some d) (.beq a x y)=SE st d a (x.ev st.sl) (y.ev st.sl):=by
 simp only[ma,bb];unfold SE;generalize x.ev st.sl=p;generalize y.ev st.sl=q;cases p with
 |flat v=>
  cases q with
  |flat u=>cases v<;>cases u<;>first|rfl|(dsimp only;split<;>rfl)
  |_=>cases v<;>rfl
 |_=>
  cases q with
  |flat u=>cases u<;>first|rfl|(dsimp only;split<;>rfl)
  |_=>rfl
theorem m7{c a b}:SE st d c (.flat (.bool a)) (.flat (.bool b))=some (st.put d (.flat (.bool (if c then !(a==b)else a==b)))):=rfl
def nz(t:Bool):Option Bool->Option Bool
 |some r=>some (t&&r)
 |none=>none
theorem f7{t r}:nz t (some r)=some (t&&r):=rfl
theorem y3:Mc [] [] []=some true:=rfl
theorem w3{a b}{ks}{cs c}:Mc (.b::ks) (.flat (.bool a)::cs) (.flat (.bool b)::c)=nz (a==b) (Mc ks cs c):=by
 simp only[Mc];cases Mc ks cs c<;>rfl
theorem x3{k}{a b}{ks}{cs c}:Mc (.i k::ks) (.flat (.int k a)::cs) (.flat (.int k b)::c)=nz (decide (a=b)) (Mc ks cs c):=by
 simp only[Mc,and_self,if_true];cases Mc ks cs c<;>rfl
def aF(st:St)(d:Nat)(a:Bool):Option Bool->Option St
 |some t=>some (st.put d (.flat (.bool (if a then !t else t))))
 |none=>none
theorem J7{a t}:aF st d a (some t)=some (st.put d (.flat (.bool (if a then !t else t)))):=rfl
def bF(st:St)(d:Nat)(b:Bool)(ks:List LK):PV->PV->Option St
 | .agg cs,.agg a=>aF st d b (Mc ks cs a)
 |_,_=>none
theorem K7{b}{ks}{cs a}:bF st d b ks (.agg cs) (.agg a)=aF st d b (Mc ks cs a):=rfl
theorem zex{a}{ks}{x y}:ma cf st (some d) (.Qm a ks x y)=bF st d a ks (x.ev st.sl) (y.ev st.sl):=by
 simp only[ma,bb];generalize x.ev st.sl=p;generalize y.ev st.sl=q;cases p with
 |agg cs=>
  cases q with
  |agg b=>simp only[bF];cases Mc ks cs b<;>rfl
  |_=>rfl
 |_=>cases q<;>rfl
def qr(st:St)(d:Nat):PV->Option St
 | .ptr b o=>some (st.put d (.ptr b o))
 | .xd cs=>some (st.put d (.xd cs))
 | .cb f cs=>some (st.put d (.cb f cs))
 | .tag f cs=>some (st.put d (.tag f cs))
 | .Oa b=>some (st.put d (.Oa b))
 |_=>none
theorem zeQ{x}:ma cf st (some d) (.Wl x)=qr st d (x.ev st.sl):=by
 simp only[ma,bb];unfold qr;generalize x.ev st.sl=p;cases p with
 |flat v=>rfl
 |_=>first|rfl|(dsimp only;split<;>rfl)|(dsimp only;rw[ih])
theorem t8{b o}:qr st d (.ptr b o)=some (st.put d (.ptr b o)):=rfl
theorem s8{cs}:qr st d (.xd cs)=some (st.put d (.xd cs)):=rfl
theorem r8{f}{cs}:qr st d (.cb f cs)=some (st.put d (.cb f cs)):=rfl
theorem v8{f}{cs}:qr st d (.tag f cs)=some (st.put d (.tag f cs)):=rfl
theorem w8{b}:qr st d (.Oa b)=some (st.put d (.Oa b)):=rfl
def CF(st:St)(d:Nat)(op:UnOp):PV->Option St
 | .flat a=>Iv st d (zp op a)
 |_=>none
theorem zeX{op}{x}:ma cf st (some d) (.un op x)=CF st d op (x.ev st.sl):=by
 simp only[ma,bb];generalize x.ev st.sl=p;cases p with
 |flat v=>simp only[CF];cases zp op v<;>rfl
 |_=>rfl
theorem q9{op}{a}:CF st d op (.flat a)=Iv st d (zp op a):=rfl
def XE(st:St)(d:Nat)(k:IntKind):PV->Option St
 | .flat (.int _ m)=>some (st.put d (.flat (.int k (k.wrap m))))
 |_=>none
theorem zew{k}{x}:ma cf st (some d) (.conv k x)=XE st d k (x.ev st.sl):=by
 simp only[ma,bb];unfold XE;generalize x.ev st.sl=p;cases p with
 |flat v=>cases v<;>first|rfl|(dsimp only;split<;>rfl)|(dsimp only[ih,Xv];rw[ih])
 |_=>first|rfl|(dsimp only;split<;>rfl)|(dsimp only;rw[ih])
theorem E7{k k'}{m}:XE st d k (.flat (.int k' m))=some (st.put d (.flat (.int k (k.wrap m)))):=rfl
theorem zen{x}:ma cf st (some d) (.b2s x)=Ml st d (Dm (x.ev st.sl) st.bx):=by
 simp only[ma,ih]
theorem OX:Dm (.flat (.slice none 0 0)) bx=some (.flat (.string ⟨#[]⟩)):=rfl
def QX{m}{cs}:Dm (.ga m cs) bx=if cs.length=m then(bytesOf cs).map fun l=>.flat (.string ⟨l.toArray⟩)else none:=rfl
def Gv(o m:Nat):Option (Nat×List PV)->Option PV
 |some (_,cs)=>if o+m<=cs.length then Iz (bytesOf ((cs.drop o).take m))else none
 |none=>none
where Iz:Option (List UInt8)->Option PV
 |some l=>some (.flat (.string ⟨l.toArray⟩))
 |none=>none
theorem g9{l}:Gv.Iz (some l)=some (.flat (.string ⟨l.toArray⟩)):=rfl
theorem ZR{o m e}{cs}:Gv o m (some (e,cs))=if o+m<=cs.length then Gv.Iz (bytesOf ((cs.drop o).take m))else none:=rfl
theorem NX{b o m}:Dm (.we b o m) bx=Gv o m (vd bx b):=by
 simp only[Dm];cases vd bx b with
 |none=>rfl
 |some q=>
  obtain⟨e,cs⟩:=q;simp only[Ja,ZR];split
  ·cases bytesOf ((cs.drop o).take m)<;>rfl
  ·rfl
theorem PX{m}{cs}:Dm (.ga m cs) bx=if cs.length=m then Gv.Iz (bytesOf cs)else none:=by
 rw[QX];split
 ·cases bytesOf cs<;>rfl
 ·rfl
theorem zef{e}{zs}:ma cf ⟨sl,ow,al,bx⟩ (some d) (.alloc e zs)=some ⟨(d,.ptr bx.length 0)::sl,gd bx.length 0 zs++Va d ow,Lb d al,bx++[(e,Dd zs)]⟩:=by
 rw[<-tx];rfl
def UE(st:St)(d e m:Nat)(v:PV):Option St:=if v.mi=true/\v.cells.length=m then some ⟨(d,.ptr st.bx.length 0)::st.sl,gd st.bx.length 0 v.cells++Va d st.ow,Lb d st.al,st.bx++[(e,Dd v.cells)]⟩else none
theorem zeq{e m}{x}:ma cf st (some d) (.box e m x)=UE st d e m (x.ev st.sl):=by
 unfold UE;rw[<-tx];rfl
theorem r7{e m}{v}:UE ⟨sl,ow,al,bx⟩ d e m v=if v.mi=true/\v.cells.length=m then some ⟨(d,.ptr bx.length 0)::sl,gd bx.length 0 v.cells++Va d ow,Lb d al,bx++[(e,Dd v.cells)]⟩else none:=rfl
def YR(st:St)(d:Nat):Option (List PV)->Option St
 |some cs=>some (st.put d (.agg cs))
 |none=>none
theorem zer{zs}{ps}:ma cf st (some d) (.build zs ps)=YR st d (Hi zs (Qn st.sl ps)):=by
 simp only[ma,bb,lE];cases Hi zs (Qn st.sl ps)<;>rfl
theorem s7{cs}:YR st d (some cs)=some (st.put d (.agg cs)):=rfl
def dS(st:St)(d:Nat)(a:Bool)(m size:Nat):Option (List PV)->Option St
 |some cs=>if a=true\/size≠1\/td (Dd cs)=true then some (st.Ic d (.ga m (Dd cs)))else none
 |none=>none
theorem zeK{a}{m size}{zs}{ps}:ma cf st (some d) (.mksl a m size zs ps)=dS st d a m size (Hi zs (Qn st.sl ps)):=by
 simp only[ma,Ja,lE];cases Hi zs (Qn st.sl ps)<;>rfl
theorem o8{a}{m size}{cs}:dS st d a m size (some cs)=if a=true\/size≠1\/td (Dd cs)=true then some (st.Ic d (.ga m (Dd cs)))else none:=rfl
theorem zeH{agg}{m}{a}:ma cf st (some d) (.load agg m a)=Ml st d (Ym agg m (a.ev st.sl) st.bx):=by
 simp only[ma,Ja,Xv]
def bm(agg:Bool)(m o:Nat):Option (Nat×List PV)->Option PV
 |some (_,cs)=>if o+m<=cs.length then(match agg with|true=>some (.agg ((cs.drop o).take m))|false=>cs[o]?)else none
 |none=>none
theorem zc7{m o e}{cs}:bm true m o (some (e,cs))=if o+m<=cs.length then some (.agg ((cs.drop o).take m))else none:=rfl
theorem vI{m o e}{cs}:bm false m o (some (e,cs))=if o+m<=cs.length then cs[o]? else none:=rfl
theorem u_{agg}{m b o}:Ym agg m (.ptr b o) bx=bm agg m o (vd bx b):=by
 simp only[Ym];cases vd bx b with
 |none=>rfl
 |some q=>rfl
theorem t_{m}{cs}:Ym true m (.xd cs) bx=if m<=cs.length then some (.agg (cs.take m))else none:=rfl
theorem s_{m}{cs}:Ym false m (.xd cs) bx=if m<=cs.length then cs[0]? else none:=rfl
def XR:Option (Nat×List PV)->Option (Nat×List PV)
 |some (e,cs)=>if nr cs then none else some (e,cs)
 |none=>none
theorem iD{b}:vd bx b=XR (bx[b]?):=by
 unfold vd;cases bx[b]? with
 |none=>rfl
 |some q=>rfl
theorem VE{e}{cs}:XR (some (e,cs))=if nr cs then none else some (e,cs):=rfl
def jF(st:St)(d b o:Nat):Option PV->Option St
 |some v=>some ⟨(d,v)::st.sl,Va d st.ow,(d,.cell b o)::Lb d st.al,st.bx⟩
 |none=>none
def mF(st:St)(d:Nat):PV->Option St
 | .ptr b o=>jF st d b o (bm false 1 o (vd st.bx b))
 |_=>none
theorem zeI{a}:ma cf st (some d) (.loadA a)=mF st d (a.ev st.sl):=by
 simp only[ma,Ja];generalize a.ev st.sl=p;cases p with
 |ptr b o=>
  simp only[mF];cases h:vd st.bx b with
  |none=>rfl
  |some q=>
   obtain⟨e,cs⟩:=q;simp only[Ja,vI];by_cases c:o+1<=cs.length
   ·rw[if_pos c]
    cases g:cs[o]?<;>rfl
   ·rw[if_neg c,Qf aa];rfl
 |_=>rfl
theorem n8{b o}:mF st d (.ptr b o)=jF st d b o (bm false 1 o (vd st.bx b)):=rfl
theorem k8{b o}{v}:jF ⟨sl,ow,al,bx⟩ d b o (some v)=some ⟨(d,v)::sl,Va d ow,(d,.cell b o)::Lb d al,bx⟩:=rfl
def Vd(b o m:Nat):List Loc->List Loc
 |[]=>[]
 | .slot i::r=>.slot i::Vd b o m r
 | .cell a j::r=>if a=b/\o<=j/\j<o+m then Vd b o m r else .cell a j::Vd b o m r
theorem R2{b o m}:Vd b o m []=[]:=rfl
theorem QP{b o m i}{r}:Vd b o m (.slot i::r)=.slot i::Vd b o m r:=rfl
theorem Tj{b o m a j}{r}:Vd b o m (.cell a j::r)=if a=b/\o<=j/\j<o+m then Vd b o m r else .cell a j::Vd b o m r:=rfl
theorem YS{b o m a j}:Od b o m (.cell a j)=decide (a=b/\o<=j/\j<o+m):=by
 grind [Od]
theorem Ry{b o m}:∀l,(l.filter fun L=>!Od b o m L)=Vd b o m l
 |[]=>rfl
 | .slot i::r=>by rw[QP,<-Ry r];rfl
 | .cell a j::r=>by
   rw[Tj,<-Ry r,List.filter_cons,YS]
   grind
def Sj(b o m:Nat)(l:List (Nat×Loc)):List (Nat×Loc):=l.filter fun p=>!Od b o m p.2
theorem P2{b o m}:Sj b o m []=[]:=rfl
theorem Q2{b o m t i}{r}:Sj b o m ((t,.slot i)::r)=(t,.slot i)::Sj b o m r:=pa
theorem O2{b o m t a j}{r}:Sj b o m ((t,.cell a j)::r)=if a=b/\o<=j/\j<o+m then Sj b o m r else(t,.cell a j)::Sj b o m r:=by
 grind [Sj,YS]
def Qv(st:St)(b o m:Nat)(x:X)(v:PV)(e:Nat)(cs:List PV):Option St:=if v.mi=true/\v.cells.length=m/\o+m<=cs.length then
    (match x with
     | .t s=>if owns st.ow (.slot s)then some ⟨st.sl,.cell b o::Va s (gd b o v.cells++Vd b o m st.ow),Lb s (Sj b o m st.al),st.bx.set b (e,cs.take o++Dd v.cells++cs.drop (o+m))⟩else some ⟨st.sl,gd b o v.cells++Vd b o m st.ow,Sj b o m st.al,st.bx.set b (e,cs.take o++Dd v.cells++cs.drop (o+m))⟩
     | .c _=>some ⟨st.sl,gd b o v.cells++Vd b o m st.ow,Sj b o m st.al,st.bx.set b (e,cs.take o++Dd v.cells++cs.drop (o+m))⟩)else none
def Hz(st:St)(b o m:Nat)(x:X)(v:PV):Option (Nat×List PV)->Option St
 |some (e,cs)=>Qv st b o m x v e cs
 |none=>none
def zF(st:St)(m:Nat)(x:X)(v:PV):PV->Option St
 | .ptr b o=>Hz st b o m x v (vd st.bx b)
 |_=>none
theorem zeW{m}{a x}:ma cf st none (.store m a x)=zF st m x (x.ev st.sl) (a.ev st.sl):=by
 simp only[ma];generalize a.ev st.sl=p;cases p with
 |ptr b o=>
  dsimp only;simp only[zF,Hz];cases h:vd st.bx b with
  |none=>rfl
  |some q=>
   obtain⟨e,cs⟩:=q;simp only[Ja,Qv];split
   ·cases x with
    |t s=>simp only[Ry,nk,tx];rfl
    |c v=>simp only[Ry,tx];rfl
   ·rfl
 |_=>rfl
theorem f9{b o m}{x}{v}:zF st m x v (.ptr b o)=Hz st b o m x v (vd st.bx b):=rfl
theorem c9{b o m e}{x}{v}{cs}:Hz st b o m x v (some (e,cs))=Qv st b o m x v e cs:=rfl
theorem e9{b o m e s}{v}{cs}:Qv ⟨sl,ow,al,bx⟩ b o m (.t s) v e cs=if v.mi=true/\v.cells.length=m/\o+m<=cs.length then(if owns ow (.slot s)then some ⟨sl,.cell b o::Va s (gd b o v.cells++Vd b o m ow),Lb s (Sj b o m al),bx.set b (e,cs.take o++Dd v.cells++cs.drop (o+m))⟩else some ⟨sl,gd b o v.cells++Vd b o m ow,Sj b o m al,bx.set b (e,cs.take o++Dd v.cells++cs.drop (o+m))⟩)else none:=rfl
theorem d9{b o m e}{u v}{cs}:Qv ⟨sl,ow,al,bx⟩ b o m (.c u) v e cs=if v.mi=true/\v.cells.length=m/\o+m<=cs.length then some ⟨sl,gd b o v.cells++Vd b o m ow,Sj b o m al,bx.set b (e,cs.take o++Dd v.cells++cs.drop (o+m))⟩else none:=rfl
def yz(st:St)(d a:Nat):PV->Option St
 | .ptr b o=>some (st.put d (.ptr b (o+a)))
 | .xd cs=>some (st.put d (.xd (cs.drop a)))
 |_=>none
theorem zez{b}{a}:ma cf st (some d) (.Vm b a)=yz st d b (a.ev st.sl):=by
 simp only[ma,bb];unfold yz;generalize a.ev st.sl=p;cases p with
 |flat v=>rfl
 |_=>first|rfl|(dsimp only;split<;>rfl)|(dsimp only;rw[ih])
theorem O7{a b o}:yz st d a (.ptr b o)=some (st.put d (.ptr b (o+a))):=rfl
theorem N7{a}{cs}:yz st d a (.xd cs)=some (st.put d (.xd (cs.drop a))):=rfl
def eF(st:St)(d a m:Nat):PV->Option St
 | .agg cs=>if a+m<=cs.length then some (st.put d (.agg ((cs.drop a).take m)))else none
 |_=>none
def dF(st:St)(d a:Nat):PV->Option St
 | .agg cs=>Ml st d (cs[a]?)
 |_=>none
theorem zeB{a m}{x}:ma cf st (some d) (.Wm true a m x)=eF st d a m (x.ev st.sl):=by
 simp only[ma,bb];unfold eF;generalize x.ev st.sl=p;cases p with
 |flat v=>rfl
 |_=>first|rfl|(dsimp only;split<;>rfl)|(dsimp only;rw[ih])
theorem zeA{a m}{x}:ma cf st (some d) (.Wm false a m x)=dF st d a (x.ev st.sl):=by
 simp only[ma,bb]
 grind [dF,ih]
theorem T7{a m}{cs}:eF st d a m (.agg cs)=if a+m<=cs.length then some (st.put d (.agg ((cs.drop a).take m)))else none:=rfl
theorem S7{a}{cs}:dF st d a (.agg cs)=Ml st d (cs[a]?):=rfl
def Az(st:St)(d size:Nat):PV->PV->Option St
 | .ga m cs,.flat (.int _ i)=>if 0<=i/\i<m then some (st.put d (.xd (cs.drop (i.toNat* size))))else none
 | .we b o m,.flat (.int _ i)=>if 0<=i/\i<m then some (st.put d (.ptr b (o+i.toNat* size)))else none
 |_,_=>none
theorem zeC{size}{x i}:ma cf st (some d) (.Ji size x i)=Az st d size (x.ev st.sl) (i.ev st.sl):=by
 simp only[ma,bb];unfold Az;generalize x.ev st.sl=p;generalize i.ev st.sl=q;cases p with
 |flat v=>
  rfl
 |_=>
  cases q with
  |flat u=>cases u<;>first|rfl|(dsimp only;split<;>rfl)
  |_=>rfl
theorem Z7{size m}{cs}{k}{i}:Az st d size (.ga m cs) (.flat (.int k i))=if 0<=i/\i<m then some (st.put d (.xd (cs.drop (i.toNat* size))))else none:=rfl
theorem Y7{size b o m}{k}{i}:Az st d size (.we b o m) (.flat (.int k i))=if 0<=i/\i<m then some (st.put d (.ptr b (o+i.toNat* size)))else none:=rfl
def pF(st:St)(d len size:Nat):PV->PV->Option St
 | .ptr b o,.flat (.int _ i)=>if 0<=i/\i<len then some (st.put d (.ptr b (o+i.toNat* size)))else none
 |_,_=>none
theorem zeR{len size}{x i}:ma cf st (some d) (.jn len size x i)=pF st d len size (x.ev st.sl) (i.ev st.sl):=by
 simp only[ma,bb];unfold pF;generalize x.ev st.sl=p;generalize i.ev st.sl=q;cases p with
 |flat v=>
  rfl
 |_=>
  cases q with
  |flat u=>cases u<;>first|rfl|(dsimp only;split<;>rfl)
  |_=>rfl
theorem B8{len size b o}{k}{i}:pF st d len size (.ptr b o) (.flat (.int k i))=if 0<=i/\i<len then some (st.put d (.ptr b (o+i.toNat* size)))else none:=rfl
def tz(st:St)(d:Nat):Option UInt8->Option St
 |some c=>some (st.put d (.flat (.int .u8 c.toNat)))
 |none=>none
def gF(st:St)(d:Nat):PV->PV->Option St
 | .flat (.string s),.flat (.int _ i)=>if 0<=i then tz st d (s[i.toNat]?)else none
 |_,_=>none
theorem zeD{x i}:ma cf st (some d) (.idx x i)=gF st d (x.ev st.sl) (i.ev st.sl):=by
 simp only[ma,bb];generalize x.ev st.sl=p;generalize i.ev st.sl=q;cases p with
 |flat v=>
  cases q with
  |flat u=>
   cases v<;>cases u<;>try rfl
   rename_i s k j;simp only[gF];split
   ·cases s[j.toNat]?<;>rfl
   ·rfl
  |_=>cases v<;>rfl
 |_=>cases q<;>rfl
theorem d8{s}{k}{i}:gF st d (.flat (.string s)) (.flat (.int k i))=if 0<=i then tz st d (s[i.toNat]?)else none:=rfl
theorem t7{c}:tz st d (some c)=some (st.put d (.flat (.int .u8 c.toNat))):=rfl
def Bz(st:St)(d:Nat)(agg:Bool)(len size:Nat):PV->PV->Option St
 | .agg cs,.flat (.int _ i)=>if 0<=i/\i<len/\i.toNat* size+size<=cs.length then(match agg with|true=>some (st.put d (.agg ((cs.drop (i.toNat* size)).take size)))|false=>Ml st d (cs[i.toNat* size]?))else none
 |_,_=>none
theorem zeE{agg}{len size}{x i}:ma cf st (some d) (.Yj agg len size x i)=Bz st d agg len size (x.ev st.sl) (i.ev st.sl):=by
 simp only[ma,bb];generalize x.ev st.sl=p;generalize i.ev st.sl=q;cases p with
 |agg cs=>
  cases q with
  |flat u=>
   cases u<;>try rfl
   rename_i k j;simp only[Bz];split
   ·cases agg
    ·grind [ih]
    ·rfl
   ·rfl
  |_=>rfl
 |_=>cases q<;>rfl
theorem c8{len size}{cs}{k}{i}:Bz st d true len size (.agg cs) (.flat (.int k i))=if 0<=i/\i<len/\i.toNat* size+size<=cs.length then some (st.put d (.agg ((cs.drop (i.toNat* size)).take size)))else none:=rfl
theorem a8{len size}{cs}{k}{i}:Bz st d false len size (.agg cs) (.flat (.int k i))=if 0<=i/\i<len/\i.toNat* size+size<=cs.length then Ml st d (cs[i.toNat* size]?)else none:=rfl
def Uh(sl:List (Nat×PV)):Option X->Option PV
 |none=>none
 |some x=>some (x.ev sl)
theorem Q3:Uh sl none=none:=rfl
theorem R3{x}:Uh sl (some x)=some (x.ev sl):=rfl
def kE{x}:x.map (·.ev sl)=Uh sl x:=by cases x<;>rfl
def AF(st:St)(d:Nat)(s:ByteArray):Option (Nat×Nat)->Option St
 |some (l,h)=>some (st.put d (.flat (.string (s.extract l h))))
 |none=>none
def yF(st:St)(d:Nat)(b a:Option PV):PV->Option St
 | .flat (.string s)=>AF st d s (Of s.size b a)
 |_=>none
theorem zeV{x}{b a}:ma cf st (some d) (.sliceS x b a)=yF st d (Uh st.sl b) (Uh st.sl a) (x.ev st.sl):=by
 simp only[ma,bb,kE];generalize x.ev st.sl=p;cases p with
 |flat v=>
  cases v<;>try rfl
  rename_i s;simp only[yF];cases Of s.size (Uh st.sl b) (Uh st.sl a)<;>rfl
 |_=>rfl
theorem Y8{b a}{s}:yF st d b a (.flat (.string s))=AF st d s (Of s.size b a):=rfl
theorem h9{s}{l h}:AF st d s (some (l,h))=some (st.put d (.flat (.string (s.extract l h)))):=rfl
theorem fY{m}:Of m none none=some (0,m):=pa
theorem gY{m}{k}{i}:Of m none (some (.flat (.int k i)))=if 0<=i/\i<=m then some (0,i.toNat)else none:=by
 grind [Of,lr]
theorem hY{m}{k}{i}:Of m (some (.flat (.int k i))) none=if 0<=i/\i<=m then some (i.toNat,m)else none:=by
 grind [Of,lr]
theorem iY{m}{k k'}{i j}:Of m (some (.flat (.int k i))) (some (.flat (.int k' j)))=if 0<=i/\i<=j/\j<=m then some (i.toNat,j.toNat)else none:=by
 simp only[Of,lr,Ja]
 grind
def YE(st:St)(d size m:Nat)(cs:List PV):Option (Nat×Nat)->Option St
 |some (l,h)=>some (st.put d (.ga (h - l) ((cs.take (h* size)).drop (l* size))))
 |none=>none
def Hv(st:St)(d size b o:Nat):Option (Nat×Nat)->Option St
 |some (l,h)=>some (st.put d (.we b (o+l* size) (h - l)))
 |none=>none
def Pv(st:St)(d size:Nat)(c a:Option PV):PV->Option St
 | .ga m cs=>if cs.length=m* size/\0<size then YE st d size m cs (Of m c a)else none
 | .we b o m=>Hv st d size b o (Of m c a)
 |_=>none
theorem zeT{size}{x}{c a}:ma cf st (some d) (.slice size x c a)=Pv st d size (Uh st.sl c) (Uh st.sl a) (x.ev st.sl):=by
 simp only[ma,bb,kE];generalize x.ev st.sl=p;cases p with
 |ga m cs=>
  simp only[Pv];split
  ·cases Of m (Uh st.sl c) (Uh st.sl a)<;>rfl
  ·rfl
 |we b o m=>simp only[Pv];cases Of m (Uh st.sl c) (Uh st.sl a)<;>rfl
 |_=>rfl
theorem b9{size m}{cs}{b a}:Pv st d size b a (.ga m cs)=if cs.length=m* size/\0<size then YE st d size m cs (Of m b a)else none:=rfl
theorem Z8{size b o m}{c a}:Pv st d size c a (.we b o m)=Hv st d size b o (Of m c a):=rfl
theorem G7{size m l h}{cs}:YE st d size m cs (some (l,h))=some (st.put d (.ga (h - l) ((cs.take (h* size)).drop (l* size)))):=rfl
theorem F7{size b o l h}:Hv st d size b o (some (l,h))=some (st.put d (.we b (o+l* size) (h - l))):=rfl
def xF(st:St)(d len size:Nat)(c a:Option PV):PV->Option St
 | .ptr b o=>Hv st d size b o (Of len c a)
 |_=>none
theorem zeU{len size}{x}{c a}:ma cf st (some d) (.sliceP len size x c a)=xF st d len size (Uh st.sl c) (Uh st.sl a) (x.ev st.sl):=by
 simp only[ma,bb,kE];generalize x.ev st.sl=p;cases p with
 |ptr b o=>simp only[xF];cases Of len (Uh st.sl c) (Uh st.sl a)<;>rfl
 |_=>rfl
theorem X8{len size b o}{c a}:xF st d len size c a (.ptr b o)=Hv st d size b o (Of len c a):=rfl
def cF(st:St)(d i:Nat):PV->Option St
 | .Jc vs=>Ml st d (vs[i]?)
 |_=>none
theorem zey{x}{i}:ma cf st (some d) (.ext x i)=cF st d i (x.ev st.sl):=by
 simp only[ma,bb]
 grind [cF,ih]
theorem L7{i}{vs}:cF st d i (.Jc vs)=Ml st d (vs[i]?):=rfl
def Jv(st:St)(d:Nat):PV->Option St
 | .ga m _=>some (st.put d (.flat (.int .i64 m)))
 | .we _ _ m=>some (st.put d (.flat (.int .i64 m)))
 | .flat (.slice none 0 0)=>some (st.put d (.flat (.int .i64 0)))
 |_=>none
theorem zeF{x}:ma cf st (some d) (.len x)=Jv st d (x.ev st.sl):=by
 simp only[ma,bb];unfold Jv;generalize x.ev st.sl=p;split<;>first|rfl|simp
theorem h8:Jv st d (.flat (.slice none 0 0))=some (st.put d (.flat (.int .i64 0))):=rfl
theorem i8{m}{cs}:Jv st d (.ga m cs)=some (st.put d (.flat (.int .i64 m))):=rfl
theorem g8{b o m}:Jv st d (.we b o m)=some (st.put d (.flat (.int .i64 m))):=rfl
def iF(st:St)(d:Nat):PV->Option St
 | .flat (.string s)=>some (st.put d (.flat (.int .i64 s.size)))
 |_=>none
theorem zeG{x}:ma cf st (some d) (.Vn x)=iF st d (x.ev st.sl):=by
 simp only[ma,bb];unfold iF;generalize x.ev st.sl=p;cases p with
 |flat v=>cases v<;>first|rfl|(dsimp only;split<;>rfl)|(dsimp only[ih,Xv];rw[ih])
 |_=>first|rfl|(dsimp only;split<;>rfl)|(dsimp only;rw[ih])
theorem f8{s}:iF st d (.flat (.string s))=some (st.put d (.flat (.int .i64 s.size))):=rfl
def oF(st:St)(d:Nat):PV->Option St
 | .flat (.string s)=>some (st.put d (.flat (.string s)))
 |_=>none
theorem zeP{x}:ma cf st (some d) (.Rp x)=oF st d (x.ev st.sl):=by
 simp only[ma,bb];unfold oF;generalize x.ev st.sl=p;cases p with
 |flat v=>cases v<;>first|rfl|(dsimp only;split<;>rfl)|(dsimp only[ih,Xv];rw[ih])
 |_=>first|rfl|(dsimp only;split<;>rfl)|(dsimp only;rw[ih])
theorem q8{s}:oF st d (.flat (.string s))=some (st.put d (.flat (.string s))):=rfl
def nF(st:St)(d:Nat)(c:Bool):PV->PV->Option St
 | .flat (.int k a),.flat (.int k' b)=>if k=k' then some (st.put d (.flat (.int k (if c then(if b>a then b else a)else(if b<a then b else a)))))else none
 |_,_=>none
theorem zeM{a}{x y}:ma cf st (some d) (.mm a x y)=nF st d a (x.ev st.sl) (y.ev st.sl):=by
 simp only[ma,bb];unfold nF;generalize x.ev st.sl=p;generalize y.ev st.sl=q;cases p with
 |flat v=>
  cases q with
  |flat u=>cases v<;>cases u<;>first|rfl|(dsimp only;split<;>rfl)
  |_=>cases v<;>rfl
 |_=>
  cases q with
  |flat u=>cases u<;>first|rfl|(dsimp only;split<;>rfl)
  |_=>rfl
theorem p8{c}{k k'}{a b}:nF st d c (.flat (.int k a)) (.flat (.int k' b))=if k=k' then some (st.put d (.flat (.int k (if c then(if b>a then b else a)else(if b<a then b else a)))))else none:=rfl
theorem zev{f}{cs}:ma cf st (some d) (.clos f cs)=some (st.put d (.cb f (Zq st.sl cs))):=by
 simp only[ma,bb,iE];rfl
theorem zeL{f}{cs}:ma cf st (some d) (.mkt f cs)=some (st.put d (.tag f (Zq st.sl cs))):=by
 simp only[ma,bb,iE];rfl
def wj(ow:List Loc)(al:List (Nat×Loc))(t:Nat):Option Loc:=if owns ow (.slot t)then some (.slot t)else Aq t al
where Aq (t:Nat):List (Nat×Loc)->Option Loc
 |[]=>none
 |(u,L)::r=>if u=t then some L else Aq t r
theorem wX{t}:wj.Aq t []=none:=rfl
theorem gK{t u}{L}{r}:wj.Aq t ((u,L)::r)=if u=t then some L else wj.Aq t r:=rfl
theorem hK{t}:∀l,(l.find? fun p=>p.1==t).map (·.2)=wj.Aq t l
 |[]=>rfl
 |(u,L)::r=>by
  rw[gK,<-hK r,List.find?_cons]
  grind
theorem zbi{t}:wj ow al t=if owns ow (.slot t)then some (.slot t)else wj.Aq t al:=rfl
def iU{t}:origin st t=wj st.ow st.al t:=by
 grind [origin,wj,hK,nk]
def fe(L:Loc)(l:List Loc):List Loc:=l.filter (·≠L)
theorem X2{L}:fe L []=[]:=rfl
theorem Z2{i j}{r}:fe (.slot i) (.slot j::r)=if j=i then fe (.slot i) r else .slot j::fe (.slot i) r:=by
 grind [fe]
theorem Y2{i b o}{r}:fe (.slot i) (.cell b o::r)=.cell b o::fe (.slot i) r:=pa
theorem W2{i b o}{r}:fe (.cell b o) (.slot i::r)=.slot i::fe (.cell b o) r:=pa
theorem gv{b o a c}{r}:fe (.cell b o) (.cell a c::r)=if a=b/\c=o then fe (.cell b o) r else .cell a c::fe (.cell b o) r:=by
 grind [fe]
def Kn(L:Loc)(l:List (Nat×Loc)):List (Nat×Loc):=l.filter fun p=>p.2≠L
def pr(st:St)(d b o:Nat):Bool->Option PV->Option St
 |true,some v=>some ⟨(d,v)::st.sl,.slot d::fe (.cell b o) (Va d st.ow),[],st.bx⟩
 |_,_=>none
def lF(st:St)(d:Nat):PV->Option St
 | .ptr b o=>pr st d b o (owns st.ow (.cell b o)) (bm false 1 o (vd st.bx b))
 |_=>none
theorem zeJ{a}:ma cf st (some d) (.loadM a)=lF st d (a.ev st.sl):=by
 simp only[ma,Ja];generalize a.ev st.sl=p;cases p with
 |ptr b o=>
  simp only[lF];have g:owns st.ow (.cell b o)=decide (.cell b o∈st.ow):=by
   by_cases h:Loc.cell b o∈st.ow
   ·grind [nk]
   ·grind [nk]
  rw[g];cases h:vd st.bx b with
  |none=>grind [pr,bm]
  |some q=>
   obtain⟨e,cs⟩:=q;simp only[Ja,vI];have hr:(if o+1<=cs.length then cs[o]? else none)=cs[o]?:=by
    by_cases c:o+1<=cs.length
    ·grind
    ·grind
   rw[hr];cases i:cs[o]? with
   |none=>grind [pr]
   |some v=>
    by_cases c:Loc.cell b o∈st.ow
    ·simp only[c,Ja,if_true,decide_true,pr,fe];rfl
    grind [pr]
 |_=>rfl
theorem l8{b o}:lF st d (.ptr b o)=pr st d b o (owns st.ow (.cell b o)) (bm false 1 o (vd st.bx b)):=rfl
theorem m8{b o}{v}:pr st d b o true (some v)=some ⟨(d,v)::st.sl,.slot d::fe (.cell b o) (Va d st.ow),[],st.bx⟩:=rfl
theorem V2{L}:Kn L []=[]:=rfl
theorem U2{L K}{t}{r}:Kn L ((t,K)::r)=if K=L then Kn L r else(t,K)::Kn L r:=by
 grind [Kn]
def rz(st:St)(d:Nat)(a:Bool)(size:Nat)(L:Loc):Option PV->PV->Option St
 |some (.ga m cs),.ga c b=>if m+c<=za/\cs.length=m* size/\b.length=c* size/\owns st.ow L=true/\jm a size cs b=true then
  some ⟨(d,.ga (m+c) (cs++b))::st.sl,.slot d::Va d (fe L st.ow),Lb d (Kn L st.al),st.bx⟩else none
 |_,_=>none
def sz(st:St)(d:Nat)(a:Bool)(size:Nat)(y:PV):Option Loc->Option St
 |some L=>rz st d a size L (ab st L) y
 |none=>none
def Ev(st:St)(d:Nat)(a:Bool)(size:Nat):PV->Option St
 | .ga m b=>if m<=za/\b.length=m* size/\jm a size [] b=true then(if m=0 then some (st.put d (.flat (.slice none 0 0)))else some (st.Ic d (.ga m b)))else none
 |_=>none
theorem j7{a}{size m}{b}:Ev st d a size (.ga m b)=if m<=za/\b.length=m* size/\jm a size [] b=true then(if m=0 then some (st.put d (.flat (.slice none 0 0)))else some (st.Ic d (.ga m b)))else none:=rfl
def KV{a}{size}{x y}:ma cf st (some d) (.append a size x y)=if Ec (x.ev st.sl)then Ev st d a size (y.ev st.sl).ib else(match x with| .t s=>sz st d a size (y.ev st.sl).ib (wj st.ow st.al s)| .c _=>none):=by
 simp only[ma];split
 ·grind [Ev]
 ·cases x with
  |c v=>rfl
  |t s=>
   simp only[iU];cases wj st.ow st.al s with
   |none=>rfl
   |some L=>
    simp only[Ja,sz];generalize ab st L=p;generalize (y.ev st.sl).ib=q;cases p with
    |none=>rfl
    |some p=>
     cases p with
     |ga m cs=>
      cases q with
      |ga e b=>simp only[rz,nk];rfl
      |_=>rfl
     |_=>cases q<;>rfl
theorem zeh{a}{size s}{y}:ma cf st (some d) (.append a size (.t s) y)=if Ec (look st.sl s)then Ev st d a size (y.ev st.sl).ib else sz st d a size (y.ev st.sl).ib (wj st.ow st.al s):=KV
theorem zeg{a}{size}{v}{y}:ma cf st (some d) (.append a size (.c v) y)=if Ec v then Ev st d a size (y.ev st.sl).ib else none:=KV
theorem k7{a}{size}{y}{L}:sz st d a size y (some L)=rz st d a size L (ab st L) y:=rfl
theorem l7{a}{size m c}{L}{cs b}:rz ⟨sl,ow,al,bx⟩ d a size L (some (.ga m cs)) (.ga c b)=if m+c<=za/\cs.length=m* size/\b.length=c* size/\owns ow L=true/\jm a size cs b=true then some ⟨(d,.ga (m+c) (cs++b))::sl,.slot d::Va d (fe L ow),Lb d (Kn L al),bx⟩else none:=rfl
theorem zcS{i}:ab ⟨sl,ow,al,bx⟩ (.slot i)=some (look sl i):=rfl
def bS(o:Nat):Option (Nat×List PV)->Option PV
 |some (_,cs)=>cs[o]?
 |none=>none
theorem zcR{b o}:ab ⟨sl,ow,al,bx⟩ (.cell b o)=bS o (bx[b]?):=by
 simp only[ab];cases bx[b]?<;>rfl
theorem C7{o e}{cs}:bS o (some (e,cs))=cs[o]?:=rfl
def oz(st:St)(d:Nat)(L:Loc):Option PV->PV->Option St
 |some (.ga m cs),.flat (.string z)=>if m+z.size<=za/\cs.length=m/\owns st.ow L=true/\pg cs=true then
  some ⟨(d,.ga (m+z.size) (cs++ii z))::st.sl,.slot d::Va d (fe L st.ow),Lb d (Kn L st.al),st.bx⟩else none
 |_,_=>none
def pz(st:St)(d:Nat)(y:PV):Option Loc->Option St
 |some L=>oz st d L (ab st L) y
 |none=>none
def Dv(st:St)(d:Nat):PV->Option St
 | .flat (.string z)=>if z.size<=za then(if z.size=0 then some (st.put d (.flat (.slice none 0 0)))else some (st.Ic d (.ga z.size (ii z))))else none
 |_=>none
theorem g7{z}:Dv st d (.flat (.string z))=if z.size<=za then(if z.size=0 then some (st.put d (.flat (.slice none 0 0)))else some (st.Ic d (.ga z.size (ii z))))else none:=rfl
def LV{x y}:ma cf st (some d) (.appendS x y)=if Ec (x.ev st.sl)then Dv st d (y.ev st.sl)else(match x with| .t s=>pz st d (y.ev st.sl) (wj st.ow st.al s)| .c _=>none):=by
 simp only[ma];split
 ·grind [Dv]
 ·cases x with
  |c v=>rfl
  |t s=>
   simp only[iU];cases wj st.ow st.al s with
   |none=>rfl
   |some L=>
    simp only[Ja,pz];generalize ab st L=p;generalize y.ev st.sl=q;cases p with
    |none=>rfl
    |some p=>
     cases p with
     |ga m cs=>
      cases q with
      |flat v=>cases v<;>first|rfl|(simp only[oz,nk];rfl)
      |_=>rfl
     |_=>cases q<;>rfl
theorem zej{s}{y}:ma cf st (some d) (.appendS (.t s) y)=if Ec (look st.sl s)then Dv st d (y.ev st.sl)else pz st d (y.ev st.sl) (wj st.ow st.al s):=LV
theorem zei{v}{y}:ma cf st (some d) (.appendS (.c v) y)=if Ec v then Dv st d (y.ev st.sl)else none:=LV
theorem h7{y}{L}:pz st d y (some L)=oz st d L (ab st L) y:=rfl
theorem i7{m}{L}{cs}{z}:oz ⟨sl,ow,al,bx⟩ d L (some (.ga m cs)) (.flat (.string z))=if m+z.size<=za/\cs.length=m/\owns ow L=true/\pg cs=true then some ⟨(d,.ga (m+z.size) (cs++ii z))::sl,.slot d::Va d (fe L ow),Lb d (Kn L al),bx⟩else none:=rfl
def rr(st:St):Option Nat->List PV->Bool->St
 |none,_,_=>st
 |some d,vs,true=>st.Ic d (Rc vs)
 |some d,vs,false=>st.put d (Rc vs)
theorem R8{vs}{os}:rr st none vs os=st:=rfl
theorem S8{vs}:rr st (some d) vs true=st.Ic d (Rc vs):=rfl
theorem Q8{vs}:rr st (some d) vs false=st.put d (Rc vs):=rfl
def pp(al:List (Nat×Loc)):List (Nat×Loc):=al.filter fun p=>!Ba p.2
theorem Bc:pp []=[]:=rfl
theorem T2{t i}{r}:pp ((t,.slot i)::r)=(t,.slot i)::pp r:=pa
theorem S2{t b o}{r}:pp ((t,.cell b o)::r)=pp r:=pa
def WE(st:St)(dst:Option Nat):Option Ye->Option St
 |some (vs,os,bx,oc)=>some (rr ⟨st.sl,Rf oc++Ui st.ow,pp st.al,bx⟩ dst vs os)
 |none=>none
theorem ZY{dst}{f}{args}:Lc cf ⟨sl,ow,al,bx⟩ dst f args=WE ⟨sl,ow,al,bx⟩ dst (cf f args bx (Rf ow)):=by
 simp only[Lc,Hs];cases cf f args bx (Rf ow)with
 |none=>rfl
 |some r=>
  obtain⟨vs,os,bx',oc⟩:=r;simp only[jd,WE,TI,pp];cases dst with
  |none=>rfl
  |some d=>cases os<;>rfl
theorem u7{dst}{vs}{os}{bx'}{oc}:WE ⟨sl,ow,al,bx⟩ dst (some (vs,os,bx',oc))=some (rr ⟨sl,Rf oc++Ui ow,pp al,bx'⟩ dst vs os):=rfl
def vz(cf:Callee)(st:St)(dst:Option Nat)(f:FuncId)(args:List PV):Option Ye->Option St
 |some (vs,os,_,_)=>if Eb vs then some (rr st dst vs os)else Lc cf st dst f args
 |none=>none
def uz(cf:Callee)(st:St)(dst:Option Nat)(f:FuncId)(args:List PV):Bool->Option St
 |true=>vz cf st dst f args (cf f args [] [])
 |false=>Lc cf st dst f args
theorem aZ{dst}{f}{args}:Tc cf st dst f args=uz cf st dst f args (Eb args):=by
 unfold Tc;cases Eb args with
 |false=>rfl
 |true=>
  simp only[if_true,uz];cases cf f args [] []with
  |none=>rfl
  |some r=>
   obtain⟨vs,os,bx',oc⟩:=r;simp only[Ja,vz];split
   ·cases dst with
    |none=>rfl
    |some d=>cases os<;>rfl
   ·rfl
theorem B7{dst}{f}{args}:uz cf st dst f args true=vz cf st dst f args (cf f args [] []):=rfl
theorem A7{dst}{f}{args}:uz cf st dst f args false=Lc cf st dst f args:=rfl
theorem w7{dst}{f}{args vs}{os}{bx'}{oc}:vz cf st dst f args (some (vs,os,bx',oc))=if Eb vs then some (rr st dst vs os)else Lc cf st dst f args:=rfl
theorem zes{dst}{f}{args}:ma cf st dst (.call f args)=Tc cf st dst f (Il st.sl args):=by
 simp only[ma,Yq]
def wz(cf:Callee)(st:St)(dst:Option Nat)(args:List PV):PV->Option St
 | .cb f Ya=>if f=hb then none else Tc cf st dst f (args++Ya)
 | .tag k cs=>if k % 2=0/\k/2≠hb then Tc cf st dst (k/2) (cs++args)else none
 | .Oa b=>Lc cf st dst hb (.Oa b::args)
 |_=>none
theorem zeu{dst}{g}{args}:ma cf st dst (.callv g args)=wz cf st dst (Il st.sl args) (g.ev st.sl):=by
 simp only[ma,Yq];rfl
theorem x7{dst}{args Ya}{f}:wz cf st dst args (.cb f Ya)=if f=hb then none else Tc cf st dst f (args++Ya):=rfl
theorem y7{dst}{args cs}{k}:wz cf st dst args (.tag k cs)=if k % 2=0/\k/2≠hb then Tc cf st dst (k/2) (cs++args)else none:=rfl
def aS(cf:Callee)(st:St)(dst:Option Nat)(Ih:List (Nat×Nat))(args:List PV):PV->Option St
 | .tag k [v]=>(Ih.lookup k).bind fun f=>if f=hb then none else Tc cf st dst f (v.ib::args)
 |_=>none
theorem zet{dst}{Ih}{x}{args}:ma cf st dst (.calli Ih x args)=aS cf st dst Ih (Il st.sl args) (x.ev st.sl):=by
 simp only[ma,Yq];rfl
theorem v7{dst}{Ih}{args}{k v}:aS cf st dst Ih args (.tag k [v])=(Ih.lookup k).bind fun f=>if f=hb then none else Tc cf st dst f (v.ib::args):=rfl
theorem z7{dst}{args}{b}:wz cf st dst args (.Oa b)=Lc cf st dst hb (.Oa b::args):=rfl
theorem zdS{dst}{op}:stepG cf st ⟨dst,none,op⟩=ma cf st dst op:=rfl
def fF(cf:Callee)(st:St)(dst:Option Nat)(op:Ea)(a:Bool):PV->Option St
 | .flat (.bool b)=>if b=a then ma cf st dst op else some (st.Pd dst (.Jc []))
 | .Jc []=>some (st.Pd dst (.Jc []))
 |_=>none
theorem zdT{dst}{op}{s}{a}:stepG cf st ⟨dst,some (s,a),op⟩=fF cf st dst op a (look st.sl s):=by
 simp only[stepG,fh];generalize look st.sl s=p;cases p with
 |flat v=>cases v<;>first|rfl|(rename_i b;cases b<;>cases a<;>rfl)
 |Jc l=>cases l<;>rfl
 |_=>rfl
theorem W7{dst}{op}{b a}:fF cf st dst op a (.flat (.bool b))=if b=a then ma cf st dst op else some (st.Pd dst (.Jc [])):=rfl
theorem X7{dst}{op}{a}:fF cf st dst op a (.Jc [])=some (st.Pd dst (.Jc [])):=rfl
def eS(cf:Callee)(r:List Ta):Option St->Option St
 |some st=>Hc cf r st
 |none=>none
theorem zba:Hc cf [] st=some st:=rfl
theorem za9{o}{r}:Hc cf (o::r) st=eS cf r (stepG cf st o):=by
 simp only[Hc];cases stepG cf st o<;>rfl
theorem x8{r}:eS cf r (some st)=Hc cf r st:=rfl
def gS(cf:Callee)(r:List Ta):Option St->Option St
 |some st=>tg cf r st
 |none=>none
theorem pre_nil:tg cf [] st=some st:=rfl
theorem zcI{o}{r}:tg cf (o::r) st=gS cf r (ce cf st o):=by
 simp only[tg];cases ce cf st o<;>rfl
theorem E8{r}:gS cf r (some st)=tg cf r st:=rfl
def xz(cf:Callee)(st:St)(dst:Option Nat)(op:Ea):Bool->Option St
 |true=>ma cf st dst op
 |false=>none
theorem H7{dst}{op}:xz cf st dst op true=ma cf st dst op:=rfl
theorem zeY{dst}{op}:ce cf st ⟨dst,none,op⟩=xz cf st dst op (jb cf st.sl op):=by
 simp only[ce,fh,Ja,if_true];cases jb cf st.sl op<;>rfl
def zz(cf:Callee)(st:St)(dst:Option Nat)(op:Ea)(a:Bool):PV->Option St
 | .flat (.bool b)=>if b=a then xz cf st dst op (jb cf st.sl op)else some (st.Pd dst (.Jc []))
 | .Jc []=>some (st.Pd dst (.Jc []))
 |_=>none
theorem zeZ{dst}{op}{s}{a}:ce cf st ⟨dst,some (s,a),op⟩=zz cf st dst op a (look st.sl s):=by
 simp only[ce,fh];generalize look st.sl s=p;cases p with
 |flat v=>
  cases v<;>first|rfl|skip
  rename_i b;cases b<;>cases a<;>first|rfl|(simp only[zz,Ja,BEq.rfl,if_true];cases jb cf st.sl op<;>rfl)
 |Jc l=>cases l<;>rfl
 |_=>rfl
theorem U7{dst}{op}{b a}:zz cf st dst op a (.flat (.bool b))=if b=a then xz cf st dst op (jb cf st.sl op)else some (st.Pd dst (.Jc [])):=rfl
theorem V7{dst}{op}{a}:zz cf st dst op a (.Jc [])=some (st.Pd dst (.Jc [])):=rfl
theorem zcg{x}:jb cf sl (.mv x)=true:=rfl
theorem zch{s}:jb cf sl (.mvA s)=true:=rfl
theorem zbS{x}:jb cf sl (.asg x)=true:=rfl
theorem zcl{a b c}:jb cf sl (.pick a b c)=true:=rfl
theorem zbV{o}{x y}:jb cf sl (.bin o x y)=true:=rfl
theorem zb2{b}{ks}{x y}:jb cf sl (.Qm b ks x y)=true:=rfl
theorem zbU{b}{x y}:jb cf sl (.beq b x y)=true:=rfl
theorem zci{x}:jb cf sl (.Rp x)=true:=rfl
theorem zcj{x}:jb cf sl (.Wl x)=true:=rfl
theorem zcp{o}{x}:jb cf sl (.un o x)=true:=rfl
theorem zb1{k}{x}:jb cf sl (.conv k x)=true:=rfl
theorem zbT{x}:jb cf sl (.b2s x)=true:=rfl
theorem zbX{zs}{ps}:jb cf sl (.build zs ps)=true:=rfl
theorem zcd{b}{m k}{zs}{ps}:jb cf sl (.mksl b m k zs ps)=true:=rfl
theorem zcb{g}{m}{a}:jb cf sl (.load g m a)=true:=rfl
theorem zcc{a}:jb cf sl (.loadA a)=true:=rfl
theorem zb4{o}{a}:jb cf sl (.Vm o a)=true:=rfl
theorem zb5{g}{o m}{a}:jb cf sl (.Wm g o m a)=true:=rfl
theorem zb6{m}{x i}:jb cf sl (.Ji m x i)=true:=rfl
theorem zb7{x i}:jb cf sl (.idx x i)=true:=rfl
theorem zb8{g}{m k}{x i}:jb cf sl (.Yj g m k x i)=true:=rfl
theorem zck{m k}{x i}:jb cf sl (.jn m k x i)=true:=rfl
theorem zcn{m k}{x}{b a}:jb cf sl (.sliceP m k x b a)=true:=rfl
theorem zcm{m}{x}{b a}:jb cf sl (.slice m x b a)=true:=rfl
theorem zco{x}{b a}:jb cf sl (.sliceS x b a)=true:=rfl
theorem zb3{x}{i}:jb cf sl (.ext x i)=true:=rfl
theorem zb9{x}:jb cf sl (.len x)=true:=rfl
theorem zca{x}:jb cf sl (.Vn x)=true:=rfl
theorem zcf{b}{x y}:jb cf sl (.mm b x y)=true:=rfl
theorem zb0{f}{cs}:jb cf sl (.clos f cs)=true:=rfl
theorem zce{f}{cs}:jb cf sl (.mkt f cs)=true:=rfl
theorem zbR{e}{zs}:jb cf sl (.alloc e zs)=Xl zs:=rfl
theorem zbW{e m}{x}:jb cf sl (.box e m x)=Xl (x.ev sl).cells:=rfl
theorem zbY{f}{args}:jb cf sl (.call f args)=yj cf f (Il sl args):=by grind [jb,Yq]
theorem zbZ{g}{args}:jb cf sl (.callv g args)=match g.ev sl with| .cb f Ya=>f !=hb&&yj cf f (Il sl args++Ya)|_=>false:=by
 grind [jb,Yq]
def fS:Option Ye->Bool
 |some (vs,_)=>Eb vs
 |none=>false
theorem zcy{f}{args}:yj cf f args=(Eb args&&fS (cf f args [] [])):=by
 rfl
theorem D8{vs}{r}:fS (some (vs,r))=Eb vs:=rfl
def Ez(live:List Nat):Option St->Option (Out×St)
 |some st=>some (.normal,st.Gf live)
 |none=>none
theorem N8:Ez live (some st)=some (.normal,st.Gf live):=rfl
def tF(cf:Callee)(live:List Nat)(a:List Ta):Option St->Option (Out×St)
 |some st=>Ez live (Hc cf a st)
 |none=>none
theorem K8{a}:tF cf live a (some st)=Ez live (Hc cf a st):=rfl
noncomputable def kT(cf:Callee)(live:List Nat)(t:BT):Option St->Option St
 |some st=>yd cf live t st
 |none=>none
theorem i9{t}:kT cf live t (some st)=yd cf live t st:=rfl
theorem zf6:yd cf live .done st=some (st.Gf live):=rfl
theorem zf7{o}{t}:yd cf live (.one o t) st=kT cf live t (stepG cf st o):=by
 simp only[yd];cases stepG cf st o<;>rfl
theorem zf8{o}{t r}:yd cf live (.two o t r) st=same (kT cf live t (stepG cf st o)) (yd cf live r st):=by
 simp only[yd];cases stepG cf st o<;>rfl
theorem NI{st:St}:same (some st) (some st)=some st:=if_pos rfl
def Fz:Option St->Option (Out×St)
 |some st=>some (.normal,st)
 |none=>none
theorem M8:Fz (some st)=some (.normal,st):=rfl
theorem zcV:bg cf [] st=some st:=rfl
noncomputable def kQ(cf:Callee)(r:List Ta):Option St->Option St
 |some st=>bg cf r st
 |none=>none
theorem G8{r}:kQ cf r (some st)=bg cf r st:=rfl
theorem zcU{o}{r}:bg cf (o::r) st=kQ cf r (Qc cf st o):=by
 simp only[bg];cases Qc cf st o<;>rfl
noncomputable def Hp(st:St)(d:Nat):Option St->Option St
 |some s'=>Mv st d s' (s'.bx=st.bx) (s'.ow.filter Ba=st.ow.filter Ba)
 |none=>none
where
 Mv (st:St) (d:Nat) (s':St) (p q:Prop):Option St:=open Classical in if p/\q then some (st.put d (look s'.sl d))else none
theorem H8{s1}{o1}{a}{b1}{d}:Hp ⟨sl,ow,al,bx⟩ d (some ⟨s1,o1,a,b1⟩)=Hp.Mv ⟨sl,ow,al,bx⟩ d ⟨s1,o1,a,b1⟩ (b1=bx) (Rf o1=Rf ow):=by
 grind [Hp,Hs]
theorem I8{d}{s1}{o1}{a}{b1}:Hp.Mv st d ⟨s1,o1,a,b1⟩ True True=some (st.put d (look s1 d)):=by
 grind [Hp.Mv]
theorem zfa{d}{g}{f}{az}:Qc cf st ⟨some d,g,.call f az⟩=Hp st d (stepG cf st ⟨some d,g,.call f az⟩):=by
 unfold Qc;dsimp only;cases stepG cf st ⟨some d,g,.call f az⟩<;>grind [Hp,Hp.Mv]
theorem zfp{d}{g}{x}:Qc cf st ⟨d,g,.mv x⟩=stepG cf st ⟨d,g,.mv x⟩:=pa
theorem ze6{d}{g}{x}:Qc cf st ⟨d,g,.asg x⟩=stepG cf st ⟨d,g,.asg x⟩:=pa
theorem zft{d}{g}{a b c}:Qc cf st ⟨d,g,.pick c a b⟩=stepG cf st ⟨d,g,.pick c a b⟩:=pa
theorem ze8{d}{g}{o}{x y}:Qc cf st ⟨d,g,.bin o x y⟩=stepG cf st ⟨d,g,.bin o x y⟩:=pa
theorem zfd{d}{g}{b}{ks}{x y}:Qc cf st ⟨d,g,.Qm b ks x y⟩=stepG cf st ⟨d,g,.Qm b ks x y⟩:=pa
theorem ze7{d}{g}{b}{x y}:Qc cf st ⟨d,g,.beq b x y⟩=stepG cf st ⟨d,g,.beq b x y⟩:=pa
theorem zfq{d}{g}{x}:Qc cf st ⟨d,g,.Rp x⟩=stepG cf st ⟨d,g,.Rp x⟩:=pa
theorem zfr{d}{g}{x}:Qc cf st ⟨d,g,.Wl x⟩=stepG cf st ⟨d,g,.Wl x⟩:=pa
theorem zfx{d}{g}{o}{x}:Qc cf st ⟨d,g,.un o x⟩=stepG cf st ⟨d,g,.un o x⟩:=pa
theorem zfc{d}{g}{k}{x}:Qc cf st ⟨d,g,.conv k x⟩=stepG cf st ⟨d,g,.conv k x⟩:=pa
theorem ze9{d}{g}{zs}{ps}:Qc cf st ⟨d,g,.build zs ps⟩=stepG cf st ⟨d,g,.build zs ps⟩:=pa
theorem zfm{d}{g}{b}{m}{x}:Qc cf st ⟨d,g,.load b m x⟩=stepG cf st ⟨d,g,.load b m x⟩:=pa
theorem zff{d}{g}{o}{x}:Qc cf st ⟨d,g,.Vm o x⟩=stepG cf st ⟨d,g,.Vm o x⟩:=pa
theorem zfg{d}{g}{b}{o m}{x}:Qc cf st ⟨d,g,.Wm b o m x⟩=stepG cf st ⟨d,g,.Wm b o m x⟩:=pa
theorem zfh{d}{g}{m}{x i}:Qc cf st ⟨d,g,.Ji m x i⟩=stepG cf st ⟨d,g,.Ji m x i⟩:=pa
theorem zfi{d}{g}{x i}:Qc cf st ⟨d,g,.idx x i⟩=stepG cf st ⟨d,g,.idx x i⟩:=pa
theorem zfj{d}{g}{b}{m k}{x i}:Qc cf st ⟨d,g,.Yj b m k x i⟩=stepG cf st ⟨d,g,.Yj b m k x i⟩:=pa
theorem zfs{d}{g}{m k}{x i}:Qc cf st ⟨d,g,.jn m k x i⟩=stepG cf st ⟨d,g,.jn m k x i⟩:=pa
theorem zfv{d}{g}{m k}{x}{b a}:Qc cf st ⟨d,g,.sliceP m k x b a⟩=stepG cf st ⟨d,g,.sliceP m k x b a⟩:=pa
theorem zfu{d}{g}{m}{x}{b a}:Qc cf st ⟨d,g,.slice m x b a⟩=stepG cf st ⟨d,g,.slice m x b a⟩:=pa
theorem zfw{d}{g}{x}{b a}:Qc cf st ⟨d,g,.sliceS x b a⟩=stepG cf st ⟨d,g,.sliceS x b a⟩:=pa
theorem zfe{d}{g}{x}{i}:Qc cf st ⟨d,g,.ext x i⟩=stepG cf st ⟨d,g,.ext x i⟩:=pa
theorem zfk{d}{g}{x}:Qc cf st ⟨d,g,.len x⟩=stepG cf st ⟨d,g,.len x⟩:=pa
theorem zfl{d}{g}{x}:Qc cf st ⟨d,g,.Vn x⟩=stepG cf st ⟨d,g,.Vn x⟩:=pa
theorem zfo{d}{g}{b}{x y}:Qc cf st ⟨d,g,.mm b x y⟩=stepG cf st ⟨d,g,.mm b x y⟩:=pa
theorem zfb{d}{g}{f}{xs}:Qc cf st ⟨d,g,.clos f xs⟩=stepG cf st ⟨d,g,.clos f xs⟩:=pa
theorem zfn{d}{g}{f}{xs}:Qc cf st ⟨d,g,.mkt f xs⟩=stepG cf st ⟨d,g,.mkt f xs⟩:=pa
noncomputable def uF(cf:Callee)(live:List Nat)(t:BT):Option St->Option (Out×St)
 |some st=>Fz (yd cf live t st)
 |none=>none
theorem L8{t}:uF cf live t (some st)=Fz (yd cf live t st):=rfl
theorem UY{t}:oa cf n (.jg live [] t) st=Fz (yd cf live t st):=by
 simp only[oa,bg,Ja];cases yd cf live t st<;>rfl
theorem VY{p}{ps}{t}:oa cf n (.jg live (p::ps) t) st=uF cf live t (bg cf (p::ps) st):=by
 simp only[oa];cases bg cf (p::ps) st with
 |none=>rfl
 |some s=>simp only[Ja,uF];cases yd cf live t s<;>rfl
theorem XY:oa cf n .skip st=some (.normal,st):=rfl
theorem SY{a}:oa cf n (.kb live [] a) st=Ez live (Hc cf a st):=by
 simp only[oa,tg,Ja];cases Hc cf a st<;>rfl
theorem TY{p}{ps a}:oa cf n (.kb live (p::ps) a) st=tF cf live a (tg cf (p::ps) st):=by
 simp only[oa];cases tg cf (p::ps) st with
 |none=>rfl
 |some s=>simp only[Ja,tF];cases Hc cf a s<;>rfl
noncomputable def Gz(cf:Callee)(n:Nat)(b:ka):Option (Out×St)->Option (Out×St)
 |some (.normal,st)=>oa cf n b st
 |some (.exit i,st)=>some (.exit i,st)
 |some (.ret,st)=>some (.ret,st)
 |none=>none
theorem Mu{a b}:oa cf n (.seq a b) st=Gz cf n b (oa cf n a st):=by
 simp only[oa];cases oa cf n a st with
 |none=>rfl
 |some r=>obtain⟨o,s⟩:=r;cases o<;>rfl
theorem Ov{b}:Gz cf n b (some (.normal,st))=oa cf n b st:=rfl
theorem V8{b}{i}:Gz cf n b (some (.exit i,st))=some (.exit i,st):=rfl
theorem W8{b}:Gz cf n b (some (.ret,st))=some (.ret,st):=rfl
noncomputable def cS(cf:Callee)(n:Nat)(a b:ka)(st:St):PV->Option (Out×St)
 | .flat (.bool t)=>if t then oa cf n a st else oa cf n b st
 |_=>none
theorem HY{c}{a b}:oa cf n (.cond c a b) st=cS cf n a b st (c.ev st.sl):=by
 rfl
theorem D7{a b}{t}:cS cf n a b st (.flat (.bool t))=if t then oa cf n a st else oa cf n b st:=rfl
def Fv(id nb:Nat):Option (Out×St)->Option (Out×St)
 |some (.normal,st)=>some (.normal,st.Ei nb)
 |some (.exit j,st)=>if j=id then some (.normal,st.Ei nb)else some (.exit j,st)
 |some (.ret,st)=>some (.ret,st)
 |none=>none
theorem FY{id}{b}:oa cf n (.block id b) st=Fv id st.bx.length (oa cf n b st):=by
 simp only[oa];cases oa cf n b st with
 |none=>rfl
 |some r=>
  obtain⟨o,s⟩:=r;cases o<;>grind [Fv]
theorem p7{id nb}:Fv id nb (some (.normal,st))=some (.normal,st.Ei nb):=rfl
theorem o7{id nb j}:Fv id nb (some (.exit j,st))=if j=id then some (.normal,st.Ei nb)else some (.exit j,st):=rfl
theorem q7{id nb}:Fv id nb (some (.ret,st))=some (.ret,st):=rfl
theorem JY{b}:oa cf n (.loop live b) st=Cc (oa cf n b) live st.bx.length n (st.only live st.bx.length):=rfl
theorem IY{id}:oa cf n (.exit id live) st=some (.exit id,st.Gf live):=rfl
theorem WY:oa cf n (.ret live) st=some (.ret,st.Gf live):=rfl
def Kv(b:Nat)(f k:Nat)(live:List Nat)(a:List PV)(st:St):yq->Option (Out×St)
 | .ready=>some (.normal,⟨st.sl,st.ow,st.al,st.bx.set b (0,[.lp f k .over live a])⟩)
 | .done (.exit i)=>some (.exit i,⟨st.sl,st.ow,st.al,st.bx.set b (0,[.lp f k .over live a])⟩)
 | .done .ret=>some (.ret,⟨st.sl,st.ow,st.al,st.bx.set b (0,[.lp f k .over live a])⟩)
 |_=>none
theorem z8{b f k}{a}:Kv b f k live a ⟨sl,ow,al,bx⟩ .ready=some (.normal,⟨sl,ow,al,bx.set b (0,[.lp f k .over live a])⟩):=rfl
theorem y8{b f k i}{a}:Kv b f k live a ⟨sl,ow,al,bx⟩ (.done (.exit i))=some (.exit i,⟨sl,ow,al,bx.set b (0,[.lp f k .over live a])⟩):=rfl
theorem A8{b f k}{a}:Kv b f k live a ⟨sl,ow,al,bx⟩ (.done .ret)=some (.ret,⟨sl,ow,al,bx.set b (0,[.lp f k .over live a])⟩):=rfl
def ZE(b:Nat)(st:St):Option (Nat×List PV)->Option (Out×St)
 |some (_,[.lp f k s live a])=>Kv b f k live a st s
 |_=>none
theorem I7{b e f k}{s}{a}:ZE b st (some (e,[.lp f k s live a]))=Kv b f k live a st s:=rfl
def wF(b:Nat):Option St->Option (Out×St)
 |some st=>ZE b st (st.bx[b]?)
 |none=>none
theorem T8{b}:wF b (some ⟨sl,ow,al,bx⟩)=ZE b ⟨sl,ow,al,bx⟩ (bx[b]?):=rfl
def rF(cf:Callee)(f k:Nat)(live:List Nat)(st:St):PV->Option (Out×St)
 | .cb h Ya=>if h=hb then none else wF st.bx.length (Lc cf ⟨st.sl,st.ow,st.al,st.bx++[(0,[.lp f k .ready live (Xi (Ql st.sl live))])]⟩ none h (.Oa st.bx.length::Ya))
 |_=>none
theorem RY{f k}{g}:oa cf n (.range f k live g) st=rF cf f k live st (g.ev st.sl):=by
 have a:live.map (look st.sl)=Xi (Ql st.sl live):=by
  rw[<-kB,KS,List.map_map];rfl
 simp only[oa,Ok];generalize g.ev st.sl=p;cases p with
 |cb h Ya=>
  simp only[rF];split
  ·rfl
  ·rw[a]
   cases Lc cf ⟨st.sl,st.ow,st.al,st.bx++[(0,[.lp f k .ready live (Xi (Ql st.sl live))])]⟩ none h (.Oa st.bx.length::Ya)with
   |none=>rfl
   |some b=>
    rfl
 |_=>rfl
theorem J8{f k}{h}{Ya}:rF cf f k live ⟨sl,ow,al,bx⟩ (.cb h Ya)=if h=hb then none else wF bx.length (Lc cf ⟨sl,ow,al,bx++[(0,[.lp f k .ready live (Xi (Ql sl live))])]⟩ none h (.Oa bx.length::Ya)):=rfl
def Hh(st:St):List (Sum Nat (Nat×Bool×Nat))->Option (List PV)
 |[]=>some []
 | .inl i::r=>(Hh st r).map (look st.sl i::·)
 | .inr (i,agg,m)::r=>vF (match look st.sl i with| .ptr b o=>bm agg m o (vd st.bx b)|_=>none) (Hh st r)
where vF:Option PV->Option (List PV)->Option (List PV)
 |some v,some vs=>some (v::vs)
 |_,_=>none
theorem zds:Hh st []=some []:=rfl
theorem YU{i}{r}:Hh st (.inl i::r)=(Hh st r).map (look st.sl i::·):=rfl
def Nv(st:St)(agg:Bool)(m:Nat):PV->Option PV
 | .ptr b o=>bm agg m o (vd st.bx b)
 |_=>none
theorem ZU{i m}{agg}{r}:Hh st (.inr (i,agg,m)::r)=Hh.vF (Nv st agg m (look st.sl i)) (Hh st r):=by
 rfl
theorem P8{agg}{m b o}:Nv ⟨sl,ow,al,bx⟩ agg m (.ptr b o)=bm agg m o (vd bx b):=rfl
theorem O8{v}{vs}:Hh.vF (some v) (some vs)=some (v::vs):=rfl
theorem DI:∀l,l.mapM (Bj st)=Hh st l
 |[]=>rfl
 | .inl i::r=>by
   rw[kq,DI r,YU];simp only[Bj,Option.pure_def,Option.bind_eq_bind,Ja];cases Hh st r<;>rfl
 | .inr (i,agg,m)::r=>by
   rw[kq,DI r,ZU];have a:Bj st (.inr (i,agg,m))=Nv st agg m (look st.sl i):=by
    simp only[Bj];generalize look st.sl i=p;cases p with
    |ptr b o=>
     simp only[Nv];cases vd st.bx b with
     |none=>rfl
     |some q=>obtain⟨e,cs⟩:=q;cases agg<;>rfl
    |_=>rfl
   rw[a];simp only[Option.pure_def,Option.bind_eq_bind];cases Nv st agg m (look st.sl i)with
   |none=>rfl
   |some v=>cases Hh st r<;>rfl
def Uk(ub:List (Sum Nat (Nat×Bool×Nat)))(bx:Na)(st:St):Option (List PV)->Option Ye
 |some vs=>some (vs,Kr ub st.ow,trim bx.length vs st.bx,sc (trim bx.length vs st.bx).length st.ow)
 |none=>none
where Kr:List (Sum Nat (Nat×Bool×Nat))->List Loc->Bool
 |[.inl s],ow=>owns ow (.slot s)
 |_,_=>false
def Gp(ub:List (Sum Nat (Nat×Bool×Nat)))(bx:Na):Option (Out×St)->Option Ye
 |some (.normal,st)=>Uk ub bx st (Hh st ub)
 |some (.ret,st)=>Uk ub bx st (Hh st ub)
 |_=>none
theorem ja{code}{lib}{f}{nt}{ub}{body}{oo}(c:code f=some ⟨nt,ub,body,oo⟩){args}{bx}{oc}{r}(e:args.length<=nt)
 (h:Gp ub bx (oa (da code lib) ia body ⟨Bh 0 args,oc,[],bx⟩)=some r):da code lib f args bx oc=some r:=by
 refine pQ (n:=ia) c ?_;unfold On;dsimp only;rw[if_pos e];cases b:oa (da code lib) ia body ⟨Bh 0 args,oc,[],bx⟩with
 |none=>rw[b]at h;cases h
 |some p=>
  obtain⟨o,st⟩:=p;rw[b]at h;have a:jo ub st.ow=Uk.Kr ub st.ow:=by
   have d:∀s,decide (Loc.slot s∈st.ow)=owns st.ow (.slot s):=fun s=>by
    grind [nk]
   clear b h c;generalize ub=rs;rcases rs with _|⟨q,_|⟨g,rs⟩⟩
   ·rfl
   ·cases q with
    |inl s=>exact d s
    |inr x=>rfl
   ·cases q<;>rfl
  have fin:Uk ub bx st (Hh st ub)=some r->(ub.mapM (Bj st)).map (fun vs=>(vs,jo ub st.ow,trim bx.length vs st.bx,Th (trim bx.length vs st.bx).length st.ow))=some r:=fun h=>by
   rw[DI];cases hr:Hh st ub with
   |none=>rw[hr]at h;cases h
   |some vs=>rw[hr]at h;simp only[jd,a,Yt];exact h
  cases o with
  |exit i=>cases h
  |normal=>exact fin h
  |ret=>exact fin h
theorem P7{ub}:Gp ub bx (some (.normal,st))=Uk ub bx st (Hh st ub):=rfl
theorem Q7{ub}:Gp ub bx (some (.ret,st))=Uk ub bx st (Hh st ub):=rfl
theorem e8{ub}{vs}:Uk ub bx st (some vs)=some (vs,Uk.Kr ub st.ow,trim bx.length vs st.bx,sc (trim bx.length vs st.bx).length st.ow):=rfl
theorem zbm{s}:Uk.Kr [.inl s] ow=owns ow (.slot s):=rfl
theorem zbl:Uk.Kr [] ow=false:=rfl
theorem zbo{q}{r}:Uk.Kr (.inr q::r) ow=false:=rfl
theorem zbn{a b}{r}:Uk.Kr (a::b::r) ow=false:=by cases a<;>rfl
def et(nb b:Nat)(f k:Nat)(live:List Nat)(a:List PV)(o:Out)(ow:List Loc)(bx:Na):Option Ye:=
 match o with
 | .normal=>some ([.flat (.bool true)],false,trim nb [] (bx.set b (0,[.lp f k .ready live a])),sc (trim nb [] (bx.set b (0,[.lp f k .ready live a]))).length ow)
 | .exit i=>some ([.flat (.bool false)],false,trim nb [] (bx.set b (0,[.lp f k (.done (.exit i)) live a])),sc (trim nb [] (bx.set b (0,[.lp f k (.done (.exit i)) live a]))).length ow)
 | .ret=>some ([.flat (.bool false)],false,trim nb [] (bx.set b (0,[.lp f k (.done .ret) live a])),sc (trim nb [] (bx.set b (0,[.lp f k (.done .ret) live a]))).length ow)
def Jz(nb b:Nat)(o:Out)(st:St):Option (Nat×List PV)->Option Ye
 |some (_,[.lp f k .busy live a])=>et nb b f k live a o st.ow st.bx
 |_=>none
def Kz(nb b:Nat):Option (Out×St)->Option Ye
 |some (o,st)=>Jz nb b o st (st.bx[b]?)
 |none=>none
noncomputable def Lz(cf:Callee)(n:Nat)(nb b:Nat)(body:ka)(st:St):Option (Nat×List PV)->Option Ye
 |some (_,[.lp f k .ready live a])=>Kz nb b (oa cf n body ⟨st.sl,st.ow,st.al,st.bx.set b (0,[.lp f k .busy live a])⟩)
 |_=>none
noncomputable def BF(cf:Callee)(n:Nat)(nb b:Nat)(body:ka):Option (Out×St)->Option Ye
 |some (.normal,st)=>Lz cf n nb b body st (st.bx[b]?)
 |_=>none
theorem vp{code}{lib}(F:code hb=none){f k b e:Nat}{a}{c}{ps}{q t}(C:code f=some c)(E:c.oo[k]?=some (ps,q,t)){az}{bx}{oc}{r}
 (B:bx[b]?=some (e,[.lp f k .ready live a])) (D:az.length=ps.length)
 (h:BF (da code lib) ia bx.length b t (oa (da code lib) ia q ⟨(ps.zip az).foldl (fun l p=>p::l) (live.zip a),oc,[],bx⟩)=some r):da code lib hb (.Oa b::az) bx oc=some r:=by
 refine W3 (n:=ia) F ?_;unfold Jl;dsimp only;rw[B];dsimp only;rw[C,Ja,E,Ja,if_pos D];dsimp only;cases z:oa (da code lib) ia q ⟨(ps.zip az).foldl (fun l p=>p::l) (live.zip a),oc,[],bx⟩with
 |none=>rw[z]at h;cases h
 |some p=>
  obtain⟨o1,s1⟩:=p;rw[z]at h;simp only[Ja];cases o1 with
  |exit i=>cases h
  |ret=>cases h
  |normal=>
   simp only[BF]at h;unfold Lz at h;split at h
   case h_2=>cases h
   rename_i e1 A G d g u;rw[u];dsimp only;cases j:oa (da code lib) ia t ⟨s1.sl,s1.ow,s1.al,s1.bx.set b (0,[.lp A G .busy d g])⟩with
   |none=>rw[j]at h;cases h
   |some p=>
    obtain⟨o,s⟩:=p;rw[j]at h;simp only[Ja];simp only[Kz]at h;unfold Jz at h;split at h
    case h_2=>cases h
    rename_i e2 H I x y w;rw[w];dsimp only;have ht:∀(v:Bool)(bx':Na),trim bx.length [.flat (.bool v)] bx'=trim bx.length [] bx':=fun v bx'=>by
     rfl
    grind [et,Yt]
theorem j9{nb b}{body}:BF cf n nb b body (some (.normal,⟨sl,ow,al,bx⟩))=Lz cf n nb b body ⟨sl,ow,al,bx⟩ (bx[b]?):=rfl
theorem m9{nb b e f k}{body}{a}:Lz cf n nb b body ⟨sl,ow,al,bx⟩ (some (e,[.lp f k .ready live a]))=Kz nb b (oa cf n body ⟨sl,ow,al,bx.set b (0,[.lp f k .busy live a])⟩):=rfl
theorem l9{nb b}{o}:Kz nb b (some (o,⟨sl,ow,al,bx⟩))=Jz nb b o ⟨sl,ow,al,bx⟩ (bx[b]?):=rfl
theorem k9{nb b e f k}{o}{a}:Jz nb b o ⟨sl,ow,al,bx⟩ (some (e,[.lp f k .busy live a]))=et nb b f k live a o ow bx:=rfl
theorem o9{nb b f k}{a}:et nb b f k live a .normal ow bx=some ([.flat (.bool true)],false,trim nb [] (bx.set b (0,[.lp f k .ready live a])),sc (trim nb [] (bx.set b (0,[.lp f k .ready live a]))).length ow):=rfl
theorem n9{nb b f k i}{a}:et nb b f k live a (.exit i) ow bx=some ([.flat (.bool false)],false,trim nb [] (bx.set b (0,[.lp f k (.done (.exit i)) live a])),sc (trim nb [] (bx.set b (0,[.lp f k (.done (.exit i)) live a]))).length ow):=rfl
theorem p9{nb b f k}{a}:et nb b f k live a .ret ow bx=some ([.flat (.bool false)],false,trim nb [] (bx.set b (0,[.lp f k (.done .ret) live a])),sc (trim nb [] (bx.set b (0,[.lp f k (.done .ret) live a]))).length ow):=rfl
end
theorem s4{k}{a b}:Uc .add (.int k a) (.int k b)=some (.int k (k.wrap (a+b))):=by simp[Uc]
theorem K4{k}{a b}:Uc .sub (.int k a) (.int k b)=some (.int k (k.wrap (a - b))):=by simp[Uc]
theorem D4{k}{a b}:Uc .mul (.int k a) (.int k b)=some (.int k (k.wrap (a* b))):=by simp[Uc]
theorem G4{k}{a b}:Uc .quo (.int k a) (.int k b)=if b=0 then none else some (.int k (k.wrap (a.tdiv b))):=by simp[Uc]
theorem H4{k}{a b}:Uc .rem (.int k a) (.int k b)=if b=0 then none else some (.int k (a.tmod b)):=by simp[Uc]
def Fm(k:IntKind)(a b:Int):Int:=k.wrap (BitVec.ofInt k.bits a&&&BitVec.ofInt k.bits b).toNat
theorem w4{k}{a b}:Uc .and (.int k a) (.int k b)=some (.int k (Fm k a b)):=by simp[Uc,Fm]
def Dg(k:IntKind)(a b:Int):Int:=k.wrap (BitVec.ofInt k.bits a|||BitVec.ofInt k.bits b).toNat
theorem F4{k}{a b}:Uc .or (.int k a) (.int k b)=some (.int k (Dg k a b)):=by simp[Uc,Dg]
def PK(k:IntKind)(a b:Int):Int:=k.wrap (BitVec.ofInt k.bits a ^^^ BitVec.ofInt k.bits b).toNat
theorem L4{k}{a b}:Uc .xor (.int k a) (.int k b)=some (.int k (PK k a b)):=by simp[Uc,PK]
theorem I4{k k'}{a b}:Uc .shl (.int k a) (.int k' b)=if b<0 then none else some (.int k (k.wrap (a* 2^(min b.toNat k.bits)))):=pa
theorem J4{k k'}{a b}:Uc .shr (.int k a) (.int k' b)=if b<0 then none else some (.int k (a.fdiv (2^(min b.toNat k.bits)))):=pa
theorem x4{k}{a b}:Uc .eql (.int k a) (.int k b)=some (.bool (decide (a=b))):=by grind [Uc]
theorem E4{k}{a b}:Uc .neq (.int k a) (.int k b)=some (.bool (!decide (a=b))):=by grind [Uc]
theorem C4{k}{a b}:Uc .lss (.int k a) (.int k b)=some (.bool (decide (a<b))):=by simp[Uc]
theorem B4{k}{a b}:Uc .leq (.int k a) (.int k b)=some (.bool (decide (a<=b))):=by simp[Uc]
theorem A4{k}{a b}:Uc .gtr (.int k a) (.int k b)=some (.bool (decide (b<a))):=by simp[Uc]
theorem y4{k}{a b}:Uc .geq (.int k a) (.int k b)=some (.bool (decide (b<=a))):=by simp[Uc]
theorem ey(a:ByteArray):a.toList=a.data.toList:=ByteArray.toList_eq a
def Mn(a b:ByteArray):Bool:=decide (a=b)
theorem D5{a b}:Uc .add (.string a) (.string b)=if a.size+b.size<=za then some (.string (a++b))else none:=rfl
def aQ{a b}:(a.toList==b.toList)=Mn a b:=by
 unfold Mn;by_cases h:a=b
 ·grind
 ·have:a.toList≠b.toList:=fun e=>h (by
   cases a with|mk x=>cases b<;>grind [ey,Array.ext'])
  grind
theorem A3{a b}{ks}{cs c}:Mc (.s::ks) (.flat (.string a)::cs) (.flat (.string b)::c)=nz (Mn a b) (Mc ks cs c):=by
 have h:(a==b)=Mn a b:=by
  show(a.data==b.data)=_;unfold Mn;by_cases h:a=b
  ·grind
  ·have:a.data≠b.data:=fun e=>h (by cases a;simp_all)
   grind
 simp only[Mc,h];cases Mc ks cs c<;>rfl
theorem E5{a b}:Uc .eql (.string a) (.string b)=some (.bool (Mn a b)):=by rw[<-aQ];rfl
theorem F5{a b}:Uc .neq (.string a) (.string b)=some (.bool !(Mn a b)):=by rw[<-aQ];rfl
theorem H5{b}:zp .not (.bool b)=some (.bool !b):=rfl
theorem G5{k}{a}:zp .neg (.int k a)=some (.int k (k.wrap (0 - a))):=rfl
theorem wrap64{n}(h:-9223372036854775808<=n/\n<9223372036854775808):IntKind.i64.wrap n=n:=by
 grind [IntKind.wrap,IntKind.bits,IntKind.signed]
theorem wrap32{n}(h:-2147483648<=n/\n<2147483648):IntKind.i32.wrap n=n:=by
 grind [IntKind.wrap,IntKind.bits,IntKind.signed]
theorem Kj{n}(h:0<=n/\n<256):IntKind.u8.wrap n=n:=by
 grind [IntKind.wrap,IntKind.bits,IntKind.signed]
theorem p6{i}:Bh i []=[]:=rfl
theorem o6{i}{v}{r}:Bh i (v::r)=(i,v)::Bh (i+1) r:=rfl
theorem ziC{f:Nat}:(f=hb)=(f=4611686018427387904):=rfl
def ka.lv:ka->List (List Nat)
 | .loop l c=>l::c.lv
 | .kb l _ _=>[l]
 | .jg l _ _=>[l]
 | .range _ _ l _=>[l]
 | .exit _ l=>[l]
 | .ret l=>[l]
 | .seq a b=>a.lv++b.lv
 | .cond _ a b=>a.lv++b.lv
 | .block _ a=>a.lv
 | .skip=>[]
def B_(qs:List Nat)(F:na):Lv:=⟨F.body.lv,F.oo.map fun q=>q.2.1.lv++q.2.2.lv,qs⟩
def Xa{x y:ka}(h:x=y)(cf:Callee)(m:Nat)(st:St):oa cf m x st=oa cf m y st:=by rw[h]
theorem gH{α:Type}:∀{l:List (FuncId×α)}{f:FuncId}{a:α},l.lookup f=some a->(f,a)∈l
 |[],_,_,h=>by cases h
 |(k,b)::l,f,a,h=>by
  rw[List.lookup_cons]at h;split at h
  ·rename_i e
   cases h;rw[eq_of_beq e];exact iu
  ·exact rn _ (gH h)
namespace Q
abbrev i(n:Nat):X:=.c (.flat (.int .i64 n))
abbrev u(n:Nat):X:=.c (.flat (.int .u8 n))
abbrev s(l:Array UInt8):X:=.c (.flat (.string ⟨l⟩))
abbrev b(x:Bool):X:=.c (.flat (.bool x))
abbrev Z:PV:=.flat (.string ⟨#[]⟩)
abbrev V:PV:=.flat (.slice .none 0 0)
abbrev J:PV:=.flat (.int .i64 0)
abbrev o(d:Nat)(p:Ea):Ta:=⟨some d,none,p⟩
abbrev n(p:Ea):Ta:=⟨none,none,p⟩
abbrev g(k d:Nat)(p:Ea):Ta:=⟨some d,some ⟨k,true⟩,p⟩
abbrev h(k d:Nat)(p:Ea):Ta:=⟨some d,some ⟨k,false⟩,p⟩
abbrev m(d x:Nat):Ta:=⟨some d,none,.mv (.t x)⟩
abbrev a(d x:Nat):Ta:=⟨some d,none,.asg (.t x)⟩
abbrev M(x:Nat):Ea:=.mv (.t x)
abbrev A(x:Nat):Ea:=.asg (.t x)
abbrev AI(x:Nat):Ea:=.asg (i x)
abbrev AU(x:Nat):Ea:=.asg (u x)
abbrev AS(x:Array UInt8):Ea:=.asg (s x)
abbrev AB(x:Bool):Ea:=.asg (b x)
abbrev P(x y:Nat):Ea:=.pick (.t x) (.t y) (b false)
abbrev O(x y:Nat):Ea:=.pick (.t x) (b true) (.t y)
abbrev F(k x:Nat):Ea:=.Vm k (.t x)
abbrev L(k x:Nat):Ea:=.load false k (.t x)
abbrev LT(k x:Nat):Ea:=.load true k (.t x)
abbrev B(k:BinOp)(x y:Nat):Ea:=.bin k (.t x) (.t y)
abbrev BI(k:BinOp)(x y:Nat):Ea:=.bin k (.t x) (i y)
abbrev BU(k:BinOp)(x y:Nat):Ea:=.bin k (.t x) (u y)
abbrev BS(k:BinOp)(x:Nat)(y:Array UInt8):Ea:=.bin k (.t x) (s y)
abbrev IB(k:BinOp)(x y:Nat):Ea:=.bin k (i x) (.t y)
abbrev SB(k:BinOp)(x:Array UInt8)(y:Nat):Ea:=.bin k (s x) (.t y)
abbrev E(x y:Nat):Ea:=.ext (.t x) y
abbrev S(k x y:Nat):Ea:=.store k (.t x) (.t y)
abbrev N(x:Nat):Ea:=.Wl (.t x)
abbrev U(x:Nat):Ea:=.un .not (.t x)
abbrev K(x:Nat):Ea:=.Vn (.t x)
abbrev W(x:Nat):Ea:=.len (.t x)
abbrev D(x y:Nat):Ea:=.idx (.t x) (.t y)
abbrev Y(k x y:Nat):Ea:=.Ji k (.t x) (.t y)
abbrev C(k x:Nat):Ea:=.call k [.t x]
abbrev CC(k x y:Nat):Ea:=.call k [.t x,.t y]
abbrev CI(k x y:Nat):Ea:=.call k [.t x,i y]
abbrev CS(k x:Nat)(y:Array UInt8):Ea:=.call k [.t x,s y]
abbrev r(l:List Nat)(p:List Ta):ka:=.kb l [] p
abbrev q(x y:ka):ka:=.seq x y
abbrev w(x:Nat)(y z:ka):ka:=.cond (.t x) y z
abbrev k(x:Nat)(l:List Nat)(y:ka):ka:=.block x (.loop l y)
abbrev x(l:List Nat):ka:=.ret l
abbrev z:ka:=.skip
end Q
end ya
set_option maxRecDepth 100000
namespace Go.Proofs.YtglaihdcndcmkaaGreatDoor
open ya.Q
def eN:na:=⟨158,[.inl 6],(q (r [3,4,5] [o 3 (.box 23 5 (.t 0)),o 4 (.box 40 3 (.t 1)),o 5 (.box 42 2 (.t 2)),o 6 (AB false)]) (q (.kb [3,4,5] [o 19 (F 0 3),o 20 (L 1 19),o 21 (C 15 20),o 22 (F 1 3),o 23 (L 1 22),o 24 (C 15 23),o 25 (F 2 3),o 26 (L 1 25),o 27 (C 15 26),o 28 (F 3 3),o 29 (L 1 28),o 30 (C 15 29),o 31 (F 4 3),o 32 (L 1 31)] [o 33 (C 15 32),o 34 (.build [Z,Z,Z,Z,Z] [⟨0,⟨1,.t 21⟩⟩,⟨1,⟨1,.t 24⟩⟩,⟨2,⟨1,.t 27⟩⟩,⟨3,⟨1,.t 30⟩⟩,⟨4,⟨1,.t 33⟩⟩]),n (S 5 3 34)]) (q (.kb [3,4,5] [o 35 (F 0 4),o 36 (L 1 35),o 37 (F 1 4),o 38 (L 1 37),o 39 (C 15 38),o 40 (F 2 4),o 41 (L 1 40),o 42 (C 15 41)] [o 43 (.build [.flat (.bool false),Z,Z] [⟨0,⟨1,.t 36⟩⟩,⟨1,⟨1,.t 39⟩⟩,⟨2,⟨1,.t 42⟩⟩]),n (S 3 4 43)]) (q (.kb [3,4,5] [o 44 (F 0 5),o 45 (L 1 44),o 46 (C 15 45),o 47 (F 1 5),o 48 (L 1 47)] [o 49 (.build [Z,.flat (.bool false)] [⟨0,⟨1,.t 46⟩⟩,⟨1,⟨1,.t 48⟩⟩]),n (S 2 5 49)]) (q (r [3,4,5,7,8] [o 51 (LT 5 3),o 52 (C 16 51),m 50 52,o 53 (E 50 0),o 54 (E 50 1),a 7 53,a 8 54]) (q (r [3,4,5,7,8,9,10] [o 56 (LT 3 4),o 57 (C 17 56),m 55 57,o 58 (E 55 0),o 59 (E 55 1),a 9 58,a 10 59]) (q (r [3,4,5,7,8,9,10,11,12] [o 61 (LT 2 5),o 62 (C 18 61),m 60 62,o 63 (E 60 0),o 64 (E 60 1),a 11 63,a 12 64]) (q (r [3,4,5,8,9,10,11,12,13,14] [m 66 7,o 67 (.call 10 [i 1,.t 66]),m 65 67,o 68 (E 65 0),o 69 (E 65 1),a 13 68,a 14 69]) (q (r [3,4,5,8,10,11,12,13,14,15,16] [m 71 9,o 72 (.call 10 [i 2,.t 71]),m 70 72,o 73 (E 70 0),o 74 (E 70 1),a 15 73,a 16 74]) (q (r [3,4,5,8,10,12,13,14,15,16,17,18] [m 76 11,o 77 (.call 10 [i 3,.t 76]),m 75 77,o 78 (E 75 0),o 79 (E 75 1),a 17 78,a 18 79]) (q (q (r [3,4,5,8,10,12,13,15,17,98] [m 80 8,o 81 (BI .eql 80 0),m 82 14,o 83 (BI .eql 82 0),o 84 (.beq true (.t 81) (.t 83)),m 85 84,h 85 86 (M 10),h 85 87 (BI .eql 86 0),h 85 88 (M 16),h 85 89 (BI .eql 88 0),h 85 90 (.beq true (.t 87) (.t 89)),o 91 (O 85 90),m 92 91,h 92 93 (M 12),h 92 94 (BI .eql 93 0),h 92 95 (M 18),h 92 96 (BI .eql 95 0),h 92 97 (.beq true (.t 94) (.t 96)),o 98 (O 92 97)]) (w 98 (q (r [6] [o 6 (AB false)]) (x [6])) z)) (q (q (.kb [4,5,10,12,15,17,122] [m 99 8,o 100 (BI .eql 99 0),m 101 100,g 101 102 (M 13),g 101 103 (W 102),g 101 104 (BI .lss 103 5),g 101 105 (M 104),h 105 106 (M 13),h 105 107 (.slice 1 (.t 106) .none (.some (i 5))),h 105 108 (F 0 3),h 105 109 (L 1 108),h 105 110 (F 1 3),h 105 111 (L 1 110),h 105 112 (F 2 3),h 105 113 (L 1 112),h 105 114 (F 3 3),h 105 115 (L 1 114),h 105 116 (F 4 3),h 105 117 (L 1 116),h 105 118 (.mksl false 5 1 [Z,Z,Z,Z,Z] [⟨0,⟨1,.t 109⟩⟩,⟨1,⟨1,.t 111⟩⟩,⟨2,⟨1,.t 113⟩⟩,⟨3,⟨1,.t 115⟩⟩,⟨4,⟨1,.t 117⟩⟩])] [h 105 119 (CC 13 107 118),h 105 120 (U 119),g 101 121 (O 105 120),o 122 (P 101 121)]) (w 122 (q (r [6] [o 6 (AB false)]) (x [6])) z)) (q (q (.kb [5,12,17,145] [m 123 10,o 124 (BI .eql 123 0),m 125 124,g 125 126 (M 15),g 125 127 (W 126),g 125 128 (BI .lss 127 2),g 125 129 (M 128),h 129 130 (M 15),h 129 131 (.Ji 1 (.t 130) (i 0)),h 129 132 (L 1 131),h 129 133 (F 1 4),h 129 134 (L 1 133),h 129 135 (B .neq 132 134),g 125 136 (O 129 135),g 125 137 (M 136),h 137 138 (M 15),h 137 139 (.Ji 1 (.t 138) (i 1)),h 137 140 (L 1 139),h 137 141 (F 2 4),h 137 142 (L 1 141)] [h 137 143 (B .neq 140 142),g 125 144 (O 137 143),o 145 (P 125 144)]) (w 145 (q (r [6] [o 6 (AB false)]) (x [6])) z)) (q (r [6] [m 146 12,o 147 (BI .neq 146 0),m 148 147,h 148 149 (M 17),h 148 150 (F 0 5),h 148 151 (L 1 150),h 148 152 (.mksl false 1 1 [Z] [⟨0,⟨1,.t 151⟩⟩]),h 148 153 (CC 13 149 152),o 154 (O 148 153),m 155 154,g 155 156 (.call 14 []),o 157 (P 155 156),a 6 157]) (x [6]))))))))))))))),[]⟩
def DF:ka:=(q (r [0,2,14,15,16] [o 16 (BI .lss 15 2)]) (q (w 16 z (.exit 0 [2])) (q (.block 1 (q (r [0,2,5,14,15] [o 17 (.Yj false 2 1 (.t 14) (.t 15)),a 5 17]) (q (r [0,2,5,6,7,14,15] [m 19 0,o 20 (.call 119 [i 0]),o 21 (CC 90 19 20),m 18 21,o 22 (E 18 0),o 23 (E 18 1),a 6 22,a 7 23]) (q (r [0,2,5,6,7,8,14,15] [m 25 6,m 26 5,o 27 (C 119 26),o 28 (CC 84 25 27),m 24 28,o 29 (E 24 0),o 30 (E 24 1),a 6 29,a 8 30]) (q (q (r [0,2,5,6,14,15,36] [m 31 7,o 32 (U 31),m 33 32,h 33 34 (M 8),h 33 35 (U 34),o 36 (O 33 35)]) (w 36 (.exit 1 [0,2,14,15]) z)) (q (r [0,2,5,9,10,14,15] [m 38 6,o 39 (C 120 38),m 37 39,o 40 (E 37 0),o 41 (E 37 1),a 9 40,a 10 41]) (q (r [0,2,10,11,14,15] [m 42 9,m 43 5,o 44 (BI .eql 43 1),o 45 (.build [Z,.flat (.bool false)] [⟨0,⟨1,.t 42⟩⟩,⟨1,⟨1,.t 44⟩⟩]),o 11 (.alloc 42 [Z,.flat (.bool false)]),n (S 2 11 45)]) (q (q (r [0,2,11,14,15,52] [m 46 10,o 47 (BI .neq 46 0),m 48 47,h 48 49 (LT 2 11),h 48 50 (C 121 49),h 48 51 (U 50),o 52 (O 48 51)]) (w 52 (.exit 0 [2]) z)) (q (r [0,2,11,12,13,14,15] [o 54 (LT 2 11),o 55 (C 122 54),m 53 55,o 56 (E 53 0),o 57 (E 53 1),a 12 56,a 13 57]) (q (r [0,2,11,14,15,64] [m 58 13,o 59 (BI .eql 58 0),m 60 59,g 60 61 (M 12),g 60 62 (M 0),g 60 63 (B .eql 61 62),o 64 (P 60 63)]) (w 64 (q (r [2,3] [o 65 (LT 2 11),n (S 2 2 65),o 3 (AI 0)]) (x [2,3])) z))))))))))) (r [0,2,14,15] [o 66 (BI .add 15 1),m 15 66]))))
def vK:ka:=DF
def EH:=@Xa vK DF rfl
def kL:na:=⟨68,[.inr ⟨2,⟨true,2⟩⟩,.inl 3],(q (r [0,2] [o 2 (.alloc 42 [Z,.flat (.bool false)]),o 3 (AI 0)]) (q (q (r [0,2,14,15] [o 14 (.build [J,J] [⟨0,⟨1,i 1⟩⟩,⟨1,⟨1,i 2⟩⟩]),o 15 (.mv (i 0))]) (k 0 [0,2,14,15] vK)) (q (r [2,3] [o 67 (.build [Z,.flat (.bool false)] []),n (S 2 2 67),o 3 (AI 7)]) (x [2,3])))),[]⟩
def iL:na:=⟨28,[.inl 2,.inl 3],(q (r [1] [o 1 (.box 42 2 (.t 0)),o 2 (AS #[]),o 3 (AI 0)]) (q (q (.kb [1,12] [o 7 (F 0 1),o 8 (L 1 7),o 9 (C 95 8),o 10 (F 0 1),o 11 (L 1 10)] [o 12 (B .neq 9 11)]) (w 12 (q (r [2,3] [o 2 (AS #[]),o 3 (AI 7)]) (x [2,3])) z)) (q (r [1,4] [o 14 (F 0 1),o 15 (L 1 14),o 16 (CI 194 15 4000),m 13 16,o 17 (E 13 0),o 18 (E 13 1),a 4 17,a 5 18]) (q (r [1,4,6] [o 6 (AI 2)]) (q (q (r [4,6,20] [o 19 (F 1 1),o 20 (L 1 19)]) (w 20 (r [4,6] [o 6 (AI 1)]) z)) (q (r [2,3] [o 21 (.call 119 [i 0]),m 22 4,o 23 (C 188 22),o 24 (B .add 21 23),m 25 6,o 26 (C 119 25),o 27 (B .add 24 26),a 2 27,o 3 (AI 0)]) (x [2,3]))))))),[]⟩
def jL:na:=⟨7,[.inl 2],(q (r [1] [o 1 (.box 42 2 (.t 0)),o 2 (AB false)]) (q (r [2] [o 3 (F 0 1),o 4 (L 1 3),o 5 (K 4),o 6 (BI .leq 5 4000),a 2 6]) (x [2]))),[]⟩
def GY:na:=⟨8,[.inl 2],(q (r [0] [o 2 (AS #[])]) (q (q (r [3] [m 3 0]) (.block 0 (q (r [3,4] [o 5 (BI .eql 3 0),a 4 5]) (w 4 (q (r [2] [o 2 (AS #[123,34,116,101,120,116,34,58,34])]) (x [2])) (q (r [6] [o 7 (BI .eql 3 1),a 6 7]) (w 6 (q (r [2] [o 2 (AS #[34,44,34,108,111,117,100,34,58,116,114,117,101,125])]) (x [2])) z)))))) (q (r [2] [o 2 (AS #[34,44,34,108,111,117,100,34,58,102,97,108,115,101,125])]) (x [2])))),[]⟩
def UN:na:=⟨24,[.inl 4,.inl 5],(q (r [0,1] [o 4 (AS #[]),o 5 (AB false)]) (q (q (r [0,1,6,7,8] [m 10 0,m 11 1,o 12 (CC 255 10 11),m 9 12,o 13 (E 9 0),o 14 (E 9 1),o 15 (E 9 2),a 6 13,a 7 14,a 8 15]) (q (r [0,1,6,7,16] [m 16 8]) (w 16 (q (r [4,5] [m 17 6,m 18 7,a 4 17,a 5 18]) (x [4,5])) z))) (q (r [4,5] [m 19 0,m 20 1,o 21 (BI .sub 20 3),o 22 (CC 256 19 21),o 23 (BS .add 22 #[226,128,166]),a 4 23,o 5 (AB true)]) (x [4,5])))),[]⟩
def VN:na:=⟨16,[.inl 4,.inl 5,.inl 6],(q (r [0,1] [o 4 (AS #[]),o 5 (AB false),o 6 (AB false)]) (q (.block 0 (q (r [0,1,7] [m 8 0,o 9 (K 8),m 10 1,o 11 (B .leq 9 10),a 7 11]) (w 7 (q (r [4,5,6] [m 12 0,a 4 12,o 5 (AB false),o 6 (AB true)]) (x [4,5,6])) (q (r [13] [m 14 1,o 15 (BI .lss 14 3),a 13 15]) (w 13 (q (r [4,5,6] [o 4 (AS #[]),o 5 (AB true),o 6 (AB true)]) (x [4,5,6])) z))))) (q (r [4,5,6] [o 4 (AS #[]),o 5 (AB false),o 6 (AB false)]) (x [4,5,6])))),[]⟩
def dN:na:=⟨28,[.inl 2,.inl 3],(q (r [1] [o 1 (.box 42 2 (.t 0)),o 2 (AS #[]),o 3 (AI 0)]) (q (q (.kb [1,12] [o 7 (F 0 1),o 8 (L 1 7),o 9 (C 34 8),o 10 (F 0 1),o 11 (L 1 10)] [o 12 (B .neq 9 11)]) (w 12 (q (r [2,3] [o 2 (AS #[]),o 3 (AI 7)]) (x [2,3])) z)) (q (r [1,4] [o 14 (F 0 1),o 15 (L 1 14),o 16 (CI 35 15 4000),m 13 16,o 17 (E 13 0),o 18 (E 13 1),a 4 17,a 5 18]) (q (r [1,4,6] [o 6 (AS #[102,97,108,115,101])]) (q (q (r [4,6,20] [o 19 (F 1 1),o 20 (L 1 19)]) (w 20 (r [4,6] [o 6 (AS #[116,114,117,101])]) z)) (q (r [2,3] [m 21 4,o 22 (C 33 21),o 23 (SB .add #[123,34,116,101,120,116,34,58,34] 22),o 24 (BS .add 23 #[34,44,34,108,111,117,100,34,58]),m 25 6,o 26 (B .add 24 25),o 27 (BS .add 26 #[125]),a 2 27,o 3 (AI 0)]) (x [2,3]))))))),[]⟩
def WM:na:=⟨19,[.inl 4,.inl 5],(q (r [0,1] [o 4 (AS #[]),o 5 (AB false)]) (q (q (r [0,1,9] [m 6 0,o 7 (K 6),m 8 1,o 9 (B .leq 7 8)]) (w 9 (q (r [4,5] [m 10 0,a 4 10,o 5 (AB false)]) (x [4,5])) z)) (q (q (r [0,1,12] [m 11 1,o 12 (BI .lss 11 3)]) (w 12 (q (r [4,5] [o 4 (AS #[]),o 5 (AB true)]) (x [4,5])) z)) (q (r [4,5] [m 13 0,m 14 1,o 15 (BI .sub 14 3),o 16 (CC 73 13 15),o 17 (.call 74 []),o 18 (B .add 16 17),a 4 18,o 5 (AB true)]) (x [4,5]))))),[]⟩
def rN:na:=⟨4,[.inl 2],(q (r [1] [o 1 (.box 122 6 (.t 0)),o 2 (.asg (.c (.flat .nilFunc)))]) (q (r [2] [o 3 (.clos 314 [.t 1]),a 2 3]) (x [2]))),[]⟩
def JG:ka:=(q (r [0,1,24,25,26] [o 26 (BI .lss 25 5)]) (q (w 26 z (.exit 0 [0,1])) (q (.block 1 (q (r [0,1,4,24,25] [o 27 (.Yj false 5 1 (.t 24) (.t 25)),a 4 27]) (q (r [0,1,24,25,31] [m 28 0,m 29 4,o 30 (.callv (.t 28) [.t 29]),o 31 (U 30)]) (w 31 (x []) z)))) (r [0,1,24,25] [o 32 (BI .add 25 1),m 25 32]))))
def EK:ka:=JG
def zaQ:=@Xa EK JG rfl
def LG:ka:=(q (r [0,34,35,36,51,52,53,54] [o 54 (B .lss 53 52)]) (q (w 54 z (.exit 4 [0,34,35,36])) (q (.block 5 (q (r [0,8,34,35,36,51,52,53] [o 55 (Y 4 51 53),o 56 (LT 4 55),o 8 (.alloc 282 [Z,Z,J,J]),n (S 4 8 56)]) (q (r [0,34,35,36,51,52,53,61] [m 57 0,o 58 (F 1 8),o 59 (L 1 58),o 60 (.callv (.t 57) [.t 59]),o 61 (U 60)]) (w 61 (x []) z)))) (r [0,34,35,36,51,52,53] [o 62 (BI .add 53 1),m 53 62]))))
def dy:ka:=LG
def dU:=@Xa dy LG rfl
def KG:ka:=(q (r [0,34,35,36,37] [o 37 (B .lss 36 35)]) (q (w 37 z (.exit 2 [])) (q (.block 3 (q (r [0,6,34,35,36] [o 38 (Y 6 34 36),o 39 (LT 6 38),o 6 (.alloc 190 [.flat (.int .u8 0),Z,Z,V,J,J]),n (S 6 6 39)]) (q (q (r [0,6,34,35,36,49] [o 40 (F 0 6),o 41 (L 1 40),o 42 (BU .eql 41 116),m 43 42,g 43 44 (M 0),g 43 45 (F 2 6),g 43 46 (L 1 45),g 43 47 (.callv (.t 44) [.t 46]),g 43 48 (U 47),o 49 (P 43 48)]) (w 49 (x []) z)) (q (r [0,34,35,36,51,52,53] [o 50 (F 3 6),o 51 (L 1 50),o 52 (W 51),o 53 (.mv (i 0))]) (k 4 [0,34,35,36,51,52,53] dy))))) (r [0,34,35,36] [o 63 (BI .add 36 1),m 36 63]))))
def PC:ka:=KG
def VH:=@Xa PC KG rfl
def sN:na:=⟨64,[],(q (q (r [0,1,24,25] [o 9 (F 0 1),o 10 (F 0 9),o 11 (L 1 10),o 12 (F 0 1),o 13 (F 1 12),o 14 (L 1 13),o 15 (F 0 1),o 16 (F 2 15),o 17 (L 1 16),o 18 (F 0 1),o 19 (F 3 18),o 20 (L 1 19),o 21 (F 0 1),o 22 (F 4 21),o 23 (L 1 22),o 24 (.build [Z,Z,Z,Z,Z] [⟨0,⟨1,.t 11⟩⟩,⟨1,⟨1,.t 14⟩⟩,⟨2,⟨1,.t 17⟩⟩,⟨3,⟨1,.t 20⟩⟩,⟨4,⟨1,.t 23⟩⟩]),o 25 (.mv (i 0))]) (k 0 [0,1,24,25] EK)) (q (r [0,34,35,36] [o 33 (F 5 1),o 34 (L 1 33),o 35 (W 34),o 36 (.mv (i 0))]) (k 2 [0,34,35,36] PC))),[]⟩
def tN:na:=⟨4,[.inl 2],(q (r [1] [o 1 (.box 129 2 (.t 0)),o 2 (.asg (.c (.flat .nilFunc)))]) (q (r [2] [o 3 (.clos 320 [.t 1]),a 2 3]) (x [2]))),[]⟩
def uN:na:=⟨8,[],(r [] [m 3 0,o 4 (F 0 1),o 5 (F 0 4),o 6 (L 1 5),o 7 (.callv (.t 3) [.t 6])]),[]⟩
def fN:na:=⟨37,[.inl 0],(q (r [] [o 0 (AB false)]) (q (r [1] [o 8 (.build [.flat (.bool false),Z,Z] [⟨1,⟨1,s #[114]⟩⟩,⟨2,⟨1,s #[123,34,97,34,58,91,34,120,34,44,49,93,125]⟩⟩]),o 9 (C 17 8),m 7 9,o 10 (E 7 0),o 11 (E 7 1),a 1 10,a 2 11]) (q (r [1,3,4] [m 13 1,o 14 (.call 10 [i 2,.t 13]),m 12 14,o 15 (E 12 0),o 16 (E 12 1),a 3 15,a 4 16]) (q (r [3,4,5,6] [m 18 1,o 19 (.call 11 [i 2,.t 18]),m 17 19,o 20 (E 17 0),o 21 (E 17 1),a 5 20,a 6 21]) (q (r [0] [m 22 4,o 23 (BI .eql 22 0),m 24 23,g 24 25 (M 6),g 24 26 (BI .eql 25 0),o 27 (P 24 26),m 28 27,g 28 29 (M 3),g 28 30 (.mksl false 4 1 [Z,Z,Z,Z] [⟨0,⟨1,s #[114]⟩⟩,⟨1,⟨1,s #[123,34,97,34,58,91,34,120,34,44,49,93,125]⟩⟩,⟨2,⟨1,s #[97]⟩⟩,⟨3,⟨1,s #[120]⟩⟩]),g 28 31 (CC 13 29 30),o 32 (P 28 31),m 33 32,g 33 34 (M 5),g 33 35 (BS .eql 34 #[123,34,34,58,91,34,34,44,49,93,125]),o 36 (P 33 35),a 0 36]) (x [0])))))),[]⟩
def gN:na:=⟨8,[.inl 2],(q (r [0] [o 2 (AS #[])]) (q (r [2] [m 3 0,m 4 0,o 5 (K 4),o 6 (.mm false (.t 5) (i 200)),o 7 (.sliceS (.t 3) .none (.some (.t 6))),a 2 7]) (x [2]))),[]⟩
def EF:ka:=(q (r [0,6,7,8] [o 8 (B .lss 7 6)]) (q (w 8 z (.exit 0 [0])) (q (.block 1 (q (r [0,3,6,7] [m 9 7,a 3 9]) (q (r [0,6,7,26] [m 10 0,m 11 3,o 12 (D 10 11),o 13 (BU .leq 12 32),m 14 13,h 14 15 (M 0),h 14 16 (M 3),h 14 17 (D 15 16),h 14 18 (BU .gtr 17 126),o 19 (O 14 18),m 20 19,h 20 21 (M 0),h 20 22 (M 3),h 20 23 (D 21 22),h 20 24 (.call 96 [s #[60,62,40,41,91,93,44,59,58,34,92],.t 23]),h 20 25 (BI .geq 24 0),o 26 (O 20 25)]) (w 26 (q (r [2] [o 2 (AB false)]) (x [2])) z)))) (r [0,6,7] [o 27 (BI .add 7 1),m 7 27]))))
def bC:ka:=EF
def FH:=@Xa bC EF rfl
def lL:na:=⟨60,[.inl 2],(q (r [0] [o 2 (AB false)]) (q (q (r [0,6,7] [m 5 0,o 6 (K 5),o 7 (.mv (i 0))]) (k 0 [0,6,7] bC)) (q (r [0,4] [m 28 0,o 29 (.call 96 [.t 28,u 64]),a 4 29]) (q (r [2] [m 30 0,o 31 (K 30),o 32 (BI .geq 31 3),m 33 32,g 33 34 (M 0),g 33 35 (K 34),g 33 36 (BI .leq 35 60),o 37 (P 33 36),m 38 37,g 38 39 (M 4),g 38 40 (BI .gtr 39 0),o 41 (P 38 40),m 42 41,g 42 43 (M 4),g 42 44 (M 0),g 42 45 (K 44),g 42 46 (BI .sub 45 1),g 42 47 (B .lss 43 46),o 48 (P 42 47),m 49 48,g 49 50 (M 4),g 49 51 (M 0),g 49 52 (.call 157 [.t 51,u 64]),g 49 53 (B .eql 50 52),o 54 (P 49 53),m 55 54,g 55 56 (M 0),g 55 57 (CS 158 56 #[61,63]),g 55 58 (U 57),o 59 (P 55 58),a 2 59]) (x [2]))))),[]⟩
def pL:na:=⟨16,[.inl 2],(q (r [0] [o 2 (AB false)]) (q (r [3,4] [m 6 0,o 7 (C 56 6),m 5 7,o 8 (E 5 0),o 9 (E 5 1),a 3 8,a 4 9]) (q (r [2] [m 10 4,o 11 (BI .eql 10 0),m 12 11,g 12 13 (M 3),g 12 14 (C 162 13),o 15 (P 12 14),a 2 15]) (x [2])))),[]⟩
def FF:ka:=(q (r [1,21,22,23] [o 23 (BI .lss 22 3)]) (q (w 23 z (.exit 0 [1])) (q (.block 1 (q (r [1,4,21,22] [o 24 (.Yj false 3 1 (.t 21) (.t 22)),a 4 24]) (q (r [1,21,22,28] [m 25 4,o 26 (C 95 25),m 27 4,o 28 (B .neq 26 27)]) (w 28 (q (r [2] [o 2 (AI 7)]) (x [2])) z)))) (r [1,21,22] [o 29 (BI .add 22 1),m 22 29]))))
def wK:ka:=FF
def qt:=@Xa wK FF rfl
def nL:na:=⟨40,[.inl 2],(q (r [1] [o 1 (.box 23 5 (.t 0)),o 2 (AI 0)]) (q (q (r [1,14] [o 5 (F 0 1),o 6 (L 1 5),o 7 (C 94 6),o 8 (U 7),m 9 8,h 9 10 (F 1 1),h 9 11 (L 1 10),h 9 12 (C 94 11),h 9 13 (U 12),o 14 (O 9 13)]) (w 14 (q (r [2] [o 2 (AI 1)]) (x [2])) z)) (q (q (r [1,21,22] [o 15 (F 2 1),o 16 (L 1 15),o 17 (F 3 1),o 18 (L 1 17),o 19 (F 4 1),o 20 (L 1 19),o 21 (.build [Z,Z,Z] [⟨0,⟨1,.t 16⟩⟩,⟨1,⟨1,.t 18⟩⟩,⟨2,⟨1,.t 20⟩⟩]),o 22 (.mv (i 0))]) (k 0 [1,21,22] wK)) (q (q (r [39] [o 30 (F 2 1),o 31 (L 1 30),o 32 (.call 96 [.t 31,u 10]),o 33 (BI .geq 32 0),m 34 33,h 34 35 (F 4 1),h 34 36 (L 1 35),h 34 37 (C 97 36),h 34 38 (U 37),o 39 (O 34 38)]) (w 39 (q (r [2] [o 2 (AI 7)]) (x [2])) z)) (q (r [2] [o 2 (AI 0)]) (x [2])))))),[]⟩
def mL:na:=⟨43,[.inl 2,.inl 3],(q (r [1] [o 1 (.box 23 5 (.t 0)),o 2 (AS #[]),o 3 (AI 0)]) (q (q (r [1,4] [o 6 (LT 5 1),o 7 (C 47 6),a 4 7]) (q (r [1,4,9] [m 8 4,o 9 (BI .neq 8 0)]) (w 9 (q (r [2,3] [m 10 4,o 2 (AS #[]),a 3 10]) (x [2,3])) z))) (q (r [1,5] [o 11 (.build [.flat (.pointer .none),V] []),o 12 (.box 111 2 (.t 11)),a 5 12]) (q (r [1,5] [m 13 5,o 14 (F 0 1),o 15 (L 1 14),o 16 (.call 48 [.t 13,s #[70,114,111,109],.t 15])]) (q (r [1,5] [m 17 5,o 18 (F 1 1),o 19 (L 1 18),o 20 (.call 48 [.t 17,s #[84,111],.t 19])]) (q (r [1,5] [m 21 5,o 22 (F 2 1),o 23 (L 1 22),o 24 (.call 48 [.t 21,s #[83,117,98,106,101,99,116],.t 23])]) (q (r [1,5] [m 25 5,o 26 (.mksl false 3 1 [Z,Z,Z] [⟨0,⟨1,s #[77,73,77,69,45,86,101,114,115,105,111,110,58,32,49,46,48]⟩⟩,⟨1,⟨1,s #[67,111,110,116,101,110,116,45,84,121,112,101,58,32,109,117,108,116,105,112,97,114,116,47,97,108,116,101,114,110,97,116,105,118,101,59,32,98,111,117,110,100,97,114,121,61,34,61,95,110,117,110,99,105,111,34]⟩⟩,⟨2,⟨1,s #[]⟩⟩]),o 27 (CC 49 25 26)]) (q (r [1,5] [m 28 5,o 29 (F 3 1),o 30 (L 1 29),o 31 (.call 50 [.t 28,s #[112,108,97,105,110],.t 30])]) (q (r [5] [m 32 5,o 33 (F 4 1),o 34 (L 1 33),o 35 (.call 50 [.t 32,s #[104,116,109,108],.t 34])]) (q (r [5] [m 36 5,o 37 (.mksl false 1 1 [Z] [⟨0,⟨1,s #[45,45,61,95,110,117,110,99,105,111,45,45]⟩⟩]),o 38 (CC 49 36 37)]) (q (r [2,3] [m 39 5,o 40 (N 39),o 41 (F 0 40),o 42 (C 46 41),a 2 42,o 3 (AI 0)]) (x [2,3])))))))))))),[]⟩
def GF:ka:=(q (r [0,2,4,6,48,49,50] [o 50 (BI .lss 49 3)]) (q (w 50 z (.exit 0 [0,2,6])) (q (.block 1 (q (r [0,2,4,6,7,8,48,49] [m 51 49,o 52 (.Yj false 3 1 (.t 48) (.t 49)),a 7 51,a 8 52]) (q (r [0,2,4,6,8,10,11,48,49] [o 54 (F 0 4),o 55 (L 1 54),m 56 7,o 57 (Y 2 55 56),o 58 (F 1 57),o 59 (L 1 58),o 60 (SB .add #[88,58,32] 59),o 61 (BS .add 60 #[13,10]),o 62 (C 20 61),m 53 62,o 63 (E 53 0),o 64 (E 53 1),o 65 (E 53 2),a 9 63,a 10 64,a 11 65]) (q (q (r [0,2,4,6,8,10,48,49,67] [m 66 11,o 67 (BI .neq 66 0)]) (w 67 (q (r [2,3] [o 68 (.build [Z,Z,Z,Z,Z] []),n (S 5 2 68),o 3 (AI 7)]) (x [2,3])) z)) (r [0,2,4,6,48,49] [m 69 8,m 70 10,o 71 (N 69),n (S 1 71 70)]))))) (r [0,2,4,6,48,49] [o 72 (BI .add 49 1),m 49 72]))))
def xK:ka:=GF
def zaL:=@Xa xK GF rfl
def oL:na:=⟨87,[.inr ⟨2,⟨true,5⟩⟩,.inl 3],(q (r [0,2] [o 2 (.alloc 23 [Z,Z,Z,Z,Z]),o 3 (AI 0)]) (q (r [0,2,4,5] [m 15 0,o 16 (C 19 15),m 14 16,o 17 (E 14 0),o 18 (E 14 1),o 4 (.alloc 52 [V,Z,Z,V]),n (S 4 4 17),a 5 18]) (q (q (r [0,2,4,32] [m 19 5,o 20 (BI .neq 19 0),m 21 20,h 21 22 (F 3 4),h 21 23 (L 1 22),h 21 24 (W 23),h 21 25 (BI .neq 24 2),o 26 (O 21 25),m 27 26,h 27 28 (F 0 4),h 27 29 (L 1 28),h 27 30 (W 29),h 27 31 (BI .lss 30 3),o 32 (O 27 31)]) (w 32 (q (r [2,3] [o 33 (.build [Z,Z,Z,Z,Z] []),n (S 5 2 33),o 3 (AI 7)]) (x [2,3])) z)) (q (.kb [0,2,4,6] [o 34 (F 3 4),o 35 (L 1 34),o 36 (.Ji 4 (.t 35) (i 0)),o 37 (F 2 36),o 38 (L 1 37),o 39 (F 3 4),o 40 (L 1 39),o 41 (.Ji 4 (.t 40) (i 1)),o 42 (F 2 41),o 43 (L 1 42),o 44 (.build [Z,Z,Z,Z,Z] [⟨3,⟨1,.t 38⟩⟩,⟨4,⟨1,.t 43⟩⟩]),o 6 (.alloc 23 [Z,Z,Z,Z,Z])] [n (S 5 6 44)]) (q (q (r [0,2,4,6,48,49] [o 45 (F 0 6),o 46 (F 1 6),o 47 (F 2 6),o 48 (.build [.flat (.pointer .none),.flat (.pointer .none),.flat (.pointer .none)] [⟨0,⟨1,.t 45⟩⟩,⟨1,⟨1,.t 46⟩⟩,⟨2,⟨1,.t 47⟩⟩]),o 49 (.mv (i 0))]) (k 0 [0,2,4,6,48,49] xK)) (q (q (r [0,2,6,12,13] [o 74 (LT 5 6),o 75 (C 21 74),m 73 75,o 76 (E 73 0),o 77 (E 73 1),a 12 76,a 13 77]) (q (r [2,6,84] [m 78 13,o 79 (BI .neq 78 0),m 80 79,h 80 81 (M 12),h 80 82 (M 0),h 80 83 (B .neq 81 82),o 84 (O 80 83)]) (w 84 (q (r [2,3] [o 85 (.build [Z,Z,Z,Z,Z] []),n (S 5 2 85),o 3 (AI 7)]) (x [2,3])) z))) (q (r [2,3] [o 86 (LT 5 6),n (S 5 2 86),o 3 (AI 0)]) (x [2,3])))))))),[]⟩
def HF:ka:=(q (r [0,6,7,8,9] [o 9 (B .lss 8 7)]) (q (w 9 z (.exit 0 [])) (q (.block 1 (q (r [0,5,6,7,8] [o 10 (Y 1 6 8),o 11 (L 1 10),a 5 11]) (q (r [0,6,7,8] [m 12 0,o 13 (N 12),o 14 (F 0 13),m 15 5,o 16 (CC 45 14 15)]) (r [0,6,7,8] [m 17 0,o 18 (N 17),o 19 (F 0 18),o 20 (CS 45 19 #[13,10])])))) (r [0,6,7,8] [o 21 (BI .add 8 1),m 8 21]))))
def cC:ka:=HF
def NT:=@Xa cC HF rfl
def rL:na:=⟨22,[],(q (r [0,6,7,8] [m 6 1,o 7 (W 6),o 8 (.mv (i 0))]) (k 0 [0,6,7,8] cC)),[]⟩
def qL:na:=⟨19,[],(q (r [0,6] [m 9 1,m 10 2,o 11 (CC 98 9 10),m 8 11,o 12 (E 8 0),o 13 (E 8 1),a 6 12,a 7 13]) (r [] [m 14 0,o 15 (N 14),o 16 (F 0 15),m 17 6,o 18 (CC 45 16 17)])),[]⟩
def sL:na:=⟨14,[],(r [] [m 6 0,m 7 1,o 8 (SB .add #[67,111,110,116,101,110,116,45,84,121,112,101,58,32,116,101,120,116,47] 7),o 9 (BS .add 8 #[59,32,99,104,97,114,115,101,116,61,117,116,102,45,56]),m 10 2,o 11 (C 99 10),o 12 (.mksl false 5 1 [Z,Z,Z,Z,Z] [⟨0,⟨1,s #[45,45,61,95,110,117,110,99,105,111]⟩⟩,⟨1,⟨1,.t 9⟩⟩,⟨2,⟨1,s #[67,111,110,116,101,110,116,45,84,114,97,110,115,102,101,114,45,69,110,99,111,100,105,110,103,58,32,113,117,111,116,101,100,45,112,114,105,110,116,97,98,108,101]⟩⟩,⟨3,⟨1,s #[]⟩⟩,⟨4,⟨1,.t 11⟩⟩]),o 13 (CC 49 6 12)]),[]⟩
def xv:ka:=(q (r [1,3,4,5,10] [a 5 9]) (r [1,3,4,5,6] [a 6 10]))
def vv:ka:=(.block 1 (q (r [1,3,4,5] [o 11 (L 1 4),m 12 6,o 13 (B .add 11 12),n (S 1 4 13)]) (q (q (r [1,3,4,5,15] [m 14 5,o 15 (.bin .eql (.t 14) (.c (.flat (.int .i32 13))))]) (w 15 (q (q (r [3,25] [o 16 (L 1 4),o 17 (L 1 1),o 18 (K 17),o 19 (B .lss 16 18),m 20 19,g 20 21 (L 1 1),g 20 22 (L 1 4),g 20 23 (D 21 22),g 20 24 (BU .eql 23 10),o 25 (P 20 24)]) (w 25 (.exit 1 []) z)) (r [3,5] [o 5 (.asg (.c (.flat (.int .i32 10))))])) z)) (r [] [m 26 5,o 27 (C 160 26),o 28 (C 159 27),o 29 (CC 45 3 28)]))))
def XN:na:=⟨31,[.inl 2],(q (r [1,2] [o 1 (.box 9 1 (.t 0)),o 2 (AS #[])]) (q (r [1,2,3] [o 3 (.alloc 101 [.flat (.pointer .none),V])]) (q (r [1,2,3,4] [o 4 (.alloc 3 [J]),n (.store 1 (.t 4) (i 0))]) (q (q (r [1,2,3,4,8] [o 7 (L 1 1),o 8 (C 155 7)]) (.block 0 (.range 95 0 [1,3,4] (.t 8)))) (q (r [2] [o 30 (C 46 3),a 2 30]) (x [2])))))),[([9,10],xv,vv)]⟩
def bO:na:=⟨4,[.inl 2],(q (r [1] [o 1 (.box 9 1 (.t 0)),o 2 (.asg (.c (.flat .nilFunc)))]) (q (r [2] [o 3 (.clos 224 [.t 1]),a 2 3]) (x [2]))),[]⟩
def UG:ka:=(q (q (r [0,1,3,9] [m 6 3,o 7 (L 1 1),o 8 (K 7),o 9 (B .lss 6 8)]) (w 9 z (.exit 0 []))) (.block 1 (q (r [0,1,3,4,5] [o 11 (L 1 1),m 12 3,o 13 (CC 225 11 12),m 10 13,o 14 (E 10 0),o 15 (E 10 1),a 4 14,a 5 15]) (q (q (r [0,1,3,5,20] [m 16 0,m 17 4,m 18 5,o 19 (.callv (.t 16) [.t 17,.t 18]),o 20 (U 19)]) (w 20 (x []) z)) (r [0,1,3] [m 21 3,m 22 5,o 23 (B .add 21 22),a 3 23])))))
def WC:ka:=UG
def aI:=@Xa WC UG rfl
def cO:na:=⟨24,[],(q (r [0,1,3] [o 3 (AI 0)]) (k 0 [0,1,3] WC)),[]⟩
def ZN:na:=⟨81,[.inl 4,.inl 5],(q (r [0,1] [o 4 (.asg (.c (.flat (.int .i32 0)))),o 5 (AI 0)]) (q (q (r [0,1,17] [m 10 1,o 11 (BI .lss 10 0),m 12 11,h 12 13 (M 1),h 12 14 (M 0),h 12 15 (K 14),h 12 16 (B .geq 13 15),o 17 (O 12 16)]) (w 17 (q (r [4,5] [o 4 (.asg (.c (.flat (.int .i32 0)))),o 5 (AI 0)]) (x [4,5])) z)) (q (r [0,1,6] [m 18 0,m 19 1,o 20 (D 18 19),a 6 20,o 7 (.asg (.c (.flat (.int .i32 0)))),o 8 (AI 0)]) (q (.block 0 (q (r [0,1,6,21] [m 22 6,o 23 (BU .lss 22 128),a 21 23]) (w 21 (q (r [4,5] [m 24 6,o 25 (.conv .i32 (.t 24)),a 4 25,o 5 (AI 1)]) (x [4,5])) (q (r [0,1,6,26] [m 27 6,o 28 (BU .geq 27 192),m 29 28,g 29 30 (M 6),g 29 31 (BU .lss 30 224),o 32 (P 29 31),a 26 32]) (w 26 (r [0,1,4,7,8] [m 33 6,o 34 (BU .and 33 31),o 35 (.conv .i32 (.t 34)),a 4 35,o 7 (.asg (.c (.flat (.int .i32 128)))),o 8 (AI 1)]) (q (r [0,1,6,36] [m 37 6,o 38 (BU .geq 37 224),m 39 38,g 39 40 (M 6),g 39 41 (BU .lss 40 240),o 42 (P 39 41),a 36 42]) (w 36 (r [0,1,4,7,8] [m 43 6,o 44 (BU .and 43 15),o 45 (.conv .i32 (.t 44)),a 4 45,o 7 (.asg (.c (.flat (.int .i32 2048)))),o 8 (AI 2)]) (q (r [0,1,6,46] [m 47 6,o 48 (BU .geq 47 240),m 49 48,g 49 50 (M 6),g 49 51 (BU .lss 50 248),o 52 (P 49 51),a 46 52]) (w 46 (r [0,1,4,7,8] [m 53 6,o 54 (BU .and 53 7),o 55 (.conv .i32 (.t 54)),a 4 55,o 7 (.asg (.c (.flat (.int .i32 65536)))),o 8 (AI 3)]) (q (r [4,5] [o 4 (.asg (.c (.flat (.int .i32 65533)))),o 5 (AI 1)]) (x [4,5]))))))))))) (q (r [4,7,8,9] [m 57 0,m 58 1,o 59 (BI .add 58 1),o 60 (.sliceS (.t 57) (.some (.t 59)) .none),m 61 4,m 62 8,o 63 (.call 275 [.t 60,.t 61,.t 62]),m 56 63,o 64 (E 56 0),o 65 (E 56 1),a 4 64,a 9 65]) (q (q (r [4,8,77] [m 66 9,o 67 (U 66),m 68 67,h 68 69 (M 4),h 68 70 (M 7),h 68 71 (B .lss 69 70),o 72 (O 68 71),m 73 72,h 73 74 (M 4),h 73 75 (C 227 74),h 73 76 (U 75),o 77 (O 73 76)]) (w 77 (q (r [4,5] [o 4 (.asg (.c (.flat (.int .i32 65533)))),o 5 (AI 1)]) (x [4,5])) z)) (q (r [4,5] [m 78 4,m 79 8,o 80 (BI .add 79 1),a 4 78,a 5 80]) (x [4,5])))))))),[]⟩
def TG:ka:=(q (q (r [0,3,4,5,32] [m 31 5,o 32 (BI .gtr 31 0)]) (w 32 z (.exit 4 [0,3,4]))) (q (.block 5 (q (r [0,3,4,5] [m 35 5,m 36 0,o 37 (.bin .and (.t 36) (.c (.flat (.int .i32 63)))),o 38 (.conv .u8 (.t 37)),o 39 (.bin .or (u 128) (.t 38)),o 40 (.jn 4 1 (.t 3) (.t 35)),n (S 1 40 39)]) (r [0,3,4,5] [m 41 0,o 42 (.bin .shr (.t 41) (.c (.flat (.int .u64 6)))),a 0 42]))) (r [0,3,4,5] [m 33 5,o 34 (BI .sub 33 1),a 5 34])))
def FK:ka:=TG
def uA:=@Xa FK TG rfl
def WN:na:=⟨54,[.inl 2],(q (r [0] [o 2 (AS #[])]) (q (q (r [0,8] [m 6 0,o 7 (C 227 6),o 8 (U 7)]) (w 8 (r [0] [o 0 (.asg (.c (.flat (.int .i32 65533))))]) z)) (q (r [0,3] [o 3 (.alloc 277 [.flat (.int .u8 0),.flat (.int .u8 0),.flat (.int .u8 0),.flat (.int .u8 0)])]) (q (r [0,3,4] [o 4 (AI 0)]) (q (.block 0 (q (.block 3 (q (.block 2 (q (.block 1 (q (q (q (r [0,3,4,9] [m 10 0,o 11 (.bin .geq (.t 10) (.c (.flat (.int .i32 65536)))),a 9 11]) (w 9 (.exit 1 [0,3,4]) z)) (q (q (r [0,3,4,12] [m 13 0,o 14 (.bin .geq (.t 13) (.c (.flat (.int .i32 2048)))),a 12 14]) (w 12 (.exit 2 [0,3,4]) z)) (q (r [0,3,4,15] [m 16 0,o 17 (.bin .geq (.t 16) (.c (.flat (.int .i32 128)))),a 15 17]) (w 15 (.exit 3 [0,3,4]) z)))) (.exit 0 [0,3,4]))) (r [0,3,4] [m 18 4,o 19 (BI .add 18 1),a 4 19]))) (r [0,3,4] [m 20 4,o 21 (BI .add 20 1),a 4 21]))) (q (r [0,3,4] [m 22 4,o 23 (BI .add 22 1),a 4 23]) (.exit 0 [0,3,4])))) (q (q (r [0,3,4,25] [m 24 4,o 25 (BI .eql 24 0)]) (w 25 (q (r [2] [m 26 0,o 27 (.conv .u8 (.t 26)),o 28 (.mksl true 1 1 [.flat (.int .u8 0)] [⟨0,⟨1,.t 27⟩⟩]),o 29 (.b2s (.t 28)),a 2 29]) (x [2])) z)) (q (q (r [0,3,4,5] [m 30 4,a 5 30]) (k 4 [0,3,4,5] FK)) (q (r [3,4] [m 43 4,o 44 (IB .sub 7 43),o 45 (.bin .shl (u 255) (.t 44)),m 46 0,o 47 (.conv .u8 (.t 46)),o 48 (B .or 45 47),o 49 (.jn 4 1 (.t 3) (i 0)),n (S 1 49 48)]) (q (r [2] [m 50 4,o 51 (BI .add 50 1),o 52 (.sliceP 4 1 (.t 3) .none (.some (.t 51))),o 53 (.b2s (.t 52)),a 2 53]) (x [2])))))))))),[]⟩
def hS:ka:=(q (r [0,1,13,14,15] [o 15 (B .lss 14 13)]) (q (w 15 z (.exit 0 [1])) (q (.block 1 (q (r [0,1,8,13,14] [m 16 14,a 8 16]) (q (q (r [0,1,8,13,14,21] [m 17 0,m 18 8,o 19 (D 17 18),o 20 (BU .and 19 192),o 21 (BU .neq 20 128)]) (w 21 (q (r [6,7] [o 6 (.asg (.c (.flat (.int .i32 0)))),o 7 (AB false)]) (x [6,7])) z)) (r [0,1,13,14] [m 22 1,o 23 (.bin .shl (.t 22) (.c (.flat (.int .u64 6)))),m 24 0,m 25 8,o 26 (D 24 25),o 27 (BU .and 26 63),o 28 (.conv .i32 (.t 27)),o 29 (B .or 23 28),a 1 29])))) (r [0,1,13,14] [o 30 (BI .add 14 1),m 14 30]))))
def ws:ka:=hS
def fO:na:=⟨32,[.inl 6,.inl 7],(q (r [0,1,2] [o 6 (.asg (.c (.flat (.int .i32 0)))),o 7 (AB false)]) (q (q (r [0,1,2,12] [m 9 0,o 10 (K 9),m 11 2,o 12 (B .lss 10 11)]) (w 12 (q (r [6,7] [o 6 (.asg (.c (.flat (.int .i32 0)))),o 7 (AB false)]) (x [6,7])) z)) (q (q (r [0,1,13,14] [m 13 2,o 14 (.mv (i 0))]) (k 0 [0,1,13,14] ws)) (q (r [6,7] [m 31 1,a 6 31,o 7 (AB true)]) (x [6,7]))))),[]⟩
def dO:na:=⟨17,[.inl 2],(q (r [0] [o 2 (AB false)]) (q (r [2] [m 3 0,o 4 (.bin .geq (.t 3) (.c (.flat (.int .i32 0)))),m 5 4,g 5 6 (M 0),g 5 7 (.bin .leq (.t 6) (.c (.flat (.int .i32 1114111)))),o 8 (P 5 7),m 9 8,g 9 10 (M 0),g 9 11 (.bin .lss (.t 10) (.c (.flat (.int .i32 55296)))),g 9 12 (M 11),h 12 13 (M 0),h 12 14 (.bin .gtr (.t 13) (.c (.flat (.int .i32 57343)))),g 9 15 (O 12 14),o 16 (P 9 15),a 2 16]) (x [2]))),[]⟩
def eO:na:=⟨22,[.inl 2],(q (r [0] [o 2 (.asg (.c (.flat (.int .i32 0))))]) (q (q (r [0,20] [m 3 0,o 4 (.bin .lss (.t 3) (.c (.flat (.int .i32 32)))),m 5 4,g 5 6 (M 0),g 5 7 (.bin .neq (.t 6) (.c (.flat (.int .i32 9)))),o 8 (P 5 7),m 9 8,g 9 10 (M 0),g 9 11 (.bin .neq (.t 10) (.c (.flat (.int .i32 10)))),o 12 (P 9 11),m 13 12,h 13 14 (M 0),h 13 15 (.bin .geq (.t 14) (.c (.flat (.int .i32 127)))),h 13 16 (M 15),g 16 17 (M 0),g 16 18 (.bin .lss (.t 17) (.c (.flat (.int .i32 160)))),h 13 19 (P 16 18),o 20 (O 13 19)]) (w 20 (q (r [2] [o 2 (.asg (.c (.flat (.int .i32 65533))))]) (x [2])) z)) (q (r [2] [m 21 0,a 2 21]) (x [2])))),[]⟩
def hz:ka:=(q (r [2,3,8] [a 3 7]) (r [2,3,4] [a 4 8]))
def dz:ka:=(.block 1 (q (r [2,14] [m 9 3,o 10 (.bin .eql (.t 9) (.c (.flat (.int .i32 65533)))),m 11 10,g 11 12 (M 4),g 11 13 (BI .eql 12 1),o 14 (P 11 13)]) (w 14 (q (r [] [n (.store 1 (.t 2) (b false))]) (x [])) z)))
def YN:na:=⟨15,[.inr ⟨2,⟨false,1⟩⟩],(q (r [0,2] [o 2 (.alloc 4 [.flat (.bool false)])]) (q (q (r [2,6] [m 5 0,o 6 (C 155 5)]) (.block 0 (.range 92 0 [2] (.t 6)))) (q (r [2] [n (.store 1 (.t 2) (b true))]) (x [2])))),[([7,8],hz,dz)]⟩
def nR:ka:=(r [3,4] [a 4 7])
def XQ:ka:=(.block 1 (r [] [o 9 (.loadA (.t 3)),m 10 4,o 11 (.mksl false 1 1 [.flat (.int .i32 0)] [⟨0,⟨1,.t 10⟩⟩]),o 12 (.append false 1 (.t 9) (.t 11)),n (S 1 3 12)]))
def aO:na:=⟨14,[.inl 2],(q (r [0,2] [o 2 (.asg (.c V))]) (q (r [0,2,3] [o 3 (.alloc 278 [V])]) (q (q (r [2,3,6] [m 5 0,o 6 (C 155 5)]) (.block 0 (.range 231 0 [3] (.t 6)))) (q (r [2] [o 13 (L 1 3),a 2 13]) (x [2]))))),[([7,8],nR,XQ)]⟩
def iR:ka:=(r [6,7] [a 7 21])
def SQ:ka:=(.block 1 (r [] [m 22 7,o 23 (CC 164 6 22)]))
def vL:na:=⟨28,[.inl 4,.inl 5],(q (r [0,1,4,5] [o 4 (AS #[]),o 5 (AI 0)]) (q (q (r [0,1,4,5,10] [m 8 0,o 9 (C 40 8),o 10 (U 9)]) (w 10 (q (r [4,5] [o 4 (AS #[]),o 5 (AI 1)]) (x [4,5])) z)) (q (r [0,1,4,5,6] [m 11 0,o 12 (K 11),o 13 (BI .add 12 1),o 14 (.build [.flat (.pointer .none),V,J] [⟨2,⟨1,.t 13⟩⟩]),o 6 (.alloc 236 [.flat (.pointer .none),V,J]),n (S 3 6 14)]) (q (r [1,4,5,6] [o 15 (F 0 6),m 16 0,o 17 (BS .add 16 #[58]),o 18 (CC 45 15 17)]) (q (q (r [4,5,6,20] [m 19 1,o 20 (C 163 19)]) (.block 0 (.range 98 0 [6] (.t 20)))) (q (r [6] [o 24 (F 0 6),o 25 (CS 45 24 #[13,10])]) (q (r [4,5] [o 26 (F 0 6),o 27 (C 46 26),a 4 27,o 5 (AI 0)]) (x [4,5])))))))),[([21],iR,SQ)]⟩
def LF:ka:=(q (r [0,6,7,8] [o 8 (B .lss 7 6)]) (q (w 8 z (.exit 0 [0])) (q (.block 1 (q (r [0,3,6,7] [m 9 7,a 3 9]) (q (r [0,4,6,7] [m 10 0,m 11 3,o 12 (D 10 11),a 4 12]) (q (r [0,6,7,32] [m 13 4,o 14 (BU .or 13 32),o 15 (BU .lss 14 97),m 16 15,h 16 17 (M 4),h 16 18 (BU .or 17 32),h 16 19 (BU .gtr 18 122),o 20 (O 16 19),m 21 20,g 21 22 (M 4),g 21 23 (BU .lss 22 48),g 21 24 (M 23),h 24 25 (M 4),h 24 26 (BU .gtr 25 57),g 21 27 (O 24 26),o 28 (P 21 27),m 29 28,g 29 30 (M 4),g 29 31 (BU .neq 30 45),o 32 (P 29 31)]) (w 32 (q (r [2] [o 2 (AB false)]) (x [2])) z))))) (r [0,6,7] [o 33 (BI .add 7 1),m 7 33]))))
def Xx:ka:=LF
def GH:=@Xa Xx LF rfl
def AL:na:=⟨41,[.inl 2],(q (r [0] [o 2 (AB false)]) (q (q (r [0,6,7] [m 5 0,o 6 (K 5),o 7 (.mv (i 0))]) (k 0 [0,6,7] Xx)) (q (r [2] [m 34 0,o 35 (BS .neq 34 #[]),m 36 35,g 36 37 (M 0),g 36 38 (K 37),g 36 39 (BI .leq 38 32),o 40 (P 36 39),a 2 40]) (x [2])))),[]⟩
def IF:ka:=(q (r [0,3,9,10,11] [o 11 (B .lss 10 9)]) (q (w 11 z (.exit 0 [3])) (q (.block 1 (q (r [0,3,4,9,10] [m 12 10,a 4 12]) (q (r [0,3,4,5,9,10] [m 13 0,m 14 4,o 15 (D 13 14),a 5 15]) (q (q (r [0,3,5,9,10,34] [m 16 5,o 17 (BU .eql 16 32),m 18 17,g 18 19 (M 3),g 18 20 (BI .eql 19 0),o 21 (P 18 20),m 22 21,h 22 23 (M 5),h 22 24 (BU .lss 23 32),o 25 (O 22 24),m 26 25,h 26 27 (M 5),h 26 28 (BU .gtr 27 126),o 29 (O 26 28),m 30 29,h 30 31 (M 0),h 30 32 (M 4),h 30 33 (.call 85 [.t 31,s #[61,63],.t 32]),o 34 (O 30 33)]) (w 34 (q (r [2] [o 2 (AB false)]) (x [2])) z)) (q (q (r [0,3,5,9,10] [m 35 3,o 36 (BI .add 35 1),a 3 36]) (q (r [0,3,9,10,38] [m 37 5,o 38 (BU .eql 37 32)]) (w 38 (r [0,3,9,10] [o 3 (AI 0)]) z))) (q (r [0,3,9,10,40] [m 39 3,o 40 (BI .gtr 39 60)]) (w 40 (q (r [2] [o 2 (AB false)]) (x [2])) z))))))) (r [0,3,9,10] [o 41 (BI .add 10 1),m 10 41]))))
def Vx:ka:=IF
def OT:=@Xa Vx IF rfl
def tL:na:=⟨44,[.inl 2],(q (r [0] [o 2 (AB false)]) (q (q (r [0,7] [m 6 0,o 7 (BS .eql 6 #[])]) (w 7 (q (r [2] [o 2 (AB true)]) (x [2])) z)) (q (r [0,3] [o 3 (AI 0)]) (q (q (r [0,3,9,10] [m 8 0,o 9 (K 8),o 10 (.mv (i 0))]) (k 0 [0,3,9,10] Vx)) (q (r [2] [m 42 3,o 43 (BI .gtr 42 0),a 2 43]) (x [2])))))),[]⟩
def BL:na:=⟨4,[.inl 2],(q (r [1] [o 1 (.box 9 1 (.t 0)),o 2 (.asg (.c (.flat .nilFunc)))]) (q (r [2] [o 3 (.clos 229 [.t 1]),a 2 3]) (x [2]))),[]⟩
def MF:ka:=(q (r [0,14,15,16,17] [o 17 (B .lss 16 15)]) (q (w 17 z (.exit 0 [])) (q (.block 1 (q (r [0,4,14,15,16] [o 18 (Y 1 14 16),o 19 (L 1 18),a 4 19]) (q (r [0,14,15,16,23] [m 20 0,m 21 4,o 22 (.callv (.t 20) [.t 21]),o 23 (U 22)]) (w 23 (x []) z)))) (r [0,14,15,16] [o 24 (BI .add 16 1),m 16 24]))))
def Yx:ka:=MF
def PT:=@Xa Yx MF rfl
def NF:ka:=(q (r [0,5,26,27,28,29] [o 29 (B .lss 28 27)]) (q (w 29 z (.exit 2 [0,5])) (q (.block 3 (q (r [0,5,7,26,27,28] [o 30 (Y 1 26 28),o 31 (L 1 30),a 7 31]) (q (r [0,5,8,26,27,28] [m 32 7,o 33 (C 159 32),a 8 33]) (q (q (r [0,5,8,26,27,28,39] [m 34 8,o 35 (K 34),m 36 5,o 37 (K 36),o 38 (IB .sub 45 37),o 39 (B .gtr 35 38)]) (w 39 (q (q (r [0,8,26,27,28,46] [m 40 0,m 41 5,o 42 (C 232 41),o 43 (SB .add #[61,63,85,84,70,45,56,63,66,63] 42),o 44 (BS .add 43 #[63,61]),o 45 (.callv (.t 40) [.t 44]),o 46 (U 45)]) (w 46 (x []) z)) (r [0,5,8,26,27,28] [o 5 (AS #[])])) z)) (r [0,5,26,27,28] [m 47 5,m 48 8,o 49 (B .add 47 48),a 5 49]))))) (r [0,5,26,27,28] [o 50 (BI .add 28 1),m 28 50]))))
def Zx:ka:=NF
def HH:=@Xa Zx NF rfl
def CL:na:=⟨57,[],(q (q (r [0,1,10] [o 9 (L 1 1),o 10 (BS .eql 9 #[])]) (w 10 (x []) z)) (q (q (r [0,1,12] [o 11 (L 1 1),o 12 (C 230 11)]) (w 12 (q (q (r [0,14,15,16] [o 13 (L 1 1),o 14 (.call 41 [.t 13,u 32]),o 15 (W 14),o 16 (.mv (i 0))]) (k 0 [0,14,15,16] Yx)) (x [])) z)) (q (r [0,1,5] [o 5 (AS #[])]) (q (q (r [0,5,26,27,28] [o 25 (L 1 1),o 26 (C 231 25),o 27 (W 26),o 28 (.mv (i 0))]) (k 2 [0,5,26,27,28] Zx)) (r [] [m 51 0,m 52 5,o 53 (C 232 52),o 54 (SB .add #[61,63,85,84,70,45,56,63,66,63] 53),o 55 (BS .add 54 #[63,61]),o 56 (.callv (.t 51) [.t 55])]))))),[]⟩
def zL:na:=⟨35,[],(q (q (r [0,1,11] [m 4 1,o 5 (K 4),m 6 0,o 7 (N 6),o 8 (F 2 7),o 9 (L 1 8),o 10 (IB .sub 76 9),o 11 (B .geq 5 10)]) (w 11 (q (r [0,1] [m 12 0,o 13 (N 12),o 14 (F 0 13),o 15 (CS 45 14 #[13,10])]) (r [0,1] [m 16 0,o 17 (N 16),o 18 (F 2 17),n (.store 1 (.t 18) (i 0))])) z)) (q (r [0,1] [m 19 0,o 20 (N 19),o 21 (F 0 20),m 22 1,o 23 (SB .add #[32] 22),o 24 (CC 45 21 23)]) (r [] [m 25 0,o 26 (N 25),o 27 (F 2 26),o 28 (L 1 27),m 29 1,o 30 (K 29),o 31 (IB .add 1 30),o 32 (B .add 28 31),o 33 (N 25),o 34 (F 2 33),n (S 1 34 32)]))),[]⟩
def JF:ka:=(q (r [2,9,10,11,40,41,42,43] [o 43 (B .lss 42 41)]) (q (w 43 z (.exit 0 [2,9])) (q (.block 1 (q (r [2,9,10,11,13,40,41,42] [o 44 (Y 1 40 42),o 45 (L 1 44),a 13 45]) (q (q (r [2,9,10,11,13,40,41,42,47] [m 46 13,o 47 (BS .eql 46 #[])]) (w 47 (.exit 1 [2,9,10,11,40,41,42]) z)) (q (r [2,9,10,11,14,15,40,41,42] [m 49 13,o 50 (C 43 49),m 48 50,o 51 (E 48 0),o 52 (E 48 1),a 14 51,a 15 52]) (q (q (r [2,9,14,15,40,41,42,60] [m 53 10,m 54 53,g 54 55 (M 11),g 54 56 (M 55),g 56 57 (M 15),g 54 58 (P 56 57),g 54 59 (U 58),o 60 (P 54 59)]) (w 60 (r [2,9,14,15,40,41,42] [o 61 (.call 44 [.t 9,u 32])]) z)) (q (r [2,9,15,40,41,42] [m 62 14,o 63 (CC 45 9 62)]) (r [2,9,10,11,40,41,42] [m 64 15,o 10 (AB true),a 11 64]))))))) (r [2,9,10,11,40,41,42] [o 65 (BI .add 42 1),m 42 65]))))
def Wx:ka:=JF
def rt:=@Xa Wx JF rfl
def uL:na:=⟨68,[.inl 2,.inl 3,.inl 4],(q (r [0] [o 2 (AS #[]),o 3 (AS #[]),o 4 (AI 0)]) (q (r [5,6] [m 17 0,o 18 (C 38 17),m 16 18,o 19 (E 16 0),o 20 (E 16 1),a 5 19,a 6 20]) (q (r [2,6,7,8] [m 22 5,o 23 (CS 39 22 #[58]),m 21 23,o 24 (E 21 0),o 25 (E 21 1),o 26 (E 21 2),a 2 24,a 7 25,a 8 26]) (q (q (r [2,7,37] [m 27 6,o 28 (U 27),m 29 28,h 29 30 (M 8),h 29 31 (U 30),o 32 (O 29 31),m 33 32,h 33 34 (M 2),h 33 35 (C 40 34),h 33 36 (U 35),o 37 (O 33 36)]) (w 37 (q (r [2,3,4] [o 2 (AS #[]),o 3 (AS #[]),o 4 (AI 7)]) (x [2,3,4])) z)) (q (r [2,7,9] [o 9 (.alloc 101 [.flat (.pointer .none),V])]) (q (r [2,7,9,10,11] [o 10 (AB false),o 11 (AB false)]) (q (q (r [2,9,10,11,40,41,42] [m 38 7,o 39 (.call 42 [.t 38,s #[9],s #[32]]),o 40 (.call 41 [.t 39,u 32]),o 41 (W 40),o 42 (.mv (i 0))]) (k 0 [2,9,10,11,40,41,42] Wx)) (q (r [2,3,4] [m 66 2,o 67 (C 46 9),a 2 66,a 3 67,o 4 (AI 0)]) (x [2,3,4]))))))))),[]⟩
def KF:ka:=(q (q (r [0,5,6,17] [m 14 6,m 15 0,o 16 (K 15),o 17 (B .lss 14 16)]) (w 17 z (.exit 0 [5]))) (q (.block 1 (q (q (r [0,5,6,36] [m 20 0,m 21 6,o 22 (.call 85 [.t 20,s #[13,10],.t 21]),m 23 22,g 23 24 (M 6),g 23 25 (BI .add 24 2),g 23 26 (M 0),g 23 27 (K 26),g 23 28 (B .lss 25 27),o 29 (P 23 28),m 30 29,g 30 31 (M 0),g 30 32 (M 6),g 30 33 (BI .add 32 2),g 30 34 (D 31 33),g 30 35 (C 86 34),o 36 (P 30 35)]) (w 36 (q (r [0,5,6] [m 37 6,o 38 (BI .add 37 1),a 6 38]) (.exit 1 [0,5,6])) z)) (q (q (r [0,5,6,48] [m 39 0,m 40 6,o 41 (D 39 40),o 42 (BU .eql 41 13),m 43 42,h 43 44 (M 0),h 43 45 (M 6),h 43 46 (D 44 45),h 43 47 (BU .eql 46 10),o 48 (O 43 47)]) (w 48 (q (r [2,3] [o 2 (AS #[]),o 3 (AB false)]) (x [2,3])) z)) (r [0,5,6] [m 49 0,m 50 6,o 51 (D 49 50),o 52 (CC 44 5 51)])))) (r [0,5,6] [m 18 6,o 19 (BI .add 18 1),a 6 19])))
def dC:ka:=KF
def Ir:=@Xa dC KF rfl
def yL:na:=⟨54,[.inl 2,.inl 3],(q (r [0] [o 2 (AS #[]),o 3 (AB false)]) (q (r [0,4] [m 8 0,o 9 (CS 84 8 #[13,10]),m 7 9,o 10 (E 7 0),o 11 (E 7 1),a 0 10,a 4 11]) (q (q (r [0,13] [m 12 4,o 13 (U 12)]) (w 13 (q (r [2,3] [o 2 (AS #[]),o 3 (AB false)]) (x [2,3])) z)) (q (r [0,5] [o 5 (.alloc 101 [.flat (.pointer .none),V])]) (q (q (r [0,5,6] [o 6 (AI 0)]) (k 0 [0,5,6] dC)) (q (r [2,3] [o 53 (C 46 5),a 2 53,o 3 (AB true)]) (x [2,3]))))))),[]⟩
def xL:na:=⟨40,[.inl 2,.inl 3],(q (r [0] [o 2 (AS #[]),o 3 (AB false)]) (q (r [0,4,5] [m 10 0,o 11 (CS 90 10 #[61,63,85,84,70,45,56,63,66,63]),m 9 11,o 12 (E 9 0),o 13 (E 9 1),a 4 12,a 5 13]) (q (r [0,4,5,6] [m 15 4,o 16 (CS 84 15 #[63,61]),m 14 16,o 17 (E 14 0),o 18 (E 14 1),a 4 17,a 6 18]) (q (q (r [0,4,24] [m 19 5,o 20 (U 19),m 21 20,h 21 22 (M 6),h 21 23 (U 22),o 24 (O 21 23)]) (w 24 (q (r [2,3] [m 25 0,a 2 25,o 3 (AB false)]) (x [2,3])) z)) (q (r [0,7,8] [m 27 4,o 28 (C 91 27),m 26 28,o 29 (E 26 0),o 30 (E 26 1),a 7 29,a 8 30]) (q (q (r [0,7,37] [m 31 8,o 32 (BI .neq 31 0),m 33 32,h 33 34 (M 7),h 33 35 (C 92 34),h 33 36 (U 35),o 37 (O 33 36)]) (w 37 (q (r [2,3] [m 38 0,a 2 38,o 3 (AB false)]) (x [2,3])) z)) (q (r [2,3] [m 39 7,a 2 39,o 3 (AB true)]) (x [2,3])))))))),[]⟩
def wL:na:=⟨9,[.inl 2],(q (r [0] [o 2 (AB false)]) (q (r [2] [m 3 0,o 4 (BU .eql 3 32),m 5 4,h 5 6 (M 0),h 5 7 (BU .eql 6 9),o 8 (O 5 7),a 2 8]) (x [2]))),[]⟩
def DN:na:=⟨19,[.inl 4,.inl 5],(q (r [0,1] [o 4 (AI 0),o 5 (.asg (.c (.flat .nilIface)))]) (q (r [0,1] [m 6 0,o 7 (C 93 6)]) (q (r [1] [m 8 0,m 9 0,o 10 (N 9),o 11 (F 1 10),o 12 (.loadA (.t 11)),m 13 1,o 14 (.appendS (.t 12) (.t 13)),o 15 (N 8),o 16 (F 1 15),n (S 1 16 14)]) (q (r [4,5] [m 17 1,o 18 (K 17),a 4 18,o 5 (.asg (.c (.flat .nilIface)))]) (x [4,5]))))),[]⟩
def CN:na:=⟨17,[.inl 4],(q (r [0,1] [o 4 (.asg (.c (.flat .nilIface)))]) (q (r [0,1] [m 5 0,o 6 (C 93 5)]) (q (r [] [m 7 0,m 8 0,o 9 (N 8),o 10 (F 1 9),o 11 (.loadA (.t 10)),m 12 1,o 13 (.mksl true 1 1 [.flat (.int .u8 0)] [⟨0,⟨1,.t 12⟩⟩]),o 14 (.append true 1 (.t 11) (.t 13)),o 15 (N 7),o 16 (F 1 15),n (S 1 16 14)]) (q (r [4] [o 4 (.asg (.c (.flat .nilIface)))]) (x [4]))))),[]⟩
def lR:ka:=(r [5,6] [a 6 10])
def VQ:ka:=(.block 1 (r [] [o 11 (.loadA (.t 5)),m 12 6,o 13 (.mksl false 1 1 [Z] [⟨0,⟨1,.t 12⟩⟩]),o 14 (.append false 1 (.t 11) (.t 13)),n (S 1 5 14)]))
def jN:na:=⟨16,[.inl 4],(q (r [0,1,4] [o 4 (.asg (.c V))]) (q (r [0,1,4,5] [o 5 (.alloc 29 [V])]) (q (q (r [4,5,9] [m 7 0,m 8 1,o 9 (CC 88 7 8)]) (.block 0 (.range 41 0 [5] (.t 9)))) (q (r [4] [o 15 (L 1 5),a 4 15]) (x [4]))))),[([10],lR,VQ)]⟩
def kN:na:=⟨6,[.inl 4],(q (r [2,3] [o 2 (.box 9 1 (.t 0)),o 3 (.box 5 1 (.t 1)),o 4 (.asg (.c (.flat .nilFunc)))]) (q (r [4] [o 5 (.clos 149 [.t 2,.t 3]),a 4 5]) (x [4]))),[]⟩
def GG:ka:=(.block 1 (q (r [0,1,2,4] [o 5 (L 1 1),o 6 (L 1 2),o 7 (CC 96 5 6),a 4 7]) (q (q (r [0,1,2,4,9] [m 8 4,o 9 (BI .lss 8 0)]) (w 9 (q (r [] [m 10 0,o 11 (L 1 1),o 12 (.callv (.t 10) [.t 11])]) (x [])) z)) (q (q (r [0,1,2,4,18] [m 13 0,o 14 (L 1 1),m 15 4,o 16 (.sliceS (.t 14) .none (.some (.t 15))),o 17 (.callv (.t 13) [.t 16]),o 18 (U 17)]) (w 18 (x []) z)) (r [0,1,2] [o 19 (L 1 1),m 20 4,o 21 (BI .add 20 1),o 22 (.sliceS (.t 19) (.some (.t 21)) .none),n (S 1 1 22)])))))
def MC:ka:=GG
def TH:=@Xa MC GG rfl
def lN:na:=⟨23,[],(k 0 [0,1,2] MC),[]⟩
def hN:na:=⟨22,[.inl 6],(q (r [0,1,2] [o 6 (AB false)]) (q (r [6] [m 7 2,o 8 (BI .geq 7 0),m 9 8,g 9 10 (M 2),g 9 11 (M 0),g 9 12 (K 11),g 9 13 (B .leq 10 12),o 14 (P 9 13),m 15 14,g 15 16 (M 0),g 15 17 (M 2),g 15 18 (.sliceS (.t 16) (.some (.t 17)) .none),g 15 19 (M 1),g 15 20 (CC 80 18 19),o 21 (P 15 20),a 6 21]) (x [6]))),[]⟩
def OG:ka:=(q (q (r [4,5,19] [m 15 4,o 16 (N 15),o 17 (F 0 16),o 18 (C 111 17),o 19 (U 18)]) (w 19 z (.exit 0 [5]))) (.block 1 (q (r [4,5,6,7] [m 21 4,o 22 (C 112 21),m 20 22,o 23 (E 20 0),o 24 (E 20 1),o 6 (.alloc 190 [.flat (.int .u8 0),Z,Z,V,J,J]),n (S 6 6 23),a 7 24]) (q (q (r [4,5,6,26] [m 25 7,o 26 (U 25)]) (w 26 (q (r [2,3] [o 2 (.asg (.c V)),o 3 (AI 7)]) (x [2,3])) z)) (r [4,5] [o 27 (.mvA 5),o 28 (LT 6 6),o 29 (.mksl false 1 6 [.flat (.int .u8 0),Z,Z,V,J,J] [⟨0,⟨6,.t 28⟩⟩]),o 30 (.append false 6 (.t 27) (.t 29)),a 5 30])))))
def SC:ka:=OG
def YH:=@Xa SC OG rfl
def EN:na:=⟨32,[.inl 2,.inl 3],(q (r [0] [o 2 (.asg (.c V)),o 3 (AI 0)]) (q (q (r [0,10] [m 8 0,o 9 (C 92 8),o 10 (U 9)]) (w 10 (q (r [2,3] [o 2 (.asg (.c V)),o 3 (AI 7)]) (x [2,3])) z)) (q (r [4] [m 11 0,o 12 (.build [Z,J] [⟨0,⟨1,.t 11⟩⟩]),o 13 (.build [Z,J] [⟨0,⟨2,.t 12⟩⟩]),o 14 (.box 187 2 (.t 13)),a 4 14]) (q (r [4,5] [o 5 (.asg (.c V))]) (q (k 0 [4,5] SC) (q (r [2,3] [m 31 5,a 2 31,o 3 (AI 0)]) (x [2,3]))))))),[]⟩
def FN:na:=⟨13,[.inl 2],(q (r [0] [o 2 (AB false)]) (q (r [2] [m 3 0,o 4 (BS .eql 3 #[98,114]),m 5 4,h 5 6 (M 0),h 5 7 (BS .eql 6 #[104,114]),o 8 (O 5 7),m 9 8,h 9 10 (M 0),h 9 11 (BS .eql 10 #[105,109,103]),o 12 (O 9 11),a 2 12]) (x [2]))),[]⟩
def IN:na:=⟨6,[.inl 2],(q (r [0] [o 2 (AB false)]) (q (r [2] [o 3 (.mksl false 26 1 [Z,Z,Z,Z,Z,Z,Z,Z,Z,Z,Z,Z,Z,Z,Z,Z,Z,Z,Z,Z,Z,Z,Z,Z,Z,Z] [⟨0,⟨1,s #[97]⟩⟩,⟨1,⟨1,s #[98]⟩⟩,⟨2,⟨1,s #[98,114]⟩⟩,⟨3,⟨1,s #[99,111,100,101]⟩⟩,⟨4,⟨1,s #[100,105,118]⟩⟩,⟨5,⟨1,s #[101,109]⟩⟩,⟨6,⟨1,s #[104,49]⟩⟩,⟨7,⟨1,s #[104,50]⟩⟩,⟨8,⟨1,s #[104,51]⟩⟩,⟨9,⟨1,s #[104,114]⟩⟩,⟨10,⟨1,s #[105]⟩⟩,⟨11,⟨1,s #[105,109,103]⟩⟩,⟨12,⟨1,s #[108,105]⟩⟩,⟨13,⟨1,s #[111,108]⟩⟩,⟨14,⟨1,s #[112]⟩⟩,⟨15,⟨1,s #[112,114,101]⟩⟩,⟨16,⟨1,s #[115,112,97,110]⟩⟩,⟨17,⟨1,s #[115,116,114,111,110,103]⟩⟩,⟨18,⟨1,s #[116,97,98,108,101]⟩⟩,⟨19,⟨1,s #[116,98,111,100,121]⟩⟩,⟨20,⟨1,s #[116,100]⟩⟩,⟨21,⟨1,s #[116,104]⟩⟩,⟨22,⟨1,s #[116,104,101,97,100]⟩⟩,⟨23,⟨1,s #[116,114]⟩⟩,⟨24,⟨1,s #[117]⟩⟩,⟨25,⟨1,s #[117,108]⟩⟩]),m 4 0,o 5 (CC 241 3 4),a 2 5]) (x [2]))),[]⟩
def GN:na:=⟨6,[.inl 2],(q (r [0] [o 2 (AB false)]) (q (r [2] [o 3 (.mksl false 9 1 [Z,Z,Z,Z,Z,Z,Z,Z,Z] [⟨0,⟨1,s #[97,108,116]⟩⟩,⟨1,⟨1,s #[99,108,97,115,115]⟩⟩,⟨2,⟨1,s #[99,111,108,115,112,97,110]⟩⟩,⟨3,⟨1,s #[104,114,101,102]⟩⟩,⟨4,⟨1,s #[105,100]⟩⟩,⟨5,⟨1,s #[114,111,119,115,112,97,110]⟩⟩,⟨6,⟨1,s #[115,114,99]⟩⟩,⟨7,⟨1,s #[116,105,116,108,101]⟩⟩,⟨8,⟨1,s #[119,105,100,116,104]⟩⟩]),m 4 0,o 5 (CC 241 3 4),a 2 5]) (x [2]))),[]⟩
def HN:na:=⟨13,[.inl 2],(q (r [0] [o 2 (AB false)]) (q (r [2] [m 3 0,o 4 (BU .eql 3 32),m 5 4,h 5 6 (M 0),h 5 7 (BU .eql 6 9),o 8 (O 5 7),m 9 8,h 9 10 (M 0),h 9 11 (BU .eql 10 10),o 12 (O 9 11),a 2 12]) (x [2]))),[]⟩
def MN:na:=⟨17,[.inl 2],(q (r [0] [o 2 (AB false)]) (q (r [2] [m 3 0,o 4 (BU .geq 3 97),m 5 4,g 5 6 (M 0),g 5 7 (BU .leq 6 122),o 8 (P 5 7),m 9 8,h 9 10 (M 0),h 9 11 (BU .geq 10 48),h 9 12 (M 11),g 12 13 (M 0),g 12 14 (BU .leq 13 57),h 9 15 (P 12 14),o 16 (O 9 15),a 2 16]) (x [2]))),[]⟩
def JN:na:=⟨13,[.inl 2],(q (r [0] [o 2 (AB false)]) (q (.kb [2] [m 3 0,o 4 (N 3),o 5 (F 1 4),o 6 (L 1 5),m 7 0,o 8 (N 7),o 9 (F 0 8),o 10 (L 1 9),o 11 (K 10)] [o 12 (B .geq 6 11),a 2 12]) (x [2]))),[]⟩
def KN:na:=⟨26,[.inl 4],(q (r [0,1] [o 4 (AB false)]) (q (q (.kb [0,1,16] [m 5 0,o 6 (N 5),o 7 (F 0 6),o 8 (L 1 7),m 9 0,o 10 (N 9),o 11 (F 1 10),o 12 (L 1 11),o 13 (.sliceS (.t 8) (.some (.t 12)) .none),m 14 1] [o 15 (CC 80 13 14),o 16 (U 15)]) (w 16 (q (r [4] [o 4 (AB false)]) (x [4])) z)) (q (r [] [m 17 0,o 18 (N 17),o 19 (F 1 18),o 20 (L 1 19),m 21 1,o 22 (K 21),o 23 (B .add 20 22),o 24 (N 17),o 25 (F 1 24),n (S 1 25 23)]) (q (r [4] [o 4 (AB true)]) (x [4]))))),[]⟩
def PG:ka:=(q (q (.jg [0,1,5,25] [m 10 0,o 11 (C 111 10),o 12 (U 11),m 13 12,g 13 14 (M 1),g 13 15 (M 0),g 13 16 (N 15),g 13 17 (F 0 16),g 13 18 (L 1 17),g 13 19 (M 0),g 13 20 (N 19),g 13 21 (F 1 20),g 13 22 (L 1 21),g 13 23 (D 18 22)] (.one (g 13 24 (.callv (.t 14) [.t 23])) (.one (o 25 (P 13 24)) .done))) (w 25 z (.exit 0 [0,5]))) (.block 1 (r [0,1,5] [m 26 0,o 27 (N 26),o 28 (F 1 27),o 29 (L 1 28),o 30 (BI .add 29 1),o 31 (N 26),o 32 (F 1 31),n (S 1 32 30)])))
def TC:ka:=PG
def ZH:=@Xa TC PG rfl
def LN:na:=⟨43,[.inl 4],(q (r [0,1] [o 4 (AS #[])]) (q (r [0,1,5] [m 6 0,o 7 (N 6),o 8 (F 1 7),o 9 (L 1 8),a 5 9]) (q (k 0 [0,1,5] TC) (q (.kb [4] [m 33 0,o 34 (N 33),o 35 (F 0 34),o 36 (L 1 35),m 37 5,m 38 0,o 39 (N 38),o 40 (F 1 39),o 41 (L 1 40)] [o 42 (.sliceS (.t 36) (.some (.t 37)) (.some (.t 41))),a 4 42]) (x [4]))))),[]⟩
def ON:na:=⟨69,[.inr ⟨2,⟨true,6⟩⟩,.inl 3],(q (r [0,2] [o 2 (.alloc 190 [.flat (.int .u8 0),Z,Z,V,J,J]),o 3 (AB false)]) (q (r [0,2,4] [m 9 0,o 10 (N 9),o 11 (F 0 10),o 12 (F 1 11),o 13 (L 1 12),a 4 13]) (q (.block 0 (q (r [0,2,4,14] [m 15 0,o 16 (N 15),o 17 (F 0 16),o 18 (CS 178 17 #[60,47]),a 14 18]) (w 14 (q (r [0,2,4,5] [m 19 0,o 20 (N 19),o 21 (F 0 20),o 22 (.call 179 [.t 21,.c (.cb 180 [])]),a 5 22]) (q (r [0,2,4,5,6] [m 23 5,o 24 (C 181 23),m 25 24,g 25 26 (M 5),g 25 27 (C 182 26),g 25 28 (U 27),o 29 (P 25 28),m 30 29,g 30 31 (M 0),g 30 32 (N 31),g 30 33 (F 0 32),g 30 34 (CS 178 33 #[62]),o 35 (P 30 34),a 6 35]) (q (r [2,3] [m 36 5,m 37 4,m 38 0,o 39 (N 38),o 40 (F 0 39),o 41 (F 1 40),o 42 (L 1 41),o 43 (.build [.flat (.int .u8 0),Z,Z,V,J,J] [⟨0,⟨1,u 99⟩⟩,⟨1,⟨1,.t 36⟩⟩,⟨4,⟨1,.t 37⟩⟩,⟨5,⟨1,.t 42⟩⟩]),m 44 6,n (S 6 2 43),a 3 44]) (x [2,3])))) (q (r [0,2,4,45] [m 46 0,o 47 (N 46),o 48 (F 0 47),o 49 (CS 178 48 #[60]),a 45 49]) (w 45 (q (r [2,3] [m 50 0,m 51 4,o 52 (CC 183 50 51),o 53 (E 52 0),o 54 (E 52 1),n (S 6 2 53),a 3 54]) (x [2,3])) z))))) (q (r [0,2,4,7,8] [m 56 0,o 57 (.call 184 [.t 56,u 60,u 62]),m 55 57,o 58 (E 55 0),o 59 (E 55 1),a 7 58,a 8 59]) (q (r [2,3] [m 60 7,m 61 4,m 62 0,o 63 (N 62),o 64 (F 0 63),o 65 (F 1 64),o 66 (L 1 65),o 67 (.build [.flat (.int .u8 0),Z,Z,V,J,J] [⟨0,⟨1,u 116⟩⟩,⟨2,⟨1,.t 60⟩⟩,⟨4,⟨1,.t 61⟩⟩,⟨5,⟨1,.t 66⟩⟩]),m 68 8,n (S 6 2 67),a 3 68]) (x [2,3])))))),[]⟩
def RG:ka:=(.block 1 (q (r [0,4,6,7] [m 21 0,o 22 (N 21),o 23 (F 0 22),o 24 (.call 179 [.t 23,.c (.cb 242 [])]),a 7 24]) (q (q (r [0,4,6,7,28] [m 25 0,o 26 (N 25),o 27 (F 0 26),o 28 (CS 178 27 #[62])]) (w 28 (q (r [4,6] [m 29 0,o 30 (N 29),o 31 (F 0 30),o 32 (F 1 31),o 33 (L 1 32),o 34 (F 5 6),n (S 1 34 33)]) (q (r [4,5] [o 35 (LT 6 6),n (S 6 4 35),o 5 (AB true)]) (x [4,5]))) z)) (q (r [0,4,6,7,8,9] [m 37 0,o 38 (C 243 37),m 36 38,o 39 (E 36 0),o 40 (E 36 1),o 8 (.alloc 282 [Z,Z,J,J]),n (S 4 8 39),a 9 40]) (q (q (r [0,4,6,8,52] [m 41 9,o 42 (U 41),m 43 42,h 43 44 (M 7),h 43 45 (BS .eql 44 #[]),o 46 (O 43 45),m 47 46,h 47 48 (F 3 6),h 47 49 (L 1 48),h 47 50 (.clos 245 [.t 8]),h 47 51 (CC 244 49 50),o 52 (O 47 51)]) (w 52 (q (r [4,5] [o 53 (LT 6 6),n (S 6 4 53),o 5 (AB false)]) (x [4,5])) z)) (r [0,4,6] [o 54 (F 3 6),o 55 (.loadA (.t 54)),o 56 (LT 4 8),o 57 (.mksl false 1 4 [Z,Z,J,J] [⟨0,⟨4,.t 56⟩⟩]),o 58 (.append false 4 (.t 55) (.t 57)),o 59 (F 3 6),n (S 1 59 58)]))))))
def ts:ka:=RG
def mw:=@Xa ts RG rfl
def QN:na:=⟨60,[.inr ⟨4,⟨true,6⟩⟩,.inl 5],(q (r [0,1,4] [o 4 (.alloc 190 [.flat (.int .u8 0),Z,Z,V,J,J]),o 5 (AB false)]) (q (r [0,4,6] [m 10 0,o 11 (N 10),o 12 (F 0 11),o 13 (.call 179 [.t 12,.c (.cb 180 [])]),m 14 1,o 15 (.build [.flat (.int .u8 0),Z,Z,V,J,J] [⟨0,⟨1,u 111⟩⟩,⟨1,⟨1,.t 13⟩⟩,⟨4,⟨1,.t 14⟩⟩]),o 6 (.alloc 190 [.flat (.int .u8 0),Z,Z,V,J,J]),n (S 6 6 15)]) (q (q (r [0,4,6,19] [o 16 (F 1 6),o 17 (L 1 16),o 18 (C 181 17),o 19 (U 18)]) (w 19 (q (r [4,5] [o 20 (LT 6 6),n (S 6 4 20),o 5 (AB false)]) (x [4,5])) z)) (k 0 [0,4,6] ts)))),[]⟩
def RN:na:=⟨9,[.inl 3],(q (r [1,2] [o 2 (.box 282 4 (.t 0)),o 3 (AB false)]) (q (r [3] [o 4 (F 0 2),o 5 (L 1 4),o 6 (F 0 1),o 7 (L 1 6),o 8 (B .eql 5 7),a 3 8]) (x [3]))),[]⟩
def SG:ka:=(q (q (.jg [0,1,2,8,31] [m 12 0,o 13 (N 12),o 14 (F 0 13),o 15 (C 111 14),o 16 (U 15),m 17 16,g 17 18 (M 0),g 17 19 (N 18),g 17 20 (F 0 19),g 17 21 (F 0 20),g 17 22 (L 1 21),g 17 23 (M 0),g 17 24 (N 23),g 17 25 (F 0 24),g 17 26 (F 1 25),g 17 27 (L 1 26),g 17 28 (D 22 27),g 17 29 (M 1),g 17 30 (B .neq 28 29),o 31 (P 17 30)] .done) (w 31 z (.exit 0 [8]))) (.block 1 (q (.kb [0,1,2,8,9] [m 32 0,o 33 (N 32),o 34 (F 0 33),o 35 (F 0 34),o 36 (L 1 35),m 37 0,o 38 (N 37),o 39 (F 0 38),o 40 (F 1 39),o 41 (L 1 40)] [o 42 (D 36 41),a 9 42]) (q (r [0,1,2,8,9,43] [m 43 9]) (.block 2 (q (r [0,1,2,8,9,43,55] [m 56 2,o 57 (B .eql 43 56),a 55 57]) (w 55 (q (r [6,7] [o 6 (AS #[]),o 7 (AB false)]) (x [6,7])) (q (r [0,1,2,8,9,58] [o 59 (BU .eql 43 38),a 58 59]) (w 58 (q (r [0,1,2,8,10,11] [m 61 0,o 62 (C 246 61),m 60 62,o 63 (E 60 0),o 64 (E 60 1),a 10 63,a 11 64]) (q (q (r [0,1,2,8,10,66] [m 65 11,o 66 (U 65)]) (w 66 (q (r [6,7] [o 6 (AS #[]),o 7 (AB false)]) (x [6,7])) z)) (r [0,1,2,8] [m 67 10,o 68 (CC 45 8 67)]))) (q (r [0,1,2,8] [m 44 9,o 45 (CC 44 8 44)]) (r [0,1,2,8] [m 46 0,o 47 (N 46),o 48 (F 0 47),o 49 (F 1 48),o 50 (L 1 49),o 51 (BI .add 50 1),o 52 (N 46),o 53 (F 0 52),o 54 (F 1 53),n (S 1 54 51)])))))))))))
def VC:ka:=SG
def wt:=@Xa VC SG rfl
def TN:na:=⟨70,[.inl 6,.inl 7],(q (r [0,1,2] [o 6 (AS #[]),o 7 (AB false)]) (q (r [0,1,2,8] [o 8 (.alloc 101 [.flat (.pointer .none),V])]) (q (k 0 [0,1,2,8] VC) (q (r [6,7] [o 69 (C 46 8),a 6 69,o 7 (AB true)]) (x [6,7]))))),[]⟩
def SN:na:=⟨42,[.inl 2,.inl 3],(q (r [0] [o 2 (AS #[]),o 3 (AB false)]) (q (.block 0 (q (r [0,4] [m 5 0,o 6 (N 5),o 7 (F 0 6),o 8 (CS 178 7 #[38,97,109,112,59]),a 4 8]) (w 4 (q (r [2,3] [o 2 (AS #[38]),o 3 (AB true)]) (x [2,3])) (q (r [0,9] [m 10 0,o 11 (N 10),o 12 (F 0 11),o 13 (CS 178 12 #[38,108,116,59]),a 9 13]) (w 9 (q (r [2,3] [o 2 (AS #[60]),o 3 (AB true)]) (x [2,3])) (q (r [0,14] [m 15 0,o 16 (N 15),o 17 (F 0 16),o 18 (CS 178 17 #[38,103,116,59]),a 14 18]) (w 14 (q (r [2,3] [o 2 (AS #[62]),o 3 (AB true)]) (x [2,3])) (q (r [0,19] [m 20 0,o 21 (N 20),o 22 (F 0 21),o 23 (CS 178 22 #[38,113,117,111,116,59]),a 19 23]) (w 19 (q (r [2,3] [o 2 (AS #[34]),o 3 (AB true)]) (x [2,3])) (q (r [0,24] [m 25 0,o 26 (N 25),o 27 (F 0 26),o 28 (CS 178 27 #[38,35,120]),a 24 28]) (w 24 (q (r [2,3] [m 29 0,o 30 (.call 281 [.t 29,i 16,i 6]),o 31 (E 30 0),o 32 (E 30 1),a 2 31,a 3 32]) (x [2,3])) (q (r [0,33] [m 34 0,o 35 (N 34),o 36 (F 0 35),o 37 (CS 178 36 #[38,35]),a 33 37]) (w 33 (q (r [2,3] [m 38 0,o 39 (.call 281 [.t 38,i 10,i 7]),o 40 (E 39 0),o 41 (E 39 1),a 2 40,a 3 41]) (x [2,3])) z))))))))))))) (q (r [2,3] [o 2 (AS #[]),o 3 (AB false)]) (x [2,3])))),[]⟩
def QG:ka:=(q (q (r [0,1,2,8,9,24] [m 15 0,o 16 (N 15),o 17 (F 0 16),o 18 (C 111 17),o 19 (U 18),m 20 19,g 20 21 (M 9),g 20 22 (M 2),g 20 23 (B .lss 21 22),o 24 (P 20 23)]) (w 24 z (.exit 0 [0,8]))) (.block 1 (q (r [0,1,2,8,9,10] [m 25 1,a 10 25]) (q (q (.kb [0,1,2,8,9,10,11] [m 26 0,o 27 (N 26),o 28 (F 0 27),o 29 (F 0 28),o 30 (L 1 29),m 31 0,o 32 (N 31),o 33 (F 0 32),o 34 (F 1 33),o 35 (L 1 34)] [o 36 (D 30 35),a 11 36]) (.block 2 (q (r [0,1,2,8,9,10,11,37] [m 38 11,o 39 (BU .geq 38 48),m 40 39,g 40 41 (M 11),g 40 42 (BU .leq 41 57),o 43 (P 40 42),a 37 43]) (w 37 (r [0,1,2,8,9,10] [m 44 11,o 45 (BU .sub 44 48),o 46 (.conv .i64 (.t 45)),a 10 46]) (q (r [0,1,2,8,9,10,11,47] [m 48 11,o 49 (BU .or 48 32),o 50 (BU .geq 49 97),m 51 50,g 51 52 (M 11),g 51 53 (BU .or 52 32),g 51 54 (BU .leq 53 102),o 55 (P 51 54),a 47 55]) (w 47 (r [0,1,2,8,9,10] [m 56 11,o 57 (BU .or 56 32),o 58 (BU .sub 57 97),o 59 (.conv .i64 (.t 58)),o 60 (BI .add 59 10),a 10 60]) z)))))) (q (q (r [0,1,2,8,9,10,63] [m 61 10,m 62 1,o 63 (B .geq 61 62)]) (w 63 (.exit 0 [0,8]) z)) (q (r [0,1,2,8,9] [m 64 8,m 65 1,o 66 (B .mul 64 65),m 67 10,o 68 (B .add 66 67),a 8 68]) (q (r [0,1,2,8,9] [m 69 9,o 70 (BI .add 69 1),a 9 70]) (r [0,1,2,8,9] [m 71 0,o 72 (N 71),o 73 (F 0 72),o 74 (F 1 73),o 75 (L 1 74),o 76 (BI .add 75 1),o 77 (N 71),o 78 (F 0 77),o 79 (F 1 78),n (S 1 79 76)]))))))))
def UC:ka:=QG
def el:=@Xa UC QG rfl
def PN:na:=⟨104,[.inl 6,.inl 7],(q (r [0,1,2] [o 6 (AS #[]),o 7 (AB false)]) (q (r [0,1,2,8,9] [o 8 (AI 0),o 9 (AI 0)]) (q (k 0 [0,1,2,8,9] UC) (q (r [0,8,12] [m 80 8,o 81 (.conv .i32 (.t 80)),o 82 (C 159 81),a 12 82]) (q (q (r [0,8,12,13] [m 84 12,o 85 (CI 225 84 0),m 83 85,o 86 (E 83 0),o 87 (E 83 1),a 13 86,a 14 87]) (q (r [12,102] [m 88 8,o 89 (BI .eql 88 0),m 90 89,h 90 91 (M 13),h 90 92 (.conv .i64 (.t 91)),h 90 93 (M 8),h 90 94 (B .neq 92 93),o 95 (O 90 94),m 96 95,h 96 97 (M 0),h 96 98 (N 97),h 96 99 (F 0 98),h 96 100 (CS 178 99 #[59]),h 96 101 (U 100),o 102 (O 96 101)]) (w 102 (q (r [6,7] [o 6 (AS #[]),o 7 (AB false)]) (x [6,7])) z))) (q (r [6,7] [m 103 12,a 6 103,o 7 (AB true)]) (x [6,7]))))))),[]⟩
def NN:na:=⟨51,[.inr ⟨2,⟨true,4⟩⟩,.inl 3],(q (r [0,2] [o 2 (.alloc 282 [Z,Z,J,J]),o 3 (AB false)]) (q (r [0,2,4] [m 7 0,o 8 (N 7),o 9 (F 0 8),o 10 (.call 179 [.t 9,.c (.cb 180 [])]),o 11 (.build [Z,Z,J,J] [⟨0,⟨1,.t 10⟩⟩]),o 4 (.alloc 282 [Z,Z,J,J]),n (S 4 4 11)]) (q (q (r [0,2,4,22] [o 12 (F 0 4),o 13 (L 1 12),o 14 (C 279 13),o 15 (U 14),m 16 15,h 16 17 (M 0),h 16 18 (N 17),h 16 19 (F 0 18),h 16 20 (CS 178 19 #[61,34]),h 16 21 (U 20),o 22 (O 16 21)]) (w 22 (q (r [2,3] [o 23 (LT 4 4),n (S 4 2 23),o 3 (AB false)]) (x [2,3])) z)) (q (r [0,2,4] [m 24 0,o 25 (N 24),o 26 (F 0 25),o 27 (F 1 26),o 28 (L 1 27),o 29 (F 2 4),n (S 1 29 28)]) (q (r [0,2,4,5,6] [m 31 0,o 32 (.call 184 [.t 31,u 34,u 60]),m 30 32,o 33 (E 30 0),o 34 (E 30 1),a 5 33,a 6 34]) (q (.jg [0,2,4,6] [m 35 5,m 36 0,o 37 (N 36),o 38 (F 0 37),o 39 (F 1 38),o 41 (F 1 4)] (.two (o 40 (L 1 39)) (.one (n (S 1 41 35)) (.one (o 42 (F 3 4)) (.one (n (S 1 42 40)) .done))) (.one (n (S 1 41 35)) (.one (o 40 (L 1 39)) (.one (o 42 (F 3 4)) (.one (n (S 1 42 40)) .done)))))) (q (.jg [2,3] [m 44 6,m 45 44,g 45 46 (M 0),g 45 47 (N 46),g 45 48 (F 0 47)] (.two (o 43 (LT 4 4)) (.one (g 45 49 (CS 178 48 #[34])) (.two (o 50 (P 45 49)) (.one (n (S 4 2 43)) (.one (a 3 50) .done)) (.one (n (S 4 2 43)) (.one (o 50 (P 45 49)) (.one (a 3 50) .done))))) (.one (g 45 49 (CS 178 48 #[34])) (.two (o 43 (LT 4 4)) (.two (o 50 (P 45 49)) (.one (n (S 4 2 43)) (.one (a 3 50) .done)) (.one (n (S 4 2 43)) (.one (o 50 (P 45 49)) (.one (a 3 50) .done)))) (.one (o 50 (P 45 49)) (.one (o 43 (LT 4 4)) (.one (n (S 4 2 43)) (.one (a 3 50) .done)))))))) (x [2,3])))))))),[]⟩
def xN:na:=⟨9,[.inl 4],(q (r [0,1] [o 4 (AB false)]) (q (r [4] [m 5 0,m 6 1,o 7 (CC 280 5 6),o 8 (BI .geq 7 0),a 4 8]) (x [4]))),[]⟩
def MG:ka:=(q (r [0,1,7,8,9] [o 9 (B .lss 8 7)]) (q (w 9 z (.exit 0 [])) (q (.block 1 (q (r [0,1,5,7,8] [m 10 8,a 5 10]) (q (r [0,1,5,7,8,16] [m 11 1,m 12 0,m 13 5,o 14 (Y 4 12 13),o 15 (LT 4 14),o 16 (.callv (.t 11) [.t 15])]) (w 16 (q (r [4] [m 17 5,a 4 17]) (x [4])) z)))) (r [0,1,7,8] [o 18 (BI .add 8 1),m 8 18]))))
def QC:ka:=MG
def WH:=@Xa QC MG rfl
def AN:na:=⟨19,[.inl 4],(q (r [0,1] [o 4 (AI 0)]) (q (q (r [0,1,7,8] [m 6 0,o 7 (W 6),o 8 (.mv (i 0))]) (k 0 [0,1,7,8] QC)) (q (r [4] [o 4 (.asg (.c (.flat (.int .i64 (.negSucc 0)))))]) (x [4])))),[]⟩
def yN:na:=⟨9,[.inl 4],(q (r [0,1] [o 4 (AB false)]) (q (r [4] [m 5 0,m 6 1,o 7 (CC 278 5 6),o 8 (BI .geq 7 0),a 4 8]) (x [4]))),[]⟩
def NG:ka:=(q (r [0,1,7,8,9] [o 9 (B .lss 8 7)]) (q (w 9 z (.exit 0 [])) (q (.block 1 (q (r [0,1,5,7,8] [m 10 8,a 5 10]) (q (r [0,1,5,7,8,16] [m 11 1,m 12 0,m 13 5,o 14 (Y 1 12 13),o 15 (L 1 14),o 16 (B .eql 11 15)]) (w 16 (q (r [4] [m 17 5,a 4 17]) (x [4])) z)))) (r [0,1,7,8] [o 18 (BI .add 8 1),m 8 18]))))
def RC:ka:=NG
def XH:=@Xa RC NG rfl
def BN:na:=⟨19,[.inl 4],(q (r [0,1] [o 4 (AI 0)]) (q (q (r [0,1,7,8] [m 6 0,o 7 (W 6),o 8 (.mv (i 0))]) (k 0 [0,1,7,8] RC)) (q (r [4] [o 4 (.asg (.c (.flat (.int .i64 (.negSucc 0)))))]) (x [4])))),[]⟩
def YF:ka:=(q (r [0,2,6,10,91,92,93,94] [o 94 (B .lss 93 92)]) (q (w 94 z (.exit 2 [6,10])) (q (.block 3 (q (r [0,2,6,10,17,91,92,93] [o 95 (Y 1 91 93),o 96 (L 1 95),a 17 96]) (.jg [0,2,6,10,91,92,93] [o 97 (F 3 10),m 99 0,m 100 17,m 101 2,o 102 (BI .add 101 1)] (.two (o 98 (.loadM (.t 97))) (.one (o 103 (.call 37 [.t 99,.t 100,.t 102])) (.one (o 104 (.mksl false 1 4 [V,Z,Z,V] [⟨0,⟨4,.t 103⟩⟩])) (.one (o 105 (.append false 4 (.t 98) (.t 104))) (.one (o 106 (F 3 10)) (.one (n (S 1 106 105)) .done))))) (.one (o 103 (.call 37 [.t 99,.t 100,.t 102])) (.two (o 98 (.loadM (.t 97))) (.one (o 104 (.mksl false 1 4 [V,Z,Z,V] [⟨0,⟨4,.t 103⟩⟩])) (.one (o 105 (.append false 4 (.t 98) (.t 104))) (.one (o 106 (F 3 10)) (.one (n (S 1 106 105)) .done)))) (.one (o 104 (.mksl false 1 4 [V,Z,Z,V] [⟨0,⟨4,.t 103⟩⟩])) (.one (o 98 (.loadM (.t 97))) (.one (o 105 (.append false 4 (.t 98) (.t 104))) (.one (o 106 (F 3 10)) (.one (n (S 1 106 105)) .done))))))))))) (r [0,2,6,10,91,92,93] [o 107 (BI .add 93 1),m 93 107]))))
def AK:ka:=YF
def zaN:=@Xa AK YF rfl
def kR:ka:=(r [14,15] [a 15 68])
def UQ:ka:=(.block 1 (r [] [o 69 (.loadA (.t 14)),m 70 15,o 71 (.mksl false 1 1 [Z] [⟨0,⟨1,.t 70⟩⟩]),o 72 (.append false 1 (.t 69) (.t 71)),n (S 1 14 72)]))
def pD:na:=⟨109,[.inr ⟨6,⟨true,4⟩⟩],(q (r [0,1,2,6] [o 6 (.alloc 52 [V,Z,Z,V])]) (q (r [0,1,2,6,7,8,9] [m 19 1,o 20 (C 75 19),m 18 20,o 21 (E 18 0),o 22 (E 18 1),o 23 (E 18 2),a 7 21,a 8 22,a 9 23]) (q (r [0,1,2,6,7,8] [m 24 9,o 25 (BI .eql 24 0),m 26 9,o 27 (CC 76 25 26)]) (q (r [0,1,2,6,7,8,10] [m 28 7,o 29 (.build [V,Z,Z,V] [⟨0,⟨1,.t 28⟩⟩]),o 10 (.alloc 52 [V,Z,Z,V]),n (S 4 10 29)]) (q (r [0,1,2,6,7,8,10] [o 11 (AS #[])]) (q (r [0,1,2,6,7,8,10,11] [m 31 7,o 32 (C 77 31),m 30 32,o 33 (E 30 0),o 34 (E 30 1),o 35 (F 1 10),n (S 1 35 33),a 11 34]) (q (r [0,1,2,6,8,10,11,12,13] [m 37 7,o 38 (CS 78 37 #[99,111,110,116,101,110,116,45,116,114,97,110,115,102,101,114,45,101,110,99,111,100,105,110,103]),m 36 38,o 39 (E 36 0),o 40 (E 36 1),a 12 39,a 13 40]) (q (q (r [0,1,2,6,8,10,11,12,42] [m 41 13,o 42 (BI .eql 41 0)]) (w 42 (r [0,1,2,6,8,10,11,12] [o 12 (AS #[55,98,105,116])]) z)) (q (r [0,1,2,6,8,10,11,12] [m 43 12,o 44 (C 79 43),a 12 44]) (q (q (r [0,1,2,6,8,10,11,12,48] [o 45 (F 1 10),o 46 (L 1 45),o 47 (CS 80 46 #[109,117,108,116,105,112,97,114,116,47]),o 48 (U 47)]) (w 48 (q (r [6,10] [m 49 1,m 50 8,o 51 (.sliceS (.t 49) (.some (.t 50)) .none),m 52 12,o 53 (CC 81 51 52),o 54 (F 2 10),n (S 1 54 53)]) (q (r [6] [o 55 (LT 4 10),n (S 4 6 55)]) (x [6]))) z)) (q (r [0,1,2,6,8,10,11] [m 56 12,o 57 (BS .eql 56 #[55,98,105,116]),m 58 57,g 58 59 (M 11),g 58 60 (C 82 59),o 61 (P 58 60),o 62 (CI 76 61 7)]) (q (r [0,1,2,6,8,10,11,14] [o 14 (.alloc 29 [V])]) (q (q (r [0,2,6,10,14,67] [m 63 1,m 64 8,o 65 (.sliceS (.t 63) (.some (.t 64)) .none),m 66 11,o 67 (CC 83 65 66)]) (.block 0 (.range 37 0 [14] (.t 67)))) (q (r [0,2,6,10,14] [m 73 2,o 74 (BI .lss 73 4),o 75 (CI 76 74 8)]) (q (.kb [0,2,6,10,14] [m 76 0,o 77 (N 76),o 78 (F 0 77),o 79 (L 1 78),o 80 (L 1 14),o 81 (W 80)] [o 82 (B .add 79 81),o 83 (N 76),o 84 (F 0 83),n (S 1 84 82)]) (q (r [0,2,6,10,14] [m 85 0,o 86 (N 85),o 87 (F 0 86),o 88 (L 1 87),o 89 (BI .leq 88 64),o 90 (CI 76 89 5)]) (q (q (r [0,2,6,10,91,92,93] [o 91 (L 1 14),o 92 (W 91),o 93 (.mv (i 0))]) (k 2 [0,2,6,10,91,92,93] AK)) (q (r [6] [o 108 (LT 4 10),n (S 4 6 108)]) (x [6]))))))))))))))))))),[([68],kR,UQ)]⟩
def cM:na:=⟨9,[],(q (r [1,5] [m 4 0,o 5 (U 4)]) (w 5 (r [] [m 6 1,o 7 (.build [J] [⟨0,⟨1,.t 6⟩⟩]),o 8 (.mkt 179 [.t 7]),n (.Wl (.c .Ad))]) z)),[]⟩
def dM:na:=⟨30,[.inl 4],(q (r [0,1] [o 4 (AS #[])]) (q (r [0,1,5,6] [o 5 (AS #[]),o 6 (AI 7)]) (q (q (r [0,5,6,7] [m 7 1]) (.block 0 (q (r [0,5,6,7,8] [o 9 (BS .eql 7 #[55,98,105,116]),a 8 9]) (w 8 (q (r [4] [m 10 0,o 11 (C 142 10),a 4 11]) (x [4])) (q (r [0,5,6,7,12] [o 13 (BS .eql 7 #[113,117,111,116,101,100,45,112,114,105,110,116,97,98,108,101]),a 12 13]) (w 12 (r [5,6] [m 15 0,o 16 (C 143 15),m 14 16,o 17 (E 14 0),o 18 (E 14 1),a 5 17,a 6 18]) (q (r [0,5,6,19] [o 20 (BS .eql 7 #[98,97,115,101,54,52]),a 19 20]) (w 19 (r [5,6] [m 22 0,o 23 (C 144 22),m 21 23,o 24 (E 21 0),o 25 (E 21 1),a 5 24,a 6 25]) z)))))))) (q (r [5] [m 26 6,o 27 (BI .eql 26 0),o 28 (CI 76 27 7)]) (q (r [4] [m 29 5,a 4 29]) (x [4])))))),[]⟩
def aM:na:=⟨6,[.inl 4],(q (r [2,3] [o 2 (.box 9 1 (.t 0)),o 3 (.box 9 1 (.t 1)),o 4 (.asg (.c (.flat .nilFunc)))]) (q (r [4] [o 5 (.clos 145 [.t 3,.t 2]),a 4 5]) (x [4]))),[]⟩
def XF:ka:=(.block 1 (q (r [0,4,5,7,8,9] [m 23 5,m 24 8,o 25 (.sliceS (.t 23) (.some (.t 24)) .none),m 26 4,o 27 (CC 146 25 26),a 9 27]) (q (r [0,4,5,7,8,9] [m 28 9,o 29 (BI .geq 28 0),o 30 (CI 76 29 7)]) (q (r [0,4,5,7,8] [m 31 8,m 32 9,o 33 (B .add 31 32),a 8 33]) (q (r [0,4,5,7,8,10] [m 34 5,m 35 8,m 36 4,o 37 (K 36),o 38 (B .add 35 37),o 39 (.sliceS (.t 34) (.some (.t 38)) .none),a 10 39]) (q (q (r [0,4,5,7,8,10,41] [m 40 10,o 41 (CS 80 40 #[45,45,13,10])]) (w 41 (q (r [0,5,7,8] [m 42 10,o 43 (BS .eql 42 #[45,45,13,10]),o 44 (CI 76 43 7)]) (q (r [] [m 45 0,m 46 5,m 47 7,m 48 8,o 49 (.sliceS (.t 46) (.some (.t 47)) (.some (.t 48))),o 50 (.callv (.t 45) [.t 49])]) (x []))) z)) (q (q (r [0,4,5,7,8,53] [m 51 10,o 52 (CS 80 51 #[13,10]),o 53 (U 52)]) (w 53 (q (r [0,4,5,7,8] [m 54 8,o 55 (BI .add 54 1),a 8 55]) (.exit 1 [0,4,5,7,8])) z)) (q (q (r [0,4,5,8,62] [m 56 0,m 57 5,m 58 7,m 59 8,o 60 (.sliceS (.t 57) (.some (.t 58)) (.some (.t 59))),o 61 (.callv (.t 56) [.t 60]),o 62 (U 61)]) (w 62 (x []) z)) (q (r [0,4,5,7] [m 63 8,m 64 4,o 65 (K 64),o 66 (B .add 63 65),o 67 (BI .add 66 2),a 7 67]) (r [0,4,5,7,8] [m 68 7,a 8 68]))))))))))
def jC:ka:=XF
def KH:=@Xa jC XF rfl
def bM:na:=⟨69,[],(q (r [0,2,4] [o 11 (L 1 1),o 12 (SB .add #[13,10,45,45] 11),a 4 12]) (q (r [0,4,5,6] [o 14 (L 1 2),o 15 (SB .add #[13,10] 14),m 16 4,o 17 (BS .add 16 #[13,10]),o 18 (CC 90 15 17),m 13 18,o 19 (E 13 0),o 20 (E 13 1),a 5 19,a 6 20]) (q (r [0,4,5] [m 21 6,o 22 (CI 76 21 7)]) (q (r [0,4,5,7] [o 7 (AI 0)]) (q (r [0,4,5,7,8] [o 8 (AI 0)]) (k 0 [0,4,5,7,8] jC)))))),[]⟩
def OF:ka:=(q (q (r [5,6,7,8,24] [m 20 5,o 21 (N 20),o 22 (F 0 21),o 23 (L 1 22),o 24 (BS .neq 23 #[])]) (w 24 z (.exit 0 [6,7,8]))) (q (.block 1 (q (q (r [5,6,7,8,29] [m 27 5,o 28 (.call 209 [.t 27,u 59]),o 29 (U 28)]) (w 29 (q (r [2,3,4] [o 2 (AS #[]),o 3 (.asg (.c V)),o 4 (AI 7)]) (x [2,3,4])) z)) (q (r [5,6,7,8,9,10] [m 31 5,o 32 (C 210 31),m 30 32,o 33 (E 30 0),o 34 (E 30 1),o 9 (.alloc 180 [Z,Z]),n (S 2 9 33),a 10 34]) (q (q (r [5,6,7,8,9,36] [m 35 10,o 36 (U 35)]) (w 36 (q (r [2,3,4] [o 2 (AS #[]),o 3 (.asg (.c V)),o 4 (AI 7)]) (x [2,3,4])) z)) (q (q (r [5,6,7,8,9,39] [m 37 7,o 38 (.clos 212 [.t 9]),o 39 (CC 211 37 38)]) (w 39 (r [5,6,7,8,9] [o 8 (AI 9)]) z)) (r [5,6,7,8] [o 40 (.mvA 7),o 41 (LT 2 9),o 42 (.mksl false 1 2 [Z,Z] [⟨0,⟨2,.t 41⟩⟩]),o 43 (.append false 2 (.t 40) (.t 42)),a 7 43])))))) (r [5,6,7,8] [m 25 5,o 26 (C 207 25)])))
def yK:ka:=OF
def zaM:=@Xa yK OF rfl
def DL:na:=⟨53,[.inl 2,.inl 3,.inl 4],(q (r [0] [o 2 (AS #[]),o 3 (.asg (.c V)),o 4 (AI 0)]) (q (r [5] [m 11 0,o 12 (.build [Z] [⟨0,⟨1,.t 11⟩⟩]),o 13 (.box 261 1 (.t 12)),a 5 13]) (q (r [5] [m 14 5,o 15 (C 207 14)]) (q (r [5,6] [m 16 5,o 17 (C 208 16),a 6 17]) (q (r [5,6,7] [o 7 (.asg (.c V))]) (q (r [5,6,7,8] [o 8 (AI 0)]) (q (q (r [5,6,7,8] [m 18 5,o 19 (C 207 18)]) (k 0 [5,6,7,8] yK)) (q (.block 2 (q (r [6,7,8,44] [m 45 6,o 46 (BS .eql 45 #[]),a 44 46]) (w 44 (q (r [2,3,4] [o 2 (AS #[]),o 3 (.asg (.c V)),o 4 (AI 7)]) (x [2,3,4])) (q (r [6,7,8,47] [m 48 8,o 49 (BI .neq 48 0),a 47 49]) (w 47 (q (r [2,3,4] [m 50 8,o 2 (AS #[]),o 3 (.asg (.c V)),a 4 50]) (x [2,3,4])) z))))) (q (r [2,3,4] [m 51 6,m 52 7,a 2 51,a 3 52,o 4 (AI 0)]) (x [2,3,4])))))))))),[]⟩
def EL:na:=⟨40,[.inr ⟨2,⟨true,2⟩⟩,.inl 3],(q (r [0,2] [o 2 (.alloc 180 [Z,Z]),o 3 (AB false)]) (q (r [0,2] [m 7 0,o 8 (C 207 7)]) (q (r [0,2,4] [m 9 0,o 10 (C 208 9),o 11 (.build [Z,Z] [⟨0,⟨1,.t 10⟩⟩]),o 4 (.alloc 180 [Z,Z]),n (S 2 4 11)]) (q (q (r [0,2,4,20] [o 12 (F 0 4),o 13 (L 1 12),o 14 (C 137 13),o 15 (U 14),m 16 15,h 16 17 (M 0),h 16 18 (.call 209 [.t 17,u 61]),h 16 19 (U 18),o 20 (O 16 19)]) (w 20 (q (r [2,3] [o 21 (LT 2 4),n (S 2 2 21),o 3 (AB false)]) (x [2,3])) z)) (q (q (r [0,2,4,23] [m 22 0,o 23 (.call 209 [.t 22,u 34])]) (w 23 (q (r [2,4,5,6] [m 25 0,o 26 (C 270 25),m 24 26,o 27 (E 24 0),o 28 (E 24 1),a 5 27,a 6 28]) (q (r [2,4,6] [m 29 5,o 30 (F 1 4),n (S 1 30 29)]) (q (r [2,3] [o 31 (LT 2 4),m 32 6,n (S 2 2 31),a 3 32]) (x [2,3])))) z)) (q (r [2,4] [m 33 0,o 34 (C 208 33),o 35 (F 1 4),n (S 1 35 34)]) (q (.jg [2,3] [o 36 (LT 2 4),o 37 (F 1 4)] (.two (o 38 (L 1 37)) (.two (o 39 (BS .neq 38 #[])) (.one (n (S 2 2 36)) (.one (a 3 39) .done)) (.one (n (S 2 2 36)) (.one (o 39 (BS .neq 38 #[])) (.one (a 3 39) .done)))) (.one (n (S 2 2 36)) (.one (o 38 (L 1 37)) (.one (o 39 (BS .neq 38 #[])) (.one (a 3 39) .done)))))) (x [2,3])))))))),[]⟩
def FG:ka:=(q (q (r [0,3,4,33] [m 30 4,m 31 0,o 32 (K 31),o 33 (B .lss 30 32)]) (w 33 z (.exit 0 [3]))) (q (.block 1 (q (q (r [0,3,4,53] [m 36 0,m 37 4,o 38 (D 36 37),o 39 (BU .lss 38 33),m 40 39,h 40 41 (M 0),h 40 42 (M 4),h 40 43 (D 41 42),h 40 44 (BU .gtr 43 126),o 45 (O 40 44),m 46 45,h 46 47 (M 0),h 46 48 (M 4),h 46 49 (M 4),h 46 50 (BI .add 49 1),h 46 51 (.sliceS (.t 47) (.some (.t 48)) (.some (.t 50))),h 46 52 (.call 64 [s #[60,62,40,41,91,93,44,59,58,34,92],.t 51]),o 53 (O 46 52)]) (w 53 (q (r [2] [o 2 (AB false)]) (x [2])) z)) (q (r [0,3,4,57] [m 54 0,m 55 4,o 56 (D 54 55),o 57 (BU .eql 56 64)]) (w 57 (r [0,3,4] [m 58 3,o 59 (BI .add 58 1),a 3 59]) z)))) (r [0,3,4] [m 34 4,o 35 (BI .add 34 1),a 4 35])))
def LC:ka:=FG
def cU:=@Xa LC FG rfl
def XM:na:=⟨62,[.inl 2],(q (r [0] [o 2 (AB false)]) (q (q (r [0,29] [m 5 0,o 6 (K 5),o 7 (BI .lss 6 3),m 8 7,h 8 9 (M 0),h 8 10 (K 9),h 8 11 (BI .gtr 10 60),o 12 (O 8 11),m 13 12,h 13 14 (M 0),h 13 15 (.idx (.t 14) (i 0)),h 13 16 (BU .eql 15 64),o 17 (O 13 16),m 18 17,h 18 19 (M 0),h 18 20 (M 0),h 18 21 (K 20),h 18 22 (BI .sub 21 1),h 18 23 (D 19 22),h 18 24 (BU .eql 23 64),o 25 (O 18 24),m 26 25,h 26 27 (M 0),h 26 28 (CS 64 27 #[61,63]),o 29 (O 26 28)]) (w 29 (q (r [2] [o 2 (AB false)]) (x [2])) z)) (q (r [0,3] [o 3 (AI 0)]) (q (q (r [0,3,4] [o 4 (AI 0)]) (k 0 [0,3,4] LC)) (q (r [2] [m 60 3,o 61 (BI .eql 60 1),a 2 61]) (x [2])))))),[]⟩
def ZM:na:=⟨57,[.inl 2],(q (r [1] [o 1 (.box 23 5 (.t 0)),o 2 (AI 0)]) (q (q (r [1,14] [o 5 (F 0 1),o 6 (L 1 5),o 7 (C 63 6),o 8 (U 7),m 9 8,h 9 10 (F 1 1),h 9 11 (L 1 10),h 9 12 (C 63 11),h 9 13 (U 12),o 14 (O 9 13)]) (w 14 (q (r [2] [o 2 (AI 1)]) (x [2])) z)) (q (r [1,3,4] [o 16 (F 4 1),o 17 (L 1 16),o 18 (C 60 17),m 15 18,o 19 (E 15 0),o 20 (E 15 1),a 3 19,a 4 20]) (q (q (.kb [56] [o 21 (F 2 1),o 22 (L 1 21),o 23 (C 34 22),o 24 (F 2 1),o 25 (L 1 24),o 26 (B .neq 23 25),m 27 26,h 27 28 (F 3 1),h 27 29 (L 1 28),h 27 30 (C 34 29),h 27 31 (F 3 1),h 27 32 (L 1 31),h 27 33 (B .neq 30 32),o 34 (O 27 33),m 35 34,h 35 36 (F 4 1),h 35 37 (L 1 36),h 35 38 (C 34 37),h 35 39 (F 4 1),h 35 40 (L 1 39)] [h 35 41 (B .neq 38 40),o 42 (O 35 41),m 43 42,h 43 44 (F 2 1),h 43 45 (L 1 44),h 43 46 (CS 64 45 #[10]),o 47 (O 43 46),m 48 47,h 48 49 (M 4),h 48 50 (BI .neq 49 0),o 51 (O 48 50),m 52 51,h 52 53 (M 3),h 52 54 (C 65 53),h 52 55 (U 54),o 56 (O 52 55)]) (w 56 (q (r [2] [o 2 (AI 7)]) (x [2])) z)) (q (r [2] [o 2 (AI 0)]) (x [2])))))),[]⟩
def YM:na:=⟨50,[.inl 2,.inl 3],(q (r [1] [o 1 (.box 23 5 (.t 0)),o 2 (AS #[]),o 3 (AI 0)]) (q (r [1,4] [o 11 (LT 5 1),o 12 (C 29 11),a 4 12]) (q (q (r [1,4,14] [m 13 4,o 14 (BI .neq 13 0)]) (w 14 (q (r [2,3] [m 15 4,o 2 (AS #[]),a 3 15]) (x [2,3])) z)) (q (r [1,5] [o 17 (F 0 1),o 18 (L 1 17),o 19 (.call 30 [s #[70,114,111,109],.t 18]),m 16 19,o 20 (E 16 0),o 21 (E 16 1),a 5 20,a 6 21]) (q (r [1,5,7] [o 23 (F 1 1),o 24 (L 1 23),o 25 (.call 30 [s #[84,111],.t 24]),m 22 25,o 26 (E 22 0),o 27 (E 22 1),a 7 26,a 8 27]) (q (r [1,5,7,9] [o 29 (F 2 1),o 30 (L 1 29),o 31 (.call 30 [s #[83,117,98,106,101,99,116],.t 30]),m 28 31,o 32 (E 28 0),o 33 (E 28 1),a 9 32,a 10 33]) (q (.kb [2,3] [m 34 5,m 35 7,o 36 (B .add 34 35),m 37 9,o 38 (B .add 36 37),o 39 (BS .add 38 #[77,73,77,69,45,86,101,114,115,105,111,110,58,32,49,46,48,13,10,67,111,110,116,101,110,116,45,84,121,112,101,58,32,109,117,108,116,105,112,97,114,116,47,97,108,116,101,114,110,97,116,105,118,101,59,32,98,111,117,110,100,97,114,121,61,34,61,95,110,117,110,99,105,111,34,13,10,13,10,45,45,61,95,110,117,110,99,105,111,13,10]),o 40 (F 3 1),o 41 (L 1 40),o 42 (.call 31 [s #[112,108,97,105,110],.t 41]),o 43 (B .add 39 42),o 44 (BS .add 43 #[45,45,61,95,110,117,110,99,105,111,13,10]),o 45 (F 4 1),o 46 (L 1 45),o 47 (.call 31 [s #[104,116,109,108],.t 46])] [o 48 (B .add 44 47),o 49 (BS .add 48 #[45,45,61,95,110,117,110,99,105,111,45,45,13,10]),a 2 49,o 3 (AI 0)]) (x [2,3])))))))),[]⟩
def aN:na:=⟨12,[.inl 4],(q (r [0,1] [o 4 (AS #[])]) (q (r [4] [m 5 0,o 6 (SB .add #[67,111,110,116,101,110,116,45,84,121,112,101,58,32,116,101,120,116,47] 5),o 7 (BS .add 6 #[59,32,99,104,97,114,115,101,116,61,117,116,102,45,56,13,10,67,111,110,116,101,110,116,45,84,114,97,110,115,102,101,114,45,69,110,99,111,100,105,110,103,58,32,113,117,111,116,101,100,45,112,114,105,110,116,97,98,108,101,13,10,13,10]),m 8 1,o 9 (C 67 8),o 10 (B .add 7 9),o 11 (BS .add 10 #[13,10]),a 4 11]) (x [4]))),[]⟩
def EG:ka:=(q (q (r [0,1,5,9] [m 6 5,m 7 0,o 8 (K 7),o 9 (B .lss 6 8)]) (w 9 z (.exit 0 []))) (q (.block 1 (q (r [0,1,5,15] [m 12 0,m 13 1,m 14 5,o 15 (.call 105 [.t 12,.t 13,.t 14])]) (w 15 (q (r [4] [o 4 (AB true)]) (x [4])) z))) (r [0,1,5] [m 10 5,o 11 (BI .add 10 1),a 5 11])))
def KC:ka:=EG
def SH:=@Xa KC EG rfl
def VM:na:=⟨16,[.inl 4],(q (r [0,1] [o 4 (AB false)]) (q (q (r [0,1,5] [o 5 (AI 0)]) (k 0 [0,1,5] KC)) (q (r [4] [o 4 (AB false)]) (x [4])))),[]⟩
def bG:ka:=(q (q (r [0,3,4,10] [m 7 4,m 8 0,o 9 (K 8),o 10 (B .lss 7 9)]) (w 10 z (.exit 0 [3]))) (.block 1 (q (r [0,3,4,5,6] [m 12 0,m 13 4,o 14 (CC 71 12 13),m 11 14,o 15 (E 11 0),o 16 (E 11 1),a 5 15,a 6 16]) (q (r [0,3,4,5] [m 17 4,m 18 6,o 19 (B .add 17 18),a 4 19]) (q (q (r [0,3,4,5,21] [m 20 5,o 21 (BI .eql 20 13)]) (w 21 (q (q (r [0,3,4,31] [m 22 4,m 23 0,o 24 (K 23),o 25 (B .lss 22 24),m 26 25,g 26 27 (M 0),g 26 28 (M 4),g 26 29 (D 27 28),g 26 30 (BU .eql 29 10),o 31 (P 26 30)]) (w 31 (.exit 1 [0,3,4]) z)) (r [0,3,4,5] [o 5 (AI 10)])) z)) (q (q (r [0,3,4,5,49] [m 32 5,o 33 (BI .lss 32 32),m 34 33,g 34 35 (M 5),g 34 36 (BI .neq 35 9),o 37 (P 34 36),m 38 37,g 38 39 (M 5),g 38 40 (BI .neq 39 10),o 41 (P 38 40),m 42 41,h 42 43 (M 5),h 42 44 (BI .geq 43 127),h 42 45 (M 44),g 45 46 (M 5),g 45 47 (BI .leq 46 159),h 42 48 (P 45 47),o 49 (O 42 48)]) (w 49 (r [0,3,4,5] [o 5 (AI 65533)]) z)) (r [0,3,4] [m 50 3,m 51 5,o 52 (C 72 51),o 53 (B .add 50 52),a 3 53])))))))
def lC:ka:=bG
def cn:=@Xa lC bG rfl
def jM:na:=⟨55,[.inl 2],(q (r [0] [o 2 (AS #[])]) (q (r [0,3] [o 3 (AS #[])]) (q (q (r [0,3,4] [o 4 (AI 0)]) (k 0 [0,3,4] lC)) (q (r [2] [m 54 3,a 2 54]) (x [2]))))),[]⟩
def iM:na:=⟨61,[.inl 2],(q (r [0] [o 2 (AS #[])]) (q (q (r [0,5] [m 3 0,o 4 (C 134 3),o 5 (U 4)]) (w 5 (r [0] [o 0 (AI 65533)]) z)) (q (q (r [0,7] [m 6 0,o 7 (BI .lss 6 128)]) (w 7 (q (r [2] [m 8 0,o 9 (.conv .u8 (.t 8)),o 10 (.mksl true 1 1 [.flat (.int .u8 0)] [⟨0,⟨1,.t 9⟩⟩]),o 11 (.b2s (.t 10)),a 2 11]) (x [2])) z)) (q (q (r [0,13] [m 12 0,o 13 (BI .lss 12 2048)]) (w 13 (q (r [2] [m 14 0,o 15 (BI .quo 14 64),o 16 (IB .add 192 15),o 17 (.conv .u8 (.t 16)),m 18 0,o 19 (BI .rem 18 64),o 20 (IB .add 128 19),o 21 (.conv .u8 (.t 20)),o 22 (.mksl true 2 1 [.flat (.int .u8 0),.flat (.int .u8 0)] [⟨0,⟨1,.t 17⟩⟩,⟨1,⟨1,.t 21⟩⟩]),o 23 (.b2s (.t 22)),a 2 23]) (x [2])) z)) (q (q (r [0,25] [m 24 0,o 25 (BI .lss 24 65536)]) (w 25 (q (r [2] [m 26 0,o 27 (BI .quo 26 4096),o 28 (IB .add 224 27),o 29 (.conv .u8 (.t 28)),m 30 0,o 31 (BI .quo 30 64),o 32 (BI .rem 31 64),o 33 (IB .add 128 32),o 34 (.conv .u8 (.t 33)),m 35 0,o 36 (BI .rem 35 64),o 37 (IB .add 128 36),o 38 (.conv .u8 (.t 37)),o 39 (.mksl true 3 1 [.flat (.int .u8 0),.flat (.int .u8 0),.flat (.int .u8 0)] [⟨0,⟨1,.t 29⟩⟩,⟨1,⟨1,.t 34⟩⟩,⟨2,⟨1,.t 38⟩⟩]),o 40 (.b2s (.t 39)),a 2 40]) (x [2])) z)) (q (r [2] [m 41 0,o 42 (BI .quo 41 262144),o 43 (IB .add 240 42),o 44 (.conv .u8 (.t 43)),m 45 0,o 46 (BI .quo 45 4096),o 47 (BI .rem 46 64),o 48 (IB .add 128 47),o 49 (.conv .u8 (.t 48)),m 50 0,o 51 (BI .quo 50 64),o 52 (BI .rem 51 64),o 53 (IB .add 128 52),o 54 (.conv .u8 (.t 53)),m 55 0,o 56 (BI .rem 55 64),o 57 (IB .add 128 56),o 58 (.conv .u8 (.t 57)),o 59 (.mksl true 4 1 [.flat (.int .u8 0),.flat (.int .u8 0),.flat (.int .u8 0),.flat (.int .u8 0)] [⟨0,⟨1,.t 44⟩⟩,⟨1,⟨1,.t 49⟩⟩,⟨2,⟨1,.t 54⟩⟩,⟨3,⟨1,.t 58⟩⟩]),o 60 (.b2s (.t 59)),a 2 60]) (x [2]))))))),[]⟩
def eG:ka:=(q (q (r [0,1,6,7,8,9,42] [m 40 9,m 41 7,o 42 (B .lss 40 41)]) (w 42 z (.exit 2 [0,1,6,7,8]))) (q (.block 3 (r [0,1,6,7,8,9] [m 45 8,o 46 (IB .mul 64 45),m 47 0,m 48 1,m 49 9,o 50 (B .add 48 49),o 51 (D 47 50),o 52 (.conv .i64 (.t 51)),o 53 (B .add 46 52),o 54 (BI .sub 53 128),a 8 54])) (r [0,1,6,7,8,9] [m 43 9,o 44 (BI .add 43 1),a 9 44])))
def oC:ka:=eG
def TT:=@Xa oC eG rfl
def dG:ka:=(q (q (r [0,1,6,7,28] [m 19 7,o 20 (BI .leq 19 4),m 21 20,g 21 22 (M 7),g 21 23 (M 0),g 21 24 (K 23),g 21 25 (M 1),g 21 26 (B .sub 24 25),g 21 27 (B .leq 22 26),o 28 (P 21 27)]) (w 28 z (.exit 0 []))) (q (.block 1 (q (.kb [0,1,6,7,8] [m 31 0,m 32 1,o 33 (D 31 32),o 34 (.conv .i64 (.t 33)),m 35 6,m 36 7,o 37 (Y 1 35 36),o 38 (L 1 37)] [o 39 (B .sub 34 38),a 8 39]) (q (q (r [0,1,6,7,8,9] [o 9 (AI 1)]) (k 2 [0,1,6,7,8,9] oC)) (q (.kb [0,1,6,7,8,71] [m 55 8,o 56 (BI .geq 55 0),m 57 56,g 57 58 (M 8),g 57 59 (C 134 58),o 60 (P 57 59),m 61 60,g 61 62 (M 8),g 61 63 (C 72 62),g 61 64 (M 0),g 61 65 (M 1),g 61 66 (M 1),g 61 67 (M 7),g 61 68 (B .add 66 67),g 61 69 (.sliceS (.t 64) (.some (.t 65)) (.some (.t 68)))] [g 61 70 (B .eql 63 69),o 71 (P 61 70)]) (w 71 (q (r [4,5] [m 72 8,m 73 7,a 4 72,a 5 73]) (x [4,5])) z))))) (r [0,1,6,7] [m 29 7,o 30 (BI .add 29 1),a 7 30])))
def nC:ka:=dG
def tt:=@Xa nC dG rfl
def lM:na:=⟨74,[.inl 4,.inl 5],(q (r [0,1] [o 4 (AI 0),o 5 (AI 0)]) (q (q (r [0,1,17] [m 10 1,o 11 (BI .lss 10 0),m 12 11,h 12 13 (M 1),h 12 14 (M 0),h 12 15 (K 14),h 12 16 (B .geq 13 15),o 17 (O 12 16)]) (w 17 (q (r [4,5] [o 4 (AI 0),o 5 (AI 0)]) (x [4,5])) z)) (q (r [0,1,6] [o 18 (.mksl false 5 1 [J,J,J,J,J] [⟨0,⟨1,i 0⟩⟩,⟨1,⟨1,i 0⟩⟩,⟨2,⟨1,i 192⟩⟩,⟨3,⟨1,i 224⟩⟩,⟨4,⟨1,i 240⟩⟩]),a 6 18]) (q (q (r [0,1,6,7] [o 7 (AI 1)]) (k 0 [0,1,6,7] nC)) (q (r [4,5] [o 4 (AI 65533),o 5 (AI 1)]) (x [4,5])))))),[]⟩
def mM:na:=⟨18,[.inl 2],(q (r [0] [o 2 (AB false)]) (q (r [2] [m 3 0,o 4 (BI .geq 3 0),m 5 4,g 5 6 (M 0),g 5 7 (BI .leq 6 1114111),o 8 (P 5 7),m 9 8,g 9 10 (M 0),g 9 11 (BI .geq 10 55296),g 9 12 (M 11),g 12 13 (M 0),g 12 14 (BI .leq 13 57343),g 9 15 (P 12 14),g 9 16 (U 15),o 17 (P 9 16),a 2 17]) (x [2]))),[]⟩
def fG:ka:=(q (q (r [0,3,4,11] [m 8 4,m 9 0,o 10 (K 9),o 11 (B .lss 8 10)]) (w 11 z (.exit 0 [3]))) (.block 1 (q (r [0,3,4,5,6] [m 13 0,m 14 4,o 15 (CC 71 13 14),m 12 15,o 16 (E 12 0),o 17 (E 12 1),a 5 16,a 6 17]) (q (r [0,3,4,6] [o 18 (.mvA 3),m 19 5,o 20 (.mksl false 1 1 [J] [⟨0,⟨1,.t 19⟩⟩]),o 21 (.append false 1 (.t 18) (.t 20)),a 3 21]) (r [0,3,4] [m 22 4,m 23 6,o 24 (B .add 22 23),a 4 24])))))
def pC:ka:=fG
def UT:=@Xa pC fG rfl
def nM:na:=⟨26,[.inl 2],(q (r [0] [o 2 (.asg (.c V))]) (q (r [0,3] [o 7 (.mksl false 0 1 [] []),a 3 7]) (q (q (r [0,3,4] [o 4 (AI 0)]) (k 0 [0,3,4] pC)) (q (r [2] [m 25 3,a 2 25]) (x [2]))))),[]⟩
def cG:ka:=(q (q (r [0,3,9] [m 6 3,m 7 0,o 8 (K 7),o 9 (B .lss 6 8)]) (w 9 z (.exit 0 []))) (.block 1 (q (r [0,3,4,5] [m 11 0,m 12 3,o 13 (CC 71 11 12),m 10 13,o 14 (E 10 0),o 15 (E 10 1),a 4 14,a 5 15]) (q (q (r [0,3,5,21] [m 16 4,o 17 (BI .eql 16 65533),m 18 17,g 18 19 (M 5),g 18 20 (BI .eql 19 1),o 21 (P 18 20)]) (w 21 (q (r [2] [o 2 (AB false)]) (x [2])) z)) (r [0,3] [m 22 3,m 23 5,o 24 (B .add 22 23),a 3 24])))))
def mC:ka:=cG
def pA:=@Xa mC cG rfl
def kM:na:=⟨25,[.inl 2],(q (r [0] [o 2 (AB false)]) (q (q (r [0,3] [o 3 (AI 0)]) (k 0 [0,3] mC)) (q (r [2] [o 2 (AB true)]) (x [2])))),[]⟩
def xG:ka:=(q (q (r [0,4,5,15] [m 12 5,m 13 0,o 14 (K 13),o 15 (B .lss 12 14)]) (w 15 z (.exit 0 [4]))) (.block 1 (q (r [0,4,6,7] [m 17 0,m 18 5,o 19 (CC 123 17 18),m 16 19,o 20 (E 16 0),o 21 (E 16 1),o 6 (.alloc 135 [.flat (.int .u8 0),Z,Z,V,J,J]),n (S 6 6 20),a 7 21]) (q (q (r [0,4,6,23] [m 22 7,o 23 (U 22)]) (w 23 (q (r [2,3] [o 2 (.asg (.c V)),o 3 (AI 7)]) (x [2,3])) z)) (q (r [0,4,6] [o 24 (.mvA 4),o 25 (LT 6 6),o 26 (.mksl false 1 6 [.flat (.int .u8 0),Z,Z,V,J,J] [⟨0,⟨6,.t 25⟩⟩]),o 27 (.append false 6 (.t 24) (.t 26)),a 4 27]) (r [0,4,5] [o 28 (F 5 6),o 29 (L 1 28),a 5 29]))))))
def FC:ka:=xG
def PH:=@Xa FC xG rfl
def LM:na:=⟨31,[.inl 2,.inl 3],(q (r [0] [o 2 (.asg (.c V)),o 3 (AI 0)]) (q (q (r [0,10] [m 8 0,o 9 (C 110 8),o 10 (U 9)]) (w 10 (q (r [2,3] [o 2 (.asg (.c V)),o 3 (AI 7)]) (x [2,3])) z)) (q (r [0,4] [o 11 (.mksl false 0 6 [] []),a 4 11]) (q (q (r [0,4,5] [o 5 (AI 0)]) (k 0 [0,4,5] FC)) (q (r [2,3] [m 30 4,a 2 30,o 3 (AI 0)]) (x [2,3])))))),[]⟩
def RM:na:=⟨63,[.inr ⟨4,⟨true,6⟩⟩,.inl 5],(q (r [0,1,4] [o 4 (.alloc 135 [.flat (.int .u8 0),Z,Z,V,J,J]),o 5 (AB false)]) (q (q (r [0,1,4,14] [m 11 0,m 12 1,o 13 (D 11 12),o 14 (BU .neq 13 60)]) (w 14 (q (r [1,4,6,7,8] [m 16 0,m 17 1,o 18 (.call 195 [.t 16,.t 17,u 60,u 62]),m 15 18,o 19 (E 15 0),o 20 (E 15 1),o 21 (E 15 2),a 6 19,a 7 20,a 8 21]) (q (r [4,5] [m 22 6,m 23 1,m 24 7,o 25 (.build [.flat (.int .u8 0),Z,Z,V,J,J] [⟨0,⟨1,u 116⟩⟩,⟨2,⟨1,.t 22⟩⟩,⟨4,⟨1,.t 23⟩⟩,⟨5,⟨1,.t 24⟩⟩]),m 26 8,n (S 6 4 25),a 5 26]) (x [4,5]))) z)) (q (q (r [0,1,4,30] [m 27 0,m 28 1,o 29 (.call 105 [.t 27,s #[60,47],.t 28]),o 30 (U 29)]) (w 30 (q (r [4,5] [m 31 0,m 32 1,o 33 (CC 196 31 32),o 34 (E 33 0),o 35 (E 33 1),n (S 6 4 34),a 5 35]) (x [4,5])) z)) (q (r [0,1,4,9] [m 36 0,m 37 1,o 38 (BI .add 37 2),o 39 (CC 197 36 38),a 9 39]) (q (r [0,1,4,9,10] [m 40 1,o 41 (BI .add 40 2),m 42 9,o 43 (K 42),o 44 (B .add 41 43),a 10 44]) (q (r [4,5] [m 45 9,m 46 1,m 47 10,o 48 (BI .add 47 1),o 49 (.build [.flat (.int .u8 0),Z,Z,V,J,J] [⟨0,⟨1,u 99⟩⟩,⟨1,⟨1,.t 45⟩⟩,⟨4,⟨1,.t 46⟩⟩,⟨5,⟨1,.t 48⟩⟩]),o 50 (.call 199 []),m 51 9,o 52 (CC 198 50 51),m 53 52,g 53 54 (M 9),g 53 55 (C 127 54),g 53 56 (U 55),o 57 (P 53 56),m 58 57,g 58 59 (M 0),g 58 60 (M 10),g 58 61 (.call 105 [.t 59,s #[62],.t 60]),o 62 (P 58 61),n (S 6 4 49),a 5 62]) (x [4,5]))))))),[]⟩
def BG:ka:=(q (q (r [0,4,6,7,8,9,70] [m 66 9,o 67 (F 3 6),o 68 (L 1 67),o 69 (W 68),o 70 (B .lss 66 69)]) (w 70 z (.exit 2 [0,4,6,7,8]))) (q (.block 3 (q (.kb [0,4,6,7,8,9,81] [o 73 (F 3 6),o 74 (L 1 73),m 75 9,o 76 (Y 4 74 75),o 77 (F 0 76),o 78 (L 1 77),o 79 (F 0 8),o 80 (L 1 79)] [o 81 (B .eql 78 80)]) (w 81 (q (r [4,5] [o 82 (LT 6 6),n (S 6 4 82),o 5 (AB false)]) (x [4,5])) z))) (r [0,4,6,7,8,9] [m 71 9,o 72 (BI .add 71 1),a 9 72])))
def cy:ka:=BG
def RH:=@Xa cy BG rfl
def AG:ka:=(.block 1 (q (r [0,1,4,6,7] [m 31 0,m 32 1,o 33 (CC 258 31 32),a 7 33]) (q (q (r [0,1,4,6,7,36] [m 34 0,m 35 7,o 36 (.call 105 [.t 34,s #[62],.t 35])]) (w 36 (q (r [4,6] [m 37 7,o 38 (BI .add 37 1),o 39 (F 5 6),n (S 1 39 38)]) (q (r [4,5] [o 40 (LT 6 6),n (S 6 4 40),o 5 (AB true)]) (x [4,5]))) z)) (q (r [0,1,4,6,7,8] [m 41 0,m 42 7,o 43 (CC 197 41 42),o 44 (.build [Z,Z,J,J] [⟨0,⟨1,.t 43⟩⟩]),o 8 (.alloc 137 [Z,Z,J,J]),n (S 4 8 44)]) (q (q (.kb [0,4,6,7,8,64] [m 45 7,m 46 1,o 47 (B .eql 45 46),m 48 47,h 48 49 (.call 259 []),h 48 50 (F 0 8),h 48 51 (L 1 50),h 48 52 (CC 198 49 51),h 48 53 (U 52),o 54 (O 48 53),m 55 54,h 55 56 (M 0),h 55 57 (M 7),h 55 58 (F 0 8),h 55 59 (L 1 58),h 55 60 (K 59),h 55 61 (B .add 57 60)] [h 55 62 (.call 105 [.t 56,s #[61,34],.t 61]),h 55 63 (U 62),o 64 (O 55 63)]) (w 64 (q (r [4,5] [o 65 (LT 6 6),n (S 6 4 65),o 5 (AB false)]) (x [4,5])) z)) (q (q (r [0,4,6,7,8,9] [o 9 (AI 0)]) (k 2 [0,4,6,7,8,9] cy)) (q (r [0,4,6,8] [m 83 7,o 84 (F 0 8),o 85 (L 1 84),o 86 (K 85),o 87 (B .add 83 86),o 88 (BI .add 87 2),o 89 (F 2 8),n (S 1 89 88)]) (q (r [0,4,6,8,10,11,12] [m 91 0,o 92 (F 2 8),o 93 (L 1 92),o 94 (.call 195 [.t 91,.t 93,u 34,u 60]),m 90 94,o 95 (E 90 0),o 96 (E 90 1),o 97 (E 90 2),a 10 95,a 11 96,a 12 97]) (q (q (r [0,4,6,8,10,11,105] [m 98 12,o 99 (U 98),m 100 99,h 100 101 (M 11),h 100 102 (M 0),h 100 103 (K 102),h 100 104 (B .geq 101 103),o 105 (O 100 104)]) (w 105 (q (r [4,5] [o 106 (LT 6 6),n (S 6 4 106),o 5 (AB false)]) (x [4,5])) z)) (q (r [0,4,6,8,11] [m 107 10,o 108 (F 1 8),n (S 1 108 107)]) (q (r [0,4,6,8,11] [m 109 11,o 110 (F 3 8),n (S 1 110 109)]) (q (r [0,4,6,11] [o 111 (F 3 6),o 112 (.loadA (.t 111)),o 113 (LT 4 8),o 114 (.mksl false 1 4 [Z,Z,J,J] [⟨0,⟨4,.t 113⟩⟩]),o 115 (.append false 4 (.t 112) (.t 114)),o 116 (F 3 6),n (S 1 116 115)]) (r [0,1,4,6] [m 117 11,o 118 (BI .add 117 1),a 1 118])))))))))))))
def ss:ka:=AG
def gn:=@Xa ss AG rfl
def SM:na:=⟨119,[.inr ⟨4,⟨true,6⟩⟩,.inl 5],(q (r [0,1,4] [o 4 (.alloc 135 [.flat (.int .u8 0),Z,Z,V,J,J]),o 5 (AB false)]) (q (r [0,1,4,6] [m 13 0,m 14 1,o 15 (BI .add 14 1),o 16 (CC 197 13 15),m 17 1,o 18 (.build [.flat (.int .u8 0),Z,Z,V,J,J] [⟨0,⟨1,u 111⟩⟩,⟨1,⟨1,.t 16⟩⟩,⟨4,⟨1,.t 17⟩⟩]),o 6 (.alloc 135 [.flat (.int .u8 0),Z,Z,V,J,J]),n (S 6 6 18)]) (q (r [0,1,4,6] [m 19 1,o 20 (BI .add 19 1),o 21 (F 1 6),o 22 (L 1 21),o 23 (K 22),o 24 (B .add 20 23),a 1 24]) (q (q (.kb [0,1,4,6,29] [o 25 (.call 199 []),o 26 (F 1 6),o 27 (L 1 26)] [o 28 (CC 198 25 27),o 29 (U 28)]) (w 29 (q (r [4,5] [o 30 (LT 6 6),n (S 6 4 30),o 5 (AB false)]) (x [4,5])) z)) (k 0 [0,1,4,6] ss))))),[]⟩
def CG:ka:=(q (q (r [0,1,2,3,11,25] [m 15 1,m 16 0,o 17 (K 16),o 18 (B .lss 15 17),m 19 18,g 19 20 (M 0),g 19 21 (M 1),g 19 22 (D 20 21),g 19 23 (M 2),g 19 24 (B .neq 22 23),o 25 (P 19 24)]) (w 25 z (.exit 0 [1,11]))) (.block 1 (q (q (r [0,1,2,3,11,30] [m 26 0,m 27 1,o 28 (D 26 27),m 29 3,o 30 (B .eql 28 29)]) (w 30 (q (r [8,9,10] [o 8 (AS #[]),o 9 (AI 0),o 10 (AB false)]) (x [8,9,10])) z)) (q (q (r [0,1,2,3,11,34] [m 31 0,m 32 1,o 33 (D 31 32),o 34 (BU .eql 33 38)]) (w 34 (q (r [0,1,2,3,11,12,13,14] [m 36 0,m 37 1,o 38 (CC 257 36 37),m 35 38,o 39 (E 35 0),o 40 (E 35 1),o 41 (E 35 2),a 12 39,a 13 40,a 14 41]) (q (q (r [0,1,2,3,11,12,13,43] [m 42 14,o 43 (U 42)]) (w 43 (q (r [8,9,10] [o 8 (AS #[]),o 9 (AI 0),o 10 (AB false)]) (x [8,9,10])) z)) (q (r [0,1,2,3,11,13] [m 44 11,m 45 12,o 46 (B .add 44 45),a 11 46]) (q (r [0,1,2,3,11] [m 47 1,m 48 13,o 49 (B .add 47 48),a 1 49]) (.exit 1 [0,1,2,3,11]))))) z)) (q (r [0,1,2,3,11] [m 50 11,m 51 0,m 52 1,m 53 1,o 54 (BI .add 53 1),o 55 (.sliceS (.t 51) (.some (.t 52)) (.some (.t 54))),o 56 (B .add 50 55),a 11 56]) (r [0,1,2,3,11] [m 57 1,o 58 (BI .add 57 1),a 1 58]))))))
def IC:ka:=CG
def vt:=@Xa IC CG rfl
def TM:na:=⟨61,[.inl 8,.inl 9,.inl 10],(q (r [0,1,2,3] [o 8 (AS #[]),o 9 (AI 0),o 10 (AB false)]) (q (r [0,1,2,3,11] [o 11 (AS #[])]) (q (k 0 [0,1,2,3,11] IC) (q (r [8,9,10] [m 59 11,m 60 1,a 8 59,a 9 60,o 10 (AB true)]) (x [8,9,10]))))),[]⟩
def DG:ka:=(q (q (r [0,1,5,34] [m 7 1,m 8 0,o 9 (K 8),o 10 (B .lss 7 9),m 11 10,g 11 12 (M 0),g 11 13 (M 1),g 11 14 (D 12 13),g 11 15 (BU .geq 14 97),g 11 16 (M 15),g 16 17 (M 0),g 16 18 (M 1),g 16 19 (D 17 18),g 16 20 (BU .leq 19 122),g 11 21 (P 16 20),g 11 22 (M 21),h 22 23 (M 0),h 22 24 (M 1),h 22 25 (D 23 24),h 22 26 (BU .geq 25 48),h 22 27 (M 26),g 27 28 (M 0),g 27 29 (M 1),g 27 30 (D 28 29),g 27 31 (BU .leq 30 57),h 22 32 (P 27 31),g 11 33 (O 22 32),o 34 (P 11 33)]) (w 34 z (.exit 0 [0,1,5]))) (.block 1 (r [0,1,5] [m 35 1,o 36 (BI .add 35 1),a 1 36])))
def JC:ka:=DG
def bU:=@Xa JC DG rfl
def UM:na:=⟨41,[.inl 4],(q (r [0,1] [o 4 (AS #[])]) (q (r [0,1,5] [m 6 1,a 5 6]) (q (k 0 [0,1,5] JC) (q (r [4] [m 37 0,m 38 5,m 39 1,o 40 (.sliceS (.t 37) (.some (.t 38)) (.some (.t 39))),a 4 40]) (x [4]))))),[]⟩
def yG:ka:=(q (q (r [0,1,26] [m 5 1,m 6 0,o 7 (K 6),o 8 (B .lss 5 7),m 9 8,g 9 10 (M 0),g 9 11 (M 1),g 9 12 (D 10 11),g 9 13 (BU .eql 12 32),g 9 14 (M 13),h 14 15 (M 0),h 14 16 (M 1),h 14 17 (D 15 16),h 14 18 (BU .eql 17 9),g 9 19 (O 14 18),g 9 20 (M 19),h 20 21 (M 0),h 20 22 (M 1),h 20 23 (D 21 22),h 20 24 (BU .eql 23 10),g 9 25 (O 20 24),o 26 (P 9 25)]) (w 26 z (.exit 0 [1]))) (.block 1 (r [0,1] [m 27 1,o 28 (BI .add 27 1),a 1 28])))
def GC:ka:=yG
def aU:=@Xa GC yG rfl
def OM:na:=⟨30,[.inl 4],(q (r [0,1] [o 4 (AI 0)]) (q (k 0 [0,1] GC) (q (r [4] [m 29 1,a 4 29]) (x [4])))),[]⟩
def zG:ka:=(q (q (r [0,1,5,9] [m 6 5,m 7 0,o 8 (W 7),o 9 (B .lss 6 8)]) (w 9 z (.exit 0 []))) (q (.block 1 (q (r [0,1,5,17] [m 12 0,m 13 5,o 14 (Y 1 12 13),o 15 (L 1 14),m 16 1,o 17 (B .eql 15 16)]) (w 17 (q (r [4] [o 4 (AB true)]) (x [4])) z))) (r [0,1,5] [m 10 5,o 11 (BI .add 10 1),a 5 11])))
def HC:ka:=zG
def QH:=@Xa HC zG rfl
def PM:na:=⟨18,[.inl 4],(q (r [0,1] [o 4 (AB false)]) (q (q (r [0,1,5] [o 5 (AI 0)]) (k 0 [0,1,5] HC)) (q (r [4] [o 4 (AB false)]) (x [4])))),[]⟩
def QM:na:=⟨2,[.inl 0],(q (r [] [o 0 (.asg (.c V))]) (q (r [0] [o 1 (.mksl false 26 1 [Z,Z,Z,Z,Z,Z,Z,Z,Z,Z,Z,Z,Z,Z,Z,Z,Z,Z,Z,Z,Z,Z,Z,Z,Z,Z] [⟨0,⟨1,s #[97]⟩⟩,⟨1,⟨1,s #[98]⟩⟩,⟨2,⟨1,s #[98,114]⟩⟩,⟨3,⟨1,s #[99,111,100,101]⟩⟩,⟨4,⟨1,s #[100,105,118]⟩⟩,⟨5,⟨1,s #[101,109]⟩⟩,⟨6,⟨1,s #[104,49]⟩⟩,⟨7,⟨1,s #[104,50]⟩⟩,⟨8,⟨1,s #[104,51]⟩⟩,⟨9,⟨1,s #[104,114]⟩⟩,⟨10,⟨1,s #[105]⟩⟩,⟨11,⟨1,s #[105,109,103]⟩⟩,⟨12,⟨1,s #[108,105]⟩⟩,⟨13,⟨1,s #[111,108]⟩⟩,⟨14,⟨1,s #[112]⟩⟩,⟨15,⟨1,s #[112,114,101]⟩⟩,⟨16,⟨1,s #[115,112,97,110]⟩⟩,⟨17,⟨1,s #[115,116,114,111,110,103]⟩⟩,⟨18,⟨1,s #[116,97,98,108,101]⟩⟩,⟨19,⟨1,s #[116,98,111,100,121]⟩⟩,⟨20,⟨1,s #[116,100]⟩⟩,⟨21,⟨1,s #[116,104]⟩⟩,⟨22,⟨1,s #[116,104,101,97,100]⟩⟩,⟨23,⟨1,s #[116,114]⟩⟩,⟨24,⟨1,s #[117]⟩⟩,⟨25,⟨1,s #[117,108]⟩⟩]),a 0 1]) (x [0]))),[]⟩
def NM:na:=⟨2,[.inl 0],(q (r [] [o 0 (.asg (.c V))]) (q (r [0] [o 1 (.mksl false 9 1 [Z,Z,Z,Z,Z,Z,Z,Z,Z] [⟨0,⟨1,s #[97,108,116]⟩⟩,⟨1,⟨1,s #[99,108,97,115,115]⟩⟩,⟨2,⟨1,s #[99,111,108,115,112,97,110]⟩⟩,⟨3,⟨1,s #[104,114,101,102]⟩⟩,⟨4,⟨1,s #[105,100]⟩⟩,⟨5,⟨1,s #[114,111,119,115,112,97,110]⟩⟩,⟨6,⟨1,s #[115,114,99]⟩⟩,⟨7,⟨1,s #[116,105,116,108,101]⟩⟩,⟨8,⟨1,s #[119,105,100,116,104]⟩⟩]),a 0 1]) (x [0]))),[]⟩
def MM:na:=⟨13,[.inl 2],(q (r [0] [o 2 (AB false)]) (q (r [2] [m 3 0,o 4 (BS .eql 3 #[98,114]),m 5 4,h 5 6 (M 0),h 5 7 (BS .eql 6 #[104,114]),o 8 (O 5 7),m 9 8,h 9 10 (M 0),h 9 11 (BS .eql 10 #[105,109,103]),o 12 (O 9 11),a 2 12]) (x [2]))),[]⟩
def wG:ka:=(q (q (r [0,3,4,10] [m 7 4,m 8 0,o 9 (W 8),o 10 (B .lss 7 9)]) (w 10 z (.exit 0 [3]))) (q (.block 1 (q (r [0,3,4,5] [m 13 3,o 14 (W 13),a 5 14]) (q (q (r [0,3,4,5,29] [m 15 0,m 16 4,o 17 (Y 6 15 16),o 18 (F 0 17),o 19 (L 1 18),o 20 (BU .eql 19 111),m 21 20,g 21 22 (M 0),g 21 23 (M 4),g 21 24 (Y 6 22 23),g 21 25 (F 1 24),g 21 26 (L 1 25),g 21 27 (C 127 26),g 21 28 (U 27),o 29 (P 21 28)]) (w 29 (.jg [0,3,4,5] [m 31 3,m 33 0,m 34 4,o 35 (Y 6 33 34),o 36 (F 1 35),o 37 (L 1 36)] (.two (o 30 (.mksl false 0 1 [] [])) (.two (o 32 (.append false 1 (.t 30) (.t 31))) (.one (o 38 (.mksl false 1 1 [Z] [⟨0,⟨1,.t 37⟩⟩])) (.one (o 39 (.append false 1 (.t 32) (.t 38))) (.one (a 3 39) .done))) (.one (o 38 (.mksl false 1 1 [Z] [⟨0,⟨1,.t 37⟩⟩])) (.one (o 32 (.append false 1 (.t 30) (.t 31))) (.one (o 39 (.append false 1 (.t 32) (.t 38))) (.one (a 3 39) .done))))) (.one (o 38 (.mksl false 1 1 [Z] [⟨0,⟨1,.t 37⟩⟩])) (.one (o 30 (.mksl false 0 1 [] [])) (.one (o 32 (.append false 1 (.t 30) (.t 31))) (.one (o 39 (.append false 1 (.t 32) (.t 38))) (.one (a 3 39) .done))))))) z)) (q (q (r [0,3,4,5,45] [m 40 0,m 41 4,o 42 (Y 6 40 41),o 43 (F 0 42),o 44 (L 1 43),o 45 (BU .eql 44 99)]) (w 45 (q (q (.kb [0,3,4,5,60] [m 46 5,o 47 (BI .eql 46 0),m 48 47,h 48 49 (M 3),h 48 50 (M 5),h 48 51 (BI .sub 50 1),h 48 52 (Y 1 49 51),h 48 53 (L 1 52),h 48 54 (M 0),h 48 55 (M 4),h 48 56 (Y 6 54 55),h 48 57 (F 1 56),h 48 58 (L 1 57)] [h 48 59 (B .neq 53 58),o 60 (O 48 59)]) (w 60 (q (r [2] [o 2 (AB false)]) (x [2])) z)) (r [0,3,4] [m 61 3,m 62 5,o 63 (BI .sub 62 1),o 64 (.slice 1 (.t 61) .none (.some (.t 63))),a 3 64])) z)) (q (r [0,3,4,67] [m 65 3,o 66 (W 65),o 67 (BI .gtr 66 32)]) (w 67 (q (r [2] [o 2 (AB false)]) (x [2])) z)))))) (r [0,3,4] [m 11 4,o 12 (BI .add 11 1),a 4 12])))
def EC:ka:=wG
def qi:=@Xa EC wG rfl
def KM:na:=⟨71,[.inl 2],(q (r [0] [o 2 (AB false)]) (q (r [0,3] [o 6 (.mksl false 0 1 [] []),a 3 6]) (q (q (r [0,3,4] [o 4 (AI 0)]) (k 0 [0,3,4] EC)) (q (r [2] [m 68 3,o 69 (W 68),o 70 (BI .eql 69 0),a 2 70]) (x [2]))))),[]⟩
def gG:ka:=(q (q (r [0,1,7,8,9,16] [m 15 9,o 16 (BI .lss 15 4)]) (w 16 z (.exit 0 [0,1]))) (q (.block 1 (q (r [0,1,7,8,9,25] [m 19 0,m 20 7,m 21 9,o 22 (Y 1 20 21),o 23 (L 1 22),m 24 1,o 25 (.call 105 [.t 19,.t 23,.t 24])]) (w 25 (q (.kb [4,5,6] [m 26 8,m 27 9,o 28 (Y 1 26 27),o 29 (L 1 28),m 30 7,m 31 9,o 32 (Y 1 30 31),o 33 (L 1 32),o 34 (K 33),m 4 29] [a 5 34,o 6 (AB true)]) (x [4,5,6])) z))) (r [0,1,7,8,9] [m 17 9,o 18 (BI .add 17 1),a 9 18])))
def CK:ka:=gG
def kk:=@Xa CK gG rfl
def oM:na:=⟨73,[.inl 4,.inl 5,.inl 6],(q (r [0,1] [o 4 (AS #[]),o 5 (AI 0),o 6 (AB false)]) (q (r [0,1,7] [o 13 (.mksl false 4 1 [Z,Z,Z,Z] [⟨0,⟨1,s #[38,97,109,112,59]⟩⟩,⟨1,⟨1,s #[38,108,116,59]⟩⟩,⟨2,⟨1,s #[38,103,116,59]⟩⟩,⟨3,⟨1,s #[38,113,117,111,116,59]⟩⟩]),a 7 13]) (q (r [0,1,7,8] [o 14 (.mksl false 4 1 [Z,Z,Z,Z] [⟨0,⟨1,s #[38]⟩⟩,⟨1,⟨1,s #[60]⟩⟩,⟨2,⟨1,s #[62]⟩⟩,⟨3,⟨1,s #[34]⟩⟩]),a 8 14]) (q (q (r [0,1,7,8,9] [o 9 (AI 0)]) (k 0 [0,1,7,8,9] CK)) (q (r [0,1,10,11,12] [o 10 (AI 0),o 11 (AI 0),o 12 (AI 0)]) (q (q (r [0,1,10,11,12,37] [m 35 0,m 36 1,o 37 (.call 105 [.t 35,s #[38,35,120],.t 36])]) (w 37 (q (r [0,1,12] [o 12 (AI 3)]) (r [10,11,12] [m 39 0,m 40 1,o 41 (BI .add 40 3),o 42 (.sliceS (.t 39) (.some (.t 41)) .none),o 43 (.call 286 [.t 42,i 16,i 6]),m 38 43,o 44 (E 38 0),o 45 (E 38 1),a 10 44,a 11 45])) (q (r [0,1,10,11,12,48] [m 46 0,m 47 1,o 48 (.call 105 [.t 46,s #[38,35],.t 47])]) (w 48 (q (r [0,1,12] [o 12 (AI 2)]) (r [10,11,12] [m 50 0,m 51 1,o 52 (BI .add 51 2),o 53 (.sliceS (.t 50) (.some (.t 52)) .none),o 54 (.call 286 [.t 53,i 10,i 7]),m 49 54,o 55 (E 49 0),o 56 (E 49 1),a 10 55,a 11 56])) z)))) (q (q (r [10,11,12,67] [m 57 11,o 58 (BI .eql 57 0),m 59 58,h 59 60 (M 10),h 59 61 (BI .eql 60 0),o 62 (O 59 61),m 63 62,h 63 64 (M 10),h 63 65 (C 134 64),h 63 66 (U 65),o 67 (O 63 66)]) (w 67 (q (r [4,5,6] [o 4 (AS #[]),o 5 (AI 0),o 6 (AB false)]) (x [4,5,6])) z)) (q (r [4,5,6] [m 68 10,o 69 (C 72 68),m 70 12,m 71 11,o 72 (B .add 70 71),a 4 69,a 5 72,o 6 (AB true)]) (x [4,5,6]))))))))),[]⟩
def hG:ka:=(q (q (r [0,1,2,8,9,19] [m 11 9,m 12 0,o 13 (K 12),o 14 (B .lss 11 13),m 15 14,g 15 16 (M 9),g 15 17 (M 2),g 15 18 (B .leq 16 17),o 19 (P 15 18)]) (w 19 z (.exit 0 []))) (q (.block 1 (q (q (r [0,1,2,8,9,29] [m 22 0,m 23 9,o 24 (D 22 23),o 25 (BU .eql 24 59),m 26 25,g 26 27 (M 9),g 26 28 (BI .gtr 27 0),o 29 (P 26 28)]) (w 29 (q (r [6,7] [m 30 8,m 31 9,o 32 (BI .add 31 1),a 6 30,a 7 32]) (x [6,7])) z)) (q (r [0,1,2,8,9,10] [m 33 0,m 34 9,o 35 (D 33 34),m 36 1,o 37 (CC 292 35 36),a 10 37]) (q (q (r [0,1,2,8,9,10,39] [m 38 10,o 39 (BI .lss 38 0)]) (w 39 (q (r [6,7] [o 6 (AI 0),o 7 (AI 0)]) (x [6,7])) z)) (r [0,1,2,8,9] [m 40 8,m 41 1,o 42 (B .mul 40 41),m 43 10,o 44 (B .add 42 43),a 8 44]))))) (r [0,1,2,8,9] [m 20 9,o 21 (BI .add 20 1),a 9 21])))
def qC:ka:=hG
def ut:=@Xa qC hG rfl
def qM:na:=⟨45,[.inl 6,.inl 7],(q (r [0,1,2] [o 6 (AI 0),o 7 (AI 0)]) (q (r [0,1,2,8] [o 8 (AI 0)]) (q (q (r [0,1,2,8,9] [o 9 (AI 0)]) (k 0 [0,1,2,8,9] qC)) (q (r [6,7] [o 6 (AI 0),o 7 (AI 0)]) (x [6,7]))))),[]⟩
def pM:na:=⟨39,[.inl 4],(q (r [0,1] [o 4 (AI 0)]) (q (r [0,1,5] [o 5 (.asg (.c (.flat (.int .i64 (.negSucc 0)))))]) (q (q (r [0,1,5,11] [m 6 0,o 7 (BU .geq 6 48),m 8 7,g 8 9 (M 0),g 8 10 (BU .leq 9 57),o 11 (P 8 10)]) (w 11 (r [0,1,5] [m 12 0,o 13 (.conv .i64 (.t 12)),o 14 (BI .sub 13 48),a 5 14]) z)) (q (q (r [0,1,5,20] [m 15 0,o 16 (BU .geq 15 65),m 17 16,g 17 18 (M 0),g 17 19 (BU .leq 18 70),o 20 (P 17 19)]) (w 20 (r [0,1,5] [m 21 0,o 22 (.conv .i64 (.t 21)),o 23 (BI .sub 22 65),o 24 (BI .add 23 10),a 5 24]) z)) (q (q (r [0,1,5,30] [m 25 0,o 26 (BU .geq 25 97),m 27 26,g 27 28 (M 0),g 27 29 (BU .leq 28 102),o 30 (P 27 29)]) (w 30 (r [1,5] [m 31 0,o 32 (.conv .i64 (.t 31)),o 33 (BI .sub 32 97),o 34 (BI .add 33 10),a 5 34]) z)) (q (q (r [5,37] [m 35 5,m 36 1,o 37 (B .geq 35 36)]) (w 37 (q (r [4] [o 4 (.asg (.c (.flat (.int .i64 (.negSucc 0)))))]) (x [4])) z)) (q (r [4] [m 38 5,a 4 38]) (x [4])))))))),[]⟩
def lG:ka:=(q (q (r [0,3,16] [m 13 3,m 14 0,o 15 (K 14),o 16 (B .lss 13 15)]) (w 16 z (.exit 0 []))) (q (.block 1 (q (r [0,3,4] [m 19 0,m 20 3,o 21 (D 19 20),a 4 21]) (q (r [0,3,48] [m 22 4,o 23 (BU .geq 22 65),m 24 23,g 24 25 (M 4),g 24 26 (BU .leq 25 90),o 27 (P 24 26),m 28 27,h 28 29 (M 4),h 28 30 (BU .geq 29 97),h 28 31 (M 30),g 31 32 (M 4),g 31 33 (BU .leq 32 122),h 28 34 (P 31 33),o 35 (O 28 34),m 36 35,h 36 37 (M 4),h 36 38 (BU .geq 37 48),h 36 39 (M 38),g 39 40 (M 4),g 39 41 (BU .leq 40 57),h 36 42 (P 39 41),o 43 (O 36 42),m 44 43,h 44 45 (M 4),h 44 46 (BU .eql 45 45),o 47 (O 44 46),o 48 (U 47)]) (w 48 (q (r [2] [o 2 (AB false)]) (x [2])) z)))) (r [0,3] [m 17 3,o 18 (BI .add 17 1),a 3 18])))
def uC:ka:=lG
def WT:=@Xa uC lG rfl
def wM:na:=⟨49,[.inl 2],(q (r [0] [o 2 (AB false)]) (q (q (r [0,12] [m 5 0,o 6 (K 5),o 7 (BI .lss 6 1),m 8 7,h 8 9 (M 0),h 8 10 (K 9),h 8 11 (BI .gtr 10 32),o 12 (O 8 11)]) (w 12 (q (r [2] [o 2 (AB false)]) (x [2])) z)) (q (q (r [0,3] [o 3 (AI 0)]) (k 0 [0,3] uC)) (q (r [2] [o 2 (AB true)]) (x [2]))))),[]⟩
def mG:ka:=(q (q (r [0,3,4,13] [m 10 4,m 11 3,o 12 (W 11),o 13 (B .lss 10 12)]) (w 13 z (.exit 0 [0]))) (q (.block 1 (q (r [0,3,4,29] [m 16 3,m 17 4,o 18 (Y 1 16 17),o 19 (L 1 18),o 20 (K 19),o 21 (BI .lss 20 1),m 22 21,h 22 23 (M 3),h 22 24 (M 4),h 22 25 (Y 1 23 24),h 22 26 (L 1 25),h 22 27 (K 26),h 22 28 (BI .gtr 27 60),o 29 (O 22 28)]) (w 29 (q (r [2] [o 2 (AB false)]) (x [2])) z))) (r [0,3,4] [m 14 4,o 15 (BI .add 14 1),a 4 15])))
def vC:ka:=mG
def XT:=@Xa vC mG rfl
def nG:ka:=(q (q (r [0,5,33] [m 30 5,m 31 0,o 32 (K 31),o 33 (B .lss 30 32)]) (w 33 z (.exit 2 []))) (q (.block 3 (q (r [0,5,50] [m 36 0,m 37 5,o 38 (D 36 37),o 39 (BU .lss 38 32),m 40 39,h 40 41 (M 0),h 40 42 (M 5),h 40 43 (D 41 42),h 40 44 (BU .gtr 43 126),o 45 (O 40 44),m 46 45,h 46 47 (M 0),h 46 48 (M 5),h 46 49 (.call 105 [.t 47,s #[61,63],.t 48]),o 50 (O 46 49)]) (w 50 (q (r [2] [o 2 (AB false)]) (x [2])) z))) (r [0,5] [m 34 5,o 35 (BI .add 34 1),a 5 35])))
def wC:ka:=nG
def YT:=@Xa wC nG rfl
def xM:na:=⟨51,[.inl 2],(q (r [0] [o 2 (AB false)]) (q (q (r [0,7] [m 6 0,o 7 (BS .eql 6 #[])]) (w 7 (q (r [2] [o 2 (AB true)]) (x [2])) z)) (q (r [0,3] [m 8 0,o 9 (.call 129 [.t 8,u 32]),a 3 9]) (q (q (r [0,3,4] [o 4 (AI 0)]) (k 0 [0,3,4] vC)) (q (q (r [0,5] [o 5 (AI 0)]) (k 2 [0,5] wC)) (q (r [2] [o 2 (AB true)]) (x [2]))))))),[]⟩
def pG:ka:=(q (q (r [3,4,5,6,21] [m 18 6,m 19 4,o 20 (W 19),o 21 (B .lss 18 20)]) (w 21 z (.exit 0 [3,5]))) (q (.block 1 (q (r [3,4,5,6,7] [m 24 4,m 25 6,o 26 (Y 1 24 25),o 27 (L 1 26),o 28 (C 72 27),a 7 28]) (q (q (r [3,4,5,6,7,34] [m 29 5,o 30 (K 29),m 31 7,o 32 (K 31),o 33 (B .add 30 32),o 34 (BI .gtr 33 45)]) (w 34 (q (r [3,4,6,7] [o 35 (.mvA 3),m 36 5,o 37 (C 130 36),o 38 (.mksl false 1 1 [Z] [⟨0,⟨1,.t 37⟩⟩]),o 39 (.append false 1 (.t 35) (.t 38)),a 3 39]) (r [3,4,5,6,7] [o 5 (AS #[])])) z)) (r [3,4,5,6] [m 40 5,m 41 7,o 42 (B .add 40 41),a 5 42])))) (r [3,4,5,6] [m 22 6,o 23 (BI .add 22 1),a 6 23])))
def yC:ka:=pG
def OH:=@Xa yC pG rfl
def AM:na:=⟨48,[.inl 2],(q (r [0] [o 2 (.asg (.c V))]) (q (q (r [0,9] [m 8 0,o 9 (BS .eql 8 #[])]) (w 9 (q (r [2] [o 10 (.mksl false 0 1 [] []),a 2 10]) (x [2])) z)) (q (q (r [0,12] [m 11 0,o 12 (C 128 11)]) (w 12 (q (r [2] [m 13 0,o 14 (.call 129 [.t 13,u 32]),a 2 14]) (x [2])) z)) (q (r [0,3] [o 15 (.mksl false 0 1 [] []),a 3 15]) (q (r [3,4] [m 16 0,o 17 (C 69 16),a 4 17]) (q (r [3,4,5] [o 5 (AS #[])]) (q (q (r [3,4,5,6] [o 6 (AI 0)]) (k 0 [3,4,5,6] yC)) (q (r [2] [o 43 (.mvA 3),m 44 5,o 45 (C 130 44),o 46 (.mksl false 1 1 [Z] [⟨0,⟨1,.t 45⟩⟩]),o 47 (.append false 1 (.t 43) (.t 46)),a 2 47]) (x [2]))))))))),[]⟩
def zM:na:=⟨7,[.inl 2],(q (r [0] [o 2 (AS #[])]) (q (r [2] [m 3 0,o 4 (C 177 3),o 5 (SB .add #[61,63,85,84,70,45,56,63,66,63] 4),o 6 (BS .add 5 #[63,61]),a 2 6]) (x [2]))),[]⟩
def oG:ka:=(q (q (r [6,7,8,9,22] [m 19 9,m 20 8,o 21 (W 20),o 22 (B .lss 19 21)]) (w 22 z (.exit 0 [6]))) (q (.block 1 (q (q (r [6,7,8,9,33] [m 25 7,o 26 (BI .add 25 1),m 27 8,m 28 9,o 29 (Y 1 27 28),o 30 (L 1 29),o 31 (K 30),o 32 (B .add 26 31),o 33 (BI .gtr 32 76)]) (w 33 (q (r [6,8,9] [m 34 6,o 35 (BS .add 34 #[13,10]),a 6 35]) (r [6,7,8,9] [o 7 (AI 0)])) z)) (q (r [6,7,8,9] [m 36 6,o 37 (BS .add 36 #[32]),m 38 8,m 39 9,o 40 (Y 1 38 39),o 41 (L 1 40),o 42 (B .add 37 41),a 6 42]) (r [6,7,8,9] [m 43 7,o 44 (BI .add 43 1),m 45 8,m 46 9,o 47 (Y 1 45 46),o 48 (L 1 47),o 49 (K 48),o 50 (B .add 44 49),a 7 50])))) (r [6,7,8,9] [m 23 9,o 24 (BI .add 23 1),a 9 24])))
def xC:ka:=oG
def NH:=@Xa xC oG rfl
def yM:na:=⟨53,[.inl 4,.inl 5],(q (r [0,1] [o 4 (AS #[]),o 5 (AI 0)]) (q (q (r [0,1,12] [m 10 0,o 11 (C 53 10),o 12 (U 11)]) (w 12 (q (r [4,5] [o 4 (AS #[]),o 5 (AI 1)]) (x [4,5])) z)) (q (r [1,6] [m 13 0,o 14 (BS .add 13 #[58]),a 6 14]) (q (r [1,6,7] [m 15 6,o 16 (K 15),a 7 16]) (q (r [6,7,8] [m 17 1,o 18 (C 66 17),a 8 18]) (q (q (r [6,7,8,9] [o 9 (AI 0)]) (k 0 [6,7,8,9] xC)) (q (r [4,5] [m 51 6,o 52 (BS .add 51 #[13,10]),a 4 52,o 5 (AI 0)]) (x [4,5])))))))),[]⟩
def eM:na:=⟨35,[.inl 6],(q (r [0,1,2] [o 6 (AB false)]) (q (r [6] [m 7 2,o 8 (BI .geq 7 0),m 9 8,g 9 10 (M 2),g 9 11 (M 0),g 9 12 (K 11),g 9 13 (B .leq 10 12),o 14 (P 9 13),m 15 14,g 15 16 (M 1),g 15 17 (K 16),g 15 18 (M 0),g 15 19 (K 18),g 15 20 (M 2),g 15 21 (B .sub 19 20),g 15 22 (B .leq 17 21),o 23 (P 15 22),m 24 23,g 24 25 (M 0),g 24 26 (M 2),g 24 27 (M 2),g 24 28 (M 1),g 24 29 (K 28),g 24 30 (B .add 27 29),g 24 31 (.sliceS (.t 25) (.some (.t 26)) (.some (.t 30))),g 24 32 (M 1),g 24 33 (B .eql 31 32),o 34 (P 24 33),a 6 34]) (x [6]))),[]⟩
def mR:ka:=(r [8,9] [a 9 21])
def WQ:ka:=(.block 1 (r [] [o 22 (.loadA (.t 8)),m 23 9,o 24 (.mksl false 1 1 [Z] [⟨0,⟨1,.t 23⟩⟩]),o 25 (.append false 1 (.t 22) (.t 24)),n (S 1 8 25)]))
def nN:na:=⟨27,[.inl 4,.inl 5],(q (r [0,1,4,5] [o 4 (.asg (.c V)),o 5 (AI 0)]) (q (r [4,5,6,7] [m 11 0,m 12 1,o 13 (CC 24 11 12),m 10 13,o 14 (E 10 0),o 15 (E 10 1),a 6 14,a 7 15]) (q (q (r [4,5,6,7,17] [m 16 7,o 17 (BI .neq 16 0)]) (w 17 (q (r [4,5] [m 18 7,o 4 (.asg (.c V)),a 5 18]) (x [4,5])) z)) (q (r [4,5,6,8] [o 8 (.alloc 29 [V])]) (q (q (r [4,5,8,20] [m 19 6,o 20 (.calli [⟨245,313⟩,⟨255,316⟩,⟨259,319⟩] (.t 19) [])]) (.block 0 (.range 10 0 [8] (.t 20)))) (q (r [4,5] [o 26 (L 1 8),a 4 26,o 5 (AI 0)]) (x [4,5]))))))),[([21],mR,WQ)]⟩
def mN:na:=⟨19,[.inl 4,.inl 5],(q (r [0,1] [o 4 (AS #[]),o 5 (AI 0)]) (q (r [6,7] [m 9 0,m 10 1,o 11 (CC 24 9 10),m 8 11,o 12 (E 8 0),o 13 (E 8 1),a 6 12,a 7 13]) (q (q (r [6,7,15] [m 14 7,o 15 (BI .neq 14 0)]) (w 15 (q (r [4,5] [m 16 7,o 4 (AS #[]),a 5 16]) (x [4,5])) z)) (q (r [4,5] [m 17 6,o 18 (.calli [⟨245,312⟩,⟨255,315⟩,⟨259,318⟩] (.t 17) []),a 4 18,o 5 (AI 0)]) (x [4,5]))))),[]⟩
def vN:na:=⟨64,[.inl 4,.inl 5],(q (r [0,1] [o 4 (.asg (.c (.flat .nilIface))),o 5 (AI 0)]) (q (q (r [1,16] [m 16 0]) (.block 0 (q (r [1,16,17] [o 18 (BI .eql 16 1),a 17 18]) (w 17 (q (r [6,7] [m 20 1,o 21 (C 7 20),m 19 21,o 22 (E 19 0),o 23 (E 19 1),o 6 (.alloc 23 [Z,Z,Z,Z,Z]),n (S 5 6 22),a 7 23]) (q (r [6,7,8] [o 25 (F 4 6),o 26 (L 1 25),o 27 (C 56 26),m 24 27,o 28 (E 24 0),o 29 (E 24 1),a 8 28,a 9 29]) (q (r [4,5] [o 30 (LT 5 6),m 31 8,o 32 (.build [Z,Z,Z,Z,Z,V] [⟨0,⟨5,.t 30⟩⟩,⟨5,⟨1,.t 31⟩⟩]),o 33 (.mkt 245 [.t 32]),m 34 7,a 4 33,a 5 34]) (x [4,5])))) (q (r [1,16,35] [o 36 (BI .eql 16 2),a 35 36]) (w 35 (q (r [10,11] [m 38 1,o 39 (C 57 38),m 37 39,o 40 (E 37 0),o 41 (E 37 1),o 10 (.alloc 40 [.flat (.bool false),Z,Z]),n (S 3 10 40),a 11 41]) (q (r [10,11,12] [o 43 (F 2 10),o 44 (L 1 43),o 45 (C 58 44),m 42 45,o 46 (E 42 0),o 47 (E 42 1),a 12 46,a 13 47]) (q (r [4,5] [o 48 (LT 3 10),m 49 12,o 50 (.build [.flat (.bool false),Z,Z,V] [⟨0,⟨3,.t 48⟩⟩,⟨3,⟨1,.t 49⟩⟩]),o 51 (.mkt 255 [.t 50]),m 52 11,a 4 51,a 5 52]) (x [4,5])))) (q (r [1,53] [o 54 (BI .eql 16 3),a 53 54]) (w 53 (q (r [14,15] [m 56 1,o 57 (C 59 56),m 55 57,o 58 (E 55 0),o 59 (E 55 1),o 14 (.alloc 42 [Z,.flat (.bool false)]),n (S 2 14 58),a 15 59]) (q (r [4,5] [o 60 (LT 2 14),o 61 (.build [Z,.flat (.bool false)] [⟨0,⟨2,.t 60⟩⟩]),o 62 (.mkt 259 [.t 61]),m 63 15,a 4 62,a 5 63]) (x [4,5]))) z)))))))) (q (r [4,5] [o 4 (.asg (.c (.flat .nilIface))),o 5 (AI 1)]) (x [4,5])))),[]⟩
def HG:ka:=(q (r [3,7,8,9,10] [o 10 (B .lss 9 8)]) (q (w 10 z (.exit 0 [3])) (q (.block 1 (q (r [3,5,7,8,9] [o 11 (Y 4 7 9),o 12 (LT 4 11),o 5 (.alloc 203 [.flat (.int .u8 0),Z,J,J]),n (S 4 5 12)]) (q (r [3,5,7,8,9,14] [o 13 (F 0 5),o 14 (L 1 13)]) (.block 2 (q (r [3,5,7,8,9,14,18] [o 19 (BU .eql 14 34),a 18 19]) (w 18 (r [3,7,8,9] [o 20 (CS 45 3 #[34,34])]) (q (q (r [3,5,7,8,9,14,21] [o 22 (BU .eql 14 48),a 21 22]) (w 21 z (r [3,5,7,8,9,21] [o 23 (BU .eql 14 97),a 21 23]))) (w 21 (r [3,7,8,9] [o 24 (F 1 5),o 25 (L 1 24),o 26 (CC 45 3 25)]) (r [3,7,8,9] [o 15 (F 0 5),o 16 (L 1 15),o 17 (CC 44 3 16)]))))))))) (r [3,7,8,9] [o 27 (BI .add 9 1),m 9 27]))))
def NC:ka:=HG
def lw:=@Xa NC HG rfl
def oN:na:=⟨29,[.inl 2],(q (r [1] [o 1 (.box 127 4 (.t 0)),o 2 (AS #[])]) (q (r [1,3] [o 3 (.alloc 101 [.flat (.pointer .none),V])]) (q (q (r [3,7,8,9] [o 6 (F 3 1),o 7 (L 1 6),o 8 (W 7),o 9 (.mv (i 0))]) (k 0 [3,7,8,9] NC)) (q (r [2] [o 28 (C 46 3),a 2 28]) (x [2]))))),[]⟩
def pN:na:=⟨4,[.inl 2],(q (r [1] [o 1 (.box 127 4 (.t 0)),o 2 (.asg (.c (.flat .nilFunc)))]) (q (r [2] [o 3 (.clos 317 [.t 1]),a 2 3]) (x [2]))),[]⟩
def IG:ka:=(q (r [0,20,21,22,23] [o 23 (B .lss 22 21)]) (q (w 23 z (.exit 0 [])) (q (.block 1 (q (r [0,4,20,21,22] [o 24 (Y 4 20 22),o 25 (LT 4 24),o 4 (.alloc 203 [.flat (.int .u8 0),Z,J,J]),n (S 4 4 25)]) (q (r [0,20,21,22,35] [o 26 (F 0 4),o 27 (L 1 26),o 28 (BU .eql 27 34),m 29 28,g 29 30 (M 0),g 29 31 (F 1 4),g 29 32 (L 1 31),g 29 33 (.callv (.t 30) [.t 32]),g 29 34 (U 33),o 35 (P 29 34)]) (w 35 (x []) z)))) (r [0,20,21,22] [o 36 (BI .add 22 1),m 22 36]))))
def OC:ka:=IG
def UH:=@Xa OC IG rfl
def qN:na:=⟨37,[],(q (q (r [0,1,18] [m 5 0,o 6 (F 0 1),o 7 (F 1 6),o 8 (L 1 7),o 9 (.callv (.t 5) [.t 8]),o 10 (U 9),m 11 10,h 11 12 (M 0),h 11 13 (F 0 1),h 11 14 (F 2 13),h 11 15 (L 1 14),h 11 16 (.callv (.t 12) [.t 15]),h 11 17 (U 16),o 18 (O 11 17)]) (w 18 (x []) z)) (q (r [0,20,21,22] [o 19 (F 3 1),o 20 (L 1 19),o 21 (W 20),o 22 (.mv (i 0))]) (k 0 [0,20,21,22] OC))),[]⟩
def VG:ka:=(q (r [0,2,4,19,20,21,22] [o 22 (B .lss 21 20)]) (q (w 22 z (.exit 0 [0,2,4])) (q (.block 1 (q (r [0,2,4,6,19,20,21] [o 23 (Y 1 19 21),o 24 (L 1 23),a 6 24]) (q (r [0,2,4,19,20,21,27] [m 25 6,o 26 (.callv (.t 25) []),o 27 (U 26)]) (w 27 (q (r [2,3] [o 28 (.build [.flat (.bool false),Z,Z] []),n (S 3 2 28),o 3 (AI 7)]) (x [2,3])) z)))) (r [0,2,4,19,20,21] [o 29 (BI .add 21 1),m 21 29]))))
def GK:ka:=VG
def eU:=@Xa GK VG rfl
def iO:na:=⟨50,[.inr ⟨2,⟨true,3⟩⟩,.inl 3],(q (r [0,2] [o 2 (.alloc 40 [.flat (.bool false),Z,Z]),o 3 (AI 0)]) (q (r [0,2,4] [m 9 0,o 10 (.build [Z] [⟨0,⟨1,.t 9⟩⟩]),o 11 (.build [Z,.flat (.bool false),Z,Z] [⟨0,⟨1,.t 10⟩⟩]),o 12 (.box 197 4 (.t 11)),a 4 12]) (q (q (r [0,2,4,19,20,21] [m 13 4,o 14 (.mkt 226 [.t 13]),m 15 4,o 16 (.mkt 228 [.t 15]),m 17 4,o 18 (.mkt 230 [.t 17]),o 19 (.mksl false 3 1 [.flat .nilFunc,.flat .nilFunc,.flat .nilFunc] [⟨0,⟨1,.t 14⟩⟩,⟨1,⟨1,.t 16⟩⟩,⟨2,⟨1,.t 18⟩⟩]),o 20 (W 19),o 21 (.mv (i 0))]) (k 0 [0,2,4,19,20,21] GK)) (q (q (r [0,2,4,7,8] [m 31 4,o 32 (N 31),o 33 (F 1 32),o 34 (LT 3 33),o 35 (C 116 34),m 30 35,o 36 (E 30 0),o 37 (E 30 1),a 7 36,a 8 37]) (q (r [2,4,44] [m 38 8,o 39 (BI .neq 38 0),m 40 39,h 40 41 (M 7),h 40 42 (M 0),h 40 43 (B .neq 41 42),o 44 (O 40 43)]) (w 44 (q (r [2,3] [o 45 (.build [.flat (.bool false),Z,Z] []),n (S 3 2 45),o 3 (AI 7)]) (x [2,3])) z))) (q (r [2,3] [m 46 4,o 47 (N 46),o 48 (F 1 47),o 49 (LT 3 48),n (S 3 2 49),o 3 (AI 0)]) (x [2,3])))))),[]⟩
def gO:na:=⟨24,[.inl 2,.inl 3],(q (r [1] [o 1 (.box 40 3 (.t 0)),o 2 (AS #[]),o 3 (AI 0)]) (q (q (r [1,4] [o 5 (LT 3 1),o 6 (C 187 5),a 4 6]) (q (r [1,4,8] [m 7 4,o 8 (BI .neq 7 0)]) (w 8 (q (r [2,3] [m 9 4,o 2 (AS #[]),a 3 9]) (x [2,3])) z))) (q (.kb [2,3] [o 10 (F 1 1),o 11 (L 1 10),o 12 (C 188 11),o 13 (SB .add #[123,34,114,101,99,101,105,118,101,114,34,58,34] 12),o 14 (BS .add 13 #[34,44,34,115,116,97,116,117,115,34,58,34]),o 15 (F 0 1),o 16 (L 1 15),o 17 (C 186 16),o 18 (B .add 14 17),o 19 (BS .add 18 #[34,44,34,98,111,100,121,34,58]),o 20 (F 2 1),o 21 (L 1 20)] [o 22 (B .add 19 21),o 23 (BS .add 22 #[125]),a 2 23,o 3 (AI 0)]) (x [2,3])))),[]⟩
def hO:na:=⟨33,[.inl 2],(q (r [1] [o 1 (.box 40 3 (.t 0)),o 2 (AI 0)]) (q (r [1,4] [o 8 (F 2 1),o 9 (L 1 8),o 10 (C 247 9),m 7 10,o 11 (E 7 0),o 12 (E 7 1),o 3 (.alloc 291 [.flat (.int .u8 0),Z,V,V]),n (S 4 3 11),a 4 12]) (q (q (.kb [1,22] [o 13 (F 1 1),o 14 (L 1 13),o 15 (C 95 14),o 16 (F 1 1),o 17 (L 1 16)] [o 18 (B .neq 15 17),m 19 18,h 19 20 (M 4),h 19 21 (BI .eql 20 7),o 22 (O 19 21)]) (w 22 (q (r [2] [o 2 (AI 7)]) (x [2])) z)) (q (q (r [6] [o 24 (F 2 1),o 25 (L 1 24),o 26 (SB .add #[91] 25),o 27 (BS .add 26 #[93]),o 28 (C 247 27),m 23 28,o 29 (E 23 0),o 30 (E 23 1),o 5 (.alloc 291 [.flat (.int .u8 0),Z,V,V]),n (S 4 5 29),a 6 30]) (q (r [32] [m 31 6,o 32 (BI .neq 31 0)]) (w 32 (q (r [2] [o 2 (AI 8)]) (x [2])) z))) (q (r [2] [o 2 (AI 0)]) (x [2])))))),[]⟩
def YY:na:=⟨4,[.inl 2],(q (r [0] [o 2 (AS #[])]) (q (q (r [3] [m 3 0]) (w 3 (q (r [2] [o 2 (AS #[102,105,114,105,110,103])]) (x [2])) z)) (q (r [2] [o 2 (AS #[114,101,115,111,108,118,101,100])]) (x [2])))),[]⟩
def jO:na:=⟨21,[.inl 4],(q (r [0,1] [o 4 (AB false)]) (q (r [0,5,6] [m 8 0,o 9 (N 8),o 10 (F 0 9),o 11 (L 1 10),m 12 1,o 13 (CC 90 11 12),m 7 13,o 14 (E 7 0),o 15 (E 7 1),a 5 14,a 6 15]) (q (r [6] [m 16 0,m 17 5,o 18 (N 16),o 19 (F 0 18),n (S 1 19 17)]) (q (r [4] [m 20 6,a 4 20]) (x [4]))))),[]⟩
def lO:na:=⟨48,[.inl 2],(q (r [0] [o 2 (AB false)]) (q (q (r [0,10] [m 6 0,o 7 (N 6),o 8 (F 0 7),o 9 (CS 185 8 #[123,34,114,101,99,101,105,118,101,114,34,58,34]),o 10 (U 9)]) (w 10 (q (r [2] [o 2 (AB false)]) (x [2])) z)) (q (r [0,3] [m 11 0,o 12 (N 11),o 13 (F 0 12),o 14 (F 0 13),o 15 (L 1 14),o 16 (CS 146 15 #[34,44,34,115,116,97,116,117,115,34,58,34]),a 3 16]) (q (q (r [0,3,18] [m 17 3,o 18 (BI .lss 17 0)]) (w 18 (q (r [2] [o 2 (AB false)]) (x [2])) z)) (q (r [0,3,4,5] [m 20 0,o 21 (N 20),o 22 (F 0 21),o 23 (F 0 22),o 24 (L 1 23),m 25 3,o 26 (.sliceS (.t 24) .none (.some (.t 25))),o 27 (C 120 26),m 19 27,o 28 (E 19 0),o 29 (E 19 1),a 4 28,a 5 29]) (q (.jg [5] [m 30 0,m 31 0,m 32 4,m 33 0,o 34 (N 33),o 35 (F 0 34),o 36 (F 0 35),o 37 (L 1 36),m 38 3,o 39 (.sliceS (.t 37) (.some (.t 38)) .none),o 40 (N 30),o 41 (F 1 40),o 42 (F 1 41)] (.one (n (S 1 42 32)) (.one (o 43 (N 31)) (.one (o 44 (F 0 43)) (.one (o 45 (F 0 44)) (.one (n (S 1 45 39)) .done)))))) (q (r [2] [m 46 5,o 47 (BI .eql 46 0),a 2 47]) (x [2])))))))),[]⟩
def mO:na:=⟨26,[.inl 2],(q (r [0] [o 2 (AB false)]) (q (.jg [0] [m 3 0,m 4 0,o 5 (N 4),o 6 (F 0 5)] (.one (o 7 (.call 186 [b true])) (.one (o 8 (SB .add #[34,44,34,115,116,97,116,117,115,34,58,34] 7)) (.one (o 9 (CC 185 6 8)) (.one (o 10 (N 3)) (.one (o 11 (F 1 10)) (.one (o 12 (F 0 11)) (.one (n (S 1 12 9)) .done)))))))) (q (.jg [2] [m 13 0,o 14 (N 13),o 15 (F 1 14),o 16 (F 0 15),o 17 (L 1 16),m 18 17,h 18 19 (M 0),h 18 20 (N 19),h 18 21 (F 0 20)] (.one (h 18 22 (.call 186 [b false])) (.one (h 18 23 (SB .add #[34,44,34,115,116,97,116,117,115,34,58,34] 22)) (.one (h 18 24 (CC 185 21 23)) (.one (o 25 (O 18 24)) (.one (a 2 25) .done)))))) (x [2])))),[]⟩
def kO:na:=⟨25,[.inl 2],(q (r [0] [o 2 (AB false)]) (q (q (r [0,9] [m 5 0,o 6 (N 5),o 7 (F 0 6),o 8 (CS 185 7 #[34,44,34,98,111,100,121,34,58]),o 9 (U 8)]) (w 9 (q (r [2] [o 2 (AB false)]) (x [2])) z)) (q (r [0,3,4] [m 11 0,o 12 (N 11),o 13 (F 0 12),o 14 (F 0 13),o 15 (L 1 14),o 16 (CS 84 15 #[125]),m 10 16,o 17 (E 10 0),o 18 (E 10 1),a 3 17,a 4 18]) (q (r [4] [m 19 0,m 20 3,o 21 (N 19),o 22 (F 1 21),o 23 (F 2 22),n (S 1 23 20)]) (q (r [2] [m 24 4,a 2 24]) (x [2])))))),[]⟩
def PF:ka:=(q (q (r [0,4,5,18] [m 12 4,o 13 (N 12),o 14 (F 1 13),o 15 (L 1 14),m 16 0,o 17 (K 16),o 18 (B .lss 15 17)]) (w 18 z (.exit 0 [5]))) (.block 1 (q (r [0,4,5,6] [m 19 4,o 20 (C 117 19),a 6 20]) (q (q (r [0,4,5,6,23] [m 21 6,o 22 (.call 96 [s #[32,9,13,10],.t 21]),o 23 (BI .geq 22 0)]) (w 23 (q (r [0,4,5] [m 24 4,o 25 (N 24),o 26 (F 1 25),o 27 (L 1 26),o 28 (BI .add 27 1),o 29 (N 24),o 30 (F 1 29),n (S 1 30 28)]) (.exit 1 [0,4,5])) z)) (q (r [0,4,5,7,8] [m 32 4,m 33 6,o 34 (CC 118 32 33),o 35 (.callv (.t 34) []),m 31 35,o 36 (E 31 0),o 37 (E 31 1),o 7 (.alloc 203 [.flat (.int .u8 0),Z,J,J]),n (S 4 7 36),a 8 37]) (q (q (r [0,4,5,7,39] [m 38 8,o 39 (U 38)]) (w 39 (q (r [2,3] [o 2 (.asg (.c V)),o 3 (AI 7)]) (x [2,3])) z)) (r [0,4,5] [o 40 (.mvA 5),o 41 (LT 4 7),o 42 (.mksl false 1 4 [.flat (.int .u8 0),Z,J,J] [⟨0,⟨4,.t 41⟩⟩]),o 43 (.append false 4 (.t 40) (.t 42)),a 5 43])))))))
def eC:ka:=PF
def IH:=@Xa eC PF rfl
def GL:na:=⟨45,[.inl 2,.inl 3],(q (r [0] [o 2 (.asg (.c V)),o 3 (AI 0)]) (q (r [0,4] [m 9 0,o 10 (.build [Z,J] [⟨0,⟨1,.t 9⟩⟩]),o 11 (.box 201 2 (.t 10)),a 4 11]) (q (r [0,4,5] [o 5 (.asg (.c V))]) (q (k 0 [0,4,5] eC) (q (r [2,3] [m 44 5,a 2 44,o 3 (AI 0)]) (x [2,3])))))),[]⟩
def FL:na:=⟨34,[.inr ⟨2,⟨true,4⟩⟩,.inl 3],(q (r [0,2] [o 2 (.alloc 291 [.flat (.int .u8 0),Z,V,V]),o 3 (AI 0)]) (q (r [2,4,5] [m 10 0,o 11 (C 58 10),m 9 11,o 12 (E 9 0),o 13 (E 9 1),a 4 12,a 5 13]) (q (q (r [2,4,5,15] [m 14 5,o 15 (BI .neq 14 0)]) (w 15 (q (r [2,3] [o 16 (.build [.flat (.int .u8 0),Z,V,V] []),m 17 5,n (S 4 2 16),a 3 17]) (x [2,3])) z)) (q (q (r [2,4,6] [m 18 4,o 19 (C 282 18),a 6 19]) (.block 0 (q (r [2,4,6,20] [m 21 6,o 22 (BI .eql 21 0),a 20 22]) (w 20 (q (r [2,3] [o 23 (.build [.flat (.int .u8 0),Z,V,V] []),n (S 4 2 23),o 3 (AI 7)]) (x [2,3])) (q (r [2,4,24] [m 25 6,o 26 (BI .gtr 25 32),a 24 26]) (w 24 (q (r [2,3] [o 27 (.build [.flat (.int .u8 0),Z,V,V] []),n (S 4 2 27),o 3 (AI 8)]) (x [2,3])) z)))))) (q (r [2,7] [m 29 4,o 30 (C 283 29),m 28 30,o 31 (E 28 0),o 32 (E 28 1),o 7 (.alloc 291 [.flat (.int .u8 0),Z,V,V]),n (S 4 7 31),a 8 32]) (q (r [2,3] [o 33 (LT 4 7),n (S 4 2 33),o 3 (AI 0)]) (x [2,3]))))))),[]⟩
def QF:ka:=(q (q (r [0,2,4,5,39] [m 26 0,m 27 5,o 28 (Y 4 26 27),o 29 (F 0 28),o 30 (L 1 29),o 31 (BU .neq 30 93),m 32 31,g 32 33 (M 0),g 32 34 (M 5),g 32 35 (Y 4 33 34),g 32 36 (F 0 35),g 32 37 (L 1 36),g 32 38 (BU .neq 37 125),o 39 (P 32 38)]) (w 39 z (.exit 0 [2,4,5]))) (.block 1 (q (q (r [0,2,4,5,45] [m 40 0,m 41 5,o 42 (Y 4 40 41),o 43 (F 0 42),o 44 (L 1 43),o 45 (BU .eql 44 44)]) (w 45 (r [0,2,4,5] [m 46 5,o 47 (BI .add 46 1),a 5 47]) z)) (q (q (r [0,2,4,5,50] [o 48 (F 0 4),o 49 (L 1 48),o 50 (BU .eql 49 123)]) (w 50 (q (.kb [0,2,4,5] [o 51 (F 2 4),o 52 (.loadA (.t 51)),m 53 0,m 54 5,o 55 (Y 4 53 54),o 56 (F 1 55),o 57 (L 1 56),o 58 (.mksl false 1 1 [Z] [⟨0,⟨1,.t 57⟩⟩])] [o 59 (.append false 1 (.t 52) (.t 58)),o 60 (F 2 4),n (S 1 60 59)]) (r [0,2,4,5] [m 61 5,o 62 (BI .add 61 2),a 5 62])) z)) (q (r [0,2,4,5,6,7] [m 64 0,m 65 5,o 66 (.slice 4 (.t 64) (.some (.t 65)) .none),o 67 (C 283 66),m 63 67,o 68 (E 63 0),o 69 (E 63 1),o 6 (.alloc 291 [.flat (.int .u8 0),Z,V,V]),n (S 4 6 68),a 7 69]) (q (r [0,2,4,5,7] [o 70 (F 3 4),o 71 (.loadA (.t 70)),o 72 (LT 4 6),o 73 (.mksl false 1 4 [.flat (.int .u8 0),Z,V,V] [⟨0,⟨4,.t 72⟩⟩]),o 74 (.append false 4 (.t 71) (.t 73)),o 75 (F 3 4),n (S 1 75 74)]) (r [0,2,4,5] [m 76 5,m 77 7,o 78 (B .add 76 77),a 5 78])))))))
def Hq:ka:=QF
def jw:=@Xa Hq QF rfl
def HL:na:=⟨82,[.inr ⟨2,⟨true,4⟩⟩,.inl 3],(q (r [0,2] [o 2 (.alloc 291 [.flat (.int .u8 0),Z,V,V]),o 3 (AI 0)]) (q (.jg [0,2,4] [m 8 0,o 9 (.Ji 4 (.t 8) (i 0)),o 10 (F 0 9),o 11 (L 1 10),m 12 0,o 13 (.Ji 4 (.t 12) (i 0)),o 14 (F 1 13),o 15 (L 1 14),o 16 (.build [.flat (.int .u8 0),Z,V,V] [⟨0,⟨1,.t 11⟩⟩,⟨1,⟨1,.t 15⟩⟩])] (.one (o 4 (.alloc 291 [.flat (.int .u8 0),Z,V,V])) (.one (n (S 4 4 16)) .done))) (q (q (r [0,2,4,24] [o 17 (F 0 4),o 18 (L 1 17),o 19 (BU .neq 18 91),m 20 19,g 20 21 (F 0 4),g 20 22 (L 1 21),g 20 23 (BU .neq 22 123),o 24 (P 20 23)]) (w 24 (q (r [2,3] [o 25 (LT 4 4),n (S 4 2 25),o 3 (AI 1)]) (x [2,3])) z)) (q (r [0,2,4,5] [o 5 (AI 1)]) (q (k 0 [0,2,4,5] Hq) (q (r [2,3] [o 79 (LT 4 4),m 80 5,o 81 (BI .add 80 1),n (S 4 2 79),a 3 81]) (x [2,3]))))))),[]⟩
def NL:na:=⟨22,[.inl 2],(q (r [0] [o 2 (AU 0)]) (q (q (.kb [0,12] [m 3 0,o 4 (N 3),o 5 (F 1 4),o 6 (L 1 5),m 7 0,o 8 (N 7),o 9 (F 0 8),o 10 (L 1 9),o 11 (K 10)] [o 12 (B .geq 6 11)]) (w 12 (q (r [2] [o 2 (AU 0)]) (x [2])) z)) (q (.kb [2] [m 13 0,o 14 (N 13),o 15 (F 0 14),o 16 (L 1 15),m 17 0,o 18 (N 17),o 19 (F 1 18),o 20 (L 1 19)] [o 21 (D 16 20),a 2 21]) (x [2])))),[]⟩
def LL:na:=⟨27,[.inl 4],(q (r [0,1] [o 4 (.asg (.c (.flat .nilFunc)))]) (q (.block 0 (q (r [0,1,5] [m 6 1,o 7 (.call 96 [s #[123,125,91,93,58,44],.t 6]),o 8 (BI .geq 7 0),a 5 8]) (w 5 (q (r [4] [m 9 0,o 10 (.mkt 378 [.t 9]),a 4 10]) (x [4])) (q (r [0,1,11] [m 12 1,o 13 (BU .eql 12 34),a 11 13]) (w 11 (q (r [4] [m 14 0,o 15 (.mkt 380 [.t 14]),a 4 15]) (x [4])) (q (r [0,16] [m 17 1,o 18 (BU .geq 17 97),m 19 18,g 19 20 (M 1),g 19 21 (BU .leq 20 122),o 22 (P 19 21),a 16 22]) (w 16 (q (r [4] [m 23 0,o 24 (.mkt 382 [.t 23]),a 4 24]) (x [4])) z))))))) (q (r [4] [m 25 0,o 26 (.mkt 384 [.t 25]),a 4 26]) (x [4])))),[]⟩
def KL:na:=⟨31,[.inr ⟨2,⟨true,4⟩⟩,.inl 3],(q (r [0,2] [o 2 (.alloc 203 [.flat (.int .u8 0),Z,J,J]),o 3 (AB false)]) (q (r [0,2] [m 4 0,o 5 (N 4),o 6 (F 1 5),o 7 (L 1 6),o 8 (BI .add 7 1),o 9 (N 4),o 10 (F 1 9),n (S 1 10 8)]) (q (.kb [2,3] [m 11 0,o 12 (N 11),o 13 (F 0 12),o 14 (L 1 13),m 15 0,o 16 (N 15),o 17 (F 1 16),o 18 (L 1 17),o 19 (BI .sub 18 1),o 20 (D 14 19),m 21 0,o 22 (N 21),o 23 (F 1 22),o 24 (L 1 23),o 25 (BI .sub 24 1),m 26 0,o 27 (N 26),o 28 (F 1 27),o 29 (L 1 28)] [o 30 (.build [.flat (.int .u8 0),Z,J,J] [⟨0,⟨1,.t 20⟩⟩,⟨2,⟨1,.t 25⟩⟩,⟨3,⟨1,.t 29⟩⟩]),n (S 4 2 30),o 3 (AB true)]) (x [2,3])))),[]⟩
def SF:ka:=(q (q (.kb [0,2,4,5,31] [m 22 0,o 23 (N 22),o 24 (F 1 23),o 25 (L 1 24),m 26 0,o 27 (N 26),o 28 (F 0 27),o 29 (L 1 28),o 30 (K 29)] [o 31 (B .lss 25 30)]) (w 31 z (.exit 0 [0,2,4,5]))) (.block 1 (q (.kb [0,2,4,5,6] [m 32 0,o 33 (N 32),o 34 (F 0 33),o 35 (L 1 34),m 36 0,o 37 (N 36),o 38 (F 1 37),o 39 (L 1 38)] [o 40 (D 35 39),a 6 40]) (.block 2 (q (r [0,2,4,5,6,84] [m 85 6,o 86 (BU .eql 85 34),a 84 86]) (w 84 (.exit 0 [0,2,4,5]) (q (r [0,2,4,5,6,87] [m 88 6,o 89 (BU .eql 88 92),a 87 89]) (w 87 (q (r [0,2,4,5,7,8] [m 91 0,o 92 (C 250 91),m 90 92,o 93 (E 90 0),o 94 (E 90 1),a 7 93,a 8 94]) (q (q (r [0,2,4,5,7,96] [m 95 8,o 96 (U 95)]) (w 96 (q (r [2,3] [o 97 (.build [.flat (.int .u8 0),Z,J,J] []),n (S 4 2 97),o 3 (AB false)]) (x [2,3])) z)) (r [0,2,4,5] [m 98 7,o 99 (C 159 98),o 100 (CC 45 4 99)]))) (q (r [0,2,4,5,101] [m 102 6,o 103 (BU .lss 102 32),a 101 103]) (w 101 (q (r [2,3] [o 104 (.build [.flat (.int .u8 0),Z,J,J] []),n (S 4 2 104),o 3 (AB false)]) (x [2,3])) (q (.kb [0,2,4,5,9,10] [m 42 0,o 43 (N 42),o 44 (F 0 43),o 45 (L 1 44),m 46 0,o 47 (N 46),o 48 (F 1 47),o 49 (L 1 48),o 50 (CC 225 45 49),m 41 50,o 51 (E 41 0),o 52 (E 41 1),m 9 51] [a 10 52]) (q (q (r [0,2,4,5,10,58] [m 53 9,o 54 (.bin .eql (.t 53) (.c (.flat (.int .i32 65533)))),m 55 54,g 55 56 (M 10),g 55 57 (BI .eql 56 1),o 58 (P 55 57)]) (w 58 (q (r [2,3] [o 59 (.build [.flat (.int .u8 0),Z,J,J] []),n (S 4 2 59),o 3 (AB false)]) (x [2,3])) z)) (q (.kb [0,2,4,5,10] [m 60 0,o 61 (N 60),o 62 (F 0 61),o 63 (L 1 62),m 64 0,o 65 (N 64),o 66 (F 1 65),o 67 (L 1 66),m 68 0,o 69 (N 68),o 70 (F 1 69),o 71 (L 1 70),m 72 10,o 73 (B .add 71 72)] [o 74 (.sliceS (.t 63) (.some (.t 67)) (.some (.t 73))),o 75 (CC 45 4 74)]) (r [0,2,4,5] [m 76 0,o 77 (N 76),o 78 (F 1 77),o 79 (L 1 78),m 80 10,o 81 (B .add 79 80),o 82 (N 76),o 83 (F 1 82),n (S 1 83 81)]))))))))))))))
def gC:ka:=SF
def mA:=@Xa gC SF rfl
def OL:na:=⟨130,[.inr ⟨2,⟨true,4⟩⟩,.inl 3],(q (r [0,2] [o 2 (.alloc 203 [.flat (.int .u8 0),Z,J,J]),o 3 (AB false)]) (q (r [0,2,4] [o 4 (.alloc 101 [.flat (.pointer .none),V])]) (q (r [0,2,4,5] [m 11 0,o 12 (N 11),o 13 (F 1 12),o 14 (L 1 13),a 5 14]) (q (r [0,2,4,5] [m 15 0,o 16 (N 15),o 17 (F 1 16),o 18 (L 1 17),o 19 (BI .add 18 1),o 20 (N 15),o 21 (F 1 20),n (S 1 21 19)]) (q z (q (k 0 [0,2,4,5] gC) (q (q (.kb [0,2,4,5,114] [m 105 0,o 106 (N 105),o 107 (F 1 106),o 108 (L 1 107),m 109 0,o 110 (N 109),o 111 (F 0 110),o 112 (L 1 111),o 113 (K 112)] [o 114 (B .eql 108 113)]) (w 114 (q (r [2,3] [o 115 (.build [.flat (.int .u8 0),Z,J,J] []),n (S 4 2 115),o 3 (AB false)]) (x [2,3])) z)) (q (r [0,2,4,5] [m 116 0,o 117 (N 116),o 118 (F 1 117),o 119 (L 1 118),o 120 (BI .add 119 1),o 121 (N 116),o 122 (F 1 121),n (S 1 122 120)]) (q (.jg [2,3] [m 124 5,m 125 0,o 126 (N 125),o 127 (F 1 126)] (.two (o 123 (C 46 4)) (.one (o 128 (L 1 127)) (.one (o 129 (.build [.flat (.int .u8 0),Z,J,J] [⟨0,⟨1,u 34⟩⟩,⟨1,⟨1,.t 123⟩⟩,⟨2,⟨1,.t 124⟩⟩,⟨3,⟨1,.t 128⟩⟩])) (.one (n (S 4 2 129)) (.one (o 3 (AB true)) .done)))) (.one (o 128 (L 1 127)) (.one (o 123 (C 46 4)) (.one (o 129 (.build [.flat (.int .u8 0),Z,J,J] [⟨0,⟨1,u 34⟩⟩,⟨1,⟨1,.t 123⟩⟩,⟨2,⟨1,.t 124⟩⟩,⟨3,⟨1,.t 128⟩⟩])) (.one (n (S 4 2 129)) (.one (o 3 (AB true)) .done))))))) (x [2,3])))))))))),[]⟩
def UF:ka:=(q (r [0,2,4,11,12,13] [o 13 (BI .lss 12 3)]) (q (w 13 z (.exit 0 [2])) (q (.block 1 (q (r [0,2,4,6,11,12] [o 14 (.Yj false 3 1 (.t 11) (.t 12)),a 6 14]) (q (r [0,2,4,6,11,12,22] [m 15 0,o 16 (N 15),o 17 (F 0 16),o 18 (L 1 17),m 19 4,o 20 (.sliceS (.t 18) (.some (.t 19)) .none),m 21 6,o 22 (CC 80 20 21)]) (w 22 (q (r [0,2,4,6] [m 23 0,o 24 (N 23),o 25 (F 1 24),o 26 (L 1 25),m 27 6,o 28 (K 27),o 29 (B .add 26 28),o 30 (N 23),o 31 (F 1 30),n (S 1 31 29)]) (q (r [2,3] [m 32 6,m 33 4,m 34 0,o 35 (N 34),o 36 (F 1 35),o 37 (L 1 36),o 38 (.build [.flat (.int .u8 0),Z,J,J] [⟨0,⟨1,u 97⟩⟩,⟨1,⟨1,.t 32⟩⟩,⟨2,⟨1,.t 33⟩⟩,⟨3,⟨1,.t 37⟩⟩]),n (S 4 2 38),o 3 (AB true)]) (x [2,3]))) z)))) (r [0,2,4,11,12] [o 39 (BI .add 12 1),m 12 39]))))
def zK:ka:=UF
def JH:=@Xa zK UF rfl
def RL:na:=⟨41,[.inr ⟨2,⟨true,4⟩⟩,.inl 3],(q (r [0,2] [o 2 (.alloc 203 [.flat (.int .u8 0),Z,J,J]),o 3 (AB false)]) (q (r [0,2,4] [m 7 0,o 8 (N 7),o 9 (F 1 8),o 10 (L 1 9),a 4 10]) (q (q (r [0,2,4,11,12] [o 11 (.build [Z,Z,Z] [⟨0,⟨1,s #[116,114,117,101]⟩⟩,⟨1,⟨1,s #[102,97,108,115,101]⟩⟩,⟨2,⟨1,s #[110,117,108,108]⟩⟩]),o 12 (.mv (i 0))]) (k 0 [0,2,4,11,12] zK)) (q (r [2,3] [o 40 (.build [.flat (.int .u8 0),Z,J,J] []),n (S 4 2 40),o 3 (AB false)]) (x [2,3]))))),[]⟩
def ML:na:=⟨65,[.inr ⟨2,⟨true,4⟩⟩,.inl 3],(q (r [0,2] [o 2 (.alloc 203 [.flat (.int .u8 0),Z,J,J]),o 3 (AB false)]) (q (r [0,2,4] [m 6 0,o 7 (N 6),o 8 (F 1 7),o 9 (L 1 8),a 4 9]) (q (r [0,2,4] [m 10 0,o 11 (CS 251 10 #[45])]) (q (q (r [0,2,4,19] [m 12 0,o 13 (CS 251 12 #[48]),o 14 (U 13),m 15 14,g 15 16 (M 0),g 15 17 (C 252 16),g 15 18 (BI .eql 17 0),o 19 (P 15 18)]) (w 19 (q (r [2,3] [o 20 (.build [.flat (.int .u8 0),Z,J,J] []),n (S 4 2 20),o 3 (AB false)]) (x [2,3])) z)) (q (r [0,2,4,5] [m 21 0,o 22 (N 21),o 23 (F 1 22),o 24 (L 1 23),a 5 24]) (q (q (r [0,2,4,5,31] [m 25 0,o 26 (CS 251 25 #[46]),m 27 26,g 27 28 (M 0),g 27 29 (C 252 28),g 27 30 (BI .gtr 29 0),o 31 (P 27 30)]) (w 31 (r [0,2,4,5] [m 32 0,o 33 (N 32),o 34 (F 1 33),o 35 (L 1 34),a 5 35]) z)) (q (r [0,2,4,5] [m 36 0,m 37 5,o 38 (N 36),o 39 (F 1 38),n (S 1 39 37)]) (q (q (r [0,2,4,5,41] [m 40 0,o 41 (CS 251 40 #[101,69])]) (w 41 (q (r [0,2,4,5] [m 42 0,o 43 (CS 251 42 #[43,45])]) (q (r [0,2,4,5,46] [m 44 0,o 45 (C 252 44),o 46 (BI .gtr 45 0)]) (w 46 (r [0,2,4,5] [m 47 0,o 48 (N 47),o 49 (F 1 48),o 50 (L 1 49),a 5 50]) z))) z)) (q (r [0,2,4,5] [m 51 0,m 52 5,o 53 (N 51),o 54 (F 1 53),n (S 1 54 52)]) (q (r [2,3] [m 55 0,o 56 (N 55),o 57 (F 0 56),o 58 (L 1 57),m 59 4,m 60 5,o 61 (.sliceS (.t 58) (.some (.t 59)) (.some (.t 60))),m 62 4,m 63 5,o 64 (.build [.flat (.int .u8 0),Z,J,J] [⟨0,⟨1,u 48⟩⟩,⟨1,⟨1,.t 61⟩⟩,⟨2,⟨1,.t 62⟩⟩,⟨3,⟨1,.t 63⟩⟩]),n (S 4 2 64),o 3 (AB true)]) (x [2,3]))))))))))),[]⟩
def JL:na:=⟨85,[.inl 2,.inl 3],(q (r [0] [o 2 (.asg (.c (.flat (.int .i32 0)))),o 3 (AB false)]) (q (q (.kb [0,18] [m 8 0,o 9 (N 8),o 10 (F 1 9),o 11 (L 1 10),o 12 (BI .add 11 1),m 13 0,o 14 (N 13),o 15 (F 0 14),o 16 (L 1 15),o 17 (K 16)] [o 18 (B .lss 12 17)]) (w 18 (q (.kb [0,4] [m 19 0,o 20 (N 19),o 21 (F 0 20),o 22 (L 1 21),m 23 0,o 24 (N 23),o 25 (F 1 24),o 26 (L 1 25),o 27 (BI .add 26 1)] [o 28 (D 22 27),o 29 (.call 96 [s #[34,92,47,98,102,110,114,116],.t 28]),a 4 29]) (q (r [0,4,31] [m 30 4,o 31 (BI .geq 30 0)]) (w 31 (q (r [4] [m 32 0,o 33 (N 32),o 34 (F 1 33),o 35 (L 1 34),o 36 (BI .add 35 2),o 37 (N 32),o 38 (F 1 37),n (S 1 38 36)]) (q (r [2,3] [m 39 4,o 40 (.idx (s #[34,92,47,8,12,10,13,9]) (.t 39)),o 41 (.conv .i32 (.t 40)),a 2 41,o 3 (AB true)]) (x [2,3]))) z))) z)) (q (r [0,5,6] [m 43 0,o 44 (C 284 43),m 42 44,o 45 (E 42 0),o 46 (E 42 1),a 5 45,a 6 46]) (q (q (r [0,5,6,56] [m 47 6,o 48 (U 47),m 49 48,h 49 50 (M 5),h 49 51 (.bin .lss (.t 50) (.c (.flat (.int .i32 55296)))),o 52 (O 49 51),m 53 52,h 53 54 (M 5),h 53 55 (.bin .gtr (.t 54) (.c (.flat (.int .i32 57343)))),o 56 (O 53 55)]) (w 56 (q (r [2,3] [m 57 5,m 58 6,a 2 57,a 3 58]) (x [2,3])) z)) (q (r [5,6,7] [m 60 0,o 61 (C 284 60),m 59 61,o 62 (E 59 0),o 63 (E 59 1),a 7 62,a 6 63]) (q (q (r [5,7,77] [m 64 6,o 65 (U 64),m 66 65,h 66 67 (M 5),h 66 68 (.bin .gtr (.t 67) (.c (.flat (.int .i32 56319)))),o 69 (O 66 68),m 70 69,h 70 71 (M 7),h 70 72 (.bin .lss (.t 71) (.c (.flat (.int .i32 56320)))),o 73 (O 70 72),m 74 73,h 74 75 (M 7),h 74 76 (.bin .gtr (.t 75) (.c (.flat (.int .i32 57343)))),o 77 (O 74 76)]) (w 77 (q (r [2,3] [o 2 (.asg (.c (.flat (.int .i32 0)))),o 3 (AB false)]) (x [2,3])) z)) (q (r [2,3] [m 78 5,o 79 (.bin .sub (.t 78) (.c (.flat (.int .i32 55296)))),o 80 (.bin .shl (.t 79) (.c (.flat (.int .u64 10)))),o 81 (.bin .add (.c (.flat (.int .i32 65536))) (.t 80)),m 82 7,o 83 (.bin .sub (.t 82) (.c (.flat (.int .i32 56320)))),o 84 (B .add 81 83),a 2 84,o 3 (AB true)]) (x [2,3])))))))),[]⟩
def PL:na:=⟨36,[.inl 4],(q (r [0,1] [o 4 (AB false)]) (q (q (.kb [0,28] [m 5 0,o 6 (N 5),o 7 (F 1 6),o 8 (L 1 7),m 9 0,o 10 (N 9),o 11 (F 0 10),o 12 (L 1 11),o 13 (K 12),o 14 (B .geq 8 13),m 15 14,h 15 16 (M 1),h 15 17 (M 0),h 15 18 (N 17),h 15 19 (F 0 18),h 15 20 (L 1 19),h 15 21 (M 0),h 15 22 (N 21),h 15 23 (F 1 22),h 15 24 (L 1 23),h 15 25 (D 20 24)] [h 15 26 (CC 96 16 25),h 15 27 (BI .lss 26 0),o 28 (O 15 27)]) (w 28 (q (r [4] [o 4 (AB false)]) (x [4])) z)) (q (r [] [m 29 0,o 30 (N 29),o 31 (F 1 30),o 32 (L 1 31),o 33 (BI .add 32 1),o 34 (N 29),o 35 (F 1 34),n (S 1 35 33)]) (q (r [4] [o 4 (AB true)]) (x [4]))))),[]⟩
def RF:ka:=(q (q (r [0,3,16] [m 11 4,o 12 (BU .geq 11 48),m 13 12,g 13 14 (M 4),g 13 15 (BU .leq 14 57),o 16 (P 13 15)]) (w 16 z (.exit 0 [0,3]))) (q (.block 1 (r [0,3] [m 19 0,o 20 (N 19),o 21 (F 1 20),o 22 (L 1 21),o 23 (BI .add 22 1),o 24 (N 19),o 25 (F 1 24),n (S 1 25 23)])) (r [0,3,4] [m 17 0,o 18 (C 117 17),a 4 18])))
def fC:ka:=RF
def kA:=@Xa fC RF rfl
def IL:na:=⟨32,[.inl 2],(q (r [0] [o 2 (AI 0)]) (q (r [0,3] [m 5 0,o 6 (N 5),o 7 (F 1 6),o 8 (L 1 7),a 3 8]) (q (q (r [0,3,4] [m 9 0,o 10 (C 117 9),a 4 10]) (k 0 [0,3,4] fC)) (q (r [2] [m 26 0,o 27 (N 26),o 28 (F 1 27),o 29 (L 1 28),m 30 3,o 31 (B .sub 29 30),a 2 31]) (x [2]))))),[]⟩
def TF:ka:=(q (r [0,4,31,32] [o 32 (BI .lss 31 4)]) (q (w 32 z (.exit 0 [0,4])) (q (.block 1 (q (r [0,4,5,31] [m 33 31,a 5 33]) (q (.kb [0,4,6,31] [m 34 0,o 35 (N 34),o 36 (F 0 35),o 37 (L 1 36),m 38 0,o 39 (N 38),o 40 (F 1 39),o 41 (L 1 40),o 42 (BI .add 41 2),m 43 5,o 44 (B .add 42 43)] [o 45 (D 37 44),a 6 45]) (.block 2 (q (r [0,4,6,31,46] [m 47 6,o 48 (BU .geq 47 48),m 49 48,g 49 50 (M 6),g 49 51 (BU .leq 50 57),o 52 (P 49 51),a 46 52]) (w 46 (r [0,4,31] [m 53 4,o 54 (.bin .shl (.t 53) (.c (.flat (.int .u64 4)))),m 55 6,o 56 (BU .sub 55 48),o 57 (.conv .i32 (.t 56)),o 58 (B .or 54 57),a 4 58]) (q (r [0,4,6,31,59] [m 60 6,o 61 (BU .or 60 32),o 62 (BU .geq 61 97),m 63 62,g 63 64 (M 6),g 63 65 (BU .or 64 32),g 63 66 (BU .leq 65 102),o 67 (P 63 66),a 59 67]) (w 59 (r [0,4,31] [m 68 4,o 69 (.bin .shl (.t 68) (.c (.flat (.int .u64 4)))),m 70 6,o 71 (BU .or 70 32),o 72 (BU .sub 71 97),o 73 (BU .add 72 10),o 74 (.conv .i32 (.t 73)),o 75 (B .or 69 74),a 4 75]) (q (r [2,3] [o 2 (.asg (.c (.flat (.int .i32 0)))),o 3 (AB false)]) (x [2,3])))))))))) (r [0,4,31] [o 76 (BI .add 31 1),m 31 76]))))
def Gu:ka:=TF
def nA:=@Xa Gu TF rfl
def QL:na:=⟨85,[.inl 2,.inl 3],(q (r [0] [o 2 (.asg (.c (.flat (.int .i32 0)))),o 3 (AB false)]) (q (q (.kb [0,30] [m 7 0,o 8 (N 7),o 9 (F 0 8),o 10 (L 1 9),m 11 0,o 12 (N 11),o 13 (F 1 12),o 14 (L 1 13),o 15 (.sliceS (.t 10) (.some (.t 14)) .none),o 16 (CS 80 15 #[92,117]),o 17 (U 16),m 18 17,h 18 19 (M 0),h 18 20 (N 19),h 18 21 (F 0 20),h 18 22 (L 1 21),h 18 23 (K 22),h 18 24 (M 0),h 18 25 (N 24),h 18 26 (F 1 25),h 18 27 (L 1 26)] [h 18 28 (B .sub 23 27),h 18 29 (BI .lss 28 6),o 30 (O 18 29)]) (w 30 (q (r [2,3] [o 2 (.asg (.c (.flat (.int .i32 0)))),o 3 (AB false)]) (x [2,3])) z)) (q (r [0,4] [o 4 (.asg (.c (.flat (.int .i32 0))))]) (q (q (r [0,4,31] [o 31 (.mv (i 0))]) (k 0 [0,4,31] Gu)) (q (r [4] [m 77 0,o 78 (N 77),o 79 (F 1 78),o 80 (L 1 79),o 81 (BI .add 80 6),o 82 (N 77),o 83 (F 1 82),n (S 1 83 81)]) (q (r [2,3] [m 84 4,a 2 84,o 3 (AB true)]) (x [2,3]))))))),[]⟩
def jR:ka:=(r [2,3,4,5] [a 5 8])
def TQ:ka:=(.block 1 (q (q (r [2,3,4,5,10] [m 9 5,o 10 (.bin .lss (.t 9) (.c (.flat (.int .i32 0))))]) (w 10 (q (r [] [n (.store 1 (.t 2) (s #[])),n (.store 1 (.t 3) (i 7))]) (x [])) z)) (r [] [m 11 5,o 12 (C 159 11),o 13 (CC 45 4 12)])))
def TL:na:=⟨15,[.inr ⟨2,⟨false,1⟩⟩,.inr ⟨3,⟨false,1⟩⟩],(q (r [0,2,3] [o 2 (.alloc 9 [Z]),o 3 (.alloc 24 [J])]) (q (r [0,2,3,4] [o 4 (.alloc 101 [.flat (.pointer .none),V])]) (q (q (r [2,3,4,7] [m 6 0,o 7 (C 193 6)]) (.block 0 (.range 120 0 [2,3,4] (.t 7)))) (q (r [2,3] [o 14 (C 46 4),n (S 1 2 14),n (.store 1 (.t 3) (i 0))]) (x [2,3]))))),[([8],jR,TQ)]⟩
def VF:ka:=(q (r [3,7,8,9,10] [o 10 (B .lss 9 8)]) (q (w 10 z (.exit 0 [3])) (q (.block 1 (q (r [3,5,7,8,9] [o 11 (Y 1 7 9),o 12 (L 1 11),a 5 12]) (q (r [3,5,7,8,9,14] [m 13 5,o 14 (C 248 13)]) (.block 2 (q (r [3,5,7,8,9,14,15] [o 16 (BI .eql 14 1),a 15 16]) (w 15 (q (r [3,5,7,8,9] [o 17 (.call 44 [.t 3,u 92])]) (r [3,7,8,9] [m 18 5,o 19 (C 249 18),o 20 (CC 44 3 19)])) (q (r [3,5,7,8,9,14,21] [o 22 (BI .eql 14 2),a 21 22]) (w 21 (r [3,7,8,9] [m 23 5,o 24 (.bin .shr (.t 23) (.c (.flat (.int .u64 8)))),o 25 (.conv .u8 (.t 24)),o 26 (C 234 25),o 27 (SB .add #[92,117] 26),m 28 5,o 29 (.conv .u8 (.t 28)),o 30 (C 234 29),o 31 (B .add 27 30),o 32 (CC 45 3 31)]) (q (r [3,5,7,8,9,33] [o 34 (BI .eql 14 0),a 33 34]) (w 33 (r [3,7,8,9] [m 35 5,o 36 (C 159 35),o 37 (CC 45 3 36)]) z)))))))))) (r [3,7,8,9] [o 38 (BI .add 9 1),m 9 38]))))
def hC:ka:=VF
def oA:=@Xa hC VF rfl
def UL:na:=⟨40,[.inl 2],(q (r [0] [o 2 (AS #[])]) (q (r [0,3] [o 3 (.alloc 101 [.flat (.pointer .none),V])]) (q (q (r [3,7,8,9] [m 6 0,o 7 (C 231 6),o 8 (W 7),o 9 (.mv (i 0))]) (k 0 [3,7,8,9] hC)) (q (r [2] [o 39 (C 46 3),a 2 39]) (x [2]))))),[]⟩
def XL:na:=⟨26,[.inl 2],(q (r [0] [o 2 (AI 0)]) (q (.block 0 (q (r [0,3] [m 4 0,o 5 (C 249 4),o 6 (BU .gtr 5 0),a 3 6]) (w 3 (q (r [2] [o 2 (AI 1)]) (x [2])) (q (q (r [0,7] [m 8 0,o 9 (.bin .lss (.t 8) (.c (.flat (.int .i32 32)))),a 7 9]) (w 7 z (q (r [0,7] [m 10 0,o 11 (.bin .eql (.t 10) (.c (.flat (.int .i32 38)))),a 7 11]) (w 7 z (q (r [0,7] [m 12 0,o 13 (.bin .eql (.t 12) (.c (.flat (.int .i32 60)))),a 7 13]) (w 7 z (q (r [0,7] [m 14 0,o 15 (.bin .eql (.t 14) (.c (.flat (.int .i32 62)))),a 7 15]) (w 7 z (q (r [0,7] [m 16 0,o 17 (.bin .geq (.t 16) (.c (.flat (.int .i32 127)))),m 18 17,g 18 19 (M 0),g 18 20 (.bin .lss (.t 19) (.c (.flat (.int .i32 160)))),o 21 (P 18 20),a 7 21]) (w 7 z (q (r [0,7] [m 22 0,o 23 (.bin .eql (.t 22) (.c (.flat (.int .i32 8232)))),a 7 23]) (w 7 z (r [7] [m 24 0,o 25 (.bin .eql (.t 24) (.c (.flat (.int .i32 8233)))),a 7 25]))))))))))))) (w 7 (q (r [2] [o 2 (AI 2)]) (x [2])) z))))) (q (r [2] [o 2 (AI 0)]) (x [2])))),[]⟩
def YL:na:=⟨19,[.inl 2],(q (r [0] [o 2 (AU 0)]) (q (q (r [0,3] [m 3 0]) (.block 0 (q (q (r [0,3,4] [o 5 (.bin .eql (.t 3) (.c (.flat (.int .i32 34)))),a 4 5]) (w 4 z (r [0,3,4] [o 6 (.bin .eql (.t 3) (.c (.flat (.int .i32 92)))),a 4 6]))) (w 4 (q (r [2] [m 7 0,o 8 (.conv .u8 (.t 7)),a 2 8]) (x [2])) (q (r [3,9] [o 10 (.bin .eql (.t 3) (.c (.flat (.int .i32 8)))),a 9 10]) (w 9 (q (r [2] [o 2 (AU 98)]) (x [2])) (q (r [3,11] [o 12 (.bin .eql (.t 3) (.c (.flat (.int .i32 12)))),a 11 12]) (w 11 (q (r [2] [o 2 (AU 102)]) (x [2])) (q (r [3,13] [o 14 (.bin .eql (.t 3) (.c (.flat (.int .i32 10)))),a 13 14]) (w 13 (q (r [2] [o 2 (AU 110)]) (x [2])) (q (r [3,15] [o 16 (.bin .eql (.t 3) (.c (.flat (.int .i32 13)))),a 15 16]) (w 15 (q (r [2] [o 2 (AU 114)]) (x [2])) (q (r [17] [o 18 (.bin .eql (.t 3) (.c (.flat (.int .i32 9)))),a 17 18]) (w 17 (q (r [2] [o 2 (AU 116)]) (x [2])) z)))))))))))))) (q (r [2] [o 2 (AU 0)]) (x [2])))),[]⟩
def VL:na:=⟨4,[.inl 2],(q (r [1] [o 1 (.box 9 1 (.t 0)),o 2 (.asg (.c (.flat .nilFunc)))]) (q (r [2] [o 3 (.clos 253 [.t 1]),a 2 3]) (x [2]))),[]⟩
def WF:ka:=(q (q (r [0,1,3,10] [m 7 3,o 8 (L 1 1),o 9 (K 8),o 10 (B .lss 7 9)]) (w 10 z (.exit 0 []))) (.block 1 (q (r [0,1,3,4,5,6] [o 12 (L 1 1),m 13 3,o 14 (CC 254 12 13),m 11 14,o 15 (E 11 0),o 16 (E 11 1),o 17 (E 11 2),a 4 15,a 5 16,a 6 17]) (q (q (r [0,1,3,4,5,19] [m 18 6,o 19 (U 18)]) (w 19 (q (r [] [m 20 0,o 21 (.callv (.t 20) [.c (.flat (.int .i32 (.negSucc 0)))])]) (x [])) z)) (q (q (r [0,1,3,5,25] [m 22 0,m 23 4,o 24 (.callv (.t 22) [.t 23]),o 25 (U 24)]) (w 25 (x []) z)) (r [0,1,3] [m 26 3,m 27 5,o 28 (B .add 26 27),a 3 28]))))))
def iC:ka:=WF
def QT:=@Xa iC WF rfl
def WL:na:=⟨29,[],(q (r [0,1,3] [o 3 (AI 0)]) (k 0 [0,1,3] iC)),[]⟩
def SL:na:=⟨47,[.inl 4,.inl 5,.inl 6],(q (r [0,1] [o 4 (.asg (.c (.flat (.int .i32 0)))),o 5 (AI 0),o 6 (AB false)]) (q (q (r [0,1,14] [m 7 1,o 8 (BI .lss 7 0),m 9 8,h 9 10 (M 1),h 9 11 (M 0),h 9 12 (K 11),h 9 13 (B .geq 10 12),o 14 (O 9 13)]) (w 14 (q (r [4,5,6] [o 4 (.asg (.c (.flat (.int .i32 0)))),o 5 (AI 0),o 6 (AB false)]) (x [4,5,6])) z)) (q (q (r [0,1,18] [m 15 0,m 16 1,o 17 (D 15 16),o 18 (BU .eql 17 92)]) (w 18 (q (r [4,5,6] [m 19 0,m 20 1,o 21 (CC 285 19 20),o 22 (E 21 0),o 23 (E 21 1),o 24 (E 21 2),a 4 22,a 5 23,a 6 24]) (x [4,5,6])) z)) (q (r [4,5] [m 26 0,m 27 1,o 28 (CC 225 26 27),m 25 28,o 29 (E 25 0),o 30 (E 25 1),a 4 29,a 5 30]) (q (q (r [4,5,44] [m 31 4,o 32 (.bin .lss (.t 31) (.c (.flat (.int .i32 32)))),m 33 32,h 33 34 (M 4),h 33 35 (.bin .eql (.t 34) (.c (.flat (.int .i32 34)))),o 36 (O 33 35),m 37 36,h 37 38 (M 4),h 37 39 (.bin .eql (.t 38) (.c (.flat (.int .i32 65533)))),h 37 40 (M 39),g 40 41 (M 5),g 40 42 (BI .eql 41 1),h 37 43 (P 40 42),o 44 (O 37 43)]) (w 44 (q (r [4,5,6] [o 4 (.asg (.c (.flat (.int .i32 0)))),o 5 (AI 0),o 6 (AB false)]) (x [4,5,6])) z)) (q (r [4,5,6] [m 45 4,m 46 5,a 4 45,a 5 46,o 6 (AB true)]) (x [4,5,6]))))))),[]⟩
def ZL:na:=⟨38,[.inl 4,.inl 5],(q (r [0,1] [o 4 (.asg (.c (.flat (.int .i32 0)))),o 5 (AB false)]) (q (q (r [0,1,13] [m 10 0,m 11 1,o 12 (.call 85 [.t 10,s #[92,117],.t 11]),o 13 (U 12)]) (w 13 (q (r [4,5] [o 4 (.asg (.c (.flat (.int .i32 0)))),o 5 (AB false)]) (x [4,5])) z)) (q (r [0,1,6,7] [m 15 0,m 16 1,o 17 (BI .add 16 2),o 18 (CC 213 15 17),m 14 18,o 19 (E 14 0),o 20 (E 14 1),a 6 19,a 7 20]) (q (r [6,7,8,9] [m 22 0,m 23 1,o 24 (BI .add 23 4),o 25 (CC 213 22 24),m 21 25,o 26 (E 21 0),o 27 (E 21 1),a 8 26,a 9 27]) (q (r [4,5] [m 28 6,o 29 (.conv .i32 (.t 28)),o 30 (.bin .shl (.t 29) (.c (.flat (.int .u64 8)))),m 31 8,o 32 (.conv .i32 (.t 31)),o 33 (B .or 30 32),m 34 7,m 35 34,g 35 36 (M 9),o 37 (P 35 36),a 4 33,a 5 37]) (x [4,5])))))),[]⟩
def iN:na:=⟨44,[.inl 4,.inl 5],(q (r [0,1] [o 4 (AU 0),o 5 (AB false)]) (q (q (r [0,1,18] [m 10 1,o 11 (BI .lss 10 0),m 12 11,h 12 13 (M 1),h 12 14 (M 0),h 12 15 (K 14),h 12 16 (BI .sub 15 2),h 12 17 (B .gtr 13 16),o 18 (O 12 17)]) (w 18 (q (r [4,5] [o 4 (AU 0),o 5 (AB false)]) (x [4,5])) z)) (q (r [0,1,6,7] [m 20 0,m 21 1,o 22 (D 20 21),o 23 (C 272 22),m 19 23,o 24 (E 19 0),o 25 (E 19 1),a 6 24,a 7 25]) (q (r [6,7,8,9] [m 27 0,m 28 1,o 29 (BI .add 28 1),o 30 (D 27 29),o 31 (C 272 30),m 26 31,o 32 (E 26 0),o 33 (E 26 1),a 8 32,a 9 33]) (q (q (r [6,8,39] [m 34 7,o 35 (U 34),m 36 35,h 36 37 (M 9),h 36 38 (U 37),o 39 (O 36 38)]) (w 39 (q (r [4,5] [o 4 (AU 0),o 5 (AB false)]) (x [4,5])) z)) (q (r [4,5] [m 40 6,o 41 (.bin .shl (.t 40) (.c (.flat (.int .u64 4)))),m 42 8,o 43 (B .or 41 42),a 4 43,o 5 (AB true)]) (x [4,5]))))))),[]⟩
def QY:na:=⟨26,[.inl 2,.inl 3],(q (r [0] [o 2 (AU 0),o 3 (AB false)]) (q (.block 0 (q (r [0,4] [m 5 0,o 6 (BU .geq 5 48),m 7 6,g 7 8 (M 0),g 7 9 (BU .leq 8 57),o 10 (P 7 9),a 4 10]) (w 4 (q (r [2,3] [m 11 0,o 12 (BU .sub 11 48),a 2 12,o 3 (AB true)]) (x [2,3])) (q (r [0,13] [m 14 0,o 15 (BU .or 14 32),o 16 (BU .geq 15 97),m 17 16,g 17 18 (M 0),g 17 19 (BU .or 18 32),g 17 20 (BU .leq 19 102),o 21 (P 17 20),a 13 21]) (w 13 (q (r [2,3] [m 22 0,o 23 (BU .or 22 32),o 24 (BU .sub 23 97),o 25 (BU .add 24 10),a 2 25,o 3 (AB true)]) (x [2,3])) z))))) (q (r [2,3] [o 2 (AU 0),o 3 (AB false)]) (x [2,3])))),[]⟩
def PY:na:=⟨11,[.inl 2],(q (r [0] [o 2 (AS #[])]) (q (.kb [2] [m 3 0,o 4 (.bin .shr (.t 3) (.c (.flat (.int .u64 4)))),o 5 (.idx (s #[48,49,50,51,52,53,54,55,56,57,65,66,67,68,69,70]) (.t 4)),m 6 0,o 7 (BU .and 6 15),o 8 (.idx (s #[48,49,50,51,52,53,54,55,56,57,65,66,67,68,69,70]) (.t 7))] [o 9 (.mksl true 2 1 [.flat (.int .u8 0),.flat (.int .u8 0)] [⟨0,⟨1,.t 5⟩⟩,⟨1,⟨1,.t 8⟩⟩]),o 10 (.b2s (.t 9)),a 2 10]) (x [2]))),[]⟩
def bN:na:=⟨25,[.inl 2,.inl 3],(q (r [1] [o 1 (.box 40 3 (.t 0)),o 2 (AS #[]),o 3 (AI 0)]) (q (r [1,4] [o 6 (LT 3 1),o 7 (C 32 6),a 4 7]) (q (q (r [1,4,9] [m 8 4,o 9 (BI .neq 8 0)]) (w 9 (q (r [2,3] [m 10 4,o 2 (AS #[]),a 3 10]) (x [2,3])) z)) (q (r [1,5] [o 5 (AS #[114,101,115,111,108,118,101,100])]) (q (q (r [1,5,12] [o 11 (F 0 1),o 12 (L 1 11)]) (w 12 (r [1,5] [o 5 (AS #[102,105,114,105,110,103])]) z)) (q (.kb [2,3] [o 13 (F 1 1),o 14 (L 1 13),o 15 (C 33 14),o 16 (SB .add #[123,34,114,101,99,101,105,118,101,114,34,58,34] 15),o 17 (BS .add 16 #[34,44,34,115,116,97,116,117,115,34,58,34]),m 18 5,o 19 (B .add 17 18),o 20 (BS .add 19 #[34,44,34,98,111,100,121,34,58]),o 21 (F 2 1),o 22 (L 1 21)] [o 23 (B .add 20 22),o 24 (BS .add 23 #[125]),a 2 24,o 3 (AI 0)]) (x [2,3]))))))),[]⟩
def cN:na:=⟨28,[.inl 2],(q (r [1] [o 1 (.box 40 3 (.t 0)),o 2 (AI 0)]) (q (r [1,3,4] [o 6 (F 2 1),o 7 (L 1 6),o 8 (C 61 7),m 5 8,o 9 (E 5 0),o 10 (E 5 1),o 3 (.alloc 140 [.flat (.int .u8 0),Z,V,V]),n (S 4 3 9),a 4 10]) (q (q (.kb [3,4,20] [o 11 (F 1 1),o 12 (L 1 11),o 13 (C 34 12),o 14 (F 1 1),o 15 (L 1 14)] [o 16 (B .neq 13 15),m 17 16,h 17 18 (M 4),h 17 19 (BI .eql 18 7),o 20 (O 17 19)]) (w 20 (q (r [2] [o 2 (AI 7)]) (x [2])) z)) (q (q (r [27] [m 21 4,o 22 (BI .neq 21 0),m 23 22,h 23 24 (LT 4 3),h 23 25 (C 68 24),h 23 26 (BI .geq 25 32),o 27 (O 23 26)]) (w 27 (q (r [2] [o 2 (AI 8)]) (x [2])) z)) (q (r [2] [o 2 (AI 0)]) (x [2])))))),[]⟩
def CM:na:=⟨32,[.inr ⟨2,⟨true,4⟩⟩,.inl 3],(q (r [0,2] [o 2 (.alloc 140 [.flat (.int .u8 0),Z,V,V]),o 3 (AI 0)]) (q (r [2,4,5] [m 9 0,o 10 (C 62 9),m 8 10,o 11 (E 8 0),o 12 (E 8 1),a 4 11,a 5 12]) (q (q (r [2,4,5,14] [m 13 5,o 14 (BI .neq 13 0)]) (w 14 (q (r [2,3] [o 15 (.build [.flat (.int .u8 0),Z,V,V] []),m 16 5,n (S 4 2 15),a 3 16]) (x [2,3])) z)) (q (r [2,4,6,7] [m 18 4,o 19 (CI 124 18 0),m 17 19,o 20 (E 17 0),o 21 (E 17 1),o 6 (.alloc 140 [.flat (.int .u8 0),Z,V,V]),n (S 4 6 20),a 7 21]) (q (q (r [2,6,25] [m 22 7,m 23 4,o 24 (W 23),o 25 (B .neq 22 24)]) (w 25 (q (r [2,3] [o 26 (.build [.flat (.int .u8 0),Z,V,V] []),n (S 4 2 26),o 3 (AI 7)]) (x [2,3])) z)) (q (q (r [2,6,29] [o 27 (LT 4 6),o 28 (C 68 27),o 29 (BI .gtr 28 32)]) (w 29 (q (r [2,3] [o 30 (.build [.flat (.int .u8 0),Z,V,V] []),n (S 4 2 30),o 3 (AI 8)]) (x [2,3])) z)) (q (r [2,3] [o 31 (LT 4 6),n (S 4 2 31),o 3 (AI 0)]) (x [2,3])))))))),[]⟩
def rG:ka:=(q (q (r [0,4,5,12] [m 9 5,m 10 0,o 11 (K 10),o 12 (B .lss 9 11)]) (w 12 z (.exit 0 [4]))) (.block 1 (q (q (r [0,4,5,16] [m 13 0,m 14 5,o 15 (D 13 14),o 16 (C 125 15)]) (w 16 (q (r [0,4,5] [m 17 5,o 18 (BI .add 17 1),a 5 18]) (.exit 1 [0,4,5])) z)) (q (r [0,4,6,7] [m 20 0,m 21 5,o 22 (CC 126 20 21),m 19 22,o 23 (E 19 0),o 24 (E 19 1),o 6 (.alloc 147 [.flat (.int .u8 0),Z,J,J]),n (S 4 6 23),a 7 24]) (q (q (r [0,4,6,26] [m 25 7,o 26 (U 25)]) (w 26 (q (r [2,3] [o 2 (.asg (.c V)),o 3 (AI 7)]) (x [2,3])) z)) (q (r [0,4,6] [o 27 (.mvA 4),o 28 (LT 4 6),o 29 (.mksl false 1 4 [.flat (.int .u8 0),Z,J,J] [⟨0,⟨4,.t 28⟩⟩]),o 30 (.append false 4 (.t 27) (.t 29)),a 4 30]) (r [0,4,5] [o 31 (F 3 6),o 32 (L 1 31),a 5 32])))))))
def AC:ka:=rG
def qA:=@Xa AC rG rfl
def DM:na:=⟨34,[.inl 2,.inl 3],(q (r [0] [o 2 (.asg (.c V)),o 3 (AI 0)]) (q (r [0,4] [o 8 (.mksl false 0 4 [] []),a 4 8]) (q (q (r [0,4,5] [o 5 (AI 0)]) (k 0 [0,4,5] AC)) (q (r [2,3] [m 33 4,a 2 33,o 3 (AI 0)]) (x [2,3]))))),[]⟩
def qG:ka:=(q (q (r [1,3,4,9] [m 5 4,o 6 (F 3 1),o 7 (L 1 6),o 8 (W 7),o 9 (B .lss 5 8)]) (w 9 z (.exit 0 [3]))) (q (.block 1 (r [1,3,4] [m 12 3,o 13 (F 3 1),o 14 (L 1 13),m 15 4,o 16 (Y 4 14 15),o 17 (LT 4 16),o 18 (C 68 17),o 19 (.mm true (.t 12) (.t 18)),a 3 19])) (r [1,3,4] [m 10 4,o 11 (BI .add 10 1),a 4 11])))
def zC:ka:=qG
def ZT:=@Xa zC qG rfl
def BM:na:=⟨22,[.inl 2],(q (r [1] [o 1 (.box 140 4 (.t 0)),o 2 (AI 0)]) (q (r [1,3] [o 3 (AI 0)]) (q (q (r [1,3,4] [o 4 (AI 0)]) (k 0 [1,3,4] zC)) (q (r [2] [m 20 3,o 21 (BI .add 20 1),a 2 21]) (x [2]))))),[]⟩
def vG:ka:=(.block 1 (q (r [0,1,4,6,7,8] [m 58 1,o 59 (BI .add 58 1),a 1 59]) (q (q (r [0,1,4,6,7,8,61] [m 60 6,o 61 (BU .eql 60 123)]) (w 61 (q (q (r [0,1,4,6,7,8,72] [m 62 0,m 63 1,o 64 (.call 200 [.t 62,.t 63,u 34]),o 65 (U 64),m 66 65,h 66 67 (M 0),h 66 68 (M 1),h 66 69 (BI .add 68 1),h 66 70 (.call 200 [.t 67,.t 69,u 58]),h 66 71 (U 70),o 72 (O 66 71)]) (w 72 (q (r [4,5] [o 73 (.build [.flat (.int .u8 0),Z,V,V] []),n (S 4 4 73),o 5 (.asg (.c (.flat (.int .i64 (.negSucc 0)))))]) (x [4,5])) z)) (q (.kb [0,1,4,6,7,8] [o 74 (F 2 7),o 75 (.loadA (.t 74)),m 76 0,m 77 1,o 78 (Y 4 76 77),o 79 (F 1 78),o 80 (L 1 79),o 81 (.mksl false 1 1 [Z] [⟨0,⟨1,.t 80⟩⟩])] [o 82 (.append false 1 (.t 75) (.t 81)),o 83 (F 2 7),n (S 1 83 82)]) (r [0,1,4,6,7,8] [m 84 1,o 85 (BI .add 84 2),a 1 85]))) z)) (q (r [0,4,6,7,8,9,10] [m 87 0,m 88 1,o 89 (CC 124 87 88),m 86 89,o 90 (E 86 0),o 91 (E 86 1),o 9 (.alloc 140 [.flat (.int .u8 0),Z,V,V]),n (S 4 9 90),a 10 91]) (q (q (r [0,4,6,7,8,9,10,93] [m 92 10,o 93 (BI .lss 92 0)]) (w 93 (q (r [4,5] [o 94 (.build [.flat (.int .u8 0),Z,V,V] []),n (S 4 4 94),o 5 (.asg (.c (.flat (.int .i64 (.negSucc 0)))))]) (x [4,5])) z)) (q (r [0,4,6,7,8,10] [o 95 (F 3 7),o 96 (.loadA (.t 95)),o 97 (LT 4 9),o 98 (.mksl false 1 4 [.flat (.int .u8 0),Z,V,V] [⟨0,⟨4,.t 97⟩⟩]),o 99 (.append false 4 (.t 96) (.t 98)),o 100 (F 3 7),n (S 1 100 99)]) (q (r [0,1,4,6,7,8] [m 101 10,a 1 101]) (q (q (r [0,1,4,6,7,8,105] [m 102 0,m 103 1,m 104 8,o 105 (.call 200 [.t 102,.t 103,.t 104])]) (w 105 (q (r [4,5] [o 106 (LT 4 7),m 107 1,o 108 (BI .add 107 1),n (S 4 4 106),a 5 108]) (x [4,5])) z)) (q (r [0,1,4,6,7,8,112] [m 109 0,m 110 1,o 111 (.call 200 [.t 109,.t 110,u 44]),o 112 (U 111)]) (w 112 (q (r [4,5] [o 113 (.build [.flat (.int .u8 0),Z,V,V] []),n (S 4 4 113),o 5 (.asg (.c (.flat (.int .i64 (.negSucc 0)))))]) (x [4,5])) z))))))))))
def ay:ka:=vG
def dn:=@Xa ay vG rfl
def JM:na:=⟨114,[.inr ⟨4,⟨true,4⟩⟩,.inl 5],(q (r [0,1,4] [o 4 (.alloc 140 [.flat (.int .u8 0),Z,V,V]),o 5 (AI 0)]) (q (q (r [0,1,4,14] [m 11 1,m 12 0,o 13 (W 12),o 14 (B .geq 11 13)]) (w 14 (q (r [4,5] [o 15 (.build [.flat (.int .u8 0),Z,V,V] []),n (S 4 4 15),o 5 (.asg (.c (.flat (.int .i64 (.negSucc 0)))))]) (x [4,5])) z)) (q (r [0,1,4,6] [m 16 0,m 17 1,o 18 (Y 4 16 17),o 19 (F 0 18),o 20 (L 1 19),a 6 20]) (q (r [0,1,4,6,7] [m 21 6,m 22 0,m 23 1,o 24 (Y 4 22 23),o 25 (F 1 24),o 26 (L 1 25),o 27 (.build [.flat (.int .u8 0),Z,V,V] [⟨0,⟨1,.t 21⟩⟩,⟨1,⟨1,.t 26⟩⟩]),o 7 (.alloc 140 [.flat (.int .u8 0),Z,V,V]),n (S 4 7 27)]) (q (q (r [0,1,4,6,7,37] [m 28 6,o 29 (BU .eql 28 34),m 30 29,h 30 31 (M 6),h 30 32 (BU .eql 31 48),o 33 (O 30 32),m 34 33,h 34 35 (M 6),h 34 36 (BU .eql 35 97),o 37 (O 34 36)]) (w 37 (q (r [4,5] [o 38 (LT 4 7),m 39 1,o 40 (BI .add 39 1),n (S 4 4 38),a 5 40]) (x [4,5])) z)) (q (q (r [0,1,4,6,7,46] [m 41 6,o 42 (BU .neq 41 91),m 43 42,g 43 44 (M 6),g 43 45 (BU .neq 44 123),o 46 (P 43 45)]) (w 46 (q (r [4,5] [o 47 (.build [.flat (.int .u8 0),Z,V,V] []),n (S 4 4 47),o 5 (.asg (.c (.flat (.int .i64 (.negSucc 0)))))]) (x [4,5])) z)) (q (r [0,1,4,6,7,8] [o 8 (AU 93)]) (q (q (r [0,1,4,6,7,8,49] [m 48 6,o 49 (BU .eql 48 123)]) (w 49 (r [0,1,4,6,7,8] [o 8 (AU 125)]) z)) (q (q (r [0,1,4,6,7,8,54] [m 50 0,m 51 1,o 52 (BI .add 51 1),m 53 8,o 54 (.call 200 [.t 50,.t 52,.t 53])]) (w 54 (q (r [4,5] [o 55 (LT 4 7),m 56 1,o 57 (BI .add 56 2),n (S 4 4 55),a 5 57]) (x [4,5])) z)) (k 0 [0,1,4,6,7,8] ay)))))))))),[]⟩
def NY:na:=⟨17,[.inl 2],(q (r [0] [o 2 (AB false)]) (q (r [2] [m 3 0,o 4 (BU .eql 3 32),m 5 4,h 5 6 (M 0),h 5 7 (BU .eql 6 9),o 8 (O 5 7),m 9 8,h 9 10 (M 0),h 9 11 (BU .eql 10 10),o 12 (O 9 11),m 13 12,h 13 14 (M 0),h 13 15 (BU .eql 14 13),o 16 (O 13 15),a 2 16]) (x [2]))),[]⟩
def tG:ka:=(q (q (r [0,1,4,9,10,58] [m 57 10,o 58 (BI .lss 57 3)]) (w 58 z (.exit 0 [0,1,4]))) (q (.block 1 (q (r [0,1,4,9,10,67] [m 61 0,m 62 9,m 63 10,o 64 (Y 1 62 63),o 65 (L 1 64),m 66 1,o 67 (.call 105 [.t 61,.t 65,.t 66])]) (w 67 (q (.kb [4,5] [m 68 9,m 69 10,o 70 (Y 1 68 69),o 71 (L 1 70),m 72 1,m 73 1,m 74 9,m 75 10,o 76 (Y 1 74 75),o 77 (L 1 76),o 78 (K 77),o 79 (B .add 73 78)] [o 80 (.build [.flat (.int .u8 0),Z,J,J] [⟨0,⟨1,u 97⟩⟩,⟨1,⟨1,.t 71⟩⟩,⟨2,⟨1,.t 72⟩⟩,⟨3,⟨1,.t 79⟩⟩]),n (S 4 4 80),o 5 (AB true)]) (x [4,5])) z))) (r [0,1,4,9,10] [m 59 10,o 60 (BI .add 59 1),a 10 60])))
def DK:ka:=tG
def kw:=@Xa DK tG rfl
def HM:na:=⟨94,[.inr ⟨4,⟨true,4⟩⟩,.inl 5],(q (r [0,1,4] [o 4 (.alloc 147 [.flat (.int .u8 0),Z,J,J]),o 5 (AB false)]) (q (r [0,1,4,6] [m 12 0,m 13 1,o 14 (D 12 13),a 6 14]) (q (q (r [0,1,4,6,36] [m 15 6,o 16 (BU .eql 15 123),m 17 16,h 17 18 (M 6),h 17 19 (BU .eql 18 125),o 20 (O 17 19),m 21 20,h 21 22 (M 6),h 21 23 (BU .eql 22 91),o 24 (O 21 23),m 25 24,h 25 26 (M 6),h 25 27 (BU .eql 26 93),o 28 (O 25 27),m 29 28,h 29 30 (M 6),h 29 31 (BU .eql 30 58),o 32 (O 29 31),m 33 32,h 33 34 (M 6),h 33 35 (BU .eql 34 44),o 36 (O 33 35)]) (w 36 (q (r [4,5] [m 37 6,m 38 1,m 39 1,o 40 (BI .add 39 1),o 41 (.build [.flat (.int .u8 0),Z,J,J] [⟨0,⟨1,.t 37⟩⟩,⟨2,⟨1,.t 38⟩⟩,⟨3,⟨1,.t 40⟩⟩]),n (S 4 4 41),o 5 (AB true)]) (x [4,5])) z)) (q (q (r [0,1,4,43] [m 42 6,o 43 (BU .eql 42 34)]) (w 43 (q (r [1,4,7,8] [m 45 0,m 46 1,o 47 (CC 201 45 46),m 44 47,o 48 (E 44 0),o 49 (E 44 1),a 7 48,a 8 49]) (q (r [4,5] [m 50 7,m 51 1,m 52 8,o 53 (.build [.flat (.int .u8 0),Z,J,J] [⟨0,⟨1,u 34⟩⟩,⟨1,⟨1,.t 50⟩⟩,⟨2,⟨1,.t 51⟩⟩,⟨3,⟨1,.t 52⟩⟩]),m 54 8,o 55 (BI .gtr 54 0),n (S 4 4 53),a 5 55]) (x [4,5]))) z)) (q (r [0,1,4,9] [o 56 (.mksl false 3 1 [Z,Z,Z] [⟨0,⟨1,s #[116,114,117,101]⟩⟩,⟨1,⟨1,s #[102,97,108,115,101]⟩⟩,⟨2,⟨1,s #[110,117,108,108]⟩⟩]),a 9 56]) (q (q (r [0,1,4,9,10] [o 10 (AI 0)]) (k 0 [0,1,4,9,10] DK)) (q (r [0,1,4,11] [m 81 0,m 82 1,o 83 (CC 202 81 82),a 11 83]) (q (q (r [0,1,4,11,85] [m 84 11,o 85 (BI .lss 84 0)]) (w 85 (q (r [4,5] [o 86 (.build [.flat (.int .u8 0),Z,J,J] []),n (S 4 4 86),o 5 (AB false)]) (x [4,5])) z)) (q (r [4,5] [m 87 0,m 88 1,m 89 11,o 90 (.sliceS (.t 87) (.some (.t 88)) (.some (.t 89))),m 91 1,m 92 11,o 93 (.build [.flat (.int .u8 0),Z,J,J] [⟨0,⟨1,u 48⟩⟩,⟨1,⟨1,.t 90⟩⟩,⟨2,⟨1,.t 91⟩⟩,⟨3,⟨1,.t 92⟩⟩]),n (S 4 4 93),o 5 (AB true)]) (x [4,5])))))))))),[]⟩
def FM:na:=⟨20,[.inl 6],(q (r [0,1,2] [o 6 (AB false)]) (q (r [6] [m 7 1,m 8 0,o 9 (W 8),o 10 (B .lss 7 9),m 11 10,g 11 12 (M 0),g 11 13 (M 1),g 11 14 (Y 4 12 13),g 11 15 (F 0 14),g 11 16 (L 1 15),g 11 17 (M 2),g 11 18 (B .eql 16 17),o 19 (P 11 18),a 6 19]) (x [6]))),[]⟩
def uG:ka:=(q (q (r [0,6,7,16] [m 13 7,m 14 0,o 15 (K 14),o 16 (B .lss 13 15)]) (w 16 z (.exit 0 []))) (.block 1 (q (q (r [0,6,7,20] [m 17 0,m 18 7,o 19 (D 17 18),o 20 (BU .eql 19 34)]) (w 20 (q (r [4,5] [m 21 6,m 22 7,o 23 (BI .add 22 1),a 4 21,a 5 23]) (x [4,5])) z)) (q (r [0,6,7,8,9,10] [m 25 0,m 26 7,o 27 (CC 260 25 26),m 24 27,o 28 (E 24 0),o 29 (E 24 1),o 30 (E 24 2),a 8 28,a 9 29,a 10 30]) (q (q (r [0,6,7,8,9,32] [m 31 10,o 32 (U 31)]) (w 32 (q (r [4,5] [o 4 (AS #[]),o 5 (.asg (.c (.flat (.int .i64 (.negSucc 0)))))]) (x [4,5])) z)) (q (r [0,6,7,9] [m 33 6,m 34 8,o 35 (C 72 34),o 36 (B .add 33 35),a 6 36]) (r [0,6,7] [m 37 7,m 38 9,o 39 (B .add 37 38),a 7 39])))))))
def DC:ka:=uG
def tA:=@Xa DC uG rfl
def IM:na:=⟨40,[.inl 4,.inl 5],(q (r [0,1] [o 4 (AS #[]),o 5 (AI 0)]) (q (r [0,1,6] [o 6 (AS #[])]) (q (q (r [0,6,7] [m 11 1,o 12 (BI .add 11 1),a 7 12]) (k 0 [0,6,7] DC)) (q (r [4,5] [o 4 (AS #[]),o 5 (.asg (.c (.flat (.int .i64 (.negSucc 0)))))]) (x [4,5]))))),[]⟩
def GM:na:=⟨69,[.inl 4],(q (r [0,1] [o 4 (AI 0)]) (q (q (r [0,1,9] [m 7 0,m 8 1,o 9 (.call 105 [.t 7,s #[45],.t 8])]) (w 9 (r [0,1] [m 10 1,o 11 (BI .add 10 1),a 1 11]) z)) (q (r [0,1,5] [m 12 0,m 13 1,o 14 (CC 261 12 13),a 5 14]) (q (q (r [0,1,5,17] [m 15 5,m 16 1,o 17 (B .eql 15 16)]) (w 17 (q (r [4] [o 4 (.asg (.c (.flat (.int .i64 (.negSucc 0)))))]) (x [4])) z)) (q (q (r [0,1,5,21] [m 18 0,m 19 1,o 20 (D 18 19),o 21 (BU .eql 20 48)]) (w 21 (r [0,5] [m 22 1,o 23 (BI .add 22 1),a 5 23]) z)) (q (q (r [0,5,35] [m 24 0,m 25 5,o 26 (.call 105 [.t 24,s #[46],.t 25]),m 27 26,g 27 28 (M 0),g 27 29 (M 5),g 27 30 (BI .add 29 1),g 27 31 (CC 261 28 30),g 27 32 (M 5),g 27 33 (BI .add 32 1),g 27 34 (B .gtr 31 33),o 35 (P 27 34)]) (w 35 (r [0,5] [m 36 0,m 37 5,o 38 (BI .add 37 1),o 39 (CC 261 36 38),a 5 39]) z)) (q (q (r [0,5,47] [m 40 0,m 41 5,o 42 (.call 105 [.t 40,s #[101],.t 41]),m 43 42,h 43 44 (M 0),h 43 45 (M 5),h 43 46 (.call 105 [.t 44,s #[69],.t 45]),o 47 (O 43 46)]) (w 47 (q (r [0,5,6] [m 48 5,o 49 (BI .add 48 1),a 6 49]) (q (q (r [0,5,6,57] [m 50 0,m 51 6,o 52 (.call 105 [.t 50,s #[43],.t 51]),m 53 52,h 53 54 (M 0),h 53 55 (M 6),h 53 56 (.call 105 [.t 54,s #[45],.t 55]),o 57 (O 53 56)]) (w 57 (r [0,5,6] [m 58 6,o 59 (BI .add 58 1),a 6 59]) z)) (q (r [0,5,6,64] [m 60 0,m 61 6,o 62 (CC 261 60 61),m 63 6,o 64 (B .gtr 62 63)]) (w 64 (r [5] [m 65 0,m 66 6,o 67 (CC 261 65 66),a 5 67]) z)))) z)) (q (r [4] [m 68 5,a 4 68]) (x [4]))))))))),[]⟩
def sG:ka:=(q (q (r [0,1,20] [m 5 1,m 6 0,o 7 (K 6),o 8 (B .lss 5 7),m 9 8,g 9 10 (M 0),g 9 11 (M 1),g 9 12 (D 10 11),g 9 13 (BU .geq 12 48),o 14 (P 9 13),m 15 14,g 15 16 (M 0),g 15 17 (M 1),g 15 18 (D 16 17),g 15 19 (BU .leq 18 57),o 20 (P 15 19)]) (w 20 z (.exit 0 [1]))) (.block 1 (r [0,1] [m 21 1,o 22 (BI .add 21 1),a 1 22])))
def BC:ka:=sG
def sA:=@Xa BC sG rfl
def EM:na:=⟨24,[.inl 4],(q (r [0,1] [o 4 (AI 0)]) (q (k 0 [0,1] BC) (q (r [4] [m 23 1,a 4 23]) (x [4])))),[]⟩
def jG:ka:=(q (q (r [3,4,5,11] [m 8 5,m 9 3,o 10 (W 9),o 11 (B .lss 8 10)]) (w 11 z (.exit 0 [4]))) (q (.block 1 (r [3,4,5] [m 14 4,m 15 3,m 16 5,o 17 (Y 1 15 16),o 18 (L 1 17),o 19 (C 70 18),o 20 (B .add 14 19),a 4 20])) (r [3,4,5] [m 12 5,o 13 (BI .add 12 1),a 5 13])))
def sC:ka:=jG
def VT:=@Xa sC jG rfl
def sM:na:=⟨22,[.inl 2],(q (r [0] [o 2 (AS #[])]) (q (r [3] [m 6 0,o 7 (C 69 6),a 3 7]) (q (r [3,4] [o 4 (AS #[])]) (q (q (r [3,4,5] [o 5 (AI 0)]) (k 0 [3,4,5] sC)) (q (r [2] [m 21 4,a 2 21]) (x [2])))))),[]⟩
def kG:ka:=(q (q (r [0,3,4,5,13] [m 10 5,m 11 3,o 12 (W 11),o 13 (B .lss 10 12)]) (w 13 z (.exit 0 [0]))) (q (.block 1 (q (r [0,3,4,5,21] [m 16 3,m 17 5,o 18 (Y 1 16 17),o 19 (L 1 18),m 20 0,o 21 (B .eql 19 20)]) (w 21 (q (r [2] [m 22 4,m 23 5,m 24 5,o 25 (BI .add 24 1),o 26 (.sliceS (.t 22) (.some (.t 23)) (.some (.t 25))),o 27 (SB .add #[92] 26),a 2 27]) (x [2])) z))) (r [0,3,4,5] [m 14 5,o 15 (BI .add 14 1),a 5 15])))
def tC:ka:=kG
def zaP:=@Xa tC kG rfl
def vM:na:=⟨63,[.inl 2],(q (r [0] [o 2 (AS #[])]) (q (r [0,3,4] [o 7 (.call 132 []),m 6 7,o 8 (E 6 0),o 9 (E 6 1),a 3 8,a 4 9]) (q (q (r [0,3,4,5] [o 5 (AI 0)]) (k 0 [0,3,4,5] tC)) (q (q (r [0,57] [m 28 0,o 29 (BI .lss 28 32),m 30 29,h 30 31 (M 0),h 30 32 (BI .eql 31 38),o 33 (O 30 32),m 34 33,h 34 35 (M 0),h 34 36 (BI .eql 35 60),o 37 (O 34 36),m 38 37,h 38 39 (M 0),h 38 40 (BI .eql 39 62),o 41 (O 38 40),m 42 41,h 42 43 (M 0),h 42 44 (BI .geq 43 127),h 42 45 (M 44),g 45 46 (M 0),g 45 47 (BI .leq 46 159),h 42 48 (P 45 47),o 49 (O 42 48),m 50 49,h 50 51 (M 0),h 50 52 (BI .eql 51 8232),o 53 (O 50 52),m 54 53,h 54 55 (M 0),h 54 56 (BI .eql 55 8233),o 57 (O 54 56)]) (w 57 (q (r [2] [m 58 0,o 59 (C 133 58),o 60 (SB .add #[92,117] 59),a 2 60]) (x [2])) z)) (q (r [2] [m 61 0,o 62 (C 72 61),a 2 62]) (x [2])))))),[]⟩
def MY:na:=⟨3,[.inl 0,.inl 1],(q (r [] [o 0 (.asg (.c V)),o 1 (AS #[])]) (q (r [0,1] [o 2 (.mksl false 7 1 [J,J,J,J,J,J,J] [⟨0,⟨1,i 34⟩⟩,⟨1,⟨1,i 92⟩⟩,⟨2,⟨1,i 8⟩⟩,⟨3,⟨1,i 12⟩⟩,⟨4,⟨1,i 10⟩⟩,⟨5,⟨1,i 13⟩⟩,⟨6,⟨1,i 9⟩⟩]),a 0 2,o 1 (AS #[34,92,98,102,110,114,116])]) (x [0,1]))),[]⟩
def tM:na:=⟨12,[.inl 2],(q (r [0] [o 2 (AS #[])]) (q (r [2] [m 3 0,o 4 (BI .quo 3 256),o 5 (.conv .u8 (.t 4)),o 6 (C 204 5),m 7 0,o 8 (BI .rem 7 256),o 9 (.conv .u8 (.t 8)),o 10 (C 204 9),o 11 (B .add 6 10),a 2 11]) (x [2]))),[]⟩
def iG:ka:=(q (q (r [0,1,9,10,11,55] [m 52 11,m 53 9,o 54 (W 53),o 55 (B .lss 52 54)]) (w 55 z (.exit 0 [0,1]))) (q (.block 1 (q (r [0,1,9,10,11,66] [m 58 0,m 59 10,m 60 11,m 61 11,o 62 (BI .add 61 1),o 63 (.sliceS (.t 59) (.some (.t 60)) (.some (.t 62))),m 64 1,o 65 (BI .add 64 1),o 66 (.call 105 [.t 58,.t 63,.t 65])]) (w 66 (q (r [4,5,6] [m 67 9,m 68 11,o 69 (Y 1 67 68),o 70 (L 1 69),a 4 70,o 5 (AI 2),o 6 (AB true)]) (x [4,5,6])) z))) (r [0,1,9,10,11] [m 56 11,o 57 (BI .add 56 1),a 11 57])))
def rC:ka:=iG
def MH:=@Xa rC iG rfl
def rM:na:=⟨109,[.inl 4,.inl 5,.inl 6],(q (r [0,1] [o 4 (AI 0),o 5 (AI 0),o 6 (AB false)]) (q (q (r [0,1,21] [m 14 1,o 15 (BI .lss 14 0),m 16 15,h 16 17 (M 1),h 16 18 (M 0),h 16 19 (K 18),h 16 20 (B .geq 17 19),o 21 (O 16 20)]) (w 21 (q (r [4,5,6] [o 4 (AI 0),o 5 (AI 0),o 6 (AB false)]) (x [4,5,6])) z)) (q (q (r [0,1,25] [m 22 0,m 23 1,o 24 (D 22 23),o 25 (BU .neq 24 92)]) (w 25 (q (r [7,8] [m 27 0,m 28 1,o 29 (CC 71 27 28),m 26 29,o 30 (E 26 0),o 31 (E 26 1),a 7 30,a 8 31]) (q (q (r [7,8,45] [m 32 7,o 33 (BI .lss 32 32),m 34 33,h 34 35 (M 7),h 34 36 (BI .eql 35 34),o 37 (O 34 36),m 38 37,h 38 39 (M 7),h 38 40 (BI .eql 39 65533),h 38 41 (M 40),g 41 42 (M 8),g 41 43 (BI .eql 42 1),h 38 44 (P 41 43),o 45 (O 38 44)]) (w 45 (q (r [4,5,6] [o 4 (AI 0),o 5 (AI 0),o 6 (AB false)]) (x [4,5,6])) z)) (q (r [4,5,6] [m 46 7,m 47 8,a 4 46,a 5 47,o 6 (AB true)]) (x [4,5,6])))) z)) (q (r [0,1,9,10] [o 49 (.call 132 []),m 48 49,o 50 (E 48 0),o 51 (E 48 1),a 9 50,a 10 51]) (q (q (r [0,1,9,10,11] [o 11 (AI 0)]) (k 0 [0,1,9,10,11] rC)) (q (q (r [0,1,74] [m 71 0,m 72 1,o 73 (BI .add 72 1),o 74 (.call 105 [.t 71,s #[47],.t 73])]) (w 74 (q (r [4,5,6] [o 4 (AI 47),o 5 (AI 2),o 6 (AB true)]) (x [4,5,6])) z)) (q (r [0,1,12] [m 75 0,m 76 1,o 77 (CC 287 75 76),a 12 77]) (q (q (r [0,1,12,83] [m 78 12,o 79 (BI .geq 78 55296),m 80 79,g 80 81 (M 12),g 80 82 (BI .leq 81 56319),o 83 (P 80 82)]) (w 83 (q (r [12,13] [m 84 0,m 85 1,o 86 (BI .add 85 6),o 87 (CC 287 84 86),a 13 87]) (q (r [12,13,93] [m 88 13,o 89 (BI .geq 88 56320),m 90 89,g 90 91 (M 13),g 90 92 (BI .leq 91 57343),o 93 (P 90 92)]) (w 93 (q (r [4,5,6] [m 94 12,o 95 (BI .sub 94 55296),o 96 (IB .mul 1024 95),o 97 (IB .add 65536 96),m 98 13,o 99 (B .add 97 98),o 100 (BI .sub 99 56320),a 4 100,o 5 (AI 12),o 6 (AB true)]) (x [4,5,6])) z))) z)) (q (q (r [12,107] [m 101 12,o 102 (BI .lss 101 0),m 103 102,h 103 104 (M 12),h 103 105 (C 134 104),h 103 106 (U 105),o 107 (O 103 106)]) (w 107 (q (r [4,5,6] [o 4 (AI 0),o 5 (AI 0),o 6 (AB false)]) (x [4,5,6])) z)) (q (r [4,5,6] [m 108 12,a 4 108,o 5 (AI 6),o 6 (AB true)]) (x [4,5,6]))))))))))),[]⟩
def uM:na:=⟨39,[.inl 4],(q (r [0,1] [o 4 (AI 0)]) (q (q (r [0,1,12] [m 9 0,m 10 1,o 11 (.call 105 [.t 9,s #[92,117],.t 10]),o 12 (U 11)]) (w 12 (q (r [4] [o 4 (.asg (.c (.flat (.int .i64 (.negSucc 0)))))]) (x [4])) z)) (q (r [0,1,5,6] [m 14 0,m 15 1,o 16 (BI .add 15 2),o 17 (CC 237 14 16),m 13 17,o 18 (E 13 0),o 19 (E 13 1),a 5 18,a 6 19]) (q (r [5,6,7,8] [m 21 0,m 22 1,o 23 (BI .add 22 4),o 24 (CC 237 21 23),m 20 24,o 25 (E 20 0),o 26 (E 20 1),a 7 25,a 8 26]) (q (q (r [5,7,32] [m 27 6,o 28 (U 27),m 29 28,h 29 30 (M 8),h 29 31 (U 30),o 32 (O 29 31)]) (w 32 (q (r [4] [o 4 (.asg (.c (.flat (.int .i64 (.negSucc 0)))))]) (x [4])) z)) (q (r [4] [m 33 5,o 34 (.conv .i64 (.t 33)),o 35 (IB .mul 256 34),m 36 7,o 37 (.conv .i64 (.t 36)),o 38 (B .add 35 37),a 4 38]) (x [4]))))))),[]⟩
def KY:na:=⟨19,[.inl 2],(q (r [0] [o 2 (AS #[])]) (q (r [0,3] [o 3 (AS #[48,49,50,51,52,53,54,55,56,57,65,66,67,68,69,70])]) (q (.kb [2] [m 4 3,m 5 0,o 6 (BU .quo 5 16),m 7 0,o 8 (BU .quo 7 16),o 9 (BU .add 8 1),o 10 (.sliceS (.t 4) (.some (.t 6)) (.some (.t 9))),m 11 3,m 12 0,o 13 (BU .rem 12 16),m 14 0,o 15 (BU .rem 14 16),o 16 (BU .add 15 1),o 17 (.sliceS (.t 11) (.some (.t 13)) (.some (.t 16)))] [o 18 (B .add 10 17),a 2 18]) (x [2])))),[]⟩
def fM:na:=⟨37,[.inl 4,.inl 5],(q (r [0,1] [o 4 (AU 0),o 5 (AB false)]) (q (q (r [0,1,16] [m 8 1,o 9 (BI .lss 8 0),m 10 9,h 10 11 (M 1),h 10 12 (M 0),h 10 13 (K 12),h 10 14 (BI .sub 13 2),h 10 15 (B .gtr 11 14),o 16 (O 10 15)]) (w 16 (q (r [4,5] [o 4 (AU 0),o 5 (AB false)]) (x [4,5])) z)) (q (.kb [6,7] [m 17 0,m 18 1,o 19 (D 17 18),o 20 (C 277 19),m 21 0,m 22 1,o 23 (BI .add 22 1),o 24 (D 21 23)] [o 25 (C 277 24),a 6 20,a 7 25]) (q (q (r [6,7,31] [m 26 6,o 27 (BI .gtr 26 15),m 28 27,h 28 29 (M 7),h 28 30 (BI .gtr 29 15),o 31 (O 28 30)]) (w 31 (q (r [4,5] [o 4 (AU 0),o 5 (AB false)]) (x [4,5])) z)) (q (r [4,5] [m 32 6,o 33 (IB .mul 16 32),m 34 7,o 35 (B .add 33 34),o 36 (.conv .u8 (.t 35)),a 4 36,o 5 (AB true)]) (x [4,5])))))),[]⟩
def LY:na:=⟨32,[.inl 2],(q (r [0] [o 2 (AI 0)]) (q (q (r [0,8] [m 3 0,o 4 (BU .geq 3 48),m 5 4,g 5 6 (M 0),g 5 7 (BU .leq 6 57),o 8 (P 5 7)]) (w 8 (q (r [2] [m 9 0,o 10 (.conv .i64 (.t 9)),o 11 (BI .sub 10 48),a 2 11]) (x [2])) z)) (q (q (r [0,17] [m 12 0,o 13 (BU .geq 12 65),m 14 13,g 14 15 (M 0),g 14 16 (BU .leq 15 70),o 17 (P 14 16)]) (w 17 (q (r [2] [m 18 0,o 19 (.conv .i64 (.t 18)),o 20 (BI .sub 19 65),o 21 (BI .add 20 10),a 2 21]) (x [2])) z)) (q (q (r [0,27] [m 22 0,o 23 (BU .geq 22 97),m 24 23,g 24 25 (M 0),g 24 26 (BU .leq 25 102),o 27 (P 24 26)]) (w 27 (q (r [2] [m 28 0,o 29 (.conv .i64 (.t 28)),o 30 (BI .sub 29 97),o 31 (BI .add 30 10),a 2 31]) (x [2])) z)) (q (r [2] [o 2 (AI 16)]) (x [2])))))),[]⟩
def aG:ka:=(q (q (r [0,1,5,14] [m 11 5,m 12 0,o 13 (W 12),o 14 (B .lss 11 13)]) (w 14 z (.exit 0 []))) (q (.block 1 (q (.kb [0,1,5,25] [m 17 0,m 18 5,o 19 (Y 1 17 18),o 20 (L 1 19),m 21 1,m 22 5,o 23 (Y 1 21 22),o 24 (L 1 23)] [o 25 (B .neq 20 24)]) (w 25 (q (r [4] [o 4 (AB false)]) (x [4])) z))) (r [0,1,5] [m 15 5,o 16 (BI .add 15 1),a 5 16])))
def BK:ka:=aG
def RT:=@Xa BK aG rfl
def hM:na:=⟨26,[.inl 4],(q (r [0,1] [o 4 (AB false)]) (q (q (r [0,1,10] [m 6 0,o 7 (W 6),m 8 1,o 9 (W 8),o 10 (B .neq 7 9)]) (w 10 (q (r [4] [o 4 (AB false)]) (x [4])) z)) (q (q (r [0,1,5] [o 5 (AI 0)]) (k 0 [0,1,5] BK)) (q (r [4] [o 4 (AB true)]) (x [4]))))),[]⟩
def ZF:ka:=(q (q (r [0,1,5,6,7,12] [m 9 7,m 10 0,o 11 (K 10),o 12 (B .lss 9 11)]) (w 12 z (.exit 0 [0,5,6]))) (q (.block 1 (q (r [0,1,5,6,7,19] [m 15 0,m 16 7,o 17 (D 15 16),m 18 1,o 19 (B .eql 17 18)]) (w 19 (q (r [0,1,5,7] [o 20 (.mvA 5),m 21 0,m 22 6,m 23 7,o 24 (.sliceS (.t 21) (.some (.t 22)) (.some (.t 23))),o 25 (.mksl false 1 1 [Z] [⟨0,⟨1,.t 24⟩⟩]),o 26 (.append false 1 (.t 20) (.t 25)),a 5 26]) (r [0,1,5,6,7] [m 27 7,o 28 (BI .add 27 1),a 6 28])) z))) (r [0,1,5,6,7] [m 13 7,o 14 (BI .add 13 1),a 7 14])))
def kC:ka:=ZF
def LH:=@Xa kC ZF rfl
def gM:na:=⟨35,[.inl 4],(q (r [0,1] [o 4 (.asg (.c V))]) (q (r [0,1,5] [o 8 (.mksl false 0 1 [] []),a 5 8]) (q (r [0,1,5,6] [o 6 (AI 0)]) (q (q (r [0,1,5,6,7] [o 7 (AI 0)]) (k 0 [0,1,5,6,7] kC)) (q (r [4] [o 29 (.mvA 5),m 30 0,m 31 6,o 32 (.sliceS (.t 30) (.some (.t 31)) .none),o 33 (.mksl false 1 1 [Z] [⟨0,⟨1,.t 32⟩⟩]),o 34 (.append false 1 (.t 29) (.t 33)),a 4 34]) (x [4])))))),[]⟩
attribute [go_sem] DF JG LG KG EF FF GF HF UG TG hS LF IF MF NF JF KF GG OG PG RG SG QG MG NG YF XF OF FG EG bG eG dG fG cG xG BG AG CG DG yG zG wG gG hG lG mG nG pG oG HG IG VG PF QF SF UF RF TF VF WF rG qG vG tG uG sG jG kG iG aG ZF
def yr:List (FuncId×Lv):=[(77,⟨[[0],[0,4,5],[4,5,7],[4,5],[4,35],[2,3],[2,3],[8,9,10],[8,9],[8,9,11],[8,11,46,47,48],[8,11,46,47,48],[8,11,46,47,48,49],[8,11],[8,11,13,46,47,48],[8,11,13,46,47,48,54],[8,11,46,47,48],[8,11,46,47,48],[8,11,14,15,16],[8,11],[2,3],[2,3]],[],[111,4611686018427387941,4611686018427387950,4611686018427388089,9223372036854776099]⟩),(82,⟨[[0],[0,6,7],[0,6,7],[0,6,7,8],[0],[0,3,6,7],[0,4,6,7],[0,6,7,33],[2],[2],[0,6,7],[2],[2]],[],[111,4611686018427387941,4611686018427387950,4611686018427388089,9223372036854776099]⟩),(78,⟨[[0,1],[0,1,6,7],[1,6,7,10,11,12],[1,6,7,10,11,12],[1,6,7,10,11,12,13],[6,7],[1,6,7,9,10,11,12],[1,6,7,9,10,11,12,20],[1,6,7,10,11,12],[1,6,7,9,10,11,12,22],[1,6,7,10,11,12],[1,6,7,10,11,12],[1,6,7,10,11,12],[4,5],[4,5]],[],[111,4611686018427387941,4611686018427387950,4611686018427388089,9223372036854776099]⟩),(137,⟨[[0],[0,6,7],[0,6,7],[0,6,7,8],[0],[0,3,6,7],[0,4,6,7],[0,6,7,32],[2],[2],[0,6,7],[2],[2]],[],[111,4611686018427387941,4611686018427387950,4611686018427388089,9223372036854776099]⟩),(212,⟨[[1,2],[3],[3]],[],[111,4611686018427387941,4611686018427387950,4611686018427388089,9223372036854776099]⟩),(207,⟨[[]],[],[111,4611686018427387941,4611686018427387950,4611686018427388089,9223372036854776099]⟩),(208,⟨[[0],[0,3],[0,3],[0,3,39],[0,3],[0,3],[0,3,4],[4],[2],[2]],[],[111,4611686018427387941,4611686018427387950,4611686018427388089,9223372036854776099]⟩),(209,⟨[[0,1],[0,18],[4],[4],[],[4],[4]],[],[111,4611686018427387941,4611686018427387950,4611686018427388089,9223372036854776099]⟩),(270,⟨[[0],[0,4],[0,4,5],[0,4,5],[0,4,5,13],[0,4,5],[0,4,5,6],[0,4,5,6,20],[0,4,5],[0,4,5,6,23],[2,3],[2,3],[0,4,5,30],[0,4,5],[0,4,5,59],[2,3],[2,3],[0,4,5],[0,4,5],[0,4,5,77],[2,3],[2,3],[4],[2,3],[2,3]],[],[111,4611686018427387941,4611686018427387950,4611686018427388089,9223372036854776099]⟩),(211,⟨[[0,1],[4],[4]],[],[111,4611686018427387941,4611686018427387950,4611686018427388089,9223372036854776099]⟩),(271,⟨[[0,1],[0,1,7,8],[0,1,7,8],[0,1,7,8,9],[],[0,1,5,7,8],[0,1,5,7,8,16],[4],[4],[0,1,7,8],[4],[4]],[],[111,4611686018427387941,4611686018427387950,4611686018427388089,9223372036854776099]⟩)]
def Ih:List (FuncId×na):=[(5,eN),(59,kL),(122,iL),(121,jL),(119,GY),(194,UN),(255,VN),(18,dN),(35,WM),(313,rN),(314,sN),(319,tN),(320,uN),(14,fN),(15,gN),(94,lL),(97,pL),(47,nL),(21,mL),(7,oL),(49,rL),(48,qL),(50,sL),(95,XN),(155,bO),(224,cO),(225,ZN),(159,WN),(275,fO),(227,dO),(160,eO),(92,YN),(231,aO),(98,vL),(40,AL),(230,tL),(163,BL),(229,CL),(164,zL),(20,uL),(38,yL),(43,xL),(86,wL),(45,DN),(44,CN),(41,jN),(88,kN),(149,lN),(85,hN),(56,EN),(182,FN),(181,IN),(279,GN),(242,HN),(180,MN),(111,JN),(178,KN),(179,LN),(112,ON),(183,QN),(245,RN),(184,TN),(246,SN),(281,PN),(243,NN),(244,xN),(280,AN),(241,yN),(278,BN),(37,pD),(76,cM),(81,dM),(83,aM),(145,bM),(139,DL),(210,EL),(63,XM),(29,ZM),(16,YM),(31,aN),(64,VM),(34,jM),(72,iM),(71,lM),(134,mM),(69,nM),(110,kM),(60,LM),(123,RM),(196,SM),(195,TM),(197,UM),(258,OM),(198,PM),(199,QM),(259,NM),(127,MM),(65,KM),(257,oM),(286,qM),(292,pM),(53,wM),(128,xM),(66,AM),(130,zM),(30,yM),(105,eM),(10,nN),(11,mN),(24,vN),(315,oN),(316,pN),(317,qN),(57,iO),(116,gO),(187,hO),(186,YY),(185,jO),(113,lO),(114,mO),(115,kO),(58,GL),(247,FL),(283,HL),(117,NL),(118,LL),(189,KL),(190,OL),(191,RL),(192,ML),(250,JL),(251,PL),(252,IL),(284,QL),(120,TL),(188,UL),(248,XL),(249,YL),(193,VL),(253,WL),(254,SL),(291,ZL),(213,iN),(272,QY),(234,PY),(17,bN),(32,cN),(61,CM),(62,DM),(68,BM),(124,JM),(125,NY),(126,HM),(200,FM),(201,IM),(202,GM),(261,EM),(33,sM),(70,vM),(132,MY),(133,tM),(260,rM),(287,uM),(204,KY),(237,fM),(277,LY),(13,hM),(129,gM)]
noncomputable def code:FuncId->Option na:=fun f=>match Ih.lookup f with
 |some c=>some c
 |none=>(yr.lookup f).bind fun lv=>Km Tryz.prog lv f
def zga:Ih.map (fun p=>Km Tryz.prog (B_ [111,4611686018427387941,4611686018427387950,4611686018427388089,9223372036854776099] p.2) p.1)=Ih.map (fun p=>some p.2):=ca
def Ns:∀f c,code f=some c->∃lv,Km Tryz.prog lv f=some c:=fun f c h=>by
 unfold code at h;split at h
 ·rename_i c' a
  cases h;exact⟨_,List.map_inj_left.1 zga _ (gH a)⟩
 ·obtain⟨lv,_,a⟩:=qb h
  exact⟨lv,a⟩
def ip:code ya.hb=none:=ca
def fp:code 5=some eN:=ca
def BD:code 59=some kL:=ca
def uO:code 122=some iL:=ca
def vO:code 121=some jL:=ca
def w1:code 194=some UN:=ca
def x1:code 255=some VN:=ca
def KD:code 18=some dN:=ca
def M0:code 35=some WM:=ca
def PO:code 313=some rN:=ca
def Y0:code 314=some sN:=ca
def QO:code 319=some tN:=ca
def a1:code 320=some uN:=ca
def Q0:code 14=some fN:=ca
def R0:code 15=some gN:=ca
def zZ:code 94=some lL:=ca
def BZ:code 97=some pL:=ca
def AZ:code 47=some nL:=ca
def wO:code 21=some mL:=ca
def xO:code 7=some oL:=ca
def DZ:code 49=some rL:=ca
def CZ:code 48=some qL:=ca
def EZ:code 50=some sL:=ca
def UO:code 95=some XN:=ca
def A1:code 155=some bO:=ca
def B1:code 224=some cO:=ca
def z1:code 225=some ZN:=ca
def y1:code 159=some WN:=ca
def E1:code 275=some fO:=ca
def C1:code 227=some dO:=ca
def D1:code 160=some eO:=ca
def VO:code 92=some YN:=ca
def WO:code 231=some aO:=ca
def yO:code 98=some vL:=ca
def LZ:code 40=some AL:=ca
def FZ:code 230=some tL:=ca
def MZ:code 163=some BL:=ca
def NZ:code 229=some CL:=ca
def KZ:code 164=some zL:=ca
def GZ:code 20=some uL:=ca
def JZ:code 38=some yL:=ca
def IZ:code 43=some xL:=ca
def HZ:code 86=some wL:=ca
def i1:code 45=some DN:=ca
def h1:code 44=some CN:=ca
def MO:code 41=some jN:=ca
def NO:code 88=some kN:=ca
def U0:code 149=some lN:=ca
def T0:code 85=some hN:=ca
def LD:code 56=some EN:=ca
def j1:code 182=some FN:=ca
def m1:code 181=some IN:=ca
def k1:code 279=some GN:=ca
def l1:code 242=some HN:=ca
def u1:code 180=some MN:=ca
def p1:code 111=some JN:=ca
def q1:code 178=some KN:=ca
def t1:code 179=some LN:=ca
def gp:code 112=some ON:=ca
def MD:code 183=some QN:=ca
def v1:code 245=some RN:=ca
def TO:code 184=some TN:=ca
def Jn:code 246=some SN:=ca
def Cy:code 281=some PN:=ca
def Yu:code 243=some NN:=ca
def d1:code 244=some xN:=ca
def RO:code 280=some AN:=ca
def f1:code 241=some yN:=ca
def SO:code 278=some BN:=ca
def Ms:code 37=some pD:=ca
def e0:code 76=some cM:=ca
def f0:code 81=some dM:=ca
def c0:code 83=some aM:=ca
def d0:code 145=some bM:=ca
def OZ:code 139=some DL:=ca
def zO:code 210=some EL:=ca
def N0:code 63=some XM:=ca
def O0:code 29=some ZM:=ca
def LO:code 16=some YM:=ca
def P0:code 31=some aN:=ca
def L0:code 64=some VM:=ca
def j0:code 34=some jM:=ca
def i0:code 72=some iM:=ca
def l0:code 71=some lM:=ca
def m0:code 134=some mM:=ca
def o0:code 69=some nM:=ca
def k0:code 110=some kM:=ca
def HD:code 60=some LM:=ca
def ep:code 123=some RM:=ca
def ID:code 196=some SM:=ca
def KO:code 195=some TM:=ca
def K0:code 197=some UM:=ca
def I0:code 258=some OM:=ca
def JO:code 198=some PM:=ca
def J0:code 199=some QM:=ca
def H0:code 259=some NM:=ca
def G0:code 127=some MM:=ca
def HO:code 65=some KM:=ca
def Rj:code 257=some oM:=ca
def q0:code 286=some qM:=ca
def p0:code 292=some pM:=ca
def x0:code 53=some wM:=ca
def y0:code 128=some xM:=ca
def GD:code 66=some AM:=ca
def B0:code 130=some zM:=ca
def A0:code 30=some yM:=ca
def g0:code 105=some eM:=ca
def Qq:code 10=some nN:=ca
def V0:code 11=some mN:=ca
def Ps:code 24=some vN:=ca
def W0:code 315=some oN:=ca
def OO:code 316=some pN:=ca
def X0:code 317=some qN:=ca
def YO:code 57=some iO:=ca
def XO:code 116=some gO:=ca
def F1:code 187=some hO:=ca
def G1:code 185=some jO:=ca
def ZO:code 113=some lO:=ca
def aP:code 114=some mO:=ca
def H1:code 115=some kO:=ca
def QZ:code 58=some GL:=ca
def PZ:code 247=some FL:=ca
def CD:code 283=some HL:=ca
def AO:code 117=some NL:=ca
def Su:code 118=some LL:=ca
def SZ:code 189=some KL:=ca
def UZ:code 190=some OL:=ca
def ED:code 191=some RL:=ca
def TZ:code 192=some ML:=ca
def Ay:code 250=some JL:=ca
def DD:code 251=some PL:=ca
def RZ:code 252=some IL:=ca
def VZ:code 284=some QL:=ca
def BO:code 120=some TL:=ca
def WZ:code 188=some UL:=ca
def YZ:code 248=some XL:=ca
def ZZ:code 249=some YL:=ca
def CO:code 193=some VL:=ca
def XZ:code 253=some WL:=ca
def FD:code 254=some SL:=ca
def b0:code 291=some ZL:=ca
def Xu:code 213=some iN:=ca
def JD:code 17=some bN:=ca
def Wu:code 32=some cN:=ca
def Vu:code 61=some CM:=ca
def EO:code 62=some DM:=ca
def C0:code 68=some BM:=ca
def Pq:code 124=some JM:=ca
def dp:code 126=some HM:=ca
def FO:code 200=some FM:=ca
def GO:code 201=some IM:=ca
def E0:code 202=some GM:=ca
def D0:code 261=some EM:=ca
def s0:code 33=some sM:=ca
def Uu:code 70=some vM:=ca
def u0:code 133=some tM:=ca
def ki:code 260=some rM:=ca
def By:code 287=some uM:=ca
def Tu:code 237=some fM:=ca
def DO:code 13=some hM:=ca
def h0:code 129=some gM:=ca
noncomputable abbrev cp:=code
def Ls:code=cp:=rfl
end Go.Proofs.YtglaihdcndcmkaaGreatDoor
