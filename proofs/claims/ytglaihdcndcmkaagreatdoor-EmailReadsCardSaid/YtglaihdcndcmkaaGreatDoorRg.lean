/- Texts of this proof, merged. -/
import Derived.Test.YtglaihdcndcmkaaGreatDoorRf
import Derived.Maps.AppendAt
import Derived.OwnWalk
import Derived.RangeFuncBox
import Derived.RangeFuncNested
import Derived.Shelf.Strings.SlTrimAscii
import Derived.WalkMore
import Derived.Maps.Range
import Derived.Lib.SplitLaws
import Derived.KernelRfl
import Derived.Test.YtglaihdcndcmkaaGreatDoorRows
import Derived.WalkKit
import Derived.WalkSpells
import Derived.Lib.QuietBelow
set_option linter.all false
open Go wa Go.Proofs Go.RowKit Go.Proofs.YtglaihdcndcmkaaGreatDoor
set_option maxHeartbeats 4000000
section
set_option synthInstance.maxSize 4000
namespace wa
def wO{w w'}(h:Below w.heap.size w w')(r):w.grownBy w' r:=⟨h.os,h.tape,h.output,h.size,fun k a _=>h.block k a⟩
def nm{w w'}{R B}(h:w.grownBy w' (some R))(b:B<=R)(a:B<=w.heap.size):Below B w w':=⟨h.os,h.tape,h.output,h.size,fun k c=>h.block k aa ia⟩
def pz(s):(⟨s.data.toList.toArray⟩:ByteArray)=s:=by
 rfl
def MQ{s:ByteArray}(h:0<s.size):s.data.toList.isEmpty=false:=by
 rcases a:s.data.toList with _|⟨c,l⟩
 ·have:s.size=0:=congrArg List.length a
  omega
 ·rfl
end wa
namespace Go.Proofs.YtglaihdcndcmkaaGreatDoor
def Yl(R)(l:List UInt8)(w:World)(b:Boxed w R 261 (.string ⟨l.toArray⟩))(t:List UInt8)(ht:l.dropWhile Ia=t):
 Calls Tryz.prog 207 #[.pointer (some ⟨R,0,none⟩)] w fun e w'=>e=.returned (.tuple #[])/\Boxed w' R 261 (.string ⟨t.toArray⟩)/\w.grownBy w' (some R):=by
 obtain⟨s,hs⟩:∃s:ByteArray,(⟨l.toArray⟩:ByteArray)=s:=⟨_,rfl⟩;have h:=Any.strings_TrimLeft_laid Tryz.T5 ca s ⟨#[32,9]⟩ w ga (ascii_of_all ga);rw[show(ByteArray.mk #[32,9]).data.toList=[32,9]from rfl,zdq,<-hs,show(ByteArray.mk l.toArray).data.toList=l from rfl,ht,hs]at h;rw[hs]at b;obtain⟨u,d⟩:∃u:ByteArray,(⟨t.toArray⟩:ByteArray)=u:=⟨_,rfl⟩;rw[d]at h⊢;have H:=Lib.hid h;have j:=b.cell;have k:=b.frozen;clear h hs ht d
 go_enter Tryz.func207,Tryz.ntmps207
 go_wp2_with(go_at_call 269;refine H.out.mono ?_;rintro e n ⟨rfl,c⟩;have a:=(c.block _ b.lt).trans b;have g:=Boxed.cell a;have i:=Boxed.frozen a)
 go_end0
 exact⟨rfl,Boxed.set _ a,(wO c _).trans (grownBy_setCell' _ _ _)⟩
def vH(R)(c)(l)(w)(q:l.length<=1000000)(i:Boxed w R 261 (.string ⟨l.toArray⟩))(o)(r:Yd c l=o):
 Calls Tryz.prog 209 #[.pointer (some ⟨R,0,none⟩),.int .u8 c.toNat] w fun e w'=>e=.returned (.bool o.isSome)/\Boxed w' R 261 (.string ⟨(o.getD l).toArray⟩)/\w.grownBy w' (some R):=by
 have u:=i.cell;have y:=i.frozen;rcases l with _|⟨d,t⟩
 ·subst r
  go_enter Tryz.func209,Tryz.ntmps209
  go_wp2;go_ret;exact⟨rfl,i,World.grownBy.refl _ _⟩
 ·rw[za]at q
  obtain⟨s,hs⟩:∃s:ByteArray,(⟨(d::t).toArray⟩:ByteArray)=s:=⟨_,rfl⟩;have a:s.size=t.length+1:=by rw[<-hs];rfl
  have g:0<s.size:=aa
  have n:s[0]=d:=by subst hs;rfl
  have b:s.extract 1 s.size=⟨t.toArray⟩:=by
   apply Jk;apply Sg;rw[Lib.extract_data,<-hs];simp[ByteArray.size]
  by_cases k:d=c
  ·obtain rfl:o=some t:=by grind [Yd.eq_2]
   have x:((s[0].toNat:Int) !=(c.toNat:Int))=false:=by rw[n,k];simp
   rw[hs]at i u;have j:=Boxed.set (.string (s.extract 1 s.size)) i;rw[b]at j;have p:=Lib.hid j;have v:=Lib.hid b;rw[<-a]at q;clear j hs n b r a;have ra:s.toList.isEmpty=false:=by rw[Lib.toList_data];exact MQ g
   go_enter Tryz.func209,Tryz.ntmps209
   go_wp2;go_ret;rw[v.out];exact⟨rfl,p.out,grownBy_setCell' _ _ _⟩
  ·obtain rfl:o=none:=by grind [Yd.eq_2]
   have x:((s[0].toNat:Int) !=(c.toNat:Int))=true:=by
    rw[n,bne_iff_ne];intro h;exact k (Yb.1 aa)
   have p:=Lib.hid i;rw[hs]at i u;rw[<-a]at q;clear hs n b r a;have ra:s.toList.isEmpty=false:=by rw[Lib.toList_data];exact MQ g
   go_enter Tryz.func209,Tryz.ntmps209
   go_wp2;go_ret;exact⟨rfl,p.out,World.grownBy.refl _ _⟩
def aP(c)(b)(h:decide (Go.Lib.indexByte [59,61,34,92] c<0)=b)(w):
 Calls Tryz.prog 96 #[.string ⟨#[59,61,34,92]⟩,.int .u8 c.toNat] w fun e w'=>∃n,e=.returned (.int .i64 n)/\decide (n<0)=b/\w'=w:=by
 refine(Tryz.strings_IndexByte ⟨#[59,61,34,92]⟩ c.toNat w).mono ?_;simp_all
set_option maxRecDepth 100000 in
def Yn(R)(l:List UInt8)(w:World)(M:l.length<=1000000)(x:Boxed w R 261 (.string ⟨l.toArray⟩))(t r:List UInt8)(ht:l.takeWhile Fb=t)(hr:l.dropWhile Fb=r):
 Calls Tryz.prog 208 #[.pointer (some ⟨R,0,none⟩)] w fun e w'=>e=.returned (.string ⟨t.toArray⟩)/\Boxed w' R 261 (.string ⟨r.toArray⟩)/\w.grownBy w' (some R):=by
 obtain⟨s,hs⟩:∃s:ByteArray,(⟨l.toArray⟩:ByteArray)=s:=⟨_,rfl⟩;have A:s.data.toList=l:=by rw[<-hs]
 have C:s.size=l.length:=by rw[<-hs];rfl
 rw[hs]at x;rw[<-A]at ht hr;have K:=Lib.hid ht;have J:=Lib.hid hr;have P:=x.cell;have Q:=x.frozen;rw[<-C]at M;clear hs A C ht hr
 go_enter Tryz.func208,Tryz.ntmps208
 go_wp2
 go_loopw [3] (fun i O=>∃k:Nat,i=.int .i64 k/\k<=s.size/\O=w/\Hid (∀j(h:j<s.data.toList.length),j<k->Fb s.data.toList[j]=true)) (fun i _=>s.size - (intOf i).toNat)
 case atStart=>grind [Lib.hid]
 case round=>
  obtain⟨k,rfl,L,rfl,u⟩:=hrel;have v:(∀h:k<s.data.toList.length,Fb s.data.toList[k]=false)->s.extract 0 k=⟨t.toArray⟩/\s.extract k s.size=⟨r.toArray⟩:=by
   intro h;obtain⟨a,z⟩:=HT Fb s.data.toList k u.out h L;rw[K.out]at a;rw[J.out]at z;constructor
   ·apply Jk;apply Sg
    grind [Lib.extract_data]
   ·apply Jk;apply Sg
    rw[Lib.extract_data,Rf da,z]
  have g:=Lib.hid v;clear v;by_cases ea:k<s.size
  ·have a:=E9 s[k]
   have G:(k:Int)<(s.size:Int):=aa
   have o:Fb s[k]=true->Hid (∀j(h:j<s.data.toList.length),j<k+1->Fb s.data.toList[j]=true):=fun H=>Lib.hid (fun j h S=>by
    rcases ai j k with z|z
    ·exact u.out j h z
    ·obtain rfl:j=k:=aa
     exact H)
   have I:=Lib.hid o;clear o;have p:Fb s[k]=false->s.extract 0 k=⟨t.toArray⟩/\s.extract k s.size=⟨r.toArray⟩:=fun H=>g.out (fun _=>H)
   have F:=Lib.hid p;clear p g;rcases d:decide ((s[k].toNat:Int)>32)with _|_
   ·rw[d]at a
    obtain⟨e1,e2⟩:=F.out a;have b:=Lib.hid e1;have c:=Lib.hid e2;replace d:=of_decide_eq_false d;clear a e1 e2;go_wp2;go_ret;rw[b.out,c.out];exact⟨rfl,Boxed.set _ x,grownBy_setCell' _ _ _⟩
   ·rcases q:decide ((s[k].toNat:Int)<127)with _|_
    ·rw[d,q]at a
     obtain⟨e1,e2⟩:=F.out a;have b:=Lib.hid e1;have c:=Lib.hid e2;replace d:=of_decide_eq_true d;replace q:=of_decide_eq_false q;clear a e1 e2;go_wp2;go_ret;rw[b.out,c.out];exact⟨rfl,Boxed.set _ x,grownBy_setCell' _ _ _⟩
    ·rcases y:decide (Go.Lib.indexByte [59,61,34,92] s[k]<0)with _|_
     ·rw[d,q,y]at a
      obtain⟨e1,e2⟩:=F.out a;have b:=Lib.hid e1;have c:=Lib.hid e2;have D:=Lib.hid y;replace d:=of_decide_eq_true d;replace q:=of_decide_eq_true q;clear a e1 e2 y
      go_wp2_with(go_at_call 96;refine(aP s[k] false D.out _).mono ?_;rintro e N ⟨n,rfl,B,rfl⟩;replace B:=of_decide_eq_false B)
      go_ret;rw[b.out,c.out];exact⟨rfl,Boxed.set _ x,grownBy_setCell' _ _ _⟩
     ·rw[d,q,y]at a
      have E:=I.out a;have D:=Lib.hid y;replace d:=of_decide_eq_true d;replace q:=of_decide_eq_true q;clear a y
      go_wp2_with(go_at_call 96;refine(aP s[k] true D.out _).mono ?_;rintro e N ⟨n,rfl,B,rfl⟩;replace B:=of_decide_eq_true B)
      go_roundw
      case rel=>exact⟨k+1,by go_num,aa,trivial,E⟩
      grind [intOf]
  ·have G:¬(k:Int)<(s.size:Int):=aa
   have a:(k:Int)<=(s.size:Int):=aa
   obtain⟨e1,e2⟩:=g.out (fun h=>absurd h ea);have b:=Lib.hid e1;have c:=Lib.hid e2;clear e1 e2;go_wp2;go_ret;rw[b.out,c.out];exact⟨rfl,Boxed.set _ x,grownBy_setCell' _ _ _⟩
end Go.Proofs.YtglaihdcndcmkaaGreatDoor
end
section
set_option synthInstance.maxSize 4000
namespace wa
def tg(l:List UInt8)(k:Nat):Option (List UInt8×List UInt8):=ri (l.length - k+1) (l.drop k)
def X9(l):tg l 0=ri (l.length+1) l:=ja
def YR(l)(k)(h:l.length<=k):tg l k=none:=by
 unfold tg;rw[Ai h];rfl
theorem XR(l)(k)(h):tg l k=if l[k]=34 then some ([],l.drop (k+1))else if l[k]<32\/126<l[k]then none else if l[k]=92 then(match l[k+1]? with
 |none=>none
 |some d=>if d=34\/d=92 then(tg l (k+2)).map fun p=>(d::p.1,p.2)else none)
 else(tg l (k+1)).map fun p=>(l[k]::p.1,p.2):=by
 grind [tg,List.drop_eq_getElem_cons,ri,Sz]
def tJ:∀c:UInt8,c=34->((c.toNat:Int)==34)=true:=da
def vJ:∀c:UInt8,¬c=34->((c.toNat:Int)==34)=false:=lc
def uJ:∀c:UInt8,¬c=34->((c.toNat:Int) !=34)=true:=lc
def wJ:∀c:UInt8,c=34->((c.toNat:Int) !=34)=false:=da
def yJ:∀c:UInt8,c=92->((c.toNat:Int)==92)=true:=da
def AJ:∀c:UInt8,¬c=92->((c.toNat:Int)==92)=false:=lc
def zJ:∀c:UInt8,¬c=92->((c.toNat:Int) !=92)=true:=lc
def BJ:∀c:UInt8,c=92->((c.toNat:Int) !=92)=false:=da
def rJ:∀c:UInt8,c<32->(c.toNat:Int)<32:=lc
def sJ:∀c:UInt8,¬c<32->¬(c.toNat:Int)<32:=lc
def pJ:∀c:UInt8,126<c->(c.toNat:Int)>126:=lc
def qJ:∀c:UInt8,¬126<c->¬(c.toNat:Int)>126:=lc
end wa
namespace Go.Proofs.YtglaihdcndcmkaaGreatDoor
def Y9(R:Nat)(w:World):Option (List UInt8×List UInt8)->Ending->World->Prop
 |none,e,w'=>e=.returned (.tuple #[.string ⟨#[]⟩,.bool false])/\w.grownBy w' (some R)
 |some (v,r),e,w'=>e=.returned (.tuple #[.string ⟨v.toArray⟩,.bool true])/\Boxed w' R 261 (.string ⟨r.toArray⟩)/\w.grownBy w' (some R)
def ts{w wr}{R}(h:Below w.heap.size w wr):w.grownBy wr (some R):=wO h _
set_option maxRecDepth 100000 in
def bS(R)(l)(w)(hlZ:l.length<=1000000)(F:Boxed w R 261 (.string ⟨l.toArray⟩))(Q)(I:ri (l.length+1) l=Q):
 Calls Tryz.prog 270 #[.pointer (some ⟨R,0,none⟩)] w (Y9 R w Q):=by
 obtain⟨s,hs⟩:∃s:ByteArray,(⟨l.toArray⟩:ByteArray)=s:=⟨_,rfl⟩;have D:s.data.toList=l:=by rw[<-hs]
 have E:s.size=l.length:=by rw[<-hs];rfl
 rw[hs]at F;rw[<-X9,<-D]at I;have Y:=Lib.hid I;have J:=F.lt;have hfz:=F.frozen;rw[<-E]at hlZ;clear hs D E I
 go_enter Tryz.func270,Tryz.ntmps270
 go_wp2
 go_step3
 go_wp2
 go_step3
 go_wp2
 go_loopw [4,5,6,20,23,30] (fun v i _ _ _ _ wr=>∃(k:Nat)(n:List UInt8),i=.int .i64 k/\k<=s.size/\n.length<=k/\xe w.heap.size 5 v n wr/\Below w.heap.size w wr/\Hid (Q=(tg s.data.toList k).map fun p=>(n++p.1,p.2)))
  (fun _ i _ _ _ _ _=>s.size - (intOf i).toNat)
 case atStart=>exact⟨0,[],rfl,Za _,la _,xe.nil _ _ _,Below.refl _ _,Lib.hid (by rw[Y.out];simp)⟩
 case round=>
  obtain⟨k,n,rfl,hkZ,Z,q,b,G⟩:=hrel;have u:Boxed wr R 261 (.string s):=(b.block _ J).trans F;have hcr:=u.cell;have hfr:=u.frozen;have H:=Lib.hid u;clear u;by_cases ea:k<s.size
  ·have M:(k:Int)<(s.size:Int):=aa
   have N:((k:Int)==(s.size:Int))=false:=by rw[beq_eq_false_iff_ne];omega
   have a:=G.out;rw[XR _ k ea]at a;have K:s.data.toList[k]=s[k]:=rfl;simp only[K]at a;by_cases j:s[k]=34
   ·rw[if_pos j]at a
    have hxZ:=tJ _ j;have r:=Lib.hid a;have S:IntKind.i64.wrap ((k:Int)+1)=(k:Int)+1:=IntWalk.i64_in _ aa;have d:(0:Int)<=(k:Int)+1:=aa
    have o:((k:Int)+1).toNat=k+1:=aa
    have t:=sn (P:=Tryz.prog) Tryz.underlying99 Tryz.underlying5 Tryz.underlying9 (Ot q (grownBy_setCell' wr R (.string (s.extract (k+1) s.size))) (.inr (fun e=>by have:=(World.ownsRow.lt q R e).1;omega)));have c:=Lib.hid (Boxed.set (.string (s.extract (k+1) s.size)) H.out);clear a j;go_wp2
    go_ret2
    rw[r.out];refine⟨?_,?_,(ts b).trans (grownBy_setCell' _ _ _)⟩
    ·simp
    ·have e:s.extract (k+1) s.size=⟨(s.data.toList.drop (k+1)).toArray⟩:=by
      apply Jk;apply Sg;rw[Lib.extract_data,Rf da]
     have h:=c.out;simp_all
   ·have hxZ:=vJ _ j
    rw[if_neg j]at a;by_cases c:s[k]<32\/126<s[k]
    ·rw[if_pos c]at a
     have r:=Lib.hid a;clear a j;rcases c with h|h
     ·have W:=rJ _ h
      clear h;go_wp2
      go_ret2
      rw[r.out];exact⟨rfl,ts b⟩
     ·have W:=pJ _ h
      have hzZ:¬(s[k].toNat:Int)<32:=aa
      clear h;go_wp2
      go_ret2
      rw[r.out];exact⟨rfl,ts b⟩
    ·rw[if_neg c]at a
     have W:=sJ _ (fun h=>c (.inl h));have hzZ:=qJ _ (fun h=>c (.inr h));by_cases o:s[k]=92
     ·rw[if_pos o]at a
      have huZ:=yJ _ o;have S:IntKind.i64.wrap ((k:Int)+1)=(k:Int)+1:=IntWalk.i64_in _ aa;by_cases L:k+1<s.size
      ·rw[qe (show k+1<s.data.toList.length from L)]at a
       have B:s.data.toList[k+1]=s[k+1]:=rfl;simp only[B]at a;have U:(k:Int)+1<(s.size:Int):=aa
       have C:((k:Int)+1==(s.size:Int))=false:=by rw[beq_eq_false_iff_ne];omega
       by_cases y:s[k+1]=34\/s[k+1]=92
       ·rw[if_pos y]at a
        have r:=Lib.hid (show Q=(tg s.data.toList (k+2)).map fun p=>((n++[s[k+1]])++p.1,p.2) by rw[a];simp[Function.comp_def]);clear a j c o G;rcases y with h|h
        ·have V:=wJ _ h
         clear h
         go_wp2_with(at_builtin;refine ih ja _ _ _ ja 5 Tryz.underlying99 infoByte w.heap.size wr _ _ ja q (s[k+1]) ja aa b.size ?_;intro g z X T d A t x)
         go_roundw
         case rel=>exact⟨k+2,n++[s[k+1]],by go_num,aa,Sa,d,b.trans t,r⟩
         case measure=>simp[intOf];omega
        ·have V:=BJ _ h
         have O:((s[k+1].toNat:Int) !=34)=true:=by rw[h];rfl
         clear h
         go_wp2_with(at_builtin;refine ih ja _ _ _ ja 5 Tryz.underlying99 infoByte w.heap.size wr _ _ ja q (s[k+1]) ja aa b.size ?_;intro g z X T d A t x)
         go_roundw
         case rel=>exact⟨k+2,n++[s[k+1]],by go_num,aa,Sa,d,b.trans t,r⟩
         case measure=>simp[intOf];omega
       ·rw[if_neg y]at a
        have r:=Lib.hid a;have V:=uJ _ (fun h=>y (.inl h));have O:=zJ _ (fun h=>y (.inr h));clear a j c o y;go_wp2
        go_ret2
        rw[r.out];exact⟨rfl,ts b⟩
      ·rw[Ie (show s.data.toList.length<=k+1 by simp_all)]at a
       have r:=Lib.hid a;have C:((k:Int)+1==(s.size:Int))=true:=by rw[beq_iff_eq];omega
       clear a j c o;go_wp2
       go_ret2
       rw[r.out];exact⟨rfl,ts b⟩
     ·rw[if_neg o]at a
      have huZ:=AJ _ o;have r:=Lib.hid (show Q=(tg s.data.toList (k+1)).map fun p=>((n++[s[k]])++p.1,p.2) by rw[a];simp[Function.comp_def]);clear a j c o G
      go_wp2_with(at_builtin;refine ih ja _ _ _ ja 5 Tryz.underlying99 infoByte w.heap.size wr _ _ ja q (s[k]) ja aa b.size ?_;intro g z X T d A t x)
      go_roundw
      case rel=>exact⟨k+1,n++[s[k]],by go_num,aa,Sa,d,b.trans t,r⟩
      case measure=>simp[intOf];omega
  ·have M:¬(k:Int)<(s.size:Int):=aa
   have N:((k:Int)==(s.size:Int))=true:=by rw[beq_iff_eq];omega
   have r:=Lib.hid (show Q=none by rw[G.out,YR _ _ (show s.data.toList.length<=k by simp_all)];rfl);go_wp2
   go_ret2
   rw[r.out];exact⟨rfl,ts b⟩
end Go.Proofs.YtglaihdcndcmkaaGreatDoor
end
section
set_option synthInstance.maxSize 4000
namespace wa
def fc(w:World)(B t:Nat)(a b:ByteArray):Prop:=w.heap[B]?=some (.cells #[.string a,.string b] t (0,0))
theorem fc.lt{w}{B t}{a b}(h:fc w B t a b):B<w.heap.size:=(xg.1 h).1
def fc.cell0{w}{B t}{a b}(h:fc w B t a b):w.cell? ⟨B,0,none⟩=some (.string a):=by simp[World.cell?,show w.heap[B]?=_ from h]
def fc.qd{w}{B t}{a b}(h:fc w B t a b):w.cell? ⟨B,1,none⟩=some (.string b):=by simp[World.cell?,show w.heap[B]?=_ from h]
def fc.frozen0{w}{B t}{a b}(h:fc w B t a b):w.frozen? ⟨B,0,none⟩=false:=by simp[World.frozen?,show w.heap[B]?=_ from h]
def fc.Md{w}{B t}{a b}(h:fc w B t a b):w.frozen? ⟨B,1,none⟩=false:=by simp[World.frozen?,show w.heap[B]?=_ from h]
def fc.kept{w w'}{B t}{a b}{r}(h:fc w B t a b)(k:w.grownBy w' r)(ra:some B≠r):fc w' B t a b:=(k.block B h.lt ra).trans h
def fc.vt{w}{B t}{a b}(h:fc w B t a b)(c):fc (w.setCell ⟨B,0,none⟩ (.string c)) B t c b:=by
 obtain⟨ea,d⟩:=xg.1 h;show(w.heap.modify B _)[B]?=_
 grind
def fc.wt{w}{B t}{a b}(h:fc w B t a b)(c):fc (w.setCell ⟨B,1,none⟩ (.string c)) B t a c:=by
 obtain⟨ea,d⟩:=xg.1 h;show(w.heap.modify B _)[B]?=_
 grind
def Yk(w:World)(B k)(v):w.grownBy (w.setCell ⟨B,k,none⟩ v) (some B):=by
 refine⟨rfl,rfl,rfl,da,fun i b ra=>?_⟩;have a:B≠i:=fun e=>ra (by rw[e])
 show(w.heap.modify B _)[i]?=_
 grind
def grown_fresh{w w':World}{R B k}{v}(h:w.grownBy w' (some R))(a:w.heap.size<=B):w.grownBy (w'.setCell ⟨B,k,none⟩ v) (some R):=
 World.grownBy.andThen h (Yk w' B k v) (fun j e=>by grind)
def wD{w w':World}{r}(h:w.grownBy w' r):w.grownBy w'.drew r:=⟨h.os,h.tape,h.output,h.size,h.block⟩
def fc.new(w:World)(t:Nat)(a b):fc (w.alloc (.cells #[.string a,.string b] t)) w.heap.size t a b:=World.alloc_heap_new w _
end wa
namespace Go.Proofs.YtglaihdcndcmkaaGreatDoor
def Uv(R)(l)(w:World)(b:l.length<=1000000)(a:Boxed w R 261 (.string ⟨l.toArray⟩))(o:Option (List UInt8))(c:Yd 61 l=o):
 Calls Tryz.prog 209 #[.pointer (some ⟨R,0,none⟩),.int .u8 61] w fun e w'=>e=.returned (.bool o.isSome)/\Boxed w' R 261 (.string ⟨(o.getD l).toArray⟩)/\w.grownBy w' (some R):=vH R 61 l w b a o c
def kA(R)(l)(w:World)(b:l.length<=1000000)(a:Boxed w R 261 (.string ⟨l.toArray⟩))(o:Option (List UInt8))(c:Yd 34 l=o):
 Calls Tryz.prog 209 #[.pointer (some ⟨R,0,none⟩),.int .u8 34] w fun e w'=>e=.returned (.bool o.isSome)/\Boxed w' R 261 (.string ⟨(o.getD l).toArray⟩)/\w.grownBy w' (some R):=vH R 34 l w b a o c
def lA(R)(l)(w:World)(b:l.length<=1000000)(a:Boxed w R 261 (.string ⟨l.toArray⟩))(o:Option (List UInt8))(c:Yd 59 l=o):
 Calls Tryz.prog 209 #[.pointer (some ⟨R,0,none⟩),.int .u8 59] w fun e w'=>e=.returned (.bool o.isSome)/\Boxed w' R 261 (.string ⟨(o.getD l).toArray⟩)/\w.grownBy w' (some R):=vH R 59 l w b a o c
def Ls(s)(b)(h:Ue s.data.toList=b)(w)(hs:s.size<=maxLen):Calls Tryz.prog 137 #[.string s] w (Rb (.bool b) w):=h▸GQ s w hs
def qt{w}{tmps}{B}{a b}{ok}(h:fc w B 180 a b)
 (c:tmps.getD 2 undef=.pointer (some ⟨B,0,none⟩):=by rfl) (d:tmps.getD 3 undef=.bool ok:=by rfl):
 (results Tryz.f210 tmps).run Tryz.prog w=.ok (.tuple #[.agg #[.string a,.string b],.bool ok]) w:=by
 rw[Im]at c d;have e:=h.cell0;have c1:=h.qd;simp[results,Tryz.results210,go_sem,e,c1,c,d]
def j8(R:Nat)(w:World):Option (ec×List UInt8)->Ending->World->Prop
 |none,e,w'=>(∃a b,e=.returned (.tuple #[.agg #[.string a,.string b],.bool false]))/\w.grownBy w' (some R)
 |some (p,r),e,w'=>e=.returned (.tuple #[.agg #[.string ⟨p.1.toArray⟩,.string ⟨p.2.toArray⟩],.bool true])/\Boxed w' R 261 (.string ⟨r.toArray⟩)/\w.grownBy w' (some R)
set_option maxRecDepth 100000 in
def RG(R)(l)(w:World)(hlZ:l.length<=1000000)(hbZ:Boxed w R 261 (.string ⟨l.toArray⟩))(Q)(hQZ:vk l=Q):
 Calls Tryz.prog 210 #[.pointer (some ⟨R,0,none⟩)] w (j8 R w Q):=by
 obtain⟨W,h1Z⟩:∃W,l.dropWhile Ia=W:=⟨_,rfl⟩;obtain⟨k,hkZ⟩:∃k,W.takeWhile Fb=k:=⟨_,rfl⟩;obtain⟨l2Z,h2Z⟩:∃l2Z,W.dropWhile Fb=l2Z:=⟨_,rfl⟩;unfold vk at hQZ;rw[h1Z,hkZ,h2Z]at hQZ;have hl1:W.length<=1000000:=by have:=gi Ia l;rw[h1Z]at this;omega
 have hl2:l2Z.length<=1000000:=by have:=gi Fb W;rw[h2Z]at this;omega
 have hlk:k.length<=1000000:=by have:=tw Fb W;rw[hkZ]at this;omega
 have hb0:Boxed (w.alloc (.cells #[.string ⟨#[]⟩,.string ⟨#[]⟩] 180)) R 261 (.string ⟨l.toArray⟩):=hbZ.alloc _;have hp0:=fc.new w 180 ⟨#[]⟩ ⟨#[]⟩;have hRl:=hbZ.lt;have HB0:=Lib.hid hb0;have HP0:=Lib.hid hp0;have H1Z:=Lib.hid h1Z;have HKZ:=Lib.hid hkZ;have H2Z:=Lib.hid h2Z;have HQZ:=Lib.hid hQZ;clear hb0 hp0 h1Z hkZ h2Z hQZ hbZ;obtain⟨K,hKZ⟩:∃K:ByteArray,(⟨k.toArray⟩:ByteArray)=K:=⟨_,rfl⟩;have hKs:K.size<=maxLen:=by rw[<-hKZ];show k.length<=maxLen;unfold maxLen;omega
 have hKd:K.data.toList=k:=by rw[<-hKZ]
 have HKK:=Lib.hid hKZ;clear hKZ;have ra:some w.heap.size≠some R:=Sa
 rcases hnZ:Ue k with _|_
 ·have HNZ:=Lib.hid (show Ue K.data.toList=false by grind)
  have G:=HQZ.out;rw[hnZ,if_neg da]at G;subst G;clear hnZ hKd
  go_enter Tryz.func210,Tryz.ntmps210
  go_wp2_with(first|(go_at_call 207;refine(Yl R l _ HB0.out W H1Z.out).mono ?_;rintro e w1Z ⟨rfl,B,C⟩;have z:=Lib.hid C;have I:=Lib.hid B;clear C B)|(go_at_call 208;refine(Yn R W _ hl1 I.out k l2Z HKZ.out H2Z.out).mono ?_;rintro e t ⟨rfl,p,q⟩;clear HKZ;rw[HKK.out];have a:=(HP0.out.kept z.out ra).kept q ra;have H:=Lib.hid (((zg w _ _).trans z.out).trans q);have N:=Lib.hid (Boxed.alloc p (.cells #[.string K,.string ⟨#[]⟩] 180));have O:=Lib.hid (a.kept (zg t (.cells #[.string K,.string ⟨#[]⟩] 180) none) da);have A:=fc.new t 180 K ⟨#[]⟩;have hRw:R<t.heap.size:=Boxed.lt p;have T:w.heap.size<t.heap.size:=fc.lt a;have g:some t.heap.size≠some R:=Sa;have D:=Lib.hid (H.out.trans (zg t (.cells #[.string K,.string ⟨#[]⟩] 180) (some R)));have P:=Lib.hid A;have Z:=a.cell0;have hBc1:=a.qd;have hBf0:=a.frozen0;have hBf1:=a.Md;have HBW:=Lib.hid a;clear q p a A)|(go_at_call 137;refine(Ls K false HNZ.out _ hKs).mono ?_;rintro e w3Z ⟨rfl,rfl⟩))
  refine bodyPost_ret (qt (((HBW.out.vt K).wt ⟨#[]⟩).kept (zg _ _ none) da)) rfl ?_;exact⟨⟨_,_,rfl⟩,(grown_fresh (grown_fresh H.out (la _)) (la _)).trans (zg _ _ _)⟩
 ·have HNZ:=Lib.hid (show Ue K.data.toList=true by grind)
  rcases hs:Yd 61 l2Z with _|l3Z
  ·have HSZ:=Lib.hid hs
   have G:=HQZ.out;rw[hnZ,if_pos rfl,hs]at G;subst G;clear hnZ hKd hs
   go_enter Tryz.func210,Tryz.ntmps210
   go_wp2_with(first|(go_at_call 207;refine(Yl R l _ HB0.out W H1Z.out).mono ?_;rintro e w1Z ⟨rfl,B,C⟩;have z:=Lib.hid C;have I:=Lib.hid B;clear C B)|(go_at_call 208;refine(Yn R W _ hl1 I.out k l2Z HKZ.out H2Z.out).mono ?_;rintro e t ⟨rfl,p,q⟩;clear HKZ;rw[HKK.out];have a:=(HP0.out.kept z.out ra).kept q ra;have H:=Lib.hid (((zg w _ _).trans z.out).trans q);have N:=Lib.hid (Boxed.alloc p (.cells #[.string K,.string ⟨#[]⟩] 180));have O:=Lib.hid (a.kept (zg t (.cells #[.string K,.string ⟨#[]⟩] 180) none) da);have A:=fc.new t 180 K ⟨#[]⟩;have hRw:R<t.heap.size:=Boxed.lt p;have T:w.heap.size<t.heap.size:=fc.lt a;have g:some t.heap.size≠some R:=Sa;have D:=Lib.hid (H.out.trans (zg t (.cells #[.string K,.string ⟨#[]⟩] 180) (some R)));have P:=Lib.hid A;have Z:=a.cell0;have hBc1:=a.qd;have hBf0:=a.frozen0;have hBf1:=a.Md;have HBW:=Lib.hid a;clear q p a A)|(go_at_call 137;refine(Ls K true HNZ.out _ hKs).mono ?_;rintro e w3Z ⟨rfl,rfl⟩)|(go_at_call 209;refine(Uv R l2Z _ hl2 N.out none HSZ.out).mono ?_;rintro e w3Z ⟨rfl,F,o⟩;clear HSZ;have d:=P.out.kept o g;have b:=O.out.kept o ra;have S:=Lib.hid (D.out.trans o);have X:=Lib.hid F;have Y:=Lib.hid d;have E:=Lib.hid b;have c0Z:=d.cell0;have c1:=d.qd;have f0Z:=d.frozen0;have f1Z:=d.Md;have d0Z:=b.cell0;have d1Z:=b.qd;have e0Z:=b.frozen0;have e1:=b.Md;clear F o d b))
   refine bodyPost_ret (qt ((E.out.vt K).wt ⟨#[]⟩)) rfl ?_;exact⟨⟨_,_,rfl⟩,grown_fresh (grown_fresh S.out (la _)) (la _)⟩
  ·have HSZ:=Lib.hid hs
   have hl3:l3Z.length<=1000000:=by have:=congrArg List.length (Vv hs);rw[za]at this;omega
   have hBP:=ra;rcases U:Yd 34 l3Z with _|l4Z
   ·obtain⟨v,hvZ⟩:∃v,l3Z.takeWhile Fb=v:=⟨_,rfl⟩
    obtain⟨r,hr⟩:∃r,l3Z.dropWhile Fb=r:=⟨_,rfl⟩;obtain⟨V,hVV⟩:∃V:ByteArray,(⟨v.toArray⟩:ByteArray)=V:=⟨_,rfl⟩;have HTZ:=Lib.hid U;have HVV:=Lib.hid hvZ;have HRR:=Lib.hid hr;have HVZ:=Lib.hid hVV;have G:=HQZ.out;rw[hnZ,if_pos rfl,hs]at G;dsimp only at G;rw[U]at G;dsimp only at G;rw[hvZ,hr]at G;by_cases hv0:v=[]
    ·rw[if_pos hv0]at G
     subst G;have hem:V.toList.isEmpty=true:=by rw[Lib.toList_data,<-hVV,hv0];rfl
     clear hnZ hKd hs U hvZ hr hVV hv0
     go_enter Tryz.func210,Tryz.ntmps210
     go_wp2_with(first|(go_at_call 207;refine(Yl R l _ HB0.out W H1Z.out).mono ?_;rintro e w1Z ⟨rfl,B,C⟩;have z:=Lib.hid C;have I:=Lib.hid B;clear C B)|(go_at_call 208;refine(Yn R W _ hl1 I.out k l2Z HKZ.out H2Z.out).mono ?_;rintro e t ⟨rfl,p,q⟩;clear HKZ;rw[HKK.out];have a:=(HP0.out.kept z.out ra).kept q ra;have H:=Lib.hid (((zg w _ _).trans z.out).trans q);have N:=Lib.hid (Boxed.alloc p (.cells #[.string K,.string ⟨#[]⟩] 180));have O:=Lib.hid (a.kept (zg t (.cells #[.string K,.string ⟨#[]⟩] 180) none) da);have A:=fc.new t 180 K ⟨#[]⟩;have hRw:R<t.heap.size:=Boxed.lt p;have T:w.heap.size<t.heap.size:=fc.lt a;have g:some t.heap.size≠some R:=Sa;have D:=Lib.hid (H.out.trans (zg t (.cells #[.string K,.string ⟨#[]⟩] 180) (some R)));have P:=Lib.hid A;have Z:=a.cell0;have hBc1:=a.qd;have hBf0:=a.frozen0;have hBf1:=a.Md;have HBW:=Lib.hid a;clear q p a A)|(go_at_call 137;refine(Ls K true HNZ.out _ hKs).mono ?_;rintro e w3Z ⟨rfl,rfl⟩)|(go_at_call 209;refine(Uv R l2Z _ hl2 N.out (some l3Z) HSZ.out).mono ?_;rintro e w3Z ⟨rfl,F,o⟩;clear HSZ;have d:=P.out.kept o g;have b:=O.out.kept o ra;have S:=Lib.hid (D.out.trans o);have X:=Lib.hid F;have Y:=Lib.hid d;have E:=Lib.hid b;have c0Z:=d.cell0;have c1:=d.qd;have f0Z:=d.frozen0;have f1Z:=d.Md;have d0Z:=b.cell0;have d1Z:=b.qd;have e0Z:=b.frozen0;have e1:=b.Md;clear F o d b)|(go_at_call 209;refine(kA R l3Z _ hl3 X.out none HTZ.out).mono ?_;rintro e w4Z ⟨rfl,M,x⟩;clear HTZ;have j:=Y.out.kept x g;have h:=E.out.kept x ra;have HG4:=Lib.hid (S.out.trans x);have HB4:=Lib.hid M;have HP4:=Lib.hid j;have J:=Lib.hid h;have c40:=j.cell0;have c41:=j.qd;have f40:=j.frozen0;have f41:=j.Md;have d40:=h.cell0;have d41:=h.qd;have e40:=h.frozen0;have e41:=h.Md;clear M x j h)|(go_at_call 208;refine(Yn R l3Z _ hl3 HB4.out v r HVV.out HRR.out).mono ?_;rintro e w5Z ⟨rfl,hb5,y⟩;rw[HVZ.out];have n:=HP4.out.kept y g;have i:=J.out.kept y ra;have HG5:=Lib.hid (HG4.out.trans y);have HB5:=Lib.hid hb5;have HP5:=Lib.hid n;have L:=Lib.hid i;have c50:=n.cell0;have c51:=n.qd;have f50:=n.frozen0;have f51:=n.Md;have d50:=i.cell0;have d51:=i.qd;have e50:=i.frozen0;have e51:=i.Md;clear hb5 y n i))
     go_region
     all_goals
      go_wp2;refine bodyPost_ret (qt (((L.out.kept (Yk _ _ 1 (.string V)) ia).vt K).wt V)) rfl ?_;exact⟨⟨_,_,rfl⟩,wD (grown_fresh (grown_fresh (grown_fresh HG5.out (Nat.le_of_lt T)) (la _)) (la _))⟩
    ·rw[if_neg hv0]at G
     subst G;have hem:V.toList.isEmpty=false:=by
      rw[Lib.toList_data,<-hVV];rcases v with _|⟨c,u⟩
      ·grind
      ·rfl
     clear hnZ hKd hs U hvZ hr hVV hv0
     go_enter Tryz.func210,Tryz.ntmps210
     go_wp2_with(first|(go_at_call 207;refine(Yl R l _ HB0.out W H1Z.out).mono ?_;rintro e w1Z ⟨rfl,B,C⟩;have z:=Lib.hid C;have I:=Lib.hid B;clear C B)|(go_at_call 208;refine(Yn R W _ hl1 I.out k l2Z HKZ.out H2Z.out).mono ?_;rintro e t ⟨rfl,p,q⟩;clear HKZ;rw[HKK.out];have a:=(HP0.out.kept z.out ra).kept q ra;have H:=Lib.hid (((zg w _ _).trans z.out).trans q);have N:=Lib.hid (Boxed.alloc p (.cells #[.string K,.string ⟨#[]⟩] 180));have O:=Lib.hid (a.kept (zg t (.cells #[.string K,.string ⟨#[]⟩] 180) none) da);have A:=fc.new t 180 K ⟨#[]⟩;have hRw:R<t.heap.size:=Boxed.lt p;have T:w.heap.size<t.heap.size:=fc.lt a;have g:some t.heap.size≠some R:=Sa;have D:=Lib.hid (H.out.trans (zg t (.cells #[.string K,.string ⟨#[]⟩] 180) (some R)));have P:=Lib.hid A;have Z:=a.cell0;have hBc1:=a.qd;have hBf0:=a.frozen0;have hBf1:=a.Md;have HBW:=Lib.hid a;clear q p a A)|(go_at_call 137;refine(Ls K true HNZ.out _ hKs).mono ?_;rintro e w3Z ⟨rfl,rfl⟩)|(go_at_call 209;refine(Uv R l2Z _ hl2 N.out (some l3Z) HSZ.out).mono ?_;rintro e w3Z ⟨rfl,F,o⟩;clear HSZ;have d:=P.out.kept o g;have b:=O.out.kept o ra;have S:=Lib.hid (D.out.trans o);have X:=Lib.hid F;have Y:=Lib.hid d;have E:=Lib.hid b;have c0Z:=d.cell0;have c1:=d.qd;have f0Z:=d.frozen0;have f1Z:=d.Md;have d0Z:=b.cell0;have d1Z:=b.qd;have e0Z:=b.frozen0;have e1:=b.Md;clear F o d b)|(go_at_call 209;refine(kA R l3Z _ hl3 X.out none HTZ.out).mono ?_;rintro e w4Z ⟨rfl,M,x⟩;clear HTZ;have j:=Y.out.kept x g;have h:=E.out.kept x ra;have HG4:=Lib.hid (S.out.trans x);have HB4:=Lib.hid M;have HP4:=Lib.hid j;have J:=Lib.hid h;have c40:=j.cell0;have c41:=j.qd;have f40:=j.frozen0;have f41:=j.Md;have d40:=h.cell0;have d41:=h.qd;have e40:=h.frozen0;have e41:=h.Md;clear M x j h)|(go_at_call 208;refine(Yn R l3Z _ hl3 HB4.out v r HVV.out HRR.out).mono ?_;rintro e w5Z ⟨rfl,hb5,y⟩;rw[HVZ.out];have n:=HP4.out.kept y g;have i:=J.out.kept y ra;have HG5:=Lib.hid (HG4.out.trans y);have HB5:=Lib.hid hb5;have HP5:=Lib.hid n;have L:=Lib.hid i;have c50:=n.cell0;have c51:=n.qd;have f50:=n.frozen0;have f51:=n.Md;have d50:=i.cell0;have d51:=i.qd;have e50:=i.frozen0;have e51:=i.Md;clear hb5 y n i))
     go_region
     all_goals
      go_wp2;refine bodyPost_ret (qt (((L.out.kept (Yk _ _ 1 (.string V)) ia).vt K).wt V)) rfl ?_;exact⟨by grind [Hid.out],((HB5.out.kept (Yk _ t.heap.size 1 (.string V)) ia).kept (Yk _ w.heap.size 0 (.string K)) ia).kept (wD (Yk _ w.heap.size 1 (.string V))) (yi ra),wD (grown_fresh (grown_fresh (grown_fresh HG5.out (Nat.le_of_lt T)) (la _)) (la _))⟩
   ·have HTZ:=Lib.hid U
    have hl4:l4Z.length<=1000000:=by have:=congrArg List.length (Vv U);rw[za]at this;omega
    have G:=HQZ.out;rw[hnZ,if_pos rfl,hs]at G;dsimp only at G;rw[U]at G;dsimp only at G;rcases hqq:ri (l4Z.length+1) l4Z with _|⟨v,r⟩
    ·rw[hqq]at G
     replace G:=G;subst G;have HQQ:=Lib.hid hqq;clear hnZ hKd hs U hqq
     go_enter Tryz.func210,Tryz.ntmps210
     go_wp2_with(first|(go_at_call 207;refine(Yl R l _ HB0.out W H1Z.out).mono ?_;rintro e w1Z ⟨rfl,B,C⟩;have z:=Lib.hid C;have I:=Lib.hid B;clear C B)|(go_at_call 208;refine(Yn R W _ hl1 I.out k l2Z HKZ.out H2Z.out).mono ?_;rintro e t ⟨rfl,p,q⟩;clear HKZ;rw[HKK.out];have a:=(HP0.out.kept z.out ra).kept q ra;have H:=Lib.hid (((zg w _ _).trans z.out).trans q);have N:=Lib.hid (Boxed.alloc p (.cells #[.string K,.string ⟨#[]⟩] 180));have O:=Lib.hid (a.kept (zg t (.cells #[.string K,.string ⟨#[]⟩] 180) none) da);have A:=fc.new t 180 K ⟨#[]⟩;have hRw:R<t.heap.size:=Boxed.lt p;have T:w.heap.size<t.heap.size:=fc.lt a;have g:some t.heap.size≠some R:=Sa;have D:=Lib.hid (H.out.trans (zg t (.cells #[.string K,.string ⟨#[]⟩] 180) (some R)));have P:=Lib.hid A;have Z:=a.cell0;have hBc1:=a.qd;have hBf0:=a.frozen0;have hBf1:=a.Md;have HBW:=Lib.hid a;clear q p a A)|(go_at_call 137;refine(Ls K true HNZ.out _ hKs).mono ?_;rintro e w3Z ⟨rfl,rfl⟩)|(go_at_call 209;refine(Uv R l2Z _ hl2 N.out (some l3Z) HSZ.out).mono ?_;rintro e w3Z ⟨rfl,F,o⟩;clear HSZ;have d:=P.out.kept o g;have b:=O.out.kept o ra;have S:=Lib.hid (D.out.trans o);have X:=Lib.hid F;have Y:=Lib.hid d;have E:=Lib.hid b;have c0Z:=d.cell0;have c1:=d.qd;have f0Z:=d.frozen0;have f1Z:=d.Md;have d0Z:=b.cell0;have d1Z:=b.qd;have e0Z:=b.frozen0;have e1:=b.Md;clear F o d b)|(go_at_call 209;refine(kA R l3Z _ hl3 X.out (some l4Z) HTZ.out).mono ?_;rintro e w4Z ⟨rfl,M,x⟩;clear HTZ;have j:=Y.out.kept x g;have h:=E.out.kept x ra;have HG4:=Lib.hid (S.out.trans x);have HB4:=Lib.hid M;have HP4:=Lib.hid j;have J:=Lib.hid h;have c40:=j.cell0;have c41:=j.qd;have f40:=j.frozen0;have f41:=j.Md;have d40:=h.cell0;have d41:=h.qd;have e40:=h.frozen0;have e41:=h.Md;clear M x j h)|(go_at_call 270;refine(bS R l4Z _ hl4 HB4.out none HQQ.out).mono ?_;rintro e w5Z ⟨rfl,y⟩;have n:=HP4.out.kept y g;have i:=J.out.kept y ra;have HG5:=Lib.hid (HG4.out.trans y);have HP5:=Lib.hid n;have L:=Lib.hid i;have c50:=n.cell0;have c51:=n.qd;have f50:=n.frozen0;have f51:=n.Md;have d50:=i.cell0;have d51:=i.qd;have e50:=i.frozen0;have e51:=i.Md;clear y n i))
     refine bodyPost_ret (qt (((L.out.kept (Yk _ _ 1 (.string ⟨#[]⟩)) ia).vt K).wt ⟨#[]⟩)) rfl ?_;exact⟨⟨_,_,rfl⟩,grown_fresh (grown_fresh (grown_fresh HG5.out (Nat.le_of_lt T)) (la _)) (la _)⟩
    ·rw[hqq]at G
     replace G:=G;subst G;obtain⟨V,hVV⟩:∃V:ByteArray,(⟨v.toArray⟩:ByteArray)=V:=⟨_,rfl⟩;have HVZ:=Lib.hid hVV;have HQQ:=Lib.hid hqq;clear hnZ hKd hs U hqq hVV
     go_enter Tryz.func210,Tryz.ntmps210
     go_wp2_with(first|(go_at_call 207;refine(Yl R l _ HB0.out W H1Z.out).mono ?_;rintro e w1Z ⟨rfl,B,C⟩;have z:=Lib.hid C;have I:=Lib.hid B;clear C B)|(go_at_call 208;refine(Yn R W _ hl1 I.out k l2Z HKZ.out H2Z.out).mono ?_;rintro e t ⟨rfl,p,q⟩;clear HKZ;rw[HKK.out];have a:=(HP0.out.kept z.out ra).kept q ra;have H:=Lib.hid (((zg w _ _).trans z.out).trans q);have N:=Lib.hid (Boxed.alloc p (.cells #[.string K,.string ⟨#[]⟩] 180));have O:=Lib.hid (a.kept (zg t (.cells #[.string K,.string ⟨#[]⟩] 180) none) da);have A:=fc.new t 180 K ⟨#[]⟩;have hRw:R<t.heap.size:=Boxed.lt p;have T:w.heap.size<t.heap.size:=fc.lt a;have g:some t.heap.size≠some R:=Sa;have D:=Lib.hid (H.out.trans (zg t (.cells #[.string K,.string ⟨#[]⟩] 180) (some R)));have P:=Lib.hid A;have Z:=a.cell0;have hBc1:=a.qd;have hBf0:=a.frozen0;have hBf1:=a.Md;have HBW:=Lib.hid a;clear q p a A)|(go_at_call 137;refine(Ls K true HNZ.out _ hKs).mono ?_;rintro e w3Z ⟨rfl,rfl⟩)|(go_at_call 209;refine(Uv R l2Z _ hl2 N.out (some l3Z) HSZ.out).mono ?_;rintro e w3Z ⟨rfl,F,o⟩;clear HSZ;have d:=P.out.kept o g;have b:=O.out.kept o ra;have S:=Lib.hid (D.out.trans o);have X:=Lib.hid F;have Y:=Lib.hid d;have E:=Lib.hid b;have c0Z:=d.cell0;have c1:=d.qd;have f0Z:=d.frozen0;have f1Z:=d.Md;have d0Z:=b.cell0;have d1Z:=b.qd;have e0Z:=b.frozen0;have e1:=b.Md;clear F o d b)|(go_at_call 209;refine(kA R l3Z _ hl3 X.out (some l4Z) HTZ.out).mono ?_;rintro e w4Z ⟨rfl,M,x⟩;clear HTZ;have j:=Y.out.kept x g;have h:=E.out.kept x ra;have HG4:=Lib.hid (S.out.trans x);have HB4:=Lib.hid M;have HP4:=Lib.hid j;have J:=Lib.hid h;have c40:=j.cell0;have c41:=j.qd;have f40:=j.frozen0;have f41:=j.Md;have d40:=h.cell0;have d41:=h.qd;have e40:=h.frozen0;have e41:=h.Md;clear M x j h)|(go_at_call 270;refine(bS R l4Z _ hl4 HB4.out (some (v,r)) HQQ.out).mono ?_;rintro e w5Z ⟨rfl,hb5,y⟩;rw[HVZ.out];have n:=HP4.out.kept y g;have i:=J.out.kept y ra;have HG5:=Lib.hid (HG4.out.trans y);have HB5:=Lib.hid hb5;have HP5:=Lib.hid n;have L:=Lib.hid i;have c50:=n.cell0;have c51:=n.qd;have f50:=n.frozen0;have f51:=n.Md;have d50:=i.cell0;have d51:=i.qd;have e50:=i.frozen0;have e51:=i.Md;clear hb5 y n i))
     refine bodyPost_ret (qt (((L.out.kept (Yk _ _ 1 (.string V)) Sa).vt K).wt V)) rfl ?_;exact⟨by rw[<-HKK.out,<-HVZ.out],((HB5.out.kept (Yk _ t.heap.size 1 (.string V)) ia).kept (Yk _ w.heap.size 0 (.string K)) Sa).kept (Yk _ w.heap.size 1 (.string V)) (yi ra),grown_fresh (grown_fresh (grown_fresh HG5.out (Nat.le_of_lt T)) (la _)) (la _)⟩
end Go.Proofs.YtglaihdcndcmkaaGreatDoor
end
section
set_option synthInstance.maxSize 4000
namespace wa
def fc.below{w w'}{B t}{a b}(h:fc w B t a b)(k:Below w.heap.size w w'):fc w' B t a b:=(k.block B h.lt).trans h
def fc.cC{w w'}{B t C}{a b}(h:fc w B t a b)(k:Below C w w')(c:B<C):fc w' B t a b:=(k.block B c).trans h
def R0(L R)(x):Ua (L++x::R)=Ua L++([.string ⟨x.1.toArray⟩,.string ⟨x.2.toArray⟩]++Ua R):=by simp[Ua]
def lD(F)(i)(h):(Ua F)[i* 2]?=some (.string ⟨F[i].1.toArray⟩)/\(Ua F)[i* 2+1]?=some (.string ⟨F[i].2.toArray⟩):=by
 have e:Ua F=Ua (F.take i)++([.string ⟨F[i].1.toArray⟩,.string ⟨F[i].2.toArray⟩]++Ua (F.drop (i+1))):=by
  have a:Ua F=Ua (F.take i++F[i]::F.drop (i+1)):=by rw[<-ld h,jI]
  exact a.trans (R0 _ _ _)
 have b:(Ua (F.take i)).length=i* 2:=by rw[bk,Ac];omega
 simp_all
theorem gB(p)(F:List ec)(i)(h):(F.take (i+1)).any p=((F.take i).any p||p F[i]):=by
 grind [List.take_succ_eq_append_getElem]
def RU(p)(F:List ec)(i)(h:i<F.length)(a:p F[i]=true):F.any p=true:=List.any_eq_true.2 ⟨_,Qm h,a⟩
end wa
namespace Go.Proofs.YtglaihdcndcmkaaGreatDoor
def KU(s t)(b)(h:(xa s.data.toList==xa t.data.toList)=b)(w)(hs:s.size<=1000000)(ht:t.size<=1000000):Calls Tryz.prog 140 #[.string s,.string t] w (ud (.bool b) w):=h▸ZI s t w hs ht
def uM(P)(k v a c)(b)(w)(g:fc w P 180 k v)(i:(xa k.data.toList==xa a.data.toList)=b)(l:k.size<=1000000)(j:a.size<=1000000):
 Calls Tryz.prog 212 #[.agg #[.string a,.string c],.pointer (some ⟨P,0,none⟩)] w (ud (.bool b) w):=by
 have n:=g.cell0;have ea:=g.lt;have d:=Lib.hid i;clear i g
 go_enter Tryz.func212,Tryz.ntmps212
 go_wp2_with(go_at_call 140;refine(KU k a b d.out _ l j).mono ?_;rintro e o ⟨rfl,h⟩)
 go_ret;exact⟨rfl,((Below.refl _ _).alloc (la _) _).trans (h.mono da)⟩
set_option maxRecDepth 100000 in
def L1(P B)(k v:ByteArray)(F:List ec)(r:Value)(w)(V:fc w P 180 k v)(hr:w.ownsRow B 180 2 r F.length (Ua F))(Z:k.size<=1000000)(hF:F.length<=1000000)(G:∀q∈F,q.1.length<=1000000):
 Calls Tryz.prog 271 #[r,.func (.func 212) #[] #[.pointer (some ⟨P,0,none⟩)]] w fun e w'=>∃n,e=.returned (.int .i64 n)/\decide (0<=n)=F.any (fun q=>xa k.data.toList==xa q.1)/\Below w.heap.size w w':=by
 obtain⟨a,d,rfl,c⟩:∃a d,r=.slice a F.length d/\(F.length=0\/∃g,a=some ⟨g,0,none⟩/\g<w.heap.size/\F.length<=d):=by
  grind [Xn]
 obtain⟨n,S⟩:∃n,F.length=n:=⟨_,rfl⟩;have HFO:=Lib.hid c;have U:=Lib.hid hr;have Q:=Lib.hid V;have N:=Lib.hid G;have HNZ:=Lib.hid S;rw[S]at hF⊢;clear c hr V G S
 go_enter Tryz.func271,Tryz.ntmps271
 go_wp2
 go_loopw [4,5,8] (fun x y i wr=>∃j:Nat,i=.int .i64 j/\j<=n/\Below w.heap.size w wr/\Hid ((F.take j).any (fun q=>xa k.data.toList==xa q.1)=false)) (fun _ _ i _=>n - (intOf i).toNat)
 case atStart=>grind [Below.refl,Lib.hid]
 case round=>
  obtain⟨j,rfl,hjZ,b,hno⟩:=hrel;by_cases ea:j<n
  ·obtain⟨g,rfl,X,W⟩:∃g,a=some ⟨g,0,none⟩/\g<w.heap.size/\n<=d:=by
    grind [Hid.out]
   have J:j<F.length:=by rw[HNZ.out];exact ea
   obtain⟨K,L⟩:=lD F j J;obtain⟨q,T⟩:∃q,F[j]=q:=⟨_,rfl⟩;rw[T]at K L;have h:=U.out.cellAt (j* 2) aa;have l:=U.out.cellAt (j* 2+1) aa;rw[K]at h;rw[L]at l;have H:=(b.cell (p:=⟨g,j* 2,none⟩) X).trans h;have I:=(b.cell (p:=⟨g,j* 2+1,none⟩) X).trans l;have hji:(j:Int)<(n:Int):=aa
   have z:(ByteArray.mk q.1.toArray).size<=1000000:=N.out q ia;have t:=Q.out.below b;have D:=Lib.hid t;obtain⟨A,M⟩:∃A:ByteArray,(⟨q.1.toArray⟩:ByteArray)=A:=⟨_,rfl⟩;obtain⟨C,R⟩:∃C:ByteArray,(⟨q.2.toArray⟩:ByteArray)=C:=⟨_,rfl⟩;rw[M]at H z;rw[R]at I;have E:A.data.toList=q.1:=by rw[<-M]
   rcases Y:(xa k.data.toList==xa q.1)with _|_
   ·have O:=Lib.hid (show(xa k.data.toList==xa A.data.toList)=false by grind)
    have o:=Lib.hid (show(F.take (j+1)).any (fun q=>xa k.data.toList==xa q.1)=false by grind [gB,Hid.out]);clear K L h l t M R E Y T
    go_wp2_with(go_at_call 212;refine(uM P k v A C false _ D.out O.out Z z).mono ?_;rintro e w1Z ⟨rfl,u⟩)
    go_roundw
    case rel=>exact⟨j+1,by go_num,aa,b.trans (u.mono b.size),o⟩
    grind [intOf]
   ·have O:=Lib.hid (show(xa k.data.toList==xa A.data.toList)=true by grind)
    have HYZ:=Lib.hid (RU (fun q=>xa k.data.toList==xa q.1) F j J ia);clear K L h l t M R E Y T
    go_wp2_with(go_at_call 212;refine(uM P k v A C true _ D.out O.out Z z).mono ?_;rintro e w1Z ⟨rfl,u⟩)
    go_ret;exact⟨_,rfl,by rw[HYZ.out];simp,b.trans (u.mono b.size)⟩
  ·obtain rfl:j=n:=aa
   have o:=Lib.hid (show F.any (fun q=>xa k.data.toList==xa q.1)=false by grind [Hid.out]);go_wp2;go_ret;exact⟨_,rfl,by rw[o.out];rfl,b⟩
def MM(P B)(k v:ByteArray)(F:List ec)(r:Value)(b)(w)(d:fc w P 180 k v)(hr:w.ownsRow B 180 2 r F.length (Ua F))(i:k.size<=1000000)(hF:F.length<=1000000)(a:∀q∈F,q.1.length<=1000000)(g:F.any (fun q=>xa k.data.toList==xa q.1)=b):
 Calls Tryz.prog 211 #[r,.func (.func 212) #[] #[.pointer (some ⟨P,0,none⟩)]] w (ud (.bool b) w):=by
 have H:=L1 P B k v F r w d hr i hF a;rw[g]at H;have h:=Lib.hid H;clear H d hr a g
 go_enter Tryz.func211,Tryz.ntmps211
 go_wp2_with(go_at_call 271;refine h.out.mono ?_;rintro e l ⟨n,rfl,j,c⟩)
 go_ret;exact⟨r1 (vb ja),c⟩
end Go.Proofs.YtglaihdcndcmkaaGreatDoor
end
section
set_option synthInstance.maxSize 4000
namespace wa
def bt{w w':World}{B e size n R:Nat}{v}{xs}(h:w.ownsRow B e size v n xs)(k:w.grownBy w' (some R))(a:R<B):w'.ownsRow B e size v n xs:=
 Ot h k (.inr (fun e=>by have:=(h.lt R e).1;omega))
def hQ(n)(l)(F)(a)(h:l.dropWhile Ia=[]):eh (n+1) l F a=some (F,a):=by rw[eh,if_pos h]
def jQ(n)(l)(F)(a)(h:¬l.dropWhile Ia=[])(hs:Yd 59 (l.dropWhile Ia)=none):eh (n+1) l F a=none:=by grind [eh.eq_2]
def iQ(n)(l t)(F)(a)(h:¬l.dropWhile Ia=[])(hs:Yd 59 (l.dropWhile Ia)=some t)(b:vk t=none):eh (n+1) l F a=none:=by grind [eh.eq_2]
def UF(n)(l t r)(p)(F)(a b)(h:¬l.dropWhile Ia=[])(hs:Yd 59 (l.dropWhile Ia)=some t)(d:vk t=some (p,r))(c:(F.any fun q=>xa p.1==xa q.1)=b):eh (n+1) l F a=eh n r (F++[p]) (a||b):=by grind [eh.eq_2]
def a8{w:World}{b d}{e}{size}{v}{n}{xs}(h:w.ownsRow b e size v n xs)(l:d<=b):w.ownsRow d e size v n xs:=⟨h.1,h.2.imp id fun⟨g,a,c,i,j,k⟩=>⟨g,a,c,i,Ob l j,k⟩⟩
def zb4:Option Value->Nat
 |some (.string b)=>b.size
 |_=>0
def Yo(l:List UInt8)(S)(h:(⟨l.toArray⟩:ByteArray)=S)(b)(a:l.isEmpty=b):S.toList.isEmpty=b:=by
 grind [Lib.toList_data]
end wa
namespace Go.Proofs.YtglaihdcndcmkaaGreatDoor
def GR:mu->World->Ending->World->Prop
 | .form,w,e,w'=>e=.returned (.tuple #[.string ⟨#[]⟩,.slice none 0 0,.int .i64 7])/\Below w.heap.size w w'
 | .zh,w,e,w'=>e=.returned (.tuple #[.string ⟨#[]⟩,.slice none 0 0,.int .i64 9])/\Below w.heap.size w w'
 | .ok m l,w,e,w'=>∃v,e=.returned (.tuple #[.string ⟨m.toArray⟩,v,.int .i64 0])/\w'.ownsRow w.heap.size 180 2 v l.length (Ua l)/\Below w.heap.size w w'
def zy:(Tryz.prog.info? 180).map (fun i=>(i.zero,i.size,i.bytes))=some (some (.agg #[.string ⟨#[]⟩,.string ⟨#[]⟩]),2,32):=ca
set_option maxRecDepth 100000 in
def SG(s)(w)(hs:s.size<=10000)(V)(hVZ:bg s.data.toList=V):Calls Tryz.prog 139 #[.string s] w (GR V w):=by
 obtain⟨l,hlZ⟩:∃l,s.data.toList=l:=⟨_,rfl⟩;have hll:l.length=s.size:=by subst hlZ;rfl
 have hsl:(⟨l.toArray⟩:ByteArray)=s:=by subst hlZ;exact pz s
 obtain⟨l1Z,h1Z⟩:∃l1Z,l.dropWhile Ia=l1Z:=⟨_,rfl⟩;obtain⟨m,hmZ⟩:∃m,l1Z.takeWhile Fb=m:=⟨_,rfl⟩;obtain⟨l2Z,h2Z⟩:∃l2Z,l1Z.dropWhile Fb=l2Z:=⟨_,rfl⟩;obtain⟨l3Z,h3Z⟩:∃l3Z,l2Z.dropWhile Ia=l3Z:=⟨_,rfl⟩;unfold bg at hVZ;rw[hlZ,h1Z,hmZ,h2Z,hll]at hVZ;have hl1:l1Z.length<=s.size:=by have:=gi Ia l;rw[h1Z]at this;omega
 have hl2:l2Z.length<=s.size:=by have:=gi Fb l1Z;rw[h2Z]at this;omega
 have hl1m:l1Z.length<=1000000:=aa
 have hb0:Boxed (w.alloc (.cells #[.string s] 261)) w.heap.size 261 (.string ⟨l.toArray⟩):=by rw[hsl];exact Boxed.new _ _ _
 obtain⟨M,hMZ⟩:∃M:ByteArray,(⟨m.toArray⟩:ByteArray)=M:=⟨_,rfl⟩;have HB0:=Lib.hid hb0;have H1Z:=Lib.hid h1Z;have HMM:=Lib.hid hmZ;have H2Z:=Lib.hid h2Z;have H3Z:=Lib.hid h3Z;have HVZ:=Lib.hid hVZ;have HMZ:=Lib.hid hMZ;clear hb0 h1Z hmZ h2Z h3Z hVZ hlZ hsl hll hMZ
 go_enter Tryz.func139,Tryz.ntmps139
 go_wp2_with(first|(go_at_call 207;refine(Yl w.heap.size l _ HB0.out l1Z H1Z.out).mono ?_;rintro e w1Z ⟨rfl,hb1,hg1⟩;clear H1Z;have HG1:=Lib.hid hg1;have HB1:=Lib.hid hb1;clear hg1 hb1)|(go_at_call 208;refine(Yn w.heap.size l1Z _ hl1m HB1.out m l2Z HMM.out H2Z.out).mono ?_;rintro e w2Z ⟨rfl,hb2,hg2⟩;rw[HMZ.out];have HG2:=Lib.hid (HG1.out.trans hg2);have HB2:=Lib.hid hb2;clear hg2 hb2)|(go_at_call 207;refine(Yl w.heap.size l2Z _ HB2.out l3Z H3Z.out).mono ?_;rintro e w3Z ⟨rfl,hb3,hg3⟩;have HG3:=Lib.hid (HG2.out.trans hg3);have HB3:=Lib.hid hb3;clear hg3 hb3))
 have hbel3:=((Below.refl _ _).alloc (la _) _).trans (nm HG3.out (la _) da);have hRlt:w.heap.size+1<=w3Z.heap.size:=Boxed.lt HB3.out
 go_loopw [7,8,9,10] (fun v e _ _ wr=>∃(n:Nat)(q r:List UInt8)(F:List ec)(J:Bool),e=.int .i64 (if J=true then 9 else 0)/\r.length<n/\r.length+F.length<=s.size/\Hid (r.dropWhile Ia=q)/\Hid (∀p∈F,p.1.length<=1000000)/\
  Hid (V=match eh n r F J with|none=>mu.form|some (out,J)=>if m=[]then .form else if J then .zh else .ok m out)/\
  Hid (wr.ownsRow (w.heap.size+1) 180 2 v F.length (Ua F))/\Hid (Boxed wr w.heap.size 261 (.string ⟨q.toArray⟩))/\Hid (Below w.heap.size w wr))
  (fun _ _ _ _ wr=>zb4 (wr.cell? ⟨w.heap.size,0,none⟩))
 case atStart=>exact⟨s.size+1,l3Z,l2Z,[],false,rfl,aa,aa,H3Z,Lib.hid da,Lib.hid HVZ.out.symm,Lib.hid (LA _ _ _ _),HB3,Lib.hid hbel3⟩
 case round=>
  obtain⟨n,q,r,F,J,rfl,hrn,hrF,hqZ,hFs,hVV,Z,z,c⟩:=hrel;have hqr:q.length<=r.length:=by have:=gi Ia r;rw[hqZ.out]at this;exact this
  have hqm:q.length<=1000000:=aa
  obtain⟨S,hSZ⟩:∃S:ByteArray,(⟨q.toArray⟩:ByteArray)=S:=⟨_,rfl⟩;have hcr:=z.out.cell;have hfr:=z.out.frozen;rw[hSZ]at hcr;obtain⟨n,rfl⟩:∃n'Z,n=n'Z+1:=⟨n - 1,aa⟩;by_cases H:q=[]
  ·have hem:=Yo q S hSZ true ia
   have i:=hVV.out;rw[hQ n r F J (by rw[hqZ.out,H])]at i;dsimp only at i;clear H hSZ;by_cases d:m=[]
   ·have g:=Yo m M HMZ.out true ia
    rw[if_pos d]at i;subst i;clear d;rcases J with _|_
    all_goals
     go_wp2
     go_ret3
     exact⟨rfl,c.out⟩
   ·have g:=Yo m M HMZ.out false ia
    rw[if_neg d]at i;clear d;rcases J with _|_
    ·replace i:=i
     subst i;go_wp2
     go_ret3
     exact⟨_,by rw[<-HMZ.out];rfl,a8 Z.out (Nat.le_succ _),c.out⟩
    ·replace i:=i
     subst i;go_wp2
     go_ret3
     exact⟨rfl,c.out⟩
  ·have hem:=Yo q S hSZ false ia
   rcases A:Yd 59 q with _|t
   ·have i:=hVV.out
    rw[jQ n r F J (by grind [Hid.out]) (by grind [Hid.out])]at i;replace i:=i;subst i;have HSZ:=Lib.hid A;clear A H hSZ;rcases J with _|_
    all_goals
     go_wp2_with(go_at_call 209;refine(lA w.heap.size q _ hqm z.out none HSZ.out).mono ?_;rintro e w4Z ⟨rfl,j,o⟩;clear HSZ;have d:=Lib.hid o;have L:=Lib.hid j;clear j o)
     go_ret3
     exact⟨rfl,c.out.trans (nm d.out (la _) c.out.size)⟩
   ·have htl:t.length+1=q.length:=by have:=congrArg List.length (Vv A);rw[za]at this;exact this.symm
    have htm:t.length<=1000000:=aa
    rcases D:vk t with _|⟨p,r2Z⟩
    ·have i:=hVV.out
     rw[iQ n r t F J (by grind [Hid.out]) (by grind [Hid.out]) D]at i;replace i:=i;subst i;have HSZ:=Lib.hid A;have HPZ:=Lib.hid D;clear A H hSZ D;rcases J with _|_
     all_goals
      go_wp2_with(first|(go_at_call 209;refine(lA w.heap.size q _ hqm z.out (some t) HSZ.out).mono ?_;rintro e w4Z ⟨rfl,j,o⟩;clear HSZ;have d:=Lib.hid o;have L:=Lib.hid j;clear j o)|(go_at_call 210;refine(RG w.heap.size t _ htm L.out none HPZ.out).mono ?_;rintro e w5Z ⟨⟨a,b,rfl⟩,y⟩))
      go_ret3
      exact⟨rfl,((c.out.trans (nm d.out (la _) c.out.size)).trans (nm y (la _) (Ob c.out.size d.out.size))).alloc (Ob (Ob c.out.size d.out.size) y.size) _⟩
    ·obtain⟨hrl,hpl,hpv⟩:=Lz D
     dsimp only at hrl hpl hpv;obtain⟨K,hKZ⟩:∃K:ByteArray,(⟨p.1.toArray⟩:ByteArray)=K:=⟨_,rfl⟩;obtain⟨X,hXZ⟩:∃X:ByteArray,(⟨p.2.toArray⟩:ByteArray)=X:=⟨_,rfl⟩;obtain⟨q2Z,hq2⟩:∃q2Z,r2Z.dropWhile Ia=q2Z:=⟨_,rfl⟩;have hq2l:q2Z.length<=r2Z.length:=by have:=gi Ia r2Z;rw[hq2]at this;exact this
     have hKs:K.size<=1000000:=by rw[<-hKZ];show p.1.length<=_;omega
     have hFl:F.length<=1000000:=aa
     have R:∀x∈F++[p],x.1.length<=1000000:=by
      intro x hxZ;rcases wg.1 hxZ with h|h
      ·exact hFs.out x h
      ·grind
     have I:Ua (F++[p])=Ua F++[.string K,.string X]:=by rw[An,hKZ,hXZ]
     have hKd:K.data.toList=p.1:=by rw[<-hKZ]
     have hlp:(F++[p]).length=F.length+1:=by rw[Ja];rfl
     have hmes:q2Z.length<q.length:=aa
     rcases hcb:F.any (fun x=>xa p.1==xa x.1)with _|_
     all_goals
      have i:=hVV.out;rw[UF n r t r2Z p F J _ (by rw[hqZ.out];exact H) (by rw[hqZ.out];exact A) D hcb]at i;have HVN:=Lib.hid i;have HSZ:=Lib.hid A;have HPZ:=Lib.hid D;have HKX:=Lib.hid (And.intro hKZ hXZ);have HQ2:=Lib.hid hq2;have HFS2:=Lib.hid R;have HSN:=Lib.hid I;have HLP:=Lib.hid hlp;have HCB:=Lib.hid hcb;rw[<-hKd]at HCB;have HSS:=Lib.hid hSZ
     ·clear A H hSZ D hcb i hKZ hXZ hq2 R I hKd hlp
      rcases J with _|_
      all_goals
       go_wp2_with(first|(go_at_call 209;refine(lA w.heap.size q _ hqm z.out (some t) HSZ.out).mono ?_;rintro e w4Z ⟨rfl,j,o⟩;clear HSZ;have d:=Lib.hid o;have L:=Lib.hid j;clear j o)|(go_at_call 210;refine(RG w.heap.size t _ htm L.out (some (p,r2Z)) HPZ.out).mono ?_;rintro e w5Z ⟨rfl,G,y⟩;rw[HKX.out.1,HKX.out.2];have k:=(c.out.trans (nm d.out (la _) c.out.size)).trans (nm y (la _) (Ob c.out.size d.out.size));have P:=Lib.hid (World.ownsRow.alloc (bt (bt Z.out d.out (Np _)) y (Np _)) (.cells #[.string K,.string X] 180));have N:=Lib.hid (Boxed.alloc G (.cells #[.string K,.string X] 180));have Q:=Lib.hid (fc.new w5Z 180 K X);have hR5:w.heap.size+1<=w5Z.heap.size:=Boxed.lt G;have B:=Lib.hid (k.alloc k.size (.cells #[.string K,.string X] 180));clear G y k)|(go_at_call 211;refine(MM w5Z.heap.size (w.heap.size+1) K X F _ false _ Q.out P.out hKs hFl hFs.out HCB.out).mono ?_;rintro e w7Z ⟨rfl,g⟩;have E:=Q.out.below g;have c70:=E.cell0;have c71:=E.qd;have HO7:=Lib.hid (Sn P.out g);have HB7:=Lib.hid ((g.block _ N.out.lt).trans N.out);have O:=Lib.hid (B.out.trans (g.mono B.out.size));have hR7:w.heap.size+1<=w7Z.heap.size:=(by have:=g.size;simp at this;omega);clear g E)|(at_builtin;refine Am ja _ _ _ ja 180 _ 2 32 Tryz.underlying176 zy ja aa (w.heap.size+1) w7Z _ _ _ ja HO7.out [.string K,.string X] ja (by simp[Value.oneCell']) ja aa aa hR7 ?_;intro ggZ cap w8Z hgg u Y T hsz8;have HO8:=Lib.hid u;have HB8:=Lib.hid ((T.block _ (Np _)).trans HB7.out);have C:=Lib.hid (O.out.trans (T.mono (Nat.le_succ _)));clear u Y)|(go_at_call 207;refine(Yl w.heap.size r2Z _ HB8.out q2Z HQ2.out).mono ?_;rintro e w9Z ⟨rfl,U,W⟩))
       go_roundw
       case rel=>exact⟨n,q2Z,r2Z,F++[p],_,rfl,aa,by rw[HLP.out];omega,HQ2,HFS2,HVN,Lib.hid (by rw[HSN.out,HLP.out];exact bt HO8.out W (Np _)),Lib.hid U,Lib.hid (C.out.trans (nm W (la _) C.out.size))⟩
       case measure=>rw[hcr,U.cell,<-HSS.out];exact hmes
     ·clear A H hSZ D hcb i hKZ hXZ hq2 R I hKd hlp
      rcases J with _|_
      all_goals
       go_wp2_with(first|(go_at_call 209;refine(lA w.heap.size q _ hqm z.out (some t) HSZ.out).mono ?_;rintro e w4Z ⟨rfl,j,o⟩;clear HSZ;have d:=Lib.hid o;have L:=Lib.hid j;clear j o)|(go_at_call 210;refine(RG w.heap.size t _ htm L.out (some (p,r2Z)) HPZ.out).mono ?_;rintro e w5Z ⟨rfl,G,y⟩;rw[HKX.out.1,HKX.out.2];have k:=(c.out.trans (nm d.out (la _) c.out.size)).trans (nm y (la _) (Ob c.out.size d.out.size));have P:=Lib.hid (World.ownsRow.alloc (bt (bt Z.out d.out (Np _)) y (Np _)) (.cells #[.string K,.string X] 180));have N:=Lib.hid (Boxed.alloc G (.cells #[.string K,.string X] 180));have Q:=Lib.hid (fc.new w5Z 180 K X);have hR5:w.heap.size+1<=w5Z.heap.size:=Boxed.lt G;have B:=Lib.hid (k.alloc k.size (.cells #[.string K,.string X] 180));clear G y k)|(go_at_call 211;refine(MM w5Z.heap.size (w.heap.size+1) K X F _ true _ Q.out P.out hKs hFl hFs.out HCB.out).mono ?_;rintro e w7Z ⟨rfl,g⟩;have E:=Q.out.below g;have c70:=E.cell0;have c71:=E.qd;have HO7:=Lib.hid (Sn P.out g);have HB7:=Lib.hid ((g.block _ N.out.lt).trans N.out);have O:=Lib.hid (B.out.trans (g.mono B.out.size));have hR7:w.heap.size+1<=w7Z.heap.size:=(by have:=g.size;simp at this;omega);clear g E)|(at_builtin;refine Am ja _ _ _ ja 180 _ 2 32 Tryz.underlying176 zy ja aa (w.heap.size+1) w7Z _ _ _ ja HO7.out [.string K,.string X] ja (by simp[Value.oneCell']) ja aa aa hR7 ?_;intro ggZ cap w8Z hgg u Y T hsz8;have HO8:=Lib.hid u;have HB8:=Lib.hid ((T.block _ (Np _)).trans HB7.out);have C:=Lib.hid (O.out.trans (T.mono (Nat.le_succ _)));clear u Y)|(go_at_call 207;refine(Yl w.heap.size r2Z _ HB8.out q2Z HQ2.out).mono ?_;rintro e w9Z ⟨rfl,U,W⟩))
       go_roundw
       case rel=>exact⟨n,q2Z,r2Z,F++[p],_,rfl,aa,by rw[HLP.out];omega,HQ2,HFS2,HVN,Lib.hid (by rw[HSN.out,HLP.out];exact bt HO8.out W (Np _)),Lib.hid U,Lib.hid (C.out.trans (nm W (la _) C.out.size))⟩
       case measure=>rw[hcr,U.cell,<-HSS.out];exact hmes
end Go.Proofs.YtglaihdcndcmkaaGreatDoor
end
namespace Go.Proofs.YtglaihdcndcmkaaGreatDoor
def bf{s}:(S s).data.toList=s:=by simp[S]
def eW(c):((c.toNat:Nat):Int).toNat.toUInt8=c:=by
 simp
def tu{w}:Below w.heap.size w w:=Below.refl _ _
def one(v:Value):Pc:=⟨[v],none,[]⟩
def Re(l:List Value):Pc:=⟨l,none,[]⟩
variable {Γ:Ze}
def Yh{f}{spec}(g:ij Tryz.prog f=true)(h:∀vs R,spec vs=some R->∃l,R=Re l/\(∀v∈l,Ab v=true)/\∀w,Γ.G w->Calls Tryz.prog f vs.toArray w fun e w'=>e=.returned (xA l)/\Below w.heap.size w w'):Ef Tryz.prog Γ f spec:=⟨g,fun vs R hs=>by
 obtain⟨l,rfl,a,b⟩:=h vs R hs;refine⟨⟨fun v j=>a v (by grind [Re]),fun c n z ty e=>by cases e⟩,fun w i=>(b w i).mono ?_⟩;rintro e w' ⟨rfl,d⟩;exact⟨.int .i64 0,by simp[Re,Pc.vs],(fun c n z ty e=>by cases e),d⟩⟩
def sA:List Value->Option Pc
 |[.string s,.int .u8 c]=>some (Re [.int .i64 (Lib.indexByte s.data.toList c.toNat.toUInt8)])
 |_=>none
def zci:Ef Tryz.prog Γ 96 sA:=Yh ca fun vs R h=>by
 unfold sA at h;split at h
 ·cases h
  exact⟨_,rfl,by simp[Ab],fun w _=>(Tryz.strings_IndexByte _ _ w).mono (by rintro e w' ⟨rfl,rfl⟩;exact⟨rfl,tu⟩)⟩
 grind
def JH:List Value->Option Pc
 |[.string s,.string p]=>some (Re [.bool (Lib.hasPrefix s.data.toList p.data.toList)])
 |_=>none
def zcm:Ef Tryz.prog Γ 80 JH:=Yh ca fun vs R h=>by
 unfold JH at h;split at h
 ·cases h
  exact⟨_,rfl,by simp[Ab],fun w _=>(Tryz.strings_HasPrefix _ _ w).mono (by rintro e w' ⟨rfl,rfl⟩;exact⟨rfl,tu⟩)⟩
 grind
def gw:List Value->Option Pc
 |[.string s]=>if s.size<=1000000 then some (Re [.string (S (xa s.data.toList))])else none
 |_=>none
def zch:Ef Tryz.prog Γ 79 gw:=Yh ca fun vs R h=>by
 unfold gw at h;split at h
 ·split at h
  ·rename_i hs
   cases h;exact⟨_,rfl,by simp[Ab],fun w _=>(dO _ w hs).mono (by rintro e w' ⟨rfl,a⟩;exact⟨rfl,a⟩)⟩
  grind
 grind
def Yv:List Value->Option Pc
 |[.string s,.string t]=>if s.size<=1000000/\t.size<=1000000 then some (Re [.bool (xa s.data.toList==xa t.data.toList)])else none
 |_=>none
def zb8:Ef Tryz.prog Γ 140 Yv:=Yh ca fun vs R h=>by
 unfold Yv at h;split at h
 ·split at h
  ·rename_i hs
   cases h;exact⟨_,rfl,by simp[Ab],fun w _=>(ZI _ _ w hs.1 hs.2).mono (by rintro e w' ⟨rfl,a⟩;exact⟨rfl,a⟩)⟩
  grind
 grind
def IH:List Value->Option Pc
 |[.string s,.string p]=>some (Re [.string ⟨(Lib.trimPrefix s.data.toList p.data.toList).toArray⟩,.bool (Lib.hasPrefix s.data.toList p.data.toList)])
 |_=>none
def zb9:Ef Tryz.prog Γ 90 IH:=Yh ca fun vs R h=>by
 unfold IH at h;split at h
 ·cases h
  exact⟨_,rfl,by simp[Ab],fun w _=>(Tryz.strings_CutPrefix _ _ w).mono (by rintro e w' ⟨rfl,rfl⟩;exact⟨rfl,tu⟩)⟩
 grind
def dw:List Value->Option Pc
 |[.string s]=>if s.size<=1000000 then some (match Qe s.data.toList with
  |some t=>Re [.string (S t),.int .i64 0]
  |none=>Re [.string (S []),.int .i64 7])else none
 |_=>none
def zcf:Ef Tryz.prog Γ 143 dw:=Yh ca fun vs R h=>by
 unfold dw at h;split at h
 ·rename_i s
  split at h
  ·rename_i hs
   have a:=fun w=>KY s w aa
   cases c:Qe s.data.toList with
   |some t=>
    rw[c]at h a;cases h;exact⟨_,rfl,by simp[Ab],fun w _=>(a w).mono (by rintro e w' ⟨rfl,b⟩;exact⟨rfl,b⟩)⟩
   |none=>
    rw[c]at h a;cases h;exact⟨_,rfl,by simp[Ab],fun w _=>(a w).mono (by rintro e w' ⟨rfl,b⟩;exact⟨rfl,b⟩)⟩
  grind
 grind
def pw:List Value->Option Pc
 |[.string s]=>if s.size<=1000000 then some (match jb (bare s.data.toList)with
  |some t=>Re [.string (S t),.int .i64 0]
  |none=>Re [.string (S []),.int .i64 7])else none
 |_=>none
def zcs:Ef Tryz.prog Γ 144 pw:=Yh ca fun vs R h=>by
 unfold pw at h;split at h
 ·rename_i s
  split at h
  ·rename_i hs
   have a:=fun w=>zdJ s w hs
   cases c:jb (bare s.data.toList)with
   |some t=>
    rw[c]at h a;cases h;exact⟨_,rfl,by simp[Ab],fun w _=>(a w).mono (by rintro e w' ⟨rfl,b⟩;exact⟨rfl,b⟩)⟩
   |none=>
    rw[c]at h a;cases h;exact⟨_,rfl,by simp[Ab],fun w _=>(a w).mono (by rintro e w' ⟨rfl,b⟩;exact⟨rfl,b⟩)⟩
  grind
 grind
def Zv:List Value->Option Pc
 |[.string s,.string p]=>if s.size<=1000000000 then some (Re [.string ⟨(Lib.cut s.data.toList p.data.toList).1.toArray⟩,.string ⟨(Lib.cut s.data.toList p.data.toList).2.1.toArray⟩,.bool (Lib.cut s.data.toList p.data.toList).2.2])else none
 |_=>none
def zcb(a:∀w,Γ.G w->af w):Ef Tryz.prog Γ 39 Zv:=Yh ca fun vs R h=>by
 unfold Zv at h;split at h
 ·split at h
  ·rename_i hs
   cases h;refine⟨_,rfl,by simp[Ab],fun w c=>?_⟩;obtain⟨m,b⟩:=a w c;exact(Tryz.strings_Cut _ _ m w aa b).mono (by rintro e w' ⟨rfl,n,rfl⟩;exact⟨rfl,Kr w n⟩)
  grind
 grind
def iw:List Value->Option Pc
 |[.string s,.string p]=>if s.size<=1000000000 then some (Re [.int .i64 (Lib.index s.data.toList p.data.toList)])else none
 |_=>none
def zcj(a:∀w,Γ.G w->af w):Ef Tryz.prog Γ 146 iw:=Yh ca fun vs R h=>by
 unfold iw at h;split at h
 ·split at h
  ·rename_i hs
   cases h;refine⟨_,rfl,by simp[Ab],fun w c=>?_⟩;obtain⟨m,b⟩:=a w c;exact(Tryz.strings_Index _ _ m w aa b).mono (by rintro e w' ⟨rfl,rfl⟩;exact⟨rfl,tu⟩)
  grind
 grind
def lw:List Value->Option Pc
 |[.string s,.string o,.string n]=>if s.size<=1000000/\1<=o.size/\n.size<=10 then some (Re [.string ⟨(Lib.replaceAll s.data.toList o.data.toList n.data.toList).toArray⟩])else none
 |_=>none
def zcn(b:∀w,Γ.G w->af w):Ef Tryz.prog Γ 42 lw:=Yh ca fun vs R h=>by
 unfold lw at h;split at h
 ·rename_i s o n
  split at h
  ·rename_i hs
   cases h;refine⟨_,rfl,by simp[Ab],fun w i=>?_⟩;obtain⟨m,g⟩:=b w i;have d:=Lib.countB_le o hs.2.1 s.size s (la _);have a:=Jt aa hs.2.2;exact(Tryz.strings_ReplaceAll s o n m w aa g hs.2.1 aa).mono (by rintro e w' ⟨rfl,c⟩;exact⟨rfl,c⟩)
  grind
 grind
theorem ly:∀l,∀v∈Ua l,Ab v=true/\v.oneCell'=true:=by
 intro l
 induction l with
 |nil=>grind [Ua]
 |cons a l b=>
  intro v h;simp only[Ua,List.flatMap_cons,wg,Wb,Zt,or_false]at h;rcases h with(rfl|rfl)|h
  ·exact⟨rfl,rfl⟩
  ·exact⟨rfl,rfl⟩
  ·exact b v h
theorem Ru:∀l,(Ua l).map PV.flat=bb l
 |[]=>rfl
 |(a,b)::l=>by
  have h:=Ru l;simp only[Ua,List.flatMap_cons,kc,ub,Gb,bb]at h⊢;rw[h];rfl
def mw:List Value->Option Pc
 |[.string s]=>if s.size<=10000 then some (match Pd s.data.toList with
  | .form=>⟨[],some ([],0,2,60),[.int .i64 0,.int .i64 7]⟩
  | .long=>⟨[],some ([],0,2,60),[.int .i64 0,.int .i64 6]⟩
  | .ok l b=>⟨[],some (Ua l,l.length,2,60),[.int .i64 b,.int .i64 0]⟩)else none
 |_=>none
def zcp(i:∀w,Γ.G w->af w):Ef Tryz.prog Γ 75 mw:=⟨ca,fun vs R h=>by
 unfold mw at h;split at h
 ·rename_i s
  split at h
  ·rename_i hs
   have a:=fun w k=>zbl s w k hs
   cases j:Pd s.data.toList with
   |form=>
    rw[j]at h a;cases h;exact⟨⟨by simp[Ab],fun c n z ty e=>by grind⟩,fun w g=>(a w (i w g)).mono (by rintro e w' ⟨rfl,d⟩;exact⟨.slice none 0 0,rfl,(fun c n z ty e=>by grind [World.ownsRow_nil]),d⟩)⟩
   |long=>
    rw[j]at h a;cases h;exact⟨⟨by simp[Ab],fun c n z ty e=>by grind⟩,fun w g=>(a w (i w g)).mono (by rintro e w' ⟨rfl,d⟩;exact⟨.slice none 0 0,rfl,(fun c n z ty e=>by grind [World.ownsRow_nil]),d⟩)⟩
   |ok l b=>
    rw[j]at h a;cases h;exact⟨⟨by simp[Ab],fun c n z ty e=>by grind [ly]⟩,fun w g=>(a w (i w g)).mono (by rintro e w' ⟨v,rfl,o,d⟩;exact⟨v,rfl,(fun c n z ty e=>by grind),d⟩)⟩
  grind
 grind⟩
def jw:List Value->Option Pc
 |[.string s]=>if s.size<=10000 then some (match bg s.data.toList with
  | .form=>⟨[.string (S [])],some ([],0,2,180),[.int .i64 7]⟩
  | .zh=>⟨[.string (S [])],some ([],0,2,180),[.int .i64 9]⟩
  | .ok m l=>⟨[.string (S m)],some (Ua l,l.length,2,180),[.int .i64 0]⟩)else none
 |_=>none
def zcl:Ef Tryz.prog Γ 139 jw:=⟨ca,fun vs R h=>by
 unfold jw at h;split at h
 ·rename_i s
  split at h
  ·rename_i hs
   cases a:bg s.data.toList with
   |form=>
    have d:=fun w=>SG s w hs _ a
    rw[a]at h;cases h;exact⟨⟨by simp[Ab],fun c n z ty e=>by grind⟩,fun w g=>(d w).mono (by rintro e w' ⟨rfl,b⟩;exact⟨.slice none 0 0,rfl,(fun c n z ty e=>by grind [World.ownsRow_nil]),b⟩)⟩
   |zh=>
    have d:=fun w=>SG s w hs _ a
    rw[a]at h;cases h;exact⟨⟨by simp[Ab],fun c n z ty e=>by grind⟩,fun w g=>(d w).mono (by rintro e w' ⟨rfl,b⟩;exact⟨.slice none 0 0,rfl,(fun c n z ty e=>by grind [World.ownsRow_nil]),b⟩)⟩
   |ok m l=>
    have d:=fun w=>SG s w hs _ a
    rw[a]at h;cases h;exact⟨⟨by simp[Ab],fun c n z ty e=>by grind [ly]⟩,fun w g=>(d w).mono (by rintro e w' ⟨v,rfl,i,b⟩;exact⟨v,rfl,(fun c n z ty e=>by grind),b⟩)⟩
  grind
 grind⟩
def DD(o:Option Nat):Int:=match o with
 |some i=>(i:Int)
 |none=>-1
theorem gP(c):∀s:ba,Lib.indexByte s c=DD (Zb c s)
 |[]=>rfl
 |x::l=>by
  have h:=gP c l;unfold Lib.indexByte Zb;by_cases a:x=c
  ·grind [DD]
  ·have b:(x==c)=false:=by simpa using a
   rw[b,h,if_neg a];cases Zb c l<;>grind [DD]
def LH:List (FuncId×wa.Callee):=[(96,qf 96 sA),(80,qf 80 JH),(79,qf 79 gw),(140,qf 140 Yv),(90,qf 90 IH),(143,qf 143 dw),(39,qf 39 Zv),(146,qf 146 iw),(42,qf 42 lw),(75,qf 75 mw),(139,qf 139 jw),(144,qf 144 pw)]
def Lf:wa.Callee:=Bt LH
def h6(a:∀w,Γ.G w->af w):dc Tryz.prog Γ Lf:=ET fun p b=>by
 simp only[LH,Wb,Zt,or_false]at b;rcases b with rfl|rfl|rfl|rfl|rfl|rfl|rfl|rfl|rfl|rfl|rfl|rfl
 ·exact vg ga zci
 ·exact vg ga zcm
 ·exact vg ga zch
 ·exact vg ga zb8
 ·exact vg ga zb9
 ·exact vg ga zcf
 ·exact vg ga (zcb a)
 ·exact vg ga (zcj a)
 ·exact vg ga (zcn a)
 ·exact vg ga (zcp a)
 ·exact vg ga zcl
 ·exact vg ga zcs
def pm{f}{c}{args}{bx}{oc}{r}(h:LH.lookup f=some c)(k:c f args bx oc=some r):Lf f args bx oc=some r:=by
 unfold Lf;rw[DT h];exact k
def wP:Cf Lf:=fun s c hs=>by
 refine pm rfl ?_;have h:=mh (k:=96) (spec:=sA) (args:=[.flat (.string (S s)),.flat (.int .u8 (c.toNat:Nat))]) rfl rfl;rw[h,bf,eW,gP];rfl
def xP:sd Lf:=fun s p hs a=>by
 rfl
def r5:gu Lf:=fun s hs=>by
 refine pm rfl ?_;have h:=mh (k:=79) (spec:=gw) (args:=[.flat (.string (S s))]) rfl (by unfold gw;dsimp only;rw[Na,if_pos hs,bf]);rw[h];rfl
def p5:Pp Lf:=fun s t hs ht=>by
 refine pm rfl ?_;have h:=mh (k:=140) (spec:=Yv) (args:=[.flat (.string (S s)),.flat (.string (S t))]) rfl (by unfold Yv;dsimp only;rw[Na,Na,if_pos ⟨hs,ht⟩,bf,bf]);rw[h];rfl
def vP:Kl Lf:=fun s w hs=>by
 rfl
def q5:fu Lf:=fun s hs=>by
 refine pm rfl ?_;have h:=mh (k:=143) (spec:=dw) (args:=[.flat (.string (S s))]) rfl (by unfold dw;dsimp only;rw[Na,if_pos hs,bf]);rw[h];cases Qe s with
 |some t=>rfl
 |none=>rfl
def uP:vo Lf:=fun s w hs=>by
 refine pm rfl ?_;have h:=mh (k:=39) (spec:=Zv) (args:=[.flat (.string (S s)),.flat (.string (S w))]) rfl (by unfold Zv;dsimp only;rw[Na,if_pos hs,bf,bf]);rw[h];rfl
def s5:Rp Lf:=fun s w hs=>by
 refine pm rfl ?_;have h:=mh (k:=146) (spec:=iw) (args:=[.flat (.string (S s)),.flat (.string (S w))]) rfl (by unfold iw;dsimp only;rw[Na,if_pos hs,bf,bf]);rw[h];rfl
def yP:Ll Lf:=fun s o n hs b a=>by
 refine pm rfl ?_;have h:=mh (k:=42) (spec:=lw) (args:=[.flat (.string (S s)),.flat (.string (S o)),.flat (.string (S n))]) rfl (by unfold lw;dsimp only;rw[Na,Na,Na,if_pos ⟨hs,b,a⟩,bf,bf,bf]);rw[h];rfl
def w5:XA Lf:=fun s hs=>by
 refine pm rfl ?_;have h:=mh (k:=75) (spec:=mw) (args:=[.flat (.string (S s))]) rfl (by unfold mw;dsimp only;rw[Na,if_pos hs,bf])
 grind [Pc.Pg,Ru]
def u5:ku Lf:=fun s hs=>by
 refine pm rfl ?_;have h:=mh (k:=139) (spec:=jw) (args:=[.flat (.string (S s))]) rfl (by unfold jw;dsimp only;rw[Na,if_pos hs,bf])
 grind [Pc.Pg,Ru]
def x5:lu Lf:=fun s hs=>by
 refine pm rfl ?_;have h:=mh (k:=144) (spec:=pw) (args:=[.flat (.string (S s))]) rfl (by unfold pw;dsimp only;rw[Na,if_pos hs,bf]);rw[h];cases jb (bare s)with
 |some t=>rfl
 |none=>rfl
def g6:xr Lf:=⟨wP,xP,r5,p5,yP,q5,x5,u5,uP,vP,s5,w5⟩
end Go.Proofs.YtglaihdcndcmkaaGreatDoor
namespace wa
variable {lib:Callee}
def QG:oa:=.Ld [0,2,3] [] [⟨some 2,none,.alloc 52 [.flat (.slice none 0 0),.flat (.string ⟨#[]⟩),.flat (.string ⟨#[]⟩),.flat (.slice none 0 0)]⟩,⟨some 3,none,.alloc 24 [.flat (.int .i64 0)]⟩]
def PG:oa:=.seq (.Ld [0,2,3,4] [] [⟨some 6,none,.build [.flat (.int .i64 0)] []⟩,⟨some 7,none,.box 93 1 (.t 6)⟩,⟨some 4,none,.asg (.t 7)⟩]) (.seq (.Ld [2,3] [] [⟨some 8,none,.mv (.t 4)⟩,⟨some 9,none,.mv (.t 0)⟩,⟨some 10,none,.call 37 [.t 8,.t 9,.c (.flat (.int .i64 0))]⟩,⟨none,none,.store 4 (.t 2) (.t 10)⟩,⟨none,none,.store 1 (.t 3) (.c (.flat (.int .i64 0)))⟩]) (.ret [2,3]))
def Tn:Vm:=⟨11,[.inr ⟨2,⟨true,4⟩⟩,.inr ⟨3,⟨false,1⟩⟩],QG,5,36,[.t 2,.t 3],PG⟩
def ER:Pr Tryz.prog [] [[0,2,3]] [[0,2,3,4],[2,3],[2,3]] 19=some Tn:=ca
def Ih(j:Nat):Ha:=[(52,Xa),(24,[.flat (.int .i64 0)]),(RT,lf j)]
def YJ:Db Ih 3 2 RT lf [(0,0),(0,3)] where
 len j:=rfl
 get j:=rfl
 set i j:=rfl
 lt:=ga
 low j:=rfl
 ea q hq:=by simp only[Wb,Zt,or_false]at hq;rcases hq with rfl|rfl<;>decide
 ra q hq:=by simp only[Wb,Zt,or_false]at hq;rcases hq with rfl|rfl<;>decide
def g7:LI Tryz.prog 36 2:=by
 intro b w h
 match b,h with
 |[p,q],_=>
 refine callsDIn_of_wpSIn Tryz.func36 rfl trivial fun a cs c=>?_
 simp only[Tryz.ntmps36,Ut,za,ya,Nat.reduceAdd,Nat.reduceSub,Vt,Wt,Xt,Yt,Gb,ub];apply wpSIn_seq;apply wpSIn_region;simp[wpOpsSIn,go_sem,recoverD,c,Exit.thenS];apply wpSIn_seq;apply wpSIn_seq;apply wpSIn_region;simp[wpOpsSIn,go_sem,Exit.thenS];refine wpSIn_cond (t:=true) (by simp[Act.eval]) ?_;simp only[if_true];refine wpSIn_of_wpIn rfl (wpIn_ret ?_);cases a;simp_all[bodyPostS,results,Tryz.results36,Exit.thenS]
def od(e:Int):Value:=.iface 89 (.agg #[.int .i64 e])
def M6(e)(w):Calls Tryz.prog 76 #[.bool false,.int .i64 e] w (fun x w'=>x=.panicked (entry (od e))/\w'=w):=by
 go_enter Tryz.func76,Tryz.ntmps76
 go_wp2
 all_goals exact⟨rfl,rfl,rfl⟩
def xQ:he:=fun f args bx oc q=>f=76/\∃e:Int,args=[.flat (.bool false),.flat (.int .i64 e)]/\bx=[]/\oc=[]/\q=(od e,[],[])
def L6{Γ}:Ci Tryz.prog Γ xQ:=by
 rintro f args bx oc q ⟨rfl,e,rfl,rfl,rfl,rfl⟩ w Fr β vs a;obtain rfl:vs=[.bool false,.int .i64 e]:=ky rfl a.args;refine enters_of ca ga ((M6 e w).mono ?_);rintro x w' ⟨rfl,rfl⟩;exact⟨rfl,Fr,β,by simp[Nc,Rd,sa],a.rel,Le.refl _ _ _,(fun L h=>by cases h),fun h=>by cases h⟩
noncomputable def Hx(f:FuncId):Option Ba:=if f=76 then none else code f
def IW:∀f c,Hx f=some c->∃lv,Uj Tryz.prog lv f=some c:=fun f c h=>by
 grind [Hx,Ix]
noncomputable def TW(lib:Callee):he:=Vp Hx (fa code lib) ka xQ
def DU{Γ}(a:dc Tryz.prog Γ lib):Ci Tryz.prog Γ (TW lib):=q8 Tryz.checked.mixed ca IW (gD Tryz.checked.mixed ca Ix a) L6
def Aj{f}{nt}{yb}{body}{Qi}(l:code f=some ⟨nt,yb,body,Qi⟩)(ra:f≠76){args:List PV}{bx:Ha}{oc:List wa.Loc}(k:args.length<=nt)(g){v}(b:Ha){a:Ha}(d:List wa.Loc){e:List wa.Loc}(h:mb (fa code lib) (TW lib) [] ka body g ⟨ag 0 args,oc,[],bx⟩ (v,[],b,d))
 (i:trim bx.length [] b=a) (j:∀L∈e,L∈Nb a.length d):TW lib f args bx oc (v,a,e):=
 n8 (c:=⟨nt,yb,body,Qi⟩) (by grind [Hx]) k g h i j
def N6(e):TW lib 76 [.flat (.bool false),.flat (.int .i64 e)] [] [] (od e,[],[]):=
 o8 ja ga ⟨rfl,e,rfl,rfl,rfl,rfl⟩
def Rq(e):(∃c p,TW lib 76 [.flat (.bool false),.flat (.int .i64 e)] [] [] (od e,c,p))=True:=eq_true ⟨_,_,N6 e⟩
def Rt.at(n:Nat)(r:Rt):Rt:=match n with
 |0=>r
 |n+1=>.r (Rt.at n r)
def zag(s:ba)(h:¬s.all gh=true):∃(k:Nat)(c:UInt8),s[k]?=some c/\gh c=false/\∀(j)(d),j<k->s[j]?=some d->gh d=true:=by
 induction s with
 |nil=>grind
 |cons c t g=>
  cases a:gh c with
  |false=>exact⟨0,c,rfl,a,fun j d e=>by omega⟩
  |true=>
   rw[Mm,a,pc]at h;obtain⟨k,d,i,b,l⟩:=g h;refine⟨k+1,d,ia,b,fun j x e n=>?_⟩
   grind
def zaj(r:Cf lib)(v:Ll lib)(s)(hs:s.length<=1000000)(h:Ak s=none):TW lib 142 [.flat (.string (S s))] [] [] (od 7,[],[]):=by
 have z:=xh (lib:=lib) 7;have w:((7:Nat):Int)=7:=rfl;rw[w]at z;have ht:=Rq (lib:=lib) 7;by_cases a:s.all gh=true
 ·unfold Ak at h
  rw[if_pos a]at h;split at h
  case isTrue=>cases h
  rename_i l;have q:=Ob (pt s [13,10] [0] ga) hs;have j:=WS (lib:=lib) s hs a;have r1:=Wz v s [13,10] [0] hs ga ga;generalize Lib.replaceAll s [13,10] [0]=u at*;have b:=dl r u 13 aa;have o:=dl r u 10 aa;have g:((UInt8.toNat 13:Nat):Int)=13:=rfl;have e:((UInt8.toNat 10:Nat):Int)=10:=rfl;rw[g]at b;rw[e]at o;refine Aj DC ga (qa rfl) (.r (.r (.r (.l (.op 76 0))))) [] [] ?_ rfl da;cases d:Zb 13 u with
  |some i=>
   rw[d]at b;dsimp only at b;exact va @r1
  |none=>
   rw[d]at b;dsimp only at b;cases p:Zb 10 u with
   |some i=>
    rw[p]at o;dsimp only at o;exact va @r1
   |none=>exact absurd ⟨d,p⟩ l
 ·obtain⟨l,A,e,b,g⟩:=zag s a
  have y:=(qg e).1;obtain⟨j,x⟩:=jz (body:=pa (fa code lib) ka cq) (pbody:=fun st=>mb (fa code lib) (TW lib) [] ka cq (.r (.r (.l (.r (.op 76 0))))) st (od 7,[],[],[])) (live:=[0,6,7]) (nb:=0) (fun k:Nat=>⟨[(0,.flat (.string (S s))),(6,.flat (.int .i64 (s.length:Nat))),(7,.flat (.int .i64 (k:Nat)))],[],[],[]⟩) (fun k=>k<=l) (fun k=>l - k) (fun k B=>by
   have q:k<s.length:=aa
   have d:=qe q;obtain⟨c,hce⟩:∃c,s[k]=c:=⟨_,rfl⟩;rw[hce]at d;obtain⟨n,t⟩:∃n,c.toNat=n:=⟨_,rfl⟩;by_cases p:k=l
   ·left
    subst p;rw[e]at d;cases d;unfold gh at b;rw[t]at b;simp only[PA,decide_eq_false_iff_not]at b;unfold cq;rcases Ka (0<n)with g1|g1
    ·have o:128<=n:=aa
     clear b;exact ta
    ·clear b
     exact ta
   ·right
    have o:=g k c aa d;unfold gh at o;rw[t]at o;simp only[Vc,decide_eq_true_eq]at o;refine⟨⟨[(0,.flat (.string (S s))),(6,.flat (.int .i64 (s.length:Nat))),(7,.flat (.int .i64 ((k+1:Nat):Nat)))],[],[],[]⟩,k+1,?_,?_,aa,aa⟩
    ·exact va rG
    ·simp(maxSteps:=999999) (disch:=first|assumption|omega) only[go_sem,simprocAttr,au]) (l+1) 0 (Za _) aa
  simp only[n0]at x;refine Aj DC ga (qa rfl) (.r (.l (.r (.lp j (.r (.r (.l (.r (.op 76 0))))))))) [] [] ?_ rfl da;exact ta
def X_(l:Cf lib)(n:Ll lib)(k:fu lib)(o:lu lib)(s c)(hs:s.length<=1000000)(h:si s c=none):TW lib 81 [.flat (.string (S s)),.flat (.string (S c))] [] [] (od 7,[],[]):=by
 have ht:=Rq (lib:=lib) 7;unfold si at h;by_cases g:c=Ri
 ·rw[if_pos g]at h
  have a:(c=[55,98,105,116])=True:=eq_true g;refine Aj Gu ga (qa rfl) (.r (.r (.l (.r (.r (.l (.op 142 0))))))) [] [] ?_ rfl da;simp(maxSteps:=999999) (disch:=first|assumption|omega) only[go_sem,simprocAttr,au,a];exact⟨_,_,zaj l n s hs h⟩
 ·rw[if_neg g]at h
  have a:(c=[55,98,105,116])=False:=eq_false g;by_cases i:c=hA
  ·rw[if_pos i]at h
   have e:=pN k s hs;rw[h]at e;dsimp only at e;have b:(c=[113,117,111,116,101,100,45,112,114,105,110,116,97,98,108,101])=True:=eq_true i;refine Aj Gu ga (qa rfl) (.r (.r (.r (.l (.op 76 0))))) [] [] ?_ rfl da;simp(maxSteps:=999999) (disch:=first|assumption|omega) only[go_sem,simprocAttr,au,e,a,b,ht]
  ·rw[if_neg i]at h
   have b:(c=[113,117,111,116,101,100,45,112,114,105,110,116,97,98,108,101])=False:=eq_false i;by_cases j:c=eA
   ·rw[if_pos j]at h
    have e:=cU o s hs;rw[h]at e;dsimp only at e;have d:(c=[98,97,115,101,54,52])=True:=eq_true j;refine Aj Gu ga (qa rfl) (.r (.r (.r (.l (.op 76 0))))) [] [] ?_ rfl da;simp(maxSteps:=999999) (disch:=first|assumption|omega) only[go_sem,simprocAttr,au,e,a,b,d,ht]
   ·have d:(c=[98,97,115,101,54,52])=False:=eq_false j
    refine Aj Gu ga (qa rfl) (.r (.r (.r (.l (.op 76 0))))) [] [] ?_ rfl da;simp(maxSteps:=999999) (disch:=first|assumption|omega) only[go_sem,simprocAttr,au,a,b,d,ht]
theorem o5(r:Pp lib)(Q:gu lib)(L:ku lib)(J:vo lib)(K:Cf lib)(F)(e)(hF:Ck F)(Z:(mc Qg F).1.length<=10000)(d:∀m l,bg (mc Qg F).1=.ok m l->Ck l/\m.length<=10000)(h:gl F=.error e):
 TW lib 77 [.ha F.length (bb F)] [] [] (od (e:Nat),[],[]):=by
 have g1:=Wu r F Qg hF ga;have C:=Wu r F Pf hF ga;have E:=xh (lib:=lib) 0;have G:=xh (lib:=lib) 9;have T:((9:Nat):Int)=9:=rfl;rw[T]at G;rw[n0]at E;have t7Z:=Rq (lib:=lib) 7;have t9:=Rq (lib:=lib) 9;have Y:=je F;have M:=fun n=>cd (n:=n) F
 have c:=FR L _ Z;unfold gl at h;unfold Qg at g1 h c d;unfold Pf at C h;obtain⟨v,I⟩:∃v,mc [99,111,110,116,101,110,116,45,116,121,112,101] F=v:=⟨_,rfl⟩;obtain⟨u,H⟩:∃v,mc [99,111,110,116,101,110,116,45,116,114,97,110,115,102,101,114,45,101,110,99,111,100,105,110,103] F=v:=⟨_,rfl⟩;rw[I]at g1 h c d;rw[H]at C h;obtain⟨v,n⟩:=v;obtain⟨u,k⟩:=u;dsimp only at g1 C h c d;split at h
 case isFalse=>
  rename_i g;cases h;refine Aj Fu ga (qa rfl) (.r (.r (.r (.l (.op 76 0))))) [] [] ?_ rfl da;clear c d hF;have S:od ((9:Nat):Int)=od 9:=rfl;rcases Ka (n<2)with a|a
  ·have b:=fun b=>g ⟨a,b⟩
   exact ta
  ·exact ta
 rename_i g;obtain⟨hnZ,hkZ⟩:=g;split at h
 ·cases h
 ·rename_i X
  have N:((n:Int)=0)=False:=by apply eq_false;omega
  cases a:bg v with
  |form=>
   rw[a]at h c;dsimp only at h c;cases h;have R:od ((7:Nat):Int)=od 7:=rfl;refine Aj Fu ga (qa rfl) (.r (.r (.r (.r (.r (.r (.l (.op 76 0)))))))) [] [] ?_ rfl da;clear d hF;exact ta
  |zh=>
   rw[a]at h c;dsimp only at h c;cases h;have S:od ((9:Nat):Int)=od 9:=rfl;refine Aj Fu ga (qa rfl) (.r (.r (.r (.r (.r (.r (.l (.op 76 0)))))))) [] [] ?_ rfl da;clear d hF;exact ta
  |ok m l=>
   rw[a]at h c;dsimp only at h c;obtain⟨j,W⟩:=d m l a;have V:=tQ r l m j;have hcut:=Ox J m [47] aa;have O:=je l;have D:=fun n=>cd (n:=n) l
   have U:=j.1;split at h
   case isTrue=>cases h
   rename_i t;cases h;have R:od ((7:Nat):Int)=od 7:=rfl;have p:(Lib.cut m [47]).2.1.length<=m.length:=by
    unfold Lib.cut;split
    ·simp
    ·simp
   obtain⟨q,P⟩:∃q,Lib.cut m [47]=q:=⟨_,rfl⟩;rw[P]at hcut t p;obtain⟨x,y,z⟩:=q;dsimp only at hcut t p;have b:=dl K y 47 aa;have B:((UInt8.toNat 47:Nat):Int)=47:=rfl;rw[B]at b;refine Aj Fu ga (qa rfl) (.r (.r (.r (.r (.r (.r (.r (.r (.r (.r (.l (.op 76 0)))))))))))) [] [] ?_ rfl da;clear hF j d P a r Q L J K;cases z with
   |false=>
    exact ta
   |true=>
    by_cases c2:x=[]
    ·have w:=eq_true c2
     exact ta
    ·have w:=eq_false c2
     by_cases c3:y=[]
     ·have A:=eq_true c3
      exact ta
     ·have A:=eq_false c3
      cases o:Zb 47 y with
      |none=>exact absurd ⟨rfl,c2,c3,o⟩ t
      |some i=>
       rw[o]at b;dsimp only at b;clear t;exact ta
theorem OG{ι:Type}{body}{P:ι->St->Prop}{live}{nb}:∀(j)(st),kg body (fun s=>∃i,P i s) live nb j st->∃i,kg body (P i) live nb j st
 |0,st,⟨i,h⟩=>⟨i,h⟩
 |j+1,st,h=>by
  unfold kg at h;split at h
  ·rename_i st' hs
   obtain⟨i,a⟩:=OG j _ h
   grind [kg]
  grind
def Rv(i:Bool):Rt:=if i then .r (.l (.op 76 0))else .r (.r (.r (.r (.l (.r (.l (.op 76 0)))))))
theorem FV{rest line}{BX:List ba->Ha}{oc}{b nb}(r:Rp lib)(t:sd lib)(x:rest.length<=100000000)(e:∀a,(BX a).length=nb){a}{fr at_}(z:fr<=at_)(A:at_<=rest.length)(w:line.length<=10000000)(h:De rest line (a,fr,at_)=.inr none):
 ∃i,mb (fa code lib) (TW lib) [] ka dn (Rv i) ⟨[(0,.Ma b),(4,.flat (.string (S line))),(5,.flat (.string (S rest))),(7,.flat (.int .i64 (fr:Nat))),(8,.flat (.int .i64 (at_:Nat)))],cl oc,[],BX a⟩ (od 7,[],BX a,cl oc):=by
 have v:Da=4294967296:=rfl;have k:=xh (lib:=lib) 7;have u:((7:Nat):Int)=7:=rfl;rw[u]at k;have ht:=Rq (lib:=lib) 7;have p:=AD r (rest.drop at_) line ia;have B:rest.take rest.length=rest:=Eh;have g1:=e a;by_cases d:Lib.index (rest.drop at_) line=-1
 ·rw[d]at p
  refine⟨true,?_⟩;unfold Rv dn;rw[if_pos rfl];clear h;exact Zk @xb @cb @wb @pb @Bb
 ·obtain⟨r1,q⟩:=yy (n:=0) d
  rw[Ya]at r1;obtain⟨i,o⟩:∃i,(Lib.index (rest.drop at_) line).toNat=i:=⟨_,rfl⟩;rw[o]at r1 q;rw[q]at p
  have j:De rest line (a,fr,at_)=(if([45,45,13,10]:ba).isPrefixOf (rest.drop (at_+i+line.length))then(if rest.drop (at_+i+line.length)=[45,45,13,10]then .inr (some (a++[(rest.take (at_+i)).drop fr]))else .inr none)
   else if([13,10]:ba).isPrefixOf (rest.drop (at_+i+line.length))then .inl (a++[(rest.take (at_+i)).drop fr],at_+i+line.length+2,at_+i+line.length+2)else .inl (a,fr,at_+i+1)):=by
   unfold De;dsimp only;rw[if_neg d,o]
  have C:((at_:Int)+(i:Int)+(line.length:Int)).toNat=at_+i+line.length:=aa
  have l:=gt t (rest.drop (at_+i+line.length)) [45,45,13,10] ia ga;rw[j]at h;cases g:([45,45,13,10]:ba).isPrefixOf (rest.drop (at_+i+line.length))with
  |true=>
   rw[g]at h l;simp only[if_true]at h;by_cases c:rest.drop (at_+i+line.length)=[45,45,13,10]
   ·rw[if_pos c]at h;cases h
   ·have y:=eq_false c
    refine⟨false,?_⟩;unfold Rv dn;rw[if_neg da];clear h j c;exact Zk @xb @cb @wb @pb @Bb
  |false=>
   rw[g]at h;simp only[Fa,if_false]at h;split at h<;>cases h
theorem EV{rest line}{BX:List ba->Ha}{oc}{b nb N}(C:Rp lib)(w:sd lib)(J:rest.length<=100000000)(d:∀a,(BX a).length=nb)(r:∀q∈oc,q.1<nb){a}{fr at_}(L:fr<=at_)(M:at_<=rest.length)(I:line.length<=10000000)(H:1<=line.length)(F:a.length<=N)
 (t:∀a x,a.length<=N->fa code lib hb [.Ma b,.flat (.string (S x))] (BX a) (cl oc)=some ([.flat (.bool true)],false,BX (a++[x]),cl oc)) {q} (h:De rest line (a,fr,at_)=.inl q):
 pa (fa code lib) ka dn ⟨[(0,.Ma b),(4,.flat (.string (S line))),(5,.flat (.string (S rest))),(7,.flat (.int .i64 (fr:Nat))),(8,.flat (.int .i64 (at_:Nat)))],cl oc,[],BX a⟩=some (.normal,⟨[(0,.Ma b),(4,.flat (.string (S line))),(5,.flat (.string (S rest))),(7,.flat (.int .i64 (q.2.1:Nat))),(8,.flat (.int .i64 (q.2.2:Nat)))],cl oc,[],BX q.1⟩)/\q.2.1<=q.2.2/\q.2.2<=rest.length/\at_<q.2.2/\q.1.length<=a.length+1:=by
 have G:Da=4294967296:=rfl;have e:=xh (lib:=lib) 7;have E:((7:Nat):Int)=7:=rfl;rw[E]at e;have v:=AD C (rest.drop at_) line ia;have A:rest.take rest.length=rest:=Eh;have g1:=d a;by_cases g:Lib.index (rest.drop at_) line=-1
 ·unfold De at h;dsimp only at h;rw[if_pos g]at h;cases h
 ·obtain⟨r1,z⟩:=yy (n:=0) g
  rw[Ya]at r1;obtain⟨i,y⟩:∃i,(Lib.index (rest.drop at_) line).toNat=i:=⟨_,rfl⟩;rw[y]at r1 z;rw[z]at v
  have k:De rest line (a,fr,at_)=(if([45,45,13,10]:ba).isPrefixOf (rest.drop (at_+i+line.length))then(if rest.drop (at_+i+line.length)=[45,45,13,10]then .inr (some (a++[(rest.take (at_+i)).drop fr]))else .inr none)
   else if([13,10]:ba).isPrefixOf (rest.drop (at_+i+line.length))then .inl (a++[(rest.take (at_+i)).drop fr],at_+i+line.length+2,at_+i+line.length+2)else .inl (a,fr,at_+i+1)):=by
   unfold De;dsimp only;rw[if_neg g,y]
  have B:((at_:Int)+(i:Int)+(line.length:Int)).toNat=at_+i+line.length:=aa
  have l:=gt w (rest.drop (at_+i+line.length)) [45,45,13,10] ia ga;have c:=gt w (rest.drop (at_+i+line.length)) [13,10] ia ga;have K:=db oc r;have u:=t a ((rest.take (at_+i)).drop fr) F;have D:=d (a++[(rest.take (at_+i)).drop fr]);rw[k]at h;cases p:([45,45,13,10]:ba).isPrefixOf (rest.drop (at_+i+line.length))with
  |true=>
   rw[p]at h;simp only[if_true]at h;split at h<;>cases h
  |false=>
   rw[p]at h l;simp only[Fa,if_false]at h;cases j:([13,10]:ba).isPrefixOf (rest.drop (at_+i+line.length))with
   |true=>
    rw[j]at h c;simp only[if_true]at h;cases h;have o:=xk j;rw[Ya]at o;simp only[za,ya]at o;refine⟨?_,la _,ia,ia,da⟩;clear k t;simp(maxSteps:=999999) (disch:=first|assumption|omega) only[go_sem,simprocAttr,au,Fv,A,B,v,e,l,c,u,g1,D,pb,Bb,Mc g1,ic]
   |false=>
    rw[j]at h c;simp only[Fa,if_false]at h;cases h;refine⟨?_,ia,ia,ia,da⟩;clear k t;simp(maxSteps:=999999) (disch:=first|assumption|omega) only[go_sem,simprocAttr,au,Fv,A,B,v,e,l,c,g1,pb,Bb,Mc g1,ic]
theorem NV(C:Rp lib)(I:Kl lib)(D:sd lib)(s mark)(hs:s.length<=100000000)(W:mark.length<=1000000)(h:Ei s mark=none)(BX:List ba->Ha)(oc)(b G H nb)
 (J:∀a,(BX a)[G]?=some (9,[.flat (.string (S mark))])) (K:∀a,(BX a)[H]?=some (9,[.flat (.string (S s))])) (c:∀a,(BX a).length=nb) (t:∀q∈oc,q.1<nb)
 (Q:∀a x,a.length<=s.length->fa code lib hb [.Ma b,.flat (.string (S x))] (BX a) (cl oc)=some ([.flat (.bool true)],false,BX (a++[x]),cl oc)):
 ∃out,TW lib 145 [.Ma b,.ptr G 0,.ptr H 0] (BX []) (cl oc) (od 7,BX out,[]):=by
 have M:Da=4294967296:=rfl;have w:(jc mark).length=mark.length+4:=by unfold jc;simp
 have c1:=QC I ([13,10]++s) (jc mark++[13,10]) ia;have g1:=J [];have v:=K [];have g3:=c [];have p:=xh (lib:=lib) 7;have L:((7:Nat):Int)=7:=rfl;rw[L]at p;have ht:=Rq (lib:=lib) 7;have F:=db oc t;have E:S (13::10::45::45::mark)=S (jc mark):=rfl;unfold Ei at h;cases d:(jc mark++[13,10]).isPrefixOf ([13,10]++s)with
 |false=>
  rw[d]at c1;simp only[Fa,if_false]at c1;simp only[ub,Gb]at c1;refine⟨[],Aj BC ga (qa rfl) (.r (.r (.l (.op 76 0)))) (BX []) (cl oc) ?_ (Mc rfl) da⟩;clear h;exact Zk @xb @cb @wb @pb @Bb
 |true=>
  rw[if_pos d]at h;rw[if_pos d,d]at c1;have y:=xk d;simp only[Ja,za,ya]at y;have z:(([13,10]++s).drop (jc mark++[13,10]).length).length<=s.length:=by simp only[Ya,Ja,za,ya];omega
  obtain⟨rest,k⟩:∃r,([13,10]++s).drop (jc mark++[13,10]).length=r:=⟨_,rfl⟩;rw[k]at h c1 z;simp only[ub,Gb]at c1;obtain⟨line,g⟩:∃l,jc mark=l:=⟨_,rfl⟩;rw[g]at h c1 w E
  obtain⟨j,o⟩:=jz (body:=pa (fa code lib) ka dn) (pbody:=fun st=>∃i:Bool×List ba,mb (fa code lib) (TW lib) [] ka dn (Rv i.1) st (od 7,[],BX i.2,cl oc)) (live:=[0,4,5,7,8]) (nb:=nb) (fun q:List ba×Nat×Nat=>(⟨[(0,.Ma b),(4,.flat (.string (S line))),(5,.flat (.string (S rest))),(7,.flat (.int .i64 (q.2.1:Nat))),(8,.flat (.int .i64 (q.2.2:Nat)))],cl oc,[],BX q.1⟩:St))
   (fun q=>q.2.1<=q.2.2/\q.2.2<=rest.length/\q.1.length<=q.2.2/\∃n,rest.length+1<=n+q.2.2/\hc (De rest line) none n q=none) (fun q=>rest.length - q.2.2) (fun q P=>by
     obtain⟨a,fr,at_⟩:=q;obtain⟨A,B,R,n,T,u⟩:=P;dsimp only at A B R T u⊢;cases n with
     |zero=>omega
     |succ n=>
      cases e:De rest line (a,fr,at_)with
      |inr r=>
       rw[Dd e]at u;subst u;obtain⟨i,O⟩:=FV (BX:=BX) (oc:=oc) (b:=b) C D aa c A B aa e;exact .inl ⟨(i,a),O⟩
      |inl q=>
       rw[xf e]at u;obtain⟨O,U,V,X,Y⟩:=EV (oc:=oc) C D aa c t A B aa aa (N:=s.length) aa Q e;right;refine⟨_,q,O,?_,⟨U,V,aa,n,aa,u⟩,aa⟩;have v:=c q.1;simp(maxSteps:=999999) (disch:=first|assumption|omega) only[go_sem,simprocAttr,au,v,xb,cb,wb,Mc v,F]) (rest.length+1) ([],0,0) ⟨la _,Za _,la _,s.length+1,Fg,h⟩ Fg
  obtain⟨⟨i,out⟩,o⟩:=OG j _ o;dsimp only at o;simp only[n0]at o;have g4:=c out;refine⟨out,Aj BC ga (qa rfl) (.r (.r (.r (.r (.r (.lp j (Rv i))))))) (BX out) (cl oc) ?_ (Mc aa) da⟩;clear h;simp(maxSteps:=999999) (disch:=first|assumption|omega) only[go_sem,simprocAttr,au,g1,v,g3,E,c1,p,Mc g3,F,o]
def Db.tr{B}{n b e}{c}{r}(H:Db B n b e c r)(i j)(ys):trim (B j).length [] (B i++ys)=B i:=by
 have a:=H.rh i ys;have d:=H.Ql i ys;have g:=H.low i;unfold trim;rw[H.len,a,d];cases ys with
 |nil=>simp
 |cons y ys=>
  have:¬(n+(y::ys).length=n):=da
  rw[if_neg this,nC,g];simp[La]
def Lq(f:ba->Nat->Except Nat (LP×Nat))(g:ba->Nat->Nat):List ba->Nat->Nat
 |[],n=>n
 |x::l,n=>match f x n with
  | .error _=>g x n
  | .ok (_,a)=>Lq f g l a
def fz(rec:Option ((ba->Nat->Except Nat (LP×Nat))×(ba->Nat->Nat)))(s:ba)(n:Nat):Nat:=
 match Pd s with
 | .form=>n
 | .long=>n
 | .ok F at_=>match gl F with
   | .error _=>n
   | .ok (ty,mk)=>
     if Zn.isPrefixOf ty=false then n
     else if dj F=Ri/\ll mk=true then(match Ei (s.drop at_) mk with
      |none=>n
      |some all=>match rec with
       |none=>n
       |some (f,g)=>if n+all.length<=64 then Lq f g all (n+all.length)else n+all.length)
     else n
def nu(lib:Callee)(f:ba->Nat->Except Nat (LP×Nat))(g:ba->Nat->Nat)(a:Nat):Prop:=∀(B:Nat->Ha)(n b:Nat)(r:List (Nat×Nat)),Db B n b RT lf r->∀(s:ba)(j e:Nat),s.length<=10000->j<=64->f s j=.error e->
 TW lib 37 [.ptr b 0,.flat (.string (S s)),.flat (.int .i64 (a:Nat))] (B j) (cl r) (od (e:Nat),B (g s j),[])
def tt:Rt:=.r (.r (.l (.r (.op 37 0))))
def C8{f}{g}{B}{n b}{r}(H:Db B n b RT lf r){l}(X:l<4)(d:nu lib f g (l+1))(G)(y)(A:∀n,La n y=true)(ty s mk){all}{k j e}{x}{ps}(hkZ:k<all.length)(hcZ:all[k]?=some x)(J:all.drop k=x::all.drop (k+1))(F:x.length<=10000)(R:all.length<=64)(t:ps.length=k)(z:j<=64)(p:f x j=.error e):
 mb (fa code lib) (TW lib) [] ka Sj tt ⟨[(0,.ptr b 0),(2,.flat (.int .i64 (l:Nat))),(6,.ptr n 0),(10,.ptr (n+1) 0),(91,.ha all.length (ua all)),(92,.flat (.int .i64 (all.length:Nat))),(93,.flat (.int .i64 (k:Nat)))],sg n r k,[],B j++Gd G y ty s mk ps all⟩
  (od (e:Nat),[],B (g x j)++Gd G y ty s mk ps all,[]):=by
 have U:Da=4294967296:=rfl;have v:Cc (n+5) (Gd G y ty s mk ps all)=true:=by
  have M:=A (n+5);have P:=yf (n:=n+5) all;have Q:=dd (n:=n+5) ps;simp only[Gd,Xa,yh,Cc,La,PV.low,M,P,Q,tf]
 have o:=fun r' hr=>H.app (m:=n+5) _ rfl v r' hr
 have w:∀a c,a<5->∀q:Nat×Nat,q=(n+a,c)->q∈r\/(n<=q.1/\q.1<n+5):=fun a c h q e=>by grind
 have c1:=d _ (n+5) b ((n+2,0)::(n,0)::(n,3)::r) (o _ fun q O=>by
  grind) x j e F z p
 have c2:=d _ (n+5) b ((n+2,0)::(n+1,3)::(n,0)::(n,3)::r) (o _ fun q O=>by
  grind) x j e F z p
 have c3:=d _ (n+5) b ((n+1,3)::(n+2,0)::(n,0)::(n,3)::r) (o _ fun q O=>by
  grind) x j e F z p
 have hsc:(ua all).drop k=.flat (.string (S x))::(ua all).drop (k+1):=by simp only[ua,<-Yi,J,kc]
 have hr1:=H.Ym;have hr2:=H.Xm;have hr3:=H.aj;have hr4:=H.Pl;have hr5:=H.Zm;have hr6:=H.an;have hr7:=H.rh;have hr8:=H.Ql;have hr9:=H.bn;have hrl:=H.len;have N:=H.low;have V:=H.fm;have W:=H.tn;have hu0:=H.Bj;have hu1:=H.Fk;have Y:=H.Iq;have Z:=H.Jq;have L:=H.Wx;have K:=H.Vx;have hlb:=H.Xp;have T:=H.lt;have I:∀i,decide (b<n+i)=true:=fun i=>decide_eq_true aa
 have C:(Tc ps).length=k* 4:=by rw[sv,t]
 have D:=dz ps;have E:=fun n=>dd (n:=n) ps
 simp only[Gd,Xa,yh,t,cj,Wi,Xi]at c1 c2 c3⊢;clear d J w o H v;by_cases u:k=0
 ·subst u
  obtain rfl:ps=[]:=qz t;simp only[Tc]at c1 c2 c3⊢;simp only[sg,if_true];clear C D E;unfold tt Sj;exact yD @yu @Bu @zu @Au @bc @yf @Od
 ·simp only[sg,u,if_false]
  have M:(0<k):=aa
  unfold tt Sj;exact yD @yu @Bu @zu @Au @bc @yf @Od
theorem z6{f}{g}(T:∀s n p m,f s n=.ok (p,m)->n<=64->m<=64){B}{n b}{r}(H:Db B n b RT lf r){a}(A:a<4)(u:Rec lib f (a+1))(v:nu lib f g (a+1))(t)(d)(w:∀n,La n d=true)(ty s mk){all}(Y:∀x∈all,x.length<=10000)(z:all.length<=64){j e}(V:j<=64)(h:Mf f all j=.error e):
 ∃(i:Nat)(ps:List LP),kg (pa (fa code lib) ka Sj) (fun st=>mb (fa code lib) (TW lib) [] ka Sj tt st (od (e:Nat),[],B (Lq f g all j)++Gd t d ty s mk ps all,[])) [0,2,6,10,91,92,93] (n+5) i
  ⟨[(0,.ptr b 0),(2,.flat (.int .i64 (a:Nat))),(6,.ptr n 0),(10,.ptr (n+1) 0),(91,.ha all.length (ua all)),(92,.flat (.int .i64 (all.length:Nat))),(93,.flat (.int .i64 0))],sg n r 0,[],B j++Gd t d ty s mk [] all⟩:=by
 have D:∀(j:Nat)(ps:List LP),Cc (n+5) (B j++Gd t d ty s mk ps all)=true:=by
  intro j ps;have c:=w (n+5);have l:=yf (n:=n+5) all;have o:=dd (n:=n+5) ps;rw[H.Xp];simp only[Gd,Xa,yh,Cc,La,PV.low,c,l,o,tf]
 obtain⟨M,Q⟩:∃M,Lq f g all j=M:=⟨_,rfl⟩;rw[Q]
 obtain⟨i,U⟩:=jz (body:=pa (fa code lib) ka Sj) (pbody:=fun st=>∃ps:List LP,mb (fa code lib) (TW lib) [] ka Sj tt st (od (e:Nat),[],B M++Gd t d ty s mk ps all,[])) (live:=[0,2,6,10,91,92,93]) (nb:=n+5) (fun q:Nat×Nat×List LP=>(⟨[(0,.ptr b 0),(2,.flat (.int .i64 (a:Nat))),(6,.ptr n 0),(10,.ptr (n+1) 0),(91,.ha all.length (ua all)),(92,.flat (.int .i64 (all.length:Nat))),(93,.flat (.int .i64 (q.1:Nat)))],sg n r q.1,[],B q.2.1++Gd t d ty s mk q.2.2 all⟩:St))
  (fun q=>q.1<=all.length/\q.2.1<=64/\q.2.2.length=q.1/\Mf f (all.drop q.1) q.2.1=.error e/\Lq f g (all.drop q.1) q.2.1=M) (fun q=>all.length - q.1) (fun q W=>by
    obtain⟨k,j,qs⟩:=q;obtain⟨Z,I,P,l,o⟩:=W;dsimp only at Z I P l o⊢;have y:k<all.length:=by
     rcases ai k all.length with h|h
     ·exact h
     ·rw[Ai h]at l;cases l
    have R:=qe y;have J:=ld y;have F:=Y _ (Qm y);rw[J]at l o;unfold Mf at l;unfold Lq at o;cases c:f all[k] j with
    |error C=>
     rw[c]at l o;cases l;dsimp only at o;left;refine⟨qs,?_⟩;rw[<-o];exact C8 H A v t d w ty s mk y R J F z P I c
    |ok pmZ=>
     obtain⟨p,G⟩:=pmZ;rw[c]at l o;dsimp only at l o;right;refine⟨_,(k+1,G,qs++[p]),KR H A u t d w ty s mk y R J F z P I c,?_,⟨y,T _ _ _ _ c I,ia,?_,o⟩,aa⟩
     ·have C:(B G++Gd t d ty s mk (qs++[p]) all).length=n+5:=by rw[H.rh];rfl
      have E:=D G (qs++[p]);have K:=H.Iq;have L:=H.Jq;have N:=H.Bj;have O:=H.Fk;simp only[sg,Nat.succ_ne_zero,if_false];clear H u v D;generalize B G++Gd t d ty s mk (qs++[p]) all=X at*;simp(maxSteps:=999999) (disch:=first|assumption|omega) only[go_sem,simprocAttr,au,C,Mc C,K,L,N,O,E,yf]
     grind) (all.length+1) (0,j,[]) ⟨Za _,V,rfl,h,Q⟩ aa
 obtain⟨ps,S⟩:=OG i _ U;simp only[n0]at S;exact⟨i,ps,S⟩
theorem iC(rest line:ba)(e:1<=line.length):∀(n:Nat)(q:List ba×Nat×Nat)(out:List ba),hc (De rest line) none n q=some out->q.1.length<=q.2.2->q.2.2<=rest.length->out.length<=rest.length+1
 |0,q,out,h,_,_=>by cases h
 |n+1,(a,fr,at_),out,h,l,hr=>by
  dsimp only at l hr;by_cases c:Lib.index (rest.drop at_) line=-1
  ·rw[Dd (r:=none) (by unfold De;dsimp only;rw[if_pos c])]at h;cases h
  obtain⟨r1,o⟩:=yy (n:=0) c;rw[Ya]at r1;obtain⟨i,j⟩:∃i,(Lib.index (rest.drop at_) line).toNat=i:=⟨_,rfl⟩;rw[j]at r1
  have b:De rest line (a,fr,at_)=(if([45,45,13,10]:ba).isPrefixOf (rest.drop (at_+i+line.length))then(if rest.drop (at_+i+line.length)=[45,45,13,10]then .inr (some (a++[(rest.take (at_+i)).drop fr]))else .inr none)
   else if([13,10]:ba).isPrefixOf (rest.drop (at_+i+line.length))then .inl (a++[(rest.take (at_+i)).drop fr],at_+i+line.length+2,at_+i+line.length+2)else .inl (a,fr,at_+i+1)):=by
   unfold De;dsimp only;rw[if_neg c,j]
  by_cases g:([45,45,13,10]:ba).isPrefixOf (rest.drop (at_+i+line.length))=true
  ·rw[if_pos g]at b
   by_cases d:rest.drop (at_+i+line.length)=[45,45,13,10]
   ·rw[if_pos d]at b
    rw[Dd b]at h;cases h;simp only[Ja,za,ya];omega
   ·rw[if_neg d]at b
    rw[Dd b]at h;cases h
  ·rw[if_neg g]at b
   by_cases d:([13,10]:ba).isPrefixOf (rest.drop (at_+i+line.length))=true
   ·rw[if_pos d]at b
    rw[xf b]at h;have k:=xk d;rw[Ya]at k;simp only[za,ya]at k;exact iC rest line e n _ out h (by simp only[Ja,za,ya];omega) Fg
   ·rw[if_neg d]at b
    rw[xf b]at h;exact iC rest line e n _ out h Fg Fg
def JV{s mk:ba}{all:List ba}(h:Ei s mk=some all):all.length<=s.length+1:=by
 unfold Ei at h;split at h
 ·rename_i a
  have a:=xk a;have:=iC _ _ (by unfold jc;simp) _ _ _ h (la _) (Za _);simp only[Ja,za,ya,Ya]at this a;omega
 ·cases h
def n5{F:List ec}{ty mk:ba}(b:(mc Qg F).1.length<=10000)(a:gl F=.ok (ty,mk)):ty.length<=10000/\mk.length<=1000000:=by
 unfold gl at a;split at a
 ·split at a
  ·cases a;decide
  ·split at a
   ·cases a
   ·cases a
   ·rename_i m l d
    split at a
    ·cases a
     have h:=UG d b;exact⟨by have:=h.2;simp only[xa,Hj];omega,YF l [] (fun f c=>(h.1.2 f c).2) da⟩
    ·cases a
 ·cases a
def Db.all{B:Nat->Ha}{n b:Nat}{r:List (Nat×Nat)}(H:Db B n b RT lf r):(∀(j:Nat)(ys:Ha),(B j++ys)[b]?=some (RT,[.flat (.int .i64 (j:Nat))]))/\(∀(j:Nat)(ys:Ha),(B j++ys)[n]?=ys[0]?)/\(∀(j i:Nat)(ys:Ha),(B j++ys)[n+i]?=ys[i]?)/\(∀(i j:Nat)(ys:Ha),(B j++ys).set b (RT,[.flat (.int .i64 (i:Nat))])=B i++ys)/\(∀(j:Nat)(ys:Ha)(q:Nat×List PV),(B j++ys).set n q=B j++ys.set 0 q)/\(∀(j i:Nat)(ys:Ha)(q:Nat×List PV),(B j++ys).set (n+i) q=B j++ys.set i q)/\(∀(j:Nat)(ys:Ha),(B j++ys).length=n+ys.length)/\(∀(j:Nat)(ys:Ha),(B j++ys).take n=B j)/\(∀(j i:Nat)(ys:Ha),(B j++ys).take (n+i)=B j++ys.take i)/\(∀j,(B j).length=n)/\(∀j,Cc n (B j)=true)/\(∀o m:Nat,Qc n o m (cl r)=cl r)/\(∀i o m:Nat,Qc (n+i) o m (cl r)=cl r)/\Nb n (cl r)=cl r/\(∀i:Nat,Nb (n+i) (cl r)=cl r)/\Rh n (cl r)=cl r/\(∀i:Nat,Rh (n+i) (cl r)=cl r)/\(∀i o:Nat,ad (.cell (n+i) o) (cl r)=cl r)/\(∀o:Nat,ad (.cell n o) (cl r)=cl r)/\(∀(j i:Nat)(ys:Ha),Cc (n+i) (B j++ys)=Cc (n+i) ys)/\(∀i,decide (b<n+i)=true)/\(∀o:Nat,Qc b o 1 (cl r)=cl r):=
 ⟨H.Ym,H.Xm,H.aj,H.Pl,H.Zm,H.an,H.rh,H.Ql,H.bn,H.len,H.low,H.fm,H.tn,H.Bj,H.Fk,H.Iq,H.Jq,H.Wx,H.Vx,H.Xp,fun i=>decide_eq_true (by have:=H.lt;omega),H.CY⟩
def Hm{f:FuncId}{nt:Nat}{yb:List (Sum Nat (Nat×Bool×Nat))}{body:oa}{Qi:List (List Nat×oa×oa)}(g:code f=some ⟨nt,yb,body,Qi⟩){args:List PV}{bx:Ha}{oc:List wa.Loc}(d:Rt){v:Value}(a:Ha){b:Ha}(c:List wa.Loc)(e:trim bx.length [] a=b)(ra:f≠76:=by decide)(i:args.length<=nt:=by exact qa rfl)
 (h:mb (fa code lib) (TW lib) [] ka body d ⟨ag 0 args,oc,[],bx⟩ (v,[],a,c):=by simp(maxSteps:=999999) (disch:=first|assumption|omega) only[go_sem,simprocAttr,au, *]):TW lib f args bx oc (v,b,[]):=
 Aj g ra i d a c h e da
def du(lib:wa.Callee)(f:ba->Nat->Except Nat (LP×Nat))(g:ba->Nat->Nat)(a:Nat)(B:Nat->Ha)(b:Nat)(r:List (Nat×Nat))(s:ba)(j:Nat):Prop:=
 match f s j with
 | .ok (p,m)=>fa code lib 37 [.ptr b 0,.flat (.string (S s)),.flat (.int .i64 (a:Nat))] (B j) (cl r)=some ([.agg p.cells],false,B m,cl r)
 | .error e=>TW lib 37 [.ptr b 0,.flat (.string (S s)),.flat (.int .i64 (a:Nat))] (B j) (cl r) (od (e:Nat),B (g s j),[])
theorem KP(L:xr lib){rec:Option ((ba->Nat->Except Nat (LP×Nat))×(ba->Nat->Nat))}{v:Nat}(hd4:v<=4)(I:rec=none->4<=v)(hr:∀f g,rec=some (f,g)->v<4/\Rec lib f (v+1)/\nu lib f g (v+1)/\∀s n p m,f s n=.ok (p,m)->n<=64->m<=64)
 {B:Nat->Ha} {n b:Nat} {r:List (Nat×Nat)} (H:Db B n b RT lf r) (s:ba) (j:Nat) (hs:s.length<=10000) (hjZ:j<=64):
 du lib (ik (rec.map (·.1))) (fz rec) v B b r s j:=by
 have f1Z:=zbg L.oA s hs;have hHZ:=H.all;have hbn:=H.lt;have d:=fun i=>H.tr i j
 have ht:=fun e=>Rq (lib:=lib) e
 have hm0:=xh (lib:=lib) 0;have hm7:=xh (lib:=lib) 7;have hm8:=xh (lib:=lib) 8;have hm5:=xh (lib:=lib) 5;rw[n0]at hm0;rw[show((7:Nat):Int)=7 from rfl]at hm7;rw[show((8:Nat):Int)=8 from rfl]at hm8;rw[show((5:Nat):Int)=5 from rfl]at hm5;have hbv:Da=4294967296:=rfl;unfold du ik fz;cases h1Z:Pd s with
 |form=>
  rw[h1Z]at f1Z;exact Hm ej (.r (.r (.l (.op 76 0)))) (B j++[(52,[.ha 0 [],.flat (.string (S [])),.flat (.string (S [])),.ha 0 []])]) (.cell n 0::.cell n 3::cl r) (d j _)
 |long=>
  rw[h1Z]at f1Z;exact Hm ej (.r (.r (.l (.op 76 0)))) (B j++[(52,[.ha 0 [],.flat (.string (S [])),.flat (.string (S [])),.ha 0 []])]) (.cell n 0::.cell n 3::cl r) (d j _)
 |ok F at_=>
  rw[h1Z]at f1Z;obtain⟨Y,k2Z,k3Z⟩:=AH h1Z aa;have G:(mc Qg F).1.length<=10000:=ss F _ da fun f hfZ=>by have:=(k3Z f hfZ).2;omega
  have hgl2:(mc Pf F).1.length<=10000:=ss F _ da fun f hfZ=>by have:=(k3Z f hfZ).2;omega
  have hnp:=je F;have hlo:=fun n=>cd (n:=n) F
  have hFl:=Y.1;have tkZ:(s.take s.length).drop at_=s.drop at_:=by rw[Eh]
  have hbl:(s.drop at_).length<=10000:=by rw[Ya];omega
  have E:=fun m l(V:bg (mc Qg F).1=.ok m l)=>UG V G
  dsimp only at f1Z⊢;cases h2Z:gl F with
  |error e=>
   have ftZ:=o5 L.alike L.fold L.tp L.cut L.idx F e Y G (fun m l V=>⟨(E m l V).1,by have:=(E m l V).2;omega⟩) h2Z;have o:(∃c p,TW lib 77 [.ha F.length (bb F)] [] [] (od (e:Nat),c,p))=True:=eq_true ⟨_,_,ftZ⟩;clear L H Y k3Z E hr I;exact Hm ej (.r (.r (.r (.r (.r (.l (.op 77 0))))))) (B j++[(52,[.ha 0 [],.flat (.string (S [])),.flat (.string (S [])),.ha 0 []]),(52,[.ha F.length (bb F),.flat (.string (S [])),.flat (.string (S [])),.ha 0 []])]) (.cell (n+1) 3::.cell n 0::.cell n 3::cl r) (d j _)
  |ok tmZ=>
   obtain⟨ty,mk⟩:=tmZ;have f2Z:=m5 L.alike L.fold L.tp L.cut L.idx F ty mk Y G (fun m l V=>⟨(E m l V).1,by have:=(E m l V).2;omega⟩) h2Z;have f3Z:=Wu L.alike F Pf Y ga;obtain⟨htyl,hmk⟩:=n5 G h2Z;have y:((mc Pf F).2=0/\dj F=[55,98,105,116]/\fa code lib 79 [.flat (.string (S [55,98,105,116]))] [] []=some ([.flat (.string (S [55,98,105,116]))],false,[],[]))\/(0<(mc Pf F).2/\fa code lib 79 [.flat (.string (S (mc Pf F).1))] [] []=some ([.flat (.string (S (dj F)))],false,[],[])):=by
    unfold dj;rcases Ep (mc Pf F).2 with h|h
    ·rw[h,if_pos rfl]
     exact .inl ⟨rfl,ga,mD L.fold Ri ga⟩
    ·rw[if_neg aa]
     exact .inr ⟨h,mD L.fold _ aa⟩
   have f4Z:=gt L.pre ty Zn aa ga;have f6Z:=H6 L.idx mk aa;have f5Z:=fun t(W:si (s.drop at_) (dj F)=some t)=>V_ L.idx L.rep L.dq L.um (s.drop at_) (dj F) t aa W
   have N:=fun(W:si (s.drop at_) (dj F)=none)=>X_ L.idx L.rep L.dq L.um (s.drop at_) (dj F) aa W
   clear h1Z h2Z E G hgl2 Y k3Z;dsimp only;generalize dj F=K at*;unfold Pf at*;unfold Zn at*;unfold Ri;generalize mc [99,111,110,116,101,110,116,45,116,114,97,110,115,102,101,114,45,101,110,99,111,100,105,110,103] F=U at*;obtain⟨u,k⟩:=U;dsimp only at f3Z y;cases h3Z:List.isPrefixOf [109,117,108,116,105,112,97,114,116,47] ty with
   |false=>
    rw[h3Z]at f4Z;simp only[if_true];clear f6Z;cases W:si (s.drop at_) K with
    |none=>
     have ftZ:(∃c p,TW lib 81 [.flat (.string (S (s.drop at_))),.flat (.string (S K))] [] [] (od 7,c,p))=True:=eq_true ⟨_,_,N W⟩;clear f5Z N L H hr I;rcases y with⟨rfl,rfl,o⟩|⟨y,o⟩<;>exact Hm ej (.r (.r (.r (.r (.r (.r (.r (.r (.r (.l (.r (.l (.op 81 0))))))))))))) (B j++[(52,[.ha 0 [],.flat (.string (S [])),.flat (.string (S [])),.ha 0 []]),(52,[.ha F.length (bb F),.flat (.string (S ty)),.flat (.string (S [])),.ha 0 []])]) (.cell (n+1) 3::.cell n 0::.cell n 3::cl r) (d j _)
    |some t=>
     have w:=f5Z t W;clear f5Z N L H hr I;simp only[LP.cells,Tc];rcases y with⟨rfl,rfl,o⟩|⟨y,o⟩<;>exact ng ej
   |true=>
    rw[h3Z]at f4Z;simp only[reduceCtorEq,if_false];clear f5Z N;by_cases D:K=[55,98,105,116]/\ll mk=true
    case neg=>
     simp only[if_neg D];by_cases w:K=[55,98,105,116]
     ·have P:ll mk=false:=by
       cases P:ll mk with
       |false=>rfl
       |true=>exact absurd ⟨w,P⟩ D
      rw[P]at f6Z;subst w;clear D L H hr I;rcases y with⟨rfl,_,o⟩|⟨y,o⟩<;>exact Hm ej (.r (.r (.r (.r (.r (.r (.r (.r (.r (.r (.l (.op 76 0)))))))))))) (B j++[(52,[.ha 0 [],.flat (.string (S [])),.flat (.string (S [])),.ha 0 []]),(52,[.ha F.length (bb F),.flat (.string (S ty)),.flat (.string (S [])),.ha 0 []])]) (.cell (n+1) 3::.cell n 0::.cell n 3::cl r) (d j _)
     ·rcases y with⟨_,h,_⟩|⟨y,o⟩
      ·exact absurd h w
      ·have z:=eq_false w
       clear D L H hr I;exact Hm ej (.r (.r (.r (.r (.r (.r (.r (.r (.r (.r (.l (.op 76 0)))))))))))) (B j++[(52,[.ha 0 [],.flat (.string (S [])),.flat (.string (S [])),.ha 0 []]),(52,[.ha F.length (bb F),.flat (.string (S ty)),.flat (.string (S [])),.ha 0 []])]) (.cell (n+1) 3::.cell n 0::.cell n 3::cl r) (d j _)
    simp only[if_pos D];obtain⟨rfl,P⟩:=D;have hmk70:mk.length<=70:=by
     unfold ll at P;simp only[Vc,decide_eq_true_eq]at P;exact P.2.2
    rw[P]at f6Z;have J:∀m,n+3<=m->∀q∈((n+2,0)::(n+1,3)::(n,0)::(n,3)::r),q.1<m:=by
     intro m z q w;simp only[Wb]at w;rcases w with rfl|rfl|rfl|rfl|w
     ·exact z
     ·dsimp only;omega
     ·dsimp only;omega
     ·dsimp only;omega
     ·have:=H.ea q w;omega
    have A:=XJ (lib:=lib) (s.drop at_) mk (B j++[(52,Xa),(52,yh F.length (bb F) ty []),(29,[.ha 0 []])]) ((n+2,0)::(n+1,3)::(n,0)::(n,3)::r) (by rw[H.rh];exact J _ (la _));simp only[cj,H.rh,za,ya,sc,Nat.reduceAdd,Dp,sf,ub,Gb]at A;have T:=XJ (lib:=lib) (s.drop at_) mk [] [] da;simp only[kq,ya,Gb,sc]at T;have O:=fun out(a:ba)(haZ:out.length<=(s.drop at_).length)=>B8 (lib:=lib) H j F.length (bb F) ty (s.drop at_) mk a out aa
    have s0Z:ua []=[]:=rfl;have Z:Tc []=[]:=rfl;have hsl:=@bc;have hsw:=@yf;have hsp:=@Od;have hlwp:=@dd;have hnpl:=@jf;cases X:Ei (s.drop at_) mk with
    |none=>
     obtain⟨out,w⟩:=NV (lib:=lib) L.ind L.Ku L.pre (s.drop at_) mk aa aa X (fun out=>B j++No n F.length (bb F) ty (s.drop at_) mk [] out) _ (n+5) (n+4) (n+3) (n+6) (fun a=>by rw[H.aj];rfl) (fun a=>by rw[H.aj];rfl) (fun a=>by rw[H.rh];rfl) (J (n+6) aa) (fun a x haZ=>by simp only[cj];exact O a x haZ);have d:=d j (No n F.length (bb F) ty (s.drop at_) mk [] out);clear O J L H hr I X;unfold No Xa yh at*;simp only[cj,Z,s0Z,ya]at w A d;rcases y with⟨rfl,_,o⟩|⟨y,o⟩<;>exact Hm ej (.r (.r (.r (.r (.r (.r (.r (.r (.r (.r (.r (.r (.l (.r .rg)))))))))))))) _ [] d
    |some all=>
     have R:=MV (lib:=lib) L.ind L.Ku L.pre (s.drop at_) mk all aa aa X (fun out=>B j++No n F.length (bb F) ty (s.drop at_) mk [] out) _ (n+5) (n+4) (n+3) (n+6) (fun a=>by rw[H.aj];rfl) (fun a=>by rw[H.aj];rfl) (fun a=>by rw[H.rh];rfl) (J (n+6) aa) (fun a x haZ=>by simp only[cj];exact O a x haZ);have hcnt:=JV X;have C:=jC X hbl;have w:=fun ps i=>d i (Gd F.length (bb F) ty (s.drop at_) mk ps all)
     have hset:∀ys,(B j++ys).set b (RT,[PV.flat (.int .i64 ((j:Int)+(all.length:Int)))])=B (j+all.length)++ys:=fun ys=>by have:=H.Pl (j+all.length) j ys;simp only[lf,Wi]at this;exact this
     clear O J X d;unfold No Xa yh at R;unfold Xa yh at A;simp only[cj,Z,s0Z,ya]at R A;dsimp only;cases rec with
     |none=>
      have d:=w [] j;unfold Gd Xa yh at d;simp only[Z,ya]at d;obtain rfl:v=4:=by have:=I rfl;omega
      clear L H hr I w C hset;rcases y with⟨rfl,_,o⟩|⟨y,o⟩<;>exact Hm ej (.r (.r (.r (.r (.r (.r (.r (.r (.r (.r (.r (.r (.r (.l (.op 76 0))))))))))))))) _ (.cell (n+2) 0::.cell (n+1) 3::.cell n 0::.cell n 3::cl r) d
     |some fgZ=>
      obtain⟨f,g⟩:=fgZ;obtain⟨r1,r2Z,r3Z,r4Z⟩:=hr f g rfl;dsimp only[Option.map];by_cases h7Z:j+all.length<=64
      ·simp only[if_pos h7Z]
       have Q:sg n r 0=.cell (n+2) 0::.cell (n+1) 3::.cell n 0::.cell n 3::cl r:=rfl;have hal:all.length<=64:=aa
       cases h8Z:Mf f all (j+all.length)with
       |error e=>
        obtain⟨i,ps,z⟩:=z6 r4Z H r1 r2Z r3Z F.length (bb F) hlo ty (s.drop at_) mk C hal h7Z h8Z;rw[Q]at z;dsimp only;generalize Lq f g all (j+all.length)=M at*;have d:=w ps M;generalize j+all.length=j1Z at*;clear L H hr I w C r2Z r3Z r4Z h8Z;unfold Gd Xa yh at z d;simp only[Z,ya]at z;rcases y with⟨rfl,_,o⟩|⟨y,o⟩<;>exact Hm ej (.r (.r (.r (.r (.r (.r (.r (.r (.r (.r (.r (.r (.r (.r (.r (.r (.l (.r (.lp i tt))))))))))))))))))) _ [] d
       |ok q=>
        obtain⟨ps,m⟩:=q;have z:=A8 r4Z H r1 r2Z F.length (bb F) hlo ty (s.drop at_) mk C hal h7Z h8Z;rw[Q]at z;have hlp:=VP _ _ _ _ h8Z;have hEZ:sg n r all.length=.cell (n+2) 0::.cell (n+1) 3::.cell n 0::.cell n 3::cl r\/sg n r all.length=.cell (n+1) 3::.cell (n+2) 0::.cell n 0::.cell n 3::cl r:=by
         unfold sg;split
         ·exact .inl rfl
         ·exact .inr rfl
        generalize j+all.length=j1Z at*;clear L H hr I w C r2Z r3Z r4Z h8Z;unfold Gd Xa yh at z;simp only[Z,ya]at z;simp only[LP.cells];rcases hEZ with hEZ|hEZ<;>rw[hEZ]at z<;>rcases y with⟨rfl,_,o⟩|⟨y,o⟩<;>exact ng ej
      ·simp only[if_neg h7Z]
       have d:=w [] (j+all.length);unfold Gd Xa yh at d;simp only[Z,ya]at d;generalize j+all.length=j1Z at*;clear L H hr I w C r2Z r3Z r4Z;rcases y with⟨rfl,_,o⟩|⟨y,o⟩<;>exact Hm ej (.r (.r (.r (.r (.r (.r (.r (.r (.r (.r (.r (.r (.r (.r (.r (.l (.op 76 0))))))))))))))))) _ (.cell (n+2) 0::.cell (n+1) 3::.cell n 0::.cell n 3::cl r) d
def gz:Nat->ba->Nat->Nat
 |0=>fz none
 |d+1=>fz (some (Lg d,gz d))
def FP{f:ba->Nat->Except Nat (LP×Nat)}{g:ba->Nat->Nat}{a:Nat}(h:∀{B:Nat->Ha}{n b:Nat}{r:List (Nat×Nat)},Db B n b RT lf r->∀(s:ba)(j:Nat),s.length<=10000->j<=64->du lib f g a B b r s j):Rec lib f a/\nu lib f g a:=
 ⟨fun B n b r H s j p m hs c e=>by have:=h H s j hs c;unfold du at this;rw[e]at this;exact this,fun B n b r H s j e hs c e1=>by have:=h H s j hs c;unfold du at this;rw[e1]at this;exact this⟩
theorem IF(L:xr lib):∀(d a:Nat),d+a=4->Rec lib (Lg d) a/\nu lib (Lg d) (gz d) a
 |0,a,h=>FP fun H s j hs b=>KP L (rec:=none) aa (fun _=>by omega) (fun f g e=>by cases e) H s j hs b
 |d+1,a,h=>FP fun H s j hs b=>KP L (rec:=some (Lg d,gz d)) aa (fun e=>by cases e) (fun f g e=>by
    cases e;have:=IF L d (a+1) aa;exact⟨aa,this.1,this.2,JF d⟩) H s j hs b
def P_(v:Value)(w:World):(Instr.typeAssert (.iface 89 v) 20 89 true).run Tryz.prog w=.ok (.tuple #[v,.bool true]) w:=by
 simp only[Instr.typeAssert,Qb,run_underlying Tryz.underlying89,Tb];rfl
theorem zex{e a:Int}(h:od e=od a):e=a:=by
 grind [od]
open Classical in
noncomputable def Uu:Value->List PV->Ha->Option Ha:=fun v Oa bx=>
 if h:∃q:Int×Nat,v=od q.1/\Oa=[.ptr 0 0,.ptr 1 0]/\bx=Ih q.2 then some [(52,Xa),(24,[.flat (.int .i64 (choose h).1)]),(RT,lf (choose h).2)]else none
def y1(e:Int)(m:Nat):Uu (od e) [.ptr 0 0,.ptr 1 0] (Ih m)=some [(52,Xa),(24,[.flat (.int .i64 e)]),(RT,lf m)]:=by
 have h:∃q:Int×Nat,od e=od q.1/\([.ptr 0 0,.ptr 1 0]:List PV)=[.ptr 0 0,.ptr 1 0]/\Ih m=Ih q.2:=⟨(e,m),rfl,rfl,rfl⟩;unfold Uu;rw[dif_pos h]
 grind [zex,Ih]
def cG{P:Program}{o:Oper}{f:(Operand->Value)->Sem Value}(h:∀ρ,execOp ρ o=(do pure (Next.value (<-f ρ)))):Qw Fence.wide P o:=by
 intro ρ w d w' a;rw[show Fence.wide.round=none from rfl,Oper.semAt_none,h]at a;simp only[Qb]at a;cases c:(f ρ).run P w with
 |ok v b=>simp_all
 |halt v b=>simp_all
def KQ{P:Program}{o:Oper}{f:(Operand->Value)->Sem Unit}(h:∀ρ,execOp ρ o=(do f ρ;pure Next.skip)):Qw Fence.wide P o:=by
 intro ρ w d w' a;rw[show Fence.wide.round=none from rfl,Oper.semAt_none,h]at a;simp only[Qb]at a;cases c:(f ρ).run P w with
 |ok v b=>simp_all
 |halt v b=>simp_all
def Γ0:Ze:=⟨fun _=>False,fun _=>True,fun _ _ _ h=>h.elim,fun _ _ _ _=>trivial⟩
def iH:List Qa×BT:=([⟨some 16,none,.build [.flat (.slice none 0 0),.flat (.string ⟨#[]⟩),.flat (.string ⟨#[]⟩),.flat (.slice none 0 0)] []⟩,⟨some 17,none,.im 0 (.t 3)⟩],.two ⟨some 18,none,.load false 1 (.t 17)⟩ (.one ⟨none,none,.store 4 (.t 0) (.t 16)⟩ (.one ⟨none,none,.store 1 (.t 1) (.t 18)⟩ .done)) (.one ⟨none,none,.store 4 (.t 0) (.t 16)⟩ (.one ⟨some 18,none,.load false 1 (.t 17)⟩ (.one ⟨none,none,.store 1 (.t 1) (.t 18)⟩ .done))))
def tW:zI Tryz.prog 36 Uu:=by
 intro v Oa st bx' c T base M w0 F0 nt a w Fr β X R b;unfold Uu at c;split at c
 case isFalse=>cases c
 rename_i J;obtain⟨H,hcZ,n⟩:=Classical.choose_spec J;obtain⟨⟨e,m⟩,B⟩:∃q,Classical.choose J=q:=⟨_,rfl⟩;rw[B]at H n c;dsimp only at H n c;obtain rfl:=ko c;subst H hcZ;have j:=b;simp only[sa,Rd]at b;obtain⟨_,_,rfl,⟨Y,b0Z,rfl⟩,_,_,rfl,⟨g1,b1Z,rfl⟩,rfl⟩:=b;have W:Rel Tryz.prog T base M w0 F0 nt ⟨st.sl,[],[],st.bx⟩ a w Fr β:=R.dm (fun i=>.inr rfl) rfl (fun L y=>by cases y) rfl;have O:=Xv (P:=Tryz.prog) (Γ:=Γ0) (nt:=19) (args:=[.ptr 0 0,.ptr 1 0]) (bx:=st.bx) (oc:=[]) ⟨trivial,j,W.boxes,(fun L y=>by cases y),fun g C=>C.elim⟩ ga;obtain⟨u,k⟩:∃u,w.alloc (.cells #[.int .i64 e] 89)=u:=⟨_,rfl⟩;have A:Below w.heap.size w u:=by rw[<-k];exact(Below.refl _ _).alloc (la _) _
 have z:u.heap[w.heap.size]?=some (.cells #[.int .i64 e] 89 (0,0)):=by rw[<-k];show(w.heap.push _)[w.heap.size]?=_;simp
 obtain⟨U,E⟩:=O.Sw (Fr':=Zd Fr w.heap.size 0) (l:=w.heap.size) (cs:=(89,[.flat (.int .i64 e)])) A (fun g h=>Bp (Qf h (la _))) (la _) (by simp[Zd]) fun _=>.inl ⟨[.int .i64 e],_,z,by simp[sa,Rd,Ab],by simp[Oc,Value.oneCell'],rfl⟩
 refine callsDIn_of_wpSIn Tryz.func36 rfl trivial fun I cs huZ=>?_
 simp only[Tryz.ntmps36,Ut,za,ya,Nat.reduceAdd,Nat.reduceSub,Vt,Wt,Xt,Yt,Gb,ub];apply wpSIn_seq;apply wpSIn_region;simp[wpOpsSIn,go_sem,recoverD,huZ,Exit.thenS,entry,od];apply wpSIn_seq;apply wpSIn_seq;apply wpSIn_region;simp[wpOpsSIn,go_sem,Exit.thenS];refine wpSIn_cond (t:=false) ja ?_;simp only[Fa,if_false];refine wpSIn_of_wpIn rfl (wpIn_skip ?_);simp only[Exit.thenS];apply wpSIn_seq;apply wpSIn_region;have G:(Go.sizeOf 89).run Tryz.prog (w.alloc (.cells #[.int .i64 0] 89))=.ok 1 (w.alloc (.cells #[.int .i64 0] 89)):=run_sizeOf ca;simp[wpOpsSIn,go_sem,Exit.thenS,P_,storeVar,G,Value.cells];rw[k];apply wpSIn_seq;apply wpSIn_seq;apply wpSIn_region;simp[wpOpsSIn,go_sem,Exit.thenS];refine wpSIn_cond (t:=false) ja ?_;simp only[Fa,if_false];refine wpSIn_of_wpIn rfl (wpIn_skip ?_);simp only[Exit.thenS];refine wpSIn_of_wpIn rfl (wpIn_region_any Tryz.checked.mixed ?_);have p:st.bx.length=3:=by rw[n];rfl
 have V:=U.C_ (st':=⟨[(0,.ptr 0 0),(1,.ptr 1 0),(3,.ptr 3 0)],[],[],st.bx++[(89,[.flat (.int .i64 e)])]⟩) (nt':=19) (a':={tmps:=#[.pointer (some ⟨Y,0,none⟩),.pointer (some ⟨g1,0,none⟩),.iface 89 (.agg #[.int .i64 e]),.pointer (some ⟨w.heap.size,0,none⟩),.bool true,.iface 89 (.agg #[.int .i64 e]),.iface 89 (.agg #[.int .i64 e]),.bool false,.tuple #[.agg #[.int .i64 e],.bool true],.iface 89 (.agg #[.int .i64 e]),.tuple #[.agg #[.int .i64 e],.bool true],.agg #[.int .i64 e],.bool true,.bool true,.bool false,undef,undef,undef,undef],defers:=[]}) rfl (fun i=>by
  have d:β.length=3:=by rw[<-R.bx.1];exact p
  simp only[dQ,look_nil];by_cases K:0=i
  ·subst K;simp only[if_true,Rd];simp_all
  rw[if_neg K];by_cases N:1=i
  ·subst N;simp only[if_true,Rd];simp_all
  rw[if_neg N];by_cases i3Z:3=i
  ·subst i3Z;simp only[if_true,Rd];simp_all
  grind [Rd]) rfl rfl rfl rfl rfl
 have Z:Good Γ0 ⟨w.heap.size,td w β [],w,Fr,19,w,Fr,β,[]⟩:=⟨trivial,fun g C=>C.elim⟩;refine Yw (D:=[]) (Q:=fun x a' w'=>x=.normal/\∃s,s.bx=[(52,Xa),(24,[.flat (.int .i64 e)]),(RT,lf m),(89,[.flat (.int .i64 e)])]/\Rl Tryz.prog ⟨w.heap.size,td w β [],w,Fr,19,w,Fr,β,[]⟩ s a' w') ?_ ?_ _ _ _ _ rfl ?_
 ·intro i o d
  match i,d with
  |0,d=>cases d;exact cG fun ρ=>rfl
  |1,d=>cases d;exact cG fun ρ=>rfl
  |2,d=>cases d;exact cG fun ρ=>rfl
  |3,d=>cases d;exact KQ fun ρ=>rfl
  |4,d=>cases d;exact KQ fun ρ=>rfl
  |i+5,d=>simp at d
 ·intro x a' w' hxZ N
  obtain⟨rfl,s,d,K⟩:=hxZ;refine⟨N rfl,_,rfl,.tuple #[],?_,⟨_,rfl⟩,rfl,?_⟩
  ·simp[results,Tryz.results36]
  ·exact sW R K (by rw[p,d];rfl) ia
 ·exact t_ (P:=Tryz.prog) (r:=none) (qs:=[]) (cf:=fun _ _ _ _=>none) (Γ:=Γ0) (S:=⟨w.heap.size,td w β [],w,Fr,19,w,Fr,β,[]⟩) (fun f args bx oc N os bx' oc' h=>by cases h) Z (q:=iH) (live:=[])
   (stk:=⟨[(17,.ptr 3 0),(16,.agg [.flat (.slice none 0 0),.flat (.string ⟨#[]⟩),.flat (.string ⟨#[]⟩),.flat (.slice none 0 0)]),(0,.ptr 0 0),(1,.ptr 1 0),(3,.ptr 3 0)],[],[],st.bx++[(89,[.flat (.int .i64 e)])]⟩)
   (F:=⟨[],[.cell 0 0,.cell 0 3],[],[(52,Xa),(24,[.flat (.int .i64 e)]),(RT,lf m),(89,[.flat (.int .i64 e)])]⟩)
   ca (by rw[n];unfold iH Ih Xa lf;simp only[go_sem,simprocAttr]) (by rw[n];unfold iH Ih Xa lf;simp only[go_sem,simprocAttr];rfl) rfl ⟨_,_,V,E⟩ (fun s a' w' d K=>⟨rfl,s,by have:=congrArg St.bx d;exact this,K⟩)
theorem kC(s m)(out)(fr n):∀(j i),(∀t,i<=t->t<i+j->t<s.length/\Wa s (Ke m) t=false/\Wa s (Wf m) t=false)->
 hc (Hh s m) none (n+j) (out,fr,i)=hc (Hh s m) none n (out,fr,i+j)
 |0,i,_=>rfl
 |j+1,i,h=>by
  obtain⟨c,d,e⟩:=h i (la _) aa;have hs:Hh s m (out,fr,i)=.inl (out,fr,i+1):=by unfold Hh;dsimp only;rw[if_pos c,d,e];rfl
  rw[show n+(j+1)=n+j+1 from rfl,xf hs,kC s m out fr n j (i+1) fun t a b=>h t aa aa]
  grind
def iR(r:Option (List ba×Bool)):Option (List ba):=match r with
 |some (out,true)=>some out
 |_=>none
theorem UR(l t b:ba):(l++t).isPrefixOf b=(l.isPrefixOf b&&t.isPrefixOf (b.drop l.length)):=by
 rw[Gp,Vc,Ij,Ij,Ij];constructor
 ·rintro⟨z,rfl⟩
  simp
 ·rintro⟨⟨y,rfl⟩,z,a⟩
  grind
theorem ZB{s m}{p}(a:p<=s.length):Wa s (Ke m) p=((jc m).isPrefixOf (s.drop p)&&([13,10]:ba).isPrefixOf (s.drop (p+(jc m).length))):=by
 grind [Wa,Ke,jc,UR,List.drop_drop]
theorem aC{s m}{p}(a:p<=s.length):Wa s (Wf m) p=((jc m).isPrefixOf (s.drop p)&&([45,45,13,10]:ba).isPrefixOf (s.drop (p+(jc m).length))):=by
 grind [Wa,Wf,jc,UR,List.drop_drop]
theorem IV(o)(s rest m:ba)(hr:s.drop o=rest)(U:o<=s.length):∀(k j f)(out)(n g),rest.length - j<=k->j<=rest.length->f<=j->rest.length<n+j->s.length<g+(j+o)->
 hc (De rest (jc m)) none n (out,f,j)=iR (hc (Hh s m) none g (out,f+o,j+o)):=by
 have T:rest.length+o=s.length:=by rw[<-hr,Ya];omega
 have Q:(jc m).length=m.length+4:=by simp[jc]
 have lb:(Ke m).length=m.length+6:=by simp[Ke]
 have le:(Wf m).length=m.length+8:=by simp[Wf]
 have q:∀i,rest.drop i=s.drop (i+o):=fun i=>by grind [List.drop_drop]
 have hcut:∀a b:Nat,(rest.take a).drop b=(s.take (a+o)).drop (b+o):=fun a b=>by
  grind [List.take_drop,List.drop_drop]
 intro k
 induction k with
 |zero=>
  intro j f out n g P O N R F;obtain rfl:j=rest.length:=aa
  obtain⟨n,rfl⟩:∃x,n=x+1:=⟨n - 1,aa⟩;obtain⟨g,rfl⟩:∃x,g=x+1:=⟨g - 1,aa⟩;have C:Lib.index (rest.drop rest.length) (jc m)=-1:=by rw[Kp];rfl
  rw[Dd (r:=none) (by grind [De])];rw[Dd (r:=none) (by grind [Hh])];rfl
 |succ k K=>
  intro j f out n g P O N R F;obtain⟨n,rfl⟩:∃x,n=x+1:=⟨n - 1,aa⟩;rcases Lib.index_spec (rest.drop j) (jc m)with⟨C,I⟩|⟨i,C,I,D,L⟩
  ·rw[Dd (r:=none) (by grind [De])]
   have w:∀t,j+o<=t->t<j+o+(rest.length - j)->t<s.length/\Wa s (Ke m) t=false/\Wa s (Wf m) t=false:=by
    intro t S t2;have t3:=I (t - o - j) ia;unfold Lib.occAt at t3;rw[q,rf,show j+o+(t - o - j)=t by omega]at t3;refine⟨aa,?_,?_⟩
    ·grind [ZB]
    ·grind [aC]
   obtain⟨x,rfl⟩:∃x,g=x+1+(rest.length - j):=⟨g - 1 - (rest.length - j),aa⟩;rw[kC s m out _ _ _ _ w];rw[Dd (r:=none) (by grind [Hh])];rfl
  ·have y:=Lib.index_room (rest.drop j) (jc m) aa
   rw[C,Ya]at y;have ra:¬((i:Int)=-1):=aa
   have w:∀t,j+o<=t->t<j+o+i->t<s.length/\Wa s (Ke m) t=false/\Wa s (Wf m) t=false:=by
    intro t S t2;have t3:=L (t - o - j) aa;unfold Lib.occAt at t3;rw[q,rf,show j+o+(t - o - j)=t by omega]at t3;refine⟨aa,?_,?_⟩
    ·grind [ZB]
    ·grind [aC]
   obtain⟨g,rfl⟩:∃x,g=x+1+i:=⟨g - 1 - i,aa⟩;rw[kC s m out _ _ _ _ w];unfold Lib.occAt at D;rw[q,rf]at D;have G:=ZB (s:=s) (m:=m) (p:=j+o+i) aa;have H:=aC (s:=s) (m:=m) (p:=j+o+i) aa;rw[D,pc]at G H;have E:rest.drop (j+i+(jc m).length)=s.drop (j+o+i+(jc m).length):=by rw[q];congr 1;omega
   have M:(rest.take (j+i)).drop f=(s.take (j+o+i)).drop (f+o):=by rw[hcut];congr 2;omega
   have c:De rest (jc m) (out,f,j)=(if([45,45,13,10]:ba).isPrefixOf (s.drop (j+o+i+(jc m).length))then(if s.drop (j+o+i+(jc m).length)=[45,45,13,10]then .inr (some (out++[(s.take (j+o+i)).drop (f+o)]))else .inr none)
    else if([13,10]:ba).isPrefixOf (s.drop (j+o+i+(jc m).length))then .inl (out++[(s.take (j+o+i)).drop (f+o)],j+i+(jc m).length+2,j+i+(jc m).length+2)else .inl (out,f,j+i+1)):=by
    unfold De;dsimp only;rw[C,if_neg ra,cc,E,M]
   have d:Hh s m (out,f+o,j+o+i)=(if Wa s (Ke m) (j+o+i)then .inl (out++[(s.take (j+o+i)).drop (f+o)],j+o+i+(Ke m).length,j+o+i+(Ke m).length)
    else if Wa s (Wf m) (j+o+i)then .inr (some (out++[(s.take (j+o+i)).drop (f+o)],decide (j+o+i+(Wf m).length=s.length)))else .inl (out,f+o,j+o+i+1)):=by
    unfold Hh;dsimp only;rw[if_pos aa]
   rw[G,H]at d;obtain⟨B,J⟩:∃B,s.drop (j+o+i+(jc m).length)=B:=⟨_,rfl⟩;have v:B.length=s.length - (j+o+i+(jc m).length):=by rw[<-J,Ya]
   rw[J]at c d;cases u:([45,45,13,10]:ba).isPrefixOf B with
   |true=>
    have A:([13,10]:ba).isPrefixOf B=false:=by
     rw[Ij]at u;obtain⟨z,rfl⟩:=u;rfl
    rw[u,if_pos rfl]at c;rw[u,A,if_neg da,if_pos rfl]at d;rw[Dd d];have h:=(Ij.1 u).length_le;simp only[za,ya]at h;by_cases l:B=[45,45,13,10]
    ·rw[if_pos l]at c
     rw[Dd c,decide_eq_true (by rw[l]at v;simp only[za,ya]at v;omega)];rfl
    ·rw[if_neg l]at c
     have:¬(j+o+i+(Wf m).length=s.length):=by
      intro e;apply l;rw[Ij]at u;obtain⟨z,rfl⟩:=u;simp only[Ja,za,ya]at v;have:z=[]:=qz aa;rw[this];rfl
     rw[Dd c,decide_eq_false this];rfl
   |false=>
    rw[u,if_neg da]at c;cases A:([13,10]:ba).isPrefixOf B with
    |true=>
     have h:=(Ij.1 A).length_le;simp only[za,ya]at h;rw[A,if_pos rfl]at c;rw[A,if_pos rfl]at d;rw[xf c,xf d];have e1:j+o+i+(Ke m).length=j+i+(jc m).length+2+o:=aa
     rw[e1];exact K _ _ _ _ _ aa aa (la _) aa aa
    |false=>
     rw[A,if_neg da]at c;rw[A,u,if_neg da,if_neg da]at d;rw[xf c,xf d,show j+o+i+1=j+i+1+o by omega];exact K _ _ _ _ _ aa aa aa aa aa
def HV(s m):Ei s m=iR (fq s m):=by
 unfold Ei fq;have a:(jc m++[13,10]).isPrefixOf ([13,10]++s)=Wa s (Ve m) 0:=by
  unfold Wa;rw[decide_eq_true (Za _),pc,Af];rfl
 rw[a];cases h:Wa s (Ve m) 0 with
 |false=>rfl
 |true=>
  simp only[if_true];have b:(Ve m).length<=s.length:=by
   unfold Wa at h;rw[Vc,Af]at h;exact(Ij.1 h.2).length_le
  have e:([13,10]++s).drop (jc m++[13,10]).length=s.drop (Ve m).length:=by
   have:(jc m++[13,10]).length=(Ve m).length+1+1:=by simp[jc,Ve]
   rw[this];rfl
  rw[e];have:=IV (Ve m).length s (s.drop (Ve m).length) m rfl b (s.drop (Ve m).length).length 0 0 [] (s.length+1) (s.length+1) (Nat.sub_le _ _) (Za _) (la _) ia aa
  grind
def Vh(old new:ba):Nat->ba->ba
 |_,[]=>[]
 |0,s=>s
 |n+1,c::t=>if old.isPrefixOf (c::t)then new++Vh old new n ((c::t).drop old.length)else c::Vh old new n t
def HO{c}{t old:ba}(h:old.isPrefixOf (c::t)=false):Lib.index (c::t) old=if Lib.index t old=-1 then-1 else Lib.index t old+1:=by
 grind [Lib.index.eq_2]
theorem count_cons{c}{t old:ba}(g:old≠[])(h:old.isPrefixOf (c::t)=false):Lib.count (c::t) old=Lib.count t old:=by
 have d:=HO h;by_cases e:Lib.index t old=-1
 ·grind [Lib.count_miss]
 ·rw[if_neg e]at d
  have j:=Lib.index_ge t old;obtain⟨i,a⟩:∃i:Nat,Lib.index t old=i:=⟨(Lib.index t old).toNat,aa⟩;have b:Lib.index (c::t) old=((i+1:Nat):Int):=by rw[d,a];omega
  rw[Lib.count_hit g b,Lib.count_hit g a,show i+1+old.length=(i+old.length)+1 by omega,ir]
theorem z_{c}{t old new:ba}(h:old.isPrefixOf (c::t)=false)(k):Lib.replaceK old new k (c::t)=c::Lib.replaceK old new k t:=by
 cases k with
 |zero=>rfl
 |succ k=>
  have b:=HO h;have d:=Lib.index_ge t old;by_cases e:Lib.index t old=-1
  ·grind [Lib.replaceK.eq_2]
  ·rw[if_neg e]at b
   obtain⟨i,a⟩:∃i:Nat,Lib.index t old=i:=⟨(Lib.index t old).toNat,aa⟩;rw[Lib.replaceK_hit old new k _ (i+1) aa,Lib.replaceK_hit old new k _ i a]
   grind
def kH{old new:ba}(e:old≠[])(i:old≠new):∀(n)(s:ba),s.length<=n->Lib.replaceAll s old new=Vh old new n s:=by
 have p:(old==new)=false:=by simpa using i
 have b:∀s,Lib.replaceAll s old new=Lib.replaceK old new (Lib.count s old) s:=fun s=>by
  grind [Lib.replaceAll,Lib.replace,Lib.replaceNum]
 have g:=DA.2 e;intro n
 induction n with
 |zero=>
  intro s h;obtain rfl:s=[]:=qz aa;rw[b,Vh];cases Lib.count [] old with
  |zero=>rfl
  |succ k=>
   cases old with
   |nil=>omega
   |cons a l=>rfl
 |succ n o=>
  intro s h;cases s with
  |nil=>
   grind [Vh.eq_1]
  |cons c t=>
   rw[Vh];cases j:old.isPrefixOf (c::t)with
   |true=>
    have d:Lib.index (c::t) old=((0:Nat):Int):=by rw[Lib.index,j];rfl
    rw[if_pos rfl,<-o _ ia,b,b,Lib.count_hit e d,sc,Nat.add_comm 1,Lib.replaceK_hit _ _ _ _ 0 d,sc,List.take_zero,Gb]
   |false=>
    grind [count_cons,z_]
def Dm:ba->Option ba
 |[]=>some []
 |[c]=>if 1<=c.toNat/\c.toNat<=127/\c≠13/\c≠10 then some [c]else none
 |c::d::t=>if c=13/\d=10 then(Dm t).map (10::·)else if 1<=c.toNat/\c.toNat<=127/\c≠13/\c≠10 then(Dm (d::t)).map (c::·)else none
def Gg:ba->ba
 |[]=>[]
 |[c]=>[c]
 |c::d::t=>if c=13/\d=10 then 0::Gg t else c::Gg (d::t)
theorem LC:∀(n)(s),s.length<=n->Vh [13,10] [0] n s=Gg s
 |0,s,h=>by
  obtain rfl:s=[]:=qz aa;rfl
 |n+1,[],_=>rfl
 |n+1,[c],_=>by
  rw[Vh];have:([13,10]:ba).isPrefixOf [c]=false:=by simp[List.isPrefixOf]
  rw[this,if_neg da];cases n<;>rfl
 |n+1,c::d::t,h=>by
  rw[Vh,Gg];simp only[za]at h;by_cases a:c=13/\d=10
  ·obtain⟨rfl,rfl⟩:=a
   rw[if_pos ja,if_pos ⟨rfl,rfl⟩];show 0::Vh [13,10] [0] n t=_;rw[LC n t aa]
  ·have:([13,10]:ba).isPrefixOf (c::d::t)=false:=by
    simp only[List.isPrefixOf,Ej,PA,beq_eq_false_iff_ne,ne_eq];rcases Ka (13=c)with e|e
    ·grind
    ·grind
   rw[this,if_neg da,if_neg a,LC n (d::t) ia]
def uv:ba->ba:=List.map fun c=>if c=0 then 10 else c
theorem LF:∀(n)(s),s.length<=n->Vh [0] [10] n s=uv s
 |0,s,h=>by
  obtain rfl:s=[]:=qz aa;rfl
 |n+1,[],_=>rfl
 |n+1,c::t,h=>by
  rw[Vh];simp only[za]at h;by_cases a:c=0
  ·subst a
   rw[if_pos ja];show 10::Vh [0] [10] n t=_;rw[LF n t aa];rfl
  ·have:([0]:ba).isPrefixOf (c::t)=false:=by
    simp only[List.isPrefixOf,Ej,beq_eq_false_iff_ne,ne_eq];exact fun e=>a e.symm
   rw[this,if_neg da,LF n t aa];simp[uv,a]
theorem mJ{c}:∀s,Zb c s=none ↔ c∉s
 |[]=>by simp[Zb]
 |x::l=>by
  rw[Zb];by_cases h:x=c
  ·grind
  ·rw[if_neg h,Option.map_eq_none_iff,mJ l];grind
def zaf:∀(n)(s),s.length<=n->(if s.all gh=true then(if 13∉Gg s/\10∉Gg s then some (uv (Gg s))else none)else none)=Dm s:=by
 intro n
 induction n with
 |zero=>
  intro s h;obtain rfl:s=[]:=qz aa;rfl
 |succ n j=>
  intro s h
  match s,h with
  |[],_=>rfl
  |[c],_=>
   unfold Dm;simp only[Gg,Mm,List.all_nil,Ej,gh,Vc,decide_eq_true_eq,List.mem_singleton,uv,kc,Bf];by_cases a:0<c.toNat/\c.toNat<128
   ·have i:c≠0:=by rintro rfl;simp at a
    grind
   grind
  |c::d::t,h=>
   simp only[za]at h;unfold Dm Gg;by_cases g:c=13/\d=10
   ·obtain⟨rfl,rfl⟩:=g
    simp only[and_self,if_true];rw[<-j t aa];have e1:((13::10::t:ba).all gh=true)=(t.all gh=true):=by simp[gh]
    have e2:(13∉(0::Gg t:ba)/\10∉(0::Gg t:ba))=(13∉Gg t/\10∉Gg t):=da
    simp only[e1,e2];split
    ·split
     ·rfl
     ·rfl
    ·rfl
   ·rw[if_neg g]
    rw[if_neg g,<-j (d::t) ia];by_cases a:1<=c.toNat/\c.toNat<=127
    ·have i:c≠0:=by rintro rfl;simp at a
     have k:gh c=true:=by simp only[gh,Vc,decide_eq_true_eq];omega
     rw[Mm,k,pc];by_cases b:c≠13/\c≠10
     ·rw[if_pos (c:=1<=c.toNat/\_) ⟨a.1,a.2,b.1,b.2⟩]
      have e2:(13∉(c::Gg (d::t):ba)/\10∉(c::Gg (d::t):ba))=(13∉Gg (d::t)/\10∉Gg (d::t)):=by
       simp[show¬(13=c)from fun e=>b.1 e.symm,show¬(10=c)from fun e=>b.2 e.symm]
      simp only[e2];split
      ·split
       ·simp[uv,i]
       ·rfl
      ·rfl
     grind
    grind [gh]
def zai(s):Ak s=Dm s:=by
 rw[<-zaf _ s (la _)];unfold Ak;have e1:=kH (old:=[13,10]) (new:=[0]) da da s.length s (la _);rw[LC _ _ (la _)]at e1;have e2:=kH (old:=[0]) (new:=[10]) da da (Gg s).length (Gg s) (la _)
 grind [LF,mJ]
def fo(t:ba):Bool:=match gb 47 t with
 |[a,b]=>decide (a≠[])&&decide (b≠[])
 |_=>false
def XN(c):Wk c=47 ↔ c=47:=by
 grind [Wk]
theorem WM:∀t:ba,gb 47 (xa t)=(gb 47 t).map xa
 |[]=>rfl
 |c::t=>by
  show gb 47 (Wk c::xa t)=_;rw[gb,gb,WM t];by_cases h:c=47
  ·rw[if_pos h,if_pos ((XN c).2 h)];rfl
  ·rw[if_neg h,if_neg fun e=>h ((XN c).1 e)]
   cases gb 47 t with
   |nil=>rfl
   |cons p ps=>rfl
def zdD(t:ba):fo (xa t)=fo t:=by
 unfold fo;rw[WM];have e:∀a:ba,(xa a≠[])=(a≠[]):=fun a=>by simp[xa]
 match gb 47 t with
 |[]=>rfl
 |[a]=>rfl
 |[a,b]=>
  simp_all
 |a::b::c::l=>rfl
theorem index_one(c):∀s:ba,Lib.index s [c]=match Zb c s with|some i=>(i:Int)|none=>-1
 |[]=>rfl
 |x::l=>by
  have a:=index_one c l;rw[Lib.index,Zb]
  grind
def vY(c)(s):∃p ps,gb c s=p::ps:=by
 cases s with
 |nil=>exact⟨_,_,rfl⟩
 |cons x l=>
  rw[gb];split
  ·simp
  ·split<;>exact⟨_,_,rfl⟩
def BY(m:ba):((Lib.cut m [47]).2.2=true/\(Lib.cut m [47]).1≠[]/\(Lib.cut m [47]).2.1≠[]/\Zb 47 (Lib.cut m [47]).2.1=none) ↔ fo m=true:=by
 unfold Lib.cut fo;rw[index_one];cases h:Zb 47 m with
 |none=>
  grind [Mx]
 |some i=>
  rw[Nx h];have:(0:Int)<=(i:Int):=aa
  simp only[this,if_true,cc,za,ya,sc,true_and];cases a:Zb 47 (m.drop (i+1))with
  |none=>
   grind [Mx]
  |some j=>
   rw[Nx a];obtain⟨p,ps,e⟩:=vY 47 ((m.drop (i+1)).drop (j+1))
   grind
variable {lib:Callee}
def vr(lib:Callee):Prop:=∀s:ba,s.length<=1000000->lib 103 [.flat (.string (S s))] [] []=some ([.flat (.string (S (xa s)))],false,[],[])
def GI(lib:Callee):Prop:=∀s:ba,s.length<=1000000->lib 174 [.flat (.string (S s))] [] []=some ((match Qe s with|some t=>[.flat (.string (S t)),.flat (.int .i64 0)]|none=>[.flat (.string (S [])),.flat (.int .i64 7)]),false,[],[])
def KI(lib:Callee):Prop:=∀s:ba,s.length<=100000->lib 175 [.flat (.string (S s))] [] []=some ((match jb (bare s)with|some t=>[.flat (.string (S t)),.flat (.int .i64 0)]|none=>[.flat (.string (S [])),.flat (.int .i64 7)]),false,[],[])
def HI(lib:Callee):Prop:=∀s:ba,s.length<=10000->lib 102 [.flat (.string (S s))] [] []=some ((match bg s with| .form=>[.flat (.string (S [])),.ha 0 [],.flat (.int .i64 7)]| .zh=>[.flat (.string (S [])),.ha 0 [],.flat (.int .i64 9)]| .ok m l=>[.flat (.string (S m)),.ha l.length (bb l),.flat (.int .i64 0)]),false,[],[])
def JI(lib:Callee):Prop:=∀s:ba,s.length<=10000->lib 100 [.flat (.string (S s))] [] []=some ((match Pd s with| .form=>[.ha 0 [],.flat (.int .i64 0),.flat (.int .i64 7)]| .long=>[.ha 0 [],.flat (.int .i64 0),.flat (.int .i64 6)]| .ok F at_=>[.ha F.length (bb F),.flat (.int .i64 (at_:Nat)),.flat (.int .i64 0)]),false,[],[])
structure yr (lib:Callee):Prop where
 fold:vr lib
 dq:GI lib
 um:KI lib
 tp:HI lib
 oA:JI lib
def Su(H:vr lib)(s)(h:s.length<=1000000):fa code lib 103 [.flat (.string (S s))] [] []=some ([.flat (.string (S (xa s)))],false,[],[]):=Ud ga ca (H s h)
def aZ(H:GI lib)(s)(h:s.length<=1000000):fa code lib 174 [.flat (.string (S s))] [] []=some ((match Qe s with|some t=>[.flat (.string (S t)),.flat (.int .i64 0)]|none=>[.flat (.string (S [])),.flat (.int .i64 7)]),false,[],[]):=Ud ga ca (H s h)
def zdG(H:KI lib)(s)(h:s.length<=100000):fa code lib 175 [.flat (.string (S s))] [] []=some ((match jb (bare s)with|some t=>[.flat (.string (S t)),.flat (.int .i64 0)]|none=>[.flat (.string (S [])),.flat (.int .i64 7)]),false,[],[]):=Ud ga ca (H s h)
def s8(H:HI lib)(s)(h:s.length<=10000):fa code lib 102 [.flat (.string (S s))] [] []=some ((match bg s with| .form=>[.flat (.string (S [])),.ha 0 [],.flat (.int .i64 7)]| .zh=>[.flat (.string (S [])),.ha 0 [],.flat (.int .i64 9)]| .ok m l=>[.flat (.string (S m)),.ha l.length (bb l),.flat (.int .i64 0)]),false,[],[]):=Ud ga ca (H s h)
def zbf(H:JI lib)(s)(h:s.length<=10000):fa code lib 100 [.flat (.string (S s))] [] []=some ((match Pd s with| .form=>[.ha 0 [],.flat (.int .i64 0),.flat (.int .i64 7)]| .long=>[.ha 0 [],.flat (.int .i64 0),.flat (.int .i64 6)]| .ok F at_=>[.ha F.length (bb F),.flat (.int .i64 (at_:Nat)),.flat (.int .i64 0)]),false,[],[]):=Ud ga ca (H s h)
def qO(t:vr lib)(F)(n)(hF:Ck F)(E:n.length<=1000000):fa code lib 101 [.ha F.length (bb F),.flat (.string (S n))] [] []=some ([.flat (.string (S (mc n F).1)),.flat (.int .i64 ((mc n F).2:Nat))],false,[],[]):=by
 have e:=Nf (body:=pa (fa code lib) ka HB) (live:=[0,1,6,7,8]) (nb:=0) (fun(q:ba×Nat) k=>⟨[(0,.ha F.length (bb F)),(1,.flat (.string (S n))),(6,.flat (.string (S q.1))),(7,.flat (.int .i64 (q.2:Nat))),(8,.flat (.int .i64 (k:Nat)))],[],[],[]⟩) F (fun q k=>q.2<=k)
  (fun q k x=>if xa x.1==xa n then .inl (if q.2=0 then x.2 else q.1,q.2+1)else .inl q) (fun q=>(.exit 0,⟨[(6,.flat (.string (S q.1))),(7,.flat (.int .i64 (q.2:Nat)))],[],[],[]⟩)) (fun q k c B d y z=>?_) (fun _ _=>by simp only[go_sem,simprocAttr,cd]) (fun q k x a' B _ _ h=>by split at h<;>cases h<;>first|omega|(dsimp only;omega)) (fun _ _ x r h=>by split at h<;>cases h) (fun q _=>?_) (fun _=>by simp) ([],0) (la _) (by have:=hF.1;unfold ka;omega)
 ·rw[EA]at e
  simp only[n0]at e;unfold mc;refine ma AX (qa rfl) ?_;have u:=hF.1;have p:=fun n=>cd (n:=n) F
  generalize kj n F ([],0)=R at*;obtain⟨v,m⟩:=R;exact ta
 ·obtain⟨a,b⟩:=c
  obtain⟨v,m⟩:=q;have u:=hF.1;have j:=hF.2 (a,b) (Ah y);have C:=Su t a j.1;have H:=Su t n E;have w:=Ou z;have g:=Pu F;have o:((bb F).drop (k* 2)).length=(F.length - k)* 2:=by rw[Ya,g];omega
  dsimp only at B⊢;have p:=fun n=>cd (n:=n) F
  clear hF j g t z y;rw[w]at o;simp only[za]at o;generalize F.drop (k+1)=fr at*;generalize bb fr=G at*;by_cases d:xa a=xa n
  ·have l:=eq_true d
   have i:(xa a==xa n)=true:=by simpa using d
   simp only[i,if_true];rw[d]at C;by_cases A:m=0
   ·subst A
    exact va Gz
   ·have D:((m:Int)=0)=False:=by apply eq_false;omega
    simp only[A,if_false];exact va Gz
  ·have l:=eq_false d
   have i:(xa a==xa n)=false:=by simpa using d
   simp only[i,Fa,if_false];exact va Gz
 ·exact Rc Gz @cd
theorem sy{n m:ba}(h:xa n=xa m):∀(F)(q),kj n F q=kj m F q
 |[],q=>rfl
 |(a,b)::l,q=>by rw[kj,kj,h,sy h l,sy h l]
def yp(s:ba)(q:ba×Nat):(ba×Nat) ⊕ Option ba:=match s[q.2]? with
 |none=>.inr (some q.1)
 |some c=>if Wa s [13,10] q.2 then .inl (q.1++[10],q.2+2)
  else if 1<=c.toNat/\c.toNat<=127/\c.toNat≠13/\c.toNat≠10 then .inl (q.1++[c],q.2+1)else .inr none
def zad(s):∀(n)(out)(k),s.length<n+k->k<=s.length->hc (yp s) none n (out,k)=(Dm (s.drop k)).map (out++·):=by
 intro n
 induction n with
 |zero=>omega
 |succ n v=>
  intro out k x y;by_cases t:k<s.length
  ·have q:=qe t
   have j:=ld t;obtain⟨c,hce⟩:∃c,s[k]=c:=⟨_,rfl⟩;rw[hce]at q j;have w:Wa s [13,10] k=([13,10]:ba).isPrefixOf (c::s.drop (k+1)):=by rw[Gh aa,j]
   have a:yp s (out,k)=(if([13,10]:ba).isPrefixOf (c::s.drop (k+1))then .inl (out++[10],k+2)
    else if 1<=c.toNat/\c.toNat<=127/\c.toNat≠13/\c.toNat≠10 then .inl (out++[c],k+1)else .inr none):=by
    unfold yp;dsimp only;rw[q];dsimp only;rw[w]
   have i:(c=13) ↔ (c.toNat=13):=by rw[<-Yb];rfl
   have h:(c=10) ↔ (c.toNat=10):=by rw[<-Yb];rfl
   by_cases o:k+1<s.length
   ·have b:=ld o
    obtain⟨d,l⟩:∃d,s[k+1]=d:=⟨_,rfl⟩;rw[l]at b;rw[b]at a;rw[j,b];unfold Dm;by_cases u:c=13/\d=10
    ·obtain⟨rfl,rfl⟩:=u
     rw[if_pos ja]at a;rw[xf a,if_pos ⟨rfl,rfl⟩,v _ _ aa aa,Option.map_map];congr 1;grind
    ·have p:([13,10]:ba).isPrefixOf (c::d::s.drop (k+2))=false:=by
      simp only[List.isPrefixOf,Ej,PA,beq_eq_false_iff_ne,ne_eq];rcases Ka (13=c)with e|e
      ·grind
      ·grind
     rw[p,if_neg da]at a;rw[if_neg u];by_cases g:1<=c.toNat/\c.toNat<=127/\c.toNat≠13/\c.toNat≠10
     ·rw[if_pos g]at a
      rw[xf a,if_pos ⟨g.1,g.2.1,fun e=>g.2.2.1 (i.1 e),fun e=>g.2.2.2 (h.1 e)⟩,v _ _ aa aa,b,Option.map_map];congr 1;grind
     grind [Dd]
   grind [Dm,xf,Dd]
  ·obtain rfl:k=s.length:=aa
   rw[Dd (r:=some out) (by grind [yp]),Kp];simp[Dm]
def zq(s:ba)(q:ba×Nat):St:=⟨[(0,.flat (.string (S s))),(4,.ha q.1.length (Yc q.1)),(5,.flat (.int .i64 (q.2:Nat)))],[.slot 4],[],[]⟩
def ms:Option ba->Out×St
 |none=>(.ret,⟨[(2,.flat (.string (S []))),(3,.flat (.bool false))],[],[],[]⟩)
 |some t=>(.exit 0,⟨[(4,.ha t.length (Yc t))],[.slot 4],[],[]⟩)
theorem zae(s)(hs:s.length<=10000000):fa code lib 173 [.flat (.string (S s))] [] []=some (match Ak s with
 |some t=>([.flat (.string (S t)),.flat (.bool true)],false,[],[])
 |none=>([.flat (.string (S [])),.flat (.bool false)],false,[],[])):=by
 have A:Da=4294967296:=rfl;refine ma GX (qa rfl) ?_
 have d:=Jn (body:=pa (fa code lib) ka LB) (live:=[0,4,5]) (nb:=0) (zq s) (yp s) none ms (fun q=>q.1.length<=q.2/\q.2<=s.length) (fun q=>s.length - q.2) (fun q w=>?_) (fun q w=>by simp only[zq,go_sem,simprocAttr])
  (fun a b z h=>?_) (fun r=>by cases r<;>simp[ms]) (n:=s.length+1) ([],0) ⟨la _,Za _⟩ aa (by grind [ka])
 ·have g:Yc []=[]:=rfl
  have j:hc (yp s) none (s.length+1) ([],0)=Ak s:=by
   rw[zad s _ [] 0 aa (Za _),zai,Af];simp
  rw[j]at d;unfold zq at d;simp only[ya,g,n0]at d;cases hr:Ak s with
  |none=>
   rw[hr]at d;simp only[ms]at d;exact ta
  |some t=>
   rw[hr]at d;simp only[ms]at d;have p:=pC t;exact va @Wl
 ·obtain⟨out,k⟩:=q
  obtain⟨l,o⟩:=w;dsimp only at l o;unfold yp;dsimp only;by_cases ea:k<s.length
  ·have i:s[k]?=some s[k]:=qe ea
   obtain⟨c,p⟩:∃c,s[k]=c:=⟨_,rfl⟩;rw[p]at i;rw[i];dsimp only;have g:=bj (lib:=lib) s [13,10] k aa ga aa;have x:[PV.flat (.int .u8 10)]=Yc [10]:=rfl;cases e:Wa s [13,10] k with
   |true=>
    rw[e]at g;have u:=Ho e;simp only[za,ya]at u;simp only[if_true,Vb];unfold zq;have e2:(k:Int)+1+1=(k:Int)+2:=aa
    simp(maxSteps:=999999) (disch:=first|assumption|omega) only[go_sem,simprocAttr,au,i,g,Vq,Wl,cn]
    grind [qx]
   |false=>
    rw[e]at g;simp only[Fa,if_false];have y:[PV.flat (.int .u8 c.toNat)]=Yc [c]:=rfl;obtain⟨n,v⟩:∃n,c.toNat=n:=⟨_,rfl⟩;rw[v]at y⊢;by_cases j:1<=n/\n<=127/\n≠13/\n≠10
    ·rw[if_pos j]
     obtain⟨g1,g2,g3,g4⟩:=j;simp only[Vb];unfold zq;simp(maxSteps:=999999) (disch:=first|assumption|omega) only[go_sem,simprocAttr,au,i,v,g,Vq,Wl,cn]
     grind [qx]
    ·rw[if_neg j]
     simp only[Vb,ms];unfold zq;rcases Ka (n<1)with g1|g1
     ·exact me @g Vq @Wl @cn
     ·rcases Ka (127<n)with g2|g2
      ·exact me @g Vq @Wl @cn
      ·rcases Ka (n=13)with g3|g3
       ·clear j
        subst g3;exact me @g Vq @Wl @cn
       ·obtain rfl:n=10:=aa
        clear j;exact me @g Vq @Wl @cn
  ·rw[Ie aa]
   simp only[Vb,ms];unfold zq;exact va Vq
 ·obtain⟨out,k⟩:=a
  obtain⟨l,o⟩:=z;dsimp only at l o;unfold yp at h;dsimp only at h;split at h
  ·cases h
  ·rename_i c i
   have g:=(qg i).1;split at h
   ·rename_i e
    have u:=Ho e
    grind
   grind
def U_(L:yr lib)(s c)(hs:s.length<=100000):fa code lib 106 [.flat (.string (S s)),.flat (.string (S c))] [] []=some ([.flat (.string (S ((si s c).getD []))),.flat (.bool (si s c).isSome)],false,[],[]):=by
 refine ma FX (qa rfl) ?_;unfold si;by_cases h:c=Ri
 ·have e:=zae (lib:=lib) s aa
  have a:(c=[55,98,105,116])=True:=eq_true h;rw[if_pos h];cases d:Ak s with
  |none=>
   rw[d]at e;dsimp only at e⊢;simp only[Mp,Tt];simp(maxSteps:=999999) (disch:=first|assumption|omega) only[go_sem,simprocAttr,au,e,a]
  |some t=>
   rw[d]at e;dsimp only at e⊢;simp only[jr,Nt];simp(maxSteps:=999999) (disch:=first|assumption|omega) only[go_sem,simprocAttr,au,e,a]
 ·rw[if_neg h]
  have a:(c=[55,98,105,116])=False:=eq_false h;by_cases i:c=hA
  ·rw[if_pos i]
   have e:=aZ L.dq s aa;have b:(c=[113,117,111,116,101,100,45,112,114,105,110,116,97,98,108,101])=True:=eq_true i;cases d:Qe s with
   |none=>
    rw[d]at e;dsimp only at e⊢;simp only[Mp,Tt];simp(maxSteps:=999999) (disch:=first|assumption|omega) only[go_sem,simprocAttr,au,e,a,b]
   |some t=>
    rw[d]at e;dsimp only at e⊢;simp only[jr,Nt];simp(maxSteps:=999999) (disch:=first|assumption|omega) only[go_sem,simprocAttr,au,e,a,b]
  ·rw[if_neg i]
   have b:(c=[113,117,111,116,101,100,45,112,114,105,110,116,97,98,108,101])=False:=eq_false i;by_cases j:c=eA
   ·rw[if_pos j]
    have e:=zdG L.um s aa;have g:(c=[98,97,115,101,54,52])=True:=eq_true j;cases d:jb (bare s)with
    |none=>
     rw[d]at e;dsimp only at e⊢;simp only[Mp,Tt];simp(maxSteps:=999999) (disch:=first|assumption|omega) only[go_sem,simprocAttr,au,e,a,b,g]
    |some t=>
     rw[d]at e;dsimp only at e⊢;simp only[jr,Nt];simp(maxSteps:=999999) (disch:=first|assumption|omega) only[go_sem,simprocAttr,au,e,a,b,g]
   ·rw[if_neg j]
    have g:(c=[98,97,115,101,54,52])=False:=eq_false j;simp only[Mp,Tt];exact ta
theorem QM(c):∀s,(gb c s).length<=s.length+1
 |[]=>by simp[gb]
 |x::l=>by
  have h:=QM c l
  grind [gb]
def bU(s)(hs:s.length<=1000000):fa code lib 104 [.flat (.string (S s))] [] []=some ([.flat (.bool (fo s))],false,[],[]):=by
 have e:=MC (lib:=lib) s 47 aa;have h:((UInt8.toNat 47:Nat):Int)=47:=rfl;rw[h]at e;refine ma HX (qa rfl) ?_;unfold fo;have d:=QM 47 s;generalize gb 47 s=l at*
 match l,d with
 |[],_=>
  simp only[ua,Bf,ya]at e;exact ta
 |[a],_=>
  simp only[ua,kc,Bf,za,ya]at e;exact ta
 |[a,b],_=>
  simp only[ua,kc,Bf,za,ya]at e;by_cases j:a=[]
  ·have g:=eq_true j
   exact ta
  ·have g:=eq_false j
   by_cases k:b=[]
   ·have i:=eq_true k
    exact ta
   ·have i:=eq_false k
    exact ta
 |a::b::c::l,d=>
  simp only[za]at d;have j:=Od (a::b::c::l);have g:=fun n=>yf (n:=n) (a::b::c::l)
  obtain⟨cs,i⟩:∃cs,ua (a::b::c::l)=cs:=⟨_,rfl⟩;rw[i]at e j g;simp only[za]at e;have k:((l.length:Int)+1+1+1=2)=False:=by apply eq_false;omega
  exact ta
def sQ(n:Nat):Bool:=decide (97<=n/\n<=122)||(decide (65<=n/\n<=90)||(decide (48<=n/\n<=57)||(decide (n=45)||(decide (n=95)||(decide (n=61)||decide (n=46))))))
def E6:∀c,Oq c=sQ c.toNat:=lc
def G6(s)(hs:s.length<=1000000000):fa code lib 108 [.flat (.string (S s))] [] []=some ([.flat (.bool (ll s))],false,[],[]):=by
 have a:=Nf (body:=pa (fa code lib) ka JB) (live:=[0,3]) (nb:=0) (fun(_:Unit) k=>⟨[(0,.flat (.string (S s))),(3,.flat (.int .i64 (k:Nat)))],[],[],[]⟩) s (fun _ _=>True)
  (fun _ k x=>if Oq x then .inl ()else .inr (.ret,⟨[(2,.flat (.bool false))],[],[],[]⟩)) (fun _=>(.exit 0,⟨[],[],[],[]⟩)) (fun _ k c _ e b d=>?_) (fun _ _=>by simp only[go_sem,simprocAttr]) (fun _ _ _ _ _ _ _ _=>trivial) (fun _ _ x r h=>by split at h<;>simp at h;rw[<-h];simp) (fun _ _=>?_) (fun _=>by simp) () trivial Kh
 ·rw[Gt]at a
  simp only[n0]at a;unfold ll;refine ma CX (qa rfl) ?_;by_cases d:s=[]
  ·subst d
   simp only[ya,decide_true,Ui,Wc,fg];exact va @ya.{0}
  ·have i:=DA.2 d
   have e:=eq_false d;simp only[e,decide_false,Gj,pc];rcases Ka (s.length<=70)with b|b
   ·simp only[b,decide_true,Ej]
    cases g:s.all Oq with
    |false=>
     simp only[g,Fa,if_false]at a;exact ta
    |true=>
     simp only[g,if_true]at a;exact ta
   ·simp only[b,decide_false,fg]
    exact ta
 ·have o:=c.toNat_lt
  rw[E6 c];unfold sQ;obtain⟨n,p⟩:∃n,c.toNat=n:=⟨_,rfl⟩;rw[p];rcases Ka (n<45)with i|i
  ·exact va pi
  rcases Ka (n=45)with a2|a2
  ·subst a2
   exact va pi
  rcases Ka (n=46)with a3|a3
  ·subst a3
   exact va pi
  rcases Ka (n<48)with a4|a4
  ·exact va pi
  rcases Ka (n<=57)with a5|a5
  ·exact va pi
  rcases Ka (n<61)with j|j
  ·exact va pi
  rcases Ka (n=61)with g|g
  ·subst g
   exact va pi
  rcases Ka (n<65)with l|l
  ·exact va pi
  rcases Ka (n<=90)with a9|a9
  ·exact va pi
  rcases Ka (n<95)with d|d
  ·exact va pi
  rcases Ka (n=95)with b|b
  ·subst b
   exact va pi
  rcases Ka (n<97)with a12|a12
  ·exact va pi
  rcases Ka (n<=122)with e|e
  ·exact va pi
  ·exact va pi
 ·exact va pi
def MS:ba:=[67,111,110,116,101,110,116,45,84,121,112,101]
def NS:ba:=[67,111,110,116,101,110,116,45,84,114,97,110,115,102,101,114,45,69,110,99,111,100,105,110,103]
def D1(a:vr lib)(F)(hF:Ck F):fa code lib 101 [.ha F.length (bb F),.flat (.string (S [67,111,110,116,101,110,116,45,84,121,112,101]))] [] []=some ([.flat (.string (S (mc Qg F).1)),.flat (.int .i64 ((mc Qg F).2:Nat))],false,[],[]):=by
 have h:=qO a F MS hF ga;have e:mc MS F=mc Qg F:=sy ga F _;rw[e]at h;exact h
def C1(a:vr lib)(F)(hF:Ck F):fa code lib 101 [.ha F.length (bb F),.flat (.string (S [67,111,110,116,101,110,116,45,84,114,97,110,115,102,101,114,45,69,110,99,111,100,105,110,103]))] [] []=some ([.flat (.string (S (mc Pf F).1)),.flat (.int .i64 ((mc Pf F).2:Nat))],false,[],[]):=by
 have h:=qO a F NS hF ga;have e:mc NS F=mc Pf F:=sy ga F _;rw[e]at h;exact h
def Wp(lib:Callee)(f:ba->Nat->Except Nat (LP×Nat))(a:Nat)(s:ba)(j:Nat):Prop:=match f s j with
 | .ok (p,m)=>fa code lib 51 [.flat (.string (S s)),.flat (.int .i64 (a:Nat)),.flat (.int .i64 (j:Nat))] [] []=some ([.agg p.cells,.flat (.int .i64 (m:Nat)),.flat (.int .i64 0)],false,[],[])
 | .error e=>∃x:Nat,x<=20000/\fa code lib 51 [.flat (.string (S s)),.flat (.int .i64 (a:Nat)),.flat (.int .i64 (j:Nat))] [] []=some ([.agg Xa,.flat (.int .i64 (x:Nat)),.flat (.int .i64 (e:Nat))],false,[],[])
def gq(nF:Nat)(a:List PV)(ty:ba)(ps:List LP):Ha:=[(64,Xa),(64,Xa),(64,[.ha nF a,.flat (.string (S ty)),.flat (.string (S [])),.ha ps.length (Tc ps)])]
def Gi(a nF:Nat)(b:List PV)(ty:ba)(all:List ba)(q:Nat×Nat×List LP):St:=⟨[(1,.flat (.int .i64 (a:Nat))),(2,.flat (.int .i64 (q.2.1:Nat))),(6,.ptr 0 0),(9,.ptr 1 0),(17,.ptr 2 0),(26,.ha all.length (ua all)),(28,.flat (.int .i64 (q.1:Nat)))],[.cell 2 3,.cell 1 0,.cell 1 3,.cell 0 0,.cell 0 3],[],gq nF b ty q.2.2⟩
def d_{a j e k nF:Nat}{b}(g:∀n,La n b=true){ty x}{all}{ps}(H:k<all.length)(q:all.length<=64)(E:a<=10)(G:j<=64)(v:e<=64)(B:ps.length=k)(c:all.drop k=x::all.drop (k+1)){p}
 (h:fa code lib 51 [.flat (.string (S x)),.flat (.int .i64 ((a:Int)+1)),.flat (.int .i64 (j:Nat))] [] []=some ([.agg p.cells,.flat (.int .i64 (e:Nat)),.flat (.int .i64 0)],false,[],[])):
 pa (fa code lib) ka Do (Gi a nF b ty all (k,j,ps))=some (.normal,Gi a nF b ty all (k+1,e,ps++[p])):=by
 have r:Da=4294967296:=rfl;have u:(ua all).drop k=.flat (.string (S x))::(ua all).drop (k+1):=by
  have:=congrArg ua c;simpa[ua,Yi]using this
 have d:=bc (l:=all);have w:((ua all).drop (k+1)).length+1=all.length - k:=by rw[Ya,d];omega
 have i:=sv ps;have z:=fun n=>dd (n:=n) ps
 have A:=dz ps;have y:=fun n=>yf (n:=n) all
 obtain⟨F,o,t2,qs⟩:=p;have w0:=fun n=>cd (n:=n) F
 have I:=fun n=>dd (n:=n) qs
 have C:=je F;have D:=jf qs;simp only[LP.cells]at h;have t:Tc (ps++[LP.mk F o t2 qs])=Tc ps++[.ha F.length (bb F),.flat (.string (S o)),.flat (.string (S t2)),.ha qs.length (Tc qs)]:=by
  rw[<-GF];simp only[Tc,LP.cells,Ye]
 unfold Gi gq Xa;dsimp only;exact Zf BG @lz @Ja.{0}
def b_{a j z k nF:Nat}{p}(q:∀n,La n p=true){ty x}{all}{ps}(D:k<all.length)(t:all.length<=64)(A:a<=10)(C:j<=64)(y:ps.length=k)(c:all.drop k=x::all.drop (k+1)){e}(B:0<e)(v:e<=100)
 (h:fa code lib 51 [.flat (.string (S x)),.flat (.int .i64 ((a:Int)+1)),.flat (.int .i64 (j:Nat))] [] []=some ([.agg Xa,.flat (.int .i64 (z:Nat)),.flat (.int .i64 (e:Nat))],false,[],[])):
 ∃ow bx,pa (fa code lib) ka Do (Gi a nF p ty all (k,j,ps))=some (.ret,⟨[(6,.ptr 0 0),(7,.flat (.int .i64 (j:Nat))),(8,.flat (.int .i64 (e:Nat)))],ow,[],(64,Xa)::bx⟩):=by
 have u:Da=4294967296:=rfl;have b:(ua all).drop k=.flat (.string (S x))::(ua all).drop (k+1):=by
  have:=congrArg ua c;simpa[ua,Yi]using this
 have g:=bc (l:=all);have i:((ua all).drop (k+1)).length+1=all.length - k:=by rw[Ya,g];omega
 have r:=sv ps;have w:=fun n=>dd (n:=n) ps
 have o:=fun n=>yf (n:=n) all
 have d:((e:Int)=0)=False:=by apply eq_false;omega
 unfold Gi gq Xa;unfold Xa at h;dsimp only;refine⟨?_,?_,?_⟩
 rotate_left 2
 simp(maxSteps:=999999) (disch:=first|assumption|omega) only[go_sem,simprocAttr,au,BG,lz,h,d,b,i,o]
 all_goals rfl
def rQ(D:vr lib)(l)(B:Ck l)(s u ty)(g j at_ k nF)(y)(i:∀n,La n y=true):
 Fc (pa (fa code lib) ka ox) [0,1,2,6,9,11,15,16,17,18,20,22] 3 ka ⟨[(0,.flat (.string (S s))),(1,.flat (.int .i64 (g:Nat))),(2,.flat (.int .i64 (j:Nat))),(6,.ptr 0 0),(9,.ptr 1 0),(11,.flat (.int .i64 (at_:Nat))),(15,.flat (.string (S u))),(16,.flat (.int .i64 (k:Nat))),(17,.ptr 2 0),(18,.flat (.string (S []))),(20,.ha l.length (bb l)),(22,.flat (.int .i64 0))],[.cell 2 3,.cell 1 0,.cell 1 3,.cell 0 0,.cell 0 3],[],[(64,Xa),(64,Xa),(64,[.ha nF y,.flat (.string (S ty)),.flat (.string (S [])),.ha 0 []])]⟩=some (.exit 0,⟨[(0,.flat (.string (S s))),(1,.flat (.int .i64 (g:Nat))),(2,.flat (.int .i64 (j:Nat))),(6,.ptr 0 0),(9,.ptr 1 0),(11,.flat (.int .i64 (at_:Nat))),(15,.flat (.string (S u))),(16,.flat (.int .i64 (k:Nat))),(17,.ptr 2 0),(18,.flat (.string (S (jk l []))))],[.cell 2 3,.cell 1 0,.cell 1 3,.cell 0 0,.cell 0 3],[],[(64,Xa),(64,Xa),(64,[.ha nF y,.flat (.string (S ty)),.flat (.string (S [])),.ha 0 []])]⟩):=by
 have d:=fun n=>cd (n:=n) l
 have e:=Nf (body:=pa (fa code lib) ka ox) (live:=[0,1,2,6,9,11,15,16,17,18,20,22]) (nb:=3) (fun(m:ba) q=>⟨[(0,.flat (.string (S s))),(1,.flat (.int .i64 (g:Nat))),(2,.flat (.int .i64 (j:Nat))),(6,.ptr 0 0),(9,.ptr 1 0),(11,.flat (.int .i64 (at_:Nat))),(15,.flat (.string (S u))),(16,.flat (.int .i64 (k:Nat))),(17,.ptr 2 0),(18,.flat (.string (S m))),(20,.ha l.length (bb l)),(22,.flat (.int .i64 (q:Nat)))],[.cell 2 3,.cell 1 0,.cell 1 3,.cell 0 0,.cell 0 3],[],[(64,Xa),(64,Xa),(64,[.ha nF y,.flat (.string (S ty)),.flat (.string (S [])),.ha 0 []])]⟩) l (fun _ _=>True)
  (fun m q x=>.inl (if xa x.1==xa Cm then x.2 else m)) (fun m=>(.exit 0,⟨[(0,.flat (.string (S s))),(1,.flat (.int .i64 (g:Nat))),(2,.flat (.int .i64 (j:Nat))),(6,.ptr 0 0),(9,.ptr 1 0),(11,.flat (.int .i64 (at_:Nat))),(15,.flat (.string (S u))),(16,.flat (.int .i64 (k:Nat))),(17,.ptr 2 0),(18,.flat (.string (S m)))],[.cell 2 3,.cell 1 0,.cell 1 3,.cell 0 0,.cell 0 3],[],[(64,Xa),(64,Xa),(64,[.ha nF y,.flat (.string (S ty)),.flat (.string (S [])),.ha 0 []])]⟩)) (fun m q c _ o E F=>?_) (fun _ _=>by simp only[go_sem,simprocAttr,Xa,i,d]) (fun _ _ _ _ _ _ _ _=>trivial) (fun _ _ x r h=>by cases h) (fun m _=>?_) (fun _=>by simp) [] trivial (by have:=B.1;unfold ka;omega)
 ·rw[gI]at e
  simp only[n0]at e;exact e
 ·obtain⟨a,b⟩:=c
  have G:=B.1;have z:=B.2 (a,b) (Ah E);have C:=Su D a z.1;have v:=Ou F;have t:=Pu l;have p:((bb l).drop (q* 2)).length=(l.length - q)* 2:=by rw[Ya,t];omega
  clear B z t D F E;rw[v]at p;simp only[za]at p;generalize l.drop (q+1)=fr at*;generalize bb fr=I at*;dsimp only;have H:xa Cm=Cm:=ga
  rw[H];unfold Cm Xa;by_cases o:xa a=[98,111,117,110,100,97,114,121]
  ·have w:(xa a==[98,111,117,110,100,97,114,121])=true:=by simpa using o
   rw[o]at C;simp only[w,if_true];simp(maxSteps:=999999) (disch:=first|assumption|omega) only[go_sem,simprocAttr,au,AG,v,C,i,d,p]
  ·have A:=eq_false o
   have w:(xa a==[98,111,117,110,100,97,114,121])=false:=by simpa using o
   simp only[w,Fa,if_false];simp(maxSteps:=999999) (disch:=first|assumption|omega) only[go_sem,simprocAttr,au,AG,v,C,A,i,d,p]
 ·unfold Xa
  simp(maxSteps:=999999) (disch:=first|assumption|omega) only[go_sem,simprocAttr,au,AG,i,d]
def GV{s m}{out}{ok}(h:fq s m=some (out,ok)):out.length<=s.length+1:=by
 unfold fq at h;split at h
 case isFalse=>cases h
 rename_i k;have o:=Ho k;have:=up (step:=Hh s m) (d:=none) (I:=fun q=>q.1.length<=q.2.2/\q.2.2<=s.length) (μ:=fun q=>s.length - q.2.2) (Q:=fun r=>∀out ok,r=some (out,ok)->out.length<=s.length+1) (fun q l=>by
  obtain⟨out,fr,i⟩:=q;obtain⟨g,j⟩:=l;dsimp only at g j;unfold Hh;dsimp only;have lb:(Ke m).length=m.length+6:=by simp[Ke]
  by_cases ea:i<s.length
  ·rw[if_pos ea]
   by_cases a:Wa s (Ke m) i=true
   ·have:=Ho a
    rw[if_pos a];simp only[Ja,za,ya];omega
   ·rw[if_neg a]
    by_cases b:Wa s (Wf m) i=true
    ·rw[if_pos b]
     intro n c e;cases e;simp only[Ja,za,ya];omega
    ·rw[if_neg b]
     dsimp only;omega
  ·rw[if_neg ea]
   intro n c e;cases e) (s.length+1) ([],(Ve m).length,(Ve m).length) ⟨Za _,Fg⟩ Fg
 exact this _ _ h
def LV(s mark:ba)(hs:s.length<=10000)(b:mark.length<=1000000):∃(out:List ba)(ok:Bool),fa code lib 107 [.flat (.string (S s)),.flat (.string (S mark))] [] []=some ([.ha out.length (ua out),.flat (.bool ok)],false,[],[])/\Ei s mark=(if ok=true then some out else none)/\out.length<=10001:=by
 have h:=KV (lib:=lib) s mark aa b;rw[HV];cases a:fq s mark with
 |none=>
  rw[a]at h;exact⟨[],false,h,rfl,da⟩
 |some r=>
  obtain⟨out,ok⟩:=r;have:=GV a;rw[a]at h;refine⟨out,ok,h,?_,aa⟩;cases ok<;>rfl
theorem TH:∀ow,Nb 0 ow=[]
 |[]=>rfl
 | .slot i::r=>TH r
 | .cell b o::r=>by rw[Gk,if_neg aa];exact TH r
theorem SP{f}(a:∀s n e,f s n=.error e->0<e/\e<=100):∀(l)(n e),Mf f l n=.error e->0<e/\e<=100
 |[],n,e,h=>by cases h
 |x::l,n,e,h=>by
  unfold Mf at h;split at h
  ·rename_i b;cases h;exact a _ _ _ b
  ·split at h
   ·rename_i b;cases h;exact SP a l _ _ b
   ·cases h
theorem c_{f}{a nF}(J:∀s n p m,f s n=.ok (p,m)->n<=64->m<=64)(G:∀s n e,f s n=.error e->0<e/\e<=100)(D:∀s j,s.length<=10000->j<=64->Wp lib f (a+1) s j){t}(b:∀n,La n t=true){ty}{all}(N:∀x∈all,x.length<=10000)(A:all.length<=64)(I:a<=10):
 ∀(r k j n)(ps),all.length - k=r->k<=all.length->j<=64->ps.length=k->r<n->(match Mf f (all.drop k) j with
  | .ok (qs,m)=>Fc (pa (fa code lib) ka Do) [1,2,6,9,17,26,28] 3 n (Gi a nF t ty all (k,j,ps))=some (.exit 2,⟨[(2,.flat (.int .i64 (m:Nat))),(6,.ptr 0 0),(17,.ptr 2 0)],[.cell 2 3,.cell 1 0,.cell 1 3,.cell 0 0,.cell 0 3],[],gq nF t ty (ps++qs)⟩)
  | .error e=>∃(x:Nat)(ow:List Loc)(bx:Ha),x<=64/\Fc (pa (fa code lib) ka Do) [1,2,6,9,17,26,28] 3 n (Gi a nF t ty all (k,j,ps))=some (.ret,⟨[(6,.ptr 0 0),(7,.flat (.int .i64 (x:Nat))),(8,.flat (.int .i64 (e:Nat)))],ow,[],(64,Xa)::bx⟩)):=by
 intro r
 induction r with
 |zero=>
  intro k j n ps hr K z o M;obtain rfl:k=all.length:=aa
  obtain⟨n,rfl⟩:∃q,n=q+1:=⟨n - 1,aa⟩;rw[Kp];simp only[Mf,Ye];have v:=fun n=>yf (n:=n) all
  have c:=bc (l:=all);have w:=fun n=>dd (n:=n) ps
  rw[tc];unfold Gi gq Xa;dsimp only;simp(maxSteps:=999999) (disch:=first|assumption|omega) only[go_sem,simprocAttr,au,BG,v,c,b,w,Gc,Sc]
 |succ r O=>
  intro k j n ps hr K z o M;obtain⟨n,rfl⟩:∃q,n=q+1:=⟨n - 1,aa⟩;have c:k<all.length:=aa
  have g:=ld c;have E:=N _ (Qm c);obtain⟨x,H⟩:∃x,all[k]=x:=⟨_,rfl⟩;rw[H]at g E;have d:=D x j E z;unfold Wp at d;rw[g];unfold Mf;cases i:f x j with
  |error e=>
   rw[i]at d;obtain⟨F,C,d⟩:=d;simp only[Wi,Xi]at d;obtain⟨y,B⟩:=G _ _ _ i;obtain⟨ow,bx,u⟩:=b_ (nF:=nF) (ty:=ty) b c A I z o g y B d;refine⟨j,ow,bx,z,?_⟩;rw[tc,u];rfl
  |ok P=>
   obtain⟨p,F⟩:=P;rw[i]at d;simp only[Wi,Xi]at d;have B:=J _ _ _ _ i z;have u:=d_ (nF:=nF) (ty:=ty) b c A I z B o g d;have y:(Gi a nF t ty all (k+1,F,ps++[p])).only [1,2,6,9,17,26,28] 3=Gi a nF t ty all (k+1,F,ps++[p]):=by
    have v:=fun n=>yf (n:=n) all
    have w:=fun n=>dd (n:=n) (ps++[p])
    unfold Gi gq Xa;dsimp only;simp only[go_sem,simprocAttr,v,b,w]
   have L:Fc (pa (fa code lib) ka Do) [1,2,6,9,17,26,28] 3 (n+1) (Gi a nF t ty all (k,j,ps))=Fc (pa (fa code lib) ka Do) [1,2,6,9,17,26,28] 3 n (Gi a nF t ty all (k+1,F,ps++[p])):=by
    rw[tc,u,Gc,y]
   have h:=O (k+1) F n (ps++[p]) aa c B (by rw[Ja,o];rfl) aa;rw[L];dsimp only;cases C:Mf f (all.drop (k+1)) F with
   |error e=>
    rw[C]at h;exact h
   |ok q=>
    obtain⟨qs,m⟩:=q;rw[C]at h;dsimp only at h⊢;rw[h,sf];rfl
def GP{rec}(b:∀f,rec=some f->∀s n e,f s n=.error e->0<e/\e<=100)(s)(n e)(h:ik rec s n=.error e):0<e/\e<=100:=by
 unfold ik at h;split at h
 ·cases h;decide
 ·cases h;decide
 split at h
 ·rename_i a
  unfold gl at a;split at a
  ·split at a
   ·cases a
   ·split at a
    ·cases a;cases h;decide
    ·cases a;cases h;decide
    ·split at a
     ·cases a
     ·cases a;cases h;decide
  ·cases a;cases h;decide
 split at h
 ·split at h
  ·cases h;decide
  ·cases h
 split at h
 ·split at h
  ·cases h;decide
  split at h
  ·cases h;decide
  rename_i f;split at h
  ·split at h
   ·rename_i a;cases h;exact SP (b f rfl) _ _ _ a
   ·cases h
  ·cases h;decide
 ·cases h;decide
theorem JP:∀(d)(s)(n e),Lg d s n=.error e->0<e/\e<=100
 |0=>GP fun f h=>by cases h
 |d+1=>GP fun f h=>by cases h;exact JP d
def pS(L:yr lib){rec}{a}(hd4:a<=4)(hnZ:rec=none->4<=a)(hr:∀f,rec=some f->a<4/\(∀s j,s.length<=10000->j<=64->Wp lib f (a+1) s j)/\(∀s n p m,f s n=.ok (p,m)->n<=64->m<=64)/\∀s n e,f s n=.error e->0<e/\e<=100)(s)(j)(hs:s.length<=10000)(hjZ:j<=64):Wp lib (ik rec) a s j:=by
 have hdZ:a<=10:=aa
 unfold Wp ik;have W:=zbf L.oA s hs;cases I:Pd s with
 |form=>
  rw[I]at W;unfold Xa;exact⟨j,aa,ng Zg⟩
 |long=>
  rw[I]at W;unfold Xa;exact⟨j,aa,ng Zg⟩
 |ok F at_=>
  rw[I]at W;obtain⟨hF,k2Z,k3Z⟩:=AH I aa;have N:(mc Qg F).1.length<=10000:=ss F _ da fun f C=>by have:=(k3Z f C).2;omega
  have hgl2:(mc Pf F).1.length<=10000:=ss F _ da fun f C=>by have:=(k3Z f C).2;omega
  have f2Z:=D1 L.fold F hF;have f3Z:=C1 L.fold F hF;have hnp:=je F;have o:=fun n=>cd (n:=n) F
  have hFl:=hF.1;have hfc:=Su L.fold (mc Pf F).1 aa;have tkZ:(s.take s.length).drop at_=s.drop at_:=by rw[Eh]
  have Z:(s.drop at_).length<=10000:=by rw[Ya];omega
  have c:dj F=xa (if(mc Pf F).2=0 then Ri else(mc Pf F).1):=rfl;unfold gl;clear I hF k3Z hs;dsimp only at W⊢;generalize dj F=d at*;generalize mc Pf F=U at*;generalize mc Qg F=V at*;obtain⟨v,n⟩:=V;obtain⟨u,k⟩:=U;dsimp only at*;by_cases Y:n<2/\k<2
  case neg=>
   rw[if_neg Y];unfold Xa;rcases Ka (1<n)with b|b
   ·exact⟨j,aa,ng Zg⟩
   ·have g:1<k:=aa
    exact⟨j,aa,ng Zg⟩
  rw[if_pos Y];have i:(k=0/\d=Ri)\/(k=1/\d=xa u):=by
   by_cases H:k=0
   ·subst H;exact .inl ⟨rfl,c⟩
   ·rw[if_neg H]at c;exact .inr ⟨aa,c⟩
  have z:=U_ L (s.drop at_) d aa;obtain⟨a9,b9Z⟩:=Y;clear c;by_cases H:n=0
  ·subst H
   rw[if_pos rfl];dsimp only;rw[if_pos ga];have X:=bU (lib:=lib) vp ga;have E:=bj (lib:=lib) vp Zn 0 ga ga ga;rw[show fo vp=true by decide]at X;rw[show Wa vp Zn 0=false by decide,n0]at E;unfold Zn at E;unfold vp at X E;cases r:si (s.drop at_) d with
   |none=>
    rw[r]at z;dsimp only[Option.isSome,Option.getD]at z;unfold Xa;refine⟨j,aa,?_⟩;rcases i with⟨rfl,rfl⟩|⟨rfl,rfl⟩<;>unfold Ri at*<;>exact ng Zg
   |some t=>
    rw[r]at z;dsimp only[Option.isSome,Option.getD]at z;simp only[LP.cells,Tc,vp];rcases i with⟨rfl,rfl⟩|⟨rfl,rfl⟩<;>unfold Ri at*<;>exact ng Zg
  obtain rfl:n=1:=aa
  rw[if_neg ga];have B:=s8 L.tp v N;cases T:bg v with
  |form=>
   rw[T]at B;unfold Xa;exact⟨j,aa,ng Zg⟩
  |zh=>
   rw[T]at B;unfold Xa;exact⟨j,aa,ng Zg⟩
  |ok m l=>
   rw[T]at B;obtain⟨w,hml⟩:=UG T N;have hml:m.length<=10000:=aa
   have f4Z:=Su L.fold m aa;have hfl:(xa m).length<=10000:=by simp only[xa,Hj];omega
   have X:=bU (lib:=lib) (xa m) aa;have E:=bj (lib:=lib) (xa m) Zn 0 aa ga ga;rw[Gh (Za _),Af,n0]at E;have hnpl:=je l;have hlowl:=fun n=>cd (n:=n) l
   have hlo:=rQ (lib:=lib) L.fold l w s u (xa m) a j at_ 0 F.length (bb F) o;have P:=rQ (lib:=lib) L.fold l w s u (xa m) a j at_ 1 F.length (bb F) o;simp only[n0]at hlo;simp only[n1]at P;have hsl2:=w.1;have R:=YF l [] (fun f C=>(w.2 f C).2) da;have hma:=G6 (lib:=lib) (jk l []) aa;obtain⟨out,ok,hbo,A,hol⟩:=LV (lib:=lib) (s.drop at_) (jk l []) aa R;have J:=fun all h=>jC (s:=s.drop at_) (mk:=jk l []) (all:=all) h Z
   have hnpo:=Od out;have hlwo:=fun n=>yf (n:=n) out
   have hcut:=BY m;rw[zdD]at X;dsimp only at B⊢;generalize (Lib.cut m [47])=Q at*;clear T L w;generalize fo m=ty2 at*;generalize jk l []=mk at*;generalize xa m=ty at*;unfold Ri Zn at*;unfold Xa at*;cases ty2
   ·rw[if_neg fun h=>by cases hcut.1 h]
    rcases i with⟨rfl,rfl⟩|⟨rfl,rfl⟩<;>exact⟨j,aa,ng Zg⟩
   rw[if_pos (hcut.2 rfl)];clear hcut;dsimp only;cases S:List.isPrefixOf [109,117,108,116,105,112,97,114,116,47] ty with
   |false=>
    rw[S]at E;rw[if_pos rfl];cases r:si (s.drop at_) d with
    |none=>
     rw[r]at z;dsimp only[Option.isSome,Option.getD]at z;refine⟨j,aa,?_⟩;rcases i with⟨rfl,rfl⟩|⟨rfl,rfl⟩<;>exact ng Zg
    |some t=>
     rw[r]at z;dsimp only[Option.isSome,Option.getD]at z;simp only[LP.cells,Tc];rcases i with⟨rfl,rfl⟩|⟨rfl,rfl⟩<;>exact ng Zg
   |true=>
    rw[S]at E;rw[if_neg da];clear z;by_cases y:d=[55,98,105,116]
    case neg=>
     rw[if_neg fun h=>y h.1];rcases i with⟨rfl,rfl⟩|⟨rfl,rfl⟩
     ·exact absurd rfl y
     ·have g:=eq_false y
      exact⟨j,aa,ng Zg⟩
    generalize ll mk=M at*;cases M
    ·rw[if_neg fun h=>by cases h.2]
     rcases i with⟨rfl,rfl⟩|⟨rfl,rfl⟩<;>have g:=eq_true y<;>exact⟨j,aa,ng Zg⟩
    rw[if_pos ⟨y,rfl⟩,A];cases ok
    ·rw[if_neg da]
     clear A;rcases i with⟨rfl,rfl⟩|⟨rfl,rfl⟩<;>have g:=eq_true y<;>exact⟨j,aa,ng Zg⟩
    have hxZ:=J out A;clear J A;rw[if_pos rfl];dsimp only;cases rec with
    |none=>
     have b:=hnZ rfl;rcases i with⟨rfl,rfl⟩|⟨rfl,rfl⟩<;>have g:=eq_true y<;>exact⟨j,aa,ng Zg⟩
    |some f=>
     obtain⟨hdp,D,C,K⟩:=hr f rfl;clear hr hnZ;dsimp only;by_cases G:j+out.length<=64
     ·rw[if_pos G]
      have b:=c_ (nF:=F.length) (ty:=ty) C K D o hxZ aa hdZ out.length 0 (j+out.length) ka [] aa (Za _) G rfl Kh;rw[Af]at b;unfold Gi gq Xa at b;simp only[ya,Tc,n0,Wi,Gb]at b;have H:=TH;clear C K D hxZ;cases O:Mf f out (j+out.length)with
      |error e=>
       rw[O]at b;obtain⟨x,ow,bx,hx64,b⟩:=b;rcases i with⟨rfl,rfl⟩|⟨rfl,rfl⟩<;>have g:=eq_true y<;>exact⟨x,aa,ng Zg⟩
      |ok q=>
       rw[O]at b;obtain⟨ps,M⟩:=q;have hlwp:=fun n=>dd (n:=n) ps
       have hnpp:=jf ps;simp only[LP.cells];rcases i with⟨rfl,rfl⟩|⟨rfl,rfl⟩<;>have g:=eq_true y<;>exact ng Zg
     ·rw[if_neg G]
      rcases i with⟨rfl,rfl⟩|⟨rfl,rfl⟩<;>have g:=eq_true y<;>exact⟨j+out.length,aa,ng Zg⟩
theorem oS(L:yr lib):∀(d a),d+a=4->∀s j,s.length<=10000->j<=64->Wp lib (Lg d) a s j
 |0,a,h=>fun s j hs b=>pS L (rec:=none) aa (fun _=>by omega) (fun f e=>by cases e) s j hs b
 |d+1,a,h=>fun s j hs b=>pS L (rec:=some (Lg d)) aa (fun e=>by cases e) (fun f e=>by
  cases e;exact⟨aa,oS L d (a+1) aa,JF d,JP d⟩) s j hs b
def ym(s:ba):List PV:=match Lg 4 s 0 with
 | .ok (p,_)=>[.agg p.cells,.flat (.int .i64 0)]
 | .error e=>[.agg Xa,.flat (.int .i64 (e:Nat))]
def HR(L:yr lib)(s)(hs:s.length<=10000):fa code lib 22 [.flat (.string (S s))] [] []=some (ym s,false,[],[]):=by
 have h:=oS L 4 0 rfl s 0 hs ga;unfold Wp at h;unfold ym;refine ma DX (qa rfl) ?_;cases c:Lg 4 s 0 with
 |error e=>
  rw[c]at h;obtain⟨x,a,h⟩:=h;simp only[n0]at h;unfold Xa at h⊢;dsimp only;simp(maxSteps:=999999) (disch:=first|assumption|omega) only[go_sem,simprocAttr,au,h]
 |ok q=>
  obtain⟨p,m⟩:=q;rw[c]at h;simp only[n0]at h;obtain⟨F,g,t2,qs⟩:=p;simp only[LP.cells]at h⊢;have w0:=fun n=>cd (n:=n) F
  have d:=fun n=>dd (n:=n) qs
  have a:=je F;have b:=jf qs;simp(maxSteps:=999999) (disch:=first|assumption|omega) only[go_sem,simprocAttr,au,h,w0,d,a,b]
def x8(L:xr lib)(s:ba)(hs:s.length<=10000){p:LP}{m:Nat}(h:Lg 4 s 0=.ok (p,m)):FI (fa code lib) ka Tn [.flat (.string (S s))] [] [] ([.agg p.cells,.flat (.int .i64 0)],false,[],[]):=by
 have b:=(IF L 4 0 rfl).1 Ih 3 2 _ YJ s 0 p m hs ga h;obtain⟨c,g,d,a⟩:=p;have j:=fun n=>cd (n:=n) c
 have k:=fun n=>dd (n:=n) a
 simp only[LP.cells]at b⊢;simp only[Ih,Xa,lf,RT,cj,kq,n0]at b;refine⟨qa rfl,.normal,⟨[(0,.flat (.string (S s))),(2,.ptr 0 0),(3,.ptr 1 0)],[.cell 0 0,.cell 0 3],[],[(52,Xa),(24,[.flat (.int .i64 0)])]⟩,?_,.ret,⟨[(2,.ptr 0 0),(3,.ptr 1 0)],[],[],[(52,[.ha c.length (bb c),.flat (.string (S g)),.flat (.string (S d)),.ha a.length (Tc a)]),(24,[.flat (.int .i64 0)]),(RT,lf m)]⟩,?_,(fun i e=>by cases e),?_⟩
 ·unfold Tn QG Xa
  exact ta
 ·unfold Tn PG Vm.mid Xa
  simp(maxSteps:=999999) (disch:=first|assumption|omega) only[go_sem,simprocAttr,au,b,lf,j,k]
 ·have l:La 0 [PV.agg [.ha c.length (bb c),.flat (.string (S g)),.flat (.string (S d)),.ha a.length (Tc a)],.flat (.int .i64 0)]=true:=by simp only[La,PV.low,j,k,tf]
  unfold Tn ns;have o:([Sum.inr (2,true,4),Sum.inr (3,false,1)]:List (Sum Nat (Nat×Bool×Nat))).mapM (Oi ⟨[(2,.ptr 0 0),(3,.ptr 1 0)],[],[],[(52,[.ha c.length (bb c),.flat (.string (S g)),.flat (.string (S d)),.ha a.length (Tc a)]),(24,[.flat (.int .i64 0)]),(RT,lf m)]⟩)=some [.agg [.ha c.length (bb c),.flat (.string (S g)),.flat (.string (S d)),.ha a.length (Tc a)],.flat (.int .i64 0)]:=rfl;dsimp only;rw[o,kd];simp[trim,l,Yg,Qn]
def y8(L:xr lib)(s:ba)(hs:s.length<=10000){e:Nat}(h:Lg 4 s 0=.error e):MI (fa code lib) (TW lib) ka Uu [2,3] Tn [.flat (.string (S s))] [] [] ([.agg Xa,.flat (.int .i64 (e:Nat))],false,[],[]):=by
 have a:=(IF L 4 0 rfl).2 Ih 3 2 _ YJ s 0 e hs ga h;obtain⟨M,i⟩:∃M,gz 4 s 0=M:=⟨_,rfl⟩;rw[i]at a;have c:=y1 (e:Nat) M;refine⟨qa rfl,⟨[(0,.flat (.string (S s))),(2,.ptr 0 0),(3,.ptr 1 0)],[.cell 0 0,.cell 0 3],[],[(52,Xa),(24,[.flat (.int .i64 0)])]⟩,.r (.l (.op 37 0)),(od (e:Nat),[.ptr 0 0,.ptr 1 0],Ih M,[]),_,?_,?_,c,?_⟩
 ·unfold Tn QG Xa
  exact ta
 ·simp only[cj,kq,n0]at a
  have d:TW lib 37 [.ptr 2 0,.flat (.string (S s)),.flat (.int .i64 0)] (Ih 0) [.cell 0 0,.cell 0 3] (od (e:Nat),Ih M,[]):=a;have j:Ih 0=[(52,Xa),(24,[.flat (.int .i64 0)]),(RT,[.flat (.int .i64 0)])]:=rfl;rw[j]at d;obtain⟨g,b⟩:∃g,Ih M=g:=⟨_,rfl⟩;rw[b]at d⊢;unfold Xa at d;unfold Tn PG Vm.mid Xa;exact ta
 ·unfold Tn ns
  have b:([Sum.inr (2,true,4),Sum.inr (3,false,1)]:List (Sum Nat (Nat×Bool×Nat))).mapM (Oi ⟨([2,3]:List Nat).zip [.ptr 0 0,.ptr 1 0],[],[],[(52,Xa),(24,[.flat (.int .i64 (e:Nat))]),(RT,lf M)]⟩)=some [.agg Xa,.flat (.int .i64 (e:Nat))]:=rfl;dsimp only;rw[b,kd];simp[trim,La,Xa,PV.low,Yg,Qn]
noncomputable def Kv:Callee:=fun f args bx oc=>if f=19 then(match args,bx,oc with
 |[.flat (.string s)],[],[]=>if s.size<=10000 then some (ym s.data.toList,false,[],[])else none
 |_,_,_=>none)else none
def t8(s:ba)(hs:s.length<=10000):Kv 19 [.flat (.string (S s))] [] []=some (ym s,false,[],[]):=by
 unfold Kv;rw[if_pos rfl];dsimp only;rw[if_pos (by rw[Na];exact hs)];rfl
def v8{Γ:Ze}(L:xr lib)(c:dc Tryz.prog Γ lib):dc Tryz.prog Γ Kv:=by
 intro f args bx oc i os bx' oc' a;unfold Kv at a;split at a
 case isFalse=>cases a
 rename_i g;subst g;split at a
 case h_2=>cases a
 rename_i s;split at a
 case isFalse=>cases a
 rename_i hs;obtain⟨l,rfl⟩:∃l:ba,s=S l:=⟨s.data.toList,by simp[S]⟩;rw[Na]at hs;have h:(S l).data.toList=l:=by simp[S]
 rw[h]at a;have b:=gD Tryz.checked.mixed ca Ix c;intro w Fr β vs d;unfold ym at a;cases hr:Lg 4 l 0 with
 |ok q=>
  obtain⟨p,m⟩:=q;rw[hr]at a;cases a;exact MZ Tryz.checked.mixed ca b ER g7 (x8 L l hs hr) d
 |error e=>
  rw[hr]at a;cases a;exact k8 Tryz.checked.mixed ca b (DU c) ER tW (y8 L l hs hr) d
end wa
namespace Go.Proofs.YtglaihdcndcmkaaGreatDoor
def vE(s:ByteArray):xi s.data.toList=(s.toList==[98,114]||(s.toList==[104,114]||s.toList==[105,109,103])):=by
 grind [px,xi]
def yw(s)(b)(h:xi s.data.toList=b)(w):Calls Tryz.prog 182 #[.string s] w fun e w'=>e=.returned (.bool b)/\w'=w:=by
 subst h;rw[vE]
 go_enter Tryz.func182,Tryz.ntmps182
 go_wp2
 all_goals (go_ret;refine⟨?_,rfl⟩;simp[*,Bool.or_assoc])
def FU(w:World)(g o:Nat)(t:Tok):Prop:=∃a3 n3 c3,w.cell? ⟨g,o,none⟩=some (.int .u8 t.kind.toNat)/\w.cell? ⟨g,o+1,none⟩=some (.string (S t.name))/\w.cell? ⟨g,o+2,none⟩=some (.string (S t.text))/\w.cell? ⟨g,o+3,none⟩=some (.slice a3 n3 c3)/\w.cell? ⟨g,o+4,none⟩=some (.int .i64 (t.fr:Nat))/\w.cell? ⟨g,o+5,none⟩=some (.int .i64 (t.to:Nat))
def PI(w:World)(a:Option Addr)(L:List Tok):Prop:=L=[]\/∃g o,a=some ⟨g,o,none⟩/\g<w.heap.size/\∀k t,L[k]?=some t->FU w g (o+k* 6) t
def Ap(l:List ba):List Value:=l.map fun x=>.string (S x)
def BD:(Tryz.prog.info? 9).map (fun i=>(i.zero,i.size,i.bytes))=some (some (.string ⟨#[]⟩),1,16):=ca
def nl(L:List Tok)(q:List ba×Nat):Option (List ba):=hc (nk L) none (L.length - q.2+1) q
theorem Tq{L}{op a}{k}{t}(b:L[k]?=some t)(h:Ii t op=some a):nl L (op,k)=nl L (a,k+1):=by
 grind [nl,xf,nk]
theorem xz{L}{op}{k}{t}(a:L[k]?=some t)(h:Ii t op=none):nl L (op,k)=none:=by
 unfold nl;dsimp only;rw[Dd (show nk L (op,k)=.inr none by grind [nk])]
def h7{L}{op}:nl L (op,L.length)=some op:=by
 have a:L[L.length]?=none:=Ie (la _);unfold nl;dsimp only;rw[Dd (show nk L (op,L.length)=.inr (some op) by grind [nk])]
def d8{w:World}{base}{e}{g a n}{op}(v:op.length=n+1)(h:w.ownsRow base e 1 (.slice (some ⟨g,0,none⟩) (n+1) a) (n+1) (Ap op)):w.ownsRow base e 1 (.slice (some ⟨g,0,none⟩) n a) n (Ap (op.take n)):=by
 obtain⟨u,l⟩:=h;rcases l with⟨k,_⟩|⟨t,j,c,r,o,p,q,b,d,i⟩
 ·cases k
 ·cases r
  refine⟨by grind [Ap],.inr ⟨g,a,c,rfl,o,p,aa,b,d,?_⟩⟩
  grind [Ap,List.map_take]
def c8{w w'}{base}{e}{size}{v}{n}{xs}(h:w.ownsRow base e size v n xs)(k:Below w.heap.size w w'):w'.ownsRow base e size v n xs:=
 Ot (row:=none) h ⟨k.os,k.tape,k.output,k.size,fun i a _=>k.block i a⟩ ia
theorem dG{t}{op}(h:t.kind.toNat=111)(a:xi t.name=false):Ii t op=if 32<op.length+1 then none else some (op++[t.name]):=by grind [Ii]
theorem rz{t}{op}(h:t.kind.toNat=99):Ii t op=if op.getLast?=some t.name then some op.dropLast else none:=by grind [Ii]
def sz{t}{op}(h:¬(t.kind.toNat=111/\xi t.name=false))(a:¬t.kind.toNat=99):Ii t op=some op:=by grind [Ii]
set_option maxRecDepth 100000 in
def X6(L)(a)(cap)(w)(hr:PI w a L)(hLZ:L.length<=1000000000)(b)(hbZ:Mn L=b):Calls Tryz.prog 162 #[.slice a L.length cap] w fun e w'=>e=.returned (.bool b)/\Below w.heap.size w w':=by
 have Z:decide (nl L ([],0)=some [])=b:=hbZ;have HRZ:=Lib.hid hr;have HBZ:=Lib.hid Z;clear hr hbZ Z
 go_enter Tryz.func162,Tryz.ntmps162
 go_wp2
 go_loopw [3,9] (fun v i wr=>∃(k:Nat)(op:List ba),i=.int .i64 k/\k<=L.length/\op.length<=32/\wr.ownsRow w.heap.size 9 1 v op.length (Ap op)/\Below w.heap.size w wr/\Hid (nl L ([],0)=nl L (op,k)))
  (fun _ i _=>L.length - (intOf i).toNat)
 case atStart=>exact⟨0,[],rfl,Za _,da,LA _ _ _ _,Below.refl _ _,Lib.hid rfl⟩
 case round=>
  obtain⟨k,op,rfl,hkZ,X,z,c,D⟩:=hrel;by_cases ea:k<L.length
  ·obtain⟨g,o,rfl,Q,G⟩:=HRZ.out.resolve_left ia
   have hcZ:=qe ea;obtain⟨t,ht⟩:∃t,L[k]=t:=⟨_,rfl⟩;rw[ht]at hcZ;obtain⟨a3,n3,cp3,c0Z,c1,c2,c3,c4,c5⟩:=G k t hcZ;have q0Z:=(c.cell (p:=⟨g,o+k* 6,none⟩) Q).trans c0Z;have q1Z:=(c.cell (p:=⟨g,o+k* 6+1,none⟩) Q).trans c1;have q2Z:=(c.cell (p:=⟨g,o+k* 6+2,none⟩) Q).trans c2;have q3Z:=(c.cell (p:=⟨g,o+k* 6+3,none⟩) Q).trans c3;have q4Z:=(c.cell (p:=⟨g,o+k* 6+4,none⟩) Q).trans c4;have q5Z:=(c.cell (p:=⟨g,o+k* 6+5,none⟩) Q).trans c5;have hgwr:=Qf Q c.size;have q:=c.size;have U:=Lib.hid hcZ;have HRW:=Lib.hid G;clear c0Z c1 c2 c3 c4 c5 G hcZ ht;have c6Z:Tryz.prog.cellsOf 190=6:=ca
   obtain⟨n,hnZ⟩:∃n,t.kind.toNat=n:=⟨_,rfl⟩;rw[hnZ]at q0Z;have J:=Lib.hid hnZ;clear hnZ;have r:=Lib.hid z;obtain⟨voZ,hvo⟩:∃voZ,xi t.name=voZ:=⟨_,rfl⟩;have P:=Lib.hid hvo;clear hvo;rcases z.2 with⟨rfl,I⟩|⟨gsZ,Oa,cur,rfl,hgs,F,hnc,hcm,hcsz,htk⟩
   ·have A:=qz I
    subst A;clear z;by_cases R:n=111
    ·subst R
     cases voZ with
     |true=>
      go_wp2_with(go_at_call 182;refine(yw _ _ P.out _).mono ?_;rintro e w2Z ⟨rfl,rfl⟩)
      all_goals
       go_roundw
       case rel=>exact⟨k+1,[],by go_num,ea,da,r.out.alloc _,c.alloc q _,Lib.hid (D.out.trans (Tq U.out (sz (by rw[P.out];simp) (by rw[J.out];decide))))⟩
       case measure=>simp[intOf];omega
     |false=>
      go_wp2_with(first|(go_at_call 182;refine(yw _ _ P.out _).mono ?_;rintro e w2Z ⟨rfl,rfl⟩)|(at_builtin;refine Am ja _ _ _ ja 9 _ 1 16 Tryz.underlying29 BD ja aa w.heap.size _ _ _ _ ja (r.out.alloc _) [.string (S t.name)] ja (by simp[Value.oneCell']) (by show Value.slice (some ⟨wr.heap.size+1,0,none⟩) 1 1=_;simp) da da Sa ?_;intro ggZ K w8Z hgg j y u M;have O:=Lib.hid j;have E:=Lib.hid u;clear j u y))
      all_goals
       refine⟨⟨k+1,[t.name],by go_num,ea,da,O.out,(c.alloc q _).trans (E.out.mono aa),?_⟩,by grind [intOf]⟩
       grind [Tq,Hid.out,dG]
    ·by_cases Y:n=99
     ·subst Y
      have N:=Lib.hid (show false=b by grind [Hid.out,xz,rz]);go_wp2
      (refine wp_region_quiet_below ca ca ?_;(repeat (first|go_big_quiet_skip|(go_big_quiet_want;go_big_quiet_op;first|go_big_quiet_on|(apply Exists.intro;refine⟨fun _=>?_,?_⟩;(· (fail));go_big_quiet_on))));refine wpQuiet_nil ?_;intro _ C;obtain⟨⟨dq,osq⟩,l⟩:=C;subst l)
      go_wp2
      all_goals (go_ret;exact⟨congrArg (fun x=>Ending.returned (Value.bool x)) N.out,(c.alloc q _).trans ((below_regrown _ _ _).mono Sa)⟩)
     ·have e1:((n:Int)==111)=false:=Sa
      have e9Z:((n:Int)==99)=false:=Sa
      go_wp2
      all_goals
       first
        |exact⟨⟨k+1,[],by go_num,ea,da,r.out.alloc _,c.alloc q _,Lib.hid (D.out.trans (Tq U.out (sz (fun h=>R (J.out.symm.trans h.1)) (fun h=>Y (J.out.symm.trans h)))))⟩,by grind [intOf]⟩
        |skip
   ·have hfz:op.length=0\/∃m x,op.length=m+1/\op[m]?=some x/\op.getLast?=some x/\op.dropLast=op.take m:=by
     cases hoZ:op.length with
     |zero=>omega
     |succ m=>obtain⟨x,R,h2Z,B,_⟩:=BP hoZ;grind
    have HFZ:=Lib.hid hfz;clear z hfz;by_cases R:n=111
    ·subst R
     cases voZ with
     |true=>
      go_wp2_with(go_at_call 182;refine(yw _ _ P.out _).mono ?_;rintro e w2Z ⟨rfl,rfl⟩)
      all_goals
       go_roundw
       case rel=>exact⟨k+1,op,by go_num,ea,X,r.out.alloc _,c.alloc q _,Lib.hid (D.out.trans (Tq U.out (sz (by rw[P.out];simp) (by rw[J.out];decide))))⟩
       case measure=>simp[intOf];omega
     |false=>
      by_cases H:op.length+1<=32
      ·have B:¬(32:Int)<(op.length:Int)+1:=aa
       go_wp2_with(first|(go_at_call 182;refine(yw _ _ P.out _).mono ?_;rintro e w2Z ⟨rfl,rfl⟩)|(at_builtin;refine Am ja _ _ _ ja 9 _ 1 16 Tryz.underlying29 BD ja aa w.heap.size _ _ _ _ ja (r.out.alloc _) [.string (S t.name)] ja (by simp[Value.oneCell']) (by show Value.slice (some ⟨wr.heap.size+1,0,none⟩) 1 1=_;simp) aa aa Sa ?_;intro ggZ K w8Z hgg j y u M;have O:=Lib.hid j;have E:=Lib.hid u;clear j u y))
       all_goals
        refine⟨⟨k+1,op++[t.name],by go_num,ea,Sa,?_,(c.alloc q _).trans (E.out.mono aa),?_⟩,by first|(simp[intOf];done)|(simp[intOf];omega)⟩
        ·grind [Hid.out,Ap]
        grind [Tq,Hid.out,dG]
      ·have B:(32:Int)<(op.length:Int)+1:=aa
       have N:=Lib.hid (show false=b by grind [Hid.out,xz,dG])
       go_wp2_with(first|(go_at_call 182;refine(yw _ _ P.out _).mono ?_;rintro e w2Z ⟨rfl,rfl⟩)|(at_builtin;refine Am ja _ _ _ ja 9 _ 1 16 Tryz.underlying29 BD ja aa w.heap.size _ _ _ _ ja (r.out.alloc _) [.string (S t.name)] ja (by simp[Value.oneCell']) (by show Value.slice (some ⟨wr.heap.size+1,0,none⟩) 1 1=_;simp) aa aa Sa ?_;intro ggZ K w8Z hgg j y u M;have O:=Lib.hid j;have E:=Lib.hid u;clear j u y))
       all_goals (go_ret;exact⟨congrArg (fun x=>Ending.returned (Value.bool x)) N.out,(c.alloc q _).trans (E.out.mono aa)⟩)
    ·by_cases Y:n=99
     ·subst Y
      rcases HFZ.out with hzZ|⟨m,x,T,hx1,hx2,hx3⟩
      ·have A:=qz hzZ
       subst A;have N:=Lib.hid (show false=b by grind [Hid.out,xz,rz]);simp only[ya];go_wp2
       (refine wp_region_quiet_below ca ca ?_;(repeat (first|go_big_quiet_skip|(go_big_quiet_want;go_big_quiet_op;first|go_big_quiet_on|(apply Exists.intro;refine⟨fun _=>?_,?_⟩;(· (fail));go_big_quiet_on))));refine wpQuiet_nil ?_;intro _ C;obtain⟨⟨dq,osq⟩,l⟩:=C;subst l)
       go_wp2
       all_goals (go_ret;exact⟨congrArg (fun x=>Ending.returned (Value.bool x)) N.out,(c.alloc q _).trans ((below_regrown _ _ _).mono Sa)⟩)
      ·have B:wr.ownsRow w.heap.size 9 1 (.slice (some ⟨gsZ,0,none⟩) (m+1) Oa) (m+1) (Ap op):=T▸r.out
       have V:=Lib.hid B;have hcx:wr.cell? ⟨gsZ,m,none⟩=some (.string (S x)):=(B.cellAt m aa).trans (by grind [Ap]);have hgsl:=(xg.1 F).1;have hm32:m<=31:=aa
       have hwr:IntKind.i64.wrap (m:Int)=(m:Int):=by rw[IntKind.wrap_i64];omega
       have hix1:(m:Int)<(m:Int)+1:=aa
       have hix2:(m:Int)<((m+1:Nat):Int):=aa
       have hix3:m<m+1:=aa
       have hix0:(0:Int)<=(m:Int):=aa
       have c1:Tryz.prog.cellsOf 9=1:=ca
       have I:¬((m:Int)<0):=aa
       have hd0:decide ((m:Int)<0)=false:=da
       have hcx5:=fun o=>(((Below.refl wr.heap.size wr).alloc (la _) o).cell (p:=⟨gsZ,m,none⟩) hgsl).trans hcx
       have hcx6:=fun o d os=>cell_regrown (hcx5 o) d os
       have hty:(wr.alloc (.cells #[.int .u8 99,.string (S t.name),.string (S t.text),.slice a3 n3 cp3,.int .i64 (t.fr:Nat),.int .i64 (t.to:Nat)] 190)).cell? ⟨wr.heap.size,1,none⟩=some (.string (S t.name)):=da
       have hty2:=fun d os=>cell_regrown hty d os
       have W:=Lib.hid hx2;have HX3:=Lib.hid hx3;have HMZ:=Lib.hid T;rw[T];rw[T]at hnc;clear B hx1 hx2 hx3 F htk;by_cases hxZ:x=t.name
       ·have H:Ii t op=some (op.take m):=by rw[rz J.out,W.out,hxZ,if_pos rfl,HX3.out]
        have HCP:=Lib.hid H;clear H;subst hxZ;clear T;go_wp2
        (refine wp_region_quiet_below ca ca ?_;(repeat (first|go_big_quiet_skip|(go_big_quiet_want;go_big_quiet_op;first|go_big_quiet_on|(apply Exists.intro;refine⟨fun _=>?_,?_⟩;(· (fail));go_big_quiet_on))));refine wpQuiet_nil ?_;intro _ C;obtain⟨⟨dq,osq⟩,l⟩:=C;subst l)
        go_wp2
        all_goals
         refine⟨⟨k+1,op.take m,by go_num,ea,ia,?_,(c.alloc q _).trans ((below_regrown _ _ _).mono Sa),Lib.hid (D.out.trans (Tq U.out HCP.out))⟩,by grind [intOf]⟩;have hlZ:(op.take m).length=m:=by rw[Ac,HMZ.out];omega
         rw[hlZ];exact c8 ((d8 HMZ.out V.out).alloc _) (below_regrown _ _ _)
       ·have H:Ii t op=none:=by rw[rz J.out,W.out,if_neg (fun h=>hxZ ia)]
        have N:=Lib.hid (show false=b by grind [Hid.out,xz]);clear H T;have ra:((S x).toList==(S t.name).toList)=false:=by
         rw[px,px];exact beq_false_of_ne hxZ
        go_wp2
        (refine wp_region_quiet_below ca ca ?_;(repeat (first|go_big_quiet_skip|(go_big_quiet_want;go_big_quiet_op;first|go_big_quiet_on|(apply Exists.intro;refine⟨fun _=>?_,?_⟩;(· (fail));go_big_quiet_on))));refine wpQuiet_nil ?_;intro _ C;obtain⟨⟨dq,osq⟩,l⟩:=C;subst l)
        go_wp2
        all_goals (go_ret;exact⟨congrArg (fun x=>Ending.returned (Value.bool x)) N.out,(c.alloc q _).trans ((below_regrown _ _ _).mono Sa)⟩)
     ·have e1:((n:Int)==111)=false:=Sa
      have e9Z:((n:Int)==99)=false:=Sa
      go_wp2
      all_goals
       exact⟨⟨k+1,op,by go_num,ea,X,r.out.alloc _,c.alloc q _,Lib.hid (D.out.trans (Tq U.out (sz (fun h=>R (J.out.symm.trans h.1)) (fun h=>Y (J.out.symm.trans h)))))⟩,by grind [intOf]⟩
  ·obtain rfl:k=L.length:=aa
   have j:nl L ([],0)=some op:=by rw[D.out,h7]
   have l:b=decide (op=[]):=by rw[<-HBZ.out,j];simp
   rcases z.2 with⟨rfl,I⟩|⟨gsZ,Oa,cur,rfl,hgs,F,hnc,hcm,hcsz,htk⟩
   ·have A:=qz I
    subst A;have q:=Lib.hid (show true=b by grind);clear l j;go_wp2
    all_goals (go_ret;exact⟨congrArg (fun x=>Ending.returned (Value.bool x)) q.out,c⟩)
   ·have h2Z:((op.length:Int)==0)=b:=by
     rw[l];by_cases A:op=[]
     ·grind
     ·simp[A]
    have q:=Lib.hid h2Z;clear h2Z l j;go_wp2
    all_goals (go_ret;exact⟨congrArg (fun x=>Ending.returned (Value.bool x)) q.out,c⟩)
end Go.Proofs.YtglaihdcndcmkaaGreatDoor
namespace wa
def GU{a b}(h:ib a=ib b):a=b:=by
 obtain⟨c,d,a3,a4⟩:=a;obtain⟨e,g,i,j⟩:=b;simp only[ib,It,PV.flat.injEq,Value.string.injEq,Value.int.injEq,true_and,and_true,aB,Kt]at h;obtain⟨rfl,rfl,rfl,rfl⟩:=h;rfl
theorem SI:∀{l c},qc l=qc c->l=c
 |[],[],_=>rfl
 |[],b::c,h=>by have:=congrArg List.length h;rw[Ff,Ff]at this;simp at this
 |a::l,[],h=>by have:=congrArg List.length h;rw[Ff,Ff]at this;simp at this
 |a::l,b::c,h=>by
  have d:=h;obtain⟨e,g⟩:=List.append_inj d rfl;rw[GU e,SI g]
def zcG{a b}(h:Aa a=Aa b):a=b:=by
 obtain⟨e,g,a3,a4,a5,i⟩:=a;obtain⟨j,k,l,n,o,b6⟩:=b;simp only[Aa,It,PV.flat.injEq,PV.ha.injEq,Value.string.injEq,Value.int.injEq,true_and,and_true,aB,Kt]at h;obtain⟨c,rfl,rfl,⟨_,d⟩,rfl,rfl⟩:=h;rw[Yb.1 c,SI d]
theorem PT:∀{l c},Kc l=Kc c->l=c
 |[],[],_=>rfl
 |[],b::c,h=>by have:=congrArg List.length h;rw[zf,zf]at this;simp at this
 |a::l,[],h=>by have:=congrArg List.length h;rw[zf,zf]at this;simp at this
 |a::l,b::c,h=>by
  have d:=h;obtain⟨e,g⟩:=List.append_inj d rfl;rw[zcG e,PT g]
open Classical in
noncomputable def Dv:Callee:=fun f args bx oc=>if h:f=162/\bx=[]/\oc=[]/\∃L:List Tok,L.length<=1000000000/\args=[.ha L.length (Kc L)]then some ([.flat (.bool (Mn (choose h.2.2.2)))],false,[],[])else none
def S6(L)(d:L.length<=1000000000):Dv 162 [.ha L.length (Kc L)] [] []=some ([.flat (.bool (Mn L))],false,[],[]):=by
 unfold Dv;have h:162=162/\([]:Ha)=[]/\([]:List Loc)=[]/\∃a:List Tok,a.length<=1000000000/\[PV.ha L.length (Kc L)]=[.ha a.length (Kc a)]:=⟨rfl,rfl,rfl,L,d,rfl⟩;rw[dif_pos h];have c:=(Classical.choose_spec h.2.2.2).2;obtain⟨a,b⟩:∃a,Classical.choose h.2.2.2=a:=⟨_,rfl⟩;rw[b]at c;rw[b];simp only[It,PV.ha.injEq,and_true]at c;rw[<-PT c.2]
def T6{Γ}:dc Tryz.prog Γ Dv:=by
 intro f args bx oc V os bx' oc' i;unfold Dv at i;split at i
 case isFalse=>cases i
 rename_i h;cases i;have F:=Classical.choose_spec h.2.2.2;obtain⟨L,B⟩:∃L,Classical.choose h.2.2.2=L:=⟨_,rfl⟩;rw[B]at F;rw[B];obtain⟨rfl,rfl,rfl,_⟩:=h;obtain⟨c,rfl⟩:=F;intro w Fr β vs J;refine enters_of ca ga ?_;have E:=J.args;simp only[sa]at E;obtain⟨v,r,rfl,K,rfl⟩:=E;simp only[Rd]at K;obtain⟨a,l,rfl,G,d⟩:=K;have Q:PI w a L:=by
  rcases d with⟨W,O⟩|⟨g,o,us,rfl,C,D,X⟩
  ·exact .inl (qz O)
  ·by_cases I:L=[]
   ·exact .inl I
   ·refine .inr ⟨g,o,rfl,?_,fun k t ht=>?_⟩
    ·obtain⟨t,b,rfl⟩:=List.exists_cons_of_ne_nil I
     obtain⟨v0,n,_⟩:=D.get 0 _ ja;exact Et w _ (C 0 v0 n).2
    ·have b:∀j p,(Aa t)[j]?=some p->∃v,w.cell? ⟨g,o+k* 6+j,none⟩=some v/\Rd w Fr β p v:=fun j p H=>by
      have T:=OT ht;have:(Kc L)[k* 6+j]?=some p:=by
       rw[<-Fj,T,Hk (qg H).1,H]
      obtain⟨v,n,P⟩:=D.get _ _ this;exact⟨v,by rw[Dp];exact(C _ v n).2,P⟩
     obtain⟨v0,M,q⟩:=b 0 _ rfl;obtain⟨Y,c1,u⟩:=b 1 _ rfl;obtain⟨Z,c2,x⟩:=b 2 _ rfl;obtain⟨v3,c3,y⟩:=b 3 _ rfl;obtain⟨v4,c4,z⟩:=b 4 _ rfl;obtain⟨v5,c5,A⟩:=b 5 _ rfl;simp only[Rd]at q u x y z A;obtain⟨rfl,_⟩:=q;obtain⟨rfl,_⟩:=u;obtain⟨rfl,_⟩:=x;obtain⟨a3,N,rfl,_⟩:=y;obtain⟨rfl,_⟩:=z;obtain⟨rfl,_⟩:=A;exact⟨_,_,_,M,c1,c2,c3,c4,c5⟩
 refine(X6 L a l w Q c _ rfl).mono ?_;rintro e w' ⟨rfl,S⟩;obtain⟨R,U⟩:=J.rel.grow S (Fr':=Fr) fun _ _=>rfl
 exact⟨_,Fr,β,rfl,by simp[Nc,Rd,Ab],R,U,(fun L h=>by cases h),fun h=>by cases h⟩
end wa
section
set_option synthInstance.maxSize 4000
namespace wa
def Cv(l:List Nat):List Value:=l.map fun(n:Nat)=>.int .i64 (n:Int)
theorem R6(l)(n):Cv (l++[n])=Cv l++[.int .i64 n]:=by simp[Cv]
def qh(B:Nat)(e:TypeId)(v:Value)(l:List Nat)(w:World):Prop:=w.ownsRow B e 1 v l.length (Cv l)
def qh.kept{B}{e}{v}{l}{w w'}(h:qh B e v l w)(k:Below w.heap.size w w'):qh B e v l w':=
 Ot (row:=none) h ⟨k.os,k.tape,k.output,k.size,fun i a _=>k.block i a⟩ ia
def qh.made{B}{e}(w:World)(b:B<=w.heap.size)(a)(cs)(d:cs.size=a)(c:a<=maxLen):qh B e (.slice (some ⟨w.heap.size,0,none⟩) 0 a) [] (w.alloc (.cells cs e)):=
 Fw (size:=1) w cs a b c aa
def pushn{P}{ops}{rest}{o}{a}{Q}(d:o.guard=none)(s x)(t)
 (A:o.op=.call {callee:=.builtin .append,args:=#[s,x],argTypes:=#[t,t]})
 (e) (ht:P.underlying t=some (.slice e)) (y:(P.info? e).map (fun i=>(i.zero,i.size,i.bytes))=some (some (.int .i64 0),1,8))
 (B) (w) (v) (l) (hs:a.eval s=v) (b:qh B e v l w) (m:Int) (c:Nat) (z:m=c)
 (C:a.eval x=.slice (some ⟨w.heap.size,0,none⟩) 1 1) (j:(l.length+1)* 8<=140737488355328) (u:B<=w.heap.size)
 (h:∀k w',qh B e k (l++[c]) w'->w.grownBy w' v.ownBlock->Below B w w'->w.heap.size<w'.heap.size->wpList P ops Q rest (a.put o.dst k) w'):
 wpList P ops Q (o::rest) a (w.alloc (.cells #[.int .i64 m] e)):=by
 subst z
 exact Am d s x t A e (.int .i64 0) 1 8 ht y rfl ga B w v _ _ hs b [.int .i64 c] rfl (by simp[Value.oneCell']) C aa aa u
  fun g n w' D E p q r=>h _ w' (by grind [qh,R6]) p q r
def ef(c:UInt8):List Nat:=[c.toNat/128 % 2,c.toNat/64 % 2,c.toNat/32 % 2,c.toNat/16 % 2,c.toNat/8 % 2,c.toNat/4 % 2,c.toNat/2 % 2,c.toNat % 2]
def Ce(l:List UInt8):List Nat:=l.flatMap ef
def mV(l)(c):Ce (l++[c])=Ce l++ef c:=by grind [Ce]
def MJ(l):(Ce l).length=8* l.length:=by
 induction l with
 |nil=>rfl
 |cons c l a=>show(ef c++Ce l).length=_;rw[Ja,a];simp[ef];omega
def ZA(v:Value)(l:List Nat)(w:World):Prop:=∃g o a,v=.slice (some ⟨g,o,none⟩) l.length a/\l.length<=a/\g<w.heap.size/\∀(j x:Nat),l[j]?=some x->w.cell? ⟨g,o+j,none⟩=some (.int .i64 x)
def ZA.kept{v}{l}{w w'}(h:ZA v l w)(k:Below w.heap.size w w'):ZA v l w':=by
 obtain⟨g,o,a,rfl,c,b,hr⟩:=h;exact⟨g,o,a,rfl,c,Qf b k.size,fun j x d=>(k.cell (p:=⟨g,o+j,none⟩) b).trans (hr j x d)⟩
def mf(l:List Nat):Nat->Nat
 |0=>0
 |i+1=>2* mf l i+(l[i]?).getD 0
def kV(c)(j)(h:j<8):(ef c).take (j+1)=(ef c).take j++[(ef c).getD j 0]:=by
 rw[Km (by simpa[ef]using h)];grind
end wa
namespace Go.Proofs.YtglaihdcndcmkaaGreatDoor
def bP:(Tryz.prog.info? 3).map (fun i=>(i.zero,i.size,i.bytes))=some (some (.int .i64 0),1,8):=ca
def sV(s)(w)(hs:s.size<=1000000):Calls Tryz.prog 239 #[.string s] w fun e w'=>∃v,e=.returned v/\qh w.heap.size 3 v (Ce s.data.toList) w'/\Below w.heap.size w w':=by
 have l:s.data.toList.length=s.size:=rfl;have F:=Lib.hid l;clear l
 go_enter Tryz.func239,Tryz.ntmps239
 go_wp2
 go_loopw [3,4,5] (fun v i _ wr=>∃(k:Nat),k<=s.size/\i=.int .i64 k/\qh w.heap.size 3 v (Ce (s.data.toList.take k)) wr/\Below w.heap.size w wr)
  (fun _ i _ _=>s.size - (intOf i).toNat)
 case atStart=>exact⟨0,Za _,rfl,qh.made w (la _) _ _ rfl ga,(Below.refl _ _).alloc (la _) _⟩
 case round=>
  obtain⟨k,H,rfl,d,a⟩:=hrel;have C:(Ce (s.data.toList.take k)).length<=8* k:=by rw[MJ,Ac];omega
  by_cases ea:k<s.size
  ·have r:Ce (s.data.toList.take (k+1))=Ce (s.data.toList.take k)++ef s[k]:=by
    rw[uw _ _ (by grind [Hid.out]),mV];rfl
   generalize Ce (s.data.toList.take k)=h at*;have B:=Lib.hid r;clear r;have D:=s[k].toNat_lt;go_wp2
   go_loopw [3,5] (fun v q jg=>∃(j:Nat),j<=8/\q=.int .i64 ((128/2^j:Nat):Int)/\qh w.heap.size 3 v (h++(ef s[k]).take j) jg/\Below w.heap.size w jg)
    (fun _ q _=>(intOf q).toNat)
   case atStart=>exact⟨0,aa,rfl,by simpa using d,a⟩
   case round=>
    clear d a;obtain⟨j,G,rfl,d,a⟩:=hrel;by_cases u:j<8
    ·obtain⟨b,t⟩:∃b,(ef s[k]).getD j 0=b:=⟨_,rfl⟩
     have o:=kV s[k] j u;rw[t]at o;have p:=Lib.hid (show h++(ef s[k]).take (j+1)=h++(ef s[k]).take j++[b] by rw[o,sf]);clear o;have y:((h++(ef s[k]).take j).length+1)* 8<=140737488355328:=by
      rw[Ja,Ac];omega
     have A:=Lib.hid t;clear t;have x:=Lib.hid y;clear y;obtain rfl|rfl|rfl|rfl|rfl|rfl|rfl|rfl:j=0\/j=1\/j=2\/j=3\/j=4\/j=5\/j=6\/j=7:=aa
     all_goals
      go_wp2_with(at_builtin;refine pushn ja _ _ _ ja 3 Tryz.underlying151 bP w.heap.size wr _ _ ja d _ b (by rw[<-A.out];simp[ef]) ja x.out a.size ?_;intro I J n E g z)
      go_roundw
      case rel=>
       have c:=n;rw[<-p.out]at c
       first|exact⟨1,aa,by go_num,c,a.trans g⟩|exact⟨2,aa,by go_num,c,a.trans g⟩|exact⟨3,aa,by go_num,c,a.trans g⟩|exact⟨4,aa,by go_num,c,a.trans g⟩|exact⟨5,aa,by go_num,c,a.trans g⟩|exact⟨6,aa,by go_num,c,a.trans g⟩|exact⟨7,aa,by go_num,c,a.trans g⟩|exact⟨8,aa,by go_num,c,a.trans g⟩
      case measure=>simp[intOf]
    ·obtain rfl:j=8:=aa
     have c:h++(ef s[k]).take 8=Ce (s.data.toList.take (k+1)):=by rw[B.out];rfl
     rw[c]at d;clear c;go_wp2;go_roundw
     case rel=>exact⟨k+1,aa,by go_num,d,a⟩
     case measure=>simp[intOf];omega
  ·obtain rfl:k=s.size:=aa
   rw[Rf da]at d;go_wp2;go_ret;simp_all
end Go.Proofs.YtglaihdcndcmkaaGreatDoor
end
section
set_option synthInstance.maxSize 4000
namespace wa
def zat(l)(a:∀x∈l,x<=1)(i):mf l i<2^i:=by
 induction i with
 |zero=>simp[mf]
 |succ i b=>
  have:(l[i]?).getD 0<=1:=by
   rcases h:l[i]? with _|x
   ·simp
   ·exact a x (Ah h)
  grind [mf.eq_2]
def cT(l)(b:∀x∈l,x<=1)(i)(a:i<=6):mf l i<64:=Qf (zat l b i) (Jp (n:=2) ga a)
def Ee(l:List Nat):List UInt8:=if h:0<l.length then Pb (mf l 6)::Ee (l.drop 6)else[]
termination_by l.length
decreasing_by grind
def TC{l}(h:0<l.length):Ee l=Pb (mf l 6)::Ee (l.drop 6):=by rw[Ee,dif_pos h]
def UC:Ee []=[]:=by grind [Ee.eq_1]
def YY(n):∀l,l.length<=n->(Ee l).length<=l.length:=by
 induction n<;>grind [Ee.eq_1]
def lV(l):∀x∈Ce l,x<=1:=by
 intro x h;unfold Ce at h;obtain⟨c,_,a⟩:=List.mem_flatMap.1 h;simp[ef]at a;omega
def tj(l:List UInt8):List UInt8:=l++List.replicate ((4 - l.length % 4) % 4) 61
def PY:∀i:Fin 64,((⟨Wj.toArray⟩:ByteArray).extract i.1 (i.1+1)).data.toList=[Pb i.1]:=lc
end wa
namespace Go.Proofs.YtglaihdcndcmkaaGreatDoor
def nN(w):Calls Tryz.prog 238 #[] w (Rb (.string ⟨Wj.toArray⟩) w):=by
 go_enter Tryz.func238,Tryz.ntmps238
 go_wp2;go_ret;exact⟨rfl,rfl⟩
def mN(g o d n)(l)(q:n=l.length)(w)(hr:∀(j x:Nat),l[j]?=some x->w.cell? ⟨g,o+j,none⟩=some (.int .i64 x))(p:∀x∈l,x<=1)(D:n<=1000000000):
 Calls Tryz.prog 240 #[.slice (some ⟨g,o,none⟩) n d] w (Rb (.string ⟨#[Pb (mf l 6)]⟩) w):=by
 have r:=Lib.hid hr;clear hr;have c:=Lib.hid p;clear p;have B:=Lib.hid q;clear q;have b:=PY ⟨mf l 6,cT l c.out 6 ga⟩;have u:=Lib.hid b;clear b
 go_enter Tryz.func240,Tryz.ntmps240
 go_wp2
 go_loopw [3,4] (fun m i wr=>∃(k:Nat),k<=6/\i=.int .i64 k/\m=.int .i64 (mf l k)/\wr=w)
  (fun _ i _=>6 - (intOf i).toNat)
 case atStart=>exact⟨0,aa,rfl,rfl,rfl⟩
 case round=>
  obtain⟨k,y,rfl,rfl,rfl⟩:=hrel;have v:=cT l c.out k y;by_cases C:k<6
  ·by_cases z:k<n
   ·obtain⟨x,b⟩:∃x,l[k]?=some x:=⟨_,qe (by grind [Hid.out])⟩
    have h:=r.out k x b;have A:=c.out x (Ah b);have a:((mf l (k+1):Nat):Int)=2* mf l k+x:=by rw[mf,b];simp
    have t:=Lib.hid a;clear a b;go_wp2
    grind [Hid.out,intOf]
   ·have a:((mf l (k+1):Nat):Int)=2* mf l k:=by rw[mf,Ie (by grind [Hid.out])];simp
    have t:=Lib.hid a;clear a;go_wp2;go_roundw
    case rel=>grind [Hid.out]
    grind [intOf]
  ·obtain rfl:k=6:=aa
   have a:(ByteArray.mk Wj.toArray).size=64:=rfl
   go_wp2_with(go_at_call 238;refine(nN _).mono ?_;rintro e w' ⟨rfl,rfl⟩)
   go_ret;exact⟨r1 (vS u.out),rfl⟩
theorem yR{B}{e}{v}{l}{w}(h:qh B e v l w):(v=.slice none 0 0/\l=[])\/∃g a,v=.slice (some ⟨g,0,none⟩) l.length a/\l.length<=a/\∀(j x:Nat),l[j]?=some x->w.cell? ⟨g,0+j,none⟩=some (.int .i64 x):=by
 rcases h.2 with⟨o,i⟩|⟨g,a,b,rfl,k,n,c,_⟩
 ·grind
 ·refine .inr ⟨g,a,rfl,c,fun j x d=>?_⟩
  have:=World.ownsRow.cells h (g:=g) rfl j (.int .i64 x) (by simp[Cv,d])
  grind [Addr.add]
def IU(g o k):(⟨g,o,none⟩:Addr).add k=⟨g,o+k,none⟩:=by grind [Addr.add]
def BN(s)(w)(hs:s.size<=1000000):Calls Tryz.prog 177 #[.string s] w (ud (.string ⟨(tj (Ee (Ce s.data.toList))).toArray⟩) w):=by
 have A:(Ce s.data.toList).length=8* s.size:=MJ _;have z:=lV s.data.toList;have hds:=YY (8* s.size) (Ce s.data.toList) aa;have p:=sV s w hs;generalize Ce s.data.toList=L at*;have F:=Lib.hid p;have HBZ:=Lib.hid z;clear p z
 go_enter Tryz.func177,Tryz.ntmps177
 go_wp2_with(go_at_call 239;refine F.out.mono ?_;rintro e O ⟨v,rfl,C,I⟩)
 obtain⟨a0,n0,k,rfl,B,hc0,D⟩:∃a0 n0 k,v=.slice a0 n0 k/\n0=L.length/\n0<=k/\(n0=0\/∃g o,a0=some ⟨g,o,none⟩/\∀(j x:Nat),L[j]?=some x->O.cell? ⟨g,o+j,none⟩=some (.int .i64 x)):=by
  grind [yR]
 clear C;have Y:=Lib.hid D;clear D;have N:n0<=8000000:=aa
 have X:=Lib.hid B;clear B A
 go_loopw [3,4] (fun v t wr=>∃(M:List Nat)(c:List UInt8)(a:Option Addr)(n y:Nat),v=.slice a n y/\t=.string ⟨c.toArray⟩/\wr=O/\n=M.length/\n<=y/\c.length+n<=8000000/\Hid (∀x∈M,x<=1)/\Hid (Ee L=c++Ee M)/\Hid (n=0\/∃g o,a=some ⟨g,o,none⟩/\∀(j x:Nat),M[j]?=some x->O.cell? ⟨g,o+j,none⟩=some (.int .i64 x)))
  (fun v _ _=>match v with| .slice _ n _=>n|_=>0)
 case atStart=>grind [Hid.out]
 case round=>
  obtain⟨M,c,a,n,y,rfl,rfl,rfl,U,R,N,G,hdZ,hr⟩:=hrel;by_cases ea:0<n
  ·rcases hr.out with h|⟨g,o,rfl,q⟩
   ·omega
   have r:=TC (l:=M) aa;have T:min 6 ((n:Nat):Int)=((min 6 n:Nat):Int):=aa
   have Z:1<=min 6 n:=aa
   have hK2:min 6 n<=n:=aa
   have hK3:min 6 n<=6:=aa
   have H:min 6 n=6\/min 6 n=n:=aa
   have P:=Lib.hid U;clear U;generalize min 6 n=K at*;have E:=Lib.hid r;clear r hr;have d:=Lib.hid q;clear q;have Q:=IU g o K;have V:(ByteArray.mk c.toArray).size=c.length:=rfl;have W:(ByteArray.mk #[Pb (mf M 6)]).size=1:=rfl;by_cases J:y=K
   ·subst J
    go_wp2_with(go_at_call 240;refine(mN g o _ n M P.out _ d.out G.out aa).mono ?_;rintro e w' ⟨rfl,rfl⟩)
    grind [ByteArray.toList_data_append,Lib.hid,Hid.out]
   ·go_wp2_with(go_at_call 240;refine(mN g o _ n M P.out _ d.out G.out aa).mono ?_;rintro e w' ⟨rfl,rfl⟩)
    go_roundw
    case rel=>
     refine⟨M.drop 6,c++[Pb (mf M 6)],_,_,_,rfl,vS ja,trivial,?_,aa,?_,Lib.hid (fun x hxZ=>G.out x (List.mem_of_mem_drop hxZ)),Lib.hid (by grind [Hid.out]),Lib.hid ?_⟩
     ·grind [Hid.out]
     ·grind
     ·rcases H with h6Z|hKn
      ·refine .inr ⟨g,o+K,ja,fun j x S=>?_⟩
       rw[Fj]at S;have:=d.out _ _ S
       grind
      omega
    grind
  ·have H:M=[]:=qz aa
   have J:Ee L=c:=by rw[hdZ.out,H,UC];simp
   have P:=Lib.hid J;clear J;have r:tj (Ee L)=c++List.replicate ((4 - c.length % 4) % 4) 61:=by rw[P.out];rfl
   have S:=Lib.hid r;clear r;go_wp2
   go_loopw [4] (fun t jg=>∃(i:Nat)(u:ByteArray),i<=(4 - c.length % 4) % 4/\t=.string u/\u.size=c.length+i/\Hid (u.data.toList=c++List.replicate i 61)/\jg=wr)
    (fun t _=>match t with| .string b=>c.length+4 - b.size|_=>0)
   case atStart=>exact⟨0,_,aa,rfl,rfl,Lib.hid da,rfl⟩
   case round=>
    obtain⟨i,u,W,rfl,V,E,rfl⟩:=hrel;by_cases T:i<(4 - c.length % 4) % 4
    ·have ra:¬((c.length:Int)+i) % 4=0:=aa
     go_wp2;go_roundw
     case rel=>exact⟨i+1,_,aa,rfl,by rw[Tm,V];rfl,Lib.hid (by rw[Rm,E.out,List.replicate_succ',sf]),trivial⟩
     case measure=>
      have d:(ByteArray.mk #[61]).size=1:=rfl;simp only[Tm,d];omega
    ·have ra:((c.length:Int)+i) % 4=0:=aa
     have q:i=(4 - c.length % 4) % 4:=aa
     have d:u.data.toList=tj (Ee L):=by rw[E.out,S.out,q]
     have Q:=Lib.hid d;clear d q;go_wp2;go_ret;exact⟨r1 (vS Q.out),I⟩
end Go.Proofs.YtglaihdcndcmkaaGreatDoor
end
namespace wa
def fC:∀a:UInt8,32* (a.toNat/128 % 2)+16* (a.toNat/64 % 2)+8* (a.toNat/32 % 2)+4* (a.toNat/16 % 2)+2* (a.toNat/8 % 2)+a.toNat/4 % 2=a.toNat/4:=lc
def gC:∀a:UInt8,2* (a.toNat/2 % 2)+a.toNat % 2=a.toNat % 4:=aa
def NJ:∀a:UInt8,8* (a.toNat/128 % 2)+4* (a.toNat/64 % 2)+2* (a.toNat/32 % 2)+a.toNat/16 % 2=a.toNat/16:=lc
def OJ:∀a:UInt8,8* (a.toNat/8 % 2)+4* (a.toNat/4 % 2)+2* (a.toNat/2 % 2)+a.toNat % 2=a.toNat % 16:=aa
def qV:∀a:UInt8,2* (a.toNat/128 % 2)+a.toNat/64 % 2=a.toNat/64:=lc
def rV:∀a:UInt8,32* (a.toNat/32 % 2)+16* (a.toNat/16 % 2)+8* (a.toNat/8 % 2)+4* (a.toNat/4 % 2)+2* (a.toNat/2 % 2)+a.toNat % 2=a.toNat % 64:=aa
def dC(c)(l):Ce (c::l)=ef c++Ce l:=rfl
def Az(a b c)(l):num (a::b::c::l) 3=(a.toNat* 256+b.toNat)* 256+c.toNat:=by simp[num]
def zz(a b):num [a,b] 3=(a.toNat* 256+b.toNat)* 256:=by simp[num]
def yz(a):num [a] 3=a.toNat* 256* 256:=by simp[num]
def qq(a b c d e g)(l):Ee (a::b::c::d::e::g::l)=Pb (32* a+16* b+8* c+4* d+2* e+g)::Ee l:=by
 rw[TC da]
 grind [mf]
def XY(a b c)(l):Ee (Ce (a::b::c::l))=gd (a::b::c::l)++Ee (Ce l):=by
 have n:=a.toNat_lt;have o:=b.toNat_lt;have p:=c.toNat_lt;rw[dC,dC,dC];unfold ef;simp only[ub,Gb];rw[qq,qq,qq,qq];unfold gd;rw[if_neg da,if_neg da,Az];have d:((a.toNat* 256+b.toNat)* 256+c.toNat)/262144 % 64=a.toNat/4:=aa
 have e1:((a.toNat* 256+b.toNat)* 256+c.toNat)/4096 % 64=16* (a.toNat % 4)+b.toNat/16:=aa
 have e2:((a.toNat* 256+b.toNat)* 256+c.toNat)/64 % 64=4* (b.toNat % 16)+c.toNat/64:=aa
 have e3:((a.toNat* 256+b.toNat)* 256+c.toNat) % 64=c.toNat % 64:=aa
 rw[d,e1,e2,e3];have e:=fC a;have g:=gC a;have h:=NJ b;have i:=OJ b;have j:=qV c;have k:=rV c;simp only[ub,Gb,It];refine⟨by congr 1,by congr 1;omega,by congr 1;omega,by congr 1,trivial⟩
def oN(l)(h:0<l.length)(a:l.length<=6):Ee l=[Pb (mf l 6)]:=by
 rw[TC h,Ai a,UC]
def h8(x y)(h:x.length=4):tj (x++y)=x++tj y:=by
 grind [tj]
def zcz(a):tj (Ee (Ce [a]))=gd [a]:=by
 have g:=a.toNat_lt;have c:=fC a;have d:=gC a;show tj (Ee (ef a))=_;unfold ef;rw[qq,oN _ da da];have e:mf [a.toNat/2 % 2,a.toNat % 2] 6=16* (a.toNat % 4):=by simp[mf];omega
 rw[e,c];unfold gd;rw[if_pos da,if_pos da,yz];have b:a.toNat* 256* 256/262144 % 64=a.toNat/4:=aa
 have e1:a.toNat* 256* 256/4096 % 64=16* (a.toNat % 4):=aa
 rw[b,e1];rfl
def zcA(a b):tj (Ee (Ce [a,b]))=gd [a,b]:=by
 have k:=a.toNat_lt;have l:=b.toNat_lt;have g:=fC a;have h:=gC a;have i:=NJ b;have j:=OJ b;show tj (Ee (ef a++ef b))=_;unfold ef;simp only[ub,Gb];rw[qq,qq,oN _ da da];have e:mf [b.toNat/8 % 2,b.toNat/4 % 2,b.toNat/2 % 2,b.toNat % 2] 6=4* (b.toNat % 16):=by simp[mf];omega
 rw[e,g];unfold gd;rw[if_neg da,if_pos da,zz];have c:(a.toNat* 256+b.toNat)* 256/262144 % 64=a.toNat/4:=aa
 have e1:(a.toNat* 256+b.toNat)* 256/4096 % 64=16* (a.toNat % 4)+b.toNat/16:=aa
 have e2:(a.toNat* 256+b.toNat)* 256/64 % 64=4* (b.toNat % 16):=aa
 have d:32* (a.toNat/2 % 2)+16* (a.toNat % 2)+8* (b.toNat/128 % 2)+4* (b.toNat/64 % 2)+2* (b.toNat/32 % 2)+b.toNat/16 % 2=16* (a.toNat % 4)+b.toNat/16:=aa
 rw[c,e1,e2,d];rfl
def AN(n):∀l,l.length<=n->tj (Ee (Ce l))=rc l:=by
 induction n with
 |zero=>
  intro l h;have:l=[]:=qz aa;subst this;show tj (Ee [])=_;rw[UC];rfl
 |succ n d=>
  intro l h
  match l,h with
  |[],_=>grind
  |[a],_=>exact zcz a
  |[a,b],_=>exact zcA a b
  |a::b::c::l,h=>
   rw[XY,h8 _ _ rfl,d l ia,YC (a::b::c::l) da];rfl
def gG:List UInt8->Bool|[]=>false|d::_=>d !=10
def piece(c:UInt8)(t:List UInt8):List UInt8:=if qi c||((c==32||c==9)&&gG t)then[c]else 61::pair c
def XG(c)(t):0<(piece c t).length/\(piece c t).length<=3:=by grind [piece,pair]
def uc:Nat->List UInt8->List UInt8
 |_,[]=>[]
 |line,c::t=>if c=10 then 13::10::uc 0 t
  else if line+(piece c t).length>75 then[61,13,10]++(piece c t++uc (piece c t).length t)else piece c t++uc (line+(piece c t).length) t
def Mz{s:List UInt8}{k}(a)(h:qi s[k]=true\/((s[k]=32\/s[k]=9)/\∃h,s[k+1]≠10)):piece s[k] (s.drop (k+1))=[s[k]]:=by
 grind [piece,List.drop_eq_getElem_cons,gG]
def dt{s:List UInt8}{k}(a)(b:qi s[k]=false)(h:(s[k]≠32/\s[k]≠9)\/s.length<=k+1\/∃h,s[k+1]=10):piece s[k] (s.drop (k+1))=61::pair s[k]:=by
 grind [piece,gG,List.drop_eq_getElem_cons]
end wa
namespace Go.Proofs.YtglaihdcndcmkaaGreatDoor
set_option maxRecDepth 100000 in
def n9(s)(k:Nat)(w)(hs:s.size<=1000000000)(p):Calls Tryz.prog 131 #[.string s,.int .i64 k] w (ud (.string ⟨(piece s[k] (s.data.toList.drop (k+1))).toArray⟩) w):=by
 have E:=fun(w:World)(x:UInt8)=>mY (P:=Tryz.prog) Tryz.underlying99 Tryz.underlying5 Tryz.underlying9 w x
 have z:(pair s[k]).length<=2:=by simp[pair]
 generalize t:qi s[k]=v;have g:=Lib.hid t;clear t;cases v
 ·by_cases c:s[k]=32\/s[k]=9
  ·have q:∃b,((s[k].toNat:Int)==32)=b/\(b=false->((s[k].toNat:Int)==9)=true):=by
    refine⟨_,rfl,fun h=>?_⟩;rcases c with y|y
    ·simp_all
    ·simp_all
   obtain⟨b,u,n⟩:=q;by_cases r:k+1<s.size
   ·have A:(k:Int)<(s.size:Int) - 1:=aa
    have D:(k:Int)+1<(s.size:Int):=aa
    by_cases a:s[k+1]=10
    ·have i:=Lib.hid (show piece s[k] (s.data.toList.drop (k+1))=_ from dt (s:=s.data.toList) p g.out (.inr (.inr ⟨r,a⟩)))
     have B:((s[k+1].toNat:Int)==10)=true:=by rw[a];rfl
     have C:((s[k+1].toNat:Int) !=10)=false:=by rw[a];rfl
     clear a c;cases b
     all_goals (try replace n:=n rfl)
     all_goals
      go_enter Tryz.func131,Tryz.ntmps131
      go_wp2_with(first|(go_at_call 203;refine(Vn _ _ g.out _).mono ?_;rintro e l ⟨rfl,rfl⟩)|(go_at_call 204;refine(Jv _ _).mono ?_;rintro e l ⟨rfl,j⟩))
      go_ret;exact⟨by rw[i.out];exact r1 (vS (by simp[Rm];rfl)),(by repeat (first|assumption|exact Below.refl _ _|refine rx ?_ (by assumption)))⟩
    ·have i:=Lib.hid (show piece s[k] (s.data.toList.drop (k+1))=_ from Mz (s:=s.data.toList) p (.inr ⟨c,r,a⟩))
     have B:((s[k+1].toNat:Int)==10)=false:=by simp[<-Yb]at a⊢;omega
     have C:((s[k+1].toNat:Int) !=10)=true:=by simp[<-Yb]at a⊢;omega
     clear a c;cases b
     all_goals (try replace n:=n rfl)
     all_goals
      go_enter Tryz.func131,Tryz.ntmps131
      go_wp2_with(first|(go_at_call 203;refine(Vn _ _ g.out _).mono ?_;rintro e l ⟨rfl,rfl⟩)|(go_at_call 204;refine(Jv _ _).mono ?_;rintro e l ⟨rfl,j⟩))
      go_ret;exact⟨by rw[i.out];rfl,(Below.refl _ _).alloc (la _) _⟩
   ·have i:=Lib.hid (show piece s[k] (s.data.toList.drop (k+1))=_ from dt (s:=s.data.toList) p g.out (.inr (.inl ie)))
    have A:¬(k:Int)<(s.size:Int) - 1:=aa
    clear c;cases b
    all_goals (try replace n:=n rfl)
    all_goals
     go_enter Tryz.func131,Tryz.ntmps131
     go_wp2_with(first|(go_at_call 203;refine(Vn _ _ g.out _).mono ?_;rintro e l ⟨rfl,rfl⟩)|(go_at_call 204;refine(Jv _ _).mono ?_;rintro e l ⟨rfl,j⟩))
     go_ret;exact⟨by rw[i.out];exact r1 (vS (by simp[Rm];rfl)),(by repeat (first|assumption|exact Below.refl _ _|refine rx ?_ (by assumption)))⟩
  ·have d:=fun h=>c (.inl h)
   have o:=fun h=>c (.inr h)
   have i:=Lib.hid (show piece s[k] (s.data.toList.drop (k+1))=_ from dt (s:=s.data.toList) p g.out (.inl ⟨d,o⟩));have u:((s[k].toNat:Int)==32)=false:=by simp[<-Yb]at d⊢;omega
   have n:((s[k].toNat:Int)==9)=false:=by simp[<-Yb]at o⊢;omega
   clear c d o
   go_enter Tryz.func131,Tryz.ntmps131
   go_wp2_with(first|(go_at_call 203;refine(Vn _ _ g.out _).mono ?_;rintro e l ⟨rfl,rfl⟩)|(go_at_call 204;refine(Jv _ _).mono ?_;rintro e l ⟨rfl,j⟩))
   go_ret;exact⟨by rw[i.out];exact r1 (vS (by simp[Rm];rfl)),(by repeat (first|assumption|exact Below.refl _ _|refine rx ?_ (by assumption)))⟩
 ·have i:=Lib.hid (show piece s[k] (s.data.toList.drop (k+1))=_ from Mz (s:=s.data.toList) p (.inl g.out))
  by_cases d:s[k]=32
  ·have:=g.out;rw[d]at this;cases this
  ·by_cases o:s[k]=9
   ·have:=g.out;rw[o]at this;cases this
   ·have u:((s[k].toNat:Int)==32)=false:=by simp[<-Yb]at d⊢;omega
    have n:((s[k].toNat:Int)==9)=false:=by simp[<-Yb]at o⊢;omega
    clear d o
    go_enter Tryz.func131,Tryz.ntmps131
    go_wp2_with(first|(go_at_call 203;refine(Vn _ _ g.out _).mono ?_;rintro e l ⟨rfl,rfl⟩)|(go_at_call 204;refine(Jv _ _).mono ?_;rintro e l ⟨rfl,j⟩))
    go_ret;exact⟨by rw[i.out];rfl,(Below.refl _ _).alloc (la _) _⟩
end Go.Proofs.YtglaihdcndcmkaaGreatDoor
section
set_option synthInstance.maxSize 4000
namespace wa
def l_:Option (List UInt8)->Go.Value
 |none=>.tuple #[.string ⟨#[]⟩,.int .i64 7]
 |some l=>.tuple #[.string ⟨l.toArray⟩,.int .i64 0]
attribute [simp] l_
end wa
namespace Go.Proofs.YtglaihdcndcmkaaGreatDoor
end Go.Proofs.YtglaihdcndcmkaaGreatDoor
end
section
set_option synthInstance.maxSize 4000
namespace wa
def uw(s:List UInt8)(k)(h):s.take (k+1)=s.take k++[s[k]]:=by
 rw[Km h]
end wa
namespace Go.Proofs.YtglaihdcndcmkaaGreatDoor
end Go.Proofs.YtglaihdcndcmkaaGreatDoor
end
namespace wa
theorem wN{s:List UInt8}{k line}(a)(h:s[k]=10):uc line (s.drop k)=[13,10]++uc 0 (s.drop (k+1)):=by
 rw[ld a,uc,if_pos h];rfl
def yN{s:List UInt8}{k line}(a)(h:s[k]≠10){p}(c:piece s[k] (s.drop (k+1))=p)(b:line+p.length>75):uc line (s.drop k)=[61,13,10]++p++uc p.length (s.drop (k+1)):=by
 rw[ld a,uc,if_neg h,c,if_pos b];simp
def xN{s:List UInt8}{k line}(a)(h:s[k]≠10){p}(c:piece s[k] (s.drop (k+1))=p)(b:¬line+p.length>75):uc line (s.drop k)=p++uc (line+p.length) (s.drop (k+1)):=by
 rw[ld a,uc,if_neg h,c,if_neg b]
end wa
namespace Go.Proofs.YtglaihdcndcmkaaGreatDoor
def MR(s)(k:Nat)(p)(w)(hs:s.size<=1000000000)(a)(h:piece s[k] (s.data.toList.drop (k+1))=p):Calls Tryz.prog 131 #[.string s,.int .i64 k] w (ud (.string ⟨p.toArray⟩) w):=h▸n9 s k w hs a
set_option maxRecDepth 100000 in
def xZ(s)(w)(hs:s.size<=1000000):Calls Tryz.prog 67 #[.string s] w (ud (.string ⟨(uc 0 s.data.toList).toArray⟩) w):=by
 go_enter Tryz.func67,Tryz.ntmps67
 go_wp2
 go_loopw [3,4,5,6] (fun v l i _ wr=>∃(k line:Nat)(b:List UInt8),k<=s.size/\line<=75/\i=.int .i64 k/\l=.int .i64 line/\v=.string ⟨b.toArray⟩/\b.length<=6* k/\Below w.heap.size w wr/\Hid (uc 0 s.data.toList=b++uc line (s.data.toList.drop k)))
  (fun _ _ i _ _=>s.size - (intOf i).toNat)
 case atStart=>exact⟨0,0,[],Za _,aa,rfl,rfl,rfl,da,Below.refl _ _,Lib.hid da⟩
 case round=>
  obtain⟨k,line,b,B,o,rfl,rfl,rfl,t,c,a⟩:=hrel;by_cases ea:k<s.size
  ·by_cases d:s[k]=10
   ·have h:=Lib.hid (a.out.trans (congrArg (b++·) (wN (s:=s.data.toList) (line:=line) ea d)))
    have y:((s[k].toNat:Int)==10)=true:=by rw[d];rfl
    clear d a;go_wp2;go_roundw
    case rel=>exact⟨k+1,0,b++[13,10],aa,aa,by go_num,rfl,vS (by simp[Rm]),Sa,c,Lib.hid (by rw[h.out];simp)⟩
    case measure=>simp[intOf];omega
   ·have y:((s[k].toNat:Int)==10)=false:=by simp[<-Yb]at d⊢;omega
    have j:=XG s[k] (s.data.toList.drop (k+1));generalize r:piece s[k] (s.data.toList.drop (k+1))=p at j;obtain⟨u,x⟩:=j;have n:=Lib.hid r;clear r;by_cases q:line+p.length>75
    ·have h:=Lib.hid (a.out.trans (congrArg (b++·) (yN (s:=s.data.toList) (line:=line) ea d n.out q)))
     clear d a;have z:(75:Int)<(line:Int)+(p.length:Int):=aa
     go_wp2_with(go_at_call 131;refine(MR _ _ _ _ aa ea n.out).mono ?_;rintro e A ⟨rfl,g⟩)
     go_roundw
     case rel=>exact⟨k+1,p.length,b++([61,13,10]++p),aa,aa,by go_num,da,vS (by simp[Rm]),Sa,c.trans (g.mono c.size),Lib.hid (by rw[h.out];simp)⟩
     case measure=>simp[intOf];omega
    ·have h:=Lib.hid (a.out.trans (congrArg (b++·) (xN (s:=s.data.toList) (line:=line) ea d n.out q)))
     clear d a;have z:¬(75:Int)<(line:Int)+(p.length:Int):=aa
     go_wp2_with(go_at_call 131;refine(MR _ _ _ _ aa ea n.out).mono ?_;rintro e A ⟨rfl,g⟩)
     go_roundw
     case rel=>exact⟨k+1,line+p.length,b++p,aa,aa,by go_num,da,vS (by simp[Rm]),Sa,c.trans (g.mono c.size),Lib.hid (by rw[h.out];simp)⟩
     case measure=>simp[intOf];omega
  ·obtain rfl:k=s.size:=aa
   go_wp2;go_ret;exact⟨r1 (vs (by rw[a.out,show s.data.toList.drop s.size=[]from Ai (la _)];simp[uc])),c⟩
end Go.Proofs.YtglaihdcndcmkaaGreatDoor
namespace wa
def hh(s:List UInt8)(k:Nat):List UInt8:=match s[k]? with|none=>[]|some c=>if c=10 then[]else piece c (s.drop (k+1))
abbrev Ug:={p:ByteArray//p.size<=3}
def Ug.bytes(p:Ug):List UInt8:=p.1.data.toList
end wa
namespace Go.Proofs.YtglaihdcndcmkaaGreatDoor
attribute [local go_sem] Oper.semAt_some
set_option maxRecDepth 100000 in
def s9(n:Nat)(hnZ:1<=n)(s)(hs:s.size<=1000000)(P:Nat)(w)(L:Boxed w P 9 (.string s)):
 SeqStopsK Fence.wide n Tryz.prog 233 #[.pointer (some ⟨P,0,none⟩)] (fun p:Ug=>#[.string p.1]) (Wm P)
  (fun xs=>xs.map Ug.bytes=(List.range s.size).map (hh s.data.toList)) (fun _=>True) s.size w:=fun l J c W hWZ N a O Z=>by
 have D:Boxed W P 9 (.string s):=(hWZ.block _ L.lt).trans L;have hc0:=D.cell;have V:=Lib.hid D;clear D;refine callsIn_of_wp Tryz.func233 rfl trivial ?_ rfl;simp only[Tryz.ntmps233,Ut,za,ya,Nat.reduceAdd,Nat.reduceSub,Vt,Wt,Xt,Yt,Gb,ub]
 gi_wp2
 gi_loopw [8] (fun v wr=>∃(k:Nat)(pre:List Ug),v=.int .i64 k/\k<=s.size/\Hid (pre.map Ug.bytes=(List.range k).map (hh s.data.toList))/\Hid (J pre wr)/\Hid (Boxed wr P 9 (.string s)))
  (fun v _=>s.size - (intOf v).toNat)
 case atStart=>exact⟨0,[],rfl,Za _,Lib.hid rfl,Lib.hid Z,V⟩
 case round=>
  obtain⟨k,pre,rfl,hkZ,d,u,r⟩:=hrel;replace u:=u.out;replace r:=r.out;have hc2:=r.cell;have A:=r.lt;have T:pre.length=k:=by have:=congrArg List.length d.out;simpa using this
  by_cases ea:k<s.size
  ·have hpl:(pair s[k]).length<=2:=by simp[pair]
   have F:s.data.toList[k]?=some s[k]:=by rw[qe (show k<s.data.toList.length from ea)];rfl
   by_cases G:s[k]=10
   ·have B:=Lib.hid (show hh s.data.toList k=[] by grind [hh])
    have q0Z:((s[k].toNat:Int)==10)=true:=by rw[G];rfl
    clear F G
    gi_wp2_with (first|(refine⟨trivial,?_⟩;gi_at_call 234;refine(callsIn_wide.2 (ct _ _)).mono ?_;rintro e I ⟨rfl,c⟩;have g:=yo N u c;have a:=(c.block _ A).trans r;have E:=Boxed.cell a;obtain⟨fn,tmps,assign,body,H,C⟩:=O pre ⟨⟨#[]⟩,ga⟩ I g aa;dsimp only at H)|(refine⟨trivial,?_⟩;gi_at_call 214;refine(callsIn_wide.2 (zm _ _ K.out _)).mono ?_;rintro e S ⟨rfl,rfl⟩))
    refine C.mono ?_;rintro e Q (⟨rfl,i,j⟩|⟨rfl,o⟩)
    ·gi_wp2
     go_roundw
     case rel=>exact⟨k+1,pre++[⟨⟨#[]⟩,ga⟩],by go_num,aa,Lib.hid (by rw[gg,d.out,nr,gg,ig,ig,B.out];rfl),Lib.hid i,Lib.hid (Eq.trans j a)⟩
     grind [intOf]
    ·gi_wp2
     refine bodyPost_ret (results_none rfl _ _ _) rfl ?_;exact⟨⟨_,rfl⟩,.inr ⟨_,trivial,o⟩⟩
   ·have t:hh s.data.toList k=piece s[k] (s.data.toList.drop (k+1)):=by unfold hh;rw[F];simp[G]
    have q0Z:((s[k].toNat:Int)==10)=false:=by simp[<-Yb]at G⊢;omega
    clear F G;generalize U:qi s[k]=X;have K:=Lib.hid U;clear U;cases X
    ·by_cases y:s[k]=32\/s[k]=9
     ·have q:∃b,((s[k].toNat:Int)==32)=b/\(b=false->((s[k].toNat:Int)==9)=true):=by
       refine⟨_,rfl,fun h=>?_⟩;rcases y with Y|Y
       ·simp_all
       ·simp_all
      obtain⟨b,q1Z,M⟩:=q;by_cases R:k+1<s.size
      ·have i2Z:(k:Int)+1<(s.size:Int):=aa
       by_cases x:s[k+1]=10
       ·have B:=Lib.hid (t.trans (dt (s:=s.data.toList) ea K.out (.inr (.inr ⟨R,x⟩))))
        have q3Z:((s[k+1].toNat:Int)==10)=true:=by rw[x];rfl
        have q4Z:((s[k+1].toNat:Int) !=10)=false:=by rw[x];rfl
        clear x y t;cases b
        all_goals (try replace M:=M rfl)
        all_goals
         gi_wp2_with (first|(refine⟨trivial,?_⟩;gi_at_call 234;refine(callsIn_wide.2 (ct _ _)).mono ?_;rintro e I ⟨rfl,c⟩;have g:=yo N u c;have a:=(c.block _ A).trans r;have E:=Boxed.cell a;obtain⟨fn,tmps,assign,body,H,C⟩:=O pre ⟨⟨#[61]⟩++⟨(pair s[k]).toArray⟩,by simp[Tm,tm,pair]⟩ I g aa;dsimp only at H)|(refine⟨trivial,?_⟩;gi_at_call 214;refine(callsIn_wide.2 (zm _ _ K.out _)).mono ?_;rintro e S ⟨rfl,rfl⟩))
         refine C.mono ?_;rintro e Q (⟨rfl,i,j⟩|⟨rfl,o⟩)
         ·gi_wp2
          go_roundw
          case rel=>exact⟨k+1,pre++[⟨⟨#[61]⟩++⟨(pair s[k]).toArray⟩,by simp[Tm,tm,pair]⟩],by go_num,aa,Lib.hid (by rw[gg,d.out,nr,gg,ig,ig,B.out];exact congrArg (fun z=>List.map (hh s.data.toList) (List.range k)++[z]) ((Rm).trans rfl)),Lib.hid i,Lib.hid (Eq.trans j a)⟩
          case measure=>simp[intOf];omega
         ·gi_wp2
          refine bodyPost_ret (results_none rfl _ _ _) rfl ?_;exact⟨⟨_,rfl⟩,.inr ⟨_,trivial,o⟩⟩
       ·have B:=Lib.hid (t.trans (Mz (s:=s.data.toList) ea (.inr ⟨y,R,x⟩)))
        have q3Z:((s[k+1].toNat:Int)==10)=false:=by simp[<-Yb]at x⊢;omega
        have q4Z:((s[k+1].toNat:Int) !=10)=true:=by simp[<-Yb]at x⊢;omega
        clear x y t;cases b
        all_goals (try replace M:=M rfl)
        all_goals
         gi_wp2_with (first|(refine⟨trivial,?_⟩;gi_at_call 234;refine(callsIn_wide.2 (ct _ _)).mono ?_;rintro e I ⟨rfl,c⟩;have g:=yo N u c;have a:=(c.block _ A).trans r;have E:=Boxed.cell a;obtain⟨fn,tmps,assign,body,H,C⟩:=O pre ⟨s.extract k (k+1),by simp[Kj];omega⟩ I g aa;dsimp only at H)|(refine⟨trivial,?_⟩;gi_at_call 214;refine(callsIn_wide.2 (zm _ _ K.out _)).mono ?_;rintro e S ⟨rfl,rfl⟩))
         refine C.mono ?_;rintro e Q (⟨rfl,i,j⟩|⟨rfl,o⟩)
         ·gi_wp2
          go_roundw
          case rel=>exact⟨k+1,pre++[⟨s.extract k (k+1),ia⟩],by go_num,aa,Lib.hid (by rw[gg,d.out,nr,gg,ig,ig,B.out];exact congrArg (fun z=>List.map (hh s.data.toList) (List.range k)++[z]) ((ext1 s k ea).trans rfl)),Lib.hid i,Lib.hid (Eq.trans j a)⟩
          case measure=>simp[intOf];omega
         ·gi_wp2
          refine bodyPost_ret (results_none rfl _ _ _) rfl ?_;exact⟨⟨_,rfl⟩,.inr ⟨_,trivial,o⟩⟩
      ·have B:=Lib.hid (t.trans (dt (s:=s.data.toList) ea K.out (.inr (.inl ie))))
       have x:¬(k:Int)+1<(s.size:Int):=aa
       clear y t;cases b
       all_goals (try replace M:=M rfl)
       all_goals
        gi_wp2_with (first|(refine⟨trivial,?_⟩;gi_at_call 234;refine(callsIn_wide.2 (ct _ _)).mono ?_;rintro e I ⟨rfl,c⟩;have g:=yo N u c;have a:=(c.block _ A).trans r;have E:=Boxed.cell a;obtain⟨fn,tmps,assign,body,H,C⟩:=O pre ⟨⟨#[61]⟩++⟨(pair s[k]).toArray⟩,by simp[Tm,tm,pair]⟩ I g aa;dsimp only at H)|(refine⟨trivial,?_⟩;gi_at_call 214;refine(callsIn_wide.2 (zm _ _ K.out _)).mono ?_;rintro e S ⟨rfl,rfl⟩))
        refine C.mono ?_;rintro e Q (⟨rfl,i,j⟩|⟨rfl,o⟩)
        ·gi_wp2
         go_roundw
         case rel=>exact⟨k+1,pre++[⟨⟨#[61]⟩++⟨(pair s[k]).toArray⟩,by simp[Tm,tm,pair]⟩],by go_num,aa,Lib.hid (by rw[gg,d.out,nr,gg,ig,ig,B.out];exact congrArg (fun z=>List.map (hh s.data.toList) (List.range k)++[z]) ((Rm).trans rfl)),Lib.hid i,Lib.hid (Eq.trans j a)⟩
         case measure=>simp[intOf];omega
        ·gi_wp2
         refine bodyPost_ret (results_none rfl _ _ _) rfl ?_;exact⟨⟨_,rfl⟩,.inr ⟨_,trivial,o⟩⟩
     ·have x:¬s[k]=32:=fun h=>y (.inl h)
      have R:¬s[k]=9:=fun h=>y (.inr h)
      have B:=Lib.hid (t.trans (dt (s:=s.data.toList) ea K.out (.inl ⟨x,R⟩)));have q1Z:((s[k].toNat:Int)==32)=false:=by simp[<-Yb]at x⊢;omega
      have M:((s[k].toNat:Int)==9)=false:=by simp[<-Yb]at R⊢;omega
      clear y x R t
      gi_wp2_with (first|(refine⟨trivial,?_⟩;gi_at_call 234;refine(callsIn_wide.2 (ct _ _)).mono ?_;rintro e I ⟨rfl,c⟩;have g:=yo N u c;have a:=(c.block _ A).trans r;have E:=Boxed.cell a;obtain⟨fn,tmps,assign,body,H,C⟩:=O pre ⟨⟨#[61]⟩++⟨(pair s[k]).toArray⟩,by simp[Tm,tm,pair]⟩ I g aa;dsimp only at H)|(refine⟨trivial,?_⟩;gi_at_call 214;refine(callsIn_wide.2 (zm _ _ K.out _)).mono ?_;rintro e S ⟨rfl,rfl⟩))
      refine C.mono ?_;rintro e Q (⟨rfl,i,j⟩|⟨rfl,o⟩)
      ·gi_wp2
       go_roundw
       case rel=>exact⟨k+1,pre++[⟨⟨#[61]⟩++⟨(pair s[k]).toArray⟩,by simp[Tm,tm,pair]⟩],by go_num,aa,Lib.hid (by rw[gg,d.out,nr,gg,ig,ig,B.out];exact congrArg (fun z=>List.map (hh s.data.toList) (List.range k)++[z]) ((Rm).trans rfl)),Lib.hid i,Lib.hid (Eq.trans j a)⟩
       grind [intOf]
      ·gi_wp2
       refine bodyPost_ret (results_none rfl _ _ _) rfl ?_;exact⟨⟨_,rfl⟩,.inr ⟨_,trivial,o⟩⟩
    ·have B:=Lib.hid (t.trans (Mz (s:=s.data.toList) ea (.inl K.out)))
     clear t
     gi_wp2_with (first|(refine⟨trivial,?_⟩;gi_at_call 234;refine(callsIn_wide.2 (ct _ _)).mono ?_;rintro e I ⟨rfl,c⟩;have g:=yo N u c;have a:=(c.block _ A).trans r;have E:=Boxed.cell a;obtain⟨fn,tmps,assign,body,H,C⟩:=O pre ⟨s.extract k (k+1),by simp[Kj];omega⟩ I g aa;dsimp only at H)|(refine⟨trivial,?_⟩;gi_at_call 214;refine(callsIn_wide.2 (zm _ _ K.out _)).mono ?_;rintro e S ⟨rfl,rfl⟩))
     refine C.mono ?_;rintro e Q (⟨rfl,i,j⟩|⟨rfl,o⟩)
     ·gi_wp2
      go_roundw
      case rel=>exact⟨k+1,pre++[⟨s.extract k (k+1),ia⟩],by go_num,aa,Lib.hid (by rw[gg,d.out,nr,gg,ig,ig,B.out];exact congrArg (fun z=>List.map (hh s.data.toList) (List.range k)++[z]) ((ext1 s k ea).trans rfl)),Lib.hid i,Lib.hid (Eq.trans j a)⟩
      case measure=>simp[intOf];omega
     ·gi_wp2
      refine bodyPost_ret (results_none rfl _ _ _) rfl ?_;exact⟨⟨_,rfl⟩,.inr ⟨_,trivial,o⟩⟩
  ·obtain rfl:k=s.size:=aa
   gi_wp2
   go_end0
   exact⟨⟨_,rfl⟩,.inl ⟨pre,d.out,u⟩⟩
end Go.Proofs.YtglaihdcndcmkaaGreatDoor
namespace wa
def ii(st:Nat×List UInt8)(p:List UInt8):Nat×List UInt8:=
 if p=[]then(0,st.2++[13,10])else if p.length<=75 - st.1 then(st.1+p.length,st.2++p)else(p.length,st.2++[61,13,10]++p)
def ah(ps:List (List UInt8)):Nat×List UInt8:=ps.foldl ii (0,[])
def KN(ps)(p):ah (ps++[p])=ii (ah ps) p:=by simp[ah]
def JZ{st}{p}{n}(a:p.length<=3)(h:st.1<=75/\st.2.length<=6* n):(ii st p).1<=75/\(ii st p).2.length<=6* (n+1):=by
 grind [ii]
def V0(ps:List Ug):∀(st)(n),(st.1<=75/\st.2.length<=6* n)->((ps.map Ug.bytes).foldl ii st).1<=75/\((ps.map Ug.bytes).foldl ii st).2.length<=6* (n+ps.length):=by
 induction ps with
 |nil=>simp
 |cons x l a=>
  intro st n h;have:=a (ii st x.bytes) (n+1) (JZ x.2 h)
  grind
def HZ(ps:List Ug):(ah (ps.map Ug.bytes)).1<=75/\(ah (ps.map Ug.bytes)).2.length<=6* ps.length:=by
 have:=V0 ps (0,[]) 0 da
 grind [ah]
theorem IZ(s):∀k,k<=s.length->uc 0 s=(ah ((List.range k).map (hh s))).2++uc (ah ((List.range k).map (hh s))).1 (s.drop k)/\(ah ((List.range k).map (hh s))).1<=75:=by
 intro k
 induction k with
 |zero=>grind [ah]
 |succ k h=>
  intro i;obtain⟨c,e⟩:=h aa;rw[nr,gg,ig,KN];generalize ah ((List.range k).map (hh s))=st at c e;have ea:k<s.length:=aa
  unfold hh;rw[qe ea];simp only;by_cases a:s[k]=10
  ·grind [ii,wN]
  ·rw[if_neg a]
   have g:=XG s[k] (s.drop (k+1));generalize b:piece s[k] (s.drop (k+1))=p at g;unfold ii;rw[if_neg ia];by_cases d:p.length<=75 - st.1
   ·rw[if_pos d,c,xN ea a b aa];grind
   ·rw[if_neg d,c,yN ea a b aa];grind
def GZ(s):(ah ((List.range s.length).map (hh s))).2=uc 0 s:=by
 grind [IZ,uc]
end wa
namespace Go.Proofs.YtglaihdcndcmkaaGreatDoor
attribute [local go_sem] Oper.semAt_some
def Bd.own{β}(B b)(f:β->List UInt8):Own (fun(s:β) W=>Bd B b (f s) W):=by
 intro s W t row h n hr;have q:∀p,Lib.BuilderAtF 101 5 B b p (Lib.byteCells (f s)) W->Lib.BuilderAtF 101 5 B b p (Lib.byteCells (f s)) t:=by
  rintro p ⟨u,v,j,a,ra⟩;have r:∀g o,W.heap[g]?=some o->o.isCells=true->some g≠row:=by
   intro g o k l e;obtain⟨x,i,d⟩:=hr g e.symm;rw[k]at i;cases i;rw[l]at d;cases d
  refine⟨u,v,(n.block b (xg.1 j).1 (r b _ j rfl)).trans j,a.kept n ?_,ra⟩;rcases w:v.ownBlock with _|g
  ·simp
  ·obtain⟨c,i,d⟩:=Lib.ownsRowF_kind a g w
   exact .inr (r g _ d rfl)
 rcases h with h|h
 ·exact .inl (q _ h)
 ·exact .inr (q _ h)
def Bd.set{B b k}{l}{w}{t}{v:Value}(j:Value)(h:Bd B b l w)(c:Boxed w k t v)(d:k≠b)(ht:t≠5):Bd B b l (w.setCell ⟨k,0,none⟩ j):=by
 have g:∀p,Lib.BuilderAtF 101 5 B b p (Lib.byteCells l) w->Lib.BuilderAtF 101 5 B b p (Lib.byteCells l) (w.setCell ⟨k,0,none⟩ j):=by
  rintro p ⟨n,v,o,a,ra⟩;exact⟨n,v,(Below.heap_setCell _ _ _ _ (fun e=>d e.symm)).trans o,a.kept (row:=some k) ⟨rfl,rfl,rfl,da,fun i _ q=>Below.heap_setCell _ _ _ _ (fun e=>q (by simp[e]))⟩ (.inr (Lib.ownBlock_neF a c ht)),ra⟩
 rcases h with h|h
 ·exact .inl (g _ h)
 ·exact .inr (g _ h)
def kn{e b k:Nat}{t}{v}{w w'}(h:Lib.OthersKept e (some b) w w')(d:Boxed w k t v)(a:k≠b)(ht:t≠e):Boxed w' k t v:=
 h k _ d (fun e=>a ia) (fun c g e=>by grind)
theorem Bd.isCells{B b}{l}{w}(h:Bd B b l w):∃o,w.heap[b]?=some o/\o.isCells=true:=by
 rcases h with⟨_,v,a,_⟩|⟨_,v,a,_⟩<;>exact⟨_,a,rfl⟩
def p9(s)(w):Calls Tryz.prog 165 #[.string s] w fun e w'=>e=.returned (.func (.func 233) #[] #[.pointer (some ⟨w.heap.size,0,none⟩)])/\w'=w.alloc (.cells #[.string s] 9):=by
 go_enter Tryz.func165,Tryz.ntmps165
 go_wp2;go_ret;simp
set_option maxRecDepth 100000 in
def wZ(s)(w)(hs:s.size<=1000000):Calls Tryz.prog 99 #[.string s] w (ud (.string ⟨(uc 0 s.data.toList).toArray⟩) w):=by
 refine(callsIn_wide (n:=3)).1 ?_;refine callsIn_of_wp_marks Tryz.func99 rfl trivial ?_ rfl;simp only[Tryz.ntmps99,Ut,za,ya,Nat.reduceAdd,Nat.reduceSub,Vt,Wt,Xt,Yt,Gb,ub]
 gi_wp2_with (refine⟨trivial,?_⟩;gi_at_call 165;refine(callsIn_wide.2 (p9 _ _)).mono ?_;rintro e w' ⟨rfl,rfl⟩)
 have hB0:Below w.heap.size w (((w.alloc (.cells #[.pointer none,.slice none 0 0] 101)).alloc (.cells #[.int .i64 0] 3)).alloc (.cells #[.string s] 9)):=(((Below.refl _ w).alloc (la _) _).alloc da _).alloc Sa _;have U:Bd w.heap.size w.heap.size [] (((w.alloc (.cells #[.pointer none,.slice none 0 0] 101)).alloc (.cells #[.int .i64 0] 3)).alloc (.cells #[.string s] 9)):=((Bd.fresh w).alloc _).alloc _;have hl0:Boxed (((w.alloc (.cells #[.pointer none,.slice none 0 0] 101)).alloc (.cells #[.int .i64 0] 3)).alloc (.cells #[.string s] 9)) (w.heap.size+1) 3 (.int .i64 0):=by
  have:=Boxed.new (w.alloc (.cells #[.pointer none,.slice none 0 0] 101)) 3 (.int .i64 0);rw[Lm]at this;exact this.alloc _
 have X:Boxed (((w.alloc (.cells #[.pointer none,.slice none 0 0] 101)).alloc (.cells #[.int .i64 0] 3)).alloc (.cells #[.string s] 9)) (w.heap.size+1+1) 9 (.string s):=by
  have:=Boxed.new ((w.alloc (.cells #[.pointer none,.slice none 0 0] 101)).alloc (.cells #[.int .i64 0] 3)) 9 (.string s);rw[Lm,Lm]at this;exact this
 refine wpIn_rangeFunc_ownF rfl aa (gf:=233) (lb:=#[.pointer (some ⟨w.heap.size+1+1,0,none⟩)]) rfl trivial (enters_of Tryz.func233 ca rfl)
  (s9 _ aa s hs (w.heap.size+1+1) _ X) FF (DF da) (Below.refl _ _) (fun _=>rfl)
  (fun pre W=>(Bd w.heap.size w.heap.size (ah (pre.map Ug.bytes)).2 W/\Boxed W (w.heap.size+1) 3 (.int .i64 (ah (pre.map Ug.bytes)).1)/\Boxed W (w.heap.size+1+1) 9 (.string s))/\Below w.heap.size w W)
  (fun _ _ _=>False)
  (OwnFrom.and (OwnFrom.and (Own.from (Bd.own _ _ _) _) (OwnFrom.and (Own.from (boxed_own _ _ _) _) (Own.from (boxed_own _ _ _) _))) (ownFrom_below (la _) Sa))
  (fun _ _ _ _ _ hs _ _=>hs)
  ⟨⟨U,hl0,X⟩,hB0⟩
  (fun x=>{tmps:=#[.string s,undef,.string ⟨#[]⟩,.pointer (some ⟨w.heap.size,0,none⟩),.pointer (some ⟨w.heap.size+1,0,none⟩),.string x.1,.string s,
    .func (.func 233) #[] #[.pointer (some ⟨w.heap.size+1+1,0,none⟩)],.string x.1,undef,undef,undef,undef,undef,undef,undef,undef,undef,undef,undef,undef,undef,undef,undef,undef],defers:=[]}) ?assign ?body ?done ?stop
 case assign=>
  intro l x W K hKZ
  gi_wp2
  exact hKZ
 case body=>
  rintro l pre x W ⟨⟨j,k,A⟩,T⟩ hlen;have I:=HZ pre;have hcZ:=k.cell;have hfZ:=k.frozen;have P:ah ((pre++[x]).map Ug.bytes)=ii (ah (pre.map Ug.bytes)) x.bytes:=by rw[gg,ig,KN]
  generalize Z:ah (pre.map Ug.bytes)=st at j k I hcZ P;obtain⟨line,out⟩:=st;obtain⟨hb1,C⟩:=I;dsimp only at j k hb1 C hcZ;have B:=Lib.hid k;have o:=Lib.hid A;have q:=Lib.hid P;clear k A P Z;obtain⟨p,hpZ⟩:=x;simp only[Ug.bytes]at q;have E:=j.isCells;have O:=Lib.hid E;clear E;have y:p.data.toList.length=p.size:=rfl;have HLZ:=Lib.hid y;clear y;dsimp only;by_cases heZ:p.data.toList=[]
  ·obtain rfl:p=⟨#[]⟩:=by cases p<;>grind
   clear heZ
   gi_wp2
   refine sI 0 (fun _ _=>False) rfl (fun l a w h=>h.2.elim) ?_ (fun _ _ h=>h.elim)
   gi_wp2_with (first|(refine⟨trivial,?_⟩;gi_at_call 45;refine(CallsIn.inRound l (callsIn_wide.2 (qu _ _ _ _ _ j (by show out.length+2<=_;omega)))).mono ?_;rintro e w2Z ⟨rfl,i,g,c⟩;have b:=kn c B.out da ga;have L:=Boxed.cell b;have M:=Boxed.frozen b;have d:=Lib.hid b;clear b))
   exact⟨(rv g.size c O.out).trans (KeepsOthers.setCell _ _ _),(Below.heap_setCell _ _ _ _ da).trans ((kn c o.out aa ga).trans o.out.symm),⟨by rw[q.out];exact i.set _ d.out aa ga,by rw[q.out];exact d.out.set _,(Below.heap_setCell _ _ _ _ da).trans (kn c o.out aa ga)⟩,(T.trans g).setCell (p:=⟨w.heap.size+1,0,none⟩) da _⟩
  ·have HEZ:=Lib.hid heZ;clear heZ
   have e1:p.toList=[] ↔ False:=by rw[Lib.toList_data];exact iff_of_false HEZ.out id
   have e2:p.toList.isEmpty=false:=by
    rw[Lib.toList_data];cases h:p.data.toList with
    |nil=>grind [Hid.out]
    |cons _ _=>rfl
   by_cases hfit:p.size<=75 - line
   ·have i1Z:(p.size:Int)<=75 - (line:Int):=aa
    gi_wp2
    refine sI 0 (fun _ _=>False) rfl (fun l a w h=>h.2.elim) ?_ (fun _ _ h=>h.elim)
    gi_wp2
    refine wpIn_label ?_
    gi_wp2_with (first|(refine⟨trivial,?_⟩;gi_at_call 45;refine(CallsIn.inRound l (callsIn_wide.2 (qu _ _ _ _ _ j aa))).mono ?_;rintro e w2Z ⟨rfl,i,g,c⟩;have b:=kn c B.out da ga;have L:=Boxed.cell b;have M:=Boxed.frozen b;have d:=Lib.hid b;clear b))
    have R:ii (line,out) p.data.toList=(line+p.size,out++p.data.toList):=by
     unfold ii;rw[if_neg HEZ.out,if_pos (by rw[HLZ.out];omega),HLZ.out]
    have F:=kn c o.out aa ga;exact⟨(rv g.size c O.out).trans (KeepsOthers.setCell _ _ _),(Below.heap_setCell _ _ _ _ da).trans (F.trans o.out.symm),⟨by rw[q.out,R];exact i.set _ d.out da ga,by rw[q.out,R];exact d.out.set _,(Below.heap_setCell _ _ _ _ da).trans F⟩,(T.trans g).setCell (p:=⟨w.heap.size+1,0,none⟩) da _⟩
   ·have i1Z:decide ((p.size:Int)<=75 - (line:Int))=false:=Sa
    have R:ii (line,out) p.data.toList=(p.size,out++[61,13,10]++p.data.toList):=by
     unfold ii;rw[if_neg HEZ.out,if_neg (by grind [Hid.out]),HLZ.out]
    have S:=Lib.hid R;clear R
    gi_wp2
    refine sI 0 (fun a' Q=>a'={tmps:=#[.string s,undef,.string ⟨#[]⟩,.pointer (some ⟨w.heap.size,0,none⟩),.pointer (some ⟨w.heap.size+1,0,none⟩),.string p,.string s,
     .func (.func 233) #[] #[.pointer (some ⟨w.heap.size+1+1,0,none⟩)],.string p,.string p,.bool false,undef,.string p,.int .i64 p.size,.int .i64 line,.int .i64 (75 - line),.bool false,undef,undef,undef,undef,undef,undef,.tuple #[.int .i64 3,.nilIface],undef],defers:=[]}/\
     Bd w.heap.size w.heap.size (out++[61,13,10]) Q/\Boxed Q (w.heap.size+1) 3 (.int .i64 0)/\Boxed Q (w.heap.size+1+1) 9 (.string s)/\KeepsOthers W Q/\Below w.heap.size w Q) rfl (fun l a w h=>h.2.elim) ?_ ?_
    ·gi_wp2
     refine wpIn_label ?_
     gi_wp2_with (first|(refine⟨trivial,?_⟩;gi_at_call 45;refine(CallsIn.inRound l (callsIn_wide.2 (qu _ _ _ _ _ j (by show out.length+3<=_;omega)))).mono ?_;rintro e w2Z ⟨rfl,i,g,c⟩;have b:=kn c B.out da ga;have L:=Boxed.cell b;have M:=Boxed.frozen b;have d:=Lib.hid b;clear b))
     have F:=kn c o.out aa ga;refine wpIn_goto ?_;exact⟨rfl,rfl,i.set _ d.out da ga,d.out.set _,(Below.heap_setCell _ _ _ _ da).trans F,(rv g.size c O.out).trans (KeepsOthers.setCell _ _ _),(T.trans g).setCell (p:=⟨w.heap.size+1,0,none⟩) da _⟩
    ·rintro a' Q ⟨rfl,H,r,N,hk3,hB3⟩
     clear hcZ hfZ;have hc3:=r.cell;have hf3:=r.frozen;have HX3:=Lib.hid r;have HS3:=Lib.hid N;clear r N;have i2Z:(p.size:Int)<=75:=aa
     gi_wp2_with (first|(refine⟨trivial,?_⟩;gi_at_call 45;refine(CallsIn.inRound l (callsIn_wide.2 (qu _ _ _ _ _ H Sa))).mono ?_;rintro e w4Z ⟨rfl,V,J,v⟩;have u:=kn v HX3.out da ga;have hcw4:=Boxed.cell u;have hfw4:=Boxed.frozen u;have G:=Lib.hid u;clear u))
     have Y:=kn v HS3.out aa ga;exact⟨hk3.trans ((rv J.size v H.isCells).trans (KeepsOthers.setCell _ _ _)),(Below.heap_setCell _ _ _ _ da).trans (Y.trans o.out.symm),⟨by rw[q.out,S.out];exact V.set _ G.out da ga,by rw[q.out,S.out];exact G.out.set _,(Below.heap_setCell _ _ _ _ da).trans Y⟩,(hB3.trans J).setCell (p:=⟨w.heap.size+1,0,none⟩) da _⟩
 case done=>
  rintro D ys W q r ⟨⟨j,k,A⟩,T⟩ hKZ;have g:=Lib.hid hKZ;clear hKZ;have B:=Lib.hid k;have o:=Lib.hid A;clear k A
  gi_wp2_with (first|(refine⟨trivial,?_⟩;gi_at_call 46;refine(callsIn_wide.2 (YB _ _ _ _ j)).mono ?_;rintro e w2Z ⟨rfl,i,C,d⟩))
  have E:=j.isCells;have b:=(rv C.size d E).same D _ g.out rfl;refine⟨da,.inl ⟨_,_,rfl,run_takeDeferred b,?_⟩⟩;have c:(⟨(ah ((List.range s.size).map (hh s.data.toList))).2.toArray⟩:ByteArray)=⟨(uc 0 s.data.toList).toArray⟩:=by rw[show s.size=s.data.toList.length from rfl,GZ]
  exact⟨_,results_tmp (t:=2) rfl _ _ _,congrArg (fun z=>Ending.returned (.string z)) c,(T.trans C).trans (belowK_b (w:=w) (la _) _ D _ _ (by simp at q;omega) b rfl rfl)⟩
 simp
def Ki(k:FuncId)(g:List Value->Option Value):FuncId->List Value->Option Value:=fun f vs=>if f=k then g vs else none
def Ys{Γ}{k}{g}(b:k≠hb)(h:uo Tryz.prog Γ k g):dc Tryz.prog Γ (ak (Ki k g)):=P0 (fun f vs v a=>by
 unfold Ki at a;split at a
 ·rename_i e;rw[e];exact b
 ·cases a) (fun f vs v a=>by
 have e:f=k:=by
  unfold Ki at a;split at a
  ·assumption
  ·cases a
 subst e;have:Ki f g f=g:=by funext vs;unfold Ki;rw[if_pos rfl]
 rw[this];exact h)
def KG{k}{g}{args}{vs}{v}(a:fp args=some vs)(b:g vs=some v):ak (Ki k g) k args [] []=some ([.flat v],false,[],[]):=by
 unfold ak Ki;dsimp only;rw[a,Ra,if_pos rfl,b];rfl
def VA(w:World):Prop:=(∃m,w.cell? ⟨0,0,none⟩=some (.int .i64 m))/\Ol w
def ro:Ze where
 D g:=g=0\/g=3
 G:=VA
 lt w h g hg:=by
  rcases hg with rfl|rfl
  ·obtain⟨m,a⟩:=h.1;exact Et w _ a
  ·exact h.2.lt
 uf w w' h hk:=by
  obtain⟨⟨m,a⟩,ht⟩:=h;refine⟨⟨m,?_⟩,fun i b=>?_⟩
  ·unfold World.cell? at a⊢;rw[hk _ (.inl rfl)];exact a
  ·have:=ht i b;unfold World.cell? at this⊢;rw[hk _ (.inr rfl)];exact this
def gA:List Value->Option Value
 |[.string s,.int .u8 c]=>if s.size<=1000000000 then some (.int .i64 (Lib.lastIndexByte s c))else none
 |_=>none
def fA:List Value->Option Value
 |[.string s,.string p]=>if s.size<=1000000000 then some (.bool (Lib.contains s.data.toList p.data.toList))else none
 |_=>none
def Si(e:ba->ba):List Value->Option Value
 |[.string s]=>if s.size<=1000000 then some (.string (S (e s.data.toList)))else none
 |_=>none
def OS{w}:Below w.heap.size w w:=Below.refl _ _
def j0:uo Tryz.prog ro 157 gA:=⟨ca,fun vs v h=>by
 unfold gA at h;split at h
 ·split at h
  ·rename_i hs
   cases h;exact⟨rfl,fun w _=>(Tryz.strings_LastIndexByte _ _ aa w).mono (by rintro e w' ⟨rfl,rfl⟩;exact⟨rfl,OS⟩)⟩
  ·cases h
 ·cases h⟩
def i0:uo Tryz.prog ro 158 fA:=⟨ca,fun vs v h=>by
 unfold fA at h;split at h
 ·split at h
  ·rename_i hs
   cases h;refine⟨rfl,fun w a=>?_⟩;obtain⟨⟨m,b⟩,_⟩:=a;exact(Tryz.strings_Contains _ _ m w aa b).mono (by rintro e w' ⟨rfl,rfl⟩;exact⟨rfl,OS⟩)
  ·cases h
 ·cases h⟩
def h0:uo Tryz.prog ro 232 (Si rc):=⟨ca,fun vs v h=>by
 unfold Si at h;split at h
 ·split at h
  ·rename_i hs
   cases h;exact⟨rfl,fun w a=>(yZ _ w a.2 hs).mono (by rintro e w' ⟨rfl,b⟩;exact⟨rfl,b⟩)⟩
  ·cases h
 ·cases h⟩
def k0:uo Tryz.prog ro 99 (Si (uc 0)):=⟨ca,fun vs v h=>by
 unfold Si at h;split at h
 ·split at h
  ·rename_i hs
   cases h;exact⟨rfl,fun w b=>(wZ _ w hs).mono (by rintro e w' ⟨rfl,a⟩;exact⟨rfl,a⟩)⟩
  ·cases h
 ·cases h⟩
theorem vN(n):∀l,l.length<=n->(rc l).length=(l.length+2)/3* 4:=by
 induction n with
 |zero=>intro l h
        have:l=[]:=qz aa;subst this;simp[rc]
 |succ n d=>
  intro l h
  match l,h with
  |[],_=>simp[rc]
  |[a],_=>simp[rc,bH]
  |[a,b],_=>simp[rc,bH]
  |a::b::c::l,h=>rw[rc,Ja,bH,d l (by simp at h;omega)];simp;omega
theorem cy:∀(s)(line),(uc line s).length<=6* s.length
 |[],_=>by simp[uc]
 |c::t,line=>by
  have a:=(XG c t).2;unfold uc;split
  ·have:=cy t 0;simp only[za];omega
  ·split
   ·have:=cy t (piece c t).length
    simp only[Ja,za,ya];omega
   ·have:=cy t (line+(piece c t).length)
    simp only[Ja,za];omega
theorem OI{s}:(S s).data.toList=s:=by simp[S]
end Go.Proofs.YtglaihdcndcmkaaGreatDoor
namespace wa
def crlf:ba:=[13,10]
def zd:List ba->ba
 |[]=>[]
 |x::L=>x++crlf++zd L
end wa
