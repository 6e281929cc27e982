/- EmailHolds answers true for every mail, where the table of base64 is laid az start-up lays it: texts of this proof, merged. -/
import Derived.Test.YtmpiobfdchlikaaGreatDoorPh
import Derived.Test.YtmpiobfdchlikaaGreatDoorRows
import Derived.IntWalk
import Derived.Deep.RegionHeld3
import Derived.Deep.AppendLies
import Derived.StillTactics
import Derived.OwnWalk
set_option linter.unusedVariables false
set_option linter.unusedSimpArgs false
section
set_option synthInstance.maxSize 4000
namespace Nun
open Go Go.RowKit
def natCells (l:List Nat):List Value:=l.map fun (n:Nat)=>.int .i64 (n:Int)
theorem natCells_snoc (l:List Nat) (n:Nat):natCells (l++[n])=natCells l++[.int .i64 n]:=by simp [natCells]
def OwnN (B:Nat) (e:TypeId) (v:Value) (l:List Nat) (w:World):Prop:=w.ownsRow B e 1 v l.length (natCells l)
theorem OwnN.kept {B:Nat} {e:TypeId} {v:Value} {l:List Nat} {w w':World} (h:OwnN B e v l w) (k:Below w.heap.size w w'):OwnN B e v l w' :=
 World.ownsRow.kept (row:=none) h ⟨k.os,k.tape,k.output,k.size,fun i hi _=>k.block i hi⟩ (by cases v.ownBlock<;>simp)
theorem OwnN.made {B:Nat} {e:TypeId} (w:World) (hB:B≤w.heap.size) (cap:Nat) (cs:Array Value) (hc:cs.size=cap) (hm:cap≤maxLen):OwnN B e (.slice (some ⟨w.heap.size,0,none⟩) 0 cap) [] (w.alloc (.cells cs e)) :=
 World.ownsRow_made (size:=1) w cs cap hB hm (by omega)
theorem pushn {P:Program} {ops:Array Oper} {rest:List Oper} {o:Oper} {a:Act} {Q:Exit→Act→World→Prop} (hgd:o.guard=none) (s x:Operand) (t:TypeId)
 (ho:o.op=.call { callee:=.builtin .append,args:=#[s,x],argTypes:=#[t,t] })
 (e:TypeId) (ht:P.underlying t=some (.slice e)) (hi:(P.info? e).map (fun i=>(i.zero,i.size,i.bytes))=some (some (.int .i64 0),1,8))
 (B:Nat) (w:World) (v:Value) (l:List Nat) (hs:a.eval s=v) (hown:OwnN B e v l w) (m:Int) (c:Nat) (hm:m=c)
 (hx:a.eval x=.slice (some ⟨w.heap.size,0,none⟩) 1 1) (hmax:(l.length+1) * 8≤140737488355328) (hB:B≤w.heap.size)
 (h:∀ v' w',OwnN B e v' (l++[c]) w'→w.grownBy w' v.ownBlock→Below B w w'→w.heap.size<w'.heap.size→wpList P ops Q rest (a.put o.dst v') w') :
 wpList P ops Q (o::rest) a (w.alloc (.cells #[.int .i64 m] e)):=by
 subst hm
 exact push1 hgd s x t ho e (.int .i64 0) 1 8 ht hi rfl (by decide) B w v _ _ hs hown [.int .i64 c] rfl (by simp [Value.oneCell']) hx (by omega) (by omega) hB
  fun g cap w' h1 h2 h3 h4 h5=>h _ w' (by unfold OwnN;rw [natCells_snoc,List.length_append];exact h2) h3 h4 h5
def bits8 (c:UInt8):List Nat:=[c.toNat / 128 % 2,c.toNat / 64 % 2,c.toNat / 32 % 2,c.toNat / 16 % 2,c.toNat / 8 % 2,c.toNat / 4 % 2,c.toNat / 2 % 2,c.toNat % 2]
def bitsL (l:List UInt8):List Nat:=l.flatMap bits8
theorem bitsL_snoc (l:List UInt8) (c:UInt8):bitsL (l++[c])=bitsL l++bits8 c:=by unfold bitsL;rw [List.flatMap_append];simp
theorem bitsL_len (l:List UInt8):(bitsL l).length=8 * l.length:=by
 induction l with
 | nil=>rfl
 | cons c l ih=>show (bits8 c++bitsL l).length=_;rw [List.length_append,ih];simp [bits8];omega
def RowN (v:Value) (l:List Nat) (w:World):Prop:=∃ g o cap,v=.slice (some ⟨g,o,none⟩) l.length cap∧l.length≤cap∧g<w.heap.size∧∀ (j x:Nat),l[j]? =some x→w.cell? ⟨g,o+j,none⟩=some (.int .i64 x)
theorem RowN.kept {v:Value} {l:List Nat} {w w':World} (h:RowN v l w) (k:Below w.heap.size w w'):RowN v l w':=by
 obtain ⟨g,o,cap,rfl,hc,hg,hr⟩:=h
 exact ⟨g,o,cap,rfl,hc,Nat.lt_of_lt_of_le hg k.size,fun j x hj=>(k.cell (p:=⟨g,o+j,none⟩) hg).trans (hr j x hj)⟩
def six (l:List Nat):Nat→Nat
 | 0=>0
 | i+1=>2 * six l i+(l[i]?).getD 0
theorem bits8_snoc (c:UInt8) (j:Nat) (h:j<8):(bits8 c).take (j+1)=(bits8 c).take j++[(bits8 c).getD j 0]:=by
 rw [List.take_succ_eq_append_getElem (by simpa [bits8] using h)];simp [List.getD,List.getElem?_eq_getElem (l:=bits8 c) (i:=j) (by simpa [bits8] using h)]
end Nun
namespace Go.Proofs.YtmpiobfdchlikaaGreatDoor
open Go.RowKit Nun
theorem infoInt:(Tryz.prog.info? 3).map (fun i=>(i.zero,i.size,i.bytes))=some (some (.int .i64 0),1,8):=by kernel_rfl
set_option maxHeartbeats 2000000 in
theorem bits_ref (s:ByteArray) (w:World) (hs:s.size≤1000000):Calls Tryz.prog 192 #[.string s] w fun e w'=>∃ v,e=.returned v∧OwnN w.heap.size 3 v (bitsL s.data.toList) w'∧Below w.heap.size w w':=by
 have hlen:s.data.toList.length=s.size:=rfl
 have HL:=Lib.hid hlen;clear hlen
 go_enter Tryz.func192,Tryz.ntmps192
 go_wp2
 go_loopw [3,4,5] (fun v i _ wr=>∃ (k:Nat),k≤s.size∧i=.int .i64 k∧OwnN w.heap.size 3 v (bitsL (s.data.toList.take k)) wr∧Below w.heap.size w wr)
  (fun _ i _ _=>s.size - (intOf i).toNat)
 case atStart=>exact ⟨0,Nat.zero_le _,rfl,OwnN.made w (Nat.le_refl _) _ _ rfl (by decide),(Below.refl _ _).alloc (Nat.le_refl _) _⟩
 case round =>
  obtain ⟨k,hk,rfl,hown,hbel⟩:=hrel
  have hbl:(bitsL (s.data.toList.take k)).length≤8 * k:=by rw [bitsL_len,List.length_take];omega
  by_cases hlt:k<s.size
  ·have hst:bitsL (s.data.toList.take (k+1))=bitsL (s.data.toList.take k)++bits8 s[k]:=by
    rw [take_snoc _ _ (by rw [HL.out];exact hlt),bitsL_snoc];rfl
   generalize bitsL (s.data.toList.take k)=acc at *
   have HS:=Lib.hid hst;clear hst
   have hc8:=s[k].toNat_lt
   go_wp2
   go_loopw [3,5] (fun v q wr1=>∃ (j:Nat),j≤8∧q=.int .i64 ((128 / 2 ^ j:Nat):Int)∧OwnN w.heap.size 3 v (acc++(bits8 s[k]).take j) wr1∧Below w.heap.size w wr1)
    (fun _ q _=>(intOf q).toNat)
   case atStart=>exact ⟨0,by omega,rfl,by simpa using hown,hbel⟩
   case round =>
    clear hown hbel
    obtain ⟨j,hj,rfl,hown,hbel⟩:=hrel
    by_cases hj8:j<8
    ·obtain ⟨b,hb⟩:∃ b,(bits8 s[k]).getD j 0=b:=⟨_,rfl⟩
     have hsn:=bits8_snoc s[k] j hj8
     rw [hb] at hsn
     have hsn':=Lib.hid (show acc++(bits8 s[k]).take (j+1)=acc++(bits8 s[k]).take j++[b] by rw [hsn,List.append_assoc]);clear hsn
     have hl:((acc++(bits8 s[k]).take j).length+1) * 8≤140737488355328:=by
      rw [List.length_append,List.length_take];omega
     have HB:=Lib.hid hb;clear hb
     have hl':=Lib.hid hl;clear hl
     obtain rfl | rfl | rfl | rfl | rfl | rfl | rfl | rfl:j=0∨j=1∨j=2∨j=3∨j=4∨j=5∨j=6∨j=7:=by omega
     all_goals
      go_wp2_with (at_builtin;refine pushn (by rfl) _ _ _ (by rfl) 3 Tryz.underlying147 infoInt w.heap.size wr _ _ (by rfl) hown _ b (by rw [← HB.out];simp [bits8]) (by rfl) hl'.out hbel.size ?_;intro v1 w1 hown1 hgr hb1 hsz1)
      go_roundw
      case rel =>
       have hrow:=hown1
       rw [← hsn'.out] at hrow
       first | exact ⟨1,by omega,by go_num,hrow,hbel.trans hb1⟩ | exact ⟨2,by omega,by go_num,hrow,hbel.trans hb1⟩ | exact ⟨3,by omega,by go_num,hrow,hbel.trans hb1⟩ | exact ⟨4,by omega,by go_num,hrow,hbel.trans hb1⟩ | exact ⟨5,by omega,by go_num,hrow,hbel.trans hb1⟩ | exact ⟨6,by omega,by go_num,hrow,hbel.trans hb1⟩ | exact ⟨7,by omega,by go_num,hrow,hbel.trans hb1⟩ | exact ⟨8,by omega,by go_num,hrow,hbel.trans hb1⟩
      case measure=>simp [intOf]
    ·obtain rfl:j=8:=by omega
     have he:acc++(bits8 s[k]).take 8=bitsL (s.data.toList.take (k+1)):=by rw [HS.out];rfl
     rw [he] at hown
     clear he
     go_wp2
     go_roundw
     case rel=>exact ⟨k+1,by omega,by go_num,hown,hbel⟩
     case measure=>simp [intOf];omega
  ·obtain rfl:k=s.size:=by omega
   rw [List.take_of_length_le (by rw [HL.out];exact Nat.le_refl _)] at hown
   go_wp2
   go_ret
   exact ⟨_,rfl,hown,hbel⟩
end Go.Proofs.YtmpiobfdchlikaaGreatDoor
end
section
set_option synthInstance.maxSize 4000
namespace Nun
theorem six_lt (l:List Nat) (hl:∀ x∈l,x≤1) (i:Nat):six l i<2 ^ i:=by
 induction i with
 | zero=>simp [six]
 | succ i ih =>
   have:(l[i]?).getD 0≤1:=by
    rcases h:l[i]? with _ | x
    ·simp
    ·exact hl x (List.mem_of_getElem? h)
   rw [six,Nat.pow_succ];omega
theorem six_lt64 (l:List Nat) (hl:∀ x∈l,x≤1) (i:Nat) (hi:i≤6):six l i<64:=Nat.lt_of_lt_of_le (six_lt l hl i) (Nat.pow_le_pow_right (n:=2) (by decide) hi)
def digs (l:List Nat):List UInt8:=if h:0<l.length then dig (six l 6)::digs (l.drop 6) else []
termination_by l.length
decreasing_by simp;omega
theorem digs_more {l:List Nat} (h:0<l.length):digs l=dig (six l 6)::digs (l.drop 6):=by rw [digs,dif_pos h]
theorem digs_nil:digs []=[]:=by rw [digs,dif_neg (by simp)]
theorem digs_len (n:Nat):∀ l:List Nat,l.length≤n→(digs l).length≤l.length:=by
 induction n with
 | zero=>intro l h
         have:l=[]:=List.eq_nil_of_length_eq_zero (by omega)
         subst this;simp [digs_nil]
 | succ n ih =>
   intro l h
   by_cases h0:0<l.length
   ·rw [digs_more h0,List.length_cons]
    have:=ih (l.drop 6) (by rw [List.length_drop];omega)
    rw [List.length_drop] at this;omega
   ·rw [digs,dif_neg h0];simp
theorem bitsL_bits (l:List UInt8):∀ x∈bitsL l,x≤1:=by
 intro x h
 unfold bitsL at h
 obtain ⟨c,_,hc⟩:=List.mem_flatMap.1 h
 simp [bits8] at hc
 omega
def padTo4 (l:List UInt8):List UInt8:=l++List.replicate ((4 - l.length % 4) % 4) 61
theorem dig_ext:∀ i:Fin 64,((⟨digits64.toArray⟩:ByteArray).extract i.1 (i.1+1)).data.toList=[dig i.1]:=by decide +kernel
end Nun
namespace Go.Proofs.YtmpiobfdchlikaaGreatDoor
open Go.RowKit Nun
set_option maxHeartbeats 1000000 in
theorem digits_ref (w:World):Calls Tryz.prog 219 #[] w (Same (.string ⟨digits64.toArray⟩) w):=by
 go_enter Tryz.func219,Tryz.ntmps219
 go_wp2
 go_ret
 exact ⟨rfl,rfl⟩
set_option maxHeartbeats 1000000 in
theorem digit_ref64 (g o cap n:Nat) (l:List Nat) (hn:n=l.length) (w:World) (hr:∀ (j x:Nat),l[j]? =some x→w.cell? ⟨g,o+j,none⟩=some (.int .i64 x)) (hb:∀ x∈l,x≤1) (hc:n≤1000000000) :
 Calls Tryz.prog 193 #[.slice (some ⟨g,o,none⟩) n cap] w (Same (.string ⟨#[dig (six l 6)]⟩) w):=by
 have HR:=Lib.hid hr;clear hr
 have HB:=Lib.hid hb;clear hb
 have HN:=Lib.hid hn;clear hn
 have hx:=dig_ext ⟨six l 6,six_lt64 l HB.out 6 (by decide)⟩
 have HX:=Lib.hid hx;clear hx
 go_enter Tryz.func193,Tryz.ntmps193
 go_wp2
 go_loopw [3,4] (fun m i wr=>∃ (k:Nat),k≤6∧i=.int .i64 k∧m=.int .i64 (six l k)∧wr=w)
  (fun _ i _=>6 - (intOf i).toNat)
 case atStart=>exact ⟨0,by omega,rfl,rfl,rfl⟩
 case round =>
  obtain ⟨k,hk,rfl,rfl,rfl⟩:=hrel
  have h64:=six_lt64 l HB.out k hk
  by_cases h6:k<6
  ·by_cases hkn:k<n
   ·obtain ⟨x,hx⟩:∃ x,l[k]? =some x:=⟨_,List.getElem?_eq_getElem (by rw [← HN.out];exact hkn)⟩
    have hcell:=HR.out k x hx
    have hx1:=HB.out x (List.mem_of_getElem? hx)
    have hsx:((six l (k+1):Nat):Int)=2 * six l k+x:=by rw [six,hx];simp
    have HS:=Lib.hid hsx;clear hsx hx
    go_wp2
    go_roundw
    case rel=>exact ⟨k+1,by omega,by go_num,vi (by rw [HS.out]),trivial⟩
    case measure=>simp [intOf];omega
   ·have hsx:((six l (k+1):Nat):Int)=2 * six l k:=by rw [six,List.getElem?_eq_none (by rw [← HN.out];omega)];simp
    have HS:=Lib.hid hsx;clear hsx
    go_wp2
    go_roundw
    case rel=>exact ⟨k+1,by omega,by go_num,vi (by rw [HS.out]),trivial⟩
    case measure=>simp [intOf];omega
  ·obtain rfl:k=6:=by omega
   have hds:(ByteArray.mk digits64.toArray).size=64:=rfl
   go_wp2_with (go_at_call 219;refine (digits_ref _).mono ?_;rintro e w' ⟨rfl,rfl⟩)
   go_ret
   exact ⟨r1 (vS HX.out),rfl⟩
theorem own_row {B:Nat} {e:TypeId} {v:Value} {l:List Nat} {w:World} (h:OwnN B e v l w):(v=.slice none 0 0∧l=[])∨∃ g cap,v=.slice (some ⟨g,0,none⟩) l.length cap∧l.length≤cap∧∀ (j x:Nat),l[j]? =some x→w.cell? ⟨g,0+j,none⟩=some (.int .i64 x):=by
 rcases h.2 with ⟨hv,h0⟩ | ⟨g,cap,cur,rfl,hg,hh,hc,_⟩
 ·exact .inl ⟨hv,List.eq_nil_of_length_eq_zero h0⟩
 ·refine .inr ⟨g,cap,rfl,hc,fun j x hj=>?_⟩
  have:=World.ownsRow.cells h (g:=g) rfl j (.int .i64 x) (by simp [natCells,hj])
  have ha:(⟨g,0,none⟩:Addr).add j=⟨g,0+j,none⟩:=by unfold Addr.add;split<;>simp_all
  rw [ha] at this;exact this
theorem add_at (g o k:Nat):(⟨g,o,none⟩:Addr).add k=⟨g,o+k,none⟩:=by unfold Addr.add;split<;>simp_all
set_option maxHeartbeats 2000000 in
theorem encode_ref (s:ByteArray) (w:World) (hs:s.size≤1000000):Calls Tryz.prog 155 #[.string s] w (Ret (.string ⟨(padTo4 (digs (bitsL s.data.toList))).toArray⟩) w):=by
 have hlen:(bitsL s.data.toList).length=8 * s.size:=bitsL_len _
 have hbit:=bitsL_bits s.data.toList
 have hds:=digs_len (8 * s.size) (bitsL s.data.toList) (by omega)
 have hbits:=bits_ref s w hs
 generalize bitsL s.data.toList=L at *
 have HBI:=Lib.hid hbits;have HB:=Lib.hid hbit;clear hbits hbit
 go_enter Tryz.func155,Tryz.ntmps155
 go_wp2_with (go_at_call 192;refine HBI.out.mono ?_;rintro e w1 ⟨v,rfl,hown,hb1⟩)
 obtain ⟨a0,n0,cap0,rfl,hn0,hc0,hr0⟩:∃ a0 n0 cap0,v=.slice a0 n0 cap0∧n0=L.length∧n0≤cap0∧(n0=0∨∃ g o,a0=some ⟨g,o,none⟩∧∀ (j x:Nat),L[j]? =some x→w1.cell? ⟨g,o+j,none⟩=some (.int .i64 x)):=by
  rcases own_row hown with ⟨rfl,rfl⟩ | ⟨g,cap,rfl,hc,hr⟩
  ·exact ⟨_,_,_,rfl,rfl,Nat.le_refl _,.inl rfl⟩
  ·exact ⟨_,_,_,rfl,rfl,hc,.inr ⟨g,0,rfl,hr⟩⟩
 clear hown
 have HR0:=Lib.hid hr0;clear hr0
 have hn8:n0≤8000000:=by omega
 have HN0:=Lib.hid hn0;clear hn0 hlen
 go_loopw [3,4] (fun v t wr=>∃ (M:List Nat) (acc:List UInt8) (a:Option Addr) (n cap:Nat),v=.slice a n cap∧t=.string ⟨acc.toArray⟩∧wr=w1∧n=M.length∧n≤cap∧acc.length+n≤8000000∧Hid (∀ x∈M,x≤1)∧Hid (digs L=acc++digs M)∧Hid (n=0∨∃ g o,a=some ⟨g,o,none⟩∧∀ (j x:Nat),M[j]? =some x→w1.cell? ⟨g,o+j,none⟩=some (.int .i64 x)))
  (fun v _ _=>match v with | .slice _ n _=>n | _=>0)
 case atStart=>exact ⟨L,[],a0,n0,cap0,rfl,rfl,rfl,HN0.out,hc0,by simpa using hn8,HB,Lib.hid rfl,HR0⟩
 case round =>
  obtain ⟨M,acc,a,n,cap,rfl,rfl,rfl,hn,hcap,hn8,HM,hd,hr⟩:=hrel
  by_cases hlt:0<n
  ·rcases hr.out with h | ⟨g,o,rfl,hcell⟩
   ·omega
   have hmore:=digs_more (l:=M) (by omega)
   have hmin:min 6 ((n:Nat):Int)=((min 6 n:Nat):Int):=by omega
   have hK1:1≤min 6 n:=by omega
   have hK2:min 6 n≤n:=by omega
   have hK3:min 6 n≤6:=by omega
   have hKc:min 6 n=6∨min 6 n=n:=by omega
   have hM:=Lib.hid hn;clear hn
   generalize min 6 n=K at *
   have hmore':=Lib.hid hmore;clear hmore hr
   have hcell':=Lib.hid hcell;clear hcell
   have hadd:=add_at g o K
   have hsz1:(ByteArray.mk acc.toArray).size=acc.length:=rfl
   have hsz2:(ByteArray.mk #[dig (six M 6)]).size=1:=rfl
   by_cases hcK:cap=K
   ·subst hcK
    go_wp2_with (go_at_call 193;refine (digit_ref64 g o _ n M hM.out _ hcell'.out HM.out (by omega)).mono ?_;rintro e w' ⟨rfl,rfl⟩)
    go_roundw
    case rel =>
     refine ⟨M.drop 6,acc++[dig (six M 6)],_,_,_,rfl,vS (by simp [ByteArray.toList_data_append]),trivial,?_,by omega,?_,Lib.hid (fun x hx=>HM.out x (List.mem_of_mem_drop hx)),Lib.hid (by rw [hd.out,hmore'.out];simp),Lib.hid (.inl (by omega))⟩
     ·rw [List.length_drop,← hM.out];omega
     ·simp;omega
    case measure=>simp;omega
   ·go_wp2_with (go_at_call 193;refine (digit_ref64 g o _ n M hM.out _ hcell'.out HM.out (by omega)).mono ?_;rintro e w' ⟨rfl,rfl⟩)
    go_roundw
    case rel =>
     refine ⟨M.drop 6,acc++[dig (six M 6)],_,_,_,rfl,vS (by simp [ByteArray.toList_data_append]),trivial,?_,by omega,?_,Lib.hid (fun x hx=>HM.out x (List.mem_of_mem_drop hx)),Lib.hid (by rw [hd.out,hmore'.out];simp),Lib.hid ?_⟩
     ·rw [List.length_drop,← hM.out];omega
     ·simp;omega
     ·rcases hKc with h6 | hKn
      ·refine .inr ⟨g,o+K,by simp [hadd],fun j x hj=>?_⟩
       rw [List.getElem?_drop] at hj
       have:=hcell'.out _ _ hj
       rw [← this,h6];congr 2;omega
      ·exact .inl (by omega)
    case measure=>simp;omega
  ·have hM0:M=[]:=List.eq_nil_of_length_eq_zero (by omega)
   have hD:digs L=acc:=by rw [hd.out,hM0,digs_nil];simp
   have HD:=Lib.hid hD;clear hD
   have hpad:padTo4 (digs L)=acc++List.replicate ((4 - acc.length % 4) % 4) 61:=by rw [HD.out];rfl
   have HP:=Lib.hid hpad;clear hpad
   go_wp2
   go_loopw [4] (fun t wr1=>∃ (i:Nat) (u:ByteArray),i≤(4 - acc.length % 4) % 4∧t=.string u∧u.size=acc.length+i∧Hid (u.data.toList=acc++List.replicate i 61)∧wr1=wr)
    (fun t _=>match t with | .string b=>acc.length+4 - b.size | _=>0)
   case atStart=>exact ⟨0,_,by omega,rfl,rfl,Lib.hid (by simp),rfl⟩
   case round =>
    obtain ⟨i,u,hi,rfl,hu,hul,rfl⟩:=hrel
    by_cases hip:i<(4 - acc.length % 4) % 4
    ·have hne:¬ ((acc.length:Int)+i) % 4=0:=by omega
     go_wp2
     go_roundw
     case rel=>exact ⟨i+1,_,by omega,rfl,by rw [ByteArray.size_append,hu];rfl,Lib.hid (by rw [ByteArray.toList_data_append,hul.out,List.replicate_succ',List.append_assoc]),trivial⟩
     case measure =>
      have h1:(ByteArray.mk #[61]).size=1:=rfl
      simp only [ByteArray.size_append,h1];omega
    ·have hne:((acc.length:Int)+i) % 4=0:=by omega
     have hip':i=(4 - acc.length % 4) % 4:=by omega
     have hfin:u.data.toList=padTo4 (digs L):=by rw [hul.out,HP.out,hip']
     have HF:=Lib.hid hfin;clear hfin hip'
     go_wp2
     go_ret
     exact ⟨r1 (vS HF.out),hb1⟩
end Go.Proofs.YtmpiobfdchlikaaGreatDoor
end
section
namespace Nun
theorem bits_hi2:∀ a:UInt8,32 * (a.toNat / 128 % 2)+16 * (a.toNat / 64 % 2)+8 * (a.toNat / 32 % 2)+4 * (a.toNat / 16 % 2)+2 * (a.toNat / 8 % 2)+a.toNat / 4 % 2=a.toNat / 4:=by decide +kernel
theorem bits_lo2:∀ a:UInt8,2 * (a.toNat / 2 % 2)+a.toNat % 2=a.toNat % 4:=by decide +kernel
theorem bits_hi4:∀ a:UInt8,8 * (a.toNat / 128 % 2)+4 * (a.toNat / 64 % 2)+2 * (a.toNat / 32 % 2)+a.toNat / 16 % 2=a.toNat / 16:=by decide +kernel
theorem bits_lo4:∀ a:UInt8,8 * (a.toNat / 8 % 2)+4 * (a.toNat / 4 % 2)+2 * (a.toNat / 2 % 2)+a.toNat % 2=a.toNat % 16:=by decide +kernel
theorem bits_hi6:∀ a:UInt8,2 * (a.toNat / 128 % 2)+a.toNat / 64 % 2=a.toNat / 64:=by decide +kernel
theorem bits_lo6:∀ a:UInt8,32 * (a.toNat / 32 % 2)+16 * (a.toNat / 16 % 2)+8 * (a.toNat / 8 % 2)+4 * (a.toNat / 4 % 2)+2 * (a.toNat / 2 % 2)+a.toNat % 2=a.toNat % 64:=by decide +kernel
theorem bitsL_cons (c:UInt8) (l:List UInt8):bitsL (c::l)=bits8 c++bitsL l:=rfl
theorem num3 (a b c:UInt8) (l:List UInt8):num (a::b::c::l) 3=(a.toNat * 256+b.toNat) * 256+c.toNat:=by simp [num]
theorem num2 (a b:UInt8):num [a,b] 3=(a.toNat * 256+b.toNat) * 256:=by simp [num]
theorem num1 (a:UInt8):num [a] 3=a.toNat * 256 * 256:=by simp [num]
theorem digs_six (x0 x1 x2 x3 x4 x5:Nat) (l:List Nat):digs (x0::x1::x2::x3::x4::x5::l)=dig (32 * x0+16 * x1+8 * x2+4 * x3+2 * x4+x5)::digs l:=by
 rw [digs_more (by simp)]
 have:six (x0::x1::x2::x3::x4::x5::l) 6=32 * x0+16 * x1+8 * x2+4 * x3+2 * x4+x5:=by simp [six];omega
 rw [this];rfl
theorem digs_group (a b c:UInt8) (l:List UInt8):digs (bitsL (a::b::c::l))=quad (a::b::c::l)++digs (bitsL l):=by
 have ha:=a.toNat_lt;have hb:=b.toNat_lt;have hc:=c.toNat_lt
 rw [bitsL_cons,bitsL_cons,bitsL_cons]
 unfold bits8
 simp only [List.cons_append,List.nil_append]
 rw [digs_six,digs_six,digs_six,digs_six]
 unfold quad
 rw [if_neg (by simp),if_neg (by simp),num3]
 have e0:((a.toNat * 256+b.toNat) * 256+c.toNat) / 262144 % 64=a.toNat / 4:=by omega
 have e1:((a.toNat * 256+b.toNat) * 256+c.toNat) / 4096 % 64=16 * (a.toNat % 4)+b.toNat / 16:=by omega
 have e2:((a.toNat * 256+b.toNat) * 256+c.toNat) / 64 % 64=4 * (b.toNat % 16)+c.toNat / 64:=by omega
 have e3:((a.toNat * 256+b.toNat) * 256+c.toNat) % 64=c.toNat % 64:=by omega
 rw [e0,e1,e2,e3]
 have h0:=bits_hi2 a;have h1:=bits_lo2 a;have h2:=bits_hi4 b;have h3:=bits_lo4 b;have h4:=bits_hi6 c;have h5:=bits_lo6 c
 simp only [List.cons_append,List.nil_append,List.cons.injEq]
 refine ⟨by congr 1,by congr 1;omega,by congr 1;omega,by congr 1,trivial⟩
theorem digs_few (l:List Nat) (h:0<l.length) (h6:l.length≤6):digs l=[dig (six l 6)]:=by
 rw [digs_more h,List.drop_of_length_le h6,digs_nil]
theorem padTo4_app (x y:List UInt8) (h:x.length=4):padTo4 (x++y)=x++padTo4 y:=by
 unfold padTo4;rw [List.length_append,h,show (4+y.length) % 4=y.length % 4 by omega,List.append_assoc]
theorem tail1 (a:UInt8):padTo4 (digs (bitsL [a]))=quad [a]:=by
 have ha:=a.toNat_lt
 have h0:=bits_hi2 a;have h1:=bits_lo2 a
 show padTo4 (digs (bits8 a))=_
 unfold bits8
 rw [digs_six,digs_few _ (by simp) (by simp)]
 have e:six [a.toNat / 2 % 2,a.toNat % 2] 6=16 * (a.toNat % 4):=by simp [six];omega
 rw [e,h0]
 unfold quad
 rw [if_pos (by simp),if_pos (by simp),num1]
 have e0:a.toNat * 256 * 256 / 262144 % 64=a.toNat / 4:=by omega
 have e1:a.toNat * 256 * 256 / 4096 % 64=16 * (a.toNat % 4):=by omega
 rw [e0,e1];rfl
theorem tail2 (a b:UInt8):padTo4 (digs (bitsL [a,b]))=quad [a,b]:=by
 have ha:=a.toNat_lt;have hb:=b.toNat_lt
 have h0:=bits_hi2 a;have h1:=bits_lo2 a;have h2:=bits_hi4 b;have h3:=bits_lo4 b
 show padTo4 (digs (bits8 a++bits8 b))=_
 unfold bits8
 simp only [List.cons_append,List.nil_append]
 rw [digs_six,digs_six,digs_few _ (by simp) (by simp)]
 have e:six [b.toNat / 8 % 2,b.toNat / 4 % 2,b.toNat / 2 % 2,b.toNat % 2] 6=4 * (b.toNat % 16):=by simp [six];omega
 rw [e,h0]
 unfold quad
 rw [if_neg (by simp),if_pos (by simp),num2]
 have e0:(a.toNat * 256+b.toNat) * 256 / 262144 % 64=a.toNat / 4:=by omega
 have e1:(a.toNat * 256+b.toNat) * 256 / 4096 % 64=16 * (a.toNat % 4)+b.toNat / 16:=by omega
 have e2:(a.toNat * 256+b.toNat) * 256 / 64 % 64=4 * (b.toNat % 16):=by omega
 have f1:32 * (a.toNat / 2 % 2)+16 * (a.toNat % 2)+8 * (b.toNat / 128 % 2)+4 * (b.toNat / 64 % 2)+2 * (b.toNat / 32 % 2)+b.toNat / 16 % 2=16 * (a.toNat % 4)+b.toNat / 16:=by omega
 rw [e0,e1,e2,f1];rfl
theorem enc_law (n:Nat):∀ l:List UInt8,l.length≤n→padTo4 (digs (bitsL l))=enc64 l:=by
 induction n with
 | zero =>
   intro l h
   have:l=[]:=List.eq_nil_of_length_eq_zero (by omega)
   subst this
   show padTo4 (digs [])=_
   rw [digs_nil];rfl
 | succ n ih =>
   intro l h
   match l,h with
   | [],_=>show padTo4 (digs [])=_;rw [digs_nil];rfl
   | [a],_=>exact tail1 a
   | [a,b],_=>exact tail2 a b
   | a::b::c::l,h =>
     rw [digs_group,padTo4_app _ _ rfl,ih l (by simp at h;omega),enc64_step (a::b::c::l) (by simp)];rfl
end Nun
end
section
set_option synthInstance.maxSize 4000
set_option synthInstance.maxHeartbeats 400000
namespace Nun
def free (c:UInt8):Bool:=(97≤c && c≤122) || (65≤c && c≤90) || (48≤c && c≤57) || c == 45 || c == 46 || c == 95 || c == 126
def worth (c:UInt8):Option UInt8:=if 48≤c∧c≤57 then some (c - 48) else if 97≤c∧c≤102 then some (c - 87) else if 65≤c∧c≤70 then some (c - 55) else none
def hexd (c:UInt8):UInt8:=if c<10 then 48+c else 55+c
def pair (c:UInt8):List UInt8:=[hexd (c / 16),hexd (c % 16)]
def hex2 (a b:UInt8):Option UInt8:=match worth a,worth b with | some x,some y=>some (16 * x+y) | _,_=>none
def hexAt (s:List UInt8) (at_:Int):Option UInt8 :=
 if at_<0 then none else match s[at_.toNat]?,s[at_.toNat+1]? with | some a,some b=>hex2 a b | _,_=>none
end Nun
namespace Go.Proofs.YtmpiobfdchlikaaGreatDoor
open Go.RowKit Nun
set_option maxHeartbeats 400000 in
theorem pair_any (c:UInt8) (w:World):Calls Tryz.prog 153 #[.int .u8 c.toNat] w (Ret (.string ⟨(pair c).toArray⟩) w):=by
 have hc:(c.toNat:Int)<256:=by have:=c.toNat_lt;omega
 have h1:(0:Int)≤c.toNat / 16:=by omega
 have h2:(c.toNat:Int) / 16<16:=by omega
 have h3:(0:Int)≤c.toNat % 16:=by omega
 have h4:(c.toNat:Int) % 16<16:=by omega
 have kc:=fun (w:World) (x y:UInt8)=>conv_two (P:=Tryz.prog) Tryz.underlying44 Tryz.underlying5 Tryz.underlying9 w x y
 go_enter Tryz.func153,Tryz.ntmps153
 go_wp2
 go_region
 go_wp2
 go_ret
 refine ⟨r1 (vS ?_),((Below.refl _ _).alloc (Nat.le_refl _) _).drew⟩
 clear kc
 (go_light;revert c;decide +kernel)
set_option maxHeartbeats 400000 in
theorem pair_ref (c:UInt8) (w:World):Calls Tryz.prog 157 #[.int .u8 c.toNat] w (Ret (.string ⟨(pair c).toArray⟩) w):=by
 have hc:(c.toNat:Int)<256:=by have:=c.toNat_lt;omega
 go_enter Tryz.func157,Tryz.ntmps157
 go_wp2
 (refine wp_region_quiet_below (by kernel_rfl) (by kernel_rfl) ?_;(repeat (first | go_big_quiet_skip | (go_big_quiet_want;go_big_quiet_op;first | go_big_quiet_on | (apply Exists.intro;refine ⟨fun _=>?_,?_⟩;(· (fail));go_big_quiet_on))));refine wpQuiet_nil ?_;intro _ hw';obtain ⟨⟨dq,osq⟩,hw''⟩:=hw';subst hw'')
 go_wp2
 go_ret
 refine ⟨r1 (vS ?_),below_regrown _ _ _⟩
 (go_light;revert c;decide +kernel)
end Go.Proofs.YtmpiobfdchlikaaGreatDoor
end
section
set_option synthInstance.maxSize 4000
namespace Nun
def plainB (c:UInt8):Bool:=33≤c && c≤126 && c != 61
def decV:Option (List UInt8)→Go.Value
 | none=>.tuple #[.string ⟨#[]⟩,.int .i64 7]
 | some l=>.tuple #[.string ⟨l.toArray⟩,.int .i64 0]
attribute [simp] decV
end Nun
namespace Go.Proofs.YtmpiobfdchlikaaGreatDoor
open Go.RowKit Nun
set_option maxHeartbeats 400000 in
set_option maxRecDepth 100000 in
theorem plain_qp (c:UInt8) (w:World):Calls Tryz.prog 154 #[.int .u8 c.toNat] w (Same (.bool (plainB c)) w):=by
 go_enter Tryz.func154,Tryz.ntmps154
 go_wp2
 all_goals (go_ret;refine ⟨r1 (vb ?_),rfl⟩)
 all_goals (go_light;revert c;decide +kernel)
set_option maxHeartbeats 400000 in
set_option maxRecDepth 100000 in
theorem plain_ref (c:UInt8) (w:World):Calls Tryz.prog 156 #[.int .u8 c.toNat] w (Same (.bool (plainB c)) w):=by
 go_enter Tryz.func156,Tryz.ntmps156
 go_wp2
 all_goals (go_ret;refine ⟨r1 (vb ?_),rfl⟩)
 all_goals (go_light;revert c;decide +kernel)
end Go.Proofs.YtmpiobfdchlikaaGreatDoor
end
section
set_option synthInstance.maxSize 4000
namespace Nun
def one (s:List UInt8) (n:Int):Option (UInt8 × Nat) :=
 if n<0 then none else match s[n.toNat]? with
 | none=>none
 | some c=>if free c then some (c,1) else if c=37 then (hexAt s (n+1)).map fun x=>(x,3) else none
def oneV:Option (UInt8 × Nat)→Go.Value
 | none=>.tuple #[.int .u8 0,.int .i64 0,.bool false]
 | some (c,k)=>.tuple #[.int .u8 c.toNat,.int .i64 k,.bool true]
attribute [simp] oneV
end Nun
namespace Go.Proofs.YtmpiobfdchlikaaGreatDoor
open Go.RowKit Nun
end Go.Proofs.YtmpiobfdchlikaaGreatDoor
end
section
namespace Go.Proofs.YtmpiobfdchlikaaGreatDoor
open Go.RowKit Nun
theorem plain_of_qp (c:UInt8) (b:Bool) (h:plainB c=b) (w:World):Calls Tryz.prog 154 #[.int .u8 c.toNat] w (Same (.bool b) w):=h ▸ plain_qp c w
theorem plain_of_ref (c:UInt8) (b:Bool) (h:plainB c=b) (w:World):Calls Tryz.prog 156 #[.int .u8 c.toNat] w (Same (.bool b) w):=h ▸ plain_ref c w
end Go.Proofs.YtmpiobfdchlikaaGreatDoor
end
section
namespace Nun
def nextOk:List UInt8→Bool | []=>false | d::_=>d != 10
def piece (c:UInt8) (t:List UInt8):List UInt8:=if plainB c || ((c == 32 || c == 9) && nextOk t) then [c] else 61::pair c
theorem piece_len (c:UInt8) (t:List UInt8):0<(piece c t).length∧(piece c t).length≤3:=by unfold piece;split<;>simp [pair]
def encL:Nat→List UInt8→List UInt8
 | _,[]=>[]
 | line,c::t=>if c=10 then 13::10::encL 0 t
   else if line+(piece c t).length > 75 then [61,13,10]++(piece c t++encL (piece c t).length t) else piece c t++encL (line+(piece c t).length) t
theorem piece_one {s:List UInt8} {k:Nat} (hk:k<s.length) (h:plainB s[k]=true∨((s[k]=32∨s[k]=9)∧∃ h:k+1<s.length,s[k+1]≠10)):piece s[k] (s.drop (k+1))=[s[k]]:=by
 unfold piece
 rcases h with h | ⟨h,h2,h3⟩
 ·rw [if_pos (by simp [h])]
 ·rw [List.drop_eq_getElem_cons h2,if_pos]
  rcases h with h | h<;>simp [h,nextOk,h3]
theorem piece_three {s:List UInt8} {k:Nat} (hk:k<s.length) (hp:plainB s[k]=false) (h:(s[k]≠32∧s[k]≠9)∨s.length≤k+1∨∃ h:k+1<s.length,s[k+1]=10):piece s[k] (s.drop (k+1))=61::pair s[k]:=by
 unfold piece
 rw [if_neg]
 rcases h with ⟨h,h'⟩ | h | ⟨h,h'⟩
 ·simp [hp,h,h']
 ·rw [List.drop_of_length_le h];simp [hp,nextOk]
 ·rw [List.drop_eq_getElem_cons h];simp [hp,nextOk,h']
end Nun
namespace Go.Proofs.YtmpiobfdchlikaaGreatDoor
open Go.RowKit Nun
set_option maxHeartbeats 2000000 in
set_option maxRecDepth 100000 in
theorem piece_ref (s:ByteArray) (k:Nat) (w:World) (hs:s.size≤1000000000) (hk:k<s.size):Calls Tryz.prog 101 #[.string s,.int .i64 k] w (Ret (.string ⟨(piece s[k] (s.data.toList.drop (k+1))).toArray⟩) w):=by
 have kc:=fun (w:World) (x:UInt8)=>conv_one (P:=Tryz.prog) Tryz.underlying44 Tryz.underlying5 Tryz.underlying9 w x
 have hpl:(pair s[k]).length≤2:=by simp [pair]
 generalize hp:plainB s[k]=bp
 have HP:=Lib.hid hp;clear hp
 cases bp
 ·by_cases hbl:s[k]=32∨s[k]=9
  ·have q:∃ b,((s[k].toNat:Int) == 32)=b∧(b=false→((s[k].toNat:Int) == 9)=true):=by
    refine ⟨_,rfl,fun h=>?_⟩
    rcases hbl with h' | h'
    ·rw [h'] at h;cases h
    ·rw [h'];rfl
   obtain ⟨b,q1,q2⟩:=q
   by_cases hn:k+1<s.size
   ·have i1:(k:Int)<(s.size:Int) - 1:=by omega
    have i2:(k:Int)+1<(s.size:Int):=by omega
    by_cases h10:s[k+1]=10
    ·have HE:=Lib.hid (show piece s[k] (s.data.toList.drop (k+1))=_ from piece_three (s:=s.data.toList) hk HP.out (.inr (.inr ⟨hn,h10⟩)))
     have q3:((s[k+1].toNat:Int) == 10)=true:=by rw [h10];rfl
     have q4:((s[k+1].toNat:Int) != 10)=false:=by rw [h10];rfl
     clear h10 hbl
     cases b
     all_goals (try replace q2:=q2 rfl)
     all_goals
      go_enter Tryz.func101,Tryz.ntmps101
      go_wp2_with (first | (go_at_call 156;refine (plain_of_ref _ _ HP.out _).mono ?_;rintro e w1 ⟨rfl,rfl⟩) | (go_at_call 157;refine (pair_ref _ _).mono ?_;rintro e w1 ⟨rfl,hb1⟩))
      go_ret
      exact ⟨by rw [HE.out];exact r1 (vS (by simp [ByteArray.toList_data_append];rfl)),(by repeat (first | assumption | exact Below.refl _ _ | refine below_of ?_ (by assumption)))⟩
    ·have HE:=Lib.hid (show piece s[k] (s.data.toList.drop (k+1))=_ from piece_one (s:=s.data.toList) hk (.inr ⟨hbl,hn,h10⟩))
     have q3:((s[k+1].toNat:Int) == 10)=false:=by simp [← UInt8.toNat_inj] at h10 ⊢;omega
     have q4:((s[k+1].toNat:Int) != 10)=true:=by simp [← UInt8.toNat_inj] at h10 ⊢;omega
     clear h10 hbl
     cases b
     all_goals (try replace q2:=q2 rfl)
     all_goals
      go_enter Tryz.func101,Tryz.ntmps101
      go_wp2_with (first | (go_at_call 156;refine (plain_of_ref _ _ HP.out _).mono ?_;rintro e w1 ⟨rfl,rfl⟩) | (go_at_call 157;refine (pair_ref _ _).mono ?_;rintro e w1 ⟨rfl,hb1⟩))
      go_ret
      exact ⟨by rw [HE.out];rfl,(Below.refl _ _).alloc (Nat.le_refl _) _⟩
   ·have HE:=Lib.hid (show piece s[k] (s.data.toList.drop (k+1))=_ from piece_three (s:=s.data.toList) hk HP.out (.inr (.inl (by show s.size≤_;omega))))
    have i1:¬ (k:Int)<(s.size:Int) - 1:=by omega
    clear hbl
    cases b
    all_goals (try replace q2:=q2 rfl)
    all_goals
     go_enter Tryz.func101,Tryz.ntmps101
     go_wp2_with (first | (go_at_call 156;refine (plain_of_ref _ _ HP.out _).mono ?_;rintro e w1 ⟨rfl,rfl⟩) | (go_at_call 157;refine (pair_ref _ _).mono ?_;rintro e w1 ⟨rfl,hb1⟩))
     go_ret
     exact ⟨by rw [HE.out];exact r1 (vS (by simp [ByteArray.toList_data_append];rfl)),(by repeat (first | assumption | exact Below.refl _ _ | refine below_of ?_ (by assumption)))⟩
  ·have h32:¬ s[k]=32:=fun h=>hbl (.inl h)
   have h9:¬ s[k]=9:=fun h=>hbl (.inr h)
   have HE:=Lib.hid (show piece s[k] (s.data.toList.drop (k+1))=_ from piece_three (s:=s.data.toList) hk HP.out (.inl ⟨h32,h9⟩))
   have q1:((s[k].toNat:Int) == 32)=false:=by simp [← UInt8.toNat_inj] at h32 ⊢;omega
   have q2:((s[k].toNat:Int) == 9)=false:=by simp [← UInt8.toNat_inj] at h9 ⊢;omega
   clear hbl h32 h9
   go_enter Tryz.func101,Tryz.ntmps101
   go_wp2_with (first | (go_at_call 156;refine (plain_of_ref _ _ HP.out _).mono ?_;rintro e w1 ⟨rfl,rfl⟩) | (go_at_call 157;refine (pair_ref _ _).mono ?_;rintro e w1 ⟨rfl,hb1⟩))
   go_ret
   exact ⟨by rw [HE.out];exact r1 (vS (by simp [ByteArray.toList_data_append];rfl)),(by repeat (first | assumption | exact Below.refl _ _ | refine below_of ?_ (by assumption)))⟩
 ·have HE:=Lib.hid (show piece s[k] (s.data.toList.drop (k+1))=_ from piece_one (s:=s.data.toList) hk (.inl HP.out))
  by_cases h32:s[k]=32
  ·have:=HP.out;rw [h32] at this;cases this
  ·by_cases h9:s[k]=9
   ·have:=HP.out;rw [h9] at this;cases this
   ·have q1:((s[k].toNat:Int) == 32)=false:=by simp [← UInt8.toNat_inj] at h32 ⊢;omega
    have q2:((s[k].toNat:Int) == 9)=false:=by simp [← UInt8.toNat_inj] at h9 ⊢;omega
    clear h32 h9
    go_enter Tryz.func101,Tryz.ntmps101
    go_wp2_with (first | (go_at_call 156;refine (plain_of_ref _ _ HP.out _).mono ?_;rintro e w1 ⟨rfl,rfl⟩) | (go_at_call 157;refine (pair_ref _ _).mono ?_;rintro e w1 ⟨rfl,hb1⟩))
    go_ret
    exact ⟨by rw [HE.out];rfl,(Below.refl _ _).alloc (Nat.le_refl _) _⟩
end Go.Proofs.YtmpiobfdchlikaaGreatDoor
end
section
set_option synthInstance.maxSize 4000
namespace Nun
def readV:Option (List UInt8)→Go.Value
 | none=>.tuple #[.string ⟨#[]⟩,.int .i64 7]
 | some l=>.tuple #[.string ⟨l.toArray⟩,.int .i64 0]
attribute [simp] readV
end Nun
namespace Go.Proofs.YtmpiobfdchlikaaGreatDoor
open Go.RowKit Nun
end Go.Proofs.YtmpiobfdchlikaaGreatDoor
end
section
set_option synthInstance.maxSize 4000
namespace Nun
theorem take_snoc (s:List UInt8) (k:Nat) (h:k<s.length):s.take (k+1)=s.take k++[s[k]]:=by
 rw [List.take_succ_eq_append_getElem h]
end Nun
namespace Go.Proofs.YtmpiobfdchlikaaGreatDoor
open Go.RowKit Nun
end Go.Proofs.YtmpiobfdchlikaaGreatDoor
end
section
namespace Nun
theorem encL_nl {s:List UInt8} {k line:Nat} (hk:k<s.length) (h:s[k]=10):encL line (s.drop k)=[13,10]++encL 0 (s.drop (k+1)):=by
 rw [List.drop_eq_getElem_cons hk,encL,if_pos h];rfl
theorem encL_wrap {s:List UInt8} {k line:Nat} (hk:k<s.length) (h:s[k]≠10) {p:List UInt8} (hp:piece s[k] (s.drop (k+1))=p) (hl:line+p.length > 75):encL line (s.drop k)=[61,13,10]++p++encL p.length (s.drop (k+1)):=by
 rw [List.drop_eq_getElem_cons hk,encL,if_neg h,hp,if_pos hl];simp
theorem encL_on {s:List UInt8} {k line:Nat} (hk:k<s.length) (h:s[k]≠10) {p:List UInt8} (hp:piece s[k] (s.drop (k+1))=p) (hl:¬ line+p.length > 75):encL line (s.drop k)=p++encL (line+p.length) (s.drop (k+1)):=by
 rw [List.drop_eq_getElem_cons hk,encL,if_neg h,hp,if_neg hl]
end Nun
namespace Go.Proofs.YtmpiobfdchlikaaGreatDoor
open Go.RowKit Nun
theorem piece_of (s:ByteArray) (k:Nat) (p:List UInt8) (w:World) (hs:s.size≤1000000000) (hk:k<s.size) (h:piece s[k] (s.data.toList.drop (k+1))=p):Calls Tryz.prog 101 #[.string s,.int .i64 k] w (Ret (.string ⟨p.toArray⟩) w):=h ▸ piece_ref s k w hs hk
set_option maxHeartbeats 2000000 in
set_option maxRecDepth 100000 in
theorem enc_ref (s:ByteArray) (w:World) (hs:s.size≤1000000):Calls Tryz.prog 51 #[.string s] w (Ret (.string ⟨(encL 0 s.data.toList).toArray⟩) w):=by
 go_enter Tryz.func51,Tryz.ntmps51
 go_wp2
 go_loopw [3,4,5,6] (fun v l i _ wr=>∃ (k line:Nat) (acc:List UInt8),k≤s.size∧line≤75∧i=.int .i64 k∧l=.int .i64 line∧v=.string ⟨acc.toArray⟩∧acc.length≤6 * k∧Below w.heap.size w wr∧Hid (encL 0 s.data.toList=acc++encL line (s.data.toList.drop k)))
  (fun _ _ i _ _=>s.size - (intOf i).toNat)
 case atStart=>exact ⟨0,0,[],Nat.zero_le _,by omega,rfl,rfl,rfl,by simp,Below.refl _ _,Lib.hid (by simp)⟩
 case round =>
  obtain ⟨k,line,acc,hk,hline,rfl,rfl,rfl,hak,hbel,hacc⟩:=hrel
  by_cases hlt:k<s.size
  ·by_cases h10:s[k]=10
   ·have HN:=Lib.hid (hacc.out.trans (congrArg (acc++·) (encL_nl (s:=s.data.toList) (line:=line) hlt h10)))
    have q1:((s[k].toNat:Int) == 10)=true:=by rw [h10];rfl
    clear h10 hacc
    go_wp2
    go_roundw
    case rel=>exact ⟨k+1,0,acc++[13,10],by omega,by omega,by go_num,rfl,vS (by simp [ByteArray.toList_data_append]),by simp;omega,hbel,Lib.hid (by rw [HN.out];simp)⟩
    case measure=>simp [intOf];omega
   ·have q1:((s[k].toNat:Int) == 10)=false:=by simp [← UInt8.toNat_inj] at h10 ⊢;omega
    have hp2:=piece_len s[k] (s.data.toList.drop (k+1))
    generalize hp:piece s[k] (s.data.toList.drop (k+1))=p at hp2
    obtain ⟨hp0,hp3⟩:=hp2
    have HP:=Lib.hid hp;clear hp
    by_cases hl:line+p.length > 75
    ·have HN:=Lib.hid (hacc.out.trans (congrArg (acc++·) (encL_wrap (s:=s.data.toList) (line:=line) hlt h10 HP.out hl)))
     clear h10 hacc
     have q2:(75:Int)<(line:Int)+(p.length:Int):=by omega
     go_wp2_with (go_at_call 101;refine (piece_of _ _ _ _ (by omega) hlt HP.out).mono ?_;rintro e w1 ⟨rfl,hb1⟩)
     go_roundw
     case rel=>exact ⟨k+1,p.length,acc++([61,13,10]++p),by omega,by omega,by go_num,by simp,vS (by simp [ByteArray.toList_data_append]),by simp;omega,hbel.trans (hb1.mono hbel.size),Lib.hid (by rw [HN.out];simp)⟩
     case measure=>simp [intOf];omega
    ·have HN:=Lib.hid (hacc.out.trans (congrArg (acc++·) (encL_on (s:=s.data.toList) (line:=line) hlt h10 HP.out hl)))
     clear h10 hacc
     have q2:¬ (75:Int)<(line:Int)+(p.length:Int):=by omega
     go_wp2_with (go_at_call 101;refine (piece_of _ _ _ _ (by omega) hlt HP.out).mono ?_;rintro e w1 ⟨rfl,hb1⟩)
     go_roundw
     case rel=>exact ⟨k+1,line+p.length,acc++p,by omega,by omega,by go_num,by simp,vS (by simp [ByteArray.toList_data_append]),by simp;omega,hbel.trans (hb1.mono hbel.size),Lib.hid (by rw [HN.out];simp)⟩
     case measure=>simp [intOf];omega
  ·obtain rfl:k=s.size:=by omega
   go_wp2
   go_ret
   exact ⟨r1 (vs (by rw [hacc.out,show s.data.toList.drop s.size=[] from List.drop_of_length_le (Nat.le_refl _)];simp [encL])),hbel⟩
end Go.Proofs.YtmpiobfdchlikaaGreatDoor
end
section
namespace Nun
def pcAt (s:List UInt8) (k:Nat):List UInt8:=match s[k]? with | none=>[] | some c=>if c=10 then [] else piece c (s.drop (k+1))
abbrev Short:={ p:ByteArray // p.size≤3 }
def Short.bytes (p:Short):List UInt8:=p.1.data.toList
end Nun
namespace Go.Proofs.YtmpiobfdchlikaaGreatDoor
open Go.RowKit Nun
attribute [local go_sem] Oper.semAt_some
set_option maxHeartbeats 2000000 in
set_option maxRecDepth 100000 in
theorem pieces_stops (n:Nat) (hn:1≤n) (s:ByteArray) (hs:s.size≤1000000) (Bn:Nat) (w:World) (hbox:Boxed w Bn 9 (.string s)) :
 SeqStopsK Fence.wide n Tryz.prog 152 #[.pointer (some ⟨Bn,0,none⟩)] (fun p:Short=>#[.string p.1]) (KeepsAt Bn)
  (fun xs=>xs.map Short.bytes=(List.range s.size).map (pcAt s.data.toList)) (fun _=>True) s.size w:=fun l J Jx W hW hJ hJx hY h0=>by
 have hbx0:Boxed W Bn 9 (.string s):=(hW.block _ hbox.lt).trans hbox
 have hc0:=hbx0.cell
 have HX:=Lib.hid hbx0;clear hbx0
 refine callsIn_of_wp Tryz.func152 rfl trivial ?_ rfl
 simp only [Tryz.ntmps152,List.size_toArray,List.length_cons,List.length_nil,Nat.reduceAdd,Nat.reduceSub,Array.replicate_succ,Array.replicate_zero,List.push_toArray,List.append_toArray,List.nil_append,List.cons_append]
 gi_wp2
 gi_loopw [8] (fun v wr=>∃ (k:Nat) (pre:List Short),v=.int .i64 k∧k≤s.size∧Hid (pre.map Short.bytes=(List.range k).map (pcAt s.data.toList))∧Hid (J pre wr)∧Hid (Boxed wr Bn 9 (.string s)))
  (fun v _=>s.size - (intOf v).toNat)
 case atStart=>exact ⟨0,[],rfl,Nat.zero_le _,Lib.hid rfl,Lib.hid h0,HX⟩
 case round =>
  obtain ⟨k,pre,rfl,hk,hpre,hJs,hbx⟩:=hrel
  replace hJs:=hJs.out
  replace hbx:=hbx.out
  have hc2:=hbx.cell
  have hbl:=hbx.lt
  have hplen:pre.length=k:=by have:=congrArg List.length hpre.out;simpa using this
  by_cases hlt:k<s.size
  ·have hpl:(pair s[k]).length≤2:=by simp [pair]
   have hget:s.data.toList[k]? =some s[k]:=by rw [List.getElem?_eq_getElem (show k<s.data.toList.length from hlt)];rfl
   by_cases hnl:s[k]=10
   ·have HE:=Lib.hid (show pcAt s.data.toList k=[] by unfold pcAt;rw [hget];simp [hnl])
    have q0:((s[k].toNat:Int) == 10)=true:=by rw [hnl];rfl
    clear hget hnl
    gi_wp2_with (first | (refine ⟨trivial,?_⟩;gi_at_call 153;refine (callsIn_wide.2 (pair_any _ _)).mono ?_;rintro e w1 ⟨rfl,hb1⟩;have hJ1:=abides_below hJ hJs hb1;have hbx1:=(hb1.block _ hbl).trans hbx;have hc1:=Boxed.cell hbx1;obtain ⟨fn,tmps,assign,body,hy,hR⟩:=hY pre ⟨⟨#[]⟩,by decide⟩ w1 hJ1 (by omega);dsimp only at hy) | (refine ⟨trivial,?_⟩;gi_at_call 154;refine (callsIn_wide.2 (plain_of_qp _ _ HP.out _)).mono ?_;rintro e w2 ⟨rfl,rfl⟩))
    refine hR.mono ?_
    rintro e W3 (⟨rfl,hJ3,hk3⟩ | ⟨rfl,hx3⟩)
    ·gi_wp2
     go_roundw
     case rel=>exact ⟨k+1,pre++[⟨⟨#[]⟩,by decide⟩],by go_num,by omega,Lib.hid (by rw [List.map_append,hpre.out,List.range_succ,List.map_append,List.map_singleton,List.map_singleton,HE.out];rfl),Lib.hid hJ3,Lib.hid (Eq.trans hk3 hbx1)⟩
     case measure=>simp [intOf];omega
    ·gi_wp2
     refine bodyPost_ret (results_none rfl _ _ _) rfl ?_
     exact ⟨⟨_,rfl⟩,.inr ⟨_,trivial,hx3⟩⟩
   ·have hpc:pcAt s.data.toList k=piece s[k] (s.data.toList.drop (k+1)):=by unfold pcAt;rw [hget];simp [hnl]
    have q0:((s[k].toNat:Int) == 10)=false:=by simp [← UInt8.toNat_inj] at hnl ⊢;omega
    clear hget hnl
    generalize hp:plainB s[k]=bp
    have HP:=Lib.hid hp;clear hp
    cases bp
    ·by_cases hbk:s[k]=32∨s[k]=9
     ·have q:∃ b,((s[k].toNat:Int) == 32)=b∧(b=false→((s[k].toNat:Int) == 9)=true):=by
       refine ⟨_,rfl,fun h=>?_⟩
       rcases hbk with h' | h'
       ·rw [h'] at h;cases h
       ·rw [h'];rfl
      obtain ⟨b,q1,q2⟩:=q
      by_cases hnx:k+1<s.size
      ·have i2:(k:Int)+1<(s.size:Int):=by omega
       by_cases h10:s[k+1]=10
       ·have HE:=Lib.hid (hpc.trans (piece_three (s:=s.data.toList) hlt HP.out (.inr (.inr ⟨hnx,h10⟩))))
        have q3:((s[k+1].toNat:Int) == 10)=true:=by rw [h10];rfl
        have q4:((s[k+1].toNat:Int) != 10)=false:=by rw [h10];rfl
        clear h10 hbk hpc
        cases b
        all_goals (try replace q2:=q2 rfl)
        all_goals
         gi_wp2_with (first | (refine ⟨trivial,?_⟩;gi_at_call 153;refine (callsIn_wide.2 (pair_any _ _)).mono ?_;rintro e w1 ⟨rfl,hb1⟩;have hJ1:=abides_below hJ hJs hb1;have hbx1:=(hb1.block _ hbl).trans hbx;have hc1:=Boxed.cell hbx1;obtain ⟨fn,tmps,assign,body,hy,hR⟩:=hY pre ⟨⟨#[61]⟩++⟨(pair s[k]).toArray⟩,by simp [ByteArray.size_append,mk_size,pair]⟩ w1 hJ1 (by omega);dsimp only at hy) | (refine ⟨trivial,?_⟩;gi_at_call 154;refine (callsIn_wide.2 (plain_of_qp _ _ HP.out _)).mono ?_;rintro e w2 ⟨rfl,rfl⟩))
         refine hR.mono ?_
         rintro e W3 (⟨rfl,hJ3,hk3⟩ | ⟨rfl,hx3⟩)
         ·gi_wp2
          go_roundw
          case rel=>exact ⟨k+1,pre++[⟨⟨#[61]⟩++⟨(pair s[k]).toArray⟩,by simp [ByteArray.size_append,mk_size,pair]⟩],by go_num,by omega,Lib.hid (by rw [List.map_append,hpre.out,List.range_succ,List.map_append,List.map_singleton,List.map_singleton,HE.out];exact congrArg (fun z=>List.map (pcAt s.data.toList) (List.range k)++[z]) ((ByteArray.toList_data_append).trans rfl)),Lib.hid hJ3,Lib.hid (Eq.trans hk3 hbx1)⟩
          case measure=>simp [intOf];omega
         ·gi_wp2
          refine bodyPost_ret (results_none rfl _ _ _) rfl ?_
          exact ⟨⟨_,rfl⟩,.inr ⟨_,trivial,hx3⟩⟩
       ·have HE:=Lib.hid (hpc.trans (piece_one (s:=s.data.toList) hlt (.inr ⟨hbk,hnx,h10⟩)))
        have q3:((s[k+1].toNat:Int) == 10)=false:=by simp [← UInt8.toNat_inj] at h10 ⊢;omega
        have q4:((s[k+1].toNat:Int) != 10)=true:=by simp [← UInt8.toNat_inj] at h10 ⊢;omega
        clear h10 hbk hpc
        cases b
        all_goals (try replace q2:=q2 rfl)
        all_goals
         gi_wp2_with (first | (refine ⟨trivial,?_⟩;gi_at_call 153;refine (callsIn_wide.2 (pair_any _ _)).mono ?_;rintro e w1 ⟨rfl,hb1⟩;have hJ1:=abides_below hJ hJs hb1;have hbx1:=(hb1.block _ hbl).trans hbx;have hc1:=Boxed.cell hbx1;obtain ⟨fn,tmps,assign,body,hy,hR⟩:=hY pre ⟨s.extract k (k+1),by simp [ByteArray.size_extract];omega⟩ w1 hJ1 (by omega);dsimp only at hy) | (refine ⟨trivial,?_⟩;gi_at_call 154;refine (callsIn_wide.2 (plain_of_qp _ _ HP.out _)).mono ?_;rintro e w2 ⟨rfl,rfl⟩))
         refine hR.mono ?_
         rintro e W3 (⟨rfl,hJ3,hk3⟩ | ⟨rfl,hx3⟩)
         ·gi_wp2
          go_roundw
          case rel=>exact ⟨k+1,pre++[⟨s.extract k (k+1),by simp [ByteArray.size_extract];omega⟩],by go_num,by omega,Lib.hid (by rw [List.map_append,hpre.out,List.range_succ,List.map_append,List.map_singleton,List.map_singleton,HE.out];exact congrArg (fun z=>List.map (pcAt s.data.toList) (List.range k)++[z]) ((ext1 s k hlt).trans rfl)),Lib.hid hJ3,Lib.hid (Eq.trans hk3 hbx1)⟩
          case measure=>simp [intOf];omega
         ·gi_wp2
          refine bodyPost_ret (results_none rfl _ _ _) rfl ?_
          exact ⟨⟨_,rfl⟩,.inr ⟨_,trivial,hx3⟩⟩
      ·have HE:=Lib.hid (hpc.trans (piece_three (s:=s.data.toList) hlt HP.out (.inr (.inl (by show s.size≤_;omega)))))
       have i1:¬ (k:Int)+1<(s.size:Int):=by omega
       clear hbk hpc
       cases b
       all_goals (try replace q2:=q2 rfl)
       all_goals
        gi_wp2_with (first | (refine ⟨trivial,?_⟩;gi_at_call 153;refine (callsIn_wide.2 (pair_any _ _)).mono ?_;rintro e w1 ⟨rfl,hb1⟩;have hJ1:=abides_below hJ hJs hb1;have hbx1:=(hb1.block _ hbl).trans hbx;have hc1:=Boxed.cell hbx1;obtain ⟨fn,tmps,assign,body,hy,hR⟩:=hY pre ⟨⟨#[61]⟩++⟨(pair s[k]).toArray⟩,by simp [ByteArray.size_append,mk_size,pair]⟩ w1 hJ1 (by omega);dsimp only at hy) | (refine ⟨trivial,?_⟩;gi_at_call 154;refine (callsIn_wide.2 (plain_of_qp _ _ HP.out _)).mono ?_;rintro e w2 ⟨rfl,rfl⟩))
        refine hR.mono ?_
        rintro e W3 (⟨rfl,hJ3,hk3⟩ | ⟨rfl,hx3⟩)
        ·gi_wp2
         go_roundw
         case rel=>exact ⟨k+1,pre++[⟨⟨#[61]⟩++⟨(pair s[k]).toArray⟩,by simp [ByteArray.size_append,mk_size,pair]⟩],by go_num,by omega,Lib.hid (by rw [List.map_append,hpre.out,List.range_succ,List.map_append,List.map_singleton,List.map_singleton,HE.out];exact congrArg (fun z=>List.map (pcAt s.data.toList) (List.range k)++[z]) ((ByteArray.toList_data_append).trans rfl)),Lib.hid hJ3,Lib.hid (Eq.trans hk3 hbx1)⟩
         case measure=>simp [intOf];omega
        ·gi_wp2
         refine bodyPost_ret (results_none rfl _ _ _) rfl ?_
         exact ⟨⟨_,rfl⟩,.inr ⟨_,trivial,hx3⟩⟩
     ·have h32:¬ s[k]=32:=fun h=>hbk (.inl h)
      have h9:¬ s[k]=9:=fun h=>hbk (.inr h)
      have HE:=Lib.hid (hpc.trans (piece_three (s:=s.data.toList) hlt HP.out (.inl ⟨h32,h9⟩)))
      have q1:((s[k].toNat:Int) == 32)=false:=by simp [← UInt8.toNat_inj] at h32 ⊢;omega
      have q2:((s[k].toNat:Int) == 9)=false:=by simp [← UInt8.toNat_inj] at h9 ⊢;omega
      clear hbk h32 h9 hpc
      gi_wp2_with (first | (refine ⟨trivial,?_⟩;gi_at_call 153;refine (callsIn_wide.2 (pair_any _ _)).mono ?_;rintro e w1 ⟨rfl,hb1⟩;have hJ1:=abides_below hJ hJs hb1;have hbx1:=(hb1.block _ hbl).trans hbx;have hc1:=Boxed.cell hbx1;obtain ⟨fn,tmps,assign,body,hy,hR⟩:=hY pre ⟨⟨#[61]⟩++⟨(pair s[k]).toArray⟩,by simp [ByteArray.size_append,mk_size,pair]⟩ w1 hJ1 (by omega);dsimp only at hy) | (refine ⟨trivial,?_⟩;gi_at_call 154;refine (callsIn_wide.2 (plain_of_qp _ _ HP.out _)).mono ?_;rintro e w2 ⟨rfl,rfl⟩))
      refine hR.mono ?_
      rintro e W3 (⟨rfl,hJ3,hk3⟩ | ⟨rfl,hx3⟩)
      ·gi_wp2
       go_roundw
       case rel=>exact ⟨k+1,pre++[⟨⟨#[61]⟩++⟨(pair s[k]).toArray⟩,by simp [ByteArray.size_append,mk_size,pair]⟩],by go_num,by omega,Lib.hid (by rw [List.map_append,hpre.out,List.range_succ,List.map_append,List.map_singleton,List.map_singleton,HE.out];exact congrArg (fun z=>List.map (pcAt s.data.toList) (List.range k)++[z]) ((ByteArray.toList_data_append).trans rfl)),Lib.hid hJ3,Lib.hid (Eq.trans hk3 hbx1)⟩
       case measure=>simp [intOf];omega
      ·gi_wp2
       refine bodyPost_ret (results_none rfl _ _ _) rfl ?_
       exact ⟨⟨_,rfl⟩,.inr ⟨_,trivial,hx3⟩⟩
    ·have HE:=Lib.hid (hpc.trans (piece_one (s:=s.data.toList) hlt (.inl HP.out)))
     clear hpc
     gi_wp2_with (first | (refine ⟨trivial,?_⟩;gi_at_call 153;refine (callsIn_wide.2 (pair_any _ _)).mono ?_;rintro e w1 ⟨rfl,hb1⟩;have hJ1:=abides_below hJ hJs hb1;have hbx1:=(hb1.block _ hbl).trans hbx;have hc1:=Boxed.cell hbx1;obtain ⟨fn,tmps,assign,body,hy,hR⟩:=hY pre ⟨s.extract k (k+1),by simp [ByteArray.size_extract];omega⟩ w1 hJ1 (by omega);dsimp only at hy) | (refine ⟨trivial,?_⟩;gi_at_call 154;refine (callsIn_wide.2 (plain_of_qp _ _ HP.out _)).mono ?_;rintro e w2 ⟨rfl,rfl⟩))
     refine hR.mono ?_
     rintro e W3 (⟨rfl,hJ3,hk3⟩ | ⟨rfl,hx3⟩)
     ·gi_wp2
      go_roundw
      case rel=>exact ⟨k+1,pre++[⟨s.extract k (k+1),by simp [ByteArray.size_extract];omega⟩],by go_num,by omega,Lib.hid (by rw [List.map_append,hpre.out,List.range_succ,List.map_append,List.map_singleton,List.map_singleton,HE.out];exact congrArg (fun z=>List.map (pcAt s.data.toList) (List.range k)++[z]) ((ext1 s k hlt).trans rfl)),Lib.hid hJ3,Lib.hid (Eq.trans hk3 hbx1)⟩
      case measure=>simp [intOf];omega
     ·gi_wp2
      refine bodyPost_ret (results_none rfl _ _ _) rfl ?_
      exact ⟨⟨_,rfl⟩,.inr ⟨_,trivial,hx3⟩⟩
  ·obtain rfl:k=s.size:=by omega
   gi_wp2
   go_end0
   exact ⟨⟨_,rfl⟩,.inl ⟨pre,hpre.out,hJs⟩⟩
end Go.Proofs.YtmpiobfdchlikaaGreatDoor
end
section
namespace Nun
def est (st:Nat × List UInt8) (p:List UInt8):Nat × List UInt8 :=
 if p=[] then (0,st.2++[13,10]) else if p.length≤75 - st.1 then (st.1+p.length,st.2++p) else (p.length,st.2++[61,13,10]++p)
def estL (ps:List (List UInt8)):Nat × List UInt8:=ps.foldl est (0,[])
theorem estL_snoc (ps:List (List UInt8)) (p:List UInt8):estL (ps++[p])=est (estL ps) p:=by simp [estL]
theorem est_bd {st:Nat × List UInt8} {p:List UInt8} {n:Nat} (hp:p.length≤3) (h:st.1≤75∧st.2.length≤6 * n):(est st p).1≤75∧(est st p).2.length≤6 * (n+1):=by
 unfold est
 split
 ·simp;omega
 ·split
  ·simp;omega
  ·simp;omega
theorem foldl_bd (ps:List Short):∀ (st:Nat × List UInt8) (n:Nat),(st.1≤75∧st.2.length≤6 * n)→((ps.map Short.bytes).foldl est st).1≤75∧((ps.map Short.bytes).foldl est st).2.length≤6 * (n+ps.length):=by
 induction ps with
 | nil=>intro st n h;simpa using h
 | cons x l ih =>
   intro st n h
   have:=ih (est st x.bytes) (n+1) (est_bd x.2 h)
   simp only [List.map_cons,List.foldl_cons,List.length_cons]
   rw [show n+(l.length+1)=n+1+l.length by omega]
   exact this
theorem estL_bd (ps:List Short):(estL (ps.map Short.bytes)).1≤75∧(estL (ps.map Short.bytes)).2.length≤6 * ps.length:=by
 have:=foldl_bd ps (0,[]) 0 (by simp)
 simpa [estL] using this
theorem estL_enc (s:List UInt8):∀ k,k≤s.length→encL 0 s=(estL ((List.range k).map (pcAt s))).2++encL (estL ((List.range k).map (pcAt s))).1 (s.drop k)∧(estL ((List.range k).map (pcAt s))).1≤75:=by
 intro k
 induction k with
 | zero=>intro _;simp [estL]
 | succ k ih =>
   intro hk
   obtain ⟨h1,h2⟩:=ih (by omega)
   rw [List.range_succ,List.map_append,List.map_singleton,estL_snoc]
   generalize estL ((List.range k).map (pcAt s))=st at h1 h2
   have hlt:k<s.length:=by omega
   unfold pcAt
   rw [List.getElem?_eq_getElem hlt]
   simp only
   by_cases h10:s[k]=10
   ·rw [if_pos h10]
    unfold est
    rw [if_pos rfl,h1,encL_nl hlt h10];simp
   ·rw [if_neg h10]
    have hp:=piece_len s[k] (s.drop (k+1))
    generalize hpp:piece s[k] (s.drop (k+1))=p at hp
    unfold est
    rw [if_neg (by intro h;rw [h] at hp;simp at hp)]
    by_cases hl:p.length≤75 - st.1
    ·rw [if_pos hl,h1,encL_on hlt h10 hpp (by omega)];simp;omega
    ·rw [if_neg hl,h1,encL_wrap hlt h10 hpp (by omega)];simp;omega
theorem estL_all (s:List UInt8):(estL ((List.range s.length).map (pcAt s))).2=encL 0 s:=by
 have:=(estL_enc s s.length (Nat.le_refl _)).1
 rw [List.drop_of_length_le (Nat.le_refl _)] at this
 simpa [encL] using this.symm
end Nun
namespace Go.Proofs.YtmpiobfdchlikaaGreatDoor
open Go.RowKit Nun
attribute [local go_sem] Oper.semAt_some
theorem Bd.own {β:Type} (B b:Nat) (f:β→List UInt8):Own (fun (s:β) W=>Bd B b (f s) W):=by
 intro s W W' row h hg hr
 have kk:∀ p,Lib.BuilderAtF 59 5 B b p (Lib.byteCells (f s)) W→Lib.BuilderAtF 59 5 B b p (Lib.byteCells (f s)) W':=by
  rintro p ⟨hB,v,hb,hown,hne⟩
  have ne:∀ g o,W.heap[g]? =some o→o.isCells=true→some g≠row:=by
   intro g o hgo hoc e
   obtain ⟨o',ho',hc'⟩:=hr g e.symm
   rw [hgo] at ho';cases ho';rw [hoc] at hc';cases hc'
  refine ⟨hB,v,(hg.block b (Array.getElem?_eq_some_iff.1 hb).1 (ne b _ hb rfl)).trans hb,hown.kept hg ?_,hne⟩
  rcases hv:v.ownBlock with _ | g
  ·exact .inl rfl
  ·obtain ⟨c,fz,hgg⟩:=Lib.ownsRowF_kind hown g hv
   exact .inr (ne g _ hgg rfl)
 rcases h with h | h
 ·exact .inl (kk _ h)
 ·exact .inr (kk _ h)
theorem Bd.set {B b k:Nat} {l:List UInt8} {w:World} {t:TypeId} {v:Value} (v':Value) (h:Bd B b l w) (hbx:Boxed w k t v) (hkb:k≠b) (ht:t≠5):Bd B b l (w.setCell ⟨k,0,none⟩ v'):=by
 have kk:∀ p,Lib.BuilderAtF 59 5 B b p (Lib.byteCells l) w→Lib.BuilderAtF 59 5 B b p (Lib.byteCells l) (w.setCell ⟨k,0,none⟩ v'):=by
  rintro p ⟨hB,v,hb,hown,hne⟩
  exact ⟨hB,v,(Below.heap_setCell _ _ _ _ (fun e=>hkb e.symm)).trans hb,hown.kept (row:=some k) ⟨rfl,rfl,rfl,by simp [World.setCell],fun i _ hi=>Below.heap_setCell _ _ _ _ (fun e=>hi (by simp [e]))⟩ (.inr (Lib.ownBlock_neF hown hbx ht)),hne⟩
 rcases h with h | h
 ·exact .inl (kk _ h)
 ·exact .inr (kk _ h)
theorem boxed_kept {e b k:Nat} {t:TypeId} {v:Value} {w w':World} (h:Lib.OthersKept e (some b) w w') (hb:Boxed w k t v) (hkb:k≠b) (ht:t≠e):Boxed w' k t v :=
 h k _ hb (fun e=>hkb (by cases e;rfl)) (fun c fz e=>by cases e;exact ht rfl)
theorem Bd.isCells {B b:Nat} {l:List UInt8} {w:World} (h:Bd B b l w):∃ o:Obj,w.heap[b]? =some o∧o.isCells=true:=by
 rcases h with ⟨_,v,hb,_⟩ | ⟨_,v,hb,_⟩<;>exact ⟨_,hb,rfl⟩
set_option maxHeartbeats 400000 in
theorem pieces_any (s:ByteArray) (w:World):Calls Tryz.prog 96 #[.string s] w fun e w'=>e=.returned (.func (.func 152) #[] #[.pointer (some ⟨w.heap.size,0,none⟩)])∧w'=w.alloc (.cells #[.string s] 9):=by
 go_enter Tryz.func96,Tryz.ntmps96
 go_wp2
 go_ret
 exact ⟨rfl,rfl⟩
set_option maxHeartbeats 2000000 in
set_option maxRecDepth 100000 in
theorem enc_qp (s:ByteArray) (w:World) (hs:s.size≤1000000):Calls Tryz.prog 48 #[.string s] w (Ret (.string ⟨(encL 0 s.data.toList).toArray⟩) w):=by
 refine (callsIn_wide (n:=3)).1 ?_
 refine callsIn_of_wp_marks Tryz.func48 rfl trivial ?_ rfl
 simp only [Tryz.ntmps48,List.size_toArray,List.length_cons,List.length_nil,Nat.reduceAdd,Nat.reduceSub,Array.replicate_succ,Array.replicate_zero,List.push_toArray,List.append_toArray,List.nil_append,List.cons_append]
 gi_wp2_with (refine ⟨trivial,?_⟩;gi_at_call 96;refine (callsIn_wide.2 (pieces_any _ _)).mono ?_;rintro e w' ⟨rfl,rfl⟩)
 have hB0:Below w.heap.size w (((w.alloc (.cells #[.pointer none,.slice none 0 0] 59)).alloc (.cells #[.int .i64 0] 3)).alloc (.cells #[.string s] 9)):=(((Below.refl _ w).alloc (Nat.le_refl _) _).alloc (by simp) _).alloc (by simp;omega) _
 have hbd0:Bd w.heap.size w.heap.size [] (((w.alloc (.cells #[.pointer none,.slice none 0 0] 59)).alloc (.cells #[.int .i64 0] 3)).alloc (.cells #[.string s] 9)):=((Bd.fresh w).alloc _).alloc _
 have hl0:Boxed (((w.alloc (.cells #[.pointer none,.slice none 0 0] 59)).alloc (.cells #[.int .i64 0] 3)).alloc (.cells #[.string s] 9)) (w.heap.size+1) 3 (.int .i64 0):=by
  have:=Boxed.new (w.alloc (.cells #[.pointer none,.slice none 0 0] 59)) 3 (.int .i64 0)
  rw [World.size_alloc] at this
  exact this.alloc _
 have hs0:Boxed (((w.alloc (.cells #[.pointer none,.slice none 0 0] 59)).alloc (.cells #[.int .i64 0] 3)).alloc (.cells #[.string s] 9)) (w.heap.size+1+1) 9 (.string s):=by
  have:=Boxed.new ((w.alloc (.cells #[.pointer none,.slice none 0 0] 59)).alloc (.cells #[.int .i64 0] 3)) 9 (.string s)
  rw [World.size_alloc,World.size_alloc] at this
  exact this
 refine wpIn_rangeFunc_ownF rfl (by omega) (gf:=152) (lb:=#[.pointer (some ⟨w.heap.size+1+1,0,none⟩)]) rfl trivial (enters_of Tryz.func152 (by kernel_rfl) rfl)
  (pieces_stops _ (by omega) s hs (w.heap.size+1+1) _ hs0) keepsAt_t (keepsAt_b (by simp)) (Below.refl _ _) (fun _=>rfl)
  (fun pre W=>(Bd w.heap.size w.heap.size (estL (pre.map Short.bytes)).2 W∧Boxed W (w.heap.size+1) 3 (.int .i64 (estL (pre.map Short.bytes)).1)∧Boxed W (w.heap.size+1+1) 9 (.string s))∧Below w.heap.size w W)
  (fun _ _ _=>False)
  (OwnFrom.and (OwnFrom.and (Own.from (Bd.own _ _ _) _) (OwnFrom.and (Own.from (boxed_own _ _ _) _) (Own.from (boxed_own _ _ _) _))) (ownFrom_below (Nat.le_refl _) (by simp;omega)))
  (fun _ _ _ _ _ hs _ _=>hs)
  ⟨⟨hbd0,hl0,hs0⟩,hB0⟩
  (fun x=>{ tmps:=#[.string s,undef,.string ⟨#[]⟩,.pointer (some ⟨w.heap.size,0,none⟩),.pointer (some ⟨w.heap.size+1,0,none⟩),.string x.1,.string s,
    .func (.func 152) #[] #[.pointer (some ⟨w.heap.size+1+1,0,none⟩)],.string x.1,undef,undef,undef,undef,undef,undef,undef,undef,undef,undef,undef,undef,undef,undef,undef,undef],defers:=[] }) ?assign ?body ?done ?stop
 case assign =>
  intro l x W K hK
  gi_wp2
  exact hK
 case body =>
  rintro l pre x W ⟨⟨hbd,hbx,hsx⟩,hB⟩ hlen
  have hbnd:=estL_bd pre
  have hc:=hbx.cell
  have hf:=hbx.frozen
  have hst:estL ((pre++[x]).map Short.bytes)=est (estL (pre.map Short.bytes)) x.bytes:=by rw [List.map_append,List.map_singleton,estL_snoc]
  generalize hst0:estL (pre.map Short.bytes)=st at hbd hbx hbnd hc hst
  obtain ⟨line,out⟩:=st
  obtain ⟨hb1,hb2⟩:=hbnd
  dsimp only at hbd hbx hb1 hb2 hc
  have HBX:=Lib.hid hbx;have HSX:=Lib.hid hsx;have HST:=Lib.hid hst;clear hbx hsx hst hst0
  obtain ⟨p,hp⟩:=x
  simp only [Short.bytes] at HST
  have hcl:=hbd.isCells
  have HCL:=Lib.hid hcl;clear hcl
  have hlen2:p.data.toList.length=p.size:=rfl
  have HL:=Lib.hid hlen2;clear hlen2
  dsimp only
  by_cases he:p.data.toList=[]
  ·obtain rfl:p=⟨#[]⟩:=by cases p with | mk d=>cases d with | mk l=>simp at he;subst he;rfl
   clear he
   gi_wp2
   refine wpIn_scope_once 0 (fun _ _=>False) rfl (fun l a w h=>h.2.elim) ?_ (fun _ _ h=>h.elim)
   gi_wp2_with (first | (refine ⟨trivial,?_⟩;gi_at_call 47;refine (CallsIn.inRound l (callsIn_wide.2 (bd_string _ _ _ _ _ hbd (by show out.length+2≤_;omega)))).mono ?_;rintro e w2 ⟨rfl,hbd2,hbw2,hkw2⟩;have hxw2:=boxed_kept hkw2 HBX.out (by simp) (by decide);have hcw2:=Boxed.cell hxw2;have hfw2:=Boxed.frozen hxw2;have HXw2:=Lib.hid hxw2;clear hxw2))
   exact ⟨(keeps_kept hbw2.size hkw2 HCL.out).trans (KeepsOthers.setCell _ _ _),(Below.heap_setCell _ _ _ _ (by simp<;>omega)).trans ((boxed_kept hkw2 HSX.out (by simp<;>omega) (by decide)).trans HSX.out.symm),⟨by rw [HST.out];exact hbd2.set _ HXw2.out (by simp<;>omega) (by decide),by rw [HST.out];exact HXw2.out.set _,(Below.heap_setCell _ _ _ _ (by simp<;>omega)).trans (boxed_kept hkw2 HSX.out (by simp<;>omega) (by decide))⟩,(hB.trans hbw2).setCell (p:=⟨w.heap.size+1,0,none⟩) (by simp) _⟩
  ·have HE:=Lib.hid he;clear he
   have e1:p.toList=[] ↔ False:=by rw [Lib.toList_data];exact iff_of_false HE.out id
   have e2:p.toList.isEmpty=false:=by
    rw [Lib.toList_data]
    cases h:p.data.toList with
    | nil=>exact absurd h HE.out
    | cons _ _=>rfl
   by_cases hfit:p.size≤75 - line
   ·have i1:(p.size:Int)≤75 - (line:Int):=by omega
    gi_wp2
    refine wpIn_scope_once 0 (fun _ _=>False) rfl (fun l a w h=>h.2.elim) ?_ (fun _ _ h=>h.elim)
    gi_wp2
    refine wpIn_label ?_
    gi_wp2_with (first | (refine ⟨trivial,?_⟩;gi_at_call 47;refine (CallsIn.inRound l (callsIn_wide.2 (bd_string _ _ _ _ _ hbd (by omega)))).mono ?_;rintro e w2 ⟨rfl,hbd2,hbw2,hkw2⟩;have hxw2:=boxed_kept hkw2 HBX.out (by simp) (by decide);have hcw2:=Boxed.cell hxw2;have hfw2:=Boxed.frozen hxw2;have HXw2:=Lib.hid hxw2;clear hxw2))
    have HI:est (line,out) p.data.toList=(line+p.size,out++p.data.toList):=by
     unfold est;rw [if_neg HE.out,if_pos (by rw [HL.out];exact hfit),HL.out]
    have hs2:=boxed_kept hkw2 HSX.out (by omega) (by decide)
    exact ⟨(keeps_kept hbw2.size hkw2 HCL.out).trans (KeepsOthers.setCell _ _ _),(Below.heap_setCell _ _ _ _ (by simp<;>omega)).trans (hs2.trans HSX.out.symm),⟨by rw [HST.out,HI];exact hbd2.set _ HXw2.out (by simp) (by decide),by rw [HST.out,HI];exact HXw2.out.set _,(Below.heap_setCell _ _ _ _ (by simp<;>omega)).trans hs2⟩,(hB.trans hbw2).setCell (p:=⟨w.heap.size+1,0,none⟩) (by simp) _⟩
   ·have i1:decide ((p.size:Int)≤75 - (line:Int))=false:=by simp;omega
    have HI:est (line,out) p.data.toList=(p.size,out++[61,13,10]++p.data.toList):=by
     unfold est;rw [if_neg HE.out,if_neg (by rw [HL.out];exact hfit),HL.out]
    have HII:=Lib.hid HI;clear HI
    gi_wp2
    refine wpIn_scope_once 0 (fun a' W'=>a'={ tmps:=#[.string s,undef,.string ⟨#[]⟩,.pointer (some ⟨w.heap.size,0,none⟩),.pointer (some ⟨w.heap.size+1,0,none⟩),.string p,.string s,
     .func (.func 152) #[] #[.pointer (some ⟨w.heap.size+1+1,0,none⟩)],.string p,.string p,.bool false,undef,.string p,.int .i64 p.size,.int .i64 line,.int .i64 (75 - line),.bool false,undef,undef,undef,undef,undef,undef,.tuple #[.int .i64 3,.nilIface],undef],defers:=[] } ∧
     Bd w.heap.size w.heap.size (out++[61,13,10]) W'∧Boxed W' (w.heap.size+1) 3 (.int .i64 0)∧Boxed W' (w.heap.size+1+1) 9 (.string s)∧KeepsOthers W W'∧Below w.heap.size w W') rfl (fun l a w h=>h.2.elim) ?_ ?_
    ·gi_wp2
     refine wpIn_label ?_
     gi_wp2_with (first | (refine ⟨trivial,?_⟩;gi_at_call 47;refine (CallsIn.inRound l (callsIn_wide.2 (bd_string _ _ _ _ _ hbd (by show out.length+3≤_;omega)))).mono ?_;rintro e w2 ⟨rfl,hbd2,hbw2,hkw2⟩;have hxw2:=boxed_kept hkw2 HBX.out (by simp) (by decide);have hcw2:=Boxed.cell hxw2;have hfw2:=Boxed.frozen hxw2;have HXw2:=Lib.hid hxw2;clear hxw2))
     have hs2:=boxed_kept hkw2 HSX.out (by omega) (by decide)
     refine wpIn_goto ?_
     exact ⟨rfl,rfl,hbd2.set _ HXw2.out (by simp) (by decide),HXw2.out.set _,(Below.heap_setCell _ _ _ _ (by simp<;>omega)).trans hs2,(keeps_kept hbw2.size hkw2 HCL.out).trans (KeepsOthers.setCell _ _ _),(hB.trans hbw2).setCell (p:=⟨w.heap.size+1,0,none⟩) (by simp) _⟩
    ·rintro a' W' ⟨rfl,hbd3,hbx3,hsx3,hk3,hB3⟩
     clear hc hf
     have hc3:=hbx3.cell
     have hf3:=hbx3.frozen
     have HX3:=Lib.hid hbx3;have HS3:=Lib.hid hsx3;clear hbx3 hsx3
     have i2:(p.size:Int)≤75:=by omega
     gi_wp2_with (first | (refine ⟨trivial,?_⟩;gi_at_call 47;refine (CallsIn.inRound l (callsIn_wide.2 (bd_string _ _ _ _ _ hbd3 (by simp;omega)))).mono ?_;rintro e w4 ⟨rfl,hbd4,hbw4,hkw4⟩;have hxw4:=boxed_kept hkw4 HX3.out (by simp) (by decide);have hcw4:=Boxed.cell hxw4;have hfw4:=Boxed.frozen hxw4;have HXw4:=Lib.hid hxw4;clear hxw4))
     have hs4:=boxed_kept hkw4 HS3.out (by omega) (by decide)
     exact ⟨hk3.trans ((keeps_kept hbw4.size hkw4 hbd3.isCells).trans (KeepsOthers.setCell _ _ _)),(Below.heap_setCell _ _ _ _ (by simp<;>omega)).trans (hs4.trans HSX.out.symm),⟨by rw [HST.out,HII.out];exact hbd4.set _ HXw4.out (by simp) (by decide),by rw [HST.out,HII.out];exact HXw4.out.set _,(Below.heap_setCell _ _ _ _ (by simp<;>omega)).trans hs4⟩,(hB3.trans hbw4).setCell (p:=⟨w.heap.size+1,0,none⟩) (by simp) _⟩
 case done =>
  rintro D ys W hD hS ⟨⟨hbd,hbx,hsx⟩,hB⟩ hK
  have HK:=Lib.hid hK;clear hK
  have HBX:=Lib.hid hbx;have HSX:=Lib.hid hsx;clear hbx hsx
  gi_wp2_with (first | (refine ⟨trivial,?_⟩;gi_at_call 28;refine (callsIn_wide.2 (bd_text _ _ _ _ hbd)).mono ?_;rintro e w2 ⟨rfl,hbd2,hb2,hk2⟩))
  have hcl:=hbd.isCells
  have hK2:=(keeps_kept hb2.size hk2 hcl).same D _ HK.out rfl
  refine ⟨by simp,.inl ⟨_,_,rfl,run_takeDeferred hK2,?_⟩⟩
  have hfin:(⟨(estL ((List.range s.size).map (pcAt s.data.toList))).2.toArray⟩:ByteArray)=⟨(encL 0 s.data.toList).toArray⟩:=by rw [show s.size=s.data.toList.length from rfl,estL_all]
  exact ⟨_,results_tmp (t:=2) rfl _ _ _,congrArg (fun z=>Ending.returned (.string z)) hfin,(hB.trans hb2).trans (belowK_b (w:=w) (Nat.le_refl _) _ D _ _ (by simp at hD;omega) hK2 rfl rfl)⟩
 case stop =>
  rintro D c pre W _ _ h _
  exact h.elim
end Go.Proofs.YtmpiobfdchlikaaGreatDoor
end
section
namespace Go.Proofs.YtmpiobfdchlikaaGreatDoor
open Go.RowKit Nun
def oneF (k:FuncId) (g:List Value→Option Value):FuncId→List Value→Option Value:=fun f vs=>if f=k then g vs else none
theorem oneF_ok {Γ:Glob} {k:FuncId} {g:List Value→Option Value} (hk:k≠yldF) (h:FlatOk Tryz.prog Γ k g):CallOk Tryz.prog Γ (flatLib (oneF k g)):=flatLib_ok (fun f vs v hv=>by
 unfold oneF at hv
 split at hv
 ·rename_i e;rw [e];exact hk
 ·cases hv) (fun f vs v hv=>by
 have e:f=k:=by
  unfold oneF at hv
  split at hv
  ·assumption
  ·cases hv
 subst e
 have:oneF f g f=g:=by funext vs;unfold oneF;rw [if_pos rfl]
 rw [this];exact h)
theorem oneF_at {k:FuncId} {g:List Value→Option Value} {args:List PV} {vs:List Value} {v:Value} (h1:flats args=some vs) (h2:g vs=some v):flatLib (oneF k g) k args [] []=some ([.flat v],false,[],[]):=by
 unfold flatLib oneF
 dsimp only
 rw [h1,Option.bind_some,if_pos rfl,h2];rfl
theorem oneF_no {k f:FuncId} {g:List Value→Option Value} {args:List PV} (h:f≠k):flatLib (oneF k g) f args [] []=none:=by
 unfold flatLib oneF
 dsimp only
 cases flats args with
 | none=>rfl
 | some vs=>rw [Option.bind_some,if_neg h];rfl
def G36 (w:World):Prop:=(∃ m,w.cell? ⟨0,0,none⟩=some (.int .i64 m))∧Tab w
def Γ36:Glob where
 D g:=g=0∨g=1
 G:=G36
 lt w h g hg:=by
  rcases hg with rfl | rfl
  ·obtain ⟨m,hm⟩:=h.1;exact World.block_lt_of_cell? w _ hm
  ·exact h.2.lt
 keep w w' h hk:=by
  obtain ⟨⟨m,hm⟩,ht⟩:=h
  refine ⟨⟨m,?_⟩,fun i hi=>?_⟩
  ·unfold World.cell? at hm ⊢;rw [hk _ (.inl rfl)];exact hm
  ·have:=ht i hi;unfold World.cell? at this ⊢;rw [hk _ (.inr rfl)];exact this
def sIdx:List Value→Option Value
 | [.string s,.int .u8 c]=>if s.size≤1000000000 then some (.int .i64 (Lib.indexByte s.data.toList c.toNat.toUInt8)) else none
 | _=>none
def sLast:List Value→Option Value
 | [.string s,.int .u8 c]=>if s.size≤1000000000 then some (.int .i64 (Lib.lastIndexByte s c)) else none
 | _=>none
def sCon:List Value→Option Value
 | [.string s,.string p]=>if s.size≤1000000000 then some (.bool (Lib.contains s.data.toList p.data.toList)) else none
 | _=>none
def sPre:List Value→Option Value
 | [.string s,.string p]=>some (.bool (Lib.hasPrefix s.data.toList p.data.toList))
 | _=>none
def sEnc (e:Str→Str):List Value→Option Value
 | [.string s]=>if s.size≤1000000 then some (.string (S (e s.data.toList))) else none
 | _=>none
theorem same_below {w:World}:Below w.heap.size w w:=Below.refl _ _
theorem fIdx:FlatOk Tryz.prog Γ36 32 sIdx:=⟨by kernel_rfl,fun vs v h=>by
 unfold sIdx at h
 split at h
 ·split at h
  ·cases h
   exact ⟨rfl,fun w _=>(Tryz.strings_IndexByte _ _ w).mono (by rintro e w' ⟨rfl,rfl⟩;exact ⟨rfl,same_below⟩)⟩
  ·cases h
 ·cases h⟩
theorem fLast:FlatOk Tryz.prog Γ36 34 sLast:=⟨by kernel_rfl,fun vs v h=>by
 unfold sLast at h
 split at h
 ·split at h
  ·rename_i hs
   cases h
   exact ⟨rfl,fun w _=>(Tryz.strings_LastIndexByte _ _ (by omega) w).mono (by rintro e w' ⟨rfl,rfl⟩;exact ⟨rfl,same_below⟩)⟩
  ·cases h
 ·cases h⟩
theorem fCon:FlatOk Tryz.prog Γ36 35 sCon:=⟨by kernel_rfl,fun vs v h=>by
 unfold sCon at h
 split at h
 ·split at h
  ·rename_i hs
   cases h
   refine ⟨rfl,fun w hG=>?_⟩
   obtain ⟨⟨m,hm⟩,_⟩:=hG
   exact (Tryz.strings_Contains _ _ m w (by omega) hm).mono (by rintro e w' ⟨rfl,rfl⟩;exact ⟨rfl,same_below⟩)
  ·cases h
 ·cases h⟩
theorem fPre:FlatOk Tryz.prog Γ36 74 sPre:=⟨by kernel_rfl,fun vs v h=>by
 unfold sPre at h
 split at h
 ·cases h
  exact ⟨rfl,fun w _=>(Tryz.strings_HasPrefix _ _ w).mono (by rintro e w' ⟨rfl,rfl⟩;exact ⟨rfl,same_below⟩)⟩
 ·cases h⟩
theorem fB64:FlatOk Tryz.prog Γ36 150 (sEnc enc64):=⟨by kernel_rfl,fun vs v h=>by
 unfold sEnc at h
 split at h
 ·split at h
  ·rename_i hs
   cases h
   exact ⟨rfl,fun w hG=>(encode64 _ w hG.2 hs).mono (by rintro e w' ⟨rfl,hb⟩;exact ⟨rfl,hb⟩)⟩
  ·cases h
 ·cases h⟩
theorem fR64:FlatOk Tryz.prog Γ36 155 (sEnc enc64):=⟨by kernel_rfl,fun vs v h=>by
 unfold sEnc at h
 split at h
 ·split at h
  ·rename_i hs
   cases h
   refine ⟨rfl,fun w hG=>(encode_ref _ w hs).mono ?_⟩
   rintro e w' ⟨rfl,hb⟩
   exact ⟨by rw [enc_law _ _ (Nat.le_refl _)];rfl,hb⟩
  ·cases h
 ·cases h⟩
theorem fQp:FlatOk Tryz.prog Γ36 48 (sEnc (encL 0)):=⟨by kernel_rfl,fun vs v h=>by
 unfold sEnc at h
 split at h
 ·split at h
  ·rename_i hs
   cases h
   exact ⟨rfl,fun w hG=>(enc_qp _ w hs).mono (by rintro e w' ⟨rfl,hb⟩;exact ⟨rfl,hb⟩)⟩
  ·cases h
 ·cases h⟩
theorem fRq:FlatOk Tryz.prog Γ36 51 (sEnc (encL 0)):=⟨by kernel_rfl,fun vs v h=>by
 unfold sEnc at h
 split at h
 ·split at h
  ·rename_i hs
   cases h
   exact ⟨rfl,fun w hG=>(enc_ref _ w hs).mono (by rintro e w' ⟨rfl,hb⟩;exact ⟨rfl,hb⟩)⟩
  ·cases h
 ·cases h⟩
end Go.Proofs.YtmpiobfdchlikaaGreatDoor
end
section
set_option synthInstance.maxSize 4000
namespace Nun
open Go Go.RowKit
def strCells (l:List (List UInt8)):List Value:=l.map fun x=>.string ⟨x.toArray⟩
theorem strCells_snoc (l:List (List UInt8)) (x:List UInt8):strCells (l++[x])=strCells l++[.string ⟨x.toArray⟩]:=by simp [strCells]
theorem beg_crlf (s:List UInt8) (i:Nat):begL s [13,10] i=true ↔ s[i]? =some 13∧s[i+1]? =some 10:=by
 unfold begL
 rw [Bool.and_eq_true,decide_eq_true_eq,beq_iff_eq,← List.head?_drop,show s[i+1]? =(s.drop i)[1]? by rw [List.getElem?_drop]]
 have hl:(s.drop i).length=s.length - i:=List.length_drop
 match h:s.drop i with
 | []=>simp
 | [a]=>simp
 | a::b::r=>rw [h] at hl;simp at hl;simp;intro _ _;omega
def endV (k:Nat):Option Nat→Int | some j=>((k+j:Nat):Int) | none=>-1
def linesR:List (List UInt8 × Nat)→Option (List (List UInt8) × Nat)
 | []=>none
 | (ln,a)::r=>if ln=[] then some ([],a) else (linesR r).map fun p=>(ln::p.1,p.2)
theorem runHead_none:∀ (xs:List (List UInt8 × Nat)) (st:List Fld × Bool),linesR xs=none→runHead xs st=none
 | [],st,_=>rfl
 | (ln,a)::r,st,h=>by
   rw [linesR] at h
   by_cases hl:ln=[]
   ·rw [if_pos hl] at h;cases h
   ·rw [if_neg hl] at h
    have hr:linesR r=none:=by simpa using h
    rw [runHead,if_neg hl]
    rcases lineStep st ln with _ | st'
    ·rfl
    ·exact runHead_none r st' hr
theorem runHead_some:∀ (xs:List (List UInt8 × Nat)) (st:List Fld × Bool) (ls:List (List UInt8)) (a:Nat),linesR xs=some (ls,a)→runHead xs st=(linesL ls st).map fun s=>(s.1,s.2,a)
 | [],st,ls,a,h=>by cases h
 | (ln,b)::r,st,ls,a,h=>by
   rw [linesR] at h
   by_cases hl:ln=[]
   ·rw [if_pos hl] at h;cases h;rw [runHead,if_pos hl];rfl
   ·rw [if_neg hl] at h
    rcases hr:linesR r with _ | ⟨ls',a'⟩
    ·rw [hr] at h;cases h
    ·rw [hr] at h
     cases h
     rw [runHead,if_neg hl,linesL,List.foldlM_cons]
     rcases hs:lineStep st ln with _ | st'
     ·rfl
     ·exact runHead_some r st' ls' a' hr
theorem linesR_ne:∀ (xs:List (List UInt8 × Nat)) (ls:List (List UInt8)) (a:Nat),linesR xs=some (ls,a)→∀ x∈ls,x≠[]
 | [],ls,a,h=>by cases h
 | (ln,b)::r,ls,a,h=>by
   rw [linesR] at h
   by_cases hl:ln=[]
   ·rw [if_pos hl] at h;cases h;simp
   ·rw [if_neg hl] at h
    rcases hr:linesR r with _ | ⟨ls',a'⟩
    ·rw [hr] at h;cases h
    ·rw [hr] at h
     cases h
     intro x hx
     rcases List.mem_cons.1 hx with rfl | hx
     ·exact hl
     ·exact linesR_ne r ls' _ hr x hx
theorem linesR_len:∀ (xs:List (List UInt8 × Nat)) (ls:List (List UInt8)) (a:Nat),linesR xs=some (ls,a)→ls.length≤xs.length∧∀ x∈ls,∃ b,(x,b)∈xs
 | [],ls,a,h=>by cases h
 | (ln,b)::r,ls,a,h=>by
   rw [linesR] at h
   by_cases hl:ln=[]
   ·rw [if_pos hl] at h;cases h;simp
   ·rw [if_neg hl] at h
    rcases hr:linesR r with _ | ⟨ls',a'⟩
    ·rw [hr] at h;cases h
    ·rw [hr] at h
     cases h
     have:=linesR_len r ls' _ hr
     refine ⟨by simp;exact this.1,fun x hx=>?_⟩
     rcases List.mem_cons.1 hx with rfl | hx
     ·exact ⟨b,by simp⟩
     ·obtain ⟨c,hc⟩:=this.2 x hx;exact ⟨c,by simp [hc]⟩
end Nun
namespace Go.Proofs.YtmpiobfdchlikaaGreatDoor
open Go Go.RowKit Nun
theorem begins_of (s x:ByteArray) (k:Nat) (b:Bool) (h:begL s.data.toList x.data.toList k=b) (w:World) (hs:s.size≤1000000000) (hx:x.size≤1000000000) (hk:k≤1000000000):Calls Tryz.prog 60 #[.string s,.string x,.int .i64 k] w (Same (.bool b) w):=h ▸ begins_ref s x k w hs hx hk
set_option maxHeartbeats 1000000 in
theorem end_ref (s:ByteArray) (k:Nat) (w:World) (hs:s.size≤1000000) (hk:k≤s.size) (o:Option Nat) (ho:crAt (s.data.toList.drop k)=o):Calls Tryz.prog 168 #[.string s,.int .i64 k] w (Same (.int .i64 (endV k o)) w):=by
 have hat:∀ d,k+d≤s.size→begL s.data.toList [13,10] (k+d)=decide (o=some d)∨∃ e,o=some e∧e<d:=by
  intro d hd
  by_cases hod:o=some d
  ·left
   rw [hod] at ho
   have:=crAt_some ho
   rw [List.getElem?_drop,List.getElem?_drop] at this
   rw [(beg_crlf _ _).2 this];simp [hod]
  ·by_cases hlt:∃ e,o=some e∧e<d
   ·exact .inr hlt
   ·left
    rw [show decide (o=some d)=false by simpa using hod]
    have hn:¬ (begL s.data.toList [13,10] (k+d)=true):=by
     rw [beg_crlf]
     intro h
     rw [← List.getElem?_drop,show k+d+1=k+(d+1) by omega,← List.getElem?_drop] at h
     rcases o with _ | e
     ·exact crAt_none ho d h
     ·have hne:e≠d:=fun e'=>hod (by rw [e'])
      by_cases hed:e<d
      ·exact hlt ⟨e,rfl,hed⟩
      ·exact crAt_first ho d (by omega) h
    simpa using hn
 have hbd:∀ e,o=some e→k+e+2≤s.size:=by
  intro e h
  rw [h] at ho
  have:=crAt_lt ho
  rw [List.length_drop,show s.data.toList.length=s.size from rfl] at this;omega
 have HA:=Lib.hid hat;clear hat ho
 obtain ⟨V,hV⟩:∃ V,endV k o=V:=⟨_,rfl⟩
 rw [hV]
 have HV:=Lib.hid hV;have HBD:=Lib.hid hbd;clear hV hbd
 go_enter Tryz.func168,Tryz.ntmps168
 go_wp2
 go_loop [5] (fun i=>∃ d:Nat,i=.int .i64 ((k+d:Nat):Int)∧k+d≤s.size∧Hid (¬ ∃ e,o=some e∧e<d)) (fun i=>s.size - (intOf i).toNat)
 case atStart=>exact ⟨0,rfl,by omega,Lib.hid (by rintro ⟨e,_,h⟩;omega)⟩
 case round =>
  obtain ⟨d,rfl,hd,hno⟩:=hrel
  have hcast:((k+d:Nat):Int)=(k:Int)+d:=by omega
  by_cases hlt:k+d<s.size
  ·have hb:=(HA.out d (by omega)).resolve_right hno.out
   obtain ⟨i,hi⟩:∃ i,k+d=i:=⟨_,rfl⟩
   rw [hi] at hb hd hlt
   by_cases hod:o=some d
   ·have HB:=Lib.hid (show begL s.data.toList (ByteArray.mk #[13,10]).data.toList i=true by rw [hb];simp [hod])
    have HR:=Lib.hid (show (i:Int)=V by rw [← HV.out,hod,← hi];rfl)
    have HI:=Lib.hid hi
    rw [hi]
    clear hb hcast hod hi
    go_wp2_with (go_at_call 60;refine (begins_of s ⟨#[13,10]⟩ i true HB.out _ (by omega) (by decide) (by omega)).mono ?_;rintro e w1 ⟨rfl,rfl⟩)
    go_ret
    exact ⟨r1 (vi HR.out),rfl⟩
   ·have HB:=Lib.hid (show begL s.data.toList (ByteArray.mk #[13,10]).data.toList i=false by rw [hb];simp [hod])
    have HN:=Lib.hid (show ¬ ∃ e,o=some e∧e<d+1 by
     rintro ⟨e,he,hed⟩
     exact hno.out ⟨e,he,by
      have:e≠d:=fun h=>hod (by rw [he,h])
      omega⟩)
    have HI:=Lib.hid hi
    rw [hi]
    clear hb hcast hod hi
    go_wp2_with (go_at_call 60;refine (begins_of s ⟨#[13,10]⟩ i false HB.out _ (by omega) (by decide) (by omega)).mono ?_;rintro e w1 ⟨rfl,rfl⟩)
    go_round
    case rel=>exact ⟨d+1,by rw [show k+(d+1)=i+1 by have:=HI.out;omega];go_num,by have:=HI.out;omega,HN⟩
    case measure=>simp [intOf];omega
  ·have hnone:o=none:=by
    rcases o with _ | e
    ·rfl
    ·have h1:=HBD.out e rfl
     have h2:¬ e<d:=fun h=>hno.out ⟨e,rfl,h⟩
     omega
   have HR:=Lib.hid (show (-1:Int)=V by rw [← HV.out,hnone];rfl)
   have hlt2:¬ ((k:Int)+d<s.size):=by omega
   clear hnone
   go_wp2
   go_ret
   exact ⟨r1 (vi HR.out),rfl⟩
theorem blank_ref13 (c:UInt8) (w:World):Calls Tryz.prog 113 #[.int .u8 c.toNat] w (Same (.bool (blankC c)) w):=by
 go_enter Tryz.func113,Tryz.ntmps113
 go_wp2
 all_goals (go_ret;refine ⟨r1 (vb ?_),rfl⟩)
 all_goals (go_light;revert c;decide +kernel)
def linesV:Option (List (List UInt8) × Nat)→World→Ending→World→Prop
 | none,w,e,w'=>e=.returned (.tuple #[.slice none 0 0,.int .i64 0,.bool false])∧Below w.heap.size w w'
 | some (ls,a),w,e,w'=>∃ v,e=.returned (.tuple #[v,.int .i64 a,.bool true])∧w'.ownsRow w.heap.size 9 1 v ls.length (strCells ls)∧Below w.heap.size w w'
theorem infoString:(Tryz.prog.info? 9).map (fun i=>(i.zero,i.size,i.bytes))=some (some (.string ⟨#[]⟩),1,16):=by kernel_rfl
theorem endr_of (s:ByteArray) (k:Nat) (V:Int) (o:Option Nat) (ho:crAt (s.data.toList.drop k)=o) (hV:endV k o=V) (w:World) (hs:s.size≤1000000) (hk:k≤s.size):Calls Tryz.prog 168 #[.string s,.int .i64 k] w (Same (.int .i64 V) w):=hV ▸ end_ref s k w hs hk o ho
set_option maxHeartbeats 2000000 in
theorem lines_ref (s:ByteArray) (w:World) (hs:s.size≤1000000) (R:Option (List (List UInt8) × Nat)) (hR:linesR (itL s.data.toList 0)=R):Calls Tryz.prog 111 #[.string s] w (linesV R w):=by
 have HRR:=Lib.hid hR;clear hR
 go_enter Tryz.func111,Tryz.ntmps111
 go_wp2
 go_loopw [5,6,7] (fun v i _ wr=>∃ (k:Nat) (acc:List (List UInt8)),i=.int .i64 k∧k≤s.size∧acc.length≤k∧wr.ownsRow w.heap.size 9 1 v acc.length (strCells acc)∧Below w.heap.size w wr∧Hid (R=(linesR (itL (s.data.toList.drop k) k)).map fun p=>(acc++p.1,p.2)))
  (fun _ i _ _=>s.size+1 - (intOf i).toNat)
 case atStart=>exact ⟨0,[],rfl,Nat.zero_le _,Nat.le_refl _,World.ownsRow_made (size:=1) w _ 0 (Nat.le_refl _) (by decide) (by decide),(Below.refl _ _).alloc (Nat.le_refl _) _,Lib.hid (by rw [List.drop_zero,HRR.out];simp)⟩
 case round =>
  obtain ⟨k,acc,rfl,hk,hal,hown,hbel,hacc⟩:=hrel
  rcases ho:crAt (s.data.toList.drop k) with _ | j
  ·have HV:=Lib.hid (show endV k none=-1 from rfl)
   have HO:=Lib.hid ho
   have hfin:R=none:=by rw [hacc.out,itL_none ho];rfl
   have HF:=Lib.hid hfin
   clear ho hfin
   go_wp2_with (go_at_call 168;refine (endr_of s k (-1) none HO.out HV.out _ (by omega) hk).mono ?_;rintro e w1 ⟨rfl,rfl⟩)
   go_ret3
   rw [HF.out]
   exact ⟨rfl,hbel⟩
  ·have hlt:=crAt_lt ho
   rw [List.length_drop,show s.data.toList.length=s.size from rfl] at hlt
   have hit:=itL_some (a:=k) ho
   rw [List.drop_drop] at hit
   have HO:=Lib.hid ho;have HIT:=Lib.hid hit;clear ho hit
   obtain ⟨tO,hto⟩:∃ tO,k+j=tO:=⟨_,rfl⟩
   have HV:=Lib.hid (show endV k (some j)=(tO:Int) by rw [← hto];rfl)
   by_cases hj:j=0
   ·have hfin:R=some (acc,k+2):=by
     rw [hacc.out,HIT.out,hj];simp [linesR]
    have HF:=Lib.hid hfin
    obtain rfl:k=tO:=by omega
    clear hj hto hfin
    go_wp2_with (go_at_call 168;refine (endr_of s k k (some j) HO.out HV.out _ (by omega) hk).mono ?_;rintro e w1 ⟨rfl,rfl⟩)
    go_ret3
    rw [HF.out]
    exact ⟨_,rfl,hown,hbel⟩
   ·have hne:((tO:Int) == (k:Int))=false:=by rw [beq_eq_false_iff_ne];omega
    have hsl:(s.extract k tO).data.toList=(s.data.toList.drop k).take j:=by rw [Lib.extract_data,show tO - k=j by omega]
    have hfin:R=(linesR (itL (s.data.toList.drop (tO+2)) (tO+2))).map fun p=>(acc++[(s.extract k tO).data.toList]++p.1,p.2):=by
     have hn0:(s.data.toList.drop k).take j≠[]:=by
      intro h
      have:=congrArg List.length h
      rw [List.length_take,List.length_drop,show s.data.toList.length=s.size from rfl] at this
      simp at this;omega
     rw [hacc.out,HIT.out,linesR,if_neg hn0,if_neg hj,hsl,show k+(j+2)=tO+2 by omega,show k+j+2=tO+2 by omega]
     rcases linesR (itL (s.data.toList.drop (tO+2)) (tO+2)) with _ | p<;>simp
    have HF:=Lib.hid hfin
    have hle1:(k:Int)≤(tO:Int):=by omega
    have hle2:(tO:Int)+2≤(s.size:Int):=by omega
    have hnn:(0:Int)≤tO:=by omega
    have hktO:k<tO:=by omega
    have HTO:=Lib.hid hto
    obtain ⟨x,hx⟩:∃ x,s.extract k tO=x:=⟨_,rfl⟩
    rw [hx] at HF
    have hxs:x.size≤1000000:=by rw [← hx,ByteArray.size_extract];omega
    clear hj hto hfin hsl
    go_wp2_with (first | (go_at_call 168;refine (endr_of s k tO (some j) HO.out HV.out _ (by omega) hk).mono ?_;rintro e w1 ⟨rfl,rfl⟩) | (at_builtin;refine push1 (by rfl) _ _ _ (by rfl) 9 (.string ⟨#[]⟩) 1 16 Tryz.underlying39 infoString rfl (by decide) w.heap.size wr _ _ _ (by rfl) hown [.string x] rfl (by simp [Value.oneCell']) (by rfl) (by omega) (by omega) hbel.size ?_;intro g cap w1 hg hown1 hgr hb1 hsz1))
    go_roundw
    case rel =>
     exact ⟨tO+2,acc++[x.data.toList],by go_num,by omega,by simp;omega,by rw [strCells_snoc,List.length_append];exact hown1,hbel.trans hb1,HF⟩
    case measure=>simp [intOf];omega
end Go.Proofs.YtmpiobfdchlikaaGreatDoor
end
section
set_option synthInstance.maxSize 4000
namespace Nun
open Go Go.RowKit
theorem step_ne {st st':List Fld × Bool} {l:List UInt8} (h:lineStep st l=some st'):st'.1≠[]:=by
 unfold lineStep at h
 split at h
 ·cases h
 ·split at h
  ·split at h
   ·cases h
   ·cases h;simp
  ·split at h
   ·cases h
   ·split at h
    ·cases h;simp
    ·cases h
theorem lines_ne:∀ (ls:List (List UInt8)) (st st':List Fld × Bool),linesL ls st=some st'→ls≠[]→st'.1≠[]
 | [],st,st',_,h=>absurd rfl h
 | [l],st,st',h,_=>by
   rw [linesL,List.foldlM_cons] at h
   obtain ⟨s1,h1,h2⟩:=Option.bind_eq_some_iff.1 h
   simp at h2;rw [← h2];exact step_ne h1
 | l::m::ls,st,st',h,_=>by
   rw [linesL,List.foldlM_cons] at h
   obtain ⟨s1,h1,h2⟩:=Option.bind_eq_some_iff.1 h
   exact lines_ne (m::ls) s1 st' h2 (by simp)
theorem lines_step (ls:List (List UInt8)) (k:Nat) (st0 st:List Fld × Bool) (hk:k<ls.length) (h:linesL (ls.take k) st0=some st):linesL (ls.take (k+1)) st0=lineStep st ls[k]:=by
 rw [List.take_succ_eq_append_getElem hk,linesL_snoc,h];rfl
theorem lines_bad (ls:List (List UInt8)) (k:Nat) (st0 st:List Fld × Bool) (hk:k<ls.length) (h:linesL (ls.take k) st0=some st) (hb:lineStep st ls[k]=none):linesL ls st0=none:=by
 have h1:=lines_step ls k st0 st hk h
 rw [hb] at h1
 have:ls=ls.take (k+1)++ls.drop (k+1):=(List.take_append_drop _ _).symm
 rw [this];unfold linesL at h1 ⊢
 rw [List.foldlM_append,h1];rfl
theorem row_more {w:World} {B e g cap m:Nat} {F0:List Fld} {q:Fld} {p:ByteArray} (hrow:w.ownsRow B e 2 (.slice (some ⟨g,0,none⟩) (m+1) cap) (m+1) (fldCells F0++[.string ⟨q.1.toArray⟩,.string ⟨q.2.toArray⟩])) (hm:F0.length=m) :
 (w.setCell ⟨g,m * 2+1,none⟩ (.string (⟨q.2.toArray⟩++p))).ownsRow B e 2 (.slice (some ⟨g,0,none⟩) (m+1) cap) (F0++[(q.1,q.2++p.data.toList)]).length (fldCells (F0++[(q.1,q.2++p.data.toList)])):=by
 have:=(hrow.stored (m * 2+1) (.string (⟨q.2.toArray⟩++p))).1
 rw [fldCells_snoc]
 dsimp only
 rw [List.length_append,hm,List.length_singleton]
 rw [List.set_append_right _ _ (by rw [fldCells_len];omega),fldCells_len,hm,show m * 2+1 - m * 2=1 by omega] at this
 have e:(ByteArray.mk q.2.toArray++p)=⟨(q.2++p.data.toList).toArray⟩:=by
  apply ByteArray.ext;apply Array.ext';simp
 rw [e] at this
 rw [← e];rw [← e] at this
 exact this
theorem ext_take (p:ByteArray) (d:Nat):p.extract 0 d=⟨(p.data.toList.take d).toArray⟩:=by
 apply ByteArray.ext;apply Array.ext'
 rw [Lib.extract_data,List.drop_zero,Nat.sub_zero]
theorem ext_drop (p:ByteArray) (d:Nat):p.extract d p.size=⟨(p.data.toList.drop d).toArray⟩:=by
 apply ByteArray.ext;apply Array.ext'
 rw [Lib.extract_data,List.take_of_length_le (by rw [List.length_drop];exact Nat.le_refl _)]
theorem row_push {w:World} {B e:Nat} {v:Value} {F:List Fld} {a b:List UInt8} {X Y:ByteArray} (h:w.ownsRow B e 2 v (F.length+1) (fldCells F++[.string X,.string Y])) (hX:X=⟨a.toArray⟩) (hY:Y=⟨b.toArray⟩):w.ownsRow B e 2 v (F.length+1) (fldCells (F++[(a,b)])):=by
 subst hX;subst hY
 rw [fldCells_snoc];exact h
theorem own_down {w:World} {b b':Nat} {e:TypeId} {size:Nat} {v:Value} {n:Nat} {xs:List Value} (h:w.ownsRow b e size v n xs) (hb:b'≤b):w.ownsRow b' e size v n xs:=⟨h.1,h.2.imp id fun ⟨g,cap,cur,h1,h2,h3⟩=>⟨g,cap,cur,h1,Nat.le_trans hb h2,h3⟩⟩
def trimFk (F:List Fld) (k:Nat):List Fld:=(F.take k).map (fun p=>(p.1,trimB p.2))++F.drop k
theorem trimmed_step (F:List Fld) (k:Nat) (hk:k<F.length) (q:Fld) (hq:F[k]=q):(fldCells (trimFk F k)).length=F.length * 2∧(fldCells (trimFk F k))[k * 2+1]? =some (.string ⟨q.2.toArray⟩)∧(fldCells (trimFk F k)).set (k * 2+1) (.string ⟨(trimB q.2).toArray⟩)=fldCells (trimFk F (k+1)):=by
 have hmix:fldCells (trimFk F k)=fldCells ((F.take k).map (fun p=>(p.1,trimB p.2)))++([.string ⟨q.1.toArray⟩,.string ⟨q.2.toArray⟩]++fldCells (F.drop (k+1))):=by
  unfold trimFk
  rw [List.drop_eq_getElem_cons hk,hq];simp [fldCells]
 have hml:(fldCells ((F.take k).map (fun p=>(p.1,trimB p.2)))).length=k * 2:=by rw [fldCells_len,List.length_map,List.length_take];omega
 refine ⟨?_,?_,?_⟩
 ·rw [fldCells_len];unfold trimFk;rw [List.length_append,List.length_map,List.length_take,List.length_drop];omega
 ·rw [hmix,List.getElem?_append_right (by omega),hml,show k * 2+1 - k * 2=1 by omega];rfl
 ·rw [hmix,List.set_append_right _ _ (by rw [hml];omega),hml,show k * 2+1 - k * 2=1 by omega]
  unfold trimFk
  rw [List.take_succ_eq_append_getElem hk,hq]
  simp [fldCells]
theorem ne58:∀ d:UInt8,d≠58→((d.toNat:Int) != 58)=true:=by decide +kernel
theorem long_or (L:Bool) (p:ByteArray) (b:Bool) (h:(L || decide ((998:Int)<p.size))=b):Value.bool b=.bool (L || decide (998<p.data.toList.length)):=by
 rw [← h];congr 2
 rw [decide_eq_decide,show p.data.toList.length=p.size from rfl];omega
def StrRow (v:Value) (ls:List (List UInt8)) (w:World):Prop:=∃ a n cap,v=.slice a n cap∧n=ls.length∧n≤cap∧(n=0∨∃ g o,a=some ⟨g,o,none⟩∧g<w.heap.size∧∀ (j:Nat) (x:List UInt8),ls[j]? =some x→w.cell? ⟨g,o+j,none⟩=some (.string ⟨x.toArray⟩))
theorem strRow_own {w:World} {B e:Nat} {v:Value} {ls:List (List UInt8)} (h:w.ownsRow B e 1 v ls.length (strCells ls)):StrRow v ls w:=by
 rcases row_form h with ⟨rfl,h0⟩ | ⟨g,cap,rfl,hB,hg,hc⟩
 ·exact ⟨_,_,_,rfl,h0.symm,Nat.le_refl _,.inl rfl⟩
 ·refine ⟨_,_,_,rfl,rfl,hc,.inr ⟨g,0,rfl,hg,fun j x hj=>?_⟩⟩
  have hjl:=(List.getElem?_eq_some_iff.1 hj).1
  have:=h.cellAt j (by omega)
  rw [Nat.zero_add,this,strCells,List.getElem?_map,hj];rfl
end Nun
namespace Go.Proofs.YtmpiobfdchlikaaGreatDoor
open Go Go.RowKit Nun
def splitRV:Split→World→Ending→World→Prop
 | .form,w,e,w'=>e=.returned (.tuple #[.slice none 0 0,.int .i64 0,.int .i64 7])∧Below w.heap.size w w'
 | .long,w,e,w'=>e=.returned (.tuple #[.slice none 0 0,.int .i64 0,.int .i64 6])∧Below w.heap.size w w'
 | .ok l b,w,e,w'=>∃ v,e=.returned (.tuple #[v,.int .i64 b,.int .i64 0])∧w'.ownsRow w.heap.size 41 2 v l.length (fldCells l)∧Below w.heap.size w w'
theorem right_of (s:ByteArray) (b:Bool) (h:s.data.toList.all shownC=b) (w:World) (hs:s.size≤maxLen):Calls Tryz.prog 112 #[.string s] w (Same (.bool b) w):=h ▸ right_ref s w hs
theorem namer_of (s:ByteArray) (b:Bool) (h:nameL s.data.toList=b) (w:World) (hs:s.size≤maxLen):Calls Tryz.prog 49 #[.string s] w (Same (.bool b) w):=h ▸ name_ref s w hs
theorem blankr_of (c:UInt8) (b:Bool) (h:blankC c=b) (w:World):Calls Tryz.prog 113 #[.int .u8 c.toNat] w (Same (.bool b) w):=h ▸ blank_ref13 c w
theorem infoFieldR:(Tryz.prog.info? 41).map (fun i=>(i.zero,i.size,i.bytes))=some (some (.agg #[.string ⟨#[]⟩,.string ⟨#[]⟩]),2,32):=by kernel_rfl
set_option maxHeartbeats 4000000 in
set_option maxRecDepth 100000 in
theorem split_ref (s:ByteArray) (w:World) (hs:s.size≤10000) (V:Split) (hV:splitL s.data.toList=V):Calls Tryz.prog 61 #[.string s] w (splitRV V w):=by
 rcases hR:linesR (itL s.data.toList 0) with _ | ⟨ls,at_⟩
 ·have hform:V=.form:=by rw [← hV];unfold splitL;rw [runHead_none _ _ hR]
  subst hform
  have HR:=Lib.hid hR;clear hR hV
  go_enter Tryz.func61,Tryz.ntmps61
  go_wp2_with (go_at_call 111;refine (lines_ref s _ (by omega) none HR.out).mono ?_;rintro e w1 ⟨rfl,hb1⟩)
  go_ret3
  exact ⟨rfl,hb1⟩
 ·have hrun:=runHead_some _ ([],false) _ _ hR
  have hlen:ls.length≤10000∧∀ x∈ls,x.length≤10000:=by
   have h1:=linesR_len _ _ _ hR
   have h2:=itL_count _ s.data.toList 0 (Nat.le_refl _)
   refine ⟨Nat.le_trans h1.1 (Nat.le_trans h2 hs),fun x hx=>?_⟩
   obtain ⟨b,hb⟩:=h1.2 x hx
   exact Nat.le_trans (itL_short _ _ _ (Nat.le_refl _) _ hb) hs
  have hne:=linesR_ne _ _ _ hR
  have HR:=Lib.hid hR
  have hVV:V=match linesL ls ([],false) with | none=>.form | some (_,true)=>.long | some (f,false)=>.ok (f.map fun p=>(p.1,trimB p.2)) at_:=by
   rw [← hV];unfold splitL;rw [hrun]
   rcases linesL ls ([],false) with _ | ⟨f,_ | _⟩<;>rfl
  have HV:=Lib.hid hVV
  obtain ⟨hln,hlx⟩:=hlen
  have HX:=Lib.hid hlx;have HNE:=Lib.hid hne
  clear hR hV hrun hVV hlx hne
  go_enter Tryz.func61,Tryz.ntmps61
  go_wp2_with (go_at_call 111;refine (lines_ref s _ (by omega) _ HR.out).mono ?_;rintro e w1 ⟨v,rfl,hown,hb1⟩;obtain ⟨a0,n0,cap0,rfl,hn0,hc0,hr0⟩:=strRow_own hown;have HN0:=Lib.hid hn0;have HR0:=Lib.hid hr0;clear hown hn0 hr0)
  have hbs:=hb1.size
  go_loopw [8,9,10,11,12] (fun v lg i _ _ wr=>∃ (k:Nat) (F:List Fld) (L:Bool),i=.int .i64 k∧k≤n0∧lg=.bool L∧wr.ownsRow w1.heap.size 41 2 v F.length (fldCells F)∧Below w1.heap.size w1 wr∧Hid (linesL (ls.take k) ([],false)=some (F,L)))
   (fun _ _ i _ _ _=>n0 - (intOf i).toNat)
  case atStart=>exact ⟨0,[],false,rfl,Nat.zero_le _,rfl,World.ownsRow_made (size:=2) w1 _ 0 (Nat.le_refl _) (by decide) (by decide),(Below.refl _ _).alloc (Nat.le_refl _) _,Lib.hid rfl⟩
  case round =>
   obtain ⟨k,F,L,rfl,hk,rfl,hown,hbel,hst⟩:=hrel
   have hbelw:Below w.heap.size w wr:=hb1.trans (hbel.mono hbs)
   by_cases hlt:k<n0
   ·have hkl:k<ls.length:=by rw [← HN0.out];exact hlt
    obtain ⟨g,o,rfl,hg,hrow⟩:=HR0.out.resolve_left (by omega)
    obtain ⟨p,hp⟩:∃ p:ByteArray,(⟨ls[k].toArray⟩:ByteArray)=p:=⟨_,rfl⟩
    have hpl:p.data.toList=ls[k]:=by rw [← hp]
    have hcell:=(hbel.cell (p:=⟨g,o+k,none⟩) hg).trans (hrow k _ (List.getElem?_eq_getElem hkl))
    rw [hp] at hcell
    have hgwr:g<wr.heap.size:=Nat.lt_of_lt_of_le hg hbel.size
    have hps:p.size≤10000:=by
     have:=HX.out ls[k] (List.getElem_mem _)
     rw [← hpl] at this;exact this
    have hpne:p.data.toList≠[]:=by rw [hpl];exact HNE.out _ (List.getElem_mem _)
    have hpos:0<p.size:=by
     rcases Nat.eq_zero_or_pos p.size with h | h
     ·exact absurd (List.eq_nil_of_length_eq_zero h) hpne
     ·exact h
    have hpm:p.size≤maxLen:=by unfold maxLen;omega
    have hLl:L=true∨(L=false∧(998:Int)<p.size)∨(L=false∧¬ (998:Int)<p.size):=by
     rcases L with _ | _
     ·by_cases h:(998:Int)<p.size
      ·exact .inr (.inl ⟨rfl,h⟩)
      ·exact .inr (.inr ⟨rfl,h⟩)
     ·exact .inl rfl
    have hbadV:lineStep (F,L) p.data.toList=none→V=.form:=by
     intro h
     rw [hpl] at h
     rw [HV.out,lines_bad ls k _ _ hkl hst.out h]
    have HPL:=Lib.hid hpl;have HBV:=Lib.hid hbadV;have HLL:=Lib.hid hLl;have HKL:=Lib.hid hkl
    have HRW:=Lib.hid hrow
    clear hp hpl hbadV hLl hrow hpne
    have hhead:=head_blank p hpos
    rcases hsh:p.data.toList.all shownC with _ | _
    ·have hVf:=HBV.out (step_hid hsh)
     have HSH:=Lib.hid hsh
     subst hVf
     clear hsh hhead
     rcases HLL.out with rfl | ⟨rfl,hll⟩ | ⟨rfl,hll⟩
     all_goals
      go_wp2_with (go_at_call 112;refine (right_of p false HSH.out _ hpm).mono ?_;rintro e w2 ⟨rfl,rfl⟩)
      go_ret3
      exact ⟨rfl,hbelw⟩
    ·rcases hbl:blankC p[0] with _ | _
     ·rw [hbl] at hhead
      have HSH:=Lib.hid hsh;have HBL:=Lib.hid hbl
      rcases hco:byteAt 58 p.data.toList with _ | c
      ·have hVf:=HBV.out (step_nocolon hhead hco)
       have hnc:∀ j,(hj:j<p.size)→((p[j].toNat:Int) != 58)=true:=by
        intro j hj
        have:=byteAt_none hco j
        rw [List.getElem?_eq_getElem (show j<p.data.toList.length from hj)] at this
        have h2:p[j]≠58:=fun h=>this (by rw [← h];rfl)
        exact ne58 _ h2
       have HNC:=Lib.hid hnc
       subst hVf
       clear hsh hbl hhead hco hnc
       rcases HLL.out with rfl | ⟨rfl,hll⟩ | ⟨rfl,hll⟩
       all_goals
        go_wp2_with (first | (go_at_call 112;refine (right_of p true HSH.out _ hpm).mono ?_;rintro e w2 ⟨rfl,rfl⟩) | (go_at_call 113;refine (blankr_of _ false HBL.out _).mono ?_;rintro e w2 ⟨rfl,rfl⟩))
        go_loopw [12] (fun j w4=>∃ d:Nat,j=.int .i64 d∧d≤p.size∧w4=wr) (fun j _=>p.size - (intOf j).toNat)
        case atStart=>exact ⟨0,rfl,Nat.zero_le _,rfl⟩
        case round =>
         obtain ⟨d,rfl,hd,rfl⟩:=hrel
         by_cases hdl:d<p.size
         ·have hq:=HNC.out d hdl
          go_wp2
          go_roundw
          case rel=>exact ⟨d+1,by go_num,by omega,trivial⟩
          case measure=>simp [intOf];omega
         ·obtain rfl:d=p.size:=by omega
          go_wp2
          go_ret3
          exact ⟨rfl,hbelw⟩
      ·have hcl:=byteAt_lt hco
       rw [show p.data.toList.length=p.size from rfl] at hcl
       have hnc:∀ j,(hj:j<c)→((p[j].toNat:Int) != 58)=true:=by
        intro j hj
        have:=byteAt_first hco j hj
        rw [List.getElem?_eq_getElem (show j<p.data.toList.length from Nat.lt_trans hj hcl)] at this
        have h2:p[j]≠58:=fun h=>this (by rw [← h];rfl)
        exact ne58 _ h2
       have hcc:((p[c].toNat:Int) != 58)=false:=by
        have:=byteAt_some hco
        rw [List.getElem?_eq_getElem (show c<p.data.toList.length from hcl)] at this
        have h2:p[c]=58:=Option.some.inj this
        rw [h2];rfl
       have HNC:=Lib.hid hnc
       rcases hna:nameL (p.data.toList.take c) with _ | _
       ·have hVf:=HBV.out (step_noname hhead hco hna)
        have HNA:=Lib.hid hna
        subst hVf
        clear hsh hbl hhead hco hnc hna
        rcases HLL.out with rfl | ⟨rfl,hll⟩ | ⟨rfl,hll⟩
        all_goals
         go_wp2_with (first | (go_at_call 112;refine (right_of p true HSH.out _ hpm).mono ?_;rintro e w2 ⟨rfl,rfl⟩) | (go_at_call 113;refine (blankr_of _ false HBL.out _).mono ?_;rintro e w2 ⟨rfl,rfl⟩))
         go_loopw [12] (fun j w4=>∃ d:Nat,j=.int .i64 d∧d≤c∧w4=wr) (fun j _=>p.size - (intOf j).toNat)
         case atStart=>exact ⟨0,rfl,Nat.zero_le _,rfl⟩
         case round =>
          obtain ⟨d,rfl,hd,rfl⟩:=hrel
          by_cases hdl:d<c
          ·have hdp:d<p.size:=by omega
           have hq:=HNC.out d hdl
           go_wp2
           go_roundw
           case rel=>exact ⟨d+1,by go_num,by omega,trivial⟩
           case measure=>simp [intOf];omega
          ·obtain rfl:d=c:=by omega
           have hnl:((d:Int) == (p.size:Int))=false:=by rw [beq_eq_false_iff_ne];omega
           go_wp2_with (go_at_call 49;refine (namer_of (p.extract 0 d) false (by rw [Lib.extract_data,List.drop_zero,Nat.sub_zero];exact HNA.out) _ (by rw [ByteArray.size_extract];unfold maxLen;omega)).mono ?_;rintro e w2 ⟨rfl,rfl⟩)
           go_ret3
           exact ⟨rfl,hbelw⟩
       ·obtain ⟨i0,hi0,hz0,hz1,hz2⟩:=info_parts infoFieldR
        have hstep:=step_field (st:=(F,L)) hsh hhead hco hna
        have hnext:linesL (ls.take (k+1)) ([],false)=some (F++[(p.data.toList.take c,p.data.toList.drop (c+1))],L || decide (998<p.data.toList.length)):=by rw [lines_step ls k _ _ HKL.out hst.out,← HPL.out];exact hstep
        have hFl:F.length≤k:=by
         have:=lines_len _ _ _ hst.out
         rw [List.length_take] at this
         simp only [List.length_nil,Nat.zero_add] at this;omega
        have HNX:=Lib.hid hnext
        have HNA:=Lib.hid hna
        clear hsh hbl hhead hco hnc hna hstep hnext
        rcases HLL.out with rfl | ⟨rfl,hll⟩ | ⟨rfl,hll⟩
        all_goals
         go_wp2_with (first | (go_at_call 112;refine (right_of p true HSH.out _ hpm).mono ?_;rintro e w2 ⟨rfl,rfl⟩) | (go_at_call 113;refine (blankr_of _ false HBL.out _).mono ?_;rintro e w2 ⟨rfl,rfl⟩))
         go_loopw [12] (fun j w4=>∃ d:Nat,j=.int .i64 d∧d≤c∧w4=wr) (fun j _=>p.size - (intOf j).toNat)
         case atStart=>exact ⟨0,rfl,Nat.zero_le _,rfl⟩
         case round =>
          obtain ⟨d,rfl,hd,rfl⟩:=hrel
          by_cases hdl:d<c
          ·have hdp:d<p.size:=by omega
           have hq:=HNC.out d hdl
           go_wp2
           go_roundw
           case rel=>exact ⟨d+1,by go_num,by omega,trivial⟩
           case measure=>simp [intOf];omega
          ·obtain rfl:d=c:=by omega
           have hnl:((d:Int) == (p.size:Int))=false:=by rw [beq_eq_false_iff_ne];omega
           go_wp2_with (go_at_call 49;refine (namer_of (p.extract 0 d) true (by rw [Lib.extract_data,List.drop_zero,Nat.sub_zero];exact HNA.out) _ (by rw [ByteArray.size_extract];unfold maxLen;omega)).mono ?_;rintro e w2 ⟨rfl,rfl⟩)
           have hw1:IntKind.i64.wrap ((d:Int)+1)=(d:Int)+1:=IntWalk.i64_in _ (by omega)
           have hw2:(0:Int)≤(d:Int)+1:=by omega
           have hw3:((d:Int)+1).toNat=d+1:=by omega
           have hw4:(k:Int)<(n0:Int):=by omega
           have hw5:(0:Int)≤(d:Int):=by omega
           have hw6:(d:Int)≤(p.size:Int):=by omega
           have hw7:(d:Int)+1≤(p.size:Int):=by omega
           have hw8:(d:Int).toNat=d:=by omega
           have hfar:(u8:Value).ownBlock≠some g:=by
            intro e
            have:=(hown.lt g e).1
            omega
           obtain ⟨X,hX⟩:∃ X:ByteArray,p.extract 0 d=X:=⟨_,rfl⟩
           obtain ⟨Y,hY⟩:∃ Y:ByteArray,p.extract (d+1) p.size=Y:=⟨_,rfl⟩
           have hwb:w1.heap.size≤wr.heap.size:=hbel.size
           go_region_held3 (fun w'=>w'.cell? ⟨g,o+k,none⟩=some (.string p)) (first | go_keep | exact hcell | (rw [hgrow.cell_far _ (by simp;omega) (Ne.symm hfar)];first | assumption | go_keep))
            ((refine step_append_lies _ (by rfl) _ _ _ (by rfl) w1.heap.size 41 i0 _ 2 32 Tryz.underlying33 hi0 hz0 hz1 hz2 rfl (by omega) u8 F.length (fldCells F) (by rfl) ((hown.alloc _).drew)
               ⟨wr.heap.size,0,none⟩ 1 1 [.string X,.string Y] (by rfl) (by rfl) (World.news_of_block (cs:=#[.string X,.string Y]) (t:=41) (fr:=(0,0)) (heap_alloc_new wr _)) (by simp [Value.oneCell'])
               (by omega) (by unfold maxLen;omega) (by omega) (by simp;omega) (wr.heap.size+1) (by simp) ?_;intro gg cap w5 hown5 hgrow hat hlt5))
           have HRO:=Lib.hid (row_push hown5 (show X=⟨(p.data.toList.take d).toArray⟩ by rw [← hX];exact ext_take _ _) (show Y=⟨(p.data.toList.drop (d+1)).toArray⟩ by rw [← hY];exact ext_drop _ _))
           have HBE:=Lib.hid (Below.grown (((hbel.alloc hwb _).drew)) hgrow (by simp;omega) (fun k h=>(hown.lt k h).1))
           clear hown5 hgrow hX hY
           go_wp2
           go_roundw
           case rel=>exact ⟨k+1,F++[(p.data.toList.take d,p.data.toList.drop (d+1))],_,by go_num,by omega,long_or _ p _ (by first | rfl | simp [*]),by rw [List.length_append];exact HRO.out,HBE.out,HNX⟩
           case measure=>simp [intOf];omega
     ·rw [hbl] at hhead
      have HSH:=Lib.hid hsh;have HBL:=Lib.hid hbl;have HH:=Lib.hid hhead
      clear hsh hbl hhead
      rcases Nat.eq_zero_or_pos k with h0 | hk0
      ·have hF:F=[]:=by
        have:=hst.out;rw [h0] at this
        simp [linesL] at this;exact this.1
       have hVf:=HBV.out (step_blank_nil HH.out hF)
       subst hVf
       have hk0:((k:Int) == 0)=true:=by rw [h0];rfl
       clear hF h0
       rcases HLL.out with rfl | ⟨rfl,hll⟩ | ⟨rfl,hll⟩
       all_goals
        go_wp2_with (first | (go_at_call 112;refine (right_of p true HSH.out _ hpm).mono ?_;rintro e w2 ⟨rfl,rfl⟩) | (go_at_call 113;refine (blankr_of _ true HBL.out _).mono ?_;rintro e w2 ⟨rfl,rfl⟩))
        go_ret3
        exact ⟨rfl,hbelw⟩
      ·have hFne:F≠[]:=lines_ne _ _ _ hst.out (by intro h;have h2:=congrArg List.length h;rw [List.length_take,List.length_nil] at h2;have:=HKL.out;omega)
       obtain ⟨F0,q,rfl⟩:∃ F0 q,F=F0++[q]:=⟨F.dropLast,F.getLast hFne,(List.dropLast_concat_getLast hFne).symm⟩
       have hFl:(F0++[q]).length≤k:=by
        have:=lines_len _ _ _ hst.out
        rw [List.length_take] at this
        simp only [List.length_nil,Nat.zero_add] at this;omega
       have hqv:q.2.length≤10000 * k:=by
        have:=lines_vals _ _ _ 0 10000 hst.out (by simp) (fun l hl=>HX.out l (List.mem_of_mem_take hl)) q (by simp)
        rw [List.length_take,Nat.zero_add] at this
        exact Nat.le_trans this (Nat.mul_le_mul (Nat.le_refl _) (Nat.min_le_left _ _))
       obtain ⟨m,hm0⟩:∃ m,F0.length=m:=⟨_,rfl⟩
       have hlen1:(F0++[q]).length=m+1:=by rw [List.length_append,hm0];rfl
       rw [hlen1,fldCells_snoc] at hown
       rw [hlen1] at hFl
       obtain ⟨gf,cap,rfl,hg0,hglt,hcap⟩:∃ gf cap,u8=.slice (some ⟨gf,0,none⟩) (m+1) cap∧w1.heap.size≤gf∧gf<wr.heap.size∧m+1≤cap:=by
        rcases row_form hown with ⟨_,h⟩ | ⟨gf,cap,h⟩
        ·omega
        ·exact ⟨gf,cap,h⟩
       have hcf:=hown.cellAt (m * 2+1) (by omega)
       rw [List.getElem?_append_right (by rw [fldCells_len];omega),fldCells_len,hm0,show m * 2+1 - m * 2=1 by omega] at hcf
       have hcf':wr.cell? ⟨gf,m * 2+1,none⟩=some (.string ⟨q.2.toArray⟩):=hcf
       have hff:=hown.frozenAt (m * 2+1)
       have hqs:(ByteArray.mk q.2.toArray).size≤200000000:=by show q.2.length≤_;omega
       have hstep:=step_blank (st:=(F0++[q],L)) HSH.out HH.out rfl
       have hnext:linesL (ls.take (k+1)) ([],false)=some (F0++[(q.1,q.2++p.data.toList)],L || decide (998<p.data.toList.length)):=by rw [lines_step ls k _ _ HKL.out hst.out,← HPL.out];exact hstep
       have HNX:=Lib.hid hnext;have HOWN:=Lib.hid hown;have HM:=Lib.hid hm0
       have hk0':((k:Int) == 0)=false:=by rw [beq_eq_false_iff_ne];omega
       have hml:m≤10000:=by omega
       clear hFne hlen1 hcf hown hstep hnext hm0 hk0
       have hclq:=fun d os=>cell_regrown hcell d os
       have hcgq:=fun d os=>cell_regrown hcf' d os
       have hmi:(m:Int)<(m:Int)+1:=by omega
       rcases HLL.out with rfl | ⟨rfl,hll⟩ | ⟨rfl,hll⟩
       all_goals
        go_wp2_with (first | (go_at_call 112;refine (right_of p true HSH.out _ hpm).mono ?_;rintro e w2 ⟨rfl,rfl⟩) | (go_at_call 113;refine (blankr_of _ true HBL.out _).mono ?_;rintro e w2 ⟨rfl,rfl⟩))
        (refine region_quiet_tail_below 12 (by kernel_rfl) (by kernel_rfl) ?_;simp only [List.take_succ_cons,List.take_zero];(repeat (first | go_big_quiet_skip | (go_big_quiet_want;go_big_quiet_op;first | go_big_quiet_on | (apply Exists.intro;refine ⟨fun _=>?_,?_⟩;(· (fail));go_big_quiet_on))));refine wpQuiet_nil ?_;intro wq hbq;simp only [List.drop_succ_cons,List.drop_zero])
        have hcf5:=(hbq.cell (p:=⟨gf,m * 2+1,none⟩) hglt).trans hcf'
        have hff5:=(hbq.frozen (p:=⟨gf,m * 2+1,none⟩) hglt).trans hff
        have HRO:=Lib.hid (row_more (p:=p) (own_below HOWN.out hbq) HM.out)
        have HBE:=Lib.hid ((hbel.trans (hbq.mono hbel.size)).setCell (p:=⟨gf,m * 2+1,none⟩) hg0 (.string (⟨q.2.toArray⟩++p)))
        clear hclq hcgq hcell hcf' hff
        go_wp2
        go_roundw
        case rel=>exact ⟨k+1,_,_,by go_num,by omega,long_or _ p _ (by first | rfl | simp [*]),HRO.out,HBE.out,HNX⟩
        case measure=>simp [intOf];omega
   ·obtain rfl:k=n0:=by omega
    have hall:linesL ls ([],false)=some (F,L):=by
     have:=hst.out;rw [HN0.out,List.take_length] at this;exact this
    have hFl:F.length≤10000:=by
     have:=lines_len _ _ _ hall
     simp only [List.length_nil,Nat.zero_add] at this;omega
    have hFv:∀ q∈F,q.2.length≤100000000:=by
     intro q hq
     have:=lines_vals _ _ _ 0 10000 hall (by simp) (fun l hl=>HX.out l hl) q hq
     rw [Nat.zero_add] at this
     exact Nat.le_trans this (Nat.mul_le_mul (Nat.le_refl _) hln)
    have hVV:=HV.out
    rw [hall] at hVV
    have HFV:=Lib.hid hFv
    clear hall hFv
    rcases L with _ | _
    ·replace hVV:V=.ok (F.map fun p=>(p.1,trimB p.2)) at_:=hVV
     subst hVV
     obtain ⟨n,hn⟩:∃ n,F.length=n:=⟨_,rfl⟩
     rw [hn] at hown hFl
     have HN:=Lib.hid hn;clear hn
     obtain ⟨a1,cap1,rfl,ha1⟩:∃ a1 cap1,u8=.slice a1 n cap1∧(n=0∨∃ g,a1=some ⟨g,0,none⟩∧w1.heap.size≤g∧g<wr.heap.size∧n≤cap1):=by
      rcases row_form hown with ⟨h,h0⟩ | ⟨g,cap,h,h1,h2,h3⟩
      ·exact ⟨none,0,by rw [h,h0],.inl h0⟩
      ·exact ⟨_,_,h,.inr ⟨g,rfl,h1,h2,h3⟩⟩
     have HA:=Lib.hid ha1;clear ha1
     go_wp2
     go_loopw [13] (fun i w4=>∃ j:Nat,i=.int .i64 j∧j≤n∧Hid (w4.ownsRow w1.heap.size 41 2 (.slice a1 n cap1) n (fldCells (trimFk F j)))∧Hid (Below w1.heap.size w1 w4))
      (fun i _=>n - (intOf i).toNat)
     case atStart=>exact ⟨0,rfl,Nat.zero_le _,Lib.hid (by simpa [trimFk] using hown),Lib.hid hbel⟩
     case round =>
      rename_i i4 w4
      clear hown hbel hbelw
      obtain ⟨j,rfl,hj,HROW,HB⟩:=hrel
      by_cases hlt2:j<n
      ·obtain ⟨g,rfl,hg0,_,hcap⟩:=HA.out.resolve_left (by omega)
       have hjF:j<F.length:=by rw [HN.out];exact hlt2
       obtain ⟨q,hq⟩:∃ q,F[j]=q:=⟨_,rfl⟩
       obtain ⟨ht1,ht2,ht3⟩:=trimmed_step F j hjF q hq
       have hcell:=HROW.out.cellAt (j * 2+1) (by omega)
       rw [ht2] at hcell
       have hfro:=HROW.out.frozenAt (j * 2+1)
       have hqs:(ByteArray.mk q.2.toArray).size≤1000000000:=by
        have:=HFV.out q (by rw [← hq];exact List.getElem_mem _)
        show q.2.length≤_;omega
       have hji:(j:Int)<(n:Int):=by omega
       have hR:=(HROW.out.stored (j * 2+1) (.string ⟨(trimB q.2).toArray⟩)).1
       rw [ht3] at hR
       have HRO:=Lib.hid hR
       have HBE:=Lib.hid (HB.out.setCell (p:=⟨g,j * 2+1,none⟩) hg0 (.string ⟨(trimB q.2).toArray⟩))
       clear ht1 ht2 ht3 hR
       go_wp2_with (go_at_call 114;refine (trim_ref _ _ hqs).mono ?_;rintro e w5 ⟨rfl,rfl⟩)
       go_roundw
       case rel=>exact ⟨j+1,by go_num,by omega,HRO,HBE⟩
       case measure=>simp [intOf];omega
      ·obtain rfl:j=n:=by omega
       go_wp2
       go_ret3
       refine ⟨_,rfl,?_,hb1.trans (HB.out.mono hbs)⟩
       have h:=own_down HROW.out hbs
       unfold trimFk at h
       rw [List.take_of_length_le (by rw [HN.out];exact Nat.le_refl _),List.drop_of_length_le (by rw [HN.out];exact Nat.le_refl _),List.append_nil] at h
       rw [List.length_map,HN.out];exact h
    ·replace hVV:V=.long:=hVV
     subst hVV
     go_wp2
     go_ret3
     exact ⟨rfl,hbelw⟩
end Go.Proofs.YtmpiobfdchlikaaGreatDoor
end
section
namespace Nun
open Go Go.RowKit Go.Proofs Go.Proofs.YtmpiobfdchlikaaGreatDoor
structure RowRes where
 cells:List Value
 n:Nat
 size:Nat
 e:TypeId
 ex:List Value
def RowOk (P:Program) (Γ:Glob) (f:FuncId) (spec:List Value→Option RowRes):Prop:=entersB P f=true∧∀ vs R,spec vs=some R→((∀ v∈R.cells,flatV v=true∧v.oneCell'=true)∧(∀ v∈R.ex,flatV v=true)∧R.ex≠[])∧∀ w,Γ.G w→Calls P f vs.toArray w fun e w'=>∃ v,e=.returned (.tuple (v::R.ex).toArray)∧w'.ownsRow w.heap.size R.e R.size v R.n R.cells∧Below w.heap.size w w'
def rowLib (k:FuncId) (spec:List Value→Option RowRes):Nun.Callee:=fun f args bx oc=>match bx,oc with
 | [],[]=>if f=k then ((flats args).bind spec).map fun R=>(.slc R.n (R.cells.map .flat)::R.ex.map .flat,false,[],[]) else none
 | _,_=>none
theorem rds_flats {w:World} {Fr:Nat→Nat} {β:List Nat}:∀ {l:List Value},(∀ v∈l,flatV v=true)→Rds w Fr β (l.map .flat) l
 | [],_=>by simp [Rds]
 | v::l,h=>by
   simp only [List.map_cons,Rds]
   exact ⟨v,l,rfl,by unfold Rd;exact ⟨rfl,h v List.mem_cons_self⟩,rds_flats fun x hx=>h x (List.mem_cons_of_mem _ hx)⟩
theorem rowLib_ok {P:Program} {Γ:Glob} {k:FuncId} {spec:List Value→Option RowRes} (hk:k≠yldF) (h:RowOk P Γ k spec):CallOk P Γ (rowLib k spec):=by
 intro f args bx oc vs' os bx' oc' he
 unfold rowLib at he
 split at he
 case h_2=>cases he
 split at he
 case isFalse=>cases he
 rename_i hf
 subst hf
 obtain ⟨R,hR,he⟩:=Option.map_eq_some_iff.1 he
 cases he
 obtain ⟨us,hus,hsp⟩:=Option.bind_eq_some_iff.1 hR
 obtain ⟨h1,h2⟩:=h
 obtain ⟨⟨hc,hex,hne⟩,h4⟩:=h2 us R hsp
 intro w Fr β vs hp
 refine enters_of h1 hk ?_
 obtain rfl:=flats_rds hus hp.args
 refine (h4 w hp.g).mono ?_
 rintro e w' ⟨v,rfl,hown,hb⟩
 obtain ⟨Fr',hFr'⟩:∃ F:Nat→Nat,F=fun g=>if v.ownBlock=some g then R.cells.length else Fr g:=⟨_,rfl⟩
 have hold:∀ g,g<w.heap.size→Fr' g=Fr g:=fun g hg=>by
  rw [hFr'];dsimp only
  rw [if_neg]
  intro e
  have:=(hown.lt g e).1
  omega
 obtain ⟨Rl,hl⟩:=hp.rel.grow hb (Fr':=Fr') hold
 have hrow:Rd w' Fr' β (.slc R.n (R.cells.map .flat)) v:=by
  simp only [Rd]
  have hlen:=hown.1
  rcases hown.2 with ⟨rfl,h0⟩ | ⟨g,cap,cur,rfl,hg,hcur,hnc,_⟩
  ·refine ⟨none,0,by rw [h0],by omega,.inl ⟨?_,h0⟩⟩
   rw [h0,Nat.zero_mul] at hlen
   rw [List.eq_nil_of_length_eq_zero hlen];rfl
  ·refine ⟨some ⟨g,0,none⟩,cap,rfl,hnc,.inr ⟨g,0,R.cells,rfl,fun j u hj=>?_,rds_flats fun x hx=>(hc x hx).1,fun x hx=>(hc x hx).2⟩⟩
   have hjl:=(List.getElem?_eq_some_iff.1 hj).1
   refine ⟨?_,?_⟩
   ·rw [hFr'];dsimp only
    rw [if_pos (show (Value.slice (some ⟨g,0,none⟩) R.n cap).ownBlock=some g from rfl)];omega
   ·rw [Nat.zero_add,hown.cellAt j (by rw [← hlen];exact hjl),hj]
 refine ⟨_,Fr',β,rfl,?_,Rl,hl,(fun L h=>by cases h),fun h=>by cases h⟩
 obtain ⟨x,l,hxl⟩:=List.exists_cons_of_ne_nil hne
 have ht:tupOf (.slc R.n (R.cells.map .flat)::R.ex.map .flat)=.tup (.slc R.n (R.cells.map .flat)::R.ex.map .flat):=by rw [hxl];rfl
 rw [ht]
 simp only [Rd,Rds]
 exact ⟨v::R.ex,rfl,v,R.ex,rfl,hrow,rds_flats hex⟩
def sSplit:List Value→Option RowRes
 | [.string s]=>if s.size≤10000 then some (match splitL s.data.toList with
   | .form=>⟨[],0,2,41,[.int .i64 0,.int .i64 7]⟩
   | .long=>⟨[],0,2,41,[.int .i64 0,.int .i64 6]⟩
   | .ok l b=>⟨fldCells l,l.length,2,41,[.int .i64 b,.int .i64 0]⟩) else none
 | _=>none
theorem fSplit {Γ:Glob}:RowOk Tryz.prog Γ 61 sSplit:=⟨by kernel_rfl,fun vs R h=>by
 unfold sSplit at h
 split at h
 ·rename_i s
  split at h
  ·rename_i hs
   obtain ⟨V,hV⟩:∃ V,splitL s.data.toList=V:=⟨_,rfl⟩
   rw [hV] at h
   have hc:=fun w=>split_ref s w hs V hV
   cases V with
   | form =>
     cases h
     exact ⟨⟨fun v h=>(by cases h),fun v h=>(by simp at h;rcases h with rfl | rfl<;>rfl),by simp⟩,fun w _=>(hc w).mono (by rintro e w' ⟨rfl,hb⟩;exact ⟨_,rfl,World.ownsRow_nil _ _ _ _,hb⟩)⟩
   | long =>
     cases h
     exact ⟨⟨fun v h=>(by cases h),fun v h=>(by simp at h;rcases h with rfl | rfl<;>rfl),by simp⟩,fun w _=>(hc w).mono (by rintro e w' ⟨rfl,hb⟩;exact ⟨_,rfl,World.ownsRow_nil _ _ _ _,hb⟩)⟩
   | ok l b =>
     cases h
     refine ⟨⟨fun v h=>?_,fun v h=>(by simp at h;rcases h with rfl | rfl<;>rfl),by simp⟩,fun w _=>(hc w).mono (by rintro e w' ⟨v,rfl,ho,hb⟩;exact ⟨v,rfl,ho,hb⟩)⟩
     have:∀ l:List Fld,∀ v∈fldCells l,flatV v=true∧v.oneCell'=true:=by
      intro l
      induction l with
      | nil=>intro v h;simp [fldCells] at h
      | cons a l ih =>
        intro v h
        simp only [fldCells,List.flatMap_cons,List.mem_append,List.mem_cons,List.not_mem_nil,or_false] at h
        rcases h with (rfl | rfl) | h
        ·exact ⟨rfl,rfl⟩
        ·exact ⟨rfl,rfl⟩
        ·exact ih v h
     exact this l v h
  ·cases h
 ·cases h⟩
end Nun
end
section
namespace Go.Proofs.YtmpiobfdchlikaaGreatDoor
open Go.RowKit Nun
theorem enc64_len36 (n:Nat):∀ l:List UInt8,l.length≤n→(enc64 l).length=(l.length+2) / 3 * 4:=by
 induction n with
 | zero=>intro l h
         have:l=[]:=List.eq_nil_of_length_eq_zero (by omega)
         subst this;simp [enc64]
 | succ n ih =>
   intro l h
   match l,h with
   | [],_=>simp [enc64]
   | [a],_=>simp [enc64,quad_len]
   | [a,b],_=>simp [enc64,quad_len]
   | a::b::c::l,h=>rw [enc64,List.length_append,quad_len,ih l (by simp at h;omega)];simp;omega
theorem encL_len36:∀ (s:List UInt8) (line:Nat),(encL line s).length≤6 * s.length
 | [],_=>by simp [encL]
 | c::t,line=>by
   have hp:=(piece_len c t).2
   unfold encL
   split
   ·have:=encL_len36 t 0;simp only [List.length_cons];omega
   ·split
    ·have:=encL_len36 t (piece c t).length
     simp only [List.length_append,List.length_cons,List.length_nil];omega
    ·have:=encL_len36 t (line+(piece c t).length)
     simp only [List.length_append,List.length_cons];omega
theorem or_r {a b:Nun.Callee} {f:FuncId} {args:List PV} {bx:Boxes} {oc:List Nun.Loc} (h:a f args bx oc=none):orLib a b f args bx oc=b f args bx oc:=by unfold orLib;rw [h]
theorem or_l {a b:Nun.Callee} {f:FuncId} {args:List PV} {bx:Boxes} {oc:List Nun.Loc} {r:Nun.Ans} (h:a f args bx oc=some r):orLib a b f args bx oc=some r:=by unfold orLib;rw [h]
theorem bld_no {f:FuncId} (h1:f≠95) (h2:f≠28) {args:List PV} {bx:Boxes} {oc:List Nun.Loc}:bldLib f args bx oc=none:=by unfold bldLib;rw [if_neg h1,if_neg h2]
theorem nest_no {f:FuncId} (h1:f≠57) {args:List PV} {bx:Boxes} {oc:List Nun.Loc}:nestLib f args bx oc=none:=by unfold nestLib;rw [dif_neg (fun h=>h1 h.1)]
noncomputable def lib36:Nun.Callee:=orLib bldLib (orLib nestLib (orLib (flatLib (oneF 32 sIdx)) (orLib (flatLib (oneF 34 sLast)) (orLib (flatLib (oneF 35 sCon)) (orLib (flatLib (oneF 74 sPre)) (orLib (flatLib (oneF 150 (sEnc enc64))) (orLib (flatLib (oneF 155 (sEnc enc64))) (orLib (flatLib (oneF 48 (sEnc (encL 0)))) (orLib (flatLib (oneF 51 (sEnc (encL 0)))) (rowLib 61 sSplit))))))))))
theorem lib36_ok:CallOk Tryz.prog Γ36 lib36 :=
 orLib_ok bldLib_ok (orLib_ok nestLib_ok (orLib_ok (oneF_ok (by decide) fIdx) (orLib_ok (oneF_ok (by decide) fLast) (orLib_ok (oneF_ok (by decide) fCon) (orLib_ok (oneF_ok (by decide) fPre) (orLib_ok (oneF_ok (by decide) fB64) (orLib_ok (oneF_ok (by decide) fR64) (orLib_ok (oneF_ok (by decide) fQp) (orLib_ok (oneF_ok (by decide) fRq) (rowLib_ok (by decide) fSplit))))))))))
theorem S_list {s:Str}:(S s).data.toList=s:=by simp [S]
theorem c_nat (c:UInt8):((c.toNat:Nat):Int).toNat.toUInt8=c:=by
 rw [Int.toNat_natCast];simp
theorem l36_bld:BldIn lib36:=bldIn_or
theorem l36_nest:LibNest lib36:=fun L hL=>by
 unfold lib36
 rw [or_r (bld_no (by decide) (by decide))]
 exact or_l (nestLib_eq L hL)
theorem l36_idx:LibIdx lib36:=fun s c hs=>by
 unfold lib36
 rw [or_r (bld_no (by decide) (by decide)),or_r (nest_no (by decide))]
 exact or_l (oneF_at rfl (by unfold sIdx;dsimp only;rw [if_pos (by rw [S_size];exact hs),S_list,c_nat,ix_at1];rfl))
theorem l36_last:LibLast lib36:=fun s c hs=>by
 unfold lib36
 rw [or_r (bld_no (by decide) (by decide)),or_r (nest_no (by decide)),or_r (oneF_no (by decide))]
 exact or_l (oneF_at rfl (by unfold sLast;dsimp only;rw [if_pos (by rw [S_size];exact hs),lastI_lib];rfl))
theorem l36_con:LibCon lib36:=fun s hs=>by
 unfold lib36
 rw [or_r (bld_no (by decide) (by decide)),or_r (nest_no (by decide)),or_r (oneF_no (by decide)),or_r (oneF_no (by decide))]
 exact or_l (oneF_at rfl (by unfold sCon;dsimp only;rw [if_pos (by rw [S_size];exact hs),S_list,S_list,stands_lib _ (by simp)]))
theorem l36_pre:LibPre lib36:=fun s p hs hp=>by
 unfold lib36
 rw [or_r (bld_no (by decide) (by decide)),or_r (nest_no (by decide)),or_r (oneF_no (by decide)),or_r (oneF_no (by decide)),or_r (oneF_no (by decide))]
 exact or_l (oneF_at rfl (by unfold sPre;dsimp only;rw [S_list,S_list];rfl))
theorem l36_b64:LibB64 lib36 enc64:=fun s hs=>by
 refine ⟨by rw [enc64_len36 _ s (Nat.le_refl _)];omega,?_⟩
 unfold lib36
 rw [or_r (bld_no (by decide) (by decide)),or_r (nest_no (by decide)),or_r (oneF_no (by decide)),or_r (oneF_no (by decide)),or_r (oneF_no (by decide)),or_r (oneF_no (by decide))]
 exact or_l (oneF_at rfl (by unfold sEnc;dsimp only;rw [if_pos (by rw [S_size];omega),S_list]))
theorem l36_qp:LibQp lib36 (encL 0):=fun s hs=>by
 refine ⟨by have:=encL_len36 s 0;omega,?_⟩
 unfold lib36
 rw [or_r (bld_no (by decide) (by decide)),or_r (nest_no (by decide)),or_r (oneF_no (by decide)),or_r (oneF_no (by decide)),or_r (oneF_no (by decide)),or_r (oneF_no (by decide)),or_r (oneF_no (by decide)),or_r (oneF_no (by decide))]
 exact or_l (oneF_at rfl (by unfold sEnc;dsimp only;rw [if_pos (by rw [S_size];omega),S_list]))
end Go.Proofs.YtmpiobfdchlikaaGreatDoor
end
section
namespace Nun
open Go Go.RowKit Go.Proofs Go.Proofs.YtmpiobfdchlikaaGreatDoor
def okW (x:Str):Prop:=x.length≤75∧x.all shB=true
theorem cutU_cons (c:UInt8) (s:Str):∃ p ps,cutU c s=p::ps:=by
 cases s with
 | nil=>exact ⟨_,_,rfl⟩
 | cons x l =>
   unfold cutU
   split
   ·exact ⟨_,_,rfl⟩
   ·split<;>exact ⟨_,_,rfl⟩
theorem goP_words (s:Str):∀ (l:Str) (k long n:Nat),long≤60→goP s k long l=some n→∃ p ps,cutU 32 l=p::ps∧long+p.length≤60∧p.all shB=true∧∀ w∈ps,w.length≤60∧w.all shB=true
 | [],k,long,n,hl,h=>⟨[],[],rfl,by simpa using hl,rfl,by simp⟩
 | c::t,k,long,n,hl,h=>by
   rw [goP] at h
   split at h
   ·cases h
   ·rename_i hs
    simp only [Bool.or_eq_true,decide_eq_true_eq,not_or,stopP,Bool.and_eq_true] at hs
    obtain ⟨⟨h1,h2,h3,h4⟩,h5⟩:=hs
    obtain ⟨p,ps,e,k1,k2,k3⟩:=goP_words s t (k+1) (nextP c long) n (by omega) h
    have hc:shB c=true:=by unfold shB;rw [decide_eq_true (by omega:32≤c.toNat),decide_eq_true (by omega:c.toNat≤126)];rfl
    unfold nextP at k1
    by_cases h32:c.toNat=32
    ·have hc32:c=32:=UInt8.toNat_inj.1 h32
     rw [if_pos h32] at k1
     refine ⟨[],p::ps,by rw [cutU,if_pos hc32,e],by simpa using hl,rfl,fun w hw=>?_⟩
     rcases List.mem_cons.1 hw with rfl | hw
     ·exact ⟨by omega,k2⟩
     ·exact k3 w hw
    ·have hc32:c≠32:=fun e=>h32 (by rw [e];rfl)
     rw [if_neg h32] at k1
     refine ⟨c::p,ps,by rw [cutU,if_neg hc32,e],by simp only [List.length_cons];omega,by rw [List.all_cons,hc,k2];rfl,k3⟩
theorem dig_sh (n:Nat) (h:n<64):shB (dig n)=true:=by
 have:∀ n:Fin 64,shB (dig n.1)=true:=by decide +kernel
 exact this ⟨n,h⟩
theorem quad_sh (l:List UInt8):(quad l).all shB=true:=by
 have h1:=dig_sh (num l 3 / 262144 % 64) (Nat.mod_lt _ (by decide))
 have h2:=dig_sh (num l 3 / 4096 % 64) (Nat.mod_lt _ (by decide))
 have h3:=dig_sh (num l 3 / 64 % 64) (Nat.mod_lt _ (by decide))
 have h4:=dig_sh (num l 3 % 64) (Nat.mod_lt _ (by decide))
 have h5:shB 61=true:=by decide
 unfold quad
 simp only [List.all_cons,List.all_nil,h1,h2,Bool.true_and,Bool.and_true]
 split<;>split<;>simp [h3,h4,h5]
theorem enc64_sh:∀ l:List UInt8,(enc64 l).all shB=true
 | []=>rfl
 | [a]=>quad_sh _
 | [a,b]=>quad_sh _
 | a::b::c::l=>by rw [enc64,List.all_append,quad_sh,enc64_sh l];rfl
theorem coded_ok {g:Str} (h:g.length≤45):okW (codedU enc64 g):=by
 have hl:=enc64_len36 _ g (Nat.le_refl _)
 refine ⟨by simp only [codedU,frontU,List.length_append,List.length_cons,List.length_nil,hl];omega,?_⟩
 simp only [codedU,List.all_append,enc64_sh,Bool.and_true]
 decide
theorem bytesU_4 (n:Nat):(bytesU n).length≤4:=by
 unfold bytesU bytesN
 rw [List.length_map]
 repeat' split
 all_goals simp
theorem groups_ok:∀ (l:List Nat) (now:Str),now.length≤45→∀ x∈groupsU enc64 now l,okW x
 | [],now,h,x,hx=>by simp [groupsU] at hx;subst hx;exact coded_ok h
 | r::l,now,h,x,hx=>by
   have h4:=bytesU_4 r
   rw [groupsU] at hx
   split at hx
   ·rcases List.mem_cons.1 hx with rfl | hx
    ·exact coded_ok h
    ·exact groups_ok l _ (by omega) x hx
   ·exact groups_ok l _ (by rw [List.length_append];omega) x hx
theorem words_ok (s:Str):∀ x∈wordsU enc64 s,okW x:=by
 intro x hx
 unfold wordsU at hx
 split at hx
 ·simp at hx
 ·split at hx
  ·rename_i hne hp
   unfold plainU at hp
   rw [decide_eq_false hne,Bool.false_or] at hp
   cases hg:goP s 0 0 s with
   | none=>rw [hg] at hp;simp at hp
   | some n =>
     obtain ⟨p,ps,e,k1,k2,k3⟩:=goP_words s s 0 0 n (by omega) hg
     rw [e] at hx
     rcases List.mem_cons.1 hx with rfl | hx
     ·exact ⟨by omega,k2⟩
     ·exact ⟨by have:=(k3 x hx).1;omega,(k3 x hx).2⟩
  ·exact groups_ok _ _ (by simp) x hx
def sumW (l:List Str):Nat:=(l.map fun x=>x.length+3).sum
theorem fold_len:∀ (ws:List Str) (q:Str × Nat),(ws.foldl stepW q).1.length≤q.1.length+sumW ws
 | [],q=>by simp [sumW]
 | x::ws,q=>by
   rw [List.foldl_cons]
   have h:=fold_len ws (stepW q x)
   have h2:(stepW q x).1.length≤q.1.length+(x.length+3):=by
    unfold stepW putT
    dsimp only
    split<;>simp only [List.length_append,List.length_cons,List.length_nil]<;>omega
   have e:sumW (x::ws)=x.length+3+sumW ws:=by simp [sumW]
   omega
theorem cutU_sum (c:UInt8):∀ s:Str,sumW (cutU c s)≤4 * s.length+3
 | []=>by simp [cutU,sumW]
 | x::l=>by
   have ih:=cutU_sum c l
   obtain ⟨p,ps,e⟩:=cutU_cons c l
   rw [e] at ih
   have e2:sumW (p::ps)=p.length+3+sumW ps:=by simp [sumW]
   unfold cutU
   split
   ·have e3:sumW ([]::cutU c l)=3+sumW (p::ps):=by rw [e];simp [sumW]
    rw [e3];simp only [List.length_cons];omega
   ·rw [e]
    have e3:sumW ((x::p)::ps)=p.length+1+3+sumW ps:=by simp [sumW]
    dsimp only
    rw [e3];simp only [List.length_cons];omega
theorem groups_num:∀ (l:List Nat) (now:Str),42 * (groupsU enc64 now l).length≤42+now.length+4 * l.length
 | [],now=>by simp [groupsU]
 | r::l,now=>by
   have h4:=bytesU_4 r
   rw [groupsU]
   split
   ·have:=groups_num l (bytesU r)
    simp only [List.length_cons];omega
   ·have:=groups_num l (now++bytesU r)
    rw [List.length_append] at this
    simp only [List.length_cons];omega
theorem sum_le {n:Nat}:∀ l:List Str,(∀ x∈l,x.length≤n)→sumW l≤(n+3) * l.length
 | [],_=>by simp [sumW]
 | x::l,h=>by
   have h1:=sum_le l fun y hy=>h y (by simp [hy])
   have h2:=h x (by simp)
   have e2:sumW (x::l)=x.length+3+sumW l:=by simp [sumW]
   rw [e2,List.length_cons,Nat.mul_add];omega
theorem words_sum (s:Str) (hs:s.length≤250):sumW (wordsU enc64 s)≤1950:=by
 unfold wordsU
 split
 ·simp [sumW]
 ·split
  ·have:=cutU_sum 32 s;omega
  ·have h1:=groups_num (numsU s) []
   have h2:(numsU s).length≤s.length:=by unfold numsU;rw [List.length_map];exact runesU_len _ s (Nat.le_refl _)
   have h3:=sum_le (n:=75) (groupsU enc64 [] (numsU s)) fun x hx=>(groups_ok _ _ (by simp) x hx).1
   simp only [List.length_nil] at h1
   omega
theorem laid_len (f s:Str) (hs:s.length≤250) (hf:f.length≤32):(laidU enc64 f s).length≤1985:=by
 have h1:=fold_len (wordsU enc64 s) (f++[58],f.length+1)
 have h2:=words_sum s hs
 unfold laidU
 simp only [List.length_append,List.length_cons,List.length_nil] at h1 ⊢
 omega
end Nun
end
