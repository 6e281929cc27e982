/- EmailHolds answers true for every mail, where the table of base64 is laid az start-up lays it: texts of this proof, merged. -/
import Derived.Test.YtmpiobfdchlikaaGreatDoorPf
import Derived.Lib.Index
import Derived.Lib.IndexMore
import Derived.Lib.LastIndexByte
import Derived.Lib.Strings
set_option linter.unusedVariables false
set_option linter.unusedSimpArgs false
section
namespace Nun
open Go Go.RowKit Go.Proofs Go.Proofs.YtmpiobfdchlikaaGreatDoor
variable {lib:Callee}
theorem at1_split {c:UInt8}:∀ {s:Str} {i:Nat},at1 c s=some i→∃ p t,s=p++c::t∧c ∉ p∧p.length=i
 | [],i,h=>by cases h
 | x::l,i,h=>by
   unfold at1 at h
   split at h
   ·rename_i e
    cases h
    exact ⟨[],l,by rw [e];rfl,by simp,rfl⟩
   ·rename_i e
    obtain ⟨j,h1,rfl⟩:=Option.map_eq_some_iff.1 h
    obtain ⟨p,t,h2,h3,h4⟩:=at1_split h1
    exact ⟨x::p,t,by rw [h2];rfl,by simp only [List.mem_cons,not_or];exact ⟨fun e2=>e e2.symm,h3⟩,by rw [List.length_cons,h4]⟩
theorem at1_none {c:UInt8} {s:Str} (h:at1 c s=none):c ∉ s:=by
 have:=at1_in c s
 rw [h] at this
 intro hm
 rw [List.contains_iff_mem.2 hm] at this
 cases this
theorem lastI_none {c:UInt8}:∀ {s:Str},c ∉ s→lastI c s=none
 | [],_=>rfl
 | x::l,h=>by
   simp only [List.mem_cons,not_or] at h
   simp only [lastI,lastI_none h.2]
   rw [if_neg (fun e=>h.1 e.symm)]
theorem lastI_some {c:UInt8}:∀ {s:Str},c∈s→∃ i,lastI c s=some i
 | [],h=>by cases h
 | x::l,h=>by
   by_cases hm:c∈l
   ·obtain ⟨i,hi⟩:=lastI_some hm
    exact ⟨i+1,by simp only [lastI,hi]⟩
   ·have e:x=c:=by
     rcases List.mem_cons.1 h with e | e
     ·exact e.symm
     ·exact absurd e hm
    exact ⟨0,by simp only [lastI,lastI_none hm,e,if_true]⟩
theorem lastI_app {c:UInt8} {t:Str} {i:Nat} (h:lastI c t=some i):∀ p:Str,lastI c (p++t)=some (p.length+i)
 | []=>by rw [List.nil_append,h,List.length_nil,Nat.zero_add]
 | x::p=>by
   have:=lastI_app h p
   simp only [List.cons_append,lastI,this,List.length_cons]
   congr 1;omega
theorem addr_eq (s:Str):addrP s=addrU s:=by
 unfold addrP addrU
 by_cases h3:s.length<3
 ·have:¬ 3≤s.length:=by omega
  simp only [h3,this,decide_false,decide_true,Bool.false_and,Bool.and_false,Bool.true_or,Bool.not_true]
 by_cases h60:60<s.length
 ·have:¬ s.length≤60:=by omega
  simp only [h60,this,decide_false,decide_true,Bool.false_and,Bool.and_false,Bool.true_or,Bool.or_true,Bool.not_true]
 have h3':3≤s.length:=by omega
 have h60':s.length≤60:=by omega
 simp only [h3,h60,h3',h60',decide_false,decide_true,Bool.true_and,Bool.false_or]
 cases ha:s.all okA with
 | false=>simp only [Bool.false_and,Bool.and_false]
 | true =>
   simp only [Bool.true_and]
   cases hat:at1 64 s with
   | none =>
     have hm:=at1_none hat
     have hc:s.count 64=0:=List.count_eq_zero.2 hm
     simp only [hc,Nat.zero_ne_one,decide_false,Bool.and_false,Bool.false_and]
   | some i =>
     obtain ⟨p,t,rfl,hp,rfl⟩:=at1_split hat
     have hcnt:(p++64::t).count 64=1+t.count 64:=by
      rw [List.count_append,List.count_cons_self,List.count_eq_zero.2 hp];omega
     have hlen:(p++64::t).length=p.length+1+t.length:=by simp only [List.length_append,List.length_cons];omega
     rw [hcnt,hlen]
     by_cases hm:(64:UInt8)∈t
     ·obtain ⟨j,hj⟩:=lastI_some hm
      have hl:lastI 64 (p++64::t)=some (p.length+(j+1)):=lastI_app (by simp only [lastI,hj]) p
      have hc:1≤t.count 64:=List.count_pos_iff.2 hm
      have e1:(1+t.count 64=1)=False:=eq_false (by omega)
      have e2:(p.length+(j+1)=p.length)=False:=eq_false (by omega)
      simp only [hl,Option.some.injEq,e1,e2,decide_false,Bool.and_false,Bool.false_and]
     ·have hl:lastI 64 (p++64::t)=some (p.length+0):=lastI_app (by simp only [lastI,lastI_none hm,if_true]) p
      have hc:t.count 64=0:=List.count_eq_zero.2 hm
      rw [hl,hc]
      simp only [Nat.add_zero,decide_true,Bool.and_true]
      have hh:(((p++64::t)[0]? =some 64):Prop)=(p.length=0):=by
       apply propext
       cases p with
       | nil=>simp
       | cons x p =>
         simp only [List.cons_append,List.getElem?_cons_zero,Option.some.injEq,List.length_cons,Nat.succ_ne_zero,iff_false]
         intro e;subst e;exact hp List.mem_cons_self
      have hz:(((p++64::t)[p.length+1+t.length - 1]? =some 64):Prop)=(t.length=0):=by
       apply propext
       rw [List.getElem?_append_right (by omega)]
       cases ht:t with
       | nil=>simp
       | cons y t' =>
         have e:p.length+1+(y::t').length - 1 - p.length=t'.length+1:=by simp only [List.length_cons];omega
         rw [e,List.getElem?_cons_succ]
         have hlt:t'.length<(y::t').length:=by simp
         rw [List.getElem?_eq_getElem hlt]
         simp only [Option.some.injEq,List.length_cons,Nat.succ_ne_zero,iff_false]
         intro e2
         apply hm
         rw [ht,← e2]
         exact List.getElem_mem hlt
      simp only [hh,hz]
      by_cases hp0:p.length=0
      ·have:¬ 0<p.length:=by omega
       simp only [hp0,this,decide_true,decide_false,Bool.false_and,Bool.true_or,Bool.not_true]
       simp
      ·by_cases ht0:t.length=0
       ·have:¬ p.length+1<p.length+1+t.length:=by omega
        simp only [ht0,this,decide_true,decide_false,Bool.and_false,Bool.false_and,Bool.true_or,Bool.or_true,Bool.not_true]
        simp
       ·have e1:0<p.length:=by omega
        have e2:p.length+1<p.length+1+t.length:=by omega
        simp only [hp0,ht0,e1,e2,decide_true,decide_false,Bool.true_and,Bool.false_or,Bool.and_true]
def LibNest (lib:Callee):Prop:=∀ L:List Tok,L.length≤1000000000→lib 57 [.slc L.length (tcells L)] [] []=some ([.flat (.bool (nestE L))],false,[],[])
def pageU (s:Str):Bool:=match toksE s with
 | some l=>nestE l
 | none=>false
theorem toksE_len {s:Str} {l:List Tok} (h:toksE s=some l):l.length≤s.length:=by
 unfold toksE at h
 split at h
 ·have:=runS_inv (step:=tokT s) (d:=none) (I:=fun q=>q.2≤s.length∧q.1.length≤q.2) (μ:=fun q=>s.length - q.2) (Q:=fun r=>∀ l,r=some l→l.length≤s.length) (fun a hi=>by
   cases hs:tokT s a with
   | inl b=>exact tokT_in (fun k t=>nextE_le) a b hi hs
   | inr r =>
     intro l hl
     subst hl
     unfold tokT at hs
     split at hs
     ·cases hs;have:=hi.1;have:=hi.2;omega
     ·split at hs<;>cases hs) (s.length+1) ([],0) ⟨Nat.zero_le _,Nat.le_refl _⟩ (by dsimp only;omega)
  exact this l h
 ·cases h
theorem page_ev (HP:LibPre lib) (HB:BldIn lib) (HN:LibNest lib) (s:Str) (hs:s.length≤100000000):evW code lib 33 [.flat (.string (S s))] [] []=some ([.flat (.bool (pageU s))],false,[],[]):=by
 have ht:=tokens_ev HP HB s hs
 unfold pageU
 refine evW_eq code_email_page (Nat.le_of_ble_eq_true rfl) ?_
 cases hE:toksE s with
 | none =>
   rw [hE] at ht
   simp (maxSteps:=999999) (disch:=first | assumption | omega) only [go_sem,simprocAttr,au,ht]
 | some l =>
   rw [hE] at ht
   have hn:evW code lib 57 [.slc l.length (tcells l)] [] []=some ([.flat (.bool (nestE l))],false,[],[]):=evW_lib (by decide) (by kernel_rfl) (HN l (by have:=toksE_len hE;omega))
   simp (maxSteps:=999999) (disch:=first | assumption | omega) only [go_sem,simprocAttr,au,ht,hn,tcells_np]
structure Mail where
 fr:Str
 to:Str
 su:Str
 te:Str
 ht:Str
def mcell (m:Mail):List PV:=[.flat (.string (S m.fr)),.flat (.string (S m.to)),.flat (.string (S m.su)),.flat (.string (S m.te)),.flat (.string (S m.ht))]
def Mail.small (m:Mail):Prop:=m.fr.length≤10000∧m.to.length≤10000∧m.su.length≤10000∧m.te.length≤10000∧m.ht.length≤10000
def checkU (m:Mail):Nat :=
 if (addrU m.fr && addrU m.to)=false then 1
 else if cleanU m.su=m.su∧cleanU m.te=m.te∧cleanU m.ht=m.ht∧m.su.contains 10=false∧pageU m.ht=true then 0 else 7
set_option maxHeartbeats 4000000 in
theorem check_ev (HI:LibIdx lib) (HL:LibLast lib) (HC:LibCon lib) (HP:LibPre lib) (HB:BldIn lib) (HN:LibNest lib) (m:Mail) (hm:m.small):evW code lib 12 [.agg (mcell m)] [] []=some ([.flat (.int .i64 (checkU m:Nat))],false,[],[]):=by
 obtain ⟨fr,to,su,te,ht⟩:=m
 obtain ⟨h1,h2,h3,h4,h5⟩:=hm
 dsimp only at h1 h2 h3 h4 h5
 have a1:=addr_ev HI HL HC fr (by omega)
 have a2:=addr_ev HI HL HC to (by omega)
 rw [addr_eq] at a1 a2
 have c1:=clean_ev HB su (by omega)
 have c2:=clean_ev HB te (by omega)
 have c3:=clean_ev HB ht (by omega)
 have hx:=idx_ev HI su 10 (by omega)
 have hin:=at1_in 10 su
 have hpg:=page_ev HP HB HN ht (by omega)
 have e10:((UInt8.toNat 10:Nat):Int)=10:=rfl
 rw [e10] at hx
 unfold checkU
 simp only [mcell]
 refine evW_eq code_email_Check (Nat.le_of_ble_eq_true rfl) ?_
 cases hf:addrU fr with
 | false =>
   rw [hf] at a1
   simp only [Bool.false_and,if_true,n1]
   simp (maxSteps:=999999) (disch:=first | assumption | omega) only [go_sem,simprocAttr,au,a1]
 | true =>
 rw [hf] at a1
 cases ht2:addrU to with
 | false =>
   rw [ht2] at a2
   simp only [Bool.and_false,if_true,n1]
   simp (maxSteps:=999999) (disch:=first | assumption | omega) only [go_sem,simprocAttr,au,a1,a2]
 | true =>
 rw [ht2] at a2
 simp only [Bool.and_self,Bool.true_eq_false,if_false]
 have e7:((7:Nat):Int)=7:=rfl
 by_cases hc1:cleanU su=su
 ·have hc1':=eq_true hc1
  by_cases hc2:cleanU te=te
  ·have hc2':=eq_true hc2
   by_cases hc3:cleanU ht=ht
   ·have hc3':=eq_true hc3
    cases hat:at1 10 su with
    | some i =>
      rw [hat] at hin
      simp only [hat] at hx
      simp only [← hin,Option.isSome_some,Bool.true_eq_false,false_and,and_false,if_false,e7]
      simp (maxSteps:=999999) (disch:=first | assumption | omega) only [go_sem,simprocAttr,au,a1,a2,c1,c2,c3,hc1',hc2',hc3',hx,big_on,loop_on,kLoop_n,kLoop_e,kLoop_r,on_email_Check_0]
    | none =>
      rw [hat] at hin
      simp only [hat] at hx
      cases hpu:pageU ht with
      | false =>
        rw [hpu] at hpg
        simp only [Bool.false_eq_true,and_false,if_false,e7]
        simp (maxSteps:=999999) (disch:=first | assumption | omega) only [go_sem,simprocAttr,au,a1,a2,c1,c2,c3,hc1',hc2',hc3',hx,hpg,big_on,loop_on,kLoop_n,kLoop_e,kLoop_r,on_email_Check_0]
      | true =>
        rw [hpu] at hpg
        rw [if_pos ⟨hc1,hc2,hc3,by rw [← hin];rfl,rfl⟩]
        simp (maxSteps:=999999) (disch:=first | assumption | omega) only [go_sem,simprocAttr,au,a1,a2,c1,c2,c3,hc1',hc2',hc3',hx,hpg,big_on,loop_on,kLoop_n,kLoop_e,kLoop_r,on_email_Check_0]
   ·have hc3':=eq_false hc3
    rw [if_neg (fun h=>hc3 h.2.2.1),e7]
    simp (maxSteps:=999999) (disch:=first | assumption | omega) only [go_sem,simprocAttr,au,a1,a2,c1,c2,c3,hc1',hc2',hc3',big_on,loop_on,kLoop_n,kLoop_e,kLoop_r,on_email_Check_0]
  ·have hc2':=eq_false hc2
   rw [if_neg (fun h=>hc2 h.2.1),e7]
   simp (maxSteps:=999999) (disch:=first | assumption | omega) only [go_sem,simprocAttr,au,a1,a2,c1,c2,hc1',hc2',big_on,loop_on,kLoop_n,kLoop_e,kLoop_r,on_email_Check_0]
 ·have hc1':=eq_false hc1
  rw [if_neg (fun h=>hc1 h.1),e7]
  simp (maxSteps:=999999) (disch:=first | assumption | omega) only [go_sem,simprocAttr,au,a1,a2,c1,hc1',big_on,loop_on,kLoop_n,kLoop_e,kLoop_r,on_email_Check_0]
theorem liesW:liesB 61 2:=by unfold liesB;kernel_rfl
def LibQp (lib:Callee) (qp:Str→Str):Prop:=∀ s:Str,s.length≤10000→(qp s).length≤100000∧lib 48 [.flat (.string (S s))] [] []=some ([.flat (.string (S (qp s)))],false,[],[])
def crlf:Str:=[13,10]
def linesU:List Str→Str
 | []=>[]
 | x::L=>x++crlf++linesU L
theorem field_ev {enc:Str→Str} (HE:LibB64 lib enc) (HI:LibIdx lib) (HP:LibPre lib) (HB:BldIn lib) {bx:Boxes} {r:List (Nat × Nat)} {b:Nat} {u:Bool} {l f v:Str} (hb:bx[b]? =some (61,bld u b l [])) (hv:v.length≤10000) (hf:f.length≤10000) (hn:nameU f=true) (hlen:l.length+(laidU enc f v).length≤bound) (hr:∀ q∈r,q≠(b,1)) (hlt:∀ q∈r,q.1<bx.length) :
 evW code lib 25 [.ptr b 0,.flat (.string (S f)),.flat (.string (S v))] bx (.cell b 1::cl r)=some ([],false,bx.set b (61,bld true b (l++laidU enc f v) []),.cell b 1::cl r):=by
 have hw:=write_ev HE HI HP HB f v hv hf
 simp only [hn,if_true] at hw
 have ws:=ws_ev (lib:=lib) (r:=r) (m:=laidU enc f v) HB hb liesW hlen hr hlt
 have hblt:b<bx.length:=(List.getElem?_eq_some_iff.1 hb).1
 obtain ⟨r',hr'⟩:∃ r',r'=(b,1)::r:=⟨_,rfl⟩
 have hcl:Loc.cell b 1::cl r=cl r':=by rw [hr'];rfl
 rw [hcl] at ws ⊢
 have hlt':∀ q∈r',q.1<bx.length:=by
  rw [hr'];intro q hq
  rcases List.mem_cons.1 hq with rfl | hq
  ·exact hblt
  ·exact hlt q hq
 refine evW_eq code_email_writer_field (Nat.le_of_ble_eq_true rfl) ?_
 simp (maxSteps:=999999) (disch:=first | assumption | omega) only [go_sem,simprocAttr,au,hw,ws]
theorem lines_ev (HB:BldIn lib) {bx:Boxes} {r:List (Nat × Nat)} {b:Nat} (L:List Str) {u:Bool} {l:Str} (hb:bx[b]? =some (61,bld u b l [])) (hL:L.length≤1000000) (hlen:l.length+(linesU L).length≤bound) (hr:∀ q∈r,q≠(b,1)) (hlt:∀ q∈r,q.1<bx.length) (h1:1≤L.length) :
 evW code lib 26 [.ptr b 0,.slc L.length (scells L)] bx (.cell b 1::cl r)=some ([],false,bx.set b (61,bld true b (l++linesU L) []),.cell b 1::cl r):=by
 have hblt:b<bx.length:=(List.getElem?_eq_some_iff.1 hb).1
 obtain ⟨r',hr'⟩:∃ r',r'=(b,1)::r:=⟨_,rfl⟩
 have hcl:Loc.cell b 1::cl r=cl r':=by rw [hr'];rfl
 have hlt':∀ q∈r',q.1<bx.length:=by
  rw [hr'];intro q hq
  rcases List.mem_cons.1 hq with rfl | hq
  ·exact hblt
  ·exact hlt q hq
 have hgen:∀ (t:List Str) (k:Nat) (u:Bool) (x:Str) (n:Nat),k+t.length=L.length→L.drop k=t→x.length+(linesU t).length≤bound→t.length<n →
  ∃ u',(1≤t.length→u'=true)∧(t=[]→u'=u)∧evLoop (evC (evW code lib) big b_email_writer_lines_0) [0,6,7,8] bx.length n ⟨[(0,.ptr b 0),(6,.slc L.length (scells L)),(7,.flat (.int .i64 (L.length:Nat))),(8,.flat (.int .i64 (k:Nat)))],cl r',[],bx.set b (61,bld u b x [])⟩=some (.exit 0,⟨[],cl r',[],bx.set b (61,bld u' b (x++linesU t) [])⟩):=by
  intro t
  induction t with
  | nil =>
    intro k u x n hk hd hx hn
    obtain ⟨m,rfl⟩:∃ m,n=m+1:=⟨n - 1,by simp only [List.length_nil] at hn;omega⟩
    have hk2:k=L.length:=by simp only [List.length_nil] at hk;omega
    subst hk2
    refine ⟨u,by simp,fun _=>rfl,?_⟩
    rw [loop_on]
    simp only [linesU,List.append_nil]
    simp (maxSteps:=999999) (disch:=first | assumption | omega) only [go_sem,simprocAttr,au,on_email_writer_lines_0,kLoop_e]
  | cons y t ih =>
    intro k u x n hk hd hx hn
    simp only [List.length_cons] at hk hn
    obtain ⟨m,rfl⟩:∃ m,n=m+1:=⟨n - 1,by omega⟩
    have hk2:k<L.length:=by omega
    have hsd:(scells L).drop k=.flat (.string (S y))::(scells L).drop (k+1):=by
     have:(scells L).drop k=scells (y::t):=by rw [scells,← List.map_drop,hd];rfl
     rw [this]
     have h2:L.drop (k+1)=t:=by
      have:=congrArg (List.drop 1) hd
      rwa [List.drop_drop] at this
     show .flat (.string (S y))::scells t=_
     rw [scells,scells,← List.map_drop,h2]
    have hd2:L.drop (k+1)=t:=by
     have:=congrArg (List.drop 1) hd
     rwa [List.drop_drop] at this
    have hl2:(linesU (y::t)).length=y.length+2+(linesU t).length:=by simp only [linesU,crlf,List.length_append,List.length_cons,List.length_nil]
    rw [hl2] at hx
    have hset:∀ q,(bx.set b (61,bld u b x [])).set b q=bx.set b q:=fun q=>List.set_set ..
    have w1:=ws_ev (lib:=lib) (bx:=bx.set b (61,bld u b x [])) (r:=r) (b:=b) (u:=u) (l:=x) (m:=y) (rest:=[]) HB (List.getElem?_set_self hblt) liesW (by omega) hr (by rw [List.length_set];exact hlt)
    have w2:=ws_ev (lib:=lib) (bx:=bx.set b (61,bld true b (x++y) [])) (r:=r) (b:=b) (u:=true) (l:=x++y) (m:=[13,10]) (rest:=[]) HB (List.getElem?_set_self hblt) liesW (by simp only [List.length_append,List.length_cons,List.length_nil];omega) hr (by rw [List.length_set];exact hlt)
    rw [hcl,List.set_set] at w1 w2
    obtain ⟨u',h3,h4,h5⟩:=ih (k+1) true (x++y++crlf) m (by omega) hd2 (by simp only [crlf,List.length_append,List.length_cons,List.length_nil];omega) (by omega)
    have hxl:x++linesU (y::t)=x++y++crlf++linesU t:=by simp only [linesU,List.append_assoc]
    rw [hxl]
    refine ⟨u',fun _=>?_,fun h=>(List.cons_ne_nil _ _ h).elim,?_⟩
    ·cases t with
     | nil=>exact h4 rfl
     | cons z t'=>exact h3 (by simp)
    have hassoc:x++(y++[13,10])=x++y++crlf:=by rw [List.append_assoc];rfl
    rw [loop_on]
    simp only [crlf] at h5 ⊢
    simp only [Int.natCast_add,Int.natCast_one,List.append_assoc] at h5
    simp only [List.append_assoc] at w2 ⊢
    simp (maxSteps:=999999) (disch:=first | assumption | omega) only [go_sem,simprocAttr,au,on_email_writer_lines_0,kLoop_n,hsd,w1,w2,h5,scells_len]
 obtain ⟨u',h2,_,h3⟩:=hgen L 0 u l big (by omega) rfl hlen (by unfold big;omega)
 rw [h2 h1] at h3
 rw [set_same hb] at h3
 simp only [n0] at h3
 rw [hcl]
 refine evW_eq code_email_writer_lines (Nat.le_of_ble_eq_true rfl) ?_
 simp (maxSteps:=999999) (disch:=first | assumption | omega) only [go_sem,simprocAttr,au,h3,scells_len]
theorem dropSlot_app {d:Nat} {a b:List Loc}:dropSlot d (a++b)=dropSlot d a++dropSlot d b:=by unfold dropSlot;rw [List.filter_append]
def markS:Str:=[45,45,61,95,110,117,110,99,105,111]
def ctS:Str:=[67,111,110,116,101,110,116,45,84,121,112,101,58,32,116,101,120,116,47]
def csS:Str:=[59,32,99,104,97,114,115,101,116,61,117,116,102,45,56]
def cteS:Str:=[67,111,110,116,101,110,116,45,84,114,97,110,115,102,101,114,45,69,110,99,111,100,105,110,103,58,32,113,117,111,116,101,100,45,112,114,105,110,116,97,98,108,101]
def mimeS:Str:=[77,73,77,69,45,86,101,114,115,105,111,110,58,32,49,46,48]
def multiS:Str:=[67,111,110,116,101,110,116,45,84,121,112,101,58,32,109,117,108,116,105,112,97,114,116,47,97,108,116,101,114,110,97,116,105,118,101,59,32,98,111,117,110,100,97,114,121,61,34,61,95,110,117,110,99,105,111,34]
def endS:Str:=[45,45,61,95,110,117,110,99,105,111,45,45]
def plainS:Str:=[112,108,97,105,110]
def htmlS:Str:=[104,116,109,108]
def fromS:Str:=[70,114,111,109]
def toS:Str:=[84,111]
def subjS:Str:=[83,117,98,106,101,99,116]
def partL (qp:Str→Str) (kind s:Str):List Str:=[markS,ctS++kind++csS,cteS,[],qp s]
def buildU (enc qp:Str→Str) (m:Mail):Str:=laidU enc fromS m.fr++laidU enc toS m.to++laidU enc subjS m.su++linesU [mimeS,multiS,[]]++linesU (partL qp plainS m.te)++linesU (partL qp htmlS m.ht)++linesU [endS]
theorem nameU_f:nameU fromS=true:=by decide +kernel
theorem nameU_t:nameU toS=true:=by decide +kernel
theorem nameU_s:nameU subjS=true:=by decide +kernel
theorem laidU_len {enc:Str→Str} (HE:LibB64 lib enc) (f v:Str) (hf:f.length≤10000) (hv:v.length≤10000):(laidU enc f v).length≤200000002:=by
 have:=foldW_in (wordsU enc v) 0 (f++[58],f.length+1) ⟨by simp only [List.length_append,List.length_cons,List.length_nil];omega,by dsimp only;omega⟩ (wordsU_len HE v hv)
 unfold laidU
 simp only [List.length_append,List.length_cons,List.length_nil];omega
theorem part_len {qp:Str→Str} (HQ:LibQp lib qp) (kind s:Str) (hk:kind.length≤100) (hs:s.length≤10000):(linesU (partL qp kind s)).length≤100300:=by
 have:=(HQ s hs).1
 simp only [partL,linesU,crlf,markS,ctS,csS,cteS,List.length_append,List.length_cons,List.length_nil];omega
theorem part_ev {qp:Str→Str} (HB:BldIn lib) (HQ:LibQp lib qp) {bx:Boxes} {r:List (Nat × Nat)} {b:Nat} {u:Bool} {l kind s:Str} (hb:bx[b]? =some (61,bld u b l [])) (hk:kind.length≤100) (hs:s.length≤10000) (hlen:l.length+(linesU (partL qp kind s)).length≤bound) (hr:∀ q∈r,q≠(b,1)) (hlt:∀ q∈r,q.1<bx.length) :
 evW code lib 27 [.ptr b 0,.flat (.string (S kind)),.flat (.string (S s))] bx (.cell b 1::cl r)=some ([],false,bx.set b (61,bld true b (l++linesU (partL qp kind s)) []),.cell b 1::cl r):=by
 have hq:evW code lib 48 [.flat (.string (S s))] [] []=some ([.flat (.string (S (qp s)))],false,[],[]):=evW_lib (by decide) (by kernel_rfl) (HQ s hs).2
 have hL:=lines_ev (lib:=lib) HB (r:=r) (partL qp kind s) hb (by simp [partL]) hlen hr hlt (by simp [partL])
 have hblt:b<bx.length:=(List.getElem?_eq_some_iff.1 hb).1
 obtain ⟨z,hz⟩:∃ z,linesU (partL qp kind s)=z:=⟨_,rfl⟩
 rw [hz] at hL ⊢
 simp only [partL,scells,List.map_cons,List.map_nil,List.length_cons,List.length_nil,Nat.zero_add,Nat.reduceAdd,markS,ctS,csS,cteS,List.append_assoc,List.cons_append,List.nil_append] at hL
 obtain ⟨r',hr'⟩:∃ r',r'=(b,1)::r:=⟨_,rfl⟩
 have hcl:Loc.cell b 1::cl r=cl r':=by rw [hr'];rfl
 rw [hcl] at hL ⊢
 have hlt':∀ q∈r',q.1<bx.length:=by
  rw [hr'];intro q hq
  rcases List.mem_cons.1 hq with rfl | hq
  ·exact hblt
  ·exact hlt q hq
 have hz0:(⟨#[]⟩:ByteArray)=S []:=rfl
 have hbv:bound=4294967296:=rfl
 refine evW_eq code_email_writer_part (Nat.le_of_ble_eq_true rfl) ?_
 simp (maxSteps:=999999) (disch:=first | assumption | omega) only [go_sem,simprocAttr,au,hz0,hq,hL,hbv,List.length_append,dropSlot_app]
def resB (enc qp:Str→Str) (m:Mail):Str:=if checkU m=0 then buildU enc qp m else []
theorem checkU_le (m:Mail):checkU m≤7:=by unfold checkU;split<;>(try split)<;>omega
set_option maxHeartbeats 4000000 in
theorem build_ev {enc qp:Str→Str} (HE:LibB64 lib enc) (HQ:LibQp lib qp) (HI:LibIdx lib) (HL:LibLast lib) (HC:LibCon lib) (HP:LibPre lib) (HB:BldIn lib) (HN:LibNest lib) (m:Mail) (hm:m.small):evW code lib 10 [.agg (mcell m)] [] []=some ([.flat (.string (S (resB enc qp m))),.flat (.int .i64 (checkU m:Nat))],false,[],[]):=by
 have hck:=check_ev HI HL HC HP HB HN m hm
 have hz0:(⟨#[]⟩:ByteArray)=S []:=rfl
 unfold resB
 have hle:=checkU_le m
 by_cases hc:checkU m=0
 ·rw [if_pos hc]
  rw [hc,n0] at hck
  rw [hc]
  obtain ⟨hm1,hm2,hm3,hm4,hm5⟩:=hm
  have l1:=laidU_len HE fromS m.fr (by decide) hm1
  have l2:=laidU_len HE toS m.to (by decide) hm2
  have l3:=laidU_len HE subjS m.su (by decide) hm3
  have l4:=part_len HQ plainS m.te (by decide) hm4
  have l5:=part_len HQ htmlS m.ht (by decide) hm5
  have hbv:bound=4294967296:=rfl
  have hF:∀ (u:Bool) (l f v:Str),v.length≤10000→f.length≤10000→nameU f=true→l.length+(laidU enc f v).length≤bound→evW code lib 25 [.ptr 1 0,.flat (.string (S f)),.flat (.string (S v))] [(23,mcell m),(61,bld u 1 l [])] [.cell 1 1]=some ([],false,[(23,mcell m),(61,bld true 1 (l++laidU enc f v) [])],[.cell 1 1]):=fun u l f v h1 h2 h3 h4=>field_ev (r:=[]) HE HI HP HB rfl h1 h2 h3 h4 (fun q h=>by cases h) (fun q h=>by cases h)
  have hLn:∀ (l:Str) (L:List Str),1≤L.length→L.length≤100→l.length+(linesU L).length≤bound→evW code lib 26 [.ptr 1 0,.slc L.length (scells L)] [(23,mcell m),(61,bld true 1 l [])] [.cell 1 1]=some ([],false,[(23,mcell m),(61,bld true 1 (l++linesU L) [])],[.cell 1 1]):=fun l L h1 h2 h3=>lines_ev (r:=[]) HB L rfl (by omega) h3 (fun q h=>by cases h) (fun q h=>by cases h) h1
  have hPt:∀ (l kind s:Str),kind.length≤100→s.length≤10000→l.length+(linesU (partL qp kind s)).length≤bound→evW code lib 27 [.ptr 1 0,.flat (.string (S kind)),.flat (.string (S s))] [(23,mcell m),(61,bld true 1 l [])] [.cell 1 1]=some ([],false,[(23,mcell m),(61,bld true 1 (l++linesU (partL qp kind s)) [])],[.cell 1 1]):=fun l kind s h1 h2 h3=>part_ev (r:=[]) HB HQ rfl h1 h2 h3 (fun q h=>by cases h) (fun q h=>by cases h)
  have hm6:(linesU [mimeS,multiS,[]]).length≤100:=by decide
  have hm7:(linesU [endS]).length≤100:=by decide
  unfold buildU
  obtain ⟨x1,hx1⟩:∃ x,laidU enc fromS m.fr=x:=⟨_,rfl⟩
  obtain ⟨x2,hx2⟩:∃ x,laidU enc toS m.to=x:=⟨_,rfl⟩
  obtain ⟨x3,hx3⟩:∃ x,laidU enc subjS m.su=x:=⟨_,rfl⟩
  obtain ⟨x4,hx4⟩:∃ x,linesU (partL qp plainS m.te)=x:=⟨_,rfl⟩
  obtain ⟨x5,hx5⟩:∃ x,linesU (partL qp htmlS m.ht)=x:=⟨_,rfl⟩
  obtain ⟨x6,hx6⟩:∃ x,linesU [mimeS,multiS,[]]=x:=⟨_,rfl⟩
  obtain ⟨x7,hx7⟩:∃ x,linesU [endS]=x:=⟨_,rfl⟩
  have f1:=hF false [] fromS m.fr hm1 (by decide) nameU_f (by rw [hbv];simp only [List.length_nil];omega)
  rw [hx1,List.nil_append] at f1
  rw [hx1] at l1
  have f2:=hF true x1 toS m.to hm2 (by decide) nameU_t (by rw [hbv];omega)
  rw [hx2] at f2 l2
  have f3:=hF true (x1++x2) subjS m.su hm3 (by decide) nameU_s (by rw [hbv,List.length_append];omega)
  rw [hx3] at f3 l3
  have f4:=hLn (x1++x2++x3) [mimeS,multiS,[]] (by decide) (by decide) (by rw [hbv,List.length_append,List.length_append];omega)
  rw [hx6] at f4 hm6
  have f5:=hPt (x1++x2++x3++x6) plainS m.te (by decide) hm4 (by rw [hbv];simp only [List.length_append];omega)
  rw [hx4] at f5 l4
  have f6:=hPt (x1++x2++x3++x6++x4) htmlS m.ht (by decide) hm5 (by rw [hbv];simp only [List.length_append];omega)
  rw [hx5] at f6 l5
  have f7:=hLn (x1++x2++x3++x6++x4++x5) [endS] (by decide) (by decide) (by rw [hbv];simp only [List.length_append];omega)
  rw [hx7] at f7 hm7
  have f8:=st_ev (lib:=lib) (bx:=[(23,mcell m),(61,bld true 1 (x1++x2++x3++x6++x4++x5++x7) [])]) (oc:=[.cell 1 1]) (b:=1) (u:=true) (rest:=[]) HB rfl (by simp)
  rw [hx1,hx2,hx3,hx4,hx5,hx6,hx7]
  clear hF hLn hPt hx1 hx2 hx3 hx4 hx5 hx6 hx7 HE HQ HI HL HC HP HB HN
  simp only [mcell,bld_f,scells,List.map_cons,List.map_nil,List.length_cons,List.length_nil,Nat.zero_add,Nat.reduceAdd,mimeS,multiS,endS,fromS,toS,subjS,plainS,htmlS,List.append_assoc] at hck f1 f2 f3 f4 f5 f6 f7 f8 ⊢
  refine evW_eq code_email_Build (Nat.le_of_ble_eq_true rfl) ?_
  simp (maxSteps:=999999) (disch:=first | assumption | omega) only [go_sem,simprocAttr,au,hz0,hck,f1,f2,f3,f4,f5,f6,f7,f8]
 ·rw [if_neg hc]
  simp only [mcell] at hck ⊢
  have hc':=eq_false hc
  refine evW_eq code_email_Build (Nat.le_of_ble_eq_true rfl) ?_
  simp (maxSteps:=999999) (disch:=first | assumption | omega) only [go_sem,simprocAttr,au,hz0,hck,hc']
def digU (c:UInt8):Nat:=if 48≤c.toNat∧c.toNat≤57 then c.toNat - 48 else if 65≤c.toNat∧c.toNat≤70 then c.toNat - 55 else if 97≤c.toNat∧c.toNat≤102 then c.toNat - 87 else 16
theorem digit5_ev (c:UInt8):evW code lib 201 [.flat (.int .u8 c.toNat)] [] []=some ([.flat (.int .i64 (digU c:Nat))],false,[],[]):=by
 refine evW_eq code_n01_digit (Nat.le_of_ble_eq_true rfl) ?_
 unfold digU
 have hc:c.toNat<256:=c.toNat_lt
 obtain ⟨n,hn⟩:∃ n,c.toNat=n:=⟨_,rfl⟩
 rw [hn] at hc ⊢
 by_cases h1:48≤n∧n≤57
 ·rw [if_pos h1]
  obtain ⟨h1,h2⟩:=h1
  obtain ⟨k,rfl⟩:∃ k,n=k+48:=⟨n - 48,by omega⟩
  have e:IntKind.i64.wrap ((k:Int)+48)=(k:Int)+48:=wrap64 (by omega)
  have e2:(k:Int)+48 - 48=(k:Int):=by omega
  have e3:k+48 - 48=k:=by omega
  have hk:k≤9:=by omega
  simp (maxSteps:=999999) (disch:=first | assumption | omega) only [go_sem,simprocAttr,au,e,e2,e3]
 rw [if_neg h1]
 by_cases h2:65≤n∧n≤70
 ·rw [if_pos h2]
  obtain ⟨h2,h3⟩:=h2
  obtain ⟨k,rfl⟩:∃ k,n=k+65:=⟨n - 65,by omega⟩
  have e:IntKind.i64.wrap ((k:Int)+65)=(k:Int)+65:=wrap64 (by omega)
  have e2:(k:Int)+65 - 65=(k:Int):=by omega
  have e3:k+65 - 55=k+10:=by omega
  have hk:k≤5:=by omega
  clear h1
  simp (maxSteps:=999999) (disch:=first | assumption | omega) only [go_sem,simprocAttr,au,e,e2,e3]
 rw [if_neg h2]
 by_cases h3:97≤n∧n≤102
 ·rw [if_pos h3]
  obtain ⟨h3,h4⟩:=h3
  obtain ⟨k,rfl⟩:∃ k,n=k+97:=⟨n - 97,by omega⟩
  have e:IntKind.i64.wrap ((k:Int)+97)=(k:Int)+97:=wrap64 (by omega)
  have e2:(k:Int)+97 - 97=(k:Int):=by omega
  have e3:k+97 - 87=k+10:=by omega
  have hk:k≤5:=by omega
  clear h1 h2
  simp (maxSteps:=999999) (disch:=first | assumption | omega) only [go_sem,simprocAttr,au,e,e2,e3]
 rw [if_neg h3]
 simp (maxSteps:=999999) (disch:=first | assumption | omega) only [go_sem,simprocAttr,au]
 repeat' (split<;>simp (maxSteps:=999999) (disch:=first | assumption | omega) only [go_sem,simprocAttr,au])
def byteU (s:Str) (k:Nat):Option UInt8:=match s[k]?,s[k+1]? with
 | some a,some b=>if digU a≤15∧digU b≤15 then some (UInt8.ofNat (16 * digU a+digU b)) else none
 | _,_=>none
theorem byte5_ev (s:Str) (k:Nat) (hs:s.length≤100000000) (hk:k≤100000000):evW code lib 170 [.flat (.string (S s)),.flat (.int .i64 (k:Nat))] [] []=some (match byteU s k with
 | some b=>([.flat (.int .u8 b.toNat),.flat (.bool true)],false,[],[])
 | none=>([.flat (.int .u8 0),.flat (.bool false)],false,[],[])):=by
 refine evW_eq code_n01_Byte (Nat.le_of_ble_eq_true rfl) ?_
 unfold byteU
 by_cases hl:k+1<s.length
 ·have ha:s[k]? =some s[k]:=List.getElem?_eq_getElem (by omega)
  have hb:s[k+1]? =some s[k+1]:=List.getElem?_eq_getElem hl
  obtain ⟨a,ha'⟩:∃ a,s[k]=a:=⟨_,rfl⟩
  obtain ⟨b,hb'⟩:∃ b,s[k+1]=b:=⟨_,rfl⟩
  rw [ha'] at ha;rw [hb'] at hb
  rw [ha,hb]
  dsimp only
  have d1:=digit5_ev (lib:=lib) a
  have d2:=digit5_ev (lib:=lib) b
  have b1:digU a≤16:=by unfold digU;repeat' split
                        all_goals omega
  have b2:digU b≤16:=by unfold digU;repeat' split
                        all_goals omega
  obtain ⟨x,hx⟩:∃ x,digU a=x:=⟨_,rfl⟩
  obtain ⟨y,hy⟩:∃ y,digU b=y:=⟨_,rfl⟩
  rw [hx] at d1 b1 ⊢;rw [hy] at d2 b2 ⊢
  have hk2:((k:Int)+1).toNat=k+1:=by omega
  by_cases h15:x≤15
  ·by_cases h16:y≤15
   ·rw [if_pos ⟨h15,h16⟩]
    have e:(UInt8.ofNat (16 * x+y)).toNat=16 * x+y:=by simp;omega
    have e2:IntKind.u8.wrap (16 * (x:Int)+(y:Int))=((16 * x+y:Nat):Int):=by rw [wrap8 (by omega)];omega
    have e3:IntKind.i64.wrap (16 * (x:Int))=16 * (x:Int):=wrap64 (by omega)
    have e4:IntKind.i64.wrap (16 * (x:Int)+(y:Int))=16 * (x:Int)+(y:Int):=wrap64 (by omega)
    dsimp only
    rw [e]
    obtain ⟨z,hz⟩:∃ z,16 * x+y=z:=⟨_,rfl⟩
    rw [hz] at e2 ⊢
    simp (maxSteps:=999999) (disch:=first | assumption | omega) only [go_sem,simprocAttr,au,ha,hb,d1,d2,hk2,e2,e3,e4]
   ·rw [if_neg (fun h=>h16 h.2)]
    simp (maxSteps:=999999) (disch:=first | assumption | omega) only [go_sem,simprocAttr,au,ha,hb,d1,d2,hk2]
  ·rw [if_neg (fun h=>h15 h.1)]
   simp (maxSteps:=999999) (disch:=first | assumption | omega) only [go_sem,simprocAttr,au,ha,hb,d1,d2,hk2]
 ·have hb:s[k+1]? =none:=List.getElem?_eq_none (by omega)
  have e:(match s[k]?,s[k+1]? with
   | some a,some b=>if digU a≤15∧digU b≤15 then some (UInt8.ofNat (16 * digU a+digU b)) else none
   | _,_=>none)=none:=by rw [hb];cases s[k]? <;>rfl
  rw [e]
  have w1:IntKind.i64.wrap ((s.length:Int) - 2)=(s.length:Int) - 2:=wrap64 (by omega)
  simp (maxSteps:=999999) (disch:=first | assumption | omega) only [go_sem,simprocAttr,au,w1]
theorem few36_ev (s:Str) (hs:s.length≤9223372036854775807):evW code lib 9 [.flat (.string (S s))] [] []=some ([.flat (.string (S (s.take 250)))],false,[],[]):=by
 refine evW_eq code_nunciolaw36_few (Nat.le_of_ble_eq_true rfl) ?_
 by_cases h:s.length≤250
 ·have e:min (s.length:Int) 250=s.length:=by omega
  rw [List.take_of_length_le h]
  simp (maxSteps:=999999) (disch:=first | assumption | omega) only [go_sem,simprocAttr,au,e]
 ·have e:min (s.length:Int) 250=250:=by omega
  have e2:(250:Int).toNat=250:=rfl
  simp (maxSteps:=999999) (disch:=first | assumption | omega) only [go_sem,simprocAttr,au,e,e2]
def Mail.short (m:Mail):Mail:=⟨m.fr.take 250,m.to.take 250,m.su.take 250,m.te.take 250,m.ht.take 250⟩
theorem short_small (m:Mail):m.short.small:=by
 unfold Mail.short Mail.small
 simp only [List.length_take];omega
theorem short36_ev (m:Mail) (h1:m.fr.length≤9223372036854775807) (h2:m.to.length≤9223372036854775807) (h3:m.su.length≤9223372036854775807) (h4:m.te.length≤9223372036854775807) (h5:m.ht.length≤9223372036854775807):evW code lib 8 [.agg (mcell m)] [] []=some ([.agg (mcell m.short)],false,[],[]):=by
 have f1:=few36_ev (lib:=lib) m.fr h1
 have f2:=few36_ev (lib:=lib) m.to h2
 have f3:=few36_ev (lib:=lib) m.su h3
 have f4:=few36_ev (lib:=lib) m.te h4
 have f5:=few36_ev (lib:=lib) m.ht h5
 simp only [mcell,Mail.short]
 refine evW_eq code_nunciolaw36_short (Nat.le_of_ble_eq_true rfl) ?_
 have hz0:(⟨#[]⟩:ByteArray)=S []:=rfl
 simp (maxSteps:=999999) (disch:=first | assumption | omega) only [go_sem,simprocAttr,au,hz0,f1,f2,f3,f4,f5]
end Nun
end
section
namespace Nun
open Go
def ix (o:Option Nat):Int:=match o with
 | some i=>(i:Int)
 | none=>-1
theorem ix_at1 (c:UInt8):∀ s:Str,Lib.indexByte s c=ix (at1 c s)
 | []=>rfl
 | x::l=>by
   have h:=ix_at1 c l
   unfold Lib.indexByte at1
   by_cases hx:x=c
   ·subst hx
    all_goals (simp [ix])
   ·have h1:(x == c)=false:=by simpa using hx
    rw [h1,h,if_neg hx]
    cases at1 c l with
    | none=>rfl
    | some i =>
      have:((i:Int) == -1)=false:=by
       rw [beq_eq_false_iff_ne];omega
      simp only [ix,this,Bool.false_eq_true,if_false,Option.map_some]
      omega
theorem lastI_take (c:UInt8) (s:Str):∀ k,k≤s.length→Lib.lastIdx (S s) (c.toNat:Nat) k=ix (lastI c (s.take k))
 | 0,_=>by simp [Lib.lastIdx,lastI,ix]
 | k+1,h=>by
   have hk:k<s.length:=h
   have ht:s.take (k+1)=s.take k++[s[k]]:=List.take_succ_eq_append_getElem hk
   have hg:(S s).data[k]! =s[k]:=by
    show s.toArray[k]! =s[k]
    simp [hk]
   rw [Lib.lastIdx,hg,ht]
   by_cases hc:s[k]=c
   ·have h1:lastI c [s[k]]=some 0:=by simp [lastI,hc]
    rw [lastI_app h1,List.length_take,Nat.min_eq_left (by omega),hc,if_pos rfl]
    all_goals (simp [ix])
   ·have h2:¬ ((s[k].toNat:Int)=(c.toNat:Nat)):=fun e=>hc (UInt8.toNat_inj.1 (by omega))
    rw [if_neg h2,lastI_take c s k (by omega)]
    congr 1
    by_cases hm:c∈s.take k
    ·obtain ⟨i,hi⟩:=lastI_some hm
     have:∀ p:Str,(∃ j,lastI c p=some j)→lastI c (p++[s[k]])=lastI c p:=by
      intro p
      induction p with
      | nil=>rintro ⟨j,hj⟩;cases hj
      | cons x l ih =>
        rintro ⟨j,hj⟩
        simp only [List.cons_append,lastI]
        by_cases hl:c∈l
        ·rw [ih (lastI_some hl)]
        ·rw [lastI_none hl]
         rw [lastI_none (s:=l++[s[k]]) (by
          rw [List.mem_append];rintro (h | h)
          ·exact hl h
          ·simp at h;exact hc h.symm)]
     exact (this _ ⟨i,hi⟩).symm
    ·rw [lastI_none hm,lastI_none (s:=s.take k++[s[k]]) (by
      rw [List.mem_append];rintro (h | h)
      ·exact hm h
      ·simp at h;exact hc h.symm)]
theorem lastI_lib (c:UInt8) (s:Str):Lib.lastIndexByte (S s) (c.toNat:Nat)=ix (lastI c s):=by
 unfold Lib.lastIndexByte
 rw [S_size,lastI_take c s _ (Nat.le_refl _),List.take_length]
theorem stands_lib (w:Str) (hw:w≠[]):∀ s:Str,Lib.contains s w=standsU s w
 | []=>by
   unfold Lib.contains Lib.index standsU
   cases w with
   | nil=>exact absurd rfl hw
   | cons a l=>rfl
 | x::l=>by
   have h:=stands_lib w hw l
   unfold Lib.contains at h ⊢
   unfold Lib.index standsU
   rw [← h]
   cases hp:w.isPrefixOf (x::l) with
   | true=>simp
   | false =>
     simp only [Bool.false_eq_true,if_false,Bool.false_or]
     have hge:=Lib.index_ge l w
     by_cases h1:Lib.index l w=-1
     ·have:(Lib.index l w == -1)=true:=by simpa using h1
      rw [this,if_pos rfl,h1]
     ·have:(Lib.index l w == -1)=false:=by simpa using h1
      rw [this,if_neg (by simp),decide_eq_decide]
      omega
end Nun
end
section
namespace Nun
open Go Go.RowKit Go.Proofs Go.Proofs.YtmpiobfdchlikaaGreatDoor
variable {lib:Callee}
def openB (mark:Str):Str:=[45,45]++mark++[13,10]
def betwB (mark:Str):Str:=[13,10,45,45]++mark++[13,10]
def endB (mark:Str):Str:=[13,10,45,45]++mark++[45,45,13,10]
def bodT (s mark:Str) (q:List Str × Nat × Nat):(List Str × Nat × Nat) ⊕ Option (List Str × Bool) :=
 if q.2.2<s.length then
  if beginsU s (betwB mark) q.2.2 then .inl (q.1++[(s.take q.2.2).drop q.2.1],q.2.2+(betwB mark).length,q.2.2+(betwB mark).length)
  else if beginsU s (endB mark) q.2.2 then .inr (some (q.1++[(s.take q.2.2).drop q.2.1],decide (q.2.2+(endB mark).length=s.length)))
  else .inl (q.1,q.2.1,q.2.2+1)
 else .inr none
def bodiesU (s mark:Str):Option (List Str × Bool):=if beginsU s (openB mark) 0 then runS (bodT s mark) none (s.length+1) ([],(openB mark).length,(openB mark).length) else none
def headB (s mark:Str) (q:List Str × Nat × Nat):St:=⟨[(0,.flat (.string (S s))),(7,.flat (.string (S (betwB mark)))),(8,.flat (.string (S (endB mark)))),(9,.slc q.1.length (scells q.1)),(10,.flat (.int .i64 (q.2.1:Nat))),(11,.flat (.int .i64 (q.2.2:Nat)))],[.slot 9],[],[]⟩
def finB:Option (List Str × Bool)→Out × St
 | none=>(.exit 0,⟨[],[],[],[]⟩)
 | some (out,ok)=>(.ret,⟨[(4,.slc out.length (scells out)),(5,.flat (.bool ok))],[.slot 4],[],[]⟩)
theorem begins_len {s w:Str} {k:Nat} (h:beginsU s w k=true):k+w.length≤s.length:=by
 unfold beginsU at h
 rw [Bool.and_eq_true,decide_eq_true_eq] at h
 have:=List.IsPrefix.length_le (List.isPrefixOf_iff_prefix.1 h.2)
 rw [List.length_drop] at this;omega
theorem bodies_ev (s mark:Str) (hs:s.length≤100000000) (hm:mark.length≤100000):evW code lib 67 [.flat (.string (S s)),.flat (.string (S mark))] [] []=some (match bodiesU s mark with
 | none=>([.slc 0 [],.flat (.bool false)],false,[],[])
 | some (out,ok)=>([.slc out.length (scells out),.flat (.bool ok)],false,[],[])):=by
 have hbv:bound=4294967296:=rfl
 have lo:(openB mark).length=mark.length+4:=by simp [openB]
 have lb:(betwB mark).length=mark.length+6:=by simp [betwB]
 have le:(endB mark).length=mark.length+8:=by simp [endB]
 have b1:=begins2_ev (lib:=lib) s (openB mark) 0 (by omega) (by omega) (by omega)
 simp only [n0] at b1
 refine evW_eq code_n14_bodies (Nat.le_of_ble_eq_true rfl) ?_
 unfold bodiesU
 have ho:S (45::45::(mark++[13,10]))=S (openB mark):=rfl
 have hb:S (13::10::45::45::(mark++[13,10]))=S (betwB mark):=rfl
 have he:S (13::10::45::45::(mark++[45,45,13,10]))=S (endB mark):=rfl
 cases ho1:beginsU s (openB mark) 0 with
 | false =>
   rw [ho1] at b1
   simp (maxSteps:=999999) (disch:=first | assumption | omega) only [go_sem,simprocAttr,au,b1,ho,hb,he]
 | true =>
   rw [ho1] at b1
   have hlen:=begins_len ho1
   have hloop:=loop_run (body:=evC (evW code lib) big b_n14_bodies_0) (live:=[0,7,8,9,10,11]) (nb:=0) (headB s mark) (bodT s mark) none finB (fun q=>q.2.1≤q.2.2∧q.2.2≤s.length∧q.1.length≤q.2.2) (fun q=>s.length - q.2.2) (fun q hq=>?_) (fun q hq=>by simp only [headB,go_sem,simprocAttr])
    (fun a b ha h=>?_) (fun r=>by cases r<;>simp [finB]) (n:=s.length+1) ([],(openB mark).length,(openB mark).length) ⟨Nat.le_refl _,by dsimp only;omega,Nat.zero_le _⟩ (by dsimp only;omega) (by dsimp only;unfold big;omega)
   ·obtain ⟨R,hR⟩:∃ R,runS (bodT s mark) none (s.length+1) ([],(openB mark).length,(openB mark).length)=R:=⟨_,rfl⟩
    rw [hR] at hloop
    simp only [if_true,hR]
    unfold headB at hloop
    have e0:scells ([]:List Str)=[]:=rfl
    simp only [List.length_nil,e0] at hloop
    have hs5:(S (openB mark)).size=(openB mark).length:=S_size
    cases R with
    | none =>
      simp only [finB] at hloop
      simp (maxSteps:=999999) (disch:=first | assumption | omega) only [go_sem,simprocAttr,au,b1,ho,hb,he,hloop,hs5]
    | some r =>
      obtain ⟨out,ok⟩:=r
      simp only [finB] at hloop
      simp (maxSteps:=999999) (disch:=first | assumption | omega) only [go_sem,simprocAttr,au,b1,ho,hb,he,hloop,hs5]
   ·obtain ⟨out,fr,i⟩:=q
    obtain ⟨h1,h2,h3⟩:=hq
    dsimp only at h1 h2 h3
    have c1:=begins2_ev (lib:=lib) s (betwB mark) i (by omega) (by omega) (by omega)
    have c2:=begins2_ev (lib:=lib) s (endB mark) i (by omega) (by omega) (by omega)
    have e1:[PV.flat (.string (S ((s.take i).drop fr)))]=scells [(s.take i).drop fr]:=rfl
    unfold bodT
    dsimp only
    by_cases hlt:i<s.length
    ·rw [if_pos hlt]
     cases hb1:beginsU s (betwB mark) i with
     | true =>
       rw [hb1] at c1
       have hl1:=begins_len hb1
       simp only [if_true,outS]
       obtain ⟨n,hn⟩:∃ n,(betwB mark).length=n:=⟨_,rfl⟩
       simp only [hn] at hl1 lb ⊢
       unfold headB
       have hsz:(S (betwB mark)).size=n:=by rw [S_size,hn]
       have w2:IntKind.i64.wrap ((i:Int)+(n:Int) - 1+1)=((i+n:Nat):Int):=by rw [wrap64 (by omega)];omega
       simp (maxSteps:=999999) (disch:=first | assumption | omega) only [go_sem,simprocAttr,au,c1,hsz,on_n14_bodies_0,scells_len,scells_noU8,w2]
       simp only [e1,scells_app,List.length_append,List.length_cons,List.length_nil]
     | false =>
       rw [hb1] at c1
       simp only [Bool.false_eq_true,if_false]
       cases hb2:beginsU s (endB mark) i with
       | true =>
         rw [hb2] at c2
         have hl1:=begins_len hb2
         simp only [if_true,outS,finB]
         obtain ⟨n,hn⟩:∃ n,(endB mark).length=n:=⟨_,rfl⟩
         simp only [hn] at hl1 le ⊢
         unfold headB
         have hsz:(S (endB mark)).size=n:=by rw [S_size,hn]
         simp (maxSteps:=999999) (disch:=first | assumption | omega) only [go_sem,simprocAttr,au,c1,c2,hsz,on_n14_bodies_0,scells_len,scells_noU8]
         have d1:((i:Int)+(n:Int)=(s.length:Nat))=(i+n=s.length):=by apply propext;omega
         simp only [e1,scells_app,List.length_append,List.length_cons,List.length_nil,d1,Nat.zero_add]
       | false =>
         rw [hb2] at c2
         simp only [Bool.false_eq_true,if_false,outS]
         unfold headB
         simp (maxSteps:=999999) (disch:=first | assumption | omega) only [go_sem,simprocAttr,au,c1,c2,on_n14_bodies_0]
    ·rw [if_neg hlt]
     simp only [outS,finB]
     unfold headB
     simp (maxSteps:=999999) (disch:=first | assumption | omega) only [go_sem,simprocAttr,au,on_n14_bodies_0]
   ·obtain ⟨out,fr,i⟩:=a
    obtain ⟨h1,h2,h3⟩:=ha
    dsimp only at h1 h2 h3
    unfold bodT at h
    dsimp only at h
    split at h
    ·split at h
     ·rename_i hb1
      have:=begins_len hb1
      cases h
      dsimp only
      simp only [List.length_append,List.length_cons,List.length_nil]
      omega
     ·split at h
      ·cases h
      ·cases h
       dsimp only
       omega
    ·cases h
end Nun
end
