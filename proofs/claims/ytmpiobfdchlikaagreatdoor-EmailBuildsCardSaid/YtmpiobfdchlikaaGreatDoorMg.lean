/- EmailBuilds answers true for every mail and every text, where the table of base64 is laid az start-up lays it: texts of this proof, merged. -/
import Derived.Test.YtmpiobfdchlikaaGreatDoorMf
set_option linter.unusedVariables false
set_option linter.unusedSimpArgs false
section
namespace Nun
open Go Go.RowKit Go.Proofs Go.Proofs.YtmpiobfdchlikaaGreatDoor
variable {lib:Callee}
theorem walk_idx {s:Str} {fin:Unit→Out × St} {g:Nat→Out × St}:∀ (L:List Str) (k:Nat),(L.contains s=false∧walkL (fun (_:Unit) k x=>if x=s then .inr (g k) else .inl ()) fin () k L=fin ())∨(L.contains s=true∧∃ j,j<k+L.length∧walkL (fun (_:Unit) k x=>if x=s then .inr (g k) else .inl ()) fin () k L=g j)
 | [],k=>.inl ⟨rfl,rfl⟩
 | x::t,k=>by
   rw [walkL,List.contains_cons]
   by_cases h:x=s
   ·subst h
    refine .inr ⟨by simp,k,by simp,by rw [if_pos rfl]⟩
   ·rw [if_neg h]
    dsimp only
    have hb:(s == x)=false:=by simpa using fun e=>h e.symm
    rw [hb,Bool.false_or]
    rcases walk_idx (fin:=fin) (g:=g) t (k+1) with h1 | ⟨h1,j,h2,h3⟩
    ·exact .inl h1
    ·exact .inr ⟨h1,j,by simp only [List.length_cons];omega,h3⟩
theorem index_ev (L:List Str) (s:Str) (hL:L.length≤1000000):∃ i:Int,(L.contains s=decide (0≤i))∧evW code lib 221 [.slc L.length (scells L),.flat (.string (S s))] [] []=some ([.flat (.int .i64 i)],false,[],[]):=by
 have hloop:=loop_at (body:=evC (evW code lib) big b_slices_Index_string_string_0) (live:=[0,1,7,8]) (nb:=0) (fun (_:Unit) k=>⟨[(0,.slc L.length (scells L)),(1,.flat (.string (S s))),(7,.flat (.int .i64 (L.length:Nat))),(8,.flat (.int .i64 (k:Nat)))],[],[],[]⟩) L (fun _ _=>True)
  (fun _ k x=>if x=s then .inr (.ret,⟨[(4,.flat (.int .i64 (k:Nat)))],[],[],[]⟩) else .inl ()) (fun _=>(.exit 0,⟨[],[],[],[]⟩)) (fun _ k x _ hk hc hd=>?_) (fun _ _=>by simp only [go_sem,simprocAttr]) (fun _ _ _ _ _ _ _ _=>trivial) (fun _ _ x r h=>by split at h<;>simp at h;rw [← h];simp) (fun _ _=>?_) (fun _=>by simp) () trivial (by unfold big;omega)
 ·simp only [n0] at hloop
  rcases walk_idx (s:=s) (fin:=fun _=>(.exit 0,⟨[],[],[],[]⟩)) (g:=fun k=>(.ret,⟨[(4,.flat (.int .i64 (k:Nat)))],[],[],[]⟩)) L 0 with ⟨h1,h2⟩ | ⟨h1,j,h2,h3⟩
  ·rw [h2] at hloop
   refine ⟨-1,by rw [h1];rfl,?_⟩
   refine evW_eq code_slices_Index_string_string (Nat.le_of_ble_eq_true rfl) ?_
   have hm:Int.negSucc 0=-1:=rfl
   simp (maxSteps:=999999) (disch:=first | assumption | omega) only [go_sem,simprocAttr,au,hloop,scells_len,hm]
  ·rw [h3] at hloop
   refine ⟨j,by rw [h1];simp,?_⟩
   refine evW_eq code_slices_Index_string_string (Nat.le_of_ble_eq_true rfl) ?_
   simp (maxSteps:=999999) (disch:=first | assumption | omega) only [go_sem,simprocAttr,au,hloop,scells_len]
 ·have hsc:(scells L)[k]? =some (.flat (.string (S x))):=by simp only [scells,List.getElem?_map,hc,Option.map_some]
  have hsd:(scells L).drop k=.flat (.string (S x))::(scells L).drop (k+1):=by
   rw [List.drop_eq_getElem_cons (by rw [scells_len];exact hk)]
   rw [List.getElem?_eq_getElem (by rw [scells_len];exact hk),Option.some.injEq] at hsc
   rw [hsc]
  by_cases h:x=s
  ·have h':(s=x)=True:=eq_true h.symm
   rw [if_pos h]
   simp (maxSteps:=999999) (disch:=first | assumption | omega) only [go_sem,simprocAttr,au,on_slices_Index_string_string_0,hsc,hsd,h',scells_len]
  ·have h':(s=x)=False:=eq_false fun e=>h e.symm
   rw [if_neg h]
   simp (maxSteps:=999999) (disch:=first | assumption | omega) only [go_sem,simprocAttr,au,on_slices_Index_string_string_0,hsc,hsd,h',scells_len]
 ·simp (maxSteps:=999999) (disch:=first | assumption | omega) only [go_sem,simprocAttr,au,on_slices_Index_string_string_0]
theorem contains_ev (L:List Str) (s:Str) (hL:L.length≤1000000):evW code lib 194 [.slc L.length (scells L),.flat (.string (S s))] [] []=some ([.flat (.bool (L.contains s))],false,[],[]):=by
 obtain ⟨i,h1,h2⟩:=index_ev (lib:=lib) L s hL
 refine evW_eq code_slices_Contains_string_string (Nat.le_of_ble_eq_true rfl) ?_
 rw [h1]
 simp (maxSteps:=999999) (disch:=first | assumption | omega) only [go_sem,simprocAttr,au,h2,scells_np]
theorem element_ev (s:Str):evW code lib 162 [.flat (.string (S s))] [] []=some ([.flat (.bool (elemsE.contains s))],false,[],[]):=by
 have h:=contains_ev (lib:=lib) elemsE s (by decide)
 obtain ⟨v,hv⟩:∃ v,elemsE.contains s=v:=⟨_,rfl⟩
 rw [hv] at h ⊢
 simp only [scells,elemsE,List.map_cons,List.map_nil,List.length_cons,List.length_nil,Nat.zero_add,Nat.reduceAdd] at h
 refine evW_eq code_tags_element (Nat.le_of_ble_eq_true rfl) ?_
 simp only [go_sem,simprocAttr,mk_S,h]
theorem attribute_ev (s:Str):evW code lib 222 [.flat (.string (S s))] [] []=some ([.flat (.bool (attrsE.contains s))],false,[],[]):=by
 have h:=contains_ev (lib:=lib) attrsE s (by decide)
 obtain ⟨v,hv⟩:∃ v,attrsE.contains s=v:=⟨_,rfl⟩
 rw [hv] at h ⊢
 simp only [scells,attrsE,List.map_cons,List.map_nil,List.length_cons,List.length_nil,Nat.zero_add,Nat.reduceAdd] at h
 refine evW_eq code_tags_attribute (Nat.le_of_ble_eq_true rfl) ?_
 simp only [go_sem,simprocAttr,mk_S,h]
theorem void_ev (s:Str):evW code lib 109 [.flat (.string (S s))] [] []=some ([.flat (.bool (voidE s))],false,[],[]):=by
 refine evW_eq code_tags_Void (Nat.le_of_ble_eq_true rfl) ?_
 unfold voidE
 rcases Classical.em (s=[98,114]) with h1 | h1<;>rcases Classical.em (s=[104,114]) with h2 | h2<;>rcases Classical.em (s=[105,109,103]) with h3 | h3
 all_goals
  first | have h1':=eq_false h1 | have h1':=eq_true h1
  first | have h2':=eq_false h2 | have h2':=eq_true h2
  first | have h3':=eq_false h3 | have h3':=eq_true h3
  clear h1 h2 h3
  simp (maxSteps:=999999) (disch:=first | assumption | omega) only [go_sem,simprocAttr,au,h1',h2',h3']
end Nun
end
section
namespace Nun
open Go Go.RowKit Go.Proofs Go.Proofs.YtmpiobfdchlikaaGreatDoor
variable {lib:Callee}
structure RdAt (B:Nat→Boxes) (n b e:Nat) (s:Str) (r:List (Nat × Nat)):Prop where
 len:∀ j,(B j).length=n
 get:∀ j,(B j)[b]? =some (e,rd s j)
 set:∀ i j,(B j).set b (e,rd s i)=B i
 lt:b<n
 low:∀ j,boxLows n (B j)=true
 hs:s.length≤100000000
 hr:∀ q∈r,q≠(b,1)
 hlt:∀ q∈r,q.1<n
mutual
theorem pv_low_le {n m:Nat} (h:n≤m):∀ v:PV,v.low n=true→v.low m=true
 | .ptr b _,k=>by simp only [PV.low,decide_eq_true_eq] at k ⊢;omega
 | .yld b,k=>by simp only [PV.low,decide_eq_true_eq] at k ⊢;omega
 | .bsl b _ _,k=>by simp only [PV.low,decide_eq_true_eq] at k ⊢;omega
 | .slc _ cs,k=>by simp only [PV.low] at k ⊢;exact lows_le h cs k
 | .agg cs,k=>by simp only [PV.low] at k ⊢;exact lows_le h cs k
 | .tup cs,k=>by simp only [PV.low] at k ⊢;exact lows_le h cs k
 | .elt cs,k=>by simp only [PV.low] at k ⊢;exact lows_le h cs k
 | .clo _ cs,k=>by simp only [PV.low] at k ⊢;exact lows_le h cs k
 | .lp _ _ _ _ cs,k=>by simp only [PV.low] at k ⊢;exact lows_le h cs k
 | .flat _,_=>rfl
 | .unk,_=>rfl
theorem lows_le {n m:Nat} (h:n≤m):∀ l:List PV,lows n l=true→lows m l=true
 | [],_=>rfl
 | v::l,k=>by
   simp only [lows,Bool.and_eq_true] at k ⊢
   exact ⟨pv_low_le h v k.1,lows_le h l k.2⟩
end
theorem boxLows_le {n m:Nat} (h:n≤m):∀ l:Boxes,boxLows n l=true→boxLows m l=true
 | [],_=>rfl
 | q::l,hl=>by
   rw [boxLows_cons,Bool.and_eq_true] at hl ⊢
   exact ⟨lows_le h _ hl.1,boxLows_le h l hl.2⟩
section
variable {B:Nat→Boxes} {n b e:Nat} {s:Str} {r:List (Nat × Nat)}
theorem RdAt.app (H:RdAt B n b e s r) {m:Nat} (ys:Boxes) (hm:n+ys.length=m) (hl:boxLows m ys=true):RdAt (fun j=>B j++ys) m b e s r where
 len j:=by rw [List.length_append,H.len];exact hm
 get j:=by rw [List.getElem?_append_left (by rw [H.len];exact H.lt),H.get]
 set i j:=by rw [List.set_append_left _ _ (by rw [H.len];exact H.lt),H.set]
 lt:=by have:=H.lt;omega
 low j:=by rw [low_app,boxLows_le (by omega) _ (H.low j),hl];rfl
 hs:=H.hs
 hr:=H.hr
 hlt q hq:=by have:=H.hlt q hq;omega
theorem RdAt.a_get (H:RdAt B n b e s r) (j:Nat) (ys:Boxes):(B j++ys)[b]? =some (e,rd s j):=by rw [List.getElem?_append_left (by rw [H.len];exact H.lt),H.get]
theorem RdAt.a_0 (H:RdAt B n b e s r) (j:Nat) (ys:Boxes):(B j++ys)[n]? =ys[0]? :=by rw [List.getElem?_append_right (by rw [H.len];omega),H.len,Nat.sub_self]
theorem RdAt.a_1 (H:RdAt B n b e s r) (j i:Nat) (ys:Boxes):(B j++ys)[n+i]? =ys[i]? :=by rw [List.getElem?_append_right (by rw [H.len];omega),H.len,Nat.add_sub_cancel_left]
theorem RdAt.a_set (H:RdAt B n b e s r) (i j:Nat) (ys:Boxes):(B j++ys).set b (e,rd s i)=B i++ys:=by rw [List.set_append_left _ _ (by rw [H.len];exact H.lt),H.set]
theorem RdAt.a_s0 (H:RdAt B n b e s r) (j:Nat) (ys:Boxes) (q:Nat × List PV):(B j++ys).set n q=B j++ys.set 0 q:=by rw [List.set_append_right _ _ (by rw [H.len];omega),H.len,Nat.sub_self]
theorem RdAt.a_s1 (H:RdAt B n b e s r) (j i:Nat) (ys:Boxes) (q:Nat × List PV):(B j++ys).set (n+i) q=B j++ys.set i q:=by rw [List.set_append_right _ _ (by rw [H.len];omega),H.len,Nat.add_sub_cancel_left]
theorem RdAt.a_len (H:RdAt B n b e s r) (j:Nat) (ys:Boxes):(B j++ys).length=n+ys.length:=by rw [List.length_append,H.len]
theorem RdAt.a_take (H:RdAt B n b e s r) (j:Nat) (ys:Boxes):(B j++ys).take n=B j:=by rw [List.take_append_of_le_length (by rw [H.len];omega),List.take_of_length_le (by rw [H.len];omega)]
theorem RdAt.a_take1 (H:RdAt B n b e s r) (j i:Nat) (ys:Boxes):(B j++ys).take (n+i)=B j++ys.take i:=by
 rw [List.take_append,H.len,Nat.add_sub_cancel_left,List.take_of_length_le (by rw [H.len];omega)]
theorem cl_dropN {b o m:Nat}:∀ r:List (Nat × Nat),(∀ q∈r,q.1<b)→dropC b o m (cl r)=cl r
 | [],_=>rfl
 | q::r,h=>by
   have h1:=h q List.mem_cons_self
   have h2:=cl_dropN (o:=o) (m:=m) r fun x hx=>h x (List.mem_cons_of_mem _ hx)
   show dropC b o m (Loc.cell q.1 q.2::cl r)=Loc.cell q.1 q.2::cl r
   rw [dropC_c,h2]
   rw [if_neg (by omega)]
theorem RdAt.d_0 (H:RdAt B n b e s r) (o m:Nat):dropC n o m (cl r)=cl r:=cl_dropN r H.hlt
theorem RdAt.d_1 (H:RdAt B n b e s r) (i o m:Nat):dropC (n+i) o m (cl r)=cl r:=cl_dropN r fun q hq=>by have:=H.hlt q hq;omega
theorem RdAt.u_0 (H:RdAt B n b e s r):underO n (cl r)=cl r:=cl_under r H.hlt
theorem RdAt.u_1 (H:RdAt B n b e s r) (i:Nat):underO (n+i) (cl r)=cl r:=cl_under r fun q hq=>by have:=H.hlt q hq;omega
theorem RdAt.done (H:RdAt B n b e s r) (k:Nat):evW code lib 107 [.ptr b 0] (B k) (cl r)=some ([.flat (.bool (decide (s.length≤k)))],false,B k,cl r) :=
 done_ev (H.get k) (by rw [H.len];exact H.hlt)
theorem RdAt.take (H:RdAt B n b e s r) (HP:LibPre lib) (w:Str) {k:Nat} (hk:k≤s.length) (hw:w.length≤1000000000):evW code lib 159 [.ptr b 0,.flat (.string (S w))] (B k) (cl r)=some ([.flat (.bool (w.isPrefixOf (s.drop k)))],false,B (if w.isPrefixOf (s.drop k) then k+w.length else k),cl r):=by
 have:=H.hs
 have h:=take_ev HP (w:=w) (H.get k) (by omega) hw hk H.hr (by rw [H.len];exact H.hlt)
 rw [H.set] at h
 exact h
theorem RdAt.word (H:RdAt B n b e s r) {k:Nat} (hk:k≤s.length):evW code lib 160 [.ptr b 0,.clo 161 []] (B k) (cl r)=some ([.flat (.string (S (wordE s k)))],false,B (k+(wordE s k).length),cl r):=by
 have:=H.hs
 have h:=while_ev (lib:=lib) (f:=161) (p:=letB) (H.get k) (by omega) hk H.hr (by rw [H.len];exact H.hlt) (by decide) letter_ev
 rw [H.set] at h
 exact h
theorem RdAt.gap (H:RdAt B n b e s r) {k:Nat} (hk:k≤s.length):evW code lib 160 [.ptr b 0,.clo 195 []] (B k) (cl r)=some ([.flat (.string (S (gapE s k)))],false,B (k+(gapE s k).length),cl r):=by
 have:=H.hs
 have h:=while_ev (lib:=lib) (f:=195) (p:=blankB) (H.get k) (by omega) hk H.hr (by rw [H.len];exact H.hlt) (by decide) blank_ev
 rw [H.set] at h
 exact h
theorem RdAt.says (H:RdAt B n b e s r) (HP:LibPre lib) (HB:BldIn lib) {k:Nat} {en bd:UInt8} (hk:k≤s.length) :
 match saysE s en bd k with
 | some (x,p)=>evW code lib 164 [.ptr b 0,.flat (.int .u8 en.toNat),.flat (.int .u8 bd.toNat)] (B k) (cl r)=some ([.flat (.string (S x)),.flat (.bool true)],false,B p,cl r)
 | none=>∃ k',k'≤s.length∧evW code lib 164 [.ptr b 0,.flat (.int .u8 en.toNat),.flat (.int .u8 bd.toNat)] (B k) (cl r)=some ([.flat (.string (S [])),.flat (.bool false)],false,B k',cl r):=by
 have h:=says_ev (lib:=lib) (en:=en) (bd:=bd) HP HB (H.get k) (by rw [H.len];exact H.low k) H.hs hk H.hr (by rw [H.len];exact H.hlt)
 simp only [H.set] at h
 exact h
end
theorem word_le {s:Str} {k:Nat} (h:k≤s.length):k+(wordE s k).length≤s.length:=by
 have:=(List.takeWhile_prefix letB (l:=s.drop k)).length_le
 rw [List.length_drop] at this;unfold wordE;omega
theorem gap_le {s:Str} {k:Nat} (h:k≤s.length):k+(gapE s k).length≤s.length:=by
 have:=(List.takeWhile_prefix blankB (l:=s.drop k)).length_le
 rw [List.length_drop] at this;unfold gapE;omega
theorem pre_1 {s:Str} {k:Nat} {c:UInt8}:([c]:Str).isPrefixOf (s.drop k)=decide (s[k]? =some c):=by
 have hg:s[k]? =(s.drop k)[0]? :=by rw [List.getElem?_drop,Nat.add_zero]
 rw [hg]
 cases s.drop k with
 | nil=>rfl
 | cons a t =>
   simp only [List.isPrefixOf,Bool.and_true,List.getElem?_cons_zero,Option.some.injEq]
   by_cases h:c=a
   ·subst h;simp
   ·have h2:¬ a=c:=fun e=>h e.symm
    simp [h,h2]
def acell (a:Att):List PV:=[.flat (.string (S a.name)),.flat (.string (S a.val)),.flat (.int .i64 (a.fr:Nat)),.flat (.int .i64 (a.to:Nat))]
theorem attr_ev {B:Nat→Boxes} {n b e:Nat} {s:Str} {r:List (Nat × Nat)} (H:RdAt B n b e s r) (HP:LibPre lib) (HB:BldIn lib) {k:Nat} (hk:k≤s.length) :
 match attE s k with
 | some (a,p)=>evW code lib 196 [.ptr b 0] (B k) (cl r)=some ([.agg (acell a),.flat (.bool true)],false,B p,cl r)
 | none=>∃ a k',k'≤s.length∧evW code lib 196 [.ptr b 0] (B k) (cl r)=some ([.agg (acell a),.flat (.bool false)],false,B k',cl r):=by
 have h0:=H.hs
 have h1:=word_le hk
 have hr1:=H.a_get;have hr2:=H.a_0;have hr3:=H.a_1;have hr4:=H.a_set;have hr5:=H.a_s0;have hr6:=H.a_s1;have hr7:=H.a_len;have hr8:=H.a_take;have hr9:=H.a_take1;have hrl:=H.len;have hlow:=H.low;have hd0:=H.d_0;have hd1:=H.d_1;have hu0:=H.u_0;have hu1:=H.u_1
 have hz:(⟨#[]⟩:ByteArray)=S []:=rfl
 have K2:∀ A4 A2,boxLows (n+2) [A2,A4]=true→RdAt (fun j=>B j++[A2,A4]) (n+2) b e s r:=fun A4 A2 h=>H.app _ rfl h
 have K1:∀ A2,boxLows (n+1) [A2]=true→RdAt (fun j=>B j++[A2]) (n+1) b e s r:=fun A2 h=>H.app _ rfl h
 have hw:=(K1 (214,[.flat (.string (S [])),.flat (.string (S [])),.flat (.int .i64 0),.flat (.int .i64 0)]) rfl).word (lib:=lib) hk
 have ha:=attribute_ev (lib:=lib) (wordE s k)
 unfold attE
 obtain ⟨w,hwd⟩:∃ w,wordE s k=w:=⟨_,rfl⟩
 rw [hwd] at hw ha h1 ⊢
 cases hc:attrsE.contains w with
 | false =>
   rw [hc] at ha
   refine ⟨⟨w,[],0,0⟩,k+w.length,h1,?_⟩
   refine evW_eq code_tags_reader_attr (Nat.le_of_ble_eq_true rfl) ?_
   simp (maxSteps:=999999) (disch:=first | assumption | omega) only [go_sem,simprocAttr,au,hz,hw,ha,hr1,hr2,hr3,hr4,hr5,hr6,hr7,hr8,hr9,hrl,hlow,hd0,hd1,hu0,hu1,rd,acell]
 | true =>
   rw [hc] at ha
   obtain ⟨k1,hk1⟩:∃ k1,k+w.length=k1:=⟨_,rfl⟩
   rw [hk1] at hw h1 ⊢
   obtain ⟨k2,hk2⟩:∃ k2,k1+2=k2:=⟨_,rfl⟩
   have hT:=(K2 (214,[.flat (.string (S w)),.flat (.string (S [])),.flat (.int .i64 0),.flat (.int .i64 0)]) (214,[.flat (.string (S [])),.flat (.string (S [])),.flat (.int .i64 0),.flat (.int .i64 0)]) rfl).take (lib:=lib) HP [61,34] h1 (by decide)
   have hbu:beginsU s [61,34] k1=([61,34]:Str).isPrefixOf (s.drop k1):=by unfold beginsU;simp only [h1,decide_true,Bool.true_and,if_true]
   rw [hbu]
   cases hp:([61,34]:Str).isPrefixOf (s.drop k1) with
   | false =>
     rw [hp] at hT
     simp only [Bool.false_eq_true,if_false] at hT
     refine ⟨⟨w,[],0,0⟩,k1,h1,?_⟩
     refine evW_eq code_tags_reader_attr (Nat.le_of_ble_eq_true rfl) ?_
     simp (maxSteps:=999999) (disch:=first | assumption | omega) only [go_sem,simprocAttr,au,hz,hw,ha,hT,hr1,hr2,hr3,hr4,hr5,hr6,hr7,hr8,hr9,hrl,hlow,hd0,hd1,hu0,hu1,rd,acell]
   | true =>
     rw [hp] at hT
     have hpl:=pre_len hp
     rw [List.length_drop] at hpl
     simp only [if_true,List.length_cons,List.length_nil,Nat.zero_add,Nat.reduceAdd,hk2] at hT hpl ⊢
     have h2:k2≤s.length:=by omega
     have hS:=(K2 (214,[.flat (.string (S w)),.flat (.string (S [])),.flat (.int .i64 (k2:Nat)),.flat (.int .i64 0)]) (214,[.flat (.string (S [])),.flat (.string (S [])),.flat (.int .i64 0),.flat (.int .i64 0)]) rfl).says (lib:=lib) (en:=34) (bd:=60) HP HB h2
     have e34:((UInt8.toNat 34:Nat):Int)=34:=rfl
     have e60:((UInt8.toNat 60:Nat):Int)=60:=rfl
     rw [e34,e60] at hS
     cases hE:saysE s 34 60 k2 with
     | none =>
       rw [hE] at hS
       obtain ⟨k',hk',hS⟩:=hS
       refine ⟨⟨w,[],k2,k'⟩,k',hk',?_⟩
       refine evW_eq code_tags_reader_attr (Nat.le_of_ble_eq_true rfl) ?_
       simp (maxSteps:=999999) (disch:=first | assumption | omega) only [go_sem,simprocAttr,au,hz,hw,ha,hT,hS,hr1,hr2,hr3,hr4,hr5,hr6,hr7,hr8,hr9,hrl,hlow,hd0,hd1,hu0,hu1,rd,acell]
     | some q =>
       obtain ⟨v,p⟩:=q
       rw [hE] at hS
       have hel:=saysE_len h2 hE
       dsimp only at hS hel ⊢
       have hQ:=(K2 (214,[.flat (.string (S w)),.flat (.string (S v)),.flat (.int .i64 (k2:Nat)),.flat (.int .i64 (p:Nat))]) (214,[.flat (.string (S [])),.flat (.string (S [])),.flat (.int .i64 0),.flat (.int .i64 0)]) rfl).take (lib:=lib) HP [34] hel.2.1 (by decide)
       rw [pre_1] at hQ
       by_cases hpl2:p<s.length
       ·have hsp:(s[p]? =some 34)=True:=by
         rcases hel.2.2.2 with h | h
         ·rw [List.getElem?_eq_getElem hpl2] at h;cases h
         ·exact eq_true h
        simp only [hsp,decide_true,if_true,List.length_cons,List.length_nil,Nat.zero_add] at hQ
        simp only [Bool.and_self,if_true,hpl2]
        refine evW_eq code_tags_reader_attr (Nat.le_of_ble_eq_true rfl) ?_
        simp (maxSteps:=999999) (disch:=first | assumption | omega) only [go_sem,simprocAttr,au,hz,hw,ha,hT,hS,hQ,hr1,hr2,hr3,hr4,hr5,hr6,hr7,hr8,hr9,hrl,hlow,hd0,hd1,hu0,hu1,rd,acell,same_s]
       ·have hsp:(s[p]? =some 34)=False:=eq_false (by rw [List.getElem?_eq_none (by omega)];exact fun h=>by cases h)
        simp only [hsp,decide_false,Bool.false_eq_true,if_false] at hQ
        simp only [Bool.and_self,if_true,hpl2,if_false]
        refine ⟨⟨w,v,k2,p⟩,p,by omega,?_⟩
        refine evW_eq code_tags_reader_attr (Nat.le_of_ble_eq_true rfl) ?_
        simp (maxSteps:=999999) (disch:=first | assumption | omega) only [go_sem,simprocAttr,au,hz,hw,ha,hT,hS,hQ,hr1,hr2,hr3,hr4,hr5,hr6,hr7,hr8,hr9,hrl,hlow,hd0,hd1,hu0,hu1,rd,acell,same_s]
end Nun
end
section
namespace Nun
open Go Go.RowKit Go.Proofs Go.Proofs.YtmpiobfdchlikaaGreatDoor
variable {lib:Callee}
def acells (l:List Att):List PV:=l.flatMap acell
theorem acell_low {n:Nat} (a:Att):lows n (acell a)=true:=rfl
theorem acells_len:∀ l:List Att,(acells l).length=l.length * 4
 | []=>rfl
 | a::l=>by
   show (acell a++acells l).length=_
   rw [List.length_append,acells_len l,List.length_cons];show 4+_=_;omega
theorem lows_app {n:Nat}:∀ {a b:List PV},lows n (a++b)=(lows n a && lows n b)
 | [],b=>by simp [lows]
 | x::a,b=>by simp only [List.cons_append,lows,lows_app,Bool.and_assoc]
theorem acells_low {n:Nat}:∀ l:List Att,lows n (acells l)=true
 | []=>rfl
 | a::l=>by show lows n (acell a++acells l)=true;rw [lows_app,acells_low l];rfl
theorem acells_np:∀ l:List Att,noPtrs (acells l)=true
 | []=>rfl
 | a::l=>by
   show noPtrs (acell a++acells l)=true
   simp only [acell,List.cons_append,List.nil_append,noPtrs,PV.noPtr,acells_np l,Bool.true_and]
theorem acells_noU8:∀ l:List Att,noU8 (acells l)=true
 | []=>rfl
 | a::l=>by
   show noU8 (acell a++acells l)=true
   rw [noU8_app,acells_noU8 l];rfl
theorem acells_app {a b:List Att}:acells a++acells b=acells (a++b):=by simp [acells]
theorem acells_at {l:List Att} {k:Nat} {x:Att} (h:l[k]? =some x):(acells l).drop (k * 4)=acell x++acells (l.drop (k+1)):=by
 induction l generalizing k with
 | nil=>cases h
 | cons a l ih =>
   show (acell a++acells l).drop _=_
   cases k with
   | zero =>
     simp only [List.getElem?_cons_zero,Option.some.injEq] at h
     subst h
     simp only [Nat.zero_mul,List.drop_zero,Nat.zero_add,List.drop_succ_cons]
   | succ k =>
     rw [List.getElem?_cons_succ] at h
     have e:(k+1) * 4=4+k * 4:=by omega
     rw [e,← List.drop_drop]
     show (acells l).drop _=_
     rw [ih h]
     rfl
theorem bx_l {bx ys:Boxes} {p:Nat} {q:Nat × List PV} (h:bx[p]? =some q):(bx++ys)[p]? =some q:=by
 rw [List.getElem?_append_left (List.getElem?_eq_some_iff.1 h).1,h]
theorem bx_0 {bx ys:Boxes}:(bx++ys)[bx.length]? =ys[0]? :=by rw [List.getElem?_append_right (Nat.le_refl _),Nat.sub_self]
theorem bx_take {bx ys:Boxes}:(bx++ys).take bx.length=bx:=by rw [List.take_left]
theorem open1_ev {bx:Boxes} {r:List (Nat × Nat)} {p e:Nat} {a:Att} (c:Att) (hp:bx[p]? =some (e,acell a)) (hlow:boxLows bx.length bx=true) (hlt:∀ q∈r,q.1<bx.length) :
 evW code lib 198 [.agg (acell c),.ptr p 0] bx (cl r)=some ([.flat (.bool (decide (c.name=a.name)))],false,bx,cl r):=by
 refine evW_eq code_tags_reader_open_1 (Nat.le_of_ble_eq_true rfl) ?_
 have h1:=fun ys=>bx_l (ys:=ys) hp
 simp only [acell] at h1 ⊢
 simp (maxSteps:=999999) (disch:=first | assumption | omega) only [go_sem,simprocAttr,au,h1,bx_0,bx_take,hlow,List.length_append]
theorem walk_idf {p:Att→Bool} {fin:Unit→Out × St} {g:Nat→Out × St}:∀ (L:List Att) (k:Nat),(L.any p=false∧walkL (fun (_:Unit) k x=>if p x then .inr (g k) else .inl ()) fin () k L=fin ())∨(L.any p=true∧∃ j,j<k+L.length∧walkL (fun (_:Unit) k x=>if p x then .inr (g k) else .inl ()) fin () k L=g j)
 | [],k=>.inl ⟨rfl,rfl⟩
 | x::t,k=>by
   rw [walkL,List.any_cons]
   cases h:p x with
   | true=>exact .inr ⟨by simp,k,by simp,by rw [if_pos rfl]⟩
   | false =>
     rw [if_neg (by simp),Bool.false_or]
     dsimp only
     rcases walk_idf (fin:=fin) (g:=g) t (k+1) with h1 | ⟨h1,j,h2,h3⟩
     ·exact .inl h1
     ·exact .inr ⟨h1,j,by simp only [List.length_cons];omega,h3⟩
theorem indexf_ev {bx:Boxes} {r:List (Nat × Nat)} {p e:Nat} {a:Att} (L:List Att) (hp:bx[p]? =some (e,acell a)) (hlow:boxLows bx.length bx=true) (hlt:∀ q∈r,q.1<bx.length) (hL:L.length≤1000000000) :
 ∃ i:Int,(L.any (fun c=>decide (c.name=a.name))=decide (0≤i))∧evW code lib 223 [.slc L.length (acells L),.clo 198 [.ptr p 0]] bx (cl r)=some ([.flat (.int .i64 i)],false,bx,cl r):=by
 have hloop:=loop_at (body:=evC (evW code lib) big b_slices_IndexFunc_tags_Attr_tags_Attr_0) (live:=[0,1,7,8]) (nb:=bx.length) (fun (_:Unit) k=>⟨[(0,.slc L.length (acells L)),(1,.clo 198 [.ptr p 0]),(7,.flat (.int .i64 (L.length:Nat))),(8,.flat (.int .i64 (k:Nat)))],cl r,[],bx⟩) L (fun _ _=>True)
  (fun _ k x=>if decide (x.name=a.name) then .inr (.ret,⟨[(4,.flat (.int .i64 (k:Nat)))],cl r,[],bx⟩) else .inl ()) (fun _=>(.exit 0,⟨[],cl r,[],bx⟩)) (fun _ k x _ hk hc hd=>?_) (fun _ _=>by simp only [go_sem,simprocAttr,cl_keep,cl_owns,cl_under r hlt]) (fun _ _ _ _ _ _ _ _=>trivial) (fun _ _ x r h=>by split at h<;>simp at h;rw [← h];simp) (fun _ _=>?_) (fun _=>by simp) () trivial (by unfold big;omega)
 ·simp only [n0] at hloop
  rcases walk_idf (p:=fun x=>decide (x.name=a.name)) (fin:=fun _=>(.exit 0,⟨[],cl r,[],bx⟩)) (g:=fun k=>(.ret,⟨[(4,.flat (.int .i64 (k:Nat)))],cl r,[],bx⟩)) L 0 with ⟨h1,h2⟩ | ⟨h1,j,h2,h3⟩
  ·rw [h2] at hloop
   refine ⟨-1,by rw [h1];rfl,?_⟩
   refine evW_eq code_slices_IndexFunc_tags_Attr_tags_Attr (Nat.le_of_ble_eq_true rfl) ?_
   have hm:Int.negSucc 0=-1:=rfl
   simp (maxSteps:=999999) (disch:=first | assumption | omega) only [go_sem,simprocAttr,au,hloop,acells_len,hm]
  ·rw [h3] at hloop
   refine ⟨j,by rw [h1];simp,?_⟩
   refine evW_eq code_slices_IndexFunc_tags_Attr_tags_Attr (Nat.le_of_ble_eq_true rfl) ?_
   simp (maxSteps:=999999) (disch:=first | assumption | omega) only [go_sem,simprocAttr,au,hloop,acells_len]
 ·have hsd:=acells_at hc
  have ho:=open1_ev (lib:=lib) x hp hlow hlt
  simp only [acell,List.cons_append,List.nil_append] at hsd ho
  have hmul:∀ i,(acells (L.drop (k+1))).length+1+1+1+1 ≥ 4:=fun _=>by omega
  have hyd:(198=4611686018427387904)=False:=eq_false (by decide)
  by_cases h:x.name=a.name
  ·have h':=eq_true h
   simp only [h',decide_true] at ho ⊢
   simp (maxSteps:=999999) (disch:=first | assumption | omega) only [go_sem,simprocAttr,au,on_slices_IndexFunc_tags_Attr_tags_Attr_0,hsd,ho,hyd,acells_len]
  ·have h':=eq_false h
   simp only [h',decide_false] at ho ⊢
   simp (maxSteps:=999999) (disch:=first | assumption | omega) only [go_sem,simprocAttr,au,on_slices_IndexFunc_tags_Attr_tags_Attr_0,hsd,ho,hyd,acells_len]
 ·simp (maxSteps:=999999) (disch:=first | assumption | omega) only [go_sem,simprocAttr,au,on_slices_IndexFunc_tags_Attr_tags_Attr_0]
theorem containsf_ev {bx:Boxes} {r:List (Nat × Nat)} {p e:Nat} {a:Att} (L:List Att) (hp:bx[p]? =some (e,acell a)) (hlow:boxLows bx.length bx=true) (hlt:∀ q∈r,q.1<bx.length) (hL:L.length≤1000000000) :
 evW code lib 197 [.slc L.length (acells L),.clo 198 [.ptr p 0]] bx (cl r)=some ([.flat (.bool (L.any (fun c=>decide (c.name=a.name))))],false,bx,cl r):=by
 obtain ⟨i,h1,h2⟩:=indexf_ev (lib:=lib) L hp hlow hlt hL
 refine evW_eq code_slices_ContainsFunc_tags_Attr_tags_Attr (Nat.le_of_ble_eq_true rfl) ?_
 rw [h1]
 simp (maxSteps:=999999) (disch:=first | assumption | omega) only [go_sem,simprocAttr,au,h2]
def tcell (t:Tok):List PV:=[.flat (.int .u8 t.kind.toNat),.flat (.string (S t.name)),.flat (.string (S t.text)),.slc t.attrs.length (acells t.attrs),.flat (.int .i64 (t.fr:Nat)),.flat (.int .i64 (t.to:Nat))]
theorem tcell_low {n:Nat} (t:Tok):lows n (tcell t)=true:=by
 simp only [tcell,lows,PV.low,acells_low,Bool.and_self]
theorem RdAt.app2 {B:Nat→Boxes} {n b e:Nat} {s:Str} {r:List (Nat × Nat)} (H:RdAt B n b e s r) {m:Nat} (ys:Boxes) (hm:n+ys.length=m) (hl:boxLows m ys=true) (r':List (Nat × Nat)) (hr:∀ q∈r',q∈r∨(n≤q.1∧q.1<m)):RdAt (fun j=>B j++ys) m b e s r' where
 len:=(H.app ys hm hl).len
 get:=(H.app ys hm hl).get
 set:=(H.app ys hm hl).set
 lt:=(H.app ys hm hl).lt
 low:=(H.app ys hm hl).low
 hs:=H.hs
 hr q hq:=by
  rcases hr q hq with h | h
  ·exact H.hr q h
  ·intro e;have:=H.lt;rw [e] at h;dsimp only at h;omega
 hlt q hq:=by
  rcases hr q hq with h | h
  ·have:=H.hlt q h;omega
  ·exact h.2
theorem cl_lt {n:Nat}:∀ r:List (Nat × Nat),(∀ q∈r,q.1<n)→ltO n (cl r)=cl r
 | [],_=>rfl
 | q::r,h=>by
   have h1:=h q List.mem_cons_self
   have h2:=cl_lt (n:=n) r fun x hx=>h x (List.mem_cons_of_mem _ hx)
   show ltO n (Loc.cell q.1 q.2::cl r)=Loc.cell q.1 q.2::cl r
   rw [ltO_c,if_pos h1,h2]
theorem RdAt.a_low {B:Nat→Boxes} {n b e:Nat} {s:Str} {r:List (Nat × Nat)} (H:RdAt B n b e s r) (j i:Nat) (ys:Boxes):boxLows (n+i) (B j++ys)=boxLows (n+i) ys:=by
 rw [low_app,boxLows_le (Nat.le_add_right n i) _ (H.low j),Bool.true_and]
theorem attE_len {s:Str} {k:Nat} {q:Att × Nat} (hk:k≤s.length) (h:attE s k=some q):k<q.2∧q.2≤s.length:=by
 unfold attE at h
 split at h
 ·rename_i hc
  rw [Bool.and_eq_true] at hc
  have hb:=hc.2
  unfold beginsU at hb
  rw [Bool.and_eq_true] at hb
  have hpl:=pre_len hb.2
  rw [List.length_drop] at hpl
  simp only [List.length_cons,List.length_nil,decide_eq_true_eq] at hpl hb
  split at h
  ·cases h
  ·rename_i v e hE
   have hel:=saysE_len (by omega) hE
   dsimp only at hel
   split at h
   ·rename_i hlt
    cases h
    dsimp only;omega
   ·cases h
 ·cases h
theorem openT_in {s:Str}:∀ a c:List Att × Nat,(a.2≤s.length∧a.1.length≤a.2)→openT s a=.inl c→(c.2≤s.length∧c.1.length≤c.2)∧s.length - c.2<s.length - a.2:=by
 intro ⟨l,k⟩ c ⟨h1,h2⟩ h
 dsimp only at h1 h2
 have hg:=gap_le h1
 unfold openT at h
 dsimp only at h
 split at h
 ·cases h
 ·split at h
  ·cases h
  ·rename_i a e he
   have:=attE_len hg he
   dsimp only at this
   split at h
   ·cases h
   ·cases h
    dsimp only
    simp only [List.length_append,List.length_cons,List.length_nil]
    omega
theorem open_round {B:Nat→Boxes} {n b e:Nat} {s:Str} {r:List (Nat × Nat)} (H:RdAt B n b e s r) (HP:LibPre lib) (HB:BldIn lib) (w:Str) (fr:Nat) (l:List Att) (k:Nat) (hk:k≤s.length) (hl:l.length≤k) (Z:Tok) :
 match openT s (l,k) with
 | .inl c=>evC (evW code lib) big b_tags_reader_open_0 ⟨[(0,.ptr b 0),(4,.ptr n 0),(6,.ptr (n+1) 0)],cl ((n+1,3)::(n,3)::r),[],B k++[(163,tcell Z),(163,tcell ⟨111,w,[],l,fr,0⟩)]⟩=some (.normal,⟨[(0,.ptr b 0),(4,.ptr n 0),(6,.ptr (n+1) 0)],cl ((n+1,3)::(n,3)::r),[],B c.2++[(163,tcell Z),(163,tcell ⟨111,w,[],c.1,fr,0⟩)]⟩)
 | .inr (some c)=>∃ ow ys,underO n ow=cl r∧evC (evW code lib) big b_tags_reader_open_0 ⟨[(0,.ptr b 0),(4,.ptr n 0),(6,.ptr (n+1) 0)],cl ((n+1,3)::(n,3)::r),[],B k++[(163,tcell Z),(163,tcell ⟨111,w,[],l,fr,0⟩)]⟩=some (.ret,⟨[(4,.ptr n 0),(5,.flat (.bool true))],ow,[],B c.2++(163,tcell ⟨111,w,[],c.1,fr,c.2⟩)::ys⟩)
 | .inr none=>∃ t k' ow ys,k'≤s.length∧underO n ow=cl r∧evC (evW code lib) big b_tags_reader_open_0 ⟨[(0,.ptr b 0),(4,.ptr n 0),(6,.ptr (n+1) 0)],cl ((n+1,3)::(n,3)::r),[],B k++[(163,tcell Z),(163,tcell ⟨111,w,[],l,fr,0⟩)]⟩=some (.ret,⟨[(4,.ptr n 0),(5,.flat (.bool false))],ow,[],B k'++(163,tcell t)::ys⟩):=by
 have hs:=H.hs
 have hgl:=gap_le hk
 have hr1:=H.a_get;have hr2:=H.a_0;have hr3:=H.a_1;have hr4:=H.a_set;have hr5:=H.a_s0;have hr6:=H.a_s1;have hr7:=H.a_len;have hr8:=H.a_take;have hr9:=H.a_take1;have hrl:=H.len;have hlow:=H.low;have hd0:=H.d_0;have hd1:=H.d_1;have hu0:=H.u_0;have hu1:=H.u_1
 obtain ⟨r2,hr2'⟩:∃ r2,r2=(n+1,3)::(n,3)::r:=⟨_,rfl⟩
 obtain ⟨r3,hr3'⟩:∃ r3,r3=(n+1,3)::r:=⟨_,rfl⟩
 have dz1:dropC (n+1) 5 1 (cl r2)=cl r2:=by
  rw [hr2']
  show dropC (n+1) 5 1 (Loc.cell (n+1) 3::Loc.cell n 3::cl r)=Loc.cell (n+1) 3::Loc.cell n 3::cl r
  rw [dropC_c,if_neg (by omega),dropC_c,if_neg (by omega),hd1]
 have dz2:dropC n 0 6 (cl r2)=cl r3:=by
  rw [hr2',hr3']
  show dropC n 0 6 (Loc.cell (n+1) 3::Loc.cell n 3::cl r)=Loc.cell (n+1) 3::cl r
  rw [dropC_c,if_neg (by omega),dropC_c,if_pos (by omega),hd0]
 obtain ⟨r4,hr4'⟩:∃ r4,r4=(n,3)::r:=⟨_,rfl⟩
 have dz3:dropL (Loc.cell (n+1) 3) (cl r2)=cl r4:=by
  rw [hr2',hr4']
  show dropL _ (Loc.cell (n+1) 3::Loc.cell n 3::cl r)=Loc.cell n 3::cl r
  rw [dropL_cc,if_pos ⟨rfl,rfl⟩,dropL_cc,if_neg (by omega),cl_dropL]
  intro q hq e;have:=H.hlt q hq;rw [e] at this;dsimp only at this;omega
 have dz4:dropC (n+1) 3 1 (cl r4)=cl r4:=by
  rw [hr4']
  show dropC (n+1) 3 1 (Loc.cell n 3::cl r)=Loc.cell n 3::cl r
  rw [dropC_c,if_neg (by omega),hd1]
 have ow1:owns (cl r2) (Loc.cell (n+1) 3)=true:=by
  rw [hr2']
  show owns (Loc.cell (n+1) 3::Loc.cell n 3::cl r) _=true
  rw [owns_cc];simp
 have hc4:Loc.cell (n+1) 3::cl r4=cl r2:=by rw [hr2',hr4'];rfl
 have hu3:underO n (cl r3)=cl r:=by
  rw [hr3']
  show underO n (Loc.cell (n+1) 3::cl r)=cl r
  rw [underO_c,if_neg (by omega),hu0]
 rw [← hr2']
 have K2:RdAt (fun j=>B j++[(163,tcell Z),(163,tcell ⟨111,w,[],l,fr,0⟩)]) (n+2) b e s r2:=H.app2 (m:=n+2) _ rfl (by simp only [boxLows_cons,boxLows_nil,tcell_low,Bool.and_self]) r2 (by
  rw [hr2'];intro q hq
  rcases List.mem_cons.1 hq with rfl | hq
  ·exact .inr ⟨by dsimp only;omega,by dsimp only;omega⟩
  rcases List.mem_cons.1 hq with rfl | hq
  ·exact .inr ⟨by dsimp only;omega,by dsimp only;omega⟩
  exact .inl hq)
 have hd2:=K2.d_0
 have hblt:=H.lt
 have hlt2:ltO (n+2) (cl r2)=cl r2:=cl_lt r2 K2.hlt
 have hG:=K2.gap (lib:=lib) hk
 unfold openT
 dsimp only
 obtain ⟨g,hg⟩:∃ g,gapE s k=g:=⟨_,rfl⟩
 rw [hg] at hG hgl ⊢
 obtain ⟨k1,hk1⟩:∃ k1,k+g.length=k1:=⟨_,rfl⟩
 rw [hk1] at hG hgl ⊢
 have hT:=K2.take (lib:=lib) HP [62] hgl (by decide)
 have hbu:beginsU s [62] k1=([62]:Str).isPrefixOf (s.drop k1):=by unfold beginsU;simp only [hgl,decide_true,Bool.true_and]
 rw [hbu]
 have e111:((UInt8.toNat 111:Nat):Int)=111:=rfl
 simp only [tcell,n0,e111] at hG hT ⊢
 cases hp:([62]:Str).isPrefixOf (s.drop k1) with
 | true =>
   rw [hp] at hT
   simp only [if_true,List.length_cons,List.length_nil,Nat.zero_add] at hT ⊢
   refine ⟨cl r3,[(163,tcell ⟨111,w,[],l,fr,k1+1⟩)],hu3,?_⟩
   ·simp only [tcell,n0,e111]
    simp (maxSteps:=999999) (disch:=first | assumption | omega) only [go_sem,simprocAttr,au,on_tags_reader_open_0,hG,hT,hr1,hr2,hr3,hr4,hr5,hr6,hr7,hr8,hr9,hrl,hlow,hd0,hd1,hu0,hu1,dz1,dz2,hd2,rd]
 | false =>
   rw [hp] at hT
   simp only [Bool.false_eq_true,if_false] at hT ⊢
   have hA:=attr_ev K2 HP HB (k:=k1) hgl
   cases hE:attE s k1 with
   | none =>
     rw [hE] at hA
     obtain ⟨a,k',hk',hA⟩:=hA
     simp only [tcell,n0,e111,acell] at hA ⊢
     refine ⟨⟨111,w,[],l,fr,0⟩,k',cl r3,[(163,tcell ⟨111,w,[],l,fr,0⟩),(214,acell a)],hk',hu3,?_⟩
     simp only [tcell,n0,e111,acell]
     simp (maxSteps:=999999) (disch:=first | assumption | omega) only [go_sem,simprocAttr,au,on_tags_reader_open_0,hG,hT,hA,hr1,hr2,hr3,hr4,hr5,hr6,hr7,hr8,hr9,hrl,hlow,hd0,hd1,hu0,hu1,dz1,dz2,hd2,rd]
   | some q =>
     obtain ⟨a,p⟩:=q
     rw [hE] at hA
     have hel:=attE_len hgl hE
     have K3:RdAt (fun j=>B j++[(163,tcell Z),(163,tcell ⟨111,w,[],l,fr,0⟩),(214,acell a)]) (n+3) b e s r2:=H.app2 (m:=n+3) _ rfl (by simp only [boxLows_cons,boxLows_nil,tcell_low,acell_low,Bool.and_self]) r2 (by
      rw [hr2'];intro q hq
      rcases List.mem_cons.1 hq with rfl | hq
      ·exact .inr ⟨by dsimp only;omega,by dsimp only;omega⟩
      rcases List.mem_cons.1 hq with rfl | hq
      ·exact .inr ⟨by dsimp only;omega,by dsimp only;omega⟩
      exact .inl hq)
     have hC:=containsf_ev (lib:=lib) (a:=a) (p:=n+2) (e:=214) l (hr3 p 2 [(163,tcell Z),(163,tcell ⟨111,w,[],l,fr,0⟩),(214,acell a)]) (by rw [K3.len];exact K3.low p) (by rw [K3.len];exact K3.hlt) (by omega)
     simp only [tcell,n0,e111,acell] at hA hC ⊢
     by_cases hg0:g.length=0
     ·have hg0':(g=[])=True:=eq_true (List.eq_nil_of_length_eq_zero hg0)
      simp only [hg0,true_or,if_true]
      refine ⟨⟨111,w,[],l,fr,0⟩,p,cl r3,[(163,tcell ⟨111,w,[],l,fr,0⟩),(214,acell a)],hel.2,hu3,?_⟩
      simp only [tcell,n0,e111,acell]
      have hz:(⟨#[]⟩:ByteArray)=S []:=rfl
      simp (maxSteps:=999999) (disch:=first | assumption | omega) only [go_sem,simprocAttr,au,on_tags_reader_open_0,hG,hT,hA,hg0',hz,hr1,hr2,hr3,hr4,hr5,hr6,hr7,hr8,hr9,hrl,hlow,hd0,hd1,hu0,hu1,dz1,dz2,hd2,rd]
     ·have hg0':(g=[])=False:=eq_false fun h=>hg0 (by rw [h];rfl)
      simp only [hg0,false_or]
      have hz:(⟨#[]⟩:ByteArray)=S []:=rfl
      cases hdup:l.any (fun c=>decide (c.name=a.name)) with
      | true =>
        rw [hdup] at hC
        simp only [if_true]
        refine ⟨⟨111,w,[],l,fr,0⟩,p,cl r3,[(163,tcell ⟨111,w,[],l,fr,0⟩),(214,acell a)],hel.2,hu3,?_⟩
        simp only [tcell,n0,e111,acell]
        simp (maxSteps:=999999) (disch:=first | assumption | omega) only [go_sem,simprocAttr,au,on_tags_reader_open_0,hG,hT,hA,hC,hg0',hz,hr1,hr2,hr3,hr4,hr5,hr6,hr7,hr8,hr9,hrl,hlow,hd0,hd1,hu0,hu1,dz1,dz2,hd2,rd]
      | false =>
        rw [hdup] at hC
        simp only [Bool.false_eq_true,if_false]
        have hl2:=H.a_low
        have hac:acells l++[PV.flat (.string (S a.name)),.flat (.string (S a.val)),.flat (.int .i64 (a.fr:Nat)),.flat (.int .i64 (a.to:Nat))]=acells (l++[a]):=by rw [← acells_app];rfl
        have hbd:l.length+1≤bound:=by unfold bound;omega
        simp (maxSteps:=999999) (disch:=first | assumption | omega) only [go_sem,simprocAttr,au,on_tags_reader_open_0,hG,hT,hA,hC,hg0',hz,hr1,hr2,hr3,hr4,hr5,hr6,hr7,hr8,hr9,hrl,hlow,hl2,hd0,hd1,hu0,hu1,dz1,dz2,hd2,rd,acells_len,acells_low,acells_noU8,hbd,dz3,dz4,ow1,hc4,hac,hlt2,List.length_append]
def Z0:Tok:=⟨0,[],[],[],0,0⟩
theorem open_ev {B:Nat→Boxes} {n b e:Nat} {s:Str} {r:List (Nat × Nat)} (H:RdAt B n b e s r) (HP:LibPre lib) (HB:BldIn lib) (fr k:Nat) (hk:k≤s.length) :
 match (if elemsE.contains (wordE s k) then openE s (k+(wordE s k).length) else none) with
 | some (l,p)=>evW code lib 163 [.ptr b 0,.flat (.int .i64 (fr:Nat))] (B k) (cl r)=some ([.agg (tcell ⟨111,wordE s k,[],l,fr,p⟩),.flat (.bool true)],false,B p,cl r)∧p≤s.length
 | none=>∃ t k',k'≤s.length∧evW code lib 163 [.ptr b 0,.flat (.int .i64 (fr:Nat))] (B k) (cl r)=some ([.agg (tcell t),.flat (.bool false)],false,B k',cl r):=by
 have h0:=H.hs
 have h1:=word_le hk
 have hr1:=H.a_get;have hr2:=H.a_0;have hr3:=H.a_1;have hr4:=H.a_set;have hr5:=H.a_s0;have hr6:=H.a_s1;have hr7:=H.a_len;have hr8:=H.a_take;have hr9:=H.a_take1;have hrl:=H.len;have hlow:=H.low;have hd0:=H.d_0;have hd1:=H.d_1;have hu0:=H.u_0;have hu1:=H.u_1;have hblt:=H.lt
 have hz:(⟨#[]⟩:ByteArray)=S []:=rfl
 have e111:((UInt8.toNat 111:Nat):Int)=111:=rfl
 have ez0:tcell Z0=[.flat (.int .u8 0),.flat (.string (S [])),.flat (.string (S [])),.slc 0 [],.flat (.int .i64 0),.flat (.int .i64 0)]:=rfl
 obtain ⟨r2,hr2'⟩:∃ r2,r2=(n+1,3)::(n,3)::r:=⟨_,rfl⟩
 obtain ⟨r4,hr4'⟩:∃ r4,r4=(n,3)::r:=⟨_,rfl⟩
 have hcl4:Loc.cell n 3::cl r=cl r4:=by rw [hr4'];rfl
 have hc4:Loc.cell (n+1) 3::cl r4=cl r2:=by rw [hr2',hr4'];rfl
 have hu4:underO n (cl r4)=cl r:=by
  rw [hr4']
  show underO n (Loc.cell n 3::cl r)=cl r
  rw [underO_c,if_neg (by omega),hu0]
 have hu2:underO n (cl r2)=cl r:=by
  rw [← hc4,underO_c,if_neg (by omega),hu4]
 have dz5:dropC (n+1) 0 6 (cl r2)=cl r4:=by
  rw [← hc4,dropC_c,if_pos (by omega)]
  exact cl_dropN r4 (by
   rw [hr4'];intro q hq
   rcases List.mem_cons.1 hq with rfl | hq
   ·dsimp only;omega
   ·have:=H.hlt q hq;omega)
 have dz6:dropC n 0 6 (cl r2)=Loc.cell (n+1) 3::cl r:=by
  rw [← hc4,dropC_c,if_neg (by omega),hr4']
  show _::dropC n 0 6 (Loc.cell n 3::cl r)=_
  rw [dropC_c,if_pos (by omega),hd0]
 have hun2:underO (n+2) (cl r2)=cl r2:=cl_under r2 (by
  rw [hr2'];intro q hq
  rcases List.mem_cons.1 hq with rfl | hq
  ·dsimp only;omega
  rcases List.mem_cons.1 hq with rfl | hq
  ·dsimp only;omega
  ·have:=H.hlt q hq;omega)
 have hu5:underO n (Loc.cell (n+1) 3::cl r)=cl r:=by rw [underO_c,if_neg (by omega),hu0]
 have K1:RdAt (fun j=>B j++[(163,tcell Z0)]) (n+1) b e s r4:=H.app2 (m:=n+1) _ rfl (by simp only [boxLows_cons,boxLows_nil,tcell_low,Bool.and_self]) r4 (by
  rw [hr4'];intro q hq
  rcases List.mem_cons.1 hq with rfl | hq
  ·exact .inr ⟨Nat.le_refl _,by dsimp only;omega⟩
  exact .inl hq)
 have hw:=K1.word (lib:=lib) hk
 have hel:=element_ev (lib:=lib) (wordE s k)
 obtain ⟨w,hwd⟩:∃ w,wordE s k=w:=⟨_,rfl⟩
 rw [hwd] at hw hel h1 ⊢
 obtain ⟨k1,hk1⟩:∃ k1,k+w.length=k1:=⟨_,rfl⟩
 rw [hk1] at hw h1 ⊢
 cases hc:elemsE.contains w with
 | false =>
   rw [hc] at hel
   simp only [Bool.false_eq_true,if_false]
   refine ⟨⟨111,w,[],[],fr,0⟩,k1,h1,?_⟩
   simp only [ez0] at hw
   simp only [tcell,e111,n0,acells,List.flatMap_nil,List.length_nil]
   refine evW_eq code_tags_reader_open (Nat.le_of_ble_eq_true rfl) ?_
   simp (maxSteps:=999999) (disch:=first | assumption | omega) only [go_sem,simprocAttr,au,hz,hw,hel,hcl4,hc4,hr1,hr2,hr3,hr4,hr5,hr6,hr7,hr8,hr9,hrl,hlow,hd0,hd1,hu0,hu1,hu2,hu4,hu5,dz5,dz6,rd]
 | true =>
   rw [hc] at hel
   simp only [if_true]
   have hrel:=loop_rel (body:=evC (evW code lib) big b_tags_reader_open_0) (live:=[0,4,6]) (nb:=n+2)
    (fun (_:Unit) (q:List Att × Nat)=>(⟨[(0,.ptr b 0),(4,.ptr n 0),(6,.ptr (n+1) 0)],cl ((n+1,3)::(n,3)::r),[],B q.2++[(163,tcell Z0),(163,tcell ⟨111,w,[],q.1,fr,0⟩)]⟩:St))
    (openT s) none (fun a o st=>match a with
      | some c=>c.2≤s.length∧o=.ret∧∃ ow ys,underO n ow=cl r∧st=⟨[(4,.ptr n 0),(5,.flat (.bool true))],ow,[],B c.2++(163,tcell ⟨111,w,[],c.1,fr,c.2⟩)::ys⟩
      | none=>o=.ret∧∃ t k' ow ys,k'≤s.length∧underO n ow=cl r∧st=⟨[(4,.ptr n 0),(5,.flat (.bool false))],ow,[],B k'++(163,tcell t)::ys⟩)
    (fun a=>a.2≤s.length∧a.1.length≤a.2) (fun a=>s.length - a.2) (fun _ ⟨l,j⟩ hi=>?_) (fun _ ⟨l,j⟩ hi=>?_) (fun a c hi h=>openT_in a c hi h) (n:=s.length+1) (m:=big) () ([],k1) ⟨h1,Nat.zero_le _⟩ (by dsimp only;omega) (by unfold big;dsimp only;omega)
   ·obtain ⟨o,st,hl,hq⟩:=hrel
    have hopenE:runS (openT s) none (s.length+1) ([],k1)=openE s k1:=rfl
    rw [hopenE] at hq
    rw [← hr2'] at hl
    simp only [ez0] at hw hl
    simp only [tcell,e111,n0,acells,List.flatMap_nil,List.length_nil] at hl
    cases hE:openE s k1 with
    | some c =>
      rw [hE] at hq
      obtain ⟨hc2,rfl,ow,ys,hu,rfl⟩:=hq
      dsimp only
      refine ⟨?_,hc2⟩
      refine evW_eq code_tags_reader_open (Nat.le_of_ble_eq_true rfl) ?_
      simp only [tcell,e111] at hl ⊢
      simp (maxSteps:=999999) (disch:=first | assumption | omega) only [go_sem,simprocAttr,au,hz,hw,hel,hl,hu,hun2,hcl4,hc4,hr1,hr2,hr3,hr4,hr5,hr6,hr7,hr8,hr9,hrl,hlow,hd0,hd1,hu0,hu1,hu2,hu4,hu5,dz5,dz6,rd,acells_low]
    | none =>
      rw [hE] at hq
      obtain ⟨rfl,t,k',ow,ys,hk',hu,rfl⟩:=hq
      dsimp only
      refine ⟨t,k',hk',?_⟩
      refine evW_eq code_tags_reader_open (Nat.le_of_ble_eq_true rfl) ?_
      simp only [tcell,e111] at hl ⊢
      simp (maxSteps:=999999) (disch:=first | assumption | omega) only [go_sem,simprocAttr,au,hz,hw,hel,hl,hu,hun2,hcl4,hc4,hr1,hr2,hr3,hr4,hr5,hr6,hr7,hr8,hr9,hrl,hlow,hd0,hd1,hu0,hu1,hu2,hu4,hu5,dz5,dz6,rd,acells_low]
   ·have:=open_round H HP HB w fr l j hi.1 hi.2 Z0
    cases hst:openT s (l,j) with
    | inl c=>rw [hst] at this;exact ⟨(),this⟩
    | inr c =>
      rw [hst] at this
      cases c with
      | none =>
        obtain ⟨t,k',ow,ys,h2,h3,h4⟩:=this
        exact ⟨_,_,h4,by simp,rfl,t,k',ow,ys,h2,h3,rfl⟩
      | some c =>
        obtain ⟨ow,ys,h2,h3⟩:=this
        refine ⟨_,_,h3,by simp,?_,rfl,ow,ys,h2,rfl⟩
        have hg:=gap_le hi.1
        dsimp only at hg
        unfold openT at hst
        dsimp only at hst
        split at hst
        ·rename_i hb
         unfold beginsU at hb
         rw [Bool.and_eq_true] at hb
         have hpl:=pre_len hb.2
         rw [List.length_drop] at hpl
         simp only [List.length_cons,List.length_nil] at hpl
         cases hst
         dsimp only;omega
        ·split at hst
         ·cases hst
         ·split at hst<;>cases hst
   ·rw [← hr2']
    simp (maxSteps:=999999) (disch:=first | assumption | omega) only [go_sem,simprocAttr,au,hr7,hun2]
theorem begins_pre {s w:Str} {k:Nat} (hk:k≤s.length):beginsU s w k=w.isPrefixOf (s.drop k):=by unfold beginsU;simp only [hk,decide_true,Bool.true_and]
theorem pre_le {s w:Str} {k:Nat} (hk:k≤s.length) (h:w.isPrefixOf (s.drop k)=true):k+w.length≤s.length:=by
 have:=pre_len h
 rw [List.length_drop] at this;omega
theorem next_ev2 {B:Nat→Boxes} {n b e:Nat} {s:Str} {r:List (Nat × Nat)} (H:RdAt B n b e s r) (HP:LibPre lib) (HB:BldIn lib) (k:Nat) (hk:k≤s.length) :
 match nextE s k with
 | some t=>evW code lib 108 [.ptr b 0] (B k) (cl r)=some ([.agg (tcell t),.flat (.bool true)],false,B t.to,cl r)∧t.to≤s.length
 | none=>∃ t k',k'≤s.length∧evW code lib 108 [.ptr b 0] (B k) (cl r)=some ([.agg (tcell t),.flat (.bool false)],false,B k',cl r):=by
 have h0:=H.hs
 have hr1:=H.a_get;have hr2:=H.a_0;have hr3:=H.a_1;have hr4:=H.a_set;have hr5:=H.a_s0;have hr6:=H.a_s1;have hr7:=H.a_len;have hr8:=H.a_take;have hr9:=H.a_take1;have hrl:=H.len;have hlow:=H.low;have hd0:=H.d_0;have hd1:=H.d_1;have hu0:=H.u_0;have hu1:=H.u_1;have hblt:=H.lt
 have hz:(⟨#[]⟩:ByteArray)=S []:=rfl
 have e111:((UInt8.toNat 111:Nat):Int)=111:=rfl
 have e99:((UInt8.toNat 99:Nat):Int)=99:=rfl
 have e116:((UInt8.toNat 116:Nat):Int)=116:=rfl
 have e60:((UInt8.toNat 60:Nat):Int)=60:=rfl
 have e62:((UInt8.toNat 62:Nat):Int)=62:=rfl
 have ez0:tcell Z0=[.flat (.int .u8 0),.flat (.string (S [])),.flat (.string (S [])),.slc 0 [],.flat (.int .i64 0),.flat (.int .i64 0)]:=rfl
 obtain ⟨r4,hr4'⟩:∃ r4,r4=(n,3)::r:=⟨_,rfl⟩
 have hcl4:Loc.cell n 3::cl r=cl r4:=by rw [hr4'];rfl
 have hu4:underO n (cl r4)=cl r:=by rw [← hcl4,underO_c,if_neg (by omega),hu0]
 have dz6:dropC n 0 6 (cl r4)=cl r:=by rw [← hcl4,dropC_c,if_pos (by omega),hd0]
 have K1:RdAt (fun j=>B j++[(163,tcell Z0)]) (n+1) b e s r4:=H.app2 (m:=n+1) _ rfl (by simp only [boxLows_cons,boxLows_nil,tcell_low,Bool.and_self]) r4 (by
  rw [hr4'];intro q hq
  rcases List.mem_cons.1 hq with rfl | hq
  ·exact .inr ⟨Nat.le_refl _,by dsimp only;omega⟩
  exact .inl hq)
 have hun1:underO (n+1) (cl r4)=cl r4:=K1.u_0
 have tk:∀ (w:Str) (k:Nat),k≤s.length→w.length≤1000000000→evW code lib 159 [.ptr b 0,.flat (.string (S w))] (B k++[(163,tcell Z0)]) (cl r4)=some ([.flat (.bool (beginsU s w k))],false,B (if beginsU s w k then k+w.length else k)++[(163,tcell Z0)],cl r4):=fun w k h1 h2=>by
  rw [begins_pre h1];exact K1.take HP w h1 h2
 have hcase:∀ {w:Str} {k:Nat},k≤s.length→beginsU s w k=true→k+w.length≤s.length:=fun h1 h2=>pre_le h1 (by rw [← begins_pre h1];exact h2)
 have hT1:=tk [60,47] k hk (by decide)
 have hT2:=tk [60] k hk (by decide)
 unfold nextE
 simp only [ez0] at hT1 hT2 tk
 cases hp1:beginsU s [60,47] k with
 | true =>
   have h2:=hcase hk hp1
   simp only [hp1,if_true,List.length_cons,List.length_nil,Nat.zero_add,Nat.reduceAdd] at hT1 h2 ⊢
   obtain ⟨k2,hk2⟩:∃ k2,k+2=k2:=⟨_,rfl⟩
   rw [hk2] at hT1 h2 ⊢
   have hw:=K1.word (lib:=lib) h2
   have h3:=word_le h2
   have hel:=element_ev (lib:=lib) (wordE s k2)
   have hvo:=void_ev (lib:=lib) (wordE s k2)
   obtain ⟨w,hwd⟩:∃ w,wordE s k2=w:=⟨_,rfl⟩
   rw [hwd] at hw hel hvo h3 ⊢
   obtain ⟨k3,hk3⟩:∃ k3,k2+w.length=k3:=⟨_,rfl⟩
   rw [hk3] at hw h3 ⊢
   have hT3:=tk [62] k3 h3 (by decide)
   simp only [ez0] at hw
   cases hc1:elemsE.contains w with
   | false =>
     rw [hc1] at hel
     simp only [Bool.false_and,Bool.false_eq_true,if_false]
     refine ⟨⟨99,w,[],[],k,k3⟩,k3,h3,?_⟩
     simp only [tcell,e99,acells,List.flatMap_nil,List.length_nil]
     refine evW_eq code_tags_reader_next (Nat.le_of_ble_eq_true rfl) ?_
     simp (maxSteps:=999999) (disch:=first | assumption | omega) only [go_sem,simprocAttr,au,hz,hT1,hw,hel,hcl4,hr1,hr2,hr3,hr4,hr5,hr6,hr7,hr8,hr9,hrl,hlow,hd0,hd1,hu0,hu1,hu4,dz6,hun1,rd]
   | true =>
     rw [hc1] at hel
     cases hc2:voidE w with
     | true =>
       rw [hc2] at hvo
       simp only [Bool.not_true,Bool.false_and,Bool.and_false,Bool.false_eq_true,if_false]
       refine ⟨⟨99,w,[],[],k,k3⟩,k3,h3,?_⟩
       simp only [tcell,e99,acells,List.flatMap_nil,List.length_nil]
       refine evW_eq code_tags_reader_next (Nat.le_of_ble_eq_true rfl) ?_
       simp (maxSteps:=999999) (disch:=first | assumption | omega) only [go_sem,simprocAttr,au,hz,hT1,hw,hel,hvo,hcl4,hr1,hr2,hr3,hr4,hr5,hr6,hr7,hr8,hr9,hrl,hlow,hd0,hd1,hu0,hu1,hu4,dz6,hun1,rd]
     | false =>
       rw [hc2] at hvo
       cases hp3:beginsU s [62] k3 with
       | false =>
         simp only [hp3,Bool.false_eq_true,if_false] at hT3
         simp only [Bool.not_false,Bool.and_false,Bool.false_eq_true,if_false]
         refine ⟨⟨99,w,[],[],k,k3⟩,k3,h3,?_⟩
         simp only [tcell,e99,acells,List.flatMap_nil,List.length_nil]
         refine evW_eq code_tags_reader_next (Nat.le_of_ble_eq_true rfl) ?_
         simp (maxSteps:=999999) (disch:=first | assumption | omega) only [go_sem,simprocAttr,au,hz,hT1,hw,hel,hvo,hT3,hcl4,hr1,hr2,hr3,hr4,hr5,hr6,hr7,hr8,hr9,hrl,hlow,hd0,hd1,hu0,hu1,hu4,dz6,hun1,rd]
       | true =>
         have h4:=hcase h3 hp3
         simp only [hp3,if_true,List.length_cons,List.length_nil,Nat.zero_add] at hT3 h4
         simp only [Bool.not_false,Bool.and_self,if_true]
         refine ⟨?_,h4⟩
         simp only [tcell,e99,acells,List.flatMap_nil,List.length_nil]
         refine evW_eq code_tags_reader_next (Nat.le_of_ble_eq_true rfl) ?_
         simp (maxSteps:=999999) (disch:=first | assumption | omega) only [go_sem,simprocAttr,au,hz,hT1,hw,hel,hvo,hT3,hcl4,hr1,hr2,hr3,hr4,hr5,hr6,hr7,hr8,hr9,hrl,hlow,hd0,hd1,hu0,hu1,hu4,dz6,hun1,rd]
 | false =>
   simp only [hp1,Bool.false_eq_true,if_false] at hT1 ⊢
   cases hp2:beginsU s [60] k with
   | true =>
     have h2:=hcase hk hp2
     simp only [hp2,if_true,List.length_cons,List.length_nil,Nat.zero_add,Nat.reduceAdd] at hT2 h2 ⊢
     have hO:=open_ev (lib:=lib) K1 HP HB k (k+1) h2
     obtain ⟨k1,hk1⟩:∃ k1,k+1=k1:=⟨_,rfl⟩
     rw [hk1] at hT2 h2 hO ⊢
     obtain ⟨x,hx⟩:∃ x,(if elemsE.contains (wordE s k1) then openE s (k1+(wordE s k1).length) else none)=x:=⟨_,rfl⟩
     have hgoal:(if elemsE.contains (wordE s k1) then (openE s (k1+(wordE s k1).length)).map (fun q=>(⟨111,wordE s k1,[],q.1,k,q.2⟩:Tok)) else none)=x.map (fun q=>(⟨111,wordE s k1,[],q.1,k,q.2⟩:Tok)):=by
      rw [← hx];split<;>rfl
     rw [hgoal]
     rw [hx] at hO
     cases x with
     | none =>
       obtain ⟨t,k',hk',hO⟩:=hO
       simp only [Option.map_none]
       refine ⟨t,k',hk',?_⟩
       simp only [ez0] at hO
       simp only [tcell] at hO ⊢
       refine evW_eq code_tags_reader_next (Nat.le_of_ble_eq_true rfl) ?_
       simp (maxSteps:=999999) (disch:=first | assumption | omega) only [go_sem,simprocAttr,au,hz,hT1,hT2,hO,hcl4,hr1,hr2,hr3,hr4,hr5,hr6,hr7,hr8,hr9,hrl,hlow,hd0,hd1,hu0,hu1,hu4,dz6,hun1,rd,acells_low]
     | some q =>
       obtain ⟨l,p⟩:=q
       obtain ⟨hO,hp⟩:=hO
       simp only [Option.map_some]
       refine ⟨?_,hp⟩
       simp only [ez0] at hO
       simp only [tcell,e111] at hO ⊢
       refine evW_eq code_tags_reader_next (Nat.le_of_ble_eq_true rfl) ?_
       simp (maxSteps:=999999) (disch:=first | assumption | omega) only [go_sem,simprocAttr,au,hz,hT1,hT2,hO,hcl4,hr1,hr2,hr3,hr4,hr5,hr6,hr7,hr8,hr9,hrl,hlow,hd0,hd1,hu0,hu1,hu4,dz6,hun1,rd,acells_low]
   | false =>
     simp only [hp2,Bool.false_eq_true,if_false] at hT2 ⊢
     have hS:=K1.says (lib:=lib) (en:=60) (bd:=62) HP HB hk
     simp only [ez0,e60,e62] at hS
     cases hE:saysE s 60 62 k with
     | none =>
       rw [hE] at hS
       obtain ⟨k',hk',hS⟩:=hS
       simp only [Option.map_none]
       refine ⟨⟨116,[],[],[],k,k'⟩,k',hk',?_⟩
       simp only [tcell,e116,acells,List.flatMap_nil,List.length_nil]
       refine evW_eq code_tags_reader_next (Nat.le_of_ble_eq_true rfl) ?_
       simp (maxSteps:=999999) (disch:=first | assumption | omega) only [go_sem,simprocAttr,au,hz,hT1,hT2,hS,hcl4,hr1,hr2,hr3,hr4,hr5,hr6,hr7,hr8,hr9,hrl,hlow,hd0,hd1,hu0,hu1,hu4,dz6,hun1,rd,acells_low]
     | some q =>
       obtain ⟨x,p⟩:=q
       have hel:=saysE_len hk hE
       rw [hE] at hS
       simp only [Option.map_some]
       refine ⟨?_,hel.2.1⟩
       simp only [tcell,e116,acells,List.flatMap_nil,List.length_nil]
       refine evW_eq code_tags_reader_next (Nat.le_of_ble_eq_true rfl) ?_
       simp (maxSteps:=999999) (disch:=first | assumption | omega) only [go_sem,simprocAttr,au,hz,hT1,hT2,hS,hcl4,hr1,hr2,hr3,hr4,hr5,hr6,hr7,hr8,hr9,hrl,hlow,hd0,hd1,hu0,hu1,hu4,dz6,hun1,rd,acells_low]
def tcells (l:List Tok):List PV:=l.flatMap tcell
theorem tcells_len:∀ l:List Tok,(tcells l).length=l.length * 6
 | []=>rfl
 | a::l=>by
   show (tcell a++tcells l).length=_
   rw [List.length_append,tcells_len l,List.length_cons];show 6+_=_;omega
theorem tcells_low {n:Nat}:∀ l:List Tok,lows n (tcells l)=true
 | []=>rfl
 | a::l=>by show lows n (tcell a++tcells l)=true;rw [lows_app,tcells_low l,tcell_low];rfl
theorem tcells_np:∀ l:List Tok,noPtrs (tcells l)=true
 | []=>rfl
 | a::l=>by
   show noPtrs (tcell a++tcells l)=true
   simp only [tcell,List.cons_append,List.nil_append,noPtrs,PV.noPtr,acells_np,tcells_np l,Bool.true_and]
theorem tcells_app {a b:List Tok}:tcells a++tcells b=tcells (a++b):=by simp [tcells]
theorem nextE_len {s:Str} {k:Nat} {t:Tok} (hk:k<s.length) (h:nextE s k=some t):k<t.to:=by
 unfold nextE at h
 split at h
 ·split at h
  ·cases h;dsimp only;omega
  ·cases h
 ·split at h
  ·split at h
   ·obtain ⟨q,h1,rfl⟩:=Option.map_eq_some_iff.1 h
    dsimp only
    have hb:k+1≤s.length:=by omega
    have hw:=word_le hb
    have:=runS_inv (step:=openT s) (d:=none) (I:=fun a=>(a.2≤s.length∧a.1.length≤a.2)∧k<a.2) (μ:=fun a=>s.length - a.2) (Q:=fun r=>∀ q,r=some q→k<q.2) (fun a hi=>by
     cases hs:openT s a with
     | inl c =>
       obtain ⟨h2,h3⟩:=openT_in a c hi.1 hs
       exact ⟨⟨h2,by omega⟩,h3⟩
     | inr r =>
       intro q hq
       subst hq
       unfold openT at hs
       split at hs
       ·cases hs;dsimp only;have:=hi.2;omega
       ·split at hs
        ·cases hs
        ·split at hs<;>cases hs) (s.length+1) ([],k+1+(wordE s (k+1)).length) ⟨⟨hw,by simp⟩,by dsimp only;omega⟩ (by dsimp only;omega)
    exact this q h1
   ·cases h
  ·rename_i hb
   obtain ⟨q,h1,rfl⟩:=Option.map_eq_some_iff.1 h
   have hel:=saysE_len (by omega) h1
   dsimp only
   rcases Nat.lt_or_eq_of_le hel.1 with h2 | h2
   ·exact h2
   ·exfalso
    have hg:s[k]? =some s[k]:=List.getElem?_eq_getElem hk
    have h60:s[k]? =some 60:=by
     rcases hel.2.2.2 with h3 | h3
     ·rw [← h2,hg] at h3;cases h3
     ·rw [h2];exact h3
    apply hb
    rw [begins_pre (by omega),pre_1,h60]
    rfl
theorem tokT_in {s:Str} (HN:∀ k t,k≤s.length→nextE s k=some t→t.to≤s.length):∀ a c:List Tok × Nat,(a.2≤s.length∧a.1.length≤a.2)→tokT s a=.inl c→(c.2≤s.length∧c.1.length≤c.2)∧s.length - c.2<s.length - a.2:=by
 intro ⟨l,k⟩ c ⟨h1,h2⟩ h
 dsimp only at h1 h2
 unfold tokT at h
 dsimp only at h
 split at h
 ·cases h
 ·rename_i hlt
  split at h
  ·cases h
  ·rename_i t ht
   have h3:=nextE_len (by omega) ht
   have h4:=HN k t h1 ht
   cases h
   dsimp only
   simp only [List.length_append,List.length_cons,List.length_nil]
   omega
theorem saysE_le {s:Str} {en bd:UInt8} {k:Nat} {q:Str × Nat} (hk:k≤s.length) (h:saysE s en bd k=some q):q.2≤s.length:=(saysE_len hk h).2.1
theorem openE_le {s:Str} {k:Nat} {q:List Att × Nat} (hk:k≤s.length) (h:openE s k=some q):q.2≤s.length:=by
 have:=runS_inv (step:=openT s) (d:=none) (I:=fun a=>a.2≤s.length∧a.1.length≤a.2∨(a.1=[]∧a.2≤s.length)) (μ:=fun a=>s.length - a.2) (Q:=fun r=>∀ q,r=some q→q.2≤s.length) (fun a hi=>by
  have hi':a.2≤s.length∧a.1.length≤a.2:=by
   rcases hi with h | ⟨h,h'⟩
   ·exact h
   ·exact ⟨h',by rw [h];simp⟩
  cases hs:openT s a with
  | inl c =>
    obtain ⟨h2,h3⟩:=openT_in a c hi' hs
    exact ⟨.inl h2,h3⟩
  | inr r =>
    intro q hq
    subst hq
    have hg:=gap_le hi'.1
    unfold openT at hs
    split at hs
    ·rename_i hb
     have:=pre_le hg (by rw [← begins_pre hg];exact hb)
     simp only [List.length_cons,List.length_nil] at this
     cases hs;dsimp only;omega
    ·split at hs
     ·cases hs
     ·split at hs<;>cases hs) (s.length+1) ([],k) (.inr ⟨rfl,hk⟩) (by dsimp only;omega)
 exact this q h
theorem nextE_le {s:Str} {k:Nat} {t:Tok} (hk:k≤s.length) (h:nextE s k=some t):t.to≤s.length:=by
 unfold nextE at h
 split at h
 ·rename_i hb
  have h2:=pre_le hk (by rw [← begins_pre hk];exact hb)
  simp only [List.length_cons,List.length_nil] at h2
  split at h
  ·rename_i hc
   simp only [Bool.and_eq_true] at hc
   have h3:=word_le h2
   have h4:=pre_le h3 (by rw [← begins_pre h3];exact hc.2.2)
   simp only [List.length_cons,List.length_nil] at h4
   cases h;dsimp only;omega
  ·cases h
 ·split at h
  ·rename_i hb
   have h2:=pre_le hk (by rw [← begins_pre hk];exact hb)
   simp only [List.length_cons,List.length_nil] at h2
   split at h
   ·obtain ⟨q,h1,rfl⟩:=Option.map_eq_some_iff.1 h
    exact openE_le (word_le h2) h1
   ·cases h
  ·obtain ⟨q,h1,rfl⟩:=Option.map_eq_some_iff.1 h
   exact saysE_le hk h1
def Br (s:Str) (j:Nat):Boxes:=[(160,rd s j)]
theorem rdAt0 {s:Str} (hs:s.length≤100000000):RdAt (Br s) 1 0 160 s [] where
 len _:=rfl
 get _:=rfl
 set _ _:=rfl
 lt:=by omega
 low _:=rfl
 hs:=hs
 hr q h:=by cases h
 hlt q h:=by cases h
theorem tokens_ev (HP:LibPre lib) (HB:BldIn lib) (s:Str) (hs:s.length≤100000000) :
 evW code lib 56 [.flat (.string (S s))] [] []=match toksE s with
 | some l=>some ([.slc l.length (tcells l),.flat (.int .i64 0)],false,[],[])
 | none=>some ([.slc 0 [],.flat (.int .i64 7)],false,[],[]):=by
 have hz:(⟨#[]⟩:ByteArray)=S []:=rfl
 have H:=rdAt0 hs
 have his:=isU_ev (lib:=lib) s (by unfold Sm;omega)
 have hrel:=loop_rel (body:=evC (evW code lib) big b_tags_Tokens_0) (live:=[4,5]) (nb:=1) (fun (_:Unit) (q:List Tok × Nat)=>(⟨[(4,.ptr 0 0),(5,.slc q.1.length (tcells q.1))],[.slot 5],[],Br s q.2⟩:St))
  (tokT s) none (fun q o st=>match q with
    | some l=>o=.exit 0∧∃ k',st=⟨[(5,.slc l.length (tcells l))],[.slot 5],[],Br s k'⟩
    | none=>o=.ret∧∃ y z,st=⟨[(2,.slc 0 []),(3,.flat (.int .i64 7))],[.slot 2],[],[y,z]⟩) (fun q=>q.2≤s.length∧q.1.length≤q.2) (fun q=>s.length - q.2) (fun _ ⟨l,j⟩ hj=>?_) (fun _ ⟨l,j⟩ hj=>?_) (fun a c hi h=>tokT_in (fun k t=>nextE_le) a c hi h) (n:=s.length+1) (m:=big) () ([],0) ⟨Nat.zero_le _,Nat.le_refl _⟩ (by dsimp only;omega) (by unfold big;dsimp only;omega)
 ·unfold toksE
  cases hu:isU s with
  | false =>
    rw [hu] at his
    simp only [Bool.false_eq_true,if_false]
    refine evW_eq code_tags_Tokens (Nat.le_of_ble_eq_true rfl) ?_
    simp (maxSteps:=999999) (disch:=first | assumption | omega) only [go_sem,simprocAttr,au,hz,his]
  | true =>
    rw [hu] at his
    simp only [if_true]
    obtain ⟨o,st,hl,hq⟩:=hrel
    simp only [Br,rd,tcells,List.flatMap_nil,List.length_nil,n0] at hl
    cases hE:runS (tokT s) none (s.length+1) ([],0) with
    | some l =>
      rw [hE] at hq
      obtain ⟨rfl,k',rfl⟩:=hq
      refine evW_eq code_tags_Tokens (Nat.le_of_ble_eq_true rfl) ?_
      simp only [Br,rd] at hl
      simp (maxSteps:=999999) (disch:=first | assumption | omega) only [go_sem,simprocAttr,au,hz,his,hl,tcells_low]
    | none =>
      rw [hE] at hq
      obtain ⟨rfl,y,z,rfl⟩:=hq
      refine evW_eq code_tags_Tokens (Nat.le_of_ble_eq_true rfl) ?_
      simp (maxSteps:=999999) (disch:=first | assumption | omega) only [go_sem,simprocAttr,au,hz,his,hl,tcells_low]
 ·dsimp only at hj ⊢
  have hdn:=H.done (lib:=lib) j
  unfold tokT
  dsimp only
  by_cases hlt:s.length≤j
  ·have hlt':=eq_true hlt
   simp only [hlt,decide_true,if_true] at hdn ⊢
   refine ⟨.exit 0,⟨[(5,.slc l.length (tcells l))],[.slot 5],[],Br s j⟩,?_,by simp,rfl,j,rfl⟩
   simp only [Br,rd,cl_nil] at hdn ⊢
   simp (maxSteps:=999999) (disch:=first | assumption | omega) only [go_sem,simprocAttr,au,on_tags_Tokens_0,hdn]
  ·simp only [hlt,decide_false,if_false] at hdn ⊢
   have hN:=next_ev2 (lib:=lib) H HP HB j hj.1
   cases hE:nextE s j with
   | none =>
     rw [hE] at hN
     obtain ⟨t,k',hk',hN⟩:=hN
     refine ⟨.ret,⟨[(2,.slc 0 []),(3,.flat (.int .i64 7))],[.slot 2],[],[(160,rd s k'),(163,tcell t)]⟩,?_,by simp,rfl,_,_,rfl⟩
     simp only [Br,rd,cl_nil,tcell] at hdn hN ⊢
     simp (maxSteps:=999999) (disch:=first | assumption | omega) only [go_sem,simprocAttr,au,on_tags_Tokens_0,hdn,hN]
   | some t =>
     rw [hE] at hN
     obtain ⟨hN,hto⟩:=hN
     refine ⟨(),?_⟩
     simp only [Br,rd,cl_nil,tcell] at hdn hN ⊢
     have hbd:l.length+1≤bound:=by unfold bound;omega
     have hac:tcells l++[.flat (.int .u8 t.kind.toNat),.flat (.string (S t.name)),.flat (.string (S t.text)),.slc t.attrs.length (acells t.attrs),.flat (.int .i64 (t.fr:Nat)),.flat (.int .i64 (t.to:Nat))]=tcells (l++[t]):=by rw [← tcells_app];rfl
     simp (maxSteps:=999999) (disch:=first | assumption | omega) only [go_sem,simprocAttr,au,on_tags_Tokens_0,hdn,hN,hbd,hac,tcells_len,acells_low,tcells_low,List.length_append]
 ·simp (maxSteps:=999999) (disch:=first | assumption | omega) only [go_sem,simprocAttr,au,Br]
theorem digit2_ev (c:UInt8) (base:Nat) (hb:base≤16):evW code lib 229 [.flat (.int .u8 c.toNat),.flat (.int .i64 (base:Nat))] [] []=some ([.flat (.int .i64 (if digN c.toNat<base then (digN c.toNat:Int) else -1))],false,[],[]):=by
 refine evW_eq code_n06_digit (Nat.le_of_ble_eq_true rfl) ?_
 have hm:Int.negSucc 0=-1:=rfl
 have hc:=c.toNat_lt
 obtain ⟨n,hn⟩:∃ n,c.toNat=n:=⟨_,rfl⟩
 rw [hn] at hc ⊢
 rcases Classical.em (48≤n∧n≤57) with h1 | h1
 ·have hd:digN n=n - 48:=by unfold digN;rw [if_pos h1]
  rw [hd]
  by_cases hlt:n - 48<base
  ·rw [if_pos hlt]
   have e:((n - 48:Nat):Int)=(n:Int) - 48:=by omega
   rw [e]
   simp (maxSteps:=999999) (disch:=first | assumption | omega) only [go_sem,simprocAttr,au,hm]
  ·rw [if_neg hlt]
   simp (maxSteps:=999999) (disch:=first | assumption | omega) only [go_sem,simprocAttr,au,hm]
 rcases Classical.em (65≤n∧n≤70) with h2 | h2
 ·have hd:digN n=n - 55:=by unfold digN;rw [if_neg h1,if_pos h2]
  rw [hd]
  by_cases hlt:n - 55<base
  ·rw [if_pos hlt]
   have e:((n - 55:Nat):Int)=(n:Int) - 65+10:=by omega
   rw [e]
   simp (maxSteps:=999999) (disch:=first | assumption | omega) only [go_sem,simprocAttr,au,hm]
  ·rw [if_neg hlt]
   simp (maxSteps:=999999) (disch:=first | assumption | omega) only [go_sem,simprocAttr,au,hm]
 rcases Classical.em (97≤n∧n≤102) with h3 | h3
 ·have hd:digN n=n - 87:=by unfold digN;rw [if_neg h1,if_neg h2,if_pos h3]
  rw [hd]
  by_cases hlt:n - 87<base
  ·rw [if_pos hlt]
   have e:((n - 87:Nat):Int)=(n:Int) - 97+10:=by omega
   rw [e]
   simp (maxSteps:=999999) (disch:=first | assumption | omega) only [go_sem,simprocAttr,au,hm]
  ·rw [if_neg hlt]
   simp (maxSteps:=999999) (disch:=first | assumption | omega) only [go_sem,simprocAttr,au,hm]
 ·have hd:digN n=99:=by unfold digN;rw [if_neg h1,if_neg h2,if_neg h3]
  rw [hd,if_neg (by omega)]
  simp (maxSteps:=999999) (disch:=first | assumption | omega) only [go_sem,simprocAttr,au,hm]
  repeat' (split<;>simp (maxSteps:=999999) (disch:=first | assumption | omega) only [go_sem,simprocAttr,au,hm])
def nrT (s:Str) (base most:Nat) (q:Nat × Nat):(Nat × Nat) ⊕ Option (Option (Nat × Nat)):=match s[q.2]? with
 | none=>.inr none
 | some c=>if most<q.2 then .inr none else if c.toNat=59∧0<q.2 then .inr (some (some (q.1,q.2+1))) else if digN c.toNat<base then .inl (q.1 * base+digN c.toNat,q.2+1) else .inr (some none)
def numR (base most:Nat) (s:Str):Option (Nat × Nat):=if 0<(numRun base most 0 s).2∧s[(numRun base most 0 s).2]? =some 59 then some ((numRun base most 0 s).1,(numRun base most 0 s).2+1) else none
theorem nrT_run (s:Str) (base most:Nat) (hb:base≤16):∀ (f n i:Nat),s.length - i<f→i≤most+1→(runS (nrT s base most) none f (n,i)).join=if i≤most then (if 0<i+(numRun base (most - i) n (s.drop i)).2∧s[i+(numRun base (most - i) n (s.drop i)).2]? =some 59 then some ((numRun base (most - i) n (s.drop i)).1,i+(numRun base (most - i) n (s.drop i)).2+1) else none) else none
 | 0,n,i,h,_=>by omega
 | f+1,n,i,h,hi=>by
   by_cases hk:i<s.length
   ·have hd:s.drop i=s[i]::s.drop (i+1):=List.drop_eq_getElem_cons hk
    have hg:s[i]? =some s[i]:=List.getElem?_eq_getElem hk
    by_cases him:i≤most
    ·rw [if_pos him]
     have him':¬ most<i:=by omega
     by_cases h59:s[i].toNat=59
     ·have hdg:¬ digN s[i].toNat<base:=by rw [h59];have:digN 59=99:=rfl;omega
      have hrun:numRun base (most - i) n (s.drop i)=(n,0):=by
       rw [hd];cases most - i with
       | zero=>rfl
       | succ m=>simp only [numRun,hdg,if_false]
      have h59':s[i]=59:=UInt8.toNat_inj.1 h59
      rw [hrun]
      simp only [Nat.add_zero,hg,h59',true_and]
      by_cases h0:0<i
      ·rw [runS_inr (show nrT s base most (n,i)=.inr (some (some (n,i+1))) by unfold nrT;rw [hg];dsimp only;rw [if_neg him',if_pos ⟨h59,h0⟩])]
       simp only [h0,and_self,if_true,Option.join_some]
      ·rw [runS_inr (show nrT s base most (n,i)=.inr (some none) by unfold nrT;rw [hg];dsimp only;rw [if_neg him',if_neg (fun h=>h0 h.2),if_neg hdg])]
       simp only [h0,false_and,if_false,Option.join_some]
     ·by_cases hdg:digN s[i].toNat<base
      ·rw [runS_inl (show nrT s base most (n,i)=.inl (n * base+digN s[i].toNat,i+1) by unfold nrT;rw [hg];dsimp only;rw [if_neg him',if_neg (fun h=>h59 h.1),if_pos hdg]),nrT_run s base most hb f _ _ (by omega) (by omega)]
       by_cases hlast:i=most
       ·subst hlast
        rw [if_neg (by omega),Nat.sub_self]
        simp only [numRun,Nat.add_zero,hg,Option.some.injEq]
        rw [if_neg (fun h=>h59 (by rw [h.2];rfl))]
       ·rw [if_pos (by omega),hd]
        obtain ⟨m,hm⟩:∃ m,most - i=m+1:=⟨most - i - 1,by omega⟩
        have hm2:most - (i+1)=m:=by omega
        rw [hm,hm2]
        simp only [numRun,hdg,if_true]
        generalize numRun base m (n * base+digN s[i].toNat) (s.drop (i+1))=z
        have e:i+(z.2+1)=i+1+z.2:=by omega
        rw [e]
      ·rw [runS_inr (show nrT s base most (n,i)=.inr (some none) by unfold nrT;rw [hg];dsimp only;rw [if_neg him',if_neg (fun h=>h59 h.1),if_neg hdg])]
       have hrun:numRun base (most - i) n (s.drop i)=(n,0):=by
        rw [hd];cases most - i with
        | zero=>rfl
        | succ m=>simp only [numRun,hdg,if_false]
       rw [hrun]
       simp only [Nat.add_zero,hg,Option.some.injEq,Option.join_some]
       rw [if_neg (fun h=>h59 (by rw [h.2];rfl))]
    ·rw [if_neg him,runS_inr (show nrT s base most (n,i)=.inr none by unfold nrT;rw [hg];dsimp only;rw [if_pos (by omega)])]
     rfl
   ·have hg:s[i]? =none:=List.getElem?_eq_none (by omega)
    rw [runS_inr (show nrT s base most (n,i)=.inr none by unfold nrT;rw [hg]),List.drop_of_length_le (by omega)]
    have hrun:numRun base (most - i) n []=(n,0):=by cases most - i<;>rfl
    rw [hrun]
    simp only [Nat.add_zero,hg,reduceCtorEq,and_false,if_false,Option.join_none,ite_self]
theorem numbered2_ev (s:Str) (base most:Nat) (hs:s.length≤1000000000) (hb:base=16∨base=10) (hm:most≤7):evW code lib 220 [.flat (.string (S s)),.flat (.int .i64 (base:Nat)),.flat (.int .i64 (most:Nat))] [] [] =
 some ([.flat (.int .i64 (((numR base most s).map (·.1)).getD 0:Nat)),.flat (.int .i64 (((numR base most s).map (·.2)).getD 0:Nat))],false,[],[]):=by
 have hloop:=loop_run (body:=evC (evW code lib) big b_n06_numbered_0) (live:=[0,1,2,8,9]) (nb:=0) (fun q:Nat × Nat=>(⟨[(0,.flat (.string (S s))),(1,.flat (.int .i64 (base:Nat))),(2,.flat (.int .i64 (most:Nat))),(8,.flat (.int .i64 (q.1:Nat))),(9,.flat (.int .i64 (q.2:Nat)))],[],[],[]⟩:St))
  (nrT s base most) none (fun q=>match q with
    | none=>(.exit 0,⟨[],[],[],[]⟩)
    | some none=>(.ret,⟨[(6,.flat (.int .i64 0)),(7,.flat (.int .i64 0))],[],[],[]⟩)
    | some (some x)=>(.ret,⟨[(6,.flat (.int .i64 (x.1:Nat))),(7,.flat (.int .i64 (x.2:Nat)))],[],[],[]⟩)) (fun q=>q.2≤s.length∧q.2≤most+1∧q.1+1≤16 ^ q.2) (fun q=>s.length - q.2) (fun ⟨n,i⟩ hi=>?_) (fun ⟨n,i⟩ hi=>?_) (fun ⟨n,i⟩ c hi h=>?_) (fun q=>by rcases q with _ | _ | _<;>simp) (n:=s.length+1) (0,0) ⟨Nat.zero_le _,by omega,by simp⟩ (by dsimp only;omega) (by unfold big;dsimp only;omega)
 ·have hrun:=nrT_run s base most (by omega) (s.length+1) 0 0 (by omega) (by omega)
  rw [if_pos (Nat.zero_le _)] at hrun
  simp only [Nat.zero_add,Nat.sub_zero,List.drop_zero] at hrun
  have hR:(runS (nrT s base most) none (s.length+1) (0,0)).join=numR base most s:=hrun
  rw [← hR]
  obtain ⟨x,hx⟩:∃ x,runS (nrT s base most) none (s.length+1) (0,0)=x:=⟨_,rfl⟩
  rw [hx] at hloop ⊢
  refine evW_eq code_n06_numbered (Nat.le_of_ble_eq_true rfl) ?_
  simp only [n0] at hloop
  rcases x with _ | _ | x
  ·simp only [Option.join_none,Option.map_none,Option.getD_none,n0]
   simp (maxSteps:=999999) (disch:=first | assumption | omega) only [go_sem,simprocAttr,au,hloop]
  ·simp only [Option.join_some,Option.map_none,Option.getD_none,n0]
   simp (maxSteps:=999999) (disch:=first | assumption | omega) only [go_sem,simprocAttr,au,hloop]
  ·simp only [Option.join_some,Option.map_some,Option.getD_some,n0]
   simp (maxSteps:=999999) (disch:=first | assumption | omega) only [go_sem,simprocAttr,au,hloop]
 ·obtain ⟨h1,h2,h3⟩:=hi
  dsimp only at h1 h2 h3 ⊢
  have hpw:16 ^ i≤4294967296:=Nat.le_trans (Nat.pow_le_pow_right (by omega) (show i≤8 by omega)) (by decide)
  have hbl:base≤16:=by omega
  unfold nrT
  dsimp only
  by_cases hk:i<s.length
  ·have hg:s[i]? =some s[i]:=List.getElem?_eq_getElem hk
   obtain ⟨c,hc⟩:∃ c,s[i]=c:=⟨_,rfl⟩
   rw [hc] at hg
   have hdg:=digit2_ev (lib:=lib) c base hbl
   simp only [hg]
   by_cases him:most<i
   ·rw [if_pos him]
    simp only [outS]
    simp (maxSteps:=999999) (disch:=first | assumption | omega) only [go_sem,simprocAttr,au,on_n06_numbered_0,hg]
   ·rw [if_neg him]
    by_cases h59:c.toNat=59
    ·by_cases h0:0<i
     ·rw [if_pos ⟨h59,h0⟩]
      simp only [outS]
      simp (maxSteps:=999999) (disch:=first | assumption | omega) only [go_sem,simprocAttr,au,on_n06_numbered_0,hg]
     ·rw [if_neg (fun h=>h0 h.2)]
      have hd99:digN c.toNat=99:=by rw [h59];rfl
      rw [if_neg (by omega)] at hdg ⊢
      simp only [outS]
      simp (maxSteps:=999999) (disch:=first | assumption | omega) only [go_sem,simprocAttr,au,on_n06_numbered_0,hg,hdg]
    ·rw [if_neg (fun h=>h59 h.1)]
     by_cases hdl:digN c.toNat<base
     ·rw [if_pos hdl] at hdg ⊢
      simp only [outS]
      obtain ⟨dg,hdgn⟩:∃ dg,digN c.toNat=dg:=⟨_,rfl⟩
      rw [hdgn] at hdg hdl ⊢
      have w5:IntKind.i64.wrap ((n:Int) * (base:Int))=((n * base:Nat):Int):=by rw [wrap64 (by rcases hb with rfl | rfl<;>omega)];rfl
      have w6:IntKind.i64.wrap (((n * base:Nat):Int)+(dg:Int))=((n * base:Nat):Int)+(dg:Int):=by rw [wrap64 (by rcases hb with rfl | rfl<;>omega)]
      simp (maxSteps:=999999) (disch:=first | assumption | omega) only [go_sem,simprocAttr,au,on_n06_numbered_0,hg,hdg,w5,w6]
     ·rw [if_neg hdl] at hdg ⊢
      simp only [outS]
      simp (maxSteps:=999999) (disch:=first | assumption | omega) only [go_sem,simprocAttr,au,on_n06_numbered_0,hg,hdg]
  ·have hg:s[i]? =none:=List.getElem?_eq_none (by omega)
   simp only [hg,outS]
   simp (maxSteps:=999999) (disch:=first | assumption | omega) only [go_sem,simprocAttr,au,on_n06_numbered_0,hg]
 ·simp (maxSteps:=999999) (disch:=first | assumption | omega) only [go_sem,simprocAttr,au]
 ·obtain ⟨h1,h2,h3⟩:=hi
  unfold nrT at h
  dsimp only at h h1 h2 h3
  split at h
  ·cases h
  ·rename_i c hc
   have:=(List.getElem?_eq_some_iff.1 hc).1
   split at h
   ·cases h
   split at h
   ·cases h
   split at h
   ·rename_i hdl
    cases h
    refine ⟨⟨by dsimp only;omega,by dsimp only;omega,?_⟩,by dsimp only;omega⟩
    dsimp only
    rw [Nat.pow_succ]
    obtain ⟨p,hp⟩:∃ p,16 ^ i=p:=⟨_,rfl⟩
    rw [hp] at h3 ⊢
    rcases hb with rfl | rfl<;>omega
   ·cases h
theorem numRun_0 (base:Nat):∀ (m n:Nat) (s:Str),(numRun base m n s).2=0→(numRun base m n s).1=n
 | 0,n,s,_=>rfl
 | m+1,n,[],_=>rfl
 | m+1,n,c::t,h=>by
   simp only [numRun] at h ⊢
   split at h
   ·dsimp only at h;omega
   ·rename_i hd;rw [if_neg hd]
theorem numE_R (base most:Nat) (s:Str):numE base most s=match numR base most s with
 | none=>none
 | some (n,k)=>if n≠0∧isN n=true then some (bytesU n,k) else none:=by
 have h0:=numRun_0 base most 0 s
 unfold numE numR
 obtain ⟨⟨n,k⟩,hq⟩:∃ q,numRun base most 0 s=q:=⟨_,rfl⟩
 rw [hq] at h0 ⊢
 dsimp only at h0 ⊢
 by_cases h1:0<k∧s[k]? =some 59
 ·rw [if_pos h1]
  dsimp only
  by_cases h2:n≠0∧isN n=true
  ·rw [if_pos h2,if_pos ⟨h2.1,h2.2,h1.2⟩]
  ·rw [if_neg h2,if_neg (fun h=>h2 ⟨h.1,h.2.1⟩)]
 ·rw [if_neg h1]
  dsimp only
  rw [if_neg]
  rintro ⟨h2,h3,h4⟩
  exact h1 ⟨Nat.pos_of_ne_zero (fun e=>h2 (h0 e)),h4⟩
theorem numR_len {base most:Nat} {s:Str} {q:Nat × Nat} (h:numR base most s=some q):1≤q.2∧q.2≤most+1:=by
 have hl:=numRun_len base most 0 s
 unfold numR at h
 split at h
 ·cases h;dsimp only;omega
 ·cases h
set_option maxHeartbeats 4000000 in
theorem one2_ev (s:Str) (k:Nat) (hs:s.length≤1000000000) (hk:k≤s.length):evW code lib 188 [.flat (.string (S s)),.flat (.int .i64 (k:Nat))] [] []=match oneE (s.drop k) with
 | some (x,c)=>some ([.flat (.string (S x)),.flat (.int .i64 (c:Nat)),.flat (.bool true)],false,[],[])
 | none=>some ([.flat (.string (S [])),.flat (.int .i64 0),.flat (.bool false)],false,[],[]):=by
 have hB:∀ w:Str,w.length≤10→evW code lib 60 [.flat (.string (S s)),.flat (.string (S w)),.flat (.int .i64 (k:Nat))] [] []=some ([.flat (.bool (w.isPrefixOf (s.drop k)))],false,[],[]):=fun w hw=>by
  rw [← begins_pre hk];exact begins2_ev s w k hs (by omega) (by omega)
 have b1:=hB [38,97,109,112,59] (by decide)
 have b2:=hB [38,108,116,59] (by decide)
 have b3:=hB [38,103,116,59] (by decide)
 have b4:=hB [38,113,117,111,116,59] (by decide)
 have b5:=hB [38,35,120] (by decide)
 have b6:=hB [38,35] (by decide)
 have hz:(⟨#[]⟩:ByteArray)=S []:=rfl
 unfold oneE
 cases h1:([38,97,109,112,59]:Str).isPrefixOf (s.drop k) with
 | true =>
   rw [h1] at b1
   rw [if_pos rfl]
   refine evW_eq code_n06_One (Nat.le_of_ble_eq_true rfl) ?_
   simp (maxSteps:=999999) (disch:=first | assumption | omega) only [go_sem,simprocAttr,au,hz,b1,big_on,loop_on,kLoop_n,kLoop_e,kLoop_r,on_n06_One_0]
 | false =>
 rw [h1] at b1
 rw [if_neg (by simp)]
 cases h2:([38,108,116,59]:Str).isPrefixOf (s.drop k) with
 | true =>
   rw [h2] at b2
   rw [if_pos rfl]
   refine evW_eq code_n06_One (Nat.le_of_ble_eq_true rfl) ?_
   simp (maxSteps:=999999) (disch:=first | assumption | omega) only [go_sem,simprocAttr,au,hz,b1,b2,big_on,loop_on,kLoop_n,kLoop_e,kLoop_r,on_n06_One_0]
 | false =>
 rw [h2] at b2
 rw [if_neg (by simp)]
 cases h3:([38,103,116,59]:Str).isPrefixOf (s.drop k) with
 | true =>
   rw [h3] at b3
   rw [if_pos rfl]
   refine evW_eq code_n06_One (Nat.le_of_ble_eq_true rfl) ?_
   simp (maxSteps:=999999) (disch:=first | assumption | omega) only [go_sem,simprocAttr,au,hz,b1,b2,b3,big_on,loop_on,kLoop_n,kLoop_e,kLoop_r,on_n06_One_0]
 | false =>
 rw [h3] at b3
 rw [if_neg (by simp)]
 cases h4:([38,113,117,111,116,59]:Str).isPrefixOf (s.drop k) with
 | true =>
   rw [h4] at b4
   rw [if_pos rfl]
   refine evW_eq code_n06_One (Nat.le_of_ble_eq_true rfl) ?_
   simp (maxSteps:=999999) (disch:=first | assumption | omega) only [go_sem,simprocAttr,au,hz,b1,b2,b3,b4,big_on,loop_on,kLoop_n,kLoop_e,kLoop_r,on_n06_One_0]
 | false =>
 rw [h4] at b4
 rw [if_neg (by simp)]
 have hfin:∀ (p m ah:Nat) (w:Str),(p=16∧m=6∧ah=3∧w=[38,35,120])∨(p=10∧m=7∧ah=2∧w=[38,35])→w.isPrefixOf (s.drop k)=true→k+ah≤s.length∧evW code lib 220 [.flat (.string (S (s.drop (k+ah)))),.flat (.int .i64 (p:Nat)),.flat (.int .i64 (m:Nat))] [] [] =
  some ([.flat (.int .i64 (((numR p m (s.drop (k+ah))).map (·.1)).getD 0:Nat)),.flat (.int .i64 (((numR p m (s.drop (k+ah))).map (·.2)).getD 0:Nat))],false,[],[]):=fun p m ah w hw hp=>by
   have:=pre_le hk hp
   refine ⟨by rcases hw with ⟨_,_,rfl,rfl⟩ | ⟨_,_,rfl,rfl⟩<;>simpa using this,numbered2_ev _ _ _ (by rw [List.length_drop];omega) (by rcases hw with ⟨rfl,_⟩ | ⟨rfl,_⟩<;>simp) (by rcases hw with ⟨_,rfl,_⟩ | ⟨_,rfl,_⟩<;>omega)⟩
 cases h5:([38,35,120]:Str).isPrefixOf (s.drop k) with
 | true =>
   rw [h5] at b5
   rw [if_pos rfl]
   obtain ⟨hle,hN⟩:=hfin 16 6 3 _ (.inl ⟨rfl,rfl,rfl,rfl⟩) h5
   have e16:((16:Nat):Int)=16:=rfl
   have e6:((6:Nat):Int)=6:=rfl
   rw [e16,e6] at hN
   rw [List.drop_drop,numE_R]
   cases hR:numR 16 6 (s.drop (k+3)) with
   | none =>
     rw [hR] at hN
     simp only [Option.map_none,Option.getD_none,n0] at hN ⊢
     refine evW_eq code_n06_One (Nat.le_of_ble_eq_true rfl) ?_
     simp (maxSteps:=999999) (disch:=first | assumption | omega) only [go_sem,simprocAttr,au,hz,b1,b2,b3,b4,b5,hN,big_on,loop_on,kLoop_n,kLoop_e,kLoop_r,on_n06_One_0]
   | some q =>
     obtain ⟨n,c⟩:=q
     rw [hR] at hN
     have hc:=numR_len hR
     dsimp only at hc
     have hru:=rune2_ev (lib:=lib) n
     have hby:=bytes2_ev (lib:=lib) n
     simp only [Option.map_some,Option.getD_some] at hN ⊢
     by_cases hn:n=0
     ·subst hn
      simp only [ne_eq,not_true_eq_false,false_and,if_false,Option.map_none,n0] at hN ⊢
      refine evW_eq code_n06_One (Nat.le_of_ble_eq_true rfl) ?_
      simp (maxSteps:=999999) (disch:=first | assumption | omega) only [go_sem,simprocAttr,au,hz,b1,b2,b3,b4,b5,hN,big_on,loop_on,kLoop_n,kLoop_e,kLoop_r,on_n06_One_0]
     ·cases hi:isN n with
      | false =>
        rw [hi] at hru
        simp only [Bool.false_eq_true,and_false,if_false,Option.map_none]
        refine evW_eq code_n06_One (Nat.le_of_ble_eq_true rfl) ?_
        simp (maxSteps:=999999) (disch:=first | assumption | omega) only [go_sem,simprocAttr,au,hz,b1,b2,b3,b4,b5,hN,hru,big_on,loop_on,kLoop_n,kLoop_e,kLoop_r,on_n06_One_0]
      | true =>
        rw [hi] at hru
        simp only [ne_eq,hn,not_false_eq_true,and_self,if_true,Option.map_some]
        refine evW_eq code_n06_One (Nat.le_of_ble_eq_true rfl) ?_
        have e3:((3:Nat):Int)=3:=rfl
        simp (maxSteps:=999999) (disch:=first | assumption | omega) only [go_sem,simprocAttr,au,hz,b1,b2,b3,b4,b5,hN,hru,hby,e3,big_on,loop_on,kLoop_n,kLoop_e,kLoop_r,on_n06_One_0]
 | false =>
 rw [h5] at b5
 rw [if_neg (by simp)]
 cases h6:([38,35]:Str).isPrefixOf (s.drop k) with
 | true =>
   rw [h6] at b6
   rw [if_pos rfl]
   obtain ⟨hle,hN⟩:=hfin 10 7 2 _ (.inr ⟨rfl,rfl,rfl,rfl⟩) h6
   have e16:((10:Nat):Int)=10:=rfl
   have e6:((7:Nat):Int)=7:=rfl
   rw [e16,e6] at hN
   rw [List.drop_drop,numE_R]
   cases hR:numR 10 7 (s.drop (k+2)) with
   | none =>
     rw [hR] at hN
     simp only [Option.map_none,Option.getD_none,n0] at hN ⊢
     refine evW_eq code_n06_One (Nat.le_of_ble_eq_true rfl) ?_
     simp (maxSteps:=999999) (disch:=first | assumption | omega) only [go_sem,simprocAttr,au,hz,b1,b2,b3,b4,b5,b6,hN,big_on,loop_on,kLoop_n,kLoop_e,kLoop_r,on_n06_One_0]
   | some q =>
     obtain ⟨n,c⟩:=q
     rw [hR] at hN
     have hc:=numR_len hR
     dsimp only at hc
     have hru:=rune2_ev (lib:=lib) n
     have hby:=bytes2_ev (lib:=lib) n
     simp only [Option.map_some,Option.getD_some] at hN ⊢
     by_cases hn:n=0
     ·subst hn
      simp only [ne_eq,not_true_eq_false,false_and,if_false,Option.map_none,n0] at hN ⊢
      refine evW_eq code_n06_One (Nat.le_of_ble_eq_true rfl) ?_
      simp (maxSteps:=999999) (disch:=first | assumption | omega) only [go_sem,simprocAttr,au,hz,b1,b2,b3,b4,b5,b6,hN,big_on,loop_on,kLoop_n,kLoop_e,kLoop_r,on_n06_One_0]
     ·cases hi:isN n with
      | false =>
        rw [hi] at hru
        simp only [Bool.false_eq_true,and_false,if_false,Option.map_none]
        refine evW_eq code_n06_One (Nat.le_of_ble_eq_true rfl) ?_
        simp (maxSteps:=999999) (disch:=first | assumption | omega) only [go_sem,simprocAttr,au,hz,b1,b2,b3,b4,b5,b6,hN,hru,big_on,loop_on,kLoop_n,kLoop_e,kLoop_r,on_n06_One_0]
      | true =>
        rw [hi] at hru
        simp only [ne_eq,hn,not_false_eq_true,and_self,if_true,Option.map_some]
        refine evW_eq code_n06_One (Nat.le_of_ble_eq_true rfl) ?_
        have e3:((2:Nat):Int)=2:=rfl
        simp (maxSteps:=999999) (disch:=first | assumption | omega) only [go_sem,simprocAttr,au,hz,b1,b2,b3,b4,b5,b6,hN,hru,hby,e3,big_on,loop_on,kLoop_n,kLoop_e,kLoop_r,on_n06_One_0]
 | false =>
 rw [h6] at b6
 rw [if_neg (by simp)]
 refine evW_eq code_n06_One (Nat.le_of_ble_eq_true rfl) ?_
 simp (maxSteps:=999999) (disch:=first | assumption | omega) only [go_sem,simprocAttr,au,hz,b1,b2,b3,b4,b5,b6,big_on,loop_on,kLoop_n,kLoop_e,kLoop_r,on_n06_One_0]
theorem in2_ev (L:List Str) (s:Str) (hL:L.length≤1000000):evW code lib 144 [.slc L.length (scells L),.flat (.string (S s))] [] []=some ([.flat (.bool (L.contains s))],false,[],[]):=by
 have hloop:=loop_at (body:=evC (evW code lib) big b_n11_in_0) (live:=[0,1,5]) (nb:=0) (fun (_:Unit) k=>⟨[(0,.slc L.length (scells L)),(1,.flat (.string (S s))),(5,.flat (.int .i64 (k:Nat)))],[],[],[]⟩) L (fun _ _=>True)
  (fun _ k x=>if x=s then .inr (.ret,⟨[(4,.flat (.bool true))],[],[],[]⟩) else .inl ()) (fun _=>(.exit 0,⟨[],[],[],[]⟩)) (fun _ k x _ hk hc hd=>?_) (fun _ _=>by simp only [go_sem,simprocAttr]) (fun _ _ _ _ _ _ _ _=>trivial) (fun _ _ x r h=>by split at h<;>simp at h;rw [← h];simp) (fun _ _=>?_) (fun _=>by simp) () trivial (by unfold big;omega)
 ·simp only [n0] at hloop
  rcases walk_idx (s:=s) (fin:=fun _=>(.exit 0,⟨[],[],[],[]⟩)) (g:=fun _=>(.ret,⟨[(4,.flat (.bool true))],[],[],[]⟩)) L 0 with ⟨h1,h2⟩ | ⟨h1,j,h2,h3⟩
  ·rw [h2] at hloop
   rw [h1]
   refine evW_eq code_n11_in (Nat.le_of_ble_eq_true rfl) ?_
   simp (maxSteps:=999999) (disch:=first | assumption | omega) only [go_sem,simprocAttr,au,hloop,scells_len]
  ·rw [h3] at hloop
   rw [h1]
   refine evW_eq code_n11_in (Nat.le_of_ble_eq_true rfl) ?_
   simp (maxSteps:=999999) (disch:=first | assumption | omega) only [go_sem,simprocAttr,au,hloop,scells_len]
 ·have hsc:(scells L)[k]? =some (.flat (.string (S x))):=by simp only [scells,List.getElem?_map,hc,Option.map_some]
  have hsd:(scells L).drop k=.flat (.string (S x))::(scells L).drop (k+1):=by
   rw [List.drop_eq_getElem_cons (by rw [scells_len];exact hk)]
   rw [List.getElem?_eq_getElem (by rw [scells_len];exact hk),Option.some.injEq] at hsc
   rw [hsc]
  by_cases h:x=s
  ·have h':(x=s)=True:=eq_true h
   rw [if_pos h]
   simp (maxSteps:=999999) (disch:=first | assumption | omega) only [go_sem,simprocAttr,au,on_n11_in_0,hsc,hsd,h',scells_len]
  ·have h':(x=s)=False:=eq_false h
   rw [if_neg h]
   simp (maxSteps:=999999) (disch:=first | assumption | omega) only [go_sem,simprocAttr,au,on_n11_in_0,hsc,hsd,h',scells_len]
 ·simp (maxSteps:=999999) (disch:=first | assumption | omega) only [go_sem,simprocAttr,au,on_n11_in_0,scells_len]
theorem names2_ev:evW code lib 145 [] [] []=some ([.slc elemsE.length (scells elemsE)],true,[],[]):=by
 refine evW_eq code_n11_names (Nat.le_of_ble_eq_true rfl) ?_
 simp only [scells,elemsE,List.map_cons,List.map_nil]
 simp only [go_sem,simprocAttr,mk_S]
theorem attrs2_ev:evW code lib 190 [] [] []=some ([.slc attrsE.length (scells attrsE)],true,[],[]):=by
 refine evW_eq code_n11_attrs (Nat.le_of_ble_eq_true rfl) ?_
 simp only [scells,attrsE,List.map_cons,List.map_nil]
 simp only [go_sem,simprocAttr,mk_S]
theorem void2_ev (s:Str):evW code lib 92 [.flat (.string (S s))] [] []=some ([.flat (.bool (voidE s))],false,[],[]):=by
 refine evW_eq code_n11_Void (Nat.le_of_ble_eq_true rfl) ?_
 unfold voidE
 rcases Classical.em (s=[98,114]) with h1 | h1<;>rcases Classical.em (s=[104,114]) with h2 | h2<;>rcases Classical.em (s=[105,109,103]) with h3 | h3
 all_goals
  first | have h1':=eq_false h1 | have h1':=eq_true h1
  first | have h2':=eq_false h2 | have h2':=eq_true h2
  first | have h3':=eq_false h3 | have h3':=eq_true h3
  clear h1 h2 h3
  simp (maxSteps:=999999) (disch:=first | assumption | omega) only [go_sem,simprocAttr,au,h1',h2',h3']
theorem word2_ev (s:Str) (k:Nat) (hs:s.length≤1000000000) (hk:k≤s.length):evW code lib 143 [.flat (.string (S s)),.flat (.int .i64 (k:Nat))] [] []=some ([.flat (.string (S (wordE s k)))],false,[],[]):=by
 have hloop:=loop_run (body:=evC (evW code lib) big b_n11_word_0) (live:=[0,1,5]) (nb:=0) (fun j:Nat=>(⟨[(0,.flat (.string (S s))),(1,.flat (.int .i64 (j:Nat))),(5,.flat (.int .i64 (k:Nat)))],[],[],[]⟩:St))
  (whT s letB) 0 (fun j=>(.exit 0,⟨[(0,.flat (.string (S s))),(1,.flat (.int .i64 (j:Nat))),(5,.flat (.int .i64 (k:Nat)))],[],[],[]⟩)) (fun j=>j≤s.length) (fun j=>s.length - j) (fun j hj=>?_) (fun j hj=>?_) (fun j i hj h=>?_) (fun j=>by simp) (n:=s.length+1) k hk (by (try dsimp only);omega) (by unfold big;(try dsimp only);omega)
 ·rw [takeWhile_run s letB _ k (by omega) hk] at hloop
  have hn:=word_le hk
  unfold wordE at hn ⊢
  obtain ⟨n,hnn⟩:∃ n,k+((s.drop k).takeWhile letB).length=n:=⟨_,rfl⟩
  have htk:(s.take n).drop k=(s.drop k).takeWhile letB:=by
   rw [← hnn,List.drop_take,Nat.add_sub_cancel_left]
   exact (List.prefix_iff_eq_take.1 (List.takeWhile_prefix letB)).symm
  rw [hnn] at hloop hn
  have hkn:k≤n:=by omega
  refine evW_eq code_n11_word (Nat.le_of_ble_eq_true rfl) ?_
  simp (maxSteps:=999999) (disch:=first | assumption | omega) only [go_sem,simprocAttr,au,hloop,htk]
 ·by_cases hlt:j<s.length
  ·have hg:s[j]? =some s[j]:=List.getElem?_eq_getElem hlt
   obtain ⟨c,hc⟩:∃ c,s[j]=c:=⟨_,rfl⟩
   rw [hc] at hg
   simp only [whT,hg]
   unfold letB
   obtain ⟨n,hn⟩:∃ n,c.toNat=n:=⟨_,rfl⟩
   rw [hn]
   rcases Classical.em (97≤n) with a1 | a1<;>rcases Classical.em (n≤122) with a2 | a2<;>rcases Classical.em (48≤n) with a3 | a3<;>rcases Classical.em (n≤57) with a4 | a4
   all_goals first | (exfalso;omega) | skip
   all_goals
    simp (maxSteps:=999999) (disch:=first | assumption | omega) only [go_sem,simprocAttr,au,on_n11_word_0,hg,hn,outS]
  ·have hg:s[j]? =none:=List.getElem?_eq_none (by omega)
   simp only [whT,hg,outS]
   simp (maxSteps:=999999) (disch:=first | assumption | omega) only [go_sem,simprocAttr,au,on_n11_word_0,hg]
 ·simp (maxSteps:=999999) (disch:=first | assumption | omega) only [go_sem,simprocAttr,au]
 ·unfold whT at h
  split at h
  ·rename_i c hc
   have:=(List.getElem?_eq_some_iff.1 hc).1
   split at h
   ·cases h;(try dsimp only);omega
   ·cases h
  ·cases h
theorem blanks2_ev (s:Str) (k:Nat) (hs:s.length≤1000000000) (hk:k≤s.length):evW code lib 189 [.flat (.string (S s)),.flat (.int .i64 (k:Nat))] [] []=some ([.flat (.int .i64 ((k+(gapE s k).length:Nat)))],false,[],[]):=by
 have hloop:=loop_run (body:=evC (evW code lib) big b_n11_blanks_0) (live:=[0,1]) (nb:=0) (fun j:Nat=>(⟨[(0,.flat (.string (S s))),(1,.flat (.int .i64 (j:Nat)))],[],[],[]⟩:St))
  (whT s blankB) 0 (fun j=>(.exit 0,⟨[(1,.flat (.int .i64 (j:Nat)))],[],[],[]⟩)) (fun j=>j≤s.length) (fun j=>s.length - j) (fun j hj=>?_) (fun j hj=>?_) (fun j i hj h=>?_) (fun j=>by simp) (n:=s.length+1) k hk (by (try dsimp only);omega) (by unfold big;(try dsimp only);omega)
 ·rw [takeWhile_run s blankB _ k (by omega) hk] at hloop
  unfold gapE
  obtain ⟨n,hnn⟩:∃ n,k+((s.drop k).takeWhile blankB).length=n:=⟨_,rfl⟩
  rw [hnn] at hloop ⊢
  refine evW_eq code_n11_blanks (Nat.le_of_ble_eq_true rfl) ?_
  simp (maxSteps:=999999) (disch:=first | assumption | omega) only [go_sem,simprocAttr,au,hloop]
 ·by_cases hlt:j<s.length
  ·have hg:s[j]? =some s[j]:=List.getElem?_eq_getElem hlt
   obtain ⟨c,hc⟩:∃ c,s[j]=c:=⟨_,rfl⟩
   rw [hc] at hg
   simp only [whT,hg]
   unfold blankB
   obtain ⟨n,hn⟩:∃ n,c.toNat=n:=⟨_,rfl⟩
   rw [hn]
   rcases Classical.em (n=32) with a1 | a1<;>rcases Classical.em (n=9) with a2 | a2<;>rcases Classical.em (n=10) with a3 | a3
   all_goals first | (exfalso;omega) | skip
   all_goals
    first | have b1:=eq_false a1 | have b1:=eq_true a1
    first | have b2:=eq_false a2 | have b2:=eq_true a2
    first | have b3:=eq_false a3 | have b3:=eq_true a3
    simp (maxSteps:=999999) (disch:=first | assumption | omega) only [go_sem,simprocAttr,au,on_n11_blanks_0,hg,hn,b1,b2,b3,outS]
  ·have hg:s[j]? =none:=List.getElem?_eq_none (by omega)
   simp only [whT,hg,outS]
   simp (maxSteps:=999999) (disch:=first | assumption | omega) only [go_sem,simprocAttr,au,on_n11_blanks_0,hg]
 ·simp (maxSteps:=999999) (disch:=first | assumption | omega) only [go_sem,simprocAttr,au]
 ·unfold whT at h
  split at h
  ·rename_i c hc
   have:=(List.getElem?_eq_some_iff.1 hc).1
   split at h
   ·cases h;(try dsimp only);omega
   ·cases h
  ·cases h
theorem says2_ev (s:Str) (en bd:UInt8) (k:Nat) (hs:s.length≤100000000) (hk:k≤s.length):evW code lib 141 [.flat (.string (S s)),.flat (.int .i64 (k:Nat)),.flat (.int .u8 en.toNat),.flat (.int .u8 bd.toNat)] [] []=match saysE s en bd k with
 | some (x,p)=>some ([.flat (.string (S x)),.flat (.int .i64 (p:Nat)),.flat (.bool true)],false,[],[])
 | none=>some ([.flat (.string (S [])),.flat (.int .i64 0),.flat (.bool false)],false,[],[]):=by
 have hz:(⟨#[]⟩:ByteArray)=S []:=rfl
 have hloop:=loop_run (body:=evC (evW code lib) big b_n11_says_0) (live:=[0,1,2,3,11]) (nb:=0) (fun q:Str × Nat=>(⟨[(0,.flat (.string (S s))),(1,.flat (.int .i64 (q.2:Nat))),(2,.flat (.int .u8 en.toNat)),(3,.flat (.int .u8 bd.toNat)),(11,.flat (.string (S q.1)))],[],[],[]⟩:St))
  (saysT s en bd) none (fun q=>match q with
    | some x=>(.exit 0,⟨[(1,.flat (.int .i64 (x.2:Nat))),(11,.flat (.string (S x.1)))],[],[],[]⟩)
    | none=>(.ret,⟨[(8,.flat (.string (S []))),(9,.flat (.int .i64 0)),(10,.flat (.bool false))],[],[],[]⟩)) (fun a=>a.2≤s.length∧k≤a.2∧a.1.length≤4 * (a.2 - k)) (fun a=>s.length - a.2) (fun ⟨out,j⟩ hi=>?_) (fun ⟨out,j⟩ hi=>?_) (fun a c hi h=>saysT_in k a c hi h) (fun q=>by cases q<;>simp) (n:=s.length+1) ([],k) ⟨hk,Nat.le_refl _,by simp⟩ (by dsimp only;omega) (by unfold big;dsimp only;omega)
 ·have hsaysE:runS (saysT s en bd) none (s.length+1) ([],k)=saysE s en bd k:=rfl
  rw [hsaysE] at hloop
  cases hE:saysE s en bd k with
  | none =>
    rw [hE] at hloop
    dsimp only at hloop ⊢
    refine evW_eq code_n11_says (Nat.le_of_ble_eq_true rfl) ?_
    simp (maxSteps:=999999) (disch:=first | assumption | omega) only [go_sem,simprocAttr,au,hz,hloop]
  | some q =>
    rw [hE] at hloop
    dsimp only at hloop ⊢
    refine evW_eq code_n11_says (Nat.le_of_ble_eq_true rfl) ?_
    simp (maxSteps:=999999) (disch:=first | assumption | omega) only [go_sem,simprocAttr,au,hz,hloop]
 ·dsimp only at hi ⊢
  by_cases hlt1:j<s.length
  ·have hg:s[j]? =some s[j]:=List.getElem?_eq_getElem hlt1
   obtain ⟨c,hc⟩:∃ c,s[j]=c:=⟨_,rfl⟩
   rw [hc] at hg
   unfold saysT
   simp only [hg]
   by_cases h1:c=en
   ·have h1':(c.toNat=en.toNat)=True:=eq_true (congrArg UInt8.toNat h1)
    rw [if_pos h1]
    simp only [outS]
    simp (maxSteps:=999999) (disch:=first | assumption | omega) only [go_sem,simprocAttr,au,on_n11_says_0,hg,h1']
   ·have h1':(c.toNat=en.toNat)=False:=eq_false fun h=>h1 (UInt8.toNat_inj.1 h)
    rw [if_neg h1]
    by_cases h2:c=bd
    ·have h2':(c.toNat=bd.toNat)=True:=eq_true (congrArg UInt8.toNat h2)
     rw [if_pos h2]
     simp only [outS]
     simp (maxSteps:=999999) (disch:=first | assumption | omega) only [go_sem,simprocAttr,au,hz,on_n11_says_0,hg,h1',h2']
    ·have h2':(c.toNat=bd.toNat)=False:=eq_false fun h=>h2 (UInt8.toNat_inj.1 h)
     rw [if_neg h2]
     by_cases h3:c=38
     ·have h3':(c.toNat=38)=True:=eq_true (by rw [h3];rfl)
      rw [if_pos h3]
      have hO:=one2_ev (lib:=lib) s j (by omega) hi.1
      cases hE:oneE (s.drop j) with
      | none =>
        rw [hE] at hO
        simp only [outS] at hO ⊢
        simp (maxSteps:=999999) (disch:=first | assumption | omega) only [go_sem,simprocAttr,au,hz,on_n11_says_0,hg,h1',h2',h3',hO]
      | some q =>
        obtain ⟨x,n⟩:=q
        rw [hE] at hO
        have hx:=oneE_len hE
        rw [List.length_drop] at hx
        dsimp only at hx
        have hbd:out.length+x.length≤bound:=by unfold bound;omega
        simp only [outS] at hO ⊢
        simp (maxSteps:=999999) (disch:=first | assumption | omega) only [go_sem,simprocAttr,au,hz,on_n11_says_0,hg,h1',h2',h3',hO,hbd]
     ·have h3':(c.toNat=38)=False:=eq_false fun h=>h3 (UInt8.toNat_inj.1 h)
      rw [if_neg h3]
      have hd:s.drop j=s[j]::s.drop (j+1):=List.drop_eq_getElem_cons hlt1
      have hsl:(s.take (j+1)).drop j=[c]:=by
       rw [List.drop_take,hd,hc,Nat.add_sub_cancel_left];rfl
      have hbd:out.length+1≤bound:=by unfold bound;omega
      simp only [outS]
      simp (maxSteps:=999999) (disch:=first | assumption | omega) only [go_sem,simprocAttr,au,hz,on_n11_says_0,hg,h1',h2',h3',hsl,hbd]
  ·have hg:s[j]? =none:=List.getElem?_eq_none (by omega)
   unfold saysT
   simp only [hg,outS]
   simp (maxSteps:=999999) (disch:=first | assumption | omega) only [go_sem,simprocAttr,au,on_n11_says_0,hg]
 ·simp (maxSteps:=999999) (disch:=first | assumption | omega) only [go_sem,simprocAttr,au]
def bR (l:List Att) (w:Str) (k to:Nat):List PV:=tcell ⟨111,w,[],l,k,to⟩
theorem dup2_ev (s w:Str) (k k1:Nat) (a:Att) (l:List Att) (hl:l.length≤1000000000) (X:List PV) :
 evLoop (evC (evW code lib) big b_n11_opening_1) [0,4,6,7,8,9] 3 big ⟨[(0,.flat (.string (S s))),(4,.ptr 0 0),(6,.ptr 1 0),(7,.flat (.int .i64 (k1:Nat))),(8,.ptr 2 0),(9,.flat (.int .i64 0))],[.cell 1 3,.cell 0 3],[],[(137,tcell Z0),(137,bR l w k 0),(210,acell a)]⟩ =
 some (if l.any (fun c=>decide (c.name=a.name)) then (.ret,⟨[(4,.ptr 0 0),(5,.flat (.bool false))],[.cell 1 3],[],[(137,bR l w k 0),(137,bR l w k 0),(210,acell a)]⟩)
  else (.exit 2,⟨[(0,.flat (.string (S s))),(4,.ptr 0 0),(6,.ptr 1 0),(7,.flat (.int .i64 (k1:Nat))),(8,.ptr 2 0)],[.cell 1 3,.cell 0 3],[],[(137,tcell Z0),(137,bR l w k 0),(210,acell a)]⟩)):=by
 have hloop:=loop_at (body:=evC (evW code lib) big b_n11_opening_1) (live:=[0,4,6,7,8,9]) (nb:=3) (fun (_:Unit) i=>⟨[(0,.flat (.string (S s))),(4,.ptr 0 0),(6,.ptr 1 0),(7,.flat (.int .i64 (k1:Nat))),(8,.ptr 2 0),(9,.flat (.int .i64 (i:Nat)))],[.cell 1 3,.cell 0 3],[],[(137,tcell Z0),(137,bR l w k 0),(210,acell a)]⟩) l (fun _ _=>True)
  (fun _ i x=>if decide (x.name=a.name) then .inr (.ret,⟨[(4,.ptr 0 0),(5,.flat (.bool false))],[.cell 1 3],[],[(137,bR l w k 0),(137,bR l w k 0),(210,acell a)]⟩) else .inl ()) (fun _=>(.exit 2,⟨[(0,.flat (.string (S s))),(4,.ptr 0 0),(6,.ptr 1 0),(7,.flat (.int .i64 (k1:Nat))),(8,.ptr 2 0)],[.cell 1 3,.cell 0 3],[],[(137,tcell Z0),(137,bR l w k 0),(210,acell a)]⟩)) (fun _ i x _ hk hc hd=>?_) (fun _ _=>by simp only [go_sem,simprocAttr]) (fun _ _ _ _ _ _ _ _=>trivial) (fun _ _ x r h=>by split at h<;>simp at h;rw [← h];simp) (fun _ _=>?_) (fun _=>by simp) () trivial (by unfold big;omega)
 ·simp only [n0] at hloop
  rw [hloop]
  rcases walk_idf (p:=fun x=>decide (x.name=a.name)) (fin:=fun _=>(.exit 2,⟨[(0,.flat (.string (S s))),(4,.ptr 0 0),(6,.ptr 1 0),(7,.flat (.int .i64 (k1:Nat))),(8,.ptr 2 0)],[.cell 1 3,.cell 0 3],[],[(137,tcell Z0),(137,bR l w k 0),(210,acell a)]⟩)) (g:=fun _=>(.ret,⟨[(4,.ptr 0 0),(5,.flat (.bool false))],[.cell 1 3],[],[(137,bR l w k 0),(137,bR l w k 0),(210,acell a)]⟩)) l 0 with ⟨h1,h2⟩ | ⟨h1,j,h2,h3⟩
  ·rw [h2,h1];rfl
  ·rw [h3,h1];rfl
 ·have hsd:=acells_at hc
  simp only [acell,List.cons_append,List.nil_append] at hsd ⊢
  simp only [bR,tcell]
  have ez0:tcell Z0=[.flat (.int .u8 0),.flat (.string (S [])),.flat (.string (S [])),.slc 0 [],.flat (.int .i64 0),.flat (.int .i64 0)]:=rfl
  by_cases h:x.name=a.name
  ·have h':(x.name=a.name)=True:=eq_true h
   simp only [h',decide_true,if_true]
   simp (maxSteps:=999999) (disch:=first | assumption | omega) only [go_sem,simprocAttr,au,on_n11_opening_1,hsd,h',acells_len,acells_low,ez0]
  ·have h':(x.name=a.name)=False:=eq_false h
   simp only [h',decide_false,Bool.false_eq_true,if_false]
   simp (maxSteps:=999999) (disch:=first | assumption | omega) only [go_sem,simprocAttr,au,on_n11_opening_1,hsd,h',acells_len,acells_low,ez0]
 ·simp only [bR,tcell,acell]
  simp (maxSteps:=999999) (disch:=first | assumption | omega) only [go_sem,simprocAttr,au,on_n11_opening_1]
theorem openT_0 {s:Str} {l:List Att} {k:Nat} (h0:(gapE s k).length=0) (hp:beginsU s [62] (k+(gapE s k).length)=false):openT s (l,k)=.inr none:=by
 unfold openT
 dsimp only
 rw [if_neg (by rw [hp];simp)]
 cases attE s (k+(gapE s k).length) with
 | none=>rfl
 | some q=>dsimp only;rw [if_pos (.inl h0)]
set_option maxHeartbeats 4000000 in
theorem opening2_round (s w:Str) (hs:s.length≤100000000) (fr:Nat) (l:List Att) (k:Nat) (hk:k≤s.length) (hl:l.length≤k) :
 match openT s (l,k) with
 | .inl c=>evC (evW code lib) big b_n11_opening_0 ⟨[(0,.flat (.string (S s))),(1,.flat (.int .i64 (k:Nat))),(4,.ptr 0 0),(6,.ptr 1 0)],[.cell 1 3,.cell 0 3],[],[(137,tcell Z0),(137,bR l w fr 0)]⟩=some (.normal,⟨[(0,.flat (.string (S s))),(1,.flat (.int .i64 (c.2:Nat))),(4,.ptr 0 0),(6,.ptr 1 0)],[.cell 1 3,.cell 0 3],[],[(137,tcell Z0),(137,bR c.1 w fr 0)]⟩)
 | .inr (some c)=>evC (evW code lib) big b_n11_opening_0 ⟨[(0,.flat (.string (S s))),(1,.flat (.int .i64 (k:Nat))),(4,.ptr 0 0),(6,.ptr 1 0)],[.cell 1 3,.cell 0 3],[],[(137,tcell Z0),(137,bR l w fr 0)]⟩=some (.ret,⟨[(4,.ptr 0 0),(5,.flat (.bool true))],[.cell 1 3],[],[(137,bR c.1 w fr c.2),(137,bR c.1 w fr c.2)]⟩)
 | .inr none=>∃ t ys,evC (evW code lib) big b_n11_opening_0 ⟨[(0,.flat (.string (S s))),(1,.flat (.int .i64 (k:Nat))),(4,.ptr 0 0),(6,.ptr 1 0)],[.cell 1 3,.cell 0 3],[],[(137,tcell Z0),(137,bR l w fr 0)]⟩=some (.ret,⟨[(4,.ptr 0 0),(5,.flat (.bool false))],[.cell 1 3],[],(137,tcell t)::ys⟩):=by
 have hz:(⟨#[]⟩:ByteArray)=S []:=rfl
 have ez0:tcell Z0=[.flat (.int .u8 0),.flat (.string (S [])),.flat (.string (S [])),.slc 0 [],.flat (.int .i64 0),.flat (.int .i64 0)]:=rfl
 have e111:((UInt8.toNat 111:Nat):Int)=111:=rfl
 have e34:((UInt8.toNat 34:Nat):Int)=34:=rfl
 have e60:((UInt8.toNat 60:Nat):Int)=60:=rfl
 have hgl:=gap_le hk
 have hG:=blanks2_ev (lib:=lib) s k (by omega) hk
 have hT0:=@openT_0 s l k
 have hoT:openT s (l,k)=(if beginsU s [62] (k+(gapE s k).length) then .inr (some (l,k+(gapE s k).length+1))
  else match attE s (k+(gapE s k).length) with
  | none=>.inr none
  | some (a,e)=>if (gapE s k).length=0∨(l.any fun b=>decide (b.name=a.name))=true then .inr none else .inl (l++[a],e)):=rfl
 obtain ⟨g,hg⟩:∃ g,gapE s k=g:=⟨_,rfl⟩
 rw [hg] at hG hgl hT0 hoT
 obtain ⟨k1,hk1⟩:∃ k1,k+g.length=k1:=⟨_,rfl⟩
 rw [hk1] at hG hgl hT0 hoT
 have hT:=begins2_ev (lib:=lib) s [62] k1 (by omega) (by decide) (by omega)
 have hwl:=word_le hgl
 have hW:=word2_ev (lib:=lib) s k1 (by omega) hgl
 have hI:=in2_ev (lib:=lib) attrsE (wordE s k1) (by decide)
 have hat:=attrs2_ev (lib:=lib)
 have hEq:=begins2_ev (lib:=lib) s [61,34] (k1+(wordE s k1).length) (by omega) (by decide) (by omega)
 unfold attE at hoT
 obtain ⟨x,hx⟩:∃ x,wordE s k1=x:=⟨_,rfl⟩
 rw [hx] at hW hI hEq hwl hoT
 obtain ⟨k2,hk2⟩:∃ k2,k1+x.length=k2:=⟨_,rfl⟩
 rw [hk2] at hEq hwl hoT
 have ek2:(k1:Int)+(x.length:Int)=(k2:Nat):=by omega
 simp only [bR,tcell,n0,e111]
 cases hp:beginsU s [62] k1 with
 | true =>
   rw [hp] at hT hoT
   simp only [if_true] at hoT
   rw [hoT]
   dsimp only
   simp (maxSteps:=999999) (disch:=first | assumption | omega) only [go_sem,simprocAttr,au,on_n11_opening_0,hz,ez0,hG,hT,acells_len,acells_low]
 | false =>
   rw [hp] at hT
   by_cases hg0:g.length=0
   ·have hg1:(k1=k)=True:=eq_true (by omega)
    rw [hT0 hg0 hp]
    dsimp only
    refine ⟨⟨111,w,[],l,fr,0⟩,[(137,tcell ⟨111,w,[],l,fr,0⟩),(210,acell ⟨x,[],0,0⟩)],?_⟩
    simp only [tcell,acell,e111,n0]
    simp (maxSteps:=999999) (disch:=first | assumption | omega) only [go_sem,simprocAttr,au,on_n11_opening_0,hz,ez0,hG,hT,hW,hg1,acells_len,acells_low]
   ·have hg1:(k1=k)=False:=eq_false (by omega)
    rw [hp] at hoT
    simp only [Bool.false_eq_true,if_false,hg0,false_or] at hoT
    rw [hoT]
    cases hc1:attrsE.contains x with
    | false =>
      rw [hc1] at hI
      simp only [Bool.false_and,Bool.false_eq_true,if_false]
      refine ⟨⟨111,w,[],l,fr,0⟩,[(137,tcell ⟨111,w,[],l,fr,0⟩),(210,acell ⟨x,[],0,0⟩)],?_⟩
      simp only [tcell,acell,e111,n0]
      simp (maxSteps:=999999) (disch:=first | assumption | omega) only [go_sem,simprocAttr,au,on_n11_opening_0,hz,ez0,hG,hT,hW,hI,hat,hg1,scells_np,acells_len,acells_low]
    | true =>
      rw [hc1] at hI
      simp only [Bool.true_and]
      cases hp2:beginsU s [61,34] k2 with
      | false =>
        rw [hp2] at hEq
        simp only [Bool.false_eq_true,if_false]
        refine ⟨⟨111,w,[],l,fr,0⟩,[(137,tcell ⟨111,w,[],l,fr,0⟩),(210,acell ⟨x,[],0,0⟩)],?_⟩
        simp only [tcell,acell,e111,n0]
        simp (maxSteps:=999999) (disch:=first | assumption | omega) only [go_sem,simprocAttr,au,on_n11_opening_0,hz,ez0,hG,hT,hW,hI,hat,hEq,ek2,hg1,scells_np,acells_len,acells_low]
      | true =>
        rw [hp2] at hEq
        have h2:=pre_le hwl (by rw [← begins_pre hwl];exact hp2)
        simp only [List.length_cons,List.length_nil,Nat.zero_add,Nat.reduceAdd] at h2
        simp only [if_true]
        obtain ⟨k3,hk3⟩:∃ k3,k2+2=k3:=⟨_,rfl⟩
        rw [hk3] at h2 ⊢
        have ek3:(k2:Int)+2=(k3:Nat):=by omega
        have hS:=says2_ev (lib:=lib) s 34 60 k3 hs h2
        rw [e34,e60] at hS
        have hD:=dup2_ev (lib:=lib) s w fr k1 ⟨x,[],0,0⟩ l (by omega) []
        simp only [bR,tcell,acell,e111,n0] at hD
        cases hE:saysE s 34 60 k3 with
        | none =>
          rw [hE] at hS
          cases hdup:l.any (fun c=>decide (c.name=x)) with
          | true =>
            simp only [hdup,if_true] at hD
            refine ⟨⟨111,w,[],l,fr,0⟩,[(137,tcell ⟨111,w,[],l,fr,0⟩),(210,acell ⟨x,[],0,0⟩)],?_⟩
            simp only [tcell,acell,e111,n0]
            simp (maxSteps:=999999) (disch:=first | assumption | omega) only [go_sem,simprocAttr,au,on_n11_opening_0,hz,ez0,hG,hT,hW,hI,hat,hEq,hD,ek2,hg1,scells_np,acells_len,acells_low]
          | false =>
            simp only [hdup,Bool.false_eq_true,if_false] at hD
            refine ⟨⟨111,w,[],l,fr,0⟩,[(137,tcell ⟨111,w,[],l,fr,0⟩),(210,acell ⟨x,[],k3,0⟩)],?_⟩
            simp only [tcell,acell,e111,n0]
            simp (maxSteps:=999999) (disch:=first | assumption | omega) only [go_sem,simprocAttr,au,on_n11_opening_0,hz,ez0,hG,hT,hW,hI,hat,hEq,hD,hS,ek2,ek3,hg1,scells_np,acells_len,acells_low]
        | some q =>
          obtain ⟨v,p⟩:=q
          rw [hE] at hS
          have hel:=saysE_len h2 hE
          dsimp only at hS hel ⊢
          by_cases hpl:p<s.length
          ·simp only [hpl,if_true]
           cases hdup:l.any (fun c=>decide (c.name=x)) with
           | true =>
             simp only [hdup,if_true] at hD ⊢
             refine ⟨⟨111,w,[],l,fr,0⟩,[(137,tcell ⟨111,w,[],l,fr,0⟩),(210,acell ⟨x,[],0,0⟩)],?_⟩
             simp only [tcell,acell,e111,n0]
             simp (maxSteps:=999999) (disch:=first | assumption | omega) only [go_sem,simprocAttr,au,on_n11_opening_0,hz,ez0,hG,hT,hW,hI,hat,hEq,hD,ek2,hg1,scells_np,acells_len,acells_low]
           | false =>
             simp only [hdup,Bool.false_eq_true,if_false] at hD ⊢
             have hac:acells l++[PV.flat (.string (S x)),.flat (.string (S v)),.flat (.int .i64 (k3:Nat)),.flat (.int .i64 (p:Nat))]=acells (l++[⟨x,v,k3,p⟩]):=by rw [← acells_app];rfl
             have hbd:l.length+1≤bound:=by unfold bound;omega
             simp (maxSteps:=999999) (disch:=first | assumption | omega) only [go_sem,simprocAttr,au,on_n11_opening_0,hz,ez0,hG,hT,hW,hI,hat,hEq,hD,hS,ek2,ek3,hg1,scells_np,acells_len,acells_low,hac,hbd,List.length_append]
          ·simp only [hpl,if_false]
           cases hdup:l.any (fun c=>decide (c.name=x)) with
           | true =>
             simp only [hdup,if_true] at hD
             refine ⟨⟨111,w,[],l,fr,0⟩,[(137,tcell ⟨111,w,[],l,fr,0⟩),(210,acell ⟨x,[],0,0⟩)],?_⟩
             simp only [tcell,acell,e111,n0]
             simp (maxSteps:=999999) (disch:=first | assumption | omega) only [go_sem,simprocAttr,au,on_n11_opening_0,hz,ez0,hG,hT,hW,hI,hat,hEq,hD,ek2,hg1,scells_np,acells_len,acells_low]
           | false =>
             simp only [hdup,Bool.false_eq_true,if_false] at hD
             refine ⟨⟨111,w,[],l,fr,0⟩,[(137,tcell ⟨111,w,[],l,fr,0⟩),(210,acell ⟨x,[],k3,0⟩)],?_⟩
             simp only [tcell,acell,e111,n0]
             simp (maxSteps:=999999) (disch:=first | assumption | omega) only [go_sem,simprocAttr,au,on_n11_opening_0,hz,ez0,hG,hT,hW,hI,hat,hEq,hD,hS,ek2,ek3,hg1,scells_np,acells_len,acells_low]
theorem opening2_ev (s:Str) (hs:s.length≤100000000) (fr:Nat) (hk:fr+1≤s.length) :
 match (if elemsE.contains (wordE s (fr+1)) then openE s (fr+1+(wordE s (fr+1)).length) else none) with
 | some (l,p)=>evW code lib 142 [.flat (.string (S s)),.flat (.int .i64 (fr:Nat))] [] []=some ([.agg (tcell ⟨111,wordE s (fr+1),[],l,fr,p⟩),.flat (.bool true)],false,[],[])
 | none=>∃ t,evW code lib 142 [.flat (.string (S s)),.flat (.int .i64 (fr:Nat))] [] []=some ([.agg (tcell t),.flat (.bool false)],false,[],[]):=by
 have hz:(⟨#[]⟩:ByteArray)=S []:=rfl
 have ez0:tcell Z0=[.flat (.int .u8 0),.flat (.string (S [])),.flat (.string (S [])),.slc 0 [],.flat (.int .i64 0),.flat (.int .i64 0)]:=rfl
 have e111:((UInt8.toNat 111:Nat):Int)=111:=rfl
 have hW:=word2_ev (lib:=lib) s (fr+1) (by omega) hk
 have hI:=in2_ev (lib:=lib) elemsE (wordE s (fr+1)) (by decide)
 have hna:=names2_ev (lib:=lib)
 have hwl:=word_le hk
 simp only [Int.natCast_add,Int.natCast_one] at hW
 obtain ⟨w,hw⟩:∃ w,wordE s (fr+1)=w:=⟨_,rfl⟩
 rw [hw] at hW hI hwl ⊢
 cases hc1:elemsE.contains w with
 | false =>
   rw [hc1] at hI
   simp only [Bool.false_eq_true,if_false]
   refine ⟨⟨111,w,[],[],fr,0⟩,?_⟩
   simp only [tcell,acells,List.flatMap_nil,List.length_nil,e111,n0]
   refine evW_eq code_n11_opening (Nat.le_of_ble_eq_true rfl) ?_
   simp (maxSteps:=999999) (disch:=first | assumption | omega) only [go_sem,simprocAttr,au,hz,ez0,hW,hI,hna,scells_np]
 | true =>
   rw [hc1] at hI
   simp only [if_true]
   have hrel:=loop_rel (body:=evC (evW code lib) big b_n11_opening_0) (live:=[0,1,4,6]) (nb:=2)
    (fun (_:Unit) (q:List Att × Nat)=>(⟨[(0,.flat (.string (S s))),(1,.flat (.int .i64 (q.2:Nat))),(4,.ptr 0 0),(6,.ptr 1 0)],[.cell 1 3,.cell 0 3],[],[(137,tcell Z0),(137,bR q.1 w fr 0)]⟩:St))
    (openT s) none (fun a o st=>match a with
      | some c=>o=.ret∧st=⟨[(4,.ptr 0 0),(5,.flat (.bool true))],[.cell 1 3],[],[(137,bR c.1 w fr c.2),(137,bR c.1 w fr c.2)]⟩
      | none=>o=.ret∧∃ t ys,st=⟨[(4,.ptr 0 0),(5,.flat (.bool false))],[.cell 1 3],[],(137,tcell t)::ys⟩)
    (fun a=>a.2≤s.length∧a.1.length≤a.2) (fun a=>s.length - a.2) (fun _ ⟨l,j⟩ hi=>?_) (fun _ ⟨l,j⟩ hi=>?_) (fun a c hi h=>openT_in a c hi h) (n:=s.length+1) (m:=big) () ([],fr+1+w.length) ⟨hwl,Nat.zero_le _⟩ (by dsimp only;omega) (by unfold big;dsimp only;omega)
   ·obtain ⟨o,st,hl,hq⟩:=hrel
    have hopenE:runS (openT s) none (s.length+1) ([],fr+1+w.length)=openE s (fr+1+w.length):=rfl
    rw [hopenE] at hq
    simp only [ez0,bR] at hl
    simp only [tcell,e111,n0,acells,List.flatMap_nil,List.length_nil,Int.natCast_add,Int.natCast_one] at hl
    cases hE:openE s (fr+1+w.length) with
    | some c =>
      rw [hE] at hq
      obtain ⟨rfl,rfl⟩:=hq
      dsimp only
      refine evW_eq code_n11_opening (Nat.le_of_ble_eq_true rfl) ?_
      simp only [bR,tcell,e111] at hl ⊢
      simp (maxSteps:=999999) (disch:=first | assumption | omega) only [go_sem,simprocAttr,au,hz,ez0,hW,hI,hna,hl,scells_np,acells_low,acells_np]
    | none =>
      rw [hE] at hq
      obtain ⟨rfl,t,ys,rfl⟩:=hq
      dsimp only
      refine ⟨t,?_⟩
      refine evW_eq code_n11_opening (Nat.le_of_ble_eq_true rfl) ?_
      simp only [bR,tcell,e111] at hl ⊢
      simp (maxSteps:=999999) (disch:=first | assumption | omega) only [go_sem,simprocAttr,au,hz,ez0,hW,hI,hna,hl,scells_np,acells_low,acells_np]
   ·have:=opening2_round (lib:=lib) s w hs fr l j hi.1 hi.2
    cases hst:openT s (l,j) with
    | inl c=>rw [hst] at this;exact ⟨(),this⟩
    | inr c =>
      rw [hst] at this
      cases c with
      | none =>
        obtain ⟨t,ys,h4⟩:=this
        exact ⟨_,_,h4,by simp,rfl,t,ys,rfl⟩
      | some c=>exact ⟨_,_,this,by simp,rfl,rfl⟩
   ·simp (maxSteps:=999999) (disch:=first | assumption | omega) only [go_sem,simprocAttr,au]
theorem one2t_ev (s:Str) (hs:s.length≤100000000) (k:Nat) (hk:k<s.length) :
 match nextE s k with
 | some t=>evW code lib 89 [.flat (.string (S s)),.flat (.int .i64 (k:Nat))] [] []=some ([.agg (tcell t),.flat (.bool true)],false,[],[])
 | none=>∃ t,evW code lib 89 [.flat (.string (S s)),.flat (.int .i64 (k:Nat))] [] []=some ([.agg (tcell t),.flat (.bool false)],false,[],[]):=by
 have hz:(⟨#[]⟩:ByteArray)=S []:=rfl
 have ez0:tcell Z0=[.flat (.int .u8 0),.flat (.string (S [])),.flat (.string (S [])),.slc 0 [],.flat (.int .i64 0),.flat (.int .i64 0)]:=rfl
 have e99:((UInt8.toNat 99:Nat):Int)=99:=rfl
 have e116:((UInt8.toNat 116:Nat):Int)=116:=rfl
 have e60:((UInt8.toNat 60:Nat):Int)=60:=rfl
 have e62:((UInt8.toNat 62:Nat):Int)=62:=rfl
 have hg:s[k]? =some s[k]:=List.getElem?_eq_getElem hk
 obtain ⟨c,hc⟩:∃ c,s[k]=c:=⟨_,rfl⟩
 rw [hc] at hg
 have hkl:k≤s.length:=by omega
 have hp60:beginsU s [60] k=decide (c.toNat=60):=by
  rw [begins_pre hkl,pre_1,hg,decide_eq_decide,Option.some.injEq]
  exact ⟨fun h=>by rw [h];rfl,fun h=>UInt8.toNat_inj.1 h⟩
 have hB:=begins2_ev (lib:=lib) s [60,47] k (by omega) (by decide) (by omega)
 unfold nextE
 cases hp1:beginsU s [60,47] k with
 | true =>
   rw [hp1] at hB
   have h60:(c.toNat=60)=True:=eq_true (by
    have h:=hp1
    rw [begins_pre hkl] at h
    have hd:s.drop k=s[k]::s.drop (k+1):=List.drop_eq_getElem_cons hk
    rw [hd,hc] at h
    simp only [List.isPrefixOf,Bool.and_eq_true,beq_iff_eq] at h
    rw [← h.1];rfl)
   have h2:=pre_le hkl (by rw [← begins_pre hkl];exact hp1)
   simp only [if_true,List.length_cons,List.length_nil,Nat.zero_add,Nat.reduceAdd] at h2 ⊢
   have hW:=word2_ev (lib:=lib) s (k+2) (by omega) h2
   have h3:=word_le h2
   have hI:=in2_ev (lib:=lib) elemsE (wordE s (k+2)) (by decide)
   have hV:=void2_ev (lib:=lib) (wordE s (k+2))
   have hna:=names2_ev (lib:=lib)
   have hT:=begins2_ev (lib:=lib) s [62] (k+2+(wordE s (k+2)).length) (by omega) (by decide) (by omega)
   simp only [Int.natCast_add,Int.cast_ofNat_Int] at hW hT
   obtain ⟨w,hw⟩:∃ w,wordE s (k+2)=w:=⟨_,rfl⟩
   rw [hw] at hW hI hV hT h3 ⊢
   have e2:((2:Nat):Int)=2:=rfl
   have e5:k+2+w.length+1=k+(2+w.length+1):=by omega
   cases hc1:elemsE.contains w with
   | false =>
     rw [hc1] at hI
     simp only [Bool.false_and,Bool.false_eq_true,if_false]
     refine ⟨⟨99,w,[],[],k,k+2+w.length+1⟩,?_⟩
     simp only [tcell,e99,acells,List.flatMap_nil,List.length_nil]
     refine evW_eq code_n11_one (Nat.le_of_ble_eq_true rfl) ?_
     simp (maxSteps:=999999) (disch:=first | assumption | omega) only [go_sem,simprocAttr,au,hz,hg,h60,hB,hW,hI,hna,e2,scells_np]
   | true =>
     rw [hc1] at hI
     cases hc2:voidE w with
     | true =>
       rw [hc2] at hV
       simp only [Bool.not_true,Bool.false_and,Bool.and_false,Bool.false_eq_true,if_false]
       refine ⟨⟨99,w,[],[],k,k+2+w.length+1⟩,?_⟩
       simp only [tcell,e99,acells,List.flatMap_nil,List.length_nil]
       refine evW_eq code_n11_one (Nat.le_of_ble_eq_true rfl) ?_
       simp (maxSteps:=999999) (disch:=first | assumption | omega) only [go_sem,simprocAttr,au,hz,hg,h60,hB,hW,hI,hV,hna,e2,scells_np]
     | false =>
       rw [hc2] at hV
       cases hp3:beginsU s [62] (k+2+w.length) with
       | false =>
         rw [hp3] at hT
         simp only [Bool.not_false,Bool.and_false,Bool.false_eq_true,if_false]
         refine ⟨⟨99,w,[],[],k,k+2+w.length+1⟩,?_⟩
         simp only [tcell,e99,acells,List.flatMap_nil,List.length_nil]
         refine evW_eq code_n11_one (Nat.le_of_ble_eq_true rfl) ?_
         simp (maxSteps:=999999) (disch:=first | assumption | omega) only [go_sem,simprocAttr,au,hz,hg,h60,hB,hW,hI,hV,hT,hna,e2,scells_np]
       | true =>
         rw [hp3] at hT
         simp only [Bool.not_false,Bool.and_self,if_true]
         simp only [tcell,e99,acells,List.flatMap_nil,List.length_nil]
         refine evW_eq code_n11_one (Nat.le_of_ble_eq_true rfl) ?_
         simp (maxSteps:=999999) (disch:=first | assumption | omega) only [go_sem,simprocAttr,au,hz,hg,h60,hB,hW,hI,hV,hT,hna,e2,scells_np]
 | false =>
   rw [hp1] at hB
   simp only [Bool.false_eq_true,if_false]
   rw [hp60]
   by_cases h6:c.toNat=60
   ·have h60:=eq_true h6
    have hO:=opening2_ev (lib:=lib) s hs k (by omega)
    simp only [h6,decide_true,if_true]
    obtain ⟨x,hx⟩:∃ x,(if elemsE.contains (wordE s (k+1)) then openE s (k+1+(wordE s (k+1)).length) else none)=x:=⟨_,rfl⟩
    have hgoal:(if elemsE.contains (wordE s (k+1)) then (openE s (k+1+(wordE s (k+1)).length)).map (fun q=>(⟨111,wordE s (k+1),[],q.1,k,q.2⟩:Tok)) else none)=x.map (fun q=>(⟨111,wordE s (k+1),[],q.1,k,q.2⟩:Tok)):=by
     rw [← hx];split<;>rfl
    rw [hgoal]
    rw [hx] at hO
    cases x with
    | none =>
      obtain ⟨t,hO⟩:=hO
      simp only [Option.map_none]
      refine ⟨t,?_⟩
      simp only [tcell] at hO ⊢
      refine evW_eq code_n11_one (Nat.le_of_ble_eq_true rfl) ?_
      simp (maxSteps:=999999) (disch:=first | assumption | omega) only [go_sem,simprocAttr,au,hz,hg,h60,hB,hO,acells_low,acells_np]
    | some q =>
      obtain ⟨l,p⟩:=q
      simp only [Option.map_some]
      simp only [tcell] at hO ⊢
      refine evW_eq code_n11_one (Nat.le_of_ble_eq_true rfl) ?_
      simp (maxSteps:=999999) (disch:=first | assumption | omega) only [go_sem,simprocAttr,au,hz,hg,h60,hB,hO,acells_low,acells_np]
   ·have h60:=eq_false h6
    have hS:=says2_ev (lib:=lib) s 60 62 k hs hkl
    rw [e60,e62] at hS
    simp only [h6,decide_false,Bool.false_eq_true,if_false]
    cases hE:saysE s 60 62 k with
    | none =>
      rw [hE] at hS
      simp only [Option.map_none]
      refine ⟨⟨116,[],[],[],k,0⟩,?_⟩
      simp only [tcell,e116,acells,List.flatMap_nil,List.length_nil,n0]
      refine evW_eq code_n11_one (Nat.le_of_ble_eq_true rfl) ?_
      simp (maxSteps:=999999) (disch:=first | assumption | omega) only [go_sem,simprocAttr,au,hz,hg,h60,hB,hS,acells_low,acells_np]
    | some q =>
      obtain ⟨x,p⟩:=q
      rw [hE] at hS
      simp only [Option.map_some]
      simp only [tcell,e116,acells,List.flatMap_nil,List.length_nil]
      refine evW_eq code_n11_one (Nat.le_of_ble_eq_true rfl) ?_
      simp (maxSteps:=999999) (disch:=first | assumption | omega) only [go_sem,simprocAttr,au,hz,hg,h60,hB,hS,acells_low,acells_np]
theorem tokens2_ev (s:Str) (hs:s.length≤100000000) :
 evW code lib 43 [.flat (.string (S s))] [] []=match toksE s with
 | some l=>some ([.slc l.length (tcells l),.flat (.int .i64 0)],false,[],[])
 | none=>some ([.slc 0 [],.flat (.int .i64 7)],false,[],[]):=by
 have hz:(⟨#[]⟩:ByteArray)=S []:=rfl
 have his:=is2_ev (lib:=lib) s (by unfold Sm;omega)
 have hrel:=loop_rel (body:=evC (evW code lib) big b_n11_Tokens_0) (live:=[0,4,5]) (nb:=0) (fun (_:Unit) (q:List Tok × Nat)=>(⟨[(0,.flat (.string (S s))),(4,.slc q.1.length (tcells q.1)),(5,.flat (.int .i64 (q.2:Nat)))],[.slot 4],[],[]⟩:St))
  (tokT s) none (fun q o st=>match q with
    | some l=>o=.exit 0∧st=⟨[(4,.slc l.length (tcells l))],[.slot 4],[],[]⟩
    | none=>o=.ret∧∃ y,st=⟨[(2,.slc 0 []),(3,.flat (.int .i64 7))],[.slot 2],[],[y]⟩) (fun q=>q.2≤s.length∧q.1.length≤q.2) (fun q=>s.length - q.2) (fun _ ⟨l,j⟩ hj=>?_) (fun _ ⟨l,j⟩ hj=>?_) (fun a c hi h=>tokT_in (fun k t=>nextE_le) a c hi h) (n:=s.length+1) (m:=big) () ([],0) ⟨Nat.zero_le _,Nat.le_refl _⟩ (by dsimp only;omega) (by unfold big;dsimp only;omega)
 ·unfold toksE
  cases hu:isU s with
  | false =>
    rw [hu] at his
    simp only [Bool.false_eq_true,if_false]
    refine evW_eq code_n11_Tokens (Nat.le_of_ble_eq_true rfl) ?_
    simp (maxSteps:=999999) (disch:=first | assumption | omega) only [go_sem,simprocAttr,au,hz,his]
  | true =>
    rw [hu] at his
    simp only [if_true]
    obtain ⟨o,st,hl,hq⟩:=hrel
    simp only [tcells,List.flatMap_nil,List.length_nil,n0] at hl
    cases hE:runS (tokT s) none (s.length+1) ([],0) with
    | some l =>
      rw [hE] at hq
      obtain ⟨rfl,rfl⟩:=hq
      refine evW_eq code_n11_Tokens (Nat.le_of_ble_eq_true rfl) ?_
      simp (maxSteps:=999999) (disch:=first | assumption | omega) only [go_sem,simprocAttr,au,hz,his,hl,tcells_low]
    | none =>
      rw [hE] at hq
      obtain ⟨rfl,y,rfl⟩:=hq
      refine evW_eq code_n11_Tokens (Nat.le_of_ble_eq_true rfl) ?_
      simp (maxSteps:=999999) (disch:=first | assumption | omega) only [go_sem,simprocAttr,au,hz,his,hl,tcells_low]
 ·dsimp only at hj ⊢
  unfold tokT
  dsimp only
  by_cases hlt:s.length≤j
  ·simp only [hlt,if_true]
   refine ⟨.exit 0,⟨[(4,.slc l.length (tcells l))],[.slot 4],[],[]⟩,?_,by simp,rfl,rfl⟩
   simp (maxSteps:=999999) (disch:=first | assumption | omega) only [go_sem,simprocAttr,au,on_n11_Tokens_0]
  ·simp only [hlt,if_false]
   have hN:=one2t_ev (lib:=lib) s hs j (by omega)
   cases hE:nextE s j with
   | none =>
     rw [hE] at hN
     obtain ⟨t,hN⟩:=hN
     refine ⟨.ret,⟨[(2,.slc 0 []),(3,.flat (.int .i64 7))],[.slot 2],[],[(137,tcell t)]⟩,?_,by simp,rfl,_,rfl⟩
     simp only [tcell] at hN ⊢
     simp (maxSteps:=999999) (disch:=first | assumption | omega) only [go_sem,simprocAttr,au,on_n11_Tokens_0,hN,acells_low,acells_np]
   | some t =>
     rw [hE] at hN
     refine ⟨(),?_⟩
     simp only [tcell] at hN ⊢
     have hbd:l.length+1≤bound:=by unfold bound;omega
     have hac:tcells l++[.flat (.int .u8 t.kind.toNat),.flat (.string (S t.name)),.flat (.string (S t.text)),.slc t.attrs.length (acells t.attrs),.flat (.int .i64 (t.fr:Nat)),.flat (.int .i64 (t.to:Nat))]=tcells (l++[t]):=by rw [← tcells_app];rfl
     simp (maxSteps:=999999) (disch:=first | assumption | omega) only [go_sem,simprocAttr,au,on_n11_Tokens_0,hN,hbd,hac,tcells_len,acells_low,acells_np,tcells_low,List.length_append]
 ·simp (maxSteps:=999999) (disch:=first | assumption | omega) only [go_sem,simprocAttr,au]
def nestT (t:Tok) (op:List Str):Option (List Str) :=
 if t.kind.toNat=111∧voidE t.name=false then (if 32<op.length+1 then none else some (op++[t.name]))
 else if t.kind.toNat=99 then (if op.getLast? =some t.name then some op.dropLast else none) else some op
def nestS (L:List Tok) (q:List Str × Nat):(List Str × Nat) ⊕ Option (List Str):=match L[q.2]? with
 | none=>.inr (some q.1)
 | some t=>match nestT t q.1 with
   | none=>.inr none
   | some op=>.inl (op,q.2+1)
def nestE (L:List Tok):Bool:=decide (runS (nestS L) none (L.length+1) ([],0)=some [])
theorem nestT_len {t:Tok} {op op':List Str} (h:op.length≤32) (he:nestT t op=some op'):op'.length≤32:=by
 unfold nestT at he
 split at he
 ·split at he
  ·cases he
  ·cases he;simp only [List.length_append,List.length_cons,List.length_nil];omega
 ·split at he
  ·split at he
   ·cases he;rw [List.length_dropLast];omega
   ·cases he
  ·cases he;exact h
theorem nestS_in (L:List Tok):∀ a b:List Str × Nat,(a.2≤L.length∧a.1.length≤32)→nestS L a=.inl b→(b.2≤L.length∧b.1.length≤32)∧L.length - b.2<L.length - a.2:=by
 intro ⟨op,k⟩ b ⟨h1,h2⟩ h
 unfold nestS at h
 dsimp only at h h1 h2
 split at h
 ·cases h
 ·rename_i t ht
  have:=(List.getElem?_eq_some_iff.1 ht).1
  split at h
  ·cases h
  ·rename_i op' hop
   have h3:=nestT_len h2 hop
   cases h
   dsimp only;omega
theorem tcells_at {l:List Tok} {k:Nat} {x:Tok} (h:l[k]? =some x):(tcells l).drop (k * 6)=tcell x++tcells (l.drop (k+1)):=by
 induction l generalizing k with
 | nil=>cases h
 | cons a l ih =>
   show (tcell a++tcells l).drop _=_
   cases k with
   | zero =>
     simp only [List.getElem?_cons_zero,Option.some.injEq] at h
     subst h
     simp only [Nat.zero_mul,List.drop_zero,Nat.zero_add,List.drop_succ_cons]
   | succ k =>
     rw [List.getElem?_cons_succ] at h
     have e:(k+1) * 6=6+k * 6:=by omega
     rw [e,← List.drop_drop]
     show (tcells l).drop _=_
     rw [ih h]
     rfl
theorem last_of {op:List Str} {n:Nat} (h:op.length=n+1):∃ x,op[n]? =some x∧op.getLast? =some x∧op.dropLast=op.take n∧(scells op).drop n=[.flat (.string (S x))]:=by
 have hlt:n<op.length:=by omega
 refine ⟨op[n],List.getElem?_eq_getElem hlt,?_,?_,?_⟩
 ·rw [List.getLast?_eq_getElem?,h,Nat.add_sub_cancel,List.getElem?_eq_getElem hlt]
 ·rw [List.dropLast_eq_take,h,Nat.add_sub_cancel]
 ·rw [scells,← List.map_drop,List.drop_eq_getElem_cons hlt,List.drop_of_length_le (by omega)];rfl
set_option maxHeartbeats 4000000 in
theorem nested2_ev (L:List Tok) (hL:L.length≤1000000000):evW code lib 45 [.slc L.length (tcells L)] [] []=some ([.flat (.bool (nestE L))],false,[],[]):=by
 have hrel:=loop_rel (body:=evC (evW code lib) big b_n11_Nested_0) (live:=[0,3,4]) (nb:=0) (fun (o:Bool) (q:List Str × Nat)=>(⟨[(0,.slc L.length (tcells L)),(3,.slc q.1.length (scells q.1)),(4,.flat (.int .i64 (q.2:Nat)))],if o then [.slot 3] else [],[],[]⟩:St))
  (nestS L) none (fun q o st=>match q with
    | some op=>o=.exit 0∧∃ b:Bool,st=⟨[(3,.slc op.length (scells op))],if b then [.slot 3] else [],[],[]⟩
    | none=>o=.ret∧st=⟨[(2,.flat (.bool false))],[],[],[]⟩) (fun q=>q.2≤L.length∧q.1.length≤32) (fun q=>L.length - q.2) (fun o ⟨op,k⟩ hi=>?_) (fun o ⟨op,k⟩ hi=>?_) (nestS_in L) (n:=L.length+1) (m:=big) true ([],0) ⟨Nat.zero_le _,by simp⟩ (by dsimp only;omega) (by unfold big;dsimp only;omega)
 ·obtain ⟨o,st,hl,hq⟩:=hrel
  unfold nestE
  simp only [scells,List.map_nil,List.length_nil,n0,if_true] at hl
  cases hE:runS (nestS L) none (L.length+1) ([],0) with
  | none =>
    rw [hE] at hq
    obtain ⟨rfl,rfl⟩:=hq
    refine evW_eq code_n11_Nested (Nat.le_of_ble_eq_true rfl) ?_
    simp (maxSteps:=999999) (disch:=first | assumption | omega) only [go_sem,simprocAttr,au,hl]
  | some op =>
    rw [hE] at hq
    obtain ⟨rfl,b,rfl⟩:=hq
    have h0:(op.length=0)=(op=[]):=propext List.length_eq_zero_iff
    refine evW_eq code_n11_Nested (Nat.le_of_ble_eq_true rfl) ?_
    by_cases hop:op=[]
    ·subst hop
     cases b
     ·simp (maxSteps:=999999) (disch:=first | assumption | omega) only [go_sem,simprocAttr,au,hl]
     ·simp (maxSteps:=999999) (disch:=first | assumption | omega) only [go_sem,simprocAttr,au,hl]
    ·have h1:(op=[])=False:=eq_false hop
     have h2:op.length≠0:=fun h=>hop (List.eq_nil_of_length_eq_zero h)
     cases b
     ·simp (maxSteps:=999999) (disch:=first | assumption | omega) only [go_sem,simprocAttr,au,hl,h1]
     ·simp (maxSteps:=999999) (disch:=first | assumption | omega) only [go_sem,simprocAttr,au,hl,h1]
 ·dsimp only at hi
  dsimp only
  unfold nestS
  dsimp only
  have e0:(if o=true then [Loc.slot 3] else [])=[Loc.slot 3]∨(if o=true then [Loc.slot 3] else [])=([]:List Loc):=by cases o<;>simp
  by_cases hk:k<L.length
  ·have hc:L[k]? =some L[k]:=List.getElem?_eq_getElem hk
   obtain ⟨t,ht⟩:∃ t,L[k]=t:=⟨_,rfl⟩
   rw [ht] at hc
   have hsd:=tcells_at hc
   simp only [tcell,List.cons_append,List.nil_append] at hsd
   have hv:=void2_ev (lib:=lib) t.name
   have hbd:op.length≤bound:=by unfold bound;omega
   have hbd1:op.length+1≤bound:=by unfold bound;omega
   have hsa:scells op++[PV.flat (.string (S t.name))]=scells (op++[t.name]):=by rw [← scells_app];rfl
   simp only [hc]
   unfold nestT
   by_cases h1:t.kind.toNat=111
   ·have h1':=eq_true h1
    have h2':(t.kind.toNat=99)=False:=eq_false (by omega)
    cases hvo:voidE t.name with
    | true =>
      rw [hvo] at hv
      simp only [h1,h2',Bool.true_eq_false,and_false,if_false]
      refine ⟨o,?_⟩
      rcases e0 with e0 | e0<;>rw [e0]
      ·simp (maxSteps:=999999) (disch:=first | assumption | omega) only [go_sem,simprocAttr,au,on_n11_Nested_0,hsd,h1',h2',hv,tcells_len,scells_len,scells_noU8]
      ·simp (maxSteps:=999999) (disch:=first | assumption | omega) only [go_sem,simprocAttr,au,on_n11_Nested_0,hsd,h1',h2',hv,tcells_len,scells_len,scells_noU8]
    | false =>
      rw [hvo] at hv
      simp only [h1,and_self,if_true]
      by_cases h32:32<op.length+1
      ·simp only [h32,if_true]
       refine ⟨.ret,⟨[(2,.flat (.bool false))],[],[],[]⟩,?_,by simp,rfl,rfl⟩
       rcases e0 with e0 | e0<;>rw [e0]
       ·simp (maxSteps:=999999) (disch:=first | assumption | omega) only [go_sem,simprocAttr,au,on_n11_Nested_0,hsd,h1',h2',hv,hbd,hbd1,hsa,tcells_len,scells_len,scells_noU8,List.length_append,same_s]
       ·simp (maxSteps:=999999) (disch:=first | assumption | omega) only [go_sem,simprocAttr,au,on_n11_Nested_0,hsd,h1',h2',hv,hbd,hbd1,hsa,tcells_len,scells_len,scells_noU8,List.length_append,same_s]
      ·simp only [h32,if_false]
       refine ⟨true,?_⟩
       rcases e0 with e0 | e0<;>rw [e0]
       ·simp (maxSteps:=999999) (disch:=first | assumption | omega) only [go_sem,simprocAttr,au,on_n11_Nested_0,hsd,h1',h2',hv,hbd,hbd1,hsa,tcells_len,scells_len,scells_noU8,List.length_append,same_s]
       ·simp (maxSteps:=999999) (disch:=first | assumption | omega) only [go_sem,simprocAttr,au,on_n11_Nested_0,hsd,h1',h2',hv,hbd,hbd1,hsa,tcells_len,scells_len,scells_noU8,List.length_append,same_s]
   ·have h1':=eq_false h1
    by_cases h2:t.kind.toNat=99
    ·have h2':=eq_true h2
     simp only [h1,h2,false_and,if_false,if_true]
     by_cases hop:op=[]
     ·subst hop
      simp only [List.getLast?_nil,reduceCtorEq,if_false]
      refine ⟨.ret,⟨[(2,.flat (.bool false))],[],[],[]⟩,?_,by simp,rfl,rfl⟩
      rcases e0 with e0 | e0<;>rw [e0]
      ·simp (maxSteps:=999999) (disch:=first | assumption | omega) only [go_sem,simprocAttr,au,on_n11_Nested_0,hsd,h1',h2',tcells_len,scells_len,scells_noU8]
      ·simp (maxSteps:=999999) (disch:=first | assumption | omega) only [go_sem,simprocAttr,au,on_n11_Nested_0,hsd,h1',h2',tcells_len,scells_len,scells_noU8]
     ·obtain ⟨n,hn⟩:∃ n,op.length=n+1:=⟨op.length - 1,by have:op.length≠0:=fun h=>hop (List.eq_nil_of_length_eq_zero h);omega⟩
      obtain ⟨x,hx1,hx2,hx3,hx4⟩:=last_of hn
      have en:(op.length:Int) - 1=(n:Nat):=by omega
      have w1:IntKind.i64.wrap ((op.length:Int) - 1)=(n:Nat):=by rw [wrap64 (by omega)];omega
      rw [hx2,hx3]
      by_cases hxn:x=t.name
      ·have hx':=eq_true hxn
       simp only [Option.some.injEq,hx',if_true]
       refine ⟨false,?_⟩
       have hst:(scells op).take n=scells (op.take n):=by simp only [scells,List.map_take]
       have hln:(op.take n).length=n:=by rw [List.length_take];omega
       simp only [hln,Bool.false_eq_true,if_false]
       rcases e0 with e0 | e0<;>rw [e0]
       ·simp (maxSteps:=999999) (disch:=first | assumption | omega) only [go_sem,simprocAttr,au,on_n11_Nested_0,hsd,h1',h2',hx4,hx',w1,hst,tcells_len,scells_len,scells_noU8,Nat.sub_zero]
       ·simp (maxSteps:=999999) (disch:=first | assumption | omega) only [go_sem,simprocAttr,au,on_n11_Nested_0,hsd,h1',h2',hx4,hx',w1,hst,tcells_len,scells_len,scells_noU8,Nat.sub_zero]
      ·have hx':=eq_false hxn
       have hx'':(some x=some t.name)=False:=eq_false (fun h=>hxn (by simpa using h))
       simp only [hx',Option.some.injEq,if_false]
       refine ⟨.ret,⟨[(2,.flat (.bool false))],[],[],[]⟩,?_,by simp,rfl,rfl⟩
       rcases e0 with e0 | e0<;>rw [e0]
       ·simp (maxSteps:=999999) (disch:=first | assumption | omega) only [go_sem,simprocAttr,au,on_n11_Nested_0,hsd,h1',h2',hx4,hx',w1,tcells_len,scells_len,scells_noU8]
       ·simp (maxSteps:=999999) (disch:=first | assumption | omega) only [go_sem,simprocAttr,au,on_n11_Nested_0,hsd,h1',h2',hx4,hx',w1,tcells_len,scells_len,scells_noU8]
    ·have h2':=eq_false h2
     simp only [h1,h2,false_and,if_false]
     refine ⟨o,?_⟩
     rcases e0 with e0 | e0<;>rw [e0]
     ·simp (maxSteps:=999999) (disch:=first | assumption | omega) only [go_sem,simprocAttr,au,on_n11_Nested_0,hsd,h1',h2',tcells_len,scells_len,scells_noU8]
     ·simp (maxSteps:=999999) (disch:=first | assumption | omega) only [go_sem,simprocAttr,au,on_n11_Nested_0,hsd,h1',h2',tcells_len,scells_len,scells_noU8]
  ·have hc:L[k]? =none:=List.getElem?_eq_none (by omega)
   simp only [hc]
   refine ⟨.exit 0,⟨[(3,.slc op.length (scells op))],if o then [.slot 3] else [],[],[]⟩,?_,by simp,rfl,o,rfl⟩
   rcases e0 with e0 | e0<;>rw [e0]
   ·simp (maxSteps:=999999) (disch:=first | assumption | omega) only [go_sem,simprocAttr,au,on_n11_Nested_0,tcells_len]
   ·simp (maxSteps:=999999) (disch:=first | assumption | omega) only [go_sem,simprocAttr,au,on_n11_Nested_0,tcells_len]
 ·cases o<;>dsimp only
  ·simp (maxSteps:=999999) (disch:=first | assumption | omega) only [go_sem,simprocAttr,au]
  ·simp (maxSteps:=999999) (disch:=first | assumption | omega) only [go_sem,simprocAttr,au]
end Nun
end
