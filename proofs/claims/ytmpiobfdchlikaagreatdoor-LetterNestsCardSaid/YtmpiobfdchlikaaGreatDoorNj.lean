/- LetterNests answers true for all numbers and flags, at any start: texts of this proof, merged. -/
import Derived.Test.YtmpiobfdchlikaaGreatDoorNi
import Derived.IntWalk
import Derived.Deep.RegionHeld3
import Derived.Deep.AppendLies
import Derived.StillTactics
import Derived.OwnWalk
set_option linter.unusedVariables false
set_option linter.unusedSimpArgs false
set_option maxHeartbeats 4000000
section
namespace Nun
open Go Go.RowKit Go.Proofs Go.Proofs.YtmpiobfdchlikaaGreatDoor
variable {lib:Callee}
def sCt2:Str:=[67,111,110,116,101,110,116,45,84,121,112,101]
def yp0:Str:=[67,111,110,116,101,110,116,45,84,114,97,110,115,102,101,114,45,69,110,99,111,100,105,110,103]
theorem zne (HF:zjo lib) (F:List Fld) (hF:ziq F):evW code lib 62 [.slc F.length (zac F),.flat (.string (S [67,111,110,116,101,110,116,45,84,121,112,101]))] [] []=some ([.flat (.string (S (getU sCt F).1)),.flat (.int .i64 ((getU sCt F).2:Nat))],false,[],[]):=by
 have h:=z0g HF F sCt2 hF (by decide)
 have e:getU sCt2 F=getU sCt F:=znc (by decide) F _
 rw [e] at h;exact h
theorem znf (HF:zjo lib) (F:List Fld) (hF:ziq F):evW code lib 62 [.slc F.length (zac F),.flat (.string (S [67,111,110,116,101,110,116,45,84,114,97,110,115,102,101,114,45,69,110,99,111,100,105,110,103]))] [] []=some ([.flat (.string (S (getU sCte F).1)),.flat (.int .i64 ((getU sCte F).2:Nat))],false,[],[]):=by
 have h:=z0g HF F yp0 hF (by decide)
 have e:getU yp0 F=getU sCte F:=znc (by decide) F _
 rw [e] at h;exact h
def zng (lib:Callee) (f:Str→Nat→Except Nat (LP × Nat)) (deep:Nat) (s:Str) (j:Nat):Prop:=match f s j with
 | .ok (p,m)=>evW code lib 37 [.flat (.string (S s)),.flat (.int .i64 (deep:Nat)),.flat (.int .i64 (j:Nat))] [] []=some ([.agg p.cells,.flat (.int .i64 (m:Nat)),.flat (.int .i64 0)],false,[],[])
 | .error e=>∃ x:Nat,x≤20000∧evW code lib 37 [.flat (.string (S s)),.flat (.int .i64 (deep:Nat)),.flat (.int .i64 (j:Nat))] [] []=some ([.agg zad,.flat (.int .i64 (x:Nat)),.flat (.int .i64 (e:Nat))],false,[],[])
theorem zs9 (L:LibR lib) {deep j:Nat} {s:Str} (hs:s.length≤10000) (e:Int) (he:e=6∨e=7) (h1:evW code lib 61 [.flat (.string (S s))] [] []=some ([.slc 0 [],.flat (.int .i64 0),.flat (.int .i64 e)],false,[],[])) :
 evW code lib 37 [.flat (.string (S s)),.flat (.int .i64 (deep:Nat)),.flat (.int .i64 (j:Nat))] [] []=some ([.agg zad,.flat (.int .i64 (j:Nat)),.flat (.int .i64 e)],false,[],[]):=by
 refine zbw zbh (Nat.le_of_ble_eq_true rfl) ?_
 unfold zad
 rcases he with rfl | rfl
 ·simp (maxSteps:=999999) (disch:=first | assumption | omega) only [go_sem,simprocAttr,au,h1]
 ·simp (maxSteps:=999999) (disch:=first | assumption | omega) only [go_sem,simprocAttr,au,h1]
theorem z2o (L:LibR lib) {deep j:Nat} {s:Str} (hs:s.length≤10000) {F:List Fld} {at_:Nat} (hF:ziq F) (h1:zba s=.ok F at_) (h2:¬ ((getU sCt F).2<2∧(getU sCte F).2<2)) :
 evW code lib 37 [.flat (.string (S s)),.flat (.int .i64 (deep:Nat)),.flat (.int .i64 (j:Nat))] [] []=some ([.agg zad,.flat (.int .i64 (j:Nat)),.flat (.int .i64 9)],false,[],[]):=by
 have f1:=zdt L.spl s hs
 rw [h1] at f1
 dsimp only at f1
 have f2:=zne L.fold F hF
 have f3:=znf L.fold F hF
 have hnp:=zak F
 have hlow:=fun n=>zae (n:=n) F
 obtain ⟨⟨v,n⟩,hv⟩:∃ v,getU sCt F=v:=⟨_,rfl⟩
 obtain ⟨⟨u,k⟩,hu⟩:∃ v,getU sCte F=v:=⟨_,rfl⟩
 rw [hv] at f2 h2
 rw [hu] at f3 h2
 dsimp only at f2 f3 h2
 refine zbw zbh (Nat.le_of_ble_eq_true rfl) ?_
 unfold zad
 clear h1 hF
 rcases Classical.em (1<n) with a1 | a1
 ·simp (maxSteps:=999999) (disch:=first | assumption | omega) only [go_sem,simprocAttr,au,f1,f2,f3,hnp,hlow]
 ·simp (maxSteps:=999999) (disch:=first | assumption | omega) only [go_sem,simprocAttr,au,f1,f2,f3,hnp,hlow]
theorem z0h (L:LibR lib) {deep j:Nat} {s:Str} (hs:s.length≤10000) (hd:deep≤10) (hj:j≤64) {F:List Fld} {at_:Nat} (h1:zba s=.ok F at_) (hk:(getU sCte F).2<2) (hn:(getU sCt F).2=1) (e:Int) (he:e=7∨e=9) (hp:evW code lib 63 [.flat (.string (S (getU sCt F).1))] [] []=some ([.flat (.string (S [])),.slc 0 [],.flat (.int .i64 e)],false,[],[])) :
 evW code lib 37 [.flat (.string (S s)),.flat (.int .i64 (deep:Nat)),.flat (.int .i64 (j:Nat))] [] []=some ([.agg zad,.flat (.int .i64 (j:Nat)),.flat (.int .i64 e)],false,[],[]):=by
 obtain ⟨hF,k2,k3⟩:=zaz h1 (by omega)
 have hgl:(getU sCt F).1.length≤10000:=zau F _ (by simp) fun f hf=>by have:=(k3 f hf).2;omega
 have hgl2:(getU sCte F).1.length≤10000:=zau F _ (by simp) fun f hf=>by have:=(k3 f hf).2;omega
 have f1:=zdt L.spl s hs
 rw [h1] at f1
 dsimp only at f1
 have f2:=zne L.fold F hF
 have f3:=znf L.fold F hF
 have hnp:=zak F
 have hlow:=fun n=>zae (n:=n) F
 obtain ⟨⟨v,n⟩,hv⟩:∃ v,getU sCt F=v:=⟨_,rfl⟩
 obtain ⟨⟨u,k⟩,hu⟩:∃ v,getU sCte F=v:=⟨_,rfl⟩
 rw [hv] at f2 hn hp
 rw [hu] at f3 hk
 dsimp only at f2 f3 hn hk hp
 subst hn
 simp only [n1] at f2
 refine zbw zbh (Nat.le_of_ble_eq_true rfl) ?_
 try unfold zad
 clear h1 hF k2 k3 hgl hgl2 L
 generalize zac F=fc at *
 rcases he with rfl | rfl
 ·simp (maxSteps:=999999) (disch:=first | assumption | omega) only [go_sem,simprocAttr,au,f1,f2,f3,hnp,hlow,hp]
 ·simp (maxSteps:=999999) (disch:=first | assumption | omega) only [go_sem,simprocAttr,au,f1,f2,f3,hnp,hlow,hp]
theorem zdd (HF:zjo lib) (l:List Fld) (hl:ziq l) (s u ty:Str) (deep j at_ k nF:Nat) (fc:List PV) (hlow:∀ n,lows n fc=true) :
 zb3 (evC (evW code lib) big zh2) [0,1,2,6,9,11,15,16,17,18,20,22] 3 big ⟨[(0,.flat (.string (S s))),(1,.flat (.int .i64 (deep:Nat))),(2,.flat (.int .i64 (j:Nat))),(6,.ptr 0 0),(9,.ptr 1 0),(11,.flat (.int .i64 (at_:Nat))),(15,.flat (.string (S u))),(16,.flat (.int .i64 (k:Nat))),(17,.ptr 2 0),(18,.flat (.string (S []))),(20,.slc l.length (zac l)),(22,.flat (.int .i64 0))],[.cell 2 3,.cell 1 0,.cell 1 3,.cell 0 0,.cell 0 3],[],[(36,zad),(36,zad),(36,[.slc nF fc,.flat (.string (S ty)),.flat (.string (S [])),.slc 0 []])]⟩=some (.exit 0,⟨[(0,.flat (.string (S s))),(1,.flat (.int .i64 (deep:Nat))),(2,.flat (.int .i64 (j:Nat))),(6,.ptr 0 0),(9,.ptr 1 0),(11,.flat (.int .i64 (at_:Nat))),(15,.flat (.string (S u))),(16,.flat (.int .i64 (k:Nat))),(17,.ptr 2 0),(18,.flat (.string (S (zcy l []))))],[.cell 2 3,.cell 1 0,.cell 1 3,.cell 0 0,.cell 0 3],[],[(36,zad),(36,zad),(36,[.slc nF fc,.flat (.string (S ty)),.flat (.string (S [])),.slc 0 []])]⟩):=by
 have hlow2:=fun n=>zae (n:=n) l
 have hloop:=zhs (body:=evC (evW code lib) big zh2) (live:=[0,1,2,6,9,11,15,16,17,18,20,22]) (nb:=3) (fun (m:Str) q=>⟨[(0,.flat (.string (S s))),(1,.flat (.int .i64 (deep:Nat))),(2,.flat (.int .i64 (j:Nat))),(6,.ptr 0 0),(9,.ptr 1 0),(11,.flat (.int .i64 (at_:Nat))),(15,.flat (.string (S u))),(16,.flat (.int .i64 (k:Nat))),(17,.ptr 2 0),(18,.flat (.string (S m))),(20,.slc l.length (zac l)),(22,.flat (.int .i64 (q:Nat)))],[.cell 2 3,.cell 1 0,.cell 1 3,.cell 0 0,.cell 0 3],[],[(36,zad),(36,zad),(36,[.slc nF fc,.flat (.string (S ty)),.flat (.string (S [])),.slc 0 []])]⟩) l (fun _ _=>True)
  (fun m q x=>.inl (if zab x.1 == zab zlm then x.2 else m)) (fun m=>(.exit 0,⟨[(0,.flat (.string (S s))),(1,.flat (.int .i64 (deep:Nat))),(2,.flat (.int .i64 (j:Nat))),(6,.ptr 0 0),(9,.ptr 1 0),(11,.flat (.int .i64 (at_:Nat))),(15,.flat (.string (S u))),(16,.flat (.int .i64 (k:Nat))),(17,.ptr 2 0),(18,.flat (.string (S m)))],[.cell 2 3,.cell 1 0,.cell 1 3,.cell 0 0,.cell 0 3],[],[(36,zad),(36,zad),(36,[.slc nF fc,.flat (.string (S ty)),.flat (.string (S [])),.slc 0 []])]⟩)) (fun m q c _ hq hc hd=>?_) (fun _ _=>by simp only [go_sem,simprocAttr,zad,hlow,hlow2]) (fun _ _ _ _ _ _ _ _=>trivial) (fun _ _ x r h=>by cases h) (fun m _=>?_) (fun _=>by simp) [] trivial (by have:=hl.1;unfold big;omega)
 ·rw [zq5] at hloop
  simp only [n0] at hloop
  exact hloop
 ·obtain ⟨a,b⟩:=c
  have hFl:=hl.1
  have hab:=hl.2 (a,b) (List.mem_of_getElem? hc)
  have hA:=zbt HF a hab.1
  have hat:=zgf hd
  have hlen:=zeh l
  have hl2:((zac l).drop (q * 2)).length=(l.length - q) * 2:=by rw [List.length_drop,hlen];omega
  clear hl hab hlen HF hd hc
  rw [hat] at hl2
  simp only [List.length_cons] at hl2
  generalize l.drop (q+1)=fr at *
  generalize zac fr=fg at *
  dsimp only
  have hb:zab zlm=zlm:=by decide
  rw [hb]
  unfold zlm zad
  by_cases hfo:zab a=[98,111,117,110,100,97,114,121]
  ·have hfb:(zab a == [98,111,117,110,100,97,114,121])=true:=by simpa using hfo
   rw [hfo] at hA
   simp only [hfb,if_true]
   simp (maxSteps:=999999) (disch:=first | assumption | omega) only [go_sem,simprocAttr,au,zi9,hat,hA,hlow,hlow2,hl2]
  ·have hfo':=eq_false hfo
   have hfb:(zab a == [98,111,117,110,100,97,114,121])=false:=by simpa using hfo
   simp only [hfb,Bool.false_eq_true,if_false]
   simp (maxSteps:=999999) (disch:=first | assumption | omega) only [go_sem,simprocAttr,au,zi9,hat,hA,hfo',hlow,hlow2,hl2]
 ·unfold zad
  simp (maxSteps:=999999) (disch:=first | assumption | omega) only [go_sem,simprocAttr,au,zi9,hlow,hlow2]
theorem z2p (L:LibR lib) {deep j:Nat} {s:Str} (hs:s.length≤10000) (hd:deep≤10) (hj:j≤64) {F:List Fld} {at_:Nat} (h1:zba s=.ok F at_) (hk:(getU sCte F).2<2) (hn:(getU sCt F).2=1) {m:Str} {l:List Fld} (hp:zbr (getU sCt F).1=.ok m l) (ht:zeu (zab m)=false) :
 evW code lib 37 [.flat (.string (S s)),.flat (.int .i64 (deep:Nat)),.flat (.int .i64 (j:Nat))] [] []=some ([.agg zad,.flat (.int .i64 (j:Nat)),.flat (.int .i64 7)],false,[],[]):=by
 obtain ⟨hF,k2,k3⟩:=zaz h1 (by omega)
 have hgl:(getU sCt F).1.length≤10000:=zau F _ (by simp) fun f hf=>by have:=(k3 f hf).2;omega
 have hgl2:(getU sCte F).1.length≤10000:=zau F _ (by simp) fun f hf=>by have:=(k3 f hf).2;omega
 have f1:=zdt L.spl s hs
 rw [h1] at f1
 dsimp only at f1
 have f2:=zne L.fold F hF
 have f3:=znf L.fold F hF
 have hnp:=zak F
 have hlow:=fun n=>zae (n:=n) F
 have hpa:=zfw L.par _ hgl
 rw [hp] at hpa
 dsimp only at hpa
 obtain ⟨hsl,hml⟩:=zaq hp hgl
 have hml:m.length≤10000:=by omega
 have f4:=zbt L.fold m (by omega)
 have hfl:(zab m).length≤10000:=by simp only [zab,List.length_map];omega
 have f5:=zc3 (lib:=lib) (zab m) (by omega)
 have f6:=zb2 (lib:=lib) (zab m) za1 0 (by omega) (by decide) (by decide)
 have hfc:=zbt L.fold (getU sCte F).1 (by omega)
 have hnpl:=zak l
 have hlowl:=fun n=>zae (n:=n) l
 obtain ⟨⟨v,n⟩,hv⟩:∃ v,getU sCt F=v:=⟨_,rfl⟩
 obtain ⟨⟨u,k⟩,hu⟩:∃ v,getU sCte F=v:=⟨_,rfl⟩
 have hcod:codP F=zab (if k=0 then zbn else u):=by unfold codP;rw [hu]
 rw [hv] at f2 hn hpa hgl
 rw [hu] at f3 hk hfc hgl2
 dsimp only at f2 f3 hn hk hpa hfc hgl hgl2
 subst hn
 simp only [n1] at f2
 have hlo:=zdd (lib:=lib) L.fold l hsl s u (zab m) deep j at_ k F.length (zac F) hlow
 unfold zad at hlo
 unfold za1 at f6
 simp only [n0] at f6
 have hsl2:=hsl.1
 have hFl:=hF.1
 have tk:(s.take s.length).drop at_=s.drop at_:=by rw [List.take_length]
 rw [ht] at f5
 clear h1 hF k2 k3 L hsl hp hcod
 generalize zac F=fc at *
 generalize zac l=fl at *
 generalize zab m=ty at *
 refine zbw zbh (Nat.le_of_ble_eq_true rfl) ?_
 try unfold zad
 simp (maxSteps:=999999) (disch:=first | assumption | omega) only [go_sem,simprocAttr,au,f1,f2,f3,f4,f5,f6,hfc,hnp,hlow,hpa,hnpl,hlowl,hlo,tk]
theorem z2q (L:LibR lib) {deep j:Nat} {s:Str} (hs:s.length≤10000) (hd:deep≤10) (hj:j≤64) {F:List Fld} {at_:Nat} (h1:zba s=.ok F at_) (hk:(getU sCte F).2<2) (hn:(getU sCt F).2=1) {m:Str} {l:List Fld} (hp:zbr (getU sCt F).1=.ok m l) (ht:zeu (zab m)=true) (hmu:za1.isPrefixOf (zab m)=false) (hsd:zkj (s.drop at_) (codP F)=none) :
 evW code lib 37 [.flat (.string (S s)),.flat (.int .i64 (deep:Nat)),.flat (.int .i64 (j:Nat))] [] []=some ([.agg zad,.flat (.int .i64 (j:Nat)),.flat (.int .i64 7)],false,[],[]):=by
 obtain ⟨hF,k2,k3⟩:=zaz h1 (by omega)
 have hgl:(getU sCt F).1.length≤10000:=zau F _ (by simp) fun f hf=>by have:=(k3 f hf).2;omega
 have hgl2:(getU sCte F).1.length≤10000:=zau F _ (by simp) fun f hf=>by have:=(k3 f hf).2;omega
 have f1:=zdt L.spl s hs
 rw [h1] at f1
 dsimp only at f1
 have f2:=zne L.fold F hF
 have f3:=znf L.fold F hF
 have hnp:=zak F
 have hlow:=fun n=>zae (n:=n) F
 have hpa:=zfw L.par _ hgl
 rw [hp] at hpa
 dsimp only at hpa
 obtain ⟨hsl,hml⟩:=zaq hp hgl
 have hml:m.length≤10000:=by omega
 have f4:=zbt L.fold m (by omega)
 have hfl:(zab m).length≤10000:=by simp only [zab,List.length_map];omega
 have f5:=zc3 (lib:=lib) (zab m) (by omega)
 have f6:=zb2 (lib:=lib) (zab m) za1 0 (by omega) (by decide) (by decide)
 have hfc:=zbt L.fold (getU sCte F).1 (by omega)
 have hnpl:=zak l
 have hlowl:=fun n=>zae (n:=n) l
 obtain ⟨⟨v,n⟩,hv⟩:∃ v,getU sCt F=v:=⟨_,rfl⟩
 obtain ⟨⟨u,k⟩,hu⟩:∃ v,getU sCte F=v:=⟨_,rfl⟩
 have hcod:codP F=zab (if k=0 then zbn else u):=by unfold codP;rw [hu]
 rw [hv] at f2 hn hpa hgl
 rw [hu] at f3 hk hfc hgl2
 dsimp only at f2 f3 hn hk hpa hfc hgl hgl2
 subst hn
 simp only [n1] at f2
 have hlo:=zdd (lib:=lib) L.fold l hsl s u (zab m) deep j at_ k F.length (zac F) hlow
 unfold zad at hlo
 unfold za1 at f6
 simp only [n0] at f6
 have hsl2:=hsl.1
 have hFl:=hF.1
 have tk:(s.take s.length).drop at_=s.drop at_:=by rw [List.take_length]
 have fs:=znd L (s.drop at_) (codP F) (by rw [List.length_drop];omega)
 rw [hsd] at fs
 simp only [Option.getD_none,Option.getD_some,Option.isSome_none,Option.isSome_some] at fs
 rw [ht] at f5
 have hb:za4 (zab m) [109,117,108,116,105,112,97,114,116,47] 0=false:=by rw [zd1 (Nat.zero_le _),List.drop_zero];exact hmu
 rw [hb] at f6
 clear h1 hF k3 L hsl hp hb hmu
 try simp only [LP.cells,zaw]
 generalize zac F=fc at *
 generalize zac l=fl at *
 generalize zab m=ty at *
 refine zbw zbh (Nat.le_of_ble_eq_true rfl) ?_
 try unfold zad
 by_cases hk0:k=0
 ·subst hk0
  rw [hcod,if_pos rfl] at fs
  have e7:zab zbn=zbn:=by decide
  rw [e7] at fs
  unfold zbn at fs
  clear hcod
  simp only [n0] at hlo f3
  simp (maxSteps:=999999) (disch:=first | assumption | omega) only [go_sem,simprocAttr,au,f1,f2,f3,f4,f5,f6,hfc,hnp,hlow,hpa,hnpl,hlowl,hlo,tk,fs]
 ·rw [hcod,if_neg hk0] at fs
  have hk0':((k:Int)=0)=False:=by apply eq_false;omega
  clear hcod
  generalize zab u=fu at *
  simp (maxSteps:=999999) (disch:=first | assumption | omega) only [go_sem,simprocAttr,au,f1,f2,f3,f4,f5,f6,hfc,hnp,hlow,hpa,hnpl,hlowl,hlo,tk,fs,hk0']
theorem z8b (L:LibR lib) {deep j:Nat} {s:Str} (hs:s.length≤10000) (hd:deep≤10) (hj:j≤64) {F:List Fld} {at_:Nat} (h1:zba s=.ok F at_) (hk:(getU sCte F).2<2) (hn:(getU sCt F).2=1) {m:Str} {l:List Fld} (hp:zbr (getU sCt F).1=.ok m l) (ht:zeu (zab m)=true) (hmu:za1.isPrefixOf (zab m)=false) {t:Str} (hsd:zkj (s.drop at_) (codP F)=some t) :
 evW code lib 37 [.flat (.string (S s)),.flat (.int .i64 (deep:Nat)),.flat (.int .i64 (j:Nat))] [] []=some ([.agg (LP.mk F (zab m) t []).cells,.flat (.int .i64 (j:Nat)),.flat (.int .i64 0)],false,[],[]):=by
 obtain ⟨hF,k2,k3⟩:=zaz h1 (by omega)
 have hgl:(getU sCt F).1.length≤10000:=zau F _ (by simp) fun f hf=>by have:=(k3 f hf).2;omega
 have hgl2:(getU sCte F).1.length≤10000:=zau F _ (by simp) fun f hf=>by have:=(k3 f hf).2;omega
 have f1:=zdt L.spl s hs
 rw [h1] at f1
 dsimp only at f1
 have f2:=zne L.fold F hF
 have f3:=znf L.fold F hF
 have hnp:=zak F
 have hlow:=fun n=>zae (n:=n) F
 have hpa:=zfw L.par _ hgl
 rw [hp] at hpa
 dsimp only at hpa
 obtain ⟨hsl,hml⟩:=zaq hp hgl
 have hml:m.length≤10000:=by omega
 have f4:=zbt L.fold m (by omega)
 have hfl:(zab m).length≤10000:=by simp only [zab,List.length_map];omega
 have f5:=zc3 (lib:=lib) (zab m) (by omega)
 have f6:=zb2 (lib:=lib) (zab m) za1 0 (by omega) (by decide) (by decide)
 have hfc:=zbt L.fold (getU sCte F).1 (by omega)
 have hnpl:=zak l
 have hlowl:=fun n=>zae (n:=n) l
 obtain ⟨⟨v,n⟩,hv⟩:∃ v,getU sCt F=v:=⟨_,rfl⟩
 obtain ⟨⟨u,k⟩,hu⟩:∃ v,getU sCte F=v:=⟨_,rfl⟩
 have hcod:codP F=zab (if k=0 then zbn else u):=by unfold codP;rw [hu]
 rw [hv] at f2 hn hpa hgl
 rw [hu] at f3 hk hfc hgl2
 dsimp only at f2 f3 hn hk hpa hfc hgl hgl2
 subst hn
 simp only [n1] at f2
 have hlo:=zdd (lib:=lib) L.fold l hsl s u (zab m) deep j at_ k F.length (zac F) hlow
 unfold zad at hlo
 unfold za1 at f6
 simp only [n0] at f6
 have hsl2:=hsl.1
 have hFl:=hF.1
 have tk:(s.take s.length).drop at_=s.drop at_:=by rw [List.take_length]
 have fs:=znd L (s.drop at_) (codP F) (by rw [List.length_drop];omega)
 rw [hsd] at fs
 simp only [Option.getD_none,Option.getD_some,Option.isSome_none,Option.isSome_some] at fs
 rw [ht] at f5
 have hb:za4 (zab m) [109,117,108,116,105,112,97,114,116,47] 0=false:=by rw [zd1 (Nat.zero_le _),List.drop_zero];exact hmu
 rw [hb] at f6
 clear h1 hF k3 L hsl hp hb hmu
 try simp only [LP.cells,zaw]
 generalize zac F=fc at *
 generalize zac l=fl at *
 generalize zab m=ty at *
 refine zbw zbh (Nat.le_of_ble_eq_true rfl) ?_
 try unfold zad
 by_cases hk0:k=0
 ·subst hk0
  rw [hcod,if_pos rfl] at fs
  have e7:zab zbn=zbn:=by decide
  rw [e7] at fs
  unfold zbn at fs
  clear hcod
  simp only [n0] at hlo f3
  simp (maxSteps:=999999) (disch:=first | assumption | omega) only [go_sem,simprocAttr,au,f1,f2,f3,f4,f5,f6,hfc,hnp,hlow,hpa,hnpl,hlowl,hlo,tk,fs]
 ·rw [hcod,if_neg hk0] at fs
  have hk0':((k:Int)=0)=False:=by apply eq_false;omega
  clear hcod
  generalize zab u=fu at *
  simp (maxSteps:=999999) (disch:=first | assumption | omega) only [go_sem,simprocAttr,au,f1,f2,f3,f4,f5,f6,hfc,hnp,hlow,hpa,hnpl,hlowl,hlo,tk,fs,hk0']
theorem zym (L:LibR lib) {deep j:Nat} {s:Str} (hs:s.length≤10000) (hd:deep≤10) (hj:j≤64) {F:List Fld} {at_:Nat} (h1:zba s=.ok F at_) (hk:(getU sCte F).2<2) (hn:(getU sCt F).2=0) (hsd:zkj (s.drop at_) (codP F)=none) :
 evW code lib 37 [.flat (.string (S s)),.flat (.int .i64 (deep:Nat)),.flat (.int .i64 (j:Nat))] [] []=some ([.agg zad,.flat (.int .i64 (j:Nat)),.flat (.int .i64 7)],false,[],[]):=by
 obtain ⟨hF,k2,k3⟩:=zaz h1 (by omega)
 have hgl:(getU sCt F).1.length≤10000:=zau F _ (by simp) fun f hf=>by have:=(k3 f hf).2;omega
 have hgl2:(getU sCte F).1.length≤10000:=zau F _ (by simp) fun f hf=>by have:=(k3 f hf).2;omega
 have f1:=zdt L.spl s hs
 rw [h1] at f1
 dsimp only at f1
 have f2:=zne L.fold F hF
 have f3:=znf L.fold F hF
 have hnp:=zak F
 have hlow:=fun n=>zae (n:=n) F
 have f5:=zc3 (lib:=lib) zg2 (by decide)
 rw [show zeu zg2=true by decide] at f5
 have f6:=zb2 (lib:=lib) zg2 za1 0 (by decide) (by decide) (by decide)
 rw [show za4 zg2 za1 0=false by decide] at f6
 have hfc:=zbt L.fold (getU sCte F).1 (by omega)
 obtain ⟨⟨v,n⟩,hv⟩:∃ v,getU sCt F=v:=⟨_,rfl⟩
 obtain ⟨⟨u,k⟩,hu⟩:∃ v,getU sCte F=v:=⟨_,rfl⟩
 have hcod:codP F=zab (if k=0 then zbn else u):=by unfold codP;rw [hu]
 rw [hv] at f2 hn hgl
 rw [hu] at f3 hk hfc hgl2
 dsimp only at f2 f3 hn hk hfc hgl hgl2
 subst hn
 simp only [n0] at f2 f6
 unfold zg2 at f5 f6
 unfold za1 at f6
 have hFl:=hF.1
 have tk:(s.take s.length).drop at_=s.drop at_:=by rw [List.take_length]
 have fs:=znd L (s.drop at_) (codP F) (by rw [List.length_drop];omega)
 rw [hsd] at fs
 simp only [Option.getD_none,Option.getD_some,Option.isSome_none,Option.isSome_some] at fs
 clear h1 hF k3 L
 try simp only [LP.cells,zaw]
 try unfold zad
 try unfold zg2
 generalize zac F=fc at *
 refine zbw zbh (Nat.le_of_ble_eq_true rfl) ?_
 by_cases hk0:k=0
 ·subst hk0
  rw [hcod,if_pos rfl] at fs
  have e7:zab zbn=zbn:=by decide
  rw [e7] at fs
  unfold zbn at fs
  clear hcod
  simp only [n0] at f3
  simp (maxSteps:=999999) (disch:=first | assumption | omega) only [go_sem,simprocAttr,au,f1,f2,f3,f5,f6,hfc,hnp,hlow,tk,fs]
 ·rw [hcod,if_neg hk0] at fs
  have hk0':((k:Int)=0)=False:=by apply eq_false;omega
  clear hcod
  generalize zab u=fu at *
  simp (maxSteps:=999999) (disch:=first | assumption | omega) only [go_sem,simprocAttr,au,f1,f2,f3,f5,f6,hfc,hnp,hlow,tk,fs,hk0']
theorem z2r (L:LibR lib) {deep j:Nat} {s:Str} (hs:s.length≤10000) (hd:deep≤10) (hj:j≤64) {F:List Fld} {at_:Nat} (h1:zba s=.ok F at_) (hk:(getU sCte F).2<2) (hn:(getU sCt F).2=0) {t:Str} (hsd:zkj (s.drop at_) (codP F)=some t) :
 evW code lib 37 [.flat (.string (S s)),.flat (.int .i64 (deep:Nat)),.flat (.int .i64 (j:Nat))] [] []=some ([.agg (LP.mk F zg2 t []).cells,.flat (.int .i64 (j:Nat)),.flat (.int .i64 0)],false,[],[]):=by
 obtain ⟨hF,k2,k3⟩:=zaz h1 (by omega)
 have hgl:(getU sCt F).1.length≤10000:=zau F _ (by simp) fun f hf=>by have:=(k3 f hf).2;omega
 have hgl2:(getU sCte F).1.length≤10000:=zau F _ (by simp) fun f hf=>by have:=(k3 f hf).2;omega
 have f1:=zdt L.spl s hs
 rw [h1] at f1
 dsimp only at f1
 have f2:=zne L.fold F hF
 have f3:=znf L.fold F hF
 have hnp:=zak F
 have hlow:=fun n=>zae (n:=n) F
 have f5:=zc3 (lib:=lib) zg2 (by decide)
 rw [show zeu zg2=true by decide] at f5
 have f6:=zb2 (lib:=lib) zg2 za1 0 (by decide) (by decide) (by decide)
 rw [show za4 zg2 za1 0=false by decide] at f6
 have hfc:=zbt L.fold (getU sCte F).1 (by omega)
 obtain ⟨⟨v,n⟩,hv⟩:∃ v,getU sCt F=v:=⟨_,rfl⟩
 obtain ⟨⟨u,k⟩,hu⟩:∃ v,getU sCte F=v:=⟨_,rfl⟩
 have hcod:codP F=zab (if k=0 then zbn else u):=by unfold codP;rw [hu]
 rw [hv] at f2 hn hgl
 rw [hu] at f3 hk hfc hgl2
 dsimp only at f2 f3 hn hk hfc hgl hgl2
 subst hn
 simp only [n0] at f2 f6
 unfold zg2 at f5 f6
 unfold za1 at f6
 have hFl:=hF.1
 have tk:(s.take s.length).drop at_=s.drop at_:=by rw [List.take_length]
 have fs:=znd L (s.drop at_) (codP F) (by rw [List.length_drop];omega)
 rw [hsd] at fs
 simp only [Option.getD_none,Option.getD_some,Option.isSome_none,Option.isSome_some] at fs
 clear h1 hF k3 L
 try simp only [LP.cells,zaw]
 try unfold zad
 try unfold zg2
 generalize zac F=fc at *
 refine zbw zbh (Nat.le_of_ble_eq_true rfl) ?_
 by_cases hk0:k=0
 ·subst hk0
  rw [hcod,if_pos rfl] at fs
  have e7:zab zbn=zbn:=by decide
  rw [e7] at fs
  unfold zbn at fs
  clear hcod
  simp only [n0] at f3
  simp (maxSteps:=999999) (disch:=first | assumption | omega) only [go_sem,simprocAttr,au,f1,f2,f3,f5,f6,hfc,hnp,hlow,tk,fs]
 ·rw [hcod,if_neg hk0] at fs
  have hk0':((k:Int)=0)=False:=by apply eq_false;omega
  clear hcod
  generalize zab u=fu at *
  simp (maxSteps:=999999) (disch:=first | assumption | omega) only [go_sem,simprocAttr,au,f1,f2,f3,f5,f6,hfc,hnp,hlow,tk,fs,hk0']
theorem ydk {s m:Str} {out:List Str} {ok:Bool} (h:zmd s m=some (out,ok)):out.length≤s.length+1:=by
 unfold zmd at h
 split at h
 case isFalse=>cases h
 rename_i hb
 have hl:=zfd hb
 have:=zzn (step:=bodT s m) (d:=none) (I:=fun q=>q.1.length≤q.2.2∧q.2.2≤s.length) (μ:=fun q=>s.length - q.2.2) (Q:=fun r=>∀ out ok,r=some (out,ok)→out.length≤s.length+1) (fun q hq=>by
  obtain ⟨out,fr,i⟩:=q
  obtain ⟨h1,h2⟩:=hq
  dsimp only at h1 h2
  unfold bodT
  dsimp only
  have lb:(zgu m).length=m.length+6:=by simp [zgu]
  by_cases hlt:i<s.length
  ·rw [if_pos hlt]
   by_cases hb1:za4 s (zgu m) i=true
   ·have:=zfd hb1
    rw [if_pos hb1]
    simp only [List.length_append,List.length_cons,List.length_nil]
    omega
   ·rw [if_neg hb1]
    by_cases hb2:za4 s (endB m) i=true
    ·rw [if_pos hb2]
     intro o2 ok2 e
     cases e
     simp only [List.length_append,List.length_cons,List.length_nil]
     omega
    ·rw [if_neg hb2]
     dsimp only
     omega
  ·rw [if_neg hlt]
   intro o2 ok2 e
   cases e) (s.length+1) ([],(zgt m).length,(zgt m).length) ⟨Nat.zero_le _,by dsimp only;omega⟩ (by dsimp only;omega)
 exact this _ _ h
theorem zgl (s mark:Str) (hs:s.length≤10000) (hm:mark.length≤1000000):∃ (out:List Str) (ok:Bool),evW code lib 67 [.flat (.string (S s)),.flat (.string (S mark))] [] []=some ([.slc out.length (zas out),.flat (.bool ok)],false,[],[])∧zch s mark=(if ok=true then some out else none)∧out.length≤10001:=by
 have h:=z6g (lib:=lib) s mark (by omega) hm
 rw [ydh]
 cases hb:zmd s mark with
 | none =>
   rw [hb] at h
   exact ⟨[],false,h,rfl,by simp⟩
 | some r =>
   obtain ⟨out,ok⟩:=r
   have:=ydk hb
   rw [hb] at h
   refine ⟨out,ok,h,?_,by omega⟩
   cases ok<;>rfl
theorem zfx:∀ (l:List Fld) (m:Str),(∀ f∈l,f.2.length≤1000000)→m.length≤1000000→(zcy l m).length≤1000000
 | [],m,_,h=>h
 | (a,b)::l,m,h,hm=>by
   rw [zcy]
   refine zfx l _ (fun f hf=>h f (by simp [hf])) ?_
   split
   ·exact h (a,b) (by simp)
   ·exact hm
theorem ydl (L:LibR lib) {deep j:Nat} {s:Str} (hs:s.length≤10000) (hd:deep≤10) (hj:j≤64) {F:List Fld} {at_:Nat} (h1:zba s=.ok F at_) (hk:(getU sCte F).2<2) (hn:(getU sCt F).2=1) {m:Str} {l:List Fld} (hp:zbr (getU sCt F).1=.ok m l) (ht:zeu (zab m)=true) (hmu:za1.isPrefixOf (zab m)=true) (hc:¬ codP F=zbn) :
 evW code lib 37 [.flat (.string (S s)),.flat (.int .i64 (deep:Nat)),.flat (.int .i64 (j:Nat))] [] []=some ([.agg zad,.flat (.int .i64 (j:Nat)),.flat (.int .i64 7)],false,[],[]):=by
 obtain ⟨hF,k2,k3⟩:=zaz h1 (by omega)
 have hgl:(getU sCt F).1.length≤10000:=zau F _ (by simp) fun f hf=>by have:=(k3 f hf).2;omega
 have hgl2:(getU sCte F).1.length≤10000:=zau F _ (by simp) fun f hf=>by have:=(k3 f hf).2;omega
 have f1:=zdt L.spl s hs
 rw [h1] at f1
 dsimp only at f1
 have f2:=zne L.fold F hF
 have f3:=znf L.fold F hF
 have hnp:=zak F
 have hlow:=fun n=>zae (n:=n) F
 have hpa:=zfw L.par _ hgl
 rw [hp] at hpa
 dsimp only at hpa
 obtain ⟨hsl,hml⟩:=zaq hp hgl
 have hml:m.length≤10000:=by omega
 have f4:=zbt L.fold m (by omega)
 have hfl:(zab m).length≤10000:=by simp only [zab,List.length_map];omega
 have f5:=zc3 (lib:=lib) (zab m) (by omega)
 have f6:=zb2 (lib:=lib) (zab m) za1 0 (by omega) (by decide) (by decide)
 have hfc:=zbt L.fold (getU sCte F).1 (by omega)
 have hnpl:=zak l
 have hlowl:=fun n=>zae (n:=n) l
 obtain ⟨⟨v,n⟩,hv⟩:∃ v,getU sCt F=v:=⟨_,rfl⟩
 obtain ⟨⟨u,k⟩,hu⟩:∃ v,getU sCte F=v:=⟨_,rfl⟩
 have hcod:codP F=zab (if k=0 then zbn else u):=by unfold codP;rw [hu]
 rw [hv] at f2 hn hpa hgl
 rw [hu] at f3 hk hfc hgl2
 dsimp only at f2 f3 hn hk hpa hfc hgl hgl2
 subst hn
 simp only [n1] at f2
 have hlo:=zdd (lib:=lib) L.fold l hsl s u (zab m) deep j at_ k F.length (zac F) hlow
 unfold zad at hlo
 unfold za1 at f6
 simp only [n0] at f6
 have hsl2:=hsl.1
 have hFl:=hF.1
 have tk:(s.take s.length).drop at_=s.drop at_:=by rw [List.take_length]
 rw [ht] at f5
 have hb:za4 (zab m) [109,117,108,116,105,112,97,114,116,47] 0=true:=by rw [zd1 (Nat.zero_le _),List.drop_zero];exact hmu
 rw [hb] at f6
 have hmkl:=zfx l [] (fun f hf=>(hsl.2 f hf).2) (by simp)
 obtain ⟨out,ok,hbo,hbp,hol⟩:=zgl (lib:=lib) (s.drop at_) (zcy l []) (by rw [List.length_drop];omega) hmkl
 have hma:=ze7 (lib:=lib) (zcy l []) (by omega)
 have hnpo:=zbf out
 have hlwo:=fun n=>zam (n:=n) out
 clear h1 hF k3 L hsl hp hb hmu
 generalize zac F=fc at *
 generalize zac l=fl at *
 generalize zab m=ty at *
 generalize zcy l []=mk at *
 refine zbw zbh (Nat.le_of_ble_eq_true rfl) ?_
 try unfold zad
 by_cases hk0:k=0
 ·subst hk0
  rw [hcod,if_pos rfl] at hc
  exact absurd (by decide) hc
 ·rw [hcod,if_neg hk0] at hc
  have hk0':((k:Int)=0)=False:=by apply eq_false;omega
  clear hcod
  generalize zab u=fu at *
  have hcq:(fu=[55,98,105,116])=False:=eq_false hc
  simp (maxSteps:=999999) (disch:=first | assumption | omega) only [go_sem,simprocAttr,au,f1,f2,f3,f4,f5,f6,hfc,hnp,hlow,hpa,hnpl,hlowl,hlo,tk,hbo,hma,hnpo,hlwo,hk0',hcq]
theorem yju (L:LibR lib) {deep j:Nat} {s:Str} (hs:s.length≤10000) (hd:deep≤10) (hj:j≤64) {F:List Fld} {at_:Nat} (h1:zba s=.ok F at_) (hk:(getU sCte F).2<2) (hn:(getU sCt F).2=1) {m:Str} {l:List Fld} (hp:zbr (getU sCt F).1=.ok m l) (ht:zeu (zab m)=true) (hmu:za1.isPrefixOf (zab m)=true) (hc:codP F=zbn) (hM:zht (zcy l [])=false) :
 evW code lib 37 [.flat (.string (S s)),.flat (.int .i64 (deep:Nat)),.flat (.int .i64 (j:Nat))] [] []=some ([.agg zad,.flat (.int .i64 (j:Nat)),.flat (.int .i64 7)],false,[],[]):=by
 obtain ⟨hF,k2,k3⟩:=zaz h1 (by omega)
 have hgl:(getU sCt F).1.length≤10000:=zau F _ (by simp) fun f hf=>by have:=(k3 f hf).2;omega
 have hgl2:(getU sCte F).1.length≤10000:=zau F _ (by simp) fun f hf=>by have:=(k3 f hf).2;omega
 have f1:=zdt L.spl s hs
 rw [h1] at f1
 dsimp only at f1
 have f2:=zne L.fold F hF
 have f3:=znf L.fold F hF
 have hnp:=zak F
 have hlow:=fun n=>zae (n:=n) F
 have hpa:=zfw L.par _ hgl
 rw [hp] at hpa
 dsimp only at hpa
 obtain ⟨hsl,hml⟩:=zaq hp hgl
 have hml:m.length≤10000:=by omega
 have f4:=zbt L.fold m (by omega)
 have hfl:(zab m).length≤10000:=by simp only [zab,List.length_map];omega
 have f5:=zc3 (lib:=lib) (zab m) (by omega)
 have f6:=zb2 (lib:=lib) (zab m) za1 0 (by omega) (by decide) (by decide)
 have hfc:=zbt L.fold (getU sCte F).1 (by omega)
 have hnpl:=zak l
 have hlowl:=fun n=>zae (n:=n) l
 obtain ⟨⟨v,n⟩,hv⟩:∃ v,getU sCt F=v:=⟨_,rfl⟩
 obtain ⟨⟨u,k⟩,hu⟩:∃ v,getU sCte F=v:=⟨_,rfl⟩
 have hcod:codP F=zab (if k=0 then zbn else u):=by unfold codP;rw [hu]
 rw [hv] at f2 hn hpa hgl
 rw [hu] at f3 hk hfc hgl2
 dsimp only at f2 f3 hn hk hpa hfc hgl hgl2
 subst hn
 simp only [n1] at f2
 have hlo:=zdd (lib:=lib) L.fold l hsl s u (zab m) deep j at_ k F.length (zac F) hlow
 unfold zad at hlo
 unfold za1 at f6
 simp only [n0] at f6
 have hsl2:=hsl.1
 have hFl:=hF.1
 have tk:(s.take s.length).drop at_=s.drop at_:=by rw [List.take_length]
 rw [ht] at f5
 have hb:za4 (zab m) [109,117,108,116,105,112,97,114,116,47] 0=true:=by rw [zd1 (Nat.zero_le _),List.drop_zero];exact hmu
 rw [hb] at f6
 have hmkl:=zfx l [] (fun f hf=>(hsl.2 f hf).2) (by simp)
 obtain ⟨out,ok,hbo,hbp,hol⟩:=zgl (lib:=lib) (s.drop at_) (zcy l []) (by rw [List.length_drop];omega) hmkl
 have hma:=ze7 (lib:=lib) (zcy l []) (by omega)
 have hnpo:=zbf out
 have hlwo:=fun n=>zam (n:=n) out
 rw [hM] at hma
 clear h1 hF k3 L hsl hp hb hmu
 generalize zac F=fc at *
 generalize zac l=fl at *
 generalize zab m=ty at *
 generalize zcy l []=mk at *
 refine zbw zbh (Nat.le_of_ble_eq_true rfl) ?_
 try unfold zad
 by_cases hk0:k=0
 ·subst hk0
  simp only [n0] at hlo f3
  clear hcod hc
  simp (maxSteps:=999999) (disch:=first | assumption | omega) only [go_sem,simprocAttr,au,f1,f2,f3,f4,f5,f6,hfc,hnp,hlow,hpa,hnpl,hlowl,hlo,tk,hbo,hma,hnpo,hlwo]
 ·rw [hcod,if_neg hk0] at hc
  have hk0':((k:Int)=0)=False:=by apply eq_false;omega
  clear hcod
  generalize zab u=fu at *
  have hcq:(fu=[55,98,105,116])=True:=eq_true hc
  simp (maxSteps:=999999) (disch:=first | assumption | omega) only [go_sem,simprocAttr,au,f1,f2,f3,f4,f5,f6,hfc,hnp,hlow,hpa,hnpl,hlowl,hlo,tk,hbo,hma,hnpo,hlwo,hk0',hcq]
theorem ydm (L:LibR lib) {deep j:Nat} {s:Str} (hs:s.length≤10000) (hd:deep≤10) (hj:j≤64) {F:List Fld} {at_:Nat} (h1:zba s=.ok F at_) (hk:(getU sCte F).2<2) (hn:(getU sCt F).2=1) {m:Str} {l:List Fld} (hp:zbr (getU sCt F).1=.ok m l) (ht:zeu (zab m)=true) (hmu:za1.isPrefixOf (zab m)=true) (hc:codP F=zbn) (hM:zht (zcy l [])=true) (hB:zch (s.drop at_) (zcy l [])=none) :
 evW code lib 37 [.flat (.string (S s)),.flat (.int .i64 (deep:Nat)),.flat (.int .i64 (j:Nat))] [] []=some ([.agg zad,.flat (.int .i64 (j:Nat)),.flat (.int .i64 7)],false,[],[]):=by
 obtain ⟨hF,k2,k3⟩:=zaz h1 (by omega)
 have hgl:(getU sCt F).1.length≤10000:=zau F _ (by simp) fun f hf=>by have:=(k3 f hf).2;omega
 have hgl2:(getU sCte F).1.length≤10000:=zau F _ (by simp) fun f hf=>by have:=(k3 f hf).2;omega
 have f1:=zdt L.spl s hs
 rw [h1] at f1
 dsimp only at f1
 have f2:=zne L.fold F hF
 have f3:=znf L.fold F hF
 have hnp:=zak F
 have hlow:=fun n=>zae (n:=n) F
 have hpa:=zfw L.par _ hgl
 rw [hp] at hpa
 dsimp only at hpa
 obtain ⟨hsl,hml⟩:=zaq hp hgl
 have hml:m.length≤10000:=by omega
 have f4:=zbt L.fold m (by omega)
 have hfl:(zab m).length≤10000:=by simp only [zab,List.length_map];omega
 have f5:=zc3 (lib:=lib) (zab m) (by omega)
 have f6:=zb2 (lib:=lib) (zab m) za1 0 (by omega) (by decide) (by decide)
 have hfc:=zbt L.fold (getU sCte F).1 (by omega)
 have hnpl:=zak l
 have hlowl:=fun n=>zae (n:=n) l
 obtain ⟨⟨v,n⟩,hv⟩:∃ v,getU sCt F=v:=⟨_,rfl⟩
 obtain ⟨⟨u,k⟩,hu⟩:∃ v,getU sCte F=v:=⟨_,rfl⟩
 have hcod:codP F=zab (if k=0 then zbn else u):=by unfold codP;rw [hu]
 rw [hv] at f2 hn hpa hgl
 rw [hu] at f3 hk hfc hgl2
 dsimp only at f2 f3 hn hk hpa hfc hgl hgl2
 subst hn
 simp only [n1] at f2
 have hlo:=zdd (lib:=lib) L.fold l hsl s u (zab m) deep j at_ k F.length (zac F) hlow
 unfold zad at hlo
 unfold za1 at f6
 simp only [n0] at f6
 have hsl2:=hsl.1
 have hFl:=hF.1
 have tk:(s.take s.length).drop at_=s.drop at_:=by rw [List.take_length]
 rw [ht] at f5
 have hb:za4 (zab m) [109,117,108,116,105,112,97,114,116,47] 0=true:=by rw [zd1 (Nat.zero_le _),List.drop_zero];exact hmu
 rw [hb] at f6
 have hmkl:=zfx l [] (fun f hf=>(hsl.2 f hf).2) (by simp)
 obtain ⟨out,ok,hbo,hbp,hol⟩:=zgl (lib:=lib) (s.drop at_) (zcy l []) (by rw [List.length_drop];omega) hmkl
 have hma:=ze7 (lib:=lib) (zcy l []) (by omega)
 have hnpo:=zbf out
 have hlwo:=fun n=>zam (n:=n) out
 rw [hM] at hma
 have hok:ok=false:=by
  rw [hbp] at hB
  cases ok with
  | true=>cases hB
  | false=>rfl
 rw [hok] at hbo
 clear hB hbp
 clear h1 hF k3 L hsl hp hb hmu
 generalize zac F=fc at *
 generalize zac l=fl at *
 generalize zab m=ty at *
 generalize zcy l []=mk at *
 refine zbw zbh (Nat.le_of_ble_eq_true rfl) ?_
 try unfold zad
 by_cases hk0:k=0
 ·subst hk0
  simp only [n0] at hlo f3
  clear hcod hc
  simp (maxSteps:=999999) (disch:=first | assumption | omega) only [go_sem,simprocAttr,au,f1,f2,f3,f4,f5,f6,hfc,hnp,hlow,hpa,hnpl,hlowl,hlo,tk,hbo,hma,hnpo,hlwo]
 ·rw [hcod,if_neg hk0] at hc
  have hk0':((k:Int)=0)=False:=by apply eq_false;omega
  clear hcod
  generalize zab u=fu at *
  have hcq:(fu=[55,98,105,116])=True:=eq_true hc
  simp (maxSteps:=999999) (disch:=first | assumption | omega) only [go_sem,simprocAttr,au,f1,f2,f3,f4,f5,f6,hfc,hnp,hlow,hpa,hnpl,hlowl,hlo,tk,hbo,hma,hnpo,hlwo,hk0',hcq]
theorem z8c (L:LibR lib) {deep j:Nat} {s:Str} (hs:s.length≤10000) (hd:deep≤10) (hj:j≤64) {F:List Fld} {at_:Nat} (h1:zba s=.ok F at_) (hk:(getU sCte F).2<2) (hn:(getU sCt F).2=1) {m:Str} {l:List Fld} (hp:zbr (getU sCt F).1=.ok m l) (ht:zeu (zab m)=true) (hmu:za1.isPrefixOf (zab m)=true) (hc:codP F=zbn) (hM:zht (zcy l [])=true) {all:List Str} (hB:zch (s.drop at_) (zcy l [])=some all) (hdp:4≤deep) :
 evW code lib 37 [.flat (.string (S s)),.flat (.int .i64 (deep:Nat)),.flat (.int .i64 (j:Nat))] [] []=some ([.agg zad,.flat (.int .i64 (j:Nat)),.flat (.int .i64 8)],false,[],[]):=by
 obtain ⟨hF,k2,k3⟩:=zaz h1 (by omega)
 have hgl:(getU sCt F).1.length≤10000:=zau F _ (by simp) fun f hf=>by have:=(k3 f hf).2;omega
 have hgl2:(getU sCte F).1.length≤10000:=zau F _ (by simp) fun f hf=>by have:=(k3 f hf).2;omega
 have f1:=zdt L.spl s hs
 rw [h1] at f1
 dsimp only at f1
 have f2:=zne L.fold F hF
 have f3:=znf L.fold F hF
 have hnp:=zak F
 have hlow:=fun n=>zae (n:=n) F
 have hpa:=zfw L.par _ hgl
 rw [hp] at hpa
 dsimp only at hpa
 obtain ⟨hsl,hml⟩:=zaq hp hgl
 have hml:m.length≤10000:=by omega
 have f4:=zbt L.fold m (by omega)
 have hfl:(zab m).length≤10000:=by simp only [zab,List.length_map];omega
 have f5:=zc3 (lib:=lib) (zab m) (by omega)
 have f6:=zb2 (lib:=lib) (zab m) za1 0 (by omega) (by decide) (by decide)
 have hfc:=zbt L.fold (getU sCte F).1 (by omega)
 have hnpl:=zak l
 have hlowl:=fun n=>zae (n:=n) l
 obtain ⟨⟨v,n⟩,hv⟩:∃ v,getU sCt F=v:=⟨_,rfl⟩
 obtain ⟨⟨u,k⟩,hu⟩:∃ v,getU sCte F=v:=⟨_,rfl⟩
 have hcod:codP F=zab (if k=0 then zbn else u):=by unfold codP;rw [hu]
 rw [hv] at f2 hn hpa hgl
 rw [hu] at f3 hk hfc hgl2
 dsimp only at f2 f3 hn hk hpa hfc hgl hgl2
 subst hn
 simp only [n1] at f2
 have hlo:=zdd (lib:=lib) L.fold l hsl s u (zab m) deep j at_ k F.length (zac F) hlow
 unfold zad at hlo
 unfold za1 at f6
 simp only [n0] at f6
 have hsl2:=hsl.1
 have hFl:=hF.1
 have tk:(s.take s.length).drop at_=s.drop at_:=by rw [List.take_length]
 rw [ht] at f5
 have hb:za4 (zab m) [109,117,108,116,105,112,97,114,116,47] 0=true:=by rw [zd1 (Nat.zero_le _),List.drop_zero];exact hmu
 rw [hb] at f6
 have hmkl:=zfx l [] (fun f hf=>(hsl.2 f hf).2) (by simp)
 obtain ⟨out,ok,hbo,hbp,hol⟩:=zgl (lib:=lib) (s.drop at_) (zcy l []) (by rw [List.length_drop];omega) hmkl
 have hma:=ze7 (lib:=lib) (zcy l []) (by omega)
 have hnpo:=zbf out
 have hlwo:=fun n=>zam (n:=n) out
 rw [hM] at hma
 have hok:ok=true∧out=all:=by
  rw [hbp] at hB
  cases ok with
  | true=>cases hB;exact ⟨rfl,rfl⟩
  | false=>cases hB
 rw [hok.1] at hbo
 obtain rfl:=hok.2
 clear hB hbp hok
 clear h1 hF k3 L hsl hp hb hmu
 generalize zac F=fc at *
 generalize zac l=fl at *
 generalize zab m=ty at *
 generalize zcy l []=mk at *
 refine zbw zbh (Nat.le_of_ble_eq_true rfl) ?_
 try unfold zad
 by_cases hk0:k=0
 ·subst hk0
  simp only [n0] at hlo f3
  clear hcod hc
  simp (maxSteps:=999999) (disch:=first | assumption | omega) only [go_sem,simprocAttr,au,f1,f2,f3,f4,f5,f6,hfc,hnp,hlow,hpa,hnpl,hlowl,hlo,tk,hbo,hma,hnpo,hlwo]
 ·rw [hcod,if_neg hk0] at hc
  have hk0':((k:Int)=0)=False:=by apply eq_false;omega
  clear hcod
  generalize zab u=fu at *
  have hcq:(fu=[55,98,105,116])=True:=eq_true hc
  simp (maxSteps:=999999) (disch:=first | assumption | omega) only [go_sem,simprocAttr,au,f1,f2,f3,f4,f5,f6,hfc,hnp,hlow,hpa,hnpl,hlowl,hlo,tk,hbo,hma,hnpo,hlwo,hk0',hcq]
theorem z8d (L:LibR lib) {deep j:Nat} {s:Str} (hs:s.length≤10000) (hd:deep≤10) (hj:j≤64) {F:List Fld} {at_:Nat} (h1:zba s=.ok F at_) (hk:(getU sCte F).2<2) (hn:(getU sCt F).2=1) {m:Str} {l:List Fld} (hp:zbr (getU sCt F).1=.ok m l) (ht:zeu (zab m)=true) (hmu:za1.isPrefixOf (zab m)=true) (hc:codP F=zbn) (hM:zht (zcy l [])=true) {all:List Str} (hB:zch (s.drop at_) (zcy l [])=some all) (hdp:deep<4) (hfu:64<j+all.length) :
 evW code lib 37 [.flat (.string (S s)),.flat (.int .i64 (deep:Nat)),.flat (.int .i64 (j:Nat))] [] []=some ([.agg zad,.flat (.int .i64 ((j+all.length:Nat):Nat)),.flat (.int .i64 5)],false,[],[]):=by
 obtain ⟨hF,k2,k3⟩:=zaz h1 (by omega)
 have hgl:(getU sCt F).1.length≤10000:=zau F _ (by simp) fun f hf=>by have:=(k3 f hf).2;omega
 have hgl2:(getU sCte F).1.length≤10000:=zau F _ (by simp) fun f hf=>by have:=(k3 f hf).2;omega
 have f1:=zdt L.spl s hs
 rw [h1] at f1
 dsimp only at f1
 have f2:=zne L.fold F hF
 have f3:=znf L.fold F hF
 have hnp:=zak F
 have hlow:=fun n=>zae (n:=n) F
 have hpa:=zfw L.par _ hgl
 rw [hp] at hpa
 dsimp only at hpa
 obtain ⟨hsl,hml⟩:=zaq hp hgl
 have hml:m.length≤10000:=by omega
 have f4:=zbt L.fold m (by omega)
 have hfl:(zab m).length≤10000:=by simp only [zab,List.length_map];omega
 have f5:=zc3 (lib:=lib) (zab m) (by omega)
 have f6:=zb2 (lib:=lib) (zab m) za1 0 (by omega) (by decide) (by decide)
 have hfc:=zbt L.fold (getU sCte F).1 (by omega)
 have hnpl:=zak l
 have hlowl:=fun n=>zae (n:=n) l
 obtain ⟨⟨v,n⟩,hv⟩:∃ v,getU sCt F=v:=⟨_,rfl⟩
 obtain ⟨⟨u,k⟩,hu⟩:∃ v,getU sCte F=v:=⟨_,rfl⟩
 have hcod:codP F=zab (if k=0 then zbn else u):=by unfold codP;rw [hu]
 rw [hv] at f2 hn hpa hgl
 rw [hu] at f3 hk hfc hgl2
 dsimp only at f2 f3 hn hk hpa hfc hgl hgl2
 subst hn
 simp only [n1] at f2
 have hlo:=zdd (lib:=lib) L.fold l hsl s u (zab m) deep j at_ k F.length (zac F) hlow
 unfold zad at hlo
 unfold za1 at f6
 simp only [n0] at f6
 have hsl2:=hsl.1
 have hFl:=hF.1
 have tk:(s.take s.length).drop at_=s.drop at_:=by rw [List.take_length]
 rw [ht] at f5
 have hb:za4 (zab m) [109,117,108,116,105,112,97,114,116,47] 0=true:=by rw [zd1 (Nat.zero_le _),List.drop_zero];exact hmu
 rw [hb] at f6
 have hmkl:=zfx l [] (fun f hf=>(hsl.2 f hf).2) (by simp)
 obtain ⟨out,ok,hbo,hbp,hol⟩:=zgl (lib:=lib) (s.drop at_) (zcy l []) (by rw [List.length_drop];omega) hmkl
 have hma:=ze7 (lib:=lib) (zcy l []) (by omega)
 have hnpo:=zbf out
 have hlwo:=fun n=>zam (n:=n) out
 rw [hM] at hma
 have hok:ok=true∧out=all:=by
  rw [hbp] at hB
  cases ok with
  | true=>cases hB;exact ⟨rfl,rfl⟩
  | false=>cases hB
 rw [hok.1] at hbo
 obtain rfl:=hok.2
 clear hB hbp hok
 clear h1 hF k3 L hsl hp hb hmu
 generalize zac F=fc at *
 generalize zac l=fl at *
 generalize zab m=ty at *
 generalize zcy l []=mk at *
 refine zbw zbh (Nat.le_of_ble_eq_true rfl) ?_
 try unfold zad
 by_cases hk0:k=0
 ·subst hk0
  simp only [n0] at hlo f3
  clear hcod hc
  simp (maxSteps:=999999) (disch:=first | assumption | omega) only [go_sem,simprocAttr,au,f1,f2,f3,f4,f5,f6,hfc,hnp,hlow,hpa,hnpl,hlowl,hlo,tk,hbo,hma,hnpo,hlwo]
 ·rw [hcod,if_neg hk0] at hc
  have hk0':((k:Int)=0)=False:=by apply eq_false;omega
  clear hcod
  generalize zab u=fu at *
  have hcq:(fu=[55,98,105,116])=True:=eq_true hc
  simp (maxSteps:=999999) (disch:=first | assumption | omega) only [go_sem,simprocAttr,au,f1,f2,f3,f4,f5,f6,hfc,hnp,hlow,hpa,hnpl,hlowl,hlo,tk,hbo,hma,hnpo,hlwo,hk0',hcq]
def bxR (nF:Nat) (fc:List PV) (ty:Str) (ps:List LP):zao:=[(36,zad),(36,zad),(36,[.slc nF fc,.flat (.string (S ty)),.flat (.string (S [])),.slc ps.length (zaw ps)])]
def zhv (deep nF:Nat) (fc:List PV) (ty:Str) (all:List Str) (q:Nat × Nat × List LP):St:=⟨[(1,.flat (.int .i64 (deep:Nat))),(2,.flat (.int .i64 (q.2.1:Nat))),(6,.ptr 0 0),(9,.ptr 1 0),(17,.ptr 2 0),(26,.slc all.length (zas all)),(28,.flat (.int .i64 (q.1:Nat)))],[.cell 2 3,.cell 1 0,.cell 1 3,.cell 0 0,.cell 0 3],[],bxR nF fc ty q.2.2⟩
theorem yjv {deep j j' k nF:Nat} {fc:List PV} (hlow:∀ n,lows n fc=true) {ty x:Str} {all:List Str} {ps:List LP} (hk:k<all.length) (hal:all.length≤64) (hd:deep≤10) (hj:j≤64) (hj':j'≤64) (hps:ps.length=k) (hdr:all.drop k=x::all.drop (k+1)) {p:LP}
 (h:evW code lib 37 [.flat (.string (S x)),.flat (.int .i64 ((deep:Int)+1)),.flat (.int .i64 (j:Nat))] [] []=some ([.agg p.cells,.flat (.int .i64 (j':Nat)),.flat (.int .i64 0)],false,[],[])) :
 evC (evW code lib) big zdo (zhv deep nF fc ty all (k,j,ps))=some (.normal,zhv deep nF fc ty all (k+1,j',ps++[p])):=by
 have hbv:bound=4294967296:=rfl
 have hd2:(zas all).drop k=.flat (.string (S x))::(zas all).drop (k+1):=by
  have:=congrArg zas hdr
  simpa [zas,List.map_drop] using this
 have hl0:=za0 (l:=all)
 have hl2:((zas all).drop (k+1)).length+1=all.length - k:=by rw [List.length_drop,hl0];omega
 have hlps:=zei ps
 have hlw:=fun n=>zax (n:=n) ps
 have hnu:=zhu ps
 have hla:=fun n=>zam (n:=n) all
 obtain ⟨F,t1,t2,qs⟩:=p
 have w0:=fun n=>zae (n:=n) F
 have w1:=fun n=>zax (n:=n) qs
 have np0:=zak F
 have np1:=zcl qs
 simp only [LP.cells] at h
 have hcc:zaw (ps++[LP.mk F t1 t2 qs])=zaw ps++[.slc F.length (zac F),.flat (.string (S t1)),.flat (.string (S t2)),.slc qs.length (zaw qs)]:=by
  rw [← zk8];simp only [zaw,LP.cells,List.append_nil]
 unfold zhv bxR zad
 dsimp only
 simp (maxSteps:=999999) (disch:=first | assumption | omega) only [go_sem,simprocAttr,au,zja,zph,hcc,List.length_append,h,hd2,hl0,hl2,hlow,hlps,hlw,hnu,hla,w0,w1,np0,np1]
theorem yp1 {deep j x' k nF:Nat} {fc:List PV} (hlow:∀ n,lows n fc=true) {ty x:Str} {all:List Str} {ps:List LP} (hk:k<all.length) (hal:all.length≤64) (hd:deep≤10) (hj:j≤64) (hps:ps.length=k) (hdr:all.drop k=x::all.drop (k+1)) {e:Nat} (he:0<e) (he2:e≤100)
 (h:evW code lib 37 [.flat (.string (S x)),.flat (.int .i64 ((deep:Int)+1)),.flat (.int .i64 (j:Nat))] [] []=some ([.agg zad,.flat (.int .i64 (x':Nat)),.flat (.int .i64 (e:Nat))],false,[],[])) :
 ∃ ow bx,evC (evW code lib) big zdo (zhv deep nF fc ty all (k,j,ps))=some (.ret,⟨[(6,.ptr 0 0),(7,.flat (.int .i64 (j:Nat))),(8,.flat (.int .i64 (e:Nat)))],ow,[],(36,zad)::bx⟩):=by
 have hbv:bound=4294967296:=rfl
 have hd2:(zas all).drop k=.flat (.string (S x))::(zas all).drop (k+1):=by
  have:=congrArg zas hdr
  simpa [zas,List.map_drop] using this
 have hl0:=za0 (l:=all)
 have hl2:((zas all).drop (k+1)).length+1=all.length - k:=by rw [List.length_drop,hl0];omega
 have hlps:=zei ps
 have hlw:=fun n=>zax (n:=n) ps
 have hla:=fun n=>zam (n:=n) all
 have he':((e:Int)=0)=False:=by apply eq_false;omega
 unfold zhv bxR zad
 unfold zad at h
 dsimp only
 refine ⟨?_,?_,?_⟩
 rotate_left 2
 simp (maxSteps:=999999) (disch:=first | assumption | omega) only [go_sem,simprocAttr,au,zja,zph,h,he',hd2,hl0,hl2,hlow,hlps,hlw,hla]
 all_goals rfl
theorem zpm:∀ ow:List Loc,zcq 0 ow=[]
 | []=>rfl
 | .slot i::r=>zpm r
 | .cell b o::r=>by rw [zk2,if_neg (by omega)];exact zpm r
theorem zwy {f:Str→Nat→Except Nat (LP × Nat)} (hf:∀ s n e,f s n=.error e→0<e∧e≤100):∀ (l:List Str) (n e:Nat),zf7 f l n=.error e→0<e∧e≤100
 | [],n,e,h=>by cases h
 | x::l,n,e,h=>by
   unfold zf7 at h
   split at h
   ·rename_i h1;cases h;exact hf _ _ _ h1
   ·split at h
    ·rename_i h2;cases h;exact zwy hf l _ _ h2
    ·cases h
theorem yen {f:Str→Nat→Except Nat (LP × Nat)} {deep nF:Nat} (hf:∀ s n p m,f s n=.ok (p,m)→n≤64→m≤64) (hfe:∀ s n e,f s n=.error e→0<e∧e≤100) (hrec:∀ s j,s.length≤10000→j≤64→zng lib f (deep+1) s j) {fc:List PV} (hlow:∀ n,lows n fc=true) {ty:Str} {all:List Str} (hx:∀ x∈all,x.length≤10000) (hal:all.length≤64) (hd:deep≤10) :
 ∀ (r k j n:Nat) (ps:List LP),all.length - k=r→k≤all.length→j≤64→ps.length=k→r<n→(match zf7 f (all.drop k) j with
   | .ok (qs,m)=>zb3 (evC (evW code lib) big zdo) [1,2,6,9,17,26,28] 3 n (zhv deep nF fc ty all (k,j,ps))=some (.exit 2,⟨[(2,.flat (.int .i64 (m:Nat))),(6,.ptr 0 0),(17,.ptr 2 0)],[.cell 2 3,.cell 1 0,.cell 1 3,.cell 0 0,.cell 0 3],[],bxR nF fc ty (ps++qs)⟩)
   | .error e=>∃ (x:Nat) (ow:List Loc) (bx:zao),x≤64∧zb3 (evC (evW code lib) big zdo) [1,2,6,9,17,26,28] 3 n (zhv deep nF fc ty all (k,j,ps))=some (.ret,⟨[(6,.ptr 0 0),(7,.flat (.int .i64 (x:Nat))),(8,.flat (.int .i64 (e:Nat)))],ow,[],(36,zad)::bx⟩)):=by
 intro r
 induction r with
 | zero =>
   intro k j n ps hr hk hj hps hn
   obtain rfl:k=all.length:=by omega
   obtain ⟨n,rfl⟩:∃ q,n=q+1:=⟨n - 1,by omega⟩
   rw [List.drop_length]
   simp only [zf7,List.append_nil]
   have hla:=fun n=>zam (n:=n) all
   have hl0:=za0 (l:=all)
   have hlw:=fun n=>zax (n:=n) ps
   rw [zl9]
   unfold zhv bxR zad
   dsimp only
   simp (maxSteps:=999999) (disch:=first | assumption | omega) only [go_sem,simprocAttr,au,zja,hla,hl0,hlow,hlw,zma,zub]
 | succ r ih =>
   intro k j n ps hr hk hj hps hn
   obtain ⟨n,rfl⟩:∃ q,n=q+1:=⟨n - 1,by omega⟩
   have hkl:k<all.length:=by omega
   have hdr:all.drop k=all[k]::all.drop (k+1):=List.drop_eq_getElem_cons hkl
   have hxk:=hx _ (List.getElem_mem hkl)
   obtain ⟨x,hxe⟩:∃ x,all[k]=x:=⟨_,rfl⟩
   rw [hxe] at hdr hxk
   have hR:=hrec x j hxk hj
   unfold zng at hR
   rw [hdr]
   unfold zf7
   cases hfx:f x j with
   | error e =>
     rw [hfx] at hR
     obtain ⟨x',hx',hR⟩:=hR
     simp only [Int.natCast_add,Int.natCast_one] at hR
     obtain ⟨he1,he2⟩:=hfe _ _ _ hfx
     obtain ⟨ow,bx,hev⟩:=yp1 (nF:=nF) (ty:=ty) hlow hkl hal hd hj hps hdr he1 he2 hR
     refine ⟨j,ow,bx,hj,?_⟩
     rw [zl9,hev]
     rfl
   | ok pm =>
     obtain ⟨p,j'⟩:=pm
     rw [hfx] at hR
     simp only [Int.natCast_add,Int.natCast_one] at hR
     have hj':=hf _ _ _ _ hfx hj
     have hev:=yjv (nF:=nF) (ty:=ty) hlow hkl hal hd hj hj' hps hdr hR
     have honly:(zhv deep nF fc ty all (k+1,j',ps++[p])).only [1,2,6,9,17,26,28] 3=zhv deep nF fc ty all (k+1,j',ps++[p]):=by
      have hla:=fun n=>zam (n:=n) all
      have hlw:=fun n=>zax (n:=n) (ps++[p])
      unfold zhv bxR zad
      dsimp only
      simp only [go_sem,simprocAttr,hla,hlow,hlw]
     have hl:zb3 (evC (evW code lib) big zdo) [1,2,6,9,17,26,28] 3 (n+1) (zhv deep nF fc ty all (k,j,ps))=zb3 (evC (evW code lib) big zdo) [1,2,6,9,17,26,28] 3 n (zhv deep nF fc ty all (k+1,j',ps++[p])):=by
      rw [zl9,hev,zma,honly]
     have h:=ih (k+1) j' n (ps++[p]) (by omega) hkl hj' (by rw [List.length_append,hps];rfl) (by omega)
     rw [hl]
     dsimp only
     cases hl2:zf7 f (all.drop (k+1)) j' with
     | error e =>
       rw [hl2] at h
       exact h
     | ok q =>
       obtain ⟨qs,m⟩:=q
       rw [hl2] at h
       dsimp only at h ⊢
       rw [h,List.append_assoc];rfl
theorem z8e (L:LibR lib) {deep j:Nat} {s:Str} (hs:s.length≤10000) (hd:deep≤10) (hj:j≤64) {F:List Fld} {at_:Nat} (h1:zba s=.ok F at_) (hk:(getU sCte F).2<2) (hn:(getU sCt F).2=1) {m:Str} {l:List Fld} (hp:zbr (getU sCt F).1=.ok m l) (ht:zeu (zab m)=true) (hmu:za1.isPrefixOf (zab m)=true) (hc:codP F=zbn) (hM:zht (zcy l [])=true) {all:List Str} (hB:zch (s.drop at_) (zcy l [])=some all) (hdp:deep<4) (hfu:j+all.length≤64) {f:Str→Nat→Except Nat (LP × Nat)} (hf:∀ s n p m,f s n=.ok (p,m)→n≤64→m≤64) (hfe:∀ s n e,f s n=.error e→0<e∧e≤100) (hrec:∀ s j,s.length≤10000→j≤64→zng lib f (deep+1) s j) {e:Nat} (hli:zf7 f all (j+all.length)=.error e) (u0:True) :
 ∃ x:Nat,x≤64∧evW code lib 37 [.flat (.string (S s)),.flat (.int .i64 (deep:Nat)),.flat (.int .i64 (j:Nat))] [] []=some ([.agg zad,.flat (.int .i64 (x:Nat)),.flat (.int .i64 (e:Nat))],false,[],[]):=by
 obtain ⟨hF,k2,k3⟩:=zaz h1 (by omega)
 have hgl:(getU sCt F).1.length≤10000:=zau F _ (by simp) fun f hf=>by have:=(k3 f hf).2;omega
 have hgl2:(getU sCte F).1.length≤10000:=zau F _ (by simp) fun f hf=>by have:=(k3 f hf).2;omega
 have f1:=zdt L.spl s hs
 rw [h1] at f1
 dsimp only at f1
 have f2:=zne L.fold F hF
 have f3:=znf L.fold F hF
 have hnp:=zak F
 have hlow:=fun n=>zae (n:=n) F
 have hpa:=zfw L.par _ hgl
 rw [hp] at hpa
 dsimp only at hpa
 obtain ⟨hsl,hml⟩:=zaq hp hgl
 have hml:m.length≤10000:=by omega
 have f4:=zbt L.fold m (by omega)
 have hfl:(zab m).length≤10000:=by simp only [zab,List.length_map];omega
 have f5:=zc3 (lib:=lib) (zab m) (by omega)
 have f6:=zb2 (lib:=lib) (zab m) za1 0 (by omega) (by decide) (by decide)
 have hfc:=zbt L.fold (getU sCte F).1 (by omega)
 have hnpl:=zak l
 have hlowl:=fun n=>zae (n:=n) l
 obtain ⟨⟨v,n⟩,hv⟩:∃ v,getU sCt F=v:=⟨_,rfl⟩
 obtain ⟨⟨u,k⟩,hu⟩:∃ v,getU sCte F=v:=⟨_,rfl⟩
 have hcod:codP F=zab (if k=0 then zbn else u):=by unfold codP;rw [hu]
 rw [hv] at f2 hn hpa hgl
 rw [hu] at f3 hk hfc hgl2
 dsimp only at f2 f3 hn hk hpa hfc hgl hgl2
 subst hn
 simp only [n1] at f2
 have hlo:=zdd (lib:=lib) L.fold l hsl s u (zab m) deep j at_ k F.length (zac F) hlow
 unfold zad at hlo
 unfold za1 at f6
 simp only [n0] at f6
 have hsl2:=hsl.1
 have hFl:=hF.1
 have tk:(s.take s.length).drop at_=s.drop at_:=by rw [List.take_length]
 rw [ht] at f5
 have hb:za4 (zab m) [109,117,108,116,105,112,97,114,116,47] 0=true:=by rw [zd1 (Nat.zero_le _),List.drop_zero];exact hmu
 rw [hb] at f6
 have hmkl:=zfx l [] (fun f hf=>(hsl.2 f hf).2) (by simp)
 obtain ⟨out,ok,hbo,hbp,hol⟩:=zgl (lib:=lib) (s.drop at_) (zcy l []) (by rw [List.length_drop];omega) hmkl
 have hma:=ze7 (lib:=lib) (zcy l []) (by omega)
 have hnpo:=zbf out
 have hlwo:=fun n=>zam (n:=n) out
 have hlp:=yen (nF:=F.length) (ty:=zab m) hf hfe hrec hlow (zgg hB (by rw [List.length_drop];omega)) (by omega) hd all.length 0 (j+all.length) big [] (by omega) (Nat.zero_le _) hfu rfl (by unfold big;omega)
 rw [List.drop_zero,hli] at hlp
 unfold zhv bxR zad at hlp
 obtain ⟨x,ow,bx,hx64,hlp⟩:=hlp
 simp only [List.length_nil,zaw,n0,Int.natCast_add] at hlp
 refine ⟨x,hx64,?_⟩
 rw [hM] at hma
 have hok:ok=true∧out=all:=by
  rw [hbp] at hB
  cases ok with
  | true=>cases hB;exact ⟨rfl,rfl⟩
  | false=>cases hB
 rw [hok.1] at hbo
 obtain rfl:=hok.2
 clear hB hbp hok
 clear h1 hF k3 L hsl hp hb hmu
 generalize zac F=fc at *
 generalize zac l=fl at *
 generalize zab m=ty at *
 generalize zcy l []=mk at *
 refine zbw zbh (Nat.le_of_ble_eq_true rfl) ?_
 try unfold zad
 by_cases hk0:k=0
 ·subst hk0
  simp only [n0] at hlo f3
  clear hcod hc
  simp (maxSteps:=999999) (disch:=first | assumption | omega) only [go_sem,simprocAttr,au,f1,f2,f3,f4,f5,f6,hfc,hnp,hlow,hpa,hnpl,hlowl,hlo,tk,hbo,hma,hnpo,hlwo,hlp,zpm]
 ·rw [hcod,if_neg hk0] at hc
  have hk0':((k:Int)=0)=False:=by apply eq_false;omega
  clear hcod
  generalize zab u=fu at *
  have hcq:(fu=[55,98,105,116])=True:=eq_true hc
  simp (maxSteps:=999999) (disch:=first | assumption | omega) only [go_sem,simprocAttr,au,f1,f2,f3,f4,f5,f6,hfc,hnp,hlow,hpa,hnpl,hlowl,hlo,tk,hbo,hma,hnpo,hlwo,hk0',hcq,hlp,zpm]
theorem ydn (L:LibR lib) {deep j:Nat} {s:Str} (hs:s.length≤10000) (hd:deep≤10) (hj:j≤64) {F:List Fld} {at_:Nat} (h1:zba s=.ok F at_) (hk:(getU sCte F).2<2) (hn:(getU sCt F).2=1) {m:Str} {l:List Fld} (hp:zbr (getU sCt F).1=.ok m l) (ht:zeu (zab m)=true) (hmu:za1.isPrefixOf (zab m)=true) (hc:codP F=zbn) (hM:zht (zcy l [])=true) {all:List Str} (hB:zch (s.drop at_) (zcy l [])=some all) (hdp:deep<4) (hfu:j+all.length≤64) {f:Str→Nat→Except Nat (LP × Nat)} (hf:∀ s n p m,f s n=.ok (p,m)→n≤64→m≤64) (hfe:∀ s n e,f s n=.error e→0<e∧e≤100) (hrec:∀ s j,s.length≤10000→j≤64→zng lib f (deep+1) s j) {ps:List LP} {M:Nat} (hli:zf7 f all (j+all.length)=.ok (ps,M)) :
 evW code lib 37 [.flat (.string (S s)),.flat (.int .i64 (deep:Nat)),.flat (.int .i64 (j:Nat))] [] []=some ([.agg (LP.mk F (zab m) [] ps).cells,.flat (.int .i64 (M:Nat)),.flat (.int .i64 0)],false,[],[]):=by
 obtain ⟨hF,k2,k3⟩:=zaz h1 (by omega)
 have hgl:(getU sCt F).1.length≤10000:=zau F _ (by simp) fun f hf=>by have:=(k3 f hf).2;omega
 have hgl2:(getU sCte F).1.length≤10000:=zau F _ (by simp) fun f hf=>by have:=(k3 f hf).2;omega
 have f1:=zdt L.spl s hs
 rw [h1] at f1
 dsimp only at f1
 have f2:=zne L.fold F hF
 have f3:=znf L.fold F hF
 have hnp:=zak F
 have hlow:=fun n=>zae (n:=n) F
 have hpa:=zfw L.par _ hgl
 rw [hp] at hpa
 dsimp only at hpa
 obtain ⟨hsl,hml⟩:=zaq hp hgl
 have hml:m.length≤10000:=by omega
 have f4:=zbt L.fold m (by omega)
 have hfl:(zab m).length≤10000:=by simp only [zab,List.length_map];omega
 have f5:=zc3 (lib:=lib) (zab m) (by omega)
 have f6:=zb2 (lib:=lib) (zab m) za1 0 (by omega) (by decide) (by decide)
 have hfc:=zbt L.fold (getU sCte F).1 (by omega)
 have hnpl:=zak l
 have hlowl:=fun n=>zae (n:=n) l
 obtain ⟨⟨v,n⟩,hv⟩:∃ v,getU sCt F=v:=⟨_,rfl⟩
 obtain ⟨⟨u,k⟩,hu⟩:∃ v,getU sCte F=v:=⟨_,rfl⟩
 have hcod:codP F=zab (if k=0 then zbn else u):=by unfold codP;rw [hu]
 rw [hv] at f2 hn hpa hgl
 rw [hu] at f3 hk hfc hgl2
 dsimp only at f2 f3 hn hk hpa hfc hgl hgl2
 subst hn
 simp only [n1] at f2
 have hlo:=zdd (lib:=lib) L.fold l hsl s u (zab m) deep j at_ k F.length (zac F) hlow
 unfold zad at hlo
 unfold za1 at f6
 simp only [n0] at f6
 have hsl2:=hsl.1
 have hFl:=hF.1
 have tk:(s.take s.length).drop at_=s.drop at_:=by rw [List.take_length]
 rw [ht] at f5
 have hb:za4 (zab m) [109,117,108,116,105,112,97,114,116,47] 0=true:=by rw [zd1 (Nat.zero_le _),List.drop_zero];exact hmu
 rw [hb] at f6
 have hmkl:=zfx l [] (fun f hf=>(hsl.2 f hf).2) (by simp)
 obtain ⟨out,ok,hbo,hbp,hol⟩:=zgl (lib:=lib) (s.drop at_) (zcy l []) (by rw [List.length_drop];omega) hmkl
 have hma:=ze7 (lib:=lib) (zcy l []) (by omega)
 have hnpo:=zbf out
 have hlwo:=fun n=>zam (n:=n) out
 have hlp:=yen (nF:=F.length) (ty:=zab m) hf hfe hrec hlow (zgg hB (by rw [List.length_drop];omega)) (by omega) hd all.length 0 (j+all.length) big [] (by omega) (Nat.zero_le _) hfu rfl (by unfold big;omega)
 rw [List.drop_zero,hli] at hlp
 unfold zhv bxR zad at hlp
 simp only [List.length_nil,zaw,n0,Int.natCast_add] at hlp
 have hlwp:=fun n=>zax (n:=n) ps
 have hnpp:=zcl ps
 try simp only [LP.cells]
 simp only [List.nil_append] at hlp
 rw [hM] at hma
 have hok:ok=true∧out=all:=by
  rw [hbp] at hB
  cases ok with
  | true=>cases hB;exact ⟨rfl,rfl⟩
  | false=>cases hB
 rw [hok.1] at hbo
 obtain rfl:=hok.2
 clear hB hbp hok
 clear h1 hF k3 L hsl hp hb hmu
 generalize zac F=fc at *
 generalize zac l=fl at *
 generalize zab m=ty at *
 generalize zcy l []=mk at *
 refine zbw zbh (Nat.le_of_ble_eq_true rfl) ?_
 try unfold zad
 by_cases hk0:k=0
 ·subst hk0
  simp only [n0] at hlo f3
  clear hcod hc
  simp (maxSteps:=999999) (disch:=first | assumption | omega) only [go_sem,simprocAttr,au,f1,f2,f3,f4,f5,f6,hfc,hnp,hlow,hpa,hnpl,hlowl,hlo,tk,hbo,hma,hnpo,hlwo,hlp,hlwp,hnpp]
 ·rw [hcod,if_neg hk0] at hc
  have hk0':((k:Int)=0)=False:=by apply eq_false;omega
  clear hcod
  generalize zab u=fu at *
  have hcq:(fu=[55,98,105,116])=True:=eq_true hc
  simp (maxSteps:=999999) (disch:=first | assumption | omega) only [go_sem,simprocAttr,au,f1,f2,f3,f4,f5,f6,hfc,hnp,hlow,hpa,hnpl,hlowl,hlo,tk,hbo,hma,hnpo,hlwo,hk0',hcq,hlp,hlwp,hnpp]
theorem zro {rec:Option (Str→Nat→Except Nat (LP × Nat))} (hf:∀ f,rec=some f→∀ s n e,f s n=.error e→0<e∧e≤100) (s:Str) (n e:Nat) (h:zft rec s n=.error e):0<e∧e≤100:=by
 unfold zft at h
 split at h
 ·cases h;decide
 ·cases h;decide
 split at h
 ·rename_i h2
  unfold zds at h2
  split at h2
  ·split at h2
   ·cases h2
   ·split at h2
    ·cases h2;cases h;decide
    ·cases h2;cases h;decide
    ·split at h2
     ·cases h2
     ·cases h2;cases h;decide
  ·cases h2;cases h;decide
 split at h
 ·split at h
  ·cases h;decide
  ·cases h
 split at h
 ·split at h
  ·cases h;decide
  split at h
  ·cases h;decide
  rename_i f
  split at h
  ·split at h
   ·rename_i h2;cases h;exact zwy (hf f rfl) _ _ _ h2
   ·cases h
  ·cases h;decide
 ·cases h;decide
theorem zrp:∀ (d:Nat) (s:Str) (n e:Nat),zed d s n=.error e→0<e∧e≤100
 | 0=>zro fun f h=>by cases h
 | d+1=>zro fun f h=>by cases h;exact zrp d
theorem z0i (L:LibR lib) {rec:Option (Str→Nat→Except Nat (LP × Nat))} {deep:Nat} (hd4:deep≤4) (hn:rec=none→4≤deep) (hr:∀ f,rec=some f→deep<4∧(∀ s j,s.length≤10000→j≤64→zng lib f (deep+1) s j)∧(∀ s n p m,f s n=.ok (p,m)→n≤64→m≤64)∧∀ s n e,f s n=.error e→0<e∧e≤100) (s:Str) (j:Nat) (hs:s.length≤10000) (hj:j≤64):zng lib (zft rec) deep s j:=by
 have hd:deep≤10:=by omega
 unfold zng zft
 have f1:=zdt L.spl s hs
 cases h1:zba s with
 | form=>rw [h1] at f1;exact ⟨j,by omega,zs9 L hs 7 (.inr rfl) f1⟩
 | long=>rw [h1] at f1;exact ⟨j,by omega,zs9 L hs 6 (.inl rfl) f1⟩
 | ok F at_ =>
   dsimp only
   obtain ⟨hF,k2,k3⟩:=zaz h1 (by omega)
   have hgl:(getU sCt F).1.length≤10000:=zau F _ (by simp) fun f hf=>by have:=(k3 f hf).2;omega
   by_cases h9:(getU sCt F).2<2∧(getU sCte F).2<2
   case neg =>
    have hk:zds F=.error 9:=by unfold zds;rw [if_neg h9]
    rw [hk]
    exact ⟨j,by omega,z2o L hs hF h1 h9⟩
   by_cases h0:(getU sCt F).2=0
   ·have hk:zds F=.ok (zg2,[]):=by unfold zds;rw [if_pos h9,if_pos h0]
    rw [hk]
    dsimp only
    rw [if_pos (by decide)]
    cases hsd:zkj (s.drop at_) (codP F) with
    | none=>exact ⟨j,by omega,zym L hs hd hj h1 h9.2 h0 hsd⟩
    | some t=>exact z2r L hs hd hj h1 h9.2 h0 hsd
   ·have hn1:(getU sCt F).2=1:=by omega
    have hpa:=zfw L.par _ hgl
    cases hp:zbr (getU sCt F).1 with
    | form =>
      have hk:zds F=.error 7:=by unfold zds;rw [if_pos h9,if_neg h0,hp]
      rw [hp] at hpa
      rw [hk]
      exact ⟨j,by omega,z0h L hs hd hj h1 h9.2 hn1 7 (.inl rfl) hpa⟩
    | twice =>
      have hk:zds F=.error 9:=by unfold zds;rw [if_pos h9,if_neg h0,hp]
      rw [hp] at hpa
      rw [hk]
      exact ⟨j,by omega,z0h L hs hd hj h1 h9.2 hn1 9 (.inr rfl) hpa⟩
    | ok m l =>
      cases ht:zeu m with
      | false =>
        have hk:zds F=.error 7:=by
         unfold zds
         rw [if_pos h9,if_neg h0,hp]
         dsimp only
         rw [if_neg fun h=>by rw [(zww m).1 h] at ht;cases ht]
        rw [hk]
        exact ⟨j,by omega,z2p L hs hd hj h1 h9.2 hn1 hp (by rw [zs8];exact ht)⟩
      | true =>
        have hk:zds F=.ok (zab m,zcy l []):=by
         unfold zds
         rw [if_pos h9,if_neg h0,hp]
         dsimp only
         rw [if_pos ((zww m).2 ht)]
        rw [hk]
        have ht':zeu (zab m)=true:=by rw [zs8];exact ht
        dsimp only
        cases hmu:za1.isPrefixOf (zab m) with
        | false =>
          rw [if_pos rfl]
          cases hsd:zkj (s.drop at_) (codP F) with
          | none=>exact ⟨j,by omega,z2q L hs hd hj h1 h9.2 hn1 hp ht' hmu hsd⟩
          | some t=>exact z8b L hs hd hj h1 h9.2 hn1 hp ht' hmu hsd
        | true =>
          rw [if_neg (by simp)]
          by_cases hc:codP F=zbn
          case neg =>
           rw [if_neg fun h=>hc h.1]
           exact ⟨j,by omega,ydl L hs hd hj h1 h9.2 hn1 hp ht' hmu hc⟩
          cases hM:zht (zcy l []) with
          | false =>
            rw [if_neg fun h=>by cases h.2]
            exact ⟨j,by omega,yju L hs hd hj h1 h9.2 hn1 hp ht' hmu hc hM⟩
          | true =>
            rw [if_pos ⟨hc,rfl⟩]
            cases hB:zch (s.drop at_) (zcy l []) with
            | none=>exact ⟨j,by omega,ydm L hs hd hj h1 h9.2 hn1 hp ht' hmu hc hM hB⟩
            | some all =>
              dsimp only
              cases rec with
              | none=>exact ⟨j,by omega,z8c L hs hd hj h1 h9.2 hn1 hp ht' hmu hc hM hB (hn rfl)⟩
              | some f =>
                obtain ⟨hdp,hrec,hf,hfe⟩:=hr f rfl
                dsimp only
                by_cases hfu:j+all.length≤64
                ·rw [if_pos hfu]
                 cases hli:zf7 f all (j+all.length) with
                 | error e =>
                   obtain ⟨x,hx,h⟩:=z8e L hs hd hj h1 h9.2 hn1 hp ht' hmu hc hM hB hdp hfu hf hfe hrec hli trivial
                   exact ⟨x,by omega,h⟩
                 | ok q =>
                   obtain ⟨ps,M⟩:=q
                   exact ydn L hs hd hj h1 h9.2 hn1 hp ht' hmu hc hM hB hdp hfu hf hfe hrec hli
                ·rw [if_neg hfu]
                 obtain ⟨out,ok,hbo,hbp,hol⟩:=zgl (lib:=lib) (s.drop at_) (zcy l []) (by rw [List.length_drop];omega) (zfx l [] (fun f hf=>((zaq hp hgl).1.2 f hf).2) (by simp))
                 rw [hB] at hbp
                 have hal:all.length≤10001:=by
                  cases ok with
                  | true=>cases hbp;exact hol
                  | false=>cases hbp
                 exact ⟨j+all.length,by omega,z8d L hs hd hj h1 h9.2 hn1 hp ht' hmu hc hM hB hdp (by omega)⟩
theorem z8f (L:LibR lib):∀ (d deep:Nat),d+deep=4→∀ s j,s.length≤10000→j≤64→zng lib (zed d) deep s j
 | 0,deep,h=>fun s j hs hj=>z0i L (rec:=none) (by omega) (fun _=>by omega) (fun f e=>by cases e) s j hs hj
 | d+1,deep,h=>fun s j hs hj=>z0i L (rec:=some (zed d)) (by omega) (fun e=>by cases e) (fun f e=>by
   cases e
   exact ⟨by omega,z8f L d (deep+1) (by omega),zk9 d,zrp d⟩) s j hs hj
def zii (s:Str):List PV:=match zed 4 s 0 with
 | .ok (p,_)=>[.agg p.cells,.flat (.int .i64 0)]
 | .error e=>[.agg zad,.flat (.int .i64 (e:Nat))]
theorem z2s (L:LibR lib) (s:Str) (hs:s.length≤10000):evW code lib 16 [.flat (.string (S s))] [] []=some (zii s,false,[],[]):=by
 have h:=z8f L 4 0 rfl s 0 hs (by decide)
 unfold zng at h
 unfold zii
 refine zbw zr1 (Nat.le_of_ble_eq_true rfl) ?_
 cases hp:zed 4 s 0 with
 | error e =>
   rw [hp] at h
   obtain ⟨x,hx,h⟩:=h
   simp only [n0] at h
   unfold zad at h ⊢
   dsimp only
   simp (maxSteps:=999999) (disch:=first | assumption | omega) only [go_sem,simprocAttr,au,h]
 | ok q =>
   obtain ⟨p,m⟩:=q
   rw [hp] at h
   simp only [n0] at h
   obtain ⟨F,t1,t2,qs⟩:=p
   simp only [LP.cells] at h ⊢
   have w0:=fun n=>zae (n:=n) F
   have w1:=fun n=>zax (n:=n) qs
   have np0:=zak F
   have np1:=zcl qs
   simp (maxSteps:=999999) (disch:=first | assumption | omega) only [go_sem,simprocAttr,au,h,w0,w1,np0,np1]
theorem z2t (L:LibL lib) (s:Str) (hs:s.length≤10000) {e:Nat} (h:zed 4 s 0=.error e):PanD (evW code lib) (TW lib) big fxP [2,3] parD [.flat (.string (S s))] [] [] ([.agg zad,.flat (.int .i64 (e:Nat))],false,[],[]):=by
 have hthr:=zs7 L 4 0 rfl boxP 3 2 _ z7n s 0 e hs (by decide) h
 obtain ⟨M,hM⟩:∃ M,zuo 4 s 0=M:=⟨_,rfl⟩
 rw [hM] at hthr
 have hfx:=ypv (e:Nat) M
 refine ⟨Nat.le_of_ble_eq_true rfl,⟨[(0,.flat (.string (S s))),(2,.ptr 0 0),(3,.ptr 1 0)],[.cell 0 0,.cell 0 3],[],[(48,zad),(26,[.flat (.int .i64 0)])]⟩,.r (.l (.op 39 0)),(zby (e:Nat),[.ptr 0 0,.ptr 1 0],boxP M,[]),_,?_,?_,hfx,?_⟩
 ·unfold parD z7l zad
  simp (maxSteps:=999999) (disch:=first | assumption | omega) only [go_sem,simprocAttr,au]
 ·simp only [zcw,zql,n0] at hthr
  have hp:TW lib 39 [.ptr 2 0,.flat (.string (S s)),.flat (.int .i64 0)] (boxP 0) [.cell 0 0,.cell 0 3] (zby (e:Nat),boxP M,[]):=hthr
  have hb:boxP 0=[(48,zad),(26,[.flat (.int .i64 0)]),(RT,[.flat (.int .i64 0)])]:=rfl
  rw [hb] at hp
  obtain ⟨BM,hBM⟩:∃ BM,boxP M=BM:=⟨_,rfl⟩
  rw [hBM] at hp ⊢
  unfold zad at hp
  unfold parD zyj DFun.mid zad
  simp (maxSteps:=999999) (disch:=first | assumption | omega) only [go_sem,simprocAttr,au,hp]
 ·unfold parD finV
  have hv:([Sum.inr (2,true,4),Sum.inr (3,false,1)]:List (Sum Nat (Nat × Bool × Nat))).mapM (resV ⟨([2,3]:List Nat).zip [.ptr 0 0,.ptr 1 0],[],[],[(48,zad),(26,[.flat (.int .i64 (e:Nat))]),(RT,rdr M)]⟩)=some [.agg zad,.flat (.int .i64 (e:Nat))]:=rfl
  dsimp only
  rw [hv,Option.map_some]
  simp [trim,lows,zad,PV.low,zbq,zmi]
noncomputable def zrq:Callee:=fun f args bx oc=>if f=18 then (match args,bx,oc with
 | [.flat (.string s)],[],[]=>if s.size≤10000 then some (zii s.data.toList,false,[],[]) else none
 | _,_,_=>none) else none
theorem z8g (s:Str) (hs:s.length≤10000):zrq 18 [.flat (.string (S s))] [] []=some (zii s,false,[],[]):=by
 unfold zrq
 rw [if_pos rfl]
 dsimp only
 rw [if_pos (by rw [zcv];exact hs)]
 rfl
theorem zkq {f:FuncId} {args:List PV} {bx:zao} {oc:List Nun.Loc} (h:f≠18):zrq f args bx oc=none:=by
 unfold zrq
 rw [if_neg h]
theorem z8h {Γ:Glob} (L:LibL lib) (hL:zbv Tryz.prog Γ lib):zbv Tryz.prog Γ zrq:=by
 intro f args bx oc vs' os bx' oc' he
 unfold zrq at he
 split at he
 case isFalse=>cases he
 rename_i hf
 subst hf
 split at he
 case h_2=>cases he
 rename_i s
 split at he
 case isFalse=>cases he
 rename_i hs
 obtain ⟨l,rfl⟩:∃ l:Str,s=S l:=⟨s.data.toList,by simp [S]⟩
 rw [zcv] at hs
 have hl:(S l).data.toList=l:=by simp [S]
 rw [hl] at he
 have hcf:=z3y Tryz.checked.mixed (by kernel_rfl) zt7 hL
 intro w Fr β vs hp
 unfold zii at he
 cases hr:zed 4 l 0 with
 | ok q =>
   obtain ⟨p,m⟩:=q
   rw [hr] at he
   cases he
   exact yom Tryz.checked.mixed (by kernel_rfl) hcf z7m z7p (z7o L l hs hr) hp
 | error e =>
   rw [hr] at he
   cases he
   exact yif Tryz.checked.mixed (by kernel_rfl) hcf (yrn hL) z7m zyl (z2t L l hs hr) hp
theorem zta:∀ a b:List Fld,zac a++zac b=zac (a++b)
 | [],b=>rfl
 | (x,y)::a,b=>by simp only [zac,List.cons_append,zta a b]
theorem yeo (F:List Fld) (hF:F.length≤1000000) (d n:Nat) (cs:List PV) (hcs:∀ m,lows m cs=true) (ty tx:Str) :
 zb3 (evC (evW code lib) big zdr) [1,2,4,5,6] 3 big ⟨[(1,.flat (.int .i64 (d:Nat))),(2,.ptr 0 0),(4,.ptr 1 0),(5,.ptr 2 0),(6,.flat (.int .i64 0))],[.cell 2 0,.cell 2 3,.cell 1 0,.cell 1 3],[],[(48,[.slc F.length (zac F),.flat (.string (S ty)),.flat (.string (S tx)),.slc n cs]),(36,zad),(36,[.slc 0 [],.flat (.string (S ty)),.flat (.string (S tx)),.slc 0 []])]⟩
  = some (.exit 0,⟨[(1,.flat (.int .i64 (d:Nat))),(2,.ptr 0 0),(4,.ptr 1 0),(5,.ptr 2 0)],[.cell 2 0,.cell 2 3,.cell 1 0,.cell 1 3],[],[(48,[.slc F.length (zac F),.flat (.string (S ty)),.flat (.string (S tx)),.slc n cs]),(36,zad),(36,[.slc F.length (zac F),.flat (.string (S ty)),.flat (.string (S tx)),.slc 0 []])]⟩):=by
 have hbv:bound=4294967296:=rfl
 have hlF:=fun n=>zae (n:=n) F
 have hloop:=zhs (body:=evC (evW code lib) big zdr) (live:=[1,2,4,5,6]) (nb:=3) (fun (G:List Fld) k=>⟨[(1,.flat (.int .i64 (d:Nat))),(2,.ptr 0 0),(4,.ptr 1 0),(5,.ptr 2 0),(6,.flat (.int .i64 (k:Nat)))],[.cell 2 0,.cell 2 3,.cell 1 0,.cell 1 3],[],[(48,[.slc F.length (zac F),.flat (.string (S ty)),.flat (.string (S tx)),.slc n cs]),(36,zad),(36,[.slc G.length (zac G),.flat (.string (S ty)),.flat (.string (S tx)),.slc 0 []])]⟩) F (fun G k=>G.length=k)
  (fun G k x=>.inl (G++[x])) (fun G=>(.exit 0,⟨[(1,.flat (.int .i64 (d:Nat))),(2,.ptr 0 0),(4,.ptr 1 0),(5,.ptr 2 0)],[.cell 2 0,.cell 2 3,.cell 1 0,.cell 1 3],[],[(48,[.slc F.length (zac F),.flat (.string (S ty)),.flat (.string (S tx)),.slc n cs]),(36,zad),(36,[.slc G.length (zac G),.flat (.string (S ty)),.flat (.string (S tx)),.slc 0 []])]⟩)) (fun G k c hG hk hc hd=>?_) (fun G k=>by simp only [go_sem,simprocAttr,zad,hlF,hcs,zae]) (fun G k x a' hG _ _ h=>by cases h;rw [List.length_append,hG];rfl) (fun _ _ x r h=>by cases h) (fun G hG=>?_) (fun _=>by simp) [] rfl (by unfold big;omega)
 ·have hw:∀ (L:List Fld) (k:Nat) (G:List Fld),zhx (fun (G:List Fld) _ (x:Fld)=>(.inl (G++[x]):List Fld ⊕ (Out × St))) (fun G=>(.exit 0,⟨[(1,.flat (.int .i64 (d:Nat))),(2,.ptr 0 0),(4,.ptr 1 0),(5,.ptr 2 0)],[.cell 2 0,.cell 2 3,.cell 1 0,.cell 1 3],[],[(48,[.slc F.length (zac F),.flat (.string (S ty)),.flat (.string (S tx)),.slc n cs]),(36,zad),(36,[.slc G.length (zac G),.flat (.string (S ty)),.flat (.string (S tx)),.slc 0 []])]⟩)) G k L=(.exit 0,⟨[(1,.flat (.int .i64 (d:Nat))),(2,.ptr 0 0),(4,.ptr 1 0),(5,.ptr 2 0)],[.cell 2 0,.cell 2 3,.cell 1 0,.cell 1 3],[],[(48,[.slc F.length (zac F),.flat (.string (S ty)),.flat (.string (S tx)),.slc n cs]),(36,zad),(36,[.slc (G++L).length (zac (G++L)),.flat (.string (S ty)),.flat (.string (S tx)),.slc 0 []])]⟩):=by
   intro L
   induction L with
   | nil=>intro k G;simp [zhx]
   | cons x t ih=>intro k G;rw [zhx];dsimp only;rw [ih,List.append_assoc];rfl
  rw [hw] at hloop
  simp only [n0,List.nil_append,List.length_nil,zac] at hloop
  exact hloop
 ·obtain ⟨a,b⟩:=c
  have hat:=zgf hd
  have hlen:=zeh F
  have hl2:((zac F).drop (k * 2)).length=(F.length - k) * 2:=by rw [List.length_drop,hlen];omega
  have hgl:=zeh G
  have hlG:=fun n=>zae (n:=n) G
  have hap:zac (G++[(a,b)])=zac G++[.flat (.string (S a)),.flat (.string (S b))]:=by rw [← zta];rfl
  rw [hat] at hl2
  simp only [List.length_cons] at hl2
  dsimp only
  rw [hap,List.length_append]
  clear hap hd hc
  generalize F.drop (k+1)=fr at *
  generalize zac fr=fg at *
  unfold zad
  simp (maxSteps:=999999) (disch:=first | assumption | omega) only [go_sem,simprocAttr,au,zg0,hat,hlF,hl2,hgl,hlG,hG,hcs]
 ·unfold zad
  simp (maxSteps:=999999) (disch:=first | assumption | omega) only [go_sem,simprocAttr,au,zg0,hlF,hcs,zae]
theorem znh:∀ {L:List LP} {k:Nat} {p:LP} {r:List LP},L.drop k=p::r→(zaw L).drop (k * 4)=p.cells++zaw r
 | x::l,0,p,r,h=>by
   simp only [List.drop_zero,List.cons.injEq] at h
   obtain ⟨rfl,rfl⟩:=h
   rfl
 | x::l,k+1,p,r,h=>by
   rw [zaw,show (k+1) * 4=x.cells.length+k * 4 by rw [LP.len];omega,List.drop_append]
   simp only [Nat.add_sub_cancel_left,List.drop_of_length_le (Nat.le_add_right _ _),List.nil_append]
   exact znh (by simpa using h)
 | [],k,p,r,h=>by simp at h
def ocI (k:Nat):List Nun.Loc:=if k=0 then [.cell 2 0,.cell 2 3,.cell 1 0,.cell 1 3] else [.cell 2 3,.cell 2 0,.cell 1 0,.cell 1 3]
def zr4 (d n m:Nat) (cs fs:List PV) (ty tx:Str) (ps:List LP) (k:Nat) (qs:List LP):St:=⟨[(1,.flat (.int .i64 (d:Nat))),(2,.ptr 0 0),(4,.ptr 1 0),(5,.ptr 2 0),(7,.flat (.int .i64 (k:Nat)))],ocI k,[],[(48,[.slc n cs,.flat (.string (S ty)),.flat (.string (S tx)),.slc ps.length (zaw ps)]),(36,zad),(36,[.slc m fs,.flat (.string (S ty)),.flat (.string (S tx)),.slc qs.length (zaw qs)])]⟩
theorem yp2 {d n m k:Nat} (hd:d≤10) (cs fs:List PV) (hcs:∀ m,lows m cs=true) (hfs:∀ m,lows m fs=true) (ty tx:Str) {ps qs:List LP} (hps:ps.length≤64) (hk:k<ps.length) (hqs:qs.length=k) {F:List Fld} {t1 t2:Str} {rs:List LP} (hdr:ps.drop k=.mk F t1 t2 rs::ps.drop (k+1))
 (hrec:evW code lib 20 [.agg (LP.mk F t1 t2 rs).cells,.flat (.int .i64 (d:Nat))] [] []=some ([.agg (LP.mk F t1 t2 rs).cells],false,[],[])) :
 evC (evW code lib) big zb7 (zr4 (d+1) n m cs fs ty tx ps k qs)=some (.normal,zr4 (d+1) n m cs fs ty tx ps (k+1) (qs++[.mk F t1 t2 rs])):=by
 have hbv:bound=4294967296:=rfl
 have hdd:((d:Int)+1 - 1)=(d:Int):=by omega
 have hat:(zaw ps).drop (k * 4)=.slc F.length (zac F)::.flat (.string (S t1))::.flat (.string (S t2))::.slc rs.length (zaw rs)::zaw (ps.drop (k+1)):=znh hdr
 have hlen:=zei ps
 have hl2:((zaw ps).drop (k * 4)).length=(ps.length - k) * 4:=by rw [List.length_drop,hlen];omega
 rw [hat] at hl2
 simp only [List.length_cons] at hl2
 have hlp:=fun n=>zax (n:=n) ps
 have hlq:=fun n=>zax (n:=n) qs
 have hqu:=zhu qs
 have hql:=zei qs
 have w0:=fun n=>zae (n:=n) F
 have w1:=fun n=>zax (n:=n) rs
 have np0:=zak F
 have np1:=zcl rs
 have hap:zaw (qs++[.mk F t1 t2 rs])=zaw qs++[.slc F.length (zac F),.flat (.string (S t1)),.flat (.string (S t2)),.slc rs.length (zaw rs)]:=by
  rw [← zk8];simp only [zaw,LP.cells,List.append_nil]
 simp only [LP.cells] at hrec
 generalize zaw (ps.drop (k+1))=rest at *
 unfold zr4 zad ocI
 rw [hap,List.length_append,if_neg (Nat.succ_ne_zero k)]
 clear hap hdr
 by_cases hk0:k=0
 ·subst hk0
  obtain rfl:qs=[]:=qz hqs
  simp only [if_true,zaw,List.nil_append,List.length_nil]
  simp only [Nat.zero_mul] at hat hl2
  clear hlq hqu hql
  simp (maxSteps:=999999) (disch:=first | assumption | omega) only [go_sem,simprocAttr,au,zci,hat,hl2,hlp,hrec,hdd,w0,w1,np0,np1,hcs,hfs,hlen,n0]
 ·simp only [hk0,if_false]
  have hk0':0<k:=by omega
  simp (maxSteps:=999999) (disch:=first | assumption | omega) only [go_sem,simprocAttr,au,zci,hat,hl2,hlp,hlq,hqu,hql,hqs,hrec,hdd,w0,w1,np0,np1,hcs,hfs,hlen]
theorem ydo {d n m:Nat} {cs fs:List PV} (hcs:∀ m,lows m cs=true) (hfs:∀ m,lows m fs=true) {ty tx:Str} {ps qs:List LP} {k:Nat}:(zr4 d n m cs fs ty tx ps k qs).only [1,2,4,5,7] 3=zr4 d n m cs fs ty tx ps k qs:=by
 have hlp:=fun n=>zax (n:=n) ps
 have hlq:=fun n=>zax (n:=n) qs
 unfold zr4 zad ocI
 split
 ·simp only [go_sem,simprocAttr,hcs,hfs,hlp,hlq]
 ·simp only [go_sem,simprocAttr,hcs,hfs,hlp,hlq]
theorem yp3 {d n m:Nat} (hd:d≤10) (cs fs:List PV) (hcs:∀ m,lows m cs=true) (hfs:∀ m,lows m fs=true) (ty tx:Str) {ps:List LP} (hps:ps.length≤64)
 (hrec:∀ p∈ps,evW code lib 20 [.agg p.cells,.flat (.int .i64 (d:Nat))] [] []=some ([.agg p.cells],false,[],[])) :
 ∀ (r k N:Nat),ps.length - k=r→k≤ps.length→r<N→zb3 (evC (evW code lib) big zb7) [1,2,4,5,7] 3 N (zr4 (d+1) n m cs fs ty tx ps k (ps.take k))=some (.exit 2,⟨[(4,.ptr 1 0),(5,.ptr 2 0)],ocI ps.length,[],(zr4 (d+1) n m cs fs ty tx ps ps.length ps).bx⟩):=by
 intro r
 induction r with
 | zero =>
   intro k N hr hk hN
   obtain rfl:k=ps.length:=by omega
   obtain ⟨N,rfl⟩:∃ q,N=q+1:=⟨N - 1,by omega⟩
   rw [List.take_length,zl9]
   have hlp:=fun n=>zax (n:=n) ps
   unfold zr4 zad ocI
   dsimp only
   split
   ·simp (maxSteps:=999999) (disch:=first | assumption | omega) only [go_sem,simprocAttr,au,zci,hlp,hcs,hfs,zma,zub]
   ·simp (maxSteps:=999999) (disch:=first | assumption | omega) only [go_sem,simprocAttr,au,zci,hlp,hcs,hfs,zma,zub]
 | succ r ih =>
   intro k N hr hk hN
   obtain ⟨N,rfl⟩:∃ q,N=q+1:=⟨N - 1,by omega⟩
   have hkl:k<ps.length:=by omega
   have hdr:ps.drop k=ps[k]::ps.drop (k+1):=List.drop_eq_getElem_cons hkl
   have htk:ps.take (k+1)=ps.take k++[ps[k]]:=List.take_succ_eq_append_getElem hkl
   have hp:=hrec ps[k] (List.getElem_mem hkl)
   have hone:=ih (k+1) N (by omega) hkl (by omega)
   rw [htk] at hone
   obtain ⟨p,hpe⟩:∃ p,ps[k]=p:=⟨_,rfl⟩
   rw [hpe] at hdr hp hone
   obtain ⟨F,t1,t2,rs⟩:=p
   have hev:=yp2 (n:=n) (m:=m) hd cs fs hcs hfs ty tx hps hkl (qs:=ps.take k) (by rw [List.length_take];omega) hdr hp
   rw [zl9,hev,zma,ydo hcs hfs]
   exact hone
mutual
def LP.fit:Nat→LP→Prop
 | 0,.mk F ty tx ps=>F.length≤1000000∧ps=[]
 | d+1,.mk F ty tx ps=>F.length≤1000000∧ps.length≤64∧lfit d ps
def lfit:Nat→List LP→Prop
 | d,[]=>True
 | d,p::r=>p.fit d∧lfit d r
end
theorem zni:∀ {d:Nat} {l:List LP} {p:LP},lfit d l→p∈l→p.fit d
 | d,q::l,p,h,hp=>by
   rw [lfit] at h
   rcases List.mem_cons.1 hp with rfl | hp
   ·exact h.1
   ·exact zni h.2 hp
theorem yep:∀ (d:Nat) (p:LP),d≤10→p.fit d→evW code lib 20 [.agg p.cells,.flat (.int .i64 (d:Nat))] [] []=some ([.agg p.cells],false,[],[])
 | 0,.mk F ty tx ps,hd,h=>by
   rw [LP.fit] at h
   obtain ⟨hF,rfl⟩:=h
   have hl0:=yeo (lib:=lib) F hF 0 0 [] (fun _=>rfl) ty tx
   have hlF:=fun n=>zae (n:=n) F
   have hnp:=zak F
   have hl1:zb3 (evC (evW code lib) big zb7) [1,2,4,5,7] 3 big ⟨[(1,.flat (.int .i64 0)),(2,.ptr 0 0),(4,.ptr 1 0),(5,.ptr 2 0),(7,.flat (.int .i64 0))],[.cell 2 0,.cell 2 3,.cell 1 0,.cell 1 3],[],[(48,[.slc F.length (zac F),.flat (.string (S ty)),.flat (.string (S tx)),.slc 0 []]),(36,zad),(36,[.slc F.length (zac F),.flat (.string (S ty)),.flat (.string (S tx)),.slc 0 []])]⟩=some (.exit 2,⟨[(4,.ptr 1 0),(5,.ptr 2 0)],[.cell 2 0,.cell 2 3,.cell 1 0,.cell 1 3],[],[(48,[.slc F.length (zac F),.flat (.string (S ty)),.flat (.string (S tx)),.slc 0 []]),(36,zad),(36,[.slc F.length (zac F),.flat (.string (S ty)),.flat (.string (S tx)),.slc 0 []])]⟩):=by
    have:∀ N,zb3 (evC (evW code lib) big zb7) [1,2,4,5,7] 3 (N+1) ⟨[(1,.flat (.int .i64 0)),(2,.ptr 0 0),(4,.ptr 1 0),(5,.ptr 2 0),(7,.flat (.int .i64 0))],[.cell 2 0,.cell 2 3,.cell 1 0,.cell 1 3],[],[(48,[.slc F.length (zac F),.flat (.string (S ty)),.flat (.string (S tx)),.slc 0 []]),(36,zad),(36,[.slc F.length (zac F),.flat (.string (S ty)),.flat (.string (S tx)),.slc 0 []])]⟩=some (.exit 2,⟨[(4,.ptr 1 0),(5,.ptr 2 0)],[.cell 2 0,.cell 2 3,.cell 1 0,.cell 1 3],[],[(48,[.slc F.length (zac F),.flat (.string (S ty)),.flat (.string (S tx)),.slc 0 []]),(36,zad),(36,[.slc F.length (zac F),.flat (.string (S ty)),.flat (.string (S tx)),.slc 0 []])]⟩):=by
     intro N
     rw [zl9]
     unfold zad
     simp (maxSteps:=999999) (disch:=first | assumption | omega) only [go_sem,simprocAttr,au,zci,hlF,zma,zub]
    exact this _
   refine zbw zg1 (Nat.le_of_ble_eq_true rfl) ?_
   simp only [LP.cells,zaw,n0,List.length_nil] at hl0 ⊢
   unfold zad at hl0 hl1
   simp (maxSteps:=999999) (disch:=first | assumption | omega) only [go_sem,simprocAttr,au,hl0,hl1,hlF,hnp]
 | d+1,.mk F ty tx ps,hd,h=>by
   rw [LP.fit] at h
   obtain ⟨hF,hps,hl⟩:=h
   have hlF:=fun n=>zae (n:=n) F
   have hlp:=fun n=>zax (n:=n) ps
   have hnp:=zak F
   have hnpl:=zcl ps
   have hl0:=yeo (lib:=lib) F hF (d+1) ps.length (zaw ps) hlp ty tx
   have hl1:=yp3 (lib:=lib) (n:=F.length) (m:=F.length) (d:=d) (by omega) (zac F) (zac F) hlF hlF ty tx hps (fun p hp=>yep d p (by omega) (zni hl hp)) ps.length 0 big (by omega) (Nat.zero_le _) (by unfold big;omega)
   rw [List.take_zero] at hl1
   unfold zr4 zad at hl1
   unfold zad at hl0
   simp only [zaw,n0,List.length_nil] at hl1
   have hoc:ocI 0=[.cell 2 0,.cell 2 3,.cell 1 0,.cell 1 3]:=rfl
   rw [hoc] at hl1
   refine zbw zg1 (Nat.le_of_ble_eq_true rfl) ?_
   simp only [LP.cells,Int.natCast_add,Int.natCast_one] at hl0 hl1 ⊢
   have hoc2:ocI ps.length=[.cell 2 0,.cell 2 3,.cell 1 0,.cell 1 3]∨ocI ps.length=[.cell 2 3,.cell 2 0,.cell 1 0,.cell 1 3]:=by
    unfold ocI
    split
    ·exact .inl rfl
    ·exact .inr rfl
   rcases hoc2 with hoc2 | hoc2<;>rw [hoc2] at hl1
   ·simp (maxSteps:=999999) (disch:=first | assumption | omega) only [go_sem,simprocAttr,au,hl0,hl1,hlF,hlp,hnp,hnpl]
   ·simp (maxSteps:=999999) (disch:=first | assumption | omega) only [go_sem,simprocAttr,au,hl0,hl1,hlF,hlp,hnp,hnpl]
theorem z8i:∀ (F G:List Fld),F.length=G.length→((F.zip G).all fun q=>decide (q.1=q.2))=decide (F=G)
 | [],[],_=>rfl
 | a::F,b::G,h=>by
   rw [List.zip_cons_cons,List.all_cons,z8i F G (by simpa using h)]
   by_cases h1:a=b<;>by_cases h2:F=G<;>simp [h1,h2]
theorem z8j {F:List Fld} {k:Nat} {x:Fld} (h:F[k]? =some x):F.drop k=x::F.drop (k+1):=by
 obtain ⟨h1,h2⟩:=qg h
 rw [List.drop_eq_getElem_cons h1,h2]
theorem z8k (F G:List Fld) (hF:F.length≤1000000) (hG:G.length≤1000000):evW code lib 40 [.slc F.length (zac F),.slc G.length (zac G)] [] []=some ([.flat (.bool (decide (F=G)))],false,[],[]):=by
 have hlF:=fun n=>zae (n:=n) F
 have hlG:=fun n=>zae (n:=n) G
 by_cases hl:F.length=G.length
 ·have hzl:(F.zip G).length=F.length:=by rw [List.length_zip];omega
  have hloop:=zhs (body:=evC (evW code lib) big zj8) (live:=[0,1,5]) (nb:=0) (fun (_:Unit) k=>⟨[(0,.slc F.length (zac F)),(1,.slc F.length (zac G)),(5,.flat (.int .i64 (k:Nat)))],[],[],[]⟩) (F.zip G) (fun _ _=>True)
   (fun _ k x=>if (fun q:Fld × Fld=>decide (q.1=q.2)) x then .inl () else .inr (.ret,⟨[(4,.flat (.bool false))],[],[],[]⟩)) (fun _=>(.exit 0,⟨[],[],[],[]⟩)) (fun _ k c _ hk hc hd=>?_) (fun _ _=>by simp only [go_sem,simprocAttr,hlF,hlG]) (fun _ _ _ _ _ _ _ _=>trivial) (fun _ _ x r h=>by split at h<;>simp at h;rw [← h];simp) (fun _ _=>?_) (fun _=>by simp) () trivial (by rw [hzl];unfold big;omega)
  ·rw [zm0,z8i F G hl] at hloop
   simp only [n0] at hloop
   refine zbw zmw (Nat.le_of_ble_eq_true rfl) ?_
   rw [← hl]
   by_cases he:F=G
   ·simp only [he,decide_true,if_true] at hloop ⊢
    subst he
    simp (maxSteps:=999999) (disch:=first | assumption | omega) only [go_sem,simprocAttr,au,hloop,hlF]
   ·simp only [he,decide_false,Bool.false_eq_true,if_false] at hloop ⊢
    simp (maxSteps:=999999) (disch:=first | assumption | omega) only [go_sem,simprocAttr,au,hloop,hlF,hlG]
  ·rw [List.getElem?_zip_eq_some] at hc
   obtain ⟨x,y⟩:=c
   obtain ⟨k1,k2⟩:=hc
   have a1:=zgf (a:=x.1) (b:=x.2) (z8j k1)
   have a2:=zgf (a:=y.1) (b:=y.2) (z8j k2)
   have b1:((zac F).drop (k * 2)).length=(F.length - k) * 2:=by rw [List.length_drop,zeh];omega
   have b2:((zac G).drop (k * 2)).length=(F.length - k) * 2:=by rw [List.length_drop,zeh];omega
   rw [a1] at b1
   rw [a2] at b2
   simp only [List.length_cons] at b1 b2
   rw [hzl] at hk
   obtain ⟨x1,x2⟩:=x
   obtain ⟨y1,y2⟩:=y
   dsimp only at a1 a2 ⊢
   clear hd k1 k2
   by_cases e1:x1=y1
   ·by_cases e2:x2=y2
    ·simp only [e1,e2,decide_true,if_true]
     subst e1 e2
     simp (maxSteps:=999999) (disch:=first | assumption | omega) only [go_sem,simprocAttr,au,zg5,a1,a2,b1,b2,hlF,hlG]
    ·have e2':=eq_false e2
     simp only [e1,e2',Prod.mk.injEq,and_false,decide_false,Bool.false_eq_true,if_false]
     subst e1
     simp (maxSteps:=999999) (disch:=first | assumption | omega) only [go_sem,simprocAttr,au,zg5,a1,a2,b1,b2,hlF,hlG,e2']
   ·have e1':=eq_false e1
    simp only [e1',Prod.mk.injEq,false_and,decide_false,Bool.false_eq_true,if_false]
    simp (maxSteps:=999999) (disch:=first | assumption | omega) only [go_sem,simprocAttr,au,zg5,a1,a2,b1,b2,hlF,hlG,e1']
  ·rw [hzl]
   simp (maxSteps:=999999) (disch:=first | assumption | omega) only [go_sem,simprocAttr,au,zg5,hlF,hlG]
 ·have hne:F≠G:=fun e=>hl (by rw [e])
  have hl':((F.length:Int)=(G.length:Int))=False:=by apply eq_false;omega
  simp only [hne,decide_false]
  refine zbw zmw (Nat.le_of_ble_eq_true rfl) ?_
  simp (maxSteps:=999999) (disch:=first | assumption | omega) only [go_sem,simprocAttr,au,hl',hlF,hlG]
noncomputable def eqP (p q:LP):Bool:=@decide (p=q) (Classical.propDecidable _)
noncomputable def eqL (p q:List LP):Bool:=@decide (p=q) (Classical.propDecidable _)
theorem yro {p q:LP} (h:p=q):eqP p q=true:=by unfold eqP;simp [h]
theorem z0j:∀ (P Q:List LP),P.length=Q.length→((P.zip Q).all fun x=>eqP x.1 x.2)=eqL P Q
 | [],[],_=>by simp [eqL]
 | a::P,b::Q,h=>by
   rw [List.zip_cons_cons,List.all_cons,z0j P Q (by simpa using h)]
   unfold eqP eqL
   by_cases h1:a=b<;>by_cases h2:P=Q<;>simp [h1,h2]
theorem z0k {F:List LP} {k:Nat} {x:LP} (h:F[k]? =some x):F.drop k=x::F.drop (k+1):=by
 obtain ⟨h1,h2⟩:=qg h
 rw [List.drop_eq_getElem_cons h1,h2]
theorem yp4 (F G:List Fld) (a b c d:Str) (ps qs:List LP):eqP (.mk F a b ps) (.mk G c d qs)=(decide (a=c) && (decide (b=d) && (decide (F=G) && eqL ps qs))):=by
 unfold eqP eqL
 by_cases h1:a=c<;>by_cases h2:b=d<;>by_cases h3:F=G<;>by_cases h4:ps=qs<;>simp [h1,h2,h3,h4]
theorem ztb (F G:List Fld) (a b c d:Str) (ps qs:List LP) (hF:F.length≤1000000) (hG:G.length≤1000000) (hp:ps.length≤1000000) (hq:qs.length≤1000000)
 (hrec:∀ x∈ps,∀ y∈qs,evW code lib 19 [.agg x.cells,.agg y.cells] [] []=some ([.flat (.bool (eqP x y))],false,[],[])) :
 evW code lib 19 [.agg (LP.mk F a b ps).cells,.agg (LP.mk G c d qs).cells] [] []=some ([.flat (.bool (eqP (.mk F a b ps) (.mk G c d qs)))],false,[],[]):=by
 have hlF:=fun n=>zae (n:=n) F
 have hlG:=fun n=>zae (n:=n) G
 have hlp:=fun n=>zax (n:=n) ps
 have hlq:=fun n=>zax (n:=n) qs
 have h13:=z8k (lib:=lib) F G hF hG
 rw [yp4]
 simp only [LP.cells]
 refine zbw zt8 (Nat.le_of_ble_eq_true rfl) ?_
 by_cases e1:a=c
 case neg =>
  have e1':=eq_false e1
  simp only [e1',decide_false,Bool.false_and]
  simp (maxSteps:=999999) (disch:=first | assumption | omega) only [go_sem,simprocAttr,au,e1',hlF,hlG,hlp,hlq,zak,zcl]
 have e1':=eq_true e1
 by_cases e2:b=d
 case neg =>
  have e2':=eq_false e2
  simp only [e1',e2',decide_false,decide_true,Bool.false_and,Bool.true_and]
  simp (maxSteps:=999999) (disch:=first | assumption | omega) only [go_sem,simprocAttr,au,e1',e2',hlF,hlG,hlp,hlq,zak,zcl]
 have e2':=eq_true e2
 by_cases e3:F=G
 case neg =>
  have e3':=eq_false e3
  simp only [e3',decide_false] at h13
  simp only [e1',e2',e3',decide_false,decide_true,Bool.false_and,Bool.true_and]
  simp (maxSteps:=999999) (disch:=first | assumption | omega) only [go_sem,simprocAttr,au,e1',e2',h13,hlF,hlG,hlp,hlq,zak,zcl]
 simp only [e3,decide_true] at h13
 by_cases hl:ps.length=qs.length
 case neg =>
  have hne:eqL ps qs=false:=by unfold eqL;simp only [decide_eq_false_iff_not];exact fun e=>hl (by rw [e])
  have hl':((ps.length:Int)=(qs.length:Int))=False:=by apply eq_false;omega
  subst e3
  simp only [e1',e2',hne,decide_true,Bool.and_false]
  simp (maxSteps:=999999) (disch:=first | assumption | omega) only [go_sem,simprocAttr,au,e1',e2',h13,hl',hlF,hlG,hlp,hlq,zak,zcl]
 subst e1 e2 e3
 have hzl:(ps.zip qs).length=ps.length:=by rw [List.length_zip];omega
 have hloop:=zhs (body:=evC (evW code lib) big zj6) (live:=[2,3,5]) (nb:=2) (fun (_:Unit) k=>⟨[(2,.ptr 0 0),(3,.ptr 1 0),(5,.flat (.int .i64 (k:Nat)))],[],[],[(36,[.slc F.length (zac F),.flat (.string (S a)),.flat (.string (S b)),.slc ps.length (zaw ps)]),(36,[.slc F.length (zac F),.flat (.string (S a)),.flat (.string (S b)),.slc ps.length (zaw qs)])]⟩) (ps.zip qs) (fun _ _=>True)
  (fun _ k x=>if (fun q:LP × LP=>eqP q.1 q.2) x then .inl () else .inr (.ret,⟨[(4,.flat (.bool false))],[],[],[(36,[.slc F.length (zac F),.flat (.string (S a)),.flat (.string (S b)),.slc ps.length (zaw ps)]),(36,[.slc F.length (zac F),.flat (.string (S a)),.flat (.string (S b)),.slc ps.length (zaw qs)])]⟩)) (fun _=>(.exit 0,⟨[],[],[],[(36,[.slc F.length (zac F),.flat (.string (S a)),.flat (.string (S b)),.slc ps.length (zaw ps)]),(36,[.slc F.length (zac F),.flat (.string (S a)),.flat (.string (S b)),.slc ps.length (zaw qs)])]⟩)) (fun _ k x _ hk hc hd=>?_) (fun _ _=>by simp only [go_sem,simprocAttr,hlF,hlp,hlq]) (fun _ _ _ _ _ _ _ _=>trivial) (fun _ _ x r h=>by split at h<;>simp at h;rw [← h];simp) (fun _ _=>?_) (fun _=>by simp) () trivial (by rw [hzl];unfold big;omega)
 ·rw [zm0,z0j ps qs hl] at hloop
  simp only [n0] at hloop
  rw [← hl]
  cases he:eqL ps qs with
  | true =>
    simp only [he,if_true] at hloop
    simp only [decide_true,Bool.true_and]
    simp (maxSteps:=999999) (disch:=first | assumption | omega) only [go_sem,simprocAttr,au,hloop,h13,hlF,hlp,hlq,zak,zcl]
  | false =>
    simp only [he,Bool.false_eq_true,if_false] at hloop
    simp only [decide_true,Bool.true_and]
    simp (maxSteps:=999999) (disch:=first | assumption | omega) only [go_sem,simprocAttr,au,hloop,h13,hlF,hlp,hlq,zak,zcl]
 ·rw [List.getElem?_zip_eq_some] at hc
  obtain ⟨x,y⟩:=x
  obtain ⟨k1,k2⟩:=hc
  have hr:=hrec x (List.mem_of_getElem? k1) y (List.mem_of_getElem? k2)
  have a1:=znh (z0k k1)
  have a2:=znh (z0k k2)
  have b1:((zaw ps).drop (k * 4)).length=(ps.length - k) * 4:=by rw [List.length_drop,zei];omega
  have b2:((zaw qs).drop (k * 4)).length=(ps.length - k) * 4:=by rw [List.length_drop,zei];omega
  have hnx:=LP.np x
  have hny:=LP.np y
  rw [hzl] at hk
  dsimp only
  obtain ⟨E,hE⟩:∃ E,eqP x y=E:=⟨_,rfl⟩
  rw [hE] at hr
  simp only [hE]
  clear hE
  obtain ⟨x1,x2,x3,x4⟩:=x
  obtain ⟨y1,y2,y3,y4⟩:=y
  simp only [LP.cells,List.cons_append,List.nil_append] at a1 a2 hr hnx hny
  rw [a1] at b1
  rw [a2] at b2
  simp only [List.length_cons] at b1 b2
  clear hd k1 k2 hrec h13
  cases E with
  | true =>
    simp only [if_true]
    simp (maxSteps:=999999) (disch:=first | assumption | omega) only [go_sem,simprocAttr,au,zi6,a1,a2,b1,b2,hr,hlF,hlp,hlq,zak,zcl]
  | false =>
    simp only [Bool.false_eq_true,if_false]
    simp (maxSteps:=999999) (disch:=first | assumption | omega) only [go_sem,simprocAttr,au,zi6,a1,a2,b1,b2,hr,hlF,hlp,hlq,zak,zcl]
 ·rw [hzl]
  simp (maxSteps:=999999) (disch:=first | assumption | omega) only [go_sem,simprocAttr,au,zi6,hlF,hlp,hlq]
theorem ztc:∀ (k:Nat) (p q:LP),p.fit k→q.fit k→evW code lib 19 [.agg p.cells,.agg q.cells] [] []=some ([.flat (.bool (eqP p q))],false,[],[])
 | 0,.mk F a b ps,.mk G c d qs,h,h'=>by
   unfold LP.fit at h h'
   obtain ⟨h1,rfl⟩:=h
   obtain ⟨h3,rfl⟩:=h'
   exact ztb F G a b c d [] [] (by omega) (by omega) (by simp) (by simp) fun x hx=>by cases hx
 | k+1,.mk F a b ps,.mk G c d qs,h,h'=>by
   unfold LP.fit at h h'
   obtain ⟨h1,h2,h3⟩:=h
   obtain ⟨g1,g2,g3⟩:=h'
   exact ztb F G a b c d ps qs (by omega) (by omega) (by omega) (by omega) fun x hx y hy=>ztc k x y (zni h3 hx) (zni g3 hy)
theorem zyn:∀ {d:Nat} (l:List LP),(∀ p∈l,p.fit d)→lfit d l
 | d,[],_=>by unfold lfit;trivial
 | d,p::r,h=>by
   unfold lfit
   exact ⟨h p (by simp),zyn r fun q hq=>h q (by simp [hq])⟩
theorem znj:∀ (d:Nat) (p:LP),p.fit d→p.fit (d+1)
 | 0,.mk F ty tx ps,h=>by
   unfold LP.fit at h ⊢
   obtain ⟨h1,rfl⟩:=h
   exact ⟨h1,by simp,by unfold lfit;trivial⟩
 | d+1,.mk F ty tx ps,h=>by
   unfold LP.fit at h ⊢
   obtain ⟨h1,h2,h3⟩:=h
   exact ⟨h1,h2,zyn ps fun p hp=>znj d p (zni h3 hp)⟩
theorem zwz {f:Str→Nat→Except Nat (LP × Nat)} {d k:Nat} (hf:∀ s n p m,s.length≤k→f s n=.ok (p,m)→p.fit d):∀ (l:List Str) (n:Nat) (ps:List LP) (m:Nat),(∀ x∈l,x.length≤k)→zf7 f l n=.ok (ps,m)→∀ p∈ps,p.fit d
 | [],n,ps,m,hx,h=>by cases h;intro p hp;cases hp
 | x::l,n,ps,m,hx,h=>by
   unfold zf7 at h
   split at h
   ·cases h
   ·rename_i h1
    split at h
    ·cases h
    ·rename_i h2
     cases h
     intro p hp
     rcases List.mem_cons.1 hp with rfl | hp
     ·exact hf _ _ _ _ (hx x (by simp)) h1
     ·exact zwz hf l _ _ _ (fun y hy=>hx y (by simp [hy])) h2 p hp
theorem zrr {rec:Option (Str→Nat→Except Nat (LP × Nat))} {d:Nat} (hn:d=0→rec=none) (hf:∀ f,rec=some f→∀ k,d=k+1→∀ s n p m,s.length≤10000→f s n=.ok (p,m)→p.fit k) (s:Str) (n:Nat) (p:LP) (m:Nat) (hs:s.length≤10000) (h:zft rec s n=.ok (p,m)):p.fit d:=by
 have leaf:∀ (F:List Fld) (ty tx:Str),F.length≤1000000→(LP.mk F ty tx []).fit d:=fun F ty tx hF=>by
  cases d with
  | zero=>unfold LP.fit;exact ⟨hF,rfl⟩
  | succ d=>unfold LP.fit;exact ⟨hF,by simp,by unfold lfit;trivial⟩
 unfold zft at h
 split at h
 ·cases h
 ·cases h
 rename_i F at_ h1
 have hF:=(zaz h1 (by omega)).1.1
 split at h
 ·cases h
 split at h
 ·split at h
  ·cases h
  ·cases h;exact leaf _ _ _ hF
 split at h
 ·split at h
  ·cases h
  rename_i all h6
  split at h
  ·cases h
  rename_i f
  split at h
  ·rename_i hle
   split at h
   ·cases h
   ·rename_i ps m' h2
    cases h
    cases d with
    | zero=>cases hn rfl
    | succ k =>
      have hl:=zra _ _ _ _ h2
      unfold LP.fit
      refine ⟨hF,by omega,zyn ps (zwz (hf f rfl k rfl) _ _ _ _ (zgg h6 (by rw [List.length_drop];omega)) h2)⟩
  ·cases h
 ·cases h
theorem zrs:∀ (d:Nat) (s:Str) (n:Nat) (p:LP) (m:Nat),s.length≤10000→zed d s n=.ok (p,m)→p.fit d
 | 0=>zrr (fun _=>rfl) fun f h=>by cases h
 | d+1=>zrr (fun h=>by cases h) fun f h k hk=>by cases h;cases hk;exact zrs d
def LP.none:LP:=.mk [] [] [] []
theorem z2u (s:Str) (hs:s.length≤10000):∃ (p:LP) (e:Nat),p.fit 8∧zii s=[.agg p.cells,.flat (.int .i64 (e:Nat))]:=by
 unfold zii
 cases h:zed 4 s 0 with
 | error e =>
   refine ⟨LP.none,e,?_,rfl⟩
   unfold LP.none LP.fit
   exact ⟨by simp,by simp,by unfold lfit;trivial⟩
 | ok q =>
   obtain ⟨p,m⟩:=q
   exact ⟨p,0,znj _ _ (znj _ _ (znj _ _ (znj _ _ (zrs 4 s 0 p m hs h)))),rfl⟩
end Nun
end
section
set_option maxRecDepth 100000
namespace Nun
open Go Go.RowKit Go.Proofs Go.Proofs.YtmpiobfdchlikaaGreatDoor
variable {lib:Callee}
def zus (lib:Callee):Prop:=∀ (s:Str),s.length≤10000→lib 18 [.flat (.string (S s))] [] []=some (zii s,false,[],[])
theorem z8l (H:zus lib) (s:Str) (hs:s.length≤10000):evW code lib 18 [.flat (.string (S s))] [] []=some (zii s,false,[],[]):=zd3 (by decide) (by kernel_rfl) (H s hs)
def zij (mark:Str):Str:=[67,111,110,116,101,110,116,45,84,121,112,101,58,32,109,117,108,116,105,112,97,114,116,47,109,105,120,101,100,59,32,98,111,117,110,100,97,114,121,61,34]++(mark++([34,13,10,13,10,45,45]++mark))
def mixS (mark:Str):Str→Nat→List Str→Str
 | s,_,[]=>s
 | s,i,x::l=>mixS mark ((if 0<i then s++([13,10,45,45]++mark) else s)++([13,10]++x)) (i+1) l
def mixP (mark:Str) (l:List Str):Str:=mixS mark (zij mark) 0 l++([13,10,45,45]++(mark++[45,45,13,10]))
theorem zut (mark:Str) (k:Nat):∀ (l:List Str) (s:Str) (i:Nat),(∀ x∈l,x.length≤k)→(mixS mark s i l).length≤s.length+l.length * (mark.length+6+k)
 | [],s,i,_=>by simp [mixS]
 | x::l,s,i,h=>by
   have h1:=zut mark k l ((if 0<i then s++([13,10,45,45]++mark) else s)++([13,10]++x)) (i+1) fun y hy=>h y (by simp [hy])
   have h2:=h x (by simp)
   have h3:((if 0<i then s++([13,10,45,45]++mark) else s)++([13,10]++x)).length≤s.length+(mark.length+6+k):=by
    split
    ·simp only [List.length_append,List.length_cons,List.length_nil];omega
    ·simp only [List.length_append,List.length_cons,List.length_nil];omega
   rw [mixS]
   have h4:(l.length+1) * (mark.length+6+k)=l.length * (mark.length+6+k)+(mark.length+6+k):=Nat.succ_mul _ _
   rw [List.length_cons,h4]
   omega
theorem z0l {mark:Str} {fin:Str→Out × St}:∀ (L:List Str) (k:Nat) (s:Str),zhx (fun (s:Str) k (x:Str)=>(.inl ((if 0<k then s++([13,10,45,45]++mark) else s)++([13,10]++x)):Str ⊕ (Out × St))) fin s k L=fin (mixS mark s k L)
 | [],k,q=>rfl
 | x::t,k,q=>by rw [zhx,mixS];exact z0l t _ _
theorem z8m (mark:Str) (l:List Str) (hm:mark.length≤100) (hl:l.length≤100) (hx:∀ x∈l,x.length≤10000):evW code lib 17 [.flat (.string (S mark)),.slc l.length (zas l)] [] []=some ([.flat (.string (S (mixP mark l)))],false,[],[]):=by
 have hbv:bound=4294967296:=rfl
 have hla:=fun n=>zam (n:=n) l
 have hl0:=za0 (l:=l)
 have hml:=zut mark 10000 l (zij mark) 0 hx
 have hhl:(zij mark).length=48+2 * mark.length:=by unfold zij;simp only [List.length_append,List.length_cons,List.length_nil];omega
 have hloop:=zhs (body:=evC (evW code lib) big zi8) (live:=[0,1,5,6]) (nb:=0) (fun (s:Str) k=>⟨[(0,.flat (.string (S mark))),(1,.slc l.length (zas l)),(5,.flat (.string (S s))),(6,.flat (.int .i64 (k:Nat)))],[],[],[]⟩) l (fun s k=>s.length≤200000+k * 20000)
  (fun s k x=>.inl ((if 0<k then s++([13,10,45,45]++mark) else s)++([13,10]++x))) (fun s=>(.exit 0,⟨[(0,.flat (.string (S mark))),(5,.flat (.string (S s)))],[],[],[]⟩)) (fun s k c hq hk hc hd=>?_) (fun _ _=>by simp only [go_sem,simprocAttr,hla]) (fun s k x a' hq hk hc h=>?_) (fun _ _ x r h=>by cases h) (fun s _=>?_) (fun _=>by simp) (zij mark) (by omega) (by unfold big;omega)
 ·rw [z0l] at hloop
  simp only [n0] at hloop
  have e1:S ([67,111,110,116,101,110,116,45,84,121,112,101,58,32,109,117,108,116,105,112,97,114,116,47,109,105,120,101,100,59,32,98,111,117,110,100,97,114,121,61,34]++(mark++([34,13,10,13,10,45,45]++mark)))=S (zij mark):=rfl
  unfold mixP
  obtain ⟨R,hR⟩:∃ R,mixS mark (zij mark) 0 l=R:=⟨_,rfl⟩
  rw [hR] at hloop hml ⊢
  have hRl:R.length≤3000000:=by
   have:l.length * (mark.length+6+10000)≤100 * (mark.length+6+10000):=Nat.mul_le_mul_right _ hl
   omega
  simp only [List.cons_append,List.nil_append] at e1
  refine zbw zr0 (Nat.le_of_ble_eq_true rfl) ?_
  clear hml hhl hR
  simp (maxSteps:=999999) (disch:=first | assumption | omega) only [go_sem,simprocAttr,au,hloop,hla,e1,List.length_append,List.length_cons,List.length_nil]
 ·have hxl:=hx c (List.mem_of_getElem? hc)
  have hd2:(zas l).drop k=.flat (.string (S c))::(zas l).drop (k+1):=by
   have:=congrArg zas hd
   simpa [zas,List.map_drop] using this
  have hl2:((zas l).drop (k+1)).length+1=l.length - k:=by rw [List.length_drop,hl0];omega
  clear hml hhl hc
  rcases Nat.eq_zero_or_pos k with h0 | h0
  ·subst h0
   obtain ⟨l',rfl⟩:∃ l',l=c::l':=⟨l.drop 1,by simpa using hd⟩
   have hsc:zas (c::l')=.flat (.string (S c))::zas l':=rfl
   have hll:=za0 (l:=l')
   have hlo:=fun n=>zam (n:=n) l'
   rw [if_neg (Nat.lt_irrefl 0)]
   simp only [List.length_cons] at hl hk
   clear hd hd2 hl2 hla hl0 hx
   simp (maxSteps:=999999) (disch:=first | assumption | omega) only [go_sem,simprocAttr,au,zid,hsc,hll,hlo,n0,List.length_append,List.length_cons,List.length_nil]
  ·rw [if_pos h0]
   clear hd
   simp (maxSteps:=999999) (disch:=first | assumption | omega) only [go_sem,simprocAttr,au,zid,hd2,hl2,hl0,hla,List.length_append,List.length_cons,List.length_nil]
 ·have hxl:=hx x (List.mem_of_getElem? hc)
  cases h
  split
  ·simp only [List.length_append,List.length_cons,List.length_nil];omega
  ·simp only [List.length_append,List.length_cons,List.length_nil];omega
 ·simp (maxSteps:=999999) (disch:=first | assumption | omega) only [go_sem,simprocAttr,au,zid,hla,hl0]
theorem z0m (mark:Str) (l:List Str) (k:Nat) (h:∀ x∈l,x.length≤k):(mixP mark l).length≤56+3 * mark.length+l.length * (mark.length+6+k):=by
 have h1:=zut mark k l (zij mark) 0 h
 have hhl:(zij mark).length=48+2 * mark.length:=by unfold zij;simp only [List.length_append,List.length_cons,List.length_nil];omega
 unfold mixP
 simp only [List.length_append,List.length_cons,List.length_nil]
 omega
def zgx (k:Nat):Nat→Str
 | 0=>[13,10,120]
 | i+1=>mixP [61,95,UInt8.ofNat (97+i)] (List.replicate (if i=0 then k else 1) (zgx k i))
theorem zrt (k:Nat) (hk:k≤70):∀ i,(zgx k i).length≤905+i * 74
 | 0=>by simp [zgx]
 | i+1=>by
   have ih:=zrt k hk i
   rw [zgx]
   by_cases h:i=0
   ·subst h
    rw [if_pos rfl]
    have:=z0m [61,95,UInt8.ofNat (97+0)] (List.replicate k (zgx k 0)) 3 (fun x hx=>by rw [List.eq_of_mem_replicate hx];simp [zgx])
    simp only [List.length_replicate,List.length_cons,List.length_nil] at this
    omega
   ·rw [if_neg h]
    have:=z0m [61,95,UInt8.ofNat (97+i)] (List.replicate 1 (zgx k i)) _ (fun x hx=>by rw [List.eq_of_mem_replicate hx];exact Nat.le_refl _)
    simp only [List.length_replicate,List.length_cons,List.length_nil] at this
    omega
theorem yjw (b:Bool) (n k i:Nat) (hn:n≤6) (hk:k≤70) (hk1:1≤k) (hi:i≤6) (s:Str) (hs:s.length≤10000) :
 zb3 (evC (evW code lib) big zbz) [2,7,8,9,10,11,12] 0 big ⟨[(2,.flat (.bool b)),(7,.flat (.int .i64 (n:Nat))),(8,.flat (.int .i64 (k:Nat))),(9,.flat (.string (S s))),(10,.flat (.int .i64 (i:Nat))),(11,.slc 0 []),(12,.flat (.int .i64 0))],[.slot 11],[],[]⟩
  = some (.exit 2,⟨[(2,.flat (.bool b)),(7,.flat (.int .i64 (n:Nat))),(8,.flat (.int .i64 (k:Nat))),(10,.flat (.int .i64 (i:Nat))),(11,.slc (List.replicate (if i=0 then k else 1) s).length (zas (List.replicate (if i=0 then k else 1) s)))],[.slot 11],[],[]⟩):=by
 have hbv:bound=4294967296:=rfl
 have hloop:=zmb (body:=evC (evW code lib) big zbz) (live:=[2,7,8,9,10,11,12]) (nb:=0) (fun m:Nat=>(⟨[(2,.flat (.bool b)),(7,.flat (.int .i64 (n:Nat))),(8,.flat (.int .i64 (k:Nat))),(9,.flat (.string (S s))),(10,.flat (.int .i64 (i:Nat))),(11,.slc m (zas (List.replicate m s))),(12,.flat (.int .i64 (m:Nat)))],[.slot 11],[],[]⟩:St))
  (fun m=>m≤(if i=0 then k else 1)) (fun m=>100 - m) (fun m=>(.exit 2,⟨[(2,.flat (.bool b)),(7,.flat (.int .i64 (n:Nat))),(8,.flat (.int .i64 (k:Nat))),(10,.flat (.int .i64 (i:Nat))),(11,.slc (if i=0 then k else 1) (zas (List.replicate (if i=0 then k else 1) s)))],[.slot 11],[],[]⟩)) (fun m hm=>?_) (n:=big) (a:=0) (Nat.zero_le _) (by unfold big;omega)
 ·have e0:zas (List.replicate 0 s)=[]:=rfl
  simp only [n0,e0] at hloop
  rw [hloop,List.length_replicate]
 ·have hrl:(zas (List.replicate m s)).length=m:=by rw [za0,List.length_replicate]
  have hla:=fun n=>zam (n:=n) (List.replicate m s)
  have hnu:=ze5 (List.replicate m s)
  have hap:zas (List.replicate (m+1) s)=zas (List.replicate m s)++[.flat (.string (S s))]:=by rw [List.replicate_succ',← zhg];rfl
  have hla2:=fun n=>zam (n:=n) (List.replicate (m+1) s)
  by_cases hi0:i=0
  ·subst hi0
   rw [if_pos rfl] at hm
   simp only [if_true]
   by_cases hmk:m<k
   ·right
    refine ⟨⟨[(2,.flat (.bool b)),(7,.flat (.int .i64 (n:Nat))),(8,.flat (.int .i64 (k:Nat))),(9,.flat (.string (S s))),(10,.flat (.int .i64 (0:Nat))),(11,.slc (m+1) (zas (List.replicate (m+1) s))),(12,.flat (.int .i64 ((m+1:Nat):Nat)))],[.slot 11],[],[]⟩,m+1,?_,?_,hmk,by omega,trivial⟩
    ·rw [hap]
     generalize zas (List.replicate m s)=cs at *
     clear hla2 hap
     rcases Nat.eq_zero_or_pos m with h0 | h0
     ·subst h0
      simp (maxSteps:=999999) (disch:=first | assumption | omega) only [go_sem,simprocAttr,au,za9,hrl,hla,hnu,n0]
     ·have h0':((m:Int)=0)=False:=by apply eq_false;omega
      simp (maxSteps:=999999) (disch:=first | assumption | omega) only [go_sem,simprocAttr,au,za9,hrl,hla,hnu,h0',n0]
    ·simp (maxSteps:=999999) (disch:=first | assumption | omega) only [go_sem,simprocAttr,au,hla2]
   ·left
    obtain rfl:m=k:=by omega
    refine ⟨_,_,?_,(by simp),rfl⟩
    generalize zas (List.replicate m s)=cs at *
    clear hla2 hap
    simp (maxSteps:=999999) (disch:=first | assumption | omega) only [go_sem,simprocAttr,au,za9,hrl,hla,hnu,n0]
  ·have hi0':((i:Int)=0)=False:=by apply eq_false;omega
   rw [if_neg hi0] at hm
   simp only [hi0,if_false]
   rcases Nat.eq_zero_or_pos m with h0 | h0
   ·subst h0
    right
    refine ⟨⟨[(2,.flat (.bool b)),(7,.flat (.int .i64 (n:Nat))),(8,.flat (.int .i64 (k:Nat))),(9,.flat (.string (S s))),(10,.flat (.int .i64 (i:Nat))),(11,.slc 1 (zas (List.replicate 1 s))),(12,.flat (.int .i64 ((1:Nat):Nat)))],[.slot 11],[],[]⟩,1,?_,?_,Nat.le_refl _,by omega,trivial⟩
    ·have e0:zas (List.replicate 0 s)=[]:=rfl
     have e1:zas (List.replicate 1 s)=[.flat (.string (S s))]:=rfl
     rw [e0,e1]
     clear hla hla2 hap hrl hnu
     simp (maxSteps:=999999) (disch:=first | assumption | omega) only [go_sem,simprocAttr,au,za9,n0,n1]
    ·simp (maxSteps:=999999) (disch:=first | assumption | omega) only [go_sem,simprocAttr,au,hla2]
   ·obtain rfl:m=1:=by omega
    left
    refine ⟨_,_,?_,(by simp),rfl⟩
    generalize zas (List.replicate 1 s)=cs at *
    clear hla2 hap
    rcases Classical.em (1<k) with h1k | h1k
    ·simp (maxSteps:=999999) (disch:=first | assumption | omega) only [go_sem,simprocAttr,au,za9,hrl,hla,hnu,hi0',n1]
    ·simp (maxSteps:=999999) (disch:=first | assumption | omega) only [go_sem,simprocAttr,au,za9,hrl,hla,hnu,hi0',n1]
theorem ydp (b:Bool) (n k:Nat) (hn:n≤6) (hk:k≤70) (hk1:1≤k) :
 zb3 (evC (evW code lib) big zb0) [2,7,8,9,10] 0 big ⟨[(2,.flat (.bool b)),(7,.flat (.int .i64 (n:Nat))),(8,.flat (.int .i64 (k:Nat))),(9,.flat (.string (S [13,10,120]))),(10,.flat (.int .i64 0))],[],[],[]⟩
  = some (.exit 0,⟨[(2,.flat (.bool b)),(9,.flat (.string (S (zgx k n))))],[],[],[]⟩):=by
 have hbv:bound=4294967296:=rfl
 have hloop:=zmb (body:=evC (evW code lib) big zb0) (live:=[2,7,8,9,10]) (nb:=0) (fun i:Nat=>(⟨[(2,.flat (.bool b)),(7,.flat (.int .i64 (n:Nat))),(8,.flat (.int .i64 (k:Nat))),(9,.flat (.string (S (zgx k i)))),(10,.flat (.int .i64 (i:Nat)))],[],[],[]⟩:St))
  (fun i=>i≤n) (fun i=>n - i) (fun i=>(.exit 0,⟨[(2,.flat (.bool b)),(9,.flat (.string (S (zgx k n))))],[],[],[]⟩)) (fun i hi=>?_) (n:=big) (a:=0) (Nat.zero_le _) (by unfold big;omega)
 ·have e0:zgx k 0=[13,10,120]:=rfl
  simp only [n0,e0] at hloop
  exact hloop
 ·by_cases hlt:i<n
  ·right
   have hl:=zrt k hk i
   have hin:=yjw (lib:=lib) b n k i hn hk hk1 (by omega) (zgx k i) (by omega)
   have hcnt:(List.replicate (if i=0 then k else 1) (zgx k i)).length≤100:=by rw [List.length_replicate];split<;>omega
   have hmx:=z8m (lib:=lib) [61,95,UInt8.ofNat (97+i)] (List.replicate (if i=0 then k else 1) (zgx k i)) (by simp) hcnt (fun x hx=>by rw [List.eq_of_mem_replicate hx];omega)
   have hnext:mixP [61,95,UInt8.ofNat (97+i)] (List.replicate (if i=0 then k else 1) (zgx k i))=zgx k (i+1):=rfl
   rw [hnext] at hmx
   have hnp:=zbf (List.replicate (if i=0 then k else 1) (zgx k i))
   have hla:=fun n=>zam (n:=n) (List.replicate (if i=0 then k else 1) (zgx k i))
   refine ⟨⟨[(2,.flat (.bool b)),(7,.flat (.int .i64 (n:Nat))),(8,.flat (.int .i64 (k:Nat))),(9,.flat (.string (S (zgx k (i+1))))),(10,.flat (.int .i64 ((i+1:Nat):Nat)))],[],[],[]⟩,i+1,?_,?_,hlt,by omega,rfl⟩
   ·generalize List.replicate (if i=0 then k else 1) (zgx k i)=L at *
    generalize zgx k (i+1)=s' at *
    generalize zgx k i=s at *
    have hc8:IntKind.u8.wrap (97+(i:Int))=((97+i:Nat):Int):=by rw [yb3 (by omega)];omega
    have hby:bytesOf [.flat (.int .u8 ((97+i:Nat):Int))]=some [UInt8.ofNat (97+i)]:=by rw [zvy (by omega),zx1];rfl
    have w1:IntKind.i64.wrap (97+(i:Int))=((97+i:Nat):Int):=by rw [wrap64 (by omega)];omega
    have w2:IntKind.u8.wrap (((97+i:Nat)):Int)=((97+i:Nat):Int):=yb3 (by omega)
    obtain ⟨c,hc⟩:∃ c,97+i=c:=⟨_,rfl⟩
    rw [hc] at hby w1 w2 hmx hc8
    clear hnext
    simp (maxSteps:=999999) (disch:=first | assumption | omega) only [go_sem,simprocAttr,au,zd5,hin,hmx,hnp,hla,hby,w1,w2]
   ·simp (maxSteps:=999999) (disch:=first | assumption | omega) only [go_sem,simprocAttr,au]
  ·left
   obtain rfl:i=n:=by omega
   refine ⟨_,_,?_,(by simp),rfl⟩
   simp (maxSteps:=999999) (disch:=first | assumption | omega) only [go_sem,simprocAttr,au,zd5]
def awT:Str:=[67,111,110,116,101,110,116,45,84,121,112,101,58,32,109,117,108,116,105,112,97,114,116,47,109,105,120,101,100,59,32,98,111,117,110,100,97,114,121,61,98]++[13,10,13,10]++[45,45,98]++[13,10,13,10,97,13,10]++[45,45,98,45,45]++[13,10]
def awQ:LP:=.mk [([67,111,110,116,101,110,116,45,84,121,112,101],[109,117,108,116,105,112,97,114,116,47,109,105,120,101,100,59,32,98,111,117,110,100,97,114,121,61,98])] [109,117,108,116,105,112,97,114,116,47,109,105,120,101,100] [] [.mk [] [116,101,120,116,47,112,108,97,105,110] [97] []]
theorem aw_t:zed 4 awT 0=.ok (awQ,1):=by kernel_rfl
theorem z8n (H:zus lib):evW code lib 21 [] [] []=some ([.flat (.bool true)],false,[],[]):=by
 have h:=z8l H awT (by decide)
 unfold zii at h
 rw [aw_t] at h
 simp only [awT,List.cons_append,List.nil_append,awQ,LP.cells,zaw,zac,List.length_cons,List.length_nil,List.append_nil,Nat.zero_add] at h
 refine zbw zju (Nat.le_of_ble_eq_true rfl) ?_
 simp (maxSteps:=999999) (disch:=first | assumption | omega) only [go_sem,simprocAttr,au,h]
theorem ydq (HP:zus lib) (L:LibR lib) (d w:Nat) (hd:d<256) (hw:w<256) (b:Bool):evW code lib 5 [.flat (.int .u8 (d:Nat)),.flat (.int .u8 (w:Nat)),.flat (.bool b)] [] []=some ([.flat (.bool true)],false,[],[]):=by
 have hbv:bound=4294967296:=rfl
 obtain ⟨n,hn⟩:∃ n,d % 7=n:=⟨_,rfl⟩
 obtain ⟨k,hk⟩:∃ k,1+w % 70=k:=⟨_,rfl⟩
 have hn6:n≤6:=by omega
 have hk70:k≤70:=by omega
 have hk1:1≤k:=by omega
 have hloop:=ydp (lib:=lib) b n k hn6 hk70 hk1
 have hlen:=zrt k hk70 n
 have haw:=z8n HP
 have r1:(d:Int).tmod 7=(n:Int):=by rw [Int.tmod_eq_emod_of_nonneg (by omega)];omega
 have r2:(w:Int).tmod 70=((w % 70:Nat):Int):=by rw [Int.tmod_eq_emod_of_nonneg (by omega)];omega
 have hk2:((1:Int)+((w % 70:Nat):Int))=(k:Int):=by omega
 obtain ⟨s,hs⟩:∃ s,(if b then [88,58,32,121,13,10]++zgx k n else zgx k n)=s:=⟨_,rfl⟩
 have hsl:s.length≤10000:=by
  rw [← hs]
  split
  ·simp only [List.length_append,List.length_cons,List.length_nil];omega
  ·omega
 obtain ⟨p,e,hfit,hpo⟩:=z2u s hsl
 have q1:=z8l HP s hsl
 have q2:=z2s L s hsl
 rw [hpo] at q1 q2
 have q3:=yep (lib:=lib) 8 p (by decide) hfit
 have q4:=ztc (lib:=lib) 8 p p hfit hfit
 rw [yro rfl] at q4
 obtain ⟨F,t1,t2,qs⟩:=p
 have w0:=fun n=>zae (n:=n) F
 have w1:=fun n=>zax (n:=n) qs
 have np0:=zak F
 have np1:=zcl qs
 simp only [LP.cells] at q1 q2 q3 q4
 have q3':evW code lib 20 [.agg [.slc F.length (zac F),.flat (.string (S t1)),.flat (.string (S t2)),.slc qs.length (zaw qs)],.flat (.int .i64 8)] [] []=some ([.agg [.slc F.length (zac F),.flat (.string (S t1)),.flat (.string (S t2)),.slc qs.length (zaw qs)]],false,[],[]):=q3
 clear q3 hfit hpo HP L hn
 generalize zac F=fc at *
 generalize zaw qs=lc at *
 refine zbw zg7 (Nat.le_of_ble_eq_true rfl) ?_
 cases b with
 | true =>
   simp only [if_true] at hs
   generalize zgx k n=s0 at *
   have hs':S (88::58::32::121::13::10::s0)=S s:=by rw [← hs];rfl
   simp only [if_true,List.cons_append,List.nil_append] at hs
   simp (maxSteps:=999999) (disch:=first | assumption | omega) only [go_sem,simprocAttr,au,hloop,haw,r1,r2,hk2,q1,q2,q3',q4,w0,w1,np0,np1,hs,hs']
 | false =>
   simp only [Bool.false_eq_true,if_false] at hs
   rw [hs] at hloop
   simp (maxSteps:=999999) (disch:=first | assumption | omega) only [go_sem,simprocAttr,au,hloop,haw,r1,r2,hk2,q1,q2,q3',q4,w0,w1,np0,np1]
end Nun
end
section
set_option synthInstance.maxSize 4000
namespace Nun
open Go Go.RowKit
def strCells (l:List (List UInt8)):List Value:=l.map fun x=>.string ⟨x.toArray⟩
theorem zuu (l:List (List UInt8)) (x:List UInt8):strCells (l++[x])=strCells l++[.string ⟨x.toArray⟩]:=by simp [strCells]
theorem z0n (s:List UInt8) (i:Nat):begL s [13,10] i=true ↔ s[i]? =some 13∧s[i+1]? =some 10:=by
 unfold begL
 rw [Bool.and_eq_true,decide_eq_true_eq,beq_iff_eq,← List.head?_drop,show s[i+1]? =(s.drop i)[1]? by rw [List.getElem?_drop]]
 have hl:(s.drop i).length=s.length - i:=List.length_drop
 match h:s.drop i with
 | []=>simp
 | [a]=>simp
 | a::b::r=>rw [h] at hl;simp at hl;simp;intro _ _;omega
def endV (k:Nat):Option Nat→Int | some j=>((k+j:Nat):Int) | none=>-1
def zff:List (List UInt8 × Nat)→Option (List (List UInt8) × Nat)
 | []=>none
 | (ln,a)::r=>if ln=[] then some ([],a) else (zff r).map fun p=>(ln::p.1,p.2)
theorem zot:∀ (xs:List (List UInt8 × Nat)) (st:List Fld × Bool),zff xs=none→zb6 xs st=none
 | [],st,_=>rfl
 | (ln,a)::r,st,h=>by
   rw [zff] at h
   by_cases hl:ln=[]
   ·rw [if_pos hl] at h;cases h
   ·rw [if_neg hl] at h
    have hr:zff r=none:=by simpa using h
    rw [zb6,if_neg hl]
    rcases za6 st ln with _ | st'
    ·rfl
    ·exact zot r st' hr
theorem zou:∀ (xs:List (List UInt8 × Nat)) (st:List Fld × Bool) (ls:List (List UInt8)) (a:Nat),zff xs=some (ls,a)→zb6 xs st=(zck ls st).map fun s=>(s.1,s.2,a)
 | [],st,ls,a,h=>by cases h
 | (ln,b)::r,st,ls,a,h=>by
   rw [zff] at h
   by_cases hl:ln=[]
   ·rw [if_pos hl] at h;cases h;rw [zb6,if_pos hl];rfl
   ·rw [if_neg hl] at h
    rcases hr:zff r with _ | ⟨ls',a'⟩
    ·rw [hr] at h;cases h
    ·rw [hr] at h
     cases h
     rw [zb6,if_neg hl,zck,List.foldlM_cons]
     rcases hs:za6 st ln with _ | st'
     ·rfl
     ·exact zou r st' ls' a' hr
theorem zw0:∀ (xs:List (List UInt8 × Nat)) (ls:List (List UInt8)) (a:Nat),zff xs=some (ls,a)→∀ x∈ls,x≠[]
 | [],ls,a,h=>by cases h
 | (ln,b)::r,ls,a,h=>by
   rw [zff] at h
   by_cases hl:ln=[]
   ·rw [if_pos hl] at h;cases h;simp
   ·rw [if_neg hl] at h
    rcases hr:zff r with _ | ⟨ls',a'⟩
    ·rw [hr] at h;cases h
    ·rw [hr] at h
     cases h
     intro x hx
     rcases List.mem_cons.1 hx with rfl | hx
     ·exact hl
     ·exact zw0 r ls' _ hr x hx
theorem ztd:∀ (xs:List (List UInt8 × Nat)) (ls:List (List UInt8)) (a:Nat),zff xs=some (ls,a)→ls.length≤xs.length∧∀ x∈ls,∃ b,(x,b)∈xs
 | [],ls,a,h=>by cases h
 | (ln,b)::r,ls,a,h=>by
   rw [zff] at h
   by_cases hl:ln=[]
   ·rw [if_pos hl] at h;cases h;simp
   ·rw [if_neg hl] at h
    rcases hr:zff r with _ | ⟨ls',a'⟩
    ·rw [hr] at h;cases h
    ·rw [hr] at h
     cases h
     have:=ztd r ls' _ hr
     refine ⟨by simp;exact this.1,fun x hx=>?_⟩
     rcases List.mem_cons.1 hx with rfl | hx
     ·exact ⟨b,by simp⟩
     ·obtain ⟨c,hc⟩:=this.2 x hx;exact ⟨c,by simp [hc]⟩
end Nun
namespace Go.Proofs.YtmpiobfdchlikaaGreatDoor
open Go Go.RowKit Nun
theorem zru (s x:ByteArray) (k:Nat) (b:Bool) (h:begL s.data.toList x.data.toList k=b) (w:World) (hs:s.size≤1000000000) (hx:x.size≤1000000000) (hk:k≤1000000000):Calls Tryz.prog 60 #[.string s,.string x,.int .i64 k] w (Same (.bool b) w):=h ▸ z2d s x k w hs hx hk
theorem yjx (s:ByteArray) (k:Nat) (w:World) (hs:s.size≤1000000) (hk:k≤s.size) (o:Option Nat) (ho:crAt (s.data.toList.drop k)=o):Calls Tryz.prog 168 #[.string s,.int .i64 k] w (Same (.int .i64 (endV k o)) w):=by
 have hat:∀ d,k+d≤s.size→begL s.data.toList [13,10] (k+d)=decide (o=some d)∨∃ e,o=some e∧e<d:=by
  intro d hd
  by_cases hod:o=some d
  ·left
   rw [hod] at ho
   have:=zm2 ho
   rw [List.getElem?_drop,List.getElem?_drop] at this
   rw [(z0n _ _).2 this];simp [hod]
  ·by_cases hlt:∃ e,o=some e∧e<d
   ·exact .inr hlt
   ·left
    rw [show decide (o=some d)=false by simpa using hod]
    have hn:¬ (begL s.data.toList [13,10] (k+d)=true):=by
     rw [z0n]
     intro h
     rw [← List.getElem?_drop,show k+d+1=k+(d+1) by omega,← List.getElem?_drop] at h
     rcases o with _ | e
     ·exact zqu ho d h
     ·have hne:e≠d:=fun e'=>hod (by rw [e'])
      by_cases hed:e<d
      ·exact hlt ⟨e,rfl,hed⟩
      ·exact zk5 ho d (by omega) h
    simpa using hn
 have hbd:∀ e,o=some e→k+e+2≤s.size:=by
  intro e h
  rw [h] at ho
  have:=zgw ho
  rw [List.length_drop,show s.data.toList.length=s.size from rfl] at this;omega
 have HA:=Lib.hid hat;clear hat ho
 obtain ⟨V,hV⟩:∃ V,endV k o=V:=⟨_,rfl⟩
 rw [hV]
 have HV:=Lib.hid hV;have HBD:=Lib.hid hbd;clear hV hbd
 go_enter Tryz.func168,Tryz.ntmps168
 go_wp2
 go_loop [5] (fun i=>∃ d:Nat,i=.int .i64 ((k+d:Nat):Int)∧k+d≤s.size∧Hid (¬ ∃ e,o=some e∧e<d)) (fun i=>s.size - (intOf i).toNat)
 case atStart=>exact ⟨0,rfl,by omega,Lib.hid (by rintro ⟨e,_,h⟩;omega)⟩
 case round =>
  obtain ⟨d,rfl,hd,hno⟩:=hrel
  have hcast:((k+d:Nat):Int)=(k:Int)+d:=by omega
  by_cases hlt:k+d<s.size
  ·have hb:=(HA.out d (by omega)).resolve_right hno.out
   obtain ⟨i,hi⟩:∃ i,k+d=i:=⟨_,rfl⟩
   rw [hi] at hb hd hlt
   by_cases hod:o=some d
   ·have HB:=Lib.hid (show begL s.data.toList (ByteArray.mk #[13,10]).data.toList i=true by rw [hb];simp [hod])
    have HR:=Lib.hid (show (i:Int)=V by rw [← HV.out,hod,← hi];rfl)
    have HI:=Lib.hid hi
    rw [hi]
    clear hb hcast hod hi
    go_wp2_with (go_at_call 60;refine (zru s ⟨#[13,10]⟩ i true HB.out _ (by omega) (by decide) (by omega)).mono ?_;rintro e w1 ⟨rfl,rfl⟩)
    go_ret
    exact ⟨r1 (vi HR.out),rfl⟩
   ·have HB:=Lib.hid (show begL s.data.toList (ByteArray.mk #[13,10]).data.toList i=false by rw [hb];simp [hod])
    have HN:=Lib.hid (show ¬ ∃ e,o=some e∧e<d+1 by
     rintro ⟨e,he,hed⟩
     exact hno.out ⟨e,he,by
      have:e≠d:=fun h=>hod (by rw [he,h])
      omega⟩)
    have HI:=Lib.hid hi
    rw [hi]
    clear hb hcast hod hi
    go_wp2_with (go_at_call 60;refine (zru s ⟨#[13,10]⟩ i false HB.out _ (by omega) (by decide) (by omega)).mono ?_;rintro e w1 ⟨rfl,rfl⟩)
    go_round
    case rel=>exact ⟨d+1,by rw [show k+(d+1)=i+1 by have:=HI.out;omega];go_num,by have:=HI.out;omega,HN⟩
    case measure=>simp [intOf];omega
  ·have hnone:o=none:=by
    rcases o with _ | e
    ·rfl
    ·have h1:=HBD.out e rfl
     have h2:¬ e<d:=fun h=>hno.out ⟨e,rfl,h⟩
     omega
   have HR:=Lib.hid (show (-1:Int)=V by rw [← HV.out,hnone];rfl)
   have hlt2:¬ ((k:Int)+d<s.size):=by omega
   clear hnone
   go_wp2
   go_ret
   exact ⟨r1 (vi HR.out),rfl⟩
theorem zrv (c:UInt8) (w:World):Calls Tryz.prog 113 #[.int .u8 c.toNat] w (Same (.bool (zal c)) w):=by
 go_enter Tryz.func113,Tryz.ntmps113
 go_wp2
 all_goals (go_ret;refine ⟨r1 (vb ?_),rfl⟩)
 all_goals (go_light;revert c;decide +kernel)
def yp5:Option (List (List UInt8) × Nat)→World→Ending→World→Prop
 | none,w,e,w'=>e=.returned (.tuple #[.slice none 0 0,.int .i64 0,.bool false])∧Below w.heap.size w w'
 | some (ls,a),w,e,w'=>∃ v,e=.returned (.tuple #[v,.int .i64 a,.bool true])∧w'.ownsRow w.heap.size 9 1 v ls.length (strCells ls)∧Below w.heap.size w w'
theorem z2v:(Tryz.prog.info? 9).map (fun i=>(i.zero,i.size,i.bytes))=some (some (.string ⟨#[]⟩),1,16):=by kernel_rfl
theorem zyo (s:ByteArray) (k:Nat) (V:Int) (o:Option Nat) (ho:crAt (s.data.toList.drop k)=o) (hV:endV k o=V) (w:World) (hs:s.size≤1000000) (hk:k≤s.size):Calls Tryz.prog 168 #[.string s,.int .i64 k] w (Same (.int .i64 V) w):=hV ▸ yjx s k w hs hk o ho
theorem zw1 (s:ByteArray) (w:World) (hs:s.size≤1000000) (R:Option (List (List UInt8) × Nat)) (hR:zff (itL s.data.toList 0)=R):Calls Tryz.prog 111 #[.string s] w (yp5 R w):=by
 have HRR:=Lib.hid hR;clear hR
 go_enter Tryz.func111,Tryz.ntmps111
 go_wp2
 go_loopw [5,6,7] (fun v i _ wr=>∃ (k:Nat) (acc:List (List UInt8)),i=.int .i64 k∧k≤s.size∧acc.length≤k∧wr.ownsRow w.heap.size 9 1 v acc.length (strCells acc)∧Below w.heap.size w wr∧Hid (R=(zff (itL (s.data.toList.drop k) k)).map fun p=>(acc++p.1,p.2)))
  (fun _ i _ _=>s.size+1 - (intOf i).toNat)
 case atStart=>exact ⟨0,[],rfl,Nat.zero_le _,Nat.le_refl _,World.ownsRow_made (size:=1) w _ 0 (Nat.le_refl _) (by decide) (by decide),(Below.refl _ _).alloc (Nat.le_refl _) _,Lib.hid (by rw [List.drop_zero,HRR.out];simp)⟩
 case round =>
  obtain ⟨k,acc,rfl,hk,hal,hown,hbel,hacc⟩:=hrel
  rcases ho:crAt (s.data.toList.drop k) with _ | j
  ·have HV:=Lib.hid (show endV k none=-1 from rfl)
   have HO:=Lib.hid ho
   have hfin:R=none:=by rw [hacc.out,zex ho];rfl
   have HF:=Lib.hid hfin
   clear ho hfin
   go_wp2_with (go_at_call 168;refine (zyo s k (-1) none HO.out HV.out _ (by omega) hk).mono ?_;rintro e w1 ⟨rfl,rfl⟩)
   go_ret3
   rw [HF.out]
   exact ⟨rfl,hbel⟩
  ·have hlt:=zgw ho
   rw [List.length_drop,show s.data.toList.length=s.size from rfl] at hlt
   have hit:=zg9 (a:=k) ho
   rw [List.drop_drop] at hit
   have HO:=Lib.hid ho;have HIT:=Lib.hid hit;clear ho hit
   obtain ⟨tO,hto⟩:∃ tO,k+j=tO:=⟨_,rfl⟩
   have HV:=Lib.hid (show endV k (some j)=(tO:Int) by rw [← hto];rfl)
   by_cases hj:j=0
   ·have hfin:R=some (acc,k+2):=by
     rw [hacc.out,HIT.out,hj];simp [zff]
    have HF:=Lib.hid hfin
    obtain rfl:k=tO:=by omega
    clear hj hto hfin
    go_wp2_with (go_at_call 168;refine (zyo s k k (some j) HO.out HV.out _ (by omega) hk).mono ?_;rintro e w1 ⟨rfl,rfl⟩)
    go_ret3
    rw [HF.out]
    exact ⟨_,rfl,hown,hbel⟩
   ·have hne:((tO:Int) == (k:Int))=false:=by rw [beq_eq_false_iff_ne];omega
    have hsl:(s.extract k tO).data.toList=(s.data.toList.drop k).take j:=by rw [Lib.extract_data,show tO - k=j by omega]
    have hfin:R=(zff (itL (s.data.toList.drop (tO+2)) (tO+2))).map fun p=>(acc++[(s.extract k tO).data.toList]++p.1,p.2):=by
     have hn0:(s.data.toList.drop k).take j≠[]:=by
      intro h
      have:=congrArg List.length h
      rw [List.length_take,List.length_drop,show s.data.toList.length=s.size from rfl] at this
      simp at this;omega
     rw [hacc.out,HIT.out,zff,if_neg hn0,if_neg hj,hsl,show k+(j+2)=tO+2 by omega,show k+j+2=tO+2 by omega]
     rcases zff (itL (s.data.toList.drop (tO+2)) (tO+2)) with _ | p<;>simp
    have HF:=Lib.hid hfin
    have hle1:(k:Int)≤(tO:Int):=by omega
    have hle2:(tO:Int)+2≤(s.size:Int):=by omega
    have hnn:(0:Int)≤tO:=by omega
    have hktO:k<tO:=by omega
    have HTO:=Lib.hid hto
    obtain ⟨x,hx⟩:∃ x,s.extract k tO=x:=⟨_,rfl⟩
    rw [hx] at HF
    have hxs:x.size≤1000000:=by rw [← hx,ByteArray.size_extract];omega
    clear hj hto hfin hsl
    go_wp2_with (first | (go_at_call 168;refine (zyo s k tO (some j) HO.out HV.out _ (by omega) hk).mono ?_;rintro e w1 ⟨rfl,rfl⟩) | (at_builtin;refine zx7 (by rfl) _ _ _ (by rfl) 9 (.string ⟨#[]⟩) 1 16 Tryz.underlying39 z2v rfl (by decide) w.heap.size wr _ _ _ (by rfl) hown [.string x] rfl (by simp [Value.oneCell']) (by rfl) (by omega) (by omega) hbel.size ?_;intro g cap w1 hg hown1 hgr hb1 hsz1))
    go_roundw
    case rel =>
     exact ⟨tO+2,acc++[x.data.toList],by go_num,by omega,by simp;omega,by rw [zuu,List.length_append];exact hown1,hbel.trans hb1,HF⟩
    case measure=>simp [intOf];omega
end Go.Proofs.YtmpiobfdchlikaaGreatDoor
end
