/- LetterNests answers true for all numbers and flags, at any start: texts of this proof, merged. -/
import Derived.Test.YtmpiobfdchlikaaGreatDoorNh
set_option linter.unusedVariables false
set_option linter.unusedSimpArgs false
set_option maxHeartbeats 4000000
section
namespace Nun
open Go Go.RowKit Go.Proofs Go.Proofs.YtmpiobfdchlikaaGreatDoor
variable {lib:Callee}
def zby (e:Int):Value:=.iface 73 (.agg #[.int .i64 e])
theorem z2g (e:Int) (w:World):Calls Tryz.prog 70 #[.bool false,.int .i64 e] w (fun x w'=>x=.panicked (entry (zby e))∧w'=w):=by
 go_enter Tryz.func70,Tryz.ntmps70
 go_wp2
 all_goals exact ⟨rfl,rfl,rfl⟩
def yps:zcr:=fun f args bx oc q=>f=70∧∃ e:Int,args=[.flat (.bool false),.flat (.int .i64 e)]∧bx=[]∧oc=[]∧q=(zby e,[],[])
theorem yc8 {Γ:Glob}:zm1 Tryz.prog Γ yps:=by
 rintro f args bx oc q ⟨rfl,e,rfl,rfl,rfl,rfl⟩ w Fr β vs hp
 obtain rfl:vs=[.bool false,.int .i64 e]:=zqa rfl hp.args
 refine enters_of (by kernel_rfl) (by decide) ((z2g e w).mono ?_)
 rintro x w' ⟨rfl,rfl⟩
 exact ⟨rfl,Fr,β,by simp [zd7,Rd,Rds],hp.rel,Le.refl _ _ _,(fun L h=>by cases h),fun h=>by cases h⟩
noncomputable def z7q (f:FuncId):Option CFun:=if f=70 then none else code f
theorem yc9:∀ f c,z7q f=some c→∃ lv,zp4 Tryz.prog lv f=some c:=fun f c h=>by
 unfold z7q at h
 split at h
 ·cases h
 ·exact zt7 f c h
noncomputable def TW (lib:Callee):zcr:=PanW z7q (evW code lib) big yps
theorem yrn {Γ:Glob} (hL:zbv Tryz.prog Γ lib):zm1 Tryz.prog Γ (TW lib):=yie Tryz.checked.mixed (by kernel_rfl) yc9 (z3y Tryz.checked.mixed (by kernel_rfl) zt7 hL) yc8
theorem zf9 {f:FuncId} {nt:Nat} {res:List (Sum Nat (Nat × Bool × Nat))} {body:CCode} {rngs:List (List Nat × CCode × CCode)} (hc:code f=some ⟨nt,res,body,rngs⟩) (hne:f≠70) {args:List PV} {bx:zao} {oc:List Nun.Loc} (hl:args.length≤nt) (rt:Rt) {v:Value} (b1:zao) {b2:zao} (o1:List Nun.Loc) {o2:List Nun.Loc} (h:PanC (evW code lib) (TW lib) [] big body rt ⟨zfi 0 args,oc,[],bx⟩ (v,[],b1,o1))
 (h1:trim bx.length [] b1=b2) (h2:∀ L∈o2,L∈zcq b2.length o1):TW lib f args bx oc (v,b2,o2) :=
 yiw (c:=⟨nt,res,body,rngs⟩) (by unfold z7q;rw [if_neg hne];exact hc) hl rt h h1 h2
theorem yda (e:Int):TW lib 70 [.flat (.bool false),.flat (.int .i64 e)] [] [] (zby e,[],[]) :=
 yb8 (by unfold z7q;exact if_pos rfl) (by decide) ⟨rfl,e,rfl,rfl,rfl,rfl⟩
theorem zgd (e:Int):(∃ c p,TW lib 70 [.flat (.bool false),.flat (.int .i64 e)] [] [] (zby e,c,p))=True:=eq_true ⟨_,_,yda e⟩
def Rt.at (n:Nat) (r:Rt):Rt:=match n with
 | 0=>r
 | n+1=>.r (Rt.at n r)
theorem z7r (s:Str) (h:¬ s.all okB=true):∃ (k:Nat) (c:UInt8),s[k]? =some c∧okB c=false∧∀ (j:Nat) (d:UInt8),j<k→s[j]? =some d→okB d=true:=by
 induction s with
 | nil=>exact absurd rfl h
 | cons c t ih =>
   cases hc:okB c with
   | false=>exact ⟨0,c,rfl,hc,fun j d hj=>by omega⟩
   | true =>
     rw [List.all_cons,hc,Bool.true_and] at h
     obtain ⟨k,d,h1,h2,h3⟩:=ih h
     refine ⟨k+1,d,by simpa using h1,h2,fun j x hj hx=>?_⟩
     cases j with
     | zero=>simp at hx;subst hx;exact hc
     | succ j=>exact h3 j x (by omega) (by simpa using hx)
theorem z7s (HI:zll lib) (HR:zq4 lib) (s:Str) (hs:s.length≤1000000) (h:zki s=none):TW lib 128 [.flat (.string (S s))] [] [] (zby 7,[],[]):=by
 have hm:=zbj (lib:=lib) 7
 have h7:((7:Nat):Int)=7:=rfl
 rw [h7] at hm
 have ht:=zgd (lib:=lib) 7
 by_cases hall:s.all okB=true
 ·unfold zki at h
  rw [if_pos hall] at h
  split at h
  case isTrue=>cases h
  rename_i hno
  have hl:(Lib.replaceAll s [13,10] [0]).length≤1000000:=Nat.le_trans (z6t s [13,10] [0] (by decide)) hs
  have hloop:=zsv (lib:=lib) s hs hall
  have r1:=z6s HR s [13,10] [0] hs (by decide) (by decide)
  generalize Lib.replaceAll s [13,10] [0]=u at *
  have i1:=zqm HI u 13 (by omega)
  have i2:=zqm HI u 10 (by omega)
  have e13:((UInt8.toNat 13:Nat):Int)=13:=rfl
  have e10:((UInt8.toNat 10:Nat):Int)=10:=rfl
  rw [e13] at i1;rw [e10] at i2
  refine zf9 zf4 (by decide) (Nat.le_of_ble_eq_true rfl) (.r (.r (.r (.l (.op 70 0))))) [] [] ?_ rfl (by simp)
  cases hc:at1 13 u with
  | some i =>
    rw [hc] at i1
    dsimp only at i1
    simp (maxSteps:=999999) (disch:=first | assumption | omega) only [go_sem,simprocAttr,au,hloop,r1,i1,ht]
  | none =>
    rw [hc] at i1
    dsimp only at i1
    cases hd:at1 10 u with
    | some i =>
      rw [hd] at i2
      dsimp only at i2
      simp (maxSteps:=999999) (disch:=first | assumption | omega) only [go_sem,simprocAttr,au,hloop,r1,i1,i2,ht]
    | none=>exact absurd ⟨hc,hd⟩ hno
 ·obtain ⟨k0,c0,hk0,hc0,hpre⟩:=z7r s hall
  have hkl:=(qg hk0).1
  obtain ⟨j,hj⟩:=zpc (body:=evC (evW code lib) big zcg) (pbody:=fun st=>PanC (evW code lib) (TW lib) [] big zcg (.r (.r (.l (.r (.op 70 0))))) st (zby 7,[],[],[])) (live:=[0,6,7]) (nb:=0) (fun k:Nat=>⟨[(0,.flat (.string (S s))),(6,.flat (.int .i64 (s.length:Nat))),(7,.flat (.int .i64 (k:Nat)))],[],[],[]⟩) (fun k=>k≤k0) (fun k=>k0 - k) (fun k hk=>by
   have hks:k<s.length:=by omega
   have hc:s[k]? =some s[k]:=qe hks
   obtain ⟨c,hce⟩:∃ c,s[k]=c:=⟨_,rfl⟩
   rw [hce] at hc
   obtain ⟨n,hn⟩:∃ n,c.toNat=n:=⟨_,rfl⟩
   by_cases hkk:k=k0
   ·left
    subst hkk
    rw [hk0] at hc
    cases hc
    unfold okB at hc0
    rw [hn] at hc0
    simp only [Bool.and_eq_false_iff,decide_eq_false_iff_not] at hc0
    unfold zcg
    rcases Classical.em (0<n) with g1 | g1
    ·have g2:128≤n:=by omega
     clear hc0
     simp (maxSteps:=999999) (disch:=first | assumption | omega) only [go_sem,simprocAttr,au,hk0,hn,ht]
    ·clear hc0
     simp (maxSteps:=999999) (disch:=first | assumption | omega) only [go_sem,simprocAttr,au,hk0,hn,ht]
   ·right
    have hb:=hpre k c (by omega) hc
    unfold okB at hb
    rw [hn] at hb
    simp only [Bool.and_eq_true,decide_eq_true_eq] at hb
    refine ⟨⟨[(0,.flat (.string (S s))),(6,.flat (.int .i64 (s.length:Nat))),(7,.flat (.int .i64 ((k+1:Nat):Nat)))],[],[],[]⟩,k+1,?_,?_,by omega,by omega⟩
    ·simp (maxSteps:=999999) (disch:=first | assumption | omega) only [go_sem,simprocAttr,au,zf1,hc,hn,hm]
    ·simp (maxSteps:=999999) (disch:=first | assumption | omega) only [go_sem,simprocAttr,au]) (k0+1) 0 (Nat.zero_le _) (by omega)
  simp only [n0] at hj
  refine zf9 zf4 (by decide) (Nat.le_of_ble_eq_true rfl) (.r (.l (.r (.lp j (.r (.r (.l (.r (.op 70 0))))))))) [] [] ?_ rfl (by simp)
  simp (maxSteps:=999999) (disch:=first | assumption | omega) only [go_sem,simprocAttr,au,hj]
theorem ydb (HI:zll lib) (HR:zq4 lib) (HD:z6u lib) (HU:z6v lib) (s c:Str) (hs:s.length≤1000000) (h:zkj s c=none):TW lib 75 [.flat (.string (S s)),.flat (.string (S c))] [] [] (zby 7,[],[]):=by
 have ht:=zgd (lib:=lib) 7
 unfold zkj at h
 by_cases h1:c=zbn
 ·rw [if_pos h1] at h
  have h1':(c=[55,98,105,116])=True:=eq_true h1
  refine zf9 zdx (by decide) (Nat.le_of_ble_eq_true rfl) (.r (.r (.l (.r (.r (.l (.op 128 0))))))) [] [] ?_ rfl (by simp)
  simp (maxSteps:=999999) (disch:=first | assumption | omega) only [go_sem,simprocAttr,au,h1']
  exact ⟨_,_,z7s HI HR s hs h⟩
 ·rw [if_neg h1] at h
  have h1':(c=[55,98,105,116])=False:=eq_false h1
  by_cases h2:c=sQp
  ·rw [if_pos h2] at h
   have e:=yph HD s hs
   rw [h] at e
   dsimp only at e
   have h2':(c=[113,117,111,116,101,100,45,112,114,105,110,116,97,98,108,101])=True:=eq_true h2
   refine zf9 zdx (by decide) (Nat.le_of_ble_eq_true rfl) (.r (.r (.r (.l (.op 70 0))))) [] [] ?_ rfl (by simp)
   simp (maxSteps:=999999) (disch:=first | assumption | omega) only [go_sem,simprocAttr,au,e,h1',h2',ht]
  ·rw [if_neg h2] at h
   have h2':(c=[113,117,111,116,101,100,45,112,114,105,110,116,97,98,108,101])=False:=eq_false h2
   by_cases h3:c=sB64
   ·rw [if_pos h3] at h
    have e:=ypi HU s hs
    rw [h] at e
    dsimp only at e
    have h3':(c=[98,97,115,101,54,52])=True:=eq_true h3
    refine zf9 zdx (by decide) (Nat.le_of_ble_eq_true rfl) (.r (.r (.r (.l (.op 70 0))))) [] [] ?_ rfl (by simp)
    simp (maxSteps:=999999) (disch:=first | assumption | omega) only [go_sem,simprocAttr,au,e,h1',h2',h3',ht]
   ·have h3':(c=[98,97,115,101,54,52])=False:=eq_false h3
    refine zf9 zdx (by decide) (Nat.le_of_ble_eq_true rfl) (.r (.r (.r (.l (.op 70 0))))) [] [] ?_ rfl (by simp)
    simp (maxSteps:=999999) (disch:=first | assumption | omega) only [go_sem,simprocAttr,au,h1',h2',h3',ht]
theorem ydc (HA:zjd lib) (HF:zq0 lib) (HP:zwa lib) (HC:zwb lib) (HI:zll lib) (F:List Fld) (e:Nat) (hF:ziq F) (hv:(getU sCt F).1.length≤10000) (hl:∀ m l,zbr (getU sCt F).1=.ok m l→ziq l∧m.length≤10000) (h:zds F=.error e) :
 TW lib 71 [.slc F.length (zac F)] [] [] (zby (e:Nat),[],[]):=by
 have g1:=zjq HA F sCt hF (by decide)
 have g2:=zjq HA F sCte hF (by decide)
 have hm0:=zbj (lib:=lib) 0
 have hm9:=zbj (lib:=lib) 9
 have h9:((9:Nat):Int)=9:=rfl
 rw [h9] at hm9;rw [n0] at hm0
 have t7:=zgd (lib:=lib) 7
 have t9:=zgd (lib:=lib) 9
 have hnp:=zak F
 have hlow:=fun n=>zae (n:=n) F
 have hp:=yei HP _ hv
 unfold zds at h
 unfold sCt at g1 h hp hl
 unfold sCte at g2 h
 obtain ⟨v,hv'⟩:∃ v,getU [99,111,110,116,101,110,116,45,116,121,112,101] F=v:=⟨_,rfl⟩
 obtain ⟨u,hu'⟩:∃ v,getU [99,111,110,116,101,110,116,45,116,114,97,110,115,102,101,114,45,101,110,99,111,100,105,110,103] F=v:=⟨_,rfl⟩
 rw [hv'] at g1 h hp hl
 rw [hu'] at g2 h
 obtain ⟨v,n⟩:=v
 obtain ⟨u,k⟩:=u
 dsimp only at g1 g2 h hp hl
 split at h
 case isFalse =>
  rename_i hnk
  cases h
  refine zf9 zdw (by decide) (Nat.le_of_ble_eq_true rfl) (.r (.r (.r (.l (.op 70 0))))) [] [] ?_ rfl (by simp)
  clear hp hl hF
  have e9:zby ((9:Nat):Int)=zby 9:=rfl
  rcases Classical.em (n<2) with a1 | a1
  ·have a2:¬ k<2:=fun a2=>hnk ⟨a1,a2⟩
   simp (maxSteps:=999999) (disch:=first | assumption | omega) only [go_sem,simprocAttr,au,g1,g2,t9,hnp,hlow,e9]
  ·simp (maxSteps:=999999) (disch:=first | assumption | omega) only [go_sem,simprocAttr,au,g1,g2,t9,hnp,hlow,e9]
 rename_i hnk
 obtain ⟨hn,hk⟩:=hnk
 split at h
 ·cases h
 ·rename_i hn0
  have hn0':((n:Int)=0)=False:=by apply eq_false;omega
  cases hpar:zbr v with
  | form =>
    rw [hpar] at h hp
    dsimp only at h hp
    cases h
    have e7:zby ((7:Nat):Int)=zby 7:=rfl
    refine zf9 zdw (by decide) (Nat.le_of_ble_eq_true rfl) (.r (.r (.r (.r (.r (.r (.l (.op 70 0)))))))) [] [] ?_ rfl (by simp)
    clear hl hF
    simp (maxSteps:=999999) (disch:=first | assumption | omega) only [go_sem,simprocAttr,au,g1,g2,hm9,t7,hnp,hlow,e7,hn0',hp]
  | twice =>
    rw [hpar] at h hp
    dsimp only at h hp
    cases h
    have e9:zby ((9:Nat):Int)=zby 9:=rfl
    refine zf9 zdw (by decide) (Nat.le_of_ble_eq_true rfl) (.r (.r (.r (.r (.r (.r (.l (.op 70 0)))))))) [] [] ?_ rfl (by simp)
    clear hl hF
    simp (maxSteps:=999999) (disch:=first | assumption | omega) only [go_sem,simprocAttr,au,g1,g2,hm9,t9,hnp,hlow,e9,hn0',hp]
  | ok m l =>
    rw [hpar] at h hp
    dsimp only at h hp
    obtain ⟨hsl,hml⟩:=hl m l hpar
    have hlo:=zwc HA l m hsl
    have hcut:=z6w HC m [47] (by omega)
    have hnpl:=zak l
    have hlowl:=fun n=>zae (n:=n) l
    have hll:=hsl.1
    split at h
    case isTrue=>cases h
    rename_i hc
    cases h
    have e7:zby ((7:Nat):Int)=zby 7:=rfl
    have hbl:(Lib.cut m [47]).2.1.length≤m.length:=by
     unfold Lib.cut;split
     ·simp only [List.length_drop];omega
     ·simp
    obtain ⟨q,hq⟩:∃ q,Lib.cut m [47]=q:=⟨_,rfl⟩
    rw [hq] at hcut hc hbl
    obtain ⟨x,y,z⟩:=q
    dsimp only at hcut hc hbl
    have hidx:=zqm HI y 47 (by omega)
    have e47:((UInt8.toNat 47:Nat):Int)=47:=rfl
    rw [e47] at hidx
    refine zf9 zdw (by decide) (Nat.le_of_ble_eq_true rfl) (.r (.r (.r (.r (.r (.r (.r (.r (.r (.r (.l (.op 70 0)))))))))))) [] [] ?_ rfl (by simp)
    clear hF hsl hl hq hpar HA HF HP HC HI
    cases z with
    | false =>
      simp (maxSteps:=999999) (disch:=first | assumption | omega) only [go_sem,simprocAttr,au,g1,g2,hm0,hm9,t7,hnp,hlow,hnpl,hlowl,e7,hn0',hp,hlo,hcut]
    | true =>
      by_cases c2:x=[]
      ·have c2':=eq_true c2
       simp (maxSteps:=999999) (disch:=first | assumption | omega) only [go_sem,simprocAttr,au,g1,g2,hm0,hm9,t7,hnp,hlow,hnpl,hlowl,e7,hn0',hp,hlo,hcut,c2']
      ·have c2':=eq_false c2
       by_cases c3:y=[]
       ·have c3':=eq_true c3
        simp (maxSteps:=999999) (disch:=first | assumption | omega) only [go_sem,simprocAttr,au,g1,g2,hm0,hm9,t7,hnp,hlow,hnpl,hlowl,e7,hn0',hp,hlo,hcut,c2',c3']
       ·have c3':=eq_false c3
        cases hat:at1 47 y with
        | none=>exact absurd ⟨rfl,c2,c3,hat⟩ hc
        | some i =>
          rw [hat] at hidx
          dsimp only at hidx
          clear hc
          simp (maxSteps:=999999) (disch:=first | assumption | omega) only [go_sem,simprocAttr,au,g1,g2,hm0,hm9,t7,hnp,hlow,hnpl,hlowl,e7,hn0',hp,hlo,hcut,c2',c3',hidx]
theorem z7t {ι:Type} {body:St→Option (Out × St)} {P:ι→St→Prop} {live:List Nat} {nb:Nat}:∀ (j:Nat) (st:St),zdm body (fun s=>∃ i,P i s) live nb j st→∃ i,zdm body (P i) live nb j st
 | 0,st,⟨i,h⟩=>⟨i,h⟩
 | j+1,st,h=>by
   unfold zdm at h
   split at h
   ·rename_i st' hs
    obtain ⟨i,hi⟩:=z7t j _ h
    refine ⟨i,?_⟩
    unfold zdm
    rw [hs]
    exact hi
   ·exact h.elim
def rtB (i:Bool):Rt:=if i then .r (.l (.op 70 0)) else .r (.r (.r (.r (.l (.r (.l (.op 70 0)))))))
theorem ypt {rest line:Str} {BX:List Str→zao} {oc:List (Nat × Nat)} {b nb:Nat} (HN:zq6 lib) (HP:zqn lib) (hrl:rest.length≤100000000) (hlen:∀ a,(BX a).length=nb) {a:List Str} {fr at_:Nat} (k1:fr≤at_) (k2:at_≤rest.length) (hll:line.length≤10000000) (h:boT rest line (a,fr,at_)=.inr none) :
 ∃ i,PanC (evW code lib) (TW lib) [] big zbg (rtB i) ⟨[(0,.yld b),(4,.flat (.string (S line))),(5,.flat (.string (S rest))),(7,.flat (.int .i64 (fr:Nat))),(8,.flat (.int .i64 (at_:Nat)))],cl oc,[],BX a⟩ (zby 7,[],BX a,cl oc):=by
 have hbv:bound=4294967296:=rfl
 have hm0:=zbj (lib:=lib) 7
 have h7:((7:Nat):Int)=7:=rfl
 rw [h7] at hm0
 have ht:=zgd (lib:=lib) 7
 have i1:=z6x HN (rest.drop at_) line (by rw [List.length_drop];omega)
 have tk:rest.take rest.length=rest:=List.take_length
 have g1:=hlen a
 by_cases hno:Lib.index (rest.drop at_) line=-1
 ·rw [hno] at i1
  refine ⟨true,?_⟩
  unfold rtB zbg
  rw [if_pos rfl]
  clear h
  simp (maxSteps:=999999) (disch:=first | assumption | omega) only [go_sem,simprocAttr,au,tk,i1,ht,g1,zea,zd4,zc5,zeb,zdg]
 ·obtain ⟨r1,r2⟩:=zpg (n:=0) hno
  rw [List.length_drop] at r1
  obtain ⟨i,hi⟩:∃ i,(Lib.index (rest.drop at_) line).toNat=i:=⟨_,rfl⟩
  rw [hi] at r1 r2
  rw [r2] at i1
  have hst:boT rest line (a,fr,at_)=(if ([45,45,13,10]:Str).isPrefixOf (rest.drop (at_+i+line.length)) then (if rest.drop (at_+i+line.length)=[45,45,13,10] then .inr (some (a++[(rest.take (at_+i)).drop fr])) else .inr none)
   else if ([13,10]:Str).isPrefixOf (rest.drop (at_+i+line.length)) then .inl (a++[(rest.take (at_+i)).drop fr],at_+i+line.length+2,at_+i+line.length+2) else .inl (a,fr,at_+i+1)):=by
   unfold boT;dsimp only;rw [if_neg hno,hi]
  have tn:((at_:Int)+(i:Int)+(line.length:Int)).toNat=at_+i+line.length:=by omega
  have p1':=zir HP (rest.drop (at_+i+line.length)) [45,45,13,10] (by rw [List.length_drop];omega) (by decide)
  rw [hst] at h
  cases hp1:([45,45,13,10]:Str).isPrefixOf (rest.drop (at_+i+line.length)) with
  | true =>
    rw [hp1] at h p1'
    simp only [if_true] at h
    by_cases heq:rest.drop (at_+i+line.length)=[45,45,13,10]
    ·rw [if_pos heq] at h;cases h
    ·have hq:=eq_false heq
     refine ⟨false,?_⟩
     unfold rtB zbg
     rw [if_neg (by simp)]
     clear h hst heq
     simp (maxSteps:=999999) (disch:=first | assumption | omega) only [go_sem,simprocAttr,au,tk,tn,i1,hm0,ht,p1',hq,g1,zea,zd4,zc5,zeb,zdg]
  | false =>
    rw [hp1] at h
    simp only [Bool.false_eq_true,if_false] at h
    split at h<;>cases h
theorem ydd {rest line:Str} {BX:List Str→zao} {oc:List (Nat × Nat)} {b nb N:Nat} (HN:zq6 lib) (HP:zqn lib) (hrl:rest.length≤100000000) (hlen:∀ a,(BX a).length=nb) (hoc:∀ q∈oc,q.1<nb) {a:List Str} {fr at_:Nat} (k1:fr≤at_) (k2:at_≤rest.length) (hll:line.length≤10000000) (hl1:1≤line.length) (hN:a.length≤N)
 (hy:∀ a x,a.length≤N→evW code lib yldF [.yld b,.flat (.string (S x))] (BX a) (cl oc)=some ([.flat (.bool true)],false,BX (a++[x]),cl oc)) {q:List Str × Nat × Nat} (h:boT rest line (a,fr,at_)=.inl q) :
 evC (evW code lib) big zbg ⟨[(0,.yld b),(4,.flat (.string (S line))),(5,.flat (.string (S rest))),(7,.flat (.int .i64 (fr:Nat))),(8,.flat (.int .i64 (at_:Nat)))],cl oc,[],BX a⟩=some (.normal,⟨[(0,.yld b),(4,.flat (.string (S line))),(5,.flat (.string (S rest))),(7,.flat (.int .i64 (q.2.1:Nat))),(8,.flat (.int .i64 (q.2.2:Nat)))],cl oc,[],BX q.1⟩)∧q.2.1≤q.2.2∧q.2.2≤rest.length∧at_<q.2.2∧q.1.length≤a.length+1:=by
 have hbv:bound=4294967296:=rfl
 have hm0:=zbj (lib:=lib) 7
 have h7:((7:Nat):Int)=7:=rfl
 rw [h7] at hm0
 have i1:=z6x HN (rest.drop at_) line (by rw [List.length_drop];omega)
 have tk:rest.take rest.length=rest:=List.take_length
 have g1:=hlen a
 by_cases hno:Lib.index (rest.drop at_) line=-1
 ·unfold boT at h;dsimp only at h;rw [if_pos hno] at h;cases h
 ·obtain ⟨r1,r2⟩:=zpg (n:=0) hno
  rw [List.length_drop] at r1
  obtain ⟨i,hi⟩:∃ i,(Lib.index (rest.drop at_) line).toNat=i:=⟨_,rfl⟩
  rw [hi] at r1 r2
  rw [r2] at i1
  have hst:boT rest line (a,fr,at_)=(if ([45,45,13,10]:Str).isPrefixOf (rest.drop (at_+i+line.length)) then (if rest.drop (at_+i+line.length)=[45,45,13,10] then .inr (some (a++[(rest.take (at_+i)).drop fr])) else .inr none)
   else if ([13,10]:Str).isPrefixOf (rest.drop (at_+i+line.length)) then .inl (a++[(rest.take (at_+i)).drop fr],at_+i+line.length+2,at_+i+line.length+2) else .inl (a,fr,at_+i+1)):=by
   unfold boT;dsimp only;rw [if_neg hno,hi]
  have tn:((at_:Int)+(i:Int)+(line.length:Int)).toNat=at_+i+line.length:=by omega
  have p1':=zir HP (rest.drop (at_+i+line.length)) [45,45,13,10] (by rw [List.length_drop];omega) (by decide)
  have p2':=zir HP (rest.drop (at_+i+line.length)) [13,10] (by rw [List.length_drop];omega) (by decide)
  have g5:=zgc oc hoc
  have hyy:=hy a ((rest.take (at_+i)).drop fr) hN
  have g2:=hlen (a++[(rest.take (at_+i)).drop fr])
  rw [hst] at h
  cases hp1:([45,45,13,10]:Str).isPrefixOf (rest.drop (at_+i+line.length)) with
  | true =>
    rw [hp1] at h
    simp only [if_true] at h
    split at h<;>cases h
  | false =>
    rw [hp1] at h p1'
    simp only [Bool.false_eq_true,if_false] at h
    cases hp2:([13,10]:Str).isPrefixOf (rest.drop (at_+i+line.length)) with
    | true =>
      rw [hp2] at h p2'
      simp only [if_true] at h
      cases h
      have hl2:=zmc hp2
      rw [List.length_drop] at hl2
      simp only [List.length_cons,List.length_nil] at hl2
      refine ⟨?_,Nat.le_refl _,by dsimp only;omega,by dsimp only;omega,by simp⟩
      clear hst hy
      simp (maxSteps:=999999) (disch:=first | assumption | omega) only [go_sem,simprocAttr,au,zcj,tk,tn,i1,hm0,p1',p2',hyy,g1,g2,zea,zd4,zc5,zeb,zdg,zbx g1,zbx g2,g5,zfa]
    | false =>
      rw [hp2] at h p2'
      simp only [Bool.false_eq_true,if_false] at h
      cases h
      refine ⟨?_,by dsimp only;omega,by dsimp only;omega,by dsimp only;omega,by simp⟩
      clear hst hy
      simp (maxSteps:=999999) (disch:=first | assumption | omega) only [go_sem,simprocAttr,au,zcj,tk,tn,i1,hm0,p1',p2',g1,zea,zd4,zc5,zeb,zdg,zbx g1,g5,zfa]
theorem z2h (HN:zq6 lib) (HC:zq7 lib) (HP:zqn lib) (s mark:Str) (hs:s.length≤100000000) (hm:mark.length≤1000000) (h:zch s mark=none) (BX:List Str→zao) (oc:List (Nat × Nat)) (b p1 p2 nb:Nat)
 (h1:∀ a,(BX a)[p1]? =some (9,[.flat (.string (S mark))])) (h2:∀ a,(BX a)[p2]? =some (9,[.flat (.string (S s))])) (hlen:∀ a,(BX a).length=nb) (hoc:∀ q∈oc,q.1<nb)
 (hy:∀ a x,a.length≤s.length→evW code lib yldF [.yld b,.flat (.string (S x))] (BX a) (cl oc)=some ([.flat (.bool true)],false,BX (a++[x]),cl oc)) :
 ∃ out,TW lib 131 [.yld b,.ptr p1 0,.ptr p2 0] (BX []) (cl oc) (zby 7,BX out,[]):=by
 have hbv:bound=4294967296:=rfl
 have hll:(zc1 mark).length=mark.length+4:=by unfold zc1;simp
 have c1:=z6y HC ([13,10]++s) (zc1 mark++[13,10]) (by simp;omega)
 have g1:=h1 []
 have g2:=h2 []
 have g3:=hlen []
 have hm0:=zbj (lib:=lib) 7
 have h7:((7:Nat):Int)=7:=rfl
 rw [h7] at hm0
 have ht:=zgd (lib:=lib) 7
 have g5:=zgc oc hoc
 have eL:S (13::10::45::45::mark)=S (zc1 mark):=rfl
 unfold zch at h
 cases hpre:(zc1 mark++[13,10]).isPrefixOf ([13,10]++s) with
 | false =>
   rw [hpre] at c1
   simp only [Bool.false_eq_true,if_false] at c1
   simp only [List.cons_append,List.nil_append] at c1
   refine ⟨[],zf9 zem (by decide) (Nat.le_of_ble_eq_true rfl) (.r (.r (.l (.op 70 0)))) (BX []) (cl oc) ?_ (zbx rfl) (by simp)⟩
   clear h
   simp (maxSteps:=999999) (disch:=first | assumption | omega) only [go_sem,simprocAttr,au,g1,g2,g3,eL,c1,ht,zea,zd4,zc5,zeb,zdg]
 | true =>
   rw [if_pos hpre] at h
   rw [if_pos hpre,hpre] at c1
   have hpl:=zmc hpre
   simp only [List.length_append,List.length_cons,List.length_nil] at hpl
   have hrl:(([13,10]++s).drop (zc1 mark++[13,10]).length).length≤s.length:=by simp only [List.length_drop,List.length_append,List.length_cons,List.length_nil];omega
   obtain ⟨rest,hrest⟩:∃ r,([13,10]++s).drop (zc1 mark++[13,10]).length=r:=⟨_,rfl⟩
   rw [hrest] at h c1 hrl
   simp only [List.cons_append,List.nil_append] at c1
   obtain ⟨line,hline⟩:∃ l,zc1 mark=l:=⟨_,rfl⟩
   rw [hline] at h c1 hll eL
   obtain ⟨j,hj⟩:=zpc (body:=evC (evW code lib) big zbg) (pbody:=fun st=>∃ i:Bool × List Str,PanC (evW code lib) (TW lib) [] big zbg (rtB i.1) st (zby 7,[],BX i.2,cl oc)) (live:=[0,4,5,7,8]) (nb:=nb) (fun q:List Str × Nat × Nat=>(⟨[(0,.yld b),(4,.flat (.string (S line))),(5,.flat (.string (S rest))),(7,.flat (.int .i64 (q.2.1:Nat))),(8,.flat (.int .i64 (q.2.2:Nat)))],cl oc,[],BX q.1⟩:St))
    (fun q=>q.2.1≤q.2.2∧q.2.2≤rest.length∧q.1.length≤q.2.2∧∃ n,rest.length+1≤n+q.2.2∧runS (boT rest line) none n q=none) (fun q=>rest.length - q.2.2) (fun q hq=>by
      obtain ⟨a,fr,at_⟩:=q
      obtain ⟨k1,k2,k3,n,k4,k5⟩:=hq
      dsimp only at k1 k2 k3 k4 k5 ⊢
      cases n with
      | zero=>omega
      | succ n =>
        cases hst:boT rest line (a,fr,at_) with
        | inr r =>
          rw [zca hst] at k5
          subst k5
          obtain ⟨i,hi⟩:=ypt (BX:=BX) (oc:=oc) (b:=b) HN HP (by omega) hlen k1 k2 (by omega) hst
          exact .inl ⟨(i,a),hi⟩
        | inl q =>
          rw [zc6 hst] at k5
          obtain ⟨m1,m2,m3,m4,m5⟩:=ydd (oc:=oc) HN HP (by omega) hlen hoc k1 k2 (by omega) (by omega) (N:=s.length) (by omega) hy hst
          right
          refine ⟨_,q,m1,?_,⟨m2,m3,by omega,n,by omega,k5⟩,by omega⟩
          have g2:=hlen q.1
          simp (maxSteps:=999999) (disch:=first | assumption | omega) only [go_sem,simprocAttr,au,g2,zea,zd4,zc5,zeb,zdg,zbx g2,g5]) (rest.length+1) ([],0,0) ⟨Nat.le_refl _,Nat.zero_le _,Nat.le_refl _,s.length+1,by dsimp only;omega,h⟩ (by dsimp only;omega)
   obtain ⟨⟨i,out⟩,hj⟩:=z7t j _ hj
   dsimp only at hj
   simp only [n0] at hj
   have g4:=hlen out
   refine ⟨out,zf9 zem (by decide) (Nat.le_of_ble_eq_true rfl) (.r (.r (.r (.r (.r (.lp j (rtB i))))))) (BX out) (cl oc) ?_ (zbx (by rw [g3,g4])) (by simp)⟩
   clear h
   simp (maxSteps:=999999) (disch:=first | assumption | omega) only [go_sem,simprocAttr,au,g1,g2,g3,eL,c1,hm0,zea,zd4,zc5,zeb,zdg,zbx g3,g5,hj]
theorem BxAt.tr {B:Nat→zao} {n b e:Nat} {c:Nat→List PV} {r:List (Nat × Nat)} (H:BxAt B n b e c r) (i j:Nat) (ys:zao):trim (B j).length [] (B i++ys)=B i:=by
 have h1:=H.a_len i ys
 have h2:=H.a_take i ys
 have h3:=H.low i
 unfold trim
 rw [H.len,h1,h2]
 cases ys with
 | nil=>simp
 | cons y ys =>
   have:¬ (n+(y::ys).length=n):=by simp
   rw [if_neg this,znt,h3]
   simp [lows]
theorem zwu (L:LibL lib) {B:Nat→zao} {n b:Nat} {r:List (Nat × Nat)} (H:BxAt B n b RT rdr r) {deep j:Nat} {s:Str} (hs:s.length≤10000) (e:Int) (he:e=6∨e=7) (f1:evW code lib 69 [.flat (.string (S s))] [] []=some ([.slc 0 [],.flat (.int .i64 0),.flat (.int .i64 e)],false,[],[])) :
 TW lib 39 [.ptr b 0,.flat (.string (S s)),.flat (.int .i64 (deep:Nat))] (B j) (cl r) (zby e,B j,[]):=by
 have ht:=zgd (lib:=lib) e
 have htr:=H.tr j j [(48,zad)]
 have hr1:=H.a_get;have hr2:=H.a_0;have hr3:=H.a_1;have hr4:=H.a_set;have hr5:=H.a_s0;have hr6:=H.a_s1;have hr7:=H.a_len;have hr8:=H.a_take;have hr9:=H.a_take1;have hrl:=H.len;have hlow:=H.low;have hd0:=H.d_0;have hd1:=H.d_1;have hu0:=H.u_0;have hu1:=H.u_1;have hl0:=H.l_0;have hl1:=H.l_1
 clear H
 refine zf9 zaf (by decide) (Nat.le_of_ble_eq_true rfl) (.r (.r (.l (.op 70 0)))) (B j++[(48,zad)]) (.cell n 0::.cell n 3::cl r) ?_ htr (by simp)
 unfold zad
 rcases he with rfl | rfl
 ·simp (maxSteps:=999999) (disch:=first | assumption | omega) only [go_sem,simprocAttr,au,f1,ht,hr1,hr2,hr3,hr4,hr5,hr6,hr7,hr8,hr9,hrl,hlow,hd0,hd1,hu0,hu1,hl0,hl1]
 ·simp (maxSteps:=999999) (disch:=first | assumption | omega) only [go_sem,simprocAttr,au,f1,ht,hr1,hr2,hr3,hr4,hr5,hr6,hr7,hr8,hr9,hrl,hlow,hd0,hd1,hu0,hu1,hl0,hl1]
theorem z7u (L:LibL lib) {B:Nat→zao} {n b:Nat} {r:List (Nat × Nat)} (H:BxAt B n b RT rdr r) {deep j:Nat} {s:Str} (hs:s.length≤10000) {F:List Fld} {at_:Nat} (h1:zba s=.ok F at_) {e:Nat} (h2:zds F=.error e) :
 TW lib 39 [.ptr b 0,.flat (.string (S s)),.flat (.int .i64 (deep:Nat))] (B j) (cl r) (zby (e:Nat),B j,[]):=by
 obtain ⟨k1,k2,k3⟩:=zaz h1 (by omega)
 have f1:=zlo L.spl s hs
 rw [h1] at f1
 dsimp only at f1
 have hgl:(getU sCt F).1.length≤10000:=zau F _ (by simp) fun f hf=>by have:=(k3 f hf).2;omega
 have ft:=ydc L.alike L.fold L.par L.cut L.idx F e k1 hgl (fun m l hp=>by have:=zaq hp hgl;exact ⟨this.1,by omega⟩) h2
 have hm0:=zbj (lib:=lib) 0
 rw [n0] at hm0
 have hnp:=zak F
 have hlo:=fun n=>zae (n:=n) F
 have hFl:=k1.1
 have htr:=H.tr j j [(48,zad),(48,[.slc F.length (zac F),.flat (.string (S [])),.flat (.string (S [])),.slc 0 []])]
 have hr1:=H.a_get;have hr2:=H.a_0;have hr3:=H.a_1;have hr4:=H.a_set;have hr5:=H.a_s0;have hr6:=H.a_s1;have hr7:=H.a_len;have hr8:=H.a_take;have hr9:=H.a_take1;have hrl:=H.len;have hlow:=H.low;have hd0:=H.d_0;have hd1:=H.d_1;have hu0:=H.u_0;have hu1:=H.u_1;have hl0:=H.l_0;have hl1:=H.l_1
 clear H k1 k3 h1 h2 L
 generalize zac F=fc at *
 refine zf9 zaf (by decide) (Nat.le_of_ble_eq_true rfl) (.r (.r (.r (.r (.r (.l (.op 71 0))))))) _ (.cell (n+1) 3::.cell n 0::.cell n 3::cl r) ?_ htr (by simp)
 unfold zad
 simp (maxSteps:=999999) (disch:=first | assumption | omega) only [go_sem,simprocAttr,au,f1,hm0,hnp,hlo,hr1,hr2,hr3,hr4,hr5,hr6,hr7,hr8,hr9,hrl,hlow,hd0,hd1,hu0,hu1,hl0,hl1]
 exact ⟨_,_,ft⟩
theorem z7v (L:LibL lib) {B:Nat→zao} {n b:Nat} {r:List (Nat × Nat)} (H:BxAt B n b RT rdr r) {deep j:Nat} (hdp:deep≤4) (hj:j≤64) {s:Str} (hs:s.length≤10000) {F:List Fld} {at_:Nat} (h1:zba s=.ok F at_) {ty mk:Str} (h2:zds F=.ok (ty,mk)) (h3:za1.isPrefixOf ty=false) (h4:zkj (s.drop at_) (codP F)=none) :
 TW lib 39 [.ptr b 0,.flat (.string (S s)),.flat (.int .i64 (deep:Nat))] (B j) (cl r) (zby 7,B j,[]):=by
 obtain ⟨k1,k2,k3⟩:=zaz h1 (by omega)
 have f1:=zlo L.spl s hs
 rw [h1] at f1
 dsimp only at f1
 have hgl:(getU sCt F).1.length≤10000:=zau F _ (by simp) fun f hf=>by have:=(k3 f hf).2;omega
 have hgl2:(getU sCte F).1.length≤10000:=zau F _ (by simp) fun f hf=>by have:=(k3 f hf).2;omega
 have f2:=zkk L.alike L.fold L.par L.cut L.idx F ty mk k1 hgl (fun m l hp=>by have:=zaq hp hgl;exact ⟨this.1,by omega⟩) h2
 have f3:=zjq L.alike F sCte k1 (by decide)
 have hm0:=zbj (lib:=lib) 0
 have hm7:=zbj (lib:=lib) 7
 have hm8:=zbj (lib:=lib) 8
 rw [n0] at hm0
 rw [show ((7:Nat):Int)=7 from rfl] at hm7
 rw [show ((8:Nat):Int)=8 from rfl] at hm8
 have hfl:=zje L.fold (if (getU sCte F).2=0 then zbn else (getU sCte F).1) (by split<;>first | decide | omega)
 have htyl:ty.length≤10000:=by
  unfold zds at h2
  split at h2
  ·split at h2
   ·cases h2;decide
   ·split at h2
    ·cases h2
    ·cases h2
    ·rename_i m l hp
     split at h2
     ·cases h2
      have:=(zaq hp hgl).2
      simp only [zab,List.length_map];omega
     ·cases h2
  ·cases h2
 have f4:=zir L.pre ty za1 (by omega) (by decide)
 have hnp:=zak F
 have hlo:=fun n=>zae (n:=n) F
 have hFl:=k1.1
 have tk:(s.take s.length).drop at_=s.drop at_:=by rw [List.take_length]
 rw [h3] at f4
 have ft:=ydb L.idx L.rep L.dq L.um (s.drop at_) (codP F) (by rw [List.length_drop];omega) h4
 have hco:zab (if (getU sCte F).2=0 then zbn else (getU sCte F).1)=codP F:=rfl
 rw [hco] at hfl
 generalize codP F=cod at *
 unfold za1 at f4
 unfold sCte at f3 hfl
 obtain ⟨u,hu'⟩:∃ v,getU [99,111,110,116,101,110,116,45,116,114,97,110,115,102,101,114,45,101,110,99,111,100,105,110,103] F=v:=⟨_,rfl⟩
 rw [hu'] at f3 hfl
 obtain ⟨u,k⟩:=u
 dsimp only at f3 hfl
 have htr:=H.tr j j [(48,zad),(48,[.slc F.length (zac F),.flat (.string (S ty)),.flat (.string (S [])),.slc 0 []])]
 have hr1:=H.a_get;have hr2:=H.a_0;have hr3:=H.a_1;have hr4:=H.a_set;have hr5:=H.a_s0;have hr6:=H.a_s1;have hr7:=H.a_len;have hr8:=H.a_take;have hr9:=H.a_take1;have hrl:=H.len;have hlow:=H.low;have hd0:=H.d_0;have hd1:=H.d_1;have hu0:=H.u_0;have hu1:=H.u_1;have hl0:=H.l_0;have hl1:=H.l_1;have hdl1:=H.dl_1;have hdl0:=H.dl_0
 clear H k1 k3 h1 h2 L h3 h4 hco
 generalize zac F=fc at *
 by_cases hk:k=0
 ·subst hk
  simp only [if_true] at hfl
  unfold zbn at hfl
  simp only [n0] at f3
  refine zf9 zaf (by decide) (Nat.le_of_ble_eq_true rfl) (.r (.r (.r (.r (.r (.r (.r (.r (.r (.l (.r (.l (.op 75 0))))))))))))) _ (.cell (n+1) 3::.cell n 0::.cell n 3::cl r) ?_ htr (by simp)
  unfold zad
  simp (maxSteps:=999999) (disch:=first | assumption | omega) only [go_sem,simprocAttr,au,f1,f2,f3,f4,hfl,hm0,hnp,hlo,tk,hr1,hr2,hr3,hr4,hr5,hr6,hr7,hr8,hr9,hrl,hlow,hd0,hd1,hu0,hu1,hl0,hl1,hdl0,hdl1]
  exact ⟨_,_,ft⟩
 ·have hk':((k:Int)=0)=False:=by apply eq_false;omega
  simp only [hk,if_false] at hfl
  refine zf9 zaf (by decide) (Nat.le_of_ble_eq_true rfl) (.r (.r (.r (.r (.r (.r (.r (.r (.r (.l (.r (.l (.op 75 0))))))))))))) _ (.cell (n+1) 3::.cell n 0::.cell n 3::cl r) ?_ htr (by simp)
  unfold zad
  simp (maxSteps:=999999) (disch:=first | assumption | omega) only [go_sem,simprocAttr,au,f1,f2,f3,f4,hfl,hm0,hnp,hlo,tk,hk',hr1,hr2,hr3,hr4,hr5,hr6,hr7,hr8,hr9,hrl,hlow,hd0,hd1,hu0,hu1,hl0,hl1,hdl0,hdl1]
  exact ⟨_,_,ft⟩
theorem z0c:∀ (l:List Fld) (m:Str),(∀ f∈l,f.2.length≤1000000)→m.length≤1000000→(zcy l m).length≤1000000
 | [],m,_,h=>h
 | (a,b)::l,m,h,hm=>by
   rw [zcy]
   refine z0c l _ (fun f hf=>h f (by simp [hf])) ?_
   split
   ·exact h (a,b) (by simp)
   ·exact hm
theorem zrk {F:List Fld} {ty mk:Str} (hgl:(getU sCt F).1.length≤10000) (h2:zds F=.ok (ty,mk)):mk.length≤1000000:=by
 unfold zds at h2
 split at h2
 ·split at h2
  ·cases h2;decide
  ·split at h2
   ·cases h2
   ·cases h2
   ·rename_i m l hp
    split at h2
    ·cases h2
     exact z0c l [] (fun f hf=>((zaq hp hgl).1.2 f hf).2) (by simp)
    ·cases h2
 ·cases h2
theorem z7w (L:LibL lib) {B:Nat→zao} {n b:Nat} {r:List (Nat × Nat)} (H:BxAt B n b RT rdr r) {deep j:Nat} (hdp:deep≤4) (hj:j≤64) {s:Str} (hs:s.length≤10000) {F:List Fld} {at_:Nat} (h1:zba s=.ok F at_) {ty mk:Str} (h2:zds F=.ok (ty,mk)) (h3:za1.isPrefixOf ty=true) (h4:¬ (codP F=zbn∧zht mk=true)) :
 TW lib 39 [.ptr b 0,.flat (.string (S s)),.flat (.int .i64 (deep:Nat))] (B j) (cl r) (zby 7,B j,[]):=by
 obtain ⟨k1,k2,k3⟩:=zaz h1 (by omega)
 have f1:=zlo L.spl s hs
 rw [h1] at f1
 dsimp only at f1
 have hgl:(getU sCt F).1.length≤10000:=zau F _ (by simp) fun f hf=>by have:=(k3 f hf).2;omega
 have hgl2:(getU sCte F).1.length≤10000:=zau F _ (by simp) fun f hf=>by have:=(k3 f hf).2;omega
 have f2:=zkk L.alike L.fold L.par L.cut L.idx F ty mk k1 hgl (fun m l hp=>by have:=zaq hp hgl;exact ⟨this.1,by omega⟩) h2
 have f3:=zjq L.alike F sCte k1 (by decide)
 have hm0:=zbj (lib:=lib) 0
 have hm7:=zbj (lib:=lib) 7
 have hm8:=zbj (lib:=lib) 8
 rw [n0] at hm0
 rw [show ((7:Nat):Int)=7 from rfl] at hm7
 rw [show ((8:Nat):Int)=8 from rfl] at hm8
 have hfl:=zje L.fold (if (getU sCte F).2=0 then zbn else (getU sCte F).1) (by split<;>first | decide | omega)
 have htyl:ty.length≤10000:=by
  unfold zds at h2
  split at h2
  ·split at h2
   ·cases h2;decide
   ·split at h2
    ·cases h2
    ·cases h2
    ·rename_i m l hp
     split at h2
     ·cases h2
      have:=(zaq hp hgl).2
      simp only [zab,List.length_map];omega
     ·cases h2
  ·cases h2
 have f4:=zir L.pre ty za1 (by omega) (by decide)
 have hnp:=zak F
 have hlo:=fun n=>zae (n:=n) F
 have hFl:=k1.1
 have tk:(s.take s.length).drop at_=s.drop at_:=by rw [List.take_length]
 rw [h3] at f4
 have ht:=zgd (lib:=lib) 7
 have hmk:=zrk hgl h2
 have f6:=zio L.idx mk (by omega)
 have hco:zab (if (getU sCte F).2=0 then zbn else (getU sCte F).1)=codP F:=rfl
 unfold za1 at f4
 unfold sCte at f3 hfl hco
 obtain ⟨u,hu'⟩:∃ v,getU [99,111,110,116,101,110,116,45,116,114,97,110,115,102,101,114,45,101,110,99,111,100,105,110,103] F=v:=⟨_,rfl⟩
 rw [hu'] at f3 hfl hco
 obtain ⟨u,k⟩:=u
 dsimp only at f3 hfl hco
 have htr:=H.tr j j [(48,zad),(48,[.slc F.length (zac F),.flat (.string (S ty)),.flat (.string (S [])),.slc 0 []])]
 have hr1:=H.a_get;have hr2:=H.a_0;have hr3:=H.a_1;have hr4:=H.a_set;have hr5:=H.a_s0;have hr6:=H.a_s1;have hr7:=H.a_len;have hr8:=H.a_take;have hr9:=H.a_take1;have hrl:=H.len;have hlow:=H.low;have hd0:=H.d_0;have hd1:=H.d_1;have hu0:=H.u_0;have hu1:=H.u_1;have hl0:=H.l_0;have hl1:=H.l_1;have hdl1:=H.dl_1;have hdl0:=H.dl_0
 have hcase:(k≠0∧codP F≠zbn)∨(codP F=zbn∧zht mk=false):=by
  by_cases h7:codP F=zbn
  ·right;refine ⟨h7,?_⟩
   cases hM:zht mk with
   | false=>rfl
   | true=>exact absurd ⟨h7,hM⟩ h4
  ·left
   refine ⟨fun h0=>h7 ?_,h7⟩
   rw [← hco,if_pos h0];decide
 rcases hcase with ⟨hk,h7⟩ | ⟨h7,hM⟩
 ·have hk':((k:Int)=0)=False:=by apply eq_false;omega
  have hcq:(codP F=[55,98,105,116])=False:=eq_false h7
  rw [if_neg hk] at hfl hco
  rw [hco] at hfl
  clear H k1 k3 h1 h2 L h3 h4 hco h7
  generalize zac F=fc at *
  generalize codP F=cod at *
  refine zf9 zaf (by decide) (Nat.le_of_ble_eq_true rfl) (.r (.r (.r (.r (.r (.r (.r (.r (.r (.r (.l (.op 70 0)))))))))))) _ (.cell (n+1) 3::.cell n 0::.cell n 3::cl r) ?_ htr (by simp)
  unfold zad
  simp (maxSteps:=999999) (disch:=first | assumption | omega) only [go_sem,simprocAttr,au,f1,f2,f3,f4,hfl,hm0,hnp,hlo,tk,hk',hcq,ht,hr1,hr2,hr3,hr4,hr5,hr6,hr7,hr8,hr9,hrl,hlow,hd0,hd1,hu0,hu1,hl0,hl1,hdl0,hdl1]
 ·rw [hM] at f6
  rw [hco,h7] at hfl
  unfold zbn at hfl
  clear H k1 k3 h1 h2 L h3 h4 hco h7
  generalize zac F=fc at *
  by_cases hk:k=0
  ·subst hk
   simp only [if_true] at hfl
   try unfold zbn at hfl
   simp only [n0] at f3
   refine zf9 zaf (by decide) (Nat.le_of_ble_eq_true rfl) (.r (.r (.r (.r (.r (.r (.r (.r (.r (.r (.l (.op 70 0)))))))))))) _ (.cell (n+1) 3::.cell n 0::.cell n 3::cl r) ?_ htr (by simp)
   unfold zad
   simp (maxSteps:=999999) (disch:=first | assumption | omega) only [go_sem,simprocAttr,au,f1,f2,f3,f4,f6,hfl,hm0,hnp,hlo,tk,ht,hr1,hr2,hr3,hr4,hr5,hr6,hr7,hr8,hr9,hrl,hlow,hd0,hd1,hu0,hu1,hl0,hl1,hdl0,hdl1]
  ·have hk':((k:Int)=0)=False:=by apply eq_false;omega
   simp only [hk,if_false] at hfl
   refine zf9 zaf (by decide) (Nat.le_of_ble_eq_true rfl) (.r (.r (.r (.r (.r (.r (.r (.r (.r (.r (.l (.op 70 0)))))))))))) _ (.cell (n+1) 3::.cell n 0::.cell n 3::cl r) ?_ htr (by simp)
   unfold zad
   simp (maxSteps:=999999) (disch:=first | assumption | omega) only [go_sem,simprocAttr,au,f1,f2,f3,f4,f6,hfl,hm0,hnp,hlo,tk,hk',ht,hr1,hr2,hr3,hr4,hr5,hr6,hr7,hr8,hr9,hrl,hlow,hd0,hd1,hu0,hu1,hl0,hl1,hdl0,hdl1]
theorem yde (L:LibL lib) {B:Nat→zao} {n b:Nat} {r:List (Nat × Nat)} (H:BxAt B n b RT rdr r) {deep j:Nat} (hdp:deep≤4) (hj:j≤64) {s:Str} (hs:s.length≤10000) {F:List Fld} {at_:Nat} (h1:zba s=.ok F at_) {ty mk:Str} (h2:zds F=.ok (ty,mk)) (h3:za1.isPrefixOf ty=true) (h4:codP F=zbn) (h5:zht mk=true) (h6:zch (s.drop at_) mk=none) :
 TW lib 39 [.ptr b 0,.flat (.string (S s)),.flat (.int .i64 (deep:Nat))] (B j) (cl r) (zby 7,B j,[]):=by
 obtain ⟨k1,k2,k3⟩:=zaz h1 (by omega)
 have f1:=zlo L.spl s hs
 rw [h1] at f1
 dsimp only at f1
 have hgl:(getU sCt F).1.length≤10000:=zau F _ (by simp) fun f hf=>by have:=(k3 f hf).2;omega
 have hgl2:(getU sCte F).1.length≤10000:=zau F _ (by simp) fun f hf=>by have:=(k3 f hf).2;omega
 have f2:=zkk L.alike L.fold L.par L.cut L.idx F ty mk k1 hgl (fun m l hp=>by have:=zaq hp hgl;exact ⟨this.1,by omega⟩) h2
 have f3:=zjq L.alike F sCte k1 (by decide)
 have hm0:=zbj (lib:=lib) 0
 have hm7:=zbj (lib:=lib) 7
 have hm8:=zbj (lib:=lib) 8
 rw [n0] at hm0
 rw [show ((7:Nat):Int)=7 from rfl] at hm7
 rw [show ((8:Nat):Int)=8 from rfl] at hm8
 have hfl:=zje L.fold (if (getU sCte F).2=0 then zbn else (getU sCte F).1) (by split<;>first | decide | omega)
 have htyl:ty.length≤10000:=by
  unfold zds at h2
  split at h2
  ·split at h2
   ·cases h2;decide
   ·split at h2
    ·cases h2
    ·cases h2
    ·rename_i m l hp
     split at h2
     ·cases h2
      have:=(zaq hp hgl).2
      simp only [zab,List.length_map];omega
     ·cases h2
  ·cases h2
 have f4:=zir L.pre ty za1 (by omega) (by decide)
 have hnp:=zak F
 have hlo:=fun n=>zae (n:=n) F
 have hFl:=k1.1
 have tk:(s.take s.length).drop at_=s.drop at_:=by rw [List.take_length]
 rw [h3] at f4
 have hmk:=zrk hgl h2
 have f6:=zio L.idx mk (by omega)
 rw [h5] at f6
 have h4':=h4
 unfold codP at h4'
 rw [h4'] at hfl
 unfold za1 at f4
 unfold zbn at hfl
 unfold sCte at f3 hfl
 obtain ⟨u,hu'⟩:∃ v,getU [99,111,110,116,101,110,116,45,116,114,97,110,115,102,101,114,45,101,110,99,111,100,105,110,103] F=v:=⟨_,rfl⟩
 rw [hu'] at f3 hfl
 obtain ⟨u,k⟩:=u
 dsimp only at f3 hfl
 have hbl:(s.drop at_).length≤10000:=by rw [List.length_drop];omega
 have hoc:∀ q∈((n+2,0)::(n+1,3)::(n,0)::(n,3)::r),q.1<n+6:=by
  intro q hq
  simp only [List.mem_cons] at hq
  rcases hq with rfl | rfl | rfl | rfl | hq
  ·dsimp only;omega
  ·dsimp only;omega
  ·dsimp only;omega
  ·dsimp only;omega
  ·have:=H.hlt q hq;omega
 have hnew:=zd2 (lib:=lib) (s.drop at_) mk (B j++[(48,zad),(48,zcz F.length (zac F) ty []),(39,[.slc 0 []])]) ((n+2,0)::(n+1,3)::(n,0)::(n,3)::r) (fun q hq=>by
  rw [H.a_len]
  simp only [List.mem_cons] at hq
  rcases hq with rfl | rfl | rfl | rfl | hq
  ·dsimp only [List.length_cons,List.length_nil];omega
  ·dsimp only [List.length_cons,List.length_nil];omega
  ·dsimp only [List.length_cons,List.length_nil];omega
  ·dsimp only [List.length_cons,List.length_nil];omega
  ·have:=H.hlt q hq;dsimp only [List.length_cons,List.length_nil];omega)
 simp only [zcw,H.a_len,List.length_cons,List.length_nil,Nat.zero_add,Nat.reduceAdd,Nat.add_assoc,List.append_assoc,List.cons_append,List.nil_append] at hnew
 have hnew0:=zd2 (lib:=lib) (s.drop at_) mk [] [] (by simp)
 simp only [zql,List.length_nil,List.nil_append,Nat.zero_add] at hnew0
 obtain ⟨out,hth⟩:=z2h (lib:=lib) L.ind L.cutp L.pre (s.drop at_) mk (by omega) (by omega) h6 (fun out=>B j++bxL n F.length (zac F) ty (s.drop at_) mk [] out) _ (n+5) (n+4) (n+3) (n+6) (fun a=>by rw [H.a_1];rfl) (fun a=>by rw [H.a_1];rfl) (fun a=>by rw [H.a_len];rfl) hoc (fun a x ha=>by simp only [zcw];exact zis H j F.length (zac F) ty _ mk x a (by omega))
 simp only [zcw] at hth
 have htr:=H.tr j j (bxL n F.length (zac F) ty (s.drop at_) mk [] out)
 have hr1:=H.a_get;have hr2:=H.a_0;have hr3:=H.a_1;have hr4:=H.a_set;have hr5:=H.a_s0;have hr6:=H.a_s1;have hr7:=H.a_len;have hr8:=H.a_take;have hr9:=H.a_take1;have hrl:=H.len;have hlow:=H.low;have hd0:=H.d_0;have hd1:=H.d_1;have hu0:=H.u_0;have hu1:=H.u_1;have hl0:=H.l_0;have hl1:=H.l_1;have hdl1:=H.dl_1;have hdl0:=H.dl_0
 have hlb:=H.a_low;have hbn:=H.lt;have hbn1:∀ i,decide (b<n+i)=true:=fun i=>decide_eq_true (by omega);have hdb:=H.d_b
 clear H k1 k3 h1 h2 L h3 h4 h4' h5 h6 hoc
 generalize zac F=fc at *
 unfold bxL zad zcz at hth
 unfold zad zcz at hnew
 have s0:zas []=[]:=rfl
 have l0:zaw []=[]:=rfl
 simp only [l0,List.length_nil] at hnew
 simp only [l0,s0,List.length_nil] at hth
 unfold bxL zcz at htr
 simp only [l0,List.length_nil] at htr
 by_cases hk:k=0
 ·subst hk
  simp only [n0] at f3
  simp only [if_true] at hfl
  refine zf9 zaf (by decide) (Nat.le_of_ble_eq_true rfl) (.r (.r (.r (.r (.r (.r (.r (.r (.r (.r (.r (.r (.l (.r .rg)))))))))))))) _ [] ?_ htr (by simp)
  unfold zad
  simp (maxSteps:=999999) (disch:=first | assumption | omega) only [go_sem,simprocAttr,au,f1,f2,f3,f4,f6,hfl,hm0,hm7,hnp,hlo,tk,hnew,hnew0,hth,hr1,hr2,hr3,hr4,hr5,hr6,hr7,hr8,hr9,hrl,hlow,hd0,hd1,hu0,hu1,hl0,hl1,hdl0,hdl1,hlb,hbn1,hdb,za0,zam,zbf]
 ·have hk':((k:Int)=0)=False:=by apply eq_false;omega
  simp only [hk,if_false] at hfl
  refine zf9 zaf (by decide) (Nat.le_of_ble_eq_true rfl) (.r (.r (.r (.r (.r (.r (.r (.r (.r (.r (.r (.r (.l (.r .rg)))))))))))))) _ [] ?_ htr (by simp)
  unfold zad
  simp (maxSteps:=999999) (disch:=first | assumption | omega) only [go_sem,simprocAttr,au,f1,f2,f3,f4,f6,hfl,hk',hm0,hm7,hnp,hlo,tk,hnew,hnew0,hth,hr1,hr2,hr3,hr4,hr5,hr6,hr7,hr8,hr9,hrl,hlow,hd0,hd1,hu0,hu1,hl0,hl1,hdl0,hdl1,hlb,hbn1,hdb,za0,zam,zbf]
theorem z7x (L:LibL lib) {B:Nat→zao} {n b:Nat} {r:List (Nat × Nat)} (H:BxAt B n b RT rdr r) {deep j:Nat} (hdp:deep≤4) (hj:j≤64) {s:Str} (hs:s.length≤10000) {F:List Fld} {at_:Nat} (h1:zba s=.ok F at_) {ty mk:Str} (h2:zds F=.ok (ty,mk)) (h3:za1.isPrefixOf ty=true) (h4:codP F=zbn) (h5:zht mk=true) {all:List Str} (h6:zch (s.drop at_) mk=some all) (h7:4≤deep) :
 TW lib 39 [.ptr b 0,.flat (.string (S s)),.flat (.int .i64 (deep:Nat))] (B j) (cl r) (zby 8,B j,[]):=by
 obtain ⟨k1,k2,k3⟩:=zaz h1 (by omega)
 have f1:=zlo L.spl s hs
 rw [h1] at f1
 dsimp only at f1
 have hgl:(getU sCt F).1.length≤10000:=zau F _ (by simp) fun f hf=>by have:=(k3 f hf).2;omega
 have hgl2:(getU sCte F).1.length≤10000:=zau F _ (by simp) fun f hf=>by have:=(k3 f hf).2;omega
 have f2:=zkk L.alike L.fold L.par L.cut L.idx F ty mk k1 hgl (fun m l hp=>by have:=zaq hp hgl;exact ⟨this.1,by omega⟩) h2
 have f3:=zjq L.alike F sCte k1 (by decide)
 have hm0:=zbj (lib:=lib) 0
 have hm7:=zbj (lib:=lib) 7
 have hm8:=zbj (lib:=lib) 8
 rw [n0] at hm0
 rw [show ((7:Nat):Int)=7 from rfl] at hm7
 rw [show ((8:Nat):Int)=8 from rfl] at hm8
 have hfl:=zje L.fold (if (getU sCte F).2=0 then zbn else (getU sCte F).1) (by split<;>first | decide | omega)
 have htyl:ty.length≤10000:=by
  unfold zds at h2
  split at h2
  ·split at h2
   ·cases h2;decide
   ·split at h2
    ·cases h2
    ·cases h2
    ·rename_i m l hp
     split at h2
     ·cases h2
      have:=(zaq hp hgl).2
      simp only [zab,List.length_map];omega
     ·cases h2
  ·cases h2
 have f4:=zir L.pre ty za1 (by omega) (by decide)
 have hnp:=zak F
 have hlo:=fun n=>zae (n:=n) F
 have hFl:=k1.1
 have tk:(s.take s.length).drop at_=s.drop at_:=by rw [List.take_length]
 rw [h3] at f4
 have hmk:=zrk hgl h2
 have f6:=zio L.idx mk (by omega)
 rw [h5] at f6
 have h4':=h4
 unfold codP at h4'
 rw [h4'] at hfl
 unfold za1 at f4
 unfold zbn at hfl
 unfold sCte at f3 hfl
 obtain ⟨u,hu'⟩:∃ v,getU [99,111,110,116,101,110,116,45,116,114,97,110,115,102,101,114,45,101,110,99,111,100,105,110,103] F=v:=⟨_,rfl⟩
 rw [hu'] at f3 hfl
 obtain ⟨u,k⟩:=u
 dsimp only at f3 hfl
 have hbl:(s.drop at_).length≤10000:=by rw [List.length_drop];omega
 have hoc:∀ q∈((n+2,0)::(n+1,3)::(n,0)::(n,3)::r),q.1<n+6:=by
  intro q hq
  simp only [List.mem_cons] at hq
  rcases hq with rfl | rfl | rfl | rfl | hq
  ·dsimp only;omega
  ·dsimp only;omega
  ·dsimp only;omega
  ·dsimp only;omega
  ·have:=H.hlt q hq;omega
 have hnew:=zd2 (lib:=lib) (s.drop at_) mk (B j++[(48,zad),(48,zcz F.length (zac F) ty []),(39,[.slc 0 []])]) ((n+2,0)::(n+1,3)::(n,0)::(n,3)::r) (fun q hq=>by
  rw [H.a_len]
  simp only [List.mem_cons] at hq
  rcases hq with rfl | rfl | rfl | rfl | hq
  ·dsimp only [List.length_cons,List.length_nil];omega
  ·dsimp only [List.length_cons,List.length_nil];omega
  ·dsimp only [List.length_cons,List.length_nil];omega
  ·dsimp only [List.length_cons,List.length_nil];omega
  ·have:=H.hlt q hq;dsimp only [List.length_cons,List.length_nil];omega)
 simp only [zcw,H.a_len,List.length_cons,List.length_nil,Nat.zero_add,Nat.reduceAdd,Nat.add_assoc,List.append_assoc,List.cons_append,List.nil_append] at hnew
 have hnew0:=zd2 (lib:=lib) (s.drop at_) mk [] [] (by simp)
 simp only [zql,List.length_nil,List.nil_append,Nat.zero_add] at hnew0
 have hrun:=zk7 (lib:=lib) L.ind L.cutp L.pre (s.drop at_) mk all (by omega) (by omega) h6 (fun out=>B j++bxL n F.length (zac F) ty (s.drop at_) mk [] out) _ (n+5) (n+4) (n+3) (n+6) (fun a=>by rw [H.a_1];rfl) (fun a=>by rw [H.a_1];rfl) (fun a=>by rw [H.a_len];rfl) hoc (fun a x ha=>by simp only [zcw];exact zis H j F.length (zac F) ty _ mk x a (by omega))
 simp only [zcw] at hrun
 have ht:=zgd (lib:=lib) 8
 have htr:=H.tr j j (bx5 F.length (zac F) ty (s.drop at_) mk [] all)
 obtain rfl:deep=4:=by omega
 have hr1:=H.a_get;have hr2:=H.a_0;have hr3:=H.a_1;have hr4:=H.a_set;have hr5:=H.a_s0;have hr6:=H.a_s1;have hr7:=H.a_len;have hr8:=H.a_take;have hr9:=H.a_take1;have hrl:=H.len;have hlow:=H.low;have hd0:=H.d_0;have hd1:=H.d_1;have hu0:=H.u_0;have hu1:=H.u_1;have hl0:=H.l_0;have hl1:=H.l_1;have hdl1:=H.dl_1;have hdl0:=H.dl_0
 have hlb:=H.a_low;have hbn:=H.lt;have hbn1:∀ i,decide (b<n+i)=true:=fun i=>decide_eq_true (by omega);have hdb:=H.d_b
 clear H k1 k3 h1 h2 L h3 h4 h4' h5 h6 hoc
 generalize zac F=fc at *
 unfold bxL zad zcz at hrun
 unfold zad zcz at hnew
 have s0:zas []=[]:=rfl
 have l0:zaw []=[]:=rfl
 simp only [l0,List.length_nil] at hnew
 simp only [l0,s0,List.length_nil] at hrun
 unfold bx5 zcz at htr
 simp only [l0,List.length_nil] at htr
 by_cases hk:k=0
 ·subst hk
  simp only [n0] at f3
  simp only [if_true] at hfl
  refine zf9 zaf (by decide) (Nat.le_of_ble_eq_true rfl) (.r (.r (.r (.r (.r (.r (.r (.r (.r (.r (.r (.r (.r (.l (.op 70 0))))))))))))))) _ (.cell (n+2) 0::.cell (n+1) 3::.cell n 0::.cell n 3::cl r) ?_ htr (by simp)
  unfold zad
  simp (maxSteps:=999999) (disch:=first | assumption | omega) only [go_sem,simprocAttr,au,f1,f2,f3,f4,f6,hfl,hm0,hm7,hnp,hlo,tk,hnew,hnew0,hrun,ht,hr1,hr2,hr3,hr4,hr5,hr6,hr7,hr8,hr9,hrl,hlow,hd0,hd1,hu0,hu1,hl0,hl1,hdl0,hdl1,hlb,hbn1,hdb,za0,zam,zbf]
 ·have hk':((k:Int)=0)=False:=by apply eq_false;omega
  simp only [hk,if_false] at hfl
  refine zf9 zaf (by decide) (Nat.le_of_ble_eq_true rfl) (.r (.r (.r (.r (.r (.r (.r (.r (.r (.r (.r (.r (.r (.l (.op 70 0))))))))))))))) _ (.cell (n+2) 0::.cell (n+1) 3::.cell n 0::.cell n 3::cl r) ?_ htr (by simp)
  unfold zad
  simp (maxSteps:=999999) (disch:=first | assumption | omega) only [go_sem,simprocAttr,au,f1,f2,f3,f4,f6,hfl,hk',hm0,hm7,hnp,hlo,tk,hnew,hnew0,hrun,ht,hr1,hr2,hr3,hr4,hr5,hr6,hr7,hr8,hr9,hrl,hlow,hd0,hd1,hu0,hu1,hl0,hl1,hdl0,hdl1,hlb,hbn1,hdb,za0,zam,zbf]
theorem z7y (L:LibL lib) {B:Nat→zao} {n b:Nat} {r:List (Nat × Nat)} (H:BxAt B n b RT rdr r) {deep j:Nat} (hdp:deep≤4) (hj:j≤64) {s:Str} (hs:s.length≤10000) {F:List Fld} {at_:Nat} (h1:zba s=.ok F at_) {ty mk:Str} (h2:zds F=.ok (ty,mk)) (h3:za1.isPrefixOf ty=true) (h4:codP F=zbn) (h5:zht mk=true) {all:List Str} (h6:zch (s.drop at_) mk=some all) (hal:all.length≤100000) (h7:deep<4) (h8:64<j+all.length) :
 TW lib 39 [.ptr b 0,.flat (.string (S s)),.flat (.int .i64 (deep:Nat))] (B j) (cl r) (zby 5,B (j+all.length),[]):=by
 obtain ⟨k1,k2,k3⟩:=zaz h1 (by omega)
 have f1:=zlo L.spl s hs
 rw [h1] at f1
 dsimp only at f1
 have hgl:(getU sCt F).1.length≤10000:=zau F _ (by simp) fun f hf=>by have:=(k3 f hf).2;omega
 have hgl2:(getU sCte F).1.length≤10000:=zau F _ (by simp) fun f hf=>by have:=(k3 f hf).2;omega
 have f2:=zkk L.alike L.fold L.par L.cut L.idx F ty mk k1 hgl (fun m l hp=>by have:=zaq hp hgl;exact ⟨this.1,by omega⟩) h2
 have f3:=zjq L.alike F sCte k1 (by decide)
 have hm0:=zbj (lib:=lib) 0
 have hm7:=zbj (lib:=lib) 7
 have hm8:=zbj (lib:=lib) 8
 rw [n0] at hm0
 rw [show ((7:Nat):Int)=7 from rfl] at hm7
 rw [show ((8:Nat):Int)=8 from rfl] at hm8
 have hfl:=zje L.fold (if (getU sCte F).2=0 then zbn else (getU sCte F).1) (by split<;>first | decide | omega)
 have htyl:ty.length≤10000:=by
  unfold zds at h2
  split at h2
  ·split at h2
   ·cases h2;decide
   ·split at h2
    ·cases h2
    ·cases h2
    ·rename_i m l hp
     split at h2
     ·cases h2
      have:=(zaq hp hgl).2
      simp only [zab,List.length_map];omega
     ·cases h2
  ·cases h2
 have f4:=zir L.pre ty za1 (by omega) (by decide)
 have hnp:=zak F
 have hlo:=fun n=>zae (n:=n) F
 have hFl:=k1.1
 have tk:(s.take s.length).drop at_=s.drop at_:=by rw [List.take_length]
 rw [h3] at f4
 have hmk:=zrk hgl h2
 have f6:=zio L.idx mk (by omega)
 rw [h5] at f6
 have h4':=h4
 unfold codP at h4'
 rw [h4'] at hfl
 unfold za1 at f4
 unfold zbn at hfl
 unfold sCte at f3 hfl
 obtain ⟨u,hu'⟩:∃ v,getU [99,111,110,116,101,110,116,45,116,114,97,110,115,102,101,114,45,101,110,99,111,100,105,110,103] F=v:=⟨_,rfl⟩
 rw [hu'] at f3 hfl
 obtain ⟨u,k⟩:=u
 dsimp only at f3 hfl
 have hbl:(s.drop at_).length≤10000:=by rw [List.length_drop];omega
 have hoc:∀ q∈((n+2,0)::(n+1,3)::(n,0)::(n,3)::r),q.1<n+6:=by
  intro q hq
  simp only [List.mem_cons] at hq
  rcases hq with rfl | rfl | rfl | rfl | hq
  ·dsimp only;omega
  ·dsimp only;omega
  ·dsimp only;omega
  ·dsimp only;omega
  ·have:=H.hlt q hq;omega
 have hnew:=zd2 (lib:=lib) (s.drop at_) mk (B j++[(48,zad),(48,zcz F.length (zac F) ty []),(39,[.slc 0 []])]) ((n+2,0)::(n+1,3)::(n,0)::(n,3)::r) (fun q hq=>by
  rw [H.a_len]
  simp only [List.mem_cons] at hq
  rcases hq with rfl | rfl | rfl | rfl | hq
  ·dsimp only [List.length_cons,List.length_nil];omega
  ·dsimp only [List.length_cons,List.length_nil];omega
  ·dsimp only [List.length_cons,List.length_nil];omega
  ·dsimp only [List.length_cons,List.length_nil];omega
  ·have:=H.hlt q hq;dsimp only [List.length_cons,List.length_nil];omega)
 simp only [zcw,H.a_len,List.length_cons,List.length_nil,Nat.zero_add,Nat.reduceAdd,Nat.add_assoc,List.append_assoc,List.cons_append,List.nil_append] at hnew
 have hnew0:=zd2 (lib:=lib) (s.drop at_) mk [] [] (by simp)
 simp only [zql,List.length_nil,List.nil_append,Nat.zero_add] at hnew0
 have hrun:=zk7 (lib:=lib) L.ind L.cutp L.pre (s.drop at_) mk all (by omega) (by omega) h6 (fun out=>B j++bxL n F.length (zac F) ty (s.drop at_) mk [] out) _ (n+5) (n+4) (n+3) (n+6) (fun a=>by rw [H.a_1];rfl) (fun a=>by rw [H.a_1];rfl) (fun a=>by rw [H.a_len];rfl) hoc (fun a x ha=>by simp only [zcw];exact zis H j F.length (zac F) ty _ mk x a (by omega))
 simp only [zcw] at hrun
 have ht:=zgd (lib:=lib) 5
 have htr:=H.tr (j+all.length) j (bx5 F.length (zac F) ty (s.drop at_) mk [] all)
 have hset:∀ ys,(B j++ys).set b (RT,[PV.flat (.int .i64 ((j:Int)+(all.length:Int)))])=B (j+all.length)++ys:=fun ys=>by have:=H.a_set (j+all.length) j ys;simp only [rdr,Int.natCast_add] at this;exact this
 have hr1:=H.a_get;have hr2:=H.a_0;have hr3:=H.a_1;have hr4:=H.a_set;have hr5:=H.a_s0;have hr6:=H.a_s1;have hr7:=H.a_len;have hr8:=H.a_take;have hr9:=H.a_take1;have hrl:=H.len;have hlow:=H.low;have hd0:=H.d_0;have hd1:=H.d_1;have hu0:=H.u_0;have hu1:=H.u_1;have hl0:=H.l_0;have hl1:=H.l_1;have hdl1:=H.dl_1;have hdl0:=H.dl_0
 have hlb:=H.a_low;have hbn:=H.lt;have hbn1:∀ i,decide (b<n+i)=true:=fun i=>decide_eq_true (by omega);have hdb:=H.d_b
 obtain ⟨j1,hj1⟩:∃ q,j+all.length=q:=⟨_,rfl⟩
 rw [hj1] at hset htr h8
 rw [hj1]
 simp only [rdr] at hr1 hr4
 clear H k1 k3 h1 h2 L h3 h4 h4' h5 h6 hoc
 generalize zac F=fc at *
 unfold bxL zad zcz at hrun
 unfold zad zcz at hnew
 have s0:zas []=[]:=rfl
 have l0:zaw []=[]:=rfl
 simp only [l0,List.length_nil] at hnew
 simp only [l0,s0,List.length_nil] at hrun
 unfold bx5 zcz at htr
 simp only [l0,List.length_nil] at htr
 by_cases hk:k=0
 ·subst hk
  simp only [n0] at f3
  simp only [if_true] at hfl
  refine zf9 zaf (by decide) (Nat.le_of_ble_eq_true rfl) (.r (.r (.r (.r (.r (.r (.r (.r (.r (.r (.r (.r (.r (.r (.r (.l (.op 70 0))))))))))))))))) _ (.cell (n+2) 0::.cell (n+1) 3::.cell n 0::.cell n 3::cl r) ?_ htr (by simp)
  unfold zad
  simp (maxSteps:=999999) (disch:=first | assumption | omega) only [go_sem,simprocAttr,au,f1,f2,f3,f4,f6,hfl,hm0,hm7,hnp,hlo,tk,hnew,hnew0,hrun,ht,hm8,hset,hr1,hr2,hr3,hr4,hr5,hr6,hr7,hr8,hr9,hrl,hlow,hd0,hd1,hu0,hu1,hl0,hl1,hdl0,hdl1,hlb,hbn1,hdb,za0,zam,zbf]
 ·have hk':((k:Int)=0)=False:=by apply eq_false;omega
  simp only [hk,if_false] at hfl
  refine zf9 zaf (by decide) (Nat.le_of_ble_eq_true rfl) (.r (.r (.r (.r (.r (.r (.r (.r (.r (.r (.r (.r (.r (.r (.r (.l (.op 70 0))))))))))))))))) _ (.cell (n+2) 0::.cell (n+1) 3::.cell n 0::.cell n 3::cl r) ?_ htr (by simp)
  unfold zad
  simp (maxSteps:=999999) (disch:=first | assumption | omega) only [go_sem,simprocAttr,au,f1,f2,f3,f4,f6,hfl,hk',hm0,hm7,hnp,hlo,tk,hnew,hnew0,hrun,ht,hm8,hset,hr1,hr2,hr3,hr4,hr5,hr6,hr7,hr8,hr9,hrl,hlow,hd0,hd1,hu0,hu1,hl0,hl1,hdl0,hdl1,hlb,hbn1,hdb,za0,zam,zbf]
def zwv (f:Str→Nat→Except Nat (LP × Nat)) (g:Str→Nat→Nat):List Str→Nat→Nat
 | [],n=>n
 | x::l,n=>match f x n with
   | .error _=>g x n
   | .ok (_,n')=>zwv f g l n'
def zun (rec:Option ((Str→Nat→Except Nat (LP × Nat)) × (Str→Nat→Nat))) (s:Str) (n:Nat):Nat :=
 match zba s with
 | .form=>n
 | .long=>n
 | .ok F at_=>match zds F with
   | .error _=>n
   | .ok (ty,mk) =>
     if za1.isPrefixOf ty=false then n
     else if codP F=zbn∧zht mk=true then (match zch (s.drop at_) mk with
      | none=>n
      | some all=>match rec with
        | none=>n
        | some (f,g)=>if n+all.length≤64 then zwv f g all (n+all.length) else n+all.length)
     else n
def ThrG (lib:Callee) (f:Str→Nat→Except Nat (LP × Nat)) (g:Str→Nat→Nat) (deep:Nat):Prop:=∀ (B:Nat→zao) (n b:Nat) (r:List (Nat × Nat)),BxAt B n b RT rdr r→∀ (s:Str) (j e:Nat),s.length≤10000→j≤64→f s j=.error e →
 TW lib 39 [.ptr b 0,.flat (.string (S s)),.flat (.int .i64 (deep:Nat))] (B j) (cl r) (zby (e:Nat),B (g s j),[])
def rtL:Rt:=.r (.r (.l (.r (.op 39 0))))
theorem ydf {f:Str→Nat→Except Nat (LP × Nat)} {g:Str→Nat→Nat} {B:Nat→zao} {n b:Nat} {r:List (Nat × Nat)} (H:BxAt B n b RT rdr r) {deep:Nat} (hdp:deep<4) (hthr:ThrG lib f g (deep+1)) (kf:Nat) (fc:List PV) (hlo:∀ n,lows n fc=true) (ty s mk:Str) {all:List Str} {k j e:Nat} {x:Str} {ps:List LP} (hk:k<all.length) (hc:all[k]? =some x) (hd:all.drop k=x::all.drop (k+1)) (hx:x.length≤10000) (hal:all.length≤64) (hps:ps.length=k) (hj:j≤64) (hfx:f x j=.error e) :
 PanC (evW code lib) (TW lib) [] big zan rtL ⟨[(0,.ptr b 0),(2,.flat (.int .i64 (deep:Nat))),(6,.ptr n 0),(10,.ptr (n+1) 0),(91,.slc all.length (zas all)),(92,.flat (.int .i64 (all.length:Nat))),(93,.flat (.int .i64 (k:Nat)))],ocL n r k,[],B j++bx5 kf fc ty s mk ps all⟩
  (zby (e:Nat),[],B (g x j)++bx5 kf fc ty s mk ps all,[]):=by
 have hbv:bound=4294967296:=rfl
 have hlw:zcf (n+5) (bx5 kf fc ty s mk ps all)=true:=by
  have h1:=hlo (n+5)
  have h2:=zam (n:=n+5) all
  have h3:=zax (n:=n+5) ps
  simp only [bx5,zad,zcz,zcf,lows,PV.low,h1,h2,h3,Bool.and_self]
 have hin:∀ r':List (Nat × Nat),(∀ q∈r',q∈r∨(n≤q.1∧q.1<n+5))→BxAt (fun j=>B j++bx5 kf fc ty s mk ps all) (n+5) b RT rdr r':=fun r' hr=>H.app (m:=n+5) _ rfl hlw r' hr
 have hone:∀ a c,a<5→∀ q:Nat × Nat,q=(n+a,c)→q∈r∨(n≤q.1∧q.1<n+5):=fun a c h q e=>by rw [e];right;dsimp only;omega
 have c1:=hthr _ (n+5) b ((n+2,0)::(n,0)::(n,3)::r) (hin _ fun q hq=>by
  simp only [List.mem_cons] at hq
  rcases hq with h | h | h | h
  ·exact hone 2 _ (by omega) _ h
  ·exact hone 0 _ (by omega) _ h
  ·exact hone 0 _ (by omega) _ h
  ·exact .inl h) x j e hx hj hfx
 have c2:=hthr _ (n+5) b ((n+2,0)::(n+1,3)::(n,0)::(n,3)::r) (hin _ fun q hq=>by
  simp only [List.mem_cons] at hq
  rcases hq with h | h | h | h | h
  ·exact hone 2 _ (by omega) _ h
  ·exact hone 1 _ (by omega) _ h
  ·exact hone 0 _ (by omega) _ h
  ·exact hone 0 _ (by omega) _ h
  ·exact .inl h) x j e hx hj hfx
 have c3:=hthr _ (n+5) b ((n+1,3)::(n+2,0)::(n,0)::(n,3)::r) (hin _ fun q hq=>by
  simp only [List.mem_cons] at hq
  rcases hq with h | h | h | h | h
  ·exact hone 1 _ (by omega) _ h
  ·exact hone 2 _ (by omega) _ h
  ·exact hone 0 _ (by omega) _ h
  ·exact hone 0 _ (by omega) _ h
  ·exact .inl h) x j e hx hj hfx
 have hsc:(zas all).drop k=.flat (.string (S x))::(zas all).drop (k+1):=by simp only [zas,← List.map_drop,hd,List.map_cons]
 have hr1:=H.a_get;have hr2:=H.a_0;have hr3:=H.a_1;have hr4:=H.a_set;have hr5:=H.a_s0;have hr6:=H.a_s1;have hr7:=H.a_len;have hr8:=H.a_take;have hr9:=H.a_take1;have hrl:=H.len;have hlow:=H.low;have hd0:=H.d_0;have hd1:=H.d_1;have hu0:=H.u_0;have hu1:=H.u_1;have hl0:=H.l_0;have hl1:=H.l_1;have hdl1:=H.dl_1;have hdl0:=H.dl_0
 have hlb:=H.a_low;have hbn:=H.lt;have hbn1:∀ i,decide (b<n+i)=true:=fun i=>decide_eq_true (by omega)
 have hpl:(zaw ps).length=k * 4:=by rw [zei,hps]
 have hpu:=zhu ps
 have hpw:=fun n=>zax (n:=n) ps
 simp only [bx5,zad,zcz,hps,zcw,Int.natCast_add,Int.natCast_one] at c1 c2 c3 ⊢
 clear hthr hd hone hin H hlw
 by_cases hk0:k=0
 ·subst hk0
  obtain rfl:ps=[]:=qz hps
  simp only [zaw,List.nil_append] at c1 c2 c3 ⊢
  simp only [ocL,if_true]
  clear hpl hpu hpw
  unfold rtL zan
  simp (maxSteps:=999999) (disch:=first | assumption | omega) only [go_sem,simprocAttr,au,c1,c2,c3,hsc,hlo,zkl,zm7,zm8,zm9,hr1,hr2,hr3,hr4,hr5,hr6,hr7,hr8,hr9,hrl,hlow,hd0,hd1,hu0,hu1,hl0,hl1,hdl0,hdl1,hlb,hbn1,za0,zam,zbf]
 ·simp only [ocL,hk0,if_false]
  have hk0':(0<k):=by omega
  unfold rtL zan
  simp (maxSteps:=999999) (disch:=first | assumption | omega) only [go_sem,simprocAttr,au,c1,c2,c3,hsc,hlo,zkl,zm7,zm8,zm9,hpl,hpu,hpw,hr1,hr2,hr3,hr4,hr5,hr6,hr7,hr8,hr9,hrl,hlow,hd0,hd1,hu0,hu1,hl0,hl1,hdl0,hdl1,hlb,hbn1,za0,zam,zbf]
theorem ydg {f:Str→Nat→Except Nat (LP × Nat)} {g:Str→Nat→Nat} (hf:∀ s n p m,f s n=.ok (p,m)→n≤64→m≤64) {B:Nat→zao} {n b:Nat} {r:List (Nat × Nat)} (H:BxAt B n b RT rdr r) {deep:Nat} (hdp:deep<4) (hrec:Rec lib f (deep+1)) (hthr:ThrG lib f g (deep+1)) (kf:Nat) (fc:List PV) (hlo:∀ n,lows n fc=true) (ty s mk:Str) {all:List Str} (hx:∀ x∈all,x.length≤10000) (hal:all.length≤64) {j e:Nat} (hj:j≤64) (h:zf7 f all j=.error e) :
 ∃ (i:Nat) (ps:List LP),zdm (evC (evW code lib) big zan) (fun st=>PanC (evW code lib) (TW lib) [] big zan rtL st (zby (e:Nat),[],B (zwv f g all j)++bx5 kf fc ty s mk ps all,[])) [0,2,6,10,91,92,93] (n+5) i
   ⟨[(0,.ptr b 0),(2,.flat (.int .i64 (deep:Nat))),(6,.ptr n 0),(10,.ptr (n+1) 0),(91,.slc all.length (zas all)),(92,.flat (.int .i64 (all.length:Nat))),(93,.flat (.int .i64 0))],ocL n r 0,[],B j++bx5 kf fc ty s mk [] all⟩:=by
 have hlb:∀ (j:Nat) (ps:List LP),zcf (n+5) (B j++bx5 kf fc ty s mk ps all)=true:=by
  intro j ps
  have h1:=hlo (n+5)
  have h2:=zam (n:=n+5) all
  have h3:=zax (n:=n+5) ps
  rw [H.a_low]
  simp only [bx5,zad,zcz,zcf,lows,PV.low,h1,h2,h3,Bool.and_self]
 obtain ⟨M,hM⟩:∃ M,zwv f g all j=M:=⟨_,rfl⟩
 rw [hM]
 obtain ⟨i,hi⟩:=zpc (body:=evC (evW code lib) big zan) (pbody:=fun st=>∃ ps:List LP,PanC (evW code lib) (TW lib) [] big zan rtL st (zby (e:Nat),[],B M++bx5 kf fc ty s mk ps all,[])) (live:=[0,2,6,10,91,92,93]) (nb:=n+5) (fun q:Nat × Nat × List LP=>(⟨[(0,.ptr b 0),(2,.flat (.int .i64 (deep:Nat))),(6,.ptr n 0),(10,.ptr (n+1) 0),(91,.slc all.length (zas all)),(92,.flat (.int .i64 (all.length:Nat))),(93,.flat (.int .i64 (q.1:Nat)))],ocL n r q.1,[],B q.2.1++bx5 kf fc ty s mk q.2.2 all⟩:St))
  (fun q=>q.1≤all.length∧q.2.1≤64∧q.2.2.length=q.1∧zf7 f (all.drop q.1) q.2.1=.error e∧zwv f g (all.drop q.1) q.2.1=M) (fun q=>all.length - q.1) (fun q hq=>by
    obtain ⟨k,j,qs⟩:=q
    obtain ⟨k1,k2,k3,k4,k5⟩:=hq
    dsimp only at k1 k2 k3 k4 k5 ⊢
    have hk:k<all.length:=by
     rcases Nat.lt_or_ge k all.length with h | h
     ·exact h
     ·rw [List.drop_of_length_le h] at k4;cases k4
    have hc:all[k]? =some all[k]:=qe hk
    have hd:all.drop k=all[k]::all.drop (k+1):=List.drop_eq_getElem_cons hk
    have hxk:=hx _ (List.getElem_mem hk)
    rw [hd] at k4 k5
    unfold zf7 at k4
    unfold zwv at k5
    cases hfx:f all[k] j with
    | error e' =>
      rw [hfx] at k4 k5
      cases k4
      dsimp only at k5
      left
      refine ⟨qs,?_⟩
      rw [← k5]
      exact ydf H hdp hthr kf fc hlo ty s mk hk hc hd hxk hal k3 k2 hfx
    | ok pm =>
      obtain ⟨p,j'⟩:=pm
      rw [hfx] at k4 k5
      dsimp only at k4 k5
      right
      refine ⟨_,(k+1,j',qs++[p]),zwe H hdp hrec kf fc hlo ty s mk hk hc hd hxk hal k3 k2 hfx,?_,⟨hk,hf _ _ _ _ hfx k2,by dsimp only;rw [List.length_append,k3];rfl,?_,k5⟩,by dsimp only;omega⟩
      ·have hl2:(B j'++bx5 kf fc ty s mk (qs++[p]) all).length=n+5:=by rw [H.a_len];rfl
       have hlb2:=hlb j' (qs++[p])
       have hl0:=H.l_0;have hl1:=H.l_1;have hu0:=H.u_0;have hu1:=H.u_1
       simp only [ocL,Nat.succ_ne_zero,if_false]
       clear H hrec hthr hlb
       generalize B j'++bx5 kf fc ty s mk (qs++[p]) all=X at *
       simp (maxSteps:=999999) (disch:=first | assumption | omega) only [go_sem,simprocAttr,au,hl2,zbx hl2,hl0,hl1,hu0,hu1,hlb2,zam]
      ·dsimp only
       cases hl:zf7 f (all.drop (k+1)) j' with
       | error e2=>rw [hl] at k4;cases k4;rfl
       | ok q=>rw [hl] at k4;cases k4) (all.length+1) (0,j,[]) ⟨Nat.zero_le _,hj,rfl,h,hM⟩ (by dsimp only;omega)
 obtain ⟨ps,hp⟩:=z7t i _ hi
 simp only [n0] at hp
 exact ⟨i,ps,hp⟩
theorem z7z (L:LibL lib) {B:Nat→zao} {n b:Nat} {r:List (Nat × Nat)} (H:BxAt B n b RT rdr r) {deep j:Nat} (h7:deep<4) (hj:j≤64) {s:Str} (hs:s.length≤10000) {F:List Fld} {at_:Nat} (h1:zba s=.ok F at_) {ty mk:Str} (h2:zds F=.ok (ty,mk)) (h3:za1.isPrefixOf ty=true) (h4:codP F=zbn) (h5:zht mk=true) {all:List Str} (h6:zch (s.drop at_) mk=some all) (h8:j+all.length≤64) {f:Str→Nat→Except Nat (LP × Nat)} {g:Str→Nat→Nat} (hf:∀ s n p m,f s n=.ok (p,m)→n≤64→m≤64) (hrec:Rec lib f (deep+1)) (hthr:ThrG lib f g (deep+1)) {e:Nat} (h9:zf7 f all (j+all.length)=.error e) :
 TW lib 39 [.ptr b 0,.flat (.string (S s)),.flat (.int .i64 (deep:Nat))] (B j) (cl r) (zby (e:Nat),B (zwv f g all (j+all.length)),[]):=by
 obtain ⟨k1,k2,k3⟩:=zaz h1 (by omega)
 have f1:=zlo L.spl s hs
 rw [h1] at f1
 dsimp only at f1
 have hgl:(getU sCt F).1.length≤10000:=zau F _ (by simp) fun f hf=>by have:=(k3 f hf).2;omega
 have hgl2:(getU sCte F).1.length≤10000:=zau F _ (by simp) fun f hf=>by have:=(k3 f hf).2;omega
 have f2:=zkk L.alike L.fold L.par L.cut L.idx F ty mk k1 hgl (fun m l hp=>by have:=zaq hp hgl;exact ⟨this.1,by omega⟩) h2
 have f3:=zjq L.alike F sCte k1 (by decide)
 have hm0:=zbj (lib:=lib) 0
 have hm7:=zbj (lib:=lib) 7
 have hm8:=zbj (lib:=lib) 8
 rw [n0] at hm0
 rw [show ((7:Nat):Int)=7 from rfl] at hm7
 rw [show ((8:Nat):Int)=8 from rfl] at hm8
 have hfl:=zje L.fold (if (getU sCte F).2=0 then zbn else (getU sCte F).1) (by split<;>first | decide | omega)
 have htyl:ty.length≤10000:=by
  unfold zds at h2
  split at h2
  ·split at h2
   ·cases h2;decide
   ·split at h2
    ·cases h2
    ·cases h2
    ·rename_i m l hp
     split at h2
     ·cases h2
      have:=(zaq hp hgl).2
      simp only [zab,List.length_map];omega
     ·cases h2
  ·cases h2
 have f4:=zir L.pre ty za1 (by omega) (by decide)
 have hnp:=zak F
 have hlo:=fun n=>zae (n:=n) F
 have hFl:=k1.1
 have tk:(s.take s.length).drop at_=s.drop at_:=by rw [List.take_length]
 rw [h3] at f4
 have hmk:=zrk hgl h2
 have f6:=zio L.idx mk (by omega)
 rw [h5] at f6
 have h4':=h4
 unfold codP at h4'
 rw [h4'] at hfl
 unfold za1 at f4
 unfold zbn at hfl
 unfold sCte at f3 hfl
 obtain ⟨u,hu'⟩:∃ v,getU [99,111,110,116,101,110,116,45,116,114,97,110,115,102,101,114,45,101,110,99,111,100,105,110,103] F=v:=⟨_,rfl⟩
 rw [hu'] at f3 hfl
 obtain ⟨u,k⟩:=u
 dsimp only at f3 hfl
 have hbl:(s.drop at_).length≤10000:=by rw [List.length_drop];omega
 have hoc:∀ q∈((n+2,0)::(n+1,3)::(n,0)::(n,3)::r),q.1<n+6:=by
  intro q hq
  simp only [List.mem_cons] at hq
  rcases hq with rfl | rfl | rfl | rfl | hq
  ·dsimp only;omega
  ·dsimp only;omega
  ·dsimp only;omega
  ·dsimp only;omega
  ·have:=H.hlt q hq;omega
 have hnew:=zd2 (lib:=lib) (s.drop at_) mk (B j++[(48,zad),(48,zcz F.length (zac F) ty []),(39,[.slc 0 []])]) ((n+2,0)::(n+1,3)::(n,0)::(n,3)::r) (fun q hq=>by
  rw [H.a_len]
  simp only [List.mem_cons] at hq
  rcases hq with rfl | rfl | rfl | rfl | hq
  ·dsimp only [List.length_cons,List.length_nil];omega
  ·dsimp only [List.length_cons,List.length_nil];omega
  ·dsimp only [List.length_cons,List.length_nil];omega
  ·dsimp only [List.length_cons,List.length_nil];omega
  ·have:=H.hlt q hq;dsimp only [List.length_cons,List.length_nil];omega)
 simp only [zcw,H.a_len,List.length_cons,List.length_nil,Nat.zero_add,Nat.reduceAdd,Nat.add_assoc,List.append_assoc,List.cons_append,List.nil_append] at hnew
 have hnew0:=zd2 (lib:=lib) (s.drop at_) mk [] [] (by simp)
 simp only [zql,List.length_nil,List.nil_append,Nat.zero_add] at hnew0
 have hrun:=zk7 (lib:=lib) L.ind L.cutp L.pre (s.drop at_) mk all (by omega) (by omega) h6 (fun out=>B j++bxL n F.length (zac F) ty (s.drop at_) mk [] out) _ (n+5) (n+4) (n+3) (n+6) (fun a=>by rw [H.a_1];rfl) (fun a=>by rw [H.a_1];rfl) (fun a=>by rw [H.a_len];rfl) hoc (fun a x ha=>by simp only [zcw];exact zis H j F.length (zac F) ty _ mk x a (by omega))
 simp only [zcw] at hrun
 have hm5:=zbj (lib:=lib) 5
 rw [show ((5:Nat):Int)=5 from rfl] at hm5
 obtain ⟨i,ps,hli⟩:=ydg hf H h7 hrec hthr F.length (zac F) hlo ty (s.drop at_) mk (zgg h6 hbl) (by omega) h8 h9
 have hoc0:ocL n r 0=.cell (n+2) 0::.cell (n+1) 3::.cell n 0::.cell n 3::cl r:=rfl
 rw [hoc0] at hli
 obtain ⟨M,hM⟩:∃ M,zwv f g all (j+all.length)=M:=⟨_,rfl⟩
 rw [hM] at hli
 rw [hM]
 have htr:=H.tr M j (bx5 F.length (zac F) ty (s.drop at_) mk ps all)
 have hset:∀ ys,(B j++ys).set b (RT,[PV.flat (.int .i64 ((j:Int)+(all.length:Int)))])=B (j+all.length)++ys:=fun ys=>by have:=H.a_set (j+all.length) j ys;simp only [rdr,Int.natCast_add] at this;exact this
 have hal:all.length≤64:=by omega
 have hr1:=H.a_get;have hr2:=H.a_0;have hr3:=H.a_1;have hr4:=H.a_set;have hr5:=H.a_s0;have hr6:=H.a_s1;have hr7:=H.a_len;have hr8:=H.a_take;have hr9:=H.a_take1;have hrl:=H.len;have hlow:=H.low;have hd0:=H.d_0;have hd1:=H.d_1;have hu0:=H.u_0;have hu1:=H.u_1;have hl0:=H.l_0;have hl1:=H.l_1;have hdl1:=H.dl_1;have hdl0:=H.dl_0
 have hlb:=H.a_low;have hbn:=H.lt;have hbn1:∀ i,decide (b<n+i)=true:=fun i=>decide_eq_true (by omega);have hdb:=H.d_b
 obtain ⟨j1,hj1⟩:∃ q,j+all.length=q:=⟨_,rfl⟩
 rw [hj1] at hset hli h8
 simp only [rdr] at hr1 hr4
 clear H hrec hthr h9 k1 k3 h1 h2 L h3 h4 h4' h5 h6 hoc
 generalize zac F=fc at *
 unfold bxL zad zcz at hrun
 unfold zad zcz at hnew
 have s0:zas []=[]:=rfl
 have l0:zaw []=[]:=rfl
 simp only [l0,List.length_nil] at hnew
 simp only [l0,s0,List.length_nil] at hrun
 unfold bx5 zad zcz at hli
 simp only [l0,List.length_nil] at hli
 unfold bx5 zcz at htr
 have hlwp:=fun n=>zax (n:=n) ps
 by_cases hk:k=0
 ·subst hk
  simp only [n0] at f3
  simp only [if_true] at hfl
  refine zf9 zaf (by decide) (Nat.le_of_ble_eq_true rfl) (.r (.r (.r (.r (.r (.r (.r (.r (.r (.r (.r (.r (.r (.r (.r (.r (.l (.r (.lp i rtL))))))))))))))))))) _ [] ?_ htr (by simp)
  unfold zad
  simp (maxSteps:=999999) (disch:=first | assumption | omega) only [go_sem,simprocAttr,au,f1,f2,f3,f4,f6,hfl,hm0,hm7,hnp,hlo,tk,hnew,hnew0,hrun,hm8,hm5,hset,hli,hlwp,hr1,hr2,hr3,hr4,hr5,hr6,hr7,hr8,hr9,hrl,hlow,hd0,hd1,hu0,hu1,hl0,hl1,hdl0,hdl1,hlb,hbn1,hdb,za0,zam,zbf]
 ·have hk':((k:Int)=0)=False:=by apply eq_false;omega
  simp only [hk,if_false] at hfl
  refine zf9 zaf (by decide) (Nat.le_of_ble_eq_true rfl) (.r (.r (.r (.r (.r (.r (.r (.r (.r (.r (.r (.r (.r (.r (.r (.r (.l (.r (.lp i rtL))))))))))))))))))) _ [] ?_ htr (by simp)
  unfold zad
  simp (maxSteps:=999999) (disch:=first | assumption | omega) only [go_sem,simprocAttr,au,f1,f2,f3,f4,f6,hfl,hk',hm0,hm7,hnp,hlo,tk,hnew,hnew0,hrun,hm8,hm5,hset,hli,hlwp,hr1,hr2,hr3,hr4,hr5,hr6,hr7,hr8,hr9,hrl,hlow,hd0,hd1,hu0,hu1,hl0,hl1,hdl0,hdl1,hlb,hbn1,hdb,za0,zam,zbf]
theorem zyk (rest line:Str) (h0:1≤line.length):∀ (n:Nat) (q:List Str × Nat × Nat) (out:List Str),runS (boT rest line) none n q=some out→q.1.length≤q.2.2→q.2.2≤rest.length→out.length≤rest.length+1
 | 0,q,out,h,_,_=>by cases h
 | n+1,(a,fr,at_),out,h,hq,hr=>by
   dsimp only at hq hr
   by_cases hno:Lib.index (rest.drop at_) line=-1
   ·rw [zca (r:=none) (by unfold boT;dsimp only;rw [if_pos hno])] at h;cases h
   obtain ⟨r1,r2⟩:=zpg (n:=0) hno
   rw [List.length_drop] at r1
   obtain ⟨i,hi⟩:∃ i,(Lib.index (rest.drop at_) line).toNat=i:=⟨_,rfl⟩
   rw [hi] at r1
   have hst:boT rest line (a,fr,at_)=(if ([45,45,13,10]:Str).isPrefixOf (rest.drop (at_+i+line.length)) then (if rest.drop (at_+i+line.length)=[45,45,13,10] then .inr (some (a++[(rest.take (at_+i)).drop fr])) else .inr none)
    else if ([13,10]:Str).isPrefixOf (rest.drop (at_+i+line.length)) then .inl (a++[(rest.take (at_+i)).drop fr],at_+i+line.length+2,at_+i+line.length+2) else .inl (a,fr,at_+i+1)):=by
    unfold boT;dsimp only;rw [if_neg hno,hi]
   by_cases h1:([45,45,13,10]:Str).isPrefixOf (rest.drop (at_+i+line.length))=true
   ·rw [if_pos h1] at hst
    by_cases h2:rest.drop (at_+i+line.length)=[45,45,13,10]
    ·rw [if_pos h2] at hst
     rw [zca hst] at h
     cases h
     simp only [List.length_append,List.length_cons,List.length_nil];omega
    ·rw [if_neg h2] at hst
     rw [zca hst] at h;cases h
   ·rw [if_neg h1] at hst
    by_cases h2:([13,10]:Str).isPrefixOf (rest.drop (at_+i+line.length))=true
    ·rw [if_pos h2] at hst
     rw [zc6 hst] at h
     have hl:=zmc h2
     rw [List.length_drop] at hl
     simp only [List.length_cons,List.length_nil] at hl
     exact zyk rest line h0 n _ out h (by simp only [List.length_append,List.length_cons,List.length_nil];omega) (by dsimp only;omega)
    ·rw [if_neg h2] at hst
     rw [zc6 hst] at h
     exact zyk rest line h0 n _ out h (by dsimp only;omega) (by dsimp only;omega)
theorem z2i {s mk:Str} {all:List Str} (h:zch s mk=some all):all.length≤s.length+1:=by
 unfold zch at h
 split at h
 ·rename_i hp
  have hp:=zmc hp
  have:=zyk _ _ (by unfold zc1;simp) _ _ _ h (Nat.le_refl _) (Nat.zero_le _)
  simp only [List.length_append,List.length_cons,List.length_nil,List.length_drop] at this hp
  omega
 ·cases h
theorem zrl (L:LibL lib) {rec:Option ((Str→Nat→Except Nat (LP × Nat)) × (Str→Nat→Nat))} {deep:Nat} (hd4:deep≤4) (hn:rec=none→4≤deep) (hr:∀ f g,rec=some (f,g)→deep<4∧Rec lib f (deep+1)∧ThrG lib f g (deep+1)∧∀ s n p m,f s n=.ok (p,m)→n≤64→m≤64):ThrG lib (zft (rec.map (·.1))) (zun rec) deep:=by
 intro B n b r H s j e hs hj h
 unfold zft at h
 unfold zun
 have f1:=zlo L.spl s hs
 cases h1:zba s with
 | form=>rw [h1] at h f1;cases h;exact zwu L H hs 7 (.inr rfl) f1
 | long=>rw [h1] at h f1;cases h;exact zwu L H hs 6 (.inl rfl) f1
 | ok F at_ =>
   rw [h1] at h
   dsimp only at h ⊢
   cases h2:zds F with
   | error e'=>rw [h2] at h;cases h;exact z7u L H hs h1 h2
   | ok tm =>
     obtain ⟨ty,mk⟩:=tm
     rw [h2] at h
     dsimp only at h ⊢
     cases h3:za1.isPrefixOf ty with
     | false =>
       rw [h3,if_pos rfl] at h
       rw [if_pos rfl]
       cases h4:zkj (s.drop at_) (codP F) with
       | none=>rw [h4] at h;cases h;exact z7v L H hd4 hj hs h1 h2 h3 h4
       | some t=>rw [h4] at h;cases h
     | true =>
       rw [h3,if_neg (by simp)] at h
       rw [if_neg (by simp)]
       by_cases h45:codP F=zbn∧zht mk=true
       ·rw [if_pos h45] at h
        rw [if_pos h45]
        cases h6:zch (s.drop at_) mk with
        | none=>rw [h6] at h;cases h;exact yde L H hd4 hj hs h1 h2 h3 h45.1 h45.2 h6
        | some all =>
          rw [h6] at h
          dsimp only at h ⊢
          cases rec with
          | none =>
            dsimp only [Option.map] at h ⊢
            cases h
            exact z7x L H hd4 hj hs h1 h2 h3 h45.1 h45.2 h6 (hn rfl)
          | some fg =>
            obtain ⟨f,g⟩:=fg
            obtain ⟨r1,r2,r3,r4⟩:=hr f g rfl
            dsimp only [Option.map] at h ⊢
            by_cases h7:j+all.length≤64
            ·rw [if_pos h7] at h
             rw [if_pos h7]
             cases h8:zf7 f all (j+all.length) with
             | error e'=>rw [h8] at h;cases h;exact z7z L H r1 hj hs h1 h2 h3 h45.1 h45.2 h6 h7 r4 r2 r3 h8
             | ok q=>rw [h8] at h;cases h
            ·rw [if_neg h7] at h
             rw [if_neg h7]
             cases h
             have hal:all.length≤100000:=by
              have:=z2i h6
              rw [List.length_drop] at this;omega
             exact z7y L H hd4 hj hs h1 h2 h3 h45.1 h45.2 h6 hal r1 (by omega)
       ·rw [if_neg h45] at h
        rw [if_neg h45]
        cases h
        exact z7w L H hd4 hj hs h1 h2 h3 h45
def zuo:Nat→Str→Nat→Nat
 | 0=>zun none
 | d+1=>zun (some (zed d,zuo d))
theorem zs7 (L:LibL lib):∀ (d deep:Nat),d+deep=4→ThrG lib (zed d) (zuo d) deep
 | 0,deep,h=>zrl L (rec:=none) (by omega) (fun _=>by omega) fun f g e=>by cases e
 | d+1,deep,h=>zrl L (rec:=some (zed d,zuo d)) (by omega) (fun e=>by cases e) fun f g e=>by
   cases e
   exact ⟨by omega,zrb L d (deep+1) (by omega),zs7 L d (deep+1) (by omega),zk9 d⟩
theorem ypu (v:Value) (w:World):(Instr.typeAssert (.iface 73 v) 20 73 true).run Tryz.prog w=.ok (.tuple #[v,.bool true]) w:=by
 simp only [Instr.typeAssert,Sem.run_bind,run_underlying Tryz.underlying73,Result.andThen_ok]
 rfl
theorem z2j {e e':Int} (h:zby e=zby e'):e=e':=by
 unfold zby at h
 simpa using h
open Classical in
noncomputable def fxP:Value→List PV→zao→Option zao:=fun v caps bx =>
 if h:∃ q:Int × Nat,v=zby q.1∧caps=[.ptr 0 0,.ptr 1 0]∧bx=boxP q.2 then some [(48,zad),(26,[.flat (.int .i64 (choose h).1)]),(RT,rdr (choose h).2)] else none
theorem ypv (e:Int) (m:Nat):fxP (zby e) [.ptr 0 0,.ptr 1 0] (boxP m)=some [(48,zad),(26,[.flat (.int .i64 e)]),(RT,rdr m)]:=by
 have h:∃ q:Int × Nat,zby e=zby q.1∧([.ptr 0 0,.ptr 1 0]:List PV)=[.ptr 0 0,.ptr 1 0]∧boxP m=boxP q.2:=⟨(e,m),rfl,rfl,rfl⟩
 unfold fxP
 rw [dif_pos h]
 obtain ⟨h1,_,h3⟩:=Classical.choose_spec h
 obtain ⟨q,hq⟩:∃ q,Classical.choose h=q:=⟨_,rfl⟩
 rw [hq] at h1 h3 ⊢
 obtain ⟨e',m'⟩:=q
 dsimp only at h1 h3 ⊢
 have e1:=z2j h1
 unfold boxP rdr at h3
 simp only [List.cons.injEq,Prod.mk.injEq,PV.flat.injEq,Value.int.injEq,and_true,true_and] at h3
 have e2:m=m':=by omega
 rw [e1,e2]
theorem z71 {P:Program} {o:Oper} {f:(Operand→Value)→Sem Value} (h:∀ ρ,execOp ρ o=(do pure (Next.value (← f ρ)))):zue Fence.wide P o:=by
 intro ρ w d w' hx
 rw [show Fence.wide.round=none from rfl,Oper.semAt_none,h] at hx
 simp only [Sem.run_bind] at hx
 cases hf:(f ρ).run P w with
 | ok v w1=>rw [hf] at hx;simp [Result.andThen_ok] at hx
 | halt v w1=>rw [hf] at hx;cases hx
theorem z73 {P:Program} {o:Oper} {f:(Operand→Value)→Sem Unit} (h:∀ ρ,execOp ρ o=(do f ρ;pure Next.skip)):zue Fence.wide P o:=by
 intro ρ w d w' hx
 rw [show Fence.wide.round=none from rfl,Oper.semAt_none,h] at hx
 simp only [Sem.run_bind] at hx
 cases hf:(f ρ).run P w with
 | ok v w1=>rw [hf] at hx;simp [Result.andThen_ok] at hx
 | halt v w1=>rw [hf] at hx;cases hx
def Γ0:Glob:=⟨fun _=>False,fun _=>True,fun _ _ _ h=>h.elim,fun _ _ _ _=>trivial⟩
def reg5:List COper × BT:=([⟨some 16,none,.build [.flat (.slice none 0 0),.flat (.string ⟨#[]⟩),.flat (.string ⟨#[]⟩),.flat (.slice none 0 0)] []⟩,⟨some 17,none,.fadr 0 (.t 3)⟩],.two ⟨some 18,none,.load false 1 (.t 17)⟩ (.one ⟨none,none,.store 4 (.t 0) (.t 16)⟩ (.one ⟨none,none,.store 1 (.t 1) (.t 18)⟩ .done)) (.one ⟨none,none,.store 4 (.t 0) (.t 16)⟩ (.one ⟨some 18,none,.load false 1 (.t 17)⟩ (.one ⟨none,none,.store 1 (.t 1) (.t 18)⟩ .done))))
theorem zyl:z58 Tryz.prog 38 fxP:=by
 intro v caps st bx' hfx T base M w0 F0 nt a w Fr β cvs R hargs
 unfold fxP at hfx
 split at hfx
 case isFalse=>cases hfx
 rename_i hq
 obtain ⟨hv,hc,hb⟩:=Classical.choose_spec hq
 obtain ⟨⟨e,m⟩,hem⟩:∃ q,Classical.choose hq=q:=⟨_,rfl⟩
 rw [hem] at hv hb hfx
 dsimp only at hv hb hfx
 obtain rfl:=Option.some.inj hfx
 subst hv hc
 have hargs0:=hargs
 simp only [Rds,Rd] at hargs
 obtain ⟨_,_,rfl,⟨g0,b0,rfl⟩,_,_,rfl,⟨g1,b1,rfl⟩,rfl⟩:=hargs
 have Rc:Rel Tryz.prog T base M w0 F0 nt ⟨st.sl,[],[],st.bx⟩ a w Fr β:=R.cut0 (fun i=>.inr rfl) rfl (fun L hL=>by cases hL) rfl
 have R0:=zmr (P:=Tryz.prog) (Γ:=Γ0) (nt:=19) (args:=[.ptr 0 0,.ptr 1 0]) (bx:=st.bx) (oc:=[]) ⟨trivial,hargs0,Rc.boxes,(fun L hL=>by cases hL),fun g hg=>hg.elim⟩ (by decide)
 obtain ⟨w2,hw2⟩:∃ w2,w.alloc (.cells #[.int .i64 e] 73)=w2:=⟨_,rfl⟩
 have hb2:Below w.heap.size w w2:=by rw [← hw2];exact (Below.refl _ _).alloc (Nat.le_refl _) _
 have hat:w2.heap[w.heap.size]? =some (.cells #[.int .i64 e] 73 (0,0)):=by rw [← hw2];show (w.heap.push _)[w.heap.size]? =_;simp
 obtain ⟨R1,hl1⟩:=R0.addBox (Fr':=upd Fr w.heap.size 0) (l:=w.heap.size) (cs:=(73,[.flat (.int .i64 e)])) hb2 (fun g h=>zj0 (Nat.lt_of_lt_of_le h (Nat.le_refl _))) (Nat.le_refl _) (by simp [upd]) fun _=>.inl ⟨[.int .i64 e],_,hat,by simp [Rds,Rd,zcm],by simp [Ones,Value.oneCell'],rfl⟩
 refine callsDIn_of_wpSIn Tryz.func38 rfl trivial fun c₀ cs hu=>?_
 simp only [Tryz.ntmps38,List.size_toArray,List.length_cons,List.length_nil,Nat.reduceAdd,Nat.reduceSub,Array.replicate_succ,Array.replicate_zero,List.push_toArray,List.append_toArray,List.nil_append,List.cons_append]
 apply wpSIn_seq
 apply wpSIn_region
 simp [wpOpsSIn,go_sem,recoverD,hu,Exit.thenS,entry,zby]
 apply wpSIn_seq
 apply wpSIn_seq
 apply wpSIn_region
 simp [wpOpsSIn,go_sem,Exit.thenS]
 refine wpSIn_cond (t:=false) (by simp [Act.eval]) ?_
 simp only [Bool.false_eq_true,if_false]
 refine wpSIn_of_wpIn rfl (wpIn_skip ?_)
 simp only [Exit.thenS]
 apply wpSIn_seq
 apply wpSIn_region
 have hsz:(Go.sizeOf 73).run Tryz.prog (w.alloc (.cells #[.int .i64 0] 73))=.ok 1 (w.alloc (.cells #[.int .i64 0] 73)):=run_sizeOf (by kernel_rfl)
 simp [wpOpsSIn,go_sem,Exit.thenS,ypu,storeVar,hsz,Value.cells]
 rw [hw2]
 apply wpSIn_seq
 apply wpSIn_seq
 apply wpSIn_region
 simp [wpOpsSIn,go_sem,Exit.thenS]
 refine wpSIn_cond (t:=false) (by simp [Act.eval]) ?_
 simp only [Bool.false_eq_true,if_false]
 refine wpSIn_of_wpIn rfl (wpIn_skip ?_)
 simp only [Exit.thenS]
 refine wpSIn_of_wpIn rfl (wpIn_region_any Tryz.checked.mixed ?_)
 have hbl:st.bx.length=3:=by rw [hb];rfl
 have R2:=R1.reslot (st':=⟨[(0,.ptr 0 0),(1,.ptr 1 0),(3,.ptr 3 0)],[],[],st.bx++[(73,[.flat (.int .i64 e)])]⟩) (nt':=19) (a':={ tmps:=#[.pointer (some ⟨g0,0,none⟩),.pointer (some ⟨g1,0,none⟩),.iface 73 (.agg #[.int .i64 e]),.pointer (some ⟨w.heap.size,0,none⟩),.bool true,.iface 73 (.agg #[.int .i64 e]),.iface 73 (.agg #[.int .i64 e]),.bool false,.tuple #[.agg #[.int .i64 e],.bool true],.iface 73 (.agg #[.int .i64 e]),.tuple #[.agg #[.int .i64 e],.bool true],.agg #[.int .i64 e],.bool true,.bool true,.bool false,undef,undef,undef,undef],defers:=[] }) rfl (fun i=>by
  have hβl:β.length=3:=by rw [← R.bx.1];exact hbl
  simp only [z3z,look_nil]
  by_cases i0:0=i
  ·subst i0;simp only [if_true,Rd];exact ⟨g0,by rw [List.getElem?_append_left (by omega)];exact b0,rfl⟩
  rw [if_neg i0]
  by_cases i1:1=i
  ·subst i1;simp only [if_true,Rd];exact ⟨g1,by rw [List.getElem?_append_left (by omega)];exact b1,rfl⟩
  rw [if_neg i1]
  by_cases i3:3=i
  ·subst i3;simp only [if_true,Rd];exact ⟨w.heap.size,by rw [List.getElem?_append_right (by omega),hβl];rfl,rfl⟩
  rw [if_neg i3]
  simp [Rd]) rfl rfl rfl rfl rfl
 have hS:Good Γ0 ⟨w.heap.size,zel w β [],w,Fr,19,w,Fr,β,[]⟩:=⟨trivial,fun g hg=>hg.elim⟩
 refine zpd (D:=[]) (Q:=fun x a' w'=>x=.normal∧∃ s,s.bx=[(48,zad),(26,[.flat (.int .i64 e)]),(RT,rdr m),(73,[.flat (.int .i64 e)])]∧Rl Tryz.prog ⟨w.heap.size,zel w β [],w,Fr,19,w,Fr,β,[]⟩ s a' w') ?_ ?_ _ _ _ _ rfl ?_
 ·intro i o ho
  match i,ho with
  | 0,ho=>cases ho;exact z71 fun ρ=>rfl
  | 1,ho=>cases ho;exact z71 fun ρ=>rfl
  | 2,ho=>cases ho;exact z71 fun ρ=>rfl
  | 3,ho=>cases ho;exact z73 fun ρ=>rfl
  | 4,ho=>cases ho;exact z73 fun ρ=>rfl
  | i+5,ho=>simp at ho
 ·intro x a' w' hx hd
  obtain ⟨rfl,s,hsb,hR⟩:=hx
  refine ⟨hd rfl,_,rfl,.tuple #[],?_,⟨_,rfl⟩,rfl,?_⟩
  ·simp [results,Tryz.results38]
  ·exact z6f R hR (by rw [hbl,hsb];unfold trim;simp [lows,zcf,zad,rdr,PV.low]) (by rw [hbl];rfl)
 ·exact zx5 (P:=Tryz.prog) (r:=none) (qs:=[]) (cf:=fun _ _ _ _=>none) (Γ:=Γ0) (S:=⟨w.heap.size,zel w β [],w,Fr,19,w,Fr,β,[]⟩) (fun f args bx oc vs' os bx' oc' h=>by cases h) hS (q:=reg5) (live:=[])
   (stk:=⟨[(17,.ptr 3 0),(16,.agg [.flat (.slice none 0 0),.flat (.string ⟨#[]⟩),.flat (.string ⟨#[]⟩),.flat (.slice none 0 0)]),(0,.ptr 0 0),(1,.ptr 1 0),(3,.ptr 3 0)],[],[],st.bx++[(73,[.flat (.int .i64 e)])]⟩)
   (F:=⟨[],[.cell 0 0,.cell 0 3],[],[(48,zad),(26,[.flat (.int .i64 e)]),(RT,rdr m),(73,[.flat (.int .i64 e)])]⟩)
   (by kernel_rfl) (by rw [hb];unfold reg5 boxP zad rdr;simp only [go_sem,simprocAttr]) (by rw [hb];unfold reg5 boxP zad rdr;simp only [go_sem,simprocAttr];rfl) rfl ⟨_,_,R2,hl1⟩ (fun s a' w' h1 h2=>⟨rfl,s,by have:=congrArg St.bx h1;exact this,h2⟩)
end Nun
end
section
namespace Nun
open Go
theorem zrm (s m:Str) (out:List Str) (fr n:Nat):∀ (j i:Nat),(∀ t,i≤t→t<i+j→t<s.length∧za4 s (zgu m) t=false∧za4 s (endB m) t=false) →
 runS (bodT s m) none (n+j) (out,fr,i)=runS (bodT s m) none n (out,fr,i+j)
 | 0,i,_=>rfl
 | j+1,i,h=>by
   obtain ⟨h1,h2,h3⟩:=h i (Nat.le_refl _) (by omega)
   have hs:bodT s m (out,fr,i)=.inl (out,fr,i+1):=by unfold bodT;dsimp only;rw [if_pos h1,h2,h3];rfl
   rw [show n+(j+1)=n+j+1 from rfl,zc6 hs,zrm s m out fr n j (i+1) fun t a b=>h t (by omega) (by omega)]
   congr 3;omega
def okR (r:Option (List Str × Bool)):Option (List Str):=match r with
 | some (out,true)=>some out
 | _=>none
theorem z74 (l t b:Str):(l++t).isPrefixOf b=(l.isPrefixOf b && t.isPrefixOf (b.drop l.length)):=by
 rw [Bool.eq_iff_iff,Bool.and_eq_true,List.isPrefixOf_iff_prefix,List.isPrefixOf_iff_prefix,List.isPrefixOf_iff_prefix]
 constructor
 ·rintro ⟨z,rfl⟩
  refine ⟨⟨t++z,by rw [List.append_assoc]⟩,?_⟩
  rw [List.append_assoc,List.drop_left]
  exact ⟨z,rfl⟩
 ·rintro ⟨⟨y,rfl⟩,z,hz⟩
  rw [List.drop_left] at hz
  exact ⟨z,by rw [← hz,List.append_assoc]⟩
theorem zmh {s m:Str} {p:Nat} (hp:p≤s.length):za4 s (zgu m) p=((zc1 m).isPrefixOf (s.drop p) && ([13,10]:Str).isPrefixOf (s.drop (p+(zc1 m).length))):=by
 unfold za4
 rw [decide_eq_true hp,Bool.true_and,show zgu m=zc1 m++[13,10] from rfl,z74,List.drop_drop]
theorem zn5 {s m:Str} {p:Nat} (hp:p≤s.length):za4 s (endB m) p=((zc1 m).isPrefixOf (s.drop p) && ([45,45,13,10]:Str).isPrefixOf (s.drop (p+(zc1 m).length))):=by
 unfold za4
 rw [decide_eq_true hp,Bool.true_and,show endB m=zc1 m++[45,45,13,10] from rfl,z74,List.drop_drop]
theorem zup (o:Nat) (s rest m:Str) (hr:s.drop o=rest) (ho:o≤s.length):∀ (k j f:Nat) (out:List Str) (n n':Nat),rest.length - j≤k→j≤rest.length→f≤j→rest.length<n+j→s.length<n'+(j+o) →
 runS (boT rest (zc1 m)) none n (out,f,j)=okR (runS (bodT s m) none n' (out,f+o,j+o)):=by
 have hl:rest.length+o=s.length:=by rw [← hr,List.length_drop];omega
 have hlm:(zc1 m).length=m.length+4:=by simp [zc1]
 have lb:(zgu m).length=m.length+6:=by simp [zgu]
 have le:(endB m).length=m.length+8:=by simp [endB]
 have hdr:∀ i,rest.drop i=s.drop (i+o):=fun i=>by rw [← hr,List.drop_drop,Nat.add_comm]
 have hcut:∀ a b:Nat,(rest.take a).drop b=(s.take (a+o)).drop (b+o):=fun a b=>by
  rw [← hr,List.take_drop,List.drop_drop,Nat.add_comm o b,Nat.add_comm o a]
 intro k
 induction k with
 | zero =>
   intro j f out n n' hk hj hf hn hn'
   obtain rfl:j=rest.length:=by omega
   obtain ⟨n,rfl⟩:∃ x,n=x+1:=⟨n - 1,by omega⟩
   obtain ⟨n',rfl⟩:∃ x,n'=x+1:=⟨n' - 1,by omega⟩
   have h1:Lib.index (rest.drop rest.length) (zc1 m)=-1:=by rw [List.drop_length];rfl
   rw [zca (r:=none) (by unfold boT;dsimp only;rw [if_pos h1])]
   rw [zca (r:=none) (by unfold bodT;dsimp only;rw [if_neg (by omega)])];rfl
 | succ k ih =>
   intro j f out n n' hk hj hf hn hn'
   obtain ⟨n,rfl⟩:∃ x,n=x+1:=⟨n - 1,by omega⟩
   rcases Lib.index_spec (rest.drop j) (zc1 m) with ⟨h1,h2⟩ | ⟨i,h1,h2,h3,h4⟩
   ·rw [zca (r:=none) (by unfold boT;dsimp only;rw [if_pos h1])]
    have hno:∀ t,j+o≤t→t<j+o+(rest.length - j)→t<s.length∧za4 s (zgu m) t=false∧za4 s (endB m) t=false:=by
     intro t t1 t2
     have t3:=h2 (t - o - j) (by rw [List.length_drop];omega)
     unfold Lib.occAt at t3
     rw [hdr,List.drop_drop,show j+o+(t - o - j)=t by omega] at t3
     refine ⟨by omega,?_,?_⟩
     ·rw [zmh (by omega),t3];rfl
     ·rw [zn5 (by omega),t3];rfl
    obtain ⟨x,rfl⟩:∃ x,n'=x+1+(rest.length - j):=⟨n' - 1 - (rest.length - j),by omega⟩
    rw [zrm s m out _ _ _ _ hno]
    rw [zca (r:=none) (by unfold bodT;dsimp only;rw [if_neg (by omega)])];rfl
   ·have hroom:=Lib.index_room (rest.drop j) (zc1 m) (by omega)
    rw [h1,List.length_drop] at hroom
    have hne:¬ ((i:Int)=-1):=by omega
    have hno:∀ t,j+o≤t→t<j+o+i→t<s.length∧za4 s (zgu m) t=false∧za4 s (endB m) t=false:=by
     intro t t1 t2
     have t3:=h4 (t - o - j) (by omega)
     unfold Lib.occAt at t3
     rw [hdr,List.drop_drop,show j+o+(t - o - j)=t by omega] at t3
     refine ⟨by omega,?_,?_⟩
     ·rw [zmh (by omega),t3];rfl
     ·rw [zn5 (by omega),t3];rfl
    obtain ⟨n',rfl⟩:∃ x,n'=x+1+i:=⟨n' - 1 - i,by omega⟩
    rw [zrm s m out _ _ _ _ hno]
    unfold Lib.occAt at h3
    rw [hdr,List.drop_drop] at h3
    have b1:=zmh (s:=s) (m:=m) (p:=j+o+i) (by omega)
    have b2:=zn5 (s:=s) (m:=m) (p:=j+o+i) (by omega)
    rw [h3,Bool.true_and] at b1 b2
    have hbe:rest.drop (j+i+(zc1 m).length)=s.drop (j+o+i+(zc1 m).length):=by rw [hdr];congr 1;omega
    have hc:(rest.take (j+i)).drop f=(s.take (j+o+i)).drop (f+o):=by rw [hcut];congr 2;omega
    have hstep:boT rest (zc1 m) (out,f,j)=(if ([45,45,13,10]:Str).isPrefixOf (s.drop (j+o+i+(zc1 m).length)) then (if s.drop (j+o+i+(zc1 m).length)=[45,45,13,10] then .inr (some (out++[(s.take (j+o+i)).drop (f+o)])) else .inr none)
     else if ([13,10]:Str).isPrefixOf (s.drop (j+o+i+(zc1 m).length)) then .inl (out++[(s.take (j+o+i)).drop (f+o)],j+i+(zc1 m).length+2,j+i+(zc1 m).length+2) else .inl (out,f,j+i+1)):=by
     unfold boT;dsimp only;rw [h1,if_neg hne,Int.toNat_natCast,hbe,hc]
    have hstepU:bodT s m (out,f+o,j+o+i)=(if za4 s (zgu m) (j+o+i) then .inl (out++[(s.take (j+o+i)).drop (f+o)],j+o+i+(zgu m).length,j+o+i+(zgu m).length)
     else if za4 s (endB m) (j+o+i) then .inr (some (out++[(s.take (j+o+i)).drop (f+o)],decide (j+o+i+(endB m).length=s.length))) else .inl (out,f+o,j+o+i+1)):=by
     unfold bodT;dsimp only;rw [if_pos (by omega)]
    rw [b1,b2] at hstepU
    obtain ⟨B,hB⟩:∃ B,s.drop (j+o+i+(zc1 m).length)=B:=⟨_,rfl⟩
    have hBl:B.length=s.length - (j+o+i+(zc1 m).length):=by rw [← hB,List.length_drop]
    rw [hB] at hstep hstepU
    cases he:([45,45,13,10]:Str).isPrefixOf B with
    | true =>
      have hx:([13,10]:Str).isPrefixOf B=false:=by
       rw [List.isPrefixOf_iff_prefix] at he
       obtain ⟨z,rfl⟩:=he;rfl
      rw [he,if_pos rfl] at hstep
      rw [he,hx,if_neg (by simp),if_pos rfl] at hstepU
      rw [zca hstepU]
      have hlen:=(List.isPrefixOf_iff_prefix.1 he).length_le
      simp only [List.length_cons,List.length_nil] at hlen
      by_cases hB4:B=[45,45,13,10]
      ·rw [if_pos hB4] at hstep
       rw [zca hstep,decide_eq_true (by rw [hB4] at hBl;simp only [List.length_cons,List.length_nil] at hBl;omega)];rfl
      ·rw [if_neg hB4] at hstep
       have:¬ (j+o+i+(endB m).length=s.length):=by
        intro e
        apply hB4
        rw [List.isPrefixOf_iff_prefix] at he
        obtain ⟨z,rfl⟩:=he
        simp only [List.length_append,List.length_cons,List.length_nil] at hBl
        have:z=[]:=qz (by omega)
        rw [this];rfl
       rw [zca hstep,decide_eq_false this];rfl
    | false =>
      rw [he,if_neg (by simp)] at hstep
      cases hx:([13,10]:Str).isPrefixOf B with
      | true =>
        have hlen:=(List.isPrefixOf_iff_prefix.1 hx).length_le
        simp only [List.length_cons,List.length_nil] at hlen
        rw [hx,if_pos rfl] at hstep
        rw [hx,if_pos rfl] at hstepU
        rw [zc6 hstep,zc6 hstepU]
        have e1:j+o+i+(zgu m).length=j+i+(zc1 m).length+2+o:=by omega
        rw [e1]
        exact ih _ _ _ _ _ (by omega) (by omega) (Nat.le_refl _) (by omega) (by omega)
      | false =>
        rw [hx,if_neg (by simp)] at hstep
        rw [hx,he,if_neg (by simp),if_neg (by simp)] at hstepU
        rw [zc6 hstep,zc6 hstepU,show j+o+i+1=j+i+1+o by omega]
        exact ih _ _ _ _ _ (by omega) (by omega) (by omega) (by omega) (by omega)
theorem ydh (s m:Str):zch s m=okR (zmd s m):=by
 unfold zch zmd
 have h1:(zc1 m++[13,10]).isPrefixOf ([13,10]++s)=za4 s (zgt m) 0:=by
  unfold za4
  rw [decide_eq_true (Nat.zero_le _),Bool.true_and,List.drop_zero]
  rfl
 rw [h1]
 cases h:za4 s (zgt m) 0 with
 | false=>rfl
 | true =>
   simp only [if_true]
   have hp:(zgt m).length≤s.length:=by
    unfold za4 at h
    rw [Bool.and_eq_true,List.drop_zero] at h
    exact (List.isPrefixOf_iff_prefix.1 h.2).length_le
   have e:([13,10]++s).drop (zc1 m++[13,10]).length=s.drop (zgt m).length:=by
    have:(zc1 m++[13,10]).length=(zgt m).length+1+1:=by simp [zc1,zgt]
    rw [this];rfl
   rw [e]
   have:=zup (zgt m).length s (s.drop (zgt m).length) m rfl hp (s.drop (zgt m).length).length 0 0 [] (s.length+1) (s.length+1) (Nat.sub_le _ _) (Nat.zero_le _) (Nat.le_refl _) (by rw [List.length_drop];omega) (by omega)
   simpa using this
def repR (old new:Str):Nat→Str→Str
 | _,[]=>[]
 | 0,s=>s
 | n+1,c::t=>if old.isPrefixOf (c::t) then new++repR old new n ((c::t).drop old.length) else c::repR old new n t
theorem z0d {c:UInt8} {t old:Str} (h:old.isPrefixOf (c::t)=false):Lib.index (c::t) old=if Lib.index t old=-1 then -1 else Lib.index t old+1:=by
 rw [Lib.index,h,if_neg (by simp)]
 by_cases e:Lib.index t old=-1
 ·rw [if_pos e,e];rfl
 ·rw [if_neg e,if_neg (by simpa using e)]
theorem z2k {c:UInt8} {t old:Str} (ho:old≠[]) (h:old.isPrefixOf (c::t)=false):Lib.count (c::t) old=Lib.count t old:=by
 have hi:=z0d h
 by_cases e:Lib.index t old=-1
 ·rw [if_pos e] at hi
  rw [Lib.count_miss hi,Lib.count_miss e]
 ·rw [if_neg e] at hi
  have hg:=Lib.index_ge t old
  obtain ⟨i,hi2⟩:∃ i:Nat,Lib.index t old=i:=⟨(Lib.index t old).toNat,by omega⟩
  have hi3:Lib.index (c::t) old=((i+1:Nat):Int):=by rw [hi,hi2];omega
  rw [Lib.count_hit ho hi3,Lib.count_hit ho hi2,show i+1+old.length=(i+old.length)+1 by omega,List.drop_succ_cons]
theorem z77 {c:UInt8} {t old new:Str} (h:old.isPrefixOf (c::t)=false) (k:Nat):Lib.replaceK old new k (c::t)=c::Lib.replaceK old new k t:=by
 cases k with
 | zero=>rfl
 | succ k =>
   have hi:=z0d h
   have hg:=Lib.index_ge t old
   by_cases e:Lib.index t old=-1
   ·rw [if_pos e] at hi
    rw [Lib.replaceK,Lib.replaceK,hi,e];rfl
   ·rw [if_neg e] at hi
    obtain ⟨i,hi2⟩:∃ i:Nat,Lib.index t old=i:=⟨(Lib.index t old).toNat,by omega⟩
    rw [Lib.replaceK_hit old new k _ (i+1) (by rw [hi,hi2];omega),Lib.replaceK_hit old new k _ i hi2]
    rw [List.take_succ_cons,show i+1+old.length=(i+old.length)+1 by omega,List.drop_succ_cons];rfl
theorem ypw {old new:Str} (ho:old≠[]) (hn:old≠new):∀ (n:Nat) (s:Str),s.length≤n→Lib.replaceAll s old new=repR old new n s:=by
 have hb:(old == new)=false:=by simpa using hn
 have hall:∀ s,Lib.replaceAll s old new=Lib.replaceK old new (Lib.count s old) s:=fun s=>by
  unfold Lib.replaceAll Lib.replace Lib.replaceNum
  rw [hb,if_neg (by simp),if_pos (.inl (by decide))]
 have hpos:0<old.length:=List.length_pos_iff.2 ho
 intro n
 induction n with
 | zero =>
   intro s h
   obtain rfl:s=[]:=qz (by omega)
   rw [hall,repR]
   cases Lib.count [] old with
   | zero=>rfl
   | succ k =>
     cases old with
     | nil=>exact absurd rfl ho
     | cons a l=>rfl
 | succ n ih =>
   intro s h
   cases s with
   | nil =>
     rw [hall,repR]
     cases Lib.count [] old with
     | zero=>rfl
     | succ k =>
       cases old with
       | nil=>exact absurd rfl ho
       | cons a l=>rfl
   | cons c t =>
     rw [repR]
     cases hp:old.isPrefixOf (c::t) with
     | true =>
       have h0:Lib.index (c::t) old=((0:Nat):Int):=by rw [Lib.index,hp];rfl
       rw [if_pos rfl,← ih _ (by rw [List.length_drop];simp only [List.length_cons] at h ⊢;omega),hall,hall,Lib.count_hit ho h0,Nat.zero_add,Nat.add_comm 1,Lib.replaceK_hit _ _ _ _ 0 h0,Nat.zero_add,List.take_zero,List.nil_append]
     | false =>
       rw [if_neg (by simp),← ih t (by simpa using h),hall,hall,z2k ho hp,z77 hp]
def zkp:Str→Option Str
 | []=>some []
 | [c]=>if 1≤c.toNat∧c.toNat≤127∧c≠13∧c≠10 then some [c] else none
 | c::d::t=>if c=13∧d=10 then (zkp t).map (10::·) else if 1≤c.toNat∧c.toNat≤127∧c≠13∧c≠10 then (zkp (d::t)).map (c::·) else none
def crz:Str→Str
 | []=>[]
 | [c]=>[c]
 | c::d::t=>if c=13∧d=10 then 0::crz t else c::crz (d::t)
theorem yjq:∀ (n:Nat) (s:Str),s.length≤n→repR [13,10] [0] n s=crz s
 | 0,s,h=>by
   obtain rfl:s=[]:=qz (by omega)
   rfl
 | n+1,[],_=>rfl
 | n+1,[c],_=>by
   rw [repR]
   have:([13,10]:Str).isPrefixOf [c]=false:=by simp [List.isPrefixOf]
   rw [this,if_neg (by simp)]
   cases n<;>rfl
 | n+1,c::d::t,h=>by
   rw [repR,crz]
   simp only [List.length_cons] at h
   by_cases hc:c=13∧d=10
   ·obtain ⟨rfl,rfl⟩:=hc
    rw [if_pos (by simp [List.isPrefixOf]),if_pos ⟨rfl,rfl⟩]
    show 0::repR [13,10] [0] n t=_
    rw [yjq n t (by omega)]
   ·have:([13,10]:Str).isPrefixOf (c::d::t)=false:=by
     simp only [List.isPrefixOf,Bool.and_true,Bool.and_eq_false_iff,beq_eq_false_iff_ne,ne_eq]
     rcases Classical.em (13=c) with e | e
     ·right;intro e2;exact hc ⟨e.symm,e2.symm⟩
     ·exact .inl e
    rw [this,if_neg (by simp),if_neg hc,yjq n (d::t) (by simp only [List.length_cons];omega)]
def lfz:Str→Str:=List.map fun c=>if c=0 then 10 else c
theorem yjr:∀ (n:Nat) (s:Str),s.length≤n→repR [0] [10] n s=lfz s
 | 0,s,h=>by
   obtain rfl:s=[]:=qz (by omega)
   rfl
 | n+1,[],_=>rfl
 | n+1,c::t,h=>by
   rw [repR]
   simp only [List.length_cons] at h
   by_cases hc:c=0
   ·subst hc
    rw [if_pos (by simp [List.isPrefixOf])]
    show 10::repR [0] [10] n t=_
    rw [yjr n t (by omega)];rfl
   ·have:([0]:Str).isPrefixOf (c::t)=false:=by
     simp only [List.isPrefixOf,Bool.and_true,beq_eq_false_iff_ne,ne_eq]
     exact fun e=>hc e.symm
    rw [this,if_neg (by simp),yjr n t (by omega)]
    simp [lfz,hc]
theorem z78 {c:UInt8}:∀ s:Str,at1 c s=none ↔ c ∉ s
 | []=>by simp [at1]
 | x::l=>by
   rw [at1]
   by_cases h:x=c
   ·subst h;simp
   ·rw [if_neg h,Option.map_eq_none_iff,z78 l];simp [show ¬ (c=x) from fun e=>h e.symm]
theorem yjs:∀ (n:Nat) (s:Str),s.length≤n→(if s.all okB=true then (if 13 ∉ crz s∧10 ∉ crz s then some (lfz (crz s)) else none) else none)=zkp s:=by
 intro n
 induction n with
 | zero =>
   intro s h
   obtain rfl:s=[]:=qz (by omega)
   rfl
 | succ n ih =>
   intro s h
   match s,h with
   | [],_=>rfl
   | [c],_ =>
     unfold zkp
     simp only [crz,List.all_cons,List.all_nil,Bool.and_true,okB,Bool.and_eq_true,decide_eq_true_eq,List.mem_singleton,lfz,List.map_cons,List.map_nil]
     by_cases h1:0<c.toNat∧c.toNat<128
     ·have h0:c≠0:=by rintro rfl;simp at h1
      rw [if_pos h1,if_neg h0]
      by_cases h2:¬ (13=c)∧¬ (10=c)
      ·rw [if_pos h2,if_pos ⟨by omega,by omega,fun e=>h2.1 e.symm,fun e=>h2.2 e.symm⟩]
      ·rw [if_neg h2,if_neg fun k=>h2 ⟨fun e=>k.2.2.1 e.symm,fun e=>k.2.2.2 e.symm⟩]
     ·rw [if_neg h1,if_neg fun k=>h1 ⟨by omega,by omega⟩]
   | c::d::t,h =>
     simp only [List.length_cons] at h
     unfold zkp crz
     by_cases hc:c=13∧d=10
     ·obtain ⟨rfl,rfl⟩:=hc
      simp only [and_self,if_true]
      rw [← ih t (by omega)]
      have e1:((13::10::t:Str).all okB=true)=(t.all okB=true):=by simp [okB]
      have e2:(13 ∉ (0::crz t:Str)∧10 ∉ (0::crz t:Str))=(13 ∉ crz t∧10 ∉ crz t):=by simp
      simp only [e1,e2]
      split
      ·split
       ·simp [lfz]
       ·rfl
      ·rfl
     ·rw [if_neg hc]
      rw [if_neg hc,← ih (d::t) (by simp only [List.length_cons];omega)]
      by_cases h1:1≤c.toNat∧c.toNat≤127
      ·have h0:c≠0:=by rintro rfl;simp at h1
       have ho:okB c=true:=by simp only [okB,Bool.and_eq_true,decide_eq_true_eq];omega
       rw [List.all_cons,ho,Bool.true_and]
       by_cases h2:c≠13∧c≠10
       ·rw [if_pos (c:=1≤c.toNat∧_) ⟨h1.1,h1.2,h2.1,h2.2⟩]
        have e2:(13 ∉ (c::crz (d::t):Str)∧10 ∉ (c::crz (d::t):Str))=(13 ∉ crz (d::t)∧10 ∉ crz (d::t)):=by
         simp [show ¬ (13=c) from fun e=>h2.1 e.symm,show ¬ (10=c) from fun e=>h2.2 e.symm]
        simp only [e2]
        split
        ·split
         ·simp [lfz,h0]
         ·rfl
        ·rfl
       ·rw [if_neg (c:=1≤c.toNat∧_) fun k=>h2 k.2.2]
        split
        ·rw [if_neg]
         rintro ⟨k1,k2⟩
         simp only [List.mem_cons,not_or] at k1 k2
         exact h2 ⟨fun e=>k1.1 e.symm,fun e=>k2.1 e.symm⟩
        ·rfl
      ·have ho:okB c=false:=by
        simp only [okB,Bool.and_eq_false_iff,decide_eq_false_iff_not];omega
       rw [List.all_cons,ho,Bool.false_and,if_neg (by simp),if_neg (c:=1≤c.toNat∧_) fun k=>h1 ⟨k.1,k.2.1⟩]
theorem z2l (s:Str):zki s=zkp s:=by
 rw [← yjs _ s (Nat.le_refl _)]
 unfold zki
 have e1:=ypw (old:=[13,10]) (new:=[0]) (by simp) (by simp) s.length s (Nat.le_refl _)
 rw [yjq _ _ (Nat.le_refl _)] at e1
 have e2:=ypw (old:=[0]) (new:=[10]) (by simp) (by simp) (crz s).length (crz s) (Nat.le_refl _)
 rw [yjr _ _ (Nat.le_refl _)] at e2
 rw [e1,e2]
 simp only [z78]
def zeu (t:Str):Bool:=match cutU 47 t with
 | [a,b]=>decide (a≠[]) && decide (b≠[])
 | _=>false
theorem z0e (c:UInt8):zqt c=47 ↔ c=47:=by
 unfold zqt
 split
 ·rename_i h
  simp only [Bool.and_eq_true,decide_eq_true_eq,UInt8.le_iff_toNat_le] at h
  have h1:(65:UInt8).toNat=65:=rfl
  have h2:(90:UInt8).toNat=90:=rfl
  rw [← UInt8.toNat_inj,← UInt8.toNat_inj,UInt8.toNat_add]
  have h3:(32:UInt8).toNat=32:=rfl
  have h4:(47:UInt8).toNat=47:=rfl
  omega
 ·exact Iff.rfl
theorem z0f:∀ t:Str,cutU 47 (zab t)=(cutU 47 t).map zab
 | []=>rfl
 | c::t=>by
   show cutU 47 (zqt c::zab t)=_
   rw [cutU,cutU,z0f t]
   by_cases h:c=47
   ·rw [if_pos h,if_pos ((z0e c).2 h)];rfl
   ·rw [if_neg h,if_neg fun e=>h ((z0e c).1 e)]
    cases cutU 47 t with
    | nil=>rfl
    | cons p ps=>rfl
theorem zs8 (t:Str):zeu (zab t)=zeu t:=by
 unfold zeu
 rw [z0f]
 have e:∀ a:Str,(zab a≠[])=(a≠[]):=fun a=>by simp [zab]
 match cutU 47 t with
 | []=>rfl
 | [a]=>rfl
 | [a,b] =>
   show (decide (zab a≠[]) && decide (zab b≠[]))=_
   simp only [e]
 | a::b::c::l=>rfl
theorem index_one (c:UInt8):∀ s:Str,Lib.index s [c]=match at1 c s with | some i=>(i:Int) | none=>-1
 | []=>rfl
 | x::l=>by
   have ih:=index_one c l
   rw [Lib.index,at1]
   by_cases h:x=c
   ·subst h;simp [List.isPrefixOf]
   ·have:([c]:Str).isPrefixOf (x::l)=false:=by
     simp only [List.isPrefixOf,Bool.and_true,beq_eq_false_iff_ne,ne_eq];exact fun e=>h e.symm
    rw [this,if_neg h,ih]
    cases at1 c l with
    | none=>rfl
    | some i =>
      have:((i:Int) == -1)=false:=by rw [beq_eq_false_iff_ne];omega
      simp only [Bool.false_eq_true,if_false,this,Option.map_some];rfl
theorem ydi (c:UInt8) (s:Str):∃ p ps,cutU c s=p::ps:=by
 cases s with
 | nil=>exact ⟨_,_,rfl⟩
 | cons x l =>
   rw [cutU]
   split
   ·exact ⟨_,_,rfl⟩
   ·split<;>exact ⟨_,_,rfl⟩
theorem zww (m:Str):((Lib.cut m [47]).2.2=true∧(Lib.cut m [47]).1≠[]∧(Lib.cut m [47]).2.1≠[]∧at1 47 (Lib.cut m [47]).2.1=none) ↔ zeu m=true:=by
 unfold Lib.cut zeu
 rw [index_one]
 cases h:at1 47 m with
 | none =>
   rw [zqr h]
   simp
 | some i =>
   rw [zqs h]
   have:(0:Int)≤(i:Int):=by omega
   simp only [this,if_true,Int.toNat_natCast,List.length_cons,List.length_nil,Nat.zero_add,true_and]
   cases h2:at1 47 (m.drop (i+1)) with
   | none =>
     rw [zqr h2]
     simp
   | some j =>
     rw [zqs h2]
     obtain ⟨p,ps,e⟩:=ydi 47 ((m.drop (i+1)).drop (j+1))
     rw [e]
     simp
end Nun
end
section
namespace Nun
open Go Go.RowKit Go.Proofs Go.Proofs.YtmpiobfdchlikaaGreatDoor
variable {lib:Callee}
def zjo (lib:Callee):Prop:=∀ s:Str,s.length≤1000000→lib 64 [.flat (.string (S s))] [] []=some ([.flat (.string (S (zab s)))],false,[],[])
def z79 (lib:Callee):Prop:=∀ s:Str,s.length≤1000000→lib 119 [.flat (.string (S s))] [] []=some ((match decL s with | some t=>[.flat (.string (S t)),.flat (.int .i64 0)] | none=>[.flat (.string (S [])),.flat (.int .i64 7)]),false,[],[])
def z8a (lib:Callee):Prop:=∀ s:Str,s.length≤100000→lib 120 [.flat (.string (S s))] [] []=some ((match zco (bare s) with | some t=>[.flat (.string (S t)),.flat (.int .i64 0)] | none=>[.flat (.string (S [])),.flat (.int .i64 7)]),false,[],[])
def zuq (lib:Callee):Prop:=∀ s:Str,s.length≤10000→lib 63 [.flat (.string (S s))] [] []=some ((match zbr s with | .form=>[.flat (.string (S [])),.slc 0 [],.flat (.int .i64 7)] | .twice=>[.flat (.string (S [])),.slc 0 [],.flat (.int .i64 9)] | .ok m l=>[.flat (.string (S m)),.slc l.length (zac l),.flat (.int .i64 0)]),false,[],[])
def zur (lib:Callee):Prop:=∀ s:Str,s.length≤10000→lib 61 [.flat (.string (S s))] [] []=some ((match zba s with | .form=>[.slc 0 [],.flat (.int .i64 0),.flat (.int .i64 7)] | .long=>[.slc 0 [],.flat (.int .i64 0),.flat (.int .i64 6)] | .ok F at_=>[.slc F.length (zac F),.flat (.int .i64 (at_:Nat)),.flat (.int .i64 0)]),false,[],[])
structure LibR (lib:Callee):Prop where
 fold:zjo lib
 dq:z79 lib
 um:z8a lib
 par:zuq lib
 spl:zur lib
theorem zbt (H:zjo lib) (s:Str) (h:s.length≤1000000):evW code lib 64 [.flat (.string (S s))] [] []=some ([.flat (.string (S (zab s)))],false,[],[]):=zd3 (by decide) (by kernel_rfl) (H s h)
theorem ypx (H:z79 lib) (s:Str) (h:s.length≤1000000):evW code lib 119 [.flat (.string (S s))] [] []=some ((match decL s with | some t=>[.flat (.string (S t)),.flat (.int .i64 0)] | none=>[.flat (.string (S [])),.flat (.int .i64 7)]),false,[],[]):=zd3 (by decide) (by kernel_rfl) (H s h)
theorem ypy (H:z8a lib) (s:Str) (h:s.length≤100000):evW code lib 120 [.flat (.string (S s))] [] []=some ((match zco (bare s) with | some t=>[.flat (.string (S t)),.flat (.int .i64 0)] | none=>[.flat (.string (S [])),.flat (.int .i64 7)]),false,[],[]):=zd3 (by decide) (by kernel_rfl) (H s h)
theorem zfw (H:zuq lib) (s:Str) (h:s.length≤10000):evW code lib 63 [.flat (.string (S s))] [] []=some ((match zbr s with | .form=>[.flat (.string (S [])),.slc 0 [],.flat (.int .i64 7)] | .twice=>[.flat (.string (S [])),.slc 0 [],.flat (.int .i64 9)] | .ok m l=>[.flat (.string (S m)),.slc l.length (zac l),.flat (.int .i64 0)]),false,[],[]):=zd3 (by decide) (by kernel_rfl) (H s h)
theorem zdt (H:zur lib) (s:Str) (h:s.length≤10000):evW code lib 61 [.flat (.string (S s))] [] []=some ((match zba s with | .form=>[.slc 0 [],.flat (.int .i64 0),.flat (.int .i64 7)] | .long=>[.slc 0 [],.flat (.int .i64 0),.flat (.int .i64 6)] | .ok F at_=>[.slc F.length (zac F),.flat (.int .i64 (at_:Nat)),.flat (.int .i64 0)]),false,[],[]):=zd3 (by decide) (by kernel_rfl) (H s h)
theorem z0g (HF:zjo lib) (F:List Fld) (n:Str) (hF:ziq F) (hn:n.length≤1000000):evW code lib 62 [.slc F.length (zac F),.flat (.string (S n))] [] []=some ([.flat (.string (S (getU n F).1)),.flat (.int .i64 ((getU n F).2:Nat))],false,[],[]):=by
 have hloop:=zhs (body:=evC (evW code lib) big zl6) (live:=[0,1,6,7,8]) (nb:=0) (fun (q:Str × Nat) k=>⟨[(0,.slc F.length (zac F)),(1,.flat (.string (S n))),(6,.flat (.string (S q.1))),(7,.flat (.int .i64 (q.2:Nat))),(8,.flat (.int .i64 (k:Nat)))],[],[],[]⟩) F (fun q k=>q.2≤k)
  (fun q k x=>if zab x.1 == zab n then .inl (if q.2=0 then x.2 else q.1,q.2+1) else .inl q) (fun q=>(.exit 0,⟨[(6,.flat (.string (S q.1))),(7,.flat (.int .i64 (q.2:Nat)))],[],[],[]⟩)) (fun q k c hq hk hc hd=>?_) (fun _ _=>by simp only [go_sem,simprocAttr,zae]) (fun q k x a' hq _ _ h=>by split at h<;>cases h<;>first | omega | (dsimp only;omega)) (fun _ _ x r h=>by split at h<;>cases h) (fun q _=>?_) (fun _=>by simp) ([],0) (Nat.le_refl _) (by have:=hF.1;unfold big;omega)
 ·rw [zpe] at hloop
  simp only [n0] at hloop
  unfold getU
  refine zbw zvw (Nat.le_of_ble_eq_true rfl) ?_
  have hFl:=hF.1
  have hlow:=fun n=>zae (n:=n) F
  generalize getS n F ([],0)=R at *
  obtain ⟨v,m⟩:=R
  simp (maxSteps:=999999) (disch:=first | assumption | omega) only [go_sem,simprocAttr,au,hloop,hlow]
 ·obtain ⟨a,b⟩:=c
  obtain ⟨v,m⟩:=q
  have hFl:=hF.1
  have hab:=hF.2 (a,b) (List.mem_of_getElem? hc)
  have hA:=zbt HF a hab.1
  have hB:=zbt HF n hn
  have hat:=zgf hd
  have hlen:=zeh F
  have hl2:((zac F).drop (k * 2)).length=(F.length - k) * 2:=by rw [List.length_drop,hlen];omega
  dsimp only at hq ⊢
  have hlow:=fun n=>zae (n:=n) F
  clear hF hab hlen HF hd hc
  rw [hat] at hl2
  simp only [List.length_cons] at hl2
  generalize F.drop (k+1)=fr at *
  generalize zac fr=fg at *
  by_cases hfo:zab a=zab n
  ·have hfo':=eq_true hfo
   have hfb:(zab a == zab n)=true:=by simpa using hfo
   simp only [hfb,if_true]
   rw [hfo] at hA
   by_cases hm:m=0
   ·subst hm
    simp (maxSteps:=999999) (disch:=first | assumption | omega) only [go_sem,simprocAttr,au,zh3,hat,hA,hB,hlow,hl2]
   ·have hm':((m:Int)=0)=False:=by apply eq_false;omega
    simp only [hm,if_false]
    simp (maxSteps:=999999) (disch:=first | assumption | omega) only [go_sem,simprocAttr,au,zh3,hat,hA,hB,hm',hlow,hl2]
  ·have hfo':=eq_false hfo
   have hfb:(zab a == zab n)=false:=by simpa using hfo
   simp only [hfb,Bool.false_eq_true,if_false]
   simp (maxSteps:=999999) (disch:=first | assumption | omega) only [go_sem,simprocAttr,au,zh3,hat,hA,hB,hfo',hlow,hl2]
 ·simp (maxSteps:=999999) (disch:=first | assumption | omega) only [go_sem,simprocAttr,au,zh3,zae]
theorem znc {n m:Str} (h:zab n=zab m):∀ (F:List Fld) (q:Str × Nat),getS n F q=getS m F q
 | [],q=>rfl
 | (a,b)::l,q=>by rw [getS,getS,h,znc h l,znc h l]
def sevT (s:Str) (q:Str × Nat):(Str × Nat) ⊕ Option Str:=match s[q.2]? with
 | none=>.inr (some q.1)
 | some c=>if za4 s [13,10] q.2 then .inl (q.1++[10],q.2+2)
   else if 1≤c.toNat∧c.toNat≤127∧c.toNat≠13∧c.toNat≠10 then .inl (q.1++[c],q.2+1) else .inr none
theorem yjt (s:Str):∀ (n:Nat) (out:Str) (k:Nat),s.length<n+k→k≤s.length→runS (sevT s) none n (out,k)=(zkp (s.drop k)).map (out++·):=by
 intro n
 induction n with
 | zero=>intro out k h1 h2;omega
 | succ n ih =>
   intro out k h1 h2
   by_cases hk:k<s.length
   ·have hc:s[k]? =some s[k]:=qe hk
    have hd:s.drop k=s[k]::s.drop (k+1):=List.drop_eq_getElem_cons hk
    obtain ⟨c,hce⟩:∃ c,s[k]=c:=⟨_,rfl⟩
    rw [hce] at hc hd
    have hb:za4 s [13,10] k=([13,10]:Str).isPrefixOf (c::s.drop (k+1)):=by rw [zd1 (by omega),hd]
    have hst:sevT s (out,k)=(if ([13,10]:Str).isPrefixOf (c::s.drop (k+1)) then .inl (out++[10],k+2)
     else if 1≤c.toNat∧c.toNat≤127∧c.toNat≠13∧c.toNat≠10 then .inl (out++[c],k+1) else .inr none):=by
     unfold sevT;dsimp only;rw [hc];dsimp only;rw [hb]
    have e13:(c=13) ↔ (c.toNat=13):=by rw [← UInt8.toNat_inj];rfl
    have e10:(c=10) ↔ (c.toNat=10):=by rw [← UInt8.toNat_inj];rfl
    by_cases hk2:k+1<s.length
    ·have hd2:s.drop (k+1)=s[k+1]::s.drop (k+2):=List.drop_eq_getElem_cons hk2
     obtain ⟨d,hde⟩:∃ d,s[k+1]=d:=⟨_,rfl⟩
     rw [hde] at hd2
     rw [hd2] at hst
     rw [hd,hd2]
     unfold zkp
     by_cases hp:c=13∧d=10
     ·obtain ⟨rfl,rfl⟩:=hp
      rw [if_pos (by simp [List.isPrefixOf])] at hst
      rw [zc6 hst,if_pos ⟨rfl,rfl⟩,ih _ _ (by omega) (by omega),Option.map_map]
      congr 1;funext t;simp
     ·have hp2:([13,10]:Str).isPrefixOf (c::d::s.drop (k+2))=false:=by
       simp only [List.isPrefixOf,Bool.and_true,Bool.and_eq_false_iff,beq_eq_false_iff_ne,ne_eq]
       rcases Classical.em (13=c) with e | e
       ·right;intro e2;exact hp ⟨e.symm,e2.symm⟩
       ·exact .inl e
      rw [hp2,if_neg (by simp)] at hst
      rw [if_neg hp]
      by_cases hg:1≤c.toNat∧c.toNat≤127∧c.toNat≠13∧c.toNat≠10
      ·rw [if_pos hg] at hst
       rw [zc6 hst,if_pos ⟨hg.1,hg.2.1,fun e=>hg.2.2.1 (e13.1 e),fun e=>hg.2.2.2 (e10.1 e)⟩,ih _ _ (by omega) (by omega),hd2,Option.map_map]
       congr 1;funext t;simp
      ·rw [if_neg hg] at hst
       rw [zca hst,if_neg fun h=>hg ⟨h.1,h.2.1,fun e=>h.2.2.1 (e13.2 e),fun e=>h.2.2.2 (e10.2 e)⟩];rfl
    ·have hd2:s.drop (k+1)=[]:=List.drop_of_length_le (by omega)
     rw [hd2] at hst
     rw [hd,hd2]
     unfold zkp
     have hp2:([13,10]:Str).isPrefixOf [c]=false:=by simp [List.isPrefixOf]
     rw [hp2,if_neg (by simp)] at hst
     by_cases hg:1≤c.toNat∧c.toNat≤127∧c.toNat≠13∧c.toNat≠10
     ·rw [if_pos hg] at hst
      rw [zc6 hst,if_pos ⟨hg.1,hg.2.1,fun e=>hg.2.2.1 (e13.1 e),fun e=>hg.2.2.2 (e10.1 e)⟩,ih _ _ (by omega) (by omega),hd2]
      simp [zkp]
     ·rw [if_neg hg] at hst
      rw [zca hst,if_neg fun h=>hg ⟨h.1,h.2.1,fun e=>h.2.2.1 (e13.2 e),fun e=>h.2.2.2 (e10.2 e)⟩];rfl
   ·obtain rfl:k=s.length:=by omega
    rw [zca (r:=some out) (by unfold sevT;dsimp only;rw [List.getElem?_eq_none (by omega)]),List.drop_length]
    simp [zkp]
def zrn (s:Str) (q:Str × Nat):St:=⟨[(0,.flat (.string (S s))),(4,.slc q.1.length (zhr q.1)),(5,.flat (.int .i64 (q.2:Nat)))],[.slot 4],[],[]⟩
def z2m:Option Str→Out × St
 | none=>(.ret,⟨[(2,.flat (.string (S []))),(3,.flat (.bool false))],[],[],[]⟩)
 | some t=>(.exit 0,⟨[(4,.slc t.length (zhr t))],[.slot 4],[],[]⟩)
theorem z2n (s:Str) (hs:s.length≤10000000):evW code lib 118 [.flat (.string (S s))] [] []=some (match zki s with
 | some t=>([.flat (.string (S t)),.flat (.bool true)],false,[],[])
 | none=>([.flat (.string (S [])),.flat (.bool false)],false,[],[])):=by
 have hbv:bound=4294967296:=rfl
 refine zbw zr2 (Nat.le_of_ble_eq_true rfl) ?_
 have hloop:=zzo (body:=evC (evW code lib) big zjc) (live:=[0,4,5]) (nb:=0) (zrn s) (sevT s) none z2m (fun q=>q.1.length≤q.2∧q.2≤s.length) (fun q=>s.length - q.2) (fun q hq=>?_) (fun q hq=>by simp only [zrn,go_sem,simprocAttr])
  (fun a b ha h=>?_) (fun r=>by cases r<;>simp [z2m]) (n:=s.length+1) ([],0) ⟨Nat.le_refl _,Nat.zero_le _⟩ (by dsimp only;omega) (by dsimp only;unfold big;omega)
 ·have e0:zhr []=[]:=rfl
  have hD:runS (sevT s) none (s.length+1) ([],0)=zki s:=by
   rw [yjt s _ [] 0 (by omega) (Nat.zero_le _),z2l,List.drop_zero]
   simp
  rw [hD] at hloop
  unfold zrn at hloop
  simp only [List.length_nil,e0,n0] at hloop
  cases hr:zki s with
  | none =>
    rw [hr] at hloop
    simp only [z2m] at hloop
    simp (maxSteps:=999999) (disch:=first | assumption | omega) only [go_sem,simprocAttr,au,hloop]
  | some t =>
    rw [hr] at hloop
    simp only [z2m] at hloop
    have hb:=zlk t
    simp (maxSteps:=999999) (disch:=first | assumption | omega) only [go_sem,simprocAttr,au,hloop,hb,zf5]
 ·obtain ⟨out,k⟩:=q
  obtain ⟨h1,h2⟩:=hq
  dsimp only at h1 h2
  unfold sevT
  dsimp only
  by_cases hlt:k<s.length
  ·have hc:s[k]? =some s[k]:=qe hlt
   obtain ⟨c,hc'⟩:∃ c,s[k]=c:=⟨_,rfl⟩
   rw [hc'] at hc
   rw [hc]
   dsimp only
   have b1:=zb2 (lib:=lib) s [13,10] k (by omega) (by decide) (by omega)
   have e10:[PV.flat (.int .u8 10)]=zhr [10]:=rfl
   cases hb1:za4 s [13,10] k with
   | true =>
     rw [hb1] at b1
     have hl:=zfd hb1
     simp only [List.length_cons,List.length_nil] at hl
     simp only [if_true,outS]
     unfold zrn
     have e2:(k:Int)+1+1=(k:Int)+2:=by omega
     simp (maxSteps:=999999) (disch:=first | assumption | omega) only [go_sem,simprocAttr,au,hc,b1,zda,zf5,zec]
     simp only [e10,zsn,List.length_append,List.length_cons,List.length_nil,e2,Nat.zero_add]
   | false =>
     rw [hb1] at b1
     simp only [Bool.false_eq_true,if_false]
     have eb:[PV.flat (.int .u8 c.toNat)]=zhr [c]:=rfl
     obtain ⟨n,hn⟩:∃ n,c.toNat=n:=⟨_,rfl⟩
     rw [hn] at eb ⊢
     by_cases hg:1≤n∧n≤127∧n≠13∧n≠10
     ·rw [if_pos hg]
      obtain ⟨g1,g2,g3,g4⟩:=hg
      simp only [outS]
      unfold zrn
      simp (maxSteps:=999999) (disch:=first | assumption | omega) only [go_sem,simprocAttr,au,hc,hn,b1,zda,zf5,zec]
      simp only [eb,zsn,List.length_append,List.length_cons,List.length_nil]
     ·rw [if_neg hg]
      simp only [outS,z2m]
      unfold zrn
      rcases Classical.em (n<1) with g1 | g1
      ·simp (maxSteps:=999999) (disch:=first | assumption | omega) only [go_sem,simprocAttr,au,hc,hn,b1,zda,zf5,zec]
      ·rcases Classical.em (127<n) with g2 | g2
       ·simp (maxSteps:=999999) (disch:=first | assumption | omega) only [go_sem,simprocAttr,au,hc,hn,b1,zda,zf5,zec]
       ·rcases Classical.em (n=13) with g3 | g3
        ·clear hg
         subst g3
         simp (maxSteps:=999999) (disch:=first | assumption | omega) only [go_sem,simprocAttr,au,hc,hn,b1,zda,zf5,zec]
        ·obtain rfl:n=10:=by omega
         clear hg
         simp (maxSteps:=999999) (disch:=first | assumption | omega) only [go_sem,simprocAttr,au,hc,hn,b1,zda,zf5,zec]
  ·rw [List.getElem?_eq_none (by omega)]
   simp only [outS,z2m]
   unfold zrn
   simp (maxSteps:=999999) (disch:=first | assumption | omega) only [go_sem,simprocAttr,au,zda]
 ·obtain ⟨out,k⟩:=a
  obtain ⟨h1,h2⟩:=ha
  dsimp only at h1 h2
  unfold sevT at h
  dsimp only at h
  split at h
  ·cases h
  ·rename_i c hc
   have hk:=(qg hc).1
   split at h
   ·rename_i hb1
    have hl:=zfd hb1
    cases h
    simp only [List.length_append,List.length_cons,List.length_nil] at *;omega
   ·split at h
    ·cases h
     simp only [List.length_append,List.length_cons,List.length_nil] at *;omega
    ·cases h
theorem znd (L:LibR lib) (s c:Str) (hs:s.length≤100000):evW code lib 66 [.flat (.string (S s)),.flat (.string (S c))] [] []=some ([.flat (.string (S ((zkj s c).getD []))),.flat (.bool (zkj s c).isSome)],false,[],[]):=by
 refine zbw zua (Nat.le_of_ble_eq_true rfl) ?_
 unfold zkj
 by_cases h1:c=zbn
 ·have e:=z2n (lib:=lib) s (by omega)
  have h1':(c=[55,98,105,116])=True:=eq_true h1
  rw [if_pos h1]
  cases hv:zki s with
  | none =>
    rw [hv] at e
    dsimp only at e ⊢
    simp only [Option.getD_none,Option.isSome_none]
    simp (maxSteps:=999999) (disch:=first | assumption | omega) only [go_sem,simprocAttr,au,e,h1']
  | some t =>
    rw [hv] at e
    dsimp only at e ⊢
    simp only [Option.getD_some,Option.isSome_some]
    simp (maxSteps:=999999) (disch:=first | assumption | omega) only [go_sem,simprocAttr,au,e,h1']
 ·rw [if_neg h1]
  have h1':(c=[55,98,105,116])=False:=eq_false h1
  by_cases h2:c=sQp
  ·rw [if_pos h2]
   have e:=ypx L.dq s (by omega)
   have h2':(c=[113,117,111,116,101,100,45,112,114,105,110,116,97,98,108,101])=True:=eq_true h2
   cases hv:decL s with
   | none =>
     rw [hv] at e
     dsimp only at e ⊢
     simp only [Option.getD_none,Option.isSome_none]
     simp (maxSteps:=999999) (disch:=first | assumption | omega) only [go_sem,simprocAttr,au,e,h1',h2']
   | some t =>
     rw [hv] at e
     dsimp only at e ⊢
     simp only [Option.getD_some,Option.isSome_some]
     simp (maxSteps:=999999) (disch:=first | assumption | omega) only [go_sem,simprocAttr,au,e,h1',h2']
  ·rw [if_neg h2]
   have h2':(c=[113,117,111,116,101,100,45,112,114,105,110,116,97,98,108,101])=False:=eq_false h2
   by_cases h3:c=sB64
   ·rw [if_pos h3]
    have e:=ypy L.um s (by omega)
    have h3':(c=[98,97,115,101,54,52])=True:=eq_true h3
    cases hv:zco (bare s) with
    | none =>
      rw [hv] at e
      dsimp only at e ⊢
      simp only [Option.getD_none,Option.isSome_none]
      simp (maxSteps:=999999) (disch:=first | assumption | omega) only [go_sem,simprocAttr,au,e,h1',h2',h3']
    | some t =>
      rw [hv] at e
      dsimp only at e ⊢
      simp only [Option.getD_some,Option.isSome_some]
      simp (maxSteps:=999999) (disch:=first | assumption | omega) only [go_sem,simprocAttr,au,e,h1',h2',h3']
   ·rw [if_neg h3]
    have h3':(c=[98,97,115,101,54,52])=False:=eq_false h3
    simp only [Option.getD_none,Option.isSome_none]
    simp (maxSteps:=999999) (disch:=first | assumption | omega) only [go_sem,simprocAttr,au,h1',h2',h3']
theorem zwx (c:UInt8):∀ s:Str,(cutU c s).length≤s.length+1
 | []=>by simp [cutU]
 | x::l=>by
   have h:=zwx c l
   unfold cutU
   split
   ·simp only [List.length_cons];omega
   ·split
    ·rename_i e;rw [e] at h;simp only [List.length_cons] at h ⊢;omega
    ·simp
theorem zc3 (s:Str) (hs:s.length≤1000000):evW code lib 65 [.flat (.string (S s))] [] []=some ([.flat (.bool (zeu s))],false,[],[]):=by
 have hc:=yix (lib:=lib) s 47 (by omega)
 have e47:((UInt8.toNat 47:Nat):Int)=47:=rfl
 rw [e47] at hc
 refine zbw zr3 (Nat.le_of_ble_eq_true rfl) ?_
 unfold zeu
 have hcl:=zwx 47 s
 generalize cutU 47 s=l at *
 match l,hcl with
 | [],_ =>
   simp only [zas,List.map_nil,List.length_nil] at hc
   simp (maxSteps:=999999) (disch:=first | assumption | omega) only [go_sem,simprocAttr,au,hc]
 | [a],_ =>
   simp only [zas,List.map_cons,List.map_nil,List.length_cons,List.length_nil] at hc
   simp (maxSteps:=999999) (disch:=first | assumption | omega) only [go_sem,simprocAttr,au,hc]
 | [a,b],_ =>
   simp only [zas,List.map_cons,List.map_nil,List.length_cons,List.length_nil] at hc
   by_cases ha:a=[]
   ·have ha':=eq_true ha
    simp (maxSteps:=999999) (disch:=first | assumption | omega) only [go_sem,simprocAttr,au,hc,ha']
   ·have ha':=eq_false ha
    by_cases hb:b=[]
    ·have hb':=eq_true hb
     simp (maxSteps:=999999) (disch:=first | assumption | omega) only [go_sem,simprocAttr,au,hc,ha',hb']
    ·have hb':=eq_false hb
     simp (maxSteps:=999999) (disch:=first | assumption | omega) only [go_sem,simprocAttr,au,hc,ha',hb']
 | a::b::c::l,hcl =>
   simp only [List.length_cons] at hcl
   have hnp:=zbf (a::b::c::l)
   have hlow:=fun n=>zam (n:=n) (a::b::c::l)
   obtain ⟨cs,hcs⟩:∃ cs,zas (a::b::c::l)=cs:=⟨_,rfl⟩
   rw [hcs] at hc hnp hlow
   simp only [List.length_cons] at hc
   have hn:((l.length:Int)+1+1+1=2)=False:=by apply eq_false;omega
   simp (maxSteps:=999999) (disch:=first | assumption | omega) only [go_sem,simprocAttr,au,hc,hn,hnp,hlow]
def ypz (n:Nat):Bool:=decide (97≤n∧n≤122) || (decide (65≤n∧n≤90) || (decide (48≤n∧n≤57) || (decide (n=45) || (decide (n=95) || (decide (n=61) || decide (n=46))))))
theorem ydj:∀ c:UInt8,zx8 c=ypz c.toNat:=by decide +kernel
theorem ze7 (s:Str) (hs:s.length≤1000000000):evW code lib 68 [.flat (.string (S s))] [] []=some ([.flat (.bool (zht s))],false,[],[]):=by
 have hloop:=zhs (body:=evC (evW code lib) big zif) (live:=[0,3]) (nb:=0) (fun (_:Unit) k=>⟨[(0,.flat (.string (S s))),(3,.flat (.int .i64 (k:Nat)))],[],[],[]⟩) s (fun _ _=>True)
  (fun _ k x=>if zx8 x then .inl () else .inr (.ret,⟨[(2,.flat (.bool false))],[],[],[]⟩)) (fun _=>(.exit 0,⟨[],[],[],[]⟩)) (fun _ k c _ hk hc hd=>?_) (fun _ _=>by simp only [go_sem,simprocAttr]) (fun _ _ _ _ _ _ _ _=>trivial) (fun _ _ x r h=>by split at h<;>simp at h;rw [← h];simp) (fun _ _=>?_) (fun _=>by simp) () trivial (by unfold big;omega)
 ·rw [zm0] at hloop
  simp only [n0] at hloop
  unfold zht
  refine zbw zqi (Nat.le_of_ble_eq_true rfl) ?_
  by_cases he:s=[]
  ·subst he
   simp only [List.length_nil,decide_true,Bool.not_true,Bool.false_and,Bool.and_false]
   simp (maxSteps:=999999) (disch:=first | assumption | omega) only [go_sem,simprocAttr,au,List.length_nil]
  ·have hpos:0<s.length:=List.length_pos_iff.2 he
   have he':(s=[])=False:=eq_false he
   simp only [he',decide_false,Bool.not_false,Bool.true_and]
   rcases Classical.em (s.length≤70) with h70 | h70
   ·simp only [h70,decide_true,Bool.and_true]
    cases ha:s.all zx8 with
    | false =>
      simp only [ha,Bool.false_eq_true,if_false] at hloop
      simp (maxSteps:=999999) (disch:=first | assumption | omega) only [go_sem,simprocAttr,au,hloop]
    | true =>
      simp only [ha,if_true] at hloop
      simp (maxSteps:=999999) (disch:=first | assumption | omega) only [go_sem,simprocAttr,au,hloop]
   ·simp only [h70,decide_false,Bool.and_false]
    simp (maxSteps:=999999) (disch:=first | assumption | omega) only [go_sem,simprocAttr,au,hloop]
 ·have hcb:=c.toNat_lt
  rw [ydj c]
  unfold ypz
  obtain ⟨n,hn⟩:∃ n,c.toNat=n:=⟨_,rfl⟩
  rw [hn]
  rcases Classical.em (n<45) with a1 | a1
  ·simp (maxSteps:=999999) (disch:=first | assumption | omega) only [go_sem,simprocAttr,au,za3,hc,hn,decide_eq_true_eq]
  rcases Classical.em (n=45) with a2 | a2
  ·subst a2
   simp (maxSteps:=999999) (disch:=first | assumption | omega) only [go_sem,simprocAttr,au,za3,hc,hn]
  rcases Classical.em (n=46) with a3 | a3
  ·subst a3
   simp (maxSteps:=999999) (disch:=first | assumption | omega) only [go_sem,simprocAttr,au,za3,hc,hn]
  rcases Classical.em (n<48) with a4 | a4
  ·simp (maxSteps:=999999) (disch:=first | assumption | omega) only [go_sem,simprocAttr,au,za3,hc,hn]
  rcases Classical.em (n≤57) with a5 | a5
  ·simp (maxSteps:=999999) (disch:=first | assumption | omega) only [go_sem,simprocAttr,au,za3,hc,hn]
  rcases Classical.em (n<61) with a6 | a6
  ·simp (maxSteps:=999999) (disch:=first | assumption | omega) only [go_sem,simprocAttr,au,za3,hc,hn]
  rcases Classical.em (n=61) with a7 | a7
  ·subst a7
   simp (maxSteps:=999999) (disch:=first | assumption | omega) only [go_sem,simprocAttr,au,za3,hc,hn]
  rcases Classical.em (n<65) with a8 | a8
  ·simp (maxSteps:=999999) (disch:=first | assumption | omega) only [go_sem,simprocAttr,au,za3,hc,hn]
  rcases Classical.em (n≤90) with a9 | a9
  ·simp (maxSteps:=999999) (disch:=first | assumption | omega) only [go_sem,simprocAttr,au,za3,hc,hn]
  rcases Classical.em (n<95) with a10 | a10
  ·simp (maxSteps:=999999) (disch:=first | assumption | omega) only [go_sem,simprocAttr,au,za3,hc,hn]
  rcases Classical.em (n=95) with a11 | a11
  ·subst a11
   simp (maxSteps:=999999) (disch:=first | assumption | omega) only [go_sem,simprocAttr,au,za3,hc,hn]
  rcases Classical.em (n<97) with a12 | a12
  ·simp (maxSteps:=999999) (disch:=first | assumption | omega) only [go_sem,simprocAttr,au,za3,hc,hn]
  rcases Classical.em (n≤122) with a13 | a13
  ·simp (maxSteps:=999999) (disch:=first | assumption | omega) only [go_sem,simprocAttr,au,za3,hc,hn]
  ·simp (maxSteps:=999999) (disch:=first | assumption | omega) only [go_sem,simprocAttr,au,za3,hc,hn]
 ·simp (maxSteps:=999999) (disch:=first | assumption | omega) only [go_sem,simprocAttr,au,za3]
end Nun
end
