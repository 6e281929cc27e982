/- LetterNests answers true for all numbers and flags, at any start: texts of this proof, merged. -/
import Derived.Test.YtmpiobfdchlikaaGreatDoorNd
import Derived.RecoverIn
set_option linter.unusedVariables false
set_option linter.unusedSimpArgs false
set_option maxHeartbeats 4000000
section
namespace Nun
open Go Go.RowKit
abbrev Thr:=Value × zao × List Loc
abbrev zcr:=FuncId→List PV→zao→List Loc→Thr→Prop
abbrev ThrS:=Value × List PV × zao × List Loc
def zkf (kl:List Nat) (q:ThrS):St:=⟨kl.zip q.2.1,q.2.2.2,[],q.2.2.1⟩
def entry (v:Value):List PanicEntry:=[{ v:=v,recovered:=false }]
def zm1 (P:Program) (Γ:Glob) (pf:zcr):Prop:=∀ f args bx oc q,pf f args bx oc q→∀ w Fr β vs,Pre P Γ w Fr β args vs bx oc →
 Enters P f vs w fun e w'=>e=.panicked (entry q.1)∧∃ Fr' β',Post P w Fr β oc [] false q.2.1 q.2.2 (.tuple #[]) w' Fr' β'
inductive Rt where
 | op (f:FuncId) (k:Nat)
 | l (r:Rt)
 | r (r:Rt)
 | lp (m:Nat) (r:Rt)
 | rg
def zaj (st:St):COp→Option (FuncId × List PV)
 | .call f args=>some (f,args.map fun x=>(x.ev st.sl).weak)
 | .callv g args=>match g.ev st.sl with
   | .clo f caps=>if f=yldF then none else some (f,(args.map fun x=>(x.ev st.sl).weak)++caps)
   | _=>none
 | _=>none
def zcn (pf:zcr) (kl:List Nat) (st:St) (f:FuncId) (args:List PV) (q:ThrS):Prop :=
 q.2.1=kl.map (look st.sl)∧if zcb args=true then (∃ bx oc,pf f args [] [] (q.1,bx,oc))∧q.2.2=(st.bx,st.ow.filter zah) else pf f args st.bx (st.ow.filter zah) (q.1,q.2.2)
def PanS (cf:Callee) (pf:zcr) (kl:List Nat) (f:FuncId) (o:COper) (k:Nat) (st:St) (q:ThrS) (K:Nat→St→Prop):Prop:=match zbp st o.g with
 | some true=>(match zaj st o.op with
   | some (g,args)=>if g=f then (match k with
    | 0=>zcn pf kl st f args q
    | k+1=>match stepG cf st o with | some st'=>K k st' | none=>False)
     else match stepG cf st o with | some st'=>K k st' | none=>False
   | none=>match stepG cf st o with | some st'=>K k st' | none=>False)
 | _=>match stepG cf st o with | some st'=>K k st' | none=>False
def zdl (cf:Callee) (pf:zcr) (kl:List Nat) (f:FuncId):List COper→Nat→St→ThrS→Prop
 | [],_,_,_=>False
 | o::r,k,st,q=>PanS cf pf kl f o k st q fun k st'=>zdl cf pf kl f r k st' q
def PanT (cf:Callee) (pf:zcr) (kl:List Nat) (f:FuncId):BT→Nat→St→ThrS→Prop
 | .done,_,_,_=>False
 | .one o t,k,st,q=>PanS cf pf kl f o k st q fun k st'=>PanT cf pf kl f t k st' q
 | .two o t r,k,st,q=>(PanS cf pf kl f o k st q fun k st'=>PanT cf pf kl f t k st' q)∧PanT cf pf kl f r k st q
def zdm (body:St→Option (Out × St)) (pbody:St→Prop) (live:List Nat) (nb:Nat):Nat→St→Prop
 | 0,st=>pbody st
 | n+1,st=>match body st with
   | some (.normal,st')=>zdm body pbody live nb n (st'.only live nb)
   | _=>False
def zk4 (pf:zcr) (kl:List Nat) (f k:Nat) (live:List Nat) (g:PV) (st:St) (q:ThrS):Prop:=match g with
 | .clo h caps=>h≠yldF∧q.2.1=kl.map (look st.sl)∧pf h (.yld st.bx.length::caps) (st.bx++[(0,[.lp f k .ready live (live.map (look st.sl))])]) (st.ow.filter zah) (q.1,q.2.2)
 | _=>False
def PanC (cf:Callee) (pf:zcr) (kl:List Nat) (n:Nat):CCode→Rt→St→ThrS→Prop
 | .reg _ [] tail,.op f k,st,q=>zdl cf pf kl f tail k st q
 | .regT _ pre t,.op f k,st,q=>(pre.all fun o=>match o.dst with | some d=>!kl.contains d | none=>true)=true∧match evQ cf pre st with
   | some s=>PanT cf pf kl f t k s q
   | none=>False
 | .seq a _,.l r,st,q=>PanC cf pf kl n a r st q
 | .seq a b,.r r,st,q=>match evC cf n a st with
   | some (.normal,st')=>PanC cf pf kl n b r st' q
   | _=>False
 | .cond c a b,r,st,q=>match c.ev st.sl with
   | .flat (.bool t)=>if t then PanC cf pf kl n a r st q else PanC cf pf kl n b r st q
   | _=>False
 | .block _ b,r,st,q=>PanC cf pf kl n b r st q
 | .loop live b,.lp m r,st,q=>zdm (evC cf n b) (fun s=>PanC cf pf kl n b r s q) live st.bx.length m (st.only live st.bx.length)
 | .range f k live g,.rg,st,q=>zk4 pf kl f k live (g.ev st.sl) st q
 | _,_,_,_=>False
def PanF (code:FuncId→Option CFun) (cf:Callee) (n0:Nat) (plib:zcr):Nat→zcr
 | 0,_,_,_,_,_=>False
 | n+1,f,args,bx,oc,q=>match code f with
   | none=>f≠yldF∧plib f args bx oc q
   | some c=>args.length≤c.nt∧∃ rt q0,PanC cf (PanF code cf n0 plib n) [] n0 c.body rt { sl:=zfi 0 args,ow:=oc,al:=[],bx } q0∧q.1=q0.1∧q.2.1=trim bx.length [] q0.2.2.1∧∀ L∈q.2.2,L∈zbq (trim bx.length [] q0.2.2.1).length q0.2.2.2
def PanW (code:FuncId→Option CFun) (cf:Callee) (n0:Nat) (plib:zcr):zcr:=fun f args bx oc q=>∃ n,PanF code cf n0 plib n f args bx oc q
section
variable {P:Program} {w w':World} {r:Option Nat} {Fr Fr':Nat→Nat} {β β':List Nat} {T:List Deferred} {base nt:Nat} {M:Nat→Prop} {w0:World} {F0:Nat→Nat} {st st':St} {a a':Act} {cf:Callee} {pf:zcr} {Γ:Glob} {S:S0}
theorem zzq (sl:List (Nat × PV)):∀ (kl:List Nat) (i:Nat),look (kl.zip (kl.map (look sl))) i=.unk∨look (kl.zip (kl.map (look sl))) i=look sl i
 | [],i=>.inl rfl
 | j::kl,i=>by
   simp only [List.map_cons,List.zip_cons_cons,za2]
   by_cases h:j=i
   ·subst h;exact .inr (if_pos rfl)
   ·rw [if_neg h];exact zzq sl kl i
theorem Rl.pan {kl:List Nat} {q:ThrS} {st:St} {a:Act} {w:World} (h1:q.2.1=kl.map (look st.sl)) (h2:q.2.2=(st.bx,st.ow.filter zah)) (h:Rl P S st a w):Rl P S (zkf kl q) a w:=by
 obtain ⟨Fr,β,R,hl⟩:=h
 refine ⟨Fr,β,R.cut0 (fun i=>?_) (by unfold zkf;rw [h2]) (fun L hL=>?_) rfl,hl⟩
 ·unfold zkf;rw [h1];exact zzq st.sl kl i
 ·have hL':L∈st.ow.filter zah:=by unfold zkf at hL;rw [h2] at hL;exact hL
  obtain ⟨k1,k2⟩:=List.mem_filter.1 hL'
  exact ⟨k1,fun i e=>by rw [e] at k2;cases k2⟩
theorem zzr (hpf:zm1 P Γ pf) {f:FuncId} {args:List PV} {kl:List Nat} {q:ThrS} (h:zcn pf kl st f args q) {vs:List Value}
 (R:Rel P S.T S.base S.M S.w0 S.F0 S.nt st a w Fr β) (hl:Le S.sw S.sF S.sβ w Fr β) (hargs:Rds w Fr β args vs) (hg:Γ.G w) (hdis:∀ g,Γ.D g→g<S.base∧¬ S.M g) :
 Enters P f vs w fun e w'=>e=.panicked (entry q.1)∧Rl P S (zkf kl q) a w':=by
 unfold zcn at h
 obtain ⟨hk,h⟩:=h
 split at h
 ·rename_i hnp
  obtain ⟨⟨bx,oc,h⟩,hq⟩:=h
  refine (hpf f args [] [] _ h w Fr [] vs ⟨hg,zf0 args vs hnp hargs,zpw w Fr,(fun L h=>by cases h),fun g _=>zfk⟩).mono fun e w' h=>?_
  obtain ⟨rfl,Fr',β',Q⟩:=h
  have hb:Below w.heap.size w w':=⟨Q.rel.os,Q.rel.tape,Q.rel.output,Q.rel.ge,fun k hk=>(Q.rel.old k hk zfk).1⟩
  obtain ⟨R',hl'⟩:=R.grow hb (fun g hg=>(Q.rel.old g hg zfk).2)
  exact ⟨rfl,Rl.pan hk hq ⟨Fr',β,R',hl.trans hl'⟩⟩
 ·have hmem:∀ L,L∈st.ow.filter zah→L∈st.ow∧zah L=true:=fun L h=>by simpa using h
  have hmay:∀ g,zel w β (st.ow.filter zah) g→S.base≤g∨S.M g:=fun g hg=>R.may g (hg.imp id fun ⟨L,h1,v,h2,h3⟩=>⟨L,(hmem L h1).1,v,by rw [zb1 (hmem L h1).2];exact h2,h3⟩)
  refine (hpf f args st.bx (st.ow.filter zah) _ h w Fr β vs ⟨hg,hargs,R.boxes,fun L h=>(hmem L h).2,fun g hD hm=>?_⟩).mono fun e w' h=>?_
  ·obtain ⟨h1,h2⟩:=hdis g hD
   rcases hmay g hm with h | h
   ·omega
   ·exact h2 h
  obtain ⟨rfl,Fr',β',Q⟩:=h
  refine ⟨rfl,?_⟩
  dsimp only at Q
  have hfil:q.2.2.2.filter zah=q.2.2.2:=List.filter_eq_self.2 Q.cells
  have:=zxl (S:=S) (dst:=none) (f:=f) (args:=args) Q (st':={ st with bx:=q.2.2.1,ow:=q.2.2.2.filter zah++st.ow.filter (fun L=>!zah L),al:=st.al.filter fun p=>!zah p.2 }) (by unfold callBx;rfl) (fun d h=>by cases h) R hl (K:=fun a' w'=>Rl P S (zkf kl q) a' w') (fun a' w' hr=>by
   refine Rl.pan (st:={ st with bx:=q.2.2.1,ow:=q.2.2.2.filter zah++st.ow.filter (fun L=>!zah L),al:=st.al.filter fun p=>!zah p.2 }) hk ?_ hr
   dsimp only
   have e:(st.ow.filter (fun L=>!zah L)).filter zah=[]:=by
    refine List.filter_eq_nil_iff.2 fun L hL hc=>?_
    have:=(List.mem_filter.1 hL).2
    rw [hc] at this;cases this
   rw [List.filter_append,hfil,hfil,e,List.append_nil])
  exact this
theorem zqo {o:Oper} {ali:List Nat} {c:COp} (hc:coOp P ali o=some c) {f:FuncId} {args:List PV} (ht:zaj st c=some (f,args)):zog P o.op=some c:=by
 have hcall:∀ c,(∃ f xs,c=COp.call f xs)∨(∃ g xs,c=.callv g xs)→zfj c=false:=fun c h=>by rcases h with ⟨f,xs,rfl⟩ | ⟨g,xs,rfl⟩<;>rfl
 have hk:(∃ f xs,c=COp.call f xs)∨(∃ g xs,c=.callv g xs):=by
  unfold zaj at ht
  split at ht
  ·exact .inl ⟨_,_,rfl⟩
  ·exact .inr ⟨_,_,rfl⟩
  ·cases ht
 unfold coOp at hc
 split at hc
 ·rename_i c' h1
  cases hc
  unfold z89 at h1
  split at h1
  ·split at h1
   ·cases h1;rcases hk with ⟨_,_,h⟩ | ⟨_,_,h⟩<;>cases h
   ·cases h1
  ·split at h1
   ·obtain ⟨y,_,rfl⟩:=qm h1
    rcases hk with ⟨_,_,h⟩ | ⟨_,_,h⟩<;>cases h
   ·cases h1
  ·cases h1
 ·split at hc
  ·rename_i c' h1
   cases hc
   rcases zib h1 with ⟨x,hx⟩ | ⟨x,hx⟩ | hx
   ·rw [hx] at h1
    obtain ⟨y,_,rfl⟩:=qm h1
    rcases hk with ⟨_,_,h⟩ | ⟨_,_,h⟩<;>cases h
   ·rw [hx] at h1
    obtain ⟨y,_,rfl⟩:=qm h1
    rcases hk with ⟨_,_,h⟩ | ⟨_,_,h⟩<;>cases h
   ·rw [hcall _ hk] at hx;cases hx
  ·split at hc
   ·rename_i c' h1
    cases hc
    exfalso
    have hno:∀ {x:COp},¬ ((∃ f xs,x=COp.call f xs)∨(∃ g xs,x=.callv g xs))→c≠x:=fun h e=>h (e ▸ hk)
    unfold zxj at h1
    split at h1
    ·obtain ⟨y,_,rfl⟩:=qm h1;rcases hk with ⟨_,_,h⟩ | ⟨_,_,h⟩<;>cases h
    ·obtain ⟨_,_,h1⟩:=qb h1
     obtain ⟨y,_,rfl⟩:=qm h1;rcases hk with ⟨_,_,h⟩ | ⟨_,_,h⟩<;>cases h
    ·split at h1
     ·obtain ⟨_,_,h1⟩:=qb h1
      split at h1
      ·obtain ⟨_,_,h1⟩:=qb h1
       split at h1
       ·obtain ⟨y,_,rfl⟩:=qm h1;rcases hk with ⟨_,_,h⟩ | ⟨_,_,h⟩<;>cases h
       ·cases h1
      ·cases h1
     ·cases h1
    ·obtain ⟨_,_,h1⟩:=qb h1
     split at h1
     ·split at h1
      ·cases h1;rcases hk with ⟨_,_,h⟩ | ⟨_,_,h⟩<;>cases h
      ·cases h1
     ·cases h1
    ·obtain ⟨_,_,h1⟩:=qb h1
     obtain ⟨_,_,h1⟩:=qb h1
     split at h1
     ·obtain ⟨y,_,rfl⟩:=qm h1;rcases hk with ⟨_,_,h⟩ | ⟨_,_,h⟩<;>cases h
     ·cases h1
    ·obtain ⟨_,_,h1⟩:=qb h1
     obtain ⟨_,_,h1⟩:=qb h1
     obtain ⟨_,_,h1⟩:=qb h1
     split at h1
     ·cases h1;rcases hk with ⟨_,_,h⟩ | ⟨_,_,h⟩<;>cases h
     ·cases h1
    ·split at h1
     ·split at h1
      ·obtain ⟨_,_,h1⟩:=qb h1
       split at h1
       ·obtain ⟨_,_,h1⟩:=qb h1
        obtain ⟨y,_,rfl⟩:=qm h1;rcases hk with ⟨_,_,h⟩ | ⟨_,_,h⟩<;>cases h
       ·cases h1
      ·obtain ⟨_,_,h1⟩:=qb h1
       split at h1
       ·obtain ⟨_,_,h1⟩:=qb h1
        obtain ⟨y,_,rfl⟩:=qm h1;rcases hk with ⟨_,_,h⟩ | ⟨_,_,h⟩<;>cases h
       ·cases h1
      ·cases h1
     ·cases h1
    ·cases h1
   ·split at hc
    ·rename_i c' h1;cases hc;exact h1
    ·cases hc;rcases hk with ⟨_,_,h⟩ | ⟨_,_,h⟩<;>cases h
theorem zzs (hpf:zm1 P Γ pf) (hS:Good Γ S) {o:Oper} {ali:List Nat} {c:COp} (hc:coOp P ali o=some c) {f:FuncId} {args:List PV} (ht:zaj st c=some (f,args)) {kl:List Nat} {q:ThrS} (h:zcn pf kl st f args q) (hne:f≠yldF) (hr:Rl P S st a w) {K:Act→World→Prop} {Q:Exit→Act→World→Prop}
 (hQ:∀ a' w',Rl P S (zkf kl q) a' w'→Q (.panic (entry q.1)) a' w'):o.wpIn (fw r) 0 P a w K Q:=by
 have hcc:=zqo hc ht
 obtain ⟨Fr,β,R,hl⟩:=hr
 obtain ⟨dst,op,ty,pos,after,guard⟩:=o
 dsimp only at hcc
 have fin:∀ (vs:List Value),Rds w Fr β args vs→(execOp a.eval ⟨dst,op,ty,pos,after,guard⟩).run P w=(callFunc f vs.toArray).run P w→Oper.wpIn (fw r) 0 P ⟨dst,op,ty,pos,after,guard⟩ a w K Q:=fun vs h2 h3=>by
  have hen:=zzr hpf h R hl h2 (hS.at R) hS.dis
  unfold Enters at hen
  rw [if_neg hne] at hen
  obtain ⟨he,hcall⟩:=hen
  have hx:(execOp a.eval ⟨dst,op,ty,pos,after,guard⟩).run P w=.ok (.enter f vs.toArray) w:=by rw [h3,zil he]
  refine ⟨fun _ _=>trivial,?_⟩
  rw [Oper.semAt_eq _ _ _ fun c hc=>by obtain ⟨d,hd⟩:=zmm hc hx;cases hd]
  rw [hx]
  refine ⟨(fun h=>by cases h),zo3.2 (hcall.mono fun e w' h=>?_)⟩
  obtain ⟨rfl,h⟩:=h
  exact hQ _ _ h
 cases op with
 | call cl =>
   obtain ⟨callee,cargs,ats⟩:=cl
   cases callee with
   | invoke r m=>cases hcc
   | builtin b=>cases hcc
   | value g =>
     cases g with
     | const v=>cases hcc
     | global g=>cases hcc
     | func g =>
       simp only [zog] at hcc
       split at hcc
       ·cases hcc
       obtain ⟨xs,hx,rfl⟩:=qm hcc
       simp only [zaj,Option.some.injEq,Prod.mk.injEq] at ht
       obtain ⟨rfl,rfl⟩:=ht
       refine fin (cargs.map a.eval).toList (zj1 R.sl hx) ?_
       show (do let d ← resolve a.eval ⟨.value (.func g),cargs,ats⟩ ty;invoke d.target d.args:Sem Next).run P w=_
       simp only [resolve,Deferred.ofValue,Act.eval,Sem.run_bind,Sem.run_pure,Result.andThen_ok,invoke]
       congr 2
       apply Array.ext';simp
     | tmp t =>
       obtain ⟨xs,hx,rfl⟩:=qm hcc
       simp only [zaj] at ht
       split at ht
       ·rename_i g caps e1
        split at ht
        ·cases ht
        simp only [Option.some.injEq,Prod.mk.injEq] at ht
        obtain ⟨rfl,rfl⟩:=ht
        have hf:=R.sl t
        have e1':look st.sl t=.clo g caps:=e1
        rw [e1'] at hf
        simp only [Rd] at hf
        obtain ⟨cvs,hfv,hcr⟩:=hf
        refine fin ((cargs.map a.eval).toList++cvs) ((zj1 R.sl hx).append hcr) ?_
        show (do let d ← resolve a.eval ⟨.value (.tmp t),cargs,ats⟩ ty;invoke d.target d.args:Sem Next).run P w=_
        have:a.eval (.tmp t)=.func (.func g) #[] cvs.toArray:=hfv
        simp only [resolve,this,Deferred.ofValue,Sem.run_bind,Sem.run_pure,Result.andThen_ok,invoke]
        congr 2
        apply Array.ext';simp
       ·cases ht
 | _=>cases hcc
theorem zvz {c:COp} {ali:List Nat} {o:Oper} (hc:coOp P ali o=some c) {f:FuncId} {args:List PV} (ht:zaj st c=some (f,args)):f≠yldF:=by
 have hcc:=zqo hc ht
 unfold zaj at ht
 split at ht
 ·cases ht
  rename_i xs
  obtain ⟨dst,op,ty,pos,after,guard⟩:=o
  dsimp only at hcc
  unfold zog at hcc
  split at hcc
  ·split at hcc
   ·cases hcc
   ·obtain ⟨_,_,h⟩:=qm hcc;cases h;assumption
  ·obtain ⟨_,_,h⟩:=qm hcc;cases h
  ·cases hcc
 ·split at ht
  ·split at ht
   ·cases ht
   ·cases ht;assumption
  ·cases ht
 ·cases ht
theorem zv0 {f:FuncId} {o:COper} {k:Nat} {kl:List Nat} {q:ThrS} {K:Nat→St→Prop} (h:PanS cf pf kl f o k st q K):(∃ args,zbp st o.g=some true∧zaj st o.op=some (f,args)∧zcn pf kl st f args q)∨∃ k' st',stepG cf st o=some st'∧K k' st':=by
 have next:∀ m,(match stepG cf st o with | some st'=>K m st' | none=>False)→∃ k' st',stepG cf st o=some st'∧K k' st':=fun m hm=>by
  split at hm
  ·rename_i st' hs;exact ⟨m,st',hs,hm⟩
  ·exact hm.elim
 unfold PanS at h
 split at h
 ·rename_i hgd
  split at h
  ·rename_i g' args htg
   split at h
   ·rename_i hgf
    subst hgf
    split at h
    ·exact .inl ⟨args,hgd,htg,h⟩
    ·exact .inr (next _ h)
   ·exact .inr (next _ h)
  ·exact .inr (next _ h)
 ·exact .inr (next _ h)
theorem zv1 {ops:Array Oper} {ali:List Nat} {nt:Nat} {o:Oper} {c:COper} (h:zgz P nt ops ali o=some c):coOp P ali o=some c.op∧coG ops o.guard=some c.g:=by
 unfold zgz at h
 split at h
 case isFalse=>cases h
 obtain ⟨cc,h1,h⟩:=qb h
 obtain ⟨g,h2,rfl⟩:=qm h
 exact ⟨h1,h2⟩
theorem z56 (hcf:zbv P Γ cf) (hpf:zm1 P Γ pf) (hS:Good Γ S) {ops:Array Oper} {ali:List Nat} {f:FuncId} {kl:List Nat} {q:ThrS} {Q:Exit→Act→World→Prop} {rest:List Nat}
 (hQ:∀ a' w',Rl P S (zkf kl q) a' w'→Q (.panic (entry q.1)) a' w'):∀ (l:List COper) (n k:Nat) (st:St) (a:Act) (w:World),
 (∀ j c,l[j]? =some c→∃ o,ops[k+j]? =some o∧zgz P S.nt ops ali o=some c)→zdl cf pf kl f l n st q→Rl P S st a w→wpOpsIn (fw r) 0 P ops Q (List.range' k l.length++rest) a w
 | [],n,k,st,a,w,_,h,hr=>h.elim
 | c::l,n,k,st,a,w,hl,h,hr=>by
   obtain ⟨o,ho,hco⟩:=hl 0 c rfl
   rw [Nat.add_zero] at ho
   rw [List.length_cons,List.range'_succ,List.cons_append]
   unfold wpOpsIn
   simp only [ho]
   obtain ⟨h1,h2⟩:=zv1 hco
   rcases zv0 h with ⟨args,hgd,htg,hp⟩ | ⟨m,st',hs,hm⟩
   ·have hw:Region.wanted o (yielded ops a.tmps)=true:=zmo h2 hgd hr
    rw [hw]
    simp only [if_true]
    exact zzs hpf hS h1 htg hp (zvz h1 htg) hr hQ
   ·exact zpx hcf hS hco hs hr fun a' w' hr'=>z56 hcf hpf hS hQ l m (k+1) st' a' w' (fun j c' hj=>by
     have:=hl (j+1) c' (by simpa using hj)
     rwa [Nat.add_assoc,Nat.add_comm 1 j]) hm hr'
theorem yb7 {f:FuncId} {kl:List Nat} {q:ThrS} {g:Nat→BT} {cs:List COper} {s:St} {k:Nat}:∀ (l:List Nat),PanT cf pf kl f (mkA g cs l) k s q→∀ j∈l,(∃ s',stepG cf s (atD cs j)=some s'∧∃ k',PanT cf pf kl f (g j) k' s' q)∨∃ args,zbp s (atD cs j).g=some true∧zaj s (atD cs j).op=some (f,args)∧zcn pf kl s f args q:=by
 have one:∀ j,PanS cf pf kl f (atD cs j) k s q (fun k st'=>PanT cf pf kl f (g j) k st' q)→(∃ s',stepG cf s (atD cs j)=some s'∧∃ k',PanT cf pf kl f (g j) k' s' q)∨∃ args,zbp s (atD cs j).g=some true∧zaj s (atD cs j).op=some (f,args)∧zcn pf kl s f args q:=fun j h=>by
  rcases zv0 h with h | ⟨k',st',hs,hm⟩
  ·exact .inr h
  ·exact .inl ⟨st',hs,k',hm⟩
 intro l
 induction l with
 | nil=>intro _ j hj;cases hj
 | cons i l ih =>
   intro h j hj
   cases l with
   | nil =>
     simp only [mkA,PanT] at h
     obtain rfl:j=i:=by simpa using hj
     exact one j h
   | cons i2 l =>
     simp only [mkA,PanT] at h
     rcases List.mem_cons.1 hj with rfl | hj
     ·exact one j h.1
     ·exact ih h.2 j hj
theorem zv2 {s1:St} {c:COp} (h:∀ x∈c.xs,x.ev s1.sl=x.ev st.sl):zaj s1 c=zaj st c:=by
 unfold zaj
 cases c<;>try rfl
 case call f args =>
  have:(args.map fun x=>(x.ev s1.sl).weak)=args.map fun x=>(x.ev st.sl).weak:=List.map_congr_left fun x hx=>by rw [h x (by simp [COp.xs,hx])]
  simp only [this]
 case callv g args =>
  have:(args.map fun x=>(x.ev s1.sl).weak)=args.map fun x=>(x.ev st.sl).weak:=List.map_congr_left fun x hx=>by rw [h x (by simp [COp.xs,hx])]
  simp only [this,h g (by simp [COp.xs])]
theorem z1y (hm:P.follows .mixedOrders=true) (hcf:zbv P Γ cf) (hpf:zm1 P Γ pf) (hS:Good Γ S) {id:Nat} {ops:Array Oper} {q:List COper × List COper} (hc:zkw P S.nt ops false=some q) {f:FuncId} {k:Nat} {kl:List Nat} {x:ThrS} (h2:zdl cf pf kl f q.2 k st x)
 (hr:Rl P S st a w) {Q:Exit→Act→World→Prop} (hQ:∀ a' w',Rl P S (zkf kl x) a' w'→Q (.panic (entry x.1)) a' w'):(Code.region id ops false).wpIn (fw r) 0 P Q a w:=by
 unfold zkw at hc
 obtain ⟨cs,hcs,hc⟩:=qb hc
 obtain ⟨hlen,hget⟩:=zi3 hcs
 have hco:∀ (j:Nat) (c:COper),cs[j]? =some c→∃ o,ops[j]? =some o∧zgz P S.nt ops (ops.toList.filterMap zoh) o=some c:=fun j c hj=>by
  obtain ⟨o,k1,k2⟩:=hget j c hj
  exact ⟨o,by rw [← Array.getElem?_toList];exact k1,k2⟩
 simp only [Bool.false_eq_true,if_false,Option.some.injEq] at hc
 subst hc
 refine wpIn_region ?_
 have:=z56 (r:=r) (rest:=[]) hcf hpf hS (Q:=Q) hQ cs k 0 st a w (fun j c hj=>by rw [Nat.zero_add];exact hco j c hj) h2 hr
 rw [List.append_nil,hlen,Array.length_toList,← List.range_eq_range'] at this
 exact this
theorem zx4 (hm:P.follows .mixedOrders=true) (hcf:zbv P Γ cf) (hpf:zm1 P Γ pf) (hS:Good Γ S) {id:Nat} {ops:Array Oper} {qs:List FuncId} {q:List COper × BT} (hc:zlg P qs S.nt ops=some q) {stk:St} (h1:evQ cf q.1 st=some stk) {f:FuncId} {k:Nat} {kl:List Nat} {x:ThrS} (h2:PanT cf pf kl f q.2 k stk x)
 (hkl:(q.1.all fun o=>match o.dst with | some d=>!kl.contains d | none=>true)=true) (hal:st.al=[]) (hr:Rl P S st a w) {Q:Exit→Act→World→Prop} (hQ:∀ a' w',Rl P S (zkf kl x) a' w'→Q (.panic (entry x.1)) a' w'):(Code.region id ops true).wpIn (fw r) 0 P Q a w:=by
 unfold zlg at hc
 obtain ⟨cs,hcs',hc⟩:=qb hc
 obtain ⟨cs0,hcs,hcse⟩:=qm hcs'
 obtain ⟨hlen,hget⟩:=zi3 hcs
 split at hc
 case isFalse=>cases hc
 rename_i hok
 cases hc
 refine wpIn_region_any hm ?_
 have hr':Rl P S st a { w with drawn:=w.drawn+1 }:=by
  obtain ⟨Fr,β,R,hl⟩:=hr
  have hb:Below w.heap.size w { w with drawn:=w.drawn+1 }:=⟨rfl,rfl,rfl,Nat.le_refl _,fun _ _=>rfl⟩
  obtain ⟨R',hl'⟩:=R.grow hb (Fr':=Fr) (fun _ _=>rfl)
  exact ⟨Fr,β,R',hl.trans hl'⟩
 refine zu8 hcf hS (ali:=ops.toList.filterMap zoh) hok (fun j c hj=>by
  rw [← hcse,List.getElem?_map] at hj
  obtain ⟨c0,hj2,rfl⟩:=qm hj
  obtain ⟨o,k1,k2⟩:=hget j c0 hj2
  exact ⟨o,by rw [← Array.getElem?_toList];exact k1,z3n k2⟩) hal h1 (TP:=fun t s=>∃ k,PanT cf pf kl f t k s x) (Dies:=fun j s=>∃ args,zbp s (atD cs j).g=some true∧zaj s (atD cs j).op=some (f,args)∧zcn pf kl s f args x)
  (fun g s l h j hj=>by obtain ⟨k,h⟩:=h;exact yb7 l h j hj) (fun s a w h _=>by obtain ⟨k,h⟩:=h;exact h.elim) ?_ ⟨k,h2⟩ hr'
 rintro j s ⟨args,hgd,htg,hp⟩ s1 o a w K hrd hks hbx hcl hco hr1
 have hxs:∀ y∈(atD cs j).op.xs,y.ev s1.sl=y.ev s.sl:=fun y hy=>zpy fun i hi=>hrd i (by
  unfold COper.reads
  exact List.mem_append_left _ (List.mem_flatMap.2 ⟨y,hy,hi⟩))
 have hgd1:zbp s1 (atD cs j).g=some true:=by
  rw [← hgd]
  unfold zbp
  cases hg:(atD cs j).g with
  | none=>rfl
  | some gw =>
    obtain ⟨sl,want⟩:=gw
    dsimp only
    rw [hrd sl (by unfold COper.reads;rw [hg];simp)]
 have htg1:zaj s1 (atD cs j).op=some (f,args):=by rw [zv2 hxs];exact htg
 have hp1:zcn pf kl s1 f args x:=by
  unfold zcn at hp ⊢
  rw [hbx,hcl]
  refine ⟨hp.1.trans (List.map_congr_left fun y hy=>(hks y fun i hi e=>?_).symm),hp.2⟩
  have:=List.all_eq_true.1 hkl (atD cs i) (List.mem_map.2 ⟨i,hi,rfl⟩)
  rw [e] at this
  simp [hy] at this
 rcases hco with hco | ⟨y,e3,_⟩ | ⟨y,z,e1,_,e3,_⟩
 ·obtain ⟨k1,k2⟩:=zv1 hco
  rw [zmo k2 hgd1 hr1]
  simp only [if_true]
  exact zzs hpf hS k1 htg1 hp1 (zvz k1 htg1) hr1 hQ
 ·rw [e3] at htg;cases htg
 ·rw [e3] at htg;cases htg
theorem z57 (hcf:zbv P Γ cf) (hpf:zm1 P Γ pf) (hS:Good Γ S) {f k:Nat} {live:List Nat} {g:Operand} {ps:Array Tmp} {az b:Code} {y:X} (hy:coX g=some y) (hat:rangeAt P f k=some (g,ps,az,b)) (hfn:∃ fn,P.funcs[f]? =some fn∧S.nt=fn.ntmps)
 (hrd:∀ l,r=some l→∃ rec,S.sw.heap[l]? =some (Obj.loop rec)) {kl:List Nat} {x:ThrS} (he:zk4 pf kl f k live (y.ev st.sl) st x) (hr:Rl P S st a w) {Q:Exit→Act→World→Prop} (hQ:∀ a' w',Rl P S (zkf kl x) a' w'→Q (.panic (entry x.1)) a' w'):(Code.rangeFunc g ps az b).wpIn (fw r) 0 P Q a w:=by
 obtain ⟨Fr,β,R,hl⟩:=hr
 unfold zk4 at he
 split at he
 case h_2=>exact he.elim
 rename_i h caps e1
 obtain ⟨hne,hk,h1⟩:=he
 have hx:=zbl R.sl hy
 rw [e1] at hx
 simp only [Rd] at hx
 obtain ⟨cvs,hxv,hcr⟩:=hx
 refine wpIn_rangeFunc fun fr _=>?_
 obtain ⟨l,mk,w1,df,k1,hb,k2,k3,k4⟩:=zp5 (P:=P) (w:=w) (fr:=fr) (tmps:=a.tmps) (ps:=ps) (az:=az) (b:=b) (r:=r) fun l0 e=>by
  obtain ⟨rec,hrec⟩:=hrd l0 e
  exact hl.lp _ _ hrec
 obtain ⟨R1,hl1⟩:=R.addBox (Fr':=upd Fr l 0) (l:=l) (cs:=(0,[.lp f k .ready live (live.map (look st.sl))])) hb (fun g h=>zj0 (Nat.lt_of_lt_of_le h k2)) k2 (by simp [upd]) fun hl1=>.inr ⟨f,k,.ready,live,_,rfl,_,k3,by
  obtain ⟨fn,q1,q2⟩:=hfn
  exact ⟨fn,q1,by rw [← q2];exact R.nt⟩,⟨g,hat⟩,⟨rfl,rfl⟩,fun i=>by
  have:look (live.zip (live.map (look st.sl))) i=if i∈live then look st.sl i else .unk:=by
   rw [← zj2 st.sl live i]
   congr 1
   rw [List.zip_map_right]
   clear h1 hQ
   induction live with
   | nil=>rfl
   | cons j l ih=>simp only [List.zip_cons_cons,List.map_cons];rw [ih];rfl
  rw [this];split
  ·exact (R.sl i).mono hl1
  ·simp [Rd]⟩
 have hbl:st.bx.length=β.length:=R.bx.1
 have R1':Rel P S.T S.base S.M S.w0 S.F0 S.nt { st with bx:=st.bx++[(0,[.lp f k .ready live (live.map (look st.sl))])] } { a with defers:=mk++a.defers } w1 (upd Fr l 0) (β++[l]):=by
  rcases k4 with rfl | ⟨D,rfl,k5,k6⟩
  ·exact R1
  ·refine R1.addMark (Nat.le_trans R.ge k5) k6 fun Ds' e hm=>?_
   obtain ⟨Ds,d1,d2,d3⟩:=R.df
   rw [d2] at e
   rw [← zml e] at hm
   have:=(Array.getElem?_eq_some_iff.1 (d3 D hm).2).1
   omega
 have hbox:(β++[l])[st.bx.length]? =some l:=by rw [hbl,List.getElem?_append_right (Nat.le_refl _)];simp
 have hargs:Rds w1 (upd Fr l 0) (β++[l]) (.yld st.bx.length::caps) (.func (.yield l) #[] #[]::cvs):=by
  simp only [Rds]
  exact ⟨_,_,rfl,by simp only [Rd];exact ⟨l,hbox,rfl⟩,Rds.mono hl1 _ _ hcr⟩
 have hnp:zcb (.yld st.bx.length::caps)=false:=rfl
 have hen:=zzr hpf (S:={ S with sw:=w1,sF:=upd Fr l 0,sβ:=β++[l] }) (f:=h) (args:=.yld st.bx.length::caps) (q:=x) (by unfold zcn;rw [hnp];exact ⟨hk,h1⟩) R1' (Le.refl _ _ _) hargs (hS.at R1') hS.dis
 unfold Enters at hen
 rw [if_neg hne] at hen
 obtain ⟨hent,hcall⟩:=hen
 refine ⟨l,mk,w1,{ target:=.fn (.func h) cvs.toArray,args:=#[.func (.yield l) #[] #[]] },w1,h,(.func (.yield l) #[] #[]::cvs).toArray,w1,k1,?_,fun _ _=>trivial,?_,(fun h=>by cases h),?_⟩
 ·have:a.eval g=.func (.func h) #[] cvs.toArray:=hxv
  simp only [rangeCall,resolve,this,Deferred.ofValue,Sem.run_bind,Sem.run_pure]
  simp [Act.eval]
 ·have:=zil (P:=P) (w:=w1) hent (args:=(.func (.yield l) #[] #[]::cvs).toArray)
  rw [← this]
  simp only [invoke]
  congr 2
  apply Array.ext';simp
 ·refine zo3.2 (hcall.mono fun e w3 hq=>?_)
  obtain ⟨rfl,Fr3,β3,R3,hl3⟩:=hq
  simp only [rangePost]
  exact hQ _ _ ⟨Fr3,β3,R3,(hl.trans hl1).trans hl3⟩
theorem zv3 (hm:P.follows .mixedOrders=true) (hcf:zbv P Γ cf) (hpf:zm1 P Γ pf) (hS:Good Γ S) {n:Nat} {kl:List Nat} {qs:List FuncId} {f:Nat} (hfn:∃ fn,P.funcs[f]? =some fn∧S.nt=fn.ntmps) (hrd:∀ l,r=some l→∃ rec,S.sw.heap[l]? =some (Obj.loop rec)) :
 ∀ (code:Code) (k0:Nat) (lv:List (List Nat)) (c:CCode) (lv':List (List Nat)),zbk P qs f S.nt k0 lv code=some (c,lv')→(∀ j q,(zap code)[j]? =some q→rangeAt P f (k0+j)=some q)→∀ (rt:Rt) (st:St) (x:ThrS) (a:Act) (w:World) (Q:Exit→Act→World→Prop),
 PanC cf pf kl n c rt st x→st.al=[]→Rl P S st a w→(∀ a' w',Rl P S (zkf kl x) a' w'→Q (.panic (entry x.1)) a' w')→code.wpIn (fw r) 0 P Q a w:=by
 have stop:∀ {rt:Rt} {st:St} {x:ThrS},PanC cf pf kl n z05 rt st x→False:=fun {rt st x} h=>by
  unfold z05 at h
  simp only [PanC,X.ev] at h
 intro code
 induction code with
 | skip =>
   intro k0 lv c lv' hc hra rt st x a w Q he _ hr hQ
   simp only [zbk] at hc;cases hc
   cases rt<;>exact he.elim
 | region id ops draw =>
   intro k0 lv c lv' hc hra rt st x a w Q he hal hr hQ
   cases lv with
   | nil=>simp only [zbk] at hc;cases hc;exact (stop he).elim
   | cons l lv =>
     simp only [zbk] at hc
     split at hc
     case h_2=>cases hc;exact (stop he).elim
     rename_i c0 hc0
     cases hc
     unfold ye4 at hc0
     have viaT:∀ q:List COper × BT,zlg P qs S.nt ops=some q→draw=true→CCode.regT l q.1 q.2=c→(Code.region id ops draw).wpIn (fw r) 0 P Q a w:=fun q hq hd hc=>by
      cases hc
      subst hd
      cases rt with
      | op g k =>
        simp only [PanC] at he
        obtain ⟨hkl,he⟩:=he
        split at he
        ·rename_i s h1
         exact zx4 hm hcf hpf hS hq h1 he hkl hal hr hQ
        ·exact he.elim
      | _=>exact he.elim
     split at hc0
     ·rename_i hb
      obtain ⟨q,hq,hc⟩:=qm hc0
      simp only [Bool.and_eq_true] at hb
      exact viaT q hq hb.1 hc
     split at hc0
     ·rename_i q hq
      cases hc0
      obtain ⟨pre,tail⟩:=q
      cases rt with
      | op g k =>
        cases pre with
        | cons p pre=>exact he.elim
        | nil =>
          simp only [PanC] at he
          cases draw with
          | false=>exact z1y hm hcf hpf hS hq he hr hQ
          | true =>
            exfalso
            unfold zkw at hq
            obtain ⟨cs,hcs,hq⟩:=qb hq
            obtain ⟨hlen,_⟩:=zi3 hcs
            simp only [if_true] at hq
            obtain ⟨k',hk,hq⟩:=qm hq
            have hmem:=List.mem_of_find?_eq_some hk
            rw [List.mem_range'] at hmem
            obtain ⟨i,hi,rfl⟩:=hmem
            simp only [Prod.mk.injEq] at hq
            have h0:=congrArg List.length hq.1
            rw [List.length_take,List.length_zipWith] at h0
            simp only [List.length_nil] at h0
            omega
      | _=>cases pre<;>exact he.elim
     ·split at hc0
      ·rename_i hd
       obtain ⟨q,hq,hc⟩:=qm hc0
       exact viaT q hq hd hc
      ·cases hc0
 | seq y z ihx ihy =>
   intro k0 lv c lv' hc hra rt st x a w Q he hal hr hQ
   simp only [zbk] at hc
   obtain ⟨⟨c1,l1⟩,h1,hc⟩:=qb hc
   obtain ⟨⟨c2,l2⟩,h2,hc⟩:=qm hc
   cases hc
   have hra1:∀ j q,(zap y)[j]? =some q→rangeAt P f (k0+j)=some q:=fun j q hj=>hra j q (by simp only [zap];rw [List.getElem?_append_left (qg hj).1];exact hj)
   have hra2:∀ j q,(zap z)[j]? =some q→rangeAt P f (k0+(zap y).length+j)=some q:=fun j q hj=>by
    have:=hra ((zap y).length+j) q (by simp only [zap];rw [List.getElem?_append_right (by omega)];simpa using hj)
    rwa [← Nat.add_assoc] at this
   cases rt with
   | l rt =>
     refine wpIn_seq (ihx k0 lv c1 l1 h1 hra1 rt st x a w _ he hal hr fun a' w' hr'=>?_)
     exact hQ _ _ hr'
   | r rt =>
     simp only [PanC] at he
     split at he
     ·rename_i s1 h3
      have ha1:=zlh c1 st _ s1 h3 hal
      refine wpIn_seq (ze8 hm hcf hS hfn hrd y k0 lv c1 l1 h1 hra1 st s1 .normal a w _ h3 hal hr fun a' w' hr'=>?_)
      exact ihy _ l1 c2 l2 h2 hra2 rt s1 x a' w' Q he ha1 hr' hQ
     ·exact he.elim
   | _=>exact he.elim
 | cond y a1 b1 iha ihb =>
   intro k0 lv c lv' hc hra rt st x a w Q he hal hr hQ
   simp only [zbk] at hc
   obtain ⟨z,hy,hc⟩:=qb hc
   obtain ⟨⟨c1,l1⟩,h1,hc⟩:=qb hc
   obtain ⟨⟨c2,l2⟩,h2,hc⟩:=qm hc
   cases hc
   simp only [PanC] at he
   split at he
   ·rename_i t e1
    have hr0:=hr
    obtain ⟨Fr,β,R,hl⟩:=hr
    have hx:=zbl R.sl hy
    rw [e1] at hx
    obtain ⟨hx,_⟩:=zbe hx
    refine wpIn_cond hx ?_
    cases t with
    | true =>
      simp only [if_true] at he ⊢
      exact iha k0 lv c1 l1 h1 (fun j q hj=>hra j q (by simp only [zap];rw [List.getElem?_append_left (qg hj).1];exact hj)) rt st x a w Q he hal hr0 hQ
    | false =>
      simp only [Bool.false_eq_true,if_false] at he ⊢
      exact ihb _ l1 c2 l2 h2 (fun j q hj=>by
       have:=hra ((zap a1).length+j) q (by simp only [zap];rw [List.getElem?_append_right (by omega)];simpa using hj)
       rwa [← Nat.add_assoc] at this) rt st x a w Q he hal hr0 hQ
   ·exact he.elim
 | block id b ih =>
   intro k0 lv c lv' hc hra rt st x a w Q he hal hr hQ
   simp only [zbk] at hc
   obtain ⟨⟨c1,l1⟩,h1,hc⟩:=qm hc
   cases hc
   simp only [PanC] at he
   refine wpIn_block (ih k0 lv c1 l1 h1 hra rt st x a w _ he hal hr fun a' w' hr'=>?_)
   exact hQ _ _ hr'
 | loop b ih =>
   intro k0 lv c lv' hc hra rt st x a w Q he hal hr hQ
   cases lv with
   | nil=>simp only [zbk] at hc;cases hc;exact (stop he).elim
   | cons l lv =>
     simp only [zbk] at hc
     obtain ⟨⟨c1,l1⟩,h1,hc⟩:=qm hc
     cases hc
     cases rt with
     | lp m rt =>
       simp only [PanC] at he
       have hnb:S.sβ.length≤st.bx.length:=by
        obtain ⟨Fr,β,R,hl⟩:=hr
        rw [R.bx.1];exact z3o hl
       intro bf k cs hbf hff hrm
       have key:∀ (m:Nat) (s:St) (a:Act) (w:World),zdm (evC cf n c1) (fun s=>PanC cf pf kl n c1 rt s x) l st.bx.length m s→s.al=[]→Rl P S s a w→∃ e a' w',Q e a' w'∧ArrivesIn (Machine.fenced P (fw r)) P (lone (bf.atR a (.code b::.inLoop b::k)) cs w) bf k cs e a' w':=by
        intro m
        induction m with
        | zero =>
          intro s a w h hal hr
          obtain ⟨e,a1,w1,hq,harr⟩:=ih k0 lv c1 l1 h1 hra rt s x a w (fun e a' w'=>e=.panic (entry x.1)∧Rl P S (zkf kl x) a' w') h hal hr (fun a' w' hr'=>⟨rfl,hr'⟩) bf (.inLoop b::k) cs hbf hff hrm
          obtain ⟨rfl,hr1⟩:=hq
          exact ⟨_,a1,w1,hQ a1 w1 hr1,.pass (x:=.inLoop b) rfl (fun _ _=>.inl (by simp)) harr⟩
        | succ m ihm =>
          intro s a w h hal hr
          simp only [zdm] at h
          split at h
          ·rename_i s1 h3
           obtain ⟨e,a1,w1,hq,harr⟩:=ze8 hm hcf hS hfn hrd b k0 lv c1 l1 h1 hra s s1 .normal a w (fun e a' w'=>e=.normal∧Rl P S s1 a' w') h3 hal hr (fun a' w' hr'=>⟨rfl,hr'⟩) bf (.inLoop b::k) cs hbf hff hrm
           obtain ⟨rfl,hr1⟩:=hq
           obtain ⟨e2,a2,w2,hq2,harr2⟩:=ihm _ a1 w1 h rfl (hr1.only l hnb)
           exact ⟨e2,a2,w2,hq2,.of_steps (StepsIn.trans harr (.one (fenced_calm hff hrm rfl) stepR_inLoop)) harr2⟩
          ·exact h.elim
       obtain ⟨e,a',w',hq,harr⟩:=key m _ a w he rfl (hr.only l hnb)
       exact ⟨e,a',w',hq,.of_steps (.one (fenced_calm hff hrm rfl) stepR_loop) harr⟩
     | _=>exact he.elim
 | exit id =>
   intro k0 lv c lv' hc hra rt st x a w Q he _ hr hQ
   cases lv with
   | nil=>simp only [zbk] at hc;cases hc;exact (stop he).elim
   | cons l lv=>simp only [zbk] at hc;cases hc;cases rt<;>exact he.elim
 | ret =>
   intro k0 lv c lv' hc hra rt st x a w Q he _ hr hQ
   cases lv with
   | nil=>simp only [zbk] at hc;cases hc;exact (stop he).elim
   | cons l lv=>simp only [zbk] at hc;cases hc;cases rt<;>exact he.elim
 | rangeFunc g ps az b _ _ =>
   intro k0 lv c lv' hc hra rt st x a w Q he hal hr hQ
   cases lv with
   | nil=>simp only [zbk] at hc;cases hc;exact (stop he).elim
   | cons l lv =>
     simp only [zbk] at hc
     obtain ⟨y,hy,hc⟩:=qm hc
     cases hc
     cases rt with
     | rg=>exact z57 hcf hpf hS hy (hra 0 _ rfl) hfn hrd he hr hQ
     | _=>exact he.elim
 | scope b _=>intro k0 lv c lv' hc hra rt st x a w Q he;simp only [zbk] at hc;cases hc;exact (stop he).elim
 | label l=>intro k0 lv c lv' hc hra rt st x a w Q he;simp only [zbk] at hc;cases hc;exact (stop he).elim
 | goto l=>intro k0 lv c lv' hc hra rt st x a w Q he;simp only [zbk] at hc;cases hc;exact (stop he).elim
 | refuse s=>intro k0 lv c lv' hc hra rt st x a w Q he;simp only [zbk] at hc;cases hc;exact (stop he).elim
end
section
variable {cf:Callee} {pf pf':zcr}
theorem zcn.mono (h:∀ f args bx oc q,pf f args bx oc q→pf' f args bx oc q) {st:St} {f:FuncId} {args:List PV} {kl:List Nat} {q:ThrS} (k:zcn pf kl st f args q):zcn pf' kl st f args q:=by
 unfold zcn at k ⊢
 obtain ⟨k0,k⟩:=k
 refine ⟨k0,?_⟩
 split
 ·rename_i hc
  rw [if_pos hc] at k
  obtain ⟨⟨bx,oc,k1⟩,k2⟩:=k
  exact ⟨⟨bx,oc,h _ _ _ _ _ k1⟩,k2⟩
 ·rename_i hc
  rw [if_neg hc] at k
  exact h _ _ _ _ _ k
theorem PanS.mono (h:∀ f args bx oc q,pf f args bx oc q→pf' f args bx oc q) {f:FuncId} {o:COper} {k:Nat} {st:St} {kl:List Nat} {q:ThrS} {K K':Nat→St→Prop} (hK:∀ k s,K k s→K' k s) (hp:PanS cf pf kl f o k st q K):PanS cf pf' kl f o k st q K':=by
 have next:∀ {m},(match stepG cf st o with | some st'=>K m st' | none=>False)→(match stepG cf st o with | some st'=>K' m st' | none=>False):=fun {m} hm=>by
  split at hm
  ·exact hK _ _ hm
  ·exact hm.elim
 unfold PanS at hp ⊢
 split at hp
 ·split at hp
  ·split at hp
   ·rename_i hgf
    rw [if_pos hgf]
    split at hp
    ·exact hp.mono h
    ·exact next hp
   ·rename_i hgf
    rw [if_neg hgf];exact next hp
  ·exact next hp
 ·exact next hp
theorem zdl.mono (h:∀ f args bx oc q,pf f args bx oc q→pf' f args bx oc q) {f:FuncId} {kl:List Nat} {q:ThrS}:∀ (l:List COper) (k:Nat) (st:St),zdl cf pf kl f l k st q→zdl cf pf' kl f l k st q
 | [],_,_,hp=>hp
 | o::r,k,st,hp=>PanS.mono h (fun k s=>zdl.mono h r k s) hp
theorem PanT.mono (h:∀ f args bx oc q,pf f args bx oc q→pf' f args bx oc q) {f:FuncId} {kl:List Nat} {q:ThrS}:∀ (t:BT) (k:Nat) (st:St),PanT cf pf kl f t k st q→PanT cf pf' kl f t k st q
 | .done,_,_,hp=>hp
 | .one o t,k,st,hp=>PanS.mono h (fun k s=>PanT.mono h t k s) hp
 | .two o t r,k,st,hp=>⟨PanS.mono h (fun k s=>PanT.mono h t k s) hp.1,PanT.mono h r k st hp.2⟩
theorem zdm.mono {body:St→Option (Out × St)} {p p':St→Prop} (h:∀ s,p s→p' s) {live:List Nat} {nb:Nat}:∀ (n:Nat) (st:St),zdm body p live nb n st→zdm body p' live nb n st
 | 0,st,k=>h st k
 | n+1,st,k=>by
   unfold zdm at k ⊢
   split at k
   ·exact zdm.mono h n _ k
   ·exact k.elim
theorem PanC.mono (h:∀ f args bx oc q,pf f args bx oc q→pf' f args bx oc q) {n:Nat} {kl:List Nat} {q:ThrS}:∀ (c:CCode) (rt:Rt) (st:St),PanC cf pf kl n c rt st q→PanC cf pf' kl n c rt st q:=by
 intro c
 induction c with
 | reg live pre tail =>
   intro rt st k
   cases rt with
   | op f i=>cases pre with
     | nil=>exact zdl.mono h _ _ _ k
     | cons p pre=>exact k.elim
   | _=>cases pre<;>exact k.elim
 | regT live pre t =>
   intro rt st k
   cases rt with
   | op f i =>
     simp only [PanC] at k ⊢
     refine ⟨k.1,?_⟩
     have k:=k.2
     split at k
     ·exact PanT.mono h _ _ _ k
     ·exact k.elim
   | _=>exact k.elim
 | seq a b iha ihb =>
   intro rt st k
   cases rt with
   | l rt=>exact iha rt st k
   | r rt =>
     simp only [PanC] at k ⊢
     split at k
     ·exact ihb rt _ k
     ·exact k.elim
   | _=>exact k.elim
 | cond c a b iha ihb =>
   intro rt st k
   simp only [PanC] at k ⊢
   split at k
   ·rename_i t e
    cases t with
    | true=>exact iha rt st k
    | false=>exact ihb rt st k
   ·exact k.elim
 | block id b ih=>intro rt st k;exact ih rt st k
 | loop live b ih =>
   intro rt st k
   cases rt with
   | lp m rt=>exact zdm.mono (fun s=>ih rt s) _ _ k
   | _=>exact k.elim
 | range f i live g =>
   intro rt st k
   cases rt with
   | rg =>
     simp only [PanC] at k ⊢
     unfold zk4 at k ⊢
     split at k
     ·exact ⟨k.1,k.2.1,h _ _ _ _ _ k.2.2⟩
     ·exact k.elim
   | _=>exact k.elim
 | skip=>intro rt st k;cases rt<;>exact k.elim
 | exit id live=>intro rt st k;cases rt<;>exact k.elim
 | ret live=>intro rt st k;cases rt<;>exact k.elim
theorem PanC.depth {PF:Nat→zcr} (hm:∀ n m,n≤m→∀ f args bx oc q,PF n f args bx oc q→PF m f args bx oc q) {n:Nat} {kl:List Nat} {q:ThrS}:∀ (c:CCode) (rt:Rt) (st:St),PanC cf (fun f args bx oc q=>∃ m,PF m f args bx oc q) kl n c rt st q→∃ m,PanC cf (PF m) kl n c rt st q:=by
 have call:∀ {st f args},zcn (fun f args bx oc q=>∃ m,PF m f args bx oc q) kl st f args q→∃ m,zcn (PF m) kl st f args q:=fun {st f args} k=>by
  unfold zcn at k ⊢
  obtain ⟨k0,k⟩:=k
  split at k
  ·rename_i hc
   obtain ⟨⟨bx,oc,m,k1⟩,k2⟩:=k
   exact ⟨m,k0,by rw [if_pos hc];exact ⟨⟨bx,oc,k1⟩,k2⟩⟩
  ·rename_i hc
   obtain ⟨m,k⟩:=k
   exact ⟨m,k0,by rw [if_neg hc];exact k⟩
 have step:∀ {f o k st} {K:Nat→St→Prop} {K':Nat→Nat→St→Prop},(∀ k s,K k s→∃ m,K' m k s)→PanS cf (fun f args bx oc q=>∃ m,PF m f args bx oc q) kl f o k st q K→∃ m,PanS cf (PF m) kl f o k st q (K' m):=fun {f o k st K K'} hK hp=>by
  have next:∀ {j},(match stepG cf st o with | some st'=>K j st' | none=>False)→∃ m,(match stepG cf st o with | some st'=>K' m j st' | none=>False):=fun {j} hj=>by
   split at hj
   ·rename_i st' hs;obtain ⟨m,hk⟩:=hK _ _ hj;exact ⟨m,hk⟩
   ·exact hj.elim
  unfold PanS at hp ⊢
  split at hp
  ·rename_i hg
   split at hp
   ·rename_i g args ht
    split at hp
    ·rename_i hgf
     split at hp
     ·obtain ⟨m,hc⟩:=call hp;exact ⟨m,by rw [if_pos hgf];exact hc⟩
     ·obtain ⟨m,hc⟩:=next hp;exact ⟨m,by rw [if_pos hgf];exact hc⟩
    ·rename_i hgf
     obtain ⟨m,hc⟩:=next hp;exact ⟨m,by rw [if_neg hgf];exact hc⟩
   ·exact next hp
  ·exact next hp
 have ops:∀ (f:FuncId) (l:List COper) (k:Nat) (st:St),zdl cf (fun f args bx oc q=>∃ m,PF m f args bx oc q) kl f l k st q→∃ m,zdl cf (PF m) kl f l k st q:=by
  intro f l
  induction l with
  | nil=>intro k st h;exact h.elim
  | cons o r ih=>intro k st h;exact step (K':=fun m k s=>zdl cf (PF m) kl f r k s q) (fun k s h=>ih k s h) h
 have tree:∀ (f:FuncId) (t:BT) (k:Nat) (st:St),PanT cf (fun f args bx oc q=>∃ m,PF m f args bx oc q) kl f t k st q→∃ m,PanT cf (PF m) kl f t k st q:=by
  intro f t
  induction t with
  | done=>intro k st h;exact h.elim
  | one o t ih=>intro k st h;exact step (K':=fun m k s=>PanT cf (PF m) kl f t k s q) (fun k s h=>ih k s h) h
  | two o t r iht ihr =>
    intro k st h
    obtain ⟨m1,h1⟩:=step (K':=fun m k s=>PanT cf (PF m) kl f t k s q) (fun k s h=>iht k s h) h.1
    obtain ⟨m2,h2⟩:=ihr k st h.2
    exact ⟨max m1 m2,PanS.mono (hm m1 _ (Nat.le_max_left _ _)) (fun k s=>PanT.mono (hm m1 _ (Nat.le_max_left _ _)) t k s) h1,PanT.mono (hm m2 _ (Nat.le_max_right _ _)) r k st h2⟩
 intro c
 induction c with
 | reg live pre tail =>
   intro rt st k
   cases rt with
   | op f i=>cases pre with
     | nil=>exact ops _ _ _ _ k
     | cons p pre=>exact k.elim
   | _=>cases pre<;>exact k.elim
 | regT live pre t =>
   intro rt st k
   cases rt with
   | op f i =>
     simp only [PanC] at k ⊢
     obtain ⟨k0,k⟩:=k
     split at k
     ·obtain ⟨m,hm⟩:=tree _ _ _ _ k;exact ⟨m,k0,hm⟩
     ·exact k.elim
   | _=>exact k.elim
 | seq a b iha ihb =>
   intro rt st k
   cases rt with
   | l rt=>exact iha rt st k
   | r rt =>
     simp only [PanC] at k ⊢
     split at k
     ·exact ihb rt _ k
     ·exact k.elim
   | _=>exact k.elim
 | cond c a b iha ihb =>
   intro rt st k
   simp only [PanC] at k ⊢
   split at k
   ·rename_i t e
    cases t with
    | true=>exact iha rt st k
    | false=>exact ihb rt st k
   ·exact k.elim
 | block id b ih=>intro rt st k;exact ih rt st k
 | loop live b ih =>
   intro rt st k
   cases rt with
   | lp m rt =>
     simp only [PanC] at k ⊢
     obtain ⟨s0,hs0⟩:∃ s0,st.only live st.bx.length=s0:=⟨_,rfl⟩
     rw [hs0] at k ⊢
     clear hs0
     induction m generalizing s0 with
     | zero=>exact ih rt s0 k
     | succ m ihm =>
       unfold zdm at k
       split at k
       ·rename_i s1 h1
        obtain ⟨j,hj⟩:=ihm _ k
        exact ⟨j,by unfold zdm;rw [h1];exact hj⟩
       ·exact k.elim
   | _=>exact k.elim
 | range f i live g =>
   intro rt st k
   cases rt with
   | rg =>
     simp only [PanC] at k ⊢
     unfold zk4 at k ⊢
     split at k
     ·obtain ⟨h1,h0,m,h2⟩:=k
      exact ⟨m,h1,h0,h2⟩
     ·exact k.elim
   | _=>exact k.elim
 | skip=>intro rt st k;cases rt<;>exact k.elim
 | exit id live=>intro rt st k;cases rt<;>exact k.elim
 | ret live=>intro rt st k;cases rt<;>exact k.elim
variable {code:FuncId→Option CFun} {n0:Nat} {plib:zcr}
theorem PanF.succ:∀ (n:Nat) (f:FuncId) (args:List PV) (bx:zao) (oc:List Loc) (q:Thr),PanF code cf n0 plib n f args bx oc q→PanF code cf n0 plib (n+1) f args bx oc q
 | 0,_,_,_,_,_,h=>h.elim
 | n+1,f,args,bx,oc,q,h=>by
   unfold PanF at h ⊢
   split
   ·rename_i hc;rw [hc] at h;exact h
   ·rename_i c hc
    rw [hc] at h
    obtain ⟨h1,rt,q0,h2,h3⟩:=h
    exact ⟨h1,rt,q0,PanC.mono (PanF.succ n) _ _ _ h2,h3⟩
theorem PanF.le {n m:Nat} (h:n≤m):∀ (f:FuncId) (args:List PV) (bx:zao) (oc:List Loc) (q:Thr),PanF code cf n0 plib n f args bx oc q→PanF code cf n0 plib m f args bx oc q:=by
 induction h with
 | refl=>exact fun _ _ _ _ _ h=>h
 | step _ ih=>exact fun f args bx oc q h=>PanF.succ _ _ _ _ _ _ (ih f args bx oc q h)
theorem yic {f:FuncId} {c:CFun} (hc:code f=some c) {args:List PV} {bx:zao} {oc:List Loc} (hl:args.length≤c.nt) (rt:Rt) {q0:ThrS} (h:PanC cf (PanW code cf n0 plib) [] n0 c.body rt { sl:=zfi 0 args,ow:=oc,al:=[],bx:=bx } q0) {O:List Loc} (hO:∀ L∈O,L∈zbq (trim bx.length [] q0.2.2.1).length q0.2.2.2) :
 PanW code cf n0 plib f args bx oc (q0.1,trim bx.length [] q0.2.2.1,O):=by
 obtain ⟨m,hm⟩:=PanC.depth (PF:=PanF code cf n0 plib) (fun n m h=>PanF.le h) _ _ _ h
 exact ⟨m+1,by unfold PanF;rw [hc];exact ⟨hl,rt,q0,hm,rfl,rfl,hO⟩⟩
theorem yb8 {f:FuncId} (hc:code f=none) (hf:f≠yldF) {args:List PV} {bx:zao} {oc:List Loc} {q:Thr} (h:plib f args bx oc q):PanW code cf n0 plib f args bx oc q:=⟨1,by unfold PanF;rw [hc];exact ⟨hf,h⟩⟩
end
section
variable {P:Program} {Γ:Glob} {cf:Callee}
theorem yid (hm:P.follows .mixedOrders=true) (hyn:P.funcs[yldF]? =none) {code:FuncId→Option CFun} (hcode:∀ f c,code f=some c→∃ lv,zp4 P lv f=some c) (hcf:zbv P Γ cf) {n0:Nat} {plib:zcr} (hplib:zm1 P Γ plib):∀ n,zm1 P Γ (PanF code cf n0 plib n):=by
 intro n
 induction n with
 | zero=>intro f args bx oc q h;exact h.elim
 | succ n ih =>
   intro f args bx oc q h
   unfold PanF at h
   split at h
   ·exact hplib f args bx oc q h.2
   ·rename_i c hcc0
    obtain ⟨hlen,rt,q0,hev,hq⟩:=h
    obtain ⟨v,qb,qo⟩:=q
    obtain ⟨rfl,rfl,hO⟩:=hq
    dsimp only at hO
    obtain ⟨lv,hco⟩:=hcode f c hcc0
    unfold zp4 at hco
    split at hco
    case h_2=>cases hco
    rename_i fn hfn
    split at hco
    case h_2=>cases hco
    rename_i body hbody
    split at hco
    case isFalse=>cases hco
    rename_i hname
    obtain ⟨⟨cc,lv'⟩,hcc,hco⟩:=qb hco
    obtain ⟨rg,hrg,hco⟩:=qb hco
    obtain ⟨rs,hrs,rfl⟩:=qm hco
    dsimp only at hev hlen
    intro w Fr β vs hp
    refine enters_of (by unfold zgq;rw [hfn];simp only [hname,hbody,Option.isSome_some,Bool.and_self]) (fun e=>by rw [e,hyn] at hfn;cases hfn) ?_
    have hS:Good Γ ⟨w.heap.size,zel w β oc,w,Fr,fn.ntmps,w,Fr,β,[]⟩:=⟨hp.g,fun g hg=>⟨Γ.lt w hp.g g hg,hp.dis g hg⟩⟩
    have R0:=zmr (nt:=fn.ntmps) hp hlen
    refine callsIn_wide.1 (callsIn_of_wp_marks (n:=0) hfn hbody trivial ?_)
    refine zv3 (r:=none) hm hcf ih hS (f:=f) ⟨fn,hfn,rfl⟩ (fun l e=>by cases e) body 0 lv.main cc lv' hcc ?_ rt _ q0 _ w _ hev rfl ⟨Fr,β,R0,Le.refl _ _ _⟩ fun a' w' hr'=>?_
    ·intro j q hj
     unfold rangeAt
     rw [hfn]
     simp only [Option.bind_some,hbody,Nat.zero_add]
     exact hj
    ·have hr0:=hr'
     obtain ⟨Fr',β',R',hl'⟩:=hr0
     obtain ⟨Ds,d1,d2,d3⟩:=R'.df
     show LeavesInM _ _ _ _ _ _ a'.defers _ _
     rw [d2]
     refine zim (by simp [entry]) Ds a' w' d2 hr' fun a2 w2 hr2 _ _=>?_
     unfold LeavesInM LeavesIn
     obtain ⟨Fr2,β2,R2,hl2⟩:=hr2
     have R3:=R2.cut0 (st':=zkf [] (q0.1,q0.2.1,q0.2.2.1,qo)) (fun i=>.inl (by simp [zkf,look])) rfl (fun L hL=>⟨(List.mem_filter.1 (hO L hL)).1,fun i e=>rfl⟩) rfl
     obtain ⟨β3,hpost⟩:=ztu (vs2:=[]) (v0:=.tuple #[]) (os:=false) (bx:=bx) hp.rel.bx.1 R3.bare hl2 (by simp [zd7,Rd,Rds]) (fun h=>by cases h) rfl rfl
     have e:zbq (trim bx.length [] q0.2.2.1).length qo=qo:=List.filter_eq_self.2 fun L hL=>(List.mem_filter.1 (hO L hL)).2
     exact ⟨rfl,Fr2,β3,by
      have h2:=hpost
      dsimp only [zkf] at h2
      rw [e] at h2
      exact h2⟩
theorem yie (hm:P.follows .mixedOrders=true) (hyn:P.funcs[yldF]? =none) {code:FuncId→Option CFun} (hcode:∀ f c,code f=some c→∃ lv,zp4 P lv f=some c) (hcf:zbv P Γ cf) {n0:Nat} {plib:zcr} (hplib:zm1 P Γ plib):zm1 P Γ (PanW code cf n0 plib):=fun f args bx oc q h=>by
 obtain ⟨n,hn⟩:=h
 exact yid hm hyn hcode hcf hplib n f args bx oc q hn
end
end Nun
namespace Nun
open Go Go.RowKit
structure DFun where
 nt:Nat
 res:List (Sum Nat (Nat × Bool × Nat))
 pre:CCode
 d:Nat
 g:FuncId
 caps:List X
 body:CCode
def zso (P:Program) (qs:List FuncId) (lv1 lv2:List (List Nat)) (f:FuncId):Option DFun:=match P.funcs[f]? with
 | some fn=>match fn.body with
   | some (.seq a (.seq (.region _ ops false) b))=>(match ops.toList with
     | [⟨some d,.makeFunc (.func g) first caps,_,_,_,none⟩,⟨none,.defer ⟨.value (.tmp d'),args,_⟩,_,_,_,none⟩] =>
       if fn.name != "runtime.NumGoroutine"∧zap a=[]∧zap b=[]∧d=d'∧first.size=0∧args=#[]∧d<fn.ntmps∧zgq P g=true then
        (coXs caps).bind fun cs=>(zbk P qs f fn.ntmps 0 lv1 a).bind fun p=>(zbk P qs f fn.ntmps 0 lv2 b).bind fun q=>(fn.results.toList.mapM (zp3 P)).map fun rs=>⟨fn.ntmps,rs,p.1,d,g,cs,q.1⟩
       else none
     | _=>none)
   | _=>none
 | none=>none
def DFun.mid (D:DFun) (s:St):St:=s.put D.d (.clo D.g (D.caps.map (·.ev s.sl)))
def finV (res:List (Sum Nat (Nat × Bool × Nat))) (n:Nat) (st:St):Option Ans:=(res.mapM (resV st)).map fun vs=>(vs,zmi res st.ow,trim n vs st.bx,zbq (trim n vs st.bx).length st.ow)
def EvD (cf:Callee) (n:Nat) (D:DFun) (args:List PV) (bx:zao) (oc:List Loc) (r:Ans):Prop :=
 args.length≤D.nt∧∃ o s1,evC cf n D.pre { sl:=zfi 0 args,ow:=oc,al:=[],bx }=some (o,s1) ∧
  match o with
  | .exit _=>False
  | .ret=>finV D.res bx.length s1=some r
  | .normal=>∃ o st,evC cf n D.body (D.mid s1)=some (o,st)∧(∀ i,o≠.exit i)∧finV D.res bx.length st=some r
def PanD (cf:Callee) (pf:zcr) (n:Nat) (fx:Value→List PV→zao→Option zao) (kl:List Nat) (D:DFun) (args:List PV) (bx:zao) (oc:List Loc) (r:Ans):Prop :=
 args.length≤D.nt∧∃ s1 rt q bx',evC cf n D.pre { sl:=zfi 0 args,ow:=oc,al:=[],bx }=some (.normal,s1)∧PanC cf pf kl n D.body rt (D.mid s1) q ∧
  fx q.1 (D.caps.map (·.ev s1.sl)) q.2.2.1=some bx'∧finV D.res bx.length ⟨kl.zip q.2.1,[],[],bx'⟩=some r
def yol (P:Program) (g n:Nat):Prop:=∀ (cvs:List Value) (w:World),cvs.length=n→CallsDIn Fence.wide 0 P g cvs.toArray .returning w fun e u' w'=>(∃ v,e=.returned v)∧u'=.returning∧w'=w
def z58 (P:Program) (g:FuncId) (fx:Value→List PV→zao→Option zao):Prop:=∀ (v:Value) (caps:List PV) (st:St) (bx':zao),fx v caps st.bx=some bx' →
 ∀ (T:List Deferred) (base:Nat) (M:Nat→Prop) (w0:World) (F0:Nat→Nat) (nt:Nat) (a:Act) (w:World) (Fr:Nat→Nat) (β:List Nat) (cvs:List Value),Rel P T base M w0 F0 nt st a w Fr β→Rds w Fr β caps cvs →
   CallsDIn Fence.wide 0 P g cvs.toArray (.panicking (entry v)) w fun e u' w'=>(∃ x,e=.returned x)∧settle u'=.returning∧∃ Fr',Rel P T base M w0 F0 nt ⟨st.sl,[],[],bx'⟩ a w' Fr' β∧Le w Fr β w' Fr' β
section
variable {P:Program} {w w':World} {Fr Fr':Nat→Nat} {β β':List Nat} {T:List Deferred} {base nt:Nat} {M:Nat→Prop} {w0:World} {F0:Nat→Nat} {st st':St} {a a':Act} {cf:Callee} {Γ:Glob} {S:S0}
def zqp (st:St) (a:Act) (w:World) (β:List Nat) (g:Nat):Prop:=g∈β∨∃ L∈st.ow,∃ v,zay a w β L=some v∧v.ownBlock=some g
theorem Rel.rebase (R:Rel P T base M w0 F0 nt st a w Fr β) (ds:List Deferred):Rel P ds w.heap.size (zqp st a w β) w Fr nt st { a with defers:=ds } w Fr β:=by
 have hv:∀ L,zay { a with defers:=ds } w β L=zay a w β L:=fun L=>by cases L<;>rfl
 exact ⟨R.sl,R.nt,⟨[],List.nodup_nil,rfl,fun D h=>by cases h⟩,R.bx,R.nd,fun L hL=>by rw [hv];exact R.own L hL,fun L hL L' hL' hne v v' g=>by rw [hv,hv];exact R.sep L hL L' hL' hne v v' g,fun L hL v g=>by rw [hv];exact R.out L hL v g,fun q hq=>by rw [hv];exact R.al q hq,
  fun g hg=>.inr (hg.imp id fun ⟨L,hL,v,k1,k2⟩=>⟨L,hL,v,by rw [← hv];exact k1,k2⟩),fun _ _ _=>⟨rfl,rfl⟩,Nat.le_refl _,rfl,rfl,rfl⟩
theorem Rel.back {T2 T3:List Deferred} {nt2:Nat} {st2:St} {a2:Act} {w2:World} {Fr2:Nat→Nat} {β2:List Nat} (R:Rel P T base M w0 F0 nt st a w Fr β) (R2:Rel P T2 w.heap.size (zqp st a w β) w Fr nt2 st2 a2 w2 Fr2 β2) {ds:List Deferred} (hD:Marks T3 base w2 ds) :
 Rel P T3 base M w0 F0 nt2 st2 { a2 with defers:=ds } w2 Fr2 β2:=by
 have hv:∀ L,zay { a2 with defers:=ds } w2 β2 L=zay a2 w2 β2 L:=fun L=>by cases L<;>rfl
 exact ⟨R2.sl,R2.nt,hD,R2.bx,R2.nd,fun L hL=>by rw [hv];exact R2.own L hL,fun L hL L' hL' hne v v' g=>by rw [hv,hv];exact R2.sep L hL L' hL' hne v v' g,fun L hL v g=>by rw [hv];exact R2.out L hL v g,fun q hq=>by rw [hv];exact R2.al q hq,
  fun g hg=>(R2.may g (hg.imp id fun ⟨L,hL,v,k1,k2⟩=>⟨L,hL,v,by rw [← hv];exact k1,k2⟩)).elim (fun h=>.inl (Nat.le_trans R.ge h)) (fun h=>R.may g h),
  fun b hb hM=>by
   obtain ⟨k1,k2⟩:=R2.old b (Nat.lt_of_lt_of_le hb R.ge) fun h=>(R.may b h).elim (fun h=>by omega) hM
   obtain ⟨k3,k4⟩:=R.old b hb hM
   exact ⟨k1.trans k3,k2.trans k4⟩,
  Nat.le_trans R.ge R2.ge,R2.os.trans R.os,R2.tape.trans R.tape,R2.output.trans R.output⟩
theorem Rel.marks {T2:List Deferred} {nt2:Nat} {st2:St} {a2:Act} {w2:World} {Fr2:Nat→Nat} {β2:List Nat} (R:Rel P T base M w0 F0 nt st a w Fr β) (R2:Rel P T2 w.heap.size (zqp st a w β) w Fr nt2 st2 a2 w2 Fr2 β2):Marks T base w2 a.defers:=by
 obtain ⟨Ds,d1,d2,d3⟩:=R.df
 refine ⟨Ds,d1,d2,fun D hD=>⟨(d3 D hD).1,?_⟩⟩
 have hD2:=(d3 D hD).2
 rw [(R2.old D (Array.getElem?_eq_some_iff.1 hD2).1 fun hm=>?_).1]
 ·exact hD2
 ·rcases hm with hm | ⟨L,hL,u,hu,hub⟩
  ·obtain ⟨ob,k1,k2⟩:=R.bx.at hm
   rw [hD2] at k1;cases k1
   exact k2 _ rfl
  ·obtain ⟨u',p,k1,_,n,cs,_,k2⟩:=R.own L hL
   rw [hu] at k1;cases k1
   rcases k2 with rfl | ⟨g',cap,cur,e,sz,rfl,k3,_⟩
   ·cases hub
   ·cases hub;rw [hD2] at k3;cases k3
theorem zv4 (hm:P.follows .mixedOrders=true) (hyn:P.funcs[yldF]? =none) (hcf:zbv P Γ cf) {n:Nat} {qs:List FuncId} {lv1 lv2:List (List Nat)} {f:FuncId} {D:DFun} (hD:zso P qs lv1 lv2 f=some D) {args:List PV} {bx:zao} {oc:List Loc} (hlen:args.length≤D.nt)
 {vs:List Value} (hp:Pre P Γ w Fr β args vs bx oc) {s1:St} (h1:evC cf n D.pre { sl:=zfi 0 args,ow:=oc,al:=[],bx }=some (.normal,s1)) {Q:Ending→World→Prop}
 (hbody:∀ (fn:Func) (b:Code) (lv':List (List Nat)),zgq P D.g=true→fn.ntmps=D.nt→(∃ fn,P.funcs[f]? =some fn∧D.nt=fn.ntmps)→zbk P qs f D.nt 0 lv2 b=some (D.body,lv')→zap b=[]→fn.results.toList.mapM (zp3 P)=some D.res→∀ (a1:Act) (w1:World) (Fr1:Nat→Nat) (β1:List Nat) (cvs:List Value),
   Rel P [] w.heap.size (zel w β oc) w Fr D.nt (D.mid s1) a1 w1 Fr1 β1→Le w Fr β w1 Fr1 β1→Rds w1 Fr1 β1 (D.caps.map (·.ev s1.sl)) cvs→(D.mid s1).al=[] →
   b.wpIn (fw none) 0 P (bodyPostM Fence.wide 0 P fn Q) { a1 with defers:={ target:=.fn (.func D.g) cvs.toArray,args:=#[] }::a1.defers } w1):Enters P f vs w Q:=by
 unfold zso at hD
 split at hD
 case h_2=>cases hD
 rename_i fn hfn
 split at hD
 case h_2=>cases hD
 rename_i a id ops b hbd
 split at hD
 case h_2=>cases hD
 rename_i d g first caps ty1 pos1 af1 d' dargs dats ty2 pos2 af2 hops
 split at hD
 case isFalse=>cases hD
 rename_i hcond
 obtain ⟨hname,hra,hrb,rfl,hfirst,rfl,hdn,hent⟩:=hcond
 obtain ⟨cs,hcs,hD⟩:=qb hD
 obtain ⟨⟨pc,lva⟩,hpc,hD⟩:=qb hD
 obtain ⟨⟨bc,lvb⟩,hbc,hD⟩:=qb hD
 obtain ⟨rs,hrs,rfl⟩:=qm hD
 dsimp only at h1 hbody hlen
 refine enters_of (by unfold zgq;rw [hfn];simp only [hname,hbd,Option.isSome_some,Bool.and_self]) (fun e=>by rw [e,hyn] at hfn;cases hfn) ?_
 have hS:Good Γ ⟨w.heap.size,zel w β oc,w,Fr,fn.ntmps,w,Fr,β,[]⟩:=⟨hp.g,fun g hg=>⟨Γ.lt w hp.g g hg,hp.dis g hg⟩⟩
 have R0:=zmr (nt:=fn.ntmps) hp hlen
 refine callsIn_wide.1 (callsIn_of_wp_marks (n:=0) hfn hbd trivial ?_)
 refine wpIn_seq (ze8 (r:=none) hm hcf hS (f:=f) ⟨fn,hfn,rfl⟩ (fun l e=>by cases e) a 0 lv1 pc lva hpc (by rw [hra];intro j q hj;cases hj) _ s1 .normal _ w _ h1 rfl ⟨Fr,β,R0,Le.refl _ _ _⟩ fun a1 w1 hr1=>?_)
 have hal1:=zlh pc _ _ s1 h1 rfl
 show Code.wpIn _ _ _ _ _ _ _
 have hops':ops=#[⟨some d,.makeFunc (.func g) first caps,ty1,pos1,af1,none⟩,⟨none,.defer ⟨.value (.tmp d),#[],dats⟩,ty2,pos2,af2,none⟩]:=by
  apply Array.ext';exact hops
 subst hops'
 refine wpIn_seq (wpIn_region ?_)
 have hrange:List.range (#[(⟨some d,.makeFunc (.func g) first caps,ty1,pos1,af1,none⟩:Oper),⟨none,.defer ⟨.value (.tmp d),#[],dats⟩,ty2,pos2,af2,none⟩]:Array Oper).size=[0,1]:=rfl
 rw [hrange]
 unfold wpOpsIn
 simp only [List.getElem?_toArray,List.getElem?_cons_zero,Region.wanted,if_true]
 have hsim:zce P (.makeFunc (.func g) first caps)=some (.clos g cs):=by
  simp only [zce,hfirst,if_true,hcs,Option.map_some]
 refine zpv (cf:=cf) (S:=⟨w.heap.size,zel w β oc,w,Fr,fn.ntmps,w,Fr,β,[]⟩) (st':=s1.put d (.clo g (cs.map (·.ev s1.sl)))) (c:=.clos g cs) hsim rfl (fun d' e=>by cases e;exact hdn) hr1 fun a2 w2 hr2=>?_
 unfold wpOpsIn
 simp only [List.getElem?_toArray,List.getElem?_cons_zero,List.getElem?_cons_succ,Region.wanted,if_true]
 obtain ⟨Fr2,β2,R2,hl2⟩:=hr2
 have hclo:=R2.sl d
 have elk:look (s1.put d (.clo g (cs.map (·.ev s1.sl)))).sl d=.clo g (cs.map (·.ev s1.sl)):=by simp [St.put,za2]
 rw [elk] at hclo
 simp only [Rd] at hclo
 obtain ⟨cvs,hcv,hcr⟩:=hclo
 refine ⟨fun _ _=>trivial,?_⟩
 have hrun:((Oper.semAt Fence.wide.round a2.eval ⟨none,.defer ⟨.value (.tmp d),#[],dats⟩,ty2,pos2,af2,none⟩).run P w2)=.ok (.defer { target:=.fn (.func g) cvs.toArray,args:=#[] }) w2:=by
  rw [show Fence.wide.round=none from rfl,Oper.semAt_none]
  show (do let dd ← resolve a2.eval ⟨.value (.tmp d),#[],dats⟩ ty2;pure (Next.defer dd):Sem Next).run P w2=_
  have:a2.eval (.tmp d)=.func (.func g) #[] cvs.toArray:=hcv
  simp only [resolve,this,Deferred.ofValue,Sem.run_bind,Sem.run_pure,Result.andThen_ok]
  simp
 rw [hrun]
 show wpOpsIn _ _ _ _ _ _ _ _
 unfold wpOpsIn
 exact hbody fn b lvb hent rfl ⟨fn,hfn,rfl⟩ hbc hrb hrs a2 w2 Fr2 β2 cvs R2 hl2 hcr (by simp [DFun.mid,St.put,hal1,za8])
theorem zzt {args:List PV} {vs:List Value} {bx:zao} {oc:List Loc} (hp:Pre P Γ w Fr β args vs bx oc) {fn:Func} {res:List (Sum Nat (Nat × Bool × Nat))} (hrs:fn.results.toList.mapM (zp3 P)=some res) {st1:St} {a1:Act} {w1:World} {Fr1:Nat→Nat} {β1:List Nat}
 (R1:Rel P [] w.heap.size (zel w β oc) w Fr fn.ntmps st1 a1 w1 Fr1 β1) (hl1:Le w Fr β w1 Fr1 β1) {T2:List Deferred} {st2:St} {a2:Act} {w2:World} {Fr2:Nat→Nat} {β2:List Nat} (R2:Rel P T2 w1.heap.size (zqp st1 a1 w1 β1) w1 Fr1 fn.ntmps st2 a2 w2 Fr2 β2) (hl2:Le w1 Fr1 β1 w2 Fr2 β2)
 {r:Ans} (hf:finV res bx.length st2=some r):LeavesInM Fence.wide 0 P fn a2.tmps (fun e w'=>∃ v Fr' β',e=.returned v∧Post P w Fr β oc r.1 r.2.1 r.2.2.1 r.2.2.2 v w' Fr' β') a1.defers .returning w2:=by
 have R3:=R1.back R2 (R1.marks R2)
 exact zi4 (S:=⟨w.heap.size,zel w β oc,w,Fr,fn.ntmps,w,Fr,β,[]⟩) rfl a1.defers { a2 with defers:=a1.defers } w2 rfl ⟨Fr2,β2,R3,hl1.trans hl2⟩ fun a3 w3 hr3 _=>zza hrs hp.rel.bx.1 hf a3 w3 hr3
theorem zzu (hS:Good Γ S) (R:Rel P S.T S.base S.M S.w0 S.F0 S.nt st a w Fr β):∀ g,Γ.D g→g<w.heap.size∧¬ zqp st a w β g:=fun g hg=>by
 obtain ⟨h1,h2⟩:=hS.dis g hg
 refine ⟨Nat.lt_of_lt_of_le h1 R.ge,fun h=>?_⟩
 rcases R.may g h with h | h
 ·omega
 ·exact h2 h
theorem yom (hm:P.follows .mixedOrders=true) (hyn:P.funcs[yldF]? =none) (hcf:zbv P Γ cf) {n:Nat} {qs:List FuncId} {lv1 lv2:List (List Nat)} {f:FuncId} {D:DFun} (hD:zso P qs lv1 lv2 f=some D) (hnop:yol P D.g D.caps.length) {args:List PV} {bx:zao} {oc:List Loc} {r:Ans} (h:EvD cf n D args bx oc r)
 {vs:List Value} (hp:Pre P Γ w Fr β args vs bx oc):Enters P f vs w fun e w'=>∃ v Fr' β',e=.returned v∧Post P w Fr β oc r.1 r.2.1 r.2.2.1 r.2.2.2 v w' Fr' β':=by
 obtain ⟨hlen,o,s1,h1,h2⟩:=h
 cases o with
 | exit i=>exact h2.elim
 | ret =>
   unfold zso at hD
   split at hD
   case h_2=>cases hD
   rename_i fn hfn
   split at hD
   case h_2=>cases hD
   rename_i a id ops b hbd
   split at hD
   case h_2=>cases hD
   rename_i d g first caps ty1 pos1 af1 d' dargs dats ty2 pos2 af2 hops
   split at hD
   case isFalse=>cases hD
   rename_i hcond
   obtain ⟨hname,hra,hrb,rfl,hfirst,rfl,hdn,hent⟩:=hcond
   obtain ⟨cs,hcs,hD⟩:=qb hD
   obtain ⟨⟨pc,lva⟩,hpc,hD⟩:=qb hD
   obtain ⟨⟨bc,lvb⟩,hbc,hD⟩:=qb hD
   obtain ⟨rs,hrs,rfl⟩:=qm hD
   dsimp only at h1 h2 hlen
   refine enters_of (by unfold zgq;rw [hfn];simp only [hname,hbd,Option.isSome_some,Bool.and_self]) (fun e=>by rw [e,hyn] at hfn;cases hfn) ?_
   have hS:Good Γ ⟨w.heap.size,zel w β oc,w,Fr,fn.ntmps,w,Fr,β,[]⟩:=⟨hp.g,fun g hg=>⟨Γ.lt w hp.g g hg,hp.dis g hg⟩⟩
   have R0:=zmr (nt:=fn.ntmps) hp hlen
   refine callsIn_wide.1 (callsIn_of_wp_marks (n:=0) hfn hbd trivial ?_)
   refine wpIn_seq (ze8 (r:=none) hm hcf hS (f:=f) ⟨fn,hfn,rfl⟩ (fun l e=>by cases e) a 0 lv1 pc lva hpc (by rw [hra];intro j q hj;cases hj) _ s1 .ret _ w _ h1 rfl ⟨Fr,β,R0,Le.refl _ _ _⟩ fun a1 w1 hr1=>?_)
   exact zi4 rfl _ a1 w1 rfl hr1 fun a2 w2 hr2 _=>zza hrs hp.rel.bx.1 h2 a2 w2 hr2
 | normal =>
   obtain ⟨o,st2,h3,hno,hf⟩:=h2
   refine zv4 hm hyn hcf hD hlen hp h1 fun fn b lv' hent hnt hfn hbc hrb hrs a1 w1 Fr1 β1 cvs R1 hl1 hcr hal=>?_
   have hS:Good Γ ⟨w.heap.size,zel w β oc,w,Fr,D.nt,w,Fr,β,[]⟩:=⟨hp.g,fun g hg=>⟨Γ.lt w hp.g g hg,hp.dis g hg⟩⟩
   have hS2:Good Γ ⟨w1.heap.size,zqp (D.mid s1) a1 w1 β1,w1,Fr1,D.nt,w1,Fr1,β1,{ target:=.fn (.func D.g) cvs.toArray,args:=#[] }::a1.defers⟩:=⟨hS.at R1,zzu hS R1⟩
   have Rb:=R1.rebase ({ target:=.fn (.func D.g) cvs.toArray,args:=#[] }::a1.defers)
   refine ze8 (r:=none) hm hcf hS2 (f:=f) hfn (fun l e=>by cases e) b 0 lv2 D.body lv' hbc (by rw [hrb];intro j q hj;cases hj) _ st2 o _ w1 _ h3 hal ⟨Fr1,β1,Rb,Le.refl _ _ _⟩ fun a2 w2 hr2=>?_
   have key:LeavesInM Fence.wide 0 P fn a2.tmps (fun e w'=>∃ v Fr' β',e=.returned v∧Post P w Fr β oc r.1 r.2.1 r.2.2.1 r.2.2.2 v w' Fr' β') a2.defers .returning w2:=by
    have hr0:=hr2
    obtain ⟨Fr2,β2,R2,hl2⟩:=hr0
    obtain ⟨Ds,d1,d2,d3⟩:=R2.df
    rw [d2]
    refine zim (by simp) Ds a2 w2 d2 hr2 fun a3 w3 hr3 ht _=>?_
    obtain ⟨Fr3,β3,R3,hl3⟩:=hr3
    dsimp only at R3 hl3
    unfold LeavesInM
    refine ⟨by simp,.inr ⟨(fun h=>by cases h),.func D.g,cvs.toArray,D.g,cvs.toArray,rfl,?_,fun _ _=>trivial,?_⟩⟩
    ·rw [← zil (P:=P) (w:=w3) hent (args:=cvs.toArray)]
     simp only [invoke]
     congr 2
     apply Array.ext';simp
    ·refine (hnop cvs w3 (by have:=hcr.length;simpa using this)).mono ?_
     rintro e u' w' ⟨⟨v,rfl⟩,rfl,rfl⟩
     rw [← ht]
     exact zzt (fn:=fn) hp hrs (by rw [hnt];exact R1) hl1 (by rw [hnt];exact R3) hl3 hf
   cases o with
   | exit i=>exact absurd rfl (hno i)
   | normal=>exact key
   | ret=>exact key
theorem yif (hm:P.follows .mixedOrders=true) (hyn:P.funcs[yldF]? =none) (hcf:zbv P Γ cf) {pf:zcr} (hpf:zm1 P Γ pf) {n:Nat} {qs:List FuncId} {lv1 lv2:List (List Nat)} {f:FuncId} {D:DFun} (hD:zso P qs lv1 lv2 f=some D) {fx:Value→List PV→zao→Option zao} (hcatch:z58 P D.g fx) {kl:List Nat}
 {args:List PV} {bx:zao} {oc:List Loc} {r:Ans} (h:PanD cf pf n fx kl D args bx oc r) {vs:List Value} (hp:Pre P Γ w Fr β args vs bx oc):Enters P f vs w fun e w'=>∃ v Fr' β',e=.returned v∧Post P w Fr β oc r.1 r.2.1 r.2.2.1 r.2.2.2 v w' Fr' β':=by
 obtain ⟨hlen,s1,rt,q,bx',h1,h2,h3,hf⟩:=h
 refine zv4 hm hyn hcf hD hlen hp h1 fun fn b lv' hent hnt hfn hbc hrb hrs a1 w1 Fr1 β1 cvs R1 hl1 hcr hal=>?_
 have hS:Good Γ ⟨w.heap.size,zel w β oc,w,Fr,D.nt,w,Fr,β,[]⟩:=⟨hp.g,fun g hg=>⟨Γ.lt w hp.g g hg,hp.dis g hg⟩⟩
 have hS2:Good Γ ⟨w1.heap.size,zqp (D.mid s1) a1 w1 β1,w1,Fr1,D.nt,w1,Fr1,β1,{ target:=.fn (.func D.g) cvs.toArray,args:=#[] }::a1.defers⟩:=⟨hS.at R1,zzu hS R1⟩
 have Rb:=R1.rebase ({ target:=.fn (.func D.g) cvs.toArray,args:=#[] }::a1.defers)
 refine zv3 (r:=none) hm hcf hpf hS2 (f:=f) hfn (fun l e=>by cases e) b 0 lv2 D.body lv' hbc (by rw [hrb];intro j q hj;cases hj) rt _ q _ w1 _ h2 hal ⟨Fr1,β1,Rb,Le.refl _ _ _⟩ fun a2 w2 hr2=>?_
 show LeavesInM _ _ _ _ _ _ a2.defers _ _
 have hr0:=hr2
 obtain ⟨Fr2,β2,R2,hl2⟩:=hr0
 obtain ⟨Ds,d1,d2,d3⟩:=R2.df
 rw [d2]
 refine zim (by simp [entry]) Ds a2 w2 d2 hr2 fun a3 w3 hr3 ht _=>?_
 obtain ⟨Fr3,β3,R3,hl3⟩:=hr3
 dsimp only at R3 hl3
 unfold LeavesInM
 refine ⟨by simp [entry],.inr ⟨(fun h=>by cases h),.func D.g,cvs.toArray,D.g,cvs.toArray,rfl,?_,fun _ _=>trivial,?_⟩⟩
 ·rw [← zil (P:=P) (w:=w3) hent (args:=cvs.toArray)]
  simp only [invoke]
  congr 2
  apply Array.ext';simp
 ·refine (hcatch q.1 (D.caps.map (·.ev s1.sl)) (zkf kl q) bx' h3 _ _ _ _ _ _ a3 w3 Fr3 β3 cvs R3 (Rds.mono hl3 _ _ hcr)).mono ?_
  rintro e u' w' ⟨⟨v,rfl⟩,hset,Fr4,R4,hl4⟩
  dsimp only
  rw [hset,← ht]
  exact zzt (fn:=fn) hp hrs (by rw [hnt];exact R1) hl1 (by rw [hnt];exact R4) (hl3.trans hl4) hf
end
end Nun
namespace Nun
open Go Go.RowKit
section
variable {cf:Callee} {pf:zcr} {kl:List Nat} {n k:Nat} {st st':St} {f:FuncId} {q:ThrS} {sl:List (Nat × PV)} {ow:List Loc} {al:List (Nat × Loc)} {bx:zao}
def xClo (args:List PV):PV→Option (FuncId × List PV)
 | .clo f caps=>if f=yldF then none else some (f,args++caps)
 | _=>none
theorem yon {args caps:List PV}:xClo args (.clo f caps)=if f=yldF then none else some (f,args++caps):=rfl
theorem yoo {args:List PV} {b:Nat}:xClo args (.yld b)=none:=rfl
theorem yig {args:List X}:zaj st (.call f args)=some (f,evA st.sl args):=by simp only [zaj,zqe]
theorem yb9 {g:X} {args:List X}:zaj st (.callv g args)=xClo (evA st.sl args) (g.ev st.sl):=by
 simp only [zaj,zqe];cases g.ev st.sl<;>rfl
theorem yq7 {x:X}:zaj st (.mv x)=none:=rfl
theorem yop {s:Nat}:zaj st (.mvA s)=none:=rfl
theorem yoq {x:X}:zaj st (.asg x)=none:=rfl
theorem yih {c a b:X}:zaj st (.pick c a b)=none:=rfl
theorem yor {op:BinOp} {x y:X}:zaj st (.bin op x y)=none:=rfl
theorem yos {ne:Bool} {x y:X}:zaj st (.beq ne x y)=none:=rfl
theorem yot {ne:Bool} {ks:List LK} {x y:X}:zaj st (.eqS ne ks x y)=none:=rfl
theorem you {x:X}:zaj st (.mvS x)=none:=rfl
theorem yii {x:X}:zaj st (.nilc x)=none:=rfl
theorem yq8 {op:UnOp} {x:X}:zaj st (.un op x)=none:=rfl
theorem yij {t:IntKind} {x:X}:zaj st (.conv t x)=none:=rfl
theorem yov {x:X}:zaj st (.b2s x)=none:=rfl
theorem yca {e:Nat} {zs:List PV}:zaj st (.alloc e zs)=none:=rfl
theorem yow {e m:Nat} {x:X}:zaj st (.box e m x)=none:=rfl
theorem ycb {zs:List PV} {ps:List (Nat × Nat × X)}:zaj st (.build zs ps)=none:=rfl
theorem yik {b:Bool} {l s:Nat} {zs:List PV} {ps:List (Nat × Nat × X)}:zaj st (.mksl b l s zs ps)=none:=rfl
theorem yil {a:Bool} {m:Nat} {x:X}:zaj st (.load a m x)=none:=rfl
theorem ycc {x:X}:zaj st (.loadA x)=none:=rfl
theorem ycd {x:X}:zaj st (.loadM x)=none:=rfl
theorem yce {m:Nat} {a x:X}:zaj st (.store m a x)=none:=rfl
theorem yim {o:Nat} {a:X}:zaj st (.fadr o a)=none:=rfl
theorem yox {a:Bool} {o m:Nat} {x:X}:zaj st (.fld a o m x)=none:=rfl
theorem yin {s:Nat} {x i:X}:zaj st (.iadr s x i)=none:=rfl
theorem yoy {x i:X}:zaj st (.idx x i)=none:=rfl
theorem yio {a:Bool} {l s:Nat} {x i:X}:zaj st (.idxA a l s x i)=none:=rfl
theorem ycf {l s:Nat} {x i:X}:zaj st (.paddr l s x i)=none:=rfl
theorem z6a {l s:Nat} {x:X} {lo hi:Option X}:zaj st (.sliceP l s x lo hi)=none:=rfl
theorem z1z {x y:X}:zaj st (.appendS x y)=none:=rfl
theorem ycg {s:Nat} {x:X} {lo hi:Option X}:zaj st (.slice s x lo hi)=none:=rfl
theorem z6b {x:X} {lo hi:Option X}:zaj st (.sliceS x lo hi)=none:=rfl
theorem yoz {x:X} {i:Nat}:zaj st (.ext x i)=none:=rfl
theorem yo0 {x:X}:zaj st (.len x)=none:=rfl
theorem yip {x:X}:zaj st (.lenS x)=none:=rfl
theorem z6c {b:Bool} {s:Nat} {x y:X}:zaj st (.append b s x y)=none:=rfl
theorem yq9 {b:Bool} {x y:X}:zaj st (.mm b x y)=none:=rfl
theorem yiq {caps:List X}:zaj st (.clos f caps)=none:=rfl
def xPut (cf:Callee) (pf:zcr) (kl:List Nat) (f:FuncId) (r:List COper) (k:Nat) (q:ThrS):Option St→Prop
 | some s=>zdl cf pf kl f r k s q
 | none=>False
theorem yo1 {r:List COper}:xPut cf pf kl f r k q (some st)=zdl cf pf kl f r k st q:=rfl
def xAt (cf:Callee) (pf:zcr) (kl:List Nat) (f:FuncId) (r:List COper) (k:Nat) (st:St) (q:ThrS) (d:Option Nat) (op:COp):Option (FuncId × List PV)→Prop
 | some (g,args)=>if g=f then (match k with | 0=>zcn pf kl st f args q | k+1=>xPut cf pf kl f r k q (zaa cf st d op)) else xPut cf pf kl f r k q (zaa cf st d op)
 | none=>xPut cf pf kl f r k q (zaa cf st d op)
theorem yra {r:List COper} {d:Option Nat} {op:COp}:xAt cf pf kl f r k st q d op none=xPut cf pf kl f r k q (zaa cf st d op):=rfl
theorem yrb {r:List COper} {d:Option Nat} {op:COp} {g:FuncId} {args:List PV}:xAt cf pf kl f r 0 st q d op (some (g,args))=if g=f then zcn pf kl st f args q else xPut cf pf kl f r 0 q (zaa cf st d op):=rfl
theorem yrc {r:List COper} {d:Option Nat} {op:COp} {g:FuncId} {args:List PV}:xAt cf pf kl f r 1 st q d op (some (g,args))=if g=f then xPut cf pf kl f r 0 q (zaa cf st d op) else xPut cf pf kl f r 1 q (zaa cf st d op):=rfl
theorem yrd {r:List COper} {d:Option Nat} {op:COp} {g:FuncId} {args:List PV}:xAt cf pf kl f r 2 st q d op (some (g,args))=if g=f then xPut cf pf kl f r 1 q (zaa cf st d op) else xPut cf pf kl f r 2 q (zaa cf st d op):=rfl
def xGd (cf:Callee) (pf:zcr) (kl:List Nat) (f:FuncId) (r:List COper) (k:Nat) (st:St) (q:ThrS) (d:Option Nat) (op:COp) (want:Bool):PV→Prop
 | .flat (.bool b)=>if b=want then xAt cf pf kl f r k st q d op (zaj st op) else xPut cf pf kl f r k q (some (st.putD d (.tup [])))
 | .tup []=>xPut cf pf kl f r k q (some (st.putD d (.tup [])))
 | _=>False
theorem yo2 {r:List COper} {d:Option Nat} {op:COp} {b want:Bool}:xGd cf pf kl f r k st q d op want (.flat (.bool b))=if b=want then xAt cf pf kl f r k st q d op (zaj st op) else xPut cf pf kl f r k q (some (st.putD d (.tup []))):=rfl
theorem yre {r:List COper} {d:Option Nat} {op:COp} {want:Bool}:xGd cf pf kl f r k st q d op want (.tup [])=xPut cf pf kl f r k q (some (st.putD d (.tup []))):=rfl
theorem zud {r:List COper} {x:Option St}:(match x with | some st'=>zdl cf pf kl f r k st' q | none=>False)=xPut cf pf kl f r k q x:=by cases x<;>rfl
theorem yrf:zdl cf pf kl f [] k st q=False:=rfl
theorem yeh {r:List COper} {d:Option Nat} {op:COp}:zdl cf pf kl f (⟨d,none,op⟩::r) k st q=xAt cf pf kl f r k st q d op (zaj st op):=by
 simp only [zdl,PanS,zbp]
 cases h:zaj st op with
 | none=>simp only [sg_n,zud];rfl
 | some p =>
   obtain ⟨g,args⟩:=p
   unfold xAt
   by_cases hg:g=f
   ·simp only [hg,if_true,sg_n,zud]
    all_goals (cases k<;>rfl)
   ·simp only [hg,if_false,sg_n]
    all_goals exact zud
theorem yir {r:List COper} {d:Option Nat} {op:COp} {s:Nat} {want:Bool}:zdl cf pf kl f (⟨d,some (s,want),op⟩::r) k st q=xGd cf pf kl f r k st q d op want (look st.sl s):=by
 have hbad:∀ p:PV,look st.sl s=p→(∀ b,p≠.flat (.bool b))→p≠.tup []→zdl cf pf kl f (⟨d,some (s,want),op⟩::r) k st q=False:=by
  intro p hp h1 h2
  have hg:zbp st (some (s,want))=none:=by
   unfold zbp
   dsimp only
   rw [hp]
   cases p with
   | flat v=>cases v<;>first | rfl | exact absurd rfl (h1 _)
   | tup l=>cases l with
     | nil=>exact absurd rfl h2
     | cons a l=>rfl
   | _=>rfl
  simp only [zdl,PanS,stepG,hg]
  rfl
 have htup:look st.sl s=.tup []→zdl cf pf kl f (⟨d,some (s,want),op⟩::r) k st q=xPut cf pf kl f r k q (some (st.putD d (.tup []))):=by
  intro hp
  have hg:zbp st (some (s,want))=some false:=by unfold zbp;dsimp only;rw [hp]
  simp only [zdl,PanS,stepG,hg]
  rfl
 have hboo:∀ b,look st.sl s=.flat (.bool b)→zdl cf pf kl f (⟨d,some (s,want),op⟩::r) k st q=xGd cf pf kl f r k st q d op want (.flat (.bool b)):=by
  intro b hp
  have hg:zbp st (some (s,want))=some (b == want):=by unfold zbp;dsimp only;rw [hp]
  rw [yo2]
  by_cases hb:b=want
  ·subst hb
   rw [beq_self_eq_true] at hg
   rw [if_pos rfl,← yeh]
   simp only [zdl,PanS,stepG,hg]
   rfl
  ·have hb2:(b == want)=false:=by simpa using hb
   rw [hb2] at hg
   rw [if_neg hb]
   simp only [zdl,PanS,stepG,hg]
   rfl
 generalize hp:look st.sl s=p at *
 cases p with
 | flat v =>
   cases v with
   | bool b=>exact hboo b rfl
   | _=>exact hbad _ rfl (fun b h=>by cases h) (fun h=>by cases h)
 | tup l =>
   cases l with
   | nil=>exact htup rfl
   | cons a l=>exact hbad _ rfl (fun b h=>by cases h) (fun h=>by cases h)
 | _=>exact hbad _ rfl (fun b h=>by cases h) (fun h=>by cases h)
theorem zqq:∀ l:List Nat,vals (zl2 sl l)=l.map (look sl)
 | []=>rfl
 | i::l=>by rw [znq,zqc,zqq l];rfl
theorem yo3 {args:List PV} {v:Value} {ls:List PV} {b:zao} {o:List Loc}:zcn pf kl ⟨sl,ow,al,bx⟩ f args (v,ls,b,o)=(ls=vals (zl2 sl kl)∧if zcb args=true then (∃ c p,pf f args [] [] (v,c,p))∧b=bx∧o=zdv ow else pf f args bx (zdv ow) (v,b,o)):=by
 simp only [zcn,Prod.mk.injEq,zhn,zqq]
def yPut (cf:Callee) (pf:zcr) (kl:List Nat) (f:FuncId) (t:BT) (k:Nat) (q:ThrS):Option St→Prop
 | some s=>PanT cf pf kl f t k s q
 | none=>False
theorem yo4 {t:BT}:yPut cf pf kl f t k q (some st)=PanT cf pf kl f t k st q:=rfl
def yAt (cf:Callee) (pf:zcr) (kl:List Nat) (f:FuncId) (t:BT) (k:Nat) (st:St) (q:ThrS) (d:Option Nat) (op:COp):Option (FuncId × List PV)→Prop
 | some (g,args)=>if g=f then (match k with | 0=>zcn pf kl st f args q | k+1=>yPut cf pf kl f t k q (zaa cf st d op)) else yPut cf pf kl f t k q (zaa cf st d op)
 | none=>yPut cf pf kl f t k q (zaa cf st d op)
theorem yrg {t:BT} {d:Option Nat} {op:COp}:yAt cf pf kl f t k st q d op none=yPut cf pf kl f t k q (zaa cf st d op):=rfl
theorem yrh {t:BT} {d:Option Nat} {op:COp} {g:FuncId} {args:List PV}:yAt cf pf kl f t 0 st q d op (some (g,args))=if g=f then zcn pf kl st f args q else yPut cf pf kl f t 0 q (zaa cf st d op):=rfl
theorem z6d {t:BT} {x:Option St}:(match x with | some st'=>PanT cf pf kl f t k st' q | none=>False)=yPut cf pf kl f t k q x:=by cases x<;>rfl
theorem y_S {t:BT} {d:Option Nat} {op:COp}:PanS cf pf kl f ⟨d,none,op⟩ k st q (fun k st'=>PanT cf pf kl f t k st' q)=yAt cf pf kl f t k st q d op (zaj st op):=by
 simp only [PanS,zbp]
 cases h:zaj st op with
 | none=>simp only [sg_n,z6d];rfl
 | some p =>
   obtain ⟨g,args⟩:=p
   unfold yAt
   by_cases hg:g=f
   ·simp only [hg,if_true,sg_n,z6d]
    all_goals (cases k<;>rfl)
   ·simp only [hg,if_false,sg_n]
    all_goals exact z6d
theorem yri {t:BT} {d:Option Nat} {op:COp}:PanT cf pf kl f (.one ⟨d,none,op⟩ t) k st q=yAt cf pf kl f t k st q d op (zaj st op):=by rw [PanT,y_S]
theorem yrj {t r:BT} {d:Option Nat} {op:COp}:PanT cf pf kl f (.two ⟨d,none,op⟩ t r) k st q=(yAt cf pf kl f t k st q d op (zaj st op)∧PanT cf pf kl f r k st q):=by rw [PanT,y_S]
theorem yrk {live:List Nat} {tail:List COper}:PanC cf pf kl n (.reg live [] tail) (.op f k) st q=zdl cf pf kl f tail k st q:=rfl
def yQ (cf:Callee) (pf:zcr) (kl:List Nat) (f:FuncId) (t:BT) (k:Nat) (q:ThrS):Option St→Prop
 | some s=>PanT cf pf kl f t k s q
 | none=>False
theorem yQ_s {t:BT}:yQ cf pf kl f t k q (some st)=PanT cf pf kl f t k st q:=rfl
theorem yo5 {live:List Nat} {pre:List COper} {t:BT}:PanC cf pf [] n (.regT live pre t) (.op f k) st q=yQ cf pf [] f t k q (evQ cf pre st):=by
 simp only [PanC]
 have h:(pre.all fun o=>match o.dst with | some d=>!([]:List Nat).contains d | none=>true)=true:=by
  rw [List.all_eq_true]
  intro o _
  cases o.dst<;>rfl
 apply propext
 constructor
 ·rintro ⟨_,h2⟩
  cases he:evQ cf pre st with
  | none=>rw [he] at h2;exact h2
  | some s=>rw [he] at h2;exact h2
 ·intro h2
  refine ⟨h,?_⟩
  cases he:evQ cf pre st with
  | none=>rw [he] at h2;exact h2
  | some s=>rw [he] at h2;exact h2
theorem yo6 {a b:CCode} {r:Rt}:PanC cf pf kl n (.seq a b) (.l r) st q=PanC cf pf kl n a r st q:=by simp only [PanC]
def xSeq (cf:Callee) (pf:zcr) (kl:List Nat) (n:Nat) (b:CCode) (r:Rt) (q:ThrS):Option (Out × St)→Prop
 | some (.normal,s)=>PanC cf pf kl n b r s q
 | _=>False
theorem yo7 {b:CCode} {r:Rt}:xSeq cf pf kl n b r q (some (.normal,st))=PanC cf pf kl n b r st q:=rfl
theorem yis {a b:CCode} {r:Rt}:PanC cf pf kl n (.seq a b) (.r r) st q=xSeq cf pf kl n b r q (evC cf n a st):=by
 simp only [PanC]
 cases evC cf n a st with
 | none=>rfl
 | some p=>obtain ⟨o,s⟩:=p;cases o<;>rfl
def yo8 (cf:Callee) (pf:zcr) (kl:List Nat) (n:Nat) (a b:CCode) (r:Rt) (st:St) (q:ThrS):PV→Prop
 | .flat (.bool t)=>if t then PanC cf pf kl n a r st q else PanC cf pf kl n b r st q
 | _=>False
theorem yit {a b:CCode} {r:Rt} {t:Bool}:yo8 cf pf kl n a b r st q (.flat (.bool t))=if t then PanC cf pf kl n a r st q else PanC cf pf kl n b r st q:=rfl
theorem yo9 {c:X} {a b:CCode} {r:Rt}:PanC cf pf kl n (.cond c a b) r st q=yo8 cf pf kl n a b r st q (c.ev st.sl):=by
 simp only [PanC]
 generalize c.ev st.sl=p
 cases p with
 | flat v=>cases v<;>rfl
 | _=>rfl
theorem yiu {i:Nat} {b:CCode} {r:Rt}:PanC cf pf kl n (.block i b) r st q=PanC cf pf kl n b r st q:=by simp only [PanC]
theorem ypa {live:List Nat} {b:CCode} {m:Nat} {r:Rt}:PanC cf pf kl n (.loop live b) (.lp m r) st q=zdm (evC cf n b) (fun s=>PanC cf pf kl n b r s q) live st.bx.length m (st.only live st.bx.length):=by simp only [PanC]
def xRng (pf:zcr) (kl:List Nat) (f k:Nat) (live:List Nat) (st:St) (q:ThrS):PV→Prop
 | .clo h caps=>h≠yldF∧q.2.1=vals (zl2 st.sl kl)∧pf h (.yld st.bx.length::caps) (st.bx++[(0,[.lp f k .ready live (vals (zl2 st.sl live))])]) (zdv st.ow) (q.1,q.2.2)
 | _=>False
theorem ypb {live:List Nat} {h:FuncId} {caps:List PV} {f k:Nat}:xRng pf kl f k live st q (.clo h caps)=(h≠yldF∧q.2.1=vals (zl2 st.sl kl)∧pf h (.yld st.bx.length::caps) (st.bx++[(0,[.lp f k .ready live (vals (zl2 st.sl live))])]) (zdv st.ow) (q.1,q.2.2)):=rfl
theorem yiv {f k:Nat} {live:List Nat} {g:X}:PanC cf pf kl n (.range f k live g) .rg st q=xRng pf kl f k live st q (g.ev st.sl):=by
 simp only [PanC,zk4]
 generalize g.ev st.sl=p
 cases p with
 | clo h caps =>
   simp only [xRng,zqq,zhn]
 | _=>rfl
theorem zpc {σ:Type} {body:St→Option (Out × St)} {pbody:St→Prop} {live:List Nat} {nb:Nat} (head:σ→St) (I:σ→Prop) (μ:σ→Nat)
 (h:∀ a,I a→pbody (head a)∨∃ s a',body (head a)=some (.normal,s)∧s.only live nb=head a'∧I a'∧μ a'<μ a):∀ (m:Nat) (a:σ),I a→μ a<m→∃ j,zdm body pbody live nb j (head a)
 | 0,a,_,hm=>by omega
 | m+1,a,ha,hm=>by
   rcases h a ha with h1 | ⟨s,a',h1,h2,h3,h4⟩
   ·exact ⟨0,h1⟩
   ·obtain ⟨j,hj⟩:=zpc head I μ h m a' h3 (by omega)
    refine ⟨j+1,?_⟩
    unfold zdm
    rw [h1]
    dsimp only
    rw [h2]
    exact hj
variable {code:FuncId→Option CFun} {n0:Nat} {plib:zcr}
theorem yiw {c:CFun} (hc:code f=some c) {args:List PV} {bx:zao} {oc:List Loc} (hl:args.length≤c.nt) (rt:Rt) {v:Value} {b1 b2:zao} {o1 o2:List Loc} (h:PanC cf (PanW code cf n0 plib) [] n0 c.body rt { sl:=zfi 0 args,ow:=oc,al:=[],bx:=bx } (v,[],b1,o1))
 (h1:trim bx.length [] b1=b2) (h2:∀ L∈o2,L∈zcq b2.length o1):PanW code cf n0 plib f args bx oc (v,b2,o2):=by
 subst h1
 exact yic hc hl rt h (O:=o2) fun L hL=>by rw [zge];exact h2 L hL
end
end Nun
end
section
namespace Nun
open Go
attribute [go_sem] yon yoo yig yb9 yq7 yop yoq yih yor yos yot you
attribute [go_sem] yii yq8 yij yov yca yow ycb yik yil ycc ycd yce
attribute [go_sem] yim yox yin yoy yio ycf z6a z1z ycg z6b yoz yo0
attribute [go_sem] yip z6c yq9 yiq yo1 yra yrb yrc yrd yo2 yre yrf
attribute [go_sem] yeh yir yo3 yo4 yrg yrh yri yrj yrk yQ_s yo5 yo6
attribute [go_sem] yo7 yis yit yo9 yiu ypa ypb yiv
end Nun
end
section
namespace Nun
open Go Go.RowKit
section
variable {P:Program} {w w':World} {r:Option Nat} {Fr Fr':Nat→Nat} {β β':List Nat} {T:List Deferred} {base nt:Nat} {M:Nat→Prop} {w0:World} {F0:Nat→Nat} {st st':St} {a a':Act} {cf:Callee} {Γ:Glob} {S:S0}
def zue (F:Fence) (P:Program) (o:Oper):Prop:=∀ (ρ:Operand→Value) (w:World) (d:Deferred) (w':World),(o.semAt F.round ρ).run P w≠.ok (.defer d) w'
theorem z6e {F:Fence} {n:Nat} {o:Oper} (hnd:zue F P o) {K:Act→World→Prop} {Q Q':Exit→Act→World→Prop} (hQ:∀ e a' w',e≠.normal→Q e a' w'→Q' e a' w') (h:o.wpIn F n P a w K Q):o.wpIn F n P a w (fun a' w'=>K a' w'∧a'.defers=a.defers) Q':=by
 unfold Oper.wpIn at *
 refine ⟨h.1,?_⟩
 have hh:=h.2
 have hn:=hnd a.eval w
 generalize (o.semAt F.round a.eval).run P w=x at *
 cases x with
 | ok y w1 =>
   cases y with
   | value v=>exact ⟨hh,zd0 _ _ _⟩
   | skip=>exact ⟨hh,zd0 _ _ _⟩
   | defer d=>exact absurd rfl (hn d w1)
   | enter f args=>exact ⟨hh.1,CallsIn.mono hh.2 (fun e w'' he=>by
    cases e with
    | returned v=>exact ⟨he,zd0 _ _ _⟩
    | panicked ch=>exact hQ _ _ _ (by simp) he
    | outgrown=>obtain ⟨a1,w2,h2⟩:=(show LetsOut Q from he);exact ⟨a1,w2,hQ _ _ _ (by simp) h2⟩)⟩
   | row q args=>exact ⟨hh.1,RowsIn.mono hh.2 (fun v w'' he=>⟨he,zd0 _ _ _⟩)⟩
   | round l f tmps az body=>exact ⟨hh.1,RoundIn.mono hh.2 (fun e w'' he=>by
    cases e with
    | returned v=>exact ⟨he,zd0 _ _ _⟩
    | panicked ch=>exact hQ _ _ _ (by simp) he
    | outgrown=>obtain ⟨a1,w2,h2⟩:=(show LetsOut Q from he);exact ⟨a1,w2,hQ _ _ _ (by simp) h2⟩)⟩
   | _=>exact hh.elim
 | halt y w1 =>
   cases y with
   | panic v=>exact hQ _ _ _ (by simp) hh
   | _=>exact hh.elim
theorem zpd {F:Fence} {n:Nat} {md:Region.Mode} {ops:Array Oper} (hnd:∀ (i:Nat) (o:Oper),ops[i]? =some o→zue F P o) {Q Q':Exit→Act→World→Prop} {D:List Deferred} (hQ:∀ e a' w',Q e a' w'→(e=.normal→a'.defers=D)→Q' e a' w'):∀ (fuel:Nat) (listed:Array Bool) (a:Act) (w:World),a.defers=D→wpAnyIn F n P md ops Q fuel listed a w→wpAnyIn F n P md ops Q' fuel listed a w
 | 0,listed,a,w,hd,h=>⟨h.1,hQ _ _ _ h.2 fun _=>hd⟩
 | fuel+1,listed,a,w,hd,h=>by
   refine ⟨fun e=>hQ _ _ _ (h.1 e) fun _=>hd,fun i hi=>?_⟩
   have hh:=h.2 i hi
   unfold wpOpIn at hh ⊢
   split
   ·rename_i ho
    simp only [ho] at hh
    exact zpd hnd hQ fuel _ a w hd hh
   ·rename_i o ho
    simp only [ho] at hh
    split
    ·rename_i hw
     simp only [hw,if_true] at hh
     refine Oper.wpIn_mono (fun a' w' k=>?_) (z6e (hnd i o ho) (Q':=Q') (fun e a' w' hne k=>hQ _ _ _ k fun e'=>absurd e' hne) hh)
     exact zpd hnd hQ fuel _ a' w' (k.2.trans hd) k.1
    ·rename_i hw
     simp only [hw] at hh
     exact ⟨hh.1,zpd hnd hQ fuel _ _ w ((zd0 _ _ _).trans hd) hh.2⟩
theorem zx5 (hcf:zbv P Γ cf) (hS:Good Γ S) {ops:Array Oper} {qs:List FuncId} {q:List COper × BT} (hc:zlg P qs S.nt ops=some q) {live:List Nat} {stk F:St} (h1:evQ cf q.1 st=some stk) (h2:evT cf live q.2 stk=some F)
 (hal:st.al=[]) (hr:Rl P S st a w) {Q:Exit→Act→World→Prop} (hK:∀ s a' w',s.keep live=F→Rl P S s a' w'→Q .normal a' w'):wpAnyIn (fw r) 0 P .any ops Q ops.size (Array.replicate ops.size false) a { w with drawn:=w.drawn+1 }:=by
 unfold zlg at hc
 obtain ⟨cs,hcs',hc⟩:=qb hc
 obtain ⟨cs0,hcs,rfl⟩:=qm hcs'
 obtain ⟨hlen,hget⟩:=zi3 hcs
 split at hc
 case isFalse=>cases hc
 rename_i hok
 cases hc
 have hr':Rl P S st a { w with drawn:=w.drawn+1 }:=by
  obtain ⟨Fr,β,R,hl⟩:=hr
  have hb:Below w.heap.size w { w with drawn:=w.drawn+1 }:=⟨rfl,rfl,rfl,Nat.le_refl _,fun _ _=>rfl⟩
  obtain ⟨R',hl'⟩:=R.grow hb (Fr':=Fr) (fun _ _=>rfl)
  exact ⟨Fr,β,R',hl.trans hl'⟩
 exact zu9 hcf hS (ali:=ops.toList.filterMap zoh) hok (fun j c hj=>by
  rw [List.getElem?_map] at hj
  obtain ⟨c0,hj2,rfl⟩:=qm hj
  obtain ⟨o,k1,k2⟩:=hget j c0 hj2
  exact ⟨o,by rw [← Array.getElem?_toList];exact k1,z3n k2⟩) hal h1 h2 hr' hK
theorem Rel.reslot (R:Rel P T base M w0 F0 nt st a w Fr β) (ho:st.ow=[]) {st':St} {a':Act} {nt':Nat} (hsl:∀ i,Rd w Fr β (look st'.sl i) (a'.tmps.getD i undef)) (hnt:a'.tmps.size=nt') (hd:a'.defers=a.defers) (ho':st'.ow=[]) (hal:st'.al=[]) (hbx:st'.bx=st.bx):Rel P T base M w0 F0 nt' st' a' w Fr β where
 sl:=hsl
 nt:=hnt
 df:=by rw [hd];exact R.df
 bx:=by rw [hbx];exact R.bx
 nd:=R.nd
 own:=fun L hL=>by rw [ho'] at hL;cases hL
 sep:=fun L hL=>by rw [ho'] at hL;cases hL
 out:=fun L hL=>by rw [ho'] at hL;cases hL
 al:=fun p hp=>by rw [hal] at hp;cases hp
 may:=fun g hg=>R.may g (.inl (by
  rcases hg with h | ⟨L,hL,_⟩
  ·exact h
  ·rw [ho'] at hL;cases hL))
 old:=R.old
 ge:=R.ge
 os:=R.os
 tape:=R.tape
 output:=R.output
theorem z6f {nt2:Nat} {st2:St} {a2:Act} (R:Rel P T base M w0 F0 nt st a w Fr β) (h2:Rl P ⟨w.heap.size,zel w β [],w,Fr,nt2,w,Fr,β,[]⟩ st2 a2 w') {bx':zao} (hbx:trim st.bx.length [] st2.bx=bx') (hlen:bx'.length=st.bx.length) :
 ∃ Fr',Rel P T base M w0 F0 nt ⟨st.sl,[],[],bx'⟩ a w' Fr' β∧Le w Fr β w' Fr' β:=by
 obtain ⟨Fr2,β2,R2,hl2⟩:=h2
 have Rc:Rel P T base M w0 F0 nt ⟨st.sl,[],[],st.bx⟩ a w Fr β:=R.cut0 (fun i=>.inr rfl) rfl (fun L hL=>by cases hL) rfl
 obtain ⟨β3,hpost⟩:=ztu (vs2:=[]) (v0:=.tuple #[]) (os:=false) (bx:=st.bx) (oc':=zbq bx'.length st2.ow) R.bx.1 R2.bare hl2 (by simp [zd7,Rd,Rds]) (fun h=>by cases h) hbx rfl
 have hp2:Post P w Fr β ((⟨st.sl,[],[],st.bx⟩:St).ow.filter zah) [] false bx' (zbq bx'.length st2.ow) (.tuple #[]) w' Fr2 β3:=hpost
 have:=zxl (S:=⟨base,M,w0,F0,nt,w,Fr,β,T⟩) (dst:=none) (f:=0) (args:=[]) hp2 (st':=⟨st.sl,(zbq bx'.length st2.ow).filter zah++[],[],bx'⟩) (by unfold callBx;rfl) (fun d h=>by cases h) Rc (Le.refl _ _ _) (K:=fun a' w'=>Rl P ⟨base,M,w0,F0,nt,w,Fr,β,T⟩ ⟨st.sl,(zbq bx'.length st2.ow).filter zah++[],[],bx'⟩ a' w') (fun a' w' hr=>hr)
 obtain ⟨Fr4,β4,R4,hl4⟩:=this
 have hb:β4=β:=by
  have e1:=R4.bx.1
  have e2:=R.bx.1
  dsimp only at e1
  refine List.ext_getElem? fun i=>?_
  by_cases hi:i<β.length
  ·have:=hl4.box i β[i] (qe hi)
   rw [this,qe hi]
  ·rw [List.getElem?_eq_none (by omega),List.getElem?_eq_none (by omega)]
 subst hb
 exact ⟨Fr4,R4.cut0 (fun i=>.inr rfl) rfl (fun L hL=>by cases hL) rfl,hl4⟩
end
end Nun
end
section
namespace Nun
open Go Go.RowKit Go.Proofs Go.Proofs.YtmpiobfdchlikaaGreatDoor
variable {lib:Callee}
def cutU (c:UInt8):Str→List Str
 | []=>[[]]
 | x::l=>if x=c then []::cutU c l else (match cutU c l with | p::ps=>(x::p)::ps | []=>[[x]])
theorem zqr {c:UInt8}:∀ {l:Str},at1 c l=none→cutU c l=[l]
 | [],h=>rfl
 | x::l,h=>by
   simp only [at1] at h
   split at h
   ·cases h
   ·rename_i hx
    have h':at1 c l=none:=by simpa using h
    simp only [cutU,if_neg hx,zqr h']
theorem zqs {c:UInt8}:∀ {l:Str} {i:Nat},at1 c l=some i→cutU c l=l.take i::cutU c (l.drop (i+1))
 | [],i,h=>by cases h
 | x::l,i,h=>by
   simp only [at1] at h
   split at h
   ·rename_i hx
    cases h
    simp only [cutU,if_pos hx,List.take_zero,List.drop_succ_cons,List.drop_zero]
   ·rename_i hx
    obtain ⟨j,hj,rfl⟩:=qm h
    simp only [cutU,if_neg hx,zqs hj,List.take_succ_cons,List.drop_succ_cons]
theorem zb2 (s w:Str) (k:Nat) (hs:s.length≤1000000000) (hw:w.length≤1000000000) (hk:k≤1000000000):evW code lib 60 [.flat (.string (S s)),.flat (.string (S w)),.flat (.int .i64 (k:Nat))] [] []=some ([.flat (.bool (za4 s w k))],false,[],[]):=by
 refine zbw zqk (Nat.le_of_ble_eq_true rfl) ?_
 have c0:(0:Int)≤(k:Nat):=by omega
 have w1:IntKind.i64.wrap ((s.length:Int) - (k:Int))=(s.length:Int) - (k:Int):=wrap64 (by omega)
 have w2:IntKind.i64.wrap ((k:Int)+(w.length:Int))=((k+w.length:Nat):Int):=by rw [wrap64 (by omega)];rfl
 by_cases h:k≤s.length
 ·have c1:(k:Int)≤s.length:=by omega
  by_cases h2:w.length≤s.length - k
  ·have c2:(w.length:Int)≤(s.length:Int) - (k:Int):=by omega
   have c3:(k:Int)≤((k+w.length:Nat):Int):=by omega
   have c4:((k+w.length:Nat):Int)≤s.length:=by omega
   have hp:=z5y s w k h2 h
   simp only [go_sem,simprocAttr,za4,c0,c1,c2,c3,c4,w1,w2,h,zcv,z1x,yh9,Int.toNat_natCast,hp]
  ·have c2:¬ (w.length:Int)≤(s.length:Int) - (k:Int):=by omega
   have hp:=yb6 (s.drop k) w (by rw [List.length_drop];exact h2)
   simp only [go_sem,simprocAttr,za4,c0,c1,c2,w1,h,zcv,hp]
 ·have c1:¬ (k:Int)≤s.length:=by omega
  simp only [go_sem,simprocAttr,za4,c0,c1,h,zcv]
theorem zzv {c:UInt8} (t:Str):∀ p:Str,(∀ x∈p,x≠c)→cutU c (p++c::t)=p::cutU c t
 | [],h=>by simp [cutU]
 | y::p,h=>by
   have:=zzv t p fun x hx=>h x (List.mem_cons_of_mem _ hx)
   rw [List.cons_append,cutU,if_neg (h y List.mem_cons_self),this]
theorem zsp {c:UInt8}:∀ p:Str,(∀ x∈p,x≠c)→cutU c p=[p]
 | [],h=>rfl
 | y::p,h=>by
   have:=zsp p fun x hx=>h x (List.mem_cons_of_mem _ hx)
   rw [cutU,if_neg (h y List.mem_cons_self),this]
def fCut (s:Str) (c:UInt8) (q:List Str × Nat) (k:Nat) (x:UInt8):(List Str × Nat) ⊕ (Out × St):=.inl (if x.toNat=c.toNat then (q.1++[(s.take k).drop q.2],k+1) else q)
theorem zuf (s:Str) (c:UInt8) (fin:List Str × Nat→Out × St):∀ (t:Str) (out:List Str) (fr k:Nat),s.drop k=t→fr≤k→k≤s.length→(∀ x∈(s.take k).drop fr,x≠c)→∃ st:List Str × Nat,zhx (fCut s c) fin (out,fr) k t=fin st∧st.1++[s.drop st.2]=out++cutU c (s.drop fr)∧st.2≤s.length∧st.1.length≤out.length+t.length
 | [],out,fr,k,h,h1,h2,h3=>by
   have hk:k=s.length:=by have:=congrArg List.length h;rw [List.length_drop] at this;simp at this;omega
   subst hk
   rw [List.take_length] at h3
   exact ⟨(out,fr),rfl,by rw [zsp _ h3],by omega,by simp⟩
 | x::t,out,fr,k,h,h1,h2,h3=>by
   have hlt:k<s.length:=by have:=congrArg List.length h;rw [List.length_drop] at this;simp at this;omega
   have hd:s.drop k=s[k]::s.drop (k+1):=List.drop_eq_getElem_cons hlt
   rw [hd] at h
   obtain ⟨hx,ht⟩:=List.cons.inj h
   have htk:s.take (k+1)=s.take k++[x]:=by rw [List.take_succ_eq_append_getElem hlt,hx]
   have hsp:s.drop fr=(s.take k).drop fr++x::t:=by
    rw [← hx,← ht,← hd]
    conv=>lhs;rw [← List.take_append_drop k s]
    rw [List.drop_append_of_le_length (by rw [List.length_take];omega)]
   simp only [zhx,fCut]
   by_cases hc:x.toNat=c.toNat
   ·have hxc:x=c:=UInt8.toNat_inj.1 hc
    rw [if_pos hc]
    obtain ⟨st,h4,h5,h6,h7⟩:=zuf s c fin t (out++[(s.take k).drop fr]) (k+1) (k+1) ht (Nat.le_refl _) hlt (by intro y hy;rw [List.drop_of_length_le (by rw [List.length_take];omega)] at hy;cases hy)
    refine ⟨st,h4,?_,h6,by simp only [List.length_append,List.length_cons,List.length_nil] at h7 ⊢;omega⟩
    rw [h5,hsp,hxc,zzv _ _ h3,← ht,List.append_assoc];rfl
   ·rw [if_neg hc]
    obtain ⟨st,h4,h5,h6,h7⟩:=zuf s c fin t out fr (k+1) ht (by omega) hlt (by
     intro y hy
     rw [htk,List.drop_append_of_le_length (by rw [List.length_take];omega)] at hy
     rcases List.mem_append.1 hy with hy | hy
     ·exact h3 y hy
     ·simp at hy;subst hy;exact fun h=>hc (by rw [h]))
    exact ⟨st,h4,h5,h6,by simp only [List.length_cons];omega⟩
def zny (s:Str) (c:UInt8) (q:List Str × Nat) (k:Nat):St:=⟨[(0,.flat (.string (S s))),(1,.flat (.int .u8 c.toNat)),(5,.slc q.1.length (zas q.1)),(6,.flat (.int .i64 (q.2:Nat))),(7,.flat (.int .i64 (k:Nat)))],[.slot 5],[],[]⟩
theorem yix (s:Str) (c:UInt8) (hs:s.length≤1000000000):evW code lib 98 [.flat (.string (S s)),.flat (.int .u8 c.toNat)] [] []=some ([.slc (cutU c s).length (zas (cutU c s))],true,[],[]):=by
 refine zbw zvx (Nat.le_of_ble_eq_true rfl) ?_
 have hloop:=zhs (body:=evC (evW code lib) big zl8) (live:=[0,1,5,6,7]) (nb:=0) (zny s c) s (fun q k=>q.2≤k∧q.1.length≤k)
  (fCut s c) (fun q=>(.exit 0,⟨[(0,.flat (.string (S s))),(5,.slc q.1.length (zas q.1)),(6,.flat (.int .i64 (q.2:Nat)))],[.slot 5],[],[]⟩)) (fun ⟨out,fr⟩ k x hi hk hc hd=>?_) (fun _ _=>by simp only [zny,go_sem,simprocAttr]) (fun ⟨out,fr⟩ k x a' hi _ _ h=>by
    simp only [fCut,Sum.inl.injEq] at h;subst h;dsimp only at hi;split
    ·simp only [List.length_append,List.length_cons,List.length_nil];omega
    ·dsimp only;omega) (fun _ _ x r h=>by simp [fCut] at h) (fun ⟨out,fr⟩ hi=>?_) (fun _=>by simp) ([],0) ⟨Nat.le_refl _,Nat.le_refl _⟩ (by unfold big;omega)
 ·obtain ⟨⟨out,fr⟩,h1,h2,h3,h4⟩:=zuf s c (fun q=>(.exit 0,⟨[(0,.flat (.string (S s))),(5,.slc q.1.length (zas q.1)),(6,.flat (.int .i64 (q.2:Nat)))],[.slot 5],[],[]⟩)) s [] 0 0 rfl (Nat.le_refl _) (Nat.zero_le _) (by simp)
  rw [h1] at hloop
  simp only [zny,n0,List.length_nil,zas,List.map_nil] at hloop
  simp only [List.nil_append,List.drop_zero] at h2
  have hb:out.length+1≤bound:=by unfold bound;simp only [List.length_nil] at h4;omega
  have c1:(0:Int)≤(fr:Nat):=by omega
  have c2:(fr:Int)≤s.length:=by dsimp only at h3;omega
  have tk:(s.take s.length).drop fr=s.drop fr:=by rw [List.take_length]
  have e1:[PV.flat (.string (S (s.drop fr)))]=zas [s.drop fr]:=rfl
  have e2:List.map (fun x=>PV.flat (.string (S x))) out=zas out:=rfl
  rw [e2] at hloop
  simp only [go_sem,simprocAttr,hloop,zcv,z1x,c1,c2,tk,Int.toNat_natCast,za0,ze5,hb]
  rw [← h2]
  simp only [e1,zhg,List.length_append,List.length_cons,List.length_nil]
 ·dsimp only at hi
  have c1:(k:Int)<s.length:=by omega
  have c2:(0:Int)≤(k:Nat):=by omega
  have c3:(0:Int)≤(fr:Nat):=by omega
  have c4:(fr:Int)≤(k:Nat):=by omega
  have c5:(k:Int)≤s.length:=by omega
  have w1:IntKind.i64.wrap ((k:Int)+1)=((k+1:Nat):Int):=wrap64 (by omega)
  have hb:out.length+1≤bound:=by unfold bound;omega
  have e1:[PV.flat (.string (S ((s.take k).drop fr)))]=zas [(s.take k).drop fr]:=rfl
  have d1:((x.toNat:Int)=c.toNat)=(x.toNat=c.toNat):=by apply propext;omega
  by_cases h:x.toNat=c.toNat
  ·have h':=eq_true h
   simp only [zkd,zny,fCut,go_sem,simprocAttr,zcv,yb5,z1x,Int.toNat_natCast,hc,zk3,c1,c2,c3,c4,c5,w1,d1,h',hb,za0,ze5]
   simp only [e1,zhg,List.length_append,List.length_cons,List.length_nil]
  ·have h':=eq_false h
   simp only [zkd,zny,fCut,go_sem,simprocAttr,zcv,yb5,z1x,Int.toNat_natCast,hc,zk3,c1,c2,w1,d1,h']
 ·dsimp only at hi
  have c1:¬ (s.length:Int)<s.length:=by omega
  simp only [zkd,zny,go_sem,simprocAttr,zcv,c1]
def zgt (mark:Str):Str:=[45,45]++mark++[13,10]
def zgu (mark:Str):Str:=[13,10,45,45]++mark++[13,10]
def endB (mark:Str):Str:=[13,10,45,45]++mark++[45,45,13,10]
def bodT (s mark:Str) (q:List Str × Nat × Nat):(List Str × Nat × Nat) ⊕ Option (List Str × Bool) :=
 if q.2.2<s.length then
  if za4 s (zgu mark) q.2.2 then .inl (q.1++[(s.take q.2.2).drop q.2.1],q.2.2+(zgu mark).length,q.2.2+(zgu mark).length)
  else if za4 s (endB mark) q.2.2 then .inr (some (q.1++[(s.take q.2.2).drop q.2.1],decide (q.2.2+(endB mark).length=s.length)))
  else .inl (q.1,q.2.1,q.2.2+1)
 else .inr none
def zmd (s mark:Str):Option (List Str × Bool):=if za4 s (zgt mark) 0 then runS (bodT s mark) none (s.length+1) ([],(zgt mark).length,(zgt mark).length) else none
def zx6 (s mark:Str) (q:List Str × Nat × Nat):St:=⟨[(0,.flat (.string (S s))),(7,.flat (.string (S (zgu mark)))),(8,.flat (.string (S (endB mark)))),(9,.slc q.1.length (zas q.1)),(10,.flat (.int .i64 (q.2.1:Nat))),(11,.flat (.int .i64 (q.2.2:Nat)))],[.slot 9],[],[]⟩
def finB:Option (List Str × Bool)→Out × St
 | none=>(.exit 0,⟨[],[],[],[]⟩)
 | some (out,ok)=>(.ret,⟨[(4,.slc out.length (zas out)),(5,.flat (.bool ok))],[.slot 4],[],[]⟩)
theorem zfd {s w:Str} {k:Nat} (h:za4 s w k=true):k+w.length≤s.length:=by
 unfold za4 at h
 rw [Bool.and_eq_true,decide_eq_true_eq] at h
 have:=List.IsPrefix.length_le (List.isPrefixOf_iff_prefix.1 h.2)
 rw [List.length_drop] at this;omega
theorem z6g (s mark:Str) (hs:s.length≤100000000) (hm:mark.length≤1000000):evW code lib 67 [.flat (.string (S s)),.flat (.string (S mark))] [] []=some (match zmd s mark with
 | none=>([.slc 0 [],.flat (.bool false)],false,[],[])
 | some (out,ok)=>([.slc out.length (zas out),.flat (.bool ok)],false,[],[])):=by
 have hbv:bound=4294967296:=rfl
 have lo:(zgt mark).length=mark.length+4:=by simp [zgt]
 have lb:(zgu mark).length=mark.length+6:=by simp [zgu]
 have le:(endB mark).length=mark.length+8:=by simp [endB]
 have b1:=zb2 (lib:=lib) s (zgt mark) 0 (by omega) (by omega) (by omega)
 simp only [n0] at b1
 refine zbw zqj (Nat.le_of_ble_eq_true rfl) ?_
 unfold zmd
 have ho:S (45::45::(mark++[13,10]))=S (zgt mark):=rfl
 have hb:S (13::10::45::45::(mark++[13,10]))=S (zgu mark):=rfl
 have he:S (13::10::45::45::(mark++[45,45,13,10]))=S (endB mark):=rfl
 cases ho1:za4 s (zgt mark) 0 with
 | false =>
   rw [ho1] at b1
   simp (maxSteps:=999999) (disch:=first | assumption | omega) only [go_sem,simprocAttr,au,b1,ho,hb,he]
 | true =>
   rw [ho1] at b1
   have hlen:=zfd ho1
   have hloop:=zzo (body:=evC (evW code lib) big zih) (live:=[0,7,8,9,10,11]) (nb:=0) (zx6 s mark) (bodT s mark) none finB (fun q=>q.2.1≤q.2.2∧q.2.2≤s.length∧q.1.length≤q.2.2) (fun q=>s.length - q.2.2) (fun q hq=>?_) (fun q hq=>by simp only [zx6,go_sem,simprocAttr])
    (fun a b ha h=>?_) (fun r=>by cases r<;>simp [finB]) (n:=s.length+1) ([],(zgt mark).length,(zgt mark).length) ⟨Nat.le_refl _,by dsimp only;omega,Nat.zero_le _⟩ (by dsimp only;omega) (by dsimp only;unfold big;omega)
   ·obtain ⟨R,hR⟩:∃ R,runS (bodT s mark) none (s.length+1) ([],(zgt mark).length,(zgt mark).length)=R:=⟨_,rfl⟩
    rw [hR] at hloop
    simp only [if_true,hR]
    unfold zx6 at hloop
    have e0:zas ([]:List Str)=[]:=rfl
    simp only [List.length_nil,e0] at hloop
    have hs5:(S (zgt mark)).size=(zgt mark).length:=zcv
    cases R with
    | none =>
      simp only [finB] at hloop
      simp (maxSteps:=999999) (disch:=first | assumption | omega) only [go_sem,simprocAttr,au,b1,ho,hb,he,hloop,hs5]
    | some r =>
      obtain ⟨out,ok⟩:=r
      simp only [finB] at hloop
      simp (maxSteps:=999999) (disch:=first | assumption | omega) only [go_sem,simprocAttr,au,b1,ho,hb,he,hloop,hs5]
   ·obtain ⟨out,fr,i⟩:=q
    obtain ⟨h1,h2,h3⟩:=hq
    dsimp only at h1 h2 h3
    have c1:=zb2 (lib:=lib) s (zgu mark) i (by omega) (by omega) (by omega)
    have c2:=zb2 (lib:=lib) s (endB mark) i (by omega) (by omega) (by omega)
    have e1:[PV.flat (.string (S ((s.take i).drop fr)))]=zas [(s.take i).drop fr]:=rfl
    unfold bodT
    dsimp only
    by_cases hlt:i<s.length
    ·rw [if_pos hlt]
     cases hb1:za4 s (zgu mark) i with
     | true =>
       rw [hb1] at c1
       have hl1:=zfd hb1
       simp only [if_true,outS]
       obtain ⟨n,hn⟩:∃ n,(zgu mark).length=n:=⟨_,rfl⟩
       simp only [hn] at hl1 lb ⊢
       unfold zx6
       have hsz:(S (zgu mark)).size=n:=by rw [zcv,hn]
       have w2:IntKind.i64.wrap ((i:Int)+(n:Int) - 1+1)=((i+n:Nat):Int):=by rw [wrap64 (by omega)];omega
       simp (maxSteps:=999999) (disch:=first | assumption | omega) only [go_sem,simprocAttr,au,c1,hsz,zfq,za0,ze5,w2]
       simp only [e1,zhg,List.length_append,List.length_cons,List.length_nil]
     | false =>
       rw [hb1] at c1
       simp only [Bool.false_eq_true,if_false]
       cases hb2:za4 s (endB mark) i with
       | true =>
         rw [hb2] at c2
         have hl1:=zfd hb2
         simp only [if_true,outS,finB]
         obtain ⟨n,hn⟩:∃ n,(endB mark).length=n:=⟨_,rfl⟩
         simp only [hn] at hl1 le ⊢
         unfold zx6
         have hsz:(S (endB mark)).size=n:=by rw [zcv,hn]
         simp (maxSteps:=999999) (disch:=first | assumption | omega) only [go_sem,simprocAttr,au,c1,c2,hsz,zfq,za0,ze5]
         have d1:((i:Int)+(n:Int)=(s.length:Nat))=(i+n=s.length):=by apply propext;omega
         simp only [e1,zhg,List.length_append,List.length_cons,List.length_nil,d1,Nat.zero_add]
       | false =>
         rw [hb2] at c2
         simp only [Bool.false_eq_true,if_false,outS]
         unfold zx6
         simp (maxSteps:=999999) (disch:=first | assumption | omega) only [go_sem,simprocAttr,au,c1,c2,zfq]
    ·rw [if_neg hlt]
     simp only [outS,finB]
     unfold zx6
     simp (maxSteps:=999999) (disch:=first | assumption | omega) only [go_sem,simprocAttr,au,zfq]
   ·obtain ⟨out,fr,i⟩:=a
    obtain ⟨h1,h2,h3⟩:=ha
    dsimp only at h1 h2 h3
    unfold bodT at h
    dsimp only at h
    split at h
    ·split at h
     ·rename_i hb1
      have:=zfd hb1
      cases h
      dsimp only
      simp only [List.length_append,List.length_cons,List.length_nil]
      omega
     ·split at h
      ·cases h
      ·cases h
       dsimp only
       omega
    ·cases h
end Nun
end
