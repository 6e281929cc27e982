/- EmailHolds answers true for every mail, where the table of base64 is laid az start-up lays it: texts of this proof, merged. -/
import Derived.Test.YtmpiobfdchlikaaGreatDoorPe
set_option linter.unusedVariables false
set_option linter.unusedSimpArgs false
section
namespace Nun
open Go Go.RowKit Go.Proofs Go.Proofs.YtmpiobfdchlikaaGreatDoor
def runS {σ ρ:Type} (step:σ→σ ⊕ ρ) (d:ρ):Nat→σ→ρ
 | 0,_=>d
 | n+1,a=>match step a with
   | .inl b=>runS step d n b
   | .inr r=>r
theorem runS_inl {σ ρ:Type} {step:σ→σ ⊕ ρ} {d:ρ} {n:Nat} {a b:σ} (h:step a=.inl b):runS step d (n+1) a=runS step d n b:=by simp only [runS,h]
theorem runS_inr {σ ρ:Type} {step:σ→σ ⊕ ρ} {d r:ρ} {n:Nat} {a:σ} (h:step a=.inr r):runS step d (n+1) a=r:=by simp only [runS,h]
theorem runS_eq {σ ρ:Type} {step:σ→σ ⊕ ρ} {d:ρ} {I:σ→Prop} {μ:σ→Nat} (h:∀ a b,I a→step a=.inl b→I b∧μ b<μ a):∀ (n m:Nat) (a:σ),I a→μ a<n→μ a<m→runS step d n a=runS step d m a
 | 0,_,_,_,h1,_=>by omega
 | _,0,_,_,_,h2=>by omega
 | n+1,m+1,a,hi,h1,h2=>by
   cases hs:step a with
   | inl b =>
     obtain ⟨k1,k2⟩:=h a b hi hs
     rw [runS_inl hs,runS_inl hs]
     exact runS_eq h n m b k1 (by omega) (by omega)
   | inr r=>rw [runS_inr hs,runS_inr hs]
theorem runS_inv {σ ρ:Type} {step:σ→σ ⊕ ρ} {d:ρ} {I:σ→Prop} {μ:σ→Nat} {Q:ρ→Prop} (h:∀ a,I a→match step a with | .inl b=>I b∧μ b<μ a | .inr r=>Q r):∀ (n:Nat) (a:σ),I a→μ a<n→Q (runS step d n a)
 | 0,_,_,h1=>by omega
 | n+1,a,hi,h1=>by
   have hs:=h a hi
   cases hk:step a with
   | inl b=>rw [hk] at hs;rw [runS_inl hk];exact runS_inv h n b hs.1 (by have:=hs.2;omega)
   | inr r=>rw [hk] at hs;rw [runS_inr hk];exact hs
def outS {σ ρ:Type} (head:σ→St) (fin:ρ→Out × St):σ ⊕ ρ→Out × St
 | .inl b=>(.normal,head b)
 | .inr r=>fin r
theorem loop_run {σ ρ:Type} {body:St→Option (Out × St)} {live:List Nat} {nb:Nat} (head:σ→St) (step:σ→σ ⊕ ρ) (d:ρ) (fin:ρ→Out × St) (I:σ→Prop) (μ:σ→Nat)
 (hr:∀ a,I a→body (head a)=some (outS head fin (step a))) (ho:∀ a,I a→(head a).only live nb=head a) (hI:∀ a b,I a→step a=.inl b→I b∧μ b<μ a) (hf:∀ r,(fin r).1≠.normal) {n:Nat} (a:σ) (hi:I a) (hn:μ a<n) (hb:μ a<big) :
 evLoop body live nb big (head a)=some (fin (runS step d n a)):=by
 have hloop:=loop_by (body:=body) (live:=live) (nb:=nb) head I μ (fun a=>fin (runS step d (μ a+1) a)) (fun a hi=>?_) (n:=big) (a:=a) hi hb
 ·rw [hloop,runS_eq hI (μ a+1) n a hi (by omega) hn]
 ·have h1:=hr a hi
  cases hs:step a with
  | inl b =>
    rw [hs] at h1
    obtain ⟨k1,k2⟩:=hI a b hi hs
    refine .inr ⟨head b,b,h1,ho b k1,k1,k2,?_⟩
    rw [runS_inl hs,runS_eq hI (μ b+1) (μ a) b k1 (by omega) (by omega)]
  | inr r =>
    rw [hs] at h1
    exact .inl ⟨(fin r).1,(fin r).2,h1,hf r,by rw [runS_inr hs]⟩
def digN (n:Nat):Nat:=if 48≤n∧n≤57 then n - 48 else if 65≤n∧n≤70 then n - 55 else if 97≤n∧n≤102 then n - 87 else 99
def numRun (base:Nat):Nat→Nat→Str→Nat × Nat
 | 0,n,_=>(n,0)
 | _+1,n,[]=>(n,0)
 | m+1,n,c::t=>if digN c.toNat<base then ((numRun base m (n * base+digN c.toNat) t).1,(numRun base m (n * base+digN c.toNat) t).2+1) else (n,0)
def numE (base most:Nat) (s:Str):Option (Str × Nat) :=
 if (numRun base most 0 s).1≠0∧isN (numRun base most 0 s).1=true∧s[(numRun base most 0 s).2]? =some 59 then some (bytesU (numRun base most 0 s).1,(numRun base most 0 s).2+1) else none
def oneE (s:Str):Option (Str × Nat) :=
 if ([38,97,109,112,59]:Str).isPrefixOf s then some ([38],5)
 else if ([38,108,116,59]:Str).isPrefixOf s then some ([60],4)
 else if ([38,103,116,59]:Str).isPrefixOf s then some ([62],4)
 else if ([38,113,117,111,116,59]:Str).isPrefixOf s then some ([34],6)
 else if ([38,35,120]:Str).isPrefixOf s then (numE 16 6 (s.drop 3)).map fun q=>(q.1,3+q.2)
 else if ([38,35]:Str).isPrefixOf s then (numE 10 7 (s.drop 2)).map fun q=>(q.1,2+q.2)
 else none
theorem numRun_len (base:Nat):∀ (m n:Nat) (s:Str),(numRun base m n s).2≤m∧(numRun base m n s).2≤s.length
 | 0,n,s=>by simp [numRun]
 | m+1,n,[]=>by simp [numRun]
 | m+1,n,c::t=>by
   have:=numRun_len base m (n * base+digN c.toNat) t
   simp only [numRun]
   split
   ·simp only [List.length_cons];omega
   ·simp
theorem pre_len {p s:Str} (h:p.isPrefixOf s=true):p.length≤s.length:=(List.isPrefixOf_iff_prefix.1 h).length_le
theorem numE_len {base most:Nat} {s:Str} {q:Str × Nat} (h:numE base most s=some q):1≤q.2∧q.2≤s.length∧q.1.length≤4:=by
 unfold numE at h
 split at h
 ·rename_i hc
  obtain ⟨_,_,h3⟩:=hc
  have:=(List.getElem?_eq_some_iff.1 h3).1
  simp only [Option.some.injEq] at h
  subst h
  exact ⟨by simp,by dsimp only;omega,bytesU_len _⟩
 ·cases h
theorem oneE_len {s:Str} {q:Str × Nat} (h:oneE s=some q):1≤q.2∧q.2≤s.length∧q.1.length≤4:=by
 unfold oneE at h
 split at h
 ·rename_i hp;have:=pre_len hp;simp only [Option.some.injEq] at h;subst h;simp at this ⊢;omega
 split at h
 ·rename_i hp;have:=pre_len hp;simp only [Option.some.injEq] at h;subst h;simp at this ⊢;omega
 split at h
 ·rename_i hp;have:=pre_len hp;simp only [Option.some.injEq] at h;subst h;simp at this ⊢;omega
 split at h
 ·rename_i hp;have:=pre_len hp;simp only [Option.some.injEq] at h;subst h;simp at this ⊢;omega
 split at h
 ·rename_i hp;have h3:=pre_len hp
  obtain ⟨q',h1,rfl⟩:=Option.map_eq_some_iff.1 h
  have:=numE_len h1
  simp only [List.length_drop,List.length_cons,List.length_nil] at this h3 ⊢;omega
 split at h
 ·rename_i hp;have h3:=pre_len hp
  obtain ⟨q',h1,rfl⟩:=Option.map_eq_some_iff.1 h
  have:=numE_len h1
  simp only [List.length_drop,List.length_cons,List.length_nil] at this h3 ⊢;omega
 ·cases h
def saysT (s:Str) (e bad:UInt8) (q:Str × Nat):(Str × Nat) ⊕ Option (Str × Nat):=match s[q.2]? with
 | none=>.inr (some q)
 | some c=>if c=e then .inr (some q) else if c=bad then .inr none else if c=38 then (match oneE (s.drop q.2) with
   | none=>.inr none
   | some (b,k)=>.inl (q.1++b,q.2+k)) else .inl (q.1++[c],q.2+1)
def saysE (s:Str) (e bad:UInt8) (at_:Nat):Option (Str × Nat):=runS (saysT s e bad) none (s.length+1) ([],at_)
theorem saysT_in {s:Str} {e bad:UInt8} (at0:Nat):∀ a b:Str × Nat,(a.2≤s.length∧at0≤a.2∧a.1.length≤4 * (a.2 - at0))→saysT s e bad a=.inl b→(b.2≤s.length∧at0≤b.2∧b.1.length≤4 * (b.2 - at0))∧s.length - b.2<s.length - a.2
 | (out,k),b,⟨h1,h2,h3⟩,h=>by
   unfold saysT at h
   dsimp only at h h1 h2 h3
   split at h
   ·cases h
   ·rename_i c hc
    have hlt:=(List.getElem?_eq_some_iff.1 hc).1
    split at h
    ·cases h
    split at h
    ·cases h
    split at h
    ·split at h
     ·cases h
     ·rename_i x n hx
      have:=oneE_len hx
      simp only [Sum.inl.injEq] at h
      subst h
      simp only [List.length_drop,List.length_append] at this ⊢
      omega
    ·simp only [Sum.inl.injEq] at h
     subst h
     simp only [List.length_append,List.length_cons,List.length_nil]
     omega
theorem saysE_len {s:Str} {e bad:UInt8} {at_:Nat} (h:at_≤s.length) {q:Str × Nat} (hq:saysE s e bad at_=some q):at_≤q.2∧q.2≤s.length∧q.1.length≤4 * s.length∧(s[q.2]? =none∨s[q.2]? =some e):=by
 have:=runS_inv (step:=saysT s e bad) (d:=none) (I:=fun a=>a.2≤s.length∧at_≤a.2∧a.1.length≤4 * (a.2 - at_)) (μ:=fun a=>s.length - a.2) (Q:=fun r=>∀ q,r=some q→at_≤q.2∧q.2≤s.length∧q.1.length≤4 * s.length∧(s[q.2]? =none∨s[q.2]? =some e)) (fun a hi=>by
  cases hs:saysT s e bad a with
  | inl b=>exact saysT_in at_ a b hi hs
  | inr r =>
    intro q hq
    subst hq
    unfold saysT at hs
    split at hs
    ·rename_i hn
     simp only [Sum.inr.injEq,Option.some.injEq] at hs
     subst hs
     exact ⟨hi.2.1,hi.1,by omega,.inl hn⟩
    ·rename_i c hc
     split at hs
     ·rename_i he
      subst he
      simp only [Sum.inr.injEq,Option.some.injEq] at hs
      subst hs
      exact ⟨hi.2.1,hi.1,by omega,.inr hc⟩
     ·split at hs
      ·simp at hs
      ·split at hs
       ·split at hs<;>simp at hs
       ·simp at hs) (s.length+1) ([],at_) ⟨h,Nat.le_refl _,by simp⟩ (by dsimp only;omega)
 exact this q hq
def letB (c:UInt8):Bool:=(decide (97≤c.toNat) && decide (c.toNat≤122)) || (decide (48≤c.toNat) && decide (c.toNat≤57))
def blankB (c:UInt8):Bool:=decide (c.toNat=32) || (decide (c.toNat=9) || decide (c.toNat=10))
def wordE (s:Str) (at_:Nat):Str:=(s.drop at_).takeWhile letB
def gapE (s:Str) (at_:Nat):Str:=(s.drop at_).takeWhile blankB
structure Att where
 name:Str
 val:Str
 fr:Nat
 to:Nat
structure Tok where
 kind:UInt8
 name:Str
 text:Str
 attrs:List Att
 fr:Nat
 to:Nat
def elemsE:List Str:=[[97],[98],[98,114],[99,111,100,101],[100,105,118],[101,109],[104,49],[104,50],[104,51],[104,114],[105],[105,109,103],[108,105],[111,108],[112],[112,114,101],[115,112,97,110],[115,116,114,111,110,103],[116,97,98,108,101],[116,98,111,100,121],[116,100],[116,104],[116,104,101,97,100],[116,114],[117],[117,108]]
def attrsE:List Str:=[[97,108,116],[99,108,97,115,115],[99,111,108,115,112,97,110],[104,114,101,102],[105,100],[114,111,119,115,112,97,110],[115,114,99],[116,105,116,108,101],[119,105,100,116,104]]
def voidE (s:Str):Bool:=decide (s=[98,114]) || (decide (s=[104,114]) || decide (s=[105,109,103]))
def attE (s:Str) (at_:Nat):Option (Att × Nat) :=
 if attrsE.contains (wordE s at_) && beginsU s [61,34] (at_+(wordE s at_).length) then (match saysE s 34 60 (at_+(wordE s at_).length+2) with
  | none=>none
  | some (v,e)=>if e<s.length then some (⟨wordE s at_,v,at_+(wordE s at_).length+2,e⟩,e+1) else none)
 else none
def openT (s:Str) (q:List Att × Nat):(List Att × Nat) ⊕ Option (List Att × Nat) :=
 if beginsU s [62] (q.2+(gapE s q.2).length) then .inr (some (q.1,q.2+(gapE s q.2).length+1))
 else match attE s (q.2+(gapE s q.2).length) with
  | none=>.inr none
  | some (a,e)=>if (gapE s q.2).length=0∨(q.1.any fun b=>decide (b.name=a.name))=true then .inr none else .inl (q.1++[a],e)
def openE (s:Str) (at_:Nat):Option (List Att × Nat):=runS (openT s) none (s.length+1) ([],at_)
def nextE (s:Str) (at_:Nat):Option Tok :=
 if beginsU s [60,47] at_ then
  (if elemsE.contains (wordE s (at_+2)) && (!voidE (wordE s (at_+2)) && beginsU s [62] (at_+2+(wordE s (at_+2)).length)) then some ⟨99,wordE s (at_+2),[],[],at_,at_+2+(wordE s (at_+2)).length+1⟩ else none)
 else if beginsU s [60] at_ then
  (if elemsE.contains (wordE s (at_+1)) then (openE s (at_+1+(wordE s (at_+1)).length)).map fun q=>⟨111,wordE s (at_+1),[],q.1,at_,q.2⟩ else none)
 else (saysE s 60 62 at_).map fun q=>⟨116,[],q.1,[],at_,q.2⟩
def tokT (s:Str) (q:List Tok × Nat):(List Tok × Nat) ⊕ Option (List Tok) :=
 if s.length≤q.2 then .inr (some q.1) else match nextE s q.2 with
  | none=>.inr none
  | some t=>.inl (q.1++[t],t.to)
def toksE (s:Str):Option (List Tok):=if isU s then runS (tokT s) none (s.length+1) ([],0) else none
end Nun
end
section
namespace Nun
open Go
theorem ilt_t {a b:Int} (h:a<b):(a<b)=True:=eq_true h
theorem ilt_f {a b:Int} (h:b≤a):(a<b)=False:=eq_false (by omega)
theorem ile_t {a b:Int} (h:a≤b):(a≤b)=True:=eq_true h
theorem ile_f {a b:Int} (h:b<a):(a≤b)=False:=eq_false (by omega)
theorem ieq_t {a b:Int} (h:a=b):(a=b)=True:=eq_true h
theorem ieq_f {a b:Int} (h:a<b∨b<a):(a=b)=False:=eq_false (by omega)
theorem nlt_t {a b:Nat} (h:a<b):(a<b)=True:=eq_true h
theorem nlt_f {a b:Nat} (h:b≤a):(a<b)=False:=eq_false (by omega)
theorem nle_t {a b:Nat} (h:a≤b):(a≤b)=True:=eq_true h
theorem nle_f {a b:Nat} (h:b<a):(a≤b)=False:=eq_false (by omega)
theorem neq_t {a b:Nat} (h:a=b):(a=b)=True:=eq_true h
theorem neq_f {a b:Nat} (h:a<b∨b<a):(a=b)=False:=eq_false (by omega)
theorem wr_64 {x:Int} (h1:-9223372036854775808≤x) (h2:x<9223372036854775808):IntKind.i64.wrap x=x:=wrap64 ⟨h1,h2⟩
theorem wr_8 {x:Int} (h1:0≤x) (h2:x<256):IntKind.u8.wrap x=x:=wrap8 ⟨h1,h2⟩
theorem wr_32 {x:Int} (h1:-2147483648≤x) (h2:x<2147483648):IntKind.i32.wrap x=x:=wrap32 ⟨h1,h2⟩
theorem u8_nat (a b:UInt8):(a=b)=(a.toNat=b.toNat):=by rw [UInt8.toNat_inj]
theorem tn_add (k m:Nat):((k:Int)+(m:Int)).toNat=k+m:=by omega
theorem tn_1 (k:Nat):((k:Int)+1).toNat=k+1:=by omega
theorem tn_2 (k:Nat):((k:Int)+2).toNat=k+2:=by omega
theorem tn_3 (k:Nat):((k:Int)+3).toNat=k+3:=by omega
theorem ile_lit {n m:Nat}:((n:Int)≤(no_index (@OfNat.ofNat Int m instOfNat)))=(n≤@OfNat.ofNat Nat m (instOfNatNat m)):=propext Int.ofNat_le
theorem ile_lil {n m:Nat}:((no_index (@OfNat.ofNat Int m instOfNat))≤(n:Int))=(@OfNat.ofNat Nat m (instOfNatNat m)≤n):=propext Int.ofNat_le
theorem ilt_lit {n m:Nat}:((n:Int)<(no_index (@OfNat.ofNat Int m instOfNat)))=(n<@OfNat.ofNat Nat m (instOfNatNat m)):=propext Int.ofNat_lt
theorem ilt_lil {n m:Nat}:((no_index (@OfNat.ofNat Int m instOfNat))<(n:Int))=(@OfNat.ofNat Nat m (instOfNatNat m)<n):=propext Int.ofNat_lt
theorem ieq_lit {n m:Nat}:((n:Int)=(no_index (@OfNat.ofNat Int m instOfNat)))=(n=@OfNat.ofNat Nat m (instOfNatNat m)):=propext Int.ofNat_inj
theorem ieq_lil {n m:Nat}:((no_index (@OfNat.ofNat Int m instOfNat))=(n:Int))=(@OfNat.ofNat Nat m (instOfNatNat m)=n):=propext Int.ofNat_inj
theorem ile_nn {n m:Nat}:((n:Int)≤(m:Int))=(n≤m):=propext Int.ofNat_le
theorem ilt_nn {n m:Nat}:((n:Int)<(m:Int))=(n<m):=propext Int.ofNat_lt
theorem ieq_nn {n m:Nat}:((n:Int)=(m:Int))=(n=m):=propext Int.ofNat_inj
end Nun
namespace Go.Proofs.YtmpiobfdchlikaaGreatDoor
open Go Nun
theorem au:(((((type_of% @ile_lit)∧((type_of% @ile_lil)∧(type_of% @ilt_lit)))∧(((type_of% @ilt_lil)∧(type_of% @ieq_lit))∧((type_of% @ieq_lil)∧(type_of% @ile_nn))))∧((((type_of% @ilt_nn)∧(type_of% @ieq_nn))∧((type_of% @ilt_t)∧(type_of% @ilt_f)))∧(((type_of% @ile_t)∧(type_of% @ile_f))∧((type_of% @ieq_t)∧(type_of% @ieq_f)))))∧(((((type_of% @nlt_t)∧(type_of% @nlt_f))∧((type_of% @nle_t)∧(type_of% @nle_f)))∧(((type_of% @neq_t)∧(type_of% @neq_f))∧((type_of% @wr_64)∧(type_of% @wr_8))))∧((((type_of% @wr_32)∧(type_of% @S_size))∧((type_of% @S_get)∧(type_of% @S_ext)))∧(((type_of% @S_app)∧(type_of% @S_eqB))∧((type_of% @mk_S)∧(type_of% @kByte_some))))))∧(((((type_of% @decide_eq_true_eq)∧((type_of% @decide_eq_false_iff_not)∧(type_of% @Int.toNat_natCast)))∧(((type_of% @tn_add)∧(type_of% @tn_1))∧((type_of% @tn_2)∧(type_of% @tn_3))))∧((((type_of% @cl_keep)∧(type_of% @cl_owns))∧((type_of% @cl_cells)∧(type_of% @cl_drop)))∧(((type_of% @cl_slots)∧(type_of% @cl_under))∧((type_of% @cl_dropC)∧(type_of% @cl_dropL)))))∧(((((type_of% @dropCs_nil)∧(type_of% @List.length_set.{0}))∧((type_of% @List.take_length.{0})∧(type_of% @List.set_set.{0})))∧(((type_of% @List.append_assoc.{0})∧(type_of% @Bool.or_true))∧((type_of% @Bool.true_or)∧(type_of% @Bool.or_false))))∧((((type_of% @Bool.false_or)∧(type_of% @Bool.cond_true.{0}))∧((type_of% @Bool.cond_false.{0})∧(type_of% @Int.natCast_add)))∧(((type_of% @Int.natCast_one)∧(type_of% @n0))∧((type_of% @n1)∧(type_of% @n2)))))) :=
 ⟨⟨⟨⟨⟨@ile_lit,⟨@ile_lil,@ilt_lit⟩⟩,⟨⟨@ilt_lil,@ieq_lit⟩,⟨@ieq_lil,@ile_nn⟩⟩⟩,⟨⟨⟨@ilt_nn,@ieq_nn⟩,⟨@ilt_t,@ilt_f⟩⟩,⟨⟨@ile_t,@ile_f⟩,⟨@ieq_t,@ieq_f⟩⟩⟩⟩,⟨⟨⟨⟨@nlt_t,@nlt_f⟩,⟨@nle_t,@nle_f⟩⟩,⟨⟨@neq_t,@neq_f⟩,⟨@wr_64,@wr_8⟩⟩⟩,⟨⟨⟨@wr_32,@S_size⟩,⟨@S_get,@S_ext⟩⟩,⟨⟨@S_app,@S_eqB⟩,⟨@mk_S,@kByte_some⟩⟩⟩⟩⟩,⟨⟨⟨⟨@decide_eq_true_eq,⟨@decide_eq_false_iff_not,@Int.toNat_natCast⟩⟩,⟨⟨@tn_add,@tn_1⟩,⟨@tn_2,@tn_3⟩⟩⟩,⟨⟨⟨@cl_keep,@cl_owns⟩,⟨@cl_cells,@cl_drop⟩⟩,⟨⟨@cl_slots,@cl_under⟩,⟨@cl_dropC,@cl_dropL⟩⟩⟩⟩,⟨⟨⟨⟨@dropCs_nil,@List.length_set.{0}⟩,⟨@List.take_length.{0},@List.set_set.{0}⟩⟩,⟨⟨@List.append_assoc.{0},@Bool.or_true⟩,⟨@Bool.true_or,@Bool.or_false⟩⟩⟩,⟨⟨⟨@Bool.false_or,@Bool.cond_true.{0}⟩,⟨@Bool.cond_false.{0},@Int.natCast_add⟩⟩,⟨⟨@Int.natCast_one,@n0⟩,⟨@n1,@n2⟩⟩⟩⟩⟩⟩
end Go.Proofs.YtmpiobfdchlikaaGreatDoor
end
section
namespace Nun
open Go Go.RowKit Go.Proofs Go.Proofs.YtmpiobfdchlikaaGreatDoor
variable {lib:Callee}
def rd (s:Str) (k:Nat):List PV:=[.flat (.string (S s)),.flat (.int .i64 (k:Nat))]
theorem wr64 {k m:Nat} (h:k+m<9223372036854775808):IntKind.i64.wrap ((k:Int)+(m:Int))=((k+m:Nat):Int):=by rw [wrap64 (by omega)];rfl
theorem wr1 {k:Nat} (h:k+1<9223372036854775808):IntKind.i64.wrap ((k:Int)+1)=((k+1:Nat):Int):=wr64 (m:=1) h
theorem done_ev {bx:Boxes} {r:List (Nat × Nat)} {b e:Nat} {s:Str} {k:Nat} (hb:bx[b]? =some (e,rd s k)) (hlt:∀ q∈r,q.1<bx.length) :
 evW code lib 107 [.ptr b 0] bx (cl r)=some ([.flat (.bool (decide (s.length≤k)))],false,bx,cl r):=by
 refine evW_eq code_tags_left_done (Nat.le_of_ble_eq_true rfl) ?_
 unfold rd at hb
 simp only [go_sem,simprocAttr,hb,cl_keep,cl_owns,cl_cells,cl_drop,cl_slots,S_size,Int.ofNat_le,cl_under r hlt]
theorem take_ev (HP:LibPre lib) {bx:Boxes} {r:List (Nat × Nat)} {b e:Nat} {s w:Str} {k:Nat} (hb:bx[b]? =some (e,rd s k)) (hs:s.length≤1000000000) (hw:w.length≤1000000000) (hk:k≤s.length) (hr:∀ q∈r,q≠(b,1)) (hlt:∀ q∈r,q.1<bx.length) :
 evW code lib 159 [.ptr b 0,.flat (.string (S w))] bx (cl r)=some ([.flat (.bool (w.isPrefixOf (s.drop k)))],false,bx.set b (e,rd s (if w.isPrefixOf (s.drop k) then k+w.length else k)),cl r):=by
 refine evW_eq code_tags_left_take (Nat.le_of_ble_eq_true rfl) ?_
 have hsame:=set_same hb
 unfold rd at hb
 have hblt:b<bx.length:=(List.getElem?_eq_some_iff.1 hb).1
 have c0:(0:Int)≤(k:Nat):=by omega
 have c1:(k:Int)≤s.length:=by omega
 have tk:(s.take s.length).drop k=s.drop k:=by rw [List.take_length]
 have hp:=pre_ev HP (s.drop k) w (by rw [List.length_drop];omega) hw
 have w1:=wr64 (k:=k) (m:=w.length) (by omega)
 cases hpr:w.isPrefixOf (s.drop k) with
 | false =>
   rw [hpr] at hp
   simp only [hsame,Bool.false_eq_true,if_false]
   simp only [go_sem,simprocAttr,hb,cl_keep,cl_owns,cl_cells,cl_drop,cl_slots,S_size,S_ext,c0,c1,tk,Int.toNat_natCast,hp,cl_under r hlt]
 | true =>
   rw [hpr] at hp
   simp only [if_true]
   simp only [go_sem,simprocAttr,hb,cl_keep,cl_owns,cl_cells,cl_drop,cl_slots,cl_dropC r hr,S_size,S_ext,c0,c1,tk,Int.toNat_natCast,hp,w1,rd,List.length_set,cl_under r hlt]
theorem letter_ev (c:UInt8):evW code lib 161 [.flat (.int .u8 c.toNat)] [] []=some ([.flat (.bool (letB c))],false,[],[]):=by
 refine evW_eq code_tags_letter (Nat.le_of_ble_eq_true rfl) ?_
 unfold letB
 obtain ⟨n,hn⟩:∃ n,c.toNat=n:=⟨_,rfl⟩
 rw [hn]
 have d1:((97:Int)≤((n:Nat):Int))=(97≤n):=by apply propext;omega
 have d2:(((n:Nat):Int)≤(122:Int))=(n≤122):=by apply propext;omega
 have d3:((48:Int)≤((n:Nat):Int))=(48≤n):=by apply propext;omega
 have d4:(((n:Nat):Int)≤(57:Int))=(n≤57):=by apply propext;omega
 rcases Classical.em (97≤n) with a1 | a1
 all_goals first | (exfalso;omega) | skip
 all_goals rcases Classical.em (n≤122) with a2 | a2
 all_goals first | (exfalso;omega) | skip
 all_goals rcases Classical.em (48≤n) with a3 | a3
 all_goals first | (exfalso;omega) | skip
 all_goals rcases Classical.em (n≤57) with a4 | a4
 all_goals first | (exfalso;omega) | skip
 all_goals
  first | have e1:=eq_false a1 | have e1:=eq_true a1
  first | have e2:=eq_false a2 | have e2:=eq_true a2
  first | have e3:=eq_false a3 | have e3:=eq_true a3
  first | have e4:=eq_false a4 | have e4:=eq_true a4
  clear a1 a2 a3 a4
 all_goals simp only [go_sem,simprocAttr,d1,d2,d3,d4,e1,e2,e3,e4,Bool.true_or,Bool.or_true,Bool.false_or,Bool.or_false]
theorem blank_ev (c:UInt8):evW code lib 195 [.flat (.int .u8 c.toNat)] [] []=some ([.flat (.bool (blankB c))],false,[],[]):=by
 refine evW_eq code_tags_blank (Nat.le_of_ble_eq_true rfl) ?_
 unfold blankB
 obtain ⟨n,hn⟩:∃ n,c.toNat=n:=⟨_,rfl⟩
 rw [hn]
 have d1:(((n:Nat):Int)=(32:Int))=(n=32):=by apply propext;omega
 have d2:(((n:Nat):Int)=(9:Int))=(n=9):=by apply propext;omega
 have d3:(((n:Nat):Int)=(10:Int))=(n=10):=by apply propext;omega
 rcases Classical.em (n=32) with a1 | a1
 all_goals first | (exfalso;omega) | skip
 all_goals rcases Classical.em (n=9) with a2 | a2
 all_goals first | (exfalso;omega) | skip
 all_goals rcases Classical.em (n=10) with a3 | a3
 all_goals first | (exfalso;omega) | skip
 all_goals
  first | have e1:=eq_false a1 | have e1:=eq_true a1
  first | have e2:=eq_false a2 | have e2:=eq_true a2
  first | have e3:=eq_false a3 | have e3:=eq_true a3
  clear a1 a2 a3
 all_goals simp only [go_sem,simprocAttr,d1,d2,d3,e1,e2,e3,Bool.true_or,Bool.or_true,Bool.false_or,Bool.or_false]
def whT (s:Str) (p:UInt8→Bool) (k:Nat):Nat ⊕ Nat:=match s[k]? with
 | some c=>if p c then .inl (k+1) else .inr k
 | none=>.inr k
theorem takeWhile_run (s:Str) (p:UInt8→Bool):∀ (n k:Nat),s.length - k<n→k≤s.length→runS (whT s p) 0 n k=k+((s.drop k).takeWhile p).length
 | 0,k,h,_=>by omega
 | n+1,k,h,hk=>by
   by_cases hlt:k<s.length
   ·have hd:s.drop k=s[k]::s.drop (k+1):=List.drop_eq_getElem_cons hlt
    have hg:s[k]? =some s[k]:=List.getElem?_eq_getElem hlt
    rw [hd,List.takeWhile_cons]
    cases hp:p s[k] with
    | true =>
      rw [runS_inl (show whT s p k=.inl (k+1) by unfold whT;rw [hg];dsimp only;rw [if_pos hp]),takeWhile_run s p n (k+1) (by omega) hlt]
      simp only [if_true,List.length_cons];omega
    | false =>
      rw [runS_inr (show whT s p k=.inr k by unfold whT;rw [hg];dsimp only;rw [if_neg (by rw [hp];simp)])]
      simp
   ·have hg:s[k]? =none:=List.getElem?_eq_none (by omega)
    rw [runS_inr (show whT s p k=.inr k by unfold whT;rw [hg]),List.drop_of_length_le (by omega)]
    simp
theorem while_ev {bx:Boxes} {r:List (Nat × Nat)} {b e f:Nat} {s:Str} {k:Nat} {p:UInt8→Bool} (hb:bx[b]? =some (e,rd s k)) (hs:s.length≤1000000000) (hk:k≤s.length) (hr:∀ q∈r,q≠(b,1)) (hlt:∀ q∈r,q.1<bx.length)
 (hfy:(f=4611686018427387904)=False) (hf:∀ c:UInt8,evW code lib f [.flat (.int .u8 c.toNat)] [] []=some ([.flat (.bool (p c))],false,[],[])) :
 evW code lib 160 [.ptr b 0,.clo f []] bx (cl r)=some ([.flat (.string (S ((s.drop k).takeWhile p)))],false,bx.set b (e,rd s (k+((s.drop k).takeWhile p).length)),cl r):=by
 refine evW_eq code_tags_left_while (Nat.le_of_ble_eq_true rfl) ?_
 have hblt:b<bx.length:=(List.getElem?_eq_some_iff.1 hb).1
 have hloop:=loop_run (body:=evC (evW code lib) big b_tags_left_while_0) (live:=[0,1,5]) (nb:=bx.length) (fun j:Nat=>(⟨[(0,.ptr b 0),(1,.clo f []),(5,.flat (.int .i64 (k:Nat)))],cl r,[],bx.set b (e,rd s j)⟩:St))
  (whT s p) 0 (fun j=>(.exit 0,⟨[(0,.ptr b 0),(5,.flat (.int .i64 (k:Nat)))],cl r,[],bx.set b (e,rd s j)⟩)) (fun j=>j≤s.length) (fun j=>s.length - j) (fun j hj=>?_) (fun j hj=>?_) (fun j i hj h=>?_) (fun j=>by simp) (n:=s.length+1) k hk (by (try dsimp only);omega) (by unfold big;(try dsimp only);omega)
 ·rw [takeWhile_run s p _ k (by omega) hk,set_same hb] at hloop
  have hn:k+((s.drop k).takeWhile p).length≤s.length:=by
   have:=(List.takeWhile_prefix p (l:=s.drop k)).length_le
   rw [List.length_drop] at this;omega
  obtain ⟨n,hnn⟩:∃ n,k+((s.drop k).takeWhile p).length=n:=⟨_,rfl⟩
  have htk:(s.take n).drop k=(s.drop k).takeWhile p:=by
   rw [← hnn,List.drop_take,Nat.add_sub_cancel_left]
   exact (List.prefix_iff_eq_take.1 (List.takeWhile_prefix p)).symm
  rw [hnn] at hloop hn ⊢
  have hb2:(bx.set b (e,rd s n))[b]? =some (e,rd s n):=List.getElem?_set_self hblt
  unfold rd at hb hb2
  have c0:(0:Int)≤(k:Nat):=by omega
  have c1:(k:Int)≤(n:Nat):=by omega
  have c2:(n:Int)≤s.length:=by omega
  have c3:(0:Int)≤(n:Nat):=by omega
  simp only [rd] at hloop ⊢
  simp only [go_sem,simprocAttr,hb,hb2,hloop,cl_keep,cl_owns,cl_cells,cl_drop,cl_slots,S_size,S_ext,c0,c1,c2,c3,htk,Int.toNat_natCast,List.length_set,cl_under r hlt]
 ·have hb2:(bx.set b (e,rd s j))[b]? =some (e,rd s j):=List.getElem?_set_self hblt
  have hd:=done_ev (lib:=lib) (r:=r) hb2 (by rw [List.length_set];exact hlt)
  have hset:∀ q,(bx.set b (e,rd s j)).set b q=bx.set b q:=fun q=>List.set_set ..
  unfold rd at hb2 hd hset ⊢
  by_cases hlt2:j<s.length
  ·have hg:s[j]? =some s[j]:=List.getElem?_eq_getElem hlt2
   obtain ⟨c,hc⟩:∃ c,s[j]=c:=⟨_,rfl⟩
   rw [hc] at hg
   have hfc:=hf c
   have c1:¬ s.length≤j:=by omega
   have c2:(0:Int)≤(j:Nat):=by omega
   have w1:=wr1 (k:=j) (by omega)
   cases hp:p c with
   | true =>
     rw [hp] at hfc
     simp only [whT,hg,hp,if_true,outS]
     simp only [on_tags_left_while_0,go_sem,simprocAttr,hb2,hd,hset,hfy,hfc,cl_keep,cl_owns,cl_cells,cl_drop,cl_slots,cl_dropC r hr,S_size,S_get,hg,kByte_some,c1,c2,w1,Int.toNat_natCast,List.length_set,cl_under r hlt]
   | false =>
     rw [hp] at hfc
     simp only [whT,hg,hp,Bool.false_eq_true,if_false,outS]
     simp only [on_tags_left_while_0,go_sem,simprocAttr,hb2,hd,hset,hfy,hfc,cl_keep,cl_owns,cl_cells,cl_drop,cl_slots,cl_dropC r hr,S_size,S_get,hg,kByte_some,c1,c2,w1,Int.toNat_natCast,List.length_set,cl_under r hlt]
  ·have hg:s[j]? =none:=List.getElem?_eq_none (by omega)
   have c1:s.length≤j:=by omega
   simp only [whT,hg,outS]
   simp only [on_tags_left_while_0,go_sem,simprocAttr,hb2,hd,cl_keep,cl_owns,cl_cells,cl_drop,cl_slots,c1,List.length_set,cl_under r hlt]
 ·simp only [go_sem,simprocAttr,cl_keep,cl_owns,List.length_set,cl_under r hlt]
 ·unfold whT at h
  split at h
  ·rename_i c hc
   have:=(List.getElem?_eq_some_iff.1 hc).1
   split at h
   ·cases h;(try dsimp only);omega
   ·cases h
  ·cases h
theorem loop_rel {η σ ρ:Type} {body:St→Option (Out × St)} {live:List Nat} {nb:Nat} (head:η→σ→St) (step:σ→σ ⊕ ρ) (d:ρ) (Q:ρ→Out→St→Prop) (I:σ→Prop) (μ:σ→Nat)
 (hr:∀ h a,I a→match step a with | .inl b=>∃ h',body (head h a)=some (.normal,head h' b) | .inr r=>∃ o s,body (head h a)=some (o,s)∧o≠.normal∧Q r o s) (ho:∀ h a,I a→(head h a).only live nb=head h a) (hI:∀ a b,I a→step a=.inl b→I b∧μ b<μ a) :
 ∀ {n m:Nat} (h:η) (a:σ),I a→μ a<n→μ a<m→∃ o s,evLoop body live nb m (head h a)=some (o,s)∧Q (runS step d n a) o s
 | n,0,h,a,hi,hn,hm=>by omega
 | 0,_,h,a,hi,hn,hm=>by omega
 | n+1,m+1,h,a,hi,hn,hm=>by
   have h1:=hr h a hi
   rw [loop_on]
   cases hs:step a with
   | inl b =>
     rw [hs] at h1
     obtain ⟨h',h1⟩:=h1
     obtain ⟨k1,k2⟩:=hI a b hi hs
     rw [h1,kLoop_n,ho h' b k1,runS_inl hs]
     exact loop_rel head step d Q I μ hr ho hI h' b k1 (by omega) (by omega)
   | inr r =>
     rw [hs] at h1
     obtain ⟨o,s,h1,h2,h3⟩:=h1
     rw [h1,runS_inr hs]
     refine ⟨o,s,?_,h3⟩
     cases o with
     | normal=>exact absurd rfl h2
     | exit i=>rfl
     | ret=>rfl
theorem take_f (HP:LibPre lib) {bx:Boxes} {r:List (Nat × Nat)} {b e:Nat} {s:Str} {k:Nat} (w:Str) (hb:bx[b]? =some (e,rd s k)) (hs:s.length≤1000000000) (hw:w.length≤1000000000) (hk:k≤s.length) (hr:∀ q∈r,q≠(b,1)) (hlt:∀ q∈r,q.1<bx.length) (h:w.isPrefixOf (s.drop k)=false) :
 evW code lib 159 [.ptr b 0,.flat (.string (S w))] bx (cl r)=some ([.flat (.bool false)],false,bx,cl r):=by
 have:=take_ev HP (w:=w) hb hs hw hk hr hlt
 rw [h,if_neg (by simp),set_same hb] at this
 exact this
theorem take_t (HP:LibPre lib) {bx:Boxes} {r:List (Nat × Nat)} {b e:Nat} {s:Str} {k:Nat} (w:Str) (hb:bx[b]? =some (e,rd s k)) (hs:s.length≤1000000000) (hw:w.length≤1000000000) (hk:k≤s.length) (hr:∀ q∈r,q≠(b,1)) (hlt:∀ q∈r,q.1<bx.length) (h:w.isPrefixOf (s.drop k)=true) :
 evW code lib 159 [.ptr b 0,.flat (.string (S w))] bx (cl r)=some ([.flat (.bool true)],false,bx.set b (e,rd s (k+w.length)),cl r):=by
 have:=take_ev HP (w:=w) hb hs hw hk hr hlt
 rw [h,if_pos rfl] at this
 exact this
theorem dig_byte (c:UInt8):if 48≤c.toNat∧c.toNat≤57 then digN c.toNat=c.toNat - 48 else if 97≤(c.toNat ||| 32)∧(c.toNat ||| 32)≤102 then digN c.toNat=(c.toNat ||| 32) - 87 else digN c.toNat=99:=by
 have:=byte_all (p:=fun n=>decide (if 48≤n∧n≤57 then digN n=n - 48 else if 97≤(n ||| 32)∧(n ||| 32)≤102 then digN n=(n ||| 32) - 87 else digN n=99)) (by decide +kernel) c
 exact of_decide_eq_true this
def numT (s:Str) (base most:Nat) (q:Nat × Nat × Nat):(Nat × Nat × Nat) ⊕ (Nat × Nat):=if q.2.1<most then (match s[q.2.2]? with
 | some c=>if digN c.toNat<base then .inl (q.1 * base+digN c.toNat,q.2.1+1,q.2.2+1) else .inr (q.1,q.2.2)
 | none=>.inr (q.1,q.2.2)) else .inr (q.1,q.2.2)
theorem numT_run (s:Str) (base most:Nat):∀ (f n many k:Nat),most - many<f→runS (numT s base most) (0,0) f (n,many,k)=((numRun base (most - many) n (s.drop k)).1,k+(numRun base (most - many) n (s.drop k)).2)
 | 0,n,many,k,h=>by omega
 | f+1,n,many,k,h=>by
   by_cases hm:many<most
   ·obtain ⟨j,hj⟩:∃ j,most - many=j+1:=⟨most - many - 1,by omega⟩
    have hj2:most - (many+1)=j:=by omega
    rw [hj]
    by_cases hk:k<s.length
    ·have hd:s.drop k=s[k]::s.drop (k+1):=List.drop_eq_getElem_cons hk
     have hg:s[k]? =some s[k]:=List.getElem?_eq_getElem hk
     rw [hd]
     by_cases hb:digN s[k].toNat<base
     ·rw [runS_inl (show numT s base most (n,many,k)=.inl (n * base+digN s[k].toNat,many+1,k+1) by unfold numT;dsimp only;rw [if_pos hm,hg];dsimp only;rw [if_pos hb]),numT_run s base most f _ _ _ (by omega),hj2]
      simp only [numRun,hb,if_true]
      rw [Nat.add_assoc,Nat.add_comm 1]
     ·rw [runS_inr (show numT s base most (n,many,k)=.inr (n,k) by unfold numT;dsimp only;rw [if_pos hm,hg];dsimp only;rw [if_neg hb])]
      simp only [numRun,hb,if_false,Nat.add_zero]
    ·have hg:s[k]? =none:=List.getElem?_eq_none (by omega)
     rw [runS_inr (show numT s base most (n,many,k)=.inr (n,k) by unfold numT;dsimp only;rw [if_pos hm,hg]),List.drop_of_length_le (by omega)]
     simp only [numRun,Nat.add_zero]
   ·have:most - many=0:=by omega
    rw [this,runS_inr (show numT s base most (n,many,k)=.inr (n,k) by unfold numT;rw [if_neg hm])]
    simp only [numRun,Nat.add_zero]
theorem dec_bytes (n:Nat):(decU (bytesU n)).1=if isN n then n else 65533:=by
 unfold bytesU
 have h:isN (if isN n then n else 65533)=true:=by
  cases hn:isN n with
  | true=>simpa using hn
  | false=>rw [if_neg (by simp)];decide
 have:=dec_of _ h []
 rw [List.append_nil] at this
 rw [this]
theorem pow_le (m:Nat) (h:m≤7):16 ^ m≤268435456:=Nat.le_trans (Nat.pow_le_pow_right (by omega) h) (by decide)
theorem number_ev (HP:LibPre lib) {bx:Boxes} {r:List (Nat × Nat)} {b e:Nat} {s:Str} {k base most:Nat} (hb:bx[b]? =some (e,rd s k)) (hs:s.length≤1000000000) (hk:k≤s.length) (hr:∀ q∈r,q≠(b,1)) (hlt:∀ q∈r,q.1<bx.length) (hbase:base=16∨base=10) (hmost:most≤7) :
 match numE base most (s.drop k) with
 | some (x,c)=>evW code lib 224 [.ptr b 0,.flat (.int .i64 (base:Nat)),.flat (.int .i64 (most:Nat))] bx (cl r)=some ([.flat (.string (S x)),.flat (.bool true)],false,bx.set b (e,rd s (k+c)),cl r)
 | none=>∃ k',k'≤s.length∧evW code lib 224 [.ptr b 0,.flat (.int .i64 (base:Nat)),.flat (.int .i64 (most:Nat))] bx (cl r)=some ([.flat (.string (S [])),.flat (.bool false)],false,bx.set b (e,rd s k'),cl r):=by
 have hblt:b<bx.length:=(List.getElem?_eq_some_iff.1 hb).1
 have hloop:=loop_run (body:=evC (evW code lib) big b_tags_reader_number_0) (live:=[0,1,2,8,9]) (nb:=bx.length) (fun q:Nat × Nat × Nat=>(⟨[(0,.ptr b 0),(1,.flat (.int .i64 (base:Nat))),(2,.flat (.int .i64 (most:Nat))),(8,.flat (.int .i64 (q.1:Nat))),(9,.flat (.int .i64 (q.2.1:Nat)))],cl r,[],bx.set b (e,rd s q.2.2)⟩:St))
  (numT s base most) (0,0) (fun q=>(.exit 0,⟨[(0,.ptr b 0),(8,.flat (.int .i64 (q.1:Nat)))],cl r,[],bx.set b (e,rd s q.2)⟩)) (fun q=>q.2.2≤s.length∧q.2.1≤most∧q.1+1≤16 ^ q.2.1) (fun q=>most - q.2.1) (fun ⟨n,many,j⟩ hj=>?_) (fun q hj=>?_) (fun ⟨n,many,j⟩ i hj h=>?_) (fun j=>by simp) (n:=most+1) (0,0,k) ⟨hk,by simp,by simp⟩ (by (try dsimp only);omega) (by unfold big;(try dsimp only);omega)
 ·rw [numT_run s base most _ _ _ _ (by omega)] at hloop
  have hlen:=numRun_len base most 0 (s.drop k)
  have hinv:=runS_inv (step:=numT s base most) (d:=(0,0)) (I:=fun q=>q.2.2≤s.length∧q.2.1≤most∧q.1+1≤16 ^ q.2.1) (μ:=fun q=>most - q.2.1) (Q:=fun r=>r.1<268435456) (fun ⟨n,many,j⟩ hi=>by
   cases hst:numT s base most (n,many,j) with
   | inl c =>
     obtain ⟨h1,h2,h3⟩:=hi
     unfold numT at hst
     dsimp only at hst h1 h2 h3
     split at hst
     ·split at hst
      ·rename_i c hc
       have:=(List.getElem?_eq_some_iff.1 hc).1
       split at hst
       ·rename_i hdg
        cases hst
        refine ⟨⟨by (try dsimp only);omega,by (try dsimp only);omega,?_⟩,by (try dsimp only);omega⟩
        dsimp only
        rw [Nat.pow_succ]
        obtain ⟨p,hp⟩:∃ p,16 ^ many=p:=⟨_,rfl⟩
        rw [hp] at h3 ⊢
        rcases hbase with rfl | rfl<;>omega
       ·cases hst
      ·cases hst
     ·cases hst
   | inr q =>
     obtain ⟨h1,h2,h3⟩:=hi
     have:=pow_le many (by dsimp only at h2;omega)
     unfold numT at hst
     dsimp only at hst h1 h2 h3
     split at hst
     ·split at hst
      ·split at hst
       ·cases hst
       ·cases hst;dsimp only;omega
      ·cases hst;dsimp only;omega
     ·cases hst;dsimp only;omega) (most+1) (0,0,k) ⟨hk,by simp,by simp⟩ (by (try dsimp only);omega)
  rw [numT_run s base most _ _ _ _ (by omega)] at hinv
  simp only [Nat.sub_zero] at hloop hinv
  rw [List.length_drop] at hlen
  unfold numE
  obtain ⟨⟨n,cnt⟩,hq⟩:∃ q,numRun base most 0 (s.drop k)=q:=⟨_,rfl⟩
  rw [hq] at hloop hlen hinv ⊢
  dsimp only at hloop hlen hinv ⊢
  have hb2:(bx.set b (e,rd s (k+cnt)))[b]? =some (e,rd s (k+cnt)):=List.getElem?_set_self hblt
  have hlt2:∀ q∈r,q.1<(bx.set b (e,rd s (k+cnt))).length:=by rw [List.length_set];exact hlt
  have hset:∀ q,(bx.set b (e,rd s (k+cnt))).set b q=bx.set b q:=fun q=>List.set_set ..
  have w1:IntKind.i32.wrap (n:Int)=(n:Int):=wrap32 (by omega)
  have hbs:=bytes_ev (lib:=lib) n (by omega)
  have hbl:=bytesU_len n
  have hnx:=next_ev (lib:=lib) (bytesU n) (by unfold Sm;omega) 0 (Nat.zero_le _)
  have w2:IntKind.i64.wrap (((decU (bytesU n)).1:Nat):Int)=(((decU (bytesU n)).1:Nat):Int):=wrap64 (by have:=decU_num (bytesU n);omega)
  have hdb:=dec_bytes n
  have hn0:((n:Int)=0)=(n=0):=by rw [← Int.ofNat_zero,Int.ofNat_inj]
  have hg59:(s.drop k)[cnt]? =(s.drop (k+cnt))[0]? :=by rw [List.getElem?_drop,List.getElem?_drop,Nat.add_zero]
  rw [set_same hb] at hloop
  simp only [n0] at hloop
  by_cases h0:n=0
  ·subst h0
   rw [if_neg (fun h=>h.1 rfl)]
   refine ⟨k+cnt,by omega,?_⟩
   refine evW_eq code_tags_reader_number (Nat.le_of_ble_eq_true rfl) ?_
   simp only [n0] at hloop w1 hbs
   simp only [List.drop_zero,n0] at hnx
   simp only [go_sem,simprocAttr,mk_S,hloop,w1,hbs,hnx,cl_keep,cl_owns,cl_cells,cl_drop,cl_slots,cl_under r hlt,List.length_set]
  ·have h0':=eq_false h0
   simp only [List.drop_zero,n0] at hnx
   cases hN:isN n with
   | false =>
     rw [hN] at hdb
     simp only [Bool.false_eq_true,if_false] at hdb
     have hne:¬ (65533:Int)=(n:Int):=fun h=>by
      have:n=65533:=by omega
      rw [this] at hN
      exact absurd hN (by decide)
     rw [if_neg (fun h=>by cases h.2.1)]
     refine ⟨k+cnt,by omega,?_⟩
     refine evW_eq code_tags_reader_number (Nat.le_of_ble_eq_true rfl) ?_
     rw [hdb] at hnx w2
     have w3:IntKind.i64.wrap 65533=65533:=by decide
     simp only [go_sem,simprocAttr,mk_S,hloop,w1,hbs,hnx,w3,hn0,h0',hne,cl_keep,cl_owns,cl_cells,cl_drop,cl_slots,cl_under r hlt,List.length_set]
   | true =>
     rw [hN] at hdb
     simp only [if_true] at hdb
     rw [hdb] at hnx w2
     by_cases h59:(s.drop k)[cnt]? =some 59
     ·rw [if_pos ⟨h0,rfl,h59⟩]
      have hpre:([59]:Str).isPrefixOf (s.drop (k+cnt))=true:=by
       rw [hg59] at h59
       cases hdp:s.drop (k+cnt) with
       | nil=>rw [hdp] at h59;cases h59
       | cons a t=>rw [hdp] at h59;simp at h59;subst h59;simp
      have ht:=take_t (lib:=lib) HP [59] hb2 hs (by simp) (by omega) hr hlt2 hpre
      rw [hset] at ht
      refine evW_eq code_tags_reader_number (Nat.le_of_ble_eq_true rfl) ?_
      simp only [List.length_cons,List.length_nil,Nat.zero_add,Nat.add_assoc] at ht
      simp only [go_sem,simprocAttr,mk_S,hloop,w1,hbs,hnx,w2,hn0,h0',ht,cl_keep,cl_owns,cl_cells,cl_drop,cl_slots,cl_under r hlt,List.length_set,dropCs_nil]
     ·rw [if_neg (fun h=>h59 h.2.2)]
      have hpre:([59]:Str).isPrefixOf (s.drop (k+cnt))=false:=by
       rw [hg59] at h59
       cases hdp:s.drop (k+cnt) with
       | nil=>rfl
       | cons a t =>
         rw [hdp] at h59
         simp only [List.getElem?_cons_zero,Option.some.injEq] at h59
         simp only [List.isPrefixOf,Bool.and_true,beq_eq_false_iff_ne,ne_eq]
         exact fun h=>h59 h.symm
      have ht:=take_f (lib:=lib) HP [59] hb2 hs (by simp) (by omega) hr hlt2 hpre
      refine ⟨k+cnt,by omega,?_⟩
      refine evW_eq code_tags_reader_number (Nat.le_of_ble_eq_true rfl) ?_
      simp only [go_sem,simprocAttr,mk_S,hloop,w1,hbs,hnx,w2,hn0,h0',ht,cl_keep,cl_owns,cl_cells,cl_drop,cl_slots,cl_under r hlt,List.length_set,dropCs_nil]
 ·
  obtain ⟨hj1,hj2,hj3⟩:=hj
  dsimp only at hj1 hj2 hj3
  have hb2:(bx.set b (e,rd s j))[b]? =some (e,rd s j):=List.getElem?_set_self hblt
  have hlt2:∀ q∈r,q.1<(bx.set b (e,rd s j)).length:=by rw [List.length_set];exact hlt
  have hset:∀ q,(bx.set b (e,rd s j)).set b q=bx.set b q:=fun q=>List.set_set ..
  have hdn:=done_ev (lib:=lib) (r:=r) hb2 hlt2
  have hpw:=pow_le many (by omega)
  unfold numT
  dsimp only
  unfold rd at hb2 hdn hset ⊢
  by_cases hlt1:j<s.length
  ·have hg:s[j]? =some s[j]:=List.getElem?_eq_getElem hlt1
   obtain ⟨c,hc⟩:∃ c,s[j]=c:=⟨_,rfl⟩
   rw [hc] at hg
   have c1:¬ s.length≤j:=by omega
   have c2:(0:Int)≤(j:Nat):=by omega
   by_cases hm:many<most
   ·have c3:(many:Int)<most:=by omega
    have hdb:=dig_byte c
    have hc256:=c.toNat_lt
    obtain ⟨x,hx⟩:∃ x,c.toNat=x:=⟨_,rfl⟩
    have hor:=u8_or x 32 (by omega) (by omega)
    have hor256:(x ||| 32)<256:=Nat.or_lt_two_pow (n:=8) (by omega) (by omega)
    have e32:((32:Nat):Int)=32:=rfl
    rw [e32] at hor
    rw [hx] at hdb
    obtain ⟨y,hy⟩:∃ y,(x ||| 32)=y:=⟨_,rfl⟩
    rw [hy] at hor hdb hor256
    obtain ⟨dg,hdg⟩:∃ dg,digN x=dg:=⟨_,rfl⟩
    rw [hdg] at hdb
    have w1:=wr1 (k:=j) (by omega)
    have w2:=wr1 (k:=many) (by omega)
    have hexit:∀ z:Int,(base:Int)≤z→((base:Int)≤z)=True:=fun z h=>eq_true h
    rcases (show (48≤x∧x≤57∧dg=x - 48)∨(¬ (48≤x∧x≤57)∧97≤y∧y≤102∧dg=y - 87)∨(¬ (48≤x∧x≤57)∧¬ (97≤y∧y≤102)∧dg=99) by
     by_cases p1:48≤x∧x≤57
     ·rw [if_pos p1] at hdb;exact .inl ⟨p1.1,p1.2,hdb⟩
     ·rw [if_neg p1] at hdb
      by_cases p2:97≤y∧y≤102
      ·rw [if_pos p2] at hdb;exact .inr (.inl ⟨p1,p2.1,p2.2,hdb⟩)
      ·rw [if_neg p2] at hdb;exact .inr (.inr ⟨p1,p2,hdb⟩)) with ⟨p1,p2,p3⟩ | ⟨p1,p2,p3,p4⟩ | ⟨p1,p2,p3⟩
    ·have d1:(48:Int)≤(x:Nat):=by omega
     have d2:((x:Nat):Int)≤57:=by omega
     have w3:IntKind.u8.wrap ((x:Int) - 48)=((dg:Nat):Int):=by rw [wrap8 (by omega)];omega
     have w4:IntKind.i64.wrap ((dg:Nat):Int)=((dg:Nat):Int):=wrap64 (by omega)
     by_cases hbd:dg<base
     ·have d3:¬ (base:Int)≤(dg:Nat):=by omega
      have w5:IntKind.i64.wrap ((n:Int) * (base:Int))=((n * base:Nat):Int):=by rw [wrap64 (by rcases hbase with rfl | rfl<;>omega)];rfl
      have w6:IntKind.i64.wrap (((n * base:Nat):Int)+(dg:Int))=((n * base+dg:Nat):Int):=wr64 (by rcases hbase with rfl | rfl<;>omega)
      simp only [hm,hg,hx,hdg,hbd,if_true,outS]
      simp only [on_tags_reader_number_0,go_sem,simprocAttr,hb2,hdn,hset,hx,cl_keep,cl_owns,cl_cells,cl_drop,cl_slots,cl_dropC r hr,S_size,S_get,hg,kByte_some,c1,c2,c3,d1,d2,d3,w1,w2,w3,w4,w5,w6,Int.toNat_natCast,List.length_set,cl_under r hlt,dropCs_nil]
     ·have d3:(base:Int)≤(dg:Nat):=by omega
      simp only [hm,hg,hx,hdg,hbd,if_true,if_false,outS]
      simp only [on_tags_reader_number_0,go_sem,simprocAttr,hb2,hdn,hset,hx,cl_keep,cl_owns,cl_cells,cl_drop,cl_slots,cl_dropC r hr,S_size,S_get,hg,kByte_some,c1,c2,c3,d1,d2,d3,w1,w2,w3,w4,Int.toNat_natCast,List.length_set,cl_under r hlt,dropCs_nil]
    ·have d5:(97:Int)≤(y:Nat):=by omega
     have d6:((y:Nat):Int)≤102:=by omega
     have w3:IntKind.u8.wrap ((y:Int) - 97)=((y - 97:Nat):Int):=by rw [wrap8 (by omega)];omega
     have w4:IntKind.i64.wrap ((y - 97:Nat):Int)=((y - 97:Nat):Int):=wrap64 (by omega)
     have w7:IntKind.i64.wrap (((y - 97:Nat):Int)+10)=((dg:Nat):Int):=by rw [wrap64 (by omega)];omega
     have hno:(if (48:Int)≤(x:Nat) then decide (((x:Nat):Int)≤57) else false)=false:=by
      split
      ·simp;omega
      ·rfl
     by_cases h48:(48:Int)≤(x:Nat)
     ·have d2:¬ ((x:Nat):Int)≤57:=by omega
      by_cases hbd:dg<base
      ·have d3:¬ (base:Int)≤(dg:Nat):=by omega
       have w5:IntKind.i64.wrap ((n:Int) * (base:Int))=((n * base:Nat):Int):=by rw [wrap64 (by rcases hbase with rfl | rfl<;>omega)];rfl
       have w6:IntKind.i64.wrap (((n * base:Nat):Int)+(dg:Int))=((n * base+dg:Nat):Int):=wr64 (by rcases hbase with rfl | rfl<;>omega)
       simp only [hm,hg,hx,hdg,hbd,if_true,outS]
       simp only [on_tags_reader_number_0,go_sem,simprocAttr,hb2,hdn,hset,hx,hor,cl_keep,cl_owns,cl_cells,cl_drop,cl_slots,cl_dropC r hr,S_size,S_get,hg,kByte_some,c1,c2,c3,h48,d2,d3,d5,d6,w1,w2,w3,w4,w5,w6,w7,Int.toNat_natCast,List.length_set,cl_under r hlt,dropCs_nil]
      ·have d3:(base:Int)≤(dg:Nat):=by omega
       simp only [hm,hg,hx,hdg,hbd,if_true,if_false,outS]
       simp only [on_tags_reader_number_0,go_sem,simprocAttr,hb2,hdn,hset,hx,hor,cl_keep,cl_owns,cl_cells,cl_drop,cl_slots,cl_dropC r hr,S_size,S_get,hg,kByte_some,c1,c2,c3,h48,d2,d3,d5,d6,w1,w2,w3,w4,w7,Int.toNat_natCast,List.length_set,cl_under r hlt,dropCs_nil]
     ·by_cases hbd:dg<base
      ·have d3:¬ (base:Int)≤(dg:Nat):=by omega
       have w5:IntKind.i64.wrap ((n:Int) * (base:Int))=((n * base:Nat):Int):=by rw [wrap64 (by rcases hbase with rfl | rfl<;>omega)];rfl
       have w6:IntKind.i64.wrap (((n * base:Nat):Int)+(dg:Int))=((n * base+dg:Nat):Int):=wr64 (by rcases hbase with rfl | rfl<;>omega)
       simp only [hm,hg,hx,hdg,hbd,if_true,outS]
       simp only [on_tags_reader_number_0,go_sem,simprocAttr,hb2,hdn,hset,hx,hor,cl_keep,cl_owns,cl_cells,cl_drop,cl_slots,cl_dropC r hr,S_size,S_get,hg,kByte_some,c1,c2,c3,h48,d3,d5,d6,w1,w2,w3,w4,w5,w6,w7,Int.toNat_natCast,List.length_set,cl_under r hlt,dropCs_nil]
      ·have d3:(base:Int)≤(dg:Nat):=by omega
       simp only [hm,hg,hx,hdg,hbd,if_true,if_false,outS]
       simp only [on_tags_reader_number_0,go_sem,simprocAttr,hb2,hdn,hset,hx,hor,cl_keep,cl_owns,cl_cells,cl_drop,cl_slots,cl_dropC r hr,S_size,S_get,hg,kByte_some,c1,c2,c3,h48,d3,d5,d6,w1,w2,w3,w4,w7,Int.toNat_natCast,List.length_set,cl_under r hlt,dropCs_nil]
    ·have hbd:¬ dg<base:=by rcases hbase with rfl | rfl<;>omega
     have d3:(base:Int)≤(base:Int):=Int.le_refl _
     have hge:((base:Int)≤base)=True:=eq_true d3
     simp only [hm,hg,hx,hdg,hbd,if_true,if_false,outS]
     by_cases h48:(48:Int)≤(x:Nat)<;>by_cases h97:(97:Int)≤(y:Nat)
     ·have d2:¬ ((x:Nat):Int)≤57:=by omega
      have d6:¬ ((y:Nat):Int)≤102:=by omega
      simp only [on_tags_reader_number_0,go_sem,simprocAttr,hb2,hdn,hset,hx,hor,cl_keep,cl_owns,cl_cells,cl_drop,cl_slots,cl_dropC r hr,S_size,S_get,hg,kByte_some,c1,c2,c3,h48,h97,d2,d6,hge,w1,w2,Int.toNat_natCast,List.length_set,cl_under r hlt,dropCs_nil]
     ·have d2:¬ ((x:Nat):Int)≤57:=by omega
      simp only [on_tags_reader_number_0,go_sem,simprocAttr,hb2,hdn,hset,hx,hor,cl_keep,cl_owns,cl_cells,cl_drop,cl_slots,cl_dropC r hr,S_size,S_get,hg,kByte_some,c1,c2,c3,h48,h97,d2,hge,w1,w2,Int.toNat_natCast,List.length_set,cl_under r hlt,dropCs_nil]
     ·have d6:¬ ((y:Nat):Int)≤102:=by omega
      simp only [on_tags_reader_number_0,go_sem,simprocAttr,hb2,hdn,hset,hx,hor,cl_keep,cl_owns,cl_cells,cl_drop,cl_slots,cl_dropC r hr,S_size,S_get,hg,kByte_some,c1,c2,c3,h48,h97,d6,hge,w1,w2,Int.toNat_natCast,List.length_set,cl_under r hlt,dropCs_nil]
     ·simp only [on_tags_reader_number_0,go_sem,simprocAttr,hb2,hdn,hset,hx,hor,cl_keep,cl_owns,cl_cells,cl_drop,cl_slots,cl_dropC r hr,S_size,S_get,hg,kByte_some,c1,c2,c3,h48,h97,hge,w1,w2,Int.toNat_natCast,List.length_set,cl_under r hlt,dropCs_nil]
   ·have c3:¬ (many:Int)<most:=by omega
    simp only [hm,if_false,outS]
    simp only [on_tags_reader_number_0,go_sem,simprocAttr,hb2,hdn,cl_keep,cl_owns,cl_cells,cl_drop,cl_slots,c1,c3,List.length_set,cl_under r hlt,dropCs_nil]
  ·have hg:s[j]? =none:=List.getElem?_eq_none (by omega)
   have c1:s.length≤j:=by omega
   have hif:(if many<most then (Sum.inr (n,j):(Nat × Nat × Nat) ⊕ (Nat × Nat)) else .inr (n,j))=.inr (n,j):=by split<;>rfl
   simp only [hg,hif,outS]
   simp only [on_tags_reader_number_0,go_sem,simprocAttr,hb2,hdn,cl_keep,cl_owns,cl_cells,cl_drop,cl_slots,c1,List.length_set,cl_under r hlt,dropCs_nil]
 ·simp only [go_sem,simprocAttr,cl_keep,cl_owns,List.length_set,cl_under r hlt]
 ·obtain ⟨h1,h2,h3⟩:=hj
  unfold numT at h
  dsimp only at h h1 h2 h3
  split at h
  ·split at h
   ·rename_i c hc
    have:=(List.getElem?_eq_some_iff.1 hc).1
    split at h
    ·rename_i hdg
     cases h
     refine ⟨⟨by (try dsimp only);omega,by (try dsimp only);omega,?_⟩,by (try dsimp only);omega⟩
     dsimp only
     rw [Nat.pow_succ]
     obtain ⟨p,hp⟩:∃ p,16 ^ many=p:=⟨_,rfl⟩
     rw [hp] at h3 ⊢
     rcases hbase with rfl | rfl<;>omega
    ·cases h
   ·cases h
  ·cases h
theorem reference_ev (HP:LibPre lib) {bx:Boxes} {r:List (Nat × Nat)} {b e:Nat} {s:Str} {k:Nat} (hb:bx[b]? =some (e,rd s k)) (hs:s.length≤1000000000) (hk:k≤s.length) (hr:∀ q∈r,q≠(b,1)) (hlt:∀ q∈r,q.1<bx.length) :
 match oneE (s.drop k) with
 | some (x,c)=>evW code lib 199 [.ptr b 0] bx (cl r)=some ([.flat (.string (S x)),.flat (.bool true)],false,bx.set b (e,rd s (k+c)),cl r)
 | none=>∃ k',k'≤s.length∧evW code lib 199 [.ptr b 0] bx (cl r)=some ([.flat (.string (S [])),.flat (.bool false)],false,bx.set b (e,rd s k'),cl r):=by
 have hblt:b<bx.length:=(List.getElem?_eq_some_iff.1 hb).1
 have tt:∀ w:Str,w.length≤10→w.isPrefixOf (s.drop k)=true→evW code lib 159 [.ptr b 0,.flat (.string (S w))] bx (cl r)=some ([.flat (.bool true)],false,bx.set b (e,rd s (k+w.length)),cl r):=fun w hw h=>take_t HP w hb hs (by omega) hk hr hlt h
 have tf:∀ w:Str,w.length≤10→w.isPrefixOf (s.drop k)=false→evW code lib 159 [.ptr b 0,.flat (.string (S w))] bx (cl r)=some ([.flat (.bool false)],false,bx,cl r):=fun w hw h=>take_f HP w hb hs (by omega) hk hr hlt h
 have num:∀ (w:Str) (base most:Nat),base=16∨base=10→most≤7→w.isPrefixOf (s.drop k)=true→match numE base most (s.drop (k+w.length)) with
  | some (x,c)=>evW code lib 224 [.ptr b 0,.flat (.int .i64 (base:Nat)),.flat (.int .i64 (most:Nat))] (bx.set b (e,rd s (k+w.length))) (cl r)=some ([.flat (.string (S x)),.flat (.bool true)],false,bx.set b (e,rd s (k+w.length+c)),cl r)
  | none=>∃ k',k'≤s.length∧evW code lib 224 [.ptr b 0,.flat (.int .i64 (base:Nat)),.flat (.int .i64 (most:Nat))] (bx.set b (e,rd s (k+w.length))) (cl r)=some ([.flat (.string (S [])),.flat (.bool false)],false,bx.set b (e,rd s k'),cl r):=fun w base most h1 h2 h3=>by
  have hl:=pre_len h3
  rw [List.length_drop] at hl
  have:=number_ev (lib:=lib) HP (bx:=bx.set b (e,rd s (k+w.length))) (r:=r) (b:=b) (e:=e) (s:=s) (k:=k+w.length) (base:=base) (most:=most) (List.getElem?_set_self hblt) hs (by omega) hr (by rw [List.length_set];exact hlt) h1 h2
  simp only [List.set_set] at this
  exact this
 have hsame:=set_same hb
 unfold oneE
 cases h1:([38,97,109,112,59]:Str).isPrefixOf (s.drop k) with
 | true =>
   have t1:=tt _ (by decide) h1
   rw [if_pos rfl]
   refine evW_eq code_tags_reader_reference (Nat.le_of_ble_eq_true rfl) ?_
   simp only [List.length_cons,List.length_nil,Nat.zero_add] at t1
   simp only [go_sem,simprocAttr,mk_S,t1,cl_keep,cl_owns,cl_cells,cl_drop,cl_slots,cl_under r hlt,List.length_set,dropCs_nil]
 | false =>
 have t1:=tf _ (by decide) h1
 rw [if_neg (by simp)]
 cases h2:([38,108,116,59]:Str).isPrefixOf (s.drop k) with
 | true =>
   have t2:=tt _ (by decide) h2
   rw [if_pos rfl]
   refine evW_eq code_tags_reader_reference (Nat.le_of_ble_eq_true rfl) ?_
   simp only [List.length_cons,List.length_nil,Nat.zero_add] at t2
   simp only [go_sem,simprocAttr,mk_S,t1,t2,cl_keep,cl_owns,cl_cells,cl_drop,cl_slots,cl_under r hlt,List.length_set,dropCs_nil]
 | false =>
 have t2:=tf _ (by decide) h2
 rw [if_neg (by simp)]
 cases h3:([38,103,116,59]:Str).isPrefixOf (s.drop k) with
 | true =>
   have t3:=tt _ (by decide) h3
   rw [if_pos rfl]
   refine evW_eq code_tags_reader_reference (Nat.le_of_ble_eq_true rfl) ?_
   simp only [List.length_cons,List.length_nil,Nat.zero_add] at t3
   simp only [go_sem,simprocAttr,mk_S,t1,t2,t3,cl_keep,cl_owns,cl_cells,cl_drop,cl_slots,cl_under r hlt,List.length_set,dropCs_nil]
 | false =>
 have t3:=tf _ (by decide) h3
 rw [if_neg (by simp)]
 cases h4:([38,113,117,111,116,59]:Str).isPrefixOf (s.drop k) with
 | true =>
   have t4:=tt _ (by decide) h4
   rw [if_pos rfl]
   refine evW_eq code_tags_reader_reference (Nat.le_of_ble_eq_true rfl) ?_
   simp only [List.length_cons,List.length_nil,Nat.zero_add] at t4
   simp only [go_sem,simprocAttr,mk_S,t1,t2,t3,t4,cl_keep,cl_owns,cl_cells,cl_drop,cl_slots,cl_under r hlt,List.length_set,dropCs_nil]
 | false =>
 have t4:=tf _ (by decide) h4
 rw [if_neg (by simp)]
 cases h5:([38,35,120]:Str).isPrefixOf (s.drop k) with
 | true =>
   have t5:=tt _ (by decide) h5
   have n5:=num _ 16 6 (.inl rfl) (by decide) h5
   rw [if_pos rfl]
   simp only [List.length_cons,List.length_nil,Nat.zero_add,Nat.reduceAdd,Int.cast_ofNat_Int] at t5 n5
   rw [List.drop_drop]
   cases hE:numE 16 6 (s.drop (k+3)) with
   | some q =>
     obtain ⟨x,c⟩:=q
     rw [hE] at n5
     simp only [Option.map_some]
     rw [show k+(3+c)=k+3+c by omega]
     refine evW_eq code_tags_reader_reference (Nat.le_of_ble_eq_true rfl) ?_
     simp only [go_sem,simprocAttr,mk_S,t1,t2,t3,t4,t5,n5,cl_keep,cl_owns,cl_cells,cl_drop,cl_slots,cl_under r hlt,List.length_set,dropCs_nil]
   | none =>
     rw [hE] at n5
     obtain ⟨k',hk',n5⟩:=n5
     simp only [Option.map_none]
     refine ⟨k',hk',?_⟩
     refine evW_eq code_tags_reader_reference (Nat.le_of_ble_eq_true rfl) ?_
     simp only [go_sem,simprocAttr,mk_S,t1,t2,t3,t4,t5,n5,cl_keep,cl_owns,cl_cells,cl_drop,cl_slots,cl_under r hlt,List.length_set,dropCs_nil]
 | false =>
 have t5:=tf _ (by decide) h5
 rw [if_neg (by simp)]
 cases h6:([38,35]:Str).isPrefixOf (s.drop k) with
 | true =>
   have t6:=tt _ (by decide) h6
   have n6:=num _ 10 7 (.inr rfl) (by decide) h6
   rw [if_pos rfl]
   simp only [List.length_cons,List.length_nil,Nat.zero_add,Nat.reduceAdd,Int.cast_ofNat_Int] at t6 n6
   rw [List.drop_drop]
   cases hE:numE 10 7 (s.drop (k+2)) with
   | some q =>
     obtain ⟨x,c⟩:=q
     rw [hE] at n6
     simp only [Option.map_some]
     rw [show k+(2+c)=k+2+c by omega]
     refine evW_eq code_tags_reader_reference (Nat.le_of_ble_eq_true rfl) ?_
     simp only [go_sem,simprocAttr,mk_S,t1,t2,t3,t4,t5,t6,n6,cl_keep,cl_owns,cl_cells,cl_drop,cl_slots,cl_under r hlt,List.length_set,dropCs_nil]
   | none =>
     rw [hE] at n6
     obtain ⟨k',hk',n6⟩:=n6
     simp only [Option.map_none]
     refine ⟨k',hk',?_⟩
     refine evW_eq code_tags_reader_reference (Nat.le_of_ble_eq_true rfl) ?_
     simp only [go_sem,simprocAttr,mk_S,t1,t2,t3,t4,t5,t6,n6,cl_keep,cl_owns,cl_cells,cl_drop,cl_slots,cl_under r hlt,List.length_set,dropCs_nil]
 | false =>
 have t6:=tf _ (by decide) h6
 rw [if_neg (by simp)]
 refine ⟨k,hk,?_⟩
 rw [hsame]
 refine evW_eq code_tags_reader_reference (Nat.le_of_ble_eq_true rfl) ?_
 simp only [go_sem,simprocAttr,mk_S,t1,t2,t3,t4,t5,t6,cl_keep,cl_owns,cl_cells,cl_drop,cl_slots,cl_under r hlt,dropCs_nil]
theorem low_set {n b:Nat} {q:Nat × List PV} (hq:lows n q.2=true):∀ {bx:Boxes},boxLows n bx=true→boxLows n (bx.set b q)=true:=by
 intro bx
 induction bx generalizing b with
 | nil=>exact fun h=>h
 | cons p l ih =>
   intro h
   rw [boxLows_cons,Bool.and_eq_true] at h
   cases b with
   | zero=>rw [List.set_cons_zero,boxLows_cons,hq,h.2];rfl
   | succ b=>rw [List.set_cons_succ,boxLows_cons,h.1,ih h.2];rfl
theorem low_app {n:Nat}:∀ {bx by_:Boxes},boxLows n (bx++by_)=(boxLows n bx && boxLows n by_)
 | [],by_=>by rw [List.nil_append,boxLows_nil,Bool.true_and]
 | p::l,by_=>by rw [List.cons_append,boxLows_cons,boxLows_cons,low_app,Bool.and_assoc]
theorem rd_low {n:Nat} {s:Str} {k:Nat}:lows n (rd s k)=true:=rfl
theorem ap_b {bx:Boxes} {b:Nat} {x q:Nat × List PV} (h:b<bx.length):(bx.set b x++[q])[b]? =some x:=by
 rw [List.getElem?_append_left (by rw [List.length_set];exact h),List.getElem?_set_self h]
theorem ap_n {bx:Boxes} {b:Nat} {x q:Nat × List PV}:(bx.set b x++[q])[bx.length]? =some q:=by
 have:bx.length=(bx.set b x).length:=by rw [List.length_set]
 rw [this,List.getElem?_concat_length]
theorem ap_setb {bx:Boxes} {b:Nat} {x y q:Nat × List PV} (h:b<bx.length):(bx.set b x++[q]).set b y=bx.set b y++[q]:=by
 rw [List.set_append_left _ _ (by rw [List.length_set];exact h),List.set_set]
theorem ap_setn {bx:Boxes} {b:Nat} {x q z:Nat × List PV}:(bx.set b x++[q]).set bx.length z=bx.set b x++[z]:=by
 rw [List.set_append_right _ _ (by rw [List.length_set];exact Nat.le_refl _),List.length_set,Nat.sub_self];rfl
theorem ap_len {bx:Boxes} {b:Nat} {x q:Nat × List PV}:(bx.set b x++[q]).length=bx.length+1:=by
 rw [List.length_append,List.length_set];rfl
theorem ap_take {bx:Boxes} {b:Nat} {x q:Nat × List PV}:(bx.set b x++[q]).take bx.length=bx.set b x:=by
 rw [List.take_append_of_le_length (by rw [List.length_set];exact Nat.le_refl _),List.take_of_length_le (by rw [List.length_set];exact Nat.le_refl _)]
theorem bld_f {b:Nat} {l:List PV}:bld false b [] l=PV.flat (.pointer none)::PV.slc 0 []::l:=rfl
theorem mem_low {n:Nat} {x:Nat × Nat} {r:List (Nat × Nat)} (h:∀ q∈r,q.1<n):∀ q∈(n,1)::r,q.1<n+1:=by
 intro q hq
 rcases List.mem_cons.1 hq with rfl | hq
 ·exact Nat.lt_succ_self _
 ·exact Nat.lt_succ_of_lt (h q hq)
theorem says_ev (HP:LibPre lib) (HB:BldIn lib) {bx:Boxes} {r:List (Nat × Nat)} {b e:Nat} {s:Str} {k:Nat} {en bd:UInt8} (hb:bx[b]? =some (e,rd s k)) (hlow:boxLows bx.length bx=true) (hs:s.length≤100000000) (hk:k≤s.length) (hr:∀ q∈r,q≠(b,1)) (hlt:∀ q∈r,q.1<bx.length) :
 match saysE s en bd k with
 | some (x,p)=>evW code lib 164 [.ptr b 0,.flat (.int .u8 en.toNat),.flat (.int .u8 bd.toNat)] bx (cl r)=some ([.flat (.string (S x)),.flat (.bool true)],false,bx.set b (e,rd s p),cl r)
 | none=>∃ k',k'≤s.length∧evW code lib 164 [.ptr b 0,.flat (.int .u8 en.toNat),.flat (.int .u8 bd.toNat)] bx (cl r)=some ([.flat (.string (S [])),.flat (.bool false)],false,bx.set b (e,rd s k'),cl r):=by
 have hblt:b<bx.length:=(List.getElem?_eq_some_iff.1 hb).1
 obtain ⟨r',hr'⟩:∃ r',r'=(bx.length,1)::r:=⟨_,rfl⟩
 have hcl:Loc.cell bx.length 1::cl r=cl r':=by rw [hr'];rfl
 have hlt':∀ q∈r',q.1<bx.length+1:=by rw [hr'];exact mem_low (x:=(0,0)) hlt
 have hr'b:∀ q∈r',q≠(b,1):=by
  rw [hr'];intro q hq
  rcases List.mem_cons.1 hq with rfl | hq
  ·exact fun h=>by have:=congrArg Prod.fst h;dsimp only at this;omega
  ·exact hr q hq
 have hnr:∀ q∈r,q≠(bx.length,1):=fun q hq h=>by have:=hlt q hq;rw [h] at this;exact Nat.lt_irrefl _ this
 have hd:dropL (Loc.cell bx.length 1) (cl r')=cl r:=by
  rw [hr']
  show dropL _ (Loc.cell bx.length 1::cl r)=_
  simp only [dropL_cc,and_self,if_true,cl_dropL r hnr,ne_eq,not_true_eq_false,if_false]
 have hun:underO bx.length (cl r')=cl r:=by
  rw [hr']
  show underO _ (Loc.cell bx.length 1::cl r)=_
  simp only [underO_c,Nat.lt_irrefl,if_false,cl_under r hlt]
 have hlt1:∀ q∈r,q.1<bx.length+1:=fun q hq=>Nat.lt_succ_of_lt (hlt q hq)
 have hWS:∀ (j:Nat) (x:Str) (u:Bool) (out:Str),out.length+x.length≤bound→evW code lib 47 [.ptr bx.length 0,.flat (.string (S x))] (bx.set b (e,rd s j)++[(59,bld u bx.length out [])]) (cl r')=some ([.flat (.int .i64 x.length),.flat .nilIface],false,bx.set b (e,rd s j)++[(59,bld true bx.length (out++x) [])],cl r'):=fun j x u out h=>by
  have:=ws_ev (lib:=lib) (r:=r) (m:=x) HB (ap_n (bx:=bx) (b:=b) (x:=(e,rd s j)) (q:=(59,bld u bx.length out []))) liesB0 h hnr (by rw [ap_len];exact hlt1)
  rw [ap_setn,hcl] at this
  exact this
 have hWB:∀ (j:Nat) (x:UInt8) (u:Bool) (out:Str),out.length+1≤bound→evW code lib 84 [.ptr bx.length 0,.flat (.int .u8 x.toNat)] (bx.set b (e,rd s j)++[(59,bld u bx.length out [])]) (cl r')=some ([.flat .nilIface],false,bx.set b (e,rd s j)++[(59,bld true bx.length (out++[x]) [])],cl r'):=fun j x u out h=>by
  have:=wb_ev (lib:=lib) (r:=r) (c:=x) HB (ap_n (bx:=bx) (b:=b) (x:=(e,rd s j)) (q:=(59,bld u bx.length out []))) liesB0 h hnr (by rw [ap_len];exact hlt1)
  rw [ap_setn,hcl] at this
  exact this
 have hrel:=loop_rel (body:=evC (evW code lib) big b_tags_reader_says_0) (live:=[0,1,2,8]) (nb:=bx.length+1)
  (fun (u:Bool) (q:Str × Nat)=>(⟨[(0,.ptr b 0),(1,.flat (.int .u8 en.toNat)),(2,.flat (.int .u8 bd.toNat)),(8,.ptr bx.length 0)],cl r',[],bx.set b (e,rd s q.2)++[(59,bld u bx.length q.1 [])]⟩:St))
  (saysT s en bd) none (fun a o st=>match a with
    | some q=>o=.exit 0∧∃ u,st=⟨[(8,.ptr bx.length 0)],cl r',[],bx.set b (e,rd s q.2)++[(59,bld u bx.length q.1 [])]⟩
    | none=>o=.ret∧∃ k' y,k'≤s.length∧st=⟨[(6,.flat (.string (S []))),(7,.flat (.bool false))],cl r',[],bx.set b (e,rd s k')++[y]⟩)
  (fun a=>a.2≤s.length∧k≤a.2∧a.1.length≤4 * (a.2 - k)) (fun a=>s.length - a.2) (fun u ⟨out,j⟩ hi=>?_) (fun u ⟨out,j⟩ hi=>?_) (fun a c hi h=>saysT_in k a c hi h) (n:=s.length+1) (m:=big) false ([],k) ⟨hk,Nat.le_refl _,by simp⟩ (by dsimp only;omega) (by unfold big;dsimp only;omega)
 ·obtain ⟨o,st,hl,hq⟩:=hrel
  have hsaysE:runS (saysT s en bd) none (s.length+1) ([],k)=saysE s en bd k:=rfl
  rw [hsaysE] at hq
  dsimp only at hl
  rw [set_same hb,bld_f] at hl
  cases hE:saysE s en bd k with
  | some q =>
    obtain ⟨x,p⟩:=q
    rw [hE] at hq
    obtain ⟨rfl,u,rfl⟩:=hq
    dsimp only at hl ⊢
    have hst:=st_ev (lib:=lib) (oc:=cl r') (u:=u) (l:=x) (rest:=[]) HB (ap_n (bx:=bx) (b:=b) (x:=(e,rd s p)) (q:=(59,bld u bx.length x []))) (by rw [hr'];exact List.mem_cons_self)
    have hlo:=low_set (b:=b) (q:=(e,rd s p)) rd_low hlow
    refine evW_eq code_tags_reader_says (Nat.le_of_ble_eq_true rfl) ?_
    simp (maxSteps:=999999) (disch:=first | assumption | omega) only [go_sem,simprocAttr,au,hcl,hl,hst,hd,hlo,rd_low,ap_len,ap_take,List.length_append]
  | none =>
    rw [hE] at hq
    obtain ⟨rfl,k',y,hk',rfl⟩:=hq
    dsimp only at hl ⊢
    have hlo:=low_set (b:=b) (q:=(e,rd s k')) rd_low hlow
    refine ⟨k',hk',?_⟩
    refine evW_eq code_tags_reader_says (Nat.le_of_ble_eq_true rfl) ?_
    simp (maxSteps:=999999) (disch:=first | assumption | omega) only [go_sem,simprocAttr,au,hcl,hl,hun,hlo,rd_low,ap_len,ap_take,List.length_append]
 ·
  dsimp only at hi
  have hdn:=done_ev (lib:=lib) (r:=r') (ap_b (x:=(e,rd s j)) (q:=(59,bld u bx.length out [])) hblt) (by rw [ap_len];exact hlt')
  dsimp only
  by_cases hlt1:j<s.length
  ·have hg:s[j]? =some s[j]:=List.getElem?_eq_getElem hlt1
   obtain ⟨c,hc⟩:∃ c,s[j]=c:=⟨_,rfl⟩
   rw [hc] at hg
   unfold saysT
   simp only [hg]
   by_cases h1:c=en
   ·rw [if_pos h1]
    have h1':=congrArg UInt8.toNat h1
    refine ⟨.exit 0,⟨[(8,.ptr bx.length 0)],cl r',[],bx.set b (e,rd s j)++[(59,bld u bx.length out [])]⟩,?_,by simp,rfl,u,rfl⟩
    simp only [rd,Int.natCast_add,Int.natCast_one] at hdn ⊢
    simp (maxSteps:=999999) (disch:=first | assumption | omega) only [go_sem,simprocAttr,au,on_tags_reader_says_0,hdn,hg,ap_b,ap_n,ap_setb,ap_setn,ap_len]
   ·rw [if_neg h1]
    have h1':(c.toNat=en.toNat)=False:=eq_false fun h=>h1 (UInt8.toNat_inj.1 h)
    by_cases h2:c=bd
    ·rw [if_pos h2]
     have h2':(c.toNat=bd.toNat)=True:=eq_true (congrArg UInt8.toNat h2)
     refine ⟨.ret,⟨[(6,.flat (.string (S []))),(7,.flat (.bool false))],cl r',[],bx.set b (e,rd s j)++[(59,bld u bx.length out [])]⟩,?_,by simp,rfl,j,_,by omega,rfl⟩
     simp only [rd,Int.natCast_add,Int.natCast_one] at hdn ⊢
     simp (maxSteps:=999999) (disch:=first | assumption | omega) only [go_sem,simprocAttr,au,on_tags_reader_says_0,hdn,hg,h1',h2',ap_b,ap_n,ap_setb,ap_setn,ap_len]
    ·rw [if_neg h2]
     have h2':(c.toNat=bd.toNat)=False:=eq_false fun h=>h2 (UInt8.toNat_inj.1 h)
     by_cases h3:c=38
     ·rw [if_pos h3]
      have h3':(c.toNat=38)=True:=eq_true (by rw [h3];rfl)
      have href:=reference_ev (lib:=lib) HP (r:=r') (ap_b (x:=(e,rd s j)) (q:=(59,bld u bx.length out [])) hblt) (by omega) (by omega:j≤s.length) hr'b (by rw [ap_len];exact hlt')
      cases hO:oneE (s.drop j) with
      | none =>
        rw [hO] at href
        obtain ⟨k',hk',href⟩:=href
        rw [ap_setb hblt] at href
        dsimp only
        refine ⟨.ret,⟨[(6,.flat (.string (S []))),(7,.flat (.bool false))],cl r',[],bx.set b (e,rd s k')++[(59,bld u bx.length out [])]⟩,?_,by simp,rfl,k',_,hk',rfl⟩
        simp only [rd,Int.natCast_add,Int.natCast_one] at hdn href ⊢
        simp (maxSteps:=999999) (disch:=first | assumption | omega) only [go_sem,simprocAttr,au,on_tags_reader_says_0,hdn,href,hg,h1',h2',h3',ap_b,ap_n,ap_setb,ap_setn,ap_len]
      | some q =>
        obtain ⟨x,n⟩:=q
        rw [hO] at href
        dsimp only at href ⊢
        rw [ap_setb hblt] at href
        have hx:=oneE_len hO
        rw [List.length_drop] at hx
        dsimp only at hx
        have hw:=hWS (j+n) x u out (by unfold bound;omega)
        refine ⟨true,?_⟩
        simp only [rd,Int.natCast_add,Int.natCast_one] at hdn href hw ⊢
        simp (maxSteps:=999999) (disch:=first | assumption | omega) only [go_sem,simprocAttr,au,on_tags_reader_says_0,hdn,href,hw,hg,h1',h2',h3',ap_b,ap_n,ap_setb,ap_setn,ap_len]
     ·rw [if_neg h3]
      have h3':(c.toNat=38)=False:=eq_false fun h=>h3 (UInt8.toNat_inj.1 h)
      have hw:=hWB j c u out (by unfold bound;omega)
      refine ⟨true,?_⟩
      simp only [rd,Int.natCast_add,Int.natCast_one] at hdn hw ⊢
      simp (maxSteps:=999999) (disch:=first | assumption | omega) only [go_sem,simprocAttr,au,on_tags_reader_says_0,hdn,hw,hg,h1',h2',h3',ap_b,ap_n,ap_setb,ap_setn,ap_len]
  ·have hg:s[j]? =none:=List.getElem?_eq_none (by omega)
   unfold saysT
   simp only [hg]
   refine ⟨.exit 0,⟨[(8,.ptr bx.length 0)],cl r',[],bx.set b (e,rd s j)++[(59,bld u bx.length out [])]⟩,?_,by simp,rfl,u,rfl⟩
   simp only [rd,Int.natCast_add,Int.natCast_one] at hdn ⊢
   simp (maxSteps:=999999) (disch:=first | assumption | omega) only [go_sem,simprocAttr,au,on_tags_reader_says_0,hdn,hg,ap_b,ap_n,ap_setb,ap_setn,ap_len]
 ·simp (maxSteps:=999999) (disch:=first | assumption | omega) only [go_sem,simprocAttr,au,ap_len]
theorem walk_idx {s:Str} {fin:Unit→Out × St} {g:Nat→Out × St}:∀ (L:List Str) (k:Nat),(L.contains s=false∧walkL (fun (_:Unit) k x=>if x=s then .inr (g k) else .inl ()) fin () k L=fin ())∨(L.contains s=true∧∃ j,j<k+L.length∧walkL (fun (_:Unit) k x=>if x=s then .inr (g k) else .inl ()) fin () k L=g j)
 | [],k=>.inl ⟨rfl,rfl⟩
 | x::t,k=>by
   rw [walkL,List.contains_cons]
   by_cases h:x=s
   ·subst h
    refine .inr ⟨by simp,k,by simp,by rw [if_pos rfl]⟩
   ·rw [if_neg h]
    dsimp only
    have hb:(s == x)=false:=by simpa using fun e=>h e.symm
    rw [hb,Bool.false_or]
    rcases walk_idx (fin:=fin) (g:=g) t (k+1) with h1 | ⟨h1,j,h2,h3⟩
    ·exact .inl h1
    ·exact .inr ⟨h1,j,by simp only [List.length_cons];omega,h3⟩
theorem index_ev (L:List Str) (s:Str) (hL:L.length≤1000000):∃ i:Int,(L.contains s=decide (0≤i))∧evW code lib 221 [.slc L.length (scells L),.flat (.string (S s))] [] []=some ([.flat (.int .i64 i)],false,[],[]):=by
 have hloop:=loop_at (body:=evC (evW code lib) big b_slices_Index_string_string_0) (live:=[0,1,7,8]) (nb:=0) (fun (_:Unit) k=>⟨[(0,.slc L.length (scells L)),(1,.flat (.string (S s))),(7,.flat (.int .i64 (L.length:Nat))),(8,.flat (.int .i64 (k:Nat)))],[],[],[]⟩) L (fun _ _=>True)
  (fun _ k x=>if x=s then .inr (.ret,⟨[(4,.flat (.int .i64 (k:Nat)))],[],[],[]⟩) else .inl ()) (fun _=>(.exit 0,⟨[],[],[],[]⟩)) (fun _ k x _ hk hc hd=>?_) (fun _ _=>by simp only [go_sem,simprocAttr]) (fun _ _ _ _ _ _ _ _=>trivial) (fun _ _ x r h=>by split at h<;>simp at h;rw [← h];simp) (fun _ _=>?_) (fun _=>by simp) () trivial (by unfold big;omega)
 ·simp only [n0] at hloop
  rcases walk_idx (s:=s) (fin:=fun _=>(.exit 0,⟨[],[],[],[]⟩)) (g:=fun k=>(.ret,⟨[(4,.flat (.int .i64 (k:Nat)))],[],[],[]⟩)) L 0 with ⟨h1,h2⟩ | ⟨h1,j,h2,h3⟩
  ·rw [h2] at hloop
   refine ⟨-1,by rw [h1];rfl,?_⟩
   refine evW_eq code_slices_Index_string_string (Nat.le_of_ble_eq_true rfl) ?_
   have hm:Int.negSucc 0=-1:=rfl
   simp (maxSteps:=999999) (disch:=first | assumption | omega) only [go_sem,simprocAttr,au,hloop,scells_len,hm]
  ·rw [h3] at hloop
   refine ⟨j,by rw [h1];simp,?_⟩
   refine evW_eq code_slices_Index_string_string (Nat.le_of_ble_eq_true rfl) ?_
   simp (maxSteps:=999999) (disch:=first | assumption | omega) only [go_sem,simprocAttr,au,hloop,scells_len]
 ·have hsc:(scells L)[k]? =some (.flat (.string (S x))):=by simp only [scells,List.getElem?_map,hc,Option.map_some]
  have hsd:(scells L).drop k=.flat (.string (S x))::(scells L).drop (k+1):=by
   rw [List.drop_eq_getElem_cons (by rw [scells_len];exact hk)]
   rw [List.getElem?_eq_getElem (by rw [scells_len];exact hk),Option.some.injEq] at hsc
   rw [hsc]
  by_cases h:x=s
  ·have h':(s=x)=True:=eq_true h.symm
   rw [if_pos h]
   simp (maxSteps:=999999) (disch:=first | assumption | omega) only [go_sem,simprocAttr,au,on_slices_Index_string_string_0,hsc,hsd,h',scells_len]
  ·have h':(s=x)=False:=eq_false fun e=>h e.symm
   rw [if_neg h]
   simp (maxSteps:=999999) (disch:=first | assumption | omega) only [go_sem,simprocAttr,au,on_slices_Index_string_string_0,hsc,hsd,h',scells_len]
 ·simp (maxSteps:=999999) (disch:=first | assumption | omega) only [go_sem,simprocAttr,au,on_slices_Index_string_string_0]
theorem contains_ev (L:List Str) (s:Str) (hL:L.length≤1000000):evW code lib 194 [.slc L.length (scells L),.flat (.string (S s))] [] []=some ([.flat (.bool (L.contains s))],false,[],[]):=by
 obtain ⟨i,h1,h2⟩:=index_ev (lib:=lib) L s hL
 refine evW_eq code_slices_Contains_string_string (Nat.le_of_ble_eq_true rfl) ?_
 rw [h1]
 simp (maxSteps:=999999) (disch:=first | assumption | omega) only [go_sem,simprocAttr,au,h2,scells_np]
theorem element_ev (s:Str):evW code lib 162 [.flat (.string (S s))] [] []=some ([.flat (.bool (elemsE.contains s))],false,[],[]):=by
 have h:=contains_ev (lib:=lib) elemsE s (by decide)
 obtain ⟨v,hv⟩:∃ v,elemsE.contains s=v:=⟨_,rfl⟩
 rw [hv] at h ⊢
 simp only [scells,elemsE,List.map_cons,List.map_nil,List.length_cons,List.length_nil,Nat.zero_add,Nat.reduceAdd] at h
 refine evW_eq code_tags_element (Nat.le_of_ble_eq_true rfl) ?_
 simp only [go_sem,simprocAttr,mk_S,h]
theorem attribute_ev (s:Str):evW code lib 222 [.flat (.string (S s))] [] []=some ([.flat (.bool (attrsE.contains s))],false,[],[]):=by
 have h:=contains_ev (lib:=lib) attrsE s (by decide)
 obtain ⟨v,hv⟩:∃ v,attrsE.contains s=v:=⟨_,rfl⟩
 rw [hv] at h ⊢
 simp only [scells,attrsE,List.map_cons,List.map_nil,List.length_cons,List.length_nil,Nat.zero_add,Nat.reduceAdd] at h
 refine evW_eq code_tags_attribute (Nat.le_of_ble_eq_true rfl) ?_
 simp only [go_sem,simprocAttr,mk_S,h]
theorem void_ev (s:Str):evW code lib 109 [.flat (.string (S s))] [] []=some ([.flat (.bool (voidE s))],false,[],[]):=by
 refine evW_eq code_tags_Void (Nat.le_of_ble_eq_true rfl) ?_
 unfold voidE
 rcases Classical.em (s=[98,114]) with h1 | h1<;>rcases Classical.em (s=[104,114]) with h2 | h2<;>rcases Classical.em (s=[105,109,103]) with h3 | h3
 all_goals
  first | have h1':=eq_false h1 | have h1':=eq_true h1
  first | have h2':=eq_false h2 | have h2':=eq_true h2
  first | have h3':=eq_false h3 | have h3':=eq_true h3
  clear h1 h2 h3
  simp (maxSteps:=999999) (disch:=first | assumption | omega) only [go_sem,simprocAttr,au,h1',h2',h3']
end Nun
end
section
namespace Nun
open Go Go.RowKit Go.Proofs Go.Proofs.YtmpiobfdchlikaaGreatDoor
variable {lib:Callee}
structure RdAt (B:Nat→Boxes) (n b e:Nat) (s:Str) (r:List (Nat × Nat)):Prop where
 len:∀ j,(B j).length=n
 get:∀ j,(B j)[b]? =some (e,rd s j)
 set:∀ i j,(B j).set b (e,rd s i)=B i
 lt:b<n
 low:∀ j,boxLows n (B j)=true
 hs:s.length≤100000000
 hr:∀ q∈r,q≠(b,1)
 hlt:∀ q∈r,q.1<n
mutual
theorem pv_low_le {n m:Nat} (h:n≤m):∀ v:PV,v.low n=true→v.low m=true
 | .ptr b _,k=>by simp only [PV.low,decide_eq_true_eq] at k ⊢;omega
 | .yld b,k=>by simp only [PV.low,decide_eq_true_eq] at k ⊢;omega
 | .bsl b _ _,k=>by simp only [PV.low,decide_eq_true_eq] at k ⊢;omega
 | .slc _ cs,k=>by simp only [PV.low] at k ⊢;exact lows_le h cs k
 | .agg cs,k=>by simp only [PV.low] at k ⊢;exact lows_le h cs k
 | .tup cs,k=>by simp only [PV.low] at k ⊢;exact lows_le h cs k
 | .elt cs,k=>by simp only [PV.low] at k ⊢;exact lows_le h cs k
 | .clo _ cs,k=>by simp only [PV.low] at k ⊢;exact lows_le h cs k
 | .lp _ _ _ _ cs,k=>by simp only [PV.low] at k ⊢;exact lows_le h cs k
 | .flat _,_=>rfl
 | .unk,_=>rfl
theorem lows_le {n m:Nat} (h:n≤m):∀ l:List PV,lows n l=true→lows m l=true
 | [],_=>rfl
 | v::l,k=>by
   simp only [lows,Bool.and_eq_true] at k ⊢
   exact ⟨pv_low_le h v k.1,lows_le h l k.2⟩
end
theorem boxLows_le {n m:Nat} (h:n≤m):∀ l:Boxes,boxLows n l=true→boxLows m l=true
 | [],_=>rfl
 | q::l,hl=>by
   rw [boxLows_cons,Bool.and_eq_true] at hl ⊢
   exact ⟨lows_le h _ hl.1,boxLows_le h l hl.2⟩
section
variable {B:Nat→Boxes} {n b e:Nat} {s:Str} {r:List (Nat × Nat)}
theorem RdAt.app (H:RdAt B n b e s r) {m:Nat} (ys:Boxes) (hm:n+ys.length=m) (hl:boxLows m ys=true):RdAt (fun j=>B j++ys) m b e s r where
 len j:=by rw [List.length_append,H.len];exact hm
 get j:=by rw [List.getElem?_append_left (by rw [H.len];exact H.lt),H.get]
 set i j:=by rw [List.set_append_left _ _ (by rw [H.len];exact H.lt),H.set]
 lt:=by have:=H.lt;omega
 low j:=by rw [low_app,boxLows_le (by omega) _ (H.low j),hl];rfl
 hs:=H.hs
 hr:=H.hr
 hlt q hq:=by have:=H.hlt q hq;omega
theorem RdAt.a_get (H:RdAt B n b e s r) (j:Nat) (ys:Boxes):(B j++ys)[b]? =some (e,rd s j):=by rw [List.getElem?_append_left (by rw [H.len];exact H.lt),H.get]
theorem RdAt.a_0 (H:RdAt B n b e s r) (j:Nat) (ys:Boxes):(B j++ys)[n]? =ys[0]? :=by rw [List.getElem?_append_right (by rw [H.len];omega),H.len,Nat.sub_self]
theorem RdAt.a_1 (H:RdAt B n b e s r) (j i:Nat) (ys:Boxes):(B j++ys)[n+i]? =ys[i]? :=by rw [List.getElem?_append_right (by rw [H.len];omega),H.len,Nat.add_sub_cancel_left]
theorem RdAt.a_set (H:RdAt B n b e s r) (i j:Nat) (ys:Boxes):(B j++ys).set b (e,rd s i)=B i++ys:=by rw [List.set_append_left _ _ (by rw [H.len];exact H.lt),H.set]
theorem RdAt.a_s0 (H:RdAt B n b e s r) (j:Nat) (ys:Boxes) (q:Nat × List PV):(B j++ys).set n q=B j++ys.set 0 q:=by rw [List.set_append_right _ _ (by rw [H.len];omega),H.len,Nat.sub_self]
theorem RdAt.a_s1 (H:RdAt B n b e s r) (j i:Nat) (ys:Boxes) (q:Nat × List PV):(B j++ys).set (n+i) q=B j++ys.set i q:=by rw [List.set_append_right _ _ (by rw [H.len];omega),H.len,Nat.add_sub_cancel_left]
theorem RdAt.a_len (H:RdAt B n b e s r) (j:Nat) (ys:Boxes):(B j++ys).length=n+ys.length:=by rw [List.length_append,H.len]
theorem RdAt.a_take (H:RdAt B n b e s r) (j:Nat) (ys:Boxes):(B j++ys).take n=B j:=by rw [List.take_append_of_le_length (by rw [H.len];omega),List.take_of_length_le (by rw [H.len];omega)]
theorem RdAt.a_take1 (H:RdAt B n b e s r) (j i:Nat) (ys:Boxes):(B j++ys).take (n+i)=B j++ys.take i:=by
 rw [List.take_append,H.len,Nat.add_sub_cancel_left,List.take_of_length_le (by rw [H.len];omega)]
theorem cl_dropN {b o m:Nat}:∀ r:List (Nat × Nat),(∀ q∈r,q.1<b)→dropC b o m (cl r)=cl r
 | [],_=>rfl
 | q::r,h=>by
   have h1:=h q List.mem_cons_self
   have h2:=cl_dropN (o:=o) (m:=m) r fun x hx=>h x (List.mem_cons_of_mem _ hx)
   show dropC b o m (Loc.cell q.1 q.2::cl r)=Loc.cell q.1 q.2::cl r
   rw [dropC_c,h2]
   rw [if_neg (by omega)]
theorem RdAt.d_0 (H:RdAt B n b e s r) (o m:Nat):dropC n o m (cl r)=cl r:=cl_dropN r H.hlt
theorem RdAt.d_1 (H:RdAt B n b e s r) (i o m:Nat):dropC (n+i) o m (cl r)=cl r:=cl_dropN r fun q hq=>by have:=H.hlt q hq;omega
theorem RdAt.u_0 (H:RdAt B n b e s r):underO n (cl r)=cl r:=cl_under r H.hlt
theorem RdAt.u_1 (H:RdAt B n b e s r) (i:Nat):underO (n+i) (cl r)=cl r:=cl_under r fun q hq=>by have:=H.hlt q hq;omega
theorem RdAt.done (H:RdAt B n b e s r) (k:Nat):evW code lib 107 [.ptr b 0] (B k) (cl r)=some ([.flat (.bool (decide (s.length≤k)))],false,B k,cl r) :=
 done_ev (H.get k) (by rw [H.len];exact H.hlt)
theorem RdAt.take (H:RdAt B n b e s r) (HP:LibPre lib) (w:Str) {k:Nat} (hk:k≤s.length) (hw:w.length≤1000000000):evW code lib 159 [.ptr b 0,.flat (.string (S w))] (B k) (cl r)=some ([.flat (.bool (w.isPrefixOf (s.drop k)))],false,B (if w.isPrefixOf (s.drop k) then k+w.length else k),cl r):=by
 have:=H.hs
 have h:=take_ev HP (w:=w) (H.get k) (by omega) hw hk H.hr (by rw [H.len];exact H.hlt)
 rw [H.set] at h
 exact h
theorem RdAt.word (H:RdAt B n b e s r) {k:Nat} (hk:k≤s.length):evW code lib 160 [.ptr b 0,.clo 161 []] (B k) (cl r)=some ([.flat (.string (S (wordE s k)))],false,B (k+(wordE s k).length),cl r):=by
 have:=H.hs
 have h:=while_ev (lib:=lib) (f:=161) (p:=letB) (H.get k) (by omega) hk H.hr (by rw [H.len];exact H.hlt) (by decide) letter_ev
 rw [H.set] at h
 exact h
theorem RdAt.gap (H:RdAt B n b e s r) {k:Nat} (hk:k≤s.length):evW code lib 160 [.ptr b 0,.clo 195 []] (B k) (cl r)=some ([.flat (.string (S (gapE s k)))],false,B (k+(gapE s k).length),cl r):=by
 have:=H.hs
 have h:=while_ev (lib:=lib) (f:=195) (p:=blankB) (H.get k) (by omega) hk H.hr (by rw [H.len];exact H.hlt) (by decide) blank_ev
 rw [H.set] at h
 exact h
theorem RdAt.says (H:RdAt B n b e s r) (HP:LibPre lib) (HB:BldIn lib) {k:Nat} {en bd:UInt8} (hk:k≤s.length) :
 match saysE s en bd k with
 | some (x,p)=>evW code lib 164 [.ptr b 0,.flat (.int .u8 en.toNat),.flat (.int .u8 bd.toNat)] (B k) (cl r)=some ([.flat (.string (S x)),.flat (.bool true)],false,B p,cl r)
 | none=>∃ k',k'≤s.length∧evW code lib 164 [.ptr b 0,.flat (.int .u8 en.toNat),.flat (.int .u8 bd.toNat)] (B k) (cl r)=some ([.flat (.string (S [])),.flat (.bool false)],false,B k',cl r):=by
 have h:=says_ev (lib:=lib) (en:=en) (bd:=bd) HP HB (H.get k) (by rw [H.len];exact H.low k) H.hs hk H.hr (by rw [H.len];exact H.hlt)
 simp only [H.set] at h
 exact h
end
theorem word_le {s:Str} {k:Nat} (h:k≤s.length):k+(wordE s k).length≤s.length:=by
 have:=(List.takeWhile_prefix letB (l:=s.drop k)).length_le
 rw [List.length_drop] at this;unfold wordE;omega
theorem gap_le {s:Str} {k:Nat} (h:k≤s.length):k+(gapE s k).length≤s.length:=by
 have:=(List.takeWhile_prefix blankB (l:=s.drop k)).length_le
 rw [List.length_drop] at this;unfold gapE;omega
theorem pre_1 {s:Str} {k:Nat} {c:UInt8}:([c]:Str).isPrefixOf (s.drop k)=decide (s[k]? =some c):=by
 have hg:s[k]? =(s.drop k)[0]? :=by rw [List.getElem?_drop,Nat.add_zero]
 rw [hg]
 cases s.drop k with
 | nil=>rfl
 | cons a t =>
   simp only [List.isPrefixOf,Bool.and_true,List.getElem?_cons_zero,Option.some.injEq]
   by_cases h:c=a
   ·subst h;simp
   ·have h2:¬ a=c:=fun e=>h e.symm
    simp [h,h2]
def acell (a:Att):List PV:=[.flat (.string (S a.name)),.flat (.string (S a.val)),.flat (.int .i64 (a.fr:Nat)),.flat (.int .i64 (a.to:Nat))]
theorem attr_ev {B:Nat→Boxes} {n b e:Nat} {s:Str} {r:List (Nat × Nat)} (H:RdAt B n b e s r) (HP:LibPre lib) (HB:BldIn lib) {k:Nat} (hk:k≤s.length) :
 match attE s k with
 | some (a,p)=>evW code lib 196 [.ptr b 0] (B k) (cl r)=some ([.agg (acell a),.flat (.bool true)],false,B p,cl r)
 | none=>∃ a k',k'≤s.length∧evW code lib 196 [.ptr b 0] (B k) (cl r)=some ([.agg (acell a),.flat (.bool false)],false,B k',cl r):=by
 have h0:=H.hs
 have h1:=word_le hk
 have hr1:=H.a_get;have hr2:=H.a_0;have hr3:=H.a_1;have hr4:=H.a_set;have hr5:=H.a_s0;have hr6:=H.a_s1;have hr7:=H.a_len;have hr8:=H.a_take;have hr9:=H.a_take1;have hrl:=H.len;have hlow:=H.low;have hd0:=H.d_0;have hd1:=H.d_1;have hu0:=H.u_0;have hu1:=H.u_1
 have hz:(⟨#[]⟩:ByteArray)=S []:=rfl
 have K2:∀ A4 A2,boxLows (n+2) [A2,A4]=true→RdAt (fun j=>B j++[A2,A4]) (n+2) b e s r:=fun A4 A2 h=>H.app _ rfl h
 have K1:∀ A2,boxLows (n+1) [A2]=true→RdAt (fun j=>B j++[A2]) (n+1) b e s r:=fun A2 h=>H.app _ rfl h
 have hw:=(K1 (214,[.flat (.string (S [])),.flat (.string (S [])),.flat (.int .i64 0),.flat (.int .i64 0)]) rfl).word (lib:=lib) hk
 have ha:=attribute_ev (lib:=lib) (wordE s k)
 unfold attE
 obtain ⟨w,hwd⟩:∃ w,wordE s k=w:=⟨_,rfl⟩
 rw [hwd] at hw ha h1 ⊢
 cases hc:attrsE.contains w with
 | false =>
   rw [hc] at ha
   refine ⟨⟨w,[],0,0⟩,k+w.length,h1,?_⟩
   refine evW_eq code_tags_reader_attr (Nat.le_of_ble_eq_true rfl) ?_
   simp (maxSteps:=999999) (disch:=first | assumption | omega) only [go_sem,simprocAttr,au,hz,hw,ha,hr1,hr2,hr3,hr4,hr5,hr6,hr7,hr8,hr9,hrl,hlow,hd0,hd1,hu0,hu1,rd,acell]
 | true =>
   rw [hc] at ha
   obtain ⟨k1,hk1⟩:∃ k1,k+w.length=k1:=⟨_,rfl⟩
   rw [hk1] at hw h1 ⊢
   obtain ⟨k2,hk2⟩:∃ k2,k1+2=k2:=⟨_,rfl⟩
   have hT:=(K2 (214,[.flat (.string (S w)),.flat (.string (S [])),.flat (.int .i64 0),.flat (.int .i64 0)]) (214,[.flat (.string (S [])),.flat (.string (S [])),.flat (.int .i64 0),.flat (.int .i64 0)]) rfl).take (lib:=lib) HP [61,34] h1 (by decide)
   have hbu:beginsU s [61,34] k1=([61,34]:Str).isPrefixOf (s.drop k1):=by unfold beginsU;simp only [h1,decide_true,Bool.true_and,if_true]
   rw [hbu]
   cases hp:([61,34]:Str).isPrefixOf (s.drop k1) with
   | false =>
     rw [hp] at hT
     simp only [Bool.false_eq_true,if_false] at hT
     refine ⟨⟨w,[],0,0⟩,k1,h1,?_⟩
     refine evW_eq code_tags_reader_attr (Nat.le_of_ble_eq_true rfl) ?_
     simp (maxSteps:=999999) (disch:=first | assumption | omega) only [go_sem,simprocAttr,au,hz,hw,ha,hT,hr1,hr2,hr3,hr4,hr5,hr6,hr7,hr8,hr9,hrl,hlow,hd0,hd1,hu0,hu1,rd,acell]
   | true =>
     rw [hp] at hT
     have hpl:=pre_len hp
     rw [List.length_drop] at hpl
     simp only [if_true,List.length_cons,List.length_nil,Nat.zero_add,Nat.reduceAdd,hk2] at hT hpl ⊢
     have h2:k2≤s.length:=by omega
     have hS:=(K2 (214,[.flat (.string (S w)),.flat (.string (S [])),.flat (.int .i64 (k2:Nat)),.flat (.int .i64 0)]) (214,[.flat (.string (S [])),.flat (.string (S [])),.flat (.int .i64 0),.flat (.int .i64 0)]) rfl).says (lib:=lib) (en:=34) (bd:=60) HP HB h2
     have e34:((UInt8.toNat 34:Nat):Int)=34:=rfl
     have e60:((UInt8.toNat 60:Nat):Int)=60:=rfl
     rw [e34,e60] at hS
     cases hE:saysE s 34 60 k2 with
     | none =>
       rw [hE] at hS
       obtain ⟨k',hk',hS⟩:=hS
       refine ⟨⟨w,[],k2,k'⟩,k',hk',?_⟩
       refine evW_eq code_tags_reader_attr (Nat.le_of_ble_eq_true rfl) ?_
       simp (maxSteps:=999999) (disch:=first | assumption | omega) only [go_sem,simprocAttr,au,hz,hw,ha,hT,hS,hr1,hr2,hr3,hr4,hr5,hr6,hr7,hr8,hr9,hrl,hlow,hd0,hd1,hu0,hu1,rd,acell]
     | some q =>
       obtain ⟨v,p⟩:=q
       rw [hE] at hS
       have hel:=saysE_len h2 hE
       dsimp only at hS hel ⊢
       have hQ:=(K2 (214,[.flat (.string (S w)),.flat (.string (S v)),.flat (.int .i64 (k2:Nat)),.flat (.int .i64 (p:Nat))]) (214,[.flat (.string (S [])),.flat (.string (S [])),.flat (.int .i64 0),.flat (.int .i64 0)]) rfl).take (lib:=lib) HP [34] hel.2.1 (by decide)
       rw [pre_1] at hQ
       by_cases hpl2:p<s.length
       ·have hsp:(s[p]? =some 34)=True:=by
         rcases hel.2.2.2 with h | h
         ·rw [List.getElem?_eq_getElem hpl2] at h;cases h
         ·exact eq_true h
        simp only [hsp,decide_true,if_true,List.length_cons,List.length_nil,Nat.zero_add] at hQ
        simp only [Bool.and_self,if_true,hpl2]
        refine evW_eq code_tags_reader_attr (Nat.le_of_ble_eq_true rfl) ?_
        simp (maxSteps:=999999) (disch:=first | assumption | omega) only [go_sem,simprocAttr,au,hz,hw,ha,hT,hS,hQ,hr1,hr2,hr3,hr4,hr5,hr6,hr7,hr8,hr9,hrl,hlow,hd0,hd1,hu0,hu1,rd,acell,same_s]
       ·have hsp:(s[p]? =some 34)=False:=eq_false (by rw [List.getElem?_eq_none (by omega)];exact fun h=>by cases h)
        simp only [hsp,decide_false,Bool.false_eq_true,if_false] at hQ
        simp only [Bool.and_self,if_true,hpl2,if_false]
        refine ⟨⟨w,v,k2,p⟩,p,by omega,?_⟩
        refine evW_eq code_tags_reader_attr (Nat.le_of_ble_eq_true rfl) ?_
        simp (maxSteps:=999999) (disch:=first | assumption | omega) only [go_sem,simprocAttr,au,hz,hw,ha,hT,hS,hQ,hr1,hr2,hr3,hr4,hr5,hr6,hr7,hr8,hr9,hrl,hlow,hd0,hd1,hu0,hu1,rd,acell,same_s]
end Nun
end
section
namespace Nun
open Go Go.RowKit Go.Proofs Go.Proofs.YtmpiobfdchlikaaGreatDoor
variable {lib:Callee}
def acells (l:List Att):List PV:=l.flatMap acell
theorem acell_low {n:Nat} (a:Att):lows n (acell a)=true:=rfl
theorem acells_len:∀ l:List Att,(acells l).length=l.length * 4
 | []=>rfl
 | a::l=>by
   show (acell a++acells l).length=_
   rw [List.length_append,acells_len l,List.length_cons];show 4+_=_;omega
theorem lows_app {n:Nat}:∀ {a b:List PV},lows n (a++b)=(lows n a && lows n b)
 | [],b=>by simp [lows]
 | x::a,b=>by simp only [List.cons_append,lows,lows_app,Bool.and_assoc]
theorem acells_low {n:Nat}:∀ l:List Att,lows n (acells l)=true
 | []=>rfl
 | a::l=>by show lows n (acell a++acells l)=true;rw [lows_app,acells_low l];rfl
theorem acells_np:∀ l:List Att,noPtrs (acells l)=true
 | []=>rfl
 | a::l=>by
   show noPtrs (acell a++acells l)=true
   simp only [acell,List.cons_append,List.nil_append,noPtrs,PV.noPtr,acells_np l,Bool.true_and]
theorem acells_noU8:∀ l:List Att,noU8 (acells l)=true
 | []=>rfl
 | a::l=>by
   show noU8 (acell a++acells l)=true
   rw [noU8_app,acells_noU8 l];rfl
theorem acells_app {a b:List Att}:acells a++acells b=acells (a++b):=by simp [acells]
theorem acells_at {l:List Att} {k:Nat} {x:Att} (h:l[k]? =some x):(acells l).drop (k * 4)=acell x++acells (l.drop (k+1)):=by
 induction l generalizing k with
 | nil=>cases h
 | cons a l ih =>
   show (acell a++acells l).drop _=_
   cases k with
   | zero =>
     simp only [List.getElem?_cons_zero,Option.some.injEq] at h
     subst h
     simp only [Nat.zero_mul,List.drop_zero,Nat.zero_add,List.drop_succ_cons]
   | succ k =>
     rw [List.getElem?_cons_succ] at h
     have e:(k+1) * 4=4+k * 4:=by omega
     rw [e,← List.drop_drop]
     show (acells l).drop _=_
     rw [ih h]
     rfl
theorem bx_l {bx ys:Boxes} {p:Nat} {q:Nat × List PV} (h:bx[p]? =some q):(bx++ys)[p]? =some q:=by
 rw [List.getElem?_append_left (List.getElem?_eq_some_iff.1 h).1,h]
theorem bx_0 {bx ys:Boxes}:(bx++ys)[bx.length]? =ys[0]? :=by rw [List.getElem?_append_right (Nat.le_refl _),Nat.sub_self]
theorem bx_take {bx ys:Boxes}:(bx++ys).take bx.length=bx:=by rw [List.take_left]
theorem open1_ev {bx:Boxes} {r:List (Nat × Nat)} {p e:Nat} {a:Att} (c:Att) (hp:bx[p]? =some (e,acell a)) (hlow:boxLows bx.length bx=true) (hlt:∀ q∈r,q.1<bx.length) :
 evW code lib 198 [.agg (acell c),.ptr p 0] bx (cl r)=some ([.flat (.bool (decide (c.name=a.name)))],false,bx,cl r):=by
 refine evW_eq code_tags_reader_open_1 (Nat.le_of_ble_eq_true rfl) ?_
 have h1:=fun ys=>bx_l (ys:=ys) hp
 simp only [acell] at h1 ⊢
 simp (maxSteps:=999999) (disch:=first | assumption | omega) only [go_sem,simprocAttr,au,h1,bx_0,bx_take,hlow,List.length_append]
theorem walk_idf {p:Att→Bool} {fin:Unit→Out × St} {g:Nat→Out × St}:∀ (L:List Att) (k:Nat),(L.any p=false∧walkL (fun (_:Unit) k x=>if p x then .inr (g k) else .inl ()) fin () k L=fin ())∨(L.any p=true∧∃ j,j<k+L.length∧walkL (fun (_:Unit) k x=>if p x then .inr (g k) else .inl ()) fin () k L=g j)
 | [],k=>.inl ⟨rfl,rfl⟩
 | x::t,k=>by
   rw [walkL,List.any_cons]
   cases h:p x with
   | true=>exact .inr ⟨by simp,k,by simp,by rw [if_pos rfl]⟩
   | false =>
     rw [if_neg (by simp),Bool.false_or]
     dsimp only
     rcases walk_idf (fin:=fin) (g:=g) t (k+1) with h1 | ⟨h1,j,h2,h3⟩
     ·exact .inl h1
     ·exact .inr ⟨h1,j,by simp only [List.length_cons];omega,h3⟩
theorem indexf_ev {bx:Boxes} {r:List (Nat × Nat)} {p e:Nat} {a:Att} (L:List Att) (hp:bx[p]? =some (e,acell a)) (hlow:boxLows bx.length bx=true) (hlt:∀ q∈r,q.1<bx.length) (hL:L.length≤1000000000) :
 ∃ i:Int,(L.any (fun c=>decide (c.name=a.name))=decide (0≤i))∧evW code lib 223 [.slc L.length (acells L),.clo 198 [.ptr p 0]] bx (cl r)=some ([.flat (.int .i64 i)],false,bx,cl r):=by
 have hloop:=loop_at (body:=evC (evW code lib) big b_slices_IndexFunc_tags_Attr_tags_Attr_0) (live:=[0,1,7,8]) (nb:=bx.length) (fun (_:Unit) k=>⟨[(0,.slc L.length (acells L)),(1,.clo 198 [.ptr p 0]),(7,.flat (.int .i64 (L.length:Nat))),(8,.flat (.int .i64 (k:Nat)))],cl r,[],bx⟩) L (fun _ _=>True)
  (fun _ k x=>if decide (x.name=a.name) then .inr (.ret,⟨[(4,.flat (.int .i64 (k:Nat)))],cl r,[],bx⟩) else .inl ()) (fun _=>(.exit 0,⟨[],cl r,[],bx⟩)) (fun _ k x _ hk hc hd=>?_) (fun _ _=>by simp only [go_sem,simprocAttr,cl_keep,cl_owns,cl_under r hlt]) (fun _ _ _ _ _ _ _ _=>trivial) (fun _ _ x r h=>by split at h<;>simp at h;rw [← h];simp) (fun _ _=>?_) (fun _=>by simp) () trivial (by unfold big;omega)
 ·simp only [n0] at hloop
  rcases walk_idf (p:=fun x=>decide (x.name=a.name)) (fin:=fun _=>(.exit 0,⟨[],cl r,[],bx⟩)) (g:=fun k=>(.ret,⟨[(4,.flat (.int .i64 (k:Nat)))],cl r,[],bx⟩)) L 0 with ⟨h1,h2⟩ | ⟨h1,j,h2,h3⟩
  ·rw [h2] at hloop
   refine ⟨-1,by rw [h1];rfl,?_⟩
   refine evW_eq code_slices_IndexFunc_tags_Attr_tags_Attr (Nat.le_of_ble_eq_true rfl) ?_
   have hm:Int.negSucc 0=-1:=rfl
   simp (maxSteps:=999999) (disch:=first | assumption | omega) only [go_sem,simprocAttr,au,hloop,acells_len,hm]
  ·rw [h3] at hloop
   refine ⟨j,by rw [h1];simp,?_⟩
   refine evW_eq code_slices_IndexFunc_tags_Attr_tags_Attr (Nat.le_of_ble_eq_true rfl) ?_
   simp (maxSteps:=999999) (disch:=first | assumption | omega) only [go_sem,simprocAttr,au,hloop,acells_len]
 ·have hsd:=acells_at hc
  have ho:=open1_ev (lib:=lib) x hp hlow hlt
  simp only [acell,List.cons_append,List.nil_append] at hsd ho
  have hmul:∀ i,(acells (L.drop (k+1))).length+1+1+1+1 ≥ 4:=fun _=>by omega
  have hyd:(198=4611686018427387904)=False:=eq_false (by decide)
  by_cases h:x.name=a.name
  ·have h':=eq_true h
   simp only [h',decide_true] at ho ⊢
   simp (maxSteps:=999999) (disch:=first | assumption | omega) only [go_sem,simprocAttr,au,on_slices_IndexFunc_tags_Attr_tags_Attr_0,hsd,ho,hyd,acells_len]
  ·have h':=eq_false h
   simp only [h',decide_false] at ho ⊢
   simp (maxSteps:=999999) (disch:=first | assumption | omega) only [go_sem,simprocAttr,au,on_slices_IndexFunc_tags_Attr_tags_Attr_0,hsd,ho,hyd,acells_len]
 ·simp (maxSteps:=999999) (disch:=first | assumption | omega) only [go_sem,simprocAttr,au,on_slices_IndexFunc_tags_Attr_tags_Attr_0]
theorem containsf_ev {bx:Boxes} {r:List (Nat × Nat)} {p e:Nat} {a:Att} (L:List Att) (hp:bx[p]? =some (e,acell a)) (hlow:boxLows bx.length bx=true) (hlt:∀ q∈r,q.1<bx.length) (hL:L.length≤1000000000) :
 evW code lib 197 [.slc L.length (acells L),.clo 198 [.ptr p 0]] bx (cl r)=some ([.flat (.bool (L.any (fun c=>decide (c.name=a.name))))],false,bx,cl r):=by
 obtain ⟨i,h1,h2⟩:=indexf_ev (lib:=lib) L hp hlow hlt hL
 refine evW_eq code_slices_ContainsFunc_tags_Attr_tags_Attr (Nat.le_of_ble_eq_true rfl) ?_
 rw [h1]
 simp (maxSteps:=999999) (disch:=first | assumption | omega) only [go_sem,simprocAttr,au,h2]
def tcell (t:Tok):List PV:=[.flat (.int .u8 t.kind.toNat),.flat (.string (S t.name)),.flat (.string (S t.text)),.slc t.attrs.length (acells t.attrs),.flat (.int .i64 (t.fr:Nat)),.flat (.int .i64 (t.to:Nat))]
theorem tcell_low {n:Nat} (t:Tok):lows n (tcell t)=true:=by
 simp only [tcell,lows,PV.low,acells_low,Bool.and_self]
theorem RdAt.app2 {B:Nat→Boxes} {n b e:Nat} {s:Str} {r:List (Nat × Nat)} (H:RdAt B n b e s r) {m:Nat} (ys:Boxes) (hm:n+ys.length=m) (hl:boxLows m ys=true) (r':List (Nat × Nat)) (hr:∀ q∈r',q∈r∨(n≤q.1∧q.1<m)):RdAt (fun j=>B j++ys) m b e s r' where
 len:=(H.app ys hm hl).len
 get:=(H.app ys hm hl).get
 set:=(H.app ys hm hl).set
 lt:=(H.app ys hm hl).lt
 low:=(H.app ys hm hl).low
 hs:=H.hs
 hr q hq:=by
  rcases hr q hq with h | h
  ·exact H.hr q h
  ·intro e;have:=H.lt;rw [e] at h;dsimp only at h;omega
 hlt q hq:=by
  rcases hr q hq with h | h
  ·have:=H.hlt q h;omega
  ·exact h.2
theorem cl_lt {n:Nat}:∀ r:List (Nat × Nat),(∀ q∈r,q.1<n)→ltO n (cl r)=cl r
 | [],_=>rfl
 | q::r,h=>by
   have h1:=h q List.mem_cons_self
   have h2:=cl_lt (n:=n) r fun x hx=>h x (List.mem_cons_of_mem _ hx)
   show ltO n (Loc.cell q.1 q.2::cl r)=Loc.cell q.1 q.2::cl r
   rw [ltO_c,if_pos h1,h2]
theorem RdAt.a_low {B:Nat→Boxes} {n b e:Nat} {s:Str} {r:List (Nat × Nat)} (H:RdAt B n b e s r) (j i:Nat) (ys:Boxes):boxLows (n+i) (B j++ys)=boxLows (n+i) ys:=by
 rw [low_app,boxLows_le (Nat.le_add_right n i) _ (H.low j),Bool.true_and]
theorem attE_len {s:Str} {k:Nat} {q:Att × Nat} (hk:k≤s.length) (h:attE s k=some q):k<q.2∧q.2≤s.length:=by
 unfold attE at h
 split at h
 ·rename_i hc
  rw [Bool.and_eq_true] at hc
  have hb:=hc.2
  unfold beginsU at hb
  rw [Bool.and_eq_true] at hb
  have hpl:=pre_len hb.2
  rw [List.length_drop] at hpl
  simp only [List.length_cons,List.length_nil,decide_eq_true_eq] at hpl hb
  split at h
  ·cases h
  ·rename_i v e hE
   have hel:=saysE_len (by omega) hE
   dsimp only at hel
   split at h
   ·rename_i hlt
    cases h
    dsimp only;omega
   ·cases h
 ·cases h
theorem openT_in {s:Str}:∀ a c:List Att × Nat,(a.2≤s.length∧a.1.length≤a.2)→openT s a=.inl c→(c.2≤s.length∧c.1.length≤c.2)∧s.length - c.2<s.length - a.2:=by
 intro ⟨l,k⟩ c ⟨h1,h2⟩ h
 dsimp only at h1 h2
 have hg:=gap_le h1
 unfold openT at h
 dsimp only at h
 split at h
 ·cases h
 ·split at h
  ·cases h
  ·rename_i a e he
   have:=attE_len hg he
   dsimp only at this
   split at h
   ·cases h
   ·cases h
    dsimp only
    simp only [List.length_append,List.length_cons,List.length_nil]
    omega
theorem open_round {B:Nat→Boxes} {n b e:Nat} {s:Str} {r:List (Nat × Nat)} (H:RdAt B n b e s r) (HP:LibPre lib) (HB:BldIn lib) (w:Str) (fr:Nat) (l:List Att) (k:Nat) (hk:k≤s.length) (hl:l.length≤k) (Z:Tok) :
 match openT s (l,k) with
 | .inl c=>evC (evW code lib) big b_tags_reader_open_0 ⟨[(0,.ptr b 0),(4,.ptr n 0),(6,.ptr (n+1) 0)],cl ((n+1,3)::(n,3)::r),[],B k++[(163,tcell Z),(163,tcell ⟨111,w,[],l,fr,0⟩)]⟩=some (.normal,⟨[(0,.ptr b 0),(4,.ptr n 0),(6,.ptr (n+1) 0)],cl ((n+1,3)::(n,3)::r),[],B c.2++[(163,tcell Z),(163,tcell ⟨111,w,[],c.1,fr,0⟩)]⟩)
 | .inr (some c)=>∃ ow ys,underO n ow=cl r∧evC (evW code lib) big b_tags_reader_open_0 ⟨[(0,.ptr b 0),(4,.ptr n 0),(6,.ptr (n+1) 0)],cl ((n+1,3)::(n,3)::r),[],B k++[(163,tcell Z),(163,tcell ⟨111,w,[],l,fr,0⟩)]⟩=some (.ret,⟨[(4,.ptr n 0),(5,.flat (.bool true))],ow,[],B c.2++(163,tcell ⟨111,w,[],c.1,fr,c.2⟩)::ys⟩)
 | .inr none=>∃ t k' ow ys,k'≤s.length∧underO n ow=cl r∧evC (evW code lib) big b_tags_reader_open_0 ⟨[(0,.ptr b 0),(4,.ptr n 0),(6,.ptr (n+1) 0)],cl ((n+1,3)::(n,3)::r),[],B k++[(163,tcell Z),(163,tcell ⟨111,w,[],l,fr,0⟩)]⟩=some (.ret,⟨[(4,.ptr n 0),(5,.flat (.bool false))],ow,[],B k'++(163,tcell t)::ys⟩):=by
 have hs:=H.hs
 have hgl:=gap_le hk
 have hr1:=H.a_get;have hr2:=H.a_0;have hr3:=H.a_1;have hr4:=H.a_set;have hr5:=H.a_s0;have hr6:=H.a_s1;have hr7:=H.a_len;have hr8:=H.a_take;have hr9:=H.a_take1;have hrl:=H.len;have hlow:=H.low;have hd0:=H.d_0;have hd1:=H.d_1;have hu0:=H.u_0;have hu1:=H.u_1
 obtain ⟨r2,hr2'⟩:∃ r2,r2=(n+1,3)::(n,3)::r:=⟨_,rfl⟩
 obtain ⟨r3,hr3'⟩:∃ r3,r3=(n+1,3)::r:=⟨_,rfl⟩
 have dz1:dropC (n+1) 5 1 (cl r2)=cl r2:=by
  rw [hr2']
  show dropC (n+1) 5 1 (Loc.cell (n+1) 3::Loc.cell n 3::cl r)=Loc.cell (n+1) 3::Loc.cell n 3::cl r
  rw [dropC_c,if_neg (by omega),dropC_c,if_neg (by omega),hd1]
 have dz2:dropC n 0 6 (cl r2)=cl r3:=by
  rw [hr2',hr3']
  show dropC n 0 6 (Loc.cell (n+1) 3::Loc.cell n 3::cl r)=Loc.cell (n+1) 3::cl r
  rw [dropC_c,if_neg (by omega),dropC_c,if_pos (by omega),hd0]
 obtain ⟨r4,hr4'⟩:∃ r4,r4=(n,3)::r:=⟨_,rfl⟩
 have dz3:dropL (Loc.cell (n+1) 3) (cl r2)=cl r4:=by
  rw [hr2',hr4']
  show dropL _ (Loc.cell (n+1) 3::Loc.cell n 3::cl r)=Loc.cell n 3::cl r
  rw [dropL_cc,if_pos ⟨rfl,rfl⟩,dropL_cc,if_neg (by omega),cl_dropL]
  intro q hq e;have:=H.hlt q hq;rw [e] at this;dsimp only at this;omega
 have dz4:dropC (n+1) 3 1 (cl r4)=cl r4:=by
  rw [hr4']
  show dropC (n+1) 3 1 (Loc.cell n 3::cl r)=Loc.cell n 3::cl r
  rw [dropC_c,if_neg (by omega),hd1]
 have ow1:owns (cl r2) (Loc.cell (n+1) 3)=true:=by
  rw [hr2']
  show owns (Loc.cell (n+1) 3::Loc.cell n 3::cl r) _=true
  rw [owns_cc];simp
 have hc4:Loc.cell (n+1) 3::cl r4=cl r2:=by rw [hr2',hr4'];rfl
 have hu3:underO n (cl r3)=cl r:=by
  rw [hr3']
  show underO n (Loc.cell (n+1) 3::cl r)=cl r
  rw [underO_c,if_neg (by omega),hu0]
 rw [← hr2']
 have K2:RdAt (fun j=>B j++[(163,tcell Z),(163,tcell ⟨111,w,[],l,fr,0⟩)]) (n+2) b e s r2:=H.app2 (m:=n+2) _ rfl (by simp only [boxLows_cons,boxLows_nil,tcell_low,Bool.and_self]) r2 (by
  rw [hr2'];intro q hq
  rcases List.mem_cons.1 hq with rfl | hq
  ·exact .inr ⟨by dsimp only;omega,by dsimp only;omega⟩
  rcases List.mem_cons.1 hq with rfl | hq
  ·exact .inr ⟨by dsimp only;omega,by dsimp only;omega⟩
  exact .inl hq)
 have hd2:=K2.d_0
 have hblt:=H.lt
 have hlt2:ltO (n+2) (cl r2)=cl r2:=cl_lt r2 K2.hlt
 have hG:=K2.gap (lib:=lib) hk
 unfold openT
 dsimp only
 obtain ⟨g,hg⟩:∃ g,gapE s k=g:=⟨_,rfl⟩
 rw [hg] at hG hgl ⊢
 obtain ⟨k1,hk1⟩:∃ k1,k+g.length=k1:=⟨_,rfl⟩
 rw [hk1] at hG hgl ⊢
 have hT:=K2.take (lib:=lib) HP [62] hgl (by decide)
 have hbu:beginsU s [62] k1=([62]:Str).isPrefixOf (s.drop k1):=by unfold beginsU;simp only [hgl,decide_true,Bool.true_and]
 rw [hbu]
 have e111:((UInt8.toNat 111:Nat):Int)=111:=rfl
 simp only [tcell,n0,e111] at hG hT ⊢
 cases hp:([62]:Str).isPrefixOf (s.drop k1) with
 | true =>
   rw [hp] at hT
   simp only [if_true,List.length_cons,List.length_nil,Nat.zero_add] at hT ⊢
   refine ⟨cl r3,[(163,tcell ⟨111,w,[],l,fr,k1+1⟩)],hu3,?_⟩
   ·simp only [tcell,n0,e111]
    simp (maxSteps:=999999) (disch:=first | assumption | omega) only [go_sem,simprocAttr,au,on_tags_reader_open_0,hG,hT,hr1,hr2,hr3,hr4,hr5,hr6,hr7,hr8,hr9,hrl,hlow,hd0,hd1,hu0,hu1,dz1,dz2,hd2,rd]
 | false =>
   rw [hp] at hT
   simp only [Bool.false_eq_true,if_false] at hT ⊢
   have hA:=attr_ev K2 HP HB (k:=k1) hgl
   cases hE:attE s k1 with
   | none =>
     rw [hE] at hA
     obtain ⟨a,k',hk',hA⟩:=hA
     simp only [tcell,n0,e111,acell] at hA ⊢
     refine ⟨⟨111,w,[],l,fr,0⟩,k',cl r3,[(163,tcell ⟨111,w,[],l,fr,0⟩),(214,acell a)],hk',hu3,?_⟩
     simp only [tcell,n0,e111,acell]
     simp (maxSteps:=999999) (disch:=first | assumption | omega) only [go_sem,simprocAttr,au,on_tags_reader_open_0,hG,hT,hA,hr1,hr2,hr3,hr4,hr5,hr6,hr7,hr8,hr9,hrl,hlow,hd0,hd1,hu0,hu1,dz1,dz2,hd2,rd]
   | some q =>
     obtain ⟨a,p⟩:=q
     rw [hE] at hA
     have hel:=attE_len hgl hE
     have K3:RdAt (fun j=>B j++[(163,tcell Z),(163,tcell ⟨111,w,[],l,fr,0⟩),(214,acell a)]) (n+3) b e s r2:=H.app2 (m:=n+3) _ rfl (by simp only [boxLows_cons,boxLows_nil,tcell_low,acell_low,Bool.and_self]) r2 (by
      rw [hr2'];intro q hq
      rcases List.mem_cons.1 hq with rfl | hq
      ·exact .inr ⟨by dsimp only;omega,by dsimp only;omega⟩
      rcases List.mem_cons.1 hq with rfl | hq
      ·exact .inr ⟨by dsimp only;omega,by dsimp only;omega⟩
      exact .inl hq)
     have hC:=containsf_ev (lib:=lib) (a:=a) (p:=n+2) (e:=214) l (hr3 p 2 [(163,tcell Z),(163,tcell ⟨111,w,[],l,fr,0⟩),(214,acell a)]) (by rw [K3.len];exact K3.low p) (by rw [K3.len];exact K3.hlt) (by omega)
     simp only [tcell,n0,e111,acell] at hA hC ⊢
     by_cases hg0:g.length=0
     ·have hg0':(g=[])=True:=eq_true (List.eq_nil_of_length_eq_zero hg0)
      simp only [hg0,true_or,if_true]
      refine ⟨⟨111,w,[],l,fr,0⟩,p,cl r3,[(163,tcell ⟨111,w,[],l,fr,0⟩),(214,acell a)],hel.2,hu3,?_⟩
      simp only [tcell,n0,e111,acell]
      have hz:(⟨#[]⟩:ByteArray)=S []:=rfl
      simp (maxSteps:=999999) (disch:=first | assumption | omega) only [go_sem,simprocAttr,au,on_tags_reader_open_0,hG,hT,hA,hg0',hz,hr1,hr2,hr3,hr4,hr5,hr6,hr7,hr8,hr9,hrl,hlow,hd0,hd1,hu0,hu1,dz1,dz2,hd2,rd]
     ·have hg0':(g=[])=False:=eq_false fun h=>hg0 (by rw [h];rfl)
      simp only [hg0,false_or]
      have hz:(⟨#[]⟩:ByteArray)=S []:=rfl
      cases hdup:l.any (fun c=>decide (c.name=a.name)) with
      | true =>
        rw [hdup] at hC
        simp only [if_true]
        refine ⟨⟨111,w,[],l,fr,0⟩,p,cl r3,[(163,tcell ⟨111,w,[],l,fr,0⟩),(214,acell a)],hel.2,hu3,?_⟩
        simp only [tcell,n0,e111,acell]
        simp (maxSteps:=999999) (disch:=first | assumption | omega) only [go_sem,simprocAttr,au,on_tags_reader_open_0,hG,hT,hA,hC,hg0',hz,hr1,hr2,hr3,hr4,hr5,hr6,hr7,hr8,hr9,hrl,hlow,hd0,hd1,hu0,hu1,dz1,dz2,hd2,rd]
      | false =>
        rw [hdup] at hC
        simp only [Bool.false_eq_true,if_false]
        have hl2:=H.a_low
        have hac:acells l++[PV.flat (.string (S a.name)),.flat (.string (S a.val)),.flat (.int .i64 (a.fr:Nat)),.flat (.int .i64 (a.to:Nat))]=acells (l++[a]):=by rw [← acells_app];rfl
        have hbd:l.length+1≤bound:=by unfold bound;omega
        simp (maxSteps:=999999) (disch:=first | assumption | omega) only [go_sem,simprocAttr,au,on_tags_reader_open_0,hG,hT,hA,hC,hg0',hz,hr1,hr2,hr3,hr4,hr5,hr6,hr7,hr8,hr9,hrl,hlow,hl2,hd0,hd1,hu0,hu1,dz1,dz2,hd2,rd,acells_len,acells_low,acells_noU8,hbd,dz3,dz4,ow1,hc4,hac,hlt2,List.length_append]
def Z0:Tok:=⟨0,[],[],[],0,0⟩
theorem open_ev {B:Nat→Boxes} {n b e:Nat} {s:Str} {r:List (Nat × Nat)} (H:RdAt B n b e s r) (HP:LibPre lib) (HB:BldIn lib) (fr k:Nat) (hk:k≤s.length) :
 match (if elemsE.contains (wordE s k) then openE s (k+(wordE s k).length) else none) with
 | some (l,p)=>evW code lib 163 [.ptr b 0,.flat (.int .i64 (fr:Nat))] (B k) (cl r)=some ([.agg (tcell ⟨111,wordE s k,[],l,fr,p⟩),.flat (.bool true)],false,B p,cl r)∧p≤s.length
 | none=>∃ t k',k'≤s.length∧evW code lib 163 [.ptr b 0,.flat (.int .i64 (fr:Nat))] (B k) (cl r)=some ([.agg (tcell t),.flat (.bool false)],false,B k',cl r):=by
 have h0:=H.hs
 have h1:=word_le hk
 have hr1:=H.a_get;have hr2:=H.a_0;have hr3:=H.a_1;have hr4:=H.a_set;have hr5:=H.a_s0;have hr6:=H.a_s1;have hr7:=H.a_len;have hr8:=H.a_take;have hr9:=H.a_take1;have hrl:=H.len;have hlow:=H.low;have hd0:=H.d_0;have hd1:=H.d_1;have hu0:=H.u_0;have hu1:=H.u_1;have hblt:=H.lt
 have hz:(⟨#[]⟩:ByteArray)=S []:=rfl
 have e111:((UInt8.toNat 111:Nat):Int)=111:=rfl
 have ez0:tcell Z0=[.flat (.int .u8 0),.flat (.string (S [])),.flat (.string (S [])),.slc 0 [],.flat (.int .i64 0),.flat (.int .i64 0)]:=rfl
 obtain ⟨r2,hr2'⟩:∃ r2,r2=(n+1,3)::(n,3)::r:=⟨_,rfl⟩
 obtain ⟨r4,hr4'⟩:∃ r4,r4=(n,3)::r:=⟨_,rfl⟩
 have hcl4:Loc.cell n 3::cl r=cl r4:=by rw [hr4'];rfl
 have hc4:Loc.cell (n+1) 3::cl r4=cl r2:=by rw [hr2',hr4'];rfl
 have hu4:underO n (cl r4)=cl r:=by
  rw [hr4']
  show underO n (Loc.cell n 3::cl r)=cl r
  rw [underO_c,if_neg (by omega),hu0]
 have hu2:underO n (cl r2)=cl r:=by
  rw [← hc4,underO_c,if_neg (by omega),hu4]
 have dz5:dropC (n+1) 0 6 (cl r2)=cl r4:=by
  rw [← hc4,dropC_c,if_pos (by omega)]
  exact cl_dropN r4 (by
   rw [hr4'];intro q hq
   rcases List.mem_cons.1 hq with rfl | hq
   ·dsimp only;omega
   ·have:=H.hlt q hq;omega)
 have dz6:dropC n 0 6 (cl r2)=Loc.cell (n+1) 3::cl r:=by
  rw [← hc4,dropC_c,if_neg (by omega),hr4']
  show _::dropC n 0 6 (Loc.cell n 3::cl r)=_
  rw [dropC_c,if_pos (by omega),hd0]
 have hun2:underO (n+2) (cl r2)=cl r2:=cl_under r2 (by
  rw [hr2'];intro q hq
  rcases List.mem_cons.1 hq with rfl | hq
  ·dsimp only;omega
  rcases List.mem_cons.1 hq with rfl | hq
  ·dsimp only;omega
  ·have:=H.hlt q hq;omega)
 have hu5:underO n (Loc.cell (n+1) 3::cl r)=cl r:=by rw [underO_c,if_neg (by omega),hu0]
 have K1:RdAt (fun j=>B j++[(163,tcell Z0)]) (n+1) b e s r4:=H.app2 (m:=n+1) _ rfl (by simp only [boxLows_cons,boxLows_nil,tcell_low,Bool.and_self]) r4 (by
  rw [hr4'];intro q hq
  rcases List.mem_cons.1 hq with rfl | hq
  ·exact .inr ⟨Nat.le_refl _,by dsimp only;omega⟩
  exact .inl hq)
 have hw:=K1.word (lib:=lib) hk
 have hel:=element_ev (lib:=lib) (wordE s k)
 obtain ⟨w,hwd⟩:∃ w,wordE s k=w:=⟨_,rfl⟩
 rw [hwd] at hw hel h1 ⊢
 obtain ⟨k1,hk1⟩:∃ k1,k+w.length=k1:=⟨_,rfl⟩
 rw [hk1] at hw h1 ⊢
 cases hc:elemsE.contains w with
 | false =>
   rw [hc] at hel
   simp only [Bool.false_eq_true,if_false]
   refine ⟨⟨111,w,[],[],fr,0⟩,k1,h1,?_⟩
   simp only [ez0] at hw
   simp only [tcell,e111,n0,acells,List.flatMap_nil,List.length_nil]
   refine evW_eq code_tags_reader_open (Nat.le_of_ble_eq_true rfl) ?_
   simp (maxSteps:=999999) (disch:=first | assumption | omega) only [go_sem,simprocAttr,au,hz,hw,hel,hcl4,hc4,hr1,hr2,hr3,hr4,hr5,hr6,hr7,hr8,hr9,hrl,hlow,hd0,hd1,hu0,hu1,hu2,hu4,hu5,dz5,dz6,rd]
 | true =>
   rw [hc] at hel
   simp only [if_true]
   have hrel:=loop_rel (body:=evC (evW code lib) big b_tags_reader_open_0) (live:=[0,4,6]) (nb:=n+2)
    (fun (_:Unit) (q:List Att × Nat)=>(⟨[(0,.ptr b 0),(4,.ptr n 0),(6,.ptr (n+1) 0)],cl ((n+1,3)::(n,3)::r),[],B q.2++[(163,tcell Z0),(163,tcell ⟨111,w,[],q.1,fr,0⟩)]⟩:St))
    (openT s) none (fun a o st=>match a with
      | some c=>c.2≤s.length∧o=.ret∧∃ ow ys,underO n ow=cl r∧st=⟨[(4,.ptr n 0),(5,.flat (.bool true))],ow,[],B c.2++(163,tcell ⟨111,w,[],c.1,fr,c.2⟩)::ys⟩
      | none=>o=.ret∧∃ t k' ow ys,k'≤s.length∧underO n ow=cl r∧st=⟨[(4,.ptr n 0),(5,.flat (.bool false))],ow,[],B k'++(163,tcell t)::ys⟩)
    (fun a=>a.2≤s.length∧a.1.length≤a.2) (fun a=>s.length - a.2) (fun _ ⟨l,j⟩ hi=>?_) (fun _ ⟨l,j⟩ hi=>?_) (fun a c hi h=>openT_in a c hi h) (n:=s.length+1) (m:=big) () ([],k1) ⟨h1,Nat.zero_le _⟩ (by dsimp only;omega) (by unfold big;dsimp only;omega)
   ·obtain ⟨o,st,hl,hq⟩:=hrel
    have hopenE:runS (openT s) none (s.length+1) ([],k1)=openE s k1:=rfl
    rw [hopenE] at hq
    rw [← hr2'] at hl
    simp only [ez0] at hw hl
    simp only [tcell,e111,n0,acells,List.flatMap_nil,List.length_nil] at hl
    cases hE:openE s k1 with
    | some c =>
      rw [hE] at hq
      obtain ⟨hc2,rfl,ow,ys,hu,rfl⟩:=hq
      dsimp only
      refine ⟨?_,hc2⟩
      refine evW_eq code_tags_reader_open (Nat.le_of_ble_eq_true rfl) ?_
      simp only [tcell,e111] at hl ⊢
      simp (maxSteps:=999999) (disch:=first | assumption | omega) only [go_sem,simprocAttr,au,hz,hw,hel,hl,hu,hun2,hcl4,hc4,hr1,hr2,hr3,hr4,hr5,hr6,hr7,hr8,hr9,hrl,hlow,hd0,hd1,hu0,hu1,hu2,hu4,hu5,dz5,dz6,rd,acells_low]
    | none =>
      rw [hE] at hq
      obtain ⟨rfl,t,k',ow,ys,hk',hu,rfl⟩:=hq
      dsimp only
      refine ⟨t,k',hk',?_⟩
      refine evW_eq code_tags_reader_open (Nat.le_of_ble_eq_true rfl) ?_
      simp only [tcell,e111] at hl ⊢
      simp (maxSteps:=999999) (disch:=first | assumption | omega) only [go_sem,simprocAttr,au,hz,hw,hel,hl,hu,hun2,hcl4,hc4,hr1,hr2,hr3,hr4,hr5,hr6,hr7,hr8,hr9,hrl,hlow,hd0,hd1,hu0,hu1,hu2,hu4,hu5,dz5,dz6,rd,acells_low]
   ·have:=open_round H HP HB w fr l j hi.1 hi.2 Z0
    cases hst:openT s (l,j) with
    | inl c=>rw [hst] at this;exact ⟨(),this⟩
    | inr c =>
      rw [hst] at this
      cases c with
      | none =>
        obtain ⟨t,k',ow,ys,h2,h3,h4⟩:=this
        exact ⟨_,_,h4,by simp,rfl,t,k',ow,ys,h2,h3,rfl⟩
      | some c =>
        obtain ⟨ow,ys,h2,h3⟩:=this
        refine ⟨_,_,h3,by simp,?_,rfl,ow,ys,h2,rfl⟩
        have hg:=gap_le hi.1
        dsimp only at hg
        unfold openT at hst
        dsimp only at hst
        split at hst
        ·rename_i hb
         unfold beginsU at hb
         rw [Bool.and_eq_true] at hb
         have hpl:=pre_len hb.2
         rw [List.length_drop] at hpl
         simp only [List.length_cons,List.length_nil] at hpl
         cases hst
         dsimp only;omega
        ·split at hst
         ·cases hst
         ·split at hst<;>cases hst
   ·rw [← hr2']
    simp (maxSteps:=999999) (disch:=first | assumption | omega) only [go_sem,simprocAttr,au,hr7,hun2]
theorem begins_pre {s w:Str} {k:Nat} (hk:k≤s.length):beginsU s w k=w.isPrefixOf (s.drop k):=by unfold beginsU;simp only [hk,decide_true,Bool.true_and]
theorem pre_le {s w:Str} {k:Nat} (hk:k≤s.length) (h:w.isPrefixOf (s.drop k)=true):k+w.length≤s.length:=by
 have:=pre_len h
 rw [List.length_drop] at this;omega
theorem next_ev2 {B:Nat→Boxes} {n b e:Nat} {s:Str} {r:List (Nat × Nat)} (H:RdAt B n b e s r) (HP:LibPre lib) (HB:BldIn lib) (k:Nat) (hk:k≤s.length) :
 match nextE s k with
 | some t=>evW code lib 108 [.ptr b 0] (B k) (cl r)=some ([.agg (tcell t),.flat (.bool true)],false,B t.to,cl r)∧t.to≤s.length
 | none=>∃ t k',k'≤s.length∧evW code lib 108 [.ptr b 0] (B k) (cl r)=some ([.agg (tcell t),.flat (.bool false)],false,B k',cl r):=by
 have h0:=H.hs
 have hr1:=H.a_get;have hr2:=H.a_0;have hr3:=H.a_1;have hr4:=H.a_set;have hr5:=H.a_s0;have hr6:=H.a_s1;have hr7:=H.a_len;have hr8:=H.a_take;have hr9:=H.a_take1;have hrl:=H.len;have hlow:=H.low;have hd0:=H.d_0;have hd1:=H.d_1;have hu0:=H.u_0;have hu1:=H.u_1;have hblt:=H.lt
 have hz:(⟨#[]⟩:ByteArray)=S []:=rfl
 have e111:((UInt8.toNat 111:Nat):Int)=111:=rfl
 have e99:((UInt8.toNat 99:Nat):Int)=99:=rfl
 have e116:((UInt8.toNat 116:Nat):Int)=116:=rfl
 have e60:((UInt8.toNat 60:Nat):Int)=60:=rfl
 have e62:((UInt8.toNat 62:Nat):Int)=62:=rfl
 have ez0:tcell Z0=[.flat (.int .u8 0),.flat (.string (S [])),.flat (.string (S [])),.slc 0 [],.flat (.int .i64 0),.flat (.int .i64 0)]:=rfl
 obtain ⟨r4,hr4'⟩:∃ r4,r4=(n,3)::r:=⟨_,rfl⟩
 have hcl4:Loc.cell n 3::cl r=cl r4:=by rw [hr4'];rfl
 have hu4:underO n (cl r4)=cl r:=by rw [← hcl4,underO_c,if_neg (by omega),hu0]
 have dz6:dropC n 0 6 (cl r4)=cl r:=by rw [← hcl4,dropC_c,if_pos (by omega),hd0]
 have K1:RdAt (fun j=>B j++[(163,tcell Z0)]) (n+1) b e s r4:=H.app2 (m:=n+1) _ rfl (by simp only [boxLows_cons,boxLows_nil,tcell_low,Bool.and_self]) r4 (by
  rw [hr4'];intro q hq
  rcases List.mem_cons.1 hq with rfl | hq
  ·exact .inr ⟨Nat.le_refl _,by dsimp only;omega⟩
  exact .inl hq)
 have hun1:underO (n+1) (cl r4)=cl r4:=K1.u_0
 have tk:∀ (w:Str) (k:Nat),k≤s.length→w.length≤1000000000→evW code lib 159 [.ptr b 0,.flat (.string (S w))] (B k++[(163,tcell Z0)]) (cl r4)=some ([.flat (.bool (beginsU s w k))],false,B (if beginsU s w k then k+w.length else k)++[(163,tcell Z0)],cl r4):=fun w k h1 h2=>by
  rw [begins_pre h1];exact K1.take HP w h1 h2
 have hcase:∀ {w:Str} {k:Nat},k≤s.length→beginsU s w k=true→k+w.length≤s.length:=fun h1 h2=>pre_le h1 (by rw [← begins_pre h1];exact h2)
 have hT1:=tk [60,47] k hk (by decide)
 have hT2:=tk [60] k hk (by decide)
 unfold nextE
 simp only [ez0] at hT1 hT2 tk
 cases hp1:beginsU s [60,47] k with
 | true =>
   have h2:=hcase hk hp1
   simp only [hp1,if_true,List.length_cons,List.length_nil,Nat.zero_add,Nat.reduceAdd] at hT1 h2 ⊢
   obtain ⟨k2,hk2⟩:∃ k2,k+2=k2:=⟨_,rfl⟩
   rw [hk2] at hT1 h2 ⊢
   have hw:=K1.word (lib:=lib) h2
   have h3:=word_le h2
   have hel:=element_ev (lib:=lib) (wordE s k2)
   have hvo:=void_ev (lib:=lib) (wordE s k2)
   obtain ⟨w,hwd⟩:∃ w,wordE s k2=w:=⟨_,rfl⟩
   rw [hwd] at hw hel hvo h3 ⊢
   obtain ⟨k3,hk3⟩:∃ k3,k2+w.length=k3:=⟨_,rfl⟩
   rw [hk3] at hw h3 ⊢
   have hT3:=tk [62] k3 h3 (by decide)
   simp only [ez0] at hw
   cases hc1:elemsE.contains w with
   | false =>
     rw [hc1] at hel
     simp only [Bool.false_and,Bool.false_eq_true,if_false]
     refine ⟨⟨99,w,[],[],k,k3⟩,k3,h3,?_⟩
     simp only [tcell,e99,acells,List.flatMap_nil,List.length_nil]
     refine evW_eq code_tags_reader_next (Nat.le_of_ble_eq_true rfl) ?_
     simp (maxSteps:=999999) (disch:=first | assumption | omega) only [go_sem,simprocAttr,au,hz,hT1,hw,hel,hcl4,hr1,hr2,hr3,hr4,hr5,hr6,hr7,hr8,hr9,hrl,hlow,hd0,hd1,hu0,hu1,hu4,dz6,hun1,rd]
   | true =>
     rw [hc1] at hel
     cases hc2:voidE w with
     | true =>
       rw [hc2] at hvo
       simp only [Bool.not_true,Bool.false_and,Bool.and_false,Bool.false_eq_true,if_false]
       refine ⟨⟨99,w,[],[],k,k3⟩,k3,h3,?_⟩
       simp only [tcell,e99,acells,List.flatMap_nil,List.length_nil]
       refine evW_eq code_tags_reader_next (Nat.le_of_ble_eq_true rfl) ?_
       simp (maxSteps:=999999) (disch:=first | assumption | omega) only [go_sem,simprocAttr,au,hz,hT1,hw,hel,hvo,hcl4,hr1,hr2,hr3,hr4,hr5,hr6,hr7,hr8,hr9,hrl,hlow,hd0,hd1,hu0,hu1,hu4,dz6,hun1,rd]
     | false =>
       rw [hc2] at hvo
       cases hp3:beginsU s [62] k3 with
       | false =>
         simp only [hp3,Bool.false_eq_true,if_false] at hT3
         simp only [Bool.not_false,Bool.and_false,Bool.false_eq_true,if_false]
         refine ⟨⟨99,w,[],[],k,k3⟩,k3,h3,?_⟩
         simp only [tcell,e99,acells,List.flatMap_nil,List.length_nil]
         refine evW_eq code_tags_reader_next (Nat.le_of_ble_eq_true rfl) ?_
         simp (maxSteps:=999999) (disch:=first | assumption | omega) only [go_sem,simprocAttr,au,hz,hT1,hw,hel,hvo,hT3,hcl4,hr1,hr2,hr3,hr4,hr5,hr6,hr7,hr8,hr9,hrl,hlow,hd0,hd1,hu0,hu1,hu4,dz6,hun1,rd]
       | true =>
         have h4:=hcase h3 hp3
         simp only [hp3,if_true,List.length_cons,List.length_nil,Nat.zero_add] at hT3 h4
         simp only [Bool.not_false,Bool.and_self,if_true]
         refine ⟨?_,h4⟩
         simp only [tcell,e99,acells,List.flatMap_nil,List.length_nil]
         refine evW_eq code_tags_reader_next (Nat.le_of_ble_eq_true rfl) ?_
         simp (maxSteps:=999999) (disch:=first | assumption | omega) only [go_sem,simprocAttr,au,hz,hT1,hw,hel,hvo,hT3,hcl4,hr1,hr2,hr3,hr4,hr5,hr6,hr7,hr8,hr9,hrl,hlow,hd0,hd1,hu0,hu1,hu4,dz6,hun1,rd]
 | false =>
   simp only [hp1,Bool.false_eq_true,if_false] at hT1 ⊢
   cases hp2:beginsU s [60] k with
   | true =>
     have h2:=hcase hk hp2
     simp only [hp2,if_true,List.length_cons,List.length_nil,Nat.zero_add,Nat.reduceAdd] at hT2 h2 ⊢
     have hO:=open_ev (lib:=lib) K1 HP HB k (k+1) h2
     obtain ⟨k1,hk1⟩:∃ k1,k+1=k1:=⟨_,rfl⟩
     rw [hk1] at hT2 h2 hO ⊢
     obtain ⟨x,hx⟩:∃ x,(if elemsE.contains (wordE s k1) then openE s (k1+(wordE s k1).length) else none)=x:=⟨_,rfl⟩
     have hgoal:(if elemsE.contains (wordE s k1) then (openE s (k1+(wordE s k1).length)).map (fun q=>(⟨111,wordE s k1,[],q.1,k,q.2⟩:Tok)) else none)=x.map (fun q=>(⟨111,wordE s k1,[],q.1,k,q.2⟩:Tok)):=by
      rw [← hx];split<;>rfl
     rw [hgoal]
     rw [hx] at hO
     cases x with
     | none =>
       obtain ⟨t,k',hk',hO⟩:=hO
       simp only [Option.map_none]
       refine ⟨t,k',hk',?_⟩
       simp only [ez0] at hO
       simp only [tcell] at hO ⊢
       refine evW_eq code_tags_reader_next (Nat.le_of_ble_eq_true rfl) ?_
       simp (maxSteps:=999999) (disch:=first | assumption | omega) only [go_sem,simprocAttr,au,hz,hT1,hT2,hO,hcl4,hr1,hr2,hr3,hr4,hr5,hr6,hr7,hr8,hr9,hrl,hlow,hd0,hd1,hu0,hu1,hu4,dz6,hun1,rd,acells_low]
     | some q =>
       obtain ⟨l,p⟩:=q
       obtain ⟨hO,hp⟩:=hO
       simp only [Option.map_some]
       refine ⟨?_,hp⟩
       simp only [ez0] at hO
       simp only [tcell,e111] at hO ⊢
       refine evW_eq code_tags_reader_next (Nat.le_of_ble_eq_true rfl) ?_
       simp (maxSteps:=999999) (disch:=first | assumption | omega) only [go_sem,simprocAttr,au,hz,hT1,hT2,hO,hcl4,hr1,hr2,hr3,hr4,hr5,hr6,hr7,hr8,hr9,hrl,hlow,hd0,hd1,hu0,hu1,hu4,dz6,hun1,rd,acells_low]
   | false =>
     simp only [hp2,Bool.false_eq_true,if_false] at hT2 ⊢
     have hS:=K1.says (lib:=lib) (en:=60) (bd:=62) HP HB hk
     simp only [ez0,e60,e62] at hS
     cases hE:saysE s 60 62 k with
     | none =>
       rw [hE] at hS
       obtain ⟨k',hk',hS⟩:=hS
       simp only [Option.map_none]
       refine ⟨⟨116,[],[],[],k,k'⟩,k',hk',?_⟩
       simp only [tcell,e116,acells,List.flatMap_nil,List.length_nil]
       refine evW_eq code_tags_reader_next (Nat.le_of_ble_eq_true rfl) ?_
       simp (maxSteps:=999999) (disch:=first | assumption | omega) only [go_sem,simprocAttr,au,hz,hT1,hT2,hS,hcl4,hr1,hr2,hr3,hr4,hr5,hr6,hr7,hr8,hr9,hrl,hlow,hd0,hd1,hu0,hu1,hu4,dz6,hun1,rd,acells_low]
     | some q =>
       obtain ⟨x,p⟩:=q
       have hel:=saysE_len hk hE
       rw [hE] at hS
       simp only [Option.map_some]
       refine ⟨?_,hel.2.1⟩
       simp only [tcell,e116,acells,List.flatMap_nil,List.length_nil]
       refine evW_eq code_tags_reader_next (Nat.le_of_ble_eq_true rfl) ?_
       simp (maxSteps:=999999) (disch:=first | assumption | omega) only [go_sem,simprocAttr,au,hz,hT1,hT2,hS,hcl4,hr1,hr2,hr3,hr4,hr5,hr6,hr7,hr8,hr9,hrl,hlow,hd0,hd1,hu0,hu1,hu4,dz6,hun1,rd,acells_low]
def tcells (l:List Tok):List PV:=l.flatMap tcell
theorem tcells_len:∀ l:List Tok,(tcells l).length=l.length * 6
 | []=>rfl
 | a::l=>by
   show (tcell a++tcells l).length=_
   rw [List.length_append,tcells_len l,List.length_cons];show 6+_=_;omega
theorem tcells_low {n:Nat}:∀ l:List Tok,lows n (tcells l)=true
 | []=>rfl
 | a::l=>by show lows n (tcell a++tcells l)=true;rw [lows_app,tcells_low l,tcell_low];rfl
theorem tcells_np:∀ l:List Tok,noPtrs (tcells l)=true
 | []=>rfl
 | a::l=>by
   show noPtrs (tcell a++tcells l)=true
   simp only [tcell,List.cons_append,List.nil_append,noPtrs,PV.noPtr,acells_np,tcells_np l,Bool.true_and]
theorem tcells_app {a b:List Tok}:tcells a++tcells b=tcells (a++b):=by simp [tcells]
theorem nextE_len {s:Str} {k:Nat} {t:Tok} (hk:k<s.length) (h:nextE s k=some t):k<t.to:=by
 unfold nextE at h
 split at h
 ·split at h
  ·cases h;dsimp only;omega
  ·cases h
 ·split at h
  ·split at h
   ·obtain ⟨q,h1,rfl⟩:=Option.map_eq_some_iff.1 h
    dsimp only
    have hb:k+1≤s.length:=by omega
    have hw:=word_le hb
    have:=runS_inv (step:=openT s) (d:=none) (I:=fun a=>(a.2≤s.length∧a.1.length≤a.2)∧k<a.2) (μ:=fun a=>s.length - a.2) (Q:=fun r=>∀ q,r=some q→k<q.2) (fun a hi=>by
     cases hs:openT s a with
     | inl c =>
       obtain ⟨h2,h3⟩:=openT_in a c hi.1 hs
       exact ⟨⟨h2,by omega⟩,h3⟩
     | inr r =>
       intro q hq
       subst hq
       unfold openT at hs
       split at hs
       ·cases hs;dsimp only;have:=hi.2;omega
       ·split at hs
        ·cases hs
        ·split at hs<;>cases hs) (s.length+1) ([],k+1+(wordE s (k+1)).length) ⟨⟨hw,by simp⟩,by dsimp only;omega⟩ (by dsimp only;omega)
    exact this q h1
   ·cases h
  ·rename_i hb
   obtain ⟨q,h1,rfl⟩:=Option.map_eq_some_iff.1 h
   have hel:=saysE_len (by omega) h1
   dsimp only
   rcases Nat.lt_or_eq_of_le hel.1 with h2 | h2
   ·exact h2
   ·exfalso
    have hg:s[k]? =some s[k]:=List.getElem?_eq_getElem hk
    have h60:s[k]? =some 60:=by
     rcases hel.2.2.2 with h3 | h3
     ·rw [← h2,hg] at h3;cases h3
     ·rw [h2];exact h3
    apply hb
    rw [begins_pre (by omega),pre_1,h60]
    rfl
theorem tokT_in {s:Str} (HN:∀ k t,k≤s.length→nextE s k=some t→t.to≤s.length):∀ a c:List Tok × Nat,(a.2≤s.length∧a.1.length≤a.2)→tokT s a=.inl c→(c.2≤s.length∧c.1.length≤c.2)∧s.length - c.2<s.length - a.2:=by
 intro ⟨l,k⟩ c ⟨h1,h2⟩ h
 dsimp only at h1 h2
 unfold tokT at h
 dsimp only at h
 split at h
 ·cases h
 ·rename_i hlt
  split at h
  ·cases h
  ·rename_i t ht
   have h3:=nextE_len (by omega) ht
   have h4:=HN k t h1 ht
   cases h
   dsimp only
   simp only [List.length_append,List.length_cons,List.length_nil]
   omega
theorem saysE_le {s:Str} {en bd:UInt8} {k:Nat} {q:Str × Nat} (hk:k≤s.length) (h:saysE s en bd k=some q):q.2≤s.length:=(saysE_len hk h).2.1
theorem openE_le {s:Str} {k:Nat} {q:List Att × Nat} (hk:k≤s.length) (h:openE s k=some q):q.2≤s.length:=by
 have:=runS_inv (step:=openT s) (d:=none) (I:=fun a=>a.2≤s.length∧a.1.length≤a.2∨(a.1=[]∧a.2≤s.length)) (μ:=fun a=>s.length - a.2) (Q:=fun r=>∀ q,r=some q→q.2≤s.length) (fun a hi=>by
  have hi':a.2≤s.length∧a.1.length≤a.2:=by
   rcases hi with h | ⟨h,h'⟩
   ·exact h
   ·exact ⟨h',by rw [h];simp⟩
  cases hs:openT s a with
  | inl c =>
    obtain ⟨h2,h3⟩:=openT_in a c hi' hs
    exact ⟨.inl h2,h3⟩
  | inr r =>
    intro q hq
    subst hq
    have hg:=gap_le hi'.1
    unfold openT at hs
    split at hs
    ·rename_i hb
     have:=pre_le hg (by rw [← begins_pre hg];exact hb)
     simp only [List.length_cons,List.length_nil] at this
     cases hs;dsimp only;omega
    ·split at hs
     ·cases hs
     ·split at hs<;>cases hs) (s.length+1) ([],k) (.inr ⟨rfl,hk⟩) (by dsimp only;omega)
 exact this q h
theorem nextE_le {s:Str} {k:Nat} {t:Tok} (hk:k≤s.length) (h:nextE s k=some t):t.to≤s.length:=by
 unfold nextE at h
 split at h
 ·rename_i hb
  have h2:=pre_le hk (by rw [← begins_pre hk];exact hb)
  simp only [List.length_cons,List.length_nil] at h2
  split at h
  ·rename_i hc
   simp only [Bool.and_eq_true] at hc
   have h3:=word_le h2
   have h4:=pre_le h3 (by rw [← begins_pre h3];exact hc.2.2)
   simp only [List.length_cons,List.length_nil] at h4
   cases h;dsimp only;omega
  ·cases h
 ·split at h
  ·rename_i hb
   have h2:=pre_le hk (by rw [← begins_pre hk];exact hb)
   simp only [List.length_cons,List.length_nil] at h2
   split at h
   ·obtain ⟨q,h1,rfl⟩:=Option.map_eq_some_iff.1 h
    exact openE_le (word_le h2) h1
   ·cases h
  ·obtain ⟨q,h1,rfl⟩:=Option.map_eq_some_iff.1 h
   exact saysE_le hk h1
def Br (s:Str) (j:Nat):Boxes:=[(160,rd s j)]
theorem rdAt0 {s:Str} (hs:s.length≤100000000):RdAt (Br s) 1 0 160 s [] where
 len _:=rfl
 get _:=rfl
 set _ _:=rfl
 lt:=by omega
 low _:=rfl
 hs:=hs
 hr q h:=by cases h
 hlt q h:=by cases h
theorem tokens_ev (HP:LibPre lib) (HB:BldIn lib) (s:Str) (hs:s.length≤100000000) :
 evW code lib 56 [.flat (.string (S s))] [] []=match toksE s with
 | some l=>some ([.slc l.length (tcells l),.flat (.int .i64 0)],false,[],[])
 | none=>some ([.slc 0 [],.flat (.int .i64 7)],false,[],[]):=by
 have hz:(⟨#[]⟩:ByteArray)=S []:=rfl
 have H:=rdAt0 hs
 have his:=isU_ev (lib:=lib) s (by unfold Sm;omega)
 have hrel:=loop_rel (body:=evC (evW code lib) big b_tags_Tokens_0) (live:=[4,5]) (nb:=1) (fun (_:Unit) (q:List Tok × Nat)=>(⟨[(4,.ptr 0 0),(5,.slc q.1.length (tcells q.1))],[.slot 5],[],Br s q.2⟩:St))
  (tokT s) none (fun q o st=>match q with
    | some l=>o=.exit 0∧∃ k',st=⟨[(5,.slc l.length (tcells l))],[.slot 5],[],Br s k'⟩
    | none=>o=.ret∧∃ y z,st=⟨[(2,.slc 0 []),(3,.flat (.int .i64 7))],[.slot 2],[],[y,z]⟩) (fun q=>q.2≤s.length∧q.1.length≤q.2) (fun q=>s.length - q.2) (fun _ ⟨l,j⟩ hj=>?_) (fun _ ⟨l,j⟩ hj=>?_) (fun a c hi h=>tokT_in (fun k t=>nextE_le) a c hi h) (n:=s.length+1) (m:=big) () ([],0) ⟨Nat.zero_le _,Nat.le_refl _⟩ (by dsimp only;omega) (by unfold big;dsimp only;omega)
 ·unfold toksE
  cases hu:isU s with
  | false =>
    rw [hu] at his
    simp only [Bool.false_eq_true,if_false]
    refine evW_eq code_tags_Tokens (Nat.le_of_ble_eq_true rfl) ?_
    simp (maxSteps:=999999) (disch:=first | assumption | omega) only [go_sem,simprocAttr,au,hz,his]
  | true =>
    rw [hu] at his
    simp only [if_true]
    obtain ⟨o,st,hl,hq⟩:=hrel
    simp only [Br,rd,tcells,List.flatMap_nil,List.length_nil,n0] at hl
    cases hE:runS (tokT s) none (s.length+1) ([],0) with
    | some l =>
      rw [hE] at hq
      obtain ⟨rfl,k',rfl⟩:=hq
      refine evW_eq code_tags_Tokens (Nat.le_of_ble_eq_true rfl) ?_
      simp only [Br,rd] at hl
      simp (maxSteps:=999999) (disch:=first | assumption | omega) only [go_sem,simprocAttr,au,hz,his,hl,tcells_low]
    | none =>
      rw [hE] at hq
      obtain ⟨rfl,y,z,rfl⟩:=hq
      refine evW_eq code_tags_Tokens (Nat.le_of_ble_eq_true rfl) ?_
      simp (maxSteps:=999999) (disch:=first | assumption | omega) only [go_sem,simprocAttr,au,hz,his,hl,tcells_low]
 ·dsimp only at hj ⊢
  have hdn:=H.done (lib:=lib) j
  unfold tokT
  dsimp only
  by_cases hlt:s.length≤j
  ·have hlt':=eq_true hlt
   simp only [hlt,decide_true,if_true] at hdn ⊢
   refine ⟨.exit 0,⟨[(5,.slc l.length (tcells l))],[.slot 5],[],Br s j⟩,?_,by simp,rfl,j,rfl⟩
   simp only [Br,rd,cl_nil] at hdn ⊢
   simp (maxSteps:=999999) (disch:=first | assumption | omega) only [go_sem,simprocAttr,au,on_tags_Tokens_0,hdn]
  ·simp only [hlt,decide_false,if_false] at hdn ⊢
   have hN:=next_ev2 (lib:=lib) H HP HB j hj.1
   cases hE:nextE s j with
   | none =>
     rw [hE] at hN
     obtain ⟨t,k',hk',hN⟩:=hN
     refine ⟨.ret,⟨[(2,.slc 0 []),(3,.flat (.int .i64 7))],[.slot 2],[],[(160,rd s k'),(163,tcell t)]⟩,?_,by simp,rfl,_,_,rfl⟩
     simp only [Br,rd,cl_nil,tcell] at hdn hN ⊢
     simp (maxSteps:=999999) (disch:=first | assumption | omega) only [go_sem,simprocAttr,au,on_tags_Tokens_0,hdn,hN]
   | some t =>
     rw [hE] at hN
     obtain ⟨hN,hto⟩:=hN
     refine ⟨(),?_⟩
     simp only [Br,rd,cl_nil,tcell] at hdn hN ⊢
     have hbd:l.length+1≤bound:=by unfold bound;omega
     have hac:tcells l++[.flat (.int .u8 t.kind.toNat),.flat (.string (S t.name)),.flat (.string (S t.text)),.slc t.attrs.length (acells t.attrs),.flat (.int .i64 (t.fr:Nat)),.flat (.int .i64 (t.to:Nat))]=tcells (l++[t]):=by rw [← tcells_app];rfl
     simp (maxSteps:=999999) (disch:=first | assumption | omega) only [go_sem,simprocAttr,au,on_tags_Tokens_0,hdn,hN,hbd,hac,tcells_len,acells_low,tcells_low,List.length_append]
 ·simp (maxSteps:=999999) (disch:=first | assumption | omega) only [go_sem,simprocAttr,au,Br]
def nestT (t:Tok) (op:List Str):Option (List Str) :=
 if t.kind.toNat=111∧voidE t.name=false then (if 32<op.length+1 then none else some (op++[t.name]))
 else if t.kind.toNat=99 then (if op.getLast? =some t.name then some op.dropLast else none) else some op
def nestS (L:List Tok) (q:List Str × Nat):(List Str × Nat) ⊕ Option (List Str):=match L[q.2]? with
 | none=>.inr (some q.1)
 | some t=>match nestT t q.1 with
   | none=>.inr none
   | some op=>.inl (op,q.2+1)
def nestE (L:List Tok):Bool:=decide (runS (nestS L) none (L.length+1) ([],0)=some [])
theorem tcells_at {l:List Tok} {k:Nat} {x:Tok} (h:l[k]? =some x):(tcells l).drop (k * 6)=tcell x++tcells (l.drop (k+1)):=by
 induction l generalizing k with
 | nil=>cases h
 | cons a l ih =>
   show (tcell a++tcells l).drop _=_
   cases k with
   | zero =>
     simp only [List.getElem?_cons_zero,Option.some.injEq] at h
     subst h
     simp only [Nat.zero_mul,List.drop_zero,Nat.zero_add,List.drop_succ_cons]
   | succ k =>
     rw [List.getElem?_cons_succ] at h
     have e:(k+1) * 6=6+k * 6:=by omega
     rw [e,← List.drop_drop]
     show (tcells l).drop _=_
     rw [ih h]
     rfl
theorem last_of {op:List Str} {n:Nat} (h:op.length=n+1):∃ x,op[n]? =some x∧op.getLast? =some x∧op.dropLast=op.take n∧(scells op).drop n=[.flat (.string (S x))]:=by
 have hlt:n<op.length:=by omega
 refine ⟨op[n],List.getElem?_eq_getElem hlt,?_,?_,?_⟩
 ·rw [List.getLast?_eq_getElem?,h,Nat.add_sub_cancel,List.getElem?_eq_getElem hlt]
 ·rw [List.dropLast_eq_take,h,Nat.add_sub_cancel]
 ·rw [scells,← List.map_drop,List.drop_eq_getElem_cons hlt,List.drop_of_length_le (by omega)];rfl
def standsU:Str→Str→Bool
 | [],_=>false
 | x::l,w=>w.isPrefixOf (x::l) || standsU l w
def badS:Str:=[60,62,40,41,91,93,44,59,58,34,92]
def okA (c:UInt8):Bool:=!(decide (c.toNat≤32) || (decide (126<c.toNat) || badS.contains c))
theorem at1_in (c:UInt8):∀ s:Str,(at1 c s).isSome=s.contains c
 | []=>rfl
 | x::l=>by
   have:=at1_in c l
   rw [List.contains_cons,← this]
   by_cases h:x=c
   ·simp only [at1,h,if_true,Option.isSome_some,BEq.rfl,Bool.true_or]
   ·have h2:(c == x)=false:=by simpa using fun e=>h e.symm
    simp only [at1,h,if_false,Option.isSome_map,h2,Bool.false_or]
def lastI (c:UInt8):Str→Option Nat
 | []=>none
 | x::l=>match lastI c l with
   | some i=>some (i+1)
   | none=>if x=c then some 0 else none
def addrP (s:Str):Bool:=s.all okA && (decide (3≤s.length) && (decide (s.length≤60) && ((match at1 64 s with | none=>false | some i=>decide (0<i) && (decide (i+1<s.length) && decide (lastI 64 s=some i))) && !standsU s [61,63])))
def addrU (s:Str):Bool:=!(decide (s.length<3) || (decide (60<s.length) || (decide (s[0]? =some 64) || (decide (s[s.length - 1]? =some 64) || standsU s [61,63])))) && (s.all okA && decide (s.count 64=1))
def LibLast (lib:Callee):Prop:=∀ (s:Str) (c:UInt8),s.length≤1000000000→lib 34 [.flat (.string (S s)),.flat (.int .u8 c.toNat)] [] []=some ([.flat (.int .i64 (match lastI c s with | some i=>(i:Int) | none=>-1))],false,[],[])
def LibCon (lib:Callee):Prop:=∀ s:Str,s.length≤1000000000→lib 35 [.flat (.string (S s)),.flat (.string (S [61,63]))] [] []=some ([.flat (.bool (standsU s [61,63]))],false,[],[])
theorem addr_ev (HI:LibIdx lib) (HL:LibLast lib) (HC:LibCon lib) (s:Str) (hs:s.length≤100000000):evW code lib 13 [.flat (.string (S s))] [] []=some ([.flat (.bool (addrP s))],false,[],[]):=by
 have hloop:=loop_at (body:=evC (evW code lib) big b_email_Address_0) (live:=[0,6,7]) (nb:=0) (fun (_:Unit) k=>⟨[(0,.flat (.string (S s))),(6,.flat (.int .i64 (s.length:Nat))),(7,.flat (.int .i64 (k:Nat)))],[],[],[]⟩) s (fun _ _=>True)
  (fun _ k x=>if okA x then .inl () else .inr (.ret,⟨[(2,.flat (.bool false))],[],[],[]⟩)) (fun _=>(.exit 0,⟨[(0,.flat (.string (S s)))],[],[],[]⟩)) (fun _ k c _ hk hc hd=>?_) (fun _ _=>by simp only [go_sem,simprocAttr]) (fun _ _ _ _ _ _ _ _=>trivial) (fun _ _ x r h=>by split at h<;>simp at h;rw [← h];simp) (fun _ _=>?_) (fun _=>by simp) () trivial (by unfold big;omega)
 ·rw [walk_all] at hloop
  simp only [n0] at hloop
  have hx:=idx_ev HI s 64 (by omega)
  have hla:evW code lib 34 [.flat (.string (S s)),.flat (.int .u8 ((64:UInt8).toNat:Nat))] [] []=some ([.flat (.int .i64 (match lastI 64 s with | some i=>(i:Int) | none=>-1))],false,[],[]):=evW_lib (by decide) (by kernel_rfl) (HL s 64 (by omega))
  have hco:evW code lib 35 [.flat (.string (S s)),.flat (.string (S [61,63]))] [] []=some ([.flat (.bool (standsU s [61,63]))],false,[],[]):=evW_lib (by decide) (by kernel_rfl) (HC s (by omega))
  have e64:((UInt8.toNat 64:Nat):Int)=64:=rfl
  rw [e64] at hx hla
  unfold addrP
  refine evW_eq code_email_Address (Nat.le_of_ble_eq_true rfl) ?_
  cases ha:s.all okA with
  | false =>
    simp only [ha,Bool.false_eq_true,if_false] at hloop
    simp only [Bool.false_and]
    simp (maxSteps:=999999) (disch:=first | assumption | omega) only [go_sem,simprocAttr,au,hloop]
  | true =>
    simp only [ha,if_true] at hloop
    simp only [Bool.true_and]
    rcases Classical.em (3≤s.length) with h3 | h3
    ·rcases Classical.em (s.length≤60) with h60 | h60
     ·simp only [h3,h60,decide_true,Bool.true_and]
      cases hat:at1 64 s with
      | none =>
        simp only [hat] at hx
        simp only [Bool.false_and]
        simp (maxSteps:=999999) (disch:=first | assumption | omega) only [go_sem,simprocAttr,au,hloop,hx]
      | some i =>
        simp only [hat] at hx
        dsimp only
        rcases Classical.em (0<i) with h0 | h0
        ·rcases Classical.em (i+1<s.length) with h1 | h1
         ·simp only [h0,h1,decide_true,Bool.true_and]
          cases hlt:lastI 64 s with
          | none =>
            simp only [hlt] at hla
            simp only [reduceCtorEq,decide_false,Bool.false_and]
            simp (maxSteps:=999999) (disch:=first | assumption | omega) only [go_sem,simprocAttr,au,hloop,hx,hla]
          | some j =>
            simp only [hlt] at hla
            by_cases hij:j=i
            ·subst hij
             simp only [decide_true,Bool.true_and]
             cases hst:standsU s [61,63] with
             | true =>
               rw [hst] at hco
               simp (maxSteps:=999999) (disch:=first | assumption | omega) only [go_sem,simprocAttr,au,hloop,hx,hla,hco]
             | false =>
               rw [hst] at hco
               simp (maxSteps:=999999) (disch:=first | assumption | omega) only [go_sem,simprocAttr,au,hloop,hx,hla,hco]
            ·have hij':(some j=some i)=False:=eq_false (fun h=>hij (by simpa using h))
             have hij2:(i=j)=False:=eq_false (fun h=>hij h.symm)
             simp only [hij',decide_false,Bool.false_and]
             simp (maxSteps:=999999) (disch:=first | assumption | omega) only [go_sem,simprocAttr,au,hloop,hx,hla,hij2]
         ·simp only [h0,h1,decide_true,decide_false,Bool.true_and,Bool.false_and]
          simp (maxSteps:=999999) (disch:=first | assumption | omega) only [go_sem,simprocAttr,au,hloop,hx]
        ·simp only [h0,decide_false,Bool.false_and]
         simp (maxSteps:=999999) (disch:=first | assumption | omega) only [go_sem,simprocAttr,au,hloop,hx]
     ·simp only [h3,h60,decide_true,decide_false,Bool.true_and,Bool.false_and]
      simp (maxSteps:=999999) (disch:=first | assumption | omega) only [go_sem,simprocAttr,au,hloop,hx]
    ·simp only [h3,decide_false,Bool.false_and]
     simp (maxSteps:=999999) (disch:=first | assumption | omega) only [go_sem,simprocAttr,au,hloop,hx]
 ·have hb:=idx_ev HI badS c (by decide)
  have hbs:badS=[60,62,40,41,91,93,44,59,58,34,92]:=rfl
  have hin:=at1_in c badS
  unfold okA
  obtain ⟨n,hn⟩:∃ n,c.toNat=n:=⟨_,rfl⟩
  cases hat:at1 c badS with
  | none =>
    rw [hat] at hin
    simp only [hat] at hb
    rw [← hin]
    rw [hbs,hn] at hb
    rw [hn]
    simp only [Option.isSome_none,Option.isSome_some]
    rcases Classical.em (n≤32) with a1 | a1<;>rcases Classical.em (126<n) with a2 | a2
    all_goals first | (exfalso;omega) | skip
    all_goals
     simp (maxSteps:=999999) (disch:=first | assumption | omega) only [go_sem,simprocAttr,au,on_email_Address_0,hc,hn,hb]
  | some i =>
    rw [hat] at hin
    simp only [hat] at hb
    rw [← hin]
    rw [hbs,hn] at hb
    rw [hn]
    simp only [Option.isSome_none,Option.isSome_some]
    rcases Classical.em (n≤32) with a1 | a1<;>rcases Classical.em (126<n) with a2 | a2
    all_goals first | (exfalso;omega) | skip
    all_goals
     simp (maxSteps:=999999) (disch:=first | assumption | omega) only [go_sem,simprocAttr,au,on_email_Address_0,hc,hn,hb]
 ·simp (maxSteps:=999999) (disch:=first | assumption | omega) only [go_sem,simprocAttr,au,on_email_Address_0]
end Nun
end
