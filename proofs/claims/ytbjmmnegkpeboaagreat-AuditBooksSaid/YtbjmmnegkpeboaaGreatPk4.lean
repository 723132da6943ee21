/- What the law AuditBooks leans on, part 4: the symbolic executor, proved sound, contracts of functions, plain lemmas. By an AI agent. -/
import Derived.Test.YtbjmmnegkpeboaaGreatPk3
import Derived.Shelf.Bytes.SlClone
import Derived.SizedLaws
import Derived.WalkKit
import Derived.Lib.Hide
import Derived.Laws.Cover1
import Derived.Shelf.SlSortCmp.NoneTotal
import Derived.Shelf.SlIter.Collect
import Derived.Shelf.SlIter.Nil
import Derived.Shelf.Bytes.SlEqualAll
set_option linter.unusedSimpArgs false
set_option linter.unusedVariables false
set_option maxRecDepth 100000
namespace Go.Proofs.YtbjmmnegkpeboaaGreat
open Go Go.Rx Go.RowKit Go.Proofs
namespace paths
def BestAll (E:List EntM) (best:ByteArray):Prop:=
 (best=⟨#[]⟩∧∀ x∈E,x.1.k≠0)∨(∃ x∈E,x.1.p=best∧x.1.k=0∧∀ y∈E,y.1.k=0→¬ beats y x)
def spOut (best:ByteArray):Value:=.tuple #[.string best,.bool (!best.toList==(⟨#[]⟩:ByteArray).toList)]
theorem toList_inj {a b:ByteArray} (h:(a.toList==b.toList)=true):a=b:=by
 rw [tlB,tlB] at h
 have:=eq_of_beq h
 cases a;cases b;congr 1;exact Array.toList_inj.1 this
theorem toList_ne {a b:ByteArray} (h:a≠b):(a.toList==b.toList)=false:=by
 cases e:(a.toList==b.toList)
 ·rfl
 ·exact absurd (toList_inj e) h
theorem getLast_snoc {l:List Nat} {x:Nat}:(l++[x]).getLast?=some x:=by simp
section
variable {w0:World} {cs0:List Frame} {R:Ending→World→Prop} {E:List EntM} {s:Int} {cl:Nat} {M:Own}
theorem seen_sub {E:List EntM} {seen:List Nat} {e:EntM} {n:Nat} (he:e∈E) (hs:seen.contains e.2=false) (h:(E.filter fun x=>!seen.contains x.2).length≤n+1):(E.filter fun x=>!(seen++[e.2]).contains x.2).length≤n:=by
 have hlt:(E.filter fun x=>!(seen++[e.2]).contains x.2).length<(E.filter fun x=>!seen.contains x.2).length:=by
  have h1:(E.filter fun x=>!(seen++[e.2]).contains x.2)=(E.filter fun x=>!seen.contains x.2).filter fun x=>!(x.2==e.2):=by
   rw [List.filter_filter]
   congr 1;funext x
   cases h1:(x.2==e.2) <;> cases h2:seen.contains x.2 <;> simp_all
  rw [h1]
  refine List.length_filter_lt_length_iff_exists.2 ⟨e,List.mem_filter.2 ⟨he,by show (!seen.contains e.2)=true;rw [hs];rfl⟩,by simp⟩
 omega
theorem headSp (hw:MX w0) (hM:∀ z,¬ M z) (hB:BookOK E cl) (hR:∀ best w',Below w0.heap.size w0 w'→BestAll E best→R (.returned (spOut best)) w') {seen:List Nat} {best:ByteArray} {ν:Val} (hb:BestIs E seen best)
  (hone:∀ x∈E,seen.contains x.2=false→Goes ESp M w0 cs0 41 R ν (nxSp s (E.map mC) cl seen best (mC x))):
  Goes ESp M w0 cs0 41 R ν (SM.at (hdSp best) 6 (objSp s (E.map mC) cl seen)):=by
 refine Goes.go (KSp hM hw) (ask_ok s (E.map mC) cl seen best) (by unfold SH.ob;rw [ask_ob];trivial) ?_
 refine Goes.next (KSp hM hw) (ask_D s (E.map mC) cl seen best) ?_ (fun e he hs=>?_) fun hall=>?_
 ·cases he:(!seen.isEmpty&&!(E.map mC).isEmpty&&(E.map mC).all fun e=>Nat.ble cl e.2.2)
  ·rfl
  ·rw [Bool.and_eq_true,Bool.and_eq_true,List.all_eq_true] at he
   obtain ⟨⟨_,h2⟩,h3⟩:=he
   cases hE:E with
   | nil=>rw [hE] at h2;cases h2
   | cons x E'=>
    have hx:x∈E:=by rw [hE];exact List.mem_cons_self
    have h4:=Nat.le_of_ble_eq_true (h3 (mC x) (List.mem_map.2 ⟨x,hx,rfl⟩))
    have h5:=hB.born x hx
    have h4':cl≤x.2:=h4
    omega
 ·obtain ⟨x,hx,rfl⟩:=List.mem_map.1 he
  exact ⟨_,nx_ok s (E.map mC) cl seen best (mC x),by unfold SH.ob;rw [nx_ob];trivial,hone x hx hs⟩
 ·refine ⟨_,st_ok s (E.map mC) cl seen best,by unfold SH.ob;rw [st_ob];trivial,?_⟩
  refine goes_due (KSp hM hw) hM (n:=60) (o:=[(1000,.b true)]) (v:=spOut best) ⟨?_⟩ fun w' hb'=>hR best w' hb' ?_
  ·rw [sp1 (e:=(⟨⟨#[]⟩,0,0,none,0,0⟩,0))];exact ⟨trivial,rfl⟩
  ·have hs:∀ x∈E,x.2∈seen:=fun x hx=>by
    cases hc:seen.contains x.2
    ·have h1:=hall (mC x) (List.mem_map.2 ⟨x,hx,rfl⟩) hc
     have h2:Nat.blt x.2 cl=false:=h1
     have h3:=hB.born x hx
     have h4:Nat.blt x.2 cl=true:=by simp [Nat.blt_eq];omega
     rw [h4] at h2;cases h2
    ·exact List.contains_iff_mem.1 hc
   rcases hb with ⟨h1,h2⟩ | ⟨x,hx,h1,h2,h3,h4⟩
   ·exact .inl ⟨h1,fun x hx=>h2 x hx (hs x hx)⟩
   ·exact .inr ⟨x,hx,h1,h2,fun y hy=>h4 y hy (hs y hy)⟩
theorem loopSp (hw:MX w0) (hM:∀ z,¬ M z) (hB:BookOK E cl) (hR:∀ best w',Below w0.heap.size w0 w'→BestAll E best→R (.returned (spOut best)) w'):∀ (n:Nat) (seen:List Nat) (best:ByteArray) (ν:Val),(∀ i b,ν i=some b→([(0,0),(1,1),(2,2)]:List (Nat × Nat)).lookup i=some i)→(E.filter fun x=>!seen.contains x.2).length≤n→BestIs E seen best→
  Goes ESp M w0 cs0 41 R ν (SM.at (hdSp best) 6 (objSp s (E.map mC) cl seen)):=by
 intro n
 induction n with
 | zero=>
  intro seen best ν hν hn hb
  refine headSp hw hM hB hR hb fun x hx hs=>?_
  have:x∈E.filter fun x=>!seen.contains x.2:=List.mem_filter.2 ⟨hx,by show (!seen.contains x.2)=true;rw [hs];rfl⟩
  rw [List.length_eq_zero_iff.1 (Nat.le_zero.1 hn)] at this
  cases this
 | succ n ih=>
  intro seen best ν hν hn hb
  refine headSp hw hM hB hR hb fun x hx hs=>?_
  have hn2:=seen_sub hx hs hn
  have hfb:=find_born hB.borns hx
  have hfx:∃ (stamp:Nat) (b:Nat),(seen++[(mC x).snd.snd]).getLast?=some stamp∧List.find? (fun e=>e.snd.snd.beq stamp) (E.map mC)=some (SV.v (Value.string x.fst.p),valM x,b):=⟨x.2,x.2,getLast_snoc,hfb⟩
  have hcl:=closedM E
  have hsn:∀ y,y∈seen++[x.2]↔y∈seen∨y=x.2:=fun y=>by simp
  have hin:x.2∈seen++[x.2]:=by simp
  have hsame:∀ y∈E,y.2=x.2→y=x:=fun y hy h=>by
   obtain ⟨i,hi⟩:=List.getElem?_of_mem hy
   obtain ⟨j,hj⟩:=List.getElem?_of_mem hx
   have:=nodup_idx hB.borns hi hj h
   subst this
   rw [hi] at hj;exact Option.some.inj hj
  by_cases hk:x.1.k=0
  ·have hk':(x.fst.3==(0:Int))=true:=by rw [beq_iff_eq];exact hk
   have mine:(∀ y∈E,y.2∈seen→y.1.k=0→¬ beats y x)→BestIs E (seen++[x.2]) x.1.p:=fun h=>.inr ⟨x,hx,rfl,hk,hin,fun y hy hy2 hy3=>by
    rcases (hsn _).1 hy2 with h1 | h1
    ·exact h y hy h1 hy3
    ·rw [hsame y hy h1]
     rintro (h | ⟨_,h⟩)
     ·omega
     ·have:=cmpN_neg x.1.p x.1.p;omega⟩
   rcases hb with ⟨rfl,hb⟩ | ⟨f,hf,rfl,hf0,hfs,hfb2⟩
   ·have nx:=ih (seen++[x.2]) x.1.p ν hν hn2 (mine fun y hy hy2 hy3=>absurd hy3 (hb y hy hy2))
    refine Goes.reach (KSp hM hw) (k:=2) (n:=300) (o:=([(0,.b true),(1,.ent (.v (.string x.1.p)) (valM x))]++ff (List.range 60) true)) (ren:=[(0,0),(1,1),(2,2)]) (eqs:=[1]) ?_ (by kernel_rfl) hν nx
    rw [sb (f:=x) (j:=0)]
    have hrr:((⟨#[]⟩:ByteArray).toList==(⟨{ toList:=[] }⟩:ByteArray).toList)=true:=by rw [beq_iff_eq]
    simp only [Owed,hk',hrr,hcl,and_self,and_true,true_and]
    repeat' apply And.intro
    all_goals first | rfl | exact hfx
   ·obtain ⟨j,hj⟩:=hit_at hB.names hf
    have he0:=toList_ne (hB.full f hf)
    have z1:=hB.size x hx
    have z2:=hB.size f hf
    have still:BestIs E seen f.1.p:=.inr ⟨f,hf,rfl,hf0,hfs,hfb2⟩
    have his:(∀ y∈E,y.2=x.2→¬ beats y f)→BestIs E (seen++[x.2]) f.1.p:=fun h=>.inr ⟨f,hf,rfl,hf0,(hsn _).2 (.inl hfs),fun y hy hy2 hy3=>by
     rcases (hsn _).1 hy2 with h1 | h1
     ·exact hfb2 y hy h1 hy3
     ·exact h y hy h1⟩
    have he0':(f.fst.1.toList==({ data:={ toList:=[] } }:ByteArray).toList)=false:=he0
    by_cases h1:f.1.v>x.1.v
    ·have t1:decide (f.fst.2>x.fst.2)=true:=decide_eq_true h1
     have nx:=ih (seen++[x.2]) x.1.p ν hν hn2 (mine fun y hy hy2 hy3 h=>hfb2 y hy hy2 hy3 (beats_trans h (.inl h1)))
     refine Goes.reach (KSp hM hw) (k:=2) (n:=300) (o:=([(0,.b true),(1,.ent (.v (.string x.1.p)) (valM x))]++ff [2,3,4] true++ff [5,6,7,8,9,10] false++[(11,.hit j (valM f) f.2)]++ff [12,13] false++ff [14] true++ff [15] false++ff (List.range 60) true)) (ren:=[(0,0),(1,1),(2,2)]) (eqs:=[1]) ?_ (by kernel_rfl) hν nx
     rw [sc]
     simp only [Owed,hk',hcl,he0',t1,and_self,and_true,true_and]
     repeat' apply And.intro
     all_goals first | rfl | exact hfx | exact hj.1 | exact hj.2 | assumption
    ·have t1:decide (f.fst.2>x.fst.2)=false:=decide_eq_false h1
     by_cases h2:f.1.v=x.1.v
     ·have t2:(f.fst.2==x.fst.2)=true:=by rw [beq_iff_eq];exact h2
      by_cases h3:cmpN x.1.p f.1.p<0
      ·have t3:decide (cmpN x.fst.1 f.fst.1<(0:Int))=true:=decide_eq_true h3
       have nx:=ih (seen++[x.2]) x.1.p ν hν hn2 (mine fun y hy hy2 hy3 h=>hfb2 y hy hy2 hy3 (beats_trans h (.inr ⟨h2,h3⟩)))
       refine Goes.reach (KSp hM hw) (k:=2) (n:=300) (o:=([(0,.b true),(1,.ent (.v (.string x.1.p)) (valM x))]++ff [2,3,4] true++ff [5,6,7,8,9,10] false++[(11,.hit j (valM f) f.2)]++ff [12,13] false++ff [14] true++ff [15] false++ff [16] true++ff [17,18,19,20,21,22] false++[(23,.hit j (valM f) f.2)]++ff [24,25,26,27,28] false++ff [34,37] false++ff (List.range 60) true)) (ren:=[(0,0),(1,1),(2,2)]) (eqs:=[1]) ?_ (by kernel_rfl) hν nx
       rw [sd]
       simp only [Owed,hk',hcl,he0',t1,t2,t3,and_self,and_true,true_and]
       repeat' apply And.intro
       all_goals first | rfl | exact hfx | exact hj.1 | exact hj.2 | assumption
      ·have t3:decide (cmpN x.fst.1 f.fst.1<(0:Int))=false:=decide_eq_false h3
       have nx:=ih (seen++[x.2]) f.1.p ν hν hn2 (his fun y hy h4=>by
        rw [hsame y hy h4]
        rintro (h | ⟨_,h⟩)
        ·exact h1 h
        ·exact h3 h)
       refine Goes.reach (KSp hM hw) (k:=2) (n:=300) (o:=([(0,.b true),(1,.ent (.v (.string x.1.p)) (valM x))]++ff [2,3,4] true++ff [5,6,7,8,9,10] false++[(11,.hit j (valM f) f.2)]++ff [12,13] false++ff [14] true++ff [15] false++ff [16] true++ff [17,18,19,20,21,22] false++[(23,.hit j (valM f) f.2)]++ff [24,25,26,27,28] false++ff [34,37,39] false++ff (List.range 60) true)) (ren:=[(0,0),(1,1),(2,2)]) (eqs:=[1]) ?_ (by kernel_rfl) hν nx
       rw [se]
       simp only [Owed,hk',hcl,he0',t1,t2,t3,and_self,and_true,true_and]
       repeat' apply And.intro
       all_goals first | rfl | exact hfx | exact hj.1 | exact hj.2 | assumption
     ·have t2:(f.fst.2==x.fst.2)=false:=by rw [beq_eq_false_iff_ne];exact h2
      have nx:=ih (seen++[x.2]) f.1.p ν hν hn2 (his fun y hy h4=>by
       rw [hsame y hy h4]
       rintro (h | ⟨h,_⟩)
       ·exact h1 h
       ·exact h2 h)
      refine Goes.reach (KSp hM hw) (k:=2) (n:=300) (o:=([(0,.b true),(1,.ent (.v (.string x.1.p)) (valM x))]++ff [2,3,4] true++ff [5,6,7,8,9,10] false++[(11,.hit j (valM f) f.2)]++ff [12,13] false++ff [14] true++ff [15] false++ff [16] true++ff [17,18,19,20,21,22] false++[(23,.hit j (valM f) f.2)]++ff [24,25,26,27,28] false++ff [35,37] true++ff (List.range 60) false)) (ren:=[(0,0),(1,1),(2,2)]) (eqs:=[1]) ?_ (by kernel_rfl) hν nx
      rw [sf]
      simp only [Owed,hk',hcl,he0',t1,t2,and_self,and_true,true_and]
      repeat' apply And.intro
      all_goals first | rfl | exact hfx | exact hj.1 | exact hj.2 | assumption
  ·have hk':(x.fst.3==(0:Int))=false:=by rw [beq_eq_false_iff_ne];exact hk
   have nx:=ih (seen++[x.2]) best ν hν hn2 (by
    rcases hb with ⟨h1,h2⟩ | ⟨y,hy,h1,h2,h3,h4⟩
    ·refine .inl ⟨h1,fun y hy hy2=>?_⟩
     rcases (hsn _).1 hy2 with h | h
     ·exact h2 y hy h
     ·rw [hsame y hy h];exact hk
    ·refine .inr ⟨y,hy,h1,h2,(hsn _).2 (.inl h3),fun z hz hz2 hz3=>?_⟩
     rcases (hsn _).1 hz2 with h | h
     ·exact h4 z hz h hz3
     ·rw [hsame z hz h] at hz3;exact absurd hz3 hk)
   refine Goes.reach (KSp hM hw) (k:=2) (n:=300) (o:=([(0,.b true),(1,.ent (.v (.string x.1.p)) (valM x))]++ff (List.range 60) false)) (ren:=[(0,0),(1,1),(2,2)]) (eqs:=[1]) ?_ (by kernel_rfl) hν nx
   rw [sa (f:=x) (j:=0)]
   simp only [Owed,hk',hcl,and_self,and_true,true_and]
   repeat' apply And.intro
   all_goals first | rfl | exact hfx
end
theorem partsL_inj:∀ {l m:List UInt8},partsL l=partsL m→l=m
 | [],[],_=>rfl
 | [],b::m,h=>by
  exfalso
  unfold partsL at h
  split at h
  ·have:=partsL_ne m
   cases hp:partsL m with
   | nil=>exact this hp
   | cons x xs=>rw [hp] at h;simp at h
  ·split at h <;> simp at h
 | b::l,[],h=>by
  exfalso
  unfold partsL at h
  split at h
  ·have:=partsL_ne l
   cases hp:partsL l with
   | nil=>exact this hp
   | cons x xs=>rw [hp] at h;simp at h
  ·split at h <;> simp at h
 | b::l,c::m,h=>by
  have nl:=partsL_ne l
  have nm:=partsL_ne m
  unfold partsL at h
  by_cases hb:b=47
  ·by_cases hc:c=47
   ·rw [if_pos hb,if_pos hc] at h
    rw [hb,hc,partsL_inj (List.cons.inj h).2]
   ·rw [if_pos hb,if_neg hc] at h
    cases hp:partsL m with
    | nil=>exact absurd hp nm
    | cons x xs=>rw [hp] at h;simp at h
  ·by_cases hc:c=47
   ·rw [if_neg hb,if_pos hc] at h
    cases hp:partsL l with
    | nil=>exact absurd hp nl
    | cons x xs=>rw [hp] at h;simp at h
   ·rw [if_neg hb,if_neg hc] at h
    cases hp:partsL l with
    | nil=>exact absurd hp nl
    | cons x xs=>
     cases hq:partsL m with
     | nil=>exact absurd hq nm
     | cons y ys=>
      rw [hp,hq] at h
      simp only [List.cons.injEq] at h
      obtain ⟨⟨h1,h2⟩,h3⟩:=h
      rw [h1,partsL_inj (l:=l) (m:=m) (by rw [hp,hq,h2,h3])]
theorem cmpN_zero {a b:ByteArray} (h:cmpN a b=0):a=b:=by
 rw [cmpN_rc] at h
 have:=partsL_inj (rcN_eq h)
 cases a;cases b;congr 1;exact Array.toList_inj.1 this
theorem mC_inj {x y:EntM} (h:mC x=mC y):x=y:=by
 obtain ⟨⟨p,v,k,a,l,c⟩,n⟩:=x
 obtain ⟨⟨p',v',k',a',l',c'⟩,n'⟩:=y
 simp only [mC,Prod.mk.injEq,SV.v.injEq,Value.string.injEq,SV.agg.injEq,List.cons.injEq,Value.int.injEq,Value.slice.injEq,true_and,and_true] at h
 obtain ⟨h1,⟨_,h2,h3,h4,h5,h6⟩,h7⟩:=h
 subst h1 h2 h3 h4 h5 h6 h7
 rfl
theorem map_inj:∀ {E E':List EntM},E.map mC=E'.map mC→E=E'
 | [],[],_=>rfl
 | [],_::_,h=>by simp at h
 | _::_,[],h=>by simp at h
 | x::E,y::E',h=>by
  rw [List.map_cons,List.map_cons,List.cons.injEq] at h
  rw [mC_inj h.1,map_inj h.2]
theorem best_one {E:List EntM} {cl:Nat} (hB:BookOK E cl) {a b:ByteArray} (ha:BestAll E a) (hb:BestAll E b):a=b:=by
 rcases ha with ⟨rfl,h1⟩ | ⟨x,hx,rfl,hx0,h1⟩
 ·rcases hb with ⟨rfl,_⟩ | ⟨y,hy,rfl,hy0,_⟩
  ·rfl
  ·exact absurd hy0 (h1 y hy)
 ·rcases hb with ⟨rfl,h2⟩ | ⟨y,hy,rfl,hy0,h2⟩
  ·exact absurd hx0 (h2 x hx)
  ·have n1:=h1 y hy hy0
   have n2:=h2 x hx hx0
   unfold beats at n1 n2
   have hn:=cmpN_neg x.1.p y.1.p
   have hv:x.1.v=y.1.v:=by
    rcases Int.lt_trichotomy x.1.v y.1.v with h | h | h
    ·exact absurd (.inl h) n2
    ·exact h
    ·exact absurd (.inl h) n1
   refine cmpN_zero ?_
   have m1:¬ cmpN y.1.p x.1.p<0:=fun h=>n1 (.inr ⟨hv,h⟩)
   have m2:¬ cmpN x.1.p y.1.p<0:=fun h=>n2 (.inr ⟨hv.symm,h⟩)
   omega
noncomputable def bestG (es:List (SV × SV × Nat)):ByteArray:=@Classical.epsilon _ ⟨⟨#[]⟩⟩ fun best=>∃ E,es=E.map mC∧BestAll E best
theorem bestG_eq {E:List EntM} {cl:Nat} (hB:BookOK E cl) {best:ByteArray} (h:BestAll E best):bestG (E.map mC)=best:=by
 have:=Classical.epsilon_spec (p:=fun best=>∃ E',E.map mC=E'.map mC∧BestAll E' best) ⟨best,E,rfl,h⟩
 obtain ⟨E',h1,h2⟩:=this
 rw [← map_inj h1] at h2
 exact best_one hB h2 h
def BookIn (es:List (SV × SV × Nat)) (cl:Nat):Prop:=∃ E:List EntM,es=E.map mC∧BookOK E cl
noncomputable def spareS:PlG:=fun args sh=>match args with
 | [.ptr i 0]=>match sh.look i with
  | some (.row [.v (.int .u64 s),.map m] t (0,0) none,_)=>match sh.look m with
   | some (.map es cl,_)=>some (.tuple #[.string (bestG es),.bool (!(bestG es).toList==(⟨#[]⟩:ByteArray).toList)],t=84∧BookIn es cl)
   | _=>none
  | _=>none
 | _=>none
theorem closed_map {ν ν':Val} {i j:Nat} {E:List EntM} {cl:Nat} {ob:Obj} (h:OR ν i (.map (E.map mC) cl) ob):OR ν' j (.map (E.map mC) cl) ob:=by
 obtain ⟨l,rfl,hl⟩:=h
 exact ⟨l,rfl,closedE_Ent (closedM E) hl⟩
theorem spare_ok:SumOK Tryz.prog MX (41,plSumG spareS):=by
 refine plSumG_ok ⟨_,Tryz.func41,by kernel_rfl,by kernel_rfl⟩ fun args sh v p h hp ν M w0 w a hr hX ha=>?_
 dsimp only [spareS] at h
 split at h
 ·rename_i i
  split at h
  ·rename_i s m t mk hl
   split at h
   ·rename_i es cl mk2 hm
    cases h
    obtain ⟨rfl,E,rfl,hB⟩:=hp
    obtain ⟨y1,as1,rfl,q1,ha2⟩:=ha.cons_inv
    obtain rfl:=ha2.nil_inv
    obtain ⟨b,hb,rfl⟩:=VR.ptr_iff.1 q1
    obtain ⟨hi,hgi,b',ob,hb',ho,hor,_⟩:=hr.look hl
    rw [hb] at hb';cases hb'
    obtain ⟨hi2,hgi2,b2,ob2,hb2,ho2,hor2,_⟩:=hr.look hm
    have him:i≠m:=by
     rintro rfl
     rw [hl] at hm;cases hm
    have hne:b.1≠b2.1:=fun e=>him (hr.inj i m hi hi2 (by rw [hgi];simp) (by rw [hgi2];simp) b b2 hb hb2 e)
    refine (calls_readR (E:=ESp) (R:=fun e w'=>Below w.heap.size w w'∧∃ best,e=.returned (spOut best)∧BestAll E best) rfl (d:=6) (l:=[b,b2]) (os:=[.row [.v (.int .u64 s),.map 1] 84 (0,0) none,.map (E.map mC) cl]) rfl (by simp) (by simpa using hne) ?_ rfl (args:=[.ptr 0 0]) (S0:=entSp s (E.map mC) cl) (by kernel_rfl) (VRL.cons (VR.ptr_iff.2 ⟨b,rfl,rfl⟩) VRL.nil) fun cs0=>?_).mono fun e w' ⟨h1,best,h2,h3⟩=>⟨h1,by rw [h2,bestG_eq hB h3];rfl⟩
    ·intro j o' b' c' h1 h2
     match j with
     | 0=>
      simp only [List.getElem?_cons_zero,Option.some.injEq] at h1 h2
      subst h1
      subst h2
      refine ⟨_,ho,?_⟩
      obtain ⟨ys,rest,rfl,hys,hx⟩:=hor
      obtain ⟨z1,u,rfl,r1,hu⟩:=hys.cons_inv
      obtain ⟨z2,u2,rfl,r2,hu2⟩:=hu.cons_inv
      obtain rfl:=hu2.nil_inv
      obtain rfl:=VR.v_iff.1 r1
      obtain ⟨b3,hb3,rfl⟩:=VR.map_iff.1 r2
      rw [hb2] at hb3;cases hb3
      exact ⟨_,rest,rfl,VRL.cons (VR.v_iff.2 rfl) (VRL.cons (VR.map_iff.2 ⟨b2,rfl,rfl⟩) VRL.nil),hx⟩
     | 1=>
      simp only [List.getElem?_cons_succ,List.getElem?_cons_zero,Option.some.injEq] at h1 h2
      subst h1
      subst h2
      exact ⟨_,ho2,closed_map hor2⟩
     | j+2=>simp at h1
    ·have hM:∀ z,¬ (layOwn [b,b2] ([SO.row [.v (.int .u64 s),.map 1] 84 (0,0) none,.map (E.map mC) cl].map fun o=>(o,false))) z:=fun z=>layOwn_none
     have hν:∀ i c,layVal [b,b2] i=some c→([(0,0),(1,1),(2,2)]:List (Nat × Nat)).lookup i=some i:=by
      intro i c h
      match i with
      | 0=>rfl
      | 1=>rfl
      | i+2=>simp [layVal] at h
     refine Goes.reach (KSp hM hX) (k:=2) (n:=60) (o:=[(1000,.b true)]) (ren:=[(0,0),(1,1),(2,2)]) (eqs:=[1]) (F:=hdSp ⟨#[]⟩) (d:=6) (l:=objSp s (E.map mC) cl []) ?_ (by kernel_rfl) hν (loopSp hX hM hB (fun best w' hb h=>⟨hb,best,rfl,h⟩) (E.filter fun x=>!([]:List Nat).contains x.2).length [] ⟨#[]⟩ _ hν (Nat.le_refl _) (.inl ⟨rfl,fun x hx h=>by cases h⟩))
     rw [sp0]
     simp only [Owed,closedM,and_self,and_true,true_and]
     first | done | rfl | skip
   ·cases h
  ·cases h
 ·cases h
def lPu:List (FuncId × Sum):=[(35,pureSum echkPS),(29,plSumG getG),(36,brSum (slSumG withoutS) (plSumG withoutN)),(37,slSumG withS)]
noncomputable def EPu:Env:={ EP [] [] with sums:=fun f=>lPu.lookup f }
def rowR (l:List SV):Option (SO × Bool):=some (.row l 46 (0,0) (some 4),false)
noncomputable def entPu (l:List SV) (n:Nat) (s:Int) (x:EntT):SM:=(enterS EPu 17 [.agg [.v (.int .u64 s),.sl 0 0 n none],.v (.agg #[.string x.p,.int .u64 x.v,.int .i64 x.k,.slice x.a x.l x.c])] (memOf 6 1 0 [rowR l])).getD noSM
theorem pu0 (l:List SV) (n:Nat) (s:Int) (x:EntT):endsX EPu 17 300 (entPu l n s x) ([(1000,.b true)]++ff (List.range 3) true) [(0,0)] (.tup [.agg [.v (.int .u64 s),.sl 0 0 n none],.v (.int .i64 (entN x.p x.v x.k x.l))])=[
 Value.int IntKind.u64 s=Value.int IntKind.u64 s,
 (0:Nat)=(0:Nat)∧n=n∧(none:Option Nat)=none,
 Value.int IntKind.i64 (entN x.1 x.2 x.3 x.5)=Value.int IntKind.i64 (entN x.1 x.2 x.3 x.5),
 (!entN x.1 x.2 x.3 x.5==(0:Int))=true,
 x.1.size≤(1000000000:Nat)∧(0:Int)≤x.2∧x.2<(18446744073709551616:Int)]:=by kernel_rfl
theorem pu1 (l:List SV) (n:Nat) (s:Int) (x:EntT):endsX EPu 17 300 (entPu l n s x) ([(1000,.b true)]++ff [1] false++ff (List.range 30) true) [(0,0)] (.tup [.agg [.v (.int .u64 s),.sl 0 0 n none],.v (.int .i64 31)])=[
 Value.int IntKind.u64 s=Value.int IntKind.u64 s,
 (0:Nat)=(0:Nat)∧n=n∧(none:Option Nat)=none,
 Value.int IntKind.i64 (31:Int)=Value.int IntKind.i64 (31:Int),
 decide ((findE x.p (entsOf l n)).2≥x.2)=true,
 HoldsE l n (entsOf l n),
 (!entN x.1 x.2 x.3 x.5==(0:Int))=false,
 x.1.size≤(1000000000:Nat)∧(0:Int)≤x.2∧x.2<(18446744073709551616:Int)]:=by kernel_rfl
theorem pu2 (l l':List SV) (n k:Nat) (s:Int) (x:EntT):endsO EPu 17 300 (entPu l n s x) ([(1000,.b true)]++ff [1,3,4,5] false) (.tup [.agg [.v (.int .u64 s),.sl 5 0 k none],.v (.int .i64 0)]) 5 (.row l' 46 (0,0) (some 4))=[
 Value.int IntKind.u64 s=Value.int IntKind.u64 s,
 (0:Nat)=(0:Nat)∧(1:Nat)=k∧(none:Option Nat)=none,
 Value.int IntKind.i64 (0:Int)=Value.int IntKind.i64 (0:Int),
 List.map SV.v (vE (insE { p:=x.1,v:=x.2,k:=x.3,a:=x.4,l:=x.5,c:=x.6:EntT } []))=l',
 l'.all closedSV=true,
 (s==s)=true,
 True∧x.1.size≤(1000000000:Nat)∧∀ (e:EntT),e∈[]→e.p.size≤(1000000000:Nat),
 false=false,
 HoldsE l n (entsOf l n)∧dropE x.1 (entsOf l n)=[],
 decide ((findE x.p (entsOf l n)).2≥x.2)=false,
 HoldsE l n (entsOf l n),
 (!entN x.1 x.2 x.3 x.5==(0:Int))=false,
 x.1.size≤(1000000000:Nat)∧(0:Int)≤x.2∧x.2<(18446744073709551616:Int)]:=by kernel_rfl
theorem pu3 (l l' : List SV) (n k : Nat) (s : Int) (x : EntT) : endsO EPu 17 300 (entPu l n s x) ([(1000, .b true)] ++ ff [1, 3] false ++ ff [4] true ++ ff [5] false) (.tup [.agg [.v (.int .u64 s), .sl 6 0 k none], .v (.int .i64 0)]) 6 (.row l' 46 (0, 0) (some 4)) = [
  Value.int IntKind.u64 s = Value.int IntKind.u64 s,
  (0 : Nat) = (0 : Nat) ∧
   (entsOf (List.map SV.v (vE (dropE x.1 (entsOf l n)))) (dropE x.1 (entsOf l n)).length).length + (1 : Nat) = k ∧ (none : Option Nat) = none,
  Value.int IntKind.i64 (0 : Int) = Value.int IntKind.i64 (0 : Int),
  List.map SV.v
   (vE
   (insE { p := x.1, v := x.2, k := x.3, a := x.4, l := x.5, c := x.6 : EntT }
   (entsOf (List.map SV.v (vE (dropE x.1 (entsOf l n)))) (dropE x.1 (entsOf l n)).length))) =
   l',
  l'.all closedSV = true,
  (s == s) = true,
  ((46 : Nat) = (46 : Nat) ∧
   HoldsE (List.map SV.v (vE (dropE x.1 (entsOf l n)))) (dropE x.1 (entsOf l n)).length
   (entsOf (List.map SV.v (vE (dropE x.1 (entsOf l n)))) (dropE x.1 (entsOf l n)).length) ∧
   entsOf (List.map SV.v (vE (dropE x.1 (entsOf l n)))) (dropE x.1 (entsOf l n)).length ≠ []) ∧
   x.1.size ≤ (1000000000 : Nat) ∧
   ∀ (e : EntT),
   e ∈ entsOf (List.map SV.v (vE (dropE x.p (entsOf l n)))) (dropE x.p (entsOf l n)).length →
   e.p.size ≤ (1000000000 : Nat),
  decide ((↑(dropE x.1 (entsOf l n)).length : Int) ≥ (256 : Int)) = false,
  HoldsE l n (entsOf l n) ∧ dropE x.1 (entsOf l n) ≠ [],
  decide ((findE x.p (entsOf l n)).2 ≥ x.2) = false,
  HoldsE l n (entsOf l n),
  (!entN x.1 x.2 x.3 x.5 == (0 : Int)) = false,
  x.1.size ≤ (1000000000 : Nat) ∧ (0 : Int) ≤ x.2 ∧ x.2 < (18446744073709551616 : Int)] := by kernel_rfl
noncomputable def todoPu:List SI:=todoL EPu 3 300 (entPu [] 0 0 ⟨⟨#[]⟩,0,0,none,0,0⟩) ([(1000,.b true)]++ff [1,3] false++ff [4,5] true)
noncomputable def hdPu (k:Nat) (best i:Int):SF:={ fn:=17,tm:=tmOf 82 7 ([.junk,.junk,.ptr 1 0,.ptr 2 0,.ptr 3 0,.junk,.junk,.junk,.sl 4 0 k none,.v (.int .i64 best),.v (.int .i64 i)]++List.replicate 71 .junk),todo:=todoPu,defers:=[],ret:=false,kind:=.normal,ro:=none }
def bkO (s:Int) (n:Nat):Option (SO × Bool):=some (.row [.v (.int .u64 s),.sl 0 0 n none] 30 (0,0) none,true)
def zbO:Option (SO × Bool):=some (.row [.v (.int .u64 0),nilE] 30 (0,0) none,true)
def objPu (l m:List SV) (n:Nat) (s:Int) (x:EntT):List (Option (SO × Bool)):=[rowR l,bkO s n,boxE x,zbO,rowsE m]
theorem pu4 (l m:List SV) (n k:Nat) (s:Int) (x:EntT):reach EPu 3 300 (entPu l n s x) ([(1000,.b true)]++ff [1,3] false++ff [4,5] true) [(0,0),(1,1),(2,2),(3,3),(4,5)] [0,4] (hdPu k (-1) 0) 6 (objPu l m n s x)=[
 (0:Nat)=(0:Nat),
 (0:Nat)=(0:Nat),
 (0:Nat)=(0:Nat),
 (0:Nat)=(0:Nat)∧(dropE x.1 (entsOf l n)).length=k∧(none:Option Nat)=none,
 Value.int IntKind.i64 (-1:Int)=Value.int IntKind.i64 (-1:Int),
 Value.int IntKind.i64 (0:Int)=Value.int IntKind.i64 (0:Int),
 l=l,
 l.all closedSV=true,
 Value.int IntKind.u64 s=Value.int IntKind.u64 s,
 (0:Nat)=(0:Nat)∧n=n∧(none:Option Nat)=none,
 Value.string x.1=Value.string x.1,
 Value.int IntKind.u64 x.2=Value.int IntKind.u64 x.2,
 Value.int IntKind.i64 x.3=Value.int IntKind.i64 x.3,
 Value.slice x.4 x.5 x.6=Value.slice x.4 x.5 x.6,
 Value.int IntKind.u64 (0:Int)=Value.int IntKind.u64 (0:Int),
 Value.slice none (0:Nat) (0:Nat)=Value.slice none (0:Nat) (0:Nat),
 List.map SV.v (vE (dropE x.1 (entsOf l n)))=m,
 m.all closedSV=true,
 decide ((↑(dropE x.1 (entsOf l n)).length:Int)≥(256:Int))=true,
 HoldsE l n (entsOf l n)∧dropE x.1 (entsOf l n)≠[],
 decide ((findE x.p (entsOf l n)).2≥x.2)=false,
 HoldsE l n (entsOf l n),
 (!entN x.1 x.2 x.3 x.5==(0:Int))=false,
 x.1.size≤(1000000000:Nat)∧(0:Int)≤x.2∧x.2<(18446744073709551616:Int)]:=by kernel_rfl
theorem pr1 (l m:List SV) (n k:Nat) (s:Int) (x e f:EntT) (best best' i i':Int):reach EPu 3 100 (SM.at (hdPu k best i) 6 (objPu l m n s x)) (ff [0] true++[(2,.cells [.v (.int .i64 e.k)])]++ff (List.range 60) false) [(0,0),(1,1),(2,2),(3,3),(4,4)] [0,4] (hdPu k best' i') 6 (objPu l m n s x)=[
 (0:Nat)=(0:Nat),
 (0:Nat)=(0:Nat),
 (0:Nat)=(0:Nat),
 (0:Nat)=(0:Nat)∧k=k∧(none:Option Nat)=none,
 Value.int IntKind.i64 best=Value.int IntKind.i64 best',
 Value.int IntKind.i64 (IntKind.i64.wrap (i+(1:Int)))=Value.int IntKind.i64 i',
 l=l,
 l.all closedSV=true,
 Value.int IntKind.u64 s=Value.int IntKind.u64 s,
 (0:Nat)=(0:Nat)∧n=n∧(none:Option Nat)=none,
 Value.string x.1=Value.string x.1,
 Value.int IntKind.u64 x.2=Value.int IntKind.u64 x.2,
 Value.int IntKind.i64 x.3=Value.int IntKind.i64 x.3,
 Value.slice x.4 x.5 x.6=Value.slice x.4 x.5 x.6,
 Value.int IntKind.u64 (0:Int)=Value.int IntKind.u64 (0:Int),
 Value.slice none (0:Nat) (0:Nat)=Value.slice none (0:Nat) (0:Nat),
 m=m,
 m.all closedSV=true,
 false=false,
 (e.3==(0:Int))=false,
 (e.3==(0:Int))=false,
 (e.3==(0:Int))=false,
 (e.3==(0:Int))=false,
 (e.3==(0:Int))=false,
 m[(0:Nat)+i.toNat*(4:Nat)+(2:Nat)+(0:Nat)]?=some (SV.v (Value.int IntKind.i64 e.3)),
 inRange i k=true,
 decide (i<(↑k:Int))=true]:=by kernel_rfl
theorem pr2 (l m:List SV) (n k:Nat) (s:Int) (x e f:EntT) (best best' i i':Int):reach EPu 3 100 (SM.at (hdPu k best i) 6 (objPu l m n s x)) (ff [0] true++[(2,.cells [.v (.int .i64 e.k)])]++ff (List.range 60) true) [(0,0),(1,1),(2,2),(3,3),(4,4)] [0,4] (hdPu k best' i') 6 (objPu l m n s x)=[
 (0:Nat)=(0:Nat),
 (0:Nat)=(0:Nat),
 (0:Nat)=(0:Nat),
 (0:Nat)=(0:Nat)∧k=k∧(none:Option Nat)=none,
 Value.int IntKind.i64 i=Value.int IntKind.i64 best',
 Value.int IntKind.i64 (IntKind.i64.wrap (i+(1:Int)))=Value.int IntKind.i64 i',
 l=l,
 l.all closedSV=true,
 Value.int IntKind.u64 s=Value.int IntKind.u64 s,
 (0:Nat)=(0:Nat)∧n=n∧(none:Option Nat)=none,
 Value.string x.1=Value.string x.1,
 Value.int IntKind.u64 x.2=Value.int IntKind.u64 x.2,
 Value.int IntKind.i64 x.3=Value.int IntKind.i64 x.3,
 Value.slice x.4 x.5 x.6=Value.slice x.4 x.5 x.6,
 Value.int IntKind.u64 (0:Int)=Value.int IntKind.u64 (0:Int),
 Value.slice none (0:Nat) (0:Nat)=Value.slice none (0:Nat) (0:Nat),
 m=m,
 m.all closedSV=true,
 true=true,
 (e.3==(0:Int))=true,
 decide (best<(0:Int))=true,
 (e.3==(0:Int))=true,
 decide (best<(0:Int))=true,
 decide (best<(0:Int))=true,
 decide (best<(0:Int))=true,
 decide (best<(0:Int))=true,
 decide (best<(0:Int))=true,
 decide (best<(0:Int))=true,
 decide (best<(0:Int))=true,
 decide (best<(0:Int))=true,
 decide (best<(0:Int))=true,
 decide (best<(0:Int))=true,
 decide (best<(0:Int))=true,
 (e.3==(0:Int))=true,
 (e.3==(0:Int))=true,
 (e.3==(0:Int))=true,
 m[(0:Nat)+i.toNat*(4:Nat)+(2:Nat)+(0:Nat)]?=some (SV.v (Value.int IntKind.i64 e.3)),
 inRange i k=true,
 decide (i<(↑k:Int))=true]:=by kernel_rfl
theorem pr3 (l m:List SV) (n k:Nat) (s:Int) (x e f:EntT) (best best' i i':Int):reach EPu 3 100 (SM.at (hdPu k best i) 6 (objPu l m n s x)) (ff [0] true++[(2,.cells [.v (.int .i64 e.k)])]++ff [3,4,5] true++ff [6,7,8,9,10,11] false++[(12,.cells [.v (.int .u64 e.v)])]++ff [13,14,15,16,17,18] false++[(19,.cells [.v (.int .u64 f.v)])]++ff [20] false++ff [21] true++ff [22] false++ff [23] true++ff [24] true) [(0,0),(1,1),(2,2),(3,3),(4,4)] [0,4] (hdPu k best' i') 6 (objPu l m n s x)=[
 (0:Nat)=(0:Nat),
 (0:Nat)=(0:Nat),
 (0:Nat)=(0:Nat),
 (0:Nat)=(0:Nat)∧k=k∧(none:Option Nat)=none,
 Value.int IntKind.i64 i=Value.int IntKind.i64 best',
 Value.int IntKind.i64 (IntKind.i64.wrap (i+(1:Int)))=Value.int IntKind.i64 i',
 l=l,
 l.all closedSV=true,
 Value.int IntKind.u64 s=Value.int IntKind.u64 s,
 (0:Nat)=(0:Nat)∧n=n∧(none:Option Nat)=none,
 Value.string x.1=Value.string x.1,
 Value.int IntKind.u64 x.2=Value.int IntKind.u64 x.2,
 Value.int IntKind.i64 x.3=Value.int IntKind.i64 x.3,
 Value.slice x.4 x.5 x.6=Value.slice x.4 x.5 x.6,
 Value.int IntKind.u64 (0:Int)=Value.int IntKind.u64 (0:Int),
 Value.slice none (0:Nat) (0:Nat)=Value.slice none (0:Nat) (0:Nat),
 m=m,
 m.all closedSV=true,
 decide (e.2<f.2)=true,
 (e.3==(0:Int))=true,
 decide (best<(0:Int))=false,
 (e.3==(0:Int))=true,
 decide (best<(0:Int))=false,
 m[(0:Nat)+best.toNat*(4:Nat)+(1:Nat)]?=some (SV.v (Value.int IntKind.u64 f.2)),
 decide (best<(0:Int))=false,
 decide (best<(0:Int))=false,
 inRange best k=true,
 decide (best<(0:Int))=false,
 decide (best<(0:Int))=false,
 decide (best<(0:Int))=false,
 m[(0:Nat)+i.toNat*(4:Nat)+(1:Nat)]?=some (SV.v (Value.int IntKind.u64 e.2)),
 decide (best<(0:Int))=false,
 decide (best<(0:Int))=false,
 inRange i k=true,
 decide (best<(0:Int))=false,
 decide (best<(0:Int))=false,
 decide (best<(0:Int))=false,
 (e.3==(0:Int))=true,
 (e.3==(0:Int))=true,
 (e.3==(0:Int))=true,
 m[(0:Nat)+i.toNat*(4:Nat)+(2:Nat)+(0:Nat)]?=some (SV.v (Value.int IntKind.i64 e.3)),
 inRange i k=true,
 decide (i<(↑k:Int))=true]:=by kernel_rfl
theorem pr4 (l m:List SV) (n k:Nat) (s:Int) (x e f:EntT) (best best' i i':Int):reach EPu 3 100 (SM.at (hdPu k best i) 6 (objPu l m n s x)) (ff [0] true++[(2,.cells [.v (.int .i64 e.k)])]++ff [3,4,5] true++ff [6,7,8,9,10,11] false++[(12,.cells [.v (.int .u64 e.v)])]++ff [13,14,15,16,17,18] false++[(19,.cells [.v (.int .u64 f.v)])]++ff [20] false++ff [21] true++ff [22] false++ff [23] true++ff [24] false) [(0,0),(1,1),(2,2),(3,3),(4,4)] [0,4] (hdPu k best' i') 6 (objPu l m n s x)=[
 (0:Nat)=(0:Nat),
 (0:Nat)=(0:Nat),
 (0:Nat)=(0:Nat),
 (0:Nat)=(0:Nat)∧k=k∧(none:Option Nat)=none,
 Value.int IntKind.i64 best=Value.int IntKind.i64 best',
 Value.int IntKind.i64 (IntKind.i64.wrap (i+(1:Int)))=Value.int IntKind.i64 i',
 l=l,
 l.all closedSV=true,
 Value.int IntKind.u64 s=Value.int IntKind.u64 s,
 (0:Nat)=(0:Nat)∧n=n∧(none:Option Nat)=none,
 Value.string x.1=Value.string x.1,
 Value.int IntKind.u64 x.2=Value.int IntKind.u64 x.2,
 Value.int IntKind.i64 x.3=Value.int IntKind.i64 x.3,
 Value.slice x.4 x.5 x.6=Value.slice x.4 x.5 x.6,
 Value.int IntKind.u64 (0:Int)=Value.int IntKind.u64 (0:Int),
 Value.slice none (0:Nat) (0:Nat)=Value.slice none (0:Nat) (0:Nat),
 m=m,
 m.all closedSV=true,
 decide (e.2<f.2)=false,
 (e.3==(0:Int))=true,
 decide (best<(0:Int))=false,
 (e.3==(0:Int))=true,
 decide (best<(0:Int))=false,
 m[(0:Nat)+best.toNat*(4:Nat)+(1:Nat)]?=some (SV.v (Value.int IntKind.u64 f.2)),
 decide (best<(0:Int))=false,
 decide (best<(0:Int))=false,
 inRange best k=true,
 decide (best<(0:Int))=false,
 decide (best<(0:Int))=false,
 decide (best<(0:Int))=false,
 m[(0:Nat)+i.toNat*(4:Nat)+(1:Nat)]?=some (SV.v (Value.int IntKind.u64 e.2)),
 decide (best<(0:Int))=false,
 decide (best<(0:Int))=false,
 inRange i k=true,
 decide (best<(0:Int))=false,
 decide (best<(0:Int))=false,
 decide (best<(0:Int))=false,
 (e.3==(0:Int))=true,
 (e.3==(0:Int))=true,
 (e.3==(0:Int))=true,
 m[(0:Nat)+i.toNat*(4:Nat)+(2:Nat)+(0:Nat)]?=some (SV.v (Value.int IntKind.i64 e.3)),
 inRange i k=true,
 decide (i<(↑k:Int))=true]:=by kernel_rfl
theorem pe1 (l m:List SV) (n k:Nat) (s:Int) (x e f:EntT) (best best' i i':Int):endsX EPu 17 300 (SM.at (hdPu k best i) 6 (objPu l m n s x)) (ff [0] false++ff [1] true) [(0,0)] (.tup [.agg [.v (.int .u64 s),.sl 0 0 n none],.v (.int .i64 24)])=[
 Value.int IntKind.u64 s=Value.int IntKind.u64 s,
 (0:Nat)=(0:Nat)∧n=n∧(none:Option Nat)=none,
 Value.int IntKind.i64 (24:Int)=Value.int IntKind.i64 (24:Int),
 decide (best<(0:Int))=true,
 decide (i<(↑k:Int))=false]:=by kernel_rfl
theorem pe2 (l m : List SV) (n k : Nat) (s : Int) (x e f : EntT) (best best' i i' : Int) (q : ByteArray) (l' : List SV) (k' : Nat) : endsO EPu 17 300 (SM.at (hdPu k best i) 6 (objPu l m n s x)) (ff [0] false ++ ff [1] false ++ [(3, .cells [.v (.string q)]), (4, .b true)]) (.tup [.agg [.v (.int .u64 s), .sl 6 0 k' none], .v (.int .i64 0)]) 6 (.row l' 46 (0, 0) (some 4)) = [
  Value.int IntKind.u64 s = Value.int IntKind.u64 s,
  (0 : Nat) = (0 : Nat) ∧
   (entsOf (List.map SV.v (vE (dropE q (entsOf m k)))) (dropE q (entsOf m k)).length).length + (1 : Nat) = k' ∧ (none : Option Nat) = none,
  Value.int IntKind.i64 (0 : Int) = Value.int IntKind.i64 (0 : Int),
  List.map SV.v
   (vE
   (insE { p := x.1, v := x.2, k := x.3, a := x.4, l := x.5, c := x.6 : EntT }
   (entsOf (List.map SV.v (vE (dropE q (entsOf m k)))) (dropE q (entsOf m k)).length))) =
   l',
  l'.all closedSV = true,
  (s == s) = true,
  ((46 : Nat) = (46 : Nat) ∧
   HoldsE (List.map SV.v (vE (dropE q (entsOf m k)))) (dropE q (entsOf m k)).length
   (entsOf (List.map SV.v (vE (dropE q (entsOf m k)))) (dropE q (entsOf m k)).length) ∧
   entsOf (List.map SV.v (vE (dropE q (entsOf m k)))) (dropE q (entsOf m k)).length ≠ []) ∧
   x.1.size ≤ (1000000000 : Nat) ∧
   ∀ (e : EntT),
   e ∈ entsOf (List.map SV.v (vE (dropE q (entsOf m k)))) (dropE q (entsOf m k)).length →
   e.p.size ≤ (1000000000 : Nat),
  HoldsE m k (entsOf m k) ∧ dropE q (entsOf m k) ≠ [],
  m[(0 : Nat) + best.toNat * (4 : Nat) + (0 : Nat)]? = some (SV.v (Value.string q)),
  inRange best k = true,
  decide (best < (0 : Int)) = false,
  decide (i < (↑k : Int)) = false] := by kernel_rfl
def lPn:List (FuncId × Sum):=[(35,pureSum echkPS),(37,slSumG withS)]
noncomputable def EPn:Env:={ EP [] [] with sums:=fun f=>lPn.lookup f }
noncomputable def entPn (s:Int) (x:EntT):SM:=(enterS EPn 17 [.v (.agg #[.int .u64 s,.slice none 0 0]),.v (.agg #[.string x.p,.int .u64 x.v,.int .i64 x.k,.slice x.a x.l x.c])] (memOf 6 0 0 [])).getD noSM
theorem pn0 (s : Int) (x : EntT) : endsX EPn 17 300 (entPn s x) ([(1000, .b true)] ++ ff [1] true) [] (.v (.tuple #[.agg #[.int .u64 s, .slice none 0 0], .int .i64 (entN x.p x.v x.k x.l)])) = [
  Value.tuple
   {
   toList :=
   [Value.agg { toList := [Value.int IntKind.u64 s, Value.slice none (0 : Nat) (0 : Nat)] : Array Value },
   Value.int IntKind.i64 (entN x.1 x.2 x.3 x.5)] :
   Array Value } =
   Value.tuple
   {
   toList :=
   [Value.agg { toList := [Value.int IntKind.u64 s, Value.slice none (0 : Nat) (0 : Nat)] : Array Value },
   Value.int IntKind.i64 (entN x.1 x.2 x.3 x.5)] :
   Array Value },
  (!entN x.1 x.2 x.3 x.5 == (0 : Int)) = true,
  x.1.size ≤ (1000000000 : Nat) ∧ (0 : Int) ≤ x.2 ∧ x.2 < (18446744073709551616 : Int)] := by kernel_rfl
theorem pn1 (l':List SV) (s:Int) (x:EntT):endsO EPn 17 300 (entPn s x) ([(1000,.b true)]++ff (List.range 30) false) (.tup [.agg [.v (.int .u64 s),.sl 6 0 1 none],.v (.int .i64 0)]) 6 (.row l' 46 (0,0) (some 4))=[
 Value.int IntKind.u64 s=Value.int IntKind.u64 s,
 (0:Nat)=(0:Nat)∧(1:Nat)=(1:Nat)∧(none:Option Nat)=none,
 Value.int IntKind.i64 (0:Int)=Value.int IntKind.i64 (0:Int),
 List.map SV.v (vE (insE { p:=x.1,v:=x.2,k:=x.3,a:=x.4,l:=x.5,c:=x.6:EntT } []))=l',
 l'.all closedSV=true,
 (s==s)=true,
 True∧x.1.size≤(1000000000:Nat)∧∀ (e:EntT),e∈[]→e.p.size≤(1000000000:Nat),
 false=false,
 false=false,
 decide ((0:Int)≥x.2)=false,
 false=false,
 (!entN x.1 x.2 x.3 x.5==(0:Int))=false,
 x.1.size≤(1000000000:Nat)∧(0:Int)≤x.2∧x.2<(18446744073709551616:Int)]:=by kernel_rfl
def bestS (acc:Option EntT) (e:EntT):Option EntT:=if e.k=0 then (match acc with | none=>some e | some f=>if e.v<f.v then some e else some f) else acc
def bestL (l:List EntT):Option EntT:=l.foldl bestS none
def refPut (xs:List EntT) (x:EntT):List EntT × Int:=
 if entN x.p x.v x.k x.l≠0 then (xs,entN x.p x.v x.k x.l)
 else if (findE x.p xs).v≥x.v then (xs,31)
 else if (dropE x.p xs).length≥256 then (match bestL (dropE x.p xs) with
  | none=>(xs,24)
  | some b=>(insE x (dropE b.p (dropE x.p xs)),0))
 else (insE x (dropE x.p xs),0)
theorem bestL_snoc {l:List EntT} {i:Nat} (h:i<l.length):bestL (l.take (i+1))=bestS (bestL (l.take i)) l[i]:=by
 unfold bestL
 rw [List.take_succ_eq_append_getElem h,List.foldl_append];rfl
theorem bestL_mem:∀ {l:List EntT} {e:EntT},bestL l=some e→e∈l∧e.k=0:=by
 have aux:∀ (l:List EntT) (acc:Option EntT) (e:EntT),l.foldl bestS acc=some e→(e∈l∧e.k=0)∨acc=some e:=fun l=>by
  induction l with
  | nil=>exact fun acc e h=>.inr h
  | cons x l ih=>
   intro acc e h
   rcases ih _ _ h with ⟨h,k⟩ | h
   ·exact .inl ⟨List.mem_cons_of_mem _ h,k⟩
   ·unfold bestS at h
    split at h
    ·rename_i hk
     split at h
     ·cases h;exact .inl ⟨List.mem_cons_self,hk⟩
     ·split at h
      ·cases h;exact .inl ⟨List.mem_cons_self,hk⟩
      ·exact .inr h
    ·exact .inr h
 intro l e h
 rcases aux l none e h with h | h
 ·exact h
 ·cases h
def BI (l:List EntT) (i:Nat) (best:Int):Prop:=(best=-1∧bestL (l.take i)=none)∨∃ (b:Nat) (e:EntT),best=(b:Int)∧l[b]?=some e∧bestL (l.take i)=some e
theorem cE_cell1 {xs:List EntT} {k:Nat} {x:EntT} (h:xs[k]?=some x):(cE xs)[0+k*4+1]?=some (.v (.int .u64 x.v)):=by
 have h2:(List.take 4 (List.drop (0+k*4) (cE xs)))[1]?=(eC x)[1]?:=by rw [cE_at h]
 rw [List.getElem?_take,if_pos (by decide),List.getElem?_drop] at h2
 exact h2
theorem cE_cell2 {xs:List EntT} {k:Nat} {x:EntT} (h:xs[k]?=some x):(cE xs)[0+k*4+2+0]?=some (.v (.int .i64 x.k)):=by
 have h2:(List.take 4 (List.drop (0+k*4) (cE xs)))[2]?=(eC x)[2]?:=by rw [cE_at h]
 rw [List.getElem?_take,if_pos (by decide),List.getElem?_drop] at h2
 exact h2
theorem holdsE (xs:List EntT) (h:xs.length≤1000):HoldsE (cE xs) xs.length xs:=⟨rfl,rfl,h⟩
theorem KPu {M:Own} {w0:World}:Facts EPu M w0:=
 Facts.of' (Checked.mixed Tryz.checked) (by kernel_rfl) (ExtOK.of extL rfl extRows) (SumsOK.list (X:=fun _=>True) (l:=lPu) rfl (fun r h=>by
  simp only [lPu,List.mem_cons,List.not_mem_nil,or_false] at h
  rcases h with rfl | rfl | rfl | rfl
  ·exact SumOK.pure (r:=(35,echkPS)) rechk_ok
  ·exact get_ok
  ·exact without_ok
  ·exact with_ok) fun ν s w hr _=>trivial) (fun f g h=>by cases h)
theorem KPn {M:Own} {w0:World}:Facts EPn M w0:=
 Facts.of' (Checked.mixed Tryz.checked) (by kernel_rfl) (ExtOK.of extL rfl extRows) (SumsOK.list (X:=fun _=>True) (l:=lPn) rfl (fun r h=>by
  simp only [lPn,List.mem_cons,List.not_mem_nil,or_false] at h
  rcases h with rfl | rfl
  ·exact SumOK.pure (r:=(35,echkPS)) rechk_ok
  ·exact with_ok) fun ν s w hr _=>trivial) (fun f g h=>by cases h)
def bV (s:Int) (y:Value) (c:Int):Value:=.tuple #[.agg #[.int .u64 s,y],.int .i64 c]
theorem ends_slT {E:Env} {M:Own} {w0:World} {cs0:List Frame} {f:FuncId} {R:Ending→World→Prop} {ν:Val} {n:Nat} {S:SM} {o:List (Nat × Ans)} {m j:Nat} {l:List EntT} {s:Int} (K:Facts E M w0) (hM:∀ z,¬ M z)
  (h:Due (endsO E f n S o (.tup [.agg [.v (.int .u64 s),.sl j 0 m none],.v (.int .i64 0)]) j (.row (cE l) 46 (0,0) (some 4)))) (hR:∀ w' y,Below w0.heap.size w0 w'→NewSl w0 w' y (vE l) m 4 46→R (.returned (bV s y 0)) w'):Goes E M w0 cs0 f R ν S:=
 Goes.endsO K h.out fun ν' w' y b ob hv hb ho hor hw hB=>by
  have hn:w0.heap.size≤b.1:=by
   rcases hw with h | h
   ·exact h
   ·exact absurd h (hM _)
  obtain ⟨_,_,_,_,hB,hr⟩:=hB
  obtain ⟨a,rfl,ha⟩:=VR.tup_iff.1 hv
  obtain ⟨y1,a1,rfl,q1,ha1⟩:=ha.cons_inv
  obtain ⟨y2,a2,rfl,q2,ha2⟩:=ha1.cons_inv
  obtain rfl:=ha2.nil_inv
  obtain rfl:=VR.v_iff.1 q2
  obtain ⟨c1,rfl,hc⟩:=VR.agg_iff.1 q1
  obtain ⟨y3,c2,rfl,q3,hc2⟩:=hc.cons_inv
  obtain ⟨y4,c3,rfl,q4,hc3⟩:=hc2.cons_inv
  obtain rfl:=hc3.nil_inv
  obtain rfl:=VR.v_iff.1 q3
  exact hR w' y4 (below_of hM hB hr) (NewSl.of_row q4 hb ho hor hn fun zs hz=>cE_val hz)
theorem ends_old {E:Env} {M:Own} {w0:World} {cs0:List Frame} {f:FuncId} {R:Ending→World→Prop} {b:Nat × Nat} {n:Nat} {S:SM} {o:List (Nat × Ans)} {m:Nat} {s c:Int} (K:Facts E M w0) (hM:∀ z,¬ M z)
  (h:Due (endsX E f n S o [(0,0)] (.tup [.agg [.v (.int .u64 s),.sl 0 0 m none],.v (.int .i64 c)]))) (hR:∀ w',Below w0.heap.size w0 w'→R (.returned (bV s (.slice (some ⟨b.1,0,none⟩) m b.2) c)) w'):Goes E M w0 cs0 f R (layVal [b]) S:=
 Goes.endsX K hM h.out fun ν' w' y hle hv hB=>by
  obtain ⟨a,rfl,ha⟩:=VR.tup_iff.1 hv
  obtain ⟨y1,a1,rfl,q1,ha1⟩:=ha.cons_inv
  obtain ⟨y2,a2,rfl,q2,ha2⟩:=ha1.cons_inv
  obtain rfl:=ha2.nil_inv
  obtain rfl:=VR.v_iff.1 q2
  obtain ⟨c1,rfl,hc⟩:=VR.agg_iff.1 q1
  obtain ⟨y3,c2,rfl,q3,hc2⟩:=hc.cons_inv
  obtain ⟨y4,c3,rfl,q4,hc3⟩:=hc2.cons_inv
  obtain rfl:=hc3.nil_inv
  obtain rfl:=VR.v_iff.1 q3
  obtain ⟨b',hb',hle',rfl⟩:=VR.sl_iff.1 q4
  have hb0:(ν'.ren [(0,0)]) 0=some b:=hle 0 b rfl
  rw [hb0] at hb';cases hb'
  exact hR w' hB
def RP (w0:World) (s:Int) (y0:Value) (r:List EntT × Int) (e:Ending) (w':World):Prop:=
 Below w0.heap.size w0 w'∧((r.2≠0∧e=.returned (bV s y0 r.2))∨(r.2=0∧∃ y,e=.returned (bV s y 0)∧NewSl w0 w' y (vE r.1) r.1.length 4 46))
theorem entX (x:EntT):(⟨x.p,x.v,x.k,x.a,x.l,x.c⟩:EntT)=x:=rfl
theorem vE_ents (l:List EntT):entsOf (List.map SV.v (vE l)) l.length=l:=by rw [cE_map,entsOf_cE]
section
variable {w0:World} {cs0:List Frame} {xs m:List EntT} {x:EntT} {b:Nat × Nat} {s:Int}
theorem noneR' {b:Nat × Nat} {o:SO} (z:Nat):¬ (layOwn [b] [(o,false)]) z:=layOwn_none (os:=[_])
theorem loopPu (hl:xs.length≤1000) (hm:m.length≤1000) (hp:x.p.size≤1000000000) (hs:∀ e∈m,e.p.size≤1000000000) (h2:2≤m.length) (hd:∀ e∈m,dropE e.p m≠[])
  (hnone:bestL m=none→refPut xs x=(xs,24)) (hsome:∀ e,bestL m=some e→refPut xs x=(insE x (dropE e.p m),0)):∀ (j i:Nat) (best:Int),i+j=m.length→BI m i best→
  Goes EPu (layOwn [b] [(.row (cE xs) 46 (0,0) (some 4),false)]) w0 cs0 17 (RP w0 s (.slice (some ⟨b.1,0,none⟩) xs.length b.2) (refPut xs x)) (layVal [b]) (SM.at (hdPu m.length best i) 6 (objPu (cE xs) (cE m) xs.length s x))
 | 0,i,best,hj,hb=>by
  have t0:decide ((i:Int)<(m.length:Int))=false:=decide_eq_false (by omega)
  rcases hb with ⟨rfl,hb⟩ | ⟨bi,e,rfl,he,hb⟩
  ·rw [List.take_of_length_le (by omega)] at hb
   refine ends_old KPu noneR' (n:=300) (o:=(ff [0] false++ff [1] true)) (m:=xs.length) (c:=24) ⟨?_⟩ fun w' hB=>⟨hB,.inl ⟨by rw [hnone hb];exact (by decide:(24:Int)≠0),by rw [hnone hb]⟩⟩
   rw [pe1 (e:=x) (f:=x) (best':=0) (i':=0)]
   simp only [Owed,t0,and_self,and_true,true_and]
   first | done | rfl | decide
  ·rw [List.take_of_length_le (by omega)] at hb
   have hmem:=(bestL_mem hb).1
   have hlt:bi<m.length:=(List.getElem?_eq_some_iff.1 he).1
   have r1:=in_range hlt
   have t1:decide ((bi:Int)<(0:Int))=false:=decide_eq_false (by omega)
   have rc:=cE_cell0 he
   have hdl:=dropE_len e.p m
   refine ends_slT (j:=6) (l:=insE x (dropE e.p m)) (m:=(dropE e.p m).length+1) KPu noneR' (n:=300) (o:=(ff [0] false++ff [1] false++[(3,.cells [.v (.string e.p)]),(4,.b true)])) ⟨?_⟩ fun w' y hB hy=>⟨hB,.inr ⟨by rw [hsome e hb],y,rfl,by rw [hsome e hb];rw [insE_len];exact hy⟩⟩
   rw [pe2 (e:=x) (f:=x) (best':=0) (i':=0)]
   rw [entsOf_cE,vE_ents,cE_map]
   simp only [Owed,t0,t1,r1,Int.toNat_natCast,rc,entX,cE_map,cE_closed,and_self,and_true,true_and]
   repeat' apply And.intro
   all_goals first | exact holdsE _ (by omega) | exact hd e hmem | exact hp | exact fun z hz=>hs z (List.mem_filter.1 hz).1 | rfl | exact beq_self_eq_true s | skip
 | j+1,i,best,hj,hb=>by
  have hi:i<m.length:=by omega
  have hxi:m[i]?=some m[i]:=List.getElem?_eq_getElem hi
  have t1:decide ((i:Int)<(m.length:Int))=true:=decide_eq_true (by omega)
  have r1:=in_range hi
  have ws:=wrap_succ (k:=i) (by omega)
  have rk:=cE_cell2 hxi
  have rv:=cE_cell1 hxi
  have sn:=bestL_snoc hi
  by_cases hk:m[i].k=0
  ·have k1:(m[i].3==(0:Int))=true:=by rw [beq_iff_eq];exact hk
   rcases hb with ⟨rfl,hb⟩ | ⟨bi,f,rfl,hf,hb⟩
   ·have nx:BI m (i+1) (i:Int):=.inr ⟨i,m[i],rfl,hxi,by rw [sn,hb];unfold bestS;rw [if_pos hk]⟩
    have tb:decide ((-1:Int)<(0:Int))=true:=by decide
    refine Goes.reach KPu (k:=3) (n:=100) (o:=(ff [0] true++[(2,.cells [.v (.int .i64 m[i].k)])]++ff (List.range 60) true)) (ren:=[(0,0),(1,1),(2,2),(3,3),(4,4)]) (eqs:=[0,4]) ?_ (by kernel_rfl) (fun i b h=>by rw [lay1' h];rfl) (loopPu hl hm hp hs h2 hd hnone hsome j (i+1) i (by omega) nx)
    rw [pr2 (f:=x)]
    simp only [Owed,Int.toNat_natCast,t1,r1,rk,ws,cE_closed,k1,tb,and_self,and_true,true_and]
    try (repeat' apply And.intro)
    all_goals first | rfl | assumption | exact ws | skip
   ·have hlt:bi<m.length:=(List.getElem?_eq_some_iff.1 hf).1
    have r2:=in_range hlt
    have fv:=cE_cell1 hf
    have tb:decide ((bi:Int)<(0:Int))=false:=decide_eq_false (by omega)
    by_cases hv:m[i].v<f.v
    ·have tv:decide (m[i].2<f.2)=true:=decide_eq_true hv
     have nx:BI m (i+1) (i:Int):=.inr ⟨i,m[i],rfl,hxi,by rw [sn,hb];unfold bestS;rw [if_pos hk];exact if_pos hv⟩
     refine Goes.reach KPu (k:=3) (n:=100) (o:=(ff [0] true++[(2,.cells [.v (.int .i64 m[i].k)])]++ff [3,4,5] true++ff [6,7,8,9,10,11] false++[(12,.cells [.v (.int .u64 m[i].v)])]++ff [13,14,15,16,17,18] false++[(19,.cells [.v (.int .u64 f.v)])]++ff [20] false++ff [21] true++ff [22] false++ff [23] true++ff [24] true)) (ren:=[(0,0),(1,1),(2,2),(3,3),(4,4)]) (eqs:=[0,4]) ?_ (by kernel_rfl) (fun i b h=>by rw [lay1' h];rfl) (loopPu hl hm hp hs h2 hd hnone hsome j (i+1) i (by omega) nx)
     rw [pr3 (f:=f)]
     simp only [Owed,Int.toNat_natCast,t1,r1,rk,ws,cE_closed,k1,tb,tv,r2,rv,fv,and_self,and_true,true_and]
     try (repeat' apply And.intro)
     all_goals first | rfl | assumption | exact ws | skip
    ·have tv:decide (m[i].2<f.2)=false:=decide_eq_false hv
     have nx:BI m (i+1) (bi:Int):=.inr ⟨bi,f,rfl,hf,by rw [sn,hb];unfold bestS;rw [if_pos hk];exact if_neg hv⟩
     refine Goes.reach KPu (k:=3) (n:=100) (o:=(ff [0] true++[(2,.cells [.v (.int .i64 m[i].k)])]++ff [3,4,5] true++ff [6,7,8,9,10,11] false++[(12,.cells [.v (.int .u64 m[i].v)])]++ff [13,14,15,16,17,18] false++[(19,.cells [.v (.int .u64 f.v)])]++ff [20] false++ff [21] true++ff [22] false++ff [23] true++ff [24] false)) (ren:=[(0,0),(1,1),(2,2),(3,3),(4,4)]) (eqs:=[0,4]) ?_ (by kernel_rfl) (fun i b h=>by rw [lay1' h];rfl) (loopPu hl hm hp hs h2 hd hnone hsome j (i+1) bi (by omega) nx)
     rw [pr4 (f:=f)]
     simp only [Owed,Int.toNat_natCast,t1,r1,rk,ws,cE_closed,k1,tb,tv,r2,rv,fv,and_self,and_true,true_and]
     try (repeat' apply And.intro)
     all_goals first | rfl | assumption | exact ws | skip
  ·have k1:(m[i].3==(0:Int))=false:=by rw [beq_eq_false_iff_ne];exact hk
   have nx:BI m (i+1) best:=by
    unfold BI;rw [sn];unfold bestS;rw [if_neg hk];exact hb
   refine Goes.reach KPu (k:=3) (n:=100) (o:=(ff [0] true++[(2,.cells [.v (.int .i64 m[i].k)])]++ff (List.range 60) false)) (ren:=[(0,0),(1,1),(2,2),(3,3),(4,4)]) (eqs:=[0,4]) ?_ (by kernel_rfl) (fun i b h=>by rw [lay1' h];rfl) (loopPu hl hm hp hs h2 hd hnone hsome j (i+1) best (by omega) nx)
   rw [pr1 (f:=x)]
   simp only [Owed,Int.toNat_natCast,t1,r1,rk,ws,cE_closed,k1,and_self,and_true,true_and]
   try (repeat' apply And.intro)
   all_goals first | rfl | assumption | exact ws | skip
end
structure PutIn (xs:List EntT) (x:EntT):Prop where
 p:x.p.size≤1000000000
 v:0≤x.v∧x.v<18446744073709551616
 names:(xs.map fun e=>e.p).Nodup
 size:∀ e∈xs,e.p.size≤1000000000
theorem isE_iff {p:ByteArray} {e:EntT}:isE p e=true↔e.p=p:=by
 unfold isE
 rw [beq_iff_eq]
 constructor
 ·intro h;cases h1:e.p;cases p;rw [h1] at h;congr 1;exact Array.toList_inj.1 h
 ·intro h;rw [h]
theorem two_left {m:List EntT} {e:EntT} (hn:(m.map fun e=>e.p).Nodup) (h2:2≤m.length):dropE e.p m≠[]:=by
 intro h
 have hall:∀ x∈m,x.p=e.p:=fun x hx=>by
  cases hq:isE e.p x
  ·have:x∈dropE e.p m:=List.mem_filter.2 ⟨hx,by rw [hq];rfl⟩
   rw [h] at this;cases this
  ·exact isE_iff.1 hq
 match m,h2,hn,hall with
 | a::b::m,_,hn,hall=>
  have h1:=hall a (by simp)
  have h3:=hall b (by simp)
  simp [h1,h3] at hn
theorem put_walk {w0:World} {cs0:List Frame} {xs:List EntT} {x:EntT} {b:Nat × Nat} {s:Int} (hI:PutIn xs x) (hne:xs≠[]) (hl:xs.length≤1000):
  Goes EPu (layOwn [b] [(.row (cE xs) 46 (0,0) (some 4),false)]) w0 cs0 17 (RP w0 s (.slice (some ⟨b.1,0,none⟩) xs.length b.2) (refPut xs x)) (layVal [b]) (entPu (cE xs) xs.length s x):=by
 have hx1:=hI.p
 have hx2:=hI.v.1
 have hx3:=hI.v.2
 have hh:=holdsE xs hl
 have he:entsOf (cE xs) xs.length=xs:=entsOf_cE xs
 by_cases hc:entN x.p x.v x.k x.l=0
 ·have c1:(!entN x.1 x.2 x.3 x.5==(0:Int))=false:=by rw [show entN x.1 x.2 x.3 x.5=0 from hc];rfl
  by_cases hv:(findE x.p xs).v≥x.v
  ·have c2:decide ((findE x.p xs).2≥x.2)=true:=decide_eq_true hv
   have hr:refPut xs x=(xs,31):=by unfold refPut;rw [if_neg (by simpa using hc),if_pos hv]
   rw [hr]
   refine ends_old KPu noneR' (n:=300) (o:=([(1000,.b true)]++ff [1] false++ff (List.range 30) true)) ⟨?_⟩ fun w' hB=>⟨hB,.inl ⟨(by decide:(31:Int)≠0),rfl⟩⟩
   rw [pu1,he]
   simp only [Owed,c1,c2,and_self,and_true,true_and]
   exact ⟨⟨hx1,hx2,hx3⟩,hh⟩
  ·have c2:decide ((findE x.p xs).2≥x.2)=false:=decide_eq_false hv
   have hdl:=dropE_len x.p xs
   by_cases hm:(dropE x.p xs).length≥256
   ·have c3:decide (((dropE x.1 xs).length:Int)≥(256:Int))=true:=decide_eq_true (by exact_mod_cast hm)
    have hmn:((dropE x.p xs).map fun e=>e.p).Nodup:=hI.names.sublist (List.Sublist.map _ List.filter_sublist)
    have hr:refPut xs x=match bestL (dropE x.p xs) with
      | none=>(xs,24)
      | some b=>(insE x (dropE b.p (dropE x.p xs)),0):=by unfold refPut;rw [if_neg (by simpa using hc),if_neg hv,if_pos hm] <;> rfl
    have nx:=loopPu (w0:=w0) (cs0:=cs0) (b:=b) (s:=s) (x:=x) (xs:=xs) (m:=dropE x.p xs) hl (by omega) hx1 (fun e he=>hI.size e (List.mem_filter.1 he).1) (by omega) (fun e he=>two_left hmn (by omega)) (fun h=>by rw [hr,h]) (fun e h=>by rw [hr,h]) (dropE x.p xs).length 0 (-1) (by omega) (.inl ⟨rfl,rfl⟩)
    refine Goes.reach KPu (k:=3) (n:=300) (o:=([(1000,.b true)]++ff [1,3] false++ff [4,5] true)) (ren:=[(0,0),(1,1),(2,2),(3,3),(4,5)]) (eqs:=[0,4]) (F:=hdPu (dropE x.p xs).length (-1) 0) (d:=6) (l:=objPu (cE xs) (cE (dropE x.p xs)) xs.length s x) ?_ (by kernel_rfl) (fun i b h=>by rw [lay1' h];rfl) nx
    rw [pu4,he,cE_map]
    simp only [Owed,c1,c2,c3,cE_closed,and_self,and_true,true_and]
    repeat' apply And.intro
    all_goals first | assumption | rfl | (intro h0;rw [h0] at hm;simp at hm;done) | skip
   ·have c3:decide (((dropE x.1 xs).length:Int)≥(256:Int))=false:=decide_eq_false (by intro h;exact hm (by exact_mod_cast h))
    have hr:refPut xs x=(insE x (dropE x.p xs),0):=by unfold refPut;rw [if_neg (by simpa using hc),if_neg hv,if_neg hm]
    rw [hr]
    by_cases hd:dropE x.p xs=[]
    ·rw [hd]
     refine ends_slT (j:=5) (l:=insE x []) (m:=1) KPu noneR' (n:=300) (o:=([(1000,.b true)]++ff [1,3,4,5] false)) ⟨?_⟩ fun w' y hB hy=>⟨hB,.inr ⟨rfl,y,rfl,hy⟩⟩
     rw [pu2,he]
     simp only [Owed,c1,c2,entX,cE_map,cE_closed,and_self,and_true,true_and]
     repeat' apply And.intro
     all_goals first | assumption | rfl | exact beq_self_eq_true s | (intro e h;cases h;done) | skip
    ·refine ends_slT (j:=6) (l:=insE x (dropE x.p xs)) (m:=(dropE x.p xs).length+1) KPu noneR' (n:=300) (o:=([(1000,.b true)]++ff [1,3] false++ff [4] true++ff [5] false)) ⟨?_⟩ fun w' y hB hy=>⟨hB,.inr ⟨rfl,y,rfl,by rw [insE_len];exact hy⟩⟩
     rw [pu3,he,vE_ents,cE_map]
     simp only [Owed,c1,c2,c3,entX,cE_map,cE_closed,and_self,and_true,true_and]
     repeat' apply And.intro
     all_goals first | assumption | rfl | exact beq_self_eq_true s | exact holdsE _ (by omega) | exact fun z hz=>hI.size z (List.mem_filter.1 hz).1 | skip
 ·have c1:(!entN x.1 x.2 x.3 x.5==(0:Int))=true:=by simpa using hc
  have hr:refPut xs x=(xs,entN x.p x.v x.k x.l):=by unfold refPut;rw [if_pos hc]
  rw [hr]
  refine ends_old KPu noneR' (n:=300) (o:=([(1000,.b true)]++ff (List.range 3) true)) ⟨?_⟩ fun w' hB=>⟨hB,.inl ⟨hc,rfl⟩⟩
  rw [pu0]
  simp only [Owed,c1,and_self,and_true,true_and]
  exact ⟨hx1,hx2,hx3⟩
theorem endsN {E:Env} {M:Own} {w0:World} {cs0:List Frame} {f:FuncId} {R:Ending→World→Prop} {ν:Val} {n:Nat} {S:SM} {o:List (Nat × Ans)} {v:Value} (K:Facts E M w0) (hM:∀ z,¬ M z)
  (h:Due (endsX E f n S o [] (.v v))) (hR:∀ w',Below w0.heap.size w0 w'→R (.returned v) w'):Goes E M w0 cs0 f R ν S:=
 Goes.endsX K hM h.out fun ν' w' y hle hv hB=>by rw [VR.v_iff.1 hv];exact hR w' hB
theorem putn_walk {w0:World} {cs0:List Frame} {x:EntT} {s:Int} (hI:PutIn [] x):Goes EPn (layOwn [] []) w0 cs0 17 (RP w0 s (.slice none 0 0) (refPut [] x)) (layVal []) (entPn s x):=by
 have hx1:=hI.p
 have hx2:=hI.v.1
 have hx3:=hI.v.2
 by_cases hc:entN x.p x.v x.k x.l=0
 ·have c1:(!entN x.1 x.2 x.3 x.5==(0:Int))=false:=by rw [show entN x.1 x.2 x.3 x.5=0 from hc];rfl
  have hv:¬ (0:Int)≥x.v:=by
   intro h
   have h0:x.v=0:=by omega
   rw [h0] at hc
   unfold entN at hc
   revert hc
   cases userB x.p <;> simp [verB]
  have c2:decide ((0:Int)≥x.2)=false:=decide_eq_false hv
  have hr:refPut [] x=(insE x [],0):=by
   unfold refPut;rw [if_neg (by simpa using hc),if_neg (by exact hv),if_neg (by simp [dropE])];rfl
  rw [hr]
  refine ends_slT (j:=6) (l:=insE x []) (m:=1) KPn not_laid (n:=300) (o:=([(1000,.b true)]++ff (List.range 30) false)) ⟨?_⟩ fun w' y hB hy=>⟨hB,.inr ⟨rfl,y,rfl,hy⟩⟩
  rw [pn1]
  simp only [Owed,c1,c2,entX,cE_map,cE_closed,and_self,and_true,true_and]
  repeat' apply And.intro
  all_goals first | assumption | rfl | exact beq_self_eq_true s | (intro e h;cases h;done) | skip
 ·have c1:(!entN x.1 x.2 x.3 x.5==(0:Int))=true:=by simpa using hc
  have hr:refPut [] x=([],entN x.p x.v x.k x.l):=by unfold refPut;rw [if_pos hc]
  rw [hr]
  refine endsN (v:=bV s (.slice none 0 0) (entN x.p x.v x.k x.l)) KPn not_laid (n:=300) (o:=([(1000,.b true)]++ff [1] true)) ⟨?_⟩ fun w' hB=>⟨hB,.inl ⟨hc,rfl⟩⟩
  unfold bV
  rw [pn0]
  simp only [Owed,c1,and_self,and_true,true_and]
  exact ⟨hx1,hx2,hx3⟩
def bookOf (B:SV) (sh:SH):Option (Int × List EntT × Prop):=match aggOf B with
 | some [.v (.int .u64 s),A]=>(listOf A sh).map fun r=>(s,r.1,r.2)
 | _=>none
def rputS:SlM:=fun args sh=>match args with
 | [B,X]=>match decX X,bookOf B sh with
  | some x,some (s,xs,p)=>some (vE (refPut xs x).1,(refPut xs x).1.length,4,46,fun a=>.tup [.agg [.v (.int .u64 s),a],.v (.int .i64 0)],fun y=>bV s y 0,p∧PutIn xs x∧(refPut xs x).2=0)
  | _,_=>none
 | _=>none
def rputE (args:List SV) (sh:SH):Option (SV × Prop):=match args with
 | [B,X]=>match decX X,bookOf B sh with
  | some x,some (s,xs,p)=>some (.tup [B,.v (.int .i64 (refPut xs x).2)],p∧PutIn xs x∧(refPut xs x).2≠0)
  | _,_=>none
 | _=>none
theorem row_closed1 {ν ν':Val} {i j:Nat} {ys:List SV} {e:TypeId} {fz:Nat × Nat} {C:Nat} {ob:Obj} {b:Nat × Nat} (hy:ys.all closedSV=true) (hi:ν i=some b) (hj:ν' j=some b) (h:OR ν i (.row ys e fz (some C)) ob):OR ν' j (.row ys e fz (some C)) ob:=by
 obtain ⟨zs,rest,rfl,hz,r,b',hb',hsz⟩:=h
 rw [hi] at hb';cases hb'
 exact ⟨zs,rest,rfl,closed_VRL hy hz,r,b,hj,hsz⟩
theorem put_calls {ν:Val} {M:Own} {w0 w:World} {sh:SH} (hr:HR ν M w0 sh w) {B X:SV} {s:Int} {xs:List EntT} {x:EntT} {p:Prop} (hx:decX X=some x) (hb:bookOf B sh=some (s,xs,p)) (hp:p) (hI:PutIn xs x) {a:List Value} (ha:VRL ν [B,X] a):
  ∃ y0,VR ν B (.agg #[.int .u64 s,y0])∧Calls Tryz.prog 17 a.toArray w (RP w s y0 (refPut xs x)):=by
 unfold bookOf at hb
 split at hb
 ·rename_i s' A hA
  obtain ⟨⟨xs',q⟩,hl,h⟩:=Option.map_eq_some_iff.1 hb
  cases h
  obtain ⟨y1,as1,rfl,q1,ha2⟩:=ha.cons_inv
  obtain ⟨y2,as2,rfl,q2,ha3⟩:=ha2.cons_inv
  obtain rfl:=ha3.nil_inv
  obtain rfl:=decX_ok hx q2
  have hB:∃ y0,y1=.agg #[.int .u64 s,y0]∧VR ν A y0:=by
   unfold aggOf at hA
   split at hA
   ·rename_i mm
    cases hA
    obtain ⟨u,rfl,hu⟩:=VR.agg_iff.1 q1
    obtain ⟨z1,u2,rfl,r1,hu2⟩:=hu.cons_inv
    obtain ⟨z2,u3,rfl,r2,hu3⟩:=hu2.cons_inv
    obtain rfl:=hu3.nil_inv
    obtain rfl:=VR.v_iff.1 r1
    exact ⟨z2,rfl,r2⟩
   ·rename_i cs
    obtain rfl:=VR.v_iff.1 q1
    have hA:=Option.some.inj hA
    match cs,hA with
    | ⟨[c1,c2]⟩,hA=>
     simp at hA
     obtain ⟨h1,h2⟩:=hA
     subst h1 h2
     exact ⟨c2,rfl,VR.v_iff.2 rfl⟩
    | ⟨[]⟩,hA=>simp at hA
    | ⟨[_]⟩,hA=>simp at hA
    | ⟨_::_::_::_⟩,hA=>simp at hA
   ·cases hA
  obtain ⟨y0,rfl,hy0⟩:=hB
  refine ⟨y0,q1,?_⟩
  rcases listOf_ok hl hp with ⟨rfl,rfl⟩ | ⟨hne,hfew,i,mk,rfl,hlk⟩
  ·obtain rfl:=VR.v_iff.1 hy0
   exact calls_bareR (E:=EPn) rfl rfl (args:=[.v (.agg #[.int .u64 s,.slice none 0 0]),.v (.agg #[.string x.p,.int .u64 x.v,.int .i64 x.k,.slice x.a x.l x.c])]) (S0:=entPn s x) (by kernel_rfl) (VRL.cons (VR.v_iff.2 rfl) (VRL.cons (VR.v_iff.2 rfl) VRL.nil)) fun cs0=>putn_walk hI
  ·obtain ⟨bb,hbb,hle,rfl⟩:=VR.sl_iff.1 hy0
   obtain ⟨_,_,b,ob,hb,ho,hor,_⟩:=hr.look hlk
   rw [hbb] at hb;cases hb
   have hle':xs'.length≤bb.2:=hle
   refine calls_readR (E:=EPu) rfl (d:=6) (l:=[bb]) (os:=[.row (cE xs') 46 (0,0) (some 4)]) rfl (by simp) (by simp) ?_ rfl (args:=[.agg [.v (.int .u64 s),.sl 0 0 xs'.length none],.v (.agg #[.string x.p,.int .u64 x.v,.int .i64 x.k,.slice x.a x.l x.c])]) (S0:=entPu (cE xs') xs'.length s x) (by kernel_rfl) (VRL.cons (VR.agg_iff.2 ⟨_,rfl,VRL.cons (VR.v_iff.2 rfl) (VRL.cons (VR.sl_iff.2 ⟨bb,rfl,hle',rfl⟩) VRL.nil)⟩) (VRL.cons (VR.v_iff.2 rfl) VRL.nil)) fun cs0=>put_walk hI hne hfew
   intro j o' b' c' h1 h2
   match j with
   | 0=>
    simp only [List.getElem?_cons_zero,Option.some.injEq] at h1 h2
    subst h1
    subst h2
    exact ⟨_,ho,row_closed1 (cE_closed xs') hbb rfl hor⟩
   | j+1=>simp at h1
 ·cases hb
theorem rput_ok {X:World→Prop}:SumOK Tryz.prog X (17,brSum (slSumM rputS) (svSum rputE)):=by
 refine SumOK.br (slSumM_ok ⟨_,Tryz.func17,by kernel_rfl,by kernel_rfl⟩ (fun args sh ys n C elem mk mv p h ν x y hv=>?_) fun args sh ys n C elem mk mv p h hp ν M w0 w a hr hX ha=>?_) (svSum_ok ⟨_,Tryz.func17,by kernel_rfl,by kernel_rfl⟩ fun args sh v p h hp ν M w0 w a hr hX ha=>?_)
 ·dsimp only [rputS] at h
  split at h
  ·split at h
   ·cases h
    exact VR.tup_iff.2 ⟨_,rfl,VRL.cons (VR.agg_iff.2 ⟨_,rfl,VRL.cons (VR.v_iff.2 rfl) (VRL.cons hv VRL.nil)⟩) (VRL.cons (VR.v_iff.2 rfl) VRL.nil)⟩
   ·cases h
  ·cases h
 ·dsimp only [rputS] at h
  split at h
  ·split at h
   ·rename_i x s xs q hx hb
    cases h
    obtain ⟨y0,_,hc⟩:=put_calls hr hx hb hp.1 hp.2.1 ha
    refine hc.mono fun e w' ⟨hB,h⟩=>⟨hB,?_⟩
    rcases h with ⟨h1,_⟩ | ⟨_,y,h2,h3⟩
    ·exact absurd hp.2.2 h1
    ·exact ⟨y,h2,h3⟩
   ·cases h
  ·cases h
 ·dsimp only [rputE] at h
  split at h
  ·split at h
   ·rename_i x s xs q hx hb
    cases h
    obtain ⟨y0,hv,hc⟩:=put_calls hr hx hb hp.1 hp.2.1 ha
    refine hc.mono fun e w' ⟨hB,h⟩=>⟨hB,?_⟩
    rcases h with ⟨_,h2⟩ | ⟨h1,_⟩
    ·exact ⟨_,h2,VR.tup_iff.2 ⟨_,rfl,VRL.cons hv (VRL.cons (VR.v_iff.2 rfl) VRL.nil)⟩⟩
    ·exact absurd h1 hp.2.2
   ·cases h
  ·cases h
def laysCl_ren:Go.Shelf.Ren:=⟨fun | 4=>87 | n=>n,fun | 22=>42 | 4=>4 | 5=>5 | n=>n,fun | n=>n⟩
theorem laysCl:Go.Proofs.SlLaysK.n4 Tryz.prog laysCl_ren where
 mixed:=by kernel_rfl
 f4:=Tryz.func87.trans (congrArg some (by kernel_rfl))
 t4:=Tryz.underlying4
 a4:=Tryz.isAgg4
 z4:=Tryz.sizeOf4
 v4:=Tryz.zeroValue4
 t22:=Tryz.underlying42
 a22:=Tryz.isAgg42
 z22:=Tryz.sizeOf42
 v22:=Tryz.zeroValue42
 t5:=Tryz.underlying5
 i5:=by kernel_rfl

def cloG (a0:Option Addr) (l0 c0:Nat) (ys:List Int):SlG:=fun args _=>match args with
 | [.v (.slice a l c)]=>some (ys.map (Value.int .u8),l,1,5,none,(a=a0∧l=l0∧c=c0)∧a≠none)
 | _=>none
def cloN:PlG:=fun args _=>match args with
 | [.v (.slice a l c)]=>some (.slice none 0 0,a=none)
 | _=>none
def lClo (a0:Option Addr) (l0 c0:Nat) (ys:List Int):List (FuncId × Sum):=[(87,brSum (slSumG (cloG a0 l0 c0 ys)) (plSumG cloN))]
noncomputable def EClo (a0:Option Addr) (l0 c0:Nat) (ys:List Int):Env:={ EP [] [] with sums:=fun f=>(lClo a0 l0 c0 ys).lookup f }
noncomputable def entClo (x:EntT) (ys:List Int):SM:=(enterS (EClo x.a x.l x.c ys) 42 [.v (.agg #[.string x.p,.int .u64 x.v,.int .i64 x.k,.slice x.a x.l x.c])] (memOf 6 0 0 [])).getD noSM
theorem cl0 (x : EntT) (ys : List Int) : endsX (EClo x.a x.l x.c ys) 42 300 (entClo x ys) ([(1000, .b true)] ++ ff (List.range 10) false) [] (.v (.agg #[.string x.p, .int .u64 x.v, .int .i64 x.k, .slice none 0 0])) = [
  Value.agg
   {
   toList :=
   [Value.string x.1, Value.int IntKind.u64 x.2, Value.int IntKind.i64 x.3, Value.slice none (0 : Nat) (0 : Nat)] :
   Array Value } =
   Value.agg
   {
   toList :=
   [Value.string x.1, Value.int IntKind.u64 x.2, Value.int IntKind.i64 x.3, Value.slice none (0 : Nat) (0 : Nat)] :
   Array Value },
  (x.3 == x.3) = true,
  x.4 = none] := by kernel_rfl
theorem cl1 (x:EntT) (ys:List Int) (m:List SV):endsO (EClo x.a x.l x.c ys) 42 300 (entClo x ys) ([(1000,.b true)]++ff (List.range 10) true) (.agg [.v (.string x.p),.v (.int .u64 x.v),.v (.int .i64 x.k),.sl 4 0 x.l none]) 4 (.row m 5 (0,0) (some 1))=[
 Value.string x.1=Value.string x.1,
 Value.int IntKind.u64 x.2=Value.int IntKind.u64 x.2,
 Value.int IntKind.i64 x.3=Value.int IntKind.i64 x.3,
 (0:Nat)=(0:Nat)∧x.5=x.5∧(none:Option Nat)=none,
 List.map SV.v (List.map (Value.int IntKind.u8) ys)=m,
 m.all closedSV=true,
 (x.3==x.3)=true,
 (x.4=x.4∧x.5=x.5∧x.6=x.6)∧x.4≠none]:=by kernel_rfl
def CellsIn (W:World) (a:Option Addr) (l:Nat) (ys:List Int):Prop:=ys.length=l∧l≤140737488355328∧∀ b,a=some b→∀ i,i<l→∀ W':World,(∀ k,k<W.heap.size→W'.heap[k]?=W.heap[k]?)→W'.cell? (b.add i)=some (.int .u8 (ys.getD i 0))
theorem bclone_ok {W:World} {a0:Option Addr} {l0 c0:Nat} {ys:List Int} (hD:CellsIn W a0 l0 ys):
  SumOK Tryz.prog (fun w=>∀ k,k<W.heap.size→w.heap[k]?=W.heap[k]?) (87,brSum (slSumG (cloG a0 l0 c0 ys)) (plSumG cloN)):=by
 refine SumOK.br (slSumG_ok ⟨_,Tryz.func87,by kernel_rfl,by kernel_rfl⟩ fun args sh zs n C elem ex p h hp ν M w0 w a hr hX ha=>?_) (plSumG_ok ⟨_,Tryz.func87,by kernel_rfl,by kernel_rfl⟩ fun args sh v p h hp ν M w0 w a hr hX ha=>?_)
 ·dsimp only [cloG] at h
  split at h
  ·rename_i a1 l1 c1
   cases h
   obtain ⟨⟨rfl,rfl,rfl⟩,hne⟩:=hp
   obtain ⟨y1,as1,rfl,q1,ha2⟩:=ha.cons_inv
   obtain rfl:=ha2.nil_inv
   obtain rfl:=VR.v_iff.1 q1
   cases a1 with
   | none=>exact absurd rfl hne
   | some b=>
    obtain ⟨h1,h2,h3⟩:=hD
    refine (Any.bytes_Clone_at laysCl b n c1 ys w h1 h2 fun i hi=>h3 b rfl i hi w hX).mono fun e w' ⟨v',he,⟨hlen,ho⟩,hv,hB⟩=>⟨hB,v',he,?_⟩
    rcases ho with ⟨h0,_⟩ | ⟨g,cap,cur,rfl,hg,hh,hnc,_,hsz,hcur⟩
    ·exact absurd h0 hv
    ·refine ⟨g,cap,cur.toList.drop n,rfl,hg,hnc,?_,?_⟩
     ·rw [hh,← hcur,Nat.mul_one,List.take_append_drop];rfl
     ·rw [← hcur,Nat.mul_one,List.take_append_drop];simpa using hsz
  ·cases h
 ·dsimp only [cloN] at h
  split at h
  ·rename_i a1 l1 c1
   cases h
   subst hp
   obtain ⟨y1,as1,rfl,q1,ha2⟩:=ha.cons_inv
   obtain rfl:=ha2.nil_inv
   obtain rfl:=VR.v_iff.1 q1
   exact (Any.bytes_Clone_nil laysCl l1 c1 w).mono fun e w' ⟨he,hw⟩=>⟨by rw [hw];exact Below.refl _ _,he⟩
  ·cases h
theorem KClo {M:Own} {w0:World} (hM:∀ z,¬ M z) {x:EntT} {ys:List Int} (hD:CellsIn w0 x.a x.l ys):Facts (EClo x.a x.l x.c ys) M w0:=
 Facts.of' (Checked.mixed Tryz.checked) (by kernel_rfl) (ExtOK.of extL rfl extRows) (SumsOK.list (X:=fun w=>∀ k,k<w0.heap.size→w.heap[k]?=w0.heap[k]?) (l:=lClo x.a x.l x.c ys) rfl (fun r h=>by
  simp only [lClo,List.mem_cons,List.not_mem_nil,or_false] at h
  rcases h with rfl
  exact bclone_ok hD) fun ν s w hr _=>fun k hk=>hr.frame k hk (hM k)) (fun f g h=>by cases h)
theorem ys_val {ν:Val} {ys:List Int} {zs:List Value} (h:VRL ν (List.map SV.v (List.map (Value.int .u8) ys)) zs):zs=ys.map (Value.int .u8):=plain_sol h (VRL.lits ν _)
theorem ys_closed (ys:List Int):(List.map SV.v (List.map (Value.int .u8) ys)).all closedSV=true:=by
 rw [List.all_eq_true];intro x hx
 obtain ⟨v,_,rfl⟩:=List.mem_map.1 hx
 rfl
def CloneIs (w0 w':World) (x:EntT) (ys:List Int) (a:Option Addr) (c:Nat) (l:Nat):Prop:=
 (x.a=none∧a=none∧l=0∧c=0)∨(x.a≠none∧l=x.l∧∃ b,a=some ⟨b,0,none⟩∧NewSl w0 w' (.slice (some ⟨b,0,none⟩) x.l c) (ys.map (Value.int .u8)) x.l 1 5)
theorem clone_calls {w:World} {x:EntT} {ys:List Int} (hD:CellsIn w x.a x.l ys):Calls Tryz.prog 42 #[.agg (eV x).toArray] w fun e w'=>Below w.heap.size w w'∧∃ a c l,e=.returned (.agg #[.string x.p,.int .u64 x.v,.int .i64 x.k,.slice a l c])∧CloneIs w w' x ys a c l:=by
 refine calls_bareR (E:=EClo x.a x.l x.c ys) rfl rfl (args:=[.v (.agg #[.string x.p,.int .u64 x.v,.int .i64 x.k,.slice x.a x.l x.c])]) (a:=[.agg (eV x).toArray]) (S0:=entClo x ys) (by kernel_rfl) (VRL.cons (VR.v_iff.2 rfl) VRL.nil) fun cs0=>?_
 by_cases ha:x.a=none
 ·refine endsN (v:=.agg #[.string x.p,.int .u64 x.v,.int .i64 x.k,.slice none 0 0]) (KClo not_laid hD) not_laid (n:=300) (o:=([(1000,.b true)]++ff (List.range 10) false)) ⟨?_⟩ fun w' hB=>⟨hB,none,0,0,rfl,.inl ⟨ha,rfl,rfl,rfl⟩⟩
  rw [cl0]
  simp only [Owed,and_self,and_true,true_and]
  exact ⟨ha,beq_self_eq_true x.k⟩
 ·refine Goes.endsO (KClo not_laid hD) (n:=300) (o:=([(1000,.b true)]++ff (List.range 10) true)) (x:=.agg [.v (.string x.p),.v (.int .u64 x.v),.v (.int .i64 x.k),.sl 4 0 x.l none]) (i:=4) (so:=.row (List.map SV.v (List.map (Value.int .u8) ys)) 5 (0,0) (some 1)) (by
   rw [cl1]
   simp only [Owed,ys_closed,and_self,and_true,true_and]
   exact ⟨ha,beq_self_eq_true x.k⟩) fun ν' w' y b ob hv hb ho hor hw hB=>?_
  have hn:w.heap.size≤b.1:=by
   rcases hw with h | h
   ·exact h
   ·exact absurd h (not_laid _)
  obtain ⟨_,_,_,_,hB,hr⟩:=hB
  obtain ⟨a,rfl,ha1⟩:=VR.agg_iff.1 hv
  obtain ⟨y1,a1,rfl,q1,ha2⟩:=ha1.cons_inv
  obtain ⟨y2,a2,rfl,q2,ha3⟩:=ha2.cons_inv
  obtain ⟨y3,a3,rfl,q3,ha4⟩:=ha3.cons_inv
  obtain ⟨y4,a4,rfl,q4,ha5⟩:=ha4.cons_inv
  obtain rfl:=ha5.nil_inv
  obtain rfl:=VR.v_iff.1 q1
  obtain rfl:=VR.v_iff.1 q2
  obtain rfl:=VR.v_iff.1 q3
  have hs:=NewSl.of_row q4 hb ho hor hn fun zs hz=>ys_val hz
  have hs2:=hs
  obtain ⟨g,c,rest,rfl,_⟩:=hs2
  exact ⟨below_of not_laid hB hr,_,_,_,rfl,.inr ⟨ha,rfl,g,rfl,hs⟩⟩
abbrev Key:=ByteArray × Int × Int × List Int
def KE (c:EntT→List Int) (e:EntT):Key:=(e.p,e.v,e.k,c e)
def KM (c:EntT→List Int) (e:EntM):Key:=KE c e.1
def dropK (p:ByteArray) (K:List Key):List Key:=K.filter fun k=>!(k.1.data.toList==p.data.toList)
def Sorted (xs:List EntT):Prop:=xs.Pairwise fun a b=>cmpN a.p b.p<0
theorem drop_key {ys:EntT→List Int} (p:ByteArray) (xs:List EntT):(dropE p xs).map (KE ys)=dropK p (xs.map (KE ys)):=by
 unfold dropE dropK;rw [List.filter_map];rfl
theorem isE_false {p:ByteArray} {e:EntT}:isE p e=false↔e.p≠p:=by
 rw [← Bool.not_eq_true,isE_iff]
theorem cmpN_self (a:ByteArray):cmpN a a=0:=by have:=cmpN_neg a a;omega
theorem Sorted.names {xs:List EntT} (h:Sorted xs):(xs.map fun e=>e.p).Nodup:=by
 unfold Sorted at h
 rw [List.nodup_iff_pairwise_ne,List.pairwise_map]
 exact h.imp fun {a b} hab e=>by rw [e,cmpN_self] at hab;exact absurd hab (by decide)
structure Inv (cm ys:EntT→List Int) (E:List EntM) (cl:Nat) (xs:List EntT):Prop where
 ok:BookOK E cl
 twin:(E.map (KM cm)).Perm (xs.map (KE ys))
 sorted:Sorted xs
 few:xs.length≤256
section
variable {E:List EntM} {cl:Nat} {xs:List EntT} {x:EntT} {cm ys:EntT→List Int}
theorem Inv.len (h:Inv cm ys E cl xs):E.length=xs.length:=by simpa using h.twin.length_eq
theorem Inv.to (h:Inv cm ys E cl xs) {e:EntT} (he:e∈xs):∃ f∈E,KM cm f=KE ys e:=by
 have:=h.twin.mem_iff.2 (List.mem_map.2 ⟨e,he,rfl⟩)
 exact List.mem_map.1 this
theorem Inv.of (h:Inv cm ys E cl xs) {f:EntM} (hf:f∈E):∃ e∈xs,KE ys e=KM cm f:=by
 have:=h.twin.mem_iff.1 (List.mem_map.2 ⟨f,hf,rfl⟩)
 exact List.mem_map.1 this
theorem key_p {f:EntM} {e:EntT} (h:KM cm f=KE ys e):f.1.p=e.p∧f.1.v=e.v∧f.1.k=e.k:=by
 simp only [KM,KE,Prod.mk.injEq] at h;exact ⟨h.1,h.2.1,h.2.2.1⟩
theorem Inv.cont {cm':EntT→List Int} (h:Inv cm ys E cl xs) (hc:∀ e∈E,cm e.1=cm' e.1):Inv cm' ys E cl xs:=
 ⟨h.ok,by
  have:E.map (KM cm')=E.map (KM cm):=List.map_congr_left fun e he=>by unfold KM KE;rw [hc e he]
  rw [this];exact h.twin,h.sorted,h.few⟩
theorem Inv.size (h:Inv cm ys E cl xs):∀ e∈xs,e.p.size≤1000000000:=fun e he=>by
 obtain ⟨f,hf,hk⟩:=h.to he
 rw [← (key_p hk).1];exact h.ok.size f hf
theorem same_name (hB:BookOK E cl) {f g:EntM} (hf:f∈E) (hg:g∈E) (h:f.1.p=g.1.p):f=g:=by
 obtain ⟨i,hi⟩:=List.getElem?_of_mem hf
 obtain ⟨j,hj⟩:=List.getElem?_of_mem hg
 have:=nodup_idx hB.names hi hj h
 subst this
 rw [hi] at hj;exact Option.some.inj hj
theorem Inv.find_hit (h:Inv cm ys E cl xs) {f:EntM} (hf:f∈E) (hp:f.1.p=x.p):(findE x.p xs).v=f.1.v∧(dropE x.p xs).length<xs.length:=by
 obtain ⟨e,he,hk⟩:=h.of hf
 have he2:isE x.p e=true:=isE_iff.2 (by rw [← hp];exact (key_p hk.symm).1.symm)
 constructor
 ·unfold findE
  cases hq:xs.find? (isE x.p) with
  | none=>rw [List.find?_eq_none] at hq;exact absurd he2 (hq e he)
  | some e'=>
   have h1:=List.mem_of_find?_eq_some hq
   have h2:=isE_iff.1 (List.find?_some hq)
   obtain ⟨f',hf',hk'⟩:=h.to h1
   have:f'=f:=same_name h.ok hf' hf (by rw [(key_p hk').1,h2,hp])
   show e'.v=_
   rw [← this];exact (key_p hk').2.1.symm
 ·refine List.length_filter_lt_length_iff_exists.2 ⟨e,he,by rw [he2];simp⟩
theorem Inv.miss (h:Inv cm ys E cl xs) (hm:∀ f∈E,f.1.p≠x.p):∀ e∈xs,e.p≠x.p:=fun e he=>by
 obtain ⟨f,hf,hk⟩:=h.to he
 rw [← (key_p hk).1];exact hm f hf
theorem find_none {p:ByteArray} (hm:∀ e∈xs,e.p≠p):findE p xs=⟨p,0,0,none,0,0⟩∧dropE p xs=xs:=by
 constructor
 ·unfold findE
  rw [List.find?_eq_none.2 fun e he=>by rw [isE_false.2 (hm e he)];simp];rfl
 ·exact List.filter_eq_self.2 fun e he=>by rw [isE_false.2 (hm e he)];rfl
theorem insE_perm (x:EntT):∀ l:List EntT,(insE x l).Perm (x::l)
 | []=>List.Perm.refl _
 | e::l=>by
  unfold insE
  split
  ·exact List.Perm.refl _
  ·exact ((insE_perm x l).cons e).trans (List.Perm.swap x e l)
theorem insE_sorted:∀ {l:List EntT},Sorted l→(∀ e∈l,e.p≠x.p)→Sorted (insE x l)
 | [],_,_=>by simp [insE,Sorted]
 | e::l,h,hx=>by
  unfold Sorted at h
  rw [List.pairwise_cons] at h
  unfold insE
  split
  ·rename_i hc
   have h0:cmpN x.p e.p<0:=by rw [cmpN_neg];omega
   unfold Sorted
   rw [List.pairwise_cons,List.pairwise_cons]
   refine ⟨fun b hb=>?_,h⟩
   rcases List.mem_cons.1 hb with rfl | hb
   ·exact h0
   ·exact cmpN_trans h0 (h.1 b hb)
  ·rename_i hc
   have h1:cmpN e.p x.p≠0:=fun h0=>hx e List.mem_cons_self (cmpN_zero h0)
   unfold Sorted
   rw [List.pairwise_cons]
   refine ⟨fun b hb=>?_,insE_sorted h.2 fun z hz=>hx z (List.mem_cons_of_mem _ hz)⟩
   rcases List.mem_cons.1 ((insE_perm x l).mem_iff.1 hb) with rfl | hb
   ·omega
   ·exact h.1 b hb
theorem Sorted.drop (h:Sorted xs) (p:ByteArray):Sorted (dropE p xs):=List.Pairwise.sublist List.filter_sublist h
theorem Inv.new {E':List EntM} {cl':Nat} {L:List EntT} (hB:BookOK E' cl') (ht:(E'.map (KM cm)).Perm (KE ys x::L.map (KE ys))) (hs:Sorted L) (hx:∀ e∈L,e.p≠x.p) (hl:L.length<256):Inv cm ys E' cl' (insE x L):=
 ⟨hB,ht.trans (((insE_perm x L).map (KE ys)).symm),insE_sorted hs hx,by rw [insE_len];omega⟩
theorem drop_no {p:ByteArray}:∀ e∈dropE p xs,e.p≠p:=fun e he=>by
 have:=(List.mem_filter.1 he).2
 exact isE_false.1 (by simpa using this)
theorem bestL_spec (hs:Sorted xs):∀ i,i≤xs.length→match bestL (xs.take i) with
  | none=>∀ y∈xs.take i,y.k≠0
  | some e=>e∈xs.take i∧e.k=0∧∀ y∈xs.take i,y.k=0→¬ (e.v>y.v∨(e.v=y.v∧cmpN y.p e.p<0))
 | 0,_=>by
  rw [List.take_zero]
  show ∀ y∈[],_
  intro y hy;cases hy
 | i+1,hi=>by
  have ih:=bestL_spec hs i (by omega)
  have hlt:i<xs.length:=by omega
  rw [bestL_snoc hlt]
  have ht:=List.take_succ_eq_append_getElem hlt
  have hbef:∀ y∈xs.take i,cmpN y.p xs[i].p<0:=fun y hy=>by
   have hsub:Sorted (xs.take (i+1)):=List.Pairwise.sublist (List.take_sublist _ _) hs
   rw [ht] at hsub
   exact (List.pairwise_append.1 hsub).2.2 y hy _ (by simp)
  have hin:∀ y,y∈xs.take (i+1)↔y∈xs.take i∨y=xs[i]:=fun y=>by rw [ht,List.mem_append,List.mem_singleton]
  unfold bestS
  by_cases hk:xs[i].k=0
  ·rw [if_pos hk]
   cases hb:bestL (xs.take i) with
   | none=>
    rw [hb] at ih
    refine ⟨(hin _).2 (.inr rfl),hk,fun y hy hy0=>?_⟩
    rcases (hin y).1 hy with h | h
    ·exact absurd hy0 (ih y h)
    ·rw [h];rintro (h | ⟨_,h⟩)
     ·omega
     ·rw [cmpN_self] at h;omega
   | some f=>
    rw [hb] at ih
    obtain ⟨h1,h2,h3⟩:=ih
    by_cases hv:xs[i].v<f.v
    ·dsimp only
     rw [if_pos hv]
     refine ⟨(hin _).2 (.inr rfl),hk,fun y hy hy0=>?_⟩
     rcases (hin y).1 hy with h | h
     ·have:=h3 y h hy0
      rintro (h | ⟨h,_⟩)
      ·exact this (.inl (by omega))
      ·exact this (.inl (by omega))
     ·rw [h];rintro (h | ⟨_,h⟩)
      ·omega
      ·rw [cmpN_self] at h;omega
    ·dsimp only
     rw [if_neg hv]
     refine ⟨(hin _).2 (.inl h1),h2,fun y hy hy0=>?_⟩
     rcases (hin y).1 hy with h | h
     ·exact h3 y h hy0
     ·rw [h]
      have hc:=hbef f h1
      have hn:=cmpN_neg f.p xs[i].p
      rintro (h | ⟨_,h⟩)
      ·exact hv h
      ·omega
  ·rw [if_neg hk]
   cases hb:bestL (xs.take i) with
   | none=>
    rw [hb] at ih
    intro y hy
    rcases (hin y).1 hy with h | h
    ·exact ih y h
    ·rw [h];exact hk
   | some f=>
    rw [hb] at ih
    obtain ⟨h1,h2,h3⟩:=ih
    refine ⟨(hin _).2 (.inl h1),h2,fun y hy hy0=>?_⟩
    rcases (hin y).1 hy with h | h
    ·exact h3 y h hy0
    ·rw [h] at hy0;exact absurd hy0 hk
theorem Inv.best_none (h:Inv cm ys E cl xs) (hb:bestL xs=none):BestAll E ⟨#[]⟩:=by
 have hs:=bestL_spec h.sorted xs.length (Nat.le_refl _)
 rw [List.take_length,hb] at hs
 refine .inl ⟨rfl,fun f hf=>?_⟩
 obtain ⟨e,he,hk⟩:=h.of hf
 rw [(key_p hk.symm).2.2];exact hs e he
theorem Inv.best_some (h:Inv cm ys E cl xs) {e:EntT} (hb:bestL xs=some e):BestAll E e.p∧e∈xs:=by
 have hs:=bestL_spec h.sorted xs.length (Nat.le_refl _)
 rw [List.take_length,hb] at hs
 obtain ⟨h1,h2,h3⟩:=hs
 obtain ⟨f,hf,hk⟩:=h.to h1
 refine ⟨.inr ⟨f,hf,(key_p hk).1,by rw [(key_p hk).2.2];exact h2,fun g hg hg0 hbt=>?_⟩,h1⟩
 obtain ⟨y,hy,hk2⟩:=h.of hg
 have hk2:=key_p hk2.symm
 have hk:=key_p hk
 refine h3 y hy (by rw [← hk2.2.2];exact hg0) ?_
 unfold beats at hbt
 rw [hk.1,hk.2.1,hk2.1,hk2.2.1] at hbt
 exact hbt
theorem modify_perm {α:Type} {g:α→α}:∀ {l:List α} {j:Nat} {f:α},l[j]?=some f→(l.modify j g).Perm (g f::l.eraseIdx j)
 | [],j,f,h=>by simp at h
 | a::l,0,f,h=>by
  simp at h;subst h
  simp
 | a::l,j+1,f,h=>by
  have ih:=modify_perm (g:=g) (l:=l) (j:=j) (f:=f) (by simpa using h)
  simp only [List.modify_succ_cons,List.eraseIdx_cons_succ]
  exact (ih.cons a).trans (List.Perm.swap _ _ _)
theorem erase_drop:∀ {E:List EntM} {j:Nat} {f:EntM},(E.map fun e=>e.1.p).Nodup→E[j]?=some f→(E.eraseIdx j).map (KM cm)=dropK f.1.p (E.map (KM cm))
 | [],j,f,_,h=>by simp at h
 | a::l,0,f,hn,h=>by
  simp at h;subst h
  rw [List.map_cons,List.nodup_cons] at hn
  unfold dropK
  rw [List.eraseIdx_cons_zero,List.map_cons,List.filter_cons_of_neg (by simp [KM,KE])]
  refine (List.filter_eq_self.2 fun k hk=>?_).symm
  obtain ⟨g,hg,rfl⟩:=List.mem_map.1 hk
  have:g.1.p≠a.1.p:=fun e=>hn.1 (List.mem_map.2 ⟨g,hg,e⟩)
  have:=isE_false.2 this
  unfold isE at this
  show (!(g.1.p.data.toList==a.1.p.data.toList))=true
  rw [this];rfl
 | a::l,j+1,f,hn,h=>by
  rw [List.map_cons,List.nodup_cons] at hn
  have hf:l[j]?=some f:=by simpa using h
  have ih:=erase_drop hn.2 hf
  have hmem:=List.mem_of_getElem? hf
  have:a.1.p≠f.1.p:=fun e=>hn.1 (List.mem_map.2 ⟨f,hmem,e.symm⟩)
  have:=isE_false.2 this
  unfold isE at this
  unfold dropK at ih ⊢
  rw [List.eraseIdx_cons_succ,List.map_cons,List.map_cons,ih,List.filter_cons_of_pos (by show (!(a.1.p.data.toList==f.1.p.data.toList))=true;rw [this];rfl)]
theorem BookOK.sub {E':List EntM} (h:BookOK E cl) (hs:E'.Sublist E):BookOK E' cl:=
 ⟨h.names.sublist (hs.map _),h.borns.sublist (hs.map _),fun e he=>h.born e (hs.mem he),fun e he=>h.full e (hs.mem he),fun e he=>h.size e (hs.mem he)⟩
theorem BookOK.snoc (h:BookOK E cl) {y:EntT} (hm:∀ e∈E,e.1.p≠y.p) (hf:y.p≠⟨#[]⟩) (hz:y.p.size≤1000000000):BookOK (E++[(y,cl)]) (cl+1):=by
 refine ⟨?_,?_,fun e he=>?_,fun e he=>?_,fun e he=>?_⟩
 ·rw [List.map_append,List.nodup_append]
  refine ⟨h.names,by simp,fun a ha b hb=>?_⟩
  obtain ⟨e,he,rfl⟩:=List.mem_map.1 ha
  have:b=y.p:=by simpa using hb
  rw [this];exact hm e he
 ·rw [List.map_append,List.nodup_append]
  refine ⟨h.borns,by simp,fun a ha b hb=>?_⟩
  obtain ⟨e,he,rfl⟩:=List.mem_map.1 ha
  have:b=cl:=by simpa using hb
  have:=h.born e he
  omega
 ·rcases List.mem_append.1 he with he | he
  ·have:=h.born e he;omega
  ·have:e=(y,cl):=by simpa using he
   subst this;show cl<cl+1;omega
 ·rcases List.mem_append.1 he with he | he
  ·exact h.full e he
  ·have:e=(y,cl):=by simpa using he
   subst this;exact hf
 ·rcases List.mem_append.1 he with he | he
  ·exact h.size e he
  ·have:e=(y,cl):=by simpa using he
   subst this;exact hz
theorem modify_map {α β:Type} {h:α→β} {g:α→α}:∀ {l:List α} {j:Nat} {f:α},l[j]?=some f→h (g f)=h f→(l.modify j g).map h=l.map h
 | [],j,f,e,_=>by simp at e
 | a::l,0,f,e,k=>by simp at e;subst e;simp [k]
 | a::l,j+1,f,e,k=>by simp [modify_map (l:=l) (j:=j) (f:=f) (by simpa using e) k]
theorem modify_mem {α:Type} {g:α→α} {l:List α} {j:Nat} {f e:α} (h:l[j]?=some f) (he:e∈l.modify j g):e=g f∨e∈l:=by
 rcases List.mem_cons.1 ((modify_perm h).mem_iff.1 he) with h | h
 ·exact .inl h
 ·exact .inr (List.mem_of_mem_eraseIdx h)
theorem BookOK.mod (h:BookOK E cl) {j:Nat} {f:EntM} {y:EntT} (hf:E[j]?=some f) (hp:y.p=f.1.p):BookOK (E.modify j fun e=>(y,e.2)) cl:=by
 have hmem:=List.mem_of_getElem? hf
 refine ⟨?_,?_,fun e he=>?_,fun e he=>?_,fun e he=>?_⟩
 ·rw [modify_map hf (by exact hp)];exact h.names
 ·rw [modify_map hf (by rfl)];exact h.borns
 ·rcases modify_mem hf he with rfl | he
  ·exact h.born f hmem
  ·exact h.born e he
 ·rcases modify_mem hf he with rfl | he
  ·show y.p≠_;rw [hp];exact h.full f hmem
  ·exact h.full e he
 ·rcases modify_mem hf he with rfl | he
  ·show y.p.size≤_;rw [hp];exact h.size f hmem
  ·exact h.size e he
end
def cloS (D:List EntT) (ys:EntT→List Int):SlM:=fun args _=>match args with
 | [X]=>match decX X with
  | some x=>some ((ys x).map (Value.int .u8),x.l,1,5,fun a=>.agg [.v (.string x.p),.v (.int .u64 x.v),.v (.int .i64 x.k),a],fun a=>.agg #[.string x.p,.int .u64 x.v,.int .i64 x.k,a],x∈D∧x.a≠none)
  | none=>none
 | _=>none
def cloE (D:List EntT) (args:List SV) (_:SH):Option (SV × Prop):=match args with
 | [X]=>match decX X with
  | some x=>some (.agg [.v (.string x.p),.v (.int .u64 x.v),.v (.int .i64 x.k),.v (.slice none 0 0)],x∈D∧x.a=none)
  | none=>none
 | _=>none
noncomputable def lPl (D:List EntT) (ys:EntT→List Int):List (FuncId × Sum):=[(17,brSum (slSumM rputS) (svSum rputE)),(38,pureSum echkPS),(41,plSumG spareS),(42,brSum (slSumM (cloS D ys)) (svSum (cloE D)))]
noncomputable def EPl (D:List EntT) (ys:EntT→List Int):Env:={ EP [] [] with sums:=fun f=>(lPl D ys).lookup f }
noncomputable def entPl (D:List EntT) (ys:EntT→List Int) (l:List SV) (off n c:Nat):SM:=(enterS (EPl D ys) 7 [.sl 0 off n (some c)] (memOf 6 1 0 [lkE l])).getD noSM
noncomputable def todoPl:List SI:=todoL (EPl [] fun _=>[]) 2 60 (entPl [] (fun _=>[]) [] 0 0 0) [(1000,.b true)]
noncomputable def hdPl (off n c:Nat) (i:Int):SF:={ fn:=7,tm:=tmOf 38 6 ([.junk,.junk,.junk,.ptr 1 0,.junk,.ptr 2 0,.ptr 3 0]++List.replicate 9 .junk++[.sl 0 off n (some c),.v (.int .i64 n),.v (.int .i64 i)]++List.replicate 19 .junk),todo:=todoPl,defers:=[],ret:=false,kind:=.normal,ro:=none }
def bk0:Option (SO × Bool):=some (.row [.v (.int .u64 0),.v (.map none)] 84 (0,0) none,true)
def bk1:Option (SO × Bool):=some (.row [.v (.int .u64 0),.map 4] 84 (0,0) none,true)
def rb1 (k:Nat):Option (SO × Bool):=some (.row [.v (.int .u64 0),.sl 5 0 k none] 30 (0,0) none,true)
def obj0 (l:List SV):List (Option (SO × Bool)):=[lkE l,zbO,bk0,zbO]
def mapW (es:List (SV × SV × Nat)) (cl:Nat):Option (SO × Bool):=some (.map es cl,true)
def obj1 (l:List SV) (es:List (SV × SV × Nat)) (cl:Nat) (m:List SV) (k:Nat):List (Option (SO × Bool)):=[lkE l,zbO,bk1,rb1 k,mapW es cl,rowsE m]
theorem pl0 (D:List EntT) (ys:EntT→List Int) (l:List SV) (off n c:Nat):reach (EPl D ys) 2 60 (entPl D ys l off n c) [(1000,.b true)] [(0,0),(1,1),(2,2),(3,3)] [0] (hdPl off n c 0) 6 (obj0 l)=[
 (0:Nat)=(0:Nat),
 (0:Nat)=(0:Nat),
 (0:Nat)=(0:Nat),
 off=off∧n=n∧some c=some c,
 Value.int IntKind.i64 (↑n:Int)=Value.int IntKind.i64 (↑n:Int),
 Value.int IntKind.i64 (0:Int)=Value.int IntKind.i64 (0:Int),
 l=l,
 l.all closedSV=true,
 Value.int IntKind.u64 (0:Int)=Value.int IntKind.u64 (0:Int),
 Value.slice none (0:Nat) (0:Nat)=Value.slice none (0:Nat) (0:Nat),
 Value.int IntKind.u64 (0:Int)=Value.int IntKind.u64 (0:Int),
 Value.map none=Value.map none,
 Value.int IntKind.u64 (0:Int)=Value.int IntKind.u64 (0:Int),
 Value.slice none (0:Nat) (0:Nat)=Value.slice none (0:Nat) (0:Nat)]:=by kernel_rfl
theorem pl1 (D : List EntT) (ys : EntT → List Int) (l : List SV) (off n c : Nat) (x : EntT) (i i' : Int) : reach (EPl D ys) 2 300 (SM.at (hdPl off n c i) 6 (obj0 l)) (ff [0] true ++ [(2, .cells (eC x))] ++ ff [3] false ++ ff [6] true ++ ff [7] false) [(0, 0), (1, 1), (2, 2), (3, 3)] [0] (hdPl off n c i') 6 (obj0 l) = [
  (0 : Nat) = (0 : Nat),
  (0 : Nat) = (0 : Nat),
  (0 : Nat) = (0 : Nat),
  off = off ∧ n = n ∧ some c = some c,
  Value.int IntKind.i64 (↑n : Int) = Value.int IntKind.i64 (↑n : Int),
  Value.int IntKind.i64 (IntKind.i64.wrap (i + (1 : Int))) = Value.int IntKind.i64 i',
  l = l,
  l.all closedSV = true,
  Value.int IntKind.u64 (0 : Int) = Value.int IntKind.u64 (0 : Int),
  Value.slice none (0 : Nat) (0 : Nat) = Value.slice none (0 : Nat) (0 : Nat),
  Value.int IntKind.u64 (0 : Int) = Value.int IntKind.u64 (0 : Int),
  Value.map none = Value.map none,
  Value.int IntKind.u64 (0 : Int) = Value.int IntKind.u64 (0 : Int),
  Value.slice none (0 : Nat) (0 : Nat) = Value.slice none (0 : Nat) (0 : Nat),
  (!entN x.1 x.2 x.3 x.5 ==
   (refPut ([], True).fst { p := x.p, v := x.v, k := x.k, a := x.a, l := x.l, c := x.c : EntT }).2) =
   false,
  (!entN x.1 x.2 x.3 x.5 == (0 : Int)) = true,
  x.1.size ≤ (1000000000 : Nat) ∧ (0 : Int) ≤ x.2 ∧ x.2 < (18446744073709551616 : Int),
  True ∧
   PutIn [] { p := x.1, v := x.2, k := x.3, a := x.4, l := x.5, c := x.6 : EntT } ∧
   (refPut ([], True).fst { p := x.p, v := x.v, k := x.k, a := x.a, l := x.l, c := x.c : EntT }).2 ≠ (0 : Int),
  List.take (4 : Nat) (List.drop (off + i.toNat * (4 : Nat)) l) = eC x ∧
   (eC x).length = (4 : Nat),
  inRange i n = true,
  decide (i < (↑n : Int)) = true] := by kernel_rfl
theorem pl2 (D : List EntT) (ys : EntT → List Int) (l : List SV) (off n c : Nat) (x : EntT) (i i' : Int) (es' : List (SV × SV × Nat)) (cl' k : Nat) (m : List SV) (q : List SV) (b : Nat × Nat) : reachF (EPl D ys) 2 400 (SM.at (hdPl off n c i) 6 (obj0 l)) (ff [0] true ++ [(2, .cells (eC x))] ++ ff [3] true ++ ff [6] false ++ ff [23] true) [(0, 0), (1, 1), (2, 2), (3, 3), (4, 10), (5, 5)] [0, 4, 5] (hdPl off n c i') 6 (obj1 l es' cl' m k) 10 11 (.row q 5 (0, 0) (some 1)) b = [
  List.map SV.v
   (List.map (Value.int IntKind.u8) (ys { p := x.1, v := x.2, k := x.3, a := x.4, l := x.5, c := x.6 : EntT })) =
   q,
  q.all closedSV = true,
  (0 : Nat) = (0 : Nat),
  (0 : Nat) = (0 : Nat),
  (0 : Nat) = (0 : Nat),
  off = off ∧ n = n ∧ some c = some c,
  Value.int IntKind.i64 (↑n : Int) = Value.int IntKind.i64 (↑n : Int),
  Value.int IntKind.i64 (IntKind.i64.wrap (i + (1 : Int))) = Value.int IntKind.i64 i',
  l = l,
  l.all closedSV = true,
  Value.int IntKind.u64 (0 : Int) = Value.int IntKind.u64 (0 : Int),
  Value.slice none (0 : Nat) (0 : Nat) = Value.slice none (0 : Nat) (0 : Nat),
  Value.int IntKind.u64 (0 : Int) = Value.int IntKind.u64 (0 : Int),
  Value.int IntKind.u64 (0 : Int) = Value.int IntKind.u64 (0 : Int),
  (0 : Nat) = (0 : Nat) ∧
   (refPut ([], True).fst { p := x.p, v := x.v, k := x.k, a := x.a, l := x.l, c := x.c : EntT }).1.length = k ∧ (none : Option Nat) = none,
  (1 : Nat) = cl',
  closeM (11 : Nat) b ([] ++ [(SV.v (Value.string x.p), SV.agg [SV.v (Value.string x.p), SV.v (Value.int IntKind.u64 x.v), SV.v (Value.int IntKind.i64 x.k), SV.sl 11 0 x.l none], 0)]) = es',
  (es'.all fun e => closedE e.fst && closedE e.snd.fst) = true,
  List.map SV.v (vE (refPut ([], True).fst { p := x.p, v := x.v, k := x.k, a := x.a, l := x.l, c := x.c : EntT }).1) = m,
  m.all closedSV = true,
  (x.1 == x.1) = true,
  List.Mem { p := x.1, v := x.2, k := x.3, a := x.4, l := x.5, c := x.6 : EntT } D ∧ x.4 ≠ none,
  (!entN x.1 x.2 x.3 x.5 == (0 : Int)) = false,
  x.1.size ≤ (1000000000 : Nat) ∧ (0 : Int) ≤ x.2 ∧ x.2 < (18446744073709551616 : Int),
  True ∧
   PutIn [] { p := x.1, v := x.2, k := x.3, a := x.4, l := x.5, c := x.6 : EntT } ∧
   (refPut ([], True).fst { p := x.p, v := x.v, k := x.k, a := x.a, l := x.l, c := x.c : EntT }).2 = (0 : Int),
  List.take (4 : Nat) (List.drop (off + i.toNat * (4 : Nat)) l) = eC x ∧
   (eC x).length = (4 : Nat),
  inRange i n = true,
  decide (i < (↑n : Int)) = true] := by kernel_rfl
theorem pl3 (D : List EntT) (ys : EntT → List Int) (l : List SV) (off n c : Nat) (x : EntT) (i i' : Int) (es' : List (SV × SV × Nat)) (cl' k : Nat) (m : List SV) : reach (EPl D ys) 2 400 (SM.at (hdPl off n c i) 6 (obj0 l)) (ff [0] true ++ [(2, .cells (eC x))] ++ ff [3] true ++ ff [6] false ++ ff [23] false) [(0, 0), (1, 1), (2, 2), (3, 3), (4, 10), (5, 5)] [0, 4, 5] (hdPl off n c i') 6 (obj1 l es' cl' m k) = [
  (0 : Nat) = (0 : Nat),
  (0 : Nat) = (0 : Nat),
  (0 : Nat) = (0 : Nat),
  off = off ∧ n = n ∧ some c = some c,
  Value.int IntKind.i64 (↑n : Int) = Value.int IntKind.i64 (↑n : Int),
  Value.int IntKind.i64 (IntKind.i64.wrap (i + (1 : Int))) = Value.int IntKind.i64 i',
  l = l,
  l.all closedSV = true,
  Value.int IntKind.u64 (0 : Int) = Value.int IntKind.u64 (0 : Int),
  Value.slice none (0 : Nat) (0 : Nat) = Value.slice none (0 : Nat) (0 : Nat),
  Value.int IntKind.u64 (0 : Int) = Value.int IntKind.u64 (0 : Int),
  Value.int IntKind.u64 (0 : Int) = Value.int IntKind.u64 (0 : Int),
  (0 : Nat) = (0 : Nat) ∧
   (refPut ([], True).fst { p := x.p, v := x.v, k := x.k, a := x.a, l := x.l, c := x.c : EntT }).1.length = k ∧ (none : Option Nat) = none,
  (1 : Nat) = cl',
  ([] ++ [(SV.v (Value.string x.p), SV.agg [SV.v (Value.string x.p), SV.v (Value.int IntKind.u64 x.v), SV.v (Value.int IntKind.i64 x.k), SV.v (Value.slice none 0 0)], 0)]) = es',
  (es'.all fun e => closedE e.fst && closedE e.snd.fst) = true,
  List.map SV.v (vE (refPut ([], True).fst { p := x.p, v := x.v, k := x.k, a := x.a, l := x.l, c := x.c : EntT }).1) = m,
  m.all closedSV = true,
  (x.1 == x.1) = true,
  List.Mem { p := x.1, v := x.2, k := x.3, a := x.4, l := x.5, c := x.6 : EntT } D ∧ x.4 = none,
  (!entN x.1 x.2 x.3 x.5 == (0 : Int)) = false,
  x.1.size ≤ (1000000000 : Nat) ∧ (0 : Int) ≤ x.2 ∧ x.2 < (18446744073709551616 : Int),
  True ∧
   PutIn [] { p := x.1, v := x.2, k := x.3, a := x.4, l := x.5, c := x.6 : EntT } ∧
   (refPut ([], True).fst { p := x.p, v := x.v, k := x.k, a := x.a, l := x.l, c := x.c : EntT }).2 = (0 : Int),
  List.take (4 : Nat) (List.drop (off + i.toNat * (4 : Nat)) l) = eC x ∧
   (eC x).length = (4 : Nat),
  inRange i n = true,
  decide (i < (↑n : Int)) = true] := by kernel_rfl
theorem pm1 (D : List EntT) (ys : EntT → List Int) (l m m' : List SV) (off n c k k' j : Nat) (x f g : EntT) (i i' : Int) (es es' : List (SV × SV × Nat)) (cl cl' born : Nat) : reach (EPl D ys) 2 400 (SM.at (hdPl off n c i) 6 (obj1 l es cl m k)) (ff [0] true ++ [(2, .cells (eC x))] ++ ff [3] false ++ ff [6] true ++ ff [7] false) [(0, 0), (1, 1), (2, 2), (3, 3), (4, 4), (5, 5)] [0, 4, 5] (hdPl off n c i') 6 (obj1 l es' cl' m' k') = [
  (0 : Nat) = (0 : Nat),
  (0 : Nat) = (0 : Nat),
  (0 : Nat) = (0 : Nat),
  off = off ∧ n = n ∧ some c = some c,
  Value.int IntKind.i64 (↑n : Int) = Value.int IntKind.i64 (↑n : Int),
  Value.int IntKind.i64 (IntKind.i64.wrap (i + (1 : Int))) = Value.int IntKind.i64 i',
  l = l,
  l.all closedSV = true,
  Value.int IntKind.u64 (0 : Int) = Value.int IntKind.u64 (0 : Int),
  Value.slice none (0 : Nat) (0 : Nat) = Value.slice none (0 : Nat) (0 : Nat),
  Value.int IntKind.u64 (0 : Int) = Value.int IntKind.u64 (0 : Int),
  Value.int IntKind.u64 (0 : Int) = Value.int IntKind.u64 (0 : Int),
  (0 : Nat) = (0 : Nat) ∧ k = k' ∧ (none : Option Nat) = none,
  cl = cl',
  es = es',
  (es'.all fun e => closedE e.fst && closedE e.snd.fst) = true,
  m = m',
  m'.all closedSV = true,
  (!entN x.1 x.2 x.3 x.5 ==
   (refPut (entsOf m k, (46 : TypeId) = (46 : TypeId) ∧ HoldsE m k (entsOf m k) ∧ entsOf m k ≠ []).fst
   { p := x.p, v := x.v, k := x.k, a := x.a, l := x.l, c := x.c : EntT }).2) =
   false,
  (!entN x.1 x.2 x.3 x.5 == (0 : Int)) = true,
  x.1.size ≤ (1000000000 : Nat) ∧ (0 : Int) ≤ x.2 ∧ x.2 < (18446744073709551616 : Int),
  ((46 : Nat) = (46 : Nat) ∧ HoldsE m k (entsOf m k) ∧ entsOf m k ≠ []) ∧
   PutIn (entsOf m k) { p := x.1, v := x.2, k := x.3, a := x.4, l := x.5, c := x.6 : EntT } ∧
   (refPut (entsOf m k, (46 : TypeId) = (46 : TypeId) ∧ HoldsE m k (entsOf m k) ∧ entsOf m k ≠ []).fst
   { p := x.p, v := x.v, k := x.k, a := x.a, l := x.l, c := x.c : EntT }).2 ≠
   (0 : Int),
  List.take (4 : Nat) (List.drop (off + i.toNat * (4 : Nat)) l) = eC x ∧
   (eC x).length = (4 : Nat),
  inRange i n = true,
  decide (i < (↑n : Int)) = true] := by kernel_rfl
theorem pm2 (D : List EntT) (ys : EntT → List Int) (l m m' : List SV) (off n c k k' j : Nat) (x f g : EntT) (i i' : Int) (es es' : List (SV × SV × Nat)) (cl cl' born : Nat) : reach (EPl D ys) 2 400 (SM.at (hdPl off n c i) 6 (obj1 l es cl m k)) (ff [0] true ++ [(2, .cells (eC x))] ++ ff [3, 6] false ++ [(8, .hit j (.agg [.v (.string x.p), .v (.int .u64 f.v), .v (.int .i64 f.k), .v (.slice f.a f.l f.c)]) born)] ++ ff [14] true ++ ff [15] false) [(0, 0), (1, 1), (2, 2), (3, 3), (4, 4), (5, 5)] [0, 4, 5] (hdPl off n c i') 6 (obj1 l es' cl' m' k') = [
  (0 : Nat) = (0 : Nat),
  (0 : Nat) = (0 : Nat),
  (0 : Nat) = (0 : Nat),
  off = off ∧ n = n ∧ some c = some c,
  Value.int IntKind.i64 (↑n : Int) = Value.int IntKind.i64 (↑n : Int),
  Value.int IntKind.i64 (IntKind.i64.wrap (i + (1 : Int))) = Value.int IntKind.i64 i',
  l = l,
  l.all closedSV = true,
  Value.int IntKind.u64 (0 : Int) = Value.int IntKind.u64 (0 : Int),
  Value.slice none (0 : Nat) (0 : Nat) = Value.slice none (0 : Nat) (0 : Nat),
  Value.int IntKind.u64 (0 : Int) = Value.int IntKind.u64 (0 : Int),
  Value.int IntKind.u64 (0 : Int) = Value.int IntKind.u64 (0 : Int),
  (0 : Nat) = (0 : Nat) ∧ k = k' ∧ (none : Option Nat) = none,
  cl = cl',
  es = es',
  (es'.all fun e => closedE e.fst && closedE e.snd.fst) = true,
  m = m',
  m'.all closedSV = true,
  (!(31 : Int) ==
   (refPut (entsOf m k, (46 : TypeId) = (46 : TypeId) ∧ HoldsE m k (entsOf m k) ∧ entsOf m k ≠ []).fst
   { p := x.p, v := x.v, k := x.k, a := x.a, l := x.l, c := x.c : EntT }).2) =
   false,
  (!decide (x.2 > f.2)) = true,
  (∀ (e : SV × SV × Nat), e ∈ List.take j es → keyNot x.p e.fst) ∧
   es[j]? =
   some
   (SV.v (Value.string x.1),
   SV.agg
   [SV.v (Value.string x.1), SV.v (Value.int IntKind.u64 f.2), SV.v (Value.int IntKind.i64 f.3),
   SV.v (Value.slice f.4 f.5 f.6)],
   born),
  (!entN x.1 x.2 x.3 x.5 == (0 : Int)) = false,
  x.1.size ≤ (1000000000 : Nat) ∧ (0 : Int) ≤ x.2 ∧ x.2 < (18446744073709551616 : Int),
  ((46 : Nat) = (46 : Nat) ∧ HoldsE m k (entsOf m k) ∧ entsOf m k ≠ []) ∧
   PutIn (entsOf m k) { p := x.1, v := x.2, k := x.3, a := x.4, l := x.5, c := x.6 : EntT } ∧
   (refPut (entsOf m k, (46 : TypeId) = (46 : TypeId) ∧ HoldsE m k (entsOf m k) ∧ entsOf m k ≠ []).fst
   { p := x.p, v := x.v, k := x.k, a := x.a, l := x.l, c := x.c : EntT }).2 ≠
   (0 : Int),
  List.take (4 : Nat) (List.drop (off + i.toNat * (4 : Nat)) l) = eC x ∧
   (eC x).length = (4 : Nat),
  inRange i n = true,
  decide (i < (↑n : Int)) = true] := by kernel_rfl
theorem pm3 (D : List EntT) (ys : EntT → List Int) (l m m' : List SV) (off n c k k' j : Nat) (x f g : EntT) (i i' : Int) (es es' : List (SV × SV × Nat)) (cl cl' born : Nat) : reach (EPl D ys) 2 400 (SM.at (hdPl off n c i) 6 (obj1 l es cl m k)) (ff [0] true ++ [(2, .cells (eC x))] ++ ff [3, 6] false ++ [(8, .miss)] ++ ff [22, 24] true ++ ff [25] false) [(0, 0), (1, 1), (2, 2), (3, 3), (4, 4), (5, 5)] [0, 4, 5] (hdPl off n c i') 6 (obj1 l es' cl' m' k') = [
  (0 : Nat) = (0 : Nat),
  (0 : Nat) = (0 : Nat),
  (0 : Nat) = (0 : Nat),
  off = off ∧ n = n ∧ some c = some c,
  Value.int IntKind.i64 (↑n : Int) = Value.int IntKind.i64 (↑n : Int),
  Value.int IntKind.i64 (IntKind.i64.wrap (i + (1 : Int))) = Value.int IntKind.i64 i',
  l = l,
  l.all closedSV = true,
  Value.int IntKind.u64 (0 : Int) = Value.int IntKind.u64 (0 : Int),
  Value.slice none (0 : Nat) (0 : Nat) = Value.slice none (0 : Nat) (0 : Nat),
  Value.int IntKind.u64 (0 : Int) = Value.int IntKind.u64 (0 : Int),
  Value.int IntKind.u64 (0 : Int) = Value.int IntKind.u64 (0 : Int),
  (0 : Nat) = (0 : Nat) ∧ k = k' ∧ (none : Option Nat) = none,
  cl = cl',
  es = es',
  (es'.all fun e => closedE e.fst && closedE e.snd.fst) = true,
  m = m',
  m'.all closedSV = true,
  (!(24 : Int) ==
   (refPut (entsOf m k, (46 : TypeId) = (46 : TypeId) ∧ HoldsE m k (entsOf m k) ∧ entsOf m k ≠ []).fst
   { p := x.p, v := x.v, k := x.k, a := x.a, l := x.l, c := x.c : EntT }).2) =
   false,
  (!!(bestG es).toList == { data := { toList := [] : Array UInt8 } : ByteArray }.toList) = true,
  (84 : Nat) = (84 : Nat) ∧ BookIn es cl,
  decide ((↑es.length : Int) ≥ (256 : Int)) = true,
  ∀ (e : SV × SV × Nat), e ∈ es → keyNot x.p e.fst,
  (!entN x.1 x.2 x.3 x.5 == (0 : Int)) = false,
  x.1.size ≤ (1000000000 : Nat) ∧ (0 : Int) ≤ x.2 ∧ x.2 < (18446744073709551616 : Int),
  ((46 : Nat) = (46 : Nat) ∧ HoldsE m k (entsOf m k) ∧ entsOf m k ≠ []) ∧
   PutIn (entsOf m k) { p := x.1, v := x.2, k := x.3, a := x.4, l := x.5, c := x.6 : EntT } ∧
   (refPut (entsOf m k, (46 : TypeId) = (46 : TypeId) ∧ HoldsE m k (entsOf m k) ∧ entsOf m k ≠ []).fst
   { p := x.p, v := x.v, k := x.k, a := x.a, l := x.l, c := x.c : EntT }).2 ≠
   (0 : Int),
  List.take (4 : Nat) (List.drop (off + i.toNat * (4 : Nat)) l) = eC x ∧
   (eC x).length = (4 : Nat),
  inRange i n = true,
  decide (i < (↑n : Int)) = true] := by kernel_rfl
theorem pb1 (D : List EntT) (ys : EntT → List Int) (l m m' : List SV) (off n c k k' j : Nat) (x f g : EntT) (i i' : Int) (es es' : List (SV × SV × Nat)) (cl cl' born : Nat) (q : List SV) (b : Nat × Nat) : reachF (EPl D ys) 2 400 (SM.at (hdPl off n c i) 6 (obj1 l es cl m k)) (ff [0] true ++ [(2, .cells (eC x))] ++ ff [3] true ++ ff [6] false ++ [(8, .hit j (.agg [.v (.string x.p), .v (.int .u64 f.v), .v (.int .i64 f.k), .v (.slice f.a f.l f.c)]) born)] ++ ff [14] false ++ ff [24] true ++ [(26, .hit j (.agg [.v (.string x.p), .v (.int .u64 f.v), .v (.int .i64 f.k), .v (.slice f.a f.l f.c)]) born)]) [(0, 0), (1, 1), (2, 2), (3, 3), (4, 4), (5, 7)] [0, 4, 5] (hdPl off n c i') 6 (obj1 l es' cl' m' k') 4 14 (.row q 5 (0, 0) (some 1)) b = [
  List.map SV.v
   (List.map (Value.int IntKind.u8) (ys { p := x.1, v := x.2, k := x.3, a := x.4, l := x.5, c := x.6 : EntT })) =
   q,
  q.all closedSV = true,
  (0 : Nat) = (0 : Nat),
  (0 : Nat) = (0 : Nat),
  (0 : Nat) = (0 : Nat),
  off = off ∧ n = n ∧ some c = some c,
  Value.int IntKind.i64 (↑n : Int) = Value.int IntKind.i64 (↑n : Int),
  Value.int IntKind.i64 (IntKind.i64.wrap (i + (1 : Int))) = Value.int IntKind.i64 i',
  l = l,
  l.all closedSV = true,
  Value.int IntKind.u64 (0 : Int) = Value.int IntKind.u64 (0 : Int),
  Value.slice none (0 : Nat) (0 : Nat) = Value.slice none (0 : Nat) (0 : Nat),
  Value.int IntKind.u64 (0 : Int) = Value.int IntKind.u64 (0 : Int),
  Value.int IntKind.u64 (0 : Int) = Value.int IntKind.u64 (0 : Int),
  (0 : Nat) = (0 : Nat) ∧
   (refPut (entsOf m k, (46 : TypeId) = (46 : TypeId) ∧ HoldsE m k (entsOf m k) ∧ entsOf m k ≠ []).fst
   { p := x.p, v := x.v, k := x.k, a := x.a, l := x.l, c := x.c : EntT }).1.length =
   k' ∧ (none : Option Nat) = none,
  cl = cl',
  closeM (14 : Nat) b (es.modify j fun e => (SV.v (Value.string x.p), SV.agg [SV.v (Value.string x.p), SV.v (Value.int IntKind.u64 x.v), SV.v (Value.int IntKind.i64 x.k), SV.sl 14 0 x.l none], e.2.2)) = es',
  (es'.all fun e => closedE e.fst && closedE e.snd.fst) = true,
  List.map SV.v
   (vE
   (refPut (entsOf m k, (46 : TypeId) = (46 : TypeId) ∧ HoldsE m k (entsOf m k) ∧ entsOf m k ≠ []).fst
   { p := x.p, v := x.v, k := x.k, a := x.a, l := x.l, c := x.c : EntT }).1) =
   m',
  m'.all closedSV = true,
  (∀ (e : SV × SV × Nat), e ∈ List.take j es → keyNot x.p e.fst) ∧
   es[j]? =
   some
   (SV.v (Value.string x.1),
   SV.agg
   [SV.v (Value.string x.1), SV.v (Value.int IntKind.u64 f.2), SV.v (Value.int IntKind.i64 f.3),
   SV.v (Value.slice f.4 f.5 f.6)],
   born),
  (x.1 == x.1) = true,
  List.Mem { p := x.1, v := x.2, k := x.3, a := x.4, l := x.5, c := x.6 : EntT } D ∧ x.4 ≠ none,
  (!decide (x.2 > f.2)) = false,
  (∀ (e : SV × SV × Nat), e ∈ List.take j es → keyNot x.p e.fst) ∧
   es[j]? =
   some
   (SV.v (Value.string x.1),
   SV.agg
   [SV.v (Value.string x.1), SV.v (Value.int IntKind.u64 f.2), SV.v (Value.int IntKind.i64 f.3),
   SV.v (Value.slice f.4 f.5 f.6)],
   born),
  (!entN x.1 x.2 x.3 x.5 == (0 : Int)) = false,
  x.1.size ≤ (1000000000 : Nat) ∧ (0 : Int) ≤ x.2 ∧ x.2 < (18446744073709551616 : Int),
  ((46 : Nat) = (46 : Nat) ∧ HoldsE m k (entsOf m k) ∧ entsOf m k ≠ []) ∧
   PutIn (entsOf m k) { p := x.1, v := x.2, k := x.3, a := x.4, l := x.5, c := x.6 : EntT } ∧
   (refPut (entsOf m k, (46 : TypeId) = (46 : TypeId) ∧ HoldsE m k (entsOf m k) ∧ entsOf m k ≠ []).fst
   { p := x.p, v := x.v, k := x.k, a := x.a, l := x.l, c := x.c : EntT }).2 =
   (0 : Int),
  List.take (4 : Nat) (List.drop (off + i.toNat * (4 : Nat)) l) = eC x ∧
   (eC x).length = (4 : Nat),
  inRange i n = true,
  decide (i < (↑n : Int)) = true] := by kernel_rfl
theorem pb1n (D : List EntT) (ys : EntT → List Int) (l m m' : List SV) (off n c k k' j : Nat) (x f g : EntT) (i i' : Int) (es es' : List (SV × SV × Nat)) (cl cl' born : Nat) : reach (EPl D ys) 2 400 (SM.at (hdPl off n c i) 6 (obj1 l es cl m k)) (ff [0] true ++ [(2, .cells (eC x))] ++ ff [3] true ++ ff [6] false ++ [(8, .hit j (.agg [.v (.string x.p), .v (.int .u64 f.v), .v (.int .i64 f.k), .v (.slice f.a f.l f.c)]) born)] ++ ff [14] false ++ ff [24] false ++ [(26, .hit j (.agg [.v (.string x.p), .v (.int .u64 f.v), .v (.int .i64 f.k), .v (.slice f.a f.l f.c)]) born)]) [(0, 0), (1, 1), (2, 2), (3, 3), (4, 4), (5, 7)] [0, 4, 5] (hdPl off n c i') 6 (obj1 l es' cl' m' k') = [
  (0 : Nat) = (0 : Nat),
  (0 : Nat) = (0 : Nat),
  (0 : Nat) = (0 : Nat),
  off = off ∧ n = n ∧ some c = some c,
  Value.int IntKind.i64 (↑n : Int) = Value.int IntKind.i64 (↑n : Int),
  Value.int IntKind.i64 (IntKind.i64.wrap (i + (1 : Int))) = Value.int IntKind.i64 i',
  l = l,
  l.all closedSV = true,
  Value.int IntKind.u64 (0 : Int) = Value.int IntKind.u64 (0 : Int),
  Value.slice none (0 : Nat) (0 : Nat) = Value.slice none (0 : Nat) (0 : Nat),
  Value.int IntKind.u64 (0 : Int) = Value.int IntKind.u64 (0 : Int),
  Value.int IntKind.u64 (0 : Int) = Value.int IntKind.u64 (0 : Int),
  (0 : Nat) = (0 : Nat) ∧
   (refPut (entsOf m k, (46 : TypeId) = (46 : TypeId) ∧ HoldsE m k (entsOf m k) ∧ entsOf m k ≠ []).fst
   { p := x.p, v := x.v, k := x.k, a := x.a, l := x.l, c := x.c : EntT }).1.length =
   k' ∧ (none : Option Nat) = none,
  cl = cl',
  (es.modify j fun e => (SV.v (Value.string x.p), SV.agg [SV.v (Value.string x.p), SV.v (Value.int IntKind.u64 x.v), SV.v (Value.int IntKind.i64 x.k), SV.v (Value.slice none 0 0)], e.2.2)) = es',
  (es'.all fun e => closedE e.fst && closedE e.snd.fst) = true,
  List.map SV.v
   (vE
   (refPut (entsOf m k, (46 : TypeId) = (46 : TypeId) ∧ HoldsE m k (entsOf m k) ∧ entsOf m k ≠ []).fst
   { p := x.p, v := x.v, k := x.k, a := x.a, l := x.l, c := x.c : EntT }).1) =
   m',
  m'.all closedSV = true,
  (∀ (e : SV × SV × Nat), e ∈ List.take j es → keyNot x.p e.fst) ∧
   es[j]? =
   some
   (SV.v (Value.string x.1),
   SV.agg
   [SV.v (Value.string x.1), SV.v (Value.int IntKind.u64 f.2), SV.v (Value.int IntKind.i64 f.3),
   SV.v (Value.slice f.4 f.5 f.6)],
   born),
  (x.1 == x.1) = true,
  List.Mem { p := x.1, v := x.2, k := x.3, a := x.4, l := x.5, c := x.6 : EntT } D ∧ x.4 = none,
  (!decide (x.2 > f.2)) = false,
  (∀ (e : SV × SV × Nat), e ∈ List.take j es → keyNot x.p e.fst) ∧
   es[j]? =
   some
   (SV.v (Value.string x.1),
   SV.agg
   [SV.v (Value.string x.1), SV.v (Value.int IntKind.u64 f.2), SV.v (Value.int IntKind.i64 f.3),
   SV.v (Value.slice f.4 f.5 f.6)],
   born),
  (!entN x.1 x.2 x.3 x.5 == (0 : Int)) = false,
  x.1.size ≤ (1000000000 : Nat) ∧ (0 : Int) ≤ x.2 ∧ x.2 < (18446744073709551616 : Int),
  ((46 : Nat) = (46 : Nat) ∧ HoldsE m k (entsOf m k) ∧ entsOf m k ≠ []) ∧
   PutIn (entsOf m k) { p := x.1, v := x.2, k := x.3, a := x.4, l := x.5, c := x.6 : EntT } ∧
   (refPut (entsOf m k, (46 : TypeId) = (46 : TypeId) ∧ HoldsE m k (entsOf m k) ∧ entsOf m k ≠ []).fst
   { p := x.p, v := x.v, k := x.k, a := x.a, l := x.l, c := x.c : EntT }).2 =
   (0 : Int),
  List.take (4 : Nat) (List.drop (off + i.toNat * (4 : Nat)) l) = eC x ∧
   (eC x).length = (4 : Nat),
  inRange i n = true,
  decide (i < (↑n : Int)) = true] := by kernel_rfl
theorem pb2 (D : List EntT) (ys : EntT → List Int) (l m m' : List SV) (off n c k k' j : Nat) (x f g : EntT) (i i' : Int) (es es' : List (SV × SV × Nat)) (cl cl' born : Nat) (q : List SV) (b : Nat × Nat) : reachF (EPl D ys) 2 400 (SM.at (hdPl off n c i) 6 (obj1 l es cl m k)) (ff [0] true ++ [(2, .cells (eC x))] ++ ff [3] true ++ ff [6] false ++ [(8, .miss)] ++ ff [22] false ++ ff [24] true ++ [(26, .miss)]) [(0, 0), (1, 1), (2, 2), (3, 3), (4, 4), (5, 7)] [0, 4, 5] (hdPl off n c i') 6 (obj1 l es' cl' m' k') 4 12 (.row q 5 (0, 0) (some 1)) b = [
  List.map SV.v
   (List.map (Value.int IntKind.u8) (ys { p := x.1, v := x.2, k := x.3, a := x.4, l := x.5, c := x.6 : EntT })) =
   q,
  q.all closedSV = true,
  (0 : Nat) = (0 : Nat),
  (0 : Nat) = (0 : Nat),
  (0 : Nat) = (0 : Nat),
  off = off ∧ n = n ∧ some c = some c,
  Value.int IntKind.i64 (↑n : Int) = Value.int IntKind.i64 (↑n : Int),
  Value.int IntKind.i64 (IntKind.i64.wrap (i + (1 : Int))) = Value.int IntKind.i64 i',
  l = l,
  l.all closedSV = true,
  Value.int IntKind.u64 (0 : Int) = Value.int IntKind.u64 (0 : Int),
  Value.slice none (0 : Nat) (0 : Nat) = Value.slice none (0 : Nat) (0 : Nat),
  Value.int IntKind.u64 (0 : Int) = Value.int IntKind.u64 (0 : Int),
  Value.int IntKind.u64 (0 : Int) = Value.int IntKind.u64 (0 : Int),
  (0 : Nat) = (0 : Nat) ∧
   (refPut (entsOf m k, (46 : TypeId) = (46 : TypeId) ∧ HoldsE m k (entsOf m k) ∧ entsOf m k ≠ []).fst
   { p := x.p, v := x.v, k := x.k, a := x.a, l := x.l, c := x.c : EntT }).1.length =
   k' ∧ (none : Option Nat) = none,
  cl + (1 : Nat) = cl',
  closeM (12 : Nat) b (es ++ [(SV.v (Value.string x.p), SV.agg [SV.v (Value.string x.p), SV.v (Value.int IntKind.u64 x.v), SV.v (Value.int IntKind.i64 x.k), SV.sl 12 0 x.l none], cl)]) = es',
  (es'.all fun e => closedE e.fst && closedE e.snd.fst) = true,
  List.map SV.v
   (vE
   (refPut (entsOf m k, (46 : TypeId) = (46 : TypeId) ∧ HoldsE m k (entsOf m k) ∧ entsOf m k ≠ []).fst
   { p := x.p, v := x.v, k := x.k, a := x.a, l := x.l, c := x.c : EntT }).1) =
   m',
  m'.all closedSV = true,
  ∀ (e : SV × SV × Nat), e ∈ es → keyNot x.p e.fst,
  (x.1 == x.1) = true,
  List.Mem { p := x.1, v := x.2, k := x.3, a := x.4, l := x.5, c := x.6 : EntT } D ∧ x.4 ≠ none,
  decide ((↑es.length : Int) ≥ (256 : Int)) = false,
  ∀ (e : SV × SV × Nat), e ∈ es → keyNot x.p e.fst,
  (!entN x.1 x.2 x.3 x.5 == (0 : Int)) = false,
  x.1.size ≤ (1000000000 : Nat) ∧ (0 : Int) ≤ x.2 ∧ x.2 < (18446744073709551616 : Int),
  ((46 : Nat) = (46 : Nat) ∧ HoldsE m k (entsOf m k) ∧ entsOf m k ≠ []) ∧
   PutIn (entsOf m k) { p := x.1, v := x.2, k := x.3, a := x.4, l := x.5, c := x.6 : EntT } ∧
   (refPut (entsOf m k, (46 : TypeId) = (46 : TypeId) ∧ HoldsE m k (entsOf m k) ∧ entsOf m k ≠ []).fst
   { p := x.p, v := x.v, k := x.k, a := x.a, l := x.l, c := x.c : EntT }).2 =
   (0 : Int),
  List.take (4 : Nat) (List.drop (off + i.toNat * (4 : Nat)) l) = eC x ∧
   (eC x).length = (4 : Nat),
  inRange i n = true,
  decide (i < (↑n : Int)) = true] := by kernel_rfl
theorem pb2n (D : List EntT) (ys : EntT → List Int) (l m m' : List SV) (off n c k k' j : Nat) (x f g : EntT) (i i' : Int) (es es' : List (SV × SV × Nat)) (cl cl' born : Nat) : reach (EPl D ys) 2 400 (SM.at (hdPl off n c i) 6 (obj1 l es cl m k)) (ff [0] true ++ [(2, .cells (eC x))] ++ ff [3] true ++ ff [6] false ++ [(8, .miss)] ++ ff [22] false ++ ff [24] false ++ [(26, .miss)]) [(0, 0), (1, 1), (2, 2), (3, 3), (4, 4), (5, 7)] [0, 4, 5] (hdPl off n c i') 6 (obj1 l es' cl' m' k') = [
  (0 : Nat) = (0 : Nat),
  (0 : Nat) = (0 : Nat),
  (0 : Nat) = (0 : Nat),
  off = off ∧ n = n ∧ some c = some c,
  Value.int IntKind.i64 (↑n : Int) = Value.int IntKind.i64 (↑n : Int),
  Value.int IntKind.i64 (IntKind.i64.wrap (i + (1 : Int))) = Value.int IntKind.i64 i',
  l = l,
  l.all closedSV = true,
  Value.int IntKind.u64 (0 : Int) = Value.int IntKind.u64 (0 : Int),
  Value.slice none (0 : Nat) (0 : Nat) = Value.slice none (0 : Nat) (0 : Nat),
  Value.int IntKind.u64 (0 : Int) = Value.int IntKind.u64 (0 : Int),
  Value.int IntKind.u64 (0 : Int) = Value.int IntKind.u64 (0 : Int),
  (0 : Nat) = (0 : Nat) ∧
   (refPut (entsOf m k, (46 : TypeId) = (46 : TypeId) ∧ HoldsE m k (entsOf m k) ∧ entsOf m k ≠ []).fst
   { p := x.p, v := x.v, k := x.k, a := x.a, l := x.l, c := x.c : EntT }).1.length =
   k' ∧ (none : Option Nat) = none,
  cl + (1 : Nat) = cl',
  (es ++ [(SV.v (Value.string x.p), SV.agg [SV.v (Value.string x.p), SV.v (Value.int IntKind.u64 x.v), SV.v (Value.int IntKind.i64 x.k), SV.v (Value.slice none 0 0)], cl)]) = es',
  (es'.all fun e => closedE e.fst && closedE e.snd.fst) = true,
  List.map SV.v
   (vE
   (refPut (entsOf m k, (46 : TypeId) = (46 : TypeId) ∧ HoldsE m k (entsOf m k) ∧ entsOf m k ≠ []).fst
   { p := x.p, v := x.v, k := x.k, a := x.a, l := x.l, c := x.c : EntT }).1) =
   m',
  m'.all closedSV = true,
  ∀ (e : SV × SV × Nat), e ∈ es → keyNot x.p e.fst,
  (x.1 == x.1) = true,
  List.Mem { p := x.1, v := x.2, k := x.3, a := x.4, l := x.5, c := x.6 : EntT } D ∧ x.4 = none,
  decide ((↑es.length : Int) ≥ (256 : Int)) = false,
  ∀ (e : SV × SV × Nat), e ∈ es → keyNot x.p e.fst,
  (!entN x.1 x.2 x.3 x.5 == (0 : Int)) = false,
  x.1.size ≤ (1000000000 : Nat) ∧ (0 : Int) ≤ x.2 ∧ x.2 < (18446744073709551616 : Int),
  ((46 : Nat) = (46 : Nat) ∧ HoldsE m k (entsOf m k) ∧ entsOf m k ≠ []) ∧
   PutIn (entsOf m k) { p := x.1, v := x.2, k := x.3, a := x.4, l := x.5, c := x.6 : EntT } ∧
   (refPut (entsOf m k, (46 : TypeId) = (46 : TypeId) ∧ HoldsE m k (entsOf m k) ∧ entsOf m k ≠ []).fst
   { p := x.p, v := x.v, k := x.k, a := x.a, l := x.l, c := x.c : EntT }).2 =
   (0 : Int),
  List.take (4 : Nat) (List.drop (off + i.toNat * (4 : Nat)) l) = eC x ∧
   (eC x).length = (4 : Nat),
  inRange i n = true,
  decide (i < (↑n : Int)) = true] := by kernel_rfl
theorem pb3 (D : List EntT) (ys : EntT → List Int) (l m m' : List SV) (off n c k k' j : Nat) (x f g : EntT) (i i' : Int) (es es' : List (SV × SV × Nat)) (cl cl' born : Nat) (q : List SV) (b : Nat × Nat) : reachF (EPl D ys) 2 400 (SM.at (hdPl off n c i) 6 (obj1 l es cl m k)) (ff [0] true ++ [(2, .cells (eC x))] ++ ff [3] true ++ ff [6] false ++ [(8, .miss)] ++ ff [22] true ++ ff [24] false ++ [(25, .hit j (.agg [.v (.string g.p), .v (.int .u64 g.v), .v (.int .i64 g.k), .v (.slice g.a g.l g.c)]) born)] ++ ff [27] true ++ [(29, .miss)]) [(0, 0), (1, 1), (2, 2), (3, 3), (4, 4), (5, 7)] [0, 4, 5] (hdPl off n c i') 6 (obj1 l es' cl' m' k') 4 12 (.row q 5 (0, 0) (some 1)) b = [
  List.map SV.v
   (List.map (Value.int IntKind.u8) (ys { p := x.1, v := x.2, k := x.3, a := x.4, l := x.5, c := x.6 : EntT })) =
   q,
  q.all closedSV = true,
  (0 : Nat) = (0 : Nat),
  (0 : Nat) = (0 : Nat),
  (0 : Nat) = (0 : Nat),
  off = off ∧ n = n ∧ some c = some c,
  Value.int IntKind.i64 (↑n : Int) = Value.int IntKind.i64 (↑n : Int),
  Value.int IntKind.i64 (IntKind.i64.wrap (i + (1 : Int))) = Value.int IntKind.i64 i',
  l = l,
  l.all closedSV = true,
  Value.int IntKind.u64 (0 : Int) = Value.int IntKind.u64 (0 : Int),
  Value.slice none (0 : Nat) (0 : Nat) = Value.slice none (0 : Nat) (0 : Nat),
  Value.int IntKind.u64 (0 : Int) = Value.int IntKind.u64 (0 : Int),
  Value.int IntKind.u64 (0 : Int) = Value.int IntKind.u64 (0 : Int),
  (0 : Nat) = (0 : Nat) ∧
   (refPut (entsOf m k, (46 : TypeId) = (46 : TypeId) ∧ HoldsE m k (entsOf m k) ∧ entsOf m k ≠ []).fst
   { p := x.p, v := x.v, k := x.k, a := x.a, l := x.l, c := x.c : EntT }).1.length =
   k' ∧ (none : Option Nat) = none,
  cl + (1 : Nat) = cl',
  closeM (12 : Nat) b (es.eraseIdx j ++ [(SV.v (Value.string x.p), SV.agg [SV.v (Value.string x.p), SV.v (Value.int IntKind.u64 x.v), SV.v (Value.int IntKind.i64 x.k), SV.sl 12 0 x.l none], cl)]) = es',
  (es'.all fun e => closedE e.fst && closedE e.snd.fst) = true,
  List.map SV.v
   (vE
   (refPut (entsOf m k, (46 : TypeId) = (46 : TypeId) ∧ HoldsE m k (entsOf m k) ∧ entsOf m k ≠ []).fst
   { p := x.p, v := x.v, k := x.k, a := x.a, l := x.l, c := x.c : EntT }).1) =
   m',
  m'.all closedSV = true,
  ∀ (e : SV × SV × Nat), e ∈ es.eraseIdx j → keyNot x.p e.fst,
  (x.1 == x.1) = true,
  List.Mem { p := x.1, v := x.2, k := x.3, a := x.4, l := x.5, c := x.6 : EntT } D ∧ x.4 ≠ none,
  (∀ (e : SV × SV × Nat), e ∈ List.take j es → keyNot (bestG es) e.fst) ∧
   es[j]? =
   some
   (SV.v (Value.string (bestG es)),
   SV.agg
   [SV.v (Value.string g.1), SV.v (Value.int IntKind.u64 g.2), SV.v (Value.int IntKind.i64 g.3),
   SV.v (Value.slice g.4 g.5 g.6)],
   born),
  (!!(bestG es).toList == { data := { toList := [] : Array UInt8 } : ByteArray }.toList) = false,
  (84 : Nat) = (84 : Nat) ∧ BookIn es cl,
  decide ((↑es.length : Int) ≥ (256 : Int)) = true,
  ∀ (e : SV × SV × Nat), e ∈ es → keyNot x.p e.fst,
  (!entN x.1 x.2 x.3 x.5 == (0 : Int)) = false,
  x.1.size ≤ (1000000000 : Nat) ∧ (0 : Int) ≤ x.2 ∧ x.2 < (18446744073709551616 : Int),
  ((46 : Nat) = (46 : Nat) ∧ HoldsE m k (entsOf m k) ∧ entsOf m k ≠ []) ∧
   PutIn (entsOf m k) { p := x.1, v := x.2, k := x.3, a := x.4, l := x.5, c := x.6 : EntT } ∧
   (refPut (entsOf m k, (46 : TypeId) = (46 : TypeId) ∧ HoldsE m k (entsOf m k) ∧ entsOf m k ≠ []).fst
   { p := x.p, v := x.v, k := x.k, a := x.a, l := x.l, c := x.c : EntT }).2 =
   (0 : Int),
  List.take (4 : Nat) (List.drop (off + i.toNat * (4 : Nat)) l) = eC x ∧
   (eC x).length = (4 : Nat),
  inRange i n = true,
  decide (i < (↑n : Int)) = true] := by kernel_rfl
theorem pb3n (D : List EntT) (ys : EntT → List Int) (l m m' : List SV) (off n c k k' j : Nat) (x f g : EntT) (i i' : Int) (es es' : List (SV × SV × Nat)) (cl cl' born : Nat) : reach (EPl D ys) 2 400 (SM.at (hdPl off n c i) 6 (obj1 l es cl m k)) (ff [0] true ++ [(2, .cells (eC x))] ++ ff [3] true ++ ff [6] false ++ [(8, .miss)] ++ ff [22] true ++ ff [24] false ++ [(25, .hit j (.agg [.v (.string g.p), .v (.int .u64 g.v), .v (.int .i64 g.k), .v (.slice g.a g.l g.c)]) born)] ++ ff [27] false ++ [(29, .miss)]) [(0, 0), (1, 1), (2, 2), (3, 3), (4, 4), (5, 7)] [0, 4, 5] (hdPl off n c i') 6 (obj1 l es' cl' m' k') = [
  (0 : Nat) = (0 : Nat),
  (0 : Nat) = (0 : Nat),
  (0 : Nat) = (0 : Nat),
  off = off ∧ n = n ∧ some c = some c,
  Value.int IntKind.i64 (↑n : Int) = Value.int IntKind.i64 (↑n : Int),
  Value.int IntKind.i64 (IntKind.i64.wrap (i + (1 : Int))) = Value.int IntKind.i64 i',
  l = l,
  l.all closedSV = true,
  Value.int IntKind.u64 (0 : Int) = Value.int IntKind.u64 (0 : Int),
  Value.slice none (0 : Nat) (0 : Nat) = Value.slice none (0 : Nat) (0 : Nat),
  Value.int IntKind.u64 (0 : Int) = Value.int IntKind.u64 (0 : Int),
  Value.int IntKind.u64 (0 : Int) = Value.int IntKind.u64 (0 : Int),
  (0 : Nat) = (0 : Nat) ∧
   (refPut (entsOf m k, (46 : TypeId) = (46 : TypeId) ∧ HoldsE m k (entsOf m k) ∧ entsOf m k ≠ []).fst
   { p := x.p, v := x.v, k := x.k, a := x.a, l := x.l, c := x.c : EntT }).1.length =
   k' ∧ (none : Option Nat) = none,
  cl + (1 : Nat) = cl',
  (es.eraseIdx j ++ [(SV.v (Value.string x.p), SV.agg [SV.v (Value.string x.p), SV.v (Value.int IntKind.u64 x.v), SV.v (Value.int IntKind.i64 x.k), SV.v (Value.slice none 0 0)], cl)]) = es',
  (es'.all fun e => closedE e.fst && closedE e.snd.fst) = true,
  List.map SV.v
   (vE
   (refPut (entsOf m k, (46 : TypeId) = (46 : TypeId) ∧ HoldsE m k (entsOf m k) ∧ entsOf m k ≠ []).fst
   { p := x.p, v := x.v, k := x.k, a := x.a, l := x.l, c := x.c : EntT }).1) =
   m',
  m'.all closedSV = true,
  ∀ (e : SV × SV × Nat), e ∈ es.eraseIdx j → keyNot x.p e.fst,
  (x.1 == x.1) = true,
  List.Mem { p := x.1, v := x.2, k := x.3, a := x.4, l := x.5, c := x.6 : EntT } D ∧ x.4 = none,
  (∀ (e : SV × SV × Nat), e ∈ List.take j es → keyNot (bestG es) e.fst) ∧
   es[j]? =
   some
   (SV.v (Value.string (bestG es)),
   SV.agg
   [SV.v (Value.string g.1), SV.v (Value.int IntKind.u64 g.2), SV.v (Value.int IntKind.i64 g.3),
   SV.v (Value.slice g.4 g.5 g.6)],
   born),
  (!!(bestG es).toList == { data := { toList := [] : Array UInt8 } : ByteArray }.toList) = false,
  (84 : Nat) = (84 : Nat) ∧ BookIn es cl,
  decide ((↑es.length : Int) ≥ (256 : Int)) = true,
  ∀ (e : SV × SV × Nat), e ∈ es → keyNot x.p e.fst,
  (!entN x.1 x.2 x.3 x.5 == (0 : Int)) = false,
  x.1.size ≤ (1000000000 : Nat) ∧ (0 : Int) ≤ x.2 ∧ x.2 < (18446744073709551616 : Int),
  ((46 : Nat) = (46 : Nat) ∧ HoldsE m k (entsOf m k) ∧ entsOf m k ≠ []) ∧
   PutIn (entsOf m k) { p := x.1, v := x.2, k := x.3, a := x.4, l := x.5, c := x.6 : EntT } ∧
   (refPut (entsOf m k, (46 : TypeId) = (46 : TypeId) ∧ HoldsE m k (entsOf m k) ∧ entsOf m k ≠ []).fst
   { p := x.p, v := x.v, k := x.k, a := x.a, l := x.l, c := x.c : EntT }).2 =
   (0 : Int),
  List.take (4 : Nat) (List.drop (off + i.toNat * (4 : Nat)) l) = eC x ∧
   (eC x).length = (4 : Nat),
  inRange i n = true,
  decide (i < (↑n : Int)) = true] := by kernel_rfl
def bkF:Option (SO × Bool):=some (.row [.v (.int .u64 0),.map 1] 84 (0,0) none,true)
theorem pz0 (D : List EntT) (ys : EntT → List Int) (l : List SV) (off n c : Nat) (i : Int) : endsM (EPl D ys) 7 100 (SM.at (hdPl off n c i) 6 (obj0 l)) (ff [0] false) [(0, 2)] [] (.tup [.ptr 0 0, .v (.agg #[.int .u64 0, .slice none 0 0]), .v (.bool true)]) [bk0] = [
  (0 : Nat) = (0 : Nat),
  Value.agg { toList := [Value.int IntKind.u64 (0 : Int), Value.slice none (0 : Nat) (0 : Nat)] : Array Value } =
   Value.agg { toList := [Value.int IntKind.u64 (0 : Int), Value.slice none (0 : Nat) (0 : Nat)] : Array Value },
  Value.bool true = Value.bool true,
  Value.int IntKind.u64 (0 : Int) = Value.int IntKind.u64 (0 : Int),
  Value.map none = Value.map none,
  true = true,
  true = true,
  decide (i < (↑n : Int)) = false] := by kernel_rfl
theorem pz1 (D:List EntT) (ys:EntT→List Int) (l m:List SV) (off n c k:Nat) (i:Int) (es:List (SV × SV × Nat)) (cl:Nat):endsM (EPl D ys) 7 100 (SM.at (hdPl off n c i) 6 (obj1 l es cl m k)) (ff [0] false) [(0,2),(1,4),(2,5)] [1,2] (.tup [.ptr 0 0,.agg [.v (.int .u64 0),.sl 2 0 k none],.v (.bool true)]) [bkF,mapW es cl,rowsE m]=[
 (0:Nat)=(0:Nat),
 Value.int IntKind.u64 (0:Int)=Value.int IntKind.u64 (0:Int),
 (0:Nat)=(0:Nat)∧k=k∧(none:Option Nat)=none,
 Value.bool true=Value.bool true,
 Value.int IntKind.u64 (0:Int)=Value.int IntKind.u64 (0:Int),
 cl=cl,
 es=es,
 (es.all fun e=>closedE e.fst&&closedE e.snd.fst)=true,
 m=m,
 m.all closedSV=true,
 (0:Nat)=(0:Nat)∧k=k∧(none:Option Nat)=none,
 true=true,
 decide (i<(↑n:Int))=false]:=by kernel_rfl
def PX (D:List EntT) (ys:EntT→List Int) (w:World):Prop:=MX w∧∀ x∈D,CellsIn w x.a x.l (ys x)
theorem CellsIn.keep {w0 w:World} {a:Option Addr} {l:Nat} {ys:List Int} (h:CellsIn w0 a l ys) (hk:∀ k,k<w0.heap.size→w.heap[k]?=w0.heap[k]?):CellsIn w a l ys:=by
 obtain ⟨h1,h2,h3⟩:=h
 refine ⟨h1,h2,fun b hb i hi W' hW=>h3 b hb i hi W' fun k hk0=>?_⟩
 rw [← hk k hk0]
 refine hW k ?_
 have h4:=hk k hk0
 rw [Array.getElem?_eq_getElem hk0] at h4
 exact (Array.getElem?_eq_some_iff.1 h4).1
theorem PX.keep {D:List EntT} {ys:EntT→List Int} {w0 w:World} (h:PX D ys w0) (hk:∀ k,k<w0.heap.size→w.heap[k]?=w0.heap[k]?):PX D ys w:=⟨h.1.keep hk,fun x hx=>(h.2 x hx).keep hk⟩
theorem weakS {P:Program} {X Y:World→Prop} {r:FuncId × Sum} (h:SumOK P X r) (hXY:∀ w,Y w→X w):SumOK P Y r:=
 ⟨h.1,fun args x s s' hx ob=>⟨(h.2 args x s s' hx ob).1,fun ν M w0 w a hr hY ha=>(h.2 args x s s' hx ob).2 ν M w0 w a hr (hXY w hY) ha⟩⟩
theorem clo_ok {D:List EntT} {ys:EntT→List Int}:SumOK Tryz.prog (PX D ys) (42,brSum (slSumM (cloS D ys)) (svSum (cloE D))):=by
 refine SumOK.br (slSumM_ok ⟨_,Tryz.func42,by kernel_rfl,by kernel_rfl⟩ (fun args sh zs n C elem mk mv p h ν x y hv=>?_) fun args sh zs n C elem mk mv p h hp ν M w0 w a hr hX ha=>?_) (svSum_ok ⟨_,Tryz.func42,by kernel_rfl,by kernel_rfl⟩ fun args sh v p h hp ν M w0 w a hr hX ha=>?_)
 ·dsimp only [cloS] at h
  split at h
  ·split at h
   ·cases h
    exact VR.agg_iff.2 ⟨_,rfl,VRL.cons (VR.v_iff.2 rfl) (VRL.cons (VR.v_iff.2 rfl) (VRL.cons (VR.v_iff.2 rfl) (VRL.cons hv VRL.nil)))⟩
   ·cases h
  ·cases h
 ·dsimp only [cloS] at h
  split at h
  ·rename_i Xa
   split at h
   ·rename_i x hx
    cases h
    obtain ⟨y1,as1,rfl,q1,ha2⟩:=ha.cons_inv
    obtain rfl:=ha2.nil_inv
    obtain rfl:=decX_ok hx q1
    refine (clone_calls (hX.2 x hp.1)).mono fun e w' ⟨hB,a,c,l,he,h⟩=>⟨hB,?_⟩
    rcases h with ⟨h1,_⟩ | ⟨_,h1,b,h2,h3⟩
    ·exact absurd h1 hp.2
    ·subst h1 h2
     exact ⟨_,he,h3⟩
   ·cases h
  ·cases h
 ·dsimp only [cloE] at h
  split at h
  ·rename_i Xa
   split at h
   ·rename_i x hx
    cases h
    obtain ⟨y1,as1,rfl,q1,ha2⟩:=ha.cons_inv
    obtain rfl:=ha2.nil_inv
    obtain rfl:=decX_ok hx q1
    refine (clone_calls (hX.2 x hp.1)).mono fun e w' ⟨hB,a,c,l,he,h⟩=>⟨hB,?_⟩
    rcases h with ⟨_,h1,h2,h3⟩ | ⟨h1,_⟩
    ·subst h1 h2 h3
     exact ⟨_,he,VR.agg_iff.2 ⟨_,rfl,VRL.cons (VR.v_iff.2 rfl) (VRL.cons (VR.v_iff.2 rfl) (VRL.cons (VR.v_iff.2 rfl) (VRL.cons (VR.v_iff.2 rfl) VRL.nil)))⟩⟩
    ·exact absurd hp.2 h1
   ·cases h
  ·cases h
theorem KPl {M0 M:Own} {w00 w0:World} {D:List EntT} {ys:EntT→List Int} (hM:∀ z,¬ M0 z) (hB:Base M0 w00 M w0) (hX:PX D ys w00):Facts (EPl D ys) M w0:=
 Facts.of' (Checked.mixed Tryz.checked) (by kernel_rfl) (ExtOK.of extL rfl extRows) (SumsOK.list (X:=PX D ys) (l:=lPl D ys) rfl (fun r h=>by
  simp only [lPl,List.mem_cons,List.not_mem_nil,or_false] at h
  rcases h with rfl | rfl | rfl | rfl
  ·exact rput_ok
  ·exact weakS (SumOK.pure (r:=(38,echkPS)) echk_ok) fun w h=>h.1
  ·exact weakS spare_ok fun w h=>h.1
  ·exact clo_ok) fun ν s w hr _=>hX.keep fun k hk=>(hr.frame k (Nat.lt_of_lt_of_le hk hB.size) (hB.frame k hk (hM k)).2).trans (hB.frame k hk (hM k)).1) (fun f g h=>by cases h)
theorem closeM_id (o:Nat) (b:Nat × Nat):∀ E:List EntM,closeM o b (E.map mC)=E.map mC
 | []=>rfl
 | e::E=>by
  show _::closeM o b (E.map mC)=_
  rw [closeM_id o b E];rfl
theorem close_snoc {o:Nat} {b:Nat × Nat} {E:List EntM} {y:EntT} {k v:SV} {n:Nat} (h:(k,closeV o b v,n)=mC (y,n)):closeM o b (E.map mC++[(k,v,n)])=(E++[(y,n)]).map mC:=by
 unfold closeM
 rw [List.map_append,List.map_append]
 have:=closeM_id o b E
 unfold closeM at this
 rw [this,List.map_cons,List.map_cons,h];rfl
theorem mod_map {g:SV × SV × Nat→SV × SV × Nat} {g':EntM→EntM} (h:∀ e,g (mC e)=mC (g' e)):∀ (E:List EntM) (j:Nat),(E.map mC).modify j g=(E.modify j g').map mC
 | [],j=>by simp
 | e::E,0=>by simp [h]
 | e::E,j+1=>by simp [mod_map h E j]
theorem close_mod {o:Nat} {b:Nat × Nat} {g:SV × SV × Nat→SV × SV × Nat} {g':EntM→EntM} (h:∀ e,((g (mC e)).1,closeV o b (g (mC e)).2.1,(g (mC e)).2.2)=mC (g' e)):∀ (E:List EntM) (j:Nat),closeM o b ((E.map mC).modify j g)=(E.modify j g').map mC
 | [],j=>by simp [closeM]
 | e::E,0=>by
  simp only [List.map_cons,List.modify_zero_cons]
  show _::closeM o b (E.map mC)=_
  rw [closeM_id]
  exact congrArg (·::E.map mC) (h e)
 | e::E,j+1=>by
  simp only [List.map_cons,List.modify_succ_cons]
  show _::closeM o b ((E.map mC).modify j g)=_
  rw [close_mod h E j];rfl
theorem erase_map {α β:Type} (f:α→β):∀ (l:List α) (j:Nat),(l.map f).eraseIdx j=(l.eraseIdx j).map f
 | [],j=>by simp
 | a::l,0=>by simp
 | a::l,j+1=>by simp [erase_map f l j]
theorem hit_at' {E:List EntM} (hn:(E.map fun e=>e.1.p).Nodup) {f:EntM} (hf:f∈E):∃ j,hitP (E.map mC) f.1.p j (valM f) f.2∧E[j]?=some f:=by
 obtain ⟨j,hj⟩:=hit_at hn hf
 refine ⟨j,hj,?_⟩
 have h2:=hj.2
 rw [List.getElem?_map] at h2
 obtain ⟨g,hg,h3⟩:=Option.map_eq_some_iff.1 h2
 rw [hg,mC_inj (h3:mC g=mC f)]
theorem miss_at {E:List EntM} {p:ByteArray} (hm:∀ e∈E,e.1.p≠p):∀ e∈E.map mC,keyNot p e.1:=fun e he=>by
 obtain ⟨y,hy,rfl⟩:=List.mem_map.1 he
 refine ⟨y.1.p,rfl,?_⟩
 rw [Bool.eq_false_iff];intro h
 refine hm y hy ?_
 have:(p.data==y.1.p.data)=true:=h
 have:=eq_of_beq this
 cases hfp:p;cases hyp:y.1.p;rw [hfp,hyp] at this;cases this;rfl
theorem ba_beq (a:ByteArray):(a==a)=true:=by
 show (a.data==a.data)=true
 exact beq_self_eq_true _
theorem insE_ne (x:EntT) (l:List EntT):insE x l≠[]:=fun h=>by
 have:=insE_len x l
 rw [h] at this;simp at this
theorem keys_snoc {cm:EntT→List Int} {E:List EntM} {y:EntT} {n:Nat}:((E++[(y,n)]).map (KM cm)).Perm (KE cm y::E.map (KM cm)):=by
 rw [List.map_append];exact List.perm_append_comm
structure DIn (D:List EntT):Prop where
 size:∀ x∈D,x.p.size≤1000000000
 v:∀ x∈D,0≤x.v∧x.v<18446744073709551616
 nil:∀ x∈D,x.a=none→x.l=0
 few:D.length≤1000
theorem ver_pos {x:EntT} (hc:entN x.p x.v x.k x.l=0) (h:0≤x.v):0<x.v:=by
 rcases Int.lt_or_eq_of_le h with h | h
 ·exact h
 ·exfalso
  unfold entN at hc
  rw [← h] at hc
  revert hc
  cases userB x.p <;> simp [verB]
theorem user_full {x:EntT} (hc:entN x.p x.v x.k x.l=0):x.p≠⟨#[]⟩:=by
 intro h
 have hu:userB x.p=false:=by
  unfold userB
  cases hq:(checkN x.p==0)
  ·rfl
  ·exact absurd (by rw [h];rfl) (checkN_ne x.p (by simpa using hq))
 unfold entN at hc
 rw [hu] at hc
 revert hc;simp
def BytesAt (H:Hp) (e:EntT) (zs:List Int):Prop:=(e.a=none∧e.l=0∧zs=[])∨∃ b rest,e.a=some ⟨b,0,none⟩∧H b=some (.cells ((zs.map (Value.int .u8))++rest).toArray 5 (0,0))∧zs.length=e.l
def valI:Value→Int | .int _ n=>n | _=>0
def contH (H:Hp) (e:EntT):List Int:=match e.a with
 | none=>[]
 | some a=>match H a.1 with
  | some (.cells c _ _)=>(c.toList.take e.l).map valI
  | _=>[]
theorem BytesAt.cont {H:Hp} {e:EntT} {zs:List Int} (h:BytesAt H e zs):contH H e=zs:=by
 unfold contH
 rcases h with ⟨h1,_,rfl⟩ | ⟨b,rest,h1,h2,h3⟩
 ·rw [h1]
 ·rw [h1]
  dsimp only
  rw [h2]
  dsimp only
  rw [List.take_append_of_le_length (by simp [h3]),List.take_of_length_le (by simp [h3]),List.map_map]
  exact List.map_id' zs
theorem BytesAt.mono {H H':Hp} {e:EntT} {zs:List Int} (h:BytesAt H e zs) (hs:H.Sub H'):BytesAt H' e zs:=by
 rcases h with h | ⟨b,rest,h1,h2,h3⟩
 ·exact .inl h
 ·exact .inr ⟨b,rest,h1,hs _ _ h2,h3⟩
def NewA (w0:World) (e:EntT):Prop:=∀ a,e.a=some a→w0.heap.size≤a.block
structure St (D:List EntT) (ys:EntT→List Int) (w0:World) (M:Own) (H:Hp) (M1:Own) (w1:World) (E:List EntM) (cl:Nat) (xs:List EntT):Prop where
 kept:Kept w0.hp M w0 H M1 w1
 inv:Inv (contH H) ys E cl xs
 data:∀ e∈E,∃ zs,BytesAt H e.1 zs∧NewA w0 e.1
 sub:∀ e∈xs,e∈D
theorem St.next {D:List EntT} {ys:EntT→List Int} {w0:World} {M:Own} {H:Hp} {M1:Own} {w1:World} {E:List EntM} {cl:Nat} {xs:List EntT} {x:EntT} (hS:St D ys w0 M H M1 w1 E cl xs) {H':Hp} {M2:Own} {w2:World} (hk:Kept w0.hp M w0 H' M2 w2) (hs:H.Sub H') {y:EntT} {zs:List Int} (hy:BytesAt H' y zs) (hyn:NewA w0 y)
  {E':List EntM} {cl':Nat} {xs':List EntT} (hE:∀ e∈E',e.1=y∨e∈E) (hx:x∈D) (hxs:∀ e∈xs',e=x∨e∈xs) (inv:(∀ e∈E,contH H e.1=contH H' e.1)→Inv (contH H') ys E' cl' xs'):St D ys w0 M H' M2 w2 E' cl' xs':=by
 have hold:∀ e∈E,∃ zs,BytesAt H' e.1 zs∧NewA w0 e.1∧contH H e.1=contH H' e.1:=fun e he=>by
  obtain ⟨zs,h,hn⟩:=hS.data e he
  exact ⟨zs,h.mono hs,hn,by rw [h.cont,(h.mono hs).cont]⟩
 refine ⟨hk,inv fun e he=>(by obtain ⟨_,_,_,h⟩:=hold e he;exact h),fun e he=>?_,fun e he=>?_⟩
 ·rcases hE e he with h | h
  ·exact ⟨zs,by rw [h];exact hy,by rw [h];exact hyn⟩
  ·obtain ⟨zs,h,hn,_⟩:=hold e h;exact ⟨zs,h,hn⟩
 ·rcases hxs e he with h | h
  ·rw [h];exact hx
  ·exact hS.sub e h
theorem ins_mem {x e:EntT} {p:ByteArray} {xs:List EntT} (h:e∈insE x (dropE p xs)):e=x∨e∈xs:=by
 rcases List.mem_cons.1 ((insE_perm x _).mem_iff.1 h) with h | h
 ·exact .inl h
 ·exact .inr (List.mem_filter.1 h).1
theorem ins_mem' {x e:EntT} {xs:List EntT} (h:e∈insE x xs):e=x∨e∈xs:=List.mem_cons.1 ((insE_perm x _).mem_iff.1 h)
theorem bytes_put {H:Hp} {x:EntT} {zs:List Int} {ν1:Val} {j:Nat} {b:Nat × Nat} {ob:Obj} (hl:zs.length=x.l) (h:OR ν1 j (.row (List.map SV.v (zs.map (Value.int .u8))) 5 (0,0) (some 1)) ob):BytesAt (H.put b.1 ob) ⟨x.p,x.v,x.k,some ⟨b.1,0,none⟩,x.l,b.2⟩ zs:=by
 obtain ⟨vs,rest,rfl,hv,_⟩:=h
 obtain rfl:=ys_val hv
 exact .inr ⟨b.1,rest,rfl,by rw [Hp.put_self];simp,hl⟩
def entV (e:EntM):MapEntry:={ key:=.string e.1.p,val:=.agg (eV e.1).toArray,born:=e.2 }
theorem entR_mC {ν:Val}:∀ {E:List EntM} {l:List MapEntry},EntR ν (E.map mC) l→l=E.map entV
 | [],_,h=>h
 | e::E,_,h=>by
  obtain ⟨z,zs,rfl,h1,h2,h3,h4⟩:=h
  have e1:z.key=.string e.1.p:=VR.v_iff.1 h1
  obtain ⟨a,hq,ha⟩:=VR.agg_iff.1 h2
  have e2:a=eV e.1:=plain_sol ha (VRL.lits ν (eV e.1))
  rw [entR_mC h4,List.map_cons]
  congr 1
  obtain ⟨k,v,n⟩:=z
  dsimp only at e1 hq h3
  subst e1 hq e2
  have h3:e.2=n:=h3
  subst h3;rfl
structure BookAt (w:World) (b m:Nat) (s:Int) (E:List EntM) (cl:Nat):Prop where
 row:w.heap[b]?=some (.cells #[.int .u64 s,.map (some m)] 84 (0,0))
 map:w.heap[m]?=some (.map (E.map entV).toArray cl)
def RPl (D : List EntT) (ys : EntT → List Int) (w0 : World) (e : Ending) (w' : World) : Prop := Below w0.heap.size w0 w' ∧ ∃ b v, e = .returned (.tuple #[.pointer (some ⟨b, 0, none⟩), v, .bool true]) ∧ w0.heap.size ≤ b ∧
  ((w'.heap[b]? = some (.cells #[.int .u64 0, .map none] 84 (0, 0)) ∧ v = .agg #[.int .u64 0, .slice none 0 0]) ∨
   ∃ m E cl xs y, w0.heap.size ≤ m ∧ BookAt w' b m 0 E cl ∧ v = .agg #[.int .u64 0, y] ∧ NewSl w0 w' y (vE xs) xs.length 4 46 ∧ Inv (contH w'.hp) ys E cl xs ∧ (∀ e ∈ E, ∃ zs, BytesAt w'.hp e.1 zs ∧ NewA w0 e.1) ∧ (∀ e ∈ xs, e ∈ D) ∧ xs ≠ [])
section
variable {w0:World} {cs0:List Frame} {D:List EntT} {ys:EntT→List Int} {M:Own} {off c:Nat} {ν:Val}
theorem round1 (hX:PX D ys w0) (hM:∀ z,¬ M z) (hD:DIn D) {i:Nat} (hi:i<D.length) (hν0:∀ i b,ν i=some b→i=0)
  (ih:∀ H M1 w1 E cl xs,St D ys w0 M H M1 w1 E cl xs→xs≠[]→Goes (EPl D ys) M1 w1 cs0 7 (RPl D ys w0) ν (SM.at (hdPl off D.length c ((i+1:Nat):Int)) 6 (obj1 (rowsAt eC off D) (E.map mC) cl (cE xs) xs.length)))
  {H:Hp} {M1:Own} {w1:World} {E:List EntM} {cl:Nat} {xs:List EntT} (hS:St D ys w0 M H M1 w1 E cl xs) (hne:xs≠[]):
  Goes (EPl D ys) M1 w1 cs0 7 (RPl D ys w0) ν (SM.at (hdPl off D.length c (i:Int)) 6 (obj1 (rowsAt eC off D) (E.map mC) cl (cE xs) xs.length)):=by
 have hI:=hS.inv
 generalize hx:D[i]=x
 have hxi:D[i]?=some x:=by rw [← hx];exact List.getElem?_eq_getElem hi
 have hxD:x∈D:=by rw [← hx];exact List.getElem_mem hi
 have few:=hD.few
 have t1:decide ((i:Int)<(D.length:Int))=true:=decide_eq_true (by omega)
 have r1:=in_range hi
 have ws:=wrap_succ (k:=i) (by omega)
 have ra:=rowsAt_at (off:=off) eC_len hxi
 have hcl:(rowsAt eC off D).all closedSV=true:=rowsAt_closed eC_closed
 have x1:=hD.size x hxD
 obtain ⟨x2,x3⟩:=hD.v x hxD
 have hyl:(ys x).length=x.l:=(hX.2 x hxD).1
 have hy0:x.a=none→ys x=[]:=fun h=>List.length_eq_zero_iff.1 (by rw [hyl,hD.nil x hxD h])
 have hfew:=hI.few
 have hh:HoldsE (cE xs) xs.length xs:=holdsE xs (by omega)
 have hPI:PutIn xs x:=⟨x1,⟨x2,x3⟩,hI.sorted.names,hI.size⟩
 have hlen:=hI.len
 have hBI:BookIn (E.map mC) cl:=⟨E,rfl,hI.ok⟩
 by_cases hc:entN x.p x.v x.k x.l=0
 ·have en:(!entN x.1 x.2 x.3 x.5==(0:Int))=false:=by rw [show entN x.1 x.2 x.3 x.5=0 from hc];rfl
  have hvp:=ver_pos hc x2
  have hxf:=user_full hc
  by_cases hit:∃ f∈E,f.1.p=x.p
  ·obtain ⟨f,hf,hp⟩:=hit
   obtain ⟨j,hj,hjE⟩:=hit_at' hI.ok.names hf
   rw [hp] at hj
   have hj1:=hj.1
   have hj2:(E.map mC)[j]?=some (SV.v (Value.string x.1),SV.agg [SV.v (Value.string x.1),SV.v (Value.int IntKind.u64 f.1.2),SV.v (Value.int IntKind.i64 f.1.3),SV.v (Value.slice f.1.4 f.1.5 f.1.6)],f.2):=by
    rw [hj.2];unfold valM;rw [hp]
   obtain ⟨hfv,hdl⟩:=hI.find_hit hf hp
   by_cases hv:f.1.v≥x.v
   ·have hr:refPut xs x=(xs,31):=by unfold refPut;rw [if_neg (by simpa using hc),if_pos (by rw [hfv];exact hv)]
    have c2:(!decide (x.2>f.1.2))=true:=by simpa using hv
    refine Goes.reach (KPl hM hS.kept.base hX) (k:=2) (n:=400) (o:=(ff [0] true++[(2,.cells (eC x))]++ff [3,6] false++[(8,.hit j (.agg [.v (.string x.p),.v (.int .u64 f.1.v),.v (.int .i64 f.1.k),.v (.slice f.1.a f.1.l f.1.c)]) f.2)]++ff [14] true++ff [15] false)) (ren:=[(0,0),(1,1),(2,2),(3,3),(4,4),(5,5)]) (eqs:=[0,4,5]) ?_ (by kernel_rfl) (fun i b h=>by rw [hν0 i b h];rfl) (ih H M1 w1 E cl xs hS hne)
    rw [pm2 (f:=f.1) (g:=x) (j:=j) (born:=f.2)]
    simp only [Owed,t1,r1,ra,ws,en,eC_len,cE_closed,hcl,entX,entsOf_cE,hr,closedM,hPI,hh,hne,x1,x2,x3,cE_map,c2,hj2,and_self,and_true,true_and]
    try (repeat' apply And.intro)
    all_goals first | rfl | assumption | exact hh | exact ba_beq _ | exact hxD | exact ys_closed _ | decide | (simp;done) | exact mod_map (fun e=>rfl) E _ | exact close_mod (fun e=>rfl) E _ | exact close_snoc (E:=[]) rfl | exact close_snoc rfl | (rw [List.map_append];rfl) | (rw [erase_map,List.map_append];rfl) | (rw [erase_map];exact close_snoc rfl) | skip
   ·have hr:refPut xs x=(insE x (dropE x.p xs),0):=by unfold refPut;rw [if_neg (by simpa using hc),if_neg (by rw [hfv];exact hv),if_neg (by omega)]
    have c2:(!decide (x.2>f.1.2))=false:=by simpa using hv
    have inv:∀ cm:EntT→List Int,(∀ e∈E,contH H e.1=cm e.1)→∀ y:EntT,KE cm y=KE ys x→Inv cm ys (E.modify j fun e=>(y,e.2)) cl (insE x (dropE x.p xs)):=fun cm hcm y hy=>by
     have hI:=hI.cont hcm
     refine Inv.new (hI.ok.mod hjE (by rw [hp];exact (Prod.mk.inj hy).1)) ?_ (hI.sorted.drop _) drop_no (by omega)
     refine ((modify_perm hjE).map (KM cm)).trans ?_
     rw [List.map_cons,erase_drop hI.ok.names hjE,hp,drop_key]
     show (KE cm y::_).Perm _
     rw [hy]
     exact (hI.twin.filter _).cons _
    by_cases hn:x.a=none
    ·have hb0:BytesAt H (⟨x.p,x.v,x.k,none,0,0⟩:EntT) (ys x):=.inl ⟨rfl,rfl,hy0 hn⟩
     have nx:=ih H M1 w1 (E.modify j fun e=>((⟨x.p,x.v,x.k,none,0,0⟩:EntT),e.2)) cl _ (hS.next (x:=x) hS.kept (Hp.Sub.refl _) hb0 (fun a h=>by cases h) (fun e he=>(modify_mem hjE he).elim (fun h=>.inl (by rw [h])) .inr) hxD (fun e he=>ins_mem he) fun hc=>inv _ hc (⟨x.p,x.v,x.k,none,0,0⟩:EntT) (by unfold KE;rw [hb0.cont])) (insE_ne _ _)
     refine Goes.reach (KPl hM hS.kept.base hX) (k:=2) (n:=400) (o:=(ff [0] true++[(2,.cells (eC x))]++ff [3] true++ff [6] false++[(8,.hit j (.agg [.v (.string x.p),.v (.int .u64 f.1.v),.v (.int .i64 f.1.k),.v (.slice f.1.a f.1.l f.1.c)]) f.2)]++ff [14] false++ff [24] false++[(26,.hit j (.agg [.v (.string x.p),.v (.int .u64 f.1.v),.v (.int .i64 f.1.k),.v (.slice f.1.a f.1.l f.1.c)]) f.2)])) (ren:=[(0,0),(1,1),(2,2),(3,3),(4,4),(5,7)]) (eqs:=[0,4,5]) ?_ (by kernel_rfl) (fun i b h=>by rw [hν0 i b h];rfl) nx
     rw [pb1n (f:=f.1) (g:=x) (j:=j) (born:=f.2)]
     simp only [Owed,t1,r1,ra,ws,en,eC_len,cE_closed,hcl,entX,entsOf_cE,hr,closedM,hPI,hh,hne,x1,x2,x3,cE_map,c2,hj2,and_self,and_true,true_and]
     try (repeat' apply And.intro)
     all_goals first | rfl | assumption | exact hh | exact ba_beq _ | exact hxD | exact ys_closed _ | decide | (simp;done) | exact mod_map (fun e=>rfl) E _ | exact close_mod (fun e=>rfl) E _ | exact close_snoc (E:=[]) rfl | exact close_snoc rfl | (rw [List.map_append];rfl) | (rw [erase_map,List.map_append];rfl) | (rw [erase_map];exact close_snoc rfl) | skip
    ·refine Goes.reachF (KPl hM hS.kept.base hX) hM hS.kept (k:=2) (n:=400) (o:=(ff [0] true++[(2,.cells (eC x))]++ff [3] true++ff [6] false++[(8,.hit j (.agg [.v (.string x.p),.v (.int .u64 f.1.v),.v (.int .i64 f.1.k),.v (.slice f.1.a f.1.l f.1.c)]) f.2)]++ff [14] false++ff [24] true++[(26,.hit j (.agg [.v (.string x.p),.v (.int .u64 f.1.v),.v (.int .i64 f.1.k),.v (.slice f.1.a f.1.l f.1.c)]) f.2)])) (ren:=[(0,0),(1,1),(2,2),(3,3),(4,4),(5,7)]) (eqs:=[0,4,5]) (m:=4) (j:=14) (so:=.row (List.map SV.v ((ys x).map (Value.int .u8))) 5 (0,0) (some 1)) (fun b=>?_) (by kernel_rfl) (fun i b h=>by rw [hν0 i b h];rfl) (fun ν1 b ob M2 w2 hb1 hor hK hsub hbn=>ih (H.put b.1 ob) M2 w2 (E.modify j fun e=>((⟨x.p,x.v,x.k,some ⟨b.1,0,none⟩,x.l,b.2⟩:EntT),e.2)) cl _ (hS.next (x:=x) hK hsub (bytes_put hyl hor) (fun a h=>by cases h;exact hbn) (fun e he=>(modify_mem hjE he).elim (fun h=>.inl (by rw [h])) .inr) hxD (fun e he=>ins_mem he) fun hc=>inv _ hc (⟨x.p,x.v,x.k,some ⟨b.1,0,none⟩,x.l,b.2⟩:EntT) (by unfold KE;rw [(bytes_put (H:=H) (b:=b) (x:=x) hyl hor).cont])) (insE_ne _ _))
     rw [pb1 (f:=f.1) (g:=x) (j:=j) (born:=f.2)]
     simp only [Owed,t1,r1,ra,ws,en,eC_len,cE_closed,hcl,entX,entsOf_cE,hr,closedM,hPI,hh,hne,x1,x2,x3,cE_map,c2,hj2,and_self,and_true,true_and]
     try (repeat' apply And.intro)
     all_goals first | rfl | assumption | exact hh | exact ba_beq _ | exact hxD | exact ys_closed _ | decide | (simp;done) | exact mod_map (fun e=>rfl) E _ | exact close_mod (fun e=>rfl) E _ | exact close_snoc (E:=[]) rfl | exact close_snoc rfl | (rw [List.map_append];rfl) | (rw [erase_map,List.map_append];rfl) | (rw [erase_map];exact close_snoc rfl) | skip
  ·have hm:∀ f∈E,f.1.p≠x.p:=fun f hf h=>hit ⟨f,hf,h⟩
   have hms:=miss_at hm
   have hxs:=hI.miss hm
   obtain ⟨hfn,hdn⟩:=find_none hxs
   have hnv:¬ (findE x.p xs).v≥x.v:=by rw [hfn];show ¬ (0:Int)≥x.v;omega
   by_cases hl:xs.length≥256
   ·have c3:decide (((E.map mC).length:Int)≥(256:Int))=true:=decide_eq_true (by rw [List.length_map];omega)
    cases hb:bestL xs with
    | none=>
     have hr:refPut xs x=(xs,24):=by unfold refPut;rw [if_neg (by simpa using hc),if_neg hnv,hdn,if_pos hl,hb]
     have hbg:=bestG_eq hI.ok (hI.best_none hb)
     have c4:(!!(bestG (E.map mC)).toList==({ data:={ toList:=[]:Array UInt8 } }:ByteArray).toList)=true:=by rw [hbg];simp
     refine Goes.reach (KPl hM hS.kept.base hX) (k:=2) (n:=400) (o:=(ff [0] true++[(2,.cells (eC x))]++ff [3,6] false++[(8,.miss)]++ff [22,24] true++ff [25] false)) (ren:=[(0,0),(1,1),(2,2),(3,3),(4,4),(5,5)]) (eqs:=[0,4,5]) ?_ (by kernel_rfl) (fun i b h=>by rw [hν0 i b h];rfl) (ih H M1 w1 E cl xs hS hne)
     rw [pm3 (f:=x) (g:=x) (j:=0) (born:=0)]
     simp only [Owed,t1,r1,ra,ws,en,eC_len,cE_closed,hcl,entX,entsOf_cE,hr,closedM,hPI,hh,hne,x1,x2,x3,cE_map,c3,c4,and_self,and_true,true_and]
     try (repeat' apply And.intro)
     all_goals first | rfl | assumption | exact hh | exact ba_beq _ | exact hxD | exact ys_closed _ | decide | (simp;done) | exact mod_map (fun e=>rfl) E _ | exact close_mod (fun e=>rfl) E _ | exact close_snoc (E:=[]) rfl | exact close_snoc rfl | (rw [List.map_append];rfl) | (rw [erase_map,List.map_append];rfl) | (rw [erase_map];exact close_snoc rfl) | skip
    | some e=>
     obtain ⟨hba,hex⟩:=hI.best_some hb
     have hbg:=bestG_eq hI.ok hba
     obtain ⟨g,hg,hgk⟩:=hI.to hex
     have hgp:=(key_p hgk).1
     obtain ⟨j,hj,hjE⟩:=hit_at' hI.ok.names hg
     have hgf:=hI.ok.full g hg
     have hj1:∀ e∈List.take j (E.map mC),keyNot (bestG (E.map mC)) e.fst:=by rw [hbg,← hgp];exact hj.1
     have hj2:(E.map mC)[j]?=some (SV.v (Value.string (bestG (E.map mC))),SV.agg [SV.v (Value.string g.1.1),SV.v (Value.int IntKind.u64 g.1.2),SV.v (Value.int IntKind.i64 g.1.3),SV.v (Value.slice g.1.4 g.1.5 g.1.6)],g.2):=by rw [hj.2,hbg,← hgp];rfl
     have c4:(!!(bestG (E.map mC)).toList==({ data:={ toList:=[]:Array UInt8 } }:ByteArray).toList)=false:=by rw [hbg,← hgp,toList_ne hgf];rfl
     have hr:refPut xs x=(insE x (dropE e.p xs),0):=by unfold refPut;rw [if_neg (by simpa using hc),if_neg hnv,hdn,if_pos hl,hb]
     have hdl:(dropE e.p xs).length<xs.length:=List.length_filter_lt_length_iff_exists.2 ⟨e,hex,by rw [isE_iff.2 rfl];simp⟩
     have hm':∀ f∈E.eraseIdx j,f.1.p≠x.p:=fun f hf=>hm f (List.mem_of_mem_eraseIdx hf)
     have hms':=miss_at hm'
     rw [← erase_map] at hms'
     have inv:∀ cm:EntT→List Int,(∀ e∈E,contH H e.1=cm e.1)→∀ y:EntT,KE cm y=KE ys x→Inv cm ys (E.eraseIdx j++[(y,cl)]) (cl+1) (insE x (dropE e.p xs)):=fun cm hcm y hy=>by
      have hI:=hI.cont hcm
      have hyp:y.p=x.p:=(Prod.mk.inj hy).1
      have hB':=hI.ok.sub (List.eraseIdx_sublist E j)
      refine Inv.new (hB'.snoc (by rw [hyp];exact hm') (by rw [hyp];exact hxf) (by rw [hyp];exact x1)) ?_ (hI.sorted.drop _) (fun z hz=>hxs z (List.mem_filter.1 hz).1) (by omega)
      refine keys_snoc.trans ?_
      rw [erase_drop hI.ok.names hjE,hgp,drop_key,hy]
      exact (hI.twin.filter _).cons _
     by_cases hn:x.a=none
     ·have hb0:BytesAt H (⟨x.p,x.v,x.k,none,0,0⟩:EntT) (ys x):=.inl ⟨rfl,rfl,hy0 hn⟩
      have nx:=ih H M1 w1 (E.eraseIdx j++[((⟨x.p,x.v,x.k,none,0,0⟩:EntT),cl)]) (cl+1) _ (hS.next (x:=x) hS.kept (Hp.Sub.refl _) hb0 (fun a h=>by cases h) (fun e he=>(List.mem_append.1 he).elim (fun h=>.inr (List.mem_of_mem_eraseIdx h)) fun h=>.inl (by rw [List.mem_singleton.1 h])) hxD (fun e he=>ins_mem he) fun hc=>inv _ hc (⟨x.p,x.v,x.k,none,0,0⟩:EntT) (by unfold KE;rw [hb0.cont])) (insE_ne _ _)
      refine Goes.reach (KPl hM hS.kept.base hX) (k:=2) (n:=400) (o:=(ff [0] true++[(2,.cells (eC x))]++ff [3] true++ff [6] false++[(8,.miss)]++ff [22] true++ff [24] false++[(25,.hit j (.agg [.v (.string g.1.p),.v (.int .u64 g.1.v),.v (.int .i64 g.1.k),.v (.slice g.1.a g.1.l g.1.c)]) g.2)]++ff [27] false++[(29,.miss)])) (ren:=[(0,0),(1,1),(2,2),(3,3),(4,4),(5,7)]) (eqs:=[0,4,5]) ?_ (by kernel_rfl) (fun i b h=>by rw [hν0 i b h];rfl) nx
      rw [pb3n (f:=x) (g:=g.1) (j:=j) (born:=g.2)]
      simp only [Owed,t1,r1,ra,ws,en,eC_len,cE_closed,hcl,entX,entsOf_cE,hr,closedM,hPI,hh,hne,x1,x2,x3,cE_map,c3,c4,hj2,and_self,and_true,true_and]
      try (repeat' apply And.intro)
      all_goals first | rfl | assumption | exact hh | exact ba_beq _ | exact hxD | exact ys_closed _ | decide | (simp;done) | exact mod_map (fun e=>rfl) E _ | exact close_mod (fun e=>rfl) E _ | exact close_snoc (E:=[]) rfl | exact close_snoc rfl | (rw [List.map_append];rfl) | (rw [erase_map,List.map_append];rfl) | (rw [erase_map];exact close_snoc rfl) | skip
     ·refine Goes.reachF (KPl hM hS.kept.base hX) hM hS.kept (k:=2) (n:=400) (o:=(ff [0] true++[(2,.cells (eC x))]++ff [3] true++ff [6] false++[(8,.miss)]++ff [22] true++ff [24] false++[(25,.hit j (.agg [.v (.string g.1.p),.v (.int .u64 g.1.v),.v (.int .i64 g.1.k),.v (.slice g.1.a g.1.l g.1.c)]) g.2)]++ff [27] true++[(29,.miss)])) (ren:=[(0,0),(1,1),(2,2),(3,3),(4,4),(5,7)]) (eqs:=[0,4,5]) (m:=4) (j:=12) (so:=.row (List.map SV.v ((ys x).map (Value.int .u8))) 5 (0,0) (some 1)) (fun b=>?_) (by kernel_rfl) (fun i b h=>by rw [hν0 i b h];rfl) (fun ν1 b ob M2 w2 hb1 hor hK hsub hbn=>ih (H.put b.1 ob) M2 w2 (E.eraseIdx j++[((⟨x.p,x.v,x.k,some ⟨b.1,0,none⟩,x.l,b.2⟩:EntT),cl)]) (cl+1) _ (hS.next (x:=x) hK hsub (bytes_put hyl hor) (fun a h=>by cases h;exact hbn) (fun e he=>(List.mem_append.1 he).elim (fun h=>.inr (List.mem_of_mem_eraseIdx h)) fun h=>.inl (by rw [List.mem_singleton.1 h])) hxD (fun e he=>ins_mem he) fun hc=>inv _ hc (⟨x.p,x.v,x.k,some ⟨b.1,0,none⟩,x.l,b.2⟩:EntT) (by unfold KE;rw [(bytes_put (H:=H) (b:=b) (x:=x) hyl hor).cont])) (insE_ne _ _))
      rw [pb3 (f:=x) (g:=g.1) (j:=j) (born:=g.2)]
      simp only [Owed,t1,r1,ra,ws,en,eC_len,cE_closed,hcl,entX,entsOf_cE,hr,closedM,hPI,hh,hne,x1,x2,x3,cE_map,c3,c4,hj2,and_self,and_true,true_and]
      try (repeat' apply And.intro)
      all_goals first | rfl | assumption | exact hh | exact ba_beq _ | exact hxD | exact ys_closed _ | decide | (simp;done) | exact mod_map (fun e=>rfl) E _ | exact close_mod (fun e=>rfl) E _ | exact close_snoc (E:=[]) rfl | exact close_snoc rfl | (rw [List.map_append];rfl) | (rw [erase_map,List.map_append];rfl) | (rw [erase_map];exact close_snoc rfl) | skip
   ·have c3:decide (((E.map mC).length:Int)≥(256:Int))=false:=decide_eq_false (by rw [List.length_map];omega)
    have hr:refPut xs x=(insE x xs,0):=by unfold refPut;rw [if_neg (by simpa using hc),if_neg hnv,hdn,if_neg hl]
    have inv:∀ cm:EntT→List Int,(∀ e∈E,contH H e.1=cm e.1)→∀ y:EntT,KE cm y=KE ys x→Inv cm ys (E++[(y,cl)]) (cl+1) (insE x xs):=fun cm hcm y hy=>by
     have hI:=hI.cont hcm
     have hyp:y.p=x.p:=(Prod.mk.inj hy).1
     refine Inv.new (hI.ok.snoc (by rw [hyp];exact hm) (by rw [hyp];exact hxf) (by rw [hyp];exact x1)) ?_ hI.sorted hxs (by omega)
     refine keys_snoc.trans ?_
     rw [hy]
     exact hI.twin.cons _
    by_cases hn:x.a=none
    ·have hb0:BytesAt H (⟨x.p,x.v,x.k,none,0,0⟩:EntT) (ys x):=.inl ⟨rfl,rfl,hy0 hn⟩
     have nx:=ih H M1 w1 (E++[((⟨x.p,x.v,x.k,none,0,0⟩:EntT),cl)]) (cl+1) _ (hS.next (x:=x) hS.kept (Hp.Sub.refl _) hb0 (fun a h=>by cases h) (fun e he=>(List.mem_append.1 he).elim (fun h=>.inr h) fun h=>.inl (by rw [List.mem_singleton.1 h])) hxD (fun e he=>ins_mem' he) fun hc=>inv _ hc (⟨x.p,x.v,x.k,none,0,0⟩:EntT) (by unfold KE;rw [hb0.cont])) (insE_ne _ _)
     refine Goes.reach (KPl hM hS.kept.base hX) (k:=2) (n:=400) (o:=(ff [0] true++[(2,.cells (eC x))]++ff [3] true++ff [6] false++[(8,.miss)]++ff [22] false++ff [24] false++[(26,.miss)])) (ren:=[(0,0),(1,1),(2,2),(3,3),(4,4),(5,7)]) (eqs:=[0,4,5]) ?_ (by kernel_rfl) (fun i b h=>by rw [hν0 i b h];rfl) nx
     rw [pb2n (f:=x) (g:=x) (j:=0) (born:=0)]
     simp only [Owed,t1,r1,ra,ws,en,eC_len,cE_closed,hcl,entX,entsOf_cE,hr,closedM,hPI,hh,hne,x1,x2,x3,cE_map,c3,and_self,and_true,true_and]
     try (repeat' apply And.intro)
     all_goals first | rfl | assumption | exact hh | exact ba_beq _ | exact hxD | exact ys_closed _ | decide | (simp;done) | exact mod_map (fun e=>rfl) E _ | exact close_mod (fun e=>rfl) E _ | exact close_snoc (E:=[]) rfl | exact close_snoc rfl | (rw [List.map_append];rfl) | (rw [erase_map,List.map_append];rfl) | (rw [erase_map];exact close_snoc rfl) | skip
    ·refine Goes.reachF (KPl hM hS.kept.base hX) hM hS.kept (k:=2) (n:=400) (o:=(ff [0] true++[(2,.cells (eC x))]++ff [3] true++ff [6] false++[(8,.miss)]++ff [22] false++ff [24] true++[(26,.miss)])) (ren:=[(0,0),(1,1),(2,2),(3,3),(4,4),(5,7)]) (eqs:=[0,4,5]) (m:=4) (j:=12) (so:=.row (List.map SV.v ((ys x).map (Value.int .u8))) 5 (0,0) (some 1)) (fun b=>?_) (by kernel_rfl) (fun i b h=>by rw [hν0 i b h];rfl) (fun ν1 b ob M2 w2 hb1 hor hK hsub hbn=>ih (H.put b.1 ob) M2 w2 (E++[((⟨x.p,x.v,x.k,some ⟨b.1,0,none⟩,x.l,b.2⟩:EntT),cl)]) (cl+1) _ (hS.next (x:=x) hK hsub (bytes_put hyl hor) (fun a h=>by cases h;exact hbn) (fun e he=>(List.mem_append.1 he).elim (fun h=>.inr h) fun h=>.inl (by rw [List.mem_singleton.1 h])) hxD (fun e he=>ins_mem' he) fun hc=>inv _ hc (⟨x.p,x.v,x.k,some ⟨b.1,0,none⟩,x.l,b.2⟩:EntT) (by unfold KE;rw [(bytes_put (H:=H) (b:=b) (x:=x) hyl hor).cont])) (insE_ne _ _))
     rw [pb2 (f:=x) (g:=x) (j:=0) (born:=0)]
     simp only [Owed,t1,r1,ra,ws,en,eC_len,cE_closed,hcl,entX,entsOf_cE,hr,closedM,hPI,hh,hne,x1,x2,x3,cE_map,c3,and_self,and_true,true_and]
     try (repeat' apply And.intro)
     all_goals first | rfl | assumption | exact hh | exact ba_beq _ | exact hxD | exact ys_closed _ | decide | (simp;done) | exact mod_map (fun e=>rfl) E _ | exact close_mod (fun e=>rfl) E _ | exact close_snoc (E:=[]) rfl | exact close_snoc rfl | (rw [List.map_append];rfl) | (rw [erase_map,List.map_append];rfl) | (rw [erase_map];exact close_snoc rfl) | skip
 ·have en:(!entN x.1 x.2 x.3 x.5==(0:Int))=true:=by simpa using hc
  have hr:refPut xs x=(xs,entN x.p x.v x.k x.l):=by unfold refPut;rw [if_pos hc]
  refine Goes.reach (KPl hM hS.kept.base hX) (k:=2) (n:=400) (o:=(ff [0] true++[(2,.cells (eC x))]++ff [3] false++ff [6] true++ff [7] false)) (ren:=[(0,0),(1,1),(2,2),(3,3),(4,4),(5,5)]) (eqs:=[0,4,5]) ?_ (by kernel_rfl) (fun i b h=>by rw [hν0 i b h];rfl) (ih H M1 w1 E cl xs hS hne)
  rw [pm1 (f:=x) (g:=x) (j:=0) (born:=0)]
  simp only [Owed,t1,r1,ra,ws,en,eC_len,cE_closed,hcl,entX,entsOf_cE,hr,closedM,hPI,hh,hne,x1,x2,x3,cE_map, and_self,and_true,true_and]
  try (repeat' apply And.intro)
  all_goals first | rfl | assumption | exact hh | exact ba_beq _ | exact hxD | exact ys_closed _ | decide | (simp;done) | exact mod_map (fun e=>rfl) E _ | exact close_mod (fun e=>rfl) E _ | exact close_snoc (E:=[]) rfl | exact close_snoc rfl | (rw [List.map_append];rfl) | (rw [erase_map,List.map_append];rfl) | (rw [erase_map];exact close_snoc rfl) | skip
end
theorem pln (a : Option Addr) (c : Nat) : endsM (EPl [] fun _ => []) 7 100 (entE (EPl [] fun _ => []) 7 [.v (.slice a 0 c)]) [(1000, .b true)] [(0, 1)] [] (.tup [.ptr 0 0, .v (.agg #[.int .u64 0, .slice none 0 0]), .v (.bool true)]) [bk0] = [
  (0 : Nat) = (0 : Nat),
  Value.agg { toList := [Value.int IntKind.u64 (0 : Int), Value.slice none (0 : Nat) (0 : Nat)] : Array Value } =
   Value.agg { toList := [Value.int IntKind.u64 (0 : Int), Value.slice none (0 : Nat) (0 : Nat)] : Array Value },
  Value.bool true = Value.bool true,
  Value.int IntKind.u64 (0 : Int) = Value.int IntKind.u64 (0 : Int),
  Value.map none = Value.map none,
  true = true,
  true = true] := by kernel_rfl
theorem Inv.nil {cm ys:EntT→List Int}:Inv cm ys [] 0 []:=
 ⟨⟨by simp,by simp,fun e he=>(nomatch he),fun e he=>(nomatch he),fun e he=>(nomatch he)⟩,List.Perm.refl _,List.Pairwise.nil,by simp⟩
theorem St.nil {D:List EntT} {ys:EntT→List Int} {w0:World} {M:Own} {H:Hp} {M1:Own} {w1:World} (hk:Kept w0.hp M w0 H M1 w1):St D ys w0 M H M1 w1 [] 0 []:=
 ⟨hk,Inv.nil,fun e he=>(nomatch he),fun e he=>(nomatch he)⟩
section
variable {w0:World} {cs0:List Frame} {D:List EntT} {ys:EntT→List Int} {M:Own} {off c:Nat} {ν:Val}
theorem round0 (hX:PX D ys w0) (hM:∀ z,¬ M z) (hD:DIn D) {i:Nat} (hi:i<D.length) (hν0:∀ i b,ν i=some b→i=0)
  (ih:∀ H M1 w1 E cl xs,St D ys w0 M H M1 w1 E cl xs→xs≠[]→Goes (EPl D ys) M1 w1 cs0 7 (RPl D ys w0) ν (SM.at (hdPl off D.length c ((i+1:Nat):Int)) 6 (obj1 (rowsAt eC off D) (E.map mC) cl (cE xs) xs.length)))
  (ih0:∀ H M1 w1,Kept w0.hp M w0 H M1 w1→Goes (EPl D ys) M1 w1 cs0 7 (RPl D ys w0) ν (SM.at (hdPl off D.length c ((i+1:Nat):Int)) 6 (obj0 (rowsAt eC off D))))
  {H:Hp} {M1:Own} {w1:World} (hk:Kept w0.hp M w0 H M1 w1):Goes (EPl D ys) M1 w1 cs0 7 (RPl D ys w0) ν (SM.at (hdPl off D.length c (i:Int)) 6 (obj0 (rowsAt eC off D))):=by
 have hS:=St.nil (D:=D) (ys:=ys) hk
 have hI:=hS.inv
 generalize hx:D[i]=x
 have hxi:D[i]?=some x:=by rw [← hx];exact List.getElem?_eq_getElem hi
 have hxD:x∈D:=by rw [← hx];exact List.getElem_mem hi
 have few:=hD.few
 have t1:decide ((i:Int)<(D.length:Int))=true:=decide_eq_true (by omega)
 have r1:=in_range hi
 have ws:=wrap_succ (k:=i) (by omega)
 have ra:=rowsAt_at (off:=off) eC_len hxi
 have hcl:(rowsAt eC off D).all closedSV=true:=rowsAt_closed eC_closed
 have x1:=hD.size x hxD
 obtain ⟨x2,x3⟩:=hD.v x hxD
 have hyl:(ys x).length=x.l:=(hX.2 x hxD).1
 have hy0:x.a=none→ys x=[]:=fun h=>List.length_eq_zero_iff.1 (by rw [hyl,hD.nil x hxD h])
 have hPI:PutIn [] x:=⟨x1,⟨x2,x3⟩,by simp,fun e he=>(nomatch he)⟩
 by_cases hc:entN x.p x.v x.k x.l=0
 ·have en:(!entN x.1 x.2 x.3 x.5==(0:Int))=false:=by rw [show entN x.1 x.2 x.3 x.5=0 from hc];rfl
  have hvp:=ver_pos hc x2
  have hxf:=user_full hc
  have hr:refPut [] x=(insE x [],0):=by
   unfold refPut
   rw [if_neg (by simpa using hc),if_neg (by show ¬ (0:Int)≥x.v;omega),if_neg (by show ¬ (0:Nat)≥256;omega)]
   rfl
  have inv:∀ cm:EntT→List Int,∀ y:EntT,KE cm y=KE ys x→Inv cm ys ([]++[(y,0)]) (0+1) (insE x []):=fun cm y hy=>by
   have hI:=Inv.nil (cm:=cm) (ys:=ys)
   have hyp:y.p=x.p:=(Prod.mk.inj hy).1
   refine Inv.new (hI.ok.snoc (fun e he=>by cases he) (by rw [hyp];exact hxf) (by rw [hyp];exact x1)) ?_ hI.sorted (fun e he=>by cases he) (by simp)
   refine keys_snoc.trans ?_
   rw [hy]
   exact hI.twin.cons _
  by_cases hn:x.a=none
  ·have hb0:BytesAt H (⟨x.p,x.v,x.k,none,0,0⟩:EntT) (ys x):=.inl ⟨rfl,rfl,hy0 hn⟩
   have nx:=ih H M1 w1 ([]++[((⟨x.p,x.v,x.k,none,0,0⟩:EntT),0)]) (0+1) _ (hS.next (x:=x) hS.kept (Hp.Sub.refl _) hb0 (fun a h=>by cases h) (fun e he=>.inl (by rw [List.mem_singleton.1 he])) hxD (fun e he=>ins_mem' he) fun _=>inv _ (⟨x.p,x.v,x.k,none,0,0⟩:EntT) (by unfold KE;rw [hb0.cont])) (insE_ne _ _)
   refine Goes.reach (KPl hM hS.kept.base hX) (k:=2) (n:=400) (o:=(ff [0] true++[(2,.cells (eC x))]++ff [3] true++ff [6] false++ff [23] false)) (ren:=[(0,0),(1,1),(2,2),(3,3),(4,10),(5,5)]) (eqs:=[0,4,5]) ?_ (by kernel_rfl) (fun i b h=>by rw [hν0 i b h];rfl) nx
   rw [pl3]
   simp only [Owed,t1,r1,ra,ws,en,eC_len,cE_closed,hcl,entX,hr,closedM,hPI,x1,x2,x3,cE_map,and_self,and_true,true_and]
   try (repeat' apply And.intro)
   all_goals first | rfl | assumption | exact ba_beq _ | exact hxD | decide | (simp;done) | skip
  ·refine Goes.reachF (KPl hM hS.kept.base hX) hM hS.kept (k:=2) (n:=400) (o:=(ff [0] true++[(2,.cells (eC x))]++ff [3] true++ff [6] false++ff [23] true)) (ren:=[(0,0),(1,1),(2,2),(3,3),(4,10),(5,5)]) (eqs:=[0,4,5]) (m:=10) (j:=11) (so:=.row (List.map SV.v ((ys x).map (Value.int .u8))) 5 (0,0) (some 1)) (fun b=>?_) (by kernel_rfl) (fun i b h=>by rw [hν0 i b h];rfl) (fun ν1 b ob M2 w2 hb1 hor hK hsub hbn=>ih (H.put b.1 ob) M2 w2 ([]++[((⟨x.p,x.v,x.k,some ⟨b.1,0,none⟩,x.l,b.2⟩:EntT),0)]) (0+1) _ (hS.next (x:=x) hK hsub (bytes_put hyl hor) (fun a h=>by cases h;exact hbn) (fun e he=>.inl (by rw [List.mem_singleton.1 he])) hxD (fun e he=>ins_mem' he) fun _=>inv _ (⟨x.p,x.v,x.k,some ⟨b.1,0,none⟩,x.l,b.2⟩:EntT) (by unfold KE;rw [(bytes_put (H:=H) (b:=b) (x:=x) hyl hor).cont])) (insE_ne _ _))
   rw [pl2]
   simp only [Owed,t1,r1,ra,ws,en,eC_len,cE_closed,hcl,entX,hr,closedM,hPI,x1,x2,x3,cE_map,and_self,and_true,true_and]
   try (repeat' apply And.intro)
   all_goals first | rfl | assumption | exact ba_beq _ | exact hxD | exact ys_closed _ | decide | (simp;done) | exact close_snoc (E:=[]) rfl | skip
 ·have en:(!entN x.1 x.2 x.3 x.5==(0:Int))=true:=by simpa using hc
  have hr:refPut [] x=([],entN x.p x.v x.k x.l):=by unfold refPut;rw [if_pos hc]
  refine Goes.reach (KPl hM hS.kept.base hX) (k:=2) (n:=300) (o:=(ff [0] true++[(2,.cells (eC x))]++ff [3] false++ff [6] true++ff [7] false)) (ren:=[(0,0),(1,1),(2,2),(3,3)]) (eqs:=[0]) ?_ (by kernel_rfl) (fun i b h=>by rw [hν0 i b h];rfl) (ih0 H M1 w1 hk)
  rw [pl1]
  simp only [Owed,t1,r1,ra,ws,en,eC_len,cE_closed,hcl,entX,hr,closedM,hPI,x1,x2,x3,and_self,and_true,true_and]
  try (repeat' apply And.intro)
  all_goals first | rfl | assumption | exact ba_beq _ | exact hxD | decide | (simp;done) | skip
theorem new_own (hM:∀ z,¬ M z) {M1 M3:Own} {w1 w3:World} {H:Hp} (hk:Kept w0.hp M w0 H M1 w1) {b:Nat} (h:w1.heap.size≤b∨M1 b):w0.heap.size≤b:=by
 rcases hk.base.own _ h with h | h
 ·exact h
 ·exact absurd h (hM _)
theorem end0 (hX:PX D ys w0) (hM:∀ z,¬ M z) (hD:DIn D) {H:Hp} {M1:Own} {w1:World} (hk:Kept w0.hp M w0 H M1 w1) {S:SM} {n:Nat} {o:List (Nat × Ans)} {ren:List (Nat × Nat)}
  (h:Due (endsM (EPl D ys) 7 n S o ren [] (.tup [.ptr 0 0,.v (.agg #[.int .u64 0,.slice none 0 0]),.v (.bool true)]) [bk0])):
  Goes (EPl D ys) M1 w1 cs0 7 (RPl D ys w0) ν S:=by
 refine Goes.endsM (KPl hM hk.base hX) h.out fun ν' w' y hle hv hE hh=>?_
 obtain ⟨M3,w3,s',hB,hr⟩:=hh
 have hbel:=below_of hM (hk.base.trans hB) hr
 obtain ⟨a,rfl,ha⟩:=VR.tup_iff.1 hv
 obtain ⟨y1,a,rfl,q1,ha⟩:=ha.cons_inv
 obtain ⟨y2,a,rfl,q2,ha⟩:=ha.cons_inv
 obtain ⟨y3,a,rfl,q3,ha⟩:=ha.cons_inv
 obtain rfl:=ha.nil_inv
 obtain ⟨b,hb,rfl⟩:=VR.ptr_iff.1 q1
 obtain rfl:=VR.v_iff.1 q2
 obtain rfl:=VR.v_iff.1 q3
 obtain ⟨b',ob,hb',ho,hor,hw⟩:=hE.obj 0 _ _ rfl
 rw [hb] at hb';cases hb'
 refine ⟨hbel,b.1,_,rfl,new_own (M3:=M3) (w3:=w3) hM hk (hw rfl),.inl ⟨?_,rfl⟩⟩
 obtain ⟨zs,rest,rfl,hz,hx⟩:=hor
 obtain ⟨z1,u,rfl,r1,hu⟩:=hz.cons_inv
 obtain ⟨z2,u2,rfl,r2,hu2⟩:=hu.cons_inv
 obtain rfl:=hu2.nil_inv
 obtain rfl:=VR.v_iff.1 r1
 obtain rfl:=VR.v_iff.1 r2
 have h0:rest=[]:=by
  have:([Value.int .u64 0,Value.map none]++rest).length=2:=hx
  simpa using this
 subst h0
 rw [ho];rfl
theorem end1 (hX:PX D ys w0) (hM:∀ z,¬ M z) (hD:DIn D) {H:Hp} {M1:Own} {w1:World} {E:List EntM} {cl:Nat} {xs:List EntT} (hS:St D ys w0 M H M1 w1 E cl xs) (hne:xs≠[]) {i:Int} (hi:¬ i<(D.length:Int)):
  Goes (EPl D ys) M1 w1 cs0 7 (RPl D ys w0) ν (SM.at (hdPl off D.length c i) 6 (obj1 (rowsAt eC off D) (E.map mC) cl (cE xs) xs.length)):=by
 refine Goes.endsM (KPl hM hS.kept.base hX) (n:=100) (o:=ff [0] false) (ren:=[(0,2),(1,4),(2,5)]) (eqs:=[1,2]) (x:=.tup [.ptr 0 0,.agg [.v (.int .u64 0),.sl 2 0 xs.length none],.v (.bool true)]) (l:=[bkF,mapW (E.map mC) cl,rowsE (cE xs)]) ?_ fun ν' w' y hle hv hE hh=>?_
 ·rw [pz1]
  simp only [Owed,closedM,cE_closed,decide_eq_false hi,and_self,and_true,true_and]
 obtain ⟨M3,w3,s',hB,hr⟩:=hh
 have hbel:=below_of hM (hS.kept.base.trans hB) hr
 have hnow:=hS.kept.now hB hr
 obtain ⟨a,rfl,ha⟩:=VR.tup_iff.1 hv
 obtain ⟨y1,a,rfl,q1,ha⟩:=ha.cons_inv
 obtain ⟨y2,a,rfl,q2,ha⟩:=ha.cons_inv
 obtain ⟨y3,a,rfl,q3,ha⟩:=ha.cons_inv
 obtain rfl:=ha.nil_inv
 obtain ⟨b,hb,rfl⟩:=VR.ptr_iff.1 q1
 obtain ⟨g,rfl,hg⟩:=VR.agg_iff.1 q2
 obtain ⟨g1,g,rfl,p1,hg⟩:=hg.cons_inv
 obtain ⟨g2,g,rfl,p2,hg⟩:=hg.cons_inv
 obtain rfl:=hg.nil_inv
 obtain rfl:=VR.v_iff.1 p1
 obtain rfl:=VR.v_iff.1 q3
 obtain ⟨b',ob,hb',ho,hor,hw⟩:=hE.obj 0 _ _ rfl
 rw [hb] at hb';cases hb'
 obtain ⟨bm,om,hbm,hom,horm,hwm⟩:=hE.obj 1 _ _ rfl
 obtain ⟨br,orr,hbr,hor2,horr,hwr⟩:=hE.obj 2 _ _ rfl
 have hcont:∀ e∈E,contH H e.1=contH w'.hp e.1:=fun e he=>by
  obtain ⟨zs,hz,_⟩:=hS.data e he
  rw [hz.cont,(hz.mono hnow).cont]
 refine ⟨hbel,b.1,_,rfl,new_own (M3:=M3) (w3:=w3) hM hS.kept (hw rfl),.inr ⟨bm.1,E,cl,xs,g2,new_own (M3:=M3) (w3:=w3) hM hS.kept (hwm rfl),⟨?_,?_⟩,rfl,?_,hS.inv.cont hcont,fun e he=>?_,hS.sub,hne⟩⟩
 ·obtain ⟨zs,rest,rfl,hz,hx⟩:=hor
  obtain ⟨z1,u,rfl,r1,hu⟩:=hz.cons_inv
  obtain ⟨z2,u2,rfl,r2,hu2⟩:=hu.cons_inv
  obtain rfl:=hu2.nil_inv
  obtain rfl:=VR.v_iff.1 r1
  obtain ⟨bm',hbm',rfl⟩:=VR.map_iff.1 r2
  rw [hbm] at hbm';cases hbm'
  have h0:rest=[]:=by
   have:([Value.int .u64 0,Value.map (some bm.1)]++rest).length=2:=hx
   simpa using this
  subst h0
  rw [ho];rfl
 ·obtain ⟨l,rfl,hl⟩:=horm
  rw [hom,entR_mC hl]
 ·refine NewSl.of_row p2 hbr hor2 horr (new_own (M3:=M3) (w3:=w3) hM hS.kept (hwr rfl)) fun zs hz=>cE_val hz
 ·obtain ⟨zs,hz,hn⟩:=hS.data e he
  exact ⟨zs,hz.mono hnow,hn⟩
theorem loopPl1 (hX:PX D ys w0) (hM:∀ z,¬ M z) (hD:DIn D) (hν0:∀ i b,ν i=some b→i=0):∀ (j i:Nat),i+j=D.length→∀ H M1 w1 E cl xs,St D ys w0 M H M1 w1 E cl xs→xs≠[]→
  Goes (EPl D ys) M1 w1 cs0 7 (RPl D ys w0) ν (SM.at (hdPl off D.length c (i:Int)) 6 (obj1 (rowsAt eC off D) (E.map mC) cl (cE xs) xs.length))
 | 0,i,hj,H,M1,w1,E,cl,xs,hS,hne=>end1 hX hM hD hS hne (by omega)
 | j+1,i,hj,H,M1,w1,E,cl,xs,hS,hne=>round1 hX hM hD (by omega) hν0 (fun H M1 w1 E cl xs hS hne=>loopPl1 hX hM hD hν0 j (i+1) (by omega) H M1 w1 E cl xs hS hne) hS hne
theorem loopPl0 (hX:PX D ys w0) (hM:∀ z,¬ M z) (hD:DIn D) (hν0:∀ i b,ν i=some b→i=0):∀ (j i:Nat),i+j=D.length→∀ H M1 w1,Kept w0.hp M w0 H M1 w1→
  Goes (EPl D ys) M1 w1 cs0 7 (RPl D ys w0) ν (SM.at (hdPl off D.length c (i:Int)) 6 (obj0 (rowsAt eC off D)))
 | 0,i,hj,H,M1,w1,hk=>by
  refine end0 hX hM hD hk (n:=100) (o:=ff [0] false) (ren:=[(0,2)]) ⟨?_⟩
  rw [pz0]
  simp only [Owed,decide_eq_false (show ¬ (i:Int)<(D.length:Int) by omega),and_self,and_true,true_and]
 | j+1,i,hj,H,M1,w1,hk=>round0 hX hM hD (by omega) hν0 (fun H M1 w1 E cl xs hS hne=>loopPl1 hX hM hD hν0 j (i+1) (by omega) H M1 w1 E cl xs hS hne) (fun H M1 w1 hk=>loopPl0 hX hM hD hν0 j (i+1) (by omega) H M1 w1 hk) hk
end
theorem plays_calls {W:World} {D:List EntT} {ys:EntT→List Int} {b off c:Nat} {cs:Array Value} {e:TypeId} {fz:Nat × Nat} (hX:PX D ys W) (hD:DIn D) (hlc:D.length≤c) (hh:W.heap[b]?=some (.cells cs e fz)) (hoff:off≤cs.size) (hc:∀ (k:Nat) (v:Value),(D.flatMap eV)[k]?=some v→cs[off+k]?=some v):
  Calls Tryz.prog 7 #[.slice (some ⟨b,off,none⟩) D.length c] W (RPl D ys W):=by
 refine calls_readR (E:=EPl D ys) rfl (d:=6) (l:=[(b,0)]) (os:=[.look (rowsAt eC off D)]) rfl (by simp) (by simp) ?_ rfl (args:=[.sl 0 off D.length (some c)]) (a:=[.slice (some ⟨b,off,none⟩) D.length c]) (S0:=entPl D ys (rowsAt eC off D) off D.length c) (by kernel_rfl) (VRL.cons (VR.sl_iff.2 ⟨(b,0),rfl,hlc,rfl⟩) VRL.nil) fun cs0=>?_
 ·intro j o' b' c' h1 h2
  match j with
  | 0=>
   simp only [List.getElem?_cons_zero,Option.some.injEq] at h1 h2
   subst h1
   cases h2
   exact ⟨_,hh,rowsAt_look (h:=eV) (fun ν x=>VRL.lits ν (eV x)) hoff hc⟩
  | j+1=>simp at h1
 ·have hM:∀ z,¬ (layOwn [(b,0)] ([SO.look (rowsAt eC off D)].map fun o=>(o,false))) z:=fun z=>layOwn_none
  have hν:∀ i c,layVal [(b,0)] i=some c→i=0:=fun i c h=>lay1' h
  have hK:=Kept.start (H0:=W.hp) (M:=layOwn [(b,0)] ([SO.look (rowsAt eC off D)].map fun o=>(o,false))) (w:=W) (Hp.Sub.refl _) (fun z o _=>hM z) (layOwn_r (by
   intro j o' m b' c' h1 h2
   match j with
   | 0=>
    simp only [List.map_cons,List.getElem?_cons_zero,Option.some.injEq] at h1 h2
    cases h1
    cases h2
    exact ⟨_,hh,rowsAt_look (h:=eV) (fun ν x=>VRL.lits ν (eV x)) hoff hc⟩
   | j+1=>simp at h1)) (fun _ h=>h)
  have hcl:(rowsAt eC off D).all closedSV=true:=rowsAt_closed eC_closed
  refine Goes.reach (KPl hM hK.base hX) (k:=2) (n:=60) (o:=[(1000,.b true)]) (ren:=[(0,0),(1,1),(2,2),(3,3)]) (eqs:=[0]) (F:=hdPl off D.length c 0) (d:=6) (l:=obj0 (rowsAt eC off D)) ?_ (by kernel_rfl) (fun i b h=>by rw [hν i b h];rfl) (loopPl0 hX hM hD hν D.length 0 (by omega) W.hp _ W hK)
  rw [pl0]
  simp only [Owed,hcl,and_self,and_true,true_and]
theorem plays_none {W:World} (hm:MX W) (ys:EntT→List Int) (a:Option Addr) (c:Nat):Calls Tryz.prog 7 #[.slice a 0 c] W (RPl [] ys W):=by
 have hX:PX [] (fun _=>[]) W:=⟨hm,fun x hx=>(nomatch hx)⟩
 have hD:DIn []:=⟨fun x hx=>(nomatch hx),fun x hx=>(nomatch hx),fun x hx=>(nomatch hx),Nat.zero_le _⟩
 have:Calls Tryz.prog 7 #[.slice a 0 c] W (RPl [] (fun _=>[]) W):=by
  refine calls_bareR (E:=EPl [] fun _=>[]) rfl rfl (args:=[.v (.slice a 0 c)]) (a:=[.slice a 0 c]) (S0:=entE (EPl [] fun _=>[]) 7 [.v (.slice a 0 c)]) (by kernel_rfl) (VRL.cons (VR.v_iff.2 rfl) VRL.nil) fun cs0=>?_
  have hK:=Kept.start (H0:=W.hp) (M:=layOwn [] []) (w:=W) (Hp.Sub.refl _) (fun z o _=>not_laid z) (fun z h=>by obtain ⟨i,o,c,h,_⟩:=h;simp at h) (fun _ h=>h)
  refine end0 hX not_laid hD hK (n:=100) (o:=[(1000,.b true)]) (ren:=[(0,1)]) ⟨?_⟩
  rw [pln]
  simp only [Owed,and_self,and_true,true_and]
 refine this.mono fun e w' ⟨h1,b,v,h2,h3,h4⟩=>⟨h1,b,v,h2,h3,?_⟩
 rcases h4 with h | ⟨m,E,cl,xs,y,_,_,_,_,_,_,h,hne⟩
 ·exact .inl h
 ·exfalso
  cases xs with
  | nil=>exact hne rfl
  | cons z zs=>exact absurd (h z List.mem_cons_self) (by simp)
noncomputable def ELt:Env:=EP [] []
noncomputable def entLt (l:List SV) (off n c:Nat):SM:=(enterS ELt 4 [.sl 0 off n (some c)] (memOf 6 1 0 [lkE l])).getD noSM
noncomputable def todoLt:List SI:=todoL ELt 2 60 (entLt [] 0 0 0) [(1000,.b true)]
noncomputable def hdLt (off n c:Nat) (z i:Int):SF:={ fn:=4,tm:=tmOf 30 5 ([.sl 0 off n (some c),.junk,.junk,.v (.int .i64 z),.junk,.junk,.sl 0 off n (some c),.v (.int .i64 n),.v (.int .i64 i)]++List.replicate 21 .junk),todo:=todoLt,defers:=[],ret:=false,kind:=.normal,ro:=none }
theorem lt0 (l:List SV) (off n c:Nat):reach ELt 2 60 (entLt l off n c) [(1000,.b true)] [(0,0)] [0] (hdLt off n c 0 0) 6 [lkE l]=[
 off=off∧n=n∧some c=some c,
 Value.int IntKind.i64 (0:Int)=Value.int IntKind.i64 (0:Int),
 off=off∧n=n∧some c=some c,
 Value.int IntKind.i64 (↑n:Int)=Value.int IntKind.i64 (↑n:Int),
 Value.int IntKind.i64 (0:Int)=Value.int IntKind.i64 (0:Int),
 l=l,
 l.all closedSV=true]:=by kernel_rfl
theorem lt1 (l : List SV) (off n c : Nat) (x : EntT) (z i z' i' : Int) : reach ELt 2 60 (SM.at (hdLt off n c z i) 6 [lkE l]) (ff [0] true ++ [(2, .cells (eC x))]) [(0, 0)] [0] (hdLt off n c z' i') 6 [lkE l] = [
  off = off ∧ n = n ∧ some c = some c,
  Value.int IntKind.i64 (IntKind.i64.wrap (z + IntKind.i64.wrap ((↑x.1.size : Int) + (↑x.5 : Int)))) =
   Value.int IntKind.i64 z',
  off = off ∧ n = n ∧ some c = some c,
  Value.int IntKind.i64 (↑n : Int) = Value.int IntKind.i64 (↑n : Int),
  Value.int IntKind.i64 (IntKind.i64.wrap (i + (1 : Int))) = Value.int IntKind.i64 i',
  l = l,
  l.all closedSV = true,
  List.take (4 : Nat) (List.drop (off + i.toNat * (4 : Nat)) l) = eC x ∧ (eC x).length = (4 : Nat),
  inRange i n = true,
  decide (i < (↑n : Int)) = true] := by kernel_rfl
theorem lt2 (l:List SV) (off n c:Nat) (z i:Int) (b:Bool):endsV ELt 4 60 (SM.at (hdLt off n c z i) 6 [lkE l]) (ff [0] false++ff [1,2,3,4,5] true) (.bool b)=[
 Value.bool (decide ((↑n:Int)≤(400:Int)))=Value.bool b,
 decide (z≤(20000:Int))=true,
 decide (z≤(20000:Int))=true,
 decide (z≤(20000:Int))=true,
 decide (z≤(20000:Int))=true,
 decide (i<(↑n:Int))=false]:=by kernel_rfl
theorem lt3 (l:List SV) (off n c:Nat) (z i:Int) (b:Bool):endsV ELt 4 60 (SM.at (hdLt off n c z i) 6 [lkE l]) (ff [0] false++ff [1,2,3,4,5] false) (.bool b)=[
 Value.bool false=Value.bool b,
 decide (z≤(20000:Int))=false,
 decide (z≤(20000:Int))=false,
 decide (z≤(20000:Int))=false,
 decide (z≤(20000:Int))=false,
 decide (i<(↑n:Int))=false]:=by kernel_rfl
theorem lt4 (a:Option Addr) (c:Nat) (b:Bool):endsV ELt 4 60 (entE ELt 4 [.v (.slice a 0 c)]) (ff [1000] true) (.bool b)=[
 Value.bool true=Value.bool b]:=by kernel_rfl
def sumL (z:Int) (xs:List EntT):Int:=xs.foldl (fun n e=>IntKind.i64.wrap (n+IntKind.i64.wrap ((e.p.size:Int)+(e.l:Int)))) z
def lightL (xs:List EntT):Bool:=decide (sumL 0 xs≤20000)&&decide ((xs.length:Int)≤400)
theorem sumL_snoc (z:Int) (xs:List EntT) (e:EntT):sumL z (xs++[e])=IntKind.i64.wrap (sumL z xs+IntKind.i64.wrap ((e.p.size:Int)+(e.l:Int))):=by
 unfold sumL;rw [List.foldl_append];rfl
theorem KLt {M:Own} {w0:World}:Facts ELt M w0:=factsP0 fun r h=>by cases h
section
variable {M:Own} {w0:World} {cs0:List Frame} {R:Ending→World→Prop} {ν:Val} {xs:List EntT} {off c:Nat}
theorem loopLt (hν:∀ i b,ν i=some b→i=0) (hl:xs.length≤9223372036854775807) (hM:∀ b,¬ M b) (hR:∀ w',Below w0.heap.size w0 w'→R (.returned (.bool (lightL xs))) w'):
  ∀ (j k:Nat),k+j=xs.length→Goes ELt M w0 cs0 4 R ν (SM.at (hdLt off xs.length c (sumL 0 (xs.take k)) k) 6 [lkE (rowsAt eC off xs)])
 | 0,k,hk=>by
  have hk:k=xs.length:=by omega
  by_cases h:sumL 0 (xs.take k)≤20000
  ·refine Goes.endsV KLt (n:=60) (o:=ff [0] false++ff [1,2,3,4,5] true) (v:=.bool (lightL xs)) ?_ fun ν' M1 w1 s' w' _ hB hr=>hR _ (below_of hM hB hr)
   rw [lt2]
   simp only [Owed,h,decide_true,hk,Int.lt_irrefl,decide_false,true_and,and_true]
   unfold lightL
   rw [hk,List.take_length] at h
   simp [h]
  ·refine Goes.endsV KLt (n:=60) (o:=ff [0] false++ff [1,2,3,4,5] false) (v:=.bool (lightL xs)) ?_ fun ν' M1 w1 s' w' _ hB hr=>hR _ (below_of hM hB hr)
   rw [lt3]
   simp only [Owed,h,decide_true,hk,Int.lt_irrefl,decide_false,true_and,and_true]
   unfold lightL
   rw [hk,List.take_length] at h
   simp [h]
 | j+1,k,hk=>by
  have hi:k<xs.length:=by omega
  have hxk:xs[k]?=some xs[k]:=List.getElem?_eq_getElem hi
  have t1:decide ((k:Int)<(xs.length:Int))=true:=decide_eq_true (by omega)
  have r1:=in_range hi
  have ws:IntKind.i64.wrap ((k:Int)+1)=((k+1:Nat):Int):=by rw [wi (by omega)];omega
  have ra:=rowsAt_at (off:=off) eC_len hxk
  have hcl:(rowsAt eC off xs).all closedSV=true:=rowsAt_closed eC_closed
  have nx:=loopLt hν hl hM hR j (k+1) (by omega)
  rw [List.take_succ_eq_append_getElem hi,sumL_snoc] at nx
  refine Goes.reach KLt (k:=2) (n:=60) (o:=(ff [0] true++[(2,.cells (eC xs[k]))])) (ren:=[(0,0)]) (eqs:=[0]) ?_ (by kernel_rfl) (fun i b h=>by rw [hν i b h];rfl) nx
  rw [lt1]
  simp only [Owed,Int.toNat_natCast,t1,r1,ws,ra,hcl,eC_len,and_self,and_true,true_and]
  try (repeat' apply And.intro)
  all_goals first | rfl | exact ws.symm | exact ws | skip
end
section
variable {H:Type} {enc:TypeId × Value→H} {P:Program} {W:World} {base:Nat} {spare:Nat→Bool} {held:Bool}
theorem trod_part {t ft:TypeId} {i o k n:Nat} {cs:List Value} {x:DataW H × List MemPlace} (h:DataW.trod enc P W base spare held n t cs=some x) (hs:P.underlying t=some (.struct (structFields P t))) (hf:(structFields P t)[i]?=some (fieldAt P t i))
  (ho:(fieldAt P t i).offset=o) (hty:(fieldAt P t i).type=ft) (hk:P.cellsOf ft=k):∃ n' y,DataW.trod enc P W base spare held n' ft ((cs.drop o).take k)=some y∧∀ q∈y.1.weights P ft,q∈x.1.weights P t:=by
 subst ho hty hk
 obtain ⟨xs,n',_,hx,_,hlen,hg⟩:=DataW.trod_struct hs h
 have hi:i<xs.length:=by rw [hlen];exact (Array.getElem?_eq_some_iff.1 hf).1
 have:=hg i _ hf
 rw [List.getElem?_eq_getElem hi] at this
 refine ⟨n',_,this,fun q hq=>?_⟩
 rw [hx]
 unfold DataW.weights
 rw [hs]
 refine DataW.weights_mem_each (j:=i) (t:=(fieldAt P t i).type) (d:=xs[i].1) ?_ (by simp [hi]) q hq
 rw [List.getElem?_map,Array.getElem?_toList,hf];rfl
theorem wt_all {e:TypeId}:∀ {l:List (DataW H)} {d:DataW H},d∈l→∀ {q:Nat},q∈d.weights P e→q∈DataW.weightsAll P e l
 | x::l,d,hd,q,hq=>by
  unfold DataW.weightsAll
  rcases List.mem_cons.1 hd with rfl | hd
  ·exact List.mem_append_left _ hq
  ·exact List.mem_append_right _ (wt_all hd hq)
theorem rows_wt {α:Type} {h:α→List Value} {C:Nat} (hC0:0<C) (hh:∀ r,(h r).length=C) {t e:TypeId} {a:Option Addr} {l c n:Nat} {x:DataW H × List MemPlace}
  (hform:∀ (vs:List Value) (n:Nat) (y:DataW H × List MemPlace),DataW.trod enc P W base spare held n e vs=some y→(∀ q∈y.1.weights P e,q∈x.1.weights P t)→∃ r,vs=h r)
  (ht:P.underlying t=some (.slice e)) (hC:P.cellsOf e=C) (hd:DataW.trod enc P W base spare held n t [.slice a l c]=some x):ElemsIn h W a l c:=by
 rcases Deep.open_slice ht hd with ⟨h0,_⟩ | ⟨a',len,cap,m,n',D,Pl,hcs,hb,hl,hm,hmm,hxx,hi⟩
 ·cases h0;exact ⟨⟨Nat.le_refl _,Nat.zero_le _⟩,.inl rfl⟩
 ·cases hcs
  refine ⟨⟨hl,hm⟩,?_⟩
  by_cases hl0:l=0
  ·exact .inl hl0
  right
  have hlm:l≤m:=by rw [hmm];split <;> omega
  have hel:∀ i,i<l→∃ r:α,∀ j,j<C→W.cell? (a'.add (i*C+j))=(h r)[j]?:=by
   intro i hil
   obtain ⟨cs',hc,htr⟩:=hi i (by omega)
   rw [hC] at hc
   obtain ⟨_,hcl,hat⟩:=World.cells?_some hc
   obtain ⟨r,hr⟩:=hform cs' _ _ htr fun q hq=>by
    rw [hxx]
    unfold DataW.weights
    rw [ht]
    exact List.mem_cons_of_mem _ (List.mem_append_left _ (wt_all (List.mem_map.2 ⟨i,List.mem_range.2 hil,rfl⟩) hq))
   refine ⟨r,fun j hj=>?_⟩
   have:=hat j hj
   rw [← hr,← this,Deep.add_add]
  obtain ⟨F,hF⟩:∃ F:Nat→α,∀ i,i<l→∀ j,j<C→W.cell? (a'.add (i*C+j))=(h (F i))[j]?:=by
   obtain ⟨r0,_⟩:=hel 0 (by omega)
   refine ⟨fun i=>if hi:i<l then Classical.choose (hel i hi) else r0,fun i hi=>?_⟩
   simp only [dif_pos hi]
   exact Classical.choose_spec (hel i hi)
  have h00:=hF 0 (by omega) 0 hC0
  have hv0:∃ v,(h (F 0))[0]?=some v:=⟨_,List.getElem?_eq_getElem (by rw [hh];exact hC0)⟩
  obtain ⟨v0,hv0⟩:=hv0
  rw [hv0,Nat.zero_mul,Nat.add_zero] at h00
  have ha0:a'.add 0=a':=by simp [Addr.add]
  rw [ha0] at h00
  unfold World.cell? at h00
  split at h00
  ·rename_i cs el fz hheap
   have hsp:a'.spot=none:=by
    cases hs:a'.spot with
    | none=>rfl
    | some s=>rw [hs] at h00;simp at h00
   rw [hsp] at h00
   simp only [Option.isSome_none,Bool.false_eq_true,if_false] at h00
   have hoff:=(Array.getElem?_eq_some_iff.1 h00).1
   obtain ⟨b,off,sp⟩:=a'
   simp only at hsp hheap hoff
   subst hsp
   refine ⟨b,off,(List.range l).map F,cs,el,fz,rfl,by simp,hheap,by omega,fun k v hk=>?_⟩
   obtain ⟨x,h1,h2⟩:=flatMap_get hC0 hh hk
   rw [List.getElem?_map] at h1
   obtain ⟨i,h3,rfl⟩:=Option.map_eq_some_iff.1 h1
   obtain ⟨hlt,h3⟩:=List.getElem?_eq_some_iff.1 h3
   rw [List.getElem_range] at h3
   simp only [List.length_range] at hlt
   subst h3
   have:=hF (k / C) hlt (k % C) (Nat.mod_lt _ hC0)
   rw [h2] at this
   have e:k / C*C+k % C=k:=by rw [Nat.mul_comm];exact Nat.div_add_mod k C
   rw [e,addr_add,cell_at hheap] at this
   exact this
  ·cases h00
theorem flat_bytes:∀ xs:List { n:Int // 0≤n∧n<256 },(xs.flatMap fun r=>[Value.int .u8 r.1])=xs.map fun r=>Value.int .u8 r.1
 | []=>rfl
 | x::xs=>by rw [List.flatMap_cons,flat_bytes xs];rfl
theorem bytes_wt {t e:TypeId} {a:Option Addr} {l c n:Nat} {x:DataW H × List MemPlace} (ht:P.underlying t=some (.slice e)) (he:P.underlying e=some (.int .u8)) (hC:P.cellsOf e=1) (hB:P.bytesOf e=1)
  (hd:DataW.trod enc P W base spare held n t [.slice a l c]=some x) (hw:∀ q∈x.1.weights P t,q≤reachBytes):(a=none→l=0)∧l≤reachBytes∧∃ ys:List Int,CellsIn W a l ys∧∀ y∈ys,0≤y∧y<256:=by
 have hr:ElemsIn (fun r:{ n:Int // 0≤n∧n<256 }=>[Value.int .u8 r.1]) W a l c:=rows_wt (C:=1) (by decide) (fun _=>rfl) (fun vs n' y h _=>by
  obtain ⟨n1,hn1,_,hwf⟩:=DataW.trod_int he h
  have:0≤n1∧n1<256:=by
   have:=hwf
   simp [Lit.wf,IntKind.has,IntKind.min,IntKind.max,IntKind.bits,IntKind.signed] at this
   omega
  exact ⟨⟨n1,this⟩,hn1⟩) ht hC hd
 have hlen:(a=none→l=0)∧l≤reachBytes:=by
  rcases Deep.open_slice ht hd with ⟨h0,_⟩ | ⟨a',len,cap,m,n',D,Pl,hcs,hb,hl,hm,hmm,hxx,hi⟩
  ·cases h0;exact ⟨fun _=>rfl,Nat.zero_le _⟩
  ·cases hcs
   refine ⟨fun h=>(nomatch h),?_⟩
   have:=hw (((List.range l).map D).length*1+(((List.range (m - l)).map fun j=>D (l+j)).length)*1) (by
    rw [hxx]
    unfold DataW.weights
    rw [ht]
    dsimp only
    rw [hB,← Nat.add_mul]
    exact List.mem_cons_self)
   simp only [List.length_map,List.length_range] at this
   omega
 refine ⟨hlen.1,hlen.2,?_⟩
 have hr0:reachBytes≤140737488355328:=by decide
 obtain ⟨_,rfl | ⟨b,off,xs,cs,e',fz,rfl,rfl,hh,hoff,hc⟩⟩:=hr
 ·exact ⟨[],⟨rfl,Nat.zero_le _,fun b _ i hi=>absurd hi (by omega)⟩,fun y hy=>(nomatch hy)⟩
 ·refine ⟨xs.map (·.1),⟨by simp,Nat.le_trans hlen.2 hr0,fun b' hb' i hi W' hW=>?_⟩,fun y hy=>?_⟩
  ·cases hb'
   have hlt:=(Array.getElem?_eq_some_iff.1 hh).1
   have h1:(xs.flatMap fun r=>[Value.int .u8 r.1])[i]?=some (.int .u8 ((xs.map (·.1)).getD i 0)):=by
    have:=flat_bytes xs
    rw [this,List.getElem?_map,List.getElem?_eq_getElem hi]
    simp [List.getD_eq_getElem?_getD,hi]
   have h2:=hc i _ h1
   rw [addr_add,cell_at (by rw [hW b hlt];exact hh)]
   exact h2
  ·obtain ⟨r,_,rfl⟩:=List.mem_map.1 hy
   exact r.2
end
inductive EntsIn (W:World) (a:Option Addr) (l c:Nat) (D:List EntT):Prop where
 | none (hl:l=0) (hD:D=[])
 | some (b off:Nat) (cs:Array Value) (e:TypeId) (fz:Nat × Nat) (ha:a=.some ⟨b,off,.none⟩) (hl:D.length=l) (hlc:l≤c) (hh:W.heap[b]?=.some (.cells cs e fz)) (hoff:off≤cs.size) (hc:∀ (k:Nat) (v:Value),(D.flatMap eV)[k]?=.some v→cs[off+k]?=.some v)
theorem EntsIn.keep {W w:World} {a:Option Addr} {l c:Nat} {D:List EntT} (h:EntsIn W a l c D) (hk:∀ k,k<W.heap.size→w.heap[k]?=W.heap[k]?):EntsIn w a l c D:=by
 rcases h with ⟨hl,hD⟩ | ⟨b,off,cs,e,fz,ha,hl,hlc,hh,hoff,hc⟩
 ·exact .none hl hD
 ·exact .some b off cs e fz ha hl hlc ((hk b (Array.getElem?_eq_some_iff.1 hh).1).trans hh) hoff hc
theorem EntsIn.len {W:World} {a:Option Addr} {l c:Nat} {D:List EntT} (h:EntsIn W a l c D):D.length=l:=by
 rcases h with ⟨hl,hD⟩ | ⟨b,off,cs,e,fz,ha,hl,hlc,hh,hoff,hc⟩
 ·rw [hl,hD];rfl
 ·exact hl
structure EntIs (W:World) (x:EntT):Prop where
 p:x.p.size≤reachBytes
 v:0≤x.v∧x.v<18446744073709551616
 nil:x.a=none→x.l=0
 l:x.l≤reachBytes
 ys:∃ ys:List Int,CellsIn W x.a x.l ys∧∀ y∈ys,0≤y∧y<256
section
variable {H:Type} {enc:TypeId × Value→H} {W:World} {base:Nat} {spare:Nat→Bool} {held:Bool}
theorem ent_form {vs:List Value} {n:Nat} {y:DataW H × List MemPlace} (h:DataW.trod enc Tryz.prog W base spare held n 46 vs=some y) (hw:∀ q∈y.1.weights Tryz.prog 46,q≤reachBytes):∃ r:{ x:EntT // EntIs W x },vs=eV r.1:=by
 have hs:Tryz.prog.underlying 46=some (.struct (structFields Tryz.prog 46)):=by kernel_rfl
 obtain ⟨xs,n',_,_,hl,_,_⟩:=DataW.trod_struct hs h
 have hl:vs.length=4:=hl.trans (by kernel_rfl)
 obtain ⟨n0,y0,h0,w0⟩:=trod_part (i:=0) (o:=0) (ft:=9) (k:=1) h hs (by kernel_rfl) (by kernel_rfl) (by kernel_rfl) (by kernel_rfl)
 obtain ⟨n1,y1,h1,w1⟩:=trod_part (i:=1) (o:=1) (ft:=28) (k:=1) h hs (by kernel_rfl) (by kernel_rfl) (by kernel_rfl) (by kernel_rfl)
 obtain ⟨n2,y2,h2,w2⟩:=trod_part (i:=2) (o:=2) (ft:=44) (k:=2) h hs (by kernel_rfl) (by kernel_rfl) (by kernel_rfl) (by kernel_rfl)
 have hs2:Tryz.prog.underlying 44=some (.struct (structFields Tryz.prog 44)):=by kernel_rfl
 obtain ⟨n3,y3,h3,w3⟩:=trod_part (i:=0) (o:=0) (ft:=3) (k:=1) h2 hs2 (by kernel_rfl) (by kernel_rfl) (by kernel_rfl) (by kernel_rfl)
 obtain ⟨n4,y4,h4,w4⟩:=trod_part (i:=1) (o:=1) (ft:=42) (k:=1) h2 hs2 (by kernel_rfl) (by kernel_rfl) (by kernel_rfl) (by kernel_rfl)
 match vs,hl with
 | [v0,v1,v2,v3],_=>
  obtain ⟨s,hs0,hx0,_⟩:=DataW.trod_string Tryz.underlying9 h0
  obtain ⟨z1,hz1,_,wf1⟩:=DataW.trod_int Tryz.underlying28 h1
  obtain ⟨z3,hz3,_,_⟩:=DataW.trod_int Tryz.underlying3 h3
  cases hs0;cases hz1;cases hz3
  have h4':DataW.trod enc Tryz.prog W base spare held n4 42 [v3]=some y4:=h4
  have hsl:∃ a l c,v3=.slice a l c:=by
   rcases Deep.open_slice Tryz.underlying42 h4' with ⟨h0,_⟩ | ⟨a',len,cap,m,n',D,Pl,hcs,_⟩
   ·cases h0;exact ⟨_,_,_,rfl⟩
   ·cases hcs;exact ⟨_,_,_,rfl⟩
  obtain ⟨a,l,c,rfl⟩:=hsl
  obtain ⟨q1,q2,q3⟩:=bytes_wt Tryz.underlying42 Tryz.underlying5 (by kernel_rfl) (by kernel_rfl) h4' fun q hq=>hw q (w2 q (w4 q hq))
  refine ⟨⟨⟨s,z1,z3,a,l,c⟩,⟨?_,?_,q1,q2,q3⟩⟩,rfl⟩
  ·have:=hw s.data.toList.length (w0 _ (by rw [hx0];unfold DataW.weights;exact List.mem_singleton.2 rfl))
   simpa using this
  ·have:=wf1
   simp [Lit.wf,IntKind.has,IntKind.min,IntKind.max,IntKind.bits,IntKind.signed] at this
   show 0≤z1∧z1<18446744073709551616
   omega
theorem ents_in {a:Option Addr} {l c:Nat} {d:DataW H} {p:List MemPlace} (h:DataW.Trod enc Tryz.prog W base spare held 22 (.slice a l c) d p) (hw:∀ q∈d.weights Tryz.prog 22,q≤reachBytes):
  ∃ D:List EntT,EntsIn W a l c D∧(∀ x∈D,EntIs W x)∧l≤9223372036854775807:=by
 obtain ⟨n,hn⟩:=h
 have hr:=rows_wt (h:=fun r:{ x:EntT // EntIs W x }=>eV r.1) (C:=4) (by decide) (fun _=>rfl) (fun vs n y h hq=>ent_form h fun q hq'=>hw q (hq q hq')) Tryz.underlying22 (by kernel_rfl) hn
 obtain ⟨⟨hlc,hcm⟩,rfl | ⟨b,off,xs,cs,e,fz,rfl,rfl,hh,hoff,hc⟩⟩:=hr
 ·exact ⟨[],.none rfl rfl,fun x hx=>(nomatch hx),by omega⟩
 ·refine ⟨xs.map (·.1),.some b off cs e fz rfl (by simp) hlc hh hoff fun k v hk=>hc k v ?_,fun x hx=>?_,Nat.le_trans hlc (Nat.le_trans hcm (by decide))⟩
  ·rw [List.flatMap_map] at hk;exact hk
  ·obtain ⟨r,_,rfl⟩:=List.mem_map.1 hx
   exact r.2
end
theorem wt_each {H:Type} {P:Program} {ts:List TypeId} {ds:List (DataW H)} (h:(DataW.weightsEach P ts ds).all (·≤reachBytes)=true) {j:Nat} {t:TypeId} {d:DataW H} (ht:ts[j]?=some t) (hd:ds[j]?=some d):∀ q∈d.weights P t,q≤reachBytes:=fun q hq=>by
 simpa using List.all_eq_true.1 h q (DataW.weights_mem_each ht hd q hq)
theorem light_fine {W:World} {D:List EntT} (h:∀ x∈D,EntIs W x) (hl:lightL D=true):D.length≤400∧∀ x∈D,x.p.size≤20000∧x.l≤20000:=by
 unfold lightL at hl
 rw [Bool.and_eq_true,decide_eq_true_eq,decide_eq_true_eq] at hl
 obtain ⟨hs,hn⟩:=hl
 refine ⟨by omega,?_⟩
 have hr0:reachBytes≤140737488355328:=by decide
 have key:∀ (E:List EntT) (z:Int),(∀ x∈E,EntIs W x)→0≤z→z+(E.length:Int)*281474976710656≤9223372036854775807→z≤sumL z E∧∀ x∈E,z+(x.p.size:Int)+(x.l:Int)≤sumL z E:=by
  intro E
  induction E with
  | nil=>intro z _ _ _;exact ⟨Int.le_refl _,fun x hx=>(nomatch hx)⟩
  | cons e E ih=>
   intro z hE hz hb
   have he:=hE e List.mem_cons_self
   have h1:=Nat.le_trans he.p hr0
   have h2:=Nat.le_trans he.l hr0
   simp only [List.length_cons] at hb
   have w1:IntKind.i64.wrap ((e.p.size:Int)+(e.l:Int))=(e.p.size:Int)+(e.l:Int):=wi (by omega)
   have w2:IntKind.i64.wrap (z+((e.p.size:Int)+(e.l:Int)))=z+((e.p.size:Int)+(e.l:Int)):=wi (by omega)
   have hs:sumL z (e::E)=sumL (z+((e.p.size:Int)+(e.l:Int))) E:=by
    show sumL (IntKind.i64.wrap (z+IntKind.i64.wrap ((e.p.size:Int)+(e.l:Int)))) E=_
    rw [w1,w2]
   obtain ⟨i1,i2⟩:=ih (z+((e.p.size:Int)+(e.l:Int))) (fun x hx=>hE x (List.mem_cons_of_mem _ hx)) (by omega) (by omega)
   rw [hs]
   refine ⟨by omega,fun x hx=>?_⟩
   rcases List.mem_cons.1 hx with rfl | hx
   ·omega
   ·have:=i2 x hx;omega
 obtain ⟨_,k2⟩:=key D 0 h (by omega) (by omega)
 intro x hx
 have:=k2 x hx
 omega
theorem light_calls {W:World} {a:Option Addr} {l c:Nat} {D:List EntT} (h:EntsIn W a l c D) (hl:l≤9223372036854775807):Calls Tryz.prog 4 #[.slice a l c] W fun e w'=>Below W.heap.size W w'∧e=.returned (.bool (lightL D)):=by
 rcases h with ⟨rfl,rfl⟩ | ⟨b,off,cs,e,fz,rfl,rfl,hlc,hh,hoff,hc⟩
 ·refine calls_endsV (E:=ELt) (args:=[.v (.slice a 0 c)]) (a:=[.slice a 0 c]) (n:=60) (o:=ff [1000] true) rfl rfl KLt (by kernel_rfl) (VRL.cons (VR.v_iff.2 rfl) VRL.nil) ⟨?_⟩
  rw [lt4]
  simp only [Owed,and_self,and_true,true_and]
  rfl
 ·refine (calls_readR (E:=ELt) (R:=fun e w'=>Below W.heap.size W w'∧e=.returned (.bool (lightL D))) rfl (d:=6) (l:=[(b,0)]) (os:=[.look (rowsAt eC off D)]) rfl (by simp) (by simp) ?_ rfl (args:=[.sl 0 off D.length (some c)]) (a:=[.slice (some ⟨b,off,none⟩) D.length c]) (S0:=entLt (rowsAt eC off D) off D.length c) (by kernel_rfl) (VRL.cons (VR.sl_iff.2 ⟨(b,0),rfl,hlc,rfl⟩) VRL.nil) fun cs0=>?_)
  ·intro j o' b' c' h1 h2
   match j with
   | 0=>
    simp only [List.getElem?_cons_zero,Option.some.injEq] at h1 h2
    subst h1
    cases h2
    exact ⟨_,hh,rowsAt_look (h:=eV) (fun ν x=>VRL.lits ν (eV x)) hoff hc⟩
   | j+1=>simp at h1
  ·have hM:∀ z,¬ (layOwn [(b,0)] ([SO.look (rowsAt eC off D)].map fun o=>(o,false))) z:=fun z=>layOwn_none
   have hν:∀ i c,layVal [(b,0)] i=some c→i=0:=fun i c h=>lay1' h
   have hcl:(rowsAt eC off D).all closedSV=true:=rowsAt_closed eC_closed
   have nx:=loopLt (w0:=W) (cs0:=cs0) (R:=fun e w'=>Below W.heap.size W w'∧e=.returned (.bool (lightL D))) (c:=c) (off:=off) hν (by omega) hM (fun w' hB=>⟨hB,rfl⟩) D.length 0 (by omega)
   rw [List.take_zero,show sumL 0 []=0 from rfl] at nx
   refine Goes.reach KLt (k:=2) (n:=60) (o:=[(1000,.b true)]) (ren:=[(0,0)]) (eqs:=[0]) (F:=hdLt off D.length c 0 0) (d:=6) (l:=[lkE (rowsAt eC off D)]) ?_ (by kernel_rfl) (fun i b h=>by rw [hν i b h];rfl) nx
   rw [lt0]
   simp only [Owed,hcl,and_self,and_true,true_and]
theorem ents_fine {W:World} {D:List EntT} (hm:MX W) (h:∀ x∈D,EntIs W x) (hl:lightL D=true):DIn D∧∃ ys,PX D ys W∧∀ x∈D,∀ y∈ys x,0≤y∧y<256:=by
 obtain ⟨h1,h2⟩:=light_fine h hl
 refine ⟨⟨fun x hx=>by have:=(h2 x hx).1;omega,fun x hx=>(h x hx).v,fun x hx=>(h x hx).nil,by omega⟩,?_⟩
 classical
 refine ⟨fun x=>if hx:x∈D then Classical.choose (h x hx).ys else [],⟨hm,fun x hx=>?_⟩,fun x hx=>?_⟩
 ·simp only [dif_pos hx]
  exact (Classical.choose_spec (h x hx).ys).1
 ·simp only [dif_pos hx]
  exact (Classical.choose_spec (h x hx).ys).2
theorem plays_in {W:World} {a:Option Addr} {l c:Nat} {D:List EntT} {ys:EntT→List Int} (h:EntsIn W a l c D) (hX:PX D ys W) (hD:DIn D):Calls Tryz.prog 7 #[.slice a l c] W (RPl D ys W):=by
 rcases h with ⟨rfl,rfl⟩ | ⟨b,off,cs,e,fz,rfl,rfl,hlc,hh,hoff,hc⟩
 ·exact plays_none hX.1 ys a c
 ·exact plays_calls hX hD hlc hh hoff hc
def strO:Value→Nat | .string s=>s.size | _=>0
theorem cutW (s:ByteArray) (m:Int) (w:World) (hs:s.size≤1000000000) (hm:w.cell? ⟨0,0,none⟩=some (.int .i64 m)):Calls Tryz.prog 46 #[.string s,.string ⟨#[47]⟩] w fun e w'=>e=.returned (.tuple #[.string (cA s),.string (cB s),.bool (cM s)])∧∃ n,w'=w.drewN n:=
 Any.strings_Cut { laysCut with } s slash m w (by omega) hm
theorem isNaN (s:ByteArray) (w:World):Calls Tryz.prog 79 #[.string s] w fun e w'=>e=.returned (.bool false)∧w=w':=by
 go_enter Tryz.func79,Tryz.ntmps79
 go_wp2
 go_ret
 exact ⟨by simp,rfl⟩
theorem cmpSW (x y:ByteArray) (w:World):Calls Tryz.prog 47 #[.string x,.string y] w fun e w'=>e=.returned (.int .i64 (cmpS x y))∧w=w':=by
 go_enter Tryz.func47,Tryz.ntmps47
 go_wp2_with (go_at_call 79;refine (isNaN _ _).mono ?_;rintro e w' ⟨rfl,rfl⟩)
 all_goals
  go_ret
  refine ⟨?_,rfl⟩
  simp_all [cmpS]
theorem atW (b:Bool) (w:World):Calls Tryz.prog 48 #[.bool b] w fun e w'=>e=.returned (.int .i64 (if b then 1 else 0))∧w=w':=by
 cases b
 ·go_enter Tryz.func48,Tryz.ntmps48
  go_wp2
  go_ret
  exact ⟨rfl,rfl⟩
 ·go_enter Tryz.func48,Tryz.ntmps48
  go_wp2
  go_ret
  exact ⟨rfl,rfl⟩
def DrewI (z:Int) (w:World) (e:Ending) (w':World):Prop:=e=.returned (.int .i64 z)∧∃ n,w'=w.drewN n
theorem cmpF_fuel:∀ (n m:Nat) (a b:ByteArray),a.size<n→a.size<m→cmpF n a b=cmpF m a b
 | 0,_,_,_,h,_=>absurd h (Nat.not_lt_zero _)
 | _+1,0,_,_,_,h=>absurd h (Nat.not_lt_zero _)
 | n+1,m+1,a,b,h1,h2=>by
  unfold cmpF
  by_cases hc:cM a=true∧cM b=true
  ·have:=cB_lt a hc.1
   rw [if_pos hc,if_pos hc,cmpF_fuel n m (cB a) (cB b) (by omega) (by omega)]
  ·rw [if_neg hc,if_neg hc]
theorem cmpN_step (a b:ByteArray):cmpN a b=if (cA a).data.toList=(cA b).data.toList then (if cM a=true∧cM b=true then cmpN (cB a) (cB b) else atN (cM a) - atN (cM b)) else cmpS (cA a) (cA b):=by
 unfold cmpN
 conv=>lhs;unfold cmpF
 by_cases hc:cM a=true∧cM b=true
 ·have:=cB_lt a hc.1
  rw [if_pos hc,if_pos hc,cmpF_fuel a.size ((cB a).size+1) (cB a) (cB b) (by omega) (by omega)]
 ·rw [if_neg hc,if_neg hc]
theorem tl_ne {x y:ByteArray} (h:(!(x.toList==y.toList))=true):¬ x.data.toList=y.data.toList:=fun e=>by
 have:x=y:=by cases x;cases y;congr 1;exact Array.toList_inj.1 e
 rw [this] at h;simp at h
theorem tl_eq {x y:ByteArray} (h:(!(x.toList==y.toList))=false):x.data.toList=y.data.toList:=by
 have h:x.toList=y.toList:=by simpa using h
 rwa [tlB,tlB] at h
theorem cmpW (a b : ByteArray) (m : Int) (w : World) (ha : a.size ≤ 1000000000) (hb : b.size ≤ 1000000000) (hm : w.cell? ⟨0, 0, none⟩ = some (.int .i64 m)) : Calls Tryz.prog 21 #[.string a, .string b] w (DrewI (cmpN a b) w) := by
  go_enter Tryz.func21, Tryz.ntmps21
  go_wp2
  go_loopw [0, 1] (fun x y wr => ∃ (a' b' : ByteArray) (n : Nat), x = .string a' ∧ y = .string b' ∧ a'.size ≤ 1000000000 ∧ b'.size ≤ 1000000000 ∧ cmpN a' b' = cmpN a b ∧ wr = w.drewN n) (fun x _ _ => strO x)
  case atStart => exact ⟨a, b, 0, rfl, rfl, ha, hb, rfl, rfl⟩
  case round =>
    obtain ⟨a', b', n, rfl, rfl, ha', hb', hc, rfl⟩ := hrel
    have HC := Lib.hid hc
    clear hc
    have hm' : (w.drewN n).cell? ⟨0, 0, none⟩ = some (.int .i64 m) := hm
    go_wp2_with (first
      | (go_at_call 46; refine (cutW _ m _ (by assumption) (by exact hm)).mono ?_; rintro e w' ⟨rfl, n1, rfl⟩)
      | (go_at_call 47; refine (cmpSW _ _ _).mono ?_; rintro e w' ⟨rfl, rfl⟩)
      | (go_at_call 48; refine (atW _ _).mono ?_; rintro e w' ⟨rfl, rfl⟩))
    all_goals first
      | (go_ret
         refine ⟨?_, _, rfl⟩
         rw [← HC.out, cmpN_step]
         first
           | (rw [if_neg (tl_ne (by assumption))]; rfl)
           | (rw [if_pos (tl_eq (by assumption)), if_neg (by simp_all)]; simp_all [atN]))
      | (refine ⟨⟨cB a', cB b', _, rfl, rfl, Nat.le_trans (cB_size _) ha', Nat.le_trans (cB_size _) hb', ?_, rfl⟩, cB_lt _ (by assumption)⟩
         rw [← HC.out, cmpN_step a' b', if_pos (tl_eq (by assumption)), if_pos (by simp_all)])
end paths
end Go.Proofs.YtbjmmnegkpeboaaGreat
set_option linter.unusedSimpArgs false
set_option linter.unusedVariables false
set_option maxRecDepth 100000
namespace Go.Proofs.YtbjmmnegkpeboaaGreat
open Go Go.Rx Go.RowKit Go.Proofs Go.Sort
namespace paths
def laysSF_ren:Go.Shelf.Ren:=⟨fun | 6=>20 | 15=>45 | 14=>44 | 28=>76 | 29=>77 | 20=>68 | 21=>69 | 22=>70 | 23=>71 | 24=>72 | 25=>73 | 26=>74 | 27=>75 | 46=>93 | 47=>94 | 48=>95 | 49=>96 | 50=>97 | 57=>106 | n=>n,fun | 22=>33 | 24=>9 | 25=>64 | 3=>3 | 39=>96 | 0=>0 | 53=>124 | 55=>28 | 4=>4 | 46=>117 | 45=>116 | 50=>121 | 5=>5 | 9=>9 | 66=>137 | 70=>141 | 76=>147 | 77=>148 | n=>n,fun | n=>n⟩
theorem laysSF:Go.Proofs.SlLaysF.n6 Tryz.prog laysSF_ren where
 mixed:=by kernel_rfl
 f6 := ⟨ "slices.SortFunc[[]string,string]", by decide, Tryz.func20.trans (congrArg some (by kernel_rfl))⟩
 f14 := ⟨ "slices.pdqsortCmpFunc[string]", by decide, Tryz.func44.trans (congrArg some (by kernel_rfl))⟩
 f15:=Tryz.func45.trans (congrArg some (by kernel_rfl))
 f20 := ⟨ "slices.insertionSortCmpFunc[string]", by decide, Tryz.func68.trans (congrArg some (by kernel_rfl))⟩
 f21 := ⟨ "slices.heapSortCmpFunc[string]", by decide, Tryz.func69.trans (congrArg some (by kernel_rfl))⟩
 f22 := ⟨ "slices.breakPatternsCmpFunc[string]", by decide, Tryz.func70.trans (congrArg some (by kernel_rfl))⟩
 f23 := ⟨ "slices.choosePivotCmpFunc[string]", by decide, Tryz.func71.trans (congrArg some (by kernel_rfl))⟩
 f24 := ⟨ "slices.reverseRangeCmpFunc[string]", by decide, Tryz.func72.trans (congrArg some (by kernel_rfl))⟩
 f25 := ⟨ "slices.partialInsertionSortCmpFunc[string]", by decide, Tryz.func73.trans (congrArg some (by kernel_rfl))⟩
 f26 := ⟨ "slices.partitionEqualCmpFunc[string]", by decide, Tryz.func74.trans (congrArg some (by kernel_rfl))⟩
 f27 := ⟨ "slices.partitionCmpFunc[string]", by decide, Tryz.func75.trans (congrArg some (by kernel_rfl))⟩
 f28:=Tryz.func76.trans (congrArg some (by kernel_rfl))
 f29:=Tryz.func77.trans (congrArg some (by kernel_rfl))
 f46 := ⟨ "slices.siftDownCmpFunc[string]", by decide, Tryz.func93.trans (congrArg some (by kernel_rfl))⟩
 f47:=Tryz.func94.trans (congrArg some (by kernel_rfl))
 f48:=Tryz.func95.trans (congrArg some (by kernel_rfl))
 f49 := ⟨ "slices.medianAdjacentCmpFunc[string]", by decide, Tryz.func96.trans (congrArg some (by kernel_rfl))⟩
 f50 := ⟨ "slices.medianCmpFunc[string]", by decide, Tryz.func97.trans (congrArg some (by kernel_rfl))⟩
 f57 := ⟨ "slices.order2CmpFunc[string]", by decide, Tryz.func106.trans (congrArg some (by kernel_rfl))⟩
 t0:=Tryz.underlying0
 a0:=Tryz.isAgg0
 z0:=Tryz.sizeOf0
 v0:=Tryz.zeroValue0
 t3:=Tryz.underlying3
 a3:=Tryz.isAgg3
 z3:=Tryz.sizeOf3
 v3:=Tryz.zeroValue3
 t4:=Tryz.underlying4
 a4:=Tryz.isAgg4
 z4:=Tryz.sizeOf4
 v4:=Tryz.zeroValue4
 t5:=Tryz.underlying5
 a5:=Tryz.isAgg5
 z5:=Tryz.sizeOf5
 v5:=Tryz.zeroValue5
 t9:=Tryz.underlying9
 a9:=Tryz.isAgg9
 z9:=Tryz.sizeOf9
 v9:=Tryz.zeroValue9
 t22:=Tryz.underlying33
 a22:=Tryz.isAgg33
 z22:=Tryz.sizeOf33
 v22:=Tryz.zeroValue33
 a24:=Tryz.isAgg9
 z24:=Tryz.sizeOf9
 t25:=Tryz.underlying64
 a25:=Tryz.isAgg64
 z25:=Tryz.sizeOf64
 v25:=Tryz.zeroValue64
 t39:=Tryz.underlying96
 a39:=Tryz.isAgg96
 z39:=Tryz.sizeOf96
 v39:=Tryz.zeroValue96
 t45:=Tryz.underlying116
 a45:=Tryz.isAgg116
 z45:=Tryz.sizeOf116
 v45:=Tryz.zeroValue116
 t46:=Tryz.underlying117
 a46:=Tryz.isAgg117
 z46:=Tryz.sizeOf117
 v46:=Tryz.zeroValue117
 t50:=Tryz.underlying121
 a50:=Tryz.isAgg121
 z50:=Tryz.sizeOf121
 v50:=Tryz.zeroValue121
 t53:=Tryz.underlying124
 a53:=Tryz.isAgg124
 z53:=Tryz.sizeOf124
 v53:=Tryz.zeroValue124
 t55:=Tryz.underlying28
 a55:=Tryz.isAgg28
 z55:=Tryz.sizeOf28
 v55:=Tryz.zeroValue28
 t66:=Tryz.underlying137
 a66:=Tryz.isAgg137
 z66:=Tryz.sizeOf137
 v66:=Tryz.zeroValue137
 t70:=Tryz.underlying141
 a70:=Tryz.isAgg141
 z70:=Tryz.sizeOf141
 v70:=Tryz.zeroValue141
 t76:=Tryz.underlying147
 a76:=Tryz.isAgg147
 z76:=Tryz.sizeOf147
 v76:=Tryz.zeroValue147
 t77:=Tryz.underlying148
 a77:=Tryz.isAgg148
 z77:=Tryz.sizeOf148
 v77:=Tryz.zeroValue148

abbrev NmS:={ s:ByteArray // s.size≤1000000000 }
instance:Inhabited NmS:=⟨⟨⟨#[]⟩,by decide⟩⟩
def encN (s:NmS):Value:=.string s.1
def cfN (x y:NmS):Int:=cmpN x.1 y.1
theorem swoN:SWO (ltOf cfN):=by
 refine ⟨fun x=>?_,fun x y z h1 h2=>?_,fun x y z h1 h2=>?_⟩
 ·show decide (cmpN x.1 x.1<0)=false
  rw [cmpN_self];rfl
 ·exact decide_eq_true (cmpN_trans (of_decide_eq_true h1) (of_decide_eq_true h2))
 ·have h1:=of_decide_eq_false h1
  have h2:=of_decide_eq_false h2
  refine decide_eq_false fun h=>?_
  have h:cmpN x.1 z.1<0:=h
  have h1:¬ cmpN x.1 y.1<0:=h1
  have h2:¬ cmpN y.1 z.1<0:=h2
  have n1:=cmpN_neg x.1 y.1
  rcases Int.lt_trichotomy (cmpN y.1 x.1) 0 with h3 | h3 | h3
  ·exact h2 (cmpN_trans h3 h)
  ·have:=cmpN_zero h3
   rw [this] at h2;exact h2 h
  ·omega
theorem totN:∀ x y,(ltOf cfN) x y=false→(ltOf cfN) y x=false→x=y:=fun x y h1 h2=>by
 have h1:¬ cmpN x.1 y.1<0:=of_decide_eq_false h1
 have h2:¬ cmpN y.1 x.1<0:=of_decide_eq_false h2
 have n1:=cmpN_neg x.1 y.1
 exact Subtype.ext (cmpN_zero (by omega))
def leN (a b:ByteArray):Bool:=!decide (cmpN b a<0)
def sortN (l:List ByteArray):List ByteArray:=l.mergeSort leN
theorem leN_trans (a b c:ByteArray) (h1:leN a b=true) (h2:leN b c=true):leN a c=true:=by
 unfold leN at *
 simp only [Bool.not_eq_true',decide_eq_false_iff_not] at *
 intro h
 have n1:=cmpN_neg a b
 rcases Int.lt_trichotomy (cmpN a b) 0 with h3 | h3 | h3
 ·exact h2 (cmpN_trans h h3)
 ·have:=cmpN_zero h3
  rw [this] at h;exact h2 h
 ·omega
theorem leN_total (a b:ByteArray):(leN a b||leN b a)=true:=by
 unfold leN
 have n1:=cmpN_neg a b
 by_cases h:cmpN b a<0
 ·have:¬ cmpN a b<0:=by omega
  simp [h,this]
 ·simp [h]
theorem leN_anti {a b:ByteArray} (h1:leN a b=true) (h2:leN b a=true):a=b:=by
 unfold leN at *
 simp only [Bool.not_eq_true',decide_eq_false_iff_not] at *
 have n1:=cmpN_neg a b
 exact cmpN_zero (by omega)
theorem sortN_perm (l:List ByteArray):(sortN l).Perm l:=List.mergeSort_perm l leN
theorem sortN_sorted (l:List ByteArray):(sortN l).Pairwise fun a b=>leN a b=true:=List.pairwise_mergeSort leN_trans leN_total l
theorem sort_unique {l m:List ByteArray} (h:m.Pairwise fun a b=>leN a b=true) (hp:m.Perm l):sortN l=m:=
 List.Perm.eq_of_pairwise (le:=fun a b=>leN a b=true) (fun a b _ _ h1 h2=>leN_anti h1 h2) (sortN_sorted l) h ((sortN_perm l).trans hp.symm)
theorem lt_le {a b:ByteArray} (h:cmpN a b<0):leN a b=true:=by
 unfold leN
 have n1:=cmpN_neg a b
 simp;omega
theorem putRow_block {α:Type} [Inhabited α] (enc:α→Value) {w:World} {b:Nat} {d0 d:List α} {rest:List Value} {e:TypeId} {fz:Nat × Nat} (hh:w.heap[b]?=some (.cells (d0.map enc++rest).toArray e fz)) (hl:d.length=d0.length):
  (putRow enc w b 0 d.toArray).heap[b]?=some (.cells (d.map enc++rest).toArray e fz):=by
 unfold putRow mapBlock
 simp only [Array.getElem?_modify,if_pos,hh,Option.map_some,onCells]
 congr 2
 apply Array.ext_getElem?
 intro k
 simp only [putCells,Array.getElem?_mapIdx,List.getElem?_toArray,Nat.zero_le,true_and,Nat.zero_add,Nat.sub_zero,List.size_toArray]
 by_cases hk:k<d.length
 ·have h1:(d0.map enc++rest)[k]?=some (enc d0[k]):=by
   rw [List.getElem?_append_left (by simpa using (by omega:k<d0.length)),List.getElem?_map,List.getElem?_eq_getElem (by omega)];rfl
  have h2:(d.map enc++rest)[k]?=some (enc d[k]):=by
   rw [List.getElem?_append_left (by simpa using hk),List.getElem?_map,List.getElem?_eq_getElem hk];rfl
  rw [h1,h2,Option.map_some,if_pos hk]
  congr 2
  rw [getElem!_pos d.toArray k (by simpa using hk)];simp
 ·have h1:(d0.map enc++rest)[k]?=rest[k - d0.length]?:=by
   rw [List.getElem?_append_right (by simpa using (by omega:d0.length≤k))];simp
  have h2:(d.map enc++rest)[k]?=rest[k - d.length]?:=by
   rw [List.getElem?_append_right (by simpa using (by omega:d.length≤k))];simp
  rw [h1,h2,hl]
  simp only [if_neg (show ¬ k<d0.length by omega)]
  simp
theorem sortWorld_but {α:Type} [Inhabited α] (enc:α→Value) (w:World) (b off n:Nat) (d:Array α) (os:Array Obj):But w (grow (putRow enc (Sort.ahead w n) b off d) os) b:=by
 refine ⟨rfl,rfl,rfl,by simp,fun k hk hne=>?_⟩
 rw [heap_grow_old _ _ (by simpa using hk)]
 have:b≠k:=fun e=>hne e.symm
 simp [putRow,mapBlock,Sort.ahead,Array.getElem?_modify,this]
theorem MX.but {w w':World} {b:Nat} (h:MX w) (hb:b≠0) (k:But w w' b):MX w':=by
 obtain ⟨m,hm⟩:=h
 refine ⟨m,?_⟩
 have hlt:0<w.heap.size:=by
  rcases Nat.lt_or_ge 0 w.heap.size with h' | h'
  ·exact h'
  ·unfold World.cell? at hm
   simp only at hm
   rw [Array.getElem?_eq_none h'] at hm
   cases hm
 unfold World.cell? at hm ⊢
 simp only at hm ⊢
 rw [k.block _ hlt (fun e=>hb e.symm)];exact hm
theorem holds_cells {α:Type} [Inhabited α] (enc:α→Value) {w:World} {b:Nat} {d:List α} {rest:List Value} {e:TypeId} (hh:w.heap[b]?=some (.cells (d.map enc++rest).toArray e (0,0))):Holds enc w b 0 d.toArray:=by
 intro j hj
 have hj:j<d.length:=by simpa using hj
 refine ⟨?_,?_⟩
 ·rw [cell_at hh,Nat.zero_add]
  have h2:(d.map enc++rest)[j]?=some (enc d[j]):=by
   rw [List.getElem?_append_left (by simpa using hj),List.getElem?_map,List.getElem?_eq_getElem hj];rfl
  rw [List.getElem?_toArray,h2,getElem!_pos d.toArray j (by simpa using hj)];simp
 ·unfold World.frozen?
  simp [hh]
theorem sort_calls {w:World} {b cap:Nat} {L:List NmS} {rest:List Value} {e:TypeId} (hm:MX w) (hb:b≠0) (hh:w.heap[b]?=some (.cells (L.map encN++rest).toArray e (0,0))) (hl:L.length<4611686018427387904):
  Calls Tryz.prog 20 #[.slice (some ⟨b,0,none⟩) L.length cap,.func (.func 21) #[] #[]] w fun e' w'=>e'=.returned (.tuple #[])∧But w w' b∧w'.heap[b]?=some (.cells ((sortN (L.map (·.1))).map Value.string++rest).toArray e (0,0)):=by
 have hC:CmpLays1 Tryz.prog 21 #[] encN cfN b 0 L.toArray.size w:=fun m os dk _ x y=>by
  obtain ⟨z,hz⟩:=hm.but hb (sortWorld_but encN w b 0 m dk os)
  exact (cmpW x.1 y.1 z _ x.2 y.2 hz).mono fun e w' ⟨he,n,hn⟩=>⟨he,n,#[],by rw [grow_empty];exact hn⟩
 have h:=Any.slices_SortFunc_total laysSF encN (fun x=>rfl) cfN swoN 21 #[] b 0 cap L.toArray w (enters_of Tryz.func21 (by kernel_rfl) rfl) hC (holds_cells encN hh) (Array.getElem?_eq_some_iff.1 hh).1 (by simpa using hl) totN
 rw [List.size_toArray] at h
 refine h.mono fun e' w' ⟨he,n,os,hw⟩=>⟨he,?_,?_⟩
 ·rw [hw];exact sortWorld_but encN w b 0 n _ os
 ·rw [hw]
  unfold sortWorld
  rw [heap_grow_old _ _ (by simpa using (Array.getElem?_eq_some_iff.1 hh).1)]
  have hp:(L.mergeSort fun x y=>!(ltOf cfN) y x).length=L.length:=List.length_mergeSort _
  rw [List.toList_toArray]
  have:=putRow_block encN (w:=Sort.ahead w n) (d:=L.mergeSort fun x y=>!(ltOf cfN) y x) hh hp
  rw [this]
  congr 3
  have e1:(L.mergeSort fun x y=>!(ltOf cfN) y x).map (·.1)=sortN (L.map (·.1)):=List.map_mergeSort fun a _ b _=>rfl
  rw [← e1,List.map_map];rfl
def laysCo_ren:Go.Shelf.Ren:=⟨fun | 8=>91 | 11=>105 | n=>n,fun | 26=>9 | 28=>113 | 24=>33 | 0=>0 | 33=>68 | 4=>4 | n=>n,fun | n=>n⟩
theorem laysCo:Go.Proofs.SlLaysZ.n8 Tryz.prog laysCo_ren where
 mixed:=by kernel_rfl
 f8 := ⟨ "slices.Collect[string]", by decide, Tryz.func91.trans (congrArg some (by kernel_rfl))⟩
 f11 := ⟨ "slices.AppendSeq[[]string,string]", by decide, Tryz.func105.trans (congrArg some (by kernel_rfl))⟩
 t0:=Tryz.underlying0
 a0:=Tryz.isAgg0
 z0:=Tryz.sizeOf0
 v0:=Tryz.zeroValue0
 t24:=Tryz.underlying33
 a24:=Tryz.isAgg33
 z24:=Tryz.sizeOf33
 v24:=Tryz.zeroValue33
 t26:=Tryz.underlying9
 a26:=Tryz.isAgg9
 z26:=Tryz.sizeOf9
 v26:=Tryz.zeroValue9
 t28:=Tryz.underlying113
 a28:=Tryz.isAgg113
 z28:=Tryz.sizeOf113
 v28:=Tryz.zeroValue113
 i26:=by kernel_rfl

def laysKe_ren:Go.Shelf.Ren:=⟨fun | 7=>67 | 10=>92 | n=>n,fun | 23=>82 | 26=>9 | 3=>46 | 28=>113 | 0=>0 | 27=>112 | 33=>68 | 4=>4 | n=>n,fun | n=>n⟩
theorem laysKe:Go.Proofs.SlLaysZ.n7 Tryz.prog laysKe_ren where
 mixed:=by kernel_rfl
 f7 := ⟨ "maps.Keys[map[string]tender/api.Entry,string,tender/api.Entry]", by decide, Tryz.func67.trans (congrArg some (by kernel_rfl))⟩
 f10 := ⟨ "maps.Keys[map[string]tender/api.Entry,string,tender/api.Entry]$1", by decide, Tryz.func92.trans (congrArg some (by kernel_rfl))⟩
 t0:=Tryz.underlying0
 a0:=Tryz.isAgg0
 z0:=Tryz.sizeOf0
 v0:=Tryz.zeroValue0
 t4:=Tryz.underlying4
 a4:=Tryz.isAgg4
 z4:=Tryz.sizeOf4
 v4:=Tryz.zeroValue4
 t23:=Tryz.underlying82
 a23:=Tryz.isAgg82
 z23:=Tryz.sizeOf82
 v23:=Tryz.zeroValue82
 t26:=Tryz.underlying9
 a26:=Tryz.isAgg9
 z26:=Tryz.sizeOf9
 v26:=Tryz.zeroValue9
 t27:=Tryz.underlying112
 a27:=Tryz.isAgg112
 z27:=Tryz.sizeOf112
 v27:=Tryz.zeroValue112
 t28:=Tryz.underlying113
 a28:=Tryz.isAgg113
 z28:=Tryz.sizeOf113
 v28:=Tryz.zeroValue113
 t33:=Tryz.underlying68
 a33:=Tryz.isAgg68
 z33:=Tryz.sizeOf68
 v33:=Tryz.zeroValue68

def RR:Value→Option (DataW Unit × List MemPlace):=fun _=>some (.nil,[])
def litE (e:EntM):Lit × DataW Unit:=(.string e.1.p.data.toList,.nil)
def datE (E:List EntM):DataW Unit:=.map ((E.map litE).foldr DataW.insert [])
theorem und_str:Tryz.prog.underlying 9=some .string:=by kernel_rfl
theorem key_str {s:ByteArray} (hs:s.size≤1000000000):keyOf Tryz.prog 9 (Value.string s)=some (Lit.string s.data.toList):=by
 unfold keyOf mapKey
 rw [und_str]
 exact if_pos (Nat.le_trans hs (by decide))
theorem rg_ent (e:EntM) (hs:e.1.p.size≤1000000000):WideElems.rg Tryz.prog 9 RR (entV e)=litE e:=by
 unfold WideElems.rg WideElems.rd
 have:(entV e).key=Value.string e.1.p:=rfl
 rw [this,key_str hs];rfl
theorem owns_of {w:World} {m cl:Nat} {E:List EntM} (hB:BookOK E cl) (hh:w.heap[m]?=some (.map (E.map entV).toArray cl)) (few:E.length≤1000):w.ownsMap Tryz.prog 9 RR m E.length (datE E):=by
 refine ⟨_,_,hh,⟨?_,⟨?_,?_,?_⟩,?_⟩,by simp,?_⟩
 ·simp only [List.size_toArray,List.length_map]
  exact Nat.le_trans few (by decide)
 ·intro x hx
  obtain ⟨e,he,rfl⟩:=List.mem_map.1 (show x∈E.map entV by simpa using hx)
  exact hB.born e he
 ·have:(E.map entV).map (·.born)=E.map fun e=>e.2:=by rw [List.map_map];rfl
  rw [List.toList_toArray,this];exact hB.borns
 ·have:(E.map entV).map (·.key)=(E.map fun e=>e.1.p).map Value.string:=by rw [List.map_map,List.map_map];rfl
  rw [List.toList_toArray,this]
  refine List.pairwise_map.2 (hB.names.imp fun h h'=>h ?_)
  cases h';rfl
 ·intro x hx
  obtain ⟨e,he,rfl⟩:=List.mem_map.1 (show x∈E.map entV by simpa using hx)
  refine ⟨litE e,?_⟩
  unfold WideElems.rd
  have:(entV e).key=Value.string e.1.p:=rfl
  rw [this,key_str (hB.size e he)];rfl
 ·unfold datE
  rw [List.toList_toArray,List.map_map]
  have:E.map ((WideElems.rg Tryz.prog 9 RR) ∘ entV)=E.map litE:=List.map_congr_left fun e he=>rg_ent e (hB.size e he)
  rw [this]
theorem keys_of (E:List EntM):(strKeys (datE E)).Perm (E.map fun e=>e.1.p.data.toList):=by
 unfold strKeys datE
 refine ((WideShapes.sorted_perm (E.map litE)).map _).trans ?_
 rw [List.map_map];exact List.Perm.refl _
theorem size_of_dat (E:List EntM):Maps.size (datE E)=E.length:=by
 show (List.foldr DataW.insert [] (List.map litE E)).length=E.length
 rw [DataW.length_sorted];simp
def StrSl (w w':World) (v:Value) (l:List ByteArray):Prop:=(v=.slice none 0 0∧l=[])∨(l≠[]∧NewSl w w' v (l.map Value.string) l.length 1 9)
theorem strSl_own {w w':World} {v:Value} {l:List ByteArray} (h:w'.ownsRow w.heap.size 9 1 v l.length (l.map Value.string)) (hn:v=.slice none 0 0↔l=[]):StrSl w w' v l:=by
 rcases h.2 with ⟨h1,h2⟩ | ⟨g,cap,cur,rfl,hg,hh,h1,h2,h3,h4⟩
 ·exact .inl ⟨h1,List.length_eq_zero_iff.1 h2⟩
 ·refine .inr ⟨fun h0=>(by have:=hn.2 h0;cases this),g,cap,cur.toList.drop l.length,rfl,hg,h1,?_,?_⟩
  ·rw [hh,← h4,Nat.mul_one,List.take_append_drop]
  ·rw [← h4,Nat.mul_one,List.take_append_drop];simpa using h3
theorem enc_bytes (l:List (List UInt8)):l.map encStr=(l.map fun x=>(⟨x.toArray⟩:ByteArray)).map Value.string:=by rw [List.map_map];rfl
theorem bytes_back (E:List EntM):(E.map fun e=>e.1.p.data.toList).map (fun x=>(⟨x.toArray⟩:ByteArray))=E.map fun e=>e.1.p:=by
 rw [List.map_map]
 exact List.map_congr_left fun e _=>by simp
theorem collect_calls {w:World} {x m cl:Nat} {E:List EntM} (hx:w.heap[x]?=some (.cells #[.map (some m)] 82 (0,0))) (hB:BookOK E cl) (hh:w.heap[m]?=some (.map (E.map entV).toArray cl)) (few:E.length≤1000):
  Calls Tryz.prog 91 #[.func (.func 92) #[] #[.pointer (some ⟨x,0,none⟩)]] w fun e w'=>∃ v l,e=.returned v∧l.Perm (E.map fun e=>e.1.p)∧StrSl w w' v l∧Below w.heap.size w w':=by
 have hown:=owns_of hB hh few
 have hxl:x<w.heap.size:=(Array.getElem?_eq_some_iff.1 hx).1
 have hseq:SeqGives Fence.wide 3 Tryz.prog 92 #[.pointer (some ⟨x,0,none⟩)] encStr (fun ss=>ss.Perm (strKeys (datE E))) (Maps.size (datE E)) w:=
  AnyZ.keys_gives (ρ:=laysKe_ren) { laysKe with } Fence.wide 3 trivial rfl (by omega) x m E.length (datE E) w hxl (by rw [cell_at hx];rfl) hown
 have h:=AnyZ.collect_in laysCo Fence.wide 5 trivial trivial rfl (by omega) 92 #[.pointer (some ⟨x,0,none⟩)] trivial (enters_of Tryz.func92 (by kernel_rfl) rfl) _ (Maps.size (datE E)) (by rw [size_of_dat];exact Nat.le_trans few (by decide)) (by rw [size_of_dat];omega) w hseq
 refine (callsIn_wide.1 h).mono fun e w' ⟨v,ss,he,hp,hrow,hnil,hb⟩=>⟨v,ss.map fun x=>⟨x.toArray⟩,he,?_,?_,hb⟩
 ·have:=(hp.trans (keys_of E)).map fun x=>(⟨x.toArray⟩:ByteArray)
  rw [bytes_back] at this;exact this
 ·rw [enc_bytes] at hrow
  have hrow:w'.ownsRow w.heap.size 9 1 v ss.length ((ss.map fun x=>(⟨x.toArray⟩:ByteArray)).map Value.string):=hrow
  refine strSl_own (by simpa using hrow) ?_
  rw [hnil];simp
theorem sub_names {E:List EntM} {cl:Nat} (hB:BookOK E cl) {l:List ByteArray} (hp:l.Perm (E.map fun e=>e.1.p)):∃ L:List NmS,L.map (·.1)=l:=by
 have hs:∀ s∈l,s.size≤1000000000:=fun s hs=>by
  obtain ⟨e,he,rfl⟩:=List.mem_map.1 (hp.mem_iff.1 hs)
  exact hB.size e he
 exact ⟨l.attach.map fun s=>⟨s.1,hs s.1 s.2⟩,by rw [List.map_map];exact List.attach_map_subtype_val l⟩
theorem names_sort {E:List EntM} {l:List ByteArray} (hp:l.Perm (E.map fun e=>e.1.p)):sortN l=sortN (E.map fun e=>e.1.p):=
 sort_unique (sortN_sorted _) ((sortN_perm _).trans hp.symm)
def SortedIs (w:World) (l:List ByteArray) (e:Ending) (w':World):Prop:=∃ v,e=.returned v∧StrSl w w' v l∧Below w.heap.size w w'
theorem sorted_calls {w:World} {x m cl:Nat} {E:List EntM} (hm:MX w) (hx:w.heap[x]?=some (.cells #[.map (some m)] 82 (0,0))) (hB:BookOK E cl) (hh:w.heap[m]?=some (.map (E.map entV).toArray cl)) (few:E.length≤1000):
  Calls Tryz.prog 66 #[.func (.func 92) #[] #[.pointer (some ⟨x,0,none⟩)],.func (.func 21) #[] #[]] w (SortedIs w (sortN (E.map fun e=>e.1.p))):=by
 have hc:=collect_calls hx hB hh few
 clear hx hh
 go_enter Tryz.func66,Tryz.ntmps66
 go_wp2_with (go_at_call 91;refine hc.mono ?_;rintro e W ⟨v,l,rfl,hp,hrow,hb⟩)
 rcases hrow with ⟨rfl,rfl⟩ | ⟨hne,b,c,rest,rfl,hbase,hnc,hbh,hsz⟩
 ·go_wp2_with (go_at_call 20;refine (AnyF.slices_SortFunc_none { laysSF with } none 0 _ W).mono ?_;rintro e w' ⟨rfl,rfl⟩)
  go_ret
  refine ⟨_,rfl,.inl ⟨rfl,?_⟩,hb⟩
  rw [← names_sort hp];exact List.length_eq_zero_iff.1 (sortN_perm []).length_eq
 ·have hs:=names_sort hp
  obtain ⟨L,rfl⟩:=sub_names hB hp
  have hm':MX W:=hm.keep fun k hk=>hb.block k hk
  have hbm:b≠0:=by
   obtain ⟨z,hz⟩:=hm
   intro h0
   have h1:0<w.heap.size:=by
    rcases Nat.lt_or_ge 0 w.heap.size with h' | h'
    ·exact h'
    ·unfold World.cell? at hz
     simp only at hz
     rw [Array.getElem?_eq_none h'] at hz
     cases hz
   omega
  have hbh':W.heap[b]?=some (.cells (L.map encN++rest).toArray 9 (0,0)):=by
   rw [hbh,List.map_map];rfl
  have hll:L.length≤1000:=by
   have:=hp.length_eq
   simp only [List.length_map] at this
   omega
  have cS:=sort_calls (cap:=c) hm' hbm hbh' (by omega)
  have hlen:(L.map (·.1)).length=L.length:=by simp
  rw [← hlen] at cS
  have HS:=Lib.hid hs
  have HZ:=Lib.hid hsz
  clear hbh hbh' hs hlen hsz hll
  go_wp2_with (go_at_call 20;refine cS.mono ?_;rintro e w' ⟨rfl,hbut,hcells⟩)
  go_ret
  refine ⟨_,rfl,.inr ⟨?_,b,c,rest,?_,hbase,?_,?_,?_⟩,hbut.os.trans hb.os,hbut.tape.trans hb.tape,hbut.output.trans hb.output,Nat.le_trans hb.size hbut.size,fun k hk=>(hbut.block k (Nat.lt_of_lt_of_le hk hb.size) (by omega)).trans (hb.block k hk)⟩
  ·rw [← HS.out]
   intro h0
   have:=(sortN_perm (L.map (·.1))).length_eq
   rw [h0] at this
   exact hne (List.length_eq_zero_iff.1 this.symm)
  ·rw [← HS.out,(sortN_perm _).length_eq]
   simp
  ·rw [← HS.out,(sortN_perm _).length_eq];exact hnc
  ·rw [← HS.out];exact hcells
  ·rw [← HS.out]
   have h1:=HZ.out
   simp only [List.length_append,List.length_map] at h1 ⊢
   rw [(sortN_perm _).length_eq];simpa using h1
theorem paths_calls {w:World} {b m cl:Nat} {s:Int} {E:List EntM} (hm:MX w) (hA:BookAt w b m s E cl) (hB:BookOK E cl) (few:E.length≤1000):
  Calls Tryz.prog 43 #[.pointer (some ⟨b,0,none⟩)] w (SortedIs w (sortN (E.map fun e=>e.1.p))):=by
 have hbl:b<w.heap.size:=(Array.getElem?_eq_some_iff.1 hA.row).1
 have hml:m<w.heap.size:=(Array.getElem?_eq_some_iff.1 hA.map).1
 have h1:w.cell? ⟨b,1,none⟩=some (.map (some m)):=by rw [cell_at hA.row];rfl
 have hb:Below w.heap.size w (w.alloc (.cells #[.map (some m)] 82)):=(Below.refl _ _).alloc (Nat.le_refl _) _
 have cs:=sorted_calls (x:=w.heap.size) (hm.keep fun k hk=>hb.block k hk) (show (w.heap.push _)[w.heap.size]?=some _ by rw [Array.getElem?_push_size]) hB ((hb.block m hml).trans hA.map) few
 have ck:=callsIn_wide.1 (AnyZ.keys_in laysKe Fence.wide 5 trivial rfl (some m) w)
 clear hA
 go_enter Tryz.func43,Tryz.ntmps43
 go_wp2_with (first
  | (go_at_call 67;refine ck.mono ?_;rintro e w' ⟨rfl,rfl⟩)
  | (go_at_call 66;refine cs.mono ?_;rintro e w' ⟨v,rfl,hv,hb2⟩))
 go_ret
 have h3:w.heap.size≤(w.alloc (.cells #[.map (some m)] 82)).heap.size:=hb.size
 refine ⟨_,rfl,?_,hb.trans (hb2.mono h3)⟩
 rcases hv with hv | ⟨hne,g,c,rest,h4,h5,h6⟩
 ·exact .inl hv
 ·exact .inr ⟨hne,g,c,rest,h4,Nat.le_trans h3 h5,h6⟩
end paths
end Go.Proofs.YtbjmmnegkpeboaaGreat
set_option linter.unusedSimpArgs false
set_option linter.unusedVariables false
set_option maxRecDepth 100000
namespace Go.Proofs.YtbjmmnegkpeboaaGreat
open Go Go.Rx Go.RowKit Go.Proofs
namespace paths
def bkR (s:Int):Option (SO × Bool):=some (.row [.v (.int .u64 s),.map 1] 84 (0,0) none,false)
def mapR (es:List (SV × SV × Nat)) (cl:Nat):Option (SO × Bool):=some (.map es cl,false)
theorem entR_of {ν:Val}:∀ E:List EntM,EntR ν (E.map mC) (E.map entV)
 | []=>rfl
 | e::E=>⟨entV e,E.map entV,rfl,VR.v_iff.2 rfl,VR.agg_iff.2 ⟨_,rfl,VRL.lits ν (eV e.1)⟩,rfl,entR_of E⟩
theorem none2' {b m:Nat × Nat} {o o':SO} (z:Nat):¬ (layOwn [b,m] ([o,o'].map fun o=>(o,false))) z:=layOwn_none (os:=[_,_])
def laysBE_ren:Go.Shelf.Ren:=⟨fun | 115=>80 | n=>n,fun | 37=>42 | 4=>4 | 9=>9 | 5=>5 | n=>n,fun | n=>n⟩
theorem laysBE:Go.Proofs.Lays.nb115 Tryz.prog laysBE_ren where
 mixed:=by kernel_rfl
 f115:=Tryz.func80.trans (congrArg some (by kernel_rfl))
 t4:=Tryz.underlying4
 a4:=Tryz.isAgg4
 z4:=Tryz.sizeOf4
 v4:=Tryz.zeroValue4
 t9:=Tryz.underlying9
 a9:=Tryz.isAgg9
 z9:=Tryz.sizeOf9
 v9:=Tryz.zeroValue9
 t37:=Tryz.underlying42
 a37:=Tryz.isAgg42
 z37:=Tryz.sizeOf42
 v37:=Tryz.zeroValue42
 t5:=Tryz.underlying5
 a5:=Tryz.isAgg5
 z5:=Tryz.sizeOf5
 v5:=Tryz.zeroValue5

def Dat (w:World) (a:Option Addr) (l:Nat) (zs:List Int):Prop:=CellsIn w a l zs∧(a=none→l=0)
theorem Dat.keep {w0 w:World} {a:Option Addr} {l:Nat} {zs:List Int} (h:Dat w0 a l zs) (hk:∀ k,k<w0.heap.size→w.heap[k]?=w0.heap[k]?):Dat w a l zs:=⟨h.1.keep hk,h.2⟩
theorem Dat.below {w0 w:World} {a:Option Addr} {l:Nat} {zs:List Int} (h:Dat w0 a l zs) (hb:Below w0.heap.size w0 w):Dat w a l zs:=h.keep fun k hk=>hb.block k hk
theorem BytesAt.dat {w:World} {x:EntT} {zs:List Int} (h:BytesAt w.hp x zs) (hl:zs.length≤140737488355328):Dat w x.a x.l zs:=by
 rcases h with ⟨h1,h2,h3⟩ | ⟨b,rest,h1,h2,h3⟩
 ·rw [h1,h2,h3]
  exact ⟨⟨rfl,Nat.zero_le _,fun b hb=>by cases hb⟩,fun _=>rfl⟩
 ·rw [h1]
  refine ⟨⟨h3,by omega,fun b' hb' i hi W' hW=>?_⟩,fun h=>by cases h⟩
  cases hb'
  have h2:w.heap[b]?=_:=h2
  have hlt:=(Array.getElem?_eq_some_iff.1 h2).1
  rw [addr_add,cell_at ((hW b hlt).trans h2)]
  have:i<zs.length:=by omega
  simp [List.getElem?_append_left,this]
theorem Dat.bytes {w:World} {a:Option Addr} {l:Nat} {zs:List Int} (h:Dat w a l zs):Lib.BytesIn w a l zs:=by
 intro hl
 cases a with
 | none=>exact absurd (h.2 rfl) (by omega)
 | some p=>
  have h3:=h.1.2.2 p rfl
  have h0:=h3 0 hl w fun k _=>rfl
  obtain ⟨b,o,sp⟩:=p
  have hsp:sp=none:=by
   cases sp with
   | none=>rfl
   | some s=>
    exfalso
    unfold World.cell? at h0
    simp [Addr.add] at h0
    split at h0 <;> simp_all
  subst hsp
  refine ⟨b,o,rfl,fun i hi=>?_⟩
  have:=h3 i hi w fun k _=>rfl
  rwa [addr_add] at this
theorem eqW {w:World} {a a':Option Addr} {l l' c c':Nat} {zs us:List Int} (h1:Dat w a l zs) (h2:Dat w a' l' us):Calls Tryz.prog 80 #[.slice a l c,.slice a' l' c'] w fun e w'=>e=.returned (.bool (Lib.bytesOf zs==Lib.bytesOf us))∧w=w':=
 (Any.bytes_Equal_all laysBE a a' l c l' c' zs us w h1.1.1 h2.1.1 h1.bytes h2.bytes).mono fun e w' ⟨he,hw⟩=>⟨he,hw.symm⟩
theorem below1 {w:World} {o:Obj}:Below w.heap.size w (w.alloc o):=(Below.refl _ _).alloc (Nat.le_refl _) _
theorem below2 {w:World} {o o':Obj}:Below w.heap.size w ((w.alloc o).alloc o'):=below1.alloc below1.size _
theorem leafSameW {w:World} {k k':Int} {a a':Option Addr} {l l' c c':Nat} {zs us:List Int} (h1:Dat w a l zs) (h2:Dat w a' l' us):Calls Tryz.prog 49 #[.agg #[.int .i64 k,.slice a l c],.agg #[.int .i64 k',.slice a' l' c']] w fun e w'=>e=.returned (.bool ((k==k')&&(Lib.bytesOf zs==Lib.bytesOf us)))∧Below w.heap.size w w':=by
 by_cases hk:k=k'
 ·have hk':(k==k')=true:=by simp [hk]
  go_enter Tryz.func49,Tryz.ntmps49
  go_wp2_with (go_at_call 80;refine (eqW (h1.below below2) (h2.below below2)).mono ?_;rintro e w' ⟨rfl,rfl⟩)
  go_ret
  exact ⟨by rw [hk'];rfl,below2⟩
 ·have hk':(k==k')=false:=by simpa using hk
  go_enter Tryz.func49,Tryz.ntmps49
  go_wp2
  go_ret
  exact ⟨by rw [hk'];rfl,below2⟩
theorem convW {w:World} {a:Option Addr} {l c:Nat} {zs:List Int} (h:Dat w a l zs):(convert 42 9 (.slice a l c)).run Tryz.prog w=.ok (.string (strOfNums zs)) w:=
 h.bytes.convert h.1.1 c _ _ _ Tryz.underlying42 Tryz.underlying5 Tryz.underlying9
theorem leafSameR {w:World} {k k':Int} {a a':Option Addr} {l l' c c':Nat} {zs us:List Int} (h1:Dat w a l zs) (h2:Dat w a' l' us):Calls Tryz.prog 52 #[.agg #[.int .i64 k,.slice a l c],.agg #[.int .i64 k',.slice a' l' c']] w fun e w'=>e=.returned (.bool ((k==k')&&(Lib.bytesOf zs==Lib.bytesOf us)))∧Below w.heap.size w w':=by
 have g1:∀ o o',(convert 42 9 (.slice a l c)).run Tryz.prog ((w.alloc o).alloc o')=.ok (.string (strOfNums zs)) ((w.alloc o).alloc o'):=fun o o'=>convW (h1.below below2)
 have g2:∀ o o',(convert 42 9 (.slice a' l' c')).run Tryz.prog ((w.alloc o).alloc o')=.ok (.string (strOfNums us)) ((w.alloc o).alloc o'):=fun o o'=>convW (h2.below below2)
 rw [← Lib.strOfNums_toList,← Lib.strOfNums_toList]
 by_cases hk:k=k'
 ·have hk':(k==k')=true:=by simp [hk]
  go_enter Tryz.func52,Tryz.ntmps52
  go_wp2
  go_ret
  exact ⟨by rw [hk'];rfl,below2⟩
 ·have hk':(k==k')=false:=by simpa using hk
  go_enter Tryz.func52,Tryz.ntmps52
  go_wp2
  go_ret
  exact ⟨by rw [hk'];rfl,below2⟩
def sameB (x y:EntT) (zs us:List Int):Bool:=(x.p.toList==y.p.toList)&&((x.v==y.v)&&((x.k==y.k)&&(Lib.bytesOf zs==Lib.bytesOf us)))
theorem sameW {w:World} {x y:EntT} {zs us:List Int} (h1:Dat w x.a x.l zs) (h2:Dat w y.a y.l us):Calls Tryz.prog 24 #[.agg (eV x).toArray,.agg (eV y).toArray] w fun e w'=>e=.returned (.bool (sameB x y zs us))∧Below w.heap.size w w':=by
 unfold sameB
 obtain ⟨p,v,k,a,l,c⟩:=x
 obtain ⟨p',v',k',a',l',c'⟩:=y
 show Calls Tryz.prog 24 #[.agg #[.string p,.int .u64 v,.int .i64 k,.slice a l c],.agg #[.string p',.int .u64 v',.int .i64 k',.slice a' l' c']] w _
 dsimp only at h1 h2 ⊢
 by_cases hp:(p.toList==p'.toList)=true
 ·by_cases hv:(v==v')=true
  ·go_enter Tryz.func24,Tryz.ntmps24
   go_wp2_with (go_at_call 49;refine (leafSameW (h1.below below2) (h2.below below2)).mono ?_;rintro e w' ⟨rfl,hb⟩)
   go_ret
   exact ⟨by rw [hp,hv];rfl,below2.trans (hb.mono below2.size)⟩
  ·have hv:(v==v')=false:=by simpa using hv
   go_enter Tryz.func24,Tryz.ntmps24
   go_wp2
   go_ret
   exact ⟨by rw [hp,hv];rfl,below2⟩
 ·have hp:(p.toList==p'.toList)=false:=by simpa using hp
  go_enter Tryz.func24,Tryz.ntmps24
  go_wp2
  go_ret
  exact ⟨by rw [hp];rfl,below2⟩
theorem sameR {w:World} {x y:EntT} {zs us:List Int} (h1:Dat w x.a x.l zs) (h2:Dat w y.a y.l us):Calls Tryz.prog 28 #[.agg (eV x).toArray,.agg (eV y).toArray] w fun e w'=>e=.returned (.bool (sameB x y zs us))∧Below w.heap.size w w':=by
 unfold sameB
 obtain ⟨p,v,k,a,l,c⟩:=x
 obtain ⟨p',v',k',a',l',c'⟩:=y
 show Calls Tryz.prog 28 #[.agg #[.string p,.int .u64 v,.int .i64 k,.slice a l c],.agg #[.string p',.int .u64 v',.int .i64 k',.slice a' l' c']] w _
 dsimp only at h1 h2 ⊢
 by_cases hp:(p.toList==p'.toList)=true
 ·by_cases hv:(v==v')=true
  ·go_enter Tryz.func28,Tryz.ntmps28
   go_wp2_with (go_at_call 52;refine (leafSameR (h1.below below2) (h2.below below2)).mono ?_;rintro e w' ⟨rfl,hb⟩)
   go_ret
   exact ⟨by rw [hp,hv];rfl,below2.trans (hb.mono below2.size)⟩
  ·have hv:(v==v')=false:=by simpa using hv
   go_enter Tryz.func28,Tryz.ntmps28
   go_wp2
   go_ret
   exact ⟨by rw [hp,hv];rfl,below2⟩
 ·have hp:(p.toList==p'.toList)=false:=by simpa using hp
  go_enter Tryz.func28,Tryz.ntmps28
  go_wp2
  go_ret
  exact ⟨by rw [hp];rfl,below2⟩
noncomputable def entGG (s:Int) (es:List (SV × SV × Nat)) (cl:Nat) (p:ByteArray) (x:EntT) (ys:List Int):SM:=(enterS (EClo x.a x.l x.c ys) 25 [.ptr 0 0,.v (.string p)] (memOf 6 2 0 [bkR s,mapR es cl])).getD noSM
theorem gg0 (s : Int) (es : List (SV × SV × Nat)) (cl : Nat) (j born : Nat) (x : EntT) (ys : List Int) : endsX (EClo x.a x.l x.c ys) 25 300 (entGG s es cl x.p x ys) ([(1000, .b true)] ++ ff [0] true ++ [(1, .hit j (.agg [.v (.string x.p), .v (.int .u64 x.v), .v (.int .i64 x.k), .v (.slice x.a x.l x.c)]) born)] ++ ff (List.range 30) false) [] (.v (.agg #[.string x.p, .int .u64 x.v, .int .i64 x.k, .slice none 0 0])) = [
  Value.agg
   {
   toList :=
   [Value.string x.1, Value.int IntKind.u64 x.2, Value.int IntKind.i64 x.3, Value.slice none (0 : Nat) (0 : Nat)] :
   Array Value } =
   Value.agg
   {
   toList :=
   [Value.string x.1, Value.int IntKind.u64 x.2, Value.int IntKind.i64 x.3, Value.slice none (0 : Nat) (0 : Nat)] :
   Array Value },
  (x.3 == x.3) = true,
  x.4 = none,
  false = false,
  (∀ (e : SV × SV × Nat), e ∈ List.take j es → keyNot x.p e.fst) ∧
   es[j]? =
   some
   (SV.v (Value.string x.1),
   SV.agg
   [SV.v (Value.string x.1), SV.v (Value.int IntKind.u64 x.2), SV.v (Value.int IntKind.i64 x.3),
   SV.v (Value.slice x.4 x.5 x.6)],
   born),
  (!false) = true] := by kernel_rfl
theorem gg1 (s : Int) (es : List (SV × SV × Nat)) (cl : Nat) (j born : Nat) (x : EntT) (ys : List Int) (m : List SV) : endsO (EClo x.a x.l x.c ys) 25 300 (entGG s es cl x.p x ys) ([(1000, .b true)] ++ ff [0] true ++ [(1, .hit j (.agg [.v (.string x.p), .v (.int .u64 x.v), .v (.int .i64 x.k), .v (.slice x.a x.l x.c)]) born)] ++ ff [2] false ++ ff (List.range 30) true) (.agg [.v (.string x.p), .v (.int .u64 x.v), .v (.int .i64 x.k), .sl 9 0 x.l none]) 9 (.row m 5 (0, 0) (some 1)) = [
  Value.string x.1 = Value.string x.1,
  Value.int IntKind.u64 x.2 = Value.int IntKind.u64 x.2,
  Value.int IntKind.i64 x.3 = Value.int IntKind.i64 x.3,
  (0 : Nat) = (0 : Nat) ∧ x.5 = x.5 ∧ (none : Option Nat) = none,
  List.map SV.v (List.map (Value.int IntKind.u8) ys) = m,
  m.all closedSV = true,
  (x.3 == x.3) = true,
  (x.4 = x.4 ∧ x.5 = x.5 ∧ x.6 = x.6) ∧ x.4 ≠ none,
  false = false,
  (∀ (e : SV × SV × Nat), e ∈ List.take j es → keyNot x.p e.fst) ∧
   es[j]? =
   some
   (SV.v (Value.string x.1),
   SV.agg
   [SV.v (Value.string x.1), SV.v (Value.int IntKind.u64 x.2), SV.v (Value.int IntKind.i64 x.3),
   SV.v (Value.slice x.4 x.5 x.6)],
   born),
  (!false) = true] := by kernel_rfl
theorem gg2 (s : Int) (es : List (SV × SV × Nat)) (cl : Nat) (p : ByteArray) (x : EntT) (ys : List Int) (v : Value) : endsV (EClo x.a x.l x.c ys) 25 300 (entGG s es cl p x ys) ([(1000, .b true)] ++ ff [0] true ++ [(1, .miss)] ++ ff (List.range 30) true) v = [
  Value.agg
   {
   toList :=
   [Value.string p, Value.int IntKind.u64 (0 : Int), Value.int IntKind.i64 (0 : Int),
   Value.slice none (0 : Nat) (0 : Nat)] :
   Array Value } =
   v,
  true = true,
  ∀ (e : SV × SV × Nat), e ∈ es → keyNot p e.fst,
  (!false) = true] := by kernel_rfl
theorem book_read {Q:Env} (hP:Q.P=Tryz.prog) (hG:Q.G=[]) {f:FuncId} {w:World} {b m cl:Nat} {s:Int} {E:List EntM} (hA:BookAt w b m s E cl) (hne:b≠m) {p:ByteArray} {R:Ending→World→Prop} {S0:SM} (hS0:enterS Q f [.ptr 0 0,.v (.string p)] (memOf 6 2 0 [bkR s,mapR (E.map mC) cl])=some S0)
  (h:∀ cs0,Goes Q (layOwn [(b,0),(m,0)] ([SO.row [.v (.int .u64 s),.map 1] 84 (0,0) none,SO.map (E.map mC) cl].map fun o=>(o,false))) w cs0 f R (layVal [(b,0),(m,0)]) S0):
  Calls Tryz.prog f #[.pointer (some ⟨b,0,none⟩),.string p] w R:=by
 refine calls_readR (E:=Q) hP (d:=6) (l:=[(b,0),(m,0)]) (os:=[.row [.v (.int .u64 s),.map 1] 84 (0,0) none,.map (E.map mC) cl]) rfl (by simp) (by simpa using hne) ?_ hG (args:=[.ptr 0 0,.v (.string p)]) (a:=[.pointer (some ⟨b,0,none⟩),.string p]) (S0:=S0) hS0 (VRL.cons (VR.ptr_iff.2 ⟨(b,0),rfl,rfl⟩) (VRL.cons (VR.v_iff.2 rfl) VRL.nil)) h
 intro j o' b' c' h1 h2
 match j with
 | 0=>
  simp only [List.getElem?_cons_zero,Option.some.injEq] at h1 h2
  subst h1
  cases h2
  exact ⟨_,hA.row,_,[],rfl,VRL.cons (VR.v_iff.2 rfl) (VRL.cons (VR.map_iff.2 ⟨(m,0),rfl,rfl⟩) VRL.nil),rfl⟩
 | 1=>
  simp only [List.getElem?_cons_succ,List.getElem?_cons_zero,Option.some.injEq] at h1 h2
  subst h1
  cases h2
  exact ⟨_,hA.map,_,rfl,entR_of E⟩
 | j+2=>simp at h1
def lookZ (c:EntT→List Int) (l:List EntT) (p:ByteArray):Int × Int × List Int:=match l.find? (isE p) with | some f=>(f.v,f.k,c f) | none=>(0,0,[])
def NewDat (w w':World) (x:EntT) (zs:List Int):Prop:=BytesAt w'.hp x zs∧zs.length≤140737488355328∧∀ b,x.a=some b→w.heap.size≤b.block
def DatH (H:Hp) (a:Option Addr) (l:Nat) (zs:List Int):Prop:=∀ w:World,H.Sub w.hp→Dat w a l zs
theorem NewDat.datH {H:Hp} {w w':World} {x:EntT} {zs:List Int} (h:NewDat w w' x zs):DatH (H.grow w w') x.a x.l zs:=fun w2 h2=>by
 obtain ⟨hb,hl,hn⟩:=h
 refine BytesAt.dat (w:=w2) ?_ hl
 rcases hb with hb | ⟨b,rest,h1,h3,h4⟩
 ·exact .inl hb
 ·refine .inr ⟨b,rest,h1,h2 _ _ ?_,h4⟩
  have:=hn _ h1
  unfold Hp.grow
  rw [if_neg (by simp only at this;omega)]
  exact h3
def GotIs (H:Hp) (z:Int × Int × List Int) (p:ByteArray) (w:World) (e:Ending) (w':World):Prop:=Below w.heap.size w w'∧∃ x zs,e=.returned (.agg (eV x).toArray)∧x.p=p∧(x.v,x.k,zs)=z∧DatH (H.grow w w') x.a x.l zs
theorem dat_none {w:World}:Dat w none 0 []:=⟨⟨rfl,Nat.zero_le _,fun b hb=>by cases hb⟩,fun _=>rfl⟩
theorem newDat_none {w w':World} {x:EntT} (h:x.a=none) (h2:x.l=0):NewDat w w' x []:=⟨.inl ⟨h,h2,rfl⟩,Nat.zero_le _,fun b hb=>by rw [h] at hb;cases hb⟩
theorem newSl_dat {w w':World} {x:EntT} {zs:List Int} {b c:Nat} {v:Value} (hD:Dat w x.a x.l zs) (hv:v=.slice (some ⟨b,0,none⟩) x.l c) (h:NewSl w w' v (zs.map (Value.int .u8)) x.l 1 5):NewDat w w' ⟨x.p,x.v,x.k,some ⟨b,0,none⟩,x.l,c⟩ zs:=by
 obtain ⟨g,c',rest,h2,h3,h4,h5,h6⟩:=h
 rw [hv] at h2
 cases h2
 exact ⟨.inr ⟨b,rest,rfl,h5,hD.1.1⟩,by rw [hD.1.1];exact hD.1.2.1,fun b' hb'=>by cases hb';exact h3⟩
theorem get_calls {w:World} {b m cl:Nat} {s:Int} {E:List EntM} {cm:EntT→List Int} (hA:BookAt w b m s E cl) (hne:b≠m) (hB:BookOK E cl) (hd:∀ e∈E,Dat w e.1.a e.1.l (cm e.1)) (p:ByteArray) (H:Hp):
  Calls Tryz.prog 25 #[.pointer (some ⟨b,0,none⟩),.string p] w (GotIs H (lookZ cm (E.map (·.1)) p) p w):=by
 unfold lookZ
 cases hf:(E.map (·.1)).find? (isE p) with
 | none=>
  have hm:∀ e∈E,e.1.p≠p:=fun e he h=>by
   have:=List.find?_eq_none.1 hf e.1 (List.mem_map.2 ⟨e,he,rfl⟩)
   exact this (isE_iff.2 h)
  refine book_read (Q:=EClo none 0 0 []) rfl rfl hA hne (S0:=entGG s (E.map mC) cl p ⟨p,0,0,none,0,0⟩ []) (by kernel_rfl) fun cs0=>?_
  refine Goes.endsV (KClo (x:=⟨p,0,0,none,0,0⟩) none2' dat_none.1) (n:=300) (o:=([(1000,.b true)]++ff [0] true++[(1,.miss)]++ff (List.range 30) true)) (v:=.agg #[.string p,.int .u64 0,.int .i64 0,.slice none 0 0]) ?_ fun ν' M1 w1 s' w' _ hB hr=>⟨below_of none2' hB hr,⟨p,0,0,none,0,0⟩,[],rfl,rfl,rfl,(newDat_none rfl rfl).datH⟩
  rw [show (EClo none 0 0 [])=EClo (⟨p,0,0,none,0,0⟩:EntT).a (⟨p,0,0,none,0,0⟩:EntT).l (⟨p,0,0,none,0,0⟩:EntT).c [] from rfl,gg2]
  simp only [Owed,and_self,and_true,true_and]
  exact ⟨rfl,miss_at hm⟩
 | some f=>
  have hf1:=List.mem_of_find?_eq_some hf
  have hfp:f.p=p:=isE_iff.1 (List.find?_some hf)
  obtain ⟨g,hg,rfl⟩:=List.mem_map.1 hf1
  subst hfp
  have hD:=hd g hg
  obtain ⟨j,hj,hx⟩:=hit_at' hB.names hg
  refine book_read (Q:=EClo g.1.a g.1.l g.1.c (cm g.1)) rfl rfl hA hne (S0:=entGG s (E.map mC) cl g.1.p g.1 (cm g.1)) (by kernel_rfl) fun cs0=>?_
  by_cases ha:g.1.a=none
  ·refine endsN (v:=.agg #[.string g.1.p,.int .u64 g.1.v,.int .i64 g.1.k,.slice none 0 0]) (KClo none2' hD.1) none2' (n:=300) (o:=([(1000,.b true)]++ff [0] true++[(1,.hit j (.agg [.v (.string g.1.p),.v (.int .u64 g.1.v),.v (.int .i64 g.1.k),.v (.slice g.1.a g.1.l g.1.c)]) g.2)]++ff (List.range 30) false)) ⟨?_⟩ fun w' hB=>⟨hB,⟨g.1.p,g.1.v,g.1.k,none,0,0⟩,cm g.1,rfl,rfl,rfl,?_⟩
   ·rw [gg0]
    simp only [Owed,and_self,and_true,true_and]
    refine ⟨⟨⟨rfl,hj⟩,ha⟩,?_⟩;first | rfl | exact beq_self_eq_true g.1.k
   ·have h0:cm g.1=[]:=List.length_eq_zero_iff.1 (by rw [hD.1.1];exact hD.2 ha)
    rw [h0];exact (newDat_none rfl rfl).datH
  ·refine Goes.endsO (KClo none2' hD.1) (n:=300) (o:=([(1000,.b true)]++ff [0] true++[(1,.hit j (.agg [.v (.string g.1.p),.v (.int .u64 g.1.v),.v (.int .i64 g.1.k),.v (.slice g.1.a g.1.l g.1.c)]) g.2)]++ff [2] false++ff (List.range 30) true)) (x:=.agg [.v (.string g.1.p),.v (.int .u64 g.1.v),.v (.int .i64 g.1.k),.sl 9 0 g.1.l none]) (i:=9) (so:=.row (List.map SV.v (List.map (Value.int .u8) (cm g.1))) 5 (0,0) (some 1)) (by
    rw [gg1]
    simp only [Owed,ys_closed,and_self,and_true,true_and]
    refine ⟨⟨⟨rfl,hj⟩,ha⟩,?_⟩;first | rfl | exact beq_self_eq_true g.1.k) fun ν' w' y b1 ob hv hb ho hor hw hB=>?_
   have hn:w.heap.size≤b1.1:=by
    rcases hw with h | h
    ·exact h
    ·exact absurd h (none2' _)
   obtain ⟨_,_,_,_,hB,hr⟩:=hB
   obtain ⟨a,rfl,ha1⟩:=VR.agg_iff.1 hv
   obtain ⟨y1,a1,rfl,q1,ha2⟩:=ha1.cons_inv
   obtain ⟨y2,a2,rfl,q2,ha3⟩:=ha2.cons_inv
   obtain ⟨y3,a3,rfl,q3,ha4⟩:=ha3.cons_inv
   obtain ⟨y4,a4,rfl,q4,ha5⟩:=ha4.cons_inv
   obtain rfl:=ha5.nil_inv
   obtain rfl:=VR.v_iff.1 q1
   obtain rfl:=VR.v_iff.1 q2
   obtain rfl:=VR.v_iff.1 q3
   have hs:=NewSl.of_row q4 hb ho hor hn fun zs hz=>ys_val hz
   have hs2:=hs
   obtain ⟨g',c,rest,rfl,_⟩:=hs2
   exact ⟨below_of none2' hB hr,⟨g.1.p,g.1.v,g.1.k,_,g.1.l,c⟩,cm g.1,rfl,rfl,rfl,(newSl_dat (x:=g.1) hD rfl hs).datH⟩
def BookK (H0:Hp) (f:FuncId) (B:Value) (c:EntT→List Int) (l:List EntT):Prop:=
 ∀ H w,H0.Sub H→H.Sub w.hp→∀ p,Calls Tryz.prog f #[B,.string p] w (GotIs H (lookZ c l p) p w)
def ptrB (b:Nat):Value:=.pointer (some ⟨b,0,none⟩)
def cellB (j:Nat):SO:=.row [.ptr j 0] 27 (0,0) none
noncomputable def entBk (p:ByteArray):SM:=(enterS EN0 23 [.v (.string p),.ptr 0 0,.ptr 1 0] (memOf 6 4 0 [some (cellB 2,false),some (cellB 3,false),lkE [],lkE []])).getD noSM
def aggX (x:EntT):SV:=.v (.agg #[.string x.p,.int .u64 x.v,.int .i64 x.k,.slice x.a x.l x.c])
noncomputable def bk1S (p:ByteArray) (x:EntT):SM:=backT EN0 25 100 (entBk p) (ff [1000] true) (aggX x)
noncomputable def bk2S (p:ByteArray) (x y:EntT):SM:=backT EN0 25 100 (bk1S p x) (ff [1000] true) (aggX y)
noncomputable def bk3S (p:ByteArray) (x y:EntT) (t:Bool):SM:=backT EN0 24 100 (bk2S p x y) (ff [1000] true) (.v (.bool t))
theorem bq1 (p:ByteArray):callO EN0 25 100 (entBk p) (ff [1000] true)=[
 ]:=by kernel_rfl
theorem bq2 (p:ByteArray) (x:EntT):backO EN0 25 100 (entBk p) (ff [1000] true) (aggX x)=[
 (0:Nat)=(0:Nat)]:=by kernel_rfl
theorem bq3 (p:ByteArray) (x:EntT):callO EN0 25 100 (bk1S p x) (ff [1000] true)=[
 ]:=by kernel_rfl
theorem bq4 (p:ByteArray) (x y:EntT):backO EN0 25 100 (bk1S p x) (ff [1000] true) (aggX y)=[
 ]:=by kernel_rfl
theorem bq5 (p:ByteArray) (x y:EntT):callO EN0 24 100 (bk2S p x y) (ff [1000] true)=[
 ]:=by kernel_rfl
theorem bq6 (p:ByteArray) (x y:EntT) (t:Bool):backO EN0 24 100 (bk2S p x y) (ff [1000] true) (.v (.bool t))=[
 ]:=by kernel_rfl
theorem bq7 (p:ByteArray) (x y:EntT) (t:Bool) (v:Value):endsV EN0 23 100 (bk3S p x y t) (ff [1000] true) v=[
 (Value.bool !t)=v]:=by kernel_rfl
def diffZ (z1 z2:Int × Int × List Int):Bool:=!((z1.1==z2.1)&&((z1.2.1==z2.2.1)&&(Lib.bytesOf z1.2.2==Lib.bytesOf z2.2.2)))
theorem same_diff {x y:EntT} {zs us:List Int} {p:ByteArray} (h1:x.p=p) (h2:y.p=p):(!sameB x y zs us)=diffZ (x.v,x.k,zs) (y.v,y.k,us):=by
 unfold sameB diffZ
 rw [h1,h2];simp
theorem sub_keep {W w:World} {H:Hp} (h0:W.hp.Sub H) (h:H.Sub w.hp):∀ k,k<W.heap.size→w.heap[k]?=W.heap[k]?:=fun k hk=>by
 have h1:=h _ _ (h0 k W.heap[k] (Array.getElem?_eq_getElem hk))
 rw [Array.getElem?_eq_getElem hk];exact h1
theorem pair_calls {W:World} {b1 b2 x1 x2:Nat} {c1 c2:EntT→List Int} {l1 l2:List EntT} {cs1 cs2:Array Value} {e1 e2:TypeId} {f1 f2:Nat × Nat} (hn:[x1,x2,b1,b2].Nodup)
  (hx1:W.heap[x1]?=some (.cells #[ptrB b1] 27 (0,0))) (hx2:W.heap[x2]?=some (.cells #[ptrB b2] 27 (0,0))) (hb1:W.heap[b1]?=some (.cells cs1 e1 f1)) (hb2:W.heap[b2]?=some (.cells cs2 e2 f2))
  (h1:BookK W.hp 25 (ptrB b1) c1 l1) (h2:BookK W.hp 25 (ptrB b2) c2 l2) (p:ByteArray):
  Calls Tryz.prog 23 #[.string p,ptrB x1,ptrB x2] W fun e w'=>Below W.heap.size W w'∧e=.returned (.bool (diffZ (lookZ c1 l1 p) (lookZ c2 l2 p))):=by
 have ho:∀ (j:Nat) (o':SO) (b' c':Nat),[cellB 2,cellB 3,SO.look [],SO.look []][j]?=some o'→[(x1,0),(x2,0),(b1,0),(b2,0)][j]?=some (b',c')→∃ r,W.heap[b']?=some r∧OR (layVal [(x1,0),(x2,0),(b1,0),(b2,0)]) j o' r:=by
  intro j o' b' c' q1 q2
  match j with
  | 0=>
   simp only [List.getElem?_cons_zero,Option.some.injEq] at q1 q2
   subst q1
   cases q2
   exact ⟨_,hx1,_,[],rfl,VRL.cons (VR.ptr_iff.2 ⟨(b1,0),rfl,rfl⟩) VRL.nil,rfl⟩
  | 1=>
   simp only [List.getElem?_cons_succ,List.getElem?_cons_zero,Option.some.injEq] at q1 q2
   subst q1
   cases q2
   exact ⟨_,hx2,_,[],rfl,VRL.cons (VR.ptr_iff.2 ⟨(b2,0),rfl,rfl⟩) VRL.nil,rfl⟩
  | 2=>
   simp only [List.getElem?_cons_succ,List.getElem?_cons_zero,Option.some.injEq] at q1 q2
   subst q1
   cases q2
   exact ⟨_,hb1,[],_,_,_,rfl,VRL.nil,fun k y h=>by simp at h⟩
  | 3=>
   simp only [List.getElem?_cons_succ,List.getElem?_cons_zero,Option.some.injEq] at q1 q2
   subst q1
   cases q2
   exact ⟨_,hb2,[],_,_,_,rfl,VRL.nil,fun k y h=>by simp at h⟩
  | j+4=>simp at q1
 refine calls_readR (E:=EN0) rfl (d:=6) (l:=[(x1,0),(x2,0),(b1,0),(b2,0)]) (os:=[cellB 2,cellB 3,.look [],.look []]) rfl (by simp) (by simpa using hn) ho rfl (args:=[.v (.string p),.ptr 0 0,.ptr 1 0]) (a:=[.string p,ptrB x1,ptrB x2]) (S0:=entBk p) (by kernel_rfl) (VRL.cons (VR.v_iff.2 rfl) (VRL.cons (VR.ptr_iff.2 ⟨(x1,0),rfl,rfl⟩) (VRL.cons (VR.ptr_iff.2 ⟨(x2,0),rfl,rfl⟩) VRL.nil))) fun cs0=>?_
 have hM:∀ z,¬ (layOwn [(x1,0),(x2,0),(b1,0),(b2,0)] ([cellB 2,cellB 3,SO.look [],SO.look []].map fun o=>(o,false))) z:=fun z=>layOwn_none (os:=[cellB 2,cellB 3,SO.look [],SO.look []])
 have hK0:=Kept.start (H0:=W.hp) (M:=layOwn [(x1,0),(x2,0),(b1,0),(b2,0)] ([cellB 2,cellB 3,SO.look [],SO.look []].map fun o=>(o,false))) (w:=W) (Hp.Sub.refl _) (fun z o _=>hM z) (layOwn_r (by
  intro j o' m b' c' q1 q2
  rw [List.getElem?_map] at q1
  obtain ⟨o2,q3,q4⟩:=Option.map_eq_some_iff.1 q1
  cases q4
  exact ho j o' b' c' q3 q2)) (fun _ h=>h)
 refine Goes.callV KN0 hK0 (n:=100) (g:=25) (o:=ff [1000] true) (args:=[.ptr 2 0,.v (.string p)]) (by rw [bq1];trivial) (by kernel_rfl) fun ν' w a hle hsub hgr ha=>?_
 obtain ⟨y1,as1,rfl,q1,ha2⟩:=ha.cons_inv
 obtain ⟨y2,as2,rfl,q2,ha3⟩:=ha2.cons_inv
 obtain rfl:=ha3.nil_inv
 obtain rfl:=VR.v_iff.1 q2
 obtain ⟨bb,hbb,rfl⟩:=VR.ptr_iff.1 q1
 have hbb:=hbb.symm.trans (hle 2 (b1,0) rfl)
 cases hbb
 refine (h1 _ w (Hp.Sub.refl _) hsub p).mono fun e w' ⟨hB,x,zs,he,hxp,hz,hd⟩=>⟨hB,.agg #[.string x.p,.int .u64 x.v,.int .i64 x.k,.slice x.a x.l x.c],he,fun M2 hK2=>⟨by show Owed (backO EN0 25 100 (entBk p) (ff [1000] true) (aggX x));rw [bq2];simp [Owed],?_⟩⟩
 show Goes EN0 M2 w' cs0 _ _ _ (bk1S p x)
 refine Goes.callV KN0 hK2 (n:=100) (g:=25) (o:=ff [1000] true) (args:=[.ptr 3 0,.v (.string p)]) (by rw [bq3];trivial) (by kernel_rfl) fun ν2 w2 a2 hle2 hsub2 hgr2 ha2=>?_
 obtain ⟨y1,as1,rfl,q1,ha2⟩:=ha2.cons_inv
 obtain ⟨y2,as2,rfl,q2,ha3⟩:=ha2.cons_inv
 obtain rfl:=ha3.nil_inv
 obtain rfl:=VR.v_iff.1 q2
 obtain ⟨bb,hbb,rfl⟩:=VR.ptr_iff.1 q1
 have hbb:=hbb.symm.trans (hle2 3 (b2,0) rfl)
 cases hbb
 refine (h2 _ w2 (Hp.sub_grow hsub) hsub2 p).mono fun e w3 ⟨hB3,y,us,he3,hyp,hz3,hd3⟩=>⟨hB3,.agg #[.string y.p,.int .u64 y.v,.int .i64 y.k,.slice y.a y.l y.c],he3,fun M3 hK3=>⟨by show Owed (backO EN0 25 100 (bk1S p x) (ff [1000] true) (aggX y));rw [bq4];trivial,?_⟩⟩
 show Goes EN0 M3 w3 cs0 _ _ _ (bk2S p x y)
 refine Goes.callV KN0 hK3 (n:=100) (g:=24) (o:=ff [1000] true) (args:=[aggX x,aggX y]) (by rw [bq5];trivial) (by kernel_rfl) fun ν4 w4 a4 hle4 hsub4 hgr4 ha4=>?_
 obtain ⟨y1,as1,rfl,q1,ha2⟩:=ha4.cons_inv
 obtain ⟨y2,as2,rfl,q2,ha3⟩:=ha2.cons_inv
 obtain rfl:=ha3.nil_inv
 obtain rfl:=VR.v_iff.1 q1
 obtain rfl:=VR.v_iff.1 q2
 refine (sameW (x:=x) (y:=y) (hd w4 ((Hp.sub_grow hsub2).trans hsub4)) (hd3 w4 hsub4)).mono fun e w5 ⟨he5,hB5⟩=>⟨hB5,_,he5,fun M5 hK5=>⟨by show Owed (backO EN0 24 100 (bk2S p x y) (ff [1000] true) (.v (.bool (sameB x y zs us))));rw [bq6];trivial,?_⟩⟩
 show Goes EN0 M5 w5 cs0 _ _ _ (bk3S p x y (sameB x y zs us))
 refine Goes.endsV KN0 (n:=100) (o:=ff [1000] true) (v:=.bool (!sameB x y zs us)) (by rw [bq7];simp [Owed]) fun ν' M1 w1 s' w' _ hB' hr=>⟨below_of hM (hK5.base.trans hB') hr,?_⟩
 rw [same_diff hxp hyp,hz,hz3]
def pathsS (E:List EntM):SlG:=fun args sh=>match args with
 | [.ptr i 0]=>match sh.look i with
  | some (.row [.v (.int .u64 s),.map j] t z x,_)=>match sh.look j with
   | some (.map es cl,_)=>some ((sortN (E.map fun e=>e.1.p)).map Value.string,E.length,1,9,none,t=84∧z=(0,0)∧x=none∧es=E.map mC∧BookOK E cl∧E.length≤1000∧E≠[])
   | _=>none
  | _=>none
 | _=>none
def pathsN (E:List EntM):PlG:=fun args sh=>match args with
 | [.ptr i 0]=>match sh.look i with
  | some (.row [.v (.int .u64 s),.map j] t z x,_)=>match sh.look j with
   | some (.map es cl,_)=>some (.slice none 0 0,t=84∧z=(0,0)∧x=none∧es=E.map mC∧BookOK E cl∧E=[])
   | _=>none
  | _=>none
 | _=>none
def lEn (E:List EntM):List (FuncId × Sum):=[(43,brSum (slSumG (pathsS E)) (plSumG (pathsN E)))]
noncomputable def EEn (E:List EntM):Env:={ EP [] [] with sums:=fun f=>(lEn E).lookup f }
noncomputable def entEn (E:List EntM) (s:Int) (es:List (SV × SV × Nat)) (cl:Nat):SM:=(enterS (EEn E) 19 [.ptr 0 0] (memOf 6 2 0 [bkR s,mapR es cl])).getD noSM
noncomputable def todoEn:List SI:=todoL (EEn []) 2 60 (entEn [] 0 [] 0) ([(1000,.b true)]++ff (List.range 10) true)
noncomputable def hdEn (n:Nat) (x:SV) (i:Int):SF:={ fn:=19,tm:=tmOf 20 6 ([.ptr 0 0,.junk,x,.junk,.junk,.junk,.sl 2 0 n none,.v (.int .i64 n),.v (.int .i64 i)]++List.replicate 11 .junk),todo:=todoEn,defers:=[],ret:=false,kind:=.normal,ro:=none }
def strR (l:List SV):Option (SO × Bool):=some (.row l 9 (0,0) (some 1),true)
def objE0 (s:Int) (es:List (SV × SV × Nat)) (cl:Nat) (l:List SV):List (Option (SO × Bool)):=[bkR s,mapR es cl,strR l]
def objE1 (s:Int) (es:List (SV × SV × Nat)) (cl:Nat) (l m:List SV):List (Option (SO × Bool)):=[bkR s,mapR es cl,strR l,rowsE m]
noncomputable def en0S (E:List EntM) (n:Nat) (i:Int) (s:Int) (es:List (SV × SV × Nat)) (cl:Nat) (l:List SV) (q:ByteArray) (x:EntT):SM:=backT (EEn E) 25 60 (SM.at (hdEn n nilE i) 6 (objE0 s es cl l)) (ff [0] true++[(2,.cells [.v (.string q)])]) (aggX x)
noncomputable def en1S (E:List EntM) (n:Nat) (i:Int) (s:Int) (es:List (SV × SV × Nat)) (cl:Nat) (l m:List SV) (k:Nat) (q:ByteArray) (x:EntT):SM:=backT (EEn E) 25 60 (SM.at (hdEn n (.sl 3 0 k none) i) 6 (objE1 s es cl l m)) (ff [0] true++[(2,.cells [.v (.string q)])]) (aggX x)
theorem en0 (E : List EntM) (s : Int) (es : List (SV × SV × Nat)) (cl n : Nat) (l : List SV) : reach (EEn E) 2 60 (entEn E s es cl) ([(1000, .b true)] ++ ff (List.range 10) true) [(0, 0), (1, 1), (2, 2)] [1, 2] (hdEn n nilE 0) 6 (objE0 s es cl l) = [
  (0 : Nat) = (0 : Nat),
  Value.slice none (0 : Nat) (0 : Nat) = Value.slice none (0 : Nat) (0 : Nat),
  (0 : Nat) = (0 : Nat) ∧ E.length = n ∧ (none : Option Nat) = none,
  Value.int IntKind.i64 (↑E.length : Int) = Value.int IntKind.i64 (↑n : Int),
  Value.int IntKind.i64 (0 : Int) = Value.int IntKind.i64 (0 : Int),
  Value.int IntKind.u64 s = Value.int IntKind.u64 s,
  cl = cl,
  es = es,
  (es.all fun e => closedE e.fst && closedE e.snd.fst) = true,
  List.map SV.v (List.map Value.string (sortN (List.map (fun e => e.fst.p) E))) = l,
  l.all closedSV = true,
  (84 : Nat) = (84 : Nat) ∧
   ((0 : Nat), (0 : Nat)) = ((0 : Nat), (0 : Nat)) ∧ (none : Option Nat) = none ∧ es = List.map mC E ∧ BookOK E cl ∧ E.length ≤ (1000 : Nat) ∧ E ≠ []] := by kernel_rfl
theorem enN (E : List EntM) (s : Int) (es : List (SV × SV × Nat)) (cl : Nat) (v : Value) : endsV (EEn E) 19 60 (entEn E s es cl) ([(1000, .b true)] ++ ff (List.range 10) false) v = [
  Value.slice none (0 : Nat) (0 : Nat) = v,
  false = false,
  (84 : Nat) = (84 : Nat) ∧
   ((0 : Nat), (0 : Nat)) = ((0 : Nat), (0 : Nat)) ∧ (none : Option Nat) = none ∧ es = List.map mC E ∧ BookOK E cl ∧ E = []] := by kernel_rfl
theorem enc0 (E:List EntM) (s:Int) (es:List (SV × SV × Nat)) (cl n:Nat) (l:List SV) (i:Int) (q:ByteArray):callO (EEn E) 25 60 (SM.at (hdEn n nilE i) 6 (objE0 s es cl l)) (ff [0] true++[(2,.cells [.v (.string q)])])=[
 l[(0:Nat)+i.toNat*(1:Nat)]?=some (SV.v (Value.string q)),
 inRange i n=true,
 decide (i<(↑n:Int))=true]:=by kernel_rfl
theorem enb0 (E:List EntM) (s:Int) (es:List (SV × SV × Nat)) (cl n:Nat) (l:List SV) (i:Int) (q:ByteArray) (x:EntT):backO (EEn E) 25 60 (SM.at (hdEn n nilE i) 6 (objE0 s es cl l)) (ff [0] true++[(2,.cells [.v (.string q)])]) (aggX x)=[
 l[(0:Nat)+i.toNat*(1:Nat)]?=some (SV.v (Value.string q)),
 inRange i n=true,
 decide (i<(↑n:Int))=true]:=by kernel_rfl
theorem enr0 (E : List EntM) (s : Int) (es : List (SV × SV × Nat)) (cl n : Nat) (l l' : List SV) (i i' : Int) (q : ByteArray) (x : EntT) : reach (EEn E) 2 60 (en0S E n i s es cl l q x) (ff [0] false) [(0, 0), (1, 1), (2, 2), (3, 4)] [1, 2, 3] (hdEn n (.sl 3 0 1 none) i') 6 (objE1 s es cl l l') = [
  (0 : Nat) = (0 : Nat),
  (0 : Nat) = (0 : Nat) ∧ (1 : Nat) = (1 : Nat) ∧ (none : Option Nat) = none,
  (0 : Nat) = (0 : Nat) ∧ n = n ∧ (none : Option Nat) = none,
  Value.int IntKind.i64 (↑n : Int) = Value.int IntKind.i64 (↑n : Int),
  Value.int IntKind.i64 (IntKind.i64.wrap (i + (1 : Int))) = Value.int IntKind.i64 i',
  Value.int IntKind.u64 s = Value.int IntKind.u64 s,
  cl = cl,
  es = es,
  (es.all fun e => closedE e.fst && closedE e.snd.fst) = true,
  l = l,
  l.all closedSV = true,
  [] ++
   List.take ((1 : Nat) * (4 : Nat))
   (List.drop (0 : Nat)
   (splice
   (List.replicate (1 : Nat)
   (List.map SV.v
   {
   toList :=
   [Value.string { data := { toList := [] : Array UInt8 } : ByteArray },
   Value.int IntKind.u64 (0 : Int), Value.int IntKind.i64 (0 : Int),
   Value.slice none (0 : Nat) (0 : Nat)] :
   Array Value }.toList)).flatten
   ((0 : Nat) * (4 : Nat))
   (List.map SV.v
   {
   toList :=
   [Value.string x.1, Value.int IntKind.u64 x.2, Value.int IntKind.i64 x.3, Value.slice x.4 x.5 x.6] :
   Array Value }.toList))) =
   l',
  l'.all closedSV = true,
  false = false] := by kernel_rfl
theorem enc1 (E:List EntM) (s:Int) (es:List (SV × SV × Nat)) (cl n k:Nat) (l m:List SV) (i:Int) (q:ByteArray):callO (EEn E) 25 60 (SM.at (hdEn n (.sl 3 0 k none) i) 6 (objE1 s es cl l m)) (ff [0] true++[(2,.cells [.v (.string q)])])=[
 l[(0:Nat)+i.toNat*(1:Nat)]?=some (SV.v (Value.string q)),
 inRange i n=true,
 decide (i<(↑n:Int))=true]:=by kernel_rfl
theorem enb1 (E:List EntM) (s:Int) (es:List (SV × SV × Nat)) (cl n k:Nat) (l m:List SV) (i:Int) (q:ByteArray) (x:EntT):backO (EEn E) 25 60 (SM.at (hdEn n (.sl 3 0 k none) i) 6 (objE1 s es cl l m)) (ff [0] true++[(2,.cells [.v (.string q)])]) (aggX x)=[
 l[(0:Nat)+i.toNat*(1:Nat)]?=some (SV.v (Value.string q)),
 inRange i n=true,
 decide (i<(↑n:Int))=true]:=by kernel_rfl
theorem enr1 (E : List EntM) (s : Int) (es : List (SV × SV × Nat)) (cl n k : Nat) (l m w l' : List SV) (i i' : Int) (q : ByteArray) (x : EntT) : reach (EEn E) 2 60 (en1S E n i s es cl l m k q x) ([(0, .app m w)]) [(0, 0), (1, 1), (2, 2), (3, 5)] [1, 2, 3] (hdEn n (.sl 3 0 (k + 1) none) i') 6 (objE1 s es cl l l') = [
  (0 : Nat) = (0 : Nat),
  (0 : Nat) = (0 : Nat) ∧ k + (1 : Nat) = k + (1 : Nat) ∧ (none : Option Nat) = none,
  (0 : Nat) = (0 : Nat) ∧ n = n ∧ (none : Option Nat) = none,
  Value.int IntKind.i64 (↑n : Int) = Value.int IntKind.i64 (↑n : Int),
  Value.int IntKind.i64 (IntKind.i64.wrap (i + (1 : Int))) = Value.int IntKind.i64 i',
  Value.int IntKind.u64 s = Value.int IntKind.u64 s,
  cl = cl,
  es = es,
  (es.all fun e => closedE e.fst && closedE e.snd.fst) = true,
  l = l,
  l.all closedSV = true,
  m ++ w = l',
  l'.all closedSV = true,
  ((List.take ((1 : Nat) * (4 : Nat))
   (List.drop (0 : Nat)
   (splice
   (List.replicate (1 : Nat)
   (List.map SV.v
   {
   toList :=
   [Value.string { data := { toList := [] : Array UInt8 } : ByteArray },
   Value.int IntKind.u64 (0 : Int), Value.int IntKind.i64 (0 : Int),
   Value.slice none (0 : Nat) (0 : Nat)] :
   Array Value }.toList)).flatten
   ((0 : Nat) * (4 : Nat))
   (List.map SV.v
   {
   toList :=
   [Value.string x.1, Value.int IntKind.u64 x.2, Value.int IntKind.i64 x.3,
   Value.slice x.4 x.5 x.6] :
   Array Value }.toList))) =
   w ∧
   w.length = (1 : Nat) * (4 : Nat)) ∧
   (1 : Nat) ≠ (0 : Nat) ∧
   ((2 : Nat) * (k + (1 : Nat)) + (1024 : Nat)) * (56 : Nat) ≤ (140737488355328 : Nat)) ∧
   List.take (k * (4 : Nat)) m = m ∧
   m.length = k * (4 : Nat) ∧ w.all SV.flat = true] := by kernel_rfl
theorem ene (E:List EntM) (s:Int) (es:List (SV × SV × Nat)) (cl n k:Nat) (l m:List SV) (i:Int):endsO (EEn E) 19 60 (SM.at (hdEn n (.sl 3 0 k none) i) 6 (objE1 s es cl l m)) (ff [0] false) (.sl 3 0 k none) 3 (.row m 46 (0,0) (some 4))=[
 (0:Nat)=(0:Nat)∧k=k∧(none:Option Nat)=none,
 m=m,
 m.all closedSV=true,
 decide (i<(↑n:Int))=false]:=by kernel_rfl
theorem told_book {ν:Val} {M:Own} {w0 w:World} {sh:SH} (hr:HR ν M w0 sh w) {i j:Nat} {s:Int} {t:TypeId} {z:Nat × Nat} {x:Option Nat} {mi mj:Bool} {E:List EntM} {cl:Nat} {a:List Value}
  (hi:sh.look i=some (.row [.v (.int .u64 s),.map j] t z x,mi)) (hj:sh.look j=some (.map (E.map mC) cl,mj)) (ht:t=84) (hz:z=(0,0)) (hx:x=none) (ha:VRL ν [.ptr i 0] a):
  ∃ b m,a=[.pointer (some ⟨b,0,none⟩)]∧BookAt w b m s E cl∧b≠m:=by
 subst ht hz hx
 obtain ⟨y1,as1,rfl,q1,ha2⟩:=ha.cons_inv
 obtain rfl:=ha2.nil_inv
 obtain ⟨bb,hbb,rfl⟩:=VR.ptr_iff.1 q1
 obtain ⟨_,_,b,ob,hb,ho,hor,_⟩:=hr.look hi
 obtain ⟨_,_,b2,ob2,hb2,ho2,hor2,_⟩:=hr.look hj
 rw [hbb] at hb;cases hb
 obtain ⟨zs,rest,rfl,hzs,hl⟩:=hor
 obtain ⟨z1,u,rfl,r1,hu⟩:=hzs.cons_inv
 obtain ⟨z2,u2,rfl,r2,hu2⟩:=hu.cons_inv
 obtain rfl:=hu2.nil_inv
 obtain rfl:=VR.v_iff.1 r1
 obtain ⟨bm,hbm,rfl⟩:=VR.map_iff.1 r2
 rw [hb2] at hbm;cases hbm
 have h0:rest=[]:=by
  have:([Value.int .u64 s,Value.map (some b2.1)]++rest).length=2:=hl
  simpa using this
 subst h0
 obtain ⟨l,rfl,hl2⟩:=hor2
 refine ⟨bb.1,b2.1,rfl,⟨by rw [ho];rfl,by rw [ho2,entR_mC hl2]⟩,fun h=>?_⟩
 rw [h,ho2] at ho;cases ho
theorem sorted_len (E:List EntM):(sortN (E.map fun e=>e.1.p)).length=E.length:=by rw [(sortN_perm _).length_eq];simp
theorem paths_sum {E:List EntM}:SumOK Tryz.prog MX (43,brSum (slSumG (pathsS E)) (plSumG (pathsN E))):=by
 refine SumOK.br (slSumG_ok ⟨_,Tryz.func43,by kernel_rfl,by kernel_rfl⟩ fun args sh ys n C elem ex p h hp ν M w0 w a hr hX ha=>?_) (plSumG_ok ⟨_,Tryz.func43,by kernel_rfl,by kernel_rfl⟩ fun args sh v p h hp ν M w0 w a hr hX ha=>?_)
 ·dsimp only [pathsS] at h
  split at h
  ·rename_i i
   split at h
   ·rename_i s j t z x m1 hi
    split at h
    ·rename_i es cl m2 hj
     cases h
     obtain ⟨ht,hz,hx,rfl,hB,few,hne⟩:=hp
     obtain ⟨b,m,rfl,hA,_⟩:=told_book hr hi hj ht hz hx ha
     refine (paths_calls hX hA hB few).mono fun e w' ⟨v,he,hv,hb⟩=>⟨hb,v,he,?_⟩
     rcases hv with ⟨_,h0⟩ | ⟨_,h1⟩
     ·have:=sorted_len E
      rw [h0] at this
      exact absurd (List.length_eq_zero_iff.1 this.symm) hne
     ·rw [sorted_len] at h1;exact h1
    ·cases h
   ·cases h
  ·cases h
 ·dsimp only [pathsN] at h
  split at h
  ·rename_i i
   split at h
   ·rename_i s j t z x m1 hi
    split at h
    ·rename_i es cl m2 hj
     cases h
     obtain ⟨ht,hz,hx,rfl,hB,rfl⟩:=hp
     obtain ⟨b,m,rfl,hA,_⟩:=told_book hr hi hj ht hz hx ha
     refine (paths_calls hX hA hB (Nat.zero_le _)).mono fun e w' ⟨v,he,hv,hb⟩=>⟨hb,?_⟩
     rcases hv with ⟨h1,_⟩ | ⟨h0,_⟩
     ·rw [he,h1]
     ·exact absurd (List.length_eq_zero_iff.1 (sortN_perm []).length_eq) h0
    ·cases h
   ·cases h
  ·cases h
theorem KEn {M0 M:Own} {w00 w0:World} {E:List EntM} (hM:∀ z,¬ M0 z) (hB:Base M0 w00 M w0) (hX:MX w00):Facts (EEn E) M w0:=
 Facts.of' (Checked.mixed Tryz.checked) (by kernel_rfl) (ExtOK.of extL rfl extRows) (SumsOK.list (X:=MX) (l:=lEn E) rfl (fun r h=>by
  rw [List.mem_singleton.1 h];exact paths_sum) fun ν s w hr _=>hX.keep fun k hk=>(hr.frame k (Nat.lt_of_lt_of_le hk hB.size) (hB.frame k hk (hM k)).2).trans (hB.frame k hk (hM k)).1) (fun f g h=>by cases h)
def EntsOut (w w':World) (z:ByteArray→Int × Int × List Int) (L:List ByteArray) (v:Value):Prop:=(L=[]∧v=.slice none 0 0) ∨
 ∃ zs,zs≠[]∧zs.map (·.p)=L∧NewSl w w' v (vE zs) zs.length 4 46∧∀ x∈zs,∃ us,(x.v,x.k,us)=z x.p∧Dat w' x.a x.l us
def REn (w:World) (z:ByteArray→Int × Int × List Int) (L:List ByteArray) (e:Ending) (w':World):Prop:=Below w.heap.size w w'∧∃ v,e=.returned v∧EntsOut w w' z L v
def strs (L:List ByteArray):List SV:=(L.map Value.string).map SV.v
theorem strs_closed (L:List ByteArray):(strs L).all closedSV=true:=by
 rw [List.all_eq_true];intro x hx
 obtain ⟨v,_,rfl⟩:=List.mem_map.1 hx
 rfl
theorem strs_at {L:List ByteArray} {i:Nat} {q:ByteArray} (h:L[i]?=some q):(strs L)[0+(i:Int).toNat*1]?=some (.v (.string q)):=by
 unfold strs
 rw [Int.toNat_natCast,Nat.zero_add,Nat.mul_one,List.getElem?_map,List.getElem?_map,h];rfl
theorem mC_closed (E:List EntM):((E.map mC).all fun e=>closedE e.1&&closedE e.2.1)=true:=by
 rw [List.all_eq_true];intro x hx
 obtain ⟨v,_,rfl⟩:=List.mem_map.1 hx
 rfl
section
variable {W:World} {cs0:List Frame} {E:List EntM} {cm:EntT→List Int} {b m cl:Nat} {s:Int} {M:Own} {ν:Val}
theorem roundEn (hX:MX W) (hM:∀ z,¬ M z) (hA:BookAt W b m s E cl) (hne:b≠m) (hB:BookOK E cl) (hd:∀ e∈E,Dat W e.1.a e.1.l (cm e.1)) (hν:ν 0=some (b,0)) {S:SM} {q:ByteArray} {o:List (Nat × Ans)} {H:Hp} {M1:Own} {w1:World} (hk:Kept W.hp M W H M1 w1) {R:Ending→World→Prop}
  (h1:Owed (callO (EEn E) 25 60 S o)) (h2:callTop (EEn E) 25 60 S o=enterF (EEn E) 25 [.ptr 0 0,.v (.string q)] .normal) (h3:∀ x,Owed (backO (EEn E) 25 60 S o (aggX x)))
  (nx:∀ H' M2 w2 (x:EntT) us,Kept W.hp M W H' M2 w2→H.Sub H'→x.p=q→(x.v,x.k,us)=lookZ cm (E.map (·.1)) q→DatH H' x.a x.l us→Goes (EEn E) M2 w2 cs0 19 R ν (backT (EEn E) 25 60 S o (aggX x))):
  Goes (EEn E) M1 w1 cs0 19 R ν S:=by
 refine Goes.callV (KEn hM hk.base hX) hk (n:=60) (g:=25) (o:=o) (args:=[.ptr 0 0,.v (.string q)]) h1 h2 fun ν' w a hle hsub hgr ha=>?_
 obtain ⟨y1,as1,rfl,q1,ha2⟩:=ha.cons_inv
 obtain ⟨y2,as2,rfl,q2,ha3⟩:=ha2.cons_inv
 obtain rfl:=ha3.nil_inv
 obtain rfl:=VR.v_iff.1 q2
 obtain ⟨bb,hbb,rfl⟩:=VR.ptr_iff.1 q1
 have hbb:=hbb.symm.trans (hle 0 (b,0) hν)
 cases hbb
 have hkp:=sub_keep hk.sub0 hsub
 have hA':BookAt w b m s E cl:=⟨(hkp b (Array.getElem?_eq_some_iff.1 hA.row).1).trans hA.row,(hkp m (Array.getElem?_eq_some_iff.1 hA.map).1).trans hA.map⟩
 refine (get_calls hA' hne hB (fun e he=>(hd e he).keep hkp) q H).mono fun e w' ⟨hB',x,zs,he,hxp,hz,hd'⟩=>⟨hB',.agg #[.string x.p,.int .u64 x.v,.int .i64 x.k,.slice x.a x.l x.c],he,fun M2 hK2=>⟨h3 x,?_⟩⟩
 exact nx _ M2 w' x zs hK2 (Hp.sub_grow hsub) hxp hz hd'
theorem DatH.sub {H H':Hp} {a:Option Addr} {l:Nat} {us:List Int} (h:DatH H a l us) (hs:H.Sub H'):DatH H' a l us:=fun w hw=>h w (hs.trans hw)
theorem loopEn1 (hX:MX W) (hM:∀ z,¬ M z) (hA:BookAt W b m s E cl) (hne:b≠m) (hB:BookOK E cl) (hd:∀ e∈E,Dat W e.1.a e.1.l (cm e.1)) (hν:ν 0=some (b,0)) (hν1:∀ i b,ν i=some b→i=0∨i=1) {L:List ByteArray} (few:L.length≤1000):
  ∀ (j i:Nat),i+j=L.length→∀ H M1 w1 (zs:List EntT),Kept W.hp M W H M1 w1→zs≠[]→zs.map (·.p)=L.take i→(∀ x∈zs,∃ us,(x.v,x.k,us)=lookZ cm (E.map (·.1)) x.p∧DatH H x.a x.l us)→
   Goes (EEn E) M1 w1 cs0 19 (REn W (lookZ cm (E.map (·.1))) L) ν (SM.at (hdEn L.length (.sl 3 0 zs.length none) (i:Int)) 6 (objE1 s (E.map mC) cl (strs L) (cE zs)))
 | 0,i,hj,H,M1,w1,zs,hk,hz,hp,hdat=>by
  rw [List.take_of_length_le (by omega)] at hp
  refine Goes.endsO (KEn hM hk.base hX) (n:=60) (o:=ff [0] false) (x:=.sl 3 0 zs.length none) (i:=3) (so:=.row (cE zs) 46 (0,0) (some 4)) (by
   rw [ene]
   simp only [Owed,cE_closed,and_self,and_true,true_and]
   exact decide_eq_false (by omega)) fun ν' w' y b1 ob hv hb ho hor hw hB'=>?_
  obtain ⟨M3,w3,M4,s',hBb,hr⟩:=hB'
  have hn:W.heap.size≤b1.1:=by
   rcases hk.base.own _ hw with h | h
   ·exact h
   ·exact absurd h (hM _)
  have hnow:=hk.now hBb hr
  exact ⟨below_of hM (hk.base.trans hBb) hr,y,rfl,.inr ⟨zs,hz,hp,NewSl.of_row hv hb ho hor hn fun zs hz=>cE_val hz,fun x hx=>by
   obtain ⟨us,h1,h2⟩:=hdat x hx
   exact ⟨us,h1,h2 _ hnow⟩⟩⟩
 | j+1,i,hj,H,M1,w1,zs,hk,hz,hp,hdat=>by
  have hi:i<L.length:=by omega
  have hq:L[i]?=some L[i]:=List.getElem?_eq_getElem hi
  have hzl:zs.length=i:=by
   have:=congrArg List.length hp
   simpa [Nat.min_eq_left (Nat.le_of_lt hi)] using this
  refine roundEn hX hM hA hne hB hd hν hk (q:=L[i]) (o:=ff [0] true++[(2,.cells [.v (.string L[i])])]) ?_ (by kernel_rfl) (fun x=>?_) fun H' M2 w2 x us hk2 hs hxp hzz hdd=>?_
  ·rw [enc1]
   simp only [Owed,strs_at hq,in_range hi,decide_eq_true (show (i:Int)<(L.length:Int) by omega),and_self,and_true,true_and]
  ·rw [enb1]
   simp only [Owed,strs_at hq,in_range hi,decide_eq_true (show (i:Int)<(L.length:Int) by omega),and_self,and_true,true_and]
  ·have nx:=loopEn1 hX hM hA hne hB hd hν hν1 few j (i+1) (by omega) H' M2 w2 (zs++[x]) hk2 (by simp) (by rw [List.map_append,hp,List.take_add_one,hq];simp [hxp]) (fun y hy=>by
    rcases List.mem_append.1 hy with hy | hy
    ·obtain ⟨us,h1,h2⟩:=hdat y hy
     exact ⟨us,h1,h2.sub hs⟩
    ·rw [List.mem_singleton.1 hy];exact ⟨us,by rw [hxp];exact hzz,hdd⟩)
   rw [List.length_append,show ([x]:List EntT).length=1 from rfl,cE_app,cE_one] at nx
   refine Goes.reach (KEn hM hk2.base hX) (k:=2) (n:=60) (o:=[(0,.app (cE zs) (eC x))]) (ren:=[(0,0),(1,1),(2,2),(3,5)]) (eqs:=[1,2,3]) (S:=en1S E L.length (i:Int) s (E.map mC) cl (strs L) (cE zs) zs.length L[i] x) ?_ (by kernel_rfl) (fun i b h=>by rcases hν1 i b h with h | h <;> rw [h] <;> rfl) nx
   rw [enr1]
   simp only [Owed,wrap_succ (k:=i) (by omega),cE_closed,strs_closed,mC_closed,cE_flat,cE_len,List.all_append,and_self,and_true,true_and]
   repeat' apply And.intro
   all_goals first | rfl | omega | exact List.take_of_length_le (by rw [cE_len];exact Nat.le_refl _) | exact eC_closed _ | skip
theorem loopEn0 (hX:MX W) (hM:∀ z,¬ M z) (hA:BookAt W b m s E cl) (hne:b≠m) (hB:BookOK E cl) (hd:∀ e∈E,Dat W e.1.a e.1.l (cm e.1)) (hν:ν 0=some (b,0)) (hν1:∀ i b,ν i=some b→i=0∨i=1) {L:List ByteArray} (few:L.length≤1000) (hL:L≠[]) {H:Hp} {M1:Own} {w1:World} (hk:Kept W.hp M W H M1 w1):
  Goes (EEn E) M1 w1 cs0 19 (REn W (lookZ cm (E.map (·.1))) L) ν (SM.at (hdEn L.length nilE ((0:Nat):Int)) 6 (objE0 s (E.map mC) cl (strs L))):=by
 have hi:0<L.length:=List.length_pos_iff.2 hL
 have hq:L[0]?=some L[0]:=List.getElem?_eq_getElem hi
 refine roundEn hX hM hA hne hB hd hν hk (q:=L[0]) (o:=ff [0] true++[(2,.cells [.v (.string L[0])])]) ?_ (by kernel_rfl) (fun x=>?_) fun H' M2 w2 x us hk2 hs hxp hzz hdd=>?_
 ·rw [enc0]
  simp only [Owed,strs_at hq,in_range hi,decide_eq_true (show ((0:Nat):Int)<(L.length:Int) by omega),and_self,and_true,true_and]
 ·rw [enb0]
  simp only [Owed,strs_at hq,in_range hi,decide_eq_true (show ((0:Nat):Int)<(L.length:Int) by omega),and_self,and_true,true_and]
 ·have nx:=loopEn1 (cs0:=cs0) hX hM hA hne hB hd hν hν1 few (L.length - 1) 1 (by omega) H' M2 w2 [x] hk2 (by simp) (by rw [List.take_add_one,hq];simp [hxp]) (fun y hy=>by
   rw [List.mem_singleton.1 hy];exact ⟨us,by rw [hxp];exact hzz,hdd⟩)
  rw [show ([x]:List EntT).length=1 from rfl,cE_one] at nx
  refine Goes.reach (KEn hM hk2.base hX) (k:=2) (n:=60) (o:=ff [0] false) (ren:=[(0,0),(1,1),(2,2),(3,4)]) (eqs:=[1,2,3]) (S:=en0S E L.length ((0:Nat):Int) s (E.map mC) cl (strs L) L[0] x) ?_ (by kernel_rfl) (fun i b h=>by rcases hν1 i b h with h | h <;> rw [h] <;> rfl) nx
  rw [enr0]
  simp only [Owed,wrap_succ (k:=0) (by omega),cE_closed,strs_closed,mC_closed,eC_closed,and_self,and_true,true_and]
  repeat' apply And.intro
  all_goals first | rfl | omega | exact eC_closed _ | skip
end
theorem entries_calls {W:World} {b m cl:Nat} {s:Int} {E:List EntM} {cm:EntT→List Int} (hX:MX W) (hA:BookAt W b m s E cl) (hne:b≠m) (hB:BookOK E cl) (hd:∀ e∈E,Dat W e.1.a e.1.l (cm e.1)) (few:E.length≤1000):
  Calls Tryz.prog 19 #[.pointer (some ⟨b,0,none⟩)] W (REn W (lookZ cm (E.map (·.1))) (sortN (E.map fun e=>e.1.p))):=by
 have ho:∀ (j:Nat) (o':SO) (b' c':Nat),[SO.row [.v (.int .u64 s),.map 1] 84 (0,0) none,SO.map (E.map mC) cl][j]?=some o'→[(b,0),(m,0)][j]?=some (b',c')→∃ r,W.heap[b']?=some r∧OR (layVal [(b,0),(m,0)]) j o' r:=by
  intro j o' b' c' h1 h2
  match j with
  | 0=>
   simp only [List.getElem?_cons_zero,Option.some.injEq] at h1 h2
   subst h1
   cases h2
   exact ⟨_,hA.row,_,[],rfl,VRL.cons (VR.v_iff.2 rfl) (VRL.cons (VR.map_iff.2 ⟨(m,0),rfl,rfl⟩) VRL.nil),rfl⟩
  | 1=>
   simp only [List.getElem?_cons_succ,List.getElem?_cons_zero,Option.some.injEq] at h1 h2
   subst h1
   cases h2
   exact ⟨_,hA.map,_,rfl,entR_of E⟩
  | j+2=>simp at h1
 refine calls_readR (E:=EEn E) rfl (d:=6) (l:=[(b,0),(m,0)]) (os:=[.row [.v (.int .u64 s),.map 1] 84 (0,0) none,.map (E.map mC) cl]) rfl (by simp) (by simpa using hne) ho rfl (args:=[.ptr 0 0]) (a:=[.pointer (some ⟨b,0,none⟩)]) (S0:=entEn E s (E.map mC) cl) (by kernel_rfl) (VRL.cons (VR.ptr_iff.2 ⟨(b,0),rfl,rfl⟩) VRL.nil) fun cs0=>?_
 have hM:∀ z,¬ (layOwn [(b,0),(m,0)] ([SO.row [.v (.int .u64 s),.map 1] 84 (0,0) none,SO.map (E.map mC) cl].map fun o=>(o,false))) z:=fun z=>none2' z
 have hK0:=Kept.start (H0:=W.hp) (M:=layOwn [(b,0),(m,0)] ([SO.row [.v (.int .u64 s),.map 1] 84 (0,0) none,SO.map (E.map mC) cl].map fun o=>(o,false))) (w:=W) (Hp.Sub.refl _) (fun z o _=>hM z) (layOwn_r (by
  intro j o' m' b' c' q1 q2
  rw [List.getElem?_map] at q1
  obtain ⟨o2,q3,q4⟩:=Option.map_eq_some_iff.1 q1
  cases q4
  exact ho j o' b' c' q3 q2)) (fun _ h=>h)
 have hν1:∀ i c,layVal [(b,0),(m,0)] i=some c→i=0∨i=1:=fun i c h=>by
  match i with
  | 0=>exact .inl rfl
  | 1=>exact .inr rfl
  | i+2=>simp [layVal] at h
 have hsl:=sorted_len E
 by_cases h0:E=[]
 ·subst h0
  refine Goes.endsV (KEn hM hK0.base hX) (n:=60) (o:=[(1000,.b true)]++ff (List.range 10) false) (v:=.slice none 0 0) ?_ fun ν' M1 w1 s' w' _ hB' hr=>⟨below_of hM hB' hr,_,rfl,.inl ⟨List.length_eq_zero_iff.1 hsl,rfl⟩⟩
  rw [enN]
  simp only [Owed,and_self,and_true,true_and]
  exact hB
 ·have hL:sortN (E.map fun e=>e.1.p)≠[]:=fun h=>h0 (List.length_eq_zero_iff.1 (by rw [← hsl,h];rfl))
  have nx:=loopEn0 (cs0:=cs0) (ν:=layVal [(b,0),(m,0)]) hX hM hA hne hB hd rfl hν1 (by rw [hsl];exact few) hL hK0
  rw [hsl] at nx
  refine Goes.reach (KEn hM hK0.base hX) (k:=2) (n:=60) (o:=[(1000,.b true)]++ff (List.range 10) true) (ren:=[(0,0),(1,1),(2,2)]) (eqs:=[1,2]) (S:=entEn E s (E.map mC) cl) (F:=hdEn E.length nilE 0) (d:=6) (l:=objE0 s (E.map mC) cl (strs (sortN (E.map fun e=>e.1.p)))) ?_ (by kernel_rfl) (fun i b h=>by rcases hν1 i b h with h | h <;> rw [h] <;> rfl) nx
  rw [en0]
  simp only [Owed,strs_closed,mC_closed,and_self,and_true,true_and]
  repeat' apply And.intro
  all_goals first | rfl | exact hB | exact few | exact h0 | skip
def cloF:SV:=.func (.func 23) [] [.ptr 1 0,.ptr 2 0]
noncomputable def entFo (l:List SV) (n c:Nat):SM:=(enterS EN0 22 [.v (.int .i64 3),cloF,.sl 0 0 n (some c)] (memOf 6 3 0 [lkE l,lkE [],lkE []])).getD noSM
noncomputable def todoFo:List SI:=todoL EN0 2 60 (entFo [] 0 0) [(1000,.b true)]
noncomputable def hdFo (n c:Nat) (x:SV) (i:Int):SF:={ fn:=22,tm:=tmOf 26 6 ([.v (.int .i64 3),cloF,.junk,.junk,.junk,.junk,x,.junk,.junk,.sl 0 0 n (some c),.v (.int .i64 n),.v (.int .i64 i)]++List.replicate 14 .junk),todo:=todoFo,defers:=[],ret:=false,kind:=.normal,ro:=none }
def rowsF (l:List SV):Option (SO × Bool):=some (.row l 57 (0,0) (some 2),true)
def objF0 (l:List SV):List (Option (SO × Bool)):=[lkE l,lkE [],lkE []]
def objF1 (l m:List SV):List (Option (SO × Bool)):=[lkE l,lkE [],lkE [],rowsF m]
def findC (q:ByteArray):List SV:=[.v (.int .i64 3),.v (.string q)]
noncomputable def fo0S (l:List SV) (n c:Nat) (i:Int) (q:ByteArray) (d:Bool):SM:=backT EN0 23 60 (SM.at (hdFo n c nilE i) 6 (objF0 l)) (ff [0] true++[(2,.cells [.v (.string q)])]) (.v (.bool d))
noncomputable def fo1S (l m:List SV) (n c k:Nat) (i:Int) (q:ByteArray) (d:Bool):SM:=backT EN0 23 60 (SM.at (hdFo n c (.sl 3 0 k none) i) 6 (objF1 l m)) (ff [0] true++[(2,.cells [.v (.string q)])]) (.v (.bool d))
theorem fo0 (l:List SV) (n c:Nat):reach EN0 2 60 (entFo l n c) [(1000,.b true)] [(0,0),(1,1),(2,2)] [0] (hdFo n c nilE 0) 6 (objF0 l)=[
 Value.int IntKind.i64 (3:Int)=Value.int IntKind.i64 (3:Int),
 Fn.func (23:Nat)=Fn.func (23:Nat),
 (0:Nat)=(0:Nat),
 (0:Nat)=(0:Nat),
 Value.slice none (0:Nat) (0:Nat)=Value.slice none (0:Nat) (0:Nat),
 (0:Nat)=(0:Nat)∧n=n∧some c=some c,
 Value.int IntKind.i64 (↑n:Int)=Value.int IntKind.i64 (↑n:Int),
 Value.int IntKind.i64 (0:Int)=Value.int IntKind.i64 (0:Int),
 l=l,
 l.all closedSV=true]:=by kernel_rfl
theorem foc0 (l:List SV) (n c:Nat) (i:Int) (q:ByteArray):callO EN0 23 60 (SM.at (hdFo n c nilE i) 6 (objF0 l)) (ff [0] true++[(2,.cells [.v (.string q)])])=[
 l[(0:Nat)+i.toNat*(1:Nat)]?=some (SV.v (Value.string q)),
 inRange i n=true,
 decide (i<(↑n:Int))=true]:=by kernel_rfl
theorem fob0 (l:List SV) (n c:Nat) (i:Int) (q:ByteArray) (d:Bool):backO EN0 23 60 (SM.at (hdFo n c nilE i) 6 (objF0 l)) (ff [0] true++[(2,.cells [.v (.string q)])]) (.v (.bool d))=[
 l[(0:Nat)+i.toNat*(1:Nat)]?=some (SV.v (Value.string q)),
 inRange i n=true,
 decide (i<(↑n:Int))=true]:=by kernel_rfl
theorem fof0 (l:List SV) (n c:Nat) (i i':Int) (q:ByteArray):reach EN0 2 60 (fo0S l n c i q false) (ff [0] false) [(0,0),(1,1),(2,2)] [0] (hdFo n c nilE i') 6 (objF0 l)=[
 Value.int IntKind.i64 (3:Int)=Value.int IntKind.i64 (3:Int),
 Fn.func (23:Nat)=Fn.func (23:Nat),
 (0:Nat)=(0:Nat),
 (0:Nat)=(0:Nat),
 Value.slice none (0:Nat) (0:Nat)=Value.slice none (0:Nat) (0:Nat),
 (0:Nat)=(0:Nat)∧n=n∧some c=some c,
 Value.int IntKind.i64 (↑n:Int)=Value.int IntKind.i64 (↑n:Int),
 Value.int IntKind.i64 (IntKind.i64.wrap (i+(1:Int)))=Value.int IntKind.i64 i',
 l=l,
 l.all closedSV=true,
 false=false]:=by kernel_rfl
theorem fot0 (l l' : List SV) (n c : Nat) (i i' : Int) (q : ByteArray) : reach EN0 2 60 (fo0S l n c i q true) (ff [0] true ++ ff [1] false) [(0, 0), (1, 1), (2, 2), (3, 4)] [0, 3] (hdFo n c (.sl 3 0 1 none) i') 6 (objF1 l l') = [
  Value.int IntKind.i64 (3 : Int) = Value.int IntKind.i64 (3 : Int),
  Fn.func (23 : Nat) = Fn.func (23 : Nat),
  (0 : Nat) = (0 : Nat),
  (0 : Nat) = (0 : Nat),
  (0 : Nat) = (0 : Nat) ∧ (1 : Nat) = (1 : Nat) ∧ (none : Option Nat) = none,
  (0 : Nat) = (0 : Nat) ∧ n = n ∧ some c = some c,
  Value.int IntKind.i64 (↑n : Int) = Value.int IntKind.i64 (↑n : Int),
  Value.int IntKind.i64 (IntKind.i64.wrap (i + (1 : Int))) = Value.int IntKind.i64 i',
  l = l,
  l.all closedSV = true,
  [] ++
   List.take (2 : Nat)
   (List.drop (0 : Nat)
   (splice
   (List.replicate (1 : Nat)
   (List.map SV.v
   {
   toList :=
   [Value.int IntKind.i64 (0 : Int),
   Value.string { data := { toList := [] : Array UInt8 } : ByteArray }] :
   Array Value }.toList)).flatten
   (0 : Nat)
   (splice
   (splice
   (List.map SV.v
   {
   toList :=
   [Value.int IntKind.i64 (0 : Int),
   Value.string { data := { toList := [] : Array UInt8 } : ByteArray }] :
   Array Value }.toList)
   (0 : Nat) [SV.v (Value.int IntKind.i64 (3 : Int))])
   (1 : Nat) [SV.v (Value.string q)]))) =
   l',
  l'.all closedSV = true,
  false = false,
  true = true] := by kernel_rfl
theorem foc1 (l m:List SV) (n c k:Nat) (i:Int) (q:ByteArray):callO EN0 23 60 (SM.at (hdFo n c (.sl 3 0 k none) i) 6 (objF1 l m)) (ff [0] true++[(2,.cells [.v (.string q)])])=[
 l[(0:Nat)+i.toNat*(1:Nat)]?=some (SV.v (Value.string q)),
 inRange i n=true,
 decide (i<(↑n:Int))=true]:=by kernel_rfl
theorem fob1 (l m:List SV) (n c k:Nat) (i:Int) (q:ByteArray) (d:Bool):backO EN0 23 60 (SM.at (hdFo n c (.sl 3 0 k none) i) 6 (objF1 l m)) (ff [0] true++[(2,.cells [.v (.string q)])]) (.v (.bool d))=[
 l[(0:Nat)+i.toNat*(1:Nat)]?=some (SV.v (Value.string q)),
 inRange i n=true,
 decide (i<(↑n:Int))=true]:=by kernel_rfl
theorem fof1 (l m:List SV) (n c k:Nat) (i i':Int) (q:ByteArray):reach EN0 2 60 (fo1S l m n c k i q false) (ff [0] false) [(0,0),(1,1),(2,2),(3,3)] [0,3] (hdFo n c (.sl 3 0 k none) i') 6 (objF1 l m)=[
 Value.int IntKind.i64 (3:Int)=Value.int IntKind.i64 (3:Int),
 Fn.func (23:Nat)=Fn.func (23:Nat),
 (0:Nat)=(0:Nat),
 (0:Nat)=(0:Nat),
 (0:Nat)=(0:Nat)∧k=k∧(none:Option Nat)=none,
 (0:Nat)=(0:Nat)∧n=n∧some c=some c,
 Value.int IntKind.i64 (↑n:Int)=Value.int IntKind.i64 (↑n:Int),
 Value.int IntKind.i64 (IntKind.i64.wrap (i+(1:Int)))=Value.int IntKind.i64 i',
 l=l,
 l.all closedSV=true,
 m=m,
 m.all closedSV=true,
 false=false]:=by kernel_rfl
theorem fot1 (l m w l' : List SV) (n c k : Nat) (i i' : Int) (q : ByteArray) : reach EN0 2 60 (fo1S l m n c k i q true) [(0, .b true), (1, .app m w)] [(0, 0), (1, 1), (2, 2), (3, 5)] [0, 3] (hdFo n c (.sl 3 0 (k + 1) none) i') 6 (objF1 l l') = [
  Value.int IntKind.i64 (3 : Int) = Value.int IntKind.i64 (3 : Int),
  Fn.func (23 : Nat) = Fn.func (23 : Nat),
  (0 : Nat) = (0 : Nat),
  (0 : Nat) = (0 : Nat),
  (0 : Nat) = (0 : Nat) ∧ k + (1 : Nat) = k + (1 : Nat) ∧ (none : Option Nat) = none,
  (0 : Nat) = (0 : Nat) ∧ n = n ∧ some c = some c,
  Value.int IntKind.i64 (↑n : Int) = Value.int IntKind.i64 (↑n : Int),
  Value.int IntKind.i64 (IntKind.i64.wrap (i + (1 : Int))) = Value.int IntKind.i64 i',
  l = l,
  l.all closedSV = true,
  m ++ w = l',
  l'.all closedSV = true,
  ((List.take (2 : Nat)
   (List.drop (0 : Nat)
   (splice
   (List.replicate (1 : Nat)
   (List.map SV.v
   {
   toList :=
   [Value.int IntKind.i64 (0 : Int),
   Value.string { data := { toList := [] : Array UInt8 } : ByteArray }] :
   Array Value }.toList)).flatten
   (0 : Nat)
   (splice
   (splice
   (List.map SV.v
   {
   toList :=
   [Value.int IntKind.i64 (0 : Int),
   Value.string { data := { toList := [] : Array UInt8 } : ByteArray }] :
   Array Value }.toList)
   (0 : Nat) [SV.v (Value.int IntKind.i64 (3 : Int))])
   (1 : Nat) [SV.v (Value.string q)]))) =
   w ∧
   w.length = (1 : Nat) * (2 : Nat)) ∧
   (1 : Nat) ≠ (0 : Nat) ∧ ((2 : Nat) * (k + (1 : Nat)) + (1024 : Nat)) * (24 : Nat) ≤ (140737488355328 : Nat)) ∧
   List.take (k * (2 : Nat)) m = m ∧ m.length = k * (2 : Nat) ∧ w.all SV.flat = true,
  true = true] := by kernel_rfl
theorem foe0 (l:List SV) (n c:Nat) (i:Int) (v:Value):endsV EN0 22 60 (SM.at (hdFo n c nilE i) 6 (objF0 l)) (ff [0] false) v=[
 Value.slice none (0:Nat) (0:Nat)=v,
 decide (i<(↑n:Int))=false]:=by kernel_rfl
theorem foe1 (l m:List SV) (n c k:Nat) (i:Int):endsO EN0 22 60 (SM.at (hdFo n c (.sl 3 0 k none) i) 6 (objF1 l m)) (ff [0] false) (.sl 3 0 k none) 3 (.row m 57 (0,0) (some 2))=[
 (0:Nat)=(0:Nat)∧k=k∧(none:Option Nat)=none,
 m=m,
 m.all closedSV=true,
 decide (i<(↑n:Int))=false]:=by kernel_rfl
def findS (l:List ByteArray):List SV:=l.flatMap findC
def findV (l:List ByteArray):List Value:=l.flatMap fun q=>[.int .i64 3,.string q]
theorem findS_app (a b:List ByteArray):findS (a++b)=findS a++findS b:=by simp [findS]
theorem findS_one (q:ByteArray):findS [q]=findC q:=by simp [findS]
theorem findS_len:∀ a:List ByteArray,(findS a).length=a.length*2
 | []=>rfl
 | q::a=>by
  have:=findS_len a
  have e:findS (q::a)=findC q++findS a:=by simp [findS]
  rw [e,List.length_append,this,List.length_cons,show (findC q).length=2 from rfl];omega
theorem findS_map:∀ l:List ByteArray,(findV l).map SV.v=findS l
 | []=>rfl
 | q::l=>by
  have e:findS (q::l)=findC q++findS l:=by simp [findS]
  have e2:findV (q::l)=[.int .i64 3,.string q]++findV l:=by simp [findV]
  rw [e,e2,List.map_append,findS_map l];rfl
theorem findS_closed (l:List ByteArray):(findS l).all closedSV=true:=by
 rw [← findS_map,List.all_eq_true];intro x hx
 obtain ⟨v,_,rfl⟩:=List.mem_map.1 hx
 rfl
theorem findS_flat (l:List ByteArray):(findS l).all SV.flat=true:=by
 unfold findS
 rw [List.all_eq_true];intro x hx
 obtain ⟨q,_,hq⟩:=List.mem_flatMap.1 hx
 simp only [findC,List.mem_cons,List.not_mem_nil,or_false] at hq
 rcases hq with rfl | rfl <;> rfl
theorem findS_val {ν:Val} {l:List ByteArray} {zs:List Value} (h:VRL ν (findS l) zs):zs=findV l:=by
 rw [← findS_map] at h
 exact plain_sol h (VRL.lits ν _)
def FoundIs (w w':World) (l:List ByteArray) (v:Value):Prop:=(l=[]∧v=.slice none 0 0)∨(l≠[]∧NewSl w w' v (findV l) l.length 2 57)
def RFo (w:World) (l:List ByteArray) (e:Ending) (w':World):Prop:=Below w.heap.size w w'∧∃ v,e=.returned v∧FoundIs w w' l v
theorem filter_snoc {D:ByteArray→Bool} {L:List ByteArray} {i:Nat} (h:i<L.length):(L.take (i+1)).filter D=(L.take i).filter D++(if D L[i]=true then [L[i]] else []):=by
 rw [List.take_add_one,List.getElem?_eq_getElem h,List.filter_append]
 congr 1
 cases hd:D L[i] <;> simp [hd]
section
variable {W:World} {cs0:List Frame} {M:Own} {ν:Val} {x1 x2:Nat} {D:ByteArray→Bool} {L:List ByteArray} {c:Nat}
def PairsK (W:World) (x1 x2:Nat) (D:ByteArray→Bool):Prop:=∀ w,W.hp.Sub w.hp→∀ q,Calls Tryz.prog 23 #[.string q,ptrB x1,ptrB x2] w fun e w'=>Below w.heap.size w w'∧e=.returned (.bool (D q))
theorem roundFo (hp:PairsK W x1 x2 D) (hν1:ν 1=some (x1,0)) (hν2:ν 2=some (x2,0)) {S:SM} {q:ByteArray} {o:List (Nat × Ans)} {H:Hp} {M1:Own} {w1:World} (hk:Kept W.hp M W H M1 w1) {R:Ending→World→Prop}
  (h1:Owed (callO EN0 23 60 S o)) (h2:callTop EN0 23 60 S o=enterF EN0 23 [.v (.string q),.ptr 1 0,.ptr 2 0] .normal) (h3:Owed (backO EN0 23 60 S o (.v (.bool (D q)))))
  (nx:∀ H' M2 w2,Kept W.hp M W H' M2 w2→Goes EN0 M2 w2 cs0 22 R ν (backT EN0 23 60 S o (.v (.bool (D q))))):
  Goes EN0 M1 w1 cs0 22 R ν S:=by
 refine Goes.callV KN0 hk (n:=60) (g:=23) (o:=o) (args:=[.v (.string q),.ptr 1 0,.ptr 2 0]) h1 h2 fun ν' w a hle hsub hgr ha=>?_
 obtain ⟨y1,as1,rfl,q1,ha2⟩:=ha.cons_inv
 obtain ⟨y2,as2,rfl,q2,ha3⟩:=ha2.cons_inv
 obtain ⟨y3,as3,rfl,q3,ha4⟩:=ha3.cons_inv
 obtain rfl:=ha4.nil_inv
 obtain rfl:=VR.v_iff.1 q1
 obtain ⟨bb,hbb,rfl⟩:=VR.ptr_iff.1 q2
 have hbb:=hbb.symm.trans (hle 1 (x1,0) hν1)
 cases hbb
 obtain ⟨bb,hbb,rfl⟩:=VR.ptr_iff.1 q3
 have hbb:=hbb.symm.trans (hle 2 (x2,0) hν2)
 cases hbb
 exact (hp w (hk.sub0.trans hsub) q).mono fun e w' ⟨hB,he⟩=>⟨hB,_,he,fun M2 hK2=>⟨h3,nx _ M2 w' hK2⟩⟩
theorem loopFo1 (hM:∀ z,¬ M z) (hp:PairsK W x1 x2 D) (hν1:ν 1=some (x1,0)) (hν2:ν 2=some (x2,0)) (hν:∀ i b,ν i=some b→i=0∨i=1∨i=2) (few:L.length≤100000):
  ∀ (j i:Nat),i+j=L.length→∀ H M1 w1,Kept W.hp M W H M1 w1→(L.take i).filter D≠[]→
   Goes EN0 M1 w1 cs0 22 (RFo W (L.filter D)) ν (SM.at (hdFo L.length c (.sl 3 0 ((L.take i).filter D).length none) (i:Int)) 6 (objF1 (strs L) (findS ((L.take i).filter D))))
 | 0,i,hj,H,M1,w1,hk,hne=>by
  rw [List.take_of_length_le (by omega)] at hne ⊢
  refine Goes.endsO KN0 (n:=60) (o:=ff [0] false) (x:=.sl 3 0 (L.filter D).length none) (i:=3) (so:=.row (findS (L.filter D)) 57 (0,0) (some 2)) (by
   rw [foe1]
   simp only [Owed,findS_closed,and_self,and_true,true_and]
   exact decide_eq_false (by omega)) fun ν' w' y b1 ob hv hb ho hor hw hB'=>?_
  obtain ⟨M3,w3,M4,s',hBb,hr⟩:=hB'
  have hn:W.heap.size≤b1.1:=by
   rcases hk.base.own _ hw with h | h
   ·exact h
   ·exact absurd h (hM _)
  exact ⟨below_of hM (hk.base.trans hBb) hr,y,rfl,.inr ⟨hne,NewSl.of_row hv hb ho hor hn fun zs hz=>findS_val hz⟩⟩
 | j+1,i,hj,H,M1,w1,hk,hne=>by
  have hi:i<L.length:=by omega
  have hq:L[i]?=some L[i]:=List.getElem?_eq_getElem hi
  have hfl:((L.take i).filter D).length≤100000:=Nat.le_trans (List.length_filter_le _ _) (by rw [List.length_take];omega)
  have hsn:=filter_snoc (D:=D) hi
  refine roundFo hp hν1 hν2 hk (q:=L[i]) (o:=ff [0] true++[(2,.cells [.v (.string L[i])])]) ?_ (by kernel_rfl) ?_ fun H' M2 w2 hk2=>?_
  ·rw [foc1]
   simp only [Owed,strs_at hq,in_range hi,decide_eq_true (show (i:Int)<(L.length:Int) by omega),and_self,and_true,true_and]
  ·rw [fob1]
   simp only [Owed,strs_at hq,in_range hi,decide_eq_true (show (i:Int)<(L.length:Int) by omega),and_self,and_true,true_and]
  ·cases hd:D L[i]
   ·rw [hd,if_neg (by decide),List.append_nil] at hsn
    have nx:=loopFo1 hM hp hν1 hν2 hν few j (i+1) (by omega) H' M2 w2 hk2 (by rw [hsn];exact hne)
    rw [hsn] at nx
    refine Goes.reach KN0 (k:=2) (n:=60) (o:=ff [0] false) (ren:=[(0,0),(1,1),(2,2),(3,3)]) (eqs:=[0,3]) (S:=fo1S (strs L) (findS ((L.take i).filter D)) L.length c ((L.take i).filter D).length (i:Int) L[i] false) ?_ (by kernel_rfl) (fun i b h=>by rcases hν i b h with h | h | h <;> rw [h] <;> rfl) nx
    rw [fof1]
    simp only [Owed,wrap_succ (k:=i) (by omega),strs_closed,findS_closed,and_self,and_true,true_and]
   ·rw [hd,if_pos rfl] at hsn
    have nx:=loopFo1 hM hp hν1 hν2 hν few j (i+1) (by omega) H' M2 w2 hk2 (by rw [hsn];simp)
    rw [hsn,List.length_append,show ([L[i]]:List ByteArray).length=1 from rfl,findS_app,findS_one] at nx
    refine Goes.reach KN0 (k:=2) (n:=60) (o:=[(0,.b true),(1,.app (findS ((L.take i).filter D)) (findC L[i]))]) (ren:=[(0,0),(1,1),(2,2),(3,5)]) (eqs:=[0,3]) (S:=fo1S (strs L) (findS ((L.take i).filter D)) L.length c ((L.take i).filter D).length (i:Int) L[i] true) ?_ (by kernel_rfl) (fun i b h=>by rcases hν i b h with h | h | h <;> rw [h] <;> rfl) nx
    rw [fot1]
    simp only [Owed,wrap_succ (k:=i) (by omega),strs_closed,findS_closed,findS_flat,findS_len,List.all_append,and_self,and_true,true_and]
    repeat' apply And.intro
    all_goals first | rfl | omega | exact List.take_of_length_le (by rw [findS_len];exact Nat.le_refl _) | skip
theorem loopFo0 (hM:∀ z,¬ M z) (hp:PairsK W x1 x2 D) (hν1:ν 1=some (x1,0)) (hν2:ν 2=some (x2,0)) (hν:∀ i b,ν i=some b→i=0∨i=1∨i=2) (few:L.length≤100000):
  ∀ (j i:Nat),i+j=L.length→∀ H M1 w1,Kept W.hp M W H M1 w1→(L.take i).filter D=[]→
   Goes EN0 M1 w1 cs0 22 (RFo W (L.filter D)) ν (SM.at (hdFo L.length c nilE (i:Int)) 6 (objF0 (strs L)))
 | 0,i,hj,H,M1,w1,hk,hne=>by
  rw [List.take_of_length_le (by omega)] at hne
  refine Goes.endsV KN0 (n:=60) (o:=ff [0] false) (v:=.slice none 0 0) ?_ fun ν' M1 w1 s' w' _ hB' hr=>⟨below_of hM (hk.base.trans hB') hr,_,rfl,.inl ⟨hne,rfl⟩⟩
  rw [foe0]
  simp only [Owed,and_self,and_true,true_and]
  exact decide_eq_false (by omega)
 | j+1,i,hj,H,M1,w1,hk,hne=>by
  have hi:i<L.length:=by omega
  have hq:L[i]?=some L[i]:=List.getElem?_eq_getElem hi
  have hsn:=filter_snoc (D:=D) hi
  rw [hne,List.nil_append] at hsn
  refine roundFo hp hν1 hν2 hk (q:=L[i]) (o:=ff [0] true++[(2,.cells [.v (.string L[i])])]) ?_ (by kernel_rfl) ?_ fun H' M2 w2 hk2=>?_
  ·rw [foc0]
   simp only [Owed,strs_at hq,in_range hi,decide_eq_true (show (i:Int)<(L.length:Int) by omega),and_self,and_true,true_and]
  ·rw [fob0]
   simp only [Owed,strs_at hq,in_range hi,decide_eq_true (show (i:Int)<(L.length:Int) by omega),and_self,and_true,true_and]
  ·cases hd:D L[i]
   ·rw [hd,if_neg (by decide)] at hsn
    have nx:=loopFo0 hM hp hν1 hν2 hν few j (i+1) (by omega) H' M2 w2 hk2 hsn
    refine Goes.reach KN0 (k:=2) (n:=60) (o:=ff [0] false) (ren:=[(0,0),(1,1),(2,2)]) (eqs:=[0]) (S:=fo0S (strs L) L.length c (i:Int) L[i] false) ?_ (by kernel_rfl) (fun i b h=>by rcases hν i b h with h | h | h <;> rw [h] <;> rfl) nx
    rw [fof0]
    simp only [Owed,wrap_succ (k:=i) (by omega),strs_closed,nilE,and_self,and_true,true_and]
   ·rw [hd,if_pos rfl] at hsn
    have nx:=loopFo1 (cs0:=cs0) (c:=c) hM hp hν1 hν2 hν few j (i+1) (by omega) H' M2 w2 hk2 (by rw [hsn];simp)
    rw [hsn,show ([L[i]]:List ByteArray).length=1 from rfl,findS_one] at nx
    refine Goes.reach KN0 (k:=2) (n:=60) (o:=ff [0] true++ff [1] false) (ren:=[(0,0),(1,1),(2,2),(3,4)]) (eqs:=[0,3]) (S:=fo0S (strs L) L.length c (i:Int) L[i] true) ?_ (by kernel_rfl) (fun i b h=>by rcases hν i b h with h | h | h <;> rw [h] <;> rfl) nx
    rw [fot0]
    simp only [Owed,wrap_succ (k:=i) (by omega),strs_closed,and_self,and_true,true_and]
    repeat' apply And.intro
    all_goals first | rfl | omega | skip
end
theorem found_calls {W:World} {g x1 x2 c:Nat} {D:ByteArray→Bool} {L:List ByteArray} {rest:List Value} {e:TypeId} {fz:Nat × Nat} {cs1 cs2:Array Value} {e1 e2:TypeId} {f1 f2:Nat × Nat} (hn:[g,x1,x2].Nodup) (hg:W.heap[g]?=some (.cells (L.map Value.string++rest).toArray e fz))
  (hx1:W.heap[x1]?=some (.cells cs1 e1 f1)) (hx2:W.heap[x2]?=some (.cells cs2 e2 f2)) (hp:PairsK W x1 x2 D) (few:L.length≤100000) (hlc:L.length≤c):
  Calls Tryz.prog 22 #[.int .i64 3,.func (.func 23) #[] #[ptrB x1,ptrB x2],.slice (some ⟨g,0,none⟩) L.length c] W (RFo W (L.filter D)):=by
 have ho:∀ (j:Nat) (o':SO) (b' c':Nat),[SO.look (strs L),SO.look [],SO.look []][j]?=some o'→[(g,0),(x1,0),(x2,0)][j]?=some (b',c')→∃ r,W.heap[b']?=some r∧OR (layVal [(g,0),(x1,0),(x2,0)]) j o' r:=by
  intro j o' b' c' q1 q2
  match j with
  | 0=>
   simp only [List.getElem?_cons_zero,Option.some.injEq] at q1 q2
   subst q1
   cases q2
   refine ⟨_,hg,L.map Value.string,_,_,_,rfl,VRL.lits _ _,fun k y h=>?_⟩
   rw [List.getElem?_toArray,List.getElem?_append_left (List.getElem?_eq_some_iff.1 h).1];exact h
  | 1=>
   simp only [List.getElem?_cons_succ,List.getElem?_cons_zero,Option.some.injEq] at q1 q2
   subst q1
   cases q2
   exact ⟨_,hx1,[],_,_,_,rfl,VRL.nil,fun k y h=>by simp at h⟩
  | 2=>
   simp only [List.getElem?_cons_succ,List.getElem?_cons_zero,Option.some.injEq] at q1 q2
   subst q1
   cases q2
   exact ⟨_,hx2,[],_,_,_,rfl,VRL.nil,fun k y h=>by simp at h⟩
  | j+3=>simp at q1
 refine calls_readR (E:=EN0) rfl (d:=6) (l:=[(g,0),(x1,0),(x2,0)]) (os:=[.look (strs L),.look [],.look []]) rfl (by simp) (by simpa using hn) ho rfl (args:=[.v (.int .i64 3),cloF,.sl 0 0 L.length (some c)]) (a:=[.int .i64 3,.func (.func 23) #[] #[ptrB x1,ptrB x2],.slice (some ⟨g,0,none⟩) L.length c]) (S0:=entFo (strs L) L.length c) (by kernel_rfl) (VRL.cons (VR.v_iff.2 rfl) (VRL.cons ?_ (VRL.cons (VR.sl_iff.2 ⟨(g,0),rfl,hlc,rfl⟩) VRL.nil))) fun cs0=>?_
 ·exact VR.func_iff.2 ⟨[],[ptrB x1,ptrB x2],rfl,VRL.nil,VRL.cons (VR.ptr_iff.2 ⟨(x1,0),rfl,rfl⟩) (VRL.cons (VR.ptr_iff.2 ⟨(x2,0),rfl,rfl⟩) VRL.nil)⟩
 have hM:∀ z,¬ (layOwn [(g,0),(x1,0),(x2,0)] ([SO.look (strs L),SO.look [],SO.look []].map fun o=>(o,false))) z:=fun z=>layOwn_none (os:=[SO.look (strs L),SO.look [],SO.look []])
 have hK0:=Kept.start (H0:=W.hp) (M:=layOwn [(g,0),(x1,0),(x2,0)] ([SO.look (strs L),SO.look [],SO.look []].map fun o=>(o,false))) (w:=W) (Hp.Sub.refl _) (fun z o _=>hM z) (layOwn_r (by
  intro j o' m b' c' q1 q2
  rw [List.getElem?_map] at q1
  obtain ⟨o2,q3,q4⟩:=Option.map_eq_some_iff.1 q1
  cases q4
  exact ho j o' b' c' q3 q2)) (fun _ h=>h)
 have hν:∀ i b,layVal [(g,0),(x1,0),(x2,0)] i=some b→i=0∨i=1∨i=2:=fun i b h=>by
  match i with
  | 0=>exact .inl rfl
  | 1=>exact .inr (.inl rfl)
  | 2=>exact .inr (.inr rfl)
  | i+3=>simp [layVal] at h
 have nx:=loopFo0 (cs0:=cs0) (ν:=layVal [(g,0),(x1,0),(x2,0)]) (c:=c) hM hp rfl rfl hν few L.length 0 (by omega) W.hp _ W hK0 rfl
 refine Goes.reach KN0 (k:=2) (n:=60) (o:=[(1000,.b true)]) (ren:=[(0,0),(1,1),(2,2)]) (eqs:=[0]) (F:=hdFo L.length c nilE 0) (d:=6) (l:=objF0 (strs L)) ?_ (by kernel_rfl) (fun i b h=>by rcases hν i b h with h | h | h <;> rw [h] <;> rfl) nx
 rw [fo0]
 simp only [Owed,strs_closed,nilE,and_self,and_true,true_and]
noncomputable def entFoN (f:Value):SM:=(enterS EN0 22 [.v (.int .i64 3),.v f,.v (.slice none 0 0)] (memOf 6 0 0 [])).getD noSM
theorem fon (f v:Value):endsV EN0 22 60 (entFoN f) ([(1000,.b true)]++ff [0] false) v=[
 Value.slice none (0:Nat) (0:Nat)=v,
 false=false]:=by kernel_rfl
theorem found_nil {W:World} (f:Value):Calls Tryz.prog 22 #[.int .i64 3,f,.slice none 0 0] W (RFo W []):=by
 refine (calls_bareR (E:=EN0) rfl rfl (args:=[.v (.int .i64 3),.v f,.v (.slice none 0 0)]) (a:=[.int .i64 3,f,.slice none 0 0]) (S0:=entFoN f) (by kernel_rfl) (VRL.cons (VR.v_iff.2 rfl) (VRL.cons (VR.v_iff.2 rfl) (VRL.cons (VR.v_iff.2 rfl) VRL.nil))) fun cs0=>?_)
 refine Goes.endsV KN0 (n:=60) (o:=[(1000,.b true)]++ff [0] false) (v:=.slice none 0 0) ?_ fun ν' M1 w1 s' w' _ hB' hr=>⟨below_of not_laid hB' hr,_,rfl,.inl ⟨rfl,rfl⟩⟩
 rw [fon]
 simp only [Owed,and_self,and_true,true_and]
end paths
end Go.Proofs.YtbjmmnegkpeboaaGreat
