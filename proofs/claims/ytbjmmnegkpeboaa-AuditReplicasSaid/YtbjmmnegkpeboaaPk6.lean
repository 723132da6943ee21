/- What the law AuditReplicas leans on, part 6: the symbolic executor, proved sound, contracts of functions, plain lemmas. By an AI agent. -/
import Derived.Test.YtbjmmnegkpeboaaPk5
set_option linter.unusedSimpArgs false
set_option linter.unusedVariables false
set_option maxRecDepth 100000
namespace Go.Proofs.Ytbjmmnegkpeboaa
open Go Go.Rx Go.RowKit Go.Proofs
namespace paths
namespace rd
def cF (ys:Option Addr→Nat→List Int) (xs1 xs2:List aA) (q:ByteArray):Bool:=!(((aj q xs1).k==(aj q xs2).k)&&(Lib.bytesOf (gD ys (aj q xs1).a (aj q xs1).l)==Lib.bytesOf (gD ys (aj q xs2).a (aj q xs2).l)))
theorem bA {D xs:List aA} (h:∀ e∈xs,e∈D) (q:ByteArray):oQ D (aj q xs).a (aj q xs).l:=by
 unfold aj
 cases hf:xs.find? (oR q) with
 | none=>exact .inr ⟨rfl,rfl⟩
 | some e=>exact .inl ⟨e,h e (List.mem_of_find?_eq_some hf),rfl,rfl⟩
structure sV (D xs1 xs2:List aA):Prop where
 few:xs1.length+xs2.length≤1000
 size1:∀ e∈xs1,e.p.size≤1000000000
 size2:∀ e∈xs2,e.p.size≤1000000000
 sub1:∀ e∈xs1,e∈D
 sub2:∀ e∈xs2,e∈D
theorem jY {xs:List aA} {i:Nat} {x:aA} (h:xs[i]?=some x):(cI xs)[0+(i:Int).toNat*3+0]?=some (.v (.string x.p)):=by
 rw [Int.toNat_natCast];exact hQ h
theorem iq (t:List aA) (h:t.length≤1000):bc (cI t) t.length t:=⟨rfl,rfl,h⟩
section
variable {W:World} {cs0:List Frame} {D:List aA} {ys:Option Addr→Nat→List Int} {xs1 xs2:List aA} {M:Own} {ν:aU}
theorem DK (K:aW (ee D ys) M W) (hM:∀ z,¬ M z) (hν:∀ i b,ν i=some b→i=0∨i=1) (hH:sV D xs1 xs2) (ne1:xs1≠[]) (ne2:xs2≠[]) {t:List ByteArray} (few:t.length≤1000):∀ (j i:Nat),i+j=t.length→((t.take i).filter (cF ys xs1 xs2))≠[]→
  af (ee D ys) M W cs0 21 (lP W (t.filter (cF ys xs1 xs2))) ν (SM.at (ou xs1.length xs2.length (.sl 2 0 t.length none) (.sl 3 0 ((t.take i).filter (cF ys xs1 xs2)).length none) (i:Int)) 6 (gq (cI xs1) (cI xs2) xs1.length xs2.length [bJ (cQ t),e6 (strs ((t.take i).filter (cF ys xs1 xs2)))]))
 | 0,i,hj,hne=>by
  rw [List.take_of_length_le (by omega)] at hne ⊢
  refine af.bR K (n:=100) (o:=ff [0] false) (x:=.sl 3 0 (t.filter (cF ys xs1 xs2)).length none) (i:=3) (so:=.row (strs (t.filter (cF ys xs1 xs2))) 9 (0,0) (some 1)) (by
   rw [Jk]
   simp only [ak,au,and_self,and_true,true_and]
   exact decide_eq_false (by omega)) fun ν' w' y b1 ob hv hb ho hor hw hB'=>?_
  obtain ⟨M3,w3,M4,s',hBb,hr⟩:=hB'
  have hn:W.heap.size≤b1.1:=by
   rcases hw with h | h
   ·exact h
   ·exact absurd h (hM _)
  exact ⟨aI hM hBb hr,y,rfl,.inr ⟨hne,cy.e8 hv hb ho hor hn fun zs hz=>fD hz⟩⟩
 | j+1,i,hj,hne=>by
  have hi:i<t.length:=by omega
  have hq:t[i]?=some t[i]:=List.getElem?_eq_getElem hi
  have hfl:((t.take i).filter (cF ys xs1 xs2)).length≤1000:=Nat.le_trans (List.length_filter_le _ _) (by rw [List.length_take];omega)
  have hsn:=dP (D:=cF ys xs1 xs2) hi
  have t1:decide ((i:Int)<(t.length:Int))=true:=decide_eq_true (by omega)
  cases hd:cF ys xs1 xs2 t[i]
  ·have hd':(!((((aj t[i] xs1)).k==((aj t[i] xs2)).k)&&(Lib.bytesOf (gD ys ((aj t[i] xs1)).a ((aj t[i] xs1)).l)==Lib.bytesOf (gD ys ((aj t[i] xs2)).a ((aj t[i] xs2)).l))))=false:=hd
   rw [hd,if_neg (by decide),List.append_nil] at hsn
   have nx:=DK K hM hν hH ne1 ne2 few j (i+1) (by omega) (by rw [hsn];exact hne)
   rw [hsn] at nx
   refine af.reach K (k:=2) (n:=200) (o:=ff [0] true++[(2,.cells [.v (.string t[i])]),(4,.cells [.v (.string t[i])]),(6,.cells [.v (.string t[i])]),(10,.b false)]) (ren:=[(0,0),(1,1),(2,2),(3,3)]) (eqs:=[0,1,2,3]) ?_ (by kernel_rfl) (fun i b h=>by rcases hν i b h with h | h <;> rw [h] <;> rfl) nx
   rw [JS (o':=[]) (w:=[])]
   simp only [ak,aM (k:=i) (by omega),aO hi,t1,fX hq,bN,au,az,bg,aD,bS,aK,List.all_append,aN,bT,and_self,and_true,true_and]
   repeat' apply And.intro
   all_goals first | rfl | omega | exact hd' | exact aV _ | assumption | exact iq _ (by have:=hH.few;(try simp at this);omega) | exact bA hH.sub1 _ | exact bA hH.sub2 _ | exact bA hH.sub1 _ | exact List.take_of_length_le (by simp only [aD];omega) | skip
  ·have hd':(!((((aj t[i] xs1)).k==((aj t[i] xs2)).k)&&(Lib.bytesOf (gD ys ((aj t[i] xs1)).a ((aj t[i] xs1)).l)==Lib.bytesOf (gD ys ((aj t[i] xs2)).a ((aj t[i] xs2)).l))))=true:=hd
   rw [hd,if_pos rfl] at hsn
   have nx:=DK K hM hν hH ne1 ne2 few j (i+1) (by omega) (by rw [hsn];simp)
   rw [hsn,List.length_append,show ([t[i]]:List ByteArray).length=1 from rfl,gB,dW] at nx
   refine af.reach K (k:=2) (n:=200) (o:=ff [0] true++[(2,.cells [.v (.string t[i])]),(4,.cells [.v (.string t[i])]),(6,.cells [.v (.string t[i])]),(10,.b true),(12,.cells [.v (.string t[i])]),(13,.app (strs ((t.take i).filter (cF ys xs1 xs2))) [.v (.string t[i])])]) (ren:=[(0,0),(1,1),(2,2),(3,5)]) (eqs:=[0,1,2,3]) ?_ (by kernel_rfl) (fun i b h=>by rcases hν i b h with h | h <;> rw [h] <;> rfl) nx
   rw [KF]
   simp only [ak,aM (k:=i) (by omega),aO hi,t1,fX hq,bN,au,az,bg,aD,bS,aK,List.all_append,aN,bT,and_self,and_true,true_and]
   repeat' apply And.intro
   all_goals first | rfl | omega | exact hd' | exact aV _ | assumption | exact iq _ (by have:=hH.few;(try simp at this);omega) | exact bA hH.sub1 _ | exact bA hH.sub2 _ | exact bA hH.sub1 _ | exact List.take_of_length_le (by simp only [aD];omega) | skip
theorem G2 (K:aW (ee D ys) M W) (hM:∀ z,¬ M z) (hν:∀ i b,ν i=some b→i=0∨i=1) (hH:sV D xs1 xs2) (ne1:xs1≠[]) (ne2:xs2≠[]) {t:List ByteArray} (few:t.length≤1000):∀ (j i:Nat),i+j=t.length→((t.take i).filter (cF ys xs1 xs2))=[]→
  af (ee D ys) M W cs0 21 (lP W (t.filter (cF ys xs1 xs2))) ν (SM.at (ou xs1.length xs2.length (.sl 2 0 t.length none) aK (i:Int)) 6 (gq (cI xs1) (cI xs2) xs1.length xs2.length [bJ (cQ t)]))
 | 0,i,hj,hne=>by
  rw [List.take_of_length_le (by omega)] at hne
  refine af.ax K (n:=100) (o:=ff [0] false) (v:=.slice none 0 0) ?_ fun ν' M1 w1 s' w' _ hB' hr=>⟨aI hM hB' hr,_,rfl,.inl ⟨hne,rfl⟩⟩
  rw [JI]
  simp only [ak,and_self,and_true,true_and]
  exact decide_eq_false (by omega)
 | j+1,i,hj,hne=>by
  have hi:i<t.length:=by omega
  have hq:t[i]?=some t[i]:=List.getElem?_eq_getElem hi
  have hfl:((t.take i).filter (cF ys xs1 xs2)).length≤1000:=Nat.le_trans (List.length_filter_le _ _) (by rw [List.length_take];omega)
  have hsn:=dP (D:=cF ys xs1 xs2) hi
  have t1:decide ((i:Int)<(t.length:Int))=true:=decide_eq_true (by omega)
  rw [hne,List.nil_append] at hsn
  cases hd:cF ys xs1 xs2 t[i]
  ·have hd':(!((((aj t[i] xs1)).k==((aj t[i] xs2)).k)&&(Lib.bytesOf (gD ys ((aj t[i] xs1)).a ((aj t[i] xs1)).l)==Lib.bytesOf (gD ys ((aj t[i] xs2)).a ((aj t[i] xs2)).l))))=false:=hd
   rw [hd,if_neg (by decide)] at hsn
   have nx:=G2 K hM hν hH ne1 ne2 few j (i+1) (by omega) hsn
   refine af.reach K (k:=2) (n:=200) (o:=ff [0] true++[(2,.cells [.v (.string t[i])]),(4,.cells [.v (.string t[i])]),(6,.cells [.v (.string t[i])]),(10,.b false)]) (ren:=[(0,0),(1,1),(2,2)]) (eqs:=[0,1,2]) ?_ (by kernel_rfl) (fun i b h=>by rcases hν i b h with h | h <;> rw [h] <;> rfl) nx
   rw [Lc (o:=[]) (o':=[]) (w:=[]) (r:=0)]
   simp only [ak,aM (k:=i) (by omega),aO hi,t1,fX hq,bN,au,az,bg,aD,bS,aK,List.all_append,aN,bT,and_self,and_true,true_and]
   repeat' apply And.intro
   all_goals first | rfl | omega | exact hd' | exact aV _ | assumption | exact iq _ (by have:=hH.few;(try simp at this);omega) | exact bA hH.sub1 _ | exact bA hH.sub2 _ | exact bA hH.sub1 _ | exact List.take_of_length_le (by simp only [aD];omega) | skip
  ·have hd':(!((((aj t[i] xs1)).k==((aj t[i] xs2)).k)&&(Lib.bytesOf (gD ys ((aj t[i] xs1)).a ((aj t[i] xs1)).l)==Lib.bytesOf (gD ys ((aj t[i] xs2)).a ((aj t[i] xs2)).l))))=true:=hd
   rw [hd,if_pos rfl] at hsn
   have nx:=DK (cs0:=cs0) K hM hν hH ne1 ne2 few j (i+1) (by omega) (by rw [hsn];simp)
   rw [hsn,show ([t[i]]:List ByteArray).length=1 from rfl,dW] at nx
   refine af.reach K (k:=2) (n:=200) (o:=ff [0] true++[(2,.cells [.v (.string t[i])]),(4,.cells [.v (.string t[i])]),(6,.cells [.v (.string t[i])]),(10,.b true),(12,.cells [.v (.string t[i])]),(13,.b false)]) (ren:=[(0,0),(1,1),(2,2),(3,4)]) (eqs:=[0,1,2,3]) ?_ (by kernel_rfl) (fun i b h=>by rcases hν i b h with h | h <;> rw [h] <;> rfl) nx
   rw [Kg (o:=[]) (w:=[]) (r:=0)]
   simp only [ak,aM (k:=i) (by omega),aO hi,t1,fX hq,bN,au,az,bg,aD,bS,aK,List.all_append,aN,bT,and_self,and_true,true_and]
   repeat' apply And.intro
   all_goals first | rfl | omega | exact hd' | exact aV _ | assumption | exact iq _ (by have:=hH.few;(try simp at this);omega) | exact bA hH.sub1 _ | exact bA hH.sub2 _ | exact bA hH.sub1 _ | exact List.take_of_length_le (by simp only [aD];omega) | skip
theorem G5 (K:aW (ee D ys) M W) (hM:∀ z,¬ M z) (hν:∀ i b,ν i=some b→i=0∨i=1) (hH:sV D xs1 xs2) (ne1:xs1≠[]) (ne2:xs2≠[]):∀ (j i:Nat),i+j=xs2.length→∀ t:List ByteArray,t≠[]→mz t (xs1.length+i)→
  af (ee D ys) M W cs0 21 (lP W ((bL t ((xs2.map (·.p)).drop i)).filter (cF ys xs1 xs2))) ν (SM.at (y9 xs1.length xs2.length (.sl 2 0 t.length none) (i:Int)) 6 (gq (cI xs1) (cI xs2) xs1.length xs2.length [bJ (cQ t)]))
 | 0,i,hj,t,ht,hg=>by
  have nx:=G2 (cs0:=cs0) K hM hν hH ne1 ne2 (t:=t) (by have h1:=hH.few;have h2:=hg.1;(try simp at h1);omega) t.length 0 (by omega) rfl
  rw [List.drop_eq_nil_of_le (by simp;omega)]
  refine af.reach K (k:=2) (n:=100) (o:=ff [0] false) (ren:=[(0,0),(1,1),(2,2)]) (eqs:=[0,1,2]) (F:=ou xs1.length xs2.length (.sl 2 0 t.length none) aK 0) (d:=6) (l:=gq (cI xs1) (cI xs2) xs1.length xs2.length [bJ (cQ t)]) ?_ (by kernel_rfl) (fun i b h=>by rcases hν i b h with h | h <;> rw [h] <;> rfl) nx
  rw [KE]
  simp only [ak,bN,az,aK,decide_eq_false (show ¬ (i:Int)<(xs2.length:Int) by omega),and_self,and_true,true_and]
 | j+1,i,hj,t,ht,hg=>by
  have hi:i<xs2.length:=by omega
  have hq:xs2[i]?=some xs2[i]:=List.getElem?_eq_getElem hi
  have t1:decide ((i:Int)<(xs2.length:Int))=true:=decide_eq_true (by omega)
  have hz:=hH.size2 _ (List.getElem_mem hi)
  have nx:=G5 K hM hν hH ne1 ne2 j (i+1) (by omega) (eB t xs2[i].p) (kj _ _) (hg.put hz)
  have hdr:(xs2.map (·.p)).drop i=xs2[i].p::(xs2.map (·.p)).drop (i+1):=by
   rw [List.drop_eq_getElem_cons (by simpa using hi)];simp
  rw [hdr]
  refine af.reach K (k:=2) (n:=100) (o:=ff [0] true++[(2,.cells [.v (.string xs2[i].p)])]) (ren:=[(0,0),(1,1),(2,3)]) (eqs:=[0,1,2]) ?_ (by kernel_rfl) (fun i b h=>by rcases hν i b h with h | h <;> rw [h] <;> rfl) nx
  rw [Lm]
  simp only [ak,aM (k:=i) (by have:=hH.few;(try simp at this);omega),aO hi,t1,jY hq,bT,ku,bN,az,aK,and_self,and_true,true_and]
  repeat' apply And.intro
  all_goals first | rfl | omega | exact vi _ (by have h1:=hH.few;have h2:=hg.1;(try simp at h1);omega) | exact hz | exact hg.2 | skip
theorem GW (K:aW (ee D ys) M W) (hM:∀ z,¬ M z) (hν:∀ i b,ν i=some b→i=0∨i=1) (hH:sV D xs1 xs2) (ne1:xs1≠[]) (ne2:xs2≠[]):∀ (j i:Nat),i+j=xs1.length→∀ t:List ByteArray,t≠[]→mz t (0+i)→
  af (ee D ys) M W cs0 21 (lP W ((bL (bL t ((xs1.map (·.p)).drop i)) (xs2.map (·.p))).filter (cF ys xs1 xs2))) ν (SM.at (tq xs1.length xs2.length (.sl 2 0 t.length none) (i:Int)) 6 (gq (cI xs1) (cI xs2) xs1.length xs2.length [bJ (cQ t)]))
 | 0,i,hj,t,ht,hg=>by
  have nx:=G5 (cs0:=cs0) K hM hν hH ne1 ne2 xs2.length 0 (by omega) t ht (by rw [show xs1.length=i by omega];exact ⟨by have:=hg.1;omega,hg.2⟩)
  rw [List.drop_zero] at nx
  rw [List.drop_eq_nil_of_le (by simp;omega)]
  refine af.reach K (k:=2) (n:=100) (o:=ff [0] false) (ren:=[(0,0),(1,1),(2,2)]) (eqs:=[0,1,2]) (F:=y9 xs1.length xs2.length (.sl 2 0 t.length none) 0) (d:=6) (l:=gq (cI xs1) (cI xs2) xs1.length xs2.length [bJ (cQ t)]) ?_ (by kernel_rfl) (fun i b h=>by rcases hν i b h with h | h <;> rw [h] <;> rfl) nx
  rw [Kl]
  simp only [ak,bN,az,aK,decide_eq_false (show ¬ (i:Int)<(xs1.length:Int) by omega),and_self,and_true,true_and]
 | j+1,i,hj,t,ht,hg=>by
  have hi:i<xs1.length:=by omega
  have hq:xs1[i]?=some xs1[i]:=List.getElem?_eq_getElem hi
  have t1:decide ((i:Int)<(xs1.length:Int))=true:=decide_eq_true (by omega)
  have hz:=hH.size1 _ (List.getElem_mem hi)
  have nx:=GW K hM hν hH ne1 ne2 j (i+1) (by omega) (eB t xs1[i].p) (kj _ _) (hg.put hz)
  have hdr:(xs1.map (·.p)).drop i=xs1[i].p::(xs1.map (·.p)).drop (i+1):=by
   rw [List.drop_eq_getElem_cons (by simpa using hi)];simp
  rw [hdr]
  refine af.reach K (k:=2) (n:=100) (o:=ff [0] true++[(2,.cells [.v (.string xs1[i].p)])]) (ren:=[(0,0),(1,1),(2,3)]) (eqs:=[0,1,2]) ?_ (by kernel_rfl) (fun i b h=>by rcases hν i b h with h | h <;> rw [h] <;> rfl) nx
  rw [K8]
  simp only [ak,aM (k:=i) (by have:=hH.few;(try simp at this);omega),aO hi,t1,jY hq,bT,ku,bN,az,aK,and_self,and_true,true_and]
  repeat' apply And.intro
  all_goals first | rfl | omega | exact vi _ (by have h1:=hH.few;have h2:=hg.1;(try simp at h1);omega) | exact hz | exact hg.2 | skip
theorem Kk (K:aW (ee D ys) M W) (hM:∀ z,¬ M z) (hν:∀ i b,ν i=some b→i=0∨i=1) (hH:sV D xs1 xs2) (ne1:xs1≠[]) (ne2:xs2≠[]):af (ee D ys) M W cs0 21 (lP W ((bL (bL [] (xs1.map (·.p))) (xs2.map (·.p))).filter (cF ys xs1 xs2))) ν (SM.at (tq xs1.length xs2.length aK ((0:Nat):Int)) 6 (gq (cI xs1) (cI xs2) xs1.length xs2.length [])):=by
 have hi:0<xs1.length:=List.length_pos_iff.2 ne1
 have hq:xs1[0]?=some xs1[0]:=List.getElem?_eq_getElem hi
 have t1:decide (((0:Nat):Int)<(xs1.length:Int))=true:=decide_eq_true (by omega)
 have hz:=hH.size1 _ (List.getElem_mem hi)
 have hg0:mz [] 0:=⟨Nat.zero_le _,fun e he=>(nomatch he)⟩
 have nx:=GW (cs0:=cs0) K hM hν hH ne1 ne2 (xs1.length - 1) 1 (by omega) (eB [] xs1[0].p) (kj _ _) (hg0.put hz)
 have hdr:xs1.map (·.p)=xs1[0].p::(xs1.map (·.p)).drop 1:=by
  conv=>lhs;rw [← List.drop_zero (l:=xs1.map (·.p)),List.drop_eq_getElem_cons (by simpa using hi)]
  simp
 rw [show bL [] (xs1.map (·.p))=bL (eB [] xs1[0].p) ((xs1.map (·.p)).drop 1) from (congrArg (bL []) hdr).trans rfl]
 refine af.reach K (k:=2) (n:=100) (o:=ff [0] true++[(2,.cells [.v (.string xs1[0].p)])]) (ren:=[(0,0),(1,1),(2,2)]) (eqs:=[0,1,2]) ?_ (by kernel_rfl) (fun i b h=>by rcases hν i b h with h | h <;> rw [h] <;> rfl) nx
 rw [LS (k:=0)]
 simp only [ak,aM (k:=0) (by omega),aO hi,t1,jY hq,bT,ku,bN,az,aK,and_self,and_true,true_and]
 repeat' apply And.intro
 all_goals first | rfl | omega | skip
end
section
variable {W:World} {cs0:List Frame} {D:List aA} {ys:Option Addr→Nat→List Int} {xs1:List aA} {M:Own} {ν:aU}
theorem CD (K:aW (ee D ys) M W) (hM:∀ z,¬ M z) (hν:∀ i b,ν i=some b→i=0) (hH:sV D xs1 []) (ne1:xs1≠[]) {t:List ByteArray} (few:t.length≤1000):∀ (j i:Nat),i+j=t.length→((t.take i).filter (cF ys xs1 []))≠[]→
  af (ee D ys) M W cs0 21 (lP W (t.filter (cF ys xs1 []))) ν (SM.at (oy xs1.length 0 (.sl 1 0 t.length none) (.sl 2 0 ((t.take i).filter (cF ys xs1 [])).length none) (i:Int)) 6 (gy (cI xs1) [] xs1.length 0 [bJ (cQ t),e6 (strs ((t.take i).filter (cF ys xs1 [])))]))
 | 0,i,hj,hne=>by
  rw [List.take_of_length_le (by omega)] at hne ⊢
  refine af.bR K (n:=100) (o:=ff [0] false) (x:=.sl 2 0 (t.filter (cF ys xs1 [])).length none) (i:=2) (so:=.row (strs (t.filter (cF ys xs1 []))) 9 (0,0) (some 1)) (by
   rw [Jt]
   simp only [ak,au,and_self,and_true,true_and]
   exact decide_eq_false (by omega)) fun ν' w' y b1 ob hv hb ho hor hw hB'=>?_
  obtain ⟨M3,w3,M4,s',hBb,hr⟩:=hB'
  have hn:W.heap.size≤b1.1:=by
   rcases hw with h | h
   ·exact h
   ·exact absurd h (hM _)
  exact ⟨aI hM hBb hr,y,rfl,.inr ⟨hne,cy.e8 hv hb ho hor hn fun zs hz=>fD hz⟩⟩
 | j+1,i,hj,hne=>by
  have hi:i<t.length:=by omega
  have hq:t[i]?=some t[i]:=List.getElem?_eq_getElem hi
  have hfl:((t.take i).filter (cF ys xs1 [])).length≤1000:=Nat.le_trans (List.length_filter_le _ _) (by rw [List.length_take];omega)
  have hsn:=dP (D:=cF ys xs1 []) hi
  have t1:decide ((i:Int)<(t.length:Int))=true:=decide_eq_true (by omega)
  cases hd:cF ys xs1 [] t[i]
  ·have hd':(!((((aj t[i] xs1)).k==((aj t[i] [])).k)&&(Lib.bytesOf (gD ys ((aj t[i] xs1)).a ((aj t[i] xs1)).l)==Lib.bytesOf (gD ys ((aj t[i] [])).a ((aj t[i] [])).l))))=false:=hd
   rw [hd,if_neg (by decide),List.append_nil] at hsn
   have nx:=CD K hM hν hH ne1 few j (i+1) (by omega) (by rw [hsn];exact hne)
   rw [hsn] at nx
   refine af.reach K (k:=2) (n:=200) (o:=ff [0] true++[(2,.cells [.v (.string t[i])]),(4,.cells [.v (.string t[i])]),(6,.cells [.v (.string t[i])]),(10,.b false)]) (ren:=[(0,0),(1,1),(2,2)]) (eqs:=[0,1,2]) ?_ (by kernel_rfl) (fun i b h=>by rw [hν i b h];rfl) nx
   rw [J2 (o':=[]) (w:=[])]
   simp only [ak,aM (k:=i) (by omega),aO hi,t1,fX hq,bN,au,az,bg,aD,bS,aK,List.all_append,aN,bT,and_self,and_true,true_and]
   repeat' apply And.intro
   all_goals first | rfl | omega | exact hd' | exact aV _ | assumption | exact iq _ (by have:=hH.few;(try simp at this);omega) | exact bA hH.sub1 _ | exact bA hH.sub2 _ | exact bA hH.sub1 _ | exact List.take_of_length_le (by simp only [aD];omega) | skip
  ·have hd':(!((((aj t[i] xs1)).k==((aj t[i] [])).k)&&(Lib.bytesOf (gD ys ((aj t[i] xs1)).a ((aj t[i] xs1)).l)==Lib.bytesOf (gD ys ((aj t[i] [])).a ((aj t[i] [])).l))))=true:=hd
   rw [hd,if_pos rfl] at hsn
   have nx:=CD K hM hν hH ne1 few j (i+1) (by omega) (by rw [hsn];simp)
   rw [hsn,List.length_append,show ([t[i]]:List ByteArray).length=1 from rfl,gB,dW] at nx
   refine af.reach K (k:=2) (n:=200) (o:=ff [0] true++[(2,.cells [.v (.string t[i])]),(4,.cells [.v (.string t[i])]),(6,.cells [.v (.string t[i])]),(10,.b true),(12,.cells [.v (.string t[i])]),(13,.app (strs ((t.take i).filter (cF ys xs1 []))) [.v (.string t[i])])]) (ren:=[(0,0),(1,1),(2,4)]) (eqs:=[0,1,2]) ?_ (by kernel_rfl) (fun i b h=>by rw [hν i b h];rfl) nx
   rw [KO]
   simp only [ak,aM (k:=i) (by omega),aO hi,t1,fX hq,bN,au,az,bg,aD,bS,aK,List.all_append,aN,bT,and_self,and_true,true_and]
   repeat' apply And.intro
   all_goals first | rfl | omega | exact hd' | exact aV _ | assumption | exact iq _ (by have:=hH.few;(try simp at this);omega) | exact bA hH.sub1 _ | exact bA hH.sub2 _ | exact bA hH.sub1 _ | exact List.take_of_length_le (by simp only [aD];omega) | skip
theorem Hg (K:aW (ee D ys) M W) (hM:∀ z,¬ M z) (hν:∀ i b,ν i=some b→i=0) (hH:sV D xs1 []) (ne1:xs1≠[]) {t:List ByteArray} (few:t.length≤1000):∀ (j i:Nat),i+j=t.length→((t.take i).filter (cF ys xs1 []))=[]→
  af (ee D ys) M W cs0 21 (lP W (t.filter (cF ys xs1 []))) ν (SM.at (oy xs1.length 0 (.sl 1 0 t.length none) aK (i:Int)) 6 (gy (cI xs1) [] xs1.length 0 [bJ (cQ t)]))
 | 0,i,hj,hne=>by
  rw [List.take_of_length_le (by omega)] at hne
  refine af.ax K (n:=100) (o:=ff [0] false) (v:=.slice none 0 0) ?_ fun ν' M1 w1 s' w' _ hB' hr=>⟨aI hM hB' hr,_,rfl,.inl ⟨hne,rfl⟩⟩
  rw [JV]
  simp only [ak,and_self,and_true,true_and]
  exact decide_eq_false (by omega)
 | j+1,i,hj,hne=>by
  have hi:i<t.length:=by omega
  have hq:t[i]?=some t[i]:=List.getElem?_eq_getElem hi
  have hfl:((t.take i).filter (cF ys xs1 [])).length≤1000:=Nat.le_trans (List.length_filter_le _ _) (by rw [List.length_take];omega)
  have hsn:=dP (D:=cF ys xs1 []) hi
  have t1:decide ((i:Int)<(t.length:Int))=true:=decide_eq_true (by omega)
  rw [hne,List.nil_append] at hsn
  cases hd:cF ys xs1 [] t[i]
  ·have hd':(!((((aj t[i] xs1)).k==((aj t[i] [])).k)&&(Lib.bytesOf (gD ys ((aj t[i] xs1)).a ((aj t[i] xs1)).l)==Lib.bytesOf (gD ys ((aj t[i] [])).a ((aj t[i] [])).l))))=false:=hd
   rw [hd,if_neg (by decide)] at hsn
   have nx:=Hg K hM hν hH ne1 few j (i+1) (by omega) hsn
   refine af.reach K (k:=2) (n:=200) (o:=ff [0] true++[(2,.cells [.v (.string t[i])]),(4,.cells [.v (.string t[i])]),(6,.cells [.v (.string t[i])]),(10,.b false)]) (ren:=[(0,0),(1,1)]) (eqs:=[0,1]) ?_ (by kernel_rfl) (fun i b h=>by rw [hν i b h];rfl) nx
   rw [Jq (o:=[]) (o':=[]) (w:=[]) (r:=0)]
   simp only [ak,aM (k:=i) (by omega),aO hi,t1,fX hq,bN,au,az,bg,aD,bS,aK,List.all_append,aN,bT,and_self,and_true,true_and]
   repeat' apply And.intro
   all_goals first | rfl | omega | exact hd' | exact aV _ | assumption | exact iq _ (by have:=hH.few;(try simp at this);omega) | exact bA hH.sub1 _ | exact bA hH.sub2 _ | exact bA hH.sub1 _ | exact List.take_of_length_le (by simp only [aD];omega) | skip
  ·have hd':(!((((aj t[i] xs1)).k==((aj t[i] [])).k)&&(Lib.bytesOf (gD ys ((aj t[i] xs1)).a ((aj t[i] xs1)).l)==Lib.bytesOf (gD ys ((aj t[i] [])).a ((aj t[i] [])).l))))=true:=hd
   rw [hd,if_pos rfl] at hsn
   have nx:=CD (cs0:=cs0) K hM hν hH ne1 few j (i+1) (by omega) (by rw [hsn];simp)
   rw [hsn,show ([t[i]]:List ByteArray).length=1 from rfl,dW] at nx
   refine af.reach K (k:=2) (n:=200) (o:=ff [0] true++[(2,.cells [.v (.string t[i])]),(4,.cells [.v (.string t[i])]),(6,.cells [.v (.string t[i])]),(10,.b true),(12,.cells [.v (.string t[i])]),(13,.b false)]) (ren:=[(0,0),(1,1),(2,3)]) (eqs:=[0,1,2]) ?_ (by kernel_rfl) (fun i b h=>by rw [hν i b h];rfl) nx
   rw [JY (o:=[]) (w:=[]) (r:=0)]
   simp only [ak,aM (k:=i) (by omega),aO hi,t1,fX hq,bN,au,az,bg,aD,bS,aK,List.all_append,aN,bT,and_self,and_true,true_and]
   repeat' apply And.intro
   all_goals first | rfl | omega | exact hd' | exact aV _ | assumption | exact iq _ (by have:=hH.few;(try simp at this);omega) | exact bA hH.sub1 _ | exact bA hH.sub2 _ | exact bA hH.sub1 _ | exact List.take_of_length_le (by simp only [aD];omega) | skip
theorem Kz (K:aW (ee D ys) M W) (hM:∀ z,¬ M z) (hν:∀ i b,ν i=some b→i=0) (hH:sV D xs1 []) (ne1:xs1≠[]) (t:List ByteArray) (few:t.length≤1000):
  af (ee D ys) M W cs0 21 (lP W (t.filter (cF ys xs1 []))) ν (SM.at (Dm xs1.length 0 (.sl 1 0 t.length none) ((0:Nat):Int)) 6 (gy (cI xs1) [] xs1.length 0 [bJ (cQ t)])):=by
 have nx:=Hg (cs0:=cs0) K hM hν hH ne1 (t:=t) few t.length 0 (by omega) rfl
 refine af.reach K (k:=2) (n:=100) (o:=ff [0] false) (ren:=[(0,0),(1,1)]) (eqs:=[0,1]) (F:=oy xs1.length 0 (.sl 1 0 t.length none) aK 0) (d:=6) (l:=gy (cI xs1) [] xs1.length 0 [bJ (cQ t)]) ?_ (by kernel_rfl) (fun i b h=>by rw [hν i b h];rfl) nx
 rw [Ln]
 simp only [ak,bN,az,aK,decide_eq_false (show ¬ ((0:Nat):Int)<((0:Nat):Int) by omega),and_self,and_true,true_and]
theorem Hf (K:aW (ee D ys) M W) (hM:∀ z,¬ M z) (hν:∀ i b,ν i=some b→i=0) (hH:sV D xs1 []) (ne1:xs1≠[]):∀ (j i:Nat),i+j=xs1.length→∀ t:List ByteArray,t≠[]→mz t (0+i)→
  af (ee D ys) M W cs0 21 (lP W ((bL (bL t ((xs1.map (·.p)).drop i)) []).filter (cF ys xs1 []))) ν (SM.at (sZ xs1.length 0 (.sl 1 0 t.length none) (i:Int)) 6 (gy (cI xs1) [] xs1.length 0 [bJ (cQ t)]))
 | 0,i,hj,t,ht,hg=>by
  have nx:=Kz (cs0:=cs0) K hM hν hH ne1 t (by have h1:=hH.few;have h2:=hg.1;(try simp at h1);omega)
  rw [List.drop_eq_nil_of_le (by simp;omega)]
  refine af.reach K (k:=2) (n:=100) (o:=ff [0] false) (ren:=[(0,0),(1,1)]) (eqs:=[0,1]) (F:=Dm xs1.length 0 (.sl 1 0 t.length none) 0) (d:=6) (l:=gy (cI xs1) [] xs1.length 0 [bJ (cQ t)]) ?_ (by kernel_rfl) (fun i b h=>by rw [hν i b h];rfl) nx
  rw [Kw]
  simp only [ak,bN,az,aK,decide_eq_false (show ¬ (i:Int)<(xs1.length:Int) by omega),and_self,and_true,true_and]
 | j+1,i,hj,t,ht,hg=>by
  have hi:i<xs1.length:=by omega
  have hq:xs1[i]?=some xs1[i]:=List.getElem?_eq_getElem hi
  have t1:decide ((i:Int)<(xs1.length:Int))=true:=decide_eq_true (by omega)
  have hz:=hH.size1 _ (List.getElem_mem hi)
  have nx:=Hf K hM hν hH ne1 j (i+1) (by omega) (eB t xs1[i].p) (kj _ _) (hg.put hz)
  have hdr:(xs1.map (·.p)).drop i=xs1[i].p::(xs1.map (·.p)).drop (i+1):=by
   rw [List.drop_eq_getElem_cons (by simpa using hi)];simp
  rw [hdr]
  refine af.reach K (k:=2) (n:=100) (o:=ff [0] true++[(2,.cells [.v (.string xs1[i].p)])]) (ren:=[(0,0),(1,2)]) (eqs:=[0,1]) ?_ (by kernel_rfl) (fun i b h=>by rw [hν i b h];rfl) nx
  rw [JK]
  simp only [ak,aM (k:=i) (by have:=hH.few;(try simp at this);omega),aO hi,t1,jY hq,bT,ku,bN,az,aK,and_self,and_true,true_and]
  repeat' apply And.intro
  all_goals first | rfl | omega | exact vi _ (by have h1:=hH.few;have h2:=hg.1;(try simp at h1);omega) | exact hz | exact hg.2 | skip
theorem JR (K:aW (ee D ys) M W) (hM:∀ z,¬ M z) (hν:∀ i b,ν i=some b→i=0) (hH:sV D xs1 []) (ne1:xs1≠[]):af (ee D ys) M W cs0 21 (lP W ((bL (bL [] (xs1.map (·.p))) []).filter (cF ys xs1 []))) ν (SM.at (sZ xs1.length 0 aK ((0:Nat):Int)) 6 (gy (cI xs1) [] xs1.length 0 [])):=by
 have hi:0<xs1.length:=List.length_pos_iff.2 ne1
 have hq:xs1[0]?=some xs1[0]:=List.getElem?_eq_getElem hi
 have t1:decide (((0:Nat):Int)<(xs1.length:Int))=true:=decide_eq_true (by omega)
 have hz:=hH.size1 _ (List.getElem_mem hi)
 have hg0:mz [] 0:=⟨Nat.zero_le _,fun e he=>(nomatch he)⟩
 have nx:=Hf (cs0:=cs0) K hM hν hH ne1 (xs1.length - 1) 1 (by omega) (eB [] xs1[0].p) (kj _ _) (hg0.put hz)
 have hdr:xs1.map (·.p)=xs1[0].p::(xs1.map (·.p)).drop 1:=by
  conv=>lhs;rw [← List.drop_zero (l:=xs1.map (·.p)),List.drop_eq_getElem_cons (by simpa using hi)]
  simp
 rw [show bL [] (xs1.map (·.p))=bL (eB [] xs1[0].p) ((xs1.map (·.p)).drop 1) from (congrArg (bL []) hdr).trans rfl]
 refine af.reach K (k:=2) (n:=100) (o:=ff [0] true++[(2,.cells [.v (.string xs1[0].p)])]) (ren:=[(0,0),(1,1)]) (eqs:=[0,1]) ?_ (by kernel_rfl) (fun i b h=>by rw [hν i b h];rfl) nx
 rw [KL (k:=0)]
 simp only [ak,aM (k:=0) (by omega),aO hi,t1,jY hq,bT,ku,bN,az,aK,and_self,and_true,true_and]
 repeat' apply And.intro
 all_goals first | rfl | omega | skip
end
section
variable {W:World} {cs0:List Frame} {D:List aA} {ys:Option Addr→Nat→List Int} {xs2:List aA} {M:Own} {ν:aU}
theorem CP (K:aW (ee D ys) M W) (hM:∀ z,¬ M z) (hν:∀ i b,ν i=some b→i=0) (hH:sV D [] xs2) (ne2:xs2≠[]) {t:List ByteArray} (few:t.length≤1000):∀ (j i:Nat),i+j=t.length→((t.take i).filter (cF ys [] xs2))≠[]→
  af (ee D ys) M W cs0 21 (lP W (t.filter (cF ys [] xs2))) ν (SM.at (n5 0 xs2.length (.sl 1 0 t.length none) (.sl 2 0 ((t.take i).filter (cF ys [] xs2)).length none) (i:Int)) 6 (gz [] (cI xs2) 0 xs2.length [bJ (cQ t),e6 (strs ((t.take i).filter (cF ys [] xs2)))]))
 | 0,i,hj,hne=>by
  rw [List.take_of_length_le (by omega)] at hne ⊢
  refine af.bR K (n:=100) (o:=ff [0] false) (x:=.sl 2 0 (t.filter (cF ys [] xs2)).length none) (i:=2) (so:=.row (strs (t.filter (cF ys [] xs2))) 9 (0,0) (some 1)) (by
   rw [K7]
   simp only [ak,au,and_self,and_true,true_and]
   exact decide_eq_false (by omega)) fun ν' w' y b1 ob hv hb ho hor hw hB'=>?_
  obtain ⟨M3,w3,M4,s',hBb,hr⟩:=hB'
  have hn:W.heap.size≤b1.1:=by
   rcases hw with h | h
   ·exact h
   ·exact absurd h (hM _)
  exact ⟨aI hM hBb hr,y,rfl,.inr ⟨hne,cy.e8 hv hb ho hor hn fun zs hz=>fD hz⟩⟩
 | j+1,i,hj,hne=>by
  have hi:i<t.length:=by omega
  have hq:t[i]?=some t[i]:=List.getElem?_eq_getElem hi
  have hfl:((t.take i).filter (cF ys [] xs2)).length≤1000:=Nat.le_trans (List.length_filter_le _ _) (by rw [List.length_take];omega)
  have hsn:=dP (D:=cF ys [] xs2) hi
  have t1:decide ((i:Int)<(t.length:Int))=true:=decide_eq_true (by omega)
  cases hd:cF ys [] xs2 t[i]
  ·have hd':(!((((aj t[i] [])).k==((aj t[i] xs2)).k)&&(Lib.bytesOf (gD ys ((aj t[i] [])).a ((aj t[i] [])).l)==Lib.bytesOf (gD ys ((aj t[i] xs2)).a ((aj t[i] xs2)).l))))=false:=hd
   rw [hd,if_neg (by decide),List.append_nil] at hsn
   have nx:=CP K hM hν hH ne2 few j (i+1) (by omega) (by rw [hsn];exact hne)
   rw [hsn] at nx
   refine af.reach K (k:=2) (n:=200) (o:=ff [0] true++[(2,.cells [.v (.string t[i])]),(4,.cells [.v (.string t[i])]),(6,.cells [.v (.string t[i])]),(10,.b false)]) (ren:=[(0,0),(1,1),(2,2)]) (eqs:=[0,1,2]) ?_ (by kernel_rfl) (fun i b h=>by rw [hν i b h];rfl) nx
   rw [LN (o':=[]) (w:=[])]
   simp only [ak,aM (k:=i) (by omega),aO hi,t1,fX hq,bN,au,az,bg,aD,bS,aK,List.all_append,aN,bT,and_self,and_true,true_and]
   repeat' apply And.intro
   all_goals first | rfl | omega | exact hd' | exact aV _ | assumption | exact iq _ (by have:=hH.few;(try simp at this);omega) | exact bA hH.sub1 _ | exact bA hH.sub2 _ | exact bA hH.sub1 _ | exact List.take_of_length_le (by simp only [aD];omega) | skip
  ·have hd':(!((((aj t[i] [])).k==((aj t[i] xs2)).k)&&(Lib.bytesOf (gD ys ((aj t[i] [])).a ((aj t[i] [])).l)==Lib.bytesOf (gD ys ((aj t[i] xs2)).a ((aj t[i] xs2)).l))))=true:=hd
   rw [hd,if_pos rfl] at hsn
   have nx:=CP K hM hν hH ne2 few j (i+1) (by omega) (by rw [hsn];simp)
   rw [hsn,List.length_append,show ([t[i]]:List ByteArray).length=1 from rfl,gB,dW] at nx
   refine af.reach K (k:=2) (n:=200) (o:=ff [0] true++[(2,.cells [.v (.string t[i])]),(4,.cells [.v (.string t[i])]),(6,.cells [.v (.string t[i])]),(10,.b true),(12,.cells [.v (.string t[i])]),(13,.app (strs ((t.take i).filter (cF ys [] xs2))) [.v (.string t[i])])]) (ren:=[(0,0),(1,1),(2,4)]) (eqs:=[0,1,2]) ?_ (by kernel_rfl) (fun i b h=>by rw [hν i b h];rfl) nx
   rw [Li]
   simp only [ak,aM (k:=i) (by omega),aO hi,t1,fX hq,bN,au,az,bg,aD,bS,aK,List.all_append,aN,bT,and_self,and_true,true_and]
   repeat' apply And.intro
   all_goals first | rfl | omega | exact hd' | exact aV _ | assumption | exact iq _ (by have:=hH.few;(try simp at this);omega) | exact bA hH.sub1 _ | exact bA hH.sub2 _ | exact bA hH.sub1 _ | exact List.take_of_length_le (by simp only [aD];omega) | skip
theorem GO (K:aW (ee D ys) M W) (hM:∀ z,¬ M z) (hν:∀ i b,ν i=some b→i=0) (hH:sV D [] xs2) (ne2:xs2≠[]) {t:List ByteArray} (few:t.length≤1000):∀ (j i:Nat),i+j=t.length→((t.take i).filter (cF ys [] xs2))=[]→
  af (ee D ys) M W cs0 21 (lP W (t.filter (cF ys [] xs2))) ν (SM.at (n5 0 xs2.length (.sl 1 0 t.length none) aK (i:Int)) 6 (gz [] (cI xs2) 0 xs2.length [bJ (cQ t)]))
 | 0,i,hj,hne=>by
  rw [List.take_of_length_le (by omega)] at hne
  refine af.ax K (n:=100) (o:=ff [0] false) (v:=.slice none 0 0) ?_ fun ν' M1 w1 s' w' _ hB' hr=>⟨aI hM hB' hr,_,rfl,.inl ⟨hne,rfl⟩⟩
  rw [LP]
  simp only [ak,and_self,and_true,true_and]
  exact decide_eq_false (by omega)
 | j+1,i,hj,hne=>by
  have hi:i<t.length:=by omega
  have hq:t[i]?=some t[i]:=List.getElem?_eq_getElem hi
  have hfl:((t.take i).filter (cF ys [] xs2)).length≤1000:=Nat.le_trans (List.length_filter_le _ _) (by rw [List.length_take];omega)
  have hsn:=dP (D:=cF ys [] xs2) hi
  have t1:decide ((i:Int)<(t.length:Int))=true:=decide_eq_true (by omega)
  rw [hne,List.nil_append] at hsn
  cases hd:cF ys [] xs2 t[i]
  ·have hd':(!((((aj t[i] [])).k==((aj t[i] xs2)).k)&&(Lib.bytesOf (gD ys ((aj t[i] [])).a ((aj t[i] [])).l)==Lib.bytesOf (gD ys ((aj t[i] xs2)).a ((aj t[i] xs2)).l))))=false:=hd
   rw [hd,if_neg (by decide)] at hsn
   have nx:=GO K hM hν hH ne2 few j (i+1) (by omega) hsn
   refine af.reach K (k:=2) (n:=200) (o:=ff [0] true++[(2,.cells [.v (.string t[i])]),(4,.cells [.v (.string t[i])]),(6,.cells [.v (.string t[i])]),(10,.b false)]) (ren:=[(0,0),(1,1)]) (eqs:=[0,1]) ?_ (by kernel_rfl) (fun i b h=>by rw [hν i b h];rfl) nx
   rw [Jv (o:=[]) (o':=[]) (w:=[]) (r:=0)]
   simp only [ak,aM (k:=i) (by omega),aO hi,t1,fX hq,bN,au,az,bg,aD,bS,aK,List.all_append,aN,bT,and_self,and_true,true_and]
   repeat' apply And.intro
   all_goals first | rfl | omega | exact hd' | exact aV _ | assumption | exact iq _ (by have:=hH.few;(try simp at this);omega) | exact bA hH.sub1 _ | exact bA hH.sub2 _ | exact bA hH.sub1 _ | exact List.take_of_length_le (by simp only [aD];omega) | skip
  ·have hd':(!((((aj t[i] [])).k==((aj t[i] xs2)).k)&&(Lib.bytesOf (gD ys ((aj t[i] [])).a ((aj t[i] [])).l)==Lib.bytesOf (gD ys ((aj t[i] xs2)).a ((aj t[i] xs2)).l))))=true:=hd
   rw [hd,if_pos rfl] at hsn
   have nx:=CP (cs0:=cs0) K hM hν hH ne2 few j (i+1) (by omega) (by rw [hsn];simp)
   rw [hsn,show ([t[i]]:List ByteArray).length=1 from rfl,dW] at nx
   refine af.reach K (k:=2) (n:=200) (o:=ff [0] true++[(2,.cells [.v (.string t[i])]),(4,.cells [.v (.string t[i])]),(6,.cells [.v (.string t[i])]),(10,.b true),(12,.cells [.v (.string t[i])]),(13,.b false)]) (ren:=[(0,0),(1,1),(2,3)]) (eqs:=[0,1,2]) ?_ (by kernel_rfl) (fun i b h=>by rw [hν i b h];rfl) nx
   rw [Jw (o:=[]) (w:=[]) (r:=0)]
   simp only [ak,aM (k:=i) (by omega),aO hi,t1,fX hq,bN,au,az,bg,aD,bS,aK,List.all_append,aN,bT,and_self,and_true,true_and]
   repeat' apply And.intro
   all_goals first | rfl | omega | exact hd' | exact aV _ | assumption | exact iq _ (by have:=hH.few;(try simp at this);omega) | exact bA hH.sub1 _ | exact bA hH.sub2 _ | exact bA hH.sub1 _ | exact List.take_of_length_le (by simp only [aD];omega) | skip
theorem GL (K:aW (ee D ys) M W) (hM:∀ z,¬ M z) (hν:∀ i b,ν i=some b→i=0) (hH:sV D [] xs2) (ne2:xs2≠[]):∀ (j i:Nat),i+j=xs2.length→∀ t:List ByteArray,t≠[]→mz t (0+i)→
  af (ee D ys) M W cs0 21 (lP W ((bL t ((xs2.map (·.p)).drop i)).filter (cF ys [] xs2))) ν (SM.at (s8 0 xs2.length (.sl 1 0 t.length none) (i:Int)) 6 (gz [] (cI xs2) 0 xs2.length [bJ (cQ t)]))
 | 0,i,hj,t,ht,hg=>by
  have nx:=GO (cs0:=cs0) K hM hν hH ne2 (t:=t) (by have h1:=hH.few;have h2:=hg.1;(try simp at h1);omega) t.length 0 (by omega) rfl
  rw [List.drop_eq_nil_of_le (by simp;omega)]
  refine af.reach K (k:=2) (n:=100) (o:=ff [0] false) (ren:=[(0,0),(1,1)]) (eqs:=[0,1]) (F:=n5 0 xs2.length (.sl 1 0 t.length none) aK 0) (d:=6) (l:=gz [] (cI xs2) 0 xs2.length [bJ (cQ t)]) ?_ (by kernel_rfl) (fun i b h=>by rw [hν i b h];rfl) nx
  rw [JN]
  simp only [ak,bN,az,aK,decide_eq_false (show ¬ (i:Int)<(xs2.length:Int) by omega),and_self,and_true,true_and]
 | j+1,i,hj,t,ht,hg=>by
  have hi:i<xs2.length:=by omega
  have hq:xs2[i]?=some xs2[i]:=List.getElem?_eq_getElem hi
  have t1:decide ((i:Int)<(xs2.length:Int))=true:=decide_eq_true (by omega)
  have hz:=hH.size2 _ (List.getElem_mem hi)
  have nx:=GL K hM hν hH ne2 j (i+1) (by omega) (eB t xs2[i].p) (kj _ _) (hg.put hz)
  have hdr:(xs2.map (·.p)).drop i=xs2[i].p::(xs2.map (·.p)).drop (i+1):=by
   rw [List.drop_eq_getElem_cons (by simpa using hi)];simp
  rw [hdr]
  refine af.reach K (k:=2) (n:=100) (o:=ff [0] true++[(2,.cells [.v (.string xs2[i].p)])]) (ren:=[(0,0),(1,2)]) (eqs:=[0,1]) ?_ (by kernel_rfl) (fun i b h=>by rw [hν i b h];rfl) nx
  rw [JQ]
  simp only [ak,aM (k:=i) (by have:=hH.few;(try simp at this);omega),aO hi,t1,jY hq,bT,ku,bN,az,aK,and_self,and_true,true_and]
  repeat' apply And.intro
  all_goals first | rfl | omega | exact vi _ (by have h1:=hH.few;have h2:=hg.1;(try simp at h1);omega) | exact hz | exact hg.2 | skip
theorem Kv (K:aW (ee D ys) M W) (hM:∀ z,¬ M z) (hν:∀ i b,ν i=some b→i=0) (hH:sV D [] xs2) (ne2:xs2≠[]):af (ee D ys) M W cs0 21 (lP W ((bL [] (xs2.map (·.p))).filter (cF ys [] xs2))) ν (SM.at (s8 0 xs2.length aK ((0:Nat):Int)) 6 (gz [] (cI xs2) 0 xs2.length [])):=by
 have hi:0<xs2.length:=List.length_pos_iff.2 ne2
 have hq:xs2[0]?=some xs2[0]:=List.getElem?_eq_getElem hi
 have t1:decide (((0:Nat):Int)<(xs2.length:Int))=true:=decide_eq_true (by omega)
 have hz:=hH.size2 _ (List.getElem_mem hi)
 have hg0:mz [] 0:=⟨Nat.zero_le _,fun e he=>(nomatch he)⟩
 have nx:=GL (cs0:=cs0) K hM hν hH ne2 (xs2.length - 1) 1 (by omega) (eB [] xs2[0].p) (kj _ _) (hg0.put hz)
 have hdr:xs2.map (·.p)=xs2[0].p::(xs2.map (·.p)).drop 1:=by
  conv=>lhs;rw [← List.drop_zero (l:=xs2.map (·.p)),List.drop_eq_getElem_cons (by simpa using hi)]
  simp
 rw [show bL [] (xs2.map (·.p))=bL (eB [] xs2[0].p) ((xs2.map (·.p)).drop 1) from (congrArg (bL []) hdr).trans rfl]
 refine af.reach K (k:=2) (n:=100) (o:=ff [0] true++[(2,.cells [.v (.string xs2[0].p)])]) (ren:=[(0,0),(1,1)]) (eqs:=[0,1]) ?_ (by kernel_rfl) (fun i b h=>by rw [hν i b h];rfl) nx
 rw [Lk (k:=0)]
 simp only [ak,aM (k:=0) (by omega),aO hi,t1,jY hq,bT,ku,bN,az,aK,and_self,and_true,true_and]
 repeat' apply And.intro
 all_goals first | rfl | omega | skip
theorem LK (K:aW (ee D ys) M W) (hM:∀ z,¬ M z) (hν:∀ i b,ν i=some b→i=0) (hH:sV D [] xs2) (ne2:xs2≠[]):af (ee D ys) M W cs0 21 (lP W ((bL (bL [] []) (xs2.map (·.p))).filter (cF ys [] xs2))) ν (SM.at (DJ 0 xs2.length aK ((0:Nat):Int)) 6 (gz [] (cI xs2) 0 xs2.length [])):=by
 have nx:=Kv (cs0:=cs0) K hM hν hH ne2 
 refine af.reach K (k:=2) (n:=100) (o:=ff [0] false) (ren:=[(0,0)]) (eqs:=[0]) (F:=s8 0 xs2.length aK 0) (d:=6) (l:=gz [] (cI xs2) 0 xs2.length []) ?_ (by kernel_rfl) (fun i b h=>by rw [hν i b h];rfl) nx
 rw [JF]
 simp only [ak,bN,az,aK,decide_eq_false (show ¬ ((0:Nat):Int)<((0:Nat):Int) by omega),and_self,and_true,true_and]
end
section
variable {W:World} {cs0:List Frame} {D:List aA} {ys:Option Addr→Nat→List Int} {M:Own} {ν:aU}
theorem Lh (K:aW (ee D ys) M W) (hM:∀ z,¬ M z) (hν:∀ i b,ν i=some b→False) (hH:sV D [] []):af (ee D ys) M W cs0 21 (lP W []) ν (SM.at (EF 0 0 aK ((0:Nat):Int)) 6 (o6 [] [] 0 0 [])):=by
 have nx:af (ee D ys) M W cs0 21 (lP W []) ν (SM.at (IC 0 0 aK aK 0) 6 (o6 [] [] 0 0 [])):=by
  refine af.ax K (n:=100) (o:=ff [0] false) (v:=.slice none 0 0) ?_ fun ν' M1 w1 s' w' _ hB' hr=>⟨aI hM hB' hr,_,rfl,.inl ⟨rfl,rfl⟩⟩
  rw [Lv]
  simp only [ak,and_self,and_true,true_and]
  rfl
 refine af.reach K (k:=2) (n:=100) (o:=ff [0] false) (ren:=[]) (eqs:=[]) ?_ (by kernel_rfl) (fun i b h=>(hν i b h).elim) nx
 rw [LB]
 simp only [ak,bN,az,aK,decide_eq_false (show ¬ ((0:Nat):Int)<((0:Nat):Int) by omega),and_self,and_true,true_and]
theorem Jo (K:aW (ee D ys) M W) (hM:∀ z,¬ M z) (hν:∀ i b,ν i=some b→False) (hH:sV D [] []):af (ee D ys) M W cs0 21 (lP W ((bL (bL [] []) []).filter (cF ys [] []))) ν (SM.at (Dq 0 0 aK ((0:Nat):Int)) 6 (o6 [] [] 0 0 [])):=by
 have nx:=Lh (cs0:=cs0) K hM hν hH 
 refine af.reach K (k:=2) (n:=100) (o:=ff [0] false) (ren:=[]) (eqs:=[]) (F:=EF 0 0 aK 0) (d:=6) (l:=o6 [] [] 0 0 []) ?_ (by kernel_rfl) (fun i b h=>(hν i b h).elim) nx
 rw [Kq]
 simp only [ak,bN,az,aK,decide_eq_false (show ¬ ((0:Nat):Int)<((0:Nat):Int) by omega),and_self,and_true,true_and]
end
def vG (W:World) (y:Value) (xs:List aA) (g c:Nat):Prop:=∃ rest,y=.slice (some ⟨g,0,none⟩) xs.length c∧xs.length≤c∧W.heap[g]?=some (.cells (vI xs++rest).toArray 41 (0,0))∧(vI xs++rest).length=c*3
theorem vG.or {W:World} {y:Value} {xs:List aA} {g c:Nat} (h:vG W y xs g c) {ν:aU} {i:Nat} (hi:ν i=some (g,c)):∃ r,W.heap[g]?=some r∧OR ν i (.row (cI xs) 41 (0,0) (some 3)) r:=by
 obtain ⟨rest,rfl,hlc,hh,hsz⟩:=h
 exact ⟨_,hh,vI xs,rest,rfl,by rw [← cR];exact ay.lits _ _,by rw [← cR,List.length_map,List.length_append];omega,(g,c),hi,hsz⟩
theorem vG.vr {W:World} {y:Value} {xs:List aA} {g c:Nat} (h:vG W y xs g c) {ν:aU} {i:Nat} (hi:ν i=some (g,c)):VR ν (.sl i 0 xs.length none) y:=by
 obtain ⟨rest,rfl,hlc,hh,hsz⟩:=h
 exact VR.aQ.2 ⟨(g,c),hi,hlc,rfl⟩
theorem Hz {W:World} {D:List aA} {ys:Option Addr→Nat→List Int} {xs1:List aA} {y1:Value} {g1 k1:Nat} {xs2:List aA} {y2:Value} {g2 k2:Nat} (hD:lE D) (hX:mi D ys W) (hH:sV D xs1 xs2) (ne1:xs1≠[]) (h1:vG W y1 xs1 g1 k1) (ne2:xs2≠[]) (h2:vG W y2 xs2 g2 k2) (hne:g1≠g2):
  Calls Try.prog 21 #[y1,y2] W (lP W ((bL (bL [] (xs1.map (·.p))) (xs2.map (·.p))).filter (cF ys xs1 xs2))):=by
 have ho:∀ (j:Nat) (o':SO) (b' c':Nat),([SO.row (cI xs1) 41 (0,0) (some 3),SO.row (cI xs2) 41 (0,0) (some 3)]:List SO)[j]?=some o'→([(g1,k1),(g2,k2)]:List (Nat × Nat))[j]?=some (b',c')→∃ r,W.heap[b']?=some r∧OR (aE [(g1,k1),(g2,k2)]) j o' r:=by
  intro j o' b' c' q1 q2
  match j with
  | 0=>
   simp only [List.getElem?_cons_zero,Option.some.injEq] at q1 q2
   subst q1
   cases q2
   exact h1.or rfl
  | 1=>
   simp only [List.getElem?_cons_succ,List.getElem?_cons_zero,Option.some.injEq] at q1 q2
   subst q1
   cases q2
   exact h2.or rfl
  | j+2=>simp at q1
 refine aY (E:=ee D ys) rfl (d:=6) (l:=[(g1,k1),(g2,k2)]) (os:=[SO.row (cI xs1) 41 (0,0) (some 3),SO.row (cI xs2) 41 (0,0) (some 3)]) rfl (by simp) (by simpa using hne) ho rfl (args:=[.sl 0 0 xs1.length none,.sl 1 0 xs2.length none]) (a:=[y1,y2]) (S0:=Dd D ys (cI xs1) (cI xs2) xs1.length xs2.length) (by kernel_rfl) (ay.cons (h1.vr rfl) (ay.cons (h2.vr rfl) ay.nil)) fun cs0=>?_
 have hM:∀ z,¬ (aT [(g1,k1),(g2,k2)] (([SO.row (cI xs1) 41 (0,0) (some 3),SO.row (cI xs2) 41 (0,0) (some 3)]:List SO).map fun o=>(o,false))) z:=fun z=>a6 (os:=[SO.row (cI xs1) 41 (0,0) (some 3),SO.row (cI xs2) 41 (0,0) (some 3)])
 have hK0:=Kept.start (H0:=W.hp) (M:=aT [(g1,k1),(g2,k2)] (([SO.row (cI xs1) 41 (0,0) (some 3),SO.row (cI xs2) 41 (0,0) (some 3)]:List SO).map fun o=>(o,false))) (w:=W) (Hp.Sub.refl _) (fun z o _=>hM z) (dh (by
  intro j o' m b' c' q1 q2
  rw [List.getElem?_map] at q1
  obtain ⟨o2,q3,q4⟩:=Option.map_eq_some_iff.1 q1
  cases q4
  exact ho j o' b' c' q3 q2)) (fun _ h=>h)
 have hν:∀ i c,aE [(g1,k1),(g2,k2)] i=some c→i=0∨i=1:=fun i c h=>by
  match i with
  | 0=>exact .inl rfl
  | 1=>exact .inr rfl
  | i+2=>simp [aE] at h
 have K:aW (ee D ys) (aT [(g1,k1),(g2,k2)] (([SO.row (cI xs1) 41 (0,0) (some 3),SO.row (cI xs2) 41 (0,0) (some 3)]:List SO).map fun o=>(o,false))) W:=LZ hD hM hK0.base hX
 have nx:=Kk (cs0:=cs0) K hM hν hH ne1 ne2 
 refine af.reach K (k:=2) (n:=100) (o:=[(1000,.b true)]) (ren:=[(0,0),(1,1)]) (eqs:=[0,1]) (F:=tq xs1.length xs2.length aK 0) (d:=6) (l:=gq (cI xs1) (cI xs2) xs1.length xs2.length []) ?_ (by kernel_rfl) (fun i b h=>by rcases hν i b h with h | h <;> rw [h] <;> rfl) nx
 rw [Ly]
 simp only [ak,az,aK,and_self,and_true,true_and]
theorem HD {W:World} {D:List aA} {ys:Option Addr→Nat→List Int} {xs1:List aA} {y1:Value} {g1 k1:Nat} (hD:lE D) (hX:mi D ys W) (hH:sV D xs1 []) (ne1:xs1≠[]) (h1:vG W y1 xs1 g1 k1):
  Calls Try.prog 21 #[y1,(.slice none 0 0)] W (lP W ((bL (bL [] (xs1.map (·.p))) []).filter (cF ys xs1 []))):=by
 have ho:∀ (j:Nat) (o':SO) (b' c':Nat),([SO.row (cI xs1) 41 (0,0) (some 3)]:List SO)[j]?=some o'→([(g1,k1)]:List (Nat × Nat))[j]?=some (b',c')→∃ r,W.heap[b']?=some r∧OR (aE [(g1,k1)]) j o' r:=by
  intro j o' b' c' q1 q2
  match j with
  | 0=>
   simp only [List.getElem?_cons_zero,Option.some.injEq] at q1 q2
   subst q1
   cases q2
   exact h1.or rfl
  | j+1=>simp at q1
 refine aY (E:=ee D ys) rfl (d:=6) (l:=[(g1,k1)]) (os:=[SO.row (cI xs1) 41 (0,0) (some 3)]) rfl (by simp) (by simp) ho rfl (args:=[.sl 0 0 xs1.length none,.v (.slice none 0 0)]) (a:=[y1,(.slice none 0 0)]) (S0:=DZ D ys (cI xs1) [] xs1.length 0) (by kernel_rfl) (ay.cons (h1.vr rfl) (ay.cons (VR.ah.2 rfl) ay.nil)) fun cs0=>?_
 have hM:∀ z,¬ (aT [(g1,k1)] (([SO.row (cI xs1) 41 (0,0) (some 3)]:List SO).map fun o=>(o,false))) z:=fun z=>a6 (os:=[SO.row (cI xs1) 41 (0,0) (some 3)])
 have hK0:=Kept.start (H0:=W.hp) (M:=aT [(g1,k1)] (([SO.row (cI xs1) 41 (0,0) (some 3)]:List SO).map fun o=>(o,false))) (w:=W) (Hp.Sub.refl _) (fun z o _=>hM z) (dh (by
  intro j o' m b' c' q1 q2
  rw [List.getElem?_map] at q1
  obtain ⟨o2,q3,q4⟩:=Option.map_eq_some_iff.1 q1
  cases q4
  exact ho j o' b' c' q3 q2)) (fun _ h=>h)
 have hν:∀ i c,aE [(g1,k1)] i=some c→i=0:=fun i c h=>by
  match i with
  | 0=>rfl
  | i+1=>simp [aE] at h
 have K:aW (ee D ys) (aT [(g1,k1)] (([SO.row (cI xs1) 41 (0,0) (some 3)]:List SO).map fun o=>(o,false))) W:=LZ hD hM hK0.base hX
 have nx:=JR (cs0:=cs0) K hM hν hH ne1 
 refine af.reach K (k:=2) (n:=100) (o:=[(1000,.b true)]) (ren:=[(0,0)]) (eqs:=[0]) (F:=sZ xs1.length 0 aK 0) (d:=6) (l:=gy (cI xs1) [] xs1.length 0 []) ?_ (by kernel_rfl) (fun i b h=>by rw [hν i b h];rfl) nx
 rw [LM]
 simp only [ak,az,aK,and_self,and_true,true_and]
theorem Il {W:World} {D:List aA} {ys:Option Addr→Nat→List Int} {xs2:List aA} {y2:Value} {g2 k2:Nat} (hD:lE D) (hX:mi D ys W) (hH:sV D [] xs2) (ne2:xs2≠[]) (h2:vG W y2 xs2 g2 k2):
  Calls Try.prog 21 #[(.slice none 0 0),y2] W (lP W ((bL (bL [] []) (xs2.map (·.p))).filter (cF ys [] xs2))):=by
 have ho:∀ (j:Nat) (o':SO) (b' c':Nat),([SO.row (cI xs2) 41 (0,0) (some 3)]:List SO)[j]?=some o'→([(g2,k2)]:List (Nat × Nat))[j]?=some (b',c')→∃ r,W.heap[b']?=some r∧OR (aE [(g2,k2)]) j o' r:=by
  intro j o' b' c' q1 q2
  match j with
  | 0=>
   simp only [List.getElem?_cons_zero,Option.some.injEq] at q1 q2
   subst q1
   cases q2
   exact h2.or rfl
  | j+1=>simp at q1
 refine aY (E:=ee D ys) rfl (d:=6) (l:=[(g2,k2)]) (os:=[SO.row (cI xs2) 41 (0,0) (some 3)]) rfl (by simp) (by simp) ho rfl (args:=[.v (.slice none 0 0),.sl 0 0 xs2.length none]) (a:=[(.slice none 0 0),y2]) (S0:=EE D ys [] (cI xs2) 0 xs2.length) (by kernel_rfl) (ay.cons (VR.ah.2 rfl) (ay.cons (h2.vr rfl) ay.nil)) fun cs0=>?_
 have hM:∀ z,¬ (aT [(g2,k2)] (([SO.row (cI xs2) 41 (0,0) (some 3)]:List SO).map fun o=>(o,false))) z:=fun z=>a6 (os:=[SO.row (cI xs2) 41 (0,0) (some 3)])
 have hK0:=Kept.start (H0:=W.hp) (M:=aT [(g2,k2)] (([SO.row (cI xs2) 41 (0,0) (some 3)]:List SO).map fun o=>(o,false))) (w:=W) (Hp.Sub.refl _) (fun z o _=>hM z) (dh (by
  intro j o' m b' c' q1 q2
  rw [List.getElem?_map] at q1
  obtain ⟨o2,q3,q4⟩:=Option.map_eq_some_iff.1 q1
  cases q4
  exact ho j o' b' c' q3 q2)) (fun _ h=>h)
 have hν:∀ i c,aE [(g2,k2)] i=some c→i=0:=fun i c h=>by
  match i with
  | 0=>rfl
  | i+1=>simp [aE] at h
 have K:aW (ee D ys) (aT [(g2,k2)] (([SO.row (cI xs2) 41 (0,0) (some 3)]:List SO).map fun o=>(o,false))) W:=LZ hD hM hK0.base hX
 have nx:=LK (cs0:=cs0) K hM hν hH ne2 
 refine af.reach K (k:=2) (n:=100) (o:=[(1000,.b true)]) (ren:=[(0,0)]) (eqs:=[0]) (F:=DJ 0 xs2.length aK 0) (d:=6) (l:=gz [] (cI xs2) 0 xs2.length []) ?_ (by kernel_rfl) (fun i b h=>by rw [hν i b h];rfl) nx
 rw [Lf]
 simp only [ak,az,aK,and_self,and_true,true_and]
theorem HN {W:World} {D:List aA} {ys:Option Addr→Nat→List Int} (hD:lE D) (hX:mi D ys W) (hH:sV D [] []):
  Calls Try.prog 21 #[(.slice none 0 0),(.slice none 0 0)] W (lP W ((bL (bL [] []) []).filter (cF ys [] []))):=by
 have ho:∀ (j:Nat) (o':SO) (b' c':Nat),([]:List SO)[j]?=some o'→([]:List (Nat × Nat))[j]?=some (b',c')→∃ r,W.heap[b']?=some r∧OR (aE []) j o' r:=by
  intro j o' b' c' q1 q2
  match j with
  | j=>simp at q1
 refine aY (E:=ee D ys) rfl (d:=6) (l:=[]) (os:=[]) rfl (by simp) (by simp) ho rfl (args:=[.v (.slice none 0 0),.v (.slice none 0 0)]) (a:=[(.slice none 0 0),(.slice none 0 0)]) (S0:=EU D ys [] [] 0 0) (by kernel_rfl) (ay.cons (VR.ah.2 rfl) (ay.cons (VR.ah.2 rfl) ay.nil)) fun cs0=>?_
 have hM:∀ z,¬ (aT [] (([]:List SO).map fun o=>(o,false))) z:=fun z=>a6 (os:=[])
 have hK0:=Kept.start (H0:=W.hp) (M:=aT [] (([]:List SO).map fun o=>(o,false))) (w:=W) (Hp.Sub.refl _) (fun z o _=>hM z) (dh (by
  intro j o' m b' c' q1 q2
  rw [List.getElem?_map] at q1
  obtain ⟨o2,q3,q4⟩:=Option.map_eq_some_iff.1 q1
  cases q4
  exact ho j o' b' c' q3 q2)) (fun _ h=>h)
 have hν:∀ i c,aE [] i=some c→False:=fun i c h=>by
  match i with
  | i=>simp [aE] at h
 have K:aW (ee D ys) (aT [] (([]:List SO).map fun o=>(o,false))) W:=LZ hD hM hK0.base hX
 have nx:=Jo (cs0:=cs0) K hM hν hH 
 refine af.reach K (k:=2) (n:=100) (o:=[(1000,.b true)]) (ren:=[]) (eqs:=[]) (F:=Dq 0 0 aK 0) (d:=6) (l:=o6 [] [] 0 0 []) ?_ (by kernel_rfl) (fun i b h=>(hν i b h).elim) nx
 rw [Ke]
 simp only [ak,az,aK,and_self,and_true,true_and]
theorem uN {D:List aA} (hD:lE D) {ys:Option Addr→Nat→List Int} {xs1 xs2:List aA} (h1:∀ e∈xs1,e∈D) (h2:∀ e∈xs2,e∈D) (hz:∀ x∈D,x.a=none→ys x.a x.l=[]):cF ys xs1 xs2=pd (aF (yI ys) xs1) (aF (yI ys) xs2):=by
 have key:∀ {xs:List aA} (_:∀ e∈xs,e∈D) (q:ByteArray),(aj q xs).k=(aF (yI ys) xs q).1∧gD ys (aj q xs).a (aj q xs).l=(aF (yI ys) xs q).2:=fun {xs} h q=>by
  unfold aj aF
  cases hf:xs.find? (oR q) with
  | none=>exact ⟨rfl,rfl⟩
  | some e=>
   refine ⟨rfl,?_⟩
   show gD ys e.a e.l=ys e.a e.l
   unfold gD
   cases ha:e.a with
   | none=>
    have:=hz e (h e (List.mem_of_find?_eq_some hf)) ha
    rw [ha] at this
    exact this.symm
   | some b=>rfl
 funext q
 unfold cF pd hJ
 rw [(key h1 q).1,(key h1 q).2,(key h2 q).1,(key h2 q).2]
end rd
end paths
end Go.Proofs.Ytbjmmnegkpeboaa
set_option linter.unusedSimpArgs false
set_option linter.unusedVariables false
set_option maxRecDepth 100000
namespace Go.Proofs.Ytbjmmnegkpeboaa
open Go Go.Rx Go.RowKit Go.Proofs
namespace paths
namespace rs
noncomputable def ub (y1 y2:Value) (l:List SV) (off n c:Nat):SM:=(bC aL 10 [.v y1,.v y2,.sl 0 off n (some c)] (bO 6 1 0 [cD l])).getD dC
noncomputable def tx (y1 y2:Value) (a:Option Addr) (c:Nat):SM:=(bC aL 10 [.v y1,.v y2,.v (.slice a 0 c)] (bO 6 0 0 [])).getD dC
noncomputable def NH (y1 y2:Value) (l:List SV) (off n c:Nat) (q:List ByteArray) (k:Nat):SM:=kI aL 21 100 (ub y1 y2 l off n c) oT (wv k) (wq q)
noncomputable def N6 (y1 y2:Value) (a:Option Addr) (c:Nat) (q:List ByteArray) (k:Nat):SM:=kI aL 21 100 (tx y1 y2 a c) oT (wv k) (wq q)
noncomputable def N4:List SI:=dn aL 2 100 (NH (.bool true) (.bool true) [] 0 0 0 [] 0) [(1000,.b true)]
noncomputable def BY (off n c m:Nat) (x:SV) (i:Int):SF:={ fn:=10,tm:=eO 63 6 ([.aJ,.aJ,.sl 0 off n (some c),.aJ,.aJ,.aJ,.aJ,x,.sl 1 0 m none,.v (.int .i64 i)]++List.replicate 53 .aJ),todo:=N4,defers:=[],ret:=false,kind:=.normal,ro:=none }
noncomputable def FF (a:Option Addr) (c m:Nat) (x:SV) (i:Int):SF:={ fn:=10,tm:=eO 63 6 ([.aJ,.aJ,.v (.slice a 0 c),.aJ,.aJ,.aJ,.aJ,x,.sl 0 0 m none,.v (.int .i64 i)]++List.replicate 53 .aJ),todo:=N4,defers:=[],ret:=false,kind:=.normal,ro:=none }
def tg (l:List SV) (q:List SV):List (Option (SO × Bool)):=[cD l,e6 q]
def uz (l:List SV) (q o:List SV):List (Option (SO × Bool)):=[cD l,e6 q,e6 o]
def rc (k:Nat):SV:=.sl 2 0 k none
noncomputable def Q3:List SI:=dn aL 7 100 (SM.at (BY 0 0 0 0 aK 0) 6 (tg [] [])) (ff [0] true)
noncomputable def jS (off n c m:Nat) (x:SV) (i:Int) (b:Bool) (k:Int):SF:={ fn:=10,tm:=eO 63 6 ([.aJ,.aJ,.sl 0 off n (some c),.aJ,.aJ,.aJ,.aJ,x,.sl 1 0 m none,.v (.int .i64 i),.v (.bool b),.v (.int .i64 k)]++List.replicate 51 .aJ),todo:=Q3,defers:=[],ret:=false,kind:=.normal,ro:=none }
theorem NX (y1 y2:Value) (l:List SV) (off n c m:Nat) (qq:List ByteArray):bI aL 21 100 (ub y1 y2 l off n c) oT=[]:=by kernel_rfl
theorem Qp (y1 y2:Value) (l:List SV) (off n c m:Nat) (qq:List ByteArray):sr aL 21 100 (ub y1 y2 l off n c) oT (wv m) (wq qq)=[]:=by kernel_rfl
theorem Pp (y1 y2:Value) (l:List SV) (off n c m:Nat) (qq:List ByteArray):reach aL 2 100 (NH y1 y2 l off n c qq m) [(1000,.b true)] [(0,0),(1,1)] [0,1] (BY off n c m aK 0) 6 (tg l (strs qq))=[off=off∧n=n∧some c=some c,Value.slice none 0 0=Value.slice none 0 0,0=0∧m=m∧nZ=none,vZ 0=vZ 0,l=l,l.all ab=true,strs qq=strs qq,(strs qq).all ab=true]:=by kernel_rfl
theorem Pe (y1 y2:Value) (l:List SV) (off n c m:Nat) (qq:List ByteArray):bE aL 21 100 (ub y1 y2 l off n c) oT (.v (.slice none 0 0))=[]:=by kernel_rfl
theorem RB (y1 y2:Value) (l:List SV) (off n c m:Nat) (qq:List ByteArray) (v:Value):ax aL 10 100 (bq aL 21 100 (ub y1 y2 l off n c) oT (.v (.slice none 0 0))) (ff [0,1,2,3] false++[(1000,.b true)]) v=[Value.slice none 0 0=v,false=false]:=by kernel_rfl
theorem NZ (y1 y2:Value) (a:Option Addr) (c m:Nat) (qq:List ByteArray):bI aL 21 100 (tx y1 y2 a c) oT=[]:=by kernel_rfl
theorem QE (y1 y2:Value) (a:Option Addr) (c m:Nat) (qq:List ByteArray):sr aL 21 100 (tx y1 y2 a c) oT (wv m) (wq qq)=[]:=by kernel_rfl
theorem Ro (y1 y2:Value) (a:Option Addr) (c m:Nat) (qq:List ByteArray):reach aL 2 100 (N6 y1 y2 a c qq m) [(1000,.b true)] [(0,0)] [0] (FF a c m aK 0) 6 [e6 (strs qq)]=[Value.slice a 0 c=Value.slice a 0 c,Value.slice none 0 0=Value.slice none 0 0,0=0∧m=m∧nZ=none,vZ 0=vZ 0,strs qq=strs qq,(strs qq).all ab=true]:=by kernel_rfl
theorem RO (y1 y2:Value) (a:Option Addr) (c m:Nat) (qq:List ByteArray):bE aL 21 100 (tx y1 y2 a c) oT (.v (.slice none 0 0))=[]:=by kernel_rfl
theorem Pw (y1 y2:Value) (a:Option Addr) (c m:Nat) (qq:List ByteArray) (v:Value):ax aL 10 100 (bq aL 21 100 (tx y1 y2 a c) oT (.v (.slice none 0 0))) (ff [0,1,2,3] false++[(1000,.b true)]) v=[Value.slice none 0 0=v,false=false]:=by kernel_rfl
theorem Np (l q o:List SV) (off n c m r:Nat) (i k k':Int) (b b':Bool) (s t:ByteArray) (w:Int):reach aL 7 200 (SM.at (jS off n c m aK i b k) 6 (tg l q)) ([(2,.cells [.v (.string s)]),(4,.cells [.v (.string t)]),(11,.cells [.v (.int .i64 w)]),(20,.cells [.v (.int .i64 w)])]++ff (List.range 60) true) [(0,0),(1,1)] [0,1] (jS off n c m aK i b' k') 6 (tg l q)=[off=off∧n=n∧some c=some c,Value.slice none 0 0=Value.slice none 0 0,0=0∧m=m∧nZ=none,vZ i=vZ i,Value.bool true=Value.bool b',vZ (IntKind.i64.wrap (k+1))=vZ k',l=l,l.all ab=true,q=q,q.all ab=true,decide (w≤6)=true,decide (w≥4)=true,decide (w≥4)=true,l[off+k.toNat*3+1]?=some (SV.v (vZ w)),decide (w≥4)=true,decide (w≥4)=true,ao k n=true,decide (w≥4)=true,decide (w≥4)=true,decide (w≥4)=true,(s.toList==t.toList)=true,(s.toList==t.toList)=true,l[off+k.toNat*3+1]?=some (SV.v (vZ w)),(s.toList==t.toList)=true,(s.toList==t.toList)=true,ao k n=true,(s.toList==t.toList)=true,(s.toList==t.toList)=true,(s.toList==t.toList)=true,q[0+i.toNat*1]?=some (SV.v (Value.string t)),ao i m=true,l[off+k.toNat*3+0]?=some (SV.v (Value.string s)),ao k n=true,decide (k<(↑n:Int))=true]:=by kernel_rfl
theorem Nh (l q o:List SV) (off n c m r:Nat) (i k k':Int) (b b':Bool) (s t:ByteArray) (w:Int):reach aL 7 200 (SM.at (jS off n c m aK i b k) 6 (tg l q)) ([(2,.cells [.v (.string s)]),(4,.cells [.v (.string t)])]++ff [0,1,3] true++ff (List.range 60) false) [(0,0),(1,1)] [0,1] (jS off n c m aK i b' k') 6 (tg l q)=[off=off∧n=n∧some c=some c,Value.slice none 0 0=Value.slice none 0 0,0=0∧m=m∧nZ=none,vZ i=vZ i,Value.bool b=Value.bool b',vZ (IntKind.i64.wrap (k+1))=vZ k',l=l,l.all ab=true,q=q,q.all ab=true,false=false,false=false,false=false,false=false,false=false,false=false,false=false,false=false,(s.toList==t.toList)=false,(s.toList==t.toList)=false,(s.toList==t.toList)=false,(s.toList==t.toList)=false,(s.toList==t.toList)=false,(s.toList==t.toList)=false,(s.toList==t.toList)=false,q[0+i.toNat*1]?=some (SV.v (Value.string t)),ao i m=true,l[off+k.toNat*3+0]?=some (SV.v (Value.string s)),ao k n=true,decide (k<(↑n:Int))=true]:=by kernel_rfl
theorem Mz (l q o:List SV) (off n c m r:Nat) (i k k':Int) (b b':Bool) (s t:ByteArray) (w:Int):reach aL 7 200 (SM.at (jS off n c m aK i b k) 6 (tg l q)) ([(2,.cells [.v (.string s)]),(4,.cells [.v (.string t)]),(11,.cells [.v (.int .i64 w)])]++ff (List.range 14) true++ff (List.range 60) false) [(0,0),(1,1)] [0,1] (jS off n c m aK i b' k') 6 (tg l q)=[off=off∧n=n∧some c=some c,Value.slice none 0 0=Value.slice none 0 0,0=0∧m=m∧nZ=none,vZ i=vZ i,Value.bool b=Value.bool b',vZ (IntKind.i64.wrap (k+1))=vZ k',l=l,l.all ab=true,q=q,q.all ab=true,false=false,decide (w≥4)=false,decide (w≥4)=false,decide (w≥4)=false,decide (w≥4)=false,decide (w≥4)=false,decide (w≥4)=false,decide (w≥4)=false,(s.toList==t.toList)=true,(s.toList==t.toList)=true,l[off+k.toNat*3+1]?=some (SV.v (vZ w)),(s.toList==t.toList)=true,(s.toList==t.toList)=true,ao k n=true,(s.toList==t.toList)=true,(s.toList==t.toList)=true,(s.toList==t.toList)=true,q[0+i.toNat*1]?=some (SV.v (Value.string t)),ao i m=true,l[off+k.toNat*3+0]?=some (SV.v (Value.string s)),ao k n=true,decide (k<(↑n:Int))=true]:=by kernel_rfl
theorem Nn (l q o:List SV) (off n c m r:Nat) (i k k':Int) (b b':Bool) (s t:ByteArray) (w:Int):reach aL 7 200 (SM.at (jS off n c m aK i b k) 6 (tg l q)) ([(2,.cells [.v (.string s)]),(4,.cells [.v (.string t)]),(11,.cells [.v (.int .i64 w)]),(20,.cells [.v (.int .i64 w)])]++ff (List.range 23) true++ff (List.range 60) false) [(0,0),(1,1)] [0,1] (jS off n c m aK i b' k') 6 (tg l q)=[off=off∧n=n∧some c=some c,Value.slice none 0 0=Value.slice none 0 0,0=0∧m=m∧nZ=none,vZ i=vZ i,Value.bool b=Value.bool b',vZ (IntKind.i64.wrap (k+1))=vZ k',l=l,l.all ab=true,q=q,q.all ab=true,decide (w≤6)=false,decide (w≥4)=true,decide (w≥4)=true,l[off+k.toNat*3+1]?=some (SV.v (vZ w)),decide (w≥4)=true,decide (w≥4)=true,ao k n=true,decide (w≥4)=true,decide (w≥4)=true,decide (w≥4)=true,(s.toList==t.toList)=true,(s.toList==t.toList)=true,l[off+k.toNat*3+1]?=some (SV.v (vZ w)),(s.toList==t.toList)=true,(s.toList==t.toList)=true,ao k n=true,(s.toList==t.toList)=true,(s.toList==t.toList)=true,(s.toList==t.toList)=true,q[0+i.toNat*1]?=some (SV.v (Value.string t)),ao i m=true,l[off+k.toNat*3+0]?=some (SV.v (Value.string s)),ao k n=true,decide (k<(↑n:Int))=true]:=by kernel_rfl
theorem Ms (l q o:List SV) (off n c m r:Nat) (i k k':Int) (b b':Bool) (s t:ByteArray) (w:Int):reach aL 7 200 (SM.at (jS off n c m (rc r) i b k) 6 (uz l q o)) ([(2,.cells [.v (.string s)]),(4,.cells [.v (.string t)]),(11,.cells [.v (.int .i64 w)]),(20,.cells [.v (.int .i64 w)])]++ff (List.range 60) true) [(0,0),(1,1),(2,2)] [0,1,2] (jS off n c m (rc r) i b' k') 6 (uz l q o)=[off=off∧n=n∧some c=some c,0=0∧r=r∧nZ=none,0=0∧m=m∧nZ=none,vZ i=vZ i,Value.bool true=Value.bool b',vZ (IntKind.i64.wrap (k+1))=vZ k',l=l,l.all ab=true,q=q,q.all ab=true,o=o,o.all ab=true,decide (w≤6)=true,decide (w≥4)=true,decide (w≥4)=true,l[off+k.toNat*3+1]?=some (SV.v (vZ w)),decide (w≥4)=true,decide (w≥4)=true,ao k n=true,decide (w≥4)=true,decide (w≥4)=true,decide (w≥4)=true,(s.toList==t.toList)=true,(s.toList==t.toList)=true,l[off+k.toNat*3+1]?=some (SV.v (vZ w)),(s.toList==t.toList)=true,(s.toList==t.toList)=true,ao k n=true,(s.toList==t.toList)=true,(s.toList==t.toList)=true,(s.toList==t.toList)=true,q[0+i.toNat*1]?=some (SV.v (Value.string t)),ao i m=true,l[off+k.toNat*3+0]?=some (SV.v (Value.string s)),ao k n=true,decide (k<(↑n:Int))=true]:=by kernel_rfl
theorem Nl (l q o:List SV) (off n c m r:Nat) (i k k':Int) (b b':Bool) (s t:ByteArray) (w:Int):reach aL 7 200 (SM.at (jS off n c m (rc r) i b k) 6 (uz l q o)) ([(2,.cells [.v (.string s)]),(4,.cells [.v (.string t)])]++ff [0,1,3] true++ff (List.range 60) false) [(0,0),(1,1),(2,2)] [0,1,2] (jS off n c m (rc r) i b' k') 6 (uz l q o)=[off=off∧n=n∧some c=some c,0=0∧r=r∧nZ=none,0=0∧m=m∧nZ=none,vZ i=vZ i,Value.bool b=Value.bool b',vZ (IntKind.i64.wrap (k+1))=vZ k',l=l,l.all ab=true,q=q,q.all ab=true,o=o,o.all ab=true,false=false,false=false,false=false,false=false,false=false,false=false,false=false,false=false,(s.toList==t.toList)=false,(s.toList==t.toList)=false,(s.toList==t.toList)=false,(s.toList==t.toList)=false,(s.toList==t.toList)=false,(s.toList==t.toList)=false,(s.toList==t.toList)=false,q[0+i.toNat*1]?=some (SV.v (Value.string t)),ao i m=true,l[off+k.toNat*3+0]?=some (SV.v (Value.string s)),ao k n=true,decide (k<(↑n:Int))=true]:=by kernel_rfl
theorem Ny (l q o:List SV) (off n c m r:Nat) (i k k':Int) (b b':Bool) (s t:ByteArray) (w:Int):reach aL 7 200 (SM.at (jS off n c m (rc r) i b k) 6 (uz l q o)) ([(2,.cells [.v (.string s)]),(4,.cells [.v (.string t)]),(11,.cells [.v (.int .i64 w)])]++ff (List.range 14) true++ff (List.range 60) false) [(0,0),(1,1),(2,2)] [0,1,2] (jS off n c m (rc r) i b' k') 6 (uz l q o)=[off=off∧n=n∧some c=some c,0=0∧r=r∧nZ=none,0=0∧m=m∧nZ=none,vZ i=vZ i,Value.bool b=Value.bool b',vZ (IntKind.i64.wrap (k+1))=vZ k',l=l,l.all ab=true,q=q,q.all ab=true,o=o,o.all ab=true,false=false,decide (w≥4)=false,decide (w≥4)=false,decide (w≥4)=false,decide (w≥4)=false,decide (w≥4)=false,decide (w≥4)=false,decide (w≥4)=false,(s.toList==t.toList)=true,(s.toList==t.toList)=true,l[off+k.toNat*3+1]?=some (SV.v (vZ w)),(s.toList==t.toList)=true,(s.toList==t.toList)=true,ao k n=true,(s.toList==t.toList)=true,(s.toList==t.toList)=true,(s.toList==t.toList)=true,q[0+i.toNat*1]?=some (SV.v (Value.string t)),ao i m=true,l[off+k.toNat*3+0]?=some (SV.v (Value.string s)),ao k n=true,decide (k<(↑n:Int))=true]:=by kernel_rfl
theorem NG (l q o:List SV) (off n c m r:Nat) (i k k':Int) (b b':Bool) (s t:ByteArray) (w:Int):reach aL 7 200 (SM.at (jS off n c m (rc r) i b k) 6 (uz l q o)) ([(2,.cells [.v (.string s)]),(4,.cells [.v (.string t)]),(11,.cells [.v (.int .i64 w)]),(20,.cells [.v (.int .i64 w)])]++ff (List.range 23) true++ff (List.range 60) false) [(0,0),(1,1),(2,2)] [0,1,2] (jS off n c m (rc r) i b' k') 6 (uz l q o)=[off=off∧n=n∧some c=some c,0=0∧r=r∧nZ=none,0=0∧m=m∧nZ=none,vZ i=vZ i,Value.bool b=Value.bool b',vZ (IntKind.i64.wrap (k+1))=vZ k',l=l,l.all ab=true,q=q,q.all ab=true,o=o,o.all ab=true,decide (w≤6)=false,decide (w≥4)=true,decide (w≥4)=true,l[off+k.toNat*3+1]?=some (SV.v (vZ w)),decide (w≥4)=true,decide (w≥4)=true,ao k n=true,decide (w≥4)=true,decide (w≥4)=true,decide (w≥4)=true,(s.toList==t.toList)=true,(s.toList==t.toList)=true,l[off+k.toNat*3+1]?=some (SV.v (vZ w)),(s.toList==t.toList)=true,(s.toList==t.toList)=true,ao k n=true,(s.toList==t.toList)=true,(s.toList==t.toList)=true,(s.toList==t.toList)=true,q[0+i.toNat*1]?=some (SV.v (Value.string t)),ao i m=true,l[off+k.toNat*3+0]?=some (SV.v (Value.string s)),ao k n=true,decide (k<(↑n:Int))=true]:=by kernel_rfl
theorem OP (l q o o' w:List SV) (off n c m r:Nat) (i i' k:Int) (t:ByteArray):reach aL 7 200 (SM.at (BY off n c m aK i) 6 (tg l q)) (ff [0] true) [(0,0),(1,1)] [0,1] (jS off n c m aK i false 0) 6 (tg l q)=[off=off∧n=n∧some c=some c,Value.slice none 0 0=Value.slice none 0 0,0=0∧m=m∧nZ=none,vZ i=vZ i,Value.bool false=Value.bool false,vZ 0=vZ 0,l=l,l.all ab=true,q=q,q.all ab=true,decide (i<(↑m:Int))=true]:=by kernel_rfl
theorem OS (l q o o' w:List SV) (off n c m r:Nat) (i i' k:Int) (t:ByteArray):reach aL 2 200 (SM.at (jS off n c m aK i true k) 6 (tg l q)) (ff [0,1] false++ff (List.range 60) true) [(0,0),(1,1)] [0,1] (BY off n c m aK i') 6 (tg l q)=[off=off∧n=n∧some c=some c,Value.slice none 0 0=Value.slice none 0 0,0=0∧m=m∧nZ=none,vZ (IntKind.i64.wrap (i+1))=vZ i',l=l,l.all ab=true,q=q,q.all ab=true,false=false,decide (k<(↑n:Int))=false]:=by kernel_rfl
theorem Pd (l q o o' w:List SV) (off n c m r:Nat) (i i' k:Int) (t:ByteArray):reach aL 7 200 (SM.at (BY off n c m (rc r) i) 6 (uz l q o)) (ff [0] true) [(0,0),(1,1),(2,2)] [0,1,2] (jS off n c m (rc r) i false 0) 6 (uz l q o)=[off=off∧n=n∧some c=some c,0=0∧r=r∧nZ=none,0=0∧m=m∧nZ=none,vZ i=vZ i,Value.bool false=Value.bool false,vZ 0=vZ 0,l=l,l.all ab=true,q=q,q.all ab=true,o=o,o.all ab=true,decide (i<(↑m:Int))=true]:=by kernel_rfl
theorem P6 (l q o o' w:List SV) (off n c m r:Nat) (i i' k:Int) (t:ByteArray):reach aL 2 200 (SM.at (jS off n c m (rc r) i true k) 6 (uz l q o)) (ff [0,1] false++ff (List.range 60) true) [(0,0),(1,1),(2,2)] [0,1,2] (BY off n c m (rc r) i') 6 (uz l q o)=[off=off∧n=n∧some c=some c,0=0∧r=r∧nZ=none,0=0∧m=m∧nZ=none,vZ (IntKind.i64.wrap (i+1))=vZ i',l=l,l.all ab=true,q=q,q.all ab=true,o=o,o.all ab=true,false=false,decide (k<(↑n:Int))=false]:=by kernel_rfl
theorem PG (l q o o' w:List SV) (off n c m r:Nat) (i i' k:Int) (t:ByteArray):reach aL 2 200 (SM.at (jS off n c m aK i false k) 6 (tg l q)) ([(3,.cells [.v (.string t)]),(4,.b false)]++ff [0] false++ff (List.range 60) true) [(0,0),(1,1),(2,3)] [0,1,2] (BY off n c m (rc 1) i') 6 (uz l q o')=[off=off∧n=n∧some c=some c,0=0∧1=1∧nZ=none,0=0∧m=m∧nZ=none,vZ (IntKind.i64.wrap (i+1))=vZ i',l=l,l.all ab=true,q=q,q.all ab=true,[]++List.take 1 (List.drop 0 (aX (List.replicate 1 (List.map SV.v [Value.string ⟨⟨[]⟩⟩])).flatten 0 [SV.v (Value.string t)]))=o',o'.all ab=true,false=false,q[0+i.toNat*1]?=some (SV.v (Value.string t)),ao i m=true,true=true,decide (k<(↑n:Int))=false]:=by kernel_rfl
theorem Qa (l q o o' w:List SV) (off n c m r:Nat) (i i' k:Int) (t:ByteArray):reach aL 2 200 (SM.at (jS off n c m (rc r) i false k) 6 (uz l q o)) ([(3,.cells [.v (.string t)]),(4,.app o w)]++ff [0] false++ff (List.range 60) true) [(0,0),(1,1),(2,4)] [0,1,2] (BY off n c m (rc (r+1)) i') 6 (uz l q o')=[off=off∧n=n∧some c=some c,0=0∧r+1=r+1∧nZ=none,0=0∧m=m∧nZ=none,vZ (IntKind.i64.wrap (i+1))=vZ i',l=l,l.all ab=true,q=q,q.all ab=true,o++w=o',o'.all ab=true,((List.take 1 (List.drop 0 (aX (List.replicate 1 (List.map SV.v [Value.string ⟨⟨[]⟩⟩])).flatten 0 [SV.v (Value.string t)]))=w∧w.length=1*1)∧1≠0∧(2*(r+1)+1024)*16≤140737488355328)∧List.take (r*1) o=o∧o.length=r*1∧w.all SV.flat=true,q[0+i.toNat*1]?=some (SV.v (Value.string t)),ao i m=true,true=true,decide (k<(↑n:Int))=false]:=by kernel_rfl
theorem zA (l q o o' w:List SV) (off n c m r:Nat) (i i' k:Int) (t:ByteArray) (v:Value):ax aL 10 60 (SM.at (BY off n c m aK i) 6 (tg l q)) (ff [0] false) v=[Value.slice none 0 0=v,decide (i<(↑m:Int))=false]:=by kernel_rfl
theorem zB (l q o o' w:List SV) (off n c m r:Nat) (i i' k:Int) (t:ByteArray):bR aL 10 60 (SM.at (BY off n c m (rc r) i) 6 (uz l q o)) (ff [0] false) (rc r) 2 (.row o 9 (0,0) (some 1))=[0=0∧r=r∧nZ=none,o=o,o.all ab=true,decide (i<(↑m:Int))=false]:=by kernel_rfl
theorem yA (q o o' w:List SV) (a:Option Addr) (c m r:Nat) (i i':Int) (t:ByteArray):reach aL 2 200 (SM.at (FF a c m aK i) 6 [e6 q]) ([(4,.cells [.v (.string t)]),(5,.b false)]++ff [0] true++ff [1] false++ff (List.range 60) true) [(0,0),(1,2)] [0,1] (FF a c m (.sl 1 0 1 none) i') 6 [e6 q,e6 o']=[Value.slice a 0 c=Value.slice a 0 c,0=0∧1=1∧nZ=none,0=0∧m=m∧nZ=none,vZ (IntKind.i64.wrap (i+1))=vZ i',q=q,q.all ab=true,[]++List.take 1 (List.drop 0 (aX (List.replicate 1 (List.map SV.v [Value.string ⟨⟨[]⟩⟩])).flatten 0 [SV.v (Value.string t)]))=o',o'.all ab=true,false=false,q[0+i.toNat*1]?=some (SV.v (Value.string t)),ao i m=true,true=true,false=false,decide (i<(↑m:Int))=true]:=by kernel_rfl
theorem yB (q o o' w:List SV) (a:Option Addr) (c m r:Nat) (i i':Int) (t:ByteArray):reach aL 2 200 (SM.at (FF a c m (.sl 1 0 r none) i) 6 [e6 q,e6 o]) ([(4,.cells [.v (.string t)]),(5,.app o w)]++ff [0] true++ff [1] false++ff (List.range 60) true) [(0,0),(1,3)] [0,1] (FF a c m (.sl 1 0 (r+1) none) i') 6 [e6 q,e6 o']=[Value.slice a 0 c=Value.slice a 0 c,0=0∧r+1=r+1∧nZ=none,0=0∧m=m∧nZ=none,vZ (IntKind.i64.wrap (i+1))=vZ i',q=q,q.all ab=true,o++w=o',o'.all ab=true,((List.take 1 (List.drop 0 (aX (List.replicate 1 (List.map SV.v [Value.string ⟨⟨[]⟩⟩])).flatten 0 [SV.v (Value.string t)]))=w∧w.length=1*1)∧1≠0∧(2*(r+1)+1024)*16≤140737488355328)∧List.take (r*1) o=o∧o.length=r*1∧w.all SV.flat=true,q[0+i.toNat*1]?=some (SV.v (Value.string t)),ao i m=true,true=true,false=false,decide (i<(↑m:Int))=true]:=by kernel_rfl
theorem Qt (q o o' w:List SV) (a:Option Addr) (c m r:Nat) (i i':Int) (t:ByteArray):bR aL 10 60 (SM.at (FF a c m (.sl 1 0 r none) i) 6 [e6 q,e6 o]) (ff [0] false) (.sl 1 0 r none) 1 (.row o 9 (0,0) (some 1))=[0=0∧r=r∧nZ=none,o=o,o.all ab=true,decide (i<(↑m:Int))=false]:=by kernel_rfl
theorem qb {α:Type} {g:α→List SV} {m off:Nat} (hg:∀ x,(g x).length=m) {xs:List α} {k j:Nat} {x:α} (h:xs[k]?=some x) (hj:j<m):(ar g off xs)[off+k*m+j]?=(g x)[j]?:=by
 have h1:=fM (off:=off) hg h
 rw [← h1,List.getElem?_take,if_pos hj,List.getElem?_drop]
theorem L6 {off:Nat} {D:List bU} {k:Nat} {x:bU} (h:D[k]?=some x):(ar oC off D)[off+(k:Int).toNat*3+0]?=some (.v (.string x.p)):=by
 rw [Int.toNat_natCast,qb c8 h (by decide)];rfl
theorem L4 {off:Nat} {D:List bU} {k:Nat} {x:bU} (h:D[k]?=some x):(ar oC off D)[off+(k:Int).toNat*3+1]?=some (.v (.int .i64 x.k)):=by
 rw [Int.toNat_natCast,qb c8 h (by decide)];rfl
theorem iE {L:List ByteArray} {i:Nat} {q:ByteArray} (h:L[i]?=some q):(strs L)[0+(i:Int).toNat*1]?=some (.v (.string q)):=by
 rw [Int.toNat_natCast,Nat.zero_add,Nat.mul_one]
 unfold strs
 rw [List.getElem?_map,List.getElem?_map,h];rfl
theorem xJ {t:ByteArray} {x:bU} (h:(x.p.toList==t.toList)=true) (h1:x.k≥4) (h2:x.k≤6):cL t x=true:=by
 unfold cL
 rw [h,Bool.true_and]
 have:x.k=4∨x.k=5∨x.k=6:=by omega
 rcases this with h | h | h <;> rw [h] <;> rfl
theorem yf {t:ByteArray} {x:bU} (h:(x.p.toList==t.toList)=false):cL t x=false:=by unfold cL;rw [h];rfl
theorem nH {t:ByteArray} {x:bU} (h:¬ (x.k≥4∧x.k≤6)):cL t x=false:=by
 unfold cL
 rw [show (x.k==4)=false from by simp;omega,show (x.k==5)=false from by simp;omega,show (x.k==6)=false from by simp;omega]
 simp
theorem xD {t:ByteArray} {D:List bU} {k:Nat} (h:k<D.length):(D.take (k+1)).any (cL t)=((D.take k).any (cL t)||cL t D[k]):=by
 rw [List.take_succ_eq_append_getElem h,List.any_append];simp
section
variable {W:World} {cs0:List Frame} {M:Own} {ν:aU} {D:List bU} {off c:Nat} {L:List ByteArray}
theorem NU {R:Ending→World→Prop} {i:Nat} {t:ByteArray} (hi:L[i]?=some t) (few:D.length≤1000) (hν:∀ i b,ν i=some b→i=0) {M1:Own} {w1:World} (nx:af aL M1 w1 cs0 10 R ν (SM.at (jS off D.length c L.length aK (i:Int) (D.any (cL t)) (D.length:Int)) 6 (tg (ar oC off D) (strs L)))):∀ (j k:Nat),k+j=D.length→af aL M1 w1 cs0 10 R ν (SM.at (jS off D.length c L.length aK (i:Int) ((D.take k).any (cL t)) (k:Int)) 6 (tg (ar oC off D) (strs L)))
 | 0,k,hk=>by
  have:k=D.length:=by omega
  subst this
  rw [List.take_length];exact nx
 | j+1,k,hk=>by
  have hkl:k<D.length:=by omega
  have ih:=NU hi few hν nx j (k+1) (by omega)
  have hx:D[k]?=some D[k]:=List.getElem?_eq_getElem hkl
  rw [xD hkl] at ih
  have hil:i<L.length:=(List.getElem?_eq_some_iff.1 hi).1
  generalize D[k]=x at hx ih
  have t1:decide ((k:Int)<(D.length:Int))=true:=decide_eq_true (by omega)
  have r1:=aO hkl
  have ri:=aO hil
  have rp:=L6 (off:=off) hx
  have rk':=L4 (off:=off) hx
  have rq:=iE hi
  have ws:=aM (k:=k) (by omega)
  have hcl:(ar oC off D).all ab=true:=bw dK
  cases hp:(x.p.toList==t.toList)
  ·rw [yf hp,Bool.or_false] at ih
   refine af.reach de (k:=7) (n:=200) (o:=[(2,.cells [.v (.string x.p)]),(4,.cells [.v (.string t)])]++ff [0,1,3] true++ff (List.range 60) false) (ren:=[(0,0),(1,1)]) (eqs:=[0,1]) ?_ (by kernel_rfl) (fun i b h=>by rw [hν i b h];rfl) ih
   rw [Nh (ar oC off D) (strs L) [] off D.length c L.length 0 (i:Int) (k:Int) ((k+1:Nat):Int) ((D.take k).any (cL t)) ((D.take k).any (cL t)) x.p t x.k]
   simp only [ak,t1,r1,ri,rp,rk',hp, rq,ws,hcl,au,and_self,and_true,true_and]
   try (repeat' apply And.intro)
   all_goals first | rfl | omega | assumption | skip
  ·by_cases h4:x.k≥4
   ·have d4:decide (x.k≥(4:Int))=true:=decide_eq_true h4
    by_cases h6:x.k≤6
    ·have d6:decide (x.k≤(6:Int))=true:=decide_eq_true h6
     rw [xJ hp h4 h6,Bool.or_true] at ih
     refine af.reach de (k:=7) (n:=200) (o:=[(2,.cells [.v (.string x.p)]),(4,.cells [.v (.string t)]),(11,.cells [.v (.int .i64 x.k)]),(20,.cells [.v (.int .i64 x.k)])]++ff (List.range 60) true) (ren:=[(0,0),(1,1)]) (eqs:=[0,1]) ?_ (by kernel_rfl) (fun i b h=>by rw [hν i b h];rfl) ih
     rw [Np (ar oC off D) (strs L) [] off D.length c L.length 0 (i:Int) (k:Int) ((k+1:Nat):Int) ((D.take k).any (cL t)) true x.p t x.k]
     simp only [ak,t1,r1,ri,rp,rk',hp,d4,d6, rq,ws,hcl,au,and_self,and_true,true_and]
     try (repeat' apply And.intro)
     all_goals first | rfl | omega | assumption | skip
    ·have d6:decide (x.k≤(6:Int))=false:=decide_eq_false h6
     rw [nH (fun h=>h6 h.2),Bool.or_false] at ih
     refine af.reach de (k:=7) (n:=200) (o:=[(2,.cells [.v (.string x.p)]),(4,.cells [.v (.string t)]),(11,.cells [.v (.int .i64 x.k)]),(20,.cells [.v (.int .i64 x.k)])]++ff (List.range 23) true++ff (List.range 60) false) (ren:=[(0,0),(1,1)]) (eqs:=[0,1]) ?_ (by kernel_rfl) (fun i b h=>by rw [hν i b h];rfl) ih
     rw [Nn (ar oC off D) (strs L) [] off D.length c L.length 0 (i:Int) (k:Int) ((k+1:Nat):Int) ((D.take k).any (cL t)) ((D.take k).any (cL t)) x.p t x.k]
     simp only [ak,t1,r1,ri,rp,rk',hp,d4,d6, rq,ws,hcl,au,and_self,and_true,true_and]
     try (repeat' apply And.intro)
     all_goals first | rfl | omega | assumption | skip
   ·have d4:decide (x.k≥(4:Int))=false:=decide_eq_false h4
    rw [nH (fun h=>h4 h.1),Bool.or_false] at ih
    refine af.reach de (k:=7) (n:=200) (o:=[(2,.cells [.v (.string x.p)]),(4,.cells [.v (.string t)]),(11,.cells [.v (.int .i64 x.k)])]++ff (List.range 14) true++ff (List.range 60) false) (ren:=[(0,0),(1,1)]) (eqs:=[0,1]) ?_ (by kernel_rfl) (fun i b h=>by rw [hν i b h];rfl) ih
    rw [Mz (ar oC off D) (strs L) [] off D.length c L.length 0 (i:Int) (k:Int) ((k+1:Nat):Int) ((D.take k).any (cL t)) ((D.take k).any (cL t)) x.p t x.k]
    simp only [ak,t1,r1,ri,rp,rk',hp,d4, rq,ws,hcl,au,and_self,and_true,true_and]
    try (repeat' apply And.intro)
    all_goals first | rfl | omega | assumption | skip
theorem N3 {o:List SV} {r:Nat} (hoc:o.all ab=true) {R:Ending→World→Prop} {i:Nat} {t:ByteArray} (hi:L[i]?=some t) (few:D.length≤1000) (hν:∀ i b,ν i=some b→i=0) {M1:Own} {w1:World} (nx:af aL M1 w1 cs0 10 R ν (SM.at (jS off D.length c L.length (rc r) (i:Int) (D.any (cL t)) (D.length:Int)) 6 (uz (ar oC off D) (strs L) o))):∀ (j k:Nat),k+j=D.length→af aL M1 w1 cs0 10 R ν (SM.at (jS off D.length c L.length (rc r) (i:Int) ((D.take k).any (cL t)) (k:Int)) 6 (uz (ar oC off D) (strs L) o))
 | 0,k,hk=>by
  have:k=D.length:=by omega
  subst this
  rw [List.take_length];exact nx
 | j+1,k,hk=>by
  have hkl:k<D.length:=by omega
  have ih:=N3 hoc hi few hν nx j (k+1) (by omega)
  have hx:D[k]?=some D[k]:=List.getElem?_eq_getElem hkl
  rw [xD hkl] at ih
  have hil:i<L.length:=(List.getElem?_eq_some_iff.1 hi).1
  generalize D[k]=x at hx ih
  have t1:decide ((k:Int)<(D.length:Int))=true:=decide_eq_true (by omega)
  have r1:=aO hkl
  have ri:=aO hil
  have rp:=L6 (off:=off) hx
  have rk':=L4 (off:=off) hx
  have rq:=iE hi
  have ws:=aM (k:=k) (by omega)
  have hcl:(ar oC off D).all ab=true:=bw dK
  cases hp:(x.p.toList==t.toList)
  ·rw [yf hp,Bool.or_false] at ih
   refine af.reach de (k:=7) (n:=200) (o:=[(2,.cells [.v (.string x.p)]),(4,.cells [.v (.string t)])]++ff [0,1,3] true++ff (List.range 60) false) (ren:=[(0,0),(1,1),(2,2)]) (eqs:=[0,1,2]) ?_ (by kernel_rfl) (fun i b h=>by rw [hν i b h];rfl) ih
   rw [Nl (ar oC off D) (strs L) o off D.length c L.length r (i:Int) (k:Int) ((k+1:Nat):Int) ((D.take k).any (cL t)) ((D.take k).any (cL t)) x.p t x.k]
   simp only [ak,t1,r1,ri,rp,rk',hp,hoc, rq,ws,hcl,au,and_self,and_true,true_and]
   try (repeat' apply And.intro)
   all_goals first | rfl | omega | assumption | skip
  ·by_cases h4:x.k≥4
   ·have d4:decide (x.k≥(4:Int))=true:=decide_eq_true h4
    by_cases h6:x.k≤6
    ·have d6:decide (x.k≤(6:Int))=true:=decide_eq_true h6
     rw [xJ hp h4 h6,Bool.or_true] at ih
     refine af.reach de (k:=7) (n:=200) (o:=[(2,.cells [.v (.string x.p)]),(4,.cells [.v (.string t)]),(11,.cells [.v (.int .i64 x.k)]),(20,.cells [.v (.int .i64 x.k)])]++ff (List.range 60) true) (ren:=[(0,0),(1,1),(2,2)]) (eqs:=[0,1,2]) ?_ (by kernel_rfl) (fun i b h=>by rw [hν i b h];rfl) ih
     rw [Ms (ar oC off D) (strs L) o off D.length c L.length r (i:Int) (k:Int) ((k+1:Nat):Int) ((D.take k).any (cL t)) true x.p t x.k]
     simp only [ak,t1,r1,ri,rp,rk',hp,d4,d6,hoc, rq,ws,hcl,au,and_self,and_true,true_and]
     try (repeat' apply And.intro)
     all_goals first | rfl | omega | assumption | skip
    ·have d6:decide (x.k≤(6:Int))=false:=decide_eq_false h6
     rw [nH (fun h=>h6 h.2),Bool.or_false] at ih
     refine af.reach de (k:=7) (n:=200) (o:=[(2,.cells [.v (.string x.p)]),(4,.cells [.v (.string t)]),(11,.cells [.v (.int .i64 x.k)]),(20,.cells [.v (.int .i64 x.k)])]++ff (List.range 23) true++ff (List.range 60) false) (ren:=[(0,0),(1,1),(2,2)]) (eqs:=[0,1,2]) ?_ (by kernel_rfl) (fun i b h=>by rw [hν i b h];rfl) ih
     rw [NG (ar oC off D) (strs L) o off D.length c L.length r (i:Int) (k:Int) ((k+1:Nat):Int) ((D.take k).any (cL t)) ((D.take k).any (cL t)) x.p t x.k]
     simp only [ak,t1,r1,ri,rp,rk',hp,d4,d6,hoc, rq,ws,hcl,au,and_self,and_true,true_and]
     try (repeat' apply And.intro)
     all_goals first | rfl | omega | assumption | skip
   ·have d4:decide (x.k≥(4:Int))=false:=decide_eq_false h4
    rw [nH (fun h=>h4 h.1),Bool.or_false] at ih
    refine af.reach de (k:=7) (n:=200) (o:=[(2,.cells [.v (.string x.p)]),(4,.cells [.v (.string t)]),(11,.cells [.v (.int .i64 x.k)])]++ff (List.range 14) true++ff (List.range 60) false) (ren:=[(0,0),(1,1),(2,2)]) (eqs:=[0,1,2]) ?_ (by kernel_rfl) (fun i b h=>by rw [hν i b h];rfl) ih
    rw [Ny (ar oC off D) (strs L) o off D.length c L.length r (i:Int) (k:Int) ((k+1:Nat):Int) ((D.take k).any (cL t)) ((D.take k).any (cL t)) x.p t x.k]
    simp only [ak,t1,r1,ri,rp,rk',hp,d4,hoc, rq,ws,hcl,au,and_self,and_true,true_and]
    try (repeat' apply And.intro)
    all_goals first | rfl | omega | assumption | skip
theorem HS (hM:∀ z,¬ M z) (hν:∀ i b,ν i=some b→i=0) (few:D.length≤1000) (fewL:L.length≤1000) {H:Hp} {M1:Own} {w1:World} (hk:Kept W.hp M W H M1 w1):∀ (j i:Nat),i+j=L.length→((L.take i).filter fun q=>!D.any (cL q))≠[]→af aL M1 w1 cs0 10 (lP W (L.filter fun q=>!D.any (cL q))) ν (SM.at (BY off D.length c L.length (rc ((L.take i).filter fun q=>!D.any (cL q)).length) (i:Int)) 6 (uz (ar oC off D) (strs L) (strs ((L.take i).filter fun q=>!D.any (cL q)))))
 | 0,i,hj,hne=>by
  rw [List.take_of_length_le (by omega)] at hne ⊢
  refine af.bR de (n:=60) (o:=ff [0] false) (x:=rc (L.filter fun q=>!D.any (cL q)).length) (i:=2) (so:=.row (strs (L.filter fun q=>!D.any (cL q))) 9 (0,0) (some 1)) (by
   rw [zB (o':=[]) (w:=[]) (i':=0) (k:=0) (t:=⟨#[]⟩)]
   simp only [ak,au,rc,decide_eq_false (show ¬ (i:Int)<(L.length:Int) by omega),and_self,and_true,true_and]) fun ν' w' y b ob hv hb ho hor hw hB'=>?_
  obtain ⟨M3,w3,M4,s',hBb,hr⟩:=hB'
  have hn:W.heap.size≤b.1:=by
   rcases hk.base.own _ hw with h | h
   ·exact h
   ·exact absurd h (hM _)
  exact ⟨aI hM (hk.base.trans hBb) hr,y,rfl,.inr ⟨hne,cy.e8 hv hb ho hor hn fun zs hz=>fD hz⟩⟩
 | j+1,i,hj,hne=>by
  have hi:i<L.length:=by omega
  have hq:L[i]?=some L[i]:=List.getElem?_eq_getElem hi
  have hfl:((L.take i).filter fun q=>!D.any (cL q)).length≤1000:=Nat.le_trans (List.length_filter_le _ _) (by rw [List.length_take];omega)
  have hsn:=dP (D:=fun q=>!D.any (cL q)) hi
  have t1:decide ((i:Int)<(L.length:Int))=true:=decide_eq_true (by omega)
  have hcl:(ar oC off D).all ab=true:=bw dK
  have ws:=aM (k:=i) (by omega)
  have ri:=aO hi
  have rq:=iE hq
  have tz:decide ((D.length:Int)<(D.length:Int))=false:=decide_eq_false (by omega)
  have nb:af aL M1 w1 cs0 10 (lP W (L.filter fun q=>!D.any (cL q))) ν (SM.at (jS off D.length c L.length (rc ((L.take i).filter fun q=>!D.any (cL q)).length) (i:Int) (D.any (cL L[i])) (D.length:Int)) 6 (uz (ar oC off D) (strs L) (strs ((L.take i).filter fun q=>!D.any (cL q))))):=by
   cases hd:D.any (cL L[i])
   ·rw [hd] at hsn
    simp only [Bool.not_false,if_true] at hsn
    have nx:=HS hM hν few fewL hk j (i+1) (by omega) (by rw [hsn];simp)
    rw [hsn,List.length_append,show ([L[i]]:List ByteArray).length=1 from rfl,gB,dW] at nx
    refine af.reach de (k:=2) (n:=200) (o:=[(3,.cells [.v (.string L[i])]),(4,.app (strs ((L.take i).filter fun q=>!D.any (cL q))) [.v (.string L[i])])]++ff [0] false++ff (List.range 60) true) (ren:=[(0,0),(1,1),(2,4)]) (eqs:=[0,1,2]) ?_ (by kernel_rfl) (fun i b h=>by rw [hν i b h];rfl) nx
    rw [Qa]
    simp only [ak,t1,tz,ri,rq,ws,hcl,au,bg,aD,List.all_append,and_self,and_true,true_and]
    try (repeat' apply And.intro)
    all_goals first | rfl | omega | assumption | exact List.take_of_length_le (by simp only [aD];omega) | skip
   ·rw [hd] at hsn
    simp only [Bool.not_true,Bool.false_eq_true,if_false,List.append_nil] at hsn
    have nx:=HS hM hν few fewL hk j (i+1) (by omega) (by rw [hsn];exact hne)
    rw [hsn] at nx
    refine af.reach de (k:=2) (n:=200) (o:=ff [0,1] false++ff (List.range 60) true) (ren:=[(0,0),(1,1),(2,2)]) (eqs:=[0,1,2]) ?_ (by kernel_rfl) (fun i b h=>by rw [hν i b h];rfl) nx
    rw [P6 (o':=[]) (w:=[]) (t:=⟨#[]⟩)]
    simp only [ak,t1,tz,ri,rq,ws,hcl,au,bg,aD,List.all_append,and_self,and_true,true_and]
    try (repeat' apply And.intro)
    all_goals first | rfl | omega | assumption | exact List.take_of_length_le (by simp only [aD];omega) | skip
  have nc:=N3 (au _) hq few hν nb D.length 0 (by omega)
  refine af.reach de (k:=7) (n:=200) (o:=ff [0] true) (ren:=[(0,0),(1,1),(2,2)]) (eqs:=[0,1,2]) ?_ (by kernel_rfl) (fun i b h=>by rw [hν i b h];rfl) nc
  rw [show (((0:Nat):Int))=0 from rfl,show (D.take 0).any (cL L[i])=false from rfl,Pd (o':=[]) (w:=[]) (i':=0) (k:=0) (t:=⟨#[]⟩)]
  simp only [ak,t1,tz,ri,rq,ws,hcl,au,bg,aD,List.all_append,and_self,and_true,true_and]
theorem J8 (hM:∀ z,¬ M z) (hν:∀ i b,ν i=some b→i=0) (few:D.length≤1000) (fewL:L.length≤1000) {H:Hp} {M1:Own} {w1:World} (hk:Kept W.hp M W H M1 w1):∀ (j i:Nat),i+j=L.length→((L.take i).filter fun q=>!D.any (cL q))=[]→af aL M1 w1 cs0 10 (lP W (L.filter fun q=>!D.any (cL q))) ν (SM.at (BY off D.length c L.length aK (i:Int)) 6 (tg (ar oC off D) (strs L)))
 | 0,i,hj,hne=>by
  rw [List.take_of_length_le (by omega)] at hne
  refine af.ax de (n:=60) (o:=ff [0] false) (v:=.slice none 0 0) ?_ fun ν' M3 w3 s' w' _ hB' hr=>⟨aI hM (hk.base.trans hB') hr,_,rfl,.inl ⟨hne,rfl⟩⟩
  rw [zA (o:=[]) (o':=[]) (w:=[]) (r:=0) (i':=0) (k:=0) (t:=⟨#[]⟩)]
  simp only [ak,decide_eq_false (show ¬ (i:Int)<(L.length:Int) by omega),and_self,and_true,true_and]
 | j+1,i,hj,hne=>by
  have hi:i<L.length:=by omega
  have hq:L[i]?=some L[i]:=List.getElem?_eq_getElem hi
  have hfl:((L.take i).filter fun q=>!D.any (cL q)).length≤1000:=Nat.le_trans (List.length_filter_le _ _) (by rw [List.length_take];omega)
  have hsn:=dP (D:=fun q=>!D.any (cL q)) hi
  have t1:decide ((i:Int)<(L.length:Int))=true:=decide_eq_true (by omega)
  have hcl:(ar oC off D).all ab=true:=bw dK
  have ws:=aM (k:=i) (by omega)
  have ri:=aO hi
  have rq:=iE hq
  have tz:decide ((D.length:Int)<(D.length:Int))=false:=decide_eq_false (by omega)
  rw [hne,List.nil_append] at hsn
  have nb:af aL M1 w1 cs0 10 (lP W (L.filter fun q=>!D.any (cL q))) ν (SM.at (jS off D.length c L.length aK (i:Int) (D.any (cL L[i])) (D.length:Int)) 6 (tg (ar oC off D) (strs L))):=by
   cases hd:D.any (cL L[i])
   ·rw [hd] at hsn
    simp only [Bool.not_false,if_true] at hsn
    have nx:=HS (cs0:=cs0) (off:=off) (c:=c) hM hν few fewL hk j (i+1) (by omega) (by rw [hsn];simp)
    rw [hsn,show ([L[i]]:List ByteArray).length=1 from rfl,dW] at nx
    refine af.reach de (k:=2) (n:=200) (o:=[(3,.cells [.v (.string L[i])]),(4,.b false)]++ff [0] false++ff (List.range 60) true) (ren:=[(0,0),(1,1),(2,3)]) (eqs:=[0,1,2]) ?_ (by kernel_rfl) (fun i b h=>by rw [hν i b h];rfl) nx
    rw [PG (o:=[]) (w:=[]) (r:=0)]
    simp only [ak,t1,tz,ri,rq,ws,hcl,au,bg,aD,List.all_append,and_self,and_true,true_and]
    try (repeat' apply And.intro)
    all_goals first | rfl | omega | assumption | exact List.take_of_length_le (by simp only [aD];omega) | skip
   ·rw [hd] at hsn
    simp only [Bool.not_true,Bool.false_eq_true,if_false,List.append_nil] at hsn
    have nx:=J8 hM hν few fewL hk j (i+1) (by omega) (by rw [hsn])
    refine af.reach de (k:=2) (n:=200) (o:=ff [0,1] false++ff (List.range 60) true) (ren:=[(0,0),(1,1)]) (eqs:=[0,1]) ?_ (by kernel_rfl) (fun i b h=>by rw [hν i b h];rfl) nx
    rw [OS (o:=[]) (o':=[]) (w:=[]) (r:=0) (t:=⟨#[]⟩)]
    simp only [ak,t1,tz,ri,rq,ws,hcl,au,bg,aD,List.all_append,and_self,and_true,true_and]
    try (repeat' apply And.intro)
    all_goals first | rfl | omega | assumption | exact List.take_of_length_le (by simp only [aD];omega) | skip
  have nc:=NU hq few hν nb D.length 0 (by omega)
  refine af.reach de (k:=7) (n:=200) (o:=ff [0] true) (ren:=[(0,0),(1,1)]) (eqs:=[0,1]) ?_ (by kernel_rfl) (fun i b h=>by rw [hν i b h];rfl) nc
  rw [show (((0:Nat):Int))=0 from rfl,show (D.take 0).any (cL L[i])=false from rfl,OP (o:=[]) (o':=[]) (w:=[]) (r:=0) (i':=0) (k:=0) (t:=⟨#[]⟩)]
  simp only [ak,t1,tz,ri,rq,ws,hcl,au,bg,aD,List.all_append,and_self,and_true,true_and]
end
section
variable {W:World} {cs0:List Frame} {M:Own} {ν:aU} {a:Option Addr} {c:Nat} {L:List ByteArray}
theorem Ju (hM:∀ z,¬ M z) (hν:∀ i b,ν i=some b→False) (fewL:L.length≤1000) {H:Hp} {M1:Own} {w1:World} (hk:Kept W.hp M W H M1 w1):∀ (j i:Nat),i+j=L.length→L.take i≠[]→af aL M1 w1 cs0 10 (lP W L) ν (SM.at (FF a c L.length (.sl 1 0 (L.take i).length none) (i:Int)) 6 [e6 (strs L),e6 (strs (L.take i))])
 | 0,i,hj,hne=>by
  rw [List.take_of_length_le (by omega)] at hne ⊢
  refine af.bR de (n:=60) (o:=ff [0] false) (x:=.sl 1 0 L.length none) (i:=1) (so:=.row (strs L) 9 (0,0) (some 1)) (by
   rw [Qt (o':=[]) (w:=[]) (i':=0) (t:=⟨#[]⟩)]
   simp only [ak,au,rc,decide_eq_false (show ¬ (i:Int)<(L.length:Int) by omega),and_self,and_true,true_and]) fun ν' w' y b ob hv hb ho hor hw hB'=>?_
  obtain ⟨M3,w3,M4,s',hBb,hr⟩:=hB'
  have hn:W.heap.size≤b.1:=by
   rcases hk.base.own _ hw with h | h
   ·exact h
   ·exact absurd h (hM _)
  exact ⟨aI hM (hk.base.trans hBb) hr,y,rfl,.inr ⟨hne,cy.e8 hv hb ho hor hn fun zs hz=>fD hz⟩⟩
 | j+1,i,hj,hne=>by
  have hi:i<L.length:=by omega
  have hq:L[i]?=some L[i]:=List.getElem?_eq_getElem hi
  have hsn:L.take (i+1)=L.take i++[L[i]]:=List.take_succ_eq_append_getElem hi
  have hfl:(L.take i).length≤1000:=by rw [List.length_take];omega
  have t1:decide ((i:Int)<(L.length:Int))=true:=decide_eq_true (by omega)
  have tz:True:=trivial
  have ws:=aM (k:=i) (by omega)
  have ri:=aO hi
  have rq:=iE hq
  have hcl:True:=trivial
  have nx:=Ju hM hν fewL hk j (i+1) (by omega) (by rw [hsn];exact List.append_ne_nil_of_right_ne_nil _ (List.cons_ne_nil _ _))
  rw [hsn,List.length_append,show ([L[i]]:List ByteArray).length=1 from rfl,gB,dW] at nx
  refine af.reach de (k:=2) (n:=200) (o:=[(4,.cells [.v (.string L[i])]),(5,.app (strs (L.take i)) [.v (.string L[i])])]++ff [0] true++ff [1] false++ff (List.range 60) true) (ren:=[(0,0),(1,3)]) (eqs:=[0,1]) ?_ (by kernel_rfl) (fun i b h=>(hν i b h).elim) nx
  rw [yB]
  simp only [ak,t1,ri,rq,ws,au,bg,aD,List.all_append,and_self,and_true,true_and]
  try (repeat' apply And.intro)
  all_goals first | rfl | omega | assumption | exact List.take_of_length_le (by simp only [aD];omega) | skip
theorem Nt (hM:∀ z,¬ M z) (hν:∀ i b,ν i=some b→False) (fewL:L.length≤1000) {H:Hp} {M1:Own} {w1:World} (hk:Kept W.hp M W H M1 w1) (hne:L≠[]):af aL M1 w1 cs0 10 (lP W L) ν (SM.at (FF a c L.length aK 0) 6 [e6 (strs L)]):=by
 have hi:0<L.length:=List.length_pos_iff.2 hne
 have hq:L[0]?=some L[0]:=List.getElem?_eq_getElem hi
 have hsn:L.take 1=[L[0]]:=by rw [List.take_succ_eq_append_getElem hi];rfl
 have t1:decide ((0:Int)<(L.length:Int))=true:=decide_eq_true (by omega)
 have ws:IntKind.i64.wrap ((0:Int)+1)=((1:Nat):Int):=aM (k:=0) (by omega)
 have ri:ao 0 L.length=true:=aO (k:=0) hi
 have rq:=iE hq
 have nx:=Ju (cs0:=cs0) (a:=a) (c:=c) hM hν fewL hk (L.length - 1) 1 (by omega) (by rw [hsn];simp)
 rw [hsn,show ([L[0]]:List ByteArray).length=1 from rfl,dW] at nx
 refine af.reach de (k:=2) (n:=200) (o:=[(4,.cells [.v (.string L[0])]),(5,.b false)]++ff [0] true++ff [1] false++ff (List.range 60) true) (ren:=[(0,0),(1,2)]) (eqs:=[0,1]) ?_ (by kernel_rfl) (fun i b h=>(hν i b h).elim) nx
 rw [yA (o:=[]) (w:=[]) (r:=0)]
 simp only [ak,t1,ri,rq,ws,au,bg,aD,List.all_append,and_self,and_true,true_and]
 try (repeat' apply And.intro)
 all_goals first | rfl | exact rq | omega | assumption | exact List.take_of_length_le (by simp only [aD];omega) | skip
end
end rs
end paths
end Go.Proofs.Ytbjmmnegkpeboaa
set_option linter.unusedSimpArgs false
set_option linter.unusedVariables false
set_option maxRecDepth 100000
namespace Go.Proofs.Ytbjmmnegkpeboaa
open Go Go.Rx Go.RowKit Go.Proofs
namespace paths
namespace rk
noncomputable def Eo (y1 y2:Value) (l:List SV) (off n c:Nat):SM:=(bC aL 12 [.v y1,.v y2,.sl 0 off n (some c)] (bO 6 1 0 [cD l])).getD dC
noncomputable def HO:List SI:=dn aL 2 60 (Eo (.bool true) (.bool true) [] 0 0 0) [(1000,.b true)]
noncomputable def jb (y1 y2:Value) (off n c:Nat) (x:SV) (i:Int):SF:={ fn:=12,tm:=eO 42 6 ([.v y1,.v y2,.sl 0 off n (some c),.aJ,.aJ,.aJ,.aJ,x,.v (.int .i64 i)]++List.replicate 33 .aJ),todo:=HO,defers:=[],ret:=false,kind:=.normal,ro:=none }
def fA (l:List SV):List (Option (SO × Bool)):=[cD l]
def fj (l m:List SV):List (Option (SO × Bool)):=[cD l,e6 m]
def rc (k:Nat):SV:=.sl 1 0 k none
noncomputable def xb (y1 y2:Value) (a:Option Addr) (c:Nat):SM:=ch aL 12 [.v y1,.v y2,.v (.slice a 0 c)]
noncomputable def EM (y1 y2:Value) (l m:List SV) (off n c k:Nat) (i:Int) (p:ByteArray) (z:Int) (k1:Int) (a1:Option Addr) (l1 c1:Nat):SM:=bq aL 25 100 (SM.at (jb y1 y2 off n c aK i) 6 (fA l)) ([(2,.cells [.v (.string p)]),(4,.cells [.v (.int .i64 z)])]++ff (List.range 60) true) (bV k1 a1 l1 c1)
noncomputable def CI (y1 y2:Value) (l m:List SV) (off n c k:Nat) (i:Int) (p:ByteArray) (z:Int) (k1 k2:Int) (a1 a2:Option Addr) (l1 c1 l2 c2:Nat):SM:=bq aL 25 100 (EM y1 y2 l m off n c k i p z k1 a1 l1 c1) (ff (List.range 60) true) (bV k2 a2 l2 c2)
noncomputable def Ez (y1 y2:Value) (l m:List SV) (off n c k:Nat) (i:Int) (p:ByteArray) (z:Int) (k1 k2:Int) (a1 a2:Option Addr) (l1 c1 l2 c2:Nat) (t:Bool):SM:=bq aL 24 100 (CI y1 y2 l m off n c k i p z k1 k2 a1 a2 l1 c1 l2 c2) (ff (List.range 60) true) (.v (.bool t))
noncomputable def DP (y1 y2:Value) (l m:List SV) (off n c k:Nat) (i:Int) (p:ByteArray) (z:Int) (k1:Int) (a1:Option Addr) (l1 c1:Nat):SM:=bq aL 25 100 (SM.at (jb y1 y2 off n c (rc k) i) 6 (fj l m)) ([(2,.cells [.v (.string p)]),(4,.cells [.v (.int .i64 z)])]++ff (List.range 60) true) (bV k1 a1 l1 c1)
noncomputable def DW (y1 y2:Value) (l m:List SV) (off n c k:Nat) (i:Int) (p:ByteArray) (z:Int) (k1 k2:Int) (a1 a2:Option Addr) (l1 c1 l2 c2:Nat):SM:=bq aL 25 100 (DP y1 y2 l m off n c k i p z k1 a1 l1 c1) (ff (List.range 60) true) (bV k2 a2 l2 c2)
noncomputable def Dw (y1 y2:Value) (l m:List SV) (off n c k:Nat) (i:Int) (p:ByteArray) (z:Int) (k1 k2:Int) (a1 a2:Option Addr) (l1 c1 l2 c2:Nat) (t:Bool):SM:=bq aL 24 100 (DW y1 y2 l m off n c k i p z k1 k2 a1 a2 l1 c1 l2 c2) (ff (List.range 60) true) (.v (.bool t))
theorem Mq (y1 y2:Value) (l m w l':List SV) (off n c k:Nat) (i i':Int) (p:ByteArray) (z:Int):reach aL 2 60 (Eo y1 y2 l off n c) [(1000,.b true)] [(0,0)] [0] (jb y1 y2 off n c aK 0) 6 (fA l)=[y1=y1,y2=y2,off=off∧n=n∧some c=some c,Value.slice none 0 0=Value.slice none 0 0,vZ 0=vZ 0,l=l,l.all ab=true]:=by kernel_rfl
theorem H6 (y1 y2:Value) (l m w l':List SV) (off n c k:Nat) (i i':Int) (p:ByteArray) (z:Int):reach aL 2 100 (SM.at (jb y1 y2 off n c aK i) 6 (fA l)) ([(2,.cells [.v (.string p)]),(4,.cells [.v (.int .i64 z)])]++ff (List.range 5) true++ff (List.range 60) false) [(0,0)] [0] (jb y1 y2 off n c aK i') 6 (fA l)=[y1=y1,y2=y2,off=off∧n=n∧some c=some c,Value.slice none 0 0=Value.slice none 0 0,vZ (IntKind.i64.wrap (i+1))=vZ i',l=l,l.all ab=true,false=false,(z==4)=false,(z==4)=false,(z==4)=false,(z==4)=false,(z==4)=false,(z==4)=false,(z==4)=false,(z==4)=false,(z==4)=false,l[off+i.toNat*3+1]?=some (SV.v (vZ z)),ao i n=true,l[off+i.toNat*3+0]?=some (SV.v (Value.string p)),ao i n=true,decide (i<(↑n:Int))=true]:=by kernel_rfl
theorem HM (y1 y2:Value) (l m w l':List SV) (off n c k:Nat) (i i':Int) (p:ByteArray) (z:Int) (k1 k2:Int) (a1 a2:Option Addr) (l1 c1 l2 c2:Nat):bI aL 25 100 (SM.at (jb y1 y2 off n c aK i) 6 (fA l)) ([(2,.cells [.v (.string p)]),(4,.cells [.v (.int .i64 z)])]++ff (List.range 60) true)=[(z==4)=true,(z==4)=true,(z==4)=true,l[off+i.toNat*3+1]?=some (SV.v (vZ z)),ao i n=true,l[off+i.toNat*3+0]?=some (SV.v (Value.string p)),ao i n=true,decide (i<(↑n:Int))=true]:=by kernel_rfl
theorem IB (y1 y2:Value) (l m w l':List SV) (off n c k:Nat) (i i':Int) (p:ByteArray) (z:Int) (k1 k2:Int) (a1 a2:Option Addr) (l1 c1 l2 c2:Nat):bE aL 25 100 (SM.at (jb y1 y2 off n c aK i) 6 (fA l)) ([(2,.cells [.v (.string p)]),(4,.cells [.v (.int .i64 z)])]++ff (List.range 60) true) (bV k1 a1 l1 c1)=[(z==4)=true,(z==4)=true,(z==4)=true,l[off+i.toNat*3+1]?=some (SV.v (vZ z)),ao i n=true,l[off+i.toNat*3+0]?=some (SV.v (Value.string p)),ao i n=true,decide (i<(↑n:Int))=true]:=by kernel_rfl
theorem H8 (y1 y2:Value) (l m w l':List SV) (off n c k:Nat) (i i':Int) (p:ByteArray) (z:Int) (k1 k2:Int) (a1 a2:Option Addr) (l1 c1 l2 c2:Nat):bI aL 25 100 (EM y1 y2 l m off n c k i p z k1 a1 l1 c1) (ff (List.range 60) true)=[(z==4)=true,(z==4)=true,(z==4)=true]:=by kernel_rfl
theorem H7 (y1 y2:Value) (l m w l':List SV) (off n c k:Nat) (i i':Int) (p:ByteArray) (z:Int) (k1 k2:Int) (a1 a2:Option Addr) (l1 c1 l2 c2:Nat):bE aL 25 100 (EM y1 y2 l m off n c k i p z k1 a1 l1 c1) (ff (List.range 60) true) (bV k2 a2 l2 c2)=[(z==4)=true,(z==4)=true,(z==4)=true]:=by kernel_rfl
theorem IQ (y1 y2:Value) (l m w l':List SV) (off n c k:Nat) (i i':Int) (p:ByteArray) (z:Int) (k1 k2:Int) (a1 a2:Option Addr) (l1 c1 l2 c2:Nat):bI aL 24 100 (CI y1 y2 l m off n c k i p z k1 k2 a1 a2 l1 c1 l2 c2) (ff (List.range 60) true)=[(z==4)=true]:=by kernel_rfl
theorem IM (y1 y2:Value) (l m w l':List SV) (off n c k:Nat) (i i':Int) (p:ByteArray) (z:Int) (k1 k2:Int) (a1 a2:Option Addr) (l1 c1 l2 c2:Nat) (t:Bool):bE aL 24 100 (CI y1 y2 l m off n c k i p z k1 k2 a1 a2 l1 c1 l2 c2) (ff (List.range 60) true) (.v (.bool t))=[(z==4)=true]:=by kernel_rfl
theorem I2 (y1 y2:Value) (l m w l':List SV) (off n c k:Nat) (i i':Int) (p:ByteArray) (z:Int) (k1 k2:Int) (a1 a2:Option Addr) (l1 c1 l2 c2:Nat):reach aL 2 100 (Ez y1 y2 l m off n c k i p z k1 k2 a1 a2 l1 c1 l2 c2 true) (ff (List.range 2) true++ff (List.range 60) false) [(0,0)] [0] (jb y1 y2 off n c aK i') 6 (fA l)=[y1=y1,y2=y2,off=off∧n=n∧some c=some c,Value.slice none 0 0=Value.slice none 0 0,vZ (IntKind.i64.wrap (i+1))=vZ i',l=l,l.all ab=true,false=false,(z==4)=true,(z==4)=true]:=by kernel_rfl
theorem IA (y1 y2:Value) (l m w l':List SV) (off n c k:Nat) (i i':Int) (p:ByteArray) (z:Int):reach aL 2 100 (SM.at (jb y1 y2 off n c (rc k) i) 6 (fj l m)) ([(2,.cells [.v (.string p)]),(4,.cells [.v (.int .i64 z)])]++ff (List.range 5) true++ff (List.range 60) false) [(0,0),(1,1)] [0,1] (jb y1 y2 off n c (rc k) i') 6 (fj l m)=[y1=y1,y2=y2,off=off∧n=n∧some c=some c,0=0∧k=k∧nZ=none,vZ (IntKind.i64.wrap (i+1))=vZ i',l=l,l.all ab=true,m=m,m.all ab=true,false=false,(z==4)=false,(z==4)=false,(z==4)=false,(z==4)=false,(z==4)=false,(z==4)=false,(z==4)=false,(z==4)=false,(z==4)=false,l[off+i.toNat*3+1]?=some (SV.v (vZ z)),ao i n=true,l[off+i.toNat*3+0]?=some (SV.v (Value.string p)),ao i n=true,decide (i<(↑n:Int))=true]:=by kernel_rfl
theorem IU (y1 y2:Value) (l m w l':List SV) (off n c k:Nat) (i i':Int) (p:ByteArray) (z:Int) (k1 k2:Int) (a1 a2:Option Addr) (l1 c1 l2 c2:Nat):bI aL 25 100 (SM.at (jb y1 y2 off n c (rc k) i) 6 (fj l m)) ([(2,.cells [.v (.string p)]),(4,.cells [.v (.int .i64 z)])]++ff (List.range 60) true)=[(z==4)=true,(z==4)=true,(z==4)=true,l[off+i.toNat*3+1]?=some (SV.v (vZ z)),ao i n=true,l[off+i.toNat*3+0]?=some (SV.v (Value.string p)),ao i n=true,decide (i<(↑n:Int))=true]:=by kernel_rfl
theorem HH (y1 y2:Value) (l m w l':List SV) (off n c k:Nat) (i i':Int) (p:ByteArray) (z:Int) (k1 k2:Int) (a1 a2:Option Addr) (l1 c1 l2 c2:Nat):bE aL 25 100 (SM.at (jb y1 y2 off n c (rc k) i) 6 (fj l m)) ([(2,.cells [.v (.string p)]),(4,.cells [.v (.int .i64 z)])]++ff (List.range 60) true) (bV k1 a1 l1 c1)=[(z==4)=true,(z==4)=true,(z==4)=true,l[off+i.toNat*3+1]?=some (SV.v (vZ z)),ao i n=true,l[off+i.toNat*3+0]?=some (SV.v (Value.string p)),ao i n=true,decide (i<(↑n:Int))=true]:=by kernel_rfl
theorem HV (y1 y2:Value) (l m w l':List SV) (off n c k:Nat) (i i':Int) (p:ByteArray) (z:Int) (k1 k2:Int) (a1 a2:Option Addr) (l1 c1 l2 c2:Nat):bI aL 25 100 (DP y1 y2 l m off n c k i p z k1 a1 l1 c1) (ff (List.range 60) true)=[(z==4)=true,(z==4)=true,(z==4)=true]:=by kernel_rfl
theorem H4 (y1 y2:Value) (l m w l':List SV) (off n c k:Nat) (i i':Int) (p:ByteArray) (z:Int) (k1 k2:Int) (a1 a2:Option Addr) (l1 c1 l2 c2:Nat):bE aL 25 100 (DP y1 y2 l m off n c k i p z k1 a1 l1 c1) (ff (List.range 60) true) (bV k2 a2 l2 c2)=[(z==4)=true,(z==4)=true,(z==4)=true]:=by kernel_rfl
theorem I7 (y1 y2:Value) (l m w l':List SV) (off n c k:Nat) (i i':Int) (p:ByteArray) (z:Int) (k1 k2:Int) (a1 a2:Option Addr) (l1 c1 l2 c2:Nat):bI aL 24 100 (DW y1 y2 l m off n c k i p z k1 k2 a1 a2 l1 c1 l2 c2) (ff (List.range 60) true)=[(z==4)=true]:=by kernel_rfl
theorem Jd (y1 y2:Value) (l m w l':List SV) (off n c k:Nat) (i i':Int) (p:ByteArray) (z:Int) (k1 k2:Int) (a1 a2:Option Addr) (l1 c1 l2 c2:Nat) (t:Bool):bE aL 24 100 (DW y1 y2 l m off n c k i p z k1 k2 a1 a2 l1 c1 l2 c2) (ff (List.range 60) true) (.v (.bool t))=[(z==4)=true]:=by kernel_rfl
theorem I1 (y1 y2:Value) (l m w l':List SV) (off n c k:Nat) (i i':Int) (p:ByteArray) (z:Int) (k1 k2:Int) (a1 a2:Option Addr) (l1 c1 l2 c2:Nat):reach aL 2 100 (Dw y1 y2 l m off n c k i p z k1 k2 a1 a2 l1 c1 l2 c2 true) (ff (List.range 2) true++ff (List.range 60) false) [(0,0),(1,1)] [0,1] (jb y1 y2 off n c (rc k) i') 6 (fj l m)=[y1=y1,y2=y2,off=off∧n=n∧some c=some c,0=0∧k=k∧nZ=none,vZ (IntKind.i64.wrap (i+1))=vZ i',l=l,l.all ab=true,m=m,m.all ab=true,false=false,(z==4)=true,(z==4)=true]:=by kernel_rfl
theorem Ja (y1 y2:Value) (l m w l':List SV) (off n c k:Nat) (i i':Int) (p:ByteArray) (z:Int) (k1 k2:Int) (a1 a2:Option Addr) (l1 c1 l2 c2:Nat):reach aL 2 100 (Ez y1 y2 l m off n c k i p z k1 k2 a1 a2 l1 c1 l2 c2 false) (ff (List.range 3) true++ff (List.range 60) false) [(0,0),(1,2)] [0,1] (jb y1 y2 off n c (rc 1) i') 6 (fj l l')=[y1=y1,y2=y2,off=off∧n=n∧some c=some c,0=0∧1=1∧nZ=none,vZ (IntKind.i64.wrap (i+1))=vZ i',l=l,l.all ab=true,[]++List.take 1 (List.drop 0 (aX (List.replicate 1 (List.map SV.v [Value.string ⟨⟨[]⟩⟩])).flatten 0 [SV.v (Value.string p)]))=l',l'.all ab=true,false=false,true=true,(z==4)=true,(z==4)=true]:=by kernel_rfl
theorem IF (y1 y2:Value) (l m w l':List SV) (off n c k:Nat) (i i':Int) (p:ByteArray) (z:Int) (k1 k2:Int) (a1 a2:Option Addr) (l1 c1 l2 c2:Nat):reach aL 2 100 (Dw y1 y2 l m off n c k i p z k1 k2 a1 a2 l1 c1 l2 c2 false) (ff (List.range 3) true++[(3,.app m w)]++ff (List.range 60) false) [(0,0),(1,3)] [0,1] (jb y1 y2 off n c (rc (k+1)) i') 6 (fj l l')=[y1=y1,y2=y2,off=off∧n=n∧some c=some c,0=0∧k+1=k+1∧nZ=none,vZ (IntKind.i64.wrap (i+1))=vZ i',l=l,l.all ab=true,m++w=l',l'.all ab=true,((List.take 1 (List.drop 0 (aX (List.replicate 1 (List.map SV.v [Value.string ⟨⟨[]⟩⟩])).flatten 0 [SV.v (Value.string p)]))=w∧w.length=1*1)∧1≠0∧(2*(k+1)+1024)*16≤140737488355328)∧List.take (k*1) m=m∧m.length=k*1∧w.all SV.flat=true,true=true,(z==4)=true,(z==4)=true]:=by kernel_rfl
theorem HZ (y1 y2:Value) (l m w l':List SV) (off n c k:Nat) (i i':Int) (p:ByteArray) (z:Int) (v:Value):ax aL 12 60 (SM.at (jb y1 y2 off n c aK i) 6 (fA l)) (ff [0] false) v=[Value.slice none 0 0=v,decide (i<(↑n:Int))=false]:=by kernel_rfl
theorem Iw (y1 y2:Value) (l m w l':List SV) (off n c k:Nat) (i i':Int) (p:ByteArray) (z:Int):bR aL 12 60 (SM.at (jb y1 y2 off n c (rc k) i) 6 (fj l m)) (ff [0] false) (rc k) 1 (.row m 9 (0,0) (some 1))=[0=0∧k=k∧nZ=none,m=m,m.all ab=true,decide (i<(↑n:Int))=false]:=by kernel_rfl
theorem Iq (y1 y2:Value) (a:Option Addr) (c:Nat) (v:Value):ax aL 12 60 (xb y1 y2 a c) ([(1000,.b true)]++ff [0] false) v=[Value.slice none 0 0=v,false=false]:=by kernel_rfl
def Aj (W:World) (y:Value) (xs:List aA):Prop:=(xs=[]∧y=.slice none 0 0)∨(xs≠[]∧∃ g c,rd.vG W y xs g c)
theorem Aj.mono {W w:World} {y:Value} {xs:List aA} (h:Aj W y xs) (hs:W.hp.Sub w.hp):Aj w y xs:=by
 rcases h with h | ⟨h0,g,c,rest,h1,h2,h3,h4⟩
 ·exact .inl h
 ·exact .inr ⟨h0,g,c,rest,h1,h2,hs _ _ h3,h4⟩
theorem Aw {w:World} {y:Value} {xs:List aA} (h:Aj w y xs) (few:xs.length≤1000) (p:ByteArray):Calls Try.prog 25 #[y,.string p] w fun e w'=>Below w.heap.size w w'∧e=.returned (jv (aj p xs)):=by
 rcases h with ⟨rfl,rfl⟩ | ⟨hne,g,c,rest,rfl,hlc,hh,hsz⟩
 ·refine (cp (E:=aL) (R:=fun e w'=>Below w.heap.size w w'∧e=.returned (jv (aj p []))) rfl rfl (args:=[.v (.slice none 0 0),.v (.string p)]) (a:=[.slice none 0 0,.string p]) (S0:=zH p) (by kernel_rfl) (ay.cons (VR.ah.2 rfl) (ay.cons (VR.ah.2 rfl) ay.nil)) fun cs0=>?_)
  refine cz de bo (n:=60) (o:=[(1000,.b true)]) (v:=jv (aj p [])) ⟨?_⟩ fun w' hw=>⟨hw,rfl⟩
  rw [NY]
  simp only [ak,true_and,and_true]
  rfl
 ·have ho:∀ (j:Nat) (o':SO) (b' c':Nat),[SO.look (cI xs)][j]?=some o'→[(g,c)][j]?=some (b',c')→∃ r,w.heap[b']?=some r∧OR (aE [(g,c)]) j o' r:=by
   intro j o' b' c' q1 q2
   match j with
   | 0=>
    simp only [List.getElem?_cons_zero,Option.some.injEq] at q1 q2
    subst q1
    cases q2
    refine ⟨_,hh,?_⟩
    have:cI xs=ar iC 0 xs:=rfl
    rw [this]
    refine eK (h:=iV) (fun ν x=>ay.lits ν (iV x)) (Nat.zero_le _) fun k v hk=>?_
    rw [Nat.zero_add]
    have hk:(vI xs)[k]?=some v:=hk
    show (vI xs++rest).toArray[k]?=some v
    rw [List.getElem?_toArray,List.getElem?_append_left (List.getElem?_eq_some_iff.1 hk).1]
    exact hk
   | j+1=>simp at q1
  refine aY (E:=aL) rfl (d:=6) (l:=[(g,c)]) (os:=[.look (cI xs)]) rfl (by simp) (by simp) ho rfl (args:=[.sl 0 0 xs.length (some c),.v (.string p)]) (a:=[.slice (some ⟨g,0,none⟩) xs.length c,.string p]) (S0:=AW (cI xs) xs.length c p) (by kernel_rfl) (ay.cons (VR.aQ.2 ⟨(g,c),rfl,hlc,rfl⟩) (ay.cons (VR.ah.2 rfl) ay.nil)) fun cs0=>?_
  have nx:=zm (w0:=w) (cs0:=cs0) (b:=(g,c)) (c:=c) (p:=p) (xs:=xs) (R:=fun e w'=>Below w.heap.size w w'∧e=.returned (jv (aj p xs))) few (fun w' hw=>⟨hw,rfl⟩) xs.length 0 (by omega) (fun e he=>by simp at he)
  refine af.reach de (k:=2) (n:=60) (o:=[(1000,.b true)]) (ren:=[(0,0),(1,1)]) (eqs:=[0]) (F:=wT xs.length c p 0) (d:=6) (l:=[cD (cI xs),nG]) ?_ (by kernel_rfl) (fun i b h=>by rw [fQ h];rfl) nx
  rw [N0]
  simp only [ak,az,and_self,and_true,true_and]
  first | done | rfl
structure qn (W:World) (D:List aA) (ys:Option Addr→Nat→List Int) (y1 y2:Value) (xs1 xs2:List aA):Prop where
 row1:Aj W y1 xs1
 row2:Aj W y2 xs2
 px:mi D ys W
 ok:lE D
 sub1:∀ e∈xs1,e∈D
 sub2:∀ e∈xs2,e∈D
 few:xs1.length+xs2.length≤1000
 blk:∀ (g1 g2 n1 n2 c1 c2:Nat),y1=.slice (some ⟨g1,0,none⟩) n1 c1→y2=.slice (some ⟨g2,0,none⟩) n2 c2→g1≠g2
theorem A7 {D:List aA} {ys:Option Addr→Nat→List Int} {W w:World} (h:mi D ys W) (hs:W.hp.Sub w.hp):mi D ys w:=h.keep (oF (Hp.Sub.refl _) hs)
theorem qn.mono {W w:World} {D:List aA} {ys:Option Addr→Nat→List Int} {y1 y2:Value} {xs1 xs2:List aA} (h:qn W D ys y1 y2 xs1 xs2) (hs:W.hp.Sub w.hp):qn w D ys y1 y2 xs1 xs2:=
 ⟨h.row1.mono hs,h.row2.mono hs,A7 h.px hs,h.ok,h.sub1,h.sub2,h.few,h.blk⟩
theorem qn.nil {W:World} {D:List aA} {ys:Option Addr→Nat→List Int} {y1 y2:Value} {xs1 xs2:List aA} (h:qn W D ys y1 y2 xs1 xs2):∀ x∈D,x.a=none→ys x.a x.l=[]:=fun x hx ha=>List.length_eq_zero_iff.1 ((h.px.2 x hx).1.trans (h.ok.nil x hx ha))
theorem DU {W:World} {D:List aA} {ys:Option Addr→Nat→List Int} {y1 y2:Value} {xs1 xs2:List aA} (h:qn W D ys y1 y2 xs1 xs2):Calls Try.prog 21 #[y1,y2] W (lP W (tk (aF (yI ys) xs1) (aF (yI ys) xs2) xs1 xs2)):=by
 have hH:rd.sV D xs1 xs2:=⟨h.few,fun e he=>h.ok.size e (h.sub1 e he),fun e he=>h.ok.size e (h.sub2 e he),h.sub1,h.sub2⟩
 have hp:=h.px
 have hk:=h.ok
 unfold tk
 rw [← rd.uN h.ok h.sub1 h.sub2 h.nil]
 rcases h.row1 with ⟨rfl,rfl⟩ | ⟨n1,g1,k1,r1⟩
 ·rcases h.row2 with ⟨rfl,rfl⟩ | ⟨n2,g2,k2,r2⟩
  ·exact rd.HN hk hp hH
  ·exact rd.Il hk hp hH n2 r2
 ·rcases h.row2 with ⟨rfl,rfl⟩ | ⟨n2,g2,k2,r2⟩
  ·exact rd.HD hk hp hH n1 r1
  ·refine rd.Hz hk hp hH n1 r1 n2 r2 ?_
   obtain ⟨_,e1,_⟩:=r1
   obtain ⟨_,e2,_⟩:=r2
   exact h.blk _ _ _ _ _ _ e1 e2
section
variable {W:World} {cs0:List Frame} {M:Own} {ν:aU} {D:List aA} {ys:Option Addr→Nat→List Int} {y1 y2:Value} {xs1 xs2:List aA}
theorem sR (h:qn W D ys y1 y2 xs1 xs2) {S:SM} {p:ByteArray} {o o2:List (Nat × gX)} {H:Hp} {M1:Own} {w1:World} (hk:Kept W.hp M W H M1 w1) {R:Ending→World→Prop}
  (q1:ak (bI aL 25 100 S o)) (q2:er aL 25 100 S o=dm aL 25 [.v y1,.v (.string p)] .normal)
  (q3:∀ k a l c,ak (bE aL 25 100 S o (bV k a l c)))
  (q4:∀ k a l c,ak (bI aL 25 100 (bq aL 25 100 S o (bV k a l c)) o2)) (q5:∀ k a l c,er aL 25 100 (bq aL 25 100 S o (bV k a l c)) o2=dm aL 25 [.v y2,.v (.string p)] .normal)
  (q6:∀ k a l c k' a' l' c',ak (bE aL 25 100 (bq aL 25 100 S o (bV k a l c)) o2 (bV k' a' l' c')))
  (q7:∀ k a l c k' a' l' c',ak (bI aL 24 100 (bq aL 25 100 (bq aL 25 100 S o (bV k a l c)) o2 (bV k' a' l' c')) o2))
  (q8:∀ k a l c k' a' l' c',er aL 24 100 (bq aL 25 100 (bq aL 25 100 S o (bV k a l c)) o2 (bV k' a' l' c')) o2=dm aL 24 [bV k a l c,bV k' a' l' c'] .normal)
  (q9:∀ k a l c k' a' l' c' t,ak (bE aL 24 100 (bq aL 25 100 (bq aL 25 100 S o (bV k a l c)) o2 (bV k' a' l' c')) o2 (.v (.bool t))))
  (nx:∀ H' M2 w2 k a l c k' a' l' c',Kept W.hp M W H' M2 w2→af aL M2 w2 cs0 12 R ν (bq aL 24 100 (bq aL 25 100 (bq aL 25 100 S o (bV k a l c)) o2 (bV k' a' l' c')) o2 (.v (.bool (!rd.cF ys xs1 xs2 p))))):
  af aL M1 w1 cs0 12 R ν S:=by
 refine af.eH de hk (n:=100) (g:=25) (o:=o) (args:=[.v y1,.v (.string p)]) q1 q2 fun ν' w a hle hsub hgr ha=>?_
 obtain ⟨u1,as1,rfl,r1,ha2⟩:=ha.cons_inv
 obtain ⟨u2,as2,rfl,r2,ha3⟩:=ha2.cons_inv
 obtain rfl:=ha3.aB
 obtain rfl:=VR.ah.1 r1
 obtain rfl:=VR.ah.1 r2
 have hf:=h.few
 refine (Aw (h.row1.mono (hk.sub0.trans hsub)) (by omega) p).mono fun e w' ⟨hB,he⟩=>⟨hB,_,he,fun M2 hK2=>⟨q3 _ _ _ _,?_⟩⟩
 refine af.eH de hK2 (n:=100) (g:=25) (o:=o2) (args:=[.v y2,.v (.string p)]) (q4 _ _ _ _) (q5 _ _ _ _) fun ν2 w2 a2 hle2 hsub2 hgr2 ha2=>?_
 obtain ⟨u3,as1,rfl,r1,ha3⟩:=ha2.cons_inv
 obtain ⟨u4,as2,rfl,r2,ha4⟩:=ha3.cons_inv
 obtain rfl:=ha4.aB
 obtain rfl:=VR.ah.1 r1
 obtain rfl:=VR.ah.1 r2
 refine (Aw (h.row2.mono (hK2.sub0.trans hsub2)) (by omega) p).mono fun e w3 ⟨hB3,he3⟩=>⟨hB3,_,he3,fun M3 hK3=>⟨q6 _ _ _ _ _ _ _ _,?_⟩⟩
 refine af.eH de hK3 (n:=100) (g:=24) (o:=o2) (args:=[bV (aj p xs1).k (aj p xs1).a (aj p xs1).l (aj p xs1).c,bV (aj p xs2).k (aj p xs2).a (aj p xs2).l (aj p xs2).c]) (q7 _ _ _ _ _ _ _ _) (q8 _ _ _ _ _ _ _ _) fun ν4 w4 a4 hle4 hsub4 hgr4 ha4=>?_
 obtain ⟨u5,as1,rfl,r1,ha2⟩:=ha4.cons_inv
 obtain ⟨u6,as2,rfl,r2,ha3⟩:=ha2.cons_inv
 obtain rfl:=ha3.aB
 obtain rfl:=VR.ah.1 r1
 obtain rfl:=VR.ah.1 r2
 have hX:=A7 h.px (hK3.sub0.trans hsub4)
 have g1:=rd.vu hX h.ok (rd.bA h.sub1 p)
 have g2:=rd.vu hX h.ok (rd.bA h.sub2 p)
 refine (tO (k:=(aj p xs1).k) (k':=(aj p xs2).k) (c:=(aj p xs1).c) (c':=(aj p xs2).c) g1 g2).mono fun e w5 ⟨he5,hB5⟩=>⟨hB5,_,he5,fun M5 hK5=>⟨q9 _ _ _ _ _ _ _ _ _,?_⟩⟩
 have ht:(((aj p xs1).k==(aj p xs2).k)&&(Lib.bytesOf (rd.gD ys (aj p xs1).a (aj p xs1).l)==Lib.bytesOf (rd.gD ys (aj p xs2).a (aj p xs2).l)))=!rd.cF ys xs1 xs2 p:=by unfold rd.cF;rw [Bool.not_not]
 rw [ht]
 exact nx _ M5 w5 _ _ _ _ _ _ _ _ hK5
end
section
variable {W:World} {cs0:List Frame} {M:Own} {ν:aU} {D:List aA} {ys:Option Addr→Nat→List Int} {y1 y2:Value} {xs1 xs2:List aA} {DO:List bU} {off c:Nat}
theorem qD (h:qn W D ys y1 y2 xs1 xs2) (hM:∀ z,¬ M z) (hν:∀ i b,ν i=some b→i=0) (few:DO.length≤1000):∀ (j i:Nat),i+j=DO.length→∀ H M1 w1,Kept W.hp M W H M1 w1→(ca.aG (aF (yI ys) xs1) (aF (yI ys) xs2) (DO.take i))≠[]→af aL M1 w1 cs0 12 (lP W (ca.aG (aF (yI ys) xs1) (aF (yI ys) xs2) DO)) ν (SM.at (jb y1 y2 off DO.length c (rc (ca.aG (aF (yI ys) xs1) (aF (yI ys) xs2) (DO.take i)).length) (i:Int)) 6 (fj (ar oC off DO) (strs (ca.aG (aF (yI ys) xs1) (aF (yI ys) xs2) (DO.take i)))))
 | 0,i,hj,H,M1,w1,hk,hne=>by
  rw [List.take_of_length_le (by omega)] at hne ⊢
  refine af.bR de (n:=60) (o:=(ff [0] false)) (x:=rc (ca.aG (aF (yI ys) xs1) (aF (yI ys) xs2) DO).length) (i:=1) (so:=.row (strs (ca.aG (aF (yI ys) xs1) (aF (yI ys) xs2) DO)) 9 (0,0) (some 1)) (by
   rw [Iw (w:=[]) (l':=[]) (i':=0) (p:=⟨#[]⟩) (z:=0)]
   simp only [ak,au,decide_eq_false (show ¬ (i:Int)<(DO.length:Int) by omega),and_self,and_true,true_and]) fun ν' w' y b ob hv hb ho hor hw hB'=>?_
  obtain ⟨M3,w3,M4,s',hBb,hr⟩:=hB'
  have hn:W.heap.size≤b.1:=by
   rcases hk.base.own _ hw with h | h
   ·exact h
   ·exact absurd h (hM _)
  exact ⟨aI hM (hk.base.trans hBb) hr,y,rfl,.inr ⟨hne,cy.e8 hv hb ho hor hn fun zs hz=>fD hz⟩⟩
 | j+1,i,hj,H,M1,w1,hk,hne=>by
  have hi:i<DO.length:=by omega
  have hsn:=ca.kf (aF (yI ys) xs1) (aF (yI ys) xs2) hi
  generalize hx:DO[i]=x at hsn
  have hxi:DO[i]?=some x:=by rw [← hx];exact List.getElem?_eq_getElem hi
  have t1:decide ((i:Int)<(DO.length:Int))=true:=decide_eq_true (by omega)
  have r1:=aO hi
  have ws:=aM (k:=i) (by omega)
  have rp:=rs.L6 (off:=off) hxi
  have rk':=rs.L4 (off:=off) hxi
  have hdp:rd.cF ys xs1 xs2 x.p=hJ ((aF (yI ys) xs1) x.p) ((aF (yI ys) xs2) x.p):=congrFun (rd.uN h.ok h.sub1 h.sub2 h.nil) x.p
  have hcl:(ar oC off DO).all ab=true:=bw dK
  have hgl:(ca.aG (aF (yI ys) xs1) (aF (yI ys) xs2) (DO.take i)).length≤1000:=by
   unfold ca.aG
   rw [List.length_map]
   exact Nat.le_trans (List.length_filter_le _ _) (by rw [List.length_take];omega)
  by_cases h4:x.k=4
  ·have q4:(x.k==(4:Int))=true:=by rw [h4];rfl
   have hcb:ca.e9 (aF (yI ys) xs1) (aF (yI ys) xs2) x=rd.cF ys xs1 xs2 x.p:=by rw [hdp];unfold ca.e9;rw [q4];rfl
   refine sR h hk (S:=(SM.at (jb y1 y2 off DO.length c (rc (ca.aG (aF (yI ys) xs1) (aF (yI ys) xs2) (DO.take i)).length) (i:Int)) 6 (fj (ar oC off DO) (strs (ca.aG (aF (yI ys) xs1) (aF (yI ys) xs2) (DO.take i)))))) (p:=x.p) (o:=([(2,.cells [.v (.string x.p)]),(4,.cells [.v (.int .i64 x.k)])]++ff (List.range 60) true)) (o2:=(ff (List.range 60) true)) ?_ (by kernel_rfl) (fun k a l c'=>?_) (fun k a l c'=>?_) (fun k a l c'=>by kernel_rfl) (fun k a l c' k2 a2 l2 c2=>?_) (fun k a l c' k2 a2 l2 c2=>?_) (fun k a l c' k2 a2 l2 c2=>by kernel_rfl) (fun k a l c' k2 a2 l2 c2 t=>?_) fun H' M2 w2 k a l c' k2 a2 l2 c2 hk2=>?_
   ·rw [IU y1 y2 (ar oC off DO) (strs (ca.aG (aF (yI ys) xs1) (aF (yI ys) xs2) (DO.take i))) [] [] off DO.length c (ca.aG (aF (yI ys) xs1) (aF (yI ys) xs2) (DO.take i)).length (i:Int) 0 x.p x.k 0 0 none none 0 0 0 0]
    simp only [ak,t1,r1,rp,rk',q4,ws,hcl,aV,au,bg,aD,List.all_append,and_self,and_true,true_and]
   ·rw [HH y1 y2 (ar oC off DO) (strs (ca.aG (aF (yI ys) xs1) (aF (yI ys) xs2) (DO.take i))) [] [] off DO.length c (ca.aG (aF (yI ys) xs1) (aF (yI ys) xs2) (DO.take i)).length (i:Int) 0 x.p x.k k 0 a none l c' 0 0]
    simp only [ak,t1,r1,rp,rk',q4,ws,hcl,aV,au,bg,aD,List.all_append,and_self,and_true,true_and]
   ·show ak (bI aL 25 100 (DP y1 y2 (ar oC off DO) (strs (ca.aG (aF (yI ys) xs1) (aF (yI ys) xs2) (DO.take i))) off DO.length c (ca.aG (aF (yI ys) xs1) (aF (yI ys) xs2) (DO.take i)).length (i:Int) x.p x.k k a l c') (ff (List.range 60) true))
    rw [HV y1 y2 (ar oC off DO) (strs (ca.aG (aF (yI ys) xs1) (aF (yI ys) xs2) (DO.take i))) [] [] off DO.length c (ca.aG (aF (yI ys) xs1) (aF (yI ys) xs2) (DO.take i)).length (i:Int) 0 x.p x.k k 0 a none l c' 0 0]
    simp only [ak,t1,r1,rp,rk',q4,ws,hcl,aV,au,bg,aD,List.all_append,and_self,and_true,true_and]
   ·show ak (bE aL 25 100 (DP y1 y2 (ar oC off DO) (strs (ca.aG (aF (yI ys) xs1) (aF (yI ys) xs2) (DO.take i))) off DO.length c (ca.aG (aF (yI ys) xs1) (aF (yI ys) xs2) (DO.take i)).length (i:Int) x.p x.k k a l c') (ff (List.range 60) true) (bV k2 a2 l2 c2))
    rw [H4 y1 y2 (ar oC off DO) (strs (ca.aG (aF (yI ys) xs1) (aF (yI ys) xs2) (DO.take i))) [] [] off DO.length c (ca.aG (aF (yI ys) xs1) (aF (yI ys) xs2) (DO.take i)).length (i:Int) 0 x.p x.k k k2 a a2 l c' l2 c2]
    simp only [ak,t1,r1,rp,rk',q4,ws,hcl,aV,au,bg,aD,List.all_append,and_self,and_true,true_and]
   ·show ak (bI aL 24 100 (DW y1 y2 (ar oC off DO) (strs (ca.aG (aF (yI ys) xs1) (aF (yI ys) xs2) (DO.take i))) off DO.length c (ca.aG (aF (yI ys) xs1) (aF (yI ys) xs2) (DO.take i)).length (i:Int) x.p x.k k k2 a a2 l c' l2 c2) (ff (List.range 60) true))
    rw [I7 y1 y2 (ar oC off DO) (strs (ca.aG (aF (yI ys) xs1) (aF (yI ys) xs2) (DO.take i))) [] [] off DO.length c (ca.aG (aF (yI ys) xs1) (aF (yI ys) xs2) (DO.take i)).length (i:Int) 0 x.p x.k k k2 a a2 l c' l2 c2]
    simp only [ak,t1,r1,rp,rk',q4,ws,hcl,aV,au,bg,aD,List.all_append,and_self,and_true,true_and]
   ·show ak (bE aL 24 100 (DW y1 y2 (ar oC off DO) (strs (ca.aG (aF (yI ys) xs1) (aF (yI ys) xs2) (DO.take i))) off DO.length c (ca.aG (aF (yI ys) xs1) (aF (yI ys) xs2) (DO.take i)).length (i:Int) x.p x.k k k2 a a2 l c' l2 c2) (ff (List.range 60) true) (.v (.bool t)))
    rw [Jd y1 y2 (ar oC off DO) (strs (ca.aG (aF (yI ys) xs1) (aF (yI ys) xs2) (DO.take i))) [] [] off DO.length c (ca.aG (aF (yI ys) xs1) (aF (yI ys) xs2) (DO.take i)).length (i:Int) 0 x.p x.k k k2 a a2 l c' l2 c2 t]
    simp only [ak,t1,r1,rp,rk',q4,ws,hcl,aV,au,bg,aD,List.all_append,and_self,and_true,true_and]
   ·show af aL M2 w2 cs0 _ _ ν (Dw y1 y2 (ar oC off DO) (strs (ca.aG (aF (yI ys) xs1) (aF (yI ys) xs2) (DO.take i))) off DO.length c (ca.aG (aF (yI ys) xs1) (aF (yI ys) xs2) (DO.take i)).length (i:Int) x.p x.k k k2 a a2 l c' l2 c2 (!rd.cF ys xs1 xs2 x.p))
    cases hd:rd.cF ys xs1 xs2 x.p
    ·rw [hd] at hcb
     rw [hcb,if_neg (by decide),List.append_nil] at hsn
     have nx:=qD h hM hν few j (i+1) (by omega) H' M2 w2 hk2 (by rw [hsn];exact hne)
     rw [hsn] at nx
     refine af.reach de (k:=2) (n:=100) (S:=(Dw y1 y2 (ar oC off DO) (strs (ca.aG (aF (yI ys) xs1) (aF (yI ys) xs2) (DO.take i))) off DO.length c (ca.aG (aF (yI ys) xs1) (aF (yI ys) xs2) (DO.take i)).length (i:Int) x.p x.k k k2 a a2 l c' l2 c2 true)) (o:=(ff (List.range 2) true++ff (List.range 60) false)) (ren:=[(0,0),(1,1)]) (eqs:=[0,1]) ?_ (by kernel_rfl) (fun i b h=>by rw [hν i b h];rfl) nx
     rw [I1 y1 y2 (ar oC off DO) (strs (ca.aG (aF (yI ys) xs1) (aF (yI ys) xs2) (DO.take i))) [] [] off DO.length c (ca.aG (aF (yI ys) xs1) (aF (yI ys) xs2) (DO.take i)).length (i:Int) ((i+1:Nat):Int) x.p x.k k k2 a a2 l c' l2 c2]
     simp only [ak,t1,r1,rp,rk',q4,ws,hcl,aV,au,bg,aD,List.all_append,and_self,and_true,true_and]
     try (repeat' apply And.intro)
     all_goals first | rfl | omega | assumption | exact aV _ | exact List.take_of_length_le (by simp only [aD];omega) | skip
    ·rw [hd] at hcb
     rw [hcb,if_pos rfl] at hsn
     have nx:=qD h hM hν few j (i+1) (by omega) H' M2 w2 hk2 (by rw [hsn];simp)
     rw [hsn,List.length_append,show ([x.p]:List ByteArray).length=1 from rfl,gB,dW] at nx
     refine af.reach de (k:=2) (n:=100) (S:=(Dw y1 y2 (ar oC off DO) (strs (ca.aG (aF (yI ys) xs1) (aF (yI ys) xs2) (DO.take i))) off DO.length c (ca.aG (aF (yI ys) xs1) (aF (yI ys) xs2) (DO.take i)).length (i:Int) x.p x.k k k2 a a2 l c' l2 c2 false)) (o:=(ff (List.range 3) true++[(3,.app (strs (ca.aG (aF (yI ys) xs1) (aF (yI ys) xs2) (DO.take i))) [.v (.string x.p)])]++ff (List.range 60) false)) (ren:=[(0,0),(1,3)]) (eqs:=[0,1]) ?_ (by kernel_rfl) (fun i b h=>by rw [hν i b h];rfl) nx
     rw [IF y1 y2 (ar oC off DO) (strs (ca.aG (aF (yI ys) xs1) (aF (yI ys) xs2) (DO.take i))) [SV.v (.string x.p)] (strs (ca.aG (aF (yI ys) xs1) (aF (yI ys) xs2) (DO.take i))++[SV.v (.string x.p)]) off DO.length c (ca.aG (aF (yI ys) xs1) (aF (yI ys) xs2) (DO.take i)).length (i:Int) ((i+1:Nat):Int) x.p x.k k k2 a a2 l c' l2 c2]
     simp only [ak,t1,r1,rp,rk',q4,ws,hcl,aV,au,bg,aD,List.all_append,and_self,and_true,true_and]
     try (repeat' apply And.intro)
     all_goals first | rfl | omega | assumption | exact aV _ | exact List.take_of_length_le (by simp only [aD];omega) | skip
  ·have q4:(x.k==(4:Int))=false:=by simpa using h4
   have hcb:ca.e9 (aF (yI ys) xs1) (aF (yI ys) xs2) x=false:=by unfold ca.e9;rw [q4];rfl
   rw [hcb,if_neg (by decide),List.append_nil] at hsn
   have nx:=qD h hM hν few j (i+1) (by omega) H M1 w1 hk (by rw [hsn];exact hne)
   rw [hsn] at nx
   refine af.reach de (k:=2) (n:=100) (o:=([(2,.cells [.v (.string x.p)]),(4,.cells [.v (.int .i64 x.k)])]++ff (List.range 5) true++ff (List.range 60) false)) (ren:=[(0,0),(1,1)]) (eqs:=[0,1]) ?_ (by kernel_rfl) (fun i b h=>by rw [hν i b h];rfl) nx
   rw [IA y1 y2 (ar oC off DO) (strs (ca.aG (aF (yI ys) xs1) (aF (yI ys) xs2) (DO.take i))) [] [] off DO.length c (ca.aG (aF (yI ys) xs1) (aF (yI ys) xs2) (DO.take i)).length (i:Int) ((i+1:Nat):Int) x.p x.k]
   simp only [ak,t1,r1,rp,rk',q4,ws,hcl,aV,au,bg,aD,List.all_append,and_self,and_true,true_and]
   try (repeat' apply And.intro)
   all_goals first | rfl | omega | assumption | exact aV _ | exact List.take_of_length_le (by simp only [aD];omega) | skip
theorem vF (h:qn W D ys y1 y2 xs1 xs2) (hM:∀ z,¬ M z) (hν:∀ i b,ν i=some b→i=0) (few:DO.length≤1000):∀ (j i:Nat),i+j=DO.length→∀ H M1 w1,Kept W.hp M W H M1 w1→(ca.aG (aF (yI ys) xs1) (aF (yI ys) xs2) (DO.take i))=[]→af aL M1 w1 cs0 12 (lP W (ca.aG (aF (yI ys) xs1) (aF (yI ys) xs2) DO)) ν (SM.at (jb y1 y2 off DO.length c aK (i:Int)) 6 (fA (ar oC off DO)))
 | 0,i,hj,H,M1,w1,hk,hne=>by
  rw [List.take_of_length_le (by omega)] at hne
  refine af.ax de (n:=60) (o:=(ff [0] false)) (v:=.slice none 0 0) ?_ fun ν' M3 w3 s' w' _ hB' hr=>⟨aI hM (hk.base.trans hB') hr,_,rfl,.inl ⟨hne,rfl⟩⟩
  rw [HZ (m:=[]) (w:=[]) (l':=[]) (k:=0) (i':=0) (p:=⟨#[]⟩) (z:=0)]
  simp only [ak,decide_eq_false (show ¬ (i:Int)<(DO.length:Int) by omega),and_self,and_true,true_and]
 | j+1,i,hj,H,M1,w1,hk,hne=>by
  have hi:i<DO.length:=by omega
  have hsn:=ca.kf (aF (yI ys) xs1) (aF (yI ys) xs2) hi
  generalize hx:DO[i]=x at hsn
  have hxi:DO[i]?=some x:=by rw [← hx];exact List.getElem?_eq_getElem hi
  have t1:decide ((i:Int)<(DO.length:Int))=true:=decide_eq_true (by omega)
  have r1:=aO hi
  have ws:=aM (k:=i) (by omega)
  have rp:=rs.L6 (off:=off) hxi
  have rk':=rs.L4 (off:=off) hxi
  have hdp:rd.cF ys xs1 xs2 x.p=hJ ((aF (yI ys) xs1) x.p) ((aF (yI ys) xs2) x.p):=congrFun (rd.uN h.ok h.sub1 h.sub2 h.nil) x.p
  have hcl:(ar oC off DO).all ab=true:=bw dK
  have hgl:(ca.aG (aF (yI ys) xs1) (aF (yI ys) xs2) (DO.take i)).length≤1000:=by
   unfold ca.aG
   rw [List.length_map]
   exact Nat.le_trans (List.length_filter_le _ _) (by rw [List.length_take];omega)
  by_cases h4:x.k=4
  ·have q4:(x.k==(4:Int))=true:=by rw [h4];rfl
   have hcb:ca.e9 (aF (yI ys) xs1) (aF (yI ys) xs2) x=rd.cF ys xs1 xs2 x.p:=by rw [hdp];unfold ca.e9;rw [q4];rfl
   refine sR h hk (S:=(SM.at (jb y1 y2 off DO.length c aK (i:Int)) 6 (fA (ar oC off DO)))) (p:=x.p) (o:=([(2,.cells [.v (.string x.p)]),(4,.cells [.v (.int .i64 x.k)])]++ff (List.range 60) true)) (o2:=(ff (List.range 60) true)) ?_ (by kernel_rfl) (fun k a l c'=>?_) (fun k a l c'=>?_) (fun k a l c'=>by kernel_rfl) (fun k a l c' k2 a2 l2 c2=>?_) (fun k a l c' k2 a2 l2 c2=>?_) (fun k a l c' k2 a2 l2 c2=>by kernel_rfl) (fun k a l c' k2 a2 l2 c2 t=>?_) fun H' M2 w2 k a l c' k2 a2 l2 c2 hk2=>?_
   ·rw [HM y1 y2 (ar oC off DO) [] [] [] off DO.length c 0 (i:Int) 0 x.p x.k 0 0 none none 0 0 0 0]
    simp only [ak,t1,r1,rp,rk',q4,ws,hcl,aV,au,bg,aD,List.all_append,and_self,and_true,true_and]
   ·rw [IB y1 y2 (ar oC off DO) [] [] [] off DO.length c 0 (i:Int) 0 x.p x.k k 0 a none l c' 0 0]
    simp only [ak,t1,r1,rp,rk',q4,ws,hcl,aV,au,bg,aD,List.all_append,and_self,and_true,true_and]
   ·show ak (bI aL 25 100 (EM y1 y2 (ar oC off DO) [] off DO.length c 0 (i:Int) x.p x.k k a l c') (ff (List.range 60) true))
    rw [H8 y1 y2 (ar oC off DO) [] [] [] off DO.length c 0 (i:Int) 0 x.p x.k k 0 a none l c' 0 0]
    simp only [ak,t1,r1,rp,rk',q4,ws,hcl,aV,au,bg,aD,List.all_append,and_self,and_true,true_and]
   ·show ak (bE aL 25 100 (EM y1 y2 (ar oC off DO) [] off DO.length c 0 (i:Int) x.p x.k k a l c') (ff (List.range 60) true) (bV k2 a2 l2 c2))
    rw [H7 y1 y2 (ar oC off DO) [] [] [] off DO.length c 0 (i:Int) 0 x.p x.k k k2 a a2 l c' l2 c2]
    simp only [ak,t1,r1,rp,rk',q4,ws,hcl,aV,au,bg,aD,List.all_append,and_self,and_true,true_and]
   ·show ak (bI aL 24 100 (CI y1 y2 (ar oC off DO) [] off DO.length c 0 (i:Int) x.p x.k k k2 a a2 l c' l2 c2) (ff (List.range 60) true))
    rw [IQ y1 y2 (ar oC off DO) [] [] [] off DO.length c 0 (i:Int) 0 x.p x.k k k2 a a2 l c' l2 c2]
    simp only [ak,t1,r1,rp,rk',q4,ws,hcl,aV,au,bg,aD,List.all_append,and_self,and_true,true_and]
   ·show ak (bE aL 24 100 (CI y1 y2 (ar oC off DO) [] off DO.length c 0 (i:Int) x.p x.k k k2 a a2 l c' l2 c2) (ff (List.range 60) true) (.v (.bool t)))
    rw [IM y1 y2 (ar oC off DO) [] [] [] off DO.length c 0 (i:Int) 0 x.p x.k k k2 a a2 l c' l2 c2 t]
    simp only [ak,t1,r1,rp,rk',q4,ws,hcl,aV,au,bg,aD,List.all_append,and_self,and_true,true_and]
   ·show af aL M2 w2 cs0 _ _ ν (Ez y1 y2 (ar oC off DO) [] off DO.length c 0 (i:Int) x.p x.k k k2 a a2 l c' l2 c2 (!rd.cF ys xs1 xs2 x.p))
    cases hd:rd.cF ys xs1 xs2 x.p
    ·rw [hd] at hcb
     rw [hcb,if_neg (by decide),List.append_nil] at hsn
     have nx:=vF h hM hν few j (i+1) (by omega) H' M2 w2 hk2 (by rw [hsn];exact hne)
     refine af.reach de (k:=2) (n:=100) (S:=(Ez y1 y2 (ar oC off DO) [] off DO.length c 0 (i:Int) x.p x.k k k2 a a2 l c' l2 c2 true)) (o:=(ff (List.range 2) true++ff (List.range 60) false)) (ren:=[(0,0)]) (eqs:=[0]) ?_ (by kernel_rfl) (fun i b h=>by rw [hν i b h];rfl) nx
     rw [I2 y1 y2 (ar oC off DO) [] [] [] off DO.length c 0 (i:Int) ((i+1:Nat):Int) x.p x.k k k2 a a2 l c' l2 c2]
     simp only [ak,t1,r1,rp,rk',q4,ws,hcl,aV,au,bg,aD,List.all_append,and_self,and_true,true_and]
     try (repeat' apply And.intro)
     all_goals first | rfl | omega | assumption | exact aV _ | exact List.take_of_length_le (by simp only [aD];omega) | skip
    ·rw [hd] at hcb
     rw [hcb,if_pos rfl] at hsn
     have nx:=qD (cs0:=cs0) (c:=c) (off:=off) h hM hν few j (i+1) (by omega) H' M2 w2 hk2 (by rw [hsn];simp)
     rw [hsn,hne,List.nil_append,show ([x.p]:List ByteArray).length=1 from rfl,dW] at nx
     refine af.reach de (k:=2) (n:=100) (S:=(Ez y1 y2 (ar oC off DO) [] off DO.length c 0 (i:Int) x.p x.k k k2 a a2 l c' l2 c2 false)) (o:=(ff (List.range 3) true++ff (List.range 60) false)) (ren:=[(0,0),(1,2)]) (eqs:=[0,1]) ?_ (by kernel_rfl) (fun i b h=>by rw [hν i b h];rfl) nx
     rw [Ja y1 y2 (ar oC off DO) [] [] [SV.v (.string x.p)] off DO.length c 0 (i:Int) ((i+1:Nat):Int) x.p x.k k k2 a a2 l c' l2 c2]
     simp only [ak,t1,r1,rp,rk',q4,ws,hcl,aV,au,bg,aD,List.all_append,and_self,and_true,true_and]
     try (repeat' apply And.intro)
     all_goals first | rfl | omega | assumption | exact aV _ | exact List.take_of_length_le (by simp only [aD];omega) | skip
  ·have q4:(x.k==(4:Int))=false:=by simpa using h4
   have hcb:ca.e9 (aF (yI ys) xs1) (aF (yI ys) xs2) x=false:=by unfold ca.e9;rw [q4];rfl
   rw [hcb,if_neg (by decide),List.append_nil] at hsn
   have nx:=vF h hM hν few j (i+1) (by omega) H M1 w1 hk (by rw [hsn];exact hne)
   refine af.reach de (k:=2) (n:=100) (o:=([(2,.cells [.v (.string x.p)]),(4,.cells [.v (.int .i64 x.k)])]++ff (List.range 5) true++ff (List.range 60) false)) (ren:=[(0,0)]) (eqs:=[0]) ?_ (by kernel_rfl) (fun i b h=>by rw [hν i b h];rfl) nx
   rw [H6 y1 y2 (ar oC off DO) [] [] [] off DO.length c 0 (i:Int) ((i+1:Nat):Int) x.p x.k]
   simp only [ak,t1,r1,rp,rk',q4,ws,hcl,aV,au,bg,aD,List.all_append,and_self,and_true,true_and]
   try (repeat' apply And.intro)
   all_goals first | rfl | omega | assumption | exact aV _ | exact List.take_of_length_le (by simp only [aD];omega) | skip
end
theorem sn {W:World} {D:List aA} {ys:Option Addr→Nat→List Int} {y1 y2:Value} {xs1 xs2:List aA} {a:Option Addr} {l c:Nat} {DO:List bU} (h:qn W D ys y1 y2 xs1 xs2) (hO:gC W a l c DO) (few:DO.length≤1000):
  Calls Try.prog 12 #[y1,y2,.slice a l c] W (lP W (ca.aG (aF (yI ys) xs1) (aF (yI ys) xs2) DO)):=by
 rcases hO with ⟨rfl,rfl⟩ | ⟨b,off,cs,e,fz,rfl,rfl,hlc,hh,hoff,hc⟩
 ·refine (cp (E:=aL) rfl rfl (args:=[.v y1,.v y2,.v (.slice a 0 c)]) (a:=[y1,y2,.slice a 0 c]) (S0:=xb y1 y2 a c) (by kernel_rfl) (ay.cons (VR.ah.2 rfl) (ay.cons (VR.ah.2 rfl) (ay.cons (VR.ah.2 rfl) ay.nil))) fun cs0=>?_)
  refine af.ax de (n:=60) (o:=([(1000,.b true)]++ff [0] false)) (v:=.slice none 0 0) ?_ fun ν' M3 w3 s' w' _ hB' hr=>⟨aI bo hB' hr,_,rfl,.inl ⟨rfl,rfl⟩⟩
  rw [Iq]
  simp only [ak,and_self,and_true,true_and]
 ·have ho:∀ (j:Nat) (o':SO) (b' c':Nat),[SO.look (ar oC off DO)][j]?=some o'→[(b,0)][j]?=some (b',c')→∃ r,W.heap[b']?=some r∧OR (aE [(b,0)]) j o' r:=by
   intro j o' b' c' q1 q2
   match j with
   | 0=>
    simp only [List.getElem?_cons_zero,Option.some.injEq] at q1 q2
    subst q1
    cases q2
    exact ⟨_,hh,eK (h:=oV) (fun ν x=>ay.lits ν (oV x)) hoff hc⟩
   | j+1=>simp at q1
  refine aY (E:=aL) rfl (d:=6) (l:=[(b,0)]) (os:=[.look (ar oC off DO)]) rfl (by simp) (by simp) ho rfl (args:=[.v y1,.v y2,.sl 0 off DO.length (some c)]) (a:=[y1,y2,.slice (some ⟨b,off,none⟩) DO.length c]) (S0:=Eo y1 y2 (ar oC off DO) off DO.length c) (by kernel_rfl) (ay.cons (VR.ah.2 rfl) (ay.cons (VR.ah.2 rfl) (ay.cons (VR.aQ.2 ⟨(b,0),rfl,hlc,rfl⟩) ay.nil))) fun cs0=>?_
  have hM:∀ z,¬ (aT [(b,0)] ([SO.look (ar oC off DO)].map fun o=>(o,false))) z:=fun z=>a6 (os:=[_])
  have hK0:=Kept.start (H0:=W.hp) (M:=aT [(b,0)] ([SO.look (ar oC off DO)].map fun o=>(o,false))) (w:=W) (Hp.Sub.refl _) (fun z o _=>hM z) (dh (by
   intro j o' m b' c' q1 q2
   rw [List.getElem?_map] at q1
   obtain ⟨o2,q3,q4⟩:=Option.map_eq_some_iff.1 q1
   cases q4
   exact ho j o' b' c' q3 q2)) (fun _ h=>h)
  have hν:∀ i b',aE [(b,0)] i=some b'→i=0:=fun i b' h=>fQ h
  have hcl:(ar oC off DO).all ab=true:=bw dK
  have nx:=vF (cs0:=cs0) (c:=c) (off:=off) (ν:=aE [(b,0)]) h hM hν few DO.length 0 (by omega) W.hp _ W hK0 rfl
  refine af.reach de (k:=2) (n:=60) (o:=[(1000,.b true)]) (ren:=[(0,0)]) (eqs:=[0]) (F:=jb y1 y2 off DO.length c aK 0) (d:=6) (l:=fA (ar oC off DO)) ?_ (by kernel_rfl) (fun i b h=>by rw [hν i b h];rfl) nx
  rw [Mq (m:=[]) (w:=[]) (l':=[]) (k:=0) (i:=0) (i':=0) (p:=⟨#[]⟩) (z:=0)]
  simp only [ak,hcl,aK,and_self,and_true,true_and]
end rk
end paths
end Go.Proofs.Ytbjmmnegkpeboaa
set_option linter.unusedSimpArgs false
set_option linter.unusedVariables false
set_option maxRecDepth 100000
namespace Go.Proofs.Ytbjmmnegkpeboaa
open Go Go.Rx Go.RowKit Go.Proofs
namespace paths
namespace rs
theorem FT {z1 z2:ByteArray→Int × List Int} {xs1 xs2:List aA} (h:xs1.length+xs2.length≤1000):(tk z1 z2 xs1 xs2).length≤1000:=by
 unfold tk
 have h1:=iY (en xs1) []
 have h2:=iY (en xs2) (bL [] (en xs1))
 have h3:=List.length_filter_le (pd z1 z2) (bL (bL [] (en xs1)) (en xs2))
 simp only [en,List.length_map,List.length_nil] at h1 h2 h3 ⊢
 omega
theorem qt {W:World} {D:List aA} {ys:Option Addr→Nat→List Int} {y1 y2:Value} {xs1 xs2:List aA} {a:Option Addr} {l c:Nat} {DO:List bU} (h:rk.qn W D ys y1 y2 xs1 xs2) (hO:gC W a l c DO) (few:DO.length≤1000):
  Calls Try.prog 10 #[y1,y2,.slice a l c] W (lP W (wH (aF (yI ys) xs1) (aF (yI ys) xs2) xs1 xs2 DO)):=by
 have hd:∀ {H:Hp} {w:World} {ν':aU} {aa:List Value},W.hp.Sub H→H.Sub w.hp→ay ν' [.v y1,.v y2] aa→Calls Try.prog 21 aa.toArray w (lP w (tk (aF (yI ys) xs1) (aF (yI ys) xs2) xs1 xs2)):=by
  intro H w ν' aa h0 hs ha
  obtain ⟨u1,as1,rfl,r1,ha2⟩:=ha.cons_inv
  obtain ⟨u2,as2,rfl,r2,ha3⟩:=ha2.cons_inv
  obtain rfl:=ha3.aB
  obtain rfl:=VR.ah.1 r1
  obtain rfl:=VR.ah.1 r2
  exact rk.DU (h.mono (h0.trans hs))
 have fewL:=FT (z1:=aF (yI ys) xs1) (z2:=aF (yI ys) xs2) h.few
 unfold wH
 generalize tk (aF (yI ys) xs1) (aF (yI ys) xs2) xs1 xs2=L at hd fewL ⊢
 rcases hO with ⟨rfl,rfl⟩ | ⟨b,off,cs,e,fz,rfl,rfl,hlc,hh,hoff,hc⟩
 ·have eL:(L.filter fun q=>!([]:List bU).any (cL q))=L:=List.filter_eq_self.2 fun q _=>rfl
  rw [eL]
  refine (cp (E:=aL) rfl rfl (args:=[.v y1,.v y2,.v (.slice a 0 c)]) (a:=[y1,y2,.slice a 0 c]) (S0:=tx y1 y2 a c) (by kernel_rfl) (ay.cons (VR.ah.2 rfl) (ay.cons (VR.ah.2 rfl) (ay.cons (VR.ah.2 rfl) ay.nil))) fun cs0=>?_)
  have hM:∀ z,¬ (aT [] []) z:=bo
  have hK0:=Kept.start (H0:=W.hp) (M:=aT [] []) (w:=W) (Hp.Sub.refl _) (fun z o _=>hM z) (dh (l:=[]) (os:=[]) (by intro j o' m b' c' q1 q2;simp at q1)) (fun _ h=>h)
  have hν:∀ i b',aE [] i=some b'→False:=fun i b' h=>by simp [aE] at h
  by_cases hL:L=[]
  ·refine af.eH de hK0 (n:=100) (g:=21) (o:=oT) (args:=[.v y1,.v y2]) (by rw [NZ (m:=0) (qq:=[])];trivial) (by kernel_rfl) fun ν' w aa hle hsub hgr ha=>?_
   refine (hd hK0.sub0 hsub ha).mono fun e w' ⟨hB,v,he,hv⟩=>?_
   obtain rfl:v=.slice none 0 0:=by
    rcases hv with ⟨_,h⟩ | ⟨h0,_⟩
    ·exact h
    ·exact absurd hL h0
   refine ⟨hB,_,he,fun M2 hK2=>⟨by rw [RO (m:=0) (qq:=[])];trivial,?_⟩⟩
   refine af.ax de (n:=100) (o:=(ff [0,1,2,3] false++[(1000,.b true)])) (v:=.slice none 0 0) ?_ fun ν'' M5 w5 s5 w6 _ hB5 hr5=>⟨aI hM (hK2.base.trans hB5) hr5,_,rfl,.inl ⟨hL,rfl⟩⟩
   rw [Pw (m:=0) (qq:=[])]
   simp only [ak,and_self,and_true,true_and]
  ·refine af.Cx de hK0 (n:=100) (g:=21) (o:=oT) (args:=[.v y1,.v y2]) (by rw [NZ (m:=0) (qq:=[])];trivial) (by kernel_rfl) fun ν' w aa hle hsub hgr ha=>?_
   refine (hd hK0.sub0 hsub ha).mono fun e w' ⟨hB,v,he,hv⟩=>?_
   rcases hv with ⟨h0,_⟩ | ⟨_,hs⟩
   ·exact absurd h0 hL
   obtain ⟨g,cc,rest,hy,hbase,hnc,hh,hsz⟩:=hs
   refine ⟨hB,v,wv L.length,wq L,g,cc,_,he,hbase,hh,fun ν2 j hj=>⟨⟨L.map Value.string,rest,rfl,?_,by rw [aD,List.length_append,List.length_map];omega,(g,cc),hj,hsz⟩,VR.aQ.2 ⟨(g,cc),hj,hnc,hy⟩⟩,by rw [QE];trivial,fun M2 hK2=>?_⟩
   ·have:strs L=(L.map Value.string).map SV.v:=by unfold strs;simp
    rw [this];exact ay.lits _ _
   show af aL M2 w' cs0 _ _ (aE []) (N6 y1 y2 a c L L.length)
   have nx:=Nt (cs0:=cs0) (a:=a) (c:=c) hM hν fewL hK2 hL
   refine af.reach de (k:=2) (n:=100) (o:=[(1000,.b true)]) (ren:=[(0,0)]) (eqs:=[0]) (F:=FF a c L.length aK 0) (d:=6) (l:=[e6 (strs L)]) ?_ (by kernel_rfl) (fun i b h=>(hν i b h).elim) nx
   rw [Ro]
   simp only [ak,au,aK,and_self,and_true,true_and]
 ·have ho:∀ (j:Nat) (o':SO) (b' c':Nat),[SO.look (ar oC off DO)][j]?=some o'→[(b,0)][j]?=some (b',c')→∃ r,W.heap[b']?=some r∧OR (aE [(b,0)]) j o' r:=by
   intro j o' b' c' q1 q2
   match j with
   | 0=>
    simp only [List.getElem?_cons_zero,Option.some.injEq] at q1 q2
    subst q1
    cases q2
    exact ⟨_,hh,eK (h:=oV) (fun ν x=>ay.lits ν (oV x)) hoff hc⟩
   | j+1=>simp at q1
  refine aY (E:=aL) rfl (d:=6) (l:=[(b,0)]) (os:=[.look (ar oC off DO)]) rfl (by simp) (by simp) ho rfl (args:=[.v y1,.v y2,.sl 0 off DO.length (some c)]) (a:=[y1,y2,.slice (some ⟨b,off,none⟩) DO.length c]) (S0:=ub y1 y2 (ar oC off DO) off DO.length c) (by kernel_rfl) (ay.cons (VR.ah.2 rfl) (ay.cons (VR.ah.2 rfl) (ay.cons (VR.aQ.2 ⟨(b,0),rfl,hlc,rfl⟩) ay.nil))) fun cs0=>?_
  have hM:∀ z,¬ (aT [(b,0)] ([SO.look (ar oC off DO)].map fun o=>(o,false))) z:=fun z=>a6 (os:=[_])
  have hK0:=Kept.start (H0:=W.hp) (M:=aT [(b,0)] ([SO.look (ar oC off DO)].map fun o=>(o,false))) (w:=W) (Hp.Sub.refl _) (fun z o _=>hM z) (dh (by
   intro j o' m b' c' q1 q2
   rw [List.getElem?_map] at q1
   obtain ⟨o2,q3,q4⟩:=Option.map_eq_some_iff.1 q1
   cases q4
   exact ho j o' b' c' q3 q2)) (fun _ h=>h)
  have hν:∀ i b',aE [(b,0)] i=some b'→i=0:=fun i b' h=>fQ h
  have hcl:(ar oC off DO).all ab=true:=bw dK
  by_cases hL:L=[]
  ·refine af.eH de hK0 (n:=100) (g:=21) (o:=oT) (args:=[.v y1,.v y2]) (by rw [NX (m:=0) (qq:=[])];trivial) (by kernel_rfl) fun ν' w aa hle hsub hgr ha=>?_
   refine (hd hK0.sub0 hsub ha).mono fun e w' ⟨hB,v,he,hv⟩=>?_
   obtain rfl:v=.slice none 0 0:=by
    rcases hv with ⟨_,h⟩ | ⟨h0,_⟩
    ·exact h
    ·exact absurd hL h0
   refine ⟨hB,_,he,fun M2 hK2=>⟨by rw [Pe (m:=0) (qq:=[])];trivial,?_⟩⟩
   refine af.ax de (n:=100) (o:=(ff [0,1,2,3] false++[(1000,.b true)])) (v:=.slice none 0 0) ?_ fun ν'' M5 w5 s5 w6 _ hB5 hr5=>⟨aI hM (hK2.base.trans hB5) hr5,_,rfl,.inl ⟨by rw [hL];rfl,rfl⟩⟩
   rw [RB (m:=0) (qq:=[])]
   simp only [ak,and_self,and_true,true_and]
  ·refine af.Cx de hK0 (n:=100) (g:=21) (o:=oT) (args:=[.v y1,.v y2]) (by rw [NX (m:=0) (qq:=[])];trivial) (by kernel_rfl) fun ν' w aa hle hsub hgr ha=>?_
   refine (hd hK0.sub0 hsub ha).mono fun e w' ⟨hB,v,he,hv⟩=>?_
   rcases hv with ⟨h0,_⟩ | ⟨_,hs⟩
   ·exact absurd h0 hL
   obtain ⟨g,cc,rest,hy,hbase,hnc,hh,hsz⟩:=hs
   refine ⟨hB,v,wv L.length,wq L,g,cc,_,he,hbase,hh,fun ν2 j hj=>⟨⟨L.map Value.string,rest,rfl,?_,by rw [aD,List.length_append,List.length_map];omega,(g,cc),hj,hsz⟩,VR.aQ.2 ⟨(g,cc),hj,hnc,hy⟩⟩,by rw [Qp];trivial,fun M2 hK2=>?_⟩
   ·have:strs L=(L.map Value.string).map SV.v:=by unfold strs;simp
    rw [this];exact ay.lits _ _
   show af aL M2 w' cs0 _ _ (aE [(b,0)]) (NH y1 y2 (ar oC off DO) off DO.length c L L.length)
   have nx:=J8 (cs0:=cs0) (off:=off) (c:=c) hM hν few fewL hK2 L.length 0 (by omega) rfl
   refine af.reach de (k:=2) (n:=100) (o:=[(1000,.b true)]) (ren:=[(0,0),(1,1)]) (eqs:=[0,1]) (F:=BY off DO.length c L.length aK 0) (d:=6) (l:=tg (ar oC off DO) (strs L)) ?_ (by kernel_rfl) (fun i b h=>by rw [hν i b h];rfl) nx
   rw [Pp]
   simp only [ak,hcl,au,aK,and_self,and_true,true_and]
end rs
end paths
end Go.Proofs.Ytbjmmnegkpeboaa
set_option linter.unusedSimpArgs false
set_option linter.unusedVariables false
set_option maxRecDepth 100000
namespace Go.Proofs.Ytbjmmnegkpeboaa
open Go Go.Rx Go.RowKit Go.Proofs
namespace paths
theorem Lz (l m:List SV) (n c d:Nat) (i i':Int) (q:ByteArray):reach aL 2 100 (SM.at (th n c d 1 i) 6 [cD l,cD m]) (ff [0] true++[(2,.cells [.v (.int .i64 1),.v (.string q)]),(10,.cells [.v (.string q)]),(13,.b false)]) [(0,0),(1,1)] [0,1] (th n c d 1 i') 6 [cD l,cD m]=[0=0∧n=n∧some c=some c,vZ 1=vZ 1,0=0∧n=n∧some d=some d,0=0∧n=n∧some c=some c,vZ (↑n:Int)=vZ (↑n:Int),vZ (IntKind.i64.wrap (i+1))=vZ i',l=l,l.all ab=true,m=m,m.all ab=true,(!q.toList==q.toList)=false,m[0+i.toNat*1]?=some (SV.v (Value.string q)),ao i n=true,List.take 2 (List.drop (0+i.toNat*2) l)=[SV.v (vZ 1),SV.v (Value.string q)]∧[SV.v (vZ 1),SV.v (Value.string q)].length=2,ao i n=true,decide (i<(↑n:Int))=true]:=by kernel_rfl
theorem Kp (l m:List SV) (n c d:Nat) (i i':Int) (q:ByteArray):reach aL 2 100 (SM.at (th n c d 2 i) 6 [cD l,cD m]) (ff [0] true++[(2,.cells [.v (.int .i64 2),.v (.string q)]),(10,.cells [.v (.string q)]),(13,.b false)]) [(0,0),(1,1)] [0,1] (th n c d 2 i') 6 [cD l,cD m]=[0=0∧n=n∧some c=some c,vZ 2=vZ 2,0=0∧n=n∧some d=some d,0=0∧n=n∧some c=some c,vZ (↑n:Int)=vZ (↑n:Int),vZ (IntKind.i64.wrap (i+1))=vZ i',l=l,l.all ab=true,m=m,m.all ab=true,(!q.toList==q.toList)=false,m[0+i.toNat*1]?=some (SV.v (Value.string q)),ao i n=true,List.take 2 (List.drop (0+i.toNat*2) l)=[SV.v (vZ 2),SV.v (Value.string q)]∧[SV.v (vZ 2),SV.v (Value.string q)].length=2,ao i n=true,decide (i<(↑n:Int))=true]:=by kernel_rfl
section
variable {w0:World} {cs0:List Frame} {L:List ByteArray} {M:Own} {ν:aU} {c d:Nat}
theorem Bb (hM:∀ z,¬ M z) (hν:∀ i b,ν i=some b→i=0∨i=1) (few:L.length≤100000):∀ (j i:Nat),i+j=L.length→
  af aL M w0 cs0 8 (fun e w'=>Below w0.heap.size w0 w'∧e=.returned (.bool true)) ν (SM.at (th L.length c d 1 (i:Int)) 6 [cD (eQ 1 L),cD (strs L)])
 | 0,i,hj=>by
  refine af.ax de (n:=60) (o:=ff [0] false) (v:=.bool true) ?_ fun ν' M1 w1 s' w' _ hB hr=>⟨aI hM hB hr,rfl⟩
  rw [N2]
  simp only [ak,and_self,and_true,true_and]
  exact decide_eq_false (by omega)
 | j+1,i,hj=>by
  have hi:i<L.length:=by omega
  have hq:L[i]?=some L[i]:=List.getElem?_eq_getElem hi
  have nx:=Bb hM hν few j (i+1) (by omega)
  have hqq:(L[i].toList==L[i].toList)=true:=by simp
  refine af.reach de (k:=2) (n:=100) (o:=ff [0] true++[(2,.cells [.v (.int .i64 1),.v (.string L[i])]),(10,.cells [.v (.string L[i])]),(13,.b false)]) (ren:=[(0,0),(1,1)]) (eqs:=[0,1]) ?_ (by kernel_rfl) (fun i b h=>by rcases hν i b h with h | h <;> rw [h] <;> rfl) nx
  rw [Lz]
  simp only [ak,aM (k:=i) (by omega),aO hi,decide_eq_true (show (i:Int)<(L.length:Int) by omega),tL hq,lW hq,gV,au,and_self,and_true,true_and]
  repeat' apply And.intro
  all_goals first | rfl | omega | exact aV _ | exact hqq | (simp;done) | skip
theorem AD (hM:∀ z,¬ M z) (hν:∀ i b,ν i=some b→i=0∨i=1) (few:L.length≤100000):∀ (j i:Nat),i+j=L.length→
  af aL M w0 cs0 8 (fun e w'=>Below w0.heap.size w0 w'∧e=.returned (.bool true)) ν (SM.at (th L.length c d 2 (i:Int)) 6 [cD (eQ 2 L),cD (strs L)])
 | 0,i,hj=>by
  refine af.ax de (n:=60) (o:=ff [0] false) (v:=.bool true) ?_ fun ν' M1 w1 s' w' _ hB hr=>⟨aI hM hB hr,rfl⟩
  rw [N2]
  simp only [ak,and_self,and_true,true_and]
  exact decide_eq_false (by omega)
 | j+1,i,hj=>by
  have hi:i<L.length:=by omega
  have hq:L[i]?=some L[i]:=List.getElem?_eq_getElem hi
  have nx:=AD hM hν few j (i+1) (by omega)
  have hqq:(L[i].toList==L[i].toList)=true:=by simp
  refine af.reach de (k:=2) (n:=100) (o:=ff [0] true++[(2,.cells [.v (.int .i64 2),.v (.string L[i])]),(10,.cells [.v (.string L[i])]),(13,.b false)]) (ren:=[(0,0),(1,1)]) (eqs:=[0,1]) ?_ (by kernel_rfl) (fun i b h=>by rcases hν i b h with h | h <;> rw [h] <;> rfl) nx
  rw [Kp]
  simp only [ak,aM (k:=i) (by omega),aO hi,decide_eq_true (show (i:Int)<(L.length:Int) by omega),tL hq,lW hq,gV,au,and_self,and_true,true_and]
  repeat' apply And.intro
  all_goals first | rfl | omega | exact aV _ | exact hqq | (simp;done) | skip
end
theorem yP {w:World} {g1 g2 c d:Nat} {L:List ByteArray} {r1 r2:List Value} {e1 e2:TypeId} {f1 f2:Nat × Nat} (hn:g1≠g2) (h1:w.heap[g1]?=some (.cells (kx 1 L++r1).toArray e1 f1)) (h2:w.heap[g2]?=some (.cells (L.map Value.string++r2).toArray e2 f2)) (hc:L.length≤c) (hd:L.length≤d) (few:L.length≤100000):
  Calls Try.prog 8 #[.slice (some ⟨g1,0,none⟩) L.length c,.int .i64 1,.slice (some ⟨g2,0,none⟩) L.length d] w fun e w'=>Below w.heap.size w w'∧e=.returned (.bool true):=by
 have ho:∀ (j:Nat) (o':SO) (b' c':Nat),[SO.look (eQ 1 L),SO.look (strs L)][j]?=some o'→[(g1,0),(g2,0)][j]?=some (b',c')→∃ r,w.heap[b']?=some r∧OR (aE [(g1,0),(g2,0)]) j o' r:=by
  intro j o' b' c' q1 q2
  match j with
  | 0=>
   simp only [List.getElem?_cons_zero,Option.some.injEq] at q1 q2
   subst q1
   cases q2
   refine ⟨_,h1,kx 1 L,_,_,_,rfl,by rw [← mU];exact ay.lits _ _,fun k y h=>?_⟩
   rw [List.getElem?_toArray,List.getElem?_append_left (List.getElem?_eq_some_iff.1 h).1];exact h
  | 1=>
   simp only [List.getElem?_cons_succ,List.getElem?_cons_zero,Option.some.injEq] at q1 q2
   subst q1
   cases q2
   refine ⟨_,h2,L.map Value.string,_,_,_,rfl,ay.lits _ _,fun k y h=>?_⟩
   rw [List.getElem?_toArray,List.getElem?_append_left (List.getElem?_eq_some_iff.1 h).1];exact h
  | j+2=>simp at q1
 refine aY (E:=aL) rfl (d:=6) (l:=[(g1,0),(g2,0)]) (os:=[.look (eQ 1 L),.look (strs L)]) rfl (by simp) (by simpa using hn) ho rfl (args:=[.sl 0 0 L.length (some c),.v (.int .i64 1),.sl 1 0 L.length (some d)]) (a:=[.slice (some ⟨g1,0,none⟩) L.length c,.int .i64 1,.slice (some ⟨g2,0,none⟩) L.length d]) (S0:=Ax (eQ 1 L) (strs L) L.length c d 1) (by kernel_rfl) (ay.cons (VR.aQ.2 ⟨(g1,0),rfl,hc,rfl⟩) (ay.cons (VR.ah.2 rfl) (ay.cons (VR.aQ.2 ⟨(g2,0),rfl,hd,rfl⟩) ay.nil))) fun cs0=>?_
 have hν:∀ i c,aE [(g1,0),(g2,0)] i=some c→i=0∨i=1:=fun i c h=>by
  match i with
  | 0=>exact .inl rfl
  | 1=>exact .inr rfl
  | i+2=>simp [aE] at h
 have nx:=Bb (cs0:=cs0) (w0:=w) (ν:=aE [(g1,0),(g2,0)]) (M:=aT [(g1,0),(g2,0)] ([SO.look (eQ 1 L),SO.look (strs L)].map fun o=>(o,false))) (c:=c) (d:=d) (fun z=>a6 (os:=[SO.look (eQ 1 L),SO.look (strs L)])) hν few L.length 0 (by omega)
 refine af.reach de (k:=2) (n:=60) (o:=[(1000,.b true),(0,.b false)]) (ren:=[(0,0),(1,1)]) (eqs:=[0,1]) (F:=th L.length c d 1 0) (d:=6) (l:=[cD (eQ 1 L),cD (strs L)]) ?_ (by kernel_rfl) (fun i b h=>by rcases hν i b h with h | h <;> rw [h] <;> rfl) nx
 rw [NS]
 simp only [ak,gV,au,and_self,and_true,true_and]
 repeat' apply And.intro
 all_goals first | rfl | (simp;done) | skip
theorem yW {w:World} {g1 g2 c d:Nat} {L:List ByteArray} {r1 r2:List Value} {e1 e2:TypeId} {f1 f2:Nat × Nat} (hn:g1≠g2) (h1:w.heap[g1]?=some (.cells (kx 2 L++r1).toArray e1 f1)) (h2:w.heap[g2]?=some (.cells (L.map Value.string++r2).toArray e2 f2)) (hc:L.length≤c) (hd:L.length≤d) (few:L.length≤100000):
  Calls Try.prog 8 #[.slice (some ⟨g1,0,none⟩) L.length c,.int .i64 2,.slice (some ⟨g2,0,none⟩) L.length d] w fun e w'=>Below w.heap.size w w'∧e=.returned (.bool true):=by
 have ho:∀ (j:Nat) (o':SO) (b' c':Nat),[SO.look (eQ 2 L),SO.look (strs L)][j]?=some o'→[(g1,0),(g2,0)][j]?=some (b',c')→∃ r,w.heap[b']?=some r∧OR (aE [(g1,0),(g2,0)]) j o' r:=by
  intro j o' b' c' q1 q2
  match j with
  | 0=>
   simp only [List.getElem?_cons_zero,Option.some.injEq] at q1 q2
   subst q1
   cases q2
   refine ⟨_,h1,kx 2 L,_,_,_,rfl,by rw [← mU];exact ay.lits _ _,fun k y h=>?_⟩
   rw [List.getElem?_toArray,List.getElem?_append_left (List.getElem?_eq_some_iff.1 h).1];exact h
  | 1=>
   simp only [List.getElem?_cons_succ,List.getElem?_cons_zero,Option.some.injEq] at q1 q2
   subst q1
   cases q2
   refine ⟨_,h2,L.map Value.string,_,_,_,rfl,ay.lits _ _,fun k y h=>?_⟩
   rw [List.getElem?_toArray,List.getElem?_append_left (List.getElem?_eq_some_iff.1 h).1];exact h
  | j+2=>simp at q1
 refine aY (E:=aL) rfl (d:=6) (l:=[(g1,0),(g2,0)]) (os:=[.look (eQ 2 L),.look (strs L)]) rfl (by simp) (by simpa using hn) ho rfl (args:=[.sl 0 0 L.length (some c),.v (.int .i64 2),.sl 1 0 L.length (some d)]) (a:=[.slice (some ⟨g1,0,none⟩) L.length c,.int .i64 2,.slice (some ⟨g2,0,none⟩) L.length d]) (S0:=Ax (eQ 2 L) (strs L) L.length c d 2) (by kernel_rfl) (ay.cons (VR.aQ.2 ⟨(g1,0),rfl,hc,rfl⟩) (ay.cons (VR.ah.2 rfl) (ay.cons (VR.aQ.2 ⟨(g2,0),rfl,hd,rfl⟩) ay.nil))) fun cs0=>?_
 have hν:∀ i c,aE [(g1,0),(g2,0)] i=some c→i=0∨i=1:=fun i c h=>by
  match i with
  | 0=>exact .inl rfl
  | 1=>exact .inr rfl
  | i+2=>simp [aE] at h
 have nx:=AD (cs0:=cs0) (w0:=w) (ν:=aE [(g1,0),(g2,0)]) (M:=aT [(g1,0),(g2,0)] ([SO.look (eQ 2 L),SO.look (strs L)].map fun o=>(o,false))) (c:=c) (d:=d) (fun z=>a6 (os:=[SO.look (eQ 2 L),SO.look (strs L)])) hν few L.length 0 (by omega)
 refine af.reach de (k:=2) (n:=60) (o:=[(1000,.b true),(0,.b false)]) (ren:=[(0,0),(1,1)]) (eqs:=[0,1]) (F:=th L.length c d 2 0) (d:=6) (l:=[cD (eQ 2 L),cD (strs L)]) ?_ (by kernel_rfl) (fun i b h=>by rcases hν i b h with h | h <;> rw [h] <;> rfl) nx
 rw [NS]
 simp only [ak,gV,au,and_self,and_true,true_and]
 repeat' apply And.intro
 all_goals first | rfl | (simp;done) | skip
theorem FM {A B w wa:World} {v u:Value} {N:List ByteArray} (h1:ig 1 A wa N v) (h3:ig 1 A w N v) (h2:ng B w N u) (hl:wa.heap.size≤B.heap.size) (few:N.length≤100000):
  Calls Try.prog 8 #[v,.int .i64 1,u] w fun e w'=>Below w.heap.size w w'∧e=.returned (.bool true):=by
 rcases h1 with ⟨rfl,rfl⟩ | ⟨hN,h1⟩
 ·rcases h2 with ⟨_,rfl⟩ | ⟨h,_⟩
  ·exact An 1
  ·exact absurd rfl h
 ·rcases h2 with ⟨h,_⟩ | ⟨_,h2⟩
  ·exact absurd h hN
  rcases h3 with ⟨h,_⟩ | ⟨_,h3⟩
  ·exact absurd h hN
  obtain ⟨g1,g2,c,d,r1,r2,hne,rfl,rfl,n1,n2,x1,x2⟩:=AN h1 h2 h3 hl
  exact yP hne x1 x2 n1 n2 few
theorem Gl {A B w wa:World} {v u:Value} {N:List ByteArray} (h1:ig 2 A wa N v) (h3:ig 2 A w N v) (h2:ng B w N u) (hl:wa.heap.size≤B.heap.size) (few:N.length≤100000):
  Calls Try.prog 8 #[v,.int .i64 2,u] w fun e w'=>Below w.heap.size w w'∧e=.returned (.bool true):=by
 rcases h1 with ⟨rfl,rfl⟩ | ⟨hN,h1⟩
 ·rcases h2 with ⟨_,rfl⟩ | ⟨h,_⟩
  ·exact An 2
  ·exact absurd rfl h
 ·rcases h2 with ⟨h,_⟩ | ⟨_,h2⟩
  ·exact absurd h hN
  rcases h3 with ⟨h,_⟩ | ⟨_,h3⟩
  ·exact absurd h hN
  obtain ⟨g1,g2,c,d,r1,r2,hne,rfl,rfl,n1,n2,x1,x2⟩:=AN h1 h2 h3 hl
  exact yW hne x1 x2 n1 n2 few
end paths
end Go.Proofs.Ytbjmmnegkpeboaa
set_option linter.unusedSimpArgs false
set_option linter.unusedVariables false
set_option maxRecDepth 100000
namespace Go.Proofs.Ytbjmmnegkpeboaa
open Go Go.Rx Go.RowKit Go.Proofs
namespace paths
namespace lx
theorem D7 {w w':World} {l:List ByteArray} {v:Value} (h:rp.jr w w' l v):ig 1 w w' l v:=h
theorem ET {w w':World} {l:List ByteArray} {v:Value} (h:ca.jr w w' l v):ig 2 w w' l v:=h
theorem BJ (z1 z2:ByteArray→Int × List Int) (D:List bU):(ca.aG z1 z2 D).length≤D.length:=by
 unfold ca.aG
 rw [List.length_map]
 exact List.length_filter_le _ _
theorem Fl (z1 z2:ByteArray→Int × List Int) {xs1 xs2:List aA} (D:List bU) (h:xs1.length+xs2.length≤1000):(wH z1 z2 xs1 xs2 D).length≤100000:=by
 unfold wH tk
 have h1:=iY (en xs1) []
 have h2:=iY (en xs2) (bL [] (en xs1))
 have h3:=List.length_filter_le (pd z1 z2) (bL (bL [] (en xs1)) (en xs2))
 have h4:=List.length_filter_le (fun q=>!D.any (cL q)) ((bL (bL [] (en xs1)) (en xs2)).filter (pd z1 z2))
 simp only [en,List.length_map,List.length_nil] at h1 h2 h3 h4 ⊢
 omega
theorem Bw {w w1 w2:World} {H:Hp} (hk:(H.grow w w1).Sub w2.hp) (h:w.heap.size<w1.heap.size):w1.heap.size≤w2.heap.size:=by
 have h1:w1.heap[w1.heap.size - 1]?=some w1.heap[w1.heap.size - 1]:=Array.getElem?_eq_getElem (by omega)
 have h2:=hk (w1.heap.size - 1) _ (by unfold Hp.grow;rw [if_neg (by omega)];exact h1)
 have:=(Array.getElem?_eq_some_iff.1 h2).1
 omega
theorem xO {D:List aA} {ys:Option Addr→Nat→List Int} {w0:World} (hX:mi D ys w0) {e:Ending} {w':World} (h:tQ D ys w0 e w'):
  Below w0.heap.size w0 w'∧∃ b v E xs,e=.returned (.tuple #[bX b,v,.bool true])∧w0.heap.size≤b∧b<w'.heap.size∧(E.map fun e:cg=>e.1.p).Perm (en xs)∧(∀ e∈xs,e∈D)∧xs.length≤128∧
   (∀ g n c,v=.slice (some ⟨g,0,none⟩) n c→w0.heap.size≤g∧g<w'.heap.size)∧∀ w2:World,GV w0.heap.size w' w2→dJ w2 b (aF (yI ys) xs) E∧rk.Aj w2 v xs:=by
 obtain ⟨hB,b,v,he,hb,E,cl,xs,inv,data,hsub,ht,hv⟩:=h
 have hlt:b<w'.heap.size:=by
  rcases ht with ⟨_,h1⟩ | ⟨m,_,h1⟩
  ·exact (Array.getElem?_eq_some_iff.1 h1).1
  ·exact (Array.getElem?_eq_some_iff.1 h1.row).1
 refine ⟨hB,b,v,E,xs,he,hb,hlt,inv.sa,hsub,inv.few,fun g n c hg=>?_,fun w2 hn=>⟨?_,?_⟩⟩
 ·rcases hv with ⟨_,h1⟩ | ⟨_,g',c',rest,h1,h2,_,h3,_⟩
  ·rw [h1] at hg;cases hg
  ·rw [h1] at hg
   injection hg with e1 e2 e3
   injection e1 with e1
   injection e1 with e1
   subst e1
   exact ⟨h2,(Array.getElem?_eq_some_iff.1 h3).1⟩
 ·have d2:∀ e∈E,∃ zs,dw w'.hp e.1 zs∧dw w2.hp e.1 zs∧uq w0 e.1:=fun e he=>by
   obtain ⟨zs,hz,hnew⟩:=data e he
   refine ⟨zs,hz,?_,hnew⟩
   rcases hz with h | ⟨b3,r3,h1,h2,h3⟩
   ·exact .inl h
   ·exact .inr ⟨b3,r3,h1,hn _ _ (hnew _ h1) h2,h3⟩
  refine Gy hX (inv.cont (cm':=kC w2.hp) fun e he=>?_) (w0:=w0) (fun e he=>?_) hsub ?_
  ·obtain ⟨zs,h1,h2,_⟩:=d2 e he
   rw [h1.cont,h2.cont]
  ·obtain ⟨zs,_,h2,h3⟩:=d2 e he
   exact ⟨zs,h2,h3⟩
  ·rcases ht with ⟨h0,h1⟩ | ⟨m,hm,h1⟩
   ·exact .inl ⟨h0,hn _ _ hb h1⟩
   ·exact .inr ⟨m,hm,⟨hn _ _ hb h1.row,hn _ _ hm h1.map⟩⟩
 ·rcases hv with h1 | ⟨h0,g,c,rest,h1,h2,h3,h4,h5⟩
  ·exact .inl h1
  ·exact .inr ⟨h0,g,c,rest,h1,h3,hn _ _ h2 h4,h5⟩
end lx
end paths
end Go.Proofs.Ytbjmmnegkpeboaa
set_option linter.unusedSimpArgs false
set_option linter.unusedVariables false
set_option maxHeartbeats 0
set_option maxRecDepth 100000
namespace Go.Proofs.Ytbjmmnegkpeboaa
open Go Go.Rx Go.RowKit Go.Proofs
namespace paths
namespace lx
def MS:List (FuncId × PS):=[(6,fun args=>match args with | []=>some (.bool true,True) | _=>none)]
noncomputable def EA:Env:=EP MS []
structure eT where
 a0:Option Addr
 l0:Nat
 c0:Nat
 a1:Option Addr
 l1:Nat
 c1:Nat
 a2:Option Addr
 l2:Nat
 c2:Nat
noncomputable def CG (x:eT):SM:=(bC EA 3 [.v (.slice x.a0 x.l0 x.c0),.v (.slice x.a1 x.l1 x.c1),.v (.slice x.a2 x.l2 x.c2)] (jX 12 [])).getD dC
def oL:List (Nat × gX):=ff [1000] true
def Cc (b:Nat) (v:Value):Value:=.tuple #[bX b,v,.bool true]
structure nY where
 b:Nat
 v:Value
noncomputable def KG (x:eT) (b:Bool):SM:=bq EA 4 60 (CG x) oL (.v (.bool b))
noncomputable def Kt (x:eT) (b:Bool):SM:=bq EA 4 60 (KG x true) oL (.v (.bool b))
noncomputable def Jj (x:eT) (b:Bool):SM:=bq EA 5 60 (Kt x true) oL (.v (.bool b))
noncomputable def JX (x:eT) (p:nY):SM:=bq EA 7 100 (Jj x true) oL (.v (Cc p.b p.v))
noncomputable def LC (x:eT) (p q:nY):SM:=bq EA 7 100 (JX x p) oL (.v (Cc q.b q.v))
noncomputable def L0 (x:eT) (p q:nY) (v:Value):SM:=bq EA 9 200 (LC x p q) oL (.v v)
noncomputable def L8 (x:eT) (p q:nY) (v u:Value):SM:=bq EA 10 60 (L0 x p q v) oL (.v u)
noncomputable def L9 (x:eT) (p q:nY) (v u:Value):SM:=bq EA 8 60 (L8 x p q v u) oL (.v (.bool true))
noncomputable def LY (x:eT) (p q:nY) (v u v2:Value):SM:=bq EA 11 60 (L9 x p q v u) oL (.v v2)
noncomputable def FN (x:eT) (p q:nY) (v u v2 u2:Value):SM:=bq EA 12 60 (LY x p q v u v2) oL (.v u2)
noncomputable def JB (x:eT) (p q:nY) (v u v2 u2:Value):SM:=bq EA 8 60 (FN x p q v u v2 u2) oL (.v (.bool true))
theorem Ry (x:eT):bI EA 4 60 (CG x) oL=[]:=by kernel_rfl
theorem RP (x:eT):bI EA 4 60 (KG x true) oL=[]:=by kernel_rfl
theorem Og (x:eT):bI EA 5 60 (Kt x true) oL=[]:=by kernel_rfl
theorem PM (x:eT):bI EA 7 100 (Jj x true) oL=[]:=by kernel_rfl
theorem PB (x:eT) (p:nY):bI EA 7 100 (JX x p) oL=[]:=by kernel_rfl
theorem OB (x:eT) (b:Bool):bE EA 4 60 (CG x) oL (.v (.bool b))=[]:=by kernel_rfl
theorem PU (x:eT) (b:Bool):bE EA 4 60 (KG x true) oL (.v (.bool b))=[]:=by kernel_rfl
theorem OF (x:eT) (b:Bool):bE EA 5 60 (Kt x true) oL (.v (.bool b))=[]:=by kernel_rfl
theorem Qw (x:eT) (p:nY):bE EA 7 100 (Jj x true) oL (.v (Cc p.b p.v))=[]:=by kernel_rfl
theorem QH (x:eT) (p q:nY):bE EA 7 100 (JX x p) oL (.v (Cc q.b q.v))=[]:=by kernel_rfl
theorem P1 (x:eT):ax EA 3 300 (KG x false) oL (.bool true)=[Value.bool true=Value.bool true,True]:=by kernel_rfl
theorem O9 (x:eT):ax EA 3 300 (Kt x false) oL (.bool true)=[Value.bool true=Value.bool true,True]:=by kernel_rfl
theorem PA (x:eT):ax EA 3 300 (Jj x false) oL (.bool true)=[Value.bool true=Value.bool true,True]:=by kernel_rfl
theorem NB (x:eT) (p q:nY):bI EA 9 200 (LC x p q) oL=[]:=by kernel_rfl
theorem Pr (x:eT) (p q:nY) (v:Value):bE EA 9 200 (LC x p q) oL (.v v)=[]:=by kernel_rfl
theorem PV (x:eT) (p q:nY) (v:Value):bI EA 10 60 (L0 x p q v) oL=[]:=by kernel_rfl
theorem OH (x:eT) (p q:nY) (v u:Value):bE EA 10 60 (L0 x p q v) oL (.v u)=[]:=by kernel_rfl
theorem Qm (x:eT) (p q:nY) (v u:Value):bI EA 8 60 (L8 x p q v u) oL=[]:=by kernel_rfl
theorem O5 (x:eT) (p q:nY) (v u:Value):bE EA 8 60 (L8 x p q v u) oL (.v (.bool true))=[]:=by kernel_rfl
theorem QM (x:eT) (p q:nY) (v u:Value):bI EA 11 60 (L9 x p q v u) oL=[]:=by kernel_rfl
theorem Pb (x:eT) (p q:nY) (v u v2:Value):bE EA 11 60 (L9 x p q v u) oL (.v v2)=[]:=by kernel_rfl
theorem Nb (x:eT) (p q:nY) (v u v2:Value):bI EA 12 60 (LY x p q v u v2) oL=[]:=by kernel_rfl
theorem ND (x:eT) (p q:nY) (v u v2 u2:Value):bE EA 12 60 (LY x p q v u v2) oL (.v u2)=[]:=by kernel_rfl
theorem Nd (x:eT) (p q:nY) (v u v2 u2:Value):bI EA 8 60 (FN x p q v u v2 u2) oL=[]:=by kernel_rfl
theorem NR (x:eT) (p q:nY) (v u v2 u2:Value):bE EA 8 60 (FN x p q v u v2 u2) oL (.v (.bool true))=[]:=by kernel_rfl
theorem lz (x:eT) (p q:nY) (v u v2 u2:Value):ax EA 3 300 (JB x p q v u v2 u2) oL (.bool true)=[Value.bool true=Value.bool true,True]:=by kernel_rfl
theorem Fb {M:Own} {W:World} {cs0:List Frame} {ν:aU} (K:aW EA M W) (hM:∀ z,¬ M z) {x:eT} {p q:nY} {H:Hp} {M1:Own} {w1:World} (hk:Kept W.hp M W H M1 w1) (hm:MX W)
  {D:List aA} {DO:List bU} {ys:Option Addr→Nat→List Int} (hO:gC W x.a2 x.l2 x.c2 DO) (few:DO.length≤1000) {E1 E2:List cg} {xs1 xs2:List aA} (hb:p.b≠q.b) (hxs:xs1.length+xs2.length≤1000)
  (T1:∀ w:World,H.Sub w.hp→dJ w p.b (aF (yI ys) xs1) E1) (T2:∀ w:World,H.Sub w.hp→dJ w q.b (aF (yI ys) xs2) E2) (n1:(E1.map fun e=>e.1.p).Perm (en xs1)) (n2:(E2.map fun e=>e.1.p).Perm (en xs2))
  (RN:∀ w:World,H.Sub w.hp→rk.qn w D ys p.v q.v xs1 xs2):
  af EA M1 w1 cs0 3 (fun e w'=>e=.returned (.bool true)∧Below W.heap.size W w') ν (LC x p q):=by
 have old:∀ {w:World},H.Sub w.hp→∀ k,k<W.heap.size→w.heap[k]?=W.heap[k]?:=fun {w} hs=>oF (Hp.Sub.refl _) (hk.sub0.trans hs)
 have f1:=Fl (aF (yI ys) xs1) (aF (yI ys) xs2) DO hxs
 have f2:(ca.aG (aF (yI ys) xs1) (aF (yI ys) xs2) DO).length≤100000:=Nat.le_trans (BJ _ _ _) (by omega)
 refine af.eH (K.c7 hk.base) hk (n:=200) (g:=9) (o:=oL) (args:=[.v (bX p.b),.v (bX q.b),.v (.slice x.a2 x.l2 x.c2)]) (by rw [NB];simp only [ak,and_self,and_true,true_and]) (by kernel_rfl) fun ν1 wA a hle hsub hgr ha=>?_
 obtain ⟨y1,as0,rfl,e0,hb0⟩:=ha.cons_inv
 obtain ⟨y2,as1,rfl,e1,hb1⟩:=hb0.cons_inv
 obtain ⟨y3,as2,rfl,e2,hb2⟩:=hb1.cons_inv
 obtain rfl:=hb2.aB
 obtain rfl:=VR.ah.1 e0
 obtain rfl:=VR.ah.1 e1
 obtain rfl:=VR.ah.1 e2
 refine (vU (hm.sub (hk.sub0.trans hsub)) hb (T1 wA hsub) (T2 wA hsub) n1 n2 (hO.keep (old hsub)) few).mono fun e wA' ⟨hBA,v,he,hv⟩=>⟨hBA,v,he,fun M2 hK2=>⟨by rw [Pr];simp only [ak,and_self,and_true,true_and],?_⟩⟩
 change af EA M2 wA' cs0 _ _ _ (L0 x p q v)
 have sA:H.Sub (H.grow wA wA'):=Hp.dX hsub
 refine af.eH (K.c7 hK2.base) hK2 (n:=60) (g:=10) (o:=oL) (args:=[.v p.v,.v q.v,.v (.slice x.a2 x.l2 x.c2)]) (by rw [PV];simp only [ak,and_self,and_true,true_and]) (by kernel_rfl) fun ν2 wB a hle2 hsubB hgr2 ha=>?_
 obtain ⟨y1,as0,rfl,e0,hb0⟩:=ha.cons_inv
 obtain ⟨y2,as1,rfl,e1,hb1⟩:=hb0.cons_inv
 obtain ⟨y3,as2,rfl,e2,hb2⟩:=hb1.cons_inv
 obtain rfl:=hb2.aB
 obtain rfl:=VR.ah.1 e0
 obtain rfl:=VR.ah.1 e1
 obtain rfl:=VR.ah.1 e2
 refine (rs.qt (RN wB (sA.trans hsubB)) (hO.keep (old (sA.trans hsubB))) few).mono fun e wB' ⟨hBB,u,he,hu⟩=>⟨hBB,u,he,fun M3 hK3=>⟨by rw [OH];simp only [ak,and_self,and_true,true_and],?_⟩⟩
 change af EA M3 wB' cs0 _ _ _ (L8 x p q v u)
 have sB:=sA.trans (Hp.dX (w:=wB) (w':=wB') hsubB)
 have f1B:ig 1 wA wB (wH (aF (yI ys) xs1) (aF (yI ys) xs2) xs1 xs2 DO) v:=jf (Nat.le_refl _) (D7 hv) hsubB
 refine af.eH (K.c7 hK3.base) hK3 (n:=60) (g:=8) (o:=oL) (args:=[.v v,.v (.int .i64 1),.v u]) (by rw [Qm];simp only [ak,and_self,and_true,true_and]) (by kernel_rfl) fun ν3 wC a hle3 hsubC hgr3 ha=>?_
 obtain ⟨z1,as0,rfl,e0,hb0⟩:=ha.cons_inv
 obtain ⟨z2,as1,rfl,e1,hb1⟩:=hb0.cons_inv
 obtain ⟨z3,as2,rfl,e2,hb2⟩:=hb1.cons_inv
 obtain rfl:=hb2.aB
 obtain rfl:=VR.ah.1 e0
 obtain rfl:=VR.ah.1 e1
 obtain rfl:=VR.ah.1 e2
 have f1C:ig 1 wA wC (wH (aF (yI ys) xs1) (aF (yI ys) xs2) xs1 xs2 DO) z1:=jf (Nat.le_refl _) (D7 hv) ((Hp.dX hsubB).trans hsubC)
 have s1C:ng wB wC (wH (aF (yI ys) xs1) (aF (yI ys) xs2) xs1 xs2 DO) z3:=tK (Nat.le_refl _) hu hsubC
 refine (FM f1B f1C s1C (Nat.le_refl _) f1).mono fun e wC' ⟨hBC,he⟩=>⟨hBC,_,he,fun M4 hK4=>⟨by rw [O5];simp only [ak,and_self,and_true,true_and],?_⟩⟩
 change af EA M4 wC' cs0 _ _ _ (L9 x p q z1 z3)
 have sC:=sB.trans (Hp.dX (w:=wC) (w':=wC') hsubC)
 refine af.eH (K.c7 hK4.base) hK4 (n:=60) (g:=11) (o:=oL) (args:=[.v (bX p.b),.v (bX q.b),.v (.slice x.a2 x.l2 x.c2)]) (by rw [QM];simp only [ak,and_self,and_true,true_and]) (by kernel_rfl) fun ν4 wD a hle4 hsubD hgr4 ha=>?_
 obtain ⟨y1,as0,rfl,e0,hb0⟩:=ha.cons_inv
 obtain ⟨y2,as1,rfl,e1,hb1⟩:=hb0.cons_inv
 obtain ⟨y3,as2,rfl,e2,hb2⟩:=hb1.cons_inv
 obtain rfl:=hb2.aB
 obtain rfl:=VR.ah.1 e0
 obtain rfl:=VR.ah.1 e1
 obtain rfl:=VR.ah.1 e2
 refine (ca.sY hb (T1 wD (sC.trans hsubD)) (T2 wD (sC.trans hsubD)) (hO.keep (old (sC.trans hsubD))) few).mono fun e wD' ⟨hBD,v2,he,hv2⟩=>⟨hBD,v2,he,fun M5 hK5=>⟨by rw [Pb];simp only [ak,and_self,and_true,true_and],?_⟩⟩
 change af EA M5 wD' cs0 _ _ _ (LY x p q z1 z3 v2)
 have sD:=sC.trans (Hp.dX (w:=wD) (w':=wD') hsubD)
 refine af.eH (K.c7 hK5.base) hK5 (n:=60) (g:=12) (o:=oL) (args:=[.v p.v,.v q.v,.v (.slice x.a2 x.l2 x.c2)]) (by rw [Nb];simp only [ak,and_self,and_true,true_and]) (by kernel_rfl) fun ν5 wE a hle5 hsubE hgr5 ha=>?_
 obtain ⟨y1,as0,rfl,e0,hb0⟩:=ha.cons_inv
 obtain ⟨y2,as1,rfl,e1,hb1⟩:=hb0.cons_inv
 obtain ⟨y3,as2,rfl,e2,hb2⟩:=hb1.cons_inv
 obtain rfl:=hb2.aB
 obtain rfl:=VR.ah.1 e0
 obtain rfl:=VR.ah.1 e1
 obtain rfl:=VR.ah.1 e2
 refine (rk.sn (RN wE (sD.trans hsubE)) (hO.keep (old (sD.trans hsubE))) few).mono fun e wE' ⟨hBE,u2,he,hu2⟩=>⟨hBE,u2,he,fun M6 hK6=>⟨by rw [ND];simp only [ak,and_self,and_true,true_and],?_⟩⟩
 change af EA M6 wE' cs0 _ _ _ (FN x p q z1 z3 v2 u2)
 have f5E:ig 2 wD wE (ca.aG (aF (yI ys) xs1) (aF (yI ys) xs2) DO) v2:=jf (Nat.le_refl _) (ET hv2) hsubE
 refine af.eH (K.c7 hK6.base) hK6 (n:=60) (g:=8) (o:=oL) (args:=[.v v2,.v (.int .i64 2),.v u2]) (by rw [Nd];simp only [ak,and_self,and_true,true_and]) (by kernel_rfl) fun ν6 wF a hle6 hsubF hgr6 ha=>?_
 obtain ⟨x1,as0,rfl,e0,hb0⟩:=ha.cons_inv
 obtain ⟨x2,as1,rfl,e1,hb1⟩:=hb0.cons_inv
 obtain ⟨x3,as2,rfl,e2,hb2⟩:=hb1.cons_inv
 obtain rfl:=hb2.aB
 obtain rfl:=VR.ah.1 e0
 obtain rfl:=VR.ah.1 e1
 obtain rfl:=VR.ah.1 e2
 have f5F:ig 2 wD wF (ca.aG (aF (yI ys) xs1) (aF (yI ys) xs2) DO) x1:=jf (Nat.le_refl _) (ET hv2) ((Hp.dX hsubE).trans hsubF)
 have s5F:ng wE wF (ca.aG (aF (yI ys) xs1) (aF (yI ys) xs2) DO) x3:=tK (Nat.le_refl _) hu2 hsubF
 refine (Gl f5E f5F s5F (Nat.le_refl _) f2).mono fun e wF' ⟨hBF,he⟩=>⟨hBF,_,he,fun M7 hK7=>⟨by rw [NR];simp only [ak,and_self,and_true,true_and],?_⟩⟩
 change af EA M7 wF' cs0 _ _ _ (JB x p q z1 z3 x1 x3)
 refine af.ax (K.c7 hK7.base) (n:=300) (o:=oL) (v:=.bool true) ?_ fun ν' M9 w9 s' w' _ hB hr=>⟨rfl,aI hM (hK7.base.trans hB) hr⟩
 rw [lz];simp only [ak,and_self,and_true,true_and]
theorem zJ {D:List bU} (h:ij D=true):D.length≤1000:=by
 unfold ij at h
 rw [Bool.and_eq_true,decide_eq_true_eq] at h
 omega
theorem r8 {D:List aA} (h:e5 D=true):D.length≤200:=by
 unfold e5 at h
 rw [Bool.and_eq_true,Bool.and_eq_true,decide_eq_true_eq] at h
 omega
theorem F1 {W:World} {cs0:List Frame} {x:eT} (K:aW EA (fZ []) W) (hm:MX W) (e1:∃ D:List aA,mu W x.a0 x.l0 x.c0 D∧(∀ y∈D,sE W y)∧x.l0≤9223372036854775807) (e2:∃ D:List aA,mu W x.a1 x.l1 x.c1 D∧(∀ y∈D,sE W y)∧x.l1≤9223372036854775807)
  (e3:∃ D:List bU,gC W x.a2 x.l2 x.c2 D∧(∀ y∈D,y.p.size≤reachBytes)∧x.l2≤9223372036854775807):
  af EA (fZ []) W cs0 3 (fun e w'=>e=.returned (.bool true)∧Below W.heap.size W w') (eX []) (CG x):=by
 obtain ⟨D1,hE1,hD1,hl1⟩:=e1
 obtain ⟨D2,hE2,hD2,hl2⟩:=e2
 obtain ⟨DO,hO,_,hl3⟩:=e3
 have hM:∀ z,¬ (fZ []) z:=fun z h=>h
 have hK0:=Kept.start (H0:=W.hp) (M:=fZ []) (w:=W) (Hp.Sub.refl _) (fun z o _ h=>h) (wQ (l:=[]) fun r hr=>(nomatch hr)) (fun _ h=>h)
 have old:∀ {H:Hp} {w:World},W.hp.Sub H→H.Sub w.hp→∀ k,k<W.heap.size→w.heap[k]?=W.heap[k]?:=fun {H w} h0 hs=>oF (Hp.Sub.refl _) (h0.trans hs)
 refine af.eH K hK0 (n:=60) (g:=4) (o:=oL) (args:=[.v (.slice x.a0 x.l0 x.c0)]) (by rw [Ry];simp only [ak,and_self,and_true,true_and]) (by kernel_rfl) fun ν1 wA a hle hsA hgr ha=>?_
 obtain ⟨y1,as1,rfl,u1,ha2⟩:=ha.cons_inv
 obtain rfl:=ha2.aB
 obtain rfl:=VR.ah.1 u1
 refine (oj (hE1.keep (old hK0.sub0 hsA)) hl1).mono fun e wA' ⟨hBA,he⟩=>⟨hBA,_,he,fun M1 hK1=>⟨by rw [OB];simp only [ak,and_self,and_true,true_and],?_⟩⟩
 change af EA M1 wA' cs0 _ _ _ (KG x (e5 D1))
 cases hb1:e5 D1
 ·refine af.ax (K.c7 hK1.base) (n:=300) (o:=oL) (v:=.bool true) ?_ fun ν' M9 w9 s' w' _ hB hr=>⟨rfl,aI hM (hK1.base.trans hB) hr⟩
  rw [P1];simp only [ak,and_self,and_true,true_and]
 refine af.eH (K.c7 hK1.base) hK1 (n:=60) (g:=4) (o:=oL) (args:=[.v (.slice x.a1 x.l1 x.c1)]) (by rw [RP];simp only [ak,and_self,and_true,true_and]) (by kernel_rfl) fun ν1 wB a hle hsB hgr ha=>?_
 obtain ⟨y1,as1,rfl,u1,ha2⟩:=ha.cons_inv
 obtain rfl:=ha2.aB
 obtain rfl:=VR.ah.1 u1
 refine (oj (hE2.keep (old hK1.sub0 hsB)) hl2).mono fun e wB' ⟨hBB,he⟩=>⟨hBB,_,he,fun M2 hK2=>⟨by rw [PU];simp only [ak,and_self,and_true,true_and],?_⟩⟩
 change af EA M2 wB' cs0 _ _ _ (Kt x (e5 D2))
 cases hb2:e5 D2
 ·refine af.ax (K.c7 hK2.base) (n:=300) (o:=oL) (v:=.bool true) ?_ fun ν' M9 w9 s' w' _ hB hr=>⟨rfl,aI hM (hK2.base.trans hB) hr⟩
  rw [O9];simp only [ak,and_self,and_true,true_and]
 refine af.eH (K.c7 hK2.base) hK2 (n:=60) (g:=5) (o:=oL) (args:=[.v (.slice x.a2 x.l2 x.c2)]) (by rw [Og];simp only [ak,and_self,and_true,true_and]) (by kernel_rfl) fun ν1 wC a hle hsC hgr ha=>?_
 obtain ⟨y1,as1,rfl,u1,ha2⟩:=ha.cons_inv
 obtain rfl:=ha2.aB
 obtain rfl:=VR.ah.1 u1
 refine (v8 (hO.keep (old hK2.sub0 hsC)) hl3).mono fun e wC' ⟨hBC,he⟩=>⟨hBC,_,he,fun M3 hK3=>⟨by rw [OF];simp only [ak,and_self,and_true,true_and],?_⟩⟩
 change af EA M3 wC' cs0 _ _ _ (Jj x (ij DO))
 cases hb3:ij DO
 ·refine af.ax (K.c7 hK3.base) (n:=300) (o:=oL) (v:=.bool true) ?_ fun ν' M9 w9 s' w' _ hB hr=>⟨rfl,aI hM (hK3.base.trans hB) hr⟩
  rw [PA];simp only [ak,and_self,and_true,true_and]
 obtain ⟨hI1,hX1⟩:=xB hm hD1 hb1
 obtain ⟨hI2,hX2⟩:=xB hm hD2 hb2
 have hDD:∀ y∈D1++D2,sE W y:=fun y hy=>by
  rcases List.mem_append.1 hy with h | h
  ·exact hD1 y h
  ·exact hD2 y h
 have hX:mi (D1++D2) (Jf W) W:=Dp hm hDD
 have hI:lE (D1++D2):=⟨fun y hy=>by
  rcases List.mem_append.1 hy with h | h
  ·exact hI1.size y h
  ·exact hI2.size y h,fun y hy=>(hDD y hy).nil,by rw [List.length_append];have:=r8 hb1;have:=r8 hb2;omega⟩
 refine af.eH (K.c7 hK3.base) hK3 (n:=100) (g:=7) (o:=oL) (args:=[.v (.slice x.a0 x.l0 x.c0)]) (by rw [PM];simp only [ak,and_self,and_true,true_and]) (by kernel_rfl) fun ν1 wD a hle hsD hgr ha=>?_
 obtain ⟨y1,as1,rfl,u1,ha2⟩:=ha.cons_inv
 obtain rfl:=ha2.aB
 obtain rfl:=VR.ah.1 u1
 have kD:=old hK3.sub0 hsD
 refine (tT (hE1.keep kD) (hX1.keep kD) hI1).mono fun e wD' h=>?_
 obtain ⟨hBD,b1,v1,E1,xs1,he,hlo1,hhi1,np1,sub1,few1,blk1,T1⟩:=xO (hX1.keep kD) h
 refine ⟨hBD,_,he,fun M4 hK4=>⟨by
  show ak (bE EA 7 100 (Jj x true) oL (.v (Cc (nY.mk b1 v1).b (nY.mk b1 v1).v)))
  rw [Qw];simp only [ak,and_self,and_true,true_and],?_⟩⟩
 change af EA M4 wD' cs0 _ _ _ (JX x ⟨b1,v1⟩)
 refine af.eH (K.c7 hK4.base) hK4 (n:=100) (g:=7) (o:=oL) (args:=[.v (.slice x.a1 x.l1 x.c1)]) (by rw [PB];simp only [ak,and_self,and_true,true_and]) (by kernel_rfl) fun ν1 wE a hle hsE hgr ha=>?_
 obtain ⟨y1,as1,rfl,u1,ha2⟩:=ha.cons_inv
 obtain rfl:=ha2.aB
 obtain rfl:=VR.ah.1 u1
 have kE:=old hK4.sub0 hsE
 refine (tT (hE2.keep kE) (hX2.keep kE) hI2).mono fun e wE' h=>?_
 obtain ⟨hBE,b2,v2,E2,xs2,he,hlo2,hhi2,np2,sub2,few2,blk2,T2⟩:=xO (hX2.keep kE) h
 refine ⟨hBE,_,he,fun M5 hK5=>⟨by
  show ak (bE EA 7 100 (JX x ⟨b1,v1⟩) oL (.v (Cc (nY.mk b2 v2).b (nY.mk b2 v2).v)))
  rw [QH];simp only [ak,and_self,and_true,true_and],?_⟩⟩
 change af EA M5 wE' cs0 _ _ _ (LC x ⟨b1,v1⟩ ⟨b2,v2⟩)
 have hsz:wD'.heap.size≤wE.heap.size:=Bw hsE (by omega)
 refine Fb K hM hK5 hm (D:=D1++D2) (ys:=Jf W) hO (zJ hb3) (by show b1≠b2;omega) (by omega)
  (fun w hs=>(T1 w (oM ((Hp.dX hsE).trans hs))).1) (fun w hs=>(T2 w (oM hs)).1) np1 np2 fun w hs=>?_
 exact ⟨(T1 w (oM ((Hp.dX hsE).trans hs))).2,(T2 w (oM hs)).2,hX.keep (old hK5.sub0 hs),hI,fun e he=>List.mem_append_left _ (sub1 e he),fun e he=>List.mem_append_right _ (sub2 e he),by omega,
  fun g1 g2 n1 n2 c1 c2 q1 q2=>by have:=blk1 _ _ _ q1;have:=blk2 _ _ _ q2;omega⟩
end lx
end paths
end Go.Proofs.Ytbjmmnegkpeboaa
set_option linter.unusedVariables false
set_option maxRecDepth 100000
namespace Go.Proofs.Ytbjmmnegkpeboaa.auditReplicas
open Go Go.Rx Go.RowKit
def nI (n:Int):SV:=.v (.int .i64 n)
def n0:SV:=.v (.tuple #[])
def nS:SV:=.v (.slice none 0 0)
def nP:SV:=.v (.pointer none)
def nF:SV:=.v (.bool false)
theorem K (w:World) (told:∀ r∈([]:List (Nat × List SV)),Rx.Told w r):aW (E [] []) (fZ []) w:=facts [] []
noncomputable def S2:SM:={ top:={ fn:=39,tm:=(xX 14 4 14 []),todo:=[.reg (opsOf (gl Try.prog 39 [1])) []],defers:=[],ret:=false,kind:=.normal,«ro»:=none },callers:=[{ fn:=20,tm:=(xX 19 5 19 [(4,nS),(6,.sl 24 0 1 none),(15,.sl 24 0 1 none),(17,n0),(18,n0)]),todo:=[.reg (opsOf (gl Try.prog 20 [1,1,1,0])) [1],.code (gl Try.prog 20 [1,1,1,1])],defers:=[],ret:=false,kind:=.normal,«ro»:=none },{ fn:=9,tm:=(xX 12 4 12 [(6,nS),(7,.func (.func 18) [] [.ptr 15 0]),(8,.ptr 1 0),(9,nP),(10,n0),(11,n0)]),todo:=[.reg (opsOf (gl Try.prog 9 [1,0])) [3,4,5],.code .ret],defers:=[],ret:=false,kind:=.normal,«ro»:=none },{ fn:=6,tm:=(xX 27 5 27 [(0,nF),(3,n0),(11,.ptr 1 0),(12,n0),(13,n0),(14,n0),(15,n0),(16,n0),(17,n0),(18,n0),(19,n0),(20,n0),(21,n0),(22,n0),(23,n0),(24,n0),(25,n0),(26,n0)]),todo:=[.reg (opsOf (gl Try.prog 6 [1,1,0])) [1,2],.code (gl Try.prog 6 [1,1,1])],defers:=[],ret:=false,kind:=.normal,«ro»:=none }],mem:=(Eu 12 32 0 [(1,.row [.map 12] 63 (0,0) none,true),
 (12,.map [(.v (.string ⟨#[97]⟩),.agg [nI 2,nS],0)] 1,true),
 (15,.row [nS] 23 (0,0) none,true),
 (24,.row [.v (.string ⟨#[97]⟩)] 9 (0,0) (some 1),true)]) }
theorem g2:pH (E [] []) 6 221 [S2] []=some []:=by kernel_rfl
theorem s2 (w:World) (told:∀ r∈([]:List (Nat × List SV)),Rx.Told w r):dL (E [] []) (fZ []) w 6 (eX []) [S2]:=dL.CR (K w told) (fun _ h=>h) g2 dL.nil
noncomputable def S1:SM:={ top:={ fn:=39,tm:=(xX 14 4 14 []),todo:=[.reg (opsOf (gl Try.prog 39 [1])) []],defers:=[],ret:=false,kind:=.normal,«ro»:=none },callers:=[{ fn:=38,tm:=(xX 27 5 27 [(4,.sl 24 0 1 none),(24,.sl 24 0 1 none),(26,n0)]),todo:=[.reg (opsOf (gl Try.prog 38 [1,1,1,0])) [1],.code (gl Try.prog 38 [1,1,1,1])],defers:=[],ret:=false,kind:=.normal,«ro»:=none },{ fn:=20,tm:=(eO 19 5 [.ptr 1 0,nP,.ptr 16 0,.ptr 17 0,nS,.func (.func 36) [] [.ptr 16 0,.ptr 17 0],n0,.func (.func 36) [] [.ptr 16 0,.ptr 17 0],.ptr 1 0,.func (.func 36) [] [.ptr 16 0,.ptr 17 0],n0,nP,.func (.func 36) [] [.ptr 16 0,.ptr 17 0],n0,n0,n0,n0,n0,n0]),todo:=[.drw (opsOf (gl Try.prog 20 [1,1,0])) [2,5,6,7] [4,3],.code (gl Try.prog 20 [1,1,1])],defers:=[],ret:=false,kind:=.normal,«ro»:=none },{ fn:=9,tm:=(xX 12 4 12 [(6,nS),(7,.func (.func 18) [] [.ptr 15 0]),(8,.ptr 1 0),(9,nP),(10,n0),(11,n0)]),todo:=[.reg (opsOf (gl Try.prog 9 [1,0])) [3,4,5],.code .ret],defers:=[],ret:=false,kind:=.normal,«ro»:=none },{ fn:=6,tm:=(xX 27 5 27 [(0,nF),(3,n0),(11,.ptr 1 0),(12,n0),(13,n0),(14,n0),(15,n0),(16,n0),(17,n0),(18,n0),(19,n0),(20,n0),(21,n0),(22,n0),(23,n0),(24,n0),(25,n0),(26,n0)]),todo:=[.reg (opsOf (gl Try.prog 6 [1,1,0])) [1,2],.code (gl Try.prog 6 [1,1,1])],defers:=[],ret:=false,kind:=.normal,«ro»:=none }],mem:=(Eu 12 32 0 [(1,.row [.map 12] 63 (0,0) none,true),
 (12,.map [(.v (.string ⟨#[97]⟩),.agg [nI 2,nS],0)] 1,true),
 (15,.row [nS] 23 (0,0) none,true),
 (16,.row [.ptr 1 0] 27 (0,0) none,true),
 (17,.row [nP] 27 (0,0) none,true),
 (24,.row [.v (.string ⟨#[97]⟩)] 9 (0,0) (some 1),true)]) }
theorem g1:pH (E [] []) 6 159 [S1] [(true,[16,17],[[0,1,2,3,4,5,6,7,8,9,10,11,12,13],[0,1,2,3,5,7,8,9,10,11,12,13,14,16],[],[]],32)]=some [S2]:=by kernel_rfl
theorem s1 (w:World) (told:∀ r∈([]:List (Nat × List SV)),Rx.Told w r):dL (E [] []) (fZ []) w 6 (eX []) [S1]:=dL.CR (K w told) (fun _ h=>h) g1 (dL.cons (s2 w told) dL.nil)
noncomputable def S0:SM:={ top:={ fn:=6,tm:=(eO 27 5 [n0,n0,n0,n0,n0,n0,n0,n0,n0,n0,n0,n0,n0,n0,n0,n0,n0,n0,n0,n0,n0,n0,n0,n0,n0,n0,n0]),todo:=[.code (gl Try.prog 6 [])],defers:=[],ret:=false,kind:=.normal,«ro»:=none },callers:=[],mem:=(Eu 12 0 0 []) }
theorem g0:pH (E [] []) 6 1061 [S0] [(true,[0,2,3,4,5,6,7,8,9,10,11,13,14,18,19,20,21,22,23],[[0,1,2,3,4,5,6,7,8,9,10,11,12,13],[0,1,2,3,5,6,7,8,9,10,11,12,13,14,15,16,17,18,19,20,21,22,23,25],[],[0,1,2,3,4,5],[1,2,4,5,6,7,8,9,10]],32)]=some [S1]:=by kernel_rfl
theorem s0 (w:World) (told:∀ r∈([]:List (Nat × List SV)),Rx.Told w r):dL (E [] []) (fZ []) w 6 (eX []) [S0]:=dL.CR (K w told) (fun _ h=>h) g0 (dL.cons (s1 w told) dL.nil)
theorem e0:bC (E [] []) 6 [] (jX 12 [])=some S0:=by kernel_rfl
theorem yV (w:World) (told:∀ r∈([]:List (Nat × List SV)),Rx.Told w r):Calls Try.prog 6 #[] w fun e w'=>e=.returned (.bool true)∧Below w.heap.size w w':=
 uL (E:=(E [] [])) rfl (d:=12) (l:=[]) rfl (by decide) (by decide) told e0 (s0 w told)
end Go.Proofs.Ytbjmmnegkpeboaa.auditReplicas
