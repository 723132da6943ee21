/- The symbolic executor 'Rx', part T: the orders of a region. By an AI agent. -/
import Derived.Test.YtjhmpmhkppglnaaGreatRxS
import Derived.Test.YtjhmpmhkppglnaaGreatRxD
import Derived.Orders
set_option linter.unusedVariables false
set_option linter.unusedSimpArgs false
namespace Go.Rx

/-- What comes ahead of an operation, as bits: one step of 'Region.before'. -/
def bitsOf (acc : Array Nat) (o : Oper) : Nat := o.after.toList.foldl (fun s e => if Region.binds .any e then s ||| 2 ^ e.on ||| acc.getD e.on 0 else s) 0

theorem before_eq (ops : Array Oper) : Region.before ops = ops.toList.foldl (fun acc o => acc.push (bitsOf acc o)) #[] := by
  unfold Region.before
  rw [← Array.foldl_toList]
  congr 1
  funext acc o
  rw [bitsOf, ← Array.foldl_toList]

theorem before_go (l : List Oper) : ∀ (acc : Array Nat), (l.foldl (fun acc o => acc.push (bitsOf acc o)) acc).size = acc.size + l.length ∧
    ∀ i, i < acc.size → (l.foldl (fun acc o => acc.push (bitsOf acc o)) acc).getD i 0 = acc.getD i 0 := by
  induction l with
  | nil => intro acc; exact ⟨rfl, fun _ _ => rfl⟩
  | cons o l ih =>
    intro acc
    obtain ⟨h1, h2⟩ := ih (acc.push (bitsOf acc o))
    refine ⟨by simp only [List.foldl_cons, h1, Array.size_push, List.length_cons]; omega, fun i hi => ?_⟩
    simp only [List.foldl_cons]
    rw [h2 i (by simp; omega)]
    rw [Array.getD_eq_getD_getElem?, Array.getD_eq_getD_getElem?, Array.getElem?_push, if_neg (by omega)]

theorem bitsOf_test (acc : Array Nat) (o : Oper) (j : Nat) : (bitsOf acc o).testBit j = true ↔ ∃ e ∈ o.after.toList, Region.binds .any e = true ∧ (e.on = j ∨ (acc.getD e.on 0).testBit j = true) := by
  unfold bitsOf
  have key : ∀ (l : List Edge) (s : Nat), (l.foldl (fun s e => if Region.binds .any e then s ||| 2 ^ e.on ||| acc.getD e.on 0 else s) s).testBit j = true ↔
      s.testBit j = true ∨ ∃ e ∈ l, Region.binds .any e = true ∧ (e.on = j ∨ (acc.getD e.on 0).testBit j = true) := by
    intro l
    induction l with
    | nil => intro s; simp
    | cons e l ih =>
      intro s
      simp only [List.foldl_cons]
      rw [ih]
      by_cases hb : Region.binds .any e = true
      · rw [if_pos hb]
        simp only [Nat.testBit_or, Bool.or_eq_true, Nat.testBit_two_pow, decide_eq_true_eq, List.mem_cons, exists_eq_or_imp, hb, true_and]
        constructor
        · rintro ((h | h) | h)
          · rcases h with h | h
            · exact .inl h
            · exact .inr (.inl (.inl h))
          · exact .inr (.inl (.inr h))
          · exact .inr (.inr h)
        · rintro (h | (h | h) | h)
          · exact .inl (.inl (.inl h))
          · exact .inl (.inl (.inr h))
          · exact .inl (.inr h)
          · exact .inr h
      · rw [if_neg hb]
        simp only [List.mem_cons, exists_eq_or_imp, Bool.not_eq_true] at hb ⊢
        simp only [hb, Bool.false_eq_true, false_and, false_or]
  rw [key]
  simp

/-- The bits of operation i. -/
theorem before_test {ops : Array Oper} {i j : Nat} {o : Oper} (ho : ops[i]? = some o) (hok : edgesOk ops = true) :
    ((Region.before ops).getD i 0).testBit j = true ↔ ∃ e ∈ o.after.toList, Region.binds .any e = true ∧ (e.on = j ∨ ((Region.before ops).getD e.on 0).testBit j = true) := by
  obtain ⟨hi, hoi⟩ := Array.getElem?_eq_some_iff.1 ho
  have hsplit : ops.toList = ops.toList.take i ++ o :: ops.toList.drop (i + 1) := by
    have h1 : ops.toList.drop i = o :: ops.toList.drop (i + 1) := by
      rw [List.drop_eq_getElem_cons (by simpa using hi)]
      simp [hoi]
    rw [← h1, List.take_append_drop]
  let pre := (ops.toList.take i).foldl (fun acc o => acc.push (bitsOf acc o)) (#[] : Array Nat)
  have hpre : pre.size = i := by
    have := (before_go (ops.toList.take i) #[]).1
    simp only [pre]; rw [this]; simp; omega
  have hbf : Region.before ops = (ops.toList.drop (i + 1)).foldl (fun acc o => acc.push (bitsOf acc o)) (pre.push (bitsOf pre o)) := by
    rw [before_eq]
    conv => lhs; rw [hsplit]
    rw [List.foldl_append, List.foldl_cons]
  have hgi : (Region.before ops).getD i 0 = bitsOf pre o := by
    rw [hbf, (before_go _ _).2 i (by simp [hpre])]
    rw [Array.getD_eq_getD_getElem?, Array.getElem?_push, if_pos hpre.symm]
    rfl
  have hlow : ∀ k, k < i → (Region.before ops).getD k 0 = pre.getD k 0 := by
    intro k hk
    rw [hbf, (before_go _ _).2 k (by simp [hpre]; omega)]
    rw [Array.getD_eq_getD_getElem?, Array.getD_eq_getD_getElem?, Array.getElem?_push, if_neg (by omega)]
  have hedge : ∀ e ∈ o.after.toList, Region.binds .any e = true → e.on < i := by
    intro e he hb
    have h1 := List.all_eq_true.1 hok i (by simpa using hi)
    rw [ho] at h1
    have h2 := List.all_eq_true.1 h1 e he
    rw [hb] at h2
    exact blt_iff.1 (by simpa using h2)
  rw [hgi, bitsOf_test]
  constructor
  · rintro ⟨e, he, hb, h⟩
    refine ⟨e, he, hb, h.imp id fun h => ?_⟩
    rwa [hlow e.on (hedge e he hb)]
  · rintro ⟨e, he, hb, h⟩
    refine ⟨e, he, hb, h.imp id fun h => ?_⟩
    rwa [← hlow e.on (hedge e he hb)]

/-- What comes ahead of an operation has a lower number. -/
theorem before_lt {ops : Array Oper} (hok : edgesOk ops = true) : ∀ {i j : Nat}, i < ops.size → ((Region.before ops).getD i 0).testBit j = true → j < i := by
  intro i
  induction i using Nat.strongRecOn with
  | _ i ih =>
    intro j hi hb
    have ho : ops[i]? = some ops[i] := Array.getElem?_eq_getElem hi
    obtain ⟨e, he, hbd, h⟩ := (before_test ho hok).1 hb
    have h1 := List.all_eq_true.1 hok i (by simpa using hi)
    rw [ho] at h1
    have h2 := List.all_eq_true.1 h1 e he
    rw [hbd] at h2
    have hlt : e.on < i := blt_iff.1 (by simpa using h2)
    rcases h with h | h
    · omega
    · have := ih e.on hlt (by omega) h
      omega

/-- What is asked of an order: each operation once, and what binds it ahead of it. -/
structure Order (ops : Array Oper) (L : List Nat) : Prop where
  nodup : L.Nodup
  all : ∀ i, i ∈ L ↔ i < ops.size
  ord : L.Pairwise fun a b => ((Region.before ops).getD a 0).testBit b = false
  irr : ∀ i ∈ L, ((Region.before ops).getD i 0).testBit i = false


/-- The state of the listing: what is listed, and that all that comes ahead of it is listed. -/
structure Listing (ops : Array Oper) (listed : Array Bool) (acc : List Nat) : Prop where
  size : listed.size = ops.size
  mem : ∀ i, i < ops.size → (listed.getD i true = true ↔ i ∈ acc)
  lt : ∀ i ∈ acc, i < ops.size
  nodup : acc.Nodup
  closed : ∀ i ∈ acc, ∀ j, ((Region.before ops).getD i 0).testBit j = true → j ∈ acc
  ord : acc.Pairwise fun b a => ((Region.before ops).getD a 0).testBit b = false
  irr : ∀ i ∈ acc, ((Region.before ops).getD i 0).testBit i = false

theorem getD_true_false {l : Array Bool} {i : Nat} (h : i < l.size) : l.getD i true = l.getD i false := by
  simp [Array.getD, h]

theorem least_out (acc : List Nat) : ∀ i, i ∉ acc → ∃ k, k ≤ i ∧ k ∉ acc ∧ ∀ j, j < k → j ∈ acc := by
  intro i
  induction i using Nat.strongRecOn with
  | _ i ih =>
    intro hi
    by_cases h : ∃ j, j < i ∧ j ∉ acc
    · obtain ⟨j, hj, hn⟩ := h
      obtain ⟨k, hk, h1, h2⟩ := ih j hj hn
      exact ⟨k, by omega, h1, h2⟩
    · exact ⟨i, Nat.le_refl _, hi, fun j hj => Classical.byContradiction fun hn => h ⟨j, hj, hn⟩⟩

theorem linearise_ok {ops : Array Oper} (hok : edgesOk ops = true) : ∀ (fuel t : Nat) (listed : Array Bool) (acc : List Nat), Listing ops listed acc → acc.length + fuel = ops.size →
    ∃ L, Region.linearise.go .any ops fuel t listed acc = L.reverse ∧ Listing ops (Array.replicate ops.size true) L := by
  have hlen_le : ∀ (l : List Nat), l.Nodup → (∀ i ∈ l, i < ops.size) → l.length ≤ ops.size := by
    intro l h1 h2
    have := List.Nodup.length_le_of_subset (l₂ := List.range ops.size) h1 (fun i hi => List.mem_range.2 (h2 i hi))
    simpa using this
  intro fuel
  induction fuel with
  | zero =>
    intro t listed acc h hlen
    refine ⟨acc, rfl, by simp, fun i hi => ?_, h.lt, h.nodup, h.closed, h.ord, h.irr⟩
    have h1 : (Array.replicate ops.size true).getD i true = true := by
      rw [Array.getD_eq_getD_getElem?]; simp [hi]
    simp only [h1, true_iff]
    refine Classical.byContradiction fun hn => ?_
    have := hlen_le (i :: acc) (List.nodup_cons.2 ⟨hn, h.nodup⟩) (fun j hj => by
      rcases List.mem_cons.1 hj with rfl | hj
      · exact hi
      · exact h.lt j hj)
    simp at this; omega
  | succ fuel ih =>
    intro t listed acc h hlen
    unfold Region.linearise.go
    generalize hrs : ((List.range ops.size).filter fun i => !listed.getD i true && ((ops[i]?).map (·.after.all fun e => !Region.binds .any e || listed.getD e.on false)).getD false) = rs
    have hmem : ∀ i, i ∈ rs → i < ops.size ∧ i ∉ acc ∧ ∃ o, ops[i]? = some o ∧ ∀ e ∈ o.after.toList, Region.binds .any e = true → e.on ∈ acc := by
      intro i hi
      rw [← hrs, List.mem_filter] at hi
      obtain ⟨h1, h2⟩ := hi
      have h1 := List.mem_range.1 h1
      rw [Bool.and_eq_true] at h2
      obtain ⟨h2, h3⟩ := h2
      refine ⟨h1, fun hc => ?_, ?_⟩
      · rw [(h.mem i h1).2 hc] at h2; cases h2
      · obtain ⟨o, ho⟩ : ∃ o, ops[i]? = some o := ⟨_, Array.getElem?_eq_getElem h1⟩
        refine ⟨o, ho, fun e he hb => ?_⟩
        rw [ho] at h3
        simp only [Option.map_some, Option.getD_some] at h3
        have h4 := Array.all_eq_true'.1 h3 e (by simpa using he)
        rw [hb] at h4
        have h4 : listed.getD e.on false = true := by simpa using h4
        have hlt : e.on < listed.size := by
          refine Classical.byContradiction fun hn => ?_
          rw [Array.getD_eq_getD_getElem?, Array.getElem?_eq_none (by omega)] at h4
          cases h4
        exact (h.mem e.on (by rw [← h.size]; exact hlt)).1 (by rw [getD_true_false hlt]; exact h4)
    have hne : 0 < rs.length := by
      obtain ⟨i, hi, hn⟩ : ∃ i, i < ops.size ∧ i ∉ acc := by
        refine Classical.byContradiction fun hc => ?_
        have hall : ∀ i, i < ops.size → i ∈ acc := fun i hi => Classical.byContradiction fun hn => hc ⟨i, hi, hn⟩
        have := List.Nodup.length_le_of_subset (l₁ := List.range ops.size) (l₂ := acc) List.nodup_range (fun i hi => hall i (List.mem_range.1 hi))
        simp at this; omega
      obtain ⟨k, hk, hkn, hall⟩ := least_out acc i hn
      have hks : k < ops.size := by omega
      obtain ⟨o, ho⟩ : ∃ o, ops[k]? = some o := ⟨_, Array.getElem?_eq_getElem hks⟩
      have : k ∈ rs := by
        rw [← hrs, List.mem_filter]
        refine ⟨List.mem_range.2 hks, ?_⟩
        rw [Bool.and_eq_true]
        refine ⟨?_, ?_⟩
        · cases hl : listed.getD k true
          · rfl
          · exact absurd ((h.mem k hks).1 hl) hkn
        · rw [ho]
          simp only [Option.map_some, Option.getD_some]
          rw [Array.all_eq_true']
          intro e he
          cases hb : Region.binds .any e
          · rfl
          · have hlt : e.on < k := by
              have h1 := List.all_eq_true.1 hok k (by simpa using hks)
              rw [ho] at h1
              have h2 := List.all_eq_true.1 h1 e (by simpa using he)
              rw [hb] at h2
              exact blt_iff.1 (by simpa using h2)
            have hin := hall e.on hlt
            have := (h.mem e.on (by omega)).2 hin
            rw [getD_true_false (by rw [h.size]; omega)] at this
            simpa using this
      exact List.length_pos_of_mem this
    have hlt : t % rs.length < rs.length := Nat.mod_lt _ hne
    dsimp only
    rw [List.getElem?_eq_getElem hlt]
    dsimp only
    generalize hk : rs[t % rs.length] = k
    obtain ⟨hks, hkn, o, ho, hed⟩ := hmem k (by rw [← hk]; exact List.getElem_mem hlt)
    have hbits : ∀ j, ((Region.before ops).getD k 0).testBit j = true → j ∈ acc := by
      intro j hj
      obtain ⟨e, he, hb, h1⟩ := (before_test ho hok).1 hj
      have hin := hed e he hb
      rcases h1 with rfl | h1
      · exact hin
      · exact h.closed e.on hin j h1
    refine ih _ _ _ ⟨by simp [h.size], fun i hi => ?_, fun i hi => ?_, List.nodup_cons.2 ⟨hkn, h.nodup⟩, fun i hi j hj => ?_, List.pairwise_cons.2 ⟨fun a ha => ?_, h.ord⟩, fun i hi => ?_⟩ (by simp; omega)
    · rw [Array.getD_eq_getD_getElem?, Array.getElem?_setIfInBounds]
      by_cases e : k = i
      · subst e; simp [h.size, hks]
      · rw [if_neg e, ← Array.getD_eq_getD_getElem?, h.mem i hi]
        simp [Ne.symm e]
    · rcases List.mem_cons.1 hi with rfl | hi
      · exact hks
      · exact h.lt i hi
    · rcases List.mem_cons.1 hi with rfl | hi
      · exact List.mem_cons_of_mem _ (hbits j hj)
      · exact List.mem_cons_of_mem _ (h.closed i hi j hj)
    · cases hb : ((Region.before ops).getD a 0).testBit k
      · rfl
      · exact absurd (h.closed a ha k hb) hkn
    · rcases List.mem_cons.1 hi with rfl | hi
      · cases hb : ((Region.before ops).getD i 0).testBit i
        · rfl
        · exact absurd (hbits i hb) hkn
      · exact h.irr i hi

theorem schedule_ok {ops : Array Oper} (hok : edgesOk ops = true) (t : Nat) : Order ops (Region.schedule true ops t) := by
  have : Region.schedule true ops t = Region.linearise .any ops t := by simp [Region.schedule]
  rw [this]
  unfold Region.linearise
  obtain ⟨L, hL, h⟩ := linearise_ok hok ops.size t (Array.replicate ops.size false) [] ⟨by simp, fun i hi => by
    rw [Array.getD_eq_getD_getElem?]; simp [hi], by simp, List.nodup_nil, by simp, List.Pairwise.nil, by simp⟩ (by simp)
  rw [hL]
  refine ⟨?_, fun i => ?_, ?_, fun i hi => h.irr i (by simpa using hi)⟩
  · have := h.nodup
    unfold List.Nodup at this ⊢
    rw [List.pairwise_reverse]
    exact this.imp fun e => e.symm
  · rw [List.mem_reverse]
    constructor
    · exact h.lt i
    · intro hi
      exact (h.mem i hi).1 (by rw [Array.getD_eq_getD_getElem?]; simp [hi])
  · rw [List.pairwise_reverse]; exact h.ord

end Go.Rx
