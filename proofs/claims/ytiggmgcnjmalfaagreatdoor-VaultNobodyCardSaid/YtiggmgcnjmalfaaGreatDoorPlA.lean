/- A book's map and the document's list: the plain law. By an AI agent. -/
import Derived.Test.YtiggmgcnjmalfaaGreatDoorSpareA
import Derived.Test.YtiggmgcnjmalfaaGreatDoorRyI
import Derived.Test.YtiggmgcnjmalfaaGreatDoorEntryA
import Derived.SizedLaws
namespace Go.Proofs.YtiggmgcnjmalfaaGreatDoor
open Go Go.Rx Go.RowKit Go.Proofs
set_option linter.unusedVariables false
set_option linter.unusedSimpArgs false
set_option maxRecDepth 100000
namespace paths
abbrev Key := ByteArray × Int × Int × List Int
/-- What an entry says, with its bytes. -/
def KE (c : EntT → List Int) (e : EntT) : Key := (e.p, e.v, e.k, c e)
def KM (c : EntT → List Int) (e : EntM) : Key := KE c e.1
def dropK (p : ByteArray) (K : List Key) : List Key := K.filter fun k => !(k.1.data.toList == p.data.toList)
def Sorted (xs : List EntT) : Prop := xs.Pairwise fun a b => cmpN a.p b.p < 0
theorem drop_key {ys : EntT → List Int} (p : ByteArray) (xs : List EntT) : (dropE p xs).map (KE ys) = dropK p (xs.map (KE ys)) := by
  unfold dropE dropK; rw [List.filter_map]; rfl
theorem isE_false {p : ByteArray} {e : EntT} : isE p e = false ↔ e.p ≠ p := by
  rw [← Bool.not_eq_true, isE_iff]
theorem cmpN_self (a : ByteArray) : cmpN a a = 0 := by have := cmpN_neg a a; omega
theorem Sorted.names {xs : List EntT} (h : Sorted xs) : (xs.map fun e => e.p).Nodup := by
  unfold Sorted at h
  rw [List.nodup_iff_pairwise_ne, List.pairwise_map]
  exact h.imp fun {a b} hab e => by rw [e, cmpN_self] at hab; exact absurd hab (by decide)
/-- A book's map and the list have the same. -/
structure Inv (cm ys : EntT → List Int) (E : List EntM) (cl : Nat) (xs : List EntT) : Prop where
  ok : BookOK E cl
  twin : (E.map (KM cm)).Perm (xs.map (KE ys))
  sorted : Sorted xs
  few : xs.length ≤ 256
section
variable {E : List EntM} {cl : Nat} {xs : List EntT} {x : EntT} {cm ys : EntT → List Int}
theorem Inv.len (h : Inv cm ys E cl xs) : E.length = xs.length := by simpa using h.twin.length_eq
theorem Inv.to (h : Inv cm ys E cl xs) {e : EntT} (he : e ∈ xs) : ∃ f ∈ E, KM cm f = KE ys e := by
  have := h.twin.mem_iff.2 (List.mem_map.2 ⟨e, he, rfl⟩)
  exact List.mem_map.1 this
theorem Inv.of (h : Inv cm ys E cl xs) {f : EntM} (hf : f ∈ E) : ∃ e ∈ xs, KE ys e = KM cm f := by
  have := h.twin.mem_iff.1 (List.mem_map.2 ⟨f, hf, rfl⟩)
  exact List.mem_map.1 this
theorem key_p {f : EntM} {e : EntT} (h : KM cm f = KE ys e) : f.1.p = e.p ∧ f.1.v = e.v ∧ f.1.k = e.k := by
  simp only [KM, KE, Prod.mk.injEq] at h; exact ⟨h.1, h.2.1, h.2.2.1⟩
theorem key_c {f : EntM} {e : EntT} (h : KM cm f = KE ys e) : cm f.1 = ys e := by
  simp only [KM, KE, Prod.mk.injEq] at h; exact h.2.2.2
theorem Inv.cont {cm' : EntT → List Int} (h : Inv cm ys E cl xs) (hc : ∀ e ∈ E, cm e.1 = cm' e.1) : Inv cm' ys E cl xs :=
  ⟨h.ok, by
    have : E.map (KM cm') = E.map (KM cm) := List.map_congr_left fun e he => by unfold KM KE; rw [hc e he]
    rw [this]; exact h.twin, h.sorted, h.few⟩
theorem Inv.size (h : Inv cm ys E cl xs) : ∀ e ∈ xs, e.p.size ≤ 1000000000 := fun e he => by
  obtain ⟨f, hf, hk⟩ := h.to he
  rw [← (key_p hk).1]; exact h.ok.size f hf
theorem same_name (hB : BookOK E cl) {f g : EntM} (hf : f ∈ E) (hg : g ∈ E) (h : f.1.p = g.1.p) : f = g := by
  obtain ⟨i, hi⟩ := List.getElem?_of_mem hf
  obtain ⟨j, hj⟩ := List.getElem?_of_mem hg
  have := nodup_idx hB.names hi hj h
  subst this
  rw [hi] at hj; exact Option.some.inj hj
theorem Inv.find_hit (h : Inv cm ys E cl xs) {f : EntM} (hf : f ∈ E) (hp : f.1.p = x.p) : (findE x.p xs).v = f.1.v ∧ (dropE x.p xs).length < xs.length := by
  obtain ⟨e, he, hk⟩ := h.of hf
  have he2 : isE x.p e = true := isE_iff.2 (by rw [← hp]; exact (key_p hk.symm).1.symm)
  constructor
  · unfold findE
    cases hq : xs.find? (isE x.p) with
    | none => rw [List.find?_eq_none] at hq; exact absurd he2 (hq e he)
    | some e' =>
      have h1 := List.mem_of_find?_eq_some hq
      have h2 := isE_iff.1 (List.find?_some hq)
      obtain ⟨f', hf', hk'⟩ := h.to h1
      have : f' = f := same_name h.ok hf' hf (by rw [(key_p hk').1, h2, hp])
      show e'.v = _
      rw [← this]; exact (key_p hk').2.1.symm
  · refine List.length_filter_lt_length_iff_exists.2 ⟨e, he, by rw [he2]; simp⟩
theorem Inv.miss (h : Inv cm ys E cl xs) (hm : ∀ f ∈ E, f.1.p ≠ x.p) : ∀ e ∈ xs, e.p ≠ x.p := fun e he => by
  obtain ⟨f, hf, hk⟩ := h.to he
  rw [← (key_p hk).1]; exact hm f hf
theorem find_none {p : ByteArray} (hm : ∀ e ∈ xs, e.p ≠ p) : findE p xs = ⟨p, 0, 0, none, 0, 0⟩ ∧ dropE p xs = xs := by
  constructor
  · unfold findE
    rw [List.find?_eq_none.2 fun e he => by rw [isE_false.2 (hm e he)]; simp]; rfl
  · exact List.filter_eq_self.2 fun e he => by rw [isE_false.2 (hm e he)]; rfl
theorem insE_perm (x : EntT) : ∀ l : List EntT, (insE x l).Perm (x :: l)
  | [] => List.Perm.refl _
  | e :: l => by
    unfold insE
    split
    · exact List.Perm.refl _
    · exact ((insE_perm x l).cons e).trans (List.Perm.swap x e l)
theorem insE_sorted : ∀ {l : List EntT}, Sorted l → (∀ e ∈ l, e.p ≠ x.p) → Sorted (insE x l)
  | [], _, _ => by simp [insE, Sorted]
  | e :: l, h, hx => by
    unfold Sorted at h
    rw [List.pairwise_cons] at h
    unfold insE
    split
    · rename_i hc
      have h0 : cmpN x.p e.p < 0 := by rw [cmpN_neg]; omega
      unfold Sorted
      rw [List.pairwise_cons, List.pairwise_cons]
      refine ⟨fun b hb => ?_, h⟩
      rcases List.mem_cons.1 hb with rfl | hb
      · exact h0
      · exact cmpN_trans h0 (h.1 b hb)
    · rename_i hc
      have h1 : cmpN e.p x.p ≠ 0 := fun h0 => hx e List.mem_cons_self (cmpN_zero h0)
      unfold Sorted
      rw [List.pairwise_cons]
      refine ⟨fun b hb => ?_, insE_sorted h.2 fun z hz => hx z (List.mem_cons_of_mem _ hz)⟩
      rcases List.mem_cons.1 ((insE_perm x l).mem_iff.1 hb) with rfl | hb
      · omega
      · exact h.1 b hb
theorem Sorted.drop (h : Sorted xs) (p : ByteArray) : Sorted (dropE p xs) := List.Pairwise.sublist List.filter_sublist h
theorem Inv.new {E' : List EntM} {cl' : Nat} {L : List EntT} (hB : BookOK E' cl') (ht : (E'.map (KM cm)).Perm (KE ys x :: L.map (KE ys))) (hs : Sorted L) (hx : ∀ e ∈ L, e.p ≠ x.p) (hl : L.length < 256) : Inv cm ys E' cl' (insE x L) :=
  ⟨hB, ht.trans (((insE_perm x L).map (KE ys)).symm), insE_sorted hs hx, by rw [insE_len]; omega⟩
theorem drop_no {p : ByteArray} : ∀ e ∈ dropE p xs, e.p ≠ p := fun e he => by
  have := (List.mem_filter.1 he).2
  exact isE_false.1 (by simpa using this)
/-! ### which goes -/
theorem bestL_spec (hs : Sorted xs) : ∀ i, i ≤ xs.length → match bestL (xs.take i) with
    | none => ∀ y ∈ xs.take i, y.k ≠ 0
    | some e => e ∈ xs.take i ∧ e.k = 0 ∧ ∀ y ∈ xs.take i, y.k = 0 → ¬ (e.v > y.v ∨ (e.v = y.v ∧ cmpN y.p e.p < 0))
  | 0, _ => by
    rw [List.take_zero]
    show ∀ y ∈ [], _
    intro y hy; cases hy
  | i + 1, hi => by
    have ih := bestL_spec hs i (by omega)
    have hlt : i < xs.length := by omega
    rw [bestL_snoc hlt]
    have ht := List.take_succ_eq_append_getElem hlt
    have hbef : ∀ y ∈ xs.take i, cmpN y.p xs[i].p < 0 := fun y hy => by
      have hsub : Sorted (xs.take (i + 1)) := List.Pairwise.sublist (List.take_sublist _ _) hs
      rw [ht] at hsub
      exact (List.pairwise_append.1 hsub).2.2 y hy _ (by simp)
    have hin : ∀ y, y ∈ xs.take (i + 1) ↔ y ∈ xs.take i ∨ y = xs[i] := fun y => by rw [ht, List.mem_append, List.mem_singleton]
    unfold bestS
    by_cases hk : xs[i].k = 0
    · rw [if_pos hk]
      cases hb : bestL (xs.take i) with
      | none =>
        rw [hb] at ih
        refine ⟨(hin _).2 (.inr rfl), hk, fun y hy hy0 => ?_⟩
        rcases (hin y).1 hy with h | h
        · exact absurd hy0 (ih y h)
        · rw [h]; rintro (h | ⟨_, h⟩)
          · omega
          · rw [cmpN_self] at h; omega
      | some f =>
        rw [hb] at ih
        obtain ⟨h1, h2, h3⟩ := ih
        by_cases hv : xs[i].v < f.v
        · dsimp only
          rw [if_pos hv]
          refine ⟨(hin _).2 (.inr rfl), hk, fun y hy hy0 => ?_⟩
          rcases (hin y).1 hy with h | h
          · have := h3 y h hy0
            rintro (h | ⟨h, _⟩)
            · exact this (.inl (by omega))
            · exact this (.inl (by omega))
          · rw [h]; rintro (h | ⟨_, h⟩)
            · omega
            · rw [cmpN_self] at h; omega
        · dsimp only
          rw [if_neg hv]
          refine ⟨(hin _).2 (.inl h1), h2, fun y hy hy0 => ?_⟩
          rcases (hin y).1 hy with h | h
          · exact h3 y h hy0
          · rw [h]
            have hc := hbef f h1
            have hn := cmpN_neg f.p xs[i].p
            rintro (h | ⟨_, h⟩)
            · exact hv h
            · omega
    · rw [if_neg hk]
      cases hb : bestL (xs.take i) with
      | none =>
        rw [hb] at ih
        intro y hy
        rcases (hin y).1 hy with h | h
        · exact ih y h
        · rw [h]; exact hk
      | some f =>
        rw [hb] at ih
        obtain ⟨h1, h2, h3⟩ := ih
        refine ⟨(hin _).2 (.inl h1), h2, fun y hy hy0 => ?_⟩
        rcases (hin y).1 hy with h | h
        · exact h3 y h hy0
        · rw [h] at hy0; exact absurd hy0 hk
theorem Inv.best_none (h : Inv cm ys E cl xs) (hb : bestL xs = none) : BestAll E ⟨#[]⟩ := by
  have hs := bestL_spec h.sorted xs.length (Nat.le_refl _)
  rw [List.take_length, hb] at hs
  refine .inl ⟨rfl, fun f hf => ?_⟩
  obtain ⟨e, he, hk⟩ := h.of hf
  rw [(key_p hk.symm).2.2]; exact hs e he
theorem Inv.best_some (h : Inv cm ys E cl xs) {e : EntT} (hb : bestL xs = some e) : BestAll E e.p ∧ e ∈ xs := by
  have hs := bestL_spec h.sorted xs.length (Nat.le_refl _)
  rw [List.take_length, hb] at hs
  obtain ⟨h1, h2, h3⟩ := hs
  obtain ⟨f, hf, hk⟩ := h.to h1
  refine ⟨.inr ⟨f, hf, (key_p hk).1, by rw [(key_p hk).2.2]; exact h2, fun g hg hg0 hbt => ?_⟩, h1⟩
  obtain ⟨y, hy, hk2⟩ := h.of hg
  have hk2 := key_p hk2.symm
  have hk := key_p hk
  refine h3 y hy (by rw [← hk2.2.2]; exact hg0) ?_
  unfold beats at hbt
  rw [hk.1, hk.2.1, hk2.1, hk2.2.1] at hbt
  exact hbt
/-! ### maps that were changed -/
theorem modify_perm {α : Type} {g : α → α} : ∀ {l : List α} {j : Nat} {f : α}, l[j]? = some f → (l.modify j g).Perm (g f :: l.eraseIdx j)
  | [], j, f, h => by simp at h
  | a :: l, 0, f, h => by
    simp at h; subst h
    simp
  | a :: l, j + 1, f, h => by
    have ih := modify_perm (g := g) (l := l) (j := j) (f := f) (by simpa using h)
    simp only [List.modify_succ_cons, List.eraseIdx_cons_succ]
    exact (ih.cons a).trans (List.Perm.swap _ _ _)
theorem erase_drop : ∀ {E : List EntM} {j : Nat} {f : EntM}, (E.map fun e => e.1.p).Nodup → E[j]? = some f → (E.eraseIdx j).map (KM cm) = dropK f.1.p (E.map (KM cm))
  | [], j, f, _, h => by simp at h
  | a :: l, 0, f, hn, h => by
    simp at h; subst h
    rw [List.map_cons, List.nodup_cons] at hn
    unfold dropK
    rw [List.eraseIdx_cons_zero, List.map_cons, List.filter_cons_of_neg (by simp [KM, KE])]
    refine (List.filter_eq_self.2 fun k hk => ?_).symm
    obtain ⟨g, hg, rfl⟩ := List.mem_map.1 hk
    have : g.1.p ≠ a.1.p := fun e => hn.1 (List.mem_map.2 ⟨g, hg, e⟩)
    have := isE_false.2 this
    unfold isE at this
    show (!(g.1.p.data.toList == a.1.p.data.toList)) = true
    rw [this]; rfl
  | a :: l, j + 1, f, hn, h => by
    rw [List.map_cons, List.nodup_cons] at hn
    have hf : l[j]? = some f := by simpa using h
    have ih := erase_drop hn.2 hf
    have hmem := List.mem_of_getElem? hf
    have : a.1.p ≠ f.1.p := fun e => hn.1 (List.mem_map.2 ⟨f, hmem, e.symm⟩)
    have := isE_false.2 this
    unfold isE at this
    unfold dropK at ih ⊢
    rw [List.eraseIdx_cons_succ, List.map_cons, List.map_cons, ih, List.filter_cons_of_pos (by show (!(a.1.p.data.toList == f.1.p.data.toList)) = true; rw [this]; rfl)]
theorem BookOK.sub {E' : List EntM} (h : BookOK E cl) (hs : E'.Sublist E) : BookOK E' cl :=
  ⟨h.names.sublist (hs.map _), h.borns.sublist (hs.map _), fun e he => h.born e (hs.mem he), fun e he => h.full e (hs.mem he), fun e he => h.size e (hs.mem he)⟩
theorem BookOK.snoc (h : BookOK E cl) {y : EntT} (hm : ∀ e ∈ E, e.1.p ≠ y.p) (hf : y.p ≠ ⟨#[]⟩) (hz : y.p.size ≤ 1000000000) : BookOK (E ++ [(y, cl)]) (cl + 1) := by
  refine ⟨?_, ?_, fun e he => ?_, fun e he => ?_, fun e he => ?_⟩
  · rw [List.map_append, List.nodup_append]
    refine ⟨h.names, by simp, fun a ha b hb => ?_⟩
    obtain ⟨e, he, rfl⟩ := List.mem_map.1 ha
    have : b = y.p := by simpa using hb
    rw [this]; exact hm e he
  · rw [List.map_append, List.nodup_append]
    refine ⟨h.borns, by simp, fun a ha b hb => ?_⟩
    obtain ⟨e, he, rfl⟩ := List.mem_map.1 ha
    have : b = cl := by simpa using hb
    have := h.born e he
    omega
  · rcases List.mem_append.1 he with he | he
    · have := h.born e he; omega
    · have : e = (y, cl) := by simpa using he
      subst this; show cl < cl + 1; omega
  · rcases List.mem_append.1 he with he | he
    · exact h.full e he
    · have : e = (y, cl) := by simpa using he
      subst this; exact hf
  · rcases List.mem_append.1 he with he | he
    · exact h.size e he
    · have : e = (y, cl) := by simpa using he
      subst this; exact hz
theorem modify_map {α β : Type} {h : α → β} {g : α → α} : ∀ {l : List α} {j : Nat} {f : α}, l[j]? = some f → h (g f) = h f → (l.modify j g).map h = l.map h
  | [], j, f, e, _ => by simp at e
  | a :: l, 0, f, e, k => by simp at e; subst e; simp [k]
  | a :: l, j + 1, f, e, k => by simp [modify_map (l := l) (j := j) (f := f) (by simpa using e) k]
theorem modify_mem {α : Type} {g : α → α} {l : List α} {j : Nat} {f e : α} (h : l[j]? = some f) (he : e ∈ l.modify j g) : e = g f ∨ e ∈ l := by
  rcases List.mem_cons.1 ((modify_perm h).mem_iff.1 he) with h | h
  · exact .inl h
  · exact .inr (List.mem_of_mem_eraseIdx h)
theorem BookOK.mod (h : BookOK E cl) {j : Nat} {f : EntM} {y : EntT} (hf : E[j]? = some f) (hp : y.p = f.1.p) : BookOK (E.modify j fun e => (y, e.2)) cl := by
  have hmem := List.mem_of_getElem? hf
  refine ⟨?_, ?_, fun e he => ?_, fun e he => ?_, fun e he => ?_⟩
  · rw [modify_map hf (by exact hp)]; exact h.names
  · rw [modify_map hf (by rfl)]; exact h.borns
  · rcases modify_mem hf he with rfl | he
    · exact h.born f hmem
    · exact h.born e he
  · rcases modify_mem hf he with rfl | he
    · show y.p ≠ _; rw [hp]; exact h.full f hmem
    · exact h.full e he
  · rcases modify_mem hf he with rfl | he
    · show y.p.size ≤ _; rw [hp]; exact h.size f hmem
    · exact h.size e he
end
end paths
end Go.Proofs.YtiggmgcnjmalfaaGreatDoor
namespace Go.Proofs.YtiggmgcnjmalfaaGreatDoor
open Go Go.Rx Go.RowKit Go.Proofs
set_option linter.unusedVariables false
set_option linter.unusedSimpArgs false
set_option maxRecDepth 100000
namespace paths
def cloS (D : List EntT) (ys : EntT → List Int) : SlM := fun args _ => match args with
  | [X] => match decX X with
    | some x => some ((ys x).map (Value.int .u8), x.l, 1, 5, fun a => .agg [.v (.string x.p), .v (.int .u64 x.v), .v (.int .i64 x.k), a], fun a => .agg #[.string x.p, .int .u64 x.v, .int .i64 x.k, a], x ∈ D ∧ x.a ≠ none)
    | none => none
  | _ => none
def cloE (D : List EntT) (args : List SV) (_ : SH) : Option (SV × Prop) := match args with
  | [X] => match decX X with
    | some x => some (.agg [.v (.string x.p), .v (.int .u64 x.v), .v (.int .i64 x.k), .v (.slice none 0 0)], x ∈ D ∧ x.a = none)
    | none => none
  | _ => none
noncomputable def lPl (D : List EntT) (ys : EntT → List Int) : List (FuncId × Sum) := [(15, brSum (slSumM rputS) (svSum rputE)), (49, pureSum echkPS), (52, plSumG spareS), (53, brSum (slSumM (cloS D ys)) (svSum (cloE D)))]
noncomputable def EPl (D : List EntT) (ys : EntT → List Int) : Env := { EP [] [] with sums := fun f => (lPl D ys).lookup f }
noncomputable def entPl (D : List EntT) (ys : EntT → List Int) (l : List SV) (off n c : Nat) : SM := (enterS (EPl D ys) 6 [.sl 0 off n (some c)] (memOf 6 1 0 [lkE l])).getD noSM
noncomputable def todoPl : List SI := todoL (EPl [] fun _ => []) 2 60 (entPl [] (fun _ => []) [] 0 0 0) [(1000, .b true)]
noncomputable def hdPl (off n c : Nat) (i : Int) : SF := { fn := 6, tm := tmOf 38 6 ([.junk, .junk, .junk, .ptr 1 0, .junk, .ptr 2 0, .ptr 3 0] ++ List.replicate 9 .junk ++ [.sl 0 off n (some c), .v (.int .i64 n), .v (.int .i64 i)] ++ List.replicate 19 .junk), todo := todoPl, defers := [], ret := false, kind := .normal, ro := none }
def bk0 : Option (SO × Bool) := some (.row [.v (.int .u64 0), .v (.map none)] 86 (0, 0) none, true)
def bk1 : Option (SO × Bool) := some (.row [.v (.int .u64 0), .map 4] 86 (0, 0) none, true)
def rb1 (k : Nat) : Option (SO × Bool) := some (.row [.v (.int .u64 0), .sl 5 0 k none] 28 (0, 0) none, true)
def obj0 (l : List SV) : List (Option (SO × Bool)) := [lkE l, zbO, bk0, zbO]
def mapW (es : List (SV × SV × Nat)) (cl : Nat) : Option (SO × Bool) := some (.map es cl, true)
def obj1 (l : List SV) (es : List (SV × SV × Nat)) (cl : Nat) (m : List SV) (k : Nat) : List (Option (SO × Bool)) := [lkE l, zbO, bk1, rb1 k, mapW es cl, rowsE m]
theorem pl0 (D : List EntT) (ys : EntT → List Int) (l : List SV) (off n c : Nat) : reach (EPl D ys) 2 60 (entPl D ys l off n c) [(1000, .b true)] [(0, 0), (1, 1), (2, 2), (3, 3)] [0] (hdPl off n c 0) 6 (obj0 l) = [
  (0 : Nat) = (0 : Nat),
  (0 : Nat) = (0 : Nat),
  (0 : Nat) = (0 : Nat),
  off = off ∧ n = n ∧ some c = some c,
  Value.int IntKind.i64 (↑n : Int) = Value.int IntKind.i64 (↑n : Int),
  Value.int IntKind.i64 (0 : Int) = Value.int IntKind.i64 (0 : Int),
  l = l,
  l.all closedSV = true,
  Value.int IntKind.u64 (0 : Int) = Value.int IntKind.u64 (0 : Int),
  Value.slice none (0 : Nat) (0 : Nat) = Value.slice none (0 : Nat) (0 : Nat),
  Value.int IntKind.u64 (0 : Int) = Value.int IntKind.u64 (0 : Int),
  Value.map none = Value.map none,
  Value.int IntKind.u64 (0 : Int) = Value.int IntKind.u64 (0 : Int),
  Value.slice none (0 : Nat) (0 : Nat) = Value.slice none (0 : Nat) (0 : Nat)] := by kernel_rfl
theorem pl1 (D : List EntT) (ys : EntT → List Int) (l : List SV) (off n c : Nat) (x : EntT) (i i' : Int) : reach (EPl D ys) 2 300 (SM.at (hdPl off n c i) 6 (obj0 l)) (ff [0] true ++ [(2, .cells (eC x))] ++ ff [3] false ++ ff [6] true ++ ff [7] false) [(0, 0), (1, 1), (2, 2), (3, 3)] [0] (hdPl off n c i') 6 (obj0 l) = [
  (0 : Nat) = (0 : Nat),
  (0 : Nat) = (0 : Nat),
  (0 : Nat) = (0 : Nat),
  off = off ∧ n = n ∧ some c = some c,
  Value.int IntKind.i64 (↑n : Int) = Value.int IntKind.i64 (↑n : Int),
  Value.int IntKind.i64 (IntKind.i64.wrap (i + (1 : Int))) = Value.int IntKind.i64 i',
  l = l,
  l.all closedSV = true,
  Value.int IntKind.u64 (0 : Int) = Value.int IntKind.u64 (0 : Int),
  Value.slice none (0 : Nat) (0 : Nat) = Value.slice none (0 : Nat) (0 : Nat),
  Value.int IntKind.u64 (0 : Int) = Value.int IntKind.u64 (0 : Int),
  Value.map none = Value.map none,
  Value.int IntKind.u64 (0 : Int) = Value.int IntKind.u64 (0 : Int),
  Value.slice none (0 : Nat) (0 : Nat) = Value.slice none (0 : Nat) (0 : Nat),
  (!entN x.1 x.2 x.3 x.5 ==
   (refPut ([], True).fst { p := x.p, v := x.v, k := x.k, a := x.a, l := x.l, c := x.c : EntT }).2) =
   false,
  (!entN x.1 x.2 x.3 x.5 == (0 : Int)) = true,
  x.1.size ≤ (1000000000 : Nat) ∧ (0 : Int) ≤ x.2 ∧ x.2 < (18446744073709551616 : Int),
  True ∧
   PutIn [] { p := x.1, v := x.2, k := x.3, a := x.4, l := x.5, c := x.6 : EntT } ∧
   (refPut ([], True).fst { p := x.p, v := x.v, k := x.k, a := x.a, l := x.l, c := x.c : EntT }).2 ≠ (0 : Int),
  List.take (4 : Nat) (List.drop (off + i.toNat * (4 : Nat)) l) = eC x ∧
   (eC x).length = (4 : Nat),
  inRange i n = true,
  decide (i < (↑n : Int)) = true] := by kernel_rfl
theorem pl2 (D : List EntT) (ys : EntT → List Int) (l : List SV) (off n c : Nat) (x : EntT) (i i' : Int) (es' : List (SV × SV × Nat)) (cl' k : Nat) (m : List SV) (q : List SV) (b : Nat × Nat) : reachF (EPl D ys) 2 400 (SM.at (hdPl off n c i) 6 (obj0 l)) (ff [0] true ++ [(2, .cells (eC x))] ++ ff [3] true ++ ff [6] false ++ ff [23] true) [(0, 0), (1, 1), (2, 2), (3, 3), (4, 10), (5, 5)] [0, 4, 5] (hdPl off n c i') 6 (obj1 l es' cl' m k) 10 11 (.row q 5 (0, 0) (some 1)) b = [
  List.map SV.v
   (List.map (Value.int IntKind.u8) (ys { p := x.1, v := x.2, k := x.3, a := x.4, l := x.5, c := x.6 : EntT })) =
   q,
  q.all closedSV = true,
  (0 : Nat) = (0 : Nat),
  (0 : Nat) = (0 : Nat),
  (0 : Nat) = (0 : Nat),
  off = off ∧ n = n ∧ some c = some c,
  Value.int IntKind.i64 (↑n : Int) = Value.int IntKind.i64 (↑n : Int),
  Value.int IntKind.i64 (IntKind.i64.wrap (i + (1 : Int))) = Value.int IntKind.i64 i',
  l = l,
  l.all closedSV = true,
  Value.int IntKind.u64 (0 : Int) = Value.int IntKind.u64 (0 : Int),
  Value.slice none (0 : Nat) (0 : Nat) = Value.slice none (0 : Nat) (0 : Nat),
  Value.int IntKind.u64 (0 : Int) = Value.int IntKind.u64 (0 : Int),
  Value.int IntKind.u64 (0 : Int) = Value.int IntKind.u64 (0 : Int),
  (0 : Nat) = (0 : Nat) ∧
   (refPut ([], True).fst { p := x.p, v := x.v, k := x.k, a := x.a, l := x.l, c := x.c : EntT }).1.length = k ∧ (none : Option Nat) = none,
  (1 : Nat) = cl',
  closeM (11 : Nat) b ([] ++ [(SV.v (Value.string x.p), SV.agg [SV.v (Value.string x.p), SV.v (Value.int IntKind.u64 x.v), SV.v (Value.int IntKind.i64 x.k), SV.sl 11 0 x.l none], 0)]) = es',
  (es'.all fun e => closedE e.fst && closedE e.snd.fst) = true,
  List.map SV.v (vE (refPut ([], True).fst { p := x.p, v := x.v, k := x.k, a := x.a, l := x.l, c := x.c : EntT }).1) = m,
  m.all closedSV = true,
  (x.1 == x.1) = true,
  List.Mem { p := x.1, v := x.2, k := x.3, a := x.4, l := x.5, c := x.6 : EntT } D ∧ x.4 ≠ none,
  (!entN x.1 x.2 x.3 x.5 == (0 : Int)) = false,
  x.1.size ≤ (1000000000 : Nat) ∧ (0 : Int) ≤ x.2 ∧ x.2 < (18446744073709551616 : Int),
  True ∧
   PutIn [] { p := x.1, v := x.2, k := x.3, a := x.4, l := x.5, c := x.6 : EntT } ∧
   (refPut ([], True).fst { p := x.p, v := x.v, k := x.k, a := x.a, l := x.l, c := x.c : EntT }).2 = (0 : Int),
  List.take (4 : Nat) (List.drop (off + i.toNat * (4 : Nat)) l) = eC x ∧
   (eC x).length = (4 : Nat),
  inRange i n = true,
  decide (i < (↑n : Int)) = true] := by kernel_rfl
theorem pl3 (D : List EntT) (ys : EntT → List Int) (l : List SV) (off n c : Nat) (x : EntT) (i i' : Int) (es' : List (SV × SV × Nat)) (cl' k : Nat) (m : List SV) : reach (EPl D ys) 2 400 (SM.at (hdPl off n c i) 6 (obj0 l)) (ff [0] true ++ [(2, .cells (eC x))] ++ ff [3] true ++ ff [6] false ++ ff [23] false) [(0, 0), (1, 1), (2, 2), (3, 3), (4, 10), (5, 5)] [0, 4, 5] (hdPl off n c i') 6 (obj1 l es' cl' m k) = [
  (0 : Nat) = (0 : Nat),
  (0 : Nat) = (0 : Nat),
  (0 : Nat) = (0 : Nat),
  off = off ∧ n = n ∧ some c = some c,
  Value.int IntKind.i64 (↑n : Int) = Value.int IntKind.i64 (↑n : Int),
  Value.int IntKind.i64 (IntKind.i64.wrap (i + (1 : Int))) = Value.int IntKind.i64 i',
  l = l,
  l.all closedSV = true,
  Value.int IntKind.u64 (0 : Int) = Value.int IntKind.u64 (0 : Int),
  Value.slice none (0 : Nat) (0 : Nat) = Value.slice none (0 : Nat) (0 : Nat),
  Value.int IntKind.u64 (0 : Int) = Value.int IntKind.u64 (0 : Int),
  Value.int IntKind.u64 (0 : Int) = Value.int IntKind.u64 (0 : Int),
  (0 : Nat) = (0 : Nat) ∧
   (refPut ([], True).fst { p := x.p, v := x.v, k := x.k, a := x.a, l := x.l, c := x.c : EntT }).1.length = k ∧ (none : Option Nat) = none,
  (1 : Nat) = cl',
  ([] ++ [(SV.v (Value.string x.p), SV.agg [SV.v (Value.string x.p), SV.v (Value.int IntKind.u64 x.v), SV.v (Value.int IntKind.i64 x.k), SV.v (Value.slice none 0 0)], 0)]) = es',
  (es'.all fun e => closedE e.fst && closedE e.snd.fst) = true,
  List.map SV.v (vE (refPut ([], True).fst { p := x.p, v := x.v, k := x.k, a := x.a, l := x.l, c := x.c : EntT }).1) = m,
  m.all closedSV = true,
  (x.1 == x.1) = true,
  List.Mem { p := x.1, v := x.2, k := x.3, a := x.4, l := x.5, c := x.6 : EntT } D ∧ x.4 = none,
  (!entN x.1 x.2 x.3 x.5 == (0 : Int)) = false,
  x.1.size ≤ (1000000000 : Nat) ∧ (0 : Int) ≤ x.2 ∧ x.2 < (18446744073709551616 : Int),
  True ∧
   PutIn [] { p := x.1, v := x.2, k := x.3, a := x.4, l := x.5, c := x.6 : EntT } ∧
   (refPut ([], True).fst { p := x.p, v := x.v, k := x.k, a := x.a, l := x.l, c := x.c : EntT }).2 = (0 : Int),
  List.take (4 : Nat) (List.drop (off + i.toNat * (4 : Nat)) l) = eC x ∧
   (eC x).length = (4 : Nat),
  inRange i n = true,
  decide (i < (↑n : Int)) = true] := by kernel_rfl
theorem pm1 (D : List EntT) (ys : EntT → List Int) (l m m' : List SV) (off n c k k' j : Nat) (x f g : EntT) (i i' : Int) (es es' : List (SV × SV × Nat)) (cl cl' born : Nat) : reach (EPl D ys) 2 400 (SM.at (hdPl off n c i) 6 (obj1 l es cl m k)) (ff [0] true ++ [(2, .cells (eC x))] ++ ff [3] false ++ ff [6] true ++ ff [7] false) [(0, 0), (1, 1), (2, 2), (3, 3), (4, 4), (5, 5)] [0, 4, 5] (hdPl off n c i') 6 (obj1 l es' cl' m' k') = [
  (0 : Nat) = (0 : Nat),
  (0 : Nat) = (0 : Nat),
  (0 : Nat) = (0 : Nat),
  off = off ∧ n = n ∧ some c = some c,
  Value.int IntKind.i64 (↑n : Int) = Value.int IntKind.i64 (↑n : Int),
  Value.int IntKind.i64 (IntKind.i64.wrap (i + (1 : Int))) = Value.int IntKind.i64 i',
  l = l,
  l.all closedSV = true,
  Value.int IntKind.u64 (0 : Int) = Value.int IntKind.u64 (0 : Int),
  Value.slice none (0 : Nat) (0 : Nat) = Value.slice none (0 : Nat) (0 : Nat),
  Value.int IntKind.u64 (0 : Int) = Value.int IntKind.u64 (0 : Int),
  Value.int IntKind.u64 (0 : Int) = Value.int IntKind.u64 (0 : Int),
  (0 : Nat) = (0 : Nat) ∧ k = k' ∧ (none : Option Nat) = none,
  cl = cl',
  es = es',
  (es'.all fun e => closedE e.fst && closedE e.snd.fst) = true,
  m = m',
  m'.all closedSV = true,
  (!entN x.1 x.2 x.3 x.5 ==
   (refPut (entsOf m k, (46 : TypeId) = (46 : TypeId) ∧ HoldsE m k (entsOf m k) ∧ entsOf m k ≠ []).fst
   { p := x.p, v := x.v, k := x.k, a := x.a, l := x.l, c := x.c : EntT }).2) =
   false,
  (!entN x.1 x.2 x.3 x.5 == (0 : Int)) = true,
  x.1.size ≤ (1000000000 : Nat) ∧ (0 : Int) ≤ x.2 ∧ x.2 < (18446744073709551616 : Int),
  ((46 : Nat) = (46 : Nat) ∧ HoldsE m k (entsOf m k) ∧ entsOf m k ≠ []) ∧
   PutIn (entsOf m k) { p := x.1, v := x.2, k := x.3, a := x.4, l := x.5, c := x.6 : EntT } ∧
   (refPut (entsOf m k, (46 : TypeId) = (46 : TypeId) ∧ HoldsE m k (entsOf m k) ∧ entsOf m k ≠ []).fst
   { p := x.p, v := x.v, k := x.k, a := x.a, l := x.l, c := x.c : EntT }).2 ≠
   (0 : Int),
  List.take (4 : Nat) (List.drop (off + i.toNat * (4 : Nat)) l) = eC x ∧
   (eC x).length = (4 : Nat),
  inRange i n = true,
  decide (i < (↑n : Int)) = true] := by kernel_rfl
theorem pm2 (D : List EntT) (ys : EntT → List Int) (l m m' : List SV) (off n c k k' j : Nat) (x f g : EntT) (i i' : Int) (es es' : List (SV × SV × Nat)) (cl cl' born : Nat) : reach (EPl D ys) 2 400 (SM.at (hdPl off n c i) 6 (obj1 l es cl m k)) (ff [0] true ++ [(2, .cells (eC x))] ++ ff [3, 6] false ++ [(8, .hit j (.agg [.v (.string x.p), .v (.int .u64 f.v), .v (.int .i64 f.k), .v (.slice f.a f.l f.c)]) born)] ++ ff [14] true ++ ff [15] false) [(0, 0), (1, 1), (2, 2), (3, 3), (4, 4), (5, 5)] [0, 4, 5] (hdPl off n c i') 6 (obj1 l es' cl' m' k') = [
  (0 : Nat) = (0 : Nat),
  (0 : Nat) = (0 : Nat),
  (0 : Nat) = (0 : Nat),
  off = off ∧ n = n ∧ some c = some c,
  Value.int IntKind.i64 (↑n : Int) = Value.int IntKind.i64 (↑n : Int),
  Value.int IntKind.i64 (IntKind.i64.wrap (i + (1 : Int))) = Value.int IntKind.i64 i',
  l = l,
  l.all closedSV = true,
  Value.int IntKind.u64 (0 : Int) = Value.int IntKind.u64 (0 : Int),
  Value.slice none (0 : Nat) (0 : Nat) = Value.slice none (0 : Nat) (0 : Nat),
  Value.int IntKind.u64 (0 : Int) = Value.int IntKind.u64 (0 : Int),
  Value.int IntKind.u64 (0 : Int) = Value.int IntKind.u64 (0 : Int),
  (0 : Nat) = (0 : Nat) ∧ k = k' ∧ (none : Option Nat) = none,
  cl = cl',
  es = es',
  (es'.all fun e => closedE e.fst && closedE e.snd.fst) = true,
  m = m',
  m'.all closedSV = true,
  (!(31 : Int) ==
   (refPut (entsOf m k, (46 : TypeId) = (46 : TypeId) ∧ HoldsE m k (entsOf m k) ∧ entsOf m k ≠ []).fst
   { p := x.p, v := x.v, k := x.k, a := x.a, l := x.l, c := x.c : EntT }).2) =
   false,
  (!decide (x.2 > f.2)) = true,
  (∀ (e : SV × SV × Nat), e ∈ List.take j es → keyNot x.p e.fst) ∧
   es[j]? =
   some
   (SV.v (Value.string x.1),
   SV.agg
   [SV.v (Value.string x.1), SV.v (Value.int IntKind.u64 f.2), SV.v (Value.int IntKind.i64 f.3),
   SV.v (Value.slice f.4 f.5 f.6)],
   born),
  (!entN x.1 x.2 x.3 x.5 == (0 : Int)) = false,
  x.1.size ≤ (1000000000 : Nat) ∧ (0 : Int) ≤ x.2 ∧ x.2 < (18446744073709551616 : Int),
  ((46 : Nat) = (46 : Nat) ∧ HoldsE m k (entsOf m k) ∧ entsOf m k ≠ []) ∧
   PutIn (entsOf m k) { p := x.1, v := x.2, k := x.3, a := x.4, l := x.5, c := x.6 : EntT } ∧
   (refPut (entsOf m k, (46 : TypeId) = (46 : TypeId) ∧ HoldsE m k (entsOf m k) ∧ entsOf m k ≠ []).fst
   { p := x.p, v := x.v, k := x.k, a := x.a, l := x.l, c := x.c : EntT }).2 ≠
   (0 : Int),
  List.take (4 : Nat) (List.drop (off + i.toNat * (4 : Nat)) l) = eC x ∧
   (eC x).length = (4 : Nat),
  inRange i n = true,
  decide (i < (↑n : Int)) = true] := by kernel_rfl
theorem pm3 (D : List EntT) (ys : EntT → List Int) (l m m' : List SV) (off n c k k' j : Nat) (x f g : EntT) (i i' : Int) (es es' : List (SV × SV × Nat)) (cl cl' born : Nat) : reach (EPl D ys) 2 400 (SM.at (hdPl off n c i) 6 (obj1 l es cl m k)) (ff [0] true ++ [(2, .cells (eC x))] ++ ff [3, 6] false ++ [(8, .miss)] ++ ff [22, 24] true ++ ff [25] false) [(0, 0), (1, 1), (2, 2), (3, 3), (4, 4), (5, 5)] [0, 4, 5] (hdPl off n c i') 6 (obj1 l es' cl' m' k') = [
  (0 : Nat) = (0 : Nat),
  (0 : Nat) = (0 : Nat),
  (0 : Nat) = (0 : Nat),
  off = off ∧ n = n ∧ some c = some c,
  Value.int IntKind.i64 (↑n : Int) = Value.int IntKind.i64 (↑n : Int),
  Value.int IntKind.i64 (IntKind.i64.wrap (i + (1 : Int))) = Value.int IntKind.i64 i',
  l = l,
  l.all closedSV = true,
  Value.int IntKind.u64 (0 : Int) = Value.int IntKind.u64 (0 : Int),
  Value.slice none (0 : Nat) (0 : Nat) = Value.slice none (0 : Nat) (0 : Nat),
  Value.int IntKind.u64 (0 : Int) = Value.int IntKind.u64 (0 : Int),
  Value.int IntKind.u64 (0 : Int) = Value.int IntKind.u64 (0 : Int),
  (0 : Nat) = (0 : Nat) ∧ k = k' ∧ (none : Option Nat) = none,
  cl = cl',
  es = es',
  (es'.all fun e => closedE e.fst && closedE e.snd.fst) = true,
  m = m',
  m'.all closedSV = true,
  (!(24 : Int) ==
   (refPut (entsOf m k, (46 : TypeId) = (46 : TypeId) ∧ HoldsE m k (entsOf m k) ∧ entsOf m k ≠ []).fst
   { p := x.p, v := x.v, k := x.k, a := x.a, l := x.l, c := x.c : EntT }).2) =
   false,
  (!!(bestG es).toList == { data := { toList := [] : Array UInt8 } : ByteArray }.toList) = true,
  (86 : Nat) = (86 : Nat) ∧ BookIn es cl,
  decide ((↑es.length : Int) ≥ (256 : Int)) = true,
  ∀ (e : SV × SV × Nat), e ∈ es → keyNot x.p e.fst,
  (!entN x.1 x.2 x.3 x.5 == (0 : Int)) = false,
  x.1.size ≤ (1000000000 : Nat) ∧ (0 : Int) ≤ x.2 ∧ x.2 < (18446744073709551616 : Int),
  ((46 : Nat) = (46 : Nat) ∧ HoldsE m k (entsOf m k) ∧ entsOf m k ≠ []) ∧
   PutIn (entsOf m k) { p := x.1, v := x.2, k := x.3, a := x.4, l := x.5, c := x.6 : EntT } ∧
   (refPut (entsOf m k, (46 : TypeId) = (46 : TypeId) ∧ HoldsE m k (entsOf m k) ∧ entsOf m k ≠ []).fst
   { p := x.p, v := x.v, k := x.k, a := x.a, l := x.l, c := x.c : EntT }).2 ≠
   (0 : Int),
  List.take (4 : Nat) (List.drop (off + i.toNat * (4 : Nat)) l) = eC x ∧
   (eC x).length = (4 : Nat),
  inRange i n = true,
  decide (i < (↑n : Int)) = true] := by kernel_rfl
theorem pb1 (D : List EntT) (ys : EntT → List Int) (l m m' : List SV) (off n c k k' j : Nat) (x f g : EntT) (i i' : Int) (es es' : List (SV × SV × Nat)) (cl cl' born : Nat) (q : List SV) (b : Nat × Nat) : reachF (EPl D ys) 2 400 (SM.at (hdPl off n c i) 6 (obj1 l es cl m k)) (ff [0] true ++ [(2, .cells (eC x))] ++ ff [3] true ++ ff [6] false ++ [(8, .hit j (.agg [.v (.string x.p), .v (.int .u64 f.v), .v (.int .i64 f.k), .v (.slice f.a f.l f.c)]) born)] ++ ff [14] false ++ ff [24] true ++ [(26, .hit j (.agg [.v (.string x.p), .v (.int .u64 f.v), .v (.int .i64 f.k), .v (.slice f.a f.l f.c)]) born)]) [(0, 0), (1, 1), (2, 2), (3, 3), (4, 4), (5, 7)] [0, 4, 5] (hdPl off n c i') 6 (obj1 l es' cl' m' k') 4 14 (.row q 5 (0, 0) (some 1)) b = [
  List.map SV.v
   (List.map (Value.int IntKind.u8) (ys { p := x.1, v := x.2, k := x.3, a := x.4, l := x.5, c := x.6 : EntT })) =
   q,
  q.all closedSV = true,
  (0 : Nat) = (0 : Nat),
  (0 : Nat) = (0 : Nat),
  (0 : Nat) = (0 : Nat),
  off = off ∧ n = n ∧ some c = some c,
  Value.int IntKind.i64 (↑n : Int) = Value.int IntKind.i64 (↑n : Int),
  Value.int IntKind.i64 (IntKind.i64.wrap (i + (1 : Int))) = Value.int IntKind.i64 i',
  l = l,
  l.all closedSV = true,
  Value.int IntKind.u64 (0 : Int) = Value.int IntKind.u64 (0 : Int),
  Value.slice none (0 : Nat) (0 : Nat) = Value.slice none (0 : Nat) (0 : Nat),
  Value.int IntKind.u64 (0 : Int) = Value.int IntKind.u64 (0 : Int),
  Value.int IntKind.u64 (0 : Int) = Value.int IntKind.u64 (0 : Int),
  (0 : Nat) = (0 : Nat) ∧
   (refPut (entsOf m k, (46 : TypeId) = (46 : TypeId) ∧ HoldsE m k (entsOf m k) ∧ entsOf m k ≠ []).fst
   { p := x.p, v := x.v, k := x.k, a := x.a, l := x.l, c := x.c : EntT }).1.length =
   k' ∧ (none : Option Nat) = none,
  cl = cl',
  closeM (14 : Nat) b (es.modify j fun e => (SV.v (Value.string x.p), SV.agg [SV.v (Value.string x.p), SV.v (Value.int IntKind.u64 x.v), SV.v (Value.int IntKind.i64 x.k), SV.sl 14 0 x.l none], e.2.2)) = es',
  (es'.all fun e => closedE e.fst && closedE e.snd.fst) = true,
  List.map SV.v
   (vE
   (refPut (entsOf m k, (46 : TypeId) = (46 : TypeId) ∧ HoldsE m k (entsOf m k) ∧ entsOf m k ≠ []).fst
   { p := x.p, v := x.v, k := x.k, a := x.a, l := x.l, c := x.c : EntT }).1) =
   m',
  m'.all closedSV = true,
  (∀ (e : SV × SV × Nat), e ∈ List.take j es → keyNot x.p e.fst) ∧
   es[j]? =
   some
   (SV.v (Value.string x.1),
   SV.agg
   [SV.v (Value.string x.1), SV.v (Value.int IntKind.u64 f.2), SV.v (Value.int IntKind.i64 f.3),
   SV.v (Value.slice f.4 f.5 f.6)],
   born),
  (x.1 == x.1) = true,
  List.Mem { p := x.1, v := x.2, k := x.3, a := x.4, l := x.5, c := x.6 : EntT } D ∧ x.4 ≠ none,
  (!decide (x.2 > f.2)) = false,
  (∀ (e : SV × SV × Nat), e ∈ List.take j es → keyNot x.p e.fst) ∧
   es[j]? =
   some
   (SV.v (Value.string x.1),
   SV.agg
   [SV.v (Value.string x.1), SV.v (Value.int IntKind.u64 f.2), SV.v (Value.int IntKind.i64 f.3),
   SV.v (Value.slice f.4 f.5 f.6)],
   born),
  (!entN x.1 x.2 x.3 x.5 == (0 : Int)) = false,
  x.1.size ≤ (1000000000 : Nat) ∧ (0 : Int) ≤ x.2 ∧ x.2 < (18446744073709551616 : Int),
  ((46 : Nat) = (46 : Nat) ∧ HoldsE m k (entsOf m k) ∧ entsOf m k ≠ []) ∧
   PutIn (entsOf m k) { p := x.1, v := x.2, k := x.3, a := x.4, l := x.5, c := x.6 : EntT } ∧
   (refPut (entsOf m k, (46 : TypeId) = (46 : TypeId) ∧ HoldsE m k (entsOf m k) ∧ entsOf m k ≠ []).fst
   { p := x.p, v := x.v, k := x.k, a := x.a, l := x.l, c := x.c : EntT }).2 =
   (0 : Int),
  List.take (4 : Nat) (List.drop (off + i.toNat * (4 : Nat)) l) = eC x ∧
   (eC x).length = (4 : Nat),
  inRange i n = true,
  decide (i < (↑n : Int)) = true] := by kernel_rfl
theorem pb1n (D : List EntT) (ys : EntT → List Int) (l m m' : List SV) (off n c k k' j : Nat) (x f g : EntT) (i i' : Int) (es es' : List (SV × SV × Nat)) (cl cl' born : Nat) : reach (EPl D ys) 2 400 (SM.at (hdPl off n c i) 6 (obj1 l es cl m k)) (ff [0] true ++ [(2, .cells (eC x))] ++ ff [3] true ++ ff [6] false ++ [(8, .hit j (.agg [.v (.string x.p), .v (.int .u64 f.v), .v (.int .i64 f.k), .v (.slice f.a f.l f.c)]) born)] ++ ff [14] false ++ ff [24] false ++ [(26, .hit j (.agg [.v (.string x.p), .v (.int .u64 f.v), .v (.int .i64 f.k), .v (.slice f.a f.l f.c)]) born)]) [(0, 0), (1, 1), (2, 2), (3, 3), (4, 4), (5, 7)] [0, 4, 5] (hdPl off n c i') 6 (obj1 l es' cl' m' k') = [
  (0 : Nat) = (0 : Nat),
  (0 : Nat) = (0 : Nat),
  (0 : Nat) = (0 : Nat),
  off = off ∧ n = n ∧ some c = some c,
  Value.int IntKind.i64 (↑n : Int) = Value.int IntKind.i64 (↑n : Int),
  Value.int IntKind.i64 (IntKind.i64.wrap (i + (1 : Int))) = Value.int IntKind.i64 i',
  l = l,
  l.all closedSV = true,
  Value.int IntKind.u64 (0 : Int) = Value.int IntKind.u64 (0 : Int),
  Value.slice none (0 : Nat) (0 : Nat) = Value.slice none (0 : Nat) (0 : Nat),
  Value.int IntKind.u64 (0 : Int) = Value.int IntKind.u64 (0 : Int),
  Value.int IntKind.u64 (0 : Int) = Value.int IntKind.u64 (0 : Int),
  (0 : Nat) = (0 : Nat) ∧
   (refPut (entsOf m k, (46 : TypeId) = (46 : TypeId) ∧ HoldsE m k (entsOf m k) ∧ entsOf m k ≠ []).fst
   { p := x.p, v := x.v, k := x.k, a := x.a, l := x.l, c := x.c : EntT }).1.length =
   k' ∧ (none : Option Nat) = none,
  cl = cl',
  (es.modify j fun e => (SV.v (Value.string x.p), SV.agg [SV.v (Value.string x.p), SV.v (Value.int IntKind.u64 x.v), SV.v (Value.int IntKind.i64 x.k), SV.v (Value.slice none 0 0)], e.2.2)) = es',
  (es'.all fun e => closedE e.fst && closedE e.snd.fst) = true,
  List.map SV.v
   (vE
   (refPut (entsOf m k, (46 : TypeId) = (46 : TypeId) ∧ HoldsE m k (entsOf m k) ∧ entsOf m k ≠ []).fst
   { p := x.p, v := x.v, k := x.k, a := x.a, l := x.l, c := x.c : EntT }).1) =
   m',
  m'.all closedSV = true,
  (∀ (e : SV × SV × Nat), e ∈ List.take j es → keyNot x.p e.fst) ∧
   es[j]? =
   some
   (SV.v (Value.string x.1),
   SV.agg
   [SV.v (Value.string x.1), SV.v (Value.int IntKind.u64 f.2), SV.v (Value.int IntKind.i64 f.3),
   SV.v (Value.slice f.4 f.5 f.6)],
   born),
  (x.1 == x.1) = true,
  List.Mem { p := x.1, v := x.2, k := x.3, a := x.4, l := x.5, c := x.6 : EntT } D ∧ x.4 = none,
  (!decide (x.2 > f.2)) = false,
  (∀ (e : SV × SV × Nat), e ∈ List.take j es → keyNot x.p e.fst) ∧
   es[j]? =
   some
   (SV.v (Value.string x.1),
   SV.agg
   [SV.v (Value.string x.1), SV.v (Value.int IntKind.u64 f.2), SV.v (Value.int IntKind.i64 f.3),
   SV.v (Value.slice f.4 f.5 f.6)],
   born),
  (!entN x.1 x.2 x.3 x.5 == (0 : Int)) = false,
  x.1.size ≤ (1000000000 : Nat) ∧ (0 : Int) ≤ x.2 ∧ x.2 < (18446744073709551616 : Int),
  ((46 : Nat) = (46 : Nat) ∧ HoldsE m k (entsOf m k) ∧ entsOf m k ≠ []) ∧
   PutIn (entsOf m k) { p := x.1, v := x.2, k := x.3, a := x.4, l := x.5, c := x.6 : EntT } ∧
   (refPut (entsOf m k, (46 : TypeId) = (46 : TypeId) ∧ HoldsE m k (entsOf m k) ∧ entsOf m k ≠ []).fst
   { p := x.p, v := x.v, k := x.k, a := x.a, l := x.l, c := x.c : EntT }).2 =
   (0 : Int),
  List.take (4 : Nat) (List.drop (off + i.toNat * (4 : Nat)) l) = eC x ∧
   (eC x).length = (4 : Nat),
  inRange i n = true,
  decide (i < (↑n : Int)) = true] := by kernel_rfl
theorem pb2 (D : List EntT) (ys : EntT → List Int) (l m m' : List SV) (off n c k k' j : Nat) (x f g : EntT) (i i' : Int) (es es' : List (SV × SV × Nat)) (cl cl' born : Nat) (q : List SV) (b : Nat × Nat) : reachF (EPl D ys) 2 400 (SM.at (hdPl off n c i) 6 (obj1 l es cl m k)) (ff [0] true ++ [(2, .cells (eC x))] ++ ff [3] true ++ ff [6] false ++ [(8, .miss)] ++ ff [22] false ++ ff [24] true ++ [(26, .miss)]) [(0, 0), (1, 1), (2, 2), (3, 3), (4, 4), (5, 7)] [0, 4, 5] (hdPl off n c i') 6 (obj1 l es' cl' m' k') 4 12 (.row q 5 (0, 0) (some 1)) b = [
  List.map SV.v
   (List.map (Value.int IntKind.u8) (ys { p := x.1, v := x.2, k := x.3, a := x.4, l := x.5, c := x.6 : EntT })) =
   q,
  q.all closedSV = true,
  (0 : Nat) = (0 : Nat),
  (0 : Nat) = (0 : Nat),
  (0 : Nat) = (0 : Nat),
  off = off ∧ n = n ∧ some c = some c,
  Value.int IntKind.i64 (↑n : Int) = Value.int IntKind.i64 (↑n : Int),
  Value.int IntKind.i64 (IntKind.i64.wrap (i + (1 : Int))) = Value.int IntKind.i64 i',
  l = l,
  l.all closedSV = true,
  Value.int IntKind.u64 (0 : Int) = Value.int IntKind.u64 (0 : Int),
  Value.slice none (0 : Nat) (0 : Nat) = Value.slice none (0 : Nat) (0 : Nat),
  Value.int IntKind.u64 (0 : Int) = Value.int IntKind.u64 (0 : Int),
  Value.int IntKind.u64 (0 : Int) = Value.int IntKind.u64 (0 : Int),
  (0 : Nat) = (0 : Nat) ∧
   (refPut (entsOf m k, (46 : TypeId) = (46 : TypeId) ∧ HoldsE m k (entsOf m k) ∧ entsOf m k ≠ []).fst
   { p := x.p, v := x.v, k := x.k, a := x.a, l := x.l, c := x.c : EntT }).1.length =
   k' ∧ (none : Option Nat) = none,
  cl + (1 : Nat) = cl',
  closeM (12 : Nat) b (es ++ [(SV.v (Value.string x.p), SV.agg [SV.v (Value.string x.p), SV.v (Value.int IntKind.u64 x.v), SV.v (Value.int IntKind.i64 x.k), SV.sl 12 0 x.l none], cl)]) = es',
  (es'.all fun e => closedE e.fst && closedE e.snd.fst) = true,
  List.map SV.v
   (vE
   (refPut (entsOf m k, (46 : TypeId) = (46 : TypeId) ∧ HoldsE m k (entsOf m k) ∧ entsOf m k ≠ []).fst
   { p := x.p, v := x.v, k := x.k, a := x.a, l := x.l, c := x.c : EntT }).1) =
   m',
  m'.all closedSV = true,
  ∀ (e : SV × SV × Nat), e ∈ es → keyNot x.p e.fst,
  (x.1 == x.1) = true,
  List.Mem { p := x.1, v := x.2, k := x.3, a := x.4, l := x.5, c := x.6 : EntT } D ∧ x.4 ≠ none,
  decide ((↑es.length : Int) ≥ (256 : Int)) = false,
  ∀ (e : SV × SV × Nat), e ∈ es → keyNot x.p e.fst,
  (!entN x.1 x.2 x.3 x.5 == (0 : Int)) = false,
  x.1.size ≤ (1000000000 : Nat) ∧ (0 : Int) ≤ x.2 ∧ x.2 < (18446744073709551616 : Int),
  ((46 : Nat) = (46 : Nat) ∧ HoldsE m k (entsOf m k) ∧ entsOf m k ≠ []) ∧
   PutIn (entsOf m k) { p := x.1, v := x.2, k := x.3, a := x.4, l := x.5, c := x.6 : EntT } ∧
   (refPut (entsOf m k, (46 : TypeId) = (46 : TypeId) ∧ HoldsE m k (entsOf m k) ∧ entsOf m k ≠ []).fst
   { p := x.p, v := x.v, k := x.k, a := x.a, l := x.l, c := x.c : EntT }).2 =
   (0 : Int),
  List.take (4 : Nat) (List.drop (off + i.toNat * (4 : Nat)) l) = eC x ∧
   (eC x).length = (4 : Nat),
  inRange i n = true,
  decide (i < (↑n : Int)) = true] := by kernel_rfl
theorem pb2n (D : List EntT) (ys : EntT → List Int) (l m m' : List SV) (off n c k k' j : Nat) (x f g : EntT) (i i' : Int) (es es' : List (SV × SV × Nat)) (cl cl' born : Nat) : reach (EPl D ys) 2 400 (SM.at (hdPl off n c i) 6 (obj1 l es cl m k)) (ff [0] true ++ [(2, .cells (eC x))] ++ ff [3] true ++ ff [6] false ++ [(8, .miss)] ++ ff [22] false ++ ff [24] false ++ [(26, .miss)]) [(0, 0), (1, 1), (2, 2), (3, 3), (4, 4), (5, 7)] [0, 4, 5] (hdPl off n c i') 6 (obj1 l es' cl' m' k') = [
  (0 : Nat) = (0 : Nat),
  (0 : Nat) = (0 : Nat),
  (0 : Nat) = (0 : Nat),
  off = off ∧ n = n ∧ some c = some c,
  Value.int IntKind.i64 (↑n : Int) = Value.int IntKind.i64 (↑n : Int),
  Value.int IntKind.i64 (IntKind.i64.wrap (i + (1 : Int))) = Value.int IntKind.i64 i',
  l = l,
  l.all closedSV = true,
  Value.int IntKind.u64 (0 : Int) = Value.int IntKind.u64 (0 : Int),
  Value.slice none (0 : Nat) (0 : Nat) = Value.slice none (0 : Nat) (0 : Nat),
  Value.int IntKind.u64 (0 : Int) = Value.int IntKind.u64 (0 : Int),
  Value.int IntKind.u64 (0 : Int) = Value.int IntKind.u64 (0 : Int),
  (0 : Nat) = (0 : Nat) ∧
   (refPut (entsOf m k, (46 : TypeId) = (46 : TypeId) ∧ HoldsE m k (entsOf m k) ∧ entsOf m k ≠ []).fst
   { p := x.p, v := x.v, k := x.k, a := x.a, l := x.l, c := x.c : EntT }).1.length =
   k' ∧ (none : Option Nat) = none,
  cl + (1 : Nat) = cl',
  (es ++ [(SV.v (Value.string x.p), SV.agg [SV.v (Value.string x.p), SV.v (Value.int IntKind.u64 x.v), SV.v (Value.int IntKind.i64 x.k), SV.v (Value.slice none 0 0)], cl)]) = es',
  (es'.all fun e => closedE e.fst && closedE e.snd.fst) = true,
  List.map SV.v
   (vE
   (refPut (entsOf m k, (46 : TypeId) = (46 : TypeId) ∧ HoldsE m k (entsOf m k) ∧ entsOf m k ≠ []).fst
   { p := x.p, v := x.v, k := x.k, a := x.a, l := x.l, c := x.c : EntT }).1) =
   m',
  m'.all closedSV = true,
  ∀ (e : SV × SV × Nat), e ∈ es → keyNot x.p e.fst,
  (x.1 == x.1) = true,
  List.Mem { p := x.1, v := x.2, k := x.3, a := x.4, l := x.5, c := x.6 : EntT } D ∧ x.4 = none,
  decide ((↑es.length : Int) ≥ (256 : Int)) = false,
  ∀ (e : SV × SV × Nat), e ∈ es → keyNot x.p e.fst,
  (!entN x.1 x.2 x.3 x.5 == (0 : Int)) = false,
  x.1.size ≤ (1000000000 : Nat) ∧ (0 : Int) ≤ x.2 ∧ x.2 < (18446744073709551616 : Int),
  ((46 : Nat) = (46 : Nat) ∧ HoldsE m k (entsOf m k) ∧ entsOf m k ≠ []) ∧
   PutIn (entsOf m k) { p := x.1, v := x.2, k := x.3, a := x.4, l := x.5, c := x.6 : EntT } ∧
   (refPut (entsOf m k, (46 : TypeId) = (46 : TypeId) ∧ HoldsE m k (entsOf m k) ∧ entsOf m k ≠ []).fst
   { p := x.p, v := x.v, k := x.k, a := x.a, l := x.l, c := x.c : EntT }).2 =
   (0 : Int),
  List.take (4 : Nat) (List.drop (off + i.toNat * (4 : Nat)) l) = eC x ∧
   (eC x).length = (4 : Nat),
  inRange i n = true,
  decide (i < (↑n : Int)) = true] := by kernel_rfl
theorem pb3 (D : List EntT) (ys : EntT → List Int) (l m m' : List SV) (off n c k k' j : Nat) (x f g : EntT) (i i' : Int) (es es' : List (SV × SV × Nat)) (cl cl' born : Nat) (q : List SV) (b : Nat × Nat) : reachF (EPl D ys) 2 400 (SM.at (hdPl off n c i) 6 (obj1 l es cl m k)) (ff [0] true ++ [(2, .cells (eC x))] ++ ff [3] true ++ ff [6] false ++ [(8, .miss)] ++ ff [22] true ++ ff [24] false ++ [(25, .hit j (.agg [.v (.string g.p), .v (.int .u64 g.v), .v (.int .i64 g.k), .v (.slice g.a g.l g.c)]) born)] ++ ff [27] true ++ [(29, .miss)]) [(0, 0), (1, 1), (2, 2), (3, 3), (4, 4), (5, 7)] [0, 4, 5] (hdPl off n c i') 6 (obj1 l es' cl' m' k') 4 12 (.row q 5 (0, 0) (some 1)) b = [
  List.map SV.v
   (List.map (Value.int IntKind.u8) (ys { p := x.1, v := x.2, k := x.3, a := x.4, l := x.5, c := x.6 : EntT })) =
   q,
  q.all closedSV = true,
  (0 : Nat) = (0 : Nat),
  (0 : Nat) = (0 : Nat),
  (0 : Nat) = (0 : Nat),
  off = off ∧ n = n ∧ some c = some c,
  Value.int IntKind.i64 (↑n : Int) = Value.int IntKind.i64 (↑n : Int),
  Value.int IntKind.i64 (IntKind.i64.wrap (i + (1 : Int))) = Value.int IntKind.i64 i',
  l = l,
  l.all closedSV = true,
  Value.int IntKind.u64 (0 : Int) = Value.int IntKind.u64 (0 : Int),
  Value.slice none (0 : Nat) (0 : Nat) = Value.slice none (0 : Nat) (0 : Nat),
  Value.int IntKind.u64 (0 : Int) = Value.int IntKind.u64 (0 : Int),
  Value.int IntKind.u64 (0 : Int) = Value.int IntKind.u64 (0 : Int),
  (0 : Nat) = (0 : Nat) ∧
   (refPut (entsOf m k, (46 : TypeId) = (46 : TypeId) ∧ HoldsE m k (entsOf m k) ∧ entsOf m k ≠ []).fst
   { p := x.p, v := x.v, k := x.k, a := x.a, l := x.l, c := x.c : EntT }).1.length =
   k' ∧ (none : Option Nat) = none,
  cl + (1 : Nat) = cl',
  closeM (12 : Nat) b (es.eraseIdx j ++ [(SV.v (Value.string x.p), SV.agg [SV.v (Value.string x.p), SV.v (Value.int IntKind.u64 x.v), SV.v (Value.int IntKind.i64 x.k), SV.sl 12 0 x.l none], cl)]) = es',
  (es'.all fun e => closedE e.fst && closedE e.snd.fst) = true,
  List.map SV.v
   (vE
   (refPut (entsOf m k, (46 : TypeId) = (46 : TypeId) ∧ HoldsE m k (entsOf m k) ∧ entsOf m k ≠ []).fst
   { p := x.p, v := x.v, k := x.k, a := x.a, l := x.l, c := x.c : EntT }).1) =
   m',
  m'.all closedSV = true,
  ∀ (e : SV × SV × Nat), e ∈ es.eraseIdx j → keyNot x.p e.fst,
  (x.1 == x.1) = true,
  List.Mem { p := x.1, v := x.2, k := x.3, a := x.4, l := x.5, c := x.6 : EntT } D ∧ x.4 ≠ none,
  (∀ (e : SV × SV × Nat), e ∈ List.take j es → keyNot (bestG es) e.fst) ∧
   es[j]? =
   some
   (SV.v (Value.string (bestG es)),
   SV.agg
   [SV.v (Value.string g.1), SV.v (Value.int IntKind.u64 g.2), SV.v (Value.int IntKind.i64 g.3),
   SV.v (Value.slice g.4 g.5 g.6)],
   born),
  (!!(bestG es).toList == { data := { toList := [] : Array UInt8 } : ByteArray }.toList) = false,
  (86 : Nat) = (86 : Nat) ∧ BookIn es cl,
  decide ((↑es.length : Int) ≥ (256 : Int)) = true,
  ∀ (e : SV × SV × Nat), e ∈ es → keyNot x.p e.fst,
  (!entN x.1 x.2 x.3 x.5 == (0 : Int)) = false,
  x.1.size ≤ (1000000000 : Nat) ∧ (0 : Int) ≤ x.2 ∧ x.2 < (18446744073709551616 : Int),
  ((46 : Nat) = (46 : Nat) ∧ HoldsE m k (entsOf m k) ∧ entsOf m k ≠ []) ∧
   PutIn (entsOf m k) { p := x.1, v := x.2, k := x.3, a := x.4, l := x.5, c := x.6 : EntT } ∧
   (refPut (entsOf m k, (46 : TypeId) = (46 : TypeId) ∧ HoldsE m k (entsOf m k) ∧ entsOf m k ≠ []).fst
   { p := x.p, v := x.v, k := x.k, a := x.a, l := x.l, c := x.c : EntT }).2 =
   (0 : Int),
  List.take (4 : Nat) (List.drop (off + i.toNat * (4 : Nat)) l) = eC x ∧
   (eC x).length = (4 : Nat),
  inRange i n = true,
  decide (i < (↑n : Int)) = true] := by kernel_rfl
theorem pb3n (D : List EntT) (ys : EntT → List Int) (l m m' : List SV) (off n c k k' j : Nat) (x f g : EntT) (i i' : Int) (es es' : List (SV × SV × Nat)) (cl cl' born : Nat) : reach (EPl D ys) 2 400 (SM.at (hdPl off n c i) 6 (obj1 l es cl m k)) (ff [0] true ++ [(2, .cells (eC x))] ++ ff [3] true ++ ff [6] false ++ [(8, .miss)] ++ ff [22] true ++ ff [24] false ++ [(25, .hit j (.agg [.v (.string g.p), .v (.int .u64 g.v), .v (.int .i64 g.k), .v (.slice g.a g.l g.c)]) born)] ++ ff [27] false ++ [(29, .miss)]) [(0, 0), (1, 1), (2, 2), (3, 3), (4, 4), (5, 7)] [0, 4, 5] (hdPl off n c i') 6 (obj1 l es' cl' m' k') = [
  (0 : Nat) = (0 : Nat),
  (0 : Nat) = (0 : Nat),
  (0 : Nat) = (0 : Nat),
  off = off ∧ n = n ∧ some c = some c,
  Value.int IntKind.i64 (↑n : Int) = Value.int IntKind.i64 (↑n : Int),
  Value.int IntKind.i64 (IntKind.i64.wrap (i + (1 : Int))) = Value.int IntKind.i64 i',
  l = l,
  l.all closedSV = true,
  Value.int IntKind.u64 (0 : Int) = Value.int IntKind.u64 (0 : Int),
  Value.slice none (0 : Nat) (0 : Nat) = Value.slice none (0 : Nat) (0 : Nat),
  Value.int IntKind.u64 (0 : Int) = Value.int IntKind.u64 (0 : Int),
  Value.int IntKind.u64 (0 : Int) = Value.int IntKind.u64 (0 : Int),
  (0 : Nat) = (0 : Nat) ∧
   (refPut (entsOf m k, (46 : TypeId) = (46 : TypeId) ∧ HoldsE m k (entsOf m k) ∧ entsOf m k ≠ []).fst
   { p := x.p, v := x.v, k := x.k, a := x.a, l := x.l, c := x.c : EntT }).1.length =
   k' ∧ (none : Option Nat) = none,
  cl + (1 : Nat) = cl',
  (es.eraseIdx j ++ [(SV.v (Value.string x.p), SV.agg [SV.v (Value.string x.p), SV.v (Value.int IntKind.u64 x.v), SV.v (Value.int IntKind.i64 x.k), SV.v (Value.slice none 0 0)], cl)]) = es',
  (es'.all fun e => closedE e.fst && closedE e.snd.fst) = true,
  List.map SV.v
   (vE
   (refPut (entsOf m k, (46 : TypeId) = (46 : TypeId) ∧ HoldsE m k (entsOf m k) ∧ entsOf m k ≠ []).fst
   { p := x.p, v := x.v, k := x.k, a := x.a, l := x.l, c := x.c : EntT }).1) =
   m',
  m'.all closedSV = true,
  ∀ (e : SV × SV × Nat), e ∈ es.eraseIdx j → keyNot x.p e.fst,
  (x.1 == x.1) = true,
  List.Mem { p := x.1, v := x.2, k := x.3, a := x.4, l := x.5, c := x.6 : EntT } D ∧ x.4 = none,
  (∀ (e : SV × SV × Nat), e ∈ List.take j es → keyNot (bestG es) e.fst) ∧
   es[j]? =
   some
   (SV.v (Value.string (bestG es)),
   SV.agg
   [SV.v (Value.string g.1), SV.v (Value.int IntKind.u64 g.2), SV.v (Value.int IntKind.i64 g.3),
   SV.v (Value.slice g.4 g.5 g.6)],
   born),
  (!!(bestG es).toList == { data := { toList := [] : Array UInt8 } : ByteArray }.toList) = false,
  (86 : Nat) = (86 : Nat) ∧ BookIn es cl,
  decide ((↑es.length : Int) ≥ (256 : Int)) = true,
  ∀ (e : SV × SV × Nat), e ∈ es → keyNot x.p e.fst,
  (!entN x.1 x.2 x.3 x.5 == (0 : Int)) = false,
  x.1.size ≤ (1000000000 : Nat) ∧ (0 : Int) ≤ x.2 ∧ x.2 < (18446744073709551616 : Int),
  ((46 : Nat) = (46 : Nat) ∧ HoldsE m k (entsOf m k) ∧ entsOf m k ≠ []) ∧
   PutIn (entsOf m k) { p := x.1, v := x.2, k := x.3, a := x.4, l := x.5, c := x.6 : EntT } ∧
   (refPut (entsOf m k, (46 : TypeId) = (46 : TypeId) ∧ HoldsE m k (entsOf m k) ∧ entsOf m k ≠ []).fst
   { p := x.p, v := x.v, k := x.k, a := x.a, l := x.l, c := x.c : EntT }).2 =
   (0 : Int),
  List.take (4 : Nat) (List.drop (off + i.toNat * (4 : Nat)) l) = eC x ∧
   (eC x).length = (4 : Nat),
  inRange i n = true,
  decide (i < (↑n : Int)) = true] := by kernel_rfl
def bkF : Option (SO × Bool) := some (.row [.v (.int .u64 0), .map 1] 86 (0, 0) none, true)
theorem pz0 (D : List EntT) (ys : EntT → List Int) (l : List SV) (off n c : Nat) (i : Int) : endsM (EPl D ys) 6 100 (SM.at (hdPl off n c i) 6 (obj0 l)) (ff [0] false) [(0, 2)] [] (.tup [.ptr 0 0, .v (.agg #[.int .u64 0, .slice none 0 0]), .v (.bool true)]) [bk0] = [
  (0 : Nat) = (0 : Nat),
  Value.agg { toList := [Value.int IntKind.u64 (0 : Int), Value.slice none (0 : Nat) (0 : Nat)] : Array Value } =
   Value.agg { toList := [Value.int IntKind.u64 (0 : Int), Value.slice none (0 : Nat) (0 : Nat)] : Array Value },
  Value.bool true = Value.bool true,
  Value.int IntKind.u64 (0 : Int) = Value.int IntKind.u64 (0 : Int),
  Value.map none = Value.map none,
  true = true,
  true = true,
  decide (i < (↑n : Int)) = false] := by kernel_rfl
theorem pz1 (D : List EntT) (ys : EntT → List Int) (l m : List SV) (off n c k : Nat) (i : Int) (es : List (SV × SV × Nat)) (cl : Nat) : endsM (EPl D ys) 6 100 (SM.at (hdPl off n c i) 6 (obj1 l es cl m k)) (ff [0] false) [(0, 2), (1, 4), (2, 5)] [1, 2] (.tup [.ptr 0 0, .agg [.v (.int .u64 0), .sl 2 0 k none], .v (.bool true)]) [bkF, mapW es cl, rowsE m] = [
  (0 : Nat) = (0 : Nat),
  Value.int IntKind.u64 (0 : Int) = Value.int IntKind.u64 (0 : Int),
  (0 : Nat) = (0 : Nat) ∧ k = k ∧ (none : Option Nat) = none,
  Value.bool true = Value.bool true,
  Value.int IntKind.u64 (0 : Int) = Value.int IntKind.u64 (0 : Int),
  cl = cl,
  es = es,
  (es.all fun e => closedE e.fst && closedE e.snd.fst) = true,
  m = m,
  m.all closedSV = true,
  (0 : Nat) = (0 : Nat) ∧ k = k ∧ (none : Option Nat) = none,
  true = true,
  decide (i < (↑n : Int)) = false] := by kernel_rfl
end paths
end Go.Proofs.YtiggmgcnjmalfaaGreatDoor
namespace Go.Proofs.YtiggmgcnjmalfaaGreatDoor
open Go Go.Rx Go.RowKit Go.Proofs
set_option linter.unusedVariables false
set_option linter.unusedSimpArgs false
set_option maxRecDepth 100000
namespace paths
/-- What came in lies still. -/
def PX (D : List EntT) (ys : EntT → List Int) (w : World) : Prop := MX w ∧ ∀ x ∈ D, CellsIn w x.a x.l (ys x)
theorem CellsIn.keep {w0 w : World} {a : Option Addr} {l : Nat} {ys : List Int} (h : CellsIn w0 a l ys) (hk : ∀ k, k < w0.heap.size → w.heap[k]? = w0.heap[k]?) : CellsIn w a l ys := by
  obtain ⟨h1, h2, h3⟩ := h
  refine ⟨h1, h2, fun b hb i hi W' hW => h3 b hb i hi W' fun k hk0 => ?_⟩
  rw [← hk k hk0]
  refine hW k ?_
  have h4 := hk k hk0
  rw [Array.getElem?_eq_getElem hk0] at h4
  exact (Array.getElem?_eq_some_iff.1 h4).1
theorem PX.keep {D : List EntT} {ys : EntT → List Int} {w0 w : World} (h : PX D ys w0) (hk : ∀ k, k < w0.heap.size → w.heap[k]? = w0.heap[k]?) : PX D ys w := ⟨h.1.keep hk, fun x hx => (h.2 x hx).keep hk⟩
theorem weakS {P : Program} {X Y : World → Prop} {r : FuncId × Sum} (h : SumOK P X r) (hXY : ∀ w, Y w → X w) : SumOK P Y r :=
  ⟨h.1, fun args x s s' hx ob => ⟨(h.2 args x s s' hx ob).1, fun ν M w0 w a hr hY ha => (h.2 args x s s' hx ob).2 ν M w0 w a hr (hXY w hY) ha⟩⟩
theorem clo_ok {D : List EntT} {ys : EntT → List Int} : SumOK Tryz.prog (PX D ys) (53, brSum (slSumM (cloS D ys)) (svSum (cloE D))) := by
  refine SumOK.br (slSumM_ok ⟨_, Tryz.func53, by kernel_rfl, by kernel_rfl⟩ (fun args sh zs n C elem mk mv p h ν x y hv => ?_) fun args sh zs n C elem mk mv p h hp ν M w0 w a hr hX ha => ?_) (svSum_ok ⟨_, Tryz.func53, by kernel_rfl, by kernel_rfl⟩ fun args sh v p h hp ν M w0 w a hr hX ha => ?_)
  · dsimp only [cloS] at h
    split at h
    · split at h
      · cases h
        exact VR.agg_iff.2 ⟨_, rfl, VRL.cons (VR.v_iff.2 rfl) (VRL.cons (VR.v_iff.2 rfl) (VRL.cons (VR.v_iff.2 rfl) (VRL.cons hv VRL.nil)))⟩
      · cases h
    · cases h
  · dsimp only [cloS] at h
    split at h
    · rename_i Xa
      split at h
      · rename_i x hx
        cases h
        obtain ⟨y1, as1, rfl, q1, ha2⟩ := ha.cons_inv
        obtain rfl := ha2.nil_inv
        obtain rfl := decX_ok hx q1
        refine (clone_calls (hX.2 x hp.1)).mono fun e w' ⟨hB, a, c, l, he, h⟩ => ⟨hB, ?_⟩
        rcases h with ⟨h1, _⟩ | ⟨_, h1, b, h2, h3⟩
        · exact absurd h1 hp.2
        · subst h1 h2
          exact ⟨_, he, h3⟩
      · cases h
    · cases h
  · dsimp only [cloE] at h
    split at h
    · rename_i Xa
      split at h
      · rename_i x hx
        cases h
        obtain ⟨y1, as1, rfl, q1, ha2⟩ := ha.cons_inv
        obtain rfl := ha2.nil_inv
        obtain rfl := decX_ok hx q1
        refine (clone_calls (hX.2 x hp.1)).mono fun e w' ⟨hB, a, c, l, he, h⟩ => ⟨hB, ?_⟩
        rcases h with ⟨_, h1, h2, h3⟩ | ⟨h1, _⟩
        · subst h1 h2 h3
          exact ⟨_, he, VR.agg_iff.2 ⟨_, rfl, VRL.cons (VR.v_iff.2 rfl) (VRL.cons (VR.v_iff.2 rfl) (VRL.cons (VR.v_iff.2 rfl) (VRL.cons (VR.v_iff.2 rfl) VRL.nil)))⟩⟩
        · exact absurd hp.2 h1
      · cases h
    · cases h
theorem KPl {M0 M : Own} {w00 w0 : World} {D : List EntT} {ys : EntT → List Int} (hM : ∀ z, ¬ M0 z) (hB : Base M0 w00 M w0) (hX : PX D ys w00) : Facts (EPl D ys) M w0 :=
  Facts.of' (Checked.mixed Tryz.checked) (by kernel_rfl) (ExtOK.of extL rfl extRows) (SumsOK.list (X := PX D ys) (l := lPl D ys) rfl (fun r h => by
    simp only [lPl, List.mem_cons, List.not_mem_nil, or_false] at h
    rcases h with rfl | rfl | rfl | rfl
    · exact rput_ok
    · exact weakS (SumOK.pure (r := (49, echkPS)) echk_ok) fun w h => h.1
    · exact weakS spare_ok fun w h => h.1
    · exact clo_ok) fun ν s w hr _ => hX.keep fun k hk => (hr.frame k (Nat.lt_of_lt_of_le hk hB.size) (hB.frame k hk (hM k)).2).trans (hB.frame k hk (hM k)).1) (fun f g h => by cases h)
/-! ### maps that were changed, as cells -/
theorem closeM_id (o : Nat) (b : Nat × Nat) : ∀ E : List EntM, closeM o b (E.map mC) = E.map mC
  | [] => rfl
  | e :: E => by
    show _ :: closeM o b (E.map mC) = _
    rw [closeM_id o b E]; rfl
theorem close_snoc {o : Nat} {b : Nat × Nat} {E : List EntM} {y : EntT} {k v : SV} {n : Nat} (h : (k, closeV o b v, n) = mC (y, n)) : closeM o b (E.map mC ++ [(k, v, n)]) = (E ++ [(y, n)]).map mC := by
  unfold closeM
  rw [List.map_append, List.map_append]
  have := closeM_id o b E
  unfold closeM at this
  rw [this, List.map_cons, List.map_cons, h]; rfl
theorem mod_map {g : SV × SV × Nat → SV × SV × Nat} {g' : EntM → EntM} (h : ∀ e, g (mC e) = mC (g' e)) : ∀ (E : List EntM) (j : Nat), (E.map mC).modify j g = (E.modify j g').map mC
  | [], j => by simp
  | e :: E, 0 => by simp [h]
  | e :: E, j + 1 => by simp [mod_map h E j]
theorem close_mod {o : Nat} {b : Nat × Nat} {g : SV × SV × Nat → SV × SV × Nat} {g' : EntM → EntM} (h : ∀ e, ((g (mC e)).1, closeV o b (g (mC e)).2.1, (g (mC e)).2.2) = mC (g' e)) : ∀ (E : List EntM) (j : Nat), closeM o b ((E.map mC).modify j g) = (E.modify j g').map mC
  | [], j => by simp [closeM]
  | e :: E, 0 => by
    simp only [List.map_cons, List.modify_zero_cons]
    show _ :: closeM o b (E.map mC) = _
    rw [closeM_id]
    exact congrArg (· :: E.map mC) (h e)
  | e :: E, j + 1 => by
    simp only [List.map_cons, List.modify_succ_cons]
    show _ :: closeM o b ((E.map mC).modify j g) = _
    rw [close_mod h E j]; rfl
theorem erase_map {α β : Type} (f : α → β) : ∀ (l : List α) (j : Nat), (l.map f).eraseIdx j = (l.eraseIdx j).map f
  | [], j => by simp
  | a :: l, 0 => by simp
  | a :: l, j + 1 => by simp [erase_map f l j]
theorem hit_at' {E : List EntM} (hn : (E.map fun e => e.1.p).Nodup) {f : EntM} (hf : f ∈ E) : ∃ j, hitP (E.map mC) f.1.p j (valM f) f.2 ∧ E[j]? = some f := by
  obtain ⟨j, hj⟩ := hit_at hn hf
  refine ⟨j, hj, ?_⟩
  have h2 := hj.2
  rw [List.getElem?_map] at h2
  obtain ⟨g, hg, h3⟩ := Option.map_eq_some_iff.1 h2
  rw [hg, mC_inj (h3 : mC g = mC f)]
theorem miss_at {E : List EntM} {p : ByteArray} (hm : ∀ e ∈ E, e.1.p ≠ p) : ∀ e ∈ E.map mC, keyNot p e.1 := fun e he => by
  obtain ⟨y, hy, rfl⟩ := List.mem_map.1 he
  refine ⟨y.1.p, rfl, ?_⟩
  rw [Bool.eq_false_iff]; intro h
  refine hm y hy ?_
  have : (p.data == y.1.p.data) = true := h
  have := eq_of_beq this
  cases hfp : p; cases hyp : y.1.p; rw [hfp, hyp] at this; cases this; rfl
theorem ba_beq (a : ByteArray) : (a == a) = true := by
  show (a.data == a.data) = true
  exact beq_self_eq_true _
theorem insE_ne (x : EntT) (l : List EntT) : insE x l ≠ [] := fun h => by
  have := insE_len x l
  rw [h] at this; simp at this
theorem keys_snoc {cm : EntT → List Int} {E : List EntM} {y : EntT} {n : Nat} : ((E ++ [(y, n)]).map (KM cm)).Perm (KE cm y :: E.map (KM cm)) := by
  rw [List.map_append]; exact List.perm_append_comm
/-- What is known of the entries that come. -/
structure DIn (D : List EntT) : Prop where
  size : ∀ x ∈ D, x.p.size ≤ 1000000000
  v : ∀ x ∈ D, 0 ≤ x.v ∧ x.v < 18446744073709551616
  nil : ∀ x ∈ D, x.a = none → x.l = 0
  few : D.length ≤ 1000
theorem ver_pos {x : EntT} (hc : entN x.p x.v x.k x.l = 0) (h : 0 ≤ x.v) : 0 < x.v := by
  rcases Int.lt_or_eq_of_le h with h | h
  · exact h
  · exfalso
    unfold entN at hc
    rw [← h] at hc
    revert hc
    cases userB x.p <;> simp [verB]
theorem user_full {x : EntT} (hc : entN x.p x.v x.k x.l = 0) : x.p ≠ ⟨#[]⟩ := by
  intro h
  have hu : userB x.p = false := by
    unfold userB
    cases hq : (checkN x.p == 0)
    · rfl
    · exact absurd (by rw [h]; rfl) (checkN_ne x.p (by simpa using hq))
  unfold entN at hc
  rw [hu] at hc
  revert hc; simp
/-! ### an entry's bytes -/
def BytesAt (H : Hp) (e : EntT) (zs : List Int) : Prop := (e.a = none ∧ e.l = 0 ∧ zs = []) ∨ ∃ b rest, e.a = some ⟨b, 0, none⟩ ∧ H b = some (.cells ((zs.map (Value.int .u8)) ++ rest).toArray 5 (0, 0)) ∧ zs.length = e.l
def valI : Value → Int | .int _ n => n | _ => 0
def contH (H : Hp) (e : EntT) : List Int := match e.a with
  | none => []
  | some a => match H a.1 with
    | some (.cells c _ _) => (c.toList.take e.l).map valI
    | _ => []
theorem BytesAt.cont {H : Hp} {e : EntT} {zs : List Int} (h : BytesAt H e zs) : contH H e = zs := by
  unfold contH
  rcases h with ⟨h1, _, rfl⟩ | ⟨b, rest, h1, h2, h3⟩
  · rw [h1]
  · rw [h1]
    dsimp only
    rw [h2]
    dsimp only
    rw [List.take_append_of_le_length (by simp [h3]), List.take_of_length_le (by simp [h3]), List.map_map]
    exact List.map_id' zs
theorem BytesAt.mono {H H' : Hp} {e : EntT} {zs : List Int} (h : BytesAt H e zs) (hs : H.Sub H') : BytesAt H' e zs := by
  rcases h with h | ⟨b, rest, h1, h2, h3⟩
  · exact .inl h
  · exact .inr ⟨b, rest, h1, hs _ _ h2, h3⟩
/-- What stands between two entries. -/
structure St (D : List EntT) (ys : EntT → List Int) (w0 : World) (M : Own) (H : Hp) (M1 : Own) (w1 : World) (E : List EntM) (cl : Nat) (xs : List EntT) : Prop where
  kept : Kept w0.hp M w0 H M1 w1
  inv : Inv (contH H) ys E cl xs
  data : ∀ e ∈ E, ∃ zs, BytesAt H e.1 zs
  sub : ∀ e ∈ xs, e ∈ D
theorem St.next {D : List EntT} {ys : EntT → List Int} {w0 : World} {M : Own} {H : Hp} {M1 : Own} {w1 : World} {E : List EntM} {cl : Nat} {xs : List EntT} {x : EntT} (hS : St D ys w0 M H M1 w1 E cl xs) {H' : Hp} {M2 : Own} {w2 : World} (hk : Kept w0.hp M w0 H' M2 w2) (hs : H.Sub H') {y : EntT} {zs : List Int} (hy : BytesAt H' y zs)
    {E' : List EntM} {cl' : Nat} {xs' : List EntT} (hE : ∀ e ∈ E', e.1 = y ∨ e ∈ E) (hx : x ∈ D) (hxs : ∀ e ∈ xs', e = x ∨ e ∈ xs) (inv : (∀ e ∈ E, contH H e.1 = contH H' e.1) → Inv (contH H') ys E' cl' xs') : St D ys w0 M H' M2 w2 E' cl' xs' := by
  have hold : ∀ e ∈ E, ∃ zs, BytesAt H' e.1 zs ∧ contH H e.1 = contH H' e.1 := fun e he => by
    obtain ⟨zs, h⟩ := hS.data e he
    exact ⟨zs, h.mono hs, by rw [h.cont, (h.mono hs).cont]⟩
  refine ⟨hk, inv fun e he => (by obtain ⟨_, _, h⟩ := hold e he; exact h), fun e he => ?_, fun e he => ?_⟩
  · rcases hE e he with h | h
    · exact ⟨zs, by rw [h]; exact hy⟩
    · obtain ⟨zs, h, _⟩ := hold e h; exact ⟨zs, h⟩
  · rcases hxs e he with h | h
    · rw [h]; exact hx
    · exact hS.sub e h
theorem ins_mem {x e : EntT} {p : ByteArray} {xs : List EntT} (h : e ∈ insE x (dropE p xs)) : e = x ∨ e ∈ xs := by
  rcases List.mem_cons.1 ((insE_perm x _).mem_iff.1 h) with h | h
  · exact .inl h
  · exact .inr (List.mem_filter.1 h).1
theorem ins_mem' {x e : EntT} {xs : List EntT} (h : e ∈ insE x xs) : e = x ∨ e ∈ xs := List.mem_cons.1 ((insE_perm x _).mem_iff.1 h)
/-- Bytes that were put away. -/
theorem bytes_put {H : Hp} {x : EntT} {zs : List Int} {ν1 : Val} {j : Nat} {b : Nat × Nat} {ob : Obj} (hl : zs.length = x.l) (h : OR ν1 j (.row (List.map SV.v (zs.map (Value.int .u8))) 5 (0, 0) (some 1)) ob) : BytesAt (H.put b.1 ob) ⟨x.p, x.v, x.k, some ⟨b.1, 0, none⟩, x.l, b.2⟩ zs := by
  obtain ⟨vs, rest, rfl, hv, _⟩ := h
  obtain rfl := ys_val hv
  exact .inr ⟨b.1, rest, rfl, by rw [Hp.put_self]; simp, hl⟩
/-! ### what comes of it -/
def entV (e : EntM) : MapEntry := { key := .string e.1.p, val := .agg (eV e.1).toArray, born := e.2 }
theorem entR_mC {ν : Val} : ∀ {E : List EntM} {l : List MapEntry}, EntR ν (E.map mC) l → l = E.map entV
  | [], _, h => h
  | e :: E, _, h => by
    obtain ⟨z, zs, rfl, h1, h2, h3, h4⟩ := h
    have e1 : z.key = .string e.1.p := VR.v_iff.1 h1
    obtain ⟨a, hq, ha⟩ := VR.agg_iff.1 h2
    have e2 : a = eV e.1 := plain_sol ha (VRL.lits ν (eV e.1))
    rw [entR_mC h4, List.map_cons]
    congr 1
    obtain ⟨k, v, n⟩ := z
    dsimp only at e1 hq h3
    subst e1 hq e2
    have h3 : e.2 = n := h3
    subst h3; rfl
/-- A book lies in a world. -/
structure BookAt (w : World) (b m : Nat) (s : Int) (E : List EntM) (cl : Nat) : Prop where
  row : w.heap[b]? = some (.cells #[.int .u64 s, .map (some m)] 86 (0, 0))
  map : w.heap[m]? = some (.map (E.map entV).toArray cl)
/-- What comes of Plays. -/
def RPl (D : List EntT) (ys : EntT → List Int) (w0 : World) (e : Ending) (w' : World) : Prop := Below w0.heap.size w0 w' ∧ ∃ b v, e = .returned (.tuple #[.pointer (some ⟨b, 0, none⟩), v, .bool true]) ∧ w0.heap.size ≤ b ∧
  ((w'.heap[b]? = some (.cells #[.int .u64 0, .map none] 86 (0, 0)) ∧ v = .agg #[.int .u64 0, .slice none 0 0]) ∨
   ∃ m E cl xs y, w0.heap.size ≤ m ∧ BookAt w' b m 0 E cl ∧ v = .agg #[.int .u64 0, y] ∧ NewSl w0 w' y (vE xs) xs.length 4 46 ∧ Inv (contH w'.hp) ys E cl xs ∧ (∀ e ∈ E, ∃ zs, BytesAt w'.hp e.1 zs) ∧ (∀ e ∈ xs, e ∈ D) ∧ xs ≠ [])
section
variable {w0 : World} {cs0 : List Frame} {D : List EntT} {ys : EntT → List Int} {M : Own} {off c : Nat} {ν : Val}
theorem round1 (hX : PX D ys w0) (hM : ∀ z, ¬ M z) (hD : DIn D) {i : Nat} (hi : i < D.length) (hν0 : ∀ i b, ν i = some b → i = 0)
    (ih : ∀ H M1 w1 E cl xs, St D ys w0 M H M1 w1 E cl xs → xs ≠ [] → Goes (EPl D ys) M1 w1 cs0 6 (RPl D ys w0) ν (SM.at (hdPl off D.length c ((i + 1 : Nat) : Int)) 6 (obj1 (rowsAt eC off D) (E.map mC) cl (cE xs) xs.length)))
    {H : Hp} {M1 : Own} {w1 : World} {E : List EntM} {cl : Nat} {xs : List EntT} (hS : St D ys w0 M H M1 w1 E cl xs) (hne : xs ≠ []) :
    Goes (EPl D ys) M1 w1 cs0 6 (RPl D ys w0) ν (SM.at (hdPl off D.length c (i : Int)) 6 (obj1 (rowsAt eC off D) (E.map mC) cl (cE xs) xs.length)) := by
  have hI := hS.inv
  generalize hx : D[i] = x
  have hxi : D[i]? = some x := by rw [← hx]; exact List.getElem?_eq_getElem hi
  have hxD : x ∈ D := by rw [← hx]; exact List.getElem_mem hi
  have few := hD.few
  have t1 : decide ((i : Int) < (D.length : Int)) = true := decide_eq_true (by omega)
  have r1 := in_range hi
  have ws := wrap_succ (k := i) (by omega)
  have ra := rowsAt_at (off := off) eC_len hxi
  have hcl : (rowsAt eC off D).all closedSV = true := rowsAt_closed eC_closed
  have x1 := hD.size x hxD
  obtain ⟨x2, x3⟩ := hD.v x hxD
  have hyl : (ys x).length = x.l := (hX.2 x hxD).1
  have hy0 : x.a = none → ys x = [] := fun h => List.length_eq_zero_iff.1 (by rw [hyl, hD.nil x hxD h])
  have hfew := hI.few
  have hh : HoldsE (cE xs) xs.length xs := holdsE xs (by omega)
  have hPI : PutIn xs x := ⟨x1, ⟨x2, x3⟩, hI.sorted.names, hI.size⟩
  have hlen := hI.len
  have hBI : BookIn (E.map mC) cl := ⟨E, rfl, hI.ok⟩
  by_cases hc : entN x.p x.v x.k x.l = 0
  · have en : (!entN x.1 x.2 x.3 x.5 == (0 : Int)) = false := by rw [show entN x.1 x.2 x.3 x.5 = 0 from hc]; rfl
    have hvp := ver_pos hc x2
    have hxf := user_full hc
    by_cases hit : ∃ f ∈ E, f.1.p = x.p
    · obtain ⟨f, hf, hp⟩ := hit
      obtain ⟨j, hj, hjE⟩ := hit_at' hI.ok.names hf
      rw [hp] at hj
      have hj1 := hj.1
      have hj2 : (E.map mC)[j]? = some (SV.v (Value.string x.1), SV.agg [SV.v (Value.string x.1), SV.v (Value.int IntKind.u64 f.1.2), SV.v (Value.int IntKind.i64 f.1.3), SV.v (Value.slice f.1.4 f.1.5 f.1.6)], f.2) := by
        rw [hj.2]; unfold valM; rw [hp]
      obtain ⟨hfv, hdl⟩ := hI.find_hit hf hp
      by_cases hv : f.1.v ≥ x.v
      · have hr : refPut xs x = (xs, 31) := by unfold refPut; rw [if_neg (by simpa using hc), if_pos (by rw [hfv]; exact hv)]
        have c2 : (!decide (x.2 > f.1.2)) = true := by simpa using hv
        refine Goes.reach (KPl hM hS.kept.base hX) (k := 2) (n := 400) (o := (ff [0] true ++ [(2, .cells (eC x))] ++ ff [3, 6] false ++ [(8, .hit j (.agg [.v (.string x.p), .v (.int .u64 f.1.v), .v (.int .i64 f.1.k), .v (.slice f.1.a f.1.l f.1.c)]) f.2)] ++ ff [14] true ++ ff [15] false)) (ren := [(0, 0), (1, 1), (2, 2), (3, 3), (4, 4), (5, 5)]) (eqs := [0, 4, 5]) ?_ (by kernel_rfl) (fun i b h => by rw [hν0 i b h]; rfl) (ih H M1 w1 E cl xs hS hne)
        rw [pm2 (f := f.1) (g := x) (j := j) (born := f.2)]
        simp only [Owed, t1, r1, ra, ws, en, eC_len, cE_closed, hcl, entX, entsOf_cE, hr, closedM, hPI, hh, hne, x1, x2, x3, cE_map, c2, hj2, and_self, and_true, true_and]
        try (repeat' apply And.intro)
        all_goals first | rfl | assumption | exact hh | exact ba_beq _ | exact hxD | exact ys_closed _ | decide | (simp; done) | exact mod_map (fun e => rfl) E _ | exact close_mod (fun e => rfl) E _ | exact close_snoc (E := []) rfl | exact close_snoc rfl | (rw [List.map_append]; rfl) | (rw [erase_map, List.map_append]; rfl) | (rw [erase_map]; exact close_snoc rfl) | skip
      · have hr : refPut xs x = (insE x (dropE x.p xs), 0) := by unfold refPut; rw [if_neg (by simpa using hc), if_neg (by rw [hfv]; exact hv), if_neg (by omega)]
        have c2 : (!decide (x.2 > f.1.2)) = false := by simpa using hv
        have inv : ∀ cm : EntT → List Int, (∀ e ∈ E, contH H e.1 = cm e.1) → ∀ y : EntT, KE cm y = KE ys x → Inv cm ys (E.modify j fun e => (y, e.2)) cl (insE x (dropE x.p xs)) := fun cm hcm y hy => by
          have hI := hI.cont hcm
          refine Inv.new (hI.ok.mod hjE (by rw [hp]; exact (Prod.mk.inj hy).1)) ?_ (hI.sorted.drop _) drop_no (by omega)
          refine ((modify_perm hjE).map (KM cm)).trans ?_
          rw [List.map_cons, erase_drop hI.ok.names hjE, hp, drop_key]
          show (KE cm y :: _).Perm _
          rw [hy]
          exact (hI.twin.filter _).cons _
        by_cases hn : x.a = none
        · have hb0 : BytesAt H (⟨x.p, x.v, x.k, none, 0, 0⟩ : EntT) (ys x) := .inl ⟨rfl, rfl, hy0 hn⟩
          have nx := ih H M1 w1 (E.modify j fun e => ((⟨x.p, x.v, x.k, none, 0, 0⟩ : EntT), e.2)) cl _ (hS.next (x := x) hS.kept (Hp.Sub.refl _) hb0 (fun e he => (modify_mem hjE he).elim (fun h => .inl (by rw [h])) .inr) hxD (fun e he => ins_mem he) fun hc => inv _ hc (⟨x.p, x.v, x.k, none, 0, 0⟩ : EntT) (by unfold KE; rw [hb0.cont])) (insE_ne _ _)
          refine Goes.reach (KPl hM hS.kept.base hX) (k := 2) (n := 400) (o := (ff [0] true ++ [(2, .cells (eC x))] ++ ff [3] true ++ ff [6] false ++ [(8, .hit j (.agg [.v (.string x.p), .v (.int .u64 f.1.v), .v (.int .i64 f.1.k), .v (.slice f.1.a f.1.l f.1.c)]) f.2)] ++ ff [14] false ++ ff [24] false ++ [(26, .hit j (.agg [.v (.string x.p), .v (.int .u64 f.1.v), .v (.int .i64 f.1.k), .v (.slice f.1.a f.1.l f.1.c)]) f.2)])) (ren := [(0, 0), (1, 1), (2, 2), (3, 3), (4, 4), (5, 7)]) (eqs := [0, 4, 5]) ?_ (by kernel_rfl) (fun i b h => by rw [hν0 i b h]; rfl) nx
          rw [pb1n (f := f.1) (g := x) (j := j) (born := f.2)]
          simp only [Owed, t1, r1, ra, ws, en, eC_len, cE_closed, hcl, entX, entsOf_cE, hr, closedM, hPI, hh, hne, x1, x2, x3, cE_map, c2, hj2, and_self, and_true, true_and]
          try (repeat' apply And.intro)
          all_goals first | rfl | assumption | exact hh | exact ba_beq _ | exact hxD | exact ys_closed _ | decide | (simp; done) | exact mod_map (fun e => rfl) E _ | exact close_mod (fun e => rfl) E _ | exact close_snoc (E := []) rfl | exact close_snoc rfl | (rw [List.map_append]; rfl) | (rw [erase_map, List.map_append]; rfl) | (rw [erase_map]; exact close_snoc rfl) | skip
        · refine Goes.reachF (KPl hM hS.kept.base hX) hM hS.kept (k := 2) (n := 400) (o := (ff [0] true ++ [(2, .cells (eC x))] ++ ff [3] true ++ ff [6] false ++ [(8, .hit j (.agg [.v (.string x.p), .v (.int .u64 f.1.v), .v (.int .i64 f.1.k), .v (.slice f.1.a f.1.l f.1.c)]) f.2)] ++ ff [14] false ++ ff [24] true ++ [(26, .hit j (.agg [.v (.string x.p), .v (.int .u64 f.1.v), .v (.int .i64 f.1.k), .v (.slice f.1.a f.1.l f.1.c)]) f.2)])) (ren := [(0, 0), (1, 1), (2, 2), (3, 3), (4, 4), (5, 7)]) (eqs := [0, 4, 5]) (m := 4) (j := 14) (so := .row (List.map SV.v ((ys x).map (Value.int .u8))) 5 (0, 0) (some 1)) (fun b => ?_) (by kernel_rfl) (fun i b h => by rw [hν0 i b h]; rfl) (fun ν1 b ob M2 w2 hb1 hor hK hsub => ih (H.put b.1 ob) M2 w2 (E.modify j fun e => ((⟨x.p, x.v, x.k, some ⟨b.1, 0, none⟩, x.l, b.2⟩ : EntT), e.2)) cl _ (hS.next (x := x) hK hsub (bytes_put hyl hor) (fun e he => (modify_mem hjE he).elim (fun h => .inl (by rw [h])) .inr) hxD (fun e he => ins_mem he) fun hc => inv _ hc (⟨x.p, x.v, x.k, some ⟨b.1, 0, none⟩, x.l, b.2⟩ : EntT) (by unfold KE; rw [(bytes_put (H := H) (b := b) (x := x) hyl hor).cont])) (insE_ne _ _))
          rw [pb1 (f := f.1) (g := x) (j := j) (born := f.2)]
          simp only [Owed, t1, r1, ra, ws, en, eC_len, cE_closed, hcl, entX, entsOf_cE, hr, closedM, hPI, hh, hne, x1, x2, x3, cE_map, c2, hj2, and_self, and_true, true_and]
          try (repeat' apply And.intro)
          all_goals first | rfl | assumption | exact hh | exact ba_beq _ | exact hxD | exact ys_closed _ | decide | (simp; done) | exact mod_map (fun e => rfl) E _ | exact close_mod (fun e => rfl) E _ | exact close_snoc (E := []) rfl | exact close_snoc rfl | (rw [List.map_append]; rfl) | (rw [erase_map, List.map_append]; rfl) | (rw [erase_map]; exact close_snoc rfl) | skip
    · have hm : ∀ f ∈ E, f.1.p ≠ x.p := fun f hf h => hit ⟨f, hf, h⟩
      have hms := miss_at hm
      have hxs := hI.miss hm
      obtain ⟨hfn, hdn⟩ := find_none hxs
      have hnv : ¬ (findE x.p xs).v ≥ x.v := by rw [hfn]; show ¬ (0 : Int) ≥ x.v; omega
      by_cases hl : xs.length ≥ 256
      · have c3 : decide (((E.map mC).length : Int) ≥ (256 : Int)) = true := decide_eq_true (by rw [List.length_map]; omega)
        cases hb : bestL xs with
        | none =>
          have hr : refPut xs x = (xs, 24) := by unfold refPut; rw [if_neg (by simpa using hc), if_neg hnv, hdn, if_pos hl, hb]
          have hbg := bestG_eq hI.ok (hI.best_none hb)
          have c4 : (!!(bestG (E.map mC)).toList == ({ data := { toList := [] : Array UInt8 } } : ByteArray).toList) = true := by rw [hbg]; simp
          refine Goes.reach (KPl hM hS.kept.base hX) (k := 2) (n := 400) (o := (ff [0] true ++ [(2, .cells (eC x))] ++ ff [3, 6] false ++ [(8, .miss)] ++ ff [22, 24] true ++ ff [25] false)) (ren := [(0, 0), (1, 1), (2, 2), (3, 3), (4, 4), (5, 5)]) (eqs := [0, 4, 5]) ?_ (by kernel_rfl) (fun i b h => by rw [hν0 i b h]; rfl) (ih H M1 w1 E cl xs hS hne)
          rw [pm3 (f := x) (g := x) (j := 0) (born := 0)]
          simp only [Owed, t1, r1, ra, ws, en, eC_len, cE_closed, hcl, entX, entsOf_cE, hr, closedM, hPI, hh, hne, x1, x2, x3, cE_map, c3, c4, and_self, and_true, true_and]
          try (repeat' apply And.intro)
          all_goals first | rfl | assumption | exact hh | exact ba_beq _ | exact hxD | exact ys_closed _ | decide | (simp; done) | exact mod_map (fun e => rfl) E _ | exact close_mod (fun e => rfl) E _ | exact close_snoc (E := []) rfl | exact close_snoc rfl | (rw [List.map_append]; rfl) | (rw [erase_map, List.map_append]; rfl) | (rw [erase_map]; exact close_snoc rfl) | skip
        | some e =>
          obtain ⟨hba, hex⟩ := hI.best_some hb
          have hbg := bestG_eq hI.ok hba
          obtain ⟨g, hg, hgk⟩ := hI.to hex
          have hgp := (key_p hgk).1
          obtain ⟨j, hj, hjE⟩ := hit_at' hI.ok.names hg
          have hgf := hI.ok.full g hg
          have hj1 : ∀ e ∈ List.take j (E.map mC), keyNot (bestG (E.map mC)) e.fst := by rw [hbg, ← hgp]; exact hj.1
          have hj2 : (E.map mC)[j]? = some (SV.v (Value.string (bestG (E.map mC))), SV.agg [SV.v (Value.string g.1.1), SV.v (Value.int IntKind.u64 g.1.2), SV.v (Value.int IntKind.i64 g.1.3), SV.v (Value.slice g.1.4 g.1.5 g.1.6)], g.2) := by rw [hj.2, hbg, ← hgp]; rfl
          have c4 : (!!(bestG (E.map mC)).toList == ({ data := { toList := [] : Array UInt8 } } : ByteArray).toList) = false := by rw [hbg, ← hgp, toList_ne hgf]; rfl
          have hr : refPut xs x = (insE x (dropE e.p xs), 0) := by unfold refPut; rw [if_neg (by simpa using hc), if_neg hnv, hdn, if_pos hl, hb]
          have hdl : (dropE e.p xs).length < xs.length := List.length_filter_lt_length_iff_exists.2 ⟨e, hex, by rw [isE_iff.2 rfl]; simp⟩
          have hm' : ∀ f ∈ E.eraseIdx j, f.1.p ≠ x.p := fun f hf => hm f (List.mem_of_mem_eraseIdx hf)
          have hms' := miss_at hm'
          rw [← erase_map] at hms'
          have inv : ∀ cm : EntT → List Int, (∀ e ∈ E, contH H e.1 = cm e.1) → ∀ y : EntT, KE cm y = KE ys x → Inv cm ys (E.eraseIdx j ++ [(y, cl)]) (cl + 1) (insE x (dropE e.p xs)) := fun cm hcm y hy => by
            have hI := hI.cont hcm
            have hyp : y.p = x.p := (Prod.mk.inj hy).1
            have hB' := hI.ok.sub (List.eraseIdx_sublist E j)
            refine Inv.new (hB'.snoc (by rw [hyp]; exact hm') (by rw [hyp]; exact hxf) (by rw [hyp]; exact x1)) ?_ (hI.sorted.drop _) (fun z hz => hxs z (List.mem_filter.1 hz).1) (by omega)
            refine keys_snoc.trans ?_
            rw [erase_drop hI.ok.names hjE, hgp, drop_key, hy]
            exact (hI.twin.filter _).cons _
          by_cases hn : x.a = none
          · have hb0 : BytesAt H (⟨x.p, x.v, x.k, none, 0, 0⟩ : EntT) (ys x) := .inl ⟨rfl, rfl, hy0 hn⟩
            have nx := ih H M1 w1 (E.eraseIdx j ++ [((⟨x.p, x.v, x.k, none, 0, 0⟩ : EntT), cl)]) (cl + 1) _ (hS.next (x := x) hS.kept (Hp.Sub.refl _) hb0 (fun e he => (List.mem_append.1 he).elim (fun h => .inr (List.mem_of_mem_eraseIdx h)) fun h => .inl (by rw [List.mem_singleton.1 h])) hxD (fun e he => ins_mem he) fun hc => inv _ hc (⟨x.p, x.v, x.k, none, 0, 0⟩ : EntT) (by unfold KE; rw [hb0.cont])) (insE_ne _ _)
            refine Goes.reach (KPl hM hS.kept.base hX) (k := 2) (n := 400) (o := (ff [0] true ++ [(2, .cells (eC x))] ++ ff [3] true ++ ff [6] false ++ [(8, .miss)] ++ ff [22] true ++ ff [24] false ++ [(25, .hit j (.agg [.v (.string g.1.p), .v (.int .u64 g.1.v), .v (.int .i64 g.1.k), .v (.slice g.1.a g.1.l g.1.c)]) g.2)] ++ ff [27] false ++ [(29, .miss)])) (ren := [(0, 0), (1, 1), (2, 2), (3, 3), (4, 4), (5, 7)]) (eqs := [0, 4, 5]) ?_ (by kernel_rfl) (fun i b h => by rw [hν0 i b h]; rfl) nx
            rw [pb3n (f := x) (g := g.1) (j := j) (born := g.2)]
            simp only [Owed, t1, r1, ra, ws, en, eC_len, cE_closed, hcl, entX, entsOf_cE, hr, closedM, hPI, hh, hne, x1, x2, x3, cE_map, c3, c4, hj2, and_self, and_true, true_and]
            try (repeat' apply And.intro)
            all_goals first | rfl | assumption | exact hh | exact ba_beq _ | exact hxD | exact ys_closed _ | decide | (simp; done) | exact mod_map (fun e => rfl) E _ | exact close_mod (fun e => rfl) E _ | exact close_snoc (E := []) rfl | exact close_snoc rfl | (rw [List.map_append]; rfl) | (rw [erase_map, List.map_append]; rfl) | (rw [erase_map]; exact close_snoc rfl) | skip
          · refine Goes.reachF (KPl hM hS.kept.base hX) hM hS.kept (k := 2) (n := 400) (o := (ff [0] true ++ [(2, .cells (eC x))] ++ ff [3] true ++ ff [6] false ++ [(8, .miss)] ++ ff [22] true ++ ff [24] false ++ [(25, .hit j (.agg [.v (.string g.1.p), .v (.int .u64 g.1.v), .v (.int .i64 g.1.k), .v (.slice g.1.a g.1.l g.1.c)]) g.2)] ++ ff [27] true ++ [(29, .miss)])) (ren := [(0, 0), (1, 1), (2, 2), (3, 3), (4, 4), (5, 7)]) (eqs := [0, 4, 5]) (m := 4) (j := 12) (so := .row (List.map SV.v ((ys x).map (Value.int .u8))) 5 (0, 0) (some 1)) (fun b => ?_) (by kernel_rfl) (fun i b h => by rw [hν0 i b h]; rfl) (fun ν1 b ob M2 w2 hb1 hor hK hsub => ih (H.put b.1 ob) M2 w2 (E.eraseIdx j ++ [((⟨x.p, x.v, x.k, some ⟨b.1, 0, none⟩, x.l, b.2⟩ : EntT), cl)]) (cl + 1) _ (hS.next (x := x) hK hsub (bytes_put hyl hor) (fun e he => (List.mem_append.1 he).elim (fun h => .inr (List.mem_of_mem_eraseIdx h)) fun h => .inl (by rw [List.mem_singleton.1 h])) hxD (fun e he => ins_mem he) fun hc => inv _ hc (⟨x.p, x.v, x.k, some ⟨b.1, 0, none⟩, x.l, b.2⟩ : EntT) (by unfold KE; rw [(bytes_put (H := H) (b := b) (x := x) hyl hor).cont])) (insE_ne _ _))
            rw [pb3 (f := x) (g := g.1) (j := j) (born := g.2)]
            simp only [Owed, t1, r1, ra, ws, en, eC_len, cE_closed, hcl, entX, entsOf_cE, hr, closedM, hPI, hh, hne, x1, x2, x3, cE_map, c3, c4, hj2, and_self, and_true, true_and]
            try (repeat' apply And.intro)
            all_goals first | rfl | assumption | exact hh | exact ba_beq _ | exact hxD | exact ys_closed _ | decide | (simp; done) | exact mod_map (fun e => rfl) E _ | exact close_mod (fun e => rfl) E _ | exact close_snoc (E := []) rfl | exact close_snoc rfl | (rw [List.map_append]; rfl) | (rw [erase_map, List.map_append]; rfl) | (rw [erase_map]; exact close_snoc rfl) | skip
      · have c3 : decide (((E.map mC).length : Int) ≥ (256 : Int)) = false := decide_eq_false (by rw [List.length_map]; omega)
        have hr : refPut xs x = (insE x xs, 0) := by unfold refPut; rw [if_neg (by simpa using hc), if_neg hnv, hdn, if_neg hl]
        have inv : ∀ cm : EntT → List Int, (∀ e ∈ E, contH H e.1 = cm e.1) → ∀ y : EntT, KE cm y = KE ys x → Inv cm ys (E ++ [(y, cl)]) (cl + 1) (insE x xs) := fun cm hcm y hy => by
          have hI := hI.cont hcm
          have hyp : y.p = x.p := (Prod.mk.inj hy).1
          refine Inv.new (hI.ok.snoc (by rw [hyp]; exact hm) (by rw [hyp]; exact hxf) (by rw [hyp]; exact x1)) ?_ hI.sorted hxs (by omega)
          refine keys_snoc.trans ?_
          rw [hy]
          exact hI.twin.cons _
        by_cases hn : x.a = none
        · have hb0 : BytesAt H (⟨x.p, x.v, x.k, none, 0, 0⟩ : EntT) (ys x) := .inl ⟨rfl, rfl, hy0 hn⟩
          have nx := ih H M1 w1 (E ++ [((⟨x.p, x.v, x.k, none, 0, 0⟩ : EntT), cl)]) (cl + 1) _ (hS.next (x := x) hS.kept (Hp.Sub.refl _) hb0 (fun e he => (List.mem_append.1 he).elim (fun h => .inr h) fun h => .inl (by rw [List.mem_singleton.1 h])) hxD (fun e he => ins_mem' he) fun hc => inv _ hc (⟨x.p, x.v, x.k, none, 0, 0⟩ : EntT) (by unfold KE; rw [hb0.cont])) (insE_ne _ _)
          refine Goes.reach (KPl hM hS.kept.base hX) (k := 2) (n := 400) (o := (ff [0] true ++ [(2, .cells (eC x))] ++ ff [3] true ++ ff [6] false ++ [(8, .miss)] ++ ff [22] false ++ ff [24] false ++ [(26, .miss)])) (ren := [(0, 0), (1, 1), (2, 2), (3, 3), (4, 4), (5, 7)]) (eqs := [0, 4, 5]) ?_ (by kernel_rfl) (fun i b h => by rw [hν0 i b h]; rfl) nx
          rw [pb2n (f := x) (g := x) (j := 0) (born := 0)]
          simp only [Owed, t1, r1, ra, ws, en, eC_len, cE_closed, hcl, entX, entsOf_cE, hr, closedM, hPI, hh, hne, x1, x2, x3, cE_map, c3, and_self, and_true, true_and]
          try (repeat' apply And.intro)
          all_goals first | rfl | assumption | exact hh | exact ba_beq _ | exact hxD | exact ys_closed _ | decide | (simp; done) | exact mod_map (fun e => rfl) E _ | exact close_mod (fun e => rfl) E _ | exact close_snoc (E := []) rfl | exact close_snoc rfl | (rw [List.map_append]; rfl) | (rw [erase_map, List.map_append]; rfl) | (rw [erase_map]; exact close_snoc rfl) | skip
        · refine Goes.reachF (KPl hM hS.kept.base hX) hM hS.kept (k := 2) (n := 400) (o := (ff [0] true ++ [(2, .cells (eC x))] ++ ff [3] true ++ ff [6] false ++ [(8, .miss)] ++ ff [22] false ++ ff [24] true ++ [(26, .miss)])) (ren := [(0, 0), (1, 1), (2, 2), (3, 3), (4, 4), (5, 7)]) (eqs := [0, 4, 5]) (m := 4) (j := 12) (so := .row (List.map SV.v ((ys x).map (Value.int .u8))) 5 (0, 0) (some 1)) (fun b => ?_) (by kernel_rfl) (fun i b h => by rw [hν0 i b h]; rfl) (fun ν1 b ob M2 w2 hb1 hor hK hsub => ih (H.put b.1 ob) M2 w2 (E ++ [((⟨x.p, x.v, x.k, some ⟨b.1, 0, none⟩, x.l, b.2⟩ : EntT), cl)]) (cl + 1) _ (hS.next (x := x) hK hsub (bytes_put hyl hor) (fun e he => (List.mem_append.1 he).elim (fun h => .inr h) fun h => .inl (by rw [List.mem_singleton.1 h])) hxD (fun e he => ins_mem' he) fun hc => inv _ hc (⟨x.p, x.v, x.k, some ⟨b.1, 0, none⟩, x.l, b.2⟩ : EntT) (by unfold KE; rw [(bytes_put (H := H) (b := b) (x := x) hyl hor).cont])) (insE_ne _ _))
          rw [pb2 (f := x) (g := x) (j := 0) (born := 0)]
          simp only [Owed, t1, r1, ra, ws, en, eC_len, cE_closed, hcl, entX, entsOf_cE, hr, closedM, hPI, hh, hne, x1, x2, x3, cE_map, c3, and_self, and_true, true_and]
          try (repeat' apply And.intro)
          all_goals first | rfl | assumption | exact hh | exact ba_beq _ | exact hxD | exact ys_closed _ | decide | (simp; done) | exact mod_map (fun e => rfl) E _ | exact close_mod (fun e => rfl) E _ | exact close_snoc (E := []) rfl | exact close_snoc rfl | (rw [List.map_append]; rfl) | (rw [erase_map, List.map_append]; rfl) | (rw [erase_map]; exact close_snoc rfl) | skip
  · have en : (!entN x.1 x.2 x.3 x.5 == (0 : Int)) = true := by simpa using hc
    have hr : refPut xs x = (xs, entN x.p x.v x.k x.l) := by unfold refPut; rw [if_pos hc]
    refine Goes.reach (KPl hM hS.kept.base hX) (k := 2) (n := 400) (o := (ff [0] true ++ [(2, .cells (eC x))] ++ ff [3] false ++ ff [6] true ++ ff [7] false)) (ren := [(0, 0), (1, 1), (2, 2), (3, 3), (4, 4), (5, 5)]) (eqs := [0, 4, 5]) ?_ (by kernel_rfl) (fun i b h => by rw [hν0 i b h]; rfl) (ih H M1 w1 E cl xs hS hne)
    rw [pm1 (f := x) (g := x) (j := 0) (born := 0)]
    simp only [Owed, t1, r1, ra, ws, en, eC_len, cE_closed, hcl, entX, entsOf_cE, hr, closedM, hPI, hh, hne, x1, x2, x3, cE_map,  and_self, and_true, true_and]
    try (repeat' apply And.intro)
    all_goals first | rfl | assumption | exact hh | exact ba_beq _ | exact hxD | exact ys_closed _ | decide | (simp; done) | exact mod_map (fun e => rfl) E _ | exact close_mod (fun e => rfl) E _ | exact close_snoc (E := []) rfl | exact close_snoc rfl | (rw [List.map_append]; rfl) | (rw [erase_map, List.map_append]; rfl) | (rw [erase_map]; exact close_snoc rfl) | skip
end
end paths
end Go.Proofs.YtiggmgcnjmalfaaGreatDoor
namespace Go.Proofs.YtiggmgcnjmalfaaGreatDoor
open Go Go.Rx Go.RowKit Go.Proofs
set_option linter.unusedVariables false
set_option linter.unusedSimpArgs false
set_option maxRecDepth 100000
namespace paths
theorem pln (a : Option Addr) (c : Nat) : endsM (EPl [] fun _ => []) 6 100 (entE (EPl [] fun _ => []) 6 [.v (.slice a 0 c)]) [(1000, .b true)] [(0, 1)] [] (.tup [.ptr 0 0, .v (.agg #[.int .u64 0, .slice none 0 0]), .v (.bool true)]) [bk0] = [
  (0 : Nat) = (0 : Nat),
  Value.agg { toList := [Value.int IntKind.u64 (0 : Int), Value.slice none (0 : Nat) (0 : Nat)] : Array Value } =
   Value.agg { toList := [Value.int IntKind.u64 (0 : Int), Value.slice none (0 : Nat) (0 : Nat)] : Array Value },
  Value.bool true = Value.bool true,
  Value.int IntKind.u64 (0 : Int) = Value.int IntKind.u64 (0 : Int),
  Value.map none = Value.map none,
  true = true,
  true = true] := by kernel_rfl
theorem Inv.nil {cm ys : EntT → List Int} : Inv cm ys [] 0 [] :=
  ⟨⟨by simp, by simp, fun e he => (nomatch he), fun e he => (nomatch he), fun e he => (nomatch he)⟩, List.Perm.refl _, List.Pairwise.nil, by simp⟩
theorem St.nil {D : List EntT} {ys : EntT → List Int} {w0 : World} {M : Own} {H : Hp} {M1 : Own} {w1 : World} (hk : Kept w0.hp M w0 H M1 w1) : St D ys w0 M H M1 w1 [] 0 [] :=
  ⟨hk, Inv.nil, fun e he => (nomatch he), fun e he => (nomatch he)⟩
section
variable {w0 : World} {cs0 : List Frame} {D : List EntT} {ys : EntT → List Int} {M : Own} {off c : Nat} {ν : Val}
theorem round0 (hX : PX D ys w0) (hM : ∀ z, ¬ M z) (hD : DIn D) {i : Nat} (hi : i < D.length) (hν0 : ∀ i b, ν i = some b → i = 0)
    (ih : ∀ H M1 w1 E cl xs, St D ys w0 M H M1 w1 E cl xs → xs ≠ [] → Goes (EPl D ys) M1 w1 cs0 6 (RPl D ys w0) ν (SM.at (hdPl off D.length c ((i + 1 : Nat) : Int)) 6 (obj1 (rowsAt eC off D) (E.map mC) cl (cE xs) xs.length)))
    (ih0 : ∀ H M1 w1, Kept w0.hp M w0 H M1 w1 → Goes (EPl D ys) M1 w1 cs0 6 (RPl D ys w0) ν (SM.at (hdPl off D.length c ((i + 1 : Nat) : Int)) 6 (obj0 (rowsAt eC off D))))
    {H : Hp} {M1 : Own} {w1 : World} (hk : Kept w0.hp M w0 H M1 w1) : Goes (EPl D ys) M1 w1 cs0 6 (RPl D ys w0) ν (SM.at (hdPl off D.length c (i : Int)) 6 (obj0 (rowsAt eC off D))) := by
  have hS := St.nil (D := D) (ys := ys) hk
  have hI := hS.inv
  generalize hx : D[i] = x
  have hxi : D[i]? = some x := by rw [← hx]; exact List.getElem?_eq_getElem hi
  have hxD : x ∈ D := by rw [← hx]; exact List.getElem_mem hi
  have few := hD.few
  have t1 : decide ((i : Int) < (D.length : Int)) = true := decide_eq_true (by omega)
  have r1 := in_range hi
  have ws := wrap_succ (k := i) (by omega)
  have ra := rowsAt_at (off := off) eC_len hxi
  have hcl : (rowsAt eC off D).all closedSV = true := rowsAt_closed eC_closed
  have x1 := hD.size x hxD
  obtain ⟨x2, x3⟩ := hD.v x hxD
  have hyl : (ys x).length = x.l := (hX.2 x hxD).1
  have hy0 : x.a = none → ys x = [] := fun h => List.length_eq_zero_iff.1 (by rw [hyl, hD.nil x hxD h])
  have hPI : PutIn [] x := ⟨x1, ⟨x2, x3⟩, by simp, fun e he => (nomatch he)⟩
  by_cases hc : entN x.p x.v x.k x.l = 0
  · have en : (!entN x.1 x.2 x.3 x.5 == (0 : Int)) = false := by rw [show entN x.1 x.2 x.3 x.5 = 0 from hc]; rfl
    have hvp := ver_pos hc x2
    have hxf := user_full hc
    have hr : refPut [] x = (insE x [], 0) := by
      unfold refPut
      rw [if_neg (by simpa using hc), if_neg (by show ¬ (0 : Int) ≥ x.v; omega), if_neg (by show ¬ (0 : Nat) ≥ 256; omega)]
      rfl
    have inv : ∀ cm : EntT → List Int, ∀ y : EntT, KE cm y = KE ys x → Inv cm ys ([] ++ [(y, 0)]) (0 + 1) (insE x []) := fun cm y hy => by
      have hI := Inv.nil (cm := cm) (ys := ys)
      have hyp : y.p = x.p := (Prod.mk.inj hy).1
      refine Inv.new (hI.ok.snoc (fun e he => by cases he) (by rw [hyp]; exact hxf) (by rw [hyp]; exact x1)) ?_ hI.sorted (fun e he => by cases he) (by simp)
      refine keys_snoc.trans ?_
      rw [hy]
      exact hI.twin.cons _
    by_cases hn : x.a = none
    · have hb0 : BytesAt H (⟨x.p, x.v, x.k, none, 0, 0⟩ : EntT) (ys x) := .inl ⟨rfl, rfl, hy0 hn⟩
      have nx := ih H M1 w1 ([] ++ [((⟨x.p, x.v, x.k, none, 0, 0⟩ : EntT), 0)]) (0 + 1) _ (hS.next (x := x) hS.kept (Hp.Sub.refl _) hb0 (fun e he => .inl (by rw [List.mem_singleton.1 he])) hxD (fun e he => ins_mem' he) fun _ => inv _ (⟨x.p, x.v, x.k, none, 0, 0⟩ : EntT) (by unfold KE; rw [hb0.cont])) (insE_ne _ _)
      refine Goes.reach (KPl hM hS.kept.base hX) (k := 2) (n := 400) (o := (ff [0] true ++ [(2, .cells (eC x))] ++ ff [3] true ++ ff [6] false ++ ff [23] false)) (ren := [(0, 0), (1, 1), (2, 2), (3, 3), (4, 10), (5, 5)]) (eqs := [0, 4, 5]) ?_ (by kernel_rfl) (fun i b h => by rw [hν0 i b h]; rfl) nx
      rw [pl3]
      simp only [Owed, t1, r1, ra, ws, en, eC_len, cE_closed, hcl, entX, hr, closedM, hPI, x1, x2, x3, cE_map, and_self, and_true, true_and]
      try (repeat' apply And.intro)
      all_goals first | rfl | assumption | exact ba_beq _ | exact hxD | decide | (simp; done) | skip
    · refine Goes.reachF (KPl hM hS.kept.base hX) hM hS.kept (k := 2) (n := 400) (o := (ff [0] true ++ [(2, .cells (eC x))] ++ ff [3] true ++ ff [6] false ++ ff [23] true)) (ren := [(0, 0), (1, 1), (2, 2), (3, 3), (4, 10), (5, 5)]) (eqs := [0, 4, 5]) (m := 10) (j := 11) (so := .row (List.map SV.v ((ys x).map (Value.int .u8))) 5 (0, 0) (some 1)) (fun b => ?_) (by kernel_rfl) (fun i b h => by rw [hν0 i b h]; rfl) (fun ν1 b ob M2 w2 hb1 hor hK hsub => ih (H.put b.1 ob) M2 w2 ([] ++ [((⟨x.p, x.v, x.k, some ⟨b.1, 0, none⟩, x.l, b.2⟩ : EntT), 0)]) (0 + 1) _ (hS.next (x := x) hK hsub (bytes_put hyl hor) (fun e he => .inl (by rw [List.mem_singleton.1 he])) hxD (fun e he => ins_mem' he) fun _ => inv _ (⟨x.p, x.v, x.k, some ⟨b.1, 0, none⟩, x.l, b.2⟩ : EntT) (by unfold KE; rw [(bytes_put (H := H) (b := b) (x := x) hyl hor).cont])) (insE_ne _ _))
      rw [pl2]
      simp only [Owed, t1, r1, ra, ws, en, eC_len, cE_closed, hcl, entX, hr, closedM, hPI, x1, x2, x3, cE_map, and_self, and_true, true_and]
      try (repeat' apply And.intro)
      all_goals first | rfl | assumption | exact ba_beq _ | exact hxD | exact ys_closed _ | decide | (simp; done) | exact close_snoc (E := []) rfl | skip
  · have en : (!entN x.1 x.2 x.3 x.5 == (0 : Int)) = true := by simpa using hc
    have hr : refPut [] x = ([], entN x.p x.v x.k x.l) := by unfold refPut; rw [if_pos hc]
    refine Goes.reach (KPl hM hS.kept.base hX) (k := 2) (n := 300) (o := (ff [0] true ++ [(2, .cells (eC x))] ++ ff [3] false ++ ff [6] true ++ ff [7] false)) (ren := [(0, 0), (1, 1), (2, 2), (3, 3)]) (eqs := [0]) ?_ (by kernel_rfl) (fun i b h => by rw [hν0 i b h]; rfl) (ih0 H M1 w1 hk)
    rw [pl1]
    simp only [Owed, t1, r1, ra, ws, en, eC_len, cE_closed, hcl, entX, hr, closedM, hPI, x1, x2, x3, and_self, and_true, true_and]
    try (repeat' apply And.intro)
    all_goals first | rfl | assumption | exact ba_beq _ | exact hxD | decide | (simp; done) | skip
theorem new_own (hM : ∀ z, ¬ M z) {M1 M3 : Own} {w1 w3 : World} {H : Hp} (hk : Kept w0.hp M w0 H M1 w1) {b : Nat} (h : w1.heap.size ≤ b ∨ M1 b) : w0.heap.size ≤ b := by
  rcases hk.base.own _ h with h | h
  · exact h
  · exact absurd h (hM _)
theorem end0 (hX : PX D ys w0) (hM : ∀ z, ¬ M z) (hD : DIn D) {H : Hp} {M1 : Own} {w1 : World} (hk : Kept w0.hp M w0 H M1 w1) {S : SM} {n : Nat} {o : List (Nat × Ans)} {ren : List (Nat × Nat)}
    (h : Due (endsM (EPl D ys) 6 n S o ren [] (.tup [.ptr 0 0, .v (.agg #[.int .u64 0, .slice none 0 0]), .v (.bool true)]) [bk0])) :
    Goes (EPl D ys) M1 w1 cs0 6 (RPl D ys w0) ν S := by
  refine Goes.endsM (KPl hM hk.base hX) h.out fun ν' w' y hle hv hE hh => ?_
  obtain ⟨M3, w3, s', hB, hr⟩ := hh
  have hbel := below_of hM (hk.base.trans hB) hr
  obtain ⟨a, rfl, ha⟩ := VR.tup_iff.1 hv
  obtain ⟨y1, a, rfl, q1, ha⟩ := ha.cons_inv
  obtain ⟨y2, a, rfl, q2, ha⟩ := ha.cons_inv
  obtain ⟨y3, a, rfl, q3, ha⟩ := ha.cons_inv
  obtain rfl := ha.nil_inv
  obtain ⟨b, hb, rfl⟩ := VR.ptr_iff.1 q1
  obtain rfl := VR.v_iff.1 q2
  obtain rfl := VR.v_iff.1 q3
  obtain ⟨b', ob, hb', ho, hor, hw⟩ := hE.obj 0 _ _ rfl
  rw [hb] at hb'; cases hb'
  refine ⟨hbel, b.1, _, rfl, new_own (M3 := M3) (w3 := w3) hM hk (hw rfl), .inl ⟨?_, rfl⟩⟩
  obtain ⟨zs, rest, rfl, hz, hx⟩ := hor
  obtain ⟨z1, u, rfl, r1, hu⟩ := hz.cons_inv
  obtain ⟨z2, u2, rfl, r2, hu2⟩ := hu.cons_inv
  obtain rfl := hu2.nil_inv
  obtain rfl := VR.v_iff.1 r1
  obtain rfl := VR.v_iff.1 r2
  have h0 : rest = [] := by
    have : ([Value.int .u64 0, Value.map none] ++ rest).length = 2 := hx
    simpa using this
  subst h0
  rw [ho]; rfl
theorem end1 (hX : PX D ys w0) (hM : ∀ z, ¬ M z) (hD : DIn D) {H : Hp} {M1 : Own} {w1 : World} {E : List EntM} {cl : Nat} {xs : List EntT} (hS : St D ys w0 M H M1 w1 E cl xs) (hne : xs ≠ []) {i : Int} (hi : ¬ i < (D.length : Int)) :
    Goes (EPl D ys) M1 w1 cs0 6 (RPl D ys w0) ν (SM.at (hdPl off D.length c i) 6 (obj1 (rowsAt eC off D) (E.map mC) cl (cE xs) xs.length)) := by
  refine Goes.endsM (KPl hM hS.kept.base hX) (n := 100) (o := ff [0] false) (ren := [(0, 2), (1, 4), (2, 5)]) (eqs := [1, 2]) (x := .tup [.ptr 0 0, .agg [.v (.int .u64 0), .sl 2 0 xs.length none], .v (.bool true)]) (l := [bkF, mapW (E.map mC) cl, rowsE (cE xs)]) ?_ fun ν' w' y hle hv hE hh => ?_
  · rw [pz1]
    simp only [Owed, closedM, cE_closed, decide_eq_false hi, and_self, and_true, true_and]
  obtain ⟨M3, w3, s', hB, hr⟩ := hh
  have hbel := below_of hM (hS.kept.base.trans hB) hr
  have hnow := hS.kept.now hB hr
  obtain ⟨a, rfl, ha⟩ := VR.tup_iff.1 hv
  obtain ⟨y1, a, rfl, q1, ha⟩ := ha.cons_inv
  obtain ⟨y2, a, rfl, q2, ha⟩ := ha.cons_inv
  obtain ⟨y3, a, rfl, q3, ha⟩ := ha.cons_inv
  obtain rfl := ha.nil_inv
  obtain ⟨b, hb, rfl⟩ := VR.ptr_iff.1 q1
  obtain ⟨g, rfl, hg⟩ := VR.agg_iff.1 q2
  obtain ⟨g1, g, rfl, p1, hg⟩ := hg.cons_inv
  obtain ⟨g2, g, rfl, p2, hg⟩ := hg.cons_inv
  obtain rfl := hg.nil_inv
  obtain rfl := VR.v_iff.1 p1
  obtain rfl := VR.v_iff.1 q3
  obtain ⟨b', ob, hb', ho, hor, hw⟩ := hE.obj 0 _ _ rfl
  rw [hb] at hb'; cases hb'
  obtain ⟨bm, om, hbm, hom, horm, hwm⟩ := hE.obj 1 _ _ rfl
  obtain ⟨br, orr, hbr, hor2, horr, hwr⟩ := hE.obj 2 _ _ rfl
  have hcont : ∀ e ∈ E, contH H e.1 = contH w'.hp e.1 := fun e he => by
    obtain ⟨zs, hz⟩ := hS.data e he
    rw [hz.cont, (hz.mono hnow).cont]
  refine ⟨hbel, b.1, _, rfl, new_own (M3 := M3) (w3 := w3) hM hS.kept (hw rfl), .inr ⟨bm.1, E, cl, xs, g2, new_own (M3 := M3) (w3 := w3) hM hS.kept (hwm rfl), ⟨?_, ?_⟩, rfl, ?_, hS.inv.cont hcont, fun e he => ?_, hS.sub, hne⟩⟩
  · obtain ⟨zs, rest, rfl, hz, hx⟩ := hor
    obtain ⟨z1, u, rfl, r1, hu⟩ := hz.cons_inv
    obtain ⟨z2, u2, rfl, r2, hu2⟩ := hu.cons_inv
    obtain rfl := hu2.nil_inv
    obtain rfl := VR.v_iff.1 r1
    obtain ⟨bm', hbm', rfl⟩ := VR.map_iff.1 r2
    rw [hbm] at hbm'; cases hbm'
    have h0 : rest = [] := by
      have : ([Value.int .u64 0, Value.map (some bm.1)] ++ rest).length = 2 := hx
      simpa using this
    subst h0
    rw [ho]; rfl
  · obtain ⟨l, rfl, hl⟩ := horm
    rw [hom, entR_mC hl]
  · refine NewSl.of_row p2 hbr hor2 horr (new_own (M3 := M3) (w3 := w3) hM hS.kept (hwr rfl)) fun zs hz => cE_val hz
  · obtain ⟨zs, hz⟩ := hS.data e he
    exact ⟨zs, hz.mono hnow⟩
theorem loopPl1 (hX : PX D ys w0) (hM : ∀ z, ¬ M z) (hD : DIn D) (hν0 : ∀ i b, ν i = some b → i = 0) : ∀ (j i : Nat), i + j = D.length → ∀ H M1 w1 E cl xs, St D ys w0 M H M1 w1 E cl xs → xs ≠ [] →
    Goes (EPl D ys) M1 w1 cs0 6 (RPl D ys w0) ν (SM.at (hdPl off D.length c (i : Int)) 6 (obj1 (rowsAt eC off D) (E.map mC) cl (cE xs) xs.length))
  | 0, i, hj, H, M1, w1, E, cl, xs, hS, hne => end1 hX hM hD hS hne (by omega)
  | j + 1, i, hj, H, M1, w1, E, cl, xs, hS, hne => round1 hX hM hD (by omega) hν0 (fun H M1 w1 E cl xs hS hne => loopPl1 hX hM hD hν0 j (i + 1) (by omega) H M1 w1 E cl xs hS hne) hS hne
theorem loopPl0 (hX : PX D ys w0) (hM : ∀ z, ¬ M z) (hD : DIn D) (hν0 : ∀ i b, ν i = some b → i = 0) : ∀ (j i : Nat), i + j = D.length → ∀ H M1 w1, Kept w0.hp M w0 H M1 w1 →
    Goes (EPl D ys) M1 w1 cs0 6 (RPl D ys w0) ν (SM.at (hdPl off D.length c (i : Int)) 6 (obj0 (rowsAt eC off D)))
  | 0, i, hj, H, M1, w1, hk => by
    refine end0 hX hM hD hk (n := 100) (o := ff [0] false) (ren := [(0, 2)]) ⟨?_⟩
    rw [pz0]
    simp only [Owed, decide_eq_false (show ¬ (i : Int) < (D.length : Int) by omega), and_self, and_true, true_and]
  | j + 1, i, hj, H, M1, w1, hk => round0 hX hM hD (by omega) hν0 (fun H M1 w1 E cl xs hS hne => loopPl1 hX hM hD hν0 j (i + 1) (by omega) H M1 w1 E cl xs hS hne) (fun H M1 w1 hk => loopPl0 hX hM hD hν0 j (i + 1) (by omega) H M1 w1 hk) hk
end
/-- Plays, of any entries that lie somewhere. -/
theorem plays_calls {W : World} {D : List EntT} {ys : EntT → List Int} {b off c : Nat} {cs : Array Value} {e : TypeId} {fz : Nat × Nat} (hX : PX D ys W) (hD : DIn D) (hlc : D.length ≤ c) (hh : W.heap[b]? = some (.cells cs e fz)) (hoff : off ≤ cs.size) (hc : ∀ (k : Nat) (v : Value), (D.flatMap eV)[k]? = some v → cs[off + k]? = some v) :
    Calls Tryz.prog 6 #[.slice (some ⟨b, off, none⟩) D.length c] W (RPl D ys W) := by
  refine calls_readR (E := EPl D ys) rfl (d := 6) (l := [(b, 0)]) (os := [.look (rowsAt eC off D)]) rfl (by simp) (by simp) ?_ rfl (args := [.sl 0 off D.length (some c)]) (a := [.slice (some ⟨b, off, none⟩) D.length c]) (S0 := entPl D ys (rowsAt eC off D) off D.length c) (by kernel_rfl) (VRL.cons (VR.sl_iff.2 ⟨(b, 0), rfl, hlc, rfl⟩) VRL.nil) fun cs0 => ?_
  · intro j o' b' c' h1 h2
    match j with
    | 0 =>
      simp only [List.getElem?_cons_zero, Option.some.injEq] at h1 h2
      subst h1
      cases h2
      exact ⟨_, hh, rowsAt_look (h := eV) (fun ν x => VRL.lits ν (eV x)) hoff hc⟩
    | j + 1 => simp at h1
  · have hM : ∀ z, ¬ (layOwn [(b, 0)] ([SO.look (rowsAt eC off D)].map fun o => (o, false))) z := fun z => layOwn_none
    have hν : ∀ i c, layVal [(b, 0)] i = some c → i = 0 := fun i c h => lay1' h
    have hK := Kept.start (H0 := W.hp) (M := layOwn [(b, 0)] ([SO.look (rowsAt eC off D)].map fun o => (o, false))) (w := W) (Hp.Sub.refl _) (fun z o _ => hM z) (layOwn_r (by
      intro j o' m b' c' h1 h2
      match j with
      | 0 =>
        simp only [List.map_cons, List.getElem?_cons_zero, Option.some.injEq] at h1 h2
        cases h1
        cases h2
        exact ⟨_, hh, rowsAt_look (h := eV) (fun ν x => VRL.lits ν (eV x)) hoff hc⟩
      | j + 1 => simp at h1)) (fun _ h => h)
    have hcl : (rowsAt eC off D).all closedSV = true := rowsAt_closed eC_closed
    refine Goes.reach (KPl hM hK.base hX) (k := 2) (n := 60) (o := [(1000, .b true)]) (ren := [(0, 0), (1, 1), (2, 2), (3, 3)]) (eqs := [0]) (F := hdPl off D.length c 0) (d := 6) (l := obj0 (rowsAt eC off D)) ?_ (by kernel_rfl) (fun i b h => by rw [hν i b h]; rfl) (loopPl0 hX hM hD hν D.length 0 (by omega) W.hp _ W hK)
    rw [pl0]
    simp only [Owed, hcl, and_self, and_true, true_and]
/-- .. of none. -/
theorem plays_none {W : World} (hm : MX W) (ys : EntT → List Int) (a : Option Addr) (c : Nat) : Calls Tryz.prog 6 #[.slice a 0 c] W (RPl [] ys W) := by
  have hX : PX [] (fun _ => []) W := ⟨hm, fun x hx => (nomatch hx)⟩
  have hD : DIn [] := ⟨fun x hx => (nomatch hx), fun x hx => (nomatch hx), fun x hx => (nomatch hx), Nat.zero_le _⟩
  have : Calls Tryz.prog 6 #[.slice a 0 c] W (RPl [] (fun _ => []) W) := by
    refine calls_bareR (E := EPl [] fun _ => []) rfl rfl (args := [.v (.slice a 0 c)]) (a := [.slice a 0 c]) (S0 := entE (EPl [] fun _ => []) 6 [.v (.slice a 0 c)]) (by kernel_rfl) (VRL.cons (VR.v_iff.2 rfl) VRL.nil) fun cs0 => ?_
    have hK := Kept.start (H0 := W.hp) (M := layOwn [] []) (w := W) (Hp.Sub.refl _) (fun z o _ => not_laid z) (fun z h => by obtain ⟨i, o, c, h, _⟩ := h; simp at h) (fun _ h => h)
    refine end0 hX not_laid hD hK (n := 100) (o := [(1000, .b true)]) (ren := [(0, 1)]) ⟨?_⟩
    rw [pln]
    simp only [Owed, and_self, and_true, true_and]
  refine this.mono fun e w' ⟨h1, b, v, h2, h3, h4⟩ => ⟨h1, b, v, h2, h3, ?_⟩
  rcases h4 with h | ⟨m, E, cl, xs, y, _, _, _, _, _, _, h, hne⟩
  · exact .inl h
  · exfalso
    cases xs with
    | nil => exact hne rfl
    | cons z zs => exact absurd (h z List.mem_cons_self) (by simp)
end paths
end Go.Proofs.YtiggmgcnjmalfaaGreatDoor
namespace Go.Proofs.YtiggmgcnjmalfaaGreatDoor
open Go Go.Rx Go.RowKit Go.Proofs
set_option linter.unusedVariables false
set_option linter.unusedSimpArgs false
set_option maxRecDepth 100000
namespace paths
noncomputable def ELt : Env := EP [] []
noncomputable def entLt (l : List SV) (off n c : Nat) : SM := (enterS ELt 4 [.sl 0 off n (some c)] (memOf 6 1 0 [lkE l])).getD noSM
noncomputable def todoLt : List SI := todoL ELt 2 60 (entLt [] 0 0 0) [(1000, .b true)]
noncomputable def hdLt (off n c : Nat) (z i : Int) : SF := { fn := 4, tm := tmOf 30 5 ([.sl 0 off n (some c), .junk, .junk, .v (.int .i64 z), .junk, .junk, .sl 0 off n (some c), .v (.int .i64 n), .v (.int .i64 i)] ++ List.replicate 21 .junk), todo := todoLt, defers := [], ret := false, kind := .normal, ro := none }
theorem lt0 (l : List SV) (off n c : Nat) : reach ELt 2 60 (entLt l off n c) [(1000, .b true)] [(0, 0)] [0] (hdLt off n c 0 0) 6 [lkE l] = [
  off = off ∧ n = n ∧ some c = some c,
  Value.int IntKind.i64 (0 : Int) = Value.int IntKind.i64 (0 : Int),
  off = off ∧ n = n ∧ some c = some c,
  Value.int IntKind.i64 (↑n : Int) = Value.int IntKind.i64 (↑n : Int),
  Value.int IntKind.i64 (0 : Int) = Value.int IntKind.i64 (0 : Int),
  l = l,
  l.all closedSV = true] := by kernel_rfl
theorem lt1 (l : List SV) (off n c : Nat) (x : EntT) (z i z' i' : Int) : reach ELt 2 60 (SM.at (hdLt off n c z i) 6 [lkE l]) (ff [0] true ++ [(2, .cells (eC x))]) [(0, 0)] [0] (hdLt off n c z' i') 6 [lkE l] = [
  off = off ∧ n = n ∧ some c = some c,
  Value.int IntKind.i64 (IntKind.i64.wrap (z + IntKind.i64.wrap ((↑x.1.size : Int) + (↑x.5 : Int)))) =
   Value.int IntKind.i64 z',
  off = off ∧ n = n ∧ some c = some c,
  Value.int IntKind.i64 (↑n : Int) = Value.int IntKind.i64 (↑n : Int),
  Value.int IntKind.i64 (IntKind.i64.wrap (i + (1 : Int))) = Value.int IntKind.i64 i',
  l = l,
  l.all closedSV = true,
  List.take (4 : Nat) (List.drop (off + i.toNat * (4 : Nat)) l) = eC x ∧ (eC x).length = (4 : Nat),
  inRange i n = true,
  decide (i < (↑n : Int)) = true] := by kernel_rfl
theorem lt2 (l : List SV) (off n c : Nat) (z i : Int) (b : Bool) : endsV ELt 4 60 (SM.at (hdLt off n c z i) 6 [lkE l]) (ff [0] false ++ ff [1, 2, 3, 4, 5] true) (.bool b) = [
  Value.bool (decide ((↑n : Int) ≤ (400 : Int))) = Value.bool b,
  decide (z ≤ (20000 : Int)) = true,
  decide (z ≤ (20000 : Int)) = true,
  decide (z ≤ (20000 : Int)) = true,
  decide (z ≤ (20000 : Int)) = true,
  decide (i < (↑n : Int)) = false] := by kernel_rfl
theorem lt3 (l : List SV) (off n c : Nat) (z i : Int) (b : Bool) : endsV ELt 4 60 (SM.at (hdLt off n c z i) 6 [lkE l]) (ff [0] false ++ ff [1, 2, 3, 4, 5] false) (.bool b) = [
  Value.bool false = Value.bool b,
  decide (z ≤ (20000 : Int)) = false,
  decide (z ≤ (20000 : Int)) = false,
  decide (z ≤ (20000 : Int)) = false,
  decide (z ≤ (20000 : Int)) = false,
  decide (i < (↑n : Int)) = false] := by kernel_rfl
theorem lt4 (a : Option Addr) (c : Nat) (b : Bool) : endsV ELt 4 60 (entE ELt 4 [.v (.slice a 0 c)]) (ff [1000] true) (.bool b) = [
  Value.bool true = Value.bool b] := by kernel_rfl
/-- The sum that it reckons. -/
def sumL (z : Int) (xs : List EntT) : Int := xs.foldl (fun n e => IntKind.i64.wrap (n + IntKind.i64.wrap ((e.p.size : Int) + (e.l : Int)))) z
def lightL (xs : List EntT) : Bool := decide (sumL 0 xs ≤ 20000) && decide ((xs.length : Int) ≤ 400)
theorem sumL_snoc (z : Int) (xs : List EntT) (e : EntT) : sumL z (xs ++ [e]) = IntKind.i64.wrap (sumL z xs + IntKind.i64.wrap ((e.p.size : Int) + (e.l : Int))) := by
  unfold sumL; rw [List.foldl_append]; rfl
theorem KLt {M : Own} {w0 : World} : Facts ELt M w0 := factsP0 fun r h => by cases h
section
variable {M : Own} {w0 : World} {cs0 : List Frame} {R : Ending → World → Prop} {ν : Val} {xs : List EntT} {off c : Nat}
theorem loopLt (hν : ∀ i b, ν i = some b → i = 0) (hl : xs.length ≤ 9223372036854775807) (hM : ∀ b, ¬ M b) (hR : ∀ w', Below w0.heap.size w0 w' → R (.returned (.bool (lightL xs))) w') :
    ∀ (j k : Nat), k + j = xs.length → Goes ELt M w0 cs0 4 R ν (SM.at (hdLt off xs.length c (sumL 0 (xs.take k)) k) 6 [lkE (rowsAt eC off xs)])
  | 0, k, hk => by
    have hk : k = xs.length := by omega
    by_cases h : sumL 0 (xs.take k) ≤ 20000
    · refine Goes.endsV KLt (n := 60) (o := ff [0] false ++ ff [1, 2, 3, 4, 5] true) (v := .bool (lightL xs)) ?_ fun ν' M1 w1 s' w' _ hB hr => hR _ (below_of hM hB hr)
      rw [lt2]
      simp only [Owed, h, decide_true, hk, Int.lt_irrefl, decide_false, true_and, and_true]
      unfold lightL
      rw [hk, List.take_length] at h
      simp [h]
    · refine Goes.endsV KLt (n := 60) (o := ff [0] false ++ ff [1, 2, 3, 4, 5] false) (v := .bool (lightL xs)) ?_ fun ν' M1 w1 s' w' _ hB hr => hR _ (below_of hM hB hr)
      rw [lt3]
      simp only [Owed, h, decide_true, hk, Int.lt_irrefl, decide_false, true_and, and_true]
      unfold lightL
      rw [hk, List.take_length] at h
      simp [h]
  | j + 1, k, hk => by
    have hi : k < xs.length := by omega
    have hxk : xs[k]? = some xs[k] := List.getElem?_eq_getElem hi
    have t1 : decide ((k : Int) < (xs.length : Int)) = true := decide_eq_true (by omega)
    have r1 := in_range hi
    have ws : IntKind.i64.wrap ((k : Int) + 1) = ((k + 1 : Nat) : Int) := by rw [wi (by omega)]; omega
    have ra := rowsAt_at (off := off) eC_len hxk
    have hcl : (rowsAt eC off xs).all closedSV = true := rowsAt_closed eC_closed
    have nx := loopLt hν hl hM hR j (k + 1) (by omega)
    rw [List.take_succ_eq_append_getElem hi, sumL_snoc] at nx
    refine Goes.reach KLt (k := 2) (n := 60) (o := (ff [0] true ++ [(2, .cells (eC xs[k]))])) (ren := [(0, 0)]) (eqs := [0]) ?_ (by kernel_rfl) (fun i b h => by rw [hν i b h]; rfl) nx
    rw [lt1]
    simp only [Owed, Int.toNat_natCast, t1, r1, ws, ra, hcl, eC_len, and_self, and_true, true_and]
    try (repeat' apply And.intro)
    all_goals first | rfl | exact ws.symm | exact ws | skip
end
end paths
end Go.Proofs.YtiggmgcnjmalfaaGreatDoor
namespace Go.Proofs.YtiggmgcnjmalfaaGreatDoor
open Go Go.Rx Go.RowKit Go.Proofs
set_option linter.unusedVariables false
set_option linter.unusedSimpArgs false
set_option maxRecDepth 100000
namespace paths
section
variable {H : Type} {enc : TypeId × Value → H} {P : Program} {W : World} {base : Nat} {spare : Nat → Bool} {held : Bool}
/-- A part of a struct that came in. -/
theorem trod_part {t ft : TypeId} {i o k n : Nat} {cs : List Value} {x : DataW H × List MemPlace} (h : DataW.trod enc P W base spare held n t cs = some x) (hs : P.underlying t = some (.struct (structFields P t))) (hf : (structFields P t)[i]? = some (fieldAt P t i))
    (ho : (fieldAt P t i).offset = o) (hty : (fieldAt P t i).type = ft) (hk : P.cellsOf ft = k) : ∃ n' y, DataW.trod enc P W base spare held n' ft ((cs.drop o).take k) = some y ∧ ∀ q ∈ y.1.weights P ft, q ∈ x.1.weights P t := by
  subst ho hty hk
  obtain ⟨xs, n', _, hx, _, hlen, hg⟩ := DataW.trod_struct hs h
  have hi : i < xs.length := by rw [hlen]; exact (Array.getElem?_eq_some_iff.1 hf).1
  have := hg i _ hf
  rw [List.getElem?_eq_getElem hi] at this
  refine ⟨n', _, this, fun q hq => ?_⟩
  rw [hx]
  unfold DataW.weights
  rw [hs]
  refine DataW.weights_mem_each (j := i) (t := (fieldAt P t i).type) (d := xs[i].1) ?_ (by simp [hi]) q hq
  rw [List.getElem?_map, Array.getElem?_toList, hf]; rfl
theorem wt_all {e : TypeId} : ∀ {l : List (DataW H)} {d : DataW H}, d ∈ l → ∀ {q : Nat}, q ∈ d.weights P e → q ∈ DataW.weightsAll P e l
  | x :: l, d, hd, q, hq => by
    unfold DataW.weightsAll
    rcases List.mem_cons.1 hd with rfl | hd
    · exact List.mem_append_left _ hq
    · exact List.mem_append_right _ (wt_all hd hq)
/-- Rows that came in, with their weights. -/
theorem rows_wt {α : Type} {h : α → List Value} {C : Nat} (hC0 : 0 < C) (hh : ∀ r, (h r).length = C) {t e : TypeId} {a : Option Addr} {l c n : Nat} {x : DataW H × List MemPlace}
    (hform : ∀ (vs : List Value) (n : Nat) (y : DataW H × List MemPlace), DataW.trod enc P W base spare held n e vs = some y → (∀ q ∈ y.1.weights P e, q ∈ x.1.weights P t) → ∃ r, vs = h r)
    (ht : P.underlying t = some (.slice e)) (hC : P.cellsOf e = C) (hd : DataW.trod enc P W base spare held n t [.slice a l c] = some x) : ElemsIn h W a l c := by
  rcases Deep.open_slice ht hd with ⟨h0, _⟩ | ⟨a', len, cap, m, n', D, Pl, hcs, hb, hl, hm, hmm, hxx, hi⟩
  · cases h0; exact ⟨⟨Nat.le_refl _, Nat.zero_le _⟩, .inl rfl⟩
  · cases hcs
    refine ⟨⟨hl, hm⟩, ?_⟩
    by_cases hl0 : l = 0
    · exact .inl hl0
    right
    have hlm : l ≤ m := by rw [hmm]; split <;> omega
    have hel : ∀ i, i < l → ∃ r : α, ∀ j, j < C → W.cell? (a'.add (i * C + j)) = (h r)[j]? := by
      intro i hil
      obtain ⟨cs', hc, htr⟩ := hi i (by omega)
      rw [hC] at hc
      obtain ⟨_, hcl, hat⟩ := World.cells?_some hc
      obtain ⟨r, hr⟩ := hform cs' _ _ htr fun q hq => by
        rw [hxx]
        unfold DataW.weights
        rw [ht]
        exact List.mem_cons_of_mem _ (List.mem_append_left _ (wt_all (List.mem_map.2 ⟨i, List.mem_range.2 hil, rfl⟩) hq))
      refine ⟨r, fun j hj => ?_⟩
      have := hat j hj
      rw [← hr, ← this, Deep.add_add]
    obtain ⟨F, hF⟩ : ∃ F : Nat → α, ∀ i, i < l → ∀ j, j < C → W.cell? (a'.add (i * C + j)) = (h (F i))[j]? := by
      obtain ⟨r0, _⟩ := hel 0 (by omega)
      refine ⟨fun i => if hi : i < l then Classical.choose (hel i hi) else r0, fun i hi => ?_⟩
      simp only [dif_pos hi]
      exact Classical.choose_spec (hel i hi)
    have h00 := hF 0 (by omega) 0 hC0
    have hv0 : ∃ v, (h (F 0))[0]? = some v := ⟨_, List.getElem?_eq_getElem (by rw [hh]; exact hC0)⟩
    obtain ⟨v0, hv0⟩ := hv0
    rw [hv0, Nat.zero_mul, Nat.add_zero] at h00
    have ha0 : a'.add 0 = a' := by simp [Addr.add]
    rw [ha0] at h00
    unfold World.cell? at h00
    split at h00
    · rename_i cs el fz hheap
      have hsp : a'.spot = none := by
        cases hs : a'.spot with
        | none => rfl
        | some s => rw [hs] at h00; simp at h00
      rw [hsp] at h00
      simp only [Option.isSome_none, Bool.false_eq_true, if_false] at h00
      have hoff := (Array.getElem?_eq_some_iff.1 h00).1
      obtain ⟨b, off, sp⟩ := a'
      simp only at hsp hheap hoff
      subst hsp
      refine ⟨b, off, (List.range l).map F, cs, el, fz, rfl, by simp, hheap, by omega, fun k v hk => ?_⟩
      obtain ⟨x, h1, h2⟩ := flatMap_get hC0 hh hk
      rw [List.getElem?_map] at h1
      obtain ⟨i, h3, rfl⟩ := Option.map_eq_some_iff.1 h1
      obtain ⟨hlt, h3⟩ := List.getElem?_eq_some_iff.1 h3
      rw [List.getElem_range] at h3
      simp only [List.length_range] at hlt
      subst h3
      have := hF (k / C) hlt (k % C) (Nat.mod_lt _ hC0)
      rw [h2] at this
      have e : k / C * C + k % C = k := by rw [Nat.mul_comm]; exact Nat.div_add_mod k C
      rw [e, addr_add, cell_at hheap] at this
      exact this
    · cases h00
theorem flat_bytes : ∀ xs : List { n : Int // 0 ≤ n ∧ n < 256 }, (xs.flatMap fun r => [Value.int .u8 r.1]) = xs.map fun r => Value.int .u8 r.1
  | [] => rfl
  | x :: xs => by rw [List.flatMap_cons, flat_bytes xs]; rfl
/-- Bytes that came in: how many there may be, where they lie. -/
theorem bytes_wt {t e : TypeId} {a : Option Addr} {l c n : Nat} {x : DataW H × List MemPlace} (ht : P.underlying t = some (.slice e)) (he : P.underlying e = some (.int .u8)) (hC : P.cellsOf e = 1) (hB : P.bytesOf e = 1)
    (hd : DataW.trod enc P W base spare held n t [.slice a l c] = some x) (hw : ∀ q ∈ x.1.weights P t, q ≤ reachBytes) : (a = none → l = 0) ∧ l ≤ reachBytes ∧ ∃ ys : List Int, CellsIn W a l ys ∧ ∀ y ∈ ys, 0 ≤ y ∧ y < 256 := by
  have hr : ElemsIn (fun r : { n : Int // 0 ≤ n ∧ n < 256 } => [Value.int .u8 r.1]) W a l c := rows_wt (C := 1) (by decide) (fun _ => rfl) (fun vs n' y h _ => by
    obtain ⟨n1, hn1, _, hwf⟩ := DataW.trod_int he h
    have : 0 ≤ n1 ∧ n1 < 256 := by
      have := hwf
      simp [Lit.wf, IntKind.has, IntKind.min, IntKind.max, IntKind.bits, IntKind.signed] at this
      omega
    exact ⟨⟨n1, this⟩, hn1⟩) ht hC hd
  have hlen : (a = none → l = 0) ∧ l ≤ reachBytes := by
    rcases Deep.open_slice ht hd with ⟨h0, _⟩ | ⟨a', len, cap, m, n', D, Pl, hcs, hb, hl, hm, hmm, hxx, hi⟩
    · cases h0; exact ⟨fun _ => rfl, Nat.zero_le _⟩
    · cases hcs
      refine ⟨fun h => (nomatch h), ?_⟩
      have := hw (((List.range l).map D).length * 1 + (((List.range (m - l)).map fun j => D (l + j)).length) * 1) (by
        rw [hxx]
        unfold DataW.weights
        rw [ht]
        dsimp only
        rw [hB, ← Nat.add_mul]
        exact List.mem_cons_self)
      simp only [List.length_map, List.length_range] at this
      omega
  refine ⟨hlen.1, hlen.2, ?_⟩
  have hr0 : reachBytes ≤ 140737488355328 := by decide
  obtain ⟨_, rfl | ⟨b, off, xs, cs, e', fz, rfl, rfl, hh, hoff, hc⟩⟩ := hr
  · exact ⟨[], ⟨rfl, Nat.zero_le _, fun b _ i hi => absurd hi (by omega)⟩, fun y hy => (nomatch hy)⟩
  · refine ⟨xs.map (·.1), ⟨by simp, Nat.le_trans hlen.2 hr0, fun b' hb' i hi W' hW => ?_⟩, fun y hy => ?_⟩
    · cases hb'
      have hlt := (Array.getElem?_eq_some_iff.1 hh).1
      have h1 : (xs.flatMap fun r => [Value.int .u8 r.1])[i]? = some (.int .u8 ((xs.map (·.1)).getD i 0)) := by
        have := flat_bytes xs
        rw [this, List.getElem?_map, List.getElem?_eq_getElem hi]
        simp [List.getD_eq_getElem?_getD, hi]
      have h2 := hc i _ h1
      rw [addr_add, cell_at (by rw [hW b hlt]; exact hh)]
      exact h2
    · obtain ⟨r, _, rfl⟩ := List.mem_map.1 hy
      exact r.2
end
/-- Where entries lie. -/
inductive EntsIn (W : World) (a : Option Addr) (l c : Nat) (D : List EntT) : Prop where
  | none (hl : l = 0) (hD : D = [])
  | some (b off : Nat) (cs : Array Value) (e : TypeId) (fz : Nat × Nat) (ha : a = .some ⟨b, off, .none⟩) (hl : D.length = l) (hlc : l ≤ c) (hh : W.heap[b]? = .some (.cells cs e fz)) (hoff : off ≤ cs.size) (hc : ∀ (k : Nat) (v : Value), (D.flatMap eV)[k]? = .some v → cs[off + k]? = .some v)
theorem EntsIn.keep {W w : World} {a : Option Addr} {l c : Nat} {D : List EntT} (h : EntsIn W a l c D) (hk : ∀ k, k < W.heap.size → w.heap[k]? = W.heap[k]?) : EntsIn w a l c D := by
  rcases h with ⟨hl, hD⟩ | ⟨b, off, cs, e, fz, ha, hl, hlc, hh, hoff, hc⟩
  · exact .none hl hD
  · exact .some b off cs e fz ha hl hlc ((hk b (Array.getElem?_eq_some_iff.1 hh).1).trans hh) hoff hc
theorem EntsIn.len {W : World} {a : Option Addr} {l c : Nat} {D : List EntT} (h : EntsIn W a l c D) : D.length = l := by
  rcases h with ⟨hl, hD⟩ | ⟨b, off, cs, e, fz, ha, hl, hlc, hh, hoff, hc⟩
  · rw [hl, hD]; rfl
  · exact hl
/-- What is known of entries that came in. -/
structure EntIs (W : World) (x : EntT) : Prop where
  p : x.p.size ≤ reachBytes
  v : 0 ≤ x.v ∧ x.v < 18446744073709551616
  nil : x.a = none → x.l = 0
  l : x.l ≤ reachBytes
  ys : ∃ ys : List Int, CellsIn W x.a x.l ys ∧ ∀ y ∈ ys, 0 ≤ y ∧ y < 256
section
variable {H : Type} {enc : TypeId × Value → H} {W : World} {base : Nat} {spare : Nat → Bool} {held : Bool}
theorem ent_form {vs : List Value} {n : Nat} {y : DataW H × List MemPlace} (h : DataW.trod enc Tryz.prog W base spare held n 46 vs = some y) (hw : ∀ q ∈ y.1.weights Tryz.prog 46, q ≤ reachBytes) : ∃ r : { x : EntT // EntIs W x }, vs = eV r.1 := by
  have hs : Tryz.prog.underlying 46 = some (.struct (structFields Tryz.prog 46)) := by kernel_rfl
  obtain ⟨xs, n', _, _, hl, _, _⟩ := DataW.trod_struct hs h
  have hl : vs.length = 4 := hl.trans (by kernel_rfl)
  obtain ⟨n0, y0, h0, w0⟩ := trod_part (i := 0) (o := 0) (ft := 9) (k := 1) h hs (by kernel_rfl) (by kernel_rfl) (by kernel_rfl) (by kernel_rfl)
  obtain ⟨n1, y1, h1, w1⟩ := trod_part (i := 1) (o := 1) (ft := 26) (k := 1) h hs (by kernel_rfl) (by kernel_rfl) (by kernel_rfl) (by kernel_rfl)
  obtain ⟨n2, y2, h2, w2⟩ := trod_part (i := 2) (o := 2) (ft := 44) (k := 2) h hs (by kernel_rfl) (by kernel_rfl) (by kernel_rfl) (by kernel_rfl)
  have hs2 : Tryz.prog.underlying 44 = some (.struct (structFields Tryz.prog 44)) := by kernel_rfl
  obtain ⟨n3, y3, h3, w3⟩ := trod_part (i := 0) (o := 0) (ft := 3) (k := 1) h2 hs2 (by kernel_rfl) (by kernel_rfl) (by kernel_rfl) (by kernel_rfl)
  obtain ⟨n4, y4, h4, w4⟩ := trod_part (i := 1) (o := 1) (ft := 42) (k := 1) h2 hs2 (by kernel_rfl) (by kernel_rfl) (by kernel_rfl) (by kernel_rfl)
  match vs, hl with
  | [v0, v1, v2, v3], _ =>
    obtain ⟨s, hs0, hx0, _⟩ := DataW.trod_string Tryz.underlying9 h0
    obtain ⟨z1, hz1, _, wf1⟩ := DataW.trod_int Tryz.underlying26 h1
    obtain ⟨z3, hz3, _, _⟩ := DataW.trod_int Tryz.underlying3 h3
    cases hs0; cases hz1; cases hz3
    have h4' : DataW.trod enc Tryz.prog W base spare held n4 42 [v3] = some y4 := h4
    have hsl : ∃ a l c, v3 = .slice a l c := by
      rcases Deep.open_slice Tryz.underlying42 h4' with ⟨h0, _⟩ | ⟨a', len, cap, m, n', D, Pl, hcs, _⟩
      · cases h0; exact ⟨_, _, _, rfl⟩
      · cases hcs; exact ⟨_, _, _, rfl⟩
    obtain ⟨a, l, c, rfl⟩ := hsl
    obtain ⟨q1, q2, q3⟩ := bytes_wt Tryz.underlying42 Tryz.underlying5 (by kernel_rfl) (by kernel_rfl) h4' fun q hq => hw q (w2 q (w4 q hq))
    refine ⟨⟨⟨s, z1, z3, a, l, c⟩, ⟨?_, ?_, q1, q2, q3⟩⟩, rfl⟩
    · have := hw s.data.toList.length (w0 _ (by rw [hx0]; unfold DataW.weights; exact List.mem_singleton.2 rfl))
      simpa using this
    · have := wf1
      simp [Lit.wf, IntKind.has, IntKind.min, IntKind.max, IntKind.bits, IntKind.signed] at this
      show 0 ≤ z1 ∧ z1 < 18446744073709551616
      omega
theorem ents_in {a : Option Addr} {l c : Nat} {d : DataW H} {p : List MemPlace} (h : DataW.Trod enc Tryz.prog W base spare held 22 (.slice a l c) d p) (hw : ∀ q ∈ d.weights Tryz.prog 22, q ≤ reachBytes) :
    ∃ D : List EntT, EntsIn W a l c D ∧ (∀ x ∈ D, EntIs W x) ∧ l ≤ 9223372036854775807 := by
  obtain ⟨n, hn⟩ := h
  have hr := rows_wt (h := fun r : { x : EntT // EntIs W x } => eV r.1) (C := 4) (by decide) (fun _ => rfl) (fun vs n y h hq => ent_form h fun q hq' => hw q (hq q hq')) Tryz.underlying22 (by kernel_rfl) hn
  obtain ⟨⟨hlc, hcm⟩, rfl | ⟨b, off, xs, cs, e, fz, rfl, rfl, hh, hoff, hc⟩⟩ := hr
  · exact ⟨[], .none rfl rfl, fun x hx => (nomatch hx), by omega⟩
  · refine ⟨xs.map (·.1), .some b off cs e fz rfl (by simp) hlc hh hoff fun k v hk => hc k v ?_, fun x hx => ?_, Nat.le_trans hlc (Nat.le_trans hcm (by decide))⟩
    · rw [List.flatMap_map] at hk; exact hk
    · obtain ⟨r, _, rfl⟩ := List.mem_map.1 hx
      exact r.2
end
theorem wt_each {H : Type} {P : Program} {ts : List TypeId} {ds : List (DataW H)} (h : (DataW.weightsEach P ts ds).all (· ≤ reachBytes) = true) {j : Nat} {t : TypeId} {d : DataW H} (ht : ts[j]? = some t) (hd : ds[j]? = some d) : ∀ q ∈ d.weights P t, q ≤ reachBytes := fun q hq => by
  simpa using List.all_eq_true.1 h q (DataW.weights_mem_each ht hd q hq)
/-- What Light's yes says. -/
theorem light_fine {W : World} {D : List EntT} (h : ∀ x ∈ D, EntIs W x) (hl : lightL D = true) : D.length ≤ 400 ∧ ∀ x ∈ D, x.p.size ≤ 20000 ∧ x.l ≤ 20000 := by
  unfold lightL at hl
  rw [Bool.and_eq_true, decide_eq_true_eq, decide_eq_true_eq] at hl
  obtain ⟨hs, hn⟩ := hl
  refine ⟨by omega, ?_⟩
  have hr0 : reachBytes ≤ 140737488355328 := by decide
  have key : ∀ (E : List EntT) (z : Int), (∀ x ∈ E, EntIs W x) → 0 ≤ z → z + (E.length : Int) * 281474976710656 ≤ 9223372036854775807 → z ≤ sumL z E ∧ ∀ x ∈ E, z + (x.p.size : Int) + (x.l : Int) ≤ sumL z E := by
    intro E
    induction E with
    | nil => intro z _ _ _; exact ⟨Int.le_refl _, fun x hx => (nomatch hx)⟩
    | cons e E ih =>
      intro z hE hz hb
      have he := hE e List.mem_cons_self
      have h1 := Nat.le_trans he.p hr0
      have h2 := Nat.le_trans he.l hr0
      simp only [List.length_cons] at hb
      have w1 : IntKind.i64.wrap ((e.p.size : Int) + (e.l : Int)) = (e.p.size : Int) + (e.l : Int) := wi (by omega)
      have w2 : IntKind.i64.wrap (z + ((e.p.size : Int) + (e.l : Int))) = z + ((e.p.size : Int) + (e.l : Int)) := wi (by omega)
      have hs : sumL z (e :: E) = sumL (z + ((e.p.size : Int) + (e.l : Int))) E := by
        show sumL (IntKind.i64.wrap (z + IntKind.i64.wrap ((e.p.size : Int) + (e.l : Int)))) E = _
        rw [w1, w2]
      obtain ⟨i1, i2⟩ := ih (z + ((e.p.size : Int) + (e.l : Int))) (fun x hx => hE x (List.mem_cons_of_mem _ hx)) (by omega) (by omega)
      rw [hs]
      refine ⟨by omega, fun x hx => ?_⟩
      rcases List.mem_cons.1 hx with rfl | hx
      · omega
      · have := i2 x hx; omega
  obtain ⟨_, k2⟩ := key D 0 h (by omega) (by omega)
  intro x hx
  have := k2 x hx
  omega
/-- Light of entries that lie somewhere. -/
theorem light_calls {W : World} {a : Option Addr} {l c : Nat} {D : List EntT} (h : EntsIn W a l c D) (hl : l ≤ 9223372036854775807) : Calls Tryz.prog 4 #[.slice a l c] W fun e w' => Below W.heap.size W w' ∧ e = .returned (.bool (lightL D)) := by
  rcases h with ⟨rfl, rfl⟩ | ⟨b, off, cs, e, fz, rfl, rfl, hlc, hh, hoff, hc⟩
  · refine calls_endsV (E := ELt) (args := [.v (.slice a 0 c)]) (a := [.slice a 0 c]) (n := 60) (o := ff [1000] true) rfl rfl KLt (by kernel_rfl) (VRL.cons (VR.v_iff.2 rfl) VRL.nil) ⟨?_⟩
    rw [lt4]
    simp only [Owed, and_self, and_true, true_and]
    rfl
  · refine (calls_readR (E := ELt) (R := fun e w' => Below W.heap.size W w' ∧ e = .returned (.bool (lightL D))) rfl (d := 6) (l := [(b, 0)]) (os := [.look (rowsAt eC off D)]) rfl (by simp) (by simp) ?_ rfl (args := [.sl 0 off D.length (some c)]) (a := [.slice (some ⟨b, off, none⟩) D.length c]) (S0 := entLt (rowsAt eC off D) off D.length c) (by kernel_rfl) (VRL.cons (VR.sl_iff.2 ⟨(b, 0), rfl, hlc, rfl⟩) VRL.nil) fun cs0 => ?_)
    · intro j o' b' c' h1 h2
      match j with
      | 0 =>
        simp only [List.getElem?_cons_zero, Option.some.injEq] at h1 h2
        subst h1
        cases h2
        exact ⟨_, hh, rowsAt_look (h := eV) (fun ν x => VRL.lits ν (eV x)) hoff hc⟩
      | j + 1 => simp at h1
    · have hM : ∀ z, ¬ (layOwn [(b, 0)] ([SO.look (rowsAt eC off D)].map fun o => (o, false))) z := fun z => layOwn_none
      have hν : ∀ i c, layVal [(b, 0)] i = some c → i = 0 := fun i c h => lay1' h
      have hcl : (rowsAt eC off D).all closedSV = true := rowsAt_closed eC_closed
      have nx := loopLt (w0 := W) (cs0 := cs0) (R := fun e w' => Below W.heap.size W w' ∧ e = .returned (.bool (lightL D))) (c := c) (off := off) hν (by omega) hM (fun w' hB => ⟨hB, rfl⟩) D.length 0 (by omega)
      rw [List.take_zero, show sumL 0 [] = 0 from rfl] at nx
      refine Goes.reach KLt (k := 2) (n := 60) (o := [(1000, .b true)]) (ren := [(0, 0)]) (eqs := [0]) (F := hdLt off D.length c 0 0) (d := 6) (l := [lkE (rowsAt eC off D)]) ?_ (by kernel_rfl) (fun i b h => by rw [hν i b h]; rfl) nx
      rw [lt0]
      simp only [Owed, hcl, and_self, and_true, true_and]
/-- What is known of right entries. -/
theorem ents_fine {W : World} {D : List EntT} (hm : MX W) (h : ∀ x ∈ D, EntIs W x) (hl : lightL D = true) : DIn D ∧ ∃ ys, PX D ys W ∧ ∀ x ∈ D, ∀ y ∈ ys x, 0 ≤ y ∧ y < 256 := by
  obtain ⟨h1, h2⟩ := light_fine h hl
  refine ⟨⟨fun x hx => by have := (h2 x hx).1; omega, fun x hx => (h x hx).v, fun x hx => (h x hx).nil, by omega⟩, ?_⟩
  classical
  refine ⟨fun x => if hx : x ∈ D then Classical.choose (h x hx).ys else [], ⟨hm, fun x hx => ?_⟩, fun x hx => ?_⟩
  · simp only [dif_pos hx]
    exact (Classical.choose_spec (h x hx).ys).1
  · simp only [dif_pos hx]
    exact (Classical.choose_spec (h x hx).ys).2
theorem plays_in {W : World} {a : Option Addr} {l c : Nat} {D : List EntT} {ys : EntT → List Int} (h : EntsIn W a l c D) (hX : PX D ys W) (hD : DIn D) : Calls Tryz.prog 6 #[.slice a l c] W (RPl D ys W) := by
  rcases h with ⟨rfl, rfl⟩ | ⟨b, off, cs, e, fz, rfl, rfl, hlc, hh, hoff, hc⟩
  · exact plays_none hX.1 ys a c
  · exact plays_calls hX hD hlc hh hoff hc
end paths
end Go.Proofs.YtiggmgcnjmalfaaGreatDoor
