/- Any text as a word is the document's, and is told back; a word that is none is refused: the tied card of the law TaleWords. Conditions: none beyond the given statement's own (its listed package variables start as the program's text lays them). The law's calls are followed by a symbolic executor that is proved sound (YtagegnclcengjaaDoorRxA .. YtagegnclcengjaaDoorRyM) and run by the kernel. By an AI agent. -/
import Derived.Test.YtagegnclcengjaaDoorCards
import Derived.Test.YtagegnclcengjaaDoorTie
import Derived.Test.YtagegnclcengjaaDoorTaleD
import Derived.Test.YtagegnclcengjaaDoorTaleWordsLv1
import Derived.Lay
import Derived.SevenTiedAt
import Derived.Stop.Joined
namespace Go.Proofs.YtagegnclcengjaaDoor.taleWords
open Go Go.Rx Go.ChangeShapes Go.WideShapes Go.ChangeAt Go.RowKit words
set_option linter.unusedVariables false
set_option linter.unusedSimpArgs false
set_option maxRecDepth 100000
theorem told_of_laid {W : World} (h : laidMetH Tryd.prog Rows.taleWordsRow.laid W) : ∀ r ∈ ([] : List (Nat × List SV)), Rx.Told W r := fun r hr => by cases hr

/-! ### the plain law: words -/
theorem plain_esc {c : UInt8} (h : plainN c.toNat = true) : c ≠ 92 := by rintro rfl; revert h; decide
theorem hv_tab : (List.range 16).all (fun n => decide (hv (hexD n).toNat = n)) = true := by kernel_rfl
theorem hv_hex {n : Nat} (h : n < 16) : hv (hexD n).toNat = n := of_decide_eq_true (List.all_eq_true.1 hv_tab n (List.mem_range.2 h))
theorem dec2_hex (c : UInt8) : dec2 (hexD (c.toNat / 16)) (hexD (c.toNat % 16)) = c := by
  have h := UInt8.toNat_lt c
  apply UInt8.toNat_inj.1
  rw [dec2_nat, hv_hex (by omega), hv_hex (by omega)]; omega
theorem un_path : ∀ l : List UInt8, unL (pathL l) = l
  | [] => rfl
  | c :: l => by
    have e : pathL (c :: l) = escL c ++ pathL l := by simp [pathL]
    rw [e]
    unfold escL
    split
    · rename_i h
      rw [List.singleton_append, unL_cons, if_neg (plain_esc h), un_path l]
    · rw [List.cons_append, List.cons_append, List.cons_append, List.nil_append, unL_cons, if_pos rfl]
      show dec2 _ _ :: unL (pathL l) = c :: l
      rw [dec2_hex, un_path l]
/-- Is it told back? -/
def unB (l : List UInt8) : Bool := decide (l ≠ [] ∧ pathL (unL l) = l)
def unS (l : List UInt8) : ByteArray := if unB l = true then mkS (unL l) else ⟨#[]⟩
theorem resU_eq (l : List UInt8) : resU l (unL l) = .tuple #[.string (unS l), .bool (unB l)] := by
  unfold resU unS unB; split <;> simp_all
def unPS2 : PS := fun args => match args with | [.string p] => some (.tuple #[.string (unS p.data.toList), .bool (unB p.data.toList)], p.size ≤ 1000000000) | _ => none
theorem un_ok2 : PureOK Tryd.prog (fun _ => True) (8, unPS2) := by
  refine ⟨unpath_ok.1, fun args v p h hp w hX => ?_⟩
  dsimp only [unPS2] at h
  split at h
  · rename_i q
    cases h
    exact unpath_ok.2 [.string q] _ (q.size ≤ 1000000000) (by dsimp only [unPS]; rw [resU_eq]) hp w trivial
  · cases h
/-- What is used of the calls. -/
def sl : List (FuncId × PS) := [(7, pathPS), (9, pathPS), (8, unPS2), (6, fun args => match args with | [] => some (.bool true, True) | _ => none)]
noncomputable def E1 : Env := EP sl []
/-- A world in which what came in lies as it lay. -/
def X (W w : World) : Prop := (∀ r ∈ ([] : List (Nat × List SV)), Rx.Told w r) ∧ ∀ k, k < W.heap.size → w.heap[k]? = W.heap[k]?
def noSM : SM := { top := { fn := 0, tm := tmOf 0 0 [], todo := [], defers := [], ret := false, kind := .normal, ro := none }, callers := [], mem := memOf 0 0 0 [] }
noncomputable def ent (args : List SV) : SM := (enterS E1 3 args (laidMem 12 [])).getD noSM
def f (l : List Nat) (b : Bool) : List (Nat × Ans) := l.map fun n => (n, .b b)
theorem q0 (x0 : ByteArray) (x1 : ByteArray) : endsV E1 3 6000 (ent [.v (.string x0), .v (.string x1)]) [(0, .b true)] (.bool true) = [
  Value.bool true = Value.bool true,
  True,
  decide (IntKind.i64.wrap ((↑x0.size : Int) + (↑x1.size : Int)) > (500 : Int)) = true] := by kernel_rfl
theorem q1 (x0 : ByteArray) (x1 : ByteArray) : endsV E1 3 6000 (ent [.v (.string x0), .v (.string x1)]) ([(0, .b false)] ++ f (List.range' 4 10) false ++ [(15, .b true), (16, .b true), (18, .b true)]) (.bool true) = [
  Value.bool true = Value.bool true,
  ((unS x1.data.toList).toList == { data := { toList := [] : Array UInt8 } : ByteArray }.toList) = true,
  True,
  ((unS x1.data.toList).toList == { data := { toList := [] : Array UInt8 } : ByteArray }.toList) = true,
  (!unB x1.data.toList) = true,
  x1.size.le (1000000000 : Nat),
  (!(unS (mkS (pathL x0.data.toList)).data.toList).toList == x0.toList) = false,
  (!unB (mkS (pathL x0.data.toList)).data.toList ==
   !x0.toList == { data := { toList := [] : Array UInt8 } : ByteArray }.toList) =
   false,
  (!unB (mkS (pathL x0.data.toList)).data.toList ==
   !x0.toList == { data := { toList := [] : Array UInt8 } : ByteArray }.toList) =
   false,
  (!unB (mkS (pathL x0.data.toList)).data.toList ==
   !x0.toList == { data := { toList := [] : Array UInt8 } : ByteArray }.toList) =
   false,
  (!unB (mkS (pathL x0.data.toList)).data.toList ==
   !x0.toList == { data := { toList := [] : Array UInt8 } : ByteArray }.toList) =
   false,
  (!(mkS (pathL x0.data.toList)).toList == (mkS (pathL x0.data.toList)).toList) = false,
  (!(mkS (pathL x0.data.toList)).toList == (mkS (pathL x0.data.toList)).toList) = false,
  (!(mkS (pathL x0.data.toList)).toList == (mkS (pathL x0.data.toList)).toList) = false,
  (!(mkS (pathL x0.data.toList)).toList == (mkS (pathL x0.data.toList)).toList) = false,
  (!(mkS (pathL x0.data.toList)).toList == (mkS (pathL x0.data.toList)).toList) = false,
  x0.size.le (1000000000 : Nat),
  (mkS (pathL x0.data.toList)).size.le (1000000000 : Nat),
  x0.size.le (1000000000 : Nat),
  decide (IntKind.i64.wrap ((↑x0.size : Int) + (↑x1.size : Int)) > (500 : Int)) = false] := by kernel_rfl
theorem q2 (x0 : ByteArray) (x1 : ByteArray) : endsV E1 3 6000 (ent [.v (.string x0), .v (.string x1)]) ([(0, .b false)] ++ f (List.range' 4 10) false ++ [(15, .b false)] ++ f [16, 17, 19, 20, 21, 22, 24] true) (.bool true) = [
  Value.bool true = Value.bool true,
  ((mkS (pathL (unS x1.data.toList).data.toList)).toList == x1.toList) = true,
  True,
  ((mkS (pathL (unS x1.data.toList).data.toList)).toList == x1.toList) = true,
  (!(unS x1.data.toList).toList == { data := { toList := [] : Array UInt8 } : ByteArray }.toList) = true,
  (!(unS x1.data.toList).toList == { data := { toList := [] : Array UInt8 } : ByteArray }.toList) = true,
  (!(unS x1.data.toList).toList == { data := { toList := [] : Array UInt8 } : ByteArray }.toList) = true,
  (unS x1.data.toList).size.le (1000000000 : Nat),
  (!(unS x1.data.toList).toList == { data := { toList := [] : Array UInt8 } : ByteArray }.toList) = true,
  (!(unS x1.data.toList).toList == { data := { toList := [] : Array UInt8 } : ByteArray }.toList) = true,
  (!unB x1.data.toList) = false,
  x1.size.le (1000000000 : Nat),
  (!(unS (mkS (pathL x0.data.toList)).data.toList).toList == x0.toList) = false,
  (!unB (mkS (pathL x0.data.toList)).data.toList ==
   !x0.toList == { data := { toList := [] : Array UInt8 } : ByteArray }.toList) =
   false,
  (!unB (mkS (pathL x0.data.toList)).data.toList ==
   !x0.toList == { data := { toList := [] : Array UInt8 } : ByteArray }.toList) =
   false,
  (!unB (mkS (pathL x0.data.toList)).data.toList ==
   !x0.toList == { data := { toList := [] : Array UInt8 } : ByteArray }.toList) =
   false,
  (!unB (mkS (pathL x0.data.toList)).data.toList ==
   !x0.toList == { data := { toList := [] : Array UInt8 } : ByteArray }.toList) =
   false,
  (!(mkS (pathL x0.data.toList)).toList == (mkS (pathL x0.data.toList)).toList) = false,
  (!(mkS (pathL x0.data.toList)).toList == (mkS (pathL x0.data.toList)).toList) = false,
  (!(mkS (pathL x0.data.toList)).toList == (mkS (pathL x0.data.toList)).toList) = false,
  (!(mkS (pathL x0.data.toList)).toList == (mkS (pathL x0.data.toList)).toList) = false,
  (!(mkS (pathL x0.data.toList)).toList == (mkS (pathL x0.data.toList)).toList) = false,
  x0.size.le (1000000000 : Nat),
  (mkS (pathL x0.data.toList)).size.le (1000000000 : Nat),
  x0.size.le (1000000000 : Nat),
  decide (IntKind.i64.wrap ((↑x0.size : Int) + (↑x1.size : Int)) > (500 : Int)) = false] := by kernel_rfl
theorem sl_ok {W : World} : ∀ r ∈ sl, PureOK Tryd.prog (X W) r := by
  intro r hr
  simp only [sl, List.mem_cons, List.not_mem_nil, or_false] at hr
  rcases hr with rfl | rfl | rfl | rfl
  · exact ⟨pathT_ok.1, fun args v p h hp w _ => pathT_ok.2 args v p h hp w trivial⟩
  · exact ⟨path_ok.1, fun args v p h hp w _ => path_ok.2 args v p h hp w trivial⟩
  · exact ⟨un_ok2.1, fun args v p h hp w _ => un_ok2.2 args v p h hp w trivial⟩
  · refine ⟨⟨_, Tryd.func6, by kernel_rfl, by kernel_rfl⟩, fun args v p h hp w hX => ?_⟩
    dsimp only at h
    split at h
    · cases h
      exact (lives_true w hX.1).mono fun e w' ⟨h1, h2⟩ => ⟨h2, h1⟩
    · cases h
theorem facts1 {W : World} (told : ∀ r ∈ ([] : List (Nat × List SV)), Rx.Told W r) : Facts E1 (laidOwn []) W :=
  factsP (X := X W) sl_ok fun ν s w hr hg => ⟨fun r hr' => (told r hr').keep hr, fun k hk => hr.frame k hk (fun h => h)⟩

theorem path_nil {l : List UInt8} (h : pathL l = []) : l = [] := by
  by_cases e : l = []
  · exact e
  · exact absurd h (pathL_ne e)
theorem unB_path (l : List UInt8) : unB (pathL l) = decide (l ≠ []) := by
  unfold unB
  rw [un_path]
  by_cases h : l = []
  · subst h; rfl
  · have := pathL_ne h; simp [h, this]
theorem unS_path (l : List UInt8) : unS (pathL l) = mkS l := by
  unfold unS
  rw [unB_path]
  by_cases h : l = []
  · subst h; rfl
  · rw [if_pos (decide_eq_true h), un_path]
theorem len_path (l : List UInt8) : l.length ≤ (pathL l).length := by
  induction l with
  | nil => simp
  | cons c l ih =>
    have := (escL_len c).1
    simp only [pathL, List.flatMap_cons, List.length_append, List.length_cons] at *
    omega
theorem tl (b : ByteArray) : b.toList = b.data.toList := ByteArray.toList_eq b
theorem neq_nil (x : List UInt8) : (!x == []) = decide (x ≠ []) := by cases x <;> rfl
theorem walk (x0 : ByteArray) (x1 : ByteArray) (W : World) (told : ∀ r ∈ ([] : List (Nat × List SV)), Rx.Told W r) (hs : x0.size ≤ 140737488355328 ∧ x1.size ≤ 140737488355328) : Calls Tryd.prog 3 #[.string x0, .string x1] W fun e w' => e = .returned (.bool true) ∧ Below W.heap.size W w' := by
  refine calls_pieces (E := E1) rfl (d := 12) (args := [.v (.string x0), .v (.string x1)]) (a := [.string x0, .string x1]) rfl (by decide) (by decide) told (S0 := ent [.v (.string x0), .v (.string x1)]) (by kernel_rfl) (by repeat (first | exact VRL.nil | refine VRL.cons (VR.v_iff.2 rfl) ?_)) fun cs0 => ?_
  have hend : ∀ ν' M1 w1 s' w', (laidVal []).Le ν' → Base (laidOwn []) W M1 w1 → HR ν' M1 w1 s' w' → (Ending.returned (.bool true) = .returned (.bool true) ∧ Below W.heap.size W w') := fun ν' M1 w1 s' w' _ hB hr => ⟨rfl, below_of (fun _ h => h) hB hr⟩
  have hw : IntKind.i64.wrap ((x0.size : Int) + (x1.size : Int)) = (x0.size : Int) + (x1.size : Int) := IntWalk.i64_in _ (by omega)
  by_cases h : (x0.size : Int) + (x1.size : Int) > 500
  · refine Goes.endsV (facts1 told) (n := 6000) (o := [(0, .b true)]) (v := .bool true) ?_ hend
    rw [q0]; simp [Owed, hw, h]
  · have hl0 : x0.data.toList.length = x0.size := by simp
    have hl1 : x1.data.toList.length = x1.size := by simp
    have hp0 := pathL_len x0.data.toList
    have hd : decide (IntKind.i64.wrap ((x0.size : Int) + (x1.size : Int)) > 500) = false := decide_eq_false (by rw [hw]; exact h)
    have hm : (mkS (pathL x0.data.toList)).data.toList = pathL x0.data.toList := rfl
    have hm0 : (mkS x0.data.toList).data.toList = x0.data.toList := rfl
    have c1 : x0.size.le 1000000000 := show x0.size ≤ 1000000000 by omega
    have c2 : x1.size.le 1000000000 := show x1.size ≤ 1000000000 by omega
    have c3 : (mkS (pathL x0.data.toList)).size.le 1000000000 := show (mkS (pathL x0.data.toList)).size ≤ 1000000000 by rw [mkS_size]; omega
    have hz : (({ data := { toList := [] : Array UInt8 } : ByteArray }).data.toList) = [] := rfl
    cases hb : unB x1.data.toList
    · refine Goes.endsV (facts1 told) (n := 6000) (o := ([(0, .b false)] ++ f (List.range' 4 10) false ++ [(15, .b true), (16, .b true), (18, .b true)])) (v := .bool true) ?_ hend
      rw [q1]
      have hu : unS x1.data.toList = ⟨#[]⟩ := by unfold unS; rw [hb]; rfl
      simp only [Owed, hd, hb, hu, tl, hm, hm0, hz, unB_path, unS_path, neq_nil, beq_self_eq_true, Bool.not_true, Bool.not_false, c1, c2, c3, true_and, and_true]
    · refine Goes.endsV (facts1 told) (n := 6000) (o := ([(0, .b false)] ++ f (List.range' 4 10) false ++ [(15, .b false)] ++ f [16, 17, 19, 20, 21, 22, 24] true)) (v := .bool true) ?_ hend
      rw [q2]
      have hu : unS x1.data.toList = mkS (unL x1.data.toList) := by unfold unS; rw [hb]; rfl
      have hb' := of_decide_eq_true (show decide (x1.data.toList ≠ [] ∧ pathL (unL x1.data.toList) = x1.data.toList) = true from hb)
      obtain ⟨h1, h2⟩ := hb'
      have h3 : unL x1.data.toList ≠ [] := fun e => h1 (by rw [← h2, e]; rfl)
      have hm1 : (mkS (unL x1.data.toList)).data.toList = unL x1.data.toList := rfl
      have hm2 : (mkS x1.data.toList).data.toList = x1.data.toList := rfl
      have h4 := len_path (unL x1.data.toList)
      rw [h2] at h4
      have c4 : (mkS (unL x1.data.toList)).size.le 1000000000 := show (mkS (unL x1.data.toList)).size ≤ 1000000000 by rw [mkS_size]; omega
      have h5 : decide (unL x1.data.toList ≠ []) = true := decide_eq_true h3
      simp only [Owed, hd, hb, hu, tl, hm, hm0, hm1, hm2, hz, h2, unB_path, unS_path, neq_nil, beq_self_eq_true, Bool.not_true, Bool.not_false, c1, c2, c3, c4, h5, true_and, and_true]
/-- How long the texts are. -/
theorem sizes_of {H : Type} {enc : TypeId × Value → H} {W : World} {base : Nat} {spare : Nat → Bool} {held : Bool} {x0 x1 : ByteArray} {d0 d1 : DataW H} {p0 p1 : List MemPlace} {gs : List (DataW H)} {ts : List TypeId}
    (h0 : DataW.Trod enc Tryd.prog W base spare held 9 (.string x0) d0 p0) (h1 : DataW.Trod enc Tryd.prog W base spare held 9 (.string x1) d1 p1)
    (hz : (DataW.weightsEach Tryd.prog ([9, 9] ++ ts) ([d0, d1] ++ gs)).all (· ≤ reachBytes) = true) : x0.size ≤ 140737488355328 ∧ x1.size ≤ 140737488355328 := by
  obtain ⟨_, h0⟩ := h0
  obtain ⟨_, h1⟩ := h1
  obtain ⟨s0, e0, f0, _⟩ := DataW.trod_string Tryd.underlying9 h0
  obtain ⟨s1, e1, f1, _⟩ := DataW.trod_string Tryd.underlying9 h1
  cases e0; cases e1; cases f0; cases f1
  simp only [List.cons_append, List.nil_append, DataW.weightsEach, DataW.weights, List.all_cons, Bool.and_eq_true, decide_eq_true_eq] at hz
  have a := hz.1
  have b := hz.2.1
  have l0 : x0.data.toList.length = x0.size := by simp
  have l1 : x1.data.toList.length = x1.size := by simp
  unfold reachBytes at a b
  omega
/-- A world that meets the condition. -/
noncomputable def start (os : Os) : World :=
  World.laidAll Tryd.prog os Rows.taleWordsRow.laid
theorem start_met (os : Os) (args : Array Value) : laidMetH Tryd.prog Rows.taleWordsRow.laid ((start os).forCall (fun _ _ => 0) ⟨#[], args, []⟩).memory :=
  laidMetH_of_parts3 (fuel := 8) (laidMet_of_run' 8 (by kernel_rfl) (by kernel_rfl)) (by kernel_rfl) (by kernel_rfl)
theorem start_shaped (os : Os) (args : Array Value) : ((start os).forCall (fun _ _ => 0) ⟨#[], args, []⟩).Shaped Tryd.prog := World.shaped_of_RefB (by kernel_rfl) (by kernel_rfl)
theorem start_ok (os : Os) : Input.okWideB Tryd.prog ((start os).forCall (fun _ _ => 0) ⟨#[], #[.string ⟨#[]⟩, .string ⟨#[]⟩], []⟩) 3 ⟨#[], #[.string ⟨#[]⟩, .string ⟨#[]⟩], []⟩ = true := by kernel_rfl
set_option maxRecDepth 100000 in
theorem lifted (os : Os) (started : os.Started) (H : Type) (enc : TypeId × Value → H) :
    ReturnsInHanded {} Tryd.checked os 3 .any (fun w args => (Rows.taleWordsSpec.pre enc Tryd.prog Tryd.f3 [] false w args ∧ laidMetH Tryd.prog Rows.taleWordsRow.laid w) ∧ sizedMet enc Tryd.prog Tryd.f3 (OpenSpec.ofChange Rows.taleWordsSpec) false w args)
      (Rows.taleWordsSpec.post enc Tryd.prog Tryd.f3 false true false false) := by
  refine returnsInHanded_of_change_and (C := Tryd.checked) (X := fun w _ => laidMetH Tryd.prog Rows.taleWordsRow.laid w) (fun _ _ _ hh h => h.of_heap hh) own started (by kernel_rfl) Tryd.func3
    (ChangeSpec.witness_shaped (enc := enc) (C := Tryd.checked) (os := os) (X := fun w _ => laidMetH Tryd.prog Rows.taleWordsRow.laid w) false (start os) #[.string ⟨#[]⟩, .string ⟨#[]⟩] 8 (by kernel_rfl) (start_shaped os _) (start_ok os) (by kernel_rfl) (by kernel_rfl) (start_met os _)) ?_
  intro W base args ds gs before hval0 hW _ hZ hL _
  have hval : ∀ (j : Nat) t v, Tryd.f3.params[j]? = some t → args[j]? = some v → Value.okWide Tryd.prog W .any base t v := hval0
  have hW' := hW
  obtain ⟨p, q, hA0, hV, rfl, hfz, hnd⟩ := hW
  have hA : DataW.TrodAll enc Tryd.prog W 0 (fun _ => true) true Tryd.f3.params.toList args.toList ds p := hA0
  rw [Tryd.params3] at hA hval
  have hAll := hA
  obtain ⟨v0, vs0, d0, ds0, p0, q0, hargs, rfl, rfl, h0, r0⟩ := trodAll_cons hA
  obtain ⟨v1, vs1, d1, ds1, p1, q1, rfl, rfl, rfl, h1, r1⟩ := trodAll_cons r0
  obtain ⟨rfl, rfl, rfl⟩ := trodAll_nil r1
  obtain rfl : args = #[v0, v1] := by cases args; simp_all
  obtain ⟨rfl, rfl⟩ := trodVars_none hV
  have lt0 : ∀ x ∈ p0, x.block < W.heap.size := by obtain ⟨m, hm⟩ := h0; exact DataW.trod_lt m _ _ _ hm
  have lt1 : ∀ x ∈ p1, x.block < W.heap.size := by obtain ⟨m, hm⟩ := h1; exact DataW.trod_lt m _ _ _ hm
  obtain ⟨x0, rfl⟩ := okWide_string Tryd.underlying9 (hval 0 9 v0 rfl rfl)
  obtain ⟨x1, rfl⟩ := okWide_string Tryd.underlying9 (hval 1 9 v1 rfl rfl)
  clear hA0 hval0
  refine (walk x0 x1 W (told_of_laid hL) (sizes_of h0 h1 (by rw [Tryd.params3] at hZ; exact hZ))).mono fun e W' ⟨he, bel⟩ => ?_
  subst he
  refine ⟨_, rfl, _, _, _, [], _, [], hW', trodAll_mk1 (shut_bool Tryd.underlying4 _), trodAll_below laidOut bel hAll (by kernel_rfl) ?_, rfl, bel.frame _, fun h => by cases h⟩
  intro x hx
  simp only [List.mem_append, List.not_mem_nil, or_false] at hx
  rcases hx with hx | hx
  · exact lt0 x hx
  · exact lt1 x hx
set_option maxHeartbeats 4000000 in
theorem closed : joinedFacts Tryd.prog 3 Tryd.f3 Rows.taleWordsSpec Rows.taleWordsRow = true := by
  unfold joinedFacts
  repeat' (with_reducible refine and_intro ?_ ?_)
  all_goals as_aux_lemma => kernel_rfl
theorem holds : Rows.TaleWordsSaid :=
  OpenClaim.holds_of_wide 3 Tryd.f3 rfl rfl rfl rfl rfl rfl rfl ⟨rfl, rfl, rfl, rfl, rfl⟩ rfl rfl rfl rfl rfl (by kernel_rfl) Tryd.func3 closed
    (of_decide_eq_true (by kernel_rfl)) (by unfold Func.isWrapper; first | (rw [if_pos (by decide +kernel)]; kernel_rfl) | (rw [if_neg (by decide +kernel)]; exact ⟨rfl, rfl⟩))
    (fun os started H enc _ => lifted os started H enc)
theorem wfText : Rows.taleWordsRow.wfByText (OpenSpec.ofChange Rows.taleWordsSpec) = true := by kernel_rfl
theorem mainIs : Tryd.prog.mainIs = some (true, "17f38ba7ee82e99a3d6a474125661e19c57f5905f5043ab5864db9fb5b835a25".toList) := by kernel_rfl
theorem looksIs : true = Tryd.prog.looks [] := by kernel_rfl
theorem goesNot : false = Rows.taleWordsRow.goesBy Tryd.prog := by kernel_rfl
/-- The statement: the tied card. -/
theorem card_holds : Rows.TaleWordsCardSaid :=
  Claim7.holds_tied_plain_at .later [] [.data, .data, .data] true (true, "17f38ba7ee82e99a3d6a474125661e19c57f5905f5043ab5864db9fb5b835a25") true holds (fun _ h => by cases h) wfText (fun _ h => by cases h) taleWords_row_tie rfl ⟨rfl, rfl⟩ mainIs rfl
    (fun f fn hf hfn => by
      obtain rfl : f = 3 := Option.some.inj ((show Tryd.prog.funcNamed "tender/tenderlaw44.TaleWords" = some 3 by kernel_rfl).symm.trans hf) |>.symm
      obtain rfl : fn = Tryd.f3 := (Option.some.inj (Tryd.func3.symm.trans hfn)).symm
      exact ⟨looksIs, fun j t ht => by
        rw [Tryd.params3] at ht
        have hm : t ∈ [9, 9] := by simpa using Array.mem_of_getElem? ht
        have hall : ([9, 9].all fun u => !Tryd.prog.wantsStandIn u) = true := by kernel_rfl
        exact (show Tryd.prog.wantsStandIn t = false by simpa using List.all_eq_true.1 hall t hm)⟩)
    goesNot
#print axioms card_holds
end Go.Proofs.YtagegnclcengjaaDoor.taleWords
