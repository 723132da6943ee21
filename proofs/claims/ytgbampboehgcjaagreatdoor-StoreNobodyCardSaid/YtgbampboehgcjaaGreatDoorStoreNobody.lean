/- In a file system that is none nothing is begun, written, or installed: the tied card of the law StoreNobody. Conditions: none beyond the given statement's own (its listed package variables start as the program's text lays them). The law's calls are followed by a symbolic executor that is proved sound (YtgbampboehgcjaaGreatDoorRxA .. YtgbampboehgcjaaGreatDoorRyR) and run by the kernel. By an AI agent. -/
import Derived.Test.YtgbampboehgcjaaGreatDoorCards
import Derived.Test.YtgbampboehgcjaaGreatDoorTie
import Derived.Test.YtgbampboehgcjaaGreatDoorStorePq2
import Derived.Test.YtgbampboehgcjaaGreatDoorStorePq3
import Derived.Test.YtgbampboehgcjaaGreatDoorStorePq4
import Derived.Test.YtgbampboehgcjaaGreatDoorStorePq5
import Derived.Lay
import Derived.SevenTiedAt
import Derived.Stop.Joined
namespace Go.Proofs.YtgbampboehgcjaaGreatDoor.storeNobody
open Go Go.Rx Go.ChangeShapes Go.WideShapes Go.ChangeAt Go.RowKit paths
set_option linter.unusedVariables false
set_option linter.unusedSimpArgs false
set_option maxRecDepth 100000
theorem told_of_laid {W : World} (h : laidMetH Tryz.prog Rows.storeNobodyRow.laid W) : ∀ r ∈ ([(0, [.iface 139 (.v (.agg #[.pointer (some ⟨5, 32, none⟩)]))])] : List (Nat × List SV)), Rx.Told W r := by
  intro r hr
  simp only [List.mem_cons, List.not_mem_nil, or_false] at hr
  rcases hr with rfl
  · exact told_handle (laidMetH_handles h) (v := "errors.errorType") (d := Rows.laid_errors_errorType) (name := [101, 114, 114, 111, 114]) (ty := 32) (List.mem_filter.2 ⟨by simp [Rows.storeNobodyRow], rfl⟩) rfl rfl (by kernel_rfl) (by kernel_rfl) (by kernel_rfl) (by kernel_rfl)

theorem okWide_intB {P : Program} {w : World} {r : Reach} {base : Nat} {t : TypeId} {v : Value} {k : IntKind} (ht : P.underlying t = some (.int k)) (h : Value.okWide P w r base t v) : ∃ n, v = .int k n ∧ k.has n := by
  simp only [Value.okWide, ht, Cell.okWide] at h
  cases v <;> simp_all [Cell.ok]
section
variable {H : Type} {enc : TypeId × Value → H} {W : World} {base : Nat} {spare : Nat → Bool} {held : Bool}
theorem bytes_of {k s b : Value} {a : Option Addr} {l c : Nat} {d : DataW H} {p : List MemPlace} (h : DataW.Trod enc Tryz.prog W base spare held 27 (.agg #[k, .slice a l c, b, s]) d p) : ElemsIn byteV W a l c := by
  obtain ⟨n, hn⟩ := h
  obtain ⟨n1, y1, h1⟩ := trod_sub (i := 0) (o := 0) (ft := 25) (k := 2) hn (by kernel_rfl) (by kernel_rfl) (by kernel_rfl) (by kernel_rfl) (by kernel_rfl)
  obtain ⟨n2, y2, h2⟩ := trod_sub (i := 1) (o := 1) (ft := 23) (k := 1) h1 (by kernel_rfl) (by kernel_rfl) (by kernel_rfl) (by kernel_rfl) (by kernel_rfl)
  exact bytes_rows Tryz.underlying23 Tryz.underlying5 (by kernel_rfl) h2
end
/-- The table of the powers of ten lies as the library's text has it. -/
def PowTab (w : World) : Prop := Lib.TabIs Tryz.prog w "internal/strconv.uint64pow10" .u64 Lib.pow10Tab
theorem tab_keep {w0 w : World} (h : PowTab w0) (hk : ∀ k, k < w0.heap.size → w.heap[k]? = w0.heap[k]?) : PowTab w := by
  unfold PowTab Lib.TabIs World.var? at *
  cases hg : Tryz.prog.globalNamed "internal/strconv.uint64pow10" with
  | none => simp [hg] at h
  | some g =>
    simp only [hg, Option.bind_some] at h ⊢
    have hlt : g < w0.heap.size := by
      rcases Nat.lt_or_ge g w0.heap.size with h' | h'
      · exact h'
      · rw [Array.getElem?_eq_none h'] at h; simp at h
    rw [hk g hlt]
    exact h
theorem below_grow (w : World) (k : Nat) (os : Array Obj) : Below w.heap.size w (Go.Sort.grow (w.drewN k) os) :=
  ⟨rfl, rfl, rfl, by rw [Go.Sort.size_grow]; exact Nat.le_add_right _ _, fun j hj => Go.Sort.heap_grow_old (w.drewN k) os hj⟩
theorem sl_ok {W : World} {a : Option Addr} {l c : Nat} {b : Bool} (hp : PowTab W) (hm : MX W) (h0 : ElemsIn byteV W a l c) : ∀ r ∈ sl a l c b, PureOK Tryz.prog (X W) r := by
  intro r hr
  simp only [sl, List.mem_cons, List.not_mem_nil, or_false] at hr
  rcases hr with rfl | rfl | rfl | rfl
  · refine ⟨⟨_, Tryz.func61, by kernel_rfl, by kernel_rfl⟩, fun args v p h hq w hX => ?_⟩
    dsimp only [fmtPS] at h
    split at h
    · rename_i n b
      cases h
      obtain ⟨⟨h1, h2⟩, rfl⟩ := hq
      obtain ⟨u, rfl⟩ := Int.eq_ofNat_of_zero_le h1
      refine (fmtU.inner_ok u (by omega) w (tab_keep hp hX.2)).mono fun e w' ⟨he, k, os, hw⟩ => ⟨?_, he⟩
      subst hw
      exact below_grow w k os
    · cases h
  · refine ⟨user_ok.1, fun args v p h hq w hX => ?_⟩
    dsimp only [userB'] at h
    split at h
    · rename_i p
      cases h
      obtain ⟨h1, h2⟩ := hq
      have := user_ok.2 [.string p] _ _ rfl h1 w (hm.keep hX.2)
      rw [h2] at this
      exact this
    · cases h
  · exact ⟨(same_ok h0).1, fun args v p h hq w hX => (same_ok h0).2 args v p h hq w hX.2⟩
  · refine ⟨⟨_, Tryz.func4, by kernel_rfl, by kernel_rfl⟩, fun args v p h hp w hX => ?_⟩
    dsimp only at h
    split at h
    · cases h
      exact (lives_true w hX.1).mono fun e w' ⟨h1, h2⟩ => ⟨h2, h1⟩
    · cases h
theorem facts1 {W : World} {a : Option Addr} {l c : Nat} {b : Bool} (told : ∀ r ∈ ([(0, [.iface 139 (.v (.agg #[.pointer (some ⟨5, 32, none⟩)]))])] : List (Nat × List SV)), Rx.Told W r) (hp : PowTab W) (hm : MX W) (h0 : ElemsIn byteV W a l c) : Facts (E1 a l c b) (laidOwn [(0, [.iface 139 (.v (.agg #[.pointer (some ⟨5, 32, none⟩)]))])]) W :=
  factsP (X := X W) (sl_ok hp hm h0) fun ν s w hr hg => ⟨fun r hr' => (told r hr').keep hr, fun k hk => hr.frame k hk (fun h => h)⟩
theorem ba_beq (a : ByteArray) : (a == a) = true := by
  show (a.data == a.data) = true
  exact beq_self_eq_true a.data
theorem digs_size (x : Int) (h : 0 ≤ x ∧ x < 18446744073709551616) : (digs x).size ≤ 20 := by
  have e : (digs x).size = Lib.nDigits x.toNat := by
    show (Lib.decDigits x.toNat).toArray.size = _
    rw [List.size_toArray, Lib.decDigits_length]
  rw [e]
  by_cases h0 : x.toNat = 0
  · rw [h0]; unfold Lib.nDigits; simp
  · have := Lib.numDigits_eq x.toNat (by omega) (by omega); split at this <;> omega
theorem walk (x0 : ByteArray) (x1 : Int) (x2_0 : Int) (a2_1 : Option Addr) (l2_1 : Nat) (c2_1 : Nat) (x2_2 : Bool) (x2_3 : Int) (W : World) (told : ∀ r ∈ ([(0, [.iface 139 (.v (.agg #[.pointer (some ⟨5, 32, none⟩)]))])] : List (Nat × List SV)), Rx.Told W r) (hp : PowTab W) (hm : MX W) (h0 : ElemsIn byteV W a2_1 l2_1 c2_1) (hx : IntKind.u64.has x1) : Calls Tryz.prog 3 #[.string x0, .int .u64 x1, .agg #[.int .i64 x2_0, .slice a2_1 l2_1 c2_1, .bool x2_2, .int .u64 x2_3]] W fun e w' => e = .returned (.bool true) ∧ Below W.heap.size W w' := by
  have hcall : ∀ b, (∀ cs0, Goes (E1 a2_1 l2_1 c2_1 b) (laidOwn [(0, [.iface 139 (.v (.agg #[.pointer (some ⟨5, 32, none⟩)]))])]) W cs0 3 (fun e w' => e = .returned (.bool true) ∧ Below W.heap.size W w') (laidVal [(0, [.iface 139 (.v (.agg #[.pointer (some ⟨5, 32, none⟩)]))])]) (ent a2_1 l2_1 c2_1 b [.v (.string x0), .v (.int .u64 x1), .v (.agg #[.int .i64 x2_0, .slice a2_1 l2_1 c2_1, .bool x2_2, .int .u64 x2_3])])) → Calls Tryz.prog 3 #[.string x0, .int .u64 x1, .agg #[.int .i64 x2_0, .slice a2_1 l2_1 c2_1, .bool x2_2, .int .u64 x2_3]] W fun e w' => e = .returned (.bool true) ∧ Below W.heap.size W w' := fun b h =>
    calls_pieces (E := E1 a2_1 l2_1 c2_1 b) rfl (d := 12) (l := [(0, [.iface 139 (.v (.agg #[.pointer (some ⟨5, 32, none⟩)]))])]) (args := [.v (.string x0), .v (.int .u64 x1), .v (.agg #[.int .i64 x2_0, .slice a2_1 l2_1 c2_1, .bool x2_2, .int .u64 x2_3])]) (a := [.string x0, .int .u64 x1, .agg #[.int .i64 x2_0, .slice a2_1 l2_1 c2_1, .bool x2_2, .int .u64 x2_3]]) rfl (by decide) (by decide) told (S0 := ent a2_1 l2_1 c2_1 b [.v (.string x0), .v (.int .u64 x1), .v (.agg #[.int .i64 x2_0, .slice a2_1 l2_1 c2_1, .bool x2_2, .int .u64 x2_3])]) (by kernel_rfl) (by repeat (first | exact VRL.nil | refine VRL.cons (VR.v_iff.2 rfl) ?_)) h
  have hend : ∀ ν' M1 w1 s' w', (laidVal [(0, [.iface 139 (.v (.agg #[.pointer (some ⟨5, 32, none⟩)]))])]).Le ν' → Base (laidOwn [(0, [.iface 139 (.v (.agg #[.pointer (some ⟨5, 32, none⟩)]))])]) W M1 w1 → HR ν' M1 w1 s' w' → (Ending.returned (.bool true) = .returned (.bool true) ∧ Below W.heap.size W w') := fun ν' M1 w1 s' w' _ hB hr => ⟨rfl, below_of (fun _ h => h) hB hr⟩
  have K : ∀ b, Facts (E1 a2_1 l2_1 c2_1 b) (laidOwn [(0, [.iface 139 (.v (.agg #[.pointer (some ⟨5, 32, none⟩)]))])]) W := fun b => facts1 told hp hm h0
  have hx' : 0 ≤ x1 ∧ x1 < 18446744073709551616 := by
    obtain ⟨h1, h2⟩ := hx
    have e1 : IntKind.u64.min = 0 := rfl
    have e2 : IntKind.u64.max = 18446744073709551615 := rfl
    omega
  have hz := digs_size x1 hx'
  by_cases h : (x0.size : Int) > 100
  · have hd : decide ((x0.size : Int) > 100) = true := decide_eq_true h
    refine hcall true fun cs0 => Goes.endsV (K true) (n := 9000) (o := ff [0, 1, 2, 3, 4, 5, 6, 7] true) (v := .bool true) ?_ hend
    rw [q0]
    simp only [Owed, hd, and_true]
  have hd : decide ((x0.size : Int) > 100) = false := decide_eq_false h
  by_cases h2 : (l2_1 : Int) > 5000
  · have hl : decide ((l2_1 : Int) > 5000) = true := decide_eq_true h2
    refine hcall true fun cs0 => Goes.endsV (K true) (n := 9000) (o := ff [0, 1, 2, 3, 4, 5] false ++ ff [6] true) (v := .bool true) ?_ hend
    rw [q1]
    simp only [Owed, hd, hl, and_true]
  have hl : decide ((l2_1 : Int) > 5000) = false := decide_eq_false h2
  have c1 : (4 + (digs x1).size).le 9223372036854775807 := show 4 + (digs x1).size ≤ _ by omega
  have c2 : (0 ≤ x1 ∧ x1 < (18446744073709551616 : Int)) ∧ (10 : Int) = 10 := ⟨hx', rfl⟩
  cases hu : userB x0 <;> cases x2_2
  · have c3 : x0.size ≤ 1000000000 ∧ userB x0 = false := ⟨by omega, hu⟩
    refine hcall false fun cs0 => Goes.endsV (K false) (n := 9000) (o := ff [0, 1, 2, 3, 4, 5, 6] false) (v := .bool true) ?_ hend
    rw [q5]
    simp only [Owed, hd, hl, beq_self_eq_true, decide_true, and_self, and_true, true_and]
    repeat' apply And.intro
    all_goals first | rfl | exact c1 | exact c2 | exact c2.1 | exact c2.2 | exact c3 | exact c3.1 | exact c3.2 | exact hx'.1 | exact hx'.2 | exact ba_beq _ | exact decide_eq_true rfl | (simp; done)
  · have c3 : x0.size ≤ 1000000000 ∧ userB x0 = false := ⟨by omega, hu⟩
    refine hcall false fun cs0 => Goes.endsV (K false) (n := 9000) (o := ff [0, 1, 2, 3, 4, 5, 6] false) (v := .bool true) ?_ hend
    rw [q3]
    simp only [Owed, hd, hl, beq_self_eq_true, decide_true, and_self, and_true, true_and]
    repeat' apply And.intro
    all_goals first | rfl | exact c1 | exact c2 | exact c2.1 | exact c2.2 | exact c3 | exact c3.1 | exact c3.2 | exact hx'.1 | exact hx'.2 | exact ba_beq _ | exact decide_eq_true rfl | (simp; done)
  · have c3 : x0.size ≤ 1000000000 ∧ userB x0 = true := ⟨by omega, hu⟩
    refine hcall true fun cs0 => Goes.endsV (K true) (n := 9000) (o := ff [0, 1, 2, 3, 4, 5, 6] false) (v := .bool true) ?_ hend
    rw [q4]
    simp only [Owed, hd, hl, beq_self_eq_true, decide_true, and_self, and_true, true_and]
    repeat' apply And.intro
    all_goals first | rfl | exact c1 | exact c2 | exact c2.1 | exact c2.2 | exact c3 | exact c3.1 | exact c3.2 | exact hx'.1 | exact hx'.2 | exact ba_beq _ | exact decide_eq_true rfl | (simp; done)
  · have c3 : x0.size ≤ 1000000000 ∧ userB x0 = true := ⟨by omega, hu⟩
    refine hcall true fun cs0 => Goes.endsV (K true) (n := 9000) (o := ff [0, 1, 2, 3, 4, 5, 6] false) (v := .bool true) ?_ hend
    rw [q2]
    simp only [Owed, hd, hl, beq_self_eq_true, decide_true, and_self, and_true, true_and]
    repeat' apply And.intro
    all_goals first | rfl | exact c1 | exact c2 | exact c2.1 | exact c2.2 | exact c3 | exact c3.1 | exact c3.2 | exact hx'.1 | exact hx'.2 | exact ba_beq _ | exact decide_eq_true rfl | (simp; done)
/-- A world that meets the condition. -/
noncomputable def start (os : Os) : World :=
  let w0 := World.laidAll Tryz.prog os (Rows.storeNobodyRow.laid.filter fun x => x.2.handleName?.isNone)
  { w0 with heap := w0.heap.modify 0 fun
      | .cells _ t frozen => .cells #[.iface 139 (.agg #[.pointer (some ⟨5, 32, none⟩)])] t frozen
      | o => o }
theorem start_met (os : Os) (args : Array Value) : laidMetH Tryz.prog Rows.storeNobodyRow.laid ((start os).forCall (fun _ _ => 0) ⟨#[], args, []⟩).memory :=
  laidMetH_of_parts3 (fuel := 8) (laidMet_of_run' 8 (by kernel_rfl) (by kernel_rfl)) (by kernel_rfl) (by kernel_rfl)
theorem start_shaped (os : Os) (args : Array Value) : ((start os).forCall (fun _ _ => 0) ⟨#[], args, []⟩).Shaped Tryz.prog := World.shaped_of_RefB (by kernel_rfl) (by kernel_rfl)
theorem start_ok (os : Os) : Input.okWideB Tryz.prog ((start os).forCall (fun _ _ => 0) ⟨#[], #[.string ⟨#[]⟩, .int .u64 0, .agg #[.int .i64 0, .slice none 0 0, .bool false, .int .u64 0]], []⟩) 3 ⟨#[], #[.string ⟨#[]⟩, .int .u64 0, .agg #[.int .i64 0, .slice none 0 0, .bool false, .int .u64 0]], []⟩ = true := by kernel_rfl
set_option maxRecDepth 100000 in
theorem lifted (os : Os) (started : os.Started) (H : Type) (enc : TypeId × Value → H) :
    ReturnsInHanded {} Tryz.checked os 3 .any (fun w args => (Rows.storeNobodySpec.pre enc Tryz.prog Tryz.f3 [] false w args ∧ laidMetH Tryz.prog Rows.storeNobodyRow.laid w) ∧ sizedMet enc Tryz.prog Tryz.f3 (OpenSpec.ofChange Rows.storeNobodySpec) false w args)
      (Rows.storeNobodySpec.post enc Tryz.prog Tryz.f3 false true false false) := by
  refine Go.Rx.returns_shaped (C := Tryz.checked) (X := fun w _ => laidMetH Tryz.prog Rows.storeNobodyRow.laid w) (fun _ _ _ hh h => h.of_heap hh) own started (by kernel_rfl) Tryz.func3
    (ChangeSpec.witness_shaped (enc := enc) (C := Tryz.checked) (os := os) (X := fun w _ => laidMetH Tryz.prog Rows.storeNobodyRow.laid w) false (start os) #[.string ⟨#[]⟩, .int .u64 0, .agg #[.int .i64 0, .slice none 0 0, .bool false, .int .u64 0]] 8 (by kernel_rfl) (start_shaped os _) (start_ok os) (by kernel_rfl) (by kernel_rfl) (start_met os _)) ?_
  intro W base args ds gs before hval0 hW _ hZ hL hSh
  have hval : ∀ (j : Nat) t v, Tryz.f3.params[j]? = some t → args[j]? = some v → Value.okWide Tryz.prog W .any base t v := hval0
  have hW' := hW
  obtain ⟨p, q, hA0, hV, rfl, hfz, hnd⟩ := hW
  have hA : DataW.TrodAll enc Tryz.prog W 0 (fun _ => true) true Tryz.f3.params.toList args.toList ds p := hA0
  rw [Tryz.params3] at hA hval
  have hAll := hA
  obtain ⟨v0, vs0, d0, ds0, p0, q0, hargs, rfl, rfl, h0, r0⟩ := trodAll_cons hA
  obtain ⟨v1, vs1, d1, ds1, p1, q1, rfl, rfl, rfl, h1, r1⟩ := trodAll_cons r0
  obtain ⟨v2, vs2, d2, ds2, p2, q2, rfl, rfl, rfl, h2, r2⟩ := trodAll_cons r1
  obtain ⟨rfl, rfl, rfl⟩ := trodAll_nil r2
  obtain rfl : args = #[v0, v1, v2] := by cases args; simp_all
  obtain ⟨rfl, rfl⟩ := trodVars_none hV
  have lt0 : ∀ x ∈ p0, x.block < W.heap.size := by obtain ⟨m, hm⟩ := h0; exact DataW.trod_lt m _ _ _ hm
  have lt1 : ∀ x ∈ p1, x.block < W.heap.size := by obtain ⟨m, hm⟩ := h1; exact DataW.trod_lt m _ _ _ hm
  have lt2 : ∀ x ∈ p2, x.block < W.heap.size := by obtain ⟨m, hm⟩ := h2; exact DataW.trod_lt m _ _ _ hm
  obtain ⟨x0, rfl⟩ := okWide_string Tryz.underlying9 (hval 0 9 v0 rfl rfl)
  obtain ⟨x1, rfl, hb1⟩ := okWide_intB Tryz.underlying22 (hval 1 22 v1 rfl rfl)
  obtain ⟨cs2, rfl, hc2⟩ := okWide_cells Tryz.underlying27 (show Tryz.prog.cellTypes Tryz.prog.depth 27 = some [3, 23, 4, 22] by kernel_rfl) (show Tryz.prog.cellsOf 27 = 4 by kernel_rfl) (hval 2 27 v2 rfl rfl)
  obtain ⟨y2_0, r2_0, rfl, ho2_0, hc2⟩ := hc2
  obtain ⟨y2_1, r2_1, rfl, ho2_1, hc2⟩ := hc2
  obtain ⟨y2_2, r2_2, rfl, ho2_2, hc2⟩ := hc2
  obtain ⟨y2_3, r2_3, rfl, ho2_3, hc2⟩ := hc2
  obtain rfl := hc2
  obtain ⟨x2_0, rfl, hb2_0⟩ := cell_int Tryz.underlying3 ho2_0
  obtain ⟨a2_1, l2_1, c2_1, rfl, _, _⟩ := cell_slice Tryz.underlying23 ho2_1
  obtain ⟨x2_2, rfl⟩ := cell_bool Tryz.underlying4 ho2_2
  obtain ⟨x2_3, rfl, hb2_3⟩ := cell_int Tryz.underlying22 ho2_3
  clear hA0 hval0
  refine (walk x0 x1 x2_0 a2_1 l2_1 c2_1 x2_2 x2_3 W  (told_of_laid hL) (tab_of hL (List.mem_filter.2 ⟨(show ("internal/strconv.uint64pow10", Rows.laid_internal_strconv_uint64pow10) ∈ Rows.storeNobodyRow.laid by simp [Rows.storeNobodyRow]), rfl⟩) (g := 1) (by kernel_rfl) (t := 166) (by kernel_rfl) (n := 20) (by kernel_rfl) (e := 22) (by kernel_rfl) (by kernel_rfl) (by kernel_rfl)) (laysCut.s1_3 W hSh) (bytes_of h2) hb1).mono fun e W' ⟨he, bel⟩ => ?_
  subst he
  refine ⟨_, rfl, _, _, _, [], _, [], hW', trodAll_mk1 (shut_bool Tryz.underlying4 _), trodAll_below laidOut bel hAll (by kernel_rfl) ?_, rfl, bel.frame _, fun h => by cases h⟩
  intro x hx
  simp only [List.mem_append, List.not_mem_nil, or_false] at hx
  rcases hx with hx | hx | hx
  · exact lt0 x hx
  · exact lt1 x hx
  · exact lt2 x hx
set_option maxHeartbeats 4000000 in
theorem closed : joinedFacts Tryz.prog 3 Tryz.f3 Rows.storeNobodySpec Rows.storeNobodyRow = true := by
  unfold joinedFacts
  repeat' (with_reducible refine and_intro ?_ ?_)
  all_goals as_aux_lemma => kernel_rfl
theorem holds : Rows.StoreNobodySaid :=
  OpenClaim.holds_of_wide 3 Tryz.f3 rfl rfl rfl rfl rfl rfl rfl ⟨rfl, rfl, rfl, rfl, rfl⟩ rfl rfl rfl rfl rfl (by kernel_rfl) Tryz.func3 closed
    (of_decide_eq_true (by kernel_rfl)) (by unfold Func.isWrapper; first | (rw [if_pos (by decide +kernel)]; kernel_rfl) | (rw [if_neg (by decide +kernel)]; exact ⟨rfl, rfl⟩))
    (fun os started H enc _ => lifted os started H enc)
theorem wfText : Rows.storeNobodyRow.wfByText (OpenSpec.ofChange Rows.storeNobodySpec) = true := by kernel_rfl
theorem mainIs : Tryz.prog.mainIs = some (true, "50466cebd495d8ef8637da50884fc4c849edb65b79ec0ddc1494db954cfd0b27".toList) := by kernel_rfl
theorem looksIs : true = Tryz.prog.looks [] := by kernel_rfl
theorem goesNot : false = Rows.storeNobodyRow.goesBy Tryz.prog := by kernel_rfl
/-- The statement: the tied card. -/
theorem card_holds : Rows.StoreNobodyCardSaid :=
  Claim7.holds_tied_plain_at .later [] [.data, .data, .data, .handle] true (true, "50466cebd495d8ef8637da50884fc4c849edb65b79ec0ddc1494db954cfd0b27") true holds (fun _ h => by cases h) wfText (fun _ h => by cases h) storeNobody_row_tie rfl ⟨rfl, rfl⟩ mainIs rfl
    (fun f fn hf hfn => by
      obtain rfl : f = 3 := Option.some.inj ((show Tryz.prog.funcNamed "tender/tenderlaw29.StoreNobody" = some 3 by kernel_rfl).symm.trans hf) |>.symm
      obtain rfl : fn = Tryz.f3 := (Option.some.inj (Tryz.func3.symm.trans hfn)).symm
      exact ⟨looksIs, fun j t ht => by
        rw [Tryz.params3] at ht
        have hm : t ∈ [9, 22, 27] := by simpa using Array.mem_of_getElem? ht
        have hall : ([9, 22, 27].all fun u => !Tryz.prog.wantsStandIn u) = true := by kernel_rfl
        exact (show Tryz.prog.wantsStandIn t = false by simpa using List.all_eq_true.1 hall t hm)⟩)
    goesNot
#print axioms card_holds
end Go.Proofs.YtgbampboehgcjaaGreatDoor.storeNobody
