/- tale and its reference: which bytes stand as they are; hex digits. By an AI agent. -/
import Derived.Test.YtagegnclcengjaaDoorEnv
import Derived.IntWalk
namespace Go.Proofs.YtagegnclcengjaaDoor
open Go Go.Rx Go.RowKit
set_option linter.unusedVariables false
set_option linter.unusedSimpArgs false
set_option maxRecDepth 100000
namespace words
def noSM : SM := { top := { fn := 0, tm := tmOf 0 0 [], todo := [], defers := [], ret := false, kind := .normal, ro := none }, callers := [], mem := memOf 0 0 0 [] }
noncomputable def entE (E : Env) (f : FuncId) (args : List SV) : SM := (enterS E f args (memOf 6 0 0 [])).getD noSM
structure Due (l : List Prop) : Prop where
  out : Owed l
/-- A call that begins with nothing told, in pieces. -/
theorem calls_bare {E : Env} {P : Program} (hP : E.P = P) (hG : E.G = []) {f : FuncId} {args : List SV} {a : List Value} {S0 : SM} {Q : Value → Prop} (w : World) (hS0 : enterS E f args (memOf 6 0 0 []) = some S0) (ha : VRL (layVal []) args a)
    (hs : ∀ cs0, Goes E (layOwn [] []) w cs0 f (fun e w' => Below w.heap.size w w' ∧ ∃ v, e = .returned v ∧ Q v) (layVal []) S0) : Calls P f a.toArray w fun e w' => Below w.heap.size w w' ∧ ∃ v, e = .returned v ∧ Q v :=
  calls_of_read (E := E) hP (d := 6) (l := []) (os := []) rfl (by simp) (by simp) (fun i o b c h => by simp at h) hG hS0 ha hs
theorem not_laid (b : Nat) : ¬ (layOwn [] []) b := by rintro ⟨i, o, c, h, _⟩; simp at h
theorem no_name {i : Nat} {b : Nat × Nat} (h : layVal [] i = some b) {p : Prop} : p := by simp [layVal] at h

/-- Does a byte stand as it is? -/
def plainN (n : Nat) : Bool := (Nat.ble 97 n && Nat.ble n 122) || (Nat.ble 48 n && Nat.ble n 57) || Nat.beq n 46 || Nat.beq n 47 || Nat.beq n 45 || Nat.beq n 126
/-- The hex digits. -/
def hexes : ByteArray := ⟨#[48, 49, 50, 51, 52, 53, 54, 55, 56, 57, 97, 98, 99, 100, 101, 102]⟩
noncomputable def E0 : Env := EP [] []
theorem K0 {M : Own} {w0 : World} : Facts E0 M w0 := factsP0 fun r h => by cases h
theorem plain_tab : (List.range 256).all (fun n => okBool E0 17 200 (entE E0 17 [.v (.int .u8 (Int.ofNat n))]) (plainN n)) = true := by kernel_rfl
theorem tplain_tab : (List.range 256).all (fun n => okBool E0 13 200 (entE E0 13 [.v (.int .u8 (Int.ofNat n))]) (plainN n)) = true := by kernel_rfl
def plainPS : PS := fun args => match args with | [.int .u8 c] => some (.bool (plainN c.toNat), 0 ≤ c ∧ c < 256) | _ => none
theorem plain_ok : PureOK Tryd.prog (fun _ => True) (17, plainPS) := by
  refine ⟨⟨_, Tryd.func17, by kernel_rfl, by kernel_rfl⟩, fun args v p h hp w hX => ?_⟩
  dsimp only [plainPS] at h
  split at h
  · rename_i c
    cases h
    have ht := List.all_eq_true.1 plain_tab c.toNat (List.mem_range.2 (by omega))
    have hc : Int.ofNat c.toNat = c := Int.toNat_of_nonneg hp.1
    rw [hc] at ht
    refine (calls_bare (E := E0) rfl rfl (Q := fun v => v = .bool (plainN c.toNat)) (args := [.v (.int .u8 c)]) (a := [.int .u8 c]) w (S0 := entE E0 17 [.v (.int .u8 c)]) (by kernel_rfl) (VRL.cons (VR.v_iff.2 rfl) VRL.nil) fun cs0 => ?_).mono fun e w' ⟨h1, u, h2, h3⟩ => ⟨h1, by rw [h2, h3]⟩
    refine Goes.okBool K0 (n := 200) (b := plainN c.toNat) ?_ ?_
    · with_reducible exact ht
    · intro ν' M1 w1 s' w' _ hB hr
      exact ⟨below_of not_laid hB hr, _, rfl, rfl⟩
  · cases h
theorem tplain_ok : PureOK Tryd.prog (fun _ => True) (13, plainPS) := by
  refine ⟨⟨_, Tryd.func13, by kernel_rfl, by kernel_rfl⟩, fun args v p h hp w hX => ?_⟩
  dsimp only [plainPS] at h
  split at h
  · rename_i c
    cases h
    have ht := List.all_eq_true.1 tplain_tab c.toNat (List.mem_range.2 (by omega))
    have hc : Int.ofNat c.toNat = c := Int.toNat_of_nonneg hp.1
    rw [hc] at ht
    refine (calls_bare (E := E0) rfl rfl (Q := fun v => v = .bool (plainN c.toNat)) (args := [.v (.int .u8 c)]) (a := [.int .u8 c]) w (S0 := entE E0 13 [.v (.int .u8 c)]) (by kernel_rfl) (VRL.cons (VR.v_iff.2 rfl) VRL.nil) fun cs0 => ?_).mono fun e w' ⟨h1, u, h2, h3⟩ => ⟨h1, by rw [h2, h3]⟩
    refine Goes.okBool K0 (n := 200) (b := plainN c.toNat) ?_ ?_
    · with_reducible exact ht
    · intro ν' M1 w1 s' w' _ hB hr
      exact ⟨below_of not_laid hB hr, _, rfl, rfl⟩
  · cases h
end words
end Go.Proofs.YtagegnclcengjaaDoor
