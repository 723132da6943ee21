/- The contract of tenderlaw15.Light: of a message it answers whether that has few bytes; nothing turns. By an AI agent. -/
import Derived.Test.YtehfankppfeflaaGreatDoorEnv
import Derived.IntWalk
namespace Go.Proofs.YtehfankppfeflaaGreatDoor
open Go Go.Rx Go.RowKit
set_option linter.unusedVariables false
set_option linter.unusedSimpArgs false
set_option maxRecDepth 100000
namespace light
abbrev RowT := ByteArray × Int × Int × Int × Int
def rowC (r : RowT) : List SV := [.v (.string r.1), .v (.int .i64 r.2.1), .v (.int .u64 r.2.2.1), .v (.int .u64 r.2.2.2.1), .v (.int .i64 r.2.2.2.2)]
def rowV (r : RowT) : List Value := [.string r.1, .int .i64 r.2.1, .int .u64 r.2.2.1, .int .u64 r.2.2.2.1, .int .i64 r.2.2.2.2]
theorem rowC_len (r : RowT) : (rowC r).length = 5 := rfl
theorem rowC_closed (r : RowT) : (rowC r).all closedSV = true := rfl
theorem rowCV (ν : Val) (r : RowT) : VRL ν (rowC r) (rowV r) := VRL.lits ν (rowV r)
/-- The sum that it reckons. -/
def sumR (z : Int) (xs : List RowT) : Int := xs.foldl (fun n r => IntKind.i64.wrap (n + (r.1.size : Int))) z
noncomputable def E0 : Env := EP [] []
theorem K0 {M : Own} {w0 : World} : Facts E0 M w0 := factsP0 fun r h => by cases h
def noSM : SM := { top := { fn := 0, tm := tmOf 0 0 [], todo := [], defers := [], ret := false, kind := .normal, ro := none }, callers := [], mem := memOf 0 0 0 [] }
def msgC (p : ByteArray) (ad : Option Addr) (ld cd : Nat) (rows : SV) : List SV := [.junk, .junk, .junk, .junk, .v (.string p), .junk, .junk, .junk, .junk, .junk, .junk, .junk, .junk, .junk, .v (.slice ad ld cd), rows]
noncomputable def ent (m : List SV) (os : List SO) : SM := (enterS E0 4 [.agg m] (memOf 4 os.length 0 (os.map fun o => some (o, false)))).getD noSM
noncomputable def hdTodo : List SI := todoL E0 2 60 (ent (msgC ⟨#[]⟩ none 0 0 (.v (.slice none 0 0))) []) []
noncomputable def hdF (n i l : Int) (rows : SV) : SF := { fn := 4, tm := tmOf 34 6 ([.junk, .ptr 1 0, .junk, .v (.int .i64 n), .junk, .junk, .junk, .junk, .junk, .junk, .junk, .junk, .junk, .junk, rows, .v (.int .i64 l), .v (.int .i64 i)] ++ List.replicate 17 .junk), todo := hdTodo, defers := [], ret := false, kind := .normal, ro := none }
def objs (p : ByteArray) (ad : Option Addr) (ld cd : Nat) (xs : List RowT) (off c : Nat) : List (Option (SO × Bool)) := [some (.look (rowsAt rowC off xs), false), some (.row (msgC p ad ld cd (.sl 0 off xs.length (some c))) 27 (0, 0) none, true)]
theorem p0 (p : ByteArray) (ad : Option Addr) (ld cd : Nat) (xs : List RowT) (off c : Nat) : reach E0 2 60 (ent (msgC p ad ld cd (.sl 0 off xs.length (some c))) [.look (rowsAt rowC off xs)]) [] [(0, 0), (1, 1)] [0] (hdF (IntKind.i64.wrap ((p.size : Int) + (ld : Int))) 0 xs.length (.sl 0 off xs.length (some c))) 4 (objs p ad ld cd xs off c) = [
  (0 : Nat) = (0 : Nat),
  Value.int IntKind.i64 (IntKind.i64.wrap ((↑p.size : Int) + (↑ld : Int))) =
   Value.int IntKind.i64 (IntKind.i64.wrap ((↑p.size : Int) + (↑ld : Int))),
  off = off ∧ xs.length = xs.length ∧ some c = some c,
  Value.int IntKind.i64 (↑xs.length : Int) = Value.int IntKind.i64 (↑xs.length : Int),
  Value.int IntKind.i64 (0 : Int) = Value.int IntKind.i64 (0 : Int),
  rowsAt rowC off xs = rowsAt rowC off xs,
  (rowsAt rowC off xs).all closedSV = true,
  Value.string p = Value.string p,
  Value.slice ad ld cd = Value.slice ad ld cd,
  off = off ∧ xs.length = xs.length ∧ some c = some c] := by kernel_rfl
theorem p1 (p : ByteArray) (ad : Option Addr) (ld cd : Nat) (xs : List RowT) (off c : Nat) (n i n' i' : Int) (r : RowT) : reach E0 2 60 (SM.at (hdF n i xs.length (.sl 0 off xs.length (some c))) 4 (objs p ad ld cd xs off c)) [(0, .b true), (1, .b true), (2, .cells (rowC r))] [(0, 0), (1, 1)] [0] (hdF n' i' xs.length (.sl 0 off xs.length (some c))) 4 (objs p ad ld cd xs off c) = [
  (0 : Nat) = (0 : Nat),
  Value.int IntKind.i64 (IntKind.i64.wrap (n + (↑r.1.size : Int))) = Value.int IntKind.i64 n',
  off = off ∧ xs.length = xs.length ∧ some c = some c,
  Value.int IntKind.i64 (↑xs.length : Int) = Value.int IntKind.i64 (↑xs.length : Int),
  Value.int IntKind.i64 (IntKind.i64.wrap (i + (1 : Int))) = Value.int IntKind.i64 i',
  rowsAt rowC off xs = rowsAt rowC off xs,
  (rowsAt rowC off xs).all closedSV = true,
  Value.string p = Value.string p,
  Value.slice ad ld cd = Value.slice ad ld cd,
  off = off ∧ xs.length = xs.length ∧ some c = some c,
  List.take (5 : Nat) (List.drop (off + i.toNat * (5 : Nat)) (rowsAt rowC off xs)) = rowC r ∧ (rowC r).length = (5 : Nat),
  inRange i xs.length = true,
  decide (i < (↑xs.length : Int)) = true] := by kernel_rfl
theorem p2 (p : ByteArray) (ad : Option Addr) (ld cd : Nat) (xs : List RowT) (off c : Nat) (n i : Int) (b : Bool) : endsV E0 4 60 (SM.at (hdF n i xs.length (.sl 0 off xs.length (some c))) 4 (objs p ad ld cd xs off c)) [(0, .b false), (1, .b true), (2, .b true), (3, .b true), (4, .b true), (5, .b true)] (.bool b) = [
  Value.bool (decide ((↑xs.length : Int) ≤ (100 : Int))) = Value.bool b,
  decide (n ≤ (5000 : Int)) = true,
  decide (n ≤ (5000 : Int)) = true,
  decide (n ≤ (5000 : Int)) = true,
  decide (n ≤ (5000 : Int)) = true,
  decide (n ≤ (5000 : Int)) = true,
  decide (i < (↑xs.length : Int)) = false] := by kernel_rfl
theorem p3 (p : ByteArray) (ad : Option Addr) (ld cd : Nat) (xs : List RowT) (off c : Nat) (n i : Int) (b : Bool) : endsV E0 4 60 (SM.at (hdF n i xs.length (.sl 0 off xs.length (some c))) 4 (objs p ad ld cd xs off c)) [(0, .b false), (1, .b false), (2, .b false), (3, .b false), (4, .b false), (5, .b false)] (.bool b) = [
  Value.bool false = Value.bool b,
  decide (n ≤ (5000 : Int)) = false,
  decide (n ≤ (5000 : Int)) = false,
  decide (n ≤ (5000 : Int)) = false,
  decide (n ≤ (5000 : Int)) = false,
  decide (n ≤ (5000 : Int)) = false,
  decide (i < (↑xs.length : Int)) = false] := by kernel_rfl
theorem p4 (p : ByteArray) (ad : Option Addr) (ld cd : Nat) (ar : Option Addr) (cr : Nat) (b : Bool) : endsV E0 4 100 (ent (msgC p ad ld cd (.v (.slice ar 0 cr))) []) [(1, .b true), (2, .b true), (3, .b true), (4, .b true), (5, .b true)] (.bool b) = [
  Value.bool true = Value.bool b,
  decide (IntKind.i64.wrap ((↑p.size : Int) + (↑ld : Int)) ≤ (5000 : Int)) = true,
  decide (IntKind.i64.wrap ((↑p.size : Int) + (↑ld : Int)) ≤ (5000 : Int)) = true,
  decide (IntKind.i64.wrap ((↑p.size : Int) + (↑ld : Int)) ≤ (5000 : Int)) = true,
  decide (IntKind.i64.wrap ((↑p.size : Int) + (↑ld : Int)) ≤ (5000 : Int)) = true,
  decide (IntKind.i64.wrap ((↑p.size : Int) + (↑ld : Int)) ≤ (5000 : Int)) = true] := by kernel_rfl
theorem p5 (p : ByteArray) (ad : Option Addr) (ld cd : Nat) (ar : Option Addr) (cr : Nat) (b : Bool) : endsV E0 4 100 (ent (msgC p ad ld cd (.v (.slice ar 0 cr))) []) [(1, .b false), (2, .b false), (3, .b false), (4, .b false), (5, .b false)] (.bool b) = [
  Value.bool false = Value.bool b,
  decide (IntKind.i64.wrap ((↑p.size : Int) + (↑ld : Int)) ≤ (5000 : Int)) = false,
  decide (IntKind.i64.wrap ((↑p.size : Int) + (↑ld : Int)) ≤ (5000 : Int)) = false,
  decide (IntKind.i64.wrap ((↑p.size : Int) + (↑ld : Int)) ≤ (5000 : Int)) = false,
  decide (IntKind.i64.wrap ((↑p.size : Int) + (↑ld : Int)) ≤ (5000 : Int)) = false,
  decide (IntKind.i64.wrap ((↑p.size : Int) + (↑ld : Int)) ≤ (5000 : Int)) = false] := by kernel_rfl
/-- What Light answers. -/
def lightB (p : ByteArray) (ld : Nat) (xs : List RowT) : Bool := decide (sumR (IntKind.i64.wrap ((p.size : Int) + (ld : Int))) xs ≤ 5000) && decide ((xs.length : Int) ≤ 100)

theorem sumR_snoc (z : Int) (xs : List RowT) (r : RowT) : sumR z (xs ++ [r]) = IntKind.i64.wrap (sumR z xs + (r.1.size : Int)) := by
  unfold sumR; rw [List.foldl_append]; rfl

theorem rowV_closed (off : Nat) (xs : List RowT) : (rowsAt rowC off xs).all closedSV = true := rowsAt_closed rowC_closed

section
variable {M : Own} {w0 : World} {cs0 : List Frame} {R : Ending → World → Prop} {ν : Val} {p : ByteArray} {ad : Option Addr} {ld cd : Nat} {xs : List RowT} {off c : Nat}

theorem loop (hν : ∀ i b, ν i = some b → i = 0) (hl : xs.length ≤ 9223372036854775807) (hR : ∀ w', Below w0.heap.size w0 w' → R (.returned (.bool (lightB p ld xs))) w') (hM : ∀ b, ¬ M b) :
    ∀ (j k : Nat), k + j = xs.length → Goes E0 M w0 cs0 4 R ν (SM.at (hdF (sumR (IntKind.i64.wrap ((p.size : Int) + (ld : Int))) (xs.take k)) k xs.length (.sl 0 off xs.length (some c))) 4 (objs p ad ld cd xs off c))
  | 0, k, hk => by
    have hk : k = xs.length := by omega
    have hb : R (.returned (.bool (lightB p ld xs))) = R (.returned (.bool (decide (sumR (IntKind.i64.wrap ((p.size : Int) + (ld : Int))) (xs.take k) ≤ 5000) && decide ((xs.length : Int) ≤ 100)))) := by
      rw [hk, List.take_length]; rfl
    by_cases h : sumR (IntKind.i64.wrap ((p.size : Int) + (ld : Int))) (xs.take k) ≤ 5000
    · refine Goes.endsV K0 (n := 60) (o := [(0, .b false), (1, .b true), (2, .b true), (3, .b true), (4, .b true), (5, .b true)]) (v := .bool (lightB p ld xs)) ?_ fun ν' M1 w1 s' w' _ hB hr => hR _ (below_of hM hB hr)
      rw [p2]
      simp only [Owed, h, decide_true, hk, Int.lt_irrefl, decide_false, true_and, and_true]
      unfold lightB
      rw [hk, List.take_length] at h
      simp [h]
    · refine Goes.endsV K0 (n := 60) (o := [(0, .b false), (1, .b false), (2, .b false), (3, .b false), (4, .b false), (5, .b false)]) (v := .bool (lightB p ld xs)) ?_ fun ν' M1 w1 s' w' _ hB hr => hR _ (below_of hM hB hr)
      rw [p3]
      simp only [Owed, h, decide_true, hk, Int.lt_irrefl, decide_false, true_and, and_true]
      unfold lightB
      rw [hk, List.take_length] at h
      simp [h]
  | j + 1, k, hk => by
    have hlt : k < xs.length := by omega
    have hx : xs[k]? = some xs[k] := List.getElem?_eq_getElem hlt
    refine Goes.reach K0 (k := 2) (n := 60) (o := [(0, .b true), (1, .b true), (2, .cells (rowC xs[k]))]) (ren := [(0, 0), (1, 1)]) (eqs := [0]) ?_ (by kernel_rfl) (fun i b h => by rw [hν i b h]; rfl) (loop hν hl hR hM j (k + 1) (by omega))
    rw [p1]
    have hw : IntKind.i64.wrap ((k : Int) + 1) = ((k + 1 : Nat) : Int) := by rw [IntWalk.i64_in _ (by omega)]; omega
    have ht : xs.take (k + 1) = xs.take k ++ [xs[k]] := by rw [List.take_succ_eq_append_getElem hlt]
    have hin : inRange (k : Int) xs.length = true := by unfold inRange; exact decide_eq_true (by omega)
    simp only [Owed, true_and, and_true, hw, ht, sumR_snoc, rowV_closed, hin, Int.toNat_natCast, rowsAt_at rowC_len hx, rowC_len]
    simp; omega

theorem light_rows (w : World) (hl : xs.length ≤ 9223372036854775807) {b cap : Nat} {cs : Array Value} {e : TypeId} {fz : Nat × Nat} (hb : w.heap[b]? = some (.cells cs e fz)) (hoff : off ≤ cs.size)
    (hc : ∀ (k : Nat) (v : Value), (xs.flatMap rowV)[k]? = some v → cs[off + k]? = some v) {ms : List Value} (hm : VRL (layVal [(b, cap)]) (msgC p ad ld cd (.sl 0 off xs.length (some c))) ms) :
    Calls Tryz.prog 4 #[.agg ms.toArray] w fun e w' => Below w.heap.size w w' ∧ ∃ v, e = .returned v ∧ v = .bool (lightB p ld xs) := by
  refine calls_of_read (E := E0) (a := [.agg ms.toArray]) rfl (d := 4) (l := [(b, cap)]) (os := [.look (rowsAt rowC off xs)]) rfl (by simp) (by simp) ?_ rfl (S0 := ent (msgC p ad ld cd (.sl 0 off xs.length (some c))) [.look (rowsAt rowC off xs)]) (by kernel_rfl)
    (VRL.cons (VR.agg_iff.2 ⟨ms, rfl, hm⟩) VRL.nil) fun cs0 => ?_
  · intro i o b' c' h1 h2
    match i with
    | 0 =>
      simp only [List.getElem?_cons_zero, Option.some.injEq, Prod.mk.injEq] at h1 h2
      obtain ⟨rfl, rfl⟩ := h2
      subst h1
      exact ⟨_, hb, rowsAt_look rowCV hoff hc⟩
    | i + 1 => simp at h1
  · have hν : ∀ i x, layVal [(b, cap)] i = some x → i = 0 := by
      intro i x h
      match i with
      | 0 => rfl
      | i + 1 => simp [layVal] at h
    refine Goes.reach K0 (k := 2) (n := 60) (o := []) (ren := [(0, 0), (1, 1)]) (eqs := [0]) ?_ (by kernel_rfl) (fun i b h => by rw [hν i b h]; rfl)
      (loop (p := p) (ad := ad) (ld := ld) (cd := cd) (xs := xs) (off := off) (c := c) hν hl (fun w' h => ⟨h, _, rfl, rfl⟩) (fun b => layOwn_none (os := [_])) xs.length 0 (by omega))
    have : sumR (IntKind.i64.wrap ((p.size : Int) + (ld : Int))) (xs.take 0) = IntKind.i64.wrap ((p.size : Int) + (ld : Int)) := rfl
    rw [this]
    show Owed (reach E0 2 60 _ [] _ _ (hdF _ 0 _ _) _ _)
    rw [p0]
    simp [Owed, rowV_closed]
end

section
variable {H : Type} {enc : TypeId × Value → H} {W : World} {base : Nat} {spare : Nat → Bool} {held : Bool}

theorem rowForm {vs : List Value} {n : Nat} {y : DataW H × List MemPlace} (h : DataW.trod enc Tryz.prog W base spare held n 44 vs = some y) : ∃ r, vs = rowV r := by
  obtain ⟨hl, hf⟩ := trod_cells h (by kernel_rfl) (by kernel_rfl) (by kernel_rfl)
  have hz : (structFields Tryz.prog 44).size = 5 := by kernel_rfl
  rw [hz] at hl hf
  match vs, hl with
  | [v0, v1, v2, v3, v4], _ =>
    obtain ⟨_, _, _, e0, h0⟩ := hf 0 9 (by decide) (by kernel_rfl)
    obtain ⟨_, _, _, e1, h1⟩ := hf 1 3 (by decide) (by kernel_rfl)
    obtain ⟨_, _, _, e2, h2⟩ := hf 2 22 (by decide) (by kernel_rfl)
    obtain ⟨_, _, _, e3, h3⟩ := hf 3 22 (by decide) (by kernel_rfl)
    obtain ⟨_, _, _, e4, h4⟩ := hf 4 3 (by decide) (by kernel_rfl)
    cases e0; cases e1; cases e2; cases e3; cases e4
    obtain ⟨s, hs, _⟩ := DataW.trod_string Tryz.underlying9 h0
    obtain ⟨n1, hn1, _⟩ := DataW.trod_int Tryz.underlying3 h1
    obtain ⟨n2, hn2, _⟩ := DataW.trod_int Tryz.underlying22 h2
    obtain ⟨n3, hn3, _⟩ := DataW.trod_int Tryz.underlying22 h3
    obtain ⟨n4, hn4, _⟩ := DataW.trod_int Tryz.underlying3 h4
    cases hs; cases hn1; cases hn2; cases hn3; cases hn4
    exact ⟨(s, n1, n2, n3, n4), rfl⟩

theorem rows_of {vs : Array Value} {d : DataW H} {p : List MemPlace} {a : Option Addr} {l c : Nat} (h : DataW.Trod enc Tryz.prog W base spare held 27 (.agg vs) d p) (hv : vs[15]? = some (.slice a l c)) : ElemsIn rowV W a l c := by
  obtain ⟨n, y, hd⟩ := trod_field' (i := 15) (o := 15) (ft := 25) h (by kernel_rfl) (by kernel_rfl) (by kernel_rfl) (by kernel_rfl) (by kernel_rfl) hv
  exact slice_rows (C := 5) (by decide) (fun _ => rfl) (fun _ _ _ h => rowForm h) Tryz.underlying25 (by kernel_rfl) hd
end

/-- Light of a message whose rows lie so in a world: some answer, in each world in which they still do. -/
theorem light_any {W : World} {p : ByteArray} {ad : Option Addr} {ld cd : Nat} {a : Option Addr} {l c : Nat} (hr : ElemsIn rowV W a l c) : ∃ b : Bool, ∀ w, (∀ k, k < W.heap.size → w.heap[k]? = W.heap[k]?) →
    ∀ v0 v1 v2 v3 v5 v6 v7 v8 v9 v10 v11 v12 v13 : Value, Calls Tryz.prog 4 #[.agg #[v0, v1, v2, v3, .string p, v5, v6, v7, v8, v9, v10, v11, v12, v13, .slice ad ld cd, .slice a l c]] w fun e w' => Below w.heap.size w w' ∧ e = .returned (.bool b) := by
  obtain ⟨⟨hlc, hc40⟩, hr⟩ := hr
  have hjv : ∀ (ν : Val) (v : Value), VR ν .junk v := fun ν v => by rw [VR]; trivial
  rcases hr with rfl | ⟨b, off, xs, cs, e, fz, rfl, rfl, hheap, hoff, hcells⟩
  · -- no rows
    refine ⟨decide (IntKind.i64.wrap ((p.size : Int) + (ld : Int)) ≤ 5000), fun w _ v0 v1 v2 v3 v5 v6 v7 v8 v9 v10 v11 v12 v13 => ?_⟩
    refine (calls_of_read (E := E0) (args := [.agg (msgC p ad ld cd (.v (.slice a 0 c)))]) (a := [.agg #[v0, v1, v2, v3, .string p, v5, v6, v7, v8, v9, v10, v11, v12, v13, .slice ad ld cd, .slice a 0 c]]) (Q := fun v => v = .bool (decide (IntKind.i64.wrap ((p.size : Int) + (ld : Int)) ≤ 5000))) rfl (d := 4) (l := []) (os := []) rfl (by simp) (by simp) (fun i o b c h => by simp at h) rfl
      (S0 := ent (msgC p ad ld cd (.v (.slice a 0 c))) []) (by kernel_rfl) (VRL.cons (VR.agg_iff.2 ⟨[v0, v1, v2, v3, .string p, v5, v6, v7, v8, v9, v10, v11, v12, v13, .slice ad ld cd, .slice a 0 c], rfl, ?_⟩) VRL.nil) fun cs0 => ?_).mono fun e w' ⟨hb, v, he, hv⟩ => ⟨hb, by rw [he, hv]⟩
    · unfold msgC
      repeat (first | exact VRL.nil | refine VRL.cons (by first | exact hjv _ _ | exact VR.v_iff.2 rfl) ?_)
    · by_cases h : IntKind.i64.wrap ((p.size : Int) + (ld : Int)) ≤ 5000
      · refine Goes.endsV K0 (n := 100) (o := [(1, .b true), (2, .b true), (3, .b true), (4, .b true), (5, .b true)]) (v := .bool (decide (IntKind.i64.wrap ((p.size : Int) + (ld : Int)) ≤ 5000))) ?_ fun ν' M1 w1 s' w' _ hB hr => ⟨below_of (fun b => layOwn_none (os := [])) hB hr, _, rfl, rfl⟩
        rw [p4]; simp [Owed, h]
      · refine Goes.endsV K0 (n := 100) (o := [(1, .b false), (2, .b false), (3, .b false), (4, .b false), (5, .b false)]) (v := .bool (decide (IntKind.i64.wrap ((p.size : Int) + (ld : Int)) ≤ 5000))) ?_ fun ν' M1 w1 s' w' _ hB hr => ⟨below_of (fun b => layOwn_none (os := [])) hB hr, _, rfl, rfl⟩
        rw [p5]; simp [Owed, h]
  · refine ⟨lightB p ld xs, fun w hw v0 v1 v2 v3 v5 v6 v7 v8 v9 v10 v11 v12 v13 => ?_⟩
    have hlt := (Array.getElem?_eq_some_iff.1 hheap).1
    refine (light_rows (p := p) (ad := ad) (ld := ld) (cd := cd) (xs := xs) (off := off) (c := c) (cap := 0) w (by unfold maxLen at hc40; omega) ((hw b hlt).trans hheap) hoff hcells (ms := [v0, v1, v2, v3, .string p, v5, v6, v7, v8, v9, v10, v11, v12, v13, .slice ad ld cd, .slice (some ⟨b, off, none⟩) xs.length c]) ?_).mono fun e w' ⟨hb, v, he, hv⟩ => ⟨hb, by rw [he, hv]⟩
    unfold msgC
    repeat (first | exact VRL.nil | refine VRL.cons (by first | exact hjv _ _ | exact VR.v_iff.2 rfl | exact VR.sl_iff.2 ⟨(b, 0), rfl, hlc, rfl⟩) ?_)
end light
end Go.Proofs.YtehfankppfeflaaGreatDoor
