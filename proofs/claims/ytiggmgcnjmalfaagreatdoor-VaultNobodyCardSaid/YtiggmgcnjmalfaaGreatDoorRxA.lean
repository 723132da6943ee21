/- The symbolic executor 'Rx', part A: symbolic values, symbolic memory, and what they stand for. By an AI agent. -/
import Derived.AtR
import Derived.Below
import Derived.KernelRfl
import Derived.Laws.Sem
import Derived.Laws.World
import Derived.Laws.NewBlocks
import GoSem.Extern.ReflectliteValue
set_option linter.unusedVariables false
set_option linter.unusedSimpArgs false
namespace Go.Rx

/-! ## Tables by number: a full binary tree -/

inductive Tr (α : Type) where
  | leaf (x : α)
  | node (l r : Tr α)

namespace Tr
variable {α : Type}

def get : Tr α → Nat → α
  | .leaf x, _ => x
  | .node l r, n => bif Nat.beq (n % 2) 0 then l.get (n / 2) else r.get (n / 2)

def set : Tr α → Nat → α → Tr α
  | .leaf _, _, v => .leaf v
  | .node l r, n, v => bif Nat.beq (n % 2) 0 then .node (l.set (n / 2) v) r else .node l (r.set (n / 2) v)

def mk (x : α) : Nat → Tr α
  | 0 => .leaf x
  | d + 1 => .node (mk x d) (mk x d)

/-- A full tree of a depth. -/
def Full : Nat → Tr α → Prop
  | 0, .leaf _ => True
  | d + 1, .node l r => Full d l ∧ Full d r
  | _, _ => False

def full : Nat → Tr α → Bool
  | 0, .leaf _ => true
  | d + 1, .node l r => full d l && full d r
  | _, _ => false

theorem full_iff {d : Nat} {t : Tr α} : full d t = true ↔ Full d t := by
  induction d generalizing t with
  | zero => cases t <;> simp [full, Full]
  | succ d ih => cases t <;> simp [full, Full, ih]

theorem full_mk (x : α) (d : Nat) : Full d (mk x d) := by
  induction d with
  | zero => trivial
  | succ d ih => exact ⟨ih, ih⟩

theorem get_mk (x : α) (d n : Nat) : (mk x d).get n = x := by
  induction d generalizing n with
  | zero => rfl
  | succ d ih => simp only [mk, get]; cases Nat.beq (n % 2) 0 <;> simp [ih]

theorem Full.set {d : Nat} {t : Tr α} (h : Full d t) (n : Nat) (v : α) : Full d (t.set n v) := by
  induction d generalizing t n with
  | zero => cases t <;> simp_all [Full, Tr.set]
  | succ d ih =>
    cases t with
    | leaf x => simp [Full] at h
    | node l r =>
      obtain ⟨hl, hr⟩ := h
      simp only [Tr.set]
      cases Nat.beq (n % 2) 0
      · exact ⟨hl, ih hr _⟩
      · exact ⟨ih hl _, hr⟩

theorem get_set_self {t : Tr α} (n : Nat) (v : α) : (t.set n v).get n = v := by
  induction t generalizing n with
  | leaf x => rfl
  | node l r ihl ihr =>
    simp only [Tr.set]
    cases hb : Nat.beq (n % 2) 0 <;> simp [get, hb, ihl, ihr]

theorem get_set_ne {d : Nat} {t : Tr α} (h : Full d t) {n m : Nat} (hn : n < 2 ^ d) (hm : m < 2 ^ d) (hne : m ≠ n) (v : α) :
    (t.set n v).get m = t.get m := by
  induction d generalizing t n m with
  | zero => simp at hn hm; omega
  | succ d ih =>
    cases t with
    | leaf x => simp [Full] at h
    | node l r =>
      obtain ⟨hl, hr⟩ := h
      have h2 : 2 ^ (d + 1) = 2 * 2 ^ d := by rw [Nat.pow_succ, Nat.mul_comm]
      have e1 : ∀ k : Nat, Nat.beq (k % 2) 0 = true ↔ k % 2 = 0 := fun k => ⟨Nat.eq_of_beq_eq_true, fun e => by rw [e]; rfl⟩
      simp only [Tr.set]
      cases hbn : Nat.beq (n % 2) 0 <;> cases hbm : Nat.beq (m % 2) 0 <;> simp [get, hbm]
      · refine ih hr (by omega) (by omega) ?_
        intro he
        have a1 : ¬ n % 2 = 0 := fun e => by rw [(e1 n).2 e] at hbn; cases hbn
        have a2 : ¬ m % 2 = 0 := fun e => by rw [(e1 m).2 e] at hbm; cases hbm
        omega
      · refine ih hl (by omega) (by omega) ?_
        intro he
        have a1 := (e1 n).1 hbn
        have a2 := (e1 m).1 hbm
        omega

theorem get_set {d : Nat} {t : Tr α} (h : Full d t) {n m : Nat} (hn : n < 2 ^ d) (hm : m < 2 ^ d) (v : α) :
    (t.set n v).get m = if m = n then v else t.get m := by
  split
  · rename_i e; rw [e, get_set_self]
  · rename_i e; exact get_set_ne h hn hm e v

end Tr

/-! ## Symbolic values -/

/-- A symbolic value. (A slice without a capacity: its elements are of one cell each, or it begins at 0; it has what its row has left.) 'v x': just x. 'junk': whatever. 'ptr i off', 'sl i off len cap', 'map i': into the object of number i. 'fin i off len': what is left behind so many elements of a slice, where it has no more. -/
inductive SV where
  | junk
  | v (x : Value)
  | ptr (i off : Nat)
  | sl (i off len : Nat) (cap : Option Nat)
  | map (i : Nat)
  | agg (l : List SV)
  | tup (l : List SV)
  | iface (t : TypeId) (x : SV)
  | func (fn : Fn) (first capt : List SV)
  | yield (i : Nat)
  | fin (i off len adv : Nat)

/-- Which block (and how many elements a row made by an append has room for) an object's number stands for. -/
abbrev Val := Nat → Option (Nat × Nat)

def Val.Le (ν ν' : Val) : Prop := ∀ i b, ν i = some b → ν' i = some b
theorem Val.Le.refl (ν : Val) : ν.Le ν := fun _ _ h => h
theorem Val.Le.trans {a b c : Val} (h : a.Le b) (k : b.Le c) : a.Le c := fun i x hx => k i x (h i x hx)

mutual
def VR (ν : Val) : SV → Value → Prop
  | .junk, _ => True
  | .v x, y => y = x
  | .ptr i off, y => ∃ b, ν i = some b ∧ y = .pointer (some ⟨b.1, off, none⟩)
  | .sl i off len cap, y => ∃ b, ν i = some b ∧ len ≤ cap.getD (b.2 - off) ∧ y = .slice (some ⟨b.1, off, none⟩) len (cap.getD (b.2 - off))
  | .map i, y => ∃ b, ν i = some b ∧ y = .map (some b.1)
  | .agg l, y => ∃ a : List Value, y = .agg a.toArray ∧ VRL ν l a
  | .tup l, y => ∃ a : List Value, y = .tuple a.toArray ∧ VRL ν l a
  | .iface t x, y => ∃ z, y = .iface t z ∧ VR ν x z
  | .func fn a b, y => ∃ a' b' : List Value, y = .func fn a'.toArray b'.toArray ∧ VRL ν a a' ∧ VRL ν b b'
  | .yield i, y => ∃ b, ν i = some b ∧ y = .func (.yield b.1) #[] #[]
  | .fin i off len adv, y => ∃ b, ν i = some b ∧ y = .slice (some ⟨b.1, if b.2 - off = len then off else off + adv, none⟩) 0 (b.2 - off - len)
def VRL (ν : Val) : List SV → List Value → Prop
  | [], ys => ys = []
  | x :: xs, ys => ∃ z zs, ys = z :: zs ∧ VR ν x z ∧ VRL ν xs zs
end

mutual
theorem VR.mono {ν ν' : Val} (h : ν.Le ν') : ∀ (s : SV) (y : Value), VR ν s y → VR ν' s y
  | .junk, _, _ => trivial
  | .v _, _, hy => hy
  | .ptr _ _, _, hy => by obtain ⟨b, hb, e⟩ := hy; exact ⟨b, h _ _ hb, e⟩
  | .sl _ _ _ _, _, hy => by obtain ⟨b, hb, hc, e⟩ := hy; exact ⟨b, h _ _ hb, hc, e⟩
  | .map _, _, hy => by obtain ⟨b, hb, e⟩ := hy; exact ⟨b, h _ _ hb, e⟩
  | .agg l, _, hy => by obtain ⟨a, e, hl⟩ := hy; exact ⟨a, e, VRL.mono h l a hl⟩
  | .tup l, _, hy => by obtain ⟨a, e, hl⟩ := hy; exact ⟨a, e, VRL.mono h l a hl⟩
  | .iface _ x, _, hy => by obtain ⟨z, e, hz⟩ := hy; exact ⟨z, e, VR.mono h x z hz⟩
  | .func _ a b, _, hy => by obtain ⟨a', b', e, ha, hb⟩ := hy; exact ⟨a', b', e, VRL.mono h a a' ha, VRL.mono h b b' hb⟩
  | .yield _, _, hy => by obtain ⟨b, hb, e⟩ := hy; exact ⟨b, h _ _ hb, e⟩
  | .fin _ _ _ _, _, hy => by obtain ⟨b, hb, e⟩ := hy; exact ⟨b, h _ _ hb, e⟩
theorem VRL.mono {ν ν' : Val} (h : ν.Le ν') : ∀ (l : List SV) (ys : List Value), VRL ν l ys → VRL ν' l ys
  | [], _, hy => hy
  | x :: xs, _, hy => by
    obtain ⟨z, zs, e, hz, hzs⟩ := hy
    exact ⟨z, zs, e, VR.mono h x z hz, VRL.mono h xs zs hzs⟩
end

theorem VRL.length {ν : Val} : ∀ {l : List SV} {ys : List Value}, VRL ν l ys → ys.length = l.length
  | [], _, h => by rw [VRL] at h; rw [h]; rfl
  | _ :: xs, _, h => by rw [VRL] at h; obtain ⟨z, zs, rfl, _, hs⟩ := h; simp [VRL.length hs]

theorem VRL.nil {ν : Val} : VRL ν [] [] := by rw [VRL]
theorem VRL.cons {ν : Val} {x : SV} {xs : List SV} {y : Value} {ys : List Value} (h : VR ν x y) (hs : VRL ν xs ys) : VRL ν (x :: xs) (y :: ys) := by
  rw [VRL]; exact ⟨y, ys, rfl, h, hs⟩
theorem VRL.cons_inv {ν : Val} {x : SV} {xs : List SV} {l : List Value} (h : VRL ν (x :: xs) l) : ∃ y ys, l = y :: ys ∧ VR ν x y ∧ VRL ν xs ys := by
  rw [VRL] at h; exact h
theorem VRL.nil_inv {ν : Val} {l : List Value} (h : VRL ν [] l) : l = [] := by rw [VRL] at h; exact h

theorem VRL.append {ν : Val} : ∀ {l : List SV} {ys : List Value} {m : List SV} {zs : List Value}, VRL ν l ys → VRL ν m zs → VRL ν (l ++ m) (ys ++ zs)
  | [], _, _, _, h, k => by rw [VRL.nil_inv h]; exact k
  | _ :: _, _, _, _, h, k => by obtain ⟨z, zs, rfl, hz, hs⟩ := h.cons_inv; exact VRL.cons hz (VRL.append hs k)

theorem VRL.get {ν : Val} : ∀ {l : List SV} {ys : List Value} {i : Nat} {x : SV}, VRL ν l ys → l[i]? = some x → ∃ y, ys[i]? = some y ∧ VR ν x y
  | [], _, _, _, _, e => by simp at e
  | _ :: xs, _, 0, _, h, e => by obtain ⟨z, zs, rfl, hz, _⟩ := h.cons_inv; simp at e; subst e; exact ⟨z, by simp, hz⟩
  | _ :: xs, _, i + 1, _, h, e => by obtain ⟨z, zs, rfl, _, hs⟩ := h.cons_inv; simp at e; simpa using VRL.get hs e

theorem VRL.set {ν : Val} {x : SV} {y : Value} (hx : VR ν x y) : ∀ {l : List SV} {ys : List Value} (i : Nat), VRL ν l ys → VRL ν (l.set i x) (ys.set i y)
  | [], _, _, h => by rw [VRL.nil_inv h]; exact VRL.nil
  | _ :: _, _, 0, h => by obtain ⟨z, zs, rfl, _, hs⟩ := h.cons_inv; exact VRL.cons hx hs
  | _ :: _, _, i + 1, h => by obtain ⟨z, zs, rfl, hz, hs⟩ := h.cons_inv; exact VRL.cons hz (VRL.set hx i hs)

theorem VRL.take {ν : Val} : ∀ {l : List SV} {ys : List Value} (i : Nat), VRL ν l ys → VRL ν (l.take i) (ys.take i)
  | _, _, 0, _ => by simpa using VRL.nil
  | [], _, _ + 1, h => by rw [VRL.nil_inv h]; exact VRL.nil
  | _ :: _, _, i + 1, h => by obtain ⟨z, zs, rfl, hz, hs⟩ := h.cons_inv; exact VRL.cons hz (VRL.take i hs)

theorem VRL.drop {ν : Val} : ∀ {l : List SV} {ys : List Value} (i : Nat), VRL ν l ys → VRL ν (l.drop i) (ys.drop i)
  | _, _, 0, h => by simpa using h
  | [], _, _ + 1, h => by rw [VRL.nil_inv h]; exact VRL.nil
  | _ :: _, _, i + 1, h => by obtain ⟨z, zs, rfl, _, hs⟩ := h.cons_inv; simpa using VRL.drop i hs

theorem VRL.lits (ν : Val) : ∀ ys : List Value, VRL ν (ys.map SV.v) ys
  | [] => VRL.nil
  | _ :: ys => VRL.cons (by rw [VR]) (VRL.lits ν ys)

end Go.Rx
set_option linter.unusedVariables false
set_option linter.unusedSimpArgs false
namespace Go.Rx
open Go.RowKit (Below)

/-- A table of temporaries: how many there are, and the tree's depth. -/
structure STm where
  nt : Nat
  d : Nat
  T : Tr SV

def STm.get (s : STm) (t : Nat) : SV := bif Nat.blt t s.nt then s.T.get t else .v undef
def STm.set (s : STm) (t : Nat) (x : SV) : STm := bif Nat.blt t s.nt then { s with T := s.T.set t x } else s

structure TmR (ν : Val) (s : STm) (a : Array Value) : Prop where
  size : a.size = s.nt
  full : Tr.Full s.d s.T
  le : s.nt ≤ 2 ^ s.d
  get : ∀ t, t < s.nt → VR ν (s.T.get t) (a.getD t undef)

theorem TmR.mono {ν ν' : Val} (h : ν.Le ν') {s : STm} {a : Array Value} (r : TmR ν s a) : TmR ν' s a :=
  ⟨r.size, r.full, r.le, fun t ht => VR.mono h _ _ (r.get t ht)⟩

theorem blt_iff {a b : Nat} : Nat.blt a b = true ↔ a < b := by
  unfold Nat.blt; rw [Nat.ble_eq]; exact Iff.rfl
theorem blt_false {a b : Nat} (h : ¬ a < b) : Nat.blt a b = false := by
  cases hb : Nat.blt a b
  · rfl
  · exact absurd (blt_iff.1 hb) h

theorem TmR.at {ν : Val} {s : STm} {a : Array Value} (r : TmR ν s a) (t : Nat) : VR ν (s.get t) (a.getD t undef) := by
  unfold STm.get
  by_cases h : t < s.nt
  · rw [blt_iff.2 h]; exact r.get t h
  · rw [blt_false h]
    have : a.getD t undef = undef := by rw [Array.getD, dif_neg (by rw [r.size]; exact h)]
    simp only [cond_false]; rw [this, VR]

theorem TmR.set {ν : Val} {s : STm} {a : Array Value} (r : TmR ν s a) (t : Nat) {x : SV} {y : Value} (h : VR ν x y) :
    TmR ν (s.set t x) (a.setIfInBounds t y) := by
  unfold STm.set
  by_cases ht : t < s.nt
  · rw [blt_iff.2 ht]
    refine ⟨by simp [r.size], r.full.set _ _, r.le, ?_⟩
    intro u hu
    have hu' : u < s.nt := hu
    show VR ν ((s.T.set t x).get u) _
    rw [Tr.get_set r.full (Nat.lt_of_lt_of_le ht r.le) (Nat.lt_of_lt_of_le hu' r.le)]
    by_cases e : u = t
    · subst e
      simp [Array.getD, r.size, hu', h]
    · have := r.get u hu'
      simp only [Array.getD, Array.size_setIfInBounds] at this ⊢
      rw [if_neg e]
      have hs : u < a.size := by rw [r.size]; exact hu'
      rw [dif_pos hs] at this ⊢
      have : (a.setIfInBounds t y)[u]'(by simpa using hs) = a[u] := by
        rw [Array.getElem_setIfInBounds hs, if_neg (fun e' => e e'.symm)]
      first | (rw [this]; assumption) | simp_all
  · rw [blt_false ht]
    have : a.setIfInBounds t y = a := by
      rw [Array.setIfInBounds, dif_neg (by rw [r.size]; exact ht)]
    simp only [cond_false]; rw [this]; exact r

/-- A deferred call. -/
inductive SDef where
  | fn (fn : Fn) (capt args : List SV)
  | coll (i : Nat)

def DefR (ν : Val) : SDef → Deferred → Prop
  | .fn f c a, d => ∃ c' a' : List Value, d = { target := .fn f c'.toArray, args := a'.toArray } ∧ VRL ν c c' ∧ VRL ν a a'
  | .coll i, d => ∃ b, ν i = some b ∧ d = { target := .collected b.1, args := #[] }

def DefsR (ν : Val) : List SDef → List Deferred → Prop
  | [], l => l = []
  | x :: xs, l => ∃ z zs, l = z :: zs ∧ DefR ν x z ∧ DefsR ν xs zs

theorem DefR.mono {ν ν' : Val} (h : ν.Le ν') : ∀ {s : SDef} {d : Deferred}, DefR ν s d → DefR ν' s d
  | .fn _ _ _, _, ⟨c', a', e, hc, ha⟩ => ⟨c', a', e, hc.mono h, ha.mono h⟩
  | .coll _, _, ⟨b, hb, e⟩ => ⟨b, h _ _ hb, e⟩
theorem DefsR.mono {ν ν' : Val} (h : ν.Le ν') : ∀ {l : List SDef} {ds : List Deferred}, DefsR ν l ds → DefsR ν' l ds
  | [], _, e => e
  | _ :: _, _, ⟨z, zs, e, hz, hs⟩ => ⟨z, zs, e, hz.mono h, DefsR.mono h hs⟩

/-- An object. 'look': a row of which only the first cells' values are told. 'ext': a row of which only the first cells are told; it has room for 'cap' elements of so many cells. -/
inductive SO where
  | row (xs : List SV) (elem : TypeId) (fz : Nat × Nat) (ext : Option Nat)
  | look (xs : List SV)
  | rowO (n : Nat) (f : Nat → Value) (elem : TypeId) (fz : Nat × Nat) (ext : Option Nat)
  | map (es : List (SV × SV × Nat)) (clock : Nat)
  | siter (s : ByteArray) (pos : Nat)
  | miter (m : Option Nat) (since : Nat) (seen : List Nat) (stepped : Nat)
  | loop (st : LoopState) (pending : Option Code) (fn : FuncId) (tm : STm) (params : List Tmp) (assign body : Code) (defers : Nat)
  | dfr (calls : Option (List SDef))

/-- What of a row is frozen: (1, 0) stands for the mark behind a text's bytes. -/
def fzReal (fz : Nat × Nat) (n : Nat) : Nat × Nat := bif Nat.beq fz.1 1 && Nat.beq fz.2 0 then (n, n + 1) else fz
@[simp] theorem fzReal_zero (n : Nat) : fzReal (0, 0) n = (0, 0) := rfl

def ExtR (ν : Val) (i : Nat) (n : Nat) (size : Nat) : Option Nat → Prop
  | none => size = n
  | some e => n ≤ size ∧ ∃ b, ν i = some b ∧ size = b.2 * e

def EntR (ν : Val) : List (SV × SV × Nat) → List MapEntry → Prop
  | [], l => l = []
  | x :: xs, l => ∃ z zs, l = z :: zs ∧ VR ν x.1 z.key ∧ VR ν x.2.1 z.val ∧ x.2.2 = z.born ∧ EntR ν xs zs

theorem EntR.mono {ν ν' : Val} (h : ν.Le ν') : ∀ {l : List (SV × SV × Nat)} {ds : List MapEntry}, EntR ν l ds → EntR ν' l ds
  | [], _, e => e
  | _ :: _, _, ⟨z, zs, e, h1, h2, h3, hs⟩ => ⟨z, zs, e, VR.mono h _ _ h1, VR.mono h _ _ h2, h3, EntR.mono h hs⟩

def OR (ν : Val) (i : Nat) : SO → Obj → Prop
  | .row xs elem fz ext, o => ∃ ys rest : List Value, o = .cells (ys ++ rest).toArray elem (fzReal fz (ys ++ rest).length) ∧ VRL ν xs ys ∧ ExtR ν i xs.length (ys ++ rest).length ext
  | .look xs, o => ∃ (ys : List Value) (c : Array Value) (e : TypeId) (fz : Nat × Nat), o = .cells c e fz ∧ VRL ν xs ys ∧ ∀ (k : Nat) (y : Value), ys[k]? = some y → c[k]? = some y
  | .rowO n f elem fz ext, o => ∃ c : Array Value, o = .cells c elem (fzReal fz c.size) ∧ (∀ k, k < n → c[k]? = some (f k)) ∧ ExtR ν i n c.size ext
  | .map es clock, o => ∃ l : List MapEntry, o = .map l.toArray clock ∧ EntR ν es l
  | .siter s pos, o => o = .stringIter s pos
  | .miter none since seen stepped, o => o = .mapIter none since seen.toArray stepped
  | .miter (some m) since seen stepped, o => ∃ b, ν m = some b ∧ o = .mapIter (some b.1) since seen.toArray stepped
  | .loop st pending fn tm params assign body defers, o => ∃ (a : Array Value) (b : Nat × Nat), ν defers = some b ∧ TmR ν tm a ∧
      o = .loop { state := st, pending, fn, tmps := a, params := params.toArray, assign, body, defers := b.1 }
  | .dfr none, o => o = .deferred none
  | .dfr (some l), o => ∃ ds, o = .deferred (some ds) ∧ DefsR ν l ds

theorem ExtR.mono {ν ν' : Val} (h : ν.Le ν') {i n size : Nat} : ∀ {e : Option Nat}, ExtR ν i n size e → ExtR ν' i n size e
  | none, r => r
  | some _, ⟨r, b, hb, e⟩ => ⟨r, b, h _ _ hb, e⟩

theorem OR.mono {ν ν' : Val} (h : ν.Le ν') {i : Nat} : ∀ {s : SO} {o : Obj}, OR ν i s o → OR ν' i s o
  | .row .., _, ⟨ys, rest, e, hl, hx⟩ => ⟨ys, rest, e, hl.mono h, hx.mono h⟩
  | .look .., _, ⟨ys, c, e, fz, ho, hl, hx⟩ => ⟨ys, c, e, fz, ho, hl.mono h, hx⟩
  | .rowO .., _, ⟨c, e, hl, hx⟩ => ⟨c, e, hl, hx.mono h⟩
  | .map .., _, ⟨l, e, hl⟩ => ⟨l, e, hl.mono h⟩
  | .siter .., _, e => e
  | .miter none .., _, e => e
  | .miter (some _) .., _, ⟨b, hb, e⟩ => ⟨b, h _ _ hb, e⟩
  | .loop .., _, ⟨a, b, hb, ha, e⟩ => ⟨a, b, h _ _ hb, ha.mono h, e⟩
  | .dfr none, _, e => e
  | .dfr (some _), _, ⟨ds, e, hd⟩ => ⟨ds, e, hd.mono h⟩

/-- What is told of a choice: a truth; what cells are read (or appended, behind which others). -/
inductive Ans where
  | b (t : Bool)
  | cells (l : List SV)
  | app (old new : List SV)
  | app0
  | put
  | str (b : ByteArray)
  | eqs (b : Bool)
  | hit (j : Nat) (x : SV) (born : Nat)
  | miss
  | ent (k x : SV)

/-- The symbolic memory: the objects (with the mark: may it be written), the next number, what is owed, how many choices were made; what is told of choices. -/
structure SH where
  d : Nat
  H : Tr (Option (SO × Bool))
  nx : Nat
  obl : List Prop
  dc : Nat
  orc : Nat → Option Ans := fun _ => none
  soft : Bool := false

/-- All that is owed. -/
def Owed : List Prop → Prop
  | [] => True
  | p :: l => Owed l ∧ p

def SH.ob (s : SH) : Prop := Owed s.obl

theorem Owed.append : ∀ {l m : List Prop}, Owed (l ++ m) → Owed l ∧ Owed m
  | [], _, h => ⟨trivial, h⟩
  | _ :: _, _, h => ⟨⟨(Owed.append h.1).1, h.2⟩, (Owed.append h.1).2⟩

/-- Whose a block is: 'm': an old one that may turn; 'r': an old one that is told and may not turn; 'h': one of ours that is hidden. -/
structure Own where
  m : Nat → Prop
  r : Nat → Prop
  h : Nat → Prop
instance : CoeFun Own (fun _ => Nat → Prop) := ⟨Own.m⟩

/-- Nothing old may turn. -/
def Own.just (r : Nat → Prop) : Own := ⟨fun _ => False, r, fun _ => False⟩

/-- What a memory stands for. w0: the world in which the call began; M: which old blocks may turn. -/
structure HR (ν : Val) (M : Own) (w0 : World) (s : SH) (w : World) : Prop where
  full : Tr.Full s.d s.H
  dom : ∀ i, 2 ^ s.d ≤ i → ν i = none
  fresh : ∀ i, s.nx ≤ i → ν i = none
  obj : ∀ i, i < 2 ^ s.d → ∀ x, s.H.get i = some x → ∃ b o, ν i = some b ∧ w.heap[b.1]? = some o ∧ OR ν i x.1 o ∧ (x.2 = true → w0.heap.size ≤ b.1 ∨ M b.1)
  inj : ∀ i j, i < 2 ^ s.d → j < 2 ^ s.d → s.H.get i ≠ none → s.H.get j ≠ none → ∀ b c, ν i = some b → ν j = some c → b.1 = c.1 → i = j
  size : w0.heap.size ≤ w.heap.size
  frame : ∀ b, b < w0.heap.size → ¬ M b → w.heap[b]? = w0.heap[b]?
  ro : ∀ i, i < 2 ^ s.d → ∀ x, s.H.get i = some x → x.2 = false → ∀ b, ν i = some b → M.r b.1
  os : w.os = w0.os
  tape : w.tape = w0.tape
  output : w.output = w0.output

theorem HR.below {ν : Val} {r : Nat → Prop} {w0 w : World} {s : SH} (h : HR ν (Own.just r) w0 s w) : Below w0.heap.size w0 w :=
  ⟨h.os, h.tape, h.output, h.size, fun k hk => h.frame k hk id⟩

def SH.look (s : SH) (i : Nat) : Option (SO × Bool) := bif Nat.blt i (2 ^ s.d) then s.H.get i else none

theorem HR.look {ν : Val} {M : Own} {w0 w : World} {s : SH} (h : HR ν M w0 s w) {i : Nat} {x : SO × Bool} (e : s.look i = some x) :
    i < 2 ^ s.d ∧ s.H.get i = some x ∧ ∃ b o, ν i = some b ∧ w.heap[b.1]? = some o ∧ OR ν i x.1 o ∧ (x.2 = true → w0.heap.size ≤ b.1 ∨ M b.1) := by
  unfold SH.look at e
  cases hb : Nat.blt i (2 ^ s.d)
  · rw [hb] at e; cases e
  · rw [hb] at e
    exact ⟨blt_iff.1 hb, e, h.obj i (blt_iff.1 hb) x e⟩

/-- A draw (or any other turn of the count of draws) turns nothing here. -/
theorem HR.drawn {ν : Val} {M : Own} {w0 w : World} {s : SH} (h : HR ν M w0 s w) (n : Nat) : HR ν M w0 s { w with drawn := n } :=
  ⟨h.full, h.dom, h.fresh, h.obj, h.inj, h.size, h.frame, h.ro, h.os, h.tape, h.output⟩

/-- An object is written anew. -/
def SH.put (s : SH) (i : Nat) (o : SO) : SH := { s with H := s.H.set i (some (o, true)) }

theorem HR.put {ν : Val} {M : Own} {w0 w w' : World} {s : SH} (h : HR ν M w0 s w) {i : Nat} {x : SO} (e : s.look i = some (x, true)) {o : SO} {r : Obj} {b : Nat × Nat}
    (hb : ν i = some b) (ho : OR ν i o r) (hw : w'.heap = w.heap.setIfInBounds b.1 r) (hos : w'.os = w.os) (ht : w'.tape = w.tape) (hout : w'.output = w.output) :
    HR ν M w0 (s.put i o) w' := by
  obtain ⟨hi, hg, b', o', hb', ho', _, hown⟩ := h.look e
  obtain rfl : b = b' := by rw [hb] at hb'; exact Option.some.inj hb'
  have hown := hown rfl
  have hlt : b.1 < w.heap.size := (Array.getElem?_eq_some_iff.1 ho').1
  refine ⟨h.full.set _ _, h.dom, h.fresh, ?_, ?_, ?_, ?_, ?_, hos.trans h.os, ht.trans h.tape, hout.trans h.output⟩
  · intro j hj y hy
    have hy : (s.H.set i (some (o, true))).get j = some y := hy
    rw [Tr.get_set h.full hi hj] at hy
    by_cases eij : j = i
    · subst eij
      rw [if_pos rfl] at hy
      cases hy
      exact ⟨b, r, hb, by rw [hw]; simp [hlt], ho, fun _ => hown⟩
    · rw [if_neg eij] at hy
      obtain ⟨c, oc, hc, hoc, hr, ho2⟩ := h.obj j hj y hy
      refine ⟨c, oc, hc, ?_, hr, ho2⟩
      rw [hw, Array.getElem?_setIfInBounds]
      rw [if_neg]
      · exact hoc
      · intro ec
        exact eij (h.inj j i hj hi (by rw [hy]; simp) (by rw [hg]; simp) c b hc hb ec.symm)
  · intro j k hj hk hgj hgk c c' hc hc' ec
    have f : ∀ u, u < 2 ^ s.d → (s.put i o).H.get u ≠ none → s.H.get u ≠ none := by
      intro u hu hn
      have hn : (s.H.set i (some (o, true))).get u ≠ none := hn
      rw [Tr.get_set h.full hi hu] at hn
      by_cases eu : u = i
      · subst eu; rw [hg]; simp
      · rwa [if_neg eu] at hn
    exact h.inj j k hj hk (f j hj hgj) (f k hk hgk) c c' hc hc' ec
  · rw [hw]; simpa using h.size
  · intro c hc hM
    rw [hw, Array.getElem?_setIfInBounds, if_neg, h.frame c hc hM]
    intro ec
    subst ec
    rcases hown with h1 | h1
    · omega
    · exact hM h1
  · intro j hj y hy hf c hc
    have hy : (s.H.set i (some (o, true))).get j = some y := hy
    rw [Tr.get_set h.full hi hj] at hy
    by_cases eij : j = i
    · rw [if_pos eij] at hy; cases hy; cases hf
    · rw [if_neg eij] at hy
      exact h.ro j hj y hy hf c hc

/-- An object is forgotten. -/
def SH.drop (s : SH) (i : Nat) : SH := { s with H := s.H.set i none }
theorem HR.drop {ν : Val} {M : Own} {w0 w : World} {s : SH} (h : HR ν M w0 s w) {i : Nat} (hi : i < 2 ^ s.d) : HR ν M w0 (s.drop i) w := by
  have f : ∀ u, u < 2 ^ s.d → ∀ x, (s.drop i).H.get u = some x → s.H.get u = some x := by
    intro u hu x hn
    have hn : (s.H.set i none).get u = some x := hn
    rw [Tr.get_set h.full hi hu] at hn
    by_cases eu : u = i
    · rw [if_pos eu] at hn; cases hn
    · rwa [if_neg eu] at hn
  refine ⟨h.full.set _ _, h.dom, h.fresh, fun j hj x hx => h.obj j hj x (f j hj x hx), ?_, h.size, h.frame, fun j hj x hx => h.ro j hj x (f j hj x hx), h.os, h.tape, h.output⟩
  intro j k hj hk hgj hgk
  have g : ∀ u, u < 2 ^ s.d → (s.drop i).H.get u ≠ none → s.H.get u ≠ none := by
    intro u hu hn
    cases hx : (s.drop i).H.get u with
    | none => exact absurd hx hn
    | some x => rw [f u hu x hx]; simp
  exact h.inj j k hj hk (g j hj hgj) (g k hk hgk)

/-- A new object. -/
def SH.new (s : SH) (o : SO) : SH := { s with H := s.H.set s.nx (some (o, true)), nx := s.nx + 1 }
/-- Is there a number left? -/
def SH.room (s : SH) : Bool := Nat.blt s.nx (2 ^ s.d)

def Val.put (ν : Val) (i : Nat) (b : Nat × Nat) : Val := fun j => if j = i then some b else ν j
theorem Val.put_self (ν : Val) (i : Nat) (b : Nat × Nat) : ν.put i b i = some b := by simp [Val.put]
theorem Val.put_le {ν : Val} {i : Nat} (h : ν i = none) (b : Nat × Nat) : ν.Le (ν.put i b) := by
  intro j c hc
  unfold Val.put
  by_cases e : j = i
  · subst e; rw [h] at hc; cases hc
  · rw [if_neg e]; exact hc

/-- What is needed of a new block: it lies behind all, or it takes the place of one that has just been forgotten. -/
theorem HR.new {ν : Val} {M : Own} {w0 w w' : World} {s : SH} (h : HR ν M w0 s w) (hr : s.room = true) {o : SO} {r : Obj} (c : Nat)
    (ho : OR (ν.put s.nx (w.heap.size, c)) s.nx o r)
    (hw : w'.heap = w.heap.push r) (hos : w'.os = w.os) (ht : w'.tape = w.tape) (hout : w'.output = w.output) :
    ν s.nx = none ∧ HR (ν.put s.nx (w.heap.size, c)) M w0 (s.new o) w' := by
  have hnx : ν s.nx = none := h.fresh _ (Nat.le_refl _)
  have hlt : s.nx < 2 ^ s.d := blt_iff.1 hr
  have hle := Val.put_le hnx (w.heap.size, c)
  have hput : ∀ j, j ≠ s.nx → (ν.put s.nx (w.heap.size, c)) j = ν j := fun j e => by simp [Val.put, e]
  have blt : ∀ j, j < 2 ^ s.d → s.H.get j ≠ none → ∀ b, ν j = some b → b.1 < w.heap.size := by
    intro j hj hn b hb
    cases hx : s.H.get j with
    | none => exact absurd hx hn
    | some x =>
      obtain ⟨b', o', hb', ho', _⟩ := h.obj j hj x hx
      rw [hb] at hb'; cases hb'
      exact (Array.getElem?_eq_some_iff.1 ho').1
  refine ⟨hnx, h.full.set _ _, ?_, ?_, ?_, ?_, ?_, ?_, ?_, hos.trans h.os, ht.trans h.tape, hout.trans h.output⟩
  · intro i hi
    have hi : 2 ^ s.d ≤ i := hi
    rw [hput i (by omega)]; exact h.dom i hi
  · intro i hi
    have hi : s.nx + 1 ≤ i := hi
    rw [hput i (by omega)]; exact h.fresh i (by omega)
  · intro j hj y hy
    have hj : j < 2 ^ s.d := hj
    have hy : (s.H.set s.nx (some (o, true))).get j = some y := hy
    rw [Tr.get_set h.full hlt hj] at hy
    by_cases e : j = s.nx
    · subst e
      rw [if_pos rfl] at hy
      cases hy
      exact ⟨(w.heap.size, c), r, Val.put_self _ _ _, by rw [hw]; simp, ho, fun _ => .inl h.size⟩
    · rw [if_neg e] at hy
      obtain ⟨b, o', hb, ho', hr', hown⟩ := h.obj j hj y hy
      have := (Array.getElem?_eq_some_iff.1 ho').1
      exact ⟨b, o', by rw [hput j e]; exact hb, by rw [hw, Array.getElem?_push, if_neg (by omega)]; exact ho', hr'.mono hle, hown⟩
  · intro i j hi hj hgi hgj b b' hb hb' e
    have hi : i < 2 ^ s.d := hi
    have hj : j < 2 ^ s.d := hj
    have g : ∀ u, u < 2 ^ s.d → u ≠ s.nx → (s.new o).H.get u ≠ none → s.H.get u ≠ none := by
      intro u hu ne hn
      have hn : (s.H.set s.nx (some (o, true))).get u ≠ none := hn
      rwa [Tr.get_set h.full hlt hu, if_neg ne] at hn
    by_cases ei : i = s.nx <;> by_cases ej : j = s.nx
    · rw [ei, ej]
    · subst ei
      rw [Val.put_self] at hb; cases hb
      rw [hput j ej] at hb'
      have := blt j hj (g j hj ej hgj) b' hb'
      simp at e; omega
    · subst ej
      rw [Val.put_self] at hb'; cases hb'
      rw [hput i ei] at hb
      have := blt i hi (g i hi ei hgi) b hb
      simp at e; omega
    · rw [hput i ei] at hb
      rw [hput j ej] at hb'
      exact h.inj i j hi hj (g i hi ei hgi) (g j hj ej hgj) b b' hb hb' e
  · rw [hw]; simp; have := h.size; omega
  · intro b hb hM
    have := h.size
    rw [hw, Array.getElem?_push, if_neg (by omega)]
    exact h.frame b hb hM
  · intro j hj y hy hf b hb
    have hj : j < 2 ^ s.d := hj
    have hy : (s.H.set s.nx (some (o, true))).get j = some y := hy
    rw [Tr.get_set h.full hlt hj] at hy
    by_cases e : j = s.nx
    · rw [if_pos e] at hy; cases hy; cases hf
    · rw [if_neg e] at hy
      rw [hput j e] at hb
      exact h.ro j hj y hy hf b hb

end Go.Rx
set_option linter.unusedVariables false
set_option linter.unusedSimpArgs false
namespace Go.Rx

inductive SI where
  | code (c : Code)
  | inBlock (id : Nat)
  | inLoop (body : Code)
  | inScope (body : Code)
  | reg (ops : Array Oper) (todo : List Nat)
  | drw (ops : Array Oper) (rem pend : List Nat)
  | inRF (i : Nat)
  | endRF (i : Nat)
  | beginRound

structure SF where
  fn : FuncId
  tm : STm
  todo : List SI
  defers : List SDef
  ret : Bool
  kind : CallKind
  ro : Option Nat

structure SM where
  top : SF
  callers : List SF
  mem : SH

inductive SNext where
  | val (x : SV)
  | enter (f : FuncId) (args : List SV)
  | round (i : Nat) (args : List SV)
  | defer (d : SDef)

/-- A function without a body: what the model does in its place. -/
inductive ExtK where
  | same
  | pure (f : Array Value → Sem Value)
  | makeNoZero (params : Array TypeId) (t : TypeId)
  | mapsClone
  | typeOf
  | valueOf
  | valType
  | valIsNil
  | valElem
  | valSet

structure Env where
  P : Program
  ext : FuncId → Option ExtK
  G : List (Nat × Nat)
  orc : Nat → Option Bool
  sums : FuncId → Option (List SV → SH → Option (SV × SH))
  qs : FuncId → Option (List SV → Option (List SV))

def SH.says (s : SH) (E : Env) : Option Bool := match s.orc s.dc with | some (.b t) => some t | _ => E.orc s.dc

/-- A choice: as the oracle says (and then it is owed), or as it is reckoned. -/
def SH.dec (s : SH) (E : Env) (b : Bool) : Bool × SH :=
  match s.says E with
  | some t => (t, { s with obl := (b = t) :: s.obl, dc := s.dc + 1 })
  | none => (b, { s with dc := s.dc + 1 })

/-- What must hold. -/
def SH.ask (s : SH) (E : Env) (b : Bool) : Option SH :=
  match s.says E with
  | some _ => some { s with obl := (b = true) :: s.obl, dc := s.dc + 1 }
  | none => bif s.soft then some { s with obl := (b = true) :: s.obl, dc := s.dc + 1 } else bif b then some { s with dc := s.dc + 1 } else none

def guard' (b : Bool) : Option Unit := bif b then some () else none

/-! ### values -/

def SV.flat : SV → Bool
  | .agg _ | .tup _ | .junk => false
  | .v (.agg _) | .v (.tuple _) => false
  | _ => true

def SV.cells : SV → Option (List SV)
  | .agg l => some l
  | .v (.agg cs) => some (cs.toList.map .v)
  | .junk => none
  | x => some [x]

def SV.tuple : SV → Option (List SV)
  | .tup l => some l
  | .v (.tuple vs) => some (vs.toList.map .v)
  | _ => none

def evalOpd (E : Env) (tm : STm) : Operand → SV
  | .tmp t => tm.get t
  | .const v => .v v
  | .global g => match E.G.lookup g with | some i => .ptr i 0 | none => .v (.pointer (some ⟨g, 0, none⟩))
  | .func f => .v (.func (.func f) #[] #[])

mutual
def plainV : SV → Option Value
  | .v x => some x
  | .agg l => (plainVs l).map fun vs => .agg vs.toArray
  | .tup l => (plainVs l).map fun vs => .tuple vs.toArray
  | .iface t x => (plainV x).map (.iface t ·)
  | .junk => none
  | .ptr _ _ => none
  | .sl _ _ _ _ => none
  | .map _ => none
  | .func _ _ _ => none
  | .yield _ => none
  | .fin _ _ _ _ => none
def plainVs : List SV → Option (List Value)
  | [] => some []
  | x :: xs => match plainV x, plainVs xs with
    | some v, some vs => some (v :: vs)
    | _, _ => none
end

def pureRun {α : Type} (P : Program) : Sem α → Option α
  | .pure a => some a
  | .program k => pureRun P (k P)
  | _ => none

def allPlain (E : Env) (tm : STm) (l : List Operand) : Bool := l.all fun x => (plainV (evalOpd E tm x)).isSome

/-- An operation over plain values, by the model's own meaning, where that looks at no memory. -/
def sPure (E : Env) (tm : STm) (o : Oper) : Option SV :=
  bif allPlain E tm o.op.operands.toList then
  match pureRun E.P (execOp (fun x => (plainV (evalOpd E tm x)).getD undef) o) with
  | some (.value x) => some (.v x)
  | _ => none
  else none

def tdesc (E : Env) (t : TypeId) : Option TypeDesc := E.P.underlying t
def tinfo (E : Env) (t : TypeId) : Option TypeInfo := E.P.info? t

def aggType (E : Env) (t : TypeId) : Option Bool :=
  match tdesc E t with
  | some (.struct _) | some (.array _ _) => some true
  | some _ => some false
  | none => none

/-! ### memory -/

def fzOk (fz : Nat × Nat) (off n : Nat) : Bool := Nat.ble fz.2 fz.1 || Nat.ble (off + n) fz.1 || Nat.ble fz.2 off

/-- Something is owed. -/
def SH.owe (s : SH) (p : Prop) : SH := { s with obl := p :: s.obl, dc := s.dc + 1 }

/-- The cells of a row that are told. -/
def SO.told : SO → Option (List SV)
  | .row xs _ _ _ => some xs
  | .look xs => some xs
  | _ => none

/-- Cells that lie where it is told only by letters. -/
def sLoadQ (E : Env) (t : TypeId) (a : SV) (l : List SV) (s : SH) : Option (SV × SH) :=
  match a, aggType E t, tinfo E t with
  | .ptr i off, some ag, some info =>
    match (s.look i).bind (·.1.told) with
    | some xs =>
      bif ag then some (.agg l, s.owe ((xs.drop off).take info.size = l ∧ l.length = info.size))
      else match l with
        | [x] => some (x, s.owe (xs[off]? = some x))
        | _ => none
    | none => none
  | _, _, _ => none

def sLoad0 (E : Env) (t : TypeId) (a : SV) (s : SH) : Option (SV × SH) :=
  match a, aggType E t, tinfo E t with
  | .ptr i off, some false, _ =>
    match s.look i with
    | some (.row xs _ _ _, _) => (xs[off]?).map (·, s)
    | some (.look xs, _) => (xs[off]?).map (·, s)
    | some (.rowO n f _ _ _, _) => (s.ask E (Nat.blt off n)).map (SV.v (f off), ·)
    | _ => none
  | .ptr i off, some true, some info =>
    match s.look i with
    | some (.row xs _ _ _, _) => bif Nat.ble (off + info.size) xs.length then some (.agg ((xs.drop off).take info.size), s) else none
    | some (.rowO n f _ _ _, _) => (s.ask E (Nat.ble (off + info.size) n)).map (SV.agg ((List.range info.size).map fun k => .v (f (off + k))), ·)
    | _ => none
  | _, _, _ => none

def sLoad (E : Env) (t : TypeId) (a : SV) (s : SH) : Option (SV × SH) :=
  match s.orc s.dc with
  | some (.cells l) => sLoadQ E t a l s
  | _ => sLoad0 E t a s

/-- A row with the cells from 'off' on overwritten: in one go (a row may be long). -/
def splice : List SV → Nat → List SV → List SV
  | [], _, _ => []
  | x :: xs, 0, ys => match ys with | [] => x :: xs | y :: zs => y :: splice xs 0 zs
  | x :: xs, k + 1, ys => x :: splice xs k ys
theorem splice_nil : ∀ (xs : List SV) (off : Nat), splice xs off [] = xs
  | [], _ => rfl
  | x :: xs, 0 => rfl
  | x :: xs, k + 1 => by rw [splice, splice_nil xs k]
theorem splice_cons : ∀ (xs : List SV) (off : Nat) (y : SV) (ys : List SV), splice xs off (y :: ys) = splice (xs.set off y) (off + 1) ys
  | [], _, _, _ => rfl
  | x :: xs, 0, _, _ => rfl
  | x :: xs, k + 1, y, ys => by rw [splice, splice_cons xs k y ys, List.set_cons_succ, splice]

def sStoreQ (E : Env) (t : TypeId) (a x : SV) (s : SH) : Option SH :=
  match a, x.cells, tinfo E t with
  | .ptr i off, some l, some info =>
    bif l.length == info.size && l.all SV.flat then
      match s.look i with
      | some (.row xs e fz ext, true) => some ((s.owe (off + l.length ≤ xs.length ∧ fzOk fz off l.length = true)).put i (.row (splice xs off l) e fz ext))
      | _ => none
    else none
  | _, _, _ => none

def sStore0 (E : Env) (t : TypeId) (a x : SV) (s : SH) : Option SH :=
  match a, x.cells, tinfo E t with
  | .ptr i off, some l, some info =>
    bif l.length == info.size && l.all SV.flat then
      match s.look i with
      | some (.row xs e fz ext, true) =>
        bif Nat.ble (off + l.length) xs.length && fzOk fz off l.length then some (s.put i (.row (splice xs off l) e fz ext)) else none
      | _ => none
    else none
  | _, _, _ => none

def sStore (E : Env) (t : TypeId) (a x : SV) (s : SH) : Option SH :=
  match s.orc s.dc with
  | some .put => sStoreQ E t a x s
  | _ => sStore0 E t a x s

def sNew (o : SO) (s : SH) : Option (Nat × SH) := bif s.room then some (s.nx, s.new o) else none

def sBox (t : TypeId) (x : SV) (s : SH) : Option (SV × SH) := do
  let l ← x.cells
  let (i, s) ← sNew (.row l t (0, 0) none) s
  some (.ptr i 0, s)

def sAlloc (E : Env) (t : TypeId) (s : SH) : Option (SV × SH) := do
  let info ← tinfo E t
  let z ← info.zero
  sBox t (.v z) s

def sFieldAddr (E : Env) (t : TypeId) (x : SV) (f : Nat) : Option SV :=
  match x, tdesc E t with
  | .ptr i off, some (.struct fields) =>
    match fields[f]? with
    | some fd => match tinfo E fd.type with
      | some info => bif info.size == 0 then none else some (.ptr i (off + fd.offset))
      | none => none
    | none => none
  | _, _ => none

def sField (E : Env) (t : TypeId) (x : SV) (f : Nat) : Option SV :=
  match x, tdesc E t with
  | .agg l, some (.struct fields) =>
    match fields[f]? with
    | some fd => match aggType E fd.type, tinfo E fd.type with
      | some false, _ => l[fd.offset]?
      | some true, some info => bif Nat.ble (fd.offset + info.size) l.length then some (.agg ((l.drop fd.offset).take info.size)) else none
      | _, _ => none
    | none => none
  | _, _ => none

def SV.int : SV → Option (IntKind × Int)
  | .v (.int k n) => some (k, n)
  | _ => none

def inRange (i : Int) (n : Nat) : Bool := decide (0 ≤ i ∧ i < n)

def sIndexAddr (E : Env) (t : TypeId) (x i : SV) (s : SH) : Option (SV × SH) :=
  match i.int, tdesc E t, x with
  | some (_, n), some (.array len elem), .ptr b off => do
    let s ← s.ask E (inRange n len)
    let info ← tinfo E elem
    some (.ptr b (off + n.toNat * info.size), s)
  | some (_, n), some (.slice elem), .sl b off len _ => do
    let s ← s.ask E (inRange n len)
    let info ← tinfo E elem
    some (.ptr b (off + n.toNat * info.size), s)
  | _, _, _ => none

def sIndex (E : Env) (t : TypeId) (x i : SV) (s : SH) : Option (SV × SH) :=
  match i.int, tdesc E t, x with
  | some (_, n), some (.array len elem), .agg l => do
    let s ← s.ask E (inRange n len)
    let info ← tinfo E elem
    match aggType E elem with
    | some false => (l[n.toNat * info.size]?).map (·, s)
    | some true => bif Nat.ble (n.toNat * info.size + info.size) l.length then some (.agg ((l.drop (n.toNat * info.size)).take info.size), s) else none
    | none => none
  | some (_, n), some (.array len elem), .v (.agg cs) => do
    let s ← s.ask E (inRange n len)
    let info ← tinfo E elem
    match aggType E elem with
    | some false => (cs[n.toNat * info.size]?).map (SV.v ·, s)
    | _ => none
  | some (_, n), some .string, .v (.string b) => do
    let s ← s.ask E (inRange n b.size)
    some (.v (.int .u8 ((b.data.getD n.toNat 0).toNat)), s)
  | _, _, _ => none

def optInt : Option SV → Option (Option Int)
  | none => some none
  | some x => match x.int with | some (_, n) => some (some n) | none => none

/-- The bounds of a slice expression: low, high. -/
def sBounds (E : Env) (len cap : Nat) (lo hi : Option Int) (s : SH) : Option (Nat × Nat × SH) := do
  let (h, s) ← match hi with
    | none => some (len, s)
    | some n => (s.ask E (decide (0 ≤ n ∧ n ≤ cap))).map (n.toNat, ·)
  let (l, s) ← match lo with
    | none => some (0, s)
    | some n => (s.ask E (decide (0 ≤ n ∧ n ≤ h))).map (n.toNat, ·)
  some (l, h, s)

def sBounds3 (E : Env) (m : Nat) (lo hi : Option Int) (s : SH) : Option (Nat × Nat × SH) := do
  let n ← hi
  let s ← s.ask E (decide (0 ≤ n ∧ n ≤ m))
  let (l, s) ← match lo with
    | none => some (0, s)
    | some k => (s.ask E (decide (0 ≤ k ∧ k ≤ n.toNat))).map (k.toNat, ·)
  some (l, n.toNat, s)

def sSlice (E : Env) (t : TypeId) (x : SV) (lo hi mx : Option SV) (s : SH) : Option (SV × SH) := do
  let lo ← optInt lo
  let hi ← optInt hi
  match tdesc E t, x, mx with
  | some .string, .v (.string b), none => do
    let (l, h, s) ← sBounds E b.size b.size lo hi s
    some (.v (.string (b.extract l h)), s)
  | some (.array n elem), .ptr b off, none => do
    let (l, h, s) ← sBounds E n n lo hi s
    let info ← tinfo E elem
    bif n == l then none else some (.sl b (off + l * info.size) (h - l) (some (n - l)), s)
  | some (.slice elem), .sl b off len (some cap), none => do
    let (l, h, s) ← sBounds E len cap lo hi s
    let info ← tinfo E elem
    let (e, s) := s.dec E (decide (cap = l))
    bif e then some (.sl b off (h - l) (some (cap - l)), s) else some (.sl b (off + l * info.size) (h - l) (some (cap - l)), s)
  | some (.slice elem), .sl b off len none, none => do
    let (l, h, s) ← sBounds E len len lo hi s
    let info ← tinfo E elem
    let (e, s) := s.dec E (l == 0)
    bif e then some (.sl b off h none, s) else
    (s.ask E (info.size == 1 && Nat.blt l len)).map fun s => (.sl b (off + l) (h - l) none, s)
  | some (.slice elem), .fin b off len adv, none => do
    let (_, _, s) ← sBounds E 0 0 lo hi s
    let _ ← tinfo E elem
    some (.fin b off len adv, s)
  | some (.slice elem), .sl b off len cap, some mx => do
    let m ← mx.int
    guard' hi.isSome
    let s ← s.ask E (decide (0 ≤ m.2 ∧ m.2 ≤ cap.getD len))
    let (l, h, s) ← sBounds3 E m.2.toNat lo hi s
    let info ← tinfo E elem
    let (e, s) := s.dec E (decide (m.2.toNat = l))
    bif e then some (.sl b off (h - l) (some (m.2.toNat - l)), s) else some (.sl b (off + l * info.size) (h - l) (some (m.2.toNat - l)), s)
  | _, _, _ => none

/-- The end of a slice of which it is not told whether it has room. -/
def sSliceB (E : Env) (t : TypeId) (x : SV) (lo hi mx : Option SV) (s : SH) : Option (List (SV × SH)) := do
  let lo ← optInt lo
  let hi ← optInt hi
  match tdesc E t, x, mx with
  | some (.slice elem), .sl b off len none, none => do
    let (l, h, s) ← sBounds E len len lo hi s
    let info ← tinfo E elem
    bif (info.size == 1 || off == 0) && Nat.beq l len && Nat.beq h len then some [(.fin b off l (l * info.size), s)] else none
  | _, _, _ => none

def zeros (info : TypeInfo) (n : Nat) : Option (List SV) :=
  match info.zero with
  | some z => bif z.cells.size == info.size then some ((List.replicate n (z.cells.toList.map SV.v)).flatten) else none
  | none => none

def sMakeSlice (E : Env) (t : TypeId) (len cap : SV) (s : SH) : Option (SV × SH) := do
  let (_, l) ← len.int
  let (_, c) ← cap.int
  match tdesc E t with
  | some (.slice elem) =>
    let info ← tinfo E elem
    guard' (decide (0 ≤ l ∧ l ≤ c ∧ info.bytes * c ≤ 2 ^ 40 ∧ c ≤ 2 ^ 40))
    let zs ← zeros info c.toNat
    let (i, s) ← sNew (.row zs elem (0, 0) none) s
    some (.sl i 0 l.toNat (some c.toNat), s)
  | _ => none

def fillS (place : Nat → Option (Nat × Nat)) (cells : List SV) : List (Nat × SV) → Option (List SV)
  | [] => some cells
  | (i, x) :: rest =>
    match place i, x.cells with
    | some (off, size), some l => bif l.length == size && Nat.ble (off + l.length) cells.length then fillS place (splice cells off l) rest else none
    | _, _ => none

def placesOf (E : Env) (fields : List Field) : Option (List (Nat × Nat)) :=
  match fields with
  | [] => some []
  | f :: fs => match tinfo E f.type, placesOf E fs with
    | some info, some l => some ((f.offset, info.size) :: l)
    | _, _ => none

def sBuild (E : Env) (t : TypeId) (parts : List (Nat × SV)) : Option SV := do
  let info ← tinfo E t
  let z ← info.zero
  match tdesc E t with
  | some (.struct fields) =>
    let pl ← placesOf E fields.toList
    (fillS (pl[·]?) (z.cells.toList.map .v) parts).map .agg
  | some (.array _ elem) =>
    let ei ← tinfo E elem
    (fillS (fun i => some (i * ei.size, ei.size)) (z.cells.toList.map .v) parts).map .agg
  | _ => none

def sBuildSlice (E : Env) (t : TypeId) (len : Nat) (parts : List (Nat × SV)) (s : SH) : Option (SV × SH) := do
  match tdesc E t with
  | some (.slice elem) =>
    let info ← tinfo E elem
    guard' (Nat.ble (len * info.size) 16777216)
    let zs ← zeros info len
    let l ← fillS (fun i => some (i * info.size, info.size)) zs parts
    let (i, s) ← sNew (.row l elem (0, 0) none) s
    some (.sl i 0 len (some len), s)
  | _ => none

/-- The first n elements' cells. -/
def sFirst (size n : Nat) (x : SV) (s : SH) : Option (List SV) :=
  match x with
  | .v (.slice none _ _) => some []
  | .v (.string b) => some ((b.extract 0 n).data.toList.map fun c => .v (.int .u8 c.toNat))
  | .fin _ _ _ _ => bif n == 0 then some [] else none
  | .sl i off _ _ => match s.look i with
    | some (.row xs _ _ _, _) => bif Nat.ble (off + n * size) xs.length then some ((xs.drop off).take (n * size)) else none
    | _ => none
  | _ => none

def sLen : SV → Option Nat
  | .v (.slice _ n _) => some n
  | .v (.string b) => some b.size
  | .sl _ _ n _ => some n
  | .fin _ _ _ _ => some 0
  | _ => none

/-- An append that grows. -/
def sGrow (info : TypeInfo) (elem : TypeId) (old new : List SV) (need : Nat) (s : SH) : Option (SV × SH) := do
  let z ← info.zero
  guard' (z.cells.size == info.size && Nat.ble ((2 * need + 1024) * info.bytes) (2 ^ 47) && !(info.bytes == 0))
  let (i, s) ← sNew (.row (old ++ new) elem (0, 0) (some info.size)) s
  some (.sl i 0 need none, s)

/-- What is appended: how many elements, and their cells. -/
def sAppended (E : Env) (xt : TypeId) (info : TypeInfo) (y : SV) (s : SH) : Option (Nat × List SV) :=
  match tdesc E xt with
  | some (.int _) => match y with
    | .v (.int _ m) => bif decide (0 ≤ m ∧ m ≤ 2 ^ 40) && Nat.ble (m.toNat * info.bytes) (2 ^ 47) then (zeros info m.toNat).map (m.toNat, ·) else none
    | _ => none
  | some _ => (sLen y).bind fun n => (sFirst info.size n y s).bind fun new => bif new.length == n * info.size then some (n, new) else none
  | none => none

/-- An append that grows, where it is owed that it may. -/
def sGrowQ (info : TypeInfo) (elem : TypeId) (old new : List SV) (need : Nat) (s : SH) : Option (SV × SH) :=
  (sNew (.row (old ++ new) elem (0, 0) (some info.size)) s).map fun p => (.sl p.1 0 need none, p.2)

/-- What is appended, by letters: how many elements, and what is owed for their cells to be 'new'. -/
def appendedQ (E : Env) (xt : TypeId) (info : TypeInfo) (y : SV) (new : List SV) (s : SH) : Option (Nat × Prop) :=
  match tdesc E xt with
  | some (.int _) => none
  | some _ => match y with
    | .v (.string b) => some (b.size, (b.data.toList.map fun c => SV.v (.int .u8 c.toNat)) = new)
    | .v (.slice none m _) => some (m, [] = new)
    | .sl i off len _ => ((s.look i).bind (·.1.told)).map fun xs => (len, (xs.drop off).take (len * info.size) = new)
    | _ => none
  | none => none

/-- An append to a row of which it is told by letters alone what it has. -/
def sAppendQ (E : Env) (st xt : TypeId) (x y : SV) (old new : List SV) (s : SH) : Option (SV × SH) :=
  match tdesc E st with
  | some (.slice elem) =>
    (tinfo E elem).bind fun info => info.zero.bind fun z => (appendedQ E xt info y new s).bind fun q =>
      bif z.cells.size == info.size && !(info.bytes == 0) && !(info.size == 0) then
        match x with
        | .v (.slice none 0 0) => sGrowQ info elem [] new q.1 (s.owe (((q.2 ∧ new.length = q.1 * info.size) ∧ q.1 ≠ 0 ∧ (2 * q.1 + 1024) * info.bytes ≤ 2 ^ 47) ∧ old = []))
        | .sl i off len (some cap) => ((s.look i).bind (·.1.told)).bind fun xs =>
          sGrowQ info elem old new (len + q.1) (s.owe (((q.2 ∧ new.length = q.1 * info.size) ∧ q.1 ≠ 0 ∧ (2 * (len + q.1) + 1024) * info.bytes ≤ 2 ^ 47) ∧ (xs.drop off).take (len * info.size) = old ∧ old.length = len * info.size ∧ cap < len + q.1))
        | .sl i 0 len none =>
          match s.look i with
          | some (.row xs el (0, 0) (some es), true) =>
            bif es == info.size && el == elem then
              sGrowQ info elem old new (len + q.1) ((s.owe (((q.2 ∧ new.length = q.1 * info.size) ∧ q.1 ≠ 0 ∧ (2 * (len + q.1) + 1024) * info.bytes ≤ 2 ^ 47) ∧ xs.take (len * info.size) = old ∧ old.length = len * info.size ∧ new.all SV.flat = true)).drop i)
            else none
          | _ => none
        | _ => none
      else none
  | _ => none

/-- An append of nothing, by letters. -/
def sAppend1 (E : Env) (st xt : TypeId) (x y : SV) (s : SH) : Option (SV × SH) :=
  match tdesc E st with
  | some (.slice elem) =>
    (tinfo E elem).bind fun info => (appendedQ E xt info y [] s).bind fun q =>
      match x with
      | .v (.slice none 0 0) | .sl _ _ _ _ => some (x, s.owe (q.2 ∧ q.1 = 0))
      | _ => none
  | _ => none

def sAppend0 (E : Env) (st xt : TypeId) (x y : SV) (s : SH) : Option (SV × SH) := do
  match tdesc E st with
  | some (.slice elem) =>
    let info ← tinfo E elem
    let (n, new) ← sAppended E xt info y s
    match x with
    | .v (.slice none 0 0) =>
      let (e, s) := s.dec E (decide (n = 0))
      bif e then some (.v (.slice none 0 0), s) else sGrow info elem [] new n s
    | .sl i off len (some cap) =>
      let (e, s) := s.dec E (decide (len + n ≤ cap))
      bif e then
        match s.look i with
        | some (.row xs el fz ext, true) =>
          bif Nat.ble (off + len * info.size + new.length) xs.length && fzOk fz (off + len * info.size) new.length && new.all SV.flat then
            some (.sl i off (len + n) (some cap), s.put i (.row (splice xs (off + len * info.size) new) el fz ext))
          else none
        | _ => none
      else do
        let old ← sFirst info.size len x s
        sGrow info elem old new (len + n) s
    | .sl i 0 len none =>
      let (e, s) := s.dec E (decide (n = 0))
      bif e then some (x, s) else
      match s.look i with
      | some (.row xs el (0, 0) (some es), true) =>
        bif (es == info.size && !(info.size == 0)) && Nat.ble (len * info.size) xs.length && new.all SV.flat && el == elem then
          bif Nat.ble ((len + n) * info.size) xs.length then
            some (.sl i 0 (len + n) none, s.put i (.row (splice xs (len * info.size) new) el (0, 0) (some es)))
          else do
            let z ← info.zero
            guard' (z.cells.size == info.size && Nat.ble ((2 * (len + n) + 1024) * info.bytes) (2 ^ 47) && !(info.bytes == 0))
            let (j, s) ← sNew (.row (xs.take (len * info.size) ++ new) elem (0, 0) (some es)) (s.drop i)
            some (.sl j 0 (len + n) none, s)
        else none
      | _ => none
    | _ => none
  | _ => none

def sAppend (E : Env) (st xt : TypeId) (x y : SV) (s : SH) : Option (SV × SH) :=
  match s.orc s.dc with
  | some (.app old new) => sAppendQ E st xt x y old new s
  | some .app0 => sAppend1 E st xt x y s
  | _ => sAppend0 E st xt x y s

def sCopy (E : Env) (dt : TypeId) (x y : SV) (s : SH) : Option (SV × SH) := do
  match tdesc E dt with
  | some (.slice elem) =>
    let info ← tinfo E elem
    let m ← sLen y
    match x with
    | .v (.slice none 0 0) => (sFirst info.size (Nat.min m 0) y s).map fun _ => (.v (.int .i64 0), s)
    | .sl i off len _ =>
      let n := Nat.min m len
      let l ← sFirst info.size n y s
      match s.look i with
      | some (.row xs e fz ext, true) =>
        bif Nat.ble (off + l.length) xs.length && fzOk fz off l.length && l.all SV.flat then
          some (.v (.int .i64 n), s.put i (.row (splice xs off l) e fz ext))
        else none
      | _ => none
    | _ => none
  | _ => none

/-! ### maps -/

/-- Is a key this one? (Keys that are numbers, texts, truths.) -/
def keyIs (E : Env) (kd : TypeDesc) (k k' : SV) (s : SH) : Option (Bool × SH) :=
  match kd, k, k' with
  | .int _, .v (.int a x), .v (.int b y) => bif a == b then some (s.dec E (x == y)) else none
  | .string, .v (.string x), .v (.string y) => some (s.dec E (x == y))
  | .bool, .v (.bool x), .v (.bool y) => some (s.dec E (x == y))
  | _, _, _ => none

def findS (E : Env) (kd : TypeDesc) (k : SV) : List (SV × SV × Nat) → Nat → SH → Option (Option (Nat × SV × Nat) × SH)
  | [], _, s => some (none, s)
  | e :: es, i, s =>
    match keyIs E kd k e.1 s with
    | some (true, s) => some (some (i, e.2.1, e.2.2), s)
    | some (false, s) => findS E kd k es (i + 1) s
    | none => none

/-- A key that is another text. -/
def keyNot (p : ByteArray) (k : SV) : Prop := ∃ b, k = .v (.string b) ∧ (p == b) = false
/-- The first entry of a text is this one; there is none. -/
def hitP (es : List (SV × SV × Nat)) (p : ByteArray) (j : Nat) (x : SV) (born : Nat) : Prop := (∀ e ∈ es.take j, keyNot p e.1) ∧ es[j]? = some (.v (.string p), x, born)
def missP (es : List (SV × SV × Nat)) (p : ByteArray) : Prop := ∀ e ∈ es, keyNot p e.1
/-- Where a key is, told by the oracle (keys that are texts), or entry by entry. -/
def findQ (E : Env) (kd : TypeDesc) (k : SV) (es : List (SV × SV × Nat)) (s : SH) : Option (Option (Nat × SV × Nat) × SH) :=
  match kd, k, s.orc s.dc with
  | .string, .v (.string p), some (.hit j x born) => some (some (j, x, born), s.owe (hitP es p j x born))
  | .string, .v (.string p), some .miss => some (none, s.owe (missP es p))
  | _, _, _ => findS E kd k es 0 s

def keyDesc (E : Env) (t : TypeId) : Option TypeDesc :=
  match tdesc E t with
  | some (.int k) => some (.int k)
  | some .string => some .string
  | some .bool => some .bool
  | _ => none

def sLookup (E : Env) (t : TypeId) (m k : SV) (ok : Bool) (s : SH) : Option (SV × SH) := do
  match tdesc E t with
  | some (.map kt et) =>
    let kd ← keyDesc E kt
    let zi ← tinfo E et
    let z ← zi.zero
    let es ← match m with
      | .v (.map none) => some []
      | .map i => match s.look i with | some (.map es _, _) => some es | _ => none
      | _ => none
    let (r, s) ← findQ E kd k es s
    match r with
    | some (_, x, _) => some (bif ok then .tup [x, .v (.bool true)] else x, s)
    | none => some (bif ok then .tup [.v z, .v (.bool false)] else .v z, s)
  | _ => none

def sMapUpdate (E : Env) (t : TypeId) (m k x : SV) (s : SH) : Option SH := do
  match tdesc E t, m with
  | some (.map kt _), .map i =>
    let kd ← keyDesc E kt
    match s.look i with
    | some (.map es clock, true) =>
      let (r, s) ← findQ E kd k es s
      match r with
      | some (j, _, _) => some (s.put i (.map (es.modify j fun e => (k, x, e.2.2)) clock))
      | none => some (s.put i (.map (es ++ [(k, x, clock)]) (clock + 1)))
    | _ => none
  | _, _ => none

def sMapEntry (E : Env) (t : TypeId) (m k : SV) (s : SH) : Option (SV × SH) := do
  match tdesc E t, m with
  | some (.map kt et), .map i =>
    let kd ← keyDesc E kt
    match s.look i with
    | some (.map es clock, true) =>
      let (r, s) ← findQ E kd k es s
      match r with
      | some (j, x, born) => some (.tup [x, .v (.int .i64 born)], s.put i (.map (es.modify j fun e => (k, e.2.1, e.2.2)) clock))
      | none =>
        let zi ← tinfo E et
        let z ← zi.zero
        some (.tup [.v z, .v (.int .i64 clock)], s.put i (.map (es ++ [(k, .v z, clock)]) (clock + 1)))
    | _ => none
  | _, _ => none

def findBorn (born : Int) : List (SV × SV × Nat) → Nat → Option Nat
  | [], _ => none
  | e :: es, i => bif decide ((e.2.2 : Int) = born) then some i else findBorn born es (i + 1)

def sEntryStore (m st x : SV) (s : SH) : Option SH := do
  match m, st.int with
  | .map i, some (_, born) =>
    match s.look i with
    | some (.map es clock, true) =>
      let j ← findBorn born es 0
      some (s.put i (.map (es.modify j fun e => (e.1, x, e.2.2)) clock))
    | _ => none
  | _, _ => none

def sDelete (E : Env) (t : TypeId) (m k : SV) (s : SH) : Option (SV × SH) := do
  match tdesc E t with
  | some (.map kt _) =>
    let kd ← keyDesc E kt
    match m with
    | .v (.map none) => some (.v (.tuple #[]), s)
    | .map i => match s.look i with
      | some (.map es clock, true) =>
        let (r, s) ← findQ E kd k es s
        match r with
        | some (j, _, _) => some (.v (.tuple #[]), s.put i (.map (es.eraseIdx j) clock))
        | none => some (.v (.tuple #[]), s)
      | _ => none
    | _ => none
  | _ => none

def sRange (E : Env) (t : TypeId) (x : SV) (s : SH) : Option (SV × SH) := do
  match tdesc E t, x with
  | some .string, .v (.string b) =>
    let (i, s) ← sNew (.siter b 0) s
    some (.ptr i 0, s)
  | some (.map _ _), .v (.map none) =>
    let (i, s) ← sNew (.miter none 0 [] 0) s
    some (.ptr i 0, s)
  | some (.map _ _), .map m =>
    match s.look m with
    | some (.map _ clock, _) =>
      let (i, s) ← sNew (.miter (some m) clock [] clock) s
      some (.ptr i 0, s)
    | _ => none
  | _, _ => none

/-- One step of an iterator: all that may come. -/
def sNextIt (x : SV) (isString : Bool) (s : SH) : Option (List (SV × SH)) :=
  match x, isString with
  | .ptr i 0, true =>
    match s.look i with
    | some (.siter b pos, true) =>
      bif Nat.blt pos b.size then
        some [(.tup [.v (.bool true), .v (.int .i64 pos), .v (.int .i32 (Utf8.decode b pos).1)], s.put i (.siter b (pos + (Utf8.decode b pos).2)))]
      else some [(.v (.tuple #[.bool false]), s)]
    | _ => none
  | .ptr i 0, false =>
    match s.look i with
    | some (.miter none _ _ _, _) => some [(.v (.tuple #[.bool false]), s)]
    | some (.miter (some m) since seen last, true) =>
      match s.look m with
      | some (.map es clock, _) =>
        bif !seen.isEmpty && !es.isEmpty && es.all (fun e => Nat.ble last e.2.2) then none else
        let left := es.filter fun e => !seen.contains e.2.2
        let old := left.filter fun e => Nat.blt e.2.2 since
        let new := left.filter fun e => Nat.ble since e.2.2
        let go := (old ++ new).map fun e => (SV.tup [.v (.bool true), e.1, e.2.1], s.put i (.miter (some m) since (seen ++ [e.2.2]) clock))
        some (bif old.isEmpty then (.v (.tuple #[.bool false]), s) :: go else go)
      | _ => none
    | _ => none
  | _, _ => none

/-- The entry at which an iterator stands. -/
def sEntry (x : SV) (s : SH) : Option SV :=
  match x with
  | .ptr i 0 =>
    match s.look i with
    | some (.miter (some m) _ seen stepped, _) =>
      match s.look m, seen.getLast? with
      | some (.map es clock, _), some stamp =>
        bif Nat.beq clock stepped then (es.find? fun e => Nat.beq e.2.2 stamp).map fun e => .tup [e.1, e.2.1] else none
      | _, _ => none
    | _ => none
  | _ => none

/-- .. told by the oracle. -/
def entP (es : List (SV × SV × Nat)) (clock stepped : Nat) (seen : List Nat) (k y : SV) : Prop := ∃ stamp b, seen.getLast? = some stamp ∧ clock = stepped ∧ es.find? (fun e => Nat.beq e.2.2 stamp) = some (k, y, b)
def sEntryQ (x : SV) (s : SH) : Option (SV × SH) :=
  match x, s.orc s.dc with
  | .ptr i 0, some (.ent k y) => match s.look i with
    | some (.miter (some m) _ seen stepped, _) => match s.look m with
      | some (.map es clock, _) => some (.tup [k, y], s.owe (entP es clock stepped seen k y))
      | _ => none
    | _ => none
  | _, _ => none

/-! ### interfaces, functions -/

def methodsMiss (want : Array (String × TypeId)) (got : Array Method) : Bool := want.toList.any fun x => !got.any fun m => m.name == x.1 && m.sig == x.2

def sTypeAssert (E : Env) (x : SV) (asserted : TypeId) (ok : Bool) : Option SV :=
  match tdesc E asserted, tinfo E asserted with
  | some (.interface want), some ai =>
    match x with
    | .iface t y => match tinfo E t with
      | some ti => bif methodsMiss want ti.methods then (bif ok then ai.zero.map fun z => .tup [.v z, .v (.bool false)] else none)
        else some (bif ok then .tup [.iface t y, .v (.bool true)] else .iface t y)
      | none => none
    | _ => none
  | some _, some ai =>
    match x with
    | .iface t y => bif t == asserted then some (bif ok then .tup [y, .v (.bool true)] else y)
      else bif ok then ai.zero.map fun z => .tup [.v z, .v (.bool false)] else none
    | _ => none
  | _, _ => none

def sNil : SV → Option Bool
  | .v (.pointer none) | .v .nilIface | .v .nilFunc | .v (.map none) | .v (.slice none _ _) => some true
  | .ptr _ _ | .sl _ _ _ _ | .map _ | .iface _ _ | .func _ _ _ | .yield _ | .fin _ _ _ _ => some false
  | _ => none

/-- '==' of what two interface values of one type hold. -/
def sEqI (E : Env) (t : TypeId) (x y : SV) (s : SH) : Option (Bool × SH) :=
  match tinfo E t, tdesc E t, x, y with
  | some info, some (.pointer e), .ptr i o, .ptr j p =>
    bif info.comparable && i == j then
      match tinfo E e with
      | some ei => bif ei.size == 0 then none else some (o == p, s)
      | none => none
    else none
  | some info, some _, .v x, .v y => bif info.comparable then (pureRun E.P (Op.equalIn 9999 t x y)).map (·, s) else none
  | _, _, _, _ => none

/-- '==' where an address, an interface value or a function stands at one side and nil at the other; or two places. -/
def sEql (E : Env) (t : TypeId) (x y : SV) (s : SH) : Option (Bool × SH) :=
  match tdesc E t, x, y with
  | some (.pointer e), .ptr i o, .ptr j p =>
    bif i == j then
      match tinfo E e with
      | some info => bif info.size == 0 then none else some (o == p, s)
      | none => none
    else none
  | some (.pointer _), .v (.pointer none), .ptr _ _ | some (.pointer _), .ptr _ _, .v (.pointer none) => some (false, s)
  | some (.slice _), .v (.slice none _ _), .sl _ _ _ _ | some (.slice _), .sl _ _ _ _, .v (.slice none _ _) => some (false, s)
  | some (.slice _), .v (.slice none _ _), .fin _ _ _ _ | some (.slice _), .fin _ _ _ _, .v (.slice none _ _) => some (false, s)
  | some (.map _ _), .v (.map none), .map _ | some (.map _ _), .map _, .v (.map none) => some (false, s)
  | some (.interface _), .v .nilIface, .iface _ _ | some (.interface _), .iface _ _, .v .nilIface => some (false, s)
  | some (.interface _), .iface t x, .iface u y => bif t == u then sEqI E t x y s else some (false, s)
  | some (.func _ _ _), .v .nilFunc, .func _ _ _ | some (.func _ _ _), .func _ _ _, .v .nilFunc => some (false, s)
  | _, _, _ => none

/-- Two places in two objects. -/
def sEqlFar (E : Env) (t : TypeId) (x y : SV) (s : SH) : Bool :=
  match tdesc E t, x, y with
  | some (.pointer e), .ptr i _, .ptr j _ =>
    match tinfo E e, s.look i, s.look j with
    | some info, some (.row _ _ (0, 0) _, _), some (.row _ _ (0, 0) _, _) => !(info.size == 0) && !(i == j)
    | _, _, _ => false
  | _, _, _ => false

def bytesOf : List SV → Option (List Int)
  | [] => some []
  | .v (.int .u8 n) :: r => (bytesOf r).map (n :: ·)
  | _ => none

def byteStr (l : List Int) : ByteArray := ⟨(l.map fun n => UInt8.ofNat n.toNat).toArray⟩

def sConvertQ (E : Env) (src dst : TypeId) (x : SV) (b : ByteArray) (s : SH) : Option (SV × SH) :=
  match tdesc E src, tdesc E dst, x with
  | some (.slice e), some .string, .sl i off len _ =>
    match tdesc E e, (s.look i).bind (·.1.told) with
    | some (.int .u8), some xs => some (.v (.string b), s.owe (((xs.drop off).take len = b.data.toList.map fun c => SV.v (.int .u8 c.toNat)) ∧ b.size = len))
    | _, _ => none
  | _, _, _ => none

def sConvert0 (E : Env) (src dst : TypeId) (x : SV) (s : SH) : Option (SV × SH) := do
  match tdesc E src, tdesc E dst, x with
  | some (.slice e), some .string, .sl i off len _ =>
    let .int .u8 ← tdesc E e | none
    match s.look i with
    | some (.row xs _ _ _, _) =>
      guard' (Nat.ble (off + len) xs.length)
      let b ← bytesOf ((xs.drop off).take len)
      some (.v (.string (byteStr b)), s)
    | _ => none
  | some (.slice _), some (.slice e), .sl i off len cap =>
    match src == dst, tdesc E e, s.look i with
    | true, some (.int .u8), some (.row xs el (0, 0) ext, true) => some (.sl i off len cap, s.put i (.row xs el (1, 0) ext))
    | true, some (.int .u8), some (.row xs el (1, 0) ext, true) => some (.sl i off len cap, s.put i (.row xs el (1, 0) ext))
    | _, _, _ => none
  | some .string, some (.slice e), .v (.string b) =>
    let .int .u8 ← tdesc E e | none
    let xs := b.data.toList.map fun c => SV.v (.int .u8 c.toNat)
    let (i, s) ← sNew (.row xs e (1, 0) (some 1)) s
    some (.sl i 0 b.size none, s)
  | some (.pointer t), some .unsafePointer, .ptr i off =>
    match s.look i, tinfo E t with
    | some (.row xs _ _ _, _), some info => bif Nat.blt off xs.length && !(info.size == 0) then some (.ptr i off, s) else none
    | _, _ => none
  | some .unsafePointer, some (.pointer u), .ptr i off =>
    match s.look i, tinfo E u with
    | some (.row xs e _ none, _), some _ => bif liesAt E.P E.P.depth e (xs.length / E.P.cellsOf e) off u 1 then some (.ptr i off, s) else none
    | _, _ => none
  | _, _, _ => none

def sConvert (E : Env) (src dst : TypeId) (x : SV) (s : SH) : Option (SV × SH) :=
  match s.orc s.dc with
  | some (.str b) => sConvertQ E src dst x b s
  | _ => sConvert0 E src dst x s

def callFn (f : SV) (args : List SV) : Option SNext :=
  match f with
  | .v (.func (.func f) a b) => some (.enter f (a.toList.map .v ++ args ++ b.toList.map .v))
  | .func (.func f) a b => some (.enter f (a ++ args ++ b))
  | .yield i => some (.round i args)
  | _ => none

def deferFn (f : SV) (args : List SV) : Option SDef :=
  match f with
  | .v (.func (.func f) a b) => some (.fn (.func f) (b.toList.map .v) (a.toList.map .v ++ args))
  | .func (.func f) a b => some (.fn (.func f) b (a ++ args))
  | _ => none

/-- A value of an interface type is one of 'iface'. -/
def lift : Value → SV
  | .iface t x => .iface t (.v x)
  | x => .v x

def sInvoke (E : Env) (recv : SV) (name : String) (args : List SV) : Option SNext :=
  match recv with
  | .iface t (.v v) => (pureRun E.P (method (E.P.types.size + Made.depth) t v name)).map fun r => .enter r.1 (lift r.2 :: args)
  | .iface t x => do
    let info ← tinfo E t
    let m ← info.methods.find? (·.name == name)
    match m.path.isEmpty, m.func, tdesc E t with
    | true, some (f, true), some (.pointer _) => some (.enter f (x :: args))
    | true, some (_, _), some (.pointer _) => none
    | true, some (f, false), some _ => some (.enter f (x :: args))
    | _, _, _ => none
  | _ => none

def sLen1 (E : Env) (t : TypeId) (x : SV) (s : SH) : Option SV :=
  match tdesc E t, x with
  | some (.slice _), .sl _ _ n _ => some (.v (.int .i64 n))
  | some (.slice _), .fin _ _ _ _ => some (.v (.int .i64 0))
  | some (.map _ _), .map i => match s.look i with
    | some (.map es _, _) => some (.v (.int .i64 es.length))
    | _ => none
  | _, _ => none

def sCap1 (E : Env) (t : TypeId) (x : SV) : Option SV :=
  match tdesc E t, x with
  | some (.slice _), .sl _ _ _ (some n) => some (.v (.int .i64 n))
  | _, _ => none

def sUnsafeData (E : Env) (x : SV) (s : SH) : Option (SV × SH) :=
  match x with
  | .sl i off _ (some c) => (s.ask E (!(c == 0))).map (.ptr i off, ·)
  | .sl i 0 len none => (s.ask E (!(len == 0))).map (.ptr i 0, ·)
  | _ => none

def sUnsafeStringQ (E : Env) (pt : TypeId) (x n : SV) (b : ByteArray) (s : SH) : Option (SV × SH) :=
  match x, n with
  | .ptr i 0, .v (.int .i64 n) =>
    match tdesc E pt, s.look i with
    | some (.pointer e), some (.row xs el (0, 0) ext, true) =>
      bif e == el && Nat.beq (E.P.cellsOf e) 1 then
        some (.v (.string b), (s.owe ((0 < n ∧ n ≤ 2 ^ 40) ∧ n.toNat ≤ xs.length ∧ xs.take n.toNat = b.data.toList.map fun c => SV.v (.int .u8 c.toNat))).put i (.row xs el (0, n.toNat) ext))
      else none
    | _, _ => none
  | _, _ => none

def sUnsafeString0 (E : Env) (pt : TypeId) (x n : SV) (s : SH) : Option (SV × SH) :=
  match x, n with
  | .ptr i 0, .v (.int .i64 n) =>
    match tdesc E pt, s.look i with
    | some (.pointer e), some (.row xs el (0, 0) ext, true) => do
      guard' (decide (0 < n ∧ n ≤ 2 ^ 40) && Nat.ble n.toNat xs.length && e == el && Nat.beq (E.P.cellsOf e) 1)
      let b ← bytesOf (xs.take n.toNat)
      some (.v (.string (byteStr b)), s.put i (.row xs el (0, n.toNat) ext))
    | _, _ => none
  | _, _ => none

def sUnsafeString (E : Env) (pt : TypeId) (x n : SV) (s : SH) : Option (SV × SH) :=
  match s.orc s.dc with
  | some (.str b) => sUnsafeStringQ E pt x n b s
  | _ => sUnsafeString0 E pt x n s

def sBuiltin (E : Env) (b : Builtin) (ats : Array TypeId) (args : List SV) (s : SH) : Option (SV × SH) :=
  match b with
  | .len => match ats.toList, args with | t :: _, [x] => (sLen1 E t x s).map (·, s) | _, _ => none
  | .cap => match ats.toList, args with | t :: _, [x] => (sCap1 E t x).map (·, s) | _, _ => none
  | .append => match ats.toList, args with | [st, xt], [x, y] => sAppend E st xt x y s | _, _ => none
  | .copy => match ats.toList, args with | dt :: _, [x, y] => sCopy E dt x y s | _, _ => none
  | .delete => match ats.toList, args with | [t, _], [m, k] => sDelete E t m k s | _, _ => none
  | .unsafeSliceData => match args with | [x] => sUnsafeData E x s | _ => none
  | .unsafeString => match ats.toList, args with | [pt, _], [x, n] => sUnsafeString E pt x n s | _, _ => none
  | _ => none

/-- A value that is told whole. -/
def whole : SV → Option Value
  | .v x => some x
  | .iface t x => (whole x).map (.iface t ·)
  | _ => none

def plains : List SV → Option (List Value)
  | [] => some []
  | x :: r => match whole x, plains r with
    | some x, some l => some (x :: l)
    | _, _ => none

/-- The parts of a Value of internal/reflectlite: its type, its place, its flags. -/
def rvParts (E : Env) : SV → Option (TypeId × Nat × Nat × Nat)
  | .agg [.v h, .ptr i off, .v (.int .u64 f)] => bif decide (f = 0) then none else (pureRun E.P (Extern.Rtype.ofHandle h)).map fun t => (t, i, off, f.toNat)
  | _ => none

/-- A Value of internal/reflectlite that is not any pack's. -/
def rvParts' (E : Env) (x : SV) : Option (TypeId × Nat × Nat × Nat) :=
  (rvParts E x).bind fun r => (pureRun E.P (Extern.Rtype.noPack "a Value asked or handed on" r.1)).map fun _ => r

def rvMake (E : Env) (t : TypeId) (i off flags : Nat) : Option SV :=
  (pureRun E.P (Extern.Rtype.handle t)).bind fun h => (pureRun E.P (Extern.Rtype.kind t)).map fun k => .agg [.v h, .ptr i off, .v (.int .u64 (Int.ofNat (k + 128 + flags)))]

def sValueOf (E : Env) (t : TypeId) (x : SV) (s : SH) : Option (SV × SH) :=
  (sBox t x s).bind fun p => match p.1 with
    | .ptr i 0 => (rvMake E t i 0 0).map (·, p.2)
    | _ => none

def sIsNil (E : Env) (r : TypeId × Nat × Nat × Nat) (s : SH) : Option (SV × SH) :=
  bif Nat.beq (r.2.2.2 % 32) 22 then
    (sLoad E r.1 (.ptr r.2.1 r.2.2.1) s).bind fun p => match p.1 with
      | .ptr _ _ => some (.v (.bool false), p.2)
      | .v (.pointer none) => some (.v (.bool true), p.2)
      | _ => none
  else none

def sRElem (E : Env) (r : TypeId × Nat × Nat × Nat) (s : SH) : Option (SV × SH) :=
  bif Nat.beq (r.2.2.2 % 32) 22 then
    (pureRun E.P (Extern.Rtype.elem? r.1)).bind fun e => e.bind fun e =>
    (sLoad E r.1 (.ptr r.2.1 r.2.2.1) s).bind fun p => match p.1 with
      | .ptr j o => (rvMake E e j o 256).map (·, p.2)
      | _ => none
  else none

def sRSet (E : Env) (r q : TypeId × Nat × Nat × Nat) (s : SH) : Option (SV × SH) :=
  bif Nat.beq (r.2.2.2 / 256 % 2) 0 then none else
    (sLoad E q.1 (.ptr q.2.1 q.2.2.1) s).bind fun p => (pureRun E.P (Extern.Rtype.directlyAssignable r.1 q.1)).bind fun b =>
    bif b then (sStore E r.1 (.ptr r.2.1 r.2.2.1) p.1 p.2).map (.v (.tuple #[]), ·) else none

/-- A call of a function without a body. -/
def sExt (E : Env) (k : ExtK) (args : List SV) (s : SH) : Option (SV × SH) :=
  match k, args with
  | .same, [x] => some (x, s)
  | .pure f, args => (plains args).bind fun l => (pureRun E.P (f l.toArray)).map fun x => (lift x, s)
  | .makeNoZero _ t, [.v (.int .i64 n)] =>
    match tdesc E t with
    | some (.slice elem) => bif decide (0 ≤ n ∧ n ≤ 2 ^ 40) then (sNew (.row (List.replicate n.toNat .junk) elem (0, 0) (some 1)) s).map fun p => (.sl p.1 0 n.toNat none, p.2) else none
    | _ => none
  | .mapsClone, [.iface t (.map i)] =>
    match s.look i with
    | some (.map es clock, _) => (sNew (.map es clock) s).map fun (j, s) => (.iface t (.map j), s)
    | _ => none
  | .typeOf, [.iface t _] => (pureRun E.P (Extern.ReflectliteType.toType t)).map fun x => (lift x, s)
  | .typeOf, [.v .nilIface] => some (.v .nilIface, s)
  | .valueOf, [.iface t x] => sValueOf E t x s
  | .valType, [x] => (rvParts E x).bind fun r => (pureRun E.P (Extern.ReflectliteType.toType r.1)).map fun y => (lift y, s)
  | .valIsNil, [x] => (rvParts' E x).bind fun r => sIsNil E r s
  | .valElem, [x] => (rvParts' E x).bind fun r => sRElem E r s
  | .valSet, [x, y] => (rvParts' E x).bind fun r => (rvParts' E y).bind fun q => sRSet E r q s
  | _, _ => none

/-- Two cells are the same. -/
def cellSame (E : Env) (t : TypeId) (x y : Value) : Option Prop :=
  match tdesc E t, x, y with
  | some (.int _), .int k a, .int k' b => bif k == k' then some (a = b) else none
  | some .string, .string a, .string b => some (a = b)
  | some .bool, .bool a, .bool b => some (a = b)
  | _, _, _ => none

/-- All parts of two structs are the same. -/
def cellsSame (E : Env) (xs ys : List Value) : List Field → Option Prop
  | [] => some True
  | f :: fs => bif f.name == "_" then none else
    match xs[f.offset]?, ys[f.offset]? with
    | some x, some y => match cellSame E f.type x y, cellsSame E xs ys fs with
      | some p, some q => some (p ∧ q)
      | _, _ => none
    | _, _ => none

/-- '==' (or its contrary) of two structs, where it is owed that they are the same, or not. -/
def sEqS (E : Env) (op : BinOp) (t : TypeId) (x y : SV) (s : SH) : Option (Bool × SH) :=
  match op, s.orc s.dc with
  | .eql, some (.eqs b) => go x y b b
  | .neq, some (.eqs b) => go x y b !b
  | _, _ => none
where go (x y : SV) (b r : Bool) : Option (Bool × SH) :=
  match plainV x, plainV y, tdesc E t with
  | some (.agg xs), some (.agg ys), some (.struct fs) =>
    bif E.P.stoodInHeld t || E.P.eqGuardType E.P.depth t then none else
      (cellsSame E xs.toList ys.toList fs.toList).map fun p => (r, s.owe (bif b then p else ¬ p))
  | _, _, _ => none

/-- Two texts that are put together, where it is owed that the sum is not too long. -/
def strAdd (x y : SV) (op : BinOp) (soft : Bool) : Option (ByteArray × ByteArray) :=
  match x, y, op, soft with
  | .v (.string a), .v (.string b), .add, true => some (a, b)
  | _, _, _, _ => none

/-! ### an operation -/

def mapOpd (E : Env) (tm : STm) (l : Array Operand) : List SV := l.toList.map (evalOpd E tm)

def sOp (E : Env) (tm : STm) (o : Oper) (s : SH) : Option (List (SNext × SH)) :=
  let ρ := evalOpd E tm
  let v (x : Option SV) : Option (List (SNext × SH)) := x.map fun x => [(.val x, s)]
  let vs (x : Option (SV × SH)) : Option (List (SNext × SH)) := x.map fun x => [(.val x.1, x.2)]
  let u (x : Option SH) : Option (List (SNext × SH)) := x.map fun s => [(.val (.v undef), s)]
  match o.op with
  | .move x | .assign x => some [(.val (ρ x), s)]
  | .pick c a b => match ρ c with
    | .v (.bool t) => let (t, s) := s.dec E t; some [(.val (bif t then ρ a else ρ b), s)]
    | _ => none
  | .alloc t => vs (sAlloc E t s)
  | .box t x => vs (sBox t (ρ x) s)
  | .build t ps => v (sBuild E t (ps.toList.map fun (i, x) => (i, ρ x)))
  | .buildSlice t n ps => vs (sBuildSlice E t n (ps.toList.map fun (i, x) => (i, ρ x)) s)
  | .load t a => vs (sLoad E t (ρ a) s)
  | .store t a x => u (sStore E t (ρ a) (ρ x) s)
  | .nilCheck x => match ρ x with
    | .ptr i off => v (some (.ptr i off))
    | .iface t y => v (some (.iface t y))
    | .func (.func f) a b => v (some (.func (.func f) a b))
    | .yield i => v (some (.yield i))
    | .v (.func (.func f) a b) => v (some (.v (.func (.func f) a b)))
    | _ => none
  | .binOp op t x y _ => match sEqS E op t (ρ x) (ρ y) s with
   | some r => some [(.val (.v (.bool r.1)), r.2)]
   | none => match strAdd (ρ x) (ρ y) op s.soft with
    | some (a, b) => some [(.val (.v (.string (a ++ b))), s.owe (a.size + b.size ≤ 9223372036854775807))]
    | none => match ρ x, ρ y with
    | .v _, .v _ => v (sPure E tm o)
    | a, b => match op with
      | .eql => match sEql E t a b s with
        | some r => some [(.val (.v (.bool r.1)), r.2)]
        | none => bif sEqlFar E t a b s then some [(.val (.v (.bool false)), s)] else v (sPure E tm o)
      | .neq => match sEql E t a b s with
        | some r => some [(.val (.v (.bool !r.1)), r.2)]
        | none => bif sEqlFar E t a b s then some [(.val (.v (.bool true)), s)] else v (sPure E tm o)
      | _ => none
  | .unOp _ _ _ => v (sPure E tm o)
  | .convert src dst x => match sConvert E src dst (ρ x) s with
    | some r => vs (some r)
    | none => match ρ x with | .v _ => v (sPure E tm o) | _ => none
  | .makeInterface t x => match tdesc E t with
    | some (.interface _) => none
    | some _ => v (some (.iface t (ρ x)))
    | none => none
  | .makeFunc fn a b => match fn with
    | .func f => v (some (.func (.func f) (mapOpd E tm a) (mapOpd E tm b)))
    | _ => none
  | .makeMap _ none => vs ((sNew (.map [] 0) s).map fun (i, s) => (.map i, s))
  | .makeSlice t l c => vs (sMakeSlice E t (ρ l) (ρ c) s)
  | .slice t x lo hi mx => match sSlice E t (ρ x) (lo.map ρ) (hi.map ρ) (mx.map ρ) s with
    | some r => vs (some r)
    | none => match sSliceB E t (ρ x) (lo.map ρ) (hi.map ρ) (mx.map ρ) s with
      | some l => some (l.map fun r => (.val r.1, r.2))
      | none => match ρ x with | .v (.slice none 0 0) => v (sPure E tm o) | _ => none
  | .fieldAddr t x f => v (sFieldAddr E t (ρ x) f)
  | .field t x f => match ρ x with | .v _ => v (sPure E tm o) | y => v (sField E t y f)
  | .indexAddr t x i => vs (sIndexAddr E t (ρ x) (ρ i) s)
  | .index t x i => vs (sIndex E t (ρ x) (ρ i) s)
  | .lookup t m k ok => vs (sLookup E t (ρ m) (ρ k) ok s)
  | .mapUpdate t m k x | .insert t m k x => u (sMapUpdate E t (ρ m) (ρ k) (ρ x) s)
  | .mapEntry t m k => vs (sMapEntry E t (ρ m) (ρ k) s)
  | .entryStore _ m st x => u (sEntryStore (ρ m) (ρ st) (ρ x) s)
  | .range t x => vs (sRange E t (ρ x) s)
  | .next it b => (sNextIt (ρ it) b s).map fun l => l.map fun r => (.val r.1, r.2)
  | .entry it => match sEntryQ (ρ it) s with
    | some r => some [(.val r.1, r.2)]
    | none => v (sEntry (ρ it) s)
  | .typeAssert x _ at_ ok => match ρ x with | .v _ => v (sPure E tm o) | y => v (sTypeAssert E y at_ ok)
  | .extract t i => match (ρ t).tuple with | some l => v l[i]? | none => none
  | .call c =>
    match c.callee with
    | .value f => (callFn (ρ f) (mapOpd E tm c.args)).map fun n => [(n, s)]
    | .invoke r name => (sInvoke E (ρ r) name (mapOpd E tm c.args)).map fun n => [(n, s)]
    | .builtin b => match sBuiltin E b c.argTypes (mapOpd E tm c.args) s with
      | some r => vs (some r)
      | none => v (sPure E tm o)
  | .defer c => match c.callee with
    | .value f => (deferFn (ρ f) (mapOpd E tm c.args)).map fun d => [(.defer d, s)]
    | _ => none
  | _ => none

end Go.Rx
set_option linter.unusedVariables false
set_option linter.unusedSimpArgs false
namespace Go.Rx

/-! ### regions that draw their order -/

/-- Operations that may go ahead of their turn: they make nothing and write nothing. -/
def floats : Op → Bool
  | .move _ | .pick .. | .nilCheck _ | .binOp .. | .unOp .. | .makeInterface .. | .makeFunc .. | .fieldAddr .. | .field .. | .indexAddr .. | .index .. | .load .. | .lookup ..
  | .typeAssert .. | .extract .. | .slice .. | .build .. | .convert .. => true
  | .call { callee := .builtin b, .. } => match b with | .len | .cap | .min | .max => true | _ => false
  | _ => false

/-- Do they look into memory? -/
def looks : Op → Bool
  | .load .. | .lookup .. | .convert .. => true
  | .call _ => true
  | _ => false

def tmpOf : Operand → Option Tmp
  | .tmp t => some t
  | _ => none
def tmpsOf (o : Oper) : List Tmp := o.op.operands.toList.filterMap tmpOf
def namesOf (o : Oper) : List Tmp := o.dst.toList ++ tmpsOf o
def guardSlot (ops : Array Oper) (o : Oper) : List Tmp := match o.guard with | some (j, _) => ((ops[j]?).bind (·.dst)).toList | none => []

/-- May operation i go ahead of its turn? Nothing but what comes behind it names its slot. -/
def free (ops : Array Oper) (bf : Array Nat) (i : Nat) : Bool :=
  match ops[i]? with
  | none => false
  | some o => floats o.op && match o.dst with
    | none => true
    | some d => !((tmpsOf o).contains d || (guardSlot ops o).contains d) && (List.range ops.size).all fun j => Nat.beq j i || (bf.getD j 0).testBit i ||
        match ops[j]? with | some p => !((namesOf p).contains d || (guardSlot ops p).contains d) | none => true

/-- What an allocation makes. -/
def lateSO (E : Env) : Op → Option SO
  | .alloc t => (tinfo E t).bind fun info => info.zero.bind fun z => (SV.v z).cells.map fun l => .row l t (0, 0) none
  | _ => none

/-- May operation i be carried out later than its turn? It only makes a block, and nothing but what comes behind it names its slot. -/
def late (E : Env) (ops : Array Oper) (bf : Array Nat) (nt i : Nat) : Bool :=
  match ops[i]? with
  | none => false
  | some o => (lateSO E o.op).isSome && o.guard.isNone && match o.dst with
    | none => false
    | some d => Nat.blt d nt && (List.range ops.size).all fun j => Nat.beq j i || (bf.getD j 0).testBit i ||
        match ops[j]? with | some p => !((namesOf p).contains d || (guardSlot ops p).contains d) | none => true

def ready (bf : Array Nat) (rem : List Nat) (i : Nat) : Bool := rem.all fun j => !((bf.getD i 0).testBit j)

/-- Two cells are one. -/
def cellEq (E : Env) (x y : Value) (s : SH) : Option SH :=
  match x, y with
  | .int k x, .int k' y => bif k == k' then s.ask E (x == y) else none
  | .string x, .string y => s.ask E (x == y)
  | .bool x, .bool y => s.ask E (x == y)
  | .nilIface, .nilIface => some s
  | .nilFunc, .nilFunc => some s
  | .pointer none, .pointer none => some s
  | .slice a l c, .slice b m d => s.ask E (decide (a = b ∧ l = m ∧ c = d))
  | .map none, .map none => some s
  | .func (.func f) a b, .func (.func g) c d => bif f == g && (a.size == 0 && b.size == 0) && (c.size == 0 && d.size == 0) then some s else none
  | _, _ => none

def cellsEq (E : Env) : List Value → List Value → SH → Option SH
  | [], [], s => some s
  | x :: xs, y :: ys, s => (cellEq E x y s).bind fun s => cellsEq E xs ys s
  | _, _, _ => none

/-- Two values that are told whole are one. -/
def plainEq (E : Env) (x y : Value) (s : SH) : Option SH :=
  match x, y with
  | .agg a, .agg b => cellsEq E a.toList b.toList s
  | .tuple a, .tuple b => cellsEq E a.toList b.toList s
  | x, y => cellEq E x y s

/-- It is reckoned, or owed. -/
def SH.eqN (s : SH) (b : Bool) (p : Prop) : Option SH := bif s.soft then some (s.owe p) else bif b then some s else none

mutual
/-- Two values are one. -/
def svEq (E : Env) : SV → SV → SH → Option SH
  | .ptr i o, y, s => match y with
    | .ptr j p => bif i == j then s.eqN (o == p) (o = p) else none
    | _ => none
  | .map i, y, s => match y with
    | .map j => bif i == j then some s else none
    | _ => none
  | .sl i o l c, y, s => match y with
    | .sl j p m d => bif i == j then s.eqN (o == p && l == m && c == d) (o = p ∧ l = m ∧ c = d) else none
    | _ => none
  | .yield i, y, s => match y with
    | .yield j => bif i == j then some s else none
    | _ => none
  | .fin i o l a, y, s => match y with
    | .fin j p m b => bif i == j then s.eqN (o == p && l == m && a == b) (o = p ∧ l = m ∧ a = b) else none
    | _ => none
  | .iface t x, y, s => match y with
    | .iface u y => bif t == u then svEq E x y s else none
    | _ => none
  | .agg l, y, s => match y with
    | .agg m => svEqL E l m s
    | _ => none
  | .tup l, y, s => match y with
    | .tup m => svEqL E l m s
    | _ => none
  | .func f a b, y, s => match f, y with
    | .func f, .func (.func g) c d => bif f == g then (svEqL E a c s).bind fun s => svEqL E b d s else none
    | _, _ => none
  | .junk, _, _ => none
  | .v x, y, s => match y with
    | .v y => plainEq E x y s
    | _ => none
def svEqL (E : Env) : List SV → List SV → SH → Option SH
  | [], m, s => match m with
    | [] => some s
    | _ => none
  | x :: xs, m, s => match m with
    | y :: ys => (svEq E x y s).bind fun s => svEqL E xs ys s
    | [] => none
end

def wanted (ops : Array Oper) (tm : STm) (o : Oper) (E : Env) (s : SH) : Option (Bool × SH) :=
  match o.guard with
  | none => some (true, s)
  | some (j, want) =>
    match (ops[j]?).bind (·.dst) with
    | some d => bif Nat.blt d tm.nt then match tm.get d with
      | .v (.bool b) => let (b, s) := s.dec E b; some (b == want, s)
      | .v (.tuple _) => some (false, s)
      | _ => none
      else none
    | none => none

def putDst (tm : STm) (o : Oper) (x : SV) : STm := match o.dst with | some d => tm.set d x | none => tm

mutual
/-- A value that stands for just one. -/
def SV.solid : SV → Bool
  | .junk => false
  | .agg l | .tup l => solidL l
  | .iface _ x => x.solid
  | .func _ a b => solidL a && solidL b
  | _ => true
def solidL : List SV → Bool
  | [] => true
  | x :: xs => x.solid && solidL xs
end

/-- The text of a row's bytes. -/
def sReadText (E : Env) (src dst : TypeId) (x : SV) (s : SH) : Option SV :=
  match tdesc E src, tdesc E dst, x with
  | some (.slice e), some .string, .sl i off len _ =>
    match tdesc E e, s.look i with
    | some (.int .u8), some (.row xs _ _ _, _) => bif Nat.ble (off + len) xs.length then (bytesOf ((xs.drop off).take len)).map fun b => .v (.string (byteStr b)) else none
    | _, _ => none
  | _, _, _ => none

/-- An operation that goes ahead of its turn. -/
def sOpF (E : Env) (tm : STm) (o : Oper) (s : SH) : Option (List (SNext × SH)) :=
  match o.op with
  | .convert a b z => match sReadText E a b (evalOpd E tm z) s with
    | some r => some [(.val r, s)]
    | none => (sPure E tm o).map fun x => [(.val x, s)]
  | .binOp _ t x y _ => bif sEqlFar E t (evalOpd E tm x) (evalOpd E tm y) s then none else sOp E tm o s
  | _ => sOp E tm o s

/-- May it? -/
def goes (E : Env) (ops : Array Oper) (tm : STm) (s : SH) (i : Nat) : Bool :=
  match ops[i]? with
  | some o => match o.op with
    | .convert a b z => allPlain E tm o.op.operands.toList || (sReadText E a b (evalOpd E tm z) s).isSome
    | .binOp _ t x y _ => !sEqlFar E t (evalOpd E tm x) (evalOpd E tm y) s
    | _ => true
  | none => true

/-- The value of an operation that goes ahead of its turn. -/
def sFree (E : Env) (ops : Array Oper) (tm : STm) (o : Oper) (s : SH) : Option (SV × SH) := do
  guard' (match o.dst with | some d => Nat.blt d tm.nt | none => true)
  let (w, s) ← wanted ops tm o E s
  bif w then
    match sOpF E tm o s with
    | some [(.val x, s)] => bif x.solid then some (x, s) else none
    | _ => none
  else some (.v undef, s)

/-- Nothing that went ahead names this slot. -/
def unnamed (ops : Array Oper) (pend : List Nat) (o : Oper) : Bool :=
  match o.dst with
  | none => true
  | some d => pend.all fun p => match ops[p]? with
    | some q => !((namesOf q).contains d || (guardSlot ops q).contains d)
    | none => false

/-- Every edge that binds leads to an earlier operation. -/
def edgesOk (ops : Array Oper) : Bool := (List.range ops.size).all fun i => match ops[i]? with
  | some o => o.after.toList.all fun e => !Region.binds .any e || Nat.blt e.on i
  | none => true

/-- What went ahead is still what it was. -/
def recheck (E : Env) (ops : Array Oper) (tm : STm) : List Nat → SH → Option SH
  | [], s => some s
  | p :: ps, s =>
    match ops[p]? with
    | none => none
    | some o =>
      bif looks o.op then do
        let (x, s) ← sFree E ops tm o s
        let d ← o.dst
        let s ← svEq E (tm.get d) x s
        recheck E ops tm ps s
      else recheck E ops tm ps s

/-! ### frames -/

def depthOf (n : Nat) : Nat := Nat.log2 n + 1

def mkTm (n : Nat) (args : List SV) : Option STm :=
  bif Nat.ble args.length n && Nat.ble n (2 ^ depthOf n) then
    some { nt := n, d := depthOf n, T := go (Tr.mk (.v undef) (depthOf n)) 0 args }
  else none
  where
  go (T : Tr SV) (i : Nat) : List SV → Tr SV
    | [] => T
    | x :: xs => go (T.set i x) (i + 1) xs

def enterF (E : Env) (f : FuncId) (args : List SV) (kind : CallKind) : Option SF :=
  match E.P.funcs[f]? with
  | some fn => match fn.body with
    | some c => (mkTm fn.ntmps args).map fun tm => { fn := f, tm, todo := [.code c], defers := [], ret := false, kind, ro := none }
    | none => none
  | none => none

/-- A value comes back into a frame. -/
def finish (E : Env) (F : SF) (x : SV) (s : SH) : Option (SF × SH) :=
  match F.todo with
  | .reg ops (i :: rest) :: k =>
    match ops[i]? with
    | some o => some ({ F with tm := putDst F.tm o x, todo := .reg ops rest :: k }, s)
    | none => none
  | .drw ops (e :: rem) pend :: k =>
    match ops[e]? with
    | some o =>
      let tm := putDst F.tm o x
      bif unnamed ops pend o then (recheck E ops tm pend s).map fun s => ({ F with tm, todo := .drw ops rem pend :: k }, s) else none
    | none => none
  | .inRF i :: k => some ({ F with todo := .endRF i :: k }, s)
  | .beginRound :: k => some ({ F with todo := k }, s)
  | _ => none

def exitToS (id : Nat) : List SI → Option (List SI)
  | .inBlock id' :: k => bif id' == id then some k else exitToS id k
  | _ :: k => exitToS id k
  | [] => none

def gotoInS (l : Nat) : List SI → Option (List SI)
  | .inScope body :: k =>
    match findLabel body l with
    | some rest => some (.code rest :: .inScope body :: k)
    | none => gotoInS l k
  | _ :: k => gotoInS l k
  | [] => none

def resultsS (E : Env) (fn : Func) (tm : STm) (s : SH) : Option (SV × SH) :=
  (go fn.results.toList s).bind fun (l, s) => match l with
    | [x] => some (x, s)
    | l => some (.tup l, s)
  where
  go : List ResultVar → SH → Option (List SV × SH)
    | [], s => some ([], s)
    | .tmp t :: r, s => (go r s).map fun (l, s) => (tm.get t :: l, s)
    | .cell a t :: r, s => match sLoad E t (tm.get a) s with
      | some (x, s) => (go r s).map fun (l, s) => (x :: l, s)
      | none => none

def one (x : Option SM) : Option (List SM) := x.map fun x => [x]

/-- A frame has ended with a value. -/
def returned (E : Env) (F : SF) (callers : List SF) (x : SV) (s : SH) : Option (List SM) :=
  match callers with
  | c :: rest =>
    match F.kind with
    | .normal => (finish E c x s).map fun (c, s) => [{ top := c, callers := rest, mem := s }]
    | .deferred => some [{ top := c, callers := rest, mem := s }]
    | _ => none
  | [] => none

/-- A call of which all that may come back is told, and that it turns nothing that was there. -/
def joinQ (E : Env) (F : SF) (callers : List SF) (s : SH) : List SV → Option (List SM)
  | [] => some []
  | x :: xs => match finish E F x s, joinQ E F callers s xs with
    | some (F', s'), some r => some ({ top := F', callers, mem := s' } :: r)
    | _, _ => none

/-- What an operation leads to. -/
def after (E : Env) (F : SF) (callers : List SF) : SNext × SH → Option (List SM)
  | (.val x, s) => (finish E F x s).map fun (F, s) => [{ top := F, callers, mem := s }]
  | (.enter f args, s) =>
    match E.ext f with
    | some k => (sExt E k args s).bind fun (x, s) => (finish E F x s).map fun (F, s) => [{ top := F, callers, mem := s }]
    | none =>
    match E.sums f with
    | some g => (g args s).bind fun (x, s) => (finish E F x s).map fun (F, s) => [{ top := F, callers, mem := s }]
    | none =>
    match E.qs f with
    | some g => (g args).bind fun l => joinQ E F callers s l
    | none => one ((enterF E f args .normal).map fun G => { top := G, callers := F :: callers, mem := s })
  | (.round i args, s) =>
    match s.look i with
    | some (.loop _ _ fn tm params assign body _, _) =>
      bif args.length == params.length then
        some [{ top := { fn, tm := (params.zip args).foldl (fun tm (t, a) => tm.set t a) tm, todo := [.code assign, .beginRound, .code body], defers := [], ret := false, kind := .normal, ro := some i },
                callers := F :: callers, mem := s }]
      else none
    | _ => none
  | (.defer d, s) =>
    match F.ro with
    | none => (finish E { F with defers := d :: F.defers } (.v undef) s).map fun (F, s) => [{ top := F, callers, mem := s }]
    | some _ => none

def joinM (l : List (SNext × SH)) (f : SNext × SH → Option (List SM)) : Option (List SM) :=
  match l with
  | [] => some []
  | x :: xs => match f x, joinM xs f with
    | some a, some b => some (a ++ b)
    | _, _ => none

/-- The end of a frame's code, or a jump out of it. -/
def leaveS (E : Env) (F : SF) (callers : List SF) (s : SH) (jump : Option Code) : Option (List SM) :=
  match F.ro with
  | none => match jump with
    | none | some .ret => some [{ top := { F with ret := true }, callers, mem := s }]
    | _ => none
  | some i =>
    match s.look i with
    | some (.loop _ _ fn tm params assign body df, true) =>
      match callers with
      | c :: rest =>
        match F.kind with
        | .normal => (finish E c (.v (.bool jump.isNone)) (s.put i (.loop (if jump.isNone then .ready else .done) jump fn tm params assign body df))).map fun (c, s) => [{ top := c, callers := rest, mem := s }]
        | _ => none
      | [] => none
    | _ => none

/-- A frame that has run to its end: its deferred calls, its results. -/
def retS (E : Env) (F : SF) (callers : List SF) (s : SH) : Option (List SM) :=
  match F.defers with
  | .fn (.func g) capt args :: ds =>
    one ((enterF E g (args ++ capt) .deferred).map fun G => { top := G, callers := { F with defers := ds } :: callers, mem := s })
  | .fn _ _ _ :: _ => none
  | .coll i :: ds =>
    match s.look i with
    | some (.dfr (some l), true) => some [{ top := { F with defers := l ++ ds }, callers, mem := s.put i (.dfr none) }]
    | _ => none
  | [] =>
    match E.P.funcs[F.fn]? with
    | some fn => match resultsS E fn F.tm s with
      | some (x, s) => returned E F callers x s
      | none => none
    | none => none

/-- An operation whose turn it is. -/
def turnS (E : Env) (ops : Array Oper) (F : SF) (callers : List SF) (o : Oper) (s : SH) : Option (List SM) :=
  match wanted ops F.tm o E s with
  | some (true, s) => (sOp E F.tm o s).bind fun l => joinM l (after E F callers)
  | some (false, s) => (finish E F (.v undef) s).map fun (F, s) => [{ top := F, callers, mem := s }]
  | none => none

/-- A region that draws its order. -/
def drwS (E : Env) (F : SF) (callers : List SF) (s : SH) (ops : Array Oper) (rem pend : List Nat) (k : List SI) : Option (List SM) :=
  let bf := Region.before ops
  match rem.find? fun i => free ops bf i && ready bf rem i && goes E ops F.tm s i with
  | some i =>
    match ops[i]? with
    | some o => (sFree E ops F.tm o s).map fun (x, s) =>
        [{ top := { F with tm := putDst F.tm o x, todo := .drw ops (rem.filter fun j => !Nat.beq j i) (i :: pend) :: k }, callers, mem := s }]
    | none => none
  | none =>
    match (rem.find? fun i => ready bf rem i && !late E ops bf F.tm.nt i).or (rem.find? fun i => ready bf rem i) with
    | some e =>
      bif ready bf rem e && rem.all fun j => Nat.beq j e || (bf.getD j 0).testBit e || late E ops bf F.tm.nt j || rem.any fun i => !Nat.beq i j && (bf.getD j 0).testBit i && !late E ops bf F.tm.nt i then
        match ops[e]? with
        | some o => turnS E ops { F with todo := .drw ops (e :: rem.filter fun j => !Nat.beq j e) (pend.filter fun p => !((bf.getD e 0).testBit p)) :: k } callers o s
        | none => none
      else none
    | none => none

/-- A range over a function begins. -/
def rangeS (E : Env) (F : SF) (callers : List SF) (s : SH) (f : Operand) (params : Array Tmp) (assign body : Code) (k : List SI) : Option (List SM) :=
  match F.ro with
  | some l => match s.look l with
    | some (.loop _ _ _ _ _ _ _ d, _) => (sNew (.loop .ready none F.fn F.tm params.toList assign body d) s).bind fun (i, s) =>
      (callFn (evalOpd E F.tm f) [.yield i]).bind fun n => after E { F with todo := .inRF i :: k } callers (n, s)
    | _ => none
  | none => (sNew (.dfr (some [])) s).bind fun (d, s) => (sNew (.loop .ready none F.fn F.tm params.toList assign body d) s).bind fun (i, s) =>
      (callFn (evalOpd E F.tm f) [.yield i]).bind fun n => after E { F with todo := .inRF i :: k, defers := .coll d :: F.defers } callers (n, s)

/-- One step. -/
def sStep (E : Env) (S : SM) : Option (List SM) :=
  let F := S.top
  let s := S.mem
  let to (k : List SI) : Option (List SM) := some [{ top := { F with todo := k }, callers := S.callers, mem := s }]
  bif F.ret then retS E F S.callers s else
    match F.todo with
    | [] => leaveS E F S.callers s none
    | .code .ret :: _ => leaveS E F S.callers s (some .ret)
    | .code .skip :: k => to k
    | .code (.label _) :: k => to k
    | .inBlock _ :: k => to k
    | .inScope _ :: k => to k
    | .code (.seq a b) :: k => to (.code a :: .code b :: k)
    | .code (.cond c a b) :: k =>
      match evalOpd E F.tm c with
      | .v (.bool t) => let r := s.dec E t; some [{ top := { F with todo := .code (bif r.1 then a else b) :: k }, callers := S.callers, mem := r.2 }]
      | _ => none
    | .code (.block id c) :: k => to (.code c :: .inBlock id :: k)
    | .code (.loop c) :: k => to (.code c :: .inLoop c :: k)
    | .inLoop c :: k => to (.code c :: .inLoop c :: k)
    | .code (.scope c) :: k => to (.code c :: .inScope c :: k)
    | .code (.exit id) :: k => match exitToS id k with | some k => to k | none => leaveS E F S.callers s (some (.exit id))
    | .code (.goto l) :: k => match gotoInS l k with | some k => to k | none => leaveS E F S.callers s (some (.goto l))
    | .code (.rangeFunc f params assign body) :: k => rangeS E F S.callers s f params assign body k
    | .beginRound :: k =>
      match F.ro with
      | some i => match s.look i with
        | some (.loop .ready p fn tm params assign body df, true) =>
          some [{ top := { F with todo := k }, callers := S.callers, mem := s.put i (.loop .busy p fn tm params assign body df) }]
        | _ => none
      | none => none
    | .endRF i :: k =>
      match s.look i with
      | some (.loop st jump fn tm params assign body df, true) =>
        match st with
        | .busy => none
        | _ => some [{ top := { F with todo := (jump.map SI.code).toList ++ k }, callers := S.callers, mem := s.put i (.loop .exhausted jump fn tm params assign body df) }]
      | _ => none
    | .inRF _ :: _ => none
    | .code (.refuse _) :: _ => none
    | .code (.region _ ops draw) :: k =>
      bif draw then (bif edgesOk ops then to (.drw ops (List.range ops.size) [] :: k) else none) else to (.reg ops (List.range ops.size) :: k)
    | .reg _ [] :: k => to k
    | .reg ops (i :: _) :: _ =>
      match ops[i]? with
      | none => none
      | some o => turnS E ops F S.callers o s
    | .drw _ [] _ :: k => to k
    | .drw ops (i :: rem) pend :: k => drwS E F S.callers s ops (i :: rem) pend k

/-! ### runs -/

/-- Has the outermost frame come to its end? -/
def SM.over (S : SM) : Bool := S.callers.isEmpty && S.top.ret && S.top.defers.isEmpty

/-- One step; what is owed is kept, and something is to come of it. -/
def step1 (E : Env) (S : SM) : Option (List SM) :=
  match sStep E { S with mem := { S.mem with obl := [] } } with
  | some [] => none
  | some [T] => some [{ T with mem := { T.mem with obl := T.mem.obl ++ S.mem.obl } }]
  | some l => some (l.map fun T => { T with mem := { T.mem with obl := T.mem.obl ++ S.mem.obl } })
  | none => none

/-- Run till each way has stopped. -/
def run (E : Env) (stop : SM → Bool) : Nat → List SM → List SM → Option (List SM)
  | _, [], done => some done
  | 0, _ :: _, _ => none
  | n + 1, S :: work, done => bif stop S then run E stop n work (S :: done) else match step1 E S with
    | none => none
    | some [S'] => run E stop n (S' :: work) done
    | some l => run E stop n (l ++ work) done

end Go.Rx
