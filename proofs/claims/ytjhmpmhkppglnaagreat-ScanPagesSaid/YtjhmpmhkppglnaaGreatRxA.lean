/- The symbolic executor 'Rx', part A: symbolic values, symbolic memory, and what they stand for. By an AI agent. -/
import Derived.AtR
import Derived.Below
import Derived.KernelRfl
set_option linter.unusedVariables false
set_option linter.unusedSimpArgs false
namespace Go.Rx

/-! ## Tables by number: a full binary tree -/

inductive Tr (α : Type) where
  | leaf (x : α)
  | node (l r : Tr α)

namespace Tr
variable {α : Type}

def get : Tr α → Nat → α
  | .leaf x, _ => x
  | .node l r, n => bif Nat.beq (n % 2) 0 then l.get (n / 2) else r.get (n / 2)

def set : Tr α → Nat → α → Tr α
  | .leaf _, _, v => .leaf v
  | .node l r, n, v => bif Nat.beq (n % 2) 0 then .node (l.set (n / 2) v) r else .node l (r.set (n / 2) v)

def mk (x : α) : Nat → Tr α
  | 0 => .leaf x
  | d + 1 => .node (mk x d) (mk x d)

/-- A full tree of a depth. -/
def Full : Nat → Tr α → Prop
  | 0, .leaf _ => True
  | d + 1, .node l r => Full d l ∧ Full d r
  | _, _ => False

def full : Nat → Tr α → Bool
  | 0, .leaf _ => true
  | d + 1, .node l r => full d l && full d r
  | _, _ => false

theorem full_iff {d : Nat} {t : Tr α} : full d t = true ↔ Full d t := by
  induction d generalizing t with
  | zero => cases t <;> simp [full, Full]
  | succ d ih => cases t <;> simp [full, Full, ih]

theorem full_mk (x : α) (d : Nat) : Full d (mk x d) := by
  induction d with
  | zero => trivial
  | succ d ih => exact ⟨ih, ih⟩

theorem get_mk (x : α) (d n : Nat) : (mk x d).get n = x := by
  induction d generalizing n with
  | zero => rfl
  | succ d ih => simp only [mk, get]; cases Nat.beq (n % 2) 0 <;> simp [ih]

theorem Full.set {d : Nat} {t : Tr α} (h : Full d t) (n : Nat) (v : α) : Full d (t.set n v) := by
  induction d generalizing t n with
  | zero => cases t <;> simp_all [Full, Tr.set]
  | succ d ih =>
    cases t with
    | leaf x => simp [Full] at h
    | node l r =>
      obtain ⟨hl, hr⟩ := h
      simp only [Tr.set]
      cases Nat.beq (n % 2) 0
      · exact ⟨hl, ih hr _⟩
      · exact ⟨ih hl _, hr⟩

theorem get_set_self {t : Tr α} (n : Nat) (v : α) : (t.set n v).get n = v := by
  induction t generalizing n with
  | leaf x => rfl
  | node l r ihl ihr =>
    simp only [Tr.set]
    cases hb : Nat.beq (n % 2) 0 <;> simp [get, hb, ihl, ihr]

theorem get_set_ne {d : Nat} {t : Tr α} (h : Full d t) {n m : Nat} (hn : n < 2 ^ d) (hm : m < 2 ^ d) (hne : m ≠ n) (v : α) :
    (t.set n v).get m = t.get m := by
  induction d generalizing t n m with
  | zero => simp at hn hm; omega
  | succ d ih =>
    cases t with
    | leaf x => simp [Full] at h
    | node l r =>
      obtain ⟨hl, hr⟩ := h
      have h2 : 2 ^ (d + 1) = 2 * 2 ^ d := by rw [Nat.pow_succ, Nat.mul_comm]
      have e1 : ∀ k : Nat, Nat.beq (k % 2) 0 = true ↔ k % 2 = 0 := fun k => ⟨Nat.eq_of_beq_eq_true, fun e => by rw [e]; rfl⟩
      simp only [Tr.set]
      cases hbn : Nat.beq (n % 2) 0 <;> cases hbm : Nat.beq (m % 2) 0 <;> simp [get, hbm]
      · refine ih hr (by omega) (by omega) ?_
        intro he
        have a1 : ¬ n % 2 = 0 := fun e => by rw [(e1 n).2 e] at hbn; cases hbn
        have a2 : ¬ m % 2 = 0 := fun e => by rw [(e1 m).2 e] at hbm; cases hbm
        omega
      · refine ih hl (by omega) (by omega) ?_
        intro he
        have a1 := (e1 n).1 hbn
        have a2 := (e1 m).1 hbm
        omega

theorem get_set {d : Nat} {t : Tr α} (h : Full d t) {n m : Nat} (hn : n < 2 ^ d) (hm : m < 2 ^ d) (v : α) :
    (t.set n v).get m = if m = n then v else t.get m := by
  split
  · rename_i e; rw [e, get_set_self]
  · rename_i e; exact get_set_ne h hn hm e v

end Tr

/-! ## Symbolic values -/

/-- A symbolic value. (A slice without a capacity: its elements are of one cell each, or it begins at 0; it has what its row has left.) 'v x': just x. 'junk': whatever. 'ptr i off', 'sl i off len cap', 'map i': into the object of number i. 'fin i off len': what is left behind so many elements of a slice, where it has no more. -/
inductive SV where
  | junk
  | v (x : Value)
  | ptr (i off : Nat)
  | sl (i off len : Nat) (cap : Option Nat)
  | map (i : Nat)
  | agg (l : List SV)
  | tup (l : List SV)
  | iface (t : TypeId) (x : SV)
  | func (fn : Fn) (first capt : List SV)
  | yield (i : Nat)
  | fin (i off len adv : Nat)

/-- Which block (and how many elements a row made by an append has room for) an object's number stands for. -/
abbrev Val := Nat → Option (Nat × Nat)

def Val.Le (ν ν' : Val) : Prop := ∀ i b, ν i = some b → ν' i = some b
theorem Val.Le.refl (ν : Val) : ν.Le ν := fun _ _ h => h
theorem Val.Le.trans {a b c : Val} (h : a.Le b) (k : b.Le c) : a.Le c := fun i x hx => k i x (h i x hx)

mutual
def VR (ν : Val) : SV → Value → Prop
  | .junk, _ => True
  | .v x, y => y = x
  | .ptr i off, y => ∃ b, ν i = some b ∧ y = .pointer (some ⟨b.1, off, none⟩)
  | .sl i off len cap, y => ∃ b, ν i = some b ∧ len ≤ cap.getD (b.2 - off) ∧ y = .slice (some ⟨b.1, off, none⟩) len (cap.getD (b.2 - off))
  | .map i, y => ∃ b, ν i = some b ∧ y = .map (some b.1)
  | .agg l, y => ∃ a : List Value, y = .agg a.toArray ∧ VRL ν l a
  | .tup l, y => ∃ a : List Value, y = .tuple a.toArray ∧ VRL ν l a
  | .iface t x, y => ∃ z, y = .iface t z ∧ VR ν x z
  | .func fn a b, y => ∃ a' b' : List Value, y = .func fn a'.toArray b'.toArray ∧ VRL ν a a' ∧ VRL ν b b'
  | .yield i, y => ∃ b, ν i = some b ∧ y = .func (.yield b.1) #[] #[]
  | .fin i off len adv, y => ∃ b, ν i = some b ∧ y = .slice (some ⟨b.1, if b.2 - off = len then off else off + adv, none⟩) 0 (b.2 - off - len)
def VRL (ν : Val) : List SV → List Value → Prop
  | [], ys => ys = []
  | x :: xs, ys => ∃ z zs, ys = z :: zs ∧ VR ν x z ∧ VRL ν xs zs
end

mutual
theorem VR.mono {ν ν' : Val} (h : ν.Le ν') : ∀ (s : SV) (y : Value), VR ν s y → VR ν' s y
  | .junk, _, _ => trivial
  | .v _, _, hy => hy
  | .ptr _ _, _, hy => by obtain ⟨b, hb, e⟩ := hy; exact ⟨b, h _ _ hb, e⟩
  | .sl _ _ _ _, _, hy => by obtain ⟨b, hb, hc, e⟩ := hy; exact ⟨b, h _ _ hb, hc, e⟩
  | .map _, _, hy => by obtain ⟨b, hb, e⟩ := hy; exact ⟨b, h _ _ hb, e⟩
  | .agg l, _, hy => by obtain ⟨a, e, hl⟩ := hy; exact ⟨a, e, VRL.mono h l a hl⟩
  | .tup l, _, hy => by obtain ⟨a, e, hl⟩ := hy; exact ⟨a, e, VRL.mono h l a hl⟩
  | .iface _ x, _, hy => by obtain ⟨z, e, hz⟩ := hy; exact ⟨z, e, VR.mono h x z hz⟩
  | .func _ a b, _, hy => by obtain ⟨a', b', e, ha, hb⟩ := hy; exact ⟨a', b', e, VRL.mono h a a' ha, VRL.mono h b b' hb⟩
  | .yield _, _, hy => by obtain ⟨b, hb, e⟩ := hy; exact ⟨b, h _ _ hb, e⟩
  | .fin _ _ _ _, _, hy => by obtain ⟨b, hb, e⟩ := hy; exact ⟨b, h _ _ hb, e⟩
theorem VRL.mono {ν ν' : Val} (h : ν.Le ν') : ∀ (l : List SV) (ys : List Value), VRL ν l ys → VRL ν' l ys
  | [], _, hy => hy
  | x :: xs, _, hy => by
    obtain ⟨z, zs, e, hz, hzs⟩ := hy
    exact ⟨z, zs, e, VR.mono h x z hz, VRL.mono h xs zs hzs⟩
end

theorem VRL.length {ν : Val} : ∀ {l : List SV} {ys : List Value}, VRL ν l ys → ys.length = l.length
  | [], _, h => by rw [VRL] at h; rw [h]; rfl
  | _ :: xs, _, h => by rw [VRL] at h; obtain ⟨z, zs, rfl, _, hs⟩ := h; simp [VRL.length hs]

theorem VRL.nil {ν : Val} : VRL ν [] [] := by rw [VRL]
theorem VRL.cons {ν : Val} {x : SV} {xs : List SV} {y : Value} {ys : List Value} (h : VR ν x y) (hs : VRL ν xs ys) : VRL ν (x :: xs) (y :: ys) := by
  rw [VRL]; exact ⟨y, ys, rfl, h, hs⟩
theorem VRL.cons_inv {ν : Val} {x : SV} {xs : List SV} {l : List Value} (h : VRL ν (x :: xs) l) : ∃ y ys, l = y :: ys ∧ VR ν x y ∧ VRL ν xs ys := by
  rw [VRL] at h; exact h
theorem VRL.nil_inv {ν : Val} {l : List Value} (h : VRL ν [] l) : l = [] := by rw [VRL] at h; exact h

theorem VRL.append {ν : Val} : ∀ {l : List SV} {ys : List Value} {m : List SV} {zs : List Value}, VRL ν l ys → VRL ν m zs → VRL ν (l ++ m) (ys ++ zs)
  | [], _, _, _, h, k => by rw [VRL.nil_inv h]; exact k
  | _ :: _, _, _, _, h, k => by obtain ⟨z, zs, rfl, hz, hs⟩ := h.cons_inv; exact VRL.cons hz (VRL.append hs k)

theorem VRL.get {ν : Val} : ∀ {l : List SV} {ys : List Value} {i : Nat} {x : SV}, VRL ν l ys → l[i]? = some x → ∃ y, ys[i]? = some y ∧ VR ν x y
  | [], _, _, _, _, e => by simp at e
  | _ :: xs, _, 0, _, h, e => by obtain ⟨z, zs, rfl, hz, _⟩ := h.cons_inv; simp at e; subst e; exact ⟨z, by simp, hz⟩
  | _ :: xs, _, i + 1, _, h, e => by obtain ⟨z, zs, rfl, _, hs⟩ := h.cons_inv; simp at e; simpa using VRL.get hs e

theorem VRL.set {ν : Val} {x : SV} {y : Value} (hx : VR ν x y) : ∀ {l : List SV} {ys : List Value} (i : Nat), VRL ν l ys → VRL ν (l.set i x) (ys.set i y)
  | [], _, _, h => by rw [VRL.nil_inv h]; exact VRL.nil
  | _ :: _, _, 0, h => by obtain ⟨z, zs, rfl, _, hs⟩ := h.cons_inv; exact VRL.cons hx hs
  | _ :: _, _, i + 1, h => by obtain ⟨z, zs, rfl, hz, hs⟩ := h.cons_inv; exact VRL.cons hz (VRL.set hx i hs)

theorem VRL.take {ν : Val} : ∀ {l : List SV} {ys : List Value} (i : Nat), VRL ν l ys → VRL ν (l.take i) (ys.take i)
  | _, _, 0, _ => by simpa using VRL.nil
  | [], _, _ + 1, h => by rw [VRL.nil_inv h]; exact VRL.nil
  | _ :: _, _, i + 1, h => by obtain ⟨z, zs, rfl, hz, hs⟩ := h.cons_inv; exact VRL.cons hz (VRL.take i hs)

theorem VRL.drop {ν : Val} : ∀ {l : List SV} {ys : List Value} (i : Nat), VRL ν l ys → VRL ν (l.drop i) (ys.drop i)
  | _, _, 0, h => by simpa using h
  | [], _, _ + 1, h => by rw [VRL.nil_inv h]; exact VRL.nil
  | _ :: _, _, i + 1, h => by obtain ⟨z, zs, rfl, _, hs⟩ := h.cons_inv; simpa using VRL.drop i hs

theorem VRL.lits (ν : Val) : ∀ ys : List Value, VRL ν (ys.map SV.v) ys
  | [] => VRL.nil
  | _ :: ys => VRL.cons (by rw [VR]) (VRL.lits ν ys)

end Go.Rx
