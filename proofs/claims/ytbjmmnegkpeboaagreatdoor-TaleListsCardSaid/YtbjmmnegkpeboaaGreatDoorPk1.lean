/- What the law TaleLists leans on, part 1: the symbolic executor, proved sound, contracts of functions, plain lemmas. By an AI agent. -/
import Derived.AtR
import Derived.Below
import Derived.KernelRfl
import Derived.Laws.Sem
import Derived.Laws.World
import Derived.Laws.NewBlocks
import GoSem.Extern.ReflectliteValue
import Derived.IntWalk
import Derived.Laws.BytesString
import Derived.Lib.UnsafeStr
import Derived.LaidEql
import Derived.Laws.StructEq
import Derived.Lib.BytesEntry
set_option linter.unusedSimpArgs false
set_option linter.unusedVariables false
noncomputable section
namespace Go.Rx
open Go
def VV:=@and_self
def VW:=@true_and
def VX:=@and_true
def VY:=@Array.getElem?_eq_some_iff
def V0:=@decide_eq_true
def V2:=@decide_eq_false
def V3:=@Result.andThen_ok
def V4:=@List.getElem?_eq_getElem
def V5:=@Int.toNat_natCast
def V6:=@Bool.and_eq_true
def V7:=@List.length_append
def V8:=@List.mem_cons
def V9:=@Option.bind_some
def Wa:=@List.getElem?_cons_zero
def Wb:=@List.mem_cons_of_mem
def Wc:=@List.mem_map
def Wd:=@List.length_eq_zero_iff
def We:=@List.take_of_length_le
def Wf:=@Sem.run_bind
def Wg:=@Option.map_eq_some_iff
def Wh:=@Option.bind_eq_some_iff
def Wi:=@List.mem_cons_self
def Wj:=@Nat.le_trans
def Wk:=@List.mem_singleton
def Wl:=@Sem.run_pure
def Wm:=@List.length_cons
def Wn:=@List.all_eq_true
def Wo:=@List.mem_filter
def Wp:=@List.take_succ_eq_append_getElem
def Wq:=@List.map_append
def Wr:=@beq_eq_false_iff_ne
def Ws:=@of_decide_eq_true
def Wt:=@Array.getD_eq_getD_getElem?
def Wu:=@Nat.le_of_ble_eq_true
def Wv:=@List.getElem?_map
def Ww:=@List.not_mem_nil
def Wx:=@Nat.le_refl
def Wy:=@Bool.not_true
def Wz:=@Nat.lt_of_lt_of_le
def WA:=@List.getElem?_eq_some_iff
def WB:=@beq_self_eq_true
def WC:=@List.getElem?_append_left
def WD:=@List.map_cons
def WE:=@Option.bind_eq_bind
def WG:=@cond_true
def WH:=@List.length_map
def WI:=@List.map_map
def WJ:=@List.mem_append
def WK:=@Nat.eq_of_beq_eq_true
def WL:=@List.length_nil
def WM:=@List.all_append
def WN:=@Array.getElem?_setIfInBounds
def WO:=@List.getElem?_take
def WQ:=@List.drop_eq_getElem_cons
def WR:=@Option.getD_some
def WS:=@Array.getElem?_eq_getElem
def WT:=@List.getElem_mem
def WU:=@List.getElem?_cons_succ
def WV:=@List.mem_of_find?_eq_some
def WW:=@List.length_take
def WX:=@Nat.zero_le
def WY:=@List.find?_eq_none
def WZ:=@List.getElem?_of_mem
def W0:=@List.pairwise_cons
def W1:=@Bool.not_false
def W2:=@Option.getD_none
def W3:=@List.nodup_cons
def W4:=@List.append_nil
def W5:=@List.contains_iff_mem
def W6:=@cond_false
def W7:=@List.getElem?_drop
def W8:=@Array.getElem?_eq_none
def W9:=@Nat.zero_add
def Xb:=@Option.map_some
def Xc:=@or_false
def Xd:=@List.mem_range
def Xe:=@List.mem_append_left
def Xf:=@List.drop_eq_nil_of_le
def Xg:=@List.take_append_drop
def Xh:=@List.length_pos_iff
def Xi:=@List.mem_of_getElem?
def Xj:=@Bool.false_eq_true
def Xk:=@Array.getElem?_push
def Xl:=@not_false_eq_true
def Xm:=@List.length_filter_lt_length_iff_exists
def Xn:=@List.getD_eq_getElem?_getD
def Xo:=@List.nil_append
def Xp:=@beq_iff_eq
def Xq:=@List.mem_append_right
def Xr:=@List.find?_some
def Xs:=@of_decide_eq_false
def Xt:=@Array.ext_getElem?
def Xu:=@Nat.mul_le_mul_right
def Xv:=@List.cons_append
def Xw:=@step_lone_go
def Xx:=@List.nodup_append
def Xy:=@List.append_assoc
def Xz:=@IntWalk.i64_in
def XA:=@Bool.eq_false_iff
def XB:=@List.map_congr_left
def XC:=@Array.getElem?_modify
def XE:=@List.take_length
def XF:=@List.isEmpty_iff
def XG:=@List.take_append_of_le_length
def XH:=@List.nodup_nil
def XI:=@decide_eq_true_eq
def XJ:=@List.size_toArray
def XK:=@List.flatMap_cons
def XL:=@Int.eq_ofNat_of_zero_le
def XM:=@Bool.or_eq_true
def XN:=@List.toList_toArray
def XO:=@List.filter_eq_self
def XP:=@Array.getElem_setIfInBounds
def XQ:=@Nat.mul_one
def XR:=@List.getElem?_append_right
def XU:=@List.length_filter_le
def XV:=@List.getElem?_eq_none
def XW:=@Classical.choose_spec
def XX:=@Bool.not_eq_true'
def XY:=@List.mem_of_mem_eraseIdx
def XZ:=@List.filter_cons_of_pos
def X0:=@List.filter_cons_of_neg
def X1:=@Nat.add_mul
def X2:=@BitVec.toNat_ofNat
def X3:=@UInt8.toNat_inj
def X4:=@List.foldl_cons
def X5:=@List.find?_cons
def X6:=@UInt8.lt_iff_toNat_lt
def X7:=@List.getElem?_toArray
def X8:=@List.take_zero
def X9:=@Bool.or_eq_false_iff
def Ya:=@Nat.succ_le_succ
def Yb:=@Nat.mod_eq_of_lt
def Yc:=@Nat.add_zero
def Yd:=@List.flatMap_nil
def Ye:=@List.flatMap_map
def Yf:=@List.filter_sublist
def Yg:=@Bool.eq_iff_iff
def Yh:=@Nat.mod_lt
def Yi:=@if_false
def Yj:=@Nat.sub_zero
def Yk:=@List.pairwise_map
def Yl:=@List.foldl_append
def Ym:=@List.modify_succ_cons
def Yn:=@run_newObj
def Yo:=@List.mem_flatMap
def Yp:=@List.getElem_inj
def Yq:=@if_true
def Yr:=@List.mem_of_mem_take
def Ys:=@List.mem_iff_getElem
def Yt:=@Array.size_replicate
def Yu:=@step_leave_returned
def Yv:=@eq_of_beq
def Yw:=@List.mem_filterMap
def Yx:=@List.filter_append
def Yy:=@List.drop_zero
def Yz:=@Int.fdiv_eq_ediv_of_nonneg
def YA:=@DataW.trod_int
def YB:=@Array.foldl_toList
def YC:=@Array.all_eq_true'
def YD:=@dif_pos
def YE:=@Nat.le_zero


inductive Tr (α:Type) where
 | leaf (x:α)
 | node (l r:Tr α)

namespace Tr
variable {α:Type}

def get:Tr α->Nat->α
 | .leaf x,_=>x
 | .node l r,n=>bif Nat.beq (n % 2) 0 then l.get (n / 2) else r.get (n / 2)

def set:Tr α->Nat->α->Tr α
 | .leaf _,_,v=>.leaf v
 | .node l r,n,v=>bif Nat.beq (n % 2) 0 then .node (l.set (n / 2) v) r else .node l (r.set (n / 2) v)

def mk (x:α):Nat->Tr α
 | 0=>.leaf x
 | d+1=>.node (mk x d) (mk x d)

def Full:Nat->Tr α->Prop
 | 0,.leaf _=>True
 | d+1,.node l r=>Full d l/\Full d r
 | _,_=>False

def full:Nat->Tr α->Bool
 | 0,.leaf _=>true
 | d+1,.node l r=>full d l&&full d r
 | _,_=>false

theorem GG {d:Nat} {t:Tr α}:full d t=true↔Full d t:=by
 induction d generalizing t with
 | zero=>cases t <;> simp [full,Full]
 | succ d ih=>cases t <;> simp [full,Full,ih]

theorem kZ (x:α) (d:Nat):Full d (mk x d):=by
 induction d with
 | zero=>trivial
 | succ d ih=>exact ⟨ih,ih⟩

theorem uj (x:α) (d n:Nat):(mk x d).get n=x:=by
 induction d generalizing n with
 | zero=>rfl
 | succ d ih=>simp only [mk,get];cases Nat.beq (n % 2) 0 <;> simp [ih]

theorem Full.set {d:Nat} {t:Tr α} (h:Full d t) (n:Nat) (v:α):Full d (t.set n v):=by
 induction d generalizing t n with
 | zero=>cases t <;> simp_all [Full,Tr.set]
 | succ d ih=>
  cases t with
  | leaf x=>simp [Full] at h
  | node l r=>
   obtain ⟨hl,hr⟩:=h;simp only [Tr.set];cases Nat.beq (n % 2) 0
   ·exact ⟨hl,ih hr _⟩
   ·exact ⟨ih hl _,hr⟩

theorem w7 {t:Tr α} (n:Nat) (v:α):(t.set n v).get n=v:=by
 induction t generalizing n with
 | leaf x=>rfl
 | node l r ihl ihr=>
  simp only [Tr.set];cases hb:Nat.beq (n % 2) 0 <;> simp [get,hb,ihl,ihr]

theorem Ac {d:Nat} {t:Tr α} (h:Full d t) {n m:Nat} (hn:n<2 ^ d) (hm:m<2 ^ d) (YI:m≠n) (v:α):
  (t.set n v).get m=t.get m:=by
 induction d generalizing t n m with
 | zero=>simp at hn hm;omega
 | succ d ih=>
  cases t with
  | leaf x=>simp [Full] at h
  | node l r=>
   obtain ⟨hl,hr⟩:=h;have h2:2 ^ (d+1)=2*2 ^ d:=by rw [Nat.pow_succ,Nat.mul_comm]
   have e1:∀ k:Nat,Nat.beq (k % 2) 0=true↔k % 2=0:=fun k=>⟨WK,fun e=>by rw [e];rfl⟩;simp only [Tr.set];cases φ:Nat.beq (n % 2) 0 <;> cases hbm:Nat.beq (m % 2) 0 <;> simp [get,hbm]
   ·refine ih hr (by omega) (by omega) ?_;intro he;have a1:¬ n % 2=0:=fun e=>by rw [(e1 n).2 e] at φ;cases φ
    have a2:¬ m % 2=0:=fun e=>by rw [(e1 m).2 e] at hbm;cases hbm
    omega
   ·refine ih hl (by omega) (by omega) ?_;intro he;have a1:=(e1 n).1 φ;have a2:=(e1 m).1 hbm;omega

theorem dU {d:Nat} {t:Tr α} (h:Full d t) {n m:Nat} (hn:n<2 ^ d) (hm:m<2 ^ d) (v:α):
  (t.set n v).get m=if m=n then v else t.get m:=by
 split
 ·rename_i e;rw [e,w7]
 ·rename_i e;exact Ac h hn hm e v

end Tr


inductive SV where
 | aH
 | v (x:Value)
 | ptr (i off:Nat)
 | sl (i off len:Nat) (cap:Option Nat)
 | map (i:Nat)
 | agg (l:List SV)
 | tup (l:List SV)
 | iface (t:TypeId) (x:SV)
 | func (fn:Fn) (first capt:List SV)
 | yield (i:Nat)
 | fin (i off len adv:Nat)

abbrev aP:=Nat->Option (Nat × Nat)

def aP.Le (ν ν':aP):Prop:=∀ i b,ν i=some b->ν' i=some b
theorem aP.Le.refl (ν:aP):ν.Le ν:=fun _ _ h=>h
theorem aP.Le.trans {a b c:aP} (h:a.Le b) (k:b.Le c):a.Le c:=fun i x hx=>k i x (h i x hx)

mutual
def VR (ν:aP):SV->Value->Prop
 | .aH,_=>True
 | .v x,y=>y=x
 | .ptr i off,y=>∃ b,ν i=some b/\y=.pointer (some ⟨b.1,off,none⟩)
 | .sl i off len cap,y=>∃ b,ν i=some b/\len<=cap.getD (b.2 - off)/\y=.slice (some ⟨b.1,off,none⟩) len (cap.getD (b.2 - off))
 | .map i,y=>∃ b,ν i=some b/\y=.map (some b.1)
 | .agg l,y=>∃ a:List Value,y=.agg a.toArray/\au ν l a
 | .tup l,y=>∃ a:List Value,y=.tuple a.toArray/\au ν l a
 | .iface t x,y=>∃ z,y=.iface t z/\VR ν x z
 | .func fn a b,y=>∃ a' b':List Value,y=.func fn a'.toArray b'.toArray/\au ν a a'/\au ν b b'
 | .yield i,y=>∃ b,ν i=some b/\y=.func (.yield b.1) #[] #[]
 | .fin i off len adv,y=>∃ b,ν i=some b/\y=.slice (some ⟨b.1,if b.2 - off=len then off else off+adv,none⟩) 0 (b.2 - off - len)
def au (ν:aP):List SV->List Value->Prop
 | [],ys=>ys=[]
 | x::xs,ys=>∃ z zs,ys=z::zs/\VR ν x z/\au ν xs zs
end

mutual
theorem VR.mono {ν ν':aP} (h:ν.Le ν'):∀ (s:SV) (y:Value),VR ν s y->VR ν' s y
 | .aH,_,_=>trivial
 | .v _,_,hy=>hy
 | .ptr _ _,_,hy=>by obtain ⟨b,hb,e⟩:=hy;exact ⟨b,h _ _ hb,e⟩
 | .sl _ _ _ _,_,hy=>by obtain ⟨b,hb,hc,e⟩:=hy;exact ⟨b,h _ _ hb,hc,e⟩
 | .map _,_,hy=>by obtain ⟨b,hb,e⟩:=hy;exact ⟨b,h _ _ hb,e⟩
 | .agg l,_,hy=>by obtain ⟨a,e,hl⟩:=hy;exact ⟨a,e,au.mono h l a hl⟩
 | .tup l,_,hy=>by obtain ⟨a,e,hl⟩:=hy;exact ⟨a,e,au.mono h l a hl⟩
 | .iface _ x,_,hy=>by obtain ⟨z,e,hz⟩:=hy;exact ⟨z,e,VR.mono h x z hz⟩
 | .func _ a b,_,hy=>by obtain ⟨a',b',e,ha,hb⟩:=hy;exact ⟨a',b',e,au.mono h a a' ha,au.mono h b b' hb⟩
 | .yield _,_,hy=>by obtain ⟨b,hb,e⟩:=hy;exact ⟨b,h _ _ hb,e⟩
 | .fin _ _ _ _,_,hy=>by obtain ⟨b,hb,e⟩:=hy;exact ⟨b,h _ _ hb,e⟩
theorem au.mono {ν ν':aP} (h:ν.Le ν'):∀ (l:List SV) (ys:List Value),au ν l ys->au ν' l ys
 | [],_,hy=>hy
 | x::xs,_,hy=>by
  obtain ⟨z,zs,e,hz,hzs⟩:=hy
  exact ⟨z,zs,e,VR.mono h x z hz,au.mono h xs zs hzs⟩
end

theorem au.length {ν:aP}:∀ {l:List SV} {ys:List Value},au ν l ys->ys.length=l.length
 | [],_,h=>by rw [au] at h;rw [h];rfl
 | _::xs,_,h=>by rw [au] at h;obtain ⟨z,zs,rfl,_,hs⟩:=h;simp [au.length hs]

theorem au.nil {ν:aP}:au ν [] []:=by rw [au]
theorem au.cons {ν:aP} {x:SV} {xs:List SV} {y:Value} {ys:List Value} (h:VR ν x y) (hs:au ν xs ys):au ν (x::xs) (y::ys):=by
 rw [au];exact ⟨y,ys,rfl,h,hs⟩
theorem au.cons_inv {ν:aP} {x:SV} {xs:List SV} {l:List Value} (h:au ν (x::xs) l):∃ y ys,l=y::ys/\VR ν x y/\au ν xs ys:=by
 rw [au] at h;exact h
theorem au.ay {ν:aP} {l:List Value} (h:au ν [] l):l=[]:=by rw [au] at h;exact h

theorem au.append {ν:aP}:∀ {l:List SV} {ys:List Value} {m:List SV} {zs:List Value},au ν l ys->au ν m zs->au ν (l++m) (ys++zs)
 | [],_,_,_,h,k=>by rw [au.ay h];exact k
 | _::_,_,_,_,h,k=>by obtain ⟨z,zs,rfl,hz,hs⟩:=h.cons_inv;exact au.cons hz (au.append hs k)

theorem au.get {ν:aP}:∀ {l:List SV} {ys:List Value} {i:Nat} {x:SV},au ν l ys->l[i]?=some x->∃ y,ys[i]?=some y/\VR ν x y
 | [],_,_,_,_,e=>by simp at e
 | _::xs,_,0,_,h,e=>by obtain ⟨z,zs,rfl,hz,_⟩:=h.cons_inv;simp at e;subst e;exact ⟨z,by simp,hz⟩
 | _::xs,_,i+1,_,h,e=>by obtain ⟨z,zs,rfl,_,hs⟩:=h.cons_inv;simp at e;simpa using au.get hs e

theorem au.set {ν:aP} {x:SV} {y:Value} (hx:VR ν x y):∀ {l:List SV} {ys:List Value} (i:Nat),au ν l ys->au ν (l.set i x) (ys.set i y)
 | [],_,_,h=>by rw [au.ay h];exact au.nil
 | _::_,_,0,h=>by obtain ⟨z,zs,rfl,_,hs⟩:=h.cons_inv;exact au.cons hx hs
 | _::_,_,i+1,h=>by obtain ⟨z,zs,rfl,hz,hs⟩:=h.cons_inv;exact au.cons hz (au.set hx i hs)

theorem au.take {ν:aP}:∀ {l:List SV} {ys:List Value} (i:Nat),au ν l ys->au ν (l.take i) (ys.take i)
 | _,_,0,_=>by simpa using au.nil
 | [],_,_+1,h=>by rw [au.ay h];exact au.nil
 | _::_,_,i+1,h=>by obtain ⟨z,zs,rfl,hz,hs⟩:=h.cons_inv;exact au.cons hz (au.take i hs)

theorem au.drop {ν:aP}:∀ {l:List SV} {ys:List Value} (i:Nat),au ν l ys->au ν (l.drop i) (ys.drop i)
 | _,_,0,h=>by simpa using h
 | [],_,_+1,h=>by rw [au.ay h];exact au.nil
 | _::_,_,i+1,h=>by obtain ⟨z,zs,rfl,_,hs⟩:=h.cons_inv;simpa using au.drop i hs

theorem au.lits (ν:aP):∀ ys:List Value,au ν (ys.map SV.v) ys
 | []=>au.nil
 | _::ys=>au.cons (by rw [VR]) (au.lits ν ys)

open Go.RowKit (Below)

structure fP where
 nt:Nat
 d:Nat
 T:Tr SV

def fP.get (s:fP) (t:Nat):SV:=bif Nat.blt t s.nt then s.T.get t else .v undef
def fP.set (s:fP) (t:Nat) (x:SV):fP:=bif Nat.blt t s.nt then { s with T:=s.T.set t x } else s

structure j2 (ν:aP) (s:fP) (a:Array Value):Prop where
 size:a.size=s.nt
 full:Tr.Full s.d s.T
 le:s.nt<=2 ^ s.d
 get:∀ t,t<s.nt->VR ν (s.T.get t) (a.getD t undef)

theorem j2.mono {ν ν':aP} (h:ν.Le ν') {s:fP} {a:Array Value} (r:j2 ν s a):j2 ν' s a:=
 ⟨r.size,r.full,r.le,fun t ht=>VR.mono h _ _ (r.get t ht)⟩

theorem dw {a b:Nat}:Nat.blt a b=true↔a<b:=by
 unfold Nat.blt;rw [Nat.ble_eq];exact Iff.rfl
theorem vT {a b:Nat} (h:¬ a<b):Nat.blt a b=false:=by
 cases hb:Nat.blt a b
 ·rfl
 ·exact absurd (dw.1 hb) h

theorem j2.at {ν:aP} {s:fP} {a:Array Value} (r:j2 ν s a) (t:Nat):VR ν (s.get t) (a.getD t undef):=by
 unfold fP.get;by_cases h:t<s.nt
 ·rw [dw.2 h];exact r.get t h
 ·rw [vT h];have:a.getD t undef=undef:=by rw [Array.getD,dif_neg (by rw [r.size];exact h)]
  simp only [W6];rw [this,VR]

theorem j2.set {ν:aP} {s:fP} {a:Array Value} (r:j2 ν s a) (t:Nat) {x:SV} {y:Value} (h:VR ν x y):
  j2 ν (s.set t x) (a.setIfInBounds t y):=by
 unfold fP.set;by_cases ht:t<s.nt
 ·rw [dw.2 ht];refine ⟨by simp [r.size],r.full.set _ _,r.le,?_⟩;intro u hu;have hu':u<s.nt:=hu;show VR ν ((s.T.set t x).get u) _;rw [Tr.dU r.full (Wz ht r.le) (Wz hu' r.le)];by_cases e:u=t
  ·subst e;simp [Array.getD,r.size,hu',h]
  ·have:=r.get u hu';simp only [Array.getD,Array.size_setIfInBounds] at this ⊢;rw [if_neg e];have hs:u<a.size:=by rw [r.size];exact hu'
   rw [YD hs] at this ⊢
   have:(a.setIfInBounds t y)[u]'(by simpa using hs)=a[u]:=by
    rw [XP hs,if_neg (fun e'=>e e'.symm)]
   first | (rw [this];assumption) | simp_all
 ·rw [vT ht]
  have:a.setIfInBounds t y=a:=by
   rw [Array.setIfInBounds,dif_neg (by rw [r.size];exact ht)]
  simp only [W6];rw [this];exact r

inductive rb where
 | fn (fn:Fn) (capt args:List SV)
 | coll (i:Nat)

def AP (ν:aP):rb->Deferred->Prop
 | .fn f c a,d=>∃ c' a':List Value,d={ target:=.fn f c'.toArray,args:=a'.toArray }/\au ν c c'/\au ν a a'
 | .coll i,d=>∃ b,ν i=some b/\d={ target:=.collected b.1,args:=#[] }

def kb (ν:aP):List rb->List Deferred->Prop
 | [],l=>l=[]
 | x::xs,l=>∃ z zs,l=z::zs/\AP ν x z/\kb ν xs zs

theorem AP.mono {ν ν':aP} (h:ν.Le ν'):∀ {s:rb} {d:Deferred},AP ν s d->AP ν' s d
 | .fn _ _ _,_,⟨c',a',e,hc,ha⟩=>⟨c',a',e,hc.mono h,ha.mono h⟩
 | .coll _,_,⟨b,hb,e⟩=>⟨b,h _ _ hb,e⟩
theorem kb.mono {ν ν':aP} (h:ν.Le ν'):∀ {l:List rb} {ds:List Deferred},kb ν l ds->kb ν' l ds
 | [],_,e=>e
 | _::_,_,⟨z,zs,e,hz,hs⟩=>⟨z,zs,e,hz.mono h,kb.mono h hs⟩

inductive SO where
 | row (xs:List SV) (elem:TypeId) (fz:Nat × Nat) (ext:Option Nat)
 | look (xs:List SV)
 | rowO (n:Nat) (f:Nat->Value) (elem:TypeId) (fz:Nat × Nat) (ext:Option Nat)
 | map (es:List (SV × SV × Nat)) (clock:Nat)
 | siter (s:ByteArray) (pos:Nat)
 | miter (m:Option Nat) (since:Nat) (seen:List Nat) (Y9:Nat)
 | loop (st:LoopState) (pending:Option Code) (fn:FuncId) (tm:fP) (params:List Tmp) (assign body:Code) (defers:Nat)
 | dfr (calls:Option (List rb))

def ju (fz:Nat × Nat) (n:Nat):Nat × Nat:=bif Nat.beq fz.1 1&&Nat.beq fz.2 0 then (n,n+1) else fz
@[simp] theorem lP (n:Nat):ju (0,0) n=(0,0):=rfl

def si (ν:aP) (i:Nat) (n:Nat) (size:Nat):Option Nat->Prop
 | none=>size=n
 | some e=>n<=size/\∃ b,ν i=some b/\size=b.2*e

def eI (ν:aP):List (SV × SV × Nat)->List MapEntry->Prop
 | [],l=>l=[]
 | x::xs,l=>∃ z zs,l=z::zs/\VR ν x.1 z.key/\VR ν x.2.1 z.val/\x.2.2=z.born/\eI ν xs zs

theorem eI.mono {ν ν':aP} (h:ν.Le ν'):∀ {l:List (SV × SV × Nat)} {ds:List MapEntry},eI ν l ds->eI ν' l ds
 | [],_,e=>e
 | _::_,_,⟨z,zs,e,h1,h2,h3,hs⟩=>⟨z,zs,e,VR.mono h _ _ h1,VR.mono h _ _ h2,h3,eI.mono h hs⟩

def OR (ν:aP) (i:Nat):SO->Obj->Prop
 | .row xs elem fz ext,o=>∃ ys rest:List Value,o=.cells (ys++rest).toArray elem (ju fz (ys++rest).length)/\au ν xs ys/\si ν i xs.length (ys++rest).length ext
 | .look xs,o=>∃ (ys:List Value) (c:Array Value) (e:TypeId) (fz:Nat × Nat),o=.cells c e fz/\au ν xs ys/\∀ (k:Nat) (y:Value),ys[k]?=some y->c[k]?=some y
 | .rowO n f elem fz ext,o=>∃ c:Array Value,o=.cells c elem (ju fz c.size)/\(∀ k,k<n->c[k]?=some (f k))/\si ν i n c.size ext
 | .map es clock,o=>∃ l:List MapEntry,o=.map l.toArray clock/\eI ν es l
 | .siter s pos,o=>o=.stringIter s pos
 | .miter none since seen Y9,o=>o=.mapIter none since seen.toArray Y9
 | .miter (some m) since seen Y9,o=>∃ b,ν m=some b/\o=.mapIter (some b.1) since seen.toArray Y9
 | .loop st pending fn tm params assign body defers,o=>∃ (a:Array Value) (b:Nat × Nat),ν defers=some b/\j2 ν tm a/\
   o=.loop { state:=st,pending,fn,tmps:=a,params:=params.toArray,assign,body,defers:=b.1 }
 | .dfr none,o=>o=.deferred none
 | .dfr (some l),o=>∃ ds,o=.deferred (some ds)/\kb ν l ds

theorem si.mono {ν ν':aP} (h:ν.Le ν') {i n size:Nat}:∀ {e:Option Nat},si ν i n size e->si ν' i n size e
 | none,r=>r
 | some _,⟨r,b,hb,e⟩=>⟨r,b,h _ _ hb,e⟩

theorem OR.mono {ν ν':aP} (h:ν.Le ν') {i:Nat}:∀ {s:SO} {o:Obj},OR ν i s o->OR ν' i s o
 | .row ..,_,⟨ys,rest,e,hl,hx⟩=>⟨ys,rest,e,hl.mono h,hx.mono h⟩
 | .look ..,_,⟨ys,c,e,fz,ho,hl,hx⟩=>⟨ys,c,e,fz,ho,hl.mono h,hx⟩
 | .rowO ..,_,⟨c,e,hl,hx⟩=>⟨c,e,hl,hx.mono h⟩
 | .map ..,_,⟨l,e,hl⟩=>⟨l,e,hl.mono h⟩
 | .siter ..,_,e=>e
 | .miter none ..,_,e=>e
 | .miter (some _) ..,_,⟨b,hb,e⟩=>⟨b,h _ _ hb,e⟩
 | .loop ..,_,⟨a,b,hb,ha,e⟩=>⟨a,b,h _ _ hb,ha.mono h,e⟩
 | .dfr none,_,e=>e
 | .dfr (some _),_,⟨ds,e,hd⟩=>⟨ds,e,hd.mono h⟩

inductive gM where
 | b (t:Bool)
 | cells (l:List SV)
 | app (old new:List SV)
 | app0
 | put
 | str (b:ByteArray)
 | eqs (b:Bool)
 | hit (j:Nat) (x:SV) (born:Nat)
 | cr
 | ent (k x:SV)

structure SH where
 d:Nat
 H:Tr (Option (SO × Bool))
 nx:Nat
 Zn:List Prop
 dc:Nat
 orc:Nat->Option gM:=fun _=>none
 soft:Bool:=false

def ah:List Prop->Prop
 | []=>True
 | p::l=>ah l/\p

def SH.ob (s:SH):Prop:=ah s.Zn

theorem ah.append:∀ {l m:List Prop},ah (l++m)->ah l/\ah m
 | [],_,h=>⟨trivial,h⟩
 | _::_,_,h=>⟨⟨(ah.append h.1).1,h.2⟩,(ah.append h.1).2⟩

structure Own where
 m:Nat->Prop
 r:Nat->Prop
 h:Nat->Prop
instance:CoeFun Own (fun _=>Nat->Prop):=⟨Own.m⟩

def Own.Eu (r:Nat->Prop):Own:=⟨fun _=>False,r,fun _=>False⟩

structure HR (ν:aP) (M:Own) (w0:World) (s:SH) (w:World):Prop where
 full:Tr.Full s.d s.H
 dom:∀ i,2 ^ s.d<=i->ν i=none
 fresh:∀ i,s.nx<=i->ν i=none
 obj:∀ i,i<2 ^ s.d->∀ x,s.H.get i=some x->∃ b o,ν i=some b/\w.heap[b.1]?=some o/\OR ν i x.1 o/\(x.2=true->w0.heap.size<=b.1\/M b.1)
 inj:∀ i j,i<2 ^ s.d->j<2 ^ s.d->s.H.get i≠none->s.H.get j≠none->∀ b c,ν i=some b->ν j=some c->b.1=c.1->i=j
 size:w0.heap.size<=w.heap.size
 frame:∀ b,b<w0.heap.size->¬ M b->w.heap[b]?=w0.heap[b]?
 ro:∀ i,i<2 ^ s.d->∀ x,s.H.get i=some x->x.2=false->∀ b,ν i=some b->M.r b.1
 os:w.os=w0.os
 tape:w.tape=w0.tape
 output:w.output=w0.output

theorem HR.below {ν:aP} {r:Nat->Prop} {w0 w:World} {s:SH} (h:HR ν (Own.Eu r) w0 s w):Below w0.heap.size w0 w:=
 ⟨h.os,h.tape,h.output,h.size,fun k hk=>h.frame k hk id⟩

def SH.look (s:SH) (i:Nat):Option (SO × Bool):=bif Nat.blt i (2 ^ s.d) then s.H.get i else none

theorem HR.look {ν:aP} {M:Own} {w0 w:World} {s:SH} (h:HR ν M w0 s w) {i:Nat} {x:SO × Bool} (e:s.look i=some x):
  i<2 ^ s.d/\s.H.get i=some x/\∃ b o,ν i=some b/\w.heap[b.1]?=some o/\OR ν i x.1 o/\(x.2=true->w0.heap.size<=b.1\/M b.1):=by
 unfold SH.look at e;cases hb:Nat.blt i (2 ^ s.d)
 ·rw [hb] at e;cases e
 ·rw [hb] at e;exact ⟨dw.1 hb,e,h.obj i (dw.1 hb) x e⟩

theorem HR.drawn {ν:aP} {M:Own} {w0 w:World} {s:SH} (h:HR ν M w0 s w) (n:Nat):HR ν M w0 s { w with drawn:=n }:=
 ⟨h.full,h.dom,h.fresh,h.obj,h.inj,h.size,h.frame,h.ro,h.os,h.tape,h.output⟩

def SH.put (s:SH) (i:Nat) (o:SO):SH:={ s with H:=s.H.set i (some (o,true)) }

theorem HR.put {ν:aP} {M:Own} {w0 w w':World} {s:SH} (h:HR ν M w0 s w) {i:Nat} {x:SO} (e:s.look i=some (x,true)) {o:SO} {r:Obj} {b:Nat × Nat}
  (hb:ν i=some b) (ho:OR ν i o r) (hw:w'.heap=w.heap.setIfInBounds b.1 r) (hos:w'.os=w.os) (ht:w'.tape=w.tape) (hout:w'.output=w.output):
  HR ν M w0 (s.put i o) w':=by
 obtain ⟨hi,hg,b',o',YM,ZN,_,Y6⟩:=h.look e;obtain rfl:b=b':=by rw [hb] at YM;exact Option.some.inj YM
 have Y6:=Y6 rfl;have YR:b.1<w.heap.size:=(VY.1 ZN).1;refine ⟨h.full.set _ _,h.dom,h.fresh,?_,?_,?_,?_,?_,hos.trans h.os,ht.trans h.tape,hout.trans h.output⟩
 ·intro j hj y hy;have hy:(s.H.set i (some (o,true))).get j=some y:=hy;rw [Tr.dU h.full hi hj] at hy;by_cases eij:j=i
  ·subst eij;rw [if_pos rfl] at hy;cases hy;exact ⟨b,r,hb,by rw [hw];simp [YR],ho,fun _=>Y6⟩
  ·rw [if_neg eij] at hy;obtain ⟨c,oc,hc,hoc,hr,ho2⟩:=h.obj j hj y hy;refine ⟨c,oc,hc,?_,hr,ho2⟩;rw [hw,WN];rw [if_neg]
   ·exact hoc
   ·intro ec;exact eij (h.inj j i hj hi (by rw [hy];simp) (by rw [hg];simp) c b hc hb ec.symm)
 ·intro j k hj hk hgj hgk c c' hc ZW ec
  have f:∀ u,u<2 ^ s.d->(s.put i o).H.get u≠none->s.H.get u≠none:=by
   intro u hu hn;have hn:(s.H.set i (some (o,true))).get u≠none:=hn;rw [Tr.dU h.full hi hu] at hn;by_cases eu:u=i
   ·subst eu;rw [hg];simp
   ·rwa [if_neg eu] at hn
  exact h.inj j k hj hk (f j hj hgj) (f k hk hgk) c c' hc ZW ec
 ·rw [hw];simpa using h.size
 ·intro c hc hM;rw [hw,WN,if_neg,h.frame c hc hM];intro ec;subst ec;rcases Y6 with h1 | h1
  ·omega
  ·exact hM h1
 ·intro j hj y hy hf c hc;have hy:(s.H.set i (some (o,true))).get j=some y:=hy;rw [Tr.dU h.full hi hj] at hy;by_cases eij:j=i
  ·rw [if_pos eij] at hy;cases hy;cases hf
  ·rw [if_neg eij] at hy;exact h.ro j hj y hy hf c hc

def SH.drop (s:SH) (i:Nat):SH:={ s with H:=s.H.set i none }
theorem HR.drop {ν:aP} {M:Own} {w0 w:World} {s:SH} (h:HR ν M w0 s w) {i:Nat} (hi:i<2 ^ s.d):HR ν M w0 (s.drop i) w:=by
 have f:∀ u,u<2 ^ s.d->∀ x,(s.drop i).H.get u=some x->s.H.get u=some x:=by
  intro u hu x hn;have hn:(s.H.set i none).get u=some x:=hn;rw [Tr.dU h.full hi hu] at hn;by_cases eu:u=i
  ·rw [if_pos eu] at hn;cases hn
  ·rwa [if_neg eu] at hn
 refine ⟨h.full.set _ _,h.dom,h.fresh,fun j hj x hx=>h.obj j hj x (f j hj x hx),?_,h.size,h.frame,fun j hj x hx=>h.ro j hj x (f j hj x hx),h.os,h.tape,h.output⟩;intro j k hj hk hgj hgk
 have g:∀ u,u<2 ^ s.d->(s.drop i).H.get u≠none->s.H.get u≠none:=by
  intro u hu hn;cases hx:(s.drop i).H.get u with
  | none=>exact absurd hx hn
  | some x=>rw [f u hu x hx];simp
 exact h.inj j k hj hk (g j hj hgj) (g k hk hgk)

def SH.new (s:SH) (o:SO):SH:={ s with H:=s.H.set s.nx (some (o,true)),nx:=s.nx+1 }
def SH.room (s:SH):Bool:=Nat.blt s.nx (2 ^ s.d)

def aP.put (ν:aP) (i:Nat) (b:Nat × Nat):aP:=fun j=>if j=i then some b else ν j
theorem aP.bM (ν:aP) (i:Nat) (b:Nat × Nat):ν.put i b i=some b:=by simp [aP.put]
theorem aP.lz {ν:aP} {i:Nat} (h:ν i=none) (b:Nat × Nat):ν.Le (ν.put i b):=by
 intro j c hc;unfold aP.put;by_cases e:j=i
 ·subst e;rw [h] at hc;cases hc
 ·rw [if_neg e];exact hc

theorem HR.new {ν:aP} {M:Own} {w0 w w':World} {s:SH} (h:HR ν M w0 s w) (hr:s.room=true) {o:SO} {r:Obj} (c:Nat)
  (ho:OR (ν.put s.nx (w.heap.size,c)) s.nx o r)
  (hw:w'.heap=w.heap.push r) (hos:w'.os=w.os) (ht:w'.tape=w.tape) (hout:w'.output=w.output):
  ν s.nx=none/\HR (ν.put s.nx (w.heap.size,c)) M w0 (s.new o) w':=by
 have hnx:ν s.nx=none:=h.fresh _ (Wx _);have YR:s.nx<2 ^ s.d:=dw.1 hr;have hle:=aP.lz hnx (w.heap.size,c);have Zo:∀ j,j≠s.nx->(ν.put s.nx (w.heap.size,c)) j=ν j:=fun j e=>by simp [aP.put,e]
 have blt:∀ j,j<2 ^ s.d->s.H.get j≠none->∀ b,ν j=some b->b.1<w.heap.size:=by
  intro j hj hn b hb;cases hx:s.H.get j with
  | none=>exact absurd hx hn
  | some x=>
   obtain ⟨b',o',YM,ZN,_⟩:=h.obj j hj x hx;rw [hb] at YM;cases YM;exact (VY.1 ZN).1
 refine ⟨hnx,h.full.set _ _,?_,?_,?_,?_,?_,?_,?_,hos.trans h.os,ht.trans h.tape,hout.trans h.output⟩
 ·intro i hi;have hi:2 ^ s.d<=i:=hi;rw [Zo i (by omega)];exact h.dom i hi
 ·intro i hi;have hi:s.nx+1<=i:=hi;rw [Zo i (by omega)];exact h.fresh i (by omega)
 ·intro j hj y hy;have hj:j<2 ^ s.d:=hj;have hy:(s.H.set s.nx (some (o,true))).get j=some y:=hy;rw [Tr.dU h.full YR hj] at hy;by_cases e:j=s.nx
  ·subst e;rw [if_pos rfl] at hy;cases hy;exact ⟨(w.heap.size,c),r,aP.bM _ _ _,by rw [hw];simp,ho,fun _=>.inl h.size⟩
  ·rw [if_neg e] at hy;obtain ⟨b,o',hb,ZN,YY,Y6⟩:=h.obj j hj y hy;have:=(VY.1 ZN).1;exact ⟨b,o',by rw [Zo j e];exact hb,by rw [hw,Xk,if_neg (by omega)];exact ZN,YY.mono hle,Y6⟩
 ·intro i j hi hj hgi hgj b b' hb YM e;have hi:i<2 ^ s.d:=hi;have hj:j<2 ^ s.d:=hj
  have g:∀ u,u<2 ^ s.d->u≠s.nx->(s.new o).H.get u≠none->s.H.get u≠none:=by
   intro u hu ne hn;have hn:(s.H.set s.nx (some (o,true))).get u≠none:=hn;rwa [Tr.dU h.full YR hu,if_neg ne] at hn
  by_cases ei:i=s.nx <;> by_cases ej:j=s.nx
  ·rw [ei,ej]
  ·subst ei;rw [aP.bM] at hb;cases hb;rw [Zo j ej] at YM;have:=blt j hj (g j hj ej hgj) b' YM;simp at e;omega
  ·subst ej;rw [aP.bM] at YM;cases YM;rw [Zo i ei] at hb;have:=blt i hi (g i hi ei hgi) b hb;simp at e;omega
  ·rw [Zo i ei] at hb;rw [Zo j ej] at YM;exact h.inj i j hi hj (g i hi ei hgi) (g j hj ej hgj) b b' hb YM e
 ·rw [hw];simp;have:=h.size;omega
 ·intro b hb hM;have:=h.size;rw [hw,Xk,if_neg (by omega)];exact h.frame b hb hM
 ·intro j hj y hy hf b hb;have hj:j<2 ^ s.d:=hj;have hy:(s.H.set s.nx (some (o,true))).get j=some y:=hy;rw [Tr.dU h.full YR hj] at hy;by_cases e:j=s.nx
  ·rw [if_pos e] at hy;cases hy;cases hf
  ·rw [if_neg e] at hy;rw [Zo j e] at hb;exact h.ro j hj y hy hf b hb


inductive SI where
 | code (c:Code)
 | inBlock (id:Nat)
 | inLoop (body:Code)
 | inScope (body:Code)
 | reg (ops:Array Oper) (todo:List Nat)
 | drw (ops:Array Oper) (rem YL:List Nat)
 | ω (i:Nat)
 | endRF (i:Nat)
 | beginRound

structure SF where
 fn:FuncId
 tm:fP
 todo:List SI
 defers:List rb
 ret:Bool
 kind:CallKind
 ro:Option Nat

structure SM where
 top:SF
 callers:List SF
 mem:SH

inductive dE where
 | val (x:SV)
 | enter (f:FuncId) (args:List SV)
 | round (i:Nat) (args:List SV)
 | defer (d:rb)

inductive xT where
 | same
 | pure (f:Array Value->Sem Value)
 | makeNoZero (params:Array TypeId) (t:TypeId)

structure Env where
 P:Program
 ext:FuncId->Option xT
 G:List (Nat × Nat)
 orc:Nat->Option Bool
 Y7:FuncId->Option (List SV->SH->Option (SV × SH))
 qs:FuncId->Option (List SV->Option (List SV))

def SH.IA (s:SH) (E:Env):Option Bool:=match s.orc s.dc with | some (.b t)=>some t | _=>E.orc s.dc

def SH.dec (s:SH) (E:Env) (b:Bool):Bool × SH:=
 match s.IA E with
 | some t=>(t,{ s with Zn:=(b=t)::s.Zn,dc:=s.dc+1 })
 | none=>(b,{ s with dc:=s.dc+1 })

def SH.ask (s:SH) (E:Env) (b:Bool):Option SH:=
 match s.IA E with
 | some _=>some { s with Zn:=(b=true)::s.Zn,dc:=s.dc+1 }
 | none=>bif s.soft then some { s with Zn:=(b=true)::s.Zn,dc:=s.dc+1 } else bif b then some { s with dc:=s.dc+1 } else none

def fT (b:Bool):Option Unit:=bif b then some () else none


def SV.flat:SV->Bool
 | .agg _ | .tup _ | .aH=>false
 | .v (.agg _) | .v (.tuple _)=>false
 | _=>true

def SV.cells:SV->Option (List SV)
 | .agg l=>some l
 | .v (.agg cs)=>some (cs.toList.map .v)
 | .aH=>none
 | x=>some [x]

def SV.tuple:SV->Option (List SV)
 | .tup l=>some l
 | .v (.tuple vs)=>some (vs.toList.map .v)
 | _=>none

def bq (E:Env) (tm:fP):Operand->SV
 | .tmp t=>tm.get t
 | .const v=>.v v
 | .global g=>match E.G.lookup g with | some i=>.ptr i 0 | none=>.v (.pointer (some ⟨g,0,none⟩))
 | .func f=>.v (.func (.func f) #[] #[])

mutual
def eM:SV->Option Value
 | .v x=>some x
 | .agg l=>(jG l).map fun vs=>.agg vs.toArray
 | .tup l=>(jG l).map fun vs=>.tuple vs.toArray
 | .iface t x=>(eM x).map (.iface t ·)
 | .aH=>none
 | .ptr _ _=>none
 | .sl _ _ _ _=>none
 | .map _=>none
 | .func _ _ _=>none
 | .yield _=>none
 | .fin _ _ _ _=>none
def jG:List SV->Option (List Value)
 | []=>some []
 | x::xs=>match eM x,jG xs with
  | some v,some vs=>some (v::vs)
  | _,_=>none
end

def ep {α:Type} (P:Program):Sem α->Option α
 | .pure a=>some a
 | .program k=>ep P (k P)
 | _=>none

def lK (E:Env) (tm:fP) (l:List Operand):Bool:=l.all fun x=>(eM (bq E tm x)).isSome

def gE (E:Env) (tm:fP) (o:Oper):Option SV:=
 bif lK E tm o.op.operands.toList then
 match ep E.P (execOp (fun x=>(eM (bq E tm x)).getD undef) o) with
 | some (.value x)=>some (.v x)
 | _=>none
 else none

def bT (E:Env) (t:TypeId):Option TypeDesc:=E.P.underlying t
def bR (E:Env) (t:TypeId):Option TypeInfo:=E.P.info? t

def kV (E:Env) (t:TypeId):Option Bool:=
 match bT E t with
 | some (.struct _) | some (.array _ _)=>some true
 | some _=>some false
 | none=>none


def nB (fz:Nat × Nat) (off n:Nat):Bool:=Nat.ble fz.2 fz.1||Nat.ble (off+n) fz.1||Nat.ble fz.2 off

def SH.jg (s:SH) (p:Prop):SH:={ s with Zn:=p::s.Zn,dc:=s.dc+1 }

def SO.told:SO->Option (List SV)
 | .row xs _ _ _=>some xs
 | .look xs=>some xs
 | _=>none

def qi (E:Env) (t:TypeId) (a:SV) (l:List SV) (s:SH):Option (SV × SH):=
 match a,kV E t,bR E t with
 | .ptr i off,some ag,some info=>
  match (s.look i).bind (·.1.told) with
  | some xs=>
   bif ag then some (.agg l,s.jg ((xs.drop off).take info.size=l/\l.length=info.size))
   else match l with
    | [x]=>some (x,s.jg (xs[off]?=some x))
    | _=>none
  | none=>none
 | _,_,_=>none

def p7 (E:Env) (t:TypeId) (a:SV) (s:SH):Option (SV × SH):=
 match a,kV E t,bR E t with
 | .ptr i off,some false,_=>
  match s.look i with
  | some (.row xs _ _ _,_)=>(xs[off]?).map (·,s)
  | some (.look xs,_)=>(xs[off]?).map (·,s)
  | some (.rowO n f _ _ _,_)=>(s.ask E (Nat.blt off n)).map (SV.v (f off),·)
  | _=>none
 | .ptr i off,some true,some info=>
  match s.look i with
  | some (.row xs _ _ _,_)=>bif Nat.ble (off+info.size) xs.length then some (.agg ((xs.drop off).take info.size),s) else none
  | some (.rowO n f _ _ _,_)=>(s.ask E (Nat.ble (off+info.size) n)).map (SV.agg ((List.range info.size).map fun k=>.v (f (off+k))),·)
  | _=>none
 | _,_,_=>none

def nr (E:Env) (t:TypeId) (a:SV) (s:SH):Option (SV × SH):=
 match s.orc s.dc with
 | some (.cells l)=>qi E t a l s
 | _=>p7 E t a s

def aQ:List SV->Nat->List SV->List SV
 | [],_,_=>[]
 | x::xs,0,ys=>match ys with | []=>x::xs | y::zs=>y::aQ xs 0 zs
 | x::xs,k+1,ys=>x::aQ xs k ys
theorem nE:∀ (xs:List SV) (off:Nat),aQ xs off []=xs
 | [],_=>rfl
 | x::xs,0=>rfl
 | x::xs,k+1=>by rw [aQ,nE xs k]
theorem l4:∀ (xs:List SV) (off:Nat) (y:SV) (ys:List SV),aQ xs off (y::ys)=aQ (xs.set off y) (off+1) ys
 | [],_,_,_=>rfl
 | x::xs,0,_,_=>rfl
 | x::xs,k+1,y,ys=>by rw [aQ,l4 xs k y ys,List.set_cons_succ,aQ]

def xO (E:Env) (t:TypeId) (a x:SV) (s:SH):Option SH:=
 match a,x.cells,bR E t with
 | .ptr i off,some l,some info=>
  bif l.length==info.size&&l.all SV.flat then
   match s.look i with
   | some (.row xs e fz ext,true)=>some ((s.jg (off+l.length<=xs.length/\nB fz off l.length=true)).put i (.row (aQ xs off l) e fz ext))
   | _=>none
  else none
 | _,_,_=>none

def x6 (E:Env) (t:TypeId) (a x:SV) (s:SH):Option SH:=
 match a,x.cells,bR E t with
 | .ptr i off,some l,some info=>
  bif l.length==info.size&&l.all SV.flat then
   match s.look i with
   | some (.row xs e fz ext,true)=>
    bif Nat.ble (off+l.length) xs.length&&nB fz off l.length then some (s.put i (.row (aQ xs off l) e fz ext)) else none
   | _=>none
  else none
 | _,_,_=>none

def A2 (E:Env) (t:TypeId) (a x:SV) (s:SH):Option SH:=
 match s.orc s.dc with
 | some .put=>xO E t a x s
 | _=>x6 E t a x s

def eX (o:SO) (s:SH):Option (Nat × SH):=bif s.room then some (s.nx,s.new o) else none

def Fc (t:TypeId) (x:SV) (s:SH):Option (SV × SH):=do
 let l <- x.cells
 let (i,s) <- eX (.row l t (0,0) none) s
 some (.ptr i 0,s)

def wJ (E:Env) (t:TypeId) (s:SH):Option (SV × SH):=do
 let info <- bR E t
 let z <- info.zero
 Fc t (.v z) s

def nV (E:Env) (t:TypeId) (x:SV) (f:Nat):Option SV:=
 match x,bT E t with
 | .ptr i off,some (.struct fields)=>
  match fields[f]? with
  | some fd=>match bR E fd.type with
   | some info=>bif info.size==0 then none else some (.ptr i (off+fd.offset))
   | none=>none
  | none=>none
 | _,_=>none

def Bx (E:Env) (t:TypeId) (x:SV) (f:Nat):Option SV:=
 match x,bT E t with
 | .agg l,some (.struct fields)=>
  match fields[f]? with
  | some fd=>match kV E fd.type,bR E fd.type with
   | some false,_=>l[fd.offset]?
   | some true,some info=>bif Nat.ble (fd.offset+info.size) l.length then some (.agg ((l.drop fd.offset).take info.size)) else none
   | _,_=>none
  | none=>none
 | _,_=>none

def SV.int:SV->Option (IntKind × Int)
 | .v (.int k n)=>some (k,n)
 | _=>none

def ai (i:Int) (n:Nat):Bool:=decide (0<=i/\i<n)

def nM (E:Env) (t:TypeId) (x i:SV) (s:SH):Option (SV × SH):=
 match i.int,bT E t,x with
 | some (_,n),some (.array len elem),.ptr b off=>do
  let s <- s.ask E (ai n len)
  let info <- bR E elem
  some (.ptr b (off+n.toNat*info.size),s)
 | some (_,n),some (.slice elem),.sl b off len _=>do
  let s <- s.ask E (ai n len)
  let info <- bR E elem
  some (.ptr b (off+n.toNat*info.size),s)
 | _,_,_=>none

def Bn (E:Env) (t:TypeId) (x i:SV) (s:SH):Option (SV × SH):=
 match i.int,bT E t,x with
 | some (_,n),some (.array len elem),.agg l=>do
  let s <- s.ask E (ai n len)
  let info <- bR E elem
  match kV E elem with
  | some false=>(l[n.toNat*info.size]?).map (·,s)
  | some true=>bif Nat.ble (n.toNat*info.size+info.size) l.length then some (.agg ((l.drop (n.toNat*info.size)).take info.size),s) else none
  | none=>none
 | some (_,n),some (.array len elem),.v (.agg cs)=>do
  let s <- s.ask E (ai n len)
  let info <- bR E elem
  match kV E elem with
  | some false=>(cs[n.toNat*info.size]?).map (SV.v ·,s)
  | _=>none
 | some (_,n),some .string,.v (.string b)=>do
  let s <- s.ask E (ai n b.size)
  some (.v (.int .u8 ((b.data.getD n.toNat 0).toNat)),s)
 | _,_,_=>none

def jZ:Option SV->Option (Option Int)
 | none=>some none
 | some x=>match x.int with | some (_,n)=>some (some n) | none=>none

def fL (E:Env) (len cap:Nat) (lo hi:Option Int) (s:SH):Option (Nat × Nat × SH):=do
 let (h,s) <- match hi with
  | none=>some (len,s)
  | some n=>(s.ask E (decide (0<=n/\n<=cap))).map (n.toNat,·)
 let (l,s) <- match lo with
  | none=>some (0,s)
  | some n=>(s.ask E (decide (0<=n/\n<=h))).map (n.toNat,·)
 some (l,h,s)

def yo (E:Env) (m:Nat) (lo hi:Option Int) (s:SH):Option (Nat × Nat × SH):=do
 let n <- hi
 let s <- s.ask E (decide (0<=n/\n<=m))
 let (l,s) <- match lo with
  | none=>some (0,s)
  | some k=>(s.ask E (decide (0<=k/\k<=n.toNat))).map (k.toNat,·)
 some (l,n.toNat,s)

def Ah (E:Env) (t:TypeId) (x:SV) (lo hi mx:Option SV) (s:SH):Option (SV × SH):=do
 let lo <- jZ lo
 let hi <- jZ hi
 match bT E t,x,mx with
 | some .string,.v (.string b),none=>do
  let (l,h,s) <- fL E b.size b.size lo hi s
  some (.v (.string (b.extract l h)),s)
 | some (.array n elem),.ptr b off,none=>do
  let (l,h,s) <- fL E n n lo hi s
  let info <- bR E elem
  bif n==l then none else some (.sl b (off+l*info.size) (h - l) (some (n - l)),s)
 | some (.slice elem),.sl b off len (some cap),none=>do
  let (l,h,s) <- fL E len cap lo hi s
  let info <- bR E elem
  let (e,s):=s.dec E (decide (cap=l))
  bif e then some (.sl b off (h - l) (some (cap - l)),s) else some (.sl b (off+l*info.size) (h - l) (some (cap - l)),s)
 | some (.slice elem),.sl b off len none,none=>do
  let (l,h,s) <- fL E len len lo hi s
  let info <- bR E elem
  let (e,s):=s.dec E (l==0)
  bif e then some (.sl b off h none,s) else
  (s.ask E (info.size==1&&Nat.blt l len)).map fun s=>(.sl b (off+l) (h - l) none,s)
 | some (.slice elem),.fin b off len adv,none=>do
  let (_,_,s) <- fL E 0 0 lo hi s
  let _ <- bR E elem
  some (.fin b off len adv,s)
 | some (.slice elem),.sl b off len cap,some mx=>do
  let m <- mx.int
  fT hi.isSome
  let s <- s.ask E (decide (0<=m.2/\m.2<=cap.getD len))
  let (l,h,s) <- yo E m.2.toNat lo hi s
  let info <- bR E elem
  let (e,s):=s.dec E (decide (m.2.toNat=l))
  bif e then some (.sl b off (h - l) (some (m.2.toNat - l)),s) else some (.sl b (off+l*info.size) (h - l) (some (m.2.toNat - l)),s)
 | _,_,_=>none

def pE (E:Env) (t:TypeId) (x:SV) (lo hi mx:Option SV) (s:SH):Option (List (SV × SH)):=do
 let lo <- jZ lo
 let hi <- jZ hi
 match bT E t,x,mx with
 | some (.slice elem),.sl b off len none,none=>do
  let (l,h,s) <- fL E len len lo hi s
  let info <- bR E elem
  bif (info.size==1||off==0)&&Nat.beq l len&&Nat.beq h len then some [(.fin b off l (l*info.size),s)] else none
 | _,_,_=>none

def qT (info:TypeInfo) (n:Nat):Option (List SV):=
 match info.zero with
 | some z=>bif z.cells.size==info.size then some ((List.replicate n (z.cells.toList.map SV.v)).flatten) else none
 | none=>none

def Bg (E:Env) (t:TypeId) (len cap:SV) (s:SH):Option (SV × SH):=none

def pG (place:Nat->Option (Nat × Nat)) (cells:List SV):List (Nat × SV)->Option (List SV)
 | []=>some cells
 | (i,x)::rest=>
  match place i,x.cells with
  | some (off,size),some l=>bif l.length==size&&Nat.ble (off+l.length) cells.length then pG place (aQ cells off l) rest else none
  | _,_=>none

def placesOf (E:Env) (fields:List Field):Option (List (Nat × Nat)):=
 match fields with
 | []=>some []
 | f::fs=>match bR E f.type,placesOf E fs with
  | some info,some l=>some ((f.offset,info.size)::l)
  | _,_=>none

def BD (E:Env) (t:TypeId) (parts:List (Nat × SV)):Option SV:=do
 let info <- bR E t
 let z <- info.zero
 match bT E t with
 | some (.struct fields)=>
  let pl <- placesOf E fields.toList
  (pG (pl[·]?) (z.cells.toList.map .v) parts).map .agg
 | some (.array _ elem)=>
  let ei <- bR E elem
  (pG (fun i=>some (i*ei.size,ei.size)) (z.cells.toList.map .v) parts).map .agg
 | _=>none

def lZ (E:Env) (t:TypeId) (len:Nat) (parts:List (Nat × SV)) (s:SH):Option (SV × SH):=do
 match bT E t with
 | some (.slice elem)=>
  let info <- bR E elem
  fT (Nat.ble (len*info.size) 16777216)
  let zs <- qT info len
  let l <- pG (fun i=>some (i*info.size,info.size)) zs parts
  let (i,s) <- eX (.row l elem (0,0) none) s
  some (.sl i 0 len (some len),s)
 | _=>none

def ic (size n:Nat) (x:SV) (s:SH):Option (List SV):=
 match x with
 | .v (.slice none _ _)=>some []
 | .v (.string b)=>some ((b.extract 0 n).data.toList.map fun c=>.v (.int .u8 c.toNat))
 | .fin _ _ _ _=>bif n==0 then some [] else none
 | .sl i off _ _=>match s.look i with
  | some (.row xs _ _ _,_)=>bif Nat.ble (off+n*size) xs.length then some ((xs.drop off).take (n*size)) else none
  | _=>none
 | _=>none

def GX:SV->Option Nat
 | .v (.slice _ n _)=>some n
 | .v (.string b)=>some b.size
 | .sl _ _ n _=>some n
 | .fin _ _ _ _=>some 0
 | _=>none

def qC (info:TypeInfo) (elem:TypeId) (old new:List SV) (ZI:Nat) (s:SH):Option (SV × SH):=do
 let z <- info.zero
 fT (z.cells.size==info.size&&Nat.ble ((2*ZI+1024)*info.bytes) (2 ^ 47)&&!(info.bytes==0))
 let (i,s) <- eX (.row (old++new) elem (0,0) (some info.size)) s
 some (.sl i 0 ZI none,s)

def mq (E:Env) (xt:TypeId) (info:TypeInfo) (y:SV) (s:SH):Option (Nat × List SV):=
 match bT E xt with
 | some (.int _)=>match y with
  | .v (.int _ m)=>bif decide (0<=m/\m<=2 ^ 40)&&Nat.ble (m.toNat*info.bytes) (2 ^ 47) then (qT info m.toNat).map (m.toNat,·) else none
  | _=>none
 | some _=>(GX y).bind fun n=>(ic info.size n y s).bind fun new=>bif new.length==n*info.size then some (n,new) else none
 | none=>none

def lL (info:TypeInfo) (elem:TypeId) (old new:List SV) (ZI:Nat) (s:SH):Option (SV × SH):=
 (eX (.row (old++new) elem (0,0) (some info.size)) s).map fun p=>(.sl p.1 0 ZI none,p.2)

def mL (E:Env) (xt:TypeId) (info:TypeInfo) (y:SV) (new:List SV) (s:SH):Option (Nat × Prop):=
 match bT E xt with
 | some (.int _)=>none
 | some _=>match y with
  | .v (.string b)=>some (b.size,(b.data.toList.map fun c=>SV.v (.int .u8 c.toNat))=new)
  | .v (.slice none m _)=>some (m,[]=new)
  | .sl i off len _=>((s.look i).bind (·.1.told)).map fun xs=>(len,(xs.drop off).take (len*info.size)=new)
  | _=>none
 | none=>none

def s9 (E:Env) (st xt:TypeId) (x y:SV) (old new:List SV) (s:SH):Option (SV × SH):=
 match bT E st with
 | some (.slice elem)=>
  (bR E elem).bind fun info=>info.zero.bind fun z=>(mL E xt info y new s).bind fun q=>
   bif z.cells.size==info.size&&!(info.bytes==0)&&!(info.size==0) then
    match x with
    | .v (.slice none 0 0)=>lL info elem [] new q.1 (s.jg (((q.2/\new.length=q.1*info.size)/\q.1≠0/\(2*q.1+1024)*info.bytes<=2 ^ 47)/\old=[]))
    | .sl i off len (some cap)=>((s.look i).bind (·.1.told)).bind fun xs=>
     lL info elem old new (len+q.1) (s.jg (((q.2/\new.length=q.1*info.size)/\q.1≠0/\(2*(len+q.1)+1024)*info.bytes<=2 ^ 47)/\(xs.drop off).take (len*info.size)=old/\old.length=len*info.size/\cap<len+q.1))
    | .sl i 0 len none=>
     match s.look i with
     | some (.row xs el (0,0) (some es),true)=>
      bif es==info.size&&el==elem then
       lL info elem old new (len+q.1) ((s.jg (((q.2/\new.length=q.1*info.size)/\q.1≠0/\(2*(len+q.1)+1024)*info.bytes<=2 ^ 47)/\xs.take (len*info.size)=old/\old.length=len*info.size/\new.all SV.flat=true)).drop i)
      else none
     | _=>none
    | _=>none
   else none
 | _=>none

def sq (E:Env) (st xt:TypeId) (x y:SV) (s:SH):Option (SV × SH):=
 match bT E st with
 | some (.slice elem)=>
  (bR E elem).bind fun info=>(mL E xt info y [] s).bind fun q=>
   match x with
   | .v (.slice none 0 0) | .sl _ _ _ _=>some (x,s.jg (q.2/\q.1=0))
   | _=>none
 | _=>none

def sH (E:Env) (st xt:TypeId) (x y:SV) (s:SH):Option (SV × SH):=do
 match bT E st with
 | some (.slice elem)=>
  let info <- bR E elem
  let (n,new) <- mq E xt info y s
  match x with
  | .v (.slice none 0 0)=>
   let (e,s):=s.dec E (decide (n=0))
   bif e then some (.v (.slice none 0 0),s) else qC info elem [] new n s
  | .sl i off len (some cap)=>
   let (e,s):=s.dec E (decide (len+n<=cap))
   bif e then
    match s.look i with
    | some (.row xs el fz ext,true)=>
     bif Nat.ble (off+len*info.size+new.length) xs.length&&nB fz (off+len*info.size) new.length&&new.all SV.flat then
      some (.sl i off (len+n) (some cap),s.put i (.row (aQ xs (off+len*info.size) new) el fz ext))
     else none
    | _=>none
   else do
    let old <- ic info.size len x s
    qC info elem old new (len+n) s
  | .sl i 0 len none=>
   let (e,s):=s.dec E (decide (n=0))
   bif e then some (x,s) else
   match s.look i with
   | some (.row xs el (0,0) (some es),true)=>
    bif (es==info.size&&!(info.size==0))&&Nat.ble (len*info.size) xs.length&&new.all SV.flat&&el==elem then
     bif Nat.ble ((len+n)*info.size) xs.length then
      some (.sl i 0 (len+n) none,s.put i (.row (aQ xs (len*info.size) new) el (0,0) (some es)))
     else do
      let z <- info.zero
      fT (z.cells.size==info.size&&Nat.ble ((2*(len+n)+1024)*info.bytes) (2 ^ 47)&&!(info.bytes==0))
      let (j,s) <- eX (.row (xs.take (len*info.size)++new) elem (0,0) (some es)) (s.drop i)
      some (.sl j 0 (len+n) none,s)
    else none
   | _=>none
  | _=>none
 | _=>none

def xl (E:Env) (st xt:TypeId) (x y:SV) (s:SH):Option (SV × SH):=
 match s.orc s.dc with
 | some (.app old new)=>s9 E st xt x y old new s
 | some .app0=>sq E st xt x y s
 | _=>sH E st xt x y s

def F8 (E:Env) (dt:TypeId) (x y:SV) (s:SH):Option (SV × SH):=do
 match bT E dt with
 | some (.slice elem)=>
  let info <- bR E elem
  let m <- GX y
  match x with
  | .v (.slice none 0 0)=>(ic info.size (Nat.min m 0) y s).map fun _=>(.v (.int .i64 0),s)
  | .sl i off len _=>
   let n:=Nat.min m len
   let l <- ic info.size n y s
   match s.look i with
   | some (.row xs e fz ext,true)=>
    bif Nat.ble (off+l.length) xs.length&&nB fz off l.length&&l.all SV.flat then
     some (.v (.int .i64 n),s.put i (.row (aQ xs off l) e fz ext))
    else none
   | _=>none
  | _=>none
 | _=>none


def zW (E:Env) (kd:TypeDesc) (k k':SV) (s:SH):Option (Bool × SH):=
 match kd,k,k' with
 | .int _,.v (.int a x),.v (.int b y)=>bif a==b then some (s.dec E (x==y)) else none
 | .string,.v (.string x),.v (.string y)=>some (s.dec E (x==y))
 | .bool,.v (.bool x),.v (.bool y)=>some (s.dec E (x==y))
 | _,_,_=>none

def sI (E:Env) (kd:TypeDesc) (k:SV):List (SV × SV × Nat)->Nat->SH->Option (Option (Nat × SV × Nat) × SH)
 | [],_,s=>some (none,s)
 | e::es,i,s=>
  match zW E kd k e.1 s with
  | some (true,s)=>some (some (i,e.2.1,e.2.2),s)
  | some (false,s)=>sI E kd k es (i+1) s
  | none=>none

def a8 (p:ByteArray) (k:SV):Prop:=∃ b,k=.v (.string b)/\(p==b)=false
def D5 (es:List (SV × SV × Nat)) (p:ByteArray) (j:Nat) (x:SV) (born:Nat):Prop:=(∀ e∈es.take j,a8 p e.1)/\es[j]?=some (.v (.string p),x,born)
def Oq (es:List (SV × SV × Nat)) (p:ByteArray):Prop:=∀ e∈es,a8 p e.1
def lI (E:Env) (kd:TypeDesc) (k:SV) (es:List (SV × SV × Nat)) (s:SH):Option (Option (Nat × SV × Nat) × SH):=
 match kd,k,s.orc s.dc with
 | .string,.v (.string p),some (.hit j x born)=>some (some (j,x,born),s.jg (D5 es p j x born))
 | .string,.v (.string p),some .cr=>some (none,s.jg (Oq es p))
 | _,_,_=>sI E kd k es 0 s

def jP (E:Env) (t:TypeId):Option TypeDesc:=
 match bT E t with
 | some (.int k)=>some (.int k)
 | some .string=>some .string
 | some .bool=>some .bool
 | _=>none

def oE (E:Env) (t:TypeId) (m k:SV) (ok:Bool) (s:SH):Option (SV × SH):=do
 match bT E t with
 | some (.map kt et)=>
  let kd <- jP E kt
  let zi <- bR E et
  let z <- zi.zero
  let es <- match m with
   | .v (.map none)=>some []
   | .map i=>match s.look i with | some (.map es _,_)=>some es | _=>none
   | _=>none
  let (r,s) <- lI E kd k es s
  match r with
  | some (_,x,_)=>some (bif ok then .tup [x,.v (.bool true)] else x,s)
  | none=>some (bif ok then .tup [.v z,.v (.bool false)] else .v z,s)
 | _=>none

def nH (E:Env) (t:TypeId) (m k x:SV) (s:SH):Option SH:=do
 match bT E t,m with
 | some (.map kt _),.map i=>
  let kd <- jP E kt
  match s.look i with
  | some (.map es clock,true)=>
   let (r,s) <- lI E kd k es s
   match r with
   | some (j,_,_)=>some (s.put i (.map (es.modify j fun e=>(k,x,e.2.2)) clock))
   | none=>some (s.put i (.map (es++[(k,x,clock)]) (clock+1)))
  | _=>none
 | _,_=>none

def Ey (E:Env) (t:TypeId) (m k:SV) (s:SH):Option (SV × SH):=none

def y5 (m st x:SV) (s:SH):Option SH:=none

def wY (E:Env) (t:TypeId) (m k:SV) (s:SH):Option (SV × SH):=do
 match bT E t with
 | some (.map kt _)=>
  let kd <- jP E kt
  match m with
  | .v (.map none)=>some (.v (.tuple #[]),s)
  | .map i=>match s.look i with
   | some (.map es clock,true)=>
    let (r,s) <- lI E kd k es s
    match r with
    | some (j,_,_)=>some (.v (.tuple #[]),s.put i (.map (es.eraseIdx j) clock))
    | none=>some (.v (.tuple #[]),s)
   | _=>none
  | _=>none
 | _=>none

def Aj (E:Env) (t:TypeId) (x:SV) (s:SH):Option (SV × SH):=do
 match bT E t,x with
 | some .string,.v (.string b)=>
  let (i,s) <- eX (.siter b 0) s
  some (.ptr i 0,s)
 | some (.map _ _),.v (.map none)=>
  let (i,s) <- eX (.miter none 0 [] 0) s
  some (.ptr i 0,s)
 | some (.map _ _),.map m=>
  match s.look m with
  | some (.map _ clock,_)=>
   let (i,s) <- eX (.miter (some m) clock [] clock) s
   some (.ptr i 0,s)
  | _=>none
 | _,_=>none

def kS (x:SV) (isString:Bool) (s:SH):Option (List (SV × SH)):=
 match x,isString with
 | .ptr i 0,true=>
  match s.look i with
  | some (.siter b pos,true)=>
   bif Nat.blt pos b.size then
    some [(.tup [.v (.bool true),.v (.int .i64 pos),.v (.int .i32 (Utf8.decode b pos).1)],s.put i (.siter b (pos+(Utf8.decode b pos).2)))]
   else some [(.v (.tuple #[.bool false]),s)]
  | _=>none
 | .ptr i 0,false=>
  match s.look i with
  | some (.miter none _ _ _,_)=>some [(.v (.tuple #[.bool false]),s)]
  | some (.miter (some m) since seen last,true)=>
   match s.look m with
   | some (.map es clock,_)=>
    bif !seen.isEmpty&&!es.isEmpty&&es.all (fun e=>Nat.ble last e.2.2) then none else
    let left:=es.filter fun e=>!seen.contains e.2.2
    let old:=left.filter fun e=>Nat.blt e.2.2 since
    let new:=left.filter fun e=>Nat.ble since e.2.2
    let go:=(old++new).map fun e=>(SV.tup [.v (.bool true),e.1,e.2.1],s.put i (.miter (some m) since (seen++[e.2.2]) clock))
    some (bif old.isEmpty then (.v (.tuple #[.bool false]),s)::go else go)
   | _=>none
  | _=>none
 | _,_=>none

def tp (x:SV) (s:SH):Option SV:=
 match x with
 | .ptr i 0=>
  match s.look i with
  | some (.miter (some m) _ seen Y9,_)=>
   match s.look m,seen.getLast? with
   | some (.map es clock,_),some YN=>
    bif Nat.beq clock Y9 then (es.find? fun e=>Nat.beq e.2.2 YN).map fun e=>.tup [e.1,e.2.1] else none
   | _,_=>none
  | _=>none
 | _=>none

def Pe (es:List (SV × SV × Nat)) (clock Y9:Nat) (seen:List Nat) (k y:SV):Prop:=∃ YN b,seen.getLast?=some YN/\clock=Y9/\es.find? (fun e=>Nat.beq e.2.2 YN)=some (k,y,b)
def xF (x:SV) (s:SH):Option (SV × SH):=
 match x,s.orc s.dc with
 | .ptr i 0,some (.ent k y)=>match s.look i with
  | some (.miter (some m) _ seen Y9,_)=>match s.look m with
   | some (.map es clock,_)=>some (.tup [k,y],s.jg (Pe es clock Y9 seen k y))
   | _=>none
  | _=>none
 | _,_=>none


def lE (E:Env) (x:SV) (asserted:TypeId) (ok:Bool):Option SV:=none

def LJ (E:Env) (t:TypeId) (x y:SV) (s:SH):Option (Bool × SH):=
 match bR E t,bT E t,x,y with
 | some info,some (.pointer e),.ptr i o,.ptr j p=>
  bif info.comparable&&i==j then
   match bR E e with
   | some ei=>bif ei.size==0 then none else some (o==p,s)
   | none=>none
  else none
 | some info,some _,.v x,.v y=>bif info.comparable then (ep E.P (Op.equalIn 9999 t x y)).map (·,s) else none
 | _,_,_,_=>none

def xx (E:Env) (t:TypeId) (x y:SV) (s:SH):Option (Bool × SH):=
 match bT E t,x,y with
 | some (.pointer e),.ptr i o,.ptr j p=>
  bif i==j then
   match bR E e with
   | some info=>bif info.size==0 then none else some (o==p,s)
   | none=>none
  else none
 | some (.pointer _),.v (.pointer none),.ptr _ _ | some (.pointer _),.ptr _ _,.v (.pointer none)=>some (false,s)
 | some (.slice _),.v (.slice none _ _),.sl _ _ _ _ | some (.slice _),.sl _ _ _ _,.v (.slice none _ _)=>some (false,s)
 | some (.slice _),.v (.slice none _ _),.fin _ _ _ _ | some (.slice _),.fin _ _ _ _,.v (.slice none _ _)=>some (false,s)
 | some (.map _ _),.v (.map none),.map _ | some (.map _ _),.map _,.v (.map none)=>some (false,s)
 | some (.interface _),.v .nilIface,.iface _ _ | some (.interface _),.iface _ _,.v .nilIface=>some (false,s)
 | some (.interface _),.iface t x,.iface u y=>bif t==u then LJ E t x y s else some (false,s)
 | some (.func _ _ _),.v .nilFunc,.func _ _ _ | some (.func _ _ _),.func _ _ _,.v .nilFunc=>some (false,s)
 | _,_,_=>none

def iE (E:Env) (t:TypeId) (x y:SV) (s:SH):Bool:=
 match bT E t,x,y with
 | some (.pointer e),.ptr i _,.ptr j _=>
  match bR E e,s.look i,s.look j with
  | some info,some (.row _ _ (0,0) _,_),some (.row _ _ (0,0) _,_)=>!(info.size==0)&&!(i==j)
  | _,_,_=>false
 | _,_,_=>false

def bytesOf:List SV->Option (List Int)
 | []=>some []
 | .v (.int .u8 n)::r=>(bytesOf r).map (n::·)
 | _=>none

def gy (l:List Int):ByteArray:=⟨(l.map fun n=>UInt8.ofNat n.toNat).toArray⟩

def pO (E:Env) (src dst:TypeId) (x:SV) (b:ByteArray) (s:SH):Option (SV × SH):=
 match bT E src,bT E dst,x with
 | some (.slice e),some .string,.sl i off len _=>
  match bT E e,(s.look i).bind (·.1.told) with
  | some (.int .u8),some xs=>some (.v (.string b),s.jg (((xs.drop off).take len=b.data.toList.map fun c=>SV.v (.int .u8 c.toNat))/\b.size=len))
  | _,_=>none
 | _,_,_=>none

def qg (E:Env) (src dst:TypeId) (x:SV) (s:SH):Option (SV × SH):=do
 match bT E src,bT E dst,x with
 | some (.slice e),some .string,.sl i off len _=>
  let .int .u8 <- bT E e | none
  match s.look i with
  | some (.row xs _ _ _,_)=>
   fT (Nat.ble (off+len) xs.length)
   let b <- bytesOf ((xs.drop off).take len)
   some (.v (.string (gy b)),s)
  | _=>none
 | some (.slice _),some (.slice e),.sl i off len cap=>
  match src==dst,bT E e,s.look i with
  | true,some (.int .u8),some (.row xs el (0,0) ext,true)=>some (.sl i off len cap,s.put i (.row xs el (1,0) ext))
  | true,some (.int .u8),some (.row xs el (1,0) ext,true)=>some (.sl i off len cap,s.put i (.row xs el (1,0) ext))
  | _,_,_=>none
 | some .string,some (.slice e),.v (.string b)=>
  let .int .u8 <- bT E e | none
  let xs:=b.data.toList.map fun c=>SV.v (.int .u8 c.toNat)
  let (i,s) <- eX (.row xs e (1,0) (some 1)) s
  some (.sl i 0 b.size none,s)
 | some (.pointer t),some .unsafePointer,.ptr i off=>
  match s.look i,bR E t with
  | some (.row xs _ _ _,_),some info=>bif Nat.blt off xs.length&&!(info.size==0) then some (.ptr i off,s) else none
  | _,_=>none
 | some .unsafePointer,some (.pointer u),.ptr i off=>
  match s.look i,bR E u with
  | some (.row xs e _ none,_),some _=>bif liesAt E.P E.P.depth e (xs.length / E.P.cellsOf e) off u 1 then some (.ptr i off,s) else none
  | _,_=>none
 | _,_,_=>none

def uc (E:Env) (src dst:TypeId) (x:SV) (s:SH):Option (SV × SH):=
 match s.orc s.dc with
 | some (.str b)=>pO E src dst x b s
 | _=>qg E src dst x s

def l3 (f:SV) (args:List SV):Option dE:=
 match f with
 | .v (.func (.func f) a b)=>some (.enter f (a.toList.map .v++args++b.toList.map .v))
 | .func (.func f) a b=>some (.enter f (a++args++b))
 | .yield i=>some (.round i args)
 | _=>none

def oB (f:SV) (args:List SV):Option rb:=none

def lift:Value->SV
 | .iface t x=>.iface t (.v x)
 | x=>.v x

def rJ (E:Env) (recv:SV) (name:String) (args:List SV):Option dE:=none

def vF (E:Env) (t:TypeId) (x:SV) (s:SH):Option SV:=
 match bT E t,x with
 | some (.slice _),.sl _ _ n _=>some (.v (.int .i64 n))
 | some (.slice _),.fin _ _ _ _=>some (.v (.int .i64 0))
 | some (.map _ _),.map i=>match s.look i with
  | some (.map es _,_)=>some (.v (.int .i64 es.length))
  | _=>none
 | _,_=>none

def vN (E:Env) (t:TypeId) (x:SV):Option SV:=
 match bT E t,x with
 | some (.slice _),.sl _ _ _ (some n)=>some (.v (.int .i64 n))
 | _,_=>none

def qV (E:Env) (x:SV) (s:SH):Option (SV × SH):=
 match x with
 | .sl i off _ (some c)=>(s.ask E (!(c==0))).map (.ptr i off,·)
 | .sl i 0 len none=>(s.ask E (!(len==0))).map (.ptr i 0,·)
 | _=>none

def jA (E:Env) (pt:TypeId) (x n:SV) (b:ByteArray) (s:SH):Option (SV × SH):=
 match x,n with
 | .ptr i 0,.v (.int .i64 n)=>
  match bT E pt,s.look i with
  | some (.pointer e),some (.row xs el (0,0) ext,true)=>
   bif e==el&&Nat.beq (E.P.cellsOf e) 1 then
    some (.v (.string b),(s.jg ((0<n/\n<=2 ^ 40)/\n.toNat<=xs.length/\xs.take n.toNat=b.data.toList.map fun c=>SV.v (.int .u8 c.toNat))).put i (.row xs el (0,n.toNat) ext))
   else none
  | _,_=>none
 | _,_=>none

def l6 (E:Env) (pt:TypeId) (x n:SV) (s:SH):Option (SV × SH):=
 match x,n with
 | .ptr i 0,.v (.int .i64 n)=>
  match bT E pt,s.look i with
  | some (.pointer e),some (.row xs el (0,0) ext,true)=>do
   fT (decide (0<n/\n<=2 ^ 40)&&Nat.ble n.toNat xs.length&&e==el&&Nat.beq (E.P.cellsOf e) 1)
   let b <- bytesOf (xs.take n.toNat)
   some (.v (.string (gy b)),s.put i (.row xs el (0,n.toNat) ext))
  | _,_=>none
 | _,_=>none

def nj (E:Env) (pt:TypeId) (x n:SV) (s:SH):Option (SV × SH):=
 match s.orc s.dc with
 | some (.str b)=>jA E pt x n b s
 | _=>l6 E pt x n s

def gl (E:Env) (b:Builtin) (ats:Array TypeId) (args:List SV) (s:SH):Option (SV × SH):=
 match b with
 | .len=>match ats.toList,args with | t::_,[x]=>(vF E t x s).map (·,s) | _,_=>none
 | .cap=>match ats.toList,args with | t::_,[x]=>(vN E t x).map (·,s) | _,_=>none
 | .append=>match ats.toList,args with | [st,xt],[x,y]=>xl E st xt x y s | _,_=>none
 | .copy=>match ats.toList,args with | dt::_,[x,y]=>F8 E dt x y s | _,_=>none
 | .delete=>match ats.toList,args with | [t,_],[m,k]=>wY E t m k s | _,_=>none
 | .unsafeSliceData=>match args with | [x]=>qV E x s | _=>none
 | .unsafeString=>match ats.toList,args with | [pt,_],[x,n]=>nj E pt x n s | _,_=>none
 | _=>none

def whole:SV->Option Value
 | .v x=>some x
 | .iface t x=>(whole x).map (.iface t ·)
 | _=>none

def wM:List SV->Option (List Value)
 | []=>some []
 | x::r=>match whole x,wM r with
  | some x,some l=>some (x::l)
  | _,_=>none

def A1 (E:Env) (k:xT) (args:List SV) (s:SH):Option (SV × SH):=
 match k,args with
 | .same,[x]=>some (x,s)
 | .pure f,args=>(wM args).bind fun l=>(ep E.P (f l.toArray)).map fun x=>(lift x,s)
 | .makeNoZero _ t,[.v (.int .i64 n)]=>
  match bT E t with
  | some (.slice elem)=>bif decide (0<=n/\n<=2 ^ 40) then (eX (.row (List.replicate n.toNat .aH) elem (0,0) (some 1)) s).map fun p=>(.sl p.1 0 n.toNat none,p.2) else none
  | _=>none
 | _,_=>none

def lV (E:Env) (t:TypeId) (x y:Value):Option Prop:=
 match bT E t,x,y with
 | some (.int _),.int k a,.int k' b=>bif k==k' then some (a=b) else none
 | some .string,.string a,.string b=>some (a=b)
 | some .bool,.bool a,.bool b=>some (a=b)
 | _,_,_=>none

def ia (E:Env) (xs ys:List Value):List Field->Option Prop
 | []=>some True
 | f :: fs => bif f.name == "_" then none else
  match xs[f.offset]?,ys[f.offset]? with
  | some x,some y=>match lV E f.type x y,ia E xs ys fs with
   | some p,some q=>some (p/\q)
   | _,_=>none
  | _,_=>none

def Ab (E:Env) (op:BinOp) (t:TypeId) (x y:SV) (s:SH):Option (Bool × SH):=
 match op,s.orc s.dc with
 | .eql,some (.eqs b)=>go x y b b
 | .neq,some (.eqs b)=>go x y b !b
 | _,_=>none
where go (x y:SV) (b r:Bool):Option (Bool × SH):=
 match eM x,eM y,bT E t with
 | some (.agg xs),some (.agg ys),some (.struct fs)=>
  bif E.P.stoodInHeld t||E.P.eqGuardType E.P.depth t then none else
   (ia E xs.toList ys.toList fs.toList).map fun p=>(r,s.jg (bif b then p else ¬ p))
 | _,_,_=>none

def BM (x y:SV) (op:BinOp) (soft:Bool):Option (ByteArray × ByteArray):=
 match x,y,op,soft with
 | .v (.string a),.v (.string b),.add,true=>some (a,b)
 | _,_,_,_=>none


def iW (E:Env) (tm:fP) (l:Array Operand):List SV:=l.toList.map (bq E tm)

def j3 (E : Env) (tm : fP) (o : Oper) (s : SH) : Option (List (dE × SH)) :=
  let ρ := bq E tm
  let v (x : Option SV) : Option (List (dE × SH)) := x.map fun x => [(.val x, s)]
  let vs (x : Option (SV × SH)) : Option (List (dE × SH)) := x.map fun x => [(.val x.1, x.2)]
  let u (x : Option SH) : Option (List (dE × SH)) := x.map fun s => [(.val (.v undef), s)]
  match o.op with
  | .move x | .assign x => some [(.val (ρ x), s)]
  | .pick c a b => match ρ c with
    | .v (.bool t) => let (t, s) := s.dec E t; some [(.val (bif t then ρ a else ρ b), s)]
    | _ => none
  | .alloc t => vs (wJ E t s)
  | .box t x => vs (Fc t (ρ x) s)
  | .build t ps => v (BD E t (ps.toList.map fun (i, x) => (i, ρ x)))
  | .buildSlice t n ps => vs (lZ E t n (ps.toList.map fun (i, x) => (i, ρ x)) s)
  | .load t a => vs (nr E t (ρ a) s)
  | .store t a x => u (A2 E t (ρ a) (ρ x) s)
  | .nilCheck x => match ρ x with
    | .ptr i off => v (some (.ptr i off))
    | .iface t y => v (some (.iface t y))
    | .func (.func f) a b => v (some (.func (.func f) a b))
    | .yield i => v (some (.yield i))
    | .v (.func (.func f) a b) => v (some (.v (.func (.func f) a b)))
    | _ => none
  | .binOp op t x y _ => match Ab E op t (ρ x) (ρ y) s with
   | some r => some [(.val (.v (.bool r.1)), r.2)]
   | none => match BM (ρ x) (ρ y) op s.soft with
    | some (a, b) => some [(.val (.v (.string (a ++ b))), s.jg (a.size + b.size <= 9223372036854775807))]
    | none => match ρ x, ρ y with
    | .v _, .v _ => v (gE E tm o)
    | a, b => match op with
      | .eql => match xx E t a b s with
        | some r => some [(.val (.v (.bool r.1)), r.2)]
        | none => bif iE E t a b s then some [(.val (.v (.bool false)), s)] else v (gE E tm o)
      | .neq => match xx E t a b s with
        | some r => some [(.val (.v (.bool !r.1)), r.2)]
        | none => bif iE E t a b s then some [(.val (.v (.bool true)), s)] else v (gE E tm o)
      | _ => none
  | .unOp _ _ _ => v (gE E tm o)
  | .convert src dst x => match uc E src dst (ρ x) s with
    | some r => vs (some r)
    | none => match ρ x with | .v _ => v (gE E tm o) | _ => none
  | .makeInterface t x => match bT E t with
    | some (.interface _) => none
    | some _ => v (some (.iface t (ρ x)))
    | none => none
  | .makeFunc fn a b => match fn with
    | .func f => v (some (.func (.func f) (iW E tm a) (iW E tm b)))
    | _ => none
  | .makeMap _ none => vs ((eX (.map [] 0) s).map fun (i, s) => (.map i, s))
  | .makeSlice t l c => vs (Bg E t (ρ l) (ρ c) s)
  | .slice t x lo hi mx => match Ah E t (ρ x) (lo.map ρ) (hi.map ρ) (mx.map ρ) s with
    | some r => vs (some r)
    | none => match pE E t (ρ x) (lo.map ρ) (hi.map ρ) (mx.map ρ) s with
      | some l => some (l.map fun r => (.val r.1, r.2))
      | none => match ρ x with | .v (.slice none 0 0) => v (gE E tm o) | _ => none
  | .fieldAddr t x f => v (nV E t (ρ x) f)
  | .field t x f => match ρ x with | .v _ => v (gE E tm o) | y => v (Bx E t y f)
  | .indexAddr t x i => vs (nM E t (ρ x) (ρ i) s)
  | .index t x i => vs (Bn E t (ρ x) (ρ i) s)
  | .lookup t m k ok => vs (oE E t (ρ m) (ρ k) ok s)
  | .mapUpdate t m k x | .insert t m k x => u (nH E t (ρ m) (ρ k) (ρ x) s)
  | .mapEntry t m k => vs (Ey E t (ρ m) (ρ k) s)
  | .entryStore _ m st x => u (y5 (ρ m) (ρ st) (ρ x) s)
  | .range t x => vs (Aj E t (ρ x) s)
  | .next it b => (kS (ρ it) b s).map fun l => l.map fun r => (.val r.1, r.2)
  | .entry it => match xF (ρ it) s with
    | some r => some [(.val r.1, r.2)]
    | none => v (tp (ρ it) s)
  | .typeAssert x _ at_ ok => match ρ x with | .v _ => v (gE E tm o) | y => v (lE E y at_ ok)
  | .extract t i => match (ρ t).tuple with | some l => v l[i]? | none => none
  | .call c =>
    match c.callee with
    | .value f => (l3 (ρ f) (iW E tm c.args)).map fun n => [(n, s)]
    | .invoke r name => (rJ E (ρ r) name (iW E tm c.args)).map fun n => [(n, s)]
    | .builtin b => match gl E b c.argTypes (iW E tm c.args) s with
      | some r => vs (some r)
      | none => v (gE E tm o)
  | .defer c => match c.callee with
    | .value f => (oB (ρ f) (iW E tm c.args)).map fun d => [(.defer d, s)]
    | _ => none
  | _ => none



def kr:Op->Bool
 | .move _ | .pick .. | .nilCheck _ | .binOp .. | .unOp .. | .makeInterface .. | .makeFunc .. | .fieldAddr .. | .field .. | .indexAddr .. | .index .. | .load .. | .lookup ..
 | .typeAssert .. | .extract .. | .slice .. | .build .. | .convert ..=>true
 | .call { callee:=.builtin b,.. }=>match b with | .len | .cap | .min | .max=>true | _=>false
 | _=>false

def looks:Op->Bool
 | .load .. | .lookup .. | .convert ..=>true
 | .call _=>true
 | _=>false

def Ou:Operand->Option Tmp
 | .tmp t=>some t
 | _=>none
def tmpsOf (o:Oper):List Tmp:=o.op.operands.toList.filterMap Ou
def jd (o:Oper):List Tmp:=o.dst.toList++tmpsOf o
def dq (ops:Array Oper) (o:Oper):List Tmp:=match o.guard with | some (j,_)=>((ops[j]?).bind (·.dst)).toList | none=>[]

def free (ops:Array Oper) (bf:Array Nat) (i:Nat):Bool:=
 match ops[i]? with
 | none=>false
 | some o=>kr o.op&&match o.dst with
  | none=>true
  | some d=>!((tmpsOf o).contains d||(dq ops o).contains d)&&(List.range ops.size).all fun j=>Nat.beq j i||(bf.getD j 0).testBit i ||
    match ops[j]? with | some p=>!((jd p).contains d||(dq ops p).contains d) | none=>true

def sY (E:Env):Op->Option SO
 | .alloc t=>(bR E t).bind fun info=>info.zero.bind fun z=>(SV.v z).cells.map fun l=>.row l t (0,0) none
 | _=>none

def late (E:Env) (ops:Array Oper) (bf:Array Nat) (nt i:Nat):Bool:=
 match ops[i]? with
 | none=>false
 | some o=>(sY E o.op).isSome&&o.guard.isNone&&match o.dst with
  | none=>false
  | some d=>Nat.blt d nt&&(List.range ops.size).all fun j=>Nat.beq j i||(bf.getD j 0).testBit i ||
    match ops[j]? with | some p=>!((jd p).contains d||(dq ops p).contains d) | none=>true

def ready (bf:Array Nat) (rem:List Nat) (i:Nat):Bool:=rem.all fun j=>!((bf.getD i 0).testBit j)

def xL (E:Env) (x y:Value) (s:SH):Option SH:=
 match x,y with
 | .int k x,.int k' y=>bif k==k' then s.ask E (x==y) else none
 | .string x,.string y=>s.ask E (x==y)
 | .bool x,.bool y=>s.ask E (x==y)
 | .nilIface,.nilIface=>some s
 | .nilFunc,.nilFunc=>some s
 | .pointer none,.pointer none=>some s
 | .slice a l c,.slice b m d=>s.ask E (decide (a=b/\l=m/\c=d))
 | .map none,.map none=>some s
 | .func (.func f) a b,.func (.func g) c d=>bif f==g&&(a.size==0&&b.size==0)&&(c.size==0&&d.size==0) then some s else none
 | _,_=>none

def pD (E:Env):List Value->List Value->SH->Option SH
 | [],[],s=>some s
 | x::xs,y::ys,s=>(xL E x y s).bind fun s=>pD E xs ys s
 | _,_,_=>none

def wo (E:Env) (x y:Value) (s:SH):Option SH:=
 match x,y with
 | .agg a,.agg b=>pD E a.toList b.toList s
 | .tuple a,.tuple b=>pD E a.toList b.toList s
 | x,y=>xL E x y s

def SH.NP (s:SH) (b:Bool) (p:Prop):Option SH:=bif s.soft then some (s.jg p) else bif b then some s else none

mutual
def ml (E:Env):SV->SV->SH->Option SH
 | .ptr i o,y,s=>match y with
  | .ptr j p=>bif i==j then s.NP (o==p) (o=p) else none
  | _=>none
 | .map i,y,s=>match y with
  | .map j=>bif i==j then some s else none
  | _=>none
 | .sl i o l c,y,s=>match y with
  | .sl j p m d=>bif i==j then s.NP (o==p&&l==m&&c==d) (o=p/\l=m/\c=d) else none
  | _=>none
 | .yield i,y,s=>match y with
  | .yield j=>bif i==j then some s else none
  | _=>none
 | .fin i o l a,y,s=>match y with
  | .fin j p m b=>bif i==j then s.NP (o==p&&l==m&&a==b) (o=p/\l=m/\a=b) else none
  | _=>none
 | .iface t x,y,s=>match y with
  | .iface u y=>bif t==u then ml E x y s else none
  | _=>none
 | .agg l,y,s=>match y with
  | .agg m=>qF E l m s
  | _=>none
 | .tup l,y,s=>match y with
  | .tup m=>qF E l m s
  | _=>none
 | .func f a b,y,s=>match f,y with
  | .func f,.func (.func g) c d=>bif f==g then (qF E a c s).bind fun s=>qF E b d s else none
  | _,_=>none
 | .aH,_,_=>none
 | .v x,y,s=>match y with
  | .v y=>wo E x y s
  | _=>none
def qF (E:Env):List SV->List SV->SH->Option SH
 | [],m,s=>match m with
  | []=>some s
  | _=>none
 | x::xs,m,s=>match m with
  | y::ys=>(ml E x y s).bind fun s=>qF E xs ys s
  | []=>none
end

def wanted (ops:Array Oper) (tm:fP) (o:Oper) (E:Env) (s:SH):Option (Bool × SH):=
 match o.guard with
 | none=>some (true,s)
 | some (j,want)=>
  match (ops[j]?).bind (·.dst) with
  | some d=>bif Nat.blt d tm.nt then match tm.get d with
   | .v (.bool b)=>let (b,s):=s.dec E b;some (b==want,s)
   | .v (.tuple _)=>some (false,s)
   | _=>none
   else none
  | none=>none

def putDst (tm:fP) (o:Oper) (x:SV):fP:=match o.dst with | some d=>tm.set d x | none=>tm

mutual
def SV.pc:SV->Bool
 | .aH=>false
 | .agg l | .tup l=>pY l
 | .iface _ x=>x.pc
 | .func _ a b=>pY a&&pY b
 | _=>true
def pY:List SV->Bool
 | []=>true
 | x::xs=>x.pc&&pY xs
end

def mG (E:Env) (src dst:TypeId) (x:SV) (s:SH):Option SV:=
 match bT E src,bT E dst,x with
 | some (.slice e),some .string,.sl i off len _=>
  match bT E e,s.look i with
  | some (.int .u8),some (.row xs _ _ _,_)=>bif Nat.ble (off+len) xs.length then (bytesOf ((xs.drop off).take len)).map fun b=>.v (.string (gy b)) else none
  | _,_=>none
 | _,_,_=>none

def DH (E:Env) (tm:fP) (o:Oper) (s:SH):Option (List (dE × SH)):=
 match o.op with
 | .convert a b z=>match mG E a b (bq E tm z) s with
  | some r=>some [(.val r,s)]
  | none=>(gE E tm o).map fun x=>[(.val x,s)]
 | .binOp _ t x y _=>bif iE E t (bq E tm x) (bq E tm y) s then none else j3 E tm o s
 | _=>j3 E tm o s

def goes (E:Env) (ops:Array Oper) (tm:fP) (s:SH) (i:Nat):Bool:=
 match ops[i]? with
 | some o=>match o.op with
  | .convert a b z=>lK E tm o.op.operands.toList||(mG E a b (bq E tm z) s).isSome
  | .binOp _ t x y _=>!iE E t (bq E tm x) (bq E tm y) s
  | _=>true
 | none=>true

def oY (E:Env) (ops:Array Oper) (tm:fP) (o:Oper) (s:SH):Option (SV × SH):=do
 fT (match o.dst with | some d=>Nat.blt d tm.nt | none=>true)
 let (w,s) <- wanted ops tm o E s
 bif w then
  match DH E tm o s with
  | some [(.val x,s)]=>bif x.pc then some (x,s) else none
  | _=>none
 else some (.v undef,s)

def unnamed (ops:Array Oper) (YL:List Nat) (o:Oper):Bool:=
 match o.dst with
 | none=>true
 | some d=>YL.all fun p=>match ops[p]? with
  | some q=>!((jd q).contains d||(dq ops q).contains d)
  | none=>false

def gu (ops:Array Oper):Bool:=(List.range ops.size).all fun i=>match ops[i]? with
 | some o=>o.after.toList.all fun e=>!Region.binds .any e||Nat.blt e.on i
 | none=>true

def recheck (E:Env) (ops:Array Oper) (tm:fP):List Nat->SH->Option SH
 | [],s=>some s
 | p::ps,s=>
  match ops[p]? with
  | none=>none
  | some o=>
   bif looks o.op then do
    let (x,s) <- oY E ops tm o s
    let d <- o.dst
    let s <- ml E (tm.get d) x s
    recheck E ops tm ps s
   else recheck E ops tm ps s


def jc (n:Nat):Nat:=Nat.log2 n+1

def uR (n:Nat) (args:List SV):Option fP:=
 bif Nat.ble args.length n&&Nat.ble n (2 ^ jc n) then
  some { nt:=n,d:=jc n,T:=go (Tr.mk (.v undef) (jc n)) 0 args }
 else none
 where
 go (T:Tr SV) (i:Nat):List SV->Tr SV
  | []=>T
  | x::xs=>go (T.set i x) (i+1) xs

def eL (E:Env) (f:FuncId) (args:List SV) (kind:CallKind):Option SF:=
 match E.P.funcs[f]? with
 | some fn=>match fn.body with
  | some c=>(uR fn.ntmps args).map fun tm=>{ fn:=f,tm,todo:=[.code c],defers:=[],ret:=false,kind,ro:=none }
  | none=>none
 | none=>none

def finish (E:Env) (F:SF) (x:SV) (s:SH):Option (SF × SH):=
 match F.todo with
 | .reg ops (i::rest)::k=>
  match ops[i]? with
  | some o=>some ({ F with tm:=putDst F.tm o x,todo:=.reg ops rest::k },s)
  | none=>none
 | .drw ops (e::rem) YL::k=>
  match ops[e]? with
  | some o=>
   let tm:=putDst F.tm o x
   bif unnamed ops YL o then (recheck E ops tm YL s).map fun s=>({ F with tm,todo:=.drw ops rem YL::k },s) else none
  | none=>none
 | .ω i::k=>some ({ F with todo:=.endRF i::k },s)
 | .beginRound::k=>some ({ F with todo:=k },s)
 | _=>none

def mo (id:Nat):List SI->Option (List SI)
 | .inBlock id'::k=>bif id'==id then some k else mo id k
 | _::k=>mo id k
 | []=>none

def mT (l:Nat):List SI->Option (List SI)
 | .inScope body::k=>
  match findLabel body l with
  | some rest=>some (.code rest::.inScope body::k)
  | none=>mT l k
 | _::k=>mT l k
 | []=>none

def dL (E:Env) (fn:Func) (tm:fP) (s:SH):Option (SV × SH):=
 (go fn.results.toList s).bind fun (l,s)=>match l with
  | [x]=>some (x,s)
  | l=>some (.tup l,s)
 where
 go:List ResultVar->SH->Option (List SV × SH)
  | [],s=>some ([],s)
  | .tmp t::r,s=>(go r s).map fun (l,s)=>(tm.get t::l,s)
  | .cell a t::r,s=>match nr E t (tm.get a) s with
   | some (x,s)=>(go r s).map fun (l,s)=>(x::l,s)
   | none=>none

def one (x:Option SM):Option (List SM):=x.map fun x=>[x]

def returned (E:Env) (F:SF) (callers:List SF) (x:SV) (s:SH):Option (List SM):=
 match callers with
 | c::rest=>
  match F.kind with
  | .normal=>(finish E c x s).map fun (c,s)=>[{ top:=c,callers:=rest,mem:=s }]
  | .deferred=>some [{ top:=c,callers:=rest,mem:=s }]
  | _=>none
 | []=>none

def CU (E:Env) (F:SF) (callers:List SF) (s:SH):List SV->Option (List SM)
 | []=>some []
 | x::xs=>match finish E F x s,CU E F callers s xs with
  | some (F',s'),some r=>some ({ top:=F',callers,mem:=s' }::r)
  | _,_=>none

def after (E : Env) (F : SF) (callers : List SF) : dE × SH -> Option (List SM)
  | (.val x, s) => (finish E F x s).map fun (F, s) => [{ top := F, callers, mem := s }]
  | (.enter f args, s) =>
    match E.ext f with
    | some k => (A1 E k args s).bind fun (x, s) => (finish E F x s).map fun (F, s) => [{ top := F, callers, mem := s }]
    | none =>
    match E.Y7 f with
    | some g => (g args s).bind fun (x, s) => (finish E F x s).map fun (F, s) => [{ top := F, callers, mem := s }]
    | none =>
    match E.qs f with
    | some g => (g args).bind fun l => CU E F callers s l
    | none => one ((eL E f args .normal).map fun G => { top := G, callers := F :: callers, mem := s })
  | (.round i args, s) =>
    match s.look i with
    | some (.loop _ _ fn tm params assign body _, _) =>
      bif args.length == params.length then
        some [{ top := { fn, tm := (params.zip args).foldl (fun tm (t, a) => tm.set t a) tm, todo := [.code assign, .beginRound, .code body], defers := [], ret := false, kind := .normal, ro := some i },
                callers := F :: callers, mem := s }]
      else none
    | _ => none
  | (.defer d, s) =>
    match F.ro with
    | none => (finish E { F with defers := d :: F.defers } (.v undef) s).map fun (F, s) => [{ top := F, callers, mem := s }]
    | some _ => none

def o5 (l:List (dE × SH)) (f:dE × SH->Option (List SM)):Option (List SM):=
 match l with
 | []=>some []
 | x::xs=>match f x,o5 xs f with
  | some a,some b=>some (a++b)
  | _,_=>none

def oe (E:Env) (F:SF) (callers:List SF) (s:SH) (jump:Option Code):Option (List SM):=
 match F.ro with
 | none=>match jump with
  | none | some .ret=>some [{ top:={ F with ret:=true },callers,mem:=s }]
  | _=>none
 | some i=>
  match s.look i with
  | some (.loop _ _ fn tm params assign body df,true)=>
   match callers with
   | c::rest=>
    match F.kind with
    | .normal=>(finish E c (.v (.bool jump.isNone)) (s.put i (.loop (if jump.isNone then .ready else .done) jump fn tm params assign body df))).map fun (c,s)=>[{ top:=c,callers:=rest,mem:=s }]
    | _=>none
   | []=>none
  | _=>none

def Mu (E:Env) (F:SF) (callers:List SF) (s:SH):Option (List SM):=
 match F.defers with
 | .fn (.func g) capt args::ds=>
  one ((eL E g (args++capt) .deferred).map fun G=>{ top:=G,callers:={ F with defers:=ds }::callers,mem:=s })
 | .fn _ _ _::_=>none
 | .coll i::ds=>
  match s.look i with
  | some (.dfr (some l),true)=>some [{ top:={ F with defers:=l++ds },callers,mem:=s.put i (.dfr none) }]
  | _=>none
 | []=>
  match E.P.funcs[F.fn]? with
  | some fn=>match dL E fn F.tm s with
   | some (x,s)=>returned E F callers x s
   | none=>none
  | none=>none

def uY (E:Env) (ops:Array Oper) (F:SF) (callers:List SF) (o:Oper) (s:SH):Option (List SM):=
 match wanted ops F.tm o E s with
 | some (true,s)=>(j3 E F.tm o s).bind fun l=>o5 l (after E F callers)
 | some (false,s)=>(finish E F (.v undef) s).map fun (F,s)=>[{ top:=F,callers,mem:=s }]
 | none=>none

def K8 (E:Env) (F:SF) (callers:List SF) (s:SH) (ops:Array Oper) (rem YL:List Nat) (k:List SI):Option (List SM):=
 let bf:=Region.before ops
 match rem.find? fun i=>free ops bf i&&ready bf rem i&&goes E ops F.tm s i with
 | some i=>
  match ops[i]? with
  | some o=>(oY E ops F.tm o s).map fun (x,s)=>
    [{ top:={ F with tm:=putDst F.tm o x,todo:=.drw ops (rem.filter fun j=>!Nat.beq j i) (i::YL)::k },callers,mem:=s }]
  | none=>none
 | none=>
  match (rem.find? fun i=>ready bf rem i&&!late E ops bf F.tm.nt i).or (rem.find? fun i=>ready bf rem i) with
  | some e=>
   bif ready bf rem e&&rem.all fun j=>Nat.beq j e||(bf.getD j 0).testBit e||late E ops bf F.tm.nt j||rem.any fun i=>!Nat.beq i j&&(bf.getD j 0).testBit i&&!late E ops bf F.tm.nt i then
    match ops[e]? with
    | some o=>uY E ops { F with todo:=.drw ops (e::rem.filter fun j=>!Nat.beq j e) (YL.filter fun p=>!((bf.getD e 0).testBit p))::k } callers o s
    | none=>none
   else none
  | none=>none

def B4 (E:Env) (F:SF) (callers:List SF) (s:SH) (f:Operand) (params:Array Tmp) (assign body:Code) (k:List SI):Option (List SM):=
 match F.ro with
 | some l=>match s.look l with
  | some (.loop _ _ _ _ _ _ _ d,_)=>(eX (.loop .ready none F.fn F.tm params.toList assign body d) s).bind fun (i,s)=>
   (l3 (bq E F.tm f) [.yield i]).bind fun n=>after E { F with todo:=.ω i::k } callers (n,s)
  | _=>none
 | none=>(eX (.dfr (some [])) s).bind fun (d,s)=>(eX (.loop .ready none F.fn F.tm params.toList assign body d) s).bind fun (i,s)=>
   (l3 (bq E F.tm f) [.yield i]).bind fun n=>after E { F with todo:=.ω i::k,defers:=.coll d::F.defers } callers (n,s)

def tu (E:Env) (S:SM):Option (List SM):=
 let F:=S.top
 let s:=S.mem
 let to (k:List SI):Option (List SM):=some [{ top:={ F with todo:=k },callers:=S.callers,mem:=s }]
 bif F.ret then Mu E F S.callers s else
  match F.todo with
  | []=>oe E F S.callers s none
  | .code .ret::_=>oe E F S.callers s (some .ret)
  | .code .skip::k=>to k
  | .code (.label _)::k=>to k
  | .inBlock _::k=>to k
  | .inScope _::k=>to k
  | .code (.seq a b)::k=>to (.code a::.code b::k)
  | .code (.cond c a b)::k=>
   match bq E F.tm c with
   | .v (.bool t)=>let r:=s.dec E t;some [{ top:={ F with todo:=.code (bif r.1 then a else b)::k },callers:=S.callers,mem:=r.2 }]
   | _=>none
  | .code (.block id c)::k=>to (.code c::.inBlock id::k)
  | .code (.loop c)::k=>to (.code c::.inLoop c::k)
  | .inLoop c::k=>to (.code c::.inLoop c::k)
  | .code (.scope c)::k=>to (.code c::.inScope c::k)
  | .code (.exit id)::k=>match mo id k with | some k=>to k | none=>oe E F S.callers s (some (.exit id))
  | .code (.goto l)::k=>match mT l k with | some k=>to k | none=>oe E F S.callers s (some (.goto l))
  | .code (.rangeFunc f params assign body)::k=>B4 E F S.callers s f params assign body k
  | .beginRound::k=>
   match F.ro with
   | some i=>match s.look i with
    | some (.loop .ready p fn tm params assign body df,true)=>
     some [{ top:={ F with todo:=k },callers:=S.callers,mem:=s.put i (.loop .busy p fn tm params assign body df) }]
    | _=>none
   | none=>none
  | .endRF i::k=>
   match s.look i with
   | some (.loop st jump fn tm params assign body df,true)=>
    match st with
    | .busy=>none
    | _=>some [{ top:={ F with todo:=(jump.map SI.code).toList++k },callers:=S.callers,mem:=s.put i (.loop .exhausted jump fn tm params assign body df) }]
   | _=>none
  | .ω _::_=>none
  | .code (.refuse _)::_=>none
  | .code (.region _ ops draw)::k=>
   bif draw then (bif gu ops then to (.drw ops (List.range ops.size) []::k) else none) else to (.reg ops (List.range ops.size)::k)
  | .reg _ []::k=>to k
  | .reg ops (i::_)::_=>
   match ops[i]? with
   | none=>none
   | some o=>uY E ops F S.callers o s
  | .drw _ [] _::k=>to k
  | .drw ops (i::rem) YL::k=>K8 E F S.callers s ops (i::rem) YL k


def SM.over (S:SM):Bool:=S.callers.isEmpty&&S.top.ret&&S.top.defers.isEmpty

def step1 (E:Env) (S:SM):Option (List SM):=
 match tu E { S with mem:={ S.mem with Zn:=[] } } with
 | some []=>none
 | some [T]=>some [{ T with mem:={ T.mem with Zn:=T.mem.Zn++S.mem.Zn } }]
 | some l=>some (l.map fun T=>{ T with mem:={ T.mem with Zn:=T.mem.Zn++S.mem.Zn } })
 | none=>none

def run (E:Env) (stop:SM->Bool):Nat->List SM->List SM->Option (List SM)
 | _,[],done=>some done
 | 0,_::_,_=>none
 | n+1,S::work,done=>bif stop S then run E stop n work (S::done) else match step1 E S with
  | none=>none
  | some [S']=>run E stop n (S'::work) done
  | some l=>run E stop n (l++work) done


structure SH.dH (s s':SH):Prop where
 d:s'.d=s.d
 H:s'.H=s.H
 nx:s'.nx=s.nx

theorem SH.dH.refl (s:SH):s.dH s:=⟨rfl,rfl,rfl⟩
theorem SH.dH.trans {a b c:SH} (h:a.dH b) (k:b.dH c):a.dH c:=⟨k.d.trans h.d,k.H.trans h.H,k.nx.trans h.nx⟩

theorem SH.dH.symm {a b:SH} (h:a.dH b):b.dH a:=⟨h.d.symm,h.H.symm,h.nx.symm⟩

section
variable {ν:aP} {M:Own} {w0 w:World} {s s':SH} {E:Env}

theorem HR.same (h:HR ν M w0 s w) (e:s.dH s'):HR ν M w0 s' w:=by
 cases s;cases s';obtain ⟨rfl,rfl,rfl⟩:=e;exact ⟨h.full,h.dom,h.fresh,h.obj,h.inj,h.size,h.frame,h.ro,h.os,h.tape,h.output⟩

theorem SH.dH.look (e:s.dH s') (i:Nat):s'.look i=s.look i:=by
 cases s;cases s';obtain ⟨rfl,rfl,rfl⟩:=e;rfl

theorem SH.fX {b t:Bool} (h:s.dec E b=(t,s')):s.dH s'/\(s'.ob->s.ob/\b=t):=by
 unfold SH.dec at h;cases ho:s.IA E with
 | none=>rw [ho] at h;cases h;exact ⟨⟨rfl,rfl,rfl⟩,fun k=>⟨k,rfl⟩⟩
 | some u=>rw [ho] at h;cases h;exact ⟨⟨rfl,rfl,rfl⟩,fun k=>k⟩

theorem SH.eO {b:Bool} (h:s.ask E b=some s'):s.dH s'/\(s'.ob->s.ob/\b=true):=by
 unfold SH.ask at h;cases ho:s.IA E with
 | none=>
  rw [ho] at h;dsimp only at h;cases hs:s.soft
  ·rw [hs] at h;cases b
   ·cases h
   ·cases h;exact ⟨⟨rfl,rfl,rfl⟩,fun k=>⟨k,rfl⟩⟩
  ·rw [hs] at h;cases h;exact ⟨⟨rfl,rfl,rfl⟩,fun k=>k⟩
 | some u=>rw [ho] at h;cases h;exact ⟨⟨rfl,rfl,rfl⟩,fun k=>k⟩
end

theorem kp {b:Bool} {u:Unit} (h:fT b=some u):b=true:=by
 unfold fT at h;cases b <;> simp_all

theorem jm {α:Type} {P:Program}:∀ {x:Sem α} {a:α},ep P x=some a->∀ w,x.run P w=.ok a w
 | .pure _,_,h,w=>by rw [ep] at h;cases h;rfl
 | .program k,_,h,w=>by rw [ep] at h;rw [Sem.run];exact jm h w
 | .load ..,_,h,_=>by simp [ep] at h
 | .store ..,_,h,_=>by simp [ep] at h
 | .new ..,_,h,_=>by simp [ep] at h
 | .shape ..,_,h,_=>by simp [ep] at h
 | .freeze ..,_,h,_=>by simp [ep] at h
 | .frozen ..,_,h,_=>by simp [ep] at h
 | .getObj ..,_,h,_=>by simp [ep] at h
 | .setObj ..,_,h,_=>by simp [ep] at h
 | .choose ..,_,h,_=>by simp [ep] at h
 | .sys ..,_,h,_=>by simp [ep] at h
 | .mark ..,_,h,_=>by simp [ep] at h
 | .halt ..,_,h,_=>by simp [ep] at h

def c7 (P:Program) (g:Sem Value) (ν:aP) (M:Own) (w0 w:World) (x:SV) (s':SH):Prop:=
 ∃ ν' w' y,ν.Le ν'/\g.run P w=.ok y w'/\VR ν' x y/\HR ν' M w0 s' w'

def v8 (P:Program) (g:Sem Unit) (ν:aP) (M:Own) (w0 w:World) (s':SH):Prop:=
 ∃ ν' w',ν.Le ν'/\g.run P w=.ok () w'/\HR ν' M w0 s' w'

section
variable {ν:aP} {M:Own} {w0 w:World} {s s':SH} {E:Env}

theorem c7.now {g:Sem Value} {x:SV} {y:Value} (hr:HR ν M w0 s' w) (h:g.run E.P w=.ok y w) (hx:VR ν x y):c7 E.P g ν M w0 w x s':=
 ⟨ν,w,y,aP.Le.refl _,h,hx,hr⟩

theorem VR.ae {x y:Value}:VR ν (.v x) y↔y=x:=by rw [VR]
theorem VR.aF {i off:Nat} {y:Value}:VR ν (.ptr i off) y↔∃ b,ν i=some b/\y=.pointer (some ⟨b.1,off,none⟩):=by rw [VR]
theorem VR.aL {i off len:Nat} {cap:Option Nat} {y:Value}:VR ν (.sl i off len cap) y↔∃ b,ν i=some b/\len<=cap.getD (b.2 - off)/\y=.slice (some ⟨b.1,off,none⟩) len (cap.getD (b.2 - off)):=by rw [VR]
theorem VR.cV {i:Nat} {y:Value}:VR ν (.map i) y↔∃ b,ν i=some b/\y=.map (some b.1):=by rw [VR]
theorem VR.bx {l:List SV} {y:Value}:VR ν (.agg l) y↔∃ a:List Value,y=.agg a.toArray/\au ν l a:=by rw [VR]
theorem VR.cz {l:List SV} {y:Value}:VR ν (.tup l) y↔∃ a:List Value,y=.tuple a.toArray/\au ν l a:=by rw [VR]
theorem VR.dp {t:TypeId} {x:SV} {y:Value}:VR ν (.iface t x) y↔∃ z,y=.iface t z/\VR ν x z:=by rw [VR]
theorem VR.eH {fn:Fn} {a b:List SV} {y:Value}:VR ν (.func fn a b) y↔∃ a' b':List Value,y=.func fn a'.toArray b'.toArray/\au ν a a'/\au ν b b':=by rw [VR]
theorem VR.gf {i:Nat} {y:Value}:VR ν (.yield i) y↔∃ b,ν i=some b/\y=.func (.yield b.1) #[] #[]:=by rw [VR]
theorem VR.fw {i off len adv:Nat} {y:Value}:VR ν (.fin i off len adv) y↔∃ b,ν i=some b/\y=.slice (some ⟨b.1,if b.2 - off=len then off else off+adv,none⟩) 0 (b.2 - off - len):=by rw [VR]

mutual
theorem gI {ν:aP}:∀ {x:SV} {z y:Value},eM x=some z->VR ν x y->y=z
 | .v x,z,y,h,hv=>by rw [eM] at h;cases h;exact VR.ae.1 hv
 | .agg l,z,y,h,hv=>by
  rw [eM] at h
  obtain ⟨vs,hvs,rfl⟩:=Wg.1 h
  obtain ⟨a,rfl,ha⟩:=VR.bx.1 hv
  rw [hJ hvs ha]
 | .tup l,z,y,h,hv=>by
  rw [eM] at h
  obtain ⟨vs,hvs,rfl⟩:=Wg.1 h
  obtain ⟨a,rfl,ha⟩:=VR.cz.1 hv
  rw [hJ hvs ha]
 | .iface t x,z,y,h,hv=>by
  rw [eM] at h
  obtain ⟨v,hx,rfl⟩:=Wg.1 h
  obtain ⟨u,rfl,hu⟩:=VR.dp.1 hv
  rw [gI hx hu]
 | .aH,_,_,h,_=>by rw [eM] at h;cases h
 | .ptr _ _,_,_,h,_=>by rw [eM] at h;cases h
 | .sl _ _ _ _,_,_,h,_=>by rw [eM] at h;cases h
 | .map _,_,_,h,_=>by rw [eM] at h;cases h
 | .func _ _ _,_,_,h,_=>by rw [eM] at h;cases h
 | .yield _,_,_,h,_=>by rw [eM] at h;cases h
 | .fin _ _ _ _,_,_,h,_=>by rw [eM] at h;cases h
theorem hJ {ν:aP}:∀ {l:List SV} {zs ys:List Value},jG l=some zs->au ν l ys->ys=zs
 | [],_,_,h,hv=>by rw [jG] at h;cases h;exact hv.ay
 | x::xs,zs,ys,h,hv=>by
  rw [jG] at h
  obtain ⟨y,ys',rfl,hy,Z4⟩:=hv.cons_inv
  split at h
  ·rename_i v vs h1 h2
   cases h
   rw [gI h1 hy,hJ h2 Z4]
  ·cases h
end


theorem run_underlying {t:TypeId} {d:TypeDesc} (h:bT E t=some d):(underlying t).run E.P w=.ok d w:=by
 have h':E.P.underlying t=some d:=h;simp [underlying,h']

theorem run_typeInfo {t:TypeId} {d:TypeInfo} (h:bR E t=some d):(typeInfo t).run E.P w=.ok d w:=by
 have h':E.P.info? t=some d:=h;simp [typeInfo,h']

theorem run_sizeOf {t:TypeId} {d:TypeInfo} (h:bR E t=some d):(sizeOf t).run E.P w=.ok d.size w:=by
 simp [sizeOf,run_typeInfo h]

theorem dC {t:TypeId} {d:TypeInfo} {z:Value} (h:bR E t=some d) (hz:d.zero=some z):(zeroValue t).run E.P w=.ok z w:=by
 simp [zeroValue,run_typeInfo h,hz]

theorem gd {t:TypeId} {b:Bool} (h:kV E t=some b):(isAgg t).run E.P w=.ok b w:=by
 unfold kV at h;cases hd:bT E t with
 | none=>rw [hd] at h;cases h
 | some d=>rw [hd] at h;simp only [isAgg,Wf,run_underlying hd,V3];cases d <;> simp_all


theorem cQ {b:Nat} {c:Array Value} {e:TypeId} {fz:Nat × Nat} (h:w.heap[b]?=some (.cells c e fz)) (off:Nat):w.cell? ⟨b,off,none⟩=c[off]?:=by
 simp [World.cell?,h]

theorem di (b off k:Nat):(⟨b,off,none⟩:Addr).add k=⟨b,off+k,none⟩:=by
 unfold Addr.add;split
 ·rename_i h;rw [h];rfl
 ·rfl

theorem fD {P:Program} {a:Addr} {v:Value} (h:w.cell? a=some v):(load a).run P w=.ok v w:=by
 simp [load,Sem.run,h]

theorem run_loadCellsFrom {P:Program} {b off:Nat} {vs:List Value}:∀ (n i:Nat) (acc:Array Value),(∀ k,k<n->w.cell? ⟨b,off+(i+k),none⟩=vs[k]?)->vs.length=n->
  (loadCellsFrom ⟨b,off,none⟩ i n acc).run P w=.ok (acc++vs.toArray) w:=by
 intro n i acc h hl;induction n generalizing i acc vs with
 | zero=>
  obtain rfl:vs=[]:=Wd.1 hl;simp [loadCellsFrom]
 | succ n ih=>
  match vs,hl with
  | v::vs,hl=>
   have h0:=h 0 (by omega);simp only [Wa,Yc] at h0;simp only [loadCellsFrom,di,Wf,fD h0,V3]
   have μ:∀ k,k<n->w.cell? ⟨b,off+((i+1)+k),none⟩=vs[k]?:=by
    intro k hk;have hs:=h (k+1) (by omega);simp only [WU] at hs;rw [<- hs];congr 2;omega
   rw [ih (vs:=vs) (i+1) (acc.push v) μ (by simpa using hl)];simp

theorem run_loadCells {P:Program} {b off n:Nat} {vs:List Value} (h:∀ k,k<n->w.cell? ⟨b,off+k,none⟩=vs[k]?) (hl:vs.length=n):
  (loadCells ⟨b,off,none⟩ n).run P w=.ok vs.toArray w:=by
 rw [loadCells,run_loadCellsFrom n 0 #[] (fun k hk=>by rw [W9];exact h k hk) hl];simp

theorem YS {ys rest:List Value} {k:Nat} {y:Value} (h:ys[k]?=some y):(ys++rest)[k]?=some y:=by
 have hk:k<ys.length:=(WA.1 h).1;rw [WC hk];exact h

theorem SH.cj (s:SH) (p:Prop):s.dH (s.jg p):=⟨rfl,rfl,rfl⟩

theorem CP {i:Nat} {xs:List SV} (h:(s.look i).bind (·.1.told)=some xs) (hr:HR ν M w0 s w) {b:Nat × Nat} (hb:ν i=some b):
  ∃ (ys:List Value) (c:Array Value) (e:TypeId) (fz:Nat × Nat),w.heap[b.1]?=some (.cells c e fz)/\au ν xs ys/\∀ (k:Nat) (y:Value),ys[k]?=some y->c[k]?=some y:=by
 obtain ⟨⟨o,m⟩,hl,h⟩:=Wh.1 h;obtain ⟨_,_,b',o',YM,ho,YO,_⟩:=hr.look hl;rw [hb] at YM;cases YM;cases o <;> simp only [SO.told,reduceCtorEq,Option.some.injEq] at h
 ·subst h;obtain ⟨ys,rest,rfl,ZB,_⟩:=YO;exact ⟨ys,_,_,_,ho,ZB,fun k y hy=>by simpa using YS hy⟩
 ·subst h;obtain ⟨ys,c,e,fz,rfl,ZB,hc⟩:=YO;exact ⟨ys,c,e,fz,ho,ZB,hc⟩

theorem Du {t:TypeId} {a x:SV} {l:List SV} {av:Value} (h:qi E t a l s=some (x,s')) (hr:HR ν M w0 s w) (ha:VR ν a av):
  s.dH s'/\(s'.ob->s.ob/\∃ y,(Instr.loadAt t av).run E.P w=.ok y w/\VR ν x y):=by
 unfold qi at h;split at h
 ·rename_i i off ag info hag YQ;obtain ⟨b,hb,rfl⟩:=VR.aF.1 ha;split at h
  ·rename_i xs hl;obtain ⟨ys,c,e,fz,ho,ZB,hc⟩:=CP hl hr hb;cases ag
   ·simp only [W6] at h;split at h
    ·rename_i x0;cases h;refine ⟨SH.cj _ _,fun ob=>⟨ob.1,?_⟩⟩;obtain ⟨y,hy,hv⟩:=ZB.get ob.2;refine ⟨y,?_,hv⟩
     have YH:(Instr.loadAt t (.pointer (some ⟨b.1,off,none⟩))).run E.P w=(load ⟨b.1,off,none⟩).run E.P w:=by
      simp [Instr.loadAt,Instr.sureAddr,loadVar,gd hag]
     rw [YH,fD];rw [cQ ho];exact hc _ _ hy
    ·cases h
   ·simp only [WG,Option.some.injEq,Prod.mk.injEq] at h;obtain ⟨rfl,rfl⟩:=h;refine ⟨SH.cj _ _,fun ob=>⟨ob.1,.agg ((ys.drop off).take info.size).toArray,?_,VR.bx.2 ⟨_,rfl,?_⟩⟩⟩
    ·have hlen:((ys.drop off).take info.size).length=info.size:=by
      rw [((ZB.drop off).take info.size).length,ob.2.1,ob.2.2]
     simp only [Instr.loadAt,Instr.sureAddr,loadVar,Wf,Wl,V3,gd hag,Yq,run_sizeOf YQ];rw [run_loadCells (vs:=(ys.drop off).take info.size) ?_ hlen]
     ·rfl
     intro k hk;have ZM:k<((ys.drop off).take info.size).length:=by omega
     rw [cQ ho,V4 ZM];refine hc _ _ ?_;rw [<- V4 ZM,WO,if_pos hk,W7]
    ·have:=(ZB.drop off).take info.size;rw [ob.2.1] at this;exact this
  ·cases h
 ·cases h

theorem DJ {t:TypeId} {a x:SV} {av:Value} (h:p7 E t a s=some (x,s')) (hr:HR ν M w0 s w) (ha:VR ν a av):
  s.dH s'/\(s'.ob->s.ob/\∃ y,(Instr.loadAt t av).run E.P w=.ok y w/\VR ν x y):=by
 unfold p7 at h;split at h
 ·-- one cell
  rename_i i off hag;obtain ⟨b,hb,rfl⟩:=VR.aF.1 ha
  have YH:(Instr.loadAt t (.pointer (some ⟨b.1,off,none⟩))).run E.P w=(load ⟨b.1,off,none⟩).run E.P w:=by
   simp [Instr.loadAt,Instr.sureAddr,loadVar,gd hag]
  split at h
  ·rename_i xs e fz ext own hl;obtain ⟨_,_,b',o,YM,ho,YO,_⟩:=hr.look hl;rw [hb] at YM;cases YM;obtain ⟨ys,rest,rfl,ZB,_⟩:=YO;cases hx:xs[off]? with
   | none=>rw [hx] at h;cases h
   | some x0=>
    rw [hx] at h;cases h;obtain ⟨y,hy,hv⟩:=ZB.get hx;refine ⟨.refl _,fun ob=>⟨ob,y,?_,hv⟩⟩;rw [YH,fD];rw [cQ ho];simpa using YS hy
  ·rename_i xs own hl;obtain ⟨_,_,b',o,YM,ho,YO,_⟩:=hr.look hl;rw [hb] at YM;cases YM;obtain ⟨ys,c,e,fz,rfl,ZB,hc⟩:=YO;cases hx:xs[off]? with
   | none=>rw [hx] at h;cases h
   | some x0=>
    rw [hx] at h;cases h;obtain ⟨y,hy,hv⟩:=ZB.get hx;refine ⟨.refl _,fun ob=>⟨ob,y,?_,hv⟩⟩;rw [YH,fD];rw [cQ ho];exact hc _ _ hy
  ·rename_i n f e fz ext own hl;obtain ⟨_,_,b',o,YM,ho,YO,_⟩:=hr.look hl;rw [hb] at YM;cases YM;obtain ⟨c,rfl,hf,_⟩:=YO;cases hs:s.ask E (Nat.blt off n) with
   | none=>rw [hs] at h;cases h
   | some s1=>
    rw [hs] at h;cases h;obtain ⟨YG,YK⟩:=SH.eO hs;refine ⟨YG,fun ob=>⟨(YK ob).1,f off,?_,VR.ae.2 rfl⟩⟩;rw [YH,fD];rw [cQ ho];exact hf off (dw.1 (YK ob).2)
  ·cases h
 ·-- many cells
  rename_i i off info hag YQ;obtain ⟨b,hb,rfl⟩:=VR.aF.1 ha
  have YH:∀ vs:List Value,(loadCells ⟨b.1,off,none⟩ info.size).run E.P w=.ok vs.toArray w->(Instr.loadAt t (.pointer (some ⟨b.1,off,none⟩))).run E.P w=.ok (.agg vs.toArray) w:=by
   intro vs hvs;simp [Instr.loadAt,Instr.sureAddr,loadVar,gd hag,run_sizeOf YQ,hvs]
  split at h
  ·rename_i xs e fz ext own hl;obtain ⟨_,_,b',o,YM,ho,YO,_⟩:=hr.look hl;rw [hb] at YM;cases YM;obtain ⟨ys,rest,rfl,ZB,_⟩:=YO;cases hle:Nat.ble (off+info.size) xs.length
   ·rw [hle] at h;cases h
   ·rw [hle] at h;cases h;have hle:=Wu hle;have hlen:=ZB.length;refine ⟨.refl _,fun ob=>⟨ob,.agg ((ys.drop off).take info.size).toArray,?_,VR.bx.2 ⟨_,rfl,(ZB.drop off).take info.size⟩⟩⟩;refine YH _ (run_loadCells ?_ ?_)
    ·intro k hk;rw [cQ ho,WO,if_pos hk,W7];have:off+k<ys.length:=by omega
     simp [WC this]
    ·simp;omega
  ·rename_i n f e fz ext own hl;obtain ⟨_,_,b',o,YM,ho,YO,_⟩:=hr.look hl;rw [hb] at YM;cases YM;obtain ⟨c,rfl,hf,_⟩:=YO;cases hs:s.ask E (Nat.ble (off+info.size) n) with
   | none=>rw [hs] at h;cases h
   | some s1=>
    rw [hs] at h;cases h;obtain ⟨YG,YK⟩:=SH.eO hs
    have hmap:∀ l:List Nat,au ν (l.map fun k=>SV.v (f (off+k))) (l.map fun k=>f (off+k)):=by
     intro l;induction l with
     | nil=>exact au.nil
     | cons k l ih=>exact au.cons (VR.ae.2 rfl) ih
    refine ⟨YG,fun ob=>⟨(YK ob).1,_,?_,VR.bx.2 ⟨_,rfl,hmap _⟩⟩⟩;have hle:=Wu (YK ob).2;refine YH _ (run_loadCells ?_ (by simp));intro k hk;rw [cQ ho,hf (off+k) (by omega)];simp [hk]
  ·cases h
 ·cases h

theorem sS {t:TypeId} {a x:SV} {av:Value} (h:nr E t a s=some (x,s')) (hr:HR ν M w0 s w) (ha:VR ν a av):
  s.dH s'/\(s'.ob->s.ob/\∃ y,(Instr.loadAt t av).run E.P w=.ok y w/\VR ν x y):=by
 unfold nr at h;split at h
 ·exact Du h hr ha
 ·exact DJ h hr ha


theorem SV.lH {x:SV} {l:List SV} {y:Value} (h:x.cells=some l) (hv:VR ν x y):au ν l y.cells.toList:=by
 have one:∀ {x:SV} {y:Value},VR ν x y->y.cells=#[y]->au ν [x] y.cells.toList:=by
  intro x y hv hc;rw [hc];exact au.cons hv au.nil
 cases x with
 | aH=>cases h
 | agg l'=>cases h;obtain ⟨a,rfl,ha⟩:=VR.bx.1 hv;simpa [Value.cells] using ha
 | v x=>
  obtain rfl:=VR.ae.1 hv;cases y <;> first | (cases h;exact one hv rfl) | (cases h;simpa [Value.cells] using au.lits ν _)
 | ptr=>cases h;refine one hv ?_;obtain ⟨b,_,rfl⟩:=VR.aF.1 hv;rfl
 | sl=>cases h;refine one hv ?_;obtain ⟨b,_,_,rfl⟩:=VR.aL.1 hv;rfl
 | map=>cases h;refine one hv ?_;obtain ⟨b,_,rfl⟩:=VR.cV.1 hv;rfl
 | tup=>cases h;refine one hv ?_;obtain ⟨b,rfl,_⟩:=VR.cz.1 hv;rfl
 | iface=>cases h;refine one hv ?_;obtain ⟨b,rfl,_⟩:=VR.dp.1 hv;rfl
 | func=>cases h;refine one hv ?_;obtain ⟨b,c,rfl,_⟩:=VR.eH.1 hv;rfl
 | yield=>cases h;refine one hv ?_;obtain ⟨b,_,rfl⟩:=VR.gf.1 hv;rfl
 | fin=>cases h;refine one hv ?_;obtain ⟨b,_,rfl⟩:=VR.fw.1 hv;rfl

theorem SV.Ip {x:SV} {y:Value} (h:x.flat=true) (hv:VR ν x y):y.oneCell'=true:=by
 cases x with
 | aH=>cases h
 | agg l=>cases h
 | tup l=>cases h
 | v x=>rw [VR.ae.1 hv];cases x <;> first | rfl | cases h
 | ptr=>obtain ⟨b,_,rfl⟩:=VR.aF.1 hv;rfl
 | sl=>obtain ⟨b,_,_,rfl⟩:=VR.aL.1 hv;rfl
 | map=>obtain ⟨b,_,rfl⟩:=VR.cV.1 hv;rfl
 | iface=>obtain ⟨b,rfl,_⟩:=VR.dp.1 hv;rfl
 | func=>obtain ⟨b,c,rfl,_⟩:=VR.eH.1 hv;rfl
 | yield=>obtain ⟨b,_,rfl⟩:=VR.gf.1 hv;rfl
 | fin=>obtain ⟨b,_,rfl⟩:=VR.fw.1 hv;rfl

theorem au.flat {l:List SV} {ys:List Value} (h:l.all SV.flat=true) (hv:au ν l ys):∀ y∈ys,y.oneCell'=true:=by
 induction l generalizing ys with
 | nil=>rw [hv.ay];simp
 | cons x l ih=>
  obtain ⟨z,zs,rfl,hz,hs⟩:=hv.cons_inv;simp at h;intro y hy;rcases V8.1 hy with rfl | hy
  ·exact SV.Ip h.1 hz
  ·exact ih (by simpa using h.2) hs y hy

def dm (ys:List Value) (off:Nat):List Value->List Value
 | []=>ys
 | z::zs=>dm (ys.set off z) (off+1) zs

theorem jr (ys:List Value) (off:Nat) (zs:List Value):(dm ys off zs).length=ys.length:=by
 induction zs generalizing ys off with
 | nil=>rfl
 | cons z zs ih=>rw [dm,ih,List.length_set]
theorem uP (xs:List SV) (off:Nat) (l:List SV):(aQ xs off l).length=xs.length:=by
 induction l generalizing xs off with
 | nil=>rw [nE]
 | cons z zs ih=>rw [l4,ih,List.length_set]

theorem au.aQ {xs:List SV} {ys:List Value} {l:List SV} {zs:List Value} (h:au ν xs ys) (hl:au ν l zs) (off:Nat):au ν (Go.Rx.aQ xs off l) (dm ys off zs):=by
 induction l generalizing xs ys zs off with
 | nil=>rw [hl.ay,nE];exact h
 | cons x l ih=>
  obtain ⟨z,zs,rfl,hz,hs⟩:=hl.cons_inv;rw [l4];exact ih (h.set hz off) hs (off+1)

theorem uv {ys rest:List Value} {zs:List Value} {off:Nat} (h:off+zs.length<=ys.length):dm (ys++rest) off zs=dm ys off zs++rest:=by
 induction zs generalizing ys off with
 | nil=>rfl
 | cons z zs ih=>
  simp only [Wm] at h;rw [dm,dm,List.set_append_left _ _ (by omega),ih (by simp;omega)]

theorem jv {P:Program} {b off:Nat} {e:TypeId} {fz:Nat × Nat}:∀ (zs:List Value) (i:Nat) (w:World) (c:List Value),w.heap[b]?=some (.cells c.toArray e fz)->
  (∀ z∈zs,z.oneCell'=true)->off+i+zs.length<=c.length->(∀ k,off+i<=k->k<off+i+zs.length->¬ (fz.1<=k/\k<fz.2))->
  (storeCells ⟨b,off,none⟩ zs i).run P w=.ok () { w with heap:=w.heap.setIfInBounds b (.cells (dm c (off+i) zs).toArray e fz) }:=by
 intro zs;induction zs with
 | nil=>
  intro i w c hw _ _ _
  have:w.heap.setIfInBounds b (.cells c.toArray e fz)=w.heap:=by
   apply Xt;intro j;rw [WN];split
   ·rename_i ej;subst ej;have:=(VY.1 hw).1;have hw':=(VY.1 hw).2;simp [this,hw']
   ·rfl
  simp [storeCells,dm,this]
 | cons z zs ih=>
  intro i w c hw hone hlen hfz;simp only [Wm] at hlen hfz;have hz:=hone z (by simp);have hcell:w.cell? ⟨b,off+i,none⟩=c[off+i]?:=by rw [cQ hw];simp
  have YR:off+i<c.length:=by omega
  have hfr:w.frozen? ⟨b,off+i,none⟩=false:=by
   simp only [World.frozen?,hw];have:=hfz (off+i) (by omega) (by omega);obtain ⟨lo,hi⟩:=fz;simp at this ⊢;omega
  have hbl:=(VY.1 hw).1
  have hset:w.setCell ⟨b,off+i,none⟩ z={ w with heap:=w.heap.setIfInBounds b (.cells (c.set (off+i) z).toArray e fz) }:=by
   unfold World.setCell;congr 1;apply Xt;intro j;rw [XC,WN];split
   ·rename_i ej;subst ej;have hw':=(VY.1 hw).2;simp [hbl,hw']
   ·rfl
  have hstore:(store ⟨b,off+i,none⟩ z).run P w=.ok () (w.setCell ⟨b,off+i,none⟩ z):=by
   rw [run_store P w ⟨b,off+i,none⟩ z .plain hz,hcell,V4 YR];simp [hfr]
  simp only [storeCells,di,Wf];rw [hstore,V3,hset]
  have hw2:({ w with heap:=w.heap.setIfInBounds b (.cells (c.set (off+i) z).toArray e fz) }:World).heap[b]?=some (.cells (c.set (off+i) z).toArray e fz):=by
   simp [hbl]
  rw [ih (i+1) _ (c.set (off+i) z) hw2 (fun y hy=>hone y (Wb _ hy)) (by simp;omega) (fun k h1 h2=>hfz k (by omega) (by omega))];simp [dm,Nat.add_assoc]

theorem IY {fz:Nat × Nat} {off n:Nat} (h:nB fz off n=true):∀ k,off<=k->k<off+n->¬ (fz.1<=k/\k<fz.2):=by
 intro k h1 h2 h3;unfold nB at h;rw [XM,XM] at h;rcases h with (h | h) | h <;> (have:=Wu h;omega)

theorem DT {fz:Nat × Nat} {off n m:Nat} (h:nB fz off n=true) (hm:off+n<=m):∀ k,off<=k->k<off+n->¬ ((ju fz m).1<=k/\k<(ju fz m).2):=by
 intro k h1 h2;unfold ju;cases hb:(Nat.beq fz.1 1&&Nat.beq fz.2 0)
 ·exact IY h k h1 h2
 ·simp;omega

theorem HR.spliced (hr:HR ν M w0 s w) {i:Nat} {xs:List SV} {e:TypeId} {fz:Nat × Nat} {ext:Option Nat} (hl:s.look i=some (.row xs e fz ext,true))
  {b:Nat × Nat} (hb:ν i=some b) {l:List SV} {zs:List Value} (hz:au ν l zs) {off:Nat} (hlen:off+l.length<=xs.length) (hfz:nB fz off l.length=true) (hflat:l.all SV.flat=true):
  ∃ w',(storeCells ⟨b.1,off,none⟩ zs).run E.P w=.ok () w'/\HR ν M w0 (s.put i (.row (aQ xs off l) e fz ext)) w':=by
 obtain ⟨_,_,b',o,YM,ho,YO,_⟩:=hr.look hl;rw [hb] at YM;cases YM;obtain ⟨ys,rest,rfl,ZB,hext⟩:=YO;have h1:=ZB.length;have h2:=hz.length
 have YH:=jv (P:=E.P) (b:=b.1) (off:=off) (e:=e) (fz:=ju fz (ys++rest).length) zs 0 w (ys++rest) ho (hz.flat hflat) (by simp;omega) (by
  intro k hk1 ZM;exact DT hfz (by simp;omega) k (by omega) (by omega))
 rw [Yc,uv (by omega)] at YH;have hl1:(aQ xs off l).length=xs.length:=uP _ _ _;have hl2:(dm ys off zs++rest).length=(ys++rest).length:=by simp [jr]
 refine ⟨_,YH,hr.put hl (o:=.row (aQ xs off l) e fz ext) hb ⟨dm ys off zs,rest,by rw [hl2],ZB.aQ hz off,?_⟩ rfl rfl rfl rfl⟩;rw [hl1,hl2];exact hext

theorem AS {t:TypeId} {a x:SV} {av xv:Value} (h:xO E t a x s=some s') (hr:HR ν M w0 s w) (ha:VR ν a av) (hx:VR ν x xv):
  s'.ob->s.ob/\v8 E.P (Instr.storeAt t av xv) ν M w0 w s':=by
 unfold xO at h;split at h
 ·rename_i i off l info hc YQ;obtain ⟨b,hb,rfl⟩:=VR.aF.1 ha;have YX:=SV.lH hc hx;cases ZG:(l.length==info.size&&l.all SV.flat)
  ·rw [ZG] at h;cases h
  ·rw [ZG] at h;rw [V6] at ZG;obtain ⟨Zb,hflat⟩:=ZG;have Zb:l.length=info.size:=by simpa using Zb
   simp only [WG] at h;split at h
   ·rename_i xs e fz ext hl;cases h;intro ob;have ob:(s.jg (off+l.length<=xs.length/\nB fz off l.length=true)).ob:=ob;obtain ⟨w',YH,YY⟩:=(hr.same (SH.cj s (off+l.length<=xs.length/\nB fz off l.length=true))).spliced (E:=E) hl hb YX ob.2.1 ob.2.2 hflat;refine ⟨ob.1,ν,w',aP.Le.refl _,?_,YY⟩;have YI:xv.cells.size=info.size:=by rw [<- Zb,<- YX.length];simp
    simp [Instr.storeAt,Instr.sureAddr,storeVar,run_sizeOf YQ,YI,YH]
   ·cases h
 ·cases h

theorem ue {t:TypeId} {a x:SV} {av xv:Value} (h:x6 E t a x s=some s') (hr:HR ν M w0 s w) (ha:VR ν a av) (hx:VR ν x xv):
  (s'.ob->s.ob)/\v8 E.P (Instr.storeAt t av xv) ν M w0 w s':=by
 unfold x6 at h;split at h
 ·rename_i i off l info hc YQ;obtain ⟨b,hb,rfl⟩:=VR.aF.1 ha;have YX:=SV.lH hc hx;cases ZG:(l.length==info.size&&l.all SV.flat)
  ·rw [ZG] at h;cases h
  ·rw [ZG] at h;rw [V6] at ZG;obtain ⟨Zb,hflat⟩:=ZG;have Zb:l.length=info.size:=by simpa using Zb
   simp only [WG] at h;split at h
   ·rename_i xs e fz ext hl;cases Za:(Nat.ble (off+l.length) xs.length&&nB fz off l.length)
    ·rw [Za] at h;cases h
    ·rw [Za] at h;cases h;rw [V6] at Za;obtain ⟨w',YH,YY⟩:=hr.spliced (E:=E) hl hb YX (Wu Za.1) Za.2 hflat;refine ⟨fun k=>k,ν,w',aP.Le.refl _,?_,YY⟩;have YI:xv.cells.size=info.size:=by rw [<- Zb,<- YX.length];simp
     simp [Instr.storeAt,Instr.sureAddr,storeVar,run_sizeOf YQ,YI,YH]
   ·cases h
 ·cases h

theorem DF {t:TypeId} {a x:SV} {av xv:Value} (h:A2 E t a x s=some s') (hr:HR ν M w0 s w) (ha:VR ν a av) (hx:VR ν x xv):
  s'.ob->s.ob/\v8 E.P (Instr.storeAt t av xv) ν M w0 w s':=by
 unfold A2 at h;split at h
 ·exact AS h hr ha hx
 ·exact fun ob=>⟨(ue h hr ha hx).1 ob,(ue h hr ha hx).2⟩


theorem gx {o:SO} {i:Nat} (h:eX o s=some (i,s')) (hr:HR ν M w0 s w) (c:Nat) {r:Obj} (ho:∀ ν',ν.Le ν'->ν' i=some (w.heap.size,c)->OR ν' i o r):
  (s'.ob=s.ob)/\∃ ν',ν.Le ν'/\ν' i=some (w.heap.size,c)/\HR ν' M w0 s' { w with heap:=w.heap.push r }:=by
 unfold eX at h;cases YP:s.room
 ·rw [YP] at h;cases h
 ·rw [YP] at h;cases h;have hnx:ν s.nx=none:=hr.fresh _ (Wx _);have hle:=aP.lz hnx (w.heap.size,c);obtain ⟨_,YY⟩:=hr.new (w':={ w with heap:=w.heap.push r }) YP c (ho _ hle (aP.bM _ _ _)) rfl rfl rfl rfl;exact ⟨rfl,_,hle,aP.bM _ _ _,YY⟩

theorem Cx {t:TypeId} {x y:SV} {xv:Value} (h:Fc t x s=some (y,s')) (hr:HR ν M w0 s w) (hx:VR ν x xv):
  (s'.ob=s.ob)/\c7 E.P (Instr.box t xv) ν M w0 w y s':=by
 unfold Fc at h;cases hc:x.cells with
 | none=>rw [hc] at h;cases h
 | some l=>
  rw [hc] at h;simp only [WE,V9] at h;cases hn:eX (.row l t (0,0) none) s with
  | none=>rw [hn] at h;cases h
  | some p=>
   obtain ⟨i,s1⟩:=p;rw [hn] at h;cases h;have YX:=SV.lH hc hx;obtain ⟨YK,ν',hle,hi,YY⟩:=gx hn hr 0 (r:=.cells xv.cells t) (fun ν' hle _=>⟨xv.cells.toList,[],by simp,YX.mono hle,by simpa [si] using YX.length⟩);refine ⟨YK,ν',_,_,hle,?_,VR.aF.2 ⟨_,hi,rfl⟩,YY⟩;simp [Instr.box,newVar,newRow]

theorem D0 {t:TypeId} {y:SV} (h:wJ E t s=some (y,s')) (hr:HR ν M w0 s w):
  (s'.ob=s.ob)/\c7 E.P (Instr.alloc t true (.tuple #[])) ν M w0 w y s':=by
 unfold wJ at h;cases hi:bR E t with
 | none=>rw [hi] at h;cases h
 | some info=>
  rw [hi] at h;simp only [WE,V9] at h;cases hz:info.zero with
  | none=>rw [hz] at h;cases h
  | some z=>
   rw [hz] at h;simp only [V9] at h;obtain ⟨YK,ν',w',v,hle,YH,hv,YY⟩:=Cx (E:=E) (xv:=z) h hr (VR.ae.2 rfl);refine ⟨YK,ν',w',v,hle,?_,hv,YY⟩;rw [<- YH];simp [Instr.alloc,Instr.box,dC hi hz]

end
section
variable {ν:aP} {M:Own} {w0 w:World} {s s':SH} {E:Env}

theorem np {t:TypeId} {x y:SV} {f:Nat} {xv:Value} (h:nV E t x f=some y) (hx:VR ν x xv):
  ∃ yv,(Instr.fieldAt t xv f).run E.P w=.ok yv w/\VR ν y yv:=by
 unfold nV at h;split at h
 ·rename_i i off fields hd;obtain ⟨b,hb,rfl⟩:=VR.aF.1 hx;split at h
  ·rename_i fd hf;split at h
   ·rename_i info YQ;cases hz:(info.size==0)
    ·rw [hz] at h;cases h;have hz:info.size≠0:=by simpa using hz
     refine ⟨_,?_,VR.aF.2 ⟨b,hb,rfl⟩⟩;simp [Instr.fieldAt,run_underlying hd,hf,Instr.sureAddr,fieldPlace,run_sizeOf YQ,hz,di]
    ·rw [hz] at h;cases h
   ·cases h
  ·cases h
 ·cases h

theorem zS {t:TypeId} {P:Program} {cs:List Value} {off:Nat} {v:Value} (hag:(isAgg t).run P w=.ok false w) (h:cs[off]?=some v):(part t cs.toArray off).run P w=.ok v w:=by
 simp [part,hag,h]

theorem vo {t:TypeId} {P:Program} {cs:List Value} {off n:Nat} (hag:(isAgg t).run P w=.ok true w) (hs:(sizeOf t).run P w=.ok n w):
  (part t cs.toArray off).run P w=.ok (.agg ((cs.drop off).take n).toArray) w:=by
 simp [part,hag,hs,List.take_drop]

theorem uX {t:TypeId} {x y:SV} {f:Nat} {xv:Value} (h:Bx E t x f=some y) (hx:VR ν x xv):
  ∃ yv,(Instr.field t xv f).run E.P w=.ok yv w/\VR ν y yv:=by
 unfold Bx at h;split at h
 ·rename_i l fields hd;obtain ⟨a,rfl,ha⟩:=VR.bx.1 hx;split at h
  ·rename_i fd hf;split at h
   ·rename_i hag;obtain ⟨v,hv,hvr⟩:=ha.get h;refine ⟨v,?_,hvr⟩;simp only [Instr.field,Wf,run_underlying hd,V3,hf,asAgg,Wl];exact zS (gd hag) hv
   ·rename_i info hag YQ;cases hle:Nat.ble (fd.offset+info.size) l.length
    ·rw [hle] at h;cases h
    ·rw [hle] at h;cases h;refine ⟨_,?_,VR.bx.2 ⟨_,rfl,(ha.drop fd.offset).take info.size⟩⟩;simp only [Instr.field,Wf,run_underlying hd,V3,hf,asAgg,Wl];exact vo (gd hag) (run_sizeOf YQ)
   ·cases h
  ·cases h
 ·cases h

theorem SV.nO {x:SV} {k:IntKind} {n:Int} {y:Value} (h:x.int=some (k,n)) (hv:VR ν x y):y=.int k n:=by
 unfold SV.int at h;split at h
 ·cases h;exact VR.ae.1 hv
 ·cases h

theorem jB {i:Int} {n:Nat} (h:ai i n=true):0<=i/\i<n:=Ws h

theorem iy {t:TypeId} {x i y:SV} {xv iv:Value} (h:nM E t x i s=some (y,s')) (hx:VR ν x xv) (hi:VR ν i iv):
  s.dH s'/\(s'.ob->s.ob/\∃ yv,(Instr.indexAt t xv iv).run E.P w=.ok yv w/\VR ν y yv):=by
 unfold nM at h;split at h
 ·rename_i k n len elem b off hint hd;cases ha:s.ask E (ai n len) with
  | none=>rw [ha] at h;cases h
  | some s1=>
   rw [ha] at h;cases YQ:bR E elem with
   | none=>rw [YQ] at h;cases h
   | some info=>
    rw [YQ] at h;cases h;obtain ⟨YG,YK⟩:=SH.eO ha;refine ⟨YG,fun ob=>⟨(YK ob).1,?_⟩⟩;obtain ⟨c,hc,rfl⟩:=VR.aF.1 hx;obtain rfl:=SV.nO hint hi;have σ:=jB (YK ob).2;refine ⟨_,?_,VR.aF.2 ⟨c,hc,rfl⟩⟩;simp [Instr.indexAt,asIntOf,run_underlying hd,Instr.sureAddr,run_sizeOf YQ,σ,di]
 ·rename_i k n elem b off len cap hint hd;cases ha:s.ask E (ai n len) with
  | none=>rw [ha] at h;cases h
  | some s1=>
   rw [ha] at h;cases YQ:bR E elem with
   | none=>rw [YQ] at h;cases h
   | some info=>
    rw [YQ] at h;cases h;obtain ⟨YG,YK⟩:=SH.eO ha;refine ⟨YG,fun ob=>⟨(YK ob).1,?_⟩⟩;obtain ⟨c,hc,_,rfl⟩:=VR.aL.1 hx;obtain rfl:=SV.nO hint hi;have σ:=jB (YK ob).2;refine ⟨_,?_,VR.aF.2 ⟨c,hc,rfl⟩⟩;simp [Instr.indexAt,asIntOf,run_underlying hd,run_sizeOf YQ,σ,di]
 ·cases h

theorem au.toList (ν:aP) (a:Array Value):au ν (a.toList.map SV.v) a.toList:=au.lits ν _

theorem mF {t:TypeId} {x i y:SV} {xv iv:Value} (h:Bn E t x i s=some (y,s')) (hx:VR ν x xv) (hi:VR ν i iv):
  s.dH s'/\(s'.ob->s.ob/\∃ yv,(Instr.index t xv iv).run E.P w=.ok yv w/\VR ν y yv):=by
 unfold Bn at h;split at h
 ·rename_i k n len elem l hint hd;cases ha:s.ask E (ai n len) with
  | none=>rw [ha] at h;cases h
  | some s1=>
   rw [ha] at h;cases YQ:bR E elem with
   | none=>rw [YQ] at h;cases h
   | some info=>
    rw [YQ] at h;simp only [WE,V9] at h;obtain ⟨YG,YK⟩:=SH.eO ha;obtain ⟨a,rfl,hal⟩:=VR.bx.1 hx;obtain rfl:=SV.nO hint hi
    have key:∀ v,(part elem a.toArray (n.toNat*info.size)).run E.P w=.ok v w->s1.ob->(Instr.index t (.agg a.toArray) (.int k n)).run E.P w=.ok v w:=by
     intro v hv ob;have σ:=jB (YK ob).2;simp [Instr.index,asIntOf,run_underlying hd,σ,run_sizeOf YQ,hv]
    split at h
    ·rename_i hag;cases hx:l[n.toNat*info.size]? with
     | none=>rw [hx] at h;cases h
     | some z=>
      rw [hx] at h;cases h;obtain ⟨v,hv,hvr⟩:=hal.get hx;exact ⟨YG,fun ob=>⟨(YK ob).1,v,key v (zS (gd hag) hv) ob,hvr⟩⟩
    ·rename_i hag;cases hle:Nat.ble (n.toNat*info.size+info.size) l.length
     ·rw [hle] at h;cases h
     ·rw [hle] at h;cases h;exact ⟨YG,fun ob=>⟨(YK ob).1,_,key _ (vo (gd hag) (run_sizeOf YQ)) ob,VR.bx.2 ⟨_,rfl,(hal.drop _).take _⟩⟩⟩
    ·cases h
 ·rename_i k n len elem cs hint hd;cases ha:s.ask E (ai n len) with
  | none=>rw [ha] at h;cases h
  | some s1=>
   rw [ha] at h;cases YQ:bR E elem with
   | none=>rw [YQ] at h;cases h
   | some info=>
    rw [YQ] at h;simp only [WE,V9] at h;obtain ⟨YG,YK⟩:=SH.eO ha;obtain rfl:=VR.ae.1 hx;obtain rfl:=SV.nO hint hi;split at h
    ·rename_i hag;cases hx:cs[n.toNat*info.size]? with
     | none=>rw [hx] at h;cases h
     | some z=>
      rw [hx] at h;cases h;refine ⟨YG,fun ob=>⟨(YK ob).1,z,?_,VR.ae.2 rfl⟩⟩;have σ:=jB (YK ob).2;simp [Instr.index,asIntOf,run_underlying hd,σ,run_sizeOf YQ,part,gd hag,hx]
    ·cases h
 ·rename_i k n b hint hd;cases ha:s.ask E (ai n b.size) with
  | none=>rw [ha] at h;cases h
  | some s1=>
   rw [ha] at h;cases h;obtain ⟨YG,YK⟩:=SH.eO ha;obtain rfl:=VR.ae.1 hx;obtain rfl:=SV.nO hint hi;refine ⟨YG,fun ob=>⟨(YK ob).1,_,?_,VR.ae.2 rfl⟩⟩;have σ:=jB (YK ob).2;have YR:n.toNat<b.size:=by omega
   have hg:b[n.toNat]?=some (b.data.getD n.toNat 0):=by
    have h1:b[n.toNat]?=some b[n.toNat]:=getElem?_pos b n.toNat YR;rw [h1];have hlt':n.toNat<b.data.size:=YR;simp only [Array.getD,hlt',YD];rfl
   simp only [Instr.index,asIntOf,Wf,Wl,V3,run_underlying hd,if_pos σ.1,hg]
 ·cases h

end
section
variable {ν:aP} {M:Own} {w0 w:World} {s s':SH} {E:Env}

inductive uF (ν:aP):Option SV->Option Value->Prop
 | none:uF ν none none
 | some {x:SV} {v:Value} (h:VR ν x v):uF ν (some x) (some v)

theorem mK {x:Option SV} {v:Option Value} {o:Option Int} (h:jZ x=some o) (hv:uF ν x v):
  (o=none/\v=none)\/∃ k n,o=some n/\v=some (.int k n):=by
 cases hv with
 | none=>cases h;exact .inl ⟨rfl,rfl⟩
 | @some x v hv=>
  unfold jZ at h;simp only at h;split at h
  ·rename_i k n hint;cases h;exact .inr ⟨k,n,rfl,by rw [SV.nO hint hv]⟩
  ·cases h

theorem run_sliceBound {P:Program} {k:IntKind} {i:Int} {y:Nat} {c:BoundsCode} (h:0<=i/\i<=y):(Instr.sliceBound (.int k i) y c).run P w=.ok i.toNat w:=by
 simp [Instr.sliceBound,asIntOf,h]

theorem il {len cap cap':Nat} {lo hi:Option Int} {lv hv:Option Value} {l h:Nat} (hh:fL E len cap lo hi s=some (l,h,s'))
  (hlo:(lo=none/\lv=none)\/∃ k n,lo=some n/\lv=some (.int k n)) (hhi:(hi=none/\hv=none)\/∃ k n,hi=some n/\hv=some (.int k n)) (Ze:cap<=cap') (isS:Bool) (hlen:len<=cap):
  s.dH s'/\(s'.ob->s.ob/\(Instr.sliceBounds isS len cap' lv hv none).run E.P w=.ok (l,h,cap') w/\l<=h/\h<=cap):=by
 unfold fL at hh;rcases hhi with ⟨rfl,rfl⟩ | ⟨kh,nh,rfl,rfl⟩
 ·rcases hlo with ⟨rfl,rfl⟩ | ⟨kl,nl,rfl,rfl⟩
  ·simp only [WE,V9] at hh;cases hh;exact ⟨.refl _,fun ob=>⟨ob,by simp [Instr.sliceBounds],WX _,hlen⟩⟩
  ·simp only [WE,V9] at hh;cases ha:s.ask E (decide (0<=nl/\nl<=len)) with
   | none=>rw [ha] at hh;cases hh
   | some s1=>
    rw [ha] at hh;cases hh;obtain ⟨YG,YK⟩:=SH.eO ha;refine ⟨YG,fun ob=>⟨(YK ob).1,?_,?_,hlen⟩⟩
    ·have hb:=Ws (YK ob).2;simp [Instr.sliceBounds,run_sliceBound hb]
    ·have hb:=Ws (YK ob).2;dsimp only;omega
 ·simp only [WE] at hh;cases ha:s.ask E (decide (0<=nh/\nh<=cap)) with
  | none=>rw [ha] at hh;cases hh
  | some s1=>
   rw [ha] at hh;simp only [Xb,V9] at hh;obtain ⟨YG,YK⟩:=SH.eO ha;rcases hlo with ⟨rfl,rfl⟩ | ⟨kl,nl,rfl,rfl⟩
   ·cases hh;refine ⟨YG,fun ob=>⟨(YK ob).1,?_,WX _,?_⟩⟩
    ·have hb:=Ws (YK ob).2;have YM:0<=nh/\nh<=(cap':Int):=⟨hb.1,by omega⟩;simp [Instr.sliceBounds,run_sliceBound YM]
    ·have hb:=Ws (YK ob).2;omega
   ·dsimp only at hh;cases YV:s1.ask E (decide (0<=nl/\nl<=nh.toNat)) with
    | none=>rw [YV] at hh;cases hh
    | some s2=>
     rw [YV] at hh;cases hh;obtain ⟨Zl,Zk⟩:=SH.eO YV;refine ⟨YG.trans Zl,fun ob=>⟨(YK (Zk ob).1).1,?_,?_,?_⟩⟩
     ·have hb:=Ws (YK (Zk ob).1).2;have YM:0<=nh/\nh<=(cap':Int):=⟨hb.1,by omega⟩;have hc:=Ws (Zk ob).2;simp [Instr.sliceBounds,run_sliceBound YM,run_sliceBound hc]
     ·have hc:=Ws (Zk ob).2;dsimp only;omega
     ·have hb:=Ws (YK (Zk ob).1).2;omega

theorem mD {t:TypeId} {x y:SV} {lo hi mx:Option SV} {xv:Value} {lv hv mv:Option Value} (h:Ah E t x lo hi mx s=some (y,s')) (hx:VR ν x xv)
  (hlo:uF ν lo lv) (hhi:uF ν hi hv) (hmx:uF ν mx mv):
  s.dH s'/\(s'.ob->s.ob/\∃ yv,(Instr.sliceAt t xv lv hv mv).run E.P w=.ok yv w/\VR ν y yv):=by
 unfold Ah at h;cases hol:jZ lo with
 | none=>rw [hol] at h;cases h
 | some ol=>
 cases hoh:jZ hi with
 | none=>rw [hol,hoh] at h;cases h
 | some oh=>
 rw [hol,hoh] at h;simp only [WE,V9] at h;have rl:=mK hol hlo;have rh:=mK hoh hhi;split at h
 ·-- strings
  rename_i b hd;cases hmx;obtain rfl:=VR.ae.1 hx;cases hb:fL E b.size b.size ol oh s with
  | none=>rw [hb] at h;cases h
  | some p=>
   obtain ⟨l,hh,s1⟩:=p;rw [hb] at h;cases h;obtain ⟨YG,YK⟩:=il (w:=w) hb rl rh (Wx _) false (Wx _);refine ⟨YG,fun ob=>⟨(YK ob).1,_,?_,VR.ae.2 rfl⟩⟩;simp only [Instr.sliceAt,Instr.slice,Wf,run_underlying hd,V3,Option.isSome_none,Xj,Yi,(YK ob).2.1,Wl]
 ·-- an array behind a pointer
  rename_i n elem i off hd;cases hmx;obtain ⟨c,hc,rfl⟩:=VR.aF.1 hx;cases hb:fL E n n ol oh s with
  | none=>rw [hb] at h;cases h
  | some p=>
   obtain ⟨l,hh,s1⟩:=p;rw [hb] at h;simp only [V9] at h;cases YQ:bR E elem with
   | none=>rw [YQ] at h;cases h
   | some info=>
    rw [YQ] at h;simp only [V9] at h;cases ZC:(n==l)
    ·rw [ZC] at h;cases h;have ZC:n≠l:=by simpa using ZC
     obtain ⟨YG,YK⟩:=il (w:=w) hb rl rh (Wx _) false (Wx _);refine ⟨YG,fun ob=>⟨(YK ob).1,_,?_,VR.aL.2 ⟨c,hc,?_,rfl⟩⟩⟩
     ·simp only [Instr.sliceAt,Wf,run_underlying hd,V3,Instr.sureAddr,Wl,(YK ob).2.1,run_sizeOf YQ,if_neg ZC,di,WR]
     ·obtain ⟨_,_,h1,h2⟩:=YK ob;simp only [WR];omega
    ·rw [ZC] at h;cases h
 ·-- a slice whose room is told
  rename_i elem i off len cap hd;cases hmx;obtain ⟨c,hc,hlen,rfl⟩:=VR.aL.1 hx;simp only [WR] at hlen;cases hb:fL E len cap ol oh s with
  | none=>rw [hb] at h;cases h
  | some p=>
   obtain ⟨l,hh,s1⟩:=p;rw [hb] at h;simp only [V9] at h;cases YQ:bR E elem with
   | none=>rw [YQ] at h;cases h
   | some info=>
    rw [YQ] at h;simp only [V9] at h;obtain ⟨YG,YK⟩:=il (w:=w) hb rl rh (Wx _) true hlen;cases Zm:s1.dec E (decide (cap=l)) with
    | mk e s2=>
     obtain ⟨Zl,Zk⟩:=SH.fX Zm;rw [Zm] at h;cases e
     ·cases h;refine ⟨YG.trans Zl,fun ob=>?_⟩;obtain ⟨Z8,he⟩:=Zk ob;obtain ⟨YU,YH,h1,h2⟩:=YK Z8;have he:=Xs he;refine ⟨YU,_,?_,VR.aL.2 ⟨c,hc,?_,rfl⟩⟩
      ·simp only [Instr.sliceAt,Instr.slice,Wf,run_underlying hd,V3,WR,YH,run_sizeOf YQ,Wl,if_neg he,Xb,di]
      ·simp only [WR];omega
     ·cases h;refine ⟨YG.trans Zl,fun ob=>?_⟩;obtain ⟨Z8,he⟩:=Zk ob;obtain ⟨YU,YH,h1,h2⟩:=YK Z8;have he:=Ws he;refine ⟨YU,_,?_,VR.aL.2 ⟨c,hc,?_,rfl⟩⟩
      ·simp only [Instr.sliceAt,Instr.slice,Wf,run_underlying hd,V3,WR,YH,run_sizeOf YQ,Wl,if_pos he]
      ·simp only [WR];omega
 ·-- a slice whose room is not told
  rename_i elem i off len hd;cases hmx;obtain ⟨c,hc,hlen,rfl⟩:=VR.aL.1 hx;simp only [W2] at hlen;cases hb:fL E len len ol oh s with
  | none=>rw [hb] at h;cases h
  | some p=>
   obtain ⟨l,hh,s1⟩:=p;rw [hb] at h;simp only [V9] at h;cases YQ:bR E elem with
   | none=>rw [YQ] at h;cases h
   | some info=>
   rw [YQ] at h;simp only [V9] at h;cases Zm:s1.dec E (l==0) with
   | mk e0 s2=>
   obtain ⟨Zl,Zk⟩:=SH.fX Zm;rw [Zm] at h;obtain ⟨YG,YK⟩:=il (w:=w) hb rl rh hlen true (Wx _);cases e0
   ·simp only [W6] at h;cases hask:s2.ask E (info.size==1&&Nat.blt l len) with
    | none=>rw [hask] at h;cases h
    | some s3=>
    rw [hask] at h;cases h;obtain ⟨ZJ,aab⟩:=SH.eO hask;refine ⟨(YG.trans Zl).trans ZJ,fun ob=>?_⟩;obtain ⟨υ,hz⟩:=aab ob;obtain ⟨Z8,hl0⟩:=Zk υ;have hl0:l≠0:=by simpa using hl0
    rw [V6] at hz;obtain ⟨hz1,hz2⟩:=hz;have hz1:info.size=1:=by simpa using hz1
    have hz2:=dw.1 hz2;obtain ⟨YU,YH,h1,h2⟩:=YK Z8;refine ⟨YU,_,?_,VR.aL.2 ⟨c,hc,?_,rfl⟩⟩
    ·simp only [Instr.sliceAt,Instr.slice,Wf,run_underlying hd,V3,W2,YH,run_sizeOf YQ,Wl];rw [if_neg (by omega)];simp only [hz1,XQ,Xb,di,show c.2 - (off+l)=c.2 - off - l from by omega]
    ·simp only [W2];omega
   ·simp only [WG] at h;cases h;refine ⟨YG.trans Zl,fun ob=>?_⟩;obtain ⟨Z8,hl0⟩:=Zk ob;obtain rfl:l=0:=by simpa using hl0
    obtain ⟨YU,YH,h1,h2⟩:=YK Z8;refine ⟨YU,_,?_,VR.aL.2 ⟨c,hc,?_,rfl⟩⟩
    ·simp only [Instr.sliceAt,Instr.slice,Wf,run_underlying hd,V3,W2,YH,run_sizeOf YQ,Wl];split
     ·rename_i e;rw [e];rfl
     ·simp [Addr.add]
    ·simp only [W2];omega
 ·-- the end of a slice
  rename_i elem i off len adv hd;cases hmx;obtain ⟨c,hc,rfl⟩:=VR.fw.1 hx;cases hb:fL E 0 0 ol oh s with
  | none=>rw [hb] at h;cases h
  | some p=>
   obtain ⟨l,hh,s1⟩:=p;rw [hb] at h;simp only [V9] at h;cases YQ:bR E elem with
   | none=>rw [YQ] at h;cases h
   | some info=>
   rw [YQ] at h;cases h;obtain ⟨YG,YK⟩:=il (w:=w) hb rl rh (WX (c.2 - off - len)) true (WX _);refine ⟨YG,fun ob=>?_⟩;obtain ⟨YU,YH,h1,h2⟩:=YK ob;obtain rfl:hh=0:=by omega
   obtain rfl:l=0:=by omega
   refine ⟨YU,_,?_,VR.fw.2 ⟨c,hc,rfl⟩⟩;simp only [Instr.sliceAt,Instr.slice,Wf,run_underlying hd,V3,YH,run_sizeOf YQ,Wl];split
   ·rename_i e;rw [e]
   ·simp [Addr.add]
 ·-- three indexes
  rename_i elem i off len cap mx hd;cases hmx with
  | some hm=>
  rename_i mv;obtain ⟨c,hc,hlen,rfl⟩:=VR.aL.1 hx;have Ze:cap.getD len<=cap.getD (c.2 - off):=by cases cap <;> simp_all
  generalize hC:cap.getD (c.2 - off)=C at hlen Ze;cases hmi:mx.int with
  | none=>rw [hmi] at h;cases h
  | some km=>
  obtain ⟨km,m⟩:=km;rw [hmi] at h;simp only [V9] at h;obtain rfl:=SV.nO hmi hm;rcases rh with ⟨rfl,_⟩ | ⟨kh,nh,rfl,rfl⟩
  ·cases h
  simp only [Option.isSome_some,fT,WG,V9] at h;cases ha:s.ask E (decide (0<=m/\m<=cap.getD len)) with
  | none=>rw [ha] at h;cases h
  | some s1=>
  rw [ha] at h;simp only [V9,yo,WE] at h;obtain ⟨hsame1,hob1⟩:=SH.eO ha;cases YV:s1.ask E (decide (0<=nh/\nh<=m.toNat)) with
  | none=>rw [YV] at h;cases h
  | some s2=>
  rw [YV] at h;simp only [V9] at h;obtain ⟨Zl,Zk⟩:=SH.eO YV
  have key:∀ (l:Nat) (s3:SH),s2.dH s3->(s3.ob->s2.ob/\l<=nh.toNat/\∀ w,(Instr.sliceBounds true len C lv (some (.int kh nh)) (some (.int km m))).run E.P w=.ok (l,nh.toNat,m.toNat) w)->
    ((bR E elem).bind fun info=>match s3.dec E (decide (m.toNat=l)) with
     | (e,s)=>bif e then some (SV.sl i off (nh.toNat - l) (some (m.toNat - l)),s) else some (SV.sl i (off+l*info.size) (nh.toNat - l) (some (m.toNat - l)),s))=some (y,s')->
    s.dH s'/\(s'.ob->s.ob/\∃ yv,(Instr.sliceAt t (.slice (some ⟨c.1,off,none⟩) len C) lv (some (.int kh nh)) (some (.int km m))).run E.P w=.ok yv w/\VR ν y yv):=by
   intro l s3 ZJ aab h;cases YQ:bR E elem with
   | none=>rw [YQ] at h;cases h
   | some info=>
   rw [YQ] at h;simp only [V9] at h;cases Zm:s3.dec E (decide (m.toNat=l)) with
   | mk e s4=>
   obtain ⟨hsame4,hob4⟩:=SH.fX Zm;rw [Zm] at h;have hs:s.dH s4:=((hsame1.trans Zl).trans ZJ).trans hsame4;cases e
   ·cases h;refine ⟨hs,fun ob=>?_⟩;obtain ⟨ob3,he⟩:=hob4 ob;obtain ⟨υ,h1,YH⟩:=aab ob3;have he:=Xs he;have hm':=Ws (hob1 (Zk υ).1).2;have hh':=Ws (Zk υ).2;refine ⟨(hob1 (Zk υ).1).1,_,?_,VR.aL.2 ⟨c,hc,?_,rfl⟩⟩
    ·simp only [Instr.sliceAt,Instr.slice,Wf,run_underlying hd,V3,WR,YH,run_sizeOf YQ,Wl,if_neg he,Xb,di]
    ·simp only [WR];omega
   ·cases h;refine ⟨hs,fun ob=>?_⟩;obtain ⟨ob3,he⟩:=hob4 ob;obtain ⟨υ,h1,YH⟩:=aab ob3;have he:=Ws he;have hm':=Ws (hob1 (Zk υ).1).2;have hh':=Ws (Zk υ).2;refine ⟨(hob1 (Zk υ).1).1,_,?_,VR.aL.2 ⟨c,hc,?_,rfl⟩⟩
    ·simp only [Instr.sliceAt,Instr.slice,Wf,run_underlying hd,V3,WR,YH,run_sizeOf YQ,Wl,if_pos he]
    ·simp only [WR];omega
  rcases rl with ⟨rfl,rfl⟩ | ⟨kl,nl,rfl,rfl⟩
  ·refine key 0 s2 (.refl _) (fun ob=>⟨ob,WX _,fun w=>?_⟩) h;have hm':0<=m/\m<=(C:Int):=by have:=Ws (hob1 (Zk ob).1).2;omega
   have hh':=Ws (Zk ob).2;simp [Instr.sliceBounds,run_sliceBound hm',run_sliceBound hh']
  ·dsimp only at h;cases ZL:s2.ask E (decide (0<=nl/\nl<=nh.toNat)) with
   | none=>rw [ZL] at h;cases h
   | some s3=>
   rw [ZL] at h;obtain ⟨ZJ,aab⟩:=SH.eO ZL;refine key nl.toNat s3 ZJ (fun ob=>?_) h;have hl':=Ws (aab ob).2;refine ⟨(aab ob).1,by omega,fun w=>?_⟩;have hm':0<=m/\m<=(C:Int):=by have:=Ws (hob1 (Zk (aab ob).1).1).2;omega
   have hh':=Ws (Zk (aab ob).1).2;simp [Instr.sliceBounds,run_sliceBound hm',run_sliceBound hh',run_sliceBound hl']
 ·cases h

theorem uq {t:TypeId} {x:SV} {L:List (SV × SH)} {lo hi mx:Option SV} {xv:Value} {lv hv mv:Option Value} (h:pE E t x lo hi mx s=some L) (hx:VR ν x xv)
  (hlo:uF ν lo lv) (hhi:uF ν hi hv) (hmx:uF ν mx mv):
  ∃ p∈L,s.dH p.2/\(p.2.ob->s.ob/\∃ yv,(Instr.sliceAt t xv lv hv mv).run E.P w=.ok yv w/\VR ν p.1 yv):=by
 unfold pE at h;cases hol:jZ lo with
 | none=>rw [hol] at h;cases h
 | some ol=>
 cases hoh:jZ hi with
 | none=>rw [hol,hoh] at h;cases h
 | some oh=>
 rw [hol,hoh] at h;simp only [WE,V9] at h;have rl:=mK hol hlo;have rh:=mK hoh hhi;split at h
 ·rename_i elem i off len hd;cases hmx;obtain ⟨c,hc,hlen,rfl⟩:=VR.aL.1 hx;simp only [W2] at hlen;cases hb:fL E len len ol oh s with
  | none=>rw [hb] at h;cases h
  | some p=>
   obtain ⟨l,hh,s1⟩:=p;rw [hb] at h;simp only [V9] at h;cases YQ:bR E elem with
   | none=>rw [YQ] at h;cases h
   | some info=>
   rw [YQ] at h;simp only [V9] at h;cases hz:((info.size==1||off==0)&&Nat.beq l len&&Nat.beq hh len)
   ·rw [hz] at h;cases h
   rw [hz] at h;cases h;rw [V6,V6] at hz;obtain rfl:=WK hz.1.2;obtain rfl:=WK hz.2;obtain ⟨YG,YK⟩:=il (w:=w) hb rl rh hlen true (Wx _);refine ⟨_,Wk.2 rfl,YG,fun ob=>?_⟩;obtain ⟨YU,YH,h1,h2⟩:=YK ob;refine ⟨YU,_,?_,VR.fw.2 ⟨c,hc,rfl⟩⟩;simp only [Instr.sliceAt,Instr.slice,Wf,run_underlying hd,V3,W2,YH,run_sizeOf YQ,Wl];by_cases Ze:c.2 - off=hh
   ·rw [if_pos Ze,if_pos Ze];simp
   ·rw [if_neg (by omega),if_neg Ze];simp only [Xb,di,Nat.sub_self]
 ·cases h

theorem yF {t:TypeId} {x:SV} {L:List (SV × SH)} {lo hi mx:Option SV} (h:pE E t x lo hi mx s=some L):∃ p i o l a,L=[p]/\p.1=.fin i o l a:=by
 unfold pE at h;obtain ⟨ol,_,h⟩:=Wh.1 h;obtain ⟨oh,_,h⟩:=Wh.1 h;split at h
 ·obtain ⟨p,_,h⟩:=Wh.1 h;obtain ⟨l,hh,s1⟩:=p;obtain ⟨info,_,h⟩:=Wh.1 h;revert h;generalize (_&&_:Bool)=b;cases b
  ·intro h;cases h
  ·intro h;cases h;exact ⟨_,_,_,_,_,rfl,rfl⟩
 ·cases h

end
section
variable {ν:aP} {M:Own} {w0 w:World} {s s':SH} {E:Env}

theorem mX (zs:List Value):∀ (ys:List Value) (off k:Nat),
  (zs.zipIdx k).foldl (fun (cs:Array Value) p=>cs.setIfInBounds (off+p.2) p.1) ys.toArray=(dm ys (off+k) zs).toArray:=by
 induction zs with
 | nil=>intros;rfl
 | cons z zs ih=>
  intro ys off k;simp only [List.zipIdx_cons,X4,List.setIfInBounds_toArray,dm];rw [ih];rfl

theorem Ej (v:Value) (off:Nat) (ys:List Value):
  v.cells.zipIdx.foldl (fun (cs:Array Value) (p:Value × Nat)=>cs.setIfInBounds (off+p.2) p.1) ys.toArray=(dm ys off v.cells.toList).toArray:=by
 rw [<- YB,Array.toList_zipIdx];exact mX _ ys off 0

inductive nQ (ν:aP):List (Nat × SV)->List (Nat × Value)->Prop
 | nil:nQ ν [] []
 | cons {i:Nat} {x:SV} {v:Value} {l:List (Nat × SV)} {m:List (Nat × Value)} (h:VR ν x v) (t:nQ ν l m):nQ ν ((i,x)::l) ((i,v)::m)

theorem ug {place:Nat->Option (Nat × Nat)} {parts:List (Nat × SV)} {pv:List (Nat × Value)} (hp:nQ ν parts pv):
  ∀ {cells out:List SV} {ys:List Value},pG place cells parts=some out->au ν cells ys->∃ zs:List Value,Instr.fill place ys.toArray pv=some zs.toArray/\au ν out zs:=by
 induction hp with
 | nil=>intro cells out ys h hv;cases h;exact ⟨ys,rfl,hv⟩
 | @cons i x v l m hx _ ih=>
  intro cells out ys h hv;unfold pG at h;split at h
  ·rename_i off size lc hpl hc;cases hb:(lc.length==size&&Nat.ble (off+lc.length) cells.length)
   ·rw [hb] at h;cases h
   ·rw [hb] at h;rw [V6] at hb;have h1:lc.length=size:=by simpa using hb.1
    have h2:=Wu hb.2;have YX:=SV.lH hc hx;have hlen:=YX.length;have Ω:=hv.length;have Zb:v.cells.size=size:=by rw [<- h1,<- hlen];simp
    obtain ⟨zs,hz,hzv⟩:=ih h (hv.aQ YX off);refine ⟨zs,?_,hzv⟩;simp only [Instr.fill,hpl];have hle:¬ (off+v.cells.size>ys.toArray.size):=by simp;omega
    rw [if_neg (by simp [Zb] at hle ⊢;omega)];have:=Ej v off ys;rw [this];exact hz
  ·cases h

theorem yn {fields:List Field}:∀ {l:List (Nat × Nat)},placesOf E fields=some l->
  (fields.mapM fun f=>do pure (f.offset,<- sizeOf f.type):Sem (List (Nat × Nat))).run E.P w=.ok l w:=by
 induction fields with
 | nil=>intro l h;cases h;rfl
 | cons f fs ih=>
  intro l h;unfold placesOf at h;split at h
  ·rename_i info l' hi hl;cases h;simp only [List.mapM_cons,Wf,run_sizeOf hi,V3,Wl,ih hl]
  ·cases h

theorem vU {t:TypeId} {ps:List (Nat × SV)} {pv:List (Nat × Value)} {y:SV} (h:BD E t ps=some y) (hp:nQ ν ps pv):
  ∃ yv,(Instr.build t pv.toArray).run E.P w=.ok yv w/\VR ν y yv:=by
 unfold BD at h;cases hi:bR E t with
 | none=>rw [hi] at h;cases h
 | some info=>
 rw [hi] at h;simp only [WE,V9] at h;cases hz:info.zero with
 | none=>rw [hz] at h;cases h
 | some z=>
 rw [hz] at h;simp only [V9] at h;split at h
 ·rename_i fields hd;cases hpl:placesOf E fields.toList with
  | none=>rw [hpl] at h;cases h
  | some pl=>
  rw [hpl] at h;simp only [V9] at h;cases hf:pG (pl[·]?) (z.cells.toList.map .v) ps with
  | none=>rw [hf] at h;cases h
  | some out=>
  rw [hf] at h;cases h;obtain ⟨zs,Ξ,hv⟩:=ug hp hf (au.lits ν z.cells.toList);refine ⟨_,?_,VR.bx.2 ⟨zs,rfl,hv⟩⟩
  have hm:(fields.mapM fun f=>do pure (f.offset,<- sizeOf f.type):Sem (Array (Nat × Nat))).run E.P w=.ok pl.toArray w:=by
   rw [Array.mapM_eq_mapM_toList];simp only [Sem.run_map,yn hpl,V3]
  simp only [Instr.build,Wf,dC hi hz,V3,run_underlying hd,hm];have:(fun x:Nat=>pl.toArray[x]?)=(fun x:Nat=>pl[x]?):=by funext x;simp
  simp only [this,Array.toArray_toList] at Ξ ⊢;rw [Ξ];rfl
 ·rename_i n elem hd;cases hei:bR E elem with
  | none=>rw [hei] at h;cases h
  | some ei=>
  rw [hei] at h;simp only [V9] at h;cases hf:pG (fun i=>some (i*ei.size,ei.size)) (z.cells.toList.map .v) ps with
  | none=>rw [hf] at h;cases h
  | some out=>
  rw [hf] at h;cases h;obtain ⟨zs,Ξ,hv⟩:=ug hp hf (au.lits ν z.cells.toList);refine ⟨_,?_,VR.bx.2 ⟨zs,rfl,hv⟩⟩;simp only [Instr.build,Wf,dC hi hz,V3,run_underlying hd,run_sizeOf hei];simp only [Array.toArray_toList] at Ξ ⊢;rw [Ξ];rfl
 ·cases h

end
section
variable {ν:aP} {M:Own} {w0 w:World} {s s':SH} {E:Env}

theorem ng (z:List Value) (n:Nat):(List.range (n*z.length)).map (fun k=>z.toArray[k % z.length]!)=(List.replicate n z).flatten:=by
 induction n with
 | zero=>simp
 | succ n ih=>
  have e:(n+1)*z.length=z.length+n*z.length:=by rw [Nat.succ_mul,Nat.add_comm]
  rw [e,List.range_add,Wq,List.replicate_succ,List.flatten_cons,<- ih];congr 1
  ·apply List.ext_getElem
   ·simp
   ·intro k h1 h2;simp at h1;simp [Yb h1,h1]
  ·simp [WI,Function.comp_def,Nat.add_mod_left]

theorem yj {info:TypeInfo} {n:Nat} {l:List SV} (h:qT info n=some l):∃ z,info.zero=some z/\z.cells.size=info.size/\
  au ν l ((List.range (n*info.size)).map (fun k=>z.cells[k % z.cells.size]!)):=by
 unfold qT at h;cases hz:info.zero with
 | none=>rw [hz] at h;cases h
 | some z=>
  rw [hz] at h;cases hs:(z.cells.size==info.size)
  ·simp only [hs] at h;cases h
  ·simp only [hs] at h;cases h;have hs:z.cells.size=info.size:=by simpa using hs
   refine ⟨z,rfl,hs,?_⟩;have:=ng z.cells.toList n;simp only [Array.length_toList,Array.toArray_toList] at this;rw [<- hs,this];induction n with
   | zero=>simpa using au.nil
   | succ n ih=>
    simp only [List.replicate_succ,List.flatten_cons];exact (au.lits ν _).append (ih (ng z.cells.toList n |>.symm ▸ by simp))

end
section
variable {ν:aP} {M:Own} {w0 w:World} {s s':SH} {E:Env}

theorem iR (n:Nat) (f:Nat->Value):(Array.range n).map f=((List.range n).map f).toArray:=by
 rw [<- List.toArray_range,List.map_toArray]

theorem tU {t:TypeId} {len:Nat} {ps:List (Nat × SV)} {pv:List (Nat × Value)} {y:SV} (h:lZ E t len ps s=some (y,s')) (hr:HR ν M w0 s w) (hp:nQ ν ps pv):
  (s'.ob=s.ob)/\c7 E.P (Instr.buildSlice t len pv.toArray) ν M w0 w y s':=by
 unfold lZ at h;split at h
 ·rename_i elem hd;cases hi:bR E elem with
  | none=>rw [hi] at h;cases h
  | some info=>
  rw [hi] at h;simp only [WE,V9] at h;cases hg:fT (Nat.ble (len*info.size) 16777216) with
  | none=>rw [hg] at h;cases h
  | some u=>
  rw [hg] at h;simp only [V9] at h;have hg:=Wu (kp hg);cases hz:qT info len with
  | none=>rw [hz] at h;cases h
  | some zs=>
  rw [hz] at h;simp only [V9] at h;obtain ⟨z,hz0,hzs,hvr⟩:=yj (ν:=ν) hz;cases hf:pG (fun i=>some (i*info.size,info.size)) zs ps with
  | none=>rw [hf] at h;cases h
  | some l=>
  rw [hf] at h;simp only [V9] at h;obtain ⟨ys,Ξ,hlv⟩:=ug hp hf hvr;cases hn:eX (.row l elem (0,0) none) s with
  | none=>rw [hn] at h;cases h
  | some p=>
  obtain ⟨i,s1⟩:=p;rw [hn] at h;cases h
  obtain ⟨YK,ν',hle,hi',YY⟩:=gx hn hr 0 (r:=.cells ys.toArray elem)
   (fun ν' hle _=>⟨ys,[],by rw [lP,W4],hlv.mono hle,by simp only [si,W4];exact hlv.length⟩)
  refine ⟨YK,ν',_,_,hle,?_,VR.aL.2 ⟨_,hi',by simp,rfl⟩,YY⟩;simp only [Instr.buildSlice,Wf,run_underlying hd,V3,run_sizeOf hi];rw [if_neg (by omega)];by_cases hn0:len*info.size=0
  ·simp only [hn0,Yq,Wf,Wl,V3,iR,List.range_zero,List.map_nil] at Ξ ⊢;rw [Ξ];simp [newRow]
  ·simp only [if_neg hn0,Wf,dC hi hz0,V3,Wl,iR];rw [Ξ];simp [newRow]
 ·cases h

theorem Cj {x:SV} {n:Nat} {y:Value} (h:GX x=some n) (hv:VR ν x y):(Builtin.lenOf y).run E.P w=.ok n w:=by
 unfold GX at h;split at h
 ·cases h;obtain rfl:=VR.ae.1 hv;rfl
 ·cases h;obtain rfl:=VR.ae.1 hv;rfl
 ·cases h;obtain ⟨b,_,_,rfl⟩:=VR.aL.1 hv;rfl
 ·cases h;obtain ⟨b,_,rfl⟩:=VR.fw.1 hv;rfl
 ·cases h

theorem vx {size n:Nat} {x:SV} {l:List SV} {y:Value} (h:ic size n x s=some l) (hr:HR ν M w0 s w) (hv:VR ν x y):
  ∃ ys:List Value,(Builtin.firstCells size n y).run E.P w=.ok ys.toArray w/\au ν l ys:=by
 unfold ic at h;split at h
 ·cases h;obtain rfl:=VR.ae.1 hv;exact ⟨[],rfl,au.nil⟩
 ·rename_i b;cases h;obtain rfl:=VR.ae.1 hv;refine ⟨(b.extract 0 n).data.toList.map fun c=>.int .u8 c.toNat,?_,?_⟩
  ·simp only [Builtin.firstCells,Wl];congr 1;apply Array.ext';simp
  ·have:=au.lits ν ((b.extract 0 n).data.toList.map fun c=>Value.int .u8 c.toNat);rwa [WI] at this
 ·obtain ⟨b,_,rfl⟩:=VR.fw.1 hv;cases hn:(n==0)
  ·rw [hn] at h;cases h
  ·rw [hn] at h;cases h;obtain rfl:n=0:=by simpa using hn
   refine ⟨[],?_,au.nil⟩;simp [Builtin.firstCells,loadCells,loadCellsFrom]
 ·rename_i i off len cap;obtain ⟨b,hb,_,rfl⟩:=VR.aL.1 hv;split at h
  ·rename_i xs e fz ext own hl;cases hle:Nat.ble (off+n*size) xs.length
   ·rw [hle] at h;cases h
   ·rw [hle] at h;cases h;have hle:=Wu hle;obtain ⟨_,_,b',o,YM,ho,YO,_⟩:=hr.look hl;rw [hb] at YM;cases YM;obtain ⟨ys,rest,rfl,ZB,_⟩:=YO;have hlen:=ZB.length;refine ⟨(ys.drop off).take (n*size),?_,(ZB.drop off).take _⟩;refine run_loadCells ?_ (by simp;omega);intro k hk;rw [cQ ho,WO,if_pos hk,W7];have:off+k<ys.length:=by omega
    simp [WC this]
  ·cases h
 ·cases h

theorem u9 (Ψ:Nat):∀ (r c:Nat),c<=Ψ+(Ψ+768) / 4->Builtin.growBy Ψ r c<=Ψ+(Ψ+768) / 4
 | 0,c,h=>h
 | r+1,c,h=>by
  unfold Builtin.growBy
  split
  ·exact h
  ·exact u9 Ψ r _ (by omega)

theorem nextslicecap_le {ZI cap:Nat} (h:cap<ZI):Builtin.nextslicecap ZI cap<=2*ZI+1024:=by
 unfold Builtin.nextslicecap;split
 ·omega
 ·split
  ·omega
  ·exact Wj (u9 _ _ _ (by omega)) (by omega)

theorem j7 (z:Array Value) (n:Nat):(Builtin.zeroCells z n).size=n*z.size:=by simp [Builtin.zeroCells]

theorem run_append_room {st xt elem:TypeId} {d:TypeDesc} {info:TypeInfo} {base:Option Addr} {len cap n:Nat} {yv:Value} {new:List Value} {w':World} {ty:TypeId}
  (Zs:bT E st=some (.slice elem)) (hxt:bT E xt=some d) (hd:∀ k,d≠.int k) (hi:bR E elem=some info)
  (hn:(Builtin.lenOf yv).run E.P w=.ok n w) (Z2:(Builtin.firstCells info.size n yv).run E.P w=.ok new.toArray w)
  (YP:len+n<=cap) (hs:match base with | some a=>(storeCells (a.add (len*info.size)) new).run E.P w=.ok () w' | none=>w'=w):
  (Builtin.append_ #[st,xt] ty #[.slice base len cap,yv]).run E.P w=.ok (.slice base (len+n) cap) w':=by
 have a0:(#[st,xt]:Array TypeId)[0]?=some st:=rfl;have a1:(#[st,xt]:Array TypeId)[1]?=some xt:=rfl;have b0:(#[.slice base len cap,yv]:Array Value)[0]?=some (.slice base len cap):=rfl;have b1:(#[.slice base len cap,yv]:Array Value)[1]?=some yv:=rfl;have hz:(match d with | .int _=>true | _=>false)=false:=by cases d <;> first | rfl | exact absurd rfl (hd _)
 simp only [Builtin.append_,a0,a1,b0,b1,Wf,run_underlying Zs,run_underlying hxt,V3,run_sizeOf hi,Wl];simp only [Xj,Yi,Wf,hn,V3,W1,Yq,if_pos YP,Z2];cases base with
 | none=>simp only at hs;rw [hs];rfl
 | some a=>simp only at hs;simp only [Wf,XN,hs,V3,Wl]

theorem run_append_grow {st xt elem:TypeId} {d:TypeDesc} {info:TypeInfo} {base:Option Addr} {len cap n:Nat} {yv z:Value} {old new:List Value} {ty:TypeId}
  (Zs:bT E st=some (.slice elem)) (hxt:bT E xt=some d) (hd:∀ k,d≠.int k) (hi:bR E elem=some info) (hz:info.zero=some z) (hzs:z.cells.size=info.size) (ZH:info.bytes≠0)
  (hn:(Builtin.lenOf yv).run E.P w=.ok n w) (Z2:∀ k,(Builtin.firstCells info.size n yv).run E.P { w with drawn:=k }=.ok new.toArray { w with drawn:=k })
  (hold:∀ k,(Builtin.firstCells info.size len (.slice base len cap)).run E.P { w with drawn:=k }=.ok old.toArray { w with drawn:=k })
  (YP:cap<len+n) (hlim:(2*(len+n)+1024)*info.bytes<=2 ^ 47):
  ∃ YZ k,len+n<=YZ/\∃ rest:List Value,rest.length=(YZ - (len+n))*info.size/\
   (Builtin.append_ #[st,xt] ty #[.slice base len cap,yv]).run E.P w=.ok (.slice (some ⟨w.heap.size,0,none⟩) (len+n) YZ) { w with drawn:=k,heap:=w.heap.push (.cells (old++new++rest).toArray elem) }:=by
 have a0:(#[st,xt]:Array TypeId)[0]?=some st:=rfl;have a1:(#[st,xt]:Array TypeId)[1]?=some xt:=rfl;have b0:(#[.slice base len cap,yv]:Array Value)[0]?=some (.slice base len cap):=rfl;have b1:(#[.slice base len cap,yv]:Array Value)[1]?=some yv:=rfl;have hzd:(match d with | .int _=>true | _=>false)=false:=by cases d <;> first | rfl | exact absurd rfl (hd _)
 have hnr:¬ (len+n<=cap):=by omega
 have hnc:¬ (Builtin.nextslicecap (len+n) cap*info.bytes>2 ^ 48):=by
  have h1:=nextslicecap_le YP;have h2:=Xu info.bytes h1;omega
 have hq:(Question.appendCap (len+n) cap elem).forced=false:=rfl;refine ⟨(Question.appendCap (len+n) cap elem).cut (w.tape w.drawn (.appendCap (len+n) cap elem)),w.drawn+1,by simp [Question.cut],?_⟩;generalize hc:(Question.appendCap (len+n) cap elem).cut (w.tape w.drawn (.appendCap (len+n) cap elem))=YZ;refine ⟨(Builtin.zeroCells z.cells (YZ - (len+n))).toList,by simp [j7,hzs],?_⟩;simp only [Builtin.append_,a0,a1,b0,b1,Wf,run_underlying Zs,run_underlying hxt,V3,run_sizeOf hi,Wl]
 simp only [Xj,Yi,Wf,hn,V3,W1,Yq,if_neg hnr,run_typeInfo hi,ZH,false_or,and_false,if_neg hnc,run_choose,hq,hc,run_askRoom,hold,Z2,
  dC hi hz,newRow,Yn,Wl]
 have e:old.toArray++new.toArray++Builtin.zeroCells z.cells (YZ - (len+n))=(old++new++(Builtin.zeroCells z.cells (YZ - (len+n))).toList).toArray:=by
  apply Array.ext';simp
 rw [e]

structure lq (E:Env) (st xt elem:TypeId) (info:TypeInfo) (n:Nat) (yv:Value) (new:List Value) (w:World):Prop where
 room:∀ {base:Option Addr} {len cap:Nat} {w':World} {ty:TypeId},len+n<=cap->(match base with | some a=>(storeCells (a.add (len*info.size)) new).run E.P w=.ok () w' | none=>w'=w)->
  (Builtin.append_ #[st,xt] ty #[.slice base len cap,yv]).run E.P w=.ok (.slice base (len+n) cap) w'
 grow:∀ {base:Option Addr} {len cap:Nat} {z:Value} {old:List Value} {ty:TypeId},info.zero=some z->z.cells.size=info.size->info.bytes≠0->
  (∀ k,(Builtin.firstCells info.size len (.slice base len cap)).run E.P { w with drawn:=k }=.ok old.toArray { w with drawn:=k })->cap<len+n->(2*(len+n)+1024)*info.bytes<=2 ^ 47->
  ∃ YZ k,len+n<=YZ/\∃ rest:List Value,rest.length=(YZ - (len+n))*info.size/\
   (Builtin.append_ #[st,xt] ty #[.slice base len cap,yv]).run E.P w=.ok (.slice (some ⟨w.heap.size,0,none⟩) (len+n) YZ) { w with drawn:=k,heap:=w.heap.push (.cells (old++new++rest).toArray elem) }

theorem lq.of {st xt elem:TypeId} {d:TypeDesc} {info:TypeInfo} {n:Nat} {yv:Value} {new:List Value} (Zs:bT E st=some (.slice elem)) (hxt:bT E xt=some d) (hd:∀ k,d≠.int k) (hi:bR E elem=some info)
  (hn:(Builtin.lenOf yv).run E.P w=.ok n w) (Z2:∀ k,(Builtin.firstCells info.size n yv).run E.P { w with drawn:=k }=.ok new.toArray { w with drawn:=k }):lq E st xt elem info n yv new w:=
 ⟨fun h1 h2=>run_append_room Zs hxt hd hi hn (Z2 w.drawn) h1 h2,fun h1 h2 h3 h4 h5 h6=>run_append_grow Zs hxt hd hi h1 h2 h3 hn Z2 h4 h5 h6⟩

theorem lq.qT {st xt elem:TypeId} {ik k:IntKind} {info:TypeInfo} {z:Value} {m:Int} (Zs:bT E st=some (.slice elem)) (hxt:bT E xt=some (.int ik)) (hi:bR E elem=some info)
  (hz:info.zero=some z) (hzs:z.cells.size=info.size) (hm:0<=m/\m<=2 ^ 40) (hb:m.toNat*info.bytes<=2 ^ 47):lq E st xt elem info m.toNat (.int k m) ((List.range (m.toNat*z.cells.size)).map fun i=>z.cells[i % z.cells.size]!) w:=by
 have hm2:m<=1099511627776:=hm.2;have hw:IntKind.i64.wrap m=m:=by rw [IntKind.wrap_i64];omega
 have hneg:¬ m<0:=by omega
 have hbig:¬ (m*(info.bytes:Int)>2 ^ 48):=by
  have YM:m.toNat*info.bytes<=140737488355328:=hb;have e:m*(info.bytes:Int)=((m.toNat*info.bytes:Nat):Int):=by rw [Int.natCast_mul,Int.toNat_of_nonneg hm.1]
  rw [e];show ¬ (281474976710656:Int)<_;omega
 have hzc:Builtin.zeroCells z.cells m.toNat=((List.range (m.toNat*z.cells.size)).map fun i=>z.cells[i % z.cells.size]!).toArray:=iR _ _;have a0:(#[st,xt]:Array TypeId)[0]?=some st:=rfl;have a1:(#[st,xt]:Array TypeId)[1]?=some xt:=rfl
 have happ:∀ w:World,(if m.toNat*info.size=0 then (pure #[]:Sem (Array Value)) else do pure (Builtin.zeroCells (<- zeroValue elem).cells m.toNat)).run E.P w=.ok ((List.range (m.toNat*z.cells.size)).map fun i=>z.cells[i % z.cells.size]!).toArray w:=by
  intro w;by_cases h0:m.toNat*info.size=0
  ·rw [if_pos h0,hzs,h0];rfl
  ·rw [if_neg h0];simp only [Wf,dC hi hz,V3,Wl,hzc]
 constructor
 ·intro base len cap w' ty YP hs;have b0:(#[.slice base len cap,.int k m]:Array Value)[0]?=some (.slice base len cap):=rfl;have b1:(#[.slice base len cap,.int k m]:Array Value)[1]?=some (.int k m):=rfl;simp only [Builtin.append_,a0,a1,b0,b1,Wf,run_underlying Zs,run_underlying hxt,V3,run_sizeOf hi,Wl];simp only [Yq,asInt,asIntOf,Wf,Wl,V3,hw,if_neg hneg,run_typeInfo hi,if_neg hbig,Wy,Xj,Yi,if_pos YP,happ];cases base with
  | none=>simp only at hs;rw [hs];rfl
  | some a=>simp only at hs;simp only [Wf,XN,hs,V3,Wl]
 ·intro base len cap z' old ty hz' _ ZH hold YP hlim;rw [hz] at hz';cases hz';have b0:(#[.slice base len cap,.int k m]:Array Value)[0]?=some (.slice base len cap):=rfl;have b1:(#[.slice base len cap,.int k m]:Array Value)[1]?=some (.int k m):=rfl;have hnr:¬ (len+m.toNat<=cap):=by omega
  have hnc:¬ (Builtin.nextslicecap (len+m.toNat) cap*info.bytes>2 ^ 48):=by
   have h1:=nextslicecap_le YP;have h2:=Xu info.bytes h1;omega
  have hmax:¬ (((len+m.toNat:Nat):Int)>IntKind.i64.max/\(True\/info.bytes=0)):=by
   have h1:(2*(len+m.toNat)+1024)*1<=(2*(len+m.toNat)+1024)*info.bytes:=Nat.mul_le_mul_left _ (Nat.pos_of_ne_zero ZH);have h2:(2*(len+m.toNat)+1024)*info.bytes<=140737488355328:=hlim;have h3:IntKind.i64.max=9223372036854775807:=rfl;rw [h3];omega
  have hq:(Question.appendCap (len+m.toNat) cap elem).forced=false:=rfl;refine ⟨(Question.appendCap (len+m.toNat) cap elem).cut (w.tape w.drawn (.appendCap (len+m.toNat) cap elem)),w.drawn+1,by simp [Question.cut],?_⟩;generalize hc:(Question.appendCap (len+m.toNat) cap elem).cut (w.tape w.drawn (.appendCap (len+m.toNat) cap elem))=YZ;refine ⟨(Builtin.zeroCells z.cells (YZ - (len+m.toNat))).toList,by simp [j7,hzs],?_⟩;simp only [Builtin.append_,a0,a1,b0,b1,Wf,run_underlying Zs,run_underlying hxt,V3,run_sizeOf hi,Wl]
  simp only [Yq,asInt,asIntOf,Wf,Wl,V3,hw,if_neg hneg,run_typeInfo hi,if_neg hbig,Wy,Xj,Yi,if_neg hnr,if_neg hmax,if_neg hnc,run_choose,hq,hc,run_askRoom,hold,happ,
   dC hi hz,newRow,Yn]
  have e:old.toArray++((List.range (m.toNat*z.cells.size)).map fun i=>z.cells[i % z.cells.size]!).toArray++Builtin.zeroCells z.cells (YZ - (len+m.toNat))=
    (old++((List.range (m.toNat*z.cells.size)).map fun i=>z.cells[i % z.cells.size]!)++(Builtin.zeroCells z.cells (YZ - (len+m.toNat))).toList).toArray:=by
   apply Array.ext';simp
  rw [e]

end
section
variable {ν:aP} {M:Own} {w0 w:World} {s s':SH} {E:Env}

theorem HR.Ci {w':World} (h:HR ν M w0 s w) (hr:s.room=true) {o:SO} {r:Obj} {B:Nat} (c:Nat)
  (hB:w0.heap.size<=B\/M B) (hun:∀ j,j<2 ^ s.d->s.H.get j≠none->∀ b,ν j=some b->b.1≠B)
  (ho:OR (ν.put s.nx (B,c)) s.nx o r) (hw:w'.heap[B]?=some r) (hk:∀ k,k≠B->w'.heap[k]?=w.heap[k]?) (Zb:w0.heap.size<=w'.heap.size)
  (hos:w'.os=w.os) (ht:w'.tape=w.tape) (hout:w'.output=w.output):
  ν.Le (ν.put s.nx (B,c))/\HR (ν.put s.nx (B,c)) M w0 (s.new o) w':=by
 have hnx:ν s.nx=none:=h.fresh _ (Wx _);have YR:s.nx<2 ^ s.d:=dw.1 hr;have hle:=aP.lz hnx (B,c);have Zo:∀ j,j≠s.nx->(ν.put s.nx (B,c)) j=ν j:=fun j e=>by simp [aP.put,e]
 refine ⟨hle,h.full.set _ _,?_,?_,?_,?_,Zb,?_,?_,hos.trans h.os,ht.trans h.tape,hout.trans h.output⟩
 ·intro i hi;have hi:2 ^ s.d<=i:=hi;rw [Zo i (by omega)];exact h.dom i hi
 ·intro i hi;have hi:s.nx+1<=i:=hi;rw [Zo i (by omega)];exact h.fresh i (by omega)
 ·intro j hj y hy;have hj:j<2 ^ s.d:=hj;have hy:(s.H.set s.nx (some (o,true))).get j=some y:=hy;rw [Tr.dU h.full YR hj] at hy;by_cases e:j=s.nx
  ·subst e;rw [if_pos rfl] at hy;cases hy;exact ⟨(B,c),r,aP.bM _ _ _,hw,ho,fun _=>hB⟩
  ·rw [if_neg e] at hy;obtain ⟨b,o',hb,ZN,YY,Y6⟩:=h.obj j hj y hy;have YI:=hun j hj (by rw [hy];simp) b hb;exact ⟨b,o',by rw [Zo j e];exact hb,by rw [hk _ YI];exact ZN,YY.mono hle,Y6⟩
 ·intro i j hi hj hgi hgj b b' hb YM e;have hi:i<2 ^ s.d:=hi;have hj:j<2 ^ s.d:=hj
  have g:∀ u,u<2 ^ s.d->u≠s.nx->(s.new o).H.get u≠none->s.H.get u≠none:=by
   intro u hu ne hn;have hn:(s.H.set s.nx (some (o,true))).get u≠none:=hn;rwa [Tr.dU h.full YR hu,if_neg ne] at hn
  by_cases ei:i=s.nx <;> by_cases ej:j=s.nx
  ·rw [ei,ej]
  ·subst ei;rw [aP.bM] at hb;cases hb;rw [Zo j ej] at YM;exact absurd e.symm (hun j hj (g j hj ej hgj) b' YM)
  ·subst ej;rw [aP.bM] at YM;cases YM;rw [Zo i ei] at hb;exact absurd e (hun i hi (g i hi ei hgi) b hb)
  ·rw [Zo i ei] at hb;rw [Zo j ej] at YM;exact h.inj i j hi hj (g i hi ei hgi) (g j hj ej hgj) b b' hb YM e
 ·intro b hb hM;by_cases e:b=B
  ·subst e;rcases hB with h1 | h1
   ·omega
   ·exact absurd h1 hM
  ·rw [hk b e];exact h.frame b hb hM
 ·intro j hj y hy hf b hb;have hj:j<2 ^ s.d:=hj;have hy:(s.H.set s.nx (some (o,true))).get j=some y:=hy;rw [Tr.dU h.full YR hj] at hy;by_cases e:j=s.nx
  ·rw [if_pos e] at hy;cases hy;cases hf
  ·rw [if_neg e] at hy;rw [Zo j e] at hb;exact h.ro j hj y hy hf b hb

theorem HR.move {w':World} (h:HR ν M w0 s w) {i:Nat} {x:SO} (e:s.look i=some (x,true)) {b:Nat × Nat} (hb:ν i=some b) (YP:(s.drop i).room=true) {o:SO} {r:Obj}
  (ho:OR (ν.put s.nx b) s.nx o r) (hw:w'.heap=w.heap.setIfInBounds b.1 r) (hos:w'.os=w.os) (ht:w'.tape=w.tape) (hout:w'.output=w.output):
  ν.Le (ν.put s.nx b)/\HR (ν.put s.nx b) M w0 ((s.drop i).new o) w':=by
 obtain ⟨hi,hg,b',o',YM,ZN,_,Y6⟩:=h.look e;obtain rfl:b=b':=by rw [hb] at YM;exact Option.some.inj YM
 have YR:b.1<w.heap.size:=(VY.1 ZN).1;refine (h.drop hi).Ci (w':=w') (B:=b.1) (r:=r) YP b.2 (Y6 rfl) ?_ ho (by rw [hw];simp [YR]) ?_ (by rw [hw];simpa using h.size) hos ht hout
 ·intro j hj hn c hc ec;have hn:(s.H.set i none).get j≠none:=hn;have hj:j<2 ^ s.d:=hj;rw [Tr.dU h.full hi hj] at hn;by_cases eji:j=i
  ·rw [if_pos eji] at hn;exact hn rfl
  ·rw [if_neg eji] at hn;exact eji (h.inj j i hj hi hn (by rw [hg];simp) c b hc hb ec)
 ·intro k hk;rw [hw,WN,if_neg (fun e=>hk e.symm)]

theorem pw {st xt elem:TypeId} {info:TypeInfo} {base:Option Addr} {len cap n ZI:Nat} {yv:Value} {old new:List Value} {oldS xP:List SV} {y:SV} {ty:TypeId}
  (h:qC info elem oldS xP ZI s=some (y,s')) (hneed:ZI=len+n) (hr:HR ν M w0 s w)
  (A:lq E st xt elem info n yv new w)
  (hold:∀ k,(Builtin.firstCells info.size len (.slice base len cap)).run E.P { w with drawn:=k }=.ok old.toArray { w with drawn:=k })
  (ho:au ν oldS old) (hnw:au ν xP new) (hol:old.length=len*info.size) (ZC:new.length=n*info.size) (YP:cap<len+n):
  (s'.ob=s.ob)/\c7 E.P (Builtin.append_ #[st,xt] ty #[.slice base len cap,yv]) ν M w0 w y s':=by
 unfold qC at h;cases hz:info.zero with
 | none=>rw [hz] at h;cases h
 | some z=>
 rw [hz] at h;simp only [WE,V9] at h;cases hg:fT (z.cells.size==info.size&&Nat.ble ((2*ZI+1024)*info.bytes) (2 ^ 47)&&!(info.bytes==0)) with
 | none=>rw [hg] at h;cases h
 | some u=>
 rw [hg] at h;simp only [V9] at h;have hg:=kp hg;rw [V6,V6] at hg;obtain ⟨⟨g1,g2⟩,g3⟩:=hg;have g1:z.cells.size=info.size:=by simpa using g1
 have g2:=Wu g2;have g3:info.bytes≠0:=by simpa using g3
 subst hneed;obtain ⟨YZ,k,Ze,rest,hrest,YH⟩:=A.grow (ty:=ty) hz g1 g3 hold YP g2;cases hnw':eX (.row (oldS++xP) elem (0,0) (some info.size)) s with
 | none=>rw [hnw'] at h;cases h
 | some p=>
 obtain ⟨i,s1⟩:=p;rw [hnw'] at h;cases h;have hl:au ν (oldS++xP) (old++new):=ho.append hnw
 obtain ⟨YK,ν',hle,hi',YY⟩:=gx hnw' (hr.drawn k) YZ (r:=.cells (old++new++rest).toArray elem)
  (fun ν' hle hi'=>⟨old++new,rest,rfl,hl.mono hle,by
   refine ⟨by rw [<- hl.length];simp,_,hi',?_⟩;simp only [V7,hol,ZC,hrest];rw [<- X1,<- X1];congr 1;omega⟩)
 refine ⟨YK,ν',_,_,hle,YH,VR.aL.2 ⟨_,hi',by simpa using Ze,by simp⟩,YY⟩

theorem tn {size n:Nat} {x:SV} {l:List SV} {y:Value} (h:ic size n x s=some l) (hr:HR ν M w0 s w) (hv:VR ν x y):
  ∃ ys:List Value,(∀ k,(Builtin.firstCells size n y).run E.P { w with drawn:=k }=.ok ys.toArray { w with drawn:=k })/\au ν l ys:=by
 unfold ic at h;split at h
 ·cases h;obtain rfl:=VR.ae.1 hv;exact ⟨[],fun _=>rfl,au.nil⟩
 ·rename_i b;cases h;obtain rfl:=VR.ae.1 hv;refine ⟨(b.extract 0 n).data.toList.map fun c=>.int .u8 c.toNat,fun k=>?_,?_⟩
  ·simp only [Builtin.firstCells,Wl];congr 1;apply Array.ext';simp
  ·have:=au.lits ν ((b.extract 0 n).data.toList.map fun c=>Value.int .u8 c.toNat);rwa [WI] at this
 ·obtain ⟨b,_,rfl⟩:=VR.fw.1 hv;cases hn:(n==0)
  ·rw [hn] at h;cases h
  ·rw [hn] at h;cases h;obtain rfl:n=0:=by simpa using hn
   refine ⟨[],fun k=>?_,au.nil⟩;simp [Builtin.firstCells,loadCells,loadCellsFrom]
 ·rename_i i off len cap;obtain ⟨b,hb,_,rfl⟩:=VR.aL.1 hv;split at h
  ·rename_i xs e fz ext own hl;cases hle:Nat.ble (off+n*size) xs.length
   ·rw [hle] at h;cases h
   ·rw [hle] at h;cases h;have hle:=Wu hle;obtain ⟨_,_,b',o,YM,ho,YO,_⟩:=hr.look hl;rw [hb] at YM;cases YM;obtain ⟨ys,rest,rfl,ZB,_⟩:=YO;have hlen:=ZB.length;refine ⟨(ys.drop off).take (n*size),fun k=>?_,(ZB.drop off).take _⟩;refine run_loadCells ?_ (by simp;omega);intro k' hk;rw [cQ (w:={ w with drawn:=k }) ho,WO,if_pos hk,W7];have:off+k'<ys.length:=by omega
    simp [WC this]
  ·cases h
 ·cases h

theorem uQ {size n:Nat} {x:SV} {l:List SV} {m:Nat} (h:ic size n x s=some l) (hx:∃ i off len cap,x=.sl i off len cap) (hm:m=n*size):l.length=m:=by
 obtain ⟨i,off,len,cap,rfl⟩:=hx;unfold ic at h;simp only at h;split at h
 ·rename_i xs e fz ext own hl;cases hle:Nat.ble (off+n*size) xs.length
  ·rw [hle] at h;cases h
  ·rw [hle] at h;cases h;have hle:=Wu hle;simp;omega
 ·cases h

theorem tO (ys:List Value) (off:Nat) (zs:List Value) (h:off+zs.length<=ys.length):dm ys off zs=ys.take off++zs++ys.drop (off+zs.length):=by
 induction zs generalizing ys off with
 | nil=>simp [dm]
 | cons z zs ih=>
  simp only [Wm] at h;rw [dm,ih _ _ (by simp;omega)]
  have h1:(ys.set off z).take (off+1)=ys.take off++[z]:=by
   rw [List.take_add_one,List.take_set_of_le (Wx _)];have:off<ys.length:=by omega
   simp [this]
  have h2:(ys.set off z).drop (off+1+zs.length)=ys.drop (off+(zs.length+1)):=by
   rw [List.drop_set_of_lt (by omega)];congr 1;omega
  rw [h1,h2];simp

theorem zq {info:TypeInfo} {elem:TypeId} {old new:List SV} {ZI:Nat} {z:SV} (h:qC info elem old new ZI s=some (z,s')):s'.ob=s.ob:=by
 unfold qC at h;cases hz:info.zero with
 | none=>rw [hz] at h;cases h
 | some zz=>
  rw [hz] at h;simp only [WE,V9] at h;cases hg:fT (zz.cells.size==info.size&&Nat.ble ((2*ZI+1024)*info.bytes) (2 ^ 47)&&!(info.bytes==0)) with
  | none=>rw [hg] at h;cases h
  | some u=>
   rw [hg] at h;simp only [V9] at h;unfold eX at h;cases YP:s.room
   ·rw [YP] at h;cases h
   ·rw [YP] at h;cases h;rfl

theorem wU {st xt elem:TypeId} {info:TypeInfo} {y:SV} {yv:Value} {n:Nat} {new:List SV} (h:mq E xt info y s=some (n,new)) (Zs:bT E st=some (.slice elem)) (hi:bR E elem=some info)
  (hr:HR ν M w0 s w) (hy:VR ν y yv):∃ nv,lq E st xt elem info n yv nv w/\au ν new nv/\nv.length=n*info.size:=by
 unfold mq at h;split at h
 ·rename_i ik hxt;split at h
  ·rename_i k m;obtain rfl:=VR.ae.1 hy;cases hb:(decide (0<=m/\m<=2 ^ 40)&&Nat.ble (m.toNat*info.bytes) (2 ^ 47))
   ·rw [hb] at h;cases h
   ·rw [hb] at h;simp only [WG] at h;rw [V6] at hb;cases hz:qT info m.toNat with
    | none=>rw [hz] at h;cases h
    | some l=>
    rw [hz] at h;cases h;obtain ⟨z,hz1,hz2,hv⟩:=yj (ν:=ν) hz;rw [<- hz2] at hv;exact ⟨_,lq.qT Zs hxt hi hz1 hz2 (Ws hb.1) (Wu hb.2),hv,by simp [hz2]⟩
  ·cases h
 ·rename_i d hdd hxt;have hd:∀ k,d≠.int k:=fun k e=>hdd k e;obtain ⟨n',hn,h⟩:=Wh.1 h;obtain ⟨new',Z2,h⟩:=Wh.1 h;cases hg:(new'.length==n'*info.size)
  ·rw [hg] at h;cases h
  ·rw [hg] at h;cases h;obtain ⟨nv,hnv,hnr⟩:=tn (E:=E) Z2 hr hy;exact ⟨nv,lq.of Zs hxt hd hi (Cj (w:=w) (E:=E) hn hy) hnv,hnr,by rw [hnr.length];simpa using hg⟩
 ·cases h

theorem yV {st xt:TypeId} {x y z:SV} {xv yv:Value} {ty:TypeId} (h:sH E st xt x y s=some (z,s')) (hr:HR ν M w0 s w) (hx:VR ν x xv) (hy:VR ν y yv):
  s'.ob->s.ob/\c7 E.P (Builtin.append_ #[st,xt] ty #[xv,yv]) ν M w0 w z s':=by
 unfold sH at h;split at h
 ·rename_i elem Zs;cases hi:bR E elem with
  | none=>rw [hi] at h;cases h
  | some info=>
  rw [hi] at h;simp only [WE,V9] at h;cases hap:mq E xt info y s with
  | none=>rw [hap] at h;cases h
  | some q=>
  obtain ⟨n,new⟩:=q;rw [hap] at h;simp only [V9] at h;obtain ⟨nv,A,hnr,hnvl⟩:=wU (st:=st) (elem:=elem) hap Zs hi hr hy;have ZC:new.length=n*info.size:=by rw [<- hnr.length,hnvl]
  split at h
  ·-- nil
   obtain rfl:=VR.ae.1 hx;cases Zm:s.dec E (decide (n=0)) with
   | mk e s1=>
   rw [Zm] at h;obtain ⟨YG,YK⟩:=SH.fX Zm;cases e
   ·simp only [W6] at h;intro ob;rw [zq h] at ob;have h0:n≠0:=Xs (YK ob).2;exact ⟨(YK ob).1,(pw (ty:=ty) (len:=0) (old:=[]) h (by omega) (hr.same YG) A (fun k=>rfl) au.nil hnr (by simp) hnvl (by omega)).2⟩
   ·simp only [WG] at h;cases h;refine fun ob=>⟨(YK ob).1,?_⟩;have h0:=Ws (YK ob).2;subst h0;refine c7.now (hr.same YG) ?_ (VR.ae.2 rfl);exact A.room (w':=w) (base:=none) (len:=0) (cap:=0) (by omega) rfl
  ·-- a slice whose room is told
   rename_i i off len cap;obtain ⟨c,hc,hlen,rfl⟩:=VR.aL.1 hx;simp only [WR] at hlen;cases Zm:s.dec E (decide (len+n<=cap)) with
   | mk e s1=>
   rw [Zm] at h;obtain ⟨YG,YK⟩:=SH.fX Zm;cases e
   ·simp only [W6] at h;cases hold:ic info.size len (.sl i off len (some cap)) s1 with
    | none=>rw [hold] at h;cases h
    | some old=>
    rw [hold] at h;simp only [V9] at h;intro ob;rw [zq h] at ob;have h0:¬ len+n<=cap:=Xs (YK ob).2;obtain ⟨ov,hov,YO⟩:=tn (E:=E) hold (hr.same YG) hx;have hol:=uQ hold ⟨_,_,_,_,rfl⟩ rfl;exact ⟨(YK ob).1,(pw (ty:=ty) h rfl (hr.same YG) A hov YO hnr (by rw [YO.length,hol]) hnvl (by simp only [WR];omega)).2⟩
   ·simp only [WG] at h;split at h
    ·rename_i xs el fz ext hl;cases Za:(Nat.ble (off+len*info.size+new.length) xs.length&&nB fz (off+len*info.size) new.length&&new.all SV.flat)
     ·rw [Za] at h;cases h
     ·rw [Za] at h;cases h;rw [V6,V6] at Za;intro ob;have ob:s1.ob:=ob;have h0:=Ws (YK ob).2;obtain ⟨w',YH,YY⟩:=(hr.same YG).spliced (E:=E) hl hc hnr (Wu Za.1.1) Za.1.2 Za.2;refine ⟨(YK ob).1,ν,w',_,aP.Le.refl _,A.room (w':=w') (by simp only [WR];exact h0) ?_,VR.aL.2 ⟨c,hc,?_,rfl⟩,YY⟩
      ·simp only [di];exact YH
      ·simp only [WR];exact h0
    ·cases h
  ·-- a slice whose room is not told
   rename_i i len;obtain ⟨c,hc,hlen,rfl⟩:=VR.aL.1 hx;simp only [W2] at hlen;cases Zm:s.dec E (decide (n=0)) with
   | mk e s1=>
   rw [Zm] at h;obtain ⟨YG,YK⟩:=SH.fX Zm;cases e
   ·simp only [W6] at h;split at h
    ·rename_i xs el es hl;cases Za:((es==info.size&&!(info.size==0))&&Nat.ble (len*info.size) xs.length&&new.all SV.flat&&el==elem)
     ·rw [Za] at h;cases h
     rw [Za] at h;rw [V6,V6,V6,V6] at Za;obtain ⟨⟨⟨⟨h1,g4⟩,h2⟩,h3⟩,h4⟩:=Za;have g4:info.size≠0:=by simpa using g4
     obtain rfl:es=info.size:=by simpa using h1
     obtain rfl:el=elem:=by simpa using h4
     have h2:=Wu h2;simp only [WG] at h;have ZS:=hr.same YG;obtain ⟨_,_,b',o,YM,ho,YO,_⟩:=ZS.look hl;rw [hc] at YM;cases YM;obtain ⟨ys,rest,rfl,ZB,hxle,b'',hb'',hsize⟩:=YO;rw [hc] at hb'';cases hb'';cases σ:Nat.ble ((len+n)*info.size) xs.length
     ·rw [σ] at h;simp only [W6] at h;cases hz:info.zero with
      | none=>rw [hz] at h;cases h
      | some zz=>
      rw [hz] at h;simp only [V9] at h;cases hg2:fT (zz.cells.size==info.size&&Nat.ble ((2*(len+n)+1024)*info.bytes) (2 ^ 47)&&!(info.bytes==0)) with
      | none=>rw [hg2] at h;cases h
      | some u=>
      rw [hg2] at h;simp only [V9] at h;have hg2:=kp hg2;rw [V6,V6] at hg2;obtain ⟨⟨g1,g2⟩,g3⟩:=hg2;have g1:zz.cells.size=info.size:=by simpa using g1
      have g2:=Wu g2;have g3:info.bytes≠0:=by simpa using g3
      unfold eX at h;cases YP:(s1.drop i).room
      ·rw [YP] at h;cases h
      rw [YP] at h;cases h;intro ob;have ob:s1.ob:=ob;have h0:n≠0:=Xs (YK ob).2;refine ⟨(YK ob).1,?_⟩;have hylen:=ZB.length
      have holdv:∀ k,(Builtin.firstCells info.size len (.slice (some ⟨c.1,0,none⟩) len c.2)).run E.P { w with drawn:=k }=.ok (ys.take (len*info.size)).toArray { w with drawn:=k }:=by
       intro k;refine run_loadCells ?_ (by simp;omega);intro k' hk;rw [cQ (w:={ w with drawn:=k }) ho,WO,if_pos hk];have:0+k'<ys.length:=by omega
       simp [WC this];simp at this;rw [WC this]
      by_cases Θ:len+n<=c.2
      ·-- in place
       have Ze:(len+n)*info.size<=(ys++rest).length:=by rw [hsize];exact Xu _ Θ
       have hmul:(len+n)*info.size=len*info.size+n*info.size:=X1 _ _ _
       have YH:=jv (P:=E.P) (b:=c.1) (off:=len*info.size) (e:=el) (fz:=(0,0)) nv 0 w (ys++rest) ho (hnr.flat h3) (by omega) (by
        intro k _ _;simp)
       rw [Yc] at YH
       have hspl:dm (ys++rest) (len*info.size) nv=(ys.take (len*info.size)++nv)++(ys++rest).drop (len*info.size+n*info.size):=by
        rw [tO _ _ _ (by omega),hnvl];rw [XG (by omega)]
       obtain ⟨hle,YY⟩:=ZS.move (w':={ w with heap:=w.heap.setIfInBounds c.1 (.cells (dm (ys++rest) (len*info.size) nv).toArray el (0,0)) }) hl hc YP
        (o:=.row (xs.take (len*info.size)++new) el (0,0) (some info.size)) (r:=.cells (dm (ys++rest) (len*info.size) nv).toArray el (0,0))
        ⟨ys.take (len*info.size)++nv,(ys++rest).drop (len*info.size+n*info.size),by rw [lP,hspl],((ZB.take _).append hnr).mono (aP.lz (ZS.fresh _ (Wx _)) c),by
         refine ⟨?_,c,aP.bM _ _ _,?_⟩
         ·simp;omega
         ·rw [<- hspl,jr,hsize]⟩ rfl rfl rfl rfl
       refine ⟨_,_,_,hle,A.room (by simp only [W2];exact Θ) (by simp only [di,W9];exact YH),VR.aL.2 ⟨c,aP.bM _ _ _,by simp only [W2];exact Θ,rfl⟩,YY⟩
      ·-- a new row
       obtain ⟨YZ,k,Ze,rest',hrest',YH⟩:=A.grow (ty:=ty) hz g1 g3 holdv (by omega) g2;have hi':i<2 ^ s1.d:=(ZS.look hl).1;have hl2:=(ZB.take (len*info.size)).append hnr;have htk:(ys.take (len*info.size)).length=len*info.size:=by simp;omega
       have hnx:ν s1.nx=none:=ZS.fresh _ (Wx _);have hle:=aP.lz hnx (w.heap.size,YZ)
       obtain ⟨_,YY⟩:=((ZS.drop hi').drawn k).new (w':={ w with drawn:=k,heap:=w.heap.push (.cells (ys.take (len*info.size)++nv++rest').toArray el) }) YP YZ
        (o:=.row (xs.take (len*info.size)++new) el (0,0) (some info.size)) (r:=.cells (ys.take (len*info.size)++nv++rest').toArray el)
        ⟨ys.take (len*info.size)++nv,rest',rfl,hl2.mono hle,by
         refine ⟨?_,_,aP.bM _ _ _,?_⟩
         ·rw [<- hl2.length];simp
         ·simp only [V7,htk,hnvl,hrest'];rw [<- X1,<- X1];congr 1;omega⟩ rfl rfl rfl rfl
       refine ⟨_,_,_,hle,YH,VR.aL.2 ⟨_,aP.bM _ _ _,by simpa using Ze,rfl⟩,YY⟩
     ·rw [σ] at h;simp only [WG] at h;cases h;intro ob;have ob:s1.ob:=ob;have σ:=Wu σ;refine ⟨(YK ob).1,?_⟩;have hmul:(len+n)*info.size=len*info.size+n*info.size:=X1 _ _ _;obtain ⟨w',YH,YY⟩:=ZS.spliced (E:=E) hl hc hnr (off:=len*info.size) (by omega) (by simp [nB,Nat.ble]) h3
      have Θ:len+n<=c.2:=by
       have h5:(len+n)*info.size<=c.2*info.size:=by rw [<- hsize];omega
       exact Nat.le_of_mul_le_mul_right h5 (by omega)
      exact ⟨ν,w',_,aP.Le.refl _,A.room (by simp only [W2];exact Θ) (by simp only [di,W9];exact YH),VR.aL.2 ⟨c,hc,by simp only [W2];exact Θ,rfl⟩,YY⟩
    ·cases h
   ·simp only [WG] at h;cases h;refine fun ob=>⟨(YK ob).1,?_⟩;have h0:=Ws (YK ob).2;subst h0;obtain rfl:nv=[]:=Wd.1 (by rw [hnvl];simp);refine c7.now (hr.same YG) ?_ hx;exact A.room (w':=w) (by simp only [W2];omega) (by simp [storeCells])
  ·cases h
 ·cases h


theorem vy {info:TypeInfo} {elem:TypeId} {old new:List SV} {ZI:Nat} {z:Value} (hz:info.zero=some z) (h1:z.cells.size=info.size) (h2:(2*ZI+1024)*info.bytes<=2 ^ 47) (h3:info.bytes≠0):
  qC info elem old new ZI s=lL info elem old new ZI s:=by
 have hg:fT (z.cells.size==info.size&&Nat.ble ((2*ZI+1024)*info.bytes) (2 ^ 47)&&!(info.bytes==0))=some ():=by
  have e1:(z.cells.size==info.size)=true:=by simpa using h1
  have e2:Nat.ble ((2*ZI+1024)*info.bytes) (2 ^ 47)=true:=by rw [Nat.ble_eq];exact h2
  have e3:(info.bytes==0)=false:=by simpa using h3
  rw [e1,e2,e3];rfl
 unfold qC lL;rw [hz];simp only [WE,V9,hg];cases eX (.row (old++new) elem (0,0) (some info.size)) s <;> rfl

theorem qh {info:TypeInfo} {elem:TypeId} {old new:List SV} {ZI:Nat} {z:SV} (h:lL info elem old new ZI s=some (z,s')):s'.ob=s.ob:=by
 unfold lL eX at h;cases YP:s.room
 ·rw [YP] at h;cases h
 ·rw [YP] at h;cases h;rfl

theorem od {i:Nat} {xs l:List SV} (h:(s.look i).bind (·.1.told)=some xs) (hr:HR ν M w0 s w) {b:Nat × Nat} (hb:ν i=some b) {off n:Nat} (hl:(xs.drop off).take n=l) (hn:l.length=n):
  ∃ ys:List Value,(∀ k,(loadCells ⟨b.1,off,none⟩ n).run E.P { w with drawn:=k }=.ok ys.toArray { w with drawn:=k })/\au ν l ys/\ys.length=n:=by
 obtain ⟨ys,c,e,fz,ho,ZB,hc⟩:=CP h hr hb;have hv:=(ZB.drop off).take n;rw [hl] at hv;have hlen:((ys.drop off).take n).length=n:=by rw [hv.length,hn]
 refine ⟨(ys.drop off).take n,fun k=>run_loadCells ?_ hlen,hv,hlen⟩;intro k' hk;have ZM:k'<((ys.drop off).take n).length:=by omega
 rw [cQ (w:={ w with drawn:=k }) ho,V4 ZM];refine hc _ _ ?_;rw [<- V4 ZM,WO,if_pos hk,W7]

theorem jf {st xt elem:TypeId} {info:TypeInfo} {y:SV} {yv:Value} {new:List SV} {q:Nat × Prop} (h:mL E xt info y new s=some q) (hq:q.2) (hn:new.length=q.1*info.size)
  (Zs:bT E st=some (.slice elem)) (hi:bR E elem=some info) (hr:HR ν M w0 s w) (hy:VR ν y yv):∃ nv,lq E st xt elem info q.1 yv nv w/\au ν new nv/\nv.length=q.1*info.size:=by
 unfold mL at h;split at h
 ·cases h
 ·rename_i d hdd hxt;have hd:∀ k,d≠.int k:=fun k e=>hdd k e;split at h
  ·rename_i b;cases h;obtain rfl:=VR.ae.1 hy;have hq:(b.data.toList.map fun c=>SV.v (.int .u8 c.toNat))=new:=hq;subst hq
   have hv:au ν (b.data.toList.map fun c=>SV.v (.int .u8 c.toNat)) (b.data.toList.map fun c=>Value.int .u8 c.toNat):=by
    have:=au.lits ν (b.data.toList.map fun c=>Value.int .u8 c.toNat);rwa [WI] at this
   refine ⟨b.data.toList.map fun c=>.int .u8 c.toNat,lq.of Zs hxt hd hi rfl (fun k=>?_),hv,by rw [hv.length.trans rfl];exact hn⟩;simp only [Builtin.firstCells,Wl];congr 1;have e:b.extract 0 b.size=b:=by simp
   rw [e];apply Array.ext';simp
  ·rename_i m c;cases h;obtain rfl:=VR.ae.1 hy;have hq:[]=new:=hq;subst hq;exact ⟨[],lq.of Zs hxt hd hi rfl (fun k=>rfl),au.nil,hn⟩
  ·rename_i i off len cap;obtain ⟨xs,Z9,h⟩:=Wg.1 h;cases h;obtain ⟨b,hb,_,rfl⟩:=VR.aL.1 hy;obtain ⟨nv,YH,hv,hlen⟩:=od (E:=E) Z9 hr hb hq hn;exact ⟨nv,lq.of Zs hxt hd hi rfl YH,hv,hlen⟩
  ·cases h
 ·cases h

theorem yO {st xt:TypeId} {x y z:SV} {xv yv:Value} {ty:TypeId} (h:sq E st xt x y s=some (z,s')) (hr:HR ν M w0 s w) (hx:VR ν x xv) (hy:VR ν y yv):
  s'.ob->s.ob/\c7 E.P (Builtin.append_ #[st,xt] ty #[xv,yv]) ν M w0 w z s':=by
 unfold sq at h;split at h
 ·rename_i elem Zs;obtain ⟨info,hi,h⟩:=Wh.1 h;obtain ⟨q,hq,h⟩:=Wh.1 h
  have key:(∃ base len cap,xv=.slice base len cap/\len<=cap)->some (x,s.jg (q.2/\q.1=0))=some (z,s')->s'.ob->s.ob/\c7 E.P (Builtin.append_ #[st,xt] ty #[xv,yv]) ν M w0 w z s':=by
   rintro ⟨base,len,cap,rfl,ZT⟩ h ob
   cases h;obtain ⟨YU,hp,h0⟩:=ob;obtain ⟨nv,A,hv,hlen⟩:=jf (st:=st) (elem:=elem) hq hp (by simp [h0]) Zs hi hr hy;rw [h0] at A;obtain rfl:=hv.ay;refine ⟨YU,c7.now (hr.same (SH.cj _ _)) ?_ hx⟩;have:=A.room (w':=w) (base:=base) (len:=len) (cap:=cap) (ty:=ty) (by omega) (by cases base <;> simp [storeCells]);simpa using this
  split at h
  ·refine key ?_ h;obtain rfl:=VR.ae.1 hx;exact ⟨none,0,0,rfl,Wx _⟩
  ·refine key ?_ h;obtain ⟨b,_,hl,rfl⟩:=VR.aL.1 hx;exact ⟨_,_,_,rfl,hl⟩
  ·cases h
 ·cases h

theorem zp {st xt:TypeId} {x y z:SV} {old new:List SV} {xv yv:Value} {ty:TypeId} (h:s9 E st xt x y old new s=some (z,s')) (hr:HR ν M w0 s w) (hx:VR ν x xv) (hy:VR ν y yv):
  s'.ob->s.ob/\c7 E.P (Builtin.append_ #[st,xt] ty #[xv,yv]) ν M w0 w z s':=by
 unfold s9 at h;split at h
 ·rename_i elem Zs;obtain ⟨info,hi,h⟩:=Wh.1 h;obtain ⟨zz,hz,h⟩:=Wh.1 h;obtain ⟨q,hq,h⟩:=Wh.1 h;obtain ⟨n,p⟩:=q;dsimp only at h;cases hb:(zz.cells.size==info.size&&!(info.bytes==0)&&!(info.size==0))
  ·rw [hb] at h;cases h
  rw [hb] at h;simp only [WG] at h;rw [V6,V6] at hb;obtain ⟨⟨g1,g3⟩,g4⟩:=hb;have g1:zz.cells.size=info.size:=by simpa using g1
  have g3:info.bytes≠0:=by simpa using g3
  have g4:info.size≠0:=by simpa using g4
  split at h
  ·-- nil
   obtain rfl:=VR.ae.1 hx;intro ob;rw [qh h] at ob;obtain ⟨YU,⟨⟨hp,ZC⟩,hn0,hlim⟩,_⟩:=ob;obtain ⟨nv,A,hv,hlen⟩:=jf (st:=st) (elem:=elem) hq hp ZC Zs hi hr hy;dsimp only at A hlen hn0 hlim;rw [<- vy hz g1 hlim g3] at h;exact ⟨YU,(pw (ty:=ty) (len:=0) (old:=[]) h (by omega) (hr.same (SH.cj _ _)) A (fun k=>rfl) au.nil hv (by simp) hlen (by omega)).2⟩
  ·-- a slice whose room is told
   obtain ⟨xs,Z9,h⟩:=Wh.1 h;obtain ⟨c,hc,ZT,rfl⟩:=VR.aL.1 hx;intro ob;rw [qh h] at ob;obtain ⟨YU,⟨⟨hp,ZC⟩,hn0,hlim⟩,hold,holen,Ze⟩:=ob;obtain ⟨nv,A,hv,hlen⟩:=jf (st:=st) (elem:=elem) hq hp ZC Zs hi hr hy;dsimp only at A hlen hn0 hlim Ze;obtain ⟨ov,YH,hov,hovl⟩:=od (E:=E) Z9 hr hc hold holen;rw [<- vy hz g1 hlim g3] at h;exact ⟨YU,(pw (ty:=ty) h rfl (hr.same (SH.cj _ _)) A (fun k=>by rw [show Builtin.firstCells info.size _ (.slice (some _) _ _)=loadCells _ _ from rfl];exact YH k) hov hv hovl hlen (by simpa using Ze)).2⟩
  ·-- a slice whose room is not told
   rename_i i len _ _ _;split at h
   ·rename_i xs el es hl;cases Za:(es==info.size&&el==elem)
    ·rw [Za] at h;cases h
    rw [Za] at h;simp only [WG] at h;rw [V6] at Za;obtain rfl:es=info.size:=by simpa using Za.1
    obtain rfl:el=elem:=by simpa using Za.2
    obtain ⟨c,hc,hlen0,rfl⟩:=VR.aL.1 hx;simp only [W2] at hlen0;intro ob;have YK:=qh h;rw [YK] at ob;obtain ⟨YU,⟨⟨hp,ZC⟩,hn0,hlim⟩,hold,holen,h3⟩:=(show (s.jg _).ob from ob);obtain ⟨nv,A,hnr,hnvl⟩:=jf (st:=st) (elem:=el) hq hp ZC Zs hi hr hy;dsimp only at A hnvl hn0 hlim;refine ⟨YU,?_⟩;generalize hs1:s.jg (((p/\new.length=n*info.size)/\n≠0/\(2*(len+n)+1024)*info.bytes<=2 ^ 47)/\xs.take (len*info.size)=old/\old.length=len*info.size/\new.all SV.flat=true)=s1 at h;have YG:s.dH s1:=hs1 ▸ SH.cj _ _;have ZS:=hr.same YG;have hl1:s1.look i=some (.row xs el (0,0) (some info.size),true):=by rw [YG.look];exact hl
    unfold lL eX at h;cases YP:(s1.drop i).room
    ·rw [YP] at h;cases h
    rw [YP] at h;cases h;obtain ⟨_,_,b',o,YM,ho,YO,_⟩:=ZS.look hl1;rw [hc] at YM;cases YM;obtain ⟨ys,rest,rfl,ZB,hxle,b'',hb'',hsize⟩:=YO;rw [hc] at hb'';cases hb'';have hylen:=ZB.length
    have h2:len*info.size<=xs.length:=by
     have:=congrArg List.length hold;rw [holen,WW] at this;omega
    subst hold
    have holdv:∀ k,(Builtin.firstCells info.size len (.slice (some ⟨c.1,0,none⟩) len c.2)).run E.P { w with drawn:=k }=.ok (ys.take (len*info.size)).toArray { w with drawn:=k }:=by
     intro k;refine run_loadCells ?_ (by simp;omega);intro k' hk;rw [cQ (w:={ w with drawn:=k }) ho,WO,if_pos hk];have:0+k'<ys.length:=by omega
     simp [WC this];simp at this;rw [WC this]
    by_cases Θ:len+n<=c.2
    ·-- in place
     have Ze:(len+n)*info.size<=(ys++rest).length:=by rw [hsize];exact Xu _ Θ
     have hmul:(len+n)*info.size=len*info.size+n*info.size:=X1 _ _ _
     have YH:=jv (P:=E.P) (b:=c.1) (off:=len*info.size) (e:=el) (fz:=(0,0)) nv 0 w (ys++rest) ho (hnr.flat h3) (by omega) (by
      intro k _ _;simp)
     rw [Yc] at YH
     have hspl:dm (ys++rest) (len*info.size) nv=(ys.take (len*info.size)++nv)++(ys++rest).drop (len*info.size+n*info.size):=by
      rw [tO _ _ _ (by omega),hnvl];rw [XG (by omega)]
     obtain ⟨hle,YY⟩:=ZS.move (w':={ w with heap:=w.heap.setIfInBounds c.1 (.cells (dm (ys++rest) (len*info.size) nv).toArray el (0,0)) }) hl1 hc YP
      (o:=.row (xs.take (len*info.size)++new) el (0,0) (some info.size)) (r:=.cells (dm (ys++rest) (len*info.size) nv).toArray el (0,0))
      ⟨ys.take (len*info.size)++nv,(ys++rest).drop (len*info.size+n*info.size),by rw [lP,hspl],((ZB.take _).append hnr).mono (aP.lz (ZS.fresh _ (Wx _)) c),by
       refine ⟨?_,c,aP.bM _ _ _,?_⟩
       ·simp;omega
       ·rw [<- hspl,jr,hsize]⟩ rfl rfl rfl rfl
     refine ⟨_,_,_,hle,A.room (by simp only [W2];exact Θ) (by simp only [di,W9];exact YH),VR.aL.2 ⟨c,aP.bM _ _ _,by simp only [W2];exact Θ,rfl⟩,YY⟩
    ·-- a new row
     obtain ⟨YZ,k,Ze,rest',hrest',YH⟩:=A.grow (ty:=ty) hz g1 g3 holdv (by omega) hlim;have hi':i<2 ^ s1.d:=(ZS.look hl1).1;have hl2:=(ZB.take (len*info.size)).append hnr;have htk:(ys.take (len*info.size)).length=len*info.size:=by simp;omega
     have hnx:ν s1.nx=none:=ZS.fresh _ (Wx _);have hle:=aP.lz hnx (w.heap.size,YZ)
     obtain ⟨_,YY⟩:=((ZS.drop hi').drawn k).new (w':={ w with drawn:=k,heap:=w.heap.push (.cells (ys.take (len*info.size)++nv++rest').toArray el) }) YP YZ
      (o:=.row (xs.take (len*info.size)++new) el (0,0) (some info.size)) (r:=.cells (ys.take (len*info.size)++nv++rest').toArray el)
      ⟨ys.take (len*info.size)++nv,rest',rfl,hl2.mono hle,by
       refine ⟨?_,_,aP.bM _ _ _,?_⟩
       ·rw [<- hl2.length];simp
       ·simp only [V7,htk,hnvl,hrest'];rw [<- X1,<- X1];congr 1;omega⟩ rfl rfl rfl rfl
     refine ⟨_,_,_,hle,YH,VR.aL.2 ⟨_,aP.bM _ _ _,by simpa using Ze,rfl⟩,YY⟩
   ·cases h
  ·cases h
 ·cases h

theorem AJ {st xt:TypeId} {x y z:SV} {xv yv:Value} {ty:TypeId} (h:xl E st xt x y s=some (z,s')) (hr:HR ν M w0 s w) (hx:VR ν x xv) (hy:VR ν y yv):
  s'.ob->s.ob/\c7 E.P (Builtin.append_ #[st,xt] ty #[xv,yv]) ν M w0 w z s':=by
 unfold xl at h;split at h
 ·exact zp h hr hx hy
 ·exact yO h hr hx hy
 ·exact yV h hr hx hy

end
section
variable {ν:aP} {M:Own} {w0 w:World} {s s':SH} {E:Env}

theorem F4 {dt:TypeId} {rest:List TypeId} {x y z:SV} {xv yv:Value} {ty:TypeId} (h:F8 E dt x y s=some (z,s')) (hr:HR ν M w0 s w) (hx:VR ν x xv) (hy:VR ν y yv):
  s'.ob=s.ob/\c7 E.P (Builtin.copy_ (dt::rest).toArray ty #[xv,yv]) ν M w0 w z s':=by
 have a0:((dt::rest).toArray:Array TypeId)[0]?=some dt:=by simp
 have b0:(#[xv,yv]:Array Value)[0]?=some xv:=rfl;have b1:(#[xv,yv]:Array Value)[1]?=some yv:=rfl;unfold F8 at h;split at h
 ·rename_i elem hd;cases hi:bR E elem with
  | none=>rw [hi] at h;cases h
  | some info=>
  rw [hi] at h;simp only [WE,V9] at h;cases hm:GX y with
  | none=>rw [hm] at h;cases h
  | some m=>
  rw [hm] at h;simp only [V9] at h;have hrn:=Cj (w:=w) (E:=E) hm hy;split at h
  ·cases hf:ic info.size (Nat.min m 0) y s with
   | none=>rw [hf] at h;cases h
   | some l=>
   rw [hf] at h;cases h;obtain rfl:=VR.ae.1 hx;obtain ⟨ys,Z4,_⟩:=vx (E:=E) hf hr hy;refine ⟨rfl,c7.now hr ?_ (VR.ae.2 rfl)⟩;simp only [Builtin.copy_,a0,b0,b1,Wf,run_underlying hd,V3,hrn,run_sizeOf hi,Z4];simp [goInt]
  ·rename_i i off len cap;obtain ⟨b,hb,_,rfl⟩:=VR.aL.1 hx;cases hf:ic info.size (Nat.min m len) y s with
   | none=>rw [hf] at h;cases h
   | some l=>
   rw [hf] at h;simp only [V9] at h;obtain ⟨ys,Z4,hv⟩:=vx (E:=E) hf hr hy;split at h
   ·rename_i xs e fz ext hl;cases hc:(Nat.ble (off+l.length) xs.length&&nB fz off l.length&&l.all SV.flat)
    ·rw [hc] at h;cases h
    ·rw [hc] at h;cases h;rw [V6,V6] at hc;obtain ⟨w',YH,YY⟩:=hr.spliced (E:=E) hl hb hv (Wu hc.1.1) hc.1.2 hc.2;refine ⟨rfl,ν,w',_,aP.Le.refl _,?_,VR.ae.2 rfl,YY⟩;simp only [Builtin.copy_,a0,b0,b1,Wf,run_underlying hd,V3,hrn,run_sizeOf hi,Z4,XN,YH,Wl,goInt]
   ·cases h
  ·cases h
 ·cases h


theorem cK (x y:ByteArray):(x==y)=true↔x=y:=by
 cases x with | mk a=>cases y with | mk b=>
 have:((⟨a⟩:ByteArray)==⟨b⟩)=(a==b):=rfl;rw [this];simp

inductive Keyed:TypeDesc->Prop
 | int (k:IntKind):Keyed (.int k)
 | string:Keyed .string
 | bool:Keyed .bool

theorem nS {t:TypeId} {kd:TypeDesc} (h:jP E t=some kd):bT E t=some kd/\Keyed kd:=by
 unfold jP at h;split at h
 ·cases h;rename_i k hk;exact ⟨hk,.int k⟩
 ·cases h;rename_i hk;exact ⟨hk,.string⟩
 ·cases h;rename_i hk;exact ⟨hk,.bool⟩
 ·cases h

theorem run_checkKey {t:TypeId} {kd:TypeDesc} (h:bT E t=some kd) (hk:Keyed kd) (e:Bool) (v:Value):(Instr.checkKey e 10000 t v).run E.P w=.ok () w:=by
 rw [show (10000:Nat)=9999+1 from rfl,Instr.checkKey];simp only [Wf,run_underlying h,V3];cases hk <;> cases v <;> rfl

theorem ye {kd:TypeDesc} {k k':SV} {kv kv':Value} {t:Bool} (h:zW E kd k k' s=some (t,s')) (hk:VR ν k kv) (hk':VR ν k' kv'):
  s.dH s'/\(s'.ob->s.ob/\Instr.sameNow kd kv kv'=some t/\(t=true->∀ n,Instr.sameBits (n+1) kv' kv=true)):=by
 unfold zW at h;split at h
 ·rename_i kk a x b y;obtain rfl:=VR.ae.1 hk;obtain rfl:=VR.ae.1 hk';cases hab:(a==b)
  ·rw [hab] at h;cases h
  ·rw [hab] at h;obtain rfl:a=b:=by simpa using hab
   simp only [WG,Option.some.injEq] at h;obtain ⟨YG,YK⟩:=SH.fX h;refine ⟨YG,fun ob=>⟨(YK ob).1,?_,?_⟩⟩
   ·simp [Instr.sameNow,(YK ob).2]
   ·intro ht n;have:=(YK ob).2;rw [ht] at this;have hxy:x=y:=by simpa using this
    simp [Instr.sameBits,hxy]
 ·rename_i x y;obtain rfl:=VR.ae.1 hk;obtain rfl:=VR.ae.1 hk';simp only [Option.some.injEq] at h;obtain ⟨YG,YK⟩:=SH.fX h;refine ⟨YG,fun ob=>⟨(YK ob).1,?_,?_⟩⟩
  ·simp [Instr.sameNow,(YK ob).2]
  ·intro ht n;have:=(YK ob).2;rw [ht] at this;have hxy:x=y:=(cK x y).1 this;subst hxy;simp only [Instr.sameBits];exact (cK x x).2 rfl
 ·rename_i x y;obtain rfl:=VR.ae.1 hk;obtain rfl:=VR.ae.1 hk';simp only [Option.some.injEq] at h;obtain ⟨YG,YK⟩:=SH.fX h;refine ⟨YG,fun ob=>⟨(YK ob).1,?_,?_⟩⟩
  ·simp [Instr.sameNow,(YK ob).2]
  ·intro ht n;have:=(YK ob).2;rw [ht] at this;have hxy:x=y:=by simpa using this
   simp [Instr.sameBits,hxy]
 ·cases h

theorem Hy {kd:TypeDesc} {k:SV} {kv:Value} (hk:VR ν k kv):∀ {es:List (SV × SV × Nat)} {l:List MapEntry} {i:Nat} {s s':SH} {r:Option (Nat × SV × Nat)},
  sI E kd k es i s=some (r,s')->eI ν es l->
  s.dH s'/\(s'.ob->s.ob/\match r with
   | none=>Instr.findNow kd kv l i=some none
   | some (j,x,born)=>i<=j/\∃ e,l[j - i]?=some e/\VR ν x e.val/\e.born=born/\Instr.findNow kd kv l i=some (some (j,e.val))/\∀ n,Instr.sameBits (n+1) e.key kv=true):=by
 intro es;induction es with
 | nil=>
  intro l i s s' r h hl;cases h;obtain rfl:l=[]:=hl;exact ⟨.refl _,fun ob=>⟨ob,rfl⟩⟩
 | cons e es ih=>
  intro l i s s' r h hl;obtain ⟨z,zs,rfl,h1,h2,h3,hs⟩:=hl;unfold sI at h;split at h
  ·rename_i s1 hkey;cases h;obtain ⟨YG,YK⟩:=ye hkey hk h1;refine ⟨YG,fun ob=>⟨(YK ob).1,Wx _,z,by simp,h2,h3.symm,?_,(YK ob).2.2 rfl⟩⟩;simp [Instr.findNow,(YK ob).2.1]
  ·rename_i s1 hkey;obtain ⟨YG,YK⟩:=ye hkey hk h1;obtain ⟨Zl,Zk⟩:=ih h hs;refine ⟨YG.trans Zl,fun ob=>?_⟩;obtain ⟨Z8,hr⟩:=Zk ob;refine ⟨(YK Z8).1,?_⟩
   have hf:∀ i,Instr.findNow kd kv (z::zs) i=Instr.findNow kd kv zs (i+1):=by
    intro i;simp [Instr.findNow,(YK Z8).2.1]
   cases r with
   | none=>simp only at hr ⊢;rw [hf];exact hr
   | some p=>
    obtain ⟨j,x,born⟩:=p;simp only at hr ⊢;obtain ⟨hij,e',he',hx,hb,ZO,hsb⟩:=hr;refine ⟨by omega,e',?_,hx,hb,by rw [hf];exact ZO,hsb⟩;rw [show j - i=(j - (i+1))+1 from by omega];simpa using he'
  ·cases h

theorem qY {p b:ByteArray} (h:(p==b)=false):Instr.sameNow .string (.string p) (.string b)=some false:=by
 simp [Instr.sameNow,h]
theorem pB {p:ByteArray}:∀ {es:List (SV × SV × Nat)} {l:List MapEntry} {i:Nat},(∀ e∈es,a8 p e.1)->eI ν es l->Instr.findNow .string (.string p) l i=some none
 | [],l,i,_,hl=>by
  obtain rfl:l=[]:=hl
  rfl
 | e::es,l,i,h,hl=>by
  obtain ⟨z,zs,rfl,h1,h2,h3,hs⟩:=hl
  obtain ⟨b,hb,YI⟩:=h e Wi
  rw [hb] at h1
  have hz:=VR.ae.1 h1
  simp only [Instr.findNow,hz,qY YI]
  exact pB (fun e' he'=>h e' (Wb _ he')) hs
theorem qo {p:ByteArray}:∀ {es:List (SV × SV × Nat)} {l:List MapEntry} {j i:Nat} {x:SV} {born:Nat},D5 es p j x born->eI ν es l->
  ∃ e,l[j]?=some e/\VR ν x e.val/\e.born=born/\e.key=.string p/\Instr.findNow .string (.string p) l i=some (some (i+j,e.val))
 | [],l,j,i,x,born,h,hl=>by
  have:=h.2
  simp at this
 | e::es,l,0,i,x,born,h,hl=>by
  obtain ⟨z,zs,rfl,h1,h2,h3,hs⟩:=hl
  have h0:=h.2
  simp only [Wa,Option.some.injEq] at h0
  subst h0
  have hz:=VR.ae.1 h1
  refine ⟨z,rfl,h2,h3.symm,hz,?_⟩
  have:(p==p)=true:=(cK p p).2 rfl
  simp [Instr.findNow,hz,Instr.sameNow,this]
 | e::es,l,j+1,i,x,born,h,hl=>by
  obtain ⟨z,zs,rfl,h1,h2,h3,hs⟩:=hl
  obtain ⟨b,hb,YI⟩:=h.1 e (by simp)
  rw [hb] at h1
  have hz:=VR.ae.1 h1
  obtain ⟨q,hq,hx,φ,hk,hf⟩:=qo (es:=es) (l:=zs) (j:=j) (i:=i+1) (x:=x) (born:=born) ⟨fun e' he'=>h.1 e' (by simp [he']),by simpa using h.2⟩ hs
  refine ⟨q,by simpa using hq,hx,φ,hk,?_⟩
  simp only [Instr.findNow,hz,qY YI]
  rw [hf]
  congr 3;omega
theorem tj {kd:TypeDesc} {k:SV} {kv:Value} (hk:VR ν k kv) {es:List (SV × SV × Nat)} {l:List MapEntry} {s s':SH} {r:Option (Nat × SV × Nat)}:lI E kd k es s=some (r,s')->eI ν es l->
  s.dH s'/\(s'.ob->s.ob/\match r with
   | none=>Instr.findNow kd kv l 0=some none
   | some (j,x,born)=>0<=j/\∃ e,l[j - 0]?=some e/\VR ν x e.val/\e.born=born/\Instr.findNow kd kv l 0=some (some (j,e.val))/\∀ n,Instr.sameBits (n+1) e.key kv=true):=by
 intro h hl;unfold lI at h;split at h
 ·rename_i p0 q0 p1 p j x born q2;cases h;obtain rfl:=VR.ae.1 hk;refine ⟨SH.cj _ _,fun ob=>⟨ob.1,WX _,?_⟩⟩;obtain ⟨e,h1,h2,h3,h4,h5⟩:=qo (i:=0) ob.2 hl;rw [W9] at h5;refine ⟨e,h1,h2,h3,h5,fun n=>?_⟩;rw [h4];simp only [Instr.sameBits];exact (cK p p).2 rfl
 ·rename_i p _;cases h;obtain rfl:=VR.ae.1 hk;exact ⟨SH.cj _ _,fun ob=>⟨ob.1,pB ob.2 hl⟩⟩
 ·exact Hy hk h hl

theorem eI.modify {es:List (SV × SV × Nat)} {l:List MapEntry} (h:eI ν es l) (j:Nat) (f:SV × SV × Nat->SV × SV × Nat) (g:MapEntry->MapEntry)
  (hfg:∀ a e,VR ν a.1 e.key->VR ν a.2.1 e.val->a.2.2=e.born->VR ν (f a).1 (g e).key/\VR ν (f a).2.1 (g e).val/\(f a).2.2=(g e).born):eI ν (es.modify j f) (l.modify j g):=by
 induction es generalizing l j with
 | nil=>have h':l=[]:=h;subst h';simp [eI]
 | cons a es ih=>
  obtain ⟨z,zs,rfl,h1,h2,h3,hs⟩:=h;cases j with
  | zero=>
   obtain ⟨k1,k2,k3⟩:=hfg a z h1 h2 h3;simp only [List.modify_zero_cons];exact ⟨g z,zs,rfl,k1,k2,k3,hs⟩
  | succ j=>
   simp only [Ym];exact ⟨z,_,rfl,h1,h2,h3,ih hs j⟩

theorem eI.append {es:List (SV × SV × Nat)} {l:List MapEntry} (h:eI ν es l) {fs:List (SV × SV × Nat)} {m:List MapEntry} (k:eI ν fs m):eI ν (es++fs) (l++m):=by
 induction es generalizing l with
 | nil=>obtain rfl:l=[]:=h;exact k
 | cons a es ih=>
  obtain ⟨z,zs,rfl,h1,h2,h3,hs⟩:=h;exact ⟨z,_,rfl,h1,h2,h3,ih hs⟩

theorem eI.erase {es:List (SV × SV × Nat)} {l:List MapEntry} (h:eI ν es l) (j:Nat):eI ν (es.eraseIdx j) (l.eraseIdx j):=by
 induction es generalizing l j with
 | nil=>have h':l=[]:=h;subst h';simp [eI]
 | cons a es ih=>
  obtain ⟨z,zs,rfl,h1,h2,h3,hs⟩:=h;cases j with
  | zero=>exact hs
  | succ j=>exact ⟨z,_,rfl,h1,h2,h3,ih hs j⟩

theorem eI.length {es:List (SV × SV × Nat)} {l:List MapEntry} (h:eI ν es l):l.length=es.length:=by
 induction es generalizing l with
 | nil=>obtain rfl:l=[]:=h;rfl
 | cons a es ih=>obtain ⟨z,zs,rfl,_,_,_,hs⟩:=h;simp [ih hs]

theorem run_getObj_map {P:Program} {b:Nat} {es:Array MapEntry} {c:Nat} (h:w.heap[b]?=some (.map es c)):(getObj b).run P w=.ok (.map es c) w:=by
 simp [getObj,Sem.run,h]

theorem run_setObj_map {P:Program} {b:Nat} {es:Array MapEntry} {c:Nat} (h:w.heap[b]?=some (.map es c)) (o:Obj):(setObj b o).run P w=.ok () { w with heap:=w.heap.setIfInBounds b o }:=by
 simp [setObj,Sem.run,h]

theorem run_findKey {t:TypeId} {kd:TypeDesc} (h:bT E t=some kd) {kv:Value} {l:List MapEntry} {r:Option (Nat × Value)} (hf:Instr.findNow kd kv l 0=some r):
  (Instr.findKey t kv l).run E.P w=.ok r w:=by
 simp [Instr.findKey,run_underlying h,hf]

theorem r7 {t:TypeId} {m k x:SV} {ok:Bool} {mv kv:Value} (h:oE E t m k ok s=some (x,s')) (hr:HR ν M w0 s w) (hm:VR ν m mv) (hk:VR ν k kv):
  s.dH s'/\(s'.ob->s.ob/\∃ y,(Instr.lookup t mv kv ok).run E.P w=.ok y w/\VR ν x y):=by
 unfold oE at h;split at h
 ·rename_i kt et hd;cases hkd:jP E kt with
  | none=>rw [hkd] at h;cases h
  | some kd=>
  rw [hkd] at h;simp only [WE,V9] at h;obtain ⟨hkt,hkey⟩:=nS hkd;cases hi:bR E et with
  | none=>rw [hi] at h;cases h
  | some zi=>
  rw [hi] at h;simp only [V9] at h;cases hz:zi.zero with
  | none=>rw [hz] at h;cases h
  | some z=>
  rw [hz] at h;simp only [V9] at h
  have key:∀ (es:List (SV × SV × Nat)) (l:List MapEntry),eI ν es l->
    (∀ (q:Option (Nat × Value)),Instr.findNow kd kv l 0=some q->(Instr.lookup t mv kv ok).run E.P w=
     .ok (if ok=true then .tuple #[(q.map (·.2)).getD z,.bool q.isSome] else (q.map (·.2)).getD z) w)->
    ((lI E kd k es s).bind fun p=>match p.1 with
     | some (_,x,_)=>some (bif ok then SV.tup [x,.v (.bool true)] else x,p.2)
     | none=>some (bif ok then SV.tup [.v z,.v (.bool false)] else .v z,p.2))=some (x,s')->
    s.dH s'/\(s'.ob->s.ob/\∃ y,(Instr.lookup t mv kv ok).run E.P w=.ok y w/\VR ν x y):=by
   intro es l hl Zj h;cases hf:lI E kd k es s with
   | none=>rw [hf] at h;cases h
   | some p=>
   obtain ⟨r,s1⟩:=p;rw [hf] at h;simp only [V9] at h;obtain ⟨YG,YK⟩:=tj hk hf hl;cases r with
   | none=>
    simp only at h;cases h;refine ⟨YG,fun ob=>⟨(YK ob).1,_,Zj none (YK ob).2,?_⟩⟩;cases ok
    ·exact VR.ae.2 rfl
    ·exact VR.cz.2 ⟨[z,.bool false],rfl,au.cons (VR.ae.2 rfl) (au.cons (VR.ae.2 rfl) au.nil)⟩
   | some q=>
    obtain ⟨j,x0,born⟩:=q;simp only at h;cases h;refine ⟨YG,fun ob=>?_⟩;obtain ⟨YU,_,e,he,hx,_,ZO,_⟩:=YK ob;refine ⟨YU,_,Zj (some (j,e.val)) ZO,?_⟩;cases ok
    ·exact hx
    ·exact VR.cz.2 ⟨[e.val,.bool true],rfl,au.cons hx (au.cons (VR.ae.2 rfl) au.nil)⟩
  split at h
  ·obtain rfl:=VR.ae.1 hm;refine key [] [] rfl (fun q hq=>?_) h;simp only [Instr.lookup,Wf,run_underlying hd,V3,Wl,run_checkKey hkt hkey,run_findKey hkt hq];cases q with
   | none=>cases ok <;> simp [dC hi hz]
   | some q=>cases ok <;> simp
  ·rename_i i;split at h
   ·rename_i es clock own hl;obtain ⟨_,_,b,o,hb,ho,YO,_⟩:=hr.look hl;obtain ⟨c,hc,rfl⟩:=VR.cV.1 hm;rw [hb] at hc;cases hc;obtain ⟨l,rfl,hl⟩:=YO;refine key es l hl (fun q hq=>?_) h;simp only [Instr.lookup,Wf,run_underlying hd,run_getObj_map ho,V3,Wl,run_checkKey hkt hkey,run_findKey hkt hq];cases q with
    | none=>cases ok <;> simp [dC hi hz]
    | some q=>cases ok <;> simp
   ·cases h
  ·cases h
 ·cases h

end
section
variable {ν:aP} {M:Own} {w0 w:World} {s s':SH} {E:Env}

theorem run_keyThatStays {P:Program} {old new:Value} (h:∀ n,Instr.sameBits (n+1) old new=true):(Instr.keyThatStays old new).run P w=.ok new w:=by
 unfold Instr.keyThatStays;rw [if_pos (h 9999)];rfl

theorem HR.As (hr:HR ν M w0 s w) {i:Nat} {es:List (SV × SV × Nat)} {clock:Nat} (hl:s.look i=some (.map es clock,true)) {b:Nat × Nat} (hb:ν i=some b)
  {fs:List (SV × SV × Nat)} {l:List MapEntry} {clock':Nat} (hf:eI ν fs l):
  HR ν M w0 (s.put i (.map fs clock')) { w with heap:=w.heap.setIfInBounds b.1 (.map l.toArray clock') }:=
 hr.put hl hb (o:=.map fs clock') ⟨l,rfl,hf⟩ rfl rfl rfl rfl

theorem ru (l:List MapEntry) (j:Nat) (f:MapEntry->MapEntry):l.toArray.modify j f=(l.modify j f).toArray:=by
 apply Array.ext';simp

theorem ni {t:TypeId} {m k x:SV} {mv kv xv:Value} (h:nH E t m k x s=some s') (hr:HR ν M w0 s w) (hm:VR ν m mv) (hk:VR ν k kv) (hx:VR ν x xv):
  s'.ob->s.ob/\v8 E.P (Instr.mapUpdate t mv kv xv) ν M w0 w s':=by
 unfold nH at h;split at h
 ·rename_i kt et i hd;cases hkd:jP E kt with
  | none=>rw [hkd] at h;cases h
  | some kd=>
  rw [hkd] at h;simp only [WE,V9] at h;obtain ⟨hkt,hkey⟩:=nS hkd;split at h
  ·rename_i es clock hl;obtain ⟨c,hc,rfl⟩:=VR.cV.1 hm;cases hf:lI E kd k es s with
   | none=>rw [hf] at h;cases h
   | some p=>
   obtain ⟨r,s1⟩:=p;rw [hf] at h;simp only [V9] at h;obtain ⟨_,_,b,o,hb,ho,YO,_⟩:=hr.look hl;rw [hc] at hb;cases hb;obtain ⟨l,rfl,hent⟩:=YO;obtain ⟨YG,YK⟩:=tj hk hf hent;have hl1:s1.look i=some (.map es clock,true):=by rw [YG.look];exact hl
   have ZS:=hr.same YG;cases r with
   | none=>
    simp only at h;cases h;intro ob;have ob:s1.ob:=ob;obtain ⟨YU,ZO⟩:=YK ob;refine ⟨YU,ν,_,aP.Le.refl _,?_,ZS.As hl1 hc (l:=l++[{ key:=kv,val:=xv,born:=clock }]) (hent.append ⟨_,[],rfl,hk,hx,rfl,rfl⟩)⟩;simp only [Instr.mapUpdate,Wf,run_underlying hd,V3,run_getObj_map ho,run_checkKey hkt hkey,run_findKey hkt ZO,run_setObj_map ho];simp
   | some q=>
    obtain ⟨j,x0,born⟩:=q;simp only at h;cases h;intro ob;have ob:s1.ob:=ob;obtain ⟨YU,_,e,he,_,_,ZO,hsb⟩:=YK ob;rw [Yj] at he;refine ⟨YU,ν,_,aP.Le.refl _,?_,ZS.As hl1 hc (l:=l.modify j fun e=>{ e with key:=kv,val:=xv }) (hent.modify j _ _ fun a e _ _ h3=>⟨hk,hx,h3⟩)⟩;have hkey':((l.toArray[j]?).map (·.key)).getD kv=e.key:=by simp [he]
    simp only [Instr.mapUpdate,Wf,run_underlying hd,V3,run_getObj_map ho,run_checkKey hkt hkey,run_findKey hkt ZO,hkey',run_keyThatStays hsb,run_setObj_map ho,ru]
  ·cases h
 ·cases h

theorem AF {t:TypeId} {rest:List TypeId} {m k x:SV} {mv kv:Value} {ty:TypeId} (h:wY E t m k s=some (x,s')) (hr:HR ν M w0 s w) (hm:VR ν m mv) (hk:VR ν k kv):
  s'.ob->s.ob/\c7 E.P (Builtin.delete_ (t::rest).toArray ty #[mv,kv]) ν M w0 w x s':=by
 have a0:((t::rest).toArray:Array TypeId)[0]?=some t:=by simp
 have b0:(#[mv,kv]:Array Value)[0]?=some mv:=rfl;have b1:(#[mv,kv]:Array Value)[1]?=some kv:=rfl;unfold wY at h;split at h
 ·rename_i kt et hd;cases hkd:jP E kt with
  | none=>rw [hkd] at h;cases h
  | some kd=>
  rw [hkd] at h;simp only [WE,V9] at h;obtain ⟨hkt,hkey⟩:=nS hkd;split at h
  ·cases h;obtain rfl:=VR.ae.1 hm;refine fun ob=>⟨ob,c7.now hr ?_ (VR.ae.2 rfl)⟩;simp only [Builtin.delete_,a0,b0,b1,Wf,run_underlying hd,V3,run_checkKey hkt hkey,Wl]
  ·rename_i i;split at h
   ·rename_i es clock hl;obtain ⟨c,hc,rfl⟩:=VR.cV.1 hm;cases hf:lI E kd k es s with
    | none=>rw [hf] at h;cases h
    | some p=>
    obtain ⟨r,s1⟩:=p;rw [hf] at h;simp only [V9] at h;obtain ⟨_,_,b,o,hb,ho,YO,_⟩:=hr.look hl;rw [hc] at hb;cases hb;obtain ⟨l,rfl,hent⟩:=YO;obtain ⟨YG,YK⟩:=tj hk hf hent;have hl1:s1.look i=some (.map es clock,true):=by rw [YG.look];exact hl
    have ZS:=hr.same YG;cases r with
    | none=>
     simp only at h;cases h;intro ob;obtain ⟨YU,ZO⟩:=YK ob
     have hself:w.heap.setIfInBounds c.1 (.map l.toArray clock)=w.heap:=by
      apply Xt;intro j;rw [WN];split
      ·rename_i ej;subst ej;have h1:=(VY.1 ho).1;have h2:=(VY.1 ho).2;simp [h1,h2]
      ·rfl
     refine ⟨YU,c7.now ZS ?_ (VR.ae.2 rfl)⟩;simp only [Builtin.delete_,a0,b0,b1,Wf,run_underlying hd,run_getObj_map ho,V3,run_checkKey hkt hkey,run_findKey hkt ZO,run_setObj_map ho,hself,Wl]
    | some q=>
     obtain ⟨j,x0,born⟩:=q;simp only at h;cases h;intro ob;have ob:s1.ob:=ob;obtain ⟨YU,_,e,he,_,_,ZO,_⟩:=YK ob;refine ⟨YU,ν,_,_,aP.Le.refl _,?_,VR.ae.2 rfl,ZS.As hl1 hc (l:=l.eraseIdx j) (hent.erase j)⟩
     have her:l.toArray.eraseIdxIfInBounds j=(l.eraseIdx j).toArray:=by
      apply Array.ext';simp
     simp only [Builtin.delete_,a0,b0,b1,Wf,run_underlying hd,run_getObj_map ho,V3,run_checkKey hkt hkey,run_findKey hkt ZO,run_setObj_map ho,her,Wl]
   ·cases h
  ·cases h
 ·cases h

end
section
variable {ν:aP} {M:Own} {w0 w:World} {s s':SH} {E:Env}

theorem D3 {t:TypeId} {x y:SV} {xv:Value} (h:Aj E t x s=some (y,s')) (hr:HR ν M w0 s w) (hx:VR ν x xv):
  s'.ob=s.ob/\c7 E.P (Instr.range t xv) ν M w0 w y s':=by
 unfold Aj at h;split at h
 ·rename_i b hd;obtain rfl:=VR.ae.1 hx;cases hn:eX (.siter b 0) s with
  | none=>rw [hn] at h;cases h
  | some p=>
  obtain ⟨i,s1⟩:=p;rw [hn] at h;cases h;obtain ⟨YK,ν',hle,hi,YY⟩:=gx hn hr 0 (r:=.stringIter b 0) (fun _ _ _=>rfl);refine ⟨YK,ν',_,_,hle,?_,VR.aF.2 ⟨_,hi,rfl⟩,YY⟩;simp only [Instr.range,Wf,run_underlying hd,V3,Wl,Yn]
 ·rename_i k e hd;obtain rfl:=VR.ae.1 hx;cases hn:eX (.miter none 0 [] 0) s with
  | none=>rw [hn] at h;cases h
  | some p=>
  obtain ⟨i,s1⟩:=p;rw [hn] at h;cases h;obtain ⟨YK,ν',hle,hi,YY⟩:=gx hn hr 0 (r:=.mapIter none 0 #[] 0) (fun _ _ _=>rfl);refine ⟨YK,ν',_,_,hle,?_,VR.aF.2 ⟨_,hi,rfl⟩,YY⟩;simp only [Instr.range,Wf,run_underlying hd,V3,Wl,Yn]
 ·rename_i k e m hd;obtain ⟨c,hc,rfl⟩:=VR.cV.1 hx;split at h
  ·rename_i es clock own hl;cases hn:eX (.miter (some m) clock [] clock) s with
   | none=>rw [hn] at h;cases h
   | some p=>
   obtain ⟨i,s1⟩:=p;rw [hn] at h;cases h;obtain ⟨_,_,b,o,hb,ho,YO,_⟩:=hr.look hl;rw [hc] at hb;cases hb;obtain ⟨l,rfl,_⟩:=YO;obtain ⟨YK,ν',hle,hi,YY⟩:=gx hn hr 0 (r:=.mapIter (some c.1) clock #[] clock) (fun ν' hle _=>⟨c,hle _ _ hc,rfl⟩);refine ⟨YK,ν',_,_,hle,?_,VR.aF.2 ⟨_,hi,rfl⟩,YY⟩;simp only [Instr.range,Wf,run_underlying hd,run_getObj_map ho,V3,Wl,Yn]
  ·cases h
 ·cases h

theorem eI.filter {es:List (SV × SV × Nat)} {l:List MapEntry} (h:eI ν es l) (p:Nat->Bool):eI ν (es.filter fun e=>p e.2.2) (l.filter fun e=>p e.born):=by
 induction es generalizing l with
 | nil=>have h':l=[]:=h;subst h';exact rfl
 | cons a es ih=>
  obtain ⟨z,zs,rfl,h1,h2,h3,hs⟩:=h;simp only [List.filter_cons,<- h3];split
  ·exact ⟨z,_,rfl,h1,h2,h3,ih hs⟩
  ·exact ih hs

theorem eI.get {es:List (SV × SV × Nat)} {l:List MapEntry} {j:Nat} {e:MapEntry} (h:eI ν es l) (he:l[j]?=some e):∃ a,es[j]?=some a/\VR ν a.1 e.key/\VR ν a.2.1 e.val/\a.2.2=e.born:=by
 induction es generalizing l j with
 | nil=>have h':l=[]:=h;subst h';simp at he
 | cons a es ih=>
  obtain ⟨z,zs,rfl,h1,h2,h3,hs⟩:=h;cases j with
  | zero=>simp at he;subst he;exact ⟨a,by simp,h1,h2,h3⟩
  | succ j=>simp at he;obtain ⟨b,hb,k⟩:=ih hs he;exact ⟨b,by simpa using hb,k⟩

theorem eI.all {es:List (SV × SV × Nat)} {l:List MapEntry} (h:eI ν es l) (p:Nat->Bool):es.all (fun e=>p e.2.2)=l.all (fun e=>p e.born):=by
 induction es generalizing l with
 | nil=>have h':l=[]:=h;subst h';rfl
 | cons a es ih=>
  obtain ⟨z,zs,rfl,_,_,h3,hs⟩:=h;simp only [List.all_cons,h3,ih hs]

theorem eI.isEmpty {es:List (SV × SV × Nat)} {l:List MapEntry} (h:eI ν es l):l.isEmpty=es.isEmpty:=by
 have:=h.length;cases l <;> cases es <;> simp_all

theorem gB {P:Program} {b:Nat} {o:Obj} (h:w.heap[b]?=some o) (hc:∀ c e f,o≠.cells c e f):(getObj b).run P w=.ok o w:=by
 unfold getObj;rw [Sem.run];cases o with
 | cells c e f=>exact absurd rfl (hc c e f)
 | _=>rw [h];rfl

theorem h8 {P:Program} {b:Nat} {o:Obj} (h:w.heap[b]?=some o) (hc:∀ c e f,o≠.cells c e f) (o':Obj):(setObj b o').run P w=.ok () { w with heap:=w.heap.setIfInBounds b o' }:=by
 unfold setObj;rw [Sem.run];cases o with
 | cells c e f=>exact absurd rfl (hc c e f)
 | _=>rw [h];rfl

theorem Az {x:SV} {isS:Bool} {xv:Value} {ty:TypeId} {L:List (SV × SH)} (h:kS x isS s=some L) (hr:HR ν M w0 s w) (hx:VR ν x xv):
  ∃ p∈L,p.2.ob=s.ob/\c7 E.P (Instr.next xv isS ty) ν M w0 w p.1 p.2:=by
 unfold kS at h;split at h
 ·-- a text
  rename_i i;obtain ⟨c,hc,rfl⟩:=VR.aF.1 hx;split at h
  ·rename_i b pos hl;obtain ⟨_,_,c',o,ZW,ho,YO,_⟩:=hr.look hl;rw [hc] at ZW;cases ZW;obtain rfl:o=.stringIter b pos:=YO;have hg:=gB (P:=E.P) ho (by intro a b c e;cases e);cases YR:Nat.blt pos b.size
   ·rw [YR] at h;cases h;refine ⟨_,Wk.2 rfl,rfl,c7.now hr ?_ (VR.ae.2 rfl)⟩;have:¬ pos<b.size:=fun e=>by rw [dw.2 e] at YR;cases YR
    simp only [Instr.next,Wf,hg,V3,if_neg this,Wl]
   ·rw [YR] at h;cases h;have YR:=dw.1 YR;have hs:=h8 (P:=E.P) ho (by intro a b c e;cases e) (.stringIter b (pos+(Utf8.decode b pos).2))
    refine ⟨_,Wk.2 rfl,rfl,ν,_,_,aP.Le.refl _,?_,VR.cz.2 ⟨[_,_,_],rfl,au.cons (VR.ae.2 rfl) (au.cons (VR.ae.2 rfl) (au.cons (VR.ae.2 rfl) au.nil))⟩,
     hr.put (w':={ w with heap:=w.heap.setIfInBounds c.1 (.stringIter b (pos+(Utf8.decode b pos).2)) }) hl hc (o:=.siter b (pos+(Utf8.decode b pos).2)) (r:=.stringIter b (pos+(Utf8.decode b pos).2)) rfl rfl rfl rfl rfl⟩
    simp only [Instr.next,Wf,hg,V3,if_pos YR,hs,Wl,goInt]
  ·cases h
 ·-- a map
  rename_i i;obtain ⟨c,hc,rfl⟩:=VR.aF.1 hx;split at h
  ·rename_i since seen last own hl;cases h;obtain ⟨_,_,c',o,ZW,ho,YO,_⟩:=hr.look hl;rw [hc] at ZW;cases ZW;obtain rfl:o=.mapIter none since seen.toArray last:=YO;have hg:=gB (P:=E.P) ho (by intro a b c e;cases e);refine ⟨_,Wk.2 rfl,rfl,c7.now hr ?_ (VR.ae.2 rfl)⟩;simp only [Instr.next,Wf,hg,V3,Wl]
  ·rename_i m since seen last hl;split at h
   ·rename_i es clock own hlm;cases hun:(!seen.isEmpty&&!es.isEmpty&&es.all (fun e=>Nat.ble last e.2.2));rotate_left
    ·rw [hun] at h;cases h
    rw [hun] at h;simp only [W6,Option.some.injEq] at h;obtain ⟨_,_,c',o,ZW,ho,YO,_⟩:=hr.look hl;rw [hc] at ZW;cases ZW;obtain ⟨cm,hcm,rfl⟩:=YO;obtain ⟨_,_,c',o,ZW,hom,horm,_⟩:=hr.look hlm;rw [hcm] at ZW;cases ZW;obtain ⟨l,rfl,hent⟩:=horm;have hg:=gB (P:=E.P) ho (by intro a b c e;cases e);have hgm:=run_getObj_map (P:=E.P) hom;have e1:(fun e:SV × SV × Nat=>Nat.ble last e.2.2)=(fun e=>(fun n=>Nat.ble last n) e.2.2):=rfl
    have hun':(!seen.toArray.isEmpty&&!l.toArray.isEmpty&&l.toArray.all (fun e=>decide (e.born≥last)))=false:=by
     rw [<- hun,e1,hent.all]
     have:(fun e:MapEntry=>decide (e.born≥last))=(fun e:MapEntry=>(fun n=>Nat.ble last n) e.born):=by
      funext e;rw [Yg];simp
     simp only [List.isEmpty_toArray,hent.isEmpty,List.all_toArray,this]
    have hleft:=hent.filter (fun n=>!seen.contains n);generalize hA:(es.filter fun e=>!seen.contains e.2.2)=left at *;generalize hB:(l.filter fun e=>!seen.contains e.born)=leftv at *;have hold:=hleft.filter (fun n=>Nat.blt n since);have Z2:=hleft.filter (fun n=>Nat.ble since n);have hboth:=hold.append Z2
    have f1:(l.toArray.filter fun e=>!seen.toArray.contains e.born)=leftv.toArray:=by
     rw [List.filter_toArray,<- hB];simp
    have f2:(leftv.toArray.filter fun e=>decide (e.born<since))=(leftv.filter fun e=>Nat.blt e.born since).toArray:=by
     rw [List.filter_toArray];congr 1;apply List.filter_congr;intro e _;rw [Yg,dw];simp
    have f3:(leftv.toArray.filter fun e=>decide (e.born≥since))=(leftv.filter fun e=>Nat.ble since e.born).toArray:=by
     rw [List.filter_toArray];congr 1;apply List.filter_congr;intro e _;rw [Yg];simp
    have hemp:=hold.isEmpty;generalize hO:(left.filter fun e=>Nat.blt e.2.2 since)=old at *;generalize hN:(left.filter fun e=>Nat.ble since e.2.2)=new at *;generalize hOv:(leftv.filter fun e=>Nat.blt e.born since)=oldv at *;generalize hNv:(leftv.filter fun e=>Nat.ble since e.born)=newv at *;let Zy:List (Option MapEntry):=(if oldv.isEmpty then [none] else [])++(oldv++newv).map some
    have fc:(if (oldv.toArray).isEmpty=true then #[none] else #[])++Array.map some (oldv.toArray++newv.toArray)=Zy.toArray:=by
     simp only [Zy,List.isEmpty_toArray];split <;> (apply Array.ext';simp)
    have hpos:0<Zy.length:=by
     simp only [Zy];cases oldv <;> simp
    obtain ⟨idx,k,hch,hidx⟩:∃ idx k,(choose (.mapNext Zy.length)).run E.P w=.ok idx { w with drawn:=k }/\idx<Zy.length:=by
     rw [run_choose];by_cases h1:Zy.length<=1
     ·have hf:(Question.mapNext Zy.length).forced=true:=by simp [Question.forced,h1]
      exact ⟨0,w.drawn,by rw [if_pos hf],hpos⟩
     ·have hf:¬ (Question.mapNext Zy.length).forced=true:=by simp [Question.forced];omega
      refine ⟨_,w.drawn+1,by rw [if_neg hf],?_⟩;simp only [Question.cut];exact Yh _ hpos
    have YH:(Instr.next (.pointer (some ⟨c.1,0,none⟩)) false ty).run E.P w=((match Zy[idx]? with
      | some (some e)=>(do setObj c.1 (.mapIter (some cm.1) since (seen.toArray.push e.born) clock);pure (.tuple #[.bool true,e.key,e.val]))
      | some none=>pure (.tuple #[.bool false])
      | none => stuck "Next: no such candidate" : Sem Value)).run E.P { w with drawn := k } := by
     have hch':(choose (.mapNext Zy.toArray.size)).run E.P w=.ok idx { w with drawn:=k }:=hch;simp only [Instr.next,Wf,hg,V3,hgm,hun',Xj,Yi,Wl,f1,f2,f3,fc,hch'];simp only [X7];generalize Zy[idx]?=q;rcases q with _ | _ | e <;> rfl
    have hr2:=hr.drawn k;obtain ⟨cd,hcd⟩:∃ cd,Zy[idx]?=some cd:=⟨_,V4 hidx⟩;rw [hcd] at YH;cases cd with
    | none=>
     have hoe:old.isEmpty=true:=by
      rw [<- hemp];cases hxe:oldv.isEmpty with
      | true=>rfl
      | false=>
       have Zx:(none:Option MapEntry)∈Zy:=Xi hcd;simp [Zy,hxe] at Zx
     subst h;refine ⟨(.v (.tuple #[.bool false]),s),by simp [hoe],rfl,ν,_,_,aP.Le.refl _,by rw [YH];rfl,VR.ae.2 rfl,hr2⟩
    | some e=>
     have hj:∃ j:Nat,(oldv++newv)[j]?=some e:=by
      have Zx:some e∈Zy:=Xi hcd;simp only [Zy,WJ] at Zx;rcases Zx with hm | hm
      ·split at hm <;> simp at hm
      ·obtain ⟨e',he',hee⟩:=Wc.1 hm;cases hee;exact WZ he'
     obtain ⟨j,hj⟩:=hj;obtain ⟨a,ha,h1,h2,h3⟩:=hboth.get hj;have hamem:a∈old++new:=Xi ha;have hs:=h8 (P:=E.P) (w:={ w with drawn:=k }) ho (by intro a b c e;cases e) (.mapIter (some cm.1) since (seen.toArray.push e.born) clock);subst h
     refine ⟨(SV.tup [.v (.bool true),a.1,a.2.1],s.put i (.miter (some m) since (seen++[a.2.2]) clock)),?_,rfl,ν,_,_,aP.Le.refl _,?_,
      VR.cz.2 ⟨[.bool true,e.key,e.val],rfl,au.cons (VR.ae.2 rfl) (au.cons h1 (au.cons h2 au.nil))⟩,
      hr2.put (w':={ w with drawn:=k,heap:=w.heap.setIfInBounds c.1 (.mapIter (some cm.1) since (seen.toArray.push e.born) clock) }) hl hc (o:=.miter (some m) since (seen++[a.2.2]) clock) (r:=.mapIter (some cm.1) since (seen.toArray.push e.born) clock) ⟨cm,hcm,by rw [h3];simp⟩ rfl rfl rfl rfl⟩
     ·have:(SV.tup [.v (.bool true),a.1,a.2.1],s.put i (.miter (some m) since (seen++[a.2.2]) clock))∈(old++new).map fun e=>(SV.tup [.v (.bool true),e.1,e.2.1],s.put i (.miter (some m) since (seen++[e.2.2]) clock)):=
       Wc.2 ⟨a,hamem,rfl⟩
      cases old.isEmpty
      ·exact this
      ·exact Wb _ this
     ·rw [YH];simp only [Wf,hs,V3,Wl]
   ·cases h
  ·cases h
 ·cases h

theorem eI.find {st:Nat}:∀ {es:List (SV × SV × Nat)} {l:List MapEntry} {a:SV × SV × Nat},eI ν es l->(es.find? fun e=>Nat.beq e.2.2 st)=some a->
  ∃ e,(l.find? fun e=>e.born==st)=some e/\VR ν a.1 e.key/\VR ν a.2.1 e.val
 | [],_,_,_,h=>by cases h
 | x::xs,_,a,⟨z,zs,e,h1,h2,h3,hs⟩,h=>by
  subst e;rw [X5] at h ⊢
  have hb:(z.born==st)=Nat.beq x.2.2 st:=by
   rw [h3];cases hq:Nat.beq z.born st
   ·have:¬ z.born=st:=fun e=>by rw [e] at hq;simp at hq
    simpa using this
   ·simpa using WK hq
  rw [hb];cases hq:Nat.beq x.2.2 st
  ·rw [hq] at h;exact eI.find hs h
  ·rw [hq] at h;cases h;exact ⟨z,rfl,h1,h2⟩

theorem BB {x y:SV} (h:xF x s=some (y,s')):s.dH s'/\(s'.ob->s.ob/\tp x s=some y):=by
 unfold xF at h;split at h
 ·rename_i i k y _;split at h
  ·rename_i m since seen Y9 mk hl;split at h
   ·rename_i es clock mk2 hm;cases h;refine ⟨SH.cj _ _,fun ob=>⟨ob.1,?_⟩⟩;obtain ⟨YN,b,h1,h2,h3⟩:=ob.2;unfold tp;have:Nat.beq clock Y9=true:=by rw [h2];simp
    simp only [hl,hm,h1,this,WG,h3,Xb]
   ·cases h
  ·cases h
 ·cases h
theorem vj {x y:SV} {xv:Value} (h:tp x s=some y) (hr:HR ν M w0 s w) (hx:VR ν x xv):∃ v,(Instr.entry xv).run E.P w=.ok v w/\VR ν y v:=by
 unfold tp at h;split at h
 ·rename_i i;split at h
  ·rename_i m since seen Y9 wr hl;split at h
   ·rename_i es clock wr2 YN hm hlast;obtain ⟨b,hb,rfl⟩:=VR.aF.1 hx;obtain ⟨_,_,b',o,YM,ho,YO,_⟩:=hr.look hl;rw [hb] at YM;cases YM;obtain ⟨bm,hbm,rfl⟩:=YO;obtain ⟨_,_,b2,o2,Za,ho2,hor2,_⟩:=hr.look hm;rw [hbm] at Za;cases Za;obtain ⟨l,rfl,hes⟩:=hor2;cases hc:Nat.beq clock Y9
    ·rw [hc] at h;cases h
    ·rw [hc] at h;simp only [WG] at h;have hc:=WK hc;subst hc;cases hf:es.find? fun e=>Nat.beq e.2.2 YN with
     | none=>rw [hf] at h;cases h
     | some a=>
     rw [hf] at h;cases h;obtain ⟨e,he,hk,hv⟩:=hes.find hf;refine ⟨.tuple #[e.key,e.val],?_,VR.cz.2 ⟨[e.key,e.val],rfl,au.cons hk (au.cons hv au.nil)⟩⟩;have hback:seen.toArray.back?=some YN:=by simpa using hlast
     simp [Instr.entry,gB (P:=E.P) ho (by intro c e f;exact fun h=>by cases h),gB (P:=E.P) ho2 (by intro c e f;exact fun h=>by cases h),hback,he]
   ·cases h
  ·cases h
 ·cases h

end
section
variable {ν:aP} {M:Own} {w0 w:World} {s s':SH} {E:Env}

theorem lU {x y:SV} {xt at_:TypeId} {ok:Bool} {xv:Value} (h:lE E x at_ ok=some y) (hx:VR ν x xv):
  ∃ yv,(Instr.typeAssert xv xt at_ ok).run E.P w=.ok yv w/\VR ν y yv:=by
 unfold lE at h;cases h

theorem Jm {t:TypeId} {x y:SV} {xv yv:Value} {r:Bool} (h:LJ E t x y s=some (r,s')) (hx:VR ν x xv) (hy:VR ν y yv):
  s'=s/\∃ info,bR E t=some info/\info.comparable=true/\(Op.equalIn 9999 t xv yv).run E.P w=.ok r w:=by
 unfold LJ at h;split at h
 ·rename_i info e i o j p hi hd;cases hc:(info.comparable&&i==j)
  ·rw [hc] at h;cases h
  rw [hc] at h;rw [V6] at hc;obtain ⟨hc,hij⟩:=hc;obtain rfl:i=j:=by simpa using hij
  simp only [WG] at h;obtain ⟨b,hb,rfl⟩:=VR.aF.1 hx;obtain ⟨b',YM,rfl⟩:=VR.aF.1 hy;rw [hb] at YM;cases YM;split at h
  ·rename_i ei hei;cases hz:(ei.size==0)
   ·rw [hz] at h;cases h;have hz:ei.size≠0:=by simpa using hz
    refine ⟨rfl,info,hi,hc,?_⟩;rw [show (9999:Nat)=9998+1 from rfl,Op.equalIn];simp only [Wf,run_underlying hd,V3,run_sizeOf hei,if_pos hz,sameAddr,WB,Yq,Wl];congr 1;rw [Yg];simp
   ·rw [hz] at h;cases h
  ·cases h
 ·rename_i info _ x y hi hd;obtain rfl:=VR.ae.1 hx;obtain rfl:=VR.ae.1 hy;cases hc:info.comparable
  ·rw [hc] at h;cases h
  rw [hc] at h;simp only [WG] at h;cases hp:ep E.P (Op.equalIn 9999 t xv yv) with
  | none=>rw [hp] at h;cases h
  | some r'=>rw [hp] at h;cases h;exact ⟨rfl,info,hi,hc,jm hp w⟩
 ·cases h

theorem oC {t : TypeId} {x y : SV} {xv yv : Value} {r : Bool} (h : xx E t x y s = some (r, s')) (hx : VR ν x xv) (hy : VR ν y yv) :
    s' = s /\ (Op.equal t xv yv).run E.P w = .ok r w /\ (∀ op a b, (eqGuard op t a b xv yv).run E.P w = .ok () w) /\ binOp .eql t xv yv = (do pure (.bool (<- Op.equal t xv yv))) /\
      binOp .neq t xv yv = (do pure (.bool (!(<- Op.equal t xv yv)))) := by
  have eg : ∀ {xv yv : Value} (op : BinOp) (a b : Operand), (∀ c, xv ≠ .agg c) -> ¬ (xv = .nilIface /\ yv = .nilIface) -> (eqGuard op t a b xv yv).run E.P w = .ok () w := by
    intro xv yv op a b h1 h2;unfold eqGuard;cases op <;> simp <;> (cases xv <;> first | rfl | (exact absurd rfl (h1 _)) | (cases yv <;> first | rfl | (exact absurd ⟨rfl, rfl⟩ h2)))
  unfold xx at h;split at h
  · rename_i e i o j p hd
    cases hij : (i == j)
    · rw [hij] at h; cases h
    rw [hij] at h;obtain rfl : i = j := by simpa using hij
    simp only [WG] at h;obtain ⟨b, hb, rfl⟩ := VR.aF.1 hx;obtain ⟨b', YM, rfl⟩ := VR.aF.1 hy;rw [hb] at YM; cases YM;split at h
    · rename_i info YQ
      cases hz : (info.size == 0)
      · rw [hz] at h; cases h
        have hz : info.size ≠ 0 := by simpa using hz
        refine ⟨rfl, ?_, fun op a b => eg op a b (by intro c e; cases e) (by intro e; cases e.1), rfl, rfl⟩;rw [Op.equal, show Op.maxDepth = 9999 + 1 from rfl, Op.equalIn];simp only [Wf, run_underlying hd, V3, run_sizeOf YQ, if_pos hz, sameAddr, WB, Yq, Wl];congr 1;rw [Yg]; simp
      · rw [hz] at h; cases h
    · cases h
  all_goals first
    | (rename_i ms t1 x1 t2 y1 hd
       obtain ⟨v1, rfl, hv1⟩ := VR.dp.1 hx;obtain ⟨v2, rfl, hv2⟩ := VR.dp.1 hy;cases ht : (t1 == t2)
       · rw [ht] at h; cases h
         refine ⟨rfl, ?_, fun op a b => eg op a b (by intro c e; cases e) (by intro e; cases e.1), rfl, rfl⟩;rw [Op.equal, show Op.maxDepth = 9999 + 1 from rfl, Op.equalIn];have ht : t1 ≠ t2 := by simpa using ht
         simp only [Wf, run_underlying hd, V3, if_pos ht, Wl]
       · rw [ht] at h
         obtain rfl : t1 = t2 := by simpa using ht
         obtain ⟨rfl, info, hi, hc, YH⟩ := Jm (w := w) h hv1 hv2;refine ⟨rfl, ?_, fun op a b => eg op a b (by intro c e; cases e) (by intro e; cases e.1), rfl, rfl⟩;rw [Op.equal, show Op.maxDepth = 9999 + 1 from rfl, Op.equalIn];simp [run_underlying hd, run_typeInfo hi, hc, YH])
    | (rename_i hd
       cases h;first | (obtain ⟨b, _, rfl⟩ := VR.aF.1 hx) | (obtain ⟨b, _, _, rfl⟩ := VR.aL.1 hx) | (obtain ⟨b, _, rfl⟩ := VR.fw.1 hx) | (obtain ⟨b, _, rfl⟩ := VR.cV.1 hx) | (obtain ⟨b, rfl, _⟩ := VR.dp.1 hx) | (obtain ⟨b, c, rfl, _⟩ := VR.eH.1 hx) | (obtain rfl := VR.ae.1 hx)
       first | (obtain ⟨b, _, rfl⟩ := VR.aF.1 hy) | (obtain ⟨b, _, _, rfl⟩ := VR.aL.1 hy) | (obtain ⟨b, _, rfl⟩ := VR.fw.1 hy) | (obtain ⟨b, _, rfl⟩ := VR.cV.1 hy) | (obtain ⟨b, rfl, _⟩ := VR.dp.1 hy) | (obtain ⟨b, c, rfl, _⟩ := VR.eH.1 hy) | (obtain rfl := VR.ae.1 hy)
       refine ⟨rfl, ?_, fun op a b => eg op a b (by intro c e; cases e) (by intro e; obtain ⟨e1, e2⟩ := e; first | (cases e2; done) | (cases e1; done)), rfl, rfl⟩
       rw [Op.equal, show Op.maxDepth = 9999 + 1 from rfl, Op.equalIn];simp only [Wf, run_underlying hd, V3];rfl)
    | cases h

theorem r6 {t:TypeId} {x y:SV} {xv yv:Value} (h:iE E t x y s=true) (hr:HR ν M w0 s w) (hx:VR ν x xv) (hy:VR ν y yv):
  (Op.equal t xv yv).run E.P w=.ok false w/\(∀ op a b,(eqGuard op t a b xv yv).run E.P w=.ok () w)/\binOp .eql t xv yv=(do pure (.bool (<- Op.equal t xv yv)))/\
   binOp .neq t xv yv=(do pure (.bool (!(<- Op.equal t xv yv)))):=by
 unfold iE at h;split at h
 ·rename_i e i o j p hd;split at h
  ·rename_i info xs el ext m ys el' ext' m' YQ hi hj;rw [V6] at h;obtain ⟨hz,hij⟩:=h;have hz:info.size≠0:=by simpa using hz
   have hij:i≠j:=by simpa using hij
   obtain ⟨b,hb,rfl⟩:=VR.aF.1 hx;obtain ⟨c,hc,rfl⟩:=VR.aF.1 hy;obtain ⟨hi1,hi2,b',ob,YM,YK,YO,_⟩:=hr.look hi;rw [hb] at YM;cases YM;obtain ⟨hj1,hj2,c',oc,ZW,hoc,hoc',_⟩:=hr.look hj;rw [hc] at ZW;cases ZW;obtain ⟨l1,r1,rfl,_⟩:=YO;obtain ⟨l2,r2,rfl,_⟩:=hoc';have YI:b.1≠c.1:=fun e=>hij (hr.inj i j hi1 hj1 (by rw [hi2];simp) (by rw [hj2];simp) b c hb hc e);have hna:(⟨b.1,o,none⟩:Addr)≠⟨c.1,p,none⟩:=fun e=>YI (congrArg Addr.block e);have YH:=run_sameAddr_other (P:=E.P) (w:=w) hna YK hoc;refine ⟨?_,fun op a b=>by cases op <;> rfl,rfl,rfl⟩;rw [Op.equal,show Op.maxDepth=9999+1 from rfl,Op.equalIn];simp only [Wf,run_underlying hd,V3,run_sizeOf YQ,if_pos hz,YH,Wl]
  ·cases h
 ·cases h

theorem zA {t:TypeId} {x y:Value} {p:Prop} (h:lV E t x y=some p) (d:Nat):∃ b,(Op.equalIn (d+1) t x y).run E.P w=.ok b w/\(b=true↔p):=by
 unfold lV at h;split at h
 ·rename_i k k1 a k2 b hd;cases hk:(k1==k2)
  ·rw [hk] at h;cases h
  ·rw [hk] at h;cases h;obtain rfl:k1=k2:=by simpa using hk
   exact ⟨_,run_equalIn_int w d t _ _ a b hd,by simp⟩
 ·rename_i a b hd;cases h;refine ⟨_,run_equalIn_string w d t a b hd,?_⟩;rw [Xp,ByteArray.toList_eq,ByteArray.toList_eq];obtain ⟨⟨x⟩⟩:=a;obtain ⟨⟨y⟩⟩:=b;simp
 ·rename_i a b hd;cases h;exact ⟨_,run_equalIn_bool' w d t a b hd,by simp⟩
 ·cases h

theorem nf {t:TypeId} {x y z:Value} {p:Prop} {xs:Array Value} {n:Nat} (h:lV E t x y=some p) (hx:xs[n]?=some z):(part t xs n).run E.P w=.ok z w:=by
 unfold lV at h
 have:∀ {d:TypeDesc},E.P.underlying t=some d->(∀ n e,d≠.array n e)->(∀ f,d≠.struct f)->(part t xs n).run E.P w=.ok z w:=by
  intro d hd h1 h2;cases d <;> first | exact (h1 _ _ rfl).elim | exact (h2 _ rfl).elim | simp [part,isAgg,run_underlying hd,hx]
 split at h
 ·rename_i hd;exact this hd (by intro _ _ e;cases e) (by intro _ e;cases e)
 ·rename_i hd;exact this hd (by intro _ _ e;cases e) (by intro _ e;cases e)
 ·rename_i hd;exact this hd (by intro _ _ e;cases e) (by intro _ e;cases e)
 ·cases h

theorem oH {xs ys:Array Value} (d:Nat):∀ {fs:List Field} {p:Prop},ia E xs.toList ys.toList fs=some p->∃ b,(Op.eqFields (d+1) xs ys fs).run E.P w=.ok b w/\(b=true↔p)
 | [],p,h=>by
  cases h
  exact ⟨true,rfl,by simp⟩
 | f::fs,p,h=>by
  unfold ia at h
  cases hn : (f.name == "_")
  ·rw [hn] at h
   simp only [W6] at h
   have hn : f.name ≠ "_" := by simpa using hn
   split at h
   ·rename_i x y hx hy
    split at h
    ·rename_i p1 p2 h1 h2
     cases h
     rw [Array.getElem?_toList] at hx hy
     obtain ⟨b1,ZG,hp1⟩:=zA (w:=w) h1 d
     obtain ⟨b2,Za,hp2⟩:=oH d h2
     have e1:=nf (w:=w) h1 hx
     have e2:=nf (w:=w) h1 hy
     refine ⟨b1&&b2,?_,?_⟩
     ·unfold Op.eqFields
      simp only [ne_eq,hn,Xl,Yq,Wf,e1,e2,ZG,V3]
      cases b1
      ·simp
      ·simp [Za]
     ·rw [V6,hp1,hp2]
    ·cases h
   ·cases h
  ·rw [hn] at h;cases h

theorem Cl {op:BinOp} {t:TypeId} {x y:SV} {xv yv:Value} {r:Bool} (h:Ab E op t x y s=some (r,s')) (hx:VR ν x xv) (hy:VR ν y yv):
  ∃ p,s'=s.jg p/\∀ (a b:Operand) (w:World),p->(do eqGuard op t a b xv yv;binOp op t xv yv).run E.P w=.ok (.bool r) w:=by
 have key:∀ {b r:Bool},Ab.go E t s x y b r=some (r,s')->∃ p xs ys,xv=.agg xs/\yv=.agg ys/\s'=s.jg p/\E.P.eqGuardType E.P.depth t=false/\∀ w,p->(Op.equalIn 10000 t xv yv).run E.P w=.ok b w:=by
  intro b r h;unfold Ab.go at h;split at h
  ·rename_i xs ys fs hpx hpy hd;cases hg:(E.P.stoodInHeld t||E.P.eqGuardType E.P.depth t)
   ·rw [hg] at h;simp only [W6] at h;rw [X9] at hg;obtain ⟨g1,g2⟩:=hg;cases hc:ia E xs.toList ys.toList fs.toList with
    | none=>rw [hc] at h;cases h
    | some p=>
     rw [hc] at h;cases h;obtain rfl:=gI hpx hx;obtain rfl:=gI hpy hy
     have hf:E.P.fieldsOf t=fs:=by
      have hd':E.P.underlying t=some (.struct fs):=hd;unfold Program.fieldsOf;rw [hd']
     refine ⟨_,xs,ys,rfl,rfl,rfl,g2,fun w hp=>?_⟩;have ht:E.P.underlying t=some (.struct (E.P.fieldsOf t)):=by rw [hf];exact hd
     obtain ⟨b',YM,hpp⟩:=oH (w:=w) 9998 hc;rw [run_equalIn_struct w 9999 t xs ys ht g1,hf,YM];congr 1;cases b
     ·simp only [W6] at hp;cases b'
      ·rfl
      ·exact (hp (hpp.1 rfl)).elim
     ·simp only [WG] at hp;exact hpp.2 hp
   ·rw [hg] at h;cases h
  ·cases h
 unfold Ab at h;split at h
 ·rename_i b _
  have hr:r=b:=by
   unfold Ab.go at h;split at h
   ·cases hg:(E.P.stoodInHeld t||E.P.eqGuardType E.P.depth t)
    ·rw [hg] at h;simp only [W6] at h;cases hc:ia E _ _ _ with
     | none=>rw [hc] at h;cases h
     | some p=>rw [hc] at h;cases h;rfl
    ·rw [hg] at h;cases h
   ·cases h
  subst hr;obtain ⟨p,xs,ys,rfl,rfl,rfl,hg,hp⟩:=key h;refine ⟨p,rfl,fun a b w ob=>?_⟩;simp only [Wf,run_eqGuard_agg w _ _ _ _ _ _ hg,V3,run_eql_struct,hp w ob]
 ·rename_i b _
  have hr:r=!b:=by
   unfold Ab.go at h;split at h
   ·cases hg:(E.P.stoodInHeld t||E.P.eqGuardType E.P.depth t)
    ·rw [hg] at h;simp only [W6] at h;cases hc:ia E _ _ _ with
     | none=>rw [hc] at h;cases h
     | some p=>rw [hc] at h;cases h;rfl
    ·rw [hg] at h;cases h
   ·cases h
  subst hr;obtain ⟨p,xs,ys,rfl,rfl,rfl,hg,hp⟩:=key h;refine ⟨p,rfl,fun a b w ob=>?_⟩;simp only [Wf,run_eqGuard_agg w _ _ _ _ _ _ hg,V3,run_neq_struct,hp w ob]
 ·cases h

end
section
variable {ν:aP} {M:Own} {w0 w:World} {s s':SH} {E:Env}

theorem nI {l:List SV} {ns:List Int} {ys:List Value} (h:bytesOf l=some ns) (hv:au ν l ys):ys=ns.map (Value.int .u8):=by
 induction l generalizing ns ys with
 | nil=>cases h;rw [hv.ay];rfl
 | cons x l ih=>
  obtain ⟨z,zs,rfl,hz,hs⟩:=hv.cons_inv;unfold bytesOf at h;split at h
  ·rename_i he;cases he
  ·rename_i n r he;cases he;cases hb:bytesOf l with
   | none=>rw [hb] at h;cases h
   | some ms=>
    rw [hb] at h;cases h;rw [VR.ae.1 hz,ih hb hs];rfl
  ·cases h

theorem jW (ns:List Int):ns.foldl (fun r n=>r.push (UInt8.ofNat n.toNat)) ByteArray.empty=gy ns:=by
 have key:∀ (ns:List Int) (b:ByteArray),ns.foldl (fun r n=>r.push (UInt8.ofNat n.toNat)) b=⟨b.data++(ns.map fun n=>UInt8.ofNat n.toNat).toArray⟩:=by
  intro ns;induction ns with
  | nil=>intro b;simp
  | cons n ns ih=>
   intro b;simp only [X4];rw [ih];simp only [ByteArray.push,WD];congr 1;apply Array.ext';simp
 rw [key];have:ByteArray.empty.data=#[]:=rfl;simp [gy,this]

theorem jx {b:Nat} {c:Array Value} {e:TypeId} {fz:Nat × Nat} (h:w.heap[b]?=some (.cells c e fz)):w.shape? b=some (e,c.size):=by
 simp [World.shape?,h]

theorem uy {P:Program} {b off:Nat} {c:Array Value} {e:TypeId} {fz:Nat × Nat} (h:w.heap[b]?=some (.cells c e fz)):(Conv.seenAt ⟨b,off,none⟩).run P w=.ok ⟨b,off,none⟩ w:=by
 simp [Conv.seenAt,viewAt,jx h]

theorem zY (w:World) (c:Array Value) (e:TypeId) (off n:Nat) (hn:n≠0):
  ({ w with heap:=w.heap.push (.cells c e) }:World).freeze ⟨w.heap.size,off,none⟩ n={ w with heap:=w.heap.push (.cells c e (off,off+n)) }:=by
 unfold World.freeze;rw [if_neg hn];congr 1;apply Xt;intro j;rw [XC,Xk,Xk];split
 ·rename_i ej;subst ej;simp
 ·rename_i ej;rw [if_neg (fun e=>ej e.symm),if_neg (fun e=>ej e.symm)]

theorem wP {src dst:TypeId} {x y:SV} {xv:Value} (h:qg E src dst x s=some (y,s')) (hr:HR ν M w0 s w) (hx:VR ν x xv):
  s'.ob=s.ob/\c7 E.P (convert src dst xv) ν M w0 w y s':=by
 unfold qg at h;split at h
 ·-- bytes to a text
  rename_i e i off len cap hs hd;cases he:bT E e with
  | none=>rw [he] at h;cases h
  | some ed=>
  rw [he] at h;simp only [WE,V9] at h;split at h
  ·obtain ⟨b,hb,_,rfl⟩:=VR.aL.1 hx;split at h
   ·rename_i xs el fz ext own hl;cases hg:fT (Nat.ble (off+len) xs.length) with
    | none=>rw [hg] at h;cases h
    | some u=>
    rw [hg] at h;simp only [V9] at h;have hg:=Wu (kp hg);cases hbs:bytesOf ((xs.drop off).take len) with
    | none=>rw [hbs] at h;cases h
    | some ns=>
    rw [hbs] at h;cases h;obtain ⟨_,_,b',o,YM,ho,YO,_⟩:=hr.look hl;rw [hb] at YM;cases YM;obtain ⟨ys,rest,rfl,ZB,_⟩:=YO;have hlen:=ZB.length
    have ZK:=run_loadCells (P:=E.P) (w:=w) (b:=b.1) (off:=off) (n:=len) (vs:=(ys.drop off).take len) (by
     intro k hk;rw [cQ ho,WO,if_pos hk,W7];have:off+k<ys.length:=by omega
     simp [WC this]) (by simp;omega)
    rw [nI hbs ((ZB.drop off).take len)] at ZK;refine ⟨rfl,c7.now hr ?_ (VR.ae.2 rfl)⟩;rw [run_convert_bytes_string w src dst e _ _ _ hs he hd,run_bytesToString w _ _ _ ns ZK,jW]
   ·cases h
  ·cases h
 ·-- bytes to bytes
  rename_i sd e i off len cap hs hd
  have main:∀ {xs:List SV} {el:TypeId} {fz:Nat × Nat} {ext:Option Nat},(fz=(0,0)\/fz=(1,0))->(src==dst)=true->bT E e=some (.int .u8)->s.look i=some (.row xs el fz ext,true)->
    some (SV.sl i off len cap,s.put i (.row xs el (1,0) ext))=some (y,s')->s'.ob=s.ob/\c7 E.P (convert src dst xv) ν M w0 w y s':=by
   intro xs el fz ext hfz heq he hl h;cases h;obtain ⟨b,hb,hle,rfl⟩:=VR.aL.1 hx;obtain ⟨_,_,b',o,YM,ho,YO,_⟩:=hr.look hl;rw [hb] at YM;cases YM;obtain ⟨ys,rest,rfl,ZB,hext⟩:=YO;have hu:E.P.underlying src=some (.slice sd):=hs;have hu2:E.P.underlying dst=some (.slice e):=hd;have hu3:E.P.underlying e=some (.int .u8):=he
   have hfr:w.freeze ⟨b.1,(ys++rest).toArray.size,none⟩ 1={ w with heap:=w.heap.setIfInBounds b.1 (.cells (ys++rest).toArray el (ju (1,0) (ys++rest).length)) }:=by
    unfold World.freeze;rw [if_neg (by omega)];congr 1;apply Xt;intro j;rw [XC,WN];by_cases ej:b.1=j
    ·subst ej;have YR:=(VY.1 ho).1;rw [if_pos rfl,if_pos rfl,if_pos YR,ho];have f1:∀ n,ju (1,0) n=(n,n+1):=fun _=>rfl;rcases hfz with rfl | rfl
     ·simp [f1]
     ·simp [f1]
    ·rw [if_neg ej,if_neg ej]
   have YH:(convert src dst (.slice (some ⟨b.1,off,none⟩) len (cap.getD (b.2 - off)))).run E.P w=.ok (.slice (some ⟨b.1,off,none⟩) len (cap.getD (b.2 - off))) (w.freeze ⟨b.1,(ys++rest).toArray.size,none⟩ 1):=by
    simp only [convert,Wf,Go.run_underlying hu,Go.run_underlying hu2,Go.run_underlying hu3,V3,heq,markStringish,run_shape,jx ho,Wl];rfl
   refine ⟨rfl,ν,_,_,aP.Le.refl _,YH,VR.aL.2 ⟨b,hb,hle,rfl⟩,?_⟩;rw [hfr];exact hr.put hl hb ⟨ys,rest,rfl,ZB,hext⟩ rfl rfl rfl rfl
  split at h
  ·rename_i heq he hl;exact main (.inl rfl) heq he hl h
  ·rename_i heq he hl;exact main (.inr rfl) heq he hl h
  ·cases h
 ·-- a text to bytes
  rename_i e b hs hd;obtain rfl:=VR.ae.1 hx;cases he:bT E e with
  | none=>rw [he] at h;cases h
  | some ed=>
  rw [he] at h;simp only [WE,V9] at h;split at h
  ·cases hn:eX (.row (b.data.toList.map fun c=>SV.v (.int .u8 c.toNat)) e (1,0) (some 1)) s with
   | none=>rw [hn] at h;cases h
   | some p=>
   obtain ⟨i,s1⟩:=p;rw [hn] at h;cases h;generalize Ze:(Question.appendCap b.size 0 e).cut (w.tape w.drawn (.appendCap b.size 0 e))=cap;have hle:b.size<=cap:=by rw [<- Ze];simp [Question.cut]
   have hq:(Question.appendCap b.size 0 e).forced=false:=rfl
   have hch:(choose (.appendCap b.size 0 e)).run E.P w=.ok cap { w with drawn:=w.drawn+1 }:=by
    rw [run_choose,hq,Ze];rfl
   let ys:List Value:=b.data.toList.map fun c=>Value.int .u8 c.toNat;let rest:List Value:=List.replicate (cap - b.size) (Value.int .u8 0);have Z4:(ys++rest).length=cap:=by simp [ys,rest];change b.size+_=_;omega
   have hlits:au ν (b.data.toList.map fun c=>SV.v (.int .u8 c.toNat)) ys:=by
    have:=au.lits ν ys;rwa [WI] at this
   obtain ⟨YK,ν',Zp,hi,YY⟩:=gx hn (hr.drawn (w.drawn+1)) cap (r:=.cells (ys++rest).toArray e (cap,cap+1))
    (fun ν' Zp hi'=>⟨ys,rest,by rw [Z4];rfl,hlits.mono Zp,by
     refine ⟨by rw [Z4];simpa using hle,_,hi',by rw [Z4];simp⟩⟩)
   refine ⟨YK,ν',_,_,Zp,?_,VR.aL.2 ⟨_,hi,by simpa using hle,rfl⟩,YY⟩
   have hconv:(convert src dst (.string b)).run E.P w=(Conv.stringToBytes e b).run E.P w:=by
    have h1:E.P.underlying src=some .string:=hs;have h2:E.P.underlying dst=some (.slice e):=hd;have h3:E.P.underlying e=some (.int .u8):=he;simp [convert,Go.run_underlying h1,Go.run_underlying h2,Go.run_underlying h3]
   have harr:(b.data.map fun c=>Value.int .u8 c.toNat)++Array.replicate (cap - b.size) (Value.int .u8 0)=(ys++rest).toArray:=by
    apply Array.ext';simp [ys,rest]
   rw [hconv];simp only [Conv.stringToBytes,Wf,hch,V3,newRow,Yn,Wl,markStringish,harr];rw [run_shape]
   have hsh:({ w with drawn:=w.drawn+1,heap:=w.heap.push (.cells (ys++rest).toArray e) }:World).shape? w.heap.size=some (e,cap):=by
    rw [jx (c:=(ys++rest).toArray) (e:=e) (fz:=(0,0)) (by simp)];simp only [XJ,Z4]
   simp only [V3,hsh,run_freeze];have:=zY { w with drawn:=w.drawn+1 } (ys++rest).toArray e cap 1 (by omega);simp only at this;rw [this];rfl
  ·cases h
 ·-- a pointer to a bare one
  rename_i t i off hs hd;obtain ⟨b,hb,rfl⟩:=VR.aF.1 hx;split at h
  ·rename_i xs el fz ext own info hl hi;cases hc:(Nat.blt off xs.length&&!(info.size==0))
   ·rw [hc] at h;cases h
   rw [hc] at h;cases h;rw [V6] at hc;have h1:=dw.1 hc.1;have h2:info.size≠0:=by simpa using hc.2
   obtain ⟨_,_,b',o,YM,ho,YO,_⟩:=hr.look hl;rw [hb] at YM;cases YM;obtain ⟨ys,rest,rfl,ZB,_⟩:=YO;have hlen:=ZB.length;refine ⟨rfl,c7.now hr ?_ hx⟩;have Zb:¬ (ys++rest).toArray.size<=off:=by simp;omega
   have hu:E.P.underlying src=some (.pointer t):=hs;have hu2:E.P.underlying dst=some .unsafePointer:=hd;simp only [convert,Wf,Go.run_underlying hu,Go.run_underlying hu2,V3,Conv.unsafePointer,uy ho,cellsIn,run_shape,jx ho,Wl,run_sizeOf hi];simp [h2,Zb];omega
  ·cases h
 ·-- a bare pointer to another
  rename_i u i off hs hd;obtain ⟨b,hb,rfl⟩:=VR.aF.1 hx;split at h
  ·rename_i xs el fz own info hl hi;cases hc:liesAt E.P E.P.depth el (xs.length / E.P.cellsOf el) off u 1
   ·rw [hc] at h;cases h
   rw [hc] at h;cases h;obtain ⟨_,_,b',o,YM,ho,YO,_⟩:=hr.look hl;rw [hb] at YM;cases YM;obtain ⟨ys,rest,rfl,ZB,hext⟩:=YO;have hext:(ys++rest).length=xs.length:=hext;refine ⟨rfl,c7.now hr ?_ hx⟩;have hu:E.P.underlying src=some .unsafePointer:=hs;have hu2:E.P.underlying dst=some (.pointer u):=hd
   have hva:(variablesAt ⟨b.1,off,none⟩ u 1).run E.P w=.ok true w:=by
    simp only [variablesAt,Wf,run_program,V3,run_shape,jx ho,Wl,XJ,hext,hc]
   simp only [convert,Wf,Go.run_underlying hu,Go.run_underlying hu2,V3,Conv.unsafePointer,uy ho,run_sizeOf hi,hva];simp
  ·cases h
 ·cases h

theorem nz (b:ByteArray):gy (b.data.toList.map fun c=>(c.toNat:Int))=b:=by
 unfold gy;rw [WI]
 have:((fun n:Int=>UInt8.ofNat n.toNat) ∘ fun c:UInt8=>(c.toNat:Int))=id:=by
  funext c;simp
 rw [this,List.map_id]

theorem vm {b:ByteArray} {ys:List Value} (h:au ν (b.data.toList.map fun c=>SV.v (.int .u8 c.toNat)) ys):ys=(b.data.toList.map fun c=>(c.toNat:Int)).map (Value.int .u8):=by
 generalize b.data.toList=l at h;induction l generalizing ys with
 | nil=>exact h.ay
 | cons c l ih=>
  obtain ⟨z,zs,rfl,hz,hs⟩:=h.cons_inv;rw [VR.ae.1 hz,ih hs];rfl

theorem xW {src dst:TypeId} {x y:SV} {b:ByteArray} {xv:Value} (h:pO E src dst x b s=some (y,s')) (hr:HR ν M w0 s w) (hx:VR ν x xv):
  s'.ob->s.ob/\c7 E.P (convert src dst xv) ν M w0 w y s':=by
 unfold pO at h;split at h
 ·rename_i e i off len cap hs hd;split at h
  ·rename_i xs he hl;cases h;intro ob;obtain ⟨YU,ZK,hlen⟩:=ob;obtain ⟨c,hc,_,rfl⟩:=VR.aL.1 hx;obtain ⟨ys,YH,hv,Ω⟩:=od (E:=E) hl hr hc ZK (by rw [<- hlen];simp);have YH:=YH w.drawn;rw [vm hv] at YH;refine ⟨YU,c7.now (hr.same (SH.cj _ _)) ?_ (VR.ae.2 rfl)⟩;rw [run_convert_bytes_string w src dst e _ _ _ hs he hd,run_bytesToString w _ _ _ _ YH,jW,nz]
  ·cases h
 ·cases h

theorem zh {src dst:TypeId} {x y:SV} {xv:Value} (h:uc E src dst x s=some (y,s')) (hr:HR ν M w0 s w) (hx:VR ν x xv):
  s'.ob->s.ob/\c7 E.P (convert src dst xv) ν M w0 w y s':=by
 unfold uc at h;split at h
 ·exact xW h hr hx
 ·exact fun ob=>let ⟨h1,h2⟩:=wP h hr hx;⟨h1 ▸ ob,h2⟩

end
section
variable {ν:aP} {M:Own} {w0 w:World} {s s':SH} {E:Env}

def dP (E:Env) (g:Sem Next) (ν:aP) (M:Own) (w0 w:World) (n:dE) (s':SH):Prop:=
 match n with
 | .val x=>∃ ν' w' y,ν.Le ν'/\(g.run E.P w=.ok (.value y) w'\/(g.run E.P w=.ok .skip w'/\y=undef))/\VR ν' x y/\HR ν' M w0 s' w'
 | .enter f args=>∃ a:List Value,au ν args a/\HR ν M w0 s' w/\g.run E.P w=(callFunc f a.toArray).run E.P w
 | .round i args=>∃ (a:List Value) (b:Nat × Nat),ν i=some b/\au ν args a/\HR ν M w0 s' w/\g.run E.P w=(Instr.yield b.1 a.toArray).run E.P w
 | .defer d=>∃ dv,AP ν d dv/\HR ν M w0 s' w/\g.run E.P w=.ok (.defer dv) w

theorem dP.uA {g:Sem Value} {x:SV} (h:c7 E.P g ν M w0 w x s'):dP E (do pure (.value (<- g))) ν M w0 w (.val x) s':=by
 obtain ⟨ν',w',y,hle,YH,hx,hr⟩:=h;exact ⟨ν',w',y,hle,.inl (by simp [YH]),hx,hr⟩

theorem dP.SB {g:Sem Unit} (h:v8 E.P g ν M w0 w s'):dP E (do g;pure .skip) ν M w0 w (.val (.v undef)) s':=by
 obtain ⟨ν',w',hle,YH,hr⟩:=h;exact ⟨ν',w',undef,hle,.inr ⟨by simp [YH],rfl⟩,VR.ae.2 rfl,hr⟩

def uG (E:Env) (ν:aP) (tm:fP) (ρ:Operand->Value):Prop:=∀ x,VR ν (bq E tm x) (ρ x)

theorem yx {tm:fP} {ρ:Operand->Value} {l:List Operand} (h:lK E tm l=true) (hρ:uG E ν tm ρ):∀ x∈l,ρ x=(eM (bq E tm x)).getD undef:=by
 intro x hx;have hp:=Wn.1 h x hx;have hv:=hρ x;cases hz:eM (bq E tm x) with
 | none=>rw [hz] at hp;cases hp
 | some z=>exact gI hz hv

def l8:Op->Bool
 | .binOp .. | .unOp .. | .convert .. | .slice .. | .field .. | .typeAssert ..=>true
 | .call { callee:=.builtin _,.. }=>true
 | _=>false

theorem execOp_congr {o:Oper} (hk:l8 o.op=true) {ρ ρ':Operand->Value} (h:∀ x∈o.op.operands.toList,ρ x=ρ' x):execOp ρ o=execOp ρ' o:=by
 obtain ⟨dst,op,type,pos,aft,guard⟩:=o;cases op <;> try cases hk
 case binOp op t x y yt=>
  have h1:=h x (by simp [Op.operands]);have h2:=h y (by simp [Op.operands]);simp only [execOp,h1,h2]
 case unOp op t x=>
  have h1:=h x (by simp [Op.operands]);simp only [execOp,h1]
 case convert a b x=>
  have h1:=h x (by simp [Op.operands]);simp only [execOp,h1]
 case slice t x lo hi mx=>
  have h1:=h x (by simp [Op.operands])
  have e:∀ (o:Option Operand),(∀ y∈o,ρ y=ρ' y)->o.map ρ=o.map ρ':=by
   intro o ho;cases o with
   | none=>rfl
   | some y=>simp [ho y rfl]
  have h2:=e lo (fun y hy=>h y (by cases hy;simp [Op.operands]));have h3:=e hi (fun y hy=>h y (by cases hy;simp [Op.operands]));have h4:=e mx (fun y hy=>h y (by cases hy;simp [Op.operands]));simp only [execOp,h1,h2,h3,h4]
 case field t x f=>
  have h1:=h x (by simp [Op.operands]);simp only [execOp,h1]
 case typeAssert x a b ok=>
  have h1:=h x (by simp [Op.operands]);simp only [execOp,h1]
 case call c=>
  obtain ⟨callee,args,ats⟩:=c;cases callee <;> try cases hk
  rename_i b
  have h1:args.map ρ=args.map ρ':=by
   apply Array.map_congr_left;intro x hx;exact h x (by simp [Op.operands,Call.operands];simpa using hx)
  simp only [execOp,resolve,h1]

theorem FO {tm:fP} {o:Oper} {x:SV} (hk:l8 o.op=true) (h:gE E tm o=some x) {ρ:Operand->Value} (hρ:uG E ν tm ρ) (hr:HR ν M w0 s w):
  dP E (execOp ρ o) ν M w0 w (.val x) s:=by
 unfold gE at h;cases hp:lK E tm o.op.operands.toList
 ·rw [hp] at h;cases h
 ·rw [hp] at h;simp only [WG] at h;split at h
  ·rename_i v YH;cases h;have hc:=execOp_congr hk (yx hp hρ);refine ⟨ν,w,v,aP.Le.refl _,.inl ?_,VR.ae.2 rfl,hr⟩;rw [hc];exact jm YH w
  ·cases h

theorem hQ {tm:fP} {ρ:Operand->Value} (hρ:uG E ν tm ρ) (l:Array Operand):au ν (iW E tm l) (l.toList.map ρ):=by
 unfold iW;induction l.toList with
 | nil=>exact au.nil
 | cons x xs ih=>exact au.cons (hρ x) ih

theorem pR {f:SV} {fv:Value} {args:List SV} {a:List Value} {n:dE} (h:l3 f args=some n) (hf:VR ν f fv) (ha:au ν args a) (hr:HR ν M w0 s w):
  dP E (do let d <- Deferred.ofValue fv a.toArray;invoke d.target d.args) ν M w0 w n s:=by
 unfold l3 at h;split at h
 ·rename_i g x y;cases h;obtain rfl:=VR.ae.1 hf;refine ⟨x.toList++a++y.toList,((au.toList ν x).append ha).append (au.toList ν y),hr,?_⟩;simp [Deferred.ofValue,invoke];congr 2;apply Array.ext';simp
 ·rename_i g x y;cases h;obtain ⟨x',y',rfl,hx,hy⟩:=VR.eH.1 hf;refine ⟨x'++a++y',(hx.append ha).append hy,hr,?_⟩;simp [Deferred.ofValue,invoke]
 ·rename_i i;cases h;obtain ⟨b,hb,rfl⟩:=VR.gf.1 hf;refine ⟨a,b,hb,ha,hr,?_⟩;simp [Deferred.ofValue,invoke]
 ·cases h

theorem VR.lift:∀ (x:Value),VR ν (Go.Rx.lift x) x:=by
 intro x;cases x <;> first | exact VR.ae.2 rfl | exact VR.dp.2 ⟨_,rfl,VR.ae.2 rfl⟩

theorem B1 {recv:SV} {rv:Value} {name:String} {args:List SV} {a:List Value} {n:dE} (h:rJ E recv name args=some n) (hf:VR ν recv rv) (ha:au ν args a) (hr:HR ν M w0 s w):
  dP E (invoke (.fn (.method name) #[]) (#[rv]++a.toArray)) ν M w0 w n s:=by
 unfold rJ at h;cases h

end
section
variable {ν:aP} {M:Own} {w0 w:World} {s s':SH} {E:Env}

theorem gY {P:Program} (pt it ty e:TypeId) (hp:P.underlying pt=some (.pointer e)) (hc:P.cellsOf e=1) (g cells:Nat) (hsh:w.shape? g=some (e,cells)) (l:List Int) (h0:l≠[]) (hn:l.length<=cells) (h63:l.length<=9223372036854775807)
  (hcell:∀ j x,l[j]?=some x->w.cell? ((⟨g,0,none⟩:Addr).add j)=some (.int .u8 x)):
  (Builtin.unsafeString_ #[pt,it] ty #[.pointer (some ⟨g,0,none⟩),.int .i64 l.length]).run P w=.ok (.string (gy l)) (w.freeze ⟨g,0,none⟩ l.length):=by
 have hl:l.length≠0:=by simpa using h0
 have hlb:(loadBytes ⟨g,0,none⟩ .empty l.length).run P w=.ok (gy l) w:=by
  have key:∀ (l:List Int) (off:Nat) (acc:ByteArray),(∀ j x,l[j]?=some x->w.cell? ⟨g,off+j,none⟩=some (.int .u8 x))->
    (loadBytes ⟨g,off,none⟩ acc l.length).run P w=.ok ⟨acc.data++(l.map fun n=>UInt8.ofNat n.toNat).toArray⟩ w:=by
   intro l;induction l with
   | nil=>intro off acc _;simp [loadBytes]
   | cons x l ih=>
    intro off acc h;have h1:=h 0 x rfl;rw [Yc] at h1;simp only [Wm,loadBytes,Wf];rw [fD h1];simp only [V3,di]
    rw [ih (off+1) _ (fun j y hy=>by
     have:=h (j+1) y (by simpa using hy);rw [<- this];congr 2;omega)]
    simp only [ByteArray.push,WD];congr 2;apply Array.ext';simp [Nat.toUInt8]
  rw [key l 0 .empty (fun j x hx=>by rw [W9];have:=hcell j x hx;rwa [di,W9] at this)];have:ByteArray.empty.data=#[]:=rfl;simp [gy,this]
 have hlies:=Go.Lib.liesAt_bytes (P:=P) hc (cells / P.cellsOf e) l.length (by rw [hc];simpa using hn);have h63':¬ (9223372036854775807:Int)<(l.length:Int):=by omega
 obtain ⟨pn,hdef⟩:∃ pn:Sem PUnit,Builtin.unsafeString_ #[pt,it] ty #[.pointer (some ⟨g,0,none⟩),.int .i64 l.length]=
   (do
    let n <- asInt (.int .i64 l.length);if n<0 then pn
    if n > IntKind.i64.max then unsupported (.unsafePointer "String: a length above the largest int")
    if n=0 then pure (.string .empty)
    else if <- variablesAt ⟨g,0,none⟩ (<- elemOf pt) n.toNat then do
     let s <- loadBytes ⟨g,0,none⟩ .empty n.toNat;freeze ⟨g,0,none⟩ n.toNat
     pure (.string s)
    else unsupported (.unsafePointer "String: not so many bytes at ptr")) := ⟨_, rfl⟩
 rw [hdef];have hmax:IntKind.i64.max=9223372036854775807:=rfl;have hneg:¬ (l.length:Int)<0:=by omega
 simp [asInt,asIntOf,hmax,h63',hneg,hl,variablesAt,hsh,elemOf,Go.run_underlying hp,hlies,hlb]

theorem jb {P:Program} {ats:Array TypeId} {ty:TypeId} {a:Addr} {l c:Nat} (hc:c≠0):(Builtin.unsafeSliceData_ ats ty #[.slice (some a) l c]).run P w=.ok (.pointer (some a)) w:=by
 have hdef:Builtin.unsafeSliceData_ ats ty #[.slice (some a) l c]=(if c≠0 then pure (.pointer (some a)) else do
   if (<- viewAt a.block).isSome then pure (.pointer (some a))
   else pure (.pointer (some ⟨<- newObj (.view a (<- elemOf ty)),0,none⟩))):=rfl
 rw [hdef,if_pos hc];rfl

theorem kG {ats:Array TypeId} {l:List TypeId} (h:ats.toList=l):ats=l.toArray:=by
 apply Array.ext';simpa using h

theorem zv {t:TypeId} {ats:Array TypeId} {ty:TypeId} {x y:SV} {xv:Value} (h:vF E t x s=some y) (a0:ats[0]?=some t) (hx:VR ν x xv) (hr:HR ν M w0 s w):
  ∃ yv,(Builtin.len_ ats ty #[xv]).run E.P w=.ok yv w/\VR ν y yv:=by
 have b0:(#[xv]:Array Value)[0]?=some xv:=rfl;unfold vF at h;split at h
 ·rename_i e i off n cap hd;cases h;obtain ⟨c,_,_,rfl⟩:=VR.aL.1 hx;refine ⟨.int .i64 n,?_,VR.ae.2 rfl⟩;simp only [Builtin.len_,a0,b0,Wf,run_underlying hd,V3,Wl,goInt]
 ·rename_i e i off n adv hd;cases h;obtain ⟨c,_,rfl⟩:=VR.fw.1 hx;refine ⟨.int .i64 0,?_,VR.ae.2 rfl⟩;simp only [Builtin.len_,a0,b0,Wf,run_underlying hd,V3,Wl,goInt];rfl
 ·rename_i k e i hd;obtain ⟨c,hc,rfl⟩:=VR.cV.1 hx;split at h
  ·rename_i es clock own hl;cases h;obtain ⟨_,_,c',o,ZW,ho,YO,_⟩:=hr.look hl;rw [hc] at ZW;cases ZW;obtain ⟨l,rfl,hent⟩:=YO;refine ⟨.int .i64 es.length,?_,VR.ae.2 rfl⟩;simp only [Builtin.len_,a0,b0,Wf,run_underlying hd,V3,run_getObj_map ho,Wl,goInt,XJ,hent.length]
  ·cases h
 ·cases h

theorem yg {t:TypeId} {ats:Array TypeId} {ty:TypeId} {x y:SV} {xv:Value} (h:vN E t x=some y) (a0:ats[0]?=some t) (hx:VR ν x xv):
  ∃ yv,(Builtin.cap_ ats ty #[xv]).run E.P w=.ok yv w/\VR ν y yv:=by
 have b0:(#[xv]:Array Value)[0]?=some xv:=rfl;unfold vN at h;split at h
 ·rename_i e i off len n hd;cases h;obtain ⟨c,_,_,rfl⟩:=VR.aL.1 hx;refine ⟨.int .i64 n,?_,VR.ae.2 rfl⟩;simp only [WR] at b0 ⊢;simp only [Builtin.cap_,a0,b0,Wf,run_underlying hd,V3,Wl,goInt]
 ·cases h

theorem oQ {pt it ty:TypeId} {x n y:SV} {b:ByteArray} {xv nv:Value} (h:jA E pt x n b s=some (y,s')) (hr:HR ν M w0 s w) (hx:VR ν x xv) (hn:VR ν n nv):
  s'.ob->s.ob/\c7 E.P (Builtin.unsafeString_ #[pt,it] ty #[xv,nv]) ν M w0 w y s':=by
 unfold jA at h;split at h
 ·rename_i i n;obtain ⟨c,hc,rfl⟩:=VR.aF.1 hx;obtain rfl:=VR.ae.1 hn;split at h
  ·rename_i e xs el ext hd hl;cases hg:(e==el&&Nat.beq (E.P.cellsOf e) 1)
   ·rw [hg] at h;cases h
   rw [hg] at h;cases h;rw [V6] at hg;obtain rfl:e=el:=by simpa using hg.1
   have g4:=WK hg.2;intro ob;have ob:(s.jg ((0<n/\n<=2 ^ 40)/\n.toNat<=xs.length/\xs.take n.toNat=b.data.toList.map fun c=>SV.v (.int .u8 c.toNat))).ob:=ob;obtain ⟨YU,g1,g2,htk⟩:=ob;have ZS:=hr.same (SH.cj s ((0<n/\n<=2 ^ 40)/\n.toNat<=xs.length/\xs.take n.toNat=b.data.toList.map fun c=>SV.v (.int .u8 c.toNat)));obtain ⟨_,_,c',o,ZW,ho,YO,_⟩:=hr.look hl;rw [hc] at ZW;cases ZW;obtain ⟨ys,rest,rfl,ZB,hext⟩:=YO;have hlen:=ZB.length;have hv:=ZB.take n.toNat;rw [htk] at hv;have hns:=vm hv;generalize hnsdef:(b.data.toList.map fun c=>(c.toNat:Int))=ns at hns
   have ZC:ns.length=n.toNat:=by
    have:=congrArg List.length hns;simp at this;omega
   refine ⟨YU,ν,(w.freeze ⟨c.1,0,none⟩ ns.length),.string b,aP.Le.refl _,?_,VR.ae.2 rfl,?_⟩
   ·have YH:=gY (P:=E.P) (w:=w) pt it ty e hd g4 c.1 (ys++rest).toArray.size (jx ho) ns (by intro e;rw [e] at ZC;simp at ZC;omega) (by simp;omega) (by omega) (by
     intro j x hj;rw [di,W9,cQ ho];have hj':(ns.map (Value.int .u8))[j]?=some (.int .u8 x):=by simp [hj]
     rw [<- hns,WO] at hj';split at hj'
     ·simpa using YS hj'
     ·cases hj')
    have hnn:(n:Int)=(ns.length:Int):=by omega
    rw [hnn];have e:gy ns=b:=by rw [<- hnsdef,nz]
    rw [e] at YH;exact YH
   ·refine ZS.put hl hc (o:=.row xs e (0,n.toNat) ext) (r:=.cells (ys++rest).toArray e (0,n.toNat)) ⟨ys,rest,?_,ZB,hext⟩ ?_ ?_ ?_ ?_
    ·have:ju (0,n.toNat) (ys++rest).length=(0,n.toNat):=rfl;rw [this]
    ·have hn0:ns.length≠0:=by omega
     unfold World.freeze;rw [if_neg hn0];apply Xt;intro j;rw [XC,WN];have h1:=(VY.1 ho).1;have h2:=(VY.1 ho).2;split
     ·rename_i ej;subst ej;simp [h1,h2,ZC]
     ·rfl
    all_goals (unfold World.freeze;split <;> rfl)
  ·cases h
 ·cases h

theorem yU {b:Builtin} {ats:Array TypeId} {args:List SV} {a:List Value} {x:SV} {ty:TypeId} {cs:Array Bool} (h:gl E b ats args s=some (x,s')) (ha:au ν args a) (hr:HR ν M w0 s w):
  s'.ob->s.ob/\dP E (builtin b ats ty cs a.toArray) ν M w0 w (.val x) s':=by
 have one:∀ {z:SV},au ν [z] a->∃ y,a=[y]/\VR ν z y:=by
  intro z ha;obtain ⟨y,ys,rfl,hy,Z4⟩:=ha.cons_inv;rw [Z4.ay];exact ⟨y,rfl,hy⟩
 have two:∀ {z u:SV},au ν [z,u] a->∃ y v,a=[y,v]/\VR ν z y/\VR ν u v:=by
  intro z u ha;obtain ⟨y,ys,rfl,hy,Z4⟩:=ha.cons_inv;obtain ⟨v,vs,rfl,hv,hvs⟩:=Z4.cons_inv;rw [hvs.ay];exact ⟨y,v,rfl,hy,hv⟩
 unfold gl at h;split at h
 ·-- len
  split at h
  ·rename_i t ts z θ;cases hz:vF E t z s with
   | none=>rw [hz] at h;cases h
   | some y0=>
   rw [hz] at h;cases h;obtain ⟨y,rfl,hy⟩:=one ha;obtain ⟨yv,YH,hv⟩:=zv (ats:=ats) (ty:=ty) hz (by rw [kG θ];simp) hy hr;exact fun ob=>⟨ob,dP.uA (c7.now hr YH hv)⟩
  ·cases h
 ·-- cap
  split at h
  ·rename_i t ts z θ;cases hz:vN E t z with
   | none=>rw [hz] at h;cases h
   | some y0=>
   rw [hz] at h;cases h;obtain ⟨y,rfl,hy⟩:=one ha;obtain ⟨yv,YH,hv⟩:=yg (w:=w) (ats:=ats) (ty:=ty) hz (by rw [kG θ];simp) hy;exact fun ob=>⟨ob,dP.uA (c7.now hr YH hv)⟩
  ·cases h
 ·-- append
  split at h
  ·rename_i st xt x0 y0 θ;obtain ⟨y,z,rfl,hy,hz⟩:=two ha;intro ob;obtain ⟨YU,hg⟩:=AJ (ty:=ty) h hr hy hz ob;rw [kG θ];exact ⟨YU,dP.uA hg⟩
  ·cases h
 ·-- copy
  split at h
  ·rename_i dt ts x0 y0 θ;obtain ⟨y,z,rfl,hy,hz⟩:=two ha;intro ob;obtain ⟨YK,hg⟩:=F4 (ty:=ty) (rest:=ts) h hr hy hz;rw [kG θ];exact ⟨YK ▸ ob,dP.uA hg⟩
  ·cases h
 ·-- delete
  split at h
  ·rename_i t t' m k θ;obtain ⟨y,z,rfl,hy,hz⟩:=two ha;intro ob;obtain ⟨YU,hg⟩:=AF (ty:=ty) (rest:=[t']) h hr hy hz ob;rw [kG θ];exact ⟨YU,dP.uA hg⟩
  ·cases h
 ·-- a slice's data
  split at h
  ·rename_i z;obtain ⟨y,rfl,hy⟩:=one ha;unfold qV at h;split at h
   ·rename_i i off len c;obtain ⟨d,hd,_,rfl⟩:=VR.aL.1 hy;cases hask:s.ask E (!(c==0)) with
    | none=>rw [hask] at h;cases h
    | some s1=>
    rw [hask] at h;cases h;obtain ⟨YG,YK⟩:=SH.eO hask;intro ob;have hc:c≠0:=by simpa using (YK ob).2
    exact ⟨(YK ob).1,dP.uA (c7.now (hr.same YG) (y:=.pointer (some ⟨d.1,off,none⟩)) (jb hc) (VR.aF.2 ⟨d,hd,rfl⟩))⟩
   ·rename_i i len;obtain ⟨d,hd,hle,rfl⟩:=VR.aL.1 hy;cases hask:s.ask E (!(len==0)) with
    | none=>rw [hask] at h;cases h
    | some s1=>
    rw [hask] at h;cases h;obtain ⟨YG,YK⟩:=SH.eO hask;intro ob;have hc:len≠0:=by simpa using (YK ob).2
    simp only [W2] at hle;have hd2:d.2≠0:=by omega
    exact ⟨(YK ob).1,dP.uA (c7.now (hr.same YG) (y:=.pointer (some ⟨d.1,0,none⟩)) (jb hd2) (VR.aF.2 ⟨d,hd,rfl⟩))⟩
   ·cases h
  ·cases h
 ·-- a text of bytes
  split at h
  ·rename_i pt it x0 n0 θ;obtain ⟨y,z,rfl,hy,hz⟩:=two ha;unfold nj at h;split at h
   ·intro ob;obtain ⟨YU,hg⟩:=oQ (ty:=ty) (it:=it) h hr hy hz ob;rw [kG θ];exact ⟨YU,dP.uA hg⟩
   unfold l6 at h;split at h
   ·rename_i i n;obtain ⟨c,hc,rfl⟩:=VR.aF.1 hy;obtain rfl:=VR.ae.1 hz;split at h
    ·rename_i e xs el ext hd hl;cases hg:fT (decide (0<n/\n<=2 ^ 40)&&Nat.ble n.toNat xs.length&&e==el&&Nat.beq (E.P.cellsOf e) 1) with
     | none=>rw [hg] at h;cases h
     | some u=>
     rw [hg] at h;simp only [WE,V9] at h;cases hb:bytesOf (xs.take n.toNat) with
     | none=>rw [hb] at h;cases h
     | some ns=>
     rw [hb] at h;cases h;have hg:=kp hg;rw [V6,V6,V6] at hg;obtain ⟨⟨⟨g1,g2⟩,g3⟩,g4⟩:=hg;have g1:=Ws g1;have g2:=Wu g2;obtain rfl:e=el:=by simpa using g3
     have g4:=WK g4;obtain ⟨_,_,c',o,ZW,ho,YO,_⟩:=hr.look hl;rw [hc] at ZW;cases ZW;obtain ⟨ys,rest,rfl,ZB,hext⟩:=YO;have hlen:=ZB.length;have hns:=nI hb (ZB.take n.toNat)
     have ZC:ns.length=n.toNat:=by
      have:=congrArg List.length hns;simp at this;omega
     intro ob;refine ⟨ob,dP.uA ⟨ν,(w.freeze ⟨c.1,0,none⟩ ns.length),.string (gy ns),aP.Le.refl _,?_,VR.ae.2 rfl,?_⟩⟩
     ·have YH:=gY (P:=E.P) (w:=w) pt it ty e hd g4 c.1 (ys++rest).toArray.size (jx ho) ns (by intro e;rw [e] at ZC;simp at ZC;omega) (by simp;omega) (by omega) (by
       intro j x hj;rw [di,W9,cQ ho];have hj':(ns.map (Value.int .u8))[j]?=some (.int .u8 x):=by simp [hj]
       rw [<- hns,WO] at hj';split at hj'
       ·simpa using YS hj'
       ·cases hj')
      rw [kG θ];have hnn:(n:Int)=(ns.length:Int):=by omega
      rw [hnn];exact YH
     ·refine hr.put hl hc (o:=.row xs e (0,n.toNat) ext) (r:=.cells (ys++rest).toArray e (0,n.toNat)) ⟨ys,rest,?_,ZB,hext⟩ ?_ ?_ ?_ ?_
      ·have:ju (0,n.toNat) (ys++rest).length=(0,n.toNat):=rfl;rw [this]
      ·have hn0:ns.length≠0:=by omega
       unfold World.freeze;rw [if_neg hn0];apply Xt;intro j;rw [XC,WN];have h1:=(VY.1 ho).1;have h2:=(VY.1 ho).2;split
       ·rename_i ej;subst ej;simp [h1,h2,ZC]
       ·rfl
      all_goals (unfold World.freeze;split <;> rfl)
    ·cases h
   ·cases h
  ·cases h
 ·cases h

end
section
variable {ν:aP} {M:Own} {w0 w:World} {s s':SH} {E:Env}

def uk (E:Env) (g:Sem Next) (ν:aP) (M:Own) (w0 w:World) (s:SH) (L:List (dE × SH)):Prop:=
 ∃ p∈L,p.2.ob->s.ob/\dP E g ν M w0 w p.1 p.2

theorem uk.one {g:Sem Next} {n:dE} (h:s'.ob->s.ob/\dP E g ν M w0 w n s'):uk E g ν M w0 w s [(n,s')]:=⟨_,Wk.2 rfl,h⟩

theorem dP.zH {g:Sem Value} {x:SV} {y:Value} (hr:HR ν M w0 s' w) (h:g.run E.P w=.ok y w) (hx:VR ν x y):dP E (do pure (.value (<- g))) ν M w0 w (.val x) s':=
 dP.uA (c7.now hr h hx)

theorem dP.value {x:SV} {y:Value} (hr:HR ν M w0 s' w) (hx:VR ν x y):dP E (pure (.value y)) ν M w0 w (.val x) s':=
 ⟨ν,w,y,aP.Le.refl _,.inl rfl,hx,hr⟩

theorem oV {tm:fP} {ρ:Operand->Value} (hρ:uG E ν tm ρ):∀ (l:List (Nat × Operand)),nQ ν (l.map fun (i,x)=>(i,bq E tm x)) (l.map fun (i,x)=>(i,ρ x))
 | []=>.nil
 | (_,x)::l=>.cons (hρ x) (oV hρ l)

theorem fF {tm:fP} {ρ:Operand->Value} (hρ:uG E ν tm ρ):∀ (o:Option Operand),uF ν (o.map (bq E tm)) (o.map ρ)
 | none=>.none
 | some x=>.some (hρ x)

theorem SV.zJ {x:SV} {l:List SV} {y:Value} (h:x.tuple=some l) (hv:VR ν x y):∃ a:List Value,y=.tuple a.toArray/\au ν l a:=by
 unfold SV.tuple at h;split at h
 ·cases h;exact VR.cz.1 hv
 ·rename_i vs;cases h;obtain rfl:=VR.ae.1 hv;exact ⟨vs.toList,by simp,au.lits ν _⟩
 ·cases h

theorem kx {α β:Type} (l:Array α) (f:α->β):l.map f=(l.toList.map f).toArray:=by
 apply Array.ext';simp

theorem B6 {f:SV} {fv:Value} {args:List SV} {a:List Value} {d:rb} (h:oB f args=some d) (hf:VR ν f fv) (ha:au ν args a):
  ∃ dv,AP ν d dv/\Deferred.ofValue fv a.toArray=pure dv:=by
 unfold oB at h;cases h

theorem u4 {x y:SV} {xv yv:Value} {op:BinOp} {soft:Bool} {a b:ByteArray} (h:BM x y op soft=some (a,b)) (hx:VR ν x xv) (hy:VR ν y yv):xv=.string a/\yv=.string b/\op=.add:=by
 unfold BM at h;split at h
 ·cases h;exact ⟨VR.ae.1 hx,VR.ae.1 hy,rfl⟩
 ·cases h

theorem rY {P:Program} (w:World) (t:TypeId) (x y:Operand) {a b:ByteArray} (h:a.size+b.size<=9223372036854775807):
  (do eqGuard .add t x y (.string a) (.string b);binOp .add t (.string a) (.string b)).run P w=.ok (.string (a++b)) w:=by
 have hn:¬ (((a.size+b.size:Nat):Int)>IntKind.i64.max):=by
  have:IntKind.i64.max=9223372036854775807:=rfl;rw [this];omega
 simp [eqGuard,binOp,Op.stringOp,hn];omega

theorem LN {tm:fP} {o:Oper} {L:List (dE × SH)} {ρ:Operand->Value} (h:j3 E tm o s=some L) (hr:HR ν M w0 s w) (hρ:uG E ν tm ρ):
  uk E (execOp ρ o) ν M w0 w s L:=by
 have vV:∀ {x:Option SV} {g:Sem Value},(x.map fun x=>[(dE.val x,s)])=some L->(∀ x0,x=some x0->∃ y,g.run E.P w=.ok y w/\VR ν x0 y)->uk E (do pure (.value (<- g))) ν M w0 w s L:=by
  intro x g h hg;cases x with
  | none=>cases h
  | some x0=>
   cases h;obtain ⟨y,YH,hy⟩:=hg x0 rfl;exact .one fun ob=>⟨ob,.zH hr YH hy⟩
 have vsV:∀ {x:Option (SV × SH)} {g:Sem Value},(x.map fun x=>[(dE.val x.1,x.2)])=some L->(∀ x0 s',x=some (x0,s')->s'.ob->s.ob/\c7 E.P g ν M w0 w x0 s')->uk E (do pure (.value (<- g))) ν M w0 w s L:=by
  intro x g h hg;cases x with
  | none=>cases h
  | some p=>
   obtain ⟨x0,s'⟩:=p;cases h;exact .one fun ob=>⟨(hg x0 s' rfl ob).1,.uA (hg x0 s' rfl ob).2⟩
 have uV:∀ {x:Option SH} {g:Sem Unit},(x.map fun s=>[(dE.val (.v undef),s)])=some L->(∀ s',x=some s'->s'.ob->s.ob/\v8 E.P g ν M w0 w s')->uk E (do g;pure .skip) ν M w0 w s L:=by
  intro x g h hg;cases x with
  | none=>cases h
  | some s'=>cases h;exact .one fun ob=>⟨(hg s' rfl ob).1,.SB (hg s' rfl ob).2⟩
 have Zq:∀ (hk:l8 o.op=true),((gE E tm o).map fun x=>[(dE.val x,s)])=some L->uk E (execOp ρ o) ν M w0 w s L:=by
  intro hk h;cases hp:gE E tm o with
  | none=>rw [hp] at h;cases h
  | some x=>rw [hp] at h;cases h;exact .one fun ob=>⟨ob,FO hk hp hρ hr⟩
 obtain ⟨dst,op,type,pos,aft,guard⟩:=o;cases op with
 | move x=>cases h;exact .one fun ob=>⟨ob,.value hr (hρ x)⟩
 | assign x=>cases h;exact .one fun ob=>⟨ob,.value hr (hρ x)⟩
 | pick c a b=>
  simp only [j3] at h;split at h
  ·rename_i t hc;have hcv:=hρ c;rw [hc] at hcv;have hcv:=VR.ae.1 hcv;cases Zm:s.dec E t with
   | mk u s1=>
   rw [Zm] at h;cases h;obtain ⟨YG,YK⟩:=SH.fX Zm;refine .one fun ob=>⟨(YK ob).1,ν,w,if u=true then ρ a else ρ b,aP.Le.refl _,.inl ?_,?_,hr.same YG⟩
   ·have:=(YK ob).2;simp [execOp,hcv,asBool,this]
   ·cases u
    ·exact hρ b
    ·exact hρ a
  ·cases h
 | alloc t=>
  exact vsV h fun x0 s' e ob=>by
   obtain ⟨h1,h2⟩:=D0 (E:=E) e hr;exact ⟨h1 ▸ ob,h2⟩
 | box t x=>
  exact vsV h fun x0 s' e ob=>by
   obtain ⟨h1,h2⟩:=Cx (E:=E) e hr (hρ x);exact ⟨h1 ▸ ob,h2⟩
 | build t ps=>
  refine vV h fun x0 e=>?_;have:=vU (w:=w) e (oV hρ ps.toList);rw [kx];exact this
 | buildSlice t n ps=>
  refine vsV h fun x0 s' e ob=>?_;obtain ⟨h1,h2⟩:=tU e hr (oV hρ ps.toList);refine ⟨h1 ▸ ob,?_⟩;rw [kx];exact h2
 | insert t m k x=>exact uV h fun s' e ob=>ni e hr (hρ m) (hρ k) (hρ x) ob
 | load t a=>
  refine vsV h fun x0 s' e ob=>?_;obtain ⟨YG,hg⟩:=sS e hr (hρ a);obtain ⟨YU,y,YH,hy⟩:=hg ob;exact ⟨YU,c7.now (hr.same YG) YH hy⟩
 | store t a x=>
  refine uV h fun s' e ob=>?_;exact DF e hr (hρ a) (hρ x) ob
 | ready g=>cases h
 | waits g=>cases h
 | nilCheck x=>
  have hx:=hρ x;simp only [j3] at h;split at h
  ·rename_i i off hc;rw [hc] at hx;cases h;obtain ⟨b,hb,he⟩:=VR.aF.1 hx;refine .one fun ob=>⟨ob,ν,w,ρ x,aP.Le.refl _,.inl ?_,hx,hr⟩;simp only [execOp,he,Wl]
  ·rename_i t y hc;rw [hc] at hx;cases h;obtain ⟨b,he,hb⟩:=VR.dp.1 hx;refine .one fun ob=>⟨ob,ν,w,ρ x,aP.Le.refl _,.inl ?_,hx,hr⟩;simp only [execOp,he,Wl]
  ·rename_i f a b hc;rw [hc] at hx;cases h;obtain ⟨a',b',he,_⟩:=VR.eH.1 hx;refine .one fun ob=>⟨ob,ν,w,ρ x,aP.Le.refl _,.inl ?_,hx,hr⟩;simp only [execOp,he,Wl]
  ·rename_i i hc;rw [hc] at hx;cases h;obtain ⟨b,hb,he⟩:=VR.gf.1 hx;refine .one fun ob=>⟨ob,ν,w,ρ x,aP.Le.refl _,.inl ?_,hx,hr⟩;simp only [execOp,he,Wl]
  ·rename_i f a b hc;rw [hc] at hx;cases h;have he:=VR.ae.1 hx;refine .one fun ob=>⟨ob,ν,w,ρ x,aP.Le.refl _,.inl ?_,hx,hr⟩;simp only [execOp,he,Wl]
  ·cases h
 | binOp op t x y yt=>
  simp only [j3] at h;split at h
  ·rename_i r he;cases h;obtain ⟨p,hs,YH⟩:=Cl (r:=r.1) (s':=r.2) he (hρ x) (hρ y);refine .one fun ob=>?_;rw [hs] at ob;obtain ⟨YU,hp⟩:=ob;refine ⟨YU,?_⟩;rw [hs];exact .zH (hr.same (SH.cj _ _)) (y:=.bool r.1) (YH _ _ _ hp) (VR.ae.2 rfl)
  split at h
  ·rename_i a b hab;cases h;refine .one fun ob=>?_;obtain ⟨YU,hle⟩:=ob;obtain ⟨hx,hy,rfl⟩:=u4 hab (hρ x) (hρ y);refine ⟨YU,.zH (hr.same (SH.cj _ _)) (y:=.string (a++b)) ?_ (VR.ae.2 rfl)⟩;rw [hx,hy];exact rY w t x y hle
  split at h
  ·exact Zq rfl h
  ·have ef:∀ (r:Bool) (s':SH),xx E t (bq E tm x) (bq E tm y) s=some (r,s')->_:=fun r s' e=>oC (w:=w) e (hρ x) (hρ y);split at h
   ·cases he:xx E t (bq E tm x) (bq E tm y) s with
    | none=>
     rw [he] at h;cases hfar:iE E t (bq E tm x) (bq E tm y) s
     ·rw [hfar] at h;exact Zq rfl h
     ·rw [hfar] at h;simp only [WG] at h;cases h;obtain ⟨h1,h2,h3,_⟩:=r6 hfar hr (hρ x) (hρ y);refine .one fun ob=>⟨ob,.zH hr (y:=.bool false) ?_ (VR.ae.2 rfl)⟩;simp only [Wf,h2,V3,h3,h1,Wl]
    | some p=>
     obtain ⟨r,s1⟩:=p;rw [he] at h;cases h;obtain ⟨rfl,h1,h2,h3,_⟩:=ef r s1 he;refine .one fun ob=>⟨ob,.zH hr (y:=.bool r) ?_ (VR.ae.2 rfl)⟩;simp only [Wf,h2,V3,h3,h1,Wl]
   ·cases he:xx E t (bq E tm x) (bq E tm y) s with
    | none=>
     rw [he] at h;cases hfar:iE E t (bq E tm x) (bq E tm y) s
     ·rw [hfar] at h;exact Zq rfl h
     ·rw [hfar] at h;simp only [WG] at h;cases h;obtain ⟨h1,h2,_,h3⟩:=r6 hfar hr (hρ x) (hρ y);refine .one fun ob=>⟨ob,.zH hr (y:=.bool true) ?_ (VR.ae.2 rfl)⟩;simp only [Wf,h2,V3,h3,h1,Wl,W1]
    | some p=>
     obtain ⟨r,s1⟩:=p;rw [he] at h;cases h;obtain ⟨rfl,h1,h2,_,h3⟩:=ef r s1 he;refine .one fun ob=>⟨ob,.zH hr (y:=.bool !r) ?_ (VR.ae.2 rfl)⟩;simp only [Wf,h2,V3,h3,h1,Wl]
   ·cases h
 | unOp op t x=>exact Zq rfl h
 | convert src dst x=>
  simp only [j3] at h;split at h
  ·rename_i r hc;refine vsV (x:=some r) h fun x0 s' e ob=>?_;cases e;exact zh hc hr (hρ x) ob
  ·split at h
   ·exact Zq rfl h
   ·cases h
 | sliceToArrayPointer dst x=>cases h
 | makeInterface t x=>
  simp only [j3] at h;split at h
  ·cases h
  ·rename_i d hnd hd;refine vV (x:=some _) h fun x0 e=>?_;cases e;refine ⟨.iface t (ρ x),?_,VR.dp.2 ⟨_,rfl,hρ x⟩⟩;simp only [Instr.makeInterface,Wf,run_underlying (by assumption),V3];cases d <;> first | rfl | exact (hnd _ rfl).elim
  ·cases h
 | makeFunc fn a b=>
  simp only [j3] at h;split at h
  ·refine vV (x:=some _) h fun x0 e=>?_;cases e;refine ⟨_,rfl,VR.eH.2 ⟨_,_,?_,hQ hρ a,hQ hρ b⟩⟩;rw [kx a,kx b]
  ·cases h
 | makeMap t r=>
  cases r with
  | some r=>cases h
  | none=>
   simp only [j3] at h;cases hn:eX (.map [] 0) s with
   | none=>rw [hn] at h;cases h
   | some p=>
    obtain ⟨i,s1⟩:=p;rw [hn] at h;cases h;obtain ⟨YK,ν',hle,hi,YY⟩:=gx hn hr 0 (r:=.map #[] 0) (fun _ _ _=>⟨[],rfl,rfl⟩);refine .one fun ob=>⟨YK ▸ ob,.uA ⟨ν',_,_,hle,?_,VR.cV.2 ⟨_,hi,rfl⟩,YY⟩⟩;simp only [Instr.makeMap,Option.map_none,Wf,Yn,V3,Wl]
 | makeChan t x=>cases h
 | makeSlice t l c=>cases h
 | slice t x lo hi mx=>
  simp only [j3] at h;split at h
  ·rename_i r hc;refine vsV (x:=some r) h fun x0 s' e ob=>?_;cases e;obtain ⟨YG,hg⟩:=mD (w:=w) hc (hρ x) (fF hρ lo) (fF hρ hi) (fF hρ mx);obtain ⟨YU,y,YH,hy⟩:=hg ob;exact ⟨YU,c7.now (hr.same YG) YH hy⟩
  ·split at h
   ·rename_i l hl;cases h;obtain ⟨p,hp,YG,hg⟩:=uq (w:=w) hl (hρ x) (fF hρ lo) (fF hρ hi) (fF hρ mx);refine ⟨_,Wc.2 ⟨p,hp,rfl⟩,fun ob=>?_⟩;obtain ⟨YU,y,YH,hy⟩:=hg ob;exact ⟨YU,.uA (c7.now (hr.same YG) YH hy)⟩
   split at h
   ·exact Zq rfl h
   ·cases h
 | fieldAddr t x f=>exact vV h fun x0 e=>np e (hρ x)
 | field t x f=>
  simp only [j3] at h;split at h
  ·exact Zq rfl h
  ·exact vV h fun x0 e=>uX e (hρ x)
 | indexAddr t x i=>
  refine vsV h fun x0 s' e ob=>?_;obtain ⟨YG,hg⟩:=iy (w:=w) e (hρ x) (hρ i);obtain ⟨YU,y,YH,hy⟩:=hg ob;exact ⟨YU,c7.now (hr.same YG) YH hy⟩
 | index t x i=>
  refine vsV h fun x0 s' e ob=>?_;obtain ⟨YG,hg⟩:=mF (w:=w) e (hρ x) (hρ i);obtain ⟨YU,y,YH,hy⟩:=hg ob;exact ⟨YU,c7.now (hr.same YG) YH hy⟩
 | lookup t m k ok=>
  refine vsV h fun x0 s' e ob=>?_;obtain ⟨YG,hg⟩:=r7 e hr (hρ m) (hρ k);obtain ⟨YU,y,YH,hy⟩:=hg ob;exact ⟨YU,c7.now (hr.same YG) YH hy⟩
 | mapUpdate t m k x=>exact uV h fun s' e ob=>ni e hr (hρ m) (hρ k) (hρ x) ob
 | mapEntry t m k=>cases h
 | entryStore t m st x=>cases h
 | range t x=>
  refine vsV h fun x0 s' e ob=>?_;obtain ⟨h1,h2⟩:=D3 e hr (hρ x);exact ⟨h1 ▸ ob,h2⟩
 | next it b=>
  simp only [j3] at h;cases hn:kS (bq E tm it) b s with
  | none=>rw [hn] at h;cases h
  | some l=>
   rw [hn] at h;cases h;obtain ⟨p,hp,YK,hg⟩:=Az (ty:=type) hn hr (hρ it);exact ⟨_,Wc.2 ⟨p,hp,rfl⟩,fun ob=>⟨YK ▸ ob,.uA hg⟩⟩
 | typeAssert x xt at_ ok=>
  simp only [j3] at h;split at h
  ·exact Zq rfl h
  ·exact vV h fun x0 e=>lU (xt:=xt) e (hρ x)
 | entry it=>
  simp only [j3] at h;split at h
  ·rename_i r he;cases h;obtain ⟨YG,hq⟩:=BB (y:=r.1) (s':=r.2) he;refine .one fun ob=>?_;obtain ⟨YU,hx⟩:=hq ob;obtain ⟨v,YH,hv⟩:=vj (E:=E) hx hr (hρ it);exact ⟨YU,.zH (hr.same YG) YH hv⟩
  ·exact vV h fun x0 e=>vj e hr (hρ it)
 | extract t i=>
  simp only [j3] at h;split at h
  ·rename_i l hl;refine vV h fun x0 e=>?_;obtain ⟨a,he,ha⟩:=SV.zJ hl (hρ t);obtain ⟨y,hy,hv⟩:=ha.get e;refine ⟨y,?_,hv⟩;rw [he];simp [Instr.extract,hy]
  ·cases h
 | call c=>
  obtain ⟨callee,args,ats⟩:=c;have ha:=hQ hρ args;have harr:args.map ρ=(args.toList.map ρ).toArray:=by apply Array.ext';simp
  cases callee with
  | value f=>
   simp only [j3] at h;cases hc:l3 (bq E tm f) (iW E tm args) with
   | none=>rw [hc] at h;cases h
   | some n=>
    rw [hc] at h;cases h;refine .one fun ob=>⟨ob,?_⟩;have:=pR (E:=E) hc (hρ f) ha hr;simpa only [execOp,resolve,harr] using this
  | invoke r name=>
   simp only [j3] at h;cases hc:rJ E (bq E tm r) name (iW E tm args) with
   | none=>rw [hc] at h;cases h
   | some n=>
    rw [hc] at h;cases h;refine .one fun ob=>⟨ob,?_⟩;have:=B1 (E:=E) hc (hρ r) ha hr;simp only [execOp,resolve,harr];exact this
  | builtin b=>
   simp only [j3] at h;split at h
   ·rename_i r hc;obtain ⟨x0,s1⟩:=r;cases h;refine .one fun ob=>?_;have:=yU (ty:=type) (cs:=args.map fun | .const _=>true | _=>false) hc ha hr ob;refine ⟨this.1,?_⟩;simp only [execOp,resolve,harr];exact this.2
   ·exact Zq rfl h
 | go c=>cases h
 | defer c=>
  obtain ⟨callee,args,ats⟩:=c;have ha:=hQ hρ args;have harr:args.map ρ=(args.toList.map ρ).toArray:=by apply Array.ext';simp
  cases callee with
  | value f=>
   simp only [j3] at h;cases hc:oB (bq E tm f) (iW E tm args) with
   | none=>rw [hc] at h;cases h
   | some d=>
    rw [hc] at h;cases h;obtain ⟨dv,hd,YH⟩:=B6 hc (hρ f) ha;refine .one fun ob=>⟨ob,dv,hd,hr,?_⟩;simp only [execOp,resolve,harr,YH];rfl
  | invoke r name=>cases h
  | builtin b=>cases h
 | panic x=>cases h
 | send c x=>cases h
 | recv t c ok=>cases h
 | select cs b=>cases h

end
end Go.Rx
