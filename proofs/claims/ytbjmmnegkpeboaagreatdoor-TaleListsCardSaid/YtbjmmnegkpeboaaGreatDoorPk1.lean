/- What the law TaleLists leans on, part 1: the symbolic executor, proved sound, contracts of functions, plain lemmas. By an AI agent. -/
import Derived.AtR
import Derived.Below
import Derived.KernelRfl
import Derived.Laws.Sem
import Derived.Laws.World
import Derived.Laws.NewBlocks
import GoSem.Extern.ReflectliteValue
import Derived.IntWalk
import Derived.Laws.BytesString
import Derived.Lib.UnsafeStr
import Derived.LaidEql
import Derived.Laws.StructEq
import Derived.Lib.BytesEntry
set_option linter.unusedSimpArgs false
set_option linter.unusedVariables false
noncomputable section
namespace Go.Rx
open Go
theorem VV:type_of% @and_self:=@and_self
theorem VW:type_of% @true_and:=@true_and
theorem VX:type_of% @and_true:=@and_true
theorem VY:type_of% @Array.getElem?_eq_some_iff:=@Array.getElem?_eq_some_iff
theorem V0:type_of% @decide_eq_true:=@decide_eq_true
theorem V2:type_of% @decide_eq_false:=@decide_eq_false
theorem V3:type_of% @Result.andThen_ok:=@Result.andThen_ok
theorem V4:type_of% @List.getElem?_eq_getElem:=@List.getElem?_eq_getElem
theorem V5:type_of% @Int.toNat_natCast:=@Int.toNat_natCast
theorem V6:type_of% @Bool.and_eq_true:=@Bool.and_eq_true
theorem V7:type_of% @List.length_append:=@List.length_append
theorem V8:type_of% @List.mem_cons:=@List.mem_cons
theorem V9:type_of% @Option.bind_some:=@Option.bind_some
theorem Wa:type_of% @List.getElem?_cons_zero:=@List.getElem?_cons_zero
theorem Wb:type_of% @List.mem_map:=@List.mem_map
theorem Wc:type_of% @List.mem_cons_of_mem:=@List.mem_cons_of_mem
theorem Wd:type_of% @List.length_eq_zero_iff:=@List.length_eq_zero_iff
theorem We:type_of% @List.take_of_length_le:=@List.take_of_length_le
theorem Wf:type_of% @Sem.run_bind:=@Sem.run_bind
theorem Wg:type_of% @Option.map_eq_some_iff:=@Option.map_eq_some_iff
theorem Wh:type_of% @Nat.le_trans:=@Nat.le_trans
theorem Wi:type_of% @Option.bind_eq_some_iff:=@Option.bind_eq_some_iff
theorem Wj:type_of% @List.mem_cons_self:=@List.mem_cons_self
theorem Wk:type_of% @Sem.run_pure:=@Sem.run_pure
theorem Wl:type_of% @List.mem_singleton:=@List.mem_singleton
theorem Wm:type_of% @List.length_cons:=@List.length_cons
theorem Wn:type_of% @List.all_eq_true:=@List.all_eq_true
theorem Wo:type_of% @List.mem_filter:=@List.mem_filter
theorem Wp:type_of% @List.take_succ_eq_append_getElem:=@List.take_succ_eq_append_getElem
theorem Wq:type_of% @List.map_append:=@List.map_append
theorem Wr:type_of% @beq_eq_false_iff_ne:=@beq_eq_false_iff_ne
theorem Ws:type_of% @of_decide_eq_true:=@of_decide_eq_true
theorem Wt:type_of% @Array.getD_eq_getD_getElem?:=@Array.getD_eq_getD_getElem?
theorem Wu:type_of% @Nat.le_of_ble_eq_true:=@Nat.le_of_ble_eq_true
theorem Wv:type_of% @List.getElem?_map:=@List.getElem?_map
theorem Ww:type_of% @List.not_mem_nil:=@List.not_mem_nil
theorem Wx:type_of% @Nat.le_refl:=@Nat.le_refl
theorem Wy:type_of% @Bool.not_true:=@Bool.not_true
theorem Wz:type_of% @Nat.lt_of_lt_of_le:=@Nat.lt_of_lt_of_le
theorem WA:type_of% @beq_self_eq_true:=@beq_self_eq_true
theorem WB:type_of% @List.getElem?_eq_some_iff:=@List.getElem?_eq_some_iff
theorem WC:type_of% @List.map_cons:=@List.map_cons
theorem WD:type_of% @List.getElem?_append_left:=@List.getElem?_append_left
theorem WE:type_of% @cond_true:=@cond_true
theorem WG:type_of% @Option.bind_eq_bind:=@Option.bind_eq_bind
theorem WH:type_of% @List.length_map:=@List.length_map
theorem WI:type_of% @List.map_map:=@List.map_map
theorem WJ:type_of% @List.mem_append:=@List.mem_append
theorem WK:type_of% @List.length_nil:=@List.length_nil
theorem WL:type_of% @List.all_append:=@List.all_append
theorem WM:type_of% @Nat.eq_of_beq_eq_true:=@Nat.eq_of_beq_eq_true
theorem WN:type_of% @List.getElem?_take:=@List.getElem?_take
theorem WO:type_of% @Array.getElem?_setIfInBounds:=@Array.getElem?_setIfInBounds
theorem WQ:type_of% @List.drop_eq_getElem_cons:=@List.drop_eq_getElem_cons
theorem WR:type_of% @Option.getD_some:=@Option.getD_some
theorem WS:type_of% @List.getElem_mem:=@List.getElem_mem
theorem WT:type_of% @Array.getElem?_eq_getElem:=@Array.getElem?_eq_getElem
theorem WU:type_of% @List.getElem?_cons_succ:=@List.getElem?_cons_succ
theorem WV:type_of% @List.mem_of_find?_eq_some:=@List.mem_of_find?_eq_some
theorem WW:type_of% @Nat.zero_le:=@Nat.zero_le
theorem WX:type_of% @List.length_take:=@List.length_take
theorem WY:type_of% @List.find?_eq_none:=@List.find?_eq_none
theorem WZ:type_of% @List.getElem?_of_mem:=@List.getElem?_of_mem
theorem W0:type_of% @Bool.not_false:=@Bool.not_false
theorem W1:type_of% @Option.getD_none:=@Option.getD_none
theorem W2:type_of% @List.pairwise_cons:=@List.pairwise_cons
theorem W3:type_of% @List.nodup_cons:=@List.nodup_cons
theorem W4:type_of% @List.append_nil:=@List.append_nil
theorem W5:type_of% @cond_false:=@cond_false
theorem W6:type_of% @List.contains_iff_mem:=@List.contains_iff_mem
theorem W7:type_of% @List.getElem?_drop:=@List.getElem?_drop
theorem W8:type_of% @Nat.zero_add:=@Nat.zero_add
theorem W9:type_of% @Array.getElem?_eq_none:=@Array.getElem?_eq_none
theorem Xb:type_of% @Option.map_some:=@Option.map_some
theorem Xc:type_of% @or_false:=@or_false
theorem Xd:type_of% @List.mem_range:=@List.mem_range
theorem Xe:type_of% @List.mem_append_left:=@List.mem_append_left
theorem Xf:type_of% @List.drop_eq_nil_of_le:=@List.drop_eq_nil_of_le
theorem Xg:type_of% @List.length_pos_iff:=@List.length_pos_iff
theorem Xh:type_of% @List.take_append_drop:=@List.take_append_drop
theorem Xi:type_of% @List.mem_of_getElem?:=@List.mem_of_getElem?
theorem Xj:type_of% @Bool.false_eq_true:=@Bool.false_eq_true
theorem Xk:type_of% @Array.getElem?_push:=@Array.getElem?_push
theorem Xl:type_of% @not_false_eq_true:=@not_false_eq_true
theorem Xm:type_of% @List.nil_append:=@List.nil_append
theorem Xn:type_of% @beq_iff_eq:=@beq_iff_eq
theorem Xo:type_of% @List.getD_eq_getElem?_getD:=@List.getD_eq_getElem?_getD
theorem Xp:type_of% @List.find?_some:=@List.find?_some
theorem Xq:type_of% @List.mem_append_right:=@List.mem_append_right
theorem Xr:type_of% @of_decide_eq_false:=@of_decide_eq_false
theorem Xs:type_of% @List.cons_append:=@List.cons_append
theorem Xt:type_of% @Array.ext_getElem?:=@Array.ext_getElem?
theorem Xu:type_of% @List.length_filter_lt_length_iff_exists:=@List.length_filter_lt_length_iff_exists
theorem Xv:type_of% @step_lone_go:=@step_lone_go
theorem Xw:type_of% @Nat.mul_le_mul_right:=@Nat.mul_le_mul_right
theorem Xx:type_of% @IntWalk.i64_in:=@IntWalk.i64_in
theorem Xy:type_of% @List.nodup_append:=@List.nodup_append
theorem Xz:type_of% @List.append_assoc:=@List.append_assoc
theorem XA:type_of% @Bool.eq_false_iff:=@Bool.eq_false_iff
theorem XB:type_of% @List.map_congr_left:=@List.map_congr_left
theorem XC:type_of% @List.take_length:=@List.take_length
theorem XE:type_of% @List.isEmpty_iff:=@List.isEmpty_iff
theorem XF:type_of% @List.nodup_nil:=@List.nodup_nil
theorem XG:type_of% @Array.getElem?_modify:=@Array.getElem?_modify
theorem XH:type_of% @Bool.or_eq_true:=@Bool.or_eq_true
theorem XI:type_of% @decide_eq_true_eq:=@decide_eq_true_eq
theorem XJ:type_of% @Nat.mul_one:=@Nat.mul_one
theorem XK:type_of% @List.size_toArray:=@List.size_toArray
theorem XL:type_of% @List.flatMap_cons:=@List.flatMap_cons
theorem XM:type_of% @List.toList_toArray:=@List.toList_toArray
theorem XN:type_of% @List.filter_eq_self:=@List.filter_eq_self
theorem XO:type_of% @Int.eq_ofNat_of_zero_le:=@Int.eq_ofNat_of_zero_le
theorem XP:type_of% @List.take_append_of_le_length:=@List.take_append_of_le_length
theorem XQ:type_of% @List.length_filter_le:=@List.length_filter_le
theorem XR:type_of% @List.getElem?_eq_none:=@List.getElem?_eq_none
theorem XU:type_of% @Classical.choose_spec:=@Classical.choose_spec
theorem XV:type_of% @Bool.not_eq_true':=@Bool.not_eq_true'
theorem XW:type_of% @Array.getElem_setIfInBounds:=@Array.getElem_setIfInBounds
theorem XX:type_of% @Nat.add_mul:=@Nat.add_mul
theorem XY:type_of% @List.getElem?_append_right:=@List.getElem?_append_right
theorem XZ:type_of% @List.mem_of_mem_eraseIdx:=@List.mem_of_mem_eraseIdx
theorem X0:type_of% @UInt8.toNat_inj:=@UInt8.toNat_inj
theorem X1:type_of% @List.foldl_cons:=@List.foldl_cons
theorem X2:type_of% @List.find?_cons:=@List.find?_cons
theorem X3:type_of% @BitVec.toNat_ofNat:=@BitVec.toNat_ofNat
theorem X4:type_of% @List.filter_cons_of_pos:=@List.filter_cons_of_pos
theorem X5:type_of% @List.filter_cons_of_neg:=@List.filter_cons_of_neg
theorem X6:type_of% @Nat.add_zero:=@Nat.add_zero
theorem X7:type_of% @List.take_zero:=@List.take_zero
theorem X8:type_of% @UInt8.lt_iff_toNat_lt:=@UInt8.lt_iff_toNat_lt
theorem X9:type_of% @List.getElem?_toArray:=@List.getElem?_toArray
theorem Ya:type_of% @Nat.succ_le_succ:=@Nat.succ_le_succ
theorem Yb:type_of% @Nat.mod_lt:=@Nat.mod_lt
theorem Yc:type_of% @Nat.mod_eq_of_lt:=@Nat.mod_eq_of_lt
theorem Yd:type_of% @List.flatMap_nil:=@List.flatMap_nil
theorem Ye:type_of% @List.flatMap_map:=@List.flatMap_map
theorem Yf:type_of% @if_false:=@if_false
theorem Yg:type_of% @Bool.or_eq_false_iff:=@Bool.or_eq_false_iff
theorem Yh:type_of% @Bool.eq_iff_iff:=@Bool.eq_iff_iff
theorem Yi:type_of% @List.filter_sublist:=@List.filter_sublist
theorem Yj:type_of% @if_true:=@if_true
theorem Yk:type_of% @Nat.sub_zero:=@Nat.sub_zero
theorem Yl:type_of% @run_newObj:=@run_newObj
theorem Ym:type_of% @List.pairwise_map:=@List.pairwise_map
theorem Yn:type_of% @List.foldl_append:=@List.foldl_append
theorem Yo:type_of% @eq_of_beq:=@eq_of_beq
theorem Yp:type_of% @List.mem_flatMap:=@List.mem_flatMap
theorem Yq:type_of% @List.getElem_inj:=@List.getElem_inj
inductive Tr (α:Type) where
 | leaf (x:α)
 | node (l r:Tr α)
namespace Tr
variable {α:Type}
def get:Tr α->Nat->α
 | .leaf x,_=>x
 | .node l r,n=>bif Nat.beq (n % 2) 0 then l.get (n / 2) else r.get (n / 2)
def set:Tr α->Nat->α->Tr α
 | .leaf _,_,v=>.leaf v
 | .node l r,n,v=>bif Nat.beq (n % 2) 0 then .node (l.set (n / 2) v) r else .node l (r.set (n / 2) v)
def mk (x:α):Nat->Tr α
 | 0=>.leaf x
 | d+1=>.node (mk x d) (mk x d)
def Full:Nat->Tr α->Prop
 | 0,.leaf _=>True
 | d+1,.node l r=>Full d l/\Full d r
 | _,_=>False
def full:Nat->Tr α->Bool
 | 0,.leaf _=>true
 | d+1,.node l r=>full d l&&full d r
 | _,_=>false
theorem FG {d:Nat}{t:Tr α}:full d t=true↔Full d t:=by
 induction d generalizing t with
 | zero=>cases t<;>simp[full,Full]
 | succ d ih=>cases t<;>simp[full,Full,ih]
theorem kB (x:α)(d:Nat):Full d (mk x d):=by
 induction d with
 | zero=>trivial
 | succ d ih=>exact⟨ih,ih⟩
theorem sQ (x:α)(d n:Nat):(mk x d).get n=x:=by
 induction d generalizing n with
 | zero=>rfl
 | succ d ih=>simp only[mk,get];cases Nat.beq (n % 2) 0<;>simp[ih]
theorem Full.set {d:Nat}{t:Tr α}(h:Full d t)(n:Nat)(v:α):Full d (t.set n v):=by
 induction d generalizing t n with
 | zero=>cases t<;>simp_all [Full,Tr.set]
 | succ d ih=>
  cases t with
  | leaf x=>simp[Full]at h
  | node l r=>
   obtain⟨hl,hr⟩:=h;simp only[Tr.set];cases Nat.beq (n % 2) 0
   ·exact⟨hl,ih hr _⟩
   ·exact⟨ih hl _,hr⟩
theorem wT {t:Tr α}(n:Nat)(v:α):(t.set n v).get n=v:=by
 induction t generalizing n with
 | leaf x=>rfl
 | node l r ihl ihr=>
  simp only[Tr.set];cases hb:Nat.beq (n % 2) 0<;>simp[get,hb,ihl,ihr]
theorem Ad {d:Nat}{t:Tr α}(h:Full d t){n m:Nat}(hn:n<2 ^ d)(hm:m<2 ^ d)(Yu:m≠n)(v:α):
  (t.set n v).get m=t.get m:=by
 induction d generalizing t n m with
 | zero=>simp at hn hm;omega
 | succ d ih=>
  cases t with
  | leaf x=>simp[Full]at h
  | node l r=>
   obtain⟨hl,hr⟩:=h;have h2:2 ^ (d+1)=2*2 ^ d:=by rw[Nat.pow_succ,Nat.mul_comm]
   have e1:∀ k:Nat,Nat.beq (k % 2) 0=true↔k % 2=0:=fun k=>⟨WM,fun e=>by rw[e];rfl⟩;simp only[Tr.set];cases Z9:Nat.beq (n % 2) 0<;>cases hbm:Nat.beq (m % 2) 0<;>simp[get,hbm]
   ·refine ih hr (by omega) (by omega) ?_;intro he;have a1:¬ n % 2=0:=fun e=>by rw[(e1 n).2 e]at Z9;cases Z9
    have a2:¬ m % 2=0:=fun e=>by rw[(e1 m).2 e]at hbm;cases hbm
    omega
   ·refine ih hl (by omega) (by omega) ?_;intro he;have a1:=(e1 n).1 Z9;have a2:=(e1 m).1 hbm;omega
theorem dV {d:Nat}{t:Tr α}(h:Full d t){n m:Nat}(hn:n<2 ^ d)(hm:m<2 ^ d)(v:α):
  (t.set n v).get m=if m=n then v else t.get m:=by
 split
 ·rename_i e;rw[e,wT]
 ·rename_i e;exact Ad h hn hm e v
end Tr
inductive SV where
 | aH
 | v (x:Value)
 | ptr (i off:Nat)
 | sl (i off len:Nat) (cap:Option Nat)
 | map (i:Nat)
 | agg (l:List SV)
 | tup (l:List SV)
 | iface (t:TypeId) (x:SV)
 | func (fn:Fn) (first capt:List SV)
 | yield (i:Nat)
 | fin (i off len adv:Nat)
abbrev aP:=Nat->Option (Nat × Nat)
def aP.Le (ν ν':aP):Prop:=∀ i b,ν i=some b->ν' i=some b
theorem aP.Le.refl (ν:aP):ν.Le ν:=fun _ _ h=>h
theorem aP.Le.trans {a b c:aP}(h:a.Le b)(k:b.Le c):a.Le c:=fun i x hx=>k i x (h i x hx)
mutual
def VR (ν:aP):SV->Value->Prop
 | .aH,_=>True
 | .v x,y=>y=x
 | .ptr i off,y=>∃ b,ν i=some b/\y=.pointer (some ⟨b.1,off,none⟩)
 | .sl i off len cap,y=>∃ b,ν i=some b/\len<=cap.getD (b.2 - off)/\y=.slice (some ⟨b.1,off,none⟩) len (cap.getD (b.2 - off))
 | .map i,y=>∃ b,ν i=some b/\y=.map (some b.1)
 | .agg l,y=>∃ a:List Value,y=.agg a.toArray/\au ν l a
 | .tup l,y=>∃ a:List Value,y=.tuple a.toArray/\au ν l a
 | .iface t x,y=>∃ z,y=.iface t z/\VR ν x z
 | .func fn a b,y=>∃ a' b':List Value,y=.func fn a'.toArray b'.toArray/\au ν a a'/\au ν b b'
 | .yield i,y=>∃ b,ν i=some b/\y=.func (.yield b.1) #[] #[]
 | .fin i off len adv,y=>∃ b,ν i=some b/\y=.slice (some ⟨b.1,if b.2 - off=len then off else off+adv,none⟩) 0 (b.2 - off - len)
def au (ν:aP):List SV->List Value->Prop
 | [],ys=>ys=[]
 | x::xs,ys=>∃ z zs,ys=z::zs/\VR ν x z/\au ν xs zs
end
mutual
theorem VR.mono {ν ν':aP}(h:ν.Le ν'):∀ (s:SV) (y:Value),VR ν s y->VR ν' s y
 | .aH,_,_=>trivial
 | .v _,_,hy=>hy
 | .ptr _ _,_,hy=>by obtain⟨b,hb,e⟩:=hy;exact⟨b,h _ _ hb,e⟩
 | .sl _ _ _ _,_,hy=>by obtain⟨b,hb,hc,e⟩:=hy;exact⟨b,h _ _ hb,hc,e⟩
 | .map _,_,hy=>by obtain⟨b,hb,e⟩:=hy;exact⟨b,h _ _ hb,e⟩
 | .agg l,_,hy=>by obtain⟨a,e,hl⟩:=hy;exact⟨a,e,au.mono h l a hl⟩
 | .tup l,_,hy=>by obtain⟨a,e,hl⟩:=hy;exact⟨a,e,au.mono h l a hl⟩
 | .iface _ x,_,hy=>by obtain⟨z,e,hz⟩:=hy;exact⟨z,e,VR.mono h x z hz⟩
 | .func _ a b,_,hy=>by obtain⟨a',b',e,ha,hb⟩:=hy;exact⟨a',b',e,au.mono h a a' ha,au.mono h b b' hb⟩
 | .yield _,_,hy=>by obtain⟨b,hb,e⟩:=hy;exact⟨b,h _ _ hb,e⟩
 | .fin _ _ _ _,_,hy=>by obtain⟨b,hb,e⟩:=hy;exact⟨b,h _ _ hb,e⟩
theorem au.mono {ν ν':aP}(h:ν.Le ν'):∀ (l:List SV) (ys:List Value),au ν l ys->au ν' l ys
 | [],_,hy=>hy
 | x::xs,_,hy=>by
  obtain⟨z,zs,e,hz,hzs⟩:=hy
  exact⟨z,zs,e,VR.mono h x z hz,au.mono h xs zs hzs⟩
end
theorem au.length {ν:aP}:∀ {l:List SV} {ys:List Value},au ν l ys->ys.length=l.length
 | [],_,h=>by rw[au]at h;rw[h];rfl
 | _::xs,_,h=>by rw[au]at h;obtain⟨z,zs,rfl,_,hs⟩:=h;simp[au.length hs]
theorem au.nil {ν:aP}:au ν [] []:=by rw[au]
theorem au.cons {ν:aP}{x:SV}{xs:List SV}{y:Value}{ys:List Value}(h:VR ν x y)(hs:au ν xs ys):au ν (x::xs) (y::ys):=by
 rw[au];exact⟨y,ys,rfl,h,hs⟩
theorem au.cons_inv {ν:aP}{x:SV}{xs:List SV}{l:List Value}(h:au ν (x::xs) l):∃ y ys,l=y::ys/\VR ν x y/\au ν xs ys:=by
 rw[au]at h;exact h
theorem au.ay {ν:aP}{l:List Value}(h:au ν [] l):l=[]:=by rw[au]at h;exact h
theorem au.append {ν:aP}:∀ {l:List SV} {ys:List Value} {m:List SV} {zs:List Value},au ν l ys->au ν m zs->au ν (l++m) (ys++zs)
 | [],_,_,_,h,k=>by rw[au.ay h];exact k
 | _::_,_,_,_,h,k=>by obtain⟨z,zs,rfl,hz,hs⟩:=h.cons_inv;exact au.cons hz (au.append hs k)
theorem au.get {ν:aP}:∀ {l:List SV} {ys:List Value} {i:Nat} {x:SV},au ν l ys->l[i]?=some x->∃ y,ys[i]?=some y/\VR ν x y
 | [],_,_,_,_,e=>by simp at e
 | _::xs,_,0,_,h,e=>by obtain⟨z,zs,rfl,hz,_⟩:=h.cons_inv;simp at e;subst e;exact⟨z,by simp,hz⟩
 | _::xs,_,i+1,_,h,e=>by obtain⟨z,zs,rfl,_,hs⟩:=h.cons_inv;simp at e;simpa using au.get hs e
theorem au.set {ν:aP}{x:SV}{y:Value}(hx:VR ν x y):∀ {l:List SV} {ys:List Value} (i:Nat),au ν l ys->au ν (l.set i x) (ys.set i y)
 | [],_,_,h=>by rw[au.ay h];exact au.nil
 | _::_,_,0,h=>by obtain⟨z,zs,rfl,_,hs⟩:=h.cons_inv;exact au.cons hx hs
 | _::_,_,i+1,h=>by obtain⟨z,zs,rfl,hz,hs⟩:=h.cons_inv;exact au.cons hz (au.set hx i hs)
theorem au.take {ν:aP}:∀ {l:List SV} {ys:List Value} (i:Nat),au ν l ys->au ν (l.take i) (ys.take i)
 | _,_,0,_=>by simpa using au.nil
 | [],_,_+1,h=>by rw[au.ay h];exact au.nil
 | _::_,_,i+1,h=>by obtain⟨z,zs,rfl,hz,hs⟩:=h.cons_inv;exact au.cons hz (au.take i hs)
theorem au.drop {ν:aP}:∀ {l:List SV} {ys:List Value} (i:Nat),au ν l ys->au ν (l.drop i) (ys.drop i)
 | _,_,0,h=>by simpa using h
 | [],_,_+1,h=>by rw[au.ay h];exact au.nil
 | _::_,_,i+1,h=>by obtain⟨z,zs,rfl,_,hs⟩:=h.cons_inv;simpa using au.drop i hs
theorem au.lits (ν:aP):∀ ys:List Value,au ν (ys.map SV.v) ys
 | []=>au.nil
 | _::ys=>au.cons (by rw[VR]) (au.lits ν ys)
open Go.RowKit (Below)
structure fR where
 nt:Nat
 d:Nat
 T:Tr SV
def fR.get (s:fR)(t:Nat):SV:=bif Nat.blt t s.nt then s.T.get t else .v undef
def fR.set (s:fR)(t:Nat)(x:SV):fR:=bif Nat.blt t s.nt then { s with T:=s.T.set t x } else s
structure j3 (ν:aP)(s:fR)(a:Array Value):Prop where
 size:a.size=s.nt
 full:Tr.Full s.d s.T
 le:s.nt<=2 ^ s.d
 get:∀ t,t<s.nt->VR ν (s.T.get t) (a.getD t undef)
theorem j3.mono {ν ν':aP}(h:ν.Le ν'){s:fR}{a:Array Value}(r:j3 ν s a):j3 ν' s a:=
 ⟨r.size,r.full,r.le,fun t ht=>VR.mono h _ _ (r.get t ht)⟩
theorem dw {a b:Nat}:Nat.blt a b=true↔a<b:=by
 unfold Nat.blt;rw[Nat.ble_eq];exact Iff.rfl
theorem vv {a b:Nat}(h:¬ a<b):Nat.blt a b=false:=by
 cases hb:Nat.blt a b
 ·rfl
 ·exact absurd (dw.1 hb) h
theorem j3.at {ν:aP}{s:fR}{a:Array Value}(r:j3 ν s a)(t:Nat):VR ν (s.get t) (a.getD t undef):=by
 unfold fR.get;by_cases h:t<s.nt
 ·rw[dw.2 h];exact r.get t h
 ·rw[vv h];have:a.getD t undef=undef:=by rw[Array.getD,dif_neg (by rw[r.size];exact h)]
  simp only[W5];rw[this,VR]
theorem j3.set {ν:aP}{s:fR}{a:Array Value}(r:j3 ν s a)(t:Nat){x:SV}{y:Value}(h:VR ν x y):
  j3 ν (s.set t x) (a.setIfInBounds t y):=by
 unfold fR.set;by_cases ht:t<s.nt
 ·rw[dw.2 ht];refine⟨by simp[r.size],r.full.set _ _,r.le,?_⟩;intro u hu;have hu':u<s.nt:=hu;show VR ν ((s.T.set t x).get u) _;rw[Tr.dV r.full (Wz ht r.le) (Wz hu' r.le)];by_cases e:u=t
  ·subst e;simp[Array.getD,r.size,hu',h]
  ·have:=r.get u hu';simp only[Array.getD,Array.size_setIfInBounds]at this ⊢;rw[if_neg e];have hs:u<a.size:=by rw[r.size];exact hu'
   rw[dif_pos hs]at this ⊢
   have:(a.setIfInBounds t y)[u]'(by simpa using hs)=a[u]:=by
    rw[XW hs,if_neg (fun e'=>e e'.symm)]
   first|(rw[this];assumption)|simp_all
 ·rw[vv ht]
  have:a.setIfInBounds t y=a:=by
   rw[Array.setIfInBounds,dif_neg (by rw[r.size];exact ht)]
  simp only[W5];rw[this];exact r
inductive ry where
 | fn (fn:Fn) (capt args:List SV)
 | coll (i:Nat)
def AV (ν:aP):ry->Deferred->Prop
 | .fn f c a,d=>∃ c' a':List Value,d={ target:=.fn f c'.toArray,args:=a'.toArray }/\au ν c c'/\au ν a a'
 | .coll i,d=>∃ b,ν i=some b/\d={ target:=.collected b.1,args:=#[] }
def j8 (ν:aP):List ry->List Deferred->Prop
 | [],l=>l=[]
 | x::xs,l=>∃ z zs,l=z::zs/\AV ν x z/\j8 ν xs zs
theorem AV.mono {ν ν':aP}(h:ν.Le ν'):∀ {s:ry} {d:Deferred},AV ν s d->AV ν' s d
 | .fn _ _ _,_,⟨c',a',e,hc,ha⟩=>⟨c',a',e,hc.mono h,ha.mono h⟩
 | .coll _,_,⟨b,hb,e⟩=>⟨b,h _ _ hb,e⟩
theorem j8.mono {ν ν':aP}(h:ν.Le ν'):∀ {l:List ry} {ds:List Deferred},j8 ν l ds->j8 ν' l ds
 | [],_,e=>e
 | _::_,_,⟨z,zs,e,hz,hs⟩=>⟨z,zs,e,hz.mono h,j8.mono h hs⟩
inductive SO where
 | row (xs:List SV) (elem:TypeId) (fz:Nat × Nat) (ext:Option Nat)
 | look (xs:List SV)
 | rowO (n:Nat) (f:Nat->Value) (elem:TypeId) (fz:Nat × Nat) (ext:Option Nat)
 | map (es:List (SV × SV × Nat)) (clock:Nat)
 | siter (s:ByteArray) (pos:Nat)
 | miter (m:Option Nat) (since:Nat) (seen:List Nat) (YV:Nat)
 | loop (st:LoopState) (pending:Option Code) (fn:FuncId) (tm:fR) (params:List Tmp) (assign body:Code) (defers:Nat)
 | dfr (calls:Option (List ry))
def js (fz:Nat × Nat)(n:Nat):Nat × Nat:=bif Nat.beq fz.1 1&&Nat.beq fz.2 0 then (n,n+1) else fz
@[simp] theorem l7 (n:Nat):js (0,0) n=(0,0):=rfl
def s8 (ν:aP)(i:Nat)(n:Nat)(size:Nat):Option Nat->Prop
 | none=>size=n
 | some e=>n<=size/\∃ b,ν i=some b/\size=b.2*e
def eI (ν:aP):List (SV × SV × Nat)->List MapEntry->Prop
 | [],l=>l=[]
 | x::xs,l=>∃ z zs,l=z::zs/\VR ν x.1 z.key/\VR ν x.2.1 z.val/\x.2.2=z.born/\eI ν xs zs
theorem eI.mono {ν ν':aP}(h:ν.Le ν'):∀ {l:List (SV × SV × Nat)} {ds:List MapEntry},eI ν l ds->eI ν' l ds
 | [],_,e=>e
 | _::_,_,⟨z,zs,e,h1,h2,h3,hs⟩=>⟨z,zs,e,VR.mono h _ _ h1,VR.mono h _ _ h2,h3,eI.mono h hs⟩
def OR (ν:aP)(i:Nat):SO->Obj->Prop
 | .row xs elem fz ext,o=>∃ ys rest:List Value,o=.cells (ys++rest).toArray elem (js fz (ys++rest).length)/\au ν xs ys/\s8 ν i xs.length (ys++rest).length ext
 | .look xs,o=>∃ (ys:List Value) (c:Array Value) (e:TypeId) (fz:Nat × Nat),o=.cells c e fz/\au ν xs ys/\∀ (k:Nat) (y:Value),ys[k]?=some y->c[k]?=some y
 | .rowO n f elem fz ext,o=>∃ c:Array Value,o=.cells c elem (js fz c.size)/\(∀ k,k<n->c[k]?=some (f k))/\s8 ν i n c.size ext
 | .map es clock,o=>∃ l:List MapEntry,o=.map l.toArray clock/\eI ν es l
 | .siter s pos,o=>o=.stringIter s pos
 | .miter none since seen YV,o=>o=.mapIter none since seen.toArray YV
 | .miter (some m) since seen YV,o=>∃ b,ν m=some b/\o=.mapIter (some b.1) since seen.toArray YV
 | .loop st pending fn tm params assign body defers,o=>∃ (a:Array Value) (b:Nat × Nat),ν defers=some b/\j3 ν tm a/\
   o=.loop { state:=st,pending,fn,tmps:=a,params:=params.toArray,assign,body,defers:=b.1 }
 | .dfr none,o=>o=.deferred none
 | .dfr (some l),o=>∃ ds,o=.deferred (some ds)/\j8 ν l ds
theorem s8.mono {ν ν':aP}(h:ν.Le ν'){i n size:Nat}:∀ {e:Option Nat},s8 ν i n size e->s8 ν' i n size e
 | none,r=>r
 | some _,⟨r,b,hb,e⟩=>⟨r,b,h _ _ hb,e⟩
theorem OR.mono {ν ν':aP}(h:ν.Le ν'){i:Nat}:∀ {s:SO} {o:Obj},OR ν i s o->OR ν' i s o
 | .row ..,_,⟨ys,rest,e,hl,hx⟩=>⟨ys,rest,e,hl.mono h,hx.mono h⟩
 | .look ..,_,⟨ys,c,e,fz,ho,hl,hx⟩=>⟨ys,c,e,fz,ho,hl.mono h,hx⟩
 | .rowO ..,_,⟨c,e,hl,hx⟩=>⟨c,e,hl,hx.mono h⟩
 | .map ..,_,⟨l,e,hl⟩=>⟨l,e,hl.mono h⟩
 | .siter ..,_,e=>e
 | .miter none ..,_,e=>e
 | .miter (some _) ..,_,⟨b,hb,e⟩=>⟨b,h _ _ hb,e⟩
 | .loop ..,_,⟨a,b,hb,ha,e⟩=>⟨a,b,h _ _ hb,ha.mono h,e⟩
 | .dfr none,_,e=>e
 | .dfr (some _),_,⟨ds,e,hd⟩=>⟨ds,e,hd.mono h⟩
inductive gR where
 | b (t:Bool)
 | cells (l:List SV)
 | app (old new:List SV)
 | app0
 | put
 | str (b:ByteArray)
 | eqs (b:Bool)
 | hit (j:Nat) (x:SV) (born:Nat)
 | cr
 | ent (k x:SV)
structure SH where
 d:Nat
 H:Tr (Option (SO × Bool))
 nx:Nat
 Y9:List Prop
 dc:Nat
 orc:Nat->Option gR:=fun _=>none
 soft:Bool:=false
def ah:List Prop->Prop
 | []=>True
 | p::l=>ah l/\p
def SH.ob (s:SH):Prop:=ah s.Y9
theorem ah.append:∀ {l m:List Prop},ah (l++m)->ah l/\ah m
 | [],_,h=>⟨trivial,h⟩
 | _::_,_,h=>⟨⟨(ah.append h.1).1,h.2⟩,(ah.append h.1).2⟩
structure Own where
 m:Nat->Prop
 r:Nat->Prop
 h:Nat->Prop
instance:CoeFun Own (fun _=>Nat->Prop):=⟨Own.m⟩
def Own.Dz (r:Nat->Prop):Own:=⟨fun _=>False,r,fun _=>False⟩
structure HR (ν:aP)(M:Own)(w0:World)(s:SH)(w:World):Prop where
 full:Tr.Full s.d s.H
 dom:∀ i,2 ^ s.d<=i->ν i=none
 fresh:∀ i,s.nx<=i->ν i=none
 obj:∀ i,i<2 ^ s.d->∀ x,s.H.get i=some x->∃ b o,ν i=some b/\w.heap[b.1]?=some o/\OR ν i x.1 o/\(x.2=true->w0.heap.size<=b.1\/M b.1)
 inj:∀ i j,i<2 ^ s.d->j<2 ^ s.d->s.H.get i≠none->s.H.get j≠none->∀ b c,ν i=some b->ν j=some c->b.1=c.1->i=j
 size:w0.heap.size<=w.heap.size
 frame:∀ b,b<w0.heap.size->¬ M b->w.heap[b]?=w0.heap[b]?
 ro:∀ i,i<2 ^ s.d->∀ x,s.H.get i=some x->x.2=false->∀ b,ν i=some b->M.r b.1
 os:w.os=w0.os
 tape:w.tape=w0.tape
 output:w.output=w0.output
theorem HR.below {ν:aP}{r:Nat->Prop}{w0 w:World}{s:SH}(h:HR ν (Own.Dz r) w0 s w):Below w0.heap.size w0 w:=
 ⟨h.os,h.tape,h.output,h.size,fun k hk=>h.frame k hk id⟩
def SH.look (s:SH)(i:Nat):Option (SO × Bool):=bif Nat.blt i (2 ^ s.d) then s.H.get i else none
theorem HR.look {ν:aP}{M:Own}{w0 w:World}{s:SH}(h:HR ν M w0 s w){i:Nat}{x:SO × Bool}(e:s.look i=some x):
  i<2 ^ s.d/\s.H.get i=some x/\∃ b o,ν i=some b/\w.heap[b.1]?=some o/\OR ν i x.1 o/\(x.2=true->w0.heap.size<=b.1\/M b.1):=by
 unfold SH.look at e;cases hb:Nat.blt i (2 ^ s.d)
 ·rw[hb]at e;cases e
 ·rw[hb]at e;exact⟨dw.1 hb,e,h.obj i (dw.1 hb) x e⟩
theorem HR.drawn {ν:aP}{M:Own}{w0 w:World}{s:SH}(h:HR ν M w0 s w)(n:Nat):HR ν M w0 s { w with drawn:=n }:=
 ⟨h.full,h.dom,h.fresh,h.obj,h.inj,h.size,h.frame,h.ro,h.os,h.tape,h.output⟩
def SH.put (s:SH)(i:Nat)(o:SO):SH:={ s with H:=s.H.set i (some (o,true)) }
theorem HR.put {ν:aP}{M:Own}{w0 w w':World}{s:SH}(h:HR ν M w0 s w){i:Nat}{x:SO}(e:s.look i=some (x,true)){o:SO}{r:Obj}{b:Nat × Nat}
  (hb:ν i=some b) (ho:OR ν i o r) (hw:w'.heap=w.heap.setIfInBounds b.1 r) (hos:w'.os=w.os) (ht:w'.tape=w.tape) (hout:w'.output=w.output):
  HR ν M w0 (s.put i o) w':=by
 obtain⟨hi,hg,b',o',Yy,Zz,_,YS⟩:=h.look e;obtain rfl:b=b':=by rw[hb]at Yy;exact Option.some.inj Yy
 have YS:=YS rfl;have YD:b.1<w.heap.size:=(VY.1 Zz).1;refine⟨h.full.set _ _,h.dom,h.fresh,?_,?_,?_,?_,?_,hos.trans h.os,ht.trans h.tape,hout.trans h.output⟩
 ·intro j hj y hy;have hy:(s.H.set i (some (o,true))).get j=some y:=hy;rw[Tr.dV h.full hi hj]at hy;by_cases eij:j=i
  ·subst eij;rw[if_pos rfl]at hy;cases hy;exact⟨b,r,hb,by rw[hw];simp[YD],ho,fun _=>YS⟩
  ·rw[if_neg eij]at hy;obtain⟨c,oc,hc,hoc,hr,ho2⟩:=h.obj j hj y hy;refine⟨c,oc,hc,?_,hr,ho2⟩;rw[hw,WO];rw[if_neg]
   ·exact hoc
   ·intro ec;exact eij (h.inj j i hj hi (by rw[hy];simp) (by rw[hg];simp) c b hc hb ec.symm)
 ·intro j k hj hk hgj hgk c c' hc ZI ec
  have f:∀ u,u<2 ^ s.d->(s.put i o).H.get u≠none->s.H.get u≠none:=by
   intro u hu hn;have hn:(s.H.set i (some (o,true))).get u≠none:=hn;rw[Tr.dV h.full hi hu]at hn;by_cases eu:u=i
   ·subst eu;rw[hg];simp
   ·rwa[if_neg eu]at hn
  exact h.inj j k hj hk (f j hj hgj) (f k hk hgk) c c' hc ZI ec
 ·rw[hw];simpa using h.size
 ·intro c hc hM;rw[hw,WO,if_neg,h.frame c hc hM];intro ec;subst ec;rcases YS with h1|h1
  ·omega
  ·exact hM h1
 ·intro j hj y hy hf c hc;have hy:(s.H.set i (some (o,true))).get j=some y:=hy;rw[Tr.dV h.full hi hj]at hy;by_cases eij:j=i
  ·rw[if_pos eij]at hy;cases hy;cases hf
  ·rw[if_neg eij]at hy;exact h.ro j hj y hy hf c hc
def SH.drop (s:SH)(i:Nat):SH:={ s with H:=s.H.set i none }
theorem HR.drop {ν:aP}{M:Own}{w0 w:World}{s:SH}(h:HR ν M w0 s w){i:Nat}(hi:i<2 ^ s.d):HR ν M w0 (s.drop i) w:=by
 have f:∀ u,u<2 ^ s.d->∀ x,(s.drop i).H.get u=some x->s.H.get u=some x:=by
  intro u hu x hn;have hn:(s.H.set i none).get u=some x:=hn;rw[Tr.dV h.full hi hu]at hn;by_cases eu:u=i
  ·rw[if_pos eu]at hn;cases hn
  ·rwa[if_neg eu]at hn
 refine⟨h.full.set _ _,h.dom,h.fresh,fun j hj x hx=>h.obj j hj x (f j hj x hx),?_,h.size,h.frame,fun j hj x hx=>h.ro j hj x (f j hj x hx),h.os,h.tape,h.output⟩;intro j k hj hk hgj hgk
 have g:∀ u,u<2 ^ s.d->(s.drop i).H.get u≠none->s.H.get u≠none:=by
  intro u hu hn;cases hx:(s.drop i).H.get u with
  | none=>exact absurd hx hn
  | some x=>rw[f u hu x hx];simp
 exact h.inj j k hj hk (g j hj hgj) (g k hk hgk)
def SH.new (s:SH)(o:SO):SH:={ s with H:=s.H.set s.nx (some (o,true)),nx:=s.nx+1 }
def SH.room (s:SH):Bool:=Nat.blt s.nx (2 ^ s.d)
def aP.put (ν:aP)(i:Nat)(b:Nat × Nat):aP:=fun j=>if j=i then some b else ν j
theorem aP.bO (ν:aP)(i:Nat)(b:Nat × Nat):ν.put i b i=some b:=by simp[aP.put]
theorem aP.lY {ν:aP}{i:Nat}(h:ν i=none)(b:Nat × Nat):ν.Le (ν.put i b):=by
 intro j c hc;unfold aP.put;by_cases e:j=i
 ·subst e;rw[h]at hc;cases hc
 ·rw[if_neg e];exact hc
theorem HR.new {ν:aP}{M:Own}{w0 w w':World}{s:SH}(h:HR ν M w0 s w)(hr:s.room=true){o:SO}{r:Obj}(c:Nat)
  (ho:OR (ν.put s.nx (w.heap.size,c)) s.nx o r)
  (hw:w'.heap=w.heap.push r) (hos:w'.os=w.os) (ht:w'.tape=w.tape) (hout:w'.output=w.output):
  ν s.nx=none/\HR (ν.put s.nx (w.heap.size,c)) M w0 (s.new o) w':=by
 have hnx:ν s.nx=none:=h.fresh _ (Wx _);have YD:s.nx<2 ^ s.d:=dw.1 hr;have hle:=aP.lY hnx (w.heap.size,c);have Za:∀ j,j≠s.nx->(ν.put s.nx (w.heap.size,c)) j=ν j:=fun j e=>by simp[aP.put,e]
 have blt:∀ j,j<2 ^ s.d->s.H.get j≠none->∀ b,ν j=some b->b.1<w.heap.size:=by
  intro j hj hn b hb;cases hx:s.H.get j with
  | none=>exact absurd hx hn
  | some x=>
   obtain⟨b',o',Yy,Zz,_⟩:=h.obj j hj x hx;rw[hb]at Yy;cases Yy;exact (VY.1 Zz).1
 refine⟨hnx,h.full.set _ _,?_,?_,?_,?_,?_,?_,?_,hos.trans h.os,ht.trans h.tape,hout.trans h.output⟩
 ·intro i hi;have hi:2 ^ s.d<=i:=hi;rw[Za i (by omega)];exact h.dom i hi
 ·intro i hi;have hi:s.nx+1<=i:=hi;rw[Za i (by omega)];exact h.fresh i (by omega)
 ·intro j hj y hy;have hj:j<2 ^ s.d:=hj;have hy:(s.H.set s.nx (some (o,true))).get j=some y:=hy;rw[Tr.dV h.full YD hj]at hy;by_cases e:j=s.nx
  ·subst e;rw[if_pos rfl]at hy;cases hy;exact⟨(w.heap.size,c),r,aP.bO _ _ _,by rw[hw];simp,ho,fun _=>.inl h.size⟩
  ·rw[if_neg e]at hy;obtain⟨b,o',hb,Zz,YK,YS⟩:=h.obj j hj y hy;have:=(VY.1 Zz).1;exact⟨b,o',by rw[Za j e];exact hb,by rw[hw,Xk,if_neg (by omega)];exact Zz,YK.mono hle,YS⟩
 ·intro i j hi hj hgi hgj b b' hb Yy e;have hi:i<2 ^ s.d:=hi;have hj:j<2 ^ s.d:=hj
  have g:∀ u,u<2 ^ s.d->u≠s.nx->(s.new o).H.get u≠none->s.H.get u≠none:=by
   intro u hu ne hn;have hn:(s.H.set s.nx (some (o,true))).get u≠none:=hn;rwa[Tr.dV h.full YD hu,if_neg ne]at hn
  by_cases ei:i=s.nx<;>by_cases ej:j=s.nx
  ·rw[ei,ej]
  ·subst ei;rw[aP.bO]at hb;cases hb;rw[Za j ej]at Yy;have:=blt j hj (g j hj ej hgj) b' Yy;simp at e;omega
  ·subst ej;rw[aP.bO]at Yy;cases Yy;rw[Za i ei]at hb;have:=blt i hi (g i hi ei hgi) b hb;simp at e;omega
  ·rw[Za i ei]at hb;rw[Za j ej]at Yy;exact h.inj i j hi hj (g i hi ei hgi) (g j hj ej hgj) b b' hb Yy e
 ·rw[hw];simp;have:=h.size;omega
 ·intro b hb hM;have:=h.size;rw[hw,Xk,if_neg (by omega)];exact h.frame b hb hM
 ·intro j hj y hy hf b hb;have hj:j<2 ^ s.d:=hj;have hy:(s.H.set s.nx (some (o,true))).get j=some y:=hy;rw[Tr.dV h.full YD hj]at hy;by_cases e:j=s.nx
  ·rw[if_pos e]at hy;cases hy;cases hf
  ·rw[if_neg e]at hy;rw[Za j e]at hb;exact h.ro j hj y hy hf b hb
inductive SI where
 | code (c:Code)
 | inBlock (id:Nat)
 | inLoop (body:Code)
 | inScope (body:Code)
 | reg (ops:Array Oper) (todo:List Nat)
 | drw (ops:Array Oper) (rem Yx:List Nat)
 | ε (i:Nat)
 | Δ (i:Nat)
 | beginRound
structure SF where
 fn:FuncId
 tm:fR
 todo:List SI
 defers:List ry
 ret:Bool
 kind:CallKind
 ro:Option Nat
structure SM where
 top:SF
 callers:List SF
 mem:SH
inductive dG where
 | val (x:SV)
 | enter (f:FuncId) (args:List SV)
 | round (i:Nat) (args:List SV)
 | defer (d:ry)
inductive xF where
 | same
 | pure (f:Array Value->Sem Value)
 | makeNoZero (params:Array TypeId) (t:TypeId)
structure Env where
 P:Program
 ext:FuncId->Option xF
 G:List (Nat × Nat)
 orc:Nat->Option Bool
 YT:FuncId->Option (List SV->SH->Option (SV × SH))
 qs:FuncId->Option (List SV->Option (List SV))
def SH.J4 (s:SH)(E:Env):Option Bool:=match s.orc s.dc with|some (.b t)=>some t|_=>E.orc s.dc
def SH.dec (s:SH)(E:Env)(b:Bool):Bool × SH:=
 match s.J4 E with
 | some t=>(t,{ s with Y9:=(b=t)::s.Y9,dc:=s.dc+1 })
 | none=>(b,{ s with dc:=s.dc+1 })
def SH.ask (s:SH)(E:Env)(b:Bool):Option SH:=
 match s.J4 E with
 | some _=>some { s with Y9:=(b=true)::s.Y9,dc:=s.dc+1 }
 | none=>bif s.soft then some { s with Y9:=(b=true)::s.Y9,dc:=s.dc+1 } else bif b then some { s with dc:=s.dc+1 } else none
def fU (b:Bool):Option Unit:=bif b then some () else none
def SV.flat:SV->Bool
 | .agg _|.tup _|.aH=>false
 | .v (.agg _)|.v (.tuple _)=>false
 | _=>true
def SV.cells:SV->Option (List SV)
 | .agg l=>some l
 | .v (.agg cs)=>some (cs.toList.map .v)
 | .aH=>none
 | x=>some [x]
def SV.tuple:SV->Option (List SV)
 | .tup l=>some l
 | .v (.tuple vs)=>some (vs.toList.map .v)
 | _=>none
def bq (E:Env)(tm:fR):Operand->SV
 | .tmp t=>tm.get t
 | .const v=>.v v
 | .global g=>match E.G.lookup g with|some i=>.ptr i 0|none=>.v (.pointer (some ⟨g,0,none⟩))
 | .func f=>.v (.func (.func f) #[] #[])
mutual
def eM:SV->Option Value
 | .v x=>some x
 | .agg l=>(jN l).map fun vs=>.agg vs.toArray
 | .tup l=>(jN l).map fun vs=>.tuple vs.toArray
 | .iface t x=>(eM x).map (.iface t ·)
 | .aH=>none
 | .ptr _ _=>none
 | .sl _ _ _ _=>none
 | .map _=>none
 | .func _ _ _=>none
 | .yield _=>none
 | .fin _ _ _ _=>none
def jN:List SV->Option (List Value)
 | []=>some []
 | x::xs=>match eM x,jN xs with
  | some v,some vs=>some (v::vs)
  | _,_=>none
end
def ep {α:Type}(P:Program):Sem α->Option α
 | .pure a=>some a
 | .program k=>ep P (k P)
 | _=>none
def lW (E:Env)(tm:fR)(l:List Operand):Bool:=l.all fun x=>(eM (bq E tm x)).isSome
def gH (E:Env)(tm:fR)(o:Oper):Option SV:=
 bif lW E tm o.op.operands.toList then
 match ep E.P (execOp (fun x=>(eM (bq E tm x)).getD undef) o) with
 | some (.value x)=>some (.v x)
 | _=>none
 else none
def bR (E:Env)(t:TypeId):Option TypeDesc:=E.P.underlying t
def bT (E:Env)(t:TypeId):Option TypeInfo:=E.P.info? t
def kI (E:Env)(t:TypeId):Option Bool:=
 match bR E t with
 | some (.struct _)|some (.array _ _)=>some true
 | some _=>some false
 | none=>none
def nY (fz:Nat × Nat)(off n:Nat):Bool:=Nat.ble fz.2 fz.1||Nat.ble (off+n) fz.1||Nat.ble fz.2 off
def SH.jh (s:SH)(p:Prop):SH:={ s with Y9:=p::s.Y9,dc:=s.dc+1 }
def SO.told:SO->Option (List SV)
 | .row xs _ _ _=>some xs
 | .look xs=>some xs
 | _=>none
def qn (E:Env)(t:TypeId)(a:SV)(l:List SV)(s:SH):Option (SV × SH):=
 match a,kI E t,bT E t with
 | .ptr i off,some ag,some info=>
  match (s.look i).bind (·.1.told) with
  | some xs=>
   bif ag then some (.agg l,s.jh ((xs.drop off).take info.size=l/\l.length=info.size))
   else match l with
    | [x]=>some (x,s.jh (xs[off]?=some x))
    | _=>none
  | none=>none
 | _,_,_=>none
def p8 (E:Env)(t:TypeId)(a:SV)(s:SH):Option (SV × SH):=
 match a,kI E t,bT E t with
 | .ptr i off,some false,_=>
  match s.look i with
  | some (.row xs _ _ _,_)=>(xs[off]?).map (·,s)
  | some (.look xs,_)=>(xs[off]?).map (·,s)
  | some (.rowO n f _ _ _,_)=>(s.ask E (Nat.blt off n)).map (SV.v (f off),·)
  | _=>none
 | .ptr i off,some true,some info=>
  match s.look i with
  | some (.row xs _ _ _,_)=>bif Nat.ble (off+info.size) xs.length then some (.agg ((xs.drop off).take info.size),s) else none
  | some (.rowO n f _ _ _,_)=>(s.ask E (Nat.ble (off+info.size) n)).map (SV.agg ((List.range info.size).map fun k=>.v (f (off+k))),·)
  | _=>none
 | _,_,_=>none
def nr (E:Env)(t:TypeId)(a:SV)(s:SH):Option (SV × SH):=
 match s.orc s.dc with
 | some (.cells l)=>qn E t a l s
 | _=>p8 E t a s
def aQ:List SV->Nat->List SV->List SV
 | [],_,_=>[]
 | x::xs,0,ys=>match ys with|[]=>x::xs|y::zs=>y::aQ xs 0 zs
 | x::xs,k+1,ys=>x::aQ xs k ys
theorem n9:∀ (xs:List SV) (off:Nat),aQ xs off []=xs
 | [],_=>rfl
 | x::xs,0=>rfl
 | x::xs,k+1=>by rw[aQ,n9 xs k]
theorem lV:∀ (xs:List SV) (off:Nat) (y:SV) (ys:List SV),aQ xs off (y::ys)=aQ (xs.set off y) (off+1) ys
 | [],_,_,_=>rfl
 | x::xs,0,_,_=>rfl
 | x::xs,k+1,y,ys=>by rw[aQ,lV xs k y ys,List.set_cons_succ,aQ]
def xk (E:Env)(t:TypeId)(a x:SV)(s:SH):Option SH:=
 match a,x.cells,bT E t with
 | .ptr i off,some l,some info=>
  bif l.length==info.size&&l.all SV.flat then
   match s.look i with
   | some (.row xs e fz ext,true)=>some ((s.jh (off+l.length<=xs.length/\nY fz off l.length=true)).put i (.row (aQ xs off l) e fz ext))
   | _=>none
  else none
 | _,_,_=>none
def wm (E:Env)(t:TypeId)(a x:SV)(s:SH):Option SH:=
 match a,x.cells,bT E t with
 | .ptr i off,some l,some info=>
  bif l.length==info.size&&l.all SV.flat then
   match s.look i with
   | some (.row xs e fz ext,true)=>
    bif Nat.ble (off+l.length) xs.length&&nY fz off l.length then some (s.put i (.row (aQ xs off l) e fz ext)) else none
   | _=>none
  else none
 | _,_,_=>none
def BY (E:Env)(t:TypeId)(a x:SV)(s:SH):Option SH:=
 match s.orc s.dc with
 | some .put=>xk E t a x s
 | _=>wm E t a x s
def eW (o:SO)(s:SH):Option (Nat × SH):=bif s.room then some (s.nx,s.new o) else none
def Gk (t:TypeId)(x:SV)(s:SH):Option (SV × SH):=do
 let l <- x.cells
 let (i,s) <- eW (.row l t (0,0) none) s
 some (.ptr i 0,s)
def xf (E:Env)(t:TypeId)(s:SH):Option (SV × SH):=do
 let info <- bT E t
 let z <- info.zero
 Gk t (.v z) s
def nI (E:Env)(t:TypeId)(x:SV)(f:Nat):Option SV:=
 match x,bR E t with
 | .ptr i off,some (.struct fields)=>
  match fields[f]? with
  | some fd=>match bT E fd.type with
   | some info=>bif info.size==0 then none else some (.ptr i (off+fd.offset))
   | none=>none
  | none=>none
 | _,_=>none
def A8 (E:Env)(t:TypeId)(x:SV)(f:Nat):Option SV:=
 match x,bR E t with
 | .agg l,some (.struct fields)=>
  match fields[f]? with
  | some fd=>match kI E fd.type,bT E fd.type with
   | some false,_=>l[fd.offset]?
   | some true,some info=>bif Nat.ble (fd.offset+info.size) l.length then some (.agg ((l.drop fd.offset).take info.size)) else none
   | _,_=>none
  | none=>none
 | _,_=>none
def SV.int:SV->Option (IntKind × Int)
 | .v (.int k n)=>some (k,n)
 | _=>none
def ai (i:Int)(n:Nat):Bool:=decide (0<=i/\i<n)
def oe (E:Env)(t:TypeId)(x i:SV)(s:SH):Option (SV × SH):=
 match i.int,bR E t,x with
 | some (_,n),some (.array len elem),.ptr b off=>do
  let s <- s.ask E (ai n len)
  let info <- bT E elem
  some (.ptr b (off+n.toNat*info.size),s)
 | some (_,n),some (.slice elem),.sl b off len _=>do
  let s <- s.ask E (ai n len)
  let info <- bT E elem
  some (.ptr b (off+n.toNat*info.size),s)
 | _,_,_=>none
def Aj (E:Env)(t:TypeId)(x i:SV)(s:SH):Option (SV × SH):=
 match i.int,bR E t,x with
 | some (_,n),some (.array len elem),.agg l=>do
  let s <- s.ask E (ai n len)
  let info <- bT E elem
  match kI E elem with
  | some false=>(l[n.toNat*info.size]?).map (·,s)
  | some true=>bif Nat.ble (n.toNat*info.size+info.size) l.length then some (.agg ((l.drop (n.toNat*info.size)).take info.size),s) else none
  | none=>none
 | some (_,n),some (.array len elem),.v (.agg cs)=>do
  let s <- s.ask E (ai n len)
  let info <- bT E elem
  match kI E elem with
  | some false=>(cs[n.toNat*info.size]?).map (SV.v ·,s)
  | _=>none
 | some (_,n),some .string,.v (.string b)=>do
  let s <- s.ask E (ai n b.size)
  some (.v (.int .u8 ((b.data.getD n.toNat 0).toNat)),s)
 | _,_,_=>none
def jV:Option SV->Option (Option Int)
 | none=>some none
 | some x=>match x.int with|some (_,n)=>some (some n)|none=>none
def fI (E:Env)(len cap:Nat)(lo hi:Option Int)(s:SH):Option (Nat × Nat × SH):=do
 let (h,s) <- match hi with
  | none=>some (len,s)
  | some n=>(s.ask E (decide (0<=n/\n<=cap))).map (n.toNat,·)
 let (l,s) <- match lo with
  | none=>some (0,s)
  | some n=>(s.ask E (decide (0<=n/\n<=h))).map (n.toNat,·)
 some (l,h,s)
def yg (E:Env)(m:Nat)(lo hi:Option Int)(s:SH):Option (Nat × Nat × SH):=do
 let n <- hi
 let s <- s.ask E (decide (0<=n/\n<=m))
 let (l,s) <- match lo with
  | none=>some (0,s)
  | some k=>(s.ask E (decide (0<=k/\k<=n.toNat))).map (k.toNat,·)
 some (l,n.toNat,s)
def BC (E:Env)(t:TypeId)(x:SV)(lo hi mx:Option SV)(s:SH):Option (SV × SH):=do
 let lo <- jV lo
 let hi <- jV hi
 match bR E t,x,mx with
 | some .string,.v (.string b),none=>do
  let (l,h,s) <- fI E b.size b.size lo hi s
  some (.v (.string (b.extract l h)),s)
 | some (.array n elem),.ptr b off,none=>do
  let (l,h,s) <- fI E n n lo hi s
  let info <- bT E elem
  bif n==l then none else some (.sl b (off+l*info.size) (h - l) (some (n - l)),s)
 | some (.slice elem),.sl b off len (some cap),none=>do
  let (l,h,s) <- fI E len cap lo hi s
  let info <- bT E elem
  let (e,s):=s.dec E (decide (cap=l))
  bif e then some (.sl b off (h - l) (some (cap - l)),s) else some (.sl b (off+l*info.size) (h - l) (some (cap - l)),s)
 | some (.slice elem),.sl b off len none,none=>do
  let (l,h,s) <- fI E len len lo hi s
  let info <- bT E elem
  let (e,s):=s.dec E (l==0)
  bif e then some (.sl b off h none,s) else
  (s.ask E (info.size==1&&Nat.blt l len)).map fun s=>(.sl b (off+l) (h - l) none,s)
 | some (.slice elem),.fin b off len adv,none=>do
  let (_,_,s) <- fI E 0 0 lo hi s
  let _ <- bT E elem
  some (.fin b off len adv,s)
 | some (.slice elem),.sl b off len cap,some mx=>do
  let m <- mx.int
  fU hi.isSome
  let s <- s.ask E (decide (0<=m.2/\m.2<=cap.getD len))
  let (l,h,s) <- yg E m.2.toNat lo hi s
  let info <- bT E elem
  let (e,s):=s.dec E (decide (m.2.toNat=l))
  bif e then some (.sl b off (h - l) (some (m.2.toNat - l)),s) else some (.sl b (off+l*info.size) (h - l) (some (m.2.toNat - l)),s)
 | _,_,_=>none
def oD (E:Env)(t:TypeId)(x:SV)(lo hi mx:Option SV)(s:SH):Option (List (SV × SH)):=do
 let lo <- jV lo
 let hi <- jV hi
 match bR E t,x,mx with
 | some (.slice elem),.sl b off len none,none=>do
  let (l,h,s) <- fI E len len lo hi s
  let info <- bT E elem
  bif (info.size==1||off==0)&&Nat.beq l len&&Nat.beq h len then some [(.fin b off l (l*info.size),s)] else none
 | _,_,_=>none
def qV (info:TypeInfo)(n:Nat):Option (List SV):=
 match info.zero with
 | some z=>bif z.cells.size==info.size then some ((List.replicate n (z.cells.toList.map SV.v)).flatten) else none
 | none=>none
def Ae (E:Env)(t:TypeId)(len cap:SV)(s:SH):Option (SV × SH):=none
def px (place:Nat->Option (Nat × Nat))(cells:List SV):List (Nat × SV)->Option (List SV)
 | []=>some cells
 | (i,x)::rest=>
  match place i,x.cells with
  | some (off,size),some l=>bif l.length==size&&Nat.ble (off+l.length) cells.length then px place (aQ cells off l) rest else none
  | _,_=>none
def placesOf (E:Env)(fields:List Field):Option (List (Nat × Nat)):=
 match fields with
 | []=>some []
 | f::fs=>match bT E f.type,placesOf E fs with
  | some info,some l=>some ((f.offset,info.size)::l)
  | _,_=>none
def AM (E:Env)(t:TypeId)(parts:List (Nat × SV)):Option SV:=do
 let info <- bT E t
 let z <- info.zero
 match bR E t with
 | some (.struct fields)=>
  let pl <- placesOf E fields.toList
  (px (pl[·]?) (z.cells.toList.map .v) parts).map .agg
 | some (.array _ elem)=>
  let ei <- bT E elem
  (px (fun i=>some (i*ei.size,ei.size)) (z.cells.toList.map .v) parts).map .agg
 | _=>none
def lU (E:Env)(t:TypeId)(len:Nat)(parts:List (Nat × SV))(s:SH):Option (SV × SH):=do
 match bR E t with
 | some (.slice elem)=>
  let info <- bT E elem
  fU (Nat.ble (len*info.size) 16777216)
  let zs <- qV info len
  let l <- px (fun i=>some (i*info.size,info.size)) zs parts
  let (i,s) <- eW (.row l elem (0,0) none) s
  some (.sl i 0 len (some len),s)
 | _=>none
def hJ (size n:Nat)(x:SV)(s:SH):Option (List SV):=
 match x with
 | .v (.slice none _ _)=>some []
 | .v (.string b)=>some ((b.extract 0 n).data.toList.map fun c=>.v (.int .u8 c.toNat))
 | .fin _ _ _ _=>bif n==0 then some [] else none
 | .sl i off _ _=>match s.look i with
  | some (.row xs _ _ _,_)=>bif Nat.ble (off+n*size) xs.length then some ((xs.drop off).take (n*size)) else none
  | _=>none
 | _=>none
def Fl:SV->Option Nat
 | .v (.slice _ n _)=>some n
 | .v (.string b)=>some b.size
 | .sl _ _ n _=>some n
 | .fin _ _ _ _=>some 0
 | _=>none
def qG (info:TypeInfo)(elem:TypeId)(old new:List SV)(Zu:Nat)(s:SH):Option (SV × SH):=do
 let z <- info.zero
 fU (z.cells.size==info.size&&Nat.ble ((2*Zu+1024)*info.bytes) (2 ^ 47)&&!(info.bytes==0))
 let (i,s) <- eW (.row (old++new) elem (0,0) (some info.size)) s
 some (.sl i 0 Zu none,s)
def mo (E:Env)(xt:TypeId)(info:TypeInfo)(y:SV)(s:SH):Option (Nat × List SV):=
 match bR E xt with
 | some (.int _)=>match y with
  | .v (.int _ m)=>bif decide (0<=m/\m<=2 ^ 40)&&Nat.ble (m.toNat*info.bytes) (2 ^ 47) then (qV info m.toNat).map (m.toNat,·) else none
  | _=>none
 | some _=>(Fl y).bind fun n=>(hJ info.size n y s).bind fun new=>bif new.length==n*info.size then some (n,new) else none
 | none=>none
def lT (info:TypeInfo)(elem:TypeId)(old new:List SV)(Zu:Nat)(s:SH):Option (SV × SH):=
 (eW (.row (old++new) elem (0,0) (some info.size)) s).map fun p=>(.sl p.1 0 Zu none,p.2)
def mw (E:Env)(xt:TypeId)(info:TypeInfo)(y:SV)(new:List SV)(s:SH):Option (Nat × Prop):=
 match bR E xt with
 | some (.int _)=>none
 | some _=>match y with
  | .v (.string b)=>some (b.size,(b.data.toList.map fun c=>SV.v (.int .u8 c.toNat))=new)
  | .v (.slice none m _)=>some (m,[]=new)
  | .sl i off len _=>((s.look i).bind (·.1.told)).map fun xs=>(len,(xs.drop off).take (len*info.size)=new)
  | _=>none
 | none=>none
def uk (E:Env)(st xt:TypeId)(x y:SV)(old new:List SV)(s:SH):Option (SV × SH):=
 match bR E st with
 | some (.slice elem)=>
  (bT E elem).bind fun info=>info.zero.bind fun z=>(mw E xt info y new s).bind fun q=>
   bif z.cells.size==info.size&&!(info.bytes==0)&&!(info.size==0) then
    match x with
    | .v (.slice none 0 0)=>lT info elem [] new q.1 (s.jh (((q.2/\new.length=q.1*info.size)/\q.1≠0/\(2*q.1+1024)*info.bytes<=2 ^ 47)/\old=[]))
    | .sl i off len (some cap)=>((s.look i).bind (·.1.told)).bind fun xs=>
     lT info elem old new (len+q.1) (s.jh (((q.2/\new.length=q.1*info.size)/\q.1≠0/\(2*(len+q.1)+1024)*info.bytes<=2 ^ 47)/\(xs.drop off).take (len*info.size)=old/\old.length=len*info.size/\cap<len+q.1))
    | .sl i 0 len none=>
     match s.look i with
     | some (.row xs el (0,0) (some es),true)=>
      bif es==info.size&&el==elem then
       lT info elem old new (len+q.1) ((s.jh (((q.2/\new.length=q.1*info.size)/\q.1≠0/\(2*(len+q.1)+1024)*info.bytes<=2 ^ 47)/\xs.take (len*info.size)=old/\old.length=len*info.size/\new.all SV.flat=true)).drop i)
      else none
     | _=>none
    | _=>none
   else none
 | _=>none
def ui (E:Env)(st xt:TypeId)(x y:SV)(s:SH):Option (SV × SH):=
 match bR E st with
 | some (.slice elem)=>
  (bT E elem).bind fun info=>(mw E xt info y [] s).bind fun q=>
   match x with
   | .v (.slice none 0 0)|.sl _ _ _ _=>some (x,s.jh (q.2/\q.1=0))
   | _=>none
 | _=>none
def sN (E:Env)(st xt:TypeId)(x y:SV)(s:SH):Option (SV × SH):=do
 match bR E st with
 | some (.slice elem)=>
  let info <- bT E elem
  let (n,new) <- mo E xt info y s
  match x with
  | .v (.slice none 0 0)=>
   let (e,s):=s.dec E (decide (n=0))
   bif e then some (.v (.slice none 0 0),s) else qG info elem [] new n s
  | .sl i off len (some cap)=>
   let (e,s):=s.dec E (decide (len+n<=cap))
   bif e then
    match s.look i with
    | some (.row xs el fz ext,true)=>
     bif Nat.ble (off+len*info.size+new.length) xs.length&&nY fz (off+len*info.size) new.length&&new.all SV.flat then
      some (.sl i off (len+n) (some cap),s.put i (.row (aQ xs (off+len*info.size) new) el fz ext))
     else none
    | _=>none
   else do
    let old <- hJ info.size len x s
    qG info elem old new (len+n) s
  | .sl i 0 len none=>
   let (e,s):=s.dec E (decide (n=0))
   bif e then some (x,s) else
   match s.look i with
   | some (.row xs el (0,0) (some es),true)=>
    bif (es==info.size&&!(info.size==0))&&Nat.ble (len*info.size) xs.length&&new.all SV.flat&&el==elem then
     bif Nat.ble ((len+n)*info.size) xs.length then
      some (.sl i 0 (len+n) none,s.put i (.row (aQ xs (len*info.size) new) el (0,0) (some es)))
     else do
      let z <- info.zero
      fU (z.cells.size==info.size&&Nat.ble ((2*(len+n)+1024)*info.bytes) (2 ^ 47)&&!(info.bytes==0))
      let (j,s) <- eW (.row (xs.take (len*info.size)++new) elem (0,0) (some es)) (s.drop i)
      some (.sl j 0 (len+n) none,s)
    else none
   | _=>none
  | _=>none
 | _=>none
def xe (E:Env)(st xt:TypeId)(x y:SV)(s:SH):Option (SV × SH):=
 match s.orc s.dc with
 | some (.app old new)=>uk E st xt x y old new s
 | some .app0=>ui E st xt x y s
 | _=>sN E st xt x y s
def HM (E:Env)(dt:TypeId)(x y:SV)(s:SH):Option (SV × SH):=do
 match bR E dt with
 | some (.slice elem)=>
  let info <- bT E elem
  let m <- Fl y
  match x with
  | .v (.slice none 0 0)=>(hJ info.size (Nat.min m 0) y s).map fun _=>(.v (.int .i64 0),s)
  | .sl i off len _=>
   let n:=Nat.min m len
   let l <- hJ info.size n y s
   match s.look i with
   | some (.row xs e fz ext,true)=>
    bif Nat.ble (off+l.length) xs.length&&nY fz off l.length&&l.all SV.flat then
     some (.v (.int .i64 n),s.put i (.row (aQ xs off l) e fz ext))
    else none
   | _=>none
  | _=>none
 | _=>none
def yp (E:Env)(kd:TypeDesc)(k k':SV)(s:SH):Option (Bool × SH):=
 match kd,k,k' with
 | .int _,.v (.int a x),.v (.int b y)=>bif a==b then some (s.dec E (x==y)) else none
 | .string,.v (.string x),.v (.string y)=>some (s.dec E (x==y))
 | .bool,.v (.bool x),.v (.bool y)=>some (s.dec E (x==y))
 | _,_,_=>none
def tB (E:Env)(kd:TypeDesc)(k:SV):List (SV × SV × Nat)->Nat->SH->Option (Option (Nat × SV × Nat) × SH)
 | [],_,s=>some (none,s)
 | e::es,i,s=>
  match yp E kd k e.1 s with
  | some (true,s)=>some (some (i,e.2.1,e.2.2),s)
  | some (false,s)=>tB E kd k es (i+1) s
  | none=>none
def a8 (p:ByteArray)(k:SV):Prop:=∃ b,k=.v (.string b)/\(p==b)=false
def Eg (es:List (SV × SV × Nat))(p:ByteArray)(j:Nat)(x:SV)(born:Nat):Prop:=(∀ e∈es.take j,a8 p e.1)/\es[j]?=some (.v (.string p),x,born)
def Oe (es:List (SV × SV × Nat))(p:ByteArray):Prop:=∀ e∈es,a8 p e.1
def lL (E:Env)(kd:TypeDesc)(k:SV)(es:List (SV × SV × Nat))(s:SH):Option (Option (Nat × SV × Nat) × SH):=
 match kd,k,s.orc s.dc with
 | .string,.v (.string p),some (.hit j x born)=>some (some (j,x,born),s.jh (Eg es p j x born))
 | .string,.v (.string p),some .cr=>some (none,s.jh (Oe es p))
 | _,_,_=>tB E kd k es 0 s
def jP (E:Env)(t:TypeId):Option TypeDesc:=
 match bR E t with
 | some (.int k)=>some (.int k)
 | some .string=>some .string
 | some .bool=>some .bool
 | _=>none
def oN (E:Env)(t:TypeId)(m k:SV)(ok:Bool)(s:SH):Option (SV × SH):=do
 match bR E t with
 | some (.map kt et)=>
  let kd <- jP E kt
  let zi <- bT E et
  let z <- zi.zero
  let es <- match m with
   | .v (.map none)=>some []
   | .map i=>match s.look i with|some (.map es _,_)=>some es|_=>none
   | _=>none
  let (r,s) <- lL E kd k es s
  match r with
  | some (_,x,_)=>some (bif ok then .tup [x,.v (.bool true)] else x,s)
  | none=>some (bif ok then .tup [.v z,.v (.bool false)] else .v z,s)
 | _=>none
def nW (E:Env)(t:TypeId)(m k x:SV)(s:SH):Option SH:=do
 match bR E t,m with
 | some (.map kt _),.map i=>
  let kd <- jP E kt
  match s.look i with
  | some (.map es clock,true)=>
   let (r,s) <- lL E kd k es s
   match r with
   | some (j,_,_)=>some (s.put i (.map (es.modify j fun e=>(k,x,e.2.2)) clock))
   | none=>some (s.put i (.map (es++[(k,x,clock)]) (clock+1)))
  | _=>none
 | _,_=>none
def D0 (E:Env)(t:TypeId)(m k:SV)(s:SH):Option (SV × SH):=none
def zN (m st x:SV)(s:SH):Option SH:=none
def xP (E:Env)(t:TypeId)(m k:SV)(s:SH):Option (SV × SH):=do
 match bR E t with
 | some (.map kt _)=>
  let kd <- jP E kt
  match m with
  | .v (.map none)=>some (.v (.tuple #[]),s)
  | .map i=>match s.look i with
   | some (.map es clock,true)=>
    let (r,s) <- lL E kd k es s
    match r with
    | some (j,_,_)=>some (.v (.tuple #[]),s.put i (.map (es.eraseIdx j) clock))
    | none=>some (.v (.tuple #[]),s)
   | _=>none
  | _=>none
 | _=>none
def BE (E:Env)(t:TypeId)(x:SV)(s:SH):Option (SV × SH):=do
 match bR E t,x with
 | some .string,.v (.string b)=>
  let (i,s) <- eW (.siter b 0) s
  some (.ptr i 0,s)
 | some (.map _ _),.v (.map none)=>
  let (i,s) <- eW (.miter none 0 [] 0) s
  some (.ptr i 0,s)
 | some (.map _ _),.map m=>
  match s.look m with
  | some (.map _ clock,_)=>
   let (i,s) <- eW (.miter (some m) clock [] clock) s
   some (.ptr i 0,s)
  | _=>none
 | _,_=>none
def kU (x:SV)(isString:Bool)(s:SH):Option (List (SV × SH)):=
 match x,isString with
 | .ptr i 0,true=>
  match s.look i with
  | some (.siter b pos,true)=>
   bif Nat.blt pos b.size then
    some [(.tup [.v (.bool true),.v (.int .i64 pos),.v (.int .i32 (Utf8.decode b pos).1)],s.put i (.siter b (pos+(Utf8.decode b pos).2)))]
   else some [(.v (.tuple #[.bool false]),s)]
  | _=>none
 | .ptr i 0,false=>
  match s.look i with
  | some (.miter none _ _ _,_)=>some [(.v (.tuple #[.bool false]),s)]
  | some (.miter (some m) since seen last,true)=>
   match s.look m with
   | some (.map es clock,_)=>
    bif !seen.isEmpty&&!es.isEmpty&&es.all (fun e=>Nat.ble last e.2.2) then none else
    let left:=es.filter fun e=>!seen.contains e.2.2
    let old:=left.filter fun e=>Nat.blt e.2.2 since
    let new:=left.filter fun e=>Nat.ble since e.2.2
    let go:=(old++new).map fun e=>(SV.tup [.v (.bool true),e.1,e.2.1],s.put i (.miter (some m) since (seen++[e.2.2]) clock))
    some (bif old.isEmpty then (.v (.tuple #[.bool false]),s)::go else go)
   | _=>none
  | _=>none
 | _,_=>none
def sk (x:SV)(s:SH):Option SV:=
 match x with
 | .ptr i 0=>
  match s.look i with
  | some (.miter (some m) _ seen YV,_)=>
   match s.look m,seen.getLast? with
   | some (.map es clock,_),some Yz=>
    bif Nat.beq clock YV then (es.find? fun e=>Nat.beq e.2.2 Yz).map fun e=>.tup [e.1,e.2.1] else none
   | _,_=>none
  | _=>none
 | _=>none
def Qk (es:List (SV × SV × Nat))(clock YV:Nat)(seen:List Nat)(k y:SV):Prop:=∃ Yz b,seen.getLast?=some Yz/\clock=YV/\es.find? (fun e=>Nat.beq e.2.2 Yz)=some (k,y,b)
def xm (x:SV)(s:SH):Option (SV × SH):=
 match x,s.orc s.dc with
 | .ptr i 0,some (.ent k y)=>match s.look i with
  | some (.miter (some m) _ seen YV,_)=>match s.look m with
   | some (.map es clock,_)=>some (.tup [k,y],s.jh (Qk es clock YV seen k y))
   | _=>none
  | _=>none
 | _,_=>none
def me (E:Env)(x:SV)(asserted:TypeId)(ok:Bool):Option SV:=none
def Lg (E:Env)(t:TypeId)(x y:SV)(s:SH):Option (Bool × SH):=
 match bT E t,bR E t,x,y with
 | some info,some (.pointer e),.ptr i o,.ptr j p=>
  bif info.comparable&&i==j then
   match bT E e with
   | some ei=>bif ei.size==0 then none else some (o==p,s)
   | none=>none
  else none
 | some info,some _,.v x,.v y=>bif info.comparable then (ep E.P (Op.equalIn 9999 t x y)).map (·,s) else none
 | _,_,_,_=>none
def xh (E:Env)(t:TypeId)(x y:SV)(s:SH):Option (Bool × SH):=
 match bR E t,x,y with
 | some (.pointer e),.ptr i o,.ptr j p=>
  bif i==j then
   match bT E e with
   | some info=>bif info.size==0 then none else some (o==p,s)
   | none=>none
  else none
 | some (.pointer _),.v (.pointer none),.ptr _ _|some (.pointer _),.ptr _ _,.v (.pointer none)=>some (false,s)
 | some (.slice _),.v (.slice none _ _),.sl _ _ _ _|some (.slice _),.sl _ _ _ _,.v (.slice none _ _)=>some (false,s)
 | some (.slice _),.v (.slice none _ _),.fin _ _ _ _|some (.slice _),.fin _ _ _ _,.v (.slice none _ _)=>some (false,s)
 | some (.map _ _),.v (.map none),.map _|some (.map _ _),.map _,.v (.map none)=>some (false,s)
 | some (.interface _),.v .nilIface,.iface _ _|some (.interface _),.iface _ _,.v .nilIface=>some (false,s)
 | some (.interface _),.iface t x,.iface u y=>bif t==u then Lg E t x y s else some (false,s)
 | some (.func _ _ _),.v .nilFunc,.func _ _ _|some (.func _ _ _),.func _ _ _,.v .nilFunc=>some (false,s)
 | _,_,_=>none
def iF (E:Env)(t:TypeId)(x y:SV)(s:SH):Bool:=
 match bR E t,x,y with
 | some (.pointer e),.ptr i _,.ptr j _=>
  match bT E e,s.look i,s.look j with
  | some info,some (.row _ _ (0,0) _,_),some (.row _ _ (0,0) _,_)=>!(info.size==0)&&!(i==j)
  | _,_,_=>false
 | _,_,_=>false
def bytesOf:List SV->Option (List Int)
 | []=>some []
 | .v (.int .u8 n)::r=>(bytesOf r).map (n::·)
 | _=>none
def gu (l:List Int):ByteArray:=⟨(l.map fun n=>UInt8.ofNat n.toNat).toArray⟩
def qh (E:Env)(src dst:TypeId)(x:SV)(b:ByteArray)(s:SH):Option (SV × SH):=
 match bR E src,bR E dst,x with
 | some (.slice e),some .string,.sl i off len _=>
  match bR E e,(s.look i).bind (·.1.told) with
  | some (.int .u8),some xs=>some (.v (.string b),s.jh (((xs.drop off).take len=b.data.toList.map fun c=>SV.v (.int .u8 c.toNat))/\b.size=len))
  | _,_=>none
 | _,_,_=>none
def qc (E:Env)(src dst:TypeId)(x:SV)(s:SH):Option (SV × SH):=do
 match bR E src,bR E dst,x with
 | some (.slice e),some .string,.sl i off len _=>
  let .int .u8 <- bR E e|none
  match s.look i with
  | some (.row xs _ _ _,_)=>
   fU (Nat.ble (off+len) xs.length)
   let b <- bytesOf ((xs.drop off).take len)
   some (.v (.string (gu b)),s)
  | _=>none
 | some (.slice _),some (.slice e),.sl i off len cap=>
  match src==dst,bR E e,s.look i with
  | true,some (.int .u8),some (.row xs el (0,0) ext,true)=>some (.sl i off len cap,s.put i (.row xs el (1,0) ext))
  | true,some (.int .u8),some (.row xs el (1,0) ext,true)=>some (.sl i off len cap,s.put i (.row xs el (1,0) ext))
  | _,_,_=>none
 | some .string,some (.slice e),.v (.string b)=>
  let .int .u8 <- bR E e|none
  let xs:=b.data.toList.map fun c=>SV.v (.int .u8 c.toNat)
  let (i,s) <- eW (.row xs e (1,0) (some 1)) s
  some (.sl i 0 b.size none,s)
 | some (.pointer t),some .unsafePointer,.ptr i off=>
  match s.look i,bT E t with
  | some (.row xs _ _ _,_),some info=>bif Nat.blt off xs.length&&!(info.size==0) then some (.ptr i off,s) else none
  | _,_=>none
 | some .unsafePointer,some (.pointer u),.ptr i off=>
  match s.look i,bT E u with
  | some (.row xs e _ none,_),some _=>bif liesAt E.P E.P.depth e (xs.length / E.P.cellsOf e) off u 1 then some (.ptr i off,s) else none
  | _,_=>none
 | _,_,_=>none
def tZ (E:Env)(src dst:TypeId)(x:SV)(s:SH):Option (SV × SH):=
 match s.orc s.dc with
 | some (.str b)=>qh E src dst x b s
 | _=>qc E src dst x s
def lE (f:SV)(args:List SV):Option dG:=
 match f with
 | .v (.func (.func f) a b)=>some (.enter f (a.toList.map .v++args++b.toList.map .v))
 | .func (.func f) a b=>some (.enter f (a++args++b))
 | .yield i=>some (.round i args)
 | _=>none
def oQ (f:SV)(args:List SV):Option ry:=none
def lift:Value->SV
 | .iface t x=>.iface t (.v x)
 | x=>.v x
def rR (E:Env)(recv:SV)(name:String)(args:List SV):Option dG:=none
def vi (E:Env)(t:TypeId)(x:SV)(s:SH):Option SV:=
 match bR E t,x with
 | some (.slice _),.sl _ _ n _=>some (.v (.int .i64 n))
 | some (.slice _),.fin _ _ _ _=>some (.v (.int .i64 0))
 | some (.map _ _),.map i=>match s.look i with
  | some (.map es _,_)=>some (.v (.int .i64 es.length))
  | _=>none
 | _,_=>none
def vm (E:Env)(t:TypeId)(x:SV):Option SV:=
 match bR E t,x with
 | some (.slice _),.sl _ _ _ (some n)=>some (.v (.int .i64 n))
 | _,_=>none
def qN (E:Env)(x:SV)(s:SH):Option (SV × SH):=
 match x with
 | .sl i off _ (some c)=>(s.ask E (!(c==0))).map (.ptr i off,·)
 | .sl i 0 len none=>(s.ask E (!(len==0))).map (.ptr i 0,·)
 | _=>none
def ju (E:Env)(pt:TypeId)(x n:SV)(b:ByteArray)(s:SH):Option (SV × SH):=
 match x,n with
 | .ptr i 0,.v (.int .i64 n)=>
  match bR E pt,s.look i with
  | some (.pointer e),some (.row xs el (0,0) ext,true)=>
   bif e==el&&Nat.beq (E.P.cellsOf e) 1 then
    some (.v (.string b),(s.jh ((0<n/\n<=2 ^ 40)/\n.toNat<=xs.length/\xs.take n.toNat=b.data.toList.map fun c=>SV.v (.int .u8 c.toNat))).put i (.row xs el (0,n.toNat) ext))
   else none
  | _,_=>none
 | _,_=>none
def mg (E:Env)(pt:TypeId)(x n:SV)(s:SH):Option (SV × SH):=
 match x,n with
 | .ptr i 0,.v (.int .i64 n)=>
  match bR E pt,s.look i with
  | some (.pointer e),some (.row xs el (0,0) ext,true)=>do
   fU (decide (0<n/\n<=2 ^ 40)&&Nat.ble n.toNat xs.length&&e==el&&Nat.beq (E.P.cellsOf e) 1)
   let b <- bytesOf (xs.take n.toNat)
   some (.v (.string (gu b)),s.put i (.row xs el (0,n.toNat) ext))
  | _,_=>none
 | _,_=>none
def nf (E:Env)(pt:TypeId)(x n:SV)(s:SH):Option (SV × SH):=
 match s.orc s.dc with
 | some (.str b)=>ju E pt x n b s
 | _=>mg E pt x n s
def gl (E:Env)(b:Builtin)(ats:Array TypeId)(args:List SV)(s:SH):Option (SV × SH):=
 match b with
 | .len=>match ats.toList,args with|t::_,[x]=>(vi E t x s).map (·,s)|_,_=>none
 | .cap=>match ats.toList,args with|t::_,[x]=>(vm E t x).map (·,s)|_,_=>none
 | .append=>match ats.toList,args with|[st,xt],[x,y]=>xe E st xt x y s|_,_=>none
 | .copy=>match ats.toList,args with|dt::_,[x,y]=>HM E dt x y s|_,_=>none
 | .delete=>match ats.toList,args with|[t,_],[m,k]=>xP E t m k s|_,_=>none
 | .unsafeSliceData=>match args with|[x]=>qN E x s|_=>none
 | .unsafeString=>match ats.toList,args with|[pt,_],[x,n]=>nf E pt x n s|_,_=>none
 | _=>none
def whole:SV->Option Value
 | .v x=>some x
 | .iface t x=>(whole x).map (.iface t ·)
 | _=>none
def xB:List SV->Option (List Value)
 | []=>some []
 | x::r=>match whole x,xB r with
  | some x,some l=>some (x::l)
  | _,_=>none
def Bv (E:Env)(k:xF)(args:List SV)(s:SH):Option (SV × SH):=
 match k,args with
 | .same,[x]=>some (x,s)
 | .pure f,args=>(xB args).bind fun l=>(ep E.P (f l.toArray)).map fun x=>(lift x,s)
 | .makeNoZero _ t,[.v (.int .i64 n)]=>
  match bR E t with
  | some (.slice elem)=>bif decide (0<=n/\n<=2 ^ 40) then (eW (.row (List.replicate n.toNat .aH) elem (0,0) (some 1)) s).map fun p=>(.sl p.1 0 n.toNat none,p.2) else none
  | _=>none
 | _,_=>none
def l3 (E:Env)(t:TypeId)(x y:Value):Option Prop:=
 match bR E t,x,y with
 | some (.int _),.int k a,.int k' b=>bif k==k' then some (a=b) else none
 | some .string,.string a,.string b=>some (a=b)
 | some .bool,.bool a,.bool b=>some (a=b)
 | _,_,_=>none
def ij (E:Env)(xs ys:List Value):List Field->Option Prop
 | []=>some True
 | f :: fs => bif f.name == "_" then none else
  match xs[f.offset]?,ys[f.offset]? with
  | some x,some y=>match l3 E f.type x y,ij E xs ys fs with
   | some p,some q=>some (p/\q)
   | _,_=>none
  | _,_=>none
def Bs (E:Env)(op:BinOp)(t:TypeId)(x y:SV)(s:SH):Option (Bool × SH):=
 match op,s.orc s.dc with
 | .eql,some (.eqs b)=>go x y b b
 | .neq,some (.eqs b)=>go x y b !b
 | _,_=>none
where go (x y:SV) (b r:Bool):Option (Bool × SH):=
 match eM x,eM y,bR E t with
 | some (.agg xs),some (.agg ys),some (.struct fs)=>
  bif E.P.stoodInHeld t||E.P.eqGuardType E.P.depth t then none else
   (ij E xs.toList ys.toList fs.toList).map fun p=>(r,s.jh (bif b then p else ¬ p))
 | _,_,_=>none
def A5 (x y:SV)(op:BinOp)(soft:Bool):Option (ByteArray × ByteArray):=
 match x,y,op,soft with
 | .v (.string a),.v (.string b),.add,true=>some (a,b)
 | _,_,_,_=>none
def iZ (E:Env)(tm:fR)(l:Array Operand):List SV:=l.toList.map (bq E tm)
def j2 (E : Env)(tm : fR)(o : Oper)(s : SH) : Option (List (dG × SH)) :=
  let ρ := bq E tm
  let v (x : Option SV) : Option (List (dG × SH)) := x.map fun x => [(.val x, s)]
  let vs (x : Option (SV × SH)) : Option (List (dG × SH)) := x.map fun x => [(.val x.1, x.2)]
  let u (x : Option SH) : Option (List (dG × SH)) := x.map fun s => [(.val (.v undef), s)]
  match o.op with
  | .move x|.assign x => some [(.val (ρ x), s)]
  | .pick c a b => match ρ c with
    | .v (.bool t) => let (t, s) := s.dec E t; some [(.val (bif t then ρ a else ρ b), s)]
    | _ => none
  | .alloc t => vs (xf E t s)
  | .box t x => vs (Gk t (ρ x) s)
  | .build t ps => v (AM E t (ps.toList.map fun (i, x) => (i, ρ x)))
  | .buildSlice t n ps => vs (lU E t n (ps.toList.map fun (i, x) => (i, ρ x)) s)
  | .load t a => vs (nr E t (ρ a) s)
  | .store t a x => u (BY E t (ρ a) (ρ x) s)
  | .nilCheck x => match ρ x with
    | .ptr i off => v (some (.ptr i off))
    | .iface t y => v (some (.iface t y))
    | .func (.func f) a b => v (some (.func (.func f) a b))
    | .yield i => v (some (.yield i))
    | .v (.func (.func f) a b) => v (some (.v (.func (.func f) a b)))
    | _ => none
  | .binOp op t x y _ => match Bs E op t (ρ x) (ρ y) s with
   | some r => some [(.val (.v (.bool r.1)), r.2)]
   | none => match A5 (ρ x) (ρ y) op s.soft with
    | some (a, b) => some [(.val (.v (.string (a ++ b))), s.jh (a.size + b.size <= 9223372036854775807))]
    | none => match ρ x, ρ y with
    | .v _, .v _ => v (gH E tm o)
    | a, b => match op with
      | .eql => match xh E t a b s with
        | some r => some [(.val (.v (.bool r.1)), r.2)]
        | none => bif iF E t a b s then some [(.val (.v (.bool false)), s)] else v (gH E tm o)
      | .neq => match xh E t a b s with
        | some r => some [(.val (.v (.bool !r.1)), r.2)]
        | none => bif iF E t a b s then some [(.val (.v (.bool true)), s)] else v (gH E tm o)
      | _ => none
  | .unOp _ _ _ => v (gH E tm o)
  | .convert src dst x => match tZ E src dst (ρ x) s with
    | some r => vs (some r)
    | none => match ρ x with|.v _ => v (gH E tm o)|_ => none
  | .makeInterface t x => match bR E t with
    | some (.interface _) => none
    | some _ => v (some (.iface t (ρ x)))
    | none => none
  | .makeFunc fn a b => match fn with
    | .func f => v (some (.func (.func f) (iZ E tm a) (iZ E tm b)))
    | _ => none
  | .makeMap _ none => vs ((eW (.map [] 0) s).map fun (i, s) => (.map i, s))
  | .makeSlice t l c => vs (Ae E t (ρ l) (ρ c) s)
  | .slice t x lo hi mx => match BC E t (ρ x) (lo.map ρ) (hi.map ρ) (mx.map ρ) s with
    | some r => vs (some r)
    | none => match oD E t (ρ x) (lo.map ρ) (hi.map ρ) (mx.map ρ) s with
      | some l => some (l.map fun r => (.val r.1, r.2))
      | none => match ρ x with|.v (.slice none 0 0) => v (gH E tm o)|_ => none
  | .fieldAddr t x f => v (nI E t (ρ x) f)
  | .field t x f => match ρ x with|.v _ => v (gH E tm o)|y => v (A8 E t y f)
  | .indexAddr t x i => vs (oe E t (ρ x) (ρ i) s)
  | .index t x i => vs (Aj E t (ρ x) (ρ i) s)
  | .lookup t m k ok => vs (oN E t (ρ m) (ρ k) ok s)
  | .mapUpdate t m k x|.insert t m k x => u (nW E t (ρ m) (ρ k) (ρ x) s)
  | .mapEntry t m k => vs (D0 E t (ρ m) (ρ k) s)
  | .entryStore _ m st x => u (zN (ρ m) (ρ st) (ρ x) s)
  | .range t x => vs (BE E t (ρ x) s)
  | .next it b => (kU (ρ it) b s).map fun l => l.map fun r => (.val r.1, r.2)
  | .entry it => match xm (ρ it) s with
    | some r => some [(.val r.1, r.2)]
    | none => v (sk (ρ it) s)
  | .typeAssert x _ at_ ok => match ρ x with|.v _ => v (gH E tm o)|y => v (me E y at_ ok)
  | .extract t i => match (ρ t).tuple with|some l => v l[i]?|none => none
  | .call c =>
    match c.callee with
    | .value f => (lE (ρ f) (iZ E tm c.args)).map fun n => [(n, s)]
    | .invoke r name => (rR E (ρ r) name (iZ E tm c.args)).map fun n => [(n, s)]
    | .builtin b => match gl E b c.argTypes (iZ E tm c.args) s with
      | some r => vs (some r)
      | none => v (gH E tm o)
  | .defer c => match c.callee with
    | .value f => (oQ (ρ f) (iZ E tm c.args)).map fun d => [(.defer d, s)]
    | _ => none
  | _ => none
def ky:Op->Bool
 | .move _|.pick ..|.nilCheck _|.binOp ..|.unOp ..|.makeInterface ..|.makeFunc ..|.fieldAddr ..|.field ..|.indexAddr ..|.index ..|.load ..|.lookup ..
 | .typeAssert ..|.extract ..|.slice ..|.build ..|.convert ..=>true
 | .call { callee:=.builtin b,.. }=>match b with|.len|.cap|.min|.max=>true|_=>false
 | _=>false
def looks:Op->Bool
 | .load ..|.lookup ..|.convert ..=>true
 | .call _=>true
 | _=>false
def N3:Operand->Option Tmp
 | .tmp t=>some t
 | _=>none
def tmpsOf (o:Oper):List Tmp:=o.op.operands.toList.filterMap N3
def jd (o:Oper):List Tmp:=o.dst.toList++tmpsOf o
def dq (ops:Array Oper)(o:Oper):List Tmp:=match o.guard with|some (j,_)=>((ops[j]?).bind (·.dst)).toList|none=>[]
def free (ops:Array Oper)(bf:Array Nat)(i:Nat):Bool:=
 match ops[i]? with
 | none=>false
 | some o=>ky o.op&&match o.dst with
  | none=>true
  | some d=>!((tmpsOf o).contains d||(dq ops o).contains d)&&(List.range ops.size).all fun j=>Nat.beq j i||(bf.getD j 0).testBit i ||
    match ops[j]? with|some p=>!((jd p).contains d||(dq ops p).contains d)|none=>true
def ub (E:Env):Op->Option SO
 | .alloc t=>(bT E t).bind fun info=>info.zero.bind fun z=>(SV.v z).cells.map fun l=>.row l t (0,0) none
 | _=>none
def late (E:Env)(ops:Array Oper)(bf:Array Nat)(nt i:Nat):Bool:=
 match ops[i]? with
 | none=>false
 | some o=>(ub E o.op).isSome&&o.guard.isNone&&match o.dst with
  | none=>false
  | some d=>Nat.blt d nt&&(List.range ops.size).all fun j=>Nat.beq j i||(bf.getD j 0).testBit i ||
    match ops[j]? with|some p=>!((jd p).contains d||(dq ops p).contains d)|none=>true
def ready (bf:Array Nat)(rem:List Nat)(i:Nat):Bool:=rem.all fun j=>!((bf.getD i 0).testBit j)
def w7 (E:Env)(x y:Value)(s:SH):Option SH:=
 match x,y with
 | .int k x,.int k' y=>bif k==k' then s.ask E (x==y) else none
 | .string x,.string y=>s.ask E (x==y)
 | .bool x,.bool y=>s.ask E (x==y)
 | .nilIface,.nilIface=>some s
 | .nilFunc,.nilFunc=>some s
 | .pointer none,.pointer none=>some s
 | .slice a l c,.slice b m d=>s.ask E (decide (a=b/\l=m/\c=d))
 | .map none,.map none=>some s
 | .func (.func f) a b,.func (.func g) c d=>bif f==g&&(a.size==0&&b.size==0)&&(c.size==0&&d.size==0) then some s else none
 | _,_=>none
def o4 (E:Env):List Value->List Value->SH->Option SH
 | [],[],s=>some s
 | x::xs,y::ys,s=>(w7 E x y s).bind fun s=>o4 E xs ys s
 | _,_,_=>none
def xo (E:Env)(x y:Value)(s:SH):Option SH:=
 match x,y with
 | .agg a,.agg b=>o4 E a.toList b.toList s
 | .tuple a,.tuple b=>o4 E a.toList b.toList s
 | x,y=>w7 E x y s
def SH.Ng (s:SH)(b:Bool)(p:Prop):Option SH:=bif s.soft then some (s.jh p) else bif b then some s else none
mutual
def lF (E:Env):SV->SV->SH->Option SH
 | .ptr i o,y,s=>match y with
  | .ptr j p=>bif i==j then s.Ng (o==p) (o=p) else none
  | _=>none
 | .map i,y,s=>match y with
  | .map j=>bif i==j then some s else none
  | _=>none
 | .sl i o l c,y,s=>match y with
  | .sl j p m d=>bif i==j then s.Ng (o==p&&l==m&&c==d) (o=p/\l=m/\c=d) else none
  | _=>none
 | .yield i,y,s=>match y with
  | .yield j=>bif i==j then some s else none
  | _=>none
 | .fin i o l a,y,s=>match y with
  | .fin j p m b=>bif i==j then s.Ng (o==p&&l==m&&a==b) (o=p/\l=m/\a=b) else none
  | _=>none
 | .iface t x,y,s=>match y with
  | .iface u y=>bif t==u then lF E x y s else none
  | _=>none
 | .agg l,y,s=>match y with
  | .agg m=>qR E l m s
  | _=>none
 | .tup l,y,s=>match y with
  | .tup m=>qR E l m s
  | _=>none
 | .func f a b,y,s=>match f,y with
  | .func f,.func (.func g) c d=>bif f==g then (qR E a c s).bind fun s=>qR E b d s else none
  | _,_=>none
 | .aH,_,_=>none
 | .v x,y,s=>match y with
  | .v y=>xo E x y s
  | _=>none
def qR (E:Env):List SV->List SV->SH->Option SH
 | [],m,s=>match m with
  | []=>some s
  | _=>none
 | x::xs,m,s=>match m with
  | y::ys=>(lF E x y s).bind fun s=>qR E xs ys s
  | []=>none
end
def wanted (ops:Array Oper)(tm:fR)(o:Oper)(E:Env)(s:SH):Option (Bool × SH):=
 match o.guard with
 | none=>some (true,s)
 | some (j,want)=>
  match (ops[j]?).bind (·.dst) with
  | some d=>bif Nat.blt d tm.nt then match tm.get d with
   | .v (.bool b)=>let (b,s):=s.dec E b;some (b==want,s)
   | .v (.tuple _)=>some (false,s)
   | _=>none
   else none
  | none=>none
def putDst (tm:fR)(o:Oper)(x:SV):fR:=match o.dst with|some d=>tm.set d x|none=>tm
mutual
def SV.pA:SV->Bool
 | .aH=>false
 | .agg l|.tup l=>pW l
 | .iface _ x=>x.pA
 | .func _ a b=>pW a&&pW b
 | _=>true
def pW:List SV->Bool
 | []=>true
 | x::xs=>x.pA&&pW xs
end
def my (E:Env)(src dst:TypeId)(x:SV)(s:SH):Option SV:=
 match bR E src,bR E dst,x with
 | some (.slice e),some .string,.sl i off len _=>
  match bR E e,s.look i with
  | some (.int .u8),some (.row xs _ _ _,_)=>bif Nat.ble (off+len) xs.length then (bytesOf ((xs.drop off).take len)).map fun b=>.v (.string (gu b)) else none
  | _,_=>none
 | _,_,_=>none
def Es (E:Env)(tm:fR)(o:Oper)(s:SH):Option (List (dG × SH)):=
 match o.op with
 | .convert a b z=>match my E a b (bq E tm z) s with
  | some r=>some [(.val r,s)]
  | none=>(gH E tm o).map fun x=>[(.val x,s)]
 | .binOp _ t x y _=>bif iF E t (bq E tm x) (bq E tm y) s then none else j2 E tm o s
 | _=>j2 E tm o s
def goes (E:Env)(ops:Array Oper)(tm:fR)(s:SH)(i:Nat):Bool:=
 match ops[i]? with
 | some o=>match o.op with
  | .convert a b z=>lW E tm o.op.operands.toList||(my E a b (bq E tm z) s).isSome
  | .binOp _ t x y _=>!iF E t (bq E tm x) (bq E tm y) s
  | _=>true
 | none=>true
def oX (E:Env)(ops:Array Oper)(tm:fR)(o:Oper)(s:SH):Option (SV × SH):=do
 fU (match o.dst with|some d=>Nat.blt d tm.nt|none=>true)
 let (w,s) <- wanted ops tm o E s
 bif w then
  match Es E tm o s with
  | some [(.val x,s)]=>bif x.pA then some (x,s) else none
  | _=>none
 else some (.v undef,s)
def unnamed (ops:Array Oper)(Yx:List Nat)(o:Oper):Bool:=
 match o.dst with
 | none=>true
 | some d=>Yx.all fun p=>match ops[p]? with
  | some q=>!((jd q).contains d||(dq ops q).contains d)
  | none=>false
def gx (ops:Array Oper):Bool:=(List.range ops.size).all fun i=>match ops[i]? with
 | some o=>o.after.toList.all fun e=>!Region.binds .any e||Nat.blt e.on i
 | none=>true
def recheck (E:Env)(ops:Array Oper)(tm:fR):List Nat->SH->Option SH
 | [],s=>some s
 | p::ps,s=>
  match ops[p]? with
  | none=>none
  | some o=>
   bif looks o.op then do
    let (x,s) <- oX E ops tm o s
    let d <- o.dst
    let s <- lF E (tm.get d) x s
    recheck E ops tm ps s
   else recheck E ops tm ps s
def jc (n:Nat):Nat:=Nat.log2 n+1
def uO (n:Nat)(args:List SV):Option fR:=
 bif Nat.ble args.length n&&Nat.ble n (2 ^ jc n) then
  some { nt:=n,d:=jc n,T:=go (Tr.mk (.v undef) (jc n)) 0 args }
 else none
 where
 go (T:Tr SV) (i:Nat):List SV->Tr SV
  | []=>T
  | x::xs=>go (T.set i x) (i+1) xs
def eO (E:Env)(f:FuncId)(args:List SV)(kind:CallKind):Option SF:=
 match E.P.funcs[f]? with
 | some fn=>match fn.body with
  | some c=>(uO fn.ntmps args).map fun tm=>{ fn:=f,tm,todo:=[.code c],defers:=[],ret:=false,kind,ro:=none }
  | none=>none
 | none=>none
def finish (E:Env)(F:SF)(x:SV)(s:SH):Option (SF × SH):=
 match F.todo with
 | .reg ops (i::rest)::k=>
  match ops[i]? with
  | some o=>some ({ F with tm:=putDst F.tm o x,todo:=.reg ops rest::k },s)
  | none=>none
 | .drw ops (e::rem) Yx::k=>
  match ops[e]? with
  | some o=>
   let tm:=putDst F.tm o x
   bif unnamed ops Yx o then (recheck E ops tm Yx s).map fun s=>({ F with tm,todo:=.drw ops rem Yx::k },s) else none
  | none=>none
 | .ε i::k=>some ({ F with todo:=.Δ i::k },s)
 | .beginRound::k=>some ({ F with todo:=k },s)
 | _=>none
def mM (id:Nat):List SI->Option (List SI)
 | .inBlock id'::k=>bif id'==id then some k else mM id k
 | _::k=>mM id k
 | []=>none
def mD (l:Nat):List SI->Option (List SI)
 | .inScope body::k=>
  match findLabel body l with
  | some rest=>some (.code rest::.inScope body::k)
  | none=>mD l k
 | _::k=>mD l k
 | []=>none
def dM (E:Env)(fn:Func)(tm:fR)(s:SH):Option (SV × SH):=
 (go fn.results.toList s).bind fun (l,s)=>match l with
  | [x]=>some (x,s)
  | l=>some (.tup l,s)
 where
 go:List ResultVar->SH->Option (List SV × SH)
  | [],s=>some ([],s)
  | .tmp t::r,s=>(go r s).map fun (l,s)=>(tm.get t::l,s)
  | .cell a t::r,s=>match nr E t (tm.get a) s with
   | some (x,s)=>(go r s).map fun (l,s)=>(x::l,s)
   | none=>none
def one (x:Option SM):Option (List SM):=x.map fun x=>[x]
def returned (E:Env)(F:SF)(callers:List SF)(x:SV)(s:SH):Option (List SM):=
 match callers with
 | c::rest=>
  match F.kind with
  | .normal=>(finish E c x s).map fun (c,s)=>[{ top:=c,callers:=rest,mem:=s }]
  | .deferred=>some [{ top:=c,callers:=rest,mem:=s }]
  | _=>none
 | []=>none
def C5 (E:Env)(F:SF)(callers:List SF)(s:SH):List SV->Option (List SM)
 | []=>some []
 | x::xs=>match finish E F x s,C5 E F callers s xs with
  | some (F',s'),some r=>some ({ top:=F',callers,mem:=s' }::r)
  | _,_=>none
def after (E : Env)(F : SF)(callers : List SF) : dG × SH -> Option (List SM)
  | (.val x, s) => (finish E F x s).map fun (F, s) => [{ top := F, callers, mem := s }]
  | (.enter f args, s) =>
    match E.ext f with
    | some k => (Bv E k args s).bind fun (x, s) => (finish E F x s).map fun (F, s) => [{ top := F, callers, mem := s }]
    | none =>
    match E.YT f with
    | some g => (g args s).bind fun (x, s) => (finish E F x s).map fun (F, s) => [{ top := F, callers, mem := s }]
    | none =>
    match E.qs f with
    | some g => (g args).bind fun l => C5 E F callers s l
    | none => one ((eO E f args .normal).map fun G => { top := G, callers := F :: callers, mem := s })
  | (.round i args, s) =>
    match s.look i with
    | some (.loop _ _ fn tm params assign body _, _) =>
      bif args.length == params.length then
        some [{ top := { fn, tm := (params.zip args).foldl (fun tm (t, a) => tm.set t a) tm, todo := [.code assign, .beginRound, .code body], defers := [], ret := false, kind := .normal, ro := some i },
                callers := F :: callers, mem := s }]
      else none
    | _ => none
  | (.defer d, s) =>
    match F.ro with
    | none => (finish E { F with defers := d :: F.defers } (.v undef) s).map fun (F, s) => [{ top := F, callers, mem := s }]
    | some _ => none
def pj (l:List (dG × SH))(f:dG × SH->Option (List SM)):Option (List SM):=
 match l with
 | []=>some []
 | x::xs=>match f x,pj xs f with
  | some a,some b=>some (a++b)
  | _,_=>none
def nN (E:Env)(F:SF)(callers:List SF)(s:SH)(jump:Option Code):Option (List SM):=
 match F.ro with
 | none=>match jump with
  | none|some .ret=>some [{ top:={ F with ret:=true },callers,mem:=s }]
  | _=>none
 | some i=>
  match s.look i with
  | some (.loop _ _ fn tm params assign body df,true)=>
   match callers with
   | c::rest=>
    match F.kind with
    | .normal=>(finish E c (.v (.bool jump.isNone)) (s.put i (.loop (if jump.isNone then .ready else .done) jump fn tm params assign body df))).map fun (c,s)=>[{ top:=c,callers:=rest,mem:=s }]
    | _=>none
   | []=>none
  | _=>none
def Lz (E:Env)(F:SF)(callers:List SF)(s:SH):Option (List SM):=
 match F.defers with
 | .fn (.func g) capt args::ds=>
  one ((eO E g (args++capt) .deferred).map fun G=>{ top:=G,callers:={ F with defers:=ds }::callers,mem:=s })
 | .fn _ _ _::_=>none
 | .coll i::ds=>
  match s.look i with
  | some (.dfr (some l),true)=>some [{ top:={ F with defers:=l++ds },callers,mem:=s.put i (.dfr none) }]
  | _=>none
 | []=>
  match E.P.funcs[F.fn]? with
  | some fn=>match dM E fn F.tm s with
   | some (x,s)=>returned E F callers x s
   | none=>none
  | none=>none
def vT (E:Env)(ops:Array Oper)(F:SF)(callers:List SF)(o:Oper)(s:SH):Option (List SM):=
 match wanted ops F.tm o E s with
 | some (true,s)=>(j2 E F.tm o s).bind fun l=>pj l (after E F callers)
 | some (false,s)=>(finish E F (.v undef) s).map fun (F,s)=>[{ top:=F,callers,mem:=s }]
 | none=>none
def Ly (E:Env)(F:SF)(callers:List SF)(s:SH)(ops:Array Oper)(rem Yx:List Nat)(k:List SI):Option (List SM):=
 let bf:=Region.before ops
 match rem.find? fun i=>free ops bf i&&ready bf rem i&&goes E ops F.tm s i with
 | some i=>
  match ops[i]? with
  | some o=>(oX E ops F.tm o s).map fun (x,s)=>
    [{ top:={ F with tm:=putDst F.tm o x,todo:=.drw ops (rem.filter fun j=>!Nat.beq j i) (i::Yx)::k },callers,mem:=s }]
  | none=>none
 | none=>
  match (rem.find? fun i=>ready bf rem i&&!late E ops bf F.tm.nt i).or (rem.find? fun i=>ready bf rem i) with
  | some e=>
   bif ready bf rem e&&rem.all fun j=>Nat.beq j e||(bf.getD j 0).testBit e||late E ops bf F.tm.nt j||rem.any fun i=>!Nat.beq i j&&(bf.getD j 0).testBit i&&!late E ops bf F.tm.nt i then
    match ops[e]? with
    | some o=>vT E ops { F with todo:=.drw ops (e::rem.filter fun j=>!Nat.beq j e) (Yx.filter fun p=>!((bf.getD e 0).testBit p))::k } callers o s
    | none=>none
   else none
  | none=>none
def BQ (E:Env)(F:SF)(callers:List SF)(s:SH)(f:Operand)(params:Array Tmp)(assign body:Code)(k:List SI):Option (List SM):=
 match F.ro with
 | some l=>match s.look l with
  | some (.loop _ _ _ _ _ _ _ d,_)=>(eW (.loop .ready none F.fn F.tm params.toList assign body d) s).bind fun (i,s)=>
   (lE (bq E F.tm f) [.yield i]).bind fun n=>after E { F with todo:=.ε i::k } callers (n,s)
  | _=>none
 | none=>(eW (.dfr (some [])) s).bind fun (d,s)=>(eW (.loop .ready none F.fn F.tm params.toList assign body d) s).bind fun (i,s)=>
   (lE (bq E F.tm f) [.yield i]).bind fun n=>after E { F with todo:=.ε i::k,defers:=.coll d::F.defers } callers (n,s)
def uj (E:Env)(S:SM):Option (List SM):=
 let F:=S.top
 let s:=S.mem
 let to (k:List SI):Option (List SM):=some [{ top:={ F with todo:=k },callers:=S.callers,mem:=s }]
 bif F.ret then Lz E F S.callers s else
  match F.todo with
  | []=>nN E F S.callers s none
  | .code .ret::_=>nN E F S.callers s (some .ret)
  | .code .skip::k=>to k
  | .code (.label _)::k=>to k
  | .inBlock _::k=>to k
  | .inScope _::k=>to k
  | .code (.seq a b)::k=>to (.code a::.code b::k)
  | .code (.cond c a b)::k=>
   match bq E F.tm c with
   | .v (.bool t)=>let r:=s.dec E t;some [{ top:={ F with todo:=.code (bif r.1 then a else b)::k },callers:=S.callers,mem:=r.2 }]
   | _=>none
  | .code (.block id c)::k=>to (.code c::.inBlock id::k)
  | .code (.loop c)::k=>to (.code c::.inLoop c::k)
  | .inLoop c::k=>to (.code c::.inLoop c::k)
  | .code (.scope c)::k=>to (.code c::.inScope c::k)
  | .code (.exit id)::k=>match mM id k with|some k=>to k|none=>nN E F S.callers s (some (.exit id))
  | .code (.goto l)::k=>match mD l k with|some k=>to k|none=>nN E F S.callers s (some (.goto l))
  | .code (.rangeFunc f params assign body)::k=>BQ E F S.callers s f params assign body k
  | .beginRound::k=>
   match F.ro with
   | some i=>match s.look i with
    | some (.loop .ready p fn tm params assign body df,true)=>
     some [{ top:={ F with todo:=k },callers:=S.callers,mem:=s.put i (.loop .busy p fn tm params assign body df) }]
    | _=>none
   | none=>none
  | .Δ i::k=>
   match s.look i with
   | some (.loop st jump fn tm params assign body df,true)=>
    match st with
    | .busy=>none
    | _=>some [{ top:={ F with todo:=(jump.map SI.code).toList++k },callers:=S.callers,mem:=s.put i (.loop .exhausted jump fn tm params assign body df) }]
   | _=>none
  | .ε _::_=>none
  | .code (.refuse _)::_=>none
  | .code (.region _ ops draw)::k=>
   bif draw then (bif gx ops then to (.drw ops (List.range ops.size) []::k) else none) else to (.reg ops (List.range ops.size)::k)
  | .reg _ []::k=>to k
  | .reg ops (i::_)::_=>
   match ops[i]? with
   | none=>none
   | some o=>vT E ops F S.callers o s
  | .drw _ [] _::k=>to k
  | .drw ops (i::rem) Yx::k=>Ly E F S.callers s ops (i::rem) Yx k
def SM.over (S:SM):Bool:=S.callers.isEmpty&&S.top.ret&&S.top.defers.isEmpty
def step1 (E:Env)(S:SM):Option (List SM):=
 match uj E { S with mem:={ S.mem with Y9:=[] } } with
 | some []=>none
 | some [T]=>some [{ T with mem:={ T.mem with Y9:=T.mem.Y9++S.mem.Y9 } }]
 | some l=>some (l.map fun T=>{ T with mem:={ T.mem with Y9:=T.mem.Y9++S.mem.Y9 } })
 | none=>none
def run (E:Env)(stop:SM->Bool):Nat->List SM->List SM->Option (List SM)
 | _,[],done=>some done
 | 0,_::_,_=>none
 | n+1,S::work,done=>bif stop S then run E stop n work (S::done) else match step1 E S with
  | none=>none
  | some [S']=>run E stop n (S'::work) done
  | some l=>run E stop n (l++work) done
structure SH.dD (s s':SH):Prop where
 d:s'.d=s.d
 H:s'.H=s.H
 nx:s'.nx=s.nx
theorem SH.dD.refl (s:SH):s.dD s:=⟨rfl,rfl,rfl⟩
theorem SH.dD.trans {a b c:SH}(h:a.dD b)(k:b.dD c):a.dD c:=⟨k.d.trans h.d,k.H.trans h.H,k.nx.trans h.nx⟩
theorem SH.dD.symm {a b:SH}(h:a.dD b):b.dD a:=⟨h.d.symm,h.H.symm,h.nx.symm⟩
section
variable {ν:aP}{M:Own}{w0 w:World}{s s':SH}{E:Env}
theorem HR.same (h:HR ν M w0 s w)(e:s.dD s'):HR ν M w0 s' w:=by
 cases s;cases s';obtain⟨rfl,rfl,rfl⟩:=e;exact⟨h.full,h.dom,h.fresh,h.obj,h.inj,h.size,h.frame,h.ro,h.os,h.tape,h.output⟩
theorem SH.dD.look (e:s.dD s')(i:Nat):s'.look i=s.look i:=by
 cases s;cases s';obtain⟨rfl,rfl,rfl⟩:=e;rfl
theorem SH.fZ {b t:Bool}(h:s.dec E b=(t,s')):s.dD s'/\(s'.ob->s.ob/\b=t):=by
 unfold SH.dec at h;cases ho:s.J4 E with
 | none=>rw[ho]at h;cases h;exact⟨⟨rfl,rfl,rfl⟩,fun k=>⟨k,rfl⟩⟩
 | some u=>rw[ho]at h;cases h;exact⟨⟨rfl,rfl,rfl⟩,fun k=>k⟩
theorem SH.eN {b:Bool}(h:s.ask E b=some s'):s.dD s'/\(s'.ob->s.ob/\b=true):=by
 unfold SH.ask at h;cases ho:s.J4 E with
 | none=>
  rw[ho]at h;dsimp only at h;cases hs:s.soft
  ·rw[hs]at h;cases b
   ·cases h
   ·cases h;exact⟨⟨rfl,rfl,rfl⟩,fun k=>⟨k,rfl⟩⟩
  ·rw[hs]at h;cases h;exact⟨⟨rfl,rfl,rfl⟩,fun k=>k⟩
 | some u=>rw[ho]at h;cases h;exact⟨⟨rfl,rfl,rfl⟩,fun k=>k⟩
end
theorem kj {b:Bool}{u:Unit}(h:fU b=some u):b=true:=by
 unfold fU at h;cases b<;>simp_all
theorem jt {α:Type}{P:Program}:∀ {x:Sem α} {a:α},ep P x=some a->∀ w,x.run P w=.ok a w
 | .pure _,_,h,w=>by rw[ep]at h;cases h;rfl
 | .program k,_,h,w=>by rw[ep]at h;rw[Sem.run];exact jt h w
 | .load ..,_,h,_=>by simp[ep]at h
 | .store ..,_,h,_=>by simp[ep]at h
 | .new ..,_,h,_=>by simp[ep]at h
 | .shape ..,_,h,_=>by simp[ep]at h
 | .freeze ..,_,h,_=>by simp[ep]at h
 | .frozen ..,_,h,_=>by simp[ep]at h
 | .getObj ..,_,h,_=>by simp[ep]at h
 | .setObj ..,_,h,_=>by simp[ep]at h
 | .choose ..,_,h,_=>by simp[ep]at h
 | .sys ..,_,h,_=>by simp[ep]at h
 | .mark ..,_,h,_=>by simp[ep]at h
 | .halt ..,_,h,_=>by simp[ep]at h
def c7 (P:Program)(g:Sem Value)(ν:aP)(M:Own)(w0 w:World)(x:SV)(s':SH):Prop:=
 ∃ ν' w' y,ν.Le ν'/\g.run P w=.ok y w'/\VR ν' x y/\HR ν' M w0 s' w'
def vu (P:Program)(g:Sem Unit)(ν:aP)(M:Own)(w0 w:World)(s':SH):Prop:=
 ∃ ν' w',ν.Le ν'/\g.run P w=.ok () w'/\HR ν' M w0 s' w'
section
variable {ν:aP}{M:Own}{w0 w:World}{s s':SH}{E:Env}
theorem c7.now {g:Sem Value}{x:SV}{y:Value}(hr:HR ν M w0 s' w)(h:g.run E.P w=.ok y w)(hx:VR ν x y):c7 E.P g ν M w0 w x s':=
 ⟨ν,w,y,aP.Le.refl _,h,hx,hr⟩
theorem VR.ae {x y:Value}:VR ν (.v x) y↔y=x:=by rw[VR]
theorem VR.aF {i off:Nat}{y:Value}:VR ν (.ptr i off) y↔∃ b,ν i=some b/\y=.pointer (some ⟨b.1,off,none⟩):=by rw[VR]
theorem VR.aL {i off len:Nat}{cap:Option Nat}{y:Value}:VR ν (.sl i off len cap) y↔∃ b,ν i=some b/\len<=cap.getD (b.2 - off)/\y=.slice (some ⟨b.1,off,none⟩) len (cap.getD (b.2 - off)):=by rw[VR]
theorem VR.cQ {i:Nat}{y:Value}:VR ν (.map i) y↔∃ b,ν i=some b/\y=.map (some b.1):=by rw[VR]
theorem VR.bx {l:List SV}{y:Value}:VR ν (.agg l) y↔∃ a:List Value,y=.agg a.toArray/\au ν l a:=by rw[VR]
theorem VR.cz {l:List SV}{y:Value}:VR ν (.tup l) y↔∃ a:List Value,y=.tuple a.toArray/\au ν l a:=by rw[VR]
theorem VR.dr {t:TypeId}{x:SV}{y:Value}:VR ν (.iface t x) y↔∃ z,y=.iface t z/\VR ν x z:=by rw[VR]
theorem VR.eH {fn:Fn}{a b:List SV}{y:Value}:VR ν (.func fn a b) y↔∃ a' b':List Value,y=.func fn a'.toArray b'.toArray/\au ν a a'/\au ν b b':=by rw[VR]
theorem VR.gh {i:Nat}{y:Value}:VR ν (.yield i) y↔∃ b,ν i=some b/\y=.func (.yield b.1) #[] #[]:=by rw[VR]
theorem VR.fu {i off len adv:Nat}{y:Value}:VR ν (.fin i off len adv) y↔∃ b,ν i=some b/\y=.slice (some ⟨b.1,if b.2 - off=len then off else off+adv,none⟩) 0 (b.2 - off - len):=by rw[VR]
mutual
theorem gD {ν:aP}:∀ {x:SV} {z y:Value},eM x=some z->VR ν x y->y=z
 | .v x,z,y,h,hv=>by rw[eM]at h;cases h;exact VR.ae.1 hv
 | .agg l,z,y,h,hv=>by
  rw[eM]at h
  obtain⟨vs,hvs,rfl⟩:=Wg.1 h
  obtain⟨a,rfl,ha⟩:=VR.bx.1 hv
  rw[hQ hvs ha]
 | .tup l,z,y,h,hv=>by
  rw[eM]at h
  obtain⟨vs,hvs,rfl⟩:=Wg.1 h
  obtain⟨a,rfl,ha⟩:=VR.cz.1 hv
  rw[hQ hvs ha]
 | .iface t x,z,y,h,hv=>by
  rw[eM]at h
  obtain⟨v,hx,rfl⟩:=Wg.1 h
  obtain⟨u,rfl,hu⟩:=VR.dr.1 hv
  rw[gD hx hu]
 | .aH,_,_,h,_=>by rw[eM]at h;cases h
 | .ptr _ _,_,_,h,_=>by rw[eM]at h;cases h
 | .sl _ _ _ _,_,_,h,_=>by rw[eM]at h;cases h
 | .map _,_,_,h,_=>by rw[eM]at h;cases h
 | .func _ _ _,_,_,h,_=>by rw[eM]at h;cases h
 | .yield _,_,_,h,_=>by rw[eM]at h;cases h
 | .fin _ _ _ _,_,_,h,_=>by rw[eM]at h;cases h
theorem hQ {ν:aP}:∀ {l:List SV} {zs ys:List Value},jN l=some zs->au ν l ys->ys=zs
 | [],_,_,h,hv=>by rw[jN]at h;cases h;exact hv.ay
 | x::xs,zs,ys,h,hv=>by
  rw[jN]at h
  obtain⟨y,ys',rfl,hy,ZQ⟩:=hv.cons_inv
  split at h
  ·rename_i v vs h1 h2
   cases h
   rw[gD h1 hy,hQ h2 ZQ]
  ·cases h
end
theorem run_underlying {t:TypeId}{d:TypeDesc}(h:bR E t=some d):(underlying t).run E.P w=.ok d w:=by
 have h':E.P.underlying t=some d:=h;simp[underlying,h']
theorem run_typeInfo {t:TypeId}{d:TypeInfo}(h:bT E t=some d):(typeInfo t).run E.P w=.ok d w:=by
 have h':E.P.info? t=some d:=h;simp[typeInfo,h']
theorem run_sizeOf {t:TypeId}{d:TypeInfo}(h:bT E t=some d):(sizeOf t).run E.P w=.ok d.size w:=by
 simp[sizeOf,run_typeInfo h]
theorem dC {t:TypeId}{d:TypeInfo}{z:Value}(h:bT E t=some d)(hz:d.zero=some z):(zeroValue t).run E.P w=.ok z w:=by
 simp[zeroValue,run_typeInfo h,hz]
theorem gf {t:TypeId}{b:Bool}(h:kI E t=some b):(isAgg t).run E.P w=.ok b w:=by
 unfold kI at h;cases hd:bR E t with
 | none=>rw[hd]at h;cases h
 | some d=>rw[hd]at h;simp only[isAgg,Wf,run_underlying hd,V3];cases d<;>simp_all
theorem cV {b:Nat}{c:Array Value}{e:TypeId}{fz:Nat × Nat}(h:w.heap[b]?=some (.cells c e fz))(off:Nat):w.cell? ⟨b,off,none⟩=c[off]?:=by
 simp[World.cell?,h]
theorem di (b off k:Nat):(⟨b,off,none⟩:Addr).add k=⟨b,off+k,none⟩:=by
 unfold Addr.add;split
 ·rename_i h;rw[h];rfl
 ·rfl
theorem fC {P:Program}{a:Addr}{v:Value}(h:w.cell? a=some v):(load a).run P w=.ok v w:=by
 simp[load,Sem.run,h]
theorem run_loadCellsFrom {P:Program}{b off:Nat}{vs:List Value}:∀ (n i:Nat) (acc:Array Value),(∀ k,k<n->w.cell? ⟨b,off+(i+k),none⟩=vs[k]?)->vs.length=n->
  (loadCellsFrom ⟨b,off,none⟩ i n acc).run P w=.ok (acc++vs.toArray) w:=by
 intro n i acc h hl;induction n generalizing i acc vs with
 | zero=>
  obtain rfl:vs=[]:=Wd.1 hl;simp[loadCellsFrom]
 | succ n ih=>
  match vs,hl with
  | v::vs,hl=>
   have h0:=h 0 (by omega);simp only[Wa,X6]at h0;simp only[loadCellsFrom,di,Wf,fC h0,V3]
   have Z4:∀ k,k<n->w.cell? ⟨b,off+((i+1)+k),none⟩=vs[k]?:=by
    intro k hk;have hs:=h (k+1) (by omega);simp only[WU]at hs;rw[<- hs];congr 2;omega
   rw[ih (vs:=vs) (i+1) (acc.push v) Z4 (by simpa using hl)];simp
theorem run_loadCells {P:Program}{b off n:Nat}{vs:List Value}(h:∀ k,k<n->w.cell? ⟨b,off+k,none⟩=vs[k]?)(hl:vs.length=n):
  (loadCells ⟨b,off,none⟩ n).run P w=.ok vs.toArray w:=by
 rw[loadCells,run_loadCellsFrom n 0 #[] (fun k hk=>by rw[W8];exact h k hk) hl];simp
theorem YE {ys rest:List Value}{k:Nat}{y:Value}(h:ys[k]?=some y):(ys++rest)[k]?=some y:=by
 have hk:k<ys.length:=(WB.1 h).1;rw[WD hk];exact h
theorem SH.cn (s:SH)(p:Prop):s.dD (s.jh p):=⟨rfl,rfl,rfl⟩
theorem C6 {i:Nat}{xs:List SV}(h:(s.look i).bind (·.1.told)=some xs)(hr:HR ν M w0 s w){b:Nat × Nat}(hb:ν i=some b):
  ∃ (ys:List Value) (c:Array Value) (e:TypeId) (fz:Nat × Nat),w.heap[b.1]?=some (.cells c e fz)/\au ν xs ys/\∀ (k:Nat) (y:Value),ys[k]?=some y->c[k]?=some y:=by
 obtain⟨⟨o,m⟩,hl,h⟩:=Wi.1 h;obtain⟨_,_,b',o',Yy,ho,YA,_⟩:=hr.look hl;rw[hb]at Yy;cases Yy;cases o<;>simp only[SO.told,reduceCtorEq,Option.some.injEq]at h
 ·subst h;obtain⟨ys,rest,rfl,Zn,_⟩:=YA;exact⟨ys,_,_,_,ho,Zn,fun k y hy=>by simpa using YE hy⟩
 ·subst h;obtain⟨ys,c,e,fz,rfl,Zn,hc⟩:=YA;exact⟨ys,c,e,fz,ho,Zn,hc⟩
theorem DJ {t:TypeId}{a x:SV}{l:List SV}{av:Value}(h:qn E t a l s=some (x,s'))(hr:HR ν M w0 s w)(ha:VR ν a av):
  s.dD s'/\(s'.ob->s.ob/\∃ y,(Instr.loadAt t av).run E.P w=.ok y w/\VR ν x y):=by
 unfold qn at h;split at h
 ·rename_i i off ag info hag YC;obtain⟨b,hb,rfl⟩:=VR.aF.1 ha;split at h
  ·rename_i xs hl;obtain⟨ys,c,e,fz,ho,Zn,hc⟩:=C6 hl hr hb;cases ag
   ·simp only[W5]at h;split at h
    ·rename_i x0;cases h;refine⟨SH.cn _ _,fun ob=>⟨ob.1,?_⟩⟩;obtain⟨y,hy,hv⟩:=Zn.get ob.2;refine⟨y,?_,hv⟩
     have Yt:(Instr.loadAt t (.pointer (some ⟨b.1,off,none⟩))).run E.P w=(load ⟨b.1,off,none⟩).run E.P w:=by
      simp[Instr.loadAt,Instr.sureAddr,loadVar,gf hag]
     rw[Yt,fC];rw[cV ho];exact hc _ _ hy
    ·cases h
   ·simp only[WE,Option.some.injEq,Prod.mk.injEq]at h;obtain⟨rfl,rfl⟩:=h;refine⟨SH.cn _ _,fun ob=>⟨ob.1,.agg ((ys.drop off).take info.size).toArray,?_,VR.bx.2 ⟨_,rfl,?_⟩⟩⟩
    ·have hlen:((ys.drop off).take info.size).length=info.size:=by
      rw[((Zn.drop off).take info.size).length,ob.2.1,ob.2.2]
     simp only[Instr.loadAt,Instr.sureAddr,loadVar,Wf,Wk,V3,gf hag,Yj,run_sizeOf YC];rw[run_loadCells (vs:=(ys.drop off).take info.size) ?_ hlen]
     ·rfl
     intro k hk;have Zy:k<((ys.drop off).take info.size).length:=by omega
     rw[cV ho,V4 Zy];refine hc _ _ ?_;rw[<- V4 Zy,WN,if_pos hk,W7]
    ·have:=(Zn.drop off).take info.size;rw[ob.2.1]at this;exact this
  ·cases h
 ·cases h
theorem El {t:TypeId}{a x:SV}{av:Value}(h:p8 E t a s=some (x,s'))(hr:HR ν M w0 s w)(ha:VR ν a av):
  s.dD s'/\(s'.ob->s.ob/\∃ y,(Instr.loadAt t av).run E.P w=.ok y w/\VR ν x y):=by
 unfold p8 at h;split at h
 ·-- one cell
  rename_i i off hag;obtain⟨b,hb,rfl⟩:=VR.aF.1 ha
  have Yt:(Instr.loadAt t (.pointer (some ⟨b.1,off,none⟩))).run E.P w=(load ⟨b.1,off,none⟩).run E.P w:=by
   simp[Instr.loadAt,Instr.sureAddr,loadVar,gf hag]
  split at h
  ·rename_i xs e fz ext own hl;obtain⟨_,_,b',o,Yy,ho,YA,_⟩:=hr.look hl;rw[hb]at Yy;cases Yy;obtain⟨ys,rest,rfl,Zn,_⟩:=YA;cases hx:xs[off]? with
   | none=>rw[hx]at h;cases h
   | some x0=>
    rw[hx]at h;cases h;obtain⟨y,hy,hv⟩:=Zn.get hx;refine⟨.refl _,fun ob=>⟨ob,y,?_,hv⟩⟩;rw[Yt,fC];rw[cV ho];simpa using YE hy
  ·rename_i xs own hl;obtain⟨_,_,b',o,Yy,ho,YA,_⟩:=hr.look hl;rw[hb]at Yy;cases Yy;obtain⟨ys,c,e,fz,rfl,Zn,hc⟩:=YA;cases hx:xs[off]? with
   | none=>rw[hx]at h;cases h
   | some x0=>
    rw[hx]at h;cases h;obtain⟨y,hy,hv⟩:=Zn.get hx;refine⟨.refl _,fun ob=>⟨ob,y,?_,hv⟩⟩;rw[Yt,fC];rw[cV ho];exact hc _ _ hy
  ·rename_i n f e fz ext own hl;obtain⟨_,_,b',o,Yy,ho,YA,_⟩:=hr.look hl;rw[hb]at Yy;cases Yy;obtain⟨c,rfl,hf,_⟩:=YA;cases hs:s.ask E (Nat.blt off n) with
   | none=>rw[hs]at h;cases h
   | some s1=>
    rw[hs]at h;cases h;obtain⟨Ys,Yw⟩:=SH.eN hs;refine⟨Ys,fun ob=>⟨(Yw ob).1,f off,?_,VR.ae.2 rfl⟩⟩;rw[Yt,fC];rw[cV ho];exact hf off (dw.1 (Yw ob).2)
  ·cases h
 ·-- many cells
  rename_i i off info hag YC;obtain⟨b,hb,rfl⟩:=VR.aF.1 ha
  have Yt:∀ vs:List Value,(loadCells ⟨b.1,off,none⟩ info.size).run E.P w=.ok vs.toArray w->(Instr.loadAt t (.pointer (some ⟨b.1,off,none⟩))).run E.P w=.ok (.agg vs.toArray) w:=by
   intro vs hvs;simp[Instr.loadAt,Instr.sureAddr,loadVar,gf hag,run_sizeOf YC,hvs]
  split at h
  ·rename_i xs e fz ext own hl;obtain⟨_,_,b',o,Yy,ho,YA,_⟩:=hr.look hl;rw[hb]at Yy;cases Yy;obtain⟨ys,rest,rfl,Zn,_⟩:=YA;cases hle:Nat.ble (off+info.size) xs.length
   ·rw[hle]at h;cases h
   ·rw[hle]at h;cases h;have hle:=Wu hle;have hlen:=Zn.length;refine⟨.refl _,fun ob=>⟨ob,.agg ((ys.drop off).take info.size).toArray,?_,VR.bx.2 ⟨_,rfl,(Zn.drop off).take info.size⟩⟩⟩;refine Yt _ (run_loadCells ?_ ?_)
    ·intro k hk;rw[cV ho,WN,if_pos hk,W7];have:off+k<ys.length:=by omega
     simp[WD this]
    ·simp;omega
  ·rename_i n f e fz ext own hl;obtain⟨_,_,b',o,Yy,ho,YA,_⟩:=hr.look hl;rw[hb]at Yy;cases Yy;obtain⟨c,rfl,hf,_⟩:=YA;cases hs:s.ask E (Nat.ble (off+info.size) n) with
   | none=>rw[hs]at h;cases h
   | some s1=>
    rw[hs]at h;cases h;obtain⟨Ys,Yw⟩:=SH.eN hs
    have hmap:∀ l:List Nat,au ν (l.map fun k=>SV.v (f (off+k))) (l.map fun k=>f (off+k)):=by
     intro l;induction l with
     | nil=>exact au.nil
     | cons k l ih=>exact au.cons (VR.ae.2 rfl) ih
    refine⟨Ys,fun ob=>⟨(Yw ob).1,_,?_,VR.bx.2 ⟨_,rfl,hmap _⟩⟩⟩;have hle:=Wu (Yw ob).2;refine Yt _ (run_loadCells ?_ (by simp));intro k hk;rw[cV ho,hf (off+k) (by omega)];simp[hk]
  ·cases h
 ·cases h
theorem tE {t:TypeId}{a x:SV}{av:Value}(h:nr E t a s=some (x,s'))(hr:HR ν M w0 s w)(ha:VR ν a av):
  s.dD s'/\(s'.ob->s.ob/\∃ y,(Instr.loadAt t av).run E.P w=.ok y w/\VR ν x y):=by
 unfold nr at h;split at h
 ·exact DJ h hr ha
 ·exact El h hr ha
theorem SV.lP {x:SV}{l:List SV}{y:Value}(h:x.cells=some l)(hv:VR ν x y):au ν l y.cells.toList:=by
 have one:∀ {x:SV} {y:Value},VR ν x y->y.cells=#[y]->au ν [x] y.cells.toList:=by
  intro x y hv hc;rw[hc];exact au.cons hv au.nil
 cases x with
 | aH=>cases h
 | agg l'=>cases h;obtain⟨a,rfl,ha⟩:=VR.bx.1 hv;simpa[Value.cells] using ha
 | v x=>
  obtain rfl:=VR.ae.1 hv;cases y<;>first|(cases h;exact one hv rfl)|(cases h;simpa[Value.cells] using au.lits ν _)
 | ptr=>cases h;refine one hv ?_;obtain⟨b,_,rfl⟩:=VR.aF.1 hv;rfl
 | sl=>cases h;refine one hv ?_;obtain⟨b,_,_,rfl⟩:=VR.aL.1 hv;rfl
 | map=>cases h;refine one hv ?_;obtain⟨b,_,rfl⟩:=VR.cQ.1 hv;rfl
 | tup=>cases h;refine one hv ?_;obtain⟨b,rfl,_⟩:=VR.cz.1 hv;rfl
 | iface=>cases h;refine one hv ?_;obtain⟨b,rfl,_⟩:=VR.dr.1 hv;rfl
 | func=>cases h;refine one hv ?_;obtain⟨b,c,rfl,_⟩:=VR.eH.1 hv;rfl
 | yield=>cases h;refine one hv ?_;obtain⟨b,_,rfl⟩:=VR.gh.1 hv;rfl
 | fin=>cases h;refine one hv ?_;obtain⟨b,_,rfl⟩:=VR.fu.1 hv;rfl
theorem SV.Ir {x:SV}{y:Value}(h:x.flat=true)(hv:VR ν x y):y.oneCell'=true:=by
 cases x with
 | aH=>cases h
 | agg l=>cases h
 | tup l=>cases h
 | v x=>rw[VR.ae.1 hv];cases x<;>first|rfl|cases h
 | ptr=>obtain⟨b,_,rfl⟩:=VR.aF.1 hv;rfl
 | sl=>obtain⟨b,_,_,rfl⟩:=VR.aL.1 hv;rfl
 | map=>obtain⟨b,_,rfl⟩:=VR.cQ.1 hv;rfl
 | iface=>obtain⟨b,rfl,_⟩:=VR.dr.1 hv;rfl
 | func=>obtain⟨b,c,rfl,_⟩:=VR.eH.1 hv;rfl
 | yield=>obtain⟨b,_,rfl⟩:=VR.gh.1 hv;rfl
 | fin=>obtain⟨b,_,rfl⟩:=VR.fu.1 hv;rfl
theorem au.flat {l:List SV}{ys:List Value}(h:l.all SV.flat=true)(hv:au ν l ys):∀ y∈ys,y.oneCell'=true:=by
 induction l generalizing ys with
 | nil=>rw[hv.ay];simp
 | cons x l ih=>
  obtain⟨z,zs,rfl,hz,hs⟩:=hv.cons_inv;simp at h;intro y hy;rcases V8.1 hy with rfl|hy
  ·exact SV.Ir h.1 hz
  ·exact ih (by simpa using h.2) hs y hy
def dm (ys:List Value)(off:Nat):List Value->List Value
 | []=>ys
 | z::zs=>dm (ys.set off z) (off+1) zs
theorem jn (ys:List Value)(off:Nat)(zs:List Value):(dm ys off zs).length=ys.length:=by
 induction zs generalizing ys off with
 | nil=>rfl
 | cons z zs ih=>rw[dm,ih,List.length_set]
theorem uR (xs:List SV)(off:Nat)(l:List SV):(aQ xs off l).length=xs.length:=by
 induction l generalizing xs off with
 | nil=>rw[n9]
 | cons z zs ih=>rw[lV,ih,List.length_set]
theorem au.aQ {xs:List SV}{ys:List Value}{l:List SV}{zs:List Value}(h:au ν xs ys)(hl:au ν l zs)(off:Nat):au ν (Go.Rx.aQ xs off l) (dm ys off zs):=by
 induction l generalizing xs ys zs off with
 | nil=>rw[hl.ay,n9];exact h
 | cons x l ih=>
  obtain⟨z,zs,rfl,hz,hs⟩:=hl.cons_inv;rw[lV];exact ih (h.set hz off) hs (off+1)
theorem sZ {ys rest:List Value}{zs:List Value}{off:Nat}(h:off+zs.length<=ys.length):dm (ys++rest) off zs=dm ys off zs++rest:=by
 induction zs generalizing ys off with
 | nil=>rfl
 | cons z zs ih=>
  simp only[Wm]at h;rw[dm,dm,List.set_append_left _ _ (by omega),ih (by simp;omega)]
theorem jo {P:Program}{b off:Nat}{e:TypeId}{fz:Nat × Nat}:∀ (zs:List Value) (i:Nat) (w:World) (c:List Value),w.heap[b]?=some (.cells c.toArray e fz)->
  (∀ z∈zs,z.oneCell'=true)->off+i+zs.length<=c.length->(∀ k,off+i<=k->k<off+i+zs.length->¬ (fz.1<=k/\k<fz.2))->
  (storeCells ⟨b,off,none⟩ zs i).run P w=.ok () { w with heap:=w.heap.setIfInBounds b (.cells (dm c (off+i) zs).toArray e fz) }:=by
 intro zs;induction zs with
 | nil=>
  intro i w c hw _ _ _
  have:w.heap.setIfInBounds b (.cells c.toArray e fz)=w.heap:=by
   apply Xt;intro j;rw[WO];split
   ·rename_i ej;subst ej;have:=(VY.1 hw).1;have hw':=(VY.1 hw).2;simp[this,hw']
   ·rfl
  simp[storeCells,dm,this]
 | cons z zs ih=>
  intro i w c hw Ψ hlen hfz;simp only[Wm]at hlen hfz;have hz:=Ψ z (by simp);have hcell:w.cell? ⟨b,off+i,none⟩=c[off+i]?:=by rw[cV hw];simp
  have YD:off+i<c.length:=by omega
  have hfr:w.frozen? ⟨b,off+i,none⟩=false:=by
   simp only[World.frozen?,hw];have:=hfz (off+i) (by omega) (by omega);obtain⟨lo,hi⟩:=fz;simp at this ⊢;omega
  have hbl:=(VY.1 hw).1
  have hset:w.setCell ⟨b,off+i,none⟩ z={ w with heap:=w.heap.setIfInBounds b (.cells (c.set (off+i) z).toArray e fz) }:=by
   unfold World.setCell;congr 1;apply Xt;intro j;rw[XG,WO];split
   ·rename_i ej;subst ej;have hw':=(VY.1 hw).2;simp[hbl,hw']
   ·rfl
  have hstore:(store ⟨b,off+i,none⟩ z).run P w=.ok () (w.setCell ⟨b,off+i,none⟩ z):=by
   rw[run_store P w ⟨b,off+i,none⟩ z .plain hz,hcell,V4 YD];simp[hfr]
  simp only[storeCells,di,Wf];rw[hstore,V3,hset]
  have hw2:({ w with heap:=w.heap.setIfInBounds b (.cells (c.set (off+i) z).toArray e fz) }:World).heap[b]?=some (.cells (c.set (off+i) z).toArray e fz):=by
   simp[hbl]
  rw[ih (i+1) _ (c.set (off+i) z) hw2 (fun y hy=>Ψ y (Wc _ hy)) (by simp;omega) (fun k h1 h2=>hfz k (by omega) (by omega))];simp[dm,Nat.add_assoc]
theorem Ij {fz:Nat × Nat}{off n:Nat}(h:nY fz off n=true):∀ k,off<=k->k<off+n->¬ (fz.1<=k/\k<fz.2):=by
 intro k h1 h2 h3;unfold nY at h;rw[XH,XH]at h;rcases h with (h|h)|h<;>(have:=Wu h;omega)
theorem D8 {fz:Nat × Nat}{off n m:Nat}(h:nY fz off n=true)(hm:off+n<=m):∀ k,off<=k->k<off+n->¬ ((js fz m).1<=k/\k<(js fz m).2):=by
 intro k h1 h2;unfold js;cases hb:(Nat.beq fz.1 1&&Nat.beq fz.2 0)
 ·exact Ij h k h1 h2
 ·simp;omega
theorem HR.spliced (hr:HR ν M w0 s w){i:Nat}{xs:List SV}{e:TypeId}{fz:Nat × Nat}{ext:Option Nat}(hl:s.look i=some (.row xs e fz ext,true))
  {b:Nat × Nat} (hb:ν i=some b) {l:List SV} {zs:List Value} (hz:au ν l zs) {off:Nat} (hlen:off+l.length<=xs.length) (hfz:nY fz off l.length=true) (hflat:l.all SV.flat=true):
  ∃ w',(storeCells ⟨b.1,off,none⟩ zs).run E.P w=.ok () w'/\HR ν M w0 (s.put i (.row (aQ xs off l) e fz ext)) w':=by
 obtain⟨_,_,b',o,Yy,ho,YA,_⟩:=hr.look hl;rw[hb]at Yy;cases Yy;obtain⟨ys,rest,rfl,Zn,hext⟩:=YA;have h1:=Zn.length;have h2:=hz.length
 have Yt:=jo (P:=E.P) (b:=b.1) (off:=off) (e:=e) (fz:=js fz (ys++rest).length) zs 0 w (ys++rest) ho (hz.flat hflat) (by simp;omega) (by
  intro k hk1 Zy;exact D8 hfz (by simp;omega) k (by omega) (by omega))
 rw[X6,sZ (by omega)]at Yt;have hl1:(aQ xs off l).length=xs.length:=uR _ _ _;have hl2:(dm ys off zs++rest).length=(ys++rest).length:=by simp[jn]
 refine⟨_,Yt,hr.put hl (o:=.row (aQ xs off l) e fz ext) hb ⟨dm ys off zs,rest,by rw[hl2],Zn.aQ hz off,?_⟩ rfl rfl rfl rfl⟩;rw[hl1,hl2];exact hext
theorem AK {t:TypeId}{a x:SV}{av xv:Value}(h:xk E t a x s=some s')(hr:HR ν M w0 s w)(ha:VR ν a av)(hx:VR ν x xv):
  s'.ob->s.ob/\vu E.P (Instr.storeAt t av xv) ν M w0 w s':=by
 unfold xk at h;split at h
 ·rename_i i off l info hc YC;obtain⟨b,hb,rfl⟩:=VR.aF.1 ha;have YJ:=SV.lP hc hx;cases Zs:(l.length==info.size&&l.all SV.flat)
  ·rw[Zs]at h;cases h
  ·rw[Zs]at h;rw[V6]at Zs;obtain⟨YX,hflat⟩:=Zs;have YX:l.length=info.size:=by simpa using YX
   simp only[WE]at h;split at h
   ·rename_i xs e fz ext hl;cases h;intro ob;have ob:(s.jh (off+l.length<=xs.length/\nY fz off l.length=true)).ob:=ob;obtain⟨w',Yt,YK⟩:=(hr.same (SH.cn s (off+l.length<=xs.length/\nY fz off l.length=true))).spliced (E:=E) hl hb YJ ob.2.1 ob.2.2 hflat;refine⟨ob.1,ν,w',aP.Le.refl _,?_,YK⟩;have Yu:xv.cells.size=info.size:=by rw[<- YX,<- YJ.length];simp
    simp[Instr.storeAt,Instr.sureAddr,storeVar,run_sizeOf YC,Yu,Yt]
   ·cases h
 ·cases h
theorem ti {t:TypeId}{a x:SV}{av xv:Value}(h:wm E t a x s=some s')(hr:HR ν M w0 s w)(ha:VR ν a av)(hx:VR ν x xv):
  (s'.ob->s.ob)/\vu E.P (Instr.storeAt t av xv) ν M w0 w s':=by
 unfold wm at h;split at h
 ·rename_i i off l info hc YC;obtain⟨b,hb,rfl⟩:=VR.aF.1 ha;have YJ:=SV.lP hc hx;cases Zs:(l.length==info.size&&l.all SV.flat)
  ·rw[Zs]at h;cases h
  ·rw[Zs]at h;rw[V6]at Zs;obtain⟨YX,hflat⟩:=Zs;have YX:l.length=info.size:=by simpa using YX
   simp only[WE]at h;split at h
   ·rename_i xs e fz ext hl;cases YW:(Nat.ble (off+l.length) xs.length&&nY fz off l.length)
    ·rw[YW]at h;cases h
    ·rw[YW]at h;cases h;rw[V6]at YW;obtain⟨w',Yt,YK⟩:=hr.spliced (E:=E) hl hb YJ (Wu YW.1) YW.2 hflat;refine⟨fun k=>k,ν,w',aP.Le.refl _,?_,YK⟩;have Yu:xv.cells.size=info.size:=by rw[<- YX,<- YJ.length];simp
     simp[Instr.storeAt,Instr.sureAddr,storeVar,run_sizeOf YC,Yu,Yt]
   ·cases h
 ·cases h
theorem DV {t:TypeId}{a x:SV}{av xv:Value}(h:BY E t a x s=some s')(hr:HR ν M w0 s w)(ha:VR ν a av)(hx:VR ν x xv):
  s'.ob->s.ob/\vu E.P (Instr.storeAt t av xv) ν M w0 w s':=by
 unfold BY at h;split at h
 ·exact AK h hr ha hx
 ·exact fun ob=>⟨(ti h hr ha hx).1 ob,(ti h hr ha hx).2⟩
theorem gw {o:SO}{i:Nat}(h:eW o s=some (i,s'))(hr:HR ν M w0 s w)(c:Nat){r:Obj}(ho:∀ ν',ν.Le ν'->ν' i=some (w.heap.size,c)->OR ν' i o r):
  (s'.ob=s.ob)/\∃ ν',ν.Le ν'/\ν' i=some (w.heap.size,c)/\HR ν' M w0 s' { w with heap:=w.heap.push r }:=by
 unfold eW at h;cases YB:s.room
 ·rw[YB]at h;cases h
 ·rw[YB]at h;cases h;have hnx:ν s.nx=none:=hr.fresh _ (Wx _);have hle:=aP.lY hnx (w.heap.size,c);obtain⟨_,YK⟩:=hr.new (w':={ w with heap:=w.heap.push r }) YB c (ho _ hle (aP.bO _ _ _)) rfl rfl rfl rfl;exact⟨rfl,_,hle,aP.bO _ _ _,YK⟩
theorem Cx {t:TypeId}{x y:SV}{xv:Value}(h:Gk t x s=some (y,s'))(hr:HR ν M w0 s w)(hx:VR ν x xv):
  (s'.ob=s.ob)/\c7 E.P (Instr.box t xv) ν M w0 w y s':=by
 unfold Gk at h;cases hc:x.cells with
 | none=>rw[hc]at h;cases h
 | some l=>
  rw[hc]at h;simp only[WG,V9]at h;cases hn:eW (.row l t (0,0) none) s with
  | none=>rw[hn]at h;cases h
  | some p=>
   obtain⟨i,s1⟩:=p;rw[hn]at h;cases h;have YJ:=SV.lP hc hx;obtain⟨Yw,ν',hle,hi,YK⟩:=gw hn hr 0 (r:=.cells xv.cells t) (fun ν' hle _=>⟨xv.cells.toList,[],by simp,YJ.mono hle,by simpa[s8] using YJ.length⟩);refine⟨Yw,ν',_,_,hle,?_,VR.aF.2 ⟨_,hi,rfl⟩,YK⟩;simp[Instr.box,newVar,newRow]
theorem EL {t:TypeId}{y:SV}(h:xf E t s=some (y,s'))(hr:HR ν M w0 s w):
  (s'.ob=s.ob)/\c7 E.P (Instr.alloc t true (.tuple #[])) ν M w0 w y s':=by
 unfold xf at h;cases hi:bT E t with
 | none=>rw[hi]at h;cases h
 | some info=>
  rw[hi]at h;simp only[WG,V9]at h;cases hz:info.zero with
  | none=>rw[hz]at h;cases h
  | some z=>
   rw[hz]at h;simp only[V9]at h;obtain⟨Yw,ν',w',v,hle,Yt,hv,YK⟩:=Cx (E:=E) (xv:=z) h hr (VR.ae.2 rfl);refine⟨Yw,ν',w',v,hle,?_,hv,YK⟩;rw[<- Yt];simp[Instr.alloc,Instr.box,dC hi hz]
end
section
variable {ν:aP}{M:Own}{w0 w:World}{s s':SH}{E:Env}
theorem nq {t:TypeId}{x y:SV}{f:Nat}{xv:Value}(h:nI E t x f=some y)(hx:VR ν x xv):
  ∃ yv,(Instr.fieldAt t xv f).run E.P w=.ok yv w/\VR ν y yv:=by
 unfold nI at h;split at h
 ·rename_i i off fields hd;obtain⟨b,hb,rfl⟩:=VR.aF.1 hx;split at h
  ·rename_i fd hf;split at h
   ·rename_i info YC;cases hz:(info.size==0)
    ·rw[hz]at h;cases h;have hz:info.size≠0:=by simpa using hz
     refine⟨_,?_,VR.aF.2 ⟨b,hb,rfl⟩⟩;simp[Instr.fieldAt,run_underlying hd,hf,Instr.sureAddr,fieldPlace,run_sizeOf YC,hz,di]
    ·rw[hz]at h;cases h
   ·cases h
  ·cases h
 ·cases h
theorem zH {t:TypeId}{P:Program}{cs:List Value}{off:Nat}{v:Value}(hag:(isAgg t).run P w=.ok false w)(h:cs[off]?=some v):(part t cs.toArray off).run P w=.ok v w:=by
 simp[part,hag,h]
theorem vW {t:TypeId}{P:Program}{cs:List Value}{off n:Nat}(hag:(isAgg t).run P w=.ok true w)(hs:(sizeOf t).run P w=.ok n w):
  (part t cs.toArray off).run P w=.ok (.agg ((cs.drop off).take n).toArray) w:=by
 simp[part,hag,hs,List.take_drop]
theorem vS {t:TypeId}{x y:SV}{f:Nat}{xv:Value}(h:A8 E t x f=some y)(hx:VR ν x xv):
  ∃ yv,(Instr.field t xv f).run E.P w=.ok yv w/\VR ν y yv:=by
 unfold A8 at h;split at h
 ·rename_i l fields hd;obtain⟨a,rfl,ha⟩:=VR.bx.1 hx;split at h
  ·rename_i fd hf;split at h
   ·rename_i hag;obtain⟨v,hv,hvr⟩:=ha.get h;refine⟨v,?_,hvr⟩;simp only[Instr.field,Wf,run_underlying hd,V3,hf,asAgg,Wk];exact zH (gf hag) hv
   ·rename_i info hag YC;cases hle:Nat.ble (fd.offset+info.size) l.length
    ·rw[hle]at h;cases h
    ·rw[hle]at h;cases h;refine⟨_,?_,VR.bx.2 ⟨_,rfl,(ha.drop fd.offset).take info.size⟩⟩;simp only[Instr.field,Wf,run_underlying hd,V3,hf,asAgg,Wk];exact vW (gf hag) (run_sizeOf YC)
   ·cases h
  ·cases h
 ·cases h
theorem SV.nU {x:SV}{k:IntKind}{n:Int}{y:Value}(h:x.int=some (k,n))(hv:VR ν x y):y=.int k n:=by
 unfold SV.int at h;split at h
 ·cases h;exact VR.ae.1 hv
 ·cases h
theorem jA {i:Int}{n:Nat}(h:ai i n=true):0<=i/\i<n:=Ws h
theorem iD {t:TypeId}{x i y:SV}{xv iv:Value}(h:oe E t x i s=some (y,s'))(hx:VR ν x xv)(hi:VR ν i iv):
  s.dD s'/\(s'.ob->s.ob/\∃ yv,(Instr.indexAt t xv iv).run E.P w=.ok yv w/\VR ν y yv):=by
 unfold oe at h;split at h
 ·rename_i k n len elem b off hint hd;cases ha:s.ask E (ai n len) with
  | none=>rw[ha]at h;cases h
  | some s1=>
   rw[ha]at h;cases YC:bT E elem with
   | none=>rw[YC]at h;cases h
   | some info=>
    rw[YC]at h;cases h;obtain⟨Ys,Yw⟩:=SH.eN ha;refine⟨Ys,fun ob=>⟨(Yw ob).1,?_⟩⟩;obtain⟨c,hc,rfl⟩:=VR.aF.1 hx;obtain rfl:=SV.nU hint hi;have Z6:=jA (Yw ob).2;refine⟨_,?_,VR.aF.2 ⟨c,hc,rfl⟩⟩;simp[Instr.indexAt,asIntOf,run_underlying hd,Instr.sureAddr,run_sizeOf YC,Z6,di]
 ·rename_i k n elem b off len cap hint hd;cases ha:s.ask E (ai n len) with
  | none=>rw[ha]at h;cases h
  | some s1=>
   rw[ha]at h;cases YC:bT E elem with
   | none=>rw[YC]at h;cases h
   | some info=>
    rw[YC]at h;cases h;obtain⟨Ys,Yw⟩:=SH.eN ha;refine⟨Ys,fun ob=>⟨(Yw ob).1,?_⟩⟩;obtain⟨c,hc,_,rfl⟩:=VR.aL.1 hx;obtain rfl:=SV.nU hint hi;have Z6:=jA (Yw ob).2;refine⟨_,?_,VR.aF.2 ⟨c,hc,rfl⟩⟩;simp[Instr.indexAt,asIntOf,run_underlying hd,run_sizeOf YC,Z6,di]
 ·cases h
theorem au.toList (ν:aP)(a:Array Value):au ν (a.toList.map SV.v) a.toList:=au.lits ν _
theorem mF {t:TypeId}{x i y:SV}{xv iv:Value}(h:Aj E t x i s=some (y,s'))(hx:VR ν x xv)(hi:VR ν i iv):
  s.dD s'/\(s'.ob->s.ob/\∃ yv,(Instr.index t xv iv).run E.P w=.ok yv w/\VR ν y yv):=by
 unfold Aj at h;split at h
 ·rename_i k n len elem l hint hd;cases ha:s.ask E (ai n len) with
  | none=>rw[ha]at h;cases h
  | some s1=>
   rw[ha]at h;cases YC:bT E elem with
   | none=>rw[YC]at h;cases h
   | some info=>
    rw[YC]at h;simp only[WG,V9]at h;obtain⟨Ys,Yw⟩:=SH.eN ha;obtain⟨a,rfl,hal⟩:=VR.bx.1 hx;obtain rfl:=SV.nU hint hi
    have key:∀ v,(part elem a.toArray (n.toNat*info.size)).run E.P w=.ok v w->s1.ob->(Instr.index t (.agg a.toArray) (.int k n)).run E.P w=.ok v w:=by
     intro v hv ob;have Z6:=jA (Yw ob).2;simp[Instr.index,asIntOf,run_underlying hd,Z6,run_sizeOf YC,hv]
    split at h
    ·rename_i hag;cases hx:l[n.toNat*info.size]? with
     | none=>rw[hx]at h;cases h
     | some z=>
      rw[hx]at h;cases h;obtain⟨v,hv,hvr⟩:=hal.get hx;exact⟨Ys,fun ob=>⟨(Yw ob).1,v,key v (zH (gf hag) hv) ob,hvr⟩⟩
    ·rename_i hag;cases hle:Nat.ble (n.toNat*info.size+info.size) l.length
     ·rw[hle]at h;cases h
     ·rw[hle]at h;cases h;exact⟨Ys,fun ob=>⟨(Yw ob).1,_,key _ (vW (gf hag) (run_sizeOf YC)) ob,VR.bx.2 ⟨_,rfl,(hal.drop _).take _⟩⟩⟩
    ·cases h
 ·rename_i k n len elem cs hint hd;cases ha:s.ask E (ai n len) with
  | none=>rw[ha]at h;cases h
  | some s1=>
   rw[ha]at h;cases YC:bT E elem with
   | none=>rw[YC]at h;cases h
   | some info=>
    rw[YC]at h;simp only[WG,V9]at h;obtain⟨Ys,Yw⟩:=SH.eN ha;obtain rfl:=VR.ae.1 hx;obtain rfl:=SV.nU hint hi;split at h
    ·rename_i hag;cases hx:cs[n.toNat*info.size]? with
     | none=>rw[hx]at h;cases h
     | some z=>
      rw[hx]at h;cases h;refine⟨Ys,fun ob=>⟨(Yw ob).1,z,?_,VR.ae.2 rfl⟩⟩;have Z6:=jA (Yw ob).2;simp[Instr.index,asIntOf,run_underlying hd,Z6,run_sizeOf YC,part,gf hag,hx]
    ·cases h
 ·rename_i k n b hint hd;cases ha:s.ask E (ai n b.size) with
  | none=>rw[ha]at h;cases h
  | some s1=>
   rw[ha]at h;cases h;obtain⟨Ys,Yw⟩:=SH.eN ha;obtain rfl:=VR.ae.1 hx;obtain rfl:=SV.nU hint hi;refine⟨Ys,fun ob=>⟨(Yw ob).1,_,?_,VR.ae.2 rfl⟩⟩;have Z6:=jA (Yw ob).2;have YD:n.toNat<b.size:=by omega
   have hg:b[n.toNat]?=some (b.data.getD n.toNat 0):=by
    have h1:b[n.toNat]?=some b[n.toNat]:=getElem?_pos b n.toNat YD;rw[h1];have hlt':n.toNat<b.data.size:=YD;simp only[Array.getD,hlt',dif_pos];rfl
   simp only[Instr.index,asIntOf,Wf,Wk,V3,run_underlying hd,if_pos Z6.1,hg]
 ·cases h
end
section
variable {ν:aP}{M:Own}{w0 w:World}{s s':SH}{E:Env}
inductive uF (ν:aP):Option SV->Option Value->Prop
 | none:uF ν none none
 | some {x:SV} {v:Value} (h:VR ν x v):uF ν (some x) (some v)
theorem mu {x:Option SV}{v:Option Value}{o:Option Int}(h:jV x=some o)(hv:uF ν x v):
  (o=none/\v=none)\/∃ k n,o=some n/\v=some (.int k n):=by
 cases hv with
 | none=>cases h;exact .inl ⟨rfl,rfl⟩
 | @some x v hv=>
  unfold jV at h;simp only at h;split at h
  ·rename_i k n hint;cases h;exact .inr ⟨k,n,rfl,by rw[SV.nU hint hv]⟩
  ·cases h
theorem run_sliceBound {P:Program}{k:IntKind}{i:Int}{y:Nat}{c:BoundsCode}(h:0<=i/\i<=y):(Instr.sliceBound (.int k i) y c).run P w=.ok i.toNat w:=by
 simp[Instr.sliceBound,asIntOf,h]
theorem ic {len cap cap':Nat}{lo hi:Option Int}{lv hv:Option Value}{l h:Nat}(hh:fI E len cap lo hi s=some (l,h,s'))
  (hlo:(lo=none/\lv=none)\/∃ k n,lo=some n/\lv=some (.int k n)) (hhi:(hi=none/\hv=none)\/∃ k n,hi=some n/\hv=some (.int k n)) (Y0:cap<=cap') (isS:Bool) (hlen:len<=cap):
  s.dD s'/\(s'.ob->s.ob/\(Instr.sliceBounds isS len cap' lv hv none).run E.P w=.ok (l,h,cap') w/\l<=h/\h<=cap):=by
 unfold fI at hh;rcases hhi with ⟨rfl,rfl⟩|⟨kh,nh,rfl,rfl⟩
 ·rcases hlo with ⟨rfl,rfl⟩|⟨kl,nl,rfl,rfl⟩
  ·simp only[WG,V9]at hh;cases hh;exact⟨.refl _,fun ob=>⟨ob,by simp[Instr.sliceBounds],WW _,hlen⟩⟩
  ·simp only[WG,V9]at hh;cases ha:s.ask E (decide (0<=nl/\nl<=len)) with
   | none=>rw[ha]at hh;cases hh
   | some s1=>
    rw[ha]at hh;cases hh;obtain⟨Ys,Yw⟩:=SH.eN ha;refine⟨Ys,fun ob=>⟨(Yw ob).1,?_,?_,hlen⟩⟩
    ·have hb:=Ws (Yw ob).2;simp[Instr.sliceBounds,run_sliceBound hb]
    ·have hb:=Ws (Yw ob).2;dsimp only;omega
 ·simp only[WG]at hh;cases ha:s.ask E (decide (0<=nh/\nh<=cap)) with
  | none=>rw[ha]at hh;cases hh
  | some s1=>
   rw[ha]at hh;simp only[Xb,V9]at hh;obtain⟨Ys,Yw⟩:=SH.eN ha;rcases hlo with ⟨rfl,rfl⟩|⟨kl,nl,rfl,rfl⟩
   ·cases hh;refine⟨Ys,fun ob=>⟨(Yw ob).1,?_,WW _,?_⟩⟩
    ·have hb:=Ws (Yw ob).2;have Yy:0<=nh/\nh<=(cap':Int):=⟨hb.1,by omega⟩;simp[Instr.sliceBounds,run_sliceBound Yy]
    ·have hb:=Ws (Yw ob).2;omega
   ·dsimp only at hh;cases YH:s1.ask E (decide (0<=nl/\nl<=nh.toNat)) with
    | none=>rw[YH]at hh;cases hh
    | some s2=>
     rw[YH]at hh;cases hh;obtain⟨Y7,Y6⟩:=SH.eN YH;refine⟨Ys.trans Y7,fun ob=>⟨(Yw (Y6 ob).1).1,?_,?_,?_⟩⟩
     ·have hb:=Ws (Yw (Y6 ob).1).2;have Yy:0<=nh/\nh<=(cap':Int):=⟨hb.1,by omega⟩;have hc:=Ws (Y6 ob).2;simp[Instr.sliceBounds,run_sliceBound Yy,run_sliceBound hc]
     ·have hc:=Ws (Y6 ob).2;dsimp only;omega
     ·have hb:=Ws (Yw (Y6 ob).1).2;omega
theorem mE {t:TypeId}{x y:SV}{lo hi mx:Option SV}{xv:Value}{lv hv mv:Option Value}(h:BC E t x lo hi mx s=some (y,s'))(hx:VR ν x xv)
  (hlo:uF ν lo lv) (hhi:uF ν hi hv) (hmx:uF ν mx mv):
  s.dD s'/\(s'.ob->s.ob/\∃ yv,(Instr.sliceAt t xv lv hv mv).run E.P w=.ok yv w/\VR ν y yv):=by
 unfold BC at h;cases hol:jV lo with
 | none=>rw[hol]at h;cases h
 | some ol=>
 cases hoh:jV hi with
 | none=>rw[hol,hoh]at h;cases h
 | some oh=>
 rw[hol,hoh]at h;simp only[WG,V9]at h;have rl:=mu hol hlo;have rh:=mu hoh hhi;split at h
 ·-- strings
  rename_i b hd;cases hmx;obtain rfl:=VR.ae.1 hx;cases hb:fI E b.size b.size ol oh s with
  | none=>rw[hb]at h;cases h
  | some p=>
   obtain⟨l,hh,s1⟩:=p;rw[hb]at h;cases h;obtain⟨Ys,Yw⟩:=ic (w:=w) hb rl rh (Wx _) false (Wx _);refine⟨Ys,fun ob=>⟨(Yw ob).1,_,?_,VR.ae.2 rfl⟩⟩;simp only[Instr.sliceAt,Instr.slice,Wf,run_underlying hd,V3,Option.isSome_none,Xj,Yf,(Yw ob).2.1,Wk]
 ·-- an array behind a pointer
  rename_i n elem i off hd;cases hmx;obtain⟨c,hc,rfl⟩:=VR.aF.1 hx;cases hb:fI E n n ol oh s with
  | none=>rw[hb]at h;cases h
  | some p=>
   obtain⟨l,hh,s1⟩:=p;rw[hb]at h;simp only[V9]at h;cases YC:bT E elem with
   | none=>rw[YC]at h;cases h
   | some info=>
    rw[YC]at h;simp only[V9]at h;cases Zo:(n==l)
    ·rw[Zo]at h;cases h;have Zo:n≠l:=by simpa using Zo
     obtain⟨Ys,Yw⟩:=ic (w:=w) hb rl rh (Wx _) false (Wx _);refine⟨Ys,fun ob=>⟨(Yw ob).1,_,?_,VR.aL.2 ⟨c,hc,?_,rfl⟩⟩⟩
     ·simp only[Instr.sliceAt,Wf,run_underlying hd,V3,Instr.sureAddr,Wk,(Yw ob).2.1,run_sizeOf YC,if_neg Zo,di,WR]
     ·obtain⟨_,_,h1,h2⟩:=Yw ob;simp only[WR];omega
    ·rw[Zo]at h;cases h
 ·-- a slice whose room is told
  rename_i elem i off len cap hd;cases hmx;obtain⟨c,hc,hlen,rfl⟩:=VR.aL.1 hx;simp only[WR]at hlen;cases hb:fI E len cap ol oh s with
  | none=>rw[hb]at h;cases h
  | some p=>
   obtain⟨l,hh,s1⟩:=p;rw[hb]at h;simp only[V9]at h;cases YC:bT E elem with
   | none=>rw[YC]at h;cases h
   | some info=>
    rw[YC]at h;simp only[V9]at h;obtain⟨Ys,Yw⟩:=ic (w:=w) hb rl rh (Wx _) true hlen;cases Y8:s1.dec E (decide (cap=l)) with
    | mk e s2=>
     obtain⟨Y7,Y6⟩:=SH.fZ Y8;rw[Y8]at h;cases e
     ·cases h;refine⟨Ys.trans Y7,fun ob=>?_⟩;obtain⟨ZU,he⟩:=Y6 ob;obtain⟨YG,Yt,h1,h2⟩:=Yw ZU;have he:=Xr he;refine⟨YG,_,?_,VR.aL.2 ⟨c,hc,?_,rfl⟩⟩
      ·simp only[Instr.sliceAt,Instr.slice,Wf,run_underlying hd,V3,WR,Yt,run_sizeOf YC,Wk,if_neg he,Xb,di]
      ·simp only[WR];omega
     ·cases h;refine⟨Ys.trans Y7,fun ob=>?_⟩;obtain⟨ZU,he⟩:=Y6 ob;obtain⟨YG,Yt,h1,h2⟩:=Yw ZU;have he:=Ws he;refine⟨YG,_,?_,VR.aL.2 ⟨c,hc,?_,rfl⟩⟩
      ·simp only[Instr.sliceAt,Instr.slice,Wf,run_underlying hd,V3,WR,Yt,run_sizeOf YC,Wk,if_pos he]
      ·simp only[WR];omega
 ·-- a slice whose room is not told
  rename_i elem i off len hd;cases hmx;obtain⟨c,hc,hlen,rfl⟩:=VR.aL.1 hx;simp only[W1]at hlen;cases hb:fI E len len ol oh s with
  | none=>rw[hb]at h;cases h
  | some p=>
   obtain⟨l,hh,s1⟩:=p;rw[hb]at h;simp only[V9]at h;cases YC:bT E elem with
   | none=>rw[YC]at h;cases h
   | some info=>
   rw[YC]at h;simp only[V9]at h;cases Y8:s1.dec E (l==0) with
   | mk e0 s2=>
   obtain⟨Y7,Y6⟩:=SH.fZ Y8;rw[Y8]at h;obtain⟨Ys,Yw⟩:=ic (w:=w) hb rl rh hlen true (Wx _);cases e0
   ·simp only[W5]at h;cases hask:s2.ask E (info.size==1&&Nat.blt l len) with
    | none=>rw[hask]at h;cases h
    | some s3=>
    rw[hask]at h;cases h;obtain⟨Zv,τ⟩:=SH.eN hask;refine⟨(Ys.trans Y7).trans Zv,fun ob=>?_⟩;obtain⟨Z8,hz⟩:=τ ob;obtain⟨ZU,hl0⟩:=Y6 Z8;have hl0:l≠0:=by simpa using hl0
    rw[V6]at hz;obtain⟨hz1,hz2⟩:=hz;have hz1:info.size=1:=by simpa using hz1
    have hz2:=dw.1 hz2;obtain⟨YG,Yt,h1,h2⟩:=Yw ZU;refine⟨YG,_,?_,VR.aL.2 ⟨c,hc,?_,rfl⟩⟩
    ·simp only[Instr.sliceAt,Instr.slice,Wf,run_underlying hd,V3,W1,Yt,run_sizeOf YC,Wk];rw[if_neg (by omega)];simp only[hz1,XJ,Xb,di,show c.2 - (off+l)=c.2 - off - l from by omega]
    ·simp only[W1];omega
   ·simp only[WE]at h;cases h;refine⟨Ys.trans Y7,fun ob=>?_⟩;obtain⟨ZU,hl0⟩:=Y6 ob;obtain rfl:l=0:=by simpa using hl0
    obtain⟨YG,Yt,h1,h2⟩:=Yw ZU;refine⟨YG,_,?_,VR.aL.2 ⟨c,hc,?_,rfl⟩⟩
    ·simp only[Instr.sliceAt,Instr.slice,Wf,run_underlying hd,V3,W1,Yt,run_sizeOf YC,Wk];split
     ·rename_i e;rw[e];rfl
     ·simp[Addr.add]
    ·simp only[W1];omega
 ·-- the end of a slice
  rename_i elem i off len adv hd;cases hmx;obtain⟨c,hc,rfl⟩:=VR.fu.1 hx;cases hb:fI E 0 0 ol oh s with
  | none=>rw[hb]at h;cases h
  | some p=>
   obtain⟨l,hh,s1⟩:=p;rw[hb]at h;simp only[V9]at h;cases YC:bT E elem with
   | none=>rw[YC]at h;cases h
   | some info=>
   rw[YC]at h;cases h;obtain⟨Ys,Yw⟩:=ic (w:=w) hb rl rh (WW (c.2 - off - len)) true (WW _);refine⟨Ys,fun ob=>?_⟩;obtain⟨YG,Yt,h1,h2⟩:=Yw ob;obtain rfl:hh=0:=by omega
   obtain rfl:l=0:=by omega
   refine⟨YG,_,?_,VR.fu.2 ⟨c,hc,rfl⟩⟩;simp only[Instr.sliceAt,Instr.slice,Wf,run_underlying hd,V3,Yt,run_sizeOf YC,Wk];split
   ·rename_i e;rw[e]
   ·simp[Addr.add]
 ·-- three indexes
  rename_i elem i off len cap mx hd;cases hmx with
  | some hm=>
  rename_i mv;obtain⟨c,hc,hlen,rfl⟩:=VR.aL.1 hx;have Y0:cap.getD len<=cap.getD (c.2 - off):=by cases cap<;>simp_all
  generalize hC:cap.getD (c.2 - off)=C at hlen Y0;cases hmi:mx.int with
  | none=>rw[hmi]at h;cases h
  | some km=>
  obtain⟨km,m⟩:=km;rw[hmi]at h;simp only[V9]at h;obtain rfl:=SV.nU hmi hm;rcases rh with ⟨rfl,_⟩|⟨kh,nh,rfl,rfl⟩
  ·cases h
  simp only[Option.isSome_some,fU,WE,V9]at h;cases ha:s.ask E (decide (0<=m/\m<=cap.getD len)) with
  | none=>rw[ha]at h;cases h
  | some s1=>
  rw[ha]at h;simp only[V9,yg,WG]at h;obtain⟨hsame1,Ω⟩:=SH.eN ha;cases YH:s1.ask E (decide (0<=nh/\nh<=m.toNat)) with
  | none=>rw[YH]at h;cases h
  | some s2=>
  rw[YH]at h;simp only[V9]at h;obtain⟨Y7,Y6⟩:=SH.eN YH
  have key:∀ (l:Nat) (s3:SH),s2.dD s3->(s3.ob->s2.ob/\l<=nh.toNat/\∀ w,(Instr.sliceBounds true len C lv (some (.int kh nh)) (some (.int km m))).run E.P w=.ok (l,nh.toNat,m.toNat) w)->
    ((bT E elem).bind fun info=>match s3.dec E (decide (m.toNat=l)) with
     | (e,s)=>bif e then some (SV.sl i off (nh.toNat - l) (some (m.toNat - l)),s) else some (SV.sl i (off+l*info.size) (nh.toNat - l) (some (m.toNat - l)),s))=some (y,s')->
    s.dD s'/\(s'.ob->s.ob/\∃ yv,(Instr.sliceAt t (.slice (some ⟨c.1,off,none⟩) len C) lv (some (.int kh nh)) (some (.int km m))).run E.P w=.ok yv w/\VR ν y yv):=by
   intro l s3 Zv τ h;cases YC:bT E elem with
   | none=>rw[YC]at h;cases h
   | some info=>
   rw[YC]at h;simp only[V9]at h;cases Y8:s3.dec E (decide (m.toNat=l)) with
   | mk e s4=>
   obtain⟨hsame4,hob4⟩:=SH.fZ Y8;rw[Y8]at h;have hs:s.dD s4:=((hsame1.trans Y7).trans Zv).trans hsame4;cases e
   ·cases h;refine⟨hs,fun ob=>?_⟩;obtain⟨ob3,he⟩:=hob4 ob;obtain⟨Z8,h1,Yt⟩:=τ ob3;have he:=Xr he;have hm':=Ws (Ω (Y6 Z8).1).2;have hh':=Ws (Y6 Z8).2;refine⟨(Ω (Y6 Z8).1).1,_,?_,VR.aL.2 ⟨c,hc,?_,rfl⟩⟩
    ·simp only[Instr.sliceAt,Instr.slice,Wf,run_underlying hd,V3,WR,Yt,run_sizeOf YC,Wk,if_neg he,Xb,di]
    ·simp only[WR];omega
   ·cases h;refine⟨hs,fun ob=>?_⟩;obtain⟨ob3,he⟩:=hob4 ob;obtain⟨Z8,h1,Yt⟩:=τ ob3;have he:=Ws he;have hm':=Ws (Ω (Y6 Z8).1).2;have hh':=Ws (Y6 Z8).2;refine⟨(Ω (Y6 Z8).1).1,_,?_,VR.aL.2 ⟨c,hc,?_,rfl⟩⟩
    ·simp only[Instr.sliceAt,Instr.slice,Wf,run_underlying hd,V3,WR,Yt,run_sizeOf YC,Wk,if_pos he]
    ·simp only[WR];omega
  rcases rl with ⟨rfl,rfl⟩|⟨kl,nl,rfl,rfl⟩
  ·refine key 0 s2 (.refl _) (fun ob=>⟨ob,WW _,fun w=>?_⟩) h;have hm':0<=m/\m<=(C:Int):=by have:=Ws (Ω (Y6 ob).1).2;omega
   have hh':=Ws (Y6 ob).2;simp[Instr.sliceBounds,run_sliceBound hm',run_sliceBound hh']
  ·dsimp only at h;cases Zx:s2.ask E (decide (0<=nl/\nl<=nh.toNat)) with
   | none=>rw[Zx]at h;cases h
   | some s3=>
   rw[Zx]at h;obtain⟨Zv,τ⟩:=SH.eN Zx;refine key nl.toNat s3 Zv (fun ob=>?_) h;have hl':=Ws (τ ob).2;refine⟨(τ ob).1,by omega,fun w=>?_⟩;have hm':0<=m/\m<=(C:Int):=by have:=Ws (Ω (Y6 (τ ob).1).1).2;omega
   have hh':=Ws (Y6 (τ ob).1).2;simp[Instr.sliceBounds,run_sliceBound hm',run_sliceBound hh',run_sliceBound hl']
 ·cases h
theorem sW {t:TypeId}{x:SV}{L:List (SV × SH)}{lo hi mx:Option SV}{xv:Value}{lv hv mv:Option Value}(h:oD E t x lo hi mx s=some L)(hx:VR ν x xv)
  (hlo:uF ν lo lv) (hhi:uF ν hi hv) (hmx:uF ν mx mv):
  ∃ p∈L,s.dD p.2/\(p.2.ob->s.ob/\∃ yv,(Instr.sliceAt t xv lv hv mv).run E.P w=.ok yv w/\VR ν p.1 yv):=by
 unfold oD at h;cases hol:jV lo with
 | none=>rw[hol]at h;cases h
 | some ol=>
 cases hoh:jV hi with
 | none=>rw[hol,hoh]at h;cases h
 | some oh=>
 rw[hol,hoh]at h;simp only[WG,V9]at h;have rl:=mu hol hlo;have rh:=mu hoh hhi;split at h
 ·rename_i elem i off len hd;cases hmx;obtain⟨c,hc,hlen,rfl⟩:=VR.aL.1 hx;simp only[W1]at hlen;cases hb:fI E len len ol oh s with
  | none=>rw[hb]at h;cases h
  | some p=>
   obtain⟨l,hh,s1⟩:=p;rw[hb]at h;simp only[V9]at h;cases YC:bT E elem with
   | none=>rw[YC]at h;cases h
   | some info=>
   rw[YC]at h;simp only[V9]at h;cases hz:((info.size==1||off==0)&&Nat.beq l len&&Nat.beq hh len)
   ·rw[hz]at h;cases h
   rw[hz]at h;cases h;rw[V6,V6]at hz;obtain rfl:=WM hz.1.2;obtain rfl:=WM hz.2;obtain⟨Ys,Yw⟩:=ic (w:=w) hb rl rh hlen true (Wx _);refine⟨_,Wl.2 rfl,Ys,fun ob=>?_⟩;obtain⟨YG,Yt,h1,h2⟩:=Yw ob;refine⟨YG,_,?_,VR.fu.2 ⟨c,hc,rfl⟩⟩;simp only[Instr.sliceAt,Instr.slice,Wf,run_underlying hd,V3,W1,Yt,run_sizeOf YC,Wk];by_cases Y0:c.2 - off=hh
   ·rw[if_pos Y0,if_pos Y0];simp
   ·rw[if_neg (by omega),if_neg Y0];simp only[Xb,di,Nat.sub_self]
 ·cases h
theorem zK {t:TypeId}{x:SV}{L:List (SV × SH)}{lo hi mx:Option SV}(h:oD E t x lo hi mx s=some L):∃ p i o l a,L=[p]/\p.1=.fin i o l a:=by
 unfold oD at h;obtain⟨ol,_,h⟩:=Wi.1 h;obtain⟨oh,_,h⟩:=Wi.1 h;split at h
 ·obtain⟨p,_,h⟩:=Wi.1 h;obtain⟨l,hh,s1⟩:=p;obtain⟨info,_,h⟩:=Wi.1 h;revert h;generalize (_&&_:Bool)=b;cases b
  ·intro h;cases h
  ·intro h;cases h;exact⟨_,_,_,_,_,rfl,rfl⟩
 ·cases h
end
section
variable {ν:aP}{M:Own}{w0 w:World}{s s':SH}{E:Env}
theorem nc (zs:List Value):∀ (ys:List Value) (off k:Nat),
  (zs.zipIdx k).foldl (fun (cs:Array Value) p=>cs.setIfInBounds (off+p.2) p.1) ys.toArray=(dm ys (off+k) zs).toArray:=by
 induction zs with
 | nil=>intros;rfl
 | cons z zs ih=>
  intro ys off k;simp only[List.zipIdx_cons,X1,List.setIfInBounds_toArray,dm];rw[ih];rfl
theorem Ev (v:Value)(off:Nat)(ys:List Value):
  v.cells.zipIdx.foldl (fun (cs:Array Value) (p:Value × Nat)=>cs.setIfInBounds (off+p.2) p.1) ys.toArray=(dm ys off v.cells.toList).toArray:=by
 rw[<- Array.foldl_toList,Array.toList_zipIdx];exact nc _ ys off 0
inductive od (ν:aP):List (Nat × SV)->List (Nat × Value)->Prop
 | nil:od ν [] []
 | cons {i:Nat} {x:SV} {v:Value} {l:List (Nat × SV)} {m:List (Nat × Value)} (h:VR ν x v) (t:od ν l m):od ν ((i,x)::l) ((i,v)::m)
theorem sH {place:Nat->Option (Nat × Nat)}{parts:List (Nat × SV)}{pv:List (Nat × Value)}(hp:od ν parts pv):
  ∀ {cells out:List SV} {ys:List Value},px place cells parts=some out->au ν cells ys->∃ zs:List Value,Instr.fill place ys.toArray pv=some zs.toArray/\au ν out zs:=by
 induction hp with
 | nil=>intro cells out ys h hv;cases h;exact⟨ys,rfl,hv⟩
 | @cons i x v l m hx _ ih=>
  intro cells out ys h hv;unfold px at h;split at h
  ·rename_i off size lc hpl hc;cases hb:(lc.length==size&&Nat.ble (off+lc.length) cells.length)
   ·rw[hb]at h;cases h
   ·rw[hb]at h;rw[V6]at hb;have h1:lc.length=size:=by simpa using hb.1
    have h2:=Wu hb.2;have YJ:=SV.lP hc hx;have hlen:=YJ.length;have ξ:=hv.length;have YX:v.cells.size=size:=by rw[<- h1,<- hlen];simp
    obtain⟨zs,hz,hzv⟩:=ih h (hv.aQ YJ off);refine⟨zs,?_,hzv⟩;simp only[Instr.fill,hpl];have hle:¬ (off+v.cells.size>ys.toArray.size):=by simp;omega
    rw[if_neg (by simp[YX]at hle ⊢;omega)];have:=Ev v off ys;rw[this];exact hz
  ·cases h
theorem yN {fields:List Field}:∀ {l:List (Nat × Nat)},placesOf E fields=some l->
  (fields.mapM fun f=>do pure (f.offset,<- sizeOf f.type):Sem (List (Nat × Nat))).run E.P w=.ok l w:=by
 induction fields with
 | nil=>intro l h;cases h;rfl
 | cons f fs ih=>
  intro l h;unfold placesOf at h;split at h
  ·rename_i info l' hi hl;cases h;simp only[List.mapM_cons,Wf,run_sizeOf hi,V3,Wk,ih hl]
  ·cases h
theorem vg {t:TypeId}{ps:List (Nat × SV)}{pv:List (Nat × Value)}{y:SV}(h:AM E t ps=some y)(hp:od ν ps pv):
  ∃ yv,(Instr.build t pv.toArray).run E.P w=.ok yv w/\VR ν y yv:=by
 unfold AM at h;cases hi:bT E t with
 | none=>rw[hi]at h;cases h
 | some info=>
 rw[hi]at h;simp only[WG,V9]at h;cases hz:info.zero with
 | none=>rw[hz]at h;cases h
 | some z=>
 rw[hz]at h;simp only[V9]at h;split at h
 ·rename_i fields hd;cases hpl:placesOf E fields.toList with
  | none=>rw[hpl]at h;cases h
  | some pl=>
  rw[hpl]at h;simp only[V9]at h;cases hf:px (pl[·]?) (z.cells.toList.map .v) ps with
  | none=>rw[hf]at h;cases h
  | some out=>
  rw[hf]at h;cases h;obtain⟨zs,ι,hv⟩:=sH hp hf (au.lits ν z.cells.toList);refine⟨_,?_,VR.bx.2 ⟨zs,rfl,hv⟩⟩
  have hm:(fields.mapM fun f=>do pure (f.offset,<- sizeOf f.type):Sem (Array (Nat × Nat))).run E.P w=.ok pl.toArray w:=by
   rw[Array.mapM_eq_mapM_toList];simp only[Sem.run_map,yN hpl,V3]
  simp only[Instr.build,Wf,dC hi hz,V3,run_underlying hd,hm];have:(fun x:Nat=>pl.toArray[x]?)=(fun x:Nat=>pl[x]?):=by funext x;simp
  simp only[this,Array.toArray_toList]at ι ⊢;rw[ι];rfl
 ·rename_i n elem hd;cases hei:bT E elem with
  | none=>rw[hei]at h;cases h
  | some ei=>
  rw[hei]at h;simp only[V9]at h;cases hf:px (fun i=>some (i*ei.size,ei.size)) (z.cells.toList.map .v) ps with
  | none=>rw[hf]at h;cases h
  | some out=>
  rw[hf]at h;cases h;obtain⟨zs,ι,hv⟩:=sH hp hf (au.lits ν z.cells.toList);refine⟨_,?_,VR.bx.2 ⟨zs,rfl,hv⟩⟩;simp only[Instr.build,Wf,dC hi hz,V3,run_underlying hd,run_sizeOf hei];simp only[Array.toArray_toList]at ι ⊢;rw[ι];rfl
 ·cases h
end
section
variable {ν:aP}{M:Own}{w0 w:World}{s s':SH}{E:Env}
theorem nw (z:List Value)(n:Nat):(List.range (n*z.length)).map (fun k=>z.toArray[k % z.length]!)=(List.replicate n z).flatten:=by
 induction n with
 | zero=>simp
 | succ n ih=>
  have e:(n+1)*z.length=z.length+n*z.length:=by rw[Nat.succ_mul,Nat.add_comm]
  rw[e,List.range_add,Wq,List.replicate_succ,List.flatten_cons,<- ih];congr 1
  ·apply List.ext_getElem
   ·simp
   ·intro k h1 h2;simp at h1;simp[Yc h1,h1]
  ·simp[WI,Function.comp_def,Nat.add_mod_left]
theorem zg {info:TypeInfo}{n:Nat}{l:List SV}(h:qV info n=some l):∃ z,info.zero=some z/\z.cells.size=info.size/\
  au ν l ((List.range (n*info.size)).map (fun k=>z.cells[k % z.cells.size]!)):=by
 unfold qV at h;cases hz:info.zero with
 | none=>rw[hz]at h;cases h
 | some z=>
  rw[hz]at h;cases hs:(z.cells.size==info.size)
  ·simp only[hs]at h;cases h
  ·simp only[hs]at h;cases h;have hs:z.cells.size=info.size:=by simpa using hs
   refine⟨z,rfl,hs,?_⟩;have:=nw z.cells.toList n;simp only[Array.length_toList,Array.toArray_toList]at this;rw[<- hs,this];induction n with
   | zero=>simpa using au.nil
   | succ n ih=>
    simp only[List.replicate_succ,List.flatten_cons];exact (au.lits ν _).append (ih (nw z.cells.toList n |>.symm ▸ by simp))
end
section
variable {ν:aP}{M:Own}{w0 w:World}{s s':SH}{E:Env}
theorem iT (n:Nat)(f:Nat->Value):(Array.range n).map f=((List.range n).map f).toArray:=by
 rw[<- List.toArray_range,List.map_toArray]
theorem uy {t:TypeId}{len:Nat}{ps:List (Nat × SV)}{pv:List (Nat × Value)}{y:SV}(h:lU E t len ps s=some (y,s'))(hr:HR ν M w0 s w)(hp:od ν ps pv):
  (s'.ob=s.ob)/\c7 E.P (Instr.buildSlice t len pv.toArray) ν M w0 w y s':=by
 unfold lU at h;split at h
 ·rename_i elem hd;cases hi:bT E elem with
  | none=>rw[hi]at h;cases h
  | some info=>
  rw[hi]at h;simp only[WG,V9]at h;cases hg:fU (Nat.ble (len*info.size) 16777216) with
  | none=>rw[hg]at h;cases h
  | some u=>
  rw[hg]at h;simp only[V9]at h;have hg:=Wu (kj hg);cases hz:qV info len with
  | none=>rw[hz]at h;cases h
  | some zs=>
  rw[hz]at h;simp only[V9]at h;obtain⟨z,hz0,hzs,hvr⟩:=zg (ν:=ν) hz;cases hf:px (fun i=>some (i*info.size,info.size)) zs ps with
  | none=>rw[hf]at h;cases h
  | some l=>
  rw[hf]at h;simp only[V9]at h;obtain⟨ys,ι,hlv⟩:=sH hp hf hvr;cases hn:eW (.row l elem (0,0) none) s with
  | none=>rw[hn]at h;cases h
  | some p=>
  obtain⟨i,s1⟩:=p;rw[hn]at h;cases h
  obtain⟨Yw,ν',hle,hi',YK⟩:=gw hn hr 0 (r:=.cells ys.toArray elem)
   (fun ν' hle _=>⟨ys,[],by rw[l7,W4],hlv.mono hle,by simp only[s8,W4];exact hlv.length⟩)
  refine⟨Yw,ν',_,_,hle,?_,VR.aL.2 ⟨_,hi',by simp,rfl⟩,YK⟩;simp only[Instr.buildSlice,Wf,run_underlying hd,V3,run_sizeOf hi];rw[if_neg (by omega)];by_cases hn0:len*info.size=0
  ·simp only[hn0,Yj,Wf,Wk,V3,iT,List.range_zero,List.map_nil]at ι ⊢;rw[ι];simp[newRow]
  ·simp only[if_neg hn0,Wf,dC hi hz0,V3,Wk,iT];rw[ι];simp[newRow]
 ·cases h
theorem B9 {x:SV}{n:Nat}{y:Value}(h:Fl x=some n)(hv:VR ν x y):(Builtin.lenOf y).run E.P w=.ok n w:=by
 unfold Fl at h;split at h
 ·cases h;obtain rfl:=VR.ae.1 hv;rfl
 ·cases h;obtain rfl:=VR.ae.1 hv;rfl
 ·cases h;obtain⟨b,_,_,rfl⟩:=VR.aL.1 hv;rfl
 ·cases h;obtain⟨b,_,rfl⟩:=VR.fu.1 hv;rfl
 ·cases h
theorem va {size n:Nat}{x:SV}{l:List SV}{y:Value}(h:hJ size n x s=some l)(hr:HR ν M w0 s w)(hv:VR ν x y):
  ∃ ys:List Value,(Builtin.firstCells size n y).run E.P w=.ok ys.toArray w/\au ν l ys:=by
 unfold hJ at h;split at h
 ·cases h;obtain rfl:=VR.ae.1 hv;exact⟨[],rfl,au.nil⟩
 ·rename_i b;cases h;obtain rfl:=VR.ae.1 hv;refine⟨(b.extract 0 n).data.toList.map fun c=>.int .u8 c.toNat,?_,?_⟩
  ·simp only[Builtin.firstCells,Wk];congr 1;apply Array.ext';simp
  ·have:=au.lits ν ((b.extract 0 n).data.toList.map fun c=>Value.int .u8 c.toNat);rwa[WI]at this
 ·obtain⟨b,_,rfl⟩:=VR.fu.1 hv;cases hn:(n==0)
  ·rw[hn]at h;cases h
  ·rw[hn]at h;cases h;obtain rfl:n=0:=by simpa using hn
   refine⟨[],?_,au.nil⟩;simp[Builtin.firstCells,loadCells,loadCellsFrom]
 ·rename_i i off len cap;obtain⟨b,hb,_,rfl⟩:=VR.aL.1 hv;split at h
  ·rename_i xs e fz ext own hl;cases hle:Nat.ble (off+n*size) xs.length
   ·rw[hle]at h;cases h
   ·rw[hle]at h;cases h;have hle:=Wu hle;obtain⟨_,_,b',o,Yy,ho,YA,_⟩:=hr.look hl;rw[hb]at Yy;cases Yy;obtain⟨ys,rest,rfl,Zn,_⟩:=YA;have hlen:=Zn.length;refine⟨(ys.drop off).take (n*size),?_,(Zn.drop off).take _⟩;refine run_loadCells ?_ (by simp;omega);intro k hk;rw[cV ho,WN,if_pos hk,W7];have:off+k<ys.length:=by omega
    simp[WD this]
  ·cases h
 ·cases h
theorem u7 (μ:Nat):∀ (r c:Nat),c<=μ+(μ+768) / 4->Builtin.growBy μ r c<=μ+(μ+768) / 4
 | 0,c,h=>h
 | r+1,c,h=>by
  unfold Builtin.growBy
  split
  ·exact h
  ·exact u7 μ r _ (by omega)
theorem nextslicecap_le {Zu cap:Nat}(h:cap<Zu):Builtin.nextslicecap Zu cap<=2*Zu+1024:=by
 unfold Builtin.nextslicecap;split
 ·omega
 ·split
  ·omega
  ·exact Wh (u7 _ _ _ (by omega)) (by omega)
theorem kc (z:Array Value)(n:Nat):(Builtin.zeroCells z n).size=n*z.size:=by simp[Builtin.zeroCells]
theorem run_append_room {st xt elem:TypeId}{d:TypeDesc}{info:TypeInfo}{base:Option Addr}{len cap n:Nat}{yv:Value}{new:List Value}{w':World}{ty:TypeId}
  (Ze:bR E st=some (.slice elem)) (hxt:bR E xt=some d) (hd:∀ k,d≠.int k) (hi:bT E elem=some info)
  (hn:(Builtin.lenOf yv).run E.P w=.ok n w) (ZO:(Builtin.firstCells info.size n yv).run E.P w=.ok new.toArray w)
  (YB:len+n<=cap) (hs:match base with|some a=>(storeCells (a.add (len*info.size)) new).run E.P w=.ok () w'|none=>w'=w):
  (Builtin.append_ #[st,xt] ty #[.slice base len cap,yv]).run E.P w=.ok (.slice base (len+n) cap) w':=by
 have a0:(#[st,xt]:Array TypeId)[0]?=some st:=rfl;have a1:(#[st,xt]:Array TypeId)[1]?=some xt:=rfl;have b0:(#[.slice base len cap,yv]:Array Value)[0]?=some (.slice base len cap):=rfl;have b1:(#[.slice base len cap,yv]:Array Value)[1]?=some yv:=rfl;have hz:(match d with|.int _=>true|_=>false)=false:=by cases d<;>first|rfl|exact absurd rfl (hd _)
 simp only[Builtin.append_,a0,a1,b0,b1,Wf,run_underlying Ze,run_underlying hxt,V3,run_sizeOf hi,Wk];simp only[Xj,Yf,Wf,hn,V3,W0,Yj,if_pos YB,ZO];cases base with
 | none=>simp only at hs;rw[hs];rfl
 | some a=>simp only at hs;simp only[Wf,XM,hs,V3,Wk]
theorem run_append_grow {st xt elem:TypeId}{d:TypeDesc}{info:TypeInfo}{base:Option Addr}{len cap n:Nat}{yv z:Value}{old new:List Value}{ty:TypeId}
  (Ze:bR E st=some (.slice elem)) (hxt:bR E xt=some d) (hd:∀ k,d≠.int k) (hi:bT E elem=some info) (hz:info.zero=some z) (hzs:z.cells.size=info.size) (Zt:info.bytes≠0)
  (hn:(Builtin.lenOf yv).run E.P w=.ok n w) (ZO:∀ k,(Builtin.firstCells info.size n yv).run E.P { w with drawn:=k }=.ok new.toArray { w with drawn:=k })
  (hold:∀ k,(Builtin.firstCells info.size len (.slice base len cap)).run E.P { w with drawn:=k }=.ok old.toArray { w with drawn:=k })
  (YB:cap<len+n) (hlim:(2*(len+n)+1024)*info.bytes<=2 ^ 47):
  ∃ YL k,len+n<=YL/\∃ rest:List Value,rest.length=(YL - (len+n))*info.size/\
   (Builtin.append_ #[st,xt] ty #[.slice base len cap,yv]).run E.P w=.ok (.slice (some ⟨w.heap.size,0,none⟩) (len+n) YL) { w with drawn:=k,heap:=w.heap.push (.cells (old++new++rest).toArray elem) }:=by
 have a0:(#[st,xt]:Array TypeId)[0]?=some st:=rfl;have a1:(#[st,xt]:Array TypeId)[1]?=some xt:=rfl;have b0:(#[.slice base len cap,yv]:Array Value)[0]?=some (.slice base len cap):=rfl;have b1:(#[.slice base len cap,yv]:Array Value)[1]?=some yv:=rfl;have hzd:(match d with|.int _=>true|_=>false)=false:=by cases d<;>first|rfl|exact absurd rfl (hd _)
 have hnr:¬ (len+n<=cap):=by omega
 have υ:¬ (Builtin.nextslicecap (len+n) cap*info.bytes>2 ^ 48):=by
  have h1:=nextslicecap_le YB;have h2:=Xw info.bytes h1;omega
 have hq:(Question.appendCap (len+n) cap elem).forced=false:=rfl;refine⟨(Question.appendCap (len+n) cap elem).cut (w.tape w.drawn (.appendCap (len+n) cap elem)),w.drawn+1,by simp[Question.cut],?_⟩;generalize hc:(Question.appendCap (len+n) cap elem).cut (w.tape w.drawn (.appendCap (len+n) cap elem))=YL;refine⟨(Builtin.zeroCells z.cells (YL - (len+n))).toList,by simp[kc,hzs],?_⟩;simp only[Builtin.append_,a0,a1,b0,b1,Wf,run_underlying Ze,run_underlying hxt,V3,run_sizeOf hi,Wk]
 simp only[Xj,Yf,Wf,hn,V3,W0,Yj,if_neg hnr,run_typeInfo hi,Zt,false_or,and_false,if_neg υ,run_choose,hq,hc,run_askRoom,hold,ZO,
  dC hi hz,newRow,Yl,Wk]
 have e:old.toArray++new.toArray++Builtin.zeroCells z.cells (YL - (len+n))=(old++new++(Builtin.zeroCells z.cells (YL - (len+n))).toList).toArray:=by
  apply Array.ext';simp
 rw[e]
structure k7 (E:Env)(st xt elem:TypeId)(info:TypeInfo)(n:Nat)(yv:Value)(new:List Value)(w:World):Prop where
 room:∀ {base:Option Addr} {len cap:Nat} {w':World} {ty:TypeId},len+n<=cap->(match base with|some a=>(storeCells (a.add (len*info.size)) new).run E.P w=.ok () w'|none=>w'=w)->
  (Builtin.append_ #[st,xt] ty #[.slice base len cap,yv]).run E.P w=.ok (.slice base (len+n) cap) w'
 grow:∀ {base:Option Addr} {len cap:Nat} {z:Value} {old:List Value} {ty:TypeId},info.zero=some z->z.cells.size=info.size->info.bytes≠0->
  (∀ k,(Builtin.firstCells info.size len (.slice base len cap)).run E.P { w with drawn:=k }=.ok old.toArray { w with drawn:=k })->cap<len+n->(2*(len+n)+1024)*info.bytes<=2 ^ 47->
  ∃ YL k,len+n<=YL/\∃ rest:List Value,rest.length=(YL - (len+n))*info.size/\
   (Builtin.append_ #[st,xt] ty #[.slice base len cap,yv]).run E.P w=.ok (.slice (some ⟨w.heap.size,0,none⟩) (len+n) YL) { w with drawn:=k,heap:=w.heap.push (.cells (old++new++rest).toArray elem) }
theorem k7.of {st xt elem:TypeId}{d:TypeDesc}{info:TypeInfo}{n:Nat}{yv:Value}{new:List Value}(Ze:bR E st=some (.slice elem))(hxt:bR E xt=some d)(hd:∀ k,d≠.int k)(hi:bT E elem=some info)
  (hn:(Builtin.lenOf yv).run E.P w=.ok n w) (ZO:∀ k,(Builtin.firstCells info.size n yv).run E.P { w with drawn:=k }=.ok new.toArray { w with drawn:=k }):k7 E st xt elem info n yv new w:=
 ⟨fun h1 h2=>run_append_room Ze hxt hd hi hn (ZO w.drawn) h1 h2,fun h1 h2 h3 h4 h5 h6=>run_append_grow Ze hxt hd hi h1 h2 h3 hn ZO h4 h5 h6⟩
theorem k7.qV {st xt elem:TypeId}{ik k:IntKind}{info:TypeInfo}{z:Value}{m:Int}(Ze:bR E st=some (.slice elem))(hxt:bR E xt=some (.int ik))(hi:bT E elem=some info)
  (hz:info.zero=some z) (hzs:z.cells.size=info.size) (hm:0<=m/\m<=2 ^ 40) (hb:m.toNat*info.bytes<=2 ^ 47):k7 E st xt elem info m.toNat (.int k m) ((List.range (m.toNat*z.cells.size)).map fun i=>z.cells[i % z.cells.size]!) w:=by
 have hm2:m<=1099511627776:=hm.2;have hw:IntKind.i64.wrap m=m:=by rw[IntKind.wrap_i64];omega
 have hneg:¬ m<0:=by omega
 have hbig:¬ (m*(info.bytes:Int)>2 ^ 48):=by
  have Yy:m.toNat*info.bytes<=140737488355328:=hb;have e:m*(info.bytes:Int)=((m.toNat*info.bytes:Nat):Int):=by rw[Int.natCast_mul,Int.toNat_of_nonneg hm.1]
  rw[e];show ¬ (281474976710656:Int)<_;omega
 have hzc:Builtin.zeroCells z.cells m.toNat=((List.range (m.toNat*z.cells.size)).map fun i=>z.cells[i % z.cells.size]!).toArray:=iT _ _;have a0:(#[st,xt]:Array TypeId)[0]?=some st:=rfl;have a1:(#[st,xt]:Array TypeId)[1]?=some xt:=rfl
 have happ:∀ w:World,(if m.toNat*info.size=0 then (pure #[]:Sem (Array Value)) else do pure (Builtin.zeroCells (<- zeroValue elem).cells m.toNat)).run E.P w=.ok ((List.range (m.toNat*z.cells.size)).map fun i=>z.cells[i % z.cells.size]!).toArray w:=by
  intro w;by_cases h0:m.toNat*info.size=0
  ·rw[if_pos h0,hzs,h0];rfl
  ·rw[if_neg h0];simp only[Wf,dC hi hz,V3,Wk,hzc]
 constructor
 ·intro base len cap w' ty YB hs;have b0:(#[.slice base len cap,.int k m]:Array Value)[0]?=some (.slice base len cap):=rfl;have b1:(#[.slice base len cap,.int k m]:Array Value)[1]?=some (.int k m):=rfl;simp only[Builtin.append_,a0,a1,b0,b1,Wf,run_underlying Ze,run_underlying hxt,V3,run_sizeOf hi,Wk];simp only[Yj,asInt,asIntOf,Wf,Wk,V3,hw,if_neg hneg,run_typeInfo hi,if_neg hbig,Wy,Xj,Yf,if_pos YB,happ];cases base with
  | none=>simp only at hs;rw[hs];rfl
  | some a=>simp only at hs;simp only[Wf,XM,hs,V3,Wk]
 ·intro base len cap z' old ty hz' _ Zt hold YB hlim;rw[hz]at hz';cases hz';have b0:(#[.slice base len cap,.int k m]:Array Value)[0]?=some (.slice base len cap):=rfl;have b1:(#[.slice base len cap,.int k m]:Array Value)[1]?=some (.int k m):=rfl;have hnr:¬ (len+m.toNat<=cap):=by omega
  have υ:¬ (Builtin.nextslicecap (len+m.toNat) cap*info.bytes>2 ^ 48):=by
   have h1:=nextslicecap_le YB;have h2:=Xw info.bytes h1;omega
  have hmax:¬ (((len+m.toNat:Nat):Int)>IntKind.i64.max/\(True\/info.bytes=0)):=by
   have h1:(2*(len+m.toNat)+1024)*1<=(2*(len+m.toNat)+1024)*info.bytes:=Nat.mul_le_mul_left _ (Nat.pos_of_ne_zero Zt);have h2:(2*(len+m.toNat)+1024)*info.bytes<=140737488355328:=hlim;have h3:IntKind.i64.max=9223372036854775807:=rfl;rw[h3];omega
  have hq:(Question.appendCap (len+m.toNat) cap elem).forced=false:=rfl;refine⟨(Question.appendCap (len+m.toNat) cap elem).cut (w.tape w.drawn (.appendCap (len+m.toNat) cap elem)),w.drawn+1,by simp[Question.cut],?_⟩;generalize hc:(Question.appendCap (len+m.toNat) cap elem).cut (w.tape w.drawn (.appendCap (len+m.toNat) cap elem))=YL;refine⟨(Builtin.zeroCells z.cells (YL - (len+m.toNat))).toList,by simp[kc,hzs],?_⟩;simp only[Builtin.append_,a0,a1,b0,b1,Wf,run_underlying Ze,run_underlying hxt,V3,run_sizeOf hi,Wk]
  simp only[Yj,asInt,asIntOf,Wf,Wk,V3,hw,if_neg hneg,run_typeInfo hi,if_neg hbig,Wy,Xj,Yf,if_neg hnr,if_neg hmax,if_neg υ,run_choose,hq,hc,run_askRoom,hold,happ,
   dC hi hz,newRow,Yl]
  have e:old.toArray++((List.range (m.toNat*z.cells.size)).map fun i=>z.cells[i % z.cells.size]!).toArray++Builtin.zeroCells z.cells (YL - (len+m.toNat))=
    (old++((List.range (m.toNat*z.cells.size)).map fun i=>z.cells[i % z.cells.size]!)++(Builtin.zeroCells z.cells (YL - (len+m.toNat))).toList).toArray:=by
   apply Array.ext';simp
  rw[e]
end
section
variable {ν:aP}{M:Own}{w0 w:World}{s s':SH}{E:Env}
theorem HR.Cd {w':World}(h:HR ν M w0 s w)(hr:s.room=true){o:SO}{r:Obj}{B:Nat}(c:Nat)
  (hB:w0.heap.size<=B\/M B) (hun:∀ j,j<2 ^ s.d->s.H.get j≠none->∀ b,ν j=some b->b.1≠B)
  (ho:OR (ν.put s.nx (B,c)) s.nx o r) (hw:w'.heap[B]?=some r) (hk:∀ k,k≠B->w'.heap[k]?=w.heap[k]?) (YX:w0.heap.size<=w'.heap.size)
  (hos:w'.os=w.os) (ht:w'.tape=w.tape) (hout:w'.output=w.output):
  ν.Le (ν.put s.nx (B,c))/\HR (ν.put s.nx (B,c)) M w0 (s.new o) w':=by
 have hnx:ν s.nx=none:=h.fresh _ (Wx _);have YD:s.nx<2 ^ s.d:=dw.1 hr;have hle:=aP.lY hnx (B,c);have Za:∀ j,j≠s.nx->(ν.put s.nx (B,c)) j=ν j:=fun j e=>by simp[aP.put,e]
 refine⟨hle,h.full.set _ _,?_,?_,?_,?_,YX,?_,?_,hos.trans h.os,ht.trans h.tape,hout.trans h.output⟩
 ·intro i hi;have hi:2 ^ s.d<=i:=hi;rw[Za i (by omega)];exact h.dom i hi
 ·intro i hi;have hi:s.nx+1<=i:=hi;rw[Za i (by omega)];exact h.fresh i (by omega)
 ·intro j hj y hy;have hj:j<2 ^ s.d:=hj;have hy:(s.H.set s.nx (some (o,true))).get j=some y:=hy;rw[Tr.dV h.full YD hj]at hy;by_cases e:j=s.nx
  ·subst e;rw[if_pos rfl]at hy;cases hy;exact⟨(B,c),r,aP.bO _ _ _,hw,ho,fun _=>hB⟩
  ·rw[if_neg e]at hy;obtain⟨b,o',hb,Zz,YK,YS⟩:=h.obj j hj y hy;have Yu:=hun j hj (by rw[hy];simp) b hb;exact⟨b,o',by rw[Za j e];exact hb,by rw[hk _ Yu];exact Zz,YK.mono hle,YS⟩
 ·intro i j hi hj hgi hgj b b' hb Yy e;have hi:i<2 ^ s.d:=hi;have hj:j<2 ^ s.d:=hj
  have g:∀ u,u<2 ^ s.d->u≠s.nx->(s.new o).H.get u≠none->s.H.get u≠none:=by
   intro u hu ne hn;have hn:(s.H.set s.nx (some (o,true))).get u≠none:=hn;rwa[Tr.dV h.full YD hu,if_neg ne]at hn
  by_cases ei:i=s.nx<;>by_cases ej:j=s.nx
  ·rw[ei,ej]
  ·subst ei;rw[aP.bO]at hb;cases hb;rw[Za j ej]at Yy;exact absurd e.symm (hun j hj (g j hj ej hgj) b' Yy)
  ·subst ej;rw[aP.bO]at Yy;cases Yy;rw[Za i ei]at hb;exact absurd e (hun i hi (g i hi ei hgi) b hb)
  ·rw[Za i ei]at hb;rw[Za j ej]at Yy;exact h.inj i j hi hj (g i hi ei hgi) (g j hj ej hgj) b b' hb Yy e
 ·intro b hb hM;by_cases e:b=B
  ·subst e;rcases hB with h1|h1
   ·omega
   ·exact absurd h1 hM
  ·rw[hk b e];exact h.frame b hb hM
 ·intro j hj y hy hf b hb;have hj:j<2 ^ s.d:=hj;have hy:(s.H.set s.nx (some (o,true))).get j=some y:=hy;rw[Tr.dV h.full YD hj]at hy;by_cases e:j=s.nx
  ·rw[if_pos e]at hy;cases hy;cases hf
  ·rw[if_neg e]at hy;rw[Za j e]at hb;exact h.ro j hj y hy hf b hb
theorem HR.move {w':World}(h:HR ν M w0 s w){i:Nat}{x:SO}(e:s.look i=some (x,true)){b:Nat × Nat}(hb:ν i=some b)(YB:(s.drop i).room=true){o:SO}{r:Obj}
  (ho:OR (ν.put s.nx b) s.nx o r) (hw:w'.heap=w.heap.setIfInBounds b.1 r) (hos:w'.os=w.os) (ht:w'.tape=w.tape) (hout:w'.output=w.output):
  ν.Le (ν.put s.nx b)/\HR (ν.put s.nx b) M w0 ((s.drop i).new o) w':=by
 obtain⟨hi,hg,b',o',Yy,Zz,_,YS⟩:=h.look e;obtain rfl:b=b':=by rw[hb]at Yy;exact Option.some.inj Yy
 have YD:b.1<w.heap.size:=(VY.1 Zz).1;refine (h.drop hi).Cd (w':=w') (B:=b.1) (r:=r) YB b.2 (YS rfl) ?_ ho (by rw[hw];simp[YD]) ?_ (by rw[hw];simpa using h.size) hos ht hout
 ·intro j hj hn c hc ec;have hn:(s.H.set i none).get j≠none:=hn;have hj:j<2 ^ s.d:=hj;rw[Tr.dV h.full hi hj]at hn;by_cases eji:j=i
  ·rw[if_pos eji]at hn;exact hn rfl
  ·rw[if_neg eji]at hn;exact eji (h.inj j i hj hi hn (by rw[hg];simp) c b hc hb ec)
 ·intro k hk;rw[hw,WO,if_neg (fun e=>hk e.symm)]
theorem o7 {st xt elem:TypeId}{info:TypeInfo}{base:Option Addr}{len cap n Zu:Nat}{yv:Value}{old new:List Value}{oldS wj:List SV}{y:SV}{ty:TypeId}
  (h:qG info elem oldS wj Zu s=some (y,s')) (hneed:Zu=len+n) (hr:HR ν M w0 s w)
  (A:k7 E st xt elem info n yv new w)
  (hold:∀ k,(Builtin.firstCells info.size len (.slice base len cap)).run E.P { w with drawn:=k }=.ok old.toArray { w with drawn:=k })
  (ho:au ν oldS old) (hnw:au ν wj new) (hol:old.length=len*info.size) (Zo:new.length=n*info.size) (YB:cap<len+n):
  (s'.ob=s.ob)/\c7 E.P (Builtin.append_ #[st,xt] ty #[.slice base len cap,yv]) ν M w0 w y s':=by
 unfold qG at h;cases hz:info.zero with
 | none=>rw[hz]at h;cases h
 | some z=>
 rw[hz]at h;simp only[WG,V9]at h;cases hg:fU (z.cells.size==info.size&&Nat.ble ((2*Zu+1024)*info.bytes) (2 ^ 47)&&!(info.bytes==0)) with
 | none=>rw[hg]at h;cases h
 | some u=>
 rw[hg]at h;simp only[V9]at h;have hg:=kj hg;rw[V6,V6]at hg;obtain⟨⟨g1,g2⟩,g3⟩:=hg;have g1:z.cells.size=info.size:=by simpa using g1
 have g2:=Wu g2;have g3:info.bytes≠0:=by simpa using g3
 subst hneed;obtain⟨YL,k,Y0,rest,hrest,Yt⟩:=A.grow (ty:=ty) hz g1 g3 hold YB g2;cases hnw':eW (.row (oldS++wj) elem (0,0) (some info.size)) s with
 | none=>rw[hnw']at h;cases h
 | some p=>
 obtain⟨i,s1⟩:=p;rw[hnw']at h;cases h;have hl:au ν (oldS++wj) (old++new):=ho.append hnw
 obtain⟨Yw,ν',hle,hi',YK⟩:=gw hnw' (hr.drawn k) YL (r:=.cells (old++new++rest).toArray elem)
  (fun ν' hle hi'=>⟨old++new,rest,rfl,hl.mono hle,by
   refine⟨by rw[<- hl.length];simp,_,hi',?_⟩;simp only[V7,hol,Zo,hrest];rw[<- XX,<- XX];congr 1;omega⟩)
 refine⟨Yw,ν',_,_,hle,Yt,VR.aL.2 ⟨_,hi',by simpa using Y0,by simp⟩,YK⟩
theorem uh {size n:Nat}{x:SV}{l:List SV}{y:Value}(h:hJ size n x s=some l)(hr:HR ν M w0 s w)(hv:VR ν x y):
  ∃ ys:List Value,(∀ k,(Builtin.firstCells size n y).run E.P { w with drawn:=k }=.ok ys.toArray { w with drawn:=k })/\au ν l ys:=by
 unfold hJ at h;split at h
 ·cases h;obtain rfl:=VR.ae.1 hv;exact⟨[],fun _=>rfl,au.nil⟩
 ·rename_i b;cases h;obtain rfl:=VR.ae.1 hv;refine⟨(b.extract 0 n).data.toList.map fun c=>.int .u8 c.toNat,fun k=>?_,?_⟩
  ·simp only[Builtin.firstCells,Wk];congr 1;apply Array.ext';simp
  ·have:=au.lits ν ((b.extract 0 n).data.toList.map fun c=>Value.int .u8 c.toNat);rwa[WI]at this
 ·obtain⟨b,_,rfl⟩:=VR.fu.1 hv;cases hn:(n==0)
  ·rw[hn]at h;cases h
  ·rw[hn]at h;cases h;obtain rfl:n=0:=by simpa using hn
   refine⟨[],fun k=>?_,au.nil⟩;simp[Builtin.firstCells,loadCells,loadCellsFrom]
 ·rename_i i off len cap;obtain⟨b,hb,_,rfl⟩:=VR.aL.1 hv;split at h
  ·rename_i xs e fz ext own hl;cases hle:Nat.ble (off+n*size) xs.length
   ·rw[hle]at h;cases h
   ·rw[hle]at h;cases h;have hle:=Wu hle;obtain⟨_,_,b',o,Yy,ho,YA,_⟩:=hr.look hl;rw[hb]at Yy;cases Yy;obtain⟨ys,rest,rfl,Zn,_⟩:=YA;have hlen:=Zn.length;refine⟨(ys.drop off).take (n*size),fun k=>?_,(Zn.drop off).take _⟩;refine run_loadCells ?_ (by simp;omega);intro k' hk;rw[cV (w:={ w with drawn:=k }) ho,WN,if_pos hk,W7];have:off+k'<ys.length:=by omega
    simp[WD this]
  ·cases h
 ·cases h
theorem uL {size n:Nat}{x:SV}{l:List SV}{m:Nat}(h:hJ size n x s=some l)(hx:∃ i off len cap,x=.sl i off len cap)(hm:m=n*size):l.length=m:=by
 obtain⟨i,off,len,cap,rfl⟩:=hx;unfold hJ at h;simp only at h;split at h
 ·rename_i xs e fz ext own hl;cases hle:Nat.ble (off+n*size) xs.length
  ·rw[hle]at h;cases h
  ·rw[hle]at h;cases h;have hle:=Wu hle;simp;omega
 ·cases h
theorem tg (ys:List Value)(off:Nat)(zs:List Value)(h:off+zs.length<=ys.length):dm ys off zs=ys.take off++zs++ys.drop (off+zs.length):=by
 induction zs generalizing ys off with
 | nil=>simp[dm]
 | cons z zs ih=>
  simp only[Wm]at h;rw[dm,ih _ _ (by simp;omega)]
  have h1:(ys.set off z).take (off+1)=ys.take off++[z]:=by
   rw[List.take_add_one,List.take_set_of_le (Wx _)];have:off<ys.length:=by omega
   simp[this]
  have h2:(ys.set off z).drop (off+1+zs.length)=ys.drop (off+(zs.length+1)):=by
   rw[List.drop_set_of_lt (by omega)];congr 1;omega
  rw[h1,h2];simp
theorem yG {info:TypeInfo}{elem:TypeId}{old new:List SV}{Zu:Nat}{z:SV}(h:qG info elem old new Zu s=some (z,s')):s'.ob=s.ob:=by
 unfold qG at h;cases hz:info.zero with
 | none=>rw[hz]at h;cases h
 | some zz=>
  rw[hz]at h;simp only[WG,V9]at h;cases hg:fU (zz.cells.size==info.size&&Nat.ble ((2*Zu+1024)*info.bytes) (2 ^ 47)&&!(info.bytes==0)) with
  | none=>rw[hg]at h;cases h
  | some u=>
   rw[hg]at h;simp only[V9]at h;unfold eW at h;cases YB:s.room
   ·rw[YB]at h;cases h
   ·rw[YB]at h;cases h;rfl
theorem xp {st xt elem:TypeId}{info:TypeInfo}{y:SV}{yv:Value}{n:Nat}{new:List SV}(h:mo E xt info y s=some (n,new))(Ze:bR E st=some (.slice elem))(hi:bT E elem=some info)
  (hr:HR ν M w0 s w) (hy:VR ν y yv):∃ nv,k7 E st xt elem info n yv nv w/\au ν new nv/\nv.length=n*info.size:=by
 unfold mo at h;split at h
 ·rename_i ik hxt;split at h
  ·rename_i k m;obtain rfl:=VR.ae.1 hy;cases hb:(decide (0<=m/\m<=2 ^ 40)&&Nat.ble (m.toNat*info.bytes) (2 ^ 47))
   ·rw[hb]at h;cases h
   ·rw[hb]at h;simp only[WE]at h;rw[V6]at hb;cases hz:qV info m.toNat with
    | none=>rw[hz]at h;cases h
    | some l=>
    rw[hz]at h;cases h;obtain⟨z,hz1,hz2,hv⟩:=zg (ν:=ν) hz;rw[<- hz2]at hv;exact⟨_,k7.qV Ze hxt hi hz1 hz2 (Ws hb.1) (Wu hb.2),hv,by simp[hz2]⟩
  ·cases h
 ·rename_i d hdd hxt;have hd:∀ k,d≠.int k:=fun k e=>hdd k e;obtain⟨n',hn,h⟩:=Wi.1 h;obtain⟨new',ZO,h⟩:=Wi.1 h;cases hg:(new'.length==n'*info.size)
  ·rw[hg]at h;cases h
  ·rw[hg]at h;cases h;obtain⟨nv,hnv,hnr⟩:=uh (E:=E) ZO hr hy;exact⟨nv,k7.of Ze hxt hd hi (B9 (w:=w) (E:=E) hn hy) hnv,hnr,by rw[hnr.length];simpa using hg⟩
 ·cases h
theorem zQ {st xt:TypeId}{x y z:SV}{xv yv:Value}{ty:TypeId}(h:sN E st xt x y s=some (z,s'))(hr:HR ν M w0 s w)(hx:VR ν x xv)(hy:VR ν y yv):
  s'.ob->s.ob/\c7 E.P (Builtin.append_ #[st,xt] ty #[xv,yv]) ν M w0 w z s':=by
 unfold sN at h;split at h
 ·rename_i elem Ze;cases hi:bT E elem with
  | none=>rw[hi]at h;cases h
  | some info=>
  rw[hi]at h;simp only[WG,V9]at h;cases hap:mo E xt info y s with
  | none=>rw[hap]at h;cases h
  | some q=>
  obtain⟨n,new⟩:=q;rw[hap]at h;simp only[V9]at h;obtain⟨nv,A,hnr,hnvl⟩:=xp (st:=st) (elem:=elem) hap Ze hi hr hy;have Zo:new.length=n*info.size:=by rw[<- hnr.length,hnvl]
  split at h
  ·-- nil
   obtain rfl:=VR.ae.1 hx;cases Y8:s.dec E (decide (n=0)) with
   | mk e s1=>
   rw[Y8]at h;obtain⟨Ys,Yw⟩:=SH.fZ Y8;cases e
   ·simp only[W5]at h;intro ob;rw[yG h]at ob;have h0:n≠0:=Xr (Yw ob).2;exact⟨(Yw ob).1,(o7 (ty:=ty) (len:=0) (old:=[]) h (by omega) (hr.same Ys) A (fun k=>rfl) au.nil hnr (by simp) hnvl (by omega)).2⟩
   ·simp only[WE]at h;cases h;refine fun ob=>⟨(Yw ob).1,?_⟩;have h0:=Ws (Yw ob).2;subst h0;refine c7.now (hr.same Ys) ?_ (VR.ae.2 rfl);exact A.room (w':=w) (base:=none) (len:=0) (cap:=0) (by omega) rfl
  ·-- a slice whose room is told
   rename_i i off len cap;obtain⟨c,hc,hlen,rfl⟩:=VR.aL.1 hx;simp only[WR]at hlen;cases Y8:s.dec E (decide (len+n<=cap)) with
   | mk e s1=>
   rw[Y8]at h;obtain⟨Ys,Yw⟩:=SH.fZ Y8;cases e
   ·simp only[W5]at h;cases hold:hJ info.size len (.sl i off len (some cap)) s1 with
    | none=>rw[hold]at h;cases h
    | some old=>
    rw[hold]at h;simp only[V9]at h;intro ob;rw[yG h]at ob;have h0:¬ len+n<=cap:=Xr (Yw ob).2;obtain⟨ov,hov,YA⟩:=uh (E:=E) hold (hr.same Ys) hx;have hol:=uL hold ⟨_,_,_,_,rfl⟩ rfl;exact⟨(Yw ob).1,(o7 (ty:=ty) h rfl (hr.same Ys) A hov YA hnr (by rw[YA.length,hol]) hnvl (by simp only[WR];omega)).2⟩
   ·simp only[WE]at h;split at h
    ·rename_i xs el fz ext hl;cases YW:(Nat.ble (off+len*info.size+new.length) xs.length&&nY fz (off+len*info.size) new.length&&new.all SV.flat)
     ·rw[YW]at h;cases h
     ·rw[YW]at h;cases h;rw[V6,V6]at YW;intro ob;have ob:s1.ob:=ob;have h0:=Ws (Yw ob).2;obtain⟨w',Yt,YK⟩:=(hr.same Ys).spliced (E:=E) hl hc hnr (Wu YW.1.1) YW.1.2 YW.2;refine⟨(Yw ob).1,ν,w',_,aP.Le.refl _,A.room (w':=w') (by simp only[WR];exact h0) ?_,VR.aL.2 ⟨c,hc,?_,rfl⟩,YK⟩
      ·simp only[di];exact Yt
      ·simp only[WR];exact h0
    ·cases h
  ·-- a slice whose room is not told
   rename_i i len;obtain⟨c,hc,hlen,rfl⟩:=VR.aL.1 hx;simp only[W1]at hlen;cases Y8:s.dec E (decide (n=0)) with
   | mk e s1=>
   rw[Y8]at h;obtain⟨Ys,Yw⟩:=SH.fZ Y8;cases e
   ·simp only[W5]at h;split at h
    ·rename_i xs el es hl;cases YW:((es==info.size&&!(info.size==0))&&Nat.ble (len*info.size) xs.length&&new.all SV.flat&&el==elem)
     ·rw[YW]at h;cases h
     rw[YW]at h;rw[V6,V6,V6,V6]at YW;obtain⟨⟨⟨⟨h1,g4⟩,h2⟩,h3⟩,h4⟩:=YW;have g4:info.size≠0:=by simpa using g4
     obtain rfl:es=info.size:=by simpa using h1
     obtain rfl:el=elem:=by simpa using h4
     have h2:=Wu h2;simp only[WE]at h;have ZE:=hr.same Ys;obtain⟨_,_,b',o,Yy,ho,YA,_⟩:=ZE.look hl;rw[hc]at Yy;cases Yy;obtain⟨ys,rest,rfl,Zn,hxle,b'',hb'',hsize⟩:=YA;rw[hc]at hb'';cases hb'';cases Z6:Nat.ble ((len+n)*info.size) xs.length
     ·rw[Z6]at h;simp only[W5]at h;cases hz:info.zero with
      | none=>rw[hz]at h;cases h
      | some zz=>
      rw[hz]at h;simp only[V9]at h;cases hg2:fU (zz.cells.size==info.size&&Nat.ble ((2*(len+n)+1024)*info.bytes) (2 ^ 47)&&!(info.bytes==0)) with
      | none=>rw[hg2]at h;cases h
      | some u=>
      rw[hg2]at h;simp only[V9]at h;have hg2:=kj hg2;rw[V6,V6]at hg2;obtain⟨⟨g1,g2⟩,g3⟩:=hg2;have g1:zz.cells.size=info.size:=by simpa using g1
      have g2:=Wu g2;have g3:info.bytes≠0:=by simpa using g3
      unfold eW at h;cases YB:(s1.drop i).room
      ·rw[YB]at h;cases h
      rw[YB]at h;cases h;intro ob;have ob:s1.ob:=ob;have h0:n≠0:=Xr (Yw ob).2;refine⟨(Yw ob).1,?_⟩;have hylen:=Zn.length
      have holdv:∀ k,(Builtin.firstCells info.size len (.slice (some ⟨c.1,0,none⟩) len c.2)).run E.P { w with drawn:=k }=.ok (ys.take (len*info.size)).toArray { w with drawn:=k }:=by
       intro k;refine run_loadCells ?_ (by simp;omega);intro k' hk;rw[cV (w:={ w with drawn:=k }) ho,WN,if_pos hk];have:0+k'<ys.length:=by omega
       simp[WD this];simp at this;rw[WD this]
      by_cases θ:len+n<=c.2
      ·-- in place
       have Y0:(len+n)*info.size<=(ys++rest).length:=by rw[hsize];exact Xw _ θ
       have hmul:(len+n)*info.size=len*info.size+n*info.size:=XX _ _ _
       have Yt:=jo (P:=E.P) (b:=c.1) (off:=len*info.size) (e:=el) (fz:=(0,0)) nv 0 w (ys++rest) ho (hnr.flat h3) (by omega) (by
        intro k _ _;simp)
       rw[X6]at Yt
       have hspl:dm (ys++rest) (len*info.size) nv=(ys.take (len*info.size)++nv)++(ys++rest).drop (len*info.size+n*info.size):=by
        rw[tg _ _ _ (by omega),hnvl];rw[XP (by omega)]
       obtain⟨hle,YK⟩:=ZE.move (w':={ w with heap:=w.heap.setIfInBounds c.1 (.cells (dm (ys++rest) (len*info.size) nv).toArray el (0,0)) }) hl hc YB
        (o:=.row (xs.take (len*info.size)++new) el (0,0) (some info.size)) (r:=.cells (dm (ys++rest) (len*info.size) nv).toArray el (0,0))
        ⟨ys.take (len*info.size)++nv,(ys++rest).drop (len*info.size+n*info.size),by rw[l7,hspl],((Zn.take _).append hnr).mono (aP.lY (ZE.fresh _ (Wx _)) c),by
         refine⟨?_,c,aP.bO _ _ _,?_⟩
         ·simp;omega
         ·rw[<- hspl,jn,hsize]⟩ rfl rfl rfl rfl
       refine⟨_,_,_,hle,A.room (by simp only[W1];exact θ) (by simp only[di,W8];exact Yt),VR.aL.2 ⟨c,aP.bO _ _ _,by simp only[W1];exact θ,rfl⟩,YK⟩
      ·-- a new row
       obtain⟨YL,k,Y0,rest',hrest',Yt⟩:=A.grow (ty:=ty) hz g1 g3 holdv (by omega) g2;have hi':i<2 ^ s1.d:=(ZE.look hl).1;have hl2:=(Zn.take (len*info.size)).append hnr;have htk:(ys.take (len*info.size)).length=len*info.size:=by simp;omega
       have hnx:ν s1.nx=none:=ZE.fresh _ (Wx _);have hle:=aP.lY hnx (w.heap.size,YL)
       obtain⟨_,YK⟩:=((ZE.drop hi').drawn k).new (w':={ w with drawn:=k,heap:=w.heap.push (.cells (ys.take (len*info.size)++nv++rest').toArray el) }) YB YL
        (o:=.row (xs.take (len*info.size)++new) el (0,0) (some info.size)) (r:=.cells (ys.take (len*info.size)++nv++rest').toArray el)
        ⟨ys.take (len*info.size)++nv,rest',rfl,hl2.mono hle,by
         refine⟨?_,_,aP.bO _ _ _,?_⟩
         ·rw[<- hl2.length];simp
         ·simp only[V7,htk,hnvl,hrest'];rw[<- XX,<- XX];congr 1;omega⟩ rfl rfl rfl rfl
       refine⟨_,_,_,hle,Yt,VR.aL.2 ⟨_,aP.bO _ _ _,by simpa using Y0,rfl⟩,YK⟩
     ·rw[Z6]at h;simp only[WE]at h;cases h;intro ob;have ob:s1.ob:=ob;have Z6:=Wu Z6;refine⟨(Yw ob).1,?_⟩;have hmul:(len+n)*info.size=len*info.size+n*info.size:=XX _ _ _;obtain⟨w',Yt,YK⟩:=ZE.spliced (E:=E) hl hc hnr (off:=len*info.size) (by omega) (by simp[nY,Nat.ble]) h3
      have θ:len+n<=c.2:=by
       have h5:(len+n)*info.size<=c.2*info.size:=by rw[<- hsize];omega
       exact Nat.le_of_mul_le_mul_right h5 (by omega)
      exact⟨ν,w',_,aP.Le.refl _,A.room (by simp only[W1];exact θ) (by simp only[di,W8];exact Yt),VR.aL.2 ⟨c,hc,by simp only[W1];exact θ,rfl⟩,YK⟩
    ·cases h
   ·simp only[WE]at h;cases h;refine fun ob=>⟨(Yw ob).1,?_⟩;have h0:=Ws (Yw ob).2;subst h0;obtain rfl:nv=[]:=Wd.1 (by rw[hnvl];simp);refine c7.now (hr.same Ys) ?_ hx;exact A.room (w':=w) (by simp only[W1];omega) (by simp[storeCells])
  ·cases h
 ·cases h
theorem vQ {info:TypeInfo}{elem:TypeId}{old new:List SV}{Zu:Nat}{z:Value}(hz:info.zero=some z)(h1:z.cells.size=info.size)(h2:(2*Zu+1024)*info.bytes<=2 ^ 47)(h3:info.bytes≠0):
  qG info elem old new Zu s=lT info elem old new Zu s:=by
 have hg:fU (z.cells.size==info.size&&Nat.ble ((2*Zu+1024)*info.bytes) (2 ^ 47)&&!(info.bytes==0))=some ():=by
  have e1:(z.cells.size==info.size)=true:=by simpa using h1
  have e2:Nat.ble ((2*Zu+1024)*info.bytes) (2 ^ 47)=true:=by rw[Nat.ble_eq];exact h2
  have e3:(info.bytes==0)=false:=by simpa using h3
  rw[e1,e2,e3];rfl
 unfold qG lT;rw[hz];simp only[WG,V9,hg];cases eW (.row (old++new) elem (0,0) (some info.size)) s<;>rfl
theorem pX {info:TypeInfo}{elem:TypeId}{old new:List SV}{Zu:Nat}{z:SV}(h:lT info elem old new Zu s=some (z,s')):s'.ob=s.ob:=by
 unfold lT eW at h;cases YB:s.room
 ·rw[YB]at h;cases h
 ·rw[YB]at h;cases h;rfl
theorem nD {i:Nat}{xs l:List SV}(h:(s.look i).bind (·.1.told)=some xs)(hr:HR ν M w0 s w){b:Nat × Nat}(hb:ν i=some b){off n:Nat}(hl:(xs.drop off).take n=l)(hn:l.length=n):
  ∃ ys:List Value,(∀ k,(loadCells ⟨b.1,off,none⟩ n).run E.P { w with drawn:=k }=.ok ys.toArray { w with drawn:=k })/\au ν l ys/\ys.length=n:=by
 obtain⟨ys,c,e,fz,ho,Zn,hc⟩:=C6 h hr hb;have hv:=(Zn.drop off).take n;rw[hl]at hv;have hlen:((ys.drop off).take n).length=n:=by rw[hv.length,hn]
 refine⟨(ys.drop off).take n,fun k=>run_loadCells ?_ hlen,hv,hlen⟩;intro k' hk;have Zy:k'<((ys.drop off).take n).length:=by omega
 rw[cV (w:={ w with drawn:=k }) ho,V4 Zy];refine hc _ _ ?_;rw[<- V4 Zy,WN,if_pos hk,W7]
theorem je {st xt elem:TypeId}{info:TypeInfo}{y:SV}{yv:Value}{new:List SV}{q:Nat × Prop}(h:mw E xt info y new s=some q)(hq:q.2)(hn:new.length=q.1*info.size)
  (Ze:bR E st=some (.slice elem)) (hi:bT E elem=some info) (hr:HR ν M w0 s w) (hy:VR ν y yv):∃ nv,k7 E st xt elem info q.1 yv nv w/\au ν new nv/\nv.length=q.1*info.size:=by
 unfold mw at h;split at h
 ·cases h
 ·rename_i d hdd hxt;have hd:∀ k,d≠.int k:=fun k e=>hdd k e;split at h
  ·rename_i b;cases h;obtain rfl:=VR.ae.1 hy;have hq:(b.data.toList.map fun c=>SV.v (.int .u8 c.toNat))=new:=hq;subst hq
   have hv:au ν (b.data.toList.map fun c=>SV.v (.int .u8 c.toNat)) (b.data.toList.map fun c=>Value.int .u8 c.toNat):=by
    have:=au.lits ν (b.data.toList.map fun c=>Value.int .u8 c.toNat);rwa[WI]at this
   refine⟨b.data.toList.map fun c=>.int .u8 c.toNat,k7.of Ze hxt hd hi rfl (fun k=>?_),hv,by rw[hv.length.trans rfl];exact hn⟩;simp only[Builtin.firstCells,Wk];congr 1;have e:b.extract 0 b.size=b:=by simp
   rw[e];apply Array.ext';simp
  ·rename_i m c;cases h;obtain rfl:=VR.ae.1 hy;have hq:[]=new:=hq;subst hq;exact⟨[],k7.of Ze hxt hd hi rfl (fun k=>rfl),au.nil,hn⟩
  ·rename_i i off len cap;obtain⟨xs,ZV,h⟩:=Wg.1 h;cases h;obtain⟨b,hb,_,rfl⟩:=VR.aL.1 hy;obtain⟨nv,Yt,hv,hlen⟩:=nD (E:=E) ZV hr hb hq hn;exact⟨nv,k7.of Ze hxt hd hi rfl Yt,hv,hlen⟩
  ·cases h
 ·cases h
theorem y9 {st xt:TypeId}{x y z:SV}{xv yv:Value}{ty:TypeId}(h:ui E st xt x y s=some (z,s'))(hr:HR ν M w0 s w)(hx:VR ν x xv)(hy:VR ν y yv):
  s'.ob->s.ob/\c7 E.P (Builtin.append_ #[st,xt] ty #[xv,yv]) ν M w0 w z s':=by
 unfold ui at h;split at h
 ·rename_i elem Ze;obtain⟨info,hi,h⟩:=Wi.1 h;obtain⟨q,hq,h⟩:=Wi.1 h
  have key:(∃ base len cap,xv=.slice base len cap/\len<=cap)->some (x,s.jh (q.2/\q.1=0))=some (z,s')->s'.ob->s.ob/\c7 E.P (Builtin.append_ #[st,xt] ty #[xv,yv]) ν M w0 w z s':=by
   rintro ⟨base,len,cap,rfl,ZF⟩ h ob
   cases h;obtain⟨YG,hp,h0⟩:=ob;obtain⟨nv,A,hv,hlen⟩:=je (st:=st) (elem:=elem) hq hp (by simp[h0]) Ze hi hr hy;rw[h0]at A;obtain rfl:=hv.ay;refine⟨YG,c7.now (hr.same (SH.cn _ _)) ?_ hx⟩;have:=A.room (w':=w) (base:=base) (len:=len) (cap:=cap) (ty:=ty) (by omega) (by cases base<;>simp[storeCells]);simpa using this
  split at h
  ·refine key ?_ h;obtain rfl:=VR.ae.1 hx;exact⟨none,0,0,rfl,Wx _⟩
  ·refine key ?_ h;obtain⟨b,_,hl,rfl⟩:=VR.aL.1 hx;exact⟨_,_,_,rfl,hl⟩
  ·cases h
 ·cases h
theorem yT {st xt:TypeId}{x y z:SV}{old new:List SV}{xv yv:Value}{ty:TypeId}(h:uk E st xt x y old new s=some (z,s'))(hr:HR ν M w0 s w)(hx:VR ν x xv)(hy:VR ν y yv):
  s'.ob->s.ob/\c7 E.P (Builtin.append_ #[st,xt] ty #[xv,yv]) ν M w0 w z s':=by
 unfold uk at h;split at h
 ·rename_i elem Ze;obtain⟨info,hi,h⟩:=Wi.1 h;obtain⟨zz,hz,h⟩:=Wi.1 h;obtain⟨q,hq,h⟩:=Wi.1 h;obtain⟨n,p⟩:=q;dsimp only at h;cases hb:(zz.cells.size==info.size&&!(info.bytes==0)&&!(info.size==0))
  ·rw[hb]at h;cases h
  rw[hb]at h;simp only[WE]at h;rw[V6,V6]at hb;obtain⟨⟨g1,g3⟩,g4⟩:=hb;have g1:zz.cells.size=info.size:=by simpa using g1
  have g3:info.bytes≠0:=by simpa using g3
  have g4:info.size≠0:=by simpa using g4
  split at h
  ·-- nil
   obtain rfl:=VR.ae.1 hx;intro ob;rw[pX h]at ob;obtain⟨YG,⟨⟨hp,Zo⟩,hn0,hlim⟩,_⟩:=ob;obtain⟨nv,A,hv,hlen⟩:=je (st:=st) (elem:=elem) hq hp Zo Ze hi hr hy;dsimp only at A hlen hn0 hlim;rw[<- vQ hz g1 hlim g3]at h;exact⟨YG,(o7 (ty:=ty) (len:=0) (old:=[]) h (by omega) (hr.same (SH.cn _ _)) A (fun k=>rfl) au.nil hv (by simp) hlen (by omega)).2⟩
  ·-- a slice whose room is told
   obtain⟨xs,ZV,h⟩:=Wi.1 h;obtain⟨c,hc,ZF,rfl⟩:=VR.aL.1 hx;intro ob;rw[pX h]at ob;obtain⟨YG,⟨⟨hp,Zo⟩,hn0,hlim⟩,hold,holen,Y0⟩:=ob;obtain⟨nv,A,hv,hlen⟩:=je (st:=st) (elem:=elem) hq hp Zo Ze hi hr hy;dsimp only at A hlen hn0 hlim Y0;obtain⟨ov,Yt,hov,hovl⟩:=nD (E:=E) ZV hr hc hold holen;rw[<- vQ hz g1 hlim g3]at h;exact⟨YG,(o7 (ty:=ty) h rfl (hr.same (SH.cn _ _)) A (fun k=>by rw[show Builtin.firstCells info.size _ (.slice (some _) _ _)=loadCells _ _ from rfl];exact Yt k) hov hv hovl hlen (by simpa using Y0)).2⟩
  ·-- a slice whose room is not told
   rename_i i len _ _ _;split at h
   ·rename_i xs el es hl;cases YW:(es==info.size&&el==elem)
    ·rw[YW]at h;cases h
    rw[YW]at h;simp only[WE]at h;rw[V6]at YW;obtain rfl:es=info.size:=by simpa using YW.1
    obtain rfl:el=elem:=by simpa using YW.2
    obtain⟨c,hc,hlen0,rfl⟩:=VR.aL.1 hx;simp only[W1]at hlen0;intro ob;have Yw:=pX h;rw[Yw]at ob;obtain⟨YG,⟨⟨hp,Zo⟩,hn0,hlim⟩,hold,holen,h3⟩:=(show (s.jh _).ob from ob);obtain⟨nv,A,hnr,hnvl⟩:=je (st:=st) (elem:=el) hq hp Zo Ze hi hr hy;dsimp only at A hnvl hn0 hlim;refine⟨YG,?_⟩;generalize hs1:s.jh (((p/\new.length=n*info.size)/\n≠0/\(2*(len+n)+1024)*info.bytes<=2 ^ 47)/\xs.take (len*info.size)=old/\old.length=len*info.size/\new.all SV.flat=true)=s1 at h;have Ys:s.dD s1:=hs1 ▸ SH.cn _ _;have ZE:=hr.same Ys;have hl1:s1.look i=some (.row xs el (0,0) (some info.size),true):=by rw[Ys.look];exact hl
    unfold lT eW at h;cases YB:(s1.drop i).room
    ·rw[YB]at h;cases h
    rw[YB]at h;cases h;obtain⟨_,_,b',o,Yy,ho,YA,_⟩:=ZE.look hl1;rw[hc]at Yy;cases Yy;obtain⟨ys,rest,rfl,Zn,hxle,b'',hb'',hsize⟩:=YA;rw[hc]at hb'';cases hb'';have hylen:=Zn.length
    have h2:len*info.size<=xs.length:=by
     have:=congrArg List.length hold;rw[holen,WX]at this;omega
    subst hold
    have holdv:∀ k,(Builtin.firstCells info.size len (.slice (some ⟨c.1,0,none⟩) len c.2)).run E.P { w with drawn:=k }=.ok (ys.take (len*info.size)).toArray { w with drawn:=k }:=by
     intro k;refine run_loadCells ?_ (by simp;omega);intro k' hk;rw[cV (w:={ w with drawn:=k }) ho,WN,if_pos hk];have:0+k'<ys.length:=by omega
     simp[WD this];simp at this;rw[WD this]
    by_cases θ:len+n<=c.2
    ·-- in place
     have Y0:(len+n)*info.size<=(ys++rest).length:=by rw[hsize];exact Xw _ θ
     have hmul:(len+n)*info.size=len*info.size+n*info.size:=XX _ _ _
     have Yt:=jo (P:=E.P) (b:=c.1) (off:=len*info.size) (e:=el) (fz:=(0,0)) nv 0 w (ys++rest) ho (hnr.flat h3) (by omega) (by
      intro k _ _;simp)
     rw[X6]at Yt
     have hspl:dm (ys++rest) (len*info.size) nv=(ys.take (len*info.size)++nv)++(ys++rest).drop (len*info.size+n*info.size):=by
      rw[tg _ _ _ (by omega),hnvl];rw[XP (by omega)]
     obtain⟨hle,YK⟩:=ZE.move (w':={ w with heap:=w.heap.setIfInBounds c.1 (.cells (dm (ys++rest) (len*info.size) nv).toArray el (0,0)) }) hl1 hc YB
      (o:=.row (xs.take (len*info.size)++new) el (0,0) (some info.size)) (r:=.cells (dm (ys++rest) (len*info.size) nv).toArray el (0,0))
      ⟨ys.take (len*info.size)++nv,(ys++rest).drop (len*info.size+n*info.size),by rw[l7,hspl],((Zn.take _).append hnr).mono (aP.lY (ZE.fresh _ (Wx _)) c),by
       refine⟨?_,c,aP.bO _ _ _,?_⟩
       ·simp;omega
       ·rw[<- hspl,jn,hsize]⟩ rfl rfl rfl rfl
     refine⟨_,_,_,hle,A.room (by simp only[W1];exact θ) (by simp only[di,W8];exact Yt),VR.aL.2 ⟨c,aP.bO _ _ _,by simp only[W1];exact θ,rfl⟩,YK⟩
    ·-- a new row
     obtain⟨YL,k,Y0,rest',hrest',Yt⟩:=A.grow (ty:=ty) hz g1 g3 holdv (by omega) hlim;have hi':i<2 ^ s1.d:=(ZE.look hl1).1;have hl2:=(Zn.take (len*info.size)).append hnr;have htk:(ys.take (len*info.size)).length=len*info.size:=by simp;omega
     have hnx:ν s1.nx=none:=ZE.fresh _ (Wx _);have hle:=aP.lY hnx (w.heap.size,YL)
     obtain⟨_,YK⟩:=((ZE.drop hi').drawn k).new (w':={ w with drawn:=k,heap:=w.heap.push (.cells (ys.take (len*info.size)++nv++rest').toArray el) }) YB YL
      (o:=.row (xs.take (len*info.size)++new) el (0,0) (some info.size)) (r:=.cells (ys.take (len*info.size)++nv++rest').toArray el)
      ⟨ys.take (len*info.size)++nv,rest',rfl,hl2.mono hle,by
       refine⟨?_,_,aP.bO _ _ _,?_⟩
       ·rw[<- hl2.length];simp
       ·simp only[V7,htk,hnvl,hrest'];rw[<- XX,<- XX];congr 1;omega⟩ rfl rfl rfl rfl
     refine⟨_,_,_,hle,Yt,VR.aL.2 ⟨_,aP.bO _ _ _,by simpa using Y0,rfl⟩,YK⟩
   ·cases h
  ·cases h
 ·cases h
theorem Ah {st xt:TypeId}{x y z:SV}{xv yv:Value}{ty:TypeId}(h:xe E st xt x y s=some (z,s'))(hr:HR ν M w0 s w)(hx:VR ν x xv)(hy:VR ν y yv):
  s'.ob->s.ob/\c7 E.P (Builtin.append_ #[st,xt] ty #[xv,yv]) ν M w0 w z s':=by
 unfold xe at h;split at h
 ·exact yT h hr hx hy
 ·exact y9 h hr hx hy
 ·exact zQ h hr hx hy
end
section
variable {ν:aP}{M:Own}{w0 w:World}{s s':SH}{E:Env}
theorem E6 {dt:TypeId}{rest:List TypeId}{x y z:SV}{xv yv:Value}{ty:TypeId}(h:HM E dt x y s=some (z,s'))(hr:HR ν M w0 s w)(hx:VR ν x xv)(hy:VR ν y yv):
  s'.ob=s.ob/\c7 E.P (Builtin.copy_ (dt::rest).toArray ty #[xv,yv]) ν M w0 w z s':=by
 have a0:((dt::rest).toArray:Array TypeId)[0]?=some dt:=by simp
 have b0:(#[xv,yv]:Array Value)[0]?=some xv:=rfl;have b1:(#[xv,yv]:Array Value)[1]?=some yv:=rfl;unfold HM at h;split at h
 ·rename_i elem hd;cases hi:bT E elem with
  | none=>rw[hi]at h;cases h
  | some info=>
  rw[hi]at h;simp only[WG,V9]at h;cases hm:Fl y with
  | none=>rw[hm]at h;cases h
  | some m=>
  rw[hm]at h;simp only[V9]at h;have hrn:=B9 (w:=w) (E:=E) hm hy;split at h
  ·cases hf:hJ info.size (Nat.min m 0) y s with
   | none=>rw[hf]at h;cases h
   | some l=>
   rw[hf]at h;cases h;obtain rfl:=VR.ae.1 hx;obtain⟨ys,ZQ,_⟩:=va (E:=E) hf hr hy;refine⟨rfl,c7.now hr ?_ (VR.ae.2 rfl)⟩;simp only[Builtin.copy_,a0,b0,b1,Wf,run_underlying hd,V3,hrn,run_sizeOf hi,ZQ];simp[goInt]
  ·rename_i i off len cap;obtain⟨b,hb,_,rfl⟩:=VR.aL.1 hx;cases hf:hJ info.size (Nat.min m len) y s with
   | none=>rw[hf]at h;cases h
   | some l=>
   rw[hf]at h;simp only[V9]at h;obtain⟨ys,ZQ,hv⟩:=va (E:=E) hf hr hy;split at h
   ·rename_i xs e fz ext hl;cases hc:(Nat.ble (off+l.length) xs.length&&nY fz off l.length&&l.all SV.flat)
    ·rw[hc]at h;cases h
    ·rw[hc]at h;cases h;rw[V6,V6]at hc;obtain⟨w',Yt,YK⟩:=hr.spliced (E:=E) hl hb hv (Wu hc.1.1) hc.1.2 hc.2;refine⟨rfl,ν,w',_,aP.Le.refl _,?_,VR.ae.2 rfl,YK⟩;simp only[Builtin.copy_,a0,b0,b1,Wf,run_underlying hd,V3,hrn,run_sizeOf hi,ZQ,XM,Yt,Wk,goInt]
   ·cases h
  ·cases h
 ·cases h
theorem cL (x y:ByteArray):(x==y)=true↔x=y:=by
 cases x with|mk a=>cases y with|mk b=>
 have:((⟨a⟩:ByteArray)==⟨b⟩)=(a==b):=rfl;rw[this];simp
inductive Keyed:TypeDesc->Prop
 | int (k:IntKind):Keyed (.int k)
 | string:Keyed .string
 | bool:Keyed .bool
theorem nB {t:TypeId}{kd:TypeDesc}(h:jP E t=some kd):bR E t=some kd/\Keyed kd:=by
 unfold jP at h;split at h
 ·cases h;rename_i k hk;exact⟨hk,.int k⟩
 ·cases h;rename_i hk;exact⟨hk,.string⟩
 ·cases h;rename_i hk;exact⟨hk,.bool⟩
 ·cases h
theorem run_checkKey {t:TypeId}{kd:TypeDesc}(h:bR E t=some kd)(hk:Keyed kd)(e:Bool)(v:Value):(Instr.checkKey e 10000 t v).run E.P w=.ok () w:=by
 rw[show (10000:Nat)=9999+1 from rfl,Instr.checkKey];simp only[Wf,run_underlying h,V3];cases hk<;>cases v<;>rfl
theorem ya {kd:TypeDesc}{k k':SV}{kv kv':Value}{t:Bool}(h:yp E kd k k' s=some (t,s'))(hk:VR ν k kv)(hk':VR ν k' kv'):
  s.dD s'/\(s'.ob->s.ob/\Instr.sameNow kd kv kv'=some t/\(t=true->∀ n,Instr.sameBits (n+1) kv' kv=true)):=by
 unfold yp at h;split at h
 ·rename_i kk a x b y;obtain rfl:=VR.ae.1 hk;obtain rfl:=VR.ae.1 hk';cases hab:(a==b)
  ·rw[hab]at h;cases h
  ·rw[hab]at h;obtain rfl:a=b:=by simpa using hab
   simp only[WE,Option.some.injEq]at h;obtain⟨Ys,Yw⟩:=SH.fZ h;refine⟨Ys,fun ob=>⟨(Yw ob).1,?_,?_⟩⟩
   ·simp[Instr.sameNow,(Yw ob).2]
   ·intro ht n;have:=(Yw ob).2;rw[ht]at this;have hxy:x=y:=by simpa using this
    simp[Instr.sameBits,hxy]
 ·rename_i x y;obtain rfl:=VR.ae.1 hk;obtain rfl:=VR.ae.1 hk';simp only[Option.some.injEq]at h;obtain⟨Ys,Yw⟩:=SH.fZ h;refine⟨Ys,fun ob=>⟨(Yw ob).1,?_,?_⟩⟩
  ·simp[Instr.sameNow,(Yw ob).2]
  ·intro ht n;have:=(Yw ob).2;rw[ht]at this;have hxy:x=y:=(cL x y).1 this;subst hxy;simp only[Instr.sameBits];exact (cL x x).2 rfl
 ·rename_i x y;obtain rfl:=VR.ae.1 hk;obtain rfl:=VR.ae.1 hk';simp only[Option.some.injEq]at h;obtain⟨Ys,Yw⟩:=SH.fZ h;refine⟨Ys,fun ob=>⟨(Yw ob).1,?_,?_⟩⟩
  ·simp[Instr.sameNow,(Yw ob).2]
  ·intro ht n;have:=(Yw ob).2;rw[ht]at this;have hxy:x=y:=by simpa using this
   simp[Instr.sameBits,hxy]
 ·cases h
theorem E8 {kd:TypeDesc}{k:SV}{kv:Value}(hk:VR ν k kv):∀ {es:List (SV × SV × Nat)} {l:List MapEntry} {i:Nat} {s s':SH} {r:Option (Nat × SV × Nat)},
  tB E kd k es i s=some (r,s')->eI ν es l->
  s.dD s'/\(s'.ob->s.ob/\match r with
   | none=>Instr.findNow kd kv l i=some none
   | some (j,x,born)=>i<=j/\∃ e,l[j - i]?=some e/\VR ν x e.val/\e.born=born/\Instr.findNow kd kv l i=some (some (j,e.val))/\∀ n,Instr.sameBits (n+1) e.key kv=true):=by
 intro es;induction es with
 | nil=>
  intro l i s s' r h hl;cases h;obtain rfl:l=[]:=hl;exact⟨.refl _,fun ob=>⟨ob,rfl⟩⟩
 | cons e es ih=>
  intro l i s s' r h hl;obtain⟨z,zs,rfl,h1,h2,h3,hs⟩:=hl;unfold tB at h;split at h
  ·rename_i s1 φ;cases h;obtain⟨Ys,Yw⟩:=ya φ hk h1;refine⟨Ys,fun ob=>⟨(Yw ob).1,Wx _,z,by simp,h2,h3.symm,?_,(Yw ob).2.2 rfl⟩⟩;simp[Instr.findNow,(Yw ob).2.1]
  ·rename_i s1 φ;obtain⟨Ys,Yw⟩:=ya φ hk h1;obtain⟨Y7,Y6⟩:=ih h hs;refine⟨Ys.trans Y7,fun ob=>?_⟩;obtain⟨ZU,hr⟩:=Y6 ob;refine⟨(Yw ZU).1,?_⟩
   have hf:∀ i,Instr.findNow kd kv (z::zs) i=Instr.findNow kd kv zs (i+1):=by
    intro i;simp[Instr.findNow,(Yw ZU).2.1]
   cases r with
   | none=>simp only at hr ⊢;rw[hf];exact hr
   | some p=>
    obtain⟨j,x,born⟩:=p;simp only at hr ⊢;obtain⟨hij,e',he',hx,hb,ZA,hsb⟩:=hr;refine⟨by omega,e',?_,hx,hb,by rw[hf];exact ZA,hsb⟩;rw[show j - i=(j - (i+1))+1 from by omega];simpa using he'
  ·cases h
theorem qQ {p b:ByteArray}(h:(p==b)=false):Instr.sameNow .string (.string p) (.string b)=some false:=by
 simp[Instr.sameNow,h]
theorem oV {p:ByteArray}:∀ {es:List (SV × SV × Nat)} {l:List MapEntry} {i:Nat},(∀ e∈es,a8 p e.1)->eI ν es l->Instr.findNow .string (.string p) l i=some none
 | [],l,i,_,hl=>by
  obtain rfl:l=[]:=hl
  rfl
 | e::es,l,i,h,hl=>by
  obtain⟨z,zs,rfl,h1,h2,h3,hs⟩:=hl
  obtain⟨b,hb,Yu⟩:=h e Wj
  rw[hb]at h1
  have hz:=VR.ae.1 h1
  simp only[Instr.findNow,hz,qQ Yu]
  exact oV (fun e' he'=>h e' (Wc _ he')) hs
theorem qz {p:ByteArray}:∀ {es:List (SV × SV × Nat)} {l:List MapEntry} {j i:Nat} {x:SV} {born:Nat},Eg es p j x born->eI ν es l->
  ∃ e,l[j]?=some e/\VR ν x e.val/\e.born=born/\e.key=.string p/\Instr.findNow .string (.string p) l i=some (some (i+j,e.val))
 | [],l,j,i,x,born,h,hl=>by
  have:=h.2
  simp at this
 | e::es,l,0,i,x,born,h,hl=>by
  obtain⟨z,zs,rfl,h1,h2,h3,hs⟩:=hl
  have h0:=h.2
  simp only[Wa,Option.some.injEq]at h0
  subst h0
  have hz:=VR.ae.1 h1
  refine⟨z,rfl,h2,h3.symm,hz,?_⟩
  have:(p==p)=true:=(cL p p).2 rfl
  simp[Instr.findNow,hz,Instr.sameNow,this]
 | e::es,l,j+1,i,x,born,h,hl=>by
  obtain⟨z,zs,rfl,h1,h2,h3,hs⟩:=hl
  obtain⟨b,hb,Yu⟩:=h.1 e (by simp)
  rw[hb]at h1
  have hz:=VR.ae.1 h1
  obtain⟨q,hq,hx,Z9,hk,hf⟩:=qz (es:=es) (l:=zs) (j:=j) (i:=i+1) (x:=x) (born:=born) ⟨fun e' he'=>h.1 e' (by simp[he']),by simpa using h.2⟩ hs
  refine⟨q,by simpa using hq,hx,Z9,hk,?_⟩
  simp only[Instr.findNow,hz,qQ Yu]
  rw[hf]
  congr 3;omega
theorem uq {kd:TypeDesc}{k:SV}{kv:Value}(hk:VR ν k kv){es:List (SV × SV × Nat)}{l:List MapEntry}{s s':SH}{r:Option (Nat × SV × Nat)}:lL E kd k es s=some (r,s')->eI ν es l->
  s.dD s'/\(s'.ob->s.ob/\match r with
   | none=>Instr.findNow kd kv l 0=some none
   | some (j,x,born)=>0<=j/\∃ e,l[j - 0]?=some e/\VR ν x e.val/\e.born=born/\Instr.findNow kd kv l 0=some (some (j,e.val))/\∀ n,Instr.sameBits (n+1) e.key kv=true):=by
 intro h hl;unfold lL at h;split at h
 ·rename_i p0 q0 p1 p j x born q2;cases h;obtain rfl:=VR.ae.1 hk;refine⟨SH.cn _ _,fun ob=>⟨ob.1,WW _,?_⟩⟩;obtain⟨e,h1,h2,h3,h4,h5⟩:=qz (i:=0) ob.2 hl;rw[W8]at h5;refine⟨e,h1,h2,h3,h5,fun n=>?_⟩;rw[h4];simp only[Instr.sameBits];exact (cL p p).2 rfl
 ·rename_i p _;cases h;obtain rfl:=VR.ae.1 hk;exact⟨SH.cn _ _,fun ob=>⟨ob.1,oV ob.2 hl⟩⟩
 ·exact E8 hk h hl
theorem eI.modify {es:List (SV × SV × Nat)}{l:List MapEntry}(h:eI ν es l)(j:Nat)(f:SV × SV × Nat->SV × SV × Nat)(g:MapEntry->MapEntry)
  (hfg:∀ a e,VR ν a.1 e.key->VR ν a.2.1 e.val->a.2.2=e.born->VR ν (f a).1 (g e).key/\VR ν (f a).2.1 (g e).val/\(f a).2.2=(g e).born):eI ν (es.modify j f) (l.modify j g):=by
 induction es generalizing l j with
 | nil=>have h':l=[]:=h;subst h';simp[eI]
 | cons a es ih=>
  obtain⟨z,zs,rfl,h1,h2,h3,hs⟩:=h;cases j with
  | zero=>
   obtain⟨k1,k2,k3⟩:=hfg a z h1 h2 h3;simp only[List.modify_zero_cons];exact⟨g z,zs,rfl,k1,k2,k3,hs⟩
  | succ j=>
   simp only[List.modify_succ_cons];exact⟨z,_,rfl,h1,h2,h3,ih hs j⟩
theorem eI.append {es:List (SV × SV × Nat)}{l:List MapEntry}(h:eI ν es l){fs:List (SV × SV × Nat)}{m:List MapEntry}(k:eI ν fs m):eI ν (es++fs) (l++m):=by
 induction es generalizing l with
 | nil=>obtain rfl:l=[]:=h;exact k
 | cons a es ih=>
  obtain⟨z,zs,rfl,h1,h2,h3,hs⟩:=h;exact⟨z,_,rfl,h1,h2,h3,ih hs⟩
theorem eI.erase {es:List (SV × SV × Nat)}{l:List MapEntry}(h:eI ν es l)(j:Nat):eI ν (es.eraseIdx j) (l.eraseIdx j):=by
 induction es generalizing l j with
 | nil=>have h':l=[]:=h;subst h';simp[eI]
 | cons a es ih=>
  obtain⟨z,zs,rfl,h1,h2,h3,hs⟩:=h;cases j with
  | zero=>exact hs
  | succ j=>exact⟨z,_,rfl,h1,h2,h3,ih hs j⟩
theorem eI.length {es:List (SV × SV × Nat)}{l:List MapEntry}(h:eI ν es l):l.length=es.length:=by
 induction es generalizing l with
 | nil=>obtain rfl:l=[]:=h;rfl
 | cons a es ih=>obtain⟨z,zs,rfl,_,_,_,hs⟩:=h;simp[ih hs]
theorem run_getObj_map {P:Program}{b:Nat}{es:Array MapEntry}{c:Nat}(h:w.heap[b]?=some (.map es c)):(getObj b).run P w=.ok (.map es c) w:=by
 simp[getObj,Sem.run,h]
theorem run_setObj_map {P:Program}{b:Nat}{es:Array MapEntry}{c:Nat}(h:w.heap[b]?=some (.map es c))(o:Obj):(setObj b o).run P w=.ok () { w with heap:=w.heap.setIfInBounds b o }:=by
 simp[setObj,Sem.run,h]
theorem run_findKey {t:TypeId}{kd:TypeDesc}(h:bR E t=some kd){kv:Value}{l:List MapEntry}{r:Option (Nat × Value)}(hf:Instr.findNow kd kv l 0=some r):
  (Instr.findKey t kv l).run E.P w=.ok r w:=by
 simp[Instr.findKey,run_underlying h,hf]
theorem ta {t:TypeId}{m k x:SV}{ok:Bool}{mv kv:Value}(h:oN E t m k ok s=some (x,s'))(hr:HR ν M w0 s w)(hm:VR ν m mv)(hk:VR ν k kv):
  s.dD s'/\(s'.ob->s.ob/\∃ y,(Instr.lookup t mv kv ok).run E.P w=.ok y w/\VR ν x y):=by
 unfold oN at h;split at h
 ·rename_i kt et hd;cases hkd:jP E kt with
  | none=>rw[hkd]at h;cases h
  | some kd=>
  rw[hkd]at h;simp only[WG,V9]at h;obtain⟨hkt,φ⟩:=nB hkd;cases hi:bT E et with
  | none=>rw[hi]at h;cases h
  | some zi=>
  rw[hi]at h;simp only[V9]at h;cases hz:zi.zero with
  | none=>rw[hz]at h;cases h
  | some z=>
  rw[hz]at h;simp only[V9]at h
  have key:∀ (es:List (SV × SV × Nat)) (l:List MapEntry),eI ν es l->
    (∀ (q:Option (Nat × Value)),Instr.findNow kd kv l 0=some q->(Instr.lookup t mv kv ok).run E.P w=
     .ok (if ok=true then .tuple #[(q.map (·.2)).getD z,.bool q.isSome] else (q.map (·.2)).getD z) w)->
    ((lL E kd k es s).bind fun p=>match p.1 with
     | some (_,x,_)=>some (bif ok then SV.tup [x,.v (.bool true)] else x,p.2)
     | none=>some (bif ok then SV.tup [.v z,.v (.bool false)] else .v z,p.2))=some (x,s')->
    s.dD s'/\(s'.ob->s.ob/\∃ y,(Instr.lookup t mv kv ok).run E.P w=.ok y w/\VR ν x y):=by
   intro es l hl Y5 h;cases hf:lL E kd k es s with
   | none=>rw[hf]at h;cases h
   | some p=>
   obtain⟨r,s1⟩:=p;rw[hf]at h;simp only[V9]at h;obtain⟨Ys,Yw⟩:=uq hk hf hl;cases r with
   | none=>
    simp only at h;cases h;refine⟨Ys,fun ob=>⟨(Yw ob).1,_,Y5 none (Yw ob).2,?_⟩⟩;cases ok
    ·exact VR.ae.2 rfl
    ·exact VR.cz.2 ⟨[z,.bool false],rfl,au.cons (VR.ae.2 rfl) (au.cons (VR.ae.2 rfl) au.nil)⟩
   | some q=>
    obtain⟨j,x0,born⟩:=q;simp only at h;cases h;refine⟨Ys,fun ob=>?_⟩;obtain⟨YG,_,e,he,hx,_,ZA,_⟩:=Yw ob;refine⟨YG,_,Y5 (some (j,e.val)) ZA,?_⟩;cases ok
    ·exact hx
    ·exact VR.cz.2 ⟨[e.val,.bool true],rfl,au.cons hx (au.cons (VR.ae.2 rfl) au.nil)⟩
  split at h
  ·obtain rfl:=VR.ae.1 hm;refine key [] [] rfl (fun q hq=>?_) h;simp only[Instr.lookup,Wf,run_underlying hd,V3,Wk,run_checkKey hkt φ,run_findKey hkt hq];cases q with
   | none=>cases ok<;>simp[dC hi hz]
   | some q=>cases ok<;>simp
  ·rename_i i;split at h
   ·rename_i es clock own hl;obtain⟨_,_,b,o,hb,ho,YA,_⟩:=hr.look hl;obtain⟨c,hc,rfl⟩:=VR.cQ.1 hm;rw[hb]at hc;cases hc;obtain⟨l,rfl,hl⟩:=YA;refine key es l hl (fun q hq=>?_) h;simp only[Instr.lookup,Wf,run_underlying hd,run_getObj_map ho,V3,Wk,run_checkKey hkt φ,run_findKey hkt hq];cases q with
    | none=>cases ok<;>simp[dC hi hz]
    | some q=>cases ok<;>simp
   ·cases h
  ·cases h
 ·cases h
end
section
variable {ν:aP}{M:Own}{w0 w:World}{s s':SH}{E:Env}
theorem run_keyThatStays {P:Program}{old new:Value}(h:∀ n,Instr.sameBits (n+1) old new=true):(Instr.keyThatStays old new).run P w=.ok new w:=by
 unfold Instr.keyThatStays;rw[if_pos (h 9999)];rfl
theorem HR.Bw (hr:HR ν M w0 s w){i:Nat}{es:List (SV × SV × Nat)}{clock:Nat}(hl:s.look i=some (.map es clock,true)){b:Nat × Nat}(hb:ν i=some b)
  {fs:List (SV × SV × Nat)} {l:List MapEntry} {clock':Nat} (hf:eI ν fs l):
  HR ν M w0 (s.put i (.map fs clock')) { w with heap:=w.heap.setIfInBounds b.1 (.map l.toArray clock') }:=
 hr.put hl hb (o:=.map fs clock') ⟨l,rfl,hf⟩ rfl rfl rfl rfl
theorem q9 (l:List MapEntry)(j:Nat)(f:MapEntry->MapEntry):l.toArray.modify j f=(l.modify j f).toArray:=by
 apply Array.ext';simp
theorem ny {t:TypeId}{m k x:SV}{mv kv xv:Value}(h:nW E t m k x s=some s')(hr:HR ν M w0 s w)(hm:VR ν m mv)(hk:VR ν k kv)(hx:VR ν x xv):
  s'.ob->s.ob/\vu E.P (Instr.mapUpdate t mv kv xv) ν M w0 w s':=by
 unfold nW at h;split at h
 ·rename_i kt et i hd;cases hkd:jP E kt with
  | none=>rw[hkd]at h;cases h
  | some kd=>
  rw[hkd]at h;simp only[WG,V9]at h;obtain⟨hkt,φ⟩:=nB hkd;split at h
  ·rename_i es clock hl;obtain⟨c,hc,rfl⟩:=VR.cQ.1 hm;cases hf:lL E kd k es s with
   | none=>rw[hf]at h;cases h
   | some p=>
   obtain⟨r,s1⟩:=p;rw[hf]at h;simp only[V9]at h;obtain⟨_,_,b,o,hb,ho,YA,_⟩:=hr.look hl;rw[hc]at hb;cases hb;obtain⟨l,rfl,hent⟩:=YA;obtain⟨Ys,Yw⟩:=uq hk hf hent;have hl1:s1.look i=some (.map es clock,true):=by rw[Ys.look];exact hl
   have ZE:=hr.same Ys;cases r with
   | none=>
    simp only at h;cases h;intro ob;have ob:s1.ob:=ob;obtain⟨YG,ZA⟩:=Yw ob;refine⟨YG,ν,_,aP.Le.refl _,?_,ZE.Bw hl1 hc (l:=l++[{ key:=kv,val:=xv,born:=clock }]) (hent.append ⟨_,[],rfl,hk,hx,rfl,rfl⟩)⟩;simp only[Instr.mapUpdate,Wf,run_underlying hd,V3,run_getObj_map ho,run_checkKey hkt φ,run_findKey hkt ZA,run_setObj_map ho];simp
   | some q=>
    obtain⟨j,x0,born⟩:=q;simp only at h;cases h;intro ob;have ob:s1.ob:=ob;obtain⟨YG,_,e,he,_,_,ZA,hsb⟩:=Yw ob;rw[Yk]at he;refine⟨YG,ν,_,aP.Le.refl _,?_,ZE.Bw hl1 hc (l:=l.modify j fun e=>{ e with key:=kv,val:=xv }) (hent.modify j _ _ fun a e _ _ h3=>⟨hk,hx,h3⟩)⟩;have hkey':((l.toArray[j]?).map (·.key)).getD kv=e.key:=by simp[he]
    simp only[Instr.mapUpdate,Wf,run_underlying hd,V3,run_getObj_map ho,run_checkKey hkt φ,run_findKey hkt ZA,hkey',run_keyThatStays hsb,run_setObj_map ho,q9]
  ·cases h
 ·cases h
theorem AG {t:TypeId}{rest:List TypeId}{m k x:SV}{mv kv:Value}{ty:TypeId}(h:xP E t m k s=some (x,s'))(hr:HR ν M w0 s w)(hm:VR ν m mv)(hk:VR ν k kv):
  s'.ob->s.ob/\c7 E.P (Builtin.delete_ (t::rest).toArray ty #[mv,kv]) ν M w0 w x s':=by
 have a0:((t::rest).toArray:Array TypeId)[0]?=some t:=by simp
 have b0:(#[mv,kv]:Array Value)[0]?=some mv:=rfl;have b1:(#[mv,kv]:Array Value)[1]?=some kv:=rfl;unfold xP at h;split at h
 ·rename_i kt et hd;cases hkd:jP E kt with
  | none=>rw[hkd]at h;cases h
  | some kd=>
  rw[hkd]at h;simp only[WG,V9]at h;obtain⟨hkt,φ⟩:=nB hkd;split at h
  ·cases h;obtain rfl:=VR.ae.1 hm;refine fun ob=>⟨ob,c7.now hr ?_ (VR.ae.2 rfl)⟩;simp only[Builtin.delete_,a0,b0,b1,Wf,run_underlying hd,V3,run_checkKey hkt φ,Wk]
  ·rename_i i;split at h
   ·rename_i es clock hl;obtain⟨c,hc,rfl⟩:=VR.cQ.1 hm;cases hf:lL E kd k es s with
    | none=>rw[hf]at h;cases h
    | some p=>
    obtain⟨r,s1⟩:=p;rw[hf]at h;simp only[V9]at h;obtain⟨_,_,b,o,hb,ho,YA,_⟩:=hr.look hl;rw[hc]at hb;cases hb;obtain⟨l,rfl,hent⟩:=YA;obtain⟨Ys,Yw⟩:=uq hk hf hent;have hl1:s1.look i=some (.map es clock,true):=by rw[Ys.look];exact hl
    have ZE:=hr.same Ys;cases r with
    | none=>
     simp only at h;cases h;intro ob;obtain⟨YG,ZA⟩:=Yw ob
     have hself:w.heap.setIfInBounds c.1 (.map l.toArray clock)=w.heap:=by
      apply Xt;intro j;rw[WO];split
      ·rename_i ej;subst ej;have h1:=(VY.1 ho).1;have h2:=(VY.1 ho).2;simp[h1,h2]
      ·rfl
     refine⟨YG,c7.now ZE ?_ (VR.ae.2 rfl)⟩;simp only[Builtin.delete_,a0,b0,b1,Wf,run_underlying hd,run_getObj_map ho,V3,run_checkKey hkt φ,run_findKey hkt ZA,run_setObj_map ho,hself,Wk]
    | some q=>
     obtain⟨j,x0,born⟩:=q;simp only at h;cases h;intro ob;have ob:s1.ob:=ob;obtain⟨YG,_,e,he,_,_,ZA,_⟩:=Yw ob;refine⟨YG,ν,_,_,aP.Le.refl _,?_,VR.ae.2 rfl,ZE.Bw hl1 hc (l:=l.eraseIdx j) (hent.erase j)⟩
     have her:l.toArray.eraseIdxIfInBounds j=(l.eraseIdx j).toArray:=by
      apply Array.ext';simp
     simp only[Builtin.delete_,a0,b0,b1,Wf,run_underlying hd,run_getObj_map ho,V3,run_checkKey hkt φ,run_findKey hkt ZA,run_setObj_map ho,her,Wk]
   ·cases h
  ·cases h
 ·cases h
end
section
variable {ν:aP}{M:Own}{w0 w:World}{s s':SH}{E:Env}
theorem Dj {t:TypeId}{x y:SV}{xv:Value}(h:BE E t x s=some (y,s'))(hr:HR ν M w0 s w)(hx:VR ν x xv):
  s'.ob=s.ob/\c7 E.P (Instr.range t xv) ν M w0 w y s':=by
 unfold BE at h;split at h
 ·rename_i b hd;obtain rfl:=VR.ae.1 hx;cases hn:eW (.siter b 0) s with
  | none=>rw[hn]at h;cases h
  | some p=>
  obtain⟨i,s1⟩:=p;rw[hn]at h;cases h;obtain⟨Yw,ν',hle,hi,YK⟩:=gw hn hr 0 (r:=.stringIter b 0) (fun _ _ _=>rfl);refine⟨Yw,ν',_,_,hle,?_,VR.aF.2 ⟨_,hi,rfl⟩,YK⟩;simp only[Instr.range,Wf,run_underlying hd,V3,Wk,Yl]
 ·rename_i k e hd;obtain rfl:=VR.ae.1 hx;cases hn:eW (.miter none 0 [] 0) s with
  | none=>rw[hn]at h;cases h
  | some p=>
  obtain⟨i,s1⟩:=p;rw[hn]at h;cases h;obtain⟨Yw,ν',hle,hi,YK⟩:=gw hn hr 0 (r:=.mapIter none 0 #[] 0) (fun _ _ _=>rfl);refine⟨Yw,ν',_,_,hle,?_,VR.aF.2 ⟨_,hi,rfl⟩,YK⟩;simp only[Instr.range,Wf,run_underlying hd,V3,Wk,Yl]
 ·rename_i k e m hd;obtain⟨c,hc,rfl⟩:=VR.cQ.1 hx;split at h
  ·rename_i es clock own hl;cases hn:eW (.miter (some m) clock [] clock) s with
   | none=>rw[hn]at h;cases h
   | some p=>
   obtain⟨i,s1⟩:=p;rw[hn]at h;cases h;obtain⟨_,_,b,o,hb,ho,YA,_⟩:=hr.look hl;rw[hc]at hb;cases hb;obtain⟨l,rfl,_⟩:=YA;obtain⟨Yw,ν',hle,hi,YK⟩:=gw hn hr 0 (r:=.mapIter (some c.1) clock #[] clock) (fun ν' hle _=>⟨c,hle _ _ hc,rfl⟩);refine⟨Yw,ν',_,_,hle,?_,VR.aF.2 ⟨_,hi,rfl⟩,YK⟩;simp only[Instr.range,Wf,run_underlying hd,run_getObj_map ho,V3,Wk,Yl]
  ·cases h
 ·cases h
theorem eI.filter {es:List (SV × SV × Nat)}{l:List MapEntry}(h:eI ν es l)(p:Nat->Bool):eI ν (es.filter fun e=>p e.2.2) (l.filter fun e=>p e.born):=by
 induction es generalizing l with
 | nil=>have h':l=[]:=h;subst h';exact rfl
 | cons a es ih=>
  obtain⟨z,zs,rfl,h1,h2,h3,hs⟩:=h;simp only[List.filter_cons,<- h3];split
  ·exact⟨z,_,rfl,h1,h2,h3,ih hs⟩
  ·exact ih hs
theorem eI.get {es:List (SV × SV × Nat)}{l:List MapEntry}{j:Nat}{e:MapEntry}(h:eI ν es l)(he:l[j]?=some e):∃ a,es[j]?=some a/\VR ν a.1 e.key/\VR ν a.2.1 e.val/\a.2.2=e.born:=by
 induction es generalizing l j with
 | nil=>have h':l=[]:=h;subst h';simp at he
 | cons a es ih=>
  obtain⟨z,zs,rfl,h1,h2,h3,hs⟩:=h;cases j with
  | zero=>simp at he;subst he;exact⟨a,by simp,h1,h2,h3⟩
  | succ j=>simp at he;obtain⟨b,hb,k⟩:=ih hs he;exact⟨b,by simpa using hb,k⟩
theorem eI.all {es:List (SV × SV × Nat)}{l:List MapEntry}(h:eI ν es l)(p:Nat->Bool):es.all (fun e=>p e.2.2)=l.all (fun e=>p e.born):=by
 induction es generalizing l with
 | nil=>have h':l=[]:=h;subst h';rfl
 | cons a es ih=>
  obtain⟨z,zs,rfl,_,_,h3,hs⟩:=h;simp only[List.all_cons,h3,ih hs]
theorem eI.isEmpty {es:List (SV × SV × Nat)}{l:List MapEntry}(h:eI ν es l):l.isEmpty=es.isEmpty:=by
 have:=h.length;cases l<;>cases es<;>simp_all
theorem gA {P:Program}{b:Nat}{o:Obj}(h:w.heap[b]?=some o)(hc:∀ c e f,o≠.cells c e f):(getObj b).run P w=.ok o w:=by
 unfold getObj;rw[Sem.run];cases o with
 | cells c e f=>exact absurd rfl (hc c e f)
 | _=>rw[h];rfl
theorem gZ {P:Program}{b:Nat}{o:Obj}(h:w.heap[b]?=some o)(hc:∀ c e f,o≠.cells c e f)(o':Obj):(setObj b o').run P w=.ok () { w with heap:=w.heap.setIfInBounds b o' }:=by
 unfold setObj;rw[Sem.run];cases o with
 | cells c e f=>exact absurd rfl (hc c e f)
 | _=>rw[h];rfl
theorem BP {x:SV}{isS:Bool}{xv:Value}{ty:TypeId}{L:List (SV × SH)}(h:kU x isS s=some L)(hr:HR ν M w0 s w)(hx:VR ν x xv):
  ∃ p∈L,p.2.ob=s.ob/\c7 E.P (Instr.next xv isS ty) ν M w0 w p.1 p.2:=by
 unfold kU at h;split at h
 ·-- a text
  rename_i i;obtain⟨c,hc,rfl⟩:=VR.aF.1 hx;split at h
  ·rename_i b pos hl;obtain⟨_,_,c',o,ZI,ho,YA,_⟩:=hr.look hl;rw[hc]at ZI;cases ZI;obtain rfl:o=.stringIter b pos:=YA;have hg:=gA (P:=E.P) ho (by intro a b c e;cases e);cases YD:Nat.blt pos b.size
   ·rw[YD]at h;cases h;refine⟨_,Wl.2 rfl,rfl,c7.now hr ?_ (VR.ae.2 rfl)⟩;have:¬ pos<b.size:=fun e=>by rw[dw.2 e]at YD;cases YD
    simp only[Instr.next,Wf,hg,V3,if_neg this,Wk]
   ·rw[YD]at h;cases h;have YD:=dw.1 YD;have hs:=gZ (P:=E.P) ho (by intro a b c e;cases e) (.stringIter b (pos+(Utf8.decode b pos).2))
    refine⟨_,Wl.2 rfl,rfl,ν,_,_,aP.Le.refl _,?_,VR.cz.2 ⟨[_,_,_],rfl,au.cons (VR.ae.2 rfl) (au.cons (VR.ae.2 rfl) (au.cons (VR.ae.2 rfl) au.nil))⟩,
     hr.put (w':={ w with heap:=w.heap.setIfInBounds c.1 (.stringIter b (pos+(Utf8.decode b pos).2)) }) hl hc (o:=.siter b (pos+(Utf8.decode b pos).2)) (r:=.stringIter b (pos+(Utf8.decode b pos).2)) rfl rfl rfl rfl rfl⟩
    simp only[Instr.next,Wf,hg,V3,if_pos YD,hs,Wk,goInt]
  ·cases h
 ·-- a map
  rename_i i;obtain⟨c,hc,rfl⟩:=VR.aF.1 hx;split at h
  ·rename_i since seen last own hl;cases h;obtain⟨_,_,c',o,ZI,ho,YA,_⟩:=hr.look hl;rw[hc]at ZI;cases ZI;obtain rfl:o=.mapIter none since seen.toArray last:=YA;have hg:=gA (P:=E.P) ho (by intro a b c e;cases e);refine⟨_,Wl.2 rfl,rfl,c7.now hr ?_ (VR.ae.2 rfl)⟩;simp only[Instr.next,Wf,hg,V3,Wk]
  ·rename_i m since seen last hl;split at h
   ·rename_i es clock own hlm;cases hun:(!seen.isEmpty&&!es.isEmpty&&es.all (fun e=>Nat.ble last e.2.2));rotate_left
    ·rw[hun]at h;cases h
    rw[hun]at h;simp only[W5,Option.some.injEq]at h;obtain⟨_,_,c',o,ZI,ho,YA,_⟩:=hr.look hl;rw[hc]at ZI;cases ZI;obtain⟨cm,hcm,rfl⟩:=YA;obtain⟨_,_,c',o,ZI,hom,horm,_⟩:=hr.look hlm;rw[hcm]at ZI;cases ZI;obtain⟨l,rfl,hent⟩:=horm;have hg:=gA (P:=E.P) ho (by intro a b c e;cases e);have hgm:=run_getObj_map (P:=E.P) hom;have e1:(fun e:SV × SV × Nat=>Nat.ble last e.2.2)=(fun e=>(fun n=>Nat.ble last n) e.2.2):=rfl
    have hun':(!seen.toArray.isEmpty&&!l.toArray.isEmpty&&l.toArray.all (fun e=>decide (e.born≥last)))=false:=by
     rw[<- hun,e1,hent.all]
     have:(fun e:MapEntry=>decide (e.born≥last))=(fun e:MapEntry=>(fun n=>Nat.ble last n) e.born):=by
      funext e;rw[Yh];simp
     simp only[List.isEmpty_toArray,hent.isEmpty,List.all_toArray,this]
    have hleft:=hent.filter (fun n=>!seen.contains n);generalize hA:(es.filter fun e=>!seen.contains e.2.2)=left at *;generalize hB:(l.filter fun e=>!seen.contains e.born)=leftv at *;have hold:=hleft.filter (fun n=>Nat.blt n since);have ZO:=hleft.filter (fun n=>Nat.ble since n);have hboth:=hold.append ZO
    have f1:(l.toArray.filter fun e=>!seen.toArray.contains e.born)=leftv.toArray:=by
     rw[List.filter_toArray,<- hB];simp
    have f2:(leftv.toArray.filter fun e=>decide (e.born<since))=(leftv.filter fun e=>Nat.blt e.born since).toArray:=by
     rw[List.filter_toArray];congr 1;apply List.filter_congr;intro e _;rw[Yh,dw];simp
    have f3:(leftv.toArray.filter fun e=>decide (e.born≥since))=(leftv.filter fun e=>Nat.ble since e.born).toArray:=by
     rw[List.filter_toArray];congr 1;apply List.filter_congr;intro e _;rw[Yh];simp
    have hemp:=hold.isEmpty;generalize hO:(left.filter fun e=>Nat.blt e.2.2 since)=old at *;generalize hN:(left.filter fun e=>Nat.ble since e.2.2)=new at *;generalize hOv:(leftv.filter fun e=>Nat.blt e.born since)=oldv at *;generalize hNv:(leftv.filter fun e=>Nat.ble since e.born)=newv at *;let Zk:List (Option MapEntry):=(if oldv.isEmpty then [none] else [])++(oldv++newv).map some
    have fc:(if (oldv.toArray).isEmpty=true then #[none] else #[])++Array.map some (oldv.toArray++newv.toArray)=Zk.toArray:=by
     simp only[Zk,List.isEmpty_toArray];split<;>(apply Array.ext';simp)
    have hpos:0<Zk.length:=by
     simp only[Zk];cases oldv<;>simp
    obtain⟨idx,k,hch,hidx⟩:∃ idx k,(choose (.mapNext Zk.length)).run E.P w=.ok idx { w with drawn:=k }/\idx<Zk.length:=by
     rw[run_choose];by_cases h1:Zk.length<=1
     ·have hf:(Question.mapNext Zk.length).forced=true:=by simp[Question.forced,h1]
      exact⟨0,w.drawn,by rw[if_pos hf],hpos⟩
     ·have hf:¬ (Question.mapNext Zk.length).forced=true:=by simp[Question.forced];omega
      refine⟨_,w.drawn+1,by rw[if_neg hf],?_⟩;simp only[Question.cut];exact Yb _ hpos
    have Yt:(Instr.next (.pointer (some ⟨c.1,0,none⟩)) false ty).run E.P w=((match Zk[idx]? with
      | some (some e)=>(do setObj c.1 (.mapIter (some cm.1) since (seen.toArray.push e.born) clock);pure (.tuple #[.bool true,e.key,e.val]))
      | some none=>pure (.tuple #[.bool false])
      | none => stuck "Next: no such candidate" : Sem Value)).run E.P { w with drawn := k } := by
     have hch':(choose (.mapNext Zk.toArray.size)).run E.P w=.ok idx { w with drawn:=k }:=hch;simp only[Instr.next,Wf,hg,V3,hgm,hun',Xj,Yf,Wk,f1,f2,f3,fc,hch'];simp only[X9];generalize Zk[idx]?=q;rcases q with _|_|e<;>rfl
    have hr2:=hr.drawn k;obtain⟨cd,hcd⟩:∃ cd,Zk[idx]?=some cd:=⟨_,V4 hidx⟩;rw[hcd]at Yt;cases cd with
    | none=>
     have hoe:old.isEmpty=true:=by
      rw[<- hemp];cases hxe:oldv.isEmpty with
      | true=>rfl
      | false=>
       have Zj:(none:Option MapEntry)∈Zk:=Xi hcd;simp[Zk,hxe]at Zj
     subst h;refine⟨(.v (.tuple #[.bool false]),s),by simp[hoe],rfl,ν,_,_,aP.Le.refl _,by rw[Yt];rfl,VR.ae.2 rfl,hr2⟩
    | some e=>
     have hj:∃ j:Nat,(oldv++newv)[j]?=some e:=by
      have Zj:some e∈Zk:=Xi hcd;simp only[Zk,WJ]at Zj;rcases Zj with hm|hm
      ·split at hm<;>simp at hm
      ·obtain⟨e',he',hee⟩:=Wb.1 hm;cases hee;exact WZ he'
     obtain⟨j,hj⟩:=hj;obtain⟨a,ha,h1,h2,h3⟩:=hboth.get hj;have hamem:a∈old++new:=Xi ha;have hs:=gZ (P:=E.P) (w:={ w with drawn:=k }) ho (by intro a b c e;cases e) (.mapIter (some cm.1) since (seen.toArray.push e.born) clock);subst h
     refine⟨(SV.tup [.v (.bool true),a.1,a.2.1],s.put i (.miter (some m) since (seen++[a.2.2]) clock)),?_,rfl,ν,_,_,aP.Le.refl _,?_,
      VR.cz.2 ⟨[.bool true,e.key,e.val],rfl,au.cons (VR.ae.2 rfl) (au.cons h1 (au.cons h2 au.nil))⟩,
      hr2.put (w':={ w with drawn:=k,heap:=w.heap.setIfInBounds c.1 (.mapIter (some cm.1) since (seen.toArray.push e.born) clock) }) hl hc (o:=.miter (some m) since (seen++[a.2.2]) clock) (r:=.mapIter (some cm.1) since (seen.toArray.push e.born) clock) ⟨cm,hcm,by rw[h3];simp⟩ rfl rfl rfl rfl⟩
     ·have:(SV.tup [.v (.bool true),a.1,a.2.1],s.put i (.miter (some m) since (seen++[a.2.2]) clock))∈(old++new).map fun e=>(SV.tup [.v (.bool true),e.1,e.2.1],s.put i (.miter (some m) since (seen++[e.2.2]) clock)):=
       Wb.2 ⟨a,hamem,rfl⟩
      cases old.isEmpty
      ·exact this
      ·exact Wc _ this
     ·rw[Yt];simp only[Wf,hs,V3,Wk]
   ·cases h
  ·cases h
 ·cases h
theorem eI.find {st:Nat}:∀ {es:List (SV × SV × Nat)} {l:List MapEntry} {a:SV × SV × Nat},eI ν es l->(es.find? fun e=>Nat.beq e.2.2 st)=some a->
  ∃ e,(l.find? fun e=>e.born==st)=some e/\VR ν a.1 e.key/\VR ν a.2.1 e.val
 | [],_,_,_,h=>by cases h
 | x::xs,_,a,⟨z,zs,e,h1,h2,h3,hs⟩,h=>by
  subst e;rw[X2]at h ⊢
  have hb:(z.born==st)=Nat.beq x.2.2 st:=by
   rw[h3];cases hq:Nat.beq z.born st
   ·have:¬ z.born=st:=fun e=>by rw[e]at hq;simp at hq
    simpa using this
   ·simpa using WM hq
  rw[hb];cases hq:Nat.beq x.2.2 st
  ·rw[hq]at h;exact eI.find hs h
  ·rw[hq]at h;cases h;exact⟨z,rfl,h1,h2⟩
theorem Bb {x y:SV}(h:xm x s=some (y,s')):s.dD s'/\(s'.ob->s.ob/\sk x s=some y):=by
 unfold xm at h;split at h
 ·rename_i i k y _;split at h
  ·rename_i m since seen YV mk hl;split at h
   ·rename_i es clock mk2 hm;cases h;refine⟨SH.cn _ _,fun ob=>⟨ob.1,?_⟩⟩;obtain⟨Yz,b,h1,h2,h3⟩:=ob.2;unfold sk;have:Nat.beq clock YV=true:=by rw[h2];simp
    simp only[hl,hm,h1,this,WE,h3,Xb]
   ·cases h
  ·cases h
 ·cases h
theorem u4 {x y:SV}{xv:Value}(h:sk x s=some y)(hr:HR ν M w0 s w)(hx:VR ν x xv):∃ v,(Instr.entry xv).run E.P w=.ok v w/\VR ν y v:=by
 unfold sk at h;split at h
 ·rename_i i;split at h
  ·rename_i m since seen YV wr hl;split at h
   ·rename_i es clock wr2 Yz hm hlast;obtain⟨b,hb,rfl⟩:=VR.aF.1 hx;obtain⟨_,_,b',o,Yy,ho,YA,_⟩:=hr.look hl;rw[hb]at Yy;cases Yy;obtain⟨bm,hbm,rfl⟩:=YA;obtain⟨_,_,b2,o2,YW,ho2,hor2,_⟩:=hr.look hm;rw[hbm]at YW;cases YW;obtain⟨l,rfl,hes⟩:=hor2;cases hc:Nat.beq clock YV
    ·rw[hc]at h;cases h
    ·rw[hc]at h;simp only[WE]at h;have hc:=WM hc;subst hc;cases hf:es.find? fun e=>Nat.beq e.2.2 Yz with
     | none=>rw[hf]at h;cases h
     | some a=>
     rw[hf]at h;cases h;obtain⟨e,he,hk,hv⟩:=hes.find hf;refine⟨.tuple #[e.key,e.val],?_,VR.cz.2 ⟨[e.key,e.val],rfl,au.cons hk (au.cons hv au.nil)⟩⟩;have hback:seen.toArray.back?=some Yz:=by simpa using hlast
     simp[Instr.entry,gA (P:=E.P) ho (by intro c e f;exact fun h=>by cases h),gA (P:=E.P) ho2 (by intro c e f;exact fun h=>by cases h),hback,he]
   ·cases h
  ·cases h
 ·cases h
end
section
variable {ν:aP}{M:Own}{w0 w:World}{s s':SH}{E:Env}
theorem lK {x y:SV}{xt at_:TypeId}{ok:Bool}{xv:Value}(h:me E x at_ ok=some y)(hx:VR ν x xv):
  ∃ yv,(Instr.typeAssert xv xt at_ ok).run E.P w=.ok yv w/\VR ν y yv:=by
 unfold me at h;cases h
theorem IQ {t:TypeId}{x y:SV}{xv yv:Value}{r:Bool}(h:Lg E t x y s=some (r,s'))(hx:VR ν x xv)(hy:VR ν y yv):
  s'=s/\∃ info,bT E t=some info/\info.comparable=true/\(Op.equalIn 9999 t xv yv).run E.P w=.ok r w:=by
 unfold Lg at h;split at h
 ·rename_i info e i o j p hi hd;cases hc:(info.comparable&&i==j)
  ·rw[hc]at h;cases h
  rw[hc]at h;rw[V6]at hc;obtain⟨hc,hij⟩:=hc;obtain rfl:i=j:=by simpa using hij
  simp only[WE]at h;obtain⟨b,hb,rfl⟩:=VR.aF.1 hx;obtain⟨b',Yy,rfl⟩:=VR.aF.1 hy;rw[hb]at Yy;cases Yy;split at h
  ·rename_i ei hei;cases hz:(ei.size==0)
   ·rw[hz]at h;cases h;have hz:ei.size≠0:=by simpa using hz
    refine⟨rfl,info,hi,hc,?_⟩;rw[show (9999:Nat)=9998+1 from rfl,Op.equalIn];simp only[Wf,run_underlying hd,V3,run_sizeOf hei,if_pos hz,sameAddr,WA,Yj,Wk];congr 1;rw[Yh];simp
   ·rw[hz]at h;cases h
  ·cases h
 ·rename_i info _ x y hi hd;obtain rfl:=VR.ae.1 hx;obtain rfl:=VR.ae.1 hy;cases hc:info.comparable
  ·rw[hc]at h;cases h
  rw[hc]at h;simp only[WE]at h;cases hp:ep E.P (Op.equalIn 9999 t xv yv) with
  | none=>rw[hp]at h;cases h
  | some r'=>rw[hp]at h;cases h;exact⟨rfl,info,hi,hc,jt hp w⟩
 ·cases h
theorem oP {t : TypeId}{x y : SV}{xv yv : Value}{r : Bool}(h : xh E t x y s = some (r, s'))(hx : VR ν x xv)(hy : VR ν y yv) :
    s' = s /\ (Op.equal t xv yv).run E.P w = .ok r w /\ (∀ op a b, (eqGuard op t a b xv yv).run E.P w = .ok () w) /\ binOp .eql t xv yv = (do pure (.bool (<- Op.equal t xv yv))) /\
      binOp .neq t xv yv = (do pure (.bool (!(<- Op.equal t xv yv)))) := by
  have eg : ∀ {xv yv : Value} (op : BinOp) (a b : Operand), (∀ c, xv ≠ .agg c) -> ¬ (xv = .nilIface /\ yv = .nilIface) -> (eqGuard op t a b xv yv).run E.P w = .ok () w := by
    intro xv yv op a b h1 h2;unfold eqGuard;cases op<;>simp<;>(cases xv<;>first|rfl|(exact absurd rfl (h1 _))|(cases yv<;>first|rfl|(exact absurd ⟨rfl, rfl⟩ h2)))
  unfold xh at h;split at h
  · rename_i e i o j p hd
    cases hij : (i == j)
    · rw[hij]at h; cases h
    rw[hij]at h;obtain rfl : i = j := by simpa using hij
    simp only[WE]at h;obtain⟨b, hb, rfl⟩ := VR.aF.1 hx;obtain⟨b', Yy, rfl⟩ := VR.aF.1 hy;rw[hb]at Yy; cases Yy;split at h
    · rename_i info YC
      cases hz : (info.size == 0)
      · rw[hz]at h; cases h
        have hz : info.size ≠ 0 := by simpa using hz
        refine⟨rfl, ?_, fun op a b => eg op a b (by intro c e; cases e) (by intro e; cases e.1), rfl, rfl⟩;rw[Op.equal, show Op.maxDepth = 9999 + 1 from rfl, Op.equalIn];simp only[Wf, run_underlying hd, V3, run_sizeOf YC, if_pos hz, sameAddr, WA, Yj, Wk];congr 1;rw[Yh]; simp
      · rw[hz]at h; cases h
    · cases h
  all_goals first
    | (rename_i ms t1 x1 t2 y1 hd
       obtain⟨v1, rfl, hv1⟩ := VR.dr.1 hx;obtain⟨v2, rfl, hv2⟩ := VR.dr.1 hy;cases ht : (t1 == t2)
       · rw[ht]at h; cases h
         refine⟨rfl, ?_, fun op a b => eg op a b (by intro c e; cases e) (by intro e; cases e.1), rfl, rfl⟩;rw[Op.equal, show Op.maxDepth = 9999 + 1 from rfl, Op.equalIn];have ht : t1 ≠ t2 := by simpa using ht
         simp only[Wf, run_underlying hd, V3, if_pos ht, Wk]
       · rw[ht]at h
         obtain rfl : t1 = t2 := by simpa using ht
         obtain⟨rfl, info, hi, hc, Yt⟩ := IQ (w := w) h hv1 hv2;refine⟨rfl, ?_, fun op a b => eg op a b (by intro c e; cases e) (by intro e; cases e.1), rfl, rfl⟩;rw[Op.equal, show Op.maxDepth = 9999 + 1 from rfl, Op.equalIn];simp[run_underlying hd, run_typeInfo hi, hc, Yt])
    | (rename_i hd
       cases h;first|(obtain⟨b, _, rfl⟩ := VR.aF.1 hx)|(obtain⟨b, _, _, rfl⟩ := VR.aL.1 hx)|(obtain⟨b, _, rfl⟩ := VR.fu.1 hx)|(obtain⟨b, _, rfl⟩ := VR.cQ.1 hx)|(obtain⟨b, rfl, _⟩ := VR.dr.1 hx)|(obtain⟨b, c, rfl, _⟩ := VR.eH.1 hx)|(obtain rfl := VR.ae.1 hx)
       first|(obtain⟨b, _, rfl⟩ := VR.aF.1 hy)|(obtain⟨b, _, _, rfl⟩ := VR.aL.1 hy)|(obtain⟨b, _, rfl⟩ := VR.fu.1 hy)|(obtain⟨b, _, rfl⟩ := VR.cQ.1 hy)|(obtain⟨b, rfl, _⟩ := VR.dr.1 hy)|(obtain⟨b, c, rfl, _⟩ := VR.eH.1 hy)|(obtain rfl := VR.ae.1 hy)
       refine⟨rfl, ?_, fun op a b => eg op a b (by intro c e; cases e) (by intro e; obtain⟨e1, e2⟩ := e; first|(cases e2; done)|(cases e1; done)), rfl, rfl⟩
       rw[Op.equal, show Op.maxDepth = 9999 + 1 from rfl, Op.equalIn];simp only[Wf, run_underlying hd, V3];rfl)
    | cases h
theorem ua {t:TypeId}{x y:SV}{xv yv:Value}(h:iF E t x y s=true)(hr:HR ν M w0 s w)(hx:VR ν x xv)(hy:VR ν y yv):
  (Op.equal t xv yv).run E.P w=.ok false w/\(∀ op a b,(eqGuard op t a b xv yv).run E.P w=.ok () w)/\binOp .eql t xv yv=(do pure (.bool (<- Op.equal t xv yv)))/\
   binOp .neq t xv yv=(do pure (.bool (!(<- Op.equal t xv yv)))):=by
 unfold iF at h;split at h
 ·rename_i e i o j p hd;split at h
  ·rename_i info xs el ext m ys el' ext' m' YC hi hj;rw[V6]at h;obtain⟨hz,hij⟩:=h;have hz:info.size≠0:=by simpa using hz
   have hij:i≠j:=by simpa using hij
   obtain⟨b,hb,rfl⟩:=VR.aF.1 hx;obtain⟨c,hc,rfl⟩:=VR.aF.1 hy;obtain⟨hi1,hi2,b',ob,Yy,Yw,YA,_⟩:=hr.look hi;rw[hb]at Yy;cases Yy;obtain⟨hj1,hj2,c',oc,ZI,hoc,hoc',_⟩:=hr.look hj;rw[hc]at ZI;cases ZI;obtain⟨l1,r1,rfl,_⟩:=YA;obtain⟨l2,r2,rfl,_⟩:=hoc';have Yu:b.1≠c.1:=fun e=>hij (hr.inj i j hi1 hj1 (by rw[hi2];simp) (by rw[hj2];simp) b c hb hc e);have hna:(⟨b.1,o,none⟩:Addr)≠⟨c.1,p,none⟩:=fun e=>Yu (congrArg Addr.block e);have Yt:=run_sameAddr_other (P:=E.P) (w:=w) hna Yw hoc;refine⟨?_,fun op a b=>by cases op<;>rfl,rfl,rfl⟩;rw[Op.equal,show Op.maxDepth=9999+1 from rfl,Op.equalIn];simp only[Wf,run_underlying hd,V3,run_sizeOf YC,if_pos hz,Yt,Wk]
  ·cases h
 ·cases h
theorem zn {t:TypeId}{x y:Value}{p:Prop}(h:l3 E t x y=some p)(d:Nat):∃ b,(Op.equalIn (d+1) t x y).run E.P w=.ok b w/\(b=true↔p):=by
 unfold l3 at h;split at h
 ·rename_i k k1 a k2 b hd;cases hk:(k1==k2)
  ·rw[hk]at h;cases h
  ·rw[hk]at h;cases h;obtain rfl:k1=k2:=by simpa using hk
   exact⟨_,run_equalIn_int w d t _ _ a b hd,by simp⟩
 ·rename_i a b hd;cases h;refine⟨_,run_equalIn_string w d t a b hd,?_⟩;rw[Xn,ByteArray.toList_eq,ByteArray.toList_eq];obtain⟨⟨x⟩⟩:=a;obtain⟨⟨y⟩⟩:=b;simp
 ·rename_i a b hd;cases h;exact⟨_,run_equalIn_bool' w d t a b hd,by simp⟩
 ·cases h
theorem nu {t:TypeId}{x y z:Value}{p:Prop}{xs:Array Value}{n:Nat}(h:l3 E t x y=some p)(hx:xs[n]?=some z):(part t xs n).run E.P w=.ok z w:=by
 unfold l3 at h
 have:∀ {d:TypeDesc},E.P.underlying t=some d->(∀ n e,d≠.array n e)->(∀ f,d≠.struct f)->(part t xs n).run E.P w=.ok z w:=by
  intro d hd h1 h2;cases d<;>first|exact (h1 _ _ rfl).elim|exact (h2 _ rfl).elim|simp[part,isAgg,run_underlying hd,hx]
 split at h
 ·rename_i hd;exact this hd (by intro _ _ e;cases e) (by intro _ e;cases e)
 ·rename_i hd;exact this hd (by intro _ _ e;cases e) (by intro _ e;cases e)
 ·rename_i hd;exact this hd (by intro _ _ e;cases e) (by intro _ e;cases e)
 ·cases h
theorem pw {xs ys:Array Value}(d:Nat):∀ {fs:List Field} {p:Prop},ij E xs.toList ys.toList fs=some p->∃ b,(Op.eqFields (d+1) xs ys fs).run E.P w=.ok b w/\(b=true↔p)
 | [],p,h=>by
  cases h
  exact⟨true,rfl,by simp⟩
 | f::fs,p,h=>by
  unfold ij at h
  cases hn : (f.name == "_")
  ·rw[hn]at h
   simp only[W5]at h
   have hn : f.name ≠ "_" := by simpa using hn
   split at h
   ·rename_i x y hx hy
    split at h
    ·rename_i p1 p2 h1 h2
     cases h
     rw[Array.getElem?_toList]at hx hy
     obtain⟨b1,Zs,hp1⟩:=zn (w:=w) h1 d
     obtain⟨b2,YW,hp2⟩:=pw d h2
     have e1:=nu (w:=w) h1 hx
     have e2:=nu (w:=w) h1 hy
     refine⟨b1&&b2,?_,?_⟩
     ·unfold Op.eqFields
      simp only[ne_eq,hn,Xl,Yj,Wf,e1,e2,Zs,V3]
      cases b1
      ·simp
      ·simp[YW]
     ·rw[V6,hp1,hp2]
    ·cases h
   ·cases h
  ·rw[hn]at h;cases h
theorem CJ {op:BinOp}{t:TypeId}{x y:SV}{xv yv:Value}{r:Bool}(h:Bs E op t x y s=some (r,s'))(hx:VR ν x xv)(hy:VR ν y yv):
  ∃ p,s'=s.jh p/\∀ (a b:Operand) (w:World),p->(do eqGuard op t a b xv yv;binOp op t xv yv).run E.P w=.ok (.bool r) w:=by
 have key:∀ {b r:Bool},Bs.go E t s x y b r=some (r,s')->∃ p xs ys,xv=.agg xs/\yv=.agg ys/\s'=s.jh p/\E.P.eqGuardType E.P.depth t=false/\∀ w,p->(Op.equalIn 10000 t xv yv).run E.P w=.ok b w:=by
  intro b r h;unfold Bs.go at h;split at h
  ·rename_i xs ys fs hpx hpy hd;cases hg:(E.P.stoodInHeld t||E.P.eqGuardType E.P.depth t)
   ·rw[hg]at h;simp only[W5]at h;rw[Yg]at hg;obtain⟨g1,g2⟩:=hg;cases hc:ij E xs.toList ys.toList fs.toList with
    | none=>rw[hc]at h;cases h
    | some p=>
     rw[hc]at h;cases h;obtain rfl:=gD hpx hx;obtain rfl:=gD hpy hy
     have hf:E.P.fieldsOf t=fs:=by
      have hd':E.P.underlying t=some (.struct fs):=hd;unfold Program.fieldsOf;rw[hd']
     refine⟨_,xs,ys,rfl,rfl,rfl,g2,fun w hp=>?_⟩;have ht:E.P.underlying t=some (.struct (E.P.fieldsOf t)):=by rw[hf];exact hd
     obtain⟨b',Yy,Φ⟩:=pw (w:=w) 9998 hc;rw[run_equalIn_struct w 9999 t xs ys ht g1,hf,Yy];congr 1;cases b
     ·simp only[W5]at hp;cases b'
      ·rfl
      ·exact (hp (Φ.1 rfl)).elim
     ·simp only[WE]at hp;exact Φ.2 hp
   ·rw[hg]at h;cases h
  ·cases h
 unfold Bs at h;split at h
 ·rename_i b _
  have hr:r=b:=by
   unfold Bs.go at h;split at h
   ·cases hg:(E.P.stoodInHeld t||E.P.eqGuardType E.P.depth t)
    ·rw[hg]at h;simp only[W5]at h;cases hc:ij E _ _ _ with
     | none=>rw[hc]at h;cases h
     | some p=>rw[hc]at h;cases h;rfl
    ·rw[hg]at h;cases h
   ·cases h
  subst hr;obtain⟨p,xs,ys,rfl,rfl,rfl,hg,hp⟩:=key h;refine⟨p,rfl,fun a b w ob=>?_⟩;simp only[Wf,run_eqGuard_agg w _ _ _ _ _ _ hg,V3,run_eql_struct,hp w ob]
 ·rename_i b _
  have hr:r=!b:=by
   unfold Bs.go at h;split at h
   ·cases hg:(E.P.stoodInHeld t||E.P.eqGuardType E.P.depth t)
    ·rw[hg]at h;simp only[W5]at h;cases hc:ij E _ _ _ with
     | none=>rw[hc]at h;cases h
     | some p=>rw[hc]at h;cases h;rfl
    ·rw[hg]at h;cases h
   ·cases h
  subst hr;obtain⟨p,xs,ys,rfl,rfl,rfl,hg,hp⟩:=key h;refine⟨p,rfl,fun a b w ob=>?_⟩;simp only[Wf,run_eqGuard_agg w _ _ _ _ _ _ hg,V3,run_neq_struct,hp w ob]
 ·cases h
end
section
variable {ν:aP}{M:Own}{w0 w:World}{s s':SH}{E:Env}
theorem nK {l:List SV}{ns:List Int}{ys:List Value}(h:bytesOf l=some ns)(hv:au ν l ys):ys=ns.map (Value.int .u8):=by
 induction l generalizing ns ys with
 | nil=>cases h;rw[hv.ay];rfl
 | cons x l ih=>
  obtain⟨z,zs,rfl,hz,hs⟩:=hv.cons_inv;unfold bytesOf at h;split at h
  ·rename_i he;cases he
  ·rename_i n r he;cases he;cases hb:bytesOf l with
   | none=>rw[hb]at h;cases h
   | some ms=>
    rw[hb]at h;cases h;rw[VR.ae.1 hz,ih hb hs];rfl
  ·cases h
theorem jW (ns:List Int):ns.foldl (fun r n=>r.push (UInt8.ofNat n.toNat)) ByteArray.empty=gu ns:=by
 have key:∀ (ns:List Int) (b:ByteArray),ns.foldl (fun r n=>r.push (UInt8.ofNat n.toNat)) b=⟨b.data++(ns.map fun n=>UInt8.ofNat n.toNat).toArray⟩:=by
  intro ns;induction ns with
  | nil=>intro b;simp
  | cons n ns ih=>
   intro b;simp only[X1];rw[ih];simp only[ByteArray.push,WC];congr 1;apply Array.ext';simp
 rw[key];have:ByteArray.empty.data=#[]:=rfl;simp[gu,this]
theorem jx {b:Nat}{c:Array Value}{e:TypeId}{fz:Nat × Nat}(h:w.heap[b]?=some (.cells c e fz)):w.shape? b=some (e,c.size):=by
 simp[World.shape?,h]
theorem tP {P:Program}{b off:Nat}{c:Array Value}{e:TypeId}{fz:Nat × Nat}(h:w.heap[b]?=some (.cells c e fz)):(Conv.seenAt ⟨b,off,none⟩).run P w=.ok ⟨b,off,none⟩ w:=by
 simp[Conv.seenAt,viewAt,jx h]
theorem zJ (w:World)(c:Array Value)(e:TypeId)(off n:Nat)(hn:n≠0):
  ({ w with heap:=w.heap.push (.cells c e) }:World).freeze ⟨w.heap.size,off,none⟩ n={ w with heap:=w.heap.push (.cells c e (off,off+n)) }:=by
 unfold World.freeze;rw[if_neg hn];congr 1;apply Xt;intro j;rw[XG,Xk,Xk];split
 ·rename_i ej;subst ej;simp
 ·rename_i ej;rw[if_neg (fun e=>ej e.symm),if_neg (fun e=>ej e.symm)]
theorem xA {src dst:TypeId}{x y:SV}{xv:Value}(h:qc E src dst x s=some (y,s'))(hr:HR ν M w0 s w)(hx:VR ν x xv):
  s'.ob=s.ob/\c7 E.P (convert src dst xv) ν M w0 w y s':=by
 unfold qc at h;split at h
 ·-- bytes to a text
  rename_i e i off len cap hs hd;cases he:bR E e with
  | none=>rw[he]at h;cases h
  | some ed=>
  rw[he]at h;simp only[WG,V9]at h;split at h
  ·obtain⟨b,hb,_,rfl⟩:=VR.aL.1 hx;split at h
   ·rename_i xs el fz ext own hl;cases hg:fU (Nat.ble (off+len) xs.length) with
    | none=>rw[hg]at h;cases h
    | some u=>
    rw[hg]at h;simp only[V9]at h;have hg:=Wu (kj hg);cases hbs:bytesOf ((xs.drop off).take len) with
    | none=>rw[hbs]at h;cases h
    | some ns=>
    rw[hbs]at h;cases h;obtain⟨_,_,b',o,Yy,ho,YA,_⟩:=hr.look hl;rw[hb]at Yy;cases Yy;obtain⟨ys,rest,rfl,Zn,_⟩:=YA;have hlen:=Zn.length
    have Zw:=run_loadCells (P:=E.P) (w:=w) (b:=b.1) (off:=off) (n:=len) (vs:=(ys.drop off).take len) (by
     intro k hk;rw[cV ho,WN,if_pos hk,W7];have:off+k<ys.length:=by omega
     simp[WD this]) (by simp;omega)
    rw[nK hbs ((Zn.drop off).take len)]at Zw;refine⟨rfl,c7.now hr ?_ (VR.ae.2 rfl)⟩;rw[run_convert_bytes_string w src dst e _ _ _ hs he hd,run_bytesToString w _ _ _ ns Zw,jW]
   ·cases h
  ·cases h
 ·-- bytes to bytes
  rename_i sd e i off len cap hs hd
  have main:∀ {xs:List SV} {el:TypeId} {fz:Nat × Nat} {ext:Option Nat},(fz=(0,0)\/fz=(1,0))->(src==dst)=true->bR E e=some (.int .u8)->s.look i=some (.row xs el fz ext,true)->
    some (SV.sl i off len cap,s.put i (.row xs el (1,0) ext))=some (y,s')->s'.ob=s.ob/\c7 E.P (convert src dst xv) ν M w0 w y s':=by
   intro xs el fz ext hfz heq he hl h;cases h;obtain⟨b,hb,hle,rfl⟩:=VR.aL.1 hx;obtain⟨_,_,b',o,Yy,ho,YA,_⟩:=hr.look hl;rw[hb]at Yy;cases Yy;obtain⟨ys,rest,rfl,Zn,hext⟩:=YA;have hu:E.P.underlying src=some (.slice sd):=hs;have Ξ:E.P.underlying dst=some (.slice e):=hd;have hu3:E.P.underlying e=some (.int .u8):=he
   have hfr:w.freeze ⟨b.1,(ys++rest).toArray.size,none⟩ 1={ w with heap:=w.heap.setIfInBounds b.1 (.cells (ys++rest).toArray el (js (1,0) (ys++rest).length)) }:=by
    unfold World.freeze;rw[if_neg (by omega)];congr 1;apply Xt;intro j;rw[XG,WO];by_cases ej:b.1=j
    ·subst ej;have YD:=(VY.1 ho).1;rw[if_pos rfl,if_pos rfl,if_pos YD,ho];have f1:∀ n,js (1,0) n=(n,n+1):=fun _=>rfl;rcases hfz with rfl|rfl
     ·simp[f1]
     ·simp[f1]
    ·rw[if_neg ej,if_neg ej]
   have Yt:(convert src dst (.slice (some ⟨b.1,off,none⟩) len (cap.getD (b.2 - off)))).run E.P w=.ok (.slice (some ⟨b.1,off,none⟩) len (cap.getD (b.2 - off))) (w.freeze ⟨b.1,(ys++rest).toArray.size,none⟩ 1):=by
    simp only[convert,Wf,Go.run_underlying hu,Go.run_underlying Ξ,Go.run_underlying hu3,V3,heq,markStringish,run_shape,jx ho,Wk];rfl
   refine⟨rfl,ν,_,_,aP.Le.refl _,Yt,VR.aL.2 ⟨b,hb,hle,rfl⟩,?_⟩;rw[hfr];exact hr.put hl hb ⟨ys,rest,rfl,Zn,hext⟩ rfl rfl rfl rfl
  split at h
  ·rename_i heq he hl;exact main (.inl rfl) heq he hl h
  ·rename_i heq he hl;exact main (.inr rfl) heq he hl h
  ·cases h
 ·-- a text to bytes
  rename_i e b hs hd;obtain rfl:=VR.ae.1 hx;cases he:bR E e with
  | none=>rw[he]at h;cases h
  | some ed=>
  rw[he]at h;simp only[WG,V9]at h;split at h
  ·cases hn:eW (.row (b.data.toList.map fun c=>SV.v (.int .u8 c.toNat)) e (1,0) (some 1)) s with
   | none=>rw[hn]at h;cases h
   | some p=>
   obtain⟨i,s1⟩:=p;rw[hn]at h;cases h;generalize Y0:(Question.appendCap b.size 0 e).cut (w.tape w.drawn (.appendCap b.size 0 e))=cap;have hle:b.size<=cap:=by rw[<- Y0];simp[Question.cut]
   have hq:(Question.appendCap b.size 0 e).forced=false:=rfl
   have hch:(choose (.appendCap b.size 0 e)).run E.P w=.ok cap { w with drawn:=w.drawn+1 }:=by
    rw[run_choose,hq,Y0];rfl
   let ys:List Value:=b.data.toList.map fun c=>Value.int .u8 c.toNat;let rest:List Value:=List.replicate (cap - b.size) (Value.int .u8 0);have ZQ:(ys++rest).length=cap:=by simp[ys,rest];change b.size+_=_;omega
   have hlits:au ν (b.data.toList.map fun c=>SV.v (.int .u8 c.toNat)) ys:=by
    have:=au.lits ν ys;rwa[WI]at this
   obtain⟨Yw,ν',Zb,hi,YK⟩:=gw hn (hr.drawn (w.drawn+1)) cap (r:=.cells (ys++rest).toArray e (cap,cap+1))
    (fun ν' Zb hi'=>⟨ys,rest,by rw[ZQ];rfl,hlits.mono Zb,by
     refine⟨by rw[ZQ];simpa using hle,_,hi',by rw[ZQ];simp⟩⟩)
   refine⟨Yw,ν',_,_,Zb,?_,VR.aL.2 ⟨_,hi,by simpa using hle,rfl⟩,YK⟩
   have hconv:(convert src dst (.string b)).run E.P w=(Conv.stringToBytes e b).run E.P w:=by
    have h1:E.P.underlying src=some .string:=hs;have h2:E.P.underlying dst=some (.slice e):=hd;have h3:E.P.underlying e=some (.int .u8):=he;simp[convert,Go.run_underlying h1,Go.run_underlying h2,Go.run_underlying h3]
   have harr:(b.data.map fun c=>Value.int .u8 c.toNat)++Array.replicate (cap - b.size) (Value.int .u8 0)=(ys++rest).toArray:=by
    apply Array.ext';simp[ys,rest]
   rw[hconv];simp only[Conv.stringToBytes,Wf,hch,V3,newRow,Yl,Wk,markStringish,harr];rw[run_shape]
   have hsh:({ w with drawn:=w.drawn+1,heap:=w.heap.push (.cells (ys++rest).toArray e) }:World).shape? w.heap.size=some (e,cap):=by
    rw[jx (c:=(ys++rest).toArray) (e:=e) (fz:=(0,0)) (by simp)];simp only[XK,ZQ]
   simp only[V3,hsh,run_freeze];have:=zJ { w with drawn:=w.drawn+1 } (ys++rest).toArray e cap 1 (by omega);simp only at this;rw[this];rfl
  ·cases h
 ·-- a pointer to a bare one
  rename_i t i off hs hd;obtain⟨b,hb,rfl⟩:=VR.aF.1 hx;split at h
  ·rename_i xs el fz ext own info hl hi;cases hc:(Nat.blt off xs.length&&!(info.size==0))
   ·rw[hc]at h;cases h
   rw[hc]at h;cases h;rw[V6]at hc;have h1:=dw.1 hc.1;have h2:info.size≠0:=by simpa using hc.2
   obtain⟨_,_,b',o,Yy,ho,YA,_⟩:=hr.look hl;rw[hb]at Yy;cases Yy;obtain⟨ys,rest,rfl,Zn,_⟩:=YA;have hlen:=Zn.length;refine⟨rfl,c7.now hr ?_ hx⟩;have YX:¬ (ys++rest).toArray.size<=off:=by simp;omega
   have hu:E.P.underlying src=some (.pointer t):=hs;have Ξ:E.P.underlying dst=some .unsafePointer:=hd;simp only[convert,Wf,Go.run_underlying hu,Go.run_underlying Ξ,V3,Conv.unsafePointer,tP ho,cellsIn,run_shape,jx ho,Wk,run_sizeOf hi];simp[h2,YX];omega
  ·cases h
 ·-- a bare pointer to another
  rename_i u i off hs hd;obtain⟨b,hb,rfl⟩:=VR.aF.1 hx;split at h
  ·rename_i xs el fz own info hl hi;cases hc:liesAt E.P E.P.depth el (xs.length / E.P.cellsOf el) off u 1
   ·rw[hc]at h;cases h
   rw[hc]at h;cases h;obtain⟨_,_,b',o,Yy,ho,YA,_⟩:=hr.look hl;rw[hb]at Yy;cases Yy;obtain⟨ys,rest,rfl,Zn,hext⟩:=YA;have hext:(ys++rest).length=xs.length:=hext;refine⟨rfl,c7.now hr ?_ hx⟩;have hu:E.P.underlying src=some .unsafePointer:=hs;have Ξ:E.P.underlying dst=some (.pointer u):=hd
   have hva:(variablesAt ⟨b.1,off,none⟩ u 1).run E.P w=.ok true w:=by
    simp only[variablesAt,Wf,run_program,V3,run_shape,jx ho,Wk,XK,hext,hc]
   simp only[convert,Wf,Go.run_underlying hu,Go.run_underlying Ξ,V3,Conv.unsafePointer,tP ho,run_sizeOf hi,hva];simp
  ·cases h
 ·cases h
theorem nk (b:ByteArray):gu (b.data.toList.map fun c=>(c.toNat:Int))=b:=by
 unfold gu;rw[WI]
 have:((fun n:Int=>UInt8.ofNat n.toNat) ∘ fun c:UInt8=>(c.toNat:Int))=id:=by
  funext c;simp
 rw[this,List.map_id]
theorem uY {b:ByteArray}{ys:List Value}(h:au ν (b.data.toList.map fun c=>SV.v (.int .u8 c.toNat)) ys):ys=(b.data.toList.map fun c=>(c.toNat:Int)).map (Value.int .u8):=by
 generalize b.data.toList=l at h;induction l generalizing ys with
 | nil=>exact h.ay
 | cons c l ih=>
  obtain⟨z,zs,rfl,hz,hs⟩:=h.cons_inv;rw[VR.ae.1 hz,ih hs];rfl
theorem xT {src dst:TypeId}{x y:SV}{b:ByteArray}{xv:Value}(h:qh E src dst x b s=some (y,s'))(hr:HR ν M w0 s w)(hx:VR ν x xv):
  s'.ob->s.ob/\c7 E.P (convert src dst xv) ν M w0 w y s':=by
 unfold qh at h;split at h
 ·rename_i e i off len cap hs hd;split at h
  ·rename_i xs he hl;cases h;intro ob;obtain⟨YG,Zw,hlen⟩:=ob;obtain⟨c,hc,_,rfl⟩:=VR.aL.1 hx;obtain⟨ys,Yt,hv,ξ⟩:=nD (E:=E) hl hr hc Zw (by rw[<- hlen];simp);have Yt:=Yt w.drawn;rw[uY hv]at Yt;refine⟨YG,c7.now (hr.same (SH.cn _ _)) ?_ (VR.ae.2 rfl)⟩;rw[run_convert_bytes_string w src dst e _ _ _ hs he hd,run_bytesToString w _ _ _ _ Yt,jW,nk]
  ·cases h
 ·cases h
theorem yF {src dst:TypeId}{x y:SV}{xv:Value}(h:tZ E src dst x s=some (y,s'))(hr:HR ν M w0 s w)(hx:VR ν x xv):
  s'.ob->s.ob/\c7 E.P (convert src dst xv) ν M w0 w y s':=by
 unfold tZ at h;split at h
 ·exact xT h hr hx
 ·exact fun ob=>let ⟨h1,h2⟩:=xA h hr hx;⟨h1 ▸ ob,h2⟩
end
section
variable {ν:aP}{M:Own}{w0 w:World}{s s':SH}{E:Env}
def dP (E:Env)(g:Sem Next)(ν:aP)(M:Own)(w0 w:World)(n:dG)(s':SH):Prop:=
 match n with
 | .val x=>∃ ν' w' y,ν.Le ν'/\(g.run E.P w=.ok (.value y) w'\/(g.run E.P w=.ok .skip w'/\y=undef))/\VR ν' x y/\HR ν' M w0 s' w'
 | .enter f args=>∃ a:List Value,au ν args a/\HR ν M w0 s' w/\g.run E.P w=(callFunc f a.toArray).run E.P w
 | .round i args=>∃ (a:List Value) (b:Nat × Nat),ν i=some b/\au ν args a/\HR ν M w0 s' w/\g.run E.P w=(Instr.yield b.1 a.toArray).run E.P w
 | .defer d=>∃ dv,AV ν d dv/\HR ν M w0 s' w/\g.run E.P w=.ok (.defer dv) w
theorem dP.uB {g:Sem Value}{x:SV}(h:c7 E.P g ν M w0 w x s'):dP E (do pure (.value (<- g))) ν M w0 w (.val x) s':=by
 obtain⟨ν',w',y,hle,Yt,hx,hr⟩:=h;exact⟨ν',w',y,hle,.inl (by simp[Yt]),hx,hr⟩
theorem dP.VG {g:Sem Unit}(h:vu E.P g ν M w0 w s'):dP E (do g;pure .skip) ν M w0 w (.val (.v undef)) s':=by
 obtain⟨ν',w',hle,Yt,hr⟩:=h;exact⟨ν',w',undef,hle,.inr ⟨by simp[Yt],rfl⟩,VR.ae.2 rfl,hr⟩
def uD (E:Env)(ν:aP)(tm:fR)(ρ:Operand->Value):Prop:=∀ x,VR ν (bq E tm x) (ρ x)
theorem zA {tm:fR}{ρ:Operand->Value}{l:List Operand}(h:lW E tm l=true)(hρ:uD E ν tm ρ):∀ x∈l,ρ x=(eM (bq E tm x)).getD undef:=by
 intro x hx;have hp:=Wn.1 h x hx;have hv:=hρ x;cases hz:eM (bq E tm x) with
 | none=>rw[hz]at hp;cases hp
 | some z=>exact gD hz hv
def lA:Op->Bool
 | .binOp ..|.unOp ..|.convert ..|.slice ..|.field ..|.typeAssert ..=>true
 | .call { callee:=.builtin _,.. }=>true
 | _=>false
theorem execOp_congr {o:Oper}(hk:lA o.op=true){ρ ρ':Operand->Value}(h:∀ x∈o.op.operands.toList,ρ x=ρ' x):execOp ρ o=execOp ρ' o:=by
 obtain⟨dst,op,type,pos,aft,guard⟩:=o;cases op<;>try cases hk
 case binOp op t x y yt=>
  have h1:=h x (by simp[Op.operands]);have h2:=h y (by simp[Op.operands]);simp only[execOp,h1,h2]
 case unOp op t x=>
  have h1:=h x (by simp[Op.operands]);simp only[execOp,h1]
 case convert a b x=>
  have h1:=h x (by simp[Op.operands]);simp only[execOp,h1]
 case slice t x lo hi mx=>
  have h1:=h x (by simp[Op.operands])
  have e:∀ (o:Option Operand),(∀ y∈o,ρ y=ρ' y)->o.map ρ=o.map ρ':=by
   intro o ho;cases o with
   | none=>rfl
   | some y=>simp[ho y rfl]
  have h2:=e lo (fun y hy=>h y (by cases hy;simp[Op.operands]));have h3:=e hi (fun y hy=>h y (by cases hy;simp[Op.operands]));have h4:=e mx (fun y hy=>h y (by cases hy;simp[Op.operands]));simp only[execOp,h1,h2,h3,h4]
 case field t x f=>
  have h1:=h x (by simp[Op.operands]);simp only[execOp,h1]
 case typeAssert x a b ok=>
  have h1:=h x (by simp[Op.operands]);simp only[execOp,h1]
 case call c=>
  obtain⟨callee,args,ats⟩:=c;cases callee<;>try cases hk
  rename_i b
  have h1:args.map ρ=args.map ρ':=by
   apply Array.map_congr_left;intro x hx;exact h x (by simp[Op.operands,Call.operands];simpa using hx)
  simp only[execOp,resolve,h1]
theorem FX {tm:fR}{o:Oper}{x:SV}(hk:lA o.op=true)(h:gH E tm o=some x){ρ:Operand->Value}(hρ:uD E ν tm ρ)(hr:HR ν M w0 s w):
  dP E (execOp ρ o) ν M w0 w (.val x) s:=by
 unfold gH at h;cases hp:lW E tm o.op.operands.toList
 ·rw[hp]at h;cases h
 ·rw[hp]at h;simp only[WE]at h;split at h
  ·rename_i v Yt;cases h;have hc:=execOp_congr hk (zA hp hρ);refine⟨ν,w,v,aP.Le.refl _,.inl ?_,VR.ae.2 rfl,hr⟩;rw[hc];exact jt Yt w
  ·cases h
theorem ir {tm:fR}{ρ:Operand->Value}(hρ:uD E ν tm ρ)(l:Array Operand):au ν (iZ E tm l) (l.toList.map ρ):=by
 unfold iZ;induction l.toList with
 | nil=>exact au.nil
 | cons x xs ih=>exact au.cons (hρ x) ih
theorem p7 {f:SV}{fv:Value}{args:List SV}{a:List Value}{n:dG}(h:lE f args=some n)(hf:VR ν f fv)(ha:au ν args a)(hr:HR ν M w0 s w):
  dP E (do let d <- Deferred.ofValue fv a.toArray;invoke d.target d.args) ν M w0 w n s:=by
 unfold lE at h;split at h
 ·rename_i g x y;cases h;obtain rfl:=VR.ae.1 hf;refine⟨x.toList++a++y.toList,((au.toList ν x).append ha).append (au.toList ν y),hr,?_⟩;simp[Deferred.ofValue,invoke];congr 2;apply Array.ext';simp
 ·rename_i g x y;cases h;obtain⟨x',y',rfl,hx,hy⟩:=VR.eH.1 hf;refine⟨x'++a++y',(hx.append ha).append hy,hr,?_⟩;simp[Deferred.ofValue,invoke]
 ·rename_i i;cases h;obtain⟨b,hb,rfl⟩:=VR.gh.1 hf;refine⟨a,b,hb,ha,hr,?_⟩;simp[Deferred.ofValue,invoke]
 ·cases h
theorem VR.lift:∀ (x:Value),VR ν (Go.Rx.lift x) x:=by
 intro x;cases x<;>first|exact VR.ae.2 rfl|exact VR.dr.2 ⟨_,rfl,VR.ae.2 rfl⟩
theorem Ar {recv:SV}{rv:Value}{name:String}{args:List SV}{a:List Value}{n:dG}(h:rR E recv name args=some n)(hf:VR ν recv rv)(ha:au ν args a)(hr:HR ν M w0 s w):
  dP E (invoke (.fn (.method name) #[]) (#[rv]++a.toArray)) ν M w0 w n s:=by
 unfold rR at h;cases h
end
section
variable {ν:aP}{M:Own}{w0 w:World}{s s':SH}{E:Env}
theorem gY {P:Program}(pt it ty e:TypeId)(hp:P.underlying pt=some (.pointer e))(hc:P.cellsOf e=1)(g cells:Nat)(hsh:w.shape? g=some (e,cells))(l:List Int)(h0:l≠[])(hn:l.length<=cells)(h63:l.length<=9223372036854775807)
  (hcell:∀ j x,l[j]?=some x->w.cell? ((⟨g,0,none⟩:Addr).add j)=some (.int .u8 x)):
  (Builtin.unsafeString_ #[pt,it] ty #[.pointer (some ⟨g,0,none⟩),.int .i64 l.length]).run P w=.ok (.string (gu l)) (w.freeze ⟨g,0,none⟩ l.length):=by
 have hl:l.length≠0:=by simpa using h0
 have hlb:(loadBytes ⟨g,0,none⟩ .empty l.length).run P w=.ok (gu l) w:=by
  have key:∀ (l:List Int) (off:Nat) (acc:ByteArray),(∀ j x,l[j]?=some x->w.cell? ⟨g,off+j,none⟩=some (.int .u8 x))->
    (loadBytes ⟨g,off,none⟩ acc l.length).run P w=.ok ⟨acc.data++(l.map fun n=>UInt8.ofNat n.toNat).toArray⟩ w:=by
   intro l;induction l with
   | nil=>intro off acc _;simp[loadBytes]
   | cons x l ih=>
    intro off acc h;have h1:=h 0 x rfl;rw[X6]at h1;simp only[Wm,loadBytes,Wf];rw[fC h1];simp only[V3,di]
    rw[ih (off+1) _ (fun j y hy=>by
     have:=h (j+1) y (by simpa using hy);rw[<- this];congr 2;omega)]
    simp only[ByteArray.push,WC];congr 2;apply Array.ext';simp[Nat.toUInt8]
  rw[key l 0 .empty (fun j x hx=>by rw[W8];have:=hcell j x hx;rwa[di,W8]at this)];have:ByteArray.empty.data=#[]:=rfl;simp[gu,this]
 have hlies:=Go.Lib.liesAt_bytes (P:=P) hc (cells / P.cellsOf e) l.length (by rw[hc];simpa using hn);have h63':¬ (9223372036854775807:Int)<(l.length:Int):=by omega
 obtain⟨pn,hdef⟩:∃ pn:Sem PUnit,Builtin.unsafeString_ #[pt,it] ty #[.pointer (some ⟨g,0,none⟩),.int .i64 l.length]=
   (do
    let n <- asInt (.int .i64 l.length);if n<0 then pn
    if n > IntKind.i64.max then unsupported (.unsafePointer "String: a length above the largest int")
    if n=0 then pure (.string .empty)
    else if <- variablesAt ⟨g,0,none⟩ (<- elemOf pt) n.toNat then do
     let s <- loadBytes ⟨g,0,none⟩ .empty n.toNat;freeze ⟨g,0,none⟩ n.toNat
     pure (.string s)
    else unsupported (.unsafePointer "String: not so many bytes at ptr")) := ⟨_, rfl⟩
 rw[hdef];have hmax:IntKind.i64.max=9223372036854775807:=rfl;have hneg:¬ (l.length:Int)<0:=by omega
 simp[asInt,asIntOf,hmax,h63',hneg,hl,variablesAt,hsh,elemOf,Go.run_underlying hp,hlies,hlb]
theorem jb {P:Program}{ats:Array TypeId}{ty:TypeId}{a:Addr}{l c:Nat}(hc:c≠0):(Builtin.unsafeSliceData_ ats ty #[.slice (some a) l c]).run P w=.ok (.pointer (some a)) w:=by
 have hdef:Builtin.unsafeSliceData_ ats ty #[.slice (some a) l c]=(if c≠0 then pure (.pointer (some a)) else do
   if (<- viewAt a.block).isSome then pure (.pointer (some a))
   else pure (.pointer (some ⟨<- newObj (.view a (<- elemOf ty)),0,none⟩))):=rfl
 rw[hdef,if_pos hc];rfl
theorem kC {ats:Array TypeId}{l:List TypeId}(h:ats.toList=l):ats=l.toArray:=by
 apply Array.ext';simpa using h
theorem y7 {t:TypeId}{ats:Array TypeId}{ty:TypeId}{x y:SV}{xv:Value}(h:vi E t x s=some y)(a0:ats[0]?=some t)(hx:VR ν x xv)(hr:HR ν M w0 s w):
  ∃ yv,(Builtin.len_ ats ty #[xv]).run E.P w=.ok yv w/\VR ν y yv:=by
 have b0:(#[xv]:Array Value)[0]?=some xv:=rfl;unfold vi at h;split at h
 ·rename_i e i off n cap hd;cases h;obtain⟨c,_,_,rfl⟩:=VR.aL.1 hx;refine⟨.int .i64 n,?_,VR.ae.2 rfl⟩;simp only[Builtin.len_,a0,b0,Wf,run_underlying hd,V3,Wk,goInt]
 ·rename_i e i off n adv hd;cases h;obtain⟨c,_,rfl⟩:=VR.fu.1 hx;refine⟨.int .i64 0,?_,VR.ae.2 rfl⟩;simp only[Builtin.len_,a0,b0,Wf,run_underlying hd,V3,Wk,goInt];rfl
 ·rename_i k e i hd;obtain⟨c,hc,rfl⟩:=VR.cQ.1 hx;split at h
  ·rename_i es clock own hl;cases h;obtain⟨_,_,c',o,ZI,ho,YA,_⟩:=hr.look hl;rw[hc]at ZI;cases ZI;obtain⟨l,rfl,hent⟩:=YA;refine⟨.int .i64 es.length,?_,VR.ae.2 rfl⟩;simp only[Builtin.len_,a0,b0,Wf,run_underlying hd,V3,run_getObj_map ho,Wk,goInt,XK,hent.length]
  ·cases h
 ·cases h
theorem yM {t:TypeId}{ats:Array TypeId}{ty:TypeId}{x y:SV}{xv:Value}(h:vm E t x=some y)(a0:ats[0]?=some t)(hx:VR ν x xv):
  ∃ yv,(Builtin.cap_ ats ty #[xv]).run E.P w=.ok yv w/\VR ν y yv:=by
 have b0:(#[xv]:Array Value)[0]?=some xv:=rfl;unfold vm at h;split at h
 ·rename_i e i off len n hd;cases h;obtain⟨c,_,_,rfl⟩:=VR.aL.1 hx;refine⟨.int .i64 n,?_,VR.ae.2 rfl⟩;simp only[WR]at b0 ⊢;simp only[Builtin.cap_,a0,b0,Wf,run_underlying hd,V3,Wk,goInt]
 ·cases h
theorem ot {pt it ty:TypeId}{x n y:SV}{b:ByteArray}{xv nv:Value}(h:ju E pt x n b s=some (y,s'))(hr:HR ν M w0 s w)(hx:VR ν x xv)(hn:VR ν n nv):
  s'.ob->s.ob/\c7 E.P (Builtin.unsafeString_ #[pt,it] ty #[xv,nv]) ν M w0 w y s':=by
 unfold ju at h;split at h
 ·rename_i i n;obtain⟨c,hc,rfl⟩:=VR.aF.1 hx;obtain rfl:=VR.ae.1 hn;split at h
  ·rename_i e xs el ext hd hl;cases hg:(e==el&&Nat.beq (E.P.cellsOf e) 1)
   ·rw[hg]at h;cases h
   rw[hg]at h;cases h;rw[V6]at hg;obtain rfl:e=el:=by simpa using hg.1
   have g4:=WM hg.2;intro ob;have ob:(s.jh ((0<n/\n<=2 ^ 40)/\n.toNat<=xs.length/\xs.take n.toNat=b.data.toList.map fun c=>SV.v (.int .u8 c.toNat))).ob:=ob;obtain⟨YG,g1,g2,htk⟩:=ob;have ZE:=hr.same (SH.cn s ((0<n/\n<=2 ^ 40)/\n.toNat<=xs.length/\xs.take n.toNat=b.data.toList.map fun c=>SV.v (.int .u8 c.toNat)));obtain⟨_,_,c',o,ZI,ho,YA,_⟩:=hr.look hl;rw[hc]at ZI;cases ZI;obtain⟨ys,rest,rfl,Zn,hext⟩:=YA;have hlen:=Zn.length;have hv:=Zn.take n.toNat;rw[htk]at hv;have hns:=uY hv;generalize hnsdef:(b.data.toList.map fun c=>(c.toNat:Int))=ns at hns
   have Zo:ns.length=n.toNat:=by
    have:=congrArg List.length hns;simp at this;omega
   refine⟨YG,ν,(w.freeze ⟨c.1,0,none⟩ ns.length),.string b,aP.Le.refl _,?_,VR.ae.2 rfl,?_⟩
   ·have Yt:=gY (P:=E.P) (w:=w) pt it ty e hd g4 c.1 (ys++rest).toArray.size (jx ho) ns (by intro e;rw[e]at Zo;simp at Zo;omega) (by simp;omega) (by omega) (by
     intro j x hj;rw[di,W8,cV ho];have hj':(ns.map (Value.int .u8))[j]?=some (.int .u8 x):=by simp[hj]
     rw[<- hns,WN]at hj';split at hj'
     ·simpa using YE hj'
     ·cases hj')
    have hnn:(n:Int)=(ns.length:Int):=by omega
    rw[hnn];have e:gu ns=b:=by rw[<- hnsdef,nk]
    rw[e]at Yt;exact Yt
   ·refine ZE.put hl hc (o:=.row xs e (0,n.toNat) ext) (r:=.cells (ys++rest).toArray e (0,n.toNat)) ⟨ys,rest,?_,Zn,hext⟩ ?_ ?_ ?_ ?_
    ·have:js (0,n.toNat) (ys++rest).length=(0,n.toNat):=rfl;rw[this]
    ·have hn0:ns.length≠0:=by omega
     unfold World.freeze;rw[if_neg hn0];apply Xt;intro j;rw[XG,WO];have h1:=(VY.1 ho).1;have h2:=(VY.1 ho).2;split
     ·rename_i ej;subst ej;simp[h1,h2,Zo]
     ·rfl
    all_goals (unfold World.freeze;split<;>rfl)
  ·cases h
 ·cases h
theorem zY {b:Builtin}{ats:Array TypeId}{args:List SV}{a:List Value}{x:SV}{ty:TypeId}{cs:Array Bool}(h:gl E b ats args s=some (x,s'))(ha:au ν args a)(hr:HR ν M w0 s w):
  s'.ob->s.ob/\dP E (builtin b ats ty cs a.toArray) ν M w0 w (.val x) s':=by
 have one:∀ {z:SV},au ν [z] a->∃ y,a=[y]/\VR ν z y:=by
  intro z ha;obtain⟨y,ys,rfl,hy,ZQ⟩:=ha.cons_inv;rw[ZQ.ay];exact⟨y,rfl,hy⟩
 have two:∀ {z u:SV},au ν [z,u] a->∃ y v,a=[y,v]/\VR ν z y/\VR ν u v:=by
  intro z u ha;obtain⟨y,ys,rfl,hy,ZQ⟩:=ha.cons_inv;obtain⟨v,vs,rfl,hv,hvs⟩:=ZQ.cons_inv;rw[hvs.ay];exact⟨y,v,rfl,hy,hv⟩
 unfold gl at h;split at h
 ·-- len
  split at h
  ·rename_i t ts z Z1;cases hz:vi E t z s with
   | none=>rw[hz]at h;cases h
   | some y0=>
   rw[hz]at h;cases h;obtain⟨y,rfl,hy⟩:=one ha;obtain⟨yv,Yt,hv⟩:=y7 (ats:=ats) (ty:=ty) hz (by rw[kC Z1];simp) hy hr;exact fun ob=>⟨ob,dP.uB (c7.now hr Yt hv)⟩
  ·cases h
 ·-- cap
  split at h
  ·rename_i t ts z Z1;cases hz:vm E t z with
   | none=>rw[hz]at h;cases h
   | some y0=>
   rw[hz]at h;cases h;obtain⟨y,rfl,hy⟩:=one ha;obtain⟨yv,Yt,hv⟩:=yM (w:=w) (ats:=ats) (ty:=ty) hz (by rw[kC Z1];simp) hy;exact fun ob=>⟨ob,dP.uB (c7.now hr Yt hv)⟩
  ·cases h
 ·-- append
  split at h
  ·rename_i st xt x0 y0 Z1;obtain⟨y,z,rfl,hy,hz⟩:=two ha;intro ob;obtain⟨YG,hg⟩:=Ah (ty:=ty) h hr hy hz ob;rw[kC Z1];exact⟨YG,dP.uB hg⟩
  ·cases h
 ·-- copy
  split at h
  ·rename_i dt ts x0 y0 Z1;obtain⟨y,z,rfl,hy,hz⟩:=two ha;intro ob;obtain⟨Yw,hg⟩:=E6 (ty:=ty) (rest:=ts) h hr hy hz;rw[kC Z1];exact⟨Yw ▸ ob,dP.uB hg⟩
  ·cases h
 ·-- delete
  split at h
  ·rename_i t t' m k Z1;obtain⟨y,z,rfl,hy,hz⟩:=two ha;intro ob;obtain⟨YG,hg⟩:=AG (ty:=ty) (rest:=[t']) h hr hy hz ob;rw[kC Z1];exact⟨YG,dP.uB hg⟩
  ·cases h
 ·-- a slice's data
  split at h
  ·rename_i z;obtain⟨y,rfl,hy⟩:=one ha;unfold qN at h;split at h
   ·rename_i i off len c;obtain⟨d,hd,_,rfl⟩:=VR.aL.1 hy;cases hask:s.ask E (!(c==0)) with
    | none=>rw[hask]at h;cases h
    | some s1=>
    rw[hask]at h;cases h;obtain⟨Ys,Yw⟩:=SH.eN hask;intro ob;have hc:c≠0:=by simpa using (Yw ob).2
    exact⟨(Yw ob).1,dP.uB (c7.now (hr.same Ys) (y:=.pointer (some ⟨d.1,off,none⟩)) (jb hc) (VR.aF.2 ⟨d,hd,rfl⟩))⟩
   ·rename_i i len;obtain⟨d,hd,hle,rfl⟩:=VR.aL.1 hy;cases hask:s.ask E (!(len==0)) with
    | none=>rw[hask]at h;cases h
    | some s1=>
    rw[hask]at h;cases h;obtain⟨Ys,Yw⟩:=SH.eN hask;intro ob;have hc:len≠0:=by simpa using (Yw ob).2
    simp only[W1]at hle;have hd2:d.2≠0:=by omega
    exact⟨(Yw ob).1,dP.uB (c7.now (hr.same Ys) (y:=.pointer (some ⟨d.1,0,none⟩)) (jb hd2) (VR.aF.2 ⟨d,hd,rfl⟩))⟩
   ·cases h
  ·cases h
 ·-- a text of bytes
  split at h
  ·rename_i pt it x0 n0 Z1;obtain⟨y,z,rfl,hy,hz⟩:=two ha;unfold nf at h;split at h
   ·intro ob;obtain⟨YG,hg⟩:=ot (ty:=ty) (it:=it) h hr hy hz ob;rw[kC Z1];exact⟨YG,dP.uB hg⟩
   unfold mg at h;split at h
   ·rename_i i n;obtain⟨c,hc,rfl⟩:=VR.aF.1 hy;obtain rfl:=VR.ae.1 hz;split at h
    ·rename_i e xs el ext hd hl;cases hg:fU (decide (0<n/\n<=2 ^ 40)&&Nat.ble n.toNat xs.length&&e==el&&Nat.beq (E.P.cellsOf e) 1) with
     | none=>rw[hg]at h;cases h
     | some u=>
     rw[hg]at h;simp only[WG,V9]at h;cases hb:bytesOf (xs.take n.toNat) with
     | none=>rw[hb]at h;cases h
     | some ns=>
     rw[hb]at h;cases h;have hg:=kj hg;rw[V6,V6,V6]at hg;obtain⟨⟨⟨g1,g2⟩,g3⟩,g4⟩:=hg;have g1:=Ws g1;have g2:=Wu g2;obtain rfl:e=el:=by simpa using g3
     have g4:=WM g4;obtain⟨_,_,c',o,ZI,ho,YA,_⟩:=hr.look hl;rw[hc]at ZI;cases ZI;obtain⟨ys,rest,rfl,Zn,hext⟩:=YA;have hlen:=Zn.length;have hns:=nK hb (Zn.take n.toNat)
     have Zo:ns.length=n.toNat:=by
      have:=congrArg List.length hns;simp at this;omega
     intro ob;refine⟨ob,dP.uB ⟨ν,(w.freeze ⟨c.1,0,none⟩ ns.length),.string (gu ns),aP.Le.refl _,?_,VR.ae.2 rfl,?_⟩⟩
     ·have Yt:=gY (P:=E.P) (w:=w) pt it ty e hd g4 c.1 (ys++rest).toArray.size (jx ho) ns (by intro e;rw[e]at Zo;simp at Zo;omega) (by simp;omega) (by omega) (by
       intro j x hj;rw[di,W8,cV ho];have hj':(ns.map (Value.int .u8))[j]?=some (.int .u8 x):=by simp[hj]
       rw[<- hns,WN]at hj';split at hj'
       ·simpa using YE hj'
       ·cases hj')
      rw[kC Z1];have hnn:(n:Int)=(ns.length:Int):=by omega
      rw[hnn];exact Yt
     ·refine hr.put hl hc (o:=.row xs e (0,n.toNat) ext) (r:=.cells (ys++rest).toArray e (0,n.toNat)) ⟨ys,rest,?_,Zn,hext⟩ ?_ ?_ ?_ ?_
      ·have:js (0,n.toNat) (ys++rest).length=(0,n.toNat):=rfl;rw[this]
      ·have hn0:ns.length≠0:=by omega
       unfold World.freeze;rw[if_neg hn0];apply Xt;intro j;rw[XG,WO];have h1:=(VY.1 ho).1;have h2:=(VY.1 ho).2;split
       ·rename_i ej;subst ej;simp[h1,h2,Zo]
       ·rfl
      all_goals (unfold World.freeze;split<;>rfl)
    ·cases h
   ·cases h
  ·cases h
 ·cases h
end
section
variable {ν:aP}{M:Own}{w0 w:World}{s s':SH}{E:Env}
def tA (E:Env)(g:Sem Next)(ν:aP)(M:Own)(w0 w:World)(s:SH)(L:List (dG × SH)):Prop:=
 ∃ p∈L,p.2.ob->s.ob/\dP E g ν M w0 w p.1 p.2
theorem tA.one {g:Sem Next}{n:dG}(h:s'.ob->s.ob/\dP E g ν M w0 w n s'):tA E g ν M w0 w s [(n,s')]:=⟨_,Wl.2 rfl,h⟩
theorem dP.yL {g:Sem Value}{x:SV}{y:Value}(hr:HR ν M w0 s' w)(h:g.run E.P w=.ok y w)(hx:VR ν x y):dP E (do pure (.value (<- g))) ν M w0 w (.val x) s':=
 dP.uB (c7.now hr h hx)
theorem dP.value {x:SV}{y:Value}(hr:HR ν M w0 s' w)(hx:VR ν x y):dP E (pure (.value y)) ν M w0 w (.val x) s':=
 ⟨ν,w,y,aP.Le.refl _,.inl rfl,hx,hr⟩
theorem pB {tm:fR}{ρ:Operand->Value}(hρ:uD E ν tm ρ):∀ (l:List (Nat × Operand)),od ν (l.map fun (i,x)=>(i,bq E tm x)) (l.map fun (i,x)=>(i,ρ x))
 | []=>.nil
 | (_,x)::l=>.cons (hρ x) (pB hρ l)
theorem fH {tm:fR}{ρ:Operand->Value}(hρ:uD E ν tm ρ):∀ (o:Option Operand),uF ν (o.map (bq E tm)) (o.map ρ)
 | none=>.none
 | some x=>.some (hρ x)
theorem SV.yi {x:SV}{l:List SV}{y:Value}(h:x.tuple=some l)(hv:VR ν x y):∃ a:List Value,y=.tuple a.toArray/\au ν l a:=by
 unfold SV.tuple at h;split at h
 ·cases h;exact VR.cz.1 hv
 ·rename_i vs;cases h;obtain rfl:=VR.ae.1 hv;exact⟨vs.toList,by simp,au.lits ν _⟩
 ·cases h
theorem kG {α β:Type}(l:Array α)(f:α->β):l.map f=(l.toList.map f).toArray:=by
 apply Array.ext';simp
theorem Bq {f:SV}{fv:Value}{args:List SV}{a:List Value}{d:ry}(h:oQ f args=some d)(hf:VR ν f fv)(ha:au ν args a):
  ∃ dv,AV ν d dv/\Deferred.ofValue fv a.toArray=pure dv:=by
 unfold oQ at h;cases h
theorem vp {x y:SV}{xv yv:Value}{op:BinOp}{soft:Bool}{a b:ByteArray}(h:A5 x y op soft=some (a,b))(hx:VR ν x xv)(hy:VR ν y yv):xv=.string a/\yv=.string b/\op=.add:=by
 unfold A5 at h;split at h
 ·cases h;exact⟨VR.ae.1 hx,VR.ae.1 hy,rfl⟩
 ·cases h
theorem tD {P:Program}(w:World)(t:TypeId)(x y:Operand){a b:ByteArray}(h:a.size+b.size<=9223372036854775807):
  (do eqGuard .add t x y (.string a) (.string b);binOp .add t (.string a) (.string b)).run P w=.ok (.string (a++b)) w:=by
 have hn:¬ (((a.size+b.size:Nat):Int)>IntKind.i64.max):=by
  have:IntKind.i64.max=9223372036854775807:=rfl;rw[this];omega
 simp[eqGuard,binOp,Op.stringOp,hn];omega
theorem L9 {tm:fR}{o:Oper}{L:List (dG × SH)}{ρ:Operand->Value}(h:j2 E tm o s=some L)(hr:HR ν M w0 s w)(hρ:uD E ν tm ρ):
  tA E (execOp ρ o) ν M w0 w s L:=by
 have vV:∀ {x:Option SV} {g:Sem Value},(x.map fun x=>[(dG.val x,s)])=some L->(∀ x0,x=some x0->∃ y,g.run E.P w=.ok y w/\VR ν x0 y)->tA E (do pure (.value (<- g))) ν M w0 w s L:=by
  intro x g h hg;cases x with
  | none=>cases h
  | some x0=>
   cases h;obtain⟨y,Yt,hy⟩:=hg x0 rfl;exact .one fun ob=>⟨ob,.yL hr Yt hy⟩
 have vsV:∀ {x:Option (SV × SH)} {g:Sem Value},(x.map fun x=>[(dG.val x.1,x.2)])=some L->(∀ x0 s',x=some (x0,s')->s'.ob->s.ob/\c7 E.P g ν M w0 w x0 s')->tA E (do pure (.value (<- g))) ν M w0 w s L:=by
  intro x g h hg;cases x with
  | none=>cases h
  | some p=>
   obtain⟨x0,s'⟩:=p;cases h;exact .one fun ob=>⟨(hg x0 s' rfl ob).1,.uB (hg x0 s' rfl ob).2⟩
 have uV:∀ {x:Option SH} {g:Sem Unit},(x.map fun s=>[(dG.val (.v undef),s)])=some L->(∀ s',x=some s'->s'.ob->s.ob/\vu E.P g ν M w0 w s')->tA E (do g;pure .skip) ν M w0 w s L:=by
  intro x g h hg;cases x with
  | none=>cases h
  | some s'=>cases h;exact .one fun ob=>⟨(hg s' rfl ob).1,.VG (hg s' rfl ob).2⟩
 have Zc:∀ (hk:lA o.op=true),((gH E tm o).map fun x=>[(dG.val x,s)])=some L->tA E (execOp ρ o) ν M w0 w s L:=by
  intro hk h;cases hp:gH E tm o with
  | none=>rw[hp]at h;cases h
  | some x=>rw[hp]at h;cases h;exact .one fun ob=>⟨ob,FX hk hp hρ hr⟩
 obtain⟨dst,op,type,pos,aft,guard⟩:=o;cases op with
 | move x=>cases h;exact .one fun ob=>⟨ob,.value hr (hρ x)⟩
 | assign x=>cases h;exact .one fun ob=>⟨ob,.value hr (hρ x)⟩
 | pick c a b=>
  simp only[j2]at h;split at h
  ·rename_i t hc;have hcv:=hρ c;rw[hc]at hcv;have hcv:=VR.ae.1 hcv;cases Y8:s.dec E t with
   | mk u s1=>
   rw[Y8]at h;cases h;obtain⟨Ys,Yw⟩:=SH.fZ Y8;refine .one fun ob=>⟨(Yw ob).1,ν,w,if u=true then ρ a else ρ b,aP.Le.refl _,.inl ?_,?_,hr.same Ys⟩
   ·have:=(Yw ob).2;simp[execOp,hcv,asBool,this]
   ·cases u
    ·exact hρ b
    ·exact hρ a
  ·cases h
 | alloc t=>
  exact vsV h fun x0 s' e ob=>by
   obtain⟨h1,h2⟩:=EL (E:=E) e hr;exact⟨h1 ▸ ob,h2⟩
 | box t x=>
  exact vsV h fun x0 s' e ob=>by
   obtain⟨h1,h2⟩:=Cx (E:=E) e hr (hρ x);exact⟨h1 ▸ ob,h2⟩
 | build t ps=>
  refine vV h fun x0 e=>?_;have:=vg (w:=w) e (pB hρ ps.toList);rw[kG];exact this
 | buildSlice t n ps=>
  refine vsV h fun x0 s' e ob=>?_;obtain⟨h1,h2⟩:=uy e hr (pB hρ ps.toList);refine⟨h1 ▸ ob,?_⟩;rw[kG];exact h2
 | insert t m k x=>exact uV h fun s' e ob=>ny e hr (hρ m) (hρ k) (hρ x) ob
 | load t a=>
  refine vsV h fun x0 s' e ob=>?_;obtain⟨Ys,hg⟩:=tE e hr (hρ a);obtain⟨YG,y,Yt,hy⟩:=hg ob;exact⟨YG,c7.now (hr.same Ys) Yt hy⟩
 | store t a x=>
  refine uV h fun s' e ob=>?_;exact DV e hr (hρ a) (hρ x) ob
 | ready g=>cases h
 | waits g=>cases h
 | nilCheck x=>
  have hx:=hρ x;simp only[j2]at h;split at h
  ·rename_i i off hc;rw[hc]at hx;cases h;obtain⟨b,hb,he⟩:=VR.aF.1 hx;refine .one fun ob=>⟨ob,ν,w,ρ x,aP.Le.refl _,.inl ?_,hx,hr⟩;simp only[execOp,he,Wk]
  ·rename_i t y hc;rw[hc]at hx;cases h;obtain⟨b,he,hb⟩:=VR.dr.1 hx;refine .one fun ob=>⟨ob,ν,w,ρ x,aP.Le.refl _,.inl ?_,hx,hr⟩;simp only[execOp,he,Wk]
  ·rename_i f a b hc;rw[hc]at hx;cases h;obtain⟨a',b',he,_⟩:=VR.eH.1 hx;refine .one fun ob=>⟨ob,ν,w,ρ x,aP.Le.refl _,.inl ?_,hx,hr⟩;simp only[execOp,he,Wk]
  ·rename_i i hc;rw[hc]at hx;cases h;obtain⟨b,hb,he⟩:=VR.gh.1 hx;refine .one fun ob=>⟨ob,ν,w,ρ x,aP.Le.refl _,.inl ?_,hx,hr⟩;simp only[execOp,he,Wk]
  ·rename_i f a b hc;rw[hc]at hx;cases h;have he:=VR.ae.1 hx;refine .one fun ob=>⟨ob,ν,w,ρ x,aP.Le.refl _,.inl ?_,hx,hr⟩;simp only[execOp,he,Wk]
  ·cases h
 | binOp op t x y yt=>
  simp only[j2]at h;split at h
  ·rename_i r he;cases h;obtain⟨p,hs,Yt⟩:=CJ (r:=r.1) (s':=r.2) he (hρ x) (hρ y);refine .one fun ob=>?_;rw[hs]at ob;obtain⟨YG,hp⟩:=ob;refine⟨YG,?_⟩;rw[hs];exact .yL (hr.same (SH.cn _ _)) (y:=.bool r.1) (Yt _ _ _ hp) (VR.ae.2 rfl)
  split at h
  ·rename_i a b hab;cases h;refine .one fun ob=>?_;obtain⟨YG,hle⟩:=ob;obtain⟨hx,hy,rfl⟩:=vp hab (hρ x) (hρ y);refine⟨YG,.yL (hr.same (SH.cn _ _)) (y:=.string (a++b)) ?_ (VR.ae.2 rfl)⟩;rw[hx,hy];exact tD w t x y hle
  split at h
  ·exact Zc rfl h
  ·have ef:∀ (r:Bool) (s':SH),xh E t (bq E tm x) (bq E tm y) s=some (r,s')->_:=fun r s' e=>oP (w:=w) e (hρ x) (hρ y);split at h
   ·cases he:xh E t (bq E tm x) (bq E tm y) s with
    | none=>
     rw[he]at h;cases hfar:iF E t (bq E tm x) (bq E tm y) s
     ·rw[hfar]at h;exact Zc rfl h
     ·rw[hfar]at h;simp only[WE]at h;cases h;obtain⟨h1,h2,h3,_⟩:=ua hfar hr (hρ x) (hρ y);refine .one fun ob=>⟨ob,.yL hr (y:=.bool false) ?_ (VR.ae.2 rfl)⟩;simp only[Wf,h2,V3,h3,h1,Wk]
    | some p=>
     obtain⟨r,s1⟩:=p;rw[he]at h;cases h;obtain⟨rfl,h1,h2,h3,_⟩:=ef r s1 he;refine .one fun ob=>⟨ob,.yL hr (y:=.bool r) ?_ (VR.ae.2 rfl)⟩;simp only[Wf,h2,V3,h3,h1,Wk]
   ·cases he:xh E t (bq E tm x) (bq E tm y) s with
    | none=>
     rw[he]at h;cases hfar:iF E t (bq E tm x) (bq E tm y) s
     ·rw[hfar]at h;exact Zc rfl h
     ·rw[hfar]at h;simp only[WE]at h;cases h;obtain⟨h1,h2,_,h3⟩:=ua hfar hr (hρ x) (hρ y);refine .one fun ob=>⟨ob,.yL hr (y:=.bool true) ?_ (VR.ae.2 rfl)⟩;simp only[Wf,h2,V3,h3,h1,Wk,W0]
    | some p=>
     obtain⟨r,s1⟩:=p;rw[he]at h;cases h;obtain⟨rfl,h1,h2,_,h3⟩:=ef r s1 he;refine .one fun ob=>⟨ob,.yL hr (y:=.bool !r) ?_ (VR.ae.2 rfl)⟩;simp only[Wf,h2,V3,h3,h1,Wk]
   ·cases h
 | unOp op t x=>exact Zc rfl h
 | convert src dst x=>
  simp only[j2]at h;split at h
  ·rename_i r hc;refine vsV (x:=some r) h fun x0 s' e ob=>?_;cases e;exact yF hc hr (hρ x) ob
  ·split at h
   ·exact Zc rfl h
   ·cases h
 | sliceToArrayPointer dst x=>cases h
 | makeInterface t x=>
  simp only[j2]at h;split at h
  ·cases h
  ·rename_i d hnd hd;refine vV (x:=some _) h fun x0 e=>?_;cases e;refine⟨.iface t (ρ x),?_,VR.dr.2 ⟨_,rfl,hρ x⟩⟩;simp only[Instr.makeInterface,Wf,run_underlying (by assumption),V3];cases d<;>first|rfl|exact (hnd _ rfl).elim
  ·cases h
 | makeFunc fn a b=>
  simp only[j2]at h;split at h
  ·refine vV (x:=some _) h fun x0 e=>?_;cases e;refine⟨_,rfl,VR.eH.2 ⟨_,_,?_,ir hρ a,ir hρ b⟩⟩;rw[kG a,kG b]
  ·cases h
 | makeMap t r=>
  cases r with
  | some r=>cases h
  | none=>
   simp only[j2]at h;cases hn:eW (.map [] 0) s with
   | none=>rw[hn]at h;cases h
   | some p=>
    obtain⟨i,s1⟩:=p;rw[hn]at h;cases h;obtain⟨Yw,ν',hle,hi,YK⟩:=gw hn hr 0 (r:=.map #[] 0) (fun _ _ _=>⟨[],rfl,rfl⟩);refine .one fun ob=>⟨Yw ▸ ob,.uB ⟨ν',_,_,hle,?_,VR.cQ.2 ⟨_,hi,rfl⟩,YK⟩⟩;simp only[Instr.makeMap,Option.map_none,Wf,Yl,V3,Wk]
 | makeChan t x=>cases h
 | makeSlice t l c=>cases h
 | slice t x lo hi mx=>
  simp only[j2]at h;split at h
  ·rename_i r hc;refine vsV (x:=some r) h fun x0 s' e ob=>?_;cases e;obtain⟨Ys,hg⟩:=mE (w:=w) hc (hρ x) (fH hρ lo) (fH hρ hi) (fH hρ mx);obtain⟨YG,y,Yt,hy⟩:=hg ob;exact⟨YG,c7.now (hr.same Ys) Yt hy⟩
  ·split at h
   ·rename_i l hl;cases h;obtain⟨p,hp,Ys,hg⟩:=sW (w:=w) hl (hρ x) (fH hρ lo) (fH hρ hi) (fH hρ mx);refine⟨_,Wb.2 ⟨p,hp,rfl⟩,fun ob=>?_⟩;obtain⟨YG,y,Yt,hy⟩:=hg ob;exact⟨YG,.uB (c7.now (hr.same Ys) Yt hy)⟩
   split at h
   ·exact Zc rfl h
   ·cases h
 | fieldAddr t x f=>exact vV h fun x0 e=>nq e (hρ x)
 | field t x f=>
  simp only[j2]at h;split at h
  ·exact Zc rfl h
  ·exact vV h fun x0 e=>vS e (hρ x)
 | indexAddr t x i=>
  refine vsV h fun x0 s' e ob=>?_;obtain⟨Ys,hg⟩:=iD (w:=w) e (hρ x) (hρ i);obtain⟨YG,y,Yt,hy⟩:=hg ob;exact⟨YG,c7.now (hr.same Ys) Yt hy⟩
 | index t x i=>
  refine vsV h fun x0 s' e ob=>?_;obtain⟨Ys,hg⟩:=mF (w:=w) e (hρ x) (hρ i);obtain⟨YG,y,Yt,hy⟩:=hg ob;exact⟨YG,c7.now (hr.same Ys) Yt hy⟩
 | lookup t m k ok=>
  refine vsV h fun x0 s' e ob=>?_;obtain⟨Ys,hg⟩:=ta e hr (hρ m) (hρ k);obtain⟨YG,y,Yt,hy⟩:=hg ob;exact⟨YG,c7.now (hr.same Ys) Yt hy⟩
 | mapUpdate t m k x=>exact uV h fun s' e ob=>ny e hr (hρ m) (hρ k) (hρ x) ob
 | mapEntry t m k=>cases h
 | entryStore t m st x=>cases h
 | range t x=>
  refine vsV h fun x0 s' e ob=>?_;obtain⟨h1,h2⟩:=Dj e hr (hρ x);exact⟨h1 ▸ ob,h2⟩
 | next it b=>
  simp only[j2]at h;cases hn:kU (bq E tm it) b s with
  | none=>rw[hn]at h;cases h
  | some l=>
   rw[hn]at h;cases h;obtain⟨p,hp,Yw,hg⟩:=BP (ty:=type) hn hr (hρ it);exact⟨_,Wb.2 ⟨p,hp,rfl⟩,fun ob=>⟨Yw ▸ ob,.uB hg⟩⟩
 | typeAssert x xt at_ ok=>
  simp only[j2]at h;split at h
  ·exact Zc rfl h
  ·exact vV h fun x0 e=>lK (xt:=xt) e (hρ x)
 | entry it=>
  simp only[j2]at h;split at h
  ·rename_i r he;cases h;obtain⟨Ys,hq⟩:=Bb (y:=r.1) (s':=r.2) he;refine .one fun ob=>?_;obtain⟨YG,hx⟩:=hq ob;obtain⟨v,Yt,hv⟩:=u4 (E:=E) hx hr (hρ it);exact⟨YG,.yL (hr.same Ys) Yt hv⟩
  ·exact vV h fun x0 e=>u4 e hr (hρ it)
 | extract t i=>
  simp only[j2]at h;split at h
  ·rename_i l hl;refine vV h fun x0 e=>?_;obtain⟨a,he,ha⟩:=SV.yi hl (hρ t);obtain⟨y,hy,hv⟩:=ha.get e;refine⟨y,?_,hv⟩;rw[he];simp[Instr.extract,hy]
  ·cases h
 | call c=>
  obtain⟨callee,args,ats⟩:=c;have ha:=ir hρ args;have harr:args.map ρ=(args.toList.map ρ).toArray:=by apply Array.ext';simp
  cases callee with
  | value f=>
   simp only[j2]at h;cases hc:lE (bq E tm f) (iZ E tm args) with
   | none=>rw[hc]at h;cases h
   | some n=>
    rw[hc]at h;cases h;refine .one fun ob=>⟨ob,?_⟩;have:=p7 (E:=E) hc (hρ f) ha hr;simpa only[execOp,resolve,harr] using this
  | invoke r name=>
   simp only[j2]at h;cases hc:rR E (bq E tm r) name (iZ E tm args) with
   | none=>rw[hc]at h;cases h
   | some n=>
    rw[hc]at h;cases h;refine .one fun ob=>⟨ob,?_⟩;have:=Ar (E:=E) hc (hρ r) ha hr;simp only[execOp,resolve,harr];exact this
  | builtin b=>
   simp only[j2]at h;split at h
   ·rename_i r hc;obtain⟨x0,s1⟩:=r;cases h;refine .one fun ob=>?_;have:=zY (ty:=type) (cs:=args.map fun|.const _=>true|_=>false) hc ha hr ob;refine⟨this.1,?_⟩;simp only[execOp,resolve,harr];exact this.2
   ·exact Zc rfl h
 | go c=>cases h
 | defer c=>
  obtain⟨callee,args,ats⟩:=c;have ha:=ir hρ args;have harr:args.map ρ=(args.toList.map ρ).toArray:=by apply Array.ext';simp
  cases callee with
  | value f=>
   simp only[j2]at h;cases hc:oQ (bq E tm f) (iZ E tm args) with
   | none=>rw[hc]at h;cases h
   | some d=>
    rw[hc]at h;cases h;obtain⟨dv,hd,Yt⟩:=Bq hc (hρ f) ha;refine .one fun ob=>⟨ob,dv,hd,hr,?_⟩;simp only[execOp,resolve,harr,Yt];rfl
  | invoke r name=>cases h
  | builtin b=>cases h
 | panic x=>cases h
 | send c x=>cases h
 | recv t c ok=>cases h
 | select cs b=>cases h
end
end Go.Rx
