/- What the law VaultLoads leans on, part 3: the symbolic executor, proved sound, contracts of functions, plain lemmas. By an AI agent. -/
import Derived.Test.YtcbokmadfcedaaaGreatDoorPk2
import Derived.Deep.Slices
import Derived.Deep.Fields
import Derived.Lib.Join
import Derived.Lib.SplitLaws
import Derived.SevenTiedAt
import Derived.Stop.Joined
import Derived.Lib.LaidTab
import Derived.Test.YtcbokmadfcedaaaGreatDoorChecked
import Derived.IntWalk
import Derived.Shelf.LaysM
import Derived.Shelf.Strings.Cut
import Derived.Shelf.Small.Strs
import Derived.WalkSmall
import Derived.Shelf.Bytes.SlClone
import Derived.SizedLaws
import Derived.WalkKit
import Derived.Lib.Hide
import Derived.Laws.Cover1
import Derived.Shelf.SlSortCmp.NoneTotal
import Derived.Shelf.SlIter.Collect
import Derived.Shelf.SlIter.Nil
import Derived.Shelf.Bytes.SlEqualAll
set_option linter.unusedSimpArgs false
set_option linter.unusedVariables false
namespace Go.Rx
open Go.RowKit (Below)

abbrev PS:=List Value→Option (Value × Prop)

def eD (g:PS):List SV→SH→Option (SV × SH):=fun args s=>
 match gd args with
 | some l=>match g l with
  | some (v,p)=>some (.v v,s.dw p)
  | none=>none
 | none=>none

def bH (P:Program) (X:World→Prop) (r:FuncId × PS):Prop:=
 (∃ fn, P.funcs[r.1]? = some fn ∧ fn.body.isSome = true ∧ (fn.name == "runtime.NumGoroutine") = false) ∧
  ∀ args v p,r.2 args=some (v,p)→p→∀ w,X w→Calls P r.1 args.toArray w fun e w'=>Below w.heap.size w w'∧e=.returned v

def xw (l:List (FuncId × PS)):FuncId→Option (List SV→SH→Option (SV × SH)):=fun f=>(l.lookup f).map eD

theorem nV {α:Type} {l:List (Nat × α)} {j:Nat} {i:α} (h:l.lookup j=some i):(j,i)∈l:=by
 induction l with
 | nil=>cases h
 | cons r l ih=>
  obtain ⟨g',k'⟩:=r
  rw [List.lookup_cons] at h
  split at h
  ·rename_i e
   cases h
   have e:j=g':=by simpa using e
   rw [e];exact List.mem_cons_self
  ·exact List.mem_cons_of_mem _ (ih h)

section
variable {E:Env} {ν:aA} {M:Own} {w0 w:World} {s s':SH}

theorem cV.of {X:World→Prop} {l:List (FuncId × PS)} (hE:E.sums=xw l) (h:∀ r∈l,bH E.P X r) (hX:∀ ν s w,HR ν M w0 s w→GR ν E→X w):cV E M w0:=by
 intro f g hg args x s s' hx
 rw [hE] at hg
 unfold xw at hg
 obtain ⟨ps,hps,rfl⟩:=Option.map_eq_some_iff.1 hg
 obtain ⟨⟨fn,hf,hb,hn⟩,hc⟩:=h _ (nV hps)
 unfold eD at hx
 split at hx
 ·rename_i vs hvs
  split at hx
  ·rename_i v p hp
   cases hx
   refine fun ob=>⟨ob.1,fun ν w a hr hgr ha=>?_⟩
   obtain rfl:=eF hvs ha
   refine ⟨fU hf (by intro e;rw [e] at hb;cases hb) (by intro e;rw [e] at hn;simp at hn),?_⟩
   exact (hc a v p hp ob.2 w (hX ν s w hr hgr)).mono fun e w' ⟨hbel,he⟩=>⟨v,he,.old hbel (.same (SH.aH _ _) (VR.ab.2 rfl))⟩
  ·cases hx
 ·cases hx


def reach (E:Env) (k n:Nat) (S:SM) (o:List (Nat × c9)) (ren:List (Nat × Nat)) (eqs:List Nat) (F:SF) (d:Nat) (l:List (Option (SO × Bool))):List Prop:=
 match Fl E k n (S.with o) with | some T=>fits E ren eqs F d l T++T.mem.obl | none=>[False]
def dC (E:Env) (k n:Nat) (S:SM) (o:List (Nat × c9)):List SI:=match Fl E k n (S.with o) with | some T=>T.top.todo | none=>[]

def au (E:Env) (f:FuncId) (n:Nat) (S:SM) (o:List (Nat × c9)) (v:Value):List Prop:=
 match rQ E SM.over n (S.with o) with
 | some T=>match nk E f T with
  | some (y,s')=>match cU y with
   | some z=>(z=v)::s'.obl
   | none=>[False]
  | none=>[False]
 | none=>[False]

variable {cs0:List Frame} {f:FuncId} {R:Ending→World→Prop}

theorem eU {S:SM} {x:SV} (h:nk E f S=some (x,s')):s'.ob→S.mem.ob:=by
 unfold nk at h
 cases hov:(S.over&&Nat.beq S.top.fn f)
 ·rw [hov] at h;cases h
 ·rw [hov] at h
  simp only [cond_true] at h
  split at h
  ·exact kN h
  ·cases h

theorem ao.reach (K:aE E M w0) {k n d:Nat} {S:SM} {o:List (Nat × c9)} {ren:List (Nat × Nat)} {eqs:List Nat} {F:SF} {l:List (Option (SO × Bool))} (h:af (Go.Rx.reach E k n S o ren eqs F d l)) (ht:dC E k n S o=F.todo)
  (hν:∀ i b,ν i=some b→ren.lookup i=some i) (hs:ao E M w0 cs0 f R ν (SM.at F d l)):ao E M w0 cs0 f R ν S:=by
 unfold Go.Rx.reach at h
 unfold dC at ht
 split at h
 ·rename_i T hT
  rw [hT] at ht
  obtain ⟨h1,h2⟩:=cw.1 h
  exact ao.Fl K hT h2 (ao.fits h1 ht hν hs)
 ·exact aC h

theorem ao.au (K:aE E M w0) {n:Nat} {S:SM} {o:List (Nat × c9)} {v:Value} (h:af (Go.Rx.au E f n S o v))
  (hR:∀ ν' M1 w1 s' w',ν.Le ν'→bk M w0 M1 w1→HR ν' M1 w1 s' w'→R (.returned v) w'):ao E M w0 cs0 f R ν S:=by
 unfold Go.Rx.au at h
 split at h
 ·rename_i T hT
  split at h
  ·rename_i y s' hend
   split at h
   ·rename_i z hz
    obtain ⟨h1,h2⟩:=ku.1 h
    subst h2
    refine ao.go K hT (eU hend h1) (ao.done hend h1 fun ν' M1 w1 w' u hle hB hv hr hg=>?_)
    rw [fi hz hv]
    exact hR ν' M1 w1 s' w' hle hB hr
   ·exact aC h
  ·exact aC h
 ·exact aC h


def ax (l:List (Nat × Nat)):aA:=fun i=>l[i]?
def az (l:List (Nat × Nat)) (os:List (SO × Bool)):Own:=⟨fun b=>∃ (i:Nat) (o:SO) (c:Nat),os[i]?=some (o,true)∧l[i]?=some (b,c),fun b=>∃ (i:Nat) (o:SO) (c:Nat),os[i]?=some (o,false)∧l[i]?=some (b,c),fun _=>False⟩

theorem qk {d:Nat} {l:List (Nat × Nat)} {os:List (SO × Bool)} (hlen:l.length=os.length) (hd:os.length≤2 ^ d) (hn:(l.map (·.1)).Nodup)
  (ho:∀ (i:Nat) (o:SO) (m:Bool) (b c:Nat),os[i]?=some (o,m)→l[i]?=some (b,c)→∃ r,w.heap[b]?=some r∧OR (ax l) i o r):HR (ax l) (az l os) w (bc d os.length 0 (os.map some)) w:=by
 have hget:∀ i,i<2 ^ d→(bc d os.length 0 (os.map some)).H.get i=os[i]?:=by
  intro i hi
  obtain ⟨_,hf⟩:=lN (os.map some) 0 (Tr.mk none d) (Tr.iR _ _) (by simpa using hd)
  have:=hf i hi
  rw [if_pos (Nat.zero_le _),Tr.rD,Nat.sub_zero,List.getElem?_map] at this
  rw [show (bc d os.length 0 (os.map some)).H=Tr.fill (Tr.mk none d) 0 (os.map some) from rfl,this]
  cases os[i]? <;> rfl
 have hli:∀ (i:Nat) (x:SO × Bool),os[i]?=some x→∃ (b c:Nat),l[i]?=some (b,c):=by
  intro i x hx
  have hlt:=(List.getElem?_eq_some_iff.1 hx).1
  exact ⟨(l[i]'(by omega)).1,(l[i]'(by omega)).2,List.getElem?_eq_getElem (by omega)⟩
 refine ⟨(lN (os.map some) 0 (Tr.mk none d) (Tr.iR _ _) (by simpa using hd)).1,fun i hi=>?_,fun i hi=>?_,fun i hi x hx=>?_,fun i j hi hj hgi hgj b c hb hc e=>?_,Nat.le_refl _,fun _ _ _=>rfl,fun i hi x hx hf b hb=>?_,rfl,rfl,rfl⟩
 ·have hi:2 ^ d≤i:=hi
  exact List.getElem?_eq_none (by omega)
 ·have hi:os.length≤i:=hi
  exact List.getElem?_eq_none (by omega)
 ·have hi:i<2 ^ d:=hi
  rw [hget i hi] at hx
  obtain ⟨b,c,hl⟩:=hli i x hx
  obtain ⟨r,hr,hor⟩:=ho i x.1 x.2 b c hx hl
  exact ⟨(b,c),r,hl,hr,hor,fun hm=>.inr ⟨i,x.1,c,by rw [hx,← hm],hl⟩⟩
 ·obtain ⟨hi',hb⟩:=List.getElem?_eq_some_iff.1 hb
  obtain ⟨hj',hc⟩:=List.getElem?_eq_some_iff.1 hc
  refine (List.getElem_inj (h₀:=by simpa using hi') (h₁:=by simpa using hj') hn).1 ?_
  simp only [List.getElem_map,hb,hc];exact e
 ·have hi:i<2 ^ d:=hi
  rw [hget i hi] at hx
  exact ⟨i,x.1,b.2,by rw [hx,← hf],hb⟩

theorem ek {l:List (Nat × Nat)} {os:List (SO × Bool)} (ho:∀ (i:Nat) (o:SO) (m:Bool) (b c:Nat),os[i]?=some (o,m)→l[i]?=some (b,c)→∃ r,w.heap[b]?=some r∧OR (ax l) i o r):∀ b,(az l os).r b→b<w.heap.size:=by
 rintro b ⟨i,o,c,h1,h2⟩
 obtain ⟨r,hr,_⟩:=ho i o false b c h1 h2
 exact (Array.getElem?_eq_some_iff.1 hr).1

theorem rT {P:Program} (hP:E.P=P) {args:List SV} {a:List Value} {d:Nat} {l:List (Nat × Nat)} {os:List SO} {S0:SM} {Q:Value→Prop} (hlen:l.length=os.length) (hd:os.length≤2 ^ d) (hn:(l.map (·.1)).Nodup)
  (ho:∀ (i:Nat) (o:SO) (b c:Nat),os[i]?=some o→l[i]?=some (b,c)→∃ r,w.heap[b]?=some r∧OR (ax l) i o r) (hG:E.G=[]) (hS0:aS E f args (bc d os.length 0 (os.map fun o=>some (o,false)))=some S0) (ha:aj (ax l) args a)
  (hs:∀ cs0,ao E (az l (os.map fun o=>(o,false))) w cs0 f (fun e w'=>Below w.heap.size w w'∧∃ v,e=.returned v∧Q v) (ax l) S0):
  Calls P f a.toArray w fun e w'=>Below w.heap.size w w'∧∃ v,e=.returned v∧Q v:=by
 subst hP
 have ho':∀ (i:Nat) (o:SO) (m:Bool) (b c:Nat),(os.map fun o=>(o,false))[i]?=some (o,m)→l[i]?=some (b,c)→∃ r,w.heap[b]?=some r∧OR (ax l) i o r:=by
  intro i o m b c h1 h2
  rw [List.getElem?_map] at h1
  obtain ⟨o',h3,h4⟩:=Option.map_eq_some_iff.1 h1
  cases h4
  exact ho i o b c h3 h2
 have hr:=qk (d:=d) (w:=w) (by simpa using hlen) (by simpa using hd) hn ho'
 rw [List.map_map,List.length_map] at hr
 exact ey hS0 hr (ek ho') (fun _ h=>h) (fun g i h=>by rw [hG] at h;cases h) ha hs

theorem aO {l:List (Nat × Nat)} {os:List SO} {b:Nat}:¬ (az l (os.map fun o=>(o,false))) b:=by
 rintro ⟨i,o,c,h1,_⟩
 rw [List.getElem?_map] at h1
 obtain ⟨o',_,h4⟩:=Option.map_eq_some_iff.1 h1
 cases h4

theorem aG {M1:Own} {w1:World} (hM:∀ b,¬ M b) (hB:bk M w0 M1 w1) (hr:HR ν M1 w1 s w):Below w0.heap.size w0 w:=by
 have h:=hr.uN hB
 exact ⟨h.os,h.tape,h.output,h.size,fun k hk=>h.frame k hk (hM k)⟩


theorem lg {α β:Type} {g:α→List β} {m:Nat} (hg:∀ x,(g x).length=m):∀ {xs:List α} {k:Nat} {x:α},xs[k]?=some x→((xs.flatMap g).drop (k*m)).take m=g x
 | [],_,_,h=>by simp at h
 | y::ys,0,x,h=>by
  simp only [List.getElem?_cons_zero,Option.some.injEq] at h
  subst h
  rw [List.flatMap_cons,Nat.zero_mul,List.drop_zero,List.take_append_of_le_length (by rw [hg];exact Nat.le_refl _),List.take_of_length_le (by rw [hg];exact Nat.le_refl _)]
 | y::ys,k+1,x,h=>by
  have e:((y::ys).flatMap g).drop m=ys.flatMap g:=by
   rw [List.flatMap_cons,List.drop_append_of_le_length (by rw [hg];exact Nat.le_refl _),List.drop_of_length_le (l:=g y) (by rw [hg];exact Nat.le_refl _),List.nil_append]
  rw [Nat.succ_mul,Nat.add_comm,← List.drop_drop,e]
  exact lg hg (by simpa using h)

def ak {α:Type} (g:α→List SV) (off:Nat) (xs:List α):List SV:=List.replicate off .aM++xs.flatMap g

theorem se {α:Type} {g:α→List SV} {m off:Nat} (hg:∀ x,(g x).length=m) {xs:List α} {k:Nat} {x:α} (h:xs[k]?=some x):((ak g off xs).drop (off+k*m)).take m=g x:=by
 unfold ak
 have e:(List.replicate off SV.aM++xs.flatMap g).drop off=xs.flatMap g:=by
  rw [List.drop_append_of_le_length (by simp),List.drop_of_length_le (l:=List.replicate off SV.aM) (by simp),List.nil_append]
 rw [← List.drop_drop,e]
 exact lg hg h

theorem bO {α:Type} {g:α→List SV} (hg:∀ x,(g x).all ae=true) {off:Nat} {xs:List α}:(ak g off xs).all ae=true:=by
 unfold ak
 rw [List.all_append,Bool.and_eq_true]
 refine ⟨List.all_eq_true.2 fun x hx=>by rw [(List.mem_replicate.1 hx).2];rfl,?_⟩
 refine List.all_eq_true.2 fun x hx=>?_
 obtain ⟨y,_,hy⟩:=List.mem_flatMap.1 hx
 exact List.all_eq_true.1 (hg y) x hy

theorem bW {α:Type} {g:α→List SV} {h:α→List Value} (hgh:∀ ν x,aj ν (g x) (h x)) {off:Nat} {xs:List α} {i:Nat} {ν:aA} {c:Array Value} {e:TypeId} {fz:Nat × Nat} (hoff:off≤c.size)
  (hc:∀ (k:Nat) (v:Value),(xs.flatMap h)[k]?=some v→c[off+k]?=some v):OR ν i (.look (ak g off xs)) (.cells c e fz):=by
 refine ⟨c.toList.take off++xs.flatMap h,c,e,fz,rfl,?_,fun k y hk=>?_⟩
 ·unfold ak
  refine aj.append ?_ ?_
  ·have:∀ (n:Nat) (l:List Value),l.length=n→aj ν (List.replicate n .aM) l:=by
    intro n
    induction n with
    | zero=>intro l hl;rw [List.length_eq_zero_iff.1 hl];exact aj.nil
    | succ n ih=>
     intro l hl
     match l,hl with
     | y::l,hl=>exact aj.cons (by rw [VR];trivial) (ih l (by simpa using hl))
   exact this off _ (by simp;omega)
  ·clear hc
   induction xs with
   | nil=>exact aj.nil
   | cons x xs ih=>exact aj.append (hgh ν x) ih
 ·by_cases hlt:k<off
  ·rw [List.getElem?_append_left (by simp;omega),List.getElem?_take,if_pos hlt] at hk
   simpa using hk
  ·rw [List.getElem?_append_right (by simp;omega)] at hk
   have:=hc _ y hk
   rw [← this];congr 1;simp;omega
end

def yX {α:Type} (h:α→List Value) (W:World) (a:Option Addr) (l c:Nat):Prop:=
 (l≤c∧c≤maxLen)∧(l=0∨∃ (b off:Nat) (xs:List α) (cs:Array Value) (e:TypeId) (fz:Nat × Nat),a=some ⟨b,off,none⟩∧xs.length=l∧W.heap[b]?=some (.cells cs e fz)∧off≤cs.size∧
  ∀ (k:Nat) (v:Value),(xs.flatMap h)[k]?=some v→cs[off+k]?=some v)

theorem oz {α β:Type} {h:α→List β} {C:Nat} (hC:0<C) (hh:∀ r,(h r).length=C):∀ {xs:List α} {k:Nat} {v:β},(xs.flatMap h)[k]?=some v→∃ x,xs[k / C]?=some x∧(h x)[k % C]?=some v
 | [],_,_,e=>by simp at e
 | y::ys,k,v,e=>by
  rw [List.flatMap_cons] at e
  by_cases hk:k<C
  ·rw [List.getElem?_append_left (by rw [hh];exact hk)] at e
   exact ⟨y,by rw [Nat.div_eq_of_lt hk];rfl,by rw [Nat.mod_eq_of_lt hk];exact e⟩
  ·rw [List.getElem?_append_right (by rw [hh];omega),hh] at e
   obtain ⟨x,h1,h2⟩:=oz hC hh e
   refine ⟨x,?_,?_⟩
   ·rw [Nat.div_eq_sub_div hC (by omega),List.getElem?_cons_succ];exact h1
   ·rw [Nat.mod_eq_sub_mod (by omega)];exact h2

section
variable {H:Type} {enc:TypeId × Value→H} {P:Program} {W:World} {base:Nat} {spare:Nat→Bool} {held:Bool}

end

section
variable {H:Type} {enc:TypeId × Value→H} {P:Program} {W:World} {base:Nat} {spare:Nat→Bool} {held:Bool}

end

section
variable {E:Env} {w:World} {f:FuncId} {R:Ending→World→Prop}

end

def rp (E:Env) (f:FuncId) (S:SM):Bool:=match nk E f S with
 | some (.v (.bool true),s')=>s'.obl.isEmpty
 | _=>false

def nN (E:Env) (f:FuncId):Nat→List SM→Option (List SM)
 | 0,w=>some w
 | _+1,[]=>some []
 | n+1,S::w=>bif S.over then (bif rp E f S then nN E f n w else none) else match jm E S with
  | none=>none
  | some l=>nN E f n (l++w)

theorem nc {E:Env} {f:FuncId}:∀ {n:Nat} {w w':List SM},nN E f n w=some w'→∀ d:List SM,(∀ S∈d,rp E f S=true)→∃ d',runK E SM.over n w d=some (w',d')∧∀ S∈d',rp E f S=true
 | 0,w,w',h,d,hd=>by cases h;exact ⟨d,rfl,hd⟩
 | _+1,[],w',h,d,hd=>by cases h;exact ⟨d,rfl,hd⟩
 | n+1,S::w,w',h,d,hd=>by
  unfold nN at h
  unfold runK
  cases hs:S.over
  ·rw [hs] at h
   simp only [cond_false] at h ⊢
   split at h
   ·cases h
   ·rename_i l hl
    try rw [hl]
    exact nc h d hd
  ·rw [hs] at h
   simp only [cond_true] at h ⊢
   cases ho:rp E f S
   ·rw [ho] at h;cases h
   ·rw [ho] at h
    refine nc h (S::d) fun T hT=>?_
    rcases List.mem_cons.1 hT with rfl | hT
    ·exact ho
    ·exact hd T hT

theorem kY {E:Env} {f:FuncId}:∀ {n:Nat} {w w':List SM},nN E f n w=some w'→∀ {m:Nat} {r:List SM},nN E f m w'=some r→nN E f (n+m) w=some r
 | 0,w,w',h,m,r,k=>by cases h;rw [Nat.zero_add];exact k
 | n+1,[],w',h,m,r,k=>by
  cases h
  have e:∀ m,nN E f m []=some []:=by intro m;cases m <;> rfl
  rw [e] at k ⊢;exact k
 | n+1,S::w,w',h,m,r,k=>by
  rw [Nat.add_right_comm]
  unfold nN at h ⊢
  cases hs:S.over
  ·rw [hs] at h
   simp only [cond_false] at h ⊢
   split at h
   ·cases h
   ·rename_i l hl
    exact kY h k
  ·rw [hs] at h
   simp only [cond_true] at h ⊢
   cases ho:rp E f S
   ·rw [ho] at h;cases h
   ·rw [ho] at h
    exact kY h k

theorem rq {E:Env} {f:FuncId}:∀ {Ls:List SM},(∀ S∈Ls,rp E f S=true)→verdict E f Ls
 | [],_=>trivial
 | S::r,h=>by
  refine ⟨?_,rq fun T hT=>h T (List.mem_cons_of_mem _ hT)⟩
  have:=h S List.mem_cons_self
  unfold rp at this
  split at this
  ·rename_i s' he
   try rw [he]
   show af s'.obl
   rw [List.isEmpty_iff.1 this];trivial
  ·cases this

theorem oR {E:Env} {f:FuncId} {args:List SV} {s0:SH} {S0:SM} {n:Nat} (h0:aS E f args s0=some S0) (h:nN E f n [S0]=some []):qq E f (Ba E f args s0 n):=by
 obtain ⟨d,hk,hd⟩:=nc h [] fun _ h=>by cases h
 rw [E9 h0 hk]
 exact rq hd


section
variable {E:Env} {ν:aA} {M:Own} {w0 w:World} {s s':SH}
end

abbrev Sum:=List SV→SH→Option (SV × SH)
def cF (P:Program) (X:World→Prop) (r:FuncId × Sum):Prop:=
 (∃ fn, P.funcs[r.1]? = some fn ∧ fn.body.isSome = true ∧ (fn.name == "runtime.NumGoroutine") = false) ∧
 ∀ args x s s',r.2 args s=some (x,s')→s'.ob→s.ob∧∀ ν M w0 w a,HR ν M w0 s w→X w→aj ν args a→
  Calls P r.1 a.toArray w fun e w'=>Below w.heap.size w w'∧∃ y,e=.returned y∧ue ν s w s' w' x y
def jI (P:Program) (X:World→Prop) (r:FuncId × Sum):Prop:=
 (∃ fn, P.funcs[r.1]? = some fn ∧ fn.body.isSome = true ∧ (fn.name == "runtime.NumGoroutine") = false) ∧
 ∀ args x s s',r.2 args s=some (x,s')→s'.ob→s.ob∧∀ ν M w0 w a,HR ν M w0 s w→X w→aj ν args a→
  Calls P r.1 a.toArray w fun e w'=>∃ y,e=.returned y∧pc ν s w s' w' x y
theorem cF.t {P:Program} {X:World→Prop} {r:FuncId × Sum} (h:cF P X r):jI P X r:=
 ⟨h.1,fun args x s s' hx ob=>⟨(h.2 args x s s' hx ob).1,fun ν M w0 w a hr hX ha=>((h.2 args x s s' hx ob).2 ν M w0 w a hr hX ha).mono fun e w' ⟨hB,y,he,n⟩=>⟨y,he,.old hB n⟩⟩⟩
theorem cV.oI {E:Env} {M:Own} {w0:World} {X:World→Prop} {l:List (FuncId × Sum)} (hE:E.sums=fun f=>l.lookup f) (h:∀ r∈l,jI E.P X r) (hX:∀ ν s w,HR ν M w0 s w→GR ν E→X w):cV E M w0:=by
 intro f g hg args x s s' hx ob
 rw [hE] at hg
 obtain ⟨⟨fn,hf,hb,hn⟩,hc⟩:=h _ (nV hg)
 obtain ⟨ob1,hc⟩:=hc args x s s' hx ob
 exact ⟨ob1,fun ν w a hr hgr ha=>⟨fU hf (by intro e;rw [e] at hb;cases hb) (by intro e;rw [e] at hn;simp at hn),hc ν M w0 w a hr (hX ν s w hr hgr) ha⟩⟩
theorem cV.list {E:Env} {M:Own} {w0:World} {X:World→Prop} {l:List (FuncId × Sum)} (hE:E.sums=fun f=>l.lookup f) (h:∀ r∈l,cF E.P X r) (hX:∀ ν s w,HR ν M w0 s w→GR ν E→X w):cV E M w0:=
 cV.oI hE (fun r hr=>(h r hr).t) hX
theorem cF.pure {P:Program} {X:World→Prop} {r:FuncId × PS} (h:bH P X r):cF P X (r.1,eD r.2):=by
 obtain ⟨hf,hc⟩:=h
 refine ⟨hf,fun args x s s' hx ob=>?_⟩
 dsimp only at hx
 unfold eD at hx
 split at hx
 ·rename_i vs hvs
  split at hx
  ·rename_i v p hp
   cases hx
   refine ⟨ob.1,fun ν M w0 w a hr hXw ha=>?_⟩
   obtain rfl:=eF hvs ha
   exact (hc a v p hp ob.2 w hXw).mono fun e w' ⟨hbel,he⟩=>⟨hbel,v,he,.same (SH.aH _ _) (VR.ab.2 rfl)⟩
  ·cases hx
 ·cases hx
def dx:SM:={ top:={ fn:=0,tm:=gw 0 0 [],todo:=[],defers:=[],ret:=false,kind:=.normal,ro:=none },callers:=[],mem:=bc 0 0 0 [] }
def ba (E:Env) (f:FuncId) (args:List SV):SM:=(aS E f args (bc 6 0 0 [])).getD dx
def ff (l:List Nat) (b:Bool):List (Nat × c9):=l.map fun n=>(n,.b b)
structure cp (l:List Prop):Prop where
 out:af l
theorem iM {E:Env} {P:Program} (hP:E.P=P) (hG:E.G=[]) {f:FuncId} {args:List SV} {a:List Value} {S0:SM} {Q:Value→Prop} (w:World) (hS0:aS E f args (bc 6 0 0 [])=some S0) (ha:aj (ax []) args a)
  (hs:∀ cs0,ao E (az [] []) w cs0 f (fun e w'=>Below w.heap.size w w'∧∃ v,e=.returned v∧Q v) (ax []) S0):Calls P f a.toArray w fun e w'=>Below w.heap.size w w'∧∃ v,e=.returned v∧Q v:=
 rT (E:=E) hP (d:=6) (l:=[]) (os:=[]) rfl (by simp) (by simp) (fun i o b c h=>by simp at h) hG hS0 ha hs
theorem a6 (b:Nat):¬ (az [] []) b:=by rintro ⟨i,o,c,h,_⟩;simp at h
theorem cD {E:Env} {P:Program} (hP:E.P=P) (hG:E.G=[]) {f:FuncId} {args:List SV} {a:List Value} {n:Nat} {o:List (Nat × c9)} {v:Value} {w:World} (K:aE E (az [] []) w)
  (hS0:aS E f args (bc 6 0 0 [])=some (ba E f args)) (ha:aj (ax []) args a) (h:cp (au E f n (ba E f args) o v)):Calls P f a.toArray w fun e w'=>Below w.heap.size w w'∧e=.returned v:=
 (iM (Q:=fun u=>u=v) hP hG w hS0 ha fun cs0=>ao.au K h.out fun ν' M1 w1 s' w' _ hB hr=>⟨aG a6 hB hr,_,rfl,rfl⟩).mono fun e w' ⟨h1,u,h2,h3⟩=>⟨h1,by rw [h2,h3]⟩
theorem bH.mk {P : Program} {X : World → Prop} {f : FuncId} {ps : PS} (hf : ∃ fn, P.funcs[f]? = some fn ∧ fn.body.isSome = true ∧ (fn.name == "runtime.NumGoroutine") = false)
  (h:∀ args v p,ps args=some (v,p)→p→∀ w,X w→Calls P f args.toArray w fun e w'=>Below w.heap.size w w'∧e=.returned v):bH P X (f,ps):=⟨hf,h⟩
theorem Ak {w0 w:World} {g:Nat} {v:Value} (h:w0.cell? ⟨g,0,none⟩=some v) (hk:∀ k,k<w0.heap.size→w.heap[k]?=w0.heap[k]?):w.cell? ⟨g,0,none⟩=some v:=by
 have hlt:g<w0.heap.size:=by
  rcases Nat.lt_or_ge g w0.heap.size with h' | h'
  ·exact h'
  ·unfold World.cell? at h
   simp only at h
   rw [Array.getElem?_eq_none h'] at h
   cases h
 unfold World.cell? at h ⊢
 simp only at h ⊢
 rw [hk g hlt];exact h
section
variable {E:Env} {ν:aA} {M:Own} {w0 w:World} {s s':SH} {cs0:List Frame} {f:FuncId} {R:Ending→World→Prop}

theorem ao.mono {ν':aA} {S:SM} (h:ao E M w0 cs0 f R ν S) (k:ν.Le ν'):ao E M w0 cs0 f R ν' S:=fun ν1 m M1 w1 hle=>h ν1 m M1 w1 (k.trans hle)


theorem ia.aM {tm:dG} {a:Array Value} (r:ia ν tm a) (t:Nat):ia ν (tm.set t .aM) a:=by
 have h:=r.set t (x:=.aM) (y:=a.getD t undef) (by rw [VR];trivial)
 have e:a.setIfInBounds t (a.getD t undef)=a:=by
  apply Array.ext
  ·simp
  ·intro i h1 h2
   rw [Array.getElem_setIfInBounds (by simpa using h1)]
   split
   ·rename_i e;subst e
    have:t<a.size:=h2
    simp [Array.getD,this]
   ·rfl
 rwa [e] at h

end

end Go.Rx
set_option linter.unusedSimpArgs false
set_option linter.unusedVariables false
namespace Go.Rx
open Go.RowKit
theorem Hg {P:Program} {W:World} {l:List (String × DataW Unit)} (h:laidMetH P l W) {v:String} {k:IntKind} {zs:List Int} (hm:(v,(Lib.tabData k zs:DataW Unit))∈l.filter fun x=>x.2.handleName?.isNone)
  {g:Nat} (hg:P.globalNamed v=some g) {t e:TypeId} (ht:(P.globals[g]?).map (·.type)=some t) {n:Nat} (hu:P.underlying t=some (.array n e)) (he:P.underlying e=some (.int k)) (hc:P.cellsOf e=1) (hct:P.cellsOf t=n):Lib.TabIs P W v k zs:=by
 obtain ⟨ps,hl,_,_⟩:=iW h
 obtain ⟨g',t',cs,fuel,p,h1,h2,h3,hd⟩:=iQ hl hm
 rw [hg] at h1;cases h1
 rw [ht] at h2;cases h2
 have hcs:=Lib.cells_of_tab hu he hc hct hd
 unfold Lib.TabIs
 rw [h3,← hcs]
section
variable {H:Type} {enc:TypeId × Value→H}
theorem qg {a:Assume} {C:Checked} {os:Os} {f:FuncId} {fn:Func} {s:ChangeSpec} {conds:List PathCond} {apart fresh handsOn again:Bool} {X:World→Array Value→Prop}
  (hX:∀ (w w':World) (args:Array Value),w.heap=w'.heap→X w args→X w' args) (own:ownKnob C.prog.godebug=none) (started:os.Started) (noInit:C.prog.inits.idxOf? f=none) (hfn:C.prog.funcs[f]?=some fn)
  (witness:∃ (w:World) (tape:Tape) (i:Input),w.os=os∧(w.forCall tape i).Shaped C.prog∧i.vars=[]∧Input.okWide C.prog (w.forCall tape i) .any w.heap.size f i∧
   ((s.pre enc C.prog fn conds apart (w.forCall tape i).memory i.args∧X (w.forCall tape i).memory i.args)∧sizedMet enc C.prog fn (OpenSpec.ofChange s) apart (w.forCall tape i).memory i.args)∧a.holds C.prog (lone (Frame.enter C.prog f i.args .normal) [] (w.forCall tape i)))
  (K:∀ (W:World) (base:Nat) (args:Array Value) (ds gs:List (DataW H)) (before:List MemPlace),(∀ (j:Nat) t v,fn.params[j]?=some t→args[j]?=some v→Value.okWide C.prog W .any base t v)→
   DataW.Whole enc C.prog fn.params.toList s.vars apart W args.toList ds gs before→conds.all (PathCond.test C.prog ⟨fn.params.toList,ds,s.plain.varTypes C.prog,gs⟩)=true→
   (DataW.weightsEach C.prog (fn.params.toList++s.plain.varTypes C.prog) (ds++gs)).all (·≤reachBytes)=true→X W args→W.ShapedOpen C.prog→
   Calls C.prog f args W fun e W'=>∃ v,e=.returned v∧s.post enc C.prog fn apart fresh handsOn again W args v W'):
  ReturnsInHanded a C os f .any (fun w args=>(s.pre enc C.prog fn conds apart w args∧X w args)∧sizedMet enc C.prog fn (OpenSpec.ofChange s) apart w args) (s.post enc C.prog fn apart fresh handsOn again):=by
 refine returnsInHanded_of_calls own started noInit witness fun w tape i _ hsh _ hok hpre _=>?_
 obtain ⟨_,_,_,fn',hfn',_,_,_,_,hval⟩:=hok
 obtain rfl:fn'=fn:=Option.some.inj (hfn'.symm.trans hfn)
 obtain ⟨⟨⟨ds,gs,before,hw,hc⟩,hx⟩,hz⟩:=hpre
 refine (K (w.forCall tape i) w.heap.size i.args ds gs before hval (DataW.Whole.of_heap (w':=w.forCall tape i) (by rfl) hw) hc (hz.weights hw) (hX _ _ _ (by rfl) hx) hsh).mono fun e W' ⟨v,he,hp⟩=>?_
 subst he
 exact ChangeSpec.post_blind hp
end
end Go.Rx
set_option linter.unusedSimpArgs false
set_option linter.unusedVariables false
namespace Go.Rx
open Go.RowKit (Below)
section
variable {E:Env} {ν:aA} {M:Own} {w0 w:World} {s s':SH} {cs0:List Frame} {f:FuncId} {R:Ending→World→Prop}
def im (E:Env) (f:FuncId) (n:Nat) (S:SM) (o:List (Nat × c9)) (x:SV) (i:Nat) (so:SO):List Prop:=
 match rQ E SM.over n (S.with o) with
 | some T=>match nk E f T with
  | some (y,s')=>match s'.look i with
   | some (so',true)=>uq [(i,i)] x y++(FE [(i,i)] true so so'++s'.obl)
   | _=>[False]
  | none=>[False]
 | none=>[False]
theorem ao.im (K:aE E M w0) {n:Nat} {S:SM} {o:List (Nat × c9)} {x:SV} {i:Nat} {so:SO} (h:af (Go.Rx.im E f n S o x i so))
  (hR:∀ ν' w' y b ob,VR ν' x y→ν' i=some b→w'.heap[b.1]?=some ob→OR ν' i so ob→(w0.heap.size≤b.1∨M b.1)→(∃ ν1 M1 w1 s',bk M w0 M1 w1∧HR ν1 M1 w1 s' w')→R (.returned y) w'):ao E M w0 cs0 f R ν S:=by
 unfold Go.Rx.im at h
 split at h
 ·rename_i T hT
  split at h
  ·rename_i y s' hend
   split at h
   ·rename_i so' hl
    obtain ⟨h1,h2⟩:=cw.1 h
    obtain ⟨h3,h4⟩:=cw.1 h2
    refine ao.go K hT (eU hend h4) (ao.done hend h4 fun ν' M1 w1 w' u hle hB hv hr hg=>?_)
    obtain ⟨_,_,b,ob,hb,ho,hor,hw⟩:=hr.look hl
    have hii:(([(i,i)]:List (Nat × Nat)).lookup i==some i)=true:=by simp [List.lookup]
    exact hR (ν'.ren [(i,i)]) w' u b ob (jl h1 hv) (eW hii hb) ho (tN hii h3 hor) (hB.own _ (hw rfl)) ⟨ν',M1,w1,s',hB,hr⟩
   ·exact aC h
  ·exact aC h
 ·exact aC h
end
theorem aY {E:Env} {w:World} {f:FuncId} {R:Ending→World→Prop} {P:Program} (hP:E.P=P) {args:List SV} {a:List Value} {d:Nat} {l:List (Nat × Nat)} {os:List SO} {S0:SM} (hlen:l.length=os.length) (hd:os.length≤2 ^ d) (hn:(l.map (·.1)).Nodup)
  (ho:∀ (i:Nat) (o:SO) (b c:Nat),os[i]?=some o→l[i]?=some (b,c)→∃ r,w.heap[b]?=some r∧OR (ax l) i o r) (hG:E.G=[]) (hS0:aS E f args (bc d os.length 0 (os.map fun o=>some (o,false)))=some S0) (ha:aj (ax l) args a)
  (hs:∀ cs0,ao E (az l (os.map fun o=>(o,false))) w cs0 f R (ax l) S0):Calls P f a.toArray w R:=by
 subst hP
 have ho':∀ (i:Nat) (o:SO) (m:Bool) (b c:Nat),(os.map fun o=>(o,false))[i]?=some (o,m)→l[i]?=some (b,c)→∃ r,w.heap[b]?=some r∧OR (ax l) i o r:=by
  intro i o m b c h1 h2
  rw [List.getElem?_map] at h1
  obtain ⟨o',h3,h4⟩:=Option.map_eq_some_iff.1 h1
  cases h4
  exact ho i o b c h3 h2
 have hr:=qk (d:=d) (w:=w) (by simpa using hlen) (by simpa using hd) hn ho'
 rw [List.map_map,List.length_map] at hr
 exact ey hS0 hr (ek ho') (fun _ h=>h) (fun g i h=>by rw [hG] at h;cases h) ha hs
theorem bV {E:Env} {w:World} {f:FuncId} {R:Ending→World→Prop} {P:Program} (hP:E.P=P) (hG:E.G=[]) {args:List SV} {a:List Value} {S0:SM} (hS0:aS E f args (bc 6 0 0 [])=some S0) (ha:aj (ax []) args a)
  (hs:∀ cs0,ao E (az [] []) w cs0 f R (ax []) S0):Calls P f a.toArray w R:=
 aY (E:=E) hP (d:=6) (l:=[]) (os:=[]) rfl (by simp) (by simp) (fun i o b c h=>by simp at h) hG hS0 ha hs
def eZ (W w':World) (y:Value) (ys:List Value) (n C:Nat) (elem:TypeId):Prop:=
 ∃ (b c:Nat) (rest:List Value),y=.slice (some ⟨b,0,none⟩) n c∧W.heap.size≤b∧n≤c∧w'.heap[b]?=some (.cells (ys++rest).toArray elem)∧(ys++rest).length=c*C
theorem eZ.qR {ν:aA} {W w':World} {i n C:Nat} {xs:List SV} {ys:List Value} {elem:TypeId} {y:Value} {b:Nat × Nat} {ob:Obj} (hv:VR ν (.sl i 0 n none) y) (hb:ν i=some b) (ho:w'.heap[b.1]?=some ob)
  (hor:OR ν i (.row xs elem (0,0) (some C)) ob) (hn:W.heap.size≤b.1) (hu:∀ zs,aj ν xs zs→zs=ys):eZ W w' y ys n C elem:=by
 obtain ⟨b',hb',hle,rfl⟩:=VR.ay.1 hv
 rw [hb] at hb';cases hb'
 obtain ⟨zs,rest,rfl,hz,_,b2,hb2,hsz⟩:=hor
 rw [hb] at hb2;cases hb2
 obtain rfl:=hu zs hz
 have hle':n≤b.2:=hle
 exact ⟨b.1,b.2,rest,rfl,hn,hle',by simpa using ho,hsz⟩
theorem eZ.G7 {ν:aA} {W w':World} {i n c C:Nat} {xs:List SV} {ys:List Value} {elem:TypeId} {y:Value} {b:Nat × Nat} {ob:Obj} (hv:VR ν (.sl i 0 n (some c)) y) (hb:ν i=some b) (ho:w'.heap[b.1]?=some ob)
  (hor:OR ν i (.row xs elem (0,0) none) ob) (hn:W.heap.size≤b.1) (hu:∀ zs,aj ν xs zs→zs=ys) (hc:ys.length=c*C):eZ W w' y ys n C elem:=by
 obtain ⟨b',hb',hle,rfl⟩:=VR.ay.1 hv
 rw [hb] at hb';cases hb'
 obtain ⟨zs,rest,rfl,hz,hsz⟩:=hor
 obtain rfl:=hu zs hz
 have h0:rest=[]:=by
  have:(zs++rest).length=xs.length:=hsz
  have h2:=hz.length
  rw [List.length_append] at this
  exact List.length_eq_zero_iff.1 (by omega)
 subst h0
 exact ⟨b.1,c,[],rfl,hn,hle,by simpa using ho,by simpa using hc⟩
abbrev Kk:=List Value→Option (List Value × Nat × Nat × TypeId × Option Value × Prop)
def B3 (ex:Option Value) (x:SV):SV:=match ex with | none=>x | some v=>.tup [x,.v v]
def zL (ex:Option Value) (y:Value):Value:=match ex with | none=>y | some v=>.tuple #[y,v]
def vm (g:Kk):Sum:=fun args s=>match gd args with
 | some vs=>match g vs with
  | some (ys,n,C,elem,ex,p)=>(cC (.row (ys.map SV.v) elem (0,0) (some C)) (s.dw p)).map fun r=>(B3 ex (.sl r.1 0 n none),r.2)
  | none=>none
 | none=>none
theorem CW {P : Program} {X : World → Prop} {f : FuncId} {g : Kk} (hf : ∃ fn, P.funcs[f]? = some fn ∧ fn.body.isSome = true ∧ (fn.name == "runtime.NumGoroutine") = false)
  (h:∀ vs ys n C elem ex p,g vs=some (ys,n,C,elem,ex,p)→p→∀ w,X w→Calls P f vs.toArray w fun e w'=>Below w.heap.size w w'∧∃ y,e=.returned (zL ex y)∧eZ w w' y ys n C elem):cF P X (f,vm g):=by
 refine ⟨hf,fun args x s s' hx ob=>?_⟩
 dsimp only at hx
 unfold vm at hx
 split at hx
 ·rename_i vs hvs
  split at hx
  ·rename_i ys n C elem ex p hp
   obtain ⟨⟨i,s1⟩,hn,hx⟩:=Option.map_eq_some_iff.1 hx
   cases hx
   unfold cC at hn
   cases hroom:(s.dw p).room
   ·rw [hroom] at hn;cases hn
   rw [hroom] at hn
   simp only [cond_true] at hn
   cases hn
   have ob2:(s.dw p).ob:=ob
   refine ⟨ob2.1,fun ν M w0 w a hr hXw ha=>?_⟩
   obtain rfl:=eF hvs ha
   refine (h a ys n C elem ex p hp ob2.2 w hXw).mono fun e w' ⟨hB,y,he,b,c,rest,hy,hb,hnc,ho,hsz⟩=>?_
   have hv:VR (ν.put (s.dw p).nx (b,c)) (.sl (s.dw p).nx 0 n none) y:=VR.ay.2 ⟨(b,c),aA.aU _ _ _,hnc,hy⟩
   refine ⟨hB,_,he,.made (s.dw p) _ b c _ (SH.aH _ _) hroom rfl hb ho ⟨ys,rest,by show _=_;simp,aj.lits _ _,?_,(b,c),aA.aU _ _ _,hsz⟩ ?_⟩
   ·simp
   ·cases ex with
    | none=>exact hv
    | some v=>exact VR.bN.2 ⟨[y,v],rfl,aj.cons hv (aj.cons (VR.ab.2 rfl) aj.nil)⟩
  ·cases hx
 ·cases hx
end Go.Rx
namespace Go.Rx
open Go.RowKit (Below)
abbrev Jn:=List SV→SH→Option (List Value × Nat × Nat × TypeId × Option Value × Prop)
def nM (g:Jn):Sum:=fun args s=>match g args s with
 | some (ys,n,C,elem,ex,p)=>(cC (.row (ys.map SV.v) elem (0,0) (some C)) (s.dw p)).map fun r=>(B3 ex (.sl r.1 0 n none),r.2)
 | none=>none
theorem sX {P : Program} {X : World → Prop} {f : FuncId} {g : Jn} (hf : ∃ fn, P.funcs[f]? = some fn ∧ fn.body.isSome = true ∧ (fn.name == "runtime.NumGoroutine") = false)
  (h:∀ args s ys n C elem ex p,g args s=some (ys,n,C,elem,ex,p)→p→∀ ν M w0 w a,HR ν M w0 s w→X w→aj ν args a→Calls P f a.toArray w fun e w'=>Below w.heap.size w w'∧∃ y,e=.returned (zL ex y)∧eZ w w' y ys n C elem):cF P X (f,nM g):=by
 refine ⟨hf,fun args x s s' hx ob=>?_⟩
 dsimp only at hx
 unfold nM at hx
 split at hx
 ·rename_i ys n C elem ex p hp
  obtain ⟨⟨i,s1⟩,hn,hx⟩:=Option.map_eq_some_iff.1 hx
  cases hx
  unfold cC at hn
  cases hroom:(s.dw p).room
  ·rw [hroom] at hn;cases hn
  rw [hroom] at hn
  simp only [cond_true] at hn
  cases hn
  have ob2:(s.dw p).ob:=ob
  refine ⟨ob2.1,fun ν M w0 w a hr hXw ha=>?_⟩
  refine (h args s ys n C elem ex p hp ob2.2 ν M w0 w a hr hXw ha).mono fun e w' ⟨hB,y,he,b,c,rest,hy,hb,hnc,ho,hsz⟩=>?_
  have hv:VR (ν.put (s.dw p).nx (b,c)) (.sl (s.dw p).nx 0 n none) y:=VR.ay.2 ⟨(b,c),aA.aU _ _ _,hnc,hy⟩
  refine ⟨hB,_,he,.made (s.dw p) _ b c _ (SH.aH _ _) hroom rfl hb ho ⟨ys,rest,by show _=_;simp,aj.lits _ _,?_,(b,c),aA.aU _ _ _,hsz⟩ ?_⟩
  ·simp
  ·cases ex with
   | none=>exact hv
   | some v=>exact VR.bN.2 ⟨[y,v],rfl,aj.cons hv (aj.cons (VR.ab.2 rfl) aj.nil)⟩
 ·cases hx
abbrev Jd:=List SV→SH→Option (Value × Prop)
def jA (g:Jd):Sum:=fun args s=>match g args s with
 | some (v,p)=>some (.v v,s.dw p)
 | none=>none
theorem mT {P : Program} {X : World → Prop} {f : FuncId} {g : Jd} (hf : ∃ fn, P.funcs[f]? = some fn ∧ fn.body.isSome = true ∧ (fn.name == "runtime.NumGoroutine") = false)
  (h:∀ args s v p,g args s=some (v,p)→p→∀ ν M w0 w a,HR ν M w0 s w→X w→aj ν args a→Calls P f a.toArray w fun e w'=>Below w.heap.size w w'∧e=.returned v):cF P X (f,jA g):=by
 refine ⟨hf,fun args x s s' hx ob=>?_⟩
 dsimp only at hx
 unfold jA at hx
 split at hx
 ·rename_i v p hp
  cases hx
  exact ⟨ob.1,fun ν M w0 w a hr hXw ha=>(h args s v p hp ob.2 ν M w0 w a hr hXw ha).mono fun e w' ⟨hB,he⟩=>⟨hB,v,he,.same (SH.aH _ _) (VR.ab.2 rfl)⟩⟩
 ·cases hx
def Gm (E:Env) (S:SM):Option (Nat × Nat × Nat × List Nat × Nat × List (SV × SV × Nat) × Nat):=
 bif S.top.ret then none else match S.top.todo with
 | .reg ops (i::_)::_=>match ops[i]? with
  | some o=>match o.guard,o.op with
   | none,.next it false=>match aL E S.top.tm it with
    | .ptr iter 0=>match S.mem.look iter with
     | some (.miter (some m) since seen last,true)=>match S.mem.look m with
      | some (.map es clock,_)=>some (iter,m,since,seen,last,es,clock)
      | _=>none
     | _=>none
    | _=>none
   | _,_=>none
  | none=>none
 | _=>none
def Gx (E:Env) (S:SM):Bool:=(Gm E S).isSome
def Ir (E:Env) (S:SM) (e:SV × SV × Nat):Option SM:=match Gm E S with
 | some (iter,m,since,seen,_,_,clock)=>(finish E S.top (.tup [.v (.bool true),e.1,e.2.1]) (S.mem.put iter (.miter (some m) since (seen++[e.2.2]) clock))).map fun r=>{ top:=r.1,callers:=S.callers,mem:=r.2 }
 | none=>none
section
variable {E:Env} {ν:aA} {M:Own} {w0:World} {cs0:List Frame} {f:FuncId} {R:Ending→World→Prop}
end
def sr (f g:Sum):Sum:=fun args s=>match s.orc s.dc with
 | some (.b true)=>f args s
 | some (.b false)=>g args s
 | _=>none
theorem cF.br {P:Program} {X:World→Prop} {h:FuncId} {f g:Sum} (hf:cF P X (h,f)) (hg:cF P X (h,g)):cF P X (h,sr f g):=by
 refine ⟨hf.1,fun args x s s' hx ob=>?_⟩
 dsimp only at hx
 unfold sr at hx
 split at hx
 ·exact hf.2 args x s s' hx ob
 ·exact hg.2 args x s s' hx ob
 ·cases hx
def IK {α:Type} (dec:List SV→α) (C:Nat):Nat→List SV→List α
 | 0,_=>[]
 | n+1,l=>dec (l.take C)::IK dec C n (l.drop C)
section
variable {E:Env} {ν:aA} {M:Own} {w0 w:World} {s s':SH} {cs0:List Frame} {f:FuncId} {R:Ending→World→Prop}
def qm (E:Env) (f:FuncId) (n:Nat) (S:SM) (o:List (Nat × c9)) (ren:List (Nat × Nat)) (x:SV):List Prop:=
 match rQ E SM.over n (S.with o) with
 | some T=>match nk E f T with
  | some (y,s')=>uq ren x y++s'.obl
  | none=>[False]
 | none=>[False]
theorem ao.qm (K:aE E M w0) (hM:∀ b,¬ M b) {n:Nat} {S:SM} {o:List (Nat × c9)} {ren:List (Nat × Nat)} {x:SV} (h:af (Go.Rx.qm E f n S o ren x))
  (hR:∀ ν' w' y,ν.Le ν'→VR (ν'.ren ren) x y→Below w0.heap.size w0 w'→R (.returned y) w'):ao E M w0 cs0 f R ν S:=by
 unfold Go.Rx.qm at h
 split at h
 ·rename_i T hT
  split at h
  ·rename_i y s' hend
   obtain ⟨h1,h2⟩:=cw.1 h
   refine ao.go K hT (eU hend h2) (ao.done hend h2 fun ν' M1 w1 w' u hle hB hv hr hg=>?_)
   exact hR ν' w' u hle (jl h1 hv) (aG hM hB hr)
  ·exact aC h
 ·exact aC h
end
def uJ (j:Nat) (b:Nat × Nat):SV→SV
 | .sl i 0 len none=>bif Nat.beq i j then .v (.slice (some ⟨b.1,0,none⟩) len b.2) else .sl i 0 len none
 | x=>x
def ux (j:Nat) (b:Nat × Nat):SV→SV
 | .agg l=>.agg (l.map (uJ j b))
 | x=>x
def fN (j:Nat) (b:Nat × Nat) (es:List (SV × SV × Nat)):List (SV × SV × Nat):=es.map fun e=>(e.1,ux j b e.2.1,e.2.2)
theorem zX {ν:aA} {j:Nat} {b:Nat × Nat} (hj:ν j=some b) {x:SV} {y:Value} (h:VR ν x y):VR ν (uJ j b x) y:=by
 unfold uJ
 split
 ·rename_i i len
  cases hi:Nat.beq i j
  ·exact h
  ·obtain rfl:=Nat.eq_of_beq_eq_true hi
   obtain ⟨b',hb',_,rfl⟩:=VR.ay.1 h
   rw [hj] at hb';cases hb'
   exact VR.ab.2 rfl
 ·exact h
theorem og {ν:aA} {j:Nat} {b:Nat × Nat} (hj:ν j=some b):∀ {l:List SV} {ys:List Value},aj ν l ys→aj ν (l.map (uJ j b)) ys
 | [],_,h=>h
 | x::l,_,h=>by
  obtain ⟨z,zs,rfl,h1,h2⟩:=h.cons_inv
  exact aj.cons (zX hj h1) (og hj h2)
theorem A7 {ν:aA} {j:Nat} {b:Nat × Nat} (hj:ν j=some b) {x:SV} {y:Value} (h:VR ν x y):VR ν (ux j b x) y:=by
 unfold ux
 split
 ·obtain ⟨a,rfl,ha⟩:=VR.aW.1 h
  exact VR.aW.2 ⟨a,rfl,og hj ha⟩
 ·exact h
theorem sD {ν:aA} {j:Nat} {b:Nat × Nat} (hj:ν j=some b):∀ {es:List (SV × SV × Nat)} {ds:List MapEntry},cJ ν es ds→cJ ν (fN j b es) ds
 | [],_,h=>h
 | x::xs,_,h=>by
  obtain ⟨z,zs,rfl,h1,h2,h3,h4⟩:=h
  exact ⟨z,zs,rfl,h1,A7 hj h2,h3,sD hj h4⟩
def SM.close (m j:Nat) (b:Nat × Nat) (es:List (SV × SV × Nat)) (cl:Nat) (S:SM):SM:={ S with mem:=S.mem.put m (.map (fN j b es) cl) }
def sF (S:SM):Bool:=match S.top.todo with | .drw _ _ _::_=>false | _=>true
section
variable {E:Env} {ν:aA} {M:Own} {w0 w:World} {s s':SH} {cs0:List Frame} {f:FuncId} {R:Ending→World→Prop}
end
def Hp.put (H:Hp) (b:Nat) (o:Obj):Hp:=fun x=>if x=b then some o else H x
theorem Hp.aU (H:Hp) (b:Nat) (o:Obj):H.put b o b=some o:=by simp [Hp.put]
def SM.F0 (S:SM) (j:Nat):SM:={ S with mem:=S.mem.drop j }
section
variable {E:Env} {ν:aA} {M:Own} {w0 w:World} {s s':SH} {cs0:List Frame} {f:FuncId} {R:Ending→World→Prop}

theorem zK {M1:Own} {w1:World} (hr:HR ν M1 w1 s w):HR ν (cg ν M1 s) w s w:=by
 refine ⟨hr.full,hr.dom,hr.fresh,fun i hi x hx=>?_,hr.inj,Nat.le_refl _,fun _ _ _=>rfl,hr.ro,rfl,rfl,rfl⟩
 obtain ⟨b,o,h1,h2,h3,h4⟩:=hr.obj i hi x hx
 refine ⟨b,o,h1,h2,h3,fun hm=>.inr ⟨i,x.1,b.2,hi,?_,h1⟩⟩
 rw [hx,← hm]
theorem vJ {M1:Own} {w1:World} (hr:HR ν M1 w1 s w) {x:Nat} (h:(cg ν M1 s) x):x<w.heap.size∧(w1.heap.size≤x∨M1 x):=by
 obtain ⟨i,y,c,hi,hy,hx⟩:=h
 obtain ⟨b',o,hb',ho,_,h4⟩:=hr.obj i hi _ hy
 rw [hx] at hb';cases hb'
 exact ⟨(Array.getElem?_eq_some_iff.1 ho).1,h4 rfl⟩
theorem Ap {M1:Own} {w1:World} (hB:bk M w0 M1 w1) (hr:HR ν M1 w1 s w):bk M w0 (cg ν M1 s) w:=by
 refine ⟨Nat.le_trans hB.size hr.size,hr.os.trans hB.os,hr.tape.trans hB.tape,hr.output.trans hB.output,fun b hb hM=>?_,fun b hb=>?_,hB.ro,fun b h=>h.elim,fun b hb=>?_⟩
 ·obtain ⟨h1,h2⟩:=hB.frame b hb hM
  have hb1:=Nat.lt_of_lt_of_le hb hB.size
  refine ⟨(hr.frame b hb1 h2).trans h1,fun hl=>?_⟩
  rcases (vJ hr hl).2 with h | h
  ·omega
  ·exact h2 h
 ·rcases hb with hb | hb
  ·exact .inl (Nat.le_trans hB.size (Nat.le_trans hr.size hb))
  ·exact hB.own b (vJ hr hb).2
 ·exact Nat.lt_of_lt_of_le (hB.rlt b hb) hr.size

theorem ao.freeze {H0 H:Hp} {M00:Own} {w00:World} (hM00:∀ b,¬ M00 b) (hk:Kept H0 M00 w00 H M w0) {S:SM} {j:Nat} {so:SO} (hcal:S.callers=[]) (hret:S.top.ret=false) (hd:sF S=true) (hj:S.mem.look j=some (so,true))
  (hs:∀ ν' b o M2 w2,ν.Le ν'→ν' j=some b→OR ν' j so o→Kept H0 M00 w00 (H.put b.1 o) M2 w2→H.Sub (H.put b.1 o)→w00.heap.size≤b.1→ao E M2 w2 cs0 f R ν (S.F0 j)):ao E M w0 cs0 f R ν S:=by
 intro ν' m M1 w1 hle hB hm
 obtain ⟨fr,cs,w,hl,rfl,hr,hg,⟨h1,h2,h3⟩,hc⟩:=hm
 obtain ⟨hjlt,hjg,b,o,hb,ho,hor,hown⟩:=hr.look hj
 have hown:=hown rfl
 have hrd:=hr.drop hjlt
 have hblt:b.1<w.heap.size:=(Array.getElem?_eq_some_iff.1 ho).1
 have hne:¬ (cg ν' M1 (S.mem.drop j)) b.1:=by
  rintro ⟨i,y,c,hi,hy,hx⟩
  have hy':(S.mem.H.set j none).get i=some (y,true):=hy
  have hi':i<2 ^ S.mem.d:=hi
  rw [Tr.ct hr.full hjlt hi'] at hy'
  by_cases e:i=j
  ·rw [if_pos e] at hy';cases hy'
  ·rw [if_neg e] at hy'
   exact e (hr.inj i j hi' hjlt (by rw [hy'];simp) (by rw [hjg];simp) _ _ hx hb rfl)
 have hB2:=Ap hB hrd
 have hHb:H b.1=none:=by
  cases hq:H b.1 with
  | none=>rfl
  | some o'=>
   obtain ⟨q1,q2,_⟩:=hk.still _ _ hq
   have q3:=(hB.frame _ q1 q2).2
   rcases hown with h | h
   ·have:=hB.size;omega
   ·exact absurd h q3
 have hsub:H.Sub (H.put b.1 o):=fun x y hx=>by
  unfold Hp.put
  by_cases e:x=b.1
  ·rw [e,hHb] at hx;cases hx
  ·rw [if_neg e];exact hx
 have hnow:=hk.now hB hr
 have hbn:w00.heap.size≤b.1:=(hk.base.own _ (hB.own _ hown)).elim id fun h=>absurd h (hM00 _)
 have hK:Kept H0 M00 w00 (H.put b.1 o) (cg ν' M1 (S.mem.drop j)) w:=by
  refine ⟨hk.sub0.trans hsub,fun x y hx=>?_,fun x y hx h=>?_,hk.base.trans hB2⟩
  ·unfold Hp.put at hx
   by_cases e:x=b.1
   ·rw [if_pos e] at hx
    cases hx
    subst e
    exact ⟨hblt,hne,ho⟩
   ·rw [if_neg e] at hx
    obtain ⟨q1,q2,_⟩:=hk.still _ _ hx
    refine ⟨Nat.lt_of_lt_of_le q1 (Nat.le_trans hB.size hr.size),(hB2.frame _ q1 q2).2,hnow _ _ hx⟩
  ·unfold Hp.put at h
   by_cases e:x=b.1
   ·subst e
    exfalso
    rcases hk.base.own _ (hB.own _ hown) with h | h
    ·omega
    ·exact hM00 _ h
   ·rw [if_neg e] at h
    exact hk.old x y hx h
 have hrun:=(h2 hret).2
 have hpl:hl=[]∧ia ν' S.top.tm fr.tmps∧qJ ν' S.top.todo fr.todo:=by
  revert hrun hd
  unfold sF
  generalize S.top.todo=xs
  generalize fr.todo=ys
  intro hd hrun
  cases hrun with
  | plain ht hk=>exact ⟨rfl,ht,hk⟩
  | drw hok hn d st hk=>cases hd
 obtain ⟨rfl,ht,hks⟩:=hpl
 have hc':aN E ν' (cg ν' M1 (S.mem.drop j)) w cs0 [] S.top.kind S.callers cs:=by
  rw [hcal] at hc ⊢
  generalize S.top.kind=kk at hc
  cases hc with
  | nil _=>exact .nil List.nodup_nil
 exact hs ν' b o _ w hle hb hor hK hsub hbn ν' _ _ w hle (bk.refl (fun x hx=>hB2.rlt x hx) fun x h=>h)
  ⟨fr,cs,w,[],rfl,zK hrd,hg,⟨h1,fun hf=>⟨(h2 hret).1,.plain ht hks⟩,fun hf=>absurd (show S.top.ret=true from hf) (by rw [hret];simp)⟩,hc'⟩

def iO (E:Env) (k n:Nat) (S:SM) (o:List (Nat × c9)) (ren:List (Nat × Nat)) (eqs:List Nat) (F:SF) (d:Nat) (l:List (Option (SO × Bool))) (m j:Nat) (so:SO) (b:Nat × Nat):List Prop:=
 match Fl E k n (S.with o) with
 | some T=>match T.mem.look m,T.mem.look j with
  | some (.map es cl,true),some (so',true)=>bif sF T&&T.callers.isEmpty&&!T.top.ret&&!Nat.beq m j&&Nat.blt m (2 ^ T.mem.d) then FE [(j,j)] true so so'++(fits E ren eqs F d l ((T.close m j b es cl).F0 j)++T.mem.obl) else [False]
  | _,_=>[False]
 | none=>[False]
theorem Db (hf:Tr.Full s.d s.H) {m j:Nat} {o:SO} {x:SO × Bool} (hm:m<2 ^ s.d) (hj:s.look j=some x) (hne:j≠m):(s.put m o).look j=some x:=by
 unfold SH.look at hj ⊢
 show (bif Nat.blt j (2 ^ s.d) then (s.H.set m (some (o,true))).get j else none)=some x
 cases hb:Nat.blt j (2 ^ s.d)
 ·rw [hb] at hj;cases hj
 ·rw [hb] at hj
  simp only [cond_true] at hj ⊢
  rw [Tr.ct hf hm (ca.1 hb),if_neg hne];exact hj
theorem ao.close' {S:SM} {m j cl:Nat} {es:List (SV × SV × Nat)} {x:SO × Bool} (hm:S.mem.look m=some (.map es cl,true)) (hj:S.mem.look j=some x) (hd:sF S=true)
  (hs:∀ ν1 b,ν.Le ν1→ν1 j=some b→ao E M w0 cs0 f R ν1 (S.close m j b es cl)):ao E M w0 cs0 f R ν S:=by
 intro ν' mm M1 w1 hle hB hmr
 obtain ⟨fr,cs,w,hl,rfl,hr,hg,⟨h1,h2,h3⟩,hc⟩:=hmr
 obtain ⟨_,_,b,_,hb,_⟩:=hr.look hj
 obtain ⟨_,_,bm,ob,hbm,ho,hor,_⟩:=hr.look hm
 refine hs ν' b hle hb ν' _ M1 w1 (aA.Le.refl _) hB ⟨fr,cs,w,hl,rfl,?_,hg,⟨h1,fun hf=>⟨(h2 hf).1,?_⟩,h3⟩,hc⟩
 ·refine hr.put hm hbm (r:=ob) ?_ ?_ rfl rfl rfl
  ·obtain ⟨l,rfl,hl'⟩:=hor
   exact ⟨l,rfl,sD hb hl'⟩
  ·apply Array.ext
   ·simp
   ·intro k hk1 hk2
    rw [Array.getElem_setIfInBounds]
    split
    ·rename_i h
     have:=(Array.getElem?_eq_some_iff.1 ho).2
     subst h;exact this
    ·rfl
 ·have:=(h2 hf).2
  revert this hd
  show sF S=true→_→Dp E ν' M1 w1 _ hl S.top.tm S.top.todo fr.tmps fr.todo
  unfold sF
  generalize S.top.todo=xs
  generalize fr.todo=ys
  intro hd this
  cases this with
  | plain ht hk=>exact .plain ht hk
  | drw hok hn d st hk=>cases hd
theorem ao.full {S:SM} (h:Tr.Full S.mem.d S.mem.H→ao E M w0 cs0 f R ν S):ao E M w0 cs0 f R ν S:=by
 intro ν' m M1 w1 hle hB hm
 have hm':=hm
 obtain ⟨fr,cs,w,hl,rfl,hr,_⟩:=hm'
 exact h hr.full ν' _ M1 w1 hle hB hm
theorem ao.iO (K:aE E M w0) {H0 H:Hp} {M00:Own} {w00:World} (hM00:∀ b,¬ M00 b) (hk:Kept H0 M00 w00 H M w0) {k n d:Nat} {S:SM} {o:List (Nat × c9)} {ren:List (Nat × Nat)} {eqs:List Nat} {F:SF} {l:Nat × Nat→List (Option (SO × Bool))} {m j:Nat} {so:SO}
  (h:∀ b,af (Go.Rx.iO E k n S o ren eqs F d (l b) m j so b)) (ht:dC E k n S o=F.todo) (hν:∀ i b,ν i=some b→ren.lookup i=some i)
  (hs:∀ ν1 b ob M2 w2,ν1 j=some b→OR ν1 j so ob→Kept H0 M00 w00 (H.put b.1 ob) M2 w2→H.Sub (H.put b.1 ob)→w00.heap.size≤b.1→ao E M2 w2 cs0 f R ν (SM.at F d (l b))):ao E M w0 cs0 f R ν S:=by
 have h0:=h (0,0)
 unfold Go.Rx.iO at h h0
 unfold dC at ht
 cases hT:Go.Rx.Fl E k n (S.with o) with
 | none=>rw [hT] at h0;exact aC h0
 | some T=>
  simp only [hT] at h h0 ht
  split at h0
  ·rename_i es cl so' hm hj
   simp only [hm,hj] at h
   obtain ⟨mI,h0'⟩:=dn h0
   obtain ⟨_,h00⟩:=cw.1 h0'
   obtain ⟨_,hob⟩:=cw.1 h00
   have hb:=mI
   simp only [Bool.and_eq_true] at hb
   obtain ⟨⟨⟨⟨b1,b2⟩,b3⟩,b4⟩,b5⟩:=hb
   have hmj:j≠m:=by
    rintro rfl
    have:Nat.beq j j=true:=by simp
    rw [this] at b4;cases b4
   refine ao.Fl K hT hob (ao.full fun hfull=>ao.close' hm hj b1 fun ν1 b hle1 hb1=>?_)
   have hq:=h b
   rw [mI] at hq
   obtain ⟨q1,q2⟩:=cw.1 hq
   obtain ⟨q3,_⟩:=cw.1 q2
   have hj':(T.close m j b es cl).mem.look j=some (so',true):=Db hfull (ca.1 b5) hj hmj
   refine ao.freeze hM00 hk (List.isEmpty_iff.1 b2) (show T.top.ret=false by simpa using b3) b1 hj' fun ν' b' o' M2 w2 hle hbj hor hK hsub hbn=>?_
   obtain rfl:b=b':=by
    have:=hle _ _ hb1
    rw [hbj] at this;exact (Option.some.inj this).symm
   have hjj:(([(j,j)]:List (Nat × Nat)).lookup j==some j)=true:=by simp [List.lookup]
   exact (ao.fits q3 ht hν (hs _ b o' M2 w2 (eW hjj hbj) (tN hjj q1 hor) hK hsub hbn)).mono hle1
  ·exact aC h0
def aB (E:Env) (f:FuncId) (n:Nat) (S:SM) (o:List (Nat × c9)) (ren:List (Nat × Nat)) (eqs:List Nat) (x:SV) (l:List (Option (SO × Bool))):List Prop:=
 match rQ E SM.over n (S.with o) with
 | some T=>match nk E f T with
  | some (y,s')=>bif decide ((ren.map (·.2)).Nodup) then uq ren x y++(qy ren eqs s' 0 l++s'.obl) else [False]
  | none=>[False]
 | none=>[False]
structure yg (ν:aA) (M:Own) (w0 w':World) (l:List (Option (SO × Bool))):Prop where
 obj:∀ k o m,l[k]?=some (some (o,m))→∃ b ob,ν k=some b∧w'.heap[b.1]?=some ob∧OR ν k o ob∧(m=true→w0.heap.size≤b.1∨M b.1)
 inj:∀ k k' o m o' m' b b',l[k]?=some (some (o,m))→l[k']?=some (some (o',m'))→ν k=some b→ν k'=some b'→b.1=b'.1→k=k'
theorem ao.aB (K:aE E M w0) {n:Nat} {S:SM} {o:List (Nat × c9)} {ren:List (Nat × Nat)} {eqs:List Nat} {x:SV} {l:List (Option (SO × Bool))} (h:af (Go.Rx.aB E f n S o ren eqs x l))
  (hR:∀ ν' w' y,ν.Le ν'→VR (ν'.ren ren) x y→yg (ν'.ren ren) M w0 w' l→(∃ M1 w1 s',bk M w0 M1 w1∧HR ν' M1 w1 s' w')→R (.returned y) w'):ao E M w0 cs0 f R ν S:=by
 unfold Go.Rx.aB at h
 split at h
 ·rename_i T hT
  split at h
  ·rename_i y s' hend
   obtain ⟨hb,h⟩:=dn h
   have hnd:=of_decide_eq_true hb
   obtain ⟨h1,h2⟩:=cw.1 h
   obtain ⟨h3,h4⟩:=cw.1 h2
   refine ao.go K hT (eU hend h4) (ao.done hend h4 fun ν' M1 w1 w' u hle hB hv hr hg=>?_)
   have hob:∀ k o m,l[k]?=some (some (o,m))→∃ i o',ren.lookup k=some i∧s'.look i=some (o',m)∧af (FE ren (eqs.contains k) o o'):=fun k o m hk=>by
    have:=mn h3 k o m hk
    simpa using this
   refine hR ν' w' u hle (jl h1 hv) ⟨fun k o m hk=>?_,fun k k' o m o' m' b b' hk hk' hb hb' e=>?_⟩ ⟨M1,w1,s',hB,hr⟩
   ·obtain ⟨i,o',hlo,hl,ho⟩:=hob k o m hk
    obtain ⟨_,_,b,ob,hb,hoo,hor,hown⟩:=hr.look hl
    have hji:(ren.lookup k==some i)=true:=by rw [hlo];simp
    exact ⟨b,ob,eW hji hb,hoo,tN hji ho hor,fun hm=>hB.own _ (hown hm)⟩
   ·obtain ⟨i,o1,hlo,hl,_⟩:=hob k o m hk
    obtain ⟨i',o2,hlo',hl',_⟩:=hob k' o' m' hk'
    obtain ⟨q1,q2,_⟩:=hr.look hl
    obtain ⟨q3,q4,_⟩:=hr.look hl'
    unfold aA.ren at hb hb'
    rw [hlo] at hb
    rw [hlo'] at hb'
    have:=hr.inj i i' q1 q3 (by rw [q2];simp) (by rw [q4];simp) b b' hb hb' e
    subst this
    exact r5 hnd (fq hlo) (fq hlo')
  ·exact aC h
 ·exact aC h
def jy (g:FuncId) (S:SM):Bool:=Nat.beq S.top.fn g
def bB (E:Env) (g:FuncId) (n:Nat) (S:SM) (o:List (Nat × c9)):List Prop:=match rQ E (jy g) n (S.with o) with
 | some T=>match T.callers with
  | [F]=>bif tj E F then T.mem.obl else [False]
  | _=>[False]
 | none=>[False]
def aR (E:Env) (g:FuncId) (n:Nat) (S:SM) (o:List (Nat × c9)):Option SF:=(rQ E (jy g) n (S.with o)).map (·.top)
def wk (E:Env) (g:FuncId) (n:Nat) (S:SM) (o:List (Nat × c9)) (x:SV):Option SM:=match rQ E (jy g) n (S.with o) with
 | some T=>match T.callers with
  | [F]=>(finish E F x T.mem).map fun r=>⟨r.1,[],r.2⟩
  | _=>none
 | none=>none
def cK (E:Env) (g:FuncId) (n:Nat) (S:SM) (o:List (Nat × c9)) (x:SV):SM:=(wk E g n S o x).getD ⟨⟨0,gw 0 0 [],[],[],false,.normal,none⟩,[],bc 0 0 0 []⟩
def bJ (E:Env) (g:FuncId) (n:Nat) (S:SM) (o:List (Nat × c9)) (x:SV):List Prop:=match wk E g n S o x with
 | some T=>T.mem.obl
 | none=>[False]
theorem uR {g:FuncId} {n:Nat} {S:SM} {o:List (Nat × c9)} {x:SV} (h:af (bJ E g n S o x)):wk E g n S o x=some (cK E g n S o x)∧(cK E g n S o x).mem.ob:=by
 unfold bJ at h
 unfold cK
 split at h
 ·rename_i T hT
  rw [hT];exact ⟨rfl,h⟩
 ·exact aC h
theorem ao.BM (K:aE E M w0) {H0 H:Hp} {M00:Own} {w00:World} (hk:Kept H0 M00 w00 H M w0) {n:Nat} {g:FuncId} {S:SM} {o:List (Nat × c9)} {args:List SV} (h:af (bB E g n S o)) (hG:aR E g n S o=aP E g args .normal)
  (hc:∀ ν' w a,ν.Le ν'→H.Sub w.hp→GR ν' E→aj ν' args a→Calls E.P g a.toArray w fun e w'=>Below w.heap.size w w'∧∃ y,e=.returned y∧(∀ M2,Kept H0 M00 w00 (H.grow w w') M2 w'→
   af (bJ E g n S o (.v y))∧ao E M2 w' cs0 f R ν (cK E g n S o (.v y)))):ao E M w0 cs0 f R ν S:=by
 unfold bB at h
 cases hT:rQ E (jy g) n (S.with o) with
 | none=>rw [hT] at h;exact aC h
 | some T=>
  rw [hT] at h
  dsimp only at h
  split at h
  ·rename_i F hF
   obtain ⟨hlag,hob⟩:=dn h
   unfold aR at hG
   rw [hT] at hG
   obtain ⟨top,callers,mem⟩:=T
   dsimp only at hF hG hob
   subst hF
   refine ao.go K hT hob (ao.HO (F:=F) hG.symm hlag hk fun ν' w a hle hsub hgr ha=>?_)
   refine (hc ν' w a hle hsub hgr ha).mono fun e w' ⟨hB,y,he,hn⟩=>⟨hB,y,.v y,he,VR.ab.2 rfl,fun M2 hK=>?_⟩
   obtain ⟨h1,h2⟩:=hn M2 hK
   obtain ⟨h3,h4⟩:=uR h1
   have h5:=h3
   unfold wk at h5
   rw [hT] at h5
   dsimp only at h5
   obtain ⟨r,hr,wY⟩:=Option.map_eq_some_iff.1 h5
   refine ⟨r.1,r.2,hr,?_,?_⟩
   ·have:(cK E g n S o (.v y)).mem=r.2:=by rw [← wY]
    have h6:(cK E g n S o (.v y)).mem.ob:=h4
    rw [this] at h6;exact h6
   ·have:(⟨r.1,[],r.2⟩:SM)=cK E g n S o (.v y):=wY
    rw [this];exact h2.mono hle
  ·exact aC h
end
def Hp.gR (H:Hp) (w w':World) (b:Nat):Hp:=fun k=>if k=b then none else H.grow w w' k
theorem Hp.jR {H:Hp} {w w':World} {b:Nat}:(H.gR w w' b).Sub (H.grow w w'):=fun k o h=>by
 unfold Hp.gR at h
 split at h
 ·cases h
 ·exact h
theorem Hp.vK {H:Hp} {w w':World} {b:Nat} (h:H.Sub w.hp) (hb:w.heap.size≤b):H.Sub (H.gR w w' b):=fun k o hk=>by
 have:=(Array.getElem?_eq_some_iff.1 (h k o hk)).1
 unfold Hp.gR
 rw [if_neg (by omega)]
 exact Hp.cT h k o hk
section
variable {E:Env} {ν:aA} {M:Own} {w0 w:World} {s s':SH} {cs0:List Frame} {f:FuncId} {R:Ending→World→Prop}
theorem ao.Hk {G F:SF} {g:FuncId} {args:List SV} (hG:aP E g args .normal=some G) (hlag:tj E F=true) {H0 H:Hp} {M00:Own} {w00:World} (hk:Kept H0 M00 w00 H M w0)
  (hc:∀ ν' w a,ν.Le ν'→H.Sub w.hp→GR ν' E→aj ν' args a→
   Calls E.P g a.toArray w fun e w'=>Below w.heap.size w w'∧∃ y x so b c o,e=.returned y∧s.room=true∧w.heap.size≤b∧w'.heap[b]?=some o∧OR (ν'.put s.nx (b,c)) s.nx so o∧VR (ν'.put s.nx (b,c)) x y∧(∀ M2,Kept H0 M00 w00 (H.gR w w' b) M2 w'→
    ∃ F' s3,finish E F x (s.new so)=some (F',s3)∧s3.ob∧ao E M2 w' cs0 f R ν ⟨F',[],s3⟩)):ao E M w0 cs0 f R ν ⟨G,[F],s⟩:=by
 refine ao.call hG fun ν' M1 w1 w a cs hle hB hr hg ha hcal=>?_
 have hsub:=hk.now hB hr
 refine (hc ν' w a hle hsub hg ha).mono fun e w' ⟨hbel,y,x,so,b,c,o,he,hroom,hbn,hob,hor,hv,hnext⟩=>⟨y,he,fun fr cs' hcs=>?_⟩
 subst hcs
 have holdb:∀ i d,i<2 ^ s.d→s.H.get i≠none→ν' i=some d→d.1<w.heap.size:=by
  intro i d hi hx hd
  cases hx':s.H.get i with
  | none=>exact absurd hx' hx
  | some x=>
   obtain ⟨b',o',hb',ho',_,_⟩:=hr.obj i hi _ hx'
   rw [hd] at hb';cases hb'
   exact (Array.getElem?_eq_some_iff.1 ho').1
 obtain ⟨hle2,hrA⟩:=HR.qf (hr.grow hbel) hroom (Nat.le_trans hr.size hbn) hob (fun i d hi hx hd=>by have:=holdb i d hi hx hd;omega) hor
 have hnx:s.nx<2 ^ s.d:=ca.1 hroom
 have hput:∀ j,j≠s.nx→(ν'.put s.nx (b,c)) j=ν' j:=fun j e=>by simp [aA.put,e]
 have hown:∀ k,(cg (ν'.put s.nx (b,c)) M1 (s.new so)) k→k=b∨(k<w.heap.size∧(w1.heap.size≤k∨M1 k)):=by
  rintro k ⟨i,x',c',hi,hx',hb'⟩
  have hi:i<2 ^ s.d:=hi
  have hx':(s.H.set s.nx (some (so,true))).get i=some (x',true):=hx'
  rw [Tr.ct hr.full hnx hi] at hx'
  by_cases e:i=s.nx
  ·subst e
   rw [aA.aU] at hb';cases hb'
   exact .inl rfl
  ·rw [if_neg e] at hx'
   rw [hput i e] at hb'
   obtain ⟨b2,o2,hb2,ho2,_,h4⟩:=hr.obj i hi _ hx'
   rw [hb'] at hb2;cases hb2
   exact .inr ⟨(Array.getElem?_eq_some_iff.1 ho2).1,h4 rfl⟩
 have hB2:bk M w0 (cg (ν'.put s.nx (b,c)) M1 (s.new so)) w':=by
  refine ⟨Nat.le_trans hB.size (Nat.le_trans hr.size hbel.size),hbel.os.trans (hr.os.trans hB.os),hbel.tape.trans (hr.tape.trans hB.tape),hbel.output.trans (hr.output.trans hB.output),fun k hb hM=>?_,fun k hb=>?_,hB.ro,fun b h=>h.elim,fun k hb=>?_⟩
  ·obtain ⟨h1,h2⟩:=hB.frame k hb hM
   have hb1:=Nat.lt_of_lt_of_le hb hB.size
   have hb2:=Nat.lt_of_lt_of_le hb1 hr.size
   refine ⟨(hbel.block k hb2).trans ((hr.frame k hb1 h2).trans h1),fun hl=>?_⟩
   rcases hown k hl with h | ⟨_,h | h⟩
   ·omega
   ·omega
   ·exact h2 h
  ·rcases hb with hb | hb
   ·exact .inl (Nat.le_trans hB.size (Nat.le_trans hr.size (Nat.le_trans hbel.size hb)))
   ·rcases hown k hb with h | ⟨_,h⟩
    ·exact .inl (Nat.le_trans hB.size (Nat.le_trans hr.size (by omega)))
    ·exact hB.own k h
  ·exact Nat.lt_of_lt_of_le (hB.rlt k hb) (Nat.le_trans hr.size hbel.size)
 have hK2:Kept H0 M00 w00 (H.gR w w' b) (cg (ν'.put s.nx (b,c)) M1 (s.new so)) w':=by
  refine ⟨hk.sub0.trans (Hp.vK hsub hbn),fun k o' hb=>?_,fun k o' hb h=>?_,hk.base.trans hB2⟩
  ·have hw':=Hp.qC hsub hbel k o' (Hp.jR k o' hb)
   refine ⟨(Array.getElem?_eq_some_iff.1 hw').1,fun hl=>?_,hw'⟩
   have hne:k≠b:=fun e=>by
    unfold Hp.gR at hb
    rw [if_pos e] at hb;cases hb
   rcases hown k hl with h | ⟨h1,h2⟩
   ·exact hne h
   ·have hb:=Hp.jR k o' hb
    simp only [Hp.grow,if_pos h1] at hb
    obtain ⟨h3,h4,_⟩:=hk.still k o' hb
    have h5:=(hB.frame k h3 h4).2
    rcases h2 with h | h
    ·have:=hB.size;omega
    ·exact h5 h
  ·have hlt:k<w.heap.size:=Nat.lt_of_lt_of_le hb (Nat.le_trans hk.base.size (Nat.le_trans hB.size hr.size))
   have h:=Hp.jR k o' h
   simp only [Hp.grow,if_pos hlt] at h
   exact hk.old k o' hb h
 obtain ⟨F',s3,hfin,ob,hsafe⟩:=hnext _ hK2
 have oQ:=zK hrA
 cases hcal with
 | wait hw ht=>
 have hhl:=pF hlag hw
 subst hhl
 have hw2:dZ E (ν'.put s.nx (b,c)) (cg (ν'.put s.nx (b,c)) M1 (s.new so)) w' [] F fr:=dZ.mono hle2 ⟨hw.base,hw.ret,hw.mode,hw.todo.cy fun b hb=>by cases hb⟩
 have ht2:aN E (ν'.put s.nx (b,c)) (cg (ν'.put s.nx (b,c)) M1 (s.new so)) w' cs0 [] F.kind [] cs':=by
  generalize F.kind=kk at ht
  cases ht with
  | nil h=>exact .nil List.nodup_nil
 obtain ⟨_,hMR⟩:=dm hw2 oQ (hg.mono hle2) hv hfin ht2 ob
 exact hsafe (ν'.put s.nx (b,c)) _ _ _ (hle.trans hle2) (bk.refl (fun b hb=>hB2.rlt b hb) fun b h=>h) hMR
def tR (E:Env) (g:FuncId) (n:Nat) (S:SM) (o:List (Nat × c9)) (mk:Nat→SV) (so:SO):Option SM:=match rQ E (jy g) n (S.with o) with
 | some T=>match T.callers with
  | [F]=>bif T.mem.room then (finish E F (mk T.mem.nx) (T.mem.new so)).map fun r=>⟨r.1,[],r.2⟩ else none
  | _=>none
 | none=>none
def uP (E:Env) (g:FuncId) (n:Nat) (S:SM) (o:List (Nat × c9)) (mk:Nat→SV) (so:SO):SM:=(tR E g n S o mk so).getD ⟨⟨0,gw 0 0 [],[],[],false,.normal,none⟩,[],bc 0 0 0 []⟩
def D3 (E:Env) (g:FuncId) (n:Nat) (S:SM) (o:List (Nat × c9)) (mk:Nat→SV) (so:SO):List Prop:=match tR E g n S o mk so with
 | some T=>T.mem.obl
 | none=>[False]
theorem Ey {g:FuncId} {n:Nat} {S:SM} {o:List (Nat × c9)} {mk:Nat→SV} {so:SO} (h:af (D3 E g n S o mk so)):tR E g n S o mk so=some (uP E g n S o mk so)∧(uP E g n S o mk so).mem.ob:=by
 unfold D3 at h
 unfold uP
 split at h
 ·rename_i T hT
  rw [hT];exact ⟨rfl,h⟩
 ·exact aC h
theorem ao.Iv (K:aE E M w0) {H0 H:Hp} {M00:Own} {w00:World} (hk:Kept H0 M00 w00 H M w0) {n:Nat} {g:FuncId} {S:SM} {o:List (Nat × c9)} {args:List SV} (h:af (bB E g n S o)) (hG:aR E g n S o=aP E g args .normal)
  (hc:∀ ν' w a,ν.Le ν'→H.Sub w.hp→GR ν' E→aj ν' args a→Calls E.P g a.toArray w fun e w'=>Below w.heap.size w w'∧∃ y mk so b c ob,e=.returned y∧w.heap.size≤b∧w'.heap[b]?=some ob∧(∀ (ν2:aA) i,ν2 i=some (b,c)→OR ν2 i so ob∧VR ν2 (mk i) y)∧
   af (D3 E g n S o mk so)∧∀ M2,Kept H0 M00 w00 (H.gR w w' b) M2 w'→ao E M2 w' cs0 f R ν (uP E g n S o mk so)):ao E M w0 cs0 f R ν S:=by
 unfold bB at h
 cases hT:rQ E (jy g) n (S.with o) with
 | none=>rw [hT] at h;exact aC h
 | some T=>
  rw [hT] at h
  dsimp only at h
  split at h
  ·rename_i F hF
   obtain ⟨hlag,hob⟩:=dn h
   unfold aR at hG
   rw [hT] at hG
   obtain ⟨top,callers,mem⟩:=T
   dsimp only at hF hG hob
   subst hF
   refine ao.go K hT hob (ao.Hk (F:=F) hG.symm hlag hk fun ν' w a hle hsub hgr ha=>?_)
   refine (hc ν' w a hle hsub hgr ha).mono fun e w' ⟨hB,y,mk,so,b,c,ob,he,hbn,hbo,hall,h1,h2⟩=>?_
   obtain ⟨h3,h4⟩:=Ey h1
   have h5:=h3
   unfold tR at h5
   rw [hT] at h5
   dsimp only at h5
   cases hroom:mem.room
   ·rw [hroom] at h5;cases h5
   rw [hroom] at h5
   simp only [cond_true] at h5
   obtain ⟨r,hr,wY⟩:=Option.map_eq_some_iff.1 h5
   obtain ⟨q1,q2⟩:=hall (ν'.put mem.nx (b,c)) mem.nx (aA.aU _ _ _)
   refine ⟨hB,y,mk mem.nx,so,b,c,ob,he,rfl,hbn,hbo,q1,q2,fun M2 hK=>⟨r.1,r.2,hr,?_,?_⟩⟩
   ·have:(uP E g n S o mk so).mem=r.2:=by rw [← wY]
    have h6:(uP E g n S o mk so).mem.ob:=h4
    rw [this] at h6;exact h6
   ·have:(⟨r.1,[],r.2⟩:SM)=uP E g n S o mk so:=wY
    rw [this];exact h2 M2 hK
  ·exact aC h
def fA (E:Env) (g:FuncId) (n:Nat) (S:SM) (o:List (Nat × c9)) (i:Nat):Option (SO × Bool):=match rQ E (jy g) n (S.with o) with
 | some T=>T.mem.look i
 | none=>none
theorem ao.Gv {G F:SF} {g:FuncId} {args:List SV} (hG:aP E g args .normal=some G) (hlag:tj E F=true) {H0 H:Hp} {M00:Own} {w00:World} (hk:Kept H0 M00 w00 H M w0)
  (hc:∀ ν' w a,ν.Le ν'→H.Sub w.hp→GR ν' E→aj ν' args a→(∀ i so m,s.look i=some (so,m)→∃ b o,ν' i=some b∧w.heap[b.1]?=some o∧OR ν' i so o)→
   Calls E.P g a.toArray w fun e w'=>Below w.heap.size w w'∧∃ y x,e=.returned y∧VR ν' x y∧(∀ M2,Kept H0 M00 w00 (H.grow w w') M2 w'→
    ∃ F' s3,finish E F x s=some (F',s3)∧s3.ob∧ao E M2 w' cs0 f R ν' ⟨F',[],s3⟩)):ao E M w0 cs0 f R ν ⟨G,[F],s⟩:=by
 refine ao.call hG fun ν' M1 w1 w a cs hle hB hr hg ha hcal=>?_
 have hsub:=hk.now hB hr
 refine (hc ν' w a hle hsub hg ha (fun i so m hl=>by obtain ⟨_,_,b,o,h1,h2,h3,_⟩:=hr.look hl;exact ⟨b,o,h1,h2,h3⟩)).mono fun e w' ⟨hbel,y,x,he,hv,hnext⟩=>⟨y,he,fun fr cs' hcs=>?_⟩
 subst hcs
 have hown:∀ b,(cg ν' M1 s) b→b<w.heap.size∧(w1.heap.size≤b∨M1 b):=by
  rintro b ⟨i,x,c,hi,hx,hb⟩
  obtain ⟨b',o,hb',ho,_,h4⟩:=hr.obj i hi _ hx
  rw [hb] at hb';cases hb'
  exact ⟨(Array.getElem?_eq_some_iff.1 ho).1,h4 rfl⟩
 have hB2:bk M w0 (cg ν' M1 s) w':=by
  refine ⟨Nat.le_trans hB.size (Nat.le_trans hr.size hbel.size),hbel.os.trans (hr.os.trans hB.os),hbel.tape.trans (hr.tape.trans hB.tape),hbel.output.trans (hr.output.trans hB.output),fun b hb hM=>?_,fun b hb=>?_,hB.ro,fun b h=>h.elim,fun b hb=>?_⟩
  ·obtain ⟨h1,h2⟩:=hB.frame b hb hM
   have hb1:=Nat.lt_of_lt_of_le hb hB.size
   refine ⟨(hbel.block b (Nat.lt_of_lt_of_le hb1 hr.size)).trans ((hr.frame b hb1 h2).trans h1),fun hl=>?_⟩
   rcases (hown b hl).2 with h | h
   ·omega
   ·exact h2 h
  ·rcases hb with hb | hb
   ·exact .inl (Nat.le_trans hB.size (Nat.le_trans hr.size (Nat.le_trans hbel.size hb)))
   ·exact hB.own b (hown b hb).2
  ·exact Nat.lt_of_lt_of_le (hB.rlt b hb) (Nat.le_trans hr.size hbel.size)
 have hK2:Kept H0 M00 w00 (H.grow w w') (cg ν' M1 s) w':=by
  refine ⟨hk.sub0.trans (Hp.cT hsub),fun b o hb=>?_,fun b o hb h=>?_,hk.base.trans hB2⟩
  ·have hw':=Hp.qC hsub hbel b o hb
   refine ⟨(Array.getElem?_eq_some_iff.1 hw').1,fun hl=>?_,hw'⟩
   obtain ⟨h1,h2⟩:=hown b hl
   simp only [Hp.grow,if_pos h1] at hb
   obtain ⟨h3,h4,_⟩:=hk.still b o hb
   have h5:=(hB.frame b h3 h4).2
   rcases h2 with h | h
   ·have:=hB.size;omega
   ·exact h5 h
  ·have hlt:b<w.heap.size:=Nat.lt_of_lt_of_le hb (Nat.le_trans hk.base.size (Nat.le_trans hB.size hr.size))
   simp only [Hp.grow,if_pos hlt] at h
   exact hk.old b o hb h
 obtain ⟨F',s3,hfin,ob,hsafe⟩:=hnext _ hK2
 have oQ:HR ν' (cg ν' M1 s) w' s w':=by
  have hg:=hr.grow hbel
  refine ⟨hg.full,hg.dom,hg.fresh,fun i hi x hx=>?_,hg.inj,Nat.le_refl _,fun _ _ _=>rfl,hg.ro,rfl,rfl,rfl⟩
  obtain ⟨b,o,h1,h2,h3,h4⟩:=hg.obj i hi x hx
  refine ⟨b,o,h1,h2,h3,fun hm=>.inr ⟨i,x.1,b.2,hi,?_,h1⟩⟩
  rw [hx,← hm]
 cases hcal with
 | wait hw ht=>
 have hhl:=pF hlag hw
 subst hhl
 have hw2:dZ E ν' (cg ν' M1 s) w' [] F fr:=⟨hw.base,hw.ret,hw.mode,hw.todo.cy fun b hb=>by cases hb⟩
 have ht2:aN E ν' (cg ν' M1 s) w' cs0 [] F.kind [] cs':=by
  generalize F.kind=kk at ht
  cases ht with
  | nil h=>exact .nil List.nodup_nil
 obtain ⟨_,hMR⟩:=dm hw2 oQ hg hv hfin ht2 ob
 exact hsafe ν' _ _ _ (aA.Le.refl _) (bk.refl (fun b hb=>hB2.rlt b hb) fun b h=>h) hMR
theorem ao.Gb (K:aE E M w0) {H0 H:Hp} {M00:Own} {w00:World} (hk:Kept H0 M00 w00 H M w0) {n:Nat} {g:FuncId} {S:SM} {o:List (Nat × c9)} {args:List SV} (h:af (bB E g n S o)) (hG:aR E g n S o=aP E g args .normal)
  (hc:∀ ν' w a,ν.Le ν'→H.Sub w.hp→GR ν' E→aj ν' args a→(∀ i so m,fA E g n S o i=some (so,m)→∃ b o,ν' i=some b∧w.heap[b.1]?=some o∧OR ν' i so o)→Calls E.P g a.toArray w fun e w'=>Below w.heap.size w w'∧∃ y,e=.returned y∧(∀ M2,Kept H0 M00 w00 (H.grow w w') M2 w'→
   af (bJ E g n S o (.v y))∧ao E M2 w' cs0 f R ν (cK E g n S o (.v y)))):ao E M w0 cs0 f R ν S:=by
 unfold bB at h
 cases hT:rQ E (jy g) n (S.with o) with
 | none=>rw [hT] at h;exact aC h
 | some T=>
  rw [hT] at h
  dsimp only at h
  split at h
  ·rename_i F hF
   obtain ⟨hlag,hob⟩:=dn h
   unfold aR at hG
   rw [hT] at hG
   obtain ⟨top,callers,mem⟩:=T
   dsimp only at hF hG hob
   subst hF
   refine ao.go K hT hob (ao.Gv (F:=F) hG.symm hlag hk fun ν' w a hle hsub hgr ha hlk=>?_)
   refine (hc ν' w a hle hsub hgr ha (fun i so m hl=>hlk i so m (by unfold fA at hl;rw [hT] at hl;exact hl))).mono fun e w' ⟨hB,y,he,hn⟩=>⟨hB,y,.v y,he,VR.ab.2 rfl,fun M2 hK=>?_⟩
   obtain ⟨h1,h2⟩:=hn M2 hK
   obtain ⟨h3,h4⟩:=uR h1
   have h5:=h3
   unfold wk at h5
   rw [hT] at h5
   dsimp only at h5
   obtain ⟨r,hr,wY⟩:=Option.map_eq_some_iff.1 h5
   refine ⟨r.1,r.2,hr,?_,?_⟩
   ·have:(cK E g n S o (.v y)).mem=r.2:=by rw [← wY]
    have h6:(cK E g n S o (.v y)).mem.ob:=h4
    rw [this] at h6;exact h6
   ·have:(⟨r.1,[],r.2⟩:SM)=cK E g n S o (.v y):=wY
    rw [this];exact h2.mono hle
  ·exact aC h
end
structure gl (M00:Own) (w00:World) (H:Hp) (M:Own) (w:World):Prop where
 still:∀ b o,H b=some o→b<w.heap.size∧¬ M b∧w.heap[b]?=some o
 base:bk M00 w00 M w
structure KX (M00:Own) (w00 w:World):Prop where
 size:w00.heap.size≤w.heap.size
 os:w.os=w00.os
 tape:w.tape=w00.tape
 output:w.output=w00.output
 block:∀ k,k<w00.heap.size→¬ M00 k→w.heap[k]?=w00.heap[k]?
section
variable {E:Env} {ν:aA} {M:Own} {w0 w:World} {s s':SH} {cs0:List Frame} {f:FuncId} {R:Ending→World→Prop}
theorem gl.start {H : Hp} {M M00 : Own} {w : World} (h : H.Sub w.hp) (hM : ∀ b o, H b = some o → ¬ M b) (hr : ∀ b, M.r b → b < w.heap.size) (hh : ∀ b, ¬ M.h b) (hm : ∀ b, M b → M00 b) (hrr : ∀ b, M.r b ↔ M00.r b) : gl M00 w H M w :=
  ⟨fun b o hb => ⟨(Array.getElem?_eq_some_iff.1 (h b o hb)).1, hM b o hb, h b o hb⟩,
   ⟨Nat.le_refl _, rfl, rfl, rfl, fun b _ hb => ⟨rfl, fun h => hb (hm b h)⟩, fun b hb => hb.imp id (hm b), hrr, fun b hb => absurd hb (hh b), hr⟩⟩
theorem Ex {M00 M1:Own} {w00 w1:World} (hB:bk M00 w00 M1 w1) (hr:HR ν M1 w1 s w):KX M00 w00 w:=
 ⟨Nat.le_trans hB.size hr.size,hr.os.trans hB.os,hr.tape.trans hB.tape,hr.output.trans hB.output,fun k hk hM=>by
  obtain ⟨h1,h2⟩:=hB.frame k hk hM
  exact (hr.frame k (Nat.lt_of_lt_of_le hk hB.size) h2).trans h1⟩
structure Alt (T:Nat→Prop) (w w':World):Prop where
 os:w'.os=w.os
 tape:w'.tape=w.tape
 output:w'.output=w.output
 size:w.heap.size≤w'.heap.size
 block:∀ k,k<w.heap.size→¬ T k→w'.heap[k]?=w.heap[k]?
theorem Alt.mono {T T':Nat→Prop} {w w':World} (h:Alt T w w') (hT:∀ k,k<w.heap.size→T k→T' k):Alt T' w w':=⟨h.os,h.tape,h.output,h.size,fun k hk hn=>h.block k hk fun hTk=>hn (hT k hk hTk)⟩
theorem Alt.but {b:Nat} {w w':World} (h:Alt (·=b) w w'):HJ w w' b:=⟨h.os,h.tape,h.output,h.size,fun k hk hn=>h.block k hk hn⟩
def mo (l:List (Nat × Nat)) (os:List (SO × Bool)) (T:Nat→Prop):Own:=⟨fun b=>az l os b∨T b,(az l os).r,fun _=>False⟩
theorem cZ {P:Program} (hP:E.P=P) {args:List SV} {a:List Value} {d:Nat} {l:List (Nat × Nat)} {os:List (SO × Bool)} {S0:SM} {H:Hp} {T:Nat→Prop} (hlen:l.length=os.length) (hd:os.length≤2 ^ d) (hn:(l.map (·.1)).Nodup)
  (ho:∀ (i:Nat) (o:SO) (m:Bool) (b c:Nat),os[i]?=some (o,m)→l[i]?=some (b,c)→∃ r,w.heap[b]?=some r∧OR (ax l) i o r) (hG:∀ g i,E.G.lookup g=some i→∃ c,l[i]?=some (g,c))
  (hH:H.Sub w.hp) (hHo:∀ (b:Nat) (o:Obj) (i:Nat) (x:SO) (c:Nat),H b=some o→os[i]?=some (x,true)→l[i]?=some (b,c)→False)
  (hS0:aS E f args (bc d os.length 0 (os.map some))=some S0) (ha:aj (ax l) args a)
  (hs:∀ cs0,gl (mo l os T) w H (az l os) w→ao E (az l os) w cs0 f R (ax l) S0):Calls P f a.toArray w R:=by
 subst hP
 have hr:=qk (d:=d) (w:=w) hlen hd hn ho
 have hk:gl (mo l os T) w H (az l os) w:=gl.start hH (fun b o hb hM=>by
  obtain ⟨i,x,c,h1,h2⟩:=hM
  exact hHo b o i x c hb h1 h2) (ek ho) (fun _ h=>h) (fun b h=>.inl h) fun b=>Iff.rfl
 exact ey hS0 hr (ek ho) (fun _ h=>h) hG ha fun cs0=>hs cs0 hk
theorem GS {M00 M1:Own} {w00 w1:World} (hB:bk M00 w00 M1 w1) (hr:HR ν M1 w1 s w):Alt M00.m w00 w:=
 have h:=Ex hB hr
 ⟨h.os,h.tape,h.output,h.size,h.block⟩
end
end Go.Rx
set_option maxRecDepth 100000
namespace Go.Proofs.YtcbokmadfcedaaaGreatDoor
open Go Go.Rx Go.RowKit
noncomputable def ji : List (FuncId × tG) := [(87, .typeOf), (134, .valueOf), (135, .valType), (136, .valIsNil), (152, .mapsClone), (166, .valElem), (167, .valSet), (207, .pure Extern.BytealgIndexByte.indexByte), (238, .pure (Extern.ReflectliteType.abiMethod fun t => do pure (.int .u8 (← Extern.Rtype.kind t)))), (245, .pure (Extern.ReflectliteType.relation "AssignableTo" Extern.ReflectliteType.assignableTo)), (246, .pure (Extern.ReflectliteType.method fun t => do Extern.Rtype.noPackHeld "Comparable" t; pure (.bool (← typeInfo t).comparable))), (247, .pure (Extern.ReflectliteType.method Extern.ReflectliteType.elem)), (248, .pure (Extern.ReflectliteType.relation "Implements" Extern.ReflectliteType.implements_))]
theorem dL:∀ r∈ji,DM Tryz.prog r:=by
 intro r hr
 simp only [ji,List.mem_cons,List.not_mem_nil,or_false] at hr
 rcases hr with rfl | rfl | rfl | rfl | rfl | rfl | rfl | rfl | rfl | rfl | rfl | rfl | rfl
 ·exact ⟨Tryz.f87,_,Tryz.func87,by kernel_rfl,by kernel_rfl,by kernel_rfl,rfl,by kernel_rfl⟩
 ·exact ⟨Tryz.f134,_,Tryz.func134,by kernel_rfl,by kernel_rfl,by kernel_rfl,rfl,by kernel_rfl⟩
 ·exact ⟨Tryz.f135,_,Tryz.func135,by kernel_rfl,by kernel_rfl,by kernel_rfl,rfl,by kernel_rfl⟩
 ·exact ⟨Tryz.f136,_,Tryz.func136,by kernel_rfl,by kernel_rfl,by kernel_rfl,rfl,by kernel_rfl⟩
 ·exact ⟨Tryz.f152,_,Tryz.func152,by kernel_rfl,by kernel_rfl,by kernel_rfl,rfl,by kernel_rfl⟩
 ·exact ⟨Tryz.f166,_,Tryz.func166,by kernel_rfl,by kernel_rfl,by kernel_rfl,rfl,by kernel_rfl⟩
 ·exact ⟨Tryz.f167,_,Tryz.func167,by kernel_rfl,by kernel_rfl,by kernel_rfl,rfl,by kernel_rfl⟩
 ·exact ⟨Tryz.f207,_,Tryz.func207,by kernel_rfl,by kernel_rfl,by kernel_rfl,rfl,by kernel_rfl⟩
 ·exact ⟨Tryz.f238,_,Tryz.func238,by kernel_rfl,by kernel_rfl,by kernel_rfl,rfl,by kernel_rfl⟩
 ·exact ⟨Tryz.f245,_,Tryz.func245,by kernel_rfl,by kernel_rfl,by kernel_rfl,rfl,by kernel_rfl⟩
 ·exact ⟨Tryz.f246,_,Tryz.func246,by kernel_rfl,by kernel_rfl,by kernel_rfl,rfl,by kernel_rfl⟩
 ·exact ⟨Tryz.f247,_,Tryz.func247,by kernel_rfl,by kernel_rfl,by kernel_rfl,rfl,by kernel_rfl⟩
 ·exact ⟨Tryz.f248,_,Tryz.func248,by kernel_rfl,by kernel_rfl,by kernel_rfl,rfl,by kernel_rfl⟩
def K8 (l:List (Nat × Bool)):Nat→Option Bool:=fun n=>l.lookup n
noncomputable def E (l:List (Nat × Bool)) (G:List (Nat × Nat)):Env:={ P:=Tryz.prog,ext:=fun f=>ji.lookup f,G,orc:=K8 l,sums:=fun _=>none,qs:=fun _=>none }
theorem facts {M:Own} {w0:World} (l:List (Nat × Bool)) (G:List (Nat × Nat)):aE (E l G) M w0:=
 aE.of (Checked.mixed Tryz.checked) (by kernel_rfl) (eR.of ji rfl dL) rfl (fun f g h=>by cases h)
noncomputable def EP (sl:List (FuncId × PS)) (G:List (Nat × Nat)):Env:={ P:=Tryz.prog,ext:=fun f=>ji.lookup f,G,orc:=fun _=>none,sums:=xw sl,qs:=fun _=>none }
theorem iL {M:Own} {w0:World} {sl:List (FuncId × PS)} {G:List (Nat × Nat)} {X:World→Prop} (h:∀ r∈sl,bH Tryz.prog X r) (hX:∀ ν s w,HR ν M w0 s w→GR ν (EP sl G)→X w):aE (EP sl G) M w0:=
 aE.AR (Checked.mixed Tryz.checked) (by kernel_rfl) (eR.of ji rfl dL) (cV.of rfl h hX) (fun f g h=>by cases h)
theorem kq {M:Own} {w0:World} {sl:List (FuncId × PS)} (h:∀ r∈sl,bH Tryz.prog (fun _=>True) r):aE (EP sl []) M w0:=iL h fun _ _ _ _ _=>trivial
theorem own:ownKnob Tryz.prog.godebug=none:=by kernel_rfl
theorem laidOut:laidOutB Tryz.prog=true:=by kernel_rfl
def bj:List Int:=[0,274646895,549293790,820201905,1098587580,1361435347,1640403810,1905808397,2197175160,2460548119,2722870694,2987750089,3280807620,3553878443,3811616794,4084100981]
abbrev vZ (n:Int):Value:=.int .i64 n
abbrev nZ:Option Nat:=none
end Go.Proofs.YtcbokmadfcedaaaGreatDoor
set_option linter.unusedSimpArgs false
set_option linter.unusedVariables false
set_option maxRecDepth 100000
namespace Go.Proofs.YtcbokmadfcedaaaGreatDoor
open Go Go.Rx Go.RowKit Go.Proofs
namespace paths
def MX (w:World):Prop:=∃ m:Int,w.cell? ⟨2,0,none⟩=some (.int .i64 m)
theorem MX.cr {w0 w:World} (h:MX w0) (hk:∀ k,k<w0.heap.size→w.heap[k]?=w0.heap[k]?):MX w:=let ⟨m,h⟩:=h;⟨m,Ak h hk⟩
def uZ:Go.Shelf.Ren:=⟨fun | 145=>141 | 220=>171 | 219=>193 | 217=>195 | 225=>204 | 224=>205 | 267=>206 | 266=>207 | 314=>218 | n=>n,fun | 9=>9 | 4=>4 | 59=>229 | 3=>3 | 5=>5 | 46=>248 | 146=>293 | 51=>206 | n=>n,fun | 1=>2 | n=>n⟩
theorem ug:Go.Proofs.LaysM.n145 Tryz.prog uZ where
 mixed:=by kernel_rfl
 f145:=Tryz.func141.trans (congrArg some (by kernel_rfl))
 f217:=Tryz.func195.trans (congrArg some (by kernel_rfl))
 f219:=Tryz.func193.trans (congrArg some (by kernel_rfl))
 f220:=Tryz.func171.trans (congrArg some (by kernel_rfl))
 f224:=Tryz.func205.trans (congrArg some (by kernel_rfl))
 f225:=Tryz.func204.trans (congrArg some (by kernel_rfl))
 f266:=Tryz.func207.trans (congrArg some (by kernel_rfl))
 f267:=Tryz.func206.trans (congrArg some (by kernel_rfl))
 f314:=Tryz.func218.trans (congrArg some (by kernel_rfl))
 t3:=Tryz.underlying3
 a3:=Tryz.isAgg3
 z3:=Tryz.sizeOf3
 v3:=Tryz.zeroValue3
 t4:=Tryz.underlying4
 a4:=Tryz.isAgg4
 z4:=Tryz.sizeOf4
 v4:=Tryz.zeroValue4
 t5:=Tryz.underlying5
 a5:=Tryz.isAgg5
 z5:=Tryz.sizeOf5
 v5:=Tryz.zeroValue5
 t9:=Tryz.underlying9
 a9:=Tryz.isAgg9
 z9:=Tryz.sizeOf9
 v9:=Tryz.zeroValue9
 t46:=Tryz.underlying248
 a46:=Tryz.isAgg248
 z46:=Tryz.sizeOf248
 v46:=Tryz.zeroValue248
 t51:=Tryz.underlying206
 a51:=Tryz.isAgg206
 z51:=Tryz.sizeOf206
 v51:=Tryz.zeroValue206
 t59:=Tryz.underlying229
 a59:=Tryz.isAgg229
 z59:=Tryz.sizeOf229
 v59:=Tryz.zeroValue229
 t146:=Tryz.underlying293
 a146:=Tryz.isAgg293
 z146:=Tryz.sizeOf293
 v146:=Tryz.zeroValue293
 g1:=by kernel_rfl
 i3:=by kernel_rfl
 i4:=by kernel_rfl
 i5:=by kernel_rfl
 i9:=by kernel_rfl
 i46:=by kernel_rfl
 i51:=by kernel_rfl
 i59:=by kernel_rfl
 i146:=by kernel_rfl
 m1:=by kernel_rfl
 s1_3:=fun w h=>Go.Proofs.cell_of_shapedOpen_int (zero:=#[.int .i64 0]) (t:=3) h (of_decide_eq_true (by kernel_rfl)) (by kernel_rfl) rfl (by kernel_rfl) (by kernel_rfl) Tryz.underlying3

def xj:Go.Shelf.Ren:=⟨fun | 137=>176 | 217=>195 | 266=>207 | n=>n,fun | 9=>9 | 5=>5 | 3=>3 | n=>n,fun | n=>n⟩
theorem GK:Go.Proofs.Lays.n137 Tryz.prog xj where
 mixed:=by kernel_rfl
 f137:=Tryz.func176.trans (congrArg some (by kernel_rfl))
 f217:=Tryz.func195.trans (congrArg some (by kernel_rfl))
 f266:=Tryz.func207.trans (congrArg some (by kernel_rfl))
 t3:=Tryz.underlying3
 a3:=Tryz.isAgg3
 z3:=Tryz.sizeOf3
 v3:=Tryz.zeroValue3
 t5:=Tryz.underlying5
 a5:=Tryz.isAgg5
 z5:=Tryz.sizeOf5
 v5:=Tryz.zeroValue5
 t9:=Tryz.underlying9
 a9:=Tryz.isAgg9
 z9:=Tryz.sizeOf9
 v9:=Tryz.zeroValue9

def cA (s:ByteArray):ByteArray:=⟨(Lib.cut s.data.toList [47]).1.toArray⟩
def cB (s:ByteArray):ByteArray:=⟨(Lib.cut s.data.toList [47]).2.1.toArray⟩
def cM (s:ByteArray):Bool:=(Lib.cut s.data.toList [47]).2.2
def a7:ByteArray:=⟨#[47]⟩
def zr:PS:=fun args=>match args with | [.string s,.string t]=>some (.tuple #[.string (cA s),.string (cB s),.bool (cM s)],s.size≤1000000000∧t=a7) | _=>none
theorem BE:bH Tryz.prog MX (141,zr):=by
 refine ⟨⟨_,Tryz.func141,by kernel_rfl,by kernel_rfl⟩,fun args v p h hp w hX=>?_⟩
 dsimp only [zr] at h
 split at h
 ·rename_i s t
  cases h
  obtain ⟨h1,rfl⟩:=hp
  obtain ⟨m,hm⟩:=hX
  refine (Any.strings_Cut { ug with } s a7 m w (by omega) hm).mono fun e w' ⟨he,n,hw⟩=>⟨?_,he⟩
  rw [hw];exact below_drewN (Below.refl _ _) n
 ·cases h
theorem ft (s:ByteArray):(cB s).size≤s.size:=by
 have e:(cB s).size=(Lib.cut s.data.toList [47]).2.1.length:=by simp [cB,ByteArray.size]
 have e2:s.data.toList.length=s.size:=by simp
 rw [e];unfold Lib.cut
 split
 ·simp only [List.length_drop];omega
 ·simp
theorem Hh:cA ⟨#[]⟩=⟨#[]⟩:=by
 have:Lib.cut [] [47]=([],[],false):=rfl
 show ByteArray.mk (Lib.cut [] [47]).1.toArray=_
 rw [this]
def FN (s:ByteArray):Int:=Lib.indexByte s.data.toList 0
def Gr:PS:=fun args=>match args with | [.string s,.int .u8 c]=>some (.int .i64 (FN s),c=0) | _=>none
theorem IN:bH Tryz.prog (fun _=>True) (176,Gr):=by
 refine ⟨⟨_,Tryz.func176,by kernel_rfl,by kernel_rfl⟩,fun args v p h hp w hX=>?_⟩
 dsimp only [Gr] at h
 split at h
 ·rename_i s c
  cases h
  subst hp
  refine (Any.strings_IndexByte GK s 0 w).mono fun e w' ⟨he,hw⟩=>⟨?_,he⟩
  rw [hw];exact Below.refl _ _
 ·cases h
noncomputable def EI:Env:=EP [(176,Gr)] []
theorem KI {M:Own} {w0:World}:aE EI M w0:=kq fun r h=>by rw [List.mem_singleton.1 h];exact IN
theorem p0 (v:Value):au EI 150 300 (ba EI 150 [.v (.string ⟨#[]⟩)]) [(1000,.b true)] v=[Value.bool false=v]:=by kernel_rfl
theorem p1 (v:Value):au EI 150 300 (ba EI 150 [.v (.string ⟨#[46]⟩)]) [(1000,.b true)] v=[Value.bool false=v]:=by kernel_rfl
theorem p2 (v:Value):au EI 150 300 (ba EI 150 [.v (.string ⟨#[46,46]⟩)]) [(1000,.b true)] v=[Value.bool false=v]:=by kernel_rfl
theorem p3 (s:ByteArray) (v:Value):au EI 150 300 (ba EI 150 [.v (.string s)]) (ff [0,1,2,3] true++ff [4,5,6,7,8,9,10,11,12,13,14,15,16,17] false) v=[Value.bool false=v,false=false,false=false,false=false,false=false,false=false,false=false,false=false,decide ((↑s.size:Int)≤24)=false,decide ((↑s.size:Int)≤24)=false,decide ((↑s.size:Int)≤24)=false,(!s.toList==(⟨⟨[]⟩⟩:ByteArray).toList)=true,(!s.toList==(⟨⟨[]⟩⟩:ByteArray).toList)=true,(!s.toList==(⟨⟨[]⟩⟩:ByteArray).toList)=true,(!s.toList==(⟨⟨[]⟩⟩:ByteArray).toList)=true]:=by kernel_rfl
theorem p4 (s:ByteArray) (v:Value):au EI 150 300 (ba EI 150 [.v (.string s)]) (ff [0,1,2,3,4,5,6,7,8,9,10,11,13,14,15,16,17] true) v=[Value.bool (decide (FN s<0))=v,(!s.toList==(⟨⟨[46,46]⟩⟩:ByteArray).toList)=true,(!s.toList==(⟨⟨[46,46]⟩⟩:ByteArray).toList)=true,(0:Int)=0,(!s.toList==(⟨⟨[46,46]⟩⟩:ByteArray).toList)=true,(!s.toList==(⟨⟨[46,46]⟩⟩:ByteArray).toList)=true,(!s.toList==(⟨⟨[46]⟩⟩:ByteArray).toList)=true,(!s.toList==(⟨⟨[46]⟩⟩:ByteArray).toList)=true,(!s.toList==(⟨⟨[46]⟩⟩:ByteArray).toList)=true,decide ((↑s.size:Int)≤24)=true,decide ((↑s.size:Int)≤24)=true,decide ((↑s.size:Int)≤24)=true,(!s.toList==(⟨⟨[]⟩⟩:ByteArray).toList)=true,(!s.toList==(⟨⟨[]⟩⟩:ByteArray).toList)=true,(!s.toList==(⟨⟨[]⟩⟩:ByteArray).toList)=true,(!s.toList==(⟨⟨[]⟩⟩:ByteArray).toList)=true]:=by kernel_rfl
def aI (s:ByteArray):Bool:=decide (s.data.toList≠[]∧s.size≤24∧s.data.toList≠[46]∧s.data.toList≠[46,46])&&decide (FN s<0)
def kU:PS:=fun args=>match args with | [.string s]=>some (.bool (aI s),s.size≤1000000000) | _=>none
theorem rS (b:ByteArray):b.toList=b.data.toList:=ByteArray.toList_eq b
theorem uf {a b:List UInt8} (h:a≠b):(a==b)=false:=beq_eq_false_iff_ne.2 h
theorem o9 {s:ByteArray} {l:List UInt8} (h:s.data.toList=l):s=⟨l.toArray⟩:=by cases s;subst h;simp
theorem zt:bH Tryz.prog (fun _=>True) (150,kU):=by
 refine ⟨⟨_,Tryz.func150,by kernel_rfl,by kernel_rfl⟩,fun args v p h hp w hX=>?_⟩
 dsimp only [kU] at h
 split at h
 ·rename_i s
  cases h
  refine (iM (E:=EI) rfl rfl (Q:=fun v=>v=.bool (aI s)) (args:=[.v (.string s)]) (a:=[.string s]) w (S0:=ba EI 150 [.v (.string s)]) (by kernel_rfl) (aj.cons (VR.ab.2 rfl) aj.nil) fun cs0=>?_).mono fun e w' ⟨h1,u,h2,h3⟩=>⟨h1,by rw [h2,h3]⟩
  have hend:∀ (ν':aA) (M1:Own) (w1:World) (s':SH) (w':World),(ax []).Le ν'→bk (az [] []) w M1 w1→HR ν' M1 w1 s' w'→(Below w.heap.size w w'∧∃ v,Ending.returned (.bool (aI s))=.returned v∧v=.bool (aI s)):=fun ν' M1 w1 s' w' _ hB hr=>⟨aG a6 hB hr,_,rfl,rfl⟩
  by_cases h0:s.data.toList=[]
  ·obtain rfl:=o9 h0
   refine ao.au KI (n:=300) (o:=[(1000,.b true)]) (v:=.bool (aI _)) ?_ hend
   rw [p0]
   simp [af,aI]
  by_cases h1:s.data.toList=[46]
  ·obtain rfl:=o9 h1
   refine ao.au KI (n:=300) (o:=[(1000,.b true)]) (v:=.bool (aI _)) ?_ hend
   rw [p1]
   simp [af,aI]
  by_cases h2:s.data.toList=[46,46]
  ·obtain rfl:=o9 h2
   refine ao.au KI (n:=300) (o:=[(1000,.b true)]) (v:=.bool (aI _)) ?_ hend
   rw [p2]
   simp [af,aI]
  by_cases h3:s.size≤24
  ·refine ao.au KI (n:=300) (o:=ff [0,1,2,3,4,5,6,7,8,9,10,11,13,14,15,16,17] true) (v:=.bool (aI s)) ?_ hend
   rw [p4]
   have e:aI s=decide (FN s<0):=by unfold aI;simp [h0,h1,h2,h3]
   have c1:decide ((s.size:Int)≤24)=true:=decide_eq_true (by omega)
   simp only [af,e,rS,uf h0,uf h1,uf h2,c1,Bool.not_false,true_and,and_true]
  ·refine ao.au KI (n:=300) (o:=ff [0,1,2,3] true++ff [4,5,6,7,8,9,10,11,12,13,14,15,16,17] false) (v:=.bool (aI s)) ?_ hend
   rw [p3]
   have e:aI s=false:=by unfold aI;simp [h3]
   have c1:decide ((s.size:Int)≤24)=false:=decide_eq_false (by omega)
   simp only [af,e,rS,uf h0,c1,Bool.not_false,true_and,and_true]
 ·cases h
noncomputable def aQ:Env:=EP [] []
theorem e0 (x y:ByteArray) (v:Value):au aQ 142 300 (ba aQ 142 [.v (.string x),.v (.string y)]) (ff [0,1] false++ff [2] true) v=[vZ (-1:Int)=v,Op.bytesLess x.toList y.toList=true,(!y.toList==y.toList)=false,(!x.toList==x.toList)=false]:=by kernel_rfl
theorem e1 (x y:ByteArray) (v:Value):au aQ 142 300 (ba aQ 142 [.v (.string x),.v (.string y)]) (ff [0,1,2] false++ff [3] true) v=[vZ 1=v,(!(Op.bytesLess x.toList y.toList||x.toList==y.toList))=true,Op.bytesLess x.toList y.toList=false,(!y.toList==y.toList)=false,(!x.toList==x.toList)=false]:=by kernel_rfl
theorem e2 (x y:ByteArray) (v:Value):au aQ 142 300 (ba aQ 142 [.v (.string x),.v (.string y)]) (ff [0,1,2,3] false) v=[vZ 0=v,(!(Op.bytesLess x.toList y.toList||x.toList==y.toList))=false,Op.bytesLess x.toList y.toList=false,(!y.toList==y.toList)=false,(!x.toList==x.toList)=false]:=by kernel_rfl
def lV (x y:ByteArray):Int:=if Op.bytesLess x.toList y.toList=true then -1 else if (!(Op.bytesLess x.toList y.toList||x.toList==y.toList))=true then 1 else 0
def xD:PS:=fun args=>match args with | [.string x,.string y]=>some (.int .i64 (lV x y),True) | _=>none
theorem kR {M:Own} {w0:World}:aE aQ M w0:=kq fun r h=>by cases h
theorem za:bH Tryz.prog (fun _=>True) (142,xD):=by
 refine .mk ⟨_,Tryz.func142,by kernel_rfl,by kernel_rfl⟩ fun args v p h hp w hX=>?_
 dsimp only [xD] at h
 split at h
 ·rename_i x y
  cases h
  have go:∀ {o v},cp (au aQ 142 300 (ba aQ 142 [.v (.string x),.v (.string y)]) o v)→v=.int .i64 (lV x y)→Calls Tryz.prog 142 #[.string x,.string y] w fun e w'=>Below w.heap.size w w'∧e=.returned (.int .i64 (lV x y)):=fun h e=>
   e ▸ cD (E:=aQ) (args:=[.v (.string x),.v (.string y)]) (a:=[.string x,.string y]) rfl rfl kR (by kernel_rfl) (aj.cons (VR.ab.2 rfl) (aj.cons (VR.ab.2 rfl) aj.nil)) h
  cases h1:Op.bytesLess x.toList y.toList
  ·cases h2:(x.toList==y.toList)
   ·exact go (o:=ff [0,1,2] false++ff [3] true) (v:=.int .i64 1) ⟨by rw [e1];simp [af,h1,h2]⟩ (by simp [lV,h1,h2])
   ·exact go (o:=ff [0,1,2,3] false) (v:=.int .i64 0) ⟨by rw [e2];simp [af,h1,h2]⟩ (by simp [lV,h1,h2])
  ·exact go (o:=ff [0,1] false++ff [2] true) (v:=.int .i64 (-1)) ⟨by rw [e0];simp [af,h1]⟩ (by simp [lV,h1])
 ·cases h
noncomputable def EN:Env:=EP [(141,zr),(142,xD)] []
noncomputable def IP:List SI:=dC EN 1 60 (ba EN 102 [.v (.string ⟨#[]⟩),.v (.string ⟨#[]⟩)]) []
noncomputable def Dh (a b:ByteArray):SF:={ fn:=102,tm:=gw 44 6 ([.v (.string a),.v (.string b)]++List.replicate 42 .aM),todo:=IP,defers:=[],ret:=false,kind:=.normal,ro:=none }
theorem n0 (a b:ByteArray):reach EN 1 60 (ba EN 102 [.v (.string a),.v (.string b)]) [(1000,.b true)] [] [] (Dh a b) 6 []=[Value.string a=Value.string a,Value.string b=Value.string b]:=by kernel_rfl
theorem n1 (a b:ByteArray) (v:Value):au EN 102 300 (SM.at (Dh a b) 6 []) (ff (List.range 40) true) v=[vZ (lV (cA a) (cA b))=v,True,(!(cA a).toList==(cA b).toList)=true,b.size≤1000000000∧(⟨⟨[47]⟩⟩:ByteArray)=a7,a.size≤1000000000∧(⟨⟨[47]⟩⟩:ByteArray)=a7]:=by kernel_rfl
theorem n2 (a b:ByteArray) (v:Value):au EN 102 300 (SM.at (Dh a b) 6 []) (ff [0,1,2] false++ff [3,4,5,6] true++ff [7] false++ff [8] true) v=[vZ (IntKind.i64.wrap (0 - 1))=v,cM b=true,cM a=false,true=true,(!cM a)=true,(!cM a)=true,(!cM a)=true,(!(cA a).toList==(cA b).toList)=false,b.size≤1000000000∧(⟨⟨[47]⟩⟩:ByteArray)=a7,a.size≤1000000000∧(⟨⟨[47]⟩⟩:ByteArray)=a7]:=by kernel_rfl
theorem n4 (a b:ByteArray) (v:Value):au EN 102 300 (SM.at (Dh a b) 6 []) (ff [0,1,2] false++ff [3,4,5,6] true++ff [7] false++ff [8] false) v=[vZ (IntKind.i64.wrap (0 - 0))=v,cM b=false,cM a=false,true=true,(!cM a)=true,(!cM a)=true,(!cM a)=true,(!(cA a).toList==(cA b).toList)=false,b.size≤1000000000∧(⟨⟨[47]⟩⟩:ByteArray)=a7,a.size≤1000000000∧(⟨⟨[47]⟩⟩:ByteArray)=a7]:=by kernel_rfl
theorem n5 (a b:ByteArray) (v:Value):au EN 102 300 (SM.at (Dh a b) 6 []) (ff [0,1,2,3,4,5] false++ff [6,7] true++ff [8] false) v=[vZ (IntKind.i64.wrap (1 - 0))=v,cM b=false,cM a=true,(!cM b)=true,(!cM a)=false,(!cM a)=false,(!cM a)=false,(!(cA a).toList==(cA b).toList)=false,b.size≤1000000000∧(⟨⟨[47]⟩⟩:ByteArray)=a7,a.size≤1000000000∧(⟨⟨[47]⟩⟩:ByteArray)=a7]:=by kernel_rfl
theorem n3 (a b a' b':ByteArray):reach EN 1 60 (SM.at (Dh a b) 6 []) (ff (List.range 40) false) [] [] (Dh a' b') 6 []=[Value.string (cB a)=Value.string a',Value.string (cB b)=Value.string b',(!cM b)=false,(!cM a)=false,(!cM a)=false,(!cM a)=false,(!(cA a).toList==(cA b).toList)=false,b.size≤1000000000∧(⟨⟨[47]⟩⟩:ByteArray)=a7,a.size≤1000000000∧(⟨⟨[47]⟩⟩:ByteArray)=a7]:=by kernel_rfl
theorem index_ge:∀ (s:List UInt8),Lib.index s [47]=-1∨0≤Lib.index s [47]
 | []=>.inl rfl
 | b::l=>by
  unfold Lib.index
  split
  ·exact .inr (Int.le_refl _)
  ·rcases index_ge l with h | h
   ·rw [h];exact .inl rfl
   ·right
    split
    ·rename_i e;rw [beq_iff_eq] at e;omega
    ·omega
theorem ze:Lib.cut [] [47]=([],[],false):=rfl
theorem Cz (l:List UInt8):Lib.cut (47::l) [47]=([],l,true):=by
 have h:Lib.index (47::l) [47]=0:=by unfold Lib.index;simp [List.isPrefixOf]
 unfold Lib.cut;rw [h];simp
theorem CS {b:UInt8} (hb:b≠47) (l:List UInt8):Lib.cut (b::l) [47]=(b::(Lib.cut l [47]).1,(Lib.cut l [47]).2.1,(Lib.cut l [47]).2.2):=by
 have h0:([47]:List UInt8).isPrefixOf (b::l)=false:=by
  simp only [List.isPrefixOf,Bool.and_true];exact beq_eq_false_iff_ne.2 fun e=>hb e.symm
 have h:Lib.index (b::l) [47]=if Lib.index l [47]==-1 then -1 else Lib.index l [47]+1:=by
  conv=>lhs;unfold Lib.index
  rw [h0];rfl
 rcases index_ge l with h1 | h1
 ·have h2:Lib.index (b::l) [47]=-1:=by rw [h,h1];rfl
  unfold Lib.cut;rw [h1,h2];rfl
 ·have h2:Lib.index (b::l) [47]=Lib.index l [47]+1:=by
   rw [h,if_neg (by rw [beq_iff_eq];omega)]
  unfold Lib.cut;rw [h2,if_pos h1,if_pos (by omega)]
  have e:(Lib.index l [47]+1).toNat=(Lib.index l [47]).toNat+1:=by omega
  rw [e];simp [Nat.add_right_comm]
def aF:List UInt8→List (List UInt8)
 | []=>[[]]
 | b::l=>if b=47 then []::aF l else match aF l with
  | []=>[[b]]
  | x::xs=>(b::x)::xs
theorem dE:∀ l:List UInt8,aF l≠[]
 | []=>by simp [aF]
 | b::l=>by
  unfold aF
  split
  ·simp
  ·split <;> simp
theorem iz:∀ l:List UInt8,aF l=(Lib.cut l [47]).1::(if (Lib.cut l [47]).2.2=true then aF (Lib.cut l [47]).2.1 else [])
 | []=>by rw [ze];rfl
 | b::l=>by
  by_cases hb:b=47
  ·subst hb
   rw [Cz];simp [aF]
  ·rw [CS hb]
   have ih:=iz l
   have e:aF (b::l)=match aF l with
    | []=>[[b]]
    | x::xs=>(b::x)::xs:=by
    conv=>lhs;unfold aF
    rw [if_neg hb]
   rw [e,ih]
theorem zE:∀ l:List UInt8,(Lib.cut l [47]).2.2=true→(Lib.cut l [47]).2.1.length<l.length
 | []=>fun h=>by rw [ze] at h;cases h
 | b::l=>fun h=>by
  by_cases hb:b=47
  ·subst hb;rw [Cz];simp
  ·rw [CS hb] at h ⊢
   have:=zE l h
   simp only [List.length_cons];omega
theorem vM (s:ByteArray) (h:cM s=true):(cB s).size<s.size:=by
 have e:(cB s).size=(Lib.cut s.data.toList [47]).2.1.length:=by simp [cB,ByteArray.size]
 have e2:s.data.toList.length=s.size:=by simp
 have:=zE s.data.toList h
 omega
def Ck (b:Bool):Int:=bif b then 1 else 0
def jF:Nat→ByteArray→ByteArray→Int
 | 0,_,_=>0
 | n+1,a,b=>if (cA a).data.toList=(cA b).data.toList then (if cM a=true∧cM b=true then jF n (cB a) (cB b) else Ck (cM a) - Ck (cM b)) else lV (cA a) (cA b)
def bF (a b:ByteArray):Int:=jF (a.size+1) a b
def lH:PS:=fun args=>match args with | [.string a,.string b]=>some (.int .i64 (bF a b),a.size≤1000000000∧b.size≤1000000000) | _=>none
theorem KN {w0:World} (h:MX w0):aE EN (az [] []) w0:=iL (X:=MX) (fun r hr=>by
 simp only [List.mem_cons,List.not_mem_nil,or_false] at hr
 rcases hr with rfl | rfl
 ·exact BE
 ·exact ⟨za.1,fun args v p e hp w _=>za.2 args v p e hp w trivial⟩) fun ν s w hr _=>h.cr fun k hk=>hr.frame k hk (a6 k)
theorem fB {E:Env} {M:Own} {w0:World} {cs0:List Frame} {f:FuncId} {R:Ending→World→Prop} {ν:aA} {n:Nat} {S:SM} {o:List (Nat × c9)} {v:Value} (K:aE E M w0) (hM:∀ b,¬ M b) (h:cp (au E f n S o v)) (hR:∀ w',Below w0.heap.size w0 w'→R (.returned v) w'):ao E M w0 cs0 f R ν S:=
 ao.au K h.out fun ν' M1 w1 s' w' _ hB hr=>hR _ (aG hM hB hr)
theorem Gq {w0:World} {cs0:List Frame} {R:Ending→World→Prop} (h:MX w0):∀ (n:Nat) (a b:ByteArray),a.size<n→a.size≤1000000000→b.size≤1000000000→
  (∀ w',Below w0.heap.size w0 w'→R (.returned (.int .i64 (jF n a b))) w')→ao EN (az [] []) w0 cs0 102 R (ax []) (SM.at (Dh a b) 6 [])
 | 0,a,b,hn,_,_,_=>by omega
 | n+1,a,b,hn,ha,hb,hR=>by
  have sl:(⟨⟨[47]⟩⟩:ByteArray)=a7:=rfl
  have go:∀ {o v},cp (au EN 102 300 (SM.at (Dh a b) 6 []) o v)→v=.int .i64 (jF (n+1) a b)→ao EN (az [] []) w0 cs0 102 R (ax []) (SM.at (Dh a b) 6 []):=fun hd e=>
   fB (KN h) a6 hd fun w' hw=>by rw [e];exact hR _ hw
  by_cases he:(cA a).data.toList=(cA b).data.toList
  ·have hq:((cA a).data.toList==(cA b).data.toList)=true:=beq_iff_eq.2 he
   cases ma:cM a
   ·cases mb:cM b
    ·refine go (o:=(ff [0,1,2] false++ff [3,4,5,6] true++ff [7] false++ff [8] false)) (v:=.int .i64 0) ⟨?_⟩ (by simp [jF,he,ma,mb,Ck])
     rw [n4]
     simp [af,rS,hq,ma,mb,ha,hb,sl]
     rfl
    ·refine go (o:=(ff [0,1,2] false++ff [3,4,5,6] true++ff [7] false++ff [8] true)) (v:=.int .i64 (-1)) ⟨?_⟩ (by simp [jF,he,ma,mb,Ck])
     rw [n2]
     simp [af,rS,hq,ma,mb,ha,hb,sl]
     rfl
   ·cases mb:cM b
    ·refine go (o:=(ff [0,1,2,3,4,5] false++ff [6,7] true++ff [8] false)) (v:=.int .i64 1) ⟨?_⟩ (by simp [jF,he,ma,mb,Ck])
     rw [n5]
     simp [af,rS,hq,ma,mb,ha,hb,sl]
     rfl
    ·refine ao.reach (KN h) (k:=1) (n:=60) (o:=ff (List.range 40) false) (ren:=[]) (eqs:=[]) ?_ (by kernel_rfl) (fun i b h=>by cases i <;> cases h) (l:=[]) (Gq h n (cB a) (cB b) (by have:=vM a ma;omega) (Nat.le_trans (ft a) ha) (Nat.le_trans (ft b) hb) fun w' hw=>by
      have:=hR w' hw
      have e:jF (n+1) a b=jF n (cB a) (cB b):=by simp [jF,he,ma,mb]
      rwa [e] at this)
     rw [n3]
     simp [af,rS,hq,ma,mb,ha,hb,sl]
  ·have hq:((cA a).data.toList==(cA b).data.toList)=false:=beq_eq_false_iff_ne.2 he
   refine go (o:=ff (List.range 40) true) (v:=.int .i64 (lV (cA a) (cA b))) ⟨?_⟩ (by simp [jF,he])
   rw [n1]
   simp [af,rS,hq,ha,hb,sl]
theorem G4:bH Tryz.prog MX (102,lH):=by
 refine .mk ⟨_,Tryz.func102,by kernel_rfl,by kernel_rfl⟩ fun args v p h hp w hX=>?_
 dsimp only [lH] at h
 split at h
 ·rename_i a b
  cases h
  refine (iM (E:=EN) rfl rfl (Q:=fun v=>v=.int .i64 (bF a b)) (args:=[.v (.string a),.v (.string b)]) (a:=[.string a,.string b]) w (S0:=ba EN 102 [.v (.string a),.v (.string b)]) (by kernel_rfl) (aj.cons (VR.ab.2 rfl) (aj.cons (VR.ab.2 rfl) aj.nil)) fun cs0=>?_).mono fun e w' ⟨h1,u,h2,h3⟩=>⟨h1,by rw [h2,h3]⟩
  refine ao.reach (KN hX) (k:=1) (n:=60) (o:=[(1000,.b true)]) (ren:=[]) (eqs:=[]) (F:=Dh a b) (d:=6) (l:=[]) ?_ (by kernel_rfl) (fun i b h=>by cases i <;> cases h) (Gq hX (a.size+1) a b (by omega) hp.1 hp.2 fun w' hw=>⟨hw,_,rfl,rfl⟩)
  rw [n0];simp [af]
 ·cases h
noncomputable def EC:Env:=EP [(141,zr),(150,kU)] []
theorem c0 (p:ByteArray) (v:Value):au EC 111 3000 (ba EC 111 [.v (.string p)]) ([(0,.b true)]) v=[vZ 23=v,decide ((↑p.size:Int)>96)=true]:=by kernel_rfl
theorem Ma (p:ByteArray) (v:Value):au EC 111 3000 (ba EC 111 [.v (.string p)]) (ff [0] false++ff [8] true) v=[vZ 23=v,(!aI (cA p))=true,(cA p).size.le 1000000000,p.size≤1000000000∧(⟨⟨[47]⟩⟩:ByteArray)=a7,decide ((↑p.size:Int)>96)=false]:=by kernel_rfl
theorem Oq (p:ByteArray) (v:Value):au EC 111 3000 (ba EC 111 [.v (.string p)]) (ff [0,8,10] false++ff [] true) v=[vZ 0=v,cM p=false,(!aI (cA p))=false,(cA p).size.le 1000000000,p.size≤1000000000∧(⟨⟨[47]⟩⟩:ByteArray)=a7,decide ((↑p.size:Int)>96)=false]:=by kernel_rfl
theorem LZ (p:ByteArray) (v:Value):au EC 111 3000 (ba EC 111 [.v (.string p)]) (ff [0,8] false++ff [17,10] true) v=[vZ 23=v,(!aI (cA (cB p)))=true,(cA (cB p)).size.le 1000000000,(cB p).size≤1000000000∧(⟨⟨[47]⟩⟩:ByteArray)=a7,cM p=true,(!aI (cA p))=false,(cA p).size.le 1000000000,p.size≤1000000000∧(⟨⟨[47]⟩⟩:ByteArray)=a7,decide ((↑p.size:Int)>96)=false]:=by kernel_rfl
theorem MW (p:ByteArray) (v:Value):au EC 111 3000 (ba EC 111 [.v (.string p)]) (ff [0,8,17,19] false++ff [10] true) v=[vZ 0=v,cM (cB p)=false,(!aI (cA (cB p)))=false,(cA (cB p)).size.le 1000000000,(cB p).size≤1000000000∧(⟨⟨[47]⟩⟩:ByteArray)=a7,cM p=true,(!aI (cA p))=false,(cA p).size.le 1000000000,p.size≤1000000000∧(⟨⟨[47]⟩⟩:ByteArray)=a7,decide ((↑p.size:Int)>96)=false]:=by kernel_rfl
theorem NW (p:ByteArray) (v:Value):au EC 111 3000 (ba EC 111 [.v (.string p)]) (ff [0,8,17] false++ff [26,10,19] true) v=[vZ 23=v,(!aI (cA (cB (cB p))))=true,(cA (cB (cB p))).size.le 1000000000,(cB (cB p)).size≤1000000000∧(⟨⟨[47]⟩⟩:ByteArray)=a7,cM (cB p)=true,(!aI (cA (cB p)))=false,(cA (cB p)).size.le 1000000000,(cB p).size≤1000000000∧(⟨⟨[47]⟩⟩:ByteArray)=a7,cM p=true,(!aI (cA p))=false,(cA p).size.le 1000000000,p.size≤1000000000∧(⟨⟨[47]⟩⟩:ByteArray)=a7,decide ((↑p.size:Int)>96)=false]:=by kernel_rfl
theorem OU (p:ByteArray) (v:Value):au EC 111 3000 (ba EC 111 [.v (.string p)]) (ff [0,8,17,26,28] false++ff [10,19] true) v=[vZ 0=v,cM (cB (cB p))=false,(!aI (cA (cB (cB p))))=false,(cA (cB (cB p))).size.le 1000000000,(cB (cB p)).size≤1000000000∧(⟨⟨[47]⟩⟩:ByteArray)=a7,cM (cB p)=true,(!aI (cA (cB p)))=false,(cA (cB p)).size.le 1000000000,(cB p).size≤1000000000∧(⟨⟨[47]⟩⟩:ByteArray)=a7,cM p=true,(!aI (cA p))=false,(cA p).size.le 1000000000,p.size≤1000000000∧(⟨⟨[47]⟩⟩:ByteArray)=a7,decide ((↑p.size:Int)>96)=false]:=by kernel_rfl
theorem N6 (p:ByteArray) (v:Value):au EC 111 3000 (ba EC 111 [.v (.string p)]) (ff [0,8,17,26] false++ff [35,10,19,28] true) v=[vZ 23=v,(!aI (cA (cB (cB (cB p)))))=true,(cA (cB (cB (cB p)))).size.le 1000000000,(cB (cB (cB p))).size≤1000000000∧(⟨⟨[47]⟩⟩:ByteArray)=a7,cM (cB (cB p))=true,(!aI (cA (cB (cB p))))=false,(cA (cB (cB p))).size.le 1000000000,(cB (cB p)).size≤1000000000∧(⟨⟨[47]⟩⟩:ByteArray)=a7,cM (cB p)=true,(!aI (cA (cB p)))=false,(cA (cB p)).size.le 1000000000,(cB p).size≤1000000000∧(⟨⟨[47]⟩⟩:ByteArray)=a7,cM p=true,(!aI (cA p))=false,(cA p).size.le 1000000000,p.size≤1000000000∧(⟨⟨[47]⟩⟩:ByteArray)=a7,decide ((↑p.size:Int)>96)=false]:=by kernel_rfl
theorem NM (p:ByteArray) (v:Value):au EC 111 3000 (ba EC 111 [.v (.string p)]) (ff [0,8,17,26,35,37] false++ff [10,19,28] true) v=[vZ 0=v,cM (cB (cB (cB p)))=false,(!aI (cA (cB (cB (cB p)))))=false,(cA (cB (cB (cB p)))).size.le 1000000000,(cB (cB (cB p))).size≤1000000000∧(⟨⟨[47]⟩⟩:ByteArray)=a7,cM (cB (cB p))=true,(!aI (cA (cB (cB p))))=false,(cA (cB (cB p))).size.le 1000000000,(cB (cB p)).size≤1000000000∧(⟨⟨[47]⟩⟩:ByteArray)=a7,cM (cB p)=true,(!aI (cA (cB p)))=false,(cA (cB p)).size.le 1000000000,(cB p).size≤1000000000∧(⟨⟨[47]⟩⟩:ByteArray)=a7,cM p=true,(!aI (cA p))=false,(cA p).size.le 1000000000,p.size≤1000000000∧(⟨⟨[47]⟩⟩:ByteArray)=a7,decide ((↑p.size:Int)>96)=false]:=by kernel_rfl
theorem Pe (p:ByteArray) (v:Value):au EC 111 3000 (ba EC 111 [.v (.string p)]) (ff [0,8,17,26,35] false++ff [44,10,19,28,37] true) v=[vZ 23=v,(!aI (cA (cB (cB (cB (cB p))))))=true,(cA (cB (cB (cB (cB p))))).size.le 1000000000,(cB (cB (cB (cB p)))).size≤1000000000∧(⟨⟨[47]⟩⟩:ByteArray)=a7,cM (cB (cB (cB p)))=true,(!aI (cA (cB (cB (cB p)))))=false,(cA (cB (cB (cB p)))).size.le 1000000000,(cB (cB (cB p))).size≤1000000000∧(⟨⟨[47]⟩⟩:ByteArray)=a7,cM (cB (cB p))=true,(!aI (cA (cB (cB p))))=false,(cA (cB (cB p))).size.le 1000000000,(cB (cB p)).size≤1000000000∧(⟨⟨[47]⟩⟩:ByteArray)=a7,cM (cB p)=true,(!aI (cA (cB p)))=false,(cA (cB p)).size.le 1000000000,(cB p).size≤1000000000∧(⟨⟨[47]⟩⟩:ByteArray)=a7,cM p=true,(!aI (cA p))=false,(cA p).size.le 1000000000,p.size≤1000000000∧(⟨⟨[47]⟩⟩:ByteArray)=a7,decide ((↑p.size:Int)>96)=false]:=by kernel_rfl
theorem Pc (p:ByteArray) (v:Value):au EC 111 3000 (ba EC 111 [.v (.string p)]) (ff [0,8,17,26,35,44,46] false++ff [10,19,28,37] true) v=[vZ 0=v,cM (cB (cB (cB (cB p))))=false,(!aI (cA (cB (cB (cB (cB p))))))=false,(cA (cB (cB (cB (cB p))))).size.le 1000000000,(cB (cB (cB (cB p)))).size≤1000000000∧(⟨⟨[47]⟩⟩:ByteArray)=a7,cM (cB (cB (cB p)))=true,(!aI (cA (cB (cB (cB p)))))=false,(cA (cB (cB (cB p)))).size.le 1000000000,(cB (cB (cB p))).size≤1000000000∧(⟨⟨[47]⟩⟩:ByteArray)=a7,cM (cB (cB p))=true,(!aI (cA (cB (cB p))))=false,(cA (cB (cB p))).size.le 1000000000,(cB (cB p)).size≤1000000000∧(⟨⟨[47]⟩⟩:ByteArray)=a7,cM (cB p)=true,(!aI (cA (cB p)))=false,(cA (cB p)).size.le 1000000000,(cB p).size≤1000000000∧(⟨⟨[47]⟩⟩:ByteArray)=a7,cM p=true,(!aI (cA p))=false,(cA p).size.le 1000000000,p.size≤1000000000∧(⟨⟨[47]⟩⟩:ByteArray)=a7,decide ((↑p.size:Int)>96)=false]:=by kernel_rfl
theorem Ox (p:ByteArray) (v:Value):au EC 111 3000 (ba EC 111 [.v (.string p)]) (ff [0,8,17,26,35,44] false++ff [53,10,19,28,37,46] true) v=[vZ 23=v,(!aI (cA (cB (cB (cB (cB (cB p)))))))=true,(cA (cB (cB (cB (cB (cB p)))))).size.le 1000000000,(cB (cB (cB (cB (cB p))))).size≤1000000000∧(⟨⟨[47]⟩⟩:ByteArray)=a7,cM (cB (cB (cB (cB p))))=true,(!aI (cA (cB (cB (cB (cB p))))))=false,(cA (cB (cB (cB (cB p))))).size.le 1000000000,(cB (cB (cB (cB p)))).size≤1000000000∧(⟨⟨[47]⟩⟩:ByteArray)=a7,cM (cB (cB (cB p)))=true,(!aI (cA (cB (cB (cB p)))))=false,(cA (cB (cB (cB p)))).size.le 1000000000,(cB (cB (cB p))).size≤1000000000∧(⟨⟨[47]⟩⟩:ByteArray)=a7,cM (cB (cB p))=true,(!aI (cA (cB (cB p))))=false,(cA (cB (cB p))).size.le 1000000000,(cB (cB p)).size≤1000000000∧(⟨⟨[47]⟩⟩:ByteArray)=a7,cM (cB p)=true,(!aI (cA (cB p)))=false,(cA (cB p)).size.le 1000000000,(cB p).size≤1000000000∧(⟨⟨[47]⟩⟩:ByteArray)=a7,cM p=true,(!aI (cA p))=false,(cA p).size.le 1000000000,p.size≤1000000000∧(⟨⟨[47]⟩⟩:ByteArray)=a7,decide ((↑p.size:Int)>96)=false]:=by kernel_rfl
theorem OT (p:ByteArray) (v:Value):au EC 111 3000 (ba EC 111 [.v (.string p)]) (ff [0,8,17,26,35,44,53,55] false++ff [10,19,28,37,46] true) v=[vZ 0=v,cM (cB (cB (cB (cB (cB p)))))=false,(!aI (cA (cB (cB (cB (cB (cB p)))))))=false,(cA (cB (cB (cB (cB (cB p)))))).size.le 1000000000,(cB (cB (cB (cB (cB p))))).size≤1000000000∧(⟨⟨[47]⟩⟩:ByteArray)=a7,cM (cB (cB (cB (cB p))))=true,(!aI (cA (cB (cB (cB (cB p))))))=false,(cA (cB (cB (cB (cB p))))).size.le 1000000000,(cB (cB (cB (cB p)))).size≤1000000000∧(⟨⟨[47]⟩⟩:ByteArray)=a7,cM (cB (cB (cB p)))=true,(!aI (cA (cB (cB (cB p)))))=false,(cA (cB (cB (cB p)))).size.le 1000000000,(cB (cB (cB p))).size≤1000000000∧(⟨⟨[47]⟩⟩:ByteArray)=a7,cM (cB (cB p))=true,(!aI (cA (cB (cB p))))=false,(cA (cB (cB p))).size.le 1000000000,(cB (cB p)).size≤1000000000∧(⟨⟨[47]⟩⟩:ByteArray)=a7,cM (cB p)=true,(!aI (cA (cB p)))=false,(cA (cB p)).size.le 1000000000,(cB p).size≤1000000000∧(⟨⟨[47]⟩⟩:ByteArray)=a7,cM p=true,(!aI (cA p))=false,(cA p).size.le 1000000000,p.size≤1000000000∧(⟨⟨[47]⟩⟩:ByteArray)=a7,decide ((↑p.size:Int)>96)=false]:=by kernel_rfl
theorem cd (p:ByteArray) (v:Value):au EC 111 3000 (ba EC 111 [.v (.string p)]) (ff [0,8,17,26,35,44,53] false++ff [10,19,28,37,46,55] true) v=[vZ 23=v,(cB (cB (cB (cB (cB (cB p)))))).size≤1000000000∧(⟨⟨[47]⟩⟩:ByteArray)=a7,cM (cB (cB (cB (cB (cB p)))))=true,(!aI (cA (cB (cB (cB (cB (cB p)))))))=false,(cA (cB (cB (cB (cB (cB p)))))).size.le 1000000000,(cB (cB (cB (cB (cB p))))).size≤1000000000∧(⟨⟨[47]⟩⟩:ByteArray)=a7,cM (cB (cB (cB (cB p))))=true,(!aI (cA (cB (cB (cB (cB p))))))=false,(cA (cB (cB (cB (cB p))))).size.le 1000000000,(cB (cB (cB (cB p)))).size≤1000000000∧(⟨⟨[47]⟩⟩:ByteArray)=a7,cM (cB (cB (cB p)))=true,(!aI (cA (cB (cB (cB p)))))=false,(cA (cB (cB (cB p)))).size.le 1000000000,(cB (cB (cB p))).size≤1000000000∧(⟨⟨[47]⟩⟩:ByteArray)=a7,cM (cB (cB p))=true,(!aI (cA (cB (cB p))))=false,(cA (cB (cB p))).size.le 1000000000,(cB (cB p)).size≤1000000000∧(⟨⟨[47]⟩⟩:ByteArray)=a7,cM (cB p)=true,(!aI (cA (cB p)))=false,(cA (cB p)).size.le 1000000000,(cB p).size≤1000000000∧(⟨⟨[47]⟩⟩:ByteArray)=a7,cM p=true,(!aI (cA p))=false,(cA p).size.le 1000000000,p.size≤1000000000∧(⟨⟨[47]⟩⟩:ByteArray)=a7,decide ((↑p.size:Int)>96)=false]:=by kernel_rfl
theorem jW (s:ByteArray):(cA s).size≤s.size:=by
 have e:(cA s).size=(Lib.cut s.data.toList [47]).1.length:=by simp [cA,ByteArray.size]
 have e2:s.data.toList.length=s.size:=by simp
 rw [e];unfold Lib.cut
 split
 ·simp only [List.length_take];omega
 ·simp
def iB:Nat→ByteArray→Bool
 | 0,_=>false
 | n+1,p=>aI (cA p)&&(!(cM p)||iB n (cB p))
def cI (p:ByteArray):Bool:=decide (p.size≤96)&&iB 6 p
def bI (p:ByteArray):Int:=bif cI p then 0 else 23
def tr:PS:=fun args=>match args with | [.string p]=>some (.int .i64 (bI p),p.size≤1000000000) | _=>none
theorem KC {w0:World} (h:MX w0):aE EC (az [] []) w0:=iL (X:=MX) (fun r hr=>by
 simp only [List.mem_cons,List.not_mem_nil,or_false] at hr
 rcases hr with rfl | rfl
 ·exact BE
 ·exact ⟨zt.1,fun args v p e hp w _=>zt.2 args v p e hp w trivial⟩) fun ν s w hr _=>h.cr fun k hk=>hr.frame k hk (a6 k)
theorem Cm:bH Tryz.prog MX (111,tr):=by
 refine .mk ⟨_,Tryz.func111,by kernel_rfl,by kernel_rfl⟩ fun args v p h hp w hX=>?_
 dsimp only [tr] at h
 split at h
 ·rename_i p
  cases h
  have go:∀ {o v},cp (au EC 111 3000 (ba EC 111 [.v (.string p)]) o v)→v=.int .i64 (bI p)→Calls Tryz.prog 111 #[.string p] w fun e w'=>Below w.heap.size w w'∧e=.returned (.int .i64 (bI p)):=fun h e=>
   e ▸ cD (E:=EC) (args:=[.v (.string p)]) rfl rfl (KC hX) (by kernel_rfl) (aj.cons (VR.ab.2 rfl) aj.nil) h
  by_cases h96:p.size>96
  ·exact go (o:=[(0,.b true)]) ⟨by rw [c0];exact ⟨⟨trivial,decide_eq_true (by omega)⟩,rfl⟩⟩ (by simp [bI,cI,show ¬ p.size≤96 by omega])
  have d96:decide ((p.size:Int)>96)=false:=decide_eq_false (by omega)
  have g96:decide (p.size≤96)=true:=decide_eq_true (by omega)
  have sl:(⟨⟨[47]⟩⟩:ByteArray)=a7:=rfl
  have s0:p.size≤1000000000:=hp
  have a0:(cA p).size≤1000000000:=Nat.le_trans (jW _) s0
  have s1:(cB p).size≤1000000000:=Nat.le_trans (ft _) s0
  have a1:(cA (cB p)).size≤1000000000:=Nat.le_trans (jW _) s1
  have s2:(cB (cB p)).size≤1000000000:=Nat.le_trans (ft _) s1
  have a2:(cA (cB (cB p))).size≤1000000000:=Nat.le_trans (jW _) s2
  have s3:(cB (cB (cB p))).size≤1000000000:=Nat.le_trans (ft _) s2
  have a3:(cA (cB (cB (cB p)))).size≤1000000000:=Nat.le_trans (jW _) s3
  have s4:(cB (cB (cB (cB p)))).size≤1000000000:=Nat.le_trans (ft _) s3
  have a4:(cA (cB (cB (cB (cB p))))).size≤1000000000:=Nat.le_trans (jW _) s4
  have s5:(cB (cB (cB (cB (cB p))))).size≤1000000000:=Nat.le_trans (ft _) s4
  have a5:(cA (cB (cB (cB (cB (cB p)))))).size≤1000000000:=Nat.le_trans (jW _) s5
  have s6:(cB (cB (cB (cB (cB (cB p)))))).size≤1000000000:=Nat.le_trans (ft _) s5
  cases p0:aI (cA p)
  ·exact go (o:=(ff [0] false++ff [8] true)) (v:=.int .i64 23) ⟨by rw [Ma];simp [af,d96,sl,s0,a0,p0]⟩ (by simp [bI,cI,iB,g96,p0])
  cases m0:cM p
  ·exact go (o:=(ff [0,8,10] false++ff [] true)) (v:=.int .i64 0) ⟨by rw [Oq];simp [af,d96,sl,s0,a0,p0,m0]⟩ (by simp [bI,cI,iB,g96,p0,m0])
  cases p1:aI (cA (cB p))
  ·exact go (o:=(ff [0,8] false++ff [17,10] true)) (v:=.int .i64 23) ⟨by rw [LZ];simp [af,d96,sl,s0,a0,p0,m0,s1,a1,p1]⟩ (by simp [bI,cI,iB,g96,p0,m0,p1])
  cases m1:cM (cB p)
  ·exact go (o:=(ff [0,8,17,19] false++ff [10] true)) (v:=.int .i64 0) ⟨by rw [MW];simp [af,d96,sl,s0,a0,p0,m0,s1,a1,p1,m1]⟩ (by simp [bI,cI,iB,g96,p0,m0,p1,m1])
  cases p2:aI (cA (cB (cB p)))
  ·exact go (o:=(ff [0,8,17] false++ff [26,10,19] true)) (v:=.int .i64 23) ⟨by rw [NW];simp [af,d96,sl,s0,a0,p0,m0,s1,a1,p1,m1,s2,a2,p2]⟩ (by simp [bI,cI,iB,g96,p0,m0,p1,m1,p2])
  cases m2:cM (cB (cB p))
  ·exact go (o:=(ff [0,8,17,26,28] false++ff [10,19] true)) (v:=.int .i64 0) ⟨by rw [OU];simp [af,d96,sl,s0,a0,p0,m0,s1,a1,p1,m1,s2,a2,p2,m2]⟩ (by simp [bI,cI,iB,g96,p0,m0,p1,m1,p2,m2])
  cases p3:aI (cA (cB (cB (cB p))))
  ·exact go (o:=(ff [0,8,17,26] false++ff [35,10,19,28] true)) (v:=.int .i64 23) ⟨by rw [N6];simp [af,d96,sl,s0,a0,p0,m0,s1,a1,p1,m1,s2,a2,p2,m2,s3,a3,p3]⟩ (by simp [bI,cI,iB,g96,p0,m0,p1,m1,p2,m2,p3])
  cases m3:cM (cB (cB (cB p)))
  ·exact go (o:=(ff [0,8,17,26,35,37] false++ff [10,19,28] true)) (v:=.int .i64 0) ⟨by rw [NM];simp [af,d96,sl,s0,a0,p0,m0,s1,a1,p1,m1,s2,a2,p2,m2,s3,a3,p3,m3]⟩ (by simp [bI,cI,iB,g96,p0,m0,p1,m1,p2,m2,p3,m3])
  cases p4:aI (cA (cB (cB (cB (cB p)))))
  ·exact go (o:=(ff [0,8,17,26,35] false++ff [44,10,19,28,37] true)) (v:=.int .i64 23) ⟨by rw [Pe];simp [af,d96,sl,s0,a0,p0,m0,s1,a1,p1,m1,s2,a2,p2,m2,s3,a3,p3,m3,s4,a4,p4]⟩ (by simp [bI,cI,iB,g96,p0,m0,p1,m1,p2,m2,p3,m3,p4])
  cases m4:cM (cB (cB (cB (cB p))))
  ·exact go (o:=(ff [0,8,17,26,35,44,46] false++ff [10,19,28,37] true)) (v:=.int .i64 0) ⟨by rw [Pc];simp [af,d96,sl,s0,a0,p0,m0,s1,a1,p1,m1,s2,a2,p2,m2,s3,a3,p3,m3,s4,a4,p4,m4]⟩ (by simp [bI,cI,iB,g96,p0,m0,p1,m1,p2,m2,p3,m3,p4,m4])
  cases p5:aI (cA (cB (cB (cB (cB (cB p))))))
  ·exact go (o:=(ff [0,8,17,26,35,44] false++ff [53,10,19,28,37,46] true)) (v:=.int .i64 23) ⟨by rw [Ox];simp [af,d96,sl,s0,a0,p0,m0,s1,a1,p1,m1,s2,a2,p2,m2,s3,a3,p3,m3,s4,a4,p4,m4,s5,a5,p5]⟩ (by simp [bI,cI,iB,g96,p0,m0,p1,m1,p2,m2,p3,m3,p4,m4,p5])
  cases m5:cM (cB (cB (cB (cB (cB p)))))
  ·exact go (o:=(ff [0,8,17,26,35,44,53,55] false++ff [10,19,28,37,46] true)) (v:=.int .i64 0) ⟨by rw [OT];simp [af,d96,sl,s0,a0,p0,m0,s1,a1,p1,m1,s2,a2,p2,m2,s3,a3,p3,m3,s4,a4,p4,m4,s5,a5,p5,m5]⟩ (by simp [bI,cI,iB,g96,p0,m0,p1,m1,p2,m2,p3,m3,p4,m4,p5,m5])
  exact go (o:=(ff [0,8,17,26,35,44,53] false++ff [10,19,28,37,46,55] true)) (v:=.int .i64 23) ⟨by rw [cd];simp [af,d96,sl,s0,a0,p0,m0,s1,a1,p1,m1,s2,a2,p2,m2,s3,a3,p3,m3,s4,a4,p4,m4,s5,a5,p5,m5,s6]⟩ (by simp [bI,cI,iB,g96,p0,m0,p1,m1,p2,m2,p3,m3,p4,m4,p5,m5])
 ·cases h
theorem nO (p:ByteArray) (h:bI p=0):p.size≠0:=by
 intro e
 have hp:p=⟨#[]⟩:=o9 (l:=[]) (by have:p.data.toList.length=0:=(by simpa using e);exact List.length_eq_zero_iff.1 this)
 subst hp
 have h1:cA ⟨#[]⟩=⟨#[]⟩:=Hh
 have h2:aI ⟨#[]⟩=false:=by simp [aI]
 simp [bI,cI,iB,h1,h2] at h
noncomputable def EU:Env:=EP [(111,tr)] []
theorem u0 (p:ByteArray) (v:Value):au EU 74 300 (ba EU 74 [.v (.string p)]) (ff [0,1,2,3,4,5,6] false) v=[Value.bool false=v,(bI p==0)=false,(bI p==0)=false,(bI p==0)=false,(bI p==0)=false,p.size.le 1000000000]:=by kernel_rfl
theorem u1 (p:ByteArray) (v:Value):au EU 74 300 (ba EU 74 [.v (.string p)]) (ff [0,1,2,3,4,5,6] true) v=[(Value.bool !(↑(p.data.getD 0 (0:UInt8)).toNat:Int)==126)=v,(bI p==0)=true,(bI p==0)=true,ar 0 p.size=true,(bI p==0)=true,(bI p==0)=true,p.size.le 1000000000]:=by kernel_rfl
def ee (p:ByteArray):Bool:=bI p==0&&!(p.data.getD 0 0==126)
def nT:PS:=fun args=>match args with | [.string p]=>some (.bool (ee p),p.size≤1000000000) | _=>none
theorem KU {w0:World} (h:MX w0):aE EU (az [] []) w0:=iL (X:=MX) (fun r hr=>by
 simp only [List.mem_cons,List.not_mem_nil,or_false] at hr
 subst hr
 exact Cm) fun ν s w hr _=>h.cr fun k hk=>hr.frame k hk (a6 k)
theorem EM:bH Tryz.prog MX (74,nT):=by
 refine .mk ⟨_,Tryz.func74,by kernel_rfl,by kernel_rfl⟩ fun args v p h hp w hX=>?_
 dsimp only [nT] at h
 split at h
 ·rename_i p
  cases h
  have go:∀ {o v},cp (au EU 74 300 (ba EU 74 [.v (.string p)]) o v)→v=.bool (ee p)→Calls Tryz.prog 74 #[.string p] w fun e w'=>Below w.heap.size w w'∧e=.returned (.bool (ee p)):=fun h e=>
   e ▸ cD (E:=EU) (args:=[.v (.string p)]) rfl rfl (KU hX) (by kernel_rfl) (aj.cons (VR.ab.2 rfl) aj.nil) h
  by_cases h0:bI p=0
  ·have hs:=nO p h0
   refine go (o:=ff [0,1,2,3,4,5,6] true) (v:=.bool (ee p)) ⟨?_⟩ rfl
   rw [u1]
   have hr:ar 0 p.size=true:=by unfold ar;exact decide_eq_true (by omega)
   have hc:(((p.data.getD 0 0).toNat:Int)==126)=(p.data.getD 0 0==126):=by
    by_cases e:p.data.getD 0 0=126
    ·rw [e];rfl
    ·have:¬ ((p.data.getD 0 0).toNat:Int)=126:=fun h=>e (UInt8.toNat_inj.1 (show (p.data.getD 0 0).toNat=126 by omega))
     rw [beq_eq_false_iff_ne.2 e,beq_eq_false_iff_ne.2 this]
   refine ⟨⟨⟨⟨⟨⟨⟨trivial,hp⟩,?_⟩,?_⟩,hr⟩,?_⟩,?_⟩,?_⟩ <;> first | (rw [h0];rfl) | (rw [hc];simp [ee,h0])
  ·have hz:(bI p==0)=false:=beq_eq_false_iff_ne.2 h0
   refine go (o:=ff [0,1,2,3,4,5,6] false) (v:=.bool false) ⟨?_⟩ (by simp [ee,hz])
   rw [u0]
   exact ⟨⟨⟨⟨⟨⟨trivial,hp⟩,hz⟩,hz⟩,hz⟩,hz⟩,rfl⟩
 ·cases h
theorem l0 (a b:Int) (v:Value):au aQ 116 300 (ba aQ 116 [.v (.int .i64 a),.v (.int .i64 b)]) (ff [0] true) v=[vZ (-1:Int)=v,decide (a<b)=true]:=by kernel_rfl
theorem l1 (a b:Int) (v:Value):au aQ 116 300 (ba aQ 116 [.v (.int .i64 a),.v (.int .i64 b)]) (ff [0] false++ff [1] true) v=[vZ 1=v,decide (a>b)=true,decide (a<b)=false]:=by kernel_rfl
theorem l2 (a b:Int) (v:Value):au aQ 116 300 (ba aQ 116 [.v (.int .i64 a),.v (.int .i64 b)]) (ff [0,1] false) v=[vZ 0=v,decide (a>b)=false,decide (a<b)=false]:=by kernel_rfl
def dr (a b:Int):Int:=if a<b then -1 else if b<a then 1 else 0
def qM:PS:=fun args=>match args with | [.int .i64 a,.int .i64 b]=>some (.int .i64 (dr a b),True) | _=>none
noncomputable def EB:Env:=EP [(116,qM)] []
noncomputable def H2:List SI:=dC EB 2 60 (ba EB 115 [.v (.string ⟨#[]⟩),.v (.string ⟨#[]⟩)]) []
noncomputable def Cy (a b:ByteArray) (i:Int):SF:={ fn:=115,tm:=gw 37 6 ([.v (.string a),.v (.string b),.aM,.aM,.aM,.v (.int .i64 i)]++List.replicate 31 .aM),todo:=H2,defers:=[],ret:=false,kind:=.normal,ro:=none }
theorem b0 (a b:ByteArray):reach EB 2 60 (ba EB 115 [.v (.string a),.v (.string b)]) [(1000,.b true)] [] [] (Cy a b 0) 6 []=[Value.string a=Value.string a,Value.string b=Value.string b,vZ 0=vZ 0]:=by kernel_rfl
theorem b1 (a b:ByteArray) (i i':Int):reach EB 2 100 (SM.at (Cy a b i) 6 []) (ff (List.range 7) true++ff (List.range 40) false) [] [] (Cy a b i') 6 []=[Value.string a=Value.string a,Value.string b=Value.string b,vZ (IntKind.i64.wrap (i+1))=vZ i',decide ((↑(a.data.getD i.toNat (0:UInt8)).toNat:Int)>(↑(b.data.getD i.toNat (0:UInt8)).toNat:Int))=false,ar i b.size=true,ar i a.size=true,decide ((↑(a.data.getD i.toNat (0:UInt8)).toNat:Int)<(↑(b.data.getD i.toNat (0:UInt8)).toNat:Int))=false,ar i b.size=true,ar i a.size=true,decide (i<(↑b.size:Int))=true,decide (i<(↑a.size:Int))=true,decide (i<(↑a.size:Int))=true,decide (i<(↑a.size:Int))=true,decide (i<(↑a.size:Int))=true,decide (i<(↑a.size:Int))=true]:=by kernel_rfl
theorem b2 (a b:ByteArray) (i:Int) (v:Value):au EB 115 100 (SM.at (Cy a b i) 6 []) (ff (List.range 40) true) v=[vZ (-1:Int)=v,decide ((↑(a.data.getD i.toNat (0:UInt8)).toNat:Int)<(↑(b.data.getD i.toNat (0:UInt8)).toNat:Int))=true,ar i b.size=true,ar i a.size=true,decide (i<(↑b.size:Int))=true,decide (i<(↑a.size:Int))=true,decide (i<(↑a.size:Int))=true,decide (i<(↑a.size:Int))=true,decide (i<(↑a.size:Int))=true,decide (i<(↑a.size:Int))=true]:=by kernel_rfl
theorem b3 (a b:ByteArray) (i:Int) (v:Value):au EB 115 100 (SM.at (Cy a b i) 6 []) (ff (List.range 8) true++ff [8] false++ff (List.range 40) true) v=[vZ 1=v,decide ((↑(a.data.getD i.toNat (0:UInt8)).toNat:Int)>(↑(b.data.getD i.toNat (0:UInt8)).toNat:Int))=true,ar i b.size=true,ar i a.size=true,decide ((↑(a.data.getD i.toNat (0:UInt8)).toNat:Int)<(↑(b.data.getD i.toNat (0:UInt8)).toNat:Int))=false,ar i b.size=true,ar i a.size=true,decide (i<(↑b.size:Int))=true,decide (i<(↑a.size:Int))=true,decide (i<(↑a.size:Int))=true,decide (i<(↑a.size:Int))=true,decide (i<(↑a.size:Int))=true,decide (i<(↑a.size:Int))=true]:=by kernel_rfl
theorem b4 (a b:ByteArray) (i:Int) (v:Value):au EB 115 100 (SM.at (Cy a b i) 6 []) (ff (List.range 40) false) v=[vZ (dr (↑a.size:Int) (↑b.size:Int))=v,True,false=false,decide (i<(↑a.size:Int))=false,decide (i<(↑a.size:Int))=false,decide (i<(↑a.size:Int))=false,decide (i<(↑a.size:Int))=false,decide (i<(↑a.size:Int))=false]:=by kernel_rfl
theorem b5 (a b:ByteArray) (i:Int) (v:Value):au EB 115 100 (SM.at (Cy a b i) 6 []) (ff [0,1,2,3,4] true++ff (List.range 40) false) v=[vZ (dr (↑a.size:Int) (↑b.size:Int))=v,True,decide (i<(↑b.size:Int))=false,decide (i<(↑a.size:Int))=true,decide (i<(↑a.size:Int))=true,decide (i<(↑a.size:Int))=true,decide (i<(↑a.size:Int))=true,decide (i<(↑a.size:Int))=true]:=by kernel_rfl
noncomputable def EK:Env:=EP [] []
noncomputable def IW:List SI:=dC EK 2 60 (ba EK 67 [.v (.string ⟨#[]⟩)]) []
noncomputable def zP (p:ByteArray) (x:SV) (i:Int):SF:={ fn:=67,tm:=gw 37 6 ([.v (.string p),.aM,.aM,x,.v (.int .i64 i)]++List.replicate 32 .aM),todo:=IW,defers:=[],ret:=false,kind:=.normal,ro:=none }
def one (s:ByteArray):List (Option (SO × Bool)):=[some (.row [.v (.string s)] 9 (0,0) none,true)]
def many (l:List SV):List (Option (SO × Bool)):=[some (.row l 9 (0,0) (some 1),true)]
theorem k0 (p:ByteArray):reach EK 2 60 (ba EK 67 [.v (.string p)]) [(1000,.b true)] [(0,0)] [] (zP p (.sl 0 0 1 (some 1)) 0) 6 (one ⟨#[]⟩)=[Value.string p=Value.string p,0=0∧1=1∧some 1=some 1,vZ 0=vZ 0,Value.string ⟨⟨[]⟩⟩=Value.string ⟨⟨[]⟩⟩]:=by kernel_rfl
theorem k1 (p s s':ByteArray) (i i':Int):reach EK 2 100 (SM.at (zP p (.sl 0 0 1 (some 1)) i) 6 (one s)) (ff [0] true++ff (List.range 40) false) [(0,0)] [] (zP p (.sl 0 0 1 (some 1)) i') 6 (one s')=[Value.string p=Value.string p,0=0∧1=1∧some 1=some 1,vZ (IntKind.i64.wrap (i+1))=vZ i',Value.string (s++p.extract i.toNat (IntKind.i64.wrap (i+1)).toNat)=Value.string s',true=true,(s.size+(p.extract i.toNat (IntKind.i64.wrap (i+1)).toNat).size).le 9223372036854775807,decide (0≤i∧i≤(↑(IntKind.i64.wrap (i+1)).toNat:Int))=true,decide (0≤IntKind.i64.wrap (i+1)∧IntKind.i64.wrap (i+1)≤(↑p.size:Int))=true,true=true,((↑(p.data.getD i.toNat (0:UInt8)).toNat:Int)==47)=false,ar i p.size=true,decide (i<(↑p.size:Int))=true]:=by kernel_rfl
theorem k2 (p s:ByteArray) (i i':Int) (l':List SV):reach EK 2 100 (SM.at (zP p (.sl 0 0 1 (some 1)) i) 6 (one s)) (ff [0,1,2] true) [(0,2)] [0] (zP p (.sl 0 0 2 none) i') 6 (many l')=[Value.string p=Value.string p,0=0∧2=2∧nZ=none,vZ (IntKind.i64.wrap (i+1))=vZ i',List.take 1 (List.drop 0 [SV.v (Value.string s)])++List.take 1 (List.drop 0 (aX (List.replicate 1 (List.map SV.v [Value.string ⟨⟨[]⟩⟩])).flatten 0 [SV.v (Value.string ⟨⟨[]⟩⟩)]))=l',l'.all ae=true,((↑(p.data.getD i.toNat (0:UInt8)).toNat:Int)==47)=true,ar i p.size=true,decide (i<(↑p.size:Int))=true]:=by kernel_rfl
theorem k3 (p s:ByteArray) (l l':List SV) (n:Nat) (i i':Int):reach EK 2 100 (SM.at (zP p (.sl 0 0 n none) i) 6 (many l)) (ff [0] true++ff [2] false++[(4,.cells [.v (.string s)]),(9,.put)]) [(0,0)] [0] (zP p (.sl 0 0 n none) i') 6 (many l')=[Value.string p=Value.string p,0=0∧n=n∧nZ=none,vZ (IntKind.i64.wrap (i+1))=vZ i',aX l (0+(IntKind.i64.wrap ((↑n:Int) - 1)).toNat*1) [SV.v (Value.string (s++p.extract i.toNat (IntKind.i64.wrap (i+1)).toNat))]=l',l'.all ae=true,0+(IntKind.i64.wrap ((↑n:Int) - 1)).toNat*1+[SV.v (Value.string (s++p.extract i.toNat (IntKind.i64.wrap (i+1)).toNat))].length≤l.length∧k7 (0,0) (0+(IntKind.i64.wrap ((↑n:Int) - 1)).toNat*1) [SV.v (Value.string (s++p.extract i.toNat (IntKind.i64.wrap (i+1)).toNat))].length=true,ar (IntKind.i64.wrap ((↑n:Int) - 1)) n=true,(s.size+(p.extract i.toNat (IntKind.i64.wrap (i+1)).toNat).size).le 9223372036854775807,decide (0≤i∧i≤(↑(IntKind.i64.wrap (i+1)).toNat:Int))=true,decide (0≤IntKind.i64.wrap (i+1)∧IntKind.i64.wrap (i+1)≤(↑p.size:Int))=true,l[0+(IntKind.i64.wrap ((↑n:Int) - 1)).toNat*1]?=some (SV.v (Value.string s)),ar (IntKind.i64.wrap ((↑n:Int) - 1)) n=true,((↑(p.data.getD i.toNat (0:UInt8)).toNat:Int)==47)=false,ar i p.size=true,decide (i<(↑p.size:Int))=true]:=by kernel_rfl
theorem k4 (p:ByteArray) (l l' w:List SV) (n:Nat) (i i':Int):reach EK 2 100 (SM.at (zP p (.sl 0 0 n none) i) 6 (many l)) (ff [0,1,2] true++[(3,.app l w)]) [(0,2)] [0] (zP p (.sl 0 0 (n+1) none) i') 6 (many l')=[Value.string p=Value.string p,0=0∧n+1=n+1∧nZ=none,vZ (IntKind.i64.wrap (i+1))=vZ i',l++w=l',l'.all ae=true,((List.take 1 (List.drop 0 (aX (List.replicate 1 (List.map SV.v [Value.string ⟨⟨[]⟩⟩])).flatten 0 [SV.v (Value.string ⟨⟨[]⟩⟩)]))=w∧w.length=1*1)∧1≠0∧(2*(n+1)+1024)*16≤140737488355328)∧List.take (n*1) l=l∧l.length=n*1∧w.all SV.flat=true,((↑(p.data.getD i.toNat (0:UInt8)).toNat:Int)==47)=true,ar i p.size=true,decide (i<(↑p.size:Int))=true]:=by kernel_rfl
theorem k5 (p s:ByteArray) (i:Int):im EK 67 100 (SM.at (zP p (.sl 0 0 1 (some 1)) i) 6 (one s)) (ff [0] false) (.sl 0 0 1 (some 1)) 0 (.row [.v (.string s)] 9 (0,0) none)=[0=0∧1=1∧some 1=some 1,[SV.v (Value.string s)]=[SV.v (Value.string s)],[SV.v (Value.string s)].all ae=true,decide (i<(↑p.size:Int))=false]:=by kernel_rfl
theorem k6 (p:ByteArray) (l:List SV) (n:Nat) (i:Int):im EK 67 100 (SM.at (zP p (.sl 0 0 n none) i) 6 (many l)) (ff [0] false) (.sl 0 0 n none) 0 (.row l 9 (0,0) (some 1))=[0=0∧n=n∧nZ=none,l=l,l.all ae=true,decide (i<(↑p.size:Int))=false]:=by kernel_rfl
theorem dW {i:Nat} {b:Nat × Nat} {p:Prop} (h:ax [] i=some b):p:=by cases i <;> cases h
theorem wi {x:Int} (h:-9223372036854775808≤x∧x≤9223372036854775807):IntKind.i64.wrap x=x:=IntWalk.i64_in _ h
theorem yR:bH Tryz.prog (fun _=>True) (116,qM):=by
 refine .mk ⟨_,Tryz.func116,by kernel_rfl,by kernel_rfl⟩ fun args v p h hp w hX=>?_
 dsimp only [qM] at h
 split at h
 ·rename_i a b
  cases h
  have go:∀ {o v},cp (au aQ 116 300 (ba aQ 116 [.v (.int .i64 a),.v (.int .i64 b)]) o v)→v=.int .i64 (dr a b)→Calls Tryz.prog 116 #[.int .i64 a,.int .i64 b] w fun e w'=>Below w.heap.size w w'∧e=.returned (.int .i64 (dr a b)):=fun h e=>
   e ▸ cD (E:=aQ) (args:=[.v (.int .i64 a),.v (.int .i64 b)]) (a:=[.int .i64 a,.int .i64 b]) rfl rfl kR (by kernel_rfl) (aj.cons (VR.ab.2 rfl) (aj.cons (VR.ab.2 rfl) aj.nil)) h
  by_cases h1:a<b
  ·exact go (o:=ff [0] true) (v:=.int .i64 (-1)) ⟨by rw [l0];simp [af,h1]⟩ (by simp [dr,h1])
  ·by_cases h2:b<a
   ·exact go (o:=ff [0] false++ff [1] true) (v:=.int .i64 1) ⟨by rw [l1];exact ⟨⟨⟨trivial,decide_eq_false h1⟩,decide_eq_true h2⟩,rfl⟩⟩ (by simp [dr,h1,h2])
   ·exact go (o:=ff [0,1] false) (v:=.int .i64 0) ⟨by rw [l2];exact ⟨⟨⟨trivial,decide_eq_false h1⟩,decide_eq_false h2⟩,rfl⟩⟩ (by simp [dr,h1,h2])
 ·cases h
def de:List UInt8→List UInt8→Int
 | [],[]=>0
 | [],_::_=>-1
 | _::_,[]=>1
 | x::xs,y::ys=>if x<y then -1 else if y<x then 1 else de xs ys
def jH (a b:ByteArray):Int:=de a.data.toList b.data.toList
def o7:PS:=fun args=>match args with | [.string a,.string b]=>some (.int .i64 (jH a b),a.size≤1000000000∧b.size≤1000000000) | _=>none
theorem KB {M:Own} {w0:World}:aE EB M w0:=kq fun r h=>by
 rw [List.mem_singleton.1 h];exact yR
theorem ig {a:ByteArray} {i:Nat} (h:i<a.size):a.data.toList.drop i=a.data.getD i 0::a.data.toList.drop (i+1):=by
 have h':i<a.data.toList.length:=by simpa using h
 rw [List.drop_eq_getElem_cons h']
 congr 1
 rw [Array.getD,dif_pos (show i<a.data.size from h)]
 simp
theorem cL {k:Nat} (h:k≤1000000000):IntKind.i64.wrap ((k:Int)+1)=((k+1:Nat):Int):=by
 rw [wi (by omega)];simp
theorem bY {k n:Nat} (h:k<n):ar (k:Int) n=true:=by unfold ar;exact decide_eq_true (by omega)
theorem FG {w0:World} {cs0:List Frame} {R:Ending→World→Prop} {a b:ByteArray} (ha:a.size≤1000000000) (hb:b.size≤1000000000):∀ (j i:Nat),i+j=a.size→i≤b.size→
  (∀ w',Below w0.heap.size w0 w'→R (.returned (.int .i64 (de (a.data.toList.drop i) (b.data.toList.drop i)))) w')→ao EB (az [] []) w0 cs0 115 R (ax []) (SM.at (Cy a b i) 6 [])
 | j,i,hj,hib,hR=>by
  have go:∀ {o v},cp (au EB 115 100 (SM.at (Cy a b i) 6 []) o v)→v=.int .i64 (de (a.data.toList.drop i) (b.data.toList.drop i))→ao EB (az [] []) w0 cs0 115 R (ax []) (SM.at (Cy a b i) 6 []):=fun hd e=>
   fB KB a6 hd fun w' hw=>by rw [e];exact hR _ hw
  have la:a.data.toList.length=a.size:=by simp
  have lb:b.data.toList.length=b.size:=by simp
  by_cases h1:i<a.size
  ·by_cases h2:i<b.size
   ·have da:=ig h1
    have db:=ig h2
    have t1:decide ((i:Int)<(a.size:Int))=true:=decide_eq_true (by omega)
    have t2:decide ((i:Int)<(b.size:Int))=true:=decide_eq_true (by omega)
    have r1:=bY h1
    have r2:=bY h2
    have lt_iff:∀ x y:UInt8,(x<y)↔((x.toNat:Int)<(y.toNat:Int)):=fun x y=>by rw [UInt8.lt_iff_toNat_lt];omega
    by_cases c1:(a.data.getD i 0)<(b.data.getD i 0)
    ·refine go (o:=ff (List.range 40) true) (v:=.int .i64 (-1)) ⟨?_⟩ (by rw [da,db];unfold de;rw [if_pos c1])
     rw [b2]
     have c1':=decide_eq_true ((lt_iff _ _).1 c1)
     simp only [af,Int.toNat_natCast,t1,t2,r1,r2,c1',and_self]
    ·have c1':=decide_eq_false (fun h=>c1 ((lt_iff _ _).2 h))
     by_cases c2:(b.data.getD i 0)<(a.data.getD i 0)
     ·refine go (o:=ff (List.range 8) true++ff [8] false++ff (List.range 40) true) (v:=.int .i64 1) ⟨?_⟩ (by rw [da,db];unfold de;rw [if_neg c1,if_pos c2])
      rw [b3]
      have c2':decide (((a.data.getD i 0).toNat:Int)>((b.data.getD i 0).toNat:Int))=true:=decide_eq_true ((lt_iff _ _).1 c2)
      simp only [af,Int.toNat_natCast,t1,t2,r1,r2,c1',c2',and_self]
     ·have c2':decide (((a.data.getD i 0).toNat:Int)>((b.data.getD i 0).toNat:Int))=false:=decide_eq_false (fun h=>c2 ((lt_iff _ _).2 h))
      match j,hj with
      | 0,hj=>omega
      | j+1,hj=>
       refine ao.reach KB (k:=2) (n:=100) (o:=ff (List.range 7) true++ff (List.range 40) false) (ren:=[]) (eqs:=[]) ?_ (by kernel_rfl) (fun i b h=>dW h) (l:=[]) (FG ha hb j (i+1) (by omega) (by omega) fun w' hw=>by
        have e:de (a.data.toList.drop i) (b.data.toList.drop i)=de (a.data.toList.drop (i+1)) (b.data.toList.drop (i+1)):=by
         rw [da,db];conv=>lhs;unfold de
         rw [if_neg c1,if_neg c2]
        exact e ▸ hR w' hw)
       rw [b1]
       simp only [af,Int.toNat_natCast,t1,t2,r1,r2,c1',c2',and_self,cL (show i≤1000000000 by omega)]
   ·have hi:i=b.size:=by omega
    have t1:decide ((i:Int)<(a.size:Int))=true:=decide_eq_true (by omega)
    have t2:decide ((i:Int)<(b.size:Int))=false:=decide_eq_false (by omega)
    refine go (o:=(ff [0,1,2,3,4] true++ff (List.range 40) false)) (v:=.int .i64 (dr a.size b.size)) ⟨?_⟩ ?_
    ·rw [b5]
     simp only [af,t1,t2,and_self]
    ·rw [ig h1,List.drop_eq_nil_of_le (by omega:b.data.toList.length≤i)]
     have:dr (a.size:Int) (b.size:Int)=1:=by unfold dr;rw [if_neg (by omega),if_pos (by omega)]
     rw [this];rfl
  ·have hi:i=a.size:=by omega
   have t1:decide ((i:Int)<(a.size:Int))=false:=decide_eq_false (by omega)
   refine go (o:=ff (List.range 40) false) (v:=.int .i64 (dr a.size b.size)) ⟨?_⟩ ?_
   ·rw [b4]
    simp only [af,t1,and_self]
   ·rw [List.drop_eq_nil_of_le (by omega:a.data.toList.length≤i)]
    by_cases h2:i<b.size
    ·rw [ig h2]
     have:dr (a.size:Int) (b.size:Int)=-1:=by unfold dr;rw [if_pos (by omega)]
     rw [this];rfl
    ·rw [List.drop_eq_nil_of_le (by omega:b.data.toList.length≤i)]
     have:dr (a.size:Int) (b.size:Int)=0:=by unfold dr;rw [if_neg (by omega),if_neg (by omega)]
     rw [this];rfl
theorem BX:bH Tryz.prog (fun _=>True) (115,o7):=by
 refine .mk ⟨_,Tryz.func115,by kernel_rfl,by kernel_rfl⟩ fun args v p h hp w hX=>?_
 dsimp only [o7] at h
 split at h
 ·rename_i a b
  cases h
  refine (iM (E:=EB) rfl rfl (Q:=fun v=>v=.int .i64 (jH a b)) (args:=[.v (.string a),.v (.string b)]) (a:=[.string a,.string b]) w (S0:=ba EB 115 [.v (.string a),.v (.string b)]) (by kernel_rfl) (aj.cons (VR.ab.2 rfl) (aj.cons (VR.ab.2 rfl) aj.nil)) fun cs0=>?_).mono fun e w' ⟨h1,u,h2,h3⟩=>⟨h1,by rw [h2,h3]⟩
  refine ao.reach KB (k:=2) (n:=60) (o:=[(1000,.b true)]) (ren:=[]) (eqs:=[]) (F:=Cy a b 0) (d:=6) (l:=[]) ?_ (by kernel_rfl) (fun i b h=>dW h) (FG hp.1 hp.2 a.size 0 (by omega) (by omega) fun w' hw=>⟨hw,_,rfl,rfl⟩)
  rw [b0];simp [af]
 ·cases h
def mk (l:List UInt8):ByteArray:=⟨l.toArray⟩
theorem IX (b:ByteArray):mk b.data.toList=b:=by cases b;simp [mk]
theorem BG (a b:List UInt8):mk a++mk b=mk (a++b):=by
 apply ByteArray.ext
 simp [mk]
theorem jX (l:List UInt8):(mk l).size=l.length:=rfl
theorem oy (p:ByteArray) (k:Nat) (h:k<p.size):p.extract k (k+1)=mk [p.data.getD k 0]:=by
 apply ByteArray.ext
 have h':k<p.data.toList.length:=by simpa using h
 have e:(p.data.toList.drop k).take 1=[p.data.getD k 0]:=by rw [ig h];rfl
 have e2:p.data.toList.toArray=p.data:=by simp
 simp only [mk,ByteArray.data_extract]
 rw [← e2,List.extract_toArray,List.extract_eq_take_drop,show k+1 - k=1 by omega,e]
theorem fH:∀ (l:List UInt8) (b:UInt8) (init:List (List UInt8)) (last:List UInt8),aF l=init++[last]→aF (l++[b])=if b=47 then init++[last,[]] else init++[last++[b]]
 | [],b,init,last,h=>by
  have h':([[]]:List (List UInt8))=init++[last]:=h
  have:init=[]∧last=[]:=by
   cases init with
   | nil=>simp at h';exact ⟨rfl,h'⟩
   | cons x xs=>simp at h'
  obtain ⟨rfl,rfl⟩:=this
  by_cases hb:b=47 <;> simp [aF,hb]
 | c::l,b,init,last,h=>by
  by_cases hc:c=47
  ·subst hc
   have e1:aF (47::l)=[]::aF l:=by simp [aF]
   have e2:aF (47::l++[b])=[]::aF (l++[b]):=by simp [aF]
   rw [e1] at h
   cases init with
   | nil=>
    simp at h
    exact absurd h.2 (dE l)
   | cons x xs=>
    rw [List.cons_append,List.cons.injEq] at h
    obtain ⟨rfl,h⟩:=h
    rw [e2,fH l b xs last h]
    split <;> simp
  ·have step:∀ m:List UInt8,∀ x xs,aF m=x::xs→aF (c::m)=(c::x)::xs:=fun m x xs hm=>by
    conv=>lhs;unfold aF
    rw [if_neg hc,hm]
   cases hp:aF l with
   | nil=>exact absurd hp (dE l)
   | cons x xs=>
    rw [step l x xs hp] at h
    cases init with
    | nil=>
     rw [List.nil_append,List.cons.injEq] at h
     obtain ⟨rfl,rfl⟩:=h
     have ih:=fH l b [] x (by rw [hp];rfl)
     by_cases hb:b=47
     ·rw [if_pos hb] at ih ⊢
      rw [List.cons_append,step _ x [[]] ih];rfl
     ·rw [if_neg hb] at ih ⊢
      rw [List.cons_append,step _ (x++[b]) [] ih];rfl
    | cons z zs=>
     rw [List.cons_append,List.cons.injEq] at h
     obtain ⟨rfl,h⟩:=h
     have ih:=fH l b (x::zs) last (by rw [hp,h];rfl)
     by_cases hb:b=47
     ·rw [if_pos hb] at ih ⊢
      rw [List.cons_append,step _ x (zs++[last,[]]) ih];rfl
     ·rw [if_neg hb] at ih ⊢
      rw [List.cons_append,step _ x (zs++[last++[b]]) ih];rfl
theorem fk:∀ l:List UInt8,(aF l).length≤l.length+1∧∀ x∈aF l,x.length≤l.length
 | []=>by simp [aF]
 | c::l=>by
  obtain ⟨h1,h2⟩:=fk l
  unfold aF
  split
  ·refine ⟨by simp only [List.length_cons];omega,fun x hx=>?_⟩
   rcases List.mem_cons.1 hx with rfl | hx
   ·simp
   ·have:=h2 x hx;simp only [List.length_cons];omega
  ·cases hp:aF l with
   | nil=>exact absurd hp (dE l)
   | cons x xs=>
    rw [hp] at h1 h2
    refine ⟨by simp only [List.length_cons] at h1 ⊢;omega,fun y hy=>?_⟩
    rcases List.mem_cons.1 hy with rfl | hy
    ·have:=h2 x List.mem_cons_self;simp only [List.length_cons];omega
    ·have:=h2 y (List.mem_cons_of_mem _ hy);simp only [List.length_cons];omega
def cP (l:List (List UInt8)):List SV:=l.map fun s=>.v (.string (mk s))
theorem xe (a b:List (List UInt8)):cP (a++b)=cP a++cP b:=by simp [cP]
theorem C0 (a:List (List UInt8)):(cP a).length=a.length:=by simp [cP]
theorem eM (a:List (List UInt8)):(cP a).all ae=true:=by
 rw [List.all_eq_true];intro x hx;obtain ⟨c,_,rfl⟩:=List.mem_map.1 hx;rfl
theorem Er (a:List (List UInt8)):(cP a).all SV.flat=true:=by
 rw [List.all_eq_true];intro x hx;obtain ⟨c,_,rfl⟩:=List.mem_map.1 hx;rfl
def vP (l:List (List UInt8)):List Value:=l.map fun s=>.string (mk s)
theorem yf {ν:aA}:∀ {l:List (List UInt8)} {zs:List Value},aj ν (cP l) zs→zs=vP l
 | [],zs,h=>aj.aq h
 | s::l,zs,h=>by
  obtain ⟨z,zs',rfl,h1,h2⟩:=aj.cons_inv (x:=.v (.string (mk s))) (xs:=cP l) h
  rw [VR.ab.1 h1,yf h2];rfl
theorem nX:∀ (a:List SV) (x y:SV),aX (a++[x]) a.length [y]=a++[y]
 | [],x,y=>rfl
 | z::a,x,y=>by
  show z::aX (a++[x]) a.length [y]=_
  rw [nX a x y];rfl
theorem k9 (p:ByteArray) {k:Nat} (h:k<p.size):p.data.toList.take (k+1)=p.data.toList.take k++[p.data.getD k 0]:=by
 have h':k<p.data.toList.length:=by simpa using h
 rw [List.take_succ_eq_append_getElem h']
 congr 2
 rw [Array.getD,dif_pos (show k<p.data.size from h)];simp
theorem KK {M:Own} {w0:World}:aE EK M w0:=kq fun r h=>by cases h
theorem Fh (x:UInt8):(((x.toNat:Int))==47)=(x==47):=by
 by_cases e:x=47
 ·rw [e];rfl
 ·rw [beq_eq_false_iff_ne.2 e,beq_eq_false_iff_ne.2 fun h=>e (UInt8.toNat_inj.1 (show x.toNat=47 by omega))]
section
variable {w0:World} {cs0:List Frame} {R:Ending→World→Prop} {p:ByteArray}
def RK (w0:World) (p:ByteArray) (e:Ending) (w':World):Prop:=Below w0.heap.size w0 w'∧∃ y,e=.returned y∧eZ w0 w' y (vP (aF p.data.toList)) (aF p.data.toList).length 1 9
theorem qb {w0 w':World} (h:∃ ν1 M1 w1 s',bk (az [] []) w0 M1 w1∧HR ν1 M1 w1 s' w'):Below w0.heap.size w0 w':=by
 obtain ⟨_,_,_,_,hB,hr⟩:=h
 exact aG a6 hB hr
theorem vH {w0:World} {b:Nat} (h:w0.heap.size≤b∨(az [] []) b):w0.heap.size≤b:=by
 rcases h with h | h
 ·exact h
 ·exact absurd h (a6 _)
theorem xE (hp:p.size≤1000000000):∀ (j i:Nat),i+j=p.size→∀ (init:List (List UInt8)) (last:List UInt8),aF (p.data.toList.take i)=init++[last]→
  ao EK (az [] []) w0 cs0 67 (RK w0 p) (ax []) (SM.at (zP p (.sl 0 0 (init.length+1) none) i) 6 (many (cP (init++[last]))))
 | 0,i,hj,init,last,h=>by
  have hl:p.data.toList.length=p.size:=by simp
  rw [List.take_of_length_le (by omega)] at h
  refine ao.im KK (n:=100) (o:=ff [0] false) (x:=.sl 0 0 (init.length+1) none) (i:=0) (so:=.row (cP (init++[last])) 9 (0,0) (some 1)) ?_ fun ν' w' y b ob hv hb ho hor hw hB=>?_
  ·rw [k6]
   simp only [af,eM,and_true,and_self,true_and]
   exact decide_eq_false (by omega)
  ·refine ⟨qb hB,y,rfl,?_⟩
   rw [h,show (init++[last]).length=init.length+1 by simp]
   exact eZ.qR hv hb ho hor (vH hw) fun zs hz=>yf hz
 | j+1,i,hj,init,last,h=>by
  have hi:i<p.size:=by omega
  have hs:=fH _ (p.data.getD i 0) init last h
  rw [← k9 p hi] at hs
  have t1:decide ((i:Int)<(p.size:Int))=true:=decide_eq_true (by omega)
  have r1:=bY hi
  have hlen:=fk (p.data.toList.take i)
  rw [h,List.length_append,List.length_take] at hlen
  have hll:p.data.toList.length=p.size:=by simp
  have hn:init.length≤1000000000:=by have:=hlen.1;simp at this;omega
  have hlast:last.length≤1000000000:=by have:=hlen.2 last (by simp);omega
  have ws:=cL (k:=i) (by omega)
  have ws2:=cL (k:=i) (by omega)
  by_cases hb:p.data.getD i 0=47
  ·rw [if_pos hb] at hs
   have e2:init++[last,[]]=(init++[last])++[[]]:=by simp
   have nx:=xE hp j (i+1) (by omega) (init++[last]) [] (by rw [hs,e2])
   have el:(init++[last]).length+1=init.length+1+1:=by simp
   rw [el] at nx
   refine ao.reach KK (k:=2) (n:=100) (o:=ff [0,1,2] true++[(3,.app (cP (init++[last])) (cP [[]]))]) (ren:=[(0,2)]) (eqs:=[0]) ?_ (by kernel_rfl) (fun i b h=>dW h) nx
   rw [k4]
   have hq:((p.data.getD i 0).toNat:Int)==47:=by rw [Fh,hb];rfl
   simp only [af,Int.toNat_natCast,t1,r1,hq,eM,Er,xe,C0,ws,List.all_append,true_and,and_true,Nat.mul_one]
   repeat' apply And.intro
   all_goals first | rfl | (simp [cP];done) | (simp [cP];omega) | omega | exact List.take_of_length_le (by simp [cP]) | skip
  ·rw [if_neg hb] at hs
   have nx:=xE hp j (i+1) (by omega) init (last++[p.data.getD i 0]) hs
   refine ao.reach KK (k:=2) (n:=100) (o:=ff [0] true++ff [2] false++[(4,.cells [.v (.string (mk last))]),(9,.put)]) (ren:=[(0,0)]) (eqs:=[0]) ?_ (by kernel_rfl) (fun i b h=>dW h) nx
   rw [k3]
   have hq:(((p.data.getD i 0).toNat:Int)==47)=false:=by rw [Fh];exact beq_eq_false_iff_ne.2 hb
   have wn:IntKind.i64.wrap (((init.length+1:Nat):Int) - 1)=(init.length:Int):=by rw [wi (by omega)];omega
   have rn:ar (init.length:Int) (init.length+1)=true:=bY (Nat.lt_succ_self _)
   have g1:(cP (init++[last]))[0+init.length*1]?=some (.v (.string (mk last))):=by simp [cP]
   have g2:aX (cP (init++[last])) (0+init.length*1) [.v (.string (mk last++mk [p.data.getD i 0]))]=cP (init++[last++[p.data.getD i 0]]):=by
    have:=nX (cP init) (.v (.string (mk last))) (.v (.string (mk last++mk [p.data.getD i 0])))
    rw [C0] at this
    rw [Nat.zero_add,Nat.mul_one,xe,BG] at *
    rw [xe];exact this
   simp only [af,Int.toNat_natCast,t1,r1,hq,wn,rn,g1,ws,oy p i hi,g2,eM,true_and,and_true,and_self]
   repeat' apply And.intro
   all_goals first | rfl | exact decide_eq_true (by omega) | (simp [cP];done) | (simp [cP];omega) | (rw [jX,jX];exact Nat.le_of_ble_eq_true (by simp;omega)) | (show _+_≤_;rw [jX,jX];simp;omega) | omega
theorem C6 (hp:p.size≤1000000000):∀ (j i:Nat),i+j=p.size→∀ (last:List UInt8),aF (p.data.toList.take i)=[last]→
  ao EK (az [] []) w0 cs0 67 (RK w0 p) (ax []) (SM.at (zP p (.sl 0 0 1 (some 1)) i) 6 (one (mk last)))
 | 0,i,hj,last,h=>by
  have hl:p.data.toList.length=p.size:=by simp
  rw [List.take_of_length_le (by omega)] at h
  refine ao.im KK (n:=100) (o:=ff [0] false) (x:=.sl 0 0 1 (some 1)) (i:=0) (so:=.row [.v (.string (mk last))] 9 (0,0) none) ?_ fun ν' w' y b ob hv hb ho hor hw hB=>?_
  ·rw [k5]
   simp only [af,and_true,and_self,true_and]
   exact ⟨decide_eq_false (by omega),rfl⟩
  ·refine ⟨qb hB,y,rfl,?_⟩
   rw [h]
   exact eZ.G7 hv hb ho hor (vH hw) (fun zs hz=>yf (l:=[last]) hz) rfl
 | j+1,i,hj,last,h=>by
  have hi:i<p.size:=by omega
  have hs:=fH _ (p.data.getD i 0) [] last h
  rw [← k9 p hi] at hs
  have t1:decide ((i:Int)<(p.size:Int))=true:=decide_eq_true (by omega)
  have r1:=bY hi
  have hlen:=fk (p.data.toList.take i)
  rw [h,List.length_take] at hlen
  have hll:p.data.toList.length=p.size:=by simp
  have hlast:last.length≤1000000000:=by have:=hlen.2 last (by simp);omega
  have ws:=cL (k:=i) (by omega)
  by_cases hb:p.data.getD i 0=47
  ·rw [if_pos hb] at hs
   have nx:=xE (w0:=w0) (cs0:=cs0) hp j (i+1) (by omega) [last] [] (by rw [hs];rfl)
   refine ao.reach KK (k:=2) (n:=100) (o:=ff [0,1,2] true) (ren:=[(0,2)]) (eqs:=[0]) ?_ (by kernel_rfl) (fun i b h=>dW h) nx
   rw [show ([last]:List (List UInt8)).length+1=2 from rfl,k2]
   have hq:((p.data.getD i 0).toNat:Int)==47:=by rw [Fh,hb];rfl
   simp only [af,Int.toNat_natCast,t1,r1,hq,eM,ws,true_and,and_true]
   repeat' apply And.intro
   all_goals first | rfl | (simp [cP];done) | (simp [cP];omega) | omega | exact List.take_of_length_le (by simp [cP]) | skip
  ·rw [if_neg hb] at hs
   have nx:=C6 hp j (i+1) (by omega) (last++[p.data.getD i 0]) hs
   refine ao.reach KK (k:=2) (n:=100) (o:=ff [0] true++ff (List.range 40) false) (ren:=[(0,0)]) (eqs:=[]) ?_ (by kernel_rfl) (fun i b h=>dW h) nx
   rw [k1]
   have hq:(((p.data.getD i 0).toNat:Int)==47)=false:=by rw [Fh];exact beq_eq_false_iff_ne.2 hb
   simp only [af,Int.toNat_natCast,t1,r1,hq,ws,oy p i hi,BG,true_and,and_true,and_self]
   repeat' apply And.intro
   all_goals first | rfl | exact decide_eq_true (by omega) | exact (show (mk last).size+(mk [p.data.getD i 0]).size≤9223372036854775807 by rw [jX,jX];simp;omega) | omega
end
def DT:Kk:=fun args=>match args with | [.string p]=>some (vP (aF p.data.toList),(aF p.data.toList).length,1,9,none,p.size≤1000000000) | _=>none
theorem zd {X:World→Prop}:cF Tryz.prog X (67,vm DT):=by
 refine CW ⟨_,Tryz.func67,by kernel_rfl,by kernel_rfl⟩ fun vs ys n C elem ex p h hp w hX=>?_
 dsimp only [DT] at h
 split at h
 ·rename_i p
  cases h
  refine (bV (E:=EK) (R:=RK w p) rfl rfl (args:=[.v (.string p)]) (a:=[.string p]) (S0:=ba EK 67 [.v (.string p)]) (by kernel_rfl) (aj.cons (VR.ab.2 rfl) aj.nil) fun cs0=>?_).mono fun e w' ⟨h1,y,h2,h3⟩=>⟨h1,y,h2,h3⟩
  have nx:=C6 (w0:=w) (cs0:=cs0) hp p.size 0 (by omega) [] rfl
  rw [show mk []=⟨#[]⟩ from rfl] at nx
  refine ao.reach KK (k:=2) (n:=60) (o:=[(1000,.b true)]) (ren:=[(0,0)]) (eqs:=[]) (F:=zP p (.sl 0 0 1 (some 1)) 0) (d:=6) (l:=one ⟨#[]⟩) ?_ (by kernel_rfl) (fun i b h=>dW h) nx
  rw [k0];simp only [af,and_self,and_true,true_and]
  repeat' apply And.intro
  all_goals rfl
 ·cases h
def lR:List (FuncId × Sum):=[(67,vm DT),(115,eD o7),(116,eD qM)]
noncomputable def ER:Env:={ EP [] [] with sums:=fun f=>lR.lookup f }
theorem KR {M:Own} {w0:World}:aE ER M w0:=
 aE.AR (Checked.mixed Tryz.checked) (by kernel_rfl) (eR.of ji rfl dL) (cV.list (X:=fun _=>True) (l:=lR) rfl (fun r hr=>by
  simp only [lR,List.mem_cons,List.not_mem_nil,or_false] at hr
  rcases hr with rfl | rfl | rfl
  ·exact zd
  ·exact cF.pure (r:=(115,o7)) BX
  ·exact cF.pure (r:=(116,qM)) yR) fun ν s w hr _=>trivial) (fun f g h=>by cases h)
noncomputable def jr:List SI:=dC ER 2 60 (ba ER 71 [.v (.string ⟨#[]⟩),.v (.string ⟨#[]⟩)]) [(1000,.b true)]
noncomputable def DQ (n m:Nat) (i:Int):SF:={ fn:=71,tm:=gw 42 6 (List.replicate 5 .aM++[.sl 0 0 n none,.sl 1 0 m none,.v (.int .i64 i)]++List.replicate 34 .aM),todo:=jr,defers:=[],ret:=false,kind:=.normal,ro:=none }
def two (l m:List SV):List (Option (SO × Bool)):=[some (.row l 9 (0,0) (some 1),true),some (.row m 9 (0,0) (some 1),true)]
theorem r0 (a b:ByteArray) (n m:Nat) (l l2:List SV):reach ER 2 60 (ba ER 71 [.v (.string a),.v (.string b)]) [(1000,.b true)] [(0,0),(1,1)] [0,1] (DQ n m 0) 6 (two l l2)=[0=0∧(aF a.data.toList).length=n∧nZ=none,0=0∧(aF b.data.toList).length=m∧nZ=none,vZ 0=vZ 0,List.map SV.v (vP (aF a.data.toList))=l,l.all ae=true,List.map SV.v (vP (aF b.data.toList))=l2,l2.all ae=true,b.size.le 1000000000,a.size.le 1000000000]:=by kernel_rfl
theorem OY (s t:ByteArray) (n m:Nat) (l l2:List SV) (i i':Int):reach ER 2 100 (SM.at (DQ n m i) 6 (two l l2)) (ff [0,1,2,3,4,5] true++[(7,.cells [.v (.string s)]),(9,.cells [.v (.string t)])]++ff [11] false) [(0,0),(1,1)] [0,1] (DQ n m i') 6 (two l l2)=[0=0∧n=n∧nZ=none,0=0∧m=m∧nZ=none,vZ (IntKind.i64.wrap (i+1))=vZ i',l=l,l.all ae=true,l2=l2,l2.all ae=true,(!jH s t==0)=false,s.size≤1000000000∧t.size≤1000000000,l2[0+i.toNat*1]?=some (SV.v (Value.string t)),ar i m=true,l[0+i.toNat*1]?=some (SV.v (Value.string s)),ar i n=true,decide (i<(↑m:Int))=true,decide (i<(↑n:Int))=true,decide (i<(↑n:Int))=true,decide (i<(↑n:Int))=true,decide (i<(↑n:Int))=true,decide (i<(↑n:Int))=true]:=by kernel_rfl
theorem Mb (s t:ByteArray) (n m:Nat) (l l2:List SV) (i:Int) (v:Value):au ER 71 100 (SM.at (DQ n m i) 6 (two l l2)) (ff [0,1,2,3,4,5] true++[(7,.cells [.v (.string s)]),(9,.cells [.v (.string t)])]++ff [11] true) v=[vZ (jH s t)=v,(!jH s t==0)=true,s.size≤1000000000∧t.size≤1000000000,l2[0+i.toNat*1]?=some (SV.v (Value.string t)),ar i m=true,l[0+i.toNat*1]?=some (SV.v (Value.string s)),ar i n=true,decide (i<(↑m:Int))=true,decide (i<(↑n:Int))=true,decide (i<(↑n:Int))=true,decide (i<(↑n:Int))=true,decide (i<(↑n:Int))=true,decide (i<(↑n:Int))=true]:=by kernel_rfl
theorem r3 (n m:Nat) (l l2:List SV) (i:Int) (v:Value):au ER 71 100 (SM.at (DQ n m i) 6 (two l l2)) (ff [0,1,2,3,4,5] false) v=[vZ (dr (↑n:Int) (↑m:Int))=v,True,false=false,decide (i<(↑n:Int))=false,decide (i<(↑n:Int))=false,decide (i<(↑n:Int))=false,decide (i<(↑n:Int))=false,decide (i<(↑n:Int))=false]:=by kernel_rfl
theorem r4 (n m:Nat) (l l2:List SV) (i:Int) (v:Value):au ER 71 100 (SM.at (DQ n m i) 6 (two l l2)) (ff [0,1,2,3,4] true++ff [5] false) v=[vZ (dr (↑n:Int) (↑m:Int))=v,True,decide (i<(↑m:Int))=false,decide (i<(↑n:Int))=true,decide (i<(↑n:Int))=true,decide (i<(↑n:Int))=true,decide (i<(↑n:Int))=true,decide (i<(↑n:Int))=true]:=by kernel_rfl
theorem yr (x:UInt8):¬ x<x:=by rw [UInt8.lt_iff_toNat_lt];omega
theorem tP {x y:UInt8} (h1:¬ x<y) (h2:¬ y<x):x=y:=by
 rw [UInt8.lt_iff_toNat_lt] at h1 h2;exact UInt8.toNat_inj.1 (by omega)
theorem G8 {x y:UInt8} (h1:x<y):¬ y<x:=by
 rw [UInt8.lt_iff_toNat_lt] at h1 ⊢;omega
theorem sm:∀ x:List UInt8,de x x=0
 | []=>rfl
 | a::l=>by unfold de;rw [if_neg (yr a),if_neg (yr a)];exact sm l
theorem lL:∀ {x y:List UInt8},de x y=0→x=y
 | [],[],_=>rfl
 | [],_::_,h=>by cases h
 | _::_,[],h=>by cases h
 | a::l,b::m,h=>by
  unfold de at h
  by_cases h1:a<b
  ·rw [if_pos h1] at h;cases h
  ·by_cases h2:b<a
   ·rw [if_neg h1,if_pos h2] at h;cases h
   ·rw [if_neg h1,if_neg h2] at h
    rw [tP h1 h2,lL h]
theorem wu:∀ x y:List UInt8,(if Op.bytesLess x y=true then -1 else if (!(Op.bytesLess x y||x==y))=true then 1 else 0:Int)=de x y
 | [],[]=>by simp [Op.bytesLess,de]
 | [],_::_=>by simp [Op.bytesLess,de]
 | _::_,[]=>by simp [Op.bytesLess,de]
 | a::l,b::m=>by
  have ih:=wu l m
  unfold de
  by_cases h1:a<b
  ·simp [Op.bytesLess,h1]
  ·by_cases h2:b<a
   ·have ne:a≠b:=fun e=>yr b (by rw [e] at h2;exact h2)
    simp [Op.bytesLess,h1,h2,ne]
   ·obtain rfl:=tP h1 h2
    rw [if_neg h1,if_neg h2,← ih]
    simp [Op.bytesLess,h1]
theorem C8 (a b:ByteArray):lV a b=de a.data.toList b.data.toList:=by
 unfold lV;rw [rS,rS];exact wu _ _
def mF:List (List UInt8)→List (List UInt8)→Int
 | [],[]=>0
 | [],_::_=>-1
 | _::_,[]=>1
 | x::xs,y::ys=>if de x y=0 then mF xs ys else de x y
theorem tE:∀ (n:Nat) (a b:ByteArray),a.size<n→mF (aF a.data.toList) (aF b.data.toList)=jF n a b
 | 0,_,_,h=>by omega
 | n+1,a,b,h=>by
  have ea:aF a.data.toList=(cA a).data.toList::(if cM a=true then aF (cB a).data.toList else []):=iz _
  have eb:aF b.data.toList=(cA b).data.toList::(if cM b=true then aF (cB b).data.toList else []):=iz _
  rw [ea,eb]
  unfold mF jF
  by_cases he:(cA a).data.toList=(cA b).data.toList
  ·rw [if_pos he,he,sm,if_pos rfl]
   cases ma:cM a
   ·cases mb:cM b
    ·simp [mF,Ck]
    ·cases hp:aF (cB b).data.toList with
     | nil=>exact absurd hp (dE _)
     | cons x xs=>simp [mF,Ck,hp]
   ·cases mb:cM b
    ·cases hp:aF (cB a).data.toList with
     | nil=>exact absurd hp (dE _)
     | cons x xs=>simp [mF,Ck,hp]
    ·have:=tE n (cB a) (cB b) (by have:=vM a ma;omega)
     simp [this]
  ·rw [if_neg he,C8,if_neg fun e=>he (lL e)]
section
variable {w0:World} {cs0:List Frame} {R:Ending→World→Prop} {xs ys:List (List UInt8)}
theorem bh (hx:xs.length≤2000000000) (hy:ys.length≤2000000000) (sx:∀ s∈xs,s.length≤1000000000) (sy:∀ s∈ys,s.length≤1000000000):∀ (j i:Nat),i+j=xs.length→i≤ys.length→
  (∀ w',Below w0.heap.size w0 w'→R (.returned (.int .i64 (mF (xs.drop i) (ys.drop i)))) w')→ao ER (az [] []) w0 cs0 71 R (ax []) (SM.at (DQ xs.length ys.length i) 6 (two (cP xs) (cP ys)))
 | j,i,hj,hib,hR=>by
  have go:∀ {o v},cp (au ER 71 100 (SM.at (DQ xs.length ys.length i) 6 (two (cP xs) (cP ys))) o v)→v=.int .i64 (mF (xs.drop i) (ys.drop i))→ao ER (az [] []) w0 cs0 71 R (ax []) (SM.at (DQ xs.length ys.length i) 6 (two (cP xs) (cP ys))):=fun hd e=>
   fB KR a6 hd fun w' hw=>by rw [e];exact hR _ hw
  by_cases h1:i<xs.length
  ·have t1:decide ((i:Int)<(xs.length:Int))=true:=decide_eq_true (by omega)
   by_cases h2:i<ys.length
   ·have t2:decide ((i:Int)<(ys.length:Int))=true:=decide_eq_true (by omega)
    have r1:=bY h1
    have r2:=bY h2
    have da:=List.drop_eq_getElem_cons h1
    have db:=List.drop_eq_getElem_cons h2
    have g1:(cP xs)[0+i*1]?=some (.v (.string (mk xs[i]))):=by simp [cP,h1]
    have g2:(cP ys)[0+i*1]?=some (.v (.string (mk ys[i]))):=by simp [cP,h2]
    have z1:(mk xs[i]).size≤1000000000:=sx _ (List.getElem_mem h1)
    have z2:(mk ys[i]).size≤1000000000:=sy _ (List.getElem_mem h2)
    have eb:jH (mk xs[i]) (mk ys[i])=de xs[i] ys[i]:=by simp [jH,mk]
    by_cases hc:de xs[i] ys[i]=0
    ·have hq:(!(de xs[i] ys[i]==(0:Int)))=false:=by rw [hc];rfl
     match j,hj with
     | 0,hj=>omega
     | j+1,hj=>
      refine ao.reach KR (k:=2) (n:=100) (o:=(ff [0,1,2,3,4,5] true++[(7,.cells [.v (.string (mk xs[i]))]),(9,.cells [.v (.string (mk ys[i]))])]++ff [11] false)) (ren:=[(0,0),(1,1)]) (eqs:=[0,1]) ?_ (by kernel_rfl) (fun i b h=>dW h) (bh hx hy sx sy j (i+1) (by omega) (by omega) fun w' hw=>by
       have e:mF (xs.drop i) (ys.drop i)=mF (xs.drop (i+1)) (ys.drop (i+1)):=by
        rw [da,db];conv=>lhs;unfold mF
        rw [if_pos hc]
       exact e ▸ hR w' hw)
      rw [OY]
      have ws:IntKind.i64.wrap ((i:Int)+1)=((i+1:Nat):Int):=by rw [wi (by omega)];simp
      simp only [af,Int.toNat_natCast,t1,t2,r1,r2,g1,g2,z1,z2,eb,hq,ws,eM,and_self]
    ·have hq:(!(de xs[i] ys[i]==(0:Int)))=true:=by rw [beq_eq_false_iff_ne.2 hc];rfl
     refine go (o:=(ff [0,1,2,3,4,5] true++[(7,.cells [.v (.string (mk xs[i]))]),(9,.cells [.v (.string (mk ys[i]))])]++ff [11] true)) (v:=.int .i64 (jH (mk xs[i]) (mk ys[i]))) ⟨?_⟩ (by rw [da,db,eb];unfold mF;rw [if_neg hc])
     rw [Mb]
     simp only [af,Int.toNat_natCast,t1,t2,r1,r2,g1,g2,z1,z2,eb,hq,and_self]
   ·have t2:decide ((i:Int)<(ys.length:Int))=false:=decide_eq_false (by omega)
    refine go (o:=ff [0,1,2,3,4] true++ff [5] false) (v:=.int .i64 (dr xs.length ys.length)) ⟨?_⟩ ?_
    ·rw [r4];simp only [af,t1,t2,and_self]
    ·rw [List.drop_eq_getElem_cons h1,List.drop_eq_nil_of_le (by omega:ys.length≤i)]
     have:dr (xs.length:Int) (ys.length:Int)=1:=by unfold dr;rw [if_neg (by omega),if_pos (by omega)]
     rw [this];rfl
  ·have t1:decide ((i:Int)<(xs.length:Int))=false:=decide_eq_false (by omega)
   refine go (o:=ff [0,1,2,3,4,5] false) (v:=.int .i64 (dr xs.length ys.length)) ⟨?_⟩ ?_
   ·rw [r3];simp only [af,t1,and_self]
   ·rw [List.drop_eq_nil_of_le (by omega:xs.length≤i)]
    by_cases h2:i<ys.length
    ·rw [List.drop_eq_getElem_cons h2]
     have:dr (xs.length:Int) (ys.length:Int)=-1:=by unfold dr;rw [if_pos (by omega)]
     rw [this];rfl
    ·rw [List.drop_eq_nil_of_le (by omega:ys.length≤i)]
     have:dr (xs.length:Int) (ys.length:Int)=0:=by unfold dr;rw [if_neg (by omega),if_neg (by omega)]
     rw [this];rfl
end
theorem Ft:bH Tryz.prog (fun _=>True) (71,lH):=by
 refine .mk ⟨_,Tryz.func71,by kernel_rfl,by kernel_rfl⟩ fun args v p h hp w hX=>?_
 dsimp only [lH] at h
 split at h
 ·rename_i a b
  cases h
  refine bV (E:=ER) (R:=fun e w'=>Below w.heap.size w w'∧e=.returned (.int .i64 (bF a b))) rfl rfl (args:=[.v (.string a),.v (.string b)]) (a:=[.string a,.string b]) (S0:=ba ER 71 [.v (.string a),.v (.string b)]) (by kernel_rfl) (aj.cons (VR.ab.2 rfl) (aj.cons (VR.ab.2 rfl) aj.nil)) fun cs0=>?_
  have la:a.data.toList.length=a.size:=by simp
  have lb:b.data.toList.length=b.size:=by simp
  obtain ⟨ha,hb⟩:=hp
  obtain ⟨a1,a2⟩:=fk a.data.toList
  obtain ⟨b1,b2⟩:=fk b.data.toList
  have nx:=bh (w0:=w) (cs0:=cs0) (R:=fun e w'=>Below w.heap.size w w'∧e=.returned (.int .i64 (bF a b))) (xs:=aF a.data.toList) (ys:=aF b.data.toList) (by omega) (by omega) (fun s hs=>by have:=a2 s hs;omega) (fun s hs=>by have:=b2 s hs;omega) (aF a.data.toList).length 0 (by omega) (by omega) fun w' hw=>⟨hw,by
   rw [List.drop_zero,List.drop_zero,tE (a.size+1) a b (by omega)];rfl⟩
  refine ao.reach KR (k:=2) (n:=60) (o:=[(1000,.b true)]) (ren:=[(0,0),(1,1)]) (eqs:=[0,1]) (F:=DQ (aF a.data.toList).length (aF b.data.toList).length 0) (d:=6) (l:=two (cP (aF a.data.toList)) (cP (aF b.data.toList))) ?_ (by kernel_rfl) (fun i b h=>dW h) nx
  have e1:∀ l:List (List UInt8),List.map SV.v (vP l)=cP l:=fun l=>by simp [vP,cP]
  rw [r0]
  simp only [af,e1,eM,and_self,and_true,true_and]
  exact ⟨ha,hb⟩
 ·cases h
noncomputable def Il:List SI:=dC aQ 2 60 (ba aQ 68 [.v (.string ⟨#[]⟩)]) []
noncomputable def Bl (s:ByteArray) (i:Int):SF:={ fn:=68,tm:=gw 30 6 ([.v (.string s),.aM,.aM,.v (.int .i64 i)]++List.replicate 26 .aM),todo:=Il,defers:=[],ret:=false,kind:=.normal,ro:=none }
theorem q0 (s:ByteArray):reach aQ 2 60 (ba aQ 68 [.v (.string s)]) [(1000,.b true)] [] [] (Bl s 0) 6 []=[Value.string s=Value.string s,vZ 0=vZ 0]:=by kernel_rfl
theorem q1 (s:ByteArray) (i i':Int):reach aQ 2 60 (SM.at (Bl s i) 6 []) (ff [0] true++ff [2] false) [] [] (Bl s i') 6 []=[Value.string s=Value.string s,vZ (IntKind.i64.wrap (i+1))=vZ i',((↑(s.data.getD i.toNat (0:UInt8)).toNat:Int)==0)=false,ar i s.size=true,decide (i<(↑s.size:Int))=true]:=by kernel_rfl
theorem q2 (s:ByteArray) (i:Int) (v:Value):au aQ 68 60 (SM.at (Bl s i) 6 []) (ff [0,2] true) v=[Value.bool false=v,((↑(s.data.getD i.toNat (0:UInt8)).toNat:Int)==0)=true,ar i s.size=true,decide (i<(↑s.size:Int))=true]:=by kernel_rfl
theorem q3 (s:ByteArray) (i:Int) (v:Value):au aQ 68 60 (SM.at (Bl s i) 6 []) (ff (List.range 20) false) v=[Value.bool false=v,false=false,false=false,false=false,false=false,false=false,false=false,decide ((↑s.size:Int)≥1)=false,decide ((↑s.size:Int)≥1)=false,decide ((↑s.size:Int)≥1)=false,decide ((↑s.size:Int)≥1)=false,decide (i<(↑s.size:Int))=false]:=by kernel_rfl
theorem q4 (s:ByteArray) (i:Int) (v:Value):au aQ 68 60 (SM.at (Bl s i) 6 []) (ff [0] false++ff [1,2,3,4] true++ff (List.range 20) false) v=[Value.bool false=v,false=false,false=false,false=false,decide ((↑s.size:Int)≤24)=false,decide ((↑s.size:Int)≤24)=false,decide ((↑s.size:Int)≤24)=false,decide ((↑s.size:Int)≥1)=true,decide ((↑s.size:Int)≥1)=true,decide ((↑s.size:Int)≥1)=true,decide ((↑s.size:Int)≥1)=true,decide (i<(↑s.size:Int))=false]:=by kernel_rfl
theorem q5 (s:ByteArray) (i:Int) (v:Value):au aQ 68 60 (SM.at (Bl s i) 6 []) (ff [0] false++ff [1,2,3,4,5,6,7] true++ff (List.range 20) false) v=[Value.bool false=v,(!s.toList==(⟨⟨[46]⟩⟩:ByteArray).toList)=false,(!s.toList==(⟨⟨[46]⟩⟩:ByteArray).toList)=false,(!s.toList==(⟨⟨[46]⟩⟩:ByteArray).toList)=false,decide ((↑s.size:Int)≤24)=true,decide ((↑s.size:Int)≤24)=true,decide ((↑s.size:Int)≤24)=true,decide ((↑s.size:Int)≥1)=true,decide ((↑s.size:Int)≥1)=true,decide ((↑s.size:Int)≥1)=true,decide ((↑s.size:Int)≥1)=true,decide (i<(↑s.size:Int))=false]:=by kernel_rfl
theorem q6 (s:ByteArray) (i:Int) (v:Value):au aQ 68 60 (SM.at (Bl s i) 6 []) (ff [0] false++ff (List.range 20) true) v=[(Value.bool !s.toList==(⟨⟨[46,46]⟩⟩:ByteArray).toList)=v,(!s.toList==(⟨⟨[46]⟩⟩:ByteArray).toList)=true,(!s.toList==(⟨⟨[46]⟩⟩:ByteArray).toList)=true,(!s.toList==(⟨⟨[46]⟩⟩:ByteArray).toList)=true,decide ((↑s.size:Int)≤24)=true,decide ((↑s.size:Int)≤24)=true,decide ((↑s.size:Int)≤24)=true,decide ((↑s.size:Int)≥1)=true,decide ((↑s.size:Int)≥1)=true,decide ((↑s.size:Int)≥1)=true,decide ((↑s.size:Int)≥1)=true,decide (i<(↑s.size:Int))=false]:=by kernel_rfl
def Lm:List (FuncId × Sum):=[(67,vm DT),(68,eD kU)]
noncomputable def AW:Env:={ EP [] [] with sums:=fun f=>Lm.lookup f }
noncomputable def Hq:List SI:=dC AW 2 60 (ba AW 25 [.v (.string ⟨#[]⟩)]) (ff [0] false)
noncomputable def xl (n:Nat) (i:Int):SF:={ fn:=25,tm:=gw 25 6 ([.aM,.aM,.aM,.sl 0 0 n none,.v (.int .i64 i)]++List.replicate 20 .aM),todo:=Hq,defers:=[],ret:=false,kind:=.normal,ro:=none }
theorem M6 (p:ByteArray) (v:Value):au AW 25 60 (ba AW 25 [.v (.string p)]) (ff [0] true) v=[Value.bool false=v,decide ((↑p.size:Int)>96)=true]:=by kernel_rfl
theorem Mw (p:ByteArray) (n:Nat) (l:List SV):reach AW 2 60 (ba AW 25 [.v (.string p)]) (ff [0] false) [(0,0)] [0] (xl n 0) 6 (many l)=[0=0∧(aF p.data.toList).length=n∧nZ=none,vZ 0=vZ 0,List.map SV.v (vP (aF p.data.toList))=l,l.all ae=true,p.size.le 1000000000,decide ((↑p.size:Int)>96)=false]:=by kernel_rfl
theorem Oz (s:ByteArray) (n:Nat) (l:List SV) (i i':Int):reach AW 2 60 (SM.at (xl n i) 6 (many l)) (ff [0] true++[(2,.cells [.v (.string s)])]++ff [4] false) [(0,0)] [0] (xl n i') 6 (many l)=[0=0∧n=n∧nZ=none,vZ (IntKind.i64.wrap (i+1))=vZ i',l=l,l.all ae=true,(!aI s)=false,s.size.le 1000000000,l[0+i.toNat*1]?=some (SV.v (Value.string s)),ar i n=true,decide (i<(↑n:Int))=true]:=by kernel_rfl
theorem MC (s:ByteArray) (n:Nat) (l:List SV) (i:Int) (v:Value):au AW 25 60 (SM.at (xl n i) 6 (many l)) (ff [0] true++[(2,.cells [.v (.string s)])]++ff [4] true) v=[Value.bool false=v,(!aI s)=true,s.size.le 1000000000,l[0+i.toNat*1]?=some (SV.v (Value.string s)),ar i n=true,decide (i<(↑n:Int))=true]:=by kernel_rfl
theorem Pb (n:Nat) (l:List SV) (i:Int) (v:Value):au AW 25 60 (SM.at (xl n i) 6 (many l)) (ff [0] false) v=[Value.bool (decide ((↑n:Int)≤6))=v,decide (i<(↑n:Int))=false]:=by kernel_rfl
theorem Na (v:Int) (x:Value):au aQ 181 100 (ba aQ 181 [.v (.int .u64 v)]) (ff (List.range 10) true++ff (List.range 20) false) x=[Value.bool false=x,false=false,false=false,false=false,false=false,true=true,true=true,true=true,true=true,true=true,true=true,true=true,decide (v.fdiv (2 ^ 20)<1)=true,decide (v.fdiv (2 ^ 20)<1)=true,decide (v.fdiv (2 ^ 20)<1)=true]:=by kernel_rfl
theorem Nh (v:Int) (x:Value):au aQ 181 100 (ba aQ 181 [.v (.int .u64 v)]) (ff [0,1,2] false++ff (List.range 10) true++ff (List.range 20) false) x=[Value.bool false=x,false=false,false=false,false=false,false=false,true=true,true=true,true=true,true=true,decide (v.fdiv (2 ^ 20)>1099511627776)=true,decide (v.fdiv (2 ^ 20)>1099511627776)=true,decide (v.fdiv (2 ^ 20)>1099511627776)=true,decide (v.fdiv (2 ^ 20)<1)=false,decide (v.fdiv (2 ^ 20)<1)=false,decide (v.fdiv (2 ^ 20)<1)=false]:=by kernel_rfl
theorem OQ (v:Int) (x:Value):au aQ 181 100 (ba aQ 181 [.v (.int .u64 v)]) (ff [0,1,2,3,4,5] false++ff (List.range 10) true++ff (List.range 20) false) x=[Value.bool false=x,false=false,false=false,false=false,false=false,true=true,decide (IntKind.u64.wrap (↑(BitVec.ofInt 64 v &&& BitVec.ofInt 64 1048575).toNat:Int)<1)=true,decide (IntKind.u64.wrap (↑(BitVec.ofInt 64 v &&& BitVec.ofInt 64 1048575).toNat:Int)<1)=true,decide (IntKind.u64.wrap (↑(BitVec.ofInt 64 v &&& BitVec.ofInt 64 1048575).toNat:Int)<1)=true,decide (v.fdiv (2 ^ 20)>1099511627776)=false,decide (v.fdiv (2 ^ 20)>1099511627776)=false,decide (v.fdiv (2 ^ 20)>1099511627776)=false,decide (v.fdiv (2 ^ 20)<1)=false,decide (v.fdiv (2 ^ 20)<1)=false,decide (v.fdiv (2 ^ 20)<1)=false]:=by kernel_rfl
theorem Pk (v:Int) (x:Value):au aQ 181 100 (ba aQ 181 [.v (.int .u64 v)]) (ff [0,1,2,3,4,5,6,7,8,9] false++ff (List.range 20) true) x=[Value.bool (IntKind.u64.wrap (↑(BitVec.ofInt 64 (IntKind.u64.wrap (v.fdiv (2 ^ 20)*2 ^ 20)) ||| BitVec.ofInt 64 (IntKind.u64.wrap (↑(BitVec.ofInt 64 v &&& BitVec.ofInt 64 1048575).toNat:Int))).toNat:Int)==v)=x,true=true,true=true,true=true,true=true,decide (IntKind.u64.wrap (↑(BitVec.ofInt 64 v &&& BitVec.ofInt 64 1048575).toNat:Int)>1048575)=false,decide (IntKind.u64.wrap (↑(BitVec.ofInt 64 v &&& BitVec.ofInt 64 1048575).toNat:Int)<1)=false,decide (IntKind.u64.wrap (↑(BitVec.ofInt 64 v &&& BitVec.ofInt 64 1048575).toNat:Int)<1)=false,decide (IntKind.u64.wrap (↑(BitVec.ofInt 64 v &&& BitVec.ofInt 64 1048575).toNat:Int)<1)=false,decide (v.fdiv (2 ^ 20)>1099511627776)=false,decide (v.fdiv (2 ^ 20)>1099511627776)=false,decide (v.fdiv (2 ^ 20)>1099511627776)=false,decide (v.fdiv (2 ^ 20)<1)=false,decide (v.fdiv (2 ^ 20)<1)=false,decide (v.fdiv (2 ^ 20)<1)=false]:=by kernel_rfl
theorem JI (v:Int) (x:Value):au aQ 164 100 (ba aQ 164 [.v (.int .u64 v)]) (ff (List.range 20) false) x=[Value.tuple { toList:=[Value.int IntKind.u64 (IntKind.u64.wrap (v.tdiv 1048576)),Value.int IntKind.u64 (v.tmod 1048576),Value.bool false]:Array Value }=x,false=false,false=false,false=false,decide (IntKind.u64.wrap (v.tdiv 1048576)≥1)=false,decide (IntKind.u64.wrap (v.tdiv 1048576)≥1)=false,decide (IntKind.u64.wrap (v.tdiv 1048576)≥1)=false]:=by kernel_rfl
theorem Jw (v:Int) (x:Value):au aQ 164 100 (ba aQ 164 [.v (.int .u64 v)]) (ff [0,1,2] true++ff (List.range 20) false) x=[Value.tuple { toList:=[Value.int IntKind.u64 (IntKind.u64.wrap (v.tdiv 1048576)),Value.int IntKind.u64 (v.tmod 1048576),Value.bool false]:Array Value }=x,decide (IntKind.u64.wrap (v.tdiv 1048576)≤1099511627776)=false,decide (IntKind.u64.wrap (v.tdiv 1048576)≤1099511627776)=false,decide (IntKind.u64.wrap (v.tdiv 1048576)≤1099511627776)=false,decide (IntKind.u64.wrap (v.tdiv 1048576)≥1)=true,decide (IntKind.u64.wrap (v.tdiv 1048576)≥1)=true,decide (IntKind.u64.wrap (v.tdiv 1048576)≥1)=true]:=by kernel_rfl
theorem Jm (v:Int) (x:Value):au aQ 164 100 (ba aQ 164 [.v (.int .u64 v)]) (ff (List.range 20) true) x=[Value.tuple { toList:=[Value.int IntKind.u64 (IntKind.u64.wrap (v.tdiv 1048576)),Value.int IntKind.u64 (v.tmod 1048576),Value.bool (decide (v.tmod (1048576:Int)≥1))]:Array Value }=x,decide (IntKind.u64.wrap (v.tdiv 1048576)≤1099511627776)=true,decide (IntKind.u64.wrap (v.tdiv 1048576)≤1099511627776)=true,decide (IntKind.u64.wrap (v.tdiv 1048576)≤1099511627776)=true,decide (IntKind.u64.wrap (v.tdiv 1048576)≥1)=true,decide (IntKind.u64.wrap (v.tdiv 1048576)≥1)=true,decide (IntKind.u64.wrap (v.tdiv 1048576)≥1)=true]:=by kernel_rfl
theorem Nr (k:Int) (a:Option Addr) (l c:Nat) (v:Value):au aQ 182 100 (ba aQ 182 [.v (.agg #[.int .i64 1,.slice a l c])]) (ff [1] true) v=[vZ 0=v,decide ((↑l:Int)≤4096)=true]:=by kernel_rfl
theorem MM (k:Int) (a:Option Addr) (l c:Nat) (v:Value):au aQ 182 100 (ba aQ 182 [.v (.agg #[.int .i64 1,.slice a l c])]) (ff [1] false) v=[vZ 13=v,decide ((↑l:Int)≤4096)=false]:=by kernel_rfl
theorem OZ (k:Int) (a:Option Addr) (l c:Nat) (v:Value):au aQ 182 100 (ba aQ 182 [.v (.agg #[.int .i64 0,.slice a l c])]) (ff [3] true) v=[vZ 0=v,decide ((↑l:Int)≤0)=true]:=by kernel_rfl
theorem NN (k:Int) (a:Option Addr) (l c:Nat) (v:Value):au aQ 182 100 (ba aQ 182 [.v (.agg #[.int .i64 0,.slice a l c])]) (ff [3] false) v=[vZ 2=v,decide ((↑l:Int)≤0)=false]:=by kernel_rfl
theorem NF (k:Int) (a:Option Addr) (l c:Nat) (v:Value):au aQ 182 100 (ba aQ 182 [.v (.agg #[.int .i64 2,.slice a l c])]) (ff [3] true) v=[vZ 0=v,decide ((↑l:Int)≤0)=true]:=by kernel_rfl
theorem Mj (k:Int) (a:Option Addr) (l c:Nat) (v:Value):au aQ 182 100 (ba aQ 182 [.v (.agg #[.int .i64 2,.slice a l c])]) (ff [3] false) v=[vZ 2=v,decide ((↑l:Int)≤0)=false]:=by kernel_rfl
theorem NL (k:Int) (a:Option Addr) (l c:Nat) (v:Value):au aQ 182 100 (ba aQ 182 [.v (.agg #[.int .i64 k,.slice a l c])]) (ff (List.range 20) false) v=[vZ 2=v,(k==2)=false,(k==0)=false,(k==1)=false]:=by kernel_rfl
theorem JV (a:Option Addr) (l c:Nat) (v:Value):au aQ 165 100 (ba aQ 165 [.v (.agg #[.int .i64 1,.slice a l c])]) (ff [16] true) v=[vZ 13=v,decide ((↑l:Int)>4096)=true]:=by kernel_rfl
theorem Jq (a:Option Addr) (l c:Nat) (v:Value):au aQ 165 100 (ba aQ 165 [.v (.agg #[.int .i64 1,.slice a l c])]) (ff [16] false) v=[vZ 0=v,decide ((↑l:Int)>4096)=false]:=by kernel_rfl
theorem J8 (a:Option Addr) (l c:Nat) (v:Value):au aQ 165 100 (ba aQ 165 [.v (.agg #[.int .i64 0,.slice a l c])]) (ff [15] true) v=[vZ 2=v,decide ((↑l:Int)>0)=true]:=by kernel_rfl
theorem J6 (a:Option Addr) (l c:Nat) (v:Value):au aQ 165 100 (ba aQ 165 [.v (.agg #[.int .i64 0,.slice a l c])]) (ff [15,16] false) v=[vZ 0=v,decide ((↑l:Int)>4096)=false,decide ((↑l:Int)>0)=false]:=by kernel_rfl
theorem LF (a:Option Addr) (l c:Nat) (v:Value):au aQ 165 100 (ba aQ 165 [.v (.agg #[.int .i64 2,.slice a l c])]) (ff [15] true) v=[vZ 2=v,decide ((↑l:Int)>0)=true]:=by kernel_rfl
theorem Jt (a:Option Addr) (l c:Nat) (v:Value):au aQ 165 100 (ba aQ 165 [.v (.agg #[.int .i64 2,.slice a l c])]) (ff [15,16] false) v=[vZ 0=v,decide ((↑l:Int)>4096)=false,decide ((↑l:Int)>0)=false]:=by kernel_rfl
theorem L0 (k:Int) (a:Option Addr) (l c:Nat) (v:Value):au aQ 165 100 (ba aQ 165 [.v (.agg #[.int .i64 k,.slice a l c])]) (ff (List.range 20) true) v=[vZ 2=v,true=true,true=true,true=true,true=true,true=true,true=true,true=true,decide (k<0)=true,decide (k<0)=true,decide (k<0)=true,decide (k<0)=true]:=by kernel_rfl
theorem Pf (k:Int) (a:Option Addr) (l c:Nat) (v:Value):au aQ 165 100 (ba aQ 165 [.v (.agg #[.int .i64 k,.slice a l c])]) (ff [0,1,2,3] false++ff (List.range 20) true) v=[vZ 2=v,true=true,decide (k>2)=true,decide (k>2)=true,decide (k>2)=true,decide (k>2)=true,decide (k>2)=true,decide (k>2)=true,decide (k<0)=false,decide (k<0)=false,decide (k<0)=false,decide (k<0)=false]:=by kernel_rfl
def jf (v:Int):Bool:=decide (1≤v / 1048576∧v / 1048576≤1099511627776∧1≤v % 1048576)
def GL:PS:=fun args=>match args with | [.int .u64 v]=>some (.bool (jf v),0≤v∧v<18446744073709551616) | _=>none
def dA (k:Int) (l:Nat):Int:=if k=1 then (if l≤4096 then 0 else 13) else if (k=0∨k=2)∧l=0 then 0 else 2
def nK:PS:=fun args=>match args with | [.agg x]=>(match x.toList with | [.int .i64 k,.slice _ l _]=>some (.int .i64 (dA k l),True) | _=>none) | _=>none
def bw (p:ByteArray) (v k:Int) (l:Nat):Int:=bif ee p then bif jf v then dA k l else 2 else 23
def nD:PS:=fun args=>match args with | [.agg x]=>(match x.toList with | [.string p,.int .u64 v,.int .i64 k,.slice _ l _]=>some (.int .i64 (bw p v k l),p.size≤1000000000∧0≤v∧v<18446744073709551616) | _=>none) | _=>none
def tX:PS:=fun args=>match args with | [.int .u64 v]=>some (.tuple #[.int .u64 (v / 1048576),.int .u64 (v % 1048576),.bool (jf v)],0≤v∧v<18446744073709551616) | _=>none
def yj:PS:=fun args=>match args with | [.string p]=>some (.bool (cI p),p.size≤1000000000) | _=>none
noncomputable def Gg:Env:=EP [(25,yj)] []
theorem No (p:ByteArray) (v:Value):au Gg 40 300 (ba Gg 40 [.v (.string p)]) (ff [1,2,3,4,5,6] false) v=[Value.bool false=v,cI p=false,cI p=false,cI p=false,cI p=false,p.size.le 1000000000]:=by kernel_rfl
theorem MD (p:ByteArray) (v:Value):au Gg 40 300 (ba Gg 40 [.v (.string p)]) (ff [1,2,4,5,6] true) v=[(Value.bool !(↑(p.data.getD 0 (0:UInt8)).toNat:Int)==126)=v,cI p=true,cI p=true,ar 0 p.size=true,cI p=true,cI p=true,p.size.le 1000000000]:=by kernel_rfl
noncomputable def DP:Env:=EP [(74,nT),(181,GL),(182,nK)] []
noncomputable def mQ:Env:=EP [(40,nT),(164,tX),(165,nK)] []
theorem NT (p:ByteArray) (x k:Int) (a:Option Addr) (l c:Nat) (v:Value):au DP 159 300 (ba DP 159 [.v (.agg #[.string p,.int .u64 x,.int .i64 k,.slice a l c])]) (ff [1] true) v=[vZ 23=v,(!ee p)=true,p.size.le 1000000000]:=by kernel_rfl
theorem L5 (p:ByteArray) (x k:Int) (a:Option Addr) (l c:Nat) (v:Value):au DP 159 300 (ba DP 159 [.v (.agg #[.string p,.int .u64 x,.int .i64 k,.slice a l c])]) (ff [1] false++ff [3] true) v=[vZ 2=v,(!jf x)=true,0≤x∧x<18446744073709551616,(!ee p)=false,p.size.le 1000000000]:=by kernel_rfl
theorem Od (p:ByteArray) (x k:Int) (a:Option Addr) (l c:Nat) (v:Value):au DP 159 300 (ba DP 159 [.v (.agg #[.string p,.int .u64 x,.int .i64 k,.slice a l c])]) (ff [1] false++ff [3] false) v=[vZ (dA k l)=v,True,(!jf x)=false,0≤x∧x<18446744073709551616,(!ee p)=false,p.size.le 1000000000]:=by kernel_rfl
theorem NI (p:ByteArray) (x k:Int) (a:Option Addr) (l c:Nat) (v:Value):au mQ 133 300 (ba mQ 133 [.v (.agg #[.string p,.int .u64 x,.int .i64 k,.slice a l c])]) (ff [1] true) v=[vZ 23=v,(!ee p)=true,p.size.le 1000000000]:=by kernel_rfl
theorem OO (p:ByteArray) (x k:Int) (a:Option Addr) (l c:Nat) (v:Value):au mQ 133 300 (ba mQ 133 [.v (.agg #[.string p,.int .u64 x,.int .i64 k,.slice a l c])]) (ff [1] false++ff [3] true) v=[vZ 2=v,(!jf x)=true,0≤x∧x<18446744073709551616,(!ee p)=false,p.size.le 1000000000]:=by kernel_rfl
theorem Mz (p:ByteArray) (x k:Int) (a:Option Addr) (l c:Nat) (v:Value):au mQ 133 300 (ba mQ 133 [.v (.agg #[.string p,.int .u64 x,.int .i64 k,.slice a l c])]) (ff [1] false++ff [3] false) v=[vZ (dA k l)=v,True,(!jf x)=false,0≤x∧x<18446744073709551616,(!ee p)=false,p.size.le 1000000000]:=by kernel_rfl
theorem yW (s:ByteArray):FN s<0↔∀ b∈s.data.toList,b≠0:=by
 have key:∀ l:List UInt8,(Lib.indexByte l 0=-1∧∀ b∈l,b≠0)∨(0≤Lib.indexByte l 0∧¬ ∀ b∈l,b≠0):=by
  intro l
  induction l with
  | nil=>exact .inl ⟨rfl,fun b h=>by cases h⟩
  | cons x l ih=>
   unfold Lib.indexByte
   by_cases hx:x=0
   ·subst hx
    exact .inr ⟨by simp,fun h=>h 0 List.mem_cons_self rfl⟩
   ·have hx':(x==0)=false:=beq_eq_false_iff_ne.2 hx
    rw [hx']
    rcases ih with ⟨h1,h2⟩ | ⟨h1,h2⟩
    ·rw [h1]
     exact .inl ⟨rfl,fun b hb=>by rcases List.mem_cons.1 hb with rfl | hb;exact hx;exact h2 b hb⟩
    ·refine .inr ⟨?_,fun h=>h2 fun b hb=>h b (List.mem_cons_of_mem _ hb)⟩
     have:(Lib.indexByte l 0==-1)=false:=beq_eq_false_iff_ne.2 (by omega)
     rw [this];simp only [Bool.false_eq_true,if_false];omega
 rcases key s.data.toList with ⟨h1,h2⟩ | ⟨h1,h2⟩
 ·unfold FN;rw [h1];exact ⟨fun _=>h2,fun _=>by decide⟩
 ·unfold FN;exact ⟨fun h=>by omega,fun h=>absurd h h2⟩
section
variable {w0:World} {cs0:List Frame} {R:Ending→World→Prop} {s:ByteArray}
theorem FC (hs:s.size≤1000000000) (hR:∀ w',Below w0.heap.size w0 w'→R (.returned (.bool (aI s))) w'):∀ (j i:Nat),i+j=s.size→(∀ b∈s.data.toList.take i,b≠0)→
  ao aQ (az [] []) w0 cs0 68 R (ax []) (SM.at (Bl s i) 6 [])
 | 0,i,hj,hz=>by
  have go:∀ {o v},cp (au aQ 68 60 (SM.at (Bl s i) 6 []) o v)→v=.bool (aI s)→ao aQ (az [] []) w0 cs0 68 R (ax []) (SM.at (Bl s i) 6 []):=fun hd e=>
   fB kR a6 hd fun w' hw=>by rw [e];exact hR _ hw
  have hl:s.data.toList.length=s.size:=by simp
  rw [List.take_of_length_le (by omega)] at hz
  have hnz:=(yW s).2 hz
  have t1:decide ((i:Int)<(s.size:Int))=false:=decide_eq_false (by omega)
  by_cases h0:s.data.toList=[]
  ·have hz0:s.size=0:=by rw [← hl,h0];rfl
   have t2:decide ((s.size:Int)≥1)=false:=decide_eq_false (by omega)
   refine go (o:=ff (List.range 20) false) (v:=.bool false) ⟨?_⟩ (by simp [aI,h0])
   rw [q3];simp only [af,t1,t2,and_self]
  have hz1:1≤s.size:=by
   rw [← hl];exact List.length_pos_iff.2 h0
  have t2:decide ((s.size:Int)≥1)=true:=decide_eq_true (by omega)
  by_cases h24:s.size≤24
  ·have t3:decide ((s.size:Int)≤24)=true:=decide_eq_true (by omega)
   by_cases h1:s.data.toList=[46]
   ·have t4:(s.toList==(⟨#[46]⟩:ByteArray).toList)=true:=by rw [rS,rS];simp [h1]
    refine go (o:=ff [0] false++ff [1,2,3,4,5,6,7] true++ff (List.range 20) false) (v:=.bool false) ⟨?_⟩ (by simp [aI,h1])
    rw [q5];simp only [af,t1,t2,t3,t4,Bool.not_true,and_self]
   ·have t4:(s.toList==(⟨#[46]⟩:ByteArray).toList)=false:=by rw [rS,rS];exact beq_eq_false_iff_ne.2 h1
    refine go (o:=ff [0] false++ff (List.range 20) true) (v:=.bool (!(s.toList==(⟨#[46,46]⟩:ByteArray).toList))) ⟨?_⟩ ?_
    ·rw [q6];simp only [af,t1,t2,t3,t4,Bool.not_false,and_self]
    ·congr 1
     rw [rS,rS]
     by_cases h2:s.data.toList=[46,46]
     ·simp [aI,h2]
     ·have:(s.data.toList==(⟨#[46,46]⟩:ByteArray).data.toList)=false:=beq_eq_false_iff_ne.2 h2
      rw [this]
      simp [aI,h0,h1,h2,h24,hnz]
  ·have t3:decide ((s.size:Int)≤24)=false:=decide_eq_false (by omega)
   refine go (o:=ff [0] false++ff [1,2,3,4] true++ff (List.range 20) false) (v:=.bool false) ⟨?_⟩ (by simp [aI,h24])
   rw [q4];simp only [af,t1,t2,t3,and_self]
 | j+1,i,hj,hz=>by
  have hi:i<s.size:=by omega
  have t1:decide ((i:Int)<(s.size:Int))=true:=decide_eq_true (by omega)
  have r1:=bY hi
  have ws:=cL (k:=i) (by omega)
  have ht:=k9 s hi
  by_cases hb:s.data.getD i 0=0
  ·have t2:(((s.data.getD i 0).toNat:Int)==0)=true:=by rw [hb];rfl
   refine fB kR a6 (n:=60) (o:=ff [0,2] true) (v:=.bool false) ⟨?_⟩ fun w' hw=>?_
   ·rw [q2];simp only [af,Int.toNat_natCast,t1,r1,t2,and_self]
   ·have hn:¬ FN s<0:=fun h=>(yW s).1 h 0 (by
     have h5:s.data.getD i 0∈s.data.toList.take (i+1):=by rw [ht];simp
     rw [hb] at h5
     exact List.mem_of_mem_take h5) rfl
    have:aI s=false:=by unfold aI;rw [decide_eq_false hn,Bool.and_false]
    rw [← this];exact hR _ hw
  ·have t2:(((s.data.getD i 0).toNat:Int)==0)=false:=beq_eq_false_iff_ne.2 fun h=>hb (UInt8.toNat_inj.1 (show (s.data.getD i 0).toNat=0 by omega))
   refine ao.reach kR (k:=2) (n:=60) (o:=ff [0] true++ff [2] false) (ren:=[]) (eqs:=[]) ?_ (by kernel_rfl) (fun i b h=>dW h) (l:=[]) (FC hs hR j (i+1) (by omega) fun b hb'=>by
    rw [ht] at hb'
    rcases List.mem_append.1 hb' with h | h
    ·exact hz b h
    ·rw [List.mem_singleton.1 h];exact hb)
   rw [q1];simp only [af,Int.toNat_natCast,t1,r1,t2,ws,and_self]
end
theorem CE:bH Tryz.prog (fun _=>True) (68,kU):=by
 refine .mk ⟨_,Tryz.func68,by kernel_rfl,by kernel_rfl⟩ fun args v p h hp w hX=>?_
 dsimp only [kU] at h
 split at h
 ·rename_i s
  cases h
  refine bV (E:=aQ) (R:=fun e w'=>Below w.heap.size w w'∧e=.returned (.bool (aI s))) rfl rfl (args:=[.v (.string s)]) (a:=[.string s]) (S0:=ba aQ 68 [.v (.string s)]) (by kernel_rfl) (aj.cons (VR.ab.2 rfl) aj.nil) fun cs0=>?_
  refine ao.reach kR (k:=2) (n:=60) (o:=[(1000,.b true)]) (ren:=[]) (eqs:=[]) (F:=Bl s 0) (d:=6) (l:=[]) ?_ (by kernel_rfl) (fun i b h=>dW h) (FC hp (fun w' hw=>⟨hw,rfl⟩) s.size 0 (by omega) fun b hb=>by simp at hb)
  rw [q0];simp only [af,and_self]
 ·cases h
theorem mu:∀ (n:Nat) (p:ByteArray),iB n p=true↔(aF p.data.toList).length≤n∧∀ s∈aF p.data.toList,aI (mk s)=true
 | 0,p=>by
  refine ⟨fun h=>by simp [iB] at h,fun ⟨h,_⟩=>?_⟩
  exact absurd (List.length_eq_zero_iff.1 (Nat.le_zero.1 h)) (dE _)
 | n+1,p=>by
  have e:aF p.data.toList=(cA p).data.toList::(if cM p=true then aF (cB p).data.toList else []):=iz _
  rw [e]
  have eA:mk (cA p).data.toList=cA p:=IX _
  unfold iB
  cases hm:cM p
  ·simp [eA]
  ·have ih:=mu n (cB p)
   simp only [Bool.not_true,Bool.false_or,Bool.and_eq_true,ih,if_true,List.length_cons,Nat.add_le_add_iff_right,List.mem_cons,forall_eq_or_imp,eA]
   constructor
   ·rintro ⟨h1,h2,h3⟩;exact ⟨h2,h1,h3⟩
   ·rintro ⟨h2,h1,h3⟩;exact ⟨h1,h2,h3⟩
theorem Ip {M:Own} {w0:World}:aE AW M w0:=
 aE.AR (Checked.mixed Tryz.checked) (by kernel_rfl) (eR.of ji rfl dL) (cV.list (X:=fun _=>True) (l:=Lm) rfl (fun r hr=>by
  simp only [Lm,List.mem_cons,List.not_mem_nil,or_false] at hr
  rcases hr with rfl | rfl
  ·exact zd
  ·exact cF.pure (r:=(68,kU)) CE) fun ν s w hr _=>trivial) (fun f g h=>by cases h)
section
variable {w0:World} {cs0:List Frame} {R:Ending→World→Prop} {p:ByteArray} {xs:List (List UInt8)}
theorem Co (h96:p.size≤96) (hx:xs=aF p.data.toList) (hR:∀ w',Below w0.heap.size w0 w'→R (.returned (.bool (cI p))) w'):∀ (j i:Nat),i+j=xs.length→(∀ s∈xs.take i,aI (mk s)=true)→
  ao AW (az [] []) w0 cs0 25 R (ax []) (SM.at (xl xs.length i) 6 (many (cP xs)))
 | 0,i,hj,hz=>by
  rw [List.take_of_length_le (by omega)] at hz
  refine fB Ip a6 (n:=60) (o:=ff [0] false) (v:=.bool (decide ((xs.length:Int)≤6))) ⟨?_⟩ fun w' hw=>?_
  ·rw [Pb];simp only [af,true_and,and_true];exact decide_eq_false (by omega)
  ·have:cI p=decide ((xs.length:Int)≤6):=by
    unfold cI
    rw [decide_eq_true h96,Bool.true_and]
    by_cases hl:xs.length≤6
    ·rw [decide_eq_true (by omega:(xs.length:Int)≤6)]
     exact (mu 6 p).2 ⟨by rw [← hx];exact hl,fun s hs=>hz s (by rw [hx];exact hs)⟩
    ·rw [decide_eq_false (by omega:¬ (xs.length:Int)≤6)]
     rw [Bool.eq_false_iff];intro h
     have:=((mu 6 p).1 h).1
     rw [← hx] at this;exact hl this
   rw [← this];exact hR _ hw
 | j+1,i,hj,hz=>by
  have hi:i<xs.length:=by omega
  have t1:decide ((i:Int)<(xs.length:Int))=true:=decide_eq_true (by omega)
  have r1:=bY hi
  have hlen:=fk p.data.toList
  have hll:p.data.toList.length=p.size:=by simp
  have ws:=cL (k:=i) (by rw [hx] at hi;omega)
  have g1:(cP xs)[0+i*1]?=some (.v (.string (mk xs[i]))):=by simp [cP,hi]
  have hmem:xs[i]∈aF p.data.toList:=by rw [← hx];exact List.getElem_mem hi
  have z1:(mk xs[i]).size≤1000000000:=by
   have:=hlen.2 _ hmem
   show xs[i].length≤_
   omega
  cases hb:aI (mk xs[i])
  ·refine fB Ip a6 (n:=60) (o:=(ff [0] true++[(2,.cells [.v (.string (mk xs[i]))])]++ff [4] true)) (v:=.bool false) ⟨?_⟩ fun w' hw=>?_
   ·rw [MC];simp only [af,Int.toNat_natCast,t1,r1,g1,hb,Bool.not_false,true_and,and_true];exact z1
   ·have:cI p=false:=by
     unfold cI
     rw [decide_eq_true h96,Bool.true_and,Bool.eq_false_iff]
     intro h
     have:=((mu 6 p).1 h).2 _ hmem
     rw [hb] at this;cases this
    rw [← this];exact hR _ hw
  ·refine ao.reach Ip (k:=2) (n:=60) (o:=(ff [0] true++[(2,.cells [.v (.string (mk xs[i]))])]++ff [4] false)) (ren:=[(0,0)]) (eqs:=[0]) ?_ (by kernel_rfl) (fun i b h=>dW h) (Co h96 hx hR j (i+1) (by omega) fun s hs=>by
    rw [List.take_succ_eq_append_getElem hi] at hs
    rcases List.mem_append.1 hs with h | h
    ·exact hz s h
    ·rw [List.mem_singleton.1 h];exact hb)
   rw [Oz];simp only [af,Int.toNat_natCast,t1,r1,g1,hb,ws,eM,Bool.not_true,and_self,true_and,and_true];exact z1
end
theorem DL:bH Tryz.prog (fun _=>True) (25,yj):=by
 refine .mk ⟨_,Tryz.func25,by kernel_rfl,by kernel_rfl⟩ fun args v p h hp w hX=>?_
 dsimp only [yj] at h
 split at h
 ·rename_i p
  cases h
  refine bV (E:=AW) (R:=fun e w'=>Below w.heap.size w w'∧e=.returned (.bool (cI p))) rfl rfl (args:=[.v (.string p)]) (a:=[.string p]) (S0:=ba AW 25 [.v (.string p)]) (by kernel_rfl) (aj.cons (VR.ab.2 rfl) aj.nil) fun cs0=>?_
  by_cases h96:p.size≤96
  ·refine ao.reach Ip (k:=2) (n:=60) (o:=ff [0] false) (ren:=[(0,0)]) (eqs:=[0]) (F:=xl (aF p.data.toList).length 0) (d:=6) (l:=many (cP (aF p.data.toList))) ?_ (by kernel_rfl) (fun i b h=>dW h) (Co h96 rfl (fun w' hw=>⟨hw,rfl⟩) (aF p.data.toList).length 0 (by omega) fun s hs=>by simp at hs)
   have e1:∀ l:List (List UInt8),List.map SV.v (vP l)=cP l:=fun l=>by simp [vP,cP]
   rw [Mw]
   simp only [af,e1,eM,and_self,and_true,true_and]
   exact ⟨decide_eq_false (by omega),hp⟩
  ·refine fB Ip a6 (n:=60) (o:=ff [0] true) (v:=.bool false) ⟨?_⟩ fun w' hw=>⟨hw,by simp [cI,h96]⟩
   rw [M6];simp only [af,true_and,and_true];exact decide_eq_true (by omega)
 ·cases h
theorem Ou {M:Own} {w0:World}:aE Gg M w0:=kq fun r h=>by rw [List.mem_singleton.1 h];exact DL
theorem DB:bH Tryz.prog (fun _=>True) (40,nT):=by
 refine .mk ⟨_,Tryz.func40,by kernel_rfl,by kernel_rfl⟩ fun args v p h hp w hX=>?_
 dsimp only [nT] at h
 split at h
 ·rename_i p
  cases h
  have go:∀ {o v},cp (au Gg 40 300 (ba Gg 40 [.v (.string p)]) o v)→v=.bool (ee p)→Calls Tryz.prog 40 #[.string p] w fun e w'=>Below w.heap.size w w'∧e=.returned (.bool (ee p)):=fun h e=>
   e ▸ cD (E:=Gg) (args:=[.v (.string p)]) rfl rfl Ou (by kernel_rfl) (aj.cons (VR.ab.2 rfl) aj.nil) h
  cases hg:cI p
  ·refine go (o:=ff [1,2,3,4,5,6] false) (v:=.bool false) ⟨?_⟩ (by simp [ee,bI,hg])
   rw [No];simp only [af,hg,and_self,true_and,and_true];exact hp
  ·have hs:=nO p (by simp [bI,hg])
   have hr:ar 0 p.size=true:=by unfold ar;exact decide_eq_true (by omega)
   have hc:(((p.data.getD 0 0).toNat:Int)==126)=(p.data.getD 0 0==126):=by
    by_cases e:p.data.getD 0 0=126
    ·rw [e];rfl
    ·have:¬ ((p.data.getD 0 0).toNat:Int)=126:=fun h=>e (UInt8.toNat_inj.1 (show (p.data.getD 0 0).toNat=126 by omega))
     rw [beq_eq_false_iff_ne.2 e,beq_eq_false_iff_ne.2 this]
   refine go (o:=ff [1,2,4,5,6] true) (v:=.bool (!(((p.data.getD 0 0).toNat:Int)==126))) ⟨?_⟩ (by rw [hc];simp [ee,bI,hg])
   rw [MD];simp only [af,hg,hr,and_self,true_and,and_true];exact hp
 ·cases h
theorem tz {n:Nat}:((n:Int)).fdiv ((2:Int) ^ (20:Nat))=((n / 1048576:Nat):Int):=by
 rw [Int.fdiv_eq_ediv_of_nonneg _ (by decide)];rfl
theorem Ee {x:Int} (h:0≤x∧x<18446744073709551616):IntKind.u64.wrap x=x:=IntWalk.u64_in _ (by omega)
theorem Lh (n:Nat):BitVec.ofInt 64 (n:Int)=BitVec.ofNat 64 n:=BitVec.ofInt_natCast 64 n
theorem F4 {n:Nat} (h:n<18446744073709551616):IntKind.u64.wrap (((BitVec.ofInt 64 (n:Int) &&& BitVec.ofInt 64 1048575).toNat:Nat):Int)=((n % 1048576:Nat):Int):=by
 have e:(BitVec.ofInt 64 (n:Int) &&& BitVec.ofInt 64 1048575).toNat=n % 1048576:=by
  rw [Lh,show BitVec.ofInt 64 1048575=BitVec.ofNat 64 1048575 from rfl,BitVec.toNat_and,BitVec.toNat_ofNat,BitVec.toNat_ofNat,Nat.mod_eq_of_lt (by omega:n<2 ^ 64)]
  exact Nat.and_two_pow_sub_one_eq_mod n 20
 rw [e];exact Ee (by omega)
theorem LC {n:Nat} (h:n<18446744073709551616):IntKind.u64.wrap (((BitVec.ofInt 64 (IntKind.u64.wrap (((n / 1048576:Nat):Int)*(2:Int) ^ (20:Nat))) ||| BitVec.ofInt 64 ((n % 1048576:Nat):Int)).toNat:Nat):Int)=(n:Int):=by
 have e1:IntKind.u64.wrap (((n / 1048576:Nat):Int)*(2:Int) ^ (20:Nat))=((n / 1048576*1048576:Nat):Int):=by
  have:(((n / 1048576:Nat):Int)*(2:Int) ^ (20:Nat))=((n / 1048576*1048576:Nat):Int):=by
   rw [show ((2:Int) ^ (20:Nat))=((1048576:Nat):Int) from rfl];omega
  rw [this];exact Ee (by omega)
 rw [e1,Lh,Lh]
 have e2:(BitVec.ofNat 64 (n / 1048576*1048576) ||| BitVec.ofNat 64 (n % 1048576)).toNat=n:=by
  rw [BitVec.toNat_or,BitVec.toNat_ofNat,BitVec.toNat_ofNat,Nat.mod_eq_of_lt (by omega:n / 1048576*1048576<2 ^ 64),Nat.mod_eq_of_lt (by omega:n % 1048576<2 ^ 64)]
  have h1:=Nat.shiftLeft_add_eq_or_of_lt (b:=n % 1048576) (i:=20) (by omega) (n / 1048576)
  rw [Nat.shiftLeft_eq] at h1
  rw [show (2:Nat) ^ 20=1048576 from rfl] at h1
  omega
 rw [e2];exact Ee (by omega)
theorem FH:bH Tryz.prog (fun _=>True) (181,GL):=by
 refine .mk ⟨_,Tryz.func181,by kernel_rfl,by kernel_rfl⟩ fun args v p h hp w hX=>?_
 dsimp only [GL] at h
 split at h
 ·rename_i v
  cases h
  have go:∀ {o x},cp (au aQ 181 100 (ba aQ 181 [.v (.int .u64 v)]) o x)→x=.bool (jf v)→Calls Tryz.prog 181 #[.int .u64 v] w fun e w'=>Below w.heap.size w w'∧e=.returned (.bool (jf v)):=fun h e=>
   e ▸ cD (E:=aQ) (args:=[.v (.int .u64 v)]) (a:=[.int .u64 v]) rfl rfl kR (by kernel_rfl) (aj.cons (VR.ab.2 rfl) aj.nil) h
  obtain ⟨hp1,hp2⟩:=hp
  obtain ⟨n,rfl⟩:=Int.eq_ofNat_of_zero_le hp1
  have hn:n<18446744073709551616:=by omega
  by_cases h1:((n / 1048576:Nat):Int)<1
  ·refine go (o:=ff (List.range 10) true++ff (List.range 20) false) (x:=.bool false) ⟨?_⟩ (by congr 1;symm;exact decide_eq_false (by omega))
   rw [Na];simp only [af,tz,decide_eq_true h1,and_self]
  by_cases h2:((n / 1048576:Nat):Int)>1099511627776
  ·refine go (o:=ff [0,1,2] false++ff (List.range 10) true++ff (List.range 20) false) (x:=.bool false) ⟨?_⟩ (by congr 1;symm;exact decide_eq_false (by omega))
   rw [Nh];simp only [af,tz,decide_eq_false h1,decide_eq_true h2,and_self]
  by_cases h3:((n % 1048576:Nat):Int)<1
  ·refine go (o:=ff [0,1,2,3,4,5] false++ff (List.range 10) true++ff (List.range 20) false) (x:=.bool false) ⟨?_⟩ (by congr 1;symm;exact decide_eq_false (by omega))
   rw [OQ];simp only [af,tz,F4 hn,decide_eq_false h1,decide_eq_false h2,decide_eq_true h3,and_self]
  ·have h4:¬ ((n % 1048576:Nat):Int)>1048575:=by omega
   refine go (o:=ff [0,1,2,3,4,5,6,7,8,9] false++ff (List.range 20) true) (x:=.bool true) ⟨?_⟩ (by congr 1;symm;exact decide_eq_true (by omega))
   rw [Pk];simp only [af,tz,F4 hn,LC hn,decide_eq_false h1,decide_eq_false h2,decide_eq_false h3,decide_eq_false h4,beq_self_eq_true,and_self]
 ·cases h
theorem Ad:bH Tryz.prog (fun _=>True) (164,tX):=by
 refine .mk ⟨_,Tryz.func164,by kernel_rfl,by kernel_rfl⟩ fun args v p h hp w hX=>?_
 dsimp only [tX] at h
 split at h
 ·rename_i v
  cases h
  have go:∀ {o x},cp (au aQ 164 100 (ba aQ 164 [.v (.int .u64 v)]) o x)→x=.tuple #[.int .u64 (v / 1048576),.int .u64 (v % 1048576),.bool (jf v)]→Calls Tryz.prog 164 #[.int .u64 v] w fun e w'=>Below w.heap.size w w'∧e=.returned (.tuple #[.int .u64 (v / 1048576),.int .u64 (v % 1048576),.bool (jf v)]):=fun h e=>
   e ▸ cD (E:=aQ) (args:=[.v (.int .u64 v)]) (a:=[.int .u64 v]) rfl rfl kR (by kernel_rfl) (aj.cons (VR.ab.2 rfl) aj.nil) h
  obtain ⟨hp1,hp2⟩:=hp
  have e1:IntKind.u64.wrap (v.tdiv 1048576)=v / 1048576:=by rw [Int.tdiv_eq_ediv_of_nonneg hp1];exact Ee (by omega)
  have e2:v.tmod 1048576=v % 1048576:=Int.tmod_eq_emod_of_nonneg hp1
  by_cases h1:v / 1048576≥1
  ·by_cases h2:v / 1048576≤1099511627776
   ·refine go (o:=ff (List.range 20) true) (x:=.tuple #[.int .u64 (v / 1048576),.int .u64 (v % 1048576),.bool (decide (v % 1048576≥1))]) ⟨?_⟩ ?_
    ·rw [Jm];simp only [af,e1,e2,decide_eq_true h1,decide_eq_true h2,and_self]
    ·have:jf v=decide (v % 1048576≥1):=by
      unfold jf
      by_cases h3:v % 1048576≥1
      ·rw [decide_eq_true h3];exact decide_eq_true ⟨h1,h2,h3⟩
      ·rw [decide_eq_false h3];exact decide_eq_false fun ⟨_,_,h⟩=>h3 h
     rw [this]
   ·have:jf v=false:=decide_eq_false fun ⟨_,h,_⟩=>h2 h
    refine go (o:=ff [0,1,2] true++ff (List.range 20) false) (x:=.tuple #[.int .u64 (v / 1048576),.int .u64 (v % 1048576),.bool false]) ⟨?_⟩ (by rw [this])
    rw [Jw];simp only [af,e1,e2,decide_eq_true h1,decide_eq_false h2,and_self]
  ·have:jf v=false:=decide_eq_false fun ⟨h,_,_⟩=>h1 h
   refine go (o:=ff (List.range 20) false) (x:=.tuple #[.int .u64 (v / 1048576),.int .u64 (v % 1048576),.bool false]) ⟨?_⟩ (by rw [this])
   rw [JI];simp only [af,e1,e2,decide_eq_false h1,and_self]
 ·cases h
theorem zx:bH Tryz.prog (fun _=>True) (182,nK):=by
 refine .mk ⟨_,Tryz.func182,by kernel_rfl,by kernel_rfl⟩ fun args v p h hp w hX=>?_
 dsimp only [nK] at h
 split at h
 ·rename_i x
  split at h
  ·rename_i k a l c hx
   cases h
   obtain rfl:x=#[.int .i64 k,.slice a l c]:=by cases x;simpa using hx
   have go:∀ {o v},cp (au aQ 182 100 (ba aQ 182 [.v (.agg #[.int .i64 k,.slice a l c])]) o v)→v=.int .i64 (dA k l)→Calls Tryz.prog 182 #[.agg #[.int .i64 k,.slice a l c]] w fun e w'=>Below w.heap.size w w'∧e=.returned (.int .i64 (dA k l)):=fun h e=>
    e ▸ cD (E:=aQ) (args:=[.v (.agg #[.int .i64 k,.slice a l c])]) (a:=[.agg #[.int .i64 k,.slice a l c]]) rfl rfl kR (by kernel_rfl) (aj.cons (VR.ab.2 rfl) aj.nil) h
   by_cases k1:k=1
   ·subst k1
    by_cases hl:l≤4096
    ·exact go (o:=ff [1] true) (v:=.int .i64 0) ⟨by rw [Nr 0];simp only [af,true_and,and_true];exact decide_eq_true (by omega)⟩ (by simp [dA,hl])
    ·exact go (o:=ff [1] false) (v:=.int .i64 13) ⟨by rw [MM 0];simp only [af,true_and,and_true];exact decide_eq_false (by omega)⟩ (by simp [dA,hl])
   by_cases k0:k=0
   ·subst k0
    by_cases hl:l=0
    ·exact go (o:=ff [3] true) (v:=.int .i64 0) ⟨by rw [OZ 0];simp only [af,true_and,and_true];exact decide_eq_true (by omega)⟩ (by simp [dA,hl])
    ·exact go (o:=ff [3] false) (v:=.int .i64 2) ⟨by rw [NN 0];simp only [af,true_and,and_true];exact decide_eq_false (by omega)⟩ (by simp [dA,hl])
   by_cases k2:k=2
   ·subst k2
    by_cases hl:l=0
    ·exact go (o:=ff [3] true) (v:=.int .i64 0) ⟨by rw [NF 0];simp only [af,true_and,and_true];exact decide_eq_true (by omega)⟩ (by simp [dA,hl])
    ·exact go (o:=ff [3] false) (v:=.int .i64 2) ⟨by rw [Mj 0];simp only [af,true_and,and_true];exact decide_eq_false (by omega)⟩ (by simp [dA,hl])
   ·exact go (o:=ff (List.range 20) false) (v:=.int .i64 2) ⟨by rw [NL];simp only [af,true_and,and_true];exact ⟨⟨beq_eq_false_iff_ne.2 k1,beq_eq_false_iff_ne.2 k0⟩,beq_eq_false_iff_ne.2 k2⟩⟩ (by simp [dA,k0,k1,k2])
  ·cases h
 ·cases h
theorem DN:bH Tryz.prog (fun _=>True) (165,nK):=by
 refine .mk ⟨_,Tryz.func165,by kernel_rfl,by kernel_rfl⟩ fun args v p h hp w hX=>?_
 dsimp only [nK] at h
 split at h
 ·rename_i x
  split at h
  ·rename_i k a l c hx
   cases h
   obtain rfl:x=#[.int .i64 k,.slice a l c]:=by cases x;simpa using hx
   have go:∀ {o v},cp (au aQ 165 100 (ba aQ 165 [.v (.agg #[.int .i64 k,.slice a l c])]) o v)→v=.int .i64 (dA k l)→Calls Tryz.prog 165 #[.agg #[.int .i64 k,.slice a l c]] w fun e w'=>Below w.heap.size w w'∧e=.returned (.int .i64 (dA k l)):=fun h e=>
    e ▸ cD (E:=aQ) (args:=[.v (.agg #[.int .i64 k,.slice a l c])]) (a:=[.agg #[.int .i64 k,.slice a l c]]) rfl rfl kR (by kernel_rfl) (aj.cons (VR.ab.2 rfl) aj.nil) h
   by_cases k1:k=1
   ·subst k1
    by_cases hl:l≤4096
    ·exact go (o:=ff [16] false) (v:=.int .i64 0) ⟨by rw [Jq];simp only [af,true_and,and_true];exact decide_eq_false (by omega)⟩ (by simp [dA,hl])
    ·exact go (o:=ff [16] true) (v:=.int .i64 13) ⟨by rw [JV];simp only [af,true_and,and_true];exact decide_eq_true (by omega)⟩ (by simp [dA,hl])
   by_cases k0:k=0
   ·subst k0
    by_cases hl:l=0
    ·exact go (o:=ff [15,16] false) (v:=.int .i64 0) ⟨by rw [J6];simp only [af,true_and,and_true];exact ⟨decide_eq_false (by omega),decide_eq_false (by omega)⟩⟩ (by simp [dA,hl])
    ·exact go (o:=ff [15] true) (v:=.int .i64 2) ⟨by rw [J8];simp only [af,true_and,and_true];exact decide_eq_true (by omega)⟩ (by simp [dA,hl])
   by_cases k2:k=2
   ·subst k2
    by_cases hl:l=0
    ·exact go (o:=ff [15,16] false) (v:=.int .i64 0) ⟨by rw [Jt];simp only [af,true_and,and_true];exact ⟨decide_eq_false (by omega),decide_eq_false (by omega)⟩⟩ (by simp [dA,hl])
    ·exact go (o:=ff [15] true) (v:=.int .i64 2) ⟨by rw [LF];simp only [af,true_and,and_true];exact decide_eq_true (by omega)⟩ (by simp [dA,hl])
   by_cases kn:k<0
   ·exact go (o:=ff (List.range 20) true) (v:=.int .i64 2) ⟨by rw [L0];simp only [af,decide_eq_true kn,and_self]⟩ (by simp [dA,k0,k1,k2])
   ·have kg:k>2:=by omega
    exact go (o:=ff [0,1,2,3] false++ff (List.range 20) true) (v:=.int .i64 2) ⟨by rw [Pf];simp only [af,decide_eq_false kn,decide_eq_true kg,and_self]⟩ (by simp [dA,k0,k1,k2])
  ·cases h
 ·cases h
theorem N5 {w0:World} (h:MX w0):aE DP (az [] []) w0:=iL (X:=MX) (fun r hr=>by
 simp only [List.mem_cons,List.not_mem_nil,or_false] at hr
 rcases hr with rfl | rfl | rfl
 ·exact EM
 ·exact ⟨FH.1,fun args v p e hp w _=>FH.2 args v p e hp w trivial⟩
 ·exact ⟨zx.1,fun args v p e hp w _=>zx.2 args v p e hp w trivial⟩) fun ν s w hr _=>h.cr fun k hk=>hr.frame k hk (a6 k)
theorem Mv {M:Own} {w0:World}:aE mQ M w0:=kq fun r hr=>by
 simp only [List.mem_cons,List.not_mem_nil,or_false] at hr
 rcases hr with rfl | rfl | rfl
 ·exact DB
 ·exact Ad
 ·exact DN
theorem zq:bH Tryz.prog MX (159,nD):=by
 refine .mk ⟨_,Tryz.func159,by kernel_rfl,by kernel_rfl⟩ fun args v q h hp w hX=>?_
 dsimp only [nD] at h
 split at h
 ·rename_i y
  split at h
  ·rename_i p x k a l c hy
   cases h
   obtain rfl:y=#[.string p,.int .u64 x,.int .i64 k,.slice a l c]:=by cases y;simpa using hy
   have go:∀ {o v},cp (au DP 159 300 (ba DP 159 [.v (.agg #[.string p,.int .u64 x,.int .i64 k,.slice a l c])]) o v)→v=.int .i64 (bw p x k l)→Calls Tryz.prog 159 #[.agg #[.string p,.int .u64 x,.int .i64 k,.slice a l c]] w fun e w'=>Below w.heap.size w w'∧e=.returned (.int .i64 (bw p x k l)):=fun h e=>
    e ▸ cD (E:=DP) (args:=[.v (.agg #[.string p,.int .u64 x,.int .i64 k,.slice a l c])]) (a:=[.agg #[.string p,.int .u64 x,.int .i64 k,.slice a l c]]) rfl rfl (N5 hX) (by kernel_rfl) (aj.cons (VR.ab.2 rfl) aj.nil) h
   obtain ⟨h1,h2⟩:=hp
   have h1':p.size.le 1000000000:=h1
   cases hu:ee p
   ·exact go (o:=ff [1] true) (v:=.int .i64 23) ⟨by rw [NT];simp only [af,hu,h1',Bool.not_false,and_self]⟩ (by simp [bw,hu])
   ·cases hv:jf x
    ·exact go (o:=ff [1] false++ff [3] true) (v:=.int .i64 2) ⟨by rw [L5];simp only [af,hu,hv,h1',h2,Bool.not_false,Bool.not_true,and_self]⟩ (by simp [bw,hu,hv])
    ·exact go (o:=ff [1] false++ff [3] false) (v:=.int .i64 (dA k l)) ⟨by rw [Od];simp only [af,hu,hv,h1',h2,Bool.not_true,and_self]⟩ (by simp [bw,hu,hv])
  ·cases h
 ·cases h
theorem uY:bH Tryz.prog (fun _=>True) (133,nD):=by
 refine .mk ⟨_,Tryz.func133,by kernel_rfl,by kernel_rfl⟩ fun args v q h hp w hX=>?_
 dsimp only [nD] at h
 split at h
 ·rename_i y
  split at h
  ·rename_i p x k a l c hy
   cases h
   obtain rfl:y=#[.string p,.int .u64 x,.int .i64 k,.slice a l c]:=by cases y;simpa using hy
   have go:∀ {o v},cp (au mQ 133 300 (ba mQ 133 [.v (.agg #[.string p,.int .u64 x,.int .i64 k,.slice a l c])]) o v)→v=.int .i64 (bw p x k l)→Calls Tryz.prog 133 #[.agg #[.string p,.int .u64 x,.int .i64 k,.slice a l c]] w fun e w'=>Below w.heap.size w w'∧e=.returned (.int .i64 (bw p x k l)):=fun h e=>
    e ▸ cD (E:=mQ) (args:=[.v (.agg #[.string p,.int .u64 x,.int .i64 k,.slice a l c])]) (a:=[.agg #[.string p,.int .u64 x,.int .i64 k,.slice a l c]]) rfl rfl Mv (by kernel_rfl) (aj.cons (VR.ab.2 rfl) aj.nil) h
   obtain ⟨h1,h2⟩:=hp
   have h1':p.size.le 1000000000:=h1
   cases hu:ee p
   ·exact go (o:=ff [1] true) (v:=.int .i64 23) ⟨by rw [NI];simp only [af,hu,h1',Bool.not_false,and_self]⟩ (by simp [bw,hu])
   ·cases hv:jf x
    ·exact go (o:=ff [1] false++ff [3] true) (v:=.int .i64 2) ⟨by rw [OO];simp only [af,hu,hv,h1',h2,Bool.not_false,Bool.not_true,and_self]⟩ (by simp [bw,hu,hv])
    ·exact go (o:=ff [1] false++ff [3] false) (v:=.int .i64 (dA k l)) ⟨by rw [Mz];simp only [af,hu,hv,h1',h2,Bool.not_true,and_self]⟩ (by simp [bw,hu,hv])
  ·cases h
 ·cases h
structure aD where
 p:ByteArray
 v:Int
 k:Int
 a:Option Addr
 l:Nat
 c:Nat
def eC (e:aD):List SV:=[.v (.string e.p),.v (.int .u64 e.v),.v (.int .i64 e.k),.v (.slice e.a e.l e.c)]
def eV (e:aD):List Value:=[.string e.p,.int .u64 e.v,.int .i64 e.k,.slice e.a e.l e.c]
def Ic:TypeId:=117
def kJ (l:List SV):Option (SO × Bool):=some (.row l 117 (0,0) (some 4),true)
def eN (l:List SV):Option (SO × Bool):=some (.look l,false)
def Av:SV:=.v (.slice none 0 0)
def cE (l:List aD):List SV:=l.flatMap eC
def vE (l:List aD):List Value:=l.flatMap eV
theorem Cl (e:aD):(eC e).length=4:=rfl
theorem j7 (e:aD):(eC e).all ae=true:=rfl
theorem CG (a b:List aD):cE (a++b)=cE a++cE b:=by simp [cE]
theorem wZ (e:aD):cE [e]=eC e:=by simp [cE]
theorem uG:∀ a:List aD,(cE a).length=a.length*4
 | []=>rfl
 | e::a=>by
  have:=uG a
  show (eC e++cE a).length=_
  rw [List.length_append,this,Cl,List.length_cons];omega
theorem dI (a:List aD):(cE a).all ae=true:=by
 rw [List.all_eq_true];intro x hx
 obtain ⟨r,_,hx⟩:=List.mem_flatMap.1 hx
 exact List.all_eq_true.1 (j7 r) x hx
theorem EW (a:List aD):(cE a).all SV.flat=true:=by
 rw [List.all_eq_true];intro x hx
 obtain ⟨r,_,hx⟩:=List.mem_flatMap.1 hx
 exact List.all_eq_true.1 (show (eC r).all SV.flat=true from rfl) x hx
theorem ub:∀ l:List aD,(vE l).map SV.v=cE l
 | []=>rfl
 | r::l=>by
  show (eV r++vE l).map SV.v=eC r++cE l
  rw [List.map_append,ub l];rfl
theorem bT {ν:aA}:∀ {a:List Value} {u v:List Value},aj ν (a.map SV.v) u→aj ν (a.map SV.v) v→u=v
 | [],u,v,hu,hv=>by rw [aj.aq hu,aj.aq hv]
 | z::a,u,v,hu,hv=>by
  obtain ⟨p,ps,rfl,q1,q2⟩:=aj.cons_inv (x:=.v z) (xs:=a.map SV.v) hu
  obtain ⟨p',ps',rfl,q3,q4⟩:=aj.cons_inv (x:=.v z) (xs:=a.map SV.v) hv
  rw [VR.ab.1 q1,VR.ab.1 q3,bT q2 q4]
theorem DG {ν:aA} {l:List aD} {zs:List Value} (h:aj ν (cE l) zs):zs=vE l:=by
 rw [← ub] at h
 exact bT h (aj.lits ν (vE l))
theorem Di {xs:List aD} {k:Nat} {x:aD} (h:xs[k]?=some x):List.take 4 (List.drop (0+k*4) (cE xs))=eC x:=by
 rw [Nat.zero_add];exact lg Cl h
theorem BU {xs:List aD} {k:Nat} {x:aD} (h:xs[k]?=some x):(cE xs)[0+k*4+0]?=some (.v (.string x.p)):=by
 have h2:(List.take 4 (List.drop (0+k*4) (cE xs)))[0]?=(eC x)[0]?:=by rw [Di h]
 rw [List.getElem?_take,if_pos (by decide),List.getElem?_drop] at h2
 exact h2
def KS (l:List SV):aD:=match l with
 | [.v (.string p),.v (.int _ v),.v (.int _ k),.v (.slice a l c)]=>⟨p,v,k,a,l,c⟩
 | _=>⟨⟨#[]⟩,0,0,none,0,0⟩
def JJ (ys:List SV) (n:Nat):List aD:=IK KS 4 n ys
structure Ku (ys:List SV) (n:Nat) (l:List aD):Prop where
 cells:ys=cE l
 len:n=l.length
 dF:n≤1000
def Fy (p:ByteArray) (e:aD):Bool:=e.p.data.toList==p.data.toList
def HW (p:ByteArray) (l:List aD):aD:=(l.find? (Fy p)).getD ⟨p,0,0,none,0,0⟩
def vc (p:ByteArray) (l:List aD):List aD:=l.filter fun e=>!Fy p e
theorem sB {ν:aA} {i:Nat} {ys:List SV} {e:TypeId} {fz:Nat × Nat} {x:Option Nat} {ob:Obj} (h:OR ν i (.row ys e fz x) ob):OR ν i (.look ys) ob:=by
 obtain ⟨zs,rest,rfl,hz,_⟩:=h
 exact ⟨zs,_,_,_,rfl,hz,fun k y hk=>by simpa using getElem?_append_left' hk⟩
theorem IE {b:Nat × Nat} {i:Nat} {x:Nat × Nat} (h:ax [b] i=some x):i=0:=by
 match i with
 | 0=>rfl
 | i+1=>simp [ax] at h
section
variable {w0:World} {cs0:List Frame} {R:Ending→World→Prop} {xs:List aD} {p:ByteArray} {b:Nat × Nat} {c:Nat}
end
section
variable {w0:World} {cs0:List Frame} {xs:List aD} {p:ByteArray} {b:Nat × Nat} {c:Nat}
end
def Gy (x:aD):List aD→List aD
 | []=>[x]
 | e::l=>if bF e.p x.p>0 then x::e::l else e::Gy x l
section
variable {w0:World} {cs0:List Frame} {xs:List aD} {x:aD} {b:Nat × Nat} {c:Nat}
end
abbrev bK:=aD × Nat
def mC (e:bK):SV × SV × Nat:=(.v (.string e.1.p),.agg [.v (.string e.1.p),.v (.int .u64 e.1.v),.v (.int .i64 e.1.k),.v (.slice e.1.a e.1.l e.1.c)],e.2)
def vl (e:bK):SV:=.agg [.v (.string e.1.p),.v (.int .u64 e.1.v),.v (.int .i64 e.1.k),.v (.slice e.1.a e.1.l e.1.c)]
noncomputable def HN:Env:=EP [(102,lH)] []
def Fz (s:Int):Option (SO × Bool):=some (.row [.v (.int .u64 s),.map 1] 122 (0,0) none,false)
def Ih (es:List (SV × SV × Nat)) (cl:Nat):Option (SO × Bool):=some (.map es cl,false)
noncomputable def IC (s:Int) (es:List (SV × SV × Nat)) (cl:Nat):SM:=(aS HN 161 [.ptr 0 0] (bc 6 2 0 [Fz s,Ih es cl])).getD dx
noncomputable def Hi:List SI:=dC HN 2 60 (IC 0 [] 0) [(1000,.b true)]
noncomputable def I4 (best:ByteArray):SF:={ fn:=161,tm:=gw 57 6 ([.ptr 0 0,.aM,.aM,.aM,.v (.string best),.aM,.aM,.aM,.aM,.aM,.aM,.ptr 2 0]++List.replicate 45 .aM),todo:=Hi,defers:=[],ret:=false,kind:=.normal,ro:=none }
def Gf (s:Int) (es:List (SV × SV × Nat)) (cl:Nat) (seen:List Nat):List (Option (SO × Bool)):=[Fz s,Ih es cl,some (.miter (some 1) cl seen cl,true)]
noncomputable def I2 (s:Int) (es:List (SV × SV × Nat)) (cl:Nat) (seen:List Nat) (best:ByteArray):SM:=(rQ HN (Gx HN) 30 ((SM.at (I4 best) 6 (Gf s es cl seen)).with [(1000,.b true)])).getD dx
noncomputable def Lt (s:Int) (es:List (SV × SV × Nat)) (cl:Nat) (seen:List Nat) (best:ByteArray) (e:SV × SV × Nat):SM:=(Ir HN (I2 s es cl seen best) e).getD dx
theorem sd (s:Int) (es:List (SV × SV × Nat)) (cl:Nat) (seen:List Nat) (best best':ByteArray) (e f:bK) (j:Nat):reach HN 2 300 (Lt s es cl seen best (mC e)) ([(0,.b true),(1,.ent (.v (.string e.1.p)) (vl e))]++ff [2,3,4] true++ff [5,6,7,8,9,10] false++[(11,.hit j (vl f) f.2)]++ff [12,13] false++ff [14] true++ff [15] false++ff [16] true++ff [17,18,19,20,21,22] false++[(23,.hit j (vl f) f.2)]++ff [24,25,26,27,28] false++ff [34,37] false++ff (List.range 60) true) [(0,0),(1,1),(2,2)] [1] (I4 best') 6 (Gf s es cl (seen++[e.2]))=[0=0,Value.string e.fst.1=Value.string best',0=0,Value.int IntKind.u64 s=Value.int IntKind.u64 s,cl=cl,es=es,(es.all fun e=>bo e.fst&&bo e.snd.fst)=true,(match false with | true=>some 0 | false=>List.lookup 1 [(1,1),(2,2)])=some 1,cl=cl,seen++[(mC e).snd.2]=seen++[e.2],cl=cl,decide (bF e.fst.1 best<0)=true,(e.fst.3==0)=true,decide (f.fst.2>e.fst.2)=false,(e.fst.3==0)=true,(f.fst.2==e.fst.2)=true,decide (f.fst.2>e.fst.2)=false,(f.fst.2==e.fst.2)=true,e.fst.1.size≤1000000000∧best.size≤1000000000,(f.fst.2==e.fst.2)=true,(f.fst.2==e.fst.2)=true,(f.fst.2==e.fst.2)=true,decide (f.fst.2>e.fst.2)=false,decide (f.fst.2>e.fst.2)=false,decide (f.fst.2>e.fst.2)=false,decide (f.fst.2>e.fst.2)=false,decide (f.fst.2>e.fst.2)=false,(∀ (e:SV × SV × Nat),e∈List.take j es→cQ best e.fst)∧es[j]?=some (SV.v (Value.string best),SV.agg [SV.v (Value.string f.fst.1),SV.v (Value.int IntKind.u64 f.fst.2),SV.v (vZ f.fst.3),SV.v (Value.slice f.fst.4 f.fst.5 f.fst.6)],f.2),decide (f.fst.2>e.fst.2)=false,decide (f.fst.2>e.fst.2)=false,decide (f.fst.2>e.fst.2)=false,decide (f.fst.2>e.fst.2)=false,decide (f.fst.2>e.fst.2)=false,decide (f.fst.2>e.fst.2)=false,(e.fst.3==0)=true,(best.toList==(⟨⟨[]⟩⟩:ByteArray).toList)=false,(e.fst.3==0)=true,(best.toList==(⟨⟨[]⟩⟩:ByteArray).toList)=false,(best.toList==(⟨⟨[]⟩⟩:ByteArray).toList)=false,(∀ (e:SV × SV × Nat),e∈List.take j es→cQ best e.fst)∧es[j]?=some (SV.v (Value.string best),SV.agg [SV.v (Value.string f.fst.1),SV.v (Value.int IntKind.u64 f.fst.2),SV.v (vZ f.fst.3),SV.v (Value.slice f.fst.4 f.fst.5 f.fst.6)],f.2),(best.toList==(⟨⟨[]⟩⟩:ByteArray).toList)=false,(best.toList==(⟨⟨[]⟩⟩:ByteArray).toList)=false,(best.toList==(⟨⟨[]⟩⟩:ByteArray).toList)=false,(best.toList==(⟨⟨[]⟩⟩:ByteArray).toList)=false,(best.toList==(⟨⟨[]⟩⟩:ByteArray).toList)=false,(best.toList==(⟨⟨[]⟩⟩:ByteArray).toList)=false,(e.fst.3==0)=true,(e.fst.3==0)=true,(e.fst.3==0)=true,∃ stamp b,(seen++[(mC e).snd.snd]).getLast?=some stamp∧cl=cl∧List.find? (fun e=>e.snd.snd.beq stamp) es=some (SV.v (Value.string e.fst.p),vl e,b),true=true]:=by kernel_rfl
theorem wK:∀ x y:List UInt8,de y x=- de x y
 | [],[]=>rfl
 | [],_::_=>rfl
 | _::_,[]=>rfl
 | a::l,b::m=>by
  unfold de
  by_cases h1:a<b
  ·rw [if_pos h1,if_neg (G8 h1),if_pos h1];rfl
  ·by_cases h2:b<a
   ·rw [if_pos h2,if_neg h1,if_pos h2]
   ·rw [if_neg h1,if_neg h2,if_neg h2,if_neg h1];exact wK l m
theorem qx:∀ {x y z:List UInt8},de x y<0→de y z≤0→de x z<0
 | [],[],_,h,_=>by simp [de] at h
 | [],_::_,[],_,k=>by simp [de] at k
 | [],_::_,_::_,_,_=>by simp [de]
 | _::_,[],_,h,_=>by simp [de] at h
 | _::_,_::_,[],_,k=>by simp [de] at k
 | a::l,b::m,c::n,h,k=>by
  unfold de at h k ⊢
  by_cases h1:a<b
  ·by_cases k1:b<c
   ·have:a<c:=by rw [UInt8.lt_iff_toNat_lt] at *;omega
    rw [if_pos this];decide
   ·by_cases k2:c<b
    ·rw [if_neg k1,if_pos k2] at k;exact absurd k (by decide)
    ·obtain rfl:=tP k1 k2
     rw [if_pos h1];decide
  ·by_cases h2:b<a
   ·rw [if_neg h1,if_pos h2] at h;exact absurd h (by decide)
   ·obtain rfl:=tP h1 h2
    rw [if_neg h1,if_neg h2] at h
    by_cases k1:a<c
    ·rw [if_pos k1];decide
    ·by_cases k2:c<a
     ·rw [if_neg k1,if_pos k2] at k;exact absurd k (by decide)
     ·rw [if_neg k1,if_neg k2] at k ⊢
      exact qx h k
theorem yZ:∀ x y:List (List UInt8),mF y x=- mF x y
 | [],[]=>rfl
 | [],_::_=>rfl
 | _::_,[]=>rfl
 | a::l,b::m=>by
  unfold mF
  rw [wK a b]
  by_cases h:de a b=0
  ·rw [if_pos h,if_pos (by omega)];exact yZ l m
  ·rw [if_neg h,if_neg (by omega)]
theorem Ci:∀ {x y:List (List UInt8)},mF x y=0→x=y
 | [],[],_=>rfl
 | [],_::_,h=>by simp [mF] at h
 | _::_,[],h=>by simp [mF] at h
 | a::l,b::m,h=>by
  unfold mF at h
  by_cases h1:de a b=0
  ·rw [if_pos h1] at h;rw [lL h1,Ci h]
  ·rw [if_neg h1] at h;exact absurd h h1
theorem sG:∀ {x y z:List (List UInt8)},mF x y<0→mF y z<0→mF x z<0
 | [],[],_,h,_=>by simp [mF] at h
 | [],_::_,[],_,k=>by simp [mF] at k
 | [],_::_,_::_,_,_=>by simp [mF]
 | _::_,[],_,h,_=>by simp [mF] at h
 | _::_,_::_,[],_,k=>by simp [mF] at k
 | a::l,b::m,c::n,h,k=>by
  unfold mF at h k ⊢
  by_cases h1:de a b=0
  ·rw [if_pos h1] at h
   obtain rfl:=lL h1
   by_cases k1:de a c=0
   ·rw [if_pos k1] at k ⊢;exact sG h k
   ·rw [if_neg k1] at k ⊢;exact k
  ·rw [if_neg h1] at h
   by_cases k1:de b c=0
   ·obtain rfl:=lL k1
    rw [if_neg h1];exact h
   ·rw [if_neg k1] at k
    have:=qx h (Int.le_of_lt k)
    rw [if_neg (by omega)];exact this
theorem oZ (a b:ByteArray):bF a b=mF (aF a.data.toList) (aF b.data.toList):=(tE (a.size+1) a b (by omega)).symm
theorem gm (a b:ByteArray):bF b a=- bF a b:=by rw [oZ,oZ,yZ]
theorem fo {a b c:ByteArray} (h:bF a b<0) (k:bF b c<0):bF a c<0:=by
 rw [oZ] at *;exact sG h k
def IG (f e:bK):Prop:=e.1.v>f.1.v∨(e.1.v=f.1.v∧bF f.1.p e.1.p<0)
structure dh (E:List bK) (cl:Nat):Prop where
 names:(E.map fun e=>e.1.p).Nodup
 borns:(E.map fun e=>e.2).Nodup
 born:∀ e∈E,e.2<cl
 full:∀ e∈E,e.1.p≠⟨#[]⟩
 size:∀ e∈E,e.1.p.size≤1000000000
theorem zR {α β:Type} {f:α→β} {l:List α} (h:(l.map f).Nodup) {i j:Nat} {a b:α} (ha:l[i]?=some a) (hb:l[j]?=some b) (e:f a=f b):i=j:=by
 obtain ⟨hi,rfl⟩:=List.getElem?_eq_some_iff.1 ha
 obtain ⟨hj,rfl⟩:=List.getElem?_eq_some_iff.1 hb
 refine (List.getElem_inj (h₀:=by simpa using hi) (h₁:=by simpa using hj) h).1 ?_
 simpa using e
theorem GV {E:List bK} (hn:(E.map fun e=>e.1.p).Nodup) {f:bK} (hf:f∈E):∃ j,Fq (E.map mC) f.1.p j (vl f) f.2:=by
 obtain ⟨j,hj⟩:=List.getElem?_of_mem hf
 refine ⟨j,fun e he=>?_,by rw [List.getElem?_map,hj];rfl⟩
 rw [← List.map_take] at he
 obtain ⟨y,hy,rfl⟩:=List.mem_map.1 he
 refine ⟨y.1.p,rfl,?_⟩
 rw [Bool.eq_false_iff];intro h
 obtain ⟨i,hi⟩:=List.getElem?_of_mem hy
 have hlt:i<j:=by
  have:=(List.getElem?_eq_some_iff.1 hi).1
  rw [List.length_take] at this;omega
 rw [List.getElem?_take,if_pos hlt] at hi
 have hpe:f.1.p=y.1.p:=by
  have:(f.1.p.data==y.1.p.data)=true:=h
  have:=eq_of_beq this
  cases hfp:f.1.p;cases hyp:y.1.p;rw [hfp,hyp] at this;cases this;rfl
 have:=zR hn hi hj hpe.symm
 omega
theorem lG (E:List bK):((E.map mC).all fun e=>bo e.1&&bo e.2.1)=true:=by
 rw [List.all_eq_true];intro x hx
 obtain ⟨y,_,rfl⟩:=List.mem_map.1 hx
 rfl
def Ec (E:List bK) (best:ByteArray):Prop:=
 (best=⟨#[]⟩∧∀ x∈E,x.1.k≠0)∨(∃ x∈E,x.1.p=best∧x.1.k=0∧∀ y∈E,y.1.k=0→¬ IG y x)
section
variable {w0:World} {cs0:List Frame} {R:Ending→World→Prop} {E:List bK} {s:Int} {cl:Nat} {M:Own}
end
theorem lr:∀ {l m:List UInt8},aF l=aF m→l=m
 | [],[],_=>rfl
 | [],b::m,h=>by
  exfalso
  unfold aF at h
  split at h
  ·have:=dE m
   cases hp:aF m with
   | nil=>exact this hp
   | cons x xs=>rw [hp] at h;simp at h
  ·split at h <;> simp at h
 | b::l,[],h=>by
  exfalso
  unfold aF at h
  split at h
  ·have:=dE l
   cases hp:aF l with
   | nil=>exact this hp
   | cons x xs=>rw [hp] at h;simp at h
  ·split at h <;> simp at h
 | b::l,c::m,h=>by
  have nl:=dE l
  have nm:=dE m
  unfold aF at h
  by_cases hb:b=47
  ·by_cases hc:c=47
   ·rw [if_pos hb,if_pos hc] at h
    rw [hb,hc,lr (List.cons.inj h).2]
   ·rw [if_pos hb,if_neg hc] at h
    cases hp:aF m with
    | nil=>exact absurd hp nm
    | cons x xs=>rw [hp] at h;simp at h
  ·by_cases hc:c=47
   ·rw [if_neg hb,if_pos hc] at h
    cases hp:aF l with
    | nil=>exact absurd hp nl
    | cons x xs=>rw [hp] at h;simp at h
   ·rw [if_neg hb,if_neg hc] at h
    cases hp:aF l with
    | nil=>exact absurd hp nl
    | cons x xs=>
     cases hq:aF m with
     | nil=>exact absurd hq nm
     | cons y ys=>
      rw [hp,hq] at h
      simp only [List.cons.injEq] at h
      obtain ⟨⟨h1,h2⟩,h3⟩:=h
      rw [h1,lr (l:=l) (m:=m) (by rw [hp,hq,h2,h3])]
theorem j0 {a b:ByteArray} (h:bF a b=0):a=b:=by
 rw [oZ] at h
 have:=lr (Ci h)
 cases a;cases b;congr 1;exact Array.toList_inj.1 this
theorem GC {x y:bK} (h:mC x=mC y):x=y:=by
 obtain ⟨⟨p,v,k,a,l,c⟩,n⟩:=x
 obtain ⟨⟨p',v',k',a',l',c'⟩,n'⟩:=y
 simp only [mC,Prod.mk.injEq,SV.v.injEq,Value.string.injEq,SV.agg.injEq,List.cons.injEq,Value.int.injEq,Value.slice.injEq,true_and,and_true] at h
 obtain ⟨h1,⟨_,h2,h3,h4,h5,h6⟩,h7⟩:=h
 subst h1 h2 h3 h4 h5 h6 h7
 rfl
noncomputable def LO (es:List (SV × SV × Nat)):ByteArray:=@Classical.epsilon _ ⟨⟨#[]⟩⟩ fun best=>∃ E,es=E.map mC∧Ec E best
def KZ (es:List (SV × SV × Nat)) (cl:Nat):Prop:=∃ E:List bK,es=E.map mC∧dh E cl
def H9 (acc:Option aD) (e:aD):Option aD:=if e.k=0 then (match acc with | none=>some e | some f=>if e.v<f.v then some e else some f) else acc
def IM (l:List aD):Option aD:=l.foldl H9 none
def JW (xs:List aD) (x:aD):List aD × Int:=
 if bw x.p x.v x.k x.l≠0 then (xs,bw x.p x.v x.k x.l)
 else if (HW x.p xs).v≥x.v then (xs,31)
 else if (vc x.p xs).length≥256 then (match IM (vc x.p xs) with
  | none=>(xs,24)
  | some b=>(Gy x (vc b.p (vc x.p xs)),0))
 else (Gy x (vc x.p xs),0)
section
variable {w0:World} {cs0:List Frame} {xs m:List aD} {x:aD} {b:Nat × Nat} {s:Int}
end
structure LP (xs:List aD) (x:aD):Prop where
 p:x.p.size≤1000000000
 v:0≤x.v∧x.v<18446744073709551616
 names:(xs.map fun e=>e.p).Nodup
 size:∀ e∈xs,e.p.size≤1000000000
theorem zy {p:ByteArray} {e:aD}:Fy p e=true↔e.p=p:=by
 unfold Fy
 rw [beq_iff_eq]
 constructor
 ·intro h;cases h1:e.p;cases p;rw [h1] at h;congr 1;exact Array.toList_inj.1 h
 ·intro h;rw [h]
theorem FQ {E:Env} {M:Own} {w0:World} {cs0:List Frame} {f:FuncId} {R:Ending→World→Prop} {ν:aA} {n:Nat} {S:SM} {o:List (Nat × c9)} {v:Value} (K:aE E M w0) (hM:∀ z,¬ M z)
  (h:cp (qm E f n S o [] (.v v))) (hR:∀ w',Below w0.heap.size w0 w'→R (.returned v) w'):ao E M w0 cs0 f R ν S:=
 ao.qm K hM h.out fun ν' w' y hle hv hB=>by rw [VR.ab.1 hv];exact hR w' hB
def xk:Go.Shelf.Ren:=⟨fun | 4=>117 | n=>n,fun | 22=>22 | 4=>4 | 5=>5 | n=>n,fun | n=>n⟩
theorem uk:Go.Proofs.SlLaysK.n4 Tryz.prog xk where
 mixed:=by kernel_rfl
 f4:=Tryz.func117.trans (congrArg some (by kernel_rfl))
 t4:=Tryz.underlying4
 a4:=Tryz.isAgg4
 z4:=Tryz.sizeOf4
 v4:=Tryz.zeroValue4
 t22:=Tryz.underlying22
 a22:=Tryz.isAgg22
 z22:=Tryz.sizeOf22
 v22:=Tryz.zeroValue22
 t5:=Tryz.underlying5
 i5:=by kernel_rfl

def Gt (a0:Option Addr) (l0 c0:Nat) (ys:List Int):Jn:=fun args _=>match args with
 | [.v (.slice a l c)]=>some (ys.map (Value.int .u8),l,1,5,none,(a=a0∧l=l0∧c=c0)∧a≠none)
 | _=>none
def GG:Jd:=fun args _=>match args with
 | [.v (.slice a l c)]=>some (.slice none 0 0,a=none)
 | _=>none
def GF (a0:Option Addr) (l0 c0:Nat) (ys:List Int):List (FuncId × Sum):=[(117,sr (nM (Gt a0 l0 c0 ys)) (jA GG))]
noncomputable def mV (a0:Option Addr) (l0 c0:Nat) (ys:List Int):Env:={ EP [] [] with sums:=fun f=>(GF a0 l0 c0 ys).lookup f }
noncomputable def xT (x:aD) (ys:List Int):SM:=(aS (mV x.a x.l x.c ys) 104 [.v (.agg #[.string x.p,.int .u64 x.v,.int .i64 x.k,.slice x.a x.l x.c])] (bc 6 0 0 [])).getD dx
theorem OG (x:aD) (ys:List Int):qm (mV x.a x.l x.c ys) 104 300 (xT x ys) ([(1000,.b true)]++ff (List.range 10) false) [] (.v (.agg #[.string x.p,.int .u64 x.v,.int .i64 x.k,.slice none 0 0]))=[Value.agg { toList:=[Value.string x.1,Value.int IntKind.u64 x.2,vZ x.3,Value.slice none 0 0]:Array Value }=Value.agg { toList:=[Value.string x.1,Value.int IntKind.u64 x.2,vZ x.3,Value.slice none 0 0]:Array Value },(x.3==x.3)=true,x.4=none]:=by kernel_rfl
theorem Nf (x:aD) (ys:List Int) (m:List SV):im (mV x.a x.l x.c ys) 104 300 (xT x ys) ([(1000,.b true)]++ff (List.range 10) true) (.agg [.v (.string x.p),.v (.int .u64 x.v),.v (.int .i64 x.k),.sl 4 0 x.l none]) 4 (.row m 5 (0,0) (some 1))=[Value.string x.1=Value.string x.1,Value.int IntKind.u64 x.2=Value.int IntKind.u64 x.2,vZ x.3=vZ x.3,0=0∧x.5=x.5∧nZ=none,List.map SV.v (List.map (Value.int IntKind.u8) ys)=m,m.all ae=true,(x.3==x.3)=true,(x.4=x.4∧x.5=x.5∧x.6=x.6)∧x.4≠none]:=by kernel_rfl
def fW (W:World) (a:Option Addr) (l:Nat) (ys:List Int):Prop:=ys.length=l∧l≤140737488355328∧∀ b,a=some b→∀ i,i<l→∀ W':World,(∀ k,k<W.heap.size→W'.heap[k]?=W.heap[k]?)→W'.cell? (b.add i)=some (.int .u8 (ys.getD i 0))
theorem Az {W:World} {a0:Option Addr} {l0 c0:Nat} {ys:List Int} (hD:fW W a0 l0 ys):
  cF Tryz.prog (fun w=>∀ k,k<W.heap.size→w.heap[k]?=W.heap[k]?) (117,sr (nM (Gt a0 l0 c0 ys)) (jA GG)):=by
 refine cF.br (sX ⟨_,Tryz.func117,by kernel_rfl,by kernel_rfl⟩ fun args sh zs n C elem ex p h hp ν M w0 w a hr hX ha=>?_) (mT ⟨_,Tryz.func117,by kernel_rfl,by kernel_rfl⟩ fun args sh v p h hp ν M w0 w a hr hX ha=>?_)
 ·dsimp only [Gt] at h
  split at h
  ·rename_i a1 l1 c1
   cases h
   obtain ⟨⟨rfl,rfl,rfl⟩,hne⟩:=hp
   obtain ⟨y1,as1,rfl,q1,ha2⟩:=ha.cons_inv
   obtain rfl:=ha2.aq
   obtain rfl:=VR.ab.1 q1
   cases a1 with
   | none=>exact absurd rfl hne
   | some b=>
    obtain ⟨h1,h2,h3⟩:=hD
    refine (Any.bytes_Clone_at uk b n c1 ys w h1 h2 fun i hi=>h3 b rfl i hi w hX).mono fun e w' ⟨v',he,⟨hlen,ho⟩,hv,hB⟩=>⟨hB,v',he,?_⟩
    rcases ho with ⟨h0,_⟩ | ⟨g,cap,cur,rfl,hg,hh,hnc,_,hsz,hcur⟩
    ·exact absurd h0 hv
    ·refine ⟨g,cap,cur.toList.drop n,rfl,hg,hnc,?_,?_⟩
     ·rw [hh,← hcur,Nat.mul_one,List.take_append_drop];rfl
     ·rw [← hcur,Nat.mul_one,List.take_append_drop];simpa using hsz
  ·cases h
 ·dsimp only [GG] at h
  split at h
  ·rename_i a1 l1 c1
   cases h
   subst hp
   obtain ⟨y1,as1,rfl,q1,ha2⟩:=ha.cons_inv
   obtain rfl:=ha2.aq
   obtain rfl:=VR.ab.1 q1
   exact (Any.bytes_Clone_nil uk l1 c1 w).mono fun e w' ⟨he,hw⟩=>⟨by rw [hw];exact Below.refl _ _,he⟩
  ·cases h
theorem Cq {M:Own} {w0:World} (hM:∀ z,¬ M z) {x:aD} {ys:List Int} (hD:fW w0 x.a x.l ys):aE (mV x.a x.l x.c ys) M w0:=
 aE.AR (Checked.mixed Tryz.checked) (by kernel_rfl) (eR.of ji rfl dL) (cV.list (X:=fun w=>∀ k,k<w0.heap.size→w.heap[k]?=w0.heap[k]?) (l:=GF x.a x.l x.c ys) rfl (fun r h=>by
  simp only [GF,List.mem_cons,List.not_mem_nil,or_false] at h
  rcases h with rfl
  exact Az hD) fun ν s w hr _=>fun k hk=>hr.frame k hk (hM k)) (fun f g h=>by cases h)
theorem qt {ν:aA} {ys:List Int} {zs:List Value} (h:aj ν (List.map SV.v (List.map (Value.int .u8) ys)) zs):zs=ys.map (Value.int .u8):=bT h (aj.lits ν _)
theorem gj (ys:List Int):(List.map SV.v (List.map (Value.int .u8) ys)).all ae=true:=by
 rw [List.all_eq_true];intro x hx
 obtain ⟨v,_,rfl⟩:=List.mem_map.1 hx
 rfl
def E8 (w0 w':World) (x:aD) (ys:List Int) (a:Option Addr) (c:Nat) (l:Nat):Prop:=
 (x.a=none∧a=none∧l=0∧c=0)∨(x.a≠none∧l=x.l∧∃ b,a=some ⟨b,0,none⟩∧eZ w0 w' (.slice (some ⟨b,0,none⟩) x.l c) (ys.map (Value.int .u8)) x.l 1 5)
theorem ou {w:World} {x:aD} {ys:List Int} (hD:fW w x.a x.l ys):Calls Tryz.prog 104 #[.agg (eV x).toArray] w fun e w'=>Below w.heap.size w w'∧∃ a c l,e=.returned (.agg #[.string x.p,.int .u64 x.v,.int .i64 x.k,.slice a l c])∧E8 w w' x ys a c l:=by
 refine bV (E:=mV x.a x.l x.c ys) rfl rfl (args:=[.v (.agg #[.string x.p,.int .u64 x.v,.int .i64 x.k,.slice x.a x.l x.c])]) (a:=[.agg (eV x).toArray]) (S0:=xT x ys) (by kernel_rfl) (aj.cons (VR.ab.2 rfl) aj.nil) fun cs0=>?_
 by_cases ha:x.a=none
 ·refine FQ (v:=.agg #[.string x.p,.int .u64 x.v,.int .i64 x.k,.slice none 0 0]) (Cq a6 hD) a6 (n:=300) (o:=([(1000,.b true)]++ff (List.range 10) false)) ⟨?_⟩ fun w' hB=>⟨hB,none,0,0,rfl,.inl ⟨ha,rfl,rfl,rfl⟩⟩
  rw [OG]
  simp only [af,and_self,and_true,true_and]
  exact ⟨ha,beq_self_eq_true x.k⟩
 ·refine ao.im (Cq a6 hD) (n:=300) (o:=([(1000,.b true)]++ff (List.range 10) true)) (x:=.agg [.v (.string x.p),.v (.int .u64 x.v),.v (.int .i64 x.k),.sl 4 0 x.l none]) (i:=4) (so:=.row (List.map SV.v (List.map (Value.int .u8) ys)) 5 (0,0) (some 1)) (by
   rw [Nf]
   simp only [af,gj,and_self,and_true,true_and]
   exact ⟨ha,beq_self_eq_true x.k⟩) fun ν' w' y b ob hv hb ho hor hw hB=>?_
  have hn:w.heap.size≤b.1:=by
   rcases hw with h | h
   ·exact h
   ·exact absurd h (a6 _)
  obtain ⟨_,_,_,_,hB,hr⟩:=hB
  obtain ⟨a,rfl,ha1⟩:=VR.aW.1 hv
  obtain ⟨y1,a1,rfl,q1,ha2⟩:=ha1.cons_inv
  obtain ⟨y2,a2,rfl,q2,ha3⟩:=ha2.cons_inv
  obtain ⟨y3,a3,rfl,q3,ha4⟩:=ha3.cons_inv
  obtain ⟨y4,a4,rfl,q4,ha5⟩:=ha4.cons_inv
  obtain rfl:=ha5.aq
  obtain rfl:=VR.ab.1 q1
  obtain rfl:=VR.ab.1 q2
  obtain rfl:=VR.ab.1 q3
  have hs:=eZ.qR q4 hb ho hor hn fun zs hz=>qt hz
  have hs2:=hs
  obtain ⟨g,c,rest,rfl,_⟩:=hs2
  exact ⟨aG a6 hB hr,_,_,_,rfl,.inr ⟨ha,rfl,g,rfl,hs⟩⟩
abbrev Key:=ByteArray × Int × Int × List Int
def KE (c:aD→List Int) (e:aD):Key:=(e.p,e.v,e.k,c e)
def KM (c:aD→List Int) (e:bK):Key:=KE c e.1
theorem nS (a:ByteArray):bF a a=0:=by have:=gm a a;omega
section
variable {E:List bK} {cl:Nat} {xs:List aD} {x:aD} {cm ys:aD→List Int}
theorem dh.snoc (h:dh E cl) {y:aD} (hm:∀ e∈E,e.1.p≠y.p) (hf:y.p≠⟨#[]⟩) (hz:y.p.size≤1000000000):dh (E++[(y,cl)]) (cl+1):=by
 refine ⟨?_,?_,fun e he=>?_,fun e he=>?_,fun e he=>?_⟩
 ·rw [List.map_append,List.nodup_append]
  refine ⟨h.names,by simp,fun a ha b hb=>?_⟩
  obtain ⟨e,he,rfl⟩:=List.mem_map.1 ha
  have:b=y.p:=by simpa using hb
  rw [this];exact hm e he
 ·rw [List.map_append,List.nodup_append]
  refine ⟨h.borns,by simp,fun a ha b hb=>?_⟩
  obtain ⟨e,he,rfl⟩:=List.mem_map.1 ha
  have:b=cl:=by simpa using hb
  have:=h.born e he
  omega
 ·rcases List.mem_append.1 he with he | he
  ·have:=h.born e he;omega
  ·have:e=(y,cl):=by simpa using he
   subst this;show cl<cl+1;omega
 ·rcases List.mem_append.1 he with he | he
  ·exact h.full e he
  ·have:e=(y,cl):=by simpa using he
   subst this;exact hf
 ·rcases List.mem_append.1 he with he | he
  ·exact h.size e he
  ·have:e=(y,cl):=by simpa using he
   subst this;exact hz
end
def fX (es:List (SV × SV × Nat)) (cl:Nat):Option (SO × Bool):=some (.map es cl,true)
theorem fW.cr {w0 w:World} {a:Option Addr} {l:Nat} {ys:List Int} (h:fW w0 a l ys) (hk:∀ k,k<w0.heap.size→w.heap[k]?=w0.heap[k]?):fW w a l ys:=by
 obtain ⟨h1,h2,h3⟩:=h
 refine ⟨h1,h2,fun b hb i hi W' hW=>h3 b hb i hi W' fun k hk0=>?_⟩
 rw [← hk k hk0]
 refine hW k ?_
 have h4:=hk k hk0
 rw [Array.getElem?_eq_getElem hk0] at h4
 exact (Array.getElem?_eq_some_iff.1 h4).1
theorem CA {P:Program} {X Y:World→Prop} {r:FuncId × Sum} (h:cF P X r) (hXY:∀ w,Y w→X w):cF P Y r:=
 ⟨h.1,fun args x s s' hx ob=>⟨(h.2 args x s s' hx ob).1,fun ν M w0 w a hr hY ha=>(h.2 args x s s' hx ob).2 ν M w0 w a hr (hXY w hY) ha⟩⟩
theorem sz (o:Nat) (b:Nat × Nat):∀ E:List bK,fN o b (E.map mC)=E.map mC
 | []=>rfl
 | e::E=>by
  show _::fN o b (E.map mC)=_
  rw [sz o b E];rfl
theorem pz {o:Nat} {b:Nat × Nat} {E:List bK} {y:aD} {k v:SV} {n:Nat} (h:(k,ux o b v,n)=mC (y,n)):fN o b (E.map mC++[(k,v,n)])=(E++[(y,n)]).map mC:=by
 unfold fN
 rw [List.map_append,List.map_append]
 have:=sz o b E
 unfold fN at this
 rw [this,List.map_cons,List.map_cons,h];rfl
theorem ui {E:List bK} (hn:(E.map fun e=>e.1.p).Nodup) {f:bK} (hf:f∈E):∃ j,Fq (E.map mC) f.1.p j (vl f) f.2∧E[j]?=some f:=by
 obtain ⟨j,hj⟩:=GV hn hf
 refine ⟨j,hj,?_⟩
 have h2:=hj.2
 rw [List.getElem?_map] at h2
 obtain ⟨g,hg,h3⟩:=Option.map_eq_some_iff.1 h2
 rw [hg,GC (h3:mC g=mC f)]
theorem pq {E:List bK} {p:ByteArray} (hm:∀ e∈E,e.1.p≠p):∀ e∈E.map mC,cQ p e.1:=fun e he=>by
 obtain ⟨y,hy,rfl⟩:=List.mem_map.1 he
 refine ⟨y.1.p,rfl,?_⟩
 rw [Bool.eq_false_iff];intro h
 refine hm y hy ?_
 have:(p.data==y.1.p.data)=true:=h
 have:=eq_of_beq this
 cases hfp:p;cases hyp:y.1.p;rw [hfp,hyp] at this;cases this;rfl
theorem iS (a:ByteArray):(a==a)=true:=by
 show (a.data==a.data)=true
 exact beq_self_eq_true _
theorem nd {x:aD} (hc:bw x.p x.v x.k x.l=0):x.p≠⟨#[]⟩:=by
 intro h
 have hu:ee x.p=false:=by
  unfold ee
  cases hq:(bI x.p==0)
  ·rfl
  ·exact absurd (by rw [h];rfl) (nO x.p (by simpa using hq))
 unfold bw at hc
 rw [hu] at hc
 revert hc;simp
def dg (H:Hp) (e:aD) (zs:List Int):Prop:=(e.a=none∧e.l=0∧zs=[])∨∃ b rest,e.a=some ⟨b,0,none⟩∧H b=some (.cells ((zs.map (Value.int .u8))++rest).toArray 5 (0,0))∧zs.length=e.l
def JN:Value→Int | .int _ n=>n | _=>0
def dp (H:Hp) (e:aD):List Int:=match e.a with
 | none=>[]
 | some a=>match H a.1 with
  | some (.cells c _ _)=>(c.toList.take e.l).map JN
  | _=>[]
theorem dg.cont {H:Hp} {e:aD} {zs:List Int} (h:dg H e zs):dp H e=zs:=by
 unfold dp
 rcases h with ⟨h1,_,rfl⟩ | ⟨b,rest,h1,h2,h3⟩
 ·rw [h1]
 ·rw [h1]
  dsimp only
  rw [h2]
  dsimp only
  rw [List.take_append_of_le_length (by simp [h3]),List.take_of_length_le (by simp [h3]),List.map_map]
  exact List.map_id' zs
theorem dg.mono {H H':Hp} {e:aD} {zs:List Int} (h:dg H e zs) (hs:H.Sub H'):dg H' e zs:=by
 rcases h with h | ⟨b,rest,h1,h2,h3⟩
 ·exact .inl h
 ·exact .inr ⟨b,rest,h1,hs _ _ h2,h3⟩
def wM (w0:World) (e:aD):Prop:=∀ a,e.a=some a→w0.heap.size≤a.block
theorem sP {H:Hp} {x:aD} {zs:List Int} {ν1:aA} {j:Nat} {b:Nat × Nat} {ob:Obj} (hl:zs.length=x.l) (h:OR ν1 j (.row (List.map SV.v (zs.map (Value.int .u8))) 5 (0,0) (some 1)) ob):dg (H.put b.1 ob) ⟨x.p,x.v,x.k,some ⟨b.1,0,none⟩,x.l,b.2⟩ zs:=by
 obtain ⟨vs,rest,rfl,hv,_⟩:=h
 obtain rfl:=qt hv
 exact .inr ⟨b.1,rest,rfl,by rw [Hp.aU];simp,hl⟩
def ky (e:bK):MapEntry:={ key:=.string e.1.p,val:=.agg (eV e.1).toArray,born:=e.2 }
theorem uz {ν:aA}:∀ {E:List bK} {l:List MapEntry},cJ ν (E.map mC) l→l=E.map ky
 | [],_,h=>h
 | e::E,_,h=>by
  obtain ⟨z,zs,rfl,h1,h2,h3,h4⟩:=h
  have e1:z.key=.string e.1.p:=VR.ab.1 h1
  obtain ⟨a,hq,ha⟩:=VR.aW.1 h2
  have e2:a=eV e.1:=bT ha (aj.lits ν (eV e.1))
  rw [uz h4,List.map_cons]
  congr 1
  obtain ⟨k,v,n⟩:=z
  dsimp only at e1 hq h3
  subst e1 hq e2
  have h3:e.2=n:=h3
  subst h3;rfl
structure gq (w:World) (b m:Nat) (s:Int) (E:List bK) (cl:Nat):Prop where
 row:w.heap[b]?=some (.cells #[.int .u64 s,.map (some m)] 122 (0,0))
 map:w.heap[m]?=some (.map (E.map ky).toArray cl)
section
variable {w0:World} {cs0:List Frame} {D:List aD} {ys:aD→List Int} {M:Own} {off c:Nat} {ν:aA}
end
section
variable {w0:World} {cs0:List Frame} {D:List aD} {ys:aD→List Int} {M:Own} {off c:Nat} {ν:aA}
theorem pd (hM:∀ z,¬ M z) {M1 M3:Own} {w1 w3:World} {H:Hp} (hk:Kept w0.hp M w0 H M1 w1) {b:Nat} (h:w1.heap.size≤b∨M1 b):w0.heap.size≤b:=by
 rcases hk.base.own _ h with h | h
 ·exact h
 ·exact absurd h (hM _)
end
section
variable {M:Own} {w0:World} {cs0:List Frame} {R:Ending→World→Prop} {ν:aA} {xs:List aD} {off c:Nat}
end
section
variable {H:Type} {enc:TypeId × Value→H} {P:Program} {W:World} {base:Nat} {spare:Nat→Bool} {held:Bool}
theorem BF {e:TypeId}:∀ {l:List (DataW H)} {d:DataW H},d∈l→∀ {q:Nat},q∈d.weights P e→q∈DataW.weightsAll P e l
 | x::l,d,hd,q,hq=>by
  unfold DataW.weightsAll
  rcases List.mem_cons.1 hd with rfl | hd
  ·exact List.mem_append_left _ hq
  ·exact List.mem_append_right _ (BF hd hq)
theorem Ep {α:Type} {h:α→List Value} {C:Nat} (hC0:0<C) (hh:∀ r,(h r).length=C) {t e:TypeId} {a:Option Addr} {l c n:Nat} {x:DataW H × List MemPlace}
  (hform:∀ (vs:List Value) (n:Nat) (y:DataW H × List MemPlace),DataW.trod enc P W base spare held n e vs=some y→(∀ q∈y.1.weights P e,q∈x.1.weights P t)→∃ r,vs=h r)
  (ht:P.underlying t=some (.slice e)) (hC:P.cellsOf e=C) (hd:DataW.trod enc P W base spare held n t [.slice a l c]=some x):yX h W a l c:=by
 rcases Deep.open_slice ht hd with ⟨h0,_⟩ | ⟨a',len,cap,m,n',D,Pl,hcs,hb,hl,hm,hmm,hxx,hi⟩
 ·cases h0;exact ⟨⟨Nat.le_refl _,Nat.zero_le _⟩,.inl rfl⟩
 ·cases hcs
  refine ⟨⟨hl,hm⟩,?_⟩
  by_cases hl0:l=0
  ·exact .inl hl0
  right
  have hlm:l≤m:=by rw [hmm];split <;> omega
  have hel:∀ i,i<l→∃ r:α,∀ j,j<C→W.cell? (a'.add (i*C+j))=(h r)[j]?:=by
   intro i hil
   obtain ⟨cs',hc,htr⟩:=hi i (by omega)
   rw [hC] at hc
   obtain ⟨_,hcl,hat⟩:=World.cells?_some hc
   obtain ⟨r,hr⟩:=hform cs' _ _ htr fun q hq=>by
    rw [hxx]
    unfold DataW.weights
    rw [ht]
    exact List.mem_cons_of_mem _ (List.mem_append_left _ (BF (List.mem_map.2 ⟨i,List.mem_range.2 hil,rfl⟩) hq))
   refine ⟨r,fun j hj=>?_⟩
   have:=hat j hj
   rw [← hr,← this,Deep.add_add]
  obtain ⟨F,hF⟩:∃ F:Nat→α,∀ i,i<l→∀ j,j<C→W.cell? (a'.add (i*C+j))=(h (F i))[j]?:=by
   obtain ⟨r0,_⟩:=hel 0 (by omega)
   refine ⟨fun i=>if hi:i<l then Classical.choose (hel i hi) else r0,fun i hi=>?_⟩
   simp only [dif_pos hi]
   exact Classical.choose_spec (hel i hi)
  have h00:=hF 0 (by omega) 0 hC0
  have hv0:∃ v,(h (F 0))[0]?=some v:=⟨_,List.getElem?_eq_getElem (by rw [hh];exact hC0)⟩
  obtain ⟨v0,hv0⟩:=hv0
  rw [hv0,Nat.zero_mul,Nat.add_zero] at h00
  have ha0:a'.add 0=a':=by simp [Addr.add]
  rw [ha0] at h00
  unfold World.cell? at h00
  split at h00
  ·rename_i cs el fz hheap
   have hsp:a'.spot=none:=by
    cases hs:a'.spot with
    | none=>rfl
    | some s=>rw [hs] at h00;simp at h00
   rw [hsp] at h00
   simp only [Option.isSome_none,Bool.false_eq_true,if_false] at h00
   have hoff:=(Array.getElem?_eq_some_iff.1 h00).1
   obtain ⟨b,off,sp⟩:=a'
   simp only at hsp hheap hoff
   subst hsp
   refine ⟨b,off,(List.range l).map F,cs,el,fz,rfl,by simp,hheap,by omega,fun k v hk=>?_⟩
   obtain ⟨x,h1,h2⟩:=oz hC0 hh hk
   rw [List.getElem?_map] at h1
   obtain ⟨i,h3,rfl⟩:=Option.map_eq_some_iff.1 h1
   obtain ⟨hlt,h3⟩:=List.getElem?_eq_some_iff.1 h3
   rw [List.getElem_range] at h3
   simp only [List.length_range] at hlt
   subst h3
   have:=hF (k / C) hlt (k % C) (Nat.mod_lt _ hC0)
   rw [h2] at this
   have e:k / C*C+k % C=k:=by rw [Nat.mul_comm];exact Nat.div_add_mod k C
   rw [e,bQ,bZ hheap] at this
   exact this
  ·cases h00
theorem pP:∀ xs:List { n:Int // 0≤n∧n<256 },(xs.flatMap fun r=>[Value.int .u8 r.1])=xs.map fun r=>Value.int .u8 r.1
 | []=>rfl
 | x::xs=>by rw [List.flatMap_cons,pP xs];rfl
end
section
variable {H:Type} {enc:TypeId × Value→H} {W:World} {base:Nat} {spare:Nat→Bool} {held:Bool}
end
def K4:Value→Nat | .string s=>s.size | _=>0
theorem JU (s:ByteArray) (m:Int) (w:World) (hs:s.size≤1000000000) (hm:w.cell? ⟨2,0,none⟩=some (.int .i64 m)):Calls Tryz.prog 141 #[.string s,.string ⟨#[47]⟩] w fun e w'=>e=.returned (.tuple #[.string (cA s),.string (cB s),.bool (cM s)])∧∃ n,w'=w.drewN n:=
 Any.strings_Cut { ug with } s a7 m w (by omega) hm
theorem isNaN (s:ByteArray) (w:World):Calls Tryz.prog 172 #[.string s] w fun e w'=>e=.returned (.bool false)∧w=w':=by
 go_enter Tryz.func172,Tryz.ntmps172
 go_wp2
 go_ret
 exact ⟨by simp,rfl⟩
theorem IF (x y:ByteArray) (w:World):Calls Tryz.prog 142 #[.string x,.string y] w fun e w'=>e=.returned (.int .i64 (lV x y))∧w=w':=by
 go_enter Tryz.func142,Tryz.ntmps142
 go_wp2_with (go_at_call 172;refine (isNaN _ _).mono ?_;rintro e w' ⟨rfl,rfl⟩)
 all_goals
  go_ret
  refine ⟨?_,rfl⟩
  simp_all [lV]
theorem Ow (b:Bool) (w:World):Calls Tryz.prog 143 #[.bool b] w fun e w'=>e=.returned (.int .i64 (if b then 1 else 0))∧w=w':=by
 cases b
 ·go_enter Tryz.func143,Tryz.ntmps143
  go_wp2
  go_ret
  exact ⟨rfl,rfl⟩
 ·go_enter Tryz.func143,Tryz.ntmps143
  go_wp2
  go_ret
  exact ⟨rfl,rfl⟩
def H6 (z:Int) (w:World) (e:Ending) (w':World):Prop:=e=.returned (.int .i64 z)∧∃ n,w'=w.drewN n
theorem tl:∀ (n m:Nat) (a b:ByteArray),a.size<n→a.size<m→jF n a b=jF m a b
 | 0,_,_,_,h,_=>absurd h (Nat.not_lt_zero _)
 | _+1,0,_,_,_,h=>absurd h (Nat.not_lt_zero _)
 | n+1,m+1,a,b,h1,h2=>by
  unfold jF
  by_cases hc:cM a=true∧cM b=true
  ·have:=vM a hc.1
   rw [if_pos hc,if_pos hc,tl n m (cB a) (cB b) (by omega) (by omega)]
  ·rw [if_neg hc,if_neg hc]
theorem sg (a b:ByteArray):bF a b=if (cA a).data.toList=(cA b).data.toList then (if cM a=true∧cM b=true then bF (cB a) (cB b) else Ck (cM a) - Ck (cM b)) else lV (cA a) (cA b):=by
 unfold bF
 conv=>lhs;unfold jF
 by_cases hc:cM a=true∧cM b=true
 ·have:=vM a hc.1
  rw [if_pos hc,if_pos hc,tl a.size ((cB a).size+1) (cB a) (cB b) (by omega) (by omega)]
 ·rw [if_neg hc,if_neg hc]
theorem ID {x y:ByteArray} (h:(!(x.toList==y.toList))=true):¬ x.data.toList=y.data.toList:=fun e=>by
 have:x=y:=by cases x;cases y;congr 1;exact Array.toList_inj.1 e
 rw [this] at h;simp at h
theorem Gi {x y:ByteArray} (h:(!(x.toList==y.toList))=false):x.data.toList=y.data.toList:=by
 have h:x.toList=y.toList:=by simpa using h
 rwa [rS,rS] at h
theorem K7 (a b : ByteArray) (m : Int) (w : World) (ha : a.size ≤ 1000000000) (hb : b.size ≤ 1000000000) (hm : w.cell? ⟨2, 0, none⟩ = some (.int .i64 m)) : Calls Tryz.prog 102 #[.string a, .string b] w (H6 (bF a b) w) := by
  go_enter Tryz.func102, Tryz.ntmps102
  go_wp2
  go_loopw [0, 1] (fun x y wr => ∃ (a' b' : ByteArray) (n : Nat), x = .string a' ∧ y = .string b' ∧ a'.size ≤ 1000000000 ∧ b'.size ≤ 1000000000 ∧ bF a' b' = bF a b ∧ wr = w.drewN n) (fun x _ _ => K4 x)
  case atStart => exact ⟨a, b, 0, rfl, rfl, ha, hb, rfl, rfl⟩
  case round =>
    obtain ⟨a', b', n, rfl, rfl, ha', hb', hc, rfl⟩ := hrel
    have HC := Lib.hid hc
    clear hc
    have hm' : (w.drewN n).cell? ⟨2, 0, none⟩ = some (.int .i64 m) := hm
    go_wp2_with (first
      | (go_at_call 141; refine (JU _ m _ (by assumption) (by exact hm)).mono ?_; rintro e w' ⟨rfl, n1, rfl⟩)
      | (go_at_call 142; refine (IF _ _ _).mono ?_; rintro e w' ⟨rfl, rfl⟩)
      | (go_at_call 143; refine (Ow _ _).mono ?_; rintro e w' ⟨rfl, rfl⟩))
    all_goals first
      | (go_ret
         refine ⟨?_, _, rfl⟩
         rw [← HC.out, sg]
         first
           | (rw [if_neg (ID (by assumption))]; rfl)
           | (rw [if_pos (Gi (by assumption)), if_neg (by simp_all)]; simp_all [Ck]))
      | (refine ⟨⟨cB a', cB b', _, rfl, rfl, Nat.le_trans (ft _) ha', Nat.le_trans (ft _) hb', ?_, rfl⟩, vM _ (by assumption)⟩
         rw [← HC.out, sg a' b', if_pos (Gi (by assumption)), if_pos (by simp_all)])
end paths
end Go.Proofs.YtcbokmadfcedaaaGreatDoor
set_option linter.unusedSimpArgs false
set_option linter.unusedVariables false
set_option maxRecDepth 100000
namespace Go.Proofs.YtcbokmadfcedaaaGreatDoor
open Go Go.Rx Go.RowKit Go.Proofs Go.Sort
namespace paths
def yn:Go.Shelf.Ren:=⟨fun | 6=>139 | 15=>170 | 14=>169 | 28=>191 | 29=>192 | 20=>183 | 21=>184 | 22=>185 | 23=>186 | 24=>187 | 25=>188 | 26=>189 | 27=>190 | 46=>199 | 47=>200 | 48=>201 | 49=>202 | 50=>203 | 57=>217 | n=>n,fun | 22=>100 | 24=>9 | 25=>137 | 3=>3 | 39=>248 | 0=>0 | 53=>206 | 55=>32 | 4=>4 | 46=>268 | 45=>267 | 50=>272 | 5=>5 | 9=>9 | 66=>280 | 70=>283 | 76=>291 | 77=>93 | n=>n,fun | n=>n⟩
theorem ye:Go.Proofs.SlLaysF.n6 Tryz.prog yn where
 mixed:=by kernel_rfl
 f6 := ⟨ "slices.SortFunc[[]string,string]", by decide, Tryz.func139.trans (congrArg some (by kernel_rfl))⟩
 f14 := ⟨ "slices.pdqsortCmpFunc[string]", by decide, Tryz.func169.trans (congrArg some (by kernel_rfl))⟩
 f15:=Tryz.func170.trans (congrArg some (by kernel_rfl))
 f20 := ⟨ "slices.insertionSortCmpFunc[string]", by decide, Tryz.func183.trans (congrArg some (by kernel_rfl))⟩
 f21 := ⟨ "slices.heapSortCmpFunc[string]", by decide, Tryz.func184.trans (congrArg some (by kernel_rfl))⟩
 f22 := ⟨ "slices.breakPatternsCmpFunc[string]", by decide, Tryz.func185.trans (congrArg some (by kernel_rfl))⟩
 f23 := ⟨ "slices.choosePivotCmpFunc[string]", by decide, Tryz.func186.trans (congrArg some (by kernel_rfl))⟩
 f24 := ⟨ "slices.reverseRangeCmpFunc[string]", by decide, Tryz.func187.trans (congrArg some (by kernel_rfl))⟩
 f25 := ⟨ "slices.partialInsertionSortCmpFunc[string]", by decide, Tryz.func188.trans (congrArg some (by kernel_rfl))⟩
 f26 := ⟨ "slices.partitionEqualCmpFunc[string]", by decide, Tryz.func189.trans (congrArg some (by kernel_rfl))⟩
 f27 := ⟨ "slices.partitionCmpFunc[string]", by decide, Tryz.func190.trans (congrArg some (by kernel_rfl))⟩
 f28:=Tryz.func191.trans (congrArg some (by kernel_rfl))
 f29:=Tryz.func192.trans (congrArg some (by kernel_rfl))
 f46 := ⟨ "slices.siftDownCmpFunc[string]", by decide, Tryz.func199.trans (congrArg some (by kernel_rfl))⟩
 f47:=Tryz.func200.trans (congrArg some (by kernel_rfl))
 f48:=Tryz.func201.trans (congrArg some (by kernel_rfl))
 f49 := ⟨ "slices.medianAdjacentCmpFunc[string]", by decide, Tryz.func202.trans (congrArg some (by kernel_rfl))⟩
 f50 := ⟨ "slices.medianCmpFunc[string]", by decide, Tryz.func203.trans (congrArg some (by kernel_rfl))⟩
 f57 := ⟨ "slices.order2CmpFunc[string]", by decide, Tryz.func217.trans (congrArg some (by kernel_rfl))⟩
 t0:=Tryz.underlying0
 a0:=Tryz.isAgg0
 z0:=Tryz.sizeOf0
 v0:=Tryz.zeroValue0
 t3:=Tryz.underlying3
 a3:=Tryz.isAgg3
 z3:=Tryz.sizeOf3
 v3:=Tryz.zeroValue3
 t4:=Tryz.underlying4
 a4:=Tryz.isAgg4
 z4:=Tryz.sizeOf4
 v4:=Tryz.zeroValue4
 t5:=Tryz.underlying5
 a5:=Tryz.isAgg5
 z5:=Tryz.sizeOf5
 v5:=Tryz.zeroValue5
 t9:=Tryz.underlying9
 a9:=Tryz.isAgg9
 z9:=Tryz.sizeOf9
 v9:=Tryz.zeroValue9
 t22:=Tryz.underlying100
 a22:=Tryz.isAgg100
 z22:=Tryz.sizeOf100
 v22:=Tryz.zeroValue100
 a24:=Tryz.isAgg9
 z24:=Tryz.sizeOf9
 t25:=Tryz.underlying137
 a25:=Tryz.isAgg137
 z25:=Tryz.sizeOf137
 v25:=Tryz.zeroValue137
 t39:=Tryz.underlying248
 a39:=Tryz.isAgg248
 z39:=Tryz.sizeOf248
 v39:=Tryz.zeroValue248
 t45:=Tryz.underlying267
 a45:=Tryz.isAgg267
 z45:=Tryz.sizeOf267
 v45:=Tryz.zeroValue267
 t46:=Tryz.underlying268
 a46:=Tryz.isAgg268
 z46:=Tryz.sizeOf268
 v46:=Tryz.zeroValue268
 t50:=Tryz.underlying272
 a50:=Tryz.isAgg272
 z50:=Tryz.sizeOf272
 v50:=Tryz.zeroValue272
 t53:=Tryz.underlying206
 a53:=Tryz.isAgg206
 z53:=Tryz.sizeOf206
 v53:=Tryz.zeroValue206
 t55:=Tryz.underlying32
 a55:=Tryz.isAgg32
 z55:=Tryz.sizeOf32
 v55:=Tryz.zeroValue32
 t66:=Tryz.underlying280
 a66:=Tryz.isAgg280
 z66:=Tryz.sizeOf280
 v66:=Tryz.zeroValue280
 t70:=Tryz.underlying283
 a70:=Tryz.isAgg283
 z70:=Tryz.sizeOf283
 v70:=Tryz.zeroValue283
 t76:=Tryz.underlying291
 a76:=Tryz.isAgg291
 z76:=Tryz.sizeOf291
 v76:=Tryz.zeroValue291
 t77:=Tryz.underlying93
 a77:=Tryz.isAgg93
 z77:=Tryz.sizeOf93
 v77:=Tryz.zeroValue93

abbrev Iy:={ s:ByteArray // s.size≤1000000000 }
instance:Inhabited Iy:=⟨⟨⟨#[]⟩,by decide⟩⟩
def wx (s:Iy):Value:=.string s.1
def FL (x y:Iy):Int:=bF x.1 y.1
theorem Lw:SWO (ltOf FL):=by
 refine ⟨fun x=>?_,fun x y z h1 h2=>?_,fun x y z h1 h2=>?_⟩
 ·show decide (bF x.1 x.1<0)=false
  rw [nS];rfl
 ·exact decide_eq_true (fo (of_decide_eq_true h1) (of_decide_eq_true h2))
 ·have h1:=of_decide_eq_false h1
  have h2:=of_decide_eq_false h2
  refine decide_eq_false fun h=>?_
  have h:bF x.1 z.1<0:=h
  have h1:¬ bF x.1 y.1<0:=h1
  have h2:¬ bF y.1 z.1<0:=h2
  have n1:=gm x.1 y.1
  rcases Int.lt_trichotomy (bF y.1 x.1) 0 with h3 | h3 | h3
  ·exact h2 (fo h3 h)
  ·have:=j0 h3
   rw [this] at h2;exact h2 h
  ·omega
theorem KH:∀ x y,(ltOf FL) x y=false→(ltOf FL) y x=false→x=y:=fun x y h1 h2=>by
 have h1:¬ bF x.1 y.1<0:=of_decide_eq_false h1
 have h2:¬ bF y.1 x.1<0:=of_decide_eq_false h2
 have n1:=gm x.1 y.1
 exact Subtype.ext (j0 (by omega))
def wE (a b:ByteArray):Bool:=!decide (bF b a<0)
def fC (l:List ByteArray):List ByteArray:=l.mergeSort wE
theorem Bg (a b c:ByteArray) (h1:wE a b=true) (h2:wE b c=true):wE a c=true:=by
 unfold wE at *
 simp only [Bool.not_eq_true',decide_eq_false_iff_not] at *
 intro h
 have n1:=gm a b
 rcases Int.lt_trichotomy (bF a b) 0 with h3 | h3 | h3
 ·exact h2 (fo h h3)
 ·have:=j0 h3
  rw [this] at h;exact h2 h
 ·omega
theorem Ac (a b:ByteArray):(wE a b||wE b a)=true:=by
 unfold wE
 have n1:=gm a b
 by_cases h:bF b a<0
 ·have:¬ bF a b<0:=by omega
  simp [h,this]
 ·simp [h]
theorem CR {a b:ByteArray} (h1:wE a b=true) (h2:wE b a=true):a=b:=by
 unfold wE at *
 simp only [Bool.not_eq_true',decide_eq_false_iff_not] at *
 have n1:=gm a b
 exact j0 (by omega)
theorem cO (l:List ByteArray):(fC l).Perm l:=List.mergeSort_perm l wE
theorem mg (l:List ByteArray):(fC l).Pairwise fun a b=>wE a b=true:=List.pairwise_mergeSort Bg Ac l
theorem oJ {l m:List ByteArray} (h:m.Pairwise fun a b=>wE a b=true) (hp:m.Perm l):fC l=m:=
 List.Perm.eq_of_pairwise (le:=fun a b=>wE a b=true) (fun a b _ _ h1 h2=>CR h1 h2) (mg l) h ((cO l).trans hp.symm)
theorem Ig {a b:ByteArray} (h:bF a b<0):wE a b=true:=by
 unfold wE
 have n1:=gm a b
 simp;omega
theorem tB {α:Type} [Inhabited α] (enc:α→Value) {w:World} {b:Nat} {d0 d:List α} {rest:List Value} {e:TypeId} {fz:Nat × Nat} (hh:w.heap[b]?=some (.cells (d0.map enc++rest).toArray e fz)) (hl:d.length=d0.length):
  (putRow enc w b 0 d.toArray).heap[b]?=some (.cells (d.map enc++rest).toArray e fz):=by
 unfold putRow mapBlock
 simp only [Array.getElem?_modify,if_pos,hh,Option.map_some,onCells]
 congr 2
 apply Array.ext_getElem?
 intro k
 simp only [putCells,Array.getElem?_mapIdx,List.getElem?_toArray,Nat.zero_le,true_and,Nat.zero_add,Nat.sub_zero,List.size_toArray]
 by_cases hk:k<d.length
 ·have h1:(d0.map enc++rest)[k]?=some (enc d0[k]):=by
   rw [List.getElem?_append_left (by simpa using (by omega:k<d0.length)),List.getElem?_map,List.getElem?_eq_getElem (by omega)];rfl
  have h2:(d.map enc++rest)[k]?=some (enc d[k]):=by
   rw [List.getElem?_append_left (by simpa using hk),List.getElem?_map,List.getElem?_eq_getElem hk];rfl
  rw [h1,h2,Option.map_some,if_pos hk]
  congr 2
  rw [getElem!_pos d.toArray k (by simpa using hk)];simp
 ·have h1:(d0.map enc++rest)[k]?=rest[k - d0.length]?:=by
   rw [List.getElem?_append_right (by simpa using (by omega:d0.length≤k))];simp
  have h2:(d.map enc++rest)[k]?=rest[k - d.length]?:=by
   rw [List.getElem?_append_right (by simpa using (by omega:d.length≤k))];simp
  rw [h1,h2,hl]
  simp only [if_neg (show ¬ k<d0.length by omega)]
  simp
theorem kF {α:Type} [Inhabited α] (enc:α→Value) (w:World) (b off n:Nat) (d:Array α) (os:Array Obj):HJ w (grow (putRow enc (Sort.ahead w n) b off d) os) b:=by
 refine ⟨rfl,rfl,rfl,by simp,fun k hk hne=>?_⟩
 rw [heap_grow_old _ _ (by simpa using hk)]
 have:b≠k:=fun e=>hne e.symm
 simp [putRow,mapBlock,Sort.ahead,Array.getElem?_modify,this]
theorem MX.but {w w':World} {b:Nat} (h:MX w) (hb:b≠2) (k:HJ w w' b):MX w':=by
 obtain ⟨m,hm⟩:=h
 refine ⟨m,?_⟩
 have hlt:2<w.heap.size:=by
  rcases Nat.lt_or_ge 2 w.heap.size with h' | h'
  ·exact h'
  ·unfold World.cell? at hm
   simp only at hm
   rw [Array.getElem?_eq_none h'] at hm
   cases hm
 unfold World.cell? at hm ⊢
 simp only at hm ⊢
 rw [k.block _ hlt (fun e=>hb e.symm)];exact hm
theorem vG {α:Type} [Inhabited α] (enc:α→Value) {w:World} {b:Nat} {d:List α} {rest:List Value} {e:TypeId} (hh:w.heap[b]?=some (.cells (d.map enc++rest).toArray e (0,0))):Holds enc w b 0 d.toArray:=by
 intro j hj
 have hj:j<d.length:=by simpa using hj
 refine ⟨?_,?_⟩
 ·rw [bZ hh,Nat.zero_add]
  have h2:(d.map enc++rest)[j]?=some (enc d[j]):=by
   rw [List.getElem?_append_left (by simpa using hj),List.getElem?_map,List.getElem?_eq_getElem hj];rfl
  rw [List.getElem?_toArray,h2,getElem!_pos d.toArray j (by simpa using hj)];simp
 ·unfold World.frozen?
  simp [hh]
theorem xJ {w:World} {b cap:Nat} {L:List Iy} {rest:List Value} {e:TypeId} (hm:MX w) (hb:b≠2) (hh:w.heap[b]?=some (.cells (L.map wx++rest).toArray e (0,0))) (hl:L.length<4611686018427387904):
  Calls Tryz.prog 139 #[.slice (some ⟨b,0,none⟩) L.length cap,.func (.func 102) #[] #[]] w fun e' w'=>e'=.returned (.tuple #[])∧HJ w w' b∧w'.heap[b]?=some (.cells ((fC (L.map (·.1))).map Value.string++rest).toArray e (0,0)):=by
 have hC:CmpLays1 Tryz.prog 102 #[] wx FL b 0 L.toArray.size w:=fun m os dk _ x y=>by
  obtain ⟨z,hz⟩:=hm.but hb (kF wx w b 0 m dk os)
  exact (K7 x.1 y.1 z _ x.2 y.2 hz).mono fun e w' ⟨he,n,hn⟩=>⟨he,n,#[],by rw [grow_empty];exact hn⟩
 have h:=Any.slices_SortFunc_total ye wx (fun x=>rfl) FL Lw 102 #[] b 0 cap L.toArray w (enters_of Tryz.func102 (by kernel_rfl) rfl) hC (vG wx hh) (Array.getElem?_eq_some_iff.1 hh).1 (by simpa using hl) KH
 rw [List.size_toArray] at h
 refine h.mono fun e' w' ⟨he,n,os,hw⟩=>⟨he,?_,?_⟩
 ·rw [hw];exact kF wx w b 0 n _ os
 ·rw [hw]
  unfold sortWorld
  rw [heap_grow_old _ _ (by simpa using (Array.getElem?_eq_some_iff.1 hh).1)]
  have hp:(L.mergeSort fun x y=>!(ltOf FL) y x).length=L.length:=List.length_mergeSort _
  rw [List.toList_toArray]
  have:=tB wx (w:=Sort.ahead w n) (d:=L.mergeSort fun x y=>!(ltOf FL) y x) hh hp
  rw [this]
  congr 3
  have e1:(L.mergeSort fun x y=>!(ltOf FL) y x).map (·.1)=fC (L.map (·.1)):=List.map_mergeSort fun a _ b _=>rfl
  rw [← e1,List.map_map];rfl
def xL:Go.Shelf.Ren:=⟨fun | 8=>138 | 11=>168 | n=>n,fun | 26=>9 | 28=>181 | 24=>100 | 0=>0 | 33=>74 | 4=>4 | n=>n,fun | n=>n⟩
theorem Ch:Go.Proofs.SlLaysZ.n8 Tryz.prog xL where
 mixed:=by kernel_rfl
 f8 := ⟨ "slices.Collect[string]", by decide, Tryz.func138.trans (congrArg some (by kernel_rfl))⟩
 f11 := ⟨ "slices.AppendSeq[[]string,string]", by decide, Tryz.func168.trans (congrArg some (by kernel_rfl))⟩
 t0:=Tryz.underlying0
 a0:=Tryz.isAgg0
 z0:=Tryz.sizeOf0
 v0:=Tryz.zeroValue0
 t24:=Tryz.underlying100
 a24:=Tryz.isAgg100
 z24:=Tryz.sizeOf100
 v24:=Tryz.zeroValue100
 t26:=Tryz.underlying9
 a26:=Tryz.isAgg9
 z26:=Tryz.sizeOf9
 v26:=Tryz.zeroValue9
 t28:=Tryz.underlying181
 a28:=Tryz.isAgg181
 z28:=Tryz.sizeOf181
 v28:=Tryz.zeroValue181
 i26:=by kernel_rfl

def lf:Go.Shelf.Ren:=⟨fun | 7=>101 | 10=>140 | n=>n,fun | 23=>120 | 26=>9 | 3=>117 | 28=>181 | 0=>0 | 27=>180 | 33=>74 | 4=>4 | n=>n,fun | n=>n⟩
theorem uH:Go.Proofs.SlLaysZ.n7 Tryz.prog lf where
 mixed:=by kernel_rfl
 f7 := ⟨ "maps.Keys[map[string]tender/api.Entry,string,tender/api.Entry]", by decide, Tryz.func101.trans (congrArg some (by kernel_rfl))⟩
 f10 := ⟨ "maps.Keys[map[string]tender/api.Entry,string,tender/api.Entry]$1", by decide, Tryz.func140.trans (congrArg some (by kernel_rfl))⟩
 t0:=Tryz.underlying0
 a0:=Tryz.isAgg0
 z0:=Tryz.sizeOf0
 v0:=Tryz.zeroValue0
 t4:=Tryz.underlying4
 a4:=Tryz.isAgg4
 z4:=Tryz.sizeOf4
 v4:=Tryz.zeroValue4
 t23:=Tryz.underlying120
 a23:=Tryz.isAgg120
 z23:=Tryz.sizeOf120
 v23:=Tryz.zeroValue120
 t26:=Tryz.underlying9
 a26:=Tryz.isAgg9
 z26:=Tryz.sizeOf9
 v26:=Tryz.zeroValue9
 t27:=Tryz.underlying180
 a27:=Tryz.isAgg180
 z27:=Tryz.sizeOf180
 v27:=Tryz.zeroValue180
 t28:=Tryz.underlying181
 a28:=Tryz.isAgg181
 z28:=Tryz.sizeOf181
 v28:=Tryz.zeroValue181
 t33:=Tryz.underlying74
 a33:=Tryz.isAgg74
 z33:=Tryz.sizeOf74
 v33:=Tryz.zeroValue74

def RR:Value→Option (DataW Unit × List MemPlace):=fun _=>some (.nil,[])
def Am (e:bK):Lit × DataW Unit:=(.string e.1.p.data.toList,.nil)
def ua (E:List bK):DataW Unit:=.map ((E.map Am).foldr DataW.insert [])
theorem EZ:Tryz.prog.underlying 9=some .string:=by kernel_rfl
theorem yY {s:ByteArray} (hs:s.size≤1000000000):keyOf Tryz.prog 9 (Value.string s)=some (Lit.string s.data.toList):=by
 unfold keyOf mapKey
 rw [EZ]
 exact if_pos (Nat.le_trans hs (by decide))
theorem G1 (e:bK) (hs:e.1.p.size≤1000000000):WideElems.rg Tryz.prog 9 RR (ky e)=Am e:=by
 unfold WideElems.rg WideElems.rd
 have:(ky e).key=Value.string e.1.p:=rfl
 rw [this,yY hs];rfl
theorem Ed {w:World} {m cl:Nat} {E:List bK} (hB:dh E cl) (hh:w.heap[m]?=some (.map (E.map ky).toArray cl)) (dF:E.length≤1000):w.ownsMap Tryz.prog 9 RR m E.length (ua E):=by
 refine ⟨_,_,hh,⟨?_,⟨?_,?_,?_⟩,?_⟩,by simp,?_⟩
 ·simp only [List.size_toArray,List.length_map]
  exact Nat.le_trans dF (by decide)
 ·intro x hx
  obtain ⟨e,he,rfl⟩:=List.mem_map.1 (show x∈E.map ky by simpa using hx)
  exact hB.born e he
 ·have:(E.map ky).map (·.born)=E.map fun e=>e.2:=by rw [List.map_map];rfl
  rw [List.toList_toArray,this];exact hB.borns
 ·have:(E.map ky).map (·.key)=(E.map fun e=>e.1.p).map Value.string:=by rw [List.map_map,List.map_map];rfl
  rw [List.toList_toArray,this]
  refine List.pairwise_map.2 (hB.names.imp fun h h'=>h ?_)
  cases h';rfl
 ·intro x hx
  obtain ⟨e,he,rfl⟩:=List.mem_map.1 (show x∈E.map ky by simpa using hx)
  refine ⟨Am e,?_⟩
  unfold WideElems.rd
  have:(ky e).key=Value.string e.1.p:=rfl
  rw [this,yY (hB.size e he)];rfl
 ·unfold ua
  rw [List.toList_toArray,List.map_map]
  have:E.map ((WideElems.rg Tryz.prog 9 RR) ∘ ky)=E.map Am:=List.map_congr_left fun e he=>G1 e (hB.size e he)
  rw [this]
theorem Fa (E:List bK):(strKeys (ua E)).Perm (E.map fun e=>e.1.p.data.toList):=by
 unfold strKeys ua
 refine ((WideShapes.sorted_perm (E.map Am)).map _).trans ?_
 rw [List.map_map];exact List.Perm.refl _
theorem oi (E:List bK):Maps.size (ua E)=E.length:=by
 show (List.foldr DataW.insert [] (List.map Am E)).length=E.length
 rw [DataW.length_sorted];simp
def Cu (w w':World) (v:Value) (l:List ByteArray):Prop:=(v=.slice none 0 0∧l=[])∨(l≠[]∧eZ w w' v (l.map Value.string) l.length 1 9)
theorem Ay {w w':World} {v:Value} {l:List ByteArray} (h:w'.ownsRow w.heap.size 9 1 v l.length (l.map Value.string)) (hn:v=.slice none 0 0↔l=[]):Cu w w' v l:=by
 rcases h.2 with ⟨h1,h2⟩ | ⟨g,cap,cur,rfl,hg,hh,h1,h2,h3,h4⟩
 ·exact .inl ⟨h1,List.length_eq_zero_iff.1 h2⟩
 ·refine .inr ⟨fun h0=>(by have:=hn.2 h0;cases this),g,cap,cur.toList.drop l.length,rfl,hg,h1,?_,?_⟩
  ·rw [hh,← h4,Nat.mul_one,List.take_append_drop]
  ·rw [← h4,Nat.mul_one,List.take_append_drop];simpa using h3
theorem Ax (l:List (List UInt8)):l.map encStr=(l.map fun x=>(⟨x.toArray⟩:ByteArray)).map Value.string:=by rw [List.map_map];rfl
theorem xZ (E:List bK):(E.map fun e=>e.1.p.data.toList).map (fun x=>(⟨x.toArray⟩:ByteArray))=E.map fun e=>e.1.p:=by
 rw [List.map_map]
 exact List.map_congr_left fun e _=>by simp
theorem rP {w:World} {x m cl:Nat} {E:List bK} (hx:w.heap[x]?=some (.cells #[.map (some m)] 120 (0,0))) (hB:dh E cl) (hh:w.heap[m]?=some (.map (E.map ky).toArray cl)) (dF:E.length≤1000):
  Calls Tryz.prog 138 #[.func (.func 140) #[] #[.pointer (some ⟨x,0,none⟩)]] w fun e w'=>∃ v l,e=.returned v∧l.Perm (E.map fun e=>e.1.p)∧Cu w w' v l∧Below w.heap.size w w':=by
 have hown:=Ed hB hh dF
 have hxl:x<w.heap.size:=(Array.getElem?_eq_some_iff.1 hx).1
 have hseq:SeqGives Fence.wide 3 Tryz.prog 140 #[.pointer (some ⟨x,0,none⟩)] encStr (fun ss=>ss.Perm (strKeys (ua E))) (Maps.size (ua E)) w:=
  AnyZ.keys_gives (ρ:=lf) { uH with } Fence.wide 3 trivial rfl (by omega) x m E.length (ua E) w hxl (by rw [bZ hx];rfl) hown
 have h:=AnyZ.collect_in Ch Fence.wide 5 trivial trivial rfl (by omega) 140 #[.pointer (some ⟨x,0,none⟩)] trivial (enters_of Tryz.func140 (by kernel_rfl) rfl) _ (Maps.size (ua E)) (by rw [oi];exact Nat.le_trans dF (by decide)) (by rw [oi];omega) w hseq
 refine (callsIn_wide.1 h).mono fun e w' ⟨v,ss,he,hp,hrow,hnil,hb⟩=>⟨v,ss.map fun x=>⟨x.toArray⟩,he,?_,?_,hb⟩
 ·have:=(hp.trans (Fa E)).map fun x=>(⟨x.toArray⟩:ByteArray)
  rw [xZ] at this;exact this
 ·rw [Ax] at hrow
  have hrow:w'.ownsRow w.heap.size 9 1 v ss.length ((ss.map fun x=>(⟨x.toArray⟩:ByteArray)).map Value.string):=hrow
  refine Ay (by simpa using hrow) ?_
  rw [hnil];simp
theorem AV {E:List bK} {cl:Nat} (hB:dh E cl) {l:List ByteArray} (hp:l.Perm (E.map fun e=>e.1.p)):∃ L:List Iy,L.map (·.1)=l:=by
 have hs:∀ s∈l,s.size≤1000000000:=fun s hs=>by
  obtain ⟨e,he,rfl⟩:=List.mem_map.1 (hp.mem_iff.1 hs)
  exact hB.size e he
 exact ⟨l.attach.map fun s=>⟨s.1,hs s.1 s.2⟩,by rw [List.map_map];exact List.attach_map_subtype_val l⟩
theorem qn {E:List bK} {l:List ByteArray} (hp:l.Perm (E.map fun e=>e.1.p)):fC l=fC (E.map fun e=>e.1.p):=
 oJ (mg _) ((cO _).trans hp.symm)
def wH (w:World) (l:List ByteArray) (e:Ending) (w':World):Prop:=∃ v,e=.returned v∧Cu w w' v l∧Below w.heap.size w w'
theorem uE {w:World} {x m cl:Nat} {E:List bK} (hm:MX w) (hx:w.heap[x]?=some (.cells #[.map (some m)] 120 (0,0))) (hB:dh E cl) (hh:w.heap[m]?=some (.map (E.map ky).toArray cl)) (dF:E.length≤1000):
  Calls Tryz.prog 100 #[.func (.func 140) #[] #[.pointer (some ⟨x,0,none⟩)],.func (.func 102) #[] #[]] w (wH w (fC (E.map fun e=>e.1.p))):=by
 have hc:=rP hx hB hh dF
 clear hx hh
 go_enter Tryz.func100,Tryz.ntmps100
 go_wp2_with (go_at_call 138;refine hc.mono ?_;rintro e W ⟨v,l,rfl,hp,hrow,hb⟩)
 rcases hrow with ⟨rfl,rfl⟩ | ⟨hne,b,c,rest,rfl,hbase,hnc,hbh,hsz⟩
 ·go_wp2_with (go_at_call 139;refine (AnyF.slices_SortFunc_none { ye with } none 0 _ W).mono ?_;rintro e w' ⟨rfl,rfl⟩)
  go_ret
  refine ⟨_,rfl,.inl ⟨rfl,?_⟩,hb⟩
  rw [← qn hp];exact List.length_eq_zero_iff.1 (cO []).length_eq
 ·have hs:=qn hp
  obtain ⟨L,rfl⟩:=AV hB hp
  have hm':MX W:=hm.cr fun k hk=>hb.block k hk
  have hbm:b≠2:=by
   obtain ⟨z,hz⟩:=hm
   intro h0
   have h1:2<w.heap.size:=by
    rcases Nat.lt_or_ge 2 w.heap.size with h' | h'
    ·exact h'
    ·unfold World.cell? at hz
     simp only at hz
     rw [Array.getElem?_eq_none h'] at hz
     cases hz
   omega
  have hbh':W.heap[b]?=some (.cells (L.map wx++rest).toArray 9 (0,0)):=by
   rw [hbh,List.map_map];rfl
  have hll:L.length≤1000:=by
   have:=hp.length_eq
   simp only [List.length_map] at this
   omega
  have cS:=xJ (cap:=c) hm' hbm hbh' (by omega)
  have hlen:(L.map (·.1)).length=L.length:=by simp
  rw [← hlen] at cS
  have HS:=Lib.hid hs
  have HZ:=Lib.hid hsz
  clear hbh hbh' hs hlen hsz hll
  go_wp2_with (go_at_call 139;refine cS.mono ?_;rintro e w' ⟨rfl,hbut,hcells⟩)
  go_ret
  refine ⟨_,rfl,.inr ⟨?_,b,c,rest,?_,hbase,?_,?_,?_⟩,hbut.os.trans hb.os,hbut.tape.trans hb.tape,hbut.output.trans hb.output,Nat.le_trans hb.size hbut.size,fun k hk=>(hbut.block k (Nat.lt_of_lt_of_le hk hb.size) (by omega)).trans (hb.block k hk)⟩
  ·rw [← HS.out]
   intro h0
   have:=(cO (L.map (·.1))).length_eq
   rw [h0] at this
   exact hne (List.length_eq_zero_iff.1 this.symm)
  ·rw [← HS.out,(cO _).length_eq]
   simp
  ·rw [← HS.out,(cO _).length_eq];exact hnc
  ·rw [← HS.out];exact hcells
  ·rw [← HS.out]
   have h1:=HZ.out
   simp only [List.length_append,List.length_map] at h1 ⊢
   rw [(cO _).length_eq];simpa using h1
theorem oH {w:World} {b m cl:Nat} {s:Int} {E:List bK} (hm:MX w) (hA:gq w b m s E cl) (hB:dh E cl) (dF:E.length≤1000):
  Calls Tryz.prog 57 #[.pointer (some ⟨b,0,none⟩)] w (wH w (fC (E.map fun e=>e.1.p))):=by
 have hbl:b<w.heap.size:=(Array.getElem?_eq_some_iff.1 hA.row).1
 have hml:m<w.heap.size:=(Array.getElem?_eq_some_iff.1 hA.map).1
 have h1:w.cell? ⟨b,1,none⟩=some (.map (some m)):=by rw [bZ hA.row];rfl
 have hb:Below w.heap.size w (w.alloc (.cells #[.map (some m)] 120)):=(Below.refl _ _).alloc (Nat.le_refl _) _
 have cs:=uE (x:=w.heap.size) (hm.cr fun k hk=>hb.block k hk) (show (w.heap.push _)[w.heap.size]?=some _ by rw [Array.getElem?_push_size]) hB ((hb.block m hml).trans hA.map) dF
 have ck:=callsIn_wide.1 (AnyZ.keys_in uH Fence.wide 5 trivial rfl (some m) w)
 clear hA
 go_enter Tryz.func57,Tryz.ntmps57
 go_wp2_with (first
  | (go_at_call 101;refine ck.mono ?_;rintro e w' ⟨rfl,rfl⟩)
  | (go_at_call 100;refine cs.mono ?_;rintro e w' ⟨v,rfl,hv,hb2⟩))
 go_ret
 have h3:w.heap.size≤(w.alloc (.cells #[.map (some m)] 120)).heap.size:=hb.size
 refine ⟨_,rfl,?_,hb.trans (hb2.mono h3)⟩
 rcases hv with hv | ⟨hne,g,c,rest,h4,h5,h6⟩
 ·exact .inl hv
 ·exact .inr ⟨hne,g,c,rest,h4,Nat.le_trans h3 h5,h6⟩
end paths
end Go.Proofs.YtcbokmadfcedaaaGreatDoor
set_option linter.unusedSimpArgs false
set_option linter.unusedVariables false
set_option maxRecDepth 100000
namespace Go.Proofs.YtcbokmadfcedaaaGreatDoor
open Go Go.Rx Go.RowKit Go.Proofs
namespace paths
def Ii (s:Int):Option (SO × Bool):=some (.row [.v (.int .u64 s),.map 1] 122 (0,0) none,false)
def BB (es:List (SV × SV × Nat)) (cl:Nat):Option (SO × Bool):=some (.map es cl,false)
theorem tQ {ν:aA}:∀ E:List bK,cJ ν (E.map mC) (E.map ky)
 | []=>rfl
 | e::E=>⟨ky e,E.map ky,rfl,VR.ab.2 rfl,VR.aW.2 ⟨_,rfl,aj.lits ν (eV e.1)⟩,rfl,tQ E⟩
theorem jG {b m:Nat × Nat} {o o':SO} (z:Nat):¬ (az [b,m] ([o,o'].map fun o=>(o,false))) z:=aO (os:=[_,_])
def iV (w:World) (a:Option Addr) (l:Nat) (zs:List Int):Prop:=fW w a l zs∧(a=none→l=0)
theorem iV.cr {w0 w:World} {a:Option Addr} {l:Nat} {zs:List Int} (h:iV w0 a l zs) (hk:∀ k,k<w0.heap.size→w.heap[k]?=w0.heap[k]?):iV w a l zs:=⟨h.1.cr hk,h.2⟩
theorem iV.below {w0 w:World} {a:Option Addr} {l:Nat} {zs:List Int} (h:iV w0 a l zs) (hb:Below w0.heap.size w0 w):iV w a l zs:=h.cr fun k hk=>hb.block k hk
theorem dg.xM {w:World} {x:aD} {zs:List Int} (h:dg w.hp x zs) (hl:zs.length≤140737488355328):iV w x.a x.l zs:=by
 rcases h with ⟨h1,h2,h3⟩ | ⟨b,rest,h1,h2,h3⟩
 ·rw [h1,h2,h3]
  exact ⟨⟨rfl,Nat.zero_le _,fun b hb=>by cases hb⟩,fun _=>rfl⟩
 ·rw [h1]
  refine ⟨⟨h3,by omega,fun b' hb' i hi W' hW=>?_⟩,fun h=>by cases h⟩
  cases hb'
  have h2:w.heap[b]?=_:=h2
  have hlt:=(Array.getElem?_eq_some_iff.1 h2).1
  rw [bQ,bZ ((hW b hlt).trans h2)]
  have:i<zs.length:=by omega
  simp [List.getElem?_append_left,this]
theorem iV.bytes {w:World} {a:Option Addr} {l:Nat} {zs:List Int} (h:iV w a l zs):Lib.BytesIn w a l zs:=by
 intro hl
 cases a with
 | none=>exact absurd (h.2 rfl) (by omega)
 | some p=>
  have h3:=h.1.2.2 p rfl
  have h0:=h3 0 hl w fun k _=>rfl
  obtain ⟨b,o,sp⟩:=p
  have hsp:sp=none:=by
   cases sp with
   | none=>rfl
   | some s=>
    exfalso
    unfold World.cell? at h0
    simp [Addr.add] at h0
    split at h0 <;> simp_all
  subst hsp
  refine ⟨b,o,rfl,fun i hi=>?_⟩
  have:=h3 i hi w fun k _=>rfl
  rwa [bQ] at this
theorem B6 {w:World} {o:Obj}:Below w.heap.size w (w.alloc o):=(Below.refl _ _).alloc (Nat.le_refl _) _
theorem gV {w:World} {o o':Obj}:Below w.heap.size w ((w.alloc o).alloc o'):=B6.alloc B6.size _
theorem Gp {w:World} {a:Option Addr} {l c:Nat} {zs:List Int} (h:iV w a l zs):(convert 22 9 (.slice a l c)).run Tryz.prog w=.ok (.string (strOfNums zs)) w:=
 h.bytes.convert h.1.1 c _ _ _ Tryz.underlying22 Tryz.underlying5 Tryz.underlying9
theorem AZ {w:World} {k k':Int} {a a':Option Addr} {l l' c c':Nat} {zs us:List Int} (h1:iV w a l zs) (h2:iV w a' l' us):Calls Tryz.prog 86 #[.agg #[.int .i64 k,.slice a l c],.agg #[.int .i64 k',.slice a' l' c']] w fun e w'=>e=.returned (.bool ((k==k')&&(Lib.bytesOf zs==Lib.bytesOf us)))∧Below w.heap.size w w':=by
 have g1:∀ o o',(convert 22 9 (.slice a l c)).run Tryz.prog ((w.alloc o).alloc o')=.ok (.string (strOfNums zs)) ((w.alloc o).alloc o'):=fun o o'=>Gp (h1.below gV)
 have g2:∀ o o',(convert 22 9 (.slice a' l' c')).run Tryz.prog ((w.alloc o).alloc o')=.ok (.string (strOfNums us)) ((w.alloc o).alloc o'):=fun o o'=>Gp (h2.below gV)
 rw [← Lib.strOfNums_toList,← Lib.strOfNums_toList]
 by_cases hk:k=k'
 ·have hk':(k==k')=true:=by simp [hk]
  go_enter Tryz.func86,Tryz.ntmps86
  go_wp2
  go_ret
  exact ⟨by rw [hk'];rfl,gV⟩
 ·have hk':(k==k')=false:=by simpa using hk
  go_enter Tryz.func86,Tryz.ntmps86
  go_wp2
  go_ret
  exact ⟨by rw [hk'];rfl,gV⟩
def zb (x y:aD) (zs us:List Int):Bool:=(x.p.toList==y.p.toList)&&((x.v==y.v)&&((x.k==y.k)&&(Lib.bytesOf zs==Lib.bytesOf us)))
theorem HV {w:World} {x y:aD} {zs us:List Int} (h1:iV w x.a x.l zs) (h2:iV w y.a y.l us):Calls Tryz.prog 56 #[.agg (eV x).toArray,.agg (eV y).toArray] w fun e w'=>e=.returned (.bool (zb x y zs us))∧Below w.heap.size w w':=by
 unfold zb
 obtain ⟨p,v,k,a,l,c⟩:=x
 obtain ⟨p',v',k',a',l',c'⟩:=y
 show Calls Tryz.prog 56 #[.agg #[.string p,.int .u64 v,.int .i64 k,.slice a l c],.agg #[.string p',.int .u64 v',.int .i64 k',.slice a' l' c']] w _
 dsimp only at h1 h2 ⊢
 by_cases hp:(p.toList==p'.toList)=true
 ·by_cases hv:(v==v')=true
  ·go_enter Tryz.func56,Tryz.ntmps56
   go_wp2_with (go_at_call 86;refine (AZ (h1.below gV) (h2.below gV)).mono ?_;rintro e w' ⟨rfl,hb⟩)
   go_ret
   exact ⟨by rw [hp,hv];rfl,gV.trans (hb.mono gV.size)⟩
  ·have hv:(v==v')=false:=by simpa using hv
   go_enter Tryz.func56,Tryz.ntmps56
   go_wp2
   go_ret
   exact ⟨by rw [hp,hv];rfl,gV⟩
 ·have hp:(p.toList==p'.toList)=false:=by simpa using hp
  go_enter Tryz.func56,Tryz.ntmps56
  go_wp2
  go_ret
  exact ⟨by rw [hp];rfl,gV⟩
noncomputable def vu (s:Int) (es:List (SV × SV × Nat)) (cl:Nat) (p:ByteArray) (x:aD) (ys:List Int):SM:=(aS (mV x.a x.l x.c ys) 58 [.ptr 0 0,.v (.string p)] (bc 6 2 0 [Ii s,BB es cl])).getD dx
theorem Ol (s:Int) (es:List (SV × SV × Nat)) (cl:Nat) (j born:Nat) (x:aD) (ys:List Int):qm (mV x.a x.l x.c ys) 58 300 (vu s es cl x.p x ys) ([(1000,.b true)]++ff [0] true++[(1,.hit j (.agg [.v (.string x.p),.v (.int .u64 x.v),.v (.int .i64 x.k),.v (.slice x.a x.l x.c)]) born)]++ff (List.range 30) false) [] (.v (.agg #[.string x.p,.int .u64 x.v,.int .i64 x.k,.slice none 0 0]))=[Value.agg { toList:=[Value.string x.1,Value.int IntKind.u64 x.2,vZ x.3,Value.slice none 0 0]:Array Value }=Value.agg { toList:=[Value.string x.1,Value.int IntKind.u64 x.2,vZ x.3,Value.slice none 0 0]:Array Value },(x.3==x.3)=true,x.4=none,false=false,(∀ (e:SV × SV × Nat),e∈List.take j es→cQ x.p e.fst)∧es[j]?=some (SV.v (Value.string x.1),SV.agg [SV.v (Value.string x.1),SV.v (Value.int IntKind.u64 x.2),SV.v (vZ x.3),SV.v (Value.slice x.4 x.5 x.6)],born),(!false)=true]:=by kernel_rfl
theorem O5 (s:Int) (es:List (SV × SV × Nat)) (cl:Nat) (j born:Nat) (x:aD) (ys:List Int) (m:List SV):im (mV x.a x.l x.c ys) 58 300 (vu s es cl x.p x ys) ([(1000,.b true)]++ff [0] true++[(1,.hit j (.agg [.v (.string x.p),.v (.int .u64 x.v),.v (.int .i64 x.k),.v (.slice x.a x.l x.c)]) born)]++ff [2] false++ff (List.range 30) true) (.agg [.v (.string x.p),.v (.int .u64 x.v),.v (.int .i64 x.k),.sl 9 0 x.l none]) 9 (.row m 5 (0,0) (some 1))=[Value.string x.1=Value.string x.1,Value.int IntKind.u64 x.2=Value.int IntKind.u64 x.2,vZ x.3=vZ x.3,0=0∧x.5=x.5∧nZ=none,List.map SV.v (List.map (Value.int IntKind.u8) ys)=m,m.all ae=true,(x.3==x.3)=true,(x.4=x.4∧x.5=x.5∧x.6=x.6)∧x.4≠none,false=false,(∀ (e:SV × SV × Nat),e∈List.take j es→cQ x.p e.fst)∧es[j]?=some (SV.v (Value.string x.1),SV.agg [SV.v (Value.string x.1),SV.v (Value.int IntKind.u64 x.2),SV.v (vZ x.3),SV.v (Value.slice x.4 x.5 x.6)],born),(!false)=true]:=by kernel_rfl
theorem MK (s:Int) (es:List (SV × SV × Nat)) (cl:Nat) (p:ByteArray) (x:aD) (ys:List Int) (v:Value):au (mV x.a x.l x.c ys) 58 300 (vu s es cl p x ys) ([(1000,.b true)]++ff [0] true++[(1,.lX)]++ff (List.range 30) true) v=[Value.agg { toList:=[Value.string p,Value.int IntKind.u64 0,vZ 0,Value.slice none 0 0]:Array Value }=v,true=true,∀ (e:SV × SV × Nat),e∈es→cQ p e.fst,(!false)=true]:=by kernel_rfl
theorem sI {Q:Env} (hP:Q.P=Tryz.prog) (hG:Q.G=[]) {f:FuncId} {w:World} {b m cl:Nat} {s:Int} {E:List bK} (hA:gq w b m s E cl) (hne:b≠m) {p:ByteArray} {R:Ending→World→Prop} {S0:SM} (hS0:aS Q f [.ptr 0 0,.v (.string p)] (bc 6 2 0 [Ii s,BB (E.map mC) cl])=some S0)
  (h:∀ cs0,ao Q (az [(b,0),(m,0)] ([SO.row [.v (.int .u64 s),.map 1] 122 (0,0) none,SO.map (E.map mC) cl].map fun o=>(o,false))) w cs0 f R (ax [(b,0),(m,0)]) S0):
  Calls Tryz.prog f #[.pointer (some ⟨b,0,none⟩),.string p] w R:=by
 refine aY (E:=Q) hP (d:=6) (l:=[(b,0),(m,0)]) (os:=[.row [.v (.int .u64 s),.map 1] 122 (0,0) none,.map (E.map mC) cl]) rfl (by simp) (by simpa using hne) ?_ hG (args:=[.ptr 0 0,.v (.string p)]) (a:=[.pointer (some ⟨b,0,none⟩),.string p]) (S0:=S0) hS0 (aj.cons (VR.aw.2 ⟨(b,0),rfl,rfl⟩) (aj.cons (VR.ab.2 rfl) aj.nil)) h
 intro j o' b' c' h1 h2
 match j with
 | 0=>
  simp only [List.getElem?_cons_zero,Option.some.injEq] at h1 h2
  subst h1
  cases h2
  exact ⟨_,hA.row,_,[],rfl,aj.cons (VR.ab.2 rfl) (aj.cons (VR.bM.2 ⟨(m,0),rfl,rfl⟩) aj.nil),rfl⟩
 | 1=>
  simp only [List.getElem?_cons_succ,List.getElem?_cons_zero,Option.some.injEq] at h1 h2
  subst h1
  cases h2
  exact ⟨_,hA.map,_,rfl,tQ E⟩
 | j+2=>simp at h1
def kL (c:aD→List Int) (l:List aD) (p:ByteArray):Int × Int × List Int:=match l.find? (Fy p) with | some f=>(f.v,f.k,c f) | none=>(0,0,[])
def mZ (w w':World) (x:aD) (zs:List Int):Prop:=dg w'.hp x zs∧zs.length≤140737488355328∧∀ b,x.a=some b→w.heap.size≤b.block
def wb (H:Hp) (a:Option Addr) (l:Nat) (zs:List Int):Prop:=∀ w:World,H.Sub w.hp→iV w a l zs
theorem mZ.JC {H:Hp} {w w':World} {x:aD} {zs:List Int} (h:mZ w w' x zs):wb (H.grow w w') x.a x.l zs:=fun w2 h2=>by
 obtain ⟨hb,hl,hn⟩:=h
 refine dg.xM (w:=w2) ?_ hl
 rcases hb with hb | ⟨b,rest,h1,h3,h4⟩
 ·exact .inl hb
 ·refine .inr ⟨b,rest,h1,h2 _ _ ?_,h4⟩
  have:=hn _ h1
  unfold Hp.grow
  rw [if_neg (by simp only at this;omega)]
  exact h3
def Iz (H:Hp) (z:Int × Int × List Int) (p:ByteArray) (w:World) (e:Ending) (w':World):Prop:=Below w.heap.size w w'∧∃ x zs,e=.returned (.agg (eV x).toArray)∧x.p=p∧(x.v,x.k,zs)=z∧wb (H.grow w w') x.a x.l zs∧∀ b,x.a=some b→w.heap.size≤b.block
theorem mZ.both {H:Hp} {w w':World} {x:aD} {zs:List Int} (h:mZ w w' x zs):wb (H.grow w w') x.a x.l zs∧∀ b,x.a=some b→w.heap.size≤b.block:=⟨h.JC,h.2.2⟩
theorem wB {w:World}:iV w none 0 []:=⟨⟨rfl,Nat.zero_le _,fun b hb=>by cases hb⟩,fun _=>rfl⟩
theorem oG {w w':World} {x:aD} (h:x.a=none) (h2:x.l=0):mZ w w' x []:=⟨.inl ⟨h,h2,rfl⟩,Nat.zero_le _,fun b hb=>by rw [h] at hb;cases hb⟩
theorem Ai {w w':World} {x:aD} {zs:List Int} {b c:Nat} {v:Value} (hD:iV w x.a x.l zs) (hv:v=.slice (some ⟨b,0,none⟩) x.l c) (h:eZ w w' v (zs.map (Value.int .u8)) x.l 1 5):mZ w w' ⟨x.p,x.v,x.k,some ⟨b,0,none⟩,x.l,c⟩ zs:=by
 obtain ⟨g,c',rest,h2,h3,h4,h5,h6⟩:=h
 rw [hv] at h2
 cases h2
 exact ⟨.inr ⟨b,rest,rfl,h5,hD.1.1⟩,by rw [hD.1.1];exact hD.1.2.1,fun b' hb'=>by cases hb';exact h3⟩
theorem Bd {w:World} {b m cl:Nat} {s:Int} {E:List bK} {cm:aD→List Int} (hA:gq w b m s E cl) (hne:b≠m) (hB:dh E cl) (hd:∀ e∈E,iV w e.1.a e.1.l (cm e.1)) (p:ByteArray) (H:Hp):
  Calls Tryz.prog 58 #[.pointer (some ⟨b,0,none⟩),.string p] w (Iz H (kL cm (E.map (·.1)) p) p w):=by
 unfold kL
 cases hf:(E.map (·.1)).find? (Fy p) with
 | none=>
  have hm:∀ e∈E,e.1.p≠p:=fun e he h=>by
   have:=List.find?_eq_none.1 hf e.1 (List.mem_map.2 ⟨e,he,rfl⟩)
   exact this (zy.2 h)
  refine sI (Q:=mV none 0 0 []) rfl rfl hA hne (S0:=vu s (E.map mC) cl p ⟨p,0,0,none,0,0⟩ []) (by kernel_rfl) fun cs0=>?_
  refine ao.au (Cq (x:=⟨p,0,0,none,0,0⟩) jG wB.1) (n:=300) (o:=([(1000,.b true)]++ff [0] true++[(1,.lX)]++ff (List.range 30) true)) (v:=.agg #[.string p,.int .u64 0,.int .i64 0,.slice none 0 0]) ?_ fun ν' M1 w1 s' w' _ hB hr=>⟨aG jG hB hr,⟨p,0,0,none,0,0⟩,[],rfl,rfl,rfl,(oG rfl rfl).both⟩
  rw [show (mV none 0 0 [])=mV (⟨p,0,0,none,0,0⟩:aD).a (⟨p,0,0,none,0,0⟩:aD).l (⟨p,0,0,none,0,0⟩:aD).c [] from rfl,MK]
  simp only [af,and_self,and_true,true_and]
  exact ⟨rfl,pq hm⟩
 | some f=>
  have hf1:=List.mem_of_find?_eq_some hf
  have hfp:f.p=p:=zy.1 (List.find?_some hf)
  obtain ⟨g,hg,rfl⟩:=List.mem_map.1 hf1
  subst hfp
  have hD:=hd g hg
  obtain ⟨j,hj,hx⟩:=ui hB.names hg
  refine sI (Q:=mV g.1.a g.1.l g.1.c (cm g.1)) rfl rfl hA hne (S0:=vu s (E.map mC) cl g.1.p g.1 (cm g.1)) (by kernel_rfl) fun cs0=>?_
  by_cases ha:g.1.a=none
  ·refine FQ (v:=.agg #[.string g.1.p,.int .u64 g.1.v,.int .i64 g.1.k,.slice none 0 0]) (Cq jG hD.1) jG (n:=300) (o:=([(1000,.b true)]++ff [0] true++[(1,.hit j (.agg [.v (.string g.1.p),.v (.int .u64 g.1.v),.v (.int .i64 g.1.k),.v (.slice g.1.a g.1.l g.1.c)]) g.2)]++ff (List.range 30) false)) ⟨?_⟩ fun w' hB=>⟨hB,⟨g.1.p,g.1.v,g.1.k,none,0,0⟩,cm g.1,rfl,rfl,rfl,?_⟩
   ·rw [Ol]
    simp only [af,and_self,and_true,true_and]
    refine ⟨⟨⟨rfl,hj⟩,ha⟩,?_⟩;first | rfl | exact beq_self_eq_true g.1.k
   ·have h0:cm g.1=[]:=List.length_eq_zero_iff.1 (by rw [hD.1.1];exact hD.2 ha)
    rw [h0];exact (oG rfl rfl).both
  ·refine ao.im (Cq jG hD.1) (n:=300) (o:=([(1000,.b true)]++ff [0] true++[(1,.hit j (.agg [.v (.string g.1.p),.v (.int .u64 g.1.v),.v (.int .i64 g.1.k),.v (.slice g.1.a g.1.l g.1.c)]) g.2)]++ff [2] false++ff (List.range 30) true)) (x:=.agg [.v (.string g.1.p),.v (.int .u64 g.1.v),.v (.int .i64 g.1.k),.sl 9 0 g.1.l none]) (i:=9) (so:=.row (List.map SV.v (List.map (Value.int .u8) (cm g.1))) 5 (0,0) (some 1)) (by
    rw [O5]
    simp only [af,gj,and_self,and_true,true_and]
    refine ⟨⟨⟨rfl,hj⟩,ha⟩,?_⟩;first | rfl | exact beq_self_eq_true g.1.k) fun ν' w' y b1 ob hv hb ho hor hw hB=>?_
   have hn:w.heap.size≤b1.1:=by
    rcases hw with h | h
    ·exact h
    ·exact absurd h (jG _)
   obtain ⟨_,_,_,_,hB,hr⟩:=hB
   obtain ⟨a,rfl,ha1⟩:=VR.aW.1 hv
   obtain ⟨y1,a1,rfl,q1,ha2⟩:=ha1.cons_inv
   obtain ⟨y2,a2,rfl,q2,ha3⟩:=ha2.cons_inv
   obtain ⟨y3,a3,rfl,q3,ha4⟩:=ha3.cons_inv
   obtain ⟨y4,a4,rfl,q4,ha5⟩:=ha4.cons_inv
   obtain rfl:=ha5.aq
   obtain rfl:=VR.ab.1 q1
   obtain rfl:=VR.ab.1 q2
   obtain rfl:=VR.ab.1 q3
   have hs:=eZ.qR q4 hb ho hor hn fun zs hz=>qt hz
   have hs2:=hs
   obtain ⟨g',c,rest,rfl,_⟩:=hs2
   exact ⟨aG jG hB hr,⟨g.1.p,g.1.v,g.1.k,_,g.1.l,c⟩,cm g.1,rfl,rfl,rfl,(Ai (x:=g.1) hD rfl hs).both⟩
def A0 (x:aD):SV:=.v (.agg #[.string x.p,.int .u64 x.v,.int .i64 x.k,.slice x.a x.l x.c])
theorem a8 {W w:World} {H:Hp} (h0:W.hp.Sub H) (h:H.Sub w.hp):∀ k,k<W.heap.size→w.heap[k]?=W.heap[k]?:=fun k hk=>by
 have h1:=h _ _ (h0 k W.heap[k] (Array.getElem?_eq_getElem hk))
 rw [Array.getElem?_eq_getElem hk];exact h1
end paths
end Go.Proofs.YtcbokmadfcedaaaGreatDoor
