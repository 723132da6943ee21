/- What the law AuditReplicas leans on, part 3: the symbolic executor, proved sound, contracts of functions, plain lemmas. By an AI agent. -/
import Derived.Test.YtbjmmnegkpeboaaPk2
import Derived.SevenTiedAt
import Derived.Stop.Joined
import Derived.Lib.LaidTab
import Derived.Test.YtbjmmnegkpeboaaChecked
import Derived.IntWalk
import Derived.Shelf.LaysM
import Derived.Shelf.Strings.Cut
import Derived.Shelf.Small.Strs
import Derived.WalkSmall
import Derived.Shelf.Bytes.SlClone
import Derived.SizedLaws
import Derived.WalkKit
import Derived.Lib.Hide
import Derived.Laws.Cover1
import Derived.Shelf.SlSortCmp.NoneTotal
import Derived.Shelf.SlIter.Collect
import Derived.Shelf.SlIter.Nil
import Derived.Shelf.Bytes.SlEqualAll
import Derived.Shelf.Slices.CompactS
import Derived.Shelf.Strings.LastIndex
import Derived.Shelf.Strings.Prefix
set_option linter.unusedSimpArgs false
set_option linter.unusedVariables false
namespace Go.Rx
open Go.RowKit (Below)
section
variable {E:Env} {ν:aU} {M:Own} {w0 w:World} {s s':SH} {cs0:List Frame} {f:FuncId} {R:Ending→World→Prop}

theorem af.mono {ν':aU} {S:SM} (h:af E M w0 cs0 f R ν S) (k:ν.Le ν'):af E M w0 cs0 f R ν' S:=fun ν1 m M1 w1 hle=>h ν1 m M1 w1 (k.trans hle)

theorem pb (K:aW E M w0) (hR:∀ ν' M1 w1 s' w',ν.Le ν'→dz M w0 M1 w1→HR ν' M1 w1 s' w'→R (.returned (.bool true)) w'):∀ {n:Nat} {l l':List SM},C7 E f n l=some l'→
  (∀ S∈l',S.mem.ob∧af E M w0 cs0 f R ν S)→∀ S∈l,S.mem.ob∧af E M w0 cs0 f R ν S
 | 0,_,_,h,hs=>by cases h;exact hs
 | _+1,[],_,_,_=>fun S hS=>by cases hS
 | n+1,S::l,l',h,hs=>by
  unfold C7 at h
  cases ho:S.over
  ·rw [ho] at h
   simp only [cond_false] at h
   split at h
   ·cases h
   ·rename_i Ls hL
    have ih:=pb K hR h hs
    intro T hT
    rcases List.mem_cons.1 hT with rfl | hT
    ·obtain ⟨hne,hmono⟩:=mF hL
     obtain ⟨U,r,hU⟩:=List.exists_cons_of_ne_nil hne
     refine ⟨hmono U (by rw [hU];exact List.mem_cons_self) (ih U (List.mem_append_left _ (by rw [hU];exact List.mem_cons_self))).1,?_⟩
     intro ν' m M1 w1 hle hB hm
     obtain ⟨V,hV,hstep⟩:=rj K hB hm hL
     obtain ⟨ob,hgo⟩:=ih V (List.mem_append_left _ hV)
     obtain ⟨_,ν2,m',M2,w2,hle2,hst,hB2,hMR⟩:=hstep ob
     exact (hgo ν2 m' M2 w2 (hle.trans hle2) hB2 hMR).steps hst
    ·exact ih T (List.mem_append_right _ hT)
  ·rw [ho] at h
   simp only [cond_true] at h
   cases hk:Ew E f S
   ·rw [hk] at h;cases h
   ·rw [hk] at h
    simp only [cond_true] at h
    have ih:=pb K hR h hs
    intro T hT
    rcases List.mem_cons.1 hT with rfl | hT
    ·unfold Ew at hk
     split at hk
     ·rename_i s1 he
      have ob:s1.ob:=by
       show ak s1.obl
       rw [List.isEmpty_iff.1 hk];trivial
      refine ⟨fH he ob,af.done he ob fun ν' M1 w1 w' v hle hB hv hr hg=>?_⟩
      rw [VR.ah.1 hv]
      exact hR ν' M1 w1 s1 w' hle hB hr
     ·cases hk
    ·exact ih T hT


theorem ja.aJ {tm:fe} {a:Array Value} (r:ja ν tm a) (t:Nat):ja ν (tm.set t .aJ) a:=by
 have h:=r.set t (x:=.aJ) (y:=a.getD t undef) (by rw [VR];trivial)
 have e:a.setIfInBounds t (a.getD t undef)=a:=by
  apply Array.ext
  ·simp
  ·intro i h1 h2
   rw [Array.getElem_setIfInBounds (by simpa using h1)]
   split
   ·rename_i e;subst e
    have:t<a.size:=h2
    simp [Array.getD,this]
   ·rfl
 rwa [e] at h

def fe.eo (tm:fe) (l:List Nat):fe:=l.foldl (fun tm t=>tm.set t .aJ) tm
theorem ja.eo:∀ {l:List Nat} {tm:fe} {a:Array Value},ja ν tm a→ja ν (tm.eo l) a
 | [],_,_,h=>h
 | t::l,_,_,h=>ja.eo (l:=l) (h.aJ t)

def mG:List SI→Bool
 | .drw _ _ _::_=>false
 | _=>true

def SF.eo (F:SF) (l:List Nat):SF:=bif mG F.todo then { F with tm:=F.tm.eo l } else F

theorem eS.eo {hl:List Nat} {F:SF} {fr:Frame} (h:eS E ν M w0 hl F fr) (l:List Nat):eS E ν M w0 hl (F.eo l) fr:=by
 unfold SF.eo
 cases hn:mG F.todo
 ·exact h
 ·obtain ⟨fn,tm,todo,defers,ret,kind,ro⟩:=F
  obtain ⟨fn',tmps,todo',defers',mode',kind',ro'⟩:=fr
  obtain ⟨⟨h1,h2,h3,h4⟩,hret,hmode,hw⟩:=h
  dsimp only at h1 h2 h3 h4 hret hmode hw hn
  refine ⟨⟨h1,h2,h3,h4⟩,hret,hmode,?_⟩
  cases hw with
  | plain ht hk=>exact .plain (ht.eo) hk
  | drw hok hn' d hnl hk=>cases hn

theorem zb.eo {F:SF} {fr:Frame} (h:zb ν F fr) (l:List Nat):zb ν (F.eo l) fr:=by
 unfold SF.eo
 cases hn:mG F.todo
 ·exact h
 ·exact ⟨⟨h.base.fn,h.base.defers,h.base.kind,h.base.ro⟩,h.ret,h.mode,h.tm.eo⟩

theorem SF.mV (F:SF) (l:List Nat):(F.eo l).kind=F.kind:=by unfold SF.eo;cases mG F.todo <;> rfl

def Aa:List SF→List (List Nat)→List SF
 | F::Fs,l::ls=>F.eo l::Aa Fs ls
 | Fs,[]=>Fs
 | [],_=>[]

theorem bn.eo {hl:List Nat} {k:CallKind} {Fs:List SF} {frs:List Frame} (c:bn E ν M w0 cs0 hl k Fs frs):∀ ls:List (List Nat),bn E ν M w0 cs0 hl k (Aa Fs ls) frs:=by
 induction c with
 | nil hnd=>intro ls;cases ls <;> exact .nil hnd
 | wait hf t ih=>
  intro ls
  cases ls with
  | nil=>exact .wait hf t
  | cons l ls=>
   have:=ih ls
   exact .wait (hf.eo l) (by rw [SF.mV];exact this)
 | ret hf t ih=>
  intro ls
  cases ls with
  | nil=>exact .ret hf t
  | cons l ls=>exact .ret (hf.eo l) (by rw [SF.mV];exact ih ls)

def SH.lq (s:SH) (l:List Nat):SH:=l.foldl (fun s i=>bif Nat.blt i (2 ^ s.d) then s.drop i else s) s
theorem HR.lq:∀ {l:List Nat} {s:SH},HR ν M w0 s w→HR ν M w0 (s.lq l) w
 | [],_,h=>h
 | i::l,s,h=>by
  show HR ν M w0 (SH.lq (bif Nat.blt i (2 ^ s.d) then s.drop i else s) l) w
  cases hb:Nat.blt i (2 ^ s.d)
  ·exact HR.lq (l:=l) h
  ·exact HR.lq (l:=l) (h.drop (c4.1 hb))

def SH.x6 (s:SH) (nx:Nat):SH:={ s with nx:=bif Nat.ble s.nx nx then nx else s.nx,dc:=0 }
theorem HR.x6 (h:HR ν M w0 s w) (nx:Nat):HR ν M w0 (s.x6 nx) w:=by
 refine ⟨h.full,h.dom,fun i hi=>h.fresh i (Nat.le_trans ?_ hi),h.obj,h.inj,h.size,h.frame,h.ro,h.os,h.tape,h.output⟩
 show s.nx≤(bif Nat.ble s.nx nx then nx else s.nx)
 cases hb:Nat.ble s.nx nx
 ·exact Nat.le_refl _
 ·exact Nat.le_of_ble_eq_true hb

abbrev Gc:=Bool × List Nat × List (List Nat) × Nat
def SM.gc (S:SM) (g:Gc):SM:=
 bif g.1&&mG S.top.todo then { top:=S.top.eo (g.2.2.1.headD []),callers:=Aa S.callers g.2.2.1.tail,mem:=(S.mem.lq g.2.1).x6 g.2.2.2 } else S

theorem tw:∀ {l:List Nat} {s:SH},(s.lq l).obl=s.obl
 | [],_=>rfl
 | i::l,s=>by
  show (SH.lq (bif Nat.blt i (2 ^ s.d) then s.drop i else s) l).obl=s.obl
  rw [tw (l:=l)]
  cases Nat.blt i (2 ^ s.d) <;> rfl

theorem MR.gc {S:SM} {m:Machine} (h:MR E M w0 cs0 ν S m) (g:Gc):MR E M w0 cs0 ν (S.gc g) m:=by
 obtain ⟨on,os,ts,nx⟩:=g
 unfold SM.gc
 dsimp only
 cases on
 ·exact h
 cases hn:mG S.top.todo
 ·exact h
 simp only [Bool.and_self,cond_true]
 obtain ⟨fr,cs,w,hl,hm,hr,hg,⟨h1,h2,h3⟩,hc⟩:=h
 refine ⟨fr,cs,w,hl,hm,(hr.lq).x6 nx,hg,⟨?_,?_,?_⟩,?_⟩
 ·unfold SF.eo;rw [hn];exact ⟨h1.fn,h1.defers,h1.kind,h1.ro⟩
 ·intro hf
  have hf':S.top.ret=false:=by unfold SF.eo at hf;rw [hn] at hf;exact hf
  refine ⟨(h2 hf').1,?_⟩
  have:=(h2 hf').2
  unfold SF.eo;rw [hn]
  simp only [cond_true]
  revert this hn
  generalize S.top.todo=xs
  generalize fr.todo=ys
  intro hn this
  cases this with
  | plain ht hk=>exact .plain ht.eo hk
  | drw hok hn' d st hk=>cases hn
 ·intro hf
  have hf':S.top.ret=true:=by unfold SF.eo at hf;rw [hn] at hf;exact hf
  refine ⟨(h3 hf').1,?_⟩
  unfold SF.eo;rw [hn];exact (h3 hf').2.eo
 ·dsimp only
  rw [SF.mV];exact hc.eo _

theorem af.gc {S:SM} {g:Gc} (h:(S.gc g).mem.ob∧af E M w0 cs0 f R ν (S.gc g)):S.mem.ob∧af E M w0 cs0 f R ν S:=by
 refine ⟨?_,fun ν' m M1 w1 hle hB hm=>h.2 ν' m M1 w1 hle hB (hm.gc g)⟩
 have:=h.1
 unfold SM.gc at this
 cases hn:(g.1&&mG S.top.todo)
 ·rw [hn] at this;exact this
 ·rw [hn] at this
  show ak S.mem.obl
  have e:((S.mem.lq g.2.1).x6 g.2.2.2).ob:=this
  have e:ak (S.mem.lq g.2.1).obl:=e
  rwa [tw] at e

def NQ:List SM→List Gc→List SM
 | S::l,g::gs=>S.gc g::NQ l gs
 | l,[]=>l
 | [],_=>[]
theorem yk:∀ {l:List SM} {gs:List Gc},(∀ S∈NQ l gs,S.mem.ob∧af E M w0 cs0 f R ν S)→∀ S∈l,S.mem.ob∧af E M w0 cs0 f R ν S
 | [],_,_=>fun S hS=>by cases hS
 | S::l,[],h=>h
 | S::l,g::gs,h=>by
  intro T hT
  rcases List.mem_cons.1 hT with rfl | hT
  ·exact af.gc (h _ List.mem_cons_self)
  ·exact yk (l:=l) (gs:=gs) (fun U hU=>h U (List.mem_cons_of_mem _ hU)) T hT

def pH (E:Env) (f:FuncId) (n:Nat) (l:List SM) (gs:List Gc):Option (List SM):=(C7 E f n l).map fun l=>NQ l gs

theorem xu (K:aW E M w0) (hR:∀ ν' M1 w1 s' w',ν.Le ν'→dz M w0 M1 w1→HR ν' M1 w1 s' w'→R (.returned (.bool true)) w') {n:Nat} {l l':List SM} {gs:List Gc} (h:pH E f n l gs=some l')
  (hs:∀ S∈l',S.mem.ob∧af E M w0 cs0 f R ν S):∀ S∈l,S.mem.ob∧af E M w0 cs0 f R ν S:=by
 unfold pH at h
 obtain ⟨l1,h1,rfl⟩:=Option.map_eq_some_iff.1 h
 exact pb K hR h1 (yk hs)

def dL (E:Env) (M:Own) (w0:World) (f:FuncId) (ν:aU) (l:List SM):Prop:=
 ∀ cs0,∀ S∈l,S.mem.ob∧af E M w0 cs0 f (fun e w'=>e=.returned (.bool true)∧Below w0.heap.size w0 w') ν S
theorem dL.cons {S:SM} {l:List SM} (h:dL E M w0 f ν [S]) (k:dL E M w0 f ν l):dL E M w0 f ν (S::l):=fun cs0 T hT=>by
 rcases List.mem_cons.1 hT with rfl | hT
 ·exact h cs0 _ List.mem_cons_self
 ·exact k cs0 T hT
theorem dL.nil:dL E M w0 f ν []:=fun _ _ h=>by cases h
theorem dL.CR (K:aW E M w0) (hM:∀ b,¬ M b) {n:Nat} {l l':List SM} {gs:List Gc} (h:pH E f n l gs=some l') (hs:dL E M w0 f ν l'):dL E M w0 f ν l:=fun cs0=>
 xu K (fun ν' M1 w1 s' w' _ hB hr=>⟨rfl,aI hM hB hr⟩) h (hs cs0)

theorem uL {P:Program} (hP:E.P=P) {d:Nat} {l:List (Nat × List SV)} {S0:SM} (hG:E.G=(l.map (·.1)).zipIdx) (hd:l.length≤2 ^ d) (hn:(l.map (·.1)).Nodup) (told:∀ r∈l,Told w r)
  (hS0:bC E f [] (jX d l)=some S0) (hs:dL E (fZ l) w f (eX l) [S0]):Calls P f #[] w fun e w'=>e=.returned (.bool true)∧Below w.heap.size w w':=
 nJ (a:=[]) hP hG hd hn told hS0 ay.nil fun cs0=>(hs cs0 S0 List.mem_cons_self).2
end

def Eu (d nx dc:Nat) (l:List (Nat × SO × Bool)):SH:={ d,H:=l.foldl (fun T x=>T.set x.1 (some (x.2.1,x.2.2))) (Tr.mk none d),nx,obl:=[],dc }
def xX (nt d k:Nat) (l:List (Nat × SV)):fe:={ nt,d,T:=l.foldl (fun T x=>T.set x.1 x.2) (Tr.fill (Tr.mk (.v undef) d) 0 (List.replicate k .aJ)) }
end Go.Rx
set_option linter.unusedSimpArgs false
set_option linter.unusedVariables false
namespace Go.Rx
open Go.RowKit
section
variable {H:Type} {enc:TypeId × Value→H}
end
end Go.Rx
set_option linter.unusedSimpArgs false
set_option linter.unusedVariables false
namespace Go.Rx
open Go.RowKit (Below)
section
variable {E:Env} {ν:aU} {M:Own} {w0 w:World} {s s':SH} {cs0:List Frame} {f:FuncId} {R:Ending→World→Prop}
def bR (E:Env) (f:FuncId) (n:Nat) (S:SM) (o:List (Nat × gX)) (x:SV) (i:Nat) (so:SO):List Prop:=
 match po E SM.over n (S.with o) with
 | some T=>match vg E f T with
  | some (y,s')=>match s'.look i with
   | some (so',true)=>uT [(i,i)] x y++(Hl [(i,i)] true so so'++s'.obl)
   | _=>[False]
  | none=>[False]
 | none=>[False]
theorem af.bR (K:aW E M w0) {n:Nat} {S:SM} {o:List (Nat × gX)} {x:SV} {i:Nat} {so:SO} (h:ak (Go.Rx.bR E f n S o x i so))
  (hR:∀ ν' w' y b ob,VR ν' x y→ν' i=some b→w'.heap[b.1]?=some ob→OR ν' i so ob→(w0.heap.size≤b.1∨M b.1)→(∃ ν1 M1 w1 s',dz M w0 M1 w1∧HR ν1 M1 w1 s' w')→R (.returned y) w'):af E M w0 cs0 f R ν S:=by
 unfold Go.Rx.bR at h
 split at h
 ·rename_i T hT
  split at h
  ·rename_i y s' hend
   split at h
   ·rename_i so' hl
    obtain ⟨h1,h2⟩:=dN.1 h
    obtain ⟨h3,h4⟩:=dN.1 h2
    refine af.go K hT (fH hend h4) (af.done hend h4 fun ν' M1 w1 w' u hle hB hv hr hg=>?_)
    obtain ⟨_,_,b,ob,hb,ho,hor,hw⟩:=hr.look hl
    have hii:(([(i,i)]:List (Nat × Nat)).lookup i==some i)=true:=by simp [List.lookup]
    exact hR (ν'.ren [(i,i)]) w' u b ob (lB h1 hv) (il hii hb) ho (uQ hii h3 hor) (hB.own _ (hw rfl)) ⟨ν',M1,w1,s',hB,hr⟩
   ·exact aR h
  ·exact aR h
 ·exact aR h
end
theorem aY {E:Env} {w:World} {f:FuncId} {R:Ending→World→Prop} {P:Program} (hP:E.P=P) {args:List SV} {a:List Value} {d:Nat} {l:List (Nat × Nat)} {os:List SO} {S0:SM} (hlen:l.length=os.length) (hd:os.length≤2 ^ d) (hn:(l.map (·.1)).Nodup)
  (ho:∀ (i:Nat) (o:SO) (b c:Nat),os[i]?=some o→l[i]?=some (b,c)→∃ r,w.heap[b]?=some r∧OR (aE l) i o r) (hG:E.G=[]) (hS0:bC E f args (bO d os.length 0 (os.map fun o=>some (o,false)))=some S0) (ha:ay (aE l) args a)
  (hs:∀ cs0,af E (aT l (os.map fun o=>(o,false))) w cs0 f R (aE l) S0):Calls P f a.toArray w R:=by
 subst hP
 have ho':∀ (i:Nat) (o:SO) (m:Bool) (b c:Nat),(os.map fun o=>(o,false))[i]?=some (o,m)→l[i]?=some (b,c)→∃ r,w.heap[b]?=some r∧OR (aE l) i o r:=by
  intro i o m b c h1 h2
  rw [List.getElem?_map] at h1
  obtain ⟨o',h3,h4⟩:=Option.map_eq_some_iff.1 h1
  cases h4
  exact ho i o b c h3 h2
 have hr:=Dh (d:=d) (w:=w) (by simpa using hlen) (by simpa using hd) hn ho'
 rw [List.map_map,List.length_map] at hr
 exact jB hS0 hr (dh ho') (fun _ h=>h) (fun g i h=>by rw [hG] at h;cases h) ha hs
theorem cp {E:Env} {w:World} {f:FuncId} {R:Ending→World→Prop} {P:Program} (hP:E.P=P) (hG:E.G=[]) {args:List SV} {a:List Value} {S0:SM} (hS0:bC E f args (bO 6 0 0 [])=some S0) (ha:ay (aE []) args a)
  (hs:∀ cs0,af E (aT [] []) w cs0 f R (aE []) S0):Calls P f a.toArray w R:=
 aY (E:=E) hP (d:=6) (l:=[]) (os:=[]) rfl (by simp) (by simp) (fun i o b c h=>by simp at h) hG hS0 ha hs
def cy (W w':World) (y:Value) (ys:List Value) (n C:Nat) (elem:TypeId):Prop:=
 ∃ (b c:Nat) (rest:List Value),y=.slice (some ⟨b,0,none⟩) n c∧W.heap.size≤b∧n≤c∧w'.heap[b]?=some (.cells (ys++rest).toArray elem)∧(ys++rest).length=c*C
theorem cy.e8 {ν:aU} {W w':World} {i n C:Nat} {xs:List SV} {ys:List Value} {elem:TypeId} {y:Value} {b:Nat × Nat} {ob:Obj} (hv:VR ν (.sl i 0 n none) y) (hb:ν i=some b) (ho:w'.heap[b.1]?=some ob)
  (hor:OR ν i (.row xs elem (0,0) (some C)) ob) (hn:W.heap.size≤b.1) (hu:∀ zs,ay ν xs zs→zs=ys):cy W w' y ys n C elem:=by
 obtain ⟨b',hb',hle,rfl⟩:=VR.aQ.1 hv
 rw [hb] at hb';cases hb'
 obtain ⟨zs,rest,rfl,hz,_,b2,hb2,hsz⟩:=hor
 rw [hb] at hb2;cases hb2
 obtain rfl:=hu zs hz
 have hle':n≤b.2:=hle
 exact ⟨b.1,b.2,rest,rfl,hn,hle',by simpa using ho,hsz⟩
theorem cy.IZ {ν:aU} {W w':World} {i n c C:Nat} {xs:List SV} {ys:List Value} {elem:TypeId} {y:Value} {b:Nat × Nat} {ob:Obj} (hv:VR ν (.sl i 0 n (some c)) y) (hb:ν i=some b) (ho:w'.heap[b.1]?=some ob)
  (hor:OR ν i (.row xs elem (0,0) none) ob) (hn:W.heap.size≤b.1) (hu:∀ zs,ay ν xs zs→zs=ys) (hc:ys.length=c*C):cy W w' y ys n C elem:=by
 obtain ⟨b',hb',hle,rfl⟩:=VR.aQ.1 hv
 rw [hb] at hb';cases hb'
 obtain ⟨zs,rest,rfl,hz,hsz⟩:=hor
 obtain rfl:=hu zs hz
 have h0:rest=[]:=by
  have:(zs++rest).length=xs.length:=hsz
  have h2:=hz.length
  rw [List.length_append] at this
  exact List.length_eq_zero_iff.1 (by omega)
 subst h0
 exact ⟨b.1,c,[],rfl,hn,hle,by simpa using ho,by simpa using hc⟩
abbrev MW:=List Value→Option (List Value × Nat × Nat × TypeId × Option Value × Prop)
def CW (ex:Option Value) (x:SV):SV:=match ex with | none=>x | some v=>.tup [x,.v v]
def AR (ex:Option Value) (y:Value):Value:=match ex with | none=>y | some v=>.tuple #[y,v]
def rD (g:MW):Sum:=fun args s=>match jq args with
 | some vs=>match g vs with
  | some (ys,n,C,elem,ex,p)=>(ez (.row (ys.map SV.v) elem (0,0) (some C)) (s.ir p)).map fun r=>(CW ex (.sl r.1 0 n none),r.2)
  | none=>none
 | none=>none
theorem Ec {P : Program} {X : World → Prop} {f : FuncId} {g : MW} (hf : ∃ fn, P.funcs[f]? = some fn ∧ fn.body.isSome = true ∧ (fn.name == "runtime.NumGoroutine") = false)
  (h:∀ vs ys n C elem ex p,g vs=some (ys,n,C,elem,ex,p)→p→∀ w,X w→Calls P f vs.toArray w fun e w'=>Below w.heap.size w w'∧∃ y,e=.returned (AR ex y)∧cy w w' y ys n C elem):cr P X (f,rD g):=by
 refine ⟨hf,fun args x s s' hx ob=>?_⟩
 dsimp only at hx
 unfold rD at hx
 split at hx
 ·rename_i vs hvs
  split at hx
  ·rename_i ys n C elem ex p hp
   obtain ⟨⟨i,s1⟩,hn,hx⟩:=Option.map_eq_some_iff.1 hx
   cases hx
   unfold ez at hn
   cases hroom:(s.ir p).room
   ·rw [hroom] at hn;cases hn
   rw [hroom] at hn
   simp only [cond_true] at hn
   cases hn
   have ob2:(s.ir p).ob:=ob
   refine ⟨ob2.1,fun ν M w0 w a hr hXw ha=>?_⟩
   obtain rfl:=gF hvs ha
   refine (h a ys n C elem ex p hp ob2.2 w hXw).mono fun e w' ⟨hB,y,he,b,c,rest,hy,hb,hnc,ho,hsz⟩=>?_
   have hv:VR (ν.put (s.ir p).nx (b,c)) (.sl (s.ir p).nx 0 n none) y:=VR.aQ.2 ⟨(b,c),aU.bM _ _ _,hnc,hy⟩
   refine ⟨hB,_,he,.made (s.ir p) _ b c _ (SH.bZ _ _) hroom rfl hb ho ⟨ys,rest,by show _=_;simp,ay.lits _ _,?_,(b,c),aU.bM _ _ _,hsz⟩ ?_⟩
   ·simp
   ·cases ex with
    | none=>exact hv
    | some v=>exact VR.cC.2 ⟨[y,v],rfl,ay.cons hv (ay.cons (VR.ah.2 rfl) ay.nil)⟩
  ·cases hx
 ·cases hx
end Go.Rx
namespace Go.Rx
open Go.RowKit (Below)
abbrev GX:=List SV→SH→Option (List Value × Nat × Nat × TypeId × Option Value × Prop)
def gh (g:GX):Sum:=fun args s=>match g args s with
 | some (ys,n,C,elem,ex,p)=>(ez (.row (ys.map SV.v) elem (0,0) (some C)) (s.ir p)).map fun r=>(CW ex (.sl r.1 0 n none),r.2)
 | none=>none
theorem iG {P : Program} {X : World → Prop} {f : FuncId} {g : GX} (hf : ∃ fn, P.funcs[f]? = some fn ∧ fn.body.isSome = true ∧ (fn.name == "runtime.NumGoroutine") = false)
  (h:∀ args s ys n C elem ex p,g args s=some (ys,n,C,elem,ex,p)→p→∀ ν M w0 w a,HR ν M w0 s w→X w→ay ν args a→Calls P f a.toArray w fun e w'=>Below w.heap.size w w'∧∃ y,e=.returned (AR ex y)∧cy w w' y ys n C elem):cr P X (f,gh g):=by
 refine ⟨hf,fun args x s s' hx ob=>?_⟩
 dsimp only at hx
 unfold gh at hx
 split at hx
 ·rename_i ys n C elem ex p hp
  obtain ⟨⟨i,s1⟩,hn,hx⟩:=Option.map_eq_some_iff.1 hx
  cases hx
  unfold ez at hn
  cases hroom:(s.ir p).room
  ·rw [hroom] at hn;cases hn
  rw [hroom] at hn
  simp only [cond_true] at hn
  cases hn
  have ob2:(s.ir p).ob:=ob
  refine ⟨ob2.1,fun ν M w0 w a hr hXw ha=>?_⟩
  refine (h args s ys n C elem ex p hp ob2.2 ν M w0 w a hr hXw ha).mono fun e w' ⟨hB,y,he,b,c,rest,hy,hb,hnc,ho,hsz⟩=>?_
  have hv:VR (ν.put (s.ir p).nx (b,c)) (.sl (s.ir p).nx 0 n none) y:=VR.aQ.2 ⟨(b,c),aU.bM _ _ _,hnc,hy⟩
  refine ⟨hB,_,he,.made (s.ir p) _ b c _ (SH.bZ _ _) hroom rfl hb ho ⟨ys,rest,by show _=_;simp,ay.lits _ _,?_,(b,c),aU.bM _ _ _,hsz⟩ ?_⟩
  ·simp
  ·cases ex with
   | none=>exact hv
   | some v=>exact VR.cC.2 ⟨[y,v],rfl,ay.cons hv (ay.cons (VR.ah.2 rfl) ay.nil)⟩
 ·cases hx
abbrev Co:=List SV→SH→Option (Value × Prop)
def eE (g:Co):Sum:=fun args s=>match g args s with
 | some (v,p)=>some (.v v,s.ir p)
 | none=>none
theorem fP {P : Program} {X : World → Prop} {f : FuncId} {g : Co} (hf : ∃ fn, P.funcs[f]? = some fn ∧ fn.body.isSome = true ∧ (fn.name == "runtime.NumGoroutine") = false)
  (h:∀ args s v p,g args s=some (v,p)→p→∀ ν M w0 w a,HR ν M w0 s w→X w→ay ν args a→Calls P f a.toArray w fun e w'=>Below w.heap.size w w'∧e=.returned v):cr P X (f,eE g):=by
 refine ⟨hf,fun args x s s' hx ob=>?_⟩
 dsimp only at hx
 unfold eE at hx
 split at hx
 ·rename_i v p hp
  cases hx
  exact ⟨ob.1,fun ν M w0 w a hr hXw ha=>(h args s v p hp ob.2 ν M w0 w a hr hXw ha).mono fun e w' ⟨hB,he⟩=>⟨hB,v,he,.same (SH.bZ _ _) (VR.ah.2 rfl)⟩⟩
 ·cases hx
def p9 (E:Env) (S:SM):Option (Nat × Nat × Nat × List Nat × Nat × List (SV × SV × Nat) × Nat):=
 bif S.top.ret then none else match S.top.todo with
 | .reg ops (i::_)::_=>match ops[i]? with
  | some o=>match o.guard,o.op with
   | none,.next it false=>match bx E S.top.tm it with
    | .ptr iter 0=>match S.mem.look iter with
     | some (.miter (some m) since seen last,true)=>match S.mem.look m with
      | some (.map es clock,_)=>some (iter,m,since,seen,last,es,clock)
      | _=>none
     | _=>none
    | _=>none
   | _,_=>none
  | none=>none
 | _=>none
def kM (E:Env) (S:SM):Bool:=(p9 E S).isSome
def mj (E:Env) (S:SM) (e:SV × SV × Nat):Option SM:=match p9 E S with
 | some (iter,m,since,seen,_,_,clock)=>(finish E S.top (.tup [.v (.bool true),e.1,e.2.1]) (S.mem.put iter (.miter (some m) since (seen++[e.2.2]) clock))).map fun r=>{ top:=r.1,callers:=S.callers,mem:=r.2 }
 | none=>none
def my (E:Env) (S:SM):Option SM:=(finish E S.top (.v (.tuple #[.bool false])) S.mem).map fun r=>{ top:=r.1,callers:=S.callers,mem:=r.2 }
theorem tv {f:dr × SH→Option (List SM)}:∀ {l:List (dr × SH)},(∀ x∈l,∃ T,f x=some [T])→∃ Ls,nV l f=some Ls∧∀ T∈Ls,∃ x∈l,f x=some [T]
 | [],_=>⟨[],rfl,fun _ h=>by cases h⟩
 | x::xs,h=>by
  obtain ⟨T,hT⟩:=h x List.mem_cons_self
  obtain ⟨Ls,h1,h2⟩:=tv fun y hy=>h y (List.mem_cons_of_mem _ hy)
  refine ⟨T::Ls,by simp [nV,hT,h1],fun U hU=>?_⟩
  rcases List.mem_cons.1 hU with rfl | hU
  ·exact ⟨x,List.mem_cons_self,hT⟩
  ·obtain ⟨y,hy,hf⟩:=h2 U hU
   exact ⟨y,List.mem_cons_of_mem _ hy,hf⟩
section
variable {E:Env} {ν:aU} {M:Own} {w0:World} {cs0:List Frame} {f:FuncId} {R:Ending→World→Prop}
theorem af.J4 (K:aW E M w0) {S:SM} {Ls:List SM} (h:sL E S=some Ls) (hs:∀ T∈Ls,T.mem.ob∧af E M w0 cs0 f R ν T):af E M w0 cs0 f R ν S:=by
 intro ν' m M1 w1 hle hB hm
 obtain ⟨V,hV,hstep⟩:=yb K hB hm h
 obtain ⟨ob,hgo⟩:=hs V hV
 obtain ⟨_,ν2,m',M2,w2,hle2,hst,hB2,hMR⟩:=hstep ob
 exact (hgo ν2 m' M2 w2 (hle.trans hle2) hB2 hMR).steps hst
theorem af.next (K:aW E M w0) {S:SM} {iter m since last clock:Nat} {seen:List Nat} {es:List (SV × SV × Nat)} (hd:p9 E S=some (iter,m,since,seen,last,es,clock))
  (hfree:(!seen.isEmpty&&!es.isEmpty&&es.all fun e=>Nat.ble last e.2.2)=false)
  (hs:∀ e∈es,seen.contains e.2.2=false→∃ T,mj E S e=some T∧T.mem.ob∧af E M w0 cs0 f R ν T)
  (hend:(∀ e∈es,seen.contains e.2.2=false→Nat.blt e.2.2 since=false)→∃ T,my E S=some T∧T.mem.ob∧af E M w0 cs0 f R ν T):af E M w0 cs0 f R ν S:=by
 have hd0:=hd
 unfold p9 at hd
 cases hret:S.top.ret
 rotate_left
 ·rw [hret] at hd;cases hd
 rw [hret,cond_false] at hd
 split at hd
 ·rename_i ops i r k htodo
  split at hd
  ·rename_i o ho
   split at hd
   ·rename_i it hgd hop
    split at hd
    ·rename_i iter' hit
     split at hd
     ·rename_i m' since' seen' last' hl
      split at hd
      ·rename_i es' clock' mk hm
       cases hd
       let old:=(es.filter fun e=>!seen.contains e.2.2).filter fun e=>Nat.blt e.2.2 since
       let new:=(es.filter fun e=>!seen.contains e.2.2).filter fun e=>Nat.ble since e.2.2
       let go:=(old++new).map fun e=>(SV.tup [.v (.bool true),e.1,e.2.1],S.mem.put iter (.miter (some m) since (seen++[e.2.2]) clock))
       have hn:j7 (.ptr iter 0) false S.mem=some (bif old.isEmpty then (.v (.tuple #[.bool false]),S.mem)::go else go):=by
        show j7 (.ptr iter 0) false S.mem=_
        unfold j7
        simp only [hl,hm,hfree,cond_false]
        rfl
       have hstep:sL E S=nV ((bif old.isEmpty then ((.v (.tuple #[.bool false]):SV),S.mem)::go else go).map fun r=>(dr.val r.1,r.2)) (after E S.top S.callers):=by
        unfold sL
        simp only [hret,cond_false,htodo,ho]
        unfold ux wanted
        simp only [hgd]
        unfold jE
        simp only [hop,hit,hn,Option.map_some,Option.bind_some]
       have hmem:∀ e∈old++new,e∈es∧seen.contains e.2.2=false:=fun e he=>by
        rcases List.mem_append.1 he with he | he
        ·have h1:=(List.mem_filter.1 (List.mem_filter.1 he).1)
         exact ⟨h1.1,by simpa using h1.2⟩
        ·have h1:=(List.mem_filter.1 (List.mem_filter.1 he).1)
         exact ⟨h1.1,by simpa using h1.2⟩
       have hgo:∀ x∈(bif old.isEmpty then ((.v (.tuple #[.bool false]):SV),S.mem)::go else go).map (fun r=>(dr.val r.1,r.2)),∃ T,after E S.top S.callers x=some [T]∧T.mem.ob∧af E M w0 cs0 f R ν T:=fun x hx=>by
        obtain ⟨y,hy,rfl⟩:=List.mem_map.1 hx
        have hy':(y∈go)∨(y=((.v (.tuple #[.bool false]):SV),S.mem)∧old.isEmpty=true):=by
         cases hoe:old.isEmpty
         ·rw [hoe] at hy;exact .inl hy
         ·rw [hoe] at hy
          rcases List.mem_cons.1 hy with h | h
          ·exact .inr ⟨h,rfl⟩
          ·exact .inl h
        rcases hy' with hy | ⟨rfl,hoe⟩
        ·obtain ⟨e,he,rfl⟩:=List.mem_map.1 hy
         obtain ⟨T,hT,hob,hg⟩:=hs e (hmem e he).1 (hmem e he).2
         refine ⟨T,?_,hob,hg⟩
         unfold mj at hT
         rw [hd0] at hT
         dsimp only at hT
         unfold after
         obtain ⟨r,hr,rfl⟩:=Option.map_eq_some_iff.1 hT
         dsimp only
         rw [hr];rfl
        ·obtain ⟨T,hT,hob,hg⟩:=hend fun e he hc=>by
          cases hb:Nat.blt e.2.2 since
          ·rfl
          ·exfalso
           have:e∈old:=List.mem_filter.2 ⟨List.mem_filter.2 ⟨he,by show (!seen.contains e.2.2)=true;rw [hc];rfl⟩,hb⟩
           rw [List.isEmpty_iff.1 hoe] at this
           cases this
         refine ⟨T,?_,hob,hg⟩
         unfold my at hT
         unfold after
         obtain ⟨r,hr,rfl⟩:=Option.map_eq_some_iff.1 hT
         dsimp only
         rw [hr];rfl
       obtain ⟨Ls,h1,h2⟩:=tv fun x hx=>let ⟨T,h,_⟩:=hgo x hx;⟨T,h⟩
       refine af.J4 K (hstep.trans h1) fun T hT=>?_
       obtain ⟨x,hx,hf⟩:=h2 T hT
       obtain ⟨U,hU,hob,hg⟩:=hgo x hx
       rw [hf] at hU
       cases hU
       exact ⟨hob,hg⟩
      ·cases hd
     ·cases hd
    ·cases hd
   ·cases hd
  ·cases hd
 ·cases hd
end
def jM (f g:Sum):Sum:=fun args s=>match s.orc s.dc with
 | some (.b true)=>f args s
 | some (.b false)=>g args s
 | _=>none
theorem cr.br {P:Program} {X:World→Prop} {h:FuncId} {f g:Sum} (hf:cr P X (h,f)) (hg:cr P X (h,g)):cr P X (h,jM f g):=by
 refine ⟨hf.1,fun args x s s' hx ob=>?_⟩
 dsimp only at hx
 unfold jM at hx
 split at hx
 ·exact hf.2 args x s s' hx ob
 ·exact hg.2 args x s s' hx ob
 ·cases hx
def z6 {α:Type} (dec:List SV→α) (C:Nat):Nat→List SV→List α
 | 0,_=>[]
 | n+1,l=>dec (l.take C)::z6 dec C n (l.drop C)
theorem l5 {α:Type} {dec:List SV→α} {C:Nat} {g:α→List SV} (hg:∀ x,(g x).length=C) (hd:∀ x,dec (g x)=x):∀ (l:List α),z6 dec C l.length (l.flatMap g)=l
 | []=>rfl
 | x::l=>by
  show dec ((g x++l.flatMap g).take C)::z6 dec C l.length ((g x++l.flatMap g).drop C)=_
  rw [← hg x,List.take_left,List.drop_left,hd,hg x,l5 hg hd l]
section
variable {E:Env} {ν:aU} {M:Own} {w0 w:World} {s s':SH} {cs0:List Frame} {f:FuncId} {R:Ending→World→Prop}
def fk (E:Env) (f:FuncId) (n:Nat) (S:SM) (o:List (Nat × gX)) (ren:List (Nat × Nat)) (x:SV):List Prop:=
 match po E SM.over n (S.with o) with
 | some T=>match vg E f T with
  | some (y,s')=>uT ren x y++s'.obl
  | none=>[False]
 | none=>[False]
theorem af.fk (K:aW E M w0) (hM:∀ b,¬ M b) {n:Nat} {S:SM} {o:List (Nat × gX)} {ren:List (Nat × Nat)} {x:SV} (h:ak (Go.Rx.fk E f n S o ren x))
  (hR:∀ ν' w' y,ν.Le ν'→VR (ν'.ren ren) x y→Below w0.heap.size w0 w'→R (.returned y) w'):af E M w0 cs0 f R ν S:=by
 unfold Go.Rx.fk at h
 split at h
 ·rename_i T hT
  split at h
  ·rename_i y s' hend
   obtain ⟨h1,h2⟩:=dN.1 h
   refine af.go K hT (fH hend h2) (af.done hend h2 fun ν' M1 w1 w' u hle hB hv hr hg=>?_)
   exact hR ν' w' u hle (lB h1 hv) (aI hM hB hr)
  ·exact aR h
 ·exact aR h
end
def pT (g:List SV→SH→Option (SV × Prop)):Sum:=fun args s=>match g args s with
 | some (x,p)=>some (x,s.ir p)
 | none=>none
theorem rY {P : Program} {X : World → Prop} {f : FuncId} {g : List SV → SH → Option (SV × Prop)} (hf : ∃ fn, P.funcs[f]? = some fn ∧ fn.body.isSome = true ∧ (fn.name == "runtime.NumGoroutine") = false)
  (h:∀ args s x p,g args s=some (x,p)→p→∀ ν M w0 w a,HR ν M w0 s w→X w→ay ν args a→Calls P f a.toArray w fun e w'=>Below w.heap.size w w'∧∃ y,e=.returned y∧VR ν x y):cr P X (f,pT g):=by
 refine ⟨hf,fun args x s s' hx ob=>?_⟩
 dsimp only at hx
 unfold pT at hx
 split at hx
 ·rename_i v p hp
  cases hx
  exact ⟨ob.1,fun ν M w0 w a hr hX ha=>(h args s _ _ hp ob.2 ν M w0 w a hr hX ha).mono fun e w' ⟨hB,y,he,hv⟩=>⟨hB,y,he,.same (SH.bZ _ _) hv⟩⟩
 ·cases hx
abbrev LX:=List SV→SH→Option (List Value × Nat × Nat × TypeId × (SV→SV) × (Value→Value) × Prop)
def pA (g:LX):Sum:=fun args s=>match g args s with
 | some (ys,n,C,elem,mk,_,p)=>(ez (.row (ys.map SV.v) elem (0,0) (some C)) (s.ir p)).map fun r=>(mk (.sl r.1 0 n none),r.2)
 | none=>none
theorem uv {P : Program} {X : World → Prop} {f : FuncId} {g : LX} (hf : ∃ fn, P.funcs[f]? = some fn ∧ fn.body.isSome = true ∧ (fn.name == "runtime.NumGoroutine") = false)
  (hm:∀ args s ys n C elem mk mv p,g args s=some (ys,n,C,elem,mk,mv,p)→∀ (ν:aU) x y,VR ν x y→VR ν (mk x) (mv y))
  (h:∀ args s ys n C elem mk mv p,g args s=some (ys,n,C,elem,mk,mv,p)→p→∀ ν M w0 w a,HR ν M w0 s w→X w→ay ν args a→Calls P f a.toArray w fun e w'=>Below w.heap.size w w'∧∃ y,e=.returned (mv y)∧cy w w' y ys n C elem):cr P X (f,pA g):=by
 refine ⟨hf,fun args x s s' hx ob=>?_⟩
 dsimp only at hx
 unfold pA at hx
 split at hx
 ·rename_i ys n C elem mk mv p hp
  obtain ⟨⟨i,s1⟩,hn,hx⟩:=Option.map_eq_some_iff.1 hx
  cases hx
  unfold ez at hn
  cases hroom:(s.ir p).room
  ·rw [hroom] at hn;cases hn
  rw [hroom] at hn
  simp only [cond_true] at hn
  cases hn
  have ob2:(s.ir p).ob:=ob
  refine ⟨ob2.1,fun ν M w0 w a hr hXw ha=>?_⟩
  refine (h args s ys n C elem mk mv p hp ob2.2 ν M w0 w a hr hXw ha).mono fun e w' ⟨hB,y,he,b,c,rest,hy,hb,hnc,ho,hsz⟩=>?_
  have hv:VR (ν.put (s.ir p).nx (b,c)) (.sl (s.ir p).nx 0 n none) y:=VR.aQ.2 ⟨(b,c),aU.bM _ _ _,hnc,hy⟩
  refine ⟨hB,_,he,.made (s.ir p) _ b c _ (SH.bZ _ _) hroom rfl hb ho ⟨ys,rest,by show _=_;simp,ay.lits _ _,?_,(b,c),aU.bM _ _ _,hsz⟩ (hm _ _ _ _ _ _ _ _ _ hp _ _ _ hv)⟩
  simp
 ·cases hx
def vS (j:Nat) (b:Nat × Nat):SV→SV
 | .sl i 0 len none=>bif Nat.beq i j then .v (.slice (some ⟨b.1,0,none⟩) len b.2) else .sl i 0 len none
 | x=>x
def rC (j:Nat) (b:Nat × Nat):SV→SV
 | .agg l=>.agg (l.map (vS j b))
 | x=>x
def gf (j:Nat) (b:Nat × Nat) (es:List (SV × SV × Nat)):List (SV × SV × Nat):=es.map fun e=>(e.1,rC j b e.2.1,e.2.2)
theorem B9 {ν:aU} {j:Nat} {b:Nat × Nat} (hj:ν j=some b) {x:SV} {y:Value} (h:VR ν x y):VR ν (vS j b x) y:=by
 unfold vS
 split
 ·rename_i i len
  cases hi:Nat.beq i j
  ·exact h
  ·obtain rfl:=Nat.eq_of_beq_eq_true hi
   obtain ⟨b',hb',_,rfl⟩:=VR.aQ.1 h
   rw [hj] at hb';cases hb'
   exact VR.ah.2 rfl
 ·exact h
theorem qd {ν:aU} {j:Nat} {b:Nat × Nat} (hj:ν j=some b):∀ {l:List SV} {ys:List Value},ay ν l ys→ay ν (l.map (vS j b)) ys
 | [],_,h=>h
 | x::l,_,h=>by
  obtain ⟨z,zs,rfl,h1,h2⟩:=h.cons_inv
  exact ay.cons (B9 hj h1) (qd hj h2)
theorem Cb {ν:aU} {j:Nat} {b:Nat × Nat} (hj:ν j=some b) {x:SV} {y:Value} (h:VR ν x y):VR ν (rC j b x) y:=by
 unfold rC
 split
 ·obtain ⟨a,rfl,ha⟩:=VR.cW.1 h
  exact VR.cW.2 ⟨a,rfl,qd hj ha⟩
 ·exact h
theorem tU {ν:aU} {j:Nat} {b:Nat × Nat} (hj:ν j=some b):∀ {es:List (SV × SV × Nat)} {ds:List MapEntry},dY ν es ds→dY ν (gf j b es) ds
 | [],_,h=>h
 | x::xs,_,h=>by
  obtain ⟨z,zs,rfl,h1,h2,h3,h4⟩:=h
  exact ⟨z,zs,rfl,h1,Cb hj h2,h3,tU hj h4⟩
def SM.close (m j:Nat) (b:Nat × Nat) (es:List (SV × SV × Nat)) (cl:Nat) (S:SM):SM:={ S with mem:=S.mem.put m (.map (gf j b es) cl) }
def uA (S:SM):Bool:=match S.top.todo with | .drw _ _ _::_=>false | _=>true
section
variable {E:Env} {ν:aU} {M:Own} {w0 w:World} {s s':SH} {cs0:List Frame} {f:FuncId} {R:Ending→World→Prop}
end
def Hp.put (H:Hp) (b:Nat) (o:Obj):Hp:=fun x=>if x=b then some o else H x
theorem Hp.bM (H:Hp) (b:Nat) (o:Obj):H.put b o b=some o:=by simp [Hp.put]
def SM.GY (S:SM) (j:Nat):SM:={ S with mem:=S.mem.drop j }
section
variable {E:Env} {ν:aU} {M:Own} {w0 w:World} {s s':SH} {cs0:List Frame} {f:FuncId} {R:Ending→World→Prop}

theorem vp {M1:Own} {w1:World} (hr:HR ν M1 w1 s w):HR ν (cG ν M1 s) w s w:=by
 refine ⟨hr.full,hr.dom,hr.fresh,fun i hi x hx=>?_,hr.inj,Nat.le_refl _,fun _ _ _=>rfl,hr.ro,rfl,rfl,rfl⟩
 obtain ⟨b,o,h1,h2,h3,h4⟩:=hr.obj i hi x hx
 refine ⟨b,o,h1,h2,h3,fun hm=>.inr ⟨i,x.1,b.2,hi,?_,h1⟩⟩
 rw [hx,← hm]
theorem xp {M1:Own} {w1:World} (hr:HR ν M1 w1 s w) {x:Nat} (h:(cG ν M1 s) x):x<w.heap.size∧(w1.heap.size≤x∨M1 x):=by
 obtain ⟨i,y,c,hi,hy,hx⟩:=h
 obtain ⟨b',o,hb',ho,_,h4⟩:=hr.obj i hi _ hy
 rw [hx] at hb';cases hb'
 exact ⟨(Array.getElem?_eq_some_iff.1 ho).1,h4 rfl⟩
theorem Ce {M1:Own} {w1:World} (hB:dz M w0 M1 w1) (hr:HR ν M1 w1 s w):dz M w0 (cG ν M1 s) w:=by
 refine ⟨Nat.le_trans hB.size hr.size,hr.os.trans hB.os,hr.tape.trans hB.tape,hr.output.trans hB.output,fun b hb hM=>?_,fun b hb=>?_,hB.ro,fun b h=>h.elim,fun b hb=>?_⟩
 ·obtain ⟨h1,h2⟩:=hB.frame b hb hM
  have hb1:=Nat.lt_of_lt_of_le hb hB.size
  refine ⟨(hr.frame b hb1 h2).trans h1,fun hl=>?_⟩
  rcases (xp hr hl).2 with h | h
  ·omega
  ·exact h2 h
 ·rcases hb with hb | hb
  ·exact .inl (Nat.le_trans hB.size (Nat.le_trans hr.size hb))
  ·exact hB.own b (xp hr hb).2
 ·exact Nat.lt_of_lt_of_le (hB.rlt b hb) hr.size

theorem af.freeze {H0 H:Hp} {M00:Own} {w00:World} (hM00:∀ b,¬ M00 b) (hk:Kept H0 M00 w00 H M w0) {S:SM} {j:Nat} {so:SO} (hcal:S.callers=[]) (hret:S.top.ret=false) (hd:uA S=true) (hj:S.mem.look j=some (so,true))
  (hs:∀ ν' b o M2 w2,ν.Le ν'→ν' j=some b→OR ν' j so o→Kept H0 M00 w00 (H.put b.1 o) M2 w2→H.Sub (H.put b.1 o)→w00.heap.size≤b.1→af E M2 w2 cs0 f R ν (S.GY j)):af E M w0 cs0 f R ν S:=by
 intro ν' m M1 w1 hle hB hm
 obtain ⟨fr,cs,w,hl,rfl,hr,hg,⟨h1,h2,h3⟩,hc⟩:=hm
 obtain ⟨hjlt,hjg,b,o,hb,ho,hor,hown⟩:=hr.look hj
 have hown:=hown rfl
 have hrd:=hr.drop hjlt
 have hblt:b.1<w.heap.size:=(Array.getElem?_eq_some_iff.1 ho).1
 have hne:¬ (cG ν' M1 (S.mem.drop j)) b.1:=by
  rintro ⟨i,y,c,hi,hy,hx⟩
  have hy':(S.mem.H.set j none).get i=some (y,true):=hy
  have hi':i<2 ^ S.mem.d:=hi
  rw [Tr.dA hr.full hjlt hi'] at hy'
  by_cases e:i=j
  ·rw [if_pos e] at hy';cases hy'
  ·rw [if_neg e] at hy'
   exact e (hr.inj i j hi' hjlt (by rw [hy'];simp) (by rw [hjg];simp) _ _ hx hb rfl)
 have hB2:=Ce hB hrd
 have hHb:H b.1=none:=by
  cases hq:H b.1 with
  | none=>rfl
  | some o'=>
   obtain ⟨q1,q2,_⟩:=hk.still _ _ hq
   have q3:=(hB.frame _ q1 q2).2
   rcases hown with h | h
   ·have:=hB.size;omega
   ·exact absurd h q3
 have hsub:H.Sub (H.put b.1 o):=fun x y hx=>by
  unfold Hp.put
  by_cases e:x=b.1
  ·rw [e,hHb] at hx;cases hx
  ·rw [if_neg e];exact hx
 have hnow:=hk.now hB hr
 have hbn:w00.heap.size≤b.1:=(hk.base.own _ (hB.own _ hown)).elim id fun h=>absurd h (hM00 _)
 have hK:Kept H0 M00 w00 (H.put b.1 o) (cG ν' M1 (S.mem.drop j)) w:=by
  refine ⟨hk.sub0.trans hsub,fun x y hx=>?_,fun x y hx h=>?_,hk.base.trans hB2⟩
  ·unfold Hp.put at hx
   by_cases e:x=b.1
   ·rw [if_pos e] at hx
    cases hx
    subst e
    exact ⟨hblt,hne,ho⟩
   ·rw [if_neg e] at hx
    obtain ⟨q1,q2,_⟩:=hk.still _ _ hx
    refine ⟨Nat.lt_of_lt_of_le q1 (Nat.le_trans hB.size hr.size),(hB2.frame _ q1 q2).2,hnow _ _ hx⟩
  ·unfold Hp.put at h
   by_cases e:x=b.1
   ·subst e
    exfalso
    rcases hk.base.own _ (hB.own _ hown) with h | h
    ·omega
    ·exact hM00 _ h
   ·rw [if_neg e] at h
    exact hk.old x y hx h
 have hrun:=(h2 hret).2
 have hpl:hl=[]∧ja ν' S.top.tm fr.tmps∧r9 ν' S.top.todo fr.todo:=by
  revert hrun hd
  unfold uA
  generalize S.top.todo=xs
  generalize fr.todo=ys
  intro hd hrun
  cases hrun with
  | plain ht hk=>exact ⟨rfl,ht,hk⟩
  | drw hok hn d st hk=>cases hd
 obtain ⟨rfl,ht,hks⟩:=hpl
 have hc':bn E ν' (cG ν' M1 (S.mem.drop j)) w cs0 [] S.top.kind S.callers cs:=by
  rw [hcal] at hc ⊢
  generalize S.top.kind=kk at hc
  cases hc with
  | nil _=>exact .nil List.nodup_nil
 exact hs ν' b o _ w hle hb hor hK hsub hbn ν' _ _ w hle (dz.refl (fun x hx=>hB2.rlt x hx) fun x h=>h)
  ⟨fr,cs,w,[],rfl,vp hrd,hg,⟨h1,fun hf=>⟨(h2 hret).1,.plain ht hks⟩,fun hf=>absurd (show S.top.ret=true from hf) (by rw [hret];simp)⟩,hc'⟩

def iI (E:Env) (k n:Nat) (S:SM) (o:List (Nat × gX)) (ren:List (Nat × Nat)) (eqs:List Nat) (F:SF) (d:Nat) (l:List (Option (SO × Bool))) (m j:Nat) (so:SO) (b:Nat × Nat):List Prop:=
 match FV E k n (S.with o) with
 | some T=>match T.mem.look m,T.mem.look j with
  | some (.map es cl,true),some (so',true)=>bif uA T&&T.callers.isEmpty&&!T.top.ret&&!Nat.beq m j&&Nat.blt m (2 ^ T.mem.d) then Hl [(j,j)] true so so'++(fits E ren eqs F d l ((T.close m j b es cl).GY j)++T.mem.obl) else [False]
  | _,_=>[False]
 | none=>[False]
theorem Ds (hf:Tr.Full s.d s.H) {m j:Nat} {o:SO} {x:SO × Bool} (hm:m<2 ^ s.d) (hj:s.look j=some x) (hne:j≠m):(s.put m o).look j=some x:=by
 unfold SH.look at hj ⊢
 show (bif Nat.blt j (2 ^ s.d) then (s.H.set m (some (o,true))).get j else none)=some x
 cases hb:Nat.blt j (2 ^ s.d)
 ·rw [hb] at hj;cases hj
 ·rw [hb] at hj
  simp only [cond_true] at hj ⊢
  rw [Tr.dA hf hm (c4.1 hb),if_neg hne];exact hj
theorem af.close' {S:SM} {m j cl:Nat} {es:List (SV × SV × Nat)} {x:SO × Bool} (hm:S.mem.look m=some (.map es cl,true)) (hj:S.mem.look j=some x) (hd:uA S=true)
  (hs:∀ ν1 b,ν.Le ν1→ν1 j=some b→af E M w0 cs0 f R ν1 (S.close m j b es cl)):af E M w0 cs0 f R ν S:=by
 intro ν' mm M1 w1 hle hB hmr
 obtain ⟨fr,cs,w,hl,rfl,hr,hg,⟨h1,h2,h3⟩,hc⟩:=hmr
 obtain ⟨_,_,b,_,hb,_⟩:=hr.look hj
 obtain ⟨_,_,bm,ob,hbm,ho,hor,_⟩:=hr.look hm
 refine hs ν' b hle hb ν' _ M1 w1 (aU.Le.refl _) hB ⟨fr,cs,w,hl,rfl,?_,hg,⟨h1,fun hf=>⟨(h2 hf).1,?_⟩,h3⟩,hc⟩
 ·refine hr.put hm hbm (r:=ob) ?_ ?_ rfl rfl rfl
  ·obtain ⟨l,rfl,hl'⟩:=hor
   exact ⟨l,rfl,tU hb hl'⟩
  ·apply Array.ext
   ·simp
   ·intro k hk1 hk2
    rw [Array.getElem_setIfInBounds]
    split
    ·rename_i h
     have:=(Array.getElem?_eq_some_iff.1 ho).2
     subst h;exact this
    ·rfl
 ·have:=(h2 hf).2
  revert this hd
  show uA S=true→_→DI E ν' M1 w1 _ hl S.top.tm S.top.todo fr.tmps fr.todo
  unfold uA
  generalize S.top.todo=xs
  generalize fr.todo=ys
  intro hd this
  cases this with
  | plain ht hk=>exact .plain ht hk
  | drw hok hn d st hk=>cases hd
theorem af.full {S:SM} (h:Tr.Full S.mem.d S.mem.H→af E M w0 cs0 f R ν S):af E M w0 cs0 f R ν S:=by
 intro ν' m M1 w1 hle hB hm
 have hm':=hm
 obtain ⟨fr,cs,w,hl,rfl,hr,_⟩:=hm'
 exact h hr.full ν' _ M1 w1 hle hB hm
theorem af.iI (K:aW E M w0) {H0 H:Hp} {M00:Own} {w00:World} (hM00:∀ b,¬ M00 b) (hk:Kept H0 M00 w00 H M w0) {k n d:Nat} {S:SM} {o:List (Nat × gX)} {ren:List (Nat × Nat)} {eqs:List Nat} {F:SF} {l:Nat × Nat→List (Option (SO × Bool))} {m j:Nat} {so:SO}
  (h:∀ b,ak (Go.Rx.iI E k n S o ren eqs F d (l b) m j so b)) (ht:dn E k n S o=F.todo) (hν:∀ i b,ν i=some b→ren.lookup i=some i)
  (hs:∀ ν1 b ob M2 w2,ν1 j=some b→OR ν1 j so ob→Kept H0 M00 w00 (H.put b.1 ob) M2 w2→H.Sub (H.put b.1 ob)→w00.heap.size≤b.1→af E M2 w2 cs0 f R ν (SM.at F d (l b))):af E M w0 cs0 f R ν S:=by
 have h0:=h (0,0)
 unfold Go.Rx.iI at h h0
 unfold dn at ht
 cases hT:Go.Rx.FV E k n (S.with o) with
 | none=>rw [hT] at h0;exact aR h0
 | some T=>
  simp only [hT] at h h0 ht
  split at h0
  ·rename_i es cl so' hm hj
   simp only [hm,hj] at h
   obtain ⟨hb0,h0'⟩:=eI h0
   obtain ⟨_,h00⟩:=dN.1 h0'
   obtain ⟨_,hob⟩:=dN.1 h00
   have hb:=hb0
   simp only [Bool.and_eq_true] at hb
   obtain ⟨⟨⟨⟨b1,b2⟩,b3⟩,b4⟩,b5⟩:=hb
   have hmj:j≠m:=by
    rintro rfl
    have:Nat.beq j j=true:=by simp
    rw [this] at b4;cases b4
   refine af.FV K hT hob (af.full fun hfull=>af.close' hm hj b1 fun ν1 b hle1 hb1=>?_)
   have hq:=h b
   rw [hb0] at hq
   obtain ⟨q1,q2⟩:=dN.1 hq
   obtain ⟨q3,_⟩:=dN.1 q2
   have hj':(T.close m j b es cl).mem.look j=some (so',true):=Ds hfull (c4.1 b5) hj hmj
   refine af.freeze hM00 hk (List.isEmpty_iff.1 b2) (show T.top.ret=false by simpa using b3) b1 hj' fun ν' b' o' M2 w2 hle hbj hor hK hsub hbn=>?_
   obtain rfl:b=b':=by
    have:=hle _ _ hb1
    rw [hbj] at this;exact (Option.some.inj this).symm
   have hjj:(([(j,j)]:List (Nat × Nat)).lookup j==some j)=true:=by simp [List.lookup]
   exact (af.fits q3 ht hν (hs _ b o' M2 w2 (il hjj hbj) (uQ hjj q1 hor) hK hsub hbn)).mono hle1
  ·exact aR h0
def kU (E:Env) (f:FuncId) (n:Nat) (S:SM) (o:List (Nat × gX)) (ren:List (Nat × Nat)) (eqs:List Nat) (x:SV) (l:List (Option (SO × Bool))):List Prop:=
 match po E SM.over n (S.with o) with
 | some T=>match vg E f T with
  | some (y,s')=>bif decide ((ren.map (·.2)).Nodup) then uT ren x y++(sP ren eqs s' 0 l++s'.obl) else [False]
  | none=>[False]
 | none=>[False]
structure M8 (ν:aU) (M:Own) (w0 w':World) (l:List (Option (SO × Bool))):Prop where
 obj:∀ k o m,l[k]?=some (some (o,m))→∃ b ob,ν k=some b∧w'.heap[b.1]?=some ob∧OR ν k o ob∧(m=true→w0.heap.size≤b.1∨M b.1)
 inj:∀ k k' o m o' m' b b',l[k]?=some (some (o,m))→l[k']?=some (some (o',m'))→ν k=some b→ν k'=some b'→b.1=b'.1→k=k'
theorem af.kU (K:aW E M w0) {n:Nat} {S:SM} {o:List (Nat × gX)} {ren:List (Nat × Nat)} {eqs:List Nat} {x:SV} {l:List (Option (SO × Bool))} (h:ak (Go.Rx.kU E f n S o ren eqs x l))
  (hR:∀ ν' w' y,ν.Le ν'→VR (ν'.ren ren) x y→M8 (ν'.ren ren) M w0 w' l→(∃ M1 w1 s',dz M w0 M1 w1∧HR ν' M1 w1 s' w')→R (.returned y) w'):af E M w0 cs0 f R ν S:=by
 unfold Go.Rx.kU at h
 split at h
 ·rename_i T hT
  split at h
  ·rename_i y s' hend
   obtain ⟨hb,h⟩:=eI h
   have hnd:=of_decide_eq_true hb
   obtain ⟨h1,h2⟩:=dN.1 h
   obtain ⟨h3,h4⟩:=dN.1 h2
   refine af.go K hT (fH hend h4) (af.done hend h4 fun ν' M1 w1 w' u hle hB hv hr hg=>?_)
   have hob:∀ k o m,l[k]?=some (some (o,m))→∃ i o',ren.lookup k=some i∧s'.look i=some (o',m)∧ak (Hl ren (eqs.contains k) o o'):=fun k o m hk=>by
    have:=oD h3 k o m hk
    simpa using this
   refine hR ν' w' u hle (lB h1 hv) ⟨fun k o m hk=>?_,fun k k' o m o' m' b b' hk hk' hb hb' e=>?_⟩ ⟨M1,w1,s',hB,hr⟩
   ·obtain ⟨i,o',hlo,hl,ho⟩:=hob k o m hk
    obtain ⟨_,_,b,ob,hb,hoo,hor,hown⟩:=hr.look hl
    have hji:(ren.lookup k==some i)=true:=by rw [hlo];simp
    exact ⟨b,ob,il hji hb,hoo,uQ hji ho hor,fun hm=>hB.own _ (hown hm)⟩
   ·obtain ⟨i,o1,hlo,hl,_⟩:=hob k o m hk
    obtain ⟨i',o2,hlo',hl',_⟩:=hob k' o' m' hk'
    obtain ⟨q1,q2,_⟩:=hr.look hl
    obtain ⟨q3,q4,_⟩:=hr.look hl'
    unfold aU.ren at hb hb'
    rw [hlo] at hb
    rw [hlo'] at hb'
    have:=hr.inj i i' q1 q3 (by rw [q2];simp) (by rw [q4];simp) b b' hb hb' e
    subst this
    exact tJ hnd (gM hlo) (gM hlo')
  ·exact aR h
 ·exact aR h
def kp (g:FuncId) (S:SM):Bool:=Nat.beq S.top.fn g
def bI (E:Env) (g:FuncId) (n:Nat) (S:SM) (o:List (Nat × gX)):List Prop:=match po E (kp g) n (S.with o) with
 | some T=>match T.callers with
  | [F]=>bif re E F then T.mem.obl else [False]
  | _=>[False]
 | none=>[False]
def er (E:Env) (g:FuncId) (n:Nat) (S:SM) (o:List (Nat × gX)):Option SF:=(po E (kp g) n (S.with o)).map (·.top)
def wK (E:Env) (g:FuncId) (n:Nat) (S:SM) (o:List (Nat × gX)) (x:SV):Option SM:=match po E (kp g) n (S.with o) with
 | some T=>match T.callers with
  | [F]=>(finish E F x T.mem).map fun r=>⟨r.1,[],r.2⟩
  | _=>none
 | none=>none
def bq (E:Env) (g:FuncId) (n:Nat) (S:SM) (o:List (Nat × gX)) (x:SV):SM:=(wK E g n S o x).getD ⟨⟨0,eO 0 0 [],[],[],false,.normal,none⟩,[],bO 0 0 0 []⟩
def bE (E:Env) (g:FuncId) (n:Nat) (S:SM) (o:List (Nat × gX)) (x:SV):List Prop:=match wK E g n S o x with
 | some T=>T.mem.obl
 | none=>[False]
theorem yi {g:FuncId} {n:Nat} {S:SM} {o:List (Nat × gX)} {x:SV} (h:ak (bE E g n S o x)):wK E g n S o x=some (bq E g n S o x)∧(bq E g n S o x).mem.ob:=by
 unfold bE at h
 unfold bq
 split at h
 ·rename_i T hT
  rw [hT];exact ⟨rfl,h⟩
 ·exact aR h
theorem af.eH (K:aW E M w0) {H0 H:Hp} {M00:Own} {w00:World} (hk:Kept H0 M00 w00 H M w0) {n:Nat} {g:FuncId} {S:SM} {o:List (Nat × gX)} {args:List SV} (h:ak (bI E g n S o)) (hG:er E g n S o=dm E g args .normal)
  (hc:∀ ν' w a,ν.Le ν'→H.Sub w.hp→GR ν' E→ay ν' args a→Calls E.P g a.toArray w fun e w'=>Below w.heap.size w w'∧∃ y,e=.returned y∧(∀ M2,Kept H0 M00 w00 (H.grow w w') M2 w'→
   ak (bE E g n S o (.v y))∧af E M2 w' cs0 f R ν (bq E g n S o (.v y)))):af E M w0 cs0 f R ν S:=by
 unfold bI at h
 cases hT:po E (kp g) n (S.with o) with
 | none=>rw [hT] at h;exact aR h
 | some T=>
  rw [hT] at h
  dsimp only at h
  split at h
  ·rename_i F hF
   obtain ⟨hlag,hob⟩:=eI h
   unfold er at hG
   rw [hT] at hG
   obtain ⟨top,callers,mem⟩:=T
   dsimp only at hF hG hob
   subst hF
   refine af.go K hT hob (af.Lb (F:=F) hG.symm hlag hk fun ν' w a hle hsub hgr ha=>?_)
   refine (hc ν' w a hle hsub hgr ha).mono fun e w' ⟨hB,y,he,hn⟩=>⟨hB,y,.v y,he,VR.ah.2 rfl,fun M2 hK=>?_⟩
   obtain ⟨h1,h2⟩:=hn M2 hK
   obtain ⟨h3,h4⟩:=yi h1
   have h5:=h3
   unfold wK at h5
   rw [hT] at h5
   dsimp only at h5
   obtain ⟨r,hr,he2⟩:=Option.map_eq_some_iff.1 h5
   refine ⟨r.1,r.2,hr,?_,?_⟩
   ·have:(bq E g n S o (.v y)).mem=r.2:=by rw [← he2]
    have h6:(bq E g n S o (.v y)).mem.ob:=h4
    rw [this] at h6;exact h6
   ·have:(⟨r.1,[],r.2⟩:SM)=bq E g n S o (.v y):=he2
    rw [this];exact h2.mono hle
  ·exact aR h
end
def Hp.fY (H:Hp) (w w':World) (b:Nat):Hp:=fun k=>if k=b then none else H.grow w w' k
theorem Hp.gr {H:Hp} {w w':World} {b:Nat}:(H.fY w w' b).Sub (H.grow w w'):=fun k o h=>by
 unfold Hp.fY at h
 split at h
 ·cases h
 ·exact h
theorem Hp.pW {H:Hp} {w w':World} {b:Nat} (h:H.Sub w.hp) (hb:w.heap.size≤b):H.Sub (H.fY w w' b):=fun k o hk=>by
 have:=(Array.getElem?_eq_some_iff.1 (h k o hk)).1
 unfold Hp.fY
 rw [if_neg (by omega)]
 exact Hp.dX h k o hk
section
variable {E:Env} {ν:aU} {M:Own} {w0 w:World} {s s':SH} {cs0:List Frame} {f:FuncId} {R:Ending→World→Prop}
theorem af.Je {G F:SF} {g:FuncId} {args:List SV} (hG:dm E g args .normal=some G) (hlag:re E F=true) {H0 H:Hp} {M00:Own} {w00:World} (hk:Kept H0 M00 w00 H M w0)
  (hc:∀ ν' w a,ν.Le ν'→H.Sub w.hp→GR ν' E→ay ν' args a→
   Calls E.P g a.toArray w fun e w'=>Below w.heap.size w w'∧∃ y x so b c o,e=.returned y∧s.room=true∧w.heap.size≤b∧w'.heap[b]?=some o∧OR (ν'.put s.nx (b,c)) s.nx so o∧VR (ν'.put s.nx (b,c)) x y∧(∀ M2,Kept H0 M00 w00 (H.fY w w' b) M2 w'→
    ∃ F' s3,finish E F x (s.new so)=some (F',s3)∧s3.ob∧af E M2 w' cs0 f R ν ⟨F',[],s3⟩)):af E M w0 cs0 f R ν ⟨G,[F],s⟩:=by
 refine af.call hG fun ν' M1 w1 w a cs hle hB hr hg ha hcal=>?_
 have hsub:=hk.now hB hr
 refine (hc ν' w a hle hsub hg ha).mono fun e w' ⟨hbel,y,x,so,b,c,o,he,hroom,hbn,hob,hor,hv,hnext⟩=>⟨y,he,fun fr cs' hcs=>?_⟩
 subst hcs
 have holdb:∀ i d,i<2 ^ s.d→s.H.get i≠none→ν' i=some d→d.1<w.heap.size:=by
  intro i d hi hx hd
  cases hx':s.H.get i with
  | none=>exact absurd hx' hx
  | some x=>
   obtain ⟨b',o',hb',ho',_,_⟩:=hr.obj i hi _ hx'
   rw [hd] at hb';cases hb'
   exact (Array.getElem?_eq_some_iff.1 ho').1
 obtain ⟨hle2,hrA⟩:=HR.sb (hr.grow hbel) hroom (Nat.le_trans hr.size hbn) hob (fun i d hi hx hd=>by have:=holdb i d hi hx hd;omega) hor
 have hnx:s.nx<2 ^ s.d:=c4.1 hroom
 have hput:∀ j,j≠s.nx→(ν'.put s.nx (b,c)) j=ν' j:=fun j e=>by simp [aU.put,e]
 have hown:∀ k,(cG (ν'.put s.nx (b,c)) M1 (s.new so)) k→k=b∨(k<w.heap.size∧(w1.heap.size≤k∨M1 k)):=by
  rintro k ⟨i,x',c',hi,hx',hb'⟩
  have hi:i<2 ^ s.d:=hi
  have hx':(s.H.set s.nx (some (so,true))).get i=some (x',true):=hx'
  rw [Tr.dA hr.full hnx hi] at hx'
  by_cases e:i=s.nx
  ·subst e
   rw [aU.bM] at hb';cases hb'
   exact .inl rfl
  ·rw [if_neg e] at hx'
   rw [hput i e] at hb'
   obtain ⟨b2,o2,hb2,ho2,_,h4⟩:=hr.obj i hi _ hx'
   rw [hb'] at hb2;cases hb2
   exact .inr ⟨(Array.getElem?_eq_some_iff.1 ho2).1,h4 rfl⟩
 have hB2:dz M w0 (cG (ν'.put s.nx (b,c)) M1 (s.new so)) w':=by
  refine ⟨Nat.le_trans hB.size (Nat.le_trans hr.size hbel.size),hbel.os.trans (hr.os.trans hB.os),hbel.tape.trans (hr.tape.trans hB.tape),hbel.output.trans (hr.output.trans hB.output),fun k hb hM=>?_,fun k hb=>?_,hB.ro,fun b h=>h.elim,fun k hb=>?_⟩
  ·obtain ⟨h1,h2⟩:=hB.frame k hb hM
   have hb1:=Nat.lt_of_lt_of_le hb hB.size
   have hb2:=Nat.lt_of_lt_of_le hb1 hr.size
   refine ⟨(hbel.block k hb2).trans ((hr.frame k hb1 h2).trans h1),fun hl=>?_⟩
   rcases hown k hl with h | ⟨_,h | h⟩
   ·omega
   ·omega
   ·exact h2 h
  ·rcases hb with hb | hb
   ·exact .inl (Nat.le_trans hB.size (Nat.le_trans hr.size (Nat.le_trans hbel.size hb)))
   ·rcases hown k hb with h | ⟨_,h⟩
    ·exact .inl (Nat.le_trans hB.size (Nat.le_trans hr.size (by omega)))
    ·exact hB.own k h
  ·exact Nat.lt_of_lt_of_le (hB.rlt k hb) (Nat.le_trans hr.size hbel.size)
 have hK2:Kept H0 M00 w00 (H.fY w w' b) (cG (ν'.put s.nx (b,c)) M1 (s.new so)) w':=by
  refine ⟨hk.sub0.trans (Hp.pW hsub hbn),fun k o' hb=>?_,fun k o' hb h=>?_,hk.base.trans hB2⟩
  ·have hw':=Hp.nK hsub hbel k o' (Hp.gr k o' hb)
   refine ⟨(Array.getElem?_eq_some_iff.1 hw').1,fun hl=>?_,hw'⟩
   have hne:k≠b:=fun e=>by
    unfold Hp.fY at hb
    rw [if_pos e] at hb;cases hb
   rcases hown k hl with h | ⟨h1,h2⟩
   ·exact hne h
   ·have hb:=Hp.gr k o' hb
    simp only [Hp.grow,if_pos h1] at hb
    obtain ⟨h3,h4,_⟩:=hk.still k o' hb
    have h5:=(hB.frame k h3 h4).2
    rcases h2 with h | h
    ·have:=hB.size;omega
    ·exact h5 h
  ·have hlt:k<w.heap.size:=Nat.lt_of_lt_of_le hb (Nat.le_trans hk.base.size (Nat.le_trans hB.size hr.size))
   have h:=Hp.gr k o' h
   simp only [Hp.grow,if_pos hlt] at h
   exact hk.old k o' hb h
 obtain ⟨F',s3,hfin,ob,hsafe⟩:=hnext _ hK2
 have hr2:=vp hrA
 cases hcal with
 | wait hw ht=>
 have hhl:=ot hlag hw
 subst hhl
 have hw2:eS E (ν'.put s.nx (b,c)) (cG (ν'.put s.nx (b,c)) M1 (s.new so)) w' [] F fr:=eS.mono hle2 ⟨hw.base,hw.ret,hw.mode,hw.todo.c7 fun b hb=>by cases hb⟩
 have ht2:bn E (ν'.put s.nx (b,c)) (cG (ν'.put s.nx (b,c)) M1 (s.new so)) w' cs0 [] F.kind [] cs':=by
  generalize F.kind=kk at ht
  cases ht with
  | nil h=>exact .nil List.nodup_nil
 obtain ⟨_,hMR⟩:=eG hw2 hr2 (hg.mono hle2) hv hfin ht2 ob
 exact hsafe (ν'.put s.nx (b,c)) _ _ _ (hle.trans hle2) (dz.refl (fun b hb=>hB2.rlt b hb) fun b h=>h) hMR
def td (E:Env) (g:FuncId) (n:Nat) (S:SM) (o:List (Nat × gX)) (mk:Nat→SV) (so:SO):Option SM:=match po E (kp g) n (S.with o) with
 | some T=>match T.callers with
  | [F]=>bif T.mem.room then (finish E F (mk T.mem.nx) (T.mem.new so)).map fun r=>⟨r.1,[],r.2⟩ else none
  | _=>none
 | none=>none
def kI (E:Env) (g:FuncId) (n:Nat) (S:SM) (o:List (Nat × gX)) (mk:Nat→SV) (so:SO):SM:=(td E g n S o mk so).getD ⟨⟨0,eO 0 0 [],[],[],false,.normal,none⟩,[],bO 0 0 0 []⟩
def sr (E:Env) (g:FuncId) (n:Nat) (S:SM) (o:List (Nat × gX)) (mk:Nat→SV) (so:SO):List Prop:=match td E g n S o mk so with
 | some T=>T.mem.obl
 | none=>[False]
theorem Ak {g:FuncId} {n:Nat} {S:SM} {o:List (Nat × gX)} {mk:Nat→SV} {so:SO} (h:ak (sr E g n S o mk so)):td E g n S o mk so=some (kI E g n S o mk so)∧(kI E g n S o mk so).mem.ob:=by
 unfold sr at h
 unfold kI
 split at h
 ·rename_i T hT
  rw [hT];exact ⟨rfl,h⟩
 ·exact aR h
theorem af.Cx (K:aW E M w0) {H0 H:Hp} {M00:Own} {w00:World} (hk:Kept H0 M00 w00 H M w0) {n:Nat} {g:FuncId} {S:SM} {o:List (Nat × gX)} {args:List SV} (h:ak (bI E g n S o)) (hG:er E g n S o=dm E g args .normal)
  (hc:∀ ν' w a,ν.Le ν'→H.Sub w.hp→GR ν' E→ay ν' args a→Calls E.P g a.toArray w fun e w'=>Below w.heap.size w w'∧∃ y mk so b c ob,e=.returned y∧w.heap.size≤b∧w'.heap[b]?=some ob∧(∀ (ν2:aU) i,ν2 i=some (b,c)→OR ν2 i so ob∧VR ν2 (mk i) y)∧
   ak (sr E g n S o mk so)∧∀ M2,Kept H0 M00 w00 (H.fY w w' b) M2 w'→af E M2 w' cs0 f R ν (kI E g n S o mk so)):af E M w0 cs0 f R ν S:=by
 unfold bI at h
 cases hT:po E (kp g) n (S.with o) with
 | none=>rw [hT] at h;exact aR h
 | some T=>
  rw [hT] at h
  dsimp only at h
  split at h
  ·rename_i F hF
   obtain ⟨hlag,hob⟩:=eI h
   unfold er at hG
   rw [hT] at hG
   obtain ⟨top,callers,mem⟩:=T
   dsimp only at hF hG hob
   subst hF
   refine af.go K hT hob (af.Je (F:=F) hG.symm hlag hk fun ν' w a hle hsub hgr ha=>?_)
   refine (hc ν' w a hle hsub hgr ha).mono fun e w' ⟨hB,y,mk,so,b,c,ob,he,hbn,hbo,hall,h1,h2⟩=>?_
   obtain ⟨h3,h4⟩:=Ak h1
   have h5:=h3
   unfold td at h5
   rw [hT] at h5
   dsimp only at h5
   cases hroom:mem.room
   ·rw [hroom] at h5;cases h5
   rw [hroom] at h5
   simp only [cond_true] at h5
   obtain ⟨r,hr,he2⟩:=Option.map_eq_some_iff.1 h5
   obtain ⟨q1,q2⟩:=hall (ν'.put mem.nx (b,c)) mem.nx (aU.bM _ _ _)
   refine ⟨hB,y,mk mem.nx,so,b,c,ob,he,rfl,hbn,hbo,q1,q2,fun M2 hK=>⟨r.1,r.2,hr,?_,?_⟩⟩
   ·have:(kI E g n S o mk so).mem=r.2:=by rw [← he2]
    have h6:(kI E g n S o mk so).mem.ob:=h4
    rw [this] at h6;exact h6
   ·have:(⟨r.1,[],r.2⟩:SM)=kI E g n S o mk so:=he2
    rw [this];exact h2 M2 hK
  ·exact aR h
def iR (E:Env) (g:FuncId) (n:Nat) (S:SM) (o:List (Nat × gX)) (i:Nat):Option (SO × Bool):=match po E (kp g) n (S.with o) with
 | some T=>T.mem.look i
 | none=>none
theorem af.IL {G F:SF} {g:FuncId} {args:List SV} (hG:dm E g args .normal=some G) (hlag:re E F=true) {H0 H:Hp} {M00:Own} {w00:World} (hk:Kept H0 M00 w00 H M w0)
  (hc:∀ ν' w a,ν.Le ν'→H.Sub w.hp→GR ν' E→ay ν' args a→(∀ i so m,s.look i=some (so,m)→∃ b o,ν' i=some b∧w.heap[b.1]?=some o∧OR ν' i so o)→
   Calls E.P g a.toArray w fun e w'=>Below w.heap.size w w'∧∃ y x,e=.returned y∧VR ν' x y∧(∀ M2,Kept H0 M00 w00 (H.grow w w') M2 w'→
    ∃ F' s3,finish E F x s=some (F',s3)∧s3.ob∧af E M2 w' cs0 f R ν' ⟨F',[],s3⟩)):af E M w0 cs0 f R ν ⟨G,[F],s⟩:=by
 refine af.call hG fun ν' M1 w1 w a cs hle hB hr hg ha hcal=>?_
 have hsub:=hk.now hB hr
 refine (hc ν' w a hle hsub hg ha (fun i so m hl=>by obtain ⟨_,_,b,o,h1,h2,h3,_⟩:=hr.look hl;exact ⟨b,o,h1,h2,h3⟩)).mono fun e w' ⟨hbel,y,x,he,hv,hnext⟩=>⟨y,he,fun fr cs' hcs=>?_⟩
 subst hcs
 have hown:∀ b,(cG ν' M1 s) b→b<w.heap.size∧(w1.heap.size≤b∨M1 b):=by
  rintro b ⟨i,x,c,hi,hx,hb⟩
  obtain ⟨b',o,hb',ho,_,h4⟩:=hr.obj i hi _ hx
  rw [hb] at hb';cases hb'
  exact ⟨(Array.getElem?_eq_some_iff.1 ho).1,h4 rfl⟩
 have hB2:dz M w0 (cG ν' M1 s) w':=by
  refine ⟨Nat.le_trans hB.size (Nat.le_trans hr.size hbel.size),hbel.os.trans (hr.os.trans hB.os),hbel.tape.trans (hr.tape.trans hB.tape),hbel.output.trans (hr.output.trans hB.output),fun b hb hM=>?_,fun b hb=>?_,hB.ro,fun b h=>h.elim,fun b hb=>?_⟩
  ·obtain ⟨h1,h2⟩:=hB.frame b hb hM
   have hb1:=Nat.lt_of_lt_of_le hb hB.size
   refine ⟨(hbel.block b (Nat.lt_of_lt_of_le hb1 hr.size)).trans ((hr.frame b hb1 h2).trans h1),fun hl=>?_⟩
   rcases (hown b hl).2 with h | h
   ·omega
   ·exact h2 h
  ·rcases hb with hb | hb
   ·exact .inl (Nat.le_trans hB.size (Nat.le_trans hr.size (Nat.le_trans hbel.size hb)))
   ·exact hB.own b (hown b hb).2
  ·exact Nat.lt_of_lt_of_le (hB.rlt b hb) (Nat.le_trans hr.size hbel.size)
 have hK2:Kept H0 M00 w00 (H.grow w w') (cG ν' M1 s) w':=by
  refine ⟨hk.sub0.trans (Hp.dX hsub),fun b o hb=>?_,fun b o hb h=>?_,hk.base.trans hB2⟩
  ·have hw':=Hp.nK hsub hbel b o hb
   refine ⟨(Array.getElem?_eq_some_iff.1 hw').1,fun hl=>?_,hw'⟩
   obtain ⟨h1,h2⟩:=hown b hl
   simp only [Hp.grow,if_pos h1] at hb
   obtain ⟨h3,h4,_⟩:=hk.still b o hb
   have h5:=(hB.frame b h3 h4).2
   rcases h2 with h | h
   ·have:=hB.size;omega
   ·exact h5 h
  ·have hlt:b<w.heap.size:=Nat.lt_of_lt_of_le hb (Nat.le_trans hk.base.size (Nat.le_trans hB.size hr.size))
   simp only [Hp.grow,if_pos hlt] at h
   exact hk.old b o hb h
 obtain ⟨F',s3,hfin,ob,hsafe⟩:=hnext _ hK2
 have hr2:HR ν' (cG ν' M1 s) w' s w':=by
  have hg:=hr.grow hbel
  refine ⟨hg.full,hg.dom,hg.fresh,fun i hi x hx=>?_,hg.inj,Nat.le_refl _,fun _ _ _=>rfl,hg.ro,rfl,rfl,rfl⟩
  obtain ⟨b,o,h1,h2,h3,h4⟩:=hg.obj i hi x hx
  refine ⟨b,o,h1,h2,h3,fun hm=>.inr ⟨i,x.1,b.2,hi,?_,h1⟩⟩
  rw [hx,← hm]
 cases hcal with
 | wait hw ht=>
 have hhl:=ot hlag hw
 subst hhl
 have hw2:eS E ν' (cG ν' M1 s) w' [] F fr:=⟨hw.base,hw.ret,hw.mode,hw.todo.c7 fun b hb=>by cases hb⟩
 have ht2:bn E ν' (cG ν' M1 s) w' cs0 [] F.kind [] cs':=by
  generalize F.kind=kk at ht
  cases ht with
  | nil h=>exact .nil List.nodup_nil
 obtain ⟨_,hMR⟩:=eG hw2 hr2 hg hv hfin ht2 ob
 exact hsafe ν' _ _ _ (aU.Le.refl _) (dz.refl (fun b hb=>hB2.rlt b hb) fun b h=>h) hMR
theorem af.GZ (K:aW E M w0) {H0 H:Hp} {M00:Own} {w00:World} (hk:Kept H0 M00 w00 H M w0) {n:Nat} {g:FuncId} {S:SM} {o:List (Nat × gX)} {args:List SV} (h:ak (bI E g n S o)) (hG:er E g n S o=dm E g args .normal)
  (hc:∀ ν' w a,ν.Le ν'→H.Sub w.hp→GR ν' E→ay ν' args a→(∀ i so m,iR E g n S o i=some (so,m)→∃ b o,ν' i=some b∧w.heap[b.1]?=some o∧OR ν' i so o)→Calls E.P g a.toArray w fun e w'=>Below w.heap.size w w'∧∃ y,e=.returned y∧(∀ M2,Kept H0 M00 w00 (H.grow w w') M2 w'→
   ak (bE E g n S o (.v y))∧af E M2 w' cs0 f R ν (bq E g n S o (.v y)))):af E M w0 cs0 f R ν S:=by
 unfold bI at h
 cases hT:po E (kp g) n (S.with o) with
 | none=>rw [hT] at h;exact aR h
 | some T=>
  rw [hT] at h
  dsimp only at h
  split at h
  ·rename_i F hF
   obtain ⟨hlag,hob⟩:=eI h
   unfold er at hG
   rw [hT] at hG
   obtain ⟨top,callers,mem⟩:=T
   dsimp only at hF hG hob
   subst hF
   refine af.go K hT hob (af.IL (F:=F) hG.symm hlag hk fun ν' w a hle hsub hgr ha hlk=>?_)
   refine (hc ν' w a hle hsub hgr ha (fun i so m hl=>hlk i so m (by unfold iR at hl;rw [hT] at hl;exact hl))).mono fun e w' ⟨hB,y,he,hn⟩=>⟨hB,y,.v y,he,VR.ah.2 rfl,fun M2 hK=>?_⟩
   obtain ⟨h1,h2⟩:=hn M2 hK
   obtain ⟨h3,h4⟩:=yi h1
   have h5:=h3
   unfold wK at h5
   rw [hT] at h5
   dsimp only at h5
   obtain ⟨r,hr,he2⟩:=Option.map_eq_some_iff.1 h5
   refine ⟨r.1,r.2,hr,?_,?_⟩
   ·have:(bq E g n S o (.v y)).mem=r.2:=by rw [← he2]
    have h6:(bq E g n S o (.v y)).mem.ob:=h4
    rw [this] at h6;exact h6
   ·have:(⟨r.1,[],r.2⟩:SM)=bq E g n S o (.v y):=he2
    rw [this];exact h2.mono hle
  ·exact aR h
end
end Go.Rx
set_option maxRecDepth 100000
namespace Go.Proofs.Ytbjmmnegkpeboaa
open Go Go.Rx Go.RowKit
noncomputable def ke:List (FuncId × vm):=[(94,.pure Extern.BytealgIndexByte.indexByte)]
theorem eY:∀ r∈ke,C4 Try.prog r:=by
 intro r hr
 simp only [ke,List.mem_cons,List.not_mem_nil,or_false] at hr
 rcases hr with rfl
 ·exact ⟨Try.f94,_,Try.func94,by kernel_rfl,by kernel_rfl,by kernel_rfl,rfl,by kernel_rfl⟩
def MA (l:List (Nat × Bool)):Nat→Option Bool:=fun n=>l.lookup n
noncomputable def E (l:List (Nat × Bool)) (G:List (Nat × Nat)):Env:={ P:=Try.prog,ext:=fun f=>ke.lookup f,G,orc:=MA l,sums:=fun _=>none,qs:=fun _=>none }
theorem facts {M:Own} {w0:World} (l:List (Nat × Bool)) (G:List (Nat × Nat)):aW (E l G) M w0:=
 aW.of (Checked.mixed Try.checked) (by kernel_rfl) (gu.of ke rfl eY) rfl (fun f g h=>by cases h)
noncomputable def EP (sl:List (FuncId × PS)) (G:List (Nat × Nat)):Env:={ P:=Try.prog,ext:=fun f=>ke.lookup f,G,orc:=fun _=>none,sums:=za sl,qs:=fun _=>none }
theorem zT {M:Own} {w0:World} {sl:List (FuncId × PS)} {G:List (Nat × Nat)} {X:World→Prop} (h:∀ r∈sl,dE Try.prog X r) (hX:∀ ν s w,HR ν M w0 s w→GR ν (EP sl G)→X w):aW (EP sl G) M w0:=
 aW.Bg (Checked.mixed Try.checked) (by kernel_rfl) (gu.of ke rfl eY) (ep.of rfl h hX) (fun f g h=>by cases h)
theorem kb {M:Own} {w0:World} {sl:List (FuncId × PS)} (h:∀ r∈sl,dE Try.prog (fun _=>True) r):aW (EP sl []) M w0:=zT h fun _ _ _ _ _=>trivial
theorem own:ownKnob Try.prog.godebug=none:=by kernel_rfl
theorem laidOut:laidOutB Try.prog=true:=by kernel_rfl
abbrev vZ (n:Int):Value:=.int .i64 n
abbrev nZ:Option Nat:=none
end Go.Proofs.Ytbjmmnegkpeboaa
set_option linter.unusedSimpArgs false
set_option linter.unusedVariables false
set_option maxRecDepth 100000
namespace Go.Proofs.Ytbjmmnegkpeboaa
open Go Go.Rx Go.RowKit Go.Proofs
namespace paths
def MX (w:World):Prop:=∃ m:Int,w.cell? ⟨0,0,none⟩=some (.int .i64 m)
theorem MX.keep {w0 w:World} (h:MX w0) (hk:∀ k,k<w0.heap.size→w.heap[k]?=w0.heap[k]?):MX w:=let ⟨m,h⟩:=h;⟨m,Bp h hk⟩
def xo:Go.Shelf.Ren:=⟨fun | 145=>56 | 220=>76 | 219=>87 | 217=>88 | 225=>91 | 224=>92 | 267=>93 | 266=>94 | 314=>95 | n=>n,fun | 9=>9 | 4=>4 | 59=>91 | 3=>3 | 5=>5 | 46=>90 | 146=>121 | 51=>108 | n=>n,fun | 1=>0 | n=>n⟩
theorem vH:Go.Proofs.LaysM.n145 Try.prog xo where
 mixed:=by kernel_rfl
 f145:=Try.func56.trans (congrArg some (by kernel_rfl))
 f217:=Try.func88.trans (congrArg some (by kernel_rfl))
 f219:=Try.func87.trans (congrArg some (by kernel_rfl))
 f220:=Try.func76.trans (congrArg some (by kernel_rfl))
 f224:=Try.func92.trans (congrArg some (by kernel_rfl))
 f225:=Try.func91.trans (congrArg some (by kernel_rfl))
 f266:=Try.func94.trans (congrArg some (by kernel_rfl))
 f267:=Try.func93.trans (congrArg some (by kernel_rfl))
 f314:=Try.func95.trans (congrArg some (by kernel_rfl))
 t3:=Try.underlying3
 a3:=Try.isAgg3
 z3:=Try.sizeOf3
 v3:=Try.zeroValue3
 t4:=Try.underlying4
 a4:=Try.isAgg4
 z4:=Try.sizeOf4
 v4:=Try.zeroValue4
 t5:=Try.underlying5
 a5:=Try.isAgg5
 z5:=Try.sizeOf5
 v5:=Try.zeroValue5
 t9:=Try.underlying9
 a9:=Try.isAgg9
 z9:=Try.sizeOf9
 v9:=Try.zeroValue9
 t46:=Try.underlying90
 a46:=Try.isAgg90
 z46:=Try.sizeOf90
 v46:=Try.zeroValue90
 t51:=Try.underlying108
 a51:=Try.isAgg108
 z51:=Try.sizeOf108
 v51:=Try.zeroValue108
 t59:=Try.underlying91
 a59:=Try.isAgg91
 z59:=Try.sizeOf91
 v59:=Try.zeroValue91
 t146:=Try.underlying121
 a146:=Try.isAgg121
 z146:=Try.sizeOf121
 v146:=Try.zeroValue121
 g1:=by kernel_rfl
 i3:=by kernel_rfl
 i4:=by kernel_rfl
 i5:=by kernel_rfl
 i9:=by kernel_rfl
 i46:=by kernel_rfl
 i51:=by kernel_rfl
 i59:=by kernel_rfl
 i146:=by kernel_rfl
 m1:=by kernel_rfl
 s1_3:=fun w h=>Go.Proofs.cell_of_shapedOpen_int (zero:=#[.int .i64 0]) (t:=3) h (of_decide_eq_true (by kernel_rfl)) (by kernel_rfl) rfl (by kernel_rfl) (by kernel_rfl) Try.underlying3

def zG:Go.Shelf.Ren:=⟨fun | 137=>79 | 217=>88 | 266=>94 | n=>n,fun | 9=>9 | 5=>5 | 3=>3 | n=>n,fun | n=>n⟩
theorem H5:Go.Proofs.Lays.n137 Try.prog zG where
 mixed:=by kernel_rfl
 f137:=Try.func79.trans (congrArg some (by kernel_rfl))
 f217:=Try.func88.trans (congrArg some (by kernel_rfl))
 f266:=Try.func94.trans (congrArg some (by kernel_rfl))
 t3:=Try.underlying3
 a3:=Try.isAgg3
 z3:=Try.sizeOf3
 v3:=Try.zeroValue3
 t5:=Try.underlying5
 a5:=Try.isAgg5
 z5:=Try.sizeOf5
 v5:=Try.zeroValue5
 t9:=Try.underlying9
 a9:=Try.isAgg9
 z9:=Try.sizeOf9
 v9:=Try.zeroValue9

def cA (s:ByteArray):ByteArray:=⟨(Lib.cut s.data.toList [47]).1.toArray⟩
def cB (s:ByteArray):ByteArray:=⟨(Lib.cut s.data.toList [47]).2.1.toArray⟩
def cM (s:ByteArray):Bool:=(Lib.cut s.data.toList [47]).2.2
def bF:ByteArray:=⟨#[47]⟩
def AS:PS:=fun args=>match args with | [.string s,.string t]=>some (.tuple #[.string (cA s),.string (cB s),.bool (cM s)],s.size≤1000000000∧t=bF) | _=>none
theorem IX:dE Try.prog MX (56,AS):=by
 refine ⟨⟨_,Try.func56,by kernel_rfl,by kernel_rfl⟩,fun args v p h hp w hX=>?_⟩
 dsimp only [AS] at h
 split at h
 ·rename_i s t
  cases h
  obtain ⟨h1,rfl⟩:=hp
  obtain ⟨m,hm⟩:=hX
  refine (Any.strings_Cut { vH with } s bF m w (by omega) hm).mono fun e w' ⟨he,n,hw⟩=>⟨?_,he⟩
  rw [hw];exact below_drewN (Below.refl _ _) n
 ·cases h
theorem jm (s:ByteArray):(cB s).size≤s.size:=by
 have e:(cB s).size=(Lib.cut s.data.toList [47]).2.1.length:=by simp [cB,ByteArray.size]
 have e2:s.data.toList.length=s.size:=by simp
 rw [e];unfold Lib.cut
 split
 ·simp only [List.length_drop];omega
 ·simp
theorem I8:cA ⟨#[]⟩=⟨#[]⟩:=by
 have:Lib.cut [] [47]=([],[],false):=rfl
 show ByteArray.mk (Lib.cut [] [47]).1.toArray=_
 rw [this]
def Hi (s:ByteArray):Int:=Lib.indexByte s.data.toList 0
def HQ:PS:=fun args=>match args with | [.string s,.int .u8 c]=>some (.int .i64 (Hi s),c=0) | _=>none
theorem Kx:dE Try.prog (fun _=>True) (79,HQ):=by
 refine ⟨⟨_,Try.func79,by kernel_rfl,by kernel_rfl⟩,fun args v p h hp w hX=>?_⟩
 dsimp only [HQ] at h
 split at h
 ·rename_i s c
  cases h
  subst hp
  refine (Any.strings_IndexByte H5 s 0 w).mono fun e w' ⟨he,hw⟩=>⟨?_,he⟩
  rw [hw];exact Below.refl _ _
 ·cases h
noncomputable def EI:Env:=EP [(79,HQ)] []
theorem KI {M:Own} {w0:World}:aW EI M w0:=kb fun r h=>by rw [List.mem_singleton.1 h];exact Kx
theorem p0 (v:Value):ax EI 62 300 (ch EI 62 [.v (.string ⟨#[]⟩)]) [(1000,.b true)] v=[Value.bool false=v]:=by kernel_rfl
theorem p1 (v:Value):ax EI 62 300 (ch EI 62 [.v (.string ⟨#[46]⟩)]) [(1000,.b true)] v=[Value.bool false=v]:=by kernel_rfl
theorem p2 (v:Value):ax EI 62 300 (ch EI 62 [.v (.string ⟨#[46,46]⟩)]) [(1000,.b true)] v=[Value.bool false=v]:=by kernel_rfl
theorem p3 (s:ByteArray) (v:Value):ax EI 62 300 (ch EI 62 [.v (.string s)]) (ff [0,1,2,3] true++ff [4,5,6,7,8,9,10,11,12,13,14,15,16,17] false) v=[Value.bool false=v,false=false,false=false,false=false,false=false,false=false,false=false,false=false,decide ((↑s.size:Int)≤24)=false,decide ((↑s.size:Int)≤24)=false,decide ((↑s.size:Int)≤24)=false,(!s.toList==(⟨⟨[]⟩⟩:ByteArray).toList)=true,(!s.toList==(⟨⟨[]⟩⟩:ByteArray).toList)=true,(!s.toList==(⟨⟨[]⟩⟩:ByteArray).toList)=true,(!s.toList==(⟨⟨[]⟩⟩:ByteArray).toList)=true]:=by kernel_rfl
theorem p4 (s:ByteArray) (v:Value):ax EI 62 300 (ch EI 62 [.v (.string s)]) (ff [0,1,2,3,4,5,6,7,8,9,10,11,13,14,15,16,17] true) v=[Value.bool (decide (Hi s<0))=v,(!s.toList==(⟨⟨[46,46]⟩⟩:ByteArray).toList)=true,(!s.toList==(⟨⟨[46,46]⟩⟩:ByteArray).toList)=true,(0:Int)=0,(!s.toList==(⟨⟨[46,46]⟩⟩:ByteArray).toList)=true,(!s.toList==(⟨⟨[46,46]⟩⟩:ByteArray).toList)=true,(!s.toList==(⟨⟨[46]⟩⟩:ByteArray).toList)=true,(!s.toList==(⟨⟨[46]⟩⟩:ByteArray).toList)=true,(!s.toList==(⟨⟨[46]⟩⟩:ByteArray).toList)=true,decide ((↑s.size:Int)≤24)=true,decide ((↑s.size:Int)≤24)=true,decide ((↑s.size:Int)≤24)=true,(!s.toList==(⟨⟨[]⟩⟩:ByteArray).toList)=true,(!s.toList==(⟨⟨[]⟩⟩:ByteArray).toList)=true,(!s.toList==(⟨⟨[]⟩⟩:ByteArray).toList)=true,(!s.toList==(⟨⟨[]⟩⟩:ByteArray).toList)=true]:=by kernel_rfl
def bk (s:ByteArray):Bool:=decide (s.data.toList≠[]∧s.size≤24∧s.data.toList≠[46]∧s.data.toList≠[46,46])&&decide (Hi s<0)
def nf:PS:=fun args=>match args with | [.string s]=>some (.bool (bk s),s.size≤1000000000) | _=>none
theorem oP (b:ByteArray):b.toList=b.data.toList:=ByteArray.toList_eq b
theorem vd {a b:List UInt8} (h:a≠b):(a==b)=false:=beq_eq_false_iff_ne.2 h
theorem qL {s:ByteArray} {l:List UInt8} (h:s.data.toList=l):s=⟨l.toArray⟩:=by cases s;subst h;simp
theorem Bf:dE Try.prog (fun _=>True) (62,nf):=by
 refine ⟨⟨_,Try.func62,by kernel_rfl,by kernel_rfl⟩,fun args v p h hp w hX=>?_⟩
 dsimp only [nf] at h
 split at h
 ·rename_i s
  cases h
  refine (nn (E:=EI) rfl rfl (Q:=fun v=>v=.bool (bk s)) (args:=[.v (.string s)]) (a:=[.string s]) w (S0:=ch EI 62 [.v (.string s)]) (by kernel_rfl) (ay.cons (VR.ah.2 rfl) ay.nil) fun cs0=>?_).mono fun e w' ⟨h1,u,h2,h3⟩=>⟨h1,by rw [h2,h3]⟩
  have hend:∀ (ν':aU) (M1:Own) (w1:World) (s':SH) (w':World),(aE []).Le ν'→dz (aT [] []) w M1 w1→HR ν' M1 w1 s' w'→(Below w.heap.size w w'∧∃ v,Ending.returned (.bool (bk s))=.returned v∧v=.bool (bk s)):=fun ν' M1 w1 s' w' _ hB hr=>⟨aI bo hB hr,_,rfl,rfl⟩
  by_cases h0:s.data.toList=[]
  ·obtain rfl:=qL h0
   refine af.ax KI (n:=300) (o:=[(1000,.b true)]) (v:=.bool (bk _)) ?_ hend
   rw [p0]
   simp [ak,bk]
  by_cases h1:s.data.toList=[46]
  ·obtain rfl:=qL h1
   refine af.ax KI (n:=300) (o:=[(1000,.b true)]) (v:=.bool (bk _)) ?_ hend
   rw [p1]
   simp [ak,bk]
  by_cases h2:s.data.toList=[46,46]
  ·obtain rfl:=qL h2
   refine af.ax KI (n:=300) (o:=[(1000,.b true)]) (v:=.bool (bk _)) ?_ hend
   rw [p2]
   simp [ak,bk]
  by_cases h3:s.size≤24
  ·refine af.ax KI (n:=300) (o:=ff [0,1,2,3,4,5,6,7,8,9,10,11,13,14,15,16,17] true) (v:=.bool (bk s)) ?_ hend
   rw [p4]
   have e:bk s=decide (Hi s<0):=by unfold bk;simp [h0,h1,h2,h3]
   have c1:decide ((s.size:Int)≤24)=true:=decide_eq_true (by omega)
   simp only [ak,e,oP,vd h0,vd h1,vd h2,c1,Bool.not_false,true_and,and_true]
  ·refine af.ax KI (n:=300) (o:=ff [0,1,2,3] true++ff [4,5,6,7,8,9,10,11,12,13,14,15,16,17] false) (v:=.bool (bk s)) ?_ hend
   rw [p3]
   have e:bk s=false:=by unfold bk;simp [h3]
   have c1:decide ((s.size:Int)≤24)=false:=decide_eq_false (by omega)
   simp only [ak,e,oP,vd h0,c1,Bool.not_false,true_and,and_true]
 ·cases h
noncomputable def aL:Env:=EP [] []
theorem e1 (x y:ByteArray) (v:Value):ax aL 57 300 (ch aL 57 [.v (.string x),.v (.string y)]) (ff [0,1,2] false++ff [3] true) v=[vZ 1=v,(!(Op.bytesLess x.toList y.toList||x.toList==y.toList))=true,Op.bytesLess x.toList y.toList=false,(!y.toList==y.toList)=false,(!x.toList==x.toList)=false]:=by kernel_rfl
theorem e2 (x y:ByteArray) (v:Value):ax aL 57 300 (ch aL 57 [.v (.string x),.v (.string y)]) (ff [0,1,2,3] false) v=[vZ 0=v,(!(Op.bytesLess x.toList y.toList||x.toList==y.toList))=false,Op.bytesLess x.toList y.toList=false,(!y.toList==y.toList)=false,(!x.toList==x.toList)=false]:=by kernel_rfl
def wz (x y:ByteArray):Int:=if Op.bytesLess x.toList y.toList=true then -1 else if (!(Op.bytesLess x.toList y.toList||x.toList==y.toList))=true then 1 else 0
def HT:PS:=fun args=>match args with | [.string x,.string y]=>some (.int .i64 (wz x y),True) | _=>none
theorem de {M:Own} {w0:World}:aW aL M w0:=kb fun r h=>by cases h
noncomputable def EN:Env:=EP [(56,AS),(57,HT)] []
noncomputable def Js:List SI:=dn EN 1 60 (ch EN 40 [.v (.string ⟨#[]⟩),.v (.string ⟨#[]⟩)]) []
noncomputable def L3 (a b:ByteArray):SF:={ fn:=40,tm:=eO 44 6 ([.v (.string a),.v (.string b)]++List.replicate 42 .aJ),todo:=Js,defers:=[],ret:=false,kind:=.normal,ro:=none }
theorem n1 (a b:ByteArray) (v:Value):ax EN 40 300 (SM.at (L3 a b) 6 []) (ff (List.range 40) true) v=[vZ (wz (cA a) (cA b))=v,True,(!(cA a).toList==(cA b).toList)=true,b.size≤1000000000∧(⟨⟨[47]⟩⟩:ByteArray)=bF,a.size≤1000000000∧(⟨⟨[47]⟩⟩:ByteArray)=bF]:=by kernel_rfl
theorem n2 (a b:ByteArray) (v:Value):ax EN 40 300 (SM.at (L3 a b) 6 []) (ff [0,1,2] false++ff [3,4,5,6] true++ff [7] false++ff [8] true) v=[vZ (IntKind.i64.wrap (0 - 1))=v,cM b=true,cM a=false,true=true,(!cM a)=true,(!cM a)=true,(!cM a)=true,(!(cA a).toList==(cA b).toList)=false,b.size≤1000000000∧(⟨⟨[47]⟩⟩:ByteArray)=bF,a.size≤1000000000∧(⟨⟨[47]⟩⟩:ByteArray)=bF]:=by kernel_rfl
theorem n3 (a b a' b':ByteArray):reach EN 1 60 (SM.at (L3 a b) 6 []) (ff (List.range 40) false) [] [] (L3 a' b') 6 []=[Value.string (cB a)=Value.string a',Value.string (cB b)=Value.string b',(!cM b)=false,(!cM a)=false,(!cM a)=false,(!cM a)=false,(!(cA a).toList==(cA b).toList)=false,b.size≤1000000000∧(⟨⟨[47]⟩⟩:ByteArray)=bF,a.size≤1000000000∧(⟨⟨[47]⟩⟩:ByteArray)=bF]:=by kernel_rfl
theorem index_ge:∀ (s:List UInt8),Lib.index s [47]=-1∨0≤Lib.index s [47]
 | []=>.inl rfl
 | b::l=>by
  unfold Lib.index
  split
  ·exact .inr (Int.le_refl _)
  ·rcases index_ge l with h | h
   ·rw [h];exact .inl rfl
   ·right
    split
    ·rename_i e;rw [beq_iff_eq] at e;omega
    ·omega
theorem AH:Lib.cut [] [47]=([],[],false):=rfl
theorem Et (l:List UInt8):Lib.cut (47::l) [47]=([],l,true):=by
 have h:Lib.index (47::l) [47]=0:=by unfold Lib.index;simp [List.isPrefixOf]
 unfold Lib.cut;rw [h];simp
theorem DL {b:UInt8} (hb:b≠47) (l:List UInt8):Lib.cut (b::l) [47]=(b::(Lib.cut l [47]).1,(Lib.cut l [47]).2.1,(Lib.cut l [47]).2.2):=by
 have h0:([47]:List UInt8).isPrefixOf (b::l)=false:=by
  simp only [List.isPrefixOf,Bool.and_true];exact beq_eq_false_iff_ne.2 fun e=>hb e.symm
 have h:Lib.index (b::l) [47]=if Lib.index l [47]==-1 then -1 else Lib.index l [47]+1:=by
  conv=>lhs;unfold Lib.index
  rw [h0];rfl
 rcases index_ge l with h1 | h1
 ·have h2:Lib.index (b::l) [47]=-1:=by rw [h,h1];rfl
  unfold Lib.cut;rw [h1,h2];rfl
 ·have h2:Lib.index (b::l) [47]=Lib.index l [47]+1:=by
   rw [h,if_neg (by rw [beq_iff_eq];omega)]
  unfold Lib.cut;rw [h2,if_pos h1,if_pos (by omega)]
  have e:(Lib.index l [47]+1).toNat=(Lib.index l [47]).toNat+1:=by omega
  rw [e];simp [Nat.add_right_comm]
def aw:List UInt8→List (List UInt8)
 | []=>[[]]
 | b::l=>if b=47 then []::aw l else match aw l with
  | []=>[[b]]
  | x::xs=>(b::x)::xs
theorem cO:∀ l:List UInt8,aw l≠[]
 | []=>by simp [aw]
 | b::l=>by
  unfold aw
  split
  ·simp
  ·split <;> simp
theorem ko:∀ l:List UInt8,aw l=(Lib.cut l [47]).1::(if (Lib.cut l [47]).2.2=true then aw (Lib.cut l [47]).2.1 else [])
 | []=>by rw [AH];rfl
 | b::l=>by
  by_cases hb:b=47
  ·subst hb
   rw [Et];simp [aw]
  ·rw [DL hb]
   have ih:=ko l
   have e:aw (b::l)=match aw l with
    | []=>[[b]]
    | x::xs=>(b::x)::xs:=by
    conv=>lhs;unfold aw
    rw [if_neg hb]
   rw [e,ih]
theorem AX:∀ l:List UInt8,(Lib.cut l [47]).2.2=true→(Lib.cut l [47]).2.1.length<l.length
 | []=>fun h=>by rw [AH] at h;cases h
 | b::l=>fun h=>by
  by_cases hb:b=47
  ·subst hb;rw [Et];simp
  ·rw [DL hb] at h ⊢
   have:=AX l h
   simp only [List.length_cons];omega
theorem AO (s:ByteArray) (h:cM s=true):(cB s).size<s.size:=by
 have e:(cB s).size=(Lib.cut s.data.toList [47]).2.1.length:=by simp [cB,ByteArray.size]
 have e2:s.data.toList.length=s.size:=by simp
 have:=AX s.data.toList h
 omega
def Hd (b:Bool):Int:=bif b then 1 else 0
def xI:Nat→ByteArray→ByteArray→Int
 | 0,_,_=>0
 | n+1,a,b=>if (cA a).data.toList=(cA b).data.toList then (if cM a=true∧cM b=true then xI n (cB a) (cB b) else Hd (cM a) - Hd (cM b)) else wz (cA a) (cA b)
def ey (a b:ByteArray):Int:=xI (a.size+1) a b
def AA:PS:=fun args=>match args with | [.string a,.string b]=>some (.int .i64 (ey a b),a.size≤1000000000∧b.size≤1000000000) | _=>none
theorem cz {E:Env} {M:Own} {w0:World} {cs0:List Frame} {f:FuncId} {R:Ending→World→Prop} {ν:aU} {n:Nat} {S:SM} {o:List (Nat × gX)} {v:Value} (K:aW E M w0) (hM:∀ b,¬ M b) (h:uw (ax E f n S o v)) (hR:∀ w',Below w0.heap.size w0 w'→R (.returned v) w'):af E M w0 cs0 f R ν S:=
 af.ax K h.out fun ν' M1 w1 s' w' _ hB hr=>hR _ (aI hM hB hr)
noncomputable def EC:Env:=EP [(56,AS),(62,nf)] []
theorem c0 (p:ByteArray) (v:Value):ax EC 48 3000 (ch EC 48 [.v (.string p)]) ([(0,.b true)]) v=[vZ 23=v,decide ((↑p.size:Int)>96)=true]:=by kernel_rfl
theorem OA (p:ByteArray) (v:Value):ax EC 48 3000 (ch EC 48 [.v (.string p)]) (ff [0] false++ff [8] true) v=[vZ 23=v,(!bk (cA p))=true,(cA p).size.le 1000000000,p.size≤1000000000∧(⟨⟨[47]⟩⟩:ByteArray)=bF,decide ((↑p.size:Int)>96)=false]:=by kernel_rfl
theorem Of (p:ByteArray) (v:Value):ax EC 48 3000 (ch EC 48 [.v (.string p)]) (ff [0,8,10] false++ff [] true) v=[vZ 0=v,cM p=false,(!bk (cA p))=false,(cA p).size.le 1000000000,p.size≤1000000000∧(⟨⟨[47]⟩⟩:ByteArray)=bF,decide ((↑p.size:Int)>96)=false]:=by kernel_rfl
theorem Q9 (p:ByteArray) (v:Value):ax EC 48 3000 (ch EC 48 [.v (.string p)]) (ff [0,8] false++ff [17,10] true) v=[vZ 23=v,(!bk (cA (cB p)))=true,(cA (cB p)).size.le 1000000000,(cB p).size≤1000000000∧(⟨⟨[47]⟩⟩:ByteArray)=bF,cM p=true,(!bk (cA p))=false,(cA p).size.le 1000000000,p.size≤1000000000∧(⟨⟨[47]⟩⟩:ByteArray)=bF,decide ((↑p.size:Int)>96)=false]:=by kernel_rfl
theorem RH (p:ByteArray) (v:Value):ax EC 48 3000 (ch EC 48 [.v (.string p)]) (ff [0,8,17,19] false++ff [10] true) v=[vZ 0=v,cM (cB p)=false,(!bk (cA (cB p)))=false,(cA (cB p)).size.le 1000000000,(cB p).size≤1000000000∧(⟨⟨[47]⟩⟩:ByteArray)=bF,cM p=true,(!bk (cA p))=false,(cA p).size.le 1000000000,p.size≤1000000000∧(⟨⟨[47]⟩⟩:ByteArray)=bF,decide ((↑p.size:Int)>96)=false]:=by kernel_rfl
theorem QK (p:ByteArray) (v:Value):ax EC 48 3000 (ch EC 48 [.v (.string p)]) (ff [0,8,17] false++ff [26,10,19] true) v=[vZ 23=v,(!bk (cA (cB (cB p))))=true,(cA (cB (cB p))).size.le 1000000000,(cB (cB p)).size≤1000000000∧(⟨⟨[47]⟩⟩:ByteArray)=bF,cM (cB p)=true,(!bk (cA (cB p)))=false,(cA (cB p)).size.le 1000000000,(cB p).size≤1000000000∧(⟨⟨[47]⟩⟩:ByteArray)=bF,cM p=true,(!bk (cA p))=false,(cA p).size.le 1000000000,p.size≤1000000000∧(⟨⟨[47]⟩⟩:ByteArray)=bF,decide ((↑p.size:Int)>96)=false]:=by kernel_rfl
theorem OW (p:ByteArray) (v:Value):ax EC 48 3000 (ch EC 48 [.v (.string p)]) (ff [0,8,17,26,28] false++ff [10,19] true) v=[vZ 0=v,cM (cB (cB p))=false,(!bk (cA (cB (cB p))))=false,(cA (cB (cB p))).size.le 1000000000,(cB (cB p)).size≤1000000000∧(⟨⟨[47]⟩⟩:ByteArray)=bF,cM (cB p)=true,(!bk (cA (cB p)))=false,(cA (cB p)).size.le 1000000000,(cB p).size≤1000000000∧(⟨⟨[47]⟩⟩:ByteArray)=bF,cM p=true,(!bk (cA p))=false,(cA p).size.le 1000000000,p.size≤1000000000∧(⟨⟨[47]⟩⟩:ByteArray)=bF,decide ((↑p.size:Int)>96)=false]:=by kernel_rfl
theorem PI (p:ByteArray) (v:Value):ax EC 48 3000 (ch EC 48 [.v (.string p)]) (ff [0,8,17,26] false++ff [35,10,19,28] true) v=[vZ 23=v,(!bk (cA (cB (cB (cB p)))))=true,(cA (cB (cB (cB p)))).size.le 1000000000,(cB (cB (cB p))).size≤1000000000∧(⟨⟨[47]⟩⟩:ByteArray)=bF,cM (cB (cB p))=true,(!bk (cA (cB (cB p))))=false,(cA (cB (cB p))).size.le 1000000000,(cB (cB p)).size≤1000000000∧(⟨⟨[47]⟩⟩:ByteArray)=bF,cM (cB p)=true,(!bk (cA (cB p)))=false,(cA (cB p)).size.le 1000000000,(cB p).size≤1000000000∧(⟨⟨[47]⟩⟩:ByteArray)=bF,cM p=true,(!bk (cA p))=false,(cA p).size.le 1000000000,p.size≤1000000000∧(⟨⟨[47]⟩⟩:ByteArray)=bF,decide ((↑p.size:Int)>96)=false]:=by kernel_rfl
theorem PZ (p:ByteArray) (v:Value):ax EC 48 3000 (ch EC 48 [.v (.string p)]) (ff [0,8,17,26,35,37] false++ff [10,19,28] true) v=[vZ 0=v,cM (cB (cB (cB p)))=false,(!bk (cA (cB (cB (cB p)))))=false,(cA (cB (cB (cB p)))).size.le 1000000000,(cB (cB (cB p))).size≤1000000000∧(⟨⟨[47]⟩⟩:ByteArray)=bF,cM (cB (cB p))=true,(!bk (cA (cB (cB p))))=false,(cA (cB (cB p))).size.le 1000000000,(cB (cB p)).size≤1000000000∧(⟨⟨[47]⟩⟩:ByteArray)=bF,cM (cB p)=true,(!bk (cA (cB p)))=false,(cA (cB p)).size.le 1000000000,(cB p).size≤1000000000∧(⟨⟨[47]⟩⟩:ByteArray)=bF,cM p=true,(!bk (cA p))=false,(cA p).size.le 1000000000,p.size≤1000000000∧(⟨⟨[47]⟩⟩:ByteArray)=bF,decide ((↑p.size:Int)>96)=false]:=by kernel_rfl
theorem O8 (p:ByteArray) (v:Value):ax EC 48 3000 (ch EC 48 [.v (.string p)]) (ff [0,8,17,26,35] false++ff [44,10,19,28,37] true) v=[vZ 23=v,(!bk (cA (cB (cB (cB (cB p))))))=true,(cA (cB (cB (cB (cB p))))).size.le 1000000000,(cB (cB (cB (cB p)))).size≤1000000000∧(⟨⟨[47]⟩⟩:ByteArray)=bF,cM (cB (cB (cB p)))=true,(!bk (cA (cB (cB (cB p)))))=false,(cA (cB (cB (cB p)))).size.le 1000000000,(cB (cB (cB p))).size≤1000000000∧(⟨⟨[47]⟩⟩:ByteArray)=bF,cM (cB (cB p))=true,(!bk (cA (cB (cB p))))=false,(cA (cB (cB p))).size.le 1000000000,(cB (cB p)).size≤1000000000∧(⟨⟨[47]⟩⟩:ByteArray)=bF,cM (cB p)=true,(!bk (cA (cB p)))=false,(cA (cB p)).size.le 1000000000,(cB p).size≤1000000000∧(⟨⟨[47]⟩⟩:ByteArray)=bF,cM p=true,(!bk (cA p))=false,(cA p).size.le 1000000000,p.size≤1000000000∧(⟨⟨[47]⟩⟩:ByteArray)=bF,decide ((↑p.size:Int)>96)=false]:=by kernel_rfl
theorem PT (p:ByteArray) (v:Value):ax EC 48 3000 (ch EC 48 [.v (.string p)]) (ff [0,8,17,26,35,44,46] false++ff [10,19,28,37] true) v=[vZ 0=v,cM (cB (cB (cB (cB p))))=false,(!bk (cA (cB (cB (cB (cB p))))))=false,(cA (cB (cB (cB (cB p))))).size.le 1000000000,(cB (cB (cB (cB p)))).size≤1000000000∧(⟨⟨[47]⟩⟩:ByteArray)=bF,cM (cB (cB (cB p)))=true,(!bk (cA (cB (cB (cB p)))))=false,(cA (cB (cB (cB p)))).size.le 1000000000,(cB (cB (cB p))).size≤1000000000∧(⟨⟨[47]⟩⟩:ByteArray)=bF,cM (cB (cB p))=true,(!bk (cA (cB (cB p))))=false,(cA (cB (cB p))).size.le 1000000000,(cB (cB p)).size≤1000000000∧(⟨⟨[47]⟩⟩:ByteArray)=bF,cM (cB p)=true,(!bk (cA (cB p)))=false,(cA (cB p)).size.le 1000000000,(cB p).size≤1000000000∧(⟨⟨[47]⟩⟩:ByteArray)=bF,cM p=true,(!bk (cA p))=false,(cA p).size.le 1000000000,p.size≤1000000000∧(⟨⟨[47]⟩⟩:ByteArray)=bF,decide ((↑p.size:Int)>96)=false]:=by kernel_rfl
theorem O3 (p:ByteArray) (v:Value):ax EC 48 3000 (ch EC 48 [.v (.string p)]) (ff [0,8,17,26,35,44] false++ff [53,10,19,28,37,46] true) v=[vZ 23=v,(!bk (cA (cB (cB (cB (cB (cB p)))))))=true,(cA (cB (cB (cB (cB (cB p)))))).size.le 1000000000,(cB (cB (cB (cB (cB p))))).size≤1000000000∧(⟨⟨[47]⟩⟩:ByteArray)=bF,cM (cB (cB (cB (cB p))))=true,(!bk (cA (cB (cB (cB (cB p))))))=false,(cA (cB (cB (cB (cB p))))).size.le 1000000000,(cB (cB (cB (cB p)))).size≤1000000000∧(⟨⟨[47]⟩⟩:ByteArray)=bF,cM (cB (cB (cB p)))=true,(!bk (cA (cB (cB (cB p)))))=false,(cA (cB (cB (cB p)))).size.le 1000000000,(cB (cB (cB p))).size≤1000000000∧(⟨⟨[47]⟩⟩:ByteArray)=bF,cM (cB (cB p))=true,(!bk (cA (cB (cB p))))=false,(cA (cB (cB p))).size.le 1000000000,(cB (cB p)).size≤1000000000∧(⟨⟨[47]⟩⟩:ByteArray)=bF,cM (cB p)=true,(!bk (cA (cB p)))=false,(cA (cB p)).size.le 1000000000,(cB p).size≤1000000000∧(⟨⟨[47]⟩⟩:ByteArray)=bF,cM p=true,(!bk (cA p))=false,(cA p).size.le 1000000000,p.size≤1000000000∧(⟨⟨[47]⟩⟩:ByteArray)=bF,decide ((↑p.size:Int)>96)=false]:=by kernel_rfl
theorem Om (p:ByteArray) (v:Value):ax EC 48 3000 (ch EC 48 [.v (.string p)]) (ff [0,8,17,26,35,44,53,55] false++ff [10,19,28,37,46] true) v=[vZ 0=v,cM (cB (cB (cB (cB (cB p)))))=false,(!bk (cA (cB (cB (cB (cB (cB p)))))))=false,(cA (cB (cB (cB (cB (cB p)))))).size.le 1000000000,(cB (cB (cB (cB (cB p))))).size≤1000000000∧(⟨⟨[47]⟩⟩:ByteArray)=bF,cM (cB (cB (cB (cB p))))=true,(!bk (cA (cB (cB (cB (cB p))))))=false,(cA (cB (cB (cB (cB p))))).size.le 1000000000,(cB (cB (cB (cB p)))).size≤1000000000∧(⟨⟨[47]⟩⟩:ByteArray)=bF,cM (cB (cB (cB p)))=true,(!bk (cA (cB (cB (cB p)))))=false,(cA (cB (cB (cB p)))).size.le 1000000000,(cB (cB (cB p))).size≤1000000000∧(⟨⟨[47]⟩⟩:ByteArray)=bF,cM (cB (cB p))=true,(!bk (cA (cB (cB p))))=false,(cA (cB (cB p))).size.le 1000000000,(cB (cB p)).size≤1000000000∧(⟨⟨[47]⟩⟩:ByteArray)=bF,cM (cB p)=true,(!bk (cA (cB p)))=false,(cA (cB p)).size.le 1000000000,(cB p).size≤1000000000∧(⟨⟨[47]⟩⟩:ByteArray)=bF,cM p=true,(!bk (cA p))=false,(cA p).size.le 1000000000,p.size≤1000000000∧(⟨⟨[47]⟩⟩:ByteArray)=bF,decide ((↑p.size:Int)>96)=false]:=by kernel_rfl
theorem cd (p:ByteArray) (v:Value):ax EC 48 3000 (ch EC 48 [.v (.string p)]) (ff [0,8,17,26,35,44,53] false++ff [10,19,28,37,46,55] true) v=[vZ 23=v,(cB (cB (cB (cB (cB (cB p)))))).size≤1000000000∧(⟨⟨[47]⟩⟩:ByteArray)=bF,cM (cB (cB (cB (cB (cB p)))))=true,(!bk (cA (cB (cB (cB (cB (cB p)))))))=false,(cA (cB (cB (cB (cB (cB p)))))).size.le 1000000000,(cB (cB (cB (cB (cB p))))).size≤1000000000∧(⟨⟨[47]⟩⟩:ByteArray)=bF,cM (cB (cB (cB (cB p))))=true,(!bk (cA (cB (cB (cB (cB p))))))=false,(cA (cB (cB (cB (cB p))))).size.le 1000000000,(cB (cB (cB (cB p)))).size≤1000000000∧(⟨⟨[47]⟩⟩:ByteArray)=bF,cM (cB (cB (cB p)))=true,(!bk (cA (cB (cB (cB p)))))=false,(cA (cB (cB (cB p)))).size.le 1000000000,(cB (cB (cB p))).size≤1000000000∧(⟨⟨[47]⟩⟩:ByteArray)=bF,cM (cB (cB p))=true,(!bk (cA (cB (cB p))))=false,(cA (cB (cB p))).size.le 1000000000,(cB (cB p)).size≤1000000000∧(⟨⟨[47]⟩⟩:ByteArray)=bF,cM (cB p)=true,(!bk (cA (cB p)))=false,(cA (cB p)).size.le 1000000000,(cB p).size≤1000000000∧(⟨⟨[47]⟩⟩:ByteArray)=bF,cM p=true,(!bk (cA p))=false,(cA p).size.le 1000000000,p.size≤1000000000∧(⟨⟨[47]⟩⟩:ByteArray)=bF,decide ((↑p.size:Int)>96)=false]:=by kernel_rfl
theorem lH (s:ByteArray):(cA s).size≤s.size:=by
 have e:(cA s).size=(Lib.cut s.data.toList [47]).1.length:=by simp [cA,ByteArray.size]
 have e2:s.data.toList.length=s.size:=by simp
 rw [e];unfold Lib.cut
 split
 ·simp only [List.length_take];omega
 ·simp
def j2:Nat→ByteArray→Bool
 | 0,_=>false
 | n+1,p=>bk (cA p)&&(!(cM p)||j2 n (cB p))
def a7 (p:ByteArray):Bool:=decide (p.size≤96)&&j2 6 p
def aS (p:ByteArray):Int:=bif a7 p then 0 else 23
def lQ:PS:=fun args=>match args with | [.string p]=>some (.int .i64 (aS p),p.size≤1000000000) | _=>none
theorem KC {w0:World} (h:MX w0):aW EC (aT [] []) w0:=zT (X:=MX) (fun r hr=>by
 simp only [List.mem_cons,List.not_mem_nil,or_false] at hr
 rcases hr with rfl | rfl
 ·exact IX
 ·exact ⟨Bf.1,fun args v p e hp w _=>Bf.2 args v p e hp w trivial⟩) fun ν s w hr _=>h.keep fun k hk=>hr.frame k hk (bo k)
theorem qO:dE Try.prog MX (48,lQ):=by
 refine .mk ⟨_,Try.func48,by kernel_rfl,by kernel_rfl⟩ fun args v p h hp w hX=>?_
 dsimp only [lQ] at h
 split at h
 ·rename_i p
  cases h
  have go:∀ {o v},uw (ax EC 48 3000 (ch EC 48 [.v (.string p)]) o v)→v=.int .i64 (aS p)→Calls Try.prog 48 #[.string p] w fun e w'=>Below w.heap.size w w'∧e=.returned (.int .i64 (aS p)):=fun h e=>
   e ▸ ek (E:=EC) (args:=[.v (.string p)]) rfl rfl (KC hX) (by kernel_rfl) (ay.cons (VR.ah.2 rfl) ay.nil) h
  by_cases h96:p.size>96
  ·exact go (o:=[(0,.b true)]) ⟨by rw [c0];exact ⟨⟨trivial,decide_eq_true (by omega)⟩,rfl⟩⟩ (by simp [aS,a7,show ¬ p.size≤96 by omega])
  have d96:decide ((p.size:Int)>96)=false:=decide_eq_false (by omega)
  have g96:decide (p.size≤96)=true:=decide_eq_true (by omega)
  have sl:(⟨⟨[47]⟩⟩:ByteArray)=bF:=rfl
  have s0:p.size≤1000000000:=hp
  have a0:(cA p).size≤1000000000:=Nat.le_trans (lH _) s0
  have s1:(cB p).size≤1000000000:=Nat.le_trans (jm _) s0
  have a1:(cA (cB p)).size≤1000000000:=Nat.le_trans (lH _) s1
  have s2:(cB (cB p)).size≤1000000000:=Nat.le_trans (jm _) s1
  have a2:(cA (cB (cB p))).size≤1000000000:=Nat.le_trans (lH _) s2
  have s3:(cB (cB (cB p))).size≤1000000000:=Nat.le_trans (jm _) s2
  have a3:(cA (cB (cB (cB p)))).size≤1000000000:=Nat.le_trans (lH _) s3
  have s4:(cB (cB (cB (cB p)))).size≤1000000000:=Nat.le_trans (jm _) s3
  have a4:(cA (cB (cB (cB (cB p))))).size≤1000000000:=Nat.le_trans (lH _) s4
  have s5:(cB (cB (cB (cB (cB p))))).size≤1000000000:=Nat.le_trans (jm _) s4
  have a5:(cA (cB (cB (cB (cB (cB p)))))).size≤1000000000:=Nat.le_trans (lH _) s5
  have s6:(cB (cB (cB (cB (cB (cB p)))))).size≤1000000000:=Nat.le_trans (jm _) s5
  cases p0:bk (cA p)
  ·exact go (o:=(ff [0] false++ff [8] true)) (v:=.int .i64 23) ⟨by rw [OA];simp [ak,d96,sl,s0,a0,p0]⟩ (by simp [aS,a7,j2,g96,p0])
  cases m0:cM p
  ·exact go (o:=(ff [0,8,10] false++ff [] true)) (v:=.int .i64 0) ⟨by rw [Of];simp [ak,d96,sl,s0,a0,p0,m0]⟩ (by simp [aS,a7,j2,g96,p0,m0])
  cases p1:bk (cA (cB p))
  ·exact go (o:=(ff [0,8] false++ff [17,10] true)) (v:=.int .i64 23) ⟨by rw [Q9];simp [ak,d96,sl,s0,a0,p0,m0,s1,a1,p1]⟩ (by simp [aS,a7,j2,g96,p0,m0,p1])
  cases m1:cM (cB p)
  ·exact go (o:=(ff [0,8,17,19] false++ff [10] true)) (v:=.int .i64 0) ⟨by rw [RH];simp [ak,d96,sl,s0,a0,p0,m0,s1,a1,p1,m1]⟩ (by simp [aS,a7,j2,g96,p0,m0,p1,m1])
  cases p2:bk (cA (cB (cB p)))
  ·exact go (o:=(ff [0,8,17] false++ff [26,10,19] true)) (v:=.int .i64 23) ⟨by rw [QK];simp [ak,d96,sl,s0,a0,p0,m0,s1,a1,p1,m1,s2,a2,p2]⟩ (by simp [aS,a7,j2,g96,p0,m0,p1,m1,p2])
  cases m2:cM (cB (cB p))
  ·exact go (o:=(ff [0,8,17,26,28] false++ff [10,19] true)) (v:=.int .i64 0) ⟨by rw [OW];simp [ak,d96,sl,s0,a0,p0,m0,s1,a1,p1,m1,s2,a2,p2,m2]⟩ (by simp [aS,a7,j2,g96,p0,m0,p1,m1,p2,m2])
  cases p3:bk (cA (cB (cB (cB p))))
  ·exact go (o:=(ff [0,8,17,26] false++ff [35,10,19,28] true)) (v:=.int .i64 23) ⟨by rw [PI];simp [ak,d96,sl,s0,a0,p0,m0,s1,a1,p1,m1,s2,a2,p2,m2,s3,a3,p3]⟩ (by simp [aS,a7,j2,g96,p0,m0,p1,m1,p2,m2,p3])
  cases m3:cM (cB (cB (cB p)))
  ·exact go (o:=(ff [0,8,17,26,35,37] false++ff [10,19,28] true)) (v:=.int .i64 0) ⟨by rw [PZ];simp [ak,d96,sl,s0,a0,p0,m0,s1,a1,p1,m1,s2,a2,p2,m2,s3,a3,p3,m3]⟩ (by simp [aS,a7,j2,g96,p0,m0,p1,m1,p2,m2,p3,m3])
  cases p4:bk (cA (cB (cB (cB (cB p)))))
  ·exact go (o:=(ff [0,8,17,26,35] false++ff [44,10,19,28,37] true)) (v:=.int .i64 23) ⟨by rw [O8];simp [ak,d96,sl,s0,a0,p0,m0,s1,a1,p1,m1,s2,a2,p2,m2,s3,a3,p3,m3,s4,a4,p4]⟩ (by simp [aS,a7,j2,g96,p0,m0,p1,m1,p2,m2,p3,m3,p4])
  cases m4:cM (cB (cB (cB (cB p))))
  ·exact go (o:=(ff [0,8,17,26,35,44,46] false++ff [10,19,28,37] true)) (v:=.int .i64 0) ⟨by rw [PT];simp [ak,d96,sl,s0,a0,p0,m0,s1,a1,p1,m1,s2,a2,p2,m2,s3,a3,p3,m3,s4,a4,p4,m4]⟩ (by simp [aS,a7,j2,g96,p0,m0,p1,m1,p2,m2,p3,m3,p4,m4])
  cases p5:bk (cA (cB (cB (cB (cB (cB p))))))
  ·exact go (o:=(ff [0,8,17,26,35,44] false++ff [53,10,19,28,37,46] true)) (v:=.int .i64 23) ⟨by rw [O3];simp [ak,d96,sl,s0,a0,p0,m0,s1,a1,p1,m1,s2,a2,p2,m2,s3,a3,p3,m3,s4,a4,p4,m4,s5,a5,p5]⟩ (by simp [aS,a7,j2,g96,p0,m0,p1,m1,p2,m2,p3,m3,p4,m4,p5])
  cases m5:cM (cB (cB (cB (cB (cB p)))))
  ·exact go (o:=(ff [0,8,17,26,35,44,53,55] false++ff [10,19,28,37,46] true)) (v:=.int .i64 0) ⟨by rw [Om];simp [ak,d96,sl,s0,a0,p0,m0,s1,a1,p1,m1,s2,a2,p2,m2,s3,a3,p3,m3,s4,a4,p4,m4,s5,a5,p5,m5]⟩ (by simp [aS,a7,j2,g96,p0,m0,p1,m1,p2,m2,p3,m3,p4,m4,p5,m5])
  exact go (o:=(ff [0,8,17,26,35,44,53] false++ff [10,19,28,37,46,55] true)) (v:=.int .i64 23) ⟨by rw [cd];simp [ak,d96,sl,s0,a0,p0,m0,s1,a1,p1,m1,s2,a2,p2,m2,s3,a3,p3,m3,s4,a4,p4,m4,s5,a5,p5,m5,s6]⟩ (by simp [aS,a7,j2,g96,p0,m0,p1,m1,p2,m2,p3,m3,p4,m4,p5,m5])
 ·cases h
theorem Bv (p:ByteArray) (h:aS p=0):p.size≠0:=by
 intro e
 have hp:p=⟨#[]⟩:=qL (l:=[]) (by have:p.data.toList.length=0:=(by simpa using e);exact List.length_eq_zero_iff.1 this)
 subst hp
 have h1:cA ⟨#[]⟩=⟨#[]⟩:=I8
 have h2:bk ⟨#[]⟩=false:=by simp [bk]
 simp [aS,a7,j2,h1,h2] at h
def Kh (p:ByteArray):Bool:=aS p==0&&!(p.data.getD 0 0==126)
theorem l0 (a b:Int) (v:Value):ax aL 60 300 (ch aL 60 [.v (.int .i64 a),.v (.int .i64 b)]) (ff [0] true) v=[vZ (-1:Int)=v,decide (a<b)=true]:=by kernel_rfl
theorem l1 (a b:Int) (v:Value):ax aL 60 300 (ch aL 60 [.v (.int .i64 a),.v (.int .i64 b)]) (ff [0] false++ff [1] true) v=[vZ 1=v,decide (a>b)=true,decide (a<b)=false]:=by kernel_rfl
theorem l2 (a b:Int) (v:Value):ax aL 60 300 (ch aL 60 [.v (.int .i64 a),.v (.int .i64 b)]) (ff [0,1] false) v=[vZ 0=v,decide (a>b)=false,decide (a<b)=false]:=by kernel_rfl
def eU (a b:Int):Int:=if a<b then -1 else if b<a then 1 else 0
def r6:PS:=fun args=>match args with | [.int .i64 a,.int .i64 b]=>some (.int .i64 (eU a b),True) | _=>none
noncomputable def EB:Env:=EP [(60,r6)] []
noncomputable def KZ:List SI:=dn EB 2 60 (ch EB 59 [.v (.string ⟨#[]⟩),.v (.string ⟨#[]⟩)]) []
noncomputable def jS (a b:ByteArray) (i:Int):SF:={ fn:=59,tm:=eO 37 6 ([.v (.string a),.v (.string b),.aJ,.aJ,.aJ,.v (.int .i64 i)]++List.replicate 31 .aJ),todo:=KZ,defers:=[],ret:=false,kind:=.normal,ro:=none }
theorem b0 (a b:ByteArray):reach EB 2 60 (ch EB 59 [.v (.string a),.v (.string b)]) [(1000,.b true)] [] [] (jS a b 0) 6 []=[Value.string a=Value.string a,Value.string b=Value.string b,vZ 0=vZ 0]:=by kernel_rfl
theorem b1 (a b:ByteArray) (i i':Int):reach EB 2 100 (SM.at (jS a b i) 6 []) (ff (List.range 7) true++ff (List.range 40) false) [] [] (jS a b i') 6 []=[Value.string a=Value.string a,Value.string b=Value.string b,vZ (IntKind.i64.wrap (i+1))=vZ i',decide ((↑(a.data.getD i.toNat (0:UInt8)).toNat:Int)>(↑(b.data.getD i.toNat (0:UInt8)).toNat:Int))=false,ao i b.size=true,ao i a.size=true,decide ((↑(a.data.getD i.toNat (0:UInt8)).toNat:Int)<(↑(b.data.getD i.toNat (0:UInt8)).toNat:Int))=false,ao i b.size=true,ao i a.size=true,decide (i<(↑b.size:Int))=true,decide (i<(↑a.size:Int))=true,decide (i<(↑a.size:Int))=true,decide (i<(↑a.size:Int))=true,decide (i<(↑a.size:Int))=true,decide (i<(↑a.size:Int))=true]:=by kernel_rfl
theorem b2 (a b:ByteArray) (i:Int) (v:Value):ax EB 59 100 (SM.at (jS a b i) 6 []) (ff (List.range 40) true) v=[vZ (-1:Int)=v,decide ((↑(a.data.getD i.toNat (0:UInt8)).toNat:Int)<(↑(b.data.getD i.toNat (0:UInt8)).toNat:Int))=true,ao i b.size=true,ao i a.size=true,decide (i<(↑b.size:Int))=true,decide (i<(↑a.size:Int))=true,decide (i<(↑a.size:Int))=true,decide (i<(↑a.size:Int))=true,decide (i<(↑a.size:Int))=true,decide (i<(↑a.size:Int))=true]:=by kernel_rfl
theorem b3 (a b:ByteArray) (i:Int) (v:Value):ax EB 59 100 (SM.at (jS a b i) 6 []) (ff (List.range 8) true++ff [8] false++ff (List.range 40) true) v=[vZ 1=v,decide ((↑(a.data.getD i.toNat (0:UInt8)).toNat:Int)>(↑(b.data.getD i.toNat (0:UInt8)).toNat:Int))=true,ao i b.size=true,ao i a.size=true,decide ((↑(a.data.getD i.toNat (0:UInt8)).toNat:Int)<(↑(b.data.getD i.toNat (0:UInt8)).toNat:Int))=false,ao i b.size=true,ao i a.size=true,decide (i<(↑b.size:Int))=true,decide (i<(↑a.size:Int))=true,decide (i<(↑a.size:Int))=true,decide (i<(↑a.size:Int))=true,decide (i<(↑a.size:Int))=true,decide (i<(↑a.size:Int))=true]:=by kernel_rfl
theorem b4 (a b:ByteArray) (i:Int) (v:Value):ax EB 59 100 (SM.at (jS a b i) 6 []) (ff (List.range 40) false) v=[vZ (eU (↑a.size:Int) (↑b.size:Int))=v,True,false=false,decide (i<(↑a.size:Int))=false,decide (i<(↑a.size:Int))=false,decide (i<(↑a.size:Int))=false,decide (i<(↑a.size:Int))=false,decide (i<(↑a.size:Int))=false]:=by kernel_rfl
theorem b5 (a b:ByteArray) (i:Int) (v:Value):ax EB 59 100 (SM.at (jS a b i) 6 []) (ff [0,1,2,3,4] true++ff (List.range 40) false) v=[vZ (eU (↑a.size:Int) (↑b.size:Int))=v,True,decide (i<(↑b.size:Int))=false,decide (i<(↑a.size:Int))=true,decide (i<(↑a.size:Int))=true,decide (i<(↑a.size:Int))=true,decide (i<(↑a.size:Int))=true,decide (i<(↑a.size:Int))=true]:=by kernel_rfl
noncomputable def EK:Env:=EP [] []
noncomputable def Jz:List SI:=dn EK 2 60 (ch EK 43 [.v (.string ⟨#[]⟩)]) []
noncomputable def AV (p:ByteArray) (x:SV) (i:Int):SF:={ fn:=43,tm:=eO 37 6 ([.v (.string p),.aJ,.aJ,x,.v (.int .i64 i)]++List.replicate 32 .aJ),todo:=Jz,defers:=[],ret:=false,kind:=.normal,ro:=none }
def one (s:ByteArray):List (Option (SO × Bool)):=[some (.row [.v (.string s)] 9 (0,0) none,true)]
def many (l:List SV):List (Option (SO × Bool)):=[some (.row l 9 (0,0) (some 1),true)]
theorem k0 (p:ByteArray):reach EK 2 60 (ch EK 43 [.v (.string p)]) [(1000,.b true)] [(0,0)] [] (AV p (.sl 0 0 1 (some 1)) 0) 6 (one ⟨#[]⟩)=[Value.string p=Value.string p,0=0∧1=1∧some 1=some 1,vZ 0=vZ 0,Value.string ⟨⟨[]⟩⟩=Value.string ⟨⟨[]⟩⟩]:=by kernel_rfl
theorem k1 (p s s':ByteArray) (i i':Int):reach EK 2 100 (SM.at (AV p (.sl 0 0 1 (some 1)) i) 6 (one s)) (ff [0] true++ff (List.range 40) false) [(0,0)] [] (AV p (.sl 0 0 1 (some 1)) i') 6 (one s')=[Value.string p=Value.string p,0=0∧1=1∧some 1=some 1,vZ (IntKind.i64.wrap (i+1))=vZ i',Value.string (s++p.extract i.toNat (IntKind.i64.wrap (i+1)).toNat)=Value.string s',true=true,(s.size+(p.extract i.toNat (IntKind.i64.wrap (i+1)).toNat).size).le 9223372036854775807,decide (0≤i∧i≤(↑(IntKind.i64.wrap (i+1)).toNat:Int))=true,decide (0≤IntKind.i64.wrap (i+1)∧IntKind.i64.wrap (i+1)≤(↑p.size:Int))=true,true=true,((↑(p.data.getD i.toNat (0:UInt8)).toNat:Int)==47)=false,ao i p.size=true,decide (i<(↑p.size:Int))=true]:=by kernel_rfl
theorem k2 (p s:ByteArray) (i i':Int) (l':List SV):reach EK 2 100 (SM.at (AV p (.sl 0 0 1 (some 1)) i) 6 (one s)) (ff [0,1,2] true) [(0,2)] [0] (AV p (.sl 0 0 2 none) i') 6 (many l')=[Value.string p=Value.string p,0=0∧2=2∧nZ=none,vZ (IntKind.i64.wrap (i+1))=vZ i',List.take 1 (List.drop 0 [SV.v (Value.string s)])++List.take 1 (List.drop 0 (aX (List.replicate 1 (List.map SV.v [Value.string ⟨⟨[]⟩⟩])).flatten 0 [SV.v (Value.string ⟨⟨[]⟩⟩)]))=l',l'.all ab=true,((↑(p.data.getD i.toNat (0:UInt8)).toNat:Int)==47)=true,ao i p.size=true,decide (i<(↑p.size:Int))=true]:=by kernel_rfl
theorem k3 (p s:ByteArray) (l l':List SV) (n:Nat) (i i':Int):reach EK 2 100 (SM.at (AV p (.sl 0 0 n none) i) 6 (many l)) (ff [0] true++ff [2] false++[(4,.cells [.v (.string s)]),(9,.put)]) [(0,0)] [0] (AV p (.sl 0 0 n none) i') 6 (many l')=[Value.string p=Value.string p,0=0∧n=n∧nZ=none,vZ (IntKind.i64.wrap (i+1))=vZ i',aX l (0+(IntKind.i64.wrap ((↑n:Int) - 1)).toNat*1) [SV.v (Value.string (s++p.extract i.toNat (IntKind.i64.wrap (i+1)).toNat))]=l',l'.all ab=true,0+(IntKind.i64.wrap ((↑n:Int) - 1)).toNat*1+[SV.v (Value.string (s++p.extract i.toNat (IntKind.i64.wrap (i+1)).toNat))].length≤l.length∧mH (0,0) (0+(IntKind.i64.wrap ((↑n:Int) - 1)).toNat*1) [SV.v (Value.string (s++p.extract i.toNat (IntKind.i64.wrap (i+1)).toNat))].length=true,ao (IntKind.i64.wrap ((↑n:Int) - 1)) n=true,(s.size+(p.extract i.toNat (IntKind.i64.wrap (i+1)).toNat).size).le 9223372036854775807,decide (0≤i∧i≤(↑(IntKind.i64.wrap (i+1)).toNat:Int))=true,decide (0≤IntKind.i64.wrap (i+1)∧IntKind.i64.wrap (i+1)≤(↑p.size:Int))=true,l[0+(IntKind.i64.wrap ((↑n:Int) - 1)).toNat*1]?=some (SV.v (Value.string s)),ao (IntKind.i64.wrap ((↑n:Int) - 1)) n=true,((↑(p.data.getD i.toNat (0:UInt8)).toNat:Int)==47)=false,ao i p.size=true,decide (i<(↑p.size:Int))=true]:=by kernel_rfl
theorem k4 (p:ByteArray) (l l' w:List SV) (n:Nat) (i i':Int):reach EK 2 100 (SM.at (AV p (.sl 0 0 n none) i) 6 (many l)) (ff [0,1,2] true++[(3,.app l w)]) [(0,2)] [0] (AV p (.sl 0 0 (n+1) none) i') 6 (many l')=[Value.string p=Value.string p,0=0∧n+1=n+1∧nZ=none,vZ (IntKind.i64.wrap (i+1))=vZ i',l++w=l',l'.all ab=true,((List.take 1 (List.drop 0 (aX (List.replicate 1 (List.map SV.v [Value.string ⟨⟨[]⟩⟩])).flatten 0 [SV.v (Value.string ⟨⟨[]⟩⟩)]))=w∧w.length=1*1)∧1≠0∧(2*(n+1)+1024)*16≤140737488355328)∧List.take (n*1) l=l∧l.length=n*1∧w.all SV.flat=true,((↑(p.data.getD i.toNat (0:UInt8)).toNat:Int)==47)=true,ao i p.size=true,decide (i<(↑p.size:Int))=true]:=by kernel_rfl
theorem k5 (p s:ByteArray) (i:Int):bR EK 43 100 (SM.at (AV p (.sl 0 0 1 (some 1)) i) 6 (one s)) (ff [0] false) (.sl 0 0 1 (some 1)) 0 (.row [.v (.string s)] 9 (0,0) none)=[0=0∧1=1∧some 1=some 1,[SV.v (Value.string s)]=[SV.v (Value.string s)],[SV.v (Value.string s)].all ab=true,decide (i<(↑p.size:Int))=false]:=by kernel_rfl
theorem k6 (p:ByteArray) (l:List SV) (n:Nat) (i:Int):bR EK 43 100 (SM.at (AV p (.sl 0 0 n none) i) 6 (many l)) (ff [0] false) (.sl 0 0 n none) 0 (.row l 9 (0,0) (some 1))=[0=0∧n=n∧nZ=none,l=l,l.all ab=true,decide (i<(↑p.size:Int))=false]:=by kernel_rfl
theorem eW {i:Nat} {b:Nat × Nat} {p:Prop} (h:aE [] i=some b):p:=by cases i <;> cases h
theorem wi {x:Int} (h:-9223372036854775808≤x∧x≤9223372036854775807):IntKind.i64.wrap x=x:=IntWalk.i64_in _ h
theorem Az:dE Try.prog (fun _=>True) (60,r6):=by
 refine .mk ⟨_,Try.func60,by kernel_rfl,by kernel_rfl⟩ fun args v p h hp w hX=>?_
 dsimp only [r6] at h
 split at h
 ·rename_i a b
  cases h
  have go:∀ {o v},uw (ax aL 60 300 (ch aL 60 [.v (.int .i64 a),.v (.int .i64 b)]) o v)→v=.int .i64 (eU a b)→Calls Try.prog 60 #[.int .i64 a,.int .i64 b] w fun e w'=>Below w.heap.size w w'∧e=.returned (.int .i64 (eU a b)):=fun h e=>
   e ▸ ek (E:=aL) (args:=[.v (.int .i64 a),.v (.int .i64 b)]) (a:=[.int .i64 a,.int .i64 b]) rfl rfl de (by kernel_rfl) (ay.cons (VR.ah.2 rfl) (ay.cons (VR.ah.2 rfl) ay.nil)) h
  by_cases h1:a<b
  ·exact go (o:=ff [0] true) (v:=.int .i64 (-1)) ⟨by rw [l0];simp [ak,h1]⟩ (by simp [eU,h1])
  ·by_cases h2:b<a
   ·exact go (o:=ff [0] false++ff [1] true) (v:=.int .i64 1) ⟨by rw [l1];exact ⟨⟨⟨trivial,decide_eq_false h1⟩,decide_eq_true h2⟩,rfl⟩⟩ (by simp [eU,h1,h2])
   ·exact go (o:=ff [0,1] false) (v:=.int .i64 0) ⟨by rw [l2];exact ⟨⟨⟨trivial,decide_eq_false h1⟩,decide_eq_false h2⟩,rfl⟩⟩ (by simp [eU,h1,h2])
 ·cases h
def eN:List UInt8→List UInt8→Int
 | [],[]=>0
 | [],_::_=>-1
 | _::_,[]=>1
 | x::xs,y::ys=>if x<y then -1 else if y<x then 1 else eN xs ys
def lD (a b:ByteArray):Int:=eN a.data.toList b.data.toList
def qz:PS:=fun args=>match args with | [.string a,.string b]=>some (.int .i64 (lD a b),a.size≤1000000000∧b.size≤1000000000) | _=>none
theorem KB {M:Own} {w0:World}:aW EB M w0:=kb fun r h=>by
 rw [List.mem_singleton.1 h];exact Az
theorem jG {a:ByteArray} {i:Nat} (h:i<a.size):a.data.toList.drop i=a.data.getD i 0::a.data.toList.drop (i+1):=by
 have h':i<a.data.toList.length:=by simpa using h
 rw [List.drop_eq_getElem_cons h']
 congr 1
 rw [Array.getD,dif_pos (show i<a.data.size from h)]
 simp
theorem aM {k:Nat} (h:k≤1000000000):IntKind.i64.wrap ((k:Int)+1)=((k+1:Nat):Int):=by
 rw [wi (by omega)];simp
theorem aO {k n:Nat} (h:k<n):ao (k:Int) n=true:=by unfold ao;exact decide_eq_true (by omega)
theorem G8 {w0:World} {cs0:List Frame} {R:Ending→World→Prop} {a b:ByteArray} (ha:a.size≤1000000000) (hb:b.size≤1000000000):∀ (j i:Nat),i+j=a.size→i≤b.size→
  (∀ w',Below w0.heap.size w0 w'→R (.returned (.int .i64 (eN (a.data.toList.drop i) (b.data.toList.drop i)))) w')→af EB (aT [] []) w0 cs0 59 R (aE []) (SM.at (jS a b i) 6 [])
 | j,i,hj,hib,hR=>by
  have go:∀ {o v},uw (ax EB 59 100 (SM.at (jS a b i) 6 []) o v)→v=.int .i64 (eN (a.data.toList.drop i) (b.data.toList.drop i))→af EB (aT [] []) w0 cs0 59 R (aE []) (SM.at (jS a b i) 6 []):=fun hd e=>
   cz KB bo hd fun w' hw=>by rw [e];exact hR _ hw
  have la:a.data.toList.length=a.size:=by simp
  have lb:b.data.toList.length=b.size:=by simp
  by_cases h1:i<a.size
  ·by_cases h2:i<b.size
   ·have da:=jG h1
    have db:=jG h2
    have t1:decide ((i:Int)<(a.size:Int))=true:=decide_eq_true (by omega)
    have t2:decide ((i:Int)<(b.size:Int))=true:=decide_eq_true (by omega)
    have r1:=aO h1
    have r2:=aO h2
    have lt_iff:∀ x y:UInt8,(x<y)↔((x.toNat:Int)<(y.toNat:Int)):=fun x y=>by rw [UInt8.lt_iff_toNat_lt];omega
    by_cases c1:(a.data.getD i 0)<(b.data.getD i 0)
    ·refine go (o:=ff (List.range 40) true) (v:=.int .i64 (-1)) ⟨?_⟩ (by rw [da,db];unfold eN;rw [if_pos c1])
     rw [b2]
     have c1':=decide_eq_true ((lt_iff _ _).1 c1)
     simp only [ak,Int.toNat_natCast,t1,t2,r1,r2,c1',and_self]
    ·have c1':=decide_eq_false (fun h=>c1 ((lt_iff _ _).2 h))
     by_cases c2:(b.data.getD i 0)<(a.data.getD i 0)
     ·refine go (o:=ff (List.range 8) true++ff [8] false++ff (List.range 40) true) (v:=.int .i64 1) ⟨?_⟩ (by rw [da,db];unfold eN;rw [if_neg c1,if_pos c2])
      rw [b3]
      have c2':decide (((a.data.getD i 0).toNat:Int)>((b.data.getD i 0).toNat:Int))=true:=decide_eq_true ((lt_iff _ _).1 c2)
      simp only [ak,Int.toNat_natCast,t1,t2,r1,r2,c1',c2',and_self]
     ·have c2':decide (((a.data.getD i 0).toNat:Int)>((b.data.getD i 0).toNat:Int))=false:=decide_eq_false (fun h=>c2 ((lt_iff _ _).2 h))
      match j,hj with
      | 0,hj=>omega
      | j+1,hj=>
       refine af.reach KB (k:=2) (n:=100) (o:=ff (List.range 7) true++ff (List.range 40) false) (ren:=[]) (eqs:=[]) ?_ (by kernel_rfl) (fun i b h=>eW h) (l:=[]) (G8 ha hb j (i+1) (by omega) (by omega) fun w' hw=>by
        have e:eN (a.data.toList.drop i) (b.data.toList.drop i)=eN (a.data.toList.drop (i+1)) (b.data.toList.drop (i+1)):=by
         rw [da,db];conv=>lhs;unfold eN
         rw [if_neg c1,if_neg c2]
        exact e ▸ hR w' hw)
       rw [b1]
       simp only [ak,Int.toNat_natCast,t1,t2,r1,r2,c1',c2',and_self,aM (show i≤1000000000 by omega)]
   ·have hi:i=b.size:=by omega
    have t1:decide ((i:Int)<(a.size:Int))=true:=decide_eq_true (by omega)
    have t2:decide ((i:Int)<(b.size:Int))=false:=decide_eq_false (by omega)
    refine go (o:=(ff [0,1,2,3,4] true++ff (List.range 40) false)) (v:=.int .i64 (eU a.size b.size)) ⟨?_⟩ ?_
    ·rw [b5]
     simp only [ak,t1,t2,and_self]
    ·rw [jG h1,List.drop_eq_nil_of_le (by omega:b.data.toList.length≤i)]
     have:eU (a.size:Int) (b.size:Int)=1:=by unfold eU;rw [if_neg (by omega),if_pos (by omega)]
     rw [this];rfl
  ·have hi:i=a.size:=by omega
   have t1:decide ((i:Int)<(a.size:Int))=false:=decide_eq_false (by omega)
   refine go (o:=ff (List.range 40) false) (v:=.int .i64 (eU a.size b.size)) ⟨?_⟩ ?_
   ·rw [b4]
    simp only [ak,t1,and_self]
   ·rw [List.drop_eq_nil_of_le (by omega:a.data.toList.length≤i)]
    by_cases h2:i<b.size
    ·rw [jG h2]
     have:eU (a.size:Int) (b.size:Int)=-1:=by unfold eU;rw [if_pos (by omega)]
     rw [this];rfl
    ·rw [List.drop_eq_nil_of_le (by omega:b.data.toList.length≤i)]
     have:eU (a.size:Int) (b.size:Int)=0:=by unfold eU;rw [if_neg (by omega),if_neg (by omega)]
     rw [this];rfl
theorem C2:dE Try.prog (fun _=>True) (59,qz):=by
 refine .mk ⟨_,Try.func59,by kernel_rfl,by kernel_rfl⟩ fun args v p h hp w hX=>?_
 dsimp only [qz] at h
 split at h
 ·rename_i a b
  cases h
  refine (nn (E:=EB) rfl rfl (Q:=fun v=>v=.int .i64 (lD a b)) (args:=[.v (.string a),.v (.string b)]) (a:=[.string a,.string b]) w (S0:=ch EB 59 [.v (.string a),.v (.string b)]) (by kernel_rfl) (ay.cons (VR.ah.2 rfl) (ay.cons (VR.ah.2 rfl) ay.nil)) fun cs0=>?_).mono fun e w' ⟨h1,u,h2,h3⟩=>⟨h1,by rw [h2,h3]⟩
  refine af.reach KB (k:=2) (n:=60) (o:=[(1000,.b true)]) (ren:=[]) (eqs:=[]) (F:=jS a b 0) (d:=6) (l:=[]) ?_ (by kernel_rfl) (fun i b h=>eW h) (G8 hp.1 hp.2 a.size 0 (by omega) (by omega) fun w' hw=>⟨hw,_,rfl,rfl⟩)
  rw [b0];simp [ak]
 ·cases h
def mk (l:List UInt8):ByteArray:=⟨l.toArray⟩
theorem GP (b:ByteArray):mk b.data.toList=b:=by cases b;simp [mk]
theorem rL (a b:List UInt8):mk a++mk b=mk (a++b):=by
 apply ByteArray.ext
 simp [mk]
theorem l8 (l:List UInt8):(mk l).size=l.length:=rfl
theorem pZ (p:ByteArray) (k:Nat) (h:k<p.size):p.extract k (k+1)=mk [p.data.getD k 0]:=by
 apply ByteArray.ext
 have h':k<p.data.toList.length:=by simpa using h
 have e:(p.data.toList.drop k).take 1=[p.data.getD k 0]:=by rw [jG h];rfl
 have e2:p.data.toList.toArray=p.data:=by simp
 simp only [mk,ByteArray.data_extract]
 rw [← e2,List.extract_toArray,List.extract_eq_take_drop,show k+1 - k=1 by omega,e]
theorem gY:∀ (l:List UInt8) (b:UInt8) (init:List (List UInt8)) (last:List UInt8),aw l=init++[last]→aw (l++[b])=if b=47 then init++[last,[]] else init++[last++[b]]
 | [],b,init,last,h=>by
  have h':([[]]:List (List UInt8))=init++[last]:=h
  have:init=[]∧last=[]:=by
   cases init with
   | nil=>simp at h';exact ⟨rfl,h'⟩
   | cons x xs=>simp at h'
  obtain ⟨rfl,rfl⟩:=this
  by_cases hb:b=47 <;> simp [aw,hb]
 | c::l,b,init,last,h=>by
  by_cases hc:c=47
  ·subst hc
   have e1:aw (47::l)=[]::aw l:=by simp [aw]
   have e2:aw (47::l++[b])=[]::aw (l++[b]):=by simp [aw]
   rw [e1] at h
   cases init with
   | nil=>
    simp at h
    exact absurd h.2 (cO l)
   | cons x xs=>
    rw [List.cons_append,List.cons.injEq] at h
    obtain ⟨rfl,h⟩:=h
    rw [e2,gY l b xs last h]
    split <;> simp
  ·have step:∀ m:List UInt8,∀ x xs,aw m=x::xs→aw (c::m)=(c::x)::xs:=fun m x xs hm=>by
    conv=>lhs;unfold aw
    rw [if_neg hc,hm]
   cases hp:aw l with
   | nil=>exact absurd hp (cO l)
   | cons x xs=>
    rw [step l x xs hp] at h
    cases init with
    | nil=>
     rw [List.nil_append,List.cons.injEq] at h
     obtain ⟨rfl,rfl⟩:=h
     have ih:=gY l b [] x (by rw [hp];rfl)
     by_cases hb:b=47
     ·rw [if_pos hb] at ih ⊢
      rw [List.cons_append,step _ x [[]] ih];rfl
     ·rw [if_neg hb] at ih ⊢
      rw [List.cons_append,step _ (x++[b]) [] ih];rfl
    | cons z zs=>
     rw [List.cons_append,List.cons.injEq] at h
     obtain ⟨rfl,h⟩:=h
     have ih:=gY l b (x::zs) last (by rw [hp,h];rfl)
     by_cases hb:b=47
     ·rw [if_pos hb] at ih ⊢
      rw [List.cons_append,step _ x (zs++[last,[]]) ih];rfl
     ·rw [if_neg hb] at ih ⊢
      rw [List.cons_append,step _ x (zs++[last++[b]]) ih];rfl
theorem fJ:∀ l:List UInt8,(aw l).length≤l.length+1∧∀ x∈aw l,x.length≤l.length
 | []=>by simp [aw]
 | c::l=>by
  obtain ⟨h1,h2⟩:=fJ l
  unfold aw
  split
  ·refine ⟨by simp only [List.length_cons];omega,fun x hx=>?_⟩
   rcases List.mem_cons.1 hx with rfl | hx
   ·simp
   ·have:=h2 x hx;simp only [List.length_cons];omega
  ·cases hp:aw l with
   | nil=>exact absurd hp (cO l)
   | cons x xs=>
    rw [hp] at h1 h2
    refine ⟨by simp only [List.length_cons] at h1 ⊢;omega,fun y hy=>?_⟩
    rcases List.mem_cons.1 hy with rfl | hy
    ·have:=h2 x List.mem_cons_self;simp only [List.length_cons];omega
    ·have:=h2 y (List.mem_cons_of_mem _ hy);simp only [List.length_cons];omega
def cP (l:List (List UInt8)):List SV:=l.map fun s=>.v (.string (mk s))
theorem zY (a b:List (List UInt8)):cP (a++b)=cP a++cP b:=by simp [cP]
theorem EV (a:List (List UInt8)):(cP a).length=a.length:=by simp [cP]
theorem dR (a:List (List UInt8)):(cP a).all ab=true:=by
 rw [List.all_eq_true];intro x hx;obtain ⟨c,_,rfl⟩:=List.mem_map.1 hx;rfl
theorem F7 (a:List (List UInt8)):(cP a).all SV.flat=true:=by
 rw [List.all_eq_true];intro x hx;obtain ⟨c,_,rfl⟩:=List.mem_map.1 hx;rfl
def vP (l:List (List UInt8)):List Value:=l.map fun s=>.string (mk s)
theorem zu {ν:aU}:∀ {l:List (List UInt8)} {zs:List Value},ay ν (cP l) zs→zs=vP l
 | [],zs,h=>ay.aB h
 | s::l,zs,h=>by
  obtain ⟨z,zs',rfl,h1,h2⟩:=ay.cons_inv (x:=.v (.string (mk s))) (xs:=cP l) h
  rw [VR.ah.1 h1,zu h2];rfl
theorem qa:∀ (a:List SV) (x y:SV),aX (a++[x]) a.length [y]=a++[y]
 | [],x,y=>rfl
 | z::a,x,y=>by
  show z::aX (a++[x]) a.length [y]=_
  rw [qa a x y];rfl
theorem mP (p:ByteArray) {k:Nat} (h:k<p.size):p.data.toList.take (k+1)=p.data.toList.take k++[p.data.getD k 0]:=by
 have h':k<p.data.toList.length:=by simpa using h
 rw [List.take_succ_eq_append_getElem h']
 congr 2
 rw [Array.getD,dif_pos (show k<p.data.size from h)];simp
theorem KK {M:Own} {w0:World}:aW EK M w0:=kb fun r h=>by cases h
theorem Ge (x:UInt8):(((x.toNat:Int))==47)=(x==47):=by
 by_cases e:x=47
 ·rw [e];rfl
 ·rw [beq_eq_false_iff_ne.2 e,beq_eq_false_iff_ne.2 fun h=>e (UInt8.toNat_inj.1 (show x.toNat=47 by omega))]
section
variable {w0:World} {cs0:List Frame} {R:Ending→World→Prop} {p:ByteArray}
def RK (w0:World) (p:ByteArray) (e:Ending) (w':World):Prop:=Below w0.heap.size w0 w'∧∃ y,e=.returned y∧cy w0 w' y (vP (aw p.data.toList)) (aw p.data.toList).length 1 9
theorem rW {w0 w':World} (h:∃ ν1 M1 w1 s',dz (aT [] []) w0 M1 w1∧HR ν1 M1 w1 s' w'):Below w0.heap.size w0 w':=by
 obtain ⟨_,_,_,_,hB,hr⟩:=h
 exact aI bo hB hr
theorem yo {w0:World} {b:Nat} (h:w0.heap.size≤b∨(aT [] []) b):w0.heap.size≤b:=by
 rcases h with h | h
 ·exact h
 ·exact absurd h (bo _)
theorem yN (hp:p.size≤1000000000):∀ (j i:Nat),i+j=p.size→∀ (init:List (List UInt8)) (last:List UInt8),aw (p.data.toList.take i)=init++[last]→
  af EK (aT [] []) w0 cs0 43 (RK w0 p) (aE []) (SM.at (AV p (.sl 0 0 (init.length+1) none) i) 6 (many (cP (init++[last]))))
 | 0,i,hj,init,last,h=>by
  have hl:p.data.toList.length=p.size:=by simp
  rw [List.take_of_length_le (by omega)] at h
  refine af.bR KK (n:=100) (o:=ff [0] false) (x:=.sl 0 0 (init.length+1) none) (i:=0) (so:=.row (cP (init++[last])) 9 (0,0) (some 1)) ?_ fun ν' w' y b ob hv hb ho hor hw hB=>?_
  ·rw [k6]
   simp only [ak,dR,and_true,and_self,true_and]
   exact decide_eq_false (by omega)
  ·refine ⟨rW hB,y,rfl,?_⟩
   rw [h,show (init++[last]).length=init.length+1 by simp]
   exact cy.e8 hv hb ho hor (yo hw) fun zs hz=>zu hz
 | j+1,i,hj,init,last,h=>by
  have hi:i<p.size:=by omega
  have hs:=gY _ (p.data.getD i 0) init last h
  rw [← mP p hi] at hs
  have t1:decide ((i:Int)<(p.size:Int))=true:=decide_eq_true (by omega)
  have r1:=aO hi
  have hlen:=fJ (p.data.toList.take i)
  rw [h,List.length_append,List.length_take] at hlen
  have hll:p.data.toList.length=p.size:=by simp
  have hn:init.length≤1000000000:=by have:=hlen.1;simp at this;omega
  have hlast:last.length≤1000000000:=by have:=hlen.2 last (by simp);omega
  have ws:=aM (k:=i) (by omega)
  have ws2:=aM (k:=i) (by omega)
  by_cases hb:p.data.getD i 0=47
  ·rw [if_pos hb] at hs
   have e2:init++[last,[]]=(init++[last])++[[]]:=by simp
   have nx:=yN hp j (i+1) (by omega) (init++[last]) [] (by rw [hs,e2])
   have el:(init++[last]).length+1=init.length+1+1:=by simp
   rw [el] at nx
   refine af.reach KK (k:=2) (n:=100) (o:=ff [0,1,2] true++[(3,.app (cP (init++[last])) (cP [[]]))]) (ren:=[(0,2)]) (eqs:=[0]) ?_ (by kernel_rfl) (fun i b h=>eW h) nx
   rw [k4]
   have hq:((p.data.getD i 0).toNat:Int)==47:=by rw [Ge,hb];rfl
   simp only [ak,Int.toNat_natCast,t1,r1,hq,dR,F7,zY,EV,ws,List.all_append,true_and,and_true,Nat.mul_one]
   repeat' apply And.intro
   all_goals first | rfl | (simp [cP];done) | (simp [cP];omega) | omega | exact List.take_of_length_le (by simp [cP]) | skip
  ·rw [if_neg hb] at hs
   have nx:=yN hp j (i+1) (by omega) init (last++[p.data.getD i 0]) hs
   refine af.reach KK (k:=2) (n:=100) (o:=ff [0] true++ff [2] false++[(4,.cells [.v (.string (mk last))]),(9,.put)]) (ren:=[(0,0)]) (eqs:=[0]) ?_ (by kernel_rfl) (fun i b h=>eW h) nx
   rw [k3]
   have hq:(((p.data.getD i 0).toNat:Int)==47)=false:=by rw [Ge];exact beq_eq_false_iff_ne.2 hb
   have wn:IntKind.i64.wrap (((init.length+1:Nat):Int) - 1)=(init.length:Int):=by rw [wi (by omega)];omega
   have rn:ao (init.length:Int) (init.length+1)=true:=aO (Nat.lt_succ_self _)
   have g1:(cP (init++[last]))[0+init.length*1]?=some (.v (.string (mk last))):=by simp [cP]
   have g2:aX (cP (init++[last])) (0+init.length*1) [.v (.string (mk last++mk [p.data.getD i 0]))]=cP (init++[last++[p.data.getD i 0]]):=by
    have:=qa (cP init) (.v (.string (mk last))) (.v (.string (mk last++mk [p.data.getD i 0])))
    rw [EV] at this
    rw [Nat.zero_add,Nat.mul_one,zY,rL] at *
    rw [zY];exact this
   simp only [ak,Int.toNat_natCast,t1,r1,hq,wn,rn,g1,ws,pZ p i hi,g2,dR,true_and,and_true,and_self]
   repeat' apply And.intro
   all_goals first | rfl | exact decide_eq_true (by omega) | (simp [cP];done) | (simp [cP];omega) | (rw [l8,l8];exact Nat.le_of_ble_eq_true (by simp;omega)) | (show _+_≤_;rw [l8,l8];simp;omega) | omega
theorem DQ (hp:p.size≤1000000000):∀ (j i:Nat),i+j=p.size→∀ (last:List UInt8),aw (p.data.toList.take i)=[last]→
  af EK (aT [] []) w0 cs0 43 (RK w0 p) (aE []) (SM.at (AV p (.sl 0 0 1 (some 1)) i) 6 (one (mk last)))
 | 0,i,hj,last,h=>by
  have hl:p.data.toList.length=p.size:=by simp
  rw [List.take_of_length_le (by omega)] at h
  refine af.bR KK (n:=100) (o:=ff [0] false) (x:=.sl 0 0 1 (some 1)) (i:=0) (so:=.row [.v (.string (mk last))] 9 (0,0) none) ?_ fun ν' w' y b ob hv hb ho hor hw hB=>?_
  ·rw [k5]
   simp only [ak,and_true,and_self,true_and]
   exact ⟨decide_eq_false (by omega),rfl⟩
  ·refine ⟨rW hB,y,rfl,?_⟩
   rw [h]
   exact cy.IZ hv hb ho hor (yo hw) (fun zs hz=>zu (l:=[last]) hz) rfl
 | j+1,i,hj,last,h=>by
  have hi:i<p.size:=by omega
  have hs:=gY _ (p.data.getD i 0) [] last h
  rw [← mP p hi] at hs
  have t1:decide ((i:Int)<(p.size:Int))=true:=decide_eq_true (by omega)
  have r1:=aO hi
  have hlen:=fJ (p.data.toList.take i)
  rw [h,List.length_take] at hlen
  have hll:p.data.toList.length=p.size:=by simp
  have hlast:last.length≤1000000000:=by have:=hlen.2 last (by simp);omega
  have ws:=aM (k:=i) (by omega)
  by_cases hb:p.data.getD i 0=47
  ·rw [if_pos hb] at hs
   have nx:=yN (w0:=w0) (cs0:=cs0) hp j (i+1) (by omega) [last] [] (by rw [hs];rfl)
   refine af.reach KK (k:=2) (n:=100) (o:=ff [0,1,2] true) (ren:=[(0,2)]) (eqs:=[0]) ?_ (by kernel_rfl) (fun i b h=>eW h) nx
   rw [show ([last]:List (List UInt8)).length+1=2 from rfl,k2]
   have hq:((p.data.getD i 0).toNat:Int)==47:=by rw [Ge,hb];rfl
   simp only [ak,Int.toNat_natCast,t1,r1,hq,dR,ws,true_and,and_true]
   repeat' apply And.intro
   all_goals first | rfl | (simp [cP];done) | (simp [cP];omega) | omega | exact List.take_of_length_le (by simp [cP]) | skip
  ·rw [if_neg hb] at hs
   have nx:=DQ hp j (i+1) (by omega) (last++[p.data.getD i 0]) hs
   refine af.reach KK (k:=2) (n:=100) (o:=ff [0] true++ff (List.range 40) false) (ren:=[(0,0)]) (eqs:=[]) ?_ (by kernel_rfl) (fun i b h=>eW h) nx
   rw [k1]
   have hq:(((p.data.getD i 0).toNat:Int)==47)=false:=by rw [Ge];exact beq_eq_false_iff_ne.2 hb
   simp only [ak,Int.toNat_natCast,t1,r1,hq,ws,pZ p i hi,rL,true_and,and_true,and_self]
   repeat' apply And.intro
   all_goals first | rfl | exact decide_eq_true (by omega) | exact (show (mk last).size+(mk [p.data.getD i 0]).size≤9223372036854775807 by rw [l8,l8];simp;omega) | omega
end
def Bu:MW:=fun args=>match args with | [.string p]=>some (vP (aw p.data.toList),(aw p.data.toList).length,1,9,none,p.size≤1000000000) | _=>none
theorem qH {X:World→Prop}:cr Try.prog X (43,rD Bu):=by
 refine Ec ⟨_,Try.func43,by kernel_rfl,by kernel_rfl⟩ fun vs ys n C elem ex p h hp w hX=>?_
 dsimp only [Bu] at h
 split at h
 ·rename_i p
  cases h
  refine (cp (E:=EK) (R:=RK w p) rfl rfl (args:=[.v (.string p)]) (a:=[.string p]) (S0:=ch EK 43 [.v (.string p)]) (by kernel_rfl) (ay.cons (VR.ah.2 rfl) ay.nil) fun cs0=>?_).mono fun e w' ⟨h1,y,h2,h3⟩=>⟨h1,y,h2,h3⟩
  have nx:=DQ (w0:=w) (cs0:=cs0) hp p.size 0 (by omega) [] rfl
  rw [show mk []=⟨#[]⟩ from rfl] at nx
  refine af.reach KK (k:=2) (n:=60) (o:=[(1000,.b true)]) (ren:=[(0,0)]) (eqs:=[]) (F:=AV p (.sl 0 0 1 (some 1)) 0) (d:=6) (l:=one ⟨#[]⟩) ?_ (by kernel_rfl) (fun i b h=>eW h) nx
  rw [k0];simp only [ak,and_self,and_true,true_and]
  repeat' apply And.intro
  all_goals rfl
 ·cases h
def lR:List (FuncId × Sum):=[(43,rD Bu),(59,eP qz),(60,eP r6)]
noncomputable def ER:Env:={ EP [] [] with sums:=fun f=>lR.lookup f }
theorem KR {M:Own} {w0:World}:aW ER M w0:=
 aW.Bg (Checked.mixed Try.checked) (by kernel_rfl) (gu.of ke rfl eY) (ep.list (X:=fun _=>True) (l:=lR) rfl (fun r hr=>by
  simp only [lR,List.mem_cons,List.not_mem_nil,or_false] at hr
  rcases hr with rfl | rfl | rfl
  ·exact qH
  ·exact cr.pure (r:=(59,qz)) C2
  ·exact cr.pure (r:=(60,r6)) Az) fun ν s w hr _=>trivial) (fun f g h=>by cases h)
noncomputable def J6:List SI:=dn ER 2 60 (ch ER 47 [.v (.string ⟨#[]⟩),.v (.string ⟨#[]⟩)]) [(1000,.b true)]
noncomputable def EZ (n m:Nat) (i:Int):SF:={ fn:=47,tm:=eO 42 6 (List.replicate 5 .aJ++[.sl 0 0 n none,.sl 1 0 m none,.v (.int .i64 i)]++List.replicate 34 .aJ),todo:=J6,defers:=[],ret:=false,kind:=.normal,ro:=none }
def two (l m:List SV):List (Option (SO × Bool)):=[some (.row l 9 (0,0) (some 1),true),some (.row m 9 (0,0) (some 1),true)]
theorem r0 (a b:ByteArray) (n m:Nat) (l l2:List SV):reach ER 2 60 (ch ER 47 [.v (.string a),.v (.string b)]) [(1000,.b true)] [(0,0),(1,1)] [0,1] (EZ n m 0) 6 (two l l2)=[0=0∧(aw a.data.toList).length=n∧nZ=none,0=0∧(aw b.data.toList).length=m∧nZ=none,vZ 0=vZ 0,List.map SV.v (vP (aw a.data.toList))=l,l.all ab=true,List.map SV.v (vP (aw b.data.toList))=l2,l2.all ab=true,b.size.le 1000000000,a.size.le 1000000000]:=by kernel_rfl
theorem PX (s t:ByteArray) (n m:Nat) (l l2:List SV) (i i':Int):reach ER 2 100 (SM.at (EZ n m i) 6 (two l l2)) (ff [0,1,2,3,4,5] true++[(7,.cells [.v (.string s)]),(9,.cells [.v (.string t)])]++ff [11] false) [(0,0),(1,1)] [0,1] (EZ n m i') 6 (two l l2)=[0=0∧n=n∧nZ=none,0=0∧m=m∧nZ=none,vZ (IntKind.i64.wrap (i+1))=vZ i',l=l,l.all ab=true,l2=l2,l2.all ab=true,(!lD s t==0)=false,s.size≤1000000000∧t.size≤1000000000,l2[0+i.toNat*1]?=some (SV.v (Value.string t)),ao i m=true,l[0+i.toNat*1]?=some (SV.v (Value.string s)),ao i n=true,decide (i<(↑m:Int))=true,decide (i<(↑n:Int))=true,decide (i<(↑n:Int))=true,decide (i<(↑n:Int))=true,decide (i<(↑n:Int))=true,decide (i<(↑n:Int))=true]:=by kernel_rfl
theorem QO (s t:ByteArray) (n m:Nat) (l l2:List SV) (i:Int) (v:Value):ax ER 47 100 (SM.at (EZ n m i) 6 (two l l2)) (ff [0,1,2,3,4,5] true++[(7,.cells [.v (.string s)]),(9,.cells [.v (.string t)])]++ff [11] true) v=[vZ (lD s t)=v,(!lD s t==0)=true,s.size≤1000000000∧t.size≤1000000000,l2[0+i.toNat*1]?=some (SV.v (Value.string t)),ao i m=true,l[0+i.toNat*1]?=some (SV.v (Value.string s)),ao i n=true,decide (i<(↑m:Int))=true,decide (i<(↑n:Int))=true,decide (i<(↑n:Int))=true,decide (i<(↑n:Int))=true,decide (i<(↑n:Int))=true,decide (i<(↑n:Int))=true]:=by kernel_rfl
theorem r3 (n m:Nat) (l l2:List SV) (i:Int) (v:Value):ax ER 47 100 (SM.at (EZ n m i) 6 (two l l2)) (ff [0,1,2,3,4,5] false) v=[vZ (eU (↑n:Int) (↑m:Int))=v,True,false=false,decide (i<(↑n:Int))=false,decide (i<(↑n:Int))=false,decide (i<(↑n:Int))=false,decide (i<(↑n:Int))=false,decide (i<(↑n:Int))=false]:=by kernel_rfl
theorem r4 (n m:Nat) (l l2:List SV) (i:Int) (v:Value):ax ER 47 100 (SM.at (EZ n m i) 6 (two l l2)) (ff [0,1,2,3,4] true++ff [5] false) v=[vZ (eU (↑n:Int) (↑m:Int))=v,True,decide (i<(↑m:Int))=false,decide (i<(↑n:Int))=true,decide (i<(↑n:Int))=true,decide (i<(↑n:Int))=true,decide (i<(↑n:Int))=true,decide (i<(↑n:Int))=true]:=by kernel_rfl
theorem zN (x:UInt8):¬ x<x:=by rw [UInt8.lt_iff_toNat_lt];omega
theorem wo {x y:UInt8} (h1:¬ x<y) (h2:¬ y<x):x=y:=by
 rw [UInt8.lt_iff_toNat_lt] at h1 h2;exact UInt8.toNat_inj.1 (by omega)
theorem Hu {x y:UInt8} (h1:x<y):¬ y<x:=by
 rw [UInt8.lt_iff_toNat_lt] at h1 ⊢;omega
theorem uF:∀ x:List UInt8,eN x x=0
 | []=>rfl
 | a::l=>by unfold eN;rw [if_neg (zN a),if_neg (zN a)];exact uF l
theorem oK:∀ {x y:List UInt8},eN x y=0→x=y
 | [],[],_=>rfl
 | [],_::_,h=>by cases h
 | _::_,[],h=>by cases h
 | a::l,b::m,h=>by
  unfold eN at h
  by_cases h1:a<b
  ·rw [if_pos h1] at h;cases h
  ·by_cases h2:b<a
   ·rw [if_neg h1,if_pos h2] at h;cases h
   ·rw [if_neg h1,if_neg h2] at h
    rw [wo h1 h2,oK h]
theorem xP:∀ x y:List UInt8,(if Op.bytesLess x y=true then -1 else if (!(Op.bytesLess x y||x==y))=true then 1 else 0:Int)=eN x y
 | [],[]=>by simp [Op.bytesLess,eN]
 | [],_::_=>by simp [Op.bytesLess,eN]
 | _::_,[]=>by simp [Op.bytesLess,eN]
 | a::l,b::m=>by
  have ih:=xP l m
  unfold eN
  by_cases h1:a<b
  ·simp [Op.bytesLess,h1]
  ·by_cases h2:b<a
   ·have ne:a≠b:=fun e=>zN b (by rw [e] at h2;exact h2)
    simp [Op.bytesLess,h1,h2,ne]
   ·obtain rfl:=wo h1 h2
    rw [if_neg h1,if_neg h2,← ih]
    simp [Op.bytesLess,h1]
theorem Cv (a b:ByteArray):wz a b=eN a.data.toList b.data.toList:=by
 unfold wz;rw [oP,oP];exact xP _ _
def oE:List (List UInt8)→List (List UInt8)→Int
 | [],[]=>0
 | [],_::_=>-1
 | _::_,[]=>1
 | x::xs,y::ys=>if eN x y=0 then oE xs ys else eN x y
theorem vD:∀ (n:Nat) (a b:ByteArray),a.size<n→oE (aw a.data.toList) (aw b.data.toList)=xI n a b
 | 0,_,_,h=>by omega
 | n+1,a,b,h=>by
  have ea:aw a.data.toList=(cA a).data.toList::(if cM a=true then aw (cB a).data.toList else []):=ko _
  have eb:aw b.data.toList=(cA b).data.toList::(if cM b=true then aw (cB b).data.toList else []):=ko _
  rw [ea,eb]
  unfold oE xI
  by_cases he:(cA a).data.toList=(cA b).data.toList
  ·rw [if_pos he,he,uF,if_pos rfl]
   cases ma:cM a
   ·cases mb:cM b
    ·simp [oE,Hd]
    ·cases hp:aw (cB b).data.toList with
     | nil=>exact absurd hp (cO _)
     | cons x xs=>simp [oE,Hd,hp]
   ·cases mb:cM b
    ·cases hp:aw (cB a).data.toList with
     | nil=>exact absurd hp (cO _)
     | cons x xs=>simp [oE,Hd,hp]
    ·have:=vD n (cB a) (cB b) (by have:=AO a ma;omega)
     simp [this]
  ·rw [if_neg he,Cv,if_neg fun e=>he (oK e)]
section
variable {w0:World} {cs0:List Frame} {R:Ending→World→Prop} {xs ys:List (List UInt8)}
theorem He (hx:xs.length≤2000000000) (hy:ys.length≤2000000000) (sx:∀ s∈xs,s.length≤1000000000) (sy:∀ s∈ys,s.length≤1000000000):∀ (j i:Nat),i+j=xs.length→i≤ys.length→
  (∀ w',Below w0.heap.size w0 w'→R (.returned (.int .i64 (oE (xs.drop i) (ys.drop i)))) w')→af ER (aT [] []) w0 cs0 47 R (aE []) (SM.at (EZ xs.length ys.length i) 6 (two (cP xs) (cP ys)))
 | j,i,hj,hib,hR=>by
  have go:∀ {o v},uw (ax ER 47 100 (SM.at (EZ xs.length ys.length i) 6 (two (cP xs) (cP ys))) o v)→v=.int .i64 (oE (xs.drop i) (ys.drop i))→af ER (aT [] []) w0 cs0 47 R (aE []) (SM.at (EZ xs.length ys.length i) 6 (two (cP xs) (cP ys))):=fun hd e=>
   cz KR bo hd fun w' hw=>by rw [e];exact hR _ hw
  by_cases h1:i<xs.length
  ·have t1:decide ((i:Int)<(xs.length:Int))=true:=decide_eq_true (by omega)
   by_cases h2:i<ys.length
   ·have t2:decide ((i:Int)<(ys.length:Int))=true:=decide_eq_true (by omega)
    have r1:=aO h1
    have r2:=aO h2
    have da:=List.drop_eq_getElem_cons h1
    have db:=List.drop_eq_getElem_cons h2
    have g1:(cP xs)[0+i*1]?=some (.v (.string (mk xs[i]))):=by simp [cP,h1]
    have g2:(cP ys)[0+i*1]?=some (.v (.string (mk ys[i]))):=by simp [cP,h2]
    have z1:(mk xs[i]).size≤1000000000:=sx _ (List.getElem_mem h1)
    have z2:(mk ys[i]).size≤1000000000:=sy _ (List.getElem_mem h2)
    have eb:lD (mk xs[i]) (mk ys[i])=eN xs[i] ys[i]:=by simp [lD,mk]
    by_cases hc:eN xs[i] ys[i]=0
    ·have hq:(!(eN xs[i] ys[i]==(0:Int)))=false:=by rw [hc];rfl
     match j,hj with
     | 0,hj=>omega
     | j+1,hj=>
      refine af.reach KR (k:=2) (n:=100) (o:=(ff [0,1,2,3,4,5] true++[(7,.cells [.v (.string (mk xs[i]))]),(9,.cells [.v (.string (mk ys[i]))])]++ff [11] false)) (ren:=[(0,0),(1,1)]) (eqs:=[0,1]) ?_ (by kernel_rfl) (fun i b h=>eW h) (He hx hy sx sy j (i+1) (by omega) (by omega) fun w' hw=>by
       have e:oE (xs.drop i) (ys.drop i)=oE (xs.drop (i+1)) (ys.drop (i+1)):=by
        rw [da,db];conv=>lhs;unfold oE
        rw [if_pos hc]
       exact e ▸ hR w' hw)
      rw [PX]
      have ws:IntKind.i64.wrap ((i:Int)+1)=((i+1:Nat):Int):=by rw [wi (by omega)];simp
      simp only [ak,Int.toNat_natCast,t1,t2,r1,r2,g1,g2,z1,z2,eb,hq,ws,dR,and_self]
    ·have hq:(!(eN xs[i] ys[i]==(0:Int)))=true:=by rw [beq_eq_false_iff_ne.2 hc];rfl
     refine go (o:=(ff [0,1,2,3,4,5] true++[(7,.cells [.v (.string (mk xs[i]))]),(9,.cells [.v (.string (mk ys[i]))])]++ff [11] true)) (v:=.int .i64 (lD (mk xs[i]) (mk ys[i]))) ⟨?_⟩ (by rw [da,db,eb];unfold oE;rw [if_neg hc])
     rw [QO]
     simp only [ak,Int.toNat_natCast,t1,t2,r1,r2,g1,g2,z1,z2,eb,hq,and_self]
   ·have t2:decide ((i:Int)<(ys.length:Int))=false:=decide_eq_false (by omega)
    refine go (o:=ff [0,1,2,3,4] true++ff [5] false) (v:=.int .i64 (eU xs.length ys.length)) ⟨?_⟩ ?_
    ·rw [r4];simp only [ak,t1,t2,and_self]
    ·rw [List.drop_eq_getElem_cons h1,List.drop_eq_nil_of_le (by omega:ys.length≤i)]
     have:eU (xs.length:Int) (ys.length:Int)=1:=by unfold eU;rw [if_neg (by omega),if_pos (by omega)]
     rw [this];rfl
  ·have t1:decide ((i:Int)<(xs.length:Int))=false:=decide_eq_false (by omega)
   refine go (o:=ff [0,1,2,3,4,5] false) (v:=.int .i64 (eU xs.length ys.length)) ⟨?_⟩ ?_
   ·rw [r3];simp only [ak,t1,and_self]
   ·rw [List.drop_eq_nil_of_le (by omega:xs.length≤i)]
    by_cases h2:i<ys.length
    ·rw [List.drop_eq_getElem_cons h2]
     have:eU (xs.length:Int) (ys.length:Int)=-1:=by unfold eU;rw [if_pos (by omega)]
     rw [this];rfl
    ·rw [List.drop_eq_nil_of_le (by omega:ys.length≤i)]
     have:eU (xs.length:Int) (ys.length:Int)=0:=by unfold eU;rw [if_neg (by omega),if_neg (by omega)]
     rw [this];rfl
end
theorem F4:dE Try.prog (fun _=>True) (47,AA):=by
 refine .mk ⟨_,Try.func47,by kernel_rfl,by kernel_rfl⟩ fun args v p h hp w hX=>?_
 dsimp only [AA] at h
 split at h
 ·rename_i a b
  cases h
  refine cp (E:=ER) (R:=fun e w'=>Below w.heap.size w w'∧e=.returned (.int .i64 (ey a b))) rfl rfl (args:=[.v (.string a),.v (.string b)]) (a:=[.string a,.string b]) (S0:=ch ER 47 [.v (.string a),.v (.string b)]) (by kernel_rfl) (ay.cons (VR.ah.2 rfl) (ay.cons (VR.ah.2 rfl) ay.nil)) fun cs0=>?_
  have la:a.data.toList.length=a.size:=by simp
  have lb:b.data.toList.length=b.size:=by simp
  obtain ⟨ha,hb⟩:=hp
  obtain ⟨a1,a2⟩:=fJ a.data.toList
  obtain ⟨b1,b2⟩:=fJ b.data.toList
  have nx:=He (w0:=w) (cs0:=cs0) (R:=fun e w'=>Below w.heap.size w w'∧e=.returned (.int .i64 (ey a b))) (xs:=aw a.data.toList) (ys:=aw b.data.toList) (by omega) (by omega) (fun s hs=>by have:=a2 s hs;omega) (fun s hs=>by have:=b2 s hs;omega) (aw a.data.toList).length 0 (by omega) (by omega) fun w' hw=>⟨hw,by
   rw [List.drop_zero,List.drop_zero,vD (a.size+1) a b (by omega)];rfl⟩
  refine af.reach KR (k:=2) (n:=60) (o:=[(1000,.b true)]) (ren:=[(0,0),(1,1)]) (eqs:=[0,1]) (F:=EZ (aw a.data.toList).length (aw b.data.toList).length 0) (d:=6) (l:=two (cP (aw a.data.toList)) (cP (aw b.data.toList))) ?_ (by kernel_rfl) (fun i b h=>eW h) nx
  have e1:∀ l:List (List UInt8),List.map SV.v (vP l)=cP l:=fun l=>by simp [vP,cP]
  rw [r0]
  simp only [ak,e1,dR,and_self,and_true,true_and]
  exact ⟨ha,hb⟩
 ·cases h
noncomputable def JD:List SI:=dn aL 2 60 (ch aL 44 [.v (.string ⟨#[]⟩)]) []
noncomputable def Cn (s:ByteArray) (i:Int):SF:={ fn:=44,tm:=eO 30 6 ([.v (.string s),.aJ,.aJ,.v (.int .i64 i)]++List.replicate 26 .aJ),todo:=JD,defers:=[],ret:=false,kind:=.normal,ro:=none }
theorem q0 (s:ByteArray):reach aL 2 60 (ch aL 44 [.v (.string s)]) [(1000,.b true)] [] [] (Cn s 0) 6 []=[Value.string s=Value.string s,vZ 0=vZ 0]:=by kernel_rfl
theorem q1 (s:ByteArray) (i i':Int):reach aL 2 60 (SM.at (Cn s i) 6 []) (ff [0] true++ff [2] false) [] [] (Cn s i') 6 []=[Value.string s=Value.string s,vZ (IntKind.i64.wrap (i+1))=vZ i',((↑(s.data.getD i.toNat (0:UInt8)).toNat:Int)==0)=false,ao i s.size=true,decide (i<(↑s.size:Int))=true]:=by kernel_rfl
theorem q2 (s:ByteArray) (i:Int) (v:Value):ax aL 44 60 (SM.at (Cn s i) 6 []) (ff [0,2] true) v=[Value.bool false=v,((↑(s.data.getD i.toNat (0:UInt8)).toNat:Int)==0)=true,ao i s.size=true,decide (i<(↑s.size:Int))=true]:=by kernel_rfl
theorem q3 (s:ByteArray) (i:Int) (v:Value):ax aL 44 60 (SM.at (Cn s i) 6 []) (ff (List.range 20) false) v=[Value.bool false=v,false=false,false=false,false=false,false=false,false=false,false=false,decide ((↑s.size:Int)≥1)=false,decide ((↑s.size:Int)≥1)=false,decide ((↑s.size:Int)≥1)=false,decide ((↑s.size:Int)≥1)=false,decide (i<(↑s.size:Int))=false]:=by kernel_rfl
theorem q4 (s:ByteArray) (i:Int) (v:Value):ax aL 44 60 (SM.at (Cn s i) 6 []) (ff [0] false++ff [1,2,3,4] true++ff (List.range 20) false) v=[Value.bool false=v,false=false,false=false,false=false,decide ((↑s.size:Int)≤24)=false,decide ((↑s.size:Int)≤24)=false,decide ((↑s.size:Int)≤24)=false,decide ((↑s.size:Int)≥1)=true,decide ((↑s.size:Int)≥1)=true,decide ((↑s.size:Int)≥1)=true,decide ((↑s.size:Int)≥1)=true,decide (i<(↑s.size:Int))=false]:=by kernel_rfl
theorem q5 (s:ByteArray) (i:Int) (v:Value):ax aL 44 60 (SM.at (Cn s i) 6 []) (ff [0] false++ff [1,2,3,4,5,6,7] true++ff (List.range 20) false) v=[Value.bool false=v,(!s.toList==(⟨⟨[46]⟩⟩:ByteArray).toList)=false,(!s.toList==(⟨⟨[46]⟩⟩:ByteArray).toList)=false,(!s.toList==(⟨⟨[46]⟩⟩:ByteArray).toList)=false,decide ((↑s.size:Int)≤24)=true,decide ((↑s.size:Int)≤24)=true,decide ((↑s.size:Int)≤24)=true,decide ((↑s.size:Int)≥1)=true,decide ((↑s.size:Int)≥1)=true,decide ((↑s.size:Int)≥1)=true,decide ((↑s.size:Int)≥1)=true,decide (i<(↑s.size:Int))=false]:=by kernel_rfl
theorem q6 (s:ByteArray) (i:Int) (v:Value):ax aL 44 60 (SM.at (Cn s i) 6 []) (ff [0] false++ff (List.range 20) true) v=[(Value.bool !s.toList==(⟨⟨[46,46]⟩⟩:ByteArray).toList)=v,(!s.toList==(⟨⟨[46]⟩⟩:ByteArray).toList)=true,(!s.toList==(⟨⟨[46]⟩⟩:ByteArray).toList)=true,(!s.toList==(⟨⟨[46]⟩⟩:ByteArray).toList)=true,decide ((↑s.size:Int)≤24)=true,decide ((↑s.size:Int)≤24)=true,decide ((↑s.size:Int)≤24)=true,decide ((↑s.size:Int)≥1)=true,decide ((↑s.size:Int)≥1)=true,decide ((↑s.size:Int)≥1)=true,decide ((↑s.size:Int)≥1)=true,decide (i<(↑s.size:Int))=false]:=by kernel_rfl
def NC:List (FuncId × Sum):=[(43,rD Bu),(44,eP nf)]
noncomputable def Cf:Env:={ EP [] [] with sums:=fun f=>NC.lookup f }
noncomputable def H9:List SI:=dn Cf 2 60 (ch Cf 26 [.v (.string ⟨#[]⟩)]) (ff [0] false)
noncomputable def zC (n:Nat) (i:Int):SF:={ fn:=26,tm:=eO 25 6 ([.aJ,.aJ,.aJ,.sl 0 0 n none,.v (.int .i64 i)]++List.replicate 20 .aJ),todo:=H9,defers:=[],ret:=false,kind:=.normal,ro:=none }
theorem Ol (p:ByteArray) (v:Value):ax Cf 26 60 (ch Cf 26 [.v (.string p)]) (ff [0] true) v=[Value.bool false=v,decide ((↑p.size:Int)>96)=true]:=by kernel_rfl
theorem Qe (p:ByteArray) (n:Nat) (l:List SV):reach Cf 2 60 (ch Cf 26 [.v (.string p)]) (ff [0] false) [(0,0)] [0] (zC n 0) 6 (many l)=[0=0∧(aw p.data.toList).length=n∧nZ=none,vZ 0=vZ 0,List.map SV.v (vP (aw p.data.toList))=l,l.all ab=true,p.size.le 1000000000,decide ((↑p.size:Int)>96)=false]:=by kernel_rfl
theorem Qn (s:ByteArray) (n:Nat) (l:List SV) (i i':Int):reach Cf 2 60 (SM.at (zC n i) 6 (many l)) (ff [0] true++[(2,.cells [.v (.string s)])]++ff [4] false) [(0,0)] [0] (zC n i') 6 (many l)=[0=0∧n=n∧nZ=none,vZ (IntKind.i64.wrap (i+1))=vZ i',l=l,l.all ab=true,(!bk s)=false,s.size.le 1000000000,l[0+i.toNat*1]?=some (SV.v (Value.string s)),ao i n=true,decide (i<(↑n:Int))=true]:=by kernel_rfl
theorem Qf (s:ByteArray) (n:Nat) (l:List SV) (i:Int) (v:Value):ax Cf 26 60 (SM.at (zC n i) 6 (many l)) (ff [0] true++[(2,.cells [.v (.string s)])]++ff [4] true) v=[Value.bool false=v,(!bk s)=true,s.size.le 1000000000,l[0+i.toNat*1]?=some (SV.v (Value.string s)),ao i n=true,decide (i<(↑n:Int))=true]:=by kernel_rfl
theorem OM (n:Nat) (l:List SV) (i:Int) (v:Value):ax Cf 26 60 (SM.at (zC n i) 6 (many l)) (ff [0] false) v=[Value.bool (decide ((↑n:Int)≤6))=v,decide (i<(↑n:Int))=false]:=by kernel_rfl
theorem Oy (k:Int) (a:Option Addr) (l c:Nat) (v:Value):ax aL 49 100 (ch aL 49 [.v (.agg #[.int .i64 1,.slice a l c])]) (ff [1] true) v=[vZ 0=v,decide ((↑l:Int)≤4096)=true]:=by kernel_rfl
theorem PK (k:Int) (a:Option Addr) (l c:Nat) (v:Value):ax aL 49 100 (ch aL 49 [.v (.agg #[.int .i64 1,.slice a l c])]) (ff [1] false) v=[vZ 13=v,decide ((↑l:Int)≤4096)=false]:=by kernel_rfl
theorem Rb (k:Int) (a:Option Addr) (l c:Nat) (v:Value):ax aL 49 100 (ch aL 49 [.v (.agg #[.int .i64 0,.slice a l c])]) (ff [3] true) v=[vZ 0=v,decide ((↑l:Int)≤0)=true]:=by kernel_rfl
theorem Ru (k:Int) (a:Option Addr) (l c:Nat) (v:Value):ax aL 49 100 (ch aL 49 [.v (.agg #[.int .i64 0,.slice a l c])]) (ff [3] false) v=[vZ 2=v,decide ((↑l:Int)≤0)=false]:=by kernel_rfl
theorem Rh (k:Int) (a:Option Addr) (l c:Nat) (v:Value):ax aL 49 100 (ch aL 49 [.v (.agg #[.int .i64 2,.slice a l c])]) (ff [3] true) v=[vZ 0=v,decide ((↑l:Int)≤0)=true]:=by kernel_rfl
theorem QW (k:Int) (a:Option Addr) (l c:Nat) (v:Value):ax aL 49 100 (ch aL 49 [.v (.agg #[.int .i64 2,.slice a l c])]) (ff [3] false) v=[vZ 2=v,decide ((↑l:Int)≤0)=false]:=by kernel_rfl
theorem NB (k:Int) (a:Option Addr) (l c:Nat) (v:Value):ax aL 49 100 (ch aL 49 [.v (.agg #[.int .i64 k,.slice a l c])]) (ff (List.range 20) false) v=[vZ 2=v,(k==2)=false,(k==0)=false,(k==1)=false]:=by kernel_rfl
theorem Pa (a:Option Addr) (l c:Nat) (v:Value):ax aL 27 100 (ch aL 27 [.v (.agg #[.int .i64 1,.slice a l c])]) (ff [16] true) v=[vZ 13=v,decide ((↑l:Int)>4096)=true]:=by kernel_rfl
theorem Pk (a:Option Addr) (l c:Nat) (v:Value):ax aL 27 100 (ch aL 27 [.v (.agg #[.int .i64 1,.slice a l c])]) (ff [16] false) v=[vZ 0=v,decide ((↑l:Int)>4096)=false]:=by kernel_rfl
theorem Oi (a:Option Addr) (l c:Nat) (v:Value):ax aL 27 100 (ch aL 27 [.v (.agg #[.int .i64 0,.slice a l c])]) (ff [15] true) v=[vZ 2=v,decide ((↑l:Int)>0)=true]:=by kernel_rfl
theorem Qc (a:Option Addr) (l c:Nat) (v:Value):ax aL 27 100 (ch aL 27 [.v (.agg #[.int .i64 0,.slice a l c])]) (ff [15,16] false) v=[vZ 0=v,decide ((↑l:Int)>4096)=false,decide ((↑l:Int)>0)=false]:=by kernel_rfl
theorem Rw (a:Option Addr) (l c:Nat) (v:Value):ax aL 27 100 (ch aL 27 [.v (.agg #[.int .i64 2,.slice a l c])]) (ff [15] true) v=[vZ 2=v,decide ((↑l:Int)>0)=true]:=by kernel_rfl
theorem OD (a:Option Addr) (l c:Nat) (v:Value):ax aL 27 100 (ch aL 27 [.v (.agg #[.int .i64 2,.slice a l c])]) (ff [15,16] false) v=[vZ 0=v,decide ((↑l:Int)>4096)=false,decide ((↑l:Int)>0)=false]:=by kernel_rfl
theorem Ou (k:Int) (a:Option Addr) (l c:Nat) (v:Value):ax aL 27 100 (ch aL 27 [.v (.agg #[.int .i64 k,.slice a l c])]) (ff (List.range 20) true) v=[vZ 2=v,true=true,true=true,true=true,true=true,true=true,true=true,true=true,decide (k<0)=true,decide (k<0)=true,decide (k<0)=true,decide (k<0)=true]:=by kernel_rfl
theorem Oe (k:Int) (a:Option Addr) (l c:Nat) (v:Value):ax aL 27 100 (ch aL 27 [.v (.agg #[.int .i64 k,.slice a l c])]) (ff [0,1,2,3] false++ff (List.range 20) true) v=[vZ 2=v,true=true,decide (k>2)=true,decide (k>2)=true,decide (k>2)=true,decide (k>2)=true,decide (k>2)=true,decide (k>2)=true,decide (k<0)=false,decide (k<0)=false,decide (k<0)=false,decide (k<0)=false]:=by kernel_rfl
def Nf (v:Int):Bool:=decide (1≤v / 1048576∧v / 1048576≤1099511627776∧1≤v % 1048576)
def aZ (k:Int) (l:Nat):Int:=if k=1 then (if l≤4096 then 0 else 13) else if (k=0∨k=2)∧l=0 then 0 else 2
def kO:PS:=fun args=>match args with | [.agg x]=>(match x.toList with | [.int .i64 k,.slice _ l _]=>some (.int .i64 (aZ k l),True) | _=>none) | _=>none
def JP (p:ByteArray) (v k:Int) (l:Nat):Int:=bif Kh p then bif Nf v then aZ k l else 2 else 23
def lk:PS:=fun args=>match args with | [.string p]=>some (.bool (a7 p),p.size≤1000000000) | _=>none
theorem Bc (s:ByteArray):Hi s<0↔∀ b∈s.data.toList,b≠0:=by
 have key:∀ l:List UInt8,(Lib.indexByte l 0=-1∧∀ b∈l,b≠0)∨(0≤Lib.indexByte l 0∧¬ ∀ b∈l,b≠0):=by
  intro l
  induction l with
  | nil=>exact .inl ⟨rfl,fun b h=>by cases h⟩
  | cons x l ih=>
   unfold Lib.indexByte
   by_cases hx:x=0
   ·subst hx
    exact .inr ⟨by simp,fun h=>h 0 List.mem_cons_self rfl⟩
   ·have hx':(x==0)=false:=beq_eq_false_iff_ne.2 hx
    rw [hx']
    rcases ih with ⟨h1,h2⟩ | ⟨h1,h2⟩
    ·rw [h1]
     exact .inl ⟨rfl,fun b hb=>by rcases List.mem_cons.1 hb with rfl | hb;exact hx;exact h2 b hb⟩
    ·refine .inr ⟨?_,fun h=>h2 fun b hb=>h b (List.mem_cons_of_mem _ hb)⟩
     have:(Lib.indexByte l 0==-1)=false:=beq_eq_false_iff_ne.2 (by omega)
     rw [this];simp only [Bool.false_eq_true,if_false];omega
 rcases key s.data.toList with ⟨h1,h2⟩ | ⟨h1,h2⟩
 ·unfold Hi;rw [h1];exact ⟨fun _=>h2,fun _=>by decide⟩
 ·unfold Hi;exact ⟨fun h=>by omega,fun h=>absurd h h2⟩
section
variable {w0:World} {cs0:List Frame} {R:Ending→World→Prop} {s:ByteArray}
theorem GS (hs:s.size≤1000000000) (hR:∀ w',Below w0.heap.size w0 w'→R (.returned (.bool (bk s))) w'):∀ (j i:Nat),i+j=s.size→(∀ b∈s.data.toList.take i,b≠0)→
  af aL (aT [] []) w0 cs0 44 R (aE []) (SM.at (Cn s i) 6 [])
 | 0,i,hj,hz=>by
  have go:∀ {o v},uw (ax aL 44 60 (SM.at (Cn s i) 6 []) o v)→v=.bool (bk s)→af aL (aT [] []) w0 cs0 44 R (aE []) (SM.at (Cn s i) 6 []):=fun hd e=>
   cz de bo hd fun w' hw=>by rw [e];exact hR _ hw
  have hl:s.data.toList.length=s.size:=by simp
  rw [List.take_of_length_le (by omega)] at hz
  have hnz:=(Bc s).2 hz
  have t1:decide ((i:Int)<(s.size:Int))=false:=decide_eq_false (by omega)
  by_cases h0:s.data.toList=[]
  ·have hz0:s.size=0:=by rw [← hl,h0];rfl
   have t2:decide ((s.size:Int)≥1)=false:=decide_eq_false (by omega)
   refine go (o:=ff (List.range 20) false) (v:=.bool false) ⟨?_⟩ (by simp [bk,h0])
   rw [q3];simp only [ak,t1,t2,and_self]
  have hz1:1≤s.size:=by
   rw [← hl];exact List.length_pos_iff.2 h0
  have t2:decide ((s.size:Int)≥1)=true:=decide_eq_true (by omega)
  by_cases h24:s.size≤24
  ·have t3:decide ((s.size:Int)≤24)=true:=decide_eq_true (by omega)
   by_cases h1:s.data.toList=[46]
   ·have t4:(s.toList==(⟨#[46]⟩:ByteArray).toList)=true:=by rw [oP,oP];simp [h1]
    refine go (o:=ff [0] false++ff [1,2,3,4,5,6,7] true++ff (List.range 20) false) (v:=.bool false) ⟨?_⟩ (by simp [bk,h1])
    rw [q5];simp only [ak,t1,t2,t3,t4,Bool.not_true,and_self]
   ·have t4:(s.toList==(⟨#[46]⟩:ByteArray).toList)=false:=by rw [oP,oP];exact beq_eq_false_iff_ne.2 h1
    refine go (o:=ff [0] false++ff (List.range 20) true) (v:=.bool (!(s.toList==(⟨#[46,46]⟩:ByteArray).toList))) ⟨?_⟩ ?_
    ·rw [q6];simp only [ak,t1,t2,t3,t4,Bool.not_false,and_self]
    ·congr 1
     rw [oP,oP]
     by_cases h2:s.data.toList=[46,46]
     ·simp [bk,h2]
     ·have:(s.data.toList==(⟨#[46,46]⟩:ByteArray).data.toList)=false:=beq_eq_false_iff_ne.2 h2
      rw [this]
      simp [bk,h0,h1,h2,h24,hnz]
  ·have t3:decide ((s.size:Int)≤24)=false:=decide_eq_false (by omega)
   refine go (o:=ff [0] false++ff [1,2,3,4] true++ff (List.range 20) false) (v:=.bool false) ⟨?_⟩ (by simp [bk,h24])
   rw [q4];simp only [ak,t1,t2,t3,and_self]
 | j+1,i,hj,hz=>by
  have hi:i<s.size:=by omega
  have t1:decide ((i:Int)<(s.size:Int))=true:=decide_eq_true (by omega)
  have r1:=aO hi
  have ws:=aM (k:=i) (by omega)
  have ht:=mP s hi
  by_cases hb:s.data.getD i 0=0
  ·have t2:(((s.data.getD i 0).toNat:Int)==0)=true:=by rw [hb];rfl
   refine cz de bo (n:=60) (o:=ff [0,2] true) (v:=.bool false) ⟨?_⟩ fun w' hw=>?_
   ·rw [q2];simp only [ak,Int.toNat_natCast,t1,r1,t2,and_self]
   ·have hn:¬ Hi s<0:=fun h=>(Bc s).1 h 0 (by
     have h5:s.data.getD i 0∈s.data.toList.take (i+1):=by rw [ht];simp
     rw [hb] at h5
     exact List.mem_of_mem_take h5) rfl
    have:bk s=false:=by unfold bk;rw [decide_eq_false hn,Bool.and_false]
    rw [← this];exact hR _ hw
  ·have t2:(((s.data.getD i 0).toNat:Int)==0)=false:=beq_eq_false_iff_ne.2 fun h=>hb (UInt8.toNat_inj.1 (show (s.data.getD i 0).toNat=0 by omega))
   refine af.reach de (k:=2) (n:=60) (o:=ff [0] true++ff [2] false) (ren:=[]) (eqs:=[]) ?_ (by kernel_rfl) (fun i b h=>eW h) (l:=[]) (GS hs hR j (i+1) (by omega) fun b hb'=>by
    rw [ht] at hb'
    rcases List.mem_append.1 hb' with h | h
    ·exact hz b h
    ·rw [List.mem_singleton.1 h];exact hb)
   rw [q1];simp only [ak,Int.toNat_natCast,t1,r1,t2,ws,and_self]
end
theorem Ed:dE Try.prog (fun _=>True) (44,nf):=by
 refine .mk ⟨_,Try.func44,by kernel_rfl,by kernel_rfl⟩ fun args v p h hp w hX=>?_
 dsimp only [nf] at h
 split at h
 ·rename_i s
  cases h
  refine cp (E:=aL) (R:=fun e w'=>Below w.heap.size w w'∧e=.returned (.bool (bk s))) rfl rfl (args:=[.v (.string s)]) (a:=[.string s]) (S0:=ch aL 44 [.v (.string s)]) (by kernel_rfl) (ay.cons (VR.ah.2 rfl) ay.nil) fun cs0=>?_
  refine af.reach de (k:=2) (n:=60) (o:=[(1000,.b true)]) (ren:=[]) (eqs:=[]) (F:=Cn s 0) (d:=6) (l:=[]) ?_ (by kernel_rfl) (fun i b h=>eW h) (GS hp (fun w' hw=>⟨hw,rfl⟩) s.size 0 (by omega) fun b hb=>by simp at hb)
  rw [q0];simp only [ak,and_self]
 ·cases h
theorem jP:∀ (n:Nat) (p:ByteArray),j2 n p=true↔(aw p.data.toList).length≤n∧∀ s∈aw p.data.toList,bk (mk s)=true
 | 0,p=>by
  refine ⟨fun h=>by simp [j2] at h,fun ⟨h,_⟩=>?_⟩
  exact absurd (List.length_eq_zero_iff.1 (Nat.le_zero.1 h)) (cO _)
 | n+1,p=>by
  have e:aw p.data.toList=(cA p).data.toList::(if cM p=true then aw (cB p).data.toList else []):=ko _
  rw [e]
  have eA:mk (cA p).data.toList=cA p:=GP _
  unfold j2
  cases hm:cM p
  ·simp [eA]
  ·have ih:=jP n (cB p)
   simp only [Bool.not_true,Bool.false_or,Bool.and_eq_true,ih,if_true,List.length_cons,Nat.add_le_add_iff_right,List.mem_cons,forall_eq_or_imp,eA]
   constructor
   ·rintro ⟨h1,h2,h3⟩;exact ⟨h2,h1,h3⟩
   ·rintro ⟨h2,h1,h3⟩;exact ⟨h1,h2,h3⟩
theorem Jy {M:Own} {w0:World}:aW Cf M w0:=
 aW.Bg (Checked.mixed Try.checked) (by kernel_rfl) (gu.of ke rfl eY) (ep.list (X:=fun _=>True) (l:=NC) rfl (fun r hr=>by
  simp only [NC,List.mem_cons,List.not_mem_nil,or_false] at hr
  rcases hr with rfl | rfl
  ·exact qH
  ·exact cr.pure (r:=(44,nf)) Ed) fun ν s w hr _=>trivial) (fun f g h=>by cases h)
section
variable {w0:World} {cs0:List Frame} {R:Ending→World→Prop} {p:ByteArray} {xs:List (List UInt8)}
theorem EG (h96:p.size≤96) (hx:xs=aw p.data.toList) (hR:∀ w',Below w0.heap.size w0 w'→R (.returned (.bool (a7 p))) w'):∀ (j i:Nat),i+j=xs.length→(∀ s∈xs.take i,bk (mk s)=true)→
  af Cf (aT [] []) w0 cs0 26 R (aE []) (SM.at (zC xs.length i) 6 (many (cP xs)))
 | 0,i,hj,hz=>by
  rw [List.take_of_length_le (by omega)] at hz
  refine cz Jy bo (n:=60) (o:=ff [0] false) (v:=.bool (decide ((xs.length:Int)≤6))) ⟨?_⟩ fun w' hw=>?_
  ·rw [OM];simp only [ak,true_and,and_true];exact decide_eq_false (by omega)
  ·have:a7 p=decide ((xs.length:Int)≤6):=by
    unfold a7
    rw [decide_eq_true h96,Bool.true_and]
    by_cases hl:xs.length≤6
    ·rw [decide_eq_true (by omega:(xs.length:Int)≤6)]
     exact (jP 6 p).2 ⟨by rw [← hx];exact hl,fun s hs=>hz s (by rw [hx];exact hs)⟩
    ·rw [decide_eq_false (by omega:¬ (xs.length:Int)≤6)]
     rw [Bool.eq_false_iff];intro h
     have:=((jP 6 p).1 h).1
     rw [← hx] at this;exact hl this
   rw [← this];exact hR _ hw
 | j+1,i,hj,hz=>by
  have hi:i<xs.length:=by omega
  have t1:decide ((i:Int)<(xs.length:Int))=true:=decide_eq_true (by omega)
  have r1:=aO hi
  have hlen:=fJ p.data.toList
  have hll:p.data.toList.length=p.size:=by simp
  have ws:=aM (k:=i) (by rw [hx] at hi;omega)
  have g1:(cP xs)[0+i*1]?=some (.v (.string (mk xs[i]))):=by simp [cP,hi]
  have hmem:xs[i]∈aw p.data.toList:=by rw [← hx];exact List.getElem_mem hi
  have z1:(mk xs[i]).size≤1000000000:=by
   have:=hlen.2 _ hmem
   show xs[i].length≤_
   omega
  cases hb:bk (mk xs[i])
  ·refine cz Jy bo (n:=60) (o:=(ff [0] true++[(2,.cells [.v (.string (mk xs[i]))])]++ff [4] true)) (v:=.bool false) ⟨?_⟩ fun w' hw=>?_
   ·rw [Qf];simp only [ak,Int.toNat_natCast,t1,r1,g1,hb,Bool.not_false,true_and,and_true];exact z1
   ·have:a7 p=false:=by
     unfold a7
     rw [decide_eq_true h96,Bool.true_and,Bool.eq_false_iff]
     intro h
     have:=((jP 6 p).1 h).2 _ hmem
     rw [hb] at this;cases this
    rw [← this];exact hR _ hw
  ·refine af.reach Jy (k:=2) (n:=60) (o:=(ff [0] true++[(2,.cells [.v (.string (mk xs[i]))])]++ff [4] false)) (ren:=[(0,0)]) (eqs:=[0]) ?_ (by kernel_rfl) (fun i b h=>eW h) (EG h96 hx hR j (i+1) (by omega) fun s hs=>by
    rw [List.take_succ_eq_append_getElem hi] at hs
    rcases List.mem_append.1 hs with h | h
    ·exact hz s h
    ·rw [List.mem_singleton.1 h];exact hb)
   rw [Qn];simp only [ak,Int.toNat_natCast,t1,r1,g1,hb,ws,dR,Bool.not_true,and_self,true_and,and_true];exact z1
end
theorem sq:dE Try.prog (fun _=>True) (26,lk):=by
 refine .mk ⟨_,Try.func26,by kernel_rfl,by kernel_rfl⟩ fun args v p h hp w hX=>?_
 dsimp only [lk] at h
 split at h
 ·rename_i p
  cases h
  refine cp (E:=Cf) (R:=fun e w'=>Below w.heap.size w w'∧e=.returned (.bool (a7 p))) rfl rfl (args:=[.v (.string p)]) (a:=[.string p]) (S0:=ch Cf 26 [.v (.string p)]) (by kernel_rfl) (ay.cons (VR.ah.2 rfl) ay.nil) fun cs0=>?_
  by_cases h96:p.size≤96
  ·refine af.reach Jy (k:=2) (n:=60) (o:=ff [0] false) (ren:=[(0,0)]) (eqs:=[0]) (F:=zC (aw p.data.toList).length 0) (d:=6) (l:=many (cP (aw p.data.toList))) ?_ (by kernel_rfl) (fun i b h=>eW h) (EG h96 rfl (fun w' hw=>⟨hw,rfl⟩) (aw p.data.toList).length 0 (by omega) fun s hs=>by simp at hs)
   have e1:∀ l:List (List UInt8),List.map SV.v (vP l)=cP l:=fun l=>by simp [vP,cP]
   rw [Qe]
   simp only [ak,e1,dR,and_self,and_true,true_and]
   exact ⟨decide_eq_false (by omega),hp⟩
  ·refine cz Jy bo (n:=60) (o:=ff [0] true) (v:=.bool false) ⟨?_⟩ fun w' hw=>⟨hw,by simp [a7,h96]⟩
   rw [Ol];simp only [ak,true_and,and_true];exact decide_eq_true (by omega)
 ·cases h
theorem E6:dE Try.prog (fun _=>True) (49,kO):=by
 refine .mk ⟨_,Try.func49,by kernel_rfl,by kernel_rfl⟩ fun args v p h hp w hX=>?_
 dsimp only [kO] at h
 split at h
 ·rename_i x
  split at h
  ·rename_i k a l c hx
   cases h
   obtain rfl:x=#[.int .i64 k,.slice a l c]:=by cases x;simpa using hx
   have go:∀ {o v},uw (ax aL 49 100 (ch aL 49 [.v (.agg #[.int .i64 k,.slice a l c])]) o v)→v=.int .i64 (aZ k l)→Calls Try.prog 49 #[.agg #[.int .i64 k,.slice a l c]] w fun e w'=>Below w.heap.size w w'∧e=.returned (.int .i64 (aZ k l)):=fun h e=>
    e ▸ ek (E:=aL) (args:=[.v (.agg #[.int .i64 k,.slice a l c])]) (a:=[.agg #[.int .i64 k,.slice a l c]]) rfl rfl de (by kernel_rfl) (ay.cons (VR.ah.2 rfl) ay.nil) h
   by_cases k1:k=1
   ·subst k1
    by_cases hl:l≤4096
    ·exact go (o:=ff [1] true) (v:=.int .i64 0) ⟨by rw [Oy 0];simp only [ak,true_and,and_true];exact decide_eq_true (by omega)⟩ (by simp [aZ,hl])
    ·exact go (o:=ff [1] false) (v:=.int .i64 13) ⟨by rw [PK 0];simp only [ak,true_and,and_true];exact decide_eq_false (by omega)⟩ (by simp [aZ,hl])
   by_cases k0:k=0
   ·subst k0
    by_cases hl:l=0
    ·exact go (o:=ff [3] true) (v:=.int .i64 0) ⟨by rw [Rb 0];simp only [ak,true_and,and_true];exact decide_eq_true (by omega)⟩ (by simp [aZ,hl])
    ·exact go (o:=ff [3] false) (v:=.int .i64 2) ⟨by rw [Ru 0];simp only [ak,true_and,and_true];exact decide_eq_false (by omega)⟩ (by simp [aZ,hl])
   by_cases k2:k=2
   ·subst k2
    by_cases hl:l=0
    ·exact go (o:=ff [3] true) (v:=.int .i64 0) ⟨by rw [Rh 0];simp only [ak,true_and,and_true];exact decide_eq_true (by omega)⟩ (by simp [aZ,hl])
    ·exact go (o:=ff [3] false) (v:=.int .i64 2) ⟨by rw [QW 0];simp only [ak,true_and,and_true];exact decide_eq_false (by omega)⟩ (by simp [aZ,hl])
   ·exact go (o:=ff (List.range 20) false) (v:=.int .i64 2) ⟨by rw [NB];simp only [ak,true_and,and_true];exact ⟨⟨beq_eq_false_iff_ne.2 k1,beq_eq_false_iff_ne.2 k0⟩,beq_eq_false_iff_ne.2 k2⟩⟩ (by simp [aZ,k0,k1,k2])
  ·cases h
 ·cases h
theorem Dt:dE Try.prog (fun _=>True) (27,kO):=by
 refine .mk ⟨_,Try.func27,by kernel_rfl,by kernel_rfl⟩ fun args v p h hp w hX=>?_
 dsimp only [kO] at h
 split at h
 ·rename_i x
  split at h
  ·rename_i k a l c hx
   cases h
   obtain rfl:x=#[.int .i64 k,.slice a l c]:=by cases x;simpa using hx
   have go:∀ {o v},uw (ax aL 27 100 (ch aL 27 [.v (.agg #[.int .i64 k,.slice a l c])]) o v)→v=.int .i64 (aZ k l)→Calls Try.prog 27 #[.agg #[.int .i64 k,.slice a l c]] w fun e w'=>Below w.heap.size w w'∧e=.returned (.int .i64 (aZ k l)):=fun h e=>
    e ▸ ek (E:=aL) (args:=[.v (.agg #[.int .i64 k,.slice a l c])]) (a:=[.agg #[.int .i64 k,.slice a l c]]) rfl rfl de (by kernel_rfl) (ay.cons (VR.ah.2 rfl) ay.nil) h
   by_cases k1:k=1
   ·subst k1
    by_cases hl:l≤4096
    ·exact go (o:=ff [16] false) (v:=.int .i64 0) ⟨by rw [Pk];simp only [ak,true_and,and_true];exact decide_eq_false (by omega)⟩ (by simp [aZ,hl])
    ·exact go (o:=ff [16] true) (v:=.int .i64 13) ⟨by rw [Pa];simp only [ak,true_and,and_true];exact decide_eq_true (by omega)⟩ (by simp [aZ,hl])
   by_cases k0:k=0
   ·subst k0
    by_cases hl:l=0
    ·exact go (o:=ff [15,16] false) (v:=.int .i64 0) ⟨by rw [Qc];simp only [ak,true_and,and_true];exact ⟨decide_eq_false (by omega),decide_eq_false (by omega)⟩⟩ (by simp [aZ,hl])
    ·exact go (o:=ff [15] true) (v:=.int .i64 2) ⟨by rw [Oi];simp only [ak,true_and,and_true];exact decide_eq_true (by omega)⟩ (by simp [aZ,hl])
   by_cases k2:k=2
   ·subst k2
    by_cases hl:l=0
    ·exact go (o:=ff [15,16] false) (v:=.int .i64 0) ⟨by rw [OD];simp only [ak,true_and,and_true];exact ⟨decide_eq_false (by omega),decide_eq_false (by omega)⟩⟩ (by simp [aZ,hl])
    ·exact go (o:=ff [15] true) (v:=.int .i64 2) ⟨by rw [Rw];simp only [ak,true_and,and_true];exact decide_eq_true (by omega)⟩ (by simp [aZ,hl])
   by_cases kn:k<0
   ·exact go (o:=ff (List.range 20) true) (v:=.int .i64 2) ⟨by rw [Ou];simp only [ak,decide_eq_true kn,and_self]⟩ (by simp [aZ,k0,k1,k2])
   ·have kg:k>2:=by omega
    exact go (o:=ff [0,1,2,3] false++ff (List.range 20) true) (v:=.int .i64 2) ⟨by rw [Oe];simp only [ak,decide_eq_false kn,decide_eq_true kg,and_self]⟩ (by simp [aZ,k0,k1,k2])
  ·cases h
 ·cases h
structure c5 where
 p:ByteArray
 v:Int
 k:Int
 a:Option Addr
 l:Nat
 c:Nat
def eC (e:c5):List SV:=[.v (.string e.p),.v (.int .u64 e.v),.v (.int .i64 e.k),.v (.slice e.a e.l e.c)]
def eV (e:c5):List Value:=[.string e.p,.int .u64 e.v,.int .i64 e.k,.slice e.a e.l e.c]
def cD (l:List SV):Option (SO × Bool):=some (.look l,false)
def aK:SV:=.v (.slice none 0 0)
def cE (l:List c5):List SV:=l.flatMap eC
def vE (l:List c5):List Value:=l.flatMap eV
theorem eF {ν:aU}:∀ {a:List Value} {u v:List Value},ay ν (a.map SV.v) u→ay ν (a.map SV.v) v→u=v
 | [],u,v,hu,hv=>by rw [ay.aB hu,ay.aB hv]
 | z::a,u,v,hu,hv=>by
  obtain ⟨p,ps,rfl,q1,q2⟩:=ay.cons_inv (x:=.v z) (xs:=a.map SV.v) hu
  obtain ⟨p',ps',rfl,q3,q4⟩:=ay.cons_inv (x:=.v z) (xs:=a.map SV.v) hv
  rw [VR.ah.1 q1,VR.ah.1 q3,eF q2 q4]
def Me (l:List SV):c5:=match l with
 | [.v (.string p),.v (.int _ v),.v (.int _ k),.v (.slice a l c)]=>⟨p,v,k,a,l,c⟩
 | _=>⟨⟨#[]⟩,0,0,none,0,0⟩
def MV (ys:List SV) (n:Nat):List c5:=z6 Me 4 n ys
structure NK (ys:List SV) (n:Nat) (l:List c5):Prop where
 cells:ys=cE l
 len:n=l.length
 few:n≤1000
def N5 (p:ByteArray) (e:c5):Bool:=e.p.data.toList==p.data.toList
def KV (p:ByteArray) (l:List c5):c5:=(l.find? (N5 p)).getD ⟨p,0,0,none,0,0⟩
def xr (p:ByteArray) (l:List c5):List c5:=l.filter fun e=>!N5 p e
theorem B2 {ν:aU} {i:Nat} {ys:List SV} {e:TypeId} {fz:Nat × Nat} {x:Option Nat} {ob:Obj} (h:OR ν i (.row ys e fz x) ob):OR ν i (.look ys) ob:=by
 obtain ⟨zs,rest,rfl,hz,_⟩:=h
 exact ⟨zs,_,_,_,rfl,hz,fun k y hk=>by simpa using getElem?_append_left' hk⟩
theorem wj {ν ν':aU} {i j:Nat} {ys:List SV} {ob:Obj} (hy:ys.all ab=true) (h:OR ν i (.look ys) ob):OR ν' j (.look ys) ob:=by
 obtain ⟨zs,c,e,fz,rfl,hz,hc⟩:=h
 exact ⟨zs,c,e,fz,rfl,gd hy hz,hc⟩
theorem lL {E:Env} {P:Program} (hP:E.P=P) (hG:E.G=[]) {f:FuncId} {ν:aU} {M:Own} {w0 w:World} {sh:SH} (hr:HR ν M w0 sh w) {i:Nat} {ys:List SV} {e:TypeId} {fz:Nat × Nat} {x:Option Nat} {mk:Bool} (hl:sh.look i=some (.row ys e fz x,mk)) (hy:ys.all ab=true)
  {a:List Value} {args':Nat→List SV} {S0:Nat→SM} {R:Ending→World→Prop} (hloc:∀ b,ν i=some b→ay (aE [b]) (args' b.2) a) (hS0:∀ c,bC E f (args' c) (bO 6 1 0 [some (.look ys,false)])=some (S0 c))
  (hs:∀ b cs0,af E (aT [b] [(.look ys,false)]) w cs0 f R (aE [b]) (S0 b.2)):Calls P f a.toArray w R:=by
 obtain ⟨_,_,b,ob,hb,ho,hor,_⟩:=hr.look hl
 refine aY (E:=E) hP (d:=6) (l:=[b]) (os:=[.look ys]) rfl (by simp) (by simp) ?_ hG (hS0 b.2) (hloc b hb) fun cs0=>hs b cs0
 intro j o' b' c' h1 h2
 match j with
 | 0=>
  simp only [List.getElem?_cons_zero,Option.some.injEq] at h1 h2
  subst h1
  subst h2
  exact ⟨_,ho,wj hy (B2 hor)⟩
 | j+1=>simp at h1
theorem fQ {b:Nat × Nat} {i:Nat} {x:Nat × Nat} (h:aE [b] i=some x):i=0:=by
 match i with
 | 0=>rfl
 | i+1=>simp [aE] at h
theorem kQ {b:Nat × Nat} {ys:List SV} (z:Nat):¬ (aT [b] [(SO.look ys,false)]) z:=a6 (os:=[_])
section
variable {w0:World} {cs0:List Frame} {R:Ending→World→Prop} {xs:List c5} {p:ByteArray} {b:Nat × Nat} {c:Nat}
end
section
variable {w0:World} {cs0:List Frame} {xs:List c5} {p:ByteArray} {b:Nat × Nat} {c:Nat}
end
def HU (x:c5):List c5→List c5
 | []=>[x]
 | e::l=>if ey e.p x.p>0 then x::e::l else e::HU x l
section
variable {w0:World} {cs0:List Frame} {xs:List c5} {x:c5} {b:Nat × Nat} {c:Nat}
end
abbrev wP:=c5 × Nat
def mC (e:wP):SV × SV × Nat:=(.v (.string e.1.p),.agg [.v (.string e.1.p),.v (.int .u64 e.1.v),.v (.int .i64 e.1.k),.v (.slice e.1.a e.1.l e.1.c)],e.2)
def zf (es:List (SV × SV × Nat)) (cl:Nat):Option (SO × Bool):=some (.map es cl,false)
theorem wx:∀ x y:List UInt8,eN y x=- eN x y
 | [],[]=>rfl
 | [],_::_=>rfl
 | _::_,[]=>rfl
 | a::l,b::m=>by
  unfold eN
  by_cases h1:a<b
  ·rw [if_pos h1,if_neg (Hu h1),if_pos h1];rfl
  ·by_cases h2:b<a
   ·rw [if_pos h2,if_neg h1,if_pos h2]
   ·rw [if_neg h1,if_neg h2,if_neg h2,if_neg h1];exact wx l m
theorem rZ:∀ {x y z:List UInt8},eN x y<0→eN y z≤0→eN x z<0
 | [],[],_,h,_=>by simp [eN] at h
 | [],_::_,[],_,k=>by simp [eN] at k
 | [],_::_,_::_,_,_=>by simp [eN]
 | _::_,[],_,h,_=>by simp [eN] at h
 | _::_,_::_,[],_,k=>by simp [eN] at k
 | a::l,b::m,c::n,h,k=>by
  unfold eN at h k ⊢
  by_cases h1:a<b
  ·by_cases k1:b<c
   ·have:a<c:=by rw [UInt8.lt_iff_toNat_lt] at *;omega
    rw [if_pos this];decide
   ·by_cases k2:c<b
    ·rw [if_neg k1,if_pos k2] at k;exact absurd k (by decide)
    ·obtain rfl:=wo k1 k2
     rw [if_pos h1];decide
  ·by_cases h2:b<a
   ·rw [if_neg h1,if_pos h2] at h;exact absurd h (by decide)
   ·obtain rfl:=wo h1 h2
    rw [if_neg h1,if_neg h2] at h
    by_cases k1:a<c
    ·rw [if_pos k1];decide
    ·by_cases k2:c<a
     ·rw [if_neg k1,if_pos k2] at k;exact absurd k (by decide)
     ·rw [if_neg k1,if_neg k2] at k ⊢
      exact rZ h k
theorem AJ:∀ x y:List (List UInt8),oE y x=- oE x y
 | [],[]=>rfl
 | [],_::_=>rfl
 | _::_,[]=>rfl
 | a::l,b::m=>by
  unfold oE
  rw [wx a b]
  by_cases h:eN a b=0
  ·rw [if_pos h,if_pos (by omega)];exact AJ l m
  ·rw [if_neg h,if_neg (by omega)]
theorem CU:∀ {x y:List (List UInt8)},oE x y=0→x=y
 | [],[],_=>rfl
 | [],_::_,h=>by simp [oE] at h
 | _::_,[],h=>by simp [oE] at h
 | a::l,b::m,h=>by
  unfold oE at h
  by_cases h1:eN a b=0
  ·rw [if_pos h1] at h;rw [oK h1,CU h]
  ·rw [if_neg h1] at h;exact absurd h h1
theorem tI:∀ {x y z:List (List UInt8)},oE x y<0→oE y z<0→oE x z<0
 | [],[],_,h,_=>by simp [oE] at h
 | [],_::_,[],_,k=>by simp [oE] at k
 | [],_::_,_::_,_,_=>by simp [oE]
 | _::_,[],_,h,_=>by simp [oE] at h
 | _::_,_::_,[],_,k=>by simp [oE] at k
 | a::l,b::m,c::n,h,k=>by
  unfold oE at h k ⊢
  by_cases h1:eN a b=0
  ·rw [if_pos h1] at h
   obtain rfl:=oK h1
   by_cases k1:eN a c=0
   ·rw [if_pos k1] at k ⊢;exact tI h k
   ·rw [if_neg k1] at k ⊢;exact k
  ·rw [if_neg h1] at h
   by_cases k1:eN b c=0
   ·obtain rfl:=oK k1
    rw [if_neg h1];exact h
   ·rw [if_neg k1] at k
    have:=rZ h (Int.le_of_lt k)
    rw [if_neg (by omega)];exact this
theorem qJ (a b:ByteArray):ey a b=oE (aw a.data.toList) (aw b.data.toList):=(vD (a.size+1) a b (by omega)).symm
theorem fC (a b:ByteArray):ey b a=- ey a b:=by rw [qJ,qJ,AJ]
theorem gj {a b c:ByteArray} (h:ey a b<0) (k:ey b c<0):ey a c<0:=by
 rw [qJ] at *;exact tI h k
def J1 (f e:wP):Prop:=e.1.v>f.1.v∨(e.1.v=f.1.v∧ey f.1.p e.1.p<0)
structure HA (E:List wP) (cl:Nat):Prop where
 names:(E.map fun e=>e.1.p).Nodup
 borns:(E.map fun e=>e.2).Nodup
 born:∀ e∈E,e.2<cl
 full:∀ e∈E,e.1.p≠⟨#[]⟩
 size:∀ e∈E,e.1.p.size≤1000000000
theorem lS {α β:Type} {f:α→β} {l:List α} (h:(l.map f).Nodup) {i j:Nat} {a b:α} (ha:l[i]?=some a) (hb:l[j]?=some b) (e:f a=f b):i=j:=by
 obtain ⟨hi,rfl⟩:=List.getElem?_eq_some_iff.1 ha
 obtain ⟨hj,rfl⟩:=List.getElem?_eq_some_iff.1 hb
 refine (List.getElem_inj (h₀:=by simpa using hi) (h₁:=by simpa using hj) h).1 ?_
 simpa using e
def GA (E:List wP) (best:ByteArray):Prop:=
 (best=⟨#[]⟩∧∀ x∈E,x.1.k≠0)∨(∃ x∈E,x.1.p=best∧x.1.k=0∧∀ y∈E,y.1.k=0→¬ J1 y x)
theorem iw {l:List Nat} {x:Nat}:(l++[x]).getLast?=some x:=by simp
section
variable {w0:World} {cs0:List Frame} {R:Ending→World→Prop} {E:List wP} {s:Int} {cl:Nat} {M:Own}
end
theorem mJ:∀ {l m:List UInt8},aw l=aw m→l=m
 | [],[],_=>rfl
 | [],b::m,h=>by
  exfalso
  unfold aw at h
  split at h
  ·have:=cO m
   cases hp:aw m with
   | nil=>exact this hp
   | cons x xs=>rw [hp] at h;simp at h
  ·split at h <;> simp at h
 | b::l,[],h=>by
  exfalso
  unfold aw at h
  split at h
  ·have:=cO l
   cases hp:aw l with
   | nil=>exact this hp
   | cons x xs=>rw [hp] at h;simp at h
  ·split at h <;> simp at h
 | b::l,c::m,h=>by
  have nl:=cO l
  have nm:=cO m
  unfold aw at h
  by_cases hb:b=47
  ·by_cases hc:c=47
   ·rw [if_pos hb,if_pos hc] at h
    rw [hb,hc,mJ (List.cons.inj h).2]
   ·rw [if_pos hb,if_neg hc] at h
    cases hp:aw m with
    | nil=>exact absurd hp nm
    | cons x xs=>rw [hp] at h;simp at h
  ·by_cases hc:c=47
   ·rw [if_neg hb,if_pos hc] at h
    cases hp:aw l with
    | nil=>exact absurd hp nl
    | cons x xs=>rw [hp] at h;simp at h
   ·rw [if_neg hb,if_neg hc] at h
    cases hp:aw l with
    | nil=>exact absurd hp nl
    | cons x xs=>
     cases hq:aw m with
     | nil=>exact absurd hq nm
     | cons y ys=>
      rw [hp,hq] at h
      simp only [List.cons.injEq] at h
      obtain ⟨⟨h1,h2⟩,h3⟩:=h
      rw [h1,mJ (l:=l) (m:=m) (by rw [hp,hq,h2,h3])]
theorem iD {a b:ByteArray} (h:ey a b=0):a=b:=by
 rw [qJ] at h
 have:=mJ (CU h)
 cases a;cases b;congr 1;exact Array.toList_inj.1 this
noncomputable def NT (es:List (SV × SV × Nat)):ByteArray:=@Classical.epsilon _ ⟨⟨#[]⟩⟩ fun best=>∃ E,es=E.map mC∧GA E best
def MY (es:List (SV × SV × Nat)) (cl:Nat):Prop:=∃ E:List wP,es=E.map mC∧HA E cl
def Ko (acc:Option c5) (e:c5):Option c5:=if e.k=0 then (match acc with | none=>some e | some f=>if e.v<f.v then some e else some f) else acc
def JU (l:List c5):Option c5:=l.foldl Ko none
def MK (xs:List c5) (x:c5):List c5 × Int:=
 if JP x.p x.v x.k x.l≠0 then (xs,JP x.p x.v x.k x.l)
 else if (KV x.p xs).v≥x.v then (xs,31)
 else if (xr x.p xs).length≥256 then (match JU (xr x.p xs) with
  | none=>(xs,24)
  | some b=>(HU x (xr b.p (xr x.p xs)),0))
 else (HU x (xr x.p xs),0)
section
variable {w0:World} {cs0:List Frame} {xs m:List c5} {x:c5} {b:Nat × Nat} {s:Int}
end
structure N9 (xs:List c5) (x:c5):Prop where
 p:x.p.size≤1000000000
 v:0≤x.v∧x.v<18446744073709551616
 names:(xs.map fun e=>e.p).Nodup
 size:∀ e∈xs,e.p.size≤1000000000
theorem wY {ν ν':aU} {i j:Nat} {ys:List SV} {e:TypeId} {fz:Nat × Nat} {C:Nat} {ob:Obj} {b:Nat × Nat} (hy:ys.all ab=true) (hi:ν i=some b) (hj:ν' j=some b) (h:OR ν i (.row ys e fz (some C)) ob):OR ν' j (.row ys e fz (some C)) ob:=by
 obtain ⟨zs,rest,rfl,hz,r,b',hb',hsz⟩:=h
 rw [hi] at hb';cases hb'
 exact ⟨zs,rest,rfl,gd hy hz,r,b,hj,hsz⟩
def Ai:Go.Shelf.Ren:=⟨fun | 4=>52 | n=>n,fun | 22=>37 | 4=>4 | 5=>5 | n=>n,fun | n=>n⟩
theorem CC:Go.Proofs.SlLaysK.n4 Try.prog Ai where
 mixed:=by kernel_rfl
 f4:=Try.func52.trans (congrArg some (by kernel_rfl))
 t4:=Try.underlying4
 a4:=Try.isAgg4
 z4:=Try.sizeOf4
 v4:=Try.zeroValue4
 t22:=Try.underlying37
 a22:=Try.isAgg37
 z22:=Try.sizeOf37
 v22:=Try.zeroValue37
 t5:=Try.underlying5
 i5:=by kernel_rfl

def Iy (a0:Option Addr) (l0 c0:Nat) (ys:List Int):GX:=fun args _=>match args with
 | [.v (.slice a l c)]=>some (ys.map (Value.int .u8),l,1,5,none,(a=a0∧l=l0∧c=c0)∧a≠none)
 | _=>none
def I9:Co:=fun args _=>match args with
 | [.v (.slice a l c)]=>some (.slice none 0 0,a=none)
 | _=>none
def IP (a0:Option Addr) (l0 c0:Nat) (ys:List Int):List (FuncId × Sum):=[(52,jM (gh (Iy a0 l0 c0 ys)) (eE I9))]
noncomputable def yM (a0:Option Addr) (l0 c0:Nat) (ys:List Int):Env:={ EP [] [] with sums:=fun f=>(IP a0 l0 c0 ys).lookup f }
def fV (W:World) (a:Option Addr) (l:Nat) (ys:List Int):Prop:=ys.length=l∧l≤140737488355328∧∀ b,a=some b→∀ i,i<l→∀ W':World,(∀ k,k<W.heap.size→W'.heap[k]?=W.heap[k]?)→W'.cell? (b.add i)=some (.int .u8 (ys.getD i 0))
theorem BT {W:World} {a0:Option Addr} {l0 c0:Nat} {ys:List Int} (hD:fV W a0 l0 ys):
  cr Try.prog (fun w=>∀ k,k<W.heap.size→w.heap[k]?=W.heap[k]?) (52,jM (gh (Iy a0 l0 c0 ys)) (eE I9)):=by
 refine cr.br (iG ⟨_,Try.func52,by kernel_rfl,by kernel_rfl⟩ fun args sh zs n C elem ex p h hp ν M w0 w a hr hX ha=>?_) (fP ⟨_,Try.func52,by kernel_rfl,by kernel_rfl⟩ fun args sh v p h hp ν M w0 w a hr hX ha=>?_)
 ·dsimp only [Iy] at h
  split at h
  ·rename_i a1 l1 c1
   cases h
   obtain ⟨⟨rfl,rfl,rfl⟩,hne⟩:=hp
   obtain ⟨y1,as1,rfl,q1,ha2⟩:=ha.cons_inv
   obtain rfl:=ha2.aB
   obtain rfl:=VR.ah.1 q1
   cases a1 with
   | none=>exact absurd rfl hne
   | some b=>
    obtain ⟨h1,h2,h3⟩:=hD
    refine (Any.bytes_Clone_at CC b n c1 ys w h1 h2 fun i hi=>h3 b rfl i hi w hX).mono fun e w' ⟨v',he,⟨hlen,ho⟩,hv,hB⟩=>⟨hB,v',he,?_⟩
    rcases ho with ⟨h0,_⟩ | ⟨g,cap,cur,rfl,hg,hh,hnc,_,hsz,hcur⟩
    ·exact absurd h0 hv
    ·refine ⟨g,cap,cur.toList.drop n,rfl,hg,hnc,?_,?_⟩
     ·rw [hh,← hcur,Nat.mul_one,List.take_append_drop];rfl
     ·rw [← hcur,Nat.mul_one,List.take_append_drop];simpa using hsz
  ·cases h
 ·dsimp only [I9] at h
  split at h
  ·rename_i a1 l1 c1
   cases h
   subst hp
   obtain ⟨y1,as1,rfl,q1,ha2⟩:=ha.cons_inv
   obtain rfl:=ha2.aB
   obtain rfl:=VR.ah.1 q1
   exact (Any.bytes_Clone_nil CC l1 c1 w).mono fun e w' ⟨he,hw⟩=>⟨by rw [hw];exact Below.refl _ _,he⟩
  ·cases h
theorem Kn {M:Own} {w0:World} (hM:∀ z,¬ M z) {x:c5} {ys:List Int} (hD:fV w0 x.a x.l ys):aW (yM x.a x.l x.c ys) M w0:=
 aW.Bg (Checked.mixed Try.checked) (by kernel_rfl) (gu.of ke rfl eY) (ep.list (X:=fun w=>∀ k,k<w0.heap.size→w.heap[k]?=w0.heap[k]?) (l:=IP x.a x.l x.c ys) rfl (fun r h=>by
  simp only [IP,List.mem_cons,List.not_mem_nil,or_false] at h
  rcases h with rfl
  exact BT hD) fun ν s w hr _=>fun k hk=>hr.frame k hk (hM k)) (fun f g h=>by cases h)
theorem C1 {ν:aU} {ys:List Int} {zs:List Value} (h:ay ν (List.map SV.v (List.map (Value.int .u8) ys)) zs):zs=ys.map (Value.int .u8):=eF h (ay.lits ν _)
theorem dg (ys:List Int):(List.map SV.v (List.map (Value.int .u8) ys)).all ab=true:=by
 rw [List.all_eq_true];intro x hx
 obtain ⟨v,_,rfl⟩:=List.mem_map.1 hx
 rfl
theorem pE (a:ByteArray):ey a a=0:=by have:=fC a a;omega
section
variable {E:List wP} {cl:Nat} {xs:List c5} {x:c5} {cm ys:c5→List Int}
theorem kK {α:Type} {g:α→α}:∀ {l:List α} {j:Nat} {f:α},l[j]?=some f→(l.modify j g).Perm (g f::l.eraseIdx j)
 | [],j,f,h=>by simp at h
 | a::l,0,f,h=>by
  simp at h;subst h
  simp
 | a::l,j+1,f,h=>by
  have ih:=kK (g:=g) (l:=l) (j:=j) (f:=f) (by simpa using h)
  simp only [List.modify_succ_cons,List.eraseIdx_cons_succ]
  exact (ih.cons a).trans (List.Perm.swap _ _ _)
theorem na {α β:Type} {h:α→β} {g:α→α}:∀ {l:List α} {j:Nat} {f:α},l[j]?=some f→h (g f)=h f→(l.modify j g).map h=l.map h
 | [],j,f,e,_=>by simp at e
 | a::l,0,f,e,k=>by simp at e;subst e;simp [k]
 | a::l,j+1,f,e,k=>by simp [na (l:=l) (j:=j) (f:=f) (by simpa using e) k]
theorem iK {α:Type} {g:α→α} {l:List α} {j:Nat} {f e:α} (h:l[j]?=some f) (he:e∈l.modify j g):e=g f∨e∈l:=by
 rcases List.mem_cons.1 ((kK h).mem_iff.1 he) with h | h
 ·exact .inl h
 ·exact .inr (List.mem_of_mem_eraseIdx h)
end
theorem fV.keep {w0 w:World} {a:Option Addr} {l:Nat} {ys:List Int} (h:fV w0 a l ys) (hk:∀ k,k<w0.heap.size→w.heap[k]?=w0.heap[k]?):fV w a l ys:=by
 obtain ⟨h1,h2,h3⟩:=h
 refine ⟨h1,h2,fun b hb i hi W' hW=>h3 b hb i hi W' fun k hk0=>?_⟩
 rw [← hk k hk0]
 refine hW k ?_
 have h4:=hk k hk0
 rw [Array.getElem?_eq_getElem hk0] at h4
 exact (Array.getElem?_eq_some_iff.1 h4).1
theorem LQ {P:Program} {X Y:World→Prop} {r:FuncId × Sum} (h:cr P X r) (hXY:∀ w,Y w→X w):cr P Y r:=
 ⟨h.1,fun args x s s' hx ob=>⟨(h.2 args x s s' hx ob).1,fun ν M w0 w a hr hY ha=>(h.2 args x s s' hx ob).2 ν M w0 w a hr (hXY w hY) ha⟩⟩
theorem cT {α β:Type} (f:α→β):∀ (l:List α) (j:Nat),(l.map f).eraseIdx j=(l.eraseIdx j).map f
 | [],j=>by simp
 | a::l,0=>by simp
 | a::l,j+1=>by simp [cT f l j]
theorem aV (a:ByteArray):(a==a)=true:=by
 show (a.data==a.data)=true
 exact beq_self_eq_true _
def nN (H:Hp) (e:c5) (zs:List Int):Prop:=(e.a=none∧e.l=0∧zs=[])∨∃ b rest,e.a=some ⟨b,0,none⟩∧H b=some (.cells ((zs.map (Value.int .u8))++rest).toArray 5 (0,0))∧zs.length=e.l
def Nv:Value→Int | .int _ n=>n | _=>0
section
variable {w0:World} {cs0:List Frame} {D:List c5} {ys:c5→List Int} {M:Own} {off c:Nat} {ν:aU}
end
section
variable {w0:World} {cs0:List Frame} {D:List c5} {ys:c5→List Int} {M:Own} {off c:Nat} {ν:aU}
theorem jV (hM:∀ z,¬ M z) {M1 M3:Own} {w1 w3:World} {H:Hp} (hk:Kept w0.hp M w0 H M1 w1) {b:Nat} (h:w1.heap.size≤b∨M1 b):w0.heap.size≤b:=by
 rcases hk.base.own _ h with h | h
 ·exact h
 ·exact absurd h (hM _)
end
section
variable {M:Own} {w0:World} {cs0:List Frame} {R:Ending→World→Prop} {ν:aU} {xs:List c5} {off c:Nat}
end
section
variable {H:Type} {enc:TypeId × Value→H} {P:Program} {W:World} {base:Nat} {spare:Nat→Bool} {held:Bool}
theorem gP {t ft:TypeId} {i o k n:Nat} {cs:List Value} {x:DataW H × List MemPlace} (h:DataW.trod enc P W base spare held n t cs=some x) (hs:P.underlying t=some (.struct (structFields P t))) (hf:(structFields P t)[i]?=some (fieldAt P t i))
  (ho:(fieldAt P t i).offset=o) (hty:(fieldAt P t i).type=ft) (hk:P.cellsOf ft=k):∃ n' y,DataW.trod enc P W base spare held n' ft ((cs.drop o).take k)=some y∧∀ q∈y.1.weights P ft,q∈x.1.weights P t:=by
 subst ho hty hk
 obtain ⟨xs,n',_,hx,_,hlen,hg⟩:=DataW.trod_struct hs h
 have hi:i<xs.length:=by rw [hlen];exact (Array.getElem?_eq_some_iff.1 hf).1
 have:=hg i _ hf
 rw [List.getElem?_eq_getElem hi] at this
 refine ⟨n',_,this,fun q hq=>?_⟩
 rw [hx]
 unfold DataW.weights
 rw [hs]
 refine DataW.weights_mem_each (j:=i) (t:=(fieldAt P t i).type) (d:=xs[i].1) ?_ (by simp [hi]) q hq
 rw [List.getElem?_map,Array.getElem?_toList,hf];rfl
theorem Dy {e:TypeId}:∀ {l:List (DataW H)} {d:DataW H},d∈l→∀ {q:Nat},q∈d.weights P e→q∈DataW.weightsAll P e l
 | x::l,d,hd,q,hq=>by
  unfold DataW.weightsAll
  rcases List.mem_cons.1 hd with rfl | hd
  ·exact List.mem_append_left _ hq
  ·exact List.mem_append_right _ (Dy hd hq)
theorem we {α:Type} {h:α→List Value} {C:Nat} (hC0:0<C) (hh:∀ r,(h r).length=C) {t e:TypeId} {a:Option Addr} {l c n:Nat} {x:DataW H × List MemPlace}
  (hform:∀ (vs:List Value) (n:Nat) (y:DataW H × List MemPlace),DataW.trod enc P W base spare held n e vs=some y→(∀ q∈y.1.weights P e,q∈x.1.weights P t)→∃ r,vs=h r)
  (ht:P.underlying t=some (.slice e)) (hC:P.cellsOf e=C) (hd:DataW.trod enc P W base spare held n t [.slice a l c]=some x):Al h W a l c:=by
 rcases Deep.open_slice ht hd with ⟨h0,_⟩ | ⟨a',len,cap,m,n',D,Pl,hcs,hb,hl,hm,hmm,hxx,hi⟩
 ·cases h0;exact ⟨⟨Nat.le_refl _,Nat.zero_le _⟩,.inl rfl⟩
 ·cases hcs
  refine ⟨⟨hl,hm⟩,?_⟩
  by_cases hl0:l=0
  ·exact .inl hl0
  right
  have hlm:l≤m:=by rw [hmm];split <;> omega
  have hel:∀ i,i<l→∃ r:α,∀ j,j<C→W.cell? (a'.add (i*C+j))=(h r)[j]?:=by
   intro i hil
   obtain ⟨cs',hc,htr⟩:=hi i (by omega)
   rw [hC] at hc
   obtain ⟨_,hcl,hat⟩:=World.cells?_some hc
   obtain ⟨r,hr⟩:=hform cs' _ _ htr fun q hq=>by
    rw [hxx]
    unfold DataW.weights
    rw [ht]
    exact List.mem_cons_of_mem _ (List.mem_append_left _ (Dy (List.mem_map.2 ⟨i,List.mem_range.2 hil,rfl⟩) hq))
   refine ⟨r,fun j hj=>?_⟩
   have:=hat j hj
   rw [← hr,← this,Deep.add_add]
  obtain ⟨F,hF⟩:∃ F:Nat→α,∀ i,i<l→∀ j,j<C→W.cell? (a'.add (i*C+j))=(h (F i))[j]?:=by
   obtain ⟨r0,_⟩:=hel 0 (by omega)
   refine ⟨fun i=>if hi:i<l then Classical.choose (hel i hi) else r0,fun i hi=>?_⟩
   simp only [dif_pos hi]
   exact Classical.choose_spec (hel i hi)
  have h00:=hF 0 (by omega) 0 hC0
  have hv0:∃ v,(h (F 0))[0]?=some v:=⟨_,List.getElem?_eq_getElem (by rw [hh];exact hC0)⟩
  obtain ⟨v0,hv0⟩:=hv0
  rw [hv0,Nat.zero_mul,Nat.add_zero] at h00
  have ha0:a'.add 0=a':=by simp [Addr.add]
  rw [ha0] at h00
  unfold World.cell? at h00
  split at h00
  ·rename_i cs el fz hheap
   have hsp:a'.spot=none:=by
    cases hs:a'.spot with
    | none=>rfl
    | some s=>rw [hs] at h00;simp at h00
   rw [hsp] at h00
   simp only [Option.isSome_none,Bool.false_eq_true,if_false] at h00
   have hoff:=(Array.getElem?_eq_some_iff.1 h00).1
   obtain ⟨b,off,sp⟩:=a'
   simp only at hsp hheap hoff
   subst hsp
   refine ⟨b,off,(List.range l).map F,cs,el,fz,rfl,by simp,hheap,by omega,fun k v hk=>?_⟩
   obtain ⟨x,h1,h2⟩:=qc hC0 hh hk
   rw [List.getElem?_map] at h1
   obtain ⟨i,h3,rfl⟩:=Option.map_eq_some_iff.1 h1
   obtain ⟨hlt,h3⟩:=List.getElem?_eq_some_iff.1 h3
   rw [List.getElem_range] at h3
   simp only [List.length_range] at hlt
   subst h3
   have:=hF (k / C) hlt (k % C) (Nat.mod_lt _ hC0)
   rw [h2] at this
   have e:k / C*C+k % C=k:=by rw [Nat.mul_comm];exact Nat.div_add_mod k C
   rw [e,cY,dB hheap] at this
   exact this
  ·cases h00
theorem rT:∀ xs:List { n:Int // 0≤n∧n<256 },(xs.flatMap fun r=>[Value.int .u8 r.1])=xs.map fun r=>Value.int .u8 r.1
 | []=>rfl
 | x::xs=>by rw [List.flatMap_cons,rT xs];rfl
theorem Dg {t e:TypeId} {a:Option Addr} {l c n:Nat} {x:DataW H × List MemPlace} (ht:P.underlying t=some (.slice e)) (he:P.underlying e=some (.int .u8)) (hC:P.cellsOf e=1) (hB:P.bytesOf e=1)
  (hd:DataW.trod enc P W base spare held n t [.slice a l c]=some x) (hw:∀ q∈x.1.weights P t,q≤reachBytes):(a=none→l=0)∧l≤reachBytes∧∃ ys:List Int,fV W a l ys∧∀ y∈ys,0≤y∧y<256:=by
 have hr:Al (fun r:{ n:Int // 0≤n∧n<256 }=>[Value.int .u8 r.1]) W a l c:=we (C:=1) (by decide) (fun _=>rfl) (fun vs n' y h _=>by
  obtain ⟨n1,hn1,_,hwf⟩:=DataW.trod_int he h
  have:0≤n1∧n1<256:=by
   have:=hwf
   simp [Lit.wf,IntKind.has,IntKind.min,IntKind.max,IntKind.bits,IntKind.signed] at this
   omega
  exact ⟨⟨n1,this⟩,hn1⟩) ht hC hd
 have hlen:(a=none→l=0)∧l≤reachBytes:=by
  rcases Deep.open_slice ht hd with ⟨h0,_⟩ | ⟨a',len,cap,m,n',D,Pl,hcs,hb,hl,hm,hmm,hxx,hi⟩
  ·cases h0;exact ⟨fun _=>rfl,Nat.zero_le _⟩
  ·cases hcs
   refine ⟨fun h=>(nomatch h),?_⟩
   have:=hw (((List.range l).map D).length*1+(((List.range (m - l)).map fun j=>D (l+j)).length)*1) (by
    rw [hxx]
    unfold DataW.weights
    rw [ht]
    dsimp only
    rw [hB,← Nat.add_mul]
    exact List.mem_cons_self)
   simp only [List.length_map,List.length_range] at this
   omega
 refine ⟨hlen.1,hlen.2,?_⟩
 have hr0:reachBytes≤140737488355328:=by decide
 obtain ⟨_,rfl | ⟨b,off,xs,cs,e',fz,rfl,rfl,hh,hoff,hc⟩⟩:=hr
 ·exact ⟨[],⟨rfl,Nat.zero_le _,fun b _ i hi=>absurd hi (by omega)⟩,fun y hy=>(nomatch hy)⟩
 ·refine ⟨xs.map (·.1),⟨by simp,Nat.le_trans hlen.2 hr0,fun b' hb' i hi W' hW=>?_⟩,fun y hy=>?_⟩
  ·cases hb'
   have hlt:=(Array.getElem?_eq_some_iff.1 hh).1
   have h1:(xs.flatMap fun r=>[Value.int .u8 r.1])[i]?=some (.int .u8 ((xs.map (·.1)).getD i 0)):=by
    have:=rT xs
    rw [this,List.getElem?_map,List.getElem?_eq_getElem hi]
    simp [List.getD_eq_getElem?_getD,hi]
   have h2:=hc i _ h1
   rw [cY,dB (by rw [hW b hlt];exact hh)]
   exact h2
  ·obtain ⟨r,_,rfl⟩:=List.mem_map.1 hy
   exact r.2
end
section
variable {H:Type} {enc:TypeId × Value→H} {W:World} {base:Nat} {spare:Nat→Bool} {held:Bool}
end
theorem vy {H:Type} {P:Program} {ts:List TypeId} {ds:List (DataW H)} (h:(DataW.weightsEach P ts ds).all (·≤reachBytes)=true) {j:Nat} {t:TypeId} {d:DataW H} (ht:ts[j]?=some t) (hd:ds[j]?=some d):∀ q∈d.weights P t,q≤reachBytes:=fun q hq=>by
 simpa using List.all_eq_true.1 h q (DataW.weights_mem_each ht hd q hq)
def NF:Value→Nat | .string s=>s.size | _=>0
theorem Nr (s:ByteArray) (m:Int) (w:World) (hs:s.size≤1000000000) (hm:w.cell? ⟨0,0,none⟩=some (.int .i64 m)):Calls Try.prog 56 #[.string s,.string ⟨#[47]⟩] w fun e w'=>e=.returned (.tuple #[.string (cA s),.string (cB s),.bool (cM s)])∧∃ n,w'=w.drewN n:=
 Any.strings_Cut { vH with } s bF m w (by omega) hm
theorem isNaN (s:ByteArray) (w:World):Calls Try.prog 77 #[.string s] w fun e w'=>e=.returned (.bool false)∧w=w':=by
 go_enter Try.func77,Try.ntmps77
 go_wp2
 go_ret
 exact ⟨by simp,rfl⟩
theorem JL (x y:ByteArray) (w:World):Calls Try.prog 57 #[.string x,.string y] w fun e w'=>e=.returned (.int .i64 (wz x y))∧w=w':=by
 go_enter Try.func57,Try.ntmps57
 go_wp2_with (go_at_call 77;refine (isNaN _ _).mono ?_;rintro e w' ⟨rfl,rfl⟩)
 all_goals
  go_ret
  refine ⟨?_,rfl⟩
  simp_all [wz]
theorem Rt (b:Bool) (w:World):Calls Try.prog 58 #[.bool b] w fun e w'=>e=.returned (.int .i64 (if b then 1 else 0))∧w=w':=by
 cases b
 ·go_enter Try.func58,Try.ntmps58
  go_wp2
  go_ret
  exact ⟨rfl,rfl⟩
 ·go_enter Try.func58,Try.ntmps58
  go_wp2
  go_ret
  exact ⟨rfl,rfl⟩
def KS (z:Int) (w:World) (e:Ending) (w':World):Prop:=e=.returned (.int .i64 z)∧∃ n,w'=w.drewN n
theorem ug:∀ (n m:Nat) (a b:ByteArray),a.size<n→a.size<m→xI n a b=xI m a b
 | 0,_,_,_,h,_=>absurd h (Nat.not_lt_zero _)
 | _+1,0,_,_,_,h=>absurd h (Nat.not_lt_zero _)
 | n+1,m+1,a,b,h1,h2=>by
  unfold xI
  by_cases hc:cM a=true∧cM b=true
  ·have:=AO a hc.1
   rw [if_pos hc,if_pos hc,ug n m (cB a) (cB b) (by omega) (by omega)]
  ·rw [if_neg hc,if_neg hc]
theorem tR (a b:ByteArray):ey a b=if (cA a).data.toList=(cA b).data.toList then (if cM a=true∧cM b=true then ey (cB a) (cB b) else Hd (cM a) - Hd (cM b)) else wz (cA a) (cA b):=by
 unfold ey
 conv=>lhs;unfold xI
 by_cases hc:cM a=true∧cM b=true
 ·have:=AO a hc.1
  rw [if_pos hc,if_pos hc,ug a.size ((cB a).size+1) (cB a) (cB b) (by omega) (by omega)]
 ·rw [if_neg hc,if_neg hc]
theorem J9 {x y:ByteArray} (h:(!(x.toList==y.toList))=true):¬ x.data.toList=y.data.toList:=fun e=>by
 have:x=y:=by cases x;cases y;congr 1;exact Array.toList_inj.1 e
 rw [this] at h;simp at h
theorem Ho {x y:ByteArray} (h:(!(x.toList==y.toList))=false):x.data.toList=y.data.toList:=by
 have h:x.toList=y.toList:=by simpa using h
 rwa [oP,oP] at h
theorem Nu (a b : ByteArray) (m : Int) (w : World) (ha : a.size ≤ 1000000000) (hb : b.size ≤ 1000000000) (hm : w.cell? ⟨0, 0, none⟩ = some (.int .i64 m)) : Calls Try.prog 40 #[.string a, .string b] w (KS (ey a b) w) := by
  go_enter Try.func40, Try.ntmps40
  go_wp2
  go_loopw [0, 1] (fun x y wr => ∃ (a' b' : ByteArray) (n : Nat), x = .string a' ∧ y = .string b' ∧ a'.size ≤ 1000000000 ∧ b'.size ≤ 1000000000 ∧ ey a' b' = ey a b ∧ wr = w.drewN n) (fun x _ _ => NF x)
  case atStart => exact ⟨a, b, 0, rfl, rfl, ha, hb, rfl, rfl⟩
  case round =>
    obtain ⟨a', b', n, rfl, rfl, ha', hb', hc, rfl⟩ := hrel
    have HC := Lib.hid hc
    clear hc
    have hm' : (w.drewN n).cell? ⟨0, 0, none⟩ = some (.int .i64 m) := hm
    go_wp2_with (first
      | (go_at_call 56; refine (Nr _ m _ (by assumption) (by exact hm)).mono ?_; rintro e w' ⟨rfl, n1, rfl⟩)
      | (go_at_call 57; refine (JL _ _ _).mono ?_; rintro e w' ⟨rfl, rfl⟩)
      | (go_at_call 58; refine (Rt _ _).mono ?_; rintro e w' ⟨rfl, rfl⟩))
    all_goals first
      | (go_ret
         refine ⟨?_, _, rfl⟩
         rw [← HC.out, tR]
         first
           | (rw [if_neg (J9 (by assumption))]; rfl)
           | (rw [if_pos (Ho (by assumption)), if_neg (by simp_all)]; simp_all [Hd]))
      | (refine ⟨⟨cB a', cB b', _, rfl, rfl, Nat.le_trans (jm _) ha', Nat.le_trans (jm _) hb', ?_, rfl⟩, AO _ (by assumption)⟩
         rw [← HC.out, tR a' b', if_pos (Ho (by assumption)), if_pos (by simp_all)])
end paths
end Go.Proofs.Ytbjmmnegkpeboaa
set_option linter.unusedSimpArgs false
set_option linter.unusedVariables false
set_option maxRecDepth 100000
namespace Go.Proofs.Ytbjmmnegkpeboaa
open Go Go.Rx Go.RowKit Go.Proofs Go.Sort
namespace paths
def zM:Go.Shelf.Ren:=⟨fun | 6=>39 | 15=>55 | 14=>54 | 28=>74 | 29=>75 | 20=>66 | 21=>67 | 22=>68 | 23=>69 | 24=>70 | 25=>71 | 26=>72 | 27=>73 | 46=>82 | 47=>83 | 48=>84 | 49=>85 | 50=>86 | 57=>90 | n=>n,fun | 22=>34 | 24=>9 | 25=>75 | 3=>3 | 39=>90 | 0=>0 | 53=>108 | 55=>110 | 4=>4 | 46=>101 | 45=>100 | 50=>105 | 5=>5 | 9=>9 | 66=>111 | 70=>115 | 76=>117 | 77=>118 | n=>n,fun | n=>n⟩
theorem EW:Go.Proofs.SlLaysF.n6 Try.prog zM where
 mixed:=by kernel_rfl
 f6 := ⟨ "slices.SortFunc[[]string,string]", by decide, Try.func39.trans (congrArg some (by kernel_rfl))⟩
 f14 := ⟨ "slices.pdqsortCmpFunc[string]", by decide, Try.func54.trans (congrArg some (by kernel_rfl))⟩
 f15:=Try.func55.trans (congrArg some (by kernel_rfl))
 f20 := ⟨ "slices.insertionSortCmpFunc[string]", by decide, Try.func66.trans (congrArg some (by kernel_rfl))⟩
 f21 := ⟨ "slices.heapSortCmpFunc[string]", by decide, Try.func67.trans (congrArg some (by kernel_rfl))⟩
 f22 := ⟨ "slices.breakPatternsCmpFunc[string]", by decide, Try.func68.trans (congrArg some (by kernel_rfl))⟩
 f23 := ⟨ "slices.choosePivotCmpFunc[string]", by decide, Try.func69.trans (congrArg some (by kernel_rfl))⟩
 f24 := ⟨ "slices.reverseRangeCmpFunc[string]", by decide, Try.func70.trans (congrArg some (by kernel_rfl))⟩
 f25 := ⟨ "slices.partialInsertionSortCmpFunc[string]", by decide, Try.func71.trans (congrArg some (by kernel_rfl))⟩
 f26 := ⟨ "slices.partitionEqualCmpFunc[string]", by decide, Try.func72.trans (congrArg some (by kernel_rfl))⟩
 f27 := ⟨ "slices.partitionCmpFunc[string]", by decide, Try.func73.trans (congrArg some (by kernel_rfl))⟩
 f28:=Try.func74.trans (congrArg some (by kernel_rfl))
 f29:=Try.func75.trans (congrArg some (by kernel_rfl))
 f46 := ⟨ "slices.siftDownCmpFunc[string]", by decide, Try.func82.trans (congrArg some (by kernel_rfl))⟩
 f47:=Try.func83.trans (congrArg some (by kernel_rfl))
 f48:=Try.func84.trans (congrArg some (by kernel_rfl))
 f49 := ⟨ "slices.medianAdjacentCmpFunc[string]", by decide, Try.func85.trans (congrArg some (by kernel_rfl))⟩
 f50 := ⟨ "slices.medianCmpFunc[string]", by decide, Try.func86.trans (congrArg some (by kernel_rfl))⟩
 f57 := ⟨ "slices.order2CmpFunc[string]", by decide, Try.func90.trans (congrArg some (by kernel_rfl))⟩
 t0:=Try.underlying0
 a0:=Try.isAgg0
 z0:=Try.sizeOf0
 v0:=Try.zeroValue0
 t3:=Try.underlying3
 a3:=Try.isAgg3
 z3:=Try.sizeOf3
 v3:=Try.zeroValue3
 t4:=Try.underlying4
 a4:=Try.isAgg4
 z4:=Try.sizeOf4
 v4:=Try.zeroValue4
 t5:=Try.underlying5
 a5:=Try.isAgg5
 z5:=Try.sizeOf5
 v5:=Try.zeroValue5
 t9:=Try.underlying9
 a9:=Try.isAgg9
 z9:=Try.sizeOf9
 v9:=Try.zeroValue9
 t22:=Try.underlying34
 a22:=Try.isAgg34
 z22:=Try.sizeOf34
 v22:=Try.zeroValue34
 a24:=Try.isAgg9
 z24:=Try.sizeOf9
 t25:=Try.underlying75
 a25:=Try.isAgg75
 z25:=Try.sizeOf75
 v25:=Try.zeroValue75
 t39:=Try.underlying90
 a39:=Try.isAgg90
 z39:=Try.sizeOf90
 v39:=Try.zeroValue90
 t45:=Try.underlying100
 a45:=Try.isAgg100
 z45:=Try.sizeOf100
 v45:=Try.zeroValue100
 t46:=Try.underlying101
 a46:=Try.isAgg101
 z46:=Try.sizeOf101
 v46:=Try.zeroValue101
 t50:=Try.underlying105
 a50:=Try.isAgg105
 z50:=Try.sizeOf105
 v50:=Try.zeroValue105
 t53:=Try.underlying108
 a53:=Try.isAgg108
 z53:=Try.sizeOf108
 v53:=Try.zeroValue108
 t55:=Try.underlying110
 a55:=Try.isAgg110
 z55:=Try.sizeOf110
 v55:=Try.zeroValue110
 t66:=Try.underlying111
 a66:=Try.isAgg111
 z66:=Try.sizeOf111
 v66:=Try.zeroValue111
 t70:=Try.underlying115
 a70:=Try.isAgg115
 z70:=Try.sizeOf115
 v70:=Try.zeroValue115
 t76:=Try.underlying117
 a76:=Try.isAgg117
 z76:=Try.sizeOf117
 v76:=Try.zeroValue117
 t77:=Try.underlying118
 a77:=Try.isAgg118
 z77:=Try.sizeOf118
 v77:=Try.zeroValue118

abbrev K1:={ s:ByteArray // s.size≤1000000000 }
instance:Inhabited K1:=⟨⟨⟨#[]⟩,by decide⟩⟩
def zc (s:K1):Value:=.string s.1
def GJ (x y:K1):Int:=ey x.1 y.1
theorem MU:SWO (ltOf GJ):=by
 refine ⟨fun x=>?_,fun x y z h1 h2=>?_,fun x y z h1 h2=>?_⟩
 ·show decide (ey x.1 x.1<0)=false
  rw [pE];rfl
 ·exact decide_eq_true (gj (of_decide_eq_true h1) (of_decide_eq_true h2))
 ·have h1:=of_decide_eq_false h1
  have h2:=of_decide_eq_false h2
  refine decide_eq_false fun h=>?_
  have h:ey x.1 z.1<0:=h
  have h1:¬ ey x.1 y.1<0:=h1
  have h2:¬ ey y.1 z.1<0:=h2
  have n1:=fC x.1 y.1
  rcases Int.lt_trichotomy (ey y.1 x.1) 0 with h3 | h3 | h3
  ·exact h2 (gj h3 h)
  ·have:=iD h3
   rw [this] at h2;exact h2 h
  ·omega
theorem Mp:∀ x y,(ltOf GJ) x y=false→(ltOf GJ) y x=false→x=y:=fun x y h1 h2=>by
 have h1:¬ ey x.1 y.1<0:=of_decide_eq_false h1
 have h2:¬ ey y.1 x.1<0:=of_decide_eq_false h2
 have n1:=fC x.1 y.1
 exact Subtype.ext (iD (by omega))
def vM (a b:ByteArray):Bool:=!decide (ey b a<0)
def bu (l:List ByteArray):List ByteArray:=l.mergeSort vM
theorem Bl (a b c:ByteArray) (h1:vM a b=true) (h2:vM b c=true):vM a c=true:=by
 unfold vM at *
 simp only [Bool.not_eq_true',decide_eq_false_iff_not] at *
 intro h
 have n1:=fC a b
 rcases Int.lt_trichotomy (ey a b) 0 with h3 | h3 | h3
 ·exact h2 (gj h h3)
 ·have:=iD h3
  rw [this] at h;exact h2 h
 ·omega
theorem BF (a b:ByteArray):(vM a b||vM b a)=true:=by
 unfold vM
 have n1:=fC a b
 by_cases h:ey b a<0
 ·have:¬ ey a b<0:=by omega
  simp [h,this]
 ·simp [h]
theorem yj {a b:ByteArray} (h1:vM a b=true) (h2:vM b a=true):a=b:=by
 unfold vM at *
 simp only [Bool.not_eq_true',decide_eq_false_iff_not] at *
 have n1:=fC a b
 exact iD (by omega)
theorem bB (l:List ByteArray):(bu l).Perm l:=List.mergeSort_perm l vM
theorem ks (l:List ByteArray):(bu l).Pairwise fun a b=>vM a b=true:=List.pairwise_mergeSort Bl BF l
theorem xn {l m:List ByteArray} (h:m.Pairwise fun a b=>vM a b=true) (hp:m.Perm l):bu l=m:=
 List.Perm.eq_of_pairwise (le:=fun a b=>vM a b=true) (fun a b _ _ h1 h2=>yj h1 h2) (ks l) h ((bB l).trans hp.symm)
theorem Kd {a b:ByteArray} (h:ey a b<0):vM a b=true:=by
 unfold vM
 have n1:=fC a b
 simp;omega
theorem nu {α:Type} [Inhabited α] (enc:α→Value) {w:World} {b:Nat} {d0 d:List α} {rest:List Value} {e:TypeId} {fz:Nat × Nat} (hh:w.heap[b]?=some (.cells (d0.map enc++rest).toArray e fz)) (hl:d.length=d0.length):
  (putRow enc w b 0 d.toArray).heap[b]?=some (.cells (d.map enc++rest).toArray e fz):=by
 unfold putRow mapBlock
 simp only [Array.getElem?_modify,if_pos,hh,Option.map_some,onCells]
 congr 2
 apply Array.ext_getElem?
 intro k
 simp only [putCells,Array.getElem?_mapIdx,List.getElem?_toArray,Nat.zero_le,true_and,Nat.zero_add,Nat.sub_zero,List.size_toArray]
 by_cases hk:k<d.length
 ·have h1:(d0.map enc++rest)[k]?=some (enc d0[k]):=by
   rw [List.getElem?_append_left (by simpa using (by omega:k<d0.length)),List.getElem?_map,List.getElem?_eq_getElem (by omega)];rfl
  have h2:(d.map enc++rest)[k]?=some (enc d[k]):=by
   rw [List.getElem?_append_left (by simpa using hk),List.getElem?_map,List.getElem?_eq_getElem hk];rfl
  rw [h1,h2,Option.map_some,if_pos hk]
  congr 2
  rw [getElem!_pos d.toArray k (by simpa using hk)];simp
 ·have h1:(d0.map enc++rest)[k]?=rest[k - d0.length]?:=by
   rw [List.getElem?_append_right (by simpa using (by omega:d0.length≤k))];simp
  have h2:(d.map enc++rest)[k]?=rest[k - d.length]?:=by
   rw [List.getElem?_append_right (by simpa using (by omega:d.length≤k))];simp
  rw [h1,h2,hl]
  simp only [if_neg (show ¬ k<d0.length by omega)]
  simp
theorem jx {α:Type} [Inhabited α] (enc:α→Value) (w:World) (b off n:Nat) (d:Array α) (os:Array Obj):Jg w (grow (putRow enc (Sort.ahead w n) b off d) os) b:=by
 refine ⟨rfl,rfl,rfl,by simp,fun k hk hne=>?_⟩
 rw [heap_grow_old _ _ (by simpa using hk)]
 have:b≠k:=fun e=>hne e.symm
 simp [putRow,mapBlock,Sort.ahead,Array.getElem?_modify,this]
theorem MX.but {w w':World} {b:Nat} (h:MX w) (hb:b≠0) (k:Jg w w' b):MX w':=by
 obtain ⟨m,hm⟩:=h
 refine ⟨m,?_⟩
 have hlt:0<w.heap.size:=by
  rcases Nat.lt_or_ge 0 w.heap.size with h' | h'
  ·exact h'
  ·unfold World.cell? at hm
   simp only at hm
   rw [Array.getElem?_eq_none h'] at hm
   cases hm
 unfold World.cell? at hm ⊢
 simp only at hm ⊢
 rw [k.block _ hlt (fun e=>hb e.symm)];exact hm
theorem pJ {α:Type} [Inhabited α] (enc:α→Value) {w:World} {b:Nat} {d:List α} {rest:List Value} {e:TypeId} (hh:w.heap[b]?=some (.cells (d.map enc++rest).toArray e (0,0))):Holds enc w b 0 d.toArray:=by
 intro j hj
 have hj:j<d.length:=by simpa using hj
 refine ⟨?_,?_⟩
 ·rw [dB hh,Nat.zero_add]
  have h2:(d.map enc++rest)[j]?=some (enc d[j]):=by
   rw [List.getElem?_append_left (by simpa using hj),List.getElem?_map,List.getElem?_eq_getElem hj];rfl
  rw [List.getElem?_toArray,h2,getElem!_pos d.toArray j (by simpa using hj)];simp
 ·unfold World.frozen?
  simp [hh]
theorem yT {w:World} {b cap:Nat} {L:List K1} {rest:List Value} {e:TypeId} (hm:MX w) (hb:b≠0) (hh:w.heap[b]?=some (.cells (L.map zc++rest).toArray e (0,0))) (hl:L.length<4611686018427387904):
  Calls Try.prog 39 #[.slice (some ⟨b,0,none⟩) L.length cap,.func (.func 40) #[] #[]] w fun e' w'=>e'=.returned (.tuple #[])∧Jg w w' b∧w'.heap[b]?=some (.cells ((bu (L.map (·.1))).map Value.string++rest).toArray e (0,0)):=by
 have hC:CmpLays1 Try.prog 40 #[] zc GJ b 0 L.toArray.size w:=fun m os dk _ x y=>by
  obtain ⟨z,hz⟩:=hm.but hb (jx zc w b 0 m dk os)
  exact (Nu x.1 y.1 z _ x.2 y.2 hz).mono fun e w' ⟨he,n,hn⟩=>⟨he,n,#[],by rw [grow_empty];exact hn⟩
 have h:=Any.slices_SortFunc_total EW zc (fun x=>rfl) GJ MU 40 #[] b 0 cap L.toArray w (enters_of Try.func40 (by kernel_rfl) rfl) hC (pJ zc hh) (Array.getElem?_eq_some_iff.1 hh).1 (by simpa using hl) Mp
 rw [List.size_toArray] at h
 refine h.mono fun e' w' ⟨he,n,os,hw⟩=>⟨he,?_,?_⟩
 ·rw [hw];exact jx zc w b 0 n _ os
 ·rw [hw]
  unfold sortWorld
  rw [heap_grow_old _ _ (by simpa using (Array.getElem?_eq_some_iff.1 hh).1)]
  have hp:(L.mergeSort fun x y=>!(ltOf GJ) y x).length=L.length:=List.length_mergeSort _
  rw [List.toList_toArray]
  have:=nu zc (w:=Sort.ahead w n) (d:=L.mergeSort fun x y=>!(ltOf GJ) y x) hh hp
  rw [this]
  congr 3
  have e1:(L.mergeSort fun x y=>!(ltOf GJ) y x).map (·.1)=bu (L.map (·.1)):=List.map_mergeSort fun a _ b _=>rfl
  rw [← e1,List.map_map];rfl
end paths
end Go.Proofs.Ytbjmmnegkpeboaa
set_option linter.unusedSimpArgs false
set_option linter.unusedVariables false
set_option maxRecDepth 100000
namespace Go.Proofs.Ytbjmmnegkpeboaa
open Go Go.Rx Go.RowKit Go.Proofs
namespace paths
def yY:Go.Shelf.Ren:=⟨fun | 115=>42 | n=>n,fun | 37=>37 | 4=>4 | 9=>9 | 5=>5 | n=>n,fun | n=>n⟩
theorem I5:Go.Proofs.Lays.nb115 Try.prog yY where
 mixed:=by kernel_rfl
 f115:=Try.func42.trans (congrArg some (by kernel_rfl))
 t4:=Try.underlying4
 a4:=Try.isAgg4
 z4:=Try.sizeOf4
 v4:=Try.zeroValue4
 t9:=Try.underlying9
 a9:=Try.isAgg9
 z9:=Try.sizeOf9
 v9:=Try.zeroValue9
 t37:=Try.underlying37
 a37:=Try.isAgg37
 z37:=Try.sizeOf37
 v37:=Try.zeroValue37
 t5:=Try.underlying5
 a5:=Try.isAgg5
 z5:=Try.sizeOf5
 v5:=Try.zeroValue5

def qm (w:World) (a:Option Addr) (l:Nat) (zs:List Int):Prop:=fV w a l zs∧(a=none→l=0)
theorem qm.keep {w0 w:World} {a:Option Addr} {l:Nat} {zs:List Int} (h:qm w0 a l zs) (hk:∀ k,k<w0.heap.size→w.heap[k]?=w0.heap[k]?):qm w a l zs:=⟨h.1.keep hk,h.2⟩
theorem qm.below {w0 w:World} {a:Option Addr} {l:Nat} {zs:List Int} (h:qm w0 a l zs) (hb:Below w0.heap.size w0 w):qm w a l zs:=h.keep fun k hk=>hb.block k hk
theorem nN.Mc {w:World} {x:c5} {zs:List Int} (h:nN w.hp x zs) (hl:zs.length≤140737488355328):qm w x.a x.l zs:=by
 rcases h with ⟨h1,h2,h3⟩ | ⟨b,rest,h1,h2,h3⟩
 ·rw [h1,h2,h3]
  exact ⟨⟨rfl,Nat.zero_le _,fun b hb=>by cases hb⟩,fun _=>rfl⟩
 ·rw [h1]
  refine ⟨⟨h3,by omega,fun b' hb' i hi W' hW=>?_⟩,fun h=>by cases h⟩
  cases hb'
  have h2:w.heap[b]?=_:=h2
  have hlt:=(Array.getElem?_eq_some_iff.1 h2).1
  rw [cY,dB ((hW b hlt).trans h2)]
  have:i<zs.length:=by omega
  simp [List.getElem?_append_left,this]
theorem qm.bytes {w:World} {a:Option Addr} {l:Nat} {zs:List Int} (h:qm w a l zs):Lib.BytesIn w a l zs:=by
 intro hl
 cases a with
 | none=>exact absurd (h.2 rfl) (by omega)
 | some p=>
  have h3:=h.1.2.2 p rfl
  have h0:=h3 0 hl w fun k _=>rfl
  obtain ⟨b,o,sp⟩:=p
  have hsp:sp=none:=by
   cases sp with
   | none=>rfl
   | some s=>
    exfalso
    unfold World.cell? at h0
    simp [Addr.add] at h0
    split at h0 <;> simp_all
  subst hsp
  refine ⟨b,o,rfl,fun i hi=>?_⟩
  have:=h3 i hi w fun k _=>rfl
  rwa [cY] at this
theorem Oo {w:World} {a a':Option Addr} {l l' c c':Nat} {zs us:List Int} (h1:qm w a l zs) (h2:qm w a' l' us):Calls Try.prog 42 #[.slice a l c,.slice a' l' c'] w fun e w'=>e=.returned (.bool (Lib.bytesOf zs==Lib.bytesOf us))∧w=w':=
 (Any.bytes_Equal_all I5 a a' l c l' c' zs us w h1.1.1 h2.1.1 h1.bytes h2.bytes).mono fun e w' ⟨he,hw⟩=>⟨he,hw.symm⟩
theorem DV {w:World} {o:Obj}:Below w.heap.size w (w.alloc o):=(Below.refl _ _).alloc (Nat.le_refl _) _
theorem lh {w:World} {o o':Obj}:Below w.heap.size w ((w.alloc o).alloc o'):=DV.alloc DV.size _
theorem tH {w:World} {k k':Int} {a a':Option Addr} {l l' c c':Nat} {zs us:List Int} (h1:qm w a l zs) (h2:qm w a' l' us):Calls Try.prog 22 #[.agg #[.int .i64 k,.slice a l c],.agg #[.int .i64 k',.slice a' l' c']] w fun e w'=>e=.returned (.bool ((k==k')&&(Lib.bytesOf zs==Lib.bytesOf us)))∧Below w.heap.size w w':=by
 by_cases hk:k=k'
 ·have hk':(k==k')=true:=by simp [hk]
  go_enter Try.func22,Try.ntmps22
  go_wp2_with (go_at_call 42;refine (Oo (h1.below lh) (h2.below lh)).mono ?_;rintro e w' ⟨rfl,rfl⟩)
  go_ret
  exact ⟨by rw [hk'];rfl,lh⟩
 ·have hk':(k==k')=false:=by simpa using hk
  go_enter Try.func22,Try.ntmps22
  go_wp2
  go_ret
  exact ⟨by rw [hk'];rfl,lh⟩
theorem GK {w:World} {a:Option Addr} {l c:Nat} {zs:List Int} (h:qm w a l zs):(convert 37 9 (.slice a l c)).run Try.prog w=.ok (.string (strOfNums zs)) w:=
 h.bytes.convert h.1.1 c _ _ _ Try.underlying37 Try.underlying5 Try.underlying9
theorem tO {w:World} {k k':Int} {a a':Option Addr} {l l' c c':Nat} {zs us:List Int} (h1:qm w a l zs) (h2:qm w a' l' us):Calls Try.prog 24 #[.agg #[.int .i64 k,.slice a l c],.agg #[.int .i64 k',.slice a' l' c']] w fun e w'=>e=.returned (.bool ((k==k')&&(Lib.bytesOf zs==Lib.bytesOf us)))∧Below w.heap.size w w':=by
 have g1:∀ o o',(convert 37 9 (.slice a l c)).run Try.prog ((w.alloc o).alloc o')=.ok (.string (strOfNums zs)) ((w.alloc o).alloc o'):=fun o o'=>GK (h1.below lh)
 have g2:∀ o o',(convert 37 9 (.slice a' l' c')).run Try.prog ((w.alloc o).alloc o')=.ok (.string (strOfNums us)) ((w.alloc o).alloc o'):=fun o o'=>GK (h2.below lh)
 rw [← Lib.strOfNums_toList,← Lib.strOfNums_toList]
 by_cases hk:k=k'
 ·have hk':(k==k')=true:=by simp [hk]
  go_enter Try.func24,Try.ntmps24
  go_wp2
  go_ret
  exact ⟨by rw [hk'];rfl,lh⟩
 ·have hk':(k==k')=false:=by simpa using hk
  go_enter Try.func24,Try.ntmps24
  go_wp2
  go_ret
  exact ⟨by rw [hk'];rfl,lh⟩
def zv (w w':World) (x:c5) (zs:List Int):Prop:=nN w'.hp x zs∧zs.length≤140737488355328∧∀ b,x.a=some b→w.heap.size≤b.block
def vc (H:Hp) (a:Option Addr) (l:Nat) (zs:List Int):Prop:=∀ w:World,H.Sub w.hp→qm w a l zs
theorem zv.MM {H:Hp} {w w':World} {x:c5} {zs:List Int} (h:zv w w' x zs):vc (H.grow w w') x.a x.l zs:=fun w2 h2=>by
 obtain ⟨hb,hl,hn⟩:=h
 refine nN.Mc (w:=w2) ?_ hl
 rcases hb with hb | ⟨b,rest,h1,h3,h4⟩
 ·exact .inl hb
 ·refine .inr ⟨b,rest,h1,h2 _ _ ?_,h4⟩
  have:=hn _ h1
  unfold Hp.grow
  rw [if_neg (by simp only at this;omega)]
  exact h3
theorem BG {w w':World} {x:c5} {zs:List Int} {b c:Nat} {v:Value} (hD:qm w x.a x.l zs) (hv:v=.slice (some ⟨b,0,none⟩) x.l c) (h:cy w w' v (zs.map (Value.int .u8)) x.l 1 5):zv w w' ⟨x.p,x.v,x.k,some ⟨b,0,none⟩,x.l,c⟩ zs:=by
 obtain ⟨g,c',rest,h2,h3,h4,h5,h6⟩:=h
 rw [hv] at h2
 cases h2
 exact ⟨.inr ⟨b,rest,rfl,h5,hD.1.1⟩,by rw [hD.1.1];exact hD.1.2.1,fun b' hb'=>by cases hb';exact h3⟩
theorem oF {W w:World} {H:Hp} (h0:W.hp.Sub H) (h:H.Sub w.hp):∀ k,k<W.heap.size→w.heap[k]?=W.heap[k]?:=fun k hk=>by
 have h1:=h _ _ (h0 k W.heap[k] (Array.getElem?_eq_getElem hk))
 rw [Array.getElem?_eq_getElem hk];exact h1
def e6 (l:List SV):Option (SO × Bool):=some (.row l 9 (0,0) (some 1),true)
def strs (L:List ByteArray):List SV:=(L.map Value.string).map SV.v
theorem au (L:List ByteArray):(strs L).all ab=true:=by
 rw [List.all_eq_true];intro x hx
 obtain ⟨v,_,rfl⟩:=List.mem_map.1 hx
 rfl
theorem lW {L:List ByteArray} {i:Nat} {q:ByteArray} (h:L[i]?=some q):(strs L)[0+(i:Int).toNat*1]?=some (.v (.string q)):=by
 unfold strs
 rw [Int.toNat_natCast,Nat.zero_add,Nat.mul_one,List.getElem?_map,List.getElem?_map,h];rfl
section
variable {W:World} {cs0:List Frame} {E:List wP} {cm:c5→List Int} {b m cl:Nat} {s:Int} {M:Own} {ν:aU}
end
def fS (q:ByteArray):List SV:=[.v (.int .i64 3),.v (.string q)]
def bD (l:List ByteArray):List SV:=l.flatMap fS
theorem bY (l:List ByteArray):(bD l).all SV.flat=true:=by
 unfold bD
 rw [List.all_eq_true];intro x hx
 obtain ⟨q,_,hq⟩:=List.mem_flatMap.1 hx
 simp only [fS,List.mem_cons,List.not_mem_nil,or_false] at hq
 rcases hq with rfl | rfl <;> rfl
theorem dP {D:ByteArray→Bool} {L:List ByteArray} {i:Nat} (h:i<L.length):(L.take (i+1)).filter D=(L.take i).filter D++(if D L[i]=true then [L[i]] else []):=by
 rw [List.take_add_one,List.getElem?_eq_getElem h,List.filter_append]
 congr 1
 cases hd:D L[i] <;> simp [hd]
section
variable {W:World} {cs0:List Frame} {M:Own} {ν:aU} {x1 x2:Nat} {D:ByteArray→Bool} {L:List ByteArray} {c:Nat}
end
end paths
end Go.Proofs.Ytbjmmnegkpeboaa
set_option linter.unusedSimpArgs false
set_option linter.unusedVariables false
set_option maxRecDepth 100000
namespace Go.Proofs.Ytbjmmnegkpeboaa
open Go Go.Rx Go.RowKit Go.Proofs Go.Sort
namespace paths
def Ad:Go.Shelf.Ren:=⟨fun | 194=>41 | n=>n,fun | 31=>34 | 9=>9 | 3=>3 | 4=>4 | 0=>0 | n=>n,fun | n=>n⟩
theorem ES:Go.Proofs.Lays.n194 Try.prog Ad where
 mixed:=by kernel_rfl
 f194:=Try.func41.trans (congrArg some (by kernel_rfl))
 t0:=Try.underlying0
 a0:=Try.isAgg0
 z0:=Try.sizeOf0
 v0:=Try.zeroValue0
 t3:=Try.underlying3
 a3:=Try.isAgg3
 z3:=Try.sizeOf3
 v3:=Try.zeroValue3
 t4:=Try.underlying4
 a4:=Try.isAgg4
 z4:=Try.sizeOf4
 v4:=Try.zeroValue4
 t9:=Try.underlying9
 a9:=Try.isAgg9
 z9:=Try.sizeOf9
 v9:=Try.zeroValue9
 t31:=Try.underlying34
 a31:=Try.isAgg34
 z31:=Try.sizeOf34
 v31:=Try.zeroValue34

def strOf:SV→ByteArray | .v (.string s)=>s | _=>⟨#[]⟩
def bh (l:List SV):List ByteArray:=l.map strOf
theorem bS (L:List ByteArray):bh (strs L)=L:=by
 unfold bh strs
 rw [List.map_map,List.map_map]
 exact (List.map_congr_left fun x _=>rfl).trans (List.map_id L)
theorem aD (L:List ByteArray):(strs L).length=L.length:=by unfold strs;simp
def gi (L:List ByteArray):Prop:=L≠[]∧L.length≤100000∧∀ s∈L,s.size≤1000000000
def qI:Sum:=fun args s=>match args with
 | [.v u,.v v]=>some (.v (.tuple #[]),s.ir (u=.slice none 0 0∧v=.func (.func 40) #[] #[]))
 | [.sl j 0 n none,.v v]=>match s.look j with
  | some (.row ys e z (some C),true)=>some (.v (.tuple #[]),(s.ir (ys=strs (bh ys)∧n=(bh ys).length∧gi (bh ys)∧e=9∧z=(0,0)∧C=1∧v=.func (.func 40) #[] #[])).put j (.row (strs (bu (bh ys))) e z (some C)))
  | _=>none
 | _=>none
def eh (L:List ByteArray):List ByteArray:=(Lib.compact (L.map fun s:ByteArray=>s.data.toList)).map fun x=>⟨x.toArray⟩
def uS:Sum:=fun args s=>match args with
 | [.v u]=>some (.v (.slice none 0 0),s.ir (u=.slice none 0 0))
 | [.sl j 0 n none]=>match s.look j with
  | some (.row ys e z (some C),true)=>some (.sl j 0 (eh (bh ys)).length none,(s.ir (ys=strs (bh ys)∧n=(bh ys).length∧gi (bh ys)∧e=9∧z=(0,0)∧C=1)).put j (.row (strs (eh (bh ys)++List.replicate (n - (eh (bh ys)).length) (⟨#[]⟩:ByteArray))) e z (some C)))
  | _=>none
 | _=>none
theorem xd {ν:aU} {M:Own} {w0 w:World} {s:SH} (hr:HR ν M w0 s w) {j n:Nat} {L:List ByteArray} {m:Bool} {y:Value} (hj:s.look j=some (.row (strs L) 9 (0,0) (some 1),m)) (hv:VR ν (.sl j 0 n none) y):
  ∃ b rest,ν j=some b∧n≤b.2∧y=.slice (some ⟨b.1,0,none⟩) n b.2∧w.heap[b.1]?=some (.cells (L.map Value.string++rest).toArray 9 (0,0))∧(L.map Value.string++rest).length=b.2*1:=by
 obtain ⟨b,hb,hle,rfl⟩:=VR.aQ.1 hv
 obtain ⟨_,_,b',o,hb',ho,hor,_⟩:=hr.look hj
 rw [hb] at hb';cases hb'
 obtain ⟨zs,rest,rfl,hz,hx⟩:=hor
 have hzs:zs=L.map Value.string:=eF hz (ay.lits ν _)
 subst hzs
 obtain ⟨_,b2,hb2,hsz⟩:=hx
 rw [hb] at hb2;cases hb2
 exact ⟨b,rest,hb,hle,rfl,ho,hsz⟩
theorem BM {L:List ByteArray} (h:∀ s∈L,s.size≤1000000000):∃ K:List K1,K.map (·.1)=L:=
 ⟨L.attach.map fun s=>⟨s.1,h s.1 s.2⟩,by rw [List.map_map];exact List.attach_map_subtype_val L⟩
theorem Ks {w:World} {b:Nat} {L:List ByteArray} {rest:List Value} (hm:MX w) (hL:L≠[]) (hh:w.heap[b]?=some (.cells (L.map Value.string++rest).toArray 9 (0,0))):b≠0:=by
 rintro rfl
 obtain ⟨z,hz⟩:=hm
 rw [dB hh] at hz
 cases L with
 | nil=>exact hL rfl
 | cons x L=>simp at hz
theorem MJ (K:List ByteArray):K.map Value.string=(K.map fun s=>s.data.toList).map encStr:=by
 rw [List.map_map]
 exact List.map_congr_left fun x _=>by simp [encStr]
theorem wU:vw Try.prog MX (39,qI):=by
 refine ⟨⟨_,Try.func39,by kernel_rfl,by kernel_rfl⟩,fun args x s s' hx ob=>?_⟩
 dsimp only at hx
 unfold qI at hx
 split at hx
 ·cases hx
  obtain ⟨ob3,rfl,rfl⟩:=ob
  refine ⟨ob3,fun ν M w0 w a hr hX ha=>?_⟩
  obtain ⟨y1,as1,rfl,q1,ha2⟩:=ha.cons_inv
  obtain ⟨y2,as2,rfl,q2,ha3⟩:=ha2.cons_inv
  obtain rfl:=ha3.aB
  obtain rfl:=VR.ah.1 q1
  obtain rfl:=VR.ah.1 q2
  exact (AnyF.slices_SortFunc_none { EW with } none 0 _ w).mono fun e w' ⟨he,hw⟩=>⟨_,he,.old (by rw [hw];exact Below.refl _ _) (.same (SH.bZ _ _) (VR.ah.2 rfl))⟩
 ·rename_i j n v
  split at hx
  ·rename_i ys e z C hl
   cases hx
   obtain ⟨ob3,hys,hn,hs,rfl,rfl,rfl,rfl⟩:=ob
   refine ⟨ob3,fun ν M w0 w a hr hX ha=>?_⟩
   generalize hL:bh ys=L at *
   subst hys hn
   obtain ⟨y1,as1,rfl,q1,ha2⟩:=ha.cons_inv
   obtain ⟨y2,as2,rfl,q2,ha3⟩:=ha2.cons_inv
   obtain rfl:=ha3.aB
   obtain rfl:=VR.ah.1 q2
   obtain ⟨b,rest,hb,hle,rfl,hh,hsz⟩:=xd hr hl q1
   have hbm:=Ks hX hs.1 hh
   obtain ⟨K,rfl⟩:=BM hs.2.2
   have hlen:=hs.2.1
   have hl2:K.length=(K.map (·.1)).length:=by simp
   have cS:=yT (cap:=b.2) hX hbm (L:=K) (rest:=rest) (by rw [hh,List.map_map];rfl) (by omega)
   rw [hl2] at cS
   refine cS.mono fun e w' ⟨he,hbut,hcells⟩=>⟨_,he,.Bt (s.ir _) j _ _ b _ (SH.bZ _ _) hl rfl hb hcells ⟨(bu (K.map (·.1))).map Value.string,rest,rfl,ay.lits _ _,?_⟩ hbut (VR.ah.2 rfl)⟩
   refine ⟨by rw [aD,List.length_append,List.length_map];omega,b,hb,?_⟩
   rw [← hsz,List.length_append,List.length_map,(bB _).length_eq,List.length_append,List.length_map,List.length_map,List.length_map]
  ·cases hx
 ·cases hx
theorem BQ (L:List ByteArray):(Lib.compact (L.map fun s:ByteArray=>s.data.toList)).map encStr=(eh L).map Value.string:=by
 unfold eh
 rw [List.map_map];rfl
theorem jI (L:List ByteArray):(eh L).length=(Lib.compact (L.map fun s:ByteArray=>s.data.toList)).length:=by
 unfold eh;simp
theorem Eb:vw Try.prog MX (41,uS):=by
 refine ⟨⟨_,Try.func41,by kernel_rfl,by kernel_rfl⟩,fun args x s s' hx ob=>?_⟩
 dsimp only at hx
 unfold uS at hx
 split at hx
 ·cases hx
  obtain ⟨ob3,rfl⟩:=ob
  refine ⟨ob3,fun ν M w0 w a hr hX ha=>?_⟩
  obtain ⟨y1,as1,rfl,q1,ha2⟩:=ha.cons_inv
  obtain rfl:=ha2.aB
  obtain rfl:=VR.ah.1 q1
  exact (Any.slices_Compact_string_empty ES none 0 w).mono fun e w' ⟨he,hw⟩=>⟨_,he,.old (by rw [hw];exact Below.refl _ _) (.same (SH.bZ _ _) (VR.ah.2 rfl))⟩
 ·rename_i j n
  split at hx
  ·rename_i ys e z C hl
   cases hx
   obtain ⟨ob3,hys,hn,hs,rfl,rfl,rfl⟩:=ob
   refine ⟨ob3,fun ν M w0 w a hr hX ha=>?_⟩
   generalize hL:bh ys=L at *
   subst hys hn
   obtain ⟨y1,as1,rfl,q1,ha2⟩:=ha.cons_inv
   obtain rfl:=ha2.aB
   obtain ⟨b,rest,hb,hle,rfl,hh,hsz⟩:=xd hr hl q1
   have hlen:=hs.2.1
   have hh2:w.heap[b.1]?=some (.cells (((L.map fun s:ByteArray=>s.data.toList).map encStr)++rest).toArray 9 (0,0)):=by rw [hh,MJ]
   have hcl:(Lib.compact (L.map fun s:ByteArray=>s.data.toList)).length≤L.length:=by
    unfold Lib.compact Lib.compactUpTo
    rw [List.length_map,List.length_map]
    exact Nat.le_trans (List.length_filter_le _ _) (by simp)
   have cS:=Any.slices_Compact_string ES b.1 0 b.2 (L.map fun s:ByteArray=>s.data.toList) w (pJ encStr hh2) (by simp;omega) (by simpa using hle)
   rw [show (L.map fun s:ByteArray=>s.data.toList).length=L.length by simp] at cS
   refine cS.mono fun e w' ⟨he,q,hw⟩=>?_
   have hput:=nu encStr (w:=Sort.ahead w q) (d0:=L.map fun s:ByteArray=>s.data.toList) (d:=Lib.compact (L.map fun s:ByteArray=>s.data.toList)++List.replicate (L.length - (Lib.compact (L.map fun s:ByteArray=>s.data.toList)).length) []) (rest:=rest) (e:=9) (fz:=(0,0)) (b:=b.1) hh2 (by simp;omega)
   rw [← hw] at hput
   have hbut:Jg w w' b.1:=by
    have:=jx encStr w b.1 0 q (Lib.compact (L.map fun s:ByteArray=>s.data.toList)++List.replicate (L.length - (Lib.compact (L.map fun s:ByteArray=>s.data.toList)).length) []).toArray #[]
    rw [grow_empty,← hw] at this;exact this
   refine ⟨_,he,.Bt (s.ir _) j _ _ b _ (SH.bZ _ _) hl rfl hb hput ⟨(eh L++List.replicate (L.length - (eh L).length) (⟨#[]⟩:ByteArray)).map Value.string,rest,?_,ay.lits _ _,by simp only [aD,List.length_append,List.length_map];omega,b,hb,?_⟩ hbut (VR.aQ.2 ⟨b,hb,?_,?_⟩)⟩
   ·rw [List.map_append,List.map_append,BQ,jI,List.map_replicate,List.map_replicate];rfl
   ·rw [← hsz]
    simp only [List.length_append,List.length_map,List.length_replicate,jI];omega
   ·show (eh L).length≤b.2
    rw [jI];omega
   ·rw [jI];rfl
  ·cases hx
 ·cases hx
end paths
end Go.Proofs.Ytbjmmnegkpeboaa
set_option linter.unusedSimpArgs false
set_option linter.unusedVariables false
set_option maxRecDepth 100000
namespace Go.Proofs.Ytbjmmnegkpeboaa
open Go Go.Rx Go.RowKit Go.Proofs
namespace paths
theorem sQ {W w:World} {H:Hp} (h0:W.hp.Sub H) (h:H.Sub w.hp):W.heap.size≤w.heap.size:=by
 rcases Nat.eq_zero_or_pos W.heap.size with h1 | h1
 ·omega
 ·have h2:=h _ _ (h0 (W.heap.size - 1) W.heap[W.heap.size - 1] (Array.getElem?_eq_getElem (by omega)))
  have:=(Array.getElem?_eq_some_iff.1 h2).1
  omega
section
variable {W:World} {cs0:List Frame} {b b1 b2:Nat} {c c1 c2:c5→List Int} {l l1 l2:List c5} {L L1 L2:List ByteArray} {M:Own} {ν:aU}
theorem mK {K:List ByteArray} (h:gi K):gi (bu K):=
 ⟨fun e=>h.1 (List.length_eq_zero_iff.1 (by rw [← (bB K).length_eq,e];rfl)),by rw [(bB K).length_eq];exact h.2.1,fun s hs=>h.2.2 s ((bB K).mem_iff.1 hs)⟩
end
def eD:List (List UInt8)→List UInt8
 | []=>[]
 | [x]=>x
 | x::y::r=>x++47::eD (y::r)
theorem gK {x:List UInt8} {l:List (List UInt8)} (h:l≠[]):eD (x::l)=x++47::eD l:=by
 cases l with
 | nil=>exact absurd rfl h
 | cons y r=>rfl
theorem lU:∀ {a b:List (List UInt8)},a≠[]→b≠[]→eD (a++b)=eD a++47::eD b
 | [],_,h,_=>absurd rfl h
 | [x],b,_,hb=>by rw [List.singleton_append,gK hb];rfl
 | x::y::r,b,_,hb=>by
  rw [List.cons_append,gK (by simp),gK (by simp:(y::r)≠[]),lU (by simp) hb]
  simp
theorem rF:∀ (t r:List UInt8),aw (t++47::r)=aw t++aw r
 | [],r=>by
  have:aw (47::r)=[]::aw r:=by conv=>lhs;unfold aw;rw [if_pos rfl]
  rw [List.nil_append,this];rfl
 | b::t,r=>by
  have ih:=rF t r
  rw [List.cons_append]
  by_cases h:b=47
  ·have e:∀ l,aw (b::l)=[]::aw l:=fun l=>by conv=>lhs;unfold aw;rw [if_pos h]
   rw [e,e,ih];rfl
  ·cases ht:aw t with
   | nil=>exact absurd ht (cO _)
   | cons x xs=>
    rw [ht] at ih
    have e:∀ l y ys,aw l=y::ys→aw (b::l)=(b::y)::ys:=fun l y ys hl=>by conv=>lhs;unfold aw;rw [if_neg h,hl]
    rw [e _ _ _ ih,e _ _ _ ht];rfl
theorem iM:∀ l:List UInt8,eD (aw l)=l
 | []=>rfl
 | b::l=>by
  have ih:=iM l
  by_cases h:b=47
  ·have e:aw (b::l)=[]::aw l:=by conv=>lhs;unfold aw;rw [if_pos h]
   rw [e,gK (cO l),ih,h];rfl
  ·cases ht:aw l with
   | nil=>exact absurd ht (cO _)
   | cons x xs=>
    have e:aw (b::l)=(b::x)::xs:=by conv=>lhs;unfold aw;rw [if_neg h,ht]
    rw [ht] at ih
    rw [e]
    cases xs with
    | nil=>rw [← ih];rfl
    | cons y ys=>rw [← ih];rfl
theorem mW:∀ (l:List UInt8),∀ s∈aw l,(47:UInt8) ∉ s
 | [],s,hs=>by
  have:s=[]:=by simpa [aw] using hs
  rw [this];simp
 | b::l,s,hs=>by
  have ih:=mW l
  by_cases h:b=47
  ·have e:aw (b::l)=[]::aw l:=by conv=>lhs;unfold aw;rw [if_pos h]
   rw [e] at hs
   rcases List.mem_cons.1 hs with rfl | hs
   ·simp
   ·exact ih s hs
  ·cases ht:aw l with
   | nil=>exact absurd ht (cO _)
   | cons x xs=>
    have e:aw (b::l)=(b::x)::xs:=by conv=>lhs;unfold aw;rw [if_neg h,ht]
    rw [e] at hs
    rcases List.mem_cons.1 hs with rfl | hs
    ·have:=ih x (by rw [ht];simp)
     intro hm
     rcases List.mem_cons.1 hm with h2 | h2
     ·exact h h2.symm
     ·exact this h2
    ·exact ih s (by rw [ht];exact List.mem_cons_of_mem _ hs)
def xF (p:List UInt8):List UInt8:=eD (aw p).dropLast
def aq (p:ByteArray):ByteArray:=bif a7 p then mk (xF p.data.toList) else ⟨#[]⟩
def aH (p:ByteArray):Bool:=a7 p&&decide (1<(aw p.data.toList).length)
def pc (p t:List UInt8):Bool:=decide ((aw t).length<(aw p).length)&&decide ((aw p).take (aw t).length=aw t)
def dF (p t:ByteArray):Bool:=a7 p&&a7 t&&pc p.data.toList t.data.toList
theorem uM (p t:List UInt8):pc p t=decide ((t++[47]) <+: p):=by
 unfold pc
 by_cases h:(t++[47]) <+: p
 ·obtain ⟨r,hr⟩:=h
  have e:p=t++47::r:=by rw [← hr];simp
  have h2:=rF t r
  have h3:0<(aw r).length:=List.length_pos_iff.2 (cO r)
  rw [decide_eq_true (show (t++[47]) <+: p from ⟨r,hr⟩),e,h2,decide_eq_true (by rw [List.length_append];omega),decide_eq_true (by simp)];rfl
 ·rw [decide_eq_false h]
  by_cases h1:(aw t).length<(aw p).length
  ·rw [decide_eq_true h1,Bool.true_and]
   refine decide_eq_false fun h2=>h ⟨eD ((aw p).drop (aw t).length),?_⟩
   have h4:(aw p).drop (aw t).length≠[]:=fun h5=>by
    have:=congrArg List.length h5
    rw [List.length_drop,List.length_nil] at this;omega
   have h6:=List.take_append_drop (aw t).length (aw p)
   rw [h2] at h6
   have h7:=lU (cO t) h4
   rw [h6,iM,iM] at h7
   rw [List.append_assoc];exact h7.symm
  ·rw [decide_eq_false h1,Bool.false_and]
theorem vz {p:List UInt8} (h:(aw p).length≤1):xF p=[]∧(47:UInt8) ∉ p:=by
 have h0:=cO p
 match hp:aw p,h with
 | [],_=>exact absurd hp h0
 | [x],_=>
  refine ⟨by unfold xF;rw [hp];rfl,?_⟩
  have h1:=iM p
  rw [hp] at h1
  have h2:=mW p x (by rw [hp];simp)
  rw [← h1];exact h2
 | _::_::_,h=>simp at h
theorem vC {p:List UInt8} (h:1<(aw p).length):∃ s,p=xF p++47::s∧(47:UInt8) ∉ s:=by
 have h0:=cO p
 have h1:(aw p).dropLast≠[]:=fun h2=>by
  have:=congrArg List.length h2
  rw [List.length_dropLast,List.length_nil] at this;omega
 refine ⟨(aw p).getLast h0,?_,mW p _ (List.getLast_mem h0)⟩
 have h2:=List.dropLast_concat_getLast h0
 have h3:=lU h1 (show [(aw p).getLast h0]≠[] by simp)
 rw [h2,iM] at h3
 exact h3
theorem Gf {s:ByteArray} {k:Nat} (h:s.data.toList=s.data.toList.take k++47::s.data.toList.drop (k+1)) (hk:k<s.size) (h47:(47:UInt8) ∉ s.data.toList.drop (k+1)):Go.Lib.lastIndexByte s 47=k:=by
 have hlen:s.data.toList.length=s.size:=by simp
 have hget:∀ j,j<s.size→s.data[j]! = s.data.toList.getD j 0:=fun j hj=>by
  have h1:j<s.data.size:=hj
  rw [getElem!_pos s.data j h1,List.getD_eq_getElem?_getD,List.getElem?_eq_getElem (by rw [hlen];exact hj)]
  simp
 have hk2:s.data.toList.getD k 0=47:=by
  have h2:(s.data.toList.take k++47::s.data.toList.drop (k+1)).getD k 0=47:=by
   rw [List.getD_eq_getElem?_getD,List.getElem?_append_right (by rw [List.length_take];omega),List.length_take,hlen,Nat.min_eq_left (by omega),Nat.sub_self];rfl
  rw [← h] at h2;exact h2
 rcases Go.Lib.lastIndexByte_spec s 47 with ⟨h1,h2⟩ | ⟨i,hi,h1,h2,h3⟩
 ·exfalso
  have:=h2 k hk
  rw [hget k hk,hk2] at this
  exact this rfl
 ·rw [h1]
  rcases Nat.lt_trichotomy i k with hik | rfl | hik
  ·exfalso
   have:=h3 k hik hk
   rw [hget k hk,hk2] at this
   exact this rfl
  ·rfl
  ·exfalso
   apply h47
   have h4:s.data.toList.getD i 0=47:=by
    have h5:=h2
    rw [hget i hi] at h5
    exact UInt8.toNat_inj.1 (by rw [show (47:UInt8).toNat=47 from rfl];omega)
   rw [List.mem_iff_getElem?]
   refine ⟨i - (k+1),?_⟩
   rw [List.getElem?_drop,show k+1+(i - (k+1))=i by omega,List.getElem?_eq_getElem (by rw [hlen];exact hi)]
   rw [List.getD_eq_getElem?_getD,List.getElem?_eq_getElem (by rw [hlen];exact hi)] at h4
   simpa using h4
theorem B1 {s:ByteArray} (h47:(47:UInt8) ∉ s.data.toList):Go.Lib.lastIndexByte s 47=-1:=by
 have hlen:s.data.toList.length=s.size:=by simp
 rcases Go.Lib.lastIndexByte_spec s 47 with ⟨h1,h2⟩ | ⟨i,hi,h1,h2,h3⟩
 ·exact h1
 ·exfalso
  apply h47
  have h1:i<s.data.size:=hi
  rw [getElem!_pos s.data i h1] at h2
  have h5:s.data[i]=47:=UInt8.toNat_inj.1 (by rw [show (47:UInt8).toNat=47 from rfl];omega)
  rw [← h5]
  simp
theorem tP {l a s:List UInt8} (h:l=a++47::s):l.take a.length=a∧l.drop (a.length+1)=s:=by
 subst h
 refine ⟨List.take_left,?_⟩
 rw [← List.drop_drop,List.drop_left];rfl
theorem Au (p:ByteArray):Go.Lib.lastIndexByte p 47=if 1<(aw p.data.toList).length then ((xF p.data.toList).length:Int) else -1:=by
 by_cases h:1<(aw p.data.toList).length
 ·rw [if_pos h]
  obtain ⟨s,h1,h2⟩:=vC h
  have hlen:p.data.toList.length=p.size:=by simp
  have h3:=congrArg List.length h1
  rw [List.length_append,List.length_cons,hlen] at h3
  obtain ⟨ht,hd⟩:=tP h1
  refine Gf ?_ (by omega) (by rw [hd];exact h2)
  rw [ht,hd];exact h1
 ·rw [if_neg h]
  exact B1 (vz (by omega)).2
theorem Gd (p:ByteArray) (h:1<(aw p.data.toList).length):p.extract 0 (xF p.data.toList).length=mk (xF p.data.toList):=by
 obtain ⟨s,h1,h2⟩:=vC h
 obtain ⟨ht,_⟩:=tP h1
 have:(p.extract 0 (xF p.data.toList).length).data.toList=xF p.data.toList:=by
  rw [ByteArray.data_extract];simp [ht]
 rw [← GP (p.extract 0 (xF p.data.toList).length),this]
theorem C6 (p:ByteArray) (h:1<(aw p.data.toList).length):(xF p.data.toList).length<p.size:=by
 obtain ⟨s,h1,h2⟩:=vC h
 have hlen:p.data.toList.length=p.size:=by simp
 have h3:=congrArg List.length h1
 rw [List.length_append,List.length_cons,hlen] at h3
 omega
theorem vh (p:ByteArray):(aq p).size≤p.size:=by
 unfold aq
 cases a7 p
 ·exact Nat.zero_le _
 ·show (xF p.data.toList).length≤_
  by_cases h:1<(aw p.data.toList).length
  ·exact Nat.le_of_lt (C6 p h)
  ·rw [(vz (by omega)).1];exact Nat.zero_le _
theorem BP (p:ByteArray):aH p=!(aq p).data.toList.isEmpty:=by
 unfold aH aq
 cases hg:a7 p
 ·rfl
 ·show (true&&_)=!(xF p.data.toList).isEmpty
  rw [Bool.true_and]
  by_cases h:1<(aw p.data.toList).length
  ·rw [decide_eq_true h]
   have h1:(aw p.data.toList).dropLast≠[]:=fun h2=>by
    have:=congrArg List.length h2
    rw [List.length_dropLast,List.length_nil] at this;omega
   have hgood:=((jP 6 p).1 (by unfold a7 at hg;rw [Bool.and_eq_true] at hg;exact hg.2)).2
   match hd:(aw p.data.toList).dropLast,h1 with
   | x::r,_=>
    have hx:x∈aw p.data.toList:=List.dropLast_subset _ (by rw [hd];simp)
    have hb:=hgood x hx
    have hne:x≠[]:=fun e=>by
     rw [e] at hb
     simp [bk,mk] at hb
    have:xF p.data.toList≠[]:=by
     unfold xF;rw [hd]
     cases r with
     | nil=>exact hne
     | cons y ys=>rw [gK (by simp)];simp [hne]
    cases hu:xF p.data.toList with
    | nil=>exact absurd hu this
    | cons _ _=>rfl
  ·rw [decide_eq_false h,(vz (by omega)).1];rfl
def zr:Go.Shelf.Ren:=⟨fun | 99=>80 | 206=>89 | n=>n,fun | 9=>9 | 4=>4 | 3=>3 | n=>n,fun | n=>n⟩
theorem Ht:Go.Proofs.Lays.n99 Try.prog zr where
 mixed:=by kernel_rfl
 f99:=Try.func80.trans (congrArg some (by kernel_rfl))
 f206:=Try.func89.trans (congrArg some (by kernel_rfl))
 t3:=Try.underlying3
 a3:=Try.isAgg3
 z3:=Try.sizeOf3
 v3:=Try.zeroValue3
 t4:=Try.underlying4
 a4:=Try.isAgg4
 z4:=Try.sizeOf4
 v4:=Try.zeroValue4
 t9:=Try.underlying9
 a9:=Try.isAgg9
 z9:=Try.sizeOf9
 v9:=Try.zeroValue9

def zn:Go.Shelf.Ren:=⟨fun | 149=>65 | 222=>81 | n=>n,fun | 9=>9 | 5=>5 | 3=>3 | 4=>4 | n=>n,fun | n=>n⟩
theorem ID:Go.Proofs.Lays.n149 Try.prog zn where
 mixed:=by kernel_rfl
 f149:=Try.func65.trans (congrArg some (by kernel_rfl))
 f222:=Try.func81.trans (congrArg some (by kernel_rfl))
 t3:=Try.underlying3
 a3:=Try.isAgg3
 z3:=Try.sizeOf3
 v3:=Try.zeroValue3
 t4:=Try.underlying4
 a4:=Try.isAgg4
 z4:=Try.sizeOf4
 v4:=Try.zeroValue4
 t5:=Try.underlying5
 a5:=Try.isAgg5
 z5:=Try.sizeOf5
 v5:=Try.zeroValue5
 t9:=Try.underlying9
 a9:=Try.isAgg9
 z9:=Try.sizeOf9
 v9:=Try.zeroValue9

def xf (s t:ByteArray):Bool:=Go.Lib.hasPrefix s.data.toList t.data.toList
def zK:PS:=fun args=>match args with | [.string s,.string t]=>some (.bool (xf s t),True) | _=>none
def fo (s:ByteArray):Int:=Go.Lib.lastIndexByte s 47
def zQ:PS:=fun args=>match args with | [.string s,.int .u8 c]=>some (.int .i64 (fo s),c=47∧s.size≤1000000000) | _=>none
noncomputable def EY:Env:=EP [(48,lQ),(80,zK)] []
noncomputable def EX:Env:=EP [(48,lQ),(65,zQ)] []
theorem Re (p t:ByteArray) (v:Value):ax EY 64 300 (ch EY 64 [.v (.string p),.v (.string t)]) ([(1000,.b true)]++ff (List.range 30) false) v=[Value.bool false=v,false=false,false=false,false=false,false=false,false=false,(aS p==0)=false,(aS p==0)=false,(aS p==0)=false,(aS p==0)=false,p.size.le 1000000000]:=by kernel_rfl
theorem OI (p t:ByteArray) (v:Value):ax EY 64 300 (ch EY 64 [.v (.string p),.v (.string t)]) ([(1000,.b true)]++ff [1,2,4,5] true++ff (List.range 30) false) v=[Value.bool false=v,(aS t==0)=false,(aS t==0)=false,(aS t==0)=false,(aS t==0)=false,(aS t==0)=false,(aS p==0)=true,(aS p==0)=true,t.size.le 1000000000,(aS p==0)=true,(aS p==0)=true,p.size.le 1000000000]:=by kernel_rfl
theorem Po (p t:ByteArray) (v:Value):ax EY 64 300 (ch EY 64 [.v (.string p),.v (.string t)]) ([(1000,.b true)]++ff (List.range 30) true) v=[Value.bool (xf p (t++(⟨⟨[47]⟩⟩:ByteArray)))=v,(aS t==0)=true,True,(aS t==0)=true,(t.size+1).le 9223372036854775807,(aS t==0)=true,(aS t==0)=true,(aS t==0)=true,(aS p==0)=true,(aS p==0)=true,t.size.le 1000000000,(aS p==0)=true,(aS p==0)=true,p.size.le 1000000000]:=by kernel_rfl
theorem Rp (p:ByteArray) (v:Value):ax EX 51 300 (ch EX 51 [.v (.string p)]) ([(1000,.b true)]++ff (List.range 30) true) v=[Value.tuple { toList:=[Value.string ⟨⟨[]⟩⟩,Value.bool false]:Array Value }=v,true=true,decide (fo p<0)=true,decide (fo p<0)=true,decide (fo p<0)=true,decide (fo p<0)=true,(47:Int)=47∧p.size≤1000000000]:=by kernel_rfl
theorem Ow (p:ByteArray) (v:Value):ax EX 51 300 (ch EX 51 [.v (.string p)]) ([(1000,.b true)]++ff [1,2,4,5] false++ff (List.range 30) true) v=[Value.tuple { toList:=[Value.string ⟨⟨[]⟩⟩,Value.bool false]:Array Value }=v,(!aS p==0)=true,decide (fo p<0)=false,decide (fo p<0)=false,p.size.le 1000000000,decide (fo p<0)=false,decide (fo p<0)=false,(47:Int)=47∧p.size≤1000000000]:=by kernel_rfl
theorem On (p:ByteArray) (v:Value):ax EX 51 300 (ch EX 51 [.v (.string p)]) ([(1000,.b true)]++ff (List.range 30) false) v=[Value.tuple { toList:=[Value.string (p.extract 0 (fo p).toNat),Value.bool true]:Array Value }=v,decide (0≤fo p∧fo p≤(↑p.size:Int))=true,(!aS p==0)=false,decide (fo p<0)=false,decide (fo p<0)=false,p.size.le 1000000000,decide (fo p<0)=false,decide (fo p<0)=false,(47:Int)=47∧p.size≤1000000000]:=by kernel_rfl
def My:List (FuncId × Sum):=[(43,rD Bu),(26,eP lk)]
noncomputable def Cl:Env:={ EP [] [] with sums:=fun f=>My.lookup f }
noncomputable def tC (p t:ByteArray):SM:=ch Cl 45 [.v (.string p),.v (.string t)]
theorem Q0 (p t:ByteArray) (v:Value):ax Cl 45 300 (tC p t) ([(1000,.b true)]++ff (List.range 30) true) v=[Value.bool false=v,true=true,(!a7 p)=true,(!a7 p)=true,(!a7 p)=true,(!a7 p)=true,p.size.le 1000000000]:=by kernel_rfl
theorem O2 (p t:ByteArray) (v:Value):ax Cl 45 300 (tC p t) ([(1000,.b true)]++ff [1,2,4,5] false++ff (List.range 30) true) v=[Value.bool false=v,(!a7 t)=true,(!a7 p)=false,(!a7 p)=false,t.size.le 1000000000,(!a7 p)=false,(!a7 p)=false,p.size.le 1000000000]:=by kernel_rfl
theorem QF (p t:ByteArray) (v:Value):ax Cl 45 300 (tC p t) ([(1000,.b true)]++ff [1,2,4,5,6] false++ff (List.range 30) true) v=[Value.bool false=v,decide ((↑(aw p.data.toList).length:Int)≤(↑(aw t.data.toList).length:Int))=true,t.size.le 1000000000,p.size.le 1000000000,(!a7 t)=false,(!a7 p)=false,(!a7 p)=false,t.size.le 1000000000,(!a7 p)=false,(!a7 p)=false,p.size.le 1000000000]:=by kernel_rfl
noncomputable def I4:List SI:=dn Cl 2 60 (tC ⟨#[]⟩ ⟨#[]⟩) ([(1000,.b true)]++ff (List.range 30) false)
noncomputable def zj (n m:Nat) (i:Int):SF:={ fn:=45,tm:=eO 40 6 (List.replicate 5 .aJ++[.sl 0 0 n none,.sl 1 0 m none,.v (.int .i64 i)]++List.replicate 32 .aJ),todo:=I4,defers:=[],ret:=false,kind:=.normal,ro:=none }
theorem Py (p t:ByteArray) (n m:Nat) (l l2:List SV):reach Cl 2 60 (tC p t) ([(1000,.b true)]++ff (List.range 30) false) [(0,0),(1,1)] [0,1] (zj n m 0) 6 (two l l2)=[0=0∧(aw p.data.toList).length=n∧nZ=none,0=0∧(aw t.data.toList).length=m∧nZ=none,vZ 0=vZ 0,List.map SV.v (vP (aw p.data.toList))=l,l.all ab=true,List.map SV.v (vP (aw t.data.toList))=l2,l2.all ab=true,decide ((↑(aw p.data.toList).length:Int)≤(↑(aw t.data.toList).length:Int))=false,t.size.le 1000000000,p.size.le 1000000000,(!a7 t)=false,(!a7 p)=false,(!a7 p)=false,t.size.le 1000000000,(!a7 p)=false,(!a7 p)=false,p.size.le 1000000000]:=by kernel_rfl
theorem PJ (s t:ByteArray) (n m:Nat) (l l2:List SV) (i i':Int):reach Cl 2 100 (SM.at (zj n m i) 6 (two l l2)) (ff [0] true++[(2,.cells [.v (.string s)]),(4,.cells [.v (.string t)])]++ff [5,6,7] false) [(0,0),(1,1)] [0,1] (zj n m i') 6 (two l l2)=[0=0∧n=n∧nZ=none,0=0∧m=m∧nZ=none,vZ (IntKind.i64.wrap (i+1))=vZ i',l=l,l.all ab=true,l2=l2,l2.all ab=true,(!s.toList==t.toList)=false,l2[0+i.toNat*1]?=some (SV.v (Value.string t)),ao i m=true,l[0+i.toNat*1]?=some (SV.v (Value.string s)),ao i n=true,decide (i<(↑m:Int))=true]:=by kernel_rfl
theorem PC (s t:ByteArray) (n m:Nat) (l l2:List SV) (i:Int) (v:Value):ax Cl 45 100 (SM.at (zj n m i) 6 (two l l2)) (ff [0] true++[(2,.cells [.v (.string s)]),(4,.cells [.v (.string t)])]++ff [5,6,7] true) v=[Value.bool false=v,(!s.toList==t.toList)=true,l2[0+i.toNat*1]?=some (SV.v (Value.string t)),ao i m=true,l[0+i.toNat*1]?=some (SV.v (Value.string s)),ao i n=true,decide (i<(↑m:Int))=true]:=by kernel_rfl
theorem Pv (n m:Nat) (l l2:List SV) (i:Int) (v:Value):ax Cl 45 100 (SM.at (zj n m i) 6 (two l l2)) (ff [0] false) v=[Value.bool true=v,decide (i<(↑m:Int))=false]:=by kernel_rfl
noncomputable def CB (l:List SV) (n c:Nat):SM:=(bC aL 46 [.sl 0 0 n (some c)] (bO 6 1 0 [cD l])).getD dC
noncomputable def IW:List SI:=dn aL 2 60 (CB [] 0 0) [(1000,.b true)]
noncomputable def xh (n c:Nat) (s:ByteArray) (i:Int):SF:={ fn:=46,tm:=eO 22 5 ([.sl 0 0 n (some c),.aJ,.aJ,.v (.string s),.v (.int .i64 i)]++List.replicate 17 .aJ),todo:=IW,defers:=[],ret:=false,kind:=.normal,ro:=none }
theorem O6 (l:List SV) (n c:Nat):reach aL 2 60 (CB l n c) [(1000,.b true)] [(0,0)] [0] (xh n c ⟨#[]⟩ 0) 6 [cD l]=[0=0∧n=n∧some c=some c,Value.string ⟨⟨[]⟩⟩=Value.string ⟨⟨[]⟩⟩,vZ 0=vZ 0,l=l,l.all ab=true]:=by kernel_rfl
theorem OC (s s' q:ByteArray) (n c:Nat) (l:List SV) (i i':Int):reach aL 2 60 (SM.at (xh n c s i) 6 [cD l]) (ff [0] true++ff [1] false++[(3,.cells [.v (.string q)])]) [(0,0)] [0] (xh n c s' i') 6 [cD l]=[0=0∧n=n∧some c=some c,Value.string (s++q)=Value.string s',vZ (IntKind.i64.wrap (i+1))=vZ i',l=l,l.all ab=true,(s.size+q.size).le 9223372036854775807,l[0+i.toNat*1]?=some (SV.v (Value.string q)),ao i n=true,decide (i>0)=false,decide (i<(↑n:Int))=true]:=by kernel_rfl
theorem Qi (s s' q:ByteArray) (n c:Nat) (l:List SV) (i i':Int):reach aL 2 60 (SM.at (xh n c s i) 6 [cD l]) (ff [0] true++ff [1] true++[(4,.cells [.v (.string q)])]) [(0,0)] [0] (xh n c s' i') 6 [cD l]=[0=0∧n=n∧some c=some c,Value.string (s++(⟨⟨[47]⟩⟩:ByteArray)++q)=Value.string s',vZ (IntKind.i64.wrap (i+1))=vZ i',l=l,l.all ab=true,((s++(⟨⟨[47]⟩⟩:ByteArray)).size+q.size).le 9223372036854775807,l[0+i.toNat*1]?=some (SV.v (Value.string q)),ao i n=true,(s.size+1).le 9223372036854775807,decide (i>0)=true,decide (i<(↑n:Int))=true]:=by kernel_rfl
theorem QX (s:ByteArray) (n c:Nat) (l:List SV) (i:Int) (v:Value):ax aL 46 60 (SM.at (xh n c s i) 6 [cD l]) (ff [0] false) v=[Value.string s=v,decide (i<(↑n:Int))=false]:=by kernel_rfl
def h8:Co:=fun args sh=>match args with
 | [.sl i 0 n none]=>match sh.look i with
  | some (.row ys _ _ _,_)=>some (.string (mk (eD ((jl ys).take n))),ys=cP (jl ys)∧n≤(jl ys).length∧(jl ys).length≤100∧∀ s∈jl ys,s.length≤96)
  | _=>none
 | _=>none
where jl (ys:List SV):List (List UInt8):=ys.map fun y=>match y with | .v (.string b)=>b.data.toList | _=>[]
def Nq:List (FuncId × Sum):=[(43,rD Bu),(26,eP lk),(46,eE h8)]
noncomputable def GN:Env:={ EP [] [] with sums:=fun f=>Nq.lookup f }
theorem RG (p:ByteArray) (v:Value):ax GN 30 300 (ch GN 30 [.v (.string p)]) ([(1000,.b true)]++ff (List.range 30) true) v=[Value.string ⟨⟨[]⟩⟩=v,(!a7 p)=true,p.size.le 1000000000]:=by kernel_rfl
theorem O4 (p:ByteArray) (v:Value):ax GN 30 300 (ch GN 30 [.v (.string p)]) ([(1000,.b true)]++ff [1] false++ff (List.range 30) true) v=[Value.string (mk (eD (List.take (IntKind.i64.wrap ((↑(aw p.data.toList).length:Int) - 1)).toNat (h8.jl (List.map SV.v (vP (aw p.data.toList)))))))=v,List.map SV.v (vP (aw p.data.toList))=cP (h8.jl (List.map SV.v (vP (aw p.data.toList))))∧(IntKind.i64.wrap ((↑(aw p.data.toList).length:Int) - 1)).toNat≤(h8.jl (List.map SV.v (vP (aw p.data.toList)))).length∧(h8.jl (List.map SV.v (vP (aw p.data.toList)))).length≤100∧∀ (s:List UInt8),s∈h8.jl (List.map SV.v (vP (aw p.data.toList)))→s.length≤96,true=true,decide (0≤IntKind.i64.wrap ((↑(aw p.data.toList).length:Int) - 1)∧IntKind.i64.wrap ((↑(aw p.data.toList).length:Int) - 1)≤(↑(aw p.data.toList).length:Int))=true,p.size.le 1000000000,(!a7 p)=false,p.size.le 1000000000]:=by kernel_rfl
theorem FY:dE Try.prog (fun _=>True) (80,zK):=by
 refine .mk ⟨_,Try.func80,by kernel_rfl,by kernel_rfl⟩ fun args v p h hp w hX=>?_
 dsimp only [zK] at h
 split at h
 ·cases h
  exact (Any.strings_HasPrefix Ht _ _ w).mono fun e w' ⟨he,hw⟩=>⟨by rw [hw];exact Below.refl _ _,he⟩
 ·cases h
theorem E9:dE Try.prog (fun _=>True) (65,zQ):=by
 refine .mk ⟨_,Try.func65,by kernel_rfl,by kernel_rfl⟩ fun args v p h hp w hX=>?_
 dsimp only [zQ] at h
 split at h
 ·cases h
  obtain ⟨rfl,hs⟩:=hp
  exact (Any.strings_LastIndexByte ID _ 47 (by omega) w).mono fun e w' ⟨he,hw⟩=>⟨by rw [hw];exact Below.refl _ _,he⟩
 ·cases h
def lX:PS:=fun args=>match args with | [.string p,.string t]=>some (.bool (dF p t),p.size≤1000000000∧t.size≤1000000000) | _=>none
def AB:PS:=fun args=>match args with | [.string p]=>some (.tuple #[.string (aq p),.bool (aH p)],p.size≤1000000000) | _=>none
def wc:PS:=fun args=>match args with | [.string p]=>some (.string (aq p),p.size≤1000000000) | _=>none
theorem Mg {M:Own} {w0:World} {sl:List (FuncId × PS)} (hM:∀ z,¬ M z) (h:MX w0) (hs:∀ r∈sl,dE Try.prog MX r):aW (EP sl []) M w0:=zT (X:=MX) hs fun ν s w hr _=>h.keep fun k hk=>hr.frame k hk (hM k)
theorem CQ {r:FuncId × PS} (h:dE Try.prog (fun _=>True) r):dE Try.prog MX r:=⟨h.1,fun args v p e hp w _=>h.2 args v p e hp w trivial⟩
theorem OT {w0:World} (h:MX w0):aW EY (aT [] []) w0:=Mg bo h fun r hr=>by
 simp only [List.mem_cons,List.not_mem_nil,or_false] at hr
 rcases hr with rfl | rfl
 ·exact qO
 ·exact CQ FY
theorem Rq {w0:World} (h:MX w0):aW EX (aT [] []) w0:=Mg bo h fun r hr=>by
 simp only [List.mem_cons,List.not_mem_nil,or_false] at hr
 rcases hr with rfl | rfl
 ·exact qO
 ·exact CQ E9
theorem gO (p:ByteArray):(aS p==(0:Int))=a7 p:=by
 unfold aS
 cases a7 p <;> rfl
theorem zZ (p t:ByteArray):xf p (t++bF)=pc p.data.toList t.data.toList:=by
 rw [uM]
 unfold xf Go.Lib.hasPrefix
 have:(t++bF).data.toList=t.data.toList++[47]:=by rw [ByteArray.data_append];simp [bF]
 rw [this]
 by_cases h:(t.data.toList++[47]) <+: p.data.toList
 ·rw [decide_eq_true h];exact List.isPrefixOf_iff_prefix.2 h
 ·rw [decide_eq_false h]
  exact Bool.eq_false_iff.2 fun h2=>h (List.isPrefixOf_iff_prefix.1 h2)
theorem Eh:dE Try.prog MX (64,lX):=by
 refine .mk ⟨_,Try.func64,by kernel_rfl,by kernel_rfl⟩ fun args v p h hp w hX=>?_
 dsimp only [lX] at h
 split at h
 ·rename_i p t
  cases h
  obtain ⟨h1,h2⟩:=hp
  have go:∀ {o v},uw (ax EY 64 300 (ch EY 64 [.v (.string p),.v (.string t)]) o v)→v=.bool (dF p t)→Calls Try.prog 64 #[.string p,.string t] w fun e w'=>Below w.heap.size w w'∧e=.returned (.bool (dF p t)):=fun h e=>
   e ▸ ek (E:=EY) (args:=[.v (.string p),.v (.string t)]) rfl rfl (OT hX) (by kernel_rfl) (ay.cons (VR.ah.2 rfl) (ay.cons (VR.ah.2 rfl) ay.nil)) h
  have c1:=gO p
  have c2:=gO t
  have sl:(⟨⟨[47]⟩⟩:ByteArray)=bF:=rfl
  cases g1:a7 p
  ·rw [g1] at c1
   refine go (o:=[(1000,.b true)]++ff (List.range 30) false) (v:=.bool false) ⟨?_⟩ (by simp [dF,g1])
   rw [Re];simp only [ak,c1,and_self,and_true,true_and];exact h1
  ·rw [g1] at c1
   cases g2:a7 t
   ·rw [g2] at c2
    refine go (o:=[(1000,.b true)]++ff [1,2,4,5] true++ff (List.range 30) false) (v:=.bool false) ⟨?_⟩ (by simp [dF,g1,g2])
    rw [OI];simp only [ak,c1,c2,and_self,and_true,true_and];exact ⟨h1,h2⟩
   ·rw [g2] at c2
    refine go (o:=[(1000,.b true)]++ff (List.range 30) true) (v:=.bool (xf p (t++bF))) ⟨?_⟩ (by rw [zZ];simp [dF,g1,g2])
    rw [Po];simp only [ak,c1,c2,sl,and_self,and_true,true_and]
    exact ⟨⟨h1,h2⟩,(by show t.size+1≤9223372036854775807;omega)⟩
 ·cases h
theorem wN (p:ByteArray) (h:1<(aw p.data.toList).length) (hg:a7 p=true):p.extract 0 (fo p).toNat=aq p:=by
 unfold fo aq
 rw [Au,if_pos h,hg,Int.toNat_natCast,Gd p h];rfl
theorem BN:dE Try.prog MX (51,AB):=by
 refine .mk ⟨_,Try.func51,by kernel_rfl,by kernel_rfl⟩ fun args v p h hp w hX=>?_
 dsimp only [AB] at h
 split at h
 ·rename_i p
  cases h
  have go:∀ {o v},uw (ax EX 51 300 (ch EX 51 [.v (.string p)]) o v)→v=.tuple #[.string (aq p),.bool (aH p)]→Calls Try.prog 51 #[.string p] w fun e w'=>Below w.heap.size w w'∧e=.returned (.tuple #[.string (aq p),.bool (aH p)]):=fun h e=>
   e ▸ ek (E:=EX) (args:=[.v (.string p)]) rfl rfl (Rq hX) (by kernel_rfl) (ay.cons (VR.ah.2 rfl) ay.nil) h
  have c1:=gO p
  have hl:fo p=_:=Au p
  by_cases h1:1<(aw p.data.toList).length
  ·rw [if_pos h1] at hl
   have d1:decide (fo p<(0:Int))=false:=decide_eq_false (by omega)
   have hlen:=C6 p h1
   have d2:decide ((0:Int)≤fo p∧fo p≤(p.size:Int))=true:=decide_eq_true ⟨by omega,by omega⟩
   cases g:a7 p
   ·rw [g] at c1
    refine go (o:=[(1000,.b true)]++ff [1,2,4,5] false++ff (List.range 30) true) (v:=.tuple #[.string ⟨#[]⟩,.bool false]) ⟨?_⟩ (by simp [aq,aH,g])
    rw [Ow];simp only [ak,c1,d1,Bool.not_false,and_self,and_true,true_and];exact ⟨hp,hp⟩
   ·rw [g] at c1
    refine go (o:=[(1000,.b true)]++ff (List.range 30) false) (v:=.tuple #[.string (p.extract 0 (fo p).toNat),.bool true]) ⟨?_⟩ (by rw [wN p h1 g];simp [aH,g,h1])
    rw [On];simp only [ak,c1,d1,d2,Bool.not_true,and_self,and_true,true_and];exact ⟨hp,hp⟩
  ·rw [if_neg h1] at hl
   have d1:decide (fo p<(0:Int))=true:=decide_eq_true (by omega)
   refine go (o:=[(1000,.b true)]++ff (List.range 30) true) (v:=.tuple #[.string ⟨#[]⟩,.bool false]) ⟨?_⟩ ?_
   ·rw [Rp];simp only [ak,d1,and_self,and_true,true_and];exact hp
   ·have:=(vz (p:=p.data.toList) (by omega)).1
    unfold aq aH
    rw [this,decide_eq_false h1,Bool.and_false]
    cases a7 p <;> rfl
 ·cases h
theorem Iu {M:Own} {w0:World}:aW Cl M w0:=
 aW.Bg (Checked.mixed Try.checked) (by kernel_rfl) (gu.of ke rfl eY) (ep.list (X:=fun _=>True) (l:=My) rfl (fun r hr=>by
  simp only [My,List.mem_cons,List.not_mem_nil,or_false] at hr
  rcases hr with rfl | rfl
  ·exact qH
  ·exact cr.pure (r:=(26,lk)) sq) fun ν s w hr _=>trivial) (fun f g h=>by cases h)
section
variable {w0:World} {cs0:List Frame} {R:Ending→World→Prop} {xs ys:List (List UInt8)}
theorem Dv (hx:xs.length≤1000000001) (hlt:ys.length<xs.length) (hR:∀ w',Below w0.heap.size w0 w'→R (.returned (.bool (decide (xs.take ys.length=ys)))) w'):∀ (j i:Nat),i+j=ys.length→xs.take i=ys.take i→
  af Cl (aT [] []) w0 cs0 45 R (aE []) (SM.at (zj xs.length ys.length i) 6 (two (cP xs) (cP ys)))
 | 0,i,hj,he=>by
  have hi:i=ys.length:=by omega
  rw [hi,List.take_length] at he
  refine cz Iu bo (n:=100) (o:=ff [0] false) (v:=.bool true) ⟨?_⟩ fun w' hw=>by have:=hR w' hw;rwa [decide_eq_true he] at this
  rw [Pv];simp only [ak,and_self,and_true,true_and];exact decide_eq_false (by omega)
 | j+1,i,hj,he=>by
  have h2:i<ys.length:=by omega
  have h1:i<xs.length:=by omega
  have t2:decide ((i:Int)<(ys.length:Int))=true:=decide_eq_true (by omega)
  have r1:=aO h1
  have r2:=aO h2
  have g1:(cP xs)[0+i*1]?=some (.v (.string (mk xs[i]))):=by simp [cP,h1]
  have g2:(cP ys)[0+i*1]?=some (.v (.string (mk ys[i]))):=by simp [cP,h2]
  have e1:(mk xs[i]).toList=xs[i]:=by rw [oP];simp [mk]
  have e2:(mk ys[i]).toList=ys[i]:=by rw [oP];simp [mk]
  by_cases hc:xs[i]=ys[i]
  ·have hq:(!(mk xs[i]).toList==(mk ys[i]).toList)=false:=by rw [e1,e2,hc];simp
   refine af.reach Iu (k:=2) (n:=100) (o:=(ff [0] true++[(2,.cells [.v (.string (mk xs[i]))]),(4,.cells [.v (.string (mk ys[i]))])]++ff [5,6,7] false)) (ren:=[(0,0),(1,1)]) (eqs:=[0,1]) ?_ (by kernel_rfl) (fun i b h=>eW h) (Dv hx hlt hR j (i+1) (by omega) (by rw [List.take_succ_eq_append_getElem h1,List.take_succ_eq_append_getElem h2,he,hc]))
   rw [PJ]
   have ws:=aM (k:=i) (by omega)
   simp only [ak,Int.toNat_natCast,t2,r1,r2,g1,g2,hq,ws,dR,and_self]
  ·have hq:(!(mk xs[i]).toList==(mk ys[i]).toList)=true:=by rw [e1,e2];simpa using hc
   have hn:¬ xs.take ys.length=ys:=fun h=>by
    have h5:(xs.take ys.length)[i]?=ys[i]?:=by rw [h]
    rw [List.getElem?_take,if_pos h2,List.getElem?_eq_getElem h1,List.getElem?_eq_getElem h2] at h5
    exact hc (Option.some.inj h5)
   refine cz Iu bo (n:=100) (o:=(ff [0] true++[(2,.cells [.v (.string (mk xs[i]))]),(4,.cells [.v (.string (mk ys[i]))])]++ff [5,6,7] true)) (v:=.bool false) ⟨?_⟩ fun w' hw=>by have:=hR w' hw;rwa [decide_eq_false hn] at this
   rw [PC];simp only [ak,Int.toNat_natCast,t2,r1,r2,g1,g2,hq,and_self]
end
theorem zo (l:List (List UInt8)):List.map SV.v (vP l)=cP l:=by simp [vP,cP]
theorem BO:dE Try.prog (fun _=>True) (45,lX):=by
 refine .mk ⟨_,Try.func45,by kernel_rfl,by kernel_rfl⟩ fun args v p h hp w hX=>?_
 dsimp only [lX] at h
 split at h
 ·rename_i p t
  cases h
  obtain ⟨h1,h2⟩:=hp
  refine cp (E:=Cl) (R:=fun e w'=>Below w.heap.size w w'∧e=.returned (.bool (dF p t))) rfl rfl (args:=[.v (.string p),.v (.string t)]) (a:=[.string p,.string t]) (S0:=tC p t) (by kernel_rfl) (ay.cons (VR.ah.2 rfl) (ay.cons (VR.ah.2 rfl) ay.nil)) fun cs0=>?_
  cases g1:a7 p
  ·refine cz Iu bo (n:=300) (o:=[(1000,.b true)]++ff (List.range 30) true) (v:=.bool false) ⟨?_⟩ fun w' hw=>⟨hw,by simp [dF,g1]⟩
   rw [Q0];simp only [ak,g1,Bool.not_false,and_self,and_true,true_and];exact h1
  cases g2:a7 t
  ·refine cz Iu bo (n:=300) (o:=[(1000,.b true)]++ff [1,2,4,5] false++ff (List.range 30) true) (v:=.bool false) ⟨?_⟩ fun w' hw=>⟨hw,by simp [dF,g1,g2]⟩
   rw [O2];simp only [ak,g1,g2,Bool.not_false,Bool.not_true,and_self,and_true,true_and];exact ⟨h1,h2⟩
  have l1:p.data.toList.length=p.size:=by simp
  have a1:=(fJ p.data.toList).1
  by_cases hl:(aw t.data.toList).length<(aw p.data.toList).length
  ·have nx:=Dv (w0:=w) (cs0:=cs0) (R:=fun e w'=>Below w.heap.size w w'∧e=.returned (.bool (dF p t))) (xs:=aw p.data.toList) (ys:=aw t.data.toList) (by omega) hl (fun w' hw=>⟨hw,by simp [dF,pc,g1,g2,hl]⟩) (aw t.data.toList).length 0 (by omega) rfl
   refine af.reach Iu (k:=2) (n:=60) (o:=[(1000,.b true)]++ff (List.range 30) false) (ren:=[(0,0),(1,1)]) (eqs:=[0,1]) (F:=zj (aw p.data.toList).length (aw t.data.toList).length 0) (d:=6) (l:=two (cP (aw p.data.toList)) (cP (aw t.data.toList))) ?_ (by kernel_rfl) (fun i b h=>eW h) nx
   have dl:decide (((aw p.data.toList).length:Int)≤((aw t.data.toList).length:Int))=false:=decide_eq_false (by omega)
   rw [Py]
   simp only [ak,zo,dR,g1,g2,dl,Bool.not_true,and_self,and_true,true_and]
   refine ⟨⟨⟨h1,h2⟩,h1⟩,h2⟩
  ·refine cz Iu bo (n:=300) (o:=[(1000,.b true)]++ff [1,2,4,5,6] false++ff (List.range 30) true) (v:=.bool false) ⟨?_⟩ fun w' hw=>⟨hw,by simp [dF,pc,hl]⟩
   have dl:decide (((aw p.data.toList).length:Int)≤((aw t.data.toList).length:Int))=true:=decide_eq_true (by omega)
   rw [QF];simp only [ak,g1,g2,dl,Bool.not_true,and_self,and_true,true_and]
   refine ⟨⟨⟨h1,h2⟩,h1⟩,h2⟩
 ·cases h
section
variable {w0:World} {cs0:List Frame} {R:Ending→World→Prop} {xs:List (List UInt8)} {b:Nat × Nat} {n:Nat}
theorem zt {a:List (List UInt8)} (h:a≠[]) (x:List UInt8):eD (a++[x])=eD a++47::x:=lU h (by simp)
theorem tZ:∀ (a:List (List UInt8)),(∀ s∈a,s.length≤96)→(eD a).length≤a.length*97
 | [],_=>Nat.zero_le _
 | x::l,h=>by
  have hx:=h x List.mem_cons_self
  have ih:=tZ l fun s hs=>h s (List.mem_cons_of_mem _ hs)
  cases l with
  | nil=>show x.length≤_;simp only [List.length_cons,List.length_nil];omega
  | cons y r=>
   rw [gK (by simp),List.length_append,List.length_cons,List.length_cons];omega
theorem Cz (hn:n≤xs.length) (hl:xs.length≤100) (hs:∀ s∈xs,s.length≤96) (hR:∀ w',Below w0.heap.size w0 w'→R (.returned (.string (mk (eD (xs.take n))))) w'):∀ (j i:Nat),i+j=n→
  af aL (aT [b] [(.look (cP xs),false)]) w0 cs0 46 R (aE [b]) (SM.at (xh n b.2 (mk (eD (xs.take i))) i) 6 [cD (cP xs)])
 | 0,i,hj=>by
  have hi:i=n:=by omega
  subst hi
  refine cz de kQ (n:=60) (o:=ff [0] false) (v:=.string (mk (eD (xs.take i)))) ⟨?_⟩ hR
  rw [QX];simp only [ak,and_self,and_true,true_and];exact decide_eq_false (by omega)
 | j+1,i,hj=>by
  have hi:i<xs.length:=by omega
  have t1:decide ((i:Int)<(n:Int))=true:=decide_eq_true (by omega)
  have r1:ao (i:Int) n=true:=aO (by omega)
  have g1:(cP xs)[0+i*1]?=some (.v (.string (mk xs[i]))):=by simp [cP,hi]
  have ws:=aM (k:=i) (by omega)
  have z1:=hs _ (List.getElem_mem hi)
  have z2:=tZ (xs.take i) fun s h=>hs s (List.mem_of_mem_take h)
  rw [List.length_take] at z2
  have q1:(mk xs[i]).size≤96:=z1
  have q2:(mk (eD (xs.take i))).size≤100*97:=by show (eD (xs.take i)).length≤_;omega
  have nx:=Cz hn hl hs hR j (i+1) (by omega)
  rw [List.take_succ_eq_append_getElem hi] at nx
  by_cases h0:i=0
  ·subst h0
   have e:mk (eD (xs.take 0++[xs[0]]))=mk (eD (xs.take 0))++mk xs[0]:=by rw [rL];rfl
   rw [e] at nx
   refine af.reach de (k:=2) (n:=60) (o:=(ff [0] true++ff [1] false++[(3,.cells [.v (.string (mk xs[0]))])])) (ren:=[(0,0)]) (eqs:=[0]) ?_ (by kernel_rfl) (fun i b h=>by rw [fQ h];rfl) nx
   have t2:decide (((0:Nat):Int)>0)=false:=by decide
   rw [OC]
   simp only [ak,Int.toNat_natCast,t1,t2,r1,g1,ws,dR,and_self,and_true,true_and]
   exact (by omega:(mk (eD (xs.take 0))).size+(mk xs[0]).size≤9223372036854775807)
  ·have e:mk (eD (xs.take i++[xs[i]]))=mk (eD (xs.take i))++bF++mk xs[i]:=by
    rw [zt (by rw [← List.length_pos_iff,List.length_take];omega),show bF=mk [47] from rfl,rL,rL];simp
   rw [e] at nx
   refine af.reach de (k:=2) (n:=60) (o:=(ff [0] true++ff [1] true++[(4,.cells [.v (.string (mk xs[i]))])])) (ren:=[(0,0)]) (eqs:=[0]) ?_ (by kernel_rfl) (fun i b h=>by rw [fQ h];rfl) nx
   have t2:decide ((i:Int)>0)=true:=decide_eq_true (by omega)
   have sl:(⟨⟨[47]⟩⟩:ByteArray)=bF:=rfl
   have q3:(mk (eD (xs.take i))++bF).size=(mk (eD (xs.take i))).size+1:=by rw [ByteArray.size_append];rfl
   rw [Qi]
   simp only [ak,Int.toNat_natCast,t1,t2,r1,g1,ws,sl,dR,and_self,and_true,true_and]
   refine ⟨(by omega:(mk (eD (xs.take i))).size+1≤9223372036854775807),(by omega:(mk (eD (xs.take i))++bF).size+(mk xs[i]).size≤9223372036854775807)⟩
end
theorem wG (l:List (List UInt8)):h8.jl (cP l)=l:=by
 unfold h8.jl cP
 rw [List.map_map]
 conv=>rhs;rw [← List.map_id l]
 exact List.map_congr_left fun s _=>by simp [mk]
theorem Ek {X:World→Prop}:cr Try.prog X (46,eE h8):=by
 refine fP ⟨_,Try.func46,by kernel_rfl,by kernel_rfl⟩ fun args sh v q h hp ν M w0 w a hr hX ha=>?_
 dsimp only [h8] at h
 split at h
 ·rename_i i n
  split at h
  ·rename_i ys e1 z1 x1 m1 hl
   cases h
   obtain ⟨hc,hn,hfew,hs⟩:=hp
   generalize h8.jl ys=xs at *
   subst hc
   obtain ⟨y1,as1,rfl,q1,ha2⟩:=ha.cons_inv
   obtain rfl:=ha2.aB
   obtain ⟨bb,hbb,hle,rfl⟩:=VR.aQ.1 q1
   refine lL (E:=aL) rfl rfl hr hl (dR xs) (args':=fun c=>[.sl 0 0 n (some c)]) (S0:=fun c=>CB (cP xs) n c) (fun b hb=>?_) (fun c=>by kernel_rfl) fun b cs0=>?_
   ·rw [hbb] at hb;cases hb
    have hle':n≤bb.2:=hle
    exact ay.cons (VR.aQ.2 ⟨bb,rfl,hle',rfl⟩) ay.nil
   ·have nx:=Cz (w0:=w) (cs0:=cs0) (b:=b) (xs:=xs) (n:=n) (R:=fun e w'=>Below w.heap.size w w'∧e=.returned (.string (mk (eD (xs.take n))))) hn hfew hs (fun w' hw=>⟨hw,rfl⟩) n 0 (by omega)
    refine af.reach de (k:=2) (n:=60) (o:=[(1000,.b true)]) (ren:=[(0,0)]) (eqs:=[0]) (F:=xh n b.2 ⟨#[]⟩ 0) (d:=6) (l:=[cD (cP xs)]) ?_ (by kernel_rfl) (fun i b h=>by rw [fQ h];rfl) nx
    rw [O6]
    simp only [ak,dR,and_self]
  ·cases h
 ·cases h
theorem P2 {M:Own} {w0:World}:aW GN M w0:=
 aW.Bg (Checked.mixed Try.checked) (by kernel_rfl) (gu.of ke rfl eY) (ep.list (X:=fun _=>True) (l:=Nq) rfl (fun r hr=>by
  simp only [Nq,List.mem_cons,List.not_mem_nil,or_false] at hr
  rcases hr with rfl | rfl | rfl
  ·exact qH
  ·exact cr.pure (r:=(26,lk)) sq
  ·exact Ek) fun ν s w hr _=>trivial) (fun f g h=>by cases h)
theorem zP:dE Try.prog (fun _=>True) (30,wc):=by
 refine .mk ⟨_,Try.func30,by kernel_rfl,by kernel_rfl⟩ fun args v p h hp w hX=>?_
 dsimp only [wc] at h
 split at h
 ·rename_i p
  cases h
  have go:∀ {o v},uw (ax GN 30 300 (ch GN 30 [.v (.string p)]) o v)→v=.string (aq p)→Calls Try.prog 30 #[.string p] w fun e w'=>Below w.heap.size w w'∧e=.returned (.string (aq p)):=fun h e=>
   e ▸ ek (E:=GN) (args:=[.v (.string p)]) rfl rfl P2 (by kernel_rfl) (ay.cons (VR.ah.2 rfl) ay.nil) h
  cases g:a7 p
  ·refine go (o:=[(1000,.b true)]++ff (List.range 30) true) (v:=.string ⟨#[]⟩) ⟨?_⟩ (by simp [aq,g])
   rw [RG];simp only [ak,g,Bool.not_false,and_self,and_true,true_and];exact hp
  ·have hg:=g
   unfold a7 at hg
   rw [Bool.and_eq_true,decide_eq_true_eq] at hg
   have h6:=((jP 6 p).1 hg.2).1
   have l1:p.data.toList.length=p.size:=by simp
   have a1:=(fJ p.data.toList).2
   have hpos:0<(aw p.data.toList).length:=List.length_pos_iff.2 (cO _)
   have ew:(IntKind.i64.wrap (((aw p.data.toList).length:Int) - 1)).toNat=(aw p.data.toList).length - 1:=by rw [wi (by omega)];omega
   refine go (o:=[(1000,.b true)]++ff [1] false++ff (List.range 30) true) (v:=.string (mk (eD (List.take (IntKind.i64.wrap (((aw p.data.toList).length:Int) - (1:Int))).toNat (h8.jl (List.map SV.v (vP (aw p.data.toList)))))))) ⟨?_⟩ ?_
   ·rw [O4]
    simp only [ak,g,ew,zo,wG,Bool.not_true,and_self,and_true,true_and]
    repeat' apply And.intro
    all_goals first | exact hp | exact decide_eq_true ⟨by rw [wi (by omega)];omega,by rw [wi (by omega)];omega⟩ | omega | exact (fun s hs=>by have:=a1 s hs;omega)
   ·rw [ew,zo,wG]
    unfold aq xF
    rw [g,List.dropLast_eq_take];rfl
 ·cases h
structure aA where
 p:ByteArray
 k:Int
 a:Option Addr
 l:Nat
 c:Nat
def iC (e:aA):List SV:=[.v (.string e.p),.v (.int .i64 e.k),.v (.slice e.a e.l e.c)]
def iV (e:aA):List Value:=[.string e.p,.int .i64 e.k,.slice e.a e.l e.c]
def jN (l:List SV):Option (SO × Bool):=some (.row l 41 (0,0) (some 3),true)
def cI (l:List aA):List SV:=l.flatMap iC
def vI (l:List aA):List Value:=l.flatMap iV
theorem cV (e:aA):(iC e).length=3:=rfl
theorem bt (e:aA):(iC e).all ab=true:=rfl
theorem oX (a b:List aA):cI (a++b)=cI a++cI b:=by simp [cI]
theorem ju (e:aA):cI [e]=iC e:=by simp [cI]
theorem ic:∀ a:List aA,(cI a).length=a.length*3
 | []=>rfl
 | e::a=>by
  have:=ic a
  show (iC e++cI a).length=_
  rw [List.length_append,this,cV,List.length_cons];omega
theorem az (a:List aA):(cI a).all ab=true:=by
 rw [List.all_eq_true];intro x hx
 obtain ⟨r,_,hx⟩:=List.mem_flatMap.1 hx
 exact List.all_eq_true.1 (bt r) x hx
theorem oA (a:List aA):(cI a).all SV.flat=true:=by
 rw [List.all_eq_true];intro x hx
 obtain ⟨r,_,hx⟩:=List.mem_flatMap.1 hx
 exact List.all_eq_true.1 (show (iC r).all SV.flat=true from rfl) x hx
theorem cR:∀ l:List aA,(vI l).map SV.v=cI l
 | []=>rfl
 | r::l=>by
  show (iV r++vI l).map SV.v=iC r++cI l
  rw [List.map_append,cR l];rfl
theorem vX {ν:aU} {l:List aA} {zs:List Value} (h:ay ν (cI l) zs):zs=vI l:=by
 rw [← cR] at h
 exact eF h (ay.lits ν (vI l))
theorem qV {xs:List aA} {k:Nat} {x:aA} (h:xs[k]?=some x):List.take 3 (List.drop (0+k*3) (cI xs))=iC x:=by
 rw [Nat.zero_add];exact iL cV h
theorem hQ {xs:List aA} {k:Nat} {x:aA} (h:xs[k]?=some x):(cI xs)[0+k*3+0]?=some (.v (.string x.p)):=by
 have h2:(List.take 3 (List.drop (0+k*3) (cI xs)))[0]?=(iC x)[0]?:=by rw [qV h]
 rw [List.getElem?_take,if_pos (by decide),List.getElem?_drop] at h2
 exact h2
def Km (l:List SV):aA:=match l with
 | [.v (.string p),.v (.int _ k),.v (.slice a l c)]=>⟨p,k,a,l,c⟩
 | _=>⟨⟨#[]⟩,0,none,0,0⟩
theorem GG (e:aA):Km (iC e)=e:=rfl
def ae (ys:List SV) (n:Nat):List aA:=z6 Km 3 n ys
theorem aN (l:List aA):ae (cI l) l.length=l:=l5 cV GG l
structure bc (ys:List SV) (n:Nat) (l:List aA):Prop where
 cells:ys=cI l
 len:n=l.length
 few:n≤1000
def oR (p:ByteArray) (e:aA):Bool:=e.p.data.toList==p.data.toList
def bW (p:ByteArray) (l:List aA):List aA:=l.filter fun e=>!oR p e
noncomputable def DT (l:List SV) (n c:Nat) (p:ByteArray):SM:=(bC aL 29 [.sl 0 0 n (some c),.v (.string p)] (bO 6 1 0 [Jb l])).getD dC
where Jb (l:List SV):Option (SO × Bool):=some (.look l,false)
noncomputable def Ih:List SI:=dn aL 2 60 (DT [] 0 0 ⟨#[]⟩) [(1000,.b true)]
noncomputable def oz (n c:Nat) (p:ByteArray) (x:SV) (i:Int):SF:={ fn:=29,tm:=eO 28 6 ([.sl 0 0 n (some c),.v (.string p),.aJ,.aJ,.aJ,x,.v (.int .i64 i)]++List.replicate 21 .aJ),todo:=Ih,defers:=[],ret:=false,kind:=.normal,ro:=none }
theorem Q6 (l:List SV) (n c:Nat) (p:ByteArray):reach aL 2 60 (DT l n c p) [(1000,.b true)] [(0,0)] [0] (oz n c p aK 0) 6 [cD l]=[0=0∧n=n∧some c=some c,Value.string p=Value.string p,Value.slice none 0 0=Value.slice none 0 0,vZ 0=vZ 0,l=l,l.all ab=true]:=by kernel_rfl
theorem PF (l:List SV) (n c:Nat) (p q:ByteArray) (i i':Int):reach aL 2 60 (SM.at (oz n c p aK i) 6 [cD l]) (ff [0] true++[(2,.cells [.v (.string q)])]++ff [3] false) [(0,0)] [0] (oz n c p aK i') 6 [cD l]=[0=0∧n=n∧some c=some c,Value.string p=Value.string p,Value.slice none 0 0=Value.slice none 0 0,vZ (IntKind.i64.wrap (i+1))=vZ i',l=l,l.all ab=true,(!q.toList==p.toList)=false,l[0+i.toNat*3+0]?=some (SV.v (Value.string q)),ao i n=true,decide (i<(↑n:Int))=true]:=by kernel_rfl
theorem OL (l l':List SV) (n c:Nat) (p q:ByteArray) (i i':Int) (e:aA):reach aL 2 60 (SM.at (oz n c p aK i) 6 [cD l]) (ff [0] true++[(2,.cells [.v (.string q)])]++ff [3] true++[(5,.cells (iC e))]) [(0,0),(1,2)] [0,1] (oz n c p (.sl 1 0 1 none) i') 6 [cD l,jN l']=[0=0∧n=n∧some c=some c,Value.string p=Value.string p,0=0∧1=1∧nZ=none,vZ (IntKind.i64.wrap (i+1))=vZ i',l=l,l.all ab=true,[]++List.take 3 (List.drop 0 (aX (List.replicate 1 (List.map SV.v [Value.string ⟨⟨[]⟩⟩,vZ 0,Value.slice none 0 0])).flatten 0 (iC e)))=l',l'.all ab=true,List.take 3 (List.drop (0+i.toNat*3) l)=iC e∧(iC e).length=3,ao i n=true,(!q.toList==p.toList)=true,l[0+i.toNat*3+0]?=some (SV.v (Value.string q)),ao i n=true,decide (i<(↑n:Int))=true]:=by kernel_rfl
theorem Rc (l m:List SV) (n c k:Nat) (p q:ByteArray) (i i':Int):reach aL 2 60 (SM.at (oz n c p (.sl 1 0 k none) i) 6 [cD l,jN m]) (ff [0] true++[(2,.cells [.v (.string q)])]++ff [3] false) [(0,0),(1,1)] [0,1] (oz n c p (.sl 1 0 k none) i') 6 [cD l,jN m]=[0=0∧n=n∧some c=some c,Value.string p=Value.string p,0=0∧k=k∧nZ=none,vZ (IntKind.i64.wrap (i+1))=vZ i',l=l,l.all ab=true,m=m,m.all ab=true,(!q.toList==p.toList)=false,l[0+i.toNat*3+0]?=some (SV.v (Value.string q)),ao i n=true,decide (i<(↑n:Int))=true]:=by kernel_rfl
theorem QL (l m l' w:List SV) (n c k:Nat) (p q:ByteArray) (i i':Int) (e:aA):reach aL 2 60 (SM.at (oz n c p (.sl 1 0 k none) i) 6 [cD l,jN m]) (ff [0] true++[(2,.cells [.v (.string q)])]++ff [3] true++[(5,.cells (iC e)),(6,.app m w)]) [(0,0),(1,3)] [0,1] (oz n c p (.sl 1 0 (k+1) none) i') 6 [cD l,jN l']=[0=0∧n=n∧some c=some c,Value.string p=Value.string p,0=0∧k+1=k+1∧nZ=none,vZ (IntKind.i64.wrap (i+1))=vZ i',l=l,l.all ab=true,m++w=l',l'.all ab=true,((List.take 3 (List.drop 0 (aX (List.replicate 1 (List.map SV.v [Value.string ⟨⟨[]⟩⟩,vZ 0,Value.slice none 0 0])).flatten 0 (iC e)))=w∧w.length=1*3)∧1≠0∧(2*(k+1)+1024)*48≤140737488355328)∧List.take (k*3) m=m∧m.length=k*3∧w.all SV.flat=true,List.take 3 (List.drop (0+i.toNat*3) l)=iC e∧(iC e).length=3,ao i n=true,(!q.toList==p.toList)=true,l[0+i.toNat*3+0]?=some (SV.v (Value.string q)),ao i n=true,decide (i<(↑n:Int))=true]:=by kernel_rfl
theorem Pz (l:List SV) (n c:Nat) (p:ByteArray) (i:Int) (v:Value):ax aL 29 60 (SM.at (oz n c p aK i) 6 [cD l]) (ff [0] false) v=[Value.slice none 0 0=v,decide (i<(↑n:Int))=false]:=by kernel_rfl
theorem Pu (l m:List SV) (n c k:Nat) (p:ByteArray) (i:Int):bR aL 29 60 (SM.at (oz n c p (.sl 1 0 k none) i) 6 [cD l,jN m]) (ff [0] false) (.sl 1 0 k none) 1 (.row m 41 (0,0) (some 3))=[0=0∧k=k∧nZ=none,m=m,m.all ab=true,decide (i<(↑n:Int))=false]:=by kernel_rfl
theorem sz (p:ByteArray) {xs:List aA} {i:Nat} (h:i<xs.length):bW p (xs.take (i+1))=bW p (xs.take i)++(if oR p xs[i]=true then [] else [xs[i]]):=by
 rw [List.take_succ_eq_append_getElem h]
 unfold bW
 rw [List.filter_append]
 congr 1
 cases hp:oR p xs[i] <;> simp [hp]
theorem uu (p:ByteArray) (xs:List aA):(bW p xs).length≤xs.length:=List.length_filter_le _ _
theorem nL {E:Env} {M:Own} {w0:World} {cs0:List Frame} {f:FuncId} {R:Ending→World→Prop} {ν:aU} {n:Nat} {S:SM} {o:List (Nat × gX)} {m j:Nat} {l:List aA} (K:aW E M w0) (hM:∀ z,¬ M z)
  (h:uw (bR E f n S o (.sl j 0 m none) j (.row (cI l) 41 (0,0) (some 3)))) (hR:∀ w' y,Below w0.heap.size w0 w'→cy w0 w' y (vI l) m 3 41→R (.returned y) w'):af E M w0 cs0 f R ν S:=
 af.bR K h.out fun ν' w' y b ob hv hb ho hor hw hB=>by
  have hn:w0.heap.size≤b.1:=by
   rcases hw with h | h
   ·exact h
   ·exact absurd h (hM _)
  obtain ⟨_,_,_,_,hB,hr⟩:=hB
  exact hR w' y (aI hM hB hr) (cy.e8 hv hb ho hor hn fun zs hz=>vX hz)
def NL (w0:World) (xs:List aA) (e:Ending) (w':World):Prop:=
 Below w0.heap.size w0 w'∧((xs=[]∧e=.returned (.slice none 0 0))∨(xs≠[]∧∃ y,e=.returned y∧cy w0 w' y (vI xs) xs.length 3 41))
section
variable {w0:World} {cs0:List Frame} {xs:List aA} {p:ByteArray} {b:Nat × Nat} {c:Nat}
theorem vT (hl:xs.length≤1000):∀ (j i:Nat),i+j=xs.length→bW p (xs.take i)≠[]→
  af aL (aT [b] [(.look (cI xs),false)]) w0 cs0 29 (NL w0 (bW p xs)) (aE [b]) (SM.at (oz xs.length c p (.sl 1 0 (bW p (xs.take i)).length none) i) 6 [cD (cI xs),jN (cI (bW p (xs.take i)))])
 | 0,i,hj,hne=>by
  rw [List.take_of_length_le (by omega)] at hne ⊢
  refine nL (j:=1) de kQ (n:=60) (o:=ff [0] false) ⟨?_⟩ fun w' y hB hy=>⟨hB,.inr ⟨hne,y,rfl,hy⟩⟩
  rw [Pu]
  simp only [ak,az,and_self,and_true,true_and]
  exact decide_eq_false (by omega)
 | j+1,i,hj,hne=>by
  have hi:i<xs.length:=by omega
  have hsn:=sz p hi
  have hxi:xs[i]?=some xs[i]:=List.getElem?_eq_getElem hi
  have t1:decide ((i:Int)<(xs.length:Int))=true:=decide_eq_true (by omega)
  have r1:=aO hi
  have ws:=aM (k:=i) (by omega)
  have rc:=hQ hxi
  have ra:=qV hxi
  have hbl:(bW p (xs.take i)).length≤1000:=Nat.le_trans (uu _ _) (by rw [List.length_take];omega)
  cases hq:oR p xs[i]
  ·have hq':(xs[i].p.toList==p.toList)=false:=by rw [oP,oP];exact hq
   rw [hq,if_neg (by decide)] at hsn
   have nx:=vT hl j (i+1) (by omega) (by rw [hsn];simp)
   rw [hsn,List.length_append,show ([xs[i]]:List aA).length=1 from rfl] at nx
   refine af.reach de (k:=2) (n:=60) (o:=(ff [0] true++[(2,.cells [.v (.string xs[i].p)])]++ff [3] true++[(5,.cells (iC xs[i])),(6,.app (cI (bW p (xs.take i))) (iC xs[i]))])) (ren:=[(0,0),(1,3)]) (eqs:=[0,1]) ?_ (by kernel_rfl) (fun i b h=>by rw [fQ h];rfl) nx
   rw [QL]
   simp only [ak,Int.toNat_natCast,t1,r1,rc,ra,hq',ws,cV,az,oA,oX,ju,ic,List.all_append,Bool.not_false,and_self,and_true,true_and]
   repeat' apply And.intro
   all_goals first | rfl | omega | exact List.take_of_length_le (by rw [ic];exact Nat.le_refl _) | exact bt _ | skip
  ·have hq':(xs[i].p.toList==p.toList)=true:=by rw [oP,oP];exact hq
   rw [hq,if_pos rfl,List.append_nil] at hsn
   have nx:=vT hl j (i+1) (by omega) (by rw [hsn];exact hne)
   rw [hsn] at nx
   refine af.reach de (k:=2) (n:=60) (o:=(ff [0] true++[(2,.cells [.v (.string xs[i].p)])]++ff [3] false)) (ren:=[(0,0),(1,1)]) (eqs:=[0,1]) ?_ (by kernel_rfl) (fun i b h=>by rw [fQ h];rfl) nx
   rw [Rc]
   simp only [ak,Int.toNat_natCast,t1,r1,rc,hq',ws,az,Bool.not_true,and_self]
theorem A0 (hl:xs.length≤1000):∀ (j i:Nat),i+j=xs.length→bW p (xs.take i)=[]→
  af aL (aT [b] [(.look (cI xs),false)]) w0 cs0 29 (NL w0 (bW p xs)) (aE [b]) (SM.at (oz xs.length c p aK i) 6 [cD (cI xs)])
 | 0,i,hj,hn=>by
  rw [List.take_of_length_le (by omega)] at hn
  refine cz de kQ (n:=60) (o:=ff [0] false) (v:=.slice none 0 0) ⟨?_⟩ fun w' hw=>⟨hw,.inl ⟨hn,rfl⟩⟩
  rw [Pz]
  simp only [ak,and_self,and_true,true_and]
  exact decide_eq_false (by omega)
 | j+1,i,hj,hn=>by
  have hi:i<xs.length:=by omega
  have hsn:=sz p hi
  have hxi:xs[i]?=some xs[i]:=List.getElem?_eq_getElem hi
  have t1:decide ((i:Int)<(xs.length:Int))=true:=decide_eq_true (by omega)
  have r1:=aO hi
  have ws:=aM (k:=i) (by omega)
  have rc:=hQ hxi
  have ra:=qV hxi
  cases hq:oR p xs[i]
  ·have hq':(xs[i].p.toList==p.toList)=false:=by rw [oP,oP];exact hq
   rw [hq,if_neg (by decide),hn,List.nil_append] at hsn
   have nx:=vT (w0:=w0) (cs0:=cs0) (b:=b) (c:=c) (p:=p) hl j (i+1) (by omega) (by rw [hsn];simp)
   rw [hsn,show ([xs[i]]:List aA).length=1 from rfl] at nx
   refine af.reach de (k:=2) (n:=60) (o:=(ff [0] true++[(2,.cells [.v (.string xs[i].p)])]++ff [3] true++[(5,.cells (iC xs[i]))])) (ren:=[(0,0),(1,2)]) (eqs:=[0,1]) ?_ (by kernel_rfl) (fun i b h=>by rw [fQ h];rfl) nx
   rw [OL]
   simp only [ak,Int.toNat_natCast,t1,r1,rc,ra,hq',ws,cV,az,ju,Bool.not_false,and_self,and_true,true_and]
   repeat' apply And.intro
   all_goals first | rfl | omega | exact bt _ | skip
  ·have hq':(xs[i].p.toList==p.toList)=true:=by rw [oP,oP];exact hq
   rw [hq,if_pos rfl,List.append_nil] at hsn
   have nx:=A0 hl j (i+1) (by omega) (by rw [hsn];exact hn)
   refine af.reach de (k:=2) (n:=60) (o:=(ff [0] true++[(2,.cells [.v (.string xs[i].p)])]++ff [3] false)) (ren:=[(0,0)]) (eqs:=[0]) ?_ (by kernel_rfl) (fun i b h=>by rw [fQ h];rfl) nx
   rw [PF]
   simp only [ak,Int.toNat_natCast,t1,r1,rc,hq',ws,az,aK,Bool.not_true,and_self]
end
def l6:GX:=fun args sh=>match args with
 | [.sl i 0 n none,.v (.string p)]=>match sh.look i with
  | some (.row ys _ _ _,_)=>some (vI (bW p (ae ys n)),(bW p (ae ys n)).length,3,41,none,bc ys n (ae ys n)∧bW p (ae ys n)≠[])
  | _=>none
 | _=>none
def tG:Co:=fun args sh=>match args with
 | [.sl i 0 n none,.v (.string p)]=>match sh.look i with
  | some (.row ys _ _ _,_)=>some (.slice none 0 0,bc ys n (ae ys n)∧bW p (ae ys n)=[])
  | _=>none
 | _=>none
theorem k7 {ν:aU} {M:Own} {w0 w:World} {sh:SH} (hr:HR ν M w0 sh w) {i n:Nat} {ys:List SV} {e:TypeId} {fz:Nat × Nat} {x:Option Nat} {mk:Bool} {p:ByteArray} {xs:List aA} (hl:sh.look i=some (.row ys e fz x,mk)) (h:bc ys n xs) {a:List Value}
  (ha:ay ν [.sl i 0 n none,.v (.string p)] a):Calls Try.prog 29 a.toArray w (NL w (bW p xs)):=by
 obtain ⟨rfl,rfl,hfew⟩:=h
 obtain ⟨y1,as1,rfl,q1,ha2⟩:=ha.cons_inv
 obtain ⟨y2,as2,rfl,q2,ha3⟩:=ha2.cons_inv
 obtain rfl:=ha3.aB
 obtain rfl:=VR.ah.1 q2
 obtain ⟨bb,hbb,hle,rfl⟩:=VR.aQ.1 q1
 refine lL (E:=aL) rfl rfl hr hl (az xs) (args':=fun c=>[.sl 0 0 xs.length (some c),.v (.string p)]) (S0:=fun c=>DT (cI xs) xs.length c p) (fun b hb=>?_) (fun c=>by kernel_rfl) fun b cs0=>?_
 ·rw [hbb] at hb;cases hb
  have hle':xs.length≤bb.2:=hle
  exact ay.cons (VR.aQ.2 ⟨bb,rfl,hle',rfl⟩) (ay.cons (VR.ah.2 rfl) ay.nil)
 ·have nx:=A0 (w0:=w) (cs0:=cs0) (b:=b) (c:=b.2) (p:=p) (xs:=xs) hfew xs.length 0 (by omega) rfl
  refine af.reach de (k:=2) (n:=60) (o:=[(1000,.b true)]) (ren:=[(0,0)]) (eqs:=[0]) (F:=oz xs.length b.2 p aK 0) (d:=6) (l:=[cD (cI xs)]) ?_ (by kernel_rfl) (fun i b h=>by rw [fQ h];rfl) nx
  rw [Q6]
  simp only [ak,az,and_self]
noncomputable def Es (p:ByteArray):SM:=(bC aL 29 [.v (.slice none 0 0),.v (.string p)] (bO 6 0 0 [])).getD dC
theorem Qs (p:ByteArray) (v:Value):ax aL 29 60 (Es p) [(1000,.b true)] v=[Value.slice none 0 0=v]:=by kernel_rfl
end paths
end Go.Proofs.Ytbjmmnegkpeboaa
