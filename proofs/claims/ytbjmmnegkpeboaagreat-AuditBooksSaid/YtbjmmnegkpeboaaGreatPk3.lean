/- What the law AuditBooks leans on, part 3: the symbolic executor, proved sound, contracts of functions, plain lemmas. By an AI agent. -/
import Derived.Test.YtbjmmnegkpeboaaGreatPk2
import Derived.SevenTiedAt
import Derived.Stop.Joined
import Derived.Lib.LaidTab
import Derived.Test.YtbjmmnegkpeboaaGreatChecked
import Derived.IntWalk
import Derived.Shelf.LaysM
import Derived.Shelf.Strings.Cut
import Derived.Shelf.Small.Strs
import Derived.WalkSmall
set_option linter.unusedSimpArgs false
set_option linter.unusedVariables false
namespace Go.Rx
open Go.RowKit (Below)
section
variable {E:Env} {ν:Val} {M:Own} {w0 w:World} {s s':SH} {cs0:List Frame} {f:FuncId} {R:Ending→World→Prop}

theorem Goes.mono {ν':Val} {S:SM} (h:Goes E M w0 cs0 f R ν S) (k:ν.Le ν'):Goes E M w0 cs0 f R ν' S:=fun ν1 m M1 w1 hle=>h ν1 m M1 w1 (k.trans hle)

theorem runV_safe (K:Facts E M w0) (hR:∀ ν' M1 w1 s' w',ν.Le ν'→Base M w0 M1 w1→HR ν' M1 w1 s' w'→R (.returned (.bool true)) w'):∀ {n:Nat} {l l':List SM},runV E f n l=some l'→
  (∀ S∈l',S.mem.ob∧Goes E M w0 cs0 f R ν S)→∀ S∈l,S.mem.ob∧Goes E M w0 cs0 f R ν S
 | 0,_,_,h,hs=>by cases h;exact hs
 | _+1,[],_,_,_=>fun S hS=>by cases hS
 | n+1,S::l,l',h,hs=>by
  unfold runV at h
  cases ho:S.over
  ·rw [ho] at h
   simp only [cond_false] at h
   split at h
   ·cases h
   ·rename_i Ls hL
    have ih:=runV_safe K hR h hs
    intro T hT
    rcases List.mem_cons.1 hT with rfl | hT
    ·obtain ⟨hne,hmono⟩:=step1_mono hL
     obtain ⟨U,r,hU⟩:=List.exists_cons_of_ne_nil hne
     refine ⟨hmono U (by rw [hU];exact List.mem_cons_self) (ih U (List.mem_append_left _ (by rw [hU];exact List.mem_cons_self))).1,?_⟩
     intro ν' m M1 w1 hle hB hm
     obtain ⟨V,hV,hstep⟩:=step1_ok K hB hm hL
     obtain ⟨ob,hgo⟩:=ih V (List.mem_append_left _ hV)
     obtain ⟨_,ν2,m',M2,w2,hle2,hst,hB2,hMR⟩:=hstep ob
     exact (hgo ν2 m' M2 w2 (hle.trans hle2) hB2 hMR).steps hst
    ·exact ih T (List.mem_append_right _ hT)
  ·rw [ho] at h
   simp only [cond_true] at h
   cases hk:okEnd E f S
   ·rw [hk] at h;cases h
   ·rw [hk] at h
    simp only [cond_true] at h
    have ih:=runV_safe K hR h hs
    intro T hT
    rcases List.mem_cons.1 hT with rfl | hT
    ·unfold okEnd at hk
     split at hk
     ·rename_i s1 he
      have ob:s1.ob:=by
       show Owed s1.obl
       rw [List.isEmpty_iff.1 hk];trivial
      refine ⟨resultsS_mono' he ob,Goes.done he ob fun ν' M1 w1 w' v hle hB hv hr hg=>?_⟩
      rw [VR.v_iff.1 hv]
      exact hR ν' M1 w1 s1 w' hle hB hr
     ·cases hk
    ·exact ih T hT


theorem TmR.junk {tm:STm} {a:Array Value} (r:TmR ν tm a) (t:Nat):TmR ν (tm.set t .junk) a:=by
 have h:=r.set t (x:=.junk) (y:=a.getD t undef) (by rw [VR];trivial)
 have e:a.setIfInBounds t (a.getD t undef)=a:=by
  apply Array.ext
  ·simp
  ·intro i h1 h2
   rw [Array.getElem_setIfInBounds (by simpa using h1)]
   split
   ·rename_i e;subst e
    have:t<a.size:=h2
    simp [Array.getD,this]
   ·rfl
 rwa [e] at h

def STm.junks (tm:STm) (l:List Nat):STm:=l.foldl (fun tm t=>tm.set t .junk) tm
theorem TmR.junks:∀ {l:List Nat} {tm:STm} {a:Array Value},TmR ν tm a→TmR ν (tm.junks l) a
 | [],_,_,h=>h
 | t::l,_,_,h=>TmR.junks (l:=l) (h.junk t)

def notDrw:List SI→Bool
 | .drw _ _ _::_=>false
 | _=>true

def SF.junks (F:SF) (l:List Nat):SF:=bif notDrw F.todo then { F with tm:=F.tm.junks l } else F

theorem WaitF.junks {hl:List Nat} {F:SF} {fr:Frame} (h:WaitF E ν M w0 hl F fr) (l:List Nat):WaitF E ν M w0 hl (F.junks l) fr:=by
 unfold SF.junks
 cases hn:notDrw F.todo
 ·exact h
 ·obtain ⟨fn,tm,todo,defers,ret,kind,ro⟩:=F
  obtain ⟨fn',tmps,todo',defers',mode',kind',ro'⟩:=fr
  obtain ⟨⟨h1,h2,h3,h4⟩,hret,hmode,hw⟩:=h
  dsimp only at h1 h2 h3 h4 hret hmode hw hn
  refine ⟨⟨h1,h2,h3,h4⟩,hret,hmode,?_⟩
  cases hw with
  | plain ht hk=>exact .plain (ht.junks) hk
  | drw hok hn' d hnl hk=>cases hn

theorem RetF.junks {F:SF} {fr:Frame} (h:RetF ν F fr) (l:List Nat):RetF ν (F.junks l) fr:=by
 unfold SF.junks
 cases hn:notDrw F.todo
 ·exact h
 ·exact ⟨⟨h.base.fn,h.base.defers,h.base.kind,h.base.ro⟩,h.ret,h.mode,h.tm.junks⟩

theorem SF.junks_kind (F:SF) (l:List Nat):(F.junks l).kind=F.kind:=by unfold SF.junks;cases notDrw F.todo <;> rfl

def junksL:List SF→List (List Nat)→List SF
 | F::Fs,l::ls=>F.junks l::junksL Fs ls
 | Fs,[]=>Fs
 | [],_=>[]

theorem CallersR.junks {hl:List Nat} {k:CallKind} {Fs:List SF} {frs:List Frame} (c:CallersR E ν M w0 cs0 hl k Fs frs):∀ ls:List (List Nat),CallersR E ν M w0 cs0 hl k (junksL Fs ls) frs:=by
 induction c with
 | nil hnd=>intro ls;cases ls <;> exact .nil hnd
 | wait hf t ih=>
  intro ls
  cases ls with
  | nil=>exact .wait hf t
  | cons l ls=>
   have:=ih ls
   exact .wait (hf.junks l) (by rw [SF.junks_kind];exact this)
 | ret hf t ih=>
  intro ls
  cases ls with
  | nil=>exact .ret hf t
  | cons l ls=>exact .ret (hf.junks l) (by rw [SF.junks_kind];exact ih ls)

def SH.drops (s:SH) (l:List Nat):SH:=l.foldl (fun s i=>bif Nat.blt i (2 ^ s.d) then s.drop i else s) s
theorem HR.drops:∀ {l:List Nat} {s:SH},HR ν M w0 s w→HR ν M w0 (s.drops l) w
 | [],_,h=>h
 | i::l,s,h=>by
  show HR ν M w0 (SH.drops (bif Nat.blt i (2 ^ s.d) then s.drop i else s) l) w
  cases hb:Nat.blt i (2 ^ s.d)
  ·exact HR.drops (l:=l) h
  ·exact HR.drops (l:=l) (h.drop (blt_iff.1 hb))

def SH.setOn (s:SH) (nx:Nat):SH:={ s with nx:=bif Nat.ble s.nx nx then nx else s.nx,dc:=0 }
theorem HR.setOn (h:HR ν M w0 s w) (nx:Nat):HR ν M w0 (s.setOn nx) w:=by
 refine ⟨h.full,h.dom,fun i hi=>h.fresh i (Nat.le_trans ?_ hi),h.obj,h.inj,h.size,h.frame,h.ro,h.os,h.tape,h.output⟩
 show s.nx≤(bif Nat.ble s.nx nx then nx else s.nx)
 cases hb:Nat.ble s.nx nx
 ·exact Nat.le_refl _
 ·exact Nat.le_of_ble_eq_true hb

abbrev Gc:=Bool × List Nat × List (List Nat) × Nat
def SM.gc (S:SM) (g:Gc):SM:=
 bif g.1&&notDrw S.top.todo then { top:=S.top.junks (g.2.2.1.headD []),callers:=junksL S.callers g.2.2.1.tail,mem:=(S.mem.drops g.2.1).setOn g.2.2.2 } else S

theorem drops_obl:∀ {l:List Nat} {s:SH},(s.drops l).obl=s.obl
 | [],_=>rfl
 | i::l,s=>by
  show (SH.drops (bif Nat.blt i (2 ^ s.d) then s.drop i else s) l).obl=s.obl
  rw [drops_obl (l:=l)]
  cases Nat.blt i (2 ^ s.d) <;> rfl

theorem MR.gc {S:SM} {m:Machine} (h:MR E M w0 cs0 ν S m) (g:Gc):MR E M w0 cs0 ν (S.gc g) m:=by
 obtain ⟨on,os,ts,nx⟩:=g
 unfold SM.gc
 dsimp only
 cases on
 ·exact h
 cases hn:notDrw S.top.todo
 ·exact h
 simp only [Bool.and_self,cond_true]
 obtain ⟨fr,cs,w,hl,hm,hr,hg,⟨h1,h2,h3⟩,hc⟩:=h
 refine ⟨fr,cs,w,hl,hm,(hr.drops).setOn nx,hg,⟨?_,?_,?_⟩,?_⟩
 ·unfold SF.junks;rw [hn];exact ⟨h1.fn,h1.defers,h1.kind,h1.ro⟩
 ·intro hf
  have hf':S.top.ret=false:=by unfold SF.junks at hf;rw [hn] at hf;exact hf
  refine ⟨(h2 hf').1,?_⟩
  have:=(h2 hf').2
  unfold SF.junks;rw [hn]
  simp only [cond_true]
  revert this hn
  generalize S.top.todo=xs
  generalize fr.todo=ys
  intro hn this
  cases this with
  | plain ht hk=>exact .plain ht.junks hk
  | drw hok hn' d st hk=>cases hn
 ·intro hf
  have hf':S.top.ret=true:=by unfold SF.junks at hf;rw [hn] at hf;exact hf
  refine ⟨(h3 hf').1,?_⟩
  unfold SF.junks;rw [hn];exact (h3 hf').2.junks
 ·dsimp only
  rw [SF.junks_kind];exact hc.junks _

theorem Goes.gc {S:SM} {g:Gc} (h:(S.gc g).mem.ob∧Goes E M w0 cs0 f R ν (S.gc g)):S.mem.ob∧Goes E M w0 cs0 f R ν S:=by
 refine ⟨?_,fun ν' m M1 w1 hle hB hm=>h.2 ν' m M1 w1 hle hB (hm.gc g)⟩
 have:=h.1
 unfold SM.gc at this
 cases hn:(g.1&&notDrw S.top.todo)
 ·rw [hn] at this;exact this
 ·rw [hn] at this
  show Owed S.mem.obl
  have e:((S.mem.drops g.2.1).setOn g.2.2.2).ob:=this
  have e:Owed (S.mem.drops g.2.1).obl:=e
  rwa [drops_obl] at e

def gcs:List SM→List Gc→List SM
 | S::l,g::gs=>S.gc g::gcs l gs
 | l,[]=>l
 | [],_=>[]
theorem gcs_safe:∀ {l:List SM} {gs:List Gc},(∀ S∈gcs l gs,S.mem.ob∧Goes E M w0 cs0 f R ν S)→∀ S∈l,S.mem.ob∧Goes E M w0 cs0 f R ν S
 | [],_,_=>fun S hS=>by cases hS
 | S::l,[],h=>h
 | S::l,g::gs,h=>by
  intro T hT
  rcases List.mem_cons.1 hT with rfl | hT
  ·exact Goes.gc (h _ List.mem_cons_self)
  ·exact gcs_safe (l:=l) (gs:=gs) (fun U hU=>h U (List.mem_cons_of_mem _ hU)) T hT

def stageV (E:Env) (f:FuncId) (n:Nat) (l:List SM) (gs:List Gc):Option (List SM):=(runV E f n l).map fun l=>gcs l gs

theorem stageV_safe (K:Facts E M w0) (hR:∀ ν' M1 w1 s' w',ν.Le ν'→Base M w0 M1 w1→HR ν' M1 w1 s' w'→R (.returned (.bool true)) w') {n:Nat} {l l':List SM} {gs:List Gc} (h:stageV E f n l gs=some l')
  (hs:∀ S∈l',S.mem.ob∧Goes E M w0 cs0 f R ν S):∀ S∈l,S.mem.ob∧Goes E M w0 cs0 f R ν S:=by
 unfold stageV at h
 obtain ⟨l1,h1,rfl⟩:=Option.map_eq_some_iff.1 h
 exact runV_safe K hR h1 (gcs_safe hs)

def AllSafe (E:Env) (M:Own) (w0:World) (f:FuncId) (ν:Val) (l:List SM):Prop:=
 ∀ cs0,∀ S∈l,S.mem.ob∧Goes E M w0 cs0 f (fun e w'=>e=.returned (.bool true)∧Below w0.heap.size w0 w') ν S
theorem AllSafe.cons {S:SM} {l:List SM} (h:AllSafe E M w0 f ν [S]) (k:AllSafe E M w0 f ν l):AllSafe E M w0 f ν (S::l):=fun cs0 T hT=>by
 rcases List.mem_cons.1 hT with rfl | hT
 ·exact h cs0 _ List.mem_cons_self
 ·exact k cs0 T hT
theorem AllSafe.nil:AllSafe E M w0 f ν []:=fun _ _ h=>by cases h
theorem AllSafe.stage (K:Facts E M w0) (hM:∀ b,¬ M b) {n:Nat} {l l':List SM} {gs:List Gc} (h:stageV E f n l gs=some l') (hs:AllSafe E M w0 f ν l'):AllSafe E M w0 f ν l:=fun cs0=>
 stageV_safe K (fun ν' M1 w1 s' w' _ hB hr=>⟨rfl,below_of hM hB hr⟩) h (hs cs0)

theorem calls_stages {P:Program} (hP:E.P=P) {d:Nat} {l:List (Nat × List SV)} {S0:SM} (hG:E.G=(l.map (·.1)).zipIdx) (hd:l.length≤2 ^ d) (hn:(l.map (·.1)).Nodup) (told:∀ r∈l,Told w r)
  (hS0:enterS E f [] (laidMem d l)=some S0) (hs:AllSafe E (laidOwn l) w f (laidVal l) [S0]):Calls P f #[] w fun e w'=>e=.returned (.bool true)∧Below w.heap.size w w':=
 calls_pieces (a:=[]) hP hG hd hn told hS0 VRL.nil fun cs0=>(hs cs0 S0 List.mem_cons_self).2
end

def memAt (d nx dc:Nat) (l:List (Nat × SO × Bool)):SH:={ d,H:=l.foldl (fun T x=>T.set x.1 (some (x.2.1,x.2.2))) (Tr.mk none d),nx,obl:=[],dc }
def tmAt (nt d k:Nat) (l:List (Nat × SV)):STm:={ nt,d,T:=l.foldl (fun T x=>T.set x.1 x.2) (Tr.fill (Tr.mk (.v undef) d) 0 (List.replicate k .junk)) }
end Go.Rx
set_option linter.unusedSimpArgs false
set_option linter.unusedVariables false
namespace Go.Rx
open Go.RowKit
section
variable {H:Type} {enc:TypeId × Value→H}
end
end Go.Rx
set_option linter.unusedSimpArgs false
set_option linter.unusedVariables false
namespace Go.Rx
open Go.RowKit (Below)
section
variable {E:Env} {ν:Val} {M:Own} {w0 w:World} {s s':SH} {cs0:List Frame} {f:FuncId} {R:Ending→World→Prop}
def endsO (E:Env) (f:FuncId) (n:Nat) (S:SM) (o:List (Nat × Ans)) (x:SV) (i:Nat) (so:SO):List Prop:=
 match goS E SM.over n (S.with o) with
 | some T=>match endS E f T with
  | some (y,s')=>match s'.look i with
   | some (so',true)=>leV [(i,i)] x y++(leO [(i,i)] true so so'++s'.obl)
   | _=>[False]
  | none=>[False]
 | none=>[False]
theorem Goes.endsO (K:Facts E M w0) {n:Nat} {S:SM} {o:List (Nat × Ans)} {x:SV} {i:Nat} {so:SO} (h:Owed (Go.Rx.endsO E f n S o x i so))
  (hR:∀ ν' w' y b ob,VR ν' x y→ν' i=some b→w'.heap[b.1]?=some ob→OR ν' i so ob→(w0.heap.size≤b.1∨M b.1)→(∃ ν1 M1 w1 s',Base M w0 M1 w1∧HR ν1 M1 w1 s' w')→R (.returned y) w'):Goes E M w0 cs0 f R ν S:=by
 unfold Go.Rx.endsO at h
 split at h
 ·rename_i T hT
  split at h
  ·rename_i y s' hend
   split at h
   ·rename_i so' hl
    obtain ⟨h1,h2⟩:=owed_app.1 h
    obtain ⟨h3,h4⟩:=owed_app.1 h2
    refine Goes.go K hT (resultsS_mono' hend h4) (Goes.done hend h4 fun ν' M1 w1 w' u hle hB hv hr hg=>?_)
    obtain ⟨_,_,b,ob,hb,ho,hor,hw⟩:=hr.look hl
    have hii:(([(i,i)]:List (Nat × Nat)).lookup i==some i)=true:=by simp [List.lookup]
    exact hR (ν'.ren [(i,i)]) w' u b ob (leV_ok h1 hv) (ren_at hii hb) ho (leO_ok hii h3 hor) (hB.own _ (hw rfl)) ⟨ν',M1,w1,s',hB,hr⟩
   ·exact owed_false h
  ·exact owed_false h
 ·exact owed_false h
end
theorem calls_readR {E:Env} {w:World} {f:FuncId} {R:Ending→World→Prop} {P:Program} (hP:E.P=P) {args:List SV} {a:List Value} {d:Nat} {l:List (Nat × Nat)} {os:List SO} {S0:SM} (hlen:l.length=os.length) (hd:os.length≤2 ^ d) (hn:(l.map (·.1)).Nodup)
  (ho:∀ (i:Nat) (o:SO) (b c:Nat),os[i]?=some o→l[i]?=some (b,c)→∃ r,w.heap[b]?=some r∧OR (layVal l) i o r) (hG:E.G=[]) (hS0:enterS E f args (memOf d os.length 0 (os.map fun o=>some (o,false)))=some S0) (ha:VRL (layVal l) args a)
  (hs:∀ cs0,Goes E (layOwn l (os.map fun o=>(o,false))) w cs0 f R (layVal l) S0):Calls P f a.toArray w R:=by
 subst hP
 have ho':∀ (i:Nat) (o:SO) (m:Bool) (b c:Nat),(os.map fun o=>(o,false))[i]?=some (o,m)→l[i]?=some (b,c)→∃ r,w.heap[b]?=some r∧OR (layVal l) i o r:=by
  intro i o m b c h1 h2
  rw [List.getElem?_map] at h1
  obtain ⟨o',h3,h4⟩:=Option.map_eq_some_iff.1 h1
  cases h4
  exact ho i o b c h3 h2
 have hr:=lay_HR (d:=d) (w:=w) (by simpa using hlen) (by simpa using hd) hn ho'
 rw [List.map_map,List.length_map] at hr
 exact calls_of_safe hS0 hr (layOwn_r ho') (fun _ h=>h) (fun g i h=>by rw [hG] at h;cases h) ha hs
theorem calls_bareR {E:Env} {w:World} {f:FuncId} {R:Ending→World→Prop} {P:Program} (hP:E.P=P) (hG:E.G=[]) {args:List SV} {a:List Value} {S0:SM} (hS0:enterS E f args (memOf 6 0 0 [])=some S0) (ha:VRL (layVal []) args a)
  (hs:∀ cs0,Goes E (layOwn [] []) w cs0 f R (layVal []) S0):Calls P f a.toArray w R:=
 calls_readR (E:=E) hP (d:=6) (l:=[]) (os:=[]) rfl (by simp) (by simp) (fun i o b c h=>by simp at h) hG hS0 ha hs
def NewSl (W w':World) (y:Value) (ys:List Value) (n C:Nat) (elem:TypeId):Prop:=
 ∃ (b c:Nat) (rest:List Value),y=.slice (some ⟨b,0,none⟩) n c∧W.heap.size≤b∧n≤c∧w'.heap[b]?=some (.cells (ys++rest).toArray elem)∧(ys++rest).length=c*C
theorem NewSl.of_row {ν:Val} {W w':World} {i n C:Nat} {xs:List SV} {ys:List Value} {elem:TypeId} {y:Value} {b:Nat × Nat} {ob:Obj} (hv:VR ν (.sl i 0 n none) y) (hb:ν i=some b) (ho:w'.heap[b.1]?=some ob)
  (hor:OR ν i (.row xs elem (0,0) (some C)) ob) (hn:W.heap.size≤b.1) (hu:∀ zs,VRL ν xs zs→zs=ys):NewSl W w' y ys n C elem:=by
 obtain ⟨b',hb',hle,rfl⟩:=VR.sl_iff.1 hv
 rw [hb] at hb';cases hb'
 obtain ⟨zs,rest,rfl,hz,_,b2,hb2,hsz⟩:=hor
 rw [hb] at hb2;cases hb2
 obtain rfl:=hu zs hz
 have hle':n≤b.2:=hle
 exact ⟨b.1,b.2,rest,rfl,hn,hle',by simpa using ho,hsz⟩
theorem NewSl.of_one {ν:Val} {W w':World} {i n c C:Nat} {xs:List SV} {ys:List Value} {elem:TypeId} {y:Value} {b:Nat × Nat} {ob:Obj} (hv:VR ν (.sl i 0 n (some c)) y) (hb:ν i=some b) (ho:w'.heap[b.1]?=some ob)
  (hor:OR ν i (.row xs elem (0,0) none) ob) (hn:W.heap.size≤b.1) (hu:∀ zs,VRL ν xs zs→zs=ys) (hc:ys.length=c*C):NewSl W w' y ys n C elem:=by
 obtain ⟨b',hb',hle,rfl⟩:=VR.sl_iff.1 hv
 rw [hb] at hb';cases hb'
 obtain ⟨zs,rest,rfl,hz,hsz⟩:=hor
 obtain rfl:=hu zs hz
 have h0:rest=[]:=by
  have:(zs++rest).length=xs.length:=hsz
  have h2:=hz.length
  rw [List.length_append] at this
  exact List.length_eq_zero_iff.1 (by omega)
 subst h0
 exact ⟨b.1,c,[],rfl,hn,hle,by simpa using ho,by simpa using hc⟩
abbrev SlS:=List Value→Option (List Value × Nat × Nat × TypeId × Option Value × Prop)
def withEx (ex:Option Value) (x:SV):SV:=match ex with | none=>x | some v=>.tup [x,.v v]
def withExV (ex:Option Value) (y:Value):Value:=match ex with | none=>y | some v=>.tuple #[y,v]
def slSum (g:SlS):Sum:=fun args s=>match plainVs args with
 | some vs=>match g vs with
  | some (ys,n,C,elem,ex,p)=>(sNew (.row (ys.map SV.v) elem (0,0) (some C)) (s.owe p)).map fun r=>(withEx ex (.sl r.1 0 n none),r.2)
  | none=>none
 | none=>none
theorem slSum_ok {P : Program} {X : World → Prop} {f : FuncId} {g : SlS} (hf : ∃ fn, P.funcs[f]? = some fn ∧ fn.body.isSome = true ∧ (fn.name == "runtime.NumGoroutine") = false)
  (h:∀ vs ys n C elem ex p,g vs=some (ys,n,C,elem,ex,p)→p→∀ w,X w→Calls P f vs.toArray w fun e w'=>Below w.heap.size w w'∧∃ y,e=.returned (withExV ex y)∧NewSl w w' y ys n C elem):SumOK P X (f,slSum g):=by
 refine ⟨hf,fun args x s s' hx ob=>?_⟩
 dsimp only at hx
 unfold slSum at hx
 split at hx
 ·rename_i vs hvs
  split at hx
  ·rename_i ys n C elem ex p hp
   obtain ⟨⟨i,s1⟩,hn,hx⟩:=Option.map_eq_some_iff.1 hx
   cases hx
   unfold sNew at hn
   cases hroom:(s.owe p).room
   ·rw [hroom] at hn;cases hn
   rw [hroom] at hn
   simp only [cond_true] at hn
   cases hn
   have ob2:(s.owe p).ob:=ob
   refine ⟨ob2.1,fun ν M w0 w a hr hXw ha=>?_⟩
   obtain rfl:=plainVs_ok hvs ha
   refine (h a ys n C elem ex p hp ob2.2 w hXw).mono fun e w' ⟨hB,y,he,b,c,rest,hy,hb,hnc,ho,hsz⟩=>?_
   have hv:VR (ν.put (s.owe p).nx (b,c)) (.sl (s.owe p).nx 0 n none) y:=VR.sl_iff.2 ⟨(b,c),Val.put_self _ _ _,hnc,hy⟩
   refine ⟨hB,_,he,.made (s.owe p) _ b c _ (SH.owe_same _ _) hroom rfl hb ho ⟨ys,rest,by show _=_;simp,VRL.lits _ _,?_,(b,c),Val.put_self _ _ _,hsz⟩ ?_⟩
   ·simp
   ·cases ex with
    | none=>exact hv
    | some v=>exact VR.tup_iff.2 ⟨[y,v],rfl,VRL.cons hv (VRL.cons (VR.v_iff.2 rfl) VRL.nil)⟩
  ·cases hx
 ·cases hx
end Go.Rx
namespace Go.Rx
open Go.RowKit (Below)
abbrev SlG:=List SV→SH→Option (List Value × Nat × Nat × TypeId × Option Value × Prop)
def slSumG (g:SlG):Sum:=fun args s=>match g args s with
 | some (ys,n,C,elem,ex,p)=>(sNew (.row (ys.map SV.v) elem (0,0) (some C)) (s.owe p)).map fun r=>(withEx ex (.sl r.1 0 n none),r.2)
 | none=>none
theorem slSumG_ok {P : Program} {X : World → Prop} {f : FuncId} {g : SlG} (hf : ∃ fn, P.funcs[f]? = some fn ∧ fn.body.isSome = true ∧ (fn.name == "runtime.NumGoroutine") = false)
  (h:∀ args s ys n C elem ex p,g args s=some (ys,n,C,elem,ex,p)→p→∀ ν M w0 w a,HR ν M w0 s w→X w→VRL ν args a→Calls P f a.toArray w fun e w'=>Below w.heap.size w w'∧∃ y,e=.returned (withExV ex y)∧NewSl w w' y ys n C elem):SumOK P X (f,slSumG g):=by
 refine ⟨hf,fun args x s s' hx ob=>?_⟩
 dsimp only at hx
 unfold slSumG at hx
 split at hx
 ·rename_i ys n C elem ex p hp
  obtain ⟨⟨i,s1⟩,hn,hx⟩:=Option.map_eq_some_iff.1 hx
  cases hx
  unfold sNew at hn
  cases hroom:(s.owe p).room
  ·rw [hroom] at hn;cases hn
  rw [hroom] at hn
  simp only [cond_true] at hn
  cases hn
  have ob2:(s.owe p).ob:=ob
  refine ⟨ob2.1,fun ν M w0 w a hr hXw ha=>?_⟩
  refine (h args s ys n C elem ex p hp ob2.2 ν M w0 w a hr hXw ha).mono fun e w' ⟨hB,y,he,b,c,rest,hy,hb,hnc,ho,hsz⟩=>?_
  have hv:VR (ν.put (s.owe p).nx (b,c)) (.sl (s.owe p).nx 0 n none) y:=VR.sl_iff.2 ⟨(b,c),Val.put_self _ _ _,hnc,hy⟩
  refine ⟨hB,_,he,.made (s.owe p) _ b c _ (SH.owe_same _ _) hroom rfl hb ho ⟨ys,rest,by show _=_;simp,VRL.lits _ _,?_,(b,c),Val.put_self _ _ _,hsz⟩ ?_⟩
  ·simp
  ·cases ex with
   | none=>exact hv
   | some v=>exact VR.tup_iff.2 ⟨[y,v],rfl,VRL.cons hv (VRL.cons (VR.v_iff.2 rfl) VRL.nil)⟩
 ·cases hx
abbrev PlG:=List SV→SH→Option (Value × Prop)
def plSumG (g:PlG):Sum:=fun args s=>match g args s with
 | some (v,p)=>some (.v v,s.owe p)
 | none=>none
theorem plSumG_ok {P : Program} {X : World → Prop} {f : FuncId} {g : PlG} (hf : ∃ fn, P.funcs[f]? = some fn ∧ fn.body.isSome = true ∧ (fn.name == "runtime.NumGoroutine") = false)
  (h:∀ args s v p,g args s=some (v,p)→p→∀ ν M w0 w a,HR ν M w0 s w→X w→VRL ν args a→Calls P f a.toArray w fun e w'=>Below w.heap.size w w'∧e=.returned v):SumOK P X (f,plSumG g):=by
 refine ⟨hf,fun args x s s' hx ob=>?_⟩
 dsimp only at hx
 unfold plSumG at hx
 split at hx
 ·rename_i v p hp
  cases hx
  exact ⟨ob.1,fun ν M w0 w a hr hXw ha=>(h args s v p hp ob.2 ν M w0 w a hr hXw ha).mono fun e w' ⟨hB,he⟩=>⟨hB,v,he,.same (SH.owe_same _ _) (VR.v_iff.2 rfl)⟩⟩
 ·cases hx
def nextD (E:Env) (S:SM):Option (Nat × Nat × Nat × List Nat × Nat × List (SV × SV × Nat) × Nat):=
 bif S.top.ret then none else match S.top.todo with
 | .reg ops (i::_)::_=>match ops[i]? with
  | some o=>match o.guard,o.op with
   | none,.next it false=>match evalOpd E S.top.tm it with
    | .ptr iter 0=>match S.mem.look iter with
     | some (.miter (some m) since seen last,true)=>match S.mem.look m with
      | some (.map es clock,_)=>some (iter,m,since,seen,last,es,clock)
      | _=>none
     | _=>none
    | _=>none
   | _,_=>none
  | none=>none
 | _=>none
def atNext (E:Env) (S:SM):Bool:=(nextD E S).isSome
def nextE (E:Env) (S:SM) (e:SV × SV × Nat):Option SM:=match nextD E S with
 | some (iter,m,since,seen,_,_,clock)=>(finish E S.top (.tup [.v (.bool true),e.1,e.2.1]) (S.mem.put iter (.miter (some m) since (seen++[e.2.2]) clock))).map fun r=>{ top:=r.1,callers:=S.callers,mem:=r.2 }
 | none=>none
def stopE (E:Env) (S:SM):Option SM:=(finish E S.top (.v (.tuple #[.bool false])) S.mem).map fun r=>{ top:=r.1,callers:=S.callers,mem:=r.2 }
theorem joinM_all {f:SNext × SH→Option (List SM)}:∀ {l:List (SNext × SH)},(∀ x∈l,∃ T,f x=some [T])→∃ Ls,joinM l f=some Ls∧∀ T∈Ls,∃ x∈l,f x=some [T]
 | [],_=>⟨[],rfl,fun _ h=>by cases h⟩
 | x::xs,h=>by
  obtain ⟨T,hT⟩:=h x List.mem_cons_self
  obtain ⟨Ls,h1,h2⟩:=joinM_all fun y hy=>h y (List.mem_cons_of_mem _ hy)
  refine ⟨T::Ls,by simp [joinM,hT,h1],fun U hU=>?_⟩
  rcases List.mem_cons.1 hU with rfl | hU
  ·exact ⟨x,List.mem_cons_self,hT⟩
  ·obtain ⟨y,hy,hf⟩:=h2 U hU
   exact ⟨y,List.mem_cons_of_mem _ hy,hf⟩
section
variable {E:Env} {ν:Val} {M:Own} {w0:World} {cs0:List Frame} {f:FuncId} {R:Ending→World→Prop}
theorem Goes.sstep (K:Facts E M w0) {S:SM} {Ls:List SM} (h:sStep E S=some Ls) (hs:∀ T∈Ls,T.mem.ob∧Goes E M w0 cs0 f R ν T):Goes E M w0 cs0 f R ν S:=by
 intro ν' m M1 w1 hle hB hm
 obtain ⟨V,hV,hstep⟩:=sStep_ok K hB hm h
 obtain ⟨ob,hgo⟩:=hs V hV
 obtain ⟨_,ν2,m',M2,w2,hle2,hst,hB2,hMR⟩:=hstep ob
 exact (hgo ν2 m' M2 w2 (hle.trans hle2) hB2 hMR).steps hst
theorem Goes.next (K:Facts E M w0) {S:SM} {iter m since last clock:Nat} {seen:List Nat} {es:List (SV × SV × Nat)} (hd:nextD E S=some (iter,m,since,seen,last,es,clock))
  (hfree:(!seen.isEmpty&&!es.isEmpty&&es.all fun e=>Nat.ble last e.2.2)=false)
  (hs:∀ e∈es,seen.contains e.2.2=false→∃ T,nextE E S e=some T∧T.mem.ob∧Goes E M w0 cs0 f R ν T)
  (hend:(∀ e∈es,seen.contains e.2.2=false→Nat.blt e.2.2 since=false)→∃ T,stopE E S=some T∧T.mem.ob∧Goes E M w0 cs0 f R ν T):Goes E M w0 cs0 f R ν S:=by
 have hd0:=hd
 unfold nextD at hd
 cases hret:S.top.ret
 rotate_left
 ·rw [hret] at hd;cases hd
 rw [hret,cond_false] at hd
 split at hd
 ·rename_i ops i r k htodo
  split at hd
  ·rename_i o ho
   split at hd
   ·rename_i it hgd hop
    split at hd
    ·rename_i iter' hit
     split at hd
     ·rename_i m' since' seen' last' hl
      split at hd
      ·rename_i es' clock' mk hm
       cases hd
       let old:=(es.filter fun e=>!seen.contains e.2.2).filter fun e=>Nat.blt e.2.2 since
       let new:=(es.filter fun e=>!seen.contains e.2.2).filter fun e=>Nat.ble since e.2.2
       let go:=(old++new).map fun e=>(SV.tup [.v (.bool true),e.1,e.2.1],S.mem.put iter (.miter (some m) since (seen++[e.2.2]) clock))
       have hn:sNextIt (.ptr iter 0) false S.mem=some (bif old.isEmpty then (.v (.tuple #[.bool false]),S.mem)::go else go):=by
        show sNextIt (.ptr iter 0) false S.mem=_
        unfold sNextIt
        simp only [hl,hm,hfree,cond_false]
        rfl
       have hstep:sStep E S=joinM ((bif old.isEmpty then ((.v (.tuple #[.bool false]):SV),S.mem)::go else go).map fun r=>(SNext.val r.1,r.2)) (after E S.top S.callers):=by
        unfold sStep
        simp only [hret,cond_false,htodo,ho]
        unfold turnS wanted
        simp only [hgd]
        unfold sOp
        simp only [hop,hit,hn,Option.map_some,Option.bind_some]
       have hmem:∀ e∈old++new,e∈es∧seen.contains e.2.2=false:=fun e he=>by
        rcases List.mem_append.1 he with he | he
        ·have h1:=(List.mem_filter.1 (List.mem_filter.1 he).1)
         exact ⟨h1.1,by simpa using h1.2⟩
        ·have h1:=(List.mem_filter.1 (List.mem_filter.1 he).1)
         exact ⟨h1.1,by simpa using h1.2⟩
       have hgo:∀ x∈(bif old.isEmpty then ((.v (.tuple #[.bool false]):SV),S.mem)::go else go).map (fun r=>(SNext.val r.1,r.2)),∃ T,after E S.top S.callers x=some [T]∧T.mem.ob∧Goes E M w0 cs0 f R ν T:=fun x hx=>by
        obtain ⟨y,hy,rfl⟩:=List.mem_map.1 hx
        have hy':(y∈go)∨(y=((.v (.tuple #[.bool false]):SV),S.mem)∧old.isEmpty=true):=by
         cases hoe:old.isEmpty
         ·rw [hoe] at hy;exact .inl hy
         ·rw [hoe] at hy
          rcases List.mem_cons.1 hy with h | h
          ·exact .inr ⟨h,rfl⟩
          ·exact .inl h
        rcases hy' with hy | ⟨rfl,hoe⟩
        ·obtain ⟨e,he,rfl⟩:=List.mem_map.1 hy
         obtain ⟨T,hT,hob,hg⟩:=hs e (hmem e he).1 (hmem e he).2
         refine ⟨T,?_,hob,hg⟩
         unfold nextE at hT
         rw [hd0] at hT
         dsimp only at hT
         unfold after
         obtain ⟨r,hr,rfl⟩:=Option.map_eq_some_iff.1 hT
         dsimp only
         rw [hr];rfl
        ·obtain ⟨T,hT,hob,hg⟩:=hend fun e he hc=>by
          cases hb:Nat.blt e.2.2 since
          ·rfl
          ·exfalso
           have:e∈old:=List.mem_filter.2 ⟨List.mem_filter.2 ⟨he,by show (!seen.contains e.2.2)=true;rw [hc];rfl⟩,hb⟩
           rw [List.isEmpty_iff.1 hoe] at this
           cases this
         refine ⟨T,?_,hob,hg⟩
         unfold stopE at hT
         unfold after
         obtain ⟨r,hr,rfl⟩:=Option.map_eq_some_iff.1 hT
         dsimp only
         rw [hr];rfl
       obtain ⟨Ls,h1,h2⟩:=joinM_all fun x hx=>let ⟨T,h,_⟩:=hgo x hx;⟨T,h⟩
       refine Goes.sstep K (hstep.trans h1) fun T hT=>?_
       obtain ⟨x,hx,hf⟩:=h2 T hT
       obtain ⟨U,hU,hob,hg⟩:=hgo x hx
       rw [hf] at hU
       cases hU
       exact ⟨hob,hg⟩
      ·cases hd
     ·cases hd
    ·cases hd
   ·cases hd
  ·cases hd
 ·cases hd
end
def brSum (f g:Sum):Sum:=fun args s=>match s.orc s.dc with
 | some (.b true)=>f args s
 | some (.b false)=>g args s
 | _=>none
theorem SumOK.br {P:Program} {X:World→Prop} {h:FuncId} {f g:Sum} (hf:SumOK P X (h,f)) (hg:SumOK P X (h,g)):SumOK P X (h,brSum f g):=by
 refine ⟨hf.1,fun args x s s' hx ob=>?_⟩
 dsimp only at hx
 unfold brSum at hx
 split at hx
 ·exact hf.2 args x s s' hx ob
 ·exact hg.2 args x s s' hx ob
 ·cases hx
def decL {α:Type} (dec:List SV→α) (C:Nat):Nat→List SV→List α
 | 0,_=>[]
 | n+1,l=>dec (l.take C)::decL dec C n (l.drop C)
theorem decL_flat {α:Type} {dec:List SV→α} {C:Nat} {g:α→List SV} (hg:∀ x,(g x).length=C) (hd:∀ x,dec (g x)=x):∀ (l:List α),decL dec C l.length (l.flatMap g)=l
 | []=>rfl
 | x::l=>by
  show dec ((g x++l.flatMap g).take C)::decL dec C l.length ((g x++l.flatMap g).drop C)=_
  rw [← hg x,List.take_left,List.drop_left,hd,hg x,decL_flat hg hd l]
section
variable {E:Env} {ν:Val} {M:Own} {w0 w:World} {s s':SH} {cs0:List Frame} {f:FuncId} {R:Ending→World→Prop}
def endsX (E:Env) (f:FuncId) (n:Nat) (S:SM) (o:List (Nat × Ans)) (ren:List (Nat × Nat)) (x:SV):List Prop:=
 match goS E SM.over n (S.with o) with
 | some T=>match endS E f T with
  | some (y,s')=>leV ren x y++s'.obl
  | none=>[False]
 | none=>[False]
theorem Goes.endsX (K:Facts E M w0) (hM:∀ b,¬ M b) {n:Nat} {S:SM} {o:List (Nat × Ans)} {ren:List (Nat × Nat)} {x:SV} (h:Owed (Go.Rx.endsX E f n S o ren x))
  (hR:∀ ν' w' y,ν.Le ν'→VR (ν'.ren ren) x y→Below w0.heap.size w0 w'→R (.returned y) w'):Goes E M w0 cs0 f R ν S:=by
 unfold Go.Rx.endsX at h
 split at h
 ·rename_i T hT
  split at h
  ·rename_i y s' hend
   obtain ⟨h1,h2⟩:=owed_app.1 h
   refine Goes.go K hT (resultsS_mono' hend h2) (Goes.done hend h2 fun ν' M1 w1 w' u hle hB hv hr hg=>?_)
   exact hR ν' w' u hle (leV_ok h1 hv) (below_of hM hB hr)
  ·exact owed_false h
 ·exact owed_false h
end
def svSum (g:List SV→SH→Option (SV × Prop)):Sum:=fun args s=>match g args s with
 | some (x,p)=>some (x,s.owe p)
 | none=>none
theorem svSum_ok {P : Program} {X : World → Prop} {f : FuncId} {g : List SV → SH → Option (SV × Prop)} (hf : ∃ fn, P.funcs[f]? = some fn ∧ fn.body.isSome = true ∧ (fn.name == "runtime.NumGoroutine") = false)
  (h:∀ args s x p,g args s=some (x,p)→p→∀ ν M w0 w a,HR ν M w0 s w→X w→VRL ν args a→Calls P f a.toArray w fun e w'=>Below w.heap.size w w'∧∃ y,e=.returned y∧VR ν x y):SumOK P X (f,svSum g):=by
 refine ⟨hf,fun args x s s' hx ob=>?_⟩
 dsimp only at hx
 unfold svSum at hx
 split at hx
 ·rename_i v p hp
  cases hx
  exact ⟨ob.1,fun ν M w0 w a hr hX ha=>(h args s _ _ hp ob.2 ν M w0 w a hr hX ha).mono fun e w' ⟨hB,y,he,hv⟩=>⟨hB,y,he,.same (SH.owe_same _ _) hv⟩⟩
 ·cases hx
abbrev SlM:=List SV→SH→Option (List Value × Nat × Nat × TypeId × (SV→SV) × (Value→Value) × Prop)
def slSumM (g:SlM):Sum:=fun args s=>match g args s with
 | some (ys,n,C,elem,mk,_,p)=>(sNew (.row (ys.map SV.v) elem (0,0) (some C)) (s.owe p)).map fun r=>(mk (.sl r.1 0 n none),r.2)
 | none=>none
theorem slSumM_ok {P : Program} {X : World → Prop} {f : FuncId} {g : SlM} (hf : ∃ fn, P.funcs[f]? = some fn ∧ fn.body.isSome = true ∧ (fn.name == "runtime.NumGoroutine") = false)
  (hm:∀ args s ys n C elem mk mv p,g args s=some (ys,n,C,elem,mk,mv,p)→∀ (ν:Val) x y,VR ν x y→VR ν (mk x) (mv y))
  (h:∀ args s ys n C elem mk mv p,g args s=some (ys,n,C,elem,mk,mv,p)→p→∀ ν M w0 w a,HR ν M w0 s w→X w→VRL ν args a→Calls P f a.toArray w fun e w'=>Below w.heap.size w w'∧∃ y,e=.returned (mv y)∧NewSl w w' y ys n C elem):SumOK P X (f,slSumM g):=by
 refine ⟨hf,fun args x s s' hx ob=>?_⟩
 dsimp only at hx
 unfold slSumM at hx
 split at hx
 ·rename_i ys n C elem mk mv p hp
  obtain ⟨⟨i,s1⟩,hn,hx⟩:=Option.map_eq_some_iff.1 hx
  cases hx
  unfold sNew at hn
  cases hroom:(s.owe p).room
  ·rw [hroom] at hn;cases hn
  rw [hroom] at hn
  simp only [cond_true] at hn
  cases hn
  have ob2:(s.owe p).ob:=ob
  refine ⟨ob2.1,fun ν M w0 w a hr hXw ha=>?_⟩
  refine (h args s ys n C elem mk mv p hp ob2.2 ν M w0 w a hr hXw ha).mono fun e w' ⟨hB,y,he,b,c,rest,hy,hb,hnc,ho,hsz⟩=>?_
  have hv:VR (ν.put (s.owe p).nx (b,c)) (.sl (s.owe p).nx 0 n none) y:=VR.sl_iff.2 ⟨(b,c),Val.put_self _ _ _,hnc,hy⟩
  refine ⟨hB,_,he,.made (s.owe p) _ b c _ (SH.owe_same _ _) hroom rfl hb ho ⟨ys,rest,by show _=_;simp,VRL.lits _ _,?_,(b,c),Val.put_self _ _ _,hsz⟩ (hm _ _ _ _ _ _ _ _ _ hp _ _ _ hv)⟩
  simp
 ·cases hx
def close1 (j:Nat) (b:Nat × Nat):SV→SV
 | .sl i 0 len none=>bif Nat.beq i j then .v (.slice (some ⟨b.1,0,none⟩) len b.2) else .sl i 0 len none
 | x=>x
def closeV (j:Nat) (b:Nat × Nat):SV→SV
 | .agg l=>.agg (l.map (close1 j b))
 | x=>x
def closeM (j:Nat) (b:Nat × Nat) (es:List (SV × SV × Nat)):List (SV × SV × Nat):=es.map fun e=>(e.1,closeV j b e.2.1,e.2.2)
theorem close1_ok {ν:Val} {j:Nat} {b:Nat × Nat} (hj:ν j=some b) {x:SV} {y:Value} (h:VR ν x y):VR ν (close1 j b x) y:=by
 unfold close1
 split
 ·rename_i i len
  cases hi:Nat.beq i j
  ·exact h
  ·obtain rfl:=Nat.eq_of_beq_eq_true hi
   obtain ⟨b',hb',_,rfl⟩:=VR.sl_iff.1 h
   rw [hj] at hb';cases hb'
   exact VR.v_iff.2 rfl
 ·exact h
theorem close1_list {ν:Val} {j:Nat} {b:Nat × Nat} (hj:ν j=some b):∀ {l:List SV} {ys:List Value},VRL ν l ys→VRL ν (l.map (close1 j b)) ys
 | [],_,h=>h
 | x::l,_,h=>by
  obtain ⟨z,zs,rfl,h1,h2⟩:=h.cons_inv
  exact VRL.cons (close1_ok hj h1) (close1_list hj h2)
theorem closeV_ok {ν:Val} {j:Nat} {b:Nat × Nat} (hj:ν j=some b) {x:SV} {y:Value} (h:VR ν x y):VR ν (closeV j b x) y:=by
 unfold closeV
 split
 ·obtain ⟨a,rfl,ha⟩:=VR.agg_iff.1 h
  exact VR.agg_iff.2 ⟨a,rfl,close1_list hj ha⟩
 ·exact h
theorem closeM_ok {ν:Val} {j:Nat} {b:Nat × Nat} (hj:ν j=some b):∀ {es:List (SV × SV × Nat)} {ds:List MapEntry},EntR ν es ds→EntR ν (closeM j b es) ds
 | [],_,h=>h
 | x::xs,_,h=>by
  obtain ⟨z,zs,rfl,h1,h2,h3,h4⟩:=h
  exact ⟨z,zs,rfl,h1,closeV_ok hj h2,h3,closeM_ok hj h4⟩
def SM.close (m j:Nat) (b:Nat × Nat) (es:List (SV × SV × Nat)) (cl:Nat) (S:SM):SM:={ S with mem:=S.mem.put m (.map (closeM j b es) cl) }
def noDrw (S:SM):Bool:=match S.top.todo with | .drw _ _ _::_=>false | _=>true
section
variable {E:Env} {ν:Val} {M:Own} {w0 w:World} {s s':SH} {cs0:List Frame} {f:FuncId} {R:Ending→World→Prop}
theorem Goes.close {S:SM} {m j cl:Nat} {es:List (SV × SV × Nat)} {x:SO × Bool} (hm:S.mem.look m=some (.map es cl,true)) (hj:S.mem.look j=some x) (hd:noDrw S=true)
  (hs:∀ b,Goes E M w0 cs0 f R ν (S.close m j b es cl)):Goes E M w0 cs0 f R ν S:=by
 intro ν' mm M1 w1 hle hB hmr
 obtain ⟨fr,cs,w,hl,rfl,hr,hg,⟨h1,h2,h3⟩,hc⟩:=hmr
 obtain ⟨_,_,b,_,hb,_⟩:=hr.look hj
 obtain ⟨_,_,bm,ob,hbm,ho,hor,_⟩:=hr.look hm
 refine hs b ν' _ M1 w1 hle hB ⟨fr,cs,w,hl,rfl,?_,hg,⟨h1,fun hf=>⟨(h2 hf).1,?_⟩,h3⟩,hc⟩
 ·refine hr.put hm hbm (r:=ob) ?_ ?_ rfl rfl rfl
  ·obtain ⟨l,rfl,hl'⟩:=hor
   exact ⟨l,rfl,closeM_ok hb hl'⟩
  ·apply Array.ext
   ·simp
   ·intro k hk1 hk2
    rw [Array.getElem_setIfInBounds]
    split
    ·rename_i h
     have:=(Array.getElem?_eq_some_iff.1 ho).2
     subst h;exact this
    ·rfl
 ·have:=(h2 hf).2
  revert this hd
  show noDrw S=true→_→RunR E ν' M1 w1 _ hl S.top.tm S.top.todo fr.tmps fr.todo
  unfold noDrw
  generalize S.top.todo=xs
  generalize fr.todo=ys
  intro hd this
  cases this with
  | plain ht hk=>exact .plain ht hk
  | drw hok hn d st hk=>cases hd
end
def Hp.put (H:Hp) (b:Nat) (o:Obj):Hp:=fun x=>if x=b then some o else H x
theorem Hp.put_self (H:Hp) (b:Nat) (o:Obj):H.put b o b=some o:=by simp [Hp.put]
def SM.drop1 (S:SM) (j:Nat):SM:={ S with mem:=S.mem.drop j }
section
variable {E:Env} {ν:Val} {M:Own} {w0 w:World} {s s':SH} {cs0:List Frame} {f:FuncId} {R:Ending→World→Prop}

theorem live_HR {M1:Own} {w1:World} (hr:HR ν M1 w1 s w):HR ν (liveOwn ν M1 s) w s w:=by
 refine ⟨hr.full,hr.dom,hr.fresh,fun i hi x hx=>?_,hr.inj,Nat.le_refl _,fun _ _ _=>rfl,hr.ro,rfl,rfl,rfl⟩
 obtain ⟨b,o,h1,h2,h3,h4⟩:=hr.obj i hi x hx
 refine ⟨b,o,h1,h2,h3,fun hm=>.inr ⟨i,x.1,b.2,hi,?_,h1⟩⟩
 rw [hx,← hm]
theorem live_own {M1:Own} {w1:World} (hr:HR ν M1 w1 s w) {x:Nat} (h:(liveOwn ν M1 s) x):x<w.heap.size∧(w1.heap.size≤x∨M1 x):=by
 obtain ⟨i,y,c,hi,hy,hx⟩:=h
 obtain ⟨b',o,hb',ho,_,h4⟩:=hr.obj i hi _ hy
 rw [hx] at hb';cases hb'
 exact ⟨(Array.getElem?_eq_some_iff.1 ho).1,h4 rfl⟩
theorem live_base {M1:Own} {w1:World} (hB:Base M w0 M1 w1) (hr:HR ν M1 w1 s w):Base M w0 (liveOwn ν M1 s) w:=by
 refine ⟨Nat.le_trans hB.size hr.size,hr.os.trans hB.os,hr.tape.trans hB.tape,hr.output.trans hB.output,fun b hb hM=>?_,fun b hb=>?_,hB.ro,fun b h=>h.elim,fun b hb=>?_⟩
 ·obtain ⟨h1,h2⟩:=hB.frame b hb hM
  have hb1:=Nat.lt_of_lt_of_le hb hB.size
  refine ⟨(hr.frame b hb1 h2).trans h1,fun hl=>?_⟩
  rcases (live_own hr hl).2 with h | h
  ·omega
  ·exact h2 h
 ·rcases hb with hb | hb
  ·exact .inl (Nat.le_trans hB.size (Nat.le_trans hr.size hb))
  ·exact hB.own b (live_own hr hb).2
 ·exact Nat.lt_of_lt_of_le (hB.rlt b hb) hr.size

theorem Goes.freeze {H0 H:Hp} {M00:Own} {w00:World} (hM00:∀ b,¬ M00 b) (hk:Kept H0 M00 w00 H M w0) {S:SM} {j:Nat} {so:SO} (hcal:S.callers=[]) (hret:S.top.ret=false) (hd:noDrw S=true) (hj:S.mem.look j=some (so,true))
  (hs:∀ ν' b o M2 w2,ν.Le ν'→ν' j=some b→OR ν' j so o→Kept H0 M00 w00 (H.put b.1 o) M2 w2→H.Sub (H.put b.1 o)→w00.heap.size≤b.1→Goes E M2 w2 cs0 f R ν (S.drop1 j)):Goes E M w0 cs0 f R ν S:=by
 intro ν' m M1 w1 hle hB hm
 obtain ⟨fr,cs,w,hl,rfl,hr,hg,⟨h1,h2,h3⟩,hc⟩:=hm
 obtain ⟨hjlt,hjg,b,o,hb,ho,hor,hown⟩:=hr.look hj
 have hown:=hown rfl
 have hrd:=hr.drop hjlt
 have hblt:b.1<w.heap.size:=(Array.getElem?_eq_some_iff.1 ho).1
 have hne:¬ (liveOwn ν' M1 (S.mem.drop j)) b.1:=by
  rintro ⟨i,y,c,hi,hy,hx⟩
  have hy':(S.mem.H.set j none).get i=some (y,true):=hy
  have hi':i<2 ^ S.mem.d:=hi
  rw [Tr.get_set hr.full hjlt hi'] at hy'
  by_cases e:i=j
  ·rw [if_pos e] at hy';cases hy'
  ·rw [if_neg e] at hy'
   exact e (hr.inj i j hi' hjlt (by rw [hy'];simp) (by rw [hjg];simp) _ _ hx hb rfl)
 have hB2:=live_base hB hrd
 have hHb:H b.1=none:=by
  cases hq:H b.1 with
  | none=>rfl
  | some o'=>
   obtain ⟨q1,q2,_⟩:=hk.still _ _ hq
   have q3:=(hB.frame _ q1 q2).2
   rcases hown with h | h
   ·have:=hB.size;omega
   ·exact absurd h q3
 have hsub:H.Sub (H.put b.1 o):=fun x y hx=>by
  unfold Hp.put
  by_cases e:x=b.1
  ·rw [e,hHb] at hx;cases hx
  ·rw [if_neg e];exact hx
 have hnow:=hk.now hB hr
 have hbn:w00.heap.size≤b.1:=(hk.base.own _ (hB.own _ hown)).elim id fun h=>absurd h (hM00 _)
 have hK:Kept H0 M00 w00 (H.put b.1 o) (liveOwn ν' M1 (S.mem.drop j)) w:=by
  refine ⟨hk.sub0.trans hsub,fun x y hx=>?_,fun x y hx h=>?_,hk.base.trans hB2⟩
  ·unfold Hp.put at hx
   by_cases e:x=b.1
   ·rw [if_pos e] at hx
    cases hx
    subst e
    exact ⟨hblt,hne,ho⟩
   ·rw [if_neg e] at hx
    obtain ⟨q1,q2,_⟩:=hk.still _ _ hx
    refine ⟨Nat.lt_of_lt_of_le q1 (Nat.le_trans hB.size hr.size),(hB2.frame _ q1 q2).2,hnow _ _ hx⟩
  ·unfold Hp.put at h
   by_cases e:x=b.1
   ·subst e
    exfalso
    rcases hk.base.own _ (hB.own _ hown) with h | h
    ·omega
    ·exact hM00 _ h
   ·rw [if_neg e] at h
    exact hk.old x y hx h
 have hrun:=(h2 hret).2
 have hpl:hl=[]∧TmR ν' S.top.tm fr.tmps∧KsR ν' S.top.todo fr.todo:=by
  revert hrun hd
  unfold noDrw
  generalize S.top.todo=xs
  generalize fr.todo=ys
  intro hd hrun
  cases hrun with
  | plain ht hk=>exact ⟨rfl,ht,hk⟩
  | drw hok hn d st hk=>cases hd
 obtain ⟨rfl,ht,hks⟩:=hpl
 have hc':CallersR E ν' (liveOwn ν' M1 (S.mem.drop j)) w cs0 [] S.top.kind S.callers cs:=by
  rw [hcal] at hc ⊢
  generalize S.top.kind=kk at hc
  cases hc with
  | nil _=>exact .nil List.nodup_nil
 exact hs ν' b o _ w hle hb hor hK hsub hbn ν' _ _ w hle (Base.refl (fun x hx=>hB2.rlt x hx) fun x h=>h)
  ⟨fr,cs,w,[],rfl,live_HR hrd,hg,⟨h1,fun hf=>⟨(h2 hret).1,.plain ht hks⟩,fun hf=>absurd (show S.top.ret=true from hf) (by rw [hret];simp)⟩,hc'⟩

def reachF (E:Env) (k n:Nat) (S:SM) (o:List (Nat × Ans)) (ren:List (Nat × Nat)) (eqs:List Nat) (F:SF) (d:Nat) (l:List (Option (SO × Bool))) (m j:Nat) (so:SO) (b:Nat × Nat):List Prop:=
 match goL E k n (S.with o) with
 | some T=>match T.mem.look m,T.mem.look j with
  | some (.map es cl,true),some (so',true)=>bif noDrw T&&T.callers.isEmpty&&!T.top.ret&&!Nat.beq m j&&Nat.blt m (2 ^ T.mem.d) then leO [(j,j)] true so so'++(fits E ren eqs F d l ((T.close m j b es cl).drop1 j)++T.mem.obl) else [False]
  | _,_=>[False]
 | none=>[False]
theorem look_put (hf:Tr.Full s.d s.H) {m j:Nat} {o:SO} {x:SO × Bool} (hm:m<2 ^ s.d) (hj:s.look j=some x) (hne:j≠m):(s.put m o).look j=some x:=by
 unfold SH.look at hj ⊢
 show (bif Nat.blt j (2 ^ s.d) then (s.H.set m (some (o,true))).get j else none)=some x
 cases hb:Nat.blt j (2 ^ s.d)
 ·rw [hb] at hj;cases hj
 ·rw [hb] at hj
  simp only [cond_true] at hj ⊢
  rw [Tr.get_set hf hm (blt_iff.1 hb),if_neg hne];exact hj
theorem Goes.close' {S:SM} {m j cl:Nat} {es:List (SV × SV × Nat)} {x:SO × Bool} (hm:S.mem.look m=some (.map es cl,true)) (hj:S.mem.look j=some x) (hd:noDrw S=true)
  (hs:∀ ν1 b,ν.Le ν1→ν1 j=some b→Goes E M w0 cs0 f R ν1 (S.close m j b es cl)):Goes E M w0 cs0 f R ν S:=by
 intro ν' mm M1 w1 hle hB hmr
 obtain ⟨fr,cs,w,hl,rfl,hr,hg,⟨h1,h2,h3⟩,hc⟩:=hmr
 obtain ⟨_,_,b,_,hb,_⟩:=hr.look hj
 obtain ⟨_,_,bm,ob,hbm,ho,hor,_⟩:=hr.look hm
 refine hs ν' b hle hb ν' _ M1 w1 (Val.Le.refl _) hB ⟨fr,cs,w,hl,rfl,?_,hg,⟨h1,fun hf=>⟨(h2 hf).1,?_⟩,h3⟩,hc⟩
 ·refine hr.put hm hbm (r:=ob) ?_ ?_ rfl rfl rfl
  ·obtain ⟨l,rfl,hl'⟩:=hor
   exact ⟨l,rfl,closeM_ok hb hl'⟩
  ·apply Array.ext
   ·simp
   ·intro k hk1 hk2
    rw [Array.getElem_setIfInBounds]
    split
    ·rename_i h
     have:=(Array.getElem?_eq_some_iff.1 ho).2
     subst h;exact this
    ·rfl
 ·have:=(h2 hf).2
  revert this hd
  show noDrw S=true→_→RunR E ν' M1 w1 _ hl S.top.tm S.top.todo fr.tmps fr.todo
  unfold noDrw
  generalize S.top.todo=xs
  generalize fr.todo=ys
  intro hd this
  cases this with
  | plain ht hk=>exact .plain ht hk
  | drw hok hn d st hk=>cases hd
theorem Goes.full {S:SM} (h:Tr.Full S.mem.d S.mem.H→Goes E M w0 cs0 f R ν S):Goes E M w0 cs0 f R ν S:=by
 intro ν' m M1 w1 hle hB hm
 have hm':=hm
 obtain ⟨fr,cs,w,hl,rfl,hr,_⟩:=hm'
 exact h hr.full ν' _ M1 w1 hle hB hm
theorem Goes.reachF (K:Facts E M w0) {H0 H:Hp} {M00:Own} {w00:World} (hM00:∀ b,¬ M00 b) (hk:Kept H0 M00 w00 H M w0) {k n d:Nat} {S:SM} {o:List (Nat × Ans)} {ren:List (Nat × Nat)} {eqs:List Nat} {F:SF} {l:Nat × Nat→List (Option (SO × Bool))} {m j:Nat} {so:SO}
  (h:∀ b,Owed (Go.Rx.reachF E k n S o ren eqs F d (l b) m j so b)) (ht:todoL E k n S o=F.todo) (hν:∀ i b,ν i=some b→ren.lookup i=some i)
  (hs:∀ ν1 b ob M2 w2,ν1 j=some b→OR ν1 j so ob→Kept H0 M00 w00 (H.put b.1 ob) M2 w2→H.Sub (H.put b.1 ob)→w00.heap.size≤b.1→Goes E M2 w2 cs0 f R ν (SM.at F d (l b))):Goes E M w0 cs0 f R ν S:=by
 have h0:=h (0,0)
 unfold Go.Rx.reachF at h h0
 unfold todoL at ht
 cases hT:Go.Rx.goL E k n (S.with o) with
 | none=>rw [hT] at h0;exact owed_false h0
 | some T=>
  simp only [hT] at h h0 ht
  split at h0
  ·rename_i es cl so' hm hj
   simp only [hm,hj] at h
   obtain ⟨hb0,h0'⟩:=owed_bif h0
   obtain ⟨_,h00⟩:=owed_app.1 h0'
   obtain ⟨_,hob⟩:=owed_app.1 h00
   have hb:=hb0
   simp only [Bool.and_eq_true] at hb
   obtain ⟨⟨⟨⟨b1,b2⟩,b3⟩,b4⟩,b5⟩:=hb
   have hmj:j≠m:=by
    rintro rfl
    have:Nat.beq j j=true:=by simp
    rw [this] at b4;cases b4
   refine Goes.goL K hT hob (Goes.full fun hfull=>Goes.close' hm hj b1 fun ν1 b hle1 hb1=>?_)
   have hq:=h b
   rw [hb0] at hq
   obtain ⟨q1,q2⟩:=owed_app.1 hq
   obtain ⟨q3,_⟩:=owed_app.1 q2
   have hj':(T.close m j b es cl).mem.look j=some (so',true):=look_put hfull (blt_iff.1 b5) hj hmj
   refine Goes.freeze hM00 hk (List.isEmpty_iff.1 b2) (show T.top.ret=false by simpa using b3) b1 hj' fun ν' b' o' M2 w2 hle hbj hor hK hsub hbn=>?_
   obtain rfl:b=b':=by
    have:=hle _ _ hb1
    rw [hbj] at this;exact (Option.some.inj this).symm
   have hjj:(([(j,j)]:List (Nat × Nat)).lookup j==some j)=true:=by simp [List.lookup]
   exact (Goes.fits q3 ht hν (hs _ b o' M2 w2 (ren_at hjj hbj) (leO_ok hjj q1 hor) hK hsub hbn)).mono hle1
  ·exact owed_false h0
def endsM (E:Env) (f:FuncId) (n:Nat) (S:SM) (o:List (Nat × Ans)) (ren:List (Nat × Nat)) (eqs:List Nat) (x:SV) (l:List (Option (SO × Bool))):List Prop:=
 match goS E SM.over n (S.with o) with
 | some T=>match endS E f T with
  | some (y,s')=>bif decide ((ren.map (·.2)).Nodup) then leV ren x y++(leMem ren eqs s' 0 l++s'.obl) else [False]
  | none=>[False]
 | none=>[False]
structure EndM (ν:Val) (M:Own) (w0 w':World) (l:List (Option (SO × Bool))):Prop where
 obj:∀ k o m,l[k]?=some (some (o,m))→∃ b ob,ν k=some b∧w'.heap[b.1]?=some ob∧OR ν k o ob∧(m=true→w0.heap.size≤b.1∨M b.1)
 inj:∀ k k' o m o' m' b b',l[k]?=some (some (o,m))→l[k']?=some (some (o',m'))→ν k=some b→ν k'=some b'→b.1=b'.1→k=k'
theorem Goes.endsM (K:Facts E M w0) {n:Nat} {S:SM} {o:List (Nat × Ans)} {ren:List (Nat × Nat)} {eqs:List Nat} {x:SV} {l:List (Option (SO × Bool))} (h:Owed (Go.Rx.endsM E f n S o ren eqs x l))
  (hR:∀ ν' w' y,ν.Le ν'→VR (ν'.ren ren) x y→EndM (ν'.ren ren) M w0 w' l→(∃ M1 w1 s',Base M w0 M1 w1∧HR ν' M1 w1 s' w')→R (.returned y) w'):Goes E M w0 cs0 f R ν S:=by
 unfold Go.Rx.endsM at h
 split at h
 ·rename_i T hT
  split at h
  ·rename_i y s' hend
   obtain ⟨hb,h⟩:=owed_bif h
   have hnd:=of_decide_eq_true hb
   obtain ⟨h1,h2⟩:=owed_app.1 h
   obtain ⟨h3,h4⟩:=owed_app.1 h2
   refine Goes.go K hT (resultsS_mono' hend h4) (Goes.done hend h4 fun ν' M1 w1 w' u hle hB hv hr hg=>?_)
   have hob:∀ k o m,l[k]?=some (some (o,m))→∃ i o',ren.lookup k=some i∧s'.look i=some (o',m)∧Owed (leO ren (eqs.contains k) o o'):=fun k o m hk=>by
    have:=leMem_ok h3 k o m hk
    simpa using this
   refine hR ν' w' u hle (leV_ok h1 hv) ⟨fun k o m hk=>?_,fun k k' o m o' m' b b' hk hk' hb hb' e=>?_⟩ ⟨M1,w1,s',hB,hr⟩
   ·obtain ⟨i,o',hlo,hl,ho⟩:=hob k o m hk
    obtain ⟨_,_,b,ob,hb,hoo,hor,hown⟩:=hr.look hl
    have hji:(ren.lookup k==some i)=true:=by rw [hlo];simp
    exact ⟨b,ob,ren_at hji hb,hoo,leO_ok hji ho hor,fun hm=>hB.own _ (hown hm)⟩
   ·obtain ⟨i,o1,hlo,hl,_⟩:=hob k o m hk
    obtain ⟨i',o2,hlo',hl',_⟩:=hob k' o' m' hk'
    obtain ⟨q1,q2,_⟩:=hr.look hl
    obtain ⟨q3,q4,_⟩:=hr.look hl'
    unfold Val.ren at hb hb'
    rw [hlo] at hb
    rw [hlo'] at hb'
    have:=hr.inj i i' q1 q3 (by rw [q2];simp) (by rw [q4];simp) b b' hb hb' e
    subst this
    exact nodup_snd hnd (lookup_mem hlo) (lookup_mem hlo')
  ·exact owed_false h
 ·exact owed_false h
def atCall (g:FuncId) (S:SM):Bool:=Nat.beq S.top.fn g
def callO (E:Env) (g:FuncId) (n:Nat) (S:SM) (o:List (Nat × Ans)):List Prop:=match goS E (atCall g) n (S.with o) with
 | some T=>match T.callers with
  | [F]=>bif noLag E F then T.mem.obl else [False]
  | _=>[False]
 | none=>[False]
def callTop (E:Env) (g:FuncId) (n:Nat) (S:SM) (o:List (Nat × Ans)):Option SF:=(goS E (atCall g) n (S.with o)).map (·.top)
def backS (E:Env) (g:FuncId) (n:Nat) (S:SM) (o:List (Nat × Ans)) (x:SV):Option SM:=match goS E (atCall g) n (S.with o) with
 | some T=>match T.callers with
  | [F]=>(finish E F x T.mem).map fun r=>⟨r.1,[],r.2⟩
  | _=>none
 | none=>none
def backT (E:Env) (g:FuncId) (n:Nat) (S:SM) (o:List (Nat × Ans)) (x:SV):SM:=(backS E g n S o x).getD ⟨⟨0,tmOf 0 0 [],[],[],false,.normal,none⟩,[],memOf 0 0 0 []⟩
def backO (E:Env) (g:FuncId) (n:Nat) (S:SM) (o:List (Nat × Ans)) (x:SV):List Prop:=match backS E g n S o x with
 | some T=>T.mem.obl
 | none=>[False]
theorem backO_ok {g:FuncId} {n:Nat} {S:SM} {o:List (Nat × Ans)} {x:SV} (h:Owed (backO E g n S o x)):backS E g n S o x=some (backT E g n S o x)∧(backT E g n S o x).mem.ob:=by
 unfold backO at h
 unfold backT
 split at h
 ·rename_i T hT
  rw [hT];exact ⟨rfl,h⟩
 ·exact owed_false h
theorem Goes.callV (K:Facts E M w0) {H0 H:Hp} {M00:Own} {w00:World} (hk:Kept H0 M00 w00 H M w0) {n:Nat} {g:FuncId} {S:SM} {o:List (Nat × Ans)} {args:List SV} (h:Owed (callO E g n S o)) (hG:callTop E g n S o=enterF E g args .normal)
  (hc:∀ ν' w a,ν.Le ν'→H.Sub w.hp→GR ν' E→VRL ν' args a→Calls E.P g a.toArray w fun e w'=>Below w.heap.size w w'∧∃ y,e=.returned y∧(∀ M2,Kept H0 M00 w00 (H.grow w w') M2 w'→
   Owed (backO E g n S o (.v y))∧Goes E M2 w' cs0 f R ν (backT E g n S o (.v y)))):Goes E M w0 cs0 f R ν S:=by
 unfold callO at h
 cases hT:goS E (atCall g) n (S.with o) with
 | none=>rw [hT] at h;exact owed_false h
 | some T=>
  rw [hT] at h
  dsimp only at h
  split at h
  ·rename_i F hF
   obtain ⟨hlag,hob⟩:=owed_bif h
   unfold callTop at hG
   rw [hT] at hG
   obtain ⟨top,callers,mem⟩:=T
   dsimp only at hF hG hob
   subst hF
   refine Goes.go K hT hob (Goes.callQ (F:=F) hG.symm hlag hk fun ν' w a hle hsub hgr ha=>?_)
   refine (hc ν' w a hle hsub hgr ha).mono fun e w' ⟨hB,y,he,hn⟩=>⟨hB,y,.v y,he,VR.v_iff.2 rfl,fun M2 hK=>?_⟩
   obtain ⟨h1,h2⟩:=hn M2 hK
   obtain ⟨h3,h4⟩:=backO_ok h1
   have h5:=h3
   unfold backS at h5
   rw [hT] at h5
   dsimp only at h5
   obtain ⟨r,hr,he2⟩:=Option.map_eq_some_iff.1 h5
   refine ⟨r.1,r.2,hr,?_,?_⟩
   ·have:(backT E g n S o (.v y)).mem=r.2:=by rw [← he2]
    have h6:(backT E g n S o (.v y)).mem.ob:=h4
    rw [this] at h6;exact h6
   ·have:(⟨r.1,[],r.2⟩:SM)=backT E g n S o (.v y):=he2
    rw [this];exact h2.mono hle
  ·exact owed_false h
end
def Hp.growBut (H:Hp) (w w':World) (b:Nat):Hp:=fun k=>if k=b then none else H.grow w w' k
theorem Hp.growBut_sub {H:Hp} {w w':World} {b:Nat}:(H.growBut w w' b).Sub (H.grow w w'):=fun k o h=>by
 unfold Hp.growBut at h
 split at h
 ·cases h
 ·exact h
theorem Hp.sub_growBut {H:Hp} {w w':World} {b:Nat} (h:H.Sub w.hp) (hb:w.heap.size≤b):H.Sub (H.growBut w w' b):=fun k o hk=>by
 have:=(Array.getElem?_eq_some_iff.1 (h k o hk)).1
 unfold Hp.growBut
 rw [if_neg (by omega)]
 exact Hp.sub_grow h k o hk
section
variable {E:Env} {ν:Val} {M:Own} {w0 w:World} {s s':SH} {cs0:List Frame} {f:FuncId} {R:Ending→World→Prop}
theorem Goes.callNQ {G F:SF} {g:FuncId} {args:List SV} (hG:enterF E g args .normal=some G) (hlag:noLag E F=true) {H0 H:Hp} {M00:Own} {w00:World} (hk:Kept H0 M00 w00 H M w0)
  (hc:∀ ν' w a,ν.Le ν'→H.Sub w.hp→GR ν' E→VRL ν' args a→
   Calls E.P g a.toArray w fun e w'=>Below w.heap.size w w'∧∃ y x so b c o,e=.returned y∧s.room=true∧w.heap.size≤b∧w'.heap[b]?=some o∧OR (ν'.put s.nx (b,c)) s.nx so o∧VR (ν'.put s.nx (b,c)) x y∧(∀ M2,Kept H0 M00 w00 (H.growBut w w' b) M2 w'→
    ∃ F' s3,finish E F x (s.new so)=some (F',s3)∧s3.ob∧Goes E M2 w' cs0 f R ν ⟨F',[],s3⟩)):Goes E M w0 cs0 f R ν ⟨G,[F],s⟩:=by
 refine Goes.call hG fun ν' M1 w1 w a cs hle hB hr hg ha hcal=>?_
 have hsub:=hk.now hB hr
 refine (hc ν' w a hle hsub hg ha).mono fun e w' ⟨hbel,y,x,so,b,c,o,he,hroom,hbn,hob,hor,hv,hnext⟩=>⟨y,he,fun fr cs' hcs=>?_⟩
 subst hcs
 have holdb:∀ i d,i<2 ^ s.d→s.H.get i≠none→ν' i=some d→d.1<w.heap.size:=by
  intro i d hi hx hd
  cases hx':s.H.get i with
  | none=>exact absurd hx' hx
  | some x=>
   obtain ⟨b',o',hb',ho',_,_⟩:=hr.obj i hi _ hx'
   rw [hd] at hb';cases hb'
   exact (Array.getElem?_eq_some_iff.1 ho').1
 obtain ⟨hle2,hrA⟩:=HR.adoptNew (hr.grow hbel) hroom (Nat.le_trans hr.size hbn) hob (fun i d hi hx hd=>by have:=holdb i d hi hx hd;omega) hor
 have hnx:s.nx<2 ^ s.d:=blt_iff.1 hroom
 have hput:∀ j,j≠s.nx→(ν'.put s.nx (b,c)) j=ν' j:=fun j e=>by simp [Val.put,e]
 have hown:∀ k,(liveOwn (ν'.put s.nx (b,c)) M1 (s.new so)) k→k=b∨(k<w.heap.size∧(w1.heap.size≤k∨M1 k)):=by
  rintro k ⟨i,x',c',hi,hx',hb'⟩
  have hi:i<2 ^ s.d:=hi
  have hx':(s.H.set s.nx (some (so,true))).get i=some (x',true):=hx'
  rw [Tr.get_set hr.full hnx hi] at hx'
  by_cases e:i=s.nx
  ·subst e
   rw [Val.put_self] at hb';cases hb'
   exact .inl rfl
  ·rw [if_neg e] at hx'
   rw [hput i e] at hb'
   obtain ⟨b2,o2,hb2,ho2,_,h4⟩:=hr.obj i hi _ hx'
   rw [hb'] at hb2;cases hb2
   exact .inr ⟨(Array.getElem?_eq_some_iff.1 ho2).1,h4 rfl⟩
 have hB2:Base M w0 (liveOwn (ν'.put s.nx (b,c)) M1 (s.new so)) w':=by
  refine ⟨Nat.le_trans hB.size (Nat.le_trans hr.size hbel.size),hbel.os.trans (hr.os.trans hB.os),hbel.tape.trans (hr.tape.trans hB.tape),hbel.output.trans (hr.output.trans hB.output),fun k hb hM=>?_,fun k hb=>?_,hB.ro,fun b h=>h.elim,fun k hb=>?_⟩
  ·obtain ⟨h1,h2⟩:=hB.frame k hb hM
   have hb1:=Nat.lt_of_lt_of_le hb hB.size
   have hb2:=Nat.lt_of_lt_of_le hb1 hr.size
   refine ⟨(hbel.block k hb2).trans ((hr.frame k hb1 h2).trans h1),fun hl=>?_⟩
   rcases hown k hl with h | ⟨_,h | h⟩
   ·omega
   ·omega
   ·exact h2 h
  ·rcases hb with hb | hb
   ·exact .inl (Nat.le_trans hB.size (Nat.le_trans hr.size (Nat.le_trans hbel.size hb)))
   ·rcases hown k hb with h | ⟨_,h⟩
    ·exact .inl (Nat.le_trans hB.size (Nat.le_trans hr.size (by omega)))
    ·exact hB.own k h
  ·exact Nat.lt_of_lt_of_le (hB.rlt k hb) (Nat.le_trans hr.size hbel.size)
 have hK2:Kept H0 M00 w00 (H.growBut w w' b) (liveOwn (ν'.put s.nx (b,c)) M1 (s.new so)) w':=by
  refine ⟨hk.sub0.trans (Hp.sub_growBut hsub hbn),fun k o' hb=>?_,fun k o' hb h=>?_,hk.base.trans hB2⟩
  ·have hw':=Hp.grow_sub hsub hbel k o' (Hp.growBut_sub k o' hb)
   refine ⟨(Array.getElem?_eq_some_iff.1 hw').1,fun hl=>?_,hw'⟩
   have hne:k≠b:=fun e=>by
    unfold Hp.growBut at hb
    rw [if_pos e] at hb;cases hb
   rcases hown k hl with h | ⟨h1,h2⟩
   ·exact hne h
   ·have hb:=Hp.growBut_sub k o' hb
    simp only [Hp.grow,if_pos h1] at hb
    obtain ⟨h3,h4,_⟩:=hk.still k o' hb
    have h5:=(hB.frame k h3 h4).2
    rcases h2 with h | h
    ·have:=hB.size;omega
    ·exact h5 h
  ·have hlt:k<w.heap.size:=Nat.lt_of_lt_of_le hb (Nat.le_trans hk.base.size (Nat.le_trans hB.size hr.size))
   have h:=Hp.growBut_sub k o' h
   simp only [Hp.grow,if_pos hlt] at h
   exact hk.old k o' hb h
 obtain ⟨F',s3,hfin,ob,hsafe⟩:=hnext _ hK2
 have hr2:=live_HR hrA
 cases hcal with
 | wait hw ht=>
 have hhl:=noLag_ok hlag hw
 subst hhl
 have hw2:WaitF E (ν'.put s.nx (b,c)) (liveOwn (ν'.put s.nx (b,c)) M1 (s.new so)) w' [] F fr:=WaitF.mono hle2 ⟨hw.base,hw.ret,hw.mode,hw.todo.rebase fun b hb=>by cases hb⟩
 have ht2:CallersR E (ν'.put s.nx (b,c)) (liveOwn (ν'.put s.nx (b,c)) M1 (s.new so)) w' cs0 [] F.kind [] cs':=by
  generalize F.kind=kk at ht
  cases ht with
  | nil h=>exact .nil List.nodup_nil
 obtain ⟨_,hMR⟩:=finish_MR hw2 hr2 (hg.mono hle2) hv hfin ht2 ob
 exact hsafe (ν'.put s.nx (b,c)) _ _ _ (hle.trans hle2) (Base.refl (fun b hb=>hB2.rlt b hb) fun b h=>h) hMR
def newS (E:Env) (g:FuncId) (n:Nat) (S:SM) (o:List (Nat × Ans)) (mk:Nat→SV) (so:SO):Option SM:=match goS E (atCall g) n (S.with o) with
 | some T=>match T.callers with
  | [F]=>bif T.mem.room then (finish E F (mk T.mem.nx) (T.mem.new so)).map fun r=>⟨r.1,[],r.2⟩ else none
  | _=>none
 | none=>none
def newT (E:Env) (g:FuncId) (n:Nat) (S:SM) (o:List (Nat × Ans)) (mk:Nat→SV) (so:SO):SM:=(newS E g n S o mk so).getD ⟨⟨0,tmOf 0 0 [],[],[],false,.normal,none⟩,[],memOf 0 0 0 []⟩
def newO (E:Env) (g:FuncId) (n:Nat) (S:SM) (o:List (Nat × Ans)) (mk:Nat→SV) (so:SO):List Prop:=match newS E g n S o mk so with
 | some T=>T.mem.obl
 | none=>[False]
theorem newO_ok {g:FuncId} {n:Nat} {S:SM} {o:List (Nat × Ans)} {mk:Nat→SV} {so:SO} (h:Owed (newO E g n S o mk so)):newS E g n S o mk so=some (newT E g n S o mk so)∧(newT E g n S o mk so).mem.ob:=by
 unfold newO at h
 unfold newT
 split at h
 ·rename_i T hT
  rw [hT];exact ⟨rfl,h⟩
 ·exact owed_false h
theorem Goes.callN (K:Facts E M w0) {H0 H:Hp} {M00:Own} {w00:World} (hk:Kept H0 M00 w00 H M w0) {n:Nat} {g:FuncId} {S:SM} {o:List (Nat × Ans)} {args:List SV} (h:Owed (callO E g n S o)) (hG:callTop E g n S o=enterF E g args .normal)
  (hc:∀ ν' w a,ν.Le ν'→H.Sub w.hp→GR ν' E→VRL ν' args a→Calls E.P g a.toArray w fun e w'=>Below w.heap.size w w'∧∃ y mk so b c ob,e=.returned y∧w.heap.size≤b∧w'.heap[b]?=some ob∧(∀ (ν2:Val) i,ν2 i=some (b,c)→OR ν2 i so ob∧VR ν2 (mk i) y)∧
   Owed (newO E g n S o mk so)∧∀ M2,Kept H0 M00 w00 (H.growBut w w' b) M2 w'→Goes E M2 w' cs0 f R ν (newT E g n S o mk so)):Goes E M w0 cs0 f R ν S:=by
 unfold callO at h
 cases hT:goS E (atCall g) n (S.with o) with
 | none=>rw [hT] at h;exact owed_false h
 | some T=>
  rw [hT] at h
  dsimp only at h
  split at h
  ·rename_i F hF
   obtain ⟨hlag,hob⟩:=owed_bif h
   unfold callTop at hG
   rw [hT] at hG
   obtain ⟨top,callers,mem⟩:=T
   dsimp only at hF hG hob
   subst hF
   refine Goes.go K hT hob (Goes.callNQ (F:=F) hG.symm hlag hk fun ν' w a hle hsub hgr ha=>?_)
   refine (hc ν' w a hle hsub hgr ha).mono fun e w' ⟨hB,y,mk,so,b,c,ob,he,hbn,hbo,hall,h1,h2⟩=>?_
   obtain ⟨h3,h4⟩:=newO_ok h1
   have h5:=h3
   unfold newS at h5
   rw [hT] at h5
   dsimp only at h5
   cases hroom:mem.room
   ·rw [hroom] at h5;cases h5
   rw [hroom] at h5
   simp only [cond_true] at h5
   obtain ⟨r,hr,he2⟩:=Option.map_eq_some_iff.1 h5
   obtain ⟨q1,q2⟩:=hall (ν'.put mem.nx (b,c)) mem.nx (Val.put_self _ _ _)
   refine ⟨hB,y,mk mem.nx,so,b,c,ob,he,rfl,hbn,hbo,q1,q2,fun M2 hK=>⟨r.1,r.2,hr,?_,?_⟩⟩
   ·have:(newT E g n S o mk so).mem=r.2:=by rw [← he2]
    have h6:(newT E g n S o mk so).mem.ob:=h4
    rw [this] at h6;exact h6
   ·have:(⟨r.1,[],r.2⟩:SM)=newT E g n S o mk so:=he2
    rw [this];exact h2 M2 hK
  ·exact owed_false h
def callLook (E:Env) (g:FuncId) (n:Nat) (S:SM) (o:List (Nat × Ans)) (i:Nat):Option (SO × Bool):=match goS E (atCall g) n (S.with o) with
 | some T=>T.mem.look i
 | none=>none
theorem Goes.callHQ {G F:SF} {g:FuncId} {args:List SV} (hG:enterF E g args .normal=some G) (hlag:noLag E F=true) {H0 H:Hp} {M00:Own} {w00:World} (hk:Kept H0 M00 w00 H M w0)
  (hc:∀ ν' w a,ν.Le ν'→H.Sub w.hp→GR ν' E→VRL ν' args a→(∀ i so m,s.look i=some (so,m)→∃ b o,ν' i=some b∧w.heap[b.1]?=some o∧OR ν' i so o)→
   Calls E.P g a.toArray w fun e w'=>Below w.heap.size w w'∧∃ y x,e=.returned y∧VR ν' x y∧(∀ M2,Kept H0 M00 w00 (H.grow w w') M2 w'→
    ∃ F' s3,finish E F x s=some (F',s3)∧s3.ob∧Goes E M2 w' cs0 f R ν' ⟨F',[],s3⟩)):Goes E M w0 cs0 f R ν ⟨G,[F],s⟩:=by
 refine Goes.call hG fun ν' M1 w1 w a cs hle hB hr hg ha hcal=>?_
 have hsub:=hk.now hB hr
 refine (hc ν' w a hle hsub hg ha (fun i so m hl=>by obtain ⟨_,_,b,o,h1,h2,h3,_⟩:=hr.look hl;exact ⟨b,o,h1,h2,h3⟩)).mono fun e w' ⟨hbel,y,x,he,hv,hnext⟩=>⟨y,he,fun fr cs' hcs=>?_⟩
 subst hcs
 have hown:∀ b,(liveOwn ν' M1 s) b→b<w.heap.size∧(w1.heap.size≤b∨M1 b):=by
  rintro b ⟨i,x,c,hi,hx,hb⟩
  obtain ⟨b',o,hb',ho,_,h4⟩:=hr.obj i hi _ hx
  rw [hb] at hb';cases hb'
  exact ⟨(Array.getElem?_eq_some_iff.1 ho).1,h4 rfl⟩
 have hB2:Base M w0 (liveOwn ν' M1 s) w':=by
  refine ⟨Nat.le_trans hB.size (Nat.le_trans hr.size hbel.size),hbel.os.trans (hr.os.trans hB.os),hbel.tape.trans (hr.tape.trans hB.tape),hbel.output.trans (hr.output.trans hB.output),fun b hb hM=>?_,fun b hb=>?_,hB.ro,fun b h=>h.elim,fun b hb=>?_⟩
  ·obtain ⟨h1,h2⟩:=hB.frame b hb hM
   have hb1:=Nat.lt_of_lt_of_le hb hB.size
   refine ⟨(hbel.block b (Nat.lt_of_lt_of_le hb1 hr.size)).trans ((hr.frame b hb1 h2).trans h1),fun hl=>?_⟩
   rcases (hown b hl).2 with h | h
   ·omega
   ·exact h2 h
  ·rcases hb with hb | hb
   ·exact .inl (Nat.le_trans hB.size (Nat.le_trans hr.size (Nat.le_trans hbel.size hb)))
   ·exact hB.own b (hown b hb).2
  ·exact Nat.lt_of_lt_of_le (hB.rlt b hb) (Nat.le_trans hr.size hbel.size)
 have hK2:Kept H0 M00 w00 (H.grow w w') (liveOwn ν' M1 s) w':=by
  refine ⟨hk.sub0.trans (Hp.sub_grow hsub),fun b o hb=>?_,fun b o hb h=>?_,hk.base.trans hB2⟩
  ·have hw':=Hp.grow_sub hsub hbel b o hb
   refine ⟨(Array.getElem?_eq_some_iff.1 hw').1,fun hl=>?_,hw'⟩
   obtain ⟨h1,h2⟩:=hown b hl
   simp only [Hp.grow,if_pos h1] at hb
   obtain ⟨h3,h4,_⟩:=hk.still b o hb
   have h5:=(hB.frame b h3 h4).2
   rcases h2 with h | h
   ·have:=hB.size;omega
   ·exact h5 h
  ·have hlt:b<w.heap.size:=Nat.lt_of_lt_of_le hb (Nat.le_trans hk.base.size (Nat.le_trans hB.size hr.size))
   simp only [Hp.grow,if_pos hlt] at h
   exact hk.old b o hb h
 obtain ⟨F',s3,hfin,ob,hsafe⟩:=hnext _ hK2
 have hr2:HR ν' (liveOwn ν' M1 s) w' s w':=by
  have hg:=hr.grow hbel
  refine ⟨hg.full,hg.dom,hg.fresh,fun i hi x hx=>?_,hg.inj,Nat.le_refl _,fun _ _ _=>rfl,hg.ro,rfl,rfl,rfl⟩
  obtain ⟨b,o,h1,h2,h3,h4⟩:=hg.obj i hi x hx
  refine ⟨b,o,h1,h2,h3,fun hm=>.inr ⟨i,x.1,b.2,hi,?_,h1⟩⟩
  rw [hx,← hm]
 cases hcal with
 | wait hw ht=>
 have hhl:=noLag_ok hlag hw
 subst hhl
 have hw2:WaitF E ν' (liveOwn ν' M1 s) w' [] F fr:=⟨hw.base,hw.ret,hw.mode,hw.todo.rebase fun b hb=>by cases hb⟩
 have ht2:CallersR E ν' (liveOwn ν' M1 s) w' cs0 [] F.kind [] cs':=by
  generalize F.kind=kk at ht
  cases ht with
  | nil h=>exact .nil List.nodup_nil
 obtain ⟨_,hMR⟩:=finish_MR hw2 hr2 hg hv hfin ht2 ob
 exact hsafe ν' _ _ _ (Val.Le.refl _) (Base.refl (fun b hb=>hB2.rlt b hb) fun b h=>h) hMR
theorem Goes.callH (K:Facts E M w0) {H0 H:Hp} {M00:Own} {w00:World} (hk:Kept H0 M00 w00 H M w0) {n:Nat} {g:FuncId} {S:SM} {o:List (Nat × Ans)} {args:List SV} (h:Owed (callO E g n S o)) (hG:callTop E g n S o=enterF E g args .normal)
  (hc:∀ ν' w a,ν.Le ν'→H.Sub w.hp→GR ν' E→VRL ν' args a→(∀ i so m,callLook E g n S o i=some (so,m)→∃ b o,ν' i=some b∧w.heap[b.1]?=some o∧OR ν' i so o)→Calls E.P g a.toArray w fun e w'=>Below w.heap.size w w'∧∃ y,e=.returned y∧(∀ M2,Kept H0 M00 w00 (H.grow w w') M2 w'→
   Owed (backO E g n S o (.v y))∧Goes E M2 w' cs0 f R ν (backT E g n S o (.v y)))):Goes E M w0 cs0 f R ν S:=by
 unfold callO at h
 cases hT:goS E (atCall g) n (S.with o) with
 | none=>rw [hT] at h;exact owed_false h
 | some T=>
  rw [hT] at h
  dsimp only at h
  split at h
  ·rename_i F hF
   obtain ⟨hlag,hob⟩:=owed_bif h
   unfold callTop at hG
   rw [hT] at hG
   obtain ⟨top,callers,mem⟩:=T
   dsimp only at hF hG hob
   subst hF
   refine Goes.go K hT hob (Goes.callHQ (F:=F) hG.symm hlag hk fun ν' w a hle hsub hgr ha hlk=>?_)
   refine (hc ν' w a hle hsub hgr ha (fun i so m hl=>hlk i so m (by unfold callLook at hl;rw [hT] at hl;exact hl))).mono fun e w' ⟨hB,y,he,hn⟩=>⟨hB,y,.v y,he,VR.v_iff.2 rfl,fun M2 hK=>?_⟩
   obtain ⟨h1,h2⟩:=hn M2 hK
   obtain ⟨h3,h4⟩:=backO_ok h1
   have h5:=h3
   unfold backS at h5
   rw [hT] at h5
   dsimp only at h5
   obtain ⟨r,hr,he2⟩:=Option.map_eq_some_iff.1 h5
   refine ⟨r.1,r.2,hr,?_,?_⟩
   ·have:(backT E g n S o (.v y)).mem=r.2:=by rw [← he2]
    have h6:(backT E g n S o (.v y)).mem.ob:=h4
    rw [this] at h6;exact h6
   ·have:(⟨r.1,[],r.2⟩:SM)=backT E g n S o (.v y):=he2
    rw [this];exact h2.mono hle
  ·exact owed_false h
end
end Go.Rx
set_option maxRecDepth 100000
namespace Go.Proofs.YtbjmmnegkpeboaaGreat
open Go Go.Rx Go.RowKit
noncomputable def extL:List (FuncId × ExtK):=[(115,.pure Extern.BytealgIndexByte.indexByte)]
theorem extRows:∀ r∈extL,ExtRow Tryz.prog r:=by
 intro r hr
 simp only [extL,List.mem_cons,List.not_mem_nil,or_false] at hr
 rcases hr with rfl
 ·exact ⟨Tryz.f115,_,Tryz.func115,by kernel_rfl,by kernel_rfl,by kernel_rfl,rfl,by kernel_rfl⟩
def orcL (l:List (Nat × Bool)):Nat→Option Bool:=fun n=>l.lookup n
noncomputable def E (l:List (Nat × Bool)) (G:List (Nat × Nat)):Env:={ P:=Tryz.prog,ext:=fun f=>extL.lookup f,G,orc:=orcL l,sums:=fun _=>none,qs:=fun _=>none }
theorem facts {M:Own} {w0:World} (l:List (Nat × Bool)) (G:List (Nat × Nat)):Facts (E l G) M w0:=
 Facts.of (Checked.mixed Tryz.checked) (by kernel_rfl) (ExtOK.of extL rfl extRows) rfl (fun f g h=>by cases h)
noncomputable def EP (sl:List (FuncId × PS)) (G:List (Nat × Nat)):Env:={ P:=Tryz.prog,ext:=fun f=>extL.lookup f,G,orc:=fun _=>none,sums:=sumsOf sl,qs:=fun _=>none }
theorem factsP {M:Own} {w0:World} {sl:List (FuncId × PS)} {G:List (Nat × Nat)} {X:World→Prop} (h:∀ r∈sl,PureOK Tryz.prog X r) (hX:∀ ν s w,HR ν M w0 s w→GR ν (EP sl G)→X w):Facts (EP sl G) M w0:=
 Facts.of' (Checked.mixed Tryz.checked) (by kernel_rfl) (ExtOK.of extL rfl extRows) (SumsOK.of rfl h hX) (fun f g h=>by cases h)
theorem factsP0 {M:Own} {w0:World} {sl:List (FuncId × PS)} (h:∀ r∈sl,PureOK Tryz.prog (fun _=>True) r):Facts (EP sl []) M w0:=factsP h fun _ _ _ _ _=>trivial
theorem own:ownKnob Tryz.prog.godebug=none:=by kernel_rfl
theorem laidOut:laidOutB Tryz.prog=true:=by kernel_rfl
end Go.Proofs.YtbjmmnegkpeboaaGreat
set_option linter.unusedSimpArgs false
set_option linter.unusedVariables false
set_option maxRecDepth 100000
namespace Go.Proofs.YtbjmmnegkpeboaaGreat
open Go Go.Rx Go.RowKit Go.Proofs
namespace paths
def MX (w:World):Prop:=∃ m:Int,w.cell? ⟨0,0,none⟩=some (.int .i64 m)
theorem MX.keep {w0 w:World} (h:MX w0) (hk:∀ k,k<w0.heap.size→w.heap[k]?=w0.heap[k]?):MX w:=let ⟨m,h⟩:=h;⟨m,cell_keep h hk⟩
def laysCut_ren:Go.Shelf.Ren:=⟨fun | 145=>46 | 220=>78 | 219=>98 | 217=>107 | 225=>108 | 224=>109 | 267=>110 | 266=>115 | 314=>116 | n=>n,fun | 9=>9 | 4=>4 | 59=>97 | 3=>3 | 5=>5 | 46=>96 | 146=>151 | 51=>124 | n=>n,fun | 1=>0 | n=>n⟩
theorem laysCut:Go.Proofs.LaysM.n145 Tryz.prog laysCut_ren where
 mixed:=by kernel_rfl
 f145:=Tryz.func46.trans (congrArg some (by kernel_rfl))
 f217:=Tryz.func107.trans (congrArg some (by kernel_rfl))
 f219:=Tryz.func98.trans (congrArg some (by kernel_rfl))
 f220:=Tryz.func78.trans (congrArg some (by kernel_rfl))
 f224:=Tryz.func109.trans (congrArg some (by kernel_rfl))
 f225:=Tryz.func108.trans (congrArg some (by kernel_rfl))
 f266:=Tryz.func115.trans (congrArg some (by kernel_rfl))
 f267:=Tryz.func110.trans (congrArg some (by kernel_rfl))
 f314:=Tryz.func116.trans (congrArg some (by kernel_rfl))
 t3:=Tryz.underlying3
 a3:=Tryz.isAgg3
 z3:=Tryz.sizeOf3
 v3:=Tryz.zeroValue3
 t4:=Tryz.underlying4
 a4:=Tryz.isAgg4
 z4:=Tryz.sizeOf4
 v4:=Tryz.zeroValue4
 t5:=Tryz.underlying5
 a5:=Tryz.isAgg5
 z5:=Tryz.sizeOf5
 v5:=Tryz.zeroValue5
 t9:=Tryz.underlying9
 a9:=Tryz.isAgg9
 z9:=Tryz.sizeOf9
 v9:=Tryz.zeroValue9
 t46:=Tryz.underlying96
 a46:=Tryz.isAgg96
 z46:=Tryz.sizeOf96
 v46:=Tryz.zeroValue96
 t51:=Tryz.underlying124
 a51:=Tryz.isAgg124
 z51:=Tryz.sizeOf124
 v51:=Tryz.zeroValue124
 t59:=Tryz.underlying97
 a59:=Tryz.isAgg97
 z59:=Tryz.sizeOf97
 v59:=Tryz.zeroValue97
 t146:=Tryz.underlying151
 a146:=Tryz.isAgg151
 z146:=Tryz.sizeOf151
 v146:=Tryz.zeroValue151
 g1:=by kernel_rfl
 i3:=by kernel_rfl
 i4:=by kernel_rfl
 i5:=by kernel_rfl
 i9:=by kernel_rfl
 i46:=by kernel_rfl
 i51:=by kernel_rfl
 i59:=by kernel_rfl
 i146:=by kernel_rfl
 m1:=by kernel_rfl
 s1_3:=fun w h=>Go.Proofs.cell_of_shapedOpen_int (zero:=#[.int .i64 0]) (t:=3) h (of_decide_eq_true (by kernel_rfl)) (by kernel_rfl) rfl (by kernel_rfl) (by kernel_rfl) Tryz.underlying3

def laysIB_ren:Go.Shelf.Ren:=⟨fun | 137=>112 | 217=>107 | 266=>115 | n=>n,fun | 9=>9 | 5=>5 | 3=>3 | n=>n,fun | n=>n⟩
theorem laysIB:Go.Proofs.Lays.n137 Tryz.prog laysIB_ren where
 mixed:=by kernel_rfl
 f137:=Tryz.func112.trans (congrArg some (by kernel_rfl))
 f217:=Tryz.func107.trans (congrArg some (by kernel_rfl))
 f266:=Tryz.func115.trans (congrArg some (by kernel_rfl))
 t3:=Tryz.underlying3
 a3:=Tryz.isAgg3
 z3:=Tryz.sizeOf3
 v3:=Tryz.zeroValue3
 t5:=Tryz.underlying5
 a5:=Tryz.isAgg5
 z5:=Tryz.sizeOf5
 v5:=Tryz.zeroValue5
 t9:=Tryz.underlying9
 a9:=Tryz.isAgg9
 z9:=Tryz.sizeOf9
 v9:=Tryz.zeroValue9

def cA (s:ByteArray):ByteArray:=⟨(Lib.cut s.data.toList [47]).1.toArray⟩
def cB (s:ByteArray):ByteArray:=⟨(Lib.cut s.data.toList [47]).2.1.toArray⟩
def cM (s:ByteArray):Bool:=(Lib.cut s.data.toList [47]).2.2
def slash:ByteArray:=⟨#[47]⟩
def cutPS:PS:=fun args=>match args with | [.string s,.string t]=>some (.tuple #[.string (cA s),.string (cB s),.bool (cM s)],s.size≤1000000000∧t=slash) | _=>none
theorem cut_ok:PureOK Tryz.prog MX (46,cutPS):=by
 refine ⟨⟨_,Tryz.func46,by kernel_rfl,by kernel_rfl⟩,fun args v p h hp w hX=>?_⟩
 dsimp only [cutPS] at h
 split at h
 ·rename_i s t
  cases h
  obtain ⟨h1,rfl⟩:=hp
  obtain ⟨m,hm⟩:=hX
  refine (Any.strings_Cut { laysCut with } s slash m w (by omega) hm).mono fun e w' ⟨he,n,hw⟩=>⟨?_,he⟩
  rw [hw];exact below_drewN (Below.refl _ _) n
 ·cases h
theorem cB_size (s:ByteArray):(cB s).size≤s.size:=by
 have e:(cB s).size=(Lib.cut s.data.toList [47]).2.1.length:=by simp [cB,ByteArray.size]
 have e2:s.data.toList.length=s.size:=by simp
 rw [e];unfold Lib.cut
 split
 ·simp only [List.length_drop];omega
 ·simp
theorem cA_nil:cA ⟨#[]⟩=⟨#[]⟩:=by
 have:Lib.cut [] [47]=([],[],false):=rfl
 show ByteArray.mk (Lib.cut [] [47]).1.toArray=_
 rw [this]
def noZ (s:ByteArray):Int:=Lib.indexByte s.data.toList 0
def ibPS:PS:=fun args=>match args with | [.string s,.int .u8 c]=>some (.int .i64 (noZ s),c=0) | _=>none
theorem ib_ok:PureOK Tryz.prog (fun _=>True) (112,ibPS):=by
 refine ⟨⟨_,Tryz.func112,by kernel_rfl,by kernel_rfl⟩,fun args v p h hp w hX=>?_⟩
 dsimp only [ibPS] at h
 split at h
 ·rename_i s c
  cases h
  subst hp
  refine (Any.strings_IndexByte laysIB s 0 w).mono fun e w' ⟨he,hw⟩=>⟨?_,he⟩
  rw [hw];exact Below.refl _ _
 ·cases h
noncomputable def EI:Env:=EP [(112,ibPS)] []
theorem KI {M:Own} {w0:World}:Facts EI M w0:=factsP0 fun r h=>by rw [List.mem_singleton.1 h];exact ib_ok
theorem p0 (v:Value):endsV EI 100 300 (entE EI 100 [.v (.string ⟨#[]⟩)]) [(1000,.b true)] v=[
 Value.bool false=v]:=by kernel_rfl
theorem p1 (v:Value):endsV EI 100 300 (entE EI 100 [.v (.string ⟨#[46]⟩)]) [(1000,.b true)] v=[
 Value.bool false=v]:=by kernel_rfl
theorem p2 (v:Value):endsV EI 100 300 (entE EI 100 [.v (.string ⟨#[46,46]⟩)]) [(1000,.b true)] v=[
 Value.bool false=v]:=by kernel_rfl
theorem p3 (s:ByteArray) (v:Value):endsV EI 100 300 (entE EI 100 [.v (.string s)]) (ff [0,1,2,3] true++ff [4,5,6,7,8,9,10,11,12,13,14,15,16,17] false) v=[
 Value.bool false=v,
 false=false,
 false=false,
 false=false,
 false=false,
 false=false,
 false=false,
 false=false,
 decide ((↑s.size:Int)≤(24:Int))=false,
 decide ((↑s.size:Int)≤(24:Int))=false,
 decide ((↑s.size:Int)≤(24:Int))=false,
 (!s.toList=={ data:={ toList:=[]:Array UInt8 }:ByteArray }.toList)=true,
 (!s.toList=={ data:={ toList:=[]:Array UInt8 }:ByteArray }.toList)=true,
 (!s.toList=={ data:={ toList:=[]:Array UInt8 }:ByteArray }.toList)=true,
 (!s.toList=={ data:={ toList:=[]:Array UInt8 }:ByteArray }.toList)=true]:=by kernel_rfl
theorem p4 (s:ByteArray) (v:Value):endsV EI 100 300 (entE EI 100 [.v (.string s)]) (ff [0,1,2,3,4,5,6,7,8,9,10,11,13,14,15,16,17] true) v=[
 Value.bool (decide (noZ s<(0:Int)))=v,
 (!s.toList=={ data:={ toList:=[(46:UInt8),(46:UInt8)]:Array UInt8 }:ByteArray }.toList)=true,
 (!s.toList=={ data:={ toList:=[(46:UInt8),(46:UInt8)]:Array UInt8 }:ByteArray }.toList)=true,
 (0:Int)=(0:Int),
 (!s.toList=={ data:={ toList:=[(46:UInt8),(46:UInt8)]:Array UInt8 }:ByteArray }.toList)=true,
 (!s.toList=={ data:={ toList:=[(46:UInt8),(46:UInt8)]:Array UInt8 }:ByteArray }.toList)=true,
 (!s.toList=={ data:={ toList:=[(46:UInt8)]:Array UInt8 }:ByteArray }.toList)=true,
 (!s.toList=={ data:={ toList:=[(46:UInt8)]:Array UInt8 }:ByteArray }.toList)=true,
 (!s.toList=={ data:={ toList:=[(46:UInt8)]:Array UInt8 }:ByteArray }.toList)=true,
 decide ((↑s.size:Int)≤(24:Int))=true,
 decide ((↑s.size:Int)≤(24:Int))=true,
 decide ((↑s.size:Int)≤(24:Int))=true,
 (!s.toList=={ data:={ toList:=[]:Array UInt8 }:ByteArray }.toList)=true,
 (!s.toList=={ data:={ toList:=[]:Array UInt8 }:ByteArray }.toList)=true,
 (!s.toList=={ data:={ toList:=[]:Array UInt8 }:ByteArray }.toList)=true,
 (!s.toList=={ data:={ toList:=[]:Array UInt8 }:ByteArray }.toList)=true]:=by kernel_rfl
def partB (s:ByteArray):Bool:=decide (s.data.toList≠[]∧s.size≤24∧s.data.toList≠[46]∧s.data.toList≠[46,46])&&decide (noZ s<0)
def partPS:PS:=fun args=>match args with | [.string s]=>some (.bool (partB s),s.size≤1000000000) | _=>none
theorem tlB (b:ByteArray):b.toList=b.data.toList:=ByteArray.toList_eq b
theorem ne_beq {a b:List UInt8} (h:a≠b):(a==b)=false:=beq_eq_false_iff_ne.2 h
theorem of_list {s:ByteArray} {l:List UInt8} (h:s.data.toList=l):s=⟨l.toArray⟩:=by cases s;subst h;simp
theorem part_ok:PureOK Tryz.prog (fun _=>True) (100,partPS):=by
 refine ⟨⟨_,Tryz.func100,by kernel_rfl,by kernel_rfl⟩,fun args v p h hp w hX=>?_⟩
 dsimp only [partPS] at h
 split at h
 ·rename_i s
  cases h
  refine (calls_bare (E:=EI) rfl rfl (Q:=fun v=>v=.bool (partB s)) (args:=[.v (.string s)]) (a:=[.string s]) w (S0:=entE EI 100 [.v (.string s)]) (by kernel_rfl) (VRL.cons (VR.v_iff.2 rfl) VRL.nil) fun cs0=>?_).mono fun e w' ⟨h1,u,h2,h3⟩=>⟨h1,by rw [h2,h3]⟩
  have hend:∀ (ν':Val) (M1:Own) (w1:World) (s':SH) (w':World),(layVal []).Le ν'→Base (layOwn [] []) w M1 w1→HR ν' M1 w1 s' w'→(Below w.heap.size w w'∧∃ v,Ending.returned (.bool (partB s))=.returned v∧v=.bool (partB s)):=fun ν' M1 w1 s' w' _ hB hr=>⟨below_of not_laid hB hr,_,rfl,rfl⟩
  by_cases h0:s.data.toList=[]
  ·obtain rfl:=of_list h0
   refine Goes.endsV KI (n:=300) (o:=[(1000,.b true)]) (v:=.bool (partB _)) ?_ hend
   rw [p0]
   simp [Owed,partB]
  by_cases h1:s.data.toList=[46]
  ·obtain rfl:=of_list h1
   refine Goes.endsV KI (n:=300) (o:=[(1000,.b true)]) (v:=.bool (partB _)) ?_ hend
   rw [p1]
   simp [Owed,partB]
  by_cases h2:s.data.toList=[46,46]
  ·obtain rfl:=of_list h2
   refine Goes.endsV KI (n:=300) (o:=[(1000,.b true)]) (v:=.bool (partB _)) ?_ hend
   rw [p2]
   simp [Owed,partB]
  by_cases h3:s.size≤24
  ·refine Goes.endsV KI (n:=300) (o:=ff [0,1,2,3,4,5,6,7,8,9,10,11,13,14,15,16,17] true) (v:=.bool (partB s)) ?_ hend
   rw [p4]
   have e:partB s=decide (noZ s<0):=by unfold partB;simp [h0,h1,h2,h3]
   have c1:decide ((s.size:Int)≤24)=true:=decide_eq_true (by omega)
   simp only [Owed,e,tlB,ne_beq h0,ne_beq h1,ne_beq h2,c1,Bool.not_false,true_and,and_true]
  ·refine Goes.endsV KI (n:=300) (o:=ff [0,1,2,3] true++ff [4,5,6,7,8,9,10,11,12,13,14,15,16,17] false) (v:=.bool (partB s)) ?_ hend
   rw [p3]
   have e:partB s=false:=by unfold partB;simp [h3]
   have c1:decide ((s.size:Int)≤24)=false:=decide_eq_false (by omega)
   simp only [Owed,e,tlB,ne_beq h0,c1,Bool.not_false,true_and,and_true]
 ·cases h
noncomputable def EN0:Env:=EP [] []
theorem e0 (x y:ByteArray) (v:Value):endsV EN0 47 300 (entE EN0 47 [.v (.string x),.v (.string y)]) (ff [0,1] false++ff [2] true) v=[
 Value.int IntKind.i64 (-1:Int)=v,
 Op.bytesLess x.toList y.toList=true,
 (!y.toList==y.toList)=false,
 (!x.toList==x.toList)=false]:=by kernel_rfl
theorem e1 (x y:ByteArray) (v:Value):endsV EN0 47 300 (entE EN0 47 [.v (.string x),.v (.string y)]) (ff [0,1,2] false++ff [3] true) v=[
 Value.int IntKind.i64 (1:Int)=v,
 (!(Op.bytesLess x.toList y.toList||x.toList==y.toList))=true,
 Op.bytesLess x.toList y.toList=false,
 (!y.toList==y.toList)=false,
 (!x.toList==x.toList)=false]:=by kernel_rfl
theorem e2 (x y:ByteArray) (v:Value):endsV EN0 47 300 (entE EN0 47 [.v (.string x),.v (.string y)]) (ff [0,1,2,3] false) v=[
 Value.int IntKind.i64 (0:Int)=v,
 (!(Op.bytesLess x.toList y.toList||x.toList==y.toList))=false,
 Op.bytesLess x.toList y.toList=false,
 (!y.toList==y.toList)=false,
 (!x.toList==x.toList)=false]:=by kernel_rfl
def cmpS (x y:ByteArray):Int:=if Op.bytesLess x.toList y.toList=true then -1 else if (!(Op.bytesLess x.toList y.toList||x.toList==y.toList))=true then 1 else 0
def cmpSPS:PS:=fun args=>match args with | [.string x,.string y]=>some (.int .i64 (cmpS x y),True) | _=>none
theorem KN0 {M:Own} {w0:World}:Facts EN0 M w0:=factsP0 fun r h=>by cases h
theorem cmpS_ok:PureOK Tryz.prog (fun _=>True) (47,cmpSPS):=by
 refine .mk ⟨_,Tryz.func47,by kernel_rfl,by kernel_rfl⟩ fun args v p h hp w hX=>?_
 dsimp only [cmpSPS] at h
 split at h
 ·rename_i x y
  cases h
  have go:∀ {o v},Due (endsV EN0 47 300 (entE EN0 47 [.v (.string x),.v (.string y)]) o v)→v=.int .i64 (cmpS x y)→Calls Tryz.prog 47 #[.string x,.string y] w fun e w'=>Below w.heap.size w w'∧e=.returned (.int .i64 (cmpS x y)):=fun h e=>
   e ▸ calls_endsV (E:=EN0) (args:=[.v (.string x),.v (.string y)]) (a:=[.string x,.string y]) rfl rfl KN0 (by kernel_rfl) (VRL.cons (VR.v_iff.2 rfl) (VRL.cons (VR.v_iff.2 rfl) VRL.nil)) h
  cases h1:Op.bytesLess x.toList y.toList
  ·cases h2:(x.toList==y.toList)
   ·exact go (o:=ff [0,1,2] false++ff [3] true) (v:=.int .i64 1) ⟨by rw [e1];simp [Owed,h1,h2]⟩ (by simp [cmpS,h1,h2])
   ·exact go (o:=ff [0,1,2,3] false) (v:=.int .i64 0) ⟨by rw [e2];simp [Owed,h1,h2]⟩ (by simp [cmpS,h1,h2])
  ·exact go (o:=ff [0,1] false++ff [2] true) (v:=.int .i64 (-1)) ⟨by rw [e0];simp [Owed,h1]⟩ (by simp [cmpS,h1])
 ·cases h
noncomputable def EN:Env:=EP [(46,cutPS),(47,cmpSPS)] []
noncomputable def todoN:List SI:=todoL EN 1 60 (entE EN 21 [.v (.string ⟨#[]⟩),.v (.string ⟨#[]⟩)]) []
noncomputable def hdN (a b:ByteArray):SF:={ fn:=21,tm:=tmOf 44 6 ([.v (.string a),.v (.string b)]++List.replicate 42 .junk),todo:=todoN,defers:=[],ret:=false,kind:=.normal,ro:=none }
theorem n0 (a b:ByteArray):reach EN 1 60 (entE EN 21 [.v (.string a),.v (.string b)]) [(1000,.b true)] [] [] (hdN a b) 6 []=[
 Value.string a=Value.string a,
 Value.string b=Value.string b]:=by kernel_rfl
theorem n1 (a b:ByteArray) (v:Value):endsV EN 21 300 (SM.at (hdN a b) 6 []) (ff (List.range 40) true) v=[
 Value.int IntKind.i64 (cmpS (cA a) (cA b))=v,
 True,
 (!(cA a).toList==(cA b).toList)=true,
 b.size≤(1000000000:Nat)∧{ data:={ toList:=[(47:UInt8)]:Array UInt8 }:ByteArray }=slash,
 a.size≤(1000000000:Nat)∧{ data:={ toList:=[(47:UInt8)]:Array UInt8 }:ByteArray }=slash]:=by kernel_rfl
theorem n2 (a b:ByteArray) (v:Value):endsV EN 21 300 (SM.at (hdN a b) 6 []) (ff [0,1,2] false++ff [3,4,5,6] true++ff [7] false++ff [8] true) v=[
 Value.int IntKind.i64 (IntKind.i64.wrap ((0:Int) - (1:Int)))=v,
 cM b=true,
 cM a=false,
 true=true,
 (!cM a)=true,
 (!cM a)=true,
 (!cM a)=true,
 (!(cA a).toList==(cA b).toList)=false,
 b.size≤(1000000000:Nat)∧{ data:={ toList:=[(47:UInt8)]:Array UInt8 }:ByteArray }=slash,
 a.size≤(1000000000:Nat)∧{ data:={ toList:=[(47:UInt8)]:Array UInt8 }:ByteArray }=slash]:=by kernel_rfl
theorem n4 (a b:ByteArray) (v:Value):endsV EN 21 300 (SM.at (hdN a b) 6 []) (ff [0,1,2] false++ff [3,4,5,6] true++ff [7] false++ff [8] false) v=[
 Value.int IntKind.i64 (IntKind.i64.wrap ((0:Int) - (0:Int)))=v,
 cM b=false,
 cM a=false,
 true=true,
 (!cM a)=true,
 (!cM a)=true,
 (!cM a)=true,
 (!(cA a).toList==(cA b).toList)=false,
 b.size≤(1000000000:Nat)∧{ data:={ toList:=[(47:UInt8)]:Array UInt8 }:ByteArray }=slash,
 a.size≤(1000000000:Nat)∧{ data:={ toList:=[(47:UInt8)]:Array UInt8 }:ByteArray }=slash]:=by kernel_rfl
theorem n5 (a b:ByteArray) (v:Value):endsV EN 21 300 (SM.at (hdN a b) 6 []) (ff [0,1,2,3,4,5] false++ff [6,7] true++ff [8] false) v=[
 Value.int IntKind.i64 (IntKind.i64.wrap ((1:Int) - (0:Int)))=v,
 cM b=false,
 cM a=true,
 (!cM b)=true,
 (!cM a)=false,
 (!cM a)=false,
 (!cM a)=false,
 (!(cA a).toList==(cA b).toList)=false,
 b.size≤(1000000000:Nat)∧{ data:={ toList:=[(47:UInt8)]:Array UInt8 }:ByteArray }=slash,
 a.size≤(1000000000:Nat)∧{ data:={ toList:=[(47:UInt8)]:Array UInt8 }:ByteArray }=slash]:=by kernel_rfl
theorem n3 (a b a' b':ByteArray):reach EN 1 60 (SM.at (hdN a b) 6 []) (ff (List.range 40) false) [] [] (hdN a' b') 6 []=[
 Value.string (cB a)=Value.string a',
 Value.string (cB b)=Value.string b',
 (!cM b)=false,
 (!cM a)=false,
 (!cM a)=false,
 (!cM a)=false,
 (!(cA a).toList==(cA b).toList)=false,
 b.size≤(1000000000:Nat)∧{ data:={ toList:=[(47:UInt8)]:Array UInt8 }:ByteArray }=slash,
 a.size≤(1000000000:Nat)∧{ data:={ toList:=[(47:UInt8)]:Array UInt8 }:ByteArray }=slash]:=by kernel_rfl

theorem index_ge:∀ (s:List UInt8),Lib.index s [47]=-1∨0≤Lib.index s [47]
 | []=>.inl rfl
 | b::l=>by
  unfold Lib.index
  split
  ·exact .inr (Int.le_refl _)
  ·rcases index_ge l with h | h
   ·rw [h];exact .inl rfl
   ·right
    split
    ·rename_i e;rw [beq_iff_eq] at e;omega
    ·omega
theorem cut_nil:Lib.cut [] [47]=([],[],false):=rfl
theorem cut_at (l:List UInt8):Lib.cut (47::l) [47]=([],l,true):=by
 have h:Lib.index (47::l) [47]=0:=by unfold Lib.index;simp [List.isPrefixOf]
 unfold Lib.cut;rw [h];simp
theorem cut_on {b:UInt8} (hb:b≠47) (l:List UInt8):Lib.cut (b::l) [47]=(b::(Lib.cut l [47]).1,(Lib.cut l [47]).2.1,(Lib.cut l [47]).2.2):=by
 have h0:([47]:List UInt8).isPrefixOf (b::l)=false:=by
  simp only [List.isPrefixOf,Bool.and_true];exact beq_eq_false_iff_ne.2 fun e=>hb e.symm
 have h:Lib.index (b::l) [47]=if Lib.index l [47]==-1 then -1 else Lib.index l [47]+1:=by
  conv=>lhs;unfold Lib.index
  rw [h0];rfl
 rcases index_ge l with h1 | h1
 ·have h2:Lib.index (b::l) [47]=-1:=by rw [h,h1];rfl
  unfold Lib.cut;rw [h1,h2];rfl
 ·have h2:Lib.index (b::l) [47]=Lib.index l [47]+1:=by
   rw [h,if_neg (by rw [beq_iff_eq];omega)]
  unfold Lib.cut;rw [h2,if_pos h1,if_pos (by omega)]
  have e:(Lib.index l [47]+1).toNat=(Lib.index l [47]).toNat+1:=by omega
  rw [e];simp [Nat.add_right_comm]
def partsL:List UInt8→List (List UInt8)
 | []=>[[]]
 | b::l=>if b=47 then []::partsL l else match partsL l with
  | []=>[[b]]
  | x::xs=>(b::x)::xs
theorem partsL_ne:∀ l:List UInt8,partsL l≠[]
 | []=>by simp [partsL]
 | b::l=>by
  unfold partsL
  split
  ·simp
  ·split <;> simp
theorem partsL_cut:∀ l:List UInt8,partsL l=(Lib.cut l [47]).1::(if (Lib.cut l [47]).2.2=true then partsL (Lib.cut l [47]).2.1 else [])
 | []=>by rw [cut_nil];rfl
 | b::l=>by
  by_cases hb:b=47
  ·subst hb
   rw [cut_at];simp [partsL]
  ·rw [cut_on hb]
   have ih:=partsL_cut l
   have e:partsL (b::l)=match partsL l with
    | []=>[[b]]
    | x::xs=>(b::x)::xs:=by
    conv=>lhs;unfold partsL
    rw [if_neg hb]
   rw [e,ih]
theorem cut_len:∀ l:List UInt8,(Lib.cut l [47]).2.2=true→(Lib.cut l [47]).2.1.length<l.length
 | []=>fun h=>by rw [cut_nil] at h;cases h
 | b::l=>fun h=>by
  by_cases hb:b=47
  ·subst hb;rw [cut_at];simp
  ·rw [cut_on hb] at h ⊢
   have:=cut_len l h
   simp only [List.length_cons];omega
theorem cB_lt (s:ByteArray) (h:cM s=true):(cB s).size<s.size:=by
 have e:(cB s).size=(Lib.cut s.data.toList [47]).2.1.length:=by simp [cB,ByteArray.size]
 have e2:s.data.toList.length=s.size:=by simp
 have:=cut_len s.data.toList h
 omega
def atN (b:Bool):Int:=bif b then 1 else 0
def cmpF:Nat→ByteArray→ByteArray→Int
 | 0,_,_=>0
 | n+1,a,b=>if (cA a).data.toList=(cA b).data.toList then (if cM a=true∧cM b=true then cmpF n (cB a) (cB b) else atN (cM a) - atN (cM b)) else cmpS (cA a) (cA b)
def cmpN (a b:ByteArray):Int:=cmpF (a.size+1) a b
def cmpPS:PS:=fun args=>match args with | [.string a,.string b]=>some (.int .i64 (cmpN a b),a.size≤1000000000∧b.size≤1000000000) | _=>none
theorem KN {w0:World} (h:MX w0):Facts EN (layOwn [] []) w0:=factsP (X:=MX) (fun r hr=>by
 simp only [List.mem_cons,List.not_mem_nil,or_false] at hr
 rcases hr with rfl | rfl
 ·exact cut_ok
 ·exact ⟨cmpS_ok.1,fun args v p e hp w _=>cmpS_ok.2 args v p e hp w trivial⟩) fun ν s w hr _=>h.keep fun k hk=>hr.frame k hk (not_laid k)
theorem goes_due {E:Env} {M:Own} {w0:World} {cs0:List Frame} {f:FuncId} {R:Ending→World→Prop} {ν:Val} {n:Nat} {S:SM} {o:List (Nat × Ans)} {v:Value} (K:Facts E M w0) (hM:∀ b,¬ M b) (h:Due (endsV E f n S o v)) (hR:∀ w',Below w0.heap.size w0 w'→R (.returned v) w'):Goes E M w0 cs0 f R ν S:=
 Goes.endsV K h.out fun ν' M1 w1 s' w' _ hB hr=>hR _ (below_of hM hB hr)
theorem loopN {w0:World} {cs0:List Frame} {R:Ending→World→Prop} (h:MX w0):∀ (n:Nat) (a b:ByteArray),a.size<n→a.size≤1000000000→b.size≤1000000000→
  (∀ w',Below w0.heap.size w0 w'→R (.returned (.int .i64 (cmpF n a b))) w')→Goes EN (layOwn [] []) w0 cs0 21 R (layVal []) (SM.at (hdN a b) 6 [])
 | 0,a,b,hn,_,_,_=>by omega
 | n+1,a,b,hn,ha,hb,hR=>by
  have sl:(⟨⟨[47]⟩⟩:ByteArray)=slash:=rfl
  have go:∀ {o v},Due (endsV EN 21 300 (SM.at (hdN a b) 6 []) o v)→v=.int .i64 (cmpF (n+1) a b)→Goes EN (layOwn [] []) w0 cs0 21 R (layVal []) (SM.at (hdN a b) 6 []):=fun hd e=>
   goes_due (KN h) not_laid hd fun w' hw=>by rw [e];exact hR _ hw
  by_cases he:(cA a).data.toList=(cA b).data.toList
  ·have hq:((cA a).data.toList==(cA b).data.toList)=true:=beq_iff_eq.2 he
   cases ma:cM a
   ·cases mb:cM b
    ·refine go (o:=(ff [0,1,2] false++ff [3,4,5,6] true++ff [7] false++ff [8] false)) (v:=.int .i64 0) ⟨?_⟩ (by simp [cmpF,he,ma,mb,atN])
     rw [n4]
     simp [Owed,tlB,hq,ma,mb,ha,hb,sl]
     rfl
    ·refine go (o:=(ff [0,1,2] false++ff [3,4,5,6] true++ff [7] false++ff [8] true)) (v:=.int .i64 (-1)) ⟨?_⟩ (by simp [cmpF,he,ma,mb,atN])
     rw [n2]
     simp [Owed,tlB,hq,ma,mb,ha,hb,sl]
     rfl
   ·cases mb:cM b
    ·refine go (o:=(ff [0,1,2,3,4,5] false++ff [6,7] true++ff [8] false)) (v:=.int .i64 1) ⟨?_⟩ (by simp [cmpF,he,ma,mb,atN])
     rw [n5]
     simp [Owed,tlB,hq,ma,mb,ha,hb,sl]
     rfl
    ·refine Goes.reach (KN h) (k:=1) (n:=60) (o:=ff (List.range 40) false) (ren:=[]) (eqs:=[]) ?_ (by kernel_rfl) (fun i b h=>by cases i <;> cases h) (l:=[]) (loopN h n (cB a) (cB b) (by have:=cB_lt a ma;omega) (Nat.le_trans (cB_size a) ha) (Nat.le_trans (cB_size b) hb) fun w' hw=>by
      have:=hR w' hw
      have e:cmpF (n+1) a b=cmpF n (cB a) (cB b):=by simp [cmpF,he,ma,mb]
      rwa [e] at this)
     rw [n3]
     simp [Owed,tlB,hq,ma,mb,ha,hb,sl]
  ·have hq:((cA a).data.toList==(cA b).data.toList)=false:=beq_eq_false_iff_ne.2 he
   refine go (o:=ff (List.range 40) true) (v:=.int .i64 (cmpS (cA a) (cA b))) ⟨?_⟩ (by simp [cmpF,he])
   rw [n1]
   simp [Owed,tlB,hq,ha,hb,sl]
theorem cmp_ok:PureOK Tryz.prog MX (21,cmpPS):=by
 refine .mk ⟨_,Tryz.func21,by kernel_rfl,by kernel_rfl⟩ fun args v p h hp w hX=>?_
 dsimp only [cmpPS] at h
 split at h
 ·rename_i a b
  cases h
  refine (calls_bare (E:=EN) rfl rfl (Q:=fun v=>v=.int .i64 (cmpN a b)) (args:=[.v (.string a),.v (.string b)]) (a:=[.string a,.string b]) w (S0:=entE EN 21 [.v (.string a),.v (.string b)]) (by kernel_rfl) (VRL.cons (VR.v_iff.2 rfl) (VRL.cons (VR.v_iff.2 rfl) VRL.nil)) fun cs0=>?_).mono fun e w' ⟨h1,u,h2,h3⟩=>⟨h1,by rw [h2,h3]⟩
  refine Goes.reach (KN hX) (k:=1) (n:=60) (o:=[(1000,.b true)]) (ren:=[]) (eqs:=[]) (F:=hdN a b) (d:=6) (l:=[]) ?_ (by kernel_rfl) (fun i b h=>by cases i <;> cases h) (loopN hX (a.size+1) a b (by omega) hp.1 hp.2 fun w' hw=>⟨hw,_,rfl,rfl⟩)
  rw [n0];simp [Owed]
 ·cases h
noncomputable def EC:Env:=EP [(46,cutPS),(100,partPS)] []
theorem c0 (p:ByteArray) (v:Value):endsV EC 84 3000 (entE EC 84 [.v (.string p)]) ([(0,.b true)]) v=[
 Value.int IntKind.i64 (23:Int)=v,
 decide ((↑p.size:Int)>(96:Int))=true]:=by kernel_rfl
theorem cb1 (p:ByteArray) (v:Value):endsV EC 84 3000 (entE EC 84 [.v (.string p)]) (ff [0] false++ff [8] true) v=[
 Value.int IntKind.i64 (23:Int)=v,
 (!partB (cA p))=true,
 (cA p).size.le (1000000000:Nat),
 p.size≤(1000000000:Nat)∧{ data:={ toList:=[(47:UInt8)]:Array UInt8 }:ByteArray }=slash,
 decide ((↑p.size:Int)>(96:Int))=false]:=by kernel_rfl
theorem co1 (p:ByteArray) (v:Value):endsV EC 84 3000 (entE EC 84 [.v (.string p)]) (ff [0,8,10] false++ff [] true) v=[
 Value.int IntKind.i64 (0:Int)=v,
 cM p=false,
 (!partB (cA p))=false,
 (cA p).size.le (1000000000:Nat),
 p.size≤(1000000000:Nat)∧{ data:={ toList:=[(47:UInt8)]:Array UInt8 }:ByteArray }=slash,
 decide ((↑p.size:Int)>(96:Int))=false]:=by kernel_rfl
theorem cb2 (p:ByteArray) (v:Value):endsV EC 84 3000 (entE EC 84 [.v (.string p)]) (ff [0,8] false++ff [17,10] true) v=[
 Value.int IntKind.i64 (23:Int)=v,
 (!partB (cA (cB p)))=true,
 (cA (cB p)).size.le (1000000000:Nat),
 (cB p).size≤(1000000000:Nat)∧{ data:={ toList:=[(47:UInt8)]:Array UInt8 }:ByteArray }=slash,
 cM p=true,
 (!partB (cA p))=false,
 (cA p).size.le (1000000000:Nat),
 p.size≤(1000000000:Nat)∧{ data:={ toList:=[(47:UInt8)]:Array UInt8 }:ByteArray }=slash,
 decide ((↑p.size:Int)>(96:Int))=false]:=by kernel_rfl
theorem co2 (p:ByteArray) (v:Value):endsV EC 84 3000 (entE EC 84 [.v (.string p)]) (ff [0,8,17,19] false++ff [10] true) v=[
 Value.int IntKind.i64 (0:Int)=v,
 cM (cB p)=false,
 (!partB (cA (cB p)))=false,
 (cA (cB p)).size.le (1000000000:Nat),
 (cB p).size≤(1000000000:Nat)∧{ data:={ toList:=[(47:UInt8)]:Array UInt8 }:ByteArray }=slash,
 cM p=true,
 (!partB (cA p))=false,
 (cA p).size.le (1000000000:Nat),
 p.size≤(1000000000:Nat)∧{ data:={ toList:=[(47:UInt8)]:Array UInt8 }:ByteArray }=slash,
 decide ((↑p.size:Int)>(96:Int))=false]:=by kernel_rfl
theorem cb3 (p:ByteArray) (v:Value):endsV EC 84 3000 (entE EC 84 [.v (.string p)]) (ff [0,8,17] false++ff [26,10,19] true) v=[
 Value.int IntKind.i64 (23:Int)=v,
 (!partB (cA (cB (cB p))))=true,
 (cA (cB (cB p))).size.le (1000000000:Nat),
 (cB (cB p)).size≤(1000000000:Nat)∧{ data:={ toList:=[(47:UInt8)]:Array UInt8 }:ByteArray }=slash,
 cM (cB p)=true,
 (!partB (cA (cB p)))=false,
 (cA (cB p)).size.le (1000000000:Nat),
 (cB p).size≤(1000000000:Nat)∧{ data:={ toList:=[(47:UInt8)]:Array UInt8 }:ByteArray }=slash,
 cM p=true,
 (!partB (cA p))=false,
 (cA p).size.le (1000000000:Nat),
 p.size≤(1000000000:Nat)∧{ data:={ toList:=[(47:UInt8)]:Array UInt8 }:ByteArray }=slash,
 decide ((↑p.size:Int)>(96:Int))=false]:=by kernel_rfl
theorem co3 (p:ByteArray) (v:Value):endsV EC 84 3000 (entE EC 84 [.v (.string p)]) (ff [0,8,17,26,28] false++ff [10,19] true) v=[
 Value.int IntKind.i64 (0:Int)=v,
 cM (cB (cB p))=false,
 (!partB (cA (cB (cB p))))=false,
 (cA (cB (cB p))).size.le (1000000000:Nat),
 (cB (cB p)).size≤(1000000000:Nat)∧{ data:={ toList:=[(47:UInt8)]:Array UInt8 }:ByteArray }=slash,
 cM (cB p)=true,
 (!partB (cA (cB p)))=false,
 (cA (cB p)).size.le (1000000000:Nat),
 (cB p).size≤(1000000000:Nat)∧{ data:={ toList:=[(47:UInt8)]:Array UInt8 }:ByteArray }=slash,
 cM p=true,
 (!partB (cA p))=false,
 (cA p).size.le (1000000000:Nat),
 p.size≤(1000000000:Nat)∧{ data:={ toList:=[(47:UInt8)]:Array UInt8 }:ByteArray }=slash,
 decide ((↑p.size:Int)>(96:Int))=false]:=by kernel_rfl
theorem cb4 (p:ByteArray) (v:Value):endsV EC 84 3000 (entE EC 84 [.v (.string p)]) (ff [0,8,17,26] false++ff [35,10,19,28] true) v=[
 Value.int IntKind.i64 (23:Int)=v,
 (!partB (cA (cB (cB (cB p)))))=true,
 (cA (cB (cB (cB p)))).size.le (1000000000:Nat),
 (cB (cB (cB p))).size≤(1000000000:Nat)∧{ data:={ toList:=[(47:UInt8)]:Array UInt8 }:ByteArray }=slash,
 cM (cB (cB p))=true,
 (!partB (cA (cB (cB p))))=false,
 (cA (cB (cB p))).size.le (1000000000:Nat),
 (cB (cB p)).size≤(1000000000:Nat)∧{ data:={ toList:=[(47:UInt8)]:Array UInt8 }:ByteArray }=slash,
 cM (cB p)=true,
 (!partB (cA (cB p)))=false,
 (cA (cB p)).size.le (1000000000:Nat),
 (cB p).size≤(1000000000:Nat)∧{ data:={ toList:=[(47:UInt8)]:Array UInt8 }:ByteArray }=slash,
 cM p=true,
 (!partB (cA p))=false,
 (cA p).size.le (1000000000:Nat),
 p.size≤(1000000000:Nat)∧{ data:={ toList:=[(47:UInt8)]:Array UInt8 }:ByteArray }=slash,
 decide ((↑p.size:Int)>(96:Int))=false]:=by kernel_rfl
theorem co4 (p:ByteArray) (v:Value):endsV EC 84 3000 (entE EC 84 [.v (.string p)]) (ff [0,8,17,26,35,37] false++ff [10,19,28] true) v=[
 Value.int IntKind.i64 (0:Int)=v,
 cM (cB (cB (cB p)))=false,
 (!partB (cA (cB (cB (cB p)))))=false,
 (cA (cB (cB (cB p)))).size.le (1000000000:Nat),
 (cB (cB (cB p))).size≤(1000000000:Nat)∧{ data:={ toList:=[(47:UInt8)]:Array UInt8 }:ByteArray }=slash,
 cM (cB (cB p))=true,
 (!partB (cA (cB (cB p))))=false,
 (cA (cB (cB p))).size.le (1000000000:Nat),
 (cB (cB p)).size≤(1000000000:Nat)∧{ data:={ toList:=[(47:UInt8)]:Array UInt8 }:ByteArray }=slash,
 cM (cB p)=true,
 (!partB (cA (cB p)))=false,
 (cA (cB p)).size.le (1000000000:Nat),
 (cB p).size≤(1000000000:Nat)∧{ data:={ toList:=[(47:UInt8)]:Array UInt8 }:ByteArray }=slash,
 cM p=true,
 (!partB (cA p))=false,
 (cA p).size.le (1000000000:Nat),
 p.size≤(1000000000:Nat)∧{ data:={ toList:=[(47:UInt8)]:Array UInt8 }:ByteArray }=slash,
 decide ((↑p.size:Int)>(96:Int))=false]:=by kernel_rfl
theorem cb5 (p : ByteArray) (v : Value) : endsV EC 84 3000 (entE EC 84 [.v (.string p)]) (ff [0, 8, 17, 26, 35] false ++ ff [44, 10, 19, 28, 37] true) v = [
  Value.int IntKind.i64 (23 : Int) = v,
  (!partB (cA (cB (cB (cB (cB p)))))) = true,
  (cA (cB (cB (cB (cB p))))).size.le (1000000000 : Nat),
  (cB (cB (cB (cB p)))).size ≤ (1000000000 : Nat) ∧
   { data := { toList := [(47 : UInt8)] : Array UInt8 } : ByteArray } = slash,
  cM (cB (cB (cB p))) = true,
  (!partB (cA (cB (cB (cB p))))) = false,
  (cA (cB (cB (cB p)))).size.le (1000000000 : Nat),
  (cB (cB (cB p))).size ≤ (1000000000 : Nat) ∧ { data := { toList := [(47 : UInt8)] : Array UInt8 } : ByteArray } = slash,
  cM (cB (cB p)) = true,
  (!partB (cA (cB (cB p)))) = false,
  (cA (cB (cB p))).size.le (1000000000 : Nat),
  (cB (cB p)).size ≤ (1000000000 : Nat) ∧ { data := { toList := [(47 : UInt8)] : Array UInt8 } : ByteArray } = slash,
  cM (cB p) = true,
  (!partB (cA (cB p))) = false,
  (cA (cB p)).size.le (1000000000 : Nat),
  (cB p).size ≤ (1000000000 : Nat) ∧ { data := { toList := [(47 : UInt8)] : Array UInt8 } : ByteArray } = slash,
  cM p = true,
  (!partB (cA p)) = false,
  (cA p).size.le (1000000000 : Nat),
  p.size ≤ (1000000000 : Nat) ∧ { data := { toList := [(47 : UInt8)] : Array UInt8 } : ByteArray } = slash,
  decide ((↑p.size : Int) > (96 : Int)) = false] := by kernel_rfl
theorem co5 (p : ByteArray) (v : Value) : endsV EC 84 3000 (entE EC 84 [.v (.string p)]) (ff [0, 8, 17, 26, 35, 44, 46] false ++ ff [10, 19, 28, 37] true) v = [
  Value.int IntKind.i64 (0 : Int) = v,
  cM (cB (cB (cB (cB p)))) = false,
  (!partB (cA (cB (cB (cB (cB p)))))) = false,
  (cA (cB (cB (cB (cB p))))).size.le (1000000000 : Nat),
  (cB (cB (cB (cB p)))).size ≤ (1000000000 : Nat) ∧
   { data := { toList := [(47 : UInt8)] : Array UInt8 } : ByteArray } = slash,
  cM (cB (cB (cB p))) = true,
  (!partB (cA (cB (cB (cB p))))) = false,
  (cA (cB (cB (cB p)))).size.le (1000000000 : Nat),
  (cB (cB (cB p))).size ≤ (1000000000 : Nat) ∧ { data := { toList := [(47 : UInt8)] : Array UInt8 } : ByteArray } = slash,
  cM (cB (cB p)) = true,
  (!partB (cA (cB (cB p)))) = false,
  (cA (cB (cB p))).size.le (1000000000 : Nat),
  (cB (cB p)).size ≤ (1000000000 : Nat) ∧ { data := { toList := [(47 : UInt8)] : Array UInt8 } : ByteArray } = slash,
  cM (cB p) = true,
  (!partB (cA (cB p))) = false,
  (cA (cB p)).size.le (1000000000 : Nat),
  (cB p).size ≤ (1000000000 : Nat) ∧ { data := { toList := [(47 : UInt8)] : Array UInt8 } : ByteArray } = slash,
  cM p = true,
  (!partB (cA p)) = false,
  (cA p).size.le (1000000000 : Nat),
  p.size ≤ (1000000000 : Nat) ∧ { data := { toList := [(47 : UInt8)] : Array UInt8 } : ByteArray } = slash,
  decide ((↑p.size : Int) > (96 : Int)) = false] := by kernel_rfl
theorem cb6 (p : ByteArray) (v : Value) : endsV EC 84 3000 (entE EC 84 [.v (.string p)]) (ff [0, 8, 17, 26, 35, 44] false ++ ff [53, 10, 19, 28, 37, 46] true) v = [
  Value.int IntKind.i64 (23 : Int) = v,
  (!partB (cA (cB (cB (cB (cB (cB p))))))) = true,
  (cA (cB (cB (cB (cB (cB p)))))).size.le (1000000000 : Nat),
  (cB (cB (cB (cB (cB p))))).size ≤ (1000000000 : Nat) ∧
   { data := { toList := [(47 : UInt8)] : Array UInt8 } : ByteArray } = slash,
  cM (cB (cB (cB (cB p)))) = true,
  (!partB (cA (cB (cB (cB (cB p)))))) = false,
  (cA (cB (cB (cB (cB p))))).size.le (1000000000 : Nat),
  (cB (cB (cB (cB p)))).size ≤ (1000000000 : Nat) ∧
   { data := { toList := [(47 : UInt8)] : Array UInt8 } : ByteArray } = slash,
  cM (cB (cB (cB p))) = true,
  (!partB (cA (cB (cB (cB p))))) = false,
  (cA (cB (cB (cB p)))).size.le (1000000000 : Nat),
  (cB (cB (cB p))).size ≤ (1000000000 : Nat) ∧ { data := { toList := [(47 : UInt8)] : Array UInt8 } : ByteArray } = slash,
  cM (cB (cB p)) = true,
  (!partB (cA (cB (cB p)))) = false,
  (cA (cB (cB p))).size.le (1000000000 : Nat),
  (cB (cB p)).size ≤ (1000000000 : Nat) ∧ { data := { toList := [(47 : UInt8)] : Array UInt8 } : ByteArray } = slash,
  cM (cB p) = true,
  (!partB (cA (cB p))) = false,
  (cA (cB p)).size.le (1000000000 : Nat),
  (cB p).size ≤ (1000000000 : Nat) ∧ { data := { toList := [(47 : UInt8)] : Array UInt8 } : ByteArray } = slash,
  cM p = true,
  (!partB (cA p)) = false,
  (cA p).size.le (1000000000 : Nat),
  p.size ≤ (1000000000 : Nat) ∧ { data := { toList := [(47 : UInt8)] : Array UInt8 } : ByteArray } = slash,
  decide ((↑p.size : Int) > (96 : Int)) = false] := by kernel_rfl
theorem co6 (p : ByteArray) (v : Value) : endsV EC 84 3000 (entE EC 84 [.v (.string p)]) (ff [0, 8, 17, 26, 35, 44, 53, 55] false ++ ff [10, 19, 28, 37, 46] true) v = [
  Value.int IntKind.i64 (0 : Int) = v,
  cM (cB (cB (cB (cB (cB p))))) = false,
  (!partB (cA (cB (cB (cB (cB (cB p))))))) = false,
  (cA (cB (cB (cB (cB (cB p)))))).size.le (1000000000 : Nat),
  (cB (cB (cB (cB (cB p))))).size ≤ (1000000000 : Nat) ∧
   { data := { toList := [(47 : UInt8)] : Array UInt8 } : ByteArray } = slash,
  cM (cB (cB (cB (cB p)))) = true,
  (!partB (cA (cB (cB (cB (cB p)))))) = false,
  (cA (cB (cB (cB (cB p))))).size.le (1000000000 : Nat),
  (cB (cB (cB (cB p)))).size ≤ (1000000000 : Nat) ∧
   { data := { toList := [(47 : UInt8)] : Array UInt8 } : ByteArray } = slash,
  cM (cB (cB (cB p))) = true,
  (!partB (cA (cB (cB (cB p))))) = false,
  (cA (cB (cB (cB p)))).size.le (1000000000 : Nat),
  (cB (cB (cB p))).size ≤ (1000000000 : Nat) ∧ { data := { toList := [(47 : UInt8)] : Array UInt8 } : ByteArray } = slash,
  cM (cB (cB p)) = true,
  (!partB (cA (cB (cB p)))) = false,
  (cA (cB (cB p))).size.le (1000000000 : Nat),
  (cB (cB p)).size ≤ (1000000000 : Nat) ∧ { data := { toList := [(47 : UInt8)] : Array UInt8 } : ByteArray } = slash,
  cM (cB p) = true,
  (!partB (cA (cB p))) = false,
  (cA (cB p)).size.le (1000000000 : Nat),
  (cB p).size ≤ (1000000000 : Nat) ∧ { data := { toList := [(47 : UInt8)] : Array UInt8 } : ByteArray } = slash,
  cM p = true,
  (!partB (cA p)) = false,
  (cA p).size.le (1000000000 : Nat),
  p.size ≤ (1000000000 : Nat) ∧ { data := { toList := [(47 : UInt8)] : Array UInt8 } : ByteArray } = slash,
  decide ((↑p.size : Int) > (96 : Int)) = false] := by kernel_rfl
theorem cd (p : ByteArray) (v : Value) : endsV EC 84 3000 (entE EC 84 [.v (.string p)]) (ff [0, 8, 17, 26, 35, 44, 53] false ++ ff [10, 19, 28, 37, 46, 55] true) v = [
  Value.int IntKind.i64 (23 : Int) = v,
  (cB (cB (cB (cB (cB (cB p)))))).size ≤ (1000000000 : Nat) ∧
   { data := { toList := [(47 : UInt8)] : Array UInt8 } : ByteArray } = slash,
  cM (cB (cB (cB (cB (cB p))))) = true,
  (!partB (cA (cB (cB (cB (cB (cB p))))))) = false,
  (cA (cB (cB (cB (cB (cB p)))))).size.le (1000000000 : Nat),
  (cB (cB (cB (cB (cB p))))).size ≤ (1000000000 : Nat) ∧
   { data := { toList := [(47 : UInt8)] : Array UInt8 } : ByteArray } = slash,
  cM (cB (cB (cB (cB p)))) = true,
  (!partB (cA (cB (cB (cB (cB p)))))) = false,
  (cA (cB (cB (cB (cB p))))).size.le (1000000000 : Nat),
  (cB (cB (cB (cB p)))).size ≤ (1000000000 : Nat) ∧
   { data := { toList := [(47 : UInt8)] : Array UInt8 } : ByteArray } = slash,
  cM (cB (cB (cB p))) = true,
  (!partB (cA (cB (cB (cB p))))) = false,
  (cA (cB (cB (cB p)))).size.le (1000000000 : Nat),
  (cB (cB (cB p))).size ≤ (1000000000 : Nat) ∧ { data := { toList := [(47 : UInt8)] : Array UInt8 } : ByteArray } = slash,
  cM (cB (cB p)) = true,
  (!partB (cA (cB (cB p)))) = false,
  (cA (cB (cB p))).size.le (1000000000 : Nat),
  (cB (cB p)).size ≤ (1000000000 : Nat) ∧ { data := { toList := [(47 : UInt8)] : Array UInt8 } : ByteArray } = slash,
  cM (cB p) = true,
  (!partB (cA (cB p))) = false,
  (cA (cB p)).size.le (1000000000 : Nat),
  (cB p).size ≤ (1000000000 : Nat) ∧ { data := { toList := [(47 : UInt8)] : Array UInt8 } : ByteArray } = slash,
  cM p = true,
  (!partB (cA p)) = false,
  (cA p).size.le (1000000000 : Nat),
  p.size ≤ (1000000000 : Nat) ∧ { data := { toList := [(47 : UInt8)] : Array UInt8 } : ByteArray } = slash,
  decide ((↑p.size : Int) > (96 : Int)) = false] := by kernel_rfl
theorem cA_size (s:ByteArray):(cA s).size≤s.size:=by
 have e:(cA s).size=(Lib.cut s.data.toList [47]).1.length:=by simp [cA,ByteArray.size]
 have e2:s.data.toList.length=s.size:=by simp
 rw [e];unfold Lib.cut
 split
 ·simp only [List.length_take];omega
 ·simp
def chkF:Nat→ByteArray→Bool
 | 0,_=>false
 | n+1,p=>partB (cA p)&&(!(cM p)||chkF n (cB p))
def goodB (p:ByteArray):Bool:=decide (p.size≤96)&&chkF 6 p
def checkN (p:ByteArray):Int:=bif goodB p then 0 else 23
def checkPS:PS:=fun args=>match args with | [.string p]=>some (.int .i64 (checkN p),p.size≤1000000000) | _=>none
theorem KC {w0:World} (h:MX w0):Facts EC (layOwn [] []) w0:=factsP (X:=MX) (fun r hr=>by
 simp only [List.mem_cons,List.not_mem_nil,or_false] at hr
 rcases hr with rfl | rfl
 ·exact cut_ok
 ·exact ⟨part_ok.1,fun args v p e hp w _=>part_ok.2 args v p e hp w trivial⟩) fun ν s w hr _=>h.keep fun k hk=>hr.frame k hk (not_laid k)
theorem check_ok:PureOK Tryz.prog MX (84,checkPS):=by
 refine .mk ⟨_,Tryz.func84,by kernel_rfl,by kernel_rfl⟩ fun args v p h hp w hX=>?_
 dsimp only [checkPS] at h
 split at h
 ·rename_i p
  cases h
  have go:∀ {o v},Due (endsV EC 84 3000 (entE EC 84 [.v (.string p)]) o v)→v=.int .i64 (checkN p)→Calls Tryz.prog 84 #[.string p] w fun e w'=>Below w.heap.size w w'∧e=.returned (.int .i64 (checkN p)):=fun h e=>
   e ▸ calls_endsV (E:=EC) (args:=[.v (.string p)]) rfl rfl (KC hX) (by kernel_rfl) (VRL.cons (VR.v_iff.2 rfl) VRL.nil) h
  by_cases h96:p.size>96
  ·exact go (o:=[(0,.b true)]) ⟨by rw [c0];exact ⟨⟨trivial,decide_eq_true (by omega)⟩,rfl⟩⟩ (by simp [checkN,goodB,show ¬ p.size≤96 by omega])
  have d96:decide ((p.size:Int)>96)=false:=decide_eq_false (by omega)
  have g96:decide (p.size≤96)=true:=decide_eq_true (by omega)
  have sl:(⟨⟨[47]⟩⟩:ByteArray)=slash:=rfl
  have s0:p.size≤1000000000:=hp
  have a0:(cA p).size≤1000000000:=Nat.le_trans (cA_size _) s0
  have s1:(cB p).size≤1000000000:=Nat.le_trans (cB_size _) s0
  have a1:(cA (cB p)).size≤1000000000:=Nat.le_trans (cA_size _) s1
  have s2:(cB (cB p)).size≤1000000000:=Nat.le_trans (cB_size _) s1
  have a2:(cA (cB (cB p))).size≤1000000000:=Nat.le_trans (cA_size _) s2
  have s3:(cB (cB (cB p))).size≤1000000000:=Nat.le_trans (cB_size _) s2
  have a3:(cA (cB (cB (cB p)))).size≤1000000000:=Nat.le_trans (cA_size _) s3
  have s4:(cB (cB (cB (cB p)))).size≤1000000000:=Nat.le_trans (cB_size _) s3
  have a4:(cA (cB (cB (cB (cB p))))).size≤1000000000:=Nat.le_trans (cA_size _) s4
  have s5:(cB (cB (cB (cB (cB p))))).size≤1000000000:=Nat.le_trans (cB_size _) s4
  have a5:(cA (cB (cB (cB (cB (cB p)))))).size≤1000000000:=Nat.le_trans (cA_size _) s5
  have s6:(cB (cB (cB (cB (cB (cB p)))))).size≤1000000000:=Nat.le_trans (cB_size _) s5
  cases p0:partB (cA p)
  ·exact go (o:=(ff [0] false++ff [8] true)) (v:=.int .i64 23) ⟨by rw [cb1];simp [Owed,d96,sl,s0,a0,p0]⟩ (by simp [checkN,goodB,chkF,g96,p0])
  cases m0:cM p
  ·exact go (o:=(ff [0,8,10] false++ff [] true)) (v:=.int .i64 0) ⟨by rw [co1];simp [Owed,d96,sl,s0,a0,p0,m0]⟩ (by simp [checkN,goodB,chkF,g96,p0,m0])
  cases p1:partB (cA (cB p))
  ·exact go (o:=(ff [0,8] false++ff [17,10] true)) (v:=.int .i64 23) ⟨by rw [cb2];simp [Owed,d96,sl,s0,a0,p0,m0,s1,a1,p1]⟩ (by simp [checkN,goodB,chkF,g96,p0,m0,p1])
  cases m1:cM (cB p)
  ·exact go (o:=(ff [0,8,17,19] false++ff [10] true)) (v:=.int .i64 0) ⟨by rw [co2];simp [Owed,d96,sl,s0,a0,p0,m0,s1,a1,p1,m1]⟩ (by simp [checkN,goodB,chkF,g96,p0,m0,p1,m1])
  cases p2:partB (cA (cB (cB p)))
  ·exact go (o:=(ff [0,8,17] false++ff [26,10,19] true)) (v:=.int .i64 23) ⟨by rw [cb3];simp [Owed,d96,sl,s0,a0,p0,m0,s1,a1,p1,m1,s2,a2,p2]⟩ (by simp [checkN,goodB,chkF,g96,p0,m0,p1,m1,p2])
  cases m2:cM (cB (cB p))
  ·exact go (o:=(ff [0,8,17,26,28] false++ff [10,19] true)) (v:=.int .i64 0) ⟨by rw [co3];simp [Owed,d96,sl,s0,a0,p0,m0,s1,a1,p1,m1,s2,a2,p2,m2]⟩ (by simp [checkN,goodB,chkF,g96,p0,m0,p1,m1,p2,m2])
  cases p3:partB (cA (cB (cB (cB p))))
  ·exact go (o:=(ff [0,8,17,26] false++ff [35,10,19,28] true)) (v:=.int .i64 23) ⟨by rw [cb4];simp [Owed,d96,sl,s0,a0,p0,m0,s1,a1,p1,m1,s2,a2,p2,m2,s3,a3,p3]⟩ (by simp [checkN,goodB,chkF,g96,p0,m0,p1,m1,p2,m2,p3])
  cases m3:cM (cB (cB (cB p)))
  ·exact go (o:=(ff [0,8,17,26,35,37] false++ff [10,19,28] true)) (v:=.int .i64 0) ⟨by rw [co4];simp [Owed,d96,sl,s0,a0,p0,m0,s1,a1,p1,m1,s2,a2,p2,m2,s3,a3,p3,m3]⟩ (by simp [checkN,goodB,chkF,g96,p0,m0,p1,m1,p2,m2,p3,m3])
  cases p4:partB (cA (cB (cB (cB (cB p)))))
  ·exact go (o:=(ff [0,8,17,26,35] false++ff [44,10,19,28,37] true)) (v:=.int .i64 23) ⟨by rw [cb5];simp [Owed,d96,sl,s0,a0,p0,m0,s1,a1,p1,m1,s2,a2,p2,m2,s3,a3,p3,m3,s4,a4,p4]⟩ (by simp [checkN,goodB,chkF,g96,p0,m0,p1,m1,p2,m2,p3,m3,p4])
  cases m4:cM (cB (cB (cB (cB p))))
  ·exact go (o:=(ff [0,8,17,26,35,44,46] false++ff [10,19,28,37] true)) (v:=.int .i64 0) ⟨by rw [co5];simp [Owed,d96,sl,s0,a0,p0,m0,s1,a1,p1,m1,s2,a2,p2,m2,s3,a3,p3,m3,s4,a4,p4,m4]⟩ (by simp [checkN,goodB,chkF,g96,p0,m0,p1,m1,p2,m2,p3,m3,p4,m4])
  cases p5:partB (cA (cB (cB (cB (cB (cB p))))))
  ·exact go (o:=(ff [0,8,17,26,35,44] false++ff [53,10,19,28,37,46] true)) (v:=.int .i64 23) ⟨by rw [cb6];simp [Owed,d96,sl,s0,a0,p0,m0,s1,a1,p1,m1,s2,a2,p2,m2,s3,a3,p3,m3,s4,a4,p4,m4,s5,a5,p5]⟩ (by simp [checkN,goodB,chkF,g96,p0,m0,p1,m1,p2,m2,p3,m3,p4,m4,p5])
  cases m5:cM (cB (cB (cB (cB (cB p)))))
  ·exact go (o:=(ff [0,8,17,26,35,44,53,55] false++ff [10,19,28,37,46] true)) (v:=.int .i64 0) ⟨by rw [co6];simp [Owed,d96,sl,s0,a0,p0,m0,s1,a1,p1,m1,s2,a2,p2,m2,s3,a3,p3,m3,s4,a4,p4,m4,s5,a5,p5,m5]⟩ (by simp [checkN,goodB,chkF,g96,p0,m0,p1,m1,p2,m2,p3,m3,p4,m4,p5,m5])
  exact go (o:=(ff [0,8,17,26,35,44,53] false++ff [10,19,28,37,46,55] true)) (v:=.int .i64 23) ⟨by rw [cd];simp [Owed,d96,sl,s0,a0,p0,m0,s1,a1,p1,m1,s2,a2,p2,m2,s3,a3,p3,m3,s4,a4,p4,m4,s5,a5,p5,m5,s6]⟩ (by simp [checkN,goodB,chkF,g96,p0,m0,p1,m1,p2,m2,p3,m3,p4,m4,p5,m5])
 ·cases h
theorem checkN_ne (p : ByteArray) (h : checkN p = 0) : p.size ≠ 0 := by
  intro e
  have hp : p = ⟨#[]⟩ := of_list (l := []) (by have : p.data.toList.length = 0 := by simpa using e
                                               exact List.length_eq_zero_iff.1 this)
  subst hp
  have h1 : cA ⟨#[]⟩ = ⟨#[]⟩ := cA_nil
  have h2 : partB ⟨#[]⟩ = false := by simp [partB]
  simp [checkN, goodB, chkF, h1, h2] at h
noncomputable def EU:Env:=EP [(84,checkPS)] []
theorem u0 (p:ByteArray) (v:Value):endsV EU 63 300 (entE EU 63 [.v (.string p)]) (ff [0,1,2,3,4,5,6] false) v=[
 Value.bool false=v,
 (checkN p==(0:Int))=false,
 (checkN p==(0:Int))=false,
 (checkN p==(0:Int))=false,
 (checkN p==(0:Int))=false,
 p.size.le (1000000000:Nat)]:=by kernel_rfl
theorem u1 (p:ByteArray) (v:Value):endsV EU 63 300 (entE EU 63 [.v (.string p)]) (ff [0,1,2,3,4,5,6] true) v=[
 (Value.bool !(↑(p.data.getD (0:Nat) (0:UInt8)).toNat:Int)==(126:Int))=v,
 (checkN p==(0:Int))=true,
 (checkN p==(0:Int))=true,
 inRange (0:Int) p.size=true,
 (checkN p==(0:Int))=true,
 (checkN p==(0:Int))=true,
 p.size.le (1000000000:Nat)]:=by kernel_rfl
def userB (p:ByteArray):Bool:=checkN p==0&&!(p.data.getD 0 0==126)
def userPS:PS:=fun args=>match args with | [.string p]=>some (.bool (userB p),p.size≤1000000000) | _=>none
theorem KU {w0:World} (h:MX w0):Facts EU (layOwn [] []) w0:=factsP (X:=MX) (fun r hr=>by
 simp only [List.mem_cons,List.not_mem_nil,or_false] at hr
 subst hr
 exact check_ok) fun ν s w hr _=>h.keep fun k hk=>hr.frame k hk (not_laid k)
theorem user_ok:PureOK Tryz.prog MX (63,userPS):=by
 refine .mk ⟨_,Tryz.func63,by kernel_rfl,by kernel_rfl⟩ fun args v p h hp w hX=>?_
 dsimp only [userPS] at h
 split at h
 ·rename_i p
  cases h
  have go:∀ {o v},Due (endsV EU 63 300 (entE EU 63 [.v (.string p)]) o v)→v=.bool (userB p)→Calls Tryz.prog 63 #[.string p] w fun e w'=>Below w.heap.size w w'∧e=.returned (.bool (userB p)):=fun h e=>
   e ▸ calls_endsV (E:=EU) (args:=[.v (.string p)]) rfl rfl (KU hX) (by kernel_rfl) (VRL.cons (VR.v_iff.2 rfl) VRL.nil) h
  by_cases h0:checkN p=0
  ·have hs:=checkN_ne p h0
   refine go (o:=ff [0,1,2,3,4,5,6] true) (v:=.bool (userB p)) ⟨?_⟩ rfl
   rw [u1]
   have hr:inRange 0 p.size=true:=by unfold inRange;exact decide_eq_true (by omega)
   have hc:(((p.data.getD 0 0).toNat:Int)==126)=(p.data.getD 0 0==126):=by
    by_cases e:p.data.getD 0 0=126
    ·rw [e];rfl
    ·have:¬ ((p.data.getD 0 0).toNat:Int)=126:=fun h=>e (UInt8.toNat_inj.1 (show (p.data.getD 0 0).toNat=126 by omega))
     rw [beq_eq_false_iff_ne.2 e,beq_eq_false_iff_ne.2 this]
   refine ⟨⟨⟨⟨⟨⟨⟨trivial,hp⟩,?_⟩,?_⟩,hr⟩,?_⟩,?_⟩,?_⟩ <;> first | (rw [h0];rfl) | (rw [hc];simp [userB,h0])
  ·have hz:(checkN p==0)=false:=beq_eq_false_iff_ne.2 h0
   refine go (o:=ff [0,1,2,3,4,5,6] false) (v:=.bool false) ⟨?_⟩ (by simp [userB,hz])
   rw [u0]
   exact ⟨⟨⟨⟨⟨⟨trivial,hp⟩,hz⟩,hz⟩,hz⟩,hz⟩,rfl⟩
 ·cases h
theorem l0 (a b:Int) (v:Value):endsV EN0 83 300 (entE EN0 83 [.v (.int .i64 a),.v (.int .i64 b)]) (ff [0] true) v=[
 Value.int IntKind.i64 (-1:Int)=v,
 decide (a<b)=true]:=by kernel_rfl
theorem l1 (a b:Int) (v:Value):endsV EN0 83 300 (entE EN0 83 [.v (.int .i64 a),.v (.int .i64 b)]) (ff [0] false++ff [1] true) v=[
 Value.int IntKind.i64 (1:Int)=v,
 decide (a>b)=true,
 decide (a<b)=false]:=by kernel_rfl
theorem l2 (a b:Int) (v:Value):endsV EN0 83 300 (entE EN0 83 [.v (.int .i64 a),.v (.int .i64 b)]) (ff [0,1] false) v=[
 Value.int IntKind.i64 (0:Int)=v,
 decide (a>b)=false,
 decide (a<b)=false]:=by kernel_rfl
def lessN (a b:Int):Int:=if a<b then -1 else if b<a then 1 else 0
def lessPS:PS:=fun args=>match args with | [.int .i64 a,.int .i64 b]=>some (.int .i64 (lessN a b),True) | _=>none
noncomputable def EB:Env:=EP [(83,lessPS)] []
noncomputable def todoB:List SI:=todoL EB 2 60 (entE EB 82 [.v (.string ⟨#[]⟩),.v (.string ⟨#[]⟩)]) []
noncomputable def hdB (a b:ByteArray) (i:Int):SF:={ fn:=82,tm:=tmOf 37 6 ([.v (.string a),.v (.string b),.junk,.junk,.junk,.v (.int .i64 i)]++List.replicate 31 .junk),todo:=todoB,defers:=[],ret:=false,kind:=.normal,ro:=none }
theorem b0 (a b:ByteArray):reach EB 2 60 (entE EB 82 [.v (.string a),.v (.string b)]) [(1000,.b true)] [] [] (hdB a b 0) 6 []=[
 Value.string a=Value.string a,
 Value.string b=Value.string b,
 Value.int IntKind.i64 (0:Int)=Value.int IntKind.i64 (0:Int)]:=by kernel_rfl
theorem b1 (a b:ByteArray) (i i':Int):reach EB 2 100 (SM.at (hdB a b i) 6 []) (ff (List.range 7) true++ff (List.range 40) false) [] [] (hdB a b i') 6 []=[
 Value.string a=Value.string a,
 Value.string b=Value.string b,
 Value.int IntKind.i64 (IntKind.i64.wrap (i+(1:Int)))=Value.int IntKind.i64 i',
 decide ((↑(a.data.getD i.toNat (0:UInt8)).toNat:Int)>(↑(b.data.getD i.toNat (0:UInt8)).toNat:Int))=false,
 inRange i b.size=true,
 inRange i a.size=true,
 decide ((↑(a.data.getD i.toNat (0:UInt8)).toNat:Int)<(↑(b.data.getD i.toNat (0:UInt8)).toNat:Int))=false,
 inRange i b.size=true,
 inRange i a.size=true,
 decide (i<(↑b.size:Int))=true,
 decide (i<(↑a.size:Int))=true,
 decide (i<(↑a.size:Int))=true,
 decide (i<(↑a.size:Int))=true,
 decide (i<(↑a.size:Int))=true,
 decide (i<(↑a.size:Int))=true]:=by kernel_rfl
theorem b2 (a b:ByteArray) (i:Int) (v:Value):endsV EB 82 100 (SM.at (hdB a b i) 6 []) (ff (List.range 40) true) v=[
 Value.int IntKind.i64 (-1:Int)=v,
 decide ((↑(a.data.getD i.toNat (0:UInt8)).toNat:Int)<(↑(b.data.getD i.toNat (0:UInt8)).toNat:Int))=true,
 inRange i b.size=true,
 inRange i a.size=true,
 decide (i<(↑b.size:Int))=true,
 decide (i<(↑a.size:Int))=true,
 decide (i<(↑a.size:Int))=true,
 decide (i<(↑a.size:Int))=true,
 decide (i<(↑a.size:Int))=true,
 decide (i<(↑a.size:Int))=true]:=by kernel_rfl
theorem b3 (a b:ByteArray) (i:Int) (v:Value):endsV EB 82 100 (SM.at (hdB a b i) 6 []) (ff (List.range 8) true++ff [8] false++ff (List.range 40) true) v=[
 Value.int IntKind.i64 (1:Int)=v,
 decide ((↑(a.data.getD i.toNat (0:UInt8)).toNat:Int)>(↑(b.data.getD i.toNat (0:UInt8)).toNat:Int))=true,
 inRange i b.size=true,
 inRange i a.size=true,
 decide ((↑(a.data.getD i.toNat (0:UInt8)).toNat:Int)<(↑(b.data.getD i.toNat (0:UInt8)).toNat:Int))=false,
 inRange i b.size=true,
 inRange i a.size=true,
 decide (i<(↑b.size:Int))=true,
 decide (i<(↑a.size:Int))=true,
 decide (i<(↑a.size:Int))=true,
 decide (i<(↑a.size:Int))=true,
 decide (i<(↑a.size:Int))=true,
 decide (i<(↑a.size:Int))=true]:=by kernel_rfl
theorem b4 (a b:ByteArray) (i:Int) (v:Value):endsV EB 82 100 (SM.at (hdB a b i) 6 []) (ff (List.range 40) false) v=[
 Value.int IntKind.i64 (lessN (↑a.size:Int) (↑b.size:Int))=v,
 True,
 false=false,
 decide (i<(↑a.size:Int))=false,
 decide (i<(↑a.size:Int))=false,
 decide (i<(↑a.size:Int))=false,
 decide (i<(↑a.size:Int))=false,
 decide (i<(↑a.size:Int))=false]:=by kernel_rfl
theorem b5 (a b:ByteArray) (i:Int) (v:Value):endsV EB 82 100 (SM.at (hdB a b i) 6 []) (ff [0,1,2,3,4] true++ff (List.range 40) false) v=[
 Value.int IntKind.i64 (lessN (↑a.size:Int) (↑b.size:Int))=v,
 True,
 decide (i<(↑b.size:Int))=false,
 decide (i<(↑a.size:Int))=true,
 decide (i<(↑a.size:Int))=true,
 decide (i<(↑a.size:Int))=true,
 decide (i<(↑a.size:Int))=true,
 decide (i<(↑a.size:Int))=true]:=by kernel_rfl
noncomputable def EK:Env:=EP [] []
noncomputable def todoK:List SI:=todoL EK 2 60 (entE EK 81 [.v (.string ⟨#[]⟩)]) []
noncomputable def hdK (p:ByteArray) (x:SV) (i:Int):SF:={ fn:=81,tm:=tmOf 37 6 ([.v (.string p),.junk,.junk,x,.v (.int .i64 i)]++List.replicate 32 .junk),todo:=todoK,defers:=[],ret:=false,kind:=.normal,ro:=none }
def one (s:ByteArray):List (Option (SO × Bool)):=[some (.row [.v (.string s)] 9 (0,0) none,true)]
def many (l:List SV):List (Option (SO × Bool)):=[some (.row l 9 (0,0) (some 1),true)]
theorem k0 (p : ByteArray) : reach EK 2 60 (entE EK 81 [.v (.string p)]) [(1000, .b true)] [(0, 0)] [] (hdK p (.sl 0 0 1 (some 1)) 0) 6 (one ⟨#[]⟩) = [
  Value.string p = Value.string p,
  (0 : Nat) = (0 : Nat) ∧ (1 : Nat) = (1 : Nat) ∧ some (1 : Nat) = some (1 : Nat),
  Value.int IntKind.i64 (0 : Int) = Value.int IntKind.i64 (0 : Int),
  Value.string { data := { toList := [] : Array UInt8 } : ByteArray } =
   Value.string { data := { toList := [] : Array UInt8 } : ByteArray }] := by kernel_rfl
theorem k1 (p s s':ByteArray) (i i':Int):reach EK 2 100 (SM.at (hdK p (.sl 0 0 1 (some 1)) i) 6 (one s)) (ff [0] true++ff (List.range 40) false) [(0,0)] [] (hdK p (.sl 0 0 1 (some 1)) i') 6 (one s')=[
 Value.string p=Value.string p,
 (0:Nat)=(0:Nat)∧(1:Nat)=(1:Nat)∧some (1:Nat)=some (1:Nat),
 Value.int IntKind.i64 (IntKind.i64.wrap (i+(1:Int)))=Value.int IntKind.i64 i',
 Value.string (s++p.extract i.toNat (IntKind.i64.wrap (i+(1:Int))).toNat)=Value.string s',
 true=true,
 (s.size+(p.extract i.toNat (IntKind.i64.wrap (i+(1:Int))).toNat).size).le (9223372036854775807:Nat),
 decide ((0:Int)≤i∧i≤(↑(IntKind.i64.wrap (i+(1:Int))).toNat:Int))=true,
 decide ((0:Int)≤IntKind.i64.wrap (i+(1:Int))∧IntKind.i64.wrap (i+(1:Int))≤(↑p.size:Int))=true,
 true=true,
 ((↑(p.data.getD i.toNat (0:UInt8)).toNat:Int)==(47:Int))=false,
 inRange i p.size=true,
 decide (i<(↑p.size:Int))=true]:=by kernel_rfl
theorem k2 (p s : ByteArray) (i i' : Int) (l' : List SV) : reach EK 2 100 (SM.at (hdK p (.sl 0 0 1 (some 1)) i) 6 (one s)) (ff [0, 1, 2] true) [(0, 2)] [0] (hdK p (.sl 0 0 2 none) i') 6 (many l') = [
  Value.string p = Value.string p,
  (0 : Nat) = (0 : Nat) ∧ (2 : Nat) = (2 : Nat) ∧ (none : Option Nat) = none,
  Value.int IntKind.i64 (IntKind.i64.wrap (i + (1 : Int))) = Value.int IntKind.i64 i',
  List.take (1 : Nat) (List.drop (0 : Nat) [SV.v (Value.string s)]) ++
   List.take (1 : Nat)
   (List.drop (0 : Nat)
   (splice
   (List.replicate (1 : Nat)
   (List.map SV.v
   { toList := [Value.string { data := { toList := [] : Array UInt8 } : ByteArray }] :
   Array Value }.toList)).flatten
   (0 : Nat) [SV.v (Value.string { data := { toList := [] : Array UInt8 } : ByteArray })])) =
   l',
  l'.all closedSV = true,
  ((↑(p.data.getD i.toNat (0 : UInt8)).toNat : Int) == (47 : Int)) = true,
  inRange i p.size = true,
  decide (i < (↑p.size : Int)) = true] := by kernel_rfl
theorem k3 (p s : ByteArray) (l l' : List SV) (n : Nat) (i i' : Int) : reach EK 2 100 (SM.at (hdK p (.sl 0 0 n none) i) 6 (many l)) (ff [0] true ++ ff [2] false ++ [(4, .cells [.v (.string s)]), (9, .put)]) [(0, 0)] [0] (hdK p (.sl 0 0 n none) i') 6 (many l') = [
  Value.string p = Value.string p,
  (0 : Nat) = (0 : Nat) ∧ n = n ∧ (none : Option Nat) = none,
  Value.int IntKind.i64 (IntKind.i64.wrap (i + (1 : Int))) = Value.int IntKind.i64 i',
  splice l ((0 : Nat) + (IntKind.i64.wrap ((↑n : Int) - (1 : Int))).toNat * (1 : Nat))
   [SV.v (Value.string (s ++ p.extract i.toNat (IntKind.i64.wrap (i + (1 : Int))).toNat))] =
   l',
  l'.all closedSV = true,
  (0 : Nat) + (IntKind.i64.wrap ((↑n : Int) - (1 : Int))).toNat * (1 : Nat) +
   [SV.v (Value.string (s ++ p.extract i.toNat (IntKind.i64.wrap (i + (1 : Int))).toNat))].length ≤
   l.length ∧
   fzOk ((0 : Nat), (0 : Nat)) ((0 : Nat) + (IntKind.i64.wrap ((↑n : Int) - (1 : Int))).toNat * (1 : Nat))
   [SV.v (Value.string (s ++ p.extract i.toNat (IntKind.i64.wrap (i + (1 : Int))).toNat))].length =
   true,
  inRange (IntKind.i64.wrap ((↑n : Int) - (1 : Int))) n = true,
  (s.size + (p.extract i.toNat (IntKind.i64.wrap (i + (1 : Int))).toNat).size).le (9223372036854775807 : Nat),
  decide ((0 : Int) ≤ i ∧ i ≤ (↑(IntKind.i64.wrap (i + (1 : Int))).toNat : Int)) = true,
  decide ((0 : Int) ≤ IntKind.i64.wrap (i + (1 : Int)) ∧ IntKind.i64.wrap (i + (1 : Int)) ≤ (↑p.size : Int)) = true,
  l[(0 : Nat) + (IntKind.i64.wrap ((↑n : Int) - (1 : Int))).toNat * (1 : Nat)]? = some (SV.v (Value.string s)),
  inRange (IntKind.i64.wrap ((↑n : Int) - (1 : Int))) n = true,
  ((↑(p.data.getD i.toNat (0 : UInt8)).toNat : Int) == (47 : Int)) = false,
  inRange i p.size = true,
  decide (i < (↑p.size : Int)) = true] := by kernel_rfl
theorem k4 (p : ByteArray) (l l' w : List SV) (n : Nat) (i i' : Int) : reach EK 2 100 (SM.at (hdK p (.sl 0 0 n none) i) 6 (many l)) (ff [0, 1, 2] true ++ [(3, .app l w)]) [(0, 2)] [0] (hdK p (.sl 0 0 (n + 1) none) i') 6 (many l') = [
  Value.string p = Value.string p,
  (0 : Nat) = (0 : Nat) ∧ n + (1 : Nat) = n + (1 : Nat) ∧ (none : Option Nat) = none,
  Value.int IntKind.i64 (IntKind.i64.wrap (i + (1 : Int))) = Value.int IntKind.i64 i',
  l ++ w = l',
  l'.all closedSV = true,
  ((List.take (1 : Nat)
   (List.drop (0 : Nat)
   (splice
   (List.replicate (1 : Nat)
   (List.map SV.v
   { toList := [Value.string { data := { toList := [] : Array UInt8 } : ByteArray }] :
   Array Value }.toList)).flatten
   (0 : Nat) [SV.v (Value.string { data := { toList := [] : Array UInt8 } : ByteArray })])) =
   w ∧
   w.length = (1 : Nat) * (1 : Nat)) ∧
   (1 : Nat) ≠ (0 : Nat) ∧ ((2 : Nat) * (n + (1 : Nat)) + (1024 : Nat)) * (16 : Nat) ≤ (140737488355328 : Nat)) ∧
   List.take (n * (1 : Nat)) l = l ∧ l.length = n * (1 : Nat) ∧ w.all SV.flat = true,
  ((↑(p.data.getD i.toNat (0 : UInt8)).toNat : Int) == (47 : Int)) = true,
  inRange i p.size = true,
  decide (i < (↑p.size : Int)) = true] := by kernel_rfl
theorem k5 (p s:ByteArray) (i:Int):endsO EK 81 100 (SM.at (hdK p (.sl 0 0 1 (some 1)) i) 6 (one s)) (ff [0] false) (.sl 0 0 1 (some 1)) 0 (.row [.v (.string s)] 9 (0,0) none)=[
 (0:Nat)=(0:Nat)∧(1:Nat)=(1:Nat)∧some (1:Nat)=some (1:Nat),
 [SV.v (Value.string s)]=[SV.v (Value.string s)],
 [SV.v (Value.string s)].all closedSV=true,
 decide (i<(↑p.size:Int))=false]:=by kernel_rfl
theorem k6 (p:ByteArray) (l:List SV) (n:Nat) (i:Int):endsO EK 81 100 (SM.at (hdK p (.sl 0 0 n none) i) 6 (many l)) (ff [0] false) (.sl 0 0 n none) 0 (.row l 9 (0,0) (some 1))=[
 (0:Nat)=(0:Nat)∧n=n∧(none:Option Nat)=none,
 l=l,
 l.all closedSV=true,
 decide (i<(↑p.size:Int))=false]:=by kernel_rfl
theorem no_name {i:Nat} {b:Nat × Nat} {p:Prop} (h:layVal [] i=some b):p:=by cases i <;> cases h
theorem wi {x:Int} (h:-9223372036854775808≤x∧x≤9223372036854775807):IntKind.i64.wrap x=x:=IntWalk.i64_in _ h
theorem less_ok:PureOK Tryz.prog (fun _=>True) (83,lessPS):=by
 refine .mk ⟨_,Tryz.func83,by kernel_rfl,by kernel_rfl⟩ fun args v p h hp w hX=>?_
 dsimp only [lessPS] at h
 split at h
 ·rename_i a b
  cases h
  have go:∀ {o v},Due (endsV EN0 83 300 (entE EN0 83 [.v (.int .i64 a),.v (.int .i64 b)]) o v)→v=.int .i64 (lessN a b)→Calls Tryz.prog 83 #[.int .i64 a,.int .i64 b] w fun e w'=>Below w.heap.size w w'∧e=.returned (.int .i64 (lessN a b)):=fun h e=>
   e ▸ calls_endsV (E:=EN0) (args:=[.v (.int .i64 a),.v (.int .i64 b)]) (a:=[.int .i64 a,.int .i64 b]) rfl rfl KN0 (by kernel_rfl) (VRL.cons (VR.v_iff.2 rfl) (VRL.cons (VR.v_iff.2 rfl) VRL.nil)) h
  by_cases h1:a<b
  ·exact go (o:=ff [0] true) (v:=.int .i64 (-1)) ⟨by rw [l0];simp [Owed,h1]⟩ (by simp [lessN,h1])
  ·by_cases h2:b<a
   ·exact go (o:=ff [0] false++ff [1] true) (v:=.int .i64 1) ⟨by rw [l1];exact ⟨⟨⟨trivial,decide_eq_false h1⟩,decide_eq_true h2⟩,rfl⟩⟩ (by simp [lessN,h1,h2])
   ·exact go (o:=ff [0,1] false) (v:=.int .i64 0) ⟨by rw [l2];exact ⟨⟨⟨trivial,decide_eq_false h1⟩,decide_eq_false h2⟩,rfl⟩⟩ (by simp [lessN,h1,h2])
 ·cases h
def lexN:List UInt8→List UInt8→Int
 | [],[]=>0
 | [],_::_=>-1
 | _::_,[]=>1
 | x::xs,y::ys=>if x<y then -1 else if y<x then 1 else lexN xs ys
def bytesN (a b:ByteArray):Int:=lexN a.data.toList b.data.toList
def bytesPS:PS:=fun args=>match args with | [.string a,.string b]=>some (.int .i64 (bytesN a b),a.size≤1000000000∧b.size≤1000000000) | _=>none
theorem KB {M:Own} {w0:World}:Facts EB M w0:=factsP0 fun r h=>by
 rw [List.mem_singleton.1 h];exact less_ok
theorem drop_getD {a:ByteArray} {i:Nat} (h:i<a.size):a.data.toList.drop i=a.data.getD i 0::a.data.toList.drop (i+1):=by
 have h':i<a.data.toList.length:=by simpa using h
 rw [List.drop_eq_getElem_cons h']
 congr 1
 rw [Array.getD,dif_pos (show i<a.data.size from h)]
 simp
theorem wrap_succ {k:Nat} (h:k≤1000000000):IntKind.i64.wrap ((k:Int)+1)=((k+1:Nat):Int):=by
 rw [wi (by omega)];simp
theorem in_range {k n:Nat} (h:k<n):inRange (k:Int) n=true:=by unfold inRange;exact decide_eq_true (by omega)
theorem loopB {w0:World} {cs0:List Frame} {R:Ending→World→Prop} {a b:ByteArray} (ha:a.size≤1000000000) (hb:b.size≤1000000000):∀ (j i:Nat),i+j=a.size→i≤b.size→
  (∀ w',Below w0.heap.size w0 w'→R (.returned (.int .i64 (lexN (a.data.toList.drop i) (b.data.toList.drop i)))) w')→Goes EB (layOwn [] []) w0 cs0 82 R (layVal []) (SM.at (hdB a b i) 6 [])
 | j,i,hj,hib,hR=>by
  have go:∀ {o v},Due (endsV EB 82 100 (SM.at (hdB a b i) 6 []) o v)→v=.int .i64 (lexN (a.data.toList.drop i) (b.data.toList.drop i))→Goes EB (layOwn [] []) w0 cs0 82 R (layVal []) (SM.at (hdB a b i) 6 []):=fun hd e=>
   goes_due KB not_laid hd fun w' hw=>by rw [e];exact hR _ hw
  have la:a.data.toList.length=a.size:=by simp
  have lb:b.data.toList.length=b.size:=by simp
  by_cases h1:i<a.size
  ·by_cases h2:i<b.size
   ·have da:=drop_getD h1
    have db:=drop_getD h2
    have t1:decide ((i:Int)<(a.size:Int))=true:=decide_eq_true (by omega)
    have t2:decide ((i:Int)<(b.size:Int))=true:=decide_eq_true (by omega)
    have r1:=in_range h1
    have r2:=in_range h2
    have lt_iff:∀ x y:UInt8,(x<y)↔((x.toNat:Int)<(y.toNat:Int)):=fun x y=>by rw [UInt8.lt_iff_toNat_lt];omega
    by_cases c1:(a.data.getD i 0)<(b.data.getD i 0)
    ·refine go (o:=ff (List.range 40) true) (v:=.int .i64 (-1)) ⟨?_⟩ (by rw [da,db];unfold lexN;rw [if_pos c1])
     rw [b2]
     have c1':=decide_eq_true ((lt_iff _ _).1 c1)
     simp only [Owed,Int.toNat_natCast,t1,t2,r1,r2,c1',and_self]
    ·have c1':=decide_eq_false (fun h=>c1 ((lt_iff _ _).2 h))
     by_cases c2:(b.data.getD i 0)<(a.data.getD i 0)
     ·refine go (o:=ff (List.range 8) true++ff [8] false++ff (List.range 40) true) (v:=.int .i64 1) ⟨?_⟩ (by rw [da,db];unfold lexN;rw [if_neg c1,if_pos c2])
      rw [b3]
      have c2':decide (((a.data.getD i 0).toNat:Int)>((b.data.getD i 0).toNat:Int))=true:=decide_eq_true ((lt_iff _ _).1 c2)
      simp only [Owed,Int.toNat_natCast,t1,t2,r1,r2,c1',c2',and_self]
     ·have c2':decide (((a.data.getD i 0).toNat:Int)>((b.data.getD i 0).toNat:Int))=false:=decide_eq_false (fun h=>c2 ((lt_iff _ _).2 h))
      match j,hj with
      | 0,hj=>omega
      | j+1,hj=>
       refine Goes.reach KB (k:=2) (n:=100) (o:=ff (List.range 7) true++ff (List.range 40) false) (ren:=[]) (eqs:=[]) ?_ (by kernel_rfl) (fun i b h=>no_name h) (l:=[]) (loopB ha hb j (i+1) (by omega) (by omega) fun w' hw=>by
        have e:lexN (a.data.toList.drop i) (b.data.toList.drop i)=lexN (a.data.toList.drop (i+1)) (b.data.toList.drop (i+1)):=by
         rw [da,db];conv=>lhs;unfold lexN
         rw [if_neg c1,if_neg c2]
        exact e ▸ hR w' hw)
       rw [b1]
       simp only [Owed,Int.toNat_natCast,t1,t2,r1,r2,c1',c2',and_self,wrap_succ (show i≤1000000000 by omega)]
   ·have hi:i=b.size:=by omega
    have t1:decide ((i:Int)<(a.size:Int))=true:=decide_eq_true (by omega)
    have t2:decide ((i:Int)<(b.size:Int))=false:=decide_eq_false (by omega)
    refine go (o:=(ff [0,1,2,3,4] true++ff (List.range 40) false)) (v:=.int .i64 (lessN a.size b.size)) ⟨?_⟩ ?_
    ·rw [b5]
     simp only [Owed,t1,t2,and_self]
    ·rw [drop_getD h1,List.drop_eq_nil_of_le (by omega:b.data.toList.length≤i)]
     have:lessN (a.size:Int) (b.size:Int)=1:=by unfold lessN;rw [if_neg (by omega),if_pos (by omega)]
     rw [this];rfl
  ·have hi:i=a.size:=by omega
   have t1:decide ((i:Int)<(a.size:Int))=false:=decide_eq_false (by omega)
   refine go (o:=ff (List.range 40) false) (v:=.int .i64 (lessN a.size b.size)) ⟨?_⟩ ?_
   ·rw [b4]
    simp only [Owed,t1,and_self]
   ·rw [List.drop_eq_nil_of_le (by omega:a.data.toList.length≤i)]
    by_cases h2:i<b.size
    ·rw [drop_getD h2]
     have:lessN (a.size:Int) (b.size:Int)=-1:=by unfold lessN;rw [if_pos (by omega)]
     rw [this];rfl
    ·rw [List.drop_eq_nil_of_le (by omega:b.data.toList.length≤i)]
     have:lessN (a.size:Int) (b.size:Int)=0:=by unfold lessN;rw [if_neg (by omega),if_neg (by omega)]
     rw [this];rfl
theorem bytes_ok:PureOK Tryz.prog (fun _=>True) (82,bytesPS):=by
 refine .mk ⟨_,Tryz.func82,by kernel_rfl,by kernel_rfl⟩ fun args v p h hp w hX=>?_
 dsimp only [bytesPS] at h
 split at h
 ·rename_i a b
  cases h
  refine (calls_bare (E:=EB) rfl rfl (Q:=fun v=>v=.int .i64 (bytesN a b)) (args:=[.v (.string a),.v (.string b)]) (a:=[.string a,.string b]) w (S0:=entE EB 82 [.v (.string a),.v (.string b)]) (by kernel_rfl) (VRL.cons (VR.v_iff.2 rfl) (VRL.cons (VR.v_iff.2 rfl) VRL.nil)) fun cs0=>?_).mono fun e w' ⟨h1,u,h2,h3⟩=>⟨h1,by rw [h2,h3]⟩
  refine Goes.reach KB (k:=2) (n:=60) (o:=[(1000,.b true)]) (ren:=[]) (eqs:=[]) (F:=hdB a b 0) (d:=6) (l:=[]) ?_ (by kernel_rfl) (fun i b h=>no_name h) (loopB hp.1 hp.2 a.size 0 (by omega) (by omega) fun w' hw=>⟨hw,_,rfl,rfl⟩)
  rw [b0];simp [Owed]
 ·cases h
def mk (l:List UInt8):ByteArray:=⟨l.toArray⟩
theorem mk_of (b:ByteArray):mk b.data.toList=b:=by cases b;simp [mk]
theorem mk_app (a b:List UInt8):mk a++mk b=mk (a++b):=by
 apply ByteArray.ext
 simp [mk]
theorem mk_size (l:List UInt8):(mk l).size=l.length:=rfl
theorem extract_one (p:ByteArray) (k:Nat) (h:k<p.size):p.extract k (k+1)=mk [p.data.getD k 0]:=by
 apply ByteArray.ext
 have h':k<p.data.toList.length:=by simpa using h
 have e:(p.data.toList.drop k).take 1=[p.data.getD k 0]:=by rw [drop_getD h];rfl
 have e2:p.data.toList.toArray=p.data:=by simp
 simp only [mk,ByteArray.data_extract]
 rw [← e2,List.extract_toArray,List.extract_eq_take_drop,show k+1 - k=1 by omega,e]
theorem partsL_snoc:∀ (l:List UInt8) (b:UInt8) (init:List (List UInt8)) (last:List UInt8),partsL l=init++[last]→partsL (l++[b])=if b=47 then init++[last,[]] else init++[last++[b]]
 | [],b,init,last,h=>by
  have h':([[]]:List (List UInt8))=init++[last]:=h
  have:init=[]∧last=[]:=by
   cases init with
   | nil=>simp at h';exact ⟨rfl,h'⟩
   | cons x xs=>simp at h'
  obtain ⟨rfl,rfl⟩:=this
  by_cases hb:b=47 <;> simp [partsL,hb]
 | c::l,b,init,last,h=>by
  by_cases hc:c=47
  ·subst hc
   have e1:partsL (47::l)=[]::partsL l:=by simp [partsL]
   have e2:partsL (47::l++[b])=[]::partsL (l++[b]):=by simp [partsL]
   rw [e1] at h
   cases init with
   | nil=>
    simp at h
    exact absurd h.2 (partsL_ne l)
   | cons x xs=>
    rw [List.cons_append,List.cons.injEq] at h
    obtain ⟨rfl,h⟩:=h
    rw [e2,partsL_snoc l b xs last h]
    split <;> simp
  ·have step:∀ m:List UInt8,∀ x xs,partsL m=x::xs→partsL (c::m)=(c::x)::xs:=fun m x xs hm=>by
    conv=>lhs;unfold partsL
    rw [if_neg hc,hm]
   cases hp:partsL l with
   | nil=>exact absurd hp (partsL_ne l)
   | cons x xs=>
    rw [step l x xs hp] at h
    cases init with
    | nil=>
     rw [List.nil_append,List.cons.injEq] at h
     obtain ⟨rfl,rfl⟩:=h
     have ih:=partsL_snoc l b [] x (by rw [hp];rfl)
     by_cases hb:b=47
     ·rw [if_pos hb] at ih ⊢
      rw [List.cons_append,step _ x [[]] ih];rfl
     ·rw [if_neg hb] at ih ⊢
      rw [List.cons_append,step _ (x++[b]) [] ih];rfl
    | cons z zs=>
     rw [List.cons_append,List.cons.injEq] at h
     obtain ⟨rfl,h⟩:=h
     have ih:=partsL_snoc l b (x::zs) last (by rw [hp,h];rfl)
     by_cases hb:b=47
     ·rw [if_pos hb] at ih ⊢
      rw [List.cons_append,step _ x (zs++[last,[]]) ih];rfl
     ·rw [if_neg hb] at ih ⊢
      rw [List.cons_append,step _ x (zs++[last++[b]]) ih];rfl
theorem partsL_len:∀ l:List UInt8,(partsL l).length≤l.length+1∧∀ x∈partsL l,x.length≤l.length
 | []=>by simp [partsL]
 | c::l=>by
  obtain ⟨h1,h2⟩:=partsL_len l
  unfold partsL
  split
  ·refine ⟨by simp only [List.length_cons];omega,fun x hx=>?_⟩
   rcases List.mem_cons.1 hx with rfl | hx
   ·simp
   ·have:=h2 x hx;simp only [List.length_cons];omega
  ·cases hp:partsL l with
   | nil=>exact absurd hp (partsL_ne l)
   | cons x xs=>
    rw [hp] at h1 h2
    refine ⟨by simp only [List.length_cons] at h1 ⊢;omega,fun y hy=>?_⟩
    rcases List.mem_cons.1 hy with rfl | hy
    ·have:=h2 x List.mem_cons_self;simp only [List.length_cons];omega
    ·have:=h2 y (List.mem_cons_of_mem _ hy);simp only [List.length_cons];omega
def cP (l:List (List UInt8)):List SV:=l.map fun s=>.v (.string (mk s))
theorem cP_app (a b:List (List UInt8)):cP (a++b)=cP a++cP b:=by simp [cP]
theorem cP_len (a:List (List UInt8)):(cP a).length=a.length:=by simp [cP]
theorem cP_closed (a:List (List UInt8)):(cP a).all closedSV=true:=by
 rw [List.all_eq_true];intro x hx;obtain ⟨c,_,rfl⟩:=List.mem_map.1 hx;rfl
theorem cP_flat (a:List (List UInt8)):(cP a).all SV.flat=true:=by
 rw [List.all_eq_true];intro x hx;obtain ⟨c,_,rfl⟩:=List.mem_map.1 hx;rfl
def vP (l:List (List UInt8)):List Value:=l.map fun s=>.string (mk s)
theorem cP_val {ν:Val}:∀ {l:List (List UInt8)} {zs:List Value},VRL ν (cP l) zs→zs=vP l
 | [],zs,h=>VRL.nil_inv h
 | s::l,zs,h=>by
  obtain ⟨z,zs',rfl,h1,h2⟩:=VRL.cons_inv (x:=.v (.string (mk s))) (xs:=cP l) h
  rw [VR.v_iff.1 h1,cP_val h2];rfl
theorem splice_last:∀ (a:List SV) (x y:SV),splice (a++[x]) a.length [y]=a++[y]
 | [],x,y=>rfl
 | z::a,x,y=>by
  show z::splice (a++[x]) a.length [y]=_
  rw [splice_last a x y];rfl
theorem take_snocD (p:ByteArray) {k:Nat} (h:k<p.size):p.data.toList.take (k+1)=p.data.toList.take k++[p.data.getD k 0]:=by
 have h':k<p.data.toList.length:=by simpa using h
 rw [List.take_succ_eq_append_getElem h']
 congr 2
 rw [Array.getD,dif_pos (show k<p.data.size from h)];simp
theorem KK {M:Own} {w0:World}:Facts EK M w0:=factsP0 fun r h=>by cases h
theorem eq47 (x:UInt8):(((x.toNat:Int))==47)=(x==47):=by
 by_cases e:x=47
 ·rw [e];rfl
 ·rw [beq_eq_false_iff_ne.2 e,beq_eq_false_iff_ne.2 fun h=>e (UInt8.toNat_inj.1 (show x.toNat=47 by omega))]
section
variable {w0:World} {cs0:List Frame} {R:Ending→World→Prop} {p:ByteArray}
def RK (w0:World) (p:ByteArray) (e:Ending) (w':World):Prop:=Below w0.heap.size w0 w'∧∃ y,e=.returned y∧NewSl w0 w' y (vP (partsL p.data.toList)) (partsL p.data.toList).length 1 9
theorem below_ends {w0 w':World} (h:∃ ν1 M1 w1 s',Base (layOwn [] []) w0 M1 w1∧HR ν1 M1 w1 s' w'):Below w0.heap.size w0 w':=by
 obtain ⟨_,_,_,_,hB,hr⟩:=h
 exact below_of not_laid hB hr
theorem new_ends {w0:World} {b:Nat} (h:w0.heap.size≤b∨(layOwn [] []) b):w0.heap.size≤b:=by
 rcases h with h | h
 ·exact h
 ·exact absurd h (not_laid _)
theorem loopK2 (hp:p.size≤1000000000):∀ (j i:Nat),i+j=p.size→∀ (init:List (List UInt8)) (last:List UInt8),partsL (p.data.toList.take i)=init++[last]→
  Goes EK (layOwn [] []) w0 cs0 81 (RK w0 p) (layVal []) (SM.at (hdK p (.sl 0 0 (init.length+1) none) i) 6 (many (cP (init++[last]))))
 | 0,i,hj,init,last,h=>by
  have hl:p.data.toList.length=p.size:=by simp
  rw [List.take_of_length_le (by omega)] at h
  refine Goes.endsO KK (n:=100) (o:=ff [0] false) (x:=.sl 0 0 (init.length+1) none) (i:=0) (so:=.row (cP (init++[last])) 9 (0,0) (some 1)) ?_ fun ν' w' y b ob hv hb ho hor hw hB=>?_
  ·rw [k6]
   simp only [Owed,cP_closed,and_true,and_self,true_and]
   exact decide_eq_false (by omega)
  ·refine ⟨below_ends hB,y,rfl,?_⟩
   rw [h,show (init++[last]).length=init.length+1 by simp]
   exact NewSl.of_row hv hb ho hor (new_ends hw) fun zs hz=>cP_val hz
 | j+1,i,hj,init,last,h=>by
  have hi:i<p.size:=by omega
  have hs:=partsL_snoc _ (p.data.getD i 0) init last h
  rw [← take_snocD p hi] at hs
  have t1:decide ((i:Int)<(p.size:Int))=true:=decide_eq_true (by omega)
  have r1:=in_range hi
  have hlen:=partsL_len (p.data.toList.take i)
  rw [h,List.length_append,List.length_take] at hlen
  have hll:p.data.toList.length=p.size:=by simp
  have hn:init.length≤1000000000:=by have:=hlen.1;simp at this;omega
  have hlast:last.length≤1000000000:=by have:=hlen.2 last (by simp);omega
  have ws:=wrap_succ (k:=i) (by omega)
  have ws2:=wrap_succ (k:=i) (by omega)
  by_cases hb:p.data.getD i 0=47
  ·rw [if_pos hb] at hs
   have e2:init++[last,[]]=(init++[last])++[[]]:=by simp
   have nx:=loopK2 hp j (i+1) (by omega) (init++[last]) [] (by rw [hs,e2])
   have el:(init++[last]).length+1=init.length+1+1:=by simp
   rw [el] at nx
   refine Goes.reach KK (k:=2) (n:=100) (o:=ff [0,1,2] true++[(3,.app (cP (init++[last])) (cP [[]]))]) (ren:=[(0,2)]) (eqs:=[0]) ?_ (by kernel_rfl) (fun i b h=>no_name h) nx
   rw [k4]
   have hq:((p.data.getD i 0).toNat:Int)==47:=by rw [eq47,hb];rfl
   simp only [Owed,Int.toNat_natCast,t1,r1,hq,cP_closed,cP_flat,cP_app,cP_len,ws,List.all_append,true_and,and_true,Nat.mul_one]
   repeat' apply And.intro
   all_goals first | rfl | (simp [cP];done) | (simp [cP];omega) | omega | exact List.take_of_length_le (by simp [cP]) | skip
  ·rw [if_neg hb] at hs
   have nx:=loopK2 hp j (i+1) (by omega) init (last++[p.data.getD i 0]) hs
   refine Goes.reach KK (k:=2) (n:=100) (o:=ff [0] true++ff [2] false++[(4,.cells [.v (.string (mk last))]),(9,.put)]) (ren:=[(0,0)]) (eqs:=[0]) ?_ (by kernel_rfl) (fun i b h=>no_name h) nx
   rw [k3]
   have hq:(((p.data.getD i 0).toNat:Int)==47)=false:=by rw [eq47];exact beq_eq_false_iff_ne.2 hb
   have wn:IntKind.i64.wrap (((init.length+1:Nat):Int) - 1)=(init.length:Int):=by rw [wi (by omega)];omega
   have rn:inRange (init.length:Int) (init.length+1)=true:=in_range (Nat.lt_succ_self _)
   have g1:(cP (init++[last]))[0+init.length*1]?=some (.v (.string (mk last))):=by simp [cP]
   have g2:splice (cP (init++[last])) (0+init.length*1) [.v (.string (mk last++mk [p.data.getD i 0]))]=cP (init++[last++[p.data.getD i 0]]):=by
    have:=splice_last (cP init) (.v (.string (mk last))) (.v (.string (mk last++mk [p.data.getD i 0])))
    rw [cP_len] at this
    rw [Nat.zero_add,Nat.mul_one,cP_app,mk_app] at *
    rw [cP_app];exact this
   simp only [Owed,Int.toNat_natCast,t1,r1,hq,wn,rn,g1,ws,extract_one p i hi,g2,cP_closed,true_and,and_true,and_self]
   repeat' apply And.intro
   all_goals first | rfl | exact decide_eq_true (by omega) | (simp [cP];done) | (simp [cP];omega) | (rw [mk_size,mk_size];exact Nat.le_of_ble_eq_true (by simp;omega)) | (show _+_≤_;rw [mk_size,mk_size];simp;omega) | omega
theorem loopK1 (hp:p.size≤1000000000):∀ (j i:Nat),i+j=p.size→∀ (last:List UInt8),partsL (p.data.toList.take i)=[last]→
  Goes EK (layOwn [] []) w0 cs0 81 (RK w0 p) (layVal []) (SM.at (hdK p (.sl 0 0 1 (some 1)) i) 6 (one (mk last)))
 | 0,i,hj,last,h=>by
  have hl:p.data.toList.length=p.size:=by simp
  rw [List.take_of_length_le (by omega)] at h
  refine Goes.endsO KK (n:=100) (o:=ff [0] false) (x:=.sl 0 0 1 (some 1)) (i:=0) (so:=.row [.v (.string (mk last))] 9 (0,0) none) ?_ fun ν' w' y b ob hv hb ho hor hw hB=>?_
  ·rw [k5]
   simp only [Owed,and_true,and_self,true_and]
   exact ⟨decide_eq_false (by omega),rfl⟩
  ·refine ⟨below_ends hB,y,rfl,?_⟩
   rw [h]
   exact NewSl.of_one hv hb ho hor (new_ends hw) (fun zs hz=>cP_val (l:=[last]) hz) rfl
 | j+1,i,hj,last,h=>by
  have hi:i<p.size:=by omega
  have hs:=partsL_snoc _ (p.data.getD i 0) [] last h
  rw [← take_snocD p hi] at hs
  have t1:decide ((i:Int)<(p.size:Int))=true:=decide_eq_true (by omega)
  have r1:=in_range hi
  have hlen:=partsL_len (p.data.toList.take i)
  rw [h,List.length_take] at hlen
  have hll:p.data.toList.length=p.size:=by simp
  have hlast:last.length≤1000000000:=by have:=hlen.2 last (by simp);omega
  have ws:=wrap_succ (k:=i) (by omega)
  by_cases hb:p.data.getD i 0=47
  ·rw [if_pos hb] at hs
   have nx:=loopK2 (w0:=w0) (cs0:=cs0) hp j (i+1) (by omega) [last] [] (by rw [hs];rfl)
   refine Goes.reach KK (k:=2) (n:=100) (o:=ff [0,1,2] true) (ren:=[(0,2)]) (eqs:=[0]) ?_ (by kernel_rfl) (fun i b h=>no_name h) nx
   rw [show ([last]:List (List UInt8)).length+1=2 from rfl,k2]
   have hq:((p.data.getD i 0).toNat:Int)==47:=by rw [eq47,hb];rfl
   simp only [Owed,Int.toNat_natCast,t1,r1,hq,cP_closed,ws,true_and,and_true]
   repeat' apply And.intro
   all_goals first | rfl | (simp [cP];done) | (simp [cP];omega) | omega | exact List.take_of_length_le (by simp [cP]) | skip
  ·rw [if_neg hb] at hs
   have nx:=loopK1 hp j (i+1) (by omega) (last++[p.data.getD i 0]) hs
   refine Goes.reach KK (k:=2) (n:=100) (o:=ff [0] true++ff (List.range 40) false) (ren:=[(0,0)]) (eqs:=[]) ?_ (by kernel_rfl) (fun i b h=>no_name h) nx
   rw [k1]
   have hq:(((p.data.getD i 0).toNat:Int)==47)=false:=by rw [eq47];exact beq_eq_false_iff_ne.2 hb
   simp only [Owed,Int.toNat_natCast,t1,r1,hq,ws,extract_one p i hi,mk_app,true_and,and_true,and_self]
   repeat' apply And.intro
   all_goals first | rfl | exact decide_eq_true (by omega) | exact (show (mk last).size+(mk [p.data.getD i 0]).size≤9223372036854775807 by rw [mk_size,mk_size];simp;omega) | omega
end
def cutS:SlS:=fun args=>match args with | [.string p]=>some (vP (partsL p.data.toList),(partsL p.data.toList).length,1,9,none,p.size≤1000000000) | _=>none
theorem rcut_ok {X:World→Prop}:SumOK Tryz.prog X (81,slSum cutS):=by
 refine slSum_ok ⟨_,Tryz.func81,by kernel_rfl,by kernel_rfl⟩ fun vs ys n C elem ex p h hp w hX=>?_
 dsimp only [cutS] at h
 split at h
 ·rename_i p
  cases h
  refine (calls_bareR (E:=EK) (R:=RK w p) rfl rfl (args:=[.v (.string p)]) (a:=[.string p]) (S0:=entE EK 81 [.v (.string p)]) (by kernel_rfl) (VRL.cons (VR.v_iff.2 rfl) VRL.nil) fun cs0=>?_).mono fun e w' ⟨h1,y,h2,h3⟩=>⟨h1,y,h2,h3⟩
  have nx:=loopK1 (w0:=w) (cs0:=cs0) hp p.size 0 (by omega) [] rfl
  rw [show mk []=⟨#[]⟩ from rfl] at nx
  refine Goes.reach KK (k:=2) (n:=60) (o:=[(1000,.b true)]) (ren:=[(0,0)]) (eqs:=[]) (F:=hdK p (.sl 0 0 1 (some 1)) 0) (d:=6) (l:=one ⟨#[]⟩) ?_ (by kernel_rfl) (fun i b h=>no_name h) nx
  rw [k0];simp only [Owed,and_self,and_true,true_and]
  repeat' apply And.intro
  all_goals rfl
 ·cases h
def lR:List (FuncId × Sum):=[(81,slSum cutS),(82,pureSum bytesPS),(83,pureSum lessPS)]
noncomputable def ER:Env:={ EP [] [] with sums:=fun f=>lR.lookup f }
theorem KR {M:Own} {w0:World}:Facts ER M w0:=
 Facts.of' (Checked.mixed Tryz.checked) (by kernel_rfl) (ExtOK.of extL rfl extRows) (SumsOK.list (X:=fun _=>True) (l:=lR) rfl (fun r hr=>by
  simp only [lR,List.mem_cons,List.not_mem_nil,or_false] at hr
  rcases hr with rfl | rfl | rfl
  ·exact rcut_ok
  ·exact SumOK.pure (r:=(82,bytesPS)) bytes_ok
  ·exact SumOK.pure (r:=(83,lessPS)) less_ok) fun ν s w hr _=>trivial) (fun f g h=>by cases h)
noncomputable def todoR:List SI:=todoL ER 2 60 (entE ER 51 [.v (.string ⟨#[]⟩),.v (.string ⟨#[]⟩)]) [(1000,.b true)]
noncomputable def hdR (n m:Nat) (i:Int):SF:={ fn:=51,tm:=tmOf 42 6 (List.replicate 5 .junk++[.sl 0 0 n none,.sl 1 0 m none,.v (.int .i64 i)]++List.replicate 34 .junk),todo:=todoR,defers:=[],ret:=false,kind:=.normal,ro:=none }
def two (l m:List SV):List (Option (SO × Bool)):=[some (.row l 9 (0,0) (some 1),true),some (.row m 9 (0,0) (some 1),true)]
theorem r0 (a b:ByteArray) (n m:Nat) (l l2:List SV):reach ER 2 60 (entE ER 51 [.v (.string a),.v (.string b)]) [(1000,.b true)] [(0,0),(1,1)] [0,1] (hdR n m 0) 6 (two l l2)=[
 (0:Nat)=(0:Nat)∧(partsL a.data.toList).length=n∧(none:Option Nat)=none,
 (0:Nat)=(0:Nat)∧(partsL b.data.toList).length=m∧(none:Option Nat)=none,
 Value.int IntKind.i64 (0:Int)=Value.int IntKind.i64 (0:Int),
 List.map SV.v (vP (partsL a.data.toList))=l,
 l.all closedSV=true,
 List.map SV.v (vP (partsL b.data.toList))=l2,
 l2.all closedSV=true,
 b.size.le (1000000000:Nat),
 a.size.le (1000000000:Nat)]:=by kernel_rfl
theorem rq1 (s t:ByteArray) (n m:Nat) (l l2:List SV) (i i':Int):reach ER 2 100 (SM.at (hdR n m i) 6 (two l l2)) (ff [0,1,2,3,4,5] true++[(7,.cells [.v (.string s)]),(9,.cells [.v (.string t)])]++ff [11] false) [(0,0),(1,1)] [0,1] (hdR n m i') 6 (two l l2)=[
 (0:Nat)=(0:Nat)∧n=n∧(none:Option Nat)=none,
 (0:Nat)=(0:Nat)∧m=m∧(none:Option Nat)=none,
 Value.int IntKind.i64 (IntKind.i64.wrap (i+(1:Int)))=Value.int IntKind.i64 i',
 l=l,
 l.all closedSV=true,
 l2=l2,
 l2.all closedSV=true,
 (!bytesN s t==(0:Int))=false,
 s.size≤(1000000000:Nat)∧t.size≤(1000000000:Nat),
 l2[(0:Nat)+i.toNat*(1:Nat)]?=some (SV.v (Value.string t)),
 inRange i m=true,
 l[(0:Nat)+i.toNat*(1:Nat)]?=some (SV.v (Value.string s)),
 inRange i n=true,
 decide (i<(↑m:Int))=true,
 decide (i<(↑n:Int))=true,
 decide (i<(↑n:Int))=true,
 decide (i<(↑n:Int))=true,
 decide (i<(↑n:Int))=true,
 decide (i<(↑n:Int))=true]:=by kernel_rfl
theorem rq2 (s t:ByteArray) (n m:Nat) (l l2:List SV) (i:Int) (v:Value):endsV ER 51 100 (SM.at (hdR n m i) 6 (two l l2)) (ff [0,1,2,3,4,5] true++[(7,.cells [.v (.string s)]),(9,.cells [.v (.string t)])]++ff [11] true) v=[
 Value.int IntKind.i64 (bytesN s t)=v,
 (!bytesN s t==(0:Int))=true,
 s.size≤(1000000000:Nat)∧t.size≤(1000000000:Nat),
 l2[(0:Nat)+i.toNat*(1:Nat)]?=some (SV.v (Value.string t)),
 inRange i m=true,
 l[(0:Nat)+i.toNat*(1:Nat)]?=some (SV.v (Value.string s)),
 inRange i n=true,
 decide (i<(↑m:Int))=true,
 decide (i<(↑n:Int))=true,
 decide (i<(↑n:Int))=true,
 decide (i<(↑n:Int))=true,
 decide (i<(↑n:Int))=true,
 decide (i<(↑n:Int))=true]:=by kernel_rfl
theorem r3 (n m:Nat) (l l2:List SV) (i:Int) (v:Value):endsV ER 51 100 (SM.at (hdR n m i) 6 (two l l2)) (ff [0,1,2,3,4,5] false) v=[
 Value.int IntKind.i64 (lessN (↑n:Int) (↑m:Int))=v,
 True,
 false=false,
 decide (i<(↑n:Int))=false,
 decide (i<(↑n:Int))=false,
 decide (i<(↑n:Int))=false,
 decide (i<(↑n:Int))=false,
 decide (i<(↑n:Int))=false]:=by kernel_rfl
theorem r4 (n m:Nat) (l l2:List SV) (i:Int) (v:Value):endsV ER 51 100 (SM.at (hdR n m i) 6 (two l l2)) (ff [0,1,2,3,4] true++ff [5] false) v=[
 Value.int IntKind.i64 (lessN (↑n:Int) (↑m:Int))=v,
 True,
 decide (i<(↑m:Int))=false,
 decide (i<(↑n:Int))=true,
 decide (i<(↑n:Int))=true,
 decide (i<(↑n:Int))=true,
 decide (i<(↑n:Int))=true,
 decide (i<(↑n:Int))=true]:=by kernel_rfl
theorem lt_irr (x:UInt8):¬ x<x:=by rw [UInt8.lt_iff_toNat_lt];omega
theorem lt_tri {x y:UInt8} (h1:¬ x<y) (h2:¬ y<x):x=y:=by
 rw [UInt8.lt_iff_toNat_lt] at h1 h2;exact UInt8.toNat_inj.1 (by omega)
theorem lt_asy {x y:UInt8} (h1:x<y):¬ y<x:=by
 rw [UInt8.lt_iff_toNat_lt] at h1 ⊢;omega
theorem lexN_self:∀ x:List UInt8,lexN x x=0
 | []=>rfl
 | a::l=>by unfold lexN;rw [if_neg (lt_irr a),if_neg (lt_irr a)];exact lexN_self l
theorem lexN_eq:∀ {x y:List UInt8},lexN x y=0→x=y
 | [],[],_=>rfl
 | [],_::_,h=>by cases h
 | _::_,[],h=>by cases h
 | a::l,b::m,h=>by
  unfold lexN at h
  by_cases h1:a<b
  ·rw [if_pos h1] at h;cases h
  ·by_cases h2:b<a
   ·rw [if_neg h1,if_pos h2] at h;cases h
   ·rw [if_neg h1,if_neg h2] at h
    rw [lt_tri h1 h2,lexN_eq h]
theorem cmpL_lex:∀ x y:List UInt8,(if Op.bytesLess x y=true then -1 else if (!(Op.bytesLess x y||x==y))=true then 1 else 0:Int)=lexN x y
 | [],[]=>by simp [Op.bytesLess,lexN]
 | [],_::_=>by simp [Op.bytesLess,lexN]
 | _::_,[]=>by simp [Op.bytesLess,lexN]
 | a::l,b::m=>by
  have ih:=cmpL_lex l m
  unfold lexN
  by_cases h1:a<b
  ·simp [Op.bytesLess,h1]
  ·by_cases h2:b<a
   ·have ne:a≠b:=fun e=>lt_irr b (by rw [e] at h2;exact h2)
    simp [Op.bytesLess,h1,h2,ne]
   ·obtain rfl:=lt_tri h1 h2
    rw [if_neg h1,if_neg h2,← ih]
    simp [Op.bytesLess,h1]
theorem cmpS_lex (a b:ByteArray):cmpS a b=lexN a.data.toList b.data.toList:=by
 unfold cmpS;rw [tlB,tlB];exact cmpL_lex _ _
def rcN:List (List UInt8)→List (List UInt8)→Int
 | [],[]=>0
 | [],_::_=>-1
 | _::_,[]=>1
 | x::xs,y::ys=>if lexN x y=0 then rcN xs ys else lexN x y
theorem rcN_cmp:∀ (n:Nat) (a b:ByteArray),a.size<n→rcN (partsL a.data.toList) (partsL b.data.toList)=cmpF n a b
 | 0,_,_,h=>by omega
 | n+1,a,b,h=>by
  have ea:partsL a.data.toList=(cA a).data.toList::(if cM a=true then partsL (cB a).data.toList else []):=partsL_cut _
  have eb:partsL b.data.toList=(cA b).data.toList::(if cM b=true then partsL (cB b).data.toList else []):=partsL_cut _
  rw [ea,eb]
  unfold rcN cmpF
  by_cases he:(cA a).data.toList=(cA b).data.toList
  ·rw [if_pos he,he,lexN_self,if_pos rfl]
   cases ma:cM a
   ·cases mb:cM b
    ·simp [rcN,atN]
    ·cases hp:partsL (cB b).data.toList with
     | nil=>exact absurd hp (partsL_ne _)
     | cons x xs=>simp [rcN,atN,hp]
   ·cases mb:cM b
    ·cases hp:partsL (cB a).data.toList with
     | nil=>exact absurd hp (partsL_ne _)
     | cons x xs=>simp [rcN,atN,hp]
    ·have:=rcN_cmp n (cB a) (cB b) (by have:=cB_lt a ma;omega)
     simp [this]
  ·rw [if_neg he,cmpS_lex,if_neg fun e=>he (lexN_eq e)]
section
variable {w0:World} {cs0:List Frame} {R:Ending→World→Prop} {xs ys:List (List UInt8)}
theorem loopR (hx:xs.length≤2000000000) (hy:ys.length≤2000000000) (sx:∀ s∈xs,s.length≤1000000000) (sy:∀ s∈ys,s.length≤1000000000):∀ (j i:Nat),i+j=xs.length→i≤ys.length→
  (∀ w',Below w0.heap.size w0 w'→R (.returned (.int .i64 (rcN (xs.drop i) (ys.drop i)))) w')→Goes ER (layOwn [] []) w0 cs0 51 R (layVal []) (SM.at (hdR xs.length ys.length i) 6 (two (cP xs) (cP ys)))
 | j,i,hj,hib,hR=>by
  have go:∀ {o v},Due (endsV ER 51 100 (SM.at (hdR xs.length ys.length i) 6 (two (cP xs) (cP ys))) o v)→v=.int .i64 (rcN (xs.drop i) (ys.drop i))→Goes ER (layOwn [] []) w0 cs0 51 R (layVal []) (SM.at (hdR xs.length ys.length i) 6 (two (cP xs) (cP ys))):=fun hd e=>
   goes_due KR not_laid hd fun w' hw=>by rw [e];exact hR _ hw
  by_cases h1:i<xs.length
  ·have t1:decide ((i:Int)<(xs.length:Int))=true:=decide_eq_true (by omega)
   by_cases h2:i<ys.length
   ·have t2:decide ((i:Int)<(ys.length:Int))=true:=decide_eq_true (by omega)
    have r1:=in_range h1
    have r2:=in_range h2
    have da:=List.drop_eq_getElem_cons h1
    have db:=List.drop_eq_getElem_cons h2
    have g1:(cP xs)[0+i*1]?=some (.v (.string (mk xs[i]))):=by simp [cP,h1]
    have g2:(cP ys)[0+i*1]?=some (.v (.string (mk ys[i]))):=by simp [cP,h2]
    have z1:(mk xs[i]).size≤1000000000:=sx _ (List.getElem_mem h1)
    have z2:(mk ys[i]).size≤1000000000:=sy _ (List.getElem_mem h2)
    have eb:bytesN (mk xs[i]) (mk ys[i])=lexN xs[i] ys[i]:=by simp [bytesN,mk]
    by_cases hc:lexN xs[i] ys[i]=0
    ·have hq:(!(lexN xs[i] ys[i]==(0:Int)))=false:=by rw [hc];rfl
     match j,hj with
     | 0,hj=>omega
     | j+1,hj=>
      refine Goes.reach KR (k:=2) (n:=100) (o:=(ff [0,1,2,3,4,5] true++[(7,.cells [.v (.string (mk xs[i]))]),(9,.cells [.v (.string (mk ys[i]))])]++ff [11] false)) (ren:=[(0,0),(1,1)]) (eqs:=[0,1]) ?_ (by kernel_rfl) (fun i b h=>no_name h) (loopR hx hy sx sy j (i+1) (by omega) (by omega) fun w' hw=>by
       have e:rcN (xs.drop i) (ys.drop i)=rcN (xs.drop (i+1)) (ys.drop (i+1)):=by
        rw [da,db];conv=>lhs;unfold rcN
        rw [if_pos hc]
       exact e ▸ hR w' hw)
      rw [rq1]
      have ws:IntKind.i64.wrap ((i:Int)+1)=((i+1:Nat):Int):=by rw [wi (by omega)];simp
      simp only [Owed,Int.toNat_natCast,t1,t2,r1,r2,g1,g2,z1,z2,eb,hq,ws,cP_closed,and_self]
    ·have hq:(!(lexN xs[i] ys[i]==(0:Int)))=true:=by rw [beq_eq_false_iff_ne.2 hc];rfl
     refine go (o:=(ff [0,1,2,3,4,5] true++[(7,.cells [.v (.string (mk xs[i]))]),(9,.cells [.v (.string (mk ys[i]))])]++ff [11] true)) (v:=.int .i64 (bytesN (mk xs[i]) (mk ys[i]))) ⟨?_⟩ (by rw [da,db,eb];unfold rcN;rw [if_neg hc])
     rw [rq2]
     simp only [Owed,Int.toNat_natCast,t1,t2,r1,r2,g1,g2,z1,z2,eb,hq,and_self]
   ·have t2:decide ((i:Int)<(ys.length:Int))=false:=decide_eq_false (by omega)
    refine go (o:=ff [0,1,2,3,4] true++ff [5] false) (v:=.int .i64 (lessN xs.length ys.length)) ⟨?_⟩ ?_
    ·rw [r4];simp only [Owed,t1,t2,and_self]
    ·rw [List.drop_eq_getElem_cons h1,List.drop_eq_nil_of_le (by omega:ys.length≤i)]
     have:lessN (xs.length:Int) (ys.length:Int)=1:=by unfold lessN;rw [if_neg (by omega),if_pos (by omega)]
     rw [this];rfl
  ·have t1:decide ((i:Int)<(xs.length:Int))=false:=decide_eq_false (by omega)
   refine go (o:=ff [0,1,2,3,4,5] false) (v:=.int .i64 (lessN xs.length ys.length)) ⟨?_⟩ ?_
   ·rw [r3];simp only [Owed,t1,and_self]
   ·rw [List.drop_eq_nil_of_le (by omega:xs.length≤i)]
    by_cases h2:i<ys.length
    ·rw [List.drop_eq_getElem_cons h2]
     have:lessN (xs.length:Int) (ys.length:Int)=-1:=by unfold lessN;rw [if_pos (by omega)]
     rw [this];rfl
    ·rw [List.drop_eq_nil_of_le (by omega:ys.length≤i)]
     have:lessN (xs.length:Int) (ys.length:Int)=0:=by unfold lessN;rw [if_neg (by omega),if_neg (by omega)]
     rw [this];rfl
end
theorem rcmp_ok:PureOK Tryz.prog (fun _=>True) (51,cmpPS):=by
 refine .mk ⟨_,Tryz.func51,by kernel_rfl,by kernel_rfl⟩ fun args v p h hp w hX=>?_
 dsimp only [cmpPS] at h
 split at h
 ·rename_i a b
  cases h
  refine calls_bareR (E:=ER) (R:=fun e w'=>Below w.heap.size w w'∧e=.returned (.int .i64 (cmpN a b))) rfl rfl (args:=[.v (.string a),.v (.string b)]) (a:=[.string a,.string b]) (S0:=entE ER 51 [.v (.string a),.v (.string b)]) (by kernel_rfl) (VRL.cons (VR.v_iff.2 rfl) (VRL.cons (VR.v_iff.2 rfl) VRL.nil)) fun cs0=>?_
  have la:a.data.toList.length=a.size:=by simp
  have lb:b.data.toList.length=b.size:=by simp
  obtain ⟨ha,hb⟩:=hp
  obtain ⟨a1,a2⟩:=partsL_len a.data.toList
  obtain ⟨b1,b2⟩:=partsL_len b.data.toList
  have nx:=loopR (w0:=w) (cs0:=cs0) (R:=fun e w'=>Below w.heap.size w w'∧e=.returned (.int .i64 (cmpN a b))) (xs:=partsL a.data.toList) (ys:=partsL b.data.toList) (by omega) (by omega) (fun s hs=>by have:=a2 s hs;omega) (fun s hs=>by have:=b2 s hs;omega) (partsL a.data.toList).length 0 (by omega) (by omega) fun w' hw=>⟨hw,by
   rw [List.drop_zero,List.drop_zero,rcN_cmp (a.size+1) a b (by omega)];rfl⟩
  refine Goes.reach KR (k:=2) (n:=60) (o:=[(1000,.b true)]) (ren:=[(0,0),(1,1)]) (eqs:=[0,1]) (F:=hdR (partsL a.data.toList).length (partsL b.data.toList).length 0) (d:=6) (l:=two (cP (partsL a.data.toList)) (cP (partsL b.data.toList))) ?_ (by kernel_rfl) (fun i b h=>no_name h) nx
  have e1:∀ l:List (List UInt8),List.map SV.v (vP l)=cP l:=fun l=>by simp [vP,cP]
  rw [r0]
  simp only [Owed,e1,cP_closed,and_self,and_true,true_and]
  exact ⟨ha,hb⟩
 ·cases h
noncomputable def todoQ:List SI:=todoL EN0 2 60 (entE EN0 104 [.v (.string ⟨#[]⟩)]) []
noncomputable def hdQ (s:ByteArray) (i:Int):SF:={ fn:=104,tm:=tmOf 30 6 ([.v (.string s),.junk,.junk,.v (.int .i64 i)]++List.replicate 26 .junk),todo:=todoQ,defers:=[],ret:=false,kind:=.normal,ro:=none }
theorem q0 (s:ByteArray):reach EN0 2 60 (entE EN0 104 [.v (.string s)]) [(1000,.b true)] [] [] (hdQ s 0) 6 []=[
 Value.string s=Value.string s,
 Value.int IntKind.i64 (0:Int)=Value.int IntKind.i64 (0:Int)]:=by kernel_rfl
theorem q1 (s:ByteArray) (i i':Int):reach EN0 2 60 (SM.at (hdQ s i) 6 []) (ff [0] true++ff [2] false) [] [] (hdQ s i') 6 []=[
 Value.string s=Value.string s,
 Value.int IntKind.i64 (IntKind.i64.wrap (i+(1:Int)))=Value.int IntKind.i64 i',
 ((↑(s.data.getD i.toNat (0:UInt8)).toNat:Int)==(0:Int))=false,
 inRange i s.size=true,
 decide (i<(↑s.size:Int))=true]:=by kernel_rfl
theorem q2 (s:ByteArray) (i:Int) (v:Value):endsV EN0 104 60 (SM.at (hdQ s i) 6 []) (ff [0,2] true) v=[
 Value.bool false=v,
 ((↑(s.data.getD i.toNat (0:UInt8)).toNat:Int)==(0:Int))=true,
 inRange i s.size=true,
 decide (i<(↑s.size:Int))=true]:=by kernel_rfl
theorem q3 (s:ByteArray) (i:Int) (v:Value):endsV EN0 104 60 (SM.at (hdQ s i) 6 []) (ff (List.range 20) false) v=[
 Value.bool false=v,
 false=false,
 false=false,
 false=false,
 false=false,
 false=false,
 false=false,
 decide ((↑s.size:Int)≥(1:Int))=false,
 decide ((↑s.size:Int)≥(1:Int))=false,
 decide ((↑s.size:Int)≥(1:Int))=false,
 decide ((↑s.size:Int)≥(1:Int))=false,
 decide (i<(↑s.size:Int))=false]:=by kernel_rfl
theorem q4 (s:ByteArray) (i:Int) (v:Value):endsV EN0 104 60 (SM.at (hdQ s i) 6 []) (ff [0] false++ff [1,2,3,4] true++ff (List.range 20) false) v=[
 Value.bool false=v,
 false=false,
 false=false,
 false=false,
 decide ((↑s.size:Int)≤(24:Int))=false,
 decide ((↑s.size:Int)≤(24:Int))=false,
 decide ((↑s.size:Int)≤(24:Int))=false,
 decide ((↑s.size:Int)≥(1:Int))=true,
 decide ((↑s.size:Int)≥(1:Int))=true,
 decide ((↑s.size:Int)≥(1:Int))=true,
 decide ((↑s.size:Int)≥(1:Int))=true,
 decide (i<(↑s.size:Int))=false]:=by kernel_rfl
theorem q5 (s:ByteArray) (i:Int) (v:Value):endsV EN0 104 60 (SM.at (hdQ s i) 6 []) (ff [0] false++ff [1,2,3,4,5,6,7] true++ff (List.range 20) false) v=[
 Value.bool false=v,
 (!s.toList=={ data:={ toList:=[(46:UInt8)]:Array UInt8 }:ByteArray }.toList)=false,
 (!s.toList=={ data:={ toList:=[(46:UInt8)]:Array UInt8 }:ByteArray }.toList)=false,
 (!s.toList=={ data:={ toList:=[(46:UInt8)]:Array UInt8 }:ByteArray }.toList)=false,
 decide ((↑s.size:Int)≤(24:Int))=true,
 decide ((↑s.size:Int)≤(24:Int))=true,
 decide ((↑s.size:Int)≤(24:Int))=true,
 decide ((↑s.size:Int)≥(1:Int))=true,
 decide ((↑s.size:Int)≥(1:Int))=true,
 decide ((↑s.size:Int)≥(1:Int))=true,
 decide ((↑s.size:Int)≥(1:Int))=true,
 decide (i<(↑s.size:Int))=false]:=by kernel_rfl
theorem q6 (s:ByteArray) (i:Int) (v:Value):endsV EN0 104 60 (SM.at (hdQ s i) 6 []) (ff [0] false++ff (List.range 20) true) v=[
 (Value.bool !s.toList=={ data:={ toList:=[(46:UInt8),(46:UInt8)]:Array UInt8 }:ByteArray }.toList)=v,
 (!s.toList=={ data:={ toList:=[(46:UInt8)]:Array UInt8 }:ByteArray }.toList)=true,
 (!s.toList=={ data:={ toList:=[(46:UInt8)]:Array UInt8 }:ByteArray }.toList)=true,
 (!s.toList=={ data:={ toList:=[(46:UInt8)]:Array UInt8 }:ByteArray }.toList)=true,
 decide ((↑s.size:Int)≤(24:Int))=true,
 decide ((↑s.size:Int)≤(24:Int))=true,
 decide ((↑s.size:Int)≤(24:Int))=true,
 decide ((↑s.size:Int)≥(1:Int))=true,
 decide ((↑s.size:Int)≥(1:Int))=true,
 decide ((↑s.size:Int)≥(1:Int))=true,
 decide ((↑s.size:Int)≥(1:Int))=true,
 decide (i<(↑s.size:Int))=false]:=by kernel_rfl
def lGd:List (FuncId × Sum):=[(81,slSum cutS),(104,pureSum partPS)]
noncomputable def EGd:Env:={ EP [] [] with sums:=fun f=>lGd.lookup f }
noncomputable def todoGd:List SI:=todoL EGd 2 60 (entE EGd 89 [.v (.string ⟨#[]⟩)]) (ff [0] false)
noncomputable def hdGd (n:Nat) (i:Int):SF:={ fn:=89,tm:=tmOf 25 6 ([.junk,.junk,.junk,.sl 0 0 n none,.v (.int .i64 i)]++List.replicate 20 .junk),todo:=todoGd,defers:=[],ret:=false,kind:=.normal,ro:=none }
theorem gd0 (p:ByteArray) (v:Value):endsV EGd 89 60 (entE EGd 89 [.v (.string p)]) (ff [0] true) v=[
 Value.bool false=v,
 decide ((↑p.size:Int)>(96:Int))=true]:=by kernel_rfl
theorem gd1 (p:ByteArray) (n:Nat) (l:List SV):reach EGd 2 60 (entE EGd 89 [.v (.string p)]) (ff [0] false) [(0,0)] [0] (hdGd n 0) 6 (many l)=[
 (0:Nat)=(0:Nat)∧(partsL p.data.toList).length=n∧(none:Option Nat)=none,
 Value.int IntKind.i64 (0:Int)=Value.int IntKind.i64 (0:Int),
 List.map SV.v (vP (partsL p.data.toList))=l,
 l.all closedSV=true,
 p.size.le (1000000000:Nat),
 decide ((↑p.size:Int)>(96:Int))=false]:=by kernel_rfl
theorem gd2 (s:ByteArray) (n:Nat) (l:List SV) (i i':Int):reach EGd 2 60 (SM.at (hdGd n i) 6 (many l)) (ff [0] true++[(2,.cells [.v (.string s)])]++ff [4] false) [(0,0)] [0] (hdGd n i') 6 (many l)=[
 (0:Nat)=(0:Nat)∧n=n∧(none:Option Nat)=none,
 Value.int IntKind.i64 (IntKind.i64.wrap (i+(1:Int)))=Value.int IntKind.i64 i',
 l=l,
 l.all closedSV=true,
 (!partB s)=false,
 s.size.le (1000000000:Nat),
 l[(0:Nat)+i.toNat*(1:Nat)]?=some (SV.v (Value.string s)),
 inRange i n=true,
 decide (i<(↑n:Int))=true]:=by kernel_rfl
theorem gd3 (s:ByteArray) (n:Nat) (l:List SV) (i:Int) (v:Value):endsV EGd 89 60 (SM.at (hdGd n i) 6 (many l)) (ff [0] true++[(2,.cells [.v (.string s)])]++ff [4] true) v=[
 Value.bool false=v,
 (!partB s)=true,
 s.size.le (1000000000:Nat),
 l[(0:Nat)+i.toNat*(1:Nat)]?=some (SV.v (Value.string s)),
 inRange i n=true,
 decide (i<(↑n:Int))=true]:=by kernel_rfl
theorem gd4 (n:Nat) (l:List SV) (i:Int) (v:Value):endsV EGd 89 60 (SM.at (hdGd n i) 6 (many l)) (ff [0] false) v=[
 Value.bool (decide ((↑n:Int)≤(6:Int)))=v,
 decide (i<(↑n:Int))=false]:=by kernel_rfl
theorem is0 (v:Int) (x:Value):endsV EN0 64 100 (entE EN0 64 [.v (.int .u64 v)]) (ff (List.range 10) true++ff (List.range 20) false) x=[
 Value.bool false=x,
 false=false,
 false=false,
 false=false,
 false=false,
 true=true,
 true=true,
 true=true,
 true=true,
 true=true,
 true=true,
 true=true,
 decide (v.fdiv ((2:Int) ^ (20:Nat))<(1:Int))=true,
 decide (v.fdiv ((2:Int) ^ (20:Nat))<(1:Int))=true,
 decide (v.fdiv ((2:Int) ^ (20:Nat))<(1:Int))=true]:=by kernel_rfl
theorem is1 (v:Int) (x:Value):endsV EN0 64 100 (entE EN0 64 [.v (.int .u64 v)]) (ff [0,1,2] false++ff (List.range 10) true++ff (List.range 20) false) x=[
 Value.bool false=x,
 false=false,
 false=false,
 false=false,
 false=false,
 true=true,
 true=true,
 true=true,
 true=true,
 decide (v.fdiv ((2:Int) ^ (20:Nat))>(1099511627776:Int))=true,
 decide (v.fdiv ((2:Int) ^ (20:Nat))>(1099511627776:Int))=true,
 decide (v.fdiv ((2:Int) ^ (20:Nat))>(1099511627776:Int))=true,
 decide (v.fdiv ((2:Int) ^ (20:Nat))<(1:Int))=false,
 decide (v.fdiv ((2:Int) ^ (20:Nat))<(1:Int))=false,
 decide (v.fdiv ((2:Int) ^ (20:Nat))<(1:Int))=false]:=by kernel_rfl
theorem is2 (v : Int) (x : Value) : endsV EN0 64 100 (entE EN0 64 [.v (.int .u64 v)]) (ff [0, 1, 2, 3, 4, 5] false ++ ff (List.range 10) true ++ ff (List.range 20) false) x = [
  Value.bool false = x,
  false = false,
  false = false,
  false = false,
  false = false,
  true = true,
  decide
   (IntKind.u64.wrap (↑(BitVec.ofInt (64 : Nat) v &&& BitVec.ofInt (64 : Nat) (1048575 : Int)).toNat : Int) <
   (1 : Int)) =
   true,
  decide
   (IntKind.u64.wrap (↑(BitVec.ofInt (64 : Nat) v &&& BitVec.ofInt (64 : Nat) (1048575 : Int)).toNat : Int) <
   (1 : Int)) =
   true,
  decide
   (IntKind.u64.wrap (↑(BitVec.ofInt (64 : Nat) v &&& BitVec.ofInt (64 : Nat) (1048575 : Int)).toNat : Int) <
   (1 : Int)) =
   true,
  decide (v.fdiv ((2 : Int) ^ (20 : Nat)) > (1099511627776 : Int)) = false,
  decide (v.fdiv ((2 : Int) ^ (20 : Nat)) > (1099511627776 : Int)) = false,
  decide (v.fdiv ((2 : Int) ^ (20 : Nat)) > (1099511627776 : Int)) = false,
  decide (v.fdiv ((2 : Int) ^ (20 : Nat)) < (1 : Int)) = false,
  decide (v.fdiv ((2 : Int) ^ (20 : Nat)) < (1 : Int)) = false,
  decide (v.fdiv ((2 : Int) ^ (20 : Nat)) < (1 : Int)) = false] := by kernel_rfl
theorem is3 (v : Int) (x : Value) : endsV EN0 64 100 (entE EN0 64 [.v (.int .u64 v)]) (ff [0, 1, 2, 3, 4, 5, 6, 7, 8, 9] false ++ ff (List.range 20) true) x = [
  Value.bool
   (IntKind.u64.wrap
   (↑(BitVec.ofInt (64 : Nat) (IntKind.u64.wrap (v.fdiv ((2 : Int) ^ (20 : Nat)) * (2 : Int) ^ (20 : Nat))) |||
   BitVec.ofInt (64 : Nat)
   (IntKind.u64.wrap
   (↑(BitVec.ofInt (64 : Nat) v &&& BitVec.ofInt (64 : Nat) (1048575 : Int)).toNat : Int))).toNat :
   Int) ==
   v) =
   x,
  true = true,
  true = true,
  true = true,
  true = true,
  decide
   (IntKind.u64.wrap (↑(BitVec.ofInt (64 : Nat) v &&& BitVec.ofInt (64 : Nat) (1048575 : Int)).toNat : Int) >
   (1048575 : Int)) =
   false,
  decide
   (IntKind.u64.wrap (↑(BitVec.ofInt (64 : Nat) v &&& BitVec.ofInt (64 : Nat) (1048575 : Int)).toNat : Int) <
   (1 : Int)) =
   false,
  decide
   (IntKind.u64.wrap (↑(BitVec.ofInt (64 : Nat) v &&& BitVec.ofInt (64 : Nat) (1048575 : Int)).toNat : Int) <
   (1 : Int)) =
   false,
  decide
   (IntKind.u64.wrap (↑(BitVec.ofInt (64 : Nat) v &&& BitVec.ofInt (64 : Nat) (1048575 : Int)).toNat : Int) <
   (1 : Int)) =
   false,
  decide (v.fdiv ((2 : Int) ^ (20 : Nat)) > (1099511627776 : Int)) = false,
  decide (v.fdiv ((2 : Int) ^ (20 : Nat)) > (1099511627776 : Int)) = false,
  decide (v.fdiv ((2 : Int) ^ (20 : Nat)) > (1099511627776 : Int)) = false,
  decide (v.fdiv ((2 : Int) ^ (20 : Nat)) < (1 : Int)) = false,
  decide (v.fdiv ((2 : Int) ^ (20 : Nat)) < (1 : Int)) = false,
  decide (v.fdiv ((2 : Int) ^ (20 : Nat)) < (1 : Int)) = false] := by kernel_rfl
theorem pa0 (v : Int) (x : Value) : endsV EN0 61 100 (entE EN0 61 [.v (.int .u64 v)]) (ff (List.range 20) false) x = [
  Value.tuple
   {
   toList :=
   [Value.int IntKind.u64 (IntKind.u64.wrap (v.tdiv (1048576 : Int))),
   Value.int IntKind.u64 (v.tmod (1048576 : Int)), Value.bool false] :
   Array Value } =
   x,
  false = false,
  false = false,
  false = false,
  decide (IntKind.u64.wrap (v.tdiv (1048576 : Int)) ≥ (1 : Int)) = false,
  decide (IntKind.u64.wrap (v.tdiv (1048576 : Int)) ≥ (1 : Int)) = false,
  decide (IntKind.u64.wrap (v.tdiv (1048576 : Int)) ≥ (1 : Int)) = false] := by kernel_rfl
theorem pa1 (v : Int) (x : Value) : endsV EN0 61 100 (entE EN0 61 [.v (.int .u64 v)]) (ff [0, 1, 2] true ++ ff (List.range 20) false) x = [
  Value.tuple
   {
   toList :=
   [Value.int IntKind.u64 (IntKind.u64.wrap (v.tdiv (1048576 : Int))),
   Value.int IntKind.u64 (v.tmod (1048576 : Int)), Value.bool false] :
   Array Value } =
   x,
  decide (IntKind.u64.wrap (v.tdiv (1048576 : Int)) ≤ (1099511627776 : Int)) = false,
  decide (IntKind.u64.wrap (v.tdiv (1048576 : Int)) ≤ (1099511627776 : Int)) = false,
  decide (IntKind.u64.wrap (v.tdiv (1048576 : Int)) ≤ (1099511627776 : Int)) = false,
  decide (IntKind.u64.wrap (v.tdiv (1048576 : Int)) ≥ (1 : Int)) = true,
  decide (IntKind.u64.wrap (v.tdiv (1048576 : Int)) ≥ (1 : Int)) = true,
  decide (IntKind.u64.wrap (v.tdiv (1048576 : Int)) ≥ (1 : Int)) = true] := by kernel_rfl
theorem pa2 (v : Int) (x : Value) : endsV EN0 61 100 (entE EN0 61 [.v (.int .u64 v)]) (ff (List.range 20) true) x = [
  Value.tuple
   {
   toList :=
   [Value.int IntKind.u64 (IntKind.u64.wrap (v.tdiv (1048576 : Int))),
   Value.int IntKind.u64 (v.tmod (1048576 : Int)), Value.bool (decide (v.tmod (1048576 : Int) ≥ (1 : Int)))] :
   Array Value } =
   x,
  decide (IntKind.u64.wrap (v.tdiv (1048576 : Int)) ≤ (1099511627776 : Int)) = true,
  decide (IntKind.u64.wrap (v.tdiv (1048576 : Int)) ≤ (1099511627776 : Int)) = true,
  decide (IntKind.u64.wrap (v.tdiv (1048576 : Int)) ≤ (1099511627776 : Int)) = true,
  decide (IntKind.u64.wrap (v.tdiv (1048576 : Int)) ≥ (1 : Int)) = true,
  decide (IntKind.u64.wrap (v.tdiv (1048576 : Int)) ≥ (1 : Int)) = true,
  decide (IntKind.u64.wrap (v.tdiv (1048576 : Int)) ≥ (1 : Int)) = true] := by kernel_rfl
theorem lc0 (k:Int) (a:Option Addr) (l c:Nat) (v:Value):endsV EN0 65 100 (entE EN0 65 [.v (.agg #[.int .i64 1,.slice a l c])]) (ff [1] true) v=[
 Value.int IntKind.i64 (0:Int)=v,
 decide ((↑l:Int)≤(4096:Int))=true]:=by kernel_rfl
theorem lc1 (k:Int) (a:Option Addr) (l c:Nat) (v:Value):endsV EN0 65 100 (entE EN0 65 [.v (.agg #[.int .i64 1,.slice a l c])]) (ff [1] false) v=[
 Value.int IntKind.i64 (13:Int)=v,
 decide ((↑l:Int)≤(4096:Int))=false]:=by kernel_rfl
theorem lc2 (k:Int) (a:Option Addr) (l c:Nat) (v:Value):endsV EN0 65 100 (entE EN0 65 [.v (.agg #[.int .i64 0,.slice a l c])]) (ff [3] true) v=[
 Value.int IntKind.i64 (0:Int)=v,
 decide ((↑l:Int)≤(0:Int))=true]:=by kernel_rfl
theorem lc3 (k:Int) (a:Option Addr) (l c:Nat) (v:Value):endsV EN0 65 100 (entE EN0 65 [.v (.agg #[.int .i64 0,.slice a l c])]) (ff [3] false) v=[
 Value.int IntKind.i64 (2:Int)=v,
 decide ((↑l:Int)≤(0:Int))=false]:=by kernel_rfl
theorem lc4 (k:Int) (a:Option Addr) (l c:Nat) (v:Value):endsV EN0 65 100 (entE EN0 65 [.v (.agg #[.int .i64 2,.slice a l c])]) (ff [3] true) v=[
 Value.int IntKind.i64 (0:Int)=v,
 decide ((↑l:Int)≤(0:Int))=true]:=by kernel_rfl
theorem lc5 (k:Int) (a:Option Addr) (l c:Nat) (v:Value):endsV EN0 65 100 (entE EN0 65 [.v (.agg #[.int .i64 2,.slice a l c])]) (ff [3] false) v=[
 Value.int IntKind.i64 (2:Int)=v,
 decide ((↑l:Int)≤(0:Int))=false]:=by kernel_rfl
theorem lc6 (k:Int) (a:Option Addr) (l c:Nat) (v:Value):endsV EN0 65 100 (entE EN0 65 [.v (.agg #[.int .i64 k,.slice a l c])]) (ff (List.range 20) false) v=[
 Value.int IntKind.i64 (2:Int)=v,
 (k==(2:Int))=false,
 (k==(0:Int))=false,
 (k==(1:Int))=false]:=by kernel_rfl
theorem rl0 (a:Option Addr) (l c:Nat) (v:Value):endsV EN0 62 100 (entE EN0 62 [.v (.agg #[.int .i64 1,.slice a l c])]) (ff [16] true) v=[
 Value.int IntKind.i64 (13:Int)=v,
 decide ((↑l:Int)>(4096:Int))=true]:=by kernel_rfl
theorem rl1 (a:Option Addr) (l c:Nat) (v:Value):endsV EN0 62 100 (entE EN0 62 [.v (.agg #[.int .i64 1,.slice a l c])]) (ff [16] false) v=[
 Value.int IntKind.i64 (0:Int)=v,
 decide ((↑l:Int)>(4096:Int))=false]:=by kernel_rfl
theorem rl2 (a:Option Addr) (l c:Nat) (v:Value):endsV EN0 62 100 (entE EN0 62 [.v (.agg #[.int .i64 0,.slice a l c])]) (ff [15] true) v=[
 Value.int IntKind.i64 (2:Int)=v,
 decide ((↑l:Int)>(0:Int))=true]:=by kernel_rfl
theorem rl3 (a:Option Addr) (l c:Nat) (v:Value):endsV EN0 62 100 (entE EN0 62 [.v (.agg #[.int .i64 0,.slice a l c])]) (ff [15,16] false) v=[
 Value.int IntKind.i64 (0:Int)=v,
 decide ((↑l:Int)>(4096:Int))=false,
 decide ((↑l:Int)>(0:Int))=false]:=by kernel_rfl
theorem rl4 (a:Option Addr) (l c:Nat) (v:Value):endsV EN0 62 100 (entE EN0 62 [.v (.agg #[.int .i64 2,.slice a l c])]) (ff [15] true) v=[
 Value.int IntKind.i64 (2:Int)=v,
 decide ((↑l:Int)>(0:Int))=true]:=by kernel_rfl
theorem rl5 (a:Option Addr) (l c:Nat) (v:Value):endsV EN0 62 100 (entE EN0 62 [.v (.agg #[.int .i64 2,.slice a l c])]) (ff [15,16] false) v=[
 Value.int IntKind.i64 (0:Int)=v,
 decide ((↑l:Int)>(4096:Int))=false,
 decide ((↑l:Int)>(0:Int))=false]:=by kernel_rfl
theorem rl6 (k:Int) (a:Option Addr) (l c:Nat) (v:Value):endsV EN0 62 100 (entE EN0 62 [.v (.agg #[.int .i64 k,.slice a l c])]) (ff (List.range 20) true) v=[
 Value.int IntKind.i64 (2:Int)=v,
 true=true,
 true=true,
 true=true,
 true=true,
 true=true,
 true=true,
 true=true,
 decide (k<(0:Int))=true,
 decide (k<(0:Int))=true,
 decide (k<(0:Int))=true,
 decide (k<(0:Int))=true]:=by kernel_rfl
theorem rl7 (k:Int) (a:Option Addr) (l c:Nat) (v:Value):endsV EN0 62 100 (entE EN0 62 [.v (.agg #[.int .i64 k,.slice a l c])]) (ff [0,1,2,3] false++ff (List.range 20) true) v=[
 Value.int IntKind.i64 (2:Int)=v,
 true=true,
 decide (k>(2:Int))=true,
 decide (k>(2:Int))=true,
 decide (k>(2:Int))=true,
 decide (k>(2:Int))=true,
 decide (k>(2:Int))=true,
 decide (k>(2:Int))=true,
 decide (k<(0:Int))=false,
 decide (k<(0:Int))=false,
 decide (k<(0:Int))=false,
 decide (k<(0:Int))=false]:=by kernel_rfl
def verB (v:Int):Bool:=decide (1≤v / 1048576∧v / 1048576≤1099511627776∧1≤v % 1048576)
def isPS:PS:=fun args=>match args with | [.int .u64 v]=>some (.bool (verB v),0≤v∧v<18446744073709551616) | _=>none
def leafN (k:Int) (l:Nat):Int:=if k=1 then (if l≤4096 then 0 else 13) else if (k=0∨k=2)∧l=0 then 0 else 2
def lchkPS:PS:=fun args=>match args with | [.agg x]=>(match x.toList with | [.int .i64 k,.slice _ l _]=>some (.int .i64 (leafN k l),True) | _=>none) | _=>none
def entN (p:ByteArray) (v k:Int) (l:Nat):Int:=bif userB p then bif verB v then leafN k l else 2 else 23
def echkPS:PS:=fun args=>match args with | [.agg x]=>(match x.toList with | [.string p,.int .u64 v,.int .i64 k,.slice _ l _]=>some (.int .i64 (entN p v k l),p.size≤1000000000∧0≤v∧v<18446744073709551616) | _=>none) | _=>none
def partsPS:PS:=fun args=>match args with | [.int .u64 v]=>some (.tuple #[.int .u64 (v / 1048576),.int .u64 (v % 1048576),.bool (verB v)],0≤v∧v<18446744073709551616) | _=>none
def goodPS:PS:=fun args=>match args with | [.string p]=>some (.bool (goodB p),p.size≤1000000000) | _=>none
noncomputable def EUr:Env:=EP [(89,goodPS)] []
theorem ur0 (p:ByteArray) (v:Value):endsV EUr 60 300 (entE EUr 60 [.v (.string p)]) (ff [1,2,3,4,5,6] false) v=[
 Value.bool false=v,
 goodB p=false,
 goodB p=false,
 goodB p=false,
 goodB p=false,
 p.size.le (1000000000:Nat)]:=by kernel_rfl
theorem ur1 (p:ByteArray) (v:Value):endsV EUr 60 300 (entE EUr 60 [.v (.string p)]) (ff [1,2,4,5,6] true) v=[
 (Value.bool !(↑(p.data.getD (0:Nat) (0:UInt8)).toNat:Int)==(126:Int))=v,
 goodB p=true,
 goodB p=true,
 inRange (0:Int) p.size=true,
 goodB p=true,
 goodB p=true,
 p.size.le (1000000000:Nat)]:=by kernel_rfl
noncomputable def EEc:Env:=EP [(63,userPS),(64,isPS),(65,lchkPS)] []
noncomputable def EEr:Env:=EP [(60,userPS),(61,partsPS),(62,lchkPS)] []
theorem ec0 (p:ByteArray) (x k:Int) (a:Option Addr) (l c:Nat) (v:Value):endsV EEc 38 300 (entE EEc 38 [.v (.agg #[.string p,.int .u64 x,.int .i64 k,.slice a l c])]) (ff [1] true) v=[
 Value.int IntKind.i64 (23:Int)=v,
 (!userB p)=true,
 p.size.le (1000000000:Nat)]:=by kernel_rfl
theorem ec1 (p:ByteArray) (x k:Int) (a:Option Addr) (l c:Nat) (v:Value):endsV EEc 38 300 (entE EEc 38 [.v (.agg #[.string p,.int .u64 x,.int .i64 k,.slice a l c])]) (ff [1] false++ff [3] true) v=[
 Value.int IntKind.i64 (2:Int)=v,
 (!verB x)=true,
 (0:Int)≤x∧x<(18446744073709551616:Int),
 (!userB p)=false,
 p.size.le (1000000000:Nat)]:=by kernel_rfl
theorem ec2 (p:ByteArray) (x k:Int) (a:Option Addr) (l c:Nat) (v:Value):endsV EEc 38 300 (entE EEc 38 [.v (.agg #[.string p,.int .u64 x,.int .i64 k,.slice a l c])]) (ff [1] false++ff [3] false) v=[
 Value.int IntKind.i64 (leafN k l)=v,
 True,
 (!verB x)=false,
 (0:Int)≤x∧x<(18446744073709551616:Int),
 (!userB p)=false,
 p.size.le (1000000000:Nat)]:=by kernel_rfl
theorem er0 (p:ByteArray) (x k:Int) (a:Option Addr) (l c:Nat) (v:Value):endsV EEr 35 300 (entE EEr 35 [.v (.agg #[.string p,.int .u64 x,.int .i64 k,.slice a l c])]) (ff [1] true) v=[
 Value.int IntKind.i64 (23:Int)=v,
 (!userB p)=true,
 p.size.le (1000000000:Nat)]:=by kernel_rfl
theorem er1 (p:ByteArray) (x k:Int) (a:Option Addr) (l c:Nat) (v:Value):endsV EEr 35 300 (entE EEr 35 [.v (.agg #[.string p,.int .u64 x,.int .i64 k,.slice a l c])]) (ff [1] false++ff [3] true) v=[
 Value.int IntKind.i64 (2:Int)=v,
 (!verB x)=true,
 (0:Int)≤x∧x<(18446744073709551616:Int),
 (!userB p)=false,
 p.size.le (1000000000:Nat)]:=by kernel_rfl
theorem er2 (p:ByteArray) (x k:Int) (a:Option Addr) (l c:Nat) (v:Value):endsV EEr 35 300 (entE EEr 35 [.v (.agg #[.string p,.int .u64 x,.int .i64 k,.slice a l c])]) (ff [1] false++ff [3] false) v=[
 Value.int IntKind.i64 (leafN k l)=v,
 True,
 (!verB x)=false,
 (0:Int)≤x∧x<(18446744073709551616:Int),
 (!userB p)=false,
 p.size.le (1000000000:Nat)]:=by kernel_rfl
theorem noZ_iff (s:ByteArray):noZ s<0↔∀ b∈s.data.toList,b≠0:=by
 have key:∀ l:List UInt8,(Lib.indexByte l 0=-1∧∀ b∈l,b≠0)∨(0≤Lib.indexByte l 0∧¬ ∀ b∈l,b≠0):=by
  intro l
  induction l with
  | nil=>exact .inl ⟨rfl,fun b h=>by cases h⟩
  | cons x l ih=>
   unfold Lib.indexByte
   by_cases hx:x=0
   ·subst hx
    exact .inr ⟨by simp,fun h=>h 0 List.mem_cons_self rfl⟩
   ·have hx':(x==0)=false:=beq_eq_false_iff_ne.2 hx
    rw [hx']
    rcases ih with ⟨h1,h2⟩ | ⟨h1,h2⟩
    ·rw [h1]
     exact .inl ⟨rfl,fun b hb=>by rcases List.mem_cons.1 hb with rfl | hb;exact hx;exact h2 b hb⟩
    ·refine .inr ⟨?_,fun h=>h2 fun b hb=>h b (List.mem_cons_of_mem _ hb)⟩
     have:(Lib.indexByte l 0==-1)=false:=beq_eq_false_iff_ne.2 (by omega)
     rw [this];simp only [Bool.false_eq_true,if_false];omega
 rcases key s.data.toList with ⟨h1,h2⟩ | ⟨h1,h2⟩
 ·unfold noZ;rw [h1];exact ⟨fun _=>h2,fun _=>by decide⟩
 ·unfold noZ;exact ⟨fun h=>by omega,fun h=>absurd h h2⟩
section
variable {w0:World} {cs0:List Frame} {R:Ending→World→Prop} {s:ByteArray}
theorem loopQ (hs:s.size≤1000000000) (hR:∀ w',Below w0.heap.size w0 w'→R (.returned (.bool (partB s))) w'):∀ (j i:Nat),i+j=s.size→(∀ b∈s.data.toList.take i,b≠0)→
  Goes EN0 (layOwn [] []) w0 cs0 104 R (layVal []) (SM.at (hdQ s i) 6 [])
 | 0,i,hj,hz=>by
  have go:∀ {o v},Due (endsV EN0 104 60 (SM.at (hdQ s i) 6 []) o v)→v=.bool (partB s)→Goes EN0 (layOwn [] []) w0 cs0 104 R (layVal []) (SM.at (hdQ s i) 6 []):=fun hd e=>
   goes_due KN0 not_laid hd fun w' hw=>by rw [e];exact hR _ hw
  have hl:s.data.toList.length=s.size:=by simp
  rw [List.take_of_length_le (by omega)] at hz
  have hnz:=(noZ_iff s).2 hz
  have t1:decide ((i:Int)<(s.size:Int))=false:=decide_eq_false (by omega)
  by_cases h0:s.data.toList=[]
  ·have hz0:s.size=0:=by rw [← hl,h0];rfl
   have t2:decide ((s.size:Int)≥1)=false:=decide_eq_false (by omega)
   refine go (o:=ff (List.range 20) false) (v:=.bool false) ⟨?_⟩ (by simp [partB,h0])
   rw [q3];simp only [Owed,t1,t2,and_self]
  have hz1:1≤s.size:=by
   rw [← hl];exact List.length_pos_iff.2 h0
  have t2:decide ((s.size:Int)≥1)=true:=decide_eq_true (by omega)
  by_cases h24:s.size≤24
  ·have t3:decide ((s.size:Int)≤24)=true:=decide_eq_true (by omega)
   by_cases h1:s.data.toList=[46]
   ·have t4:(s.toList==(⟨#[46]⟩:ByteArray).toList)=true:=by rw [tlB,tlB];simp [h1]
    refine go (o:=ff [0] false++ff [1,2,3,4,5,6,7] true++ff (List.range 20) false) (v:=.bool false) ⟨?_⟩ (by simp [partB,h1])
    rw [q5];simp only [Owed,t1,t2,t3,t4,Bool.not_true,and_self]
   ·have t4:(s.toList==(⟨#[46]⟩:ByteArray).toList)=false:=by rw [tlB,tlB];exact beq_eq_false_iff_ne.2 h1
    refine go (o:=ff [0] false++ff (List.range 20) true) (v:=.bool (!(s.toList==(⟨#[46,46]⟩:ByteArray).toList))) ⟨?_⟩ ?_
    ·rw [q6];simp only [Owed,t1,t2,t3,t4,Bool.not_false,and_self]
    ·congr 1
     rw [tlB,tlB]
     by_cases h2:s.data.toList=[46,46]
     ·simp [partB,h2]
     ·have:(s.data.toList==(⟨#[46,46]⟩:ByteArray).data.toList)=false:=beq_eq_false_iff_ne.2 h2
      rw [this]
      simp [partB,h0,h1,h2,h24,hnz]
  ·have t3:decide ((s.size:Int)≤24)=false:=decide_eq_false (by omega)
   refine go (o:=ff [0] false++ff [1,2,3,4] true++ff (List.range 20) false) (v:=.bool false) ⟨?_⟩ (by simp [partB,h24])
   rw [q4];simp only [Owed,t1,t2,t3,and_self]
 | j+1,i,hj,hz=>by
  have hi:i<s.size:=by omega
  have t1:decide ((i:Int)<(s.size:Int))=true:=decide_eq_true (by omega)
  have r1:=in_range hi
  have ws:=wrap_succ (k:=i) (by omega)
  have ht:=take_snocD s hi
  by_cases hb:s.data.getD i 0=0
  ·have t2:(((s.data.getD i 0).toNat:Int)==0)=true:=by rw [hb];rfl
   refine goes_due KN0 not_laid (n:=60) (o:=ff [0,2] true) (v:=.bool false) ⟨?_⟩ fun w' hw=>?_
   ·rw [q2];simp only [Owed,Int.toNat_natCast,t1,r1,t2,and_self]
   ·have hn:¬ noZ s<0:=fun h=>(noZ_iff s).1 h 0 (by
     have h5:s.data.getD i 0∈s.data.toList.take (i+1):=by rw [ht];simp
     rw [hb] at h5
     exact List.mem_of_mem_take h5) rfl
    have:partB s=false:=by unfold partB;rw [decide_eq_false hn,Bool.and_false]
    rw [← this];exact hR _ hw
  ·have t2:(((s.data.getD i 0).toNat:Int)==0)=false:=beq_eq_false_iff_ne.2 fun h=>hb (UInt8.toNat_inj.1 (show (s.data.getD i 0).toNat=0 by omega))
   refine Goes.reach KN0 (k:=2) (n:=60) (o:=ff [0] true++ff [2] false) (ren:=[]) (eqs:=[]) ?_ (by kernel_rfl) (fun i b h=>no_name h) (l:=[]) (loopQ hs hR j (i+1) (by omega) fun b hb'=>by
    rw [ht] at hb'
    rcases List.mem_append.1 hb' with h | h
    ·exact hz b h
    ·rw [List.mem_singleton.1 h];exact hb)
   rw [q1];simp only [Owed,Int.toNat_natCast,t1,r1,t2,ws,and_self]
end
theorem rpart_ok:PureOK Tryz.prog (fun _=>True) (104,partPS):=by
 refine .mk ⟨_,Tryz.func104,by kernel_rfl,by kernel_rfl⟩ fun args v p h hp w hX=>?_
 dsimp only [partPS] at h
 split at h
 ·rename_i s
  cases h
  refine calls_bareR (E:=EN0) (R:=fun e w'=>Below w.heap.size w w'∧e=.returned (.bool (partB s))) rfl rfl (args:=[.v (.string s)]) (a:=[.string s]) (S0:=entE EN0 104 [.v (.string s)]) (by kernel_rfl) (VRL.cons (VR.v_iff.2 rfl) VRL.nil) fun cs0=>?_
  refine Goes.reach KN0 (k:=2) (n:=60) (o:=[(1000,.b true)]) (ren:=[]) (eqs:=[]) (F:=hdQ s 0) (d:=6) (l:=[]) ?_ (by kernel_rfl) (fun i b h=>no_name h) (loopQ hp (fun w' hw=>⟨hw,rfl⟩) s.size 0 (by omega) fun b hb=>by simp at hb)
  rw [q0];simp only [Owed,and_self]
 ·cases h
theorem chkF_iff:∀ (n:Nat) (p:ByteArray),chkF n p=true↔(partsL p.data.toList).length≤n∧∀ s∈partsL p.data.toList,partB (mk s)=true
 | 0,p=>by
  refine ⟨fun h=>by simp [chkF] at h,fun ⟨h,_⟩=>?_⟩
  exact absurd (List.length_eq_zero_iff.1 (Nat.le_zero.1 h)) (partsL_ne _)
 | n+1,p=>by
  have e:partsL p.data.toList=(cA p).data.toList::(if cM p=true then partsL (cB p).data.toList else []):=partsL_cut _
  rw [e]
  have eA:mk (cA p).data.toList=cA p:=mk_of _
  unfold chkF
  cases hm:cM p
  ·simp [eA]
  ·have ih:=chkF_iff n (cB p)
   simp only [Bool.not_true,Bool.false_or,Bool.and_eq_true,ih,if_true,List.length_cons,Nat.add_le_add_iff_right,List.mem_cons,forall_eq_or_imp,eA]
   constructor
   ·rintro ⟨h1,h2,h3⟩;exact ⟨h2,h1,h3⟩
   ·rintro ⟨h2,h1,h3⟩;exact ⟨h1,h2,h3⟩
theorem KGd {M:Own} {w0:World}:Facts EGd M w0:=
 Facts.of' (Checked.mixed Tryz.checked) (by kernel_rfl) (ExtOK.of extL rfl extRows) (SumsOK.list (X:=fun _=>True) (l:=lGd) rfl (fun r hr=>by
  simp only [lGd,List.mem_cons,List.not_mem_nil,or_false] at hr
  rcases hr with rfl | rfl
  ·exact rcut_ok
  ·exact SumOK.pure (r:=(104,partPS)) rpart_ok) fun ν s w hr _=>trivial) (fun f g h=>by cases h)
section
variable {w0:World} {cs0:List Frame} {R:Ending→World→Prop} {p:ByteArray} {xs:List (List UInt8)}
theorem loopGd (h96:p.size≤96) (hx:xs=partsL p.data.toList) (hR:∀ w',Below w0.heap.size w0 w'→R (.returned (.bool (goodB p))) w'):∀ (j i:Nat),i+j=xs.length→(∀ s∈xs.take i,partB (mk s)=true)→
  Goes EGd (layOwn [] []) w0 cs0 89 R (layVal []) (SM.at (hdGd xs.length i) 6 (many (cP xs)))
 | 0,i,hj,hz=>by
  rw [List.take_of_length_le (by omega)] at hz
  refine goes_due KGd not_laid (n:=60) (o:=ff [0] false) (v:=.bool (decide ((xs.length:Int)≤6))) ⟨?_⟩ fun w' hw=>?_
  ·rw [gd4];simp only [Owed,true_and,and_true];exact decide_eq_false (by omega)
  ·have:goodB p=decide ((xs.length:Int)≤6):=by
    unfold goodB
    rw [decide_eq_true h96,Bool.true_and]
    by_cases hl:xs.length≤6
    ·rw [decide_eq_true (by omega:(xs.length:Int)≤6)]
     exact (chkF_iff 6 p).2 ⟨by rw [← hx];exact hl,fun s hs=>hz s (by rw [hx];exact hs)⟩
    ·rw [decide_eq_false (by omega:¬ (xs.length:Int)≤6)]
     rw [Bool.eq_false_iff];intro h
     have:=((chkF_iff 6 p).1 h).1
     rw [← hx] at this;exact hl this
   rw [← this];exact hR _ hw
 | j+1,i,hj,hz=>by
  have hi:i<xs.length:=by omega
  have t1:decide ((i:Int)<(xs.length:Int))=true:=decide_eq_true (by omega)
  have r1:=in_range hi
  have hlen:=partsL_len p.data.toList
  have hll:p.data.toList.length=p.size:=by simp
  have ws:=wrap_succ (k:=i) (by rw [hx] at hi;omega)
  have g1:(cP xs)[0+i*1]?=some (.v (.string (mk xs[i]))):=by simp [cP,hi]
  have hmem:xs[i]∈partsL p.data.toList:=by rw [← hx];exact List.getElem_mem hi
  have z1:(mk xs[i]).size≤1000000000:=by
   have:=hlen.2 _ hmem
   show xs[i].length≤_
   omega
  cases hb:partB (mk xs[i])
  ·refine goes_due KGd not_laid (n:=60) (o:=(ff [0] true++[(2,.cells [.v (.string (mk xs[i]))])]++ff [4] true)) (v:=.bool false) ⟨?_⟩ fun w' hw=>?_
   ·rw [gd3];simp only [Owed,Int.toNat_natCast,t1,r1,g1,hb,Bool.not_false,true_and,and_true];exact z1
   ·have:goodB p=false:=by
     unfold goodB
     rw [decide_eq_true h96,Bool.true_and,Bool.eq_false_iff]
     intro h
     have:=((chkF_iff 6 p).1 h).2 _ hmem
     rw [hb] at this;cases this
    rw [← this];exact hR _ hw
  ·refine Goes.reach KGd (k:=2) (n:=60) (o:=(ff [0] true++[(2,.cells [.v (.string (mk xs[i]))])]++ff [4] false)) (ren:=[(0,0)]) (eqs:=[0]) ?_ (by kernel_rfl) (fun i b h=>no_name h) (loopGd h96 hx hR j (i+1) (by omega) fun s hs=>by
    rw [List.take_succ_eq_append_getElem hi] at hs
    rcases List.mem_append.1 hs with h | h
    ·exact hz s h
    ·rw [List.mem_singleton.1 h];exact hb)
   rw [gd2];simp only [Owed,Int.toNat_natCast,t1,r1,g1,hb,ws,cP_closed,Bool.not_true,and_self,true_and,and_true];exact z1
end
theorem rgood_ok:PureOK Tryz.prog (fun _=>True) (89,goodPS):=by
 refine .mk ⟨_,Tryz.func89,by kernel_rfl,by kernel_rfl⟩ fun args v p h hp w hX=>?_
 dsimp only [goodPS] at h
 split at h
 ·rename_i p
  cases h
  refine calls_bareR (E:=EGd) (R:=fun e w'=>Below w.heap.size w w'∧e=.returned (.bool (goodB p))) rfl rfl (args:=[.v (.string p)]) (a:=[.string p]) (S0:=entE EGd 89 [.v (.string p)]) (by kernel_rfl) (VRL.cons (VR.v_iff.2 rfl) VRL.nil) fun cs0=>?_
  by_cases h96:p.size≤96
  ·refine Goes.reach KGd (k:=2) (n:=60) (o:=ff [0] false) (ren:=[(0,0)]) (eqs:=[0]) (F:=hdGd (partsL p.data.toList).length 0) (d:=6) (l:=many (cP (partsL p.data.toList))) ?_ (by kernel_rfl) (fun i b h=>no_name h) (loopGd h96 rfl (fun w' hw=>⟨hw,rfl⟩) (partsL p.data.toList).length 0 (by omega) fun s hs=>by simp at hs)
   have e1:∀ l:List (List UInt8),List.map SV.v (vP l)=cP l:=fun l=>by simp [vP,cP]
   rw [gd1]
   simp only [Owed,e1,cP_closed,and_self,and_true,true_and]
   exact ⟨decide_eq_false (by omega),hp⟩
  ·refine goes_due KGd not_laid (n:=60) (o:=ff [0] true) (v:=.bool false) ⟨?_⟩ fun w' hw=>⟨hw,by simp [goodB,h96]⟩
   rw [gd0];simp only [Owed,true_and,and_true];exact decide_eq_true (by omega)
 ·cases h
theorem KUr {M:Own} {w0:World}:Facts EUr M w0:=factsP0 fun r h=>by rw [List.mem_singleton.1 h];exact rgood_ok
theorem ruser_ok:PureOK Tryz.prog (fun _=>True) (60,userPS):=by
 refine .mk ⟨_,Tryz.func60,by kernel_rfl,by kernel_rfl⟩ fun args v p h hp w hX=>?_
 dsimp only [userPS] at h
 split at h
 ·rename_i p
  cases h
  have go:∀ {o v},Due (endsV EUr 60 300 (entE EUr 60 [.v (.string p)]) o v)→v=.bool (userB p)→Calls Tryz.prog 60 #[.string p] w fun e w'=>Below w.heap.size w w'∧e=.returned (.bool (userB p)):=fun h e=>
   e ▸ calls_endsV (E:=EUr) (args:=[.v (.string p)]) rfl rfl KUr (by kernel_rfl) (VRL.cons (VR.v_iff.2 rfl) VRL.nil) h
  cases hg:goodB p
  ·refine go (o:=ff [1,2,3,4,5,6] false) (v:=.bool false) ⟨?_⟩ (by simp [userB,checkN,hg])
   rw [ur0];simp only [Owed,hg,and_self,true_and,and_true];exact hp
  ·have hs:=checkN_ne p (by simp [checkN,hg])
   have hr:inRange 0 p.size=true:=by unfold inRange;exact decide_eq_true (by omega)
   have hc:(((p.data.getD 0 0).toNat:Int)==126)=(p.data.getD 0 0==126):=by
    by_cases e:p.data.getD 0 0=126
    ·rw [e];rfl
    ·have:¬ ((p.data.getD 0 0).toNat:Int)=126:=fun h=>e (UInt8.toNat_inj.1 (show (p.data.getD 0 0).toNat=126 by omega))
     rw [beq_eq_false_iff_ne.2 e,beq_eq_false_iff_ne.2 this]
   refine go (o:=ff [1,2,4,5,6] true) (v:=.bool (!(((p.data.getD 0 0).toNat:Int)==126))) ⟨?_⟩ (by rw [hc];simp [userB,checkN,hg])
   rw [ur1];simp only [Owed,hg,hr,and_self,true_and,and_true];exact hp
 ·cases h
theorem fdiv20 {n:Nat}:((n:Int)).fdiv ((2:Int) ^ (20:Nat))=((n / 1048576:Nat):Int):=by
 rw [Int.fdiv_eq_ediv_of_nonneg _ (by decide)];rfl
theorem u64i {x:Int} (h:0≤x∧x<18446744073709551616):IntKind.u64.wrap x=x:=IntWalk.u64_in _ (by omega)
theorem bvN (n:Nat):BitVec.ofInt 64 (n:Int)=BitVec.ofNat 64 n:=BitVec.ofInt_natCast 64 n
theorem and20 {n:Nat} (h:n<18446744073709551616):IntKind.u64.wrap (((BitVec.ofInt 64 (n:Int) &&& BitVec.ofInt 64 1048575).toNat:Nat):Int)=((n % 1048576:Nat):Int):=by
 have e:(BitVec.ofInt 64 (n:Int) &&& BitVec.ofInt 64 1048575).toNat=n % 1048576:=by
  rw [bvN,show BitVec.ofInt 64 1048575=BitVec.ofNat 64 1048575 from rfl,BitVec.toNat_and,BitVec.toNat_ofNat,BitVec.toNat_ofNat,Nat.mod_eq_of_lt (by omega:n<2 ^ 64)]
  exact Nat.and_two_pow_sub_one_eq_mod n 20
 rw [e];exact u64i (by omega)
theorem or20 {n:Nat} (h:n<18446744073709551616):IntKind.u64.wrap (((BitVec.ofInt 64 (IntKind.u64.wrap (((n / 1048576:Nat):Int)*(2:Int) ^ (20:Nat))) ||| BitVec.ofInt 64 ((n % 1048576:Nat):Int)).toNat:Nat):Int)=(n:Int):=by
 have e1:IntKind.u64.wrap (((n / 1048576:Nat):Int)*(2:Int) ^ (20:Nat))=((n / 1048576*1048576:Nat):Int):=by
  have:(((n / 1048576:Nat):Int)*(2:Int) ^ (20:Nat))=((n / 1048576*1048576:Nat):Int):=by
   rw [show ((2:Int) ^ (20:Nat))=((1048576:Nat):Int) from rfl];omega
  rw [this];exact u64i (by omega)
 rw [e1,bvN,bvN]
 have e2:(BitVec.ofNat 64 (n / 1048576*1048576) ||| BitVec.ofNat 64 (n % 1048576)).toNat=n:=by
  rw [BitVec.toNat_or,BitVec.toNat_ofNat,BitVec.toNat_ofNat,Nat.mod_eq_of_lt (by omega:n / 1048576*1048576<2 ^ 64),Nat.mod_eq_of_lt (by omega:n % 1048576<2 ^ 64)]
  have h1:=Nat.shiftLeft_add_eq_or_of_lt (b:=n % 1048576) (i:=20) (by omega) (n / 1048576)
  rw [Nat.shiftLeft_eq] at h1
  rw [show (2:Nat) ^ 20=1048576 from rfl] at h1
  omega
 rw [e2];exact u64i (by omega)
theorem is_ok:PureOK Tryz.prog (fun _=>True) (64,isPS):=by
 refine .mk ⟨_,Tryz.func64,by kernel_rfl,by kernel_rfl⟩ fun args v p h hp w hX=>?_
 dsimp only [isPS] at h
 split at h
 ·rename_i v
  cases h
  have go:∀ {o x},Due (endsV EN0 64 100 (entE EN0 64 [.v (.int .u64 v)]) o x)→x=.bool (verB v)→Calls Tryz.prog 64 #[.int .u64 v] w fun e w'=>Below w.heap.size w w'∧e=.returned (.bool (verB v)):=fun h e=>
   e ▸ calls_endsV (E:=EN0) (args:=[.v (.int .u64 v)]) (a:=[.int .u64 v]) rfl rfl KN0 (by kernel_rfl) (VRL.cons (VR.v_iff.2 rfl) VRL.nil) h
  obtain ⟨hp1,hp2⟩:=hp
  obtain ⟨n,rfl⟩:=Int.eq_ofNat_of_zero_le hp1
  have hn:n<18446744073709551616:=by omega
  by_cases h1:((n / 1048576:Nat):Int)<1
  ·refine go (o:=ff (List.range 10) true++ff (List.range 20) false) (x:=.bool false) ⟨?_⟩ (by congr 1;symm;exact decide_eq_false (by omega))
   rw [is0];simp only [Owed,fdiv20,decide_eq_true h1,and_self]
  by_cases h2:((n / 1048576:Nat):Int)>1099511627776
  ·refine go (o:=ff [0,1,2] false++ff (List.range 10) true++ff (List.range 20) false) (x:=.bool false) ⟨?_⟩ (by congr 1;symm;exact decide_eq_false (by omega))
   rw [is1];simp only [Owed,fdiv20,decide_eq_false h1,decide_eq_true h2,and_self]
  by_cases h3:((n % 1048576:Nat):Int)<1
  ·refine go (o:=ff [0,1,2,3,4,5] false++ff (List.range 10) true++ff (List.range 20) false) (x:=.bool false) ⟨?_⟩ (by congr 1;symm;exact decide_eq_false (by omega))
   rw [is2];simp only [Owed,fdiv20,and20 hn,decide_eq_false h1,decide_eq_false h2,decide_eq_true h3,and_self]
  ·have h4:¬ ((n % 1048576:Nat):Int)>1048575:=by omega
   refine go (o:=ff [0,1,2,3,4,5,6,7,8,9] false++ff (List.range 20) true) (x:=.bool true) ⟨?_⟩ (by congr 1;symm;exact decide_eq_true (by omega))
   rw [is3];simp only [Owed,fdiv20,and20 hn,or20 hn,decide_eq_false h1,decide_eq_false h2,decide_eq_false h3,decide_eq_false h4,beq_self_eq_true,and_self]
 ·cases h
theorem rparts_ok:PureOK Tryz.prog (fun _=>True) (61,partsPS):=by
 refine .mk ⟨_,Tryz.func61,by kernel_rfl,by kernel_rfl⟩ fun args v p h hp w hX=>?_
 dsimp only [partsPS] at h
 split at h
 ·rename_i v
  cases h
  have go:∀ {o x},Due (endsV EN0 61 100 (entE EN0 61 [.v (.int .u64 v)]) o x)→x=.tuple #[.int .u64 (v / 1048576),.int .u64 (v % 1048576),.bool (verB v)]→Calls Tryz.prog 61 #[.int .u64 v] w fun e w'=>Below w.heap.size w w'∧e=.returned (.tuple #[.int .u64 (v / 1048576),.int .u64 (v % 1048576),.bool (verB v)]):=fun h e=>
   e ▸ calls_endsV (E:=EN0) (args:=[.v (.int .u64 v)]) (a:=[.int .u64 v]) rfl rfl KN0 (by kernel_rfl) (VRL.cons (VR.v_iff.2 rfl) VRL.nil) h
  obtain ⟨hp1,hp2⟩:=hp
  have e1:IntKind.u64.wrap (v.tdiv 1048576)=v / 1048576:=by rw [Int.tdiv_eq_ediv_of_nonneg hp1];exact u64i (by omega)
  have e2:v.tmod 1048576=v % 1048576:=Int.tmod_eq_emod_of_nonneg hp1
  by_cases h1:v / 1048576≥1
  ·by_cases h2:v / 1048576≤1099511627776
   ·refine go (o:=ff (List.range 20) true) (x:=.tuple #[.int .u64 (v / 1048576),.int .u64 (v % 1048576),.bool (decide (v % 1048576≥1))]) ⟨?_⟩ ?_
    ·rw [pa2];simp only [Owed,e1,e2,decide_eq_true h1,decide_eq_true h2,and_self]
    ·have:verB v=decide (v % 1048576≥1):=by
      unfold verB
      by_cases h3:v % 1048576≥1
      ·rw [decide_eq_true h3];exact decide_eq_true ⟨h1,h2,h3⟩
      ·rw [decide_eq_false h3];exact decide_eq_false fun ⟨_,_,h⟩=>h3 h
     rw [this]
   ·have:verB v=false:=decide_eq_false fun ⟨_,h,_⟩=>h2 h
    refine go (o:=ff [0,1,2] true++ff (List.range 20) false) (x:=.tuple #[.int .u64 (v / 1048576),.int .u64 (v % 1048576),.bool false]) ⟨?_⟩ (by rw [this])
    rw [pa1];simp only [Owed,e1,e2,decide_eq_true h1,decide_eq_false h2,and_self]
  ·have:verB v=false:=decide_eq_false fun ⟨h,_,_⟩=>h1 h
   refine go (o:=ff (List.range 20) false) (x:=.tuple #[.int .u64 (v / 1048576),.int .u64 (v % 1048576),.bool false]) ⟨?_⟩ (by rw [this])
   rw [pa0];simp only [Owed,e1,e2,decide_eq_false h1,and_self]
 ·cases h
theorem lchk_ok:PureOK Tryz.prog (fun _=>True) (65,lchkPS):=by
 refine .mk ⟨_,Tryz.func65,by kernel_rfl,by kernel_rfl⟩ fun args v p h hp w hX=>?_
 dsimp only [lchkPS] at h
 split at h
 ·rename_i x
  split at h
  ·rename_i k a l c hx
   cases h
   obtain rfl:x=#[.int .i64 k,.slice a l c]:=by cases x;simpa using hx
   have go:∀ {o v},Due (endsV EN0 65 100 (entE EN0 65 [.v (.agg #[.int .i64 k,.slice a l c])]) o v)→v=.int .i64 (leafN k l)→Calls Tryz.prog 65 #[.agg #[.int .i64 k,.slice a l c]] w fun e w'=>Below w.heap.size w w'∧e=.returned (.int .i64 (leafN k l)):=fun h e=>
    e ▸ calls_endsV (E:=EN0) (args:=[.v (.agg #[.int .i64 k,.slice a l c])]) (a:=[.agg #[.int .i64 k,.slice a l c]]) rfl rfl KN0 (by kernel_rfl) (VRL.cons (VR.v_iff.2 rfl) VRL.nil) h
   by_cases k1:k=1
   ·subst k1
    by_cases hl:l≤4096
    ·exact go (o:=ff [1] true) (v:=.int .i64 0) ⟨by rw [lc0 0];simp only [Owed,true_and,and_true];exact decide_eq_true (by omega)⟩ (by simp [leafN,hl])
    ·exact go (o:=ff [1] false) (v:=.int .i64 13) ⟨by rw [lc1 0];simp only [Owed,true_and,and_true];exact decide_eq_false (by omega)⟩ (by simp [leafN,hl])
   by_cases k0:k=0
   ·subst k0
    by_cases hl:l=0
    ·exact go (o:=ff [3] true) (v:=.int .i64 0) ⟨by rw [lc2 0];simp only [Owed,true_and,and_true];exact decide_eq_true (by omega)⟩ (by simp [leafN,hl])
    ·exact go (o:=ff [3] false) (v:=.int .i64 2) ⟨by rw [lc3 0];simp only [Owed,true_and,and_true];exact decide_eq_false (by omega)⟩ (by simp [leafN,hl])
   by_cases k2:k=2
   ·subst k2
    by_cases hl:l=0
    ·exact go (o:=ff [3] true) (v:=.int .i64 0) ⟨by rw [lc4 0];simp only [Owed,true_and,and_true];exact decide_eq_true (by omega)⟩ (by simp [leafN,hl])
    ·exact go (o:=ff [3] false) (v:=.int .i64 2) ⟨by rw [lc5 0];simp only [Owed,true_and,and_true];exact decide_eq_false (by omega)⟩ (by simp [leafN,hl])
   ·exact go (o:=ff (List.range 20) false) (v:=.int .i64 2) ⟨by rw [lc6];simp only [Owed,true_and,and_true];exact ⟨⟨beq_eq_false_iff_ne.2 k1,beq_eq_false_iff_ne.2 k0⟩,beq_eq_false_iff_ne.2 k2⟩⟩ (by simp [leafN,k0,k1,k2])
  ·cases h
 ·cases h
theorem rlchk_ok:PureOK Tryz.prog (fun _=>True) (62,lchkPS):=by
 refine .mk ⟨_,Tryz.func62,by kernel_rfl,by kernel_rfl⟩ fun args v p h hp w hX=>?_
 dsimp only [lchkPS] at h
 split at h
 ·rename_i x
  split at h
  ·rename_i k a l c hx
   cases h
   obtain rfl:x=#[.int .i64 k,.slice a l c]:=by cases x;simpa using hx
   have go:∀ {o v},Due (endsV EN0 62 100 (entE EN0 62 [.v (.agg #[.int .i64 k,.slice a l c])]) o v)→v=.int .i64 (leafN k l)→Calls Tryz.prog 62 #[.agg #[.int .i64 k,.slice a l c]] w fun e w'=>Below w.heap.size w w'∧e=.returned (.int .i64 (leafN k l)):=fun h e=>
    e ▸ calls_endsV (E:=EN0) (args:=[.v (.agg #[.int .i64 k,.slice a l c])]) (a:=[.agg #[.int .i64 k,.slice a l c]]) rfl rfl KN0 (by kernel_rfl) (VRL.cons (VR.v_iff.2 rfl) VRL.nil) h
   by_cases k1:k=1
   ·subst k1
    by_cases hl:l≤4096
    ·exact go (o:=ff [16] false) (v:=.int .i64 0) ⟨by rw [rl1];simp only [Owed,true_and,and_true];exact decide_eq_false (by omega)⟩ (by simp [leafN,hl])
    ·exact go (o:=ff [16] true) (v:=.int .i64 13) ⟨by rw [rl0];simp only [Owed,true_and,and_true];exact decide_eq_true (by omega)⟩ (by simp [leafN,hl])
   by_cases k0:k=0
   ·subst k0
    by_cases hl:l=0
    ·exact go (o:=ff [15,16] false) (v:=.int .i64 0) ⟨by rw [rl3];simp only [Owed,true_and,and_true];exact ⟨decide_eq_false (by omega),decide_eq_false (by omega)⟩⟩ (by simp [leafN,hl])
    ·exact go (o:=ff [15] true) (v:=.int .i64 2) ⟨by rw [rl2];simp only [Owed,true_and,and_true];exact decide_eq_true (by omega)⟩ (by simp [leafN,hl])
   by_cases k2:k=2
   ·subst k2
    by_cases hl:l=0
    ·exact go (o:=ff [15,16] false) (v:=.int .i64 0) ⟨by rw [rl5];simp only [Owed,true_and,and_true];exact ⟨decide_eq_false (by omega),decide_eq_false (by omega)⟩⟩ (by simp [leafN,hl])
    ·exact go (o:=ff [15] true) (v:=.int .i64 2) ⟨by rw [rl4];simp only [Owed,true_and,and_true];exact decide_eq_true (by omega)⟩ (by simp [leafN,hl])
   by_cases kn:k<0
   ·exact go (o:=ff (List.range 20) true) (v:=.int .i64 2) ⟨by rw [rl6];simp only [Owed,decide_eq_true kn,and_self]⟩ (by simp [leafN,k0,k1,k2])
   ·have kg:k>2:=by omega
    exact go (o:=ff [0,1,2,3] false++ff (List.range 20) true) (v:=.int .i64 2) ⟨by rw [rl7];simp only [Owed,decide_eq_false kn,decide_eq_true kg,and_self]⟩ (by simp [leafN,k0,k1,k2])
  ·cases h
 ·cases h
theorem KEc {w0:World} (h:MX w0):Facts EEc (layOwn [] []) w0:=factsP (X:=MX) (fun r hr=>by
 simp only [List.mem_cons,List.not_mem_nil,or_false] at hr
 rcases hr with rfl | rfl | rfl
 ·exact user_ok
 ·exact ⟨is_ok.1,fun args v p e hp w _=>is_ok.2 args v p e hp w trivial⟩
 ·exact ⟨lchk_ok.1,fun args v p e hp w _=>lchk_ok.2 args v p e hp w trivial⟩) fun ν s w hr _=>h.keep fun k hk=>hr.frame k hk (not_laid k)
theorem KEr {M:Own} {w0:World}:Facts EEr M w0:=factsP0 fun r hr=>by
 simp only [List.mem_cons,List.not_mem_nil,or_false] at hr
 rcases hr with rfl | rfl | rfl
 ·exact ruser_ok
 ·exact rparts_ok
 ·exact rlchk_ok
theorem echk_ok:PureOK Tryz.prog MX (38,echkPS):=by
 refine .mk ⟨_,Tryz.func38,by kernel_rfl,by kernel_rfl⟩ fun args v q h hp w hX=>?_
 dsimp only [echkPS] at h
 split at h
 ·rename_i y
  split at h
  ·rename_i p x k a l c hy
   cases h
   obtain rfl:y=#[.string p,.int .u64 x,.int .i64 k,.slice a l c]:=by cases y;simpa using hy
   have go:∀ {o v},Due (endsV EEc 38 300 (entE EEc 38 [.v (.agg #[.string p,.int .u64 x,.int .i64 k,.slice a l c])]) o v)→v=.int .i64 (entN p x k l)→Calls Tryz.prog 38 #[.agg #[.string p,.int .u64 x,.int .i64 k,.slice a l c]] w fun e w'=>Below w.heap.size w w'∧e=.returned (.int .i64 (entN p x k l)):=fun h e=>
    e ▸ calls_endsV (E:=EEc) (args:=[.v (.agg #[.string p,.int .u64 x,.int .i64 k,.slice a l c])]) (a:=[.agg #[.string p,.int .u64 x,.int .i64 k,.slice a l c]]) rfl rfl (KEc hX) (by kernel_rfl) (VRL.cons (VR.v_iff.2 rfl) VRL.nil) h
   obtain ⟨h1,h2⟩:=hp
   have h1':p.size.le 1000000000:=h1
   cases hu:userB p
   ·exact go (o:=ff [1] true) (v:=.int .i64 23) ⟨by rw [ec0];simp only [Owed,hu,h1',Bool.not_false,and_self]⟩ (by simp [entN,hu])
   ·cases hv:verB x
    ·exact go (o:=ff [1] false++ff [3] true) (v:=.int .i64 2) ⟨by rw [ec1];simp only [Owed,hu,hv,h1',h2,Bool.not_false,Bool.not_true,and_self]⟩ (by simp [entN,hu,hv])
    ·exact go (o:=ff [1] false++ff [3] false) (v:=.int .i64 (leafN k l)) ⟨by rw [ec2];simp only [Owed,hu,hv,h1',h2,Bool.not_true,and_self]⟩ (by simp [entN,hu,hv])
  ·cases h
 ·cases h
theorem rechk_ok:PureOK Tryz.prog (fun _=>True) (35,echkPS):=by
 refine .mk ⟨_,Tryz.func35,by kernel_rfl,by kernel_rfl⟩ fun args v q h hp w hX=>?_
 dsimp only [echkPS] at h
 split at h
 ·rename_i y
  split at h
  ·rename_i p x k a l c hy
   cases h
   obtain rfl:y=#[.string p,.int .u64 x,.int .i64 k,.slice a l c]:=by cases y;simpa using hy
   have go:∀ {o v},Due (endsV EEr 35 300 (entE EEr 35 [.v (.agg #[.string p,.int .u64 x,.int .i64 k,.slice a l c])]) o v)→v=.int .i64 (entN p x k l)→Calls Tryz.prog 35 #[.agg #[.string p,.int .u64 x,.int .i64 k,.slice a l c]] w fun e w'=>Below w.heap.size w w'∧e=.returned (.int .i64 (entN p x k l)):=fun h e=>
    e ▸ calls_endsV (E:=EEr) (args:=[.v (.agg #[.string p,.int .u64 x,.int .i64 k,.slice a l c])]) (a:=[.agg #[.string p,.int .u64 x,.int .i64 k,.slice a l c]]) rfl rfl KEr (by kernel_rfl) (VRL.cons (VR.v_iff.2 rfl) VRL.nil) h
   obtain ⟨h1,h2⟩:=hp
   have h1':p.size.le 1000000000:=h1
   cases hu:userB p
   ·exact go (o:=ff [1] true) (v:=.int .i64 23) ⟨by rw [er0];simp only [Owed,hu,h1',Bool.not_false,and_self]⟩ (by simp [entN,hu])
   ·cases hv:verB x
    ·exact go (o:=ff [1] false++ff [3] true) (v:=.int .i64 2) ⟨by rw [er1];simp only [Owed,hu,hv,h1',h2,Bool.not_false,Bool.not_true,and_self]⟩ (by simp [entN,hu,hv])
    ·exact go (o:=ff [1] false++ff [3] false) (v:=.int .i64 (leafN k l)) ⟨by rw [er2];simp only [Owed,hu,hv,h1',h2,Bool.not_true,and_self]⟩ (by simp [entN,hu,hv])
  ·cases h
 ·cases h
structure EntT where
 p:ByteArray
 v:Int
 k:Int
 a:Option Addr
 l:Nat
 c:Nat
def eC (e:EntT):List SV:=[.v (.string e.p),.v (.int .u64 e.v),.v (.int .i64 e.k),.v (.slice e.a e.l e.c)]
def eV (e:EntT):List Value:=[.string e.p,.int .u64 e.v,.int .i64 e.k,.slice e.a e.l e.c]
def rowsE (l:List SV):Option (SO × Bool):=some (.row l 46 (0,0) (some 4),true)
def zeroE:List SV:=[.v (.string ⟨#[]⟩),.v (.int .u64 0),.v (.int .i64 0),.v (.slice none 0 0)]
noncomputable def entGt (l:List SV) (n c:Nat) (s:Int) (p:ByteArray):SM:=(enterS EN0 29 [.agg [.v (.int .u64 s),.sl 0 0 n (some c)],.v (.string p)] (memOf 6 1 0 [lookE l])).getD noSM
where lookE (l:List SV):Option (SO × Bool):=some (.look l,false)
noncomputable def todoGt:List SI:=todoL EN0 2 60 (entGt [] 0 0 0 ⟨#[]⟩) [(1000,.b true)]
noncomputable def hdGt (p:ByteArray) (i:Int):SF:={ fn:=29,tm:=tmOf 28 6 ([.junk,.v (.string p),.ptr 1 0,.junk,.ptr 2 0,.v (.int .i64 i)]++List.replicate 22 .junk),todo:=todoGt,defers:=[],ret:=false,kind:=.normal,ro:=none }
def objG (l:List SV) (n c:Nat) (s:Int):List (Option (SO × Bool)):=[some (.look l,false),some (.row [.v (.int .u64 s),.sl 0 0 n (some c)] 30 (0,0) none,true),some (.row zeroE 46 (0,0) none,true)]
theorem gt0 (l : List SV) (n c : Nat) (s : Int) (p : ByteArray) : reach EN0 2 60 (entGt l n c s p) [(1000, .b true)] [(0, 0), (1, 1), (2, 2)] [0] (hdGt p 0) 6 (objG l n c s) = [
  Value.string p = Value.string p,
  (0 : Nat) = (0 : Nat),
  (0 : Nat) = (0 : Nat),
  Value.int IntKind.i64 (0 : Int) = Value.int IntKind.i64 (0 : Int),
  l = l,
  l.all closedSV = true,
  Value.int IntKind.u64 s = Value.int IntKind.u64 s,
  (0 : Nat) = (0 : Nat) ∧ n = n ∧ some c = some c,
  Value.string { data := { toList := [] : Array UInt8 } : ByteArray } =
   Value.string { data := { toList := [] : Array UInt8 } : ByteArray },
  Value.int IntKind.u64 (0 : Int) = Value.int IntKind.u64 (0 : Int),
  Value.int IntKind.i64 (0 : Int) = Value.int IntKind.i64 (0 : Int),
  Value.slice none (0 : Nat) (0 : Nat) = Value.slice none (0 : Nat) (0 : Nat)] := by kernel_rfl
theorem gt1 (l : List SV) (n c : Nat) (s : Int) (p q : ByteArray) (i i' : Int) : reach EN0 2 60 (SM.at (hdGt p i) 6 (objG l n c s)) (ff [0] true ++ [(2, .cells [.v (.string q)])] ++ ff [3] false) [(0, 0), (1, 1), (2, 2)] [0] (hdGt p i') 6 (objG l n c s) = [
  Value.string p = Value.string p,
  (0 : Nat) = (0 : Nat),
  (0 : Nat) = (0 : Nat),
  Value.int IntKind.i64 (IntKind.i64.wrap (i + (1 : Int))) = Value.int IntKind.i64 i',
  l = l,
  l.all closedSV = true,
  Value.int IntKind.u64 s = Value.int IntKind.u64 s,
  (0 : Nat) = (0 : Nat) ∧ n = n ∧ some c = some c,
  Value.string { data := { toList := [] : Array UInt8 } : ByteArray } =
   Value.string { data := { toList := [] : Array UInt8 } : ByteArray },
  Value.int IntKind.u64 (0 : Int) = Value.int IntKind.u64 (0 : Int),
  Value.int IntKind.i64 (0 : Int) = Value.int IntKind.i64 (0 : Int),
  Value.slice none (0 : Nat) (0 : Nat) = Value.slice none (0 : Nat) (0 : Nat),
  (q.toList == p.toList) = false,
  l[(0 : Nat) + i.toNat * (4 : Nat) + (0 : Nat)]? = some (SV.v (Value.string q)),
  inRange i n = true,
  decide (i < (↑n : Int)) = true] := by kernel_rfl
theorem gt2 (l : List SV) (n c : Nat) (s : Int) (p q : ByteArray) (i : Int) (e : EntT) (v : Value) : endsV EN0 29 60 (SM.at (hdGt p i) 6 (objG l n c s)) (ff [0] true ++ [(2, .cells [.v (.string q)])] ++ ff [3] true ++ [(5, .cells (eC e))]) v = [
  Value.agg
   { toList := [Value.string e.1, Value.int IntKind.u64 e.2, Value.int IntKind.i64 e.3, Value.slice e.4 e.5 e.6] :
   Array Value } =
   v,
  List.take (4 : Nat) (List.drop ((0 : Nat) + i.toNat * (4 : Nat)) l) = eC e ∧ (eC e).length = (4 : Nat),
  inRange i n = true,
  (q.toList == p.toList) = true,
  l[(0 : Nat) + i.toNat * (4 : Nat) + (0 : Nat)]? = some (SV.v (Value.string q)),
  inRange i n = true,
  decide (i < (↑n : Int)) = true] := by kernel_rfl
theorem gt3 (l : List SV) (n c : Nat) (s : Int) (p : ByteArray) (i : Int) (v : Value) : endsV EN0 29 60 (SM.at (hdGt p i) 6 (objG l n c s)) (ff [0] false) v = [
  Value.agg
   {
   toList :=
   [Value.string p, Value.int IntKind.u64 (0 : Int), Value.int IntKind.i64 (0 : Int),
   Value.slice none (0 : Nat) (0 : Nat)] :
   Array Value } =
   v,
  decide (i < (↑n : Int)) = false] := by kernel_rfl
noncomputable def entWo (l:List SV) (n c:Nat) (p:ByteArray):SM:=(enterS EN0 36 [.sl 0 0 n (some c),.v (.string p)] (memOf 6 1 0 [lookL l])).getD noSM
where lookL (l:List SV):Option (SO × Bool):=some (.look l,false)
noncomputable def todoWo:List SI:=todoL EN0 2 60 (entWo [] 0 0 ⟨#[]⟩) [(1000,.b true)]
noncomputable def hdWo (n c:Nat) (p:ByteArray) (x:SV) (i:Int):SF:={ fn:=36,tm:=tmOf 28 6 ([.sl 0 0 n (some c),.v (.string p),.junk,.junk,.junk,x,.v (.int .i64 i)]++List.replicate 21 .junk),todo:=todoWo,defers:=[],ret:=false,kind:=.normal,ro:=none }
def lkE (l:List SV):Option (SO × Bool):=some (.look l,false)
def nilE:SV:=.v (.slice none 0 0)
theorem wo0 (l:List SV) (n c:Nat) (p:ByteArray):reach EN0 2 60 (entWo l n c p) [(1000,.b true)] [(0,0)] [0] (hdWo n c p nilE 0) 6 [lkE l]=[
 (0:Nat)=(0:Nat)∧n=n∧some c=some c,
 Value.string p=Value.string p,
 Value.slice none (0:Nat) (0:Nat)=Value.slice none (0:Nat) (0:Nat),
 Value.int IntKind.i64 (0:Int)=Value.int IntKind.i64 (0:Int),
 l=l,
 l.all closedSV=true]:=by kernel_rfl
theorem wo1 (l:List SV) (n c:Nat) (p q:ByteArray) (i i':Int):reach EN0 2 60 (SM.at (hdWo n c p nilE i) 6 [lkE l]) (ff [0] true++[(2,.cells [.v (.string q)])]++ff [3] false) [(0,0)] [0] (hdWo n c p nilE i') 6 [lkE l]=[
 (0:Nat)=(0:Nat)∧n=n∧some c=some c,
 Value.string p=Value.string p,
 Value.slice none (0:Nat) (0:Nat)=Value.slice none (0:Nat) (0:Nat),
 Value.int IntKind.i64 (IntKind.i64.wrap (i+(1:Int)))=Value.int IntKind.i64 i',
 l=l,
 l.all closedSV=true,
 (!q.toList==p.toList)=false,
 l[(0:Nat)+i.toNat*(4:Nat)+(0:Nat)]?=some (SV.v (Value.string q)),
 inRange i n=true,
 decide (i<(↑n:Int))=true]:=by kernel_rfl
theorem wo2 (l l' : List SV) (n c : Nat) (p q : ByteArray) (i i' : Int) (e : EntT) : reach EN0 2 60 (SM.at (hdWo n c p nilE i) 6 [lkE l]) (ff [0] true ++ [(2, .cells [.v (.string q)])] ++ ff [3] true ++ [(5, .cells (eC e))]) [(0, 0), (1, 2)] [0, 1] (hdWo n c p (.sl 1 0 1 none) i') 6 [lkE l, rowsE l'] = [
  (0 : Nat) = (0 : Nat) ∧ n = n ∧ some c = some c,
  Value.string p = Value.string p,
  (0 : Nat) = (0 : Nat) ∧ (1 : Nat) = (1 : Nat) ∧ (none : Option Nat) = none,
  Value.int IntKind.i64 (IntKind.i64.wrap (i + (1 : Int))) = Value.int IntKind.i64 i',
  l = l,
  l.all closedSV = true,
  [] ++
   List.take (4 : Nat)
   (List.drop (0 : Nat)
   (splice
   (List.replicate (1 : Nat)
   (List.map SV.v
   {
   toList :=
   [Value.string { data := { toList := [] : Array UInt8 } : ByteArray },
   Value.int IntKind.u64 (0 : Int), Value.int IntKind.i64 (0 : Int),
   Value.slice none (0 : Nat) (0 : Nat)] :
   Array Value }.toList)).flatten
   (0 : Nat) (eC e))) =
   l',
  l'.all closedSV = true,
  List.take (4 : Nat) (List.drop ((0 : Nat) + i.toNat * (4 : Nat)) l) = eC e ∧ (eC e).length = (4 : Nat),
  inRange i n = true,
  (!q.toList == p.toList) = true,
  l[(0 : Nat) + i.toNat * (4 : Nat) + (0 : Nat)]? = some (SV.v (Value.string q)),
  inRange i n = true,
  decide (i < (↑n : Int)) = true] := by kernel_rfl
theorem wo3 (l m:List SV) (n c k:Nat) (p q:ByteArray) (i i':Int):reach EN0 2 60 (SM.at (hdWo n c p (.sl 1 0 k none) i) 6 [lkE l,rowsE m]) (ff [0] true++[(2,.cells [.v (.string q)])]++ff [3] false) [(0,0),(1,1)] [0,1] (hdWo n c p (.sl 1 0 k none) i') 6 [lkE l,rowsE m]=[
 (0:Nat)=(0:Nat)∧n=n∧some c=some c,
 Value.string p=Value.string p,
 (0:Nat)=(0:Nat)∧k=k∧(none:Option Nat)=none,
 Value.int IntKind.i64 (IntKind.i64.wrap (i+(1:Int)))=Value.int IntKind.i64 i',
 l=l,
 l.all closedSV=true,
 m=m,
 m.all closedSV=true,
 (!q.toList==p.toList)=false,
 l[(0:Nat)+i.toNat*(4:Nat)+(0:Nat)]?=some (SV.v (Value.string q)),
 inRange i n=true,
 decide (i<(↑n:Int))=true]:=by kernel_rfl
theorem wo4 (l m l' w : List SV) (n c k : Nat) (p q : ByteArray) (i i' : Int) (e : EntT) : reach EN0 2 60 (SM.at (hdWo n c p (.sl 1 0 k none) i) 6 [lkE l, rowsE m]) (ff [0] true ++ [(2, .cells [.v (.string q)])] ++ ff [3] true ++ [(5, .cells (eC e)), (6, .app m w)]) [(0, 0), (1, 3)] [0, 1] (hdWo n c p (.sl 1 0 (k + 1) none) i') 6 [lkE l, rowsE l'] = [
  (0 : Nat) = (0 : Nat) ∧ n = n ∧ some c = some c,
  Value.string p = Value.string p,
  (0 : Nat) = (0 : Nat) ∧ k + (1 : Nat) = k + (1 : Nat) ∧ (none : Option Nat) = none,
  Value.int IntKind.i64 (IntKind.i64.wrap (i + (1 : Int))) = Value.int IntKind.i64 i',
  l = l,
  l.all closedSV = true,
  m ++ w = l',
  l'.all closedSV = true,
  ((List.take (4 : Nat)
   (List.drop (0 : Nat)
   (splice
   (List.replicate (1 : Nat)
   (List.map SV.v
   {
   toList :=
   [Value.string { data := { toList := [] : Array UInt8 } : ByteArray },
   Value.int IntKind.u64 (0 : Int), Value.int IntKind.i64 (0 : Int),
   Value.slice none (0 : Nat) (0 : Nat)] :
   Array Value }.toList)).flatten
   (0 : Nat) (eC e))) =
   w ∧
   w.length = (1 : Nat) * (4 : Nat)) ∧
   (1 : Nat) ≠ (0 : Nat) ∧ ((2 : Nat) * (k + (1 : Nat)) + (1024 : Nat)) * (56 : Nat) ≤ (140737488355328 : Nat)) ∧
   List.take (k * (4 : Nat)) m = m ∧ m.length = k * (4 : Nat) ∧ w.all SV.flat = true,
  List.take (4 : Nat) (List.drop ((0 : Nat) + i.toNat * (4 : Nat)) l) = eC e ∧ (eC e).length = (4 : Nat),
  inRange i n = true,
  (!q.toList == p.toList) = true,
  l[(0 : Nat) + i.toNat * (4 : Nat) + (0 : Nat)]? = some (SV.v (Value.string q)),
  inRange i n = true,
  decide (i < (↑n : Int)) = true] := by kernel_rfl
theorem wo5 (l:List SV) (n c:Nat) (p:ByteArray) (i:Int) (v:Value):endsV EN0 36 60 (SM.at (hdWo n c p nilE i) 6 [lkE l]) (ff [0] false) v=[
 Value.slice none (0:Nat) (0:Nat)=v,
 decide (i<(↑n:Int))=false]:=by kernel_rfl
theorem wo6 (l m:List SV) (n c k:Nat) (p:ByteArray) (i:Int):endsO EN0 36 60 (SM.at (hdWo n c p (.sl 1 0 k none) i) 6 [lkE l,rowsE m]) (ff [0] false) (.sl 1 0 k none) 1 (.row m 46 (0,0) (some 4))=[
 (0:Nat)=(0:Nat)∧k=k∧(none:Option Nat)=none,
 m=m,
 m.all closedSV=true,
 decide (i<(↑n:Int))=false]:=by kernel_rfl
def cE (l:List EntT):List SV:=l.flatMap eC
def vE (l:List EntT):List Value:=l.flatMap eV
theorem eC_len (e:EntT):(eC e).length=4:=rfl
theorem eC_closed (e:EntT):(eC e).all closedSV=true:=rfl
theorem cE_app (a b:List EntT):cE (a++b)=cE a++cE b:=by simp [cE]
theorem cE_one (e:EntT):cE [e]=eC e:=by simp [cE]
theorem cE_len:∀ a:List EntT,(cE a).length=a.length*4
 | []=>rfl
 | e::a=>by
  have:=cE_len a
  show (eC e++cE a).length=_
  rw [List.length_append,this,eC_len,List.length_cons];omega
theorem cE_closed (a:List EntT):(cE a).all closedSV=true:=by
 rw [List.all_eq_true];intro x hx
 obtain ⟨r,_,hx⟩:=List.mem_flatMap.1 hx
 exact List.all_eq_true.1 (eC_closed r) x hx
theorem cE_flat (a:List EntT):(cE a).all SV.flat=true:=by
 rw [List.all_eq_true];intro x hx
 obtain ⟨r,_,hx⟩:=List.mem_flatMap.1 hx
 exact List.all_eq_true.1 (show (eC r).all SV.flat=true from rfl) x hx
theorem cE_map:∀ l:List EntT,(vE l).map SV.v=cE l
 | []=>rfl
 | r::l=>by
  show (eV r++vE l).map SV.v=eC r++cE l
  rw [List.map_append,cE_map l];rfl
theorem plain_sol {ν:Val}:∀ {a:List Value} {u v:List Value},VRL ν (a.map SV.v) u→VRL ν (a.map SV.v) v→u=v
 | [],u,v,hu,hv=>by rw [VRL.nil_inv hu,VRL.nil_inv hv]
 | z::a,u,v,hu,hv=>by
  obtain ⟨p,ps,rfl,q1,q2⟩:=VRL.cons_inv (x:=.v z) (xs:=a.map SV.v) hu
  obtain ⟨p',ps',rfl,q3,q4⟩:=VRL.cons_inv (x:=.v z) (xs:=a.map SV.v) hv
  rw [VR.v_iff.1 q1,VR.v_iff.1 q3,plain_sol q2 q4]
theorem cE_val {ν:Val} {l:List EntT} {zs:List Value} (h:VRL ν (cE l) zs):zs=vE l:=by
 rw [← cE_map] at h
 exact plain_sol h (VRL.lits ν (vE l))
theorem cE_at {xs:List EntT} {k:Nat} {x:EntT} (h:xs[k]?=some x):List.take 4 (List.drop (0+k*4) (cE xs))=eC x:=by
 rw [Nat.zero_add];exact flatMap_at eC_len h
theorem cE_cell0 {xs:List EntT} {k:Nat} {x:EntT} (h:xs[k]?=some x):(cE xs)[0+k*4+0]?=some (.v (.string x.p)):=by
 have h2:(List.take 4 (List.drop (0+k*4) (cE xs)))[0]?=(eC x)[0]?:=by rw [cE_at h]
 rw [List.getElem?_take,if_pos (by decide),List.getElem?_drop] at h2
 exact h2
def decE (l:List SV):EntT:=match l with
 | [.v (.string p),.v (.int _ v),.v (.int _ k),.v (.slice a l c)]=>⟨p,v,k,a,l,c⟩
 | _=>⟨⟨#[]⟩,0,0,none,0,0⟩
theorem decE_eC (e:EntT):decE (eC e)=e:=rfl
def entsOf (ys:List SV) (n:Nat):List EntT:=decL decE 4 n ys
theorem entsOf_cE (l:List EntT):entsOf (cE l) l.length=l:=decL_flat eC_len decE_eC l
structure HoldsE (ys:List SV) (n:Nat) (l:List EntT):Prop where
 cells:ys=cE l
 len:n=l.length
 few:n≤1000
def isE (p:ByteArray) (e:EntT):Bool:=e.p.data.toList==p.data.toList
def findE (p:ByteArray) (l:List EntT):EntT:=(l.find? (isE p)).getD ⟨p,0,0,none,0,0⟩
def dropE (p:ByteArray) (l:List EntT):List EntT:=l.filter fun e=>!isE p e
theorem row_look1 {ν:Val} {i:Nat} {ys:List SV} {e:TypeId} {fz:Nat × Nat} {x:Option Nat} {ob:Obj} (h:OR ν i (.row ys e fz x) ob):OR ν i (.look ys) ob:=by
 obtain ⟨zs,rest,rfl,hz,_⟩:=h
 exact ⟨zs,_,_,_,rfl,hz,fun k y hk=>by simpa using getElem?_append_left' hk⟩
theorem look_closed1 {ν ν':Val} {i j:Nat} {ys:List SV} {ob:Obj} (hy:ys.all closedSV=true) (h:OR ν i (.look ys) ob):OR ν' j (.look ys) ob:=by
 obtain ⟨zs,c,e,fz,rfl,hz,hc⟩:=h
 exact ⟨zs,c,e,fz,rfl,closed_VRL hy hz,hc⟩
theorem calls_row {E:Env} {P:Program} (hP:E.P=P) (hG:E.G=[]) {f:FuncId} {ν:Val} {M:Own} {w0 w:World} {sh:SH} (hr:HR ν M w0 sh w) {i:Nat} {ys:List SV} {e:TypeId} {fz:Nat × Nat} {x:Option Nat} {mk:Bool} (hl:sh.look i=some (.row ys e fz x,mk)) (hy:ys.all closedSV=true)
  {a:List Value} {args':Nat→List SV} {S0:Nat→SM} {R:Ending→World→Prop} (hloc:∀ b,ν i=some b→VRL (layVal [b]) (args' b.2) a) (hS0:∀ c,enterS E f (args' c) (memOf 6 1 0 [some (.look ys,false)])=some (S0 c))
  (hs:∀ b cs0,Goes E (layOwn [b] [(.look ys,false)]) w cs0 f R (layVal [b]) (S0 b.2)):Calls P f a.toArray w R:=by
 obtain ⟨_,_,b,ob,hb,ho,hor,_⟩:=hr.look hl
 refine calls_readR (E:=E) hP (d:=6) (l:=[b]) (os:=[.look ys]) rfl (by simp) (by simp) ?_ hG (hS0 b.2) (hloc b hb) fun cs0=>hs b cs0
 intro j o' b' c' h1 h2
 match j with
 | 0=>
  simp only [List.getElem?_cons_zero,Option.some.injEq] at h1 h2
  subst h1
  subst h2
  exact ⟨_,ho,look_closed1 hy (row_look1 hor)⟩
 | j+1=>simp at h1
theorem lay1' {b:Nat × Nat} {i:Nat} {x:Nat × Nat} (h:layVal [b] i=some x):i=0:=by
 match i with
 | 0=>rfl
 | i+1=>simp [layVal] at h
theorem none1' {b:Nat × Nat} {ys:List SV} (z:Nat):¬ (layOwn [b] [(SO.look ys,false)]) z:=layOwn_none (os:=[_])
section
variable {w0:World} {cs0:List Frame} {R:Ending→World→Prop} {xs:List EntT} {p:ByteArray} {b:Nat × Nat} {c:Nat}
theorem loopGt {s:Int} (hl:xs.length≤1000) (hR:∀ w',Below w0.heap.size w0 w'→R (.returned (.agg (eV (findE p xs)).toArray)) w'):∀ (j i:Nat),i+j=xs.length→(∀ e∈xs.take i,isE p e=false)→
  Goes EN0 (layOwn [b] [(.look (cE xs),false)]) w0 cs0 29 R (layVal [b]) (SM.at (hdGt p i) 6 (objG (cE xs) xs.length c s))
 | 0,i,hj,hn=>by
  refine goes_due KN0 none1' (n:=60) (o:=ff [0] false) (v:=.agg #[.string p,.int .u64 0,.int .i64 0,.slice none 0 0]) ⟨?_⟩ fun w' hw=>?_
  ·rw [gt3];simp only [Owed,true_and,and_true];exact decide_eq_false (by omega)
  ·rw [List.take_of_length_le (by omega)] at hn
   have:xs.find? (isE p)=none:=by
    rw [List.find?_eq_none];intro e he;rw [hn e he];simp
   have e2:findE p xs=⟨p,0,0,none,0,0⟩:=by unfold findE;rw [this];rfl
   have:=hR w' hw
   rw [e2] at this;exact this
 | j+1,i,hj,hn=>by
  have hi:i<xs.length:=by omega
  have hxi:xs[i]?=some xs[i]:=List.getElem?_eq_getElem hi
  have t1:decide ((i:Int)<(xs.length:Int))=true:=decide_eq_true (by omega)
  have r1:=in_range hi
  have ws:=wrap_succ (k:=i) (by omega)
  have rc:=cE_cell0 hxi
  have ra:=cE_at hxi
  cases hq:isE p xs[i]
  ·have hq':(xs[i].p.toList==p.toList)=false:=by rw [tlB,tlB];exact hq
   refine Goes.reach KN0 (k:=2) (n:=60) (o:=(ff [0] true++[(2,.cells [.v (.string xs[i].p)])]++ff [3] false)) (ren:=[(0,0),(1,1),(2,2)]) (eqs:=[0]) ?_ (by kernel_rfl) (fun i b h=>by rw [lay1' h];rfl) (l:=objG (cE xs) xs.length c s) (loopGt hl hR j (i+1) (by omega) fun e he=>by
    rw [List.take_succ_eq_append_getElem hi] at he
    rcases List.mem_append.1 he with h | h
    ·exact hn e h
    ·rw [List.mem_singleton.1 h];exact hq)
   rw [gt1]
   simp only [Owed,Int.toNat_natCast,t1,r1,rc,hq',ws,cE_closed,and_self]
  ·have hq':(xs[i].p.toList==p.toList)=true:=by rw [tlB,tlB];exact hq
   refine goes_due KN0 none1' (n:=60) (o:=(ff [0] true++[(2,.cells [.v (.string xs[i].p)])]++ff [3] true++[(5,.cells (eC xs[i]))])) (v:=.agg (eV xs[i]).toArray) ⟨?_⟩ fun w' hw=>?_
   ·rw [gt2]
    simp only [Owed,Int.toNat_natCast,t1,r1,rc,ra,hq',eC_len,and_self,true_and,and_true]
    rfl
   ·have hf:xs.find? (isE p)=some xs[i]:=by
     conv=>lhs;rw [← List.take_append_drop i xs]
     rw [List.find?_append]
     have:(xs.take i).find? (isE p)=none:=by
      rw [List.find?_eq_none];intro e he;rw [hn e he];simp
     rw [this,List.drop_eq_getElem_cons hi,List.find?_cons,hq];rfl
    have e2:findE p xs=xs[i]:=by unfold findE;rw [hf];rfl
    have:=hR w' hw
    rw [e2] at this;exact this
end
def getG:PlG:=fun args sh=>match args with
 | [.agg [.v (.int .u64 s),.sl i 0 n none],.v (.string p)]=>match sh.look i with
  | some (.row ys _ _ _,_)=>some (.agg #[.string (findE p (entsOf ys n)).p,.int .u64 (findE p (entsOf ys n)).v,.int .i64 (findE p (entsOf ys n)).k,.slice (findE p (entsOf ys n)).a (findE p (entsOf ys n)).l (findE p (entsOf ys n)).c],HoldsE ys n (entsOf ys n))
  | _=>none
 | _=>none
theorem get_ok {X:World→Prop}:SumOK Tryz.prog X (29,plSumG getG):=by
 refine plSumG_ok ⟨_,Tryz.func29,by kernel_rfl,by kernel_rfl⟩ fun args sh v q h hp ν M w0 w a hr hX ha=>?_
 dsimp only [getG] at h
 split at h
 ·rename_i s i n p
  split at h
  ·rename_i ys e1 z1 x1 m1 hl
   cases h
   obtain ⟨hc,hn,hfew⟩:=hp
   generalize hE:entsOf ys n=xs at *
   subst hc hn
   obtain ⟨y1,as1,rfl,q1,ha2⟩:=ha.cons_inv
   obtain ⟨y2,as2,rfl,q2,ha3⟩:=ha2.cons_inv
   obtain rfl:=ha3.nil_inv
   obtain rfl:=VR.v_iff.1 q2
   obtain ⟨u,rfl,hu⟩:=VR.agg_iff.1 q1
   obtain ⟨y3,as3,rfl,q3,hu2⟩:=hu.cons_inv
   obtain ⟨y4,as4,rfl,q4,hu3⟩:=hu2.cons_inv
   obtain rfl:=hu3.nil_inv
   obtain rfl:=VR.v_iff.1 q3
   obtain ⟨bb,hbb,hle,rfl⟩:=VR.sl_iff.1 q4
   refine calls_row (E:=EN0) rfl rfl hr hl (cE_closed xs) (args':=fun c=>[.agg [.v (.int .u64 s),.sl 0 0 xs.length (some c)],.v (.string p)]) (S0:=fun c=>entGt (cE xs) xs.length c s p) (fun b hb=>?_) (fun c=>by kernel_rfl) fun b cs0=>?_
   ·rw [hbb] at hb;cases hb
    have hle':xs.length≤bb.2:=hle
    exact VRL.cons (VR.agg_iff.2 ⟨_,rfl,VRL.cons (VR.v_iff.2 rfl) (VRL.cons (VR.sl_iff.2 ⟨bb,rfl,hle',rfl⟩) VRL.nil)⟩) (VRL.cons (VR.v_iff.2 rfl) VRL.nil)
   ·have nx:=loopGt (w0:=w) (cs0:=cs0) (b:=b) (c:=b.2) (p:=p) (s:=s) (xs:=xs) (R:=fun e w'=>Below w.heap.size w w'∧e=.returned (.agg (eV (findE p xs)).toArray)) hfew (fun w' hw=>⟨hw,rfl⟩) xs.length 0 (by omega) fun e he=>by simp at he
    refine Goes.reach KN0 (k:=2) (n:=60) (o:=[(1000,.b true)]) (ren:=[(0,0),(1,1),(2,2)]) (eqs:=[0]) (F:=hdGt p 0) (d:=6) (l:=objG (cE xs) xs.length b.2 s) ?_ (by kernel_rfl) (fun i b h=>by rw [lay1' h];rfl) nx
    rw [gt0]
    simp only [Owed,cE_closed,and_self]
  ·cases h
 ·cases h
theorem dropE_snoc (p:ByteArray) {xs:List EntT} {i:Nat} (h:i<xs.length):dropE p (xs.take (i+1))=dropE p (xs.take i)++(if isE p xs[i]=true then [] else [xs[i]]):=by
 rw [List.take_succ_eq_append_getElem h]
 unfold dropE
 rw [List.filter_append]
 congr 1
 cases hp:isE p xs[i] <;> simp [hp]
theorem dropE_len (p:ByteArray) (xs:List EntT):(dropE p xs).length≤xs.length:=List.length_filter_le _ _
theorem ends_sl {E:Env} {M:Own} {w0:World} {cs0:List Frame} {f:FuncId} {R:Ending→World→Prop} {ν:Val} {n:Nat} {S:SM} {o:List (Nat × Ans)} {m j:Nat} {l:List EntT} (K:Facts E M w0) (hM:∀ z,¬ M z)
  (h:Due (endsO E f n S o (.sl j 0 m none) j (.row (cE l) 46 (0,0) (some 4)))) (hR:∀ w' y,Below w0.heap.size w0 w'→NewSl w0 w' y (vE l) m 4 46→R (.returned y) w'):Goes E M w0 cs0 f R ν S:=
 Goes.endsO K h.out fun ν' w' y b ob hv hb ho hor hw hB=>by
  have hn:w0.heap.size≤b.1:=by
   rcases hw with h | h
   ·exact h
   ·exact absurd h (hM _)
  obtain ⟨_,_,_,_,hB,hr⟩:=hB
  exact hR w' y (below_of hM hB hr) (NewSl.of_row hv hb ho hor hn fun zs hz=>cE_val hz)
def RW (w0:World) (xs:List EntT) (e:Ending) (w':World):Prop:=
 Below w0.heap.size w0 w'∧((xs=[]∧e=.returned (.slice none 0 0))∨(xs≠[]∧∃ y,e=.returned y∧NewSl w0 w' y (vE xs) xs.length 4 46))
section
variable {w0:World} {cs0:List Frame} {xs:List EntT} {p:ByteArray} {b:Nat × Nat} {c:Nat}
theorem loopWo2 (hl:xs.length≤1000):∀ (j i:Nat),i+j=xs.length→dropE p (xs.take i)≠[]→
  Goes EN0 (layOwn [b] [(.look (cE xs),false)]) w0 cs0 36 (RW w0 (dropE p xs)) (layVal [b]) (SM.at (hdWo xs.length c p (.sl 1 0 (dropE p (xs.take i)).length none) i) 6 [lkE (cE xs),rowsE (cE (dropE p (xs.take i)))])
 | 0,i,hj,hne=>by
  rw [List.take_of_length_le (by omega)] at hne ⊢
  refine ends_sl (j:=1) KN0 none1' (n:=60) (o:=ff [0] false) ⟨?_⟩ fun w' y hB hy=>⟨hB,.inr ⟨hne,y,rfl,hy⟩⟩
  rw [wo6]
  simp only [Owed,cE_closed,and_self,and_true,true_and]
  exact decide_eq_false (by omega)
 | j+1,i,hj,hne=>by
  have hi:i<xs.length:=by omega
  have hsn:=dropE_snoc p hi
  have hxi:xs[i]?=some xs[i]:=List.getElem?_eq_getElem hi
  have t1:decide ((i:Int)<(xs.length:Int))=true:=decide_eq_true (by omega)
  have r1:=in_range hi
  have ws:=wrap_succ (k:=i) (by omega)
  have rc:=cE_cell0 hxi
  have ra:=cE_at hxi
  have hbl:(dropE p (xs.take i)).length≤1000:=Nat.le_trans (dropE_len _ _) (by rw [List.length_take];omega)
  cases hq:isE p xs[i]
  ·have hq':(xs[i].p.toList==p.toList)=false:=by rw [tlB,tlB];exact hq
   rw [hq,if_neg (by decide)] at hsn
   have nx:=loopWo2 hl j (i+1) (by omega) (by rw [hsn];simp)
   rw [hsn,List.length_append,show ([xs[i]]:List EntT).length=1 from rfl] at nx
   refine Goes.reach KN0 (k:=2) (n:=60) (o:=(ff [0] true++[(2,.cells [.v (.string xs[i].p)])]++ff [3] true++[(5,.cells (eC xs[i])),(6,.app (cE (dropE p (xs.take i))) (eC xs[i]))])) (ren:=[(0,0),(1,3)]) (eqs:=[0,1]) ?_ (by kernel_rfl) (fun i b h=>by rw [lay1' h];rfl) nx
   rw [wo4]
   simp only [Owed,Int.toNat_natCast,t1,r1,rc,ra,hq',ws,eC_len,cE_closed,cE_flat,cE_app,cE_one,cE_len,List.all_append,Bool.not_false,and_self,and_true,true_and]
   repeat' apply And.intro
   all_goals first | rfl | omega | exact List.take_of_length_le (by rw [cE_len];exact Nat.le_refl _) | exact eC_closed _ | skip
  ·have hq':(xs[i].p.toList==p.toList)=true:=by rw [tlB,tlB];exact hq
   rw [hq,if_pos rfl,List.append_nil] at hsn
   have nx:=loopWo2 hl j (i+1) (by omega) (by rw [hsn];exact hne)
   rw [hsn] at nx
   refine Goes.reach KN0 (k:=2) (n:=60) (o:=(ff [0] true++[(2,.cells [.v (.string xs[i].p)])]++ff [3] false)) (ren:=[(0,0),(1,1)]) (eqs:=[0,1]) ?_ (by kernel_rfl) (fun i b h=>by rw [lay1' h];rfl) nx
   rw [wo3]
   simp only [Owed,Int.toNat_natCast,t1,r1,rc,hq',ws,cE_closed,Bool.not_true,and_self]
theorem loopWo1 (hl:xs.length≤1000):∀ (j i:Nat),i+j=xs.length→dropE p (xs.take i)=[]→
  Goes EN0 (layOwn [b] [(.look (cE xs),false)]) w0 cs0 36 (RW w0 (dropE p xs)) (layVal [b]) (SM.at (hdWo xs.length c p nilE i) 6 [lkE (cE xs)])
 | 0,i,hj,hn=>by
  rw [List.take_of_length_le (by omega)] at hn
  refine goes_due KN0 none1' (n:=60) (o:=ff [0] false) (v:=.slice none 0 0) ⟨?_⟩ fun w' hw=>⟨hw,.inl ⟨hn,rfl⟩⟩
  rw [wo5]
  simp only [Owed,and_self,and_true,true_and]
  exact decide_eq_false (by omega)
 | j+1,i,hj,hn=>by
  have hi:i<xs.length:=by omega
  have hsn:=dropE_snoc p hi
  have hxi:xs[i]?=some xs[i]:=List.getElem?_eq_getElem hi
  have t1:decide ((i:Int)<(xs.length:Int))=true:=decide_eq_true (by omega)
  have r1:=in_range hi
  have ws:=wrap_succ (k:=i) (by omega)
  have rc:=cE_cell0 hxi
  have ra:=cE_at hxi
  cases hq:isE p xs[i]
  ·have hq':(xs[i].p.toList==p.toList)=false:=by rw [tlB,tlB];exact hq
   rw [hq,if_neg (by decide),hn,List.nil_append] at hsn
   have nx:=loopWo2 (w0:=w0) (cs0:=cs0) (b:=b) (c:=c) (p:=p) hl j (i+1) (by omega) (by rw [hsn];simp)
   rw [hsn,show ([xs[i]]:List EntT).length=1 from rfl] at nx
   refine Goes.reach KN0 (k:=2) (n:=60) (o:=(ff [0] true++[(2,.cells [.v (.string xs[i].p)])]++ff [3] true++[(5,.cells (eC xs[i]))])) (ren:=[(0,0),(1,2)]) (eqs:=[0,1]) ?_ (by kernel_rfl) (fun i b h=>by rw [lay1' h];rfl) nx
   rw [wo2]
   simp only [Owed,Int.toNat_natCast,t1,r1,rc,ra,hq',ws,eC_len,cE_closed,cE_one,Bool.not_false,and_self,and_true,true_and]
   repeat' apply And.intro
   all_goals first | rfl | omega | exact eC_closed _ | skip
  ·have hq':(xs[i].p.toList==p.toList)=true:=by rw [tlB,tlB];exact hq
   rw [hq,if_pos rfl,List.append_nil] at hsn
   have nx:=loopWo1 hl j (i+1) (by omega) (by rw [hsn];exact hn)
   refine Goes.reach KN0 (k:=2) (n:=60) (o:=(ff [0] true++[(2,.cells [.v (.string xs[i].p)])]++ff [3] false)) (ren:=[(0,0)]) (eqs:=[0]) ?_ (by kernel_rfl) (fun i b h=>by rw [lay1' h];rfl) nx
   rw [wo1]
   simp only [Owed,Int.toNat_natCast,t1,r1,rc,hq',ws,cE_closed,nilE,Bool.not_true,and_self]
end
def withoutS:SlG:=fun args sh=>match args with
 | [.sl i 0 n none,.v (.string p)]=>match sh.look i with
  | some (.row ys _ _ _,_)=>some (vE (dropE p (entsOf ys n)),(dropE p (entsOf ys n)).length,4,46,none,HoldsE ys n (entsOf ys n)∧dropE p (entsOf ys n)≠[])
  | _=>none
 | _=>none
def withoutN:PlG:=fun args sh=>match args with
 | [.sl i 0 n none,.v (.string p)]=>match sh.look i with
  | some (.row ys _ _ _,_)=>some (.slice none 0 0,HoldsE ys n (entsOf ys n)∧dropE p (entsOf ys n)=[])
  | _=>none
 | _=>none
theorem without_calls {ν:Val} {M:Own} {w0 w:World} {sh:SH} (hr:HR ν M w0 sh w) {i n:Nat} {ys:List SV} {e:TypeId} {fz:Nat × Nat} {x:Option Nat} {mk:Bool} {p:ByteArray} {xs:List EntT} (hl:sh.look i=some (.row ys e fz x,mk)) (h:HoldsE ys n xs) {a:List Value}
  (ha:VRL ν [.sl i 0 n none,.v (.string p)] a):Calls Tryz.prog 36 a.toArray w (RW w (dropE p xs)):=by
 obtain ⟨rfl,rfl,hfew⟩:=h
 obtain ⟨y1,as1,rfl,q1,ha2⟩:=ha.cons_inv
 obtain ⟨y2,as2,rfl,q2,ha3⟩:=ha2.cons_inv
 obtain rfl:=ha3.nil_inv
 obtain rfl:=VR.v_iff.1 q2
 obtain ⟨bb,hbb,hle,rfl⟩:=VR.sl_iff.1 q1
 refine calls_row (E:=EN0) rfl rfl hr hl (cE_closed xs) (args':=fun c=>[.sl 0 0 xs.length (some c),.v (.string p)]) (S0:=fun c=>entWo (cE xs) xs.length c p) (fun b hb=>?_) (fun c=>by kernel_rfl) fun b cs0=>?_
 ·rw [hbb] at hb;cases hb
  have hle':xs.length≤bb.2:=hle
  exact VRL.cons (VR.sl_iff.2 ⟨bb,rfl,hle',rfl⟩) (VRL.cons (VR.v_iff.2 rfl) VRL.nil)
 ·have nx:=loopWo1 (w0:=w) (cs0:=cs0) (b:=b) (c:=b.2) (p:=p) (xs:=xs) hfew xs.length 0 (by omega) rfl
  refine Goes.reach KN0 (k:=2) (n:=60) (o:=[(1000,.b true)]) (ren:=[(0,0)]) (eqs:=[0]) (F:=hdWo xs.length b.2 p nilE 0) (d:=6) (l:=[lkE (cE xs)]) ?_ (by kernel_rfl) (fun i b h=>by rw [lay1' h];rfl) nx
  rw [wo0]
  simp only [Owed,cE_closed,and_self]
theorem without_ok {X:World→Prop}:SumOK Tryz.prog X (36,brSum (slSumG withoutS) (plSumG withoutN)):=by
 refine SumOK.br (slSumG_ok ⟨_,Tryz.func36,by kernel_rfl,by kernel_rfl⟩ fun args sh ys n C elem ex p h hp ν M w0 w a hr hX ha=>?_) (plSumG_ok ⟨_,Tryz.func36,by kernel_rfl,by kernel_rfl⟩ fun args sh v p h hp ν M w0 w a hr hX ha=>?_)
 ·dsimp only [withoutS] at h
  split at h
  ·rename_i i n p
   split at h
   ·rename_i zs e1 z1 x1 m1 hl
    cases h
    refine (without_calls hr hl hp.1 ha).mono fun e w' ⟨hB,h⟩=>⟨hB,?_⟩
    rcases h with ⟨h1,_⟩ | ⟨_,y,h2,h3⟩
    ·exact absurd h1 hp.2
    ·exact ⟨y,h2,h3⟩
   ·cases h
  ·cases h
 ·dsimp only [withoutN] at h
  split at h
  ·rename_i i n p
   split at h
   ·rename_i zs e1 z1 x1 m1 hl
    cases h
    refine (without_calls hr hl hp.1 ha).mono fun e w' ⟨hB,h⟩=>⟨hB,?_⟩
    rcases h with ⟨_,h2⟩ | ⟨h1,_⟩
    ·exact h2
    ·exact absurd hp.2 h1
   ·cases h
  ·cases h
noncomputable def EWi:Env:=EP [(51,cmpPS)] []
noncomputable def entWi (l:List SV) (n c:Nat) (x:EntT):SM:=(enterS EWi 37 [.sl 0 0 n (some c),.v (.agg #[.string x.p,.int .u64 x.v,.int .i64 x.k,.slice x.a x.l x.c])] (memOf 6 1 0 [lkE l])).getD noSM
noncomputable def todoWi:List SI:=todoL EWi 2 60 (entWi [] 0 0 ⟨⟨#[]⟩,0,0,none,0,0⟩) [(1000,.b true)]
noncomputable def hdWi (n c:Nat) (x:SV) (d:Bool) (i:Int):SF:={ fn:=37,tm:=tmOf 45 6 ([.sl 0 0 n (some c),.junk,.junk,.ptr 1 0,.junk,x,.v (.bool d),.v (.int .i64 i)]++List.replicate 37 .junk),todo:=todoWi,defers:=[],ret:=false,kind:=.normal,ro:=none }
def boxE (x:EntT):Option (SO × Bool):=some (.row (eC x) 46 (0,0) none,true)
theorem wi0 (l:List SV) (n c:Nat) (x:EntT):reach EWi 2 60 (entWi l n c x) [(1000,.b true)] [(0,0),(1,1)] [0] (hdWi n c nilE false 0) 6 [lkE l,boxE x]=[
 (0:Nat)=(0:Nat)∧n=n∧some c=some c,
 (0:Nat)=(0:Nat),
 Value.slice none (0:Nat) (0:Nat)=Value.slice none (0:Nat) (0:Nat),
 Value.bool false=Value.bool false,
 Value.int IntKind.i64 (0:Int)=Value.int IntKind.i64 (0:Int),
 l=l,
 l.all closedSV=true,
 Value.string x.1=Value.string x.1,
 Value.int IntKind.u64 x.2=Value.int IntKind.u64 x.2,
 Value.int IntKind.i64 x.3=Value.int IntKind.i64 x.3,
 Value.slice x.4 x.5 x.6=Value.slice x.4 x.5 x.6]:=by kernel_rfl
theorem wi1 (l l' m w w2 : List SV) (n c k : Nat) (x e : EntT) (i i' : Int) : reach EWi 2 100 (SM.at (hdWi n c nilE false i) 6 [lkE l, boxE x]) (ff [0] true ++ [(7, .cells [.v (.string e.p)]), (16, .cells (eC e))] ++ ff [14] false) [(0, 0), (1, 1), (2, 3)] [0, 2] (hdWi n c (.sl 2 0 1 none) false i') 6 [lkE l, boxE x, rowsE l'] = [
  (0 : Nat) = (0 : Nat) ∧ n = n ∧ some c = some c,
  (0 : Nat) = (0 : Nat),
  (0 : Nat) = (0 : Nat) ∧ (1 : Nat) = (1 : Nat) ∧ (none : Option Nat) = none,
  Value.bool false = Value.bool false,
  Value.int IntKind.i64 (IntKind.i64.wrap (i + (1 : Int))) = Value.int IntKind.i64 i',
  l = l,
  l.all closedSV = true,
  Value.string x.1 = Value.string x.1,
  Value.int IntKind.u64 x.2 = Value.int IntKind.u64 x.2,
  Value.int IntKind.i64 x.3 = Value.int IntKind.i64 x.3,
  Value.slice x.4 x.5 x.6 = Value.slice x.4 x.5 x.6,
  [] ++
   List.take (4 : Nat)
   (List.drop (0 : Nat)
   (splice
   (List.replicate (1 : Nat)
   (List.map SV.v
   {
   toList :=
   [Value.string { data := { toList := [] : Array UInt8 } : ByteArray },
   Value.int IntKind.u64 (0 : Int), Value.int IntKind.i64 (0 : Int),
   Value.slice none (0 : Nat) (0 : Nat)] :
   Array Value }.toList)).flatten
   (0 : Nat) (eC e))) =
   l',
  l'.all closedSV = true,
  List.take (4 : Nat) (List.drop ((0 : Nat) + i.toNat * (4 : Nat)) l) = eC e ∧ (eC e).length = (4 : Nat),
  inRange i n = true,
  decide (cmpN e.1 x.1 > (0 : Int)) = false,
  e.1.size ≤ (1000000000 : Nat) ∧ x.1.size ≤ (1000000000 : Nat),
  l[(0 : Nat) + i.toNat * (4 : Nat) + (0 : Nat)]? = some (SV.v (Value.string e.1)),
  inRange i n = true,
  decide (i < (↑n : Int)) = true] := by kernel_rfl
theorem wi2 (l l' m w w2 : List SV) (n c k : Nat) (x e : EntT) (i i' : Int) : reach EWi 2 100 (SM.at (hdWi n c (.sl 2 0 k none) false i) 6 [lkE l, boxE x, rowsE m]) (ff [0] true ++ [(7, .cells [.v (.string e.p)]), (16, .cells (eC e)), (17, .app m w)] ++ ff [14] false) [(0, 0), (1, 1), (2, 4)] [0, 2] (hdWi n c (.sl 2 0 (k + 1) none) false i') 6 [lkE l, boxE x, rowsE l'] = [
  (0 : Nat) = (0 : Nat) ∧ n = n ∧ some c = some c,
  (0 : Nat) = (0 : Nat),
  (0 : Nat) = (0 : Nat) ∧ k + (1 : Nat) = k + (1 : Nat) ∧ (none : Option Nat) = none,
  Value.bool false = Value.bool false,
  Value.int IntKind.i64 (IntKind.i64.wrap (i + (1 : Int))) = Value.int IntKind.i64 i',
  l = l,
  l.all closedSV = true,
  Value.string x.1 = Value.string x.1,
  Value.int IntKind.u64 x.2 = Value.int IntKind.u64 x.2,
  Value.int IntKind.i64 x.3 = Value.int IntKind.i64 x.3,
  Value.slice x.4 x.5 x.6 = Value.slice x.4 x.5 x.6,
  m ++ w = l',
  l'.all closedSV = true,
  ((List.take (4 : Nat)
   (List.drop (0 : Nat)
   (splice
   (List.replicate (1 : Nat)
   (List.map SV.v
   {
   toList :=
   [Value.string { data := { toList := [] : Array UInt8 } : ByteArray },
   Value.int IntKind.u64 (0 : Int), Value.int IntKind.i64 (0 : Int),
   Value.slice none (0 : Nat) (0 : Nat)] :
   Array Value }.toList)).flatten
   (0 : Nat) (eC e))) =
   w ∧
   w.length = (1 : Nat) * (4 : Nat)) ∧
   (1 : Nat) ≠ (0 : Nat) ∧ ((2 : Nat) * (k + (1 : Nat)) + (1024 : Nat)) * (56 : Nat) ≤ (140737488355328 : Nat)) ∧
   List.take (k * (4 : Nat)) m = m ∧ m.length = k * (4 : Nat) ∧ w.all SV.flat = true,
  List.take (4 : Nat) (List.drop ((0 : Nat) + i.toNat * (4 : Nat)) l) = eC e ∧ (eC e).length = (4 : Nat),
  inRange i n = true,
  decide (cmpN e.1 x.1 > (0 : Int)) = false,
  e.1.size ≤ (1000000000 : Nat) ∧ x.1.size ≤ (1000000000 : Nat),
  l[(0 : Nat) + i.toNat * (4 : Nat) + (0 : Nat)]? = some (SV.v (Value.string e.1)),
  inRange i n = true,
  decide (i < (↑n : Int)) = true] := by kernel_rfl
theorem wi3 (l l' m w w2 : List SV) (n c k : Nat) (x e : EntT) (i i' : Int) : reach EWi 2 100 (SM.at (hdWi n c nilE false i) 6 [lkE l, boxE x]) (ff [0] true ++ [(7, .cells [.v (.string e.p)])] ++ ff [14] true ++ [(17, .cells (eC e))]) [(0, 0), (1, 1), (2, 5)] [0, 2] (hdWi n c (.sl 2 0 2 none) true i') 6 [lkE l, boxE x, rowsE l'] = [
  (0 : Nat) = (0 : Nat) ∧ n = n ∧ some c = some c,
  (0 : Nat) = (0 : Nat),
  (0 : Nat) = (0 : Nat) ∧ (2 : Nat) = (2 : Nat) ∧ (none : Option Nat) = none,
  Value.bool true = Value.bool true,
  Value.int IntKind.i64 (IntKind.i64.wrap (i + (1 : Int))) = Value.int IntKind.i64 i',
  l = l,
  l.all closedSV = true,
  Value.string x.1 = Value.string x.1,
  Value.int IntKind.u64 x.2 = Value.int IntKind.u64 x.2,
  Value.int IntKind.i64 x.3 = Value.int IntKind.i64 x.3,
  Value.slice x.4 x.5 x.6 = Value.slice x.4 x.5 x.6,
  List.take (4 : Nat)
   ([] ++
   List.take (4 : Nat)
   (List.drop (0 : Nat)
   (splice
   (List.replicate (1 : Nat)
   (List.map SV.v
   {
   toList :=
   [Value.string { data := { toList := [] : Array UInt8 } : ByteArray },
   Value.int IntKind.u64 (0 : Int), Value.int IntKind.i64 (0 : Int),
   Value.slice none (0 : Nat) (0 : Nat)] :
   Array Value }.toList)).flatten
   (0 : Nat) (List.take (4 : Nat) (List.drop (0 : Nat) (eC x)))))) ++
   List.take (4 : Nat)
   (List.drop (0 : Nat)
   (splice
   (List.replicate (1 : Nat)
   (List.map SV.v
   {
   toList :=
   [Value.string { data := { toList := [] : Array UInt8 } : ByteArray },
   Value.int IntKind.u64 (0 : Int), Value.int IntKind.i64 (0 : Int),
   Value.slice none (0 : Nat) (0 : Nat)] :
   Array Value }.toList)).flatten
   (0 : Nat) (eC e))) =
   l',
  l'.all closedSV = true,
  List.take (4 : Nat) (List.drop ((0 : Nat) + i.toNat * (4 : Nat)) l) = eC e ∧ (eC e).length = (4 : Nat),
  inRange i n = true,
  decide (cmpN e.1 x.1 > (0 : Int)) = true,
  e.1.size ≤ (1000000000 : Nat) ∧ x.1.size ≤ (1000000000 : Nat),
  l[(0 : Nat) + i.toNat * (4 : Nat) + (0 : Nat)]? = some (SV.v (Value.string e.1)),
  inRange i n = true,
  decide (i < (↑n : Int)) = true] := by kernel_rfl
theorem wi4 (l l' m w w2 : List SV) (n c k : Nat) (x e : EntT) (i i' : Int) : reach EWi 2 100 (SM.at (hdWi n c (.sl 2 0 k none) false i) 6 [lkE l, boxE x, rowsE m]) (ff [0] true ++ [(7, .cells [.v (.string e.p)])] ++ ff [14] true ++ [(15, .app m w), (17, .cells (eC e)), (18, .app (m ++ w) w2)]) [(0, 0), (1, 1), (2, 6)] [0, 2] (hdWi n c (.sl 2 0 (k + 2) none) true i') 6 [lkE l, boxE x, rowsE l'] = [
  (0 : Nat) = (0 : Nat) ∧ n = n ∧ some c = some c,
  (0 : Nat) = (0 : Nat),
  (0 : Nat) = (0 : Nat) ∧ k + (1 : Nat) + (1 : Nat) = k + (2 : Nat) ∧ (none : Option Nat) = none,
  Value.bool true = Value.bool true,
  Value.int IntKind.i64 (IntKind.i64.wrap (i + (1 : Int))) = Value.int IntKind.i64 i',
  l = l,
  l.all closedSV = true,
  Value.string x.1 = Value.string x.1,
  Value.int IntKind.u64 x.2 = Value.int IntKind.u64 x.2,
  Value.int IntKind.i64 x.3 = Value.int IntKind.i64 x.3,
  Value.slice x.4 x.5 x.6 = Value.slice x.4 x.5 x.6,
  m ++ w ++ w2 = l',
  l'.all closedSV = true,
  ((List.take (4 : Nat)
   (List.drop (0 : Nat)
   (splice
   (List.replicate (1 : Nat)
   (List.map SV.v
   {
   toList :=
   [Value.string { data := { toList := [] : Array UInt8 } : ByteArray },
   Value.int IntKind.u64 (0 : Int), Value.int IntKind.i64 (0 : Int),
   Value.slice none (0 : Nat) (0 : Nat)] :
   Array Value }.toList)).flatten
   (0 : Nat) (eC e))) =
   w2 ∧
   w2.length = (1 : Nat) * (4 : Nat)) ∧
   (1 : Nat) ≠ (0 : Nat) ∧
   ((2 : Nat) * (k + (1 : Nat) + (1 : Nat)) + (1024 : Nat)) * (56 : Nat) ≤ (140737488355328 : Nat)) ∧
   List.take ((k + (1 : Nat)) * (4 : Nat)) (m ++ w) = m ++ w ∧
   (m ++ w).length = (k + (1 : Nat)) * (4 : Nat) ∧ w2.all SV.flat = true,
  List.take (4 : Nat) (List.drop ((0 : Nat) + i.toNat * (4 : Nat)) l) = eC e ∧ (eC e).length = (4 : Nat),
  inRange i n = true,
  ((List.take (4 : Nat)
   (List.drop (0 : Nat)
   (splice
   (List.replicate (1 : Nat)
   (List.map SV.v
   {
   toList :=
   [Value.string { data := { toList := [] : Array UInt8 } : ByteArray },
   Value.int IntKind.u64 (0 : Int), Value.int IntKind.i64 (0 : Int),
   Value.slice none (0 : Nat) (0 : Nat)] :
   Array Value }.toList)).flatten
   (0 : Nat) (List.take (4 : Nat) (List.drop (0 : Nat) (eC x))))) =
   w ∧
   w.length = (1 : Nat) * (4 : Nat)) ∧
   (1 : Nat) ≠ (0 : Nat) ∧ ((2 : Nat) * (k + (1 : Nat)) + (1024 : Nat)) * (56 : Nat) ≤ (140737488355328 : Nat)) ∧
   List.take (k * (4 : Nat)) m = m ∧ m.length = k * (4 : Nat) ∧ w.all SV.flat = true,
  decide (cmpN e.1 x.1 > (0 : Int)) = true,
  e.1.size ≤ (1000000000 : Nat) ∧ x.1.size ≤ (1000000000 : Nat),
  l[(0 : Nat) + i.toNat * (4 : Nat) + (0 : Nat)]? = some (SV.v (Value.string e.1)),
  inRange i n = true,
  decide (i < (↑n : Int)) = true] := by kernel_rfl
theorem wi5 (l l' m w w2 : List SV) (n c k : Nat) (x e : EntT) (i i' : Int) : reach EWi 2 100 (SM.at (hdWi n c (.sl 2 0 k none) true i) 6 [lkE l, boxE x, rowsE m]) (ff [0] true ++ [(13, .cells (eC e)), (14, .app m w)]) [(0, 0), (1, 1), (2, 4)] [0, 2] (hdWi n c (.sl 2 0 (k + 1) none) true i') 6 [lkE l, boxE x, rowsE l'] = [
  (0 : Nat) = (0 : Nat) ∧ n = n ∧ some c = some c,
  (0 : Nat) = (0 : Nat),
  (0 : Nat) = (0 : Nat) ∧ k + (1 : Nat) = k + (1 : Nat) ∧ (none : Option Nat) = none,
  Value.bool true = Value.bool true,
  Value.int IntKind.i64 (IntKind.i64.wrap (i + (1 : Int))) = Value.int IntKind.i64 i',
  l = l,
  l.all closedSV = true,
  Value.string x.1 = Value.string x.1,
  Value.int IntKind.u64 x.2 = Value.int IntKind.u64 x.2,
  Value.int IntKind.i64 x.3 = Value.int IntKind.i64 x.3,
  Value.slice x.4 x.5 x.6 = Value.slice x.4 x.5 x.6,
  m ++ w = l',
  l'.all closedSV = true,
  ((List.take (4 : Nat)
   (List.drop (0 : Nat)
   (splice
   (List.replicate (1 : Nat)
   (List.map SV.v
   {
   toList :=
   [Value.string { data := { toList := [] : Array UInt8 } : ByteArray },
   Value.int IntKind.u64 (0 : Int), Value.int IntKind.i64 (0 : Int),
   Value.slice none (0 : Nat) (0 : Nat)] :
   Array Value }.toList)).flatten
   (0 : Nat) (eC e))) =
   w ∧
   w.length = (1 : Nat) * (4 : Nat)) ∧
   (1 : Nat) ≠ (0 : Nat) ∧ ((2 : Nat) * (k + (1 : Nat)) + (1024 : Nat)) * (56 : Nat) ≤ (140737488355328 : Nat)) ∧
   List.take (k * (4 : Nat)) m = m ∧ m.length = k * (4 : Nat) ∧ w.all SV.flat = true,
  List.take (4 : Nat) (List.drop ((0 : Nat) + i.toNat * (4 : Nat)) l) = eC e ∧ (eC e).length = (4 : Nat),
  inRange i n = true,
  decide (i < (↑n : Int)) = true] := by kernel_rfl
theorem wi7 (l l' m w w2 : List SV) (n c k : Nat) (x e : EntT) (i i' : Int) : endsO EWi 37 60 (SM.at (hdWi n c (.sl 2 0 k none) false i) 6 [lkE l, boxE x, rowsE m]) (ff [0] false ++ [(2, .app m w)]) (.sl 4 0 (k + 1) none) 4 (.row l' 46 (0, 0) (some 4)) = [
  (0 : Nat) = (0 : Nat) ∧ k + (1 : Nat) = k + (1 : Nat) ∧ (none : Option Nat) = none,
  m ++ w = l',
  l'.all closedSV = true,
  ((List.take (4 : Nat)
   (List.drop (0 : Nat)
   (splice
   (List.replicate (1 : Nat)
   (List.map SV.v
   {
   toList :=
   [Value.string { data := { toList := [] : Array UInt8 } : ByteArray },
   Value.int IntKind.u64 (0 : Int), Value.int IntKind.i64 (0 : Int),
   Value.slice none (0 : Nat) (0 : Nat)] :
   Array Value }.toList)).flatten
   (0 : Nat) (List.take (4 : Nat) (List.drop (0 : Nat) (eC x))))) =
   w ∧
   w.length = (1 : Nat) * (4 : Nat)) ∧
   (1 : Nat) ≠ (0 : Nat) ∧ ((2 : Nat) * (k + (1 : Nat)) + (1024 : Nat)) * (56 : Nat) ≤ (140737488355328 : Nat)) ∧
   List.take (k * (4 : Nat)) m = m ∧ m.length = k * (4 : Nat) ∧ w.all SV.flat = true,
  decide (i < (↑n : Int)) = false] := by kernel_rfl
theorem wi8 (l l' m w w2:List SV) (n c k:Nat) (x e:EntT) (i i':Int):endsO EWi 37 60 (SM.at (hdWi n c (.sl 2 0 k none) true i) 6 [lkE l,boxE x,rowsE m]) (ff [0] false) (.sl 2 0 k none) 2 (.row l' 46 (0,0) (some 4))=[
 (0:Nat)=(0:Nat)∧k=k∧(none:Option Nat)=none,
 m=l',
 l'.all closedSV=true,
 decide (i<(↑n:Int))=false]:=by kernel_rfl
noncomputable def entW0 (x:EntT):SM:=(enterS EWi 37 [.v (.slice none 0 0),.v (.agg #[.string x.p,.int .u64 x.v,.int .i64 x.k,.slice x.a x.l x.c])] (memOf 6 0 0 [])).getD noSM
theorem wi9 (x : EntT) (l' : List SV) : endsO EWi 37 60 (entW0 x) [(1000, .b true)] (.sl 2 0 1 none) 2 (.row l' 46 (0, 0) (some 4)) = [
  (0 : Nat) = (0 : Nat) ∧ (1 : Nat) = (1 : Nat) ∧ (none : Option Nat) = none,
  [] ++
   List.take (4 : Nat)
   (List.drop (0 : Nat)
   (splice
   (List.replicate (1 : Nat)
   (List.map SV.v
   {
   toList :=
   [Value.string { data := { toList := [] : Array UInt8 } : ByteArray },
   Value.int IntKind.u64 (0 : Int), Value.int IntKind.i64 (0 : Int),
   Value.slice none (0 : Nat) (0 : Nat)] :
   Array Value }.toList)).flatten
   (0 : Nat)
   (List.take (4 : Nat)
   (List.drop (0 : Nat)
   (List.map SV.v
   {
   toList :=
   [Value.string x.1, Value.int IntKind.u64 x.2, Value.int IntKind.i64 x.3,
   Value.slice x.4 x.5 x.6] :
   Array Value }.toList))))) =
   l',
  l'.all closedSV = true] := by kernel_rfl
def insE (x:EntT):List EntT→List EntT
 | []=>[x]
 | e::l=>if cmpN e.p x.p>0 then x::e::l else e::insE x l
theorem insE_len (x:EntT):∀ l:List EntT,(insE x l).length=l.length+1
 | []=>rfl
 | e::l=>by
  unfold insE
  split
  ·rfl
  ·rw [List.length_cons,insE_len x l,List.length_cons]
def RI (w0:World) (xs:List EntT) (e:Ending) (w':World):Prop:=Below w0.heap.size w0 w'∧∃ y,e=.returned y∧NewSl w0 w' y (vE xs) xs.length 4 46
theorem KWi {M:Own} {w0:World}:Facts EWi M w0:=factsP0 fun r h=>by rw [List.mem_singleton.1 h];exact rcmp_ok
section
variable {w0:World} {cs0:List Frame} {xs:List EntT} {x:EntT} {b:Nat × Nat} {c:Nat}
theorem loopWi3 (hl:xs.length≤1000):∀ (j i:Nat),i+j=xs.length→∀ (out:List EntT),out.length≤i+1→
  Goes EWi (layOwn [b] [(.look (cE xs),false)]) w0 cs0 37 (RI w0 (out++xs.drop i)) (layVal [b]) (SM.at (hdWi xs.length c (.sl 2 0 out.length none) true i) 6 [lkE (cE xs),boxE x,rowsE (cE out)])
 | 0,i,hj,out,ho=>by
  rw [List.drop_eq_nil_of_le (by omega),List.append_nil]
  refine ends_sl (j:=2) KWi none1' (n:=60) (o:=ff [0] false) ⟨?_⟩ fun w' y hB hy=>⟨hB,y,rfl,hy⟩
  rw [wi8 (l:=cE xs) (m:=cE out) (w:=[]) (w2:=[]) (e:=x) (i':=0)]
  simp only [Owed,cE_closed,and_self,and_true,true_and]
  exact decide_eq_false (by omega)
 | j+1,i,hj,out,ho=>by
  have hi:i<xs.length:=by omega
  have hxi:xs[i]?=some xs[i]:=List.getElem?_eq_getElem hi
  have t1:decide ((i:Int)<(xs.length:Int))=true:=decide_eq_true (by omega)
  have r1:=in_range hi
  have ws:=wrap_succ (k:=i) (by omega)
  have ra:=cE_at hxi
  have nx:=loopWi3 hl j (i+1) (by omega) (out++[xs[i]]) (by rw [List.length_append];simp;omega)
  rw [List.append_assoc,List.singleton_append,← List.drop_eq_getElem_cons hi,List.length_append,show ([xs[i]]:List EntT).length=1 from rfl] at nx
  refine Goes.reach KWi (k:=2) (n:=100) (o:=(ff [0] true++[(13,.cells (eC xs[i])),(14,.app (cE out) (eC xs[i]))])) (ren:=[(0,0),(1,1),(2,4)]) (eqs:=[0,2]) ?_ (by kernel_rfl) (fun i b h=>by rw [lay1' h];rfl) nx
  rw [wi5 (w2:=[])]
  simp only [Owed,Int.toNat_natCast,t1,r1,ra,ws,eC_len,cE_closed,cE_flat,cE_app,cE_one,cE_len,List.all_append,and_self,and_true,true_and]
  repeat' apply And.intro
  all_goals first | rfl | omega | exact List.take_of_length_le (by rw [cE_len];exact Nat.le_refl _) | exact eC_closed _ | skip
theorem loopWi2 (hl:xs.length≤1000) (hp:x.p.size≤1000000000) (hs:∀ e∈xs,e.p.size≤1000000000):∀ (j i:Nat),i+j=xs.length→0<i→
  Goes EWi (layOwn [b] [(.look (cE xs),false)]) w0 cs0 37 (RI w0 (xs.take i++insE x (xs.drop i))) (layVal [b]) (SM.at (hdWi xs.length c (.sl 2 0 (xs.take i).length none) false i) 6 [lkE (cE xs),boxE x,rowsE (cE (xs.take i))])
 | 0,i,hj,h0=>by
  have hlen:(xs.take i).length=i:=by rw [List.length_take];omega
  rw [List.drop_eq_nil_of_le (by omega),show insE x []=[x] from rfl]
  refine ends_sl (j:=4) KWi none1' (n:=60) (o:=(ff [0] false++[(2,.app (cE (xs.take i)) (eC x))])) ⟨?_⟩ fun w' y hB hy=>⟨hB,y,rfl,hy⟩
  rw [List.length_append,show ([x]:List EntT).length=1 from rfl,wi7 (w2:=[]) (e:=x) (i':=0)]
  simp only [Owed,eC_len,cE_closed,cE_flat,cE_app,cE_one,cE_len,hlen,List.all_append,and_self,and_true,true_and]
  repeat' apply And.intro
  all_goals first | rfl | omega | exact List.take_of_length_le (by rw [cE_len,hlen];exact Nat.le_refl _) | exact eC_closed _ | exact decide_eq_false (by omega) | skip
 | j+1,i,hj,h0=>by
  have hi:i<xs.length:=by omega
  have hlen:(xs.take i).length=i:=by rw [List.length_take];omega
  have hxi:xs[i]?=some xs[i]:=List.getElem?_eq_getElem hi
  have t1:decide ((i:Int)<(xs.length:Int))=true:=decide_eq_true (by omega)
  have r1:=in_range hi
  have ws:=wrap_succ (k:=i) (by omega)
  have ra:=cE_at hxi
  have rc:=cE_cell0 hxi
  have z1:=hs _ (List.getElem_mem hi)
  have hd:=List.drop_eq_getElem_cons hi
  have ht:=List.take_succ_eq_append_getElem hi
  by_cases hc:cmpN xs[i].p x.p>0
  ·have tc:=decide_eq_true hc
   have nx:=loopWi3 (w0:=w0) (cs0:=cs0) (x:=x) (b:=b) (c:=c) hl j (i+1) (by omega) (xs.take i++[x]++[xs[i]]) (by rw [List.length_append,List.length_append,hlen];simp)
   have e1:xs.take i++[x]++[xs[i]]++xs.drop (i+1)=xs.take i++insE x (xs.drop i):=by
    rw [hd];unfold insE;rw [if_pos hc];simp
   rw [e1,List.length_append,List.length_append,show ([x]:List EntT).length=1 from rfl,show ([xs[i]]:List EntT).length=1 from rfl] at nx
   refine Goes.reach KWi (k:=2) (n:=100) (o:=(ff [0] true++[(7,.cells [.v (.string xs[i].p)])]++ff [14] true++[(15,.app (cE (xs.take i)) (eC x)),(17,.cells (eC xs[i])),(18,.app (cE (xs.take i)++eC x) (eC xs[i]))])) (ren:=[(0,0),(1,1),(2,6)]) (eqs:=[0,2]) ?_ (by kernel_rfl) (fun i b h=>by rw [lay1' h];rfl) nx
   rw [show (xs.take i).length+1+1=(xs.take i).length+2 from rfl,wi4]
   simp only [Owed,Int.toNat_natCast,t1,r1,ra,rc,ws,tc,z1,hp,eC_len,cE_closed,cE_flat,cE_app,cE_one,cE_len,hlen,List.all_append,List.length_append,and_self,and_true,true_and]
   repeat' apply And.intro
   all_goals first | rfl | omega | exact List.take_of_length_le (by rw [cE_len,hlen];exact Nat.le_refl _) | exact List.take_of_length_le (by rw [List.length_append,cE_len,hlen,eC_len];omega) | exact eC_closed _ | skip
  ·have tc:=decide_eq_false hc
   have nx:=loopWi2 hl hp hs j (i+1) (by omega) (by omega)
   have e1:xs.take (i+1)++insE x (xs.drop (i+1))=xs.take i++insE x (xs.drop i):=by
    rw [hd,ht];conv=>rhs;unfold insE
    rw [if_neg hc,List.append_assoc];rfl
   rw [e1,ht,List.length_append,show ([xs[i]]:List EntT).length=1 from rfl] at nx
   refine Goes.reach KWi (k:=2) (n:=100) (o:=(ff [0] true++[(7,.cells [.v (.string xs[i].p)]),(16,.cells (eC xs[i])),(17,.app (cE (xs.take i)) (eC xs[i]))]++ff [14] false)) (ren:=[(0,0),(1,1),(2,4)]) (eqs:=[0,2]) ?_ (by kernel_rfl) (fun i b h=>by rw [lay1' h];rfl) nx
   rw [wi2 (w2:=[])]
   simp only [Owed,Int.toNat_natCast,t1,r1,ra,rc,ws,tc,z1,hp,eC_len,cE_closed,cE_flat,cE_app,cE_one,cE_len,hlen,List.all_append,and_self,and_true,true_and]
   repeat' apply And.intro
   all_goals first | rfl | omega | exact List.take_of_length_le (by rw [cE_len,hlen];exact Nat.le_refl _) | exact eC_closed _ | skip
theorem firstWi (hl:xs.length≤1000) (hp:x.p.size≤1000000000) (hs:∀ e∈xs,e.p.size≤1000000000) (h0:0<xs.length):
  Goes EWi (layOwn [b] [(.look (cE xs),false)]) w0 cs0 37 (RI w0 (insE x xs)) (layVal [b]) (SM.at (hdWi xs.length c nilE false (0:Nat)) 6 [lkE (cE xs),boxE x]):=by
 have hxi:xs[0]?=some xs[0]:=List.getElem?_eq_getElem h0
 have t1:decide (((0:Nat):Int)<(xs.length:Int))=true:=decide_eq_true (by omega)
 have r1:=in_range h0
 have ws:=wrap_succ (k:=0) (by omega)
 have ra:=cE_at hxi
 have rc:=cE_cell0 hxi
 have z1:=hs _ (List.getElem_mem h0)
 have hd:=List.drop_eq_getElem_cons h0
 rw [List.drop_zero] at hd
 have ht:=List.take_succ_eq_append_getElem h0
 rw [List.take_zero,List.nil_append] at ht
 by_cases hc:cmpN xs[0].p x.p>0
 ·have tc:=decide_eq_true hc
  have nx:=loopWi3 (w0:=w0) (cs0:=cs0) (x:=x) (b:=b) (c:=c) hl (xs.length - 1) (0+1) (by omega) ([x]++[xs[0]]) (by simp)
  have e1:[x]++[xs[0]]++xs.drop (0+1)=insE x xs:=by
   conv=>rhs;rw [hd]
   unfold insE;rw [if_pos hc];simp
  rw [e1,show (([x]:List EntT)++[xs[0]]).length=2 from rfl] at nx
  refine Goes.reach KWi (k:=2) (n:=100) (o:=(ff [0] true++[(7,.cells [.v (.string xs[0].p)])]++ff [14] true++[(17,.cells (eC xs[0]))])) (ren:=[(0,0),(1,1),(2,5)]) (eqs:=[0,2]) ?_ (by kernel_rfl) (fun i b h=>by rw [lay1' h];rfl) nx
  rw [wi3 (m:=[]) (w:=[]) (w2:=[]) (k:=0)]
  simp only [Owed,Int.toNat_natCast,t1,r1,ra,rc,ws,tc,z1,hp,eC_len,cE_closed,cE_app,cE_one,and_self,and_true,true_and]
  repeat' apply And.intro
  all_goals first | rfl | omega | exact eC_closed _ | (simp [eC_closed,List.all_append];done) | skip
 ·have tc:=decide_eq_false hc
  have nx:=loopWi2 (w0:=w0) (cs0:=cs0) (x:=x) (b:=b) (c:=c) hl hp hs (xs.length - 1) (0+1) (by omega) (by omega)
  have e1:xs.take (0+1)++insE x (xs.drop (0+1))=insE x xs:=by
   rw [ht]
   conv=>rhs;rw [hd];unfold insE
   rw [if_neg hc];rfl
  rw [e1,ht,show ([xs[0]]:List EntT).length=1 from rfl] at nx
  refine Goes.reach KWi (k:=2) (n:=100) (o:=(ff [0] true++[(7,.cells [.v (.string xs[0].p)]),(16,.cells (eC xs[0]))]++ff [14] false)) (ren:=[(0,0),(1,1),(2,3)]) (eqs:=[0,2]) ?_ (by kernel_rfl) (fun i b h=>by rw [lay1' h];rfl) nx
  rw [wi1 (m:=[]) (w:=[]) (w2:=[]) (k:=0)]
  simp only [Owed,Int.toNat_natCast,t1,r1,ra,rc,ws,tc,z1,hp,eC_len,cE_closed,cE_one,and_self,and_true,true_and]
  repeat' apply And.intro
  all_goals first | rfl | omega | exact eC_closed _ | skip
end
def decV:Value→Option EntT
 | .agg a=>match a.toList with
  | [.string p,.int .u64 v,.int .i64 k,.slice a l c]=>some ⟨p,v,k,a,l,c⟩
  | _=>none
 | _=>none
def decX (x:SV):Option EntT:=(plainV x).bind decV
theorem decV_ok {y:Value} {x:EntT} (h:decV y=some x):y=.agg (eV x).toArray:=by
 unfold decV at h
 split at h
 ·rename_i a
  split at h
  ·rename_i p v k a' l c ha
   cases h
   cases a with | mk l'=>cases ha;rfl
  ·cases h
 ·cases h
theorem decX_ok {ν:Val} {X:SV} {x:EntT} {y:Value} (h:decX X=some x) (hv:VR ν X y):y=.agg (eV x).toArray:=by
 unfold decX at h
 obtain ⟨z,hz,h⟩:=Option.bind_eq_some_iff.1 h
 rw [plainV_ok hz hv]
 exact decV_ok h
def listOf (a:SV) (s:SH):Option (List EntT × Prop):=match a with
 | .v (.slice none 0 0)=>some ([],True)
 | .sl i 0 n none=>match s.look i with
  | some (.row ys e (0,0) (some 4),_)=>some (entsOf ys n,e=46∧HoldsE ys n (entsOf ys n)∧entsOf ys n≠[])
  | _=>none
 | _=>none
theorem listOf_ok {a:SV} {s:SH} {xs:List EntT} {p:Prop} (h:listOf a s=some (xs,p)) (hp:p):(xs=[]∧a=.v (.slice none 0 0))∨(xs≠[]∧xs.length≤1000∧∃ i mk,a=.sl i 0 xs.length none∧s.look i=some (.row (cE xs) 46 (0,0) (some 4),mk)):=by
 unfold listOf at h
 split at h
 ·cases h;exact .inl ⟨rfl,rfl⟩
 ·rename_i i n
  split at h
  ·rename_i ys e mk hl
   cases h
   obtain ⟨he,⟨hc,hn,hf⟩,hne⟩:=hp
   subst he
   generalize entsOf ys n=xs at *
   subst hc hn
   exact .inr ⟨hne,hf,i,mk,rfl,hl⟩
  ·cases h
 ·cases h
def withS:SlG:=fun args s=>match args with
 | [A,X]=>match decX X,listOf A s with
  | some x,some (xs,p)=>some (vE (insE x xs),xs.length+1,4,46,none,p∧x.p.size≤1000000000∧∀ e∈xs,e.p.size≤1000000000)
  | _,_=>none
 | _=>none
theorem with_ok {X:World→Prop}:SumOK Tryz.prog X (37,slSumG withS):=by
 refine slSumG_ok ⟨_,Tryz.func37,by kernel_rfl,by kernel_rfl⟩ fun args sh ys n C elem ex p h hp ν M w0 w a hr hX ha=>?_
 dsimp only [withS] at h
 split at h
 ·rename_i A Xa
  split at h
  ·rename_i x xs q hx hxs
   cases h
   obtain ⟨hq,hxp,hes⟩:=hp
   obtain ⟨y1,as1,rfl,q1,ha2⟩:=ha.cons_inv
   obtain ⟨y2,as2,rfl,q2,ha3⟩:=ha2.cons_inv
   obtain rfl:=ha3.nil_inv
   obtain rfl:=decX_ok hx q2
   rcases listOf_ok hxs hq with ⟨rfl,rfl⟩ | ⟨hne,hfew,i,mk,rfl,hl⟩
   ·obtain rfl:=VR.v_iff.1 q1
    refine calls_bareR (E:=EWi) rfl rfl (args:=[.v (.slice none 0 0),.v (.agg #[.string x.p,.int .u64 x.v,.int .i64 x.k,.slice x.a x.l x.c])]) (S0:=entW0 x) (by kernel_rfl) (VRL.cons (VR.v_iff.2 rfl) (VRL.cons (VR.v_iff.2 rfl) VRL.nil)) fun cs0=>?_
    refine ends_sl (l:=[x]) (m:=1) (j:=2) KWi not_laid (n:=60) (o:=[(1000,.b true)]) ⟨?_⟩ fun w' y hB hy=>⟨hB,y,rfl,hy⟩
    rw [wi9]
    simp only [Owed,cE_one,eC_closed,and_self,and_true,true_and]
    first | done | rfl | skip
   ·obtain ⟨bb,hbb,hle,rfl⟩:=VR.sl_iff.1 q1
    refine calls_row (E:=EWi) rfl rfl hr hl (cE_closed xs) (args':=fun c=>[.sl 0 0 xs.length (some c),.v (.agg #[.string x.p,.int .u64 x.v,.int .i64 x.k,.slice x.a x.l x.c])]) (S0:=fun c=>entWi (cE xs) xs.length c x) (fun b hb=>?_) (fun c=>by kernel_rfl) fun b cs0=>?_
    ·rw [hbb] at hb;cases hb
     have hle':xs.length≤bb.2:=hle
     exact VRL.cons (VR.sl_iff.2 ⟨bb,rfl,hle',rfl⟩) (VRL.cons (VR.v_iff.2 rfl) VRL.nil)
    ·have nx:=firstWi (w0:=w) (cs0:=cs0) (b:=b) (c:=b.2) (x:=x) (xs:=xs) hfew hxp hes (List.length_pos_iff.2 hne)
     unfold RI at nx
     rw [insE_len] at nx
     refine Goes.reach KWi (k:=2) (n:=60) (o:=[(1000,.b true)]) (ren:=[(0,0),(1,1)]) (eqs:=[0]) (F:=hdWi xs.length b.2 nilE false 0) (d:=6) (l:=[lkE (cE xs),boxE x]) ?_ (by kernel_rfl) (fun i b h=>by rw [lay1' h];rfl) nx
     rw [wi0]
     simp only [Owed,cE_closed,eC_closed,and_self]
  ·cases h
 ·cases h
abbrev EntM:=EntT × Nat
def mC (e:EntM):SV × SV × Nat:=(.v (.string e.1.p),.agg [.v (.string e.1.p),.v (.int .u64 e.1.v),.v (.int .i64 e.1.k),.v (.slice e.1.a e.1.l e.1.c)],e.2)
def valM (e:EntM):SV:=.agg [.v (.string e.1.p),.v (.int .u64 e.1.v),.v (.int .i64 e.1.k),.v (.slice e.1.a e.1.l e.1.c)]
noncomputable def ESp:Env:=EP [(21,cmpPS)] []
def bookO (s:Int):Option (SO × Bool):=some (.row [.v (.int .u64 s),.map 1] 84 (0,0) none,false)
def mapO (es:List (SV × SV × Nat)) (cl:Nat):Option (SO × Bool):=some (.map es cl,false)
noncomputable def entSp (s:Int) (es:List (SV × SV × Nat)) (cl:Nat):SM:=(enterS ESp 41 [.ptr 0 0] (memOf 6 2 0 [bookO s,mapO es cl])).getD noSM
noncomputable def todoSp:List SI:=todoL ESp 2 60 (entSp 0 [] 0) [(1000,.b true)]
noncomputable def hdSp (best:ByteArray):SF:={ fn:=41,tm:=tmOf 57 6 ([.ptr 0 0,.junk,.junk,.junk,.v (.string best),.junk,.junk,.junk,.junk,.junk,.junk,.ptr 2 0]++List.replicate 45 .junk),todo:=todoSp,defers:=[],ret:=false,kind:=.normal,ro:=none }
def objSp (s:Int) (es:List (SV × SV × Nat)) (cl:Nat) (seen:List Nat):List (Option (SO × Bool)):=[bookO s,mapO es cl,some (.miter (some 1) cl seen cl,true)]
noncomputable def askSp (s:Int) (es:List (SV × SV × Nat)) (cl:Nat) (seen:List Nat) (best:ByteArray):SM:=(goS ESp (atNext ESp) 30 ((SM.at (hdSp best) 6 (objSp s es cl seen)).with [(1000,.b true)])).getD noSM
noncomputable def nxSp (s:Int) (es:List (SV × SV × Nat)) (cl:Nat) (seen:List Nat) (best:ByteArray) (e:SV × SV × Nat):SM:=(nextE ESp (askSp s es cl seen best) e).getD noSM
noncomputable def stSp (s:Int) (es:List (SV × SV × Nat)) (cl:Nat) (seen:List Nat) (best:ByteArray):SM:=(stopE ESp (askSp s es cl seen best)).getD noSM
theorem ask_ok (s:Int) (es:List (SV × SV × Nat)) (cl:Nat) (seen:List Nat) (best:ByteArray):goS ESp (atNext ESp) 30 ((SM.at (hdSp best) 6 (objSp s es cl seen)).with [(1000,.b true)])=some (askSp s es cl seen best):=by kernel_rfl
theorem ask_D (s:Int) (es:List (SV × SV × Nat)) (cl:Nat) (seen:List Nat) (best:ByteArray):nextD ESp (askSp s es cl seen best)=some (2,1,cl,seen,cl,es,cl):=by kernel_rfl
theorem ask_ob (s:Int) (es:List (SV × SV × Nat)) (cl:Nat) (seen:List Nat) (best:ByteArray):(askSp s es cl seen best).mem.obl=[]:=by kernel_rfl
theorem nx_ok (s:Int) (es:List (SV × SV × Nat)) (cl:Nat) (seen:List Nat) (best:ByteArray) (e:SV × SV × Nat):nextE ESp (askSp s es cl seen best) e=some (nxSp s es cl seen best e):=by kernel_rfl
theorem nx_ob (s:Int) (es:List (SV × SV × Nat)) (cl:Nat) (seen:List Nat) (best:ByteArray) (e:SV × SV × Nat):(nxSp s es cl seen best e).mem.obl=[]:=by kernel_rfl
theorem st_ok (s:Int) (es:List (SV × SV × Nat)) (cl:Nat) (seen:List Nat) (best:ByteArray):stopE ESp (askSp s es cl seen best)=some (stSp s es cl seen best):=by kernel_rfl
theorem st_ob (s:Int) (es:List (SV × SV × Nat)) (cl:Nat) (seen:List Nat) (best:ByteArray):(stSp s es cl seen best).mem.obl=[]:=by kernel_rfl
theorem sp0 (s : Int) (es : List (SV × SV × Nat)) (cl : Nat) : reach ESp 2 60 (entSp s es cl) [(1000, .b true)] [(0, 0), (1, 1), (2, 2)] [1] (hdSp ⟨#[]⟩) 6 (objSp s es cl []) = [
  (0 : Nat) = (0 : Nat),
  Value.string { data := { toList := [] : Array UInt8 } : ByteArray } =
   Value.string { data := { toList := [] : Array UInt8 } : ByteArray },
  (0 : Nat) = (0 : Nat),
  Value.int IntKind.u64 s = Value.int IntKind.u64 s,
  cl = cl,
  es = es,
  (es.all fun e => closedE e.fst && closedE e.snd.fst) = true,
  (match false with
   | true => some (0 : Nat)
   | false => List.lookup (1 : Nat) [((1 : Nat), (1 : Nat)), ((2 : Nat), (2 : Nat))]) =
   some (1 : Nat),
  cl = cl,
  ([] : List Nat) = [],
  cl = cl] := by kernel_rfl
theorem sp1 (s : Int) (es : List (SV × SV × Nat)) (cl : Nat) (seen : List Nat) (best : ByteArray) (e : EntM) (v : Value) : endsV ESp 41 60 (stSp s es cl seen best) [(1000, .b true)] v = [
  Value.tuple
   {
   toList :=
   [Value.string best, Value.bool !best.toList == { data := { toList := [] : Array UInt8 } : ByteArray }.toList] :
   Array Value } =
   v] := by kernel_rfl
theorem sa (s : Int) (es : List (SV × SV × Nat)) (cl : Nat) (seen : List Nat) (best best' : ByteArray) (e f : EntM) (j : Nat) : reach ESp 2 300 (nxSp s es cl seen best (mC e)) ([(0, .b true), (1, .ent (.v (.string e.1.p)) (valM e))] ++ ff (List.range 60) false) [(0, 0), (1, 1), (2, 2)] [1] (hdSp best') 6 (objSp s es cl (seen ++ [e.2])) = [
  (0 : Nat) = (0 : Nat),
  Value.string best = Value.string best',
  (0 : Nat) = (0 : Nat),
  Value.int IntKind.u64 s = Value.int IntKind.u64 s,
  cl = cl,
  es = es,
  (es.all fun e => closedE e.fst && closedE e.snd.fst) = true,
  (match false with
   | true => some (0 : Nat)
   | false => List.lookup (1 : Nat) [((1 : Nat), (1 : Nat)), ((2 : Nat), (2 : Nat))]) =
   some (1 : Nat),
  cl = cl,
  seen ++ [(mC e).snd.2] = seen ++ [e.2],
  cl = cl,
  false = false,
  (e.fst.3 == (0 : Int)) = false,
  (e.fst.3 == (0 : Int)) = false,
  (e.fst.3 == (0 : Int)) = false,
  (e.fst.3 == (0 : Int)) = false,
  (e.fst.3 == (0 : Int)) = false,
  (e.fst.3 == (0 : Int)) = false,
  (e.fst.3 == (0 : Int)) = false,
  ∃ stamp b,
   (seen ++ [(mC e).snd.snd]).getLast? = some stamp ∧
   cl = cl ∧ List.find? (fun e => e.snd.snd.beq stamp) es = some (SV.v (Value.string e.fst.p), valM e, b),
  true = true] := by kernel_rfl
theorem sb (s : Int) (es : List (SV × SV × Nat)) (cl : Nat) (seen : List Nat) (best best' : ByteArray) (e f : EntM) (j : Nat) : reach ESp 2 300 (nxSp s es cl seen best (mC e)) ([(0, .b true), (1, .ent (.v (.string e.1.p)) (valM e))] ++ ff (List.range 60) true) [(0, 0), (1, 1), (2, 2)] [1] (hdSp best') 6 (objSp s es cl (seen ++ [e.2])) = [
  (0 : Nat) = (0 : Nat),
  Value.string e.fst.1 = Value.string best',
  (0 : Nat) = (0 : Nat),
  Value.int IntKind.u64 s = Value.int IntKind.u64 s,
  cl = cl,
  es = es,
  (es.all fun e => closedE e.fst && closedE e.snd.fst) = true,
  (match false with
   | true => some (0 : Nat)
   | false => List.lookup (1 : Nat) [((1 : Nat), (1 : Nat)), ((2 : Nat), (2 : Nat))]) =
   some (1 : Nat),
  cl = cl,
  seen ++ [(mC e).snd.2] = seen ++ [e.2],
  cl = cl,
  true = true,
  (e.fst.3 == (0 : Int)) = true,
  true = true,
  (e.fst.3 == (0 : Int)) = true,
  true = true,
  true = true,
  true = true,
  true = true,
  true = true,
  true = true,
  true = true,
  true = true,
  true = true,
  true = true,
  true = true,
  true = true,
  (e.fst.3 == (0 : Int)) = true,
  (best.toList == { data := { toList := [] : Array UInt8 } : ByteArray }.toList) = true,
  (e.fst.3 == (0 : Int)) = true,
  (best.toList == { data := { toList := [] : Array UInt8 } : ByteArray }.toList) = true,
  (best.toList == { data := { toList := [] : Array UInt8 } : ByteArray }.toList) = true,
  (best.toList == { data := { toList := [] : Array UInt8 } : ByteArray }.toList) = true,
  (best.toList == { data := { toList := [] : Array UInt8 } : ByteArray }.toList) = true,
  (best.toList == { data := { toList := [] : Array UInt8 } : ByteArray }.toList) = true,
  (best.toList == { data := { toList := [] : Array UInt8 } : ByteArray }.toList) = true,
  (best.toList == { data := { toList := [] : Array UInt8 } : ByteArray }.toList) = true,
  (best.toList == { data := { toList := [] : Array UInt8 } : ByteArray }.toList) = true,
  (e.fst.3 == (0 : Int)) = true,
  (e.fst.3 == (0 : Int)) = true,
  (e.fst.3 == (0 : Int)) = true,
  ∃ stamp b,
   (seen ++ [(mC e).snd.snd]).getLast? = some stamp ∧
   cl = cl ∧ List.find? (fun e => e.snd.snd.beq stamp) es = some (SV.v (Value.string e.fst.p), valM e, b),
  true = true] := by kernel_rfl
theorem sc (s : Int) (es : List (SV × SV × Nat)) (cl : Nat) (seen : List Nat) (best best' : ByteArray) (e f : EntM) (j : Nat) : reach ESp 2 300 (nxSp s es cl seen best (mC e)) ([(0, .b true), (1, .ent (.v (.string e.1.p)) (valM e))] ++ ff [2, 3, 4] true ++ ff [5, 6, 7, 8, 9, 10] false ++ [(11, .hit j (valM f) f.2)] ++ ff [12, 13] false ++ ff [14] true ++ ff [15] false ++ ff (List.range 60) true) [(0, 0), (1, 1), (2, 2)] [1] (hdSp best') 6 (objSp s es cl (seen ++ [e.2])) = [
  (0 : Nat) = (0 : Nat),
  Value.string e.fst.1 = Value.string best',
  (0 : Nat) = (0 : Nat),
  Value.int IntKind.u64 s = Value.int IntKind.u64 s,
  cl = cl,
  es = es,
  (es.all fun e => closedE e.fst && closedE e.snd.fst) = true,
  (match false with
   | true => some (0 : Nat)
   | false => List.lookup (1 : Nat) [((1 : Nat), (1 : Nat)), ((2 : Nat), (2 : Nat))]) =
   some (1 : Nat),
  cl = cl,
  seen ++ [(mC e).snd.2] = seen ++ [e.2],
  cl = cl,
  true = true,
  (e.fst.3 == (0 : Int)) = true,
  decide (f.fst.2 > e.fst.2) = true,
  (e.fst.3 == (0 : Int)) = true,
  decide (f.fst.2 > e.fst.2) = true,
  decide (f.fst.2 > e.fst.2) = true,
  decide (f.fst.2 > e.fst.2) = true,
  decide (f.fst.2 > e.fst.2) = true,
  decide (f.fst.2 > e.fst.2) = true,
  decide (f.fst.2 > e.fst.2) = true,
  decide (f.fst.2 > e.fst.2) = true,
  decide (f.fst.2 > e.fst.2) = true,
  decide (f.fst.2 > e.fst.2) = true,
  decide (f.fst.2 > e.fst.2) = true,
  decide (f.fst.2 > e.fst.2) = true,
  decide (f.fst.2 > e.fst.2) = true,
  (e.fst.3 == (0 : Int)) = true,
  (best.toList == { data := { toList := [] : Array UInt8 } : ByteArray }.toList) = false,
  (e.fst.3 == (0 : Int)) = true,
  (best.toList == { data := { toList := [] : Array UInt8 } : ByteArray }.toList) = false,
  (best.toList == { data := { toList := [] : Array UInt8 } : ByteArray }.toList) = false,
  (∀ (e : SV × SV × Nat), e ∈ List.take j es → keyNot best e.fst) ∧
   es[j]? =
   some
   (SV.v (Value.string best),
   SV.agg
   [SV.v (Value.string f.fst.1), SV.v (Value.int IntKind.u64 f.fst.2), SV.v (Value.int IntKind.i64 f.fst.3),
   SV.v (Value.slice f.fst.4 f.fst.5 f.fst.6)],
   f.2),
  (best.toList == { data := { toList := [] : Array UInt8 } : ByteArray }.toList) = false,
  (best.toList == { data := { toList := [] : Array UInt8 } : ByteArray }.toList) = false,
  (best.toList == { data := { toList := [] : Array UInt8 } : ByteArray }.toList) = false,
  (best.toList == { data := { toList := [] : Array UInt8 } : ByteArray }.toList) = false,
  (best.toList == { data := { toList := [] : Array UInt8 } : ByteArray }.toList) = false,
  (best.toList == { data := { toList := [] : Array UInt8 } : ByteArray }.toList) = false,
  (e.fst.3 == (0 : Int)) = true,
  (e.fst.3 == (0 : Int)) = true,
  (e.fst.3 == (0 : Int)) = true,
  ∃ stamp b,
   (seen ++ [(mC e).snd.snd]).getLast? = some stamp ∧
   cl = cl ∧ List.find? (fun e => e.snd.snd.beq stamp) es = some (SV.v (Value.string e.fst.p), valM e, b),
  true = true] := by kernel_rfl
theorem sd (s : Int) (es : List (SV × SV × Nat)) (cl : Nat) (seen : List Nat) (best best' : ByteArray) (e f : EntM) (j : Nat) : reach ESp 2 300 (nxSp s es cl seen best (mC e)) ([(0, .b true), (1, .ent (.v (.string e.1.p)) (valM e))] ++ ff [2, 3, 4] true ++ ff [5, 6, 7, 8, 9, 10] false ++ [(11, .hit j (valM f) f.2)] ++ ff [12, 13] false ++ ff [14] true ++ ff [15] false ++ ff [16] true ++ ff [17, 18, 19, 20, 21, 22] false ++ [(23, .hit j (valM f) f.2)] ++ ff [24, 25, 26, 27, 28] false ++ ff [34, 37] false ++ ff (List.range 60) true) [(0, 0), (1, 1), (2, 2)] [1] (hdSp best') 6 (objSp s es cl (seen ++ [e.2])) = [
  (0 : Nat) = (0 : Nat),
  Value.string e.fst.1 = Value.string best',
  (0 : Nat) = (0 : Nat),
  Value.int IntKind.u64 s = Value.int IntKind.u64 s,
  cl = cl,
  es = es,
  (es.all fun e => closedE e.fst && closedE e.snd.fst) = true,
  (match false with
   | true => some (0 : Nat)
   | false => List.lookup (1 : Nat) [((1 : Nat), (1 : Nat)), ((2 : Nat), (2 : Nat))]) =
   some (1 : Nat),
  cl = cl,
  seen ++ [(mC e).snd.2] = seen ++ [e.2],
  cl = cl,
  decide (cmpN e.fst.1 best < (0 : Int)) = true,
  (e.fst.3 == (0 : Int)) = true,
  decide (f.fst.2 > e.fst.2) = false,
  (e.fst.3 == (0 : Int)) = true,
  (f.fst.2 == e.fst.2) = true,
  decide (f.fst.2 > e.fst.2) = false,
  (f.fst.2 == e.fst.2) = true,
  e.fst.1.size ≤ (1000000000 : Nat) ∧ best.size ≤ (1000000000 : Nat),
  (f.fst.2 == e.fst.2) = true,
  (f.fst.2 == e.fst.2) = true,
  (f.fst.2 == e.fst.2) = true,
  decide (f.fst.2 > e.fst.2) = false,
  decide (f.fst.2 > e.fst.2) = false,
  decide (f.fst.2 > e.fst.2) = false,
  decide (f.fst.2 > e.fst.2) = false,
  decide (f.fst.2 > e.fst.2) = false,
  (∀ (e : SV × SV × Nat), e ∈ List.take j es → keyNot best e.fst) ∧
   es[j]? =
   some
   (SV.v (Value.string best),
   SV.agg
   [SV.v (Value.string f.fst.1), SV.v (Value.int IntKind.u64 f.fst.2), SV.v (Value.int IntKind.i64 f.fst.3),
   SV.v (Value.slice f.fst.4 f.fst.5 f.fst.6)],
   f.2),
  decide (f.fst.2 > e.fst.2) = false,
  decide (f.fst.2 > e.fst.2) = false,
  decide (f.fst.2 > e.fst.2) = false,
  decide (f.fst.2 > e.fst.2) = false,
  decide (f.fst.2 > e.fst.2) = false,
  decide (f.fst.2 > e.fst.2) = false,
  (e.fst.3 == (0 : Int)) = true,
  (best.toList == { data := { toList := [] : Array UInt8 } : ByteArray }.toList) = false,
  (e.fst.3 == (0 : Int)) = true,
  (best.toList == { data := { toList := [] : Array UInt8 } : ByteArray }.toList) = false,
  (best.toList == { data := { toList := [] : Array UInt8 } : ByteArray }.toList) = false,
  (∀ (e : SV × SV × Nat), e ∈ List.take j es → keyNot best e.fst) ∧
   es[j]? =
   some
   (SV.v (Value.string best),
   SV.agg
   [SV.v (Value.string f.fst.1), SV.v (Value.int IntKind.u64 f.fst.2), SV.v (Value.int IntKind.i64 f.fst.3),
   SV.v (Value.slice f.fst.4 f.fst.5 f.fst.6)],
   f.2),
  (best.toList == { data := { toList := [] : Array UInt8 } : ByteArray }.toList) = false,
  (best.toList == { data := { toList := [] : Array UInt8 } : ByteArray }.toList) = false,
  (best.toList == { data := { toList := [] : Array UInt8 } : ByteArray }.toList) = false,
  (best.toList == { data := { toList := [] : Array UInt8 } : ByteArray }.toList) = false,
  (best.toList == { data := { toList := [] : Array UInt8 } : ByteArray }.toList) = false,
  (best.toList == { data := { toList := [] : Array UInt8 } : ByteArray }.toList) = false,
  (e.fst.3 == (0 : Int)) = true,
  (e.fst.3 == (0 : Int)) = true,
  (e.fst.3 == (0 : Int)) = true,
  ∃ stamp b,
   (seen ++ [(mC e).snd.snd]).getLast? = some stamp ∧
   cl = cl ∧ List.find? (fun e => e.snd.snd.beq stamp) es = some (SV.v (Value.string e.fst.p), valM e, b),
  true = true] := by kernel_rfl
theorem se (s : Int) (es : List (SV × SV × Nat)) (cl : Nat) (seen : List Nat) (best best' : ByteArray) (e f : EntM) (j : Nat) : reach ESp 2 300 (nxSp s es cl seen best (mC e)) ([(0, .b true), (1, .ent (.v (.string e.1.p)) (valM e))] ++ ff [2, 3, 4] true ++ ff [5, 6, 7, 8, 9, 10] false ++ [(11, .hit j (valM f) f.2)] ++ ff [12, 13] false ++ ff [14] true ++ ff [15] false ++ ff [16] true ++ ff [17, 18, 19, 20, 21, 22] false ++ [(23, .hit j (valM f) f.2)] ++ ff [24, 25, 26, 27, 28] false ++ ff [34, 37, 39] false ++ ff (List.range 60) true) [(0, 0), (1, 1), (2, 2)] [1] (hdSp best') 6 (objSp s es cl (seen ++ [e.2])) = [
  (0 : Nat) = (0 : Nat),
  Value.string best = Value.string best',
  (0 : Nat) = (0 : Nat),
  Value.int IntKind.u64 s = Value.int IntKind.u64 s,
  cl = cl,
  es = es,
  (es.all fun e => closedE e.fst && closedE e.snd.fst) = true,
  (match false with
   | true => some (0 : Nat)
   | false => List.lookup (1 : Nat) [((1 : Nat), (1 : Nat)), ((2 : Nat), (2 : Nat))]) =
   some (1 : Nat),
  cl = cl,
  seen ++ [(mC e).snd.2] = seen ++ [e.2],
  cl = cl,
  decide (cmpN e.fst.1 best < (0 : Int)) = false,
  (e.fst.3 == (0 : Int)) = true,
  decide (f.fst.2 > e.fst.2) = false,
  (e.fst.3 == (0 : Int)) = true,
  (f.fst.2 == e.fst.2) = true,
  decide (f.fst.2 > e.fst.2) = false,
  (f.fst.2 == e.fst.2) = true,
  e.fst.1.size ≤ (1000000000 : Nat) ∧ best.size ≤ (1000000000 : Nat),
  (f.fst.2 == e.fst.2) = true,
  (f.fst.2 == e.fst.2) = true,
  (f.fst.2 == e.fst.2) = true,
  decide (f.fst.2 > e.fst.2) = false,
  decide (f.fst.2 > e.fst.2) = false,
  decide (f.fst.2 > e.fst.2) = false,
  decide (f.fst.2 > e.fst.2) = false,
  decide (f.fst.2 > e.fst.2) = false,
  (∀ (e : SV × SV × Nat), e ∈ List.take j es → keyNot best e.fst) ∧
   es[j]? =
   some
   (SV.v (Value.string best),
   SV.agg
   [SV.v (Value.string f.fst.1), SV.v (Value.int IntKind.u64 f.fst.2), SV.v (Value.int IntKind.i64 f.fst.3),
   SV.v (Value.slice f.fst.4 f.fst.5 f.fst.6)],
   f.2),
  decide (f.fst.2 > e.fst.2) = false,
  decide (f.fst.2 > e.fst.2) = false,
  decide (f.fst.2 > e.fst.2) = false,
  decide (f.fst.2 > e.fst.2) = false,
  decide (f.fst.2 > e.fst.2) = false,
  decide (f.fst.2 > e.fst.2) = false,
  (e.fst.3 == (0 : Int)) = true,
  (best.toList == { data := { toList := [] : Array UInt8 } : ByteArray }.toList) = false,
  (e.fst.3 == (0 : Int)) = true,
  (best.toList == { data := { toList := [] : Array UInt8 } : ByteArray }.toList) = false,
  (best.toList == { data := { toList := [] : Array UInt8 } : ByteArray }.toList) = false,
  (∀ (e : SV × SV × Nat), e ∈ List.take j es → keyNot best e.fst) ∧
   es[j]? =
   some
   (SV.v (Value.string best),
   SV.agg
   [SV.v (Value.string f.fst.1), SV.v (Value.int IntKind.u64 f.fst.2), SV.v (Value.int IntKind.i64 f.fst.3),
   SV.v (Value.slice f.fst.4 f.fst.5 f.fst.6)],
   f.2),
  (best.toList == { data := { toList := [] : Array UInt8 } : ByteArray }.toList) = false,
  (best.toList == { data := { toList := [] : Array UInt8 } : ByteArray }.toList) = false,
  (best.toList == { data := { toList := [] : Array UInt8 } : ByteArray }.toList) = false,
  (best.toList == { data := { toList := [] : Array UInt8 } : ByteArray }.toList) = false,
  (best.toList == { data := { toList := [] : Array UInt8 } : ByteArray }.toList) = false,
  (best.toList == { data := { toList := [] : Array UInt8 } : ByteArray }.toList) = false,
  (e.fst.3 == (0 : Int)) = true,
  (e.fst.3 == (0 : Int)) = true,
  (e.fst.3 == (0 : Int)) = true,
  ∃ stamp b,
   (seen ++ [(mC e).snd.snd]).getLast? = some stamp ∧
   cl = cl ∧ List.find? (fun e => e.snd.snd.beq stamp) es = some (SV.v (Value.string e.fst.p), valM e, b),
  true = true] := by kernel_rfl
theorem sf (s : Int) (es : List (SV × SV × Nat)) (cl : Nat) (seen : List Nat) (best best' : ByteArray) (e f : EntM) (j : Nat) : reach ESp 2 300 (nxSp s es cl seen best (mC e)) ([(0, .b true), (1, .ent (.v (.string e.1.p)) (valM e))] ++ ff [2, 3, 4] true ++ ff [5, 6, 7, 8, 9, 10] false ++ [(11, .hit j (valM f) f.2)] ++ ff [12, 13] false ++ ff [14] true ++ ff [15] false ++ ff [16] true ++ ff [17, 18, 19, 20, 21, 22] false ++ [(23, .hit j (valM f) f.2)] ++ ff [24, 25, 26, 27, 28] false ++ ff [35, 37] true ++ ff (List.range 60) false) [(0, 0), (1, 1), (2, 2)] [1] (hdSp best') 6 (objSp s es cl (seen ++ [e.2])) = [
  (0 : Nat) = (0 : Nat),
  Value.string best = Value.string best',
  (0 : Nat) = (0 : Nat),
  Value.int IntKind.u64 s = Value.int IntKind.u64 s,
  cl = cl,
  es = es,
  (es.all fun e => closedE e.fst && closedE e.snd.fst) = true,
  (match false with
   | true => some (0 : Nat)
   | false => List.lookup (1 : Nat) [((1 : Nat), (1 : Nat)), ((2 : Nat), (2 : Nat))]) =
   some (1 : Nat),
  cl = cl,
  seen ++ [(mC e).snd.2] = seen ++ [e.2],
  cl = cl,
  false = false,
  (e.fst.3 == (0 : Int)) = true,
  decide (f.fst.2 > e.fst.2) = false,
  (e.fst.3 == (0 : Int)) = true,
  (f.fst.2 == e.fst.2) = false,
  decide (f.fst.2 > e.fst.2) = false,
  (f.fst.2 == e.fst.2) = false,
  (f.fst.2 == e.fst.2) = false,
  (f.fst.2 == e.fst.2) = false,
  (f.fst.2 == e.fst.2) = false,
  decide (f.fst.2 > e.fst.2) = false,
  decide (f.fst.2 > e.fst.2) = false,
  decide (f.fst.2 > e.fst.2) = false,
  decide (f.fst.2 > e.fst.2) = false,
  decide (f.fst.2 > e.fst.2) = false,
  (∀ (e : SV × SV × Nat), e ∈ List.take j es → keyNot best e.fst) ∧
   es[j]? =
   some
   (SV.v (Value.string best),
   SV.agg
   [SV.v (Value.string f.fst.1), SV.v (Value.int IntKind.u64 f.fst.2), SV.v (Value.int IntKind.i64 f.fst.3),
   SV.v (Value.slice f.fst.4 f.fst.5 f.fst.6)],
   f.2),
  decide (f.fst.2 > e.fst.2) = false,
  decide (f.fst.2 > e.fst.2) = false,
  decide (f.fst.2 > e.fst.2) = false,
  decide (f.fst.2 > e.fst.2) = false,
  decide (f.fst.2 > e.fst.2) = false,
  decide (f.fst.2 > e.fst.2) = false,
  (e.fst.3 == (0 : Int)) = true,
  (best.toList == { data := { toList := [] : Array UInt8 } : ByteArray }.toList) = false,
  (e.fst.3 == (0 : Int)) = true,
  (best.toList == { data := { toList := [] : Array UInt8 } : ByteArray }.toList) = false,
  (best.toList == { data := { toList := [] : Array UInt8 } : ByteArray }.toList) = false,
  (∀ (e : SV × SV × Nat), e ∈ List.take j es → keyNot best e.fst) ∧
   es[j]? =
   some
   (SV.v (Value.string best),
   SV.agg
   [SV.v (Value.string f.fst.1), SV.v (Value.int IntKind.u64 f.fst.2), SV.v (Value.int IntKind.i64 f.fst.3),
   SV.v (Value.slice f.fst.4 f.fst.5 f.fst.6)],
   f.2),
  (best.toList == { data := { toList := [] : Array UInt8 } : ByteArray }.toList) = false,
  (best.toList == { data := { toList := [] : Array UInt8 } : ByteArray }.toList) = false,
  (best.toList == { data := { toList := [] : Array UInt8 } : ByteArray }.toList) = false,
  (best.toList == { data := { toList := [] : Array UInt8 } : ByteArray }.toList) = false,
  (best.toList == { data := { toList := [] : Array UInt8 } : ByteArray }.toList) = false,
  (best.toList == { data := { toList := [] : Array UInt8 } : ByteArray }.toList) = false,
  (e.fst.3 == (0 : Int)) = true,
  (e.fst.3 == (0 : Int)) = true,
  (e.fst.3 == (0 : Int)) = true,
  ∃ stamp b,
   (seen ++ [(mC e).snd.snd]).getLast? = some stamp ∧
   cl = cl ∧ List.find? (fun e => e.snd.snd.beq stamp) es = some (SV.v (Value.string e.fst.p), valM e, b),
  true = true] := by kernel_rfl
theorem lexN_neg:∀ x y:List UInt8,lexN y x=- lexN x y
 | [],[]=>rfl
 | [],_::_=>rfl
 | _::_,[]=>rfl
 | a::l,b::m=>by
  unfold lexN
  by_cases h1:a<b
  ·rw [if_pos h1,if_neg (lt_asy h1),if_pos h1];rfl
  ·by_cases h2:b<a
   ·rw [if_pos h2,if_neg h1,if_pos h2]
   ·rw [if_neg h1,if_neg h2,if_neg h2,if_neg h1];exact lexN_neg l m
theorem lexN_trans:∀ {x y z:List UInt8},lexN x y<0→lexN y z≤0→lexN x z<0
 | [],[],_,h,_=>by simp [lexN] at h
 | [],_::_,[],_,k=>by simp [lexN] at k
 | [],_::_,_::_,_,_=>by simp [lexN]
 | _::_,[],_,h,_=>by simp [lexN] at h
 | _::_,_::_,[],_,k=>by simp [lexN] at k
 | a::l,b::m,c::n,h,k=>by
  unfold lexN at h k ⊢
  by_cases h1:a<b
  ·by_cases k1:b<c
   ·have:a<c:=by rw [UInt8.lt_iff_toNat_lt] at *;omega
    rw [if_pos this];decide
   ·by_cases k2:c<b
    ·rw [if_neg k1,if_pos k2] at k;exact absurd k (by decide)
    ·obtain rfl:=lt_tri k1 k2
     rw [if_pos h1];decide
  ·by_cases h2:b<a
   ·rw [if_neg h1,if_pos h2] at h;exact absurd h (by decide)
   ·obtain rfl:=lt_tri h1 h2
    rw [if_neg h1,if_neg h2] at h
    by_cases k1:a<c
    ·rw [if_pos k1];decide
    ·by_cases k2:c<a
     ·rw [if_neg k1,if_pos k2] at k;exact absurd k (by decide)
     ·rw [if_neg k1,if_neg k2] at k ⊢
      exact lexN_trans h k
theorem rcN_neg:∀ x y:List (List UInt8),rcN y x=- rcN x y
 | [],[]=>rfl
 | [],_::_=>rfl
 | _::_,[]=>rfl
 | a::l,b::m=>by
  unfold rcN
  rw [lexN_neg a b]
  by_cases h:lexN a b=0
  ·rw [if_pos h,if_pos (by omega)];exact rcN_neg l m
  ·rw [if_neg h,if_neg (by omega)]
theorem rcN_eq:∀ {x y:List (List UInt8)},rcN x y=0→x=y
 | [],[],_=>rfl
 | [],_::_,h=>by simp [rcN] at h
 | _::_,[],h=>by simp [rcN] at h
 | a::l,b::m,h=>by
  unfold rcN at h
  by_cases h1:lexN a b=0
  ·rw [if_pos h1] at h;rw [lexN_eq h1,rcN_eq h]
  ·rw [if_neg h1] at h;exact absurd h h1
theorem rcN_trans:∀ {x y z:List (List UInt8)},rcN x y<0→rcN y z<0→rcN x z<0
 | [],[],_,h,_=>by simp [rcN] at h
 | [],_::_,[],_,k=>by simp [rcN] at k
 | [],_::_,_::_,_,_=>by simp [rcN]
 | _::_,[],_,h,_=>by simp [rcN] at h
 | _::_,_::_,[],_,k=>by simp [rcN] at k
 | a::l,b::m,c::n,h,k=>by
  unfold rcN at h k ⊢
  by_cases h1:lexN a b=0
  ·rw [if_pos h1] at h
   obtain rfl:=lexN_eq h1
   by_cases k1:lexN a c=0
   ·rw [if_pos k1] at k ⊢;exact rcN_trans h k
   ·rw [if_neg k1] at k ⊢;exact k
  ·rw [if_neg h1] at h
   by_cases k1:lexN b c=0
   ·obtain rfl:=lexN_eq k1
    rw [if_neg h1];exact h
   ·rw [if_neg k1] at k
    have:=lexN_trans h (Int.le_of_lt k)
    rw [if_neg (by omega)];exact this
theorem cmpN_rc (a b:ByteArray):cmpN a b=rcN (partsL a.data.toList) (partsL b.data.toList):=(rcN_cmp (a.size+1) a b (by omega)).symm
theorem cmpN_neg (a b:ByteArray):cmpN b a=- cmpN a b:=by rw [cmpN_rc,cmpN_rc,rcN_neg]
theorem cmpN_trans {a b c:ByteArray} (h:cmpN a b<0) (k:cmpN b c<0):cmpN a c<0:=by
 rw [cmpN_rc] at *;exact rcN_trans h k
def beats (f e:EntM):Prop:=e.1.v>f.1.v∨(e.1.v=f.1.v∧cmpN f.1.p e.1.p<0)
theorem beats_trans {f x e:EntM} (h:beats f x) (k:beats x e):beats f e:=by
 rcases h with h | ⟨h1,h2⟩
 ·rcases k with k | ⟨k1,k2⟩
  ·exact .inl (by omega)
  ·exact .inl (by omega)
 ·rcases k with k | ⟨k1,k2⟩
  ·exact .inl (by omega)
  ·exact .inr ⟨by omega,cmpN_trans h2 k2⟩
structure BookOK (E:List EntM) (cl:Nat):Prop where
 names:(E.map fun e=>e.1.p).Nodup
 borns:(E.map fun e=>e.2).Nodup
 born:∀ e∈E,e.2<cl
 full:∀ e∈E,e.1.p≠⟨#[]⟩
 size:∀ e∈E,e.1.p.size≤1000000000
def BestIs (E:List EntM) (seen:List Nat) (best:ByteArray):Prop:=
 (best=⟨#[]⟩∧∀ x∈E,x.2∈seen→x.1.k≠0)∨(∃ x∈E,x.1.p=best∧x.1.k=0∧x.2∈seen∧∀ y∈E,y.2∈seen→y.1.k=0→¬ beats y x)
theorem KSp {M:Own} {w0:World} (hM:∀ b,¬ M b) (h:MX w0):Facts ESp M w0:=factsP (X:=MX) (fun r hr=>by
 rw [List.mem_singleton.1 hr];exact cmp_ok) fun ν s w hr _=>h.keep fun k hk=>hr.frame k hk (hM k)
theorem nodup_idx {α β:Type} {f:α→β} {l:List α} (h:(l.map f).Nodup) {i j:Nat} {a b:α} (ha:l[i]?=some a) (hb:l[j]?=some b) (e:f a=f b):i=j:=by
 obtain ⟨hi,rfl⟩:=List.getElem?_eq_some_iff.1 ha
 obtain ⟨hj,rfl⟩:=List.getElem?_eq_some_iff.1 hb
 refine (List.getElem_inj (h₀:=by simpa using hi) (h₁:=by simpa using hj) h).1 ?_
 simpa using e
theorem find_born {E:List EntM} (hb:(E.map fun e=>e.2).Nodup) {x:EntM} (hx:x∈E):(E.map mC).find? (fun e=>Nat.beq e.2.2 x.2)=some (mC x):=by
 induction E with
 | nil=>cases hx
 | cons y E ih=>
  rw [List.map_cons,List.find?_cons]
  rw [List.map_cons,List.nodup_cons] at hb
  by_cases h:y.2=x.2
  ·have hq:Nat.beq (mC y).2.2 x.2=true:=by show Nat.beq y.2 x.2=true;rw [h];simp
   rw [hq]
   rcases List.mem_cons.1 hx with rfl | hx
   ·rfl
   ·exact absurd (List.mem_map.2 ⟨x,hx,h.symm⟩) hb.1
  ·have hq:Nat.beq (mC y).2.2 x.2=false:=by
    show Nat.beq y.2 x.2=false
    rw [Bool.eq_false_iff];intro e;exact h (Nat.eq_of_beq_eq_true e)
   rw [hq]
   rcases List.mem_cons.1 hx with rfl | hx
   ·exact absurd rfl h
   ·exact ih hb.2 hx
theorem hit_at {E:List EntM} (hn:(E.map fun e=>e.1.p).Nodup) {f:EntM} (hf:f∈E):∃ j,hitP (E.map mC) f.1.p j (valM f) f.2:=by
 obtain ⟨j,hj⟩:=List.getElem?_of_mem hf
 refine ⟨j,fun e he=>?_,by rw [List.getElem?_map,hj];rfl⟩
 rw [← List.map_take] at he
 obtain ⟨y,hy,rfl⟩:=List.mem_map.1 he
 refine ⟨y.1.p,rfl,?_⟩
 rw [Bool.eq_false_iff];intro h
 obtain ⟨i,hi⟩:=List.getElem?_of_mem hy
 have hlt:i<j:=by
  have:=(List.getElem?_eq_some_iff.1 hi).1
  rw [List.length_take] at this;omega
 rw [List.getElem?_take,if_pos hlt] at hi
 have hpe:f.1.p=y.1.p:=by
  have:(f.1.p.data==y.1.p.data)=true:=h
  have:=eq_of_beq this
  cases hfp:f.1.p;cases hyp:y.1.p;rw [hfp,hyp] at this;cases this;rfl
 have:=nodup_idx hn hi hj hpe.symm
 omega
theorem closedM (E:List EntM):((E.map mC).all fun e=>closedE e.1&&closedE e.2.1)=true:=by
 rw [List.all_eq_true];intro x hx
 obtain ⟨y,_,rfl⟩:=List.mem_map.1 hx
 rfl
end paths
end Go.Proofs.YtbjmmnegkpeboaaGreat
