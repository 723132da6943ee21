/- What the law VaultLoads leans on, part 2: the symbolic executor, proved sound, contracts of functions, plain lemmas. By an AI agent. -/
import Derived.Test.YtcbokmadfcedaaaGreatDoorPk1
import Derived.Orders
import Derived.Defers
import Derived.Laws.Externs
import Derived.ProofKit
import Derived.OpenShut
import Derived.LaidMore
import Derived.LaidHandle
import Derived.Carry
set_option linter.unusedSimpArgs false
set_option linter.unusedVariables false
namespace Go.Rx
section
variable {ν:aA} {M:Own} {w0 w:World} {s s':SH} {E:Env}

def ql (E:Env) (g:Sem Next) (ν:aA) (M:Own) (w0 w:World) (s:SH) (L:List (cz × SH)):Prop:=
 ∃ p∈L,p.2.ob→s.ob∧cx E g ν M w0 w p.1 p.2

theorem ql.one {g:Sem Next} {n:cz} (h:s'.ob→s.ob∧cx E g ν M w0 w n s'):ql E g ν M w0 w s [(n,s')]:=⟨_,List.mem_singleton.2 rfl,h⟩

theorem cx.uX {g:Sem Value} {x:SV} {y:Value} (hr:HR ν M w0 s' w) (h:g.run E.P w=.ok y w) (hx:VR ν x y):cx E (do pure (.value (← g))) ν M w0 w (.val x) s':=
 cx.rG (bD.now hr h hx)

theorem cx.value {x:SV} {y:Value} (hr:HR ν M w0 s' w) (hx:VR ν x y):cx E (pure (.value y)) ν M w0 w (.val x) s':=
 ⟨ν,w,y,aA.Le.refl _,.inl rfl,hx,hr⟩

theorem jS {tm:dG} {ρ:Operand→Value} (hρ:qa E ν tm ρ):∀ (l:List (Nat × Operand)),lq ν (l.map fun (i,x)=>(i,aL E tm x)) (l.map fun (i,x)=>(i,ρ x))
 | []=>.nil
 | (_,x)::l=>.cons (hρ x) (jS hρ l)

theorem dK {tm:dG} {ρ:Operand→Value} (hρ:qa E ν tm ρ):∀ (o:Option Operand),rV ν (o.map (aL E tm)) (o.map ρ)
 | none=>.none
 | some x=>.some (hρ x)

theorem SV.ve {x:SV} {l:List SV} {y:Value} (h:x.tuple=some l) (hv:VR ν x y):∃ a:List Value,y=.tuple a.toArray∧aj ν l a:=by
 unfold SV.tuple at h
 split at h
 ·cases h;exact VR.bN.1 hv
 ·rename_i vs
  cases h;obtain rfl:=VR.ab.1 hv;exact ⟨vs.toList,by simp,aj.lits ν _⟩
 ·cases h

theorem gN {α β:Type} (l:Array α) (f:α→β):l.map f=(l.toList.map f).toArray:=by
 apply Array.ext';simp

theorem xX {f:SV} {fv:Value} {args:List SV} {a:List Value} {d:oU} (h:mD f args=some d) (hf:VR ν f fv) (ha:aj ν args a):
  ∃ dv,xh ν d dv∧Deferred.ofValue fv a.toArray=pure dv:=by
 unfold mD at h
 split at h
 ·rename_i g x y
  cases h
  obtain rfl:=VR.ab.1 hf
  refine ⟨_,⟨y.toList,x.toList++a,rfl,aj.toList ν y,(aj.toList ν x).append ha⟩,?_⟩
  simp only [Deferred.ofValue]
  congr 2
  ·apply Array.ext';simp
 ·rename_i g x y
  cases h
  obtain ⟨x',y',rfl,hx,hy⟩:=VR.cY.1 hf
  refine ⟨_,⟨y',x'++a,rfl,hy,hx.append ha⟩,?_⟩
  simp only [Deferred.ofValue]
  congr 2
  ·apply Array.ext';simp
 ·cases h

theorem sJ {x y:SV} {xv yv:Value} {op:BinOp} {soft:Bool} {a b:ByteArray} (h:yF x y op soft=some (a,b)) (hx:VR ν x xv) (hy:VR ν y yv):xv=.string a∧yv=.string b∧op=.add:=by
 unfold yF at h
 split at h
 ·cases h
  exact ⟨VR.ab.1 hx,VR.ab.1 hy,rfl⟩
 ·cases h

theorem pM {P:Program} (w:World) (t:TypeId) (x y:Operand) {a b:ByteArray} (h:a.size+b.size≤9223372036854775807):
  (do eqGuard .add t x y (.string a) (.string b);binOp .add t (.string a) (.string b)).run P w=.ok (.string (a++b)) w:=by
 have hn:¬ (((a.size+b.size:Nat):Int)>IntKind.i64.max):=by
  have:IntKind.i64.max=9223372036854775807:=rfl
  rw [this];omega
 simp [eqGuard,binOp,Op.stringOp,hn]
 omega

theorem HG {tm:dG} {o:Oper} {L:List (cz × SH)} {ρ:Operand→Value} (h:gH E tm o s=some L) (hr:HR ν M w0 s w) (hρ:qa E ν tm ρ):
  ql E (execOp ρ o) ν M w0 w s L:=by
 have vV:∀ {x:Option SV} {g:Sem Value},(x.map fun x=>[(cz.val x,s)])=some L→(∀ x0,x=some x0→∃ y,g.run E.P w=.ok y w∧VR ν x0 y)→ql E (do pure (.value (← g))) ν M w0 w s L:=by
  intro x g h hg
  cases x with
  | none=>cases h
  | some x0=>
   cases h
   obtain ⟨y,hrun,hy⟩:=hg x0 rfl
   exact .one fun ob=>⟨ob,.uX hr hrun hy⟩
 have vsV:∀ {x:Option (SV × SH)} {g:Sem Value},(x.map fun x=>[(cz.val x.1,x.2)])=some L→(∀ x0 s',x=some (x0,s')→s'.ob→s.ob∧bD E.P g ν M w0 w x0 s')→ql E (do pure (.value (← g))) ν M w0 w s L:=by
  intro x g h hg
  cases x with
  | none=>cases h
  | some p=>
   obtain ⟨x0,s'⟩:=p
   cases h
   exact .one fun ob=>⟨(hg x0 s' rfl ob).1,.rG (hg x0 s' rfl ob).2⟩
 have uV:∀ {x:Option SH} {g:Sem Unit},(x.map fun s=>[(cz.val (.v undef),s)])=some L→(∀ s',x=some s'→s'.ob→s.ob∧qz E.P g ν M w0 w s')→ql E (do g;pure .skip) ν M w0 w s L:=by
  intro x g h hg
  cases x with
  | none=>cases h
  | some s'=>cases h;exact .one fun ob=>⟨(hg s' rfl ob).1,.Nu (hg s' rfl ob).2⟩
 have pureV:∀ (hk:jk o.op=true),((eJ E tm o).map fun x=>[(cz.val x,s)])=some L→ql E (execOp ρ o) ν M w0 w s L:=by
  intro hk h
  cases hp:eJ E tm o with
  | none=>rw [hp] at h;cases h
  | some x=>rw [hp] at h;cases h;exact .one fun ob=>⟨ob,Ca hk hp hρ hr⟩
 obtain ⟨dst,op,type,pos,aft,guard⟩:=o
 cases op with
 | move x=>cases h;exact .one fun ob=>⟨ob,.value hr (hρ x)⟩
 | assign x=>cases h;exact .one fun ob=>⟨ob,.value hr (hρ x)⟩
 | pick c a b=>
  simp only [gH] at h
  split at h
  ·rename_i t hc
   have hcv:=hρ c
   rw [hc] at hcv
   have hcv:=VR.ab.1 hcv
   cases hdec:s.dec E t with
   | mk u s1=>
   rw [hdec] at h
   cases h
   obtain ⟨hsame,hob⟩:=SH.dR hdec
   refine .one fun ob=>⟨(hob ob).1,ν,w,if u=true then ρ a else ρ b,aA.Le.refl _,.inl ?_,?_,hr.same hsame⟩
   ·have:=(hob ob).2
    simp [execOp,hcv,asBool,this]
   ·cases u
    ·exact hρ b
    ·exact hρ a
  ·cases h
 | alloc t=>
  exact vsV h fun x0 s' e ob=>by
   obtain ⟨h1,h2⟩:=zY (E:=E) e hr
   exact ⟨h1 ▸ ob,h2⟩
 | box t x=>
  exact vsV h fun x0 s' e ob=>by
   obtain ⟨h1,h2⟩:=um (E:=E) e hr (hρ x)
   exact ⟨h1 ▸ ob,h2⟩
 | build t ps=>
  refine vV h fun x0 e=>?_
  have:=sc (w:=w) e (jS hρ ps.toList)
  rw [gN];exact this
 | buildSlice t n ps=>
  refine vsV h fun x0 s' e ob=>?_
  obtain ⟨h1,h2⟩:=qY e hr (jS hρ ps.toList)
  refine ⟨h1 ▸ ob,?_⟩
  rw [gN];exact h2
 | insert t m k x=>exact uV h fun s' e ob=>kI e hr (hρ m) (hρ k) (hρ x) ob
 | load t a=>
  refine vsV h fun x0 s' e ob=>?_
  obtain ⟨hsame,hg⟩:=lU e hr (hρ a)
  obtain ⟨ob0,y,hrun,hy⟩:=hg ob
  exact ⟨ob0,bD.now (hr.same hsame) hrun hy⟩
 | store t a x=>
  refine uV h fun s' e ob=>?_
  exact sk e hr (hρ a) (hρ x) ob
 | ready g=>cases h
 | waits g=>cases h
 | nilCheck x=>
  have hx:=hρ x
  simp only [gH] at h
  split at h
  ·rename_i i off hc
   rw [hc] at hx
   cases h
   obtain ⟨b,hb,he⟩:=VR.aw.1 hx
   refine .one fun ob=>⟨ob,ν,w,ρ x,aA.Le.refl _,.inl ?_,hx,hr⟩
   simp only [execOp,he,Sem.run_pure]
  ·rename_i t y hc
   rw [hc] at hx
   cases h
   obtain ⟨b,he,hb⟩:=VR.aK.1 hx
   refine .one fun ob=>⟨ob,ν,w,ρ x,aA.Le.refl _,.inl ?_,hx,hr⟩
   simp only [execOp,he,Sem.run_pure]
  ·rename_i f a b hc
   rw [hc] at hx
   cases h
   obtain ⟨a',b',he,_⟩:=VR.cY.1 hx
   refine .one fun ob=>⟨ob,ν,w,ρ x,aA.Le.refl _,.inl ?_,hx,hr⟩
   simp only [execOp,he,Sem.run_pure]
  ·rename_i i hc
   rw [hc] at hx
   cases h
   obtain ⟨b,hb,he⟩:=VR.dV.1 hx
   refine .one fun ob=>⟨ob,ν,w,ρ x,aA.Le.refl _,.inl ?_,hx,hr⟩
   simp only [execOp,he,Sem.run_pure]
  ·rename_i f a b hc
   rw [hc] at hx
   cases h
   have he:=VR.ab.1 hx
   refine .one fun ob=>⟨ob,ν,w,ρ x,aA.Le.refl _,.inl ?_,hx,hr⟩
   simp only [execOp,he,Sem.run_pure]
  ·cases h
 | binOp op t x y yt=>
  simp only [gH] at h
  split at h
  ·rename_i r he
   cases h
   obtain ⟨p,hs,hrun⟩:=zl (r:=r.1) (s':=r.2) he (hρ x) (hρ y)
   refine .one fun ob=>?_
   rw [hs] at ob
   obtain ⟨ob0,hp⟩:=ob
   refine ⟨ob0,?_⟩
   rw [hs]
   exact .uX (hr.same (SH.aH _ _)) (y:=.bool r.1) (hrun _ _ _ hp) (VR.ab.2 rfl)
  split at h
  ·rename_i a b hab
   cases h
   refine .one fun ob=>?_
   obtain ⟨ob0,hle⟩:=ob
   obtain ⟨hx,hy,rfl⟩:=sJ hab (hρ x) (hρ y)
   refine ⟨ob0,.uX (hr.same (SH.aH _ _)) (y:=.string (a++b)) ?_ (VR.ab.2 rfl)⟩
   rw [hx,hy];exact pM w t x y hle
  split at h
  ·exact pureV rfl h
  ·have ef:∀ (r:Bool) (s':SH),uL E t (aL E tm x) (aL E tm y) s=some (r,s')→_:=fun r s' e=>lP (w:=w) e (hρ x) (hρ y)
   split at h
   ·cases he:uL E t (aL E tm x) (aL E tm y) s with
    | none=>
     rw [he] at h
     cases hfar:fx E t (aL E tm x) (aL E tm y) s
     ·rw [hfar] at h;exact pureV rfl h
     ·rw [hfar] at h
      simp only [cond_true] at h
      cases h
      obtain ⟨h1,h2,h3,_⟩:=qO hfar hr (hρ x) (hρ y)
      refine .one fun ob=>⟨ob,.uX hr (y:=.bool false) ?_ (VR.ab.2 rfl)⟩
      simp only [Sem.run_bind,h2,Result.andThen_ok,h3,h1,Sem.run_pure]
    | some p=>
     obtain ⟨r,s1⟩:=p
     rw [he] at h;cases h
     obtain ⟨rfl,h1,h2,h3,_⟩:=ef r s1 he
     refine .one fun ob=>⟨ob,.uX hr (y:=.bool r) ?_ (VR.ab.2 rfl)⟩
     simp only [Sem.run_bind,h2,Result.andThen_ok,h3,h1,Sem.run_pure]
   ·cases he:uL E t (aL E tm x) (aL E tm y) s with
    | none=>
     rw [he] at h
     cases hfar:fx E t (aL E tm x) (aL E tm y) s
     ·rw [hfar] at h;exact pureV rfl h
     ·rw [hfar] at h
      simp only [cond_true] at h
      cases h
      obtain ⟨h1,h2,_,h3⟩:=qO hfar hr (hρ x) (hρ y)
      refine .one fun ob=>⟨ob,.uX hr (y:=.bool true) ?_ (VR.ab.2 rfl)⟩
      simp only [Sem.run_bind,h2,Result.andThen_ok,h3,h1,Sem.run_pure,Bool.not_false]
    | some p=>
     obtain ⟨r,s1⟩:=p
     rw [he] at h;cases h
     obtain ⟨rfl,h1,h2,_,h3⟩:=ef r s1 he
     refine .one fun ob=>⟨ob,.uX hr (y:=.bool !r) ?_ (VR.ab.2 rfl)⟩
     simp only [Sem.run_bind,h2,Result.andThen_ok,h3,h1,Sem.run_pure]
   ·cases h
 | unOp op t x=>exact pureV rfl h
 | convert src dst x=>
  simp only [gH] at h
  split at h
  ·rename_i r hc
   refine vsV (x:=some r) h fun x0 s' e ob=>?_
   cases e
   exact wm hc hr (hρ x) ob
  ·split at h
   ·exact pureV rfl h
   ·cases h
 | sliceToArrayPointer dst x=>cases h
 | makeInterface t x=>
  simp only [gH] at h
  split at h
  ·cases h
  ·rename_i d hnd hd
   refine vV (x:=some _) h fun x0 e=>?_
   cases e
   refine ⟨.iface t (ρ x),?_,VR.aK.2 ⟨_,rfl,hρ x⟩⟩
   simp only [Instr.makeInterface,Sem.run_bind,run_underlying (by assumption),Result.andThen_ok]
   cases d <;> first | rfl | exact (hnd _ rfl).elim
  ·cases h
 | makeFunc fn a b=>
  simp only [gH] at h
  split at h
  ·refine vV (x:=some _) h fun x0 e=>?_
   cases e
   refine ⟨_,rfl,VR.cY.2 ⟨_,_,?_,fg hρ a,fg hρ b⟩⟩
   rw [gN a,gN b]
  ·cases h
 | makeMap t r=>
  cases r with
  | some r=>cases h
  | none=>
   simp only [gH] at h
   cases hn:cC (.map [] 0) s with
   | none=>rw [hn] at h;cases h
   | some p=>
    obtain ⟨i,s1⟩:=p
    rw [hn] at h;cases h
    obtain ⟨hob,ν',hle,hi,hr'⟩:=dN hn hr 0 (r:=.map #[] 0) (fun _ _ _=>⟨[],rfl,rfl⟩)
    refine .one fun ob=>⟨hob ▸ ob,.rG ⟨ν',_,_,hle,?_,VR.bM.2 ⟨_,hi,rfl⟩,hr'⟩⟩
    simp only [Instr.makeMap,Option.map_none,Sem.run_bind,run_newObj,Result.andThen_ok,Sem.run_pure]
 | makeChan t x=>cases h
 | makeSlice t l c=>
  exact vsV h fun x0 s' e ob=>by
   obtain ⟨h1,h2⟩:=rM e hr (hρ l) (hρ c)
   exact ⟨h1 ▸ ob,h2⟩
 | slice t x lo hi mx=>
  simp only [gH] at h
  split at h
  ·rename_i r hc
   refine vsV (x:=some r) h fun x0 s' e ob=>?_
   cases e
   obtain ⟨hsame,hg⟩:=kb (w:=w) hc (hρ x) (dK hρ lo) (dK hρ hi) (dK hρ mx)
   obtain ⟨ob0,y,hrun,hy⟩:=hg ob
   exact ⟨ob0,bD.now (hr.same hsame) hrun hy⟩
  ·split at h
   ·rename_i l hl
    cases h
    obtain ⟨p,hp,hsame,hg⟩:=pL (w:=w) hl (hρ x) (dK hρ lo) (dK hρ hi) (dK hρ mx)
    refine ⟨_,List.mem_map.2 ⟨p,hp,rfl⟩,fun ob=>?_⟩
    obtain ⟨ob0,y,hrun,hy⟩:=hg ob
    exact ⟨ob0,.rG (bD.now (hr.same hsame) hrun hy)⟩
   split at h
   ·exact pureV rfl h
   ·cases h
 | fieldAddr t x f=>exact vV h fun x0 e=>kP e (hρ x)
 | field t x f=>
  simp only [gH] at h
  split at h
  ·exact pureV rfl h
  ·exact vV h fun x0 e=>sK e (hρ x)
 | indexAddr t x i=>
  refine vsV h fun x0 s' e ob=>?_
  obtain ⟨hsame,hg⟩:=fw (w:=w) e (hρ x) (hρ i)
  obtain ⟨ob0,y,hrun,hy⟩:=hg ob
  exact ⟨ob0,bD.now (hr.same hsame) hrun hy⟩
 | index t x i=>
  refine vsV h fun x0 s' e ob=>?_
  obtain ⟨hsame,hg⟩:=j3 (w:=w) e (hρ x) (hρ i)
  obtain ⟨ob0,y,hrun,hy⟩:=hg ob
  exact ⟨ob0,bD.now (hr.same hsame) hrun hy⟩
 | lookup t m k ok=>
  refine vsV h fun x0 s' e ob=>?_
  obtain ⟨hsame,hg⟩:=qV e hr (hρ m) (hρ k)
  obtain ⟨ob0,y,hrun,hy⟩:=hg ob
  exact ⟨ob0,bD.now (hr.same hsame) hrun hy⟩
 | mapUpdate t m k x=>exact uV h fun s' e ob=>kI e hr (hρ m) (hρ k) (hρ x) ob
 | mapEntry t m k=>exact vsV h fun x0 s' e ob=>tO e hr (hρ m) (hρ k) ob
 | entryStore t m st x=>
  refine uV h fun s' e ob=>?_
  obtain ⟨h1,h2⟩:=q8 (t:=t) e hr (hρ m) (hρ st) (hρ x)
  exact ⟨h1 ▸ ob,h2⟩
 | range t x=>
  refine vsV h fun x0 s' e ob=>?_
  obtain ⟨h1,h2⟩:=Ab e hr (hρ x)
  exact ⟨h1 ▸ ob,h2⟩
 | next it b=>
  simp only [gH] at h
  cases hn:pf (aL E tm it) b s with
  | none=>rw [hn] at h;cases h
  | some l=>
   rw [hn] at h;cases h
   obtain ⟨p,hp,hob,hg⟩:=yb (ty:=type) hn hr (hρ it)
   exact ⟨_,List.mem_map.2 ⟨p,hp,rfl⟩,fun ob=>⟨hob ▸ ob,.rG hg⟩⟩
 | typeAssert x xt at_ ok=>
  simp only [gH] at h
  split at h
  ·exact pureV rfl h
  ·exact vV h fun x0 e=>jJ (xt:=xt) e (hρ x)
 | entry it=>
  simp only [gH] at h
  split at h
  ·rename_i r he
   cases h
   obtain ⟨hsame,hq⟩:=xV (y:=r.1) (s':=r.2) he
   refine .one fun ob=>?_
   obtain ⟨ob0,hx⟩:=hq ob
   obtain ⟨v,hrun,hv⟩:=sU (E:=E) hx hr (hρ it)
   exact ⟨ob0,.uX (hr.same hsame) hrun hv⟩
  ·exact vV h fun x0 e=>sU e hr (hρ it)
 | extract t i=>
  simp only [gH] at h
  split at h
  ·rename_i l hl
   refine vV h fun x0 e=>?_
   obtain ⟨a,he,ha⟩:=SV.ve hl (hρ t)
   obtain ⟨y,hy,hv⟩:=ha.get e
   refine ⟨y,?_,hv⟩
   rw [he]
   simp [Instr.extract,hy]
  ·cases h
 | call c=>
  obtain ⟨callee,args,ats⟩:=c
  have ha:=fg hρ args
  have harr:args.map ρ=(args.toList.map ρ).toArray:=by apply Array.ext';simp
  cases callee with
  | value f=>
   simp only [gH] at h
   cases hc:jt (aL E tm f) (fO E tm args) with
   | none=>rw [hc] at h;cases h
   | some n=>
    rw [hc] at h;cases h
    refine .one fun ob=>⟨ob,?_⟩
    have:=nf (E:=E) hc (hρ f) ha hr
    simpa only [execOp,resolve,harr] using this
  | invoke r name=>
   simp only [gH] at h
   cases hc:pg E (aL E tm r) name (fO E tm args) with
   | none=>rw [hc] at h;cases h
   | some n=>
    rw [hc] at h;cases h
    refine .one fun ob=>⟨ob,?_⟩
    have:=xu (E:=E) hc (hρ r) ha hr
    simp only [execOp,resolve,harr];exact this
  | builtin b=>
   simp only [gH] at h
   split at h
   ·rename_i r hc
    obtain ⟨x0,s1⟩:=r
    cases h
    refine .one fun ob=>?_
    have:=uO (ty:=type) (cs:=args.map fun | .const _=>true | _=>false) hc ha hr ob
    refine ⟨this.1,?_⟩
    simp only [execOp,resolve,harr];exact this.2
   ·exact pureV rfl h
 | go c=>cases h
 | defer c=>
  obtain ⟨callee,args,ats⟩:=c
  have ha:=fg hρ args
  have harr:args.map ρ=(args.toList.map ρ).toArray:=by apply Array.ext';simp
  cases callee with
  | value f=>
   simp only [gH] at h
   cases hc:mD (aL E tm f) (fO E tm args) with
   | none=>rw [hc] at h;cases h
   | some d=>
    rw [hc] at h;cases h
    obtain ⟨dv,hd,hrun⟩:=xX hc (hρ f) ha
    refine .one fun ob=>⟨ob,dv,hd,hr,?_⟩
    simp only [execOp,resolve,harr,hrun];rfl
  | invoke r name=>cases h
  | builtin b=>cases h
 | panic x=>cases h
 | send c x=>cases h
 | recv t c ok=>cases h
 | select cs b=>cases h

end

def bitsOf (acc:Array Nat) (o:Oper):Nat:=o.after.toList.foldl (fun s e=>if Region.binds .any e then s ||| 2 ^ e.on ||| acc.getD e.on 0 else s) 0

theorem Ag (ops:Array Oper):Region.before ops=ops.toList.foldl (fun acc o=>acc.push (bitsOf acc o)) #[]:=by
 unfold Region.before
 rw [← Array.foldl_toList]
 congr 1
 funext acc o
 rw [bitsOf,← Array.foldl_toList]

theorem nj (l:List Oper):∀ (acc:Array Nat),(l.foldl (fun acc o=>acc.push (bitsOf acc o)) acc).size=acc.size+l.length∧
  ∀ i,i<acc.size→(l.foldl (fun acc o=>acc.push (bitsOf acc o)) acc).getD i 0=acc.getD i 0:=by
 induction l with
 | nil=>intro acc;exact ⟨rfl,fun _ _=>rfl⟩
 | cons o l ih=>
  intro acc
  obtain ⟨h1,h2⟩:=ih (acc.push (bitsOf acc o))
  refine ⟨by simp only [List.foldl_cons,h1,Array.size_push,List.length_cons];omega,fun i hi=>?_⟩
  simp only [List.foldl_cons]
  rw [h2 i (by simp;omega)]
  rw [Array.getD_eq_getD_getElem?,Array.getD_eq_getD_getElem?,Array.getElem?_push,if_neg (by omega)]

theorem vf (acc:Array Nat) (o:Oper) (j:Nat):(bitsOf acc o).testBit j=true↔∃ e∈o.after.toList,Region.binds .any e=true∧(e.on=j∨(acc.getD e.on 0).testBit j=true):=by
 unfold bitsOf
 have key:∀ (l:List Edge) (s:Nat),(l.foldl (fun s e=>if Region.binds .any e then s ||| 2 ^ e.on ||| acc.getD e.on 0 else s) s).testBit j=true ↔
   s.testBit j=true∨∃ e∈l,Region.binds .any e=true∧(e.on=j∨(acc.getD e.on 0).testBit j=true):=by
  intro l
  induction l with
  | nil=>intro s;simp
  | cons e l ih=>
   intro s
   simp only [List.foldl_cons]
   rw [ih]
   by_cases hb:Region.binds .any e=true
   ·rw [if_pos hb]
    simp only [Nat.testBit_or,Bool.or_eq_true,Nat.testBit_two_pow,decide_eq_true_eq,List.mem_cons,exists_eq_or_imp,hb,true_and]
    constructor
    ·rintro ((h | h) | h)
     ·rcases h with h | h
      ·exact .inl h
      ·exact .inr (.inl (.inl h))
     ·exact .inr (.inl (.inr h))
     ·exact .inr (.inr h)
    ·rintro (h | (h | h) | h)
     ·exact .inl (.inl (.inl h))
     ·exact .inl (.inl (.inr h))
     ·exact .inl (.inr h)
     ·exact .inr h
   ·rw [if_neg hb]
    simp only [List.mem_cons,exists_eq_or_imp,Bool.not_eq_true] at hb ⊢
    simp only [hb,Bool.false_eq_true,false_and,false_or]
 rw [key]
 simp

theorem oB {ops:Array Oper} {i j:Nat} {o:Oper} (ho:ops[i]?=some o) (hok:eB ops=true):
  ((Region.before ops).getD i 0).testBit j=true↔∃ e∈o.after.toList,Region.binds .any e=true∧(e.on=j∨((Region.before ops).getD e.on 0).testBit j=true):=by
 obtain ⟨hi,hoi⟩:=Array.getElem?_eq_some_iff.1 ho
 have hsplit:ops.toList=ops.toList.take i++o::ops.toList.drop (i+1):=by
  have h1:ops.toList.drop i=o::ops.toList.drop (i+1):=by
   rw [List.drop_eq_getElem_cons (by simpa using hi)]
   simp [hoi]
  rw [← h1,List.take_append_drop]
 let pre:=(ops.toList.take i).foldl (fun acc o=>acc.push (bitsOf acc o)) (#[]:Array Nat)
 have hpre:pre.size=i:=by
  have:=(nj (ops.toList.take i) #[]).1
  simp only [pre];rw [this];simp;omega
 have hbf:Region.before ops=(ops.toList.drop (i+1)).foldl (fun acc o=>acc.push (bitsOf acc o)) (pre.push (bitsOf pre o)):=by
  rw [Ag]
  conv=>lhs;rw [hsplit]
  rw [List.foldl_append,List.foldl_cons]
 have hgi:(Region.before ops).getD i 0=bitsOf pre o:=by
  rw [hbf,(nj _ _).2 i (by simp [hpre])]
  rw [Array.getD_eq_getD_getElem?,Array.getElem?_push,if_pos hpre.symm]
  rfl
 have hlow:∀ k,k<i→(Region.before ops).getD k 0=pre.getD k 0:=by
  intro k hk
  rw [hbf,(nj _ _).2 k (by simp [hpre];omega)]
  rw [Array.getD_eq_getD_getElem?,Array.getD_eq_getD_getElem?,Array.getElem?_push,if_neg (by omega)]
 have hedge:∀ e∈o.after.toList,Region.binds .any e=true→e.on<i:=by
  intro e he hb
  have h1:=List.all_eq_true.1 hok i (by simpa using hi)
  rw [ho] at h1
  have h2:=List.all_eq_true.1 h1 e he
  rw [hb] at h2
  exact ca.1 (by simpa using h2)
 rw [hgi,vf]
 constructor
 ·rintro ⟨e,he,hb,h⟩
  refine ⟨e,he,hb,h.imp id fun h=>?_⟩
  rwa [hlow e.on (hedge e he hb)]
 ·rintro ⟨e,he,hb,h⟩
  refine ⟨e,he,hb,h.imp id fun h=>?_⟩
  rwa [← hlow e.on (hedge e he hb)]

theorem su {ops:Array Oper} (hok:eB ops=true):∀ {i j:Nat},i<ops.size→((Region.before ops).getD i 0).testBit j=true→j<i:=by
 intro i
 induction i using Nat.strongRecOn with
 | _ i ih=>
  intro j hi hb
  have ho:ops[i]?=some ops[i]:=Array.getElem?_eq_getElem hi
  obtain ⟨e,he,hbd,h⟩:=(oB ho hok).1 hb
  have h1:=List.all_eq_true.1 hok i (by simpa using hi)
  rw [ho] at h1
  have h2:=List.all_eq_true.1 h1 e he
  rw [hbd] at h2
  have hlt:e.on<i:=ca.1 (by simpa using h2)
  rcases h with h | h
  ·omega
  ·have:=ih e.on hlt (by omega) h
   omega

structure Order (ops:Array Oper) (L:List Nat):Prop where
 nodup:L.Nodup
 all:∀ i,i∈L↔i<ops.size
 ord:L.Pairwise fun a b=>((Region.before ops).getD a 0).testBit b=false
 irr:∀ i∈L,((Region.before ops).getD i 0).testBit i=false


structure yS (ops:Array Oper) (listed:Array Bool) (acc:List Nat):Prop where
 size:listed.size=ops.size
 mem:∀ i,i<ops.size→(listed.getD i true=true↔i∈acc)
 lt:∀ i∈acc,i<ops.size
 nodup:acc.Nodup
 closed:∀ i∈acc,∀ j,((Region.before ops).getD i 0).testBit j=true→j∈acc
 ord:acc.Pairwise fun b a=>((Region.before ops).getD a 0).testBit b=false
 irr:∀ i∈acc,((Region.before ops).getD i 0).testBit i=false

theorem je {l:Array Bool} {i:Nat} (h:i<l.size):l.getD i true=l.getD i false:=by
 simp [Array.getD,h]

theorem AF (acc:List Nat):∀ i,i ∉ acc→∃ k,k≤i∧k ∉ acc∧∀ j,j<k→j∈acc:=by
 intro i
 induction i using Nat.strongRecOn with
 | _ i ih=>
  intro hi
  by_cases h:∃ j,j<i∧j ∉ acc
  ·obtain ⟨j,hj,hn⟩:=h
   obtain ⟨k,hk,h1,h2⟩:=ih j hj hn
   exact ⟨k,by omega,h1,h2⟩
  ·exact ⟨i,Nat.le_refl _,hi,fun j hj=>Classical.byContradiction fun hn=>h ⟨j,hj,hn⟩⟩

theorem ud {ops:Array Oper} (hok:eB ops=true):∀ (fuel t:Nat) (listed:Array Bool) (acc:List Nat),yS ops listed acc→acc.length+fuel=ops.size→
  ∃ L,Region.linearise.go .any ops fuel t listed acc=L.reverse∧yS ops (Array.replicate ops.size true) L:=by
 have hlen_le:∀ (l:List Nat),l.Nodup→(∀ i∈l,i<ops.size)→l.length≤ops.size:=by
  intro l h1 h2
  have:=List.Nodup.length_le_of_subset (l₂:=List.range ops.size) h1 (fun i hi=>List.mem_range.2 (h2 i hi))
  simpa using this
 intro fuel
 induction fuel with
 | zero=>
  intro t listed acc h hlen
  refine ⟨acc,rfl,by simp,fun i hi=>?_,h.lt,h.nodup,h.closed,h.ord,h.irr⟩
  have h1:(Array.replicate ops.size true).getD i true=true:=by
   rw [Array.getD_eq_getD_getElem?];simp [hi]
  simp only [h1,true_iff]
  refine Classical.byContradiction fun hn=>?_
  have:=hlen_le (i::acc) (List.nodup_cons.2 ⟨hn,h.nodup⟩) (fun j hj=>by
   rcases List.mem_cons.1 hj with rfl | hj
   ·exact hi
   ·exact h.lt j hj)
  simp at this;omega
 | succ fuel ih=>
  intro t listed acc h hlen
  unfold Region.linearise.go
  generalize hrs:((List.range ops.size).filter fun i=>!listed.getD i true&&((ops[i]?).map (·.after.all fun e=>!Region.binds .any e||listed.getD e.on false)).getD false)=rs
  have hmem:∀ i,i∈rs→i<ops.size∧i ∉ acc∧∃ o,ops[i]?=some o∧∀ e∈o.after.toList,Region.binds .any e=true→e.on∈acc:=by
   intro i hi
   rw [← hrs,List.mem_filter] at hi
   obtain ⟨h1,h2⟩:=hi
   have h1:=List.mem_range.1 h1
   rw [Bool.and_eq_true] at h2
   obtain ⟨h2,h3⟩:=h2
   refine ⟨h1,fun hc=>?_,?_⟩
   ·rw [(h.mem i h1).2 hc] at h2;cases h2
   ·obtain ⟨o,ho⟩:∃ o,ops[i]?=some o:=⟨_,Array.getElem?_eq_getElem h1⟩
    refine ⟨o,ho,fun e he hb=>?_⟩
    rw [ho] at h3
    simp only [Option.map_some,Option.getD_some] at h3
    have h4:=Array.all_eq_true'.1 h3 e (by simpa using he)
    rw [hb] at h4
    have h4:listed.getD e.on false=true:=by simpa using h4
    have hlt:e.on<listed.size:=by
     refine Classical.byContradiction fun hn=>?_
     rw [Array.getD_eq_getD_getElem?,Array.getElem?_eq_none (by omega)] at h4
     cases h4
    exact (h.mem e.on (by rw [← h.size];exact hlt)).1 (by rw [je hlt];exact h4)
  have hne:0<rs.length:=by
   obtain ⟨i,hi,hn⟩:∃ i,i<ops.size∧i ∉ acc:=by
    refine Classical.byContradiction fun hc=>?_
    have hall:∀ i,i<ops.size→i∈acc:=fun i hi=>Classical.byContradiction fun hn=>hc ⟨i,hi,hn⟩
    have:=List.Nodup.length_le_of_subset (l₁:=List.range ops.size) (l₂:=acc) List.nodup_range (fun i hi=>hall i (List.mem_range.1 hi))
    simp at this;omega
   obtain ⟨k,hk,hkn,hall⟩:=AF acc i hn
   have hks:k<ops.size:=by omega
   obtain ⟨o,ho⟩:∃ o,ops[k]?=some o:=⟨_,Array.getElem?_eq_getElem hks⟩
   have:k∈rs:=by
    rw [← hrs,List.mem_filter]
    refine ⟨List.mem_range.2 hks,?_⟩
    rw [Bool.and_eq_true]
    refine ⟨?_,?_⟩
    ·cases hl:listed.getD k true
     ·rfl
     ·exact absurd ((h.mem k hks).1 hl) hkn
    ·rw [ho]
     simp only [Option.map_some,Option.getD_some]
     rw [Array.all_eq_true']
     intro e he
     cases hb:Region.binds .any e
     ·rfl
     ·have hlt:e.on<k:=by
       have h1:=List.all_eq_true.1 hok k (by simpa using hks)
       rw [ho] at h1
       have h2:=List.all_eq_true.1 h1 e (by simpa using he)
       rw [hb] at h2
       exact ca.1 (by simpa using h2)
      have hin:=hall e.on hlt
      have:=(h.mem e.on (by omega)).2 hin
      rw [je (by rw [h.size];omega)] at this
      simpa using this
   exact List.length_pos_of_mem this
  have hlt:t % rs.length<rs.length:=Nat.mod_lt _ hne
  dsimp only
  rw [List.getElem?_eq_getElem hlt]
  dsimp only
  generalize hk:rs[t % rs.length]=k
  obtain ⟨hks,hkn,o,ho,hed⟩:=hmem k (by rw [← hk];exact List.getElem_mem hlt)
  have hbits:∀ j,((Region.before ops).getD k 0).testBit j=true→j∈acc:=by
   intro j hj
   obtain ⟨e,he,hb,h1⟩:=(oB ho hok).1 hj
   have hin:=hed e he hb
   rcases h1 with rfl | h1
   ·exact hin
   ·exact h.closed e.on hin j h1
  refine ih _ _ _ ⟨by simp [h.size],fun i hi=>?_,fun i hi=>?_,List.nodup_cons.2 ⟨hkn,h.nodup⟩,fun i hi j hj=>?_,List.pairwise_cons.2 ⟨fun a ha=>?_,h.ord⟩,fun i hi=>?_⟩ (by simp;omega)
  ·rw [Array.getD_eq_getD_getElem?,Array.getElem?_setIfInBounds]
   by_cases e:k=i
   ·subst e;simp [h.size,hks]
   ·rw [if_neg e,← Array.getD_eq_getD_getElem?,h.mem i hi]
    simp [Ne.symm e]
  ·rcases List.mem_cons.1 hi with rfl | hi
   ·exact hks
   ·exact h.lt i hi
  ·rcases List.mem_cons.1 hi with rfl | hi
   ·exact List.mem_cons_of_mem _ (hbits j hj)
   ·exact List.mem_cons_of_mem _ (h.closed i hi j hj)
  ·cases hb:((Region.before ops).getD a 0).testBit k
   ·rfl
   ·exact absurd (h.closed a ha k hb) hkn
  ·rcases List.mem_cons.1 hi with rfl | hi
   ·cases hb:((Region.before ops).getD i 0).testBit i
    ·rfl
    ·exact absurd (hbits i hb) hkn
   ·exact h.irr i hi

theorem vC {ops:Array Oper} (hok:eB ops=true) (t:Nat):Order ops (Region.schedule true ops t):=by
 have:Region.schedule true ops t=Region.linearise .any ops t:=by simp [Region.schedule]
 rw [this]
 unfold Region.linearise
 obtain ⟨L,hL,h⟩:=ud hok ops.size t (Array.replicate ops.size false) [] ⟨by simp,fun i hi=>by
  rw [Array.getD_eq_getD_getElem?];simp [hi],by simp,List.nodup_nil,by simp,List.Pairwise.nil,by simp⟩ (by simp)
 rw [hL]
 refine ⟨?_,fun i=>?_,?_,fun i hi=>h.irr i (by simpa using hi)⟩
 ·have:=h.nodup
  unfold List.Nodup at this ⊢
  rw [List.pairwise_reverse]
  exact this.imp fun e=>e.symm
 ·rw [List.mem_reverse]
  constructor
  ·exact h.lt i
  ·intro hi
   exact (h.mem i hi).1 (by rw [Array.getD_eq_getD_getElem?];simp [hi])
 ·rw [List.pairwise_reverse];exact h.ord

section
variable {ν:aA} {M:Own} {w0 w:World} {s s':SH} {E:Env}

mutual
theorem VR.func1 {ν:aA}:∀ (s:SV) (x y:Value),s.mG=true→VR ν s x→VR ν s y→x=y
 | .aM,_,_,h,_,_=>by cases h
 | .v _,_,_,_,hx,hy=>by rw [VR.ab.1 hx,VR.ab.1 hy]
 | .ptr _ _,_,_,_,hx,hy=>by
  obtain ⟨b,hb,rfl⟩:=VR.aw.1 hx;obtain ⟨c,hc,rfl⟩:=VR.aw.1 hy;rw [hb] at hc;cases hc;rfl
 | .sl _ _ _ _,_,_,_,hx,hy=>by
  obtain ⟨b,hb,_,rfl⟩:=VR.ay.1 hx;obtain ⟨c,hc,_,rfl⟩:=VR.ay.1 hy;rw [hb] at hc;cases hc;rfl
 | .map _,_,_,_,hx,hy=>by
  obtain ⟨b,hb,rfl⟩:=VR.bM.1 hx;obtain ⟨c,hc,rfl⟩:=VR.bM.1 hy;rw [hb] at hc;cases hc;rfl
 | .agg l,_,_,h,hx,hy=>by
  obtain ⟨a,rfl,ha⟩:=VR.aW.1 hx;obtain ⟨b,rfl,hb⟩:=VR.aW.1 hy
  rw [aj.func1 l a b h ha hb]
 | .tup l,_,_,h,hx,hy=>by
  obtain ⟨a,rfl,ha⟩:=VR.bN.1 hx;obtain ⟨b,rfl,hb⟩:=VR.bN.1 hy
  rw [aj.func1 l a b h ha hb]
 | .iface _ x,_,_,h,hx,hy=>by
  obtain ⟨a,rfl,ha⟩:=VR.aK.1 hx;obtain ⟨b,rfl,hb⟩:=VR.aK.1 hy
  rw [VR.func1 x a b h ha hb]
 | .func _ p q,_,_,h,hx,hy=>by
  obtain ⟨a,a',rfl,ha,ha'⟩:=VR.cY.1 hx;obtain ⟨b,b',rfl,hb,hb'⟩:=VR.cY.1 hy
  rw [SV.mG,Bool.and_eq_true] at h
  rw [aj.func1 p a b h.1 ha hb,aj.func1 q a' b' h.2 ha' hb']
 | .yield _,_,_,_,hx,hy=>by
  obtain ⟨b,hb,rfl⟩:=VR.dV.1 hx;obtain ⟨c,hc,rfl⟩:=VR.dV.1 hy;rw [hb] at hc;cases hc;rfl
 | .fin _ _ _ _,_,_,_,hx,hy=>by
  obtain ⟨b,hb,rfl⟩:=VR.dy.1 hx;obtain ⟨c,hc,rfl⟩:=VR.dy.1 hy;rw [hb] at hc;cases hc;rfl
theorem aj.func1 {ν:aA}:∀ (l:List SV) (a b:List Value),ni l=true→aj ν l a→aj ν l b→a=b
 | [],_,_,_,ha,hb=>by rw [ha.aq,hb.aq]
 | x::xs,_,_,h,ha,hb=>by
  obtain ⟨y,ys,rfl,hy,hys⟩:=ha.cons_inv;obtain ⟨z,zs,rfl,hz,hzs⟩:=hb.cons_inv
  rw [ni,Bool.and_eq_true] at h
  rw [VR.func1 x y z h.1 hy hz,aj.func1 xs ys zs h.2 hys hzs]
end

theorem sq {x y:Value} {s s':SH} (h:tx E x y s=some s'):s.cb s'∧(s'.ob→s.ob∧x=y):=by
 unfold tx at h
 split at h
 ·rename_i k x k' y
  cases hb:(k==k')
  ·rw [hb] at h;cases h
  ·rw [hb] at h
   obtain ⟨hsame,hob⟩:=SH.c8 h
   have hb:k=k':=by simpa using hb
   exact ⟨hsame,fun ob=>⟨(hob ob).1,by have:=(hob ob).2;have:x=y:=(by simpa using this);rw [hb,this]⟩⟩
 ·rename_i x y
  obtain ⟨hsame,hob⟩:=SH.c8 h
  exact ⟨hsame,fun ob=>⟨(hob ob).1,by rw [(iS _ _).1 (hob ob).2]⟩⟩
 ·rename_i x y
  obtain ⟨hsame,hob⟩:=SH.c8 h
  exact ⟨hsame,fun ob=>⟨(hob ob).1,by have:=(hob ob).2;have:x=y:=(by simpa using this);rw [this]⟩⟩
 ·cases h;exact ⟨.refl _,fun ob=>⟨ob,rfl⟩⟩
 ·cases h;exact ⟨.refl _,fun ob=>⟨ob,rfl⟩⟩
 ·cases h;exact ⟨.refl _,fun ob=>⟨ob,rfl⟩⟩
 ·rename_i a l c b m d
  obtain ⟨hsame,hob⟩:=SH.c8 h
  refine ⟨hsame,fun ob=>⟨(hob ob).1,?_⟩⟩
  obtain ⟨rfl,rfl,rfl⟩:=of_decide_eq_true (hob ob).2
  rfl
 ·cases h;exact ⟨.refl _,fun ob=>⟨ob,rfl⟩⟩
 ·rename_i f a b g c d
  cases hb:(f==g&&(a.size==0&&b.size==0)&&(c.size==0&&d.size==0))
  ·rw [hb] at h;cases h
  ·rw [hb] at h;cases h
   simp only [Bool.and_eq_true] at hb
   obtain ⟨⟨h1,h2,h3⟩,h4,h5⟩:=hb
   have h1:f=g:=by simpa using h1
   have h2:a=#[]:=by simpa using h2
   have h3:b=#[]:=by simpa using h3
   have h4:c=#[]:=by simpa using h4
   have h5:d=#[]:=by simpa using h5
   exact ⟨.refl _,fun ob=>⟨ob,by rw [h1,h2,h3,h4,h5]⟩⟩
 ·cases h

theorem kV:∀ {a b:List Value} {s s':SH},my E a b s=some s'→s.cb s'∧(s'.ob→s.ob∧a=b)
 | [],[],_,_,h=>by cases h;exact ⟨.refl _,fun ob=>⟨ob,rfl⟩⟩
 | [],_::_,_,_,h=>by cases h
 | _::_,[],_,_,h=>by cases h
 | x::xs,y::ys,s,s',h=>by
  simp only [my] at h
  obtain ⟨s1,h1,h2⟩:=Option.bind_eq_some_iff.1 h
  obtain ⟨e1,e2⟩:=sq h1
  obtain ⟨e3,e4⟩:=kV h2
  exact ⟨e1.trans e3,fun ob=>⟨(e2 (e4 ob).1).1,by rw [(e4 ob).2,(e2 (e4 ob).1).2]⟩⟩

theorem xH {x y:Value} {s s':SH} (h:uM E x y s=some s'):s.cb s'∧(s'.ob→s.ob∧x=y):=by
 unfold uM at h
 split at h
 ·obtain ⟨e1,e2⟩:=kV h
  exact ⟨e1,fun ob=>⟨(e2 ob).1,by rw [Array.toList_inj.1 (e2 ob).2]⟩⟩
 ·obtain ⟨e1,e2⟩:=kV h
  exact ⟨e1,fun ob=>⟨(e2 ob).1,by rw [Array.toList_inj.1 (e2 ob).2]⟩⟩
 ·exact sq h

theorem yQ {b:Bool} {p:Prop} (hp:b=true→p) (h:s.Iu b p=some s'):s.cb s'∧(s'.ob→s.ob∧p):=by
 unfold SH.Iu at h
 cases hs:s.soft
 ·rw [hs] at h
  cases b
  ·cases h
  ·cases h;exact ⟨.refl _,fun ob=>⟨ob,hp rfl⟩⟩
 ·rw [hs] at h;cases h;exact ⟨SH.aH _ _,fun ob=>ob⟩

mutual
theorem py:∀ {x y:SV} {s s':SH},jK E x y s=some s'→s.cb s'∧(s'.ob→s.ob∧x=y)
 | .ptr i o,y,s,s',h=>by
  simp only [jK] at h
  split at h
  ·rename_i j p
   cases hb:(i==j)
   ·rw [hb] at h;cases h
   ·rw [hb] at h
    have hb:i=j:=by simpa using hb
    obtain ⟨e1,e2⟩:=yQ (fun hp=>by simpa using hp) h
    exact ⟨e1,fun ob=>⟨(e2 ob).1,by rw [hb,(e2 ob).2]⟩⟩
  ·cases h
 | .map i,y,s,s',h=>by
  simp only [jK] at h
  split at h
  ·rename_i j
   cases hb:(i==j)
   ·rw [hb] at h;cases h
   ·rw [hb] at h;cases h
    exact ⟨.refl _,fun ob=>⟨ob,by simpa using hb⟩⟩
  ·cases h
 | .sl i o l c,y,s,s',h=>by
  simp only [jK] at h
  split at h
  ·rename_i j p m d
   cases hb:(i==j)
   ·rw [hb] at h;cases h
   ·rw [hb] at h
    have hb:i=j:=by simpa using hb
    obtain ⟨e1,e2⟩:=yQ (fun hp=>by
     rw [Bool.and_eq_true,Bool.and_eq_true] at hp
     obtain ⟨⟨h2,h3⟩,h4⟩:=hp
     have h2:o=p:=by simpa using h2
     have h3:l=m:=by simpa using h3
     have h4:c=d:=by simpa using h4
     exact ⟨h2,h3,h4⟩) h
    exact ⟨e1,fun ob=>⟨(e2 ob).1,by obtain ⟨h2,h3,h4⟩:=(e2 ob).2;rw [hb,h2,h3,h4]⟩⟩
  ·cases h
 | .fin i o l a,y,s,s',h=>by
  simp only [jK] at h
  split at h
  ·rename_i j p m b
   cases hb:(i==j)
   ·rw [hb] at h;cases h
   ·rw [hb] at h
    have hb:i=j:=by simpa using hb
    obtain ⟨e1,e2⟩:=yQ (fun hp=>by
     rw [Bool.and_eq_true,Bool.and_eq_true] at hp
     obtain ⟨⟨h2,h3⟩,h4⟩:=hp
     have h2:o=p:=by simpa using h2
     have h3:l=m:=by simpa using h3
     have h4:a=b:=by simpa using h4
     exact ⟨h2,h3,h4⟩) h
    exact ⟨e1,fun ob=>⟨(e2 ob).1,by obtain ⟨h2,h3,h4⟩:=(e2 ob).2;rw [hb,h2,h3,h4]⟩⟩
  ·cases h
 | .yield i,y,s,s',h=>by
  simp only [jK] at h
  split at h
  ·rename_i j
   cases hb:(i==j)
   ·rw [hb] at h;cases h
   ·rw [hb] at h;cases h
    exact ⟨.refl _,fun ob=>⟨ob,by simpa using hb⟩⟩
  ·cases h
 | .iface t x,y,s,s',h=>by
  simp only [jK] at h
  split at h
  ·rename_i u y
   cases hb:(t==u)
   ·rw [hb] at h;cases h
   ·rw [hb] at h
    obtain ⟨h1,h2⟩:=py (x:=x) (y:=y) h
    have hb:t=u:=by simpa using hb
    exact ⟨h1,fun ob=>⟨(h2 ob).1,by rw [hb,(h2 ob).2]⟩⟩
  ·cases h
 | .agg l,y,s,s',h=>by
  simp only [jK] at h
  split at h
  ·rename_i m
   obtain ⟨h1,h2⟩:=jv (l:=l) (m:=m) h
   exact ⟨h1,fun ob=>⟨(h2 ob).1,by rw [(h2 ob).2]⟩⟩
  ·cases h
 | .tup l,y,s,s',h=>by
  simp only [jK] at h
  split at h
  ·rename_i m
   obtain ⟨h1,h2⟩:=jv (l:=l) (m:=m) h
   exact ⟨h1,fun ob=>⟨(h2 ob).1,by rw [(h2 ob).2]⟩⟩
  ·cases h
 | .func f a b,y,s,s',h=>by
  simp only [jK] at h
  split at h
  ·rename_i f g c d
   cases hb:(f==g)
   ·rw [hb] at h;cases h
   ·rw [hb] at h
    have hb:f=g:=by simpa using hb
    obtain ⟨s1,h1,h2⟩:=Option.bind_eq_some_iff.1 h
    obtain ⟨e1,e2⟩:=jv (l:=a) (m:=c) h1
    obtain ⟨e3,e4⟩:=jv (l:=b) (m:=d) h2
    exact ⟨e1.trans e3,fun ob=>⟨(e2 (e4 ob).1).1,by rw [hb,(e4 ob).2,(e2 (e4 ob).1).2]⟩⟩
  ·cases h
 | .aM,y,s,s',h=>by simp [jK] at h
 | .v x,y,s,s',h=>by
  simp only [jK] at h
  split at h
  ·rename_i y
   obtain ⟨h1,h2⟩:=xH h
   exact ⟨h1,fun ob=>⟨(h2 ob).1,by rw [(h2 ob).2]⟩⟩
  ·cases h
theorem jv:∀ {l m:List SV} {s s':SH},oD E l m s=some s'→s.cb s'∧(s'.ob→s.ob∧l=m)
 | [],m,s,s',h=>by
  simp only [oD] at h
  split at h
  ·cases h;exact ⟨.refl _,fun ob=>⟨ob,rfl⟩⟩
  ·cases h
 | x::xs,m,s,s',h=>by
  simp only [oD] at h
  split at h
  ·rename_i y ys
   obtain ⟨s1,h1,h2⟩:=Option.bind_eq_some_iff.1 h
   obtain ⟨e1,e2⟩:=py (x:=x) (y:=y) h1
   obtain ⟨e3,e4⟩:=jv (l:=xs) (m:=ys) h2
   exact ⟨e1.trans e3,fun ob=>⟨(e2 (e4 ob).1).1,by rw [(e4 ob).2,(e2 (e4 ob).1).2]⟩⟩
  ·cases h
end

def cX (E:Env) (g:Sem Next) (ν:aA) (w:World) (x:SV) (looksIn:Bool):Prop:=
 (∃ y,g.run E.P w=.ok (.value y) w∧VR ν x y)∧(looksIn=false→∀ w,∃ y,g.run E.P w=.ok (.value y) w∧VR ν x y)

theorem cX.rG {g:Sem Value} {x:SV} {b:Bool} (h:∀ w,∃ y,g.run E.P w=.ok y w∧VR ν x y):cX E (do pure (.value (← g))) ν w x b:=by
 have:∀ w,∃ y,((do pure (.value (← g)):Sem Next)).run E.P w=.ok (.value y) w∧VR ν x y:=by
  intro w
  obtain ⟨y,hy,hv⟩:=h w
  exact ⟨y,by simp [hy],hv⟩
 exact ⟨this w,fun _=>this⟩

theorem cX.CQ {g:Sem Value} {x:SV} (h:∃ y,g.run E.P w=.ok y w∧VR ν x y):cX E (do pure (.value (← g))) ν w x true:=by
 obtain ⟨y,hy,hv⟩:=h
 exact ⟨⟨y,by simp [hy],hv⟩,by intro h;cases h⟩

theorem oM {tm:dG} {o:Oper} {x:SV} (hk:jk o.op=true) (h:eJ E tm o=some x) {ρ:Operand→Value} (hρ:qa E ν tm ρ) (b:Bool):
  cX E (execOp ρ o) ν w x b:=by
 unfold eJ at h
 cases hp:jo E tm o.op.operands.toList
 ·rw [hp] at h;cases h
 ·rw [hp] at h
  simp only [cond_true] at h
  split at h
  ·rename_i v hrun
   cases h
   have hc:=Go.Rx.execOp_congr hk (wO hp hρ)
   have:∀ w,∃ y,(execOp ρ o).run E.P w=.ok (.value y) w∧VR ν (.v v) y:=fun w=>⟨v,by rw [hc];exact ch hrun w,VR.ab.2 rfl⟩
   exact ⟨this w,fun _=>this⟩
  ·cases h

theorem pT {tm:dG} {o:Oper} {x:SV} {ρ:Operand→Value} (hf:fL o.op=true) (hnc:∀ a b c,o.op≠.convert a b c) (hnf:∀ op t a b yt,o.op=.binOp op t a b yt→fx E t (aL E tm a) (aL E tm b) s=false) (h:gH E tm o s=some [(.val x,s')]) (hr:HR ν M w0 s w) (hρ:qa E ν tm ρ):
  s.cb s'∧(s'.ob→s.ob∧cX E (execOp ρ o) ν w x (looks o.op)):=by
 obtain ⟨dst,op,type,pos,aft,guard⟩:=o
 have hval:∀ (z:Operand),cX E (pure (.value (ρ z))) ν w (aL E tm z) false:=fun z=>
  ⟨⟨_,rfl,hρ z⟩,fun _ w=>⟨_,rfl,hρ z⟩⟩
 have vV:∀ {z:Option SV} {g:Sem Value} {b:Bool},(z.map fun x=>[(cz.val x,s)])=some [(.val x,s')]→(∀ x0,z=some x0→∀ w,∃ y,g.run E.P w=.ok y w∧VR ν x0 y)→
   s.cb s'∧(s'.ob→s.ob∧cX E (do pure (.value (← g))) ν w x b):=by
  intro z g b h hg
  cases z with
  | none=>cases h
  | some x0=>cases h;exact ⟨.refl _,fun ob=>⟨ob,.rG (hg x rfl)⟩⟩
 have pureV:∀ {o:Oper} (hk:jk o.op=true) (b:Bool),((eJ E tm o).map fun x=>[(cz.val x,s)])=some [(.val x,s')]→s.cb s'∧(s'.ob→s.ob∧cX E (execOp ρ o) ν w x b):=by
  intro o hk b h
  cases hp:eJ E tm o with
  | none=>rw [hp] at h;cases h
  | some x0=>rw [hp] at h;cases h;exact ⟨.refl _,fun ob=>⟨ob,oM hk hp hρ b⟩⟩
 have vsV:∀ {z:Option (SV × SH)} {g:Sem Value} {b:Bool},(z.map fun x=>[(cz.val x.1,x.2)])=some [(.val x,s')]→
   (∀ x0 s1,z=some (x0,s1)→s.cb s1∧(s1.ob→s.ob∧∀ w,∃ y,g.run E.P w=.ok y w∧VR ν x0 y))→s.cb s'∧(s'.ob→s.ob∧cX E (do pure (.value (← g))) ν w x b):=by
  intro z g b h hg
  cases z with
  | none=>cases h
  | some p=>
   obtain ⟨x0,s1⟩:=p
   cases h
   obtain ⟨h1,h2⟩:=hg _ _ rfl
   exact ⟨h1,fun ob=>⟨(h2 ob).1,.rG (h2 ob).2⟩⟩
 have lsV:∀ {z:Option (SV × SH)} {g:Sem Value},(z.map fun x=>[(cz.val x.1,x.2)])=some [(.val x,s')]→
   (∀ x0 s1,z=some (x0,s1)→s.cb s1∧(s1.ob→s.ob∧∃ y,g.run E.P w=.ok y w∧VR ν x0 y))→s.cb s'∧(s'.ob→s.ob∧cX E (do pure (.value (← g))) ν w x true):=by
  intro z g h hg
  cases z with
  | none=>cases h
  | some p=>
   obtain ⟨x0,s1⟩:=p
   cases h
   obtain ⟨h1,h2⟩:=hg _ _ rfl
   exact ⟨h1,fun ob=>⟨(h2 ob).1,.CQ (h2 ob).2⟩⟩
 cases op <;> try cases hf
 case convert a b c=>exact (hnc a b c rfl).elim
 case move z=>cases h;exact ⟨.refl _,fun ob=>⟨ob,hval z⟩⟩
 case pick c a b=>
  simp only [gH] at h
  split at h
  ·rename_i t hc
   have hcv:=hρ c
   rw [hc] at hcv
   have hcv:=VR.ab.1 hcv
   cases hdec:s.dec E t with
   | mk u s1=>
   rw [hdec] at h
   cases h
   obtain ⟨hsame,hob⟩:=SH.dR hdec
   refine ⟨hsame,fun ob=>⟨(hob ob).1,?_⟩⟩
   have hu:=(hob ob).2
   have:∀ w,∃ y,(execOp ρ { dst:=dst,op:=.pick c a b,type:=type,pos:=pos,after:=aft,guard:=guard }).run E.P w=.ok (.value y) w∧VR ν (bif u then aL E tm a else aL E tm b) y:=by
    intro w
    refine ⟨if u=true then ρ a else ρ b,by simp [execOp,hcv,asBool,hu],?_⟩
    cases u
    ·exact hρ b
    ·exact hρ a
   exact ⟨this w,fun _=>this⟩
  ·cases h
 case build t ps=>
  refine vV h fun x0 e w=>?_
  have:=sc (w:=w) e (jS hρ ps.toList)
  rw [gN];exact this
 case load t a=>
  exact lsV h fun x0 s1 e=>lU e hr (hρ a)
 case nilCheck z=>
  have hx:=hρ z
  have go:∀ {y:SV},aL E tm z=y→(execOp ρ { dst:=dst,op:=.nilCheck z,type:=type,pos:=pos,after:=aft,guard:=guard }=pure (.value (ρ z)))→[(cz.val y,s)]=[(cz.val x,s')]→
    s.cb s'∧(s'.ob→s.ob∧cX E (execOp ρ { dst:=dst,op:=.nilCheck z,type:=type,pos:=pos,after:=aft,guard:=guard }) ν w x false):=by
   intro y hy he h
   cases h
   rw [he,← hy]
   exact ⟨.refl _,fun ob=>⟨ob,hval z⟩⟩
  simp only [gH] at h
  split at h
  ·rename_i i off hc
   rw [hc] at hx
   obtain ⟨b,hb,he⟩:=VR.aw.1 hx
   exact go hc (by simp only [execOp,he]) (Option.some.inj h)
  ·rename_i t y hc
   rw [hc] at hx
   obtain ⟨b,he,hb⟩:=VR.aK.1 hx
   exact go hc (by simp only [execOp,he]) (Option.some.inj h)
  ·rename_i f a b hc
   rw [hc] at hx
   obtain ⟨a',b',he,_⟩:=VR.cY.1 hx
   exact go hc (by simp only [execOp,he]) (Option.some.inj h)
  ·rename_i i hc
   rw [hc] at hx
   obtain ⟨b,hb,he⟩:=VR.dV.1 hx
   exact go hc (by simp only [execOp,he]) (Option.some.inj h)
  ·rename_i f a b hc
   rw [hc] at hx
   have he:=VR.ab.1 hx
   exact go hc (by simp only [execOp,he]) (Option.some.inj h)
  ·cases h
 case binOp op t a b yt=>
  simp only [gH] at h
  split at h
  ·rename_i r he
   obtain ⟨p,hs,hrun⟩:=zl (r:=r.1) (s':=r.2) he (hρ a) (hρ b)
   obtain ⟨r1,r2⟩:=r
   dsimp only at hs hrun h
   subst hs
   cases h
   refine ⟨SH.aH _ _,fun ob=>?_⟩
   obtain ⟨ob0,hp⟩:=ob
   exact ⟨ob0,.rG fun w=>⟨.bool r1,hrun _ _ _ hp,VR.ab.2 rfl⟩⟩
  split at h
  ·rename_i p q hab
   cases h
   refine ⟨SH.aH _ _,fun ob=>?_⟩
   obtain ⟨ob0,hle⟩:=ob
   obtain ⟨hx,hy,rfl⟩:=sJ hab (hρ a) (hρ b)
   refine ⟨ob0,.rG fun w=>⟨.string (p++q),?_,VR.ab.2 rfl⟩⟩
   rw [hx,hy];exact pM w t a b hle
  split at h
  ·exact pureV (o:={ dst:=dst,op:=.binOp op t a b yt,type:=type,pos:=pos,after:=aft,guard:=guard }) rfl _ h
  ·split at h
   ·cases he:uL E t (aL E tm a) (aL E tm b) s with
    | none=>
     rw [he] at h
     rw [hnf _ _ _ _ _ rfl] at h
     simp only [cond_false] at h
     exact pureV (o:={ dst:=dst,op:=.binOp _ t a b yt,type:=type,pos:=pos,after:=aft,guard:=guard }) rfl _ h
    | some p=>
     obtain ⟨r,s1⟩:=p
     rw [he] at h;cases h
     have hs:=(lP (w:=w) he (hρ a) (hρ b)).1
     subst hs
     refine ⟨.refl _,fun ob=>⟨ob,.rG fun w=>⟨.bool r,?_,VR.ab.2 rfl⟩⟩⟩
     obtain ⟨_,h1,h2,h3,_⟩:=lP (w:=w) he (hρ a) (hρ b)
     simp only [Sem.run_bind,h2,Result.andThen_ok,h3,h1,Sem.run_pure]
   ·cases he:uL E t (aL E tm a) (aL E tm b) s with
    | none=>
     rw [he] at h
     rw [hnf _ _ _ _ _ rfl] at h
     simp only [cond_false] at h
     exact pureV (o:={ dst:=dst,op:=.binOp _ t a b yt,type:=type,pos:=pos,after:=aft,guard:=guard }) rfl _ h
    | some p=>
     obtain ⟨r,s1⟩:=p
     rw [he] at h;cases h
     have hs:=(lP (w:=w) he (hρ a) (hρ b)).1
     subst hs
     refine ⟨.refl _,fun ob=>⟨ob,.rG fun w=>⟨.bool !r,?_,VR.ab.2 rfl⟩⟩⟩
     obtain ⟨_,h1,h2,_,h3⟩:=lP (w:=w) he (hρ a) (hρ b)
     simp only [Sem.run_bind,h2,Result.andThen_ok,h3,h1,Sem.run_pure]
   ·cases h
 case unOp op t a=>exact pureV (o:={ dst:=dst,op:=.unOp op t a,type:=type,pos:=pos,after:=aft,guard:=guard }) rfl _ h
 case makeInterface t a=>
  simp only [gH] at h
  split at h
  ·cases h
  ·rename_i d hnd hd
   refine vV (z:=some _) h fun x0 e w=>?_
   cases e
   refine ⟨.iface t (ρ a),?_,VR.aK.2 ⟨_,rfl,hρ a⟩⟩
   simp only [Instr.makeInterface,Sem.run_bind,run_underlying (by assumption),Result.andThen_ok]
   cases d <;> first | rfl | exact (hnd _ rfl).elim
  ·cases h
 case makeFunc fn a b=>
  simp only [gH] at h
  split at h
  ·refine vV (z:=some _) h fun x0 e w=>?_
   cases e
   refine ⟨_,rfl,VR.cY.2 ⟨_,_,?_,fg hρ a,fg hρ b⟩⟩
   rw [gN a,gN b]
  ·cases h
 case slice t a lo hi mx=>
  simp only [gH] at h
  split at h
  ·rename_i r hc
   refine vsV (z:=some r) h fun x0 s1 e=>?_
   cases e
   have h1:=(kb (w:=w) hc (hρ a) (dK hρ lo) (dK hρ hi) (dK hρ mx)).1
   refine ⟨h1,fun ob=>⟨((kb (w:=w) hc (hρ a) (dK hρ lo) (dK hρ hi) (dK hρ mx)).2 ob).1,fun w=>((kb (w:=w) hc (hρ a) (dK hρ lo) (dK hρ hi) (dK hρ mx)).2 ob).2⟩⟩
  ·split at h
   ·rename_i l hl
    obtain ⟨p0,_,_,_,_,rfl,_⟩:=vR hl
    cases h
    have key:∀ w,s.cb p0.2∧(p0.2.ob→s.ob∧∃ yv,(Instr.sliceAt t (ρ a) (lo.map ρ) (hi.map ρ) (mx.map ρ)).run E.P w=.ok yv w∧VR ν p0.1 yv):=fun w=>by
     obtain ⟨p,hp,h1,h2⟩:=pL (w:=w) hl (hρ a) (dK hρ lo) (dK hρ hi) (dK hρ mx)
     rw [List.mem_singleton.1 hp] at h1 h2;exact ⟨h1,h2⟩
    exact ⟨(key w).1,fun ob=>⟨((key w).2 ob).1,.rG fun w=>((key w).2 ob).2⟩⟩
   split at h
   ·exact pureV (o:={ dst:=dst,op:=.slice t a lo hi mx,type:=type,pos:=pos,after:=aft,guard:=guard }) rfl _ h
   ·cases h
 case fieldAddr t a f=>exact vV h fun x0 e w=>kP e (hρ a)
 case field t a f=>
  simp only [gH] at h
  split at h
  ·exact pureV (o:={ dst:=dst,op:=.field t a f,type:=type,pos:=pos,after:=aft,guard:=guard }) rfl _ h
  ·exact vV h fun x0 e w=>sK e (hρ a)
 case indexAddr t a i=>
  refine vsV h fun x0 s1 e=>?_
  exact ⟨(fw (w:=w) e (hρ a) (hρ i)).1,fun ob=>⟨((fw (w:=w) e (hρ a) (hρ i)).2 ob).1,fun w=>((fw (w:=w) e (hρ a) (hρ i)).2 ob).2⟩⟩
 case index t a i=>
  refine vsV h fun x0 s1 e=>?_
  exact ⟨(j3 (w:=w) e (hρ a) (hρ i)).1,fun ob=>⟨((j3 (w:=w) e (hρ a) (hρ i)).2 ob).1,fun w=>((j3 (w:=w) e (hρ a) (hρ i)).2 ob).2⟩⟩
 case lookup t m k ok=>exact lsV h fun x0 s1 e=>qV e hr (hρ m) (hρ k)
 case typeAssert a xt at_ ok=>
  simp only [gH] at h
  split at h
  ·exact pureV (o:={ dst:=dst,op:=.typeAssert a xt at_ ok,type:=type,pos:=pos,after:=aft,guard:=guard }) rfl _ h
  ·exact vV h fun x0 e w=>jJ (xt:=xt) e (hρ a)
 case extract t i=>
  simp only [gH] at h
  split at h
  ·rename_i l hl
   refine vV h fun x0 e w=>?_
   obtain ⟨a,he,ha⟩:=SV.ve hl (hρ t)
   obtain ⟨y,hy,hv⟩:=ha.get e
   refine ⟨y,?_,hv⟩
   rw [he]
   simp [Instr.extract,hy]
  ·cases h
 case call c=>
  obtain ⟨callee,args,ats⟩:=c
  cases callee with
  | value f=>cases hf
  | invoke r n=>cases hf
  | builtin b=>
   simp only [gH] at h
   split at h
   ·rename_i r hc
    obtain ⟨x0,s1⟩:=r
    have hx:x0=x∧s1=s':=by
     have:=Option.some.inj h
     simpa using this
    obtain ⟨rfl,rfl⟩:=hx
    have harr:args.map ρ=(args.toList.map ρ).toArray:=by apply Array.ext';simp
    have ha:=fg hρ args
    have look:∀ {y:Value},(builtin b ats type (args.map fun | .const _=>true | _=>false) (args.toList.map ρ).toArray).run E.P w=.ok (.value y) w→VR ν x0 y→
      cX E (execOp ρ { dst:=dst,op:=.call { callee:=.builtin b,args:=args,argTypes:=ats },type:=type,pos:=pos,after:=aft,guard:=guard }) ν w x0 true:=by
     intro y h1 h2
     refine ⟨⟨y,?_,h2⟩,by intro h;cases h⟩
     simp only [execOp,resolve,harr];exact h1
    cases b <;> try cases hf
    case h_1.cap.refl=>
     simp only [ep] at hc
     split at hc
     ·rename_i t ts z hats hargs
      cases hz:sC E t z with
      | none=>rw [hz] at hc;cases hc
      | some y0=>
      rw [hz] at hc;cases hc
      rw [hargs] at ha
      obtain ⟨y,ys,hl,hy,hys⟩:=ha.cons_inv
      obtain rfl:=hys.aq
      obtain ⟨yv,hrun,hv⟩:=wG (w:=w) (ats:=ats) (ty:=type) hz (by rw [iP hats];simp) hy
      refine ⟨.refl _,fun ob=>⟨ob,look (y:=yv) ?_ hv⟩⟩
      rw [hl];simp only [builtin,Sem.run_bind,hrun,Result.andThen_ok,Sem.run_pure]
     ·cases hc
    case h_1.len.refl=>
     simp only [ep] at hc
     split at hc
     ·rename_i t ts z hats hargs
      cases hz:s7 E t z s with
      | none=>rw [hz] at hc;cases hc
      | some y0=>
      rw [hz] at hc;cases hc
      rw [hargs] at ha
      obtain ⟨y,ys,hl,hy,hys⟩:=ha.cons_inv
      obtain rfl:=hys.aq
      obtain ⟨yv,hrun,hv⟩:=vk (ats:=ats) (ty:=type) hz (by rw [iP hats];simp) hy hr
      refine ⟨.refl _,fun ob=>⟨ob,look (y:=yv) ?_ hv⟩⟩
      rw [hl];simp only [builtin,Sem.run_bind,hrun,Result.andThen_ok,Sem.run_pure]
     ·cases hc
    all_goals (simp only [ep] at hc;cases hc)
   ·exact pureV (o:={ dst:=dst,op:=.call { callee:=.builtin b,args:=args,argTypes:=ats },type:=type,pos:=pos,after:=aft,guard:=guard }) rfl _ h

theorem uF {src dst:TypeId} {a x:SV} {xv:Value} (h:mX E src dst a s=some x) (hr:HR ν M w0 s w) (ha:VR ν a xv):∃ y,(convert src dst xv).run E.P w=.ok y w∧VR ν x y:=by
 unfold mX at h
 split at h
 ·rename_i e i off len cap hs hd
  split at h
  ·rename_i xs el fz ext mk he hl
   revert h
   cases hb:Nat.ble (off+len) xs.length
   ·intro h;cases h
   ·intro h
    simp only [cond_true] at h
    obtain ⟨ns,hbs,rfl⟩:=Option.map_eq_some_iff.1 h
    have hg:=Nat.le_of_ble_eq_true hb
    obtain ⟨b,hb,_,rfl⟩:=VR.ay.1 ha
    obtain ⟨_,_,b',o,hb',ho,hor,_⟩:=hr.look hl
    rw [hb] at hb';cases hb'
    obtain ⟨ys,rest,rfl,hvl,_⟩:=hor
    have hlen:=hvl.length
    have hcells:=run_loadCells (P:=E.P) (w:=w) (b:=b.1) (off:=off) (n:=len) (vs:=(ys.drop off).take len) (by
     intro k hk
     rw [bZ ho,List.getElem?_take,if_pos hk,List.getElem?_drop]
     have:off+k<ys.length:=by omega
     simp [List.getElem?_append_left this]) (by simp;omega)
    rw [lj hbs ((hvl.drop off).take len)] at hcells
    refine ⟨_,?_,VR.ab.2 rfl⟩
    rw [run_convert_bytes_string w src dst e _ _ _ hs he hd,run_bytesToString w _ _ _ ns hcells,fy]
  ·cases h
 ·cases h

theorem A8 {src dst:TypeId} {a x:SV} {xv:Value} (h:qS E src dst a s=some (x,s')) (hr:HR ν M w0 s w) (ha:VR ν a xv):s.cb s'∧(s'.ob→s.ob∧∃ y,(convert src dst xv).run E.P w=.ok y w∧VR ν x y):=by
 unfold qS at h
 split at h
 ·unfold gi at h
  split at h
  ·rename_i e i off len cap hs hd
   split at h
   ·rename_i xs he hl
    cases h
    refine ⟨SH.aH _ _,fun ob=>?_⟩
    obtain ⟨ob0,hcells,hlen⟩:=ob
    obtain ⟨c,hc,_,rfl⟩:=VR.ay.1 ha
    obtain ⟨ys,hrun,hv,hyl⟩:=iK (E:=E) hl hr hc hcells (by rw [← hlen];simp)
    have hrun:=hrun w.drawn
    rw [nH hv] at hrun
    refine ⟨ob0,_,?_,VR.ab.2 rfl⟩
    rw [run_convert_bytes_string w src dst e _ _ _ hs he hd,run_bytesToString w _ _ _ _ hrun,fy,gX]
   ·cases h
  ·cases h
 ·obtain ⟨r,h1,h2⟩:=Option.map_eq_some_iff.1 h
  cases h2
  exact ⟨.refl _,fun ob=>⟨ob,uF h1 hr ha⟩⟩

theorem Be {tm:dG} {o:Oper} {x:SV} {ρ:Operand→Value} (hf:fL o.op=true) (h:zS E tm o s=some [(.val x,s')]) (hr:HR ν M w0 s w) (hρ:qa E ν tm ρ):
  s.cb s'∧(s'.ob→s.ob∧cX E (execOp ρ o) ν w x (looks o.op)):=by
 unfold zS at h
 split at h
 ·rename_i a b c hop
  split at h
  ·rename_i r hr'
   cases h
   obtain ⟨hsm,hk⟩:=A8 hr' hr (hρ c)
   refine ⟨hsm,fun ob=>?_⟩
   obtain ⟨ob0,y,hy,hv⟩:=hk ob
   refine ⟨ob0,?_⟩
   have hl:looks o.op=true:=by rw [hop];rfl
   have:execOp ρ o=(do pure (.value (← convert a b (ρ c)))):=by
    obtain ⟨dst,op,type,pos,aft,guard⟩:=o
    subst hop;rfl
   rw [hl,this]
   exact .CQ ⟨y,hy,hv⟩
  cases hp:eJ E tm o with
  | none=>rw [hp] at h;cases h
  | some x0=>rw [hp] at h;cases h;exact ⟨.refl _,fun ob=>⟨ob,oM (by rw [hop];rfl) hp hρ _⟩⟩
 ·rename_i op t a b yt hop
  cases hfar:fx E t (aL E tm a) (aL E tm b) s
  ·rw [hfar] at h
   simp only [cond_false] at h
   exact pT hf (fun a b c e=>by rw [hop] at e;cases e) (fun _ _ _ _ _ e=>by rw [hop] at e;cases e;exact hfar) h hr hρ
  ·rw [hfar] at h;cases h
 ·rename_i hn hn2
  exact pT hf (fun a b c e=>hn a b c e) (fun _ _ _ _ _ e=>(hn2 _ _ _ _ _ e).elim) h hr hρ

end
section
variable {E:Env} {ν:aA} {M:Own} {w0 w:World} {s s':SH}


section
variable {P:Program} {b:Frame} {a:Act} {k:List Item} {cs:List Frame} {ops:Array Oper} {i:Nat} {rest:List Nat} {o:Oper} {w':World}

theorem lu {y:Value} (ho:ops[i]?=some o) (hw:Region.wanted o (yielded ops a.tmps)=true) (hr:(o.semAt b.roundOf a.eval).run P w=.ok (.value y) w'):
  step P (lone (b.atR a (.inRegion ops (i::rest)::k)) cs w)=.next (lone (b.atR (a.put o.dst y) (.inRegion ops rest::k)) cs w'):=by
 have hfin:=Frame.finish_atR b a ops i rest k y
 rw [ho] at hfin
 refine step_lone_go ?_
 rw [stepGR_op ho hw]
 simp [stepG.apply,hr,hfin]

theorem xi (ho:ops[i]?=some o) (hw:Region.wanted o (yielded ops a.tmps)=true) (hr:(o.semAt b.roundOf a.eval).run P w=.ok .skip w'):
  step P (lone (b.atR a (.inRegion ops (i::rest)::k)) cs w)=.next (lone (b.atR (a.put o.dst undef) (.inRegion ops rest::k)) cs w'):=by
 have hfin:=Frame.finish_atR b a ops i rest k undef
 rw [ho] at hfin
 refine step_lone_go ?_
 rw [stepGR_op ho hw]
 simp [stepG.apply,hr,hfin]

theorem yL {f:FuncId} {args:Array Value} (ho:ops[i]?=some o) (hw:Region.wanted o (yielded ops a.tmps)=true) (hr:(o.semAt b.roundOf a.eval).run P w=.ok (.enter f args) w'):
  step P (lone (b.atR a (.inRegion ops (i::rest)::k)) cs w)=.next (lone (Frame.enter P f args .normal) (b.atR a (.inRegion ops (i::rest)::k)::cs) w'):=by
 refine step_lone_go ?_
 rw [stepGR_op ho hw]
 simp [stepG.apply,hr,Frame.atR]

theorem yl {l:Nat} {f:FuncId} {tmps:Array Value} {assign body:Code} (ho:ops[i]?=some o) (hw:Region.wanted o (yielded ops a.tmps)=true)
  (hr:(o.semAt b.roundOf a.eval).run P w=.ok (.round l f tmps assign body) w'):
  step P (lone (b.atR a (.inRegion ops (i::rest)::k)) cs w)=.next (lone (Frame.round l f tmps assign body .normal) (b.atR a (.inRegion ops (i::rest)::k)::cs) w'):=by
 refine step_lone_go ?_
 rw [stepGR_op ho hw]
 simp [stepG.apply,hr]

theorem step_defer {d:Deferred} (ho:ops[i]?=some o) (hw:Region.wanted o (yielded ops a.tmps)=true) (hr:(o.semAt b.roundOf a.eval).run P w=.ok (.defer d) w'):
  step P (lone (b.atR a (.inRegion ops (i::rest)::k)) cs w)=.next (lone (b.atR ({ a with defers:=d::a.defers }.put o.dst undef) (.inRegion ops rest::k)) cs w'):=by
 have hfin:=Frame.finish_atR b { a with defers:=d::a.defers } ops i rest k undef
 rw [ho] at hfin
 refine step_lone_go ?_
 rw [stepGR_op ho hw]
 simp only [stepG.apply,Sem.runT_eq,hr,if_true,GStep.bare_after]
 exact congrArg (fun fr=>GStep.go { frame:=fr,callers:=cs,status:=.running,dying:=none } w') hfin
end


inductive KR (ν:aA):SI→Item→Prop
 | code (c:Code):KR ν (.code c) (.code c)
 | inBlock (id:Nat):KR ν (.inBlock id) (.inBlock id)
 | inLoop (c:Code):KR ν (.inLoop c) (.inLoop c)
 | inScope (c:Code):KR ν (.inScope c) (.inScope c)
 | reg (ops:Array Oper) (is:List Nat):KR ν (.reg ops is) (.inRegion ops is)
 | inRF {i:Nat} {b:Nat × Nat} (h:ν i=some b):KR ν (.inRF i) (.inRangeFunc b.1)
 | endRF {i:Nat} {b:Nat × Nat} (h:ν i=some b):KR ν (.endRF i) (.endRangeFunc b.1)
 | beginRound:KR ν .beginRound .beginRound

inductive qJ (ν:aA):List SI→List Item→Prop
 | nil:qJ ν [] []
 | cons {x:SI} {y:Item} {xs:List SI} {ys:List Item} (h:KR ν x y) (t:qJ ν xs ys):qJ ν (x::xs) (y::ys)

theorem KR.mono {ν':aA} (h:ν.Le ν') {x:SI} {y:Item}:KR ν x y→KR ν' x y
 | .code c=>.code c
 | .inBlock c=>.inBlock c
 | .inLoop c=>.inLoop c
 | .inScope c=>.inScope c
 | .reg a b=>.reg a b
 | .inRF e=>.inRF (h _ _ e)
 | .endRF e=>.endRF (h _ _ e)
 | .beginRound=>.beginRound

theorem qJ.mono {ν':aA} (h:ν.Le ν') {x:List SI} {y:List Item} (k:qJ ν x y):qJ ν' x y:=by
 induction k with
 | nil=>exact .nil
 | cons hx _ ih=>exact .cons (hx.mono h) ih

def ev (a:Array Value):Operand→Value:=Act.eval { tmps:=a,defers:=[] }

theorem Act.lW (a:Act):a.eval=ev a.tmps:=by funext x;cases x <;> rfl

def GR (ν:aA) (E:Env):Prop:=∀ g i,E.G.lookup g=some i→∃ c,ν i=some (g,c)
theorem GR.mono {ν':aA} (h:ν.Le ν') (k:GR ν E):GR ν' E:=fun g i e=>let ⟨c,hc⟩:=k g i e;⟨c,h _ _ hc⟩

theorem ia.He {tm:dG} {a:Array Value} (h:ia ν tm a) (hg:GR ν E):qa E ν tm (ev a):=by
 intro x
 cases x with
 | tmp t=>exact h.at t
 | const v=>exact VR.ab.2 rfl
 | global g=>
  simp only [aL]
  cases hl:E.G.lookup g with
  | none=>exact VR.ab.2 rfl
  | some i=>obtain ⟨c,hc⟩:=hg g i hl;exact VR.aw.2 ⟨(g,c),hc,rfl⟩
 | func f=>exact VR.ab.2 rfl

theorem bu {a:Array Value} {d t:Nat} {y:Value} (h:t≠d):(a.setIfInBounds d y).getD t undef=a.getD t undef:=by
 rw [Array.getD_eq_getD_getElem?,Array.getD_eq_getD_getElem?,Array.getElem?_setIfInBounds,if_neg (fun e=>h e.symm)]
theorem dJ {a:Array Value} {d:Nat} {y:Value} (h:d<a.size):(a.setIfInBounds d y).getD d undef=y:=by
 rw [Array.getD_eq_getD_getElem?,Array.getElem?_setIfInBounds,if_pos rfl,if_pos h];rfl

def dB (a:Array Value) (o:Oper) (y:Value):Array Value:=match o.dst with | some d=>a.setIfInBounds d y | none=>a

theorem ia.putDst {tm:dG} {a:Array Value} (h:ia ν tm a) (o:Oper) {x:SV} {y:Value} (hx:VR ν x y):ia ν (Go.Rx.putDst tm o x) (dB a o y):=by
 unfold Go.Rx.putDst dB
 cases o.dst with
 | none=>exact h
 | some d=>exact h.set d hx

def mw (E:Env) (ops:Array Oper) (o:Oper) (a:Array Value) (w:World):Prop:=
 (Region.wanted o (yielded ops a)=true→∃ y,(execOp (ev a) o).run E.P w=.ok (.value y) w∧∀ d,o.dst=some d→y=a.getD d undef)∧
 (Region.wanted o (yielded ops a)=false→∀ d,o.dst=some d→undef=a.getD d undef)

def cH (M:Own) (w0:World) (B:Nat) (r:Obj):Prop:=w0.heap[B]?=some r∧¬ M B∧¬ M.r B∧M.h B

def nW (k:Option Nat) (B:Nat):Value:=match k with
 | none=>.pointer (some ⟨B,0,none⟩)
 | some n=>.slice (some ⟨B,0,none⟩) n n
def zC (k:Option Nat) (i:Nat):SV:=match k with
 | none=>.ptr i 0
 | some n=>.sl i 0 n (some n)
theorem CN {k:Option Nat} {i B:Nat} (h:ν i=some (B,0)):VR ν (zC k i) (nW k B):=by
 cases k with
 | none=>exact VR.aw.2 ⟨_,h,rfl⟩
 | some n=>exact VR.ay.2 ⟨_,h,Nat.le_refl _,rfl⟩
theorem wc {k:Option Nat} {B:Nat}:undef≠nW k B:=by cases k <;> exact fun h=>by cases h
def fT (E:Env) (ρ:Operand→Value) (o:Oper) (r:Obj):Prop:=
 ∀ w,(execOp ρ o).run E.P w=.ok (.value (nW (mH o.op) w.heap.size)) { w with heap:=w.heap.push r }
theorem fT.one {ρ:Operand→Value} {o:Oper} {r r':Obj} (h:fT E ρ o r) (h':fT E ρ o r') (w:World):r=r':=by
 have h1:=(h w).symm.trans (h' w)
 simp only [Result.ok.injEq,World.mk.injEq,true_and,and_true] at h1
 have h2:=congrArg (fun a:Array Obj=>a[w.heap.size]?) h1
 simpa using h2

def kQ (E:Env) (M:Own) (w0:World) (ops:Array Oper) (a z:Array Value) (q:Nat × Nat):Prop:=
 ∃ o d r,ops[q.1]?=some o∧late E ops (Region.before ops) a.size q.1=true∧o.dst=some d∧fT E (ev z) o r∧cH M w0 q.2 r∧a.getD d undef=nW (mH o.op) q.2

structure gG (E:Env) (ν:aA) (M:Own) (w0:World) (ops:Array Oper) (rem pend:List Nat) (lag:List (Nat × Nat)) (L:List Nat) (tm:dG) (a z:Array Value):Prop where
 nodup:L.Nodup
 ord:L.Pairwise fun i j=>((Region.before ops).getD i 0).testBit j=false
 irr:∀ i∈L,((Region.before ops).getD i 0).testBit i=false
 lt:∀ i∈L,i<ops.size
 remL:∀ i∈rem,i∈L∨i∈lag.map (·.1)
 sub:∀ i∈L,i∈rem∨i∈pend
 disj:∀ i∈rem,i ∉ pend
 free:∀ p∈pend,free ops (Region.before ops) p=true
 preds:∀ p∈pend,∀ j∈rem,((Region.before ops).getD p 0).testBit j=false
 tm:ia ν tm z
 size:a.size=z.size
 agree:∀ t,(∀ p∈L,p∈pend→∀ o,ops[p]?=some o→o.dst≠some t)→(∀ q∈lag,∀ o,ops[q.1]?=some o→o.dst≠some t)→a.getD t undef=z.getD t undef
 pure:∀ p∈pend,∀ o,ops[p]?=some o→looks o.op=false→∀ w,mw E ops o z w
 lagrem:∀ q∈lag,q.1∈rem
 lagL:∀ q∈lag,q.1 ∉ L
 lagirr:∀ q∈lag,((Region.before ops).getD q.1 0).testBit q.1=false
 lagged:∀ q∈lag,kQ E M w0 ops a z q
 lagnd:(lag.map (·.1)).Nodup
 lagord:∀ q∈lag,∀ p∈L,((Region.before ops).getD q.1 0).testBit p=false

def Ea (E:Env) (ops:Array Oper) (pend:List Nat) (z:Array Value) (w:World):Prop:=∀ p∈pend,∀ o,ops[p]?=some o→mw E ops o z w

def vi (E:Env) (ν:aA) (s:SH) (ops:Array Oper) (pend:List Nat) (z:Array Value):Prop:=∀ M w0 w,HR ν M w0 s w→Ea E ops pend z w

theorem gG.mono {ν':aA} (h:ν.Le ν') {ops:Array Oper} {rem pend L:List Nat} {lag:List (Nat × Nat)} {tm:dG} {a z:Array Value} (d:gG E ν M w0 ops rem pend lag L tm a z):gG E ν' M w0 ops rem pend lag L tm a z:=
 ⟨d.nodup,d.ord,d.irr,d.lt,d.remL,d.sub,d.disj,d.free,d.preds,d.tm.mono h,d.size,d.agree,d.pure,d.lagrem,d.lagL,d.lagirr,d.lagged,d.lagnd,d.lagord⟩

theorem kQ.cy {M':Own} {w0':World} {ops:Array Oper} {a z:Array Value} {q:Nat × Nat} (h:kQ E M w0 ops a z q) (k:∀ r,cH M w0 q.2 r→cH M' w0' q.2 r):kQ E M' w0' ops a z q:=by
 obtain ⟨o,d,r,h1,h2,h3,h4,h5,h6⟩:=h
 exact ⟨o,d,r,h1,h2,h3,h4,k r h5,h6⟩

theorem gG.cy {M':Own} {w0':World} {ops:Array Oper} {rem pend L:List Nat} {lag:List (Nat × Nat)} {tm:dG} {a z:Array Value} (d:gG E ν M w0 ops rem pend lag L tm a z)
  (k:∀ q∈lag,∀ r,cH M w0 q.2 r→cH M' w0' q.2 r):gG E ν M' w0' ops rem pend lag L tm a z:=
 ⟨d.nodup,d.ord,d.irr,d.lt,d.remL,d.sub,d.disj,d.free,d.preds,d.tm,d.size,d.agree,d.pure,d.lagrem,d.lagL,d.lagirr,fun q hq=>(d.lagged q hq).cy (k q hq),d.lagnd,d.lagord⟩

theorem ga {ops:Array Oper} {bf:Array Nat} {nt i:Nat} (h:late E ops bf nt i=true):∃ o d,ops[i]?=some o∧jN o.op=true∧o.guard=none∧o.dst=some d∧d<nt∧
  (∀ j q,j≠i→ops[j]?=some q→(bf.getD j 0).testBit i=true∨((∀ x∈q.op.operands,x≠.tmp d)∧q.dst≠some d∧d ∉ bU ops q))∧
  (∀ j q t,ops[j]?=some q→q.dst=some t→Operand.tmp t∈o.op.operands→(bf.getD i 0).testBit j=true∧fL q.op=true):=by
 unfold late at h
 cases ho:ops[i]? with
 | none=>rw [ho] at h;cases h
 | some o=>
  rw [ho] at h
  simp only [Bool.and_eq_true] at h
  obtain ⟨⟨⟨h1,h2⟩,h3⟩,h4⟩:=h
  cases hd:o.dst with
  | none=>rw [hd] at h3;cases h3
  | some d=>
   rw [hd] at h3
   simp only [Bool.and_eq_true,List.all_eq_true] at h3
   obtain ⟨h3,h5⟩:=h3
   refine ⟨o,d,rfl,h1,by simpa using h2,hd,ca.1 h3,fun j q hne hq=>?_,fun j q t hq hqd ht=>?_⟩
   ·have hj:j<ops.size:=(Array.getElem?_eq_some_iff.1 hq).1
    have h6:=h5 j (List.mem_range.2 hj)
    rw [hq] at h6
    simp only [Bool.or_eq_true,Bool.not_eq_true',Bool.or_eq_false_iff] at h6
    rcases h6 with (h6 | h6) | ⟨h6,h7⟩
    ·exact absurd (Nat.eq_of_beq_eq_true h6) hne
    ·exact .inl h6
    ·refine .inr ⟨fun x hx e=>?_,fun e=>?_,fun hm=>?_⟩
     ·subst e
      have:d∈fZ q:=List.mem_append_right _ (List.mem_filterMap.2 ⟨_,by simpa using hx,rfl⟩)
      rw [← List.contains_iff_mem] at this
      rw [this] at h6;cases h6
     ·have:d∈fZ q:=List.mem_append_left _ (by simp [e])
      rw [← List.contains_iff_mem] at this
      rw [this] at h6;cases h6
     ·rw [← List.contains_iff_mem] at hm
      rw [hm] at h7;cases h7
   ·have hj:j<ops.size:=(Array.getElem?_eq_some_iff.1 hq).1
    have hmem:t∈tmpsOf o:=List.mem_filterMap.2 ⟨_,by simpa using ht,rfl⟩
    have h6:=List.all_eq_true.1 (List.all_eq_true.1 h4 t hmem) j (List.mem_range.2 hj)
    rw [hq] at h6
    simp only [hqd,Bool.or_eq_true,Bool.not_eq_true',Bool.and_eq_true] at h6
    rcases h6 with h6 | h6
    ·simp at h6
    ·exact h6
theorem fK {op:Op} (h:jN op=true):fL op=false:=by cases op <;> first | rfl | cases h
theorem iY {op:Op} (h:jN op=true):(∀ cs b,op≠.select cs b)∧∀ c,op≠.defer c:=by
 constructor
 ·intro cs b e;rw [e] at h;cases h
 ·intro c e;rw [e] at h;cases h
theorem r9 {tm:dG} {o:Oper} {so:SO} {ρ:Operand→Value} (h:ny E tm o.op=some so) (hρ:qa E ν tm ρ):∃ r,(∀ i,OR ν i so r)∧fT E ρ o r∧
  (∀ (s:SH),gH E tm o s=(cC so s).map fun p=>[(.val (zC (mH o.op) p.1),p.2)]):=by
 obtain ⟨dst,op,type,pos,aft,guard⟩:=o
 dsimp only at h ⊢
 unfold ny at h
 split at h
 ·rename_i t
  obtain ⟨info,hi,h⟩:=Option.bind_eq_some_iff.1 h
  obtain ⟨z,hz,h⟩:=Option.bind_eq_some_iff.1 h
  obtain ⟨l,hl,rfl⟩:=Option.map_eq_some_iff.1 h
  refine ⟨.cells z.cells t,fun i=>?_,fun w=>?_,fun s=>?_⟩
  ·have hcl:=SV.jP hl (VR.ab.2 rfl:VR ν (.v z) z)
   exact ⟨z.cells.toList,[],by simp,hcl,by simpa [nF] using hcl.length⟩
  ·simp [execOp,Instr.alloc,bg hi hz,newVar,newRow,nW,mH]
  ·simp only [gH,qe,hi,hz,wD,hl,Option.bind_eq_bind,Option.bind_some]
   cases cC (.row l t (0,0) none) s with
   | none=>rfl
   | some p=>rfl
 ·rename_i t n ps
  split at h
  ·rename_i elem hd
   obtain ⟨info,hi,h⟩:=Option.bind_eq_some_iff.1 h
   revert h
   cases hg:Nat.ble (n*info.size) 16777216
   ·intro h;cases h
   ·intro h
    simp only [cond_true] at h
    have hg':=Nat.le_of_ble_eq_true hg
    obtain ⟨zs,hz,h⟩:=Option.bind_eq_some_iff.1 h
    obtain ⟨l,hf,rfl⟩:=Option.map_eq_some_iff.1 h
    obtain ⟨z,hz0,hzs,hvr⟩:=ml (ν:=ν) hz
    obtain ⟨ys,hfill,hlv⟩:=mO (jS hρ ps.toList) hf hvr
    refine ⟨.cells ys.toArray elem,fun i=>⟨ys,[],by simp,hlv,by simp only [nF,List.append_nil];exact hlv.length⟩,fun w=>?_,fun s=>?_⟩
    ·simp only [execOp,nW,mH]
     rw [gN]
     simp only [Instr.buildSlice,Sem.run_bind,run_underlying hd,Result.andThen_ok,run_sizeOf hi]
     rw [if_neg (by omega)]
     by_cases hn0:n*info.size=0
     ·simp only [hn0,if_true,Sem.run_bind,Sem.run_pure,Result.andThen_ok,dD,List.range_zero,List.map_nil] at hfill ⊢
      rw [hfill]
      simp [newRow]
     ·simp only [if_neg hn0,Sem.run_bind,bg hi hz0,Result.andThen_ok,Sem.run_pure,dD]
      rw [hfill]
      simp [newRow]
    ·simp only [gH,fD,hd,hi,hz,hf,hg,cR,Option.bind_eq_bind,Option.bind_some,cond_true]
     cases cC (.row l elem (0,0) none) s with
     | none=>rfl
     | some p=>rfl
  ·cases h
 ·cases h
theorem vL {tm:dG} {o:Oper} {l:List (cz × SH)} (hk:jN o.op=true) (h:gH E tm o s=some l):∃ so,ny E tm o.op=some so:=by
 obtain ⟨dst,op,type,pos,aft,guard⟩:=o
 dsimp only at hk ⊢
 cases op <;> try cases hk
 case alloc t=>
  simp only [gH,qe,wD,Option.bind_eq_bind] at h
  unfold ny
  cases hi:aV E t with
  | none=>simp [hi] at h
  | some info=>cases hz:info.zero with
   | none=>simp [hi,hz] at h
   | some z=>cases hl:(SV.v z).cells with
    | none=>simp [hi,hz,hl] at h
    | some l=>exact ⟨.row l t (0,0) none,by simp [hi,hz,hl]⟩
 case buildSlice t n ps=>
  simp only [gH,fD,Option.bind_eq_bind] at h
  unfold ny
  dsimp only
  split at h
  ·rename_i elem hd
   cases hi:aV E elem with
   | none=>simp [hi] at h
   | some info=>cases hg:Nat.ble (n*info.size) 16777216 with
    | false=>simp [hi,hg,cR] at h
    | true=>cases hz:jb info n with
     | none=>simp [hi,hg,hz,cR] at h
     | some zs=>cases hf:jx (fun i=>some (i*info.size,info.size)) zs (ps.toList.map fun (i,x)=>(i,aL E tm x)) with
      | none=>simp [hi,hg,hz,hf,cR] at h
      | some l=>
       try rw [hd]
       exact ⟨.row l elem (0,0) none,by simp [hi,hg,hz,hf]⟩
  ·simp at h

theorem gS {ops:Array Oper} {bf:Array Nat} {i:Nat} (h:free ops bf i=true):∃ o,ops[i]?=some o∧fL o.op=true∧
  ∀ d,o.dst=some d→(∀ x∈o.op.operands,x≠.tmp d)∧(d ∉ bU ops o)∧
   ∀ j q,j≠i→ops[j]?=some q→(bf.getD j 0).testBit i=true∨((∀ x∈q.op.operands,x≠.tmp d)∧q.dst≠some d∧d ∉ bU ops q):=by
 unfold free at h
 cases ho:ops[i]? with
 | none=>rw [ho] at h;cases h
 | some o=>
  rw [ho] at h
  simp only [Bool.and_eq_true] at h
  obtain ⟨h1,h2⟩:=h
  refine ⟨o,rfl,h1,fun d hd=>?_⟩
  rw [hd] at h2
  simp only [Bool.and_eq_true,Bool.not_eq_true',Bool.or_eq_false_iff,List.all_eq_true] at h2
  obtain ⟨⟨h3,h4⟩,h5⟩:=h2
  refine ⟨fun x hx e=>?_,fun hm=>?_,fun j q hne hq=>?_⟩
  ·subst e
   have:d∈tmpsOf o:=List.mem_filterMap.2 ⟨_,by simpa using hx,rfl⟩
   rw [← List.contains_iff_mem] at this
   rw [this] at h3;cases h3
  ·rw [← List.contains_iff_mem] at hm
   rw [hm] at h4;cases h4
  ·have hj:j<ops.size:=(Array.getElem?_eq_some_iff.1 hq).1
   have h6:=h5 j (List.mem_range.2 hj)
   rw [hq] at h6
   simp only [Bool.or_eq_true,Bool.not_eq_true',Bool.or_eq_false_iff] at h6
   rcases h6 with (h6 | h6) | ⟨h6,h7⟩
   ·exact absurd (Nat.eq_of_beq_eq_true h6) hne
   ·exact .inl h6
   ·refine .inr ⟨fun x hx e=>?_,fun e=>?_,fun hm=>?_⟩
    ·subst e
     have:d∈fZ q:=List.mem_append_right _ (List.mem_filterMap.2 ⟨_,by simpa using hx,rfl⟩)
     rw [← List.contains_iff_mem] at this
     rw [this] at h6;cases h6
    ·have:d∈fZ q:=List.mem_append_left _ (by simp [e])
     rw [← List.contains_iff_mem] at this
     rw [this] at h6;cases h6
    ·rw [← List.contains_iff_mem] at hm
     rw [hm] at h7;cases h7

end
section
variable {E:Env} {ν:aA} {M:Own} {w0 w:World} {s s':SH}
variable {ops:Array Oper} {rem pend L:List Nat} {lag:List (Nat × Nat)} {tm:dG} {a z:Array Value}

def qv (ops:Array Oper) (lag:List (Nat × Nat)) (h:Nat):Prop:=∀ q∈lag,((Region.before ops).getD h 0).testBit q.1=false

theorem gG.tZ (d:gG E ν M w0 ops rem pend lag L tm a z) {q:Nat × Nat} (hq:q∈lag) {o1:Oper} (ho1:ops[q.1]?=some o1) {t:Nat} (ht:o1.dst=some t) {h:Nat} (hne:h≠q.1) (hb:((Region.before ops).getD h 0).testBit q.1=false)
  {o:Oper} (ho:ops[h]?=some o):(∀ x∈o.op.operands,x≠.tmp t)∧o.dst≠some t∧t ∉ bU ops o:=by
 obtain ⟨o2,d2,r,h1,h2,h3,_⟩:=d.lagged q hq
 obtain ⟨o3,d3,h4,_,_,h5,_,h6,_⟩:=ga h2
 rw [ho1] at h1 h4;cases h1;cases h4
 rw [ht] at h5;cases h5
 rcases h6 h o hne ho with hx | hx
 ·rw [hb] at hx;cases hx
 ·exact hx

theorem gG.yq (d:gG E ν M w0 ops rem pend lag L tm a z) {q:Nat × Nat} (hq:q∈lag) {o1:Oper} (ho1:ops[q.1]?=some o1) {i:Nat} (hi:i∈rem) {o:Oper} (ho:ops[i]?=some o) {t:Nat} (ht:o.dst=some t):∀ x∈o1.op.operands,x≠.tmp t:=by
 intro x hx e
 subst e
 obtain ⟨o2,d2,r,h1,h2,h3,_⟩:=d.lagged q hq
 obtain ⟨o3,d3,h4,_,_,h5,_,_,h7⟩:=ga h2
 rw [ho1] at h1 h4;cases h1;cases h4
 obtain ⟨hb,hf⟩:=h7 i o t ho ht hx
 rcases d.remL i hi with h | h
 ·rw [d.lagord q hq i h] at hb;cases hb
 ·obtain ⟨q',hq',e⟩:=List.mem_map.1 h
  obtain ⟨o4,d4,r4,g1,g2,_⟩:=d.lagged q' hq'
  obtain ⟨o5,d5,g4,g5,_⟩:=ga g2
  rw [g1] at g4;cases g4
  rw [e,ho] at g1;cases g1
  rw [fK g5] at hf;cases hf

theorem gG.named {h:Nat} (d:gG E ν M w0 ops rem pend lag (h::L) tm a z) (hl:qv ops lag h) {o:Oper} (ho:ops[h]?=some o) {t:Nat} (ht:Operand.tmp t∈o.op.operands∨t∈bU ops o):
  a.getD t undef=z.getD t undef:=by
 refine d.agree t (fun p hp hpp q hq e=>?_) (fun q hq o1 ho1 e=>?_)
 ·obtain ⟨q',hq',_,hf⟩:=gS (d.free p hpp)
  rw [hq] at hq';cases hq'
  obtain ⟨h1,h2,h3⟩:=hf t e
  by_cases hph:p=h
  ·subst hph
   rw [hq] at ho;cases ho
   rcases ht with ht | ht
   ·exact h1 _ ht rfl
   ·exact h2 ht
  ·rcases h3 h o (fun e=>hph e.symm) ho with hb | ⟨h4,_,h6⟩
   ·have hpL:p∈L:=by
     rcases List.mem_cons.1 hp with e | e
     ·exact absurd e hph
     ·exact e
    have:=(List.pairwise_cons.1 d.ord).1 p hpL
    rw [this] at hb;cases hb
   ·rcases ht with ht | ht
    ·exact h4 _ ht rfl
    ·exact h6 ht
 ·have hne:h≠q.1:=fun e=>d.lagL q hq (e ▸ List.mem_cons_self)
  obtain ⟨h1,_,h3⟩:=d.tZ hq ho1 e hne (hl q hq) ho
  rcases ht with ht | ht
  ·exact h1 _ ht rfl
  ·exact h3 ht

theorem gG.Ik {h:Nat} (d:gG E ν M w0 ops rem pend lag (h::L) tm a z) (hl:qv ops lag h) {o:Oper} (ho:ops[h]?=some o):∀ x∈o.op.operands,ev a x=ev z x:=by
 intro x hx
 cases x with
 | tmp t=>exact d.named hl ho (.inl hx)
 | const v=>rfl
 | global g=>rfl
 | func f=>rfl

theorem getElem?_of_getD {a z:Array Value} (hs:a.size=z.size) {t:Nat} (h:a.getD t undef=z.getD t undef):a[t]?=z[t]?:=by
 by_cases ht:t<a.size
 ·rw [Array.getElem?_eq_getElem ht,Array.getElem?_eq_getElem (by omega)]
  rw [Array.getD_eq_getD_getElem?,Array.getD_eq_getD_getElem?,Array.getElem?_eq_getElem ht,Array.getElem?_eq_getElem (by omega)] at h
  simpa using h
 ·rw [Array.getElem?_eq_none (by omega),Array.getElem?_eq_none (by omega)]

theorem gG.wanted {h:Nat} (d:gG E ν M w0 ops rem pend lag (h::L) tm a z) (hl:qv ops lag h) {o:Oper} (ho:ops[h]?=some o):Region.wanted o (yielded ops a)=Region.wanted o (yielded ops z):=by
 unfold Region.wanted
 cases hg:o.guard with
 | none=>rfl
 | some jw=>
  obtain ⟨j,want⟩:=jw
  simp only
  have:yielded ops a j=yielded ops z j:=by
   unfold yielded
   cases hj:(ops[j]?).bind (·.dst) with
   | none=>rfl
   | some t=>
    have ht:t∈bU ops o:=by
     unfold bU
     rw [hg]
     simp [hj]
    simp only [Option.bind_some,getElem?_of_getD d.size (d.named hl ho (.inr ht))]
  rw [this]

theorem dj {o:Oper} (h:fL o.op=true):(∀ cs b,o.op≠.select cs b)∧∀ c,o.op≠.defer c:=by
 constructor
 ·intro cs b e;rw [e] at h;cases h
 ·intro c e;rw [e] at h;cases h

theorem q7 {o:Oper} {y:Value}:(dB a o y).size=a.size:=by unfold dB;cases o.dst <;> simp

theorem kQ.put {q:Nat × Nat} (h:kQ E M w0 ops a z q) {o:Oper} {y:Value} (hs:∀ o1 t,ops[q.1]?=some o1→o1.dst=some t→o.dst≠some t):kQ E M w0 ops (dB a o y) z q:=by
 obtain ⟨o1,d,r,h1,h2,h3,h4,h5,h6⟩:=h
 refine ⟨o1,d,r,h1,by rw [q7];exact h2,h3,h4,h5,?_⟩
 rw [← h6]
 unfold dB
 cases hd:o.dst with
 | none=>rfl
 | some u=>exact bu (fun e=>hs o1 d h1 h3 (by rw [hd,e]))

theorem kQ.Hy {q:Nat × Nat} (h:kQ E M w0 ops a z q) {o:Oper} {y:Value} (hs:∀ o1 t,ops[q.1]?=some o1→o.dst=some t→∀ x∈o1.op.operands,x≠.tmp t):kQ E M w0 ops a (dB z o y) q:=by
 obtain ⟨o1,d,r,h1,h2,h3,h4,h5,h6⟩:=h
 refine ⟨o1,d,r,h1,h2,h3,fun w=>?_,h5,h6⟩
 obtain ⟨o3,d3,g4,g5,_⟩:=ga h2
 rw [h1] at g4;cases g4
 rw [← h4 w]
 have:execOp (ev (dB z o y)) o1=execOp (ev z) o1:=by
  refine Go.execOp_congr o1 (iY g5).1 fun x hx=>?_
  unfold dB
  cases hd:o.dst with
  | none=>rfl
  | some t=>
   cases x with
   | tmp u=>exact bu fun e=>hs o1 t h1 hd _ hx (by rw [e])
   | const v=>rfl
   | global g=>rfl
   | func f=>rfl
 rw [this]

theorem gG.pending {h:Nat} (d:gG E ν M w0 ops rem pend lag (h::L) tm a z) (hp:h∈pend) (hst:Ea E ops pend z w) {b:Frame} {df:List Deferred} {k:List Item} {cs:List Frame}:
  ∃ a',step E.P (lone (b.atR ⟨a,df⟩ (.inRegion ops (h::L)::k)) cs w)=.next (lone (b.atR ⟨a',df⟩ (.inRegion ops L::k)) cs w)∧gG E ν M w0 ops rem pend lag L tm a' z:=by
 obtain ⟨o,ho,hfl,_⟩:=gS (d.free h hp)
 obtain ⟨hns,hnd⟩:=dj hfl
 have hruns:=hst h hp o ho
 have hl:qv ops lag h:=fun q hq=>d.preds h hp q.1 (d.lagrem q hq)
 have hw:=d.wanted hl ho
 have hnotrem:h ∉ rem:=fun hr=>d.disj h hr hp
 have close:∀ y,(∀ t,o.dst=some t→y=z.getD t undef)→gG E ν M w0 ops rem pend lag L tm (dB a o y) z:=by
  intro y hy
  refine ⟨(List.nodup_cons.1 d.nodup).2,(List.pairwise_cons.1 d.ord).2,fun i hi=>d.irr i (List.mem_cons_of_mem _ hi),fun i hi=>d.lt i (List.mem_cons_of_mem _ hi),fun i hi=>?_,fun i hi=>d.sub i (List.mem_cons_of_mem _ hi),
   d.disj,d.free,d.preds,d.tm,?_,fun t ht htl=>?_,d.pure,d.lagrem,fun q hq hm=>d.lagL q hq (List.mem_cons_of_mem _ hm),d.lagirr,fun q hq=>(d.lagged q hq).put fun o1 t h1 h2=>?_,d.lagnd,fun q hq p hp=>d.lagord q hq p (List.mem_cons_of_mem _ hp)⟩
  ·rcases d.remL i hi with h1 | h1
   ·rcases List.mem_cons.1 h1 with rfl | h1
    ·exact absurd hi hnotrem
    ·exact .inl h1
   ·exact .inr h1
  ·rw [q7];exact d.size
  ·unfold dB
   cases hd:o.dst with
   | none=>
    refine d.agree t (fun p hp' hpp q hq e=>?_) htl
    rcases List.mem_cons.1 hp' with rfl | h1
    ·rw [ho] at hq;cases hq;rw [hd] at e;cases e
    ·exact ht p h1 hpp q hq e
   | some u=>
    by_cases etu:t=u
    ·subst etu
     by_cases hsz:t<a.size
     ·rw [dJ hsz];exact hy t hd
     ·have h1:a.size≤t:=Nat.not_lt.mp hsz
      have h2:z.size≤t:=by rw [← d.size];exact h1
      have h3:(a.setIfInBounds t y).size≤t:=by simpa using h1
      rw [Array.getD_eq_getD_getElem?,Array.getElem?_eq_none h3,Array.getD_eq_getD_getElem?,Array.getElem?_eq_none h2]
    ·rw [bu etu]
     refine d.agree t (fun p hp' hpp q hq e=>?_) htl
     rcases List.mem_cons.1 hp' with rfl | h1
     ·rw [ho] at hq;cases hq;rw [hd] at e;exact etu (Option.some.inj e).symm
     ·exact ht p h1 hpp q hq e
  ·have hne:h≠q.1:=fun e=>d.lagL q hq (e ▸ List.mem_cons_self)
   exact (d.tZ hq h1 h2 hne (hl q hq) ho).2.1
 cases hwb:Region.wanted o (yielded ops z)
 ·-- not wanted
  refine ⟨dB a o undef,?_,close undef (hruns.2 hwb)⟩
  have hs:=stepR_op_skip (P:=E.P) (b:=b) (a:=⟨a,df⟩) (k:=k) (cs:=cs) (w:=w) (ops:=ops) (i:=h) (rest:=L) (by rw [ho];simp [hw,hwb])
  rw [hs,ho]
  congr 3
  unfold dB Act.put
  simp only [Option.bind_some]
  cases o.dst <;> rfl
 ·obtain ⟨y,hrun,hy⟩:=hruns.1 hwb
  refine ⟨dB a o y,?_,close y hy⟩
  have hc:execOp (ev a) o=execOp (ev z) o:=Go.execOp_congr o hns (d.Ik hl ho)
  have hs:=lu (P:=E.P) (b:=b) (a:=⟨a,df⟩) (k:=k) (cs:=cs) (w:=w) (ops:=ops) (i:=h) (rest:=L) (w':=w) ho (by simp only;rw [hw,hwb]) (by
   rw [Oper.semAt_eq _ _ _ hnd,Act.lW]
   simp only;rw [hc];exact hrun)
  rw [hs]
  congr 3
  unfold dB Act.put
  cases o.dst <;> rfl


structure bk (M:Own) (w0:World) (M1:Own) (w1:World):Prop where
 size:w0.heap.size≤w1.heap.size
 os:w1.os=w0.os
 tape:w1.tape=w0.tape
 output:w1.output=w0.output
 frame:∀ b,b<w0.heap.size→¬ M b→w1.heap[b]?=w0.heap[b]?∧¬ M1 b
 own:∀ b,w1.heap.size≤b∨M1 b→w0.heap.size≤b∨M b
 ro:∀ b,M1.r b↔M.r b
 hid:∀ b,M1.h b→w0.heap.size≤b∨M b
 rlt:∀ b,M1.r b→b<w1.heap.size

theorem bk.refl (h:∀ b,M.r b→b<w0.heap.size) (hh:∀ b,¬ M.h b):bk M w0 M w0:=
 ⟨Nat.le_refl _,rfl,rfl,rfl,fun _ _ h=>⟨rfl,h⟩,fun _ h=>h,fun _=>Iff.rfl,fun b h=>absurd h (hh b),h⟩

theorem HR.uN {M1:Own} {w1:World} (B:bk M w0 M1 w1) (h:HR ν M1 w1 s w):HR ν M w0 s w:=
 ⟨h.full,h.dom,h.fresh,fun i hi x hx=>let ⟨b,o,h1,h2,h3,h4⟩:=h.obj i hi x hx;⟨b,o,h1,h2,h3,fun e=>B.own _ (h4 e)⟩,h.inj,Nat.le_trans B.size h.size,
  fun b hb hM=>by rw [h.frame b (Nat.lt_of_lt_of_le hb B.size) (B.frame b hb hM).2,(B.frame b hb hM).1],fun i hi x hx e b hb=>(B.ro _).1 (h.ro i hi x hx e b hb),h.os.trans B.os,h.tape.trans B.tape,h.output.trans B.output⟩

def Own.oT (M1:Own) (n B:Nat):Own:=⟨fun b=>(M1 b∨n≤b)∧b≠B,M1.r,fun b=>M1.h b∨b=B⟩

theorem HR.oT {M1:Own} {w1:World} (h:HR ν M1 w1 s w) (r:Obj):HR ν (M1.oT w1.heap.size w.heap.size) { w with heap:=w.heap.push r } s { w with heap:=w.heap.push r }:=by
 refine ⟨h.full,h.dom,h.fresh,fun i hi x hx=>?_,h.inj,Nat.le_refl _,fun _ _ _=>rfl,h.ro,rfl,rfl,rfl⟩
 obtain ⟨b,o,h1,h2,h3,h4⟩:=h.obj i hi x hx
 have hlt:b.1<w.heap.size:=(Array.getElem?_eq_some_iff.1 h2).1
 refine ⟨b,o,h1,?_,h3,fun e=>.inr ⟨(h4 e).symm,by omega⟩⟩
 show (w.heap.push r)[b.1]?=some o
 rw [Array.getElem?_push,if_neg (by omega)];exact h2

theorem bk.oT {M1:Own} {w1:World} (B:bk M w0 M1 w1) (h:HR ν M1 w1 s w) (r:Obj):bk M w0 (M1.oT w1.heap.size w.heap.size) { w with heap:=w.heap.push r }:=by
 have hsz:=h.size
 have hB:=B.size
 refine ⟨by simp;omega,h.os.trans B.os,h.tape.trans B.tape,h.output.trans B.output,fun b hb hM=>?_,fun b hb=>?_,B.ro,fun b hb=>?_,fun b hb=>?_⟩
 ·obtain ⟨h1,h2⟩:=B.frame b hb hM
  refine ⟨?_,fun hc=>?_⟩
  ·show (w.heap.push r)[b]?=_
   rw [Array.getElem?_push,if_neg (by omega),h.frame b (by omega) h2,h1]
  ·rcases hc.1 with hc | hc
   ·exact h2 hc
   ·omega
 ·rcases hb with hb | hb
  ·have hb:(w.heap.push r).size≤b:=hb
   simp at hb;exact .inl (by omega)
  ·exact B.own b hb.1.symm
 ·rcases hb with hb | hb
  ·exact B.hid b hb
  ·exact .inl (by omega)
 ·have:=B.rlt b hb
  show b<(w.heap.push r).size
  simp;omega

theorem cH.oT {M1:Own} {w1:World} (h:HR ν M1 w1 s w) (r:Obj) {b:Nat} {r':Obj} (k:cH M1 w1 b r'):cH (M1.oT w1.heap.size w.heap.size) { w with heap:=w.heap.push r } b r':=by
 obtain ⟨k1,k2,k3,k4⟩:=k
 have hlt:b<w1.heap.size:=(Array.getElem?_eq_some_iff.1 k1).1
 have hsz:=h.size
 refine ⟨?_,fun hc=>?_,k3,.inl k4⟩
 ·show (w.heap.push r)[b]?=some r'
  rw [Array.getElem?_push,if_neg (by omega),h.frame b hlt k2,k1]
 ·rcases hc.1 with hc | hc
  ·exact k2 hc
  ·omega

theorem cH.self {M1:Own} {w1:World} (h:HR ν M1 w1 s w) (hr:∀ b,M1.r b→b<w1.heap.size) (r:Obj):cH (M1.oT w1.heap.size w.heap.size) { w with heap:=w.heap.push r } w.heap.size r:=by
 refine ⟨?_,fun hc=>hc.2 rfl,fun hc=>?_,.inr rfl⟩
 ·show (w.heap.push r)[w.heap.size]?=some r
  simp
 ·have:=hr _ hc;have:=h.size;omega

theorem gG.Ht (hok:eB ops=true) {M1:Own} {w1:World} {h:Nat} (d:gG E ν M1 w1 ops rem pend lag (h::L) tm a z) (hr:HR ν M1 w1 s w) (hro:∀ b,M1.r b→b<w1.heap.size) (hrem:h∈rem) (hlate:late E ops (Region.before ops) a.size h=true) (hgo:∀ o,ops[h]?=some o→∃ r,fT E (ev z) o r)
  {b:Frame} {df:List Deferred} {k:List Item} {cs:List Frame}:
  ∃ a' r,step E.P (lone (b.atR ⟨a,df⟩ (.inRegion ops (h::L)::k)) cs w)=.next (lone (b.atR ⟨a',df⟩ (.inRegion ops L::k)) cs { w with heap:=w.heap.push r })∧a'.size=a.size∧
   gG E ν (M1.oT w1.heap.size w.heap.size) { w with heap:=w.heap.push r } ops rem pend ((h,w.heap.size)::lag) L tm a' z:=by
 obtain ⟨o,t,ho,hkind,hg,hd,hlt,hnames,hopd⟩:=ga hlate
 obtain ⟨r,hrunz⟩:=hgo o ho
 have hsel:=iY hkind
 have heq:execOp (ev a) o=execOp (ev z) o:=by
  refine Go.execOp_congr o hsel.1 fun x hx=>?_
  cases x with
  | tmp u=>
   refine d.agree u (fun p hp hpp q hq e=>?_) (fun q hq o1 h1 e=>?_)
   ·obtain ⟨hb,_⟩:=hopd p q u hq e hx
    rcases List.mem_cons.1 hp with e1 | h1
    ·subst e1;rw [d.irr p List.mem_cons_self] at hb;cases hb
    ·rw [(List.pairwise_cons.1 d.ord).1 p h1] at hb;cases hb
   ·obtain ⟨_,hf⟩:=hopd q.1 o1 u h1 e hx
    obtain ⟨o4,d4,r4,g1,g2,_⟩:=d.lagged q hq
    obtain ⟨o5,d5,g4,g5,_⟩:=ga g2
    rw [g1] at g4;cases g4
    rw [h1] at g1;cases g1
    rw [fK g5] at hf;cases hf
  | const v=>rfl
  | global g=>rfl
  | func f=>rfl
 have hrun:=hrunz w
 rw [← heq] at hrun
 have hnl:∀ q∈lag,q.1≠h:=fun q hq e=>d.lagL q hq (e ▸ List.mem_cons_self)
 refine ⟨a.setIfInBounds t (nW (mH o.op) w.heap.size),r,?_,by simp,?_⟩
 ·have hs:=lu (P:=E.P) (b:=b) (a:=⟨a,df⟩) (k:=k) (cs:=cs) (w:=w) (ops:=ops) (i:=h) (rest:=L) (w':={ w with heap:=w.heap.push r }) ho (by simp [Region.wanted,hg]) (by
   rw [Oper.semAt_eq _ _ _ (by intro c e;exact hsel.2 c e),Act.lW]
   exact hrun)
  rw [hs]
  congr 3
  unfold Act.put
  rw [hd]
 ·have hother:∀ q∈lag,∀ o1 t1,ops[q.1]?=some o1→o1.dst=some t1→t1≠t:=by
   intro q hq o1 t1 h1 h2 e
   subst e
   rcases hnames q.1 o1 (hnl q hq) h1 with hb | ⟨_,hb,_⟩
   ·obtain ⟨o2,d2,r2,g1,g2,g3,_⟩:=d.lagged q hq
    obtain ⟨o3,d3,g4,_,_,g5,_,g6,_⟩:=ga g2
    rw [h1] at g1 g4;cases g1;cases g4
    rw [h2] at g5;cases g5
    rcases g6 h o (fun e=>hnl q hq e.symm) ho with hb2 | ⟨_,hb2,_⟩
    ·-- each comes ahead of the other
     have h3:=su hok (Array.getElem?_eq_some_iff.1 h1).1 hb
     have h4:=su hok (Array.getElem?_eq_some_iff.1 ho).1 hb2
     omega
    ·exact hb2 hd
   ·exact hb h2
  refine ⟨(List.nodup_cons.1 d.nodup).2,(List.pairwise_cons.1 d.ord).2,fun i hi=>d.irr i (List.mem_cons_of_mem _ hi),fun i hi=>d.lt i (List.mem_cons_of_mem _ hi),fun i hi=>?_,fun i hi=>d.sub i (List.mem_cons_of_mem _ hi),
   d.disj,d.free,d.preds,d.tm,by simpa using d.size,fun u hu hul=>?_,d.pure,fun q hq=>?_,fun q hq hm=>?_,fun q hq=>?_,fun q hq=>?_,?_,fun q hq p hp=>?_⟩
  ·rcases d.remL i hi with h1 | h1
   ·rcases List.mem_cons.1 h1 with e | h1
    ·exact .inr (by rw [e];exact List.mem_cons_self)
    ·exact .inl h1
   ·exact .inr (List.mem_cons_of_mem _ h1)
  ·have hut:u≠t:=fun e=>hul (h,w.heap.size) List.mem_cons_self o ho (by rw [hd,e])
   rw [bu hut]
   refine d.agree u (fun p hp hpp q hq e=>?_) (fun q hq=>hul q (List.mem_cons_of_mem _ hq))
   rcases List.mem_cons.1 hp with e1 | h1
   ·subst e1;exact d.disj p hrem hpp
   ·exact hu p h1 hpp q hq e
  ·rcases List.mem_cons.1 hq with e | hq
   ·rw [e];exact hrem
   ·exact d.lagrem q hq
  ·rcases List.mem_cons.1 hq with e | hq
   ·rw [e] at hm;exact (List.nodup_cons.1 d.nodup).1 hm
   ·exact d.lagL q hq (List.mem_cons_of_mem _ hm)
  ·rcases List.mem_cons.1 hq with e | hq
   ·rw [e];exact d.irr h List.mem_cons_self
   ·exact d.lagirr q hq
  ·rcases List.mem_cons.1 hq with e | hq
   ·rw [e]
    exact ⟨o,t,r,ho,by simpa using hlate,hd,hrunz,cH.self hr hro r,by rw [dJ hlt]⟩
   ·obtain ⟨o1,d1,r1,g1,g2,g3,g4,g5,g6⟩:=d.lagged q hq
    exact ⟨o1,d1,r1,g1,by simpa using g2,g3,g4,g5.oT hr r,by rw [bu (hother q hq o1 d1 g1 g3)];exact g6⟩
  ·rw [List.map_cons,List.nodup_cons]
   refine ⟨fun hm=>?_,d.lagnd⟩
   obtain ⟨q,hq,e⟩:=List.mem_map.1 hm
   exact hnl q hq e
  ·rcases List.mem_cons.1 hq with e | hq
   ·rw [e];exact (List.pairwise_cons.1 d.ord).1 p hp
   ·exact d.lagord q hq p (List.mem_cons_of_mem _ hp)

theorem gG.reach (hok:eB ops=true) {e:Nat} (he:e∈rem) {n:Nat}
  (hun:∀ j∈rem,j=e∨((Region.before ops).getD j 0).testBit e=true∨(late E ops (Region.before ops) n j=true∧∀ o,ops[j]?=some o→∃ r,fT E (ev z) o r)∨(∃ i∈rem,i≠j∧((Region.before ops).getD j 0).testBit i=true∧late E ops (Region.before ops) n i=false))
  (hst:vi E ν s ops pend z):
  ∀ {L:List Nat} {a:Array Value} {lag:List (Nat × Nat)} {M1:Own} {w1 w:World},a.size=n→gG E ν M1 w1 ops rem pend lag L tm a z→HR ν M1 w1 s w→bk M w0 M1 w1→e ∉ lag.map (·.1)→∀ {b:Frame} {df:List Deferred} {k:List Item} {cs:List Frame},
  ∃ a' L' lag' M2 w2 w',Steps E.P (lone (b.atR ⟨a,df⟩ (.inRegion ops L::k)) cs w) (lone (b.atR ⟨a',df⟩ (.inRegion ops (e::L')::k)) cs w')∧gG E ν M2 w2 ops rem pend lag' (e::L') tm a' z∧HR ν M2 w2 s w'∧bk M w0 M2 w2∧
   (∀ b r,cH M1 w1 b r→cH M2 w2 b r)∧(∃ l0,lag'.map (·.2)=l0++lag.map (·.2)∧l0.Nodup∧∀ B∈l0,w1.heap.size≤B):=by
 intro L
 induction L with
 | nil=>
  intro a lag M1 w1 w _ d _ _ hel b df k cs
  rcases d.remL e he with h | h
  ·cases h
  ·exact absurd h hel
 | cons h L ih=>
  intro a lag M1 w1 w hn d hr hB hel b df k cs
  by_cases hp:h∈pend
  ·obtain ⟨a',hs,d'⟩:=d.pending hp (hst _ _ _ hr) (b:=b) (df:=df) (k:=k) (cs:=cs)
   obtain ⟨a'',L',lag',M2,w2,w',hs',d'',rest⟩:=ih (by rw [d'.size,← d.size];exact hn) d' hr hB hel (b:=b) (df:=df) (k:=k) (cs:=cs)
   exact ⟨a'',L',lag',M2,w2,w',.head hs hs',d'',rest⟩
  ·have hrm:h∈rem:=(d.sub h (List.mem_cons_self)).resolve_right hp
   by_cases hhe:h=e
   ·subst hhe
    exact ⟨a,L,lag,M1,w1,w,Steps.refl _ _,d,hr,hB,fun _ _ h=>h,[],rfl,List.nodup_nil,fun _ h=>by cases h⟩
   ·have hfalse:∀ i∈rem,i≠h→((Region.before ops).getD h 0).testBit i=true→i ∉ lag.map (·.1)→False:=by
     intro i hi hne hb hni
     have hiL:i∈L:=by
      rcases d.remL i hi with h1 | h1
      ·rcases List.mem_cons.1 h1 with h1 | h1
       ·exact absurd h1 hne
       ·exact h1
      ·exact absurd h1 hni
     have:=(List.pairwise_cons.1 d.ord).1 i hiL
     rw [this] at hb;cases hb
    have hlate:late E ops (Region.before ops) a.size h=true∧∀ o,ops[h]?=some o→∃ r,fT E (ev z) o r:=by
     rw [hn]
     rcases hun h hrm with h1 | h1 | h1 | ⟨i,hi,hne,hb,hnl⟩
     ·exact absurd h1 hhe
     ·exact (hfalse e he (fun e'=>hhe e'.symm) h1 hel).elim
     ·exact h1
     ·refine (hfalse i hi hne hb fun hm=>?_).elim
      obtain ⟨q,hq,eq⟩:=List.mem_map.1 hm
      obtain ⟨_,_,_,_,g2,_⟩:=d.lagged q hq
      rw [eq,hn,hnl] at g2;cases g2
    obtain ⟨a',r,hs,hsz,d'⟩:=d.Ht hok hr hB.rlt hrm hlate.1 hlate.2 (b:=b) (df:=df) (k:=k) (cs:=cs)
    obtain ⟨a'',L',lag',M2,w2,w',hs',d'',hr'',hB'',hhid,l0,hl0,hnd,hge⟩:=ih (by rw [hsz];exact hn) d' (hr.oT r) (hB.oT hr r) (by
     rw [List.map_cons,List.mem_cons]
     rintro (e1 | e1)
     ·exact hhe e1.symm
     ·exact hel e1) (b:=b) (df:=df) (k:=k) (cs:=cs)
    refine ⟨a'',L',lag',M2,w2,w',.head hs hs',d'',hr'',hB'',fun b r' hh=>hhid b r' (hh.oT hr r),l0++[w.heap.size],by rw [hl0];simp,?_,fun B hB'=>?_⟩
    ·rw [List.nodup_append]
     refine ⟨hnd,by simp,fun x hx y hy=>?_⟩
     have:=hge x hx
     have:(w.heap.push r).size≤x:=this
     simp at this hy;omega
    ·rcases List.mem_append.1 hB' with h1 | h1
     ·have:(w.heap.push r).size≤B:=hge B h1
      have:=hr.size
      simp at *;omega
     ·have:=hr.size
      simp at h1;omega

theorem gG.xn:∀ {L:List Nat} {a:Array Value},gG E ν M w0 ops [] pend lag L tm a z→Ea E ops pend z w→∀ {b:Frame} {df:List Deferred} {k:List Item} {cs:List Frame},
  ∃ a',Steps E.P (lone (b.atR ⟨a,df⟩ (.inRegion ops L::k)) cs w) (lone (b.atR ⟨a',df⟩ k) cs w)∧ia ν tm a':=by
 intro L
 induction L with
 | nil=>
  intro a d _ b df k cs
  refine ⟨a,.one stepR_region_end,?_⟩
  have hall:∀ t,a.getD t undef=z.getD t undef:=fun t=>d.agree t (by intro p hp;cases hp) (fun q hq=>by cases d.lagrem q hq)
  have:a=z:=by
   apply Array.ext_getElem?
   intro t
   exact getElem?_of_getD d.size (hall t)
  rw [this];exact d.tm
 | cons h L ih=>
  intro a d hst b df k cs
  have hp:h∈pend:=(d.sub h (List.mem_cons_self)).resolve_left (by simp)
  obtain ⟨a',hs,d'⟩:=d.pending hp hst (b:=b) (df:=df) (k:=k) (cs:=cs)
  obtain ⟨a'',hs',ht⟩:=ih d' hst (b:=b) (df:=df) (k:=k) (cs:=cs)
  exact ⟨a'',.head hs hs',ht⟩

end
section
variable {E:Env} {ν:aA} {M:Own} {w0 w:World} {s s':SH}
variable {ops:Array Oper} {rem pend L:List Nat} {lag:List (Nat × Nat)} {M1:Own} {w1:World} {tm:dG} {a z:Array Value}

theorem AL {i j:Nat} (h:i≠j):(!Nat.beq i j)=true:=by
 cases hb:Nat.beq i j
 ·rfl
 ·exact absurd (Nat.eq_of_beq_eq_true hb) h

theorem nE {o:Oper} {b:Bool} (h:wanted ops tm o E s=some (b,s')) (ht:ia ν tm a):s.cb s'∧(s'.ob→s.ob∧Region.wanted o (yielded ops a)=b):=by
 unfold wanted at h
 unfold Region.wanted
 split at h
 ·rename_i hg
  cases h
  rw [hg]
  exact ⟨.refl _,fun ob=>⟨ob,rfl⟩⟩
 ·rename_i j want hg
  rw [hg]
  simp only
  split at h
  ·rename_i d hd
   cases hb:Nat.blt d tm.nt
   ·rw [hb] at h;cases h
   ·rw [hb] at h
    simp only [cond_true] at h
    have hv:=ht.at d
    have hlt:d<a.size:=by rw [ht.size];exact ca.1 hb
    have hy:yielded ops a j=match a.getD d undef with | .bool b=>some b | _=>none:=by
     unfold yielded
     rw [hd]
     simp only [Option.bind_some,Array.getD_eq_getD_getElem?,Array.getElem?_eq_getElem hlt,Option.getD_some]
     cases a[d] <;> rfl
    split at h
    ·rename_i t htm
     rw [htm] at hv
     rw [VR.ab.1 hv] at hy
     cases hdec:s.dec E t with
     | mk t' s1=>
      rw [hdec] at h
      cases h
      obtain ⟨hsame,hob⟩:=SH.dR hdec
      refine ⟨hsame,fun ob=>⟨(hob ob).1,?_⟩⟩
      rw [hy,(hob ob).2]
      cases t' <;> cases want <;> rfl
    ·rename_i vs htm
     rw [htm] at hv
     rw [VR.ab.1 hv] at hy
     cases h
     refine ⟨.refl _,fun ob=>⟨ob,?_⟩⟩
     rw [hy];cases want <;> rfl
    ·cases h
  ·cases h

theorem qE {o:Oper} {x:SV} (hf:fL o.op=true) (h:lO E ops tm o s=some (x,s')) (hr:HR ν M w0 s w) (hg:GR ν E) (ht:ia ν tm z):
  (∀ d,o.dst=some d→d<z.size)∧s.cb s'∧x.mG=true∧(s'.ob→s.ob∧∃ y,VR ν x y∧
   (Region.wanted o (yielded ops z)=true→(execOp (ev z) o).run E.P w=.ok (.value y) w∧(looks o.op=false→∀ w,(execOp (ev z) o).run E.P w=.ok (.value y) w))∧
   (Region.wanted o (yielded ops z)=false→y=undef)):=by
 unfold lO at h
 obtain ⟨u,h0,h⟩:=Option.bind_eq_some_iff.1 h
 have h0:=gy h0
 refine ⟨fun d hd=>?_,?_⟩
 ·rw [hd] at h0;rw [ht.size];exact ca.1 h0
 cases hw:wanted ops tm o E s with
 | none=>rw [hw] at h;cases h
 | some r=>
 obtain ⟨b,s1⟩:=r
 rw [hw] at h
 obtain ⟨hsame,hob⟩:=nE hw ht
 have h:(bif b then match zS E tm o s1 with
   | some [(.val x,s)]=>bif x.mG then some (x,s) else none
   | _=>none
  else some (.v undef,s1))=some (x,s'):=h
 cases b
 ·cases h
  exact ⟨hsame,rfl,fun ob=>⟨(hob ob).1,undef,VR.ab.2 rfl,fun hc=>(by rw [(hob ob).2] at hc;cases hc),fun _=>rfl⟩⟩
 ·simp only [cond_true] at h
  split at h
  ·rename_i x1 s2 hop
   cases hs:x1.mG
   ·rw [hs] at h;cases h
   ·rw [hs] at h;cases h
    obtain ⟨hs2,hq⟩:=Be hf hop (hr.same hsame) (ht.He hg)
    refine ⟨hsame.trans hs2,hs,fun ob=>?_⟩
    obtain ⟨ob1,⟨y,hy,hv⟩,hall⟩:=hq ob
    refine ⟨(hob ob1).1,y,hv,fun _=>⟨hy,fun hl w'=>?_⟩,fun hc=>by rw [(hob ob1).2] at hc;cases hc⟩
    obtain ⟨y',hy',hv'⟩:=hall hl w'
    rw [VR.func1 x y y' hs hv hv'];exact hy'
  ·cases h

theorem wanted_put {q:Oper} {d:Nat} {y:Value} (h:d ∉ bU ops q):Region.wanted q (yielded ops (z.setIfInBounds d y))=Region.wanted q (yielded ops z):=by
 unfold Region.wanted
 cases hg:q.guard with
 | none=>rfl
 | some jw=>
  obtain ⟨j,want⟩:=jw
  simp only
  have:yielded ops (z.setIfInBounds d y) j=yielded ops z j:=by
   unfold yielded
   cases hj:(ops[j]?).bind (·.dst) with
   | none=>rfl
   | some t=>
    have ht:t∈bU ops q:=by unfold bU;rw [hg];simp [hj]
    have hne:d≠t:=fun e=>h (e ▸ ht)
    simp only [Option.bind_some,Array.getElem?_setIfInBounds,if_neg hne]
  rw [this]

theorem execOp_put {q:Oper} {d:Nat} {y:Value} (hns:∀ cs b,q.op≠.select cs b) (h:∀ x∈q.op.operands,x≠.tmp d):execOp (ev (z.setIfInBounds d y)) q=execOp (ev z) q:=by
 refine Go.execOp_congr q hns fun x hx=>?_
 cases x with
 | tmp t=>exact bu (fun e=>h _ hx (by rw [e]))
 | const v=>rfl
 | global g=>rfl
 | func f=>rfl

theorem mw.put {q:Oper} {d:Nat} {y:Value} (r:mw E ops q z w) (hns:∀ cs b,q.op≠.select cs b) (h1:∀ x∈q.op.operands,x≠.tmp d) (h2:q.dst≠some d) (h3:d ∉ bU ops q):
  mw E ops q (z.setIfInBounds d y) w:=by
 unfold mw at r ⊢
 rw [wanted_put h3,execOp_put hns h1]
 refine ⟨fun hw=>?_,fun hw t ht=>?_⟩
 ·obtain ⟨v,hv,hd⟩:=r.1 hw
  refine ⟨v,hv,fun t ht=>?_⟩
  rw [bu (fun e=>h2 (by rw [← e];exact ht))];exact hd t ht
 ·rw [bu (fun e=>h2 (by rw [← e];exact ht))];exact r.2 hw t ht

theorem mw.dB {q o:Oper} {y:Value} (r:mw E ops q z w) (hns:∀ cs b,q.op≠.select cs b)
  (h:∀ d,o.dst=some d→(∀ x∈q.op.operands,x≠.tmp d)∧q.dst≠some d∧d ∉ bU ops q):mw E ops q (dB z o y) w:=by
 unfold Go.Rx.dB
 cases hd:o.dst with
 | none=>exact r
 | some d=>obtain ⟨h1,h2,h3⟩:=h d hd;exact r.put hns h1 h2 h3

theorem kf {o:Oper} {y:Value}:(dB z o y).size=z.size:=by unfold dB;cases o.dst <;> simp

theorem gG.float {i:Nat} {o:Oper} {x:SV} (d:gG E ν M1 w1 ops rem pend lag L tm a z) (hst:vi E ν s ops pend z) (hi:i∈rem) (hfree:Go.Rx.free ops (Region.before ops) i=true) (hready:ready (Region.before ops) rem i=true)
  (ho:ops[i]?=some o) (h:lO E ops tm o s=some (x,s')) (hr:HR ν M w0 s w) (hg:GR ν E):
  s.cb s'∧(s'.ob→s.ob∧∃ z',gG E ν M1 w1 ops (rem.filter fun j=>!Nat.beq j i) (i::pend) lag L (putDst tm o x) a z'∧vi E ν s' ops (i::pend) z'):=by
 obtain ⟨o',ho',hfl,hfr⟩:=gS hfree
 rw [ho] at ho';cases ho'
 have hil:∀ q∈lag,q.1≠i:=by
  intro q hq e
  obtain ⟨o2,d2,r2,g1,g2,g3,g4,_⟩:=d.lagged q hq
  obtain ⟨_,_,g5,g6,_⟩:=ga g2
  rw [g1] at g5;cases g5
  rw [e,ho] at g1;cases g1
  rw [fK g6] at hfl;cases hfl
 have hiL:i∈L:=by
  rcases d.remL i hi with h1 | h1
  ·exact h1
  ·obtain ⟨q,hq,e⟩:=List.mem_map.1 h1
   exact absurd e (hil q hq)
 obtain ⟨hlt,hsame,hsol,hob⟩:=qE hfl h hr hg d.tm
 refine ⟨hsame,fun ob=>?_⟩
 obtain ⟨ob1,y,hv,hrun,hnot⟩:=hob ob
 refine ⟨ob1,dB z o y,?_⟩
 have hself:∀ (w':World),(Region.wanted o (yielded ops z)=true→(execOp (ev z) o).run E.P w'=.ok (.value y) w')→mw E ops o (dB z o y) w':=by
  intro w' hw'
  obtain ⟨hns,_⟩:=dj hfl
  unfold mw
  have e1:Region.wanted o (yielded ops (dB z o y))=Region.wanted o (yielded ops z):=by
   unfold dB
   cases hd:o.dst with
   | none=>rfl
   | some t=>exact wanted_put (hfr t hd).2.1
  have e2:execOp (ev (dB z o y)) o=execOp (ev z) o:=by
   unfold dB
   cases hd:o.dst with
   | none=>rfl
   | some t=>exact execOp_put hns (hfr t hd).1
  have e3:∀ t,o.dst=some t→(dB z o y).getD t undef=y:=by
   intro t ht
   unfold dB;rw [ht];exact dJ (hlt t ht)
  rw [e1,e2]
  exact ⟨fun hw=>⟨y,hw' hw,fun t ht=>(e3 t ht).symm⟩,fun hw t ht=>by rw [e3 t ht,hnot hw]⟩
 have hothers:∀ p∈pend,∀ q,ops[p]?=some q→∀ w',mw E ops q z w'→mw E ops q (dB z o y) w':=by
  intro p hp q hq w' r
  obtain ⟨q',hq',hflq,_⟩:=gS (d.free p hp)
  rw [hq] at hq';cases hq'
  refine r.dB (dj hflq).1 fun t ht=>?_
  have hne:p≠i:=fun e=>d.disj i hi (e ▸ hp)
  rcases (hfr t ht).2.2 p q hne hq with hb | hb
  ·rw [d.preds p hp i hi] at hb;cases hb
  ·exact hb
 constructor
 ·refine ⟨d.nodup,d.ord,d.irr,d.lt,fun j hj=>d.remL j (List.mem_filter.1 hj).1,fun j hj=>?_,fun j hj hm=>?_,fun p hp=>?_,fun p hp j hj=>?_,d.tm.putDst o hv,?_,fun t ht htl=>?_,fun p hp q hq hl w'=>?_,fun q hq=>List.mem_filter.2 ⟨d.lagrem q hq,AL (hil q hq)⟩,d.lagL,d.lagirr,fun q hq=>(d.lagged q hq).Hy fun o1 t h1 h2=>d.yq hq h1 hi ho h2,d.lagnd,d.lagord⟩
  ·rcases d.sub j hj with h1 | h1
   ·by_cases e:j=i
    ·exact .inr (e ▸ List.mem_cons_self)
    ·exact .inl (List.mem_filter.2 ⟨h1,AL e⟩)
   ·exact .inr (List.mem_cons_of_mem _ h1)
  ·obtain ⟨h1,h2⟩:=List.mem_filter.1 hj
   rcases List.mem_cons.1 hm with e | e
   ·rw [e] at h2;simp at h2
   ·exact d.disj j h1 e
  ·rcases List.mem_cons.1 hp with e | e
   ·rw [e];exact hfree
   ·exact d.free p e
  ·obtain ⟨h1,h2⟩:=List.mem_filter.1 hj
   rcases List.mem_cons.1 hp with e | e
   ·subst e
    have:=List.all_eq_true.1 hready j h1
    simpa using this
   ·exact d.preds p e j h1
  ·rw [kf];exact d.size
  ·have h1:a.getD t undef=z.getD t undef:=d.agree t (fun p hp hpp q hq=>ht p hp (List.mem_cons_of_mem _ hpp) q hq) htl
   have h2:o.dst≠some t:=ht i hiL List.mem_cons_self o ho
   rw [h1]
   unfold dB
   cases hd:o.dst with
   | none=>rfl
   | some u=>rw [bu (fun e=>h2 (by rw [hd,e]))]
  ·rcases List.mem_cons.1 hp with e | e
   ·subst e
    rw [ho] at hq;cases hq
    exact hself w' fun hw=>(hrun hw).2 hl w'
   ·exact hothers p e q hq w' (d.pure p e q hq hl w')
 ·intro M' w0' w' hr' p hp q hq
  have hr':=hr'.same hsame.symm
  rcases List.mem_cons.1 hp with e | e
  ·subst e
   rw [ho] at hq;cases hq
   obtain ⟨_,_,_,hob'⟩:=qE hfl h hr' hg d.tm
   obtain ⟨_,y',hv',hrun',_⟩:=hob' ob
   refine hself w' fun hw=>?_
   rw [VR.func1 x y y' hsol hv hv']
   exact (hrun' hw).1
  ·exact hothers p e q hq w' (hst _ _ _ hr' p e q hq)

theorem gG.narrow {e:Nat} (d:gG E ν M1 w1 ops rem pend lag (e::L) tm a z) (he:e∈rem):
  gG E ν M1 w1 ops (e::rem.filter fun j=>!Nat.beq j e) (pend.filter fun p=>!(((Region.before ops).getD e 0).testBit p)) lag (e::L) tm a z:=by
 have hsub:∀ p∈L,p∈pend→p∈pend.filter fun p=>!(((Region.before ops).getD e 0).testBit p):=by
  intro p hp hpp
  refine List.mem_filter.2 ⟨hpp,?_⟩
  rw [(List.pairwise_cons.1 d.ord).1 p hp];rfl
 have hrem:∀ i,i∈(e::rem.filter fun j=>!Nat.beq j e)↔i∈rem:=by
  intro i
  rw [List.mem_cons,List.mem_filter]
  constructor
  ·rintro (h | h)
   ·exact h ▸ he
   ·exact h.1
  ·intro h
   by_cases hi:i=e
   ·exact .inl hi
   ·exact .inr ⟨h,AL hi⟩
 refine ⟨d.nodup,d.ord,d.irr,d.lt,fun i hi=>d.remL i ((hrem i).1 hi),fun i hi=>?_,fun i hi hm=>d.disj i ((hrem i).1 hi) (List.mem_filter.1 hm).1,fun p hp=>d.free p (List.mem_filter.1 hp).1,
  fun p hp j hj=>d.preds p (List.mem_filter.1 hp).1 j ((hrem j).1 hj),d.tm,d.size,fun t ht htl=>d.agree t (fun p hp hpp q hq=>?_) htl,fun p hp=>d.pure p (List.mem_filter.1 hp).1,fun q hq=>(hrem q.1).2 (d.lagrem q hq),d.lagL,d.lagirr,d.lagged,d.lagnd,d.lagord⟩
 ·rcases d.sub i hi with h | h
  ·exact .inl ((hrem i).2 h)
  ·rcases List.mem_cons.1 hi with h1 | h1
   ·exact .inl (h1 ▸ List.mem_cons_self)
   ·exact .inr (hsub i h1 h)
 ·rcases List.mem_cons.1 hp with h1 | h1
  ·exact absurd hpp (d.disj p (h1 ▸ he))
  ·exact ht p hp (hsub p h1 hpp) q hq

theorem pV {o:Oper} (h:unnamed ops pend o=true) {d:Nat} (hd:o.dst=some d) {p:Nat} (hp:p∈pend) {q:Oper} (hq:ops[p]?=some q):
  (∀ x∈q.op.operands,x≠.tmp d)∧q.dst≠some d∧d ∉ bU ops q:=by
 unfold unnamed at h
 rw [hd] at h
 have h1:=List.all_eq_true.1 h p hp
 rw [hq] at h1
 simp only [Bool.not_eq_true',Bool.or_eq_false_iff] at h1
 obtain ⟨h2,h3⟩:=h1
 refine ⟨fun x hx e=>?_,fun e=>?_,fun hm=>?_⟩
 ·subst e
  have:d∈fZ q:=List.mem_append_right _ (List.mem_filterMap.2 ⟨_,by simpa using hx,rfl⟩)
  rw [← List.contains_iff_mem] at this
  rw [this] at h2;cases h2
 ·have:d∈fZ q:=List.mem_append_left _ (by simp [e])
  rw [← List.contains_iff_mem] at this
  rw [this] at h2;cases h2
 ·rw [← List.contains_iff_mem] at hm
  rw [hm] at h3;cases h3

theorem gG.done {e:Nat} {o:Oper} {x:SV} {y:Value} (d:gG E ν M1 w1 ops (e::rem) pend lag (e::L) tm a z) (ho:ops[e]?=some o) (hn:(e::rem).Nodup∨e ∉ rem) (hu:unnamed ops pend o=true) (hv:VR ν x y) (hnl:qv ops lag e):
  gG E ν M1 w1 ops rem pend lag L (putDst tm o x) (dB a o y) (dB z o y):=by
 have her:e ∉ rem:=by rcases hn with h | h;exact (List.nodup_cons.1 h).1;exact h
 have hep:e ∉ pend:=d.disj e List.mem_cons_self
 refine ⟨(List.nodup_cons.1 d.nodup).2,(List.pairwise_cons.1 d.ord).2,fun i hi=>d.irr i (List.mem_cons_of_mem _ hi),fun i hi=>d.lt i (List.mem_cons_of_mem _ hi),fun i hi=>?_,fun i hi=>?_,
  fun i hi=>d.disj i (List.mem_cons_of_mem _ hi),d.free,fun p hp j hj=>d.preds p hp j (List.mem_cons_of_mem _ hj),d.tm.putDst o hv,by rw [kf,kf];exact d.size,fun t ht htl=>?_,fun p hp q hq hl w'=>?_,fun q hq=>?_,fun q hq hm=>d.lagL q hq (List.mem_cons_of_mem _ hm),d.lagirr,fun q hq=>((d.lagged q hq).put fun o1 t h1 h2=>?_).Hy fun o1 t h1 h2=>d.yq hq h1 List.mem_cons_self ho h2,d.lagnd,fun q hq p hp=>d.lagord q hq p (List.mem_cons_of_mem _ hp)⟩
 ·rcases d.remL i (List.mem_cons_of_mem _ hi) with h | h
  ·rcases List.mem_cons.1 h with h | h
   ·exact absurd (h ▸ hi) her
   ·exact .inl h
  ·exact .inr h
 ·rcases d.sub i (List.mem_cons_of_mem _ hi) with h | h
  ·rcases List.mem_cons.1 h with h1 | h1
   ·exact absurd (h1 ▸ hi) (List.nodup_cons.1 d.nodup).1
   ·exact .inl h1
  ·exact .inr h
 ·have hat:a.getD t undef=z.getD t undef:=d.agree t (fun p hp hpp q hq=>by
   rcases List.mem_cons.1 hp with h | h
   ·exact absurd (h ▸ hpp) hep
   ·exact ht p h hpp q hq) htl
  unfold dB
  cases hd:o.dst with
  | none=>exact hat
  | some u=>
   simp only
   by_cases et:t=u
   ·subst et
    by_cases hs:t<a.size
    ·rw [dJ hs,dJ (by rw [← d.size];exact hs)]
    ·have h1:a.size≤t:=Nat.not_lt.mp hs
     have h2:z.size≤t:=by rw [← d.size];exact h1
     rw [Array.getD_eq_getD_getElem?,Array.getElem?_eq_none (by simpa using h1),Array.getD_eq_getD_getElem?,Array.getElem?_eq_none (by simpa using h2)]
   ·rw [bu et,bu et];exact hat
 ·obtain ⟨q',hq',hflq,_⟩:=gS (d.free p hp)
  rw [hq] at hq';cases hq'
  exact (d.pure p hp q hq hl w').dB (dj hflq).1 fun t ht=>pV hu ht hp hq
 ·rcases List.mem_cons.1 (d.lagrem q hq) with h | h
  ·exact absurd (h ▸ List.mem_cons_self) (d.lagL q hq)
  ·exact h
 ·have hne:e≠q.1:=fun h=>d.lagL q hq (h ▸ List.mem_cons_self)
  exact (d.tZ hq h1 h2 hne (hnl q hq) ho).2.1

def Own.show (M:Own) (B:Nat):Own:=⟨fun b=>M b∨b=B,M.r,M.h⟩

theorem HR.show (h:HR ν M1 w1 s w) {B:Nat} {r:Obj} (hB:cH M1 w1 B r) (hroom:s.room=true) {so:SO} (hor:∀ i,OR ν i so r):
  ν.Le (ν.put s.nx (B,0))∧HR (ν.put s.nx (B,0)) (M1.show B) w1 (s.new so) w:=by
 obtain ⟨hB1,hB2,hB3,hB4⟩:=hB
 have hlt:B<w1.heap.size:=(Array.getElem?_eq_some_iff.1 hB1).1
 have h':HR ν (M1.show B) w1 s w:=⟨h.full,h.dom,h.fresh,fun i hi x hx=>let ⟨b,o,h1,h2,h3,h4⟩:=h.obj i hi x hx;⟨b,o,h1,h2,h3,fun e=>(h4 e).imp id .inl⟩,h.inj,h.size,fun b hb hM=>h.frame b hb fun hc=>hM (.inl hc),h.ro,h.os,h.tape,h.output⟩
 refine h'.zm hroom 0 (.inr (.inr rfl)) (fun j hj hn b hb e=>?_) ((hor _).mono (aA.gY (h.fresh _ (Nat.le_refl _)) _)) (by rw [h.frame B hlt hB2,hB1]) (fun _ _=>rfl) h.size rfl rfl rfl
 cases hx:s.H.get j with
 | none=>exact hn hx
 | some x=>
  obtain ⟨b',o',h1,h2,_,h4⟩:=h.obj j hj x hx
  rw [hb] at h1;cases h1
  cases hf:x.2
  ·exact hB3 (e ▸ h.ro j hj x hx hf b hb)
  ·rcases h4 hf with h4 | h4
   ·omega
   ·exact hB2 (e ▸ h4)

theorem bk.show {M:Own} {w0:World} (B:bk M w0 M1 w1) {b0:Nat} {r:Obj} (hB:cH M1 w1 b0 r):bk M w0 (M1.show b0) w1:=by
 refine ⟨B.size,B.os,B.tape,B.output,fun b hb hM=>⟨(B.frame b hb hM).1,fun hc=>?_⟩,fun b hb=>?_,B.ro,B.hid,B.rlt⟩
 ·rcases hc with hc | hc
  ·exact (B.frame b hb hM).2 hc
  ·subst hc
   rcases B.hid b hB.2.2.2 with h | h
   ·omega
   ·exact hM h
 ·rcases hb with hb | hb | hb
  ·exact B.own b (.inl hb)
  ·exact B.own b (.inr hb)
  ·subst hb;exact B.hid b hB.2.2.2

theorem cH.show {b0 b:Nat} {r:Obj} (h:cH M1 w1 b r) (hne:b≠b0):cH (M1.show b0) w1 b r:=
 ⟨h.1,fun hc=>hc.elim h.2.1 hne,h.2.2.1,h.2.2.2⟩

theorem gG.zm {e B:Nat} {o:Oper} {i:Nat} {ν':aA} (d:gG E ν M1 w1 ops rem pend lag L tm a z) (hle:ν.Le ν') (he:(e,B)∈lag) (ho:ops[e]?=some o)
  (hu:unnamed ops (pend.filter fun p=>!(((Region.before ops).getD e 0).testBit p)) o=true) (hi:ν' i=some (B,0)) (hbl:∀ q∈lag,q.1≠e→q.2≠B):
  gG E ν' (M1.show B) w1 ops (rem.filter fun j=>!Nat.beq j e) (pend.filter fun p=>!(((Region.before ops).getD e 0).testBit p)) (lag.filter fun q=>!Nat.beq q.1 e) L (putDst tm o (zC (mH o.op) i)) a (dB z o (nW (mH o.op) B)):=by
 obtain ⟨o1,t,r,g1,g2,g3,g4,g6,g7⟩:=d.lagged _ he
 rw [ho] at g1;cases g1
 have d':=d.mono hle
 have hlag:∀ q,q∈lag.filter (fun q=>!Nat.beq q.1 e)→q∈lag∧q.1≠e:=by
  intro q hq
  obtain ⟨h1,h2⟩:=List.mem_filter.1 hq
  exact ⟨h1,fun e'=>by rw [e'] at h2;simp at h2⟩
 have hpf:∀ p,p∈pend.filter (fun p=>!(((Region.before ops).getD e 0).testBit p))→p∈pend:=fun p hp=>(List.mem_filter.1 hp).1
 have hfp:∀ p∈L,p∈pend→p∈pend.filter (fun p=>!(((Region.before ops).getD e 0).testBit p)):=fun p hp hpp=>List.mem_filter.2 ⟨hpp,by rw [d.lagord _ he p hp];rfl⟩
 refine ⟨d.nodup,d.ord,d.irr,d.lt,fun j hj=>?_,fun j hj=>?_,fun j hj hm=>d.disj j (List.mem_filter.1 hj).1 (hpf j hm),fun p hp=>d.free p (hpf p hp),fun p hp j hj=>d.preds p (hpf p hp) j (List.mem_filter.1 hj).1,
  d'.tm.putDst o (CN hi),by rw [kf];exact d.size,fun u hu hul=>?_,fun p hp q hq hl w'=>?_,fun q hq=>?_,fun q hq=>d.lagL q (hlag q hq).1,fun q hq=>d.lagirr q (hlag q hq).1,fun q hq=>?_,?_,fun q hq=>d.lagord q (hlag q hq).1⟩
 ·obtain ⟨h1,h2⟩:=List.mem_filter.1 hj
  rcases d.remL j h1 with h | h
  ·exact .inl h
  ·obtain ⟨q,hq,e'⟩:=List.mem_map.1 h
   exact .inr (List.mem_map.2 ⟨q,List.mem_filter.2 ⟨hq,by rw [e'];exact h2⟩,e'⟩)
 ·rcases d.sub j hj with h | h
  ·refine .inl (List.mem_filter.2 ⟨h,AL fun e'=>?_⟩)
   exact d.lagL _ he (e' ▸ hj)
  ·exact .inr (hfp j hj h)
 ·unfold dB
  rw [g3]
  simp only
  by_cases et:u=t
  ·subst et
   have hs:u<z.size:=by
    rw [← d.size]
    refine Nat.not_le.1 fun hle=>?_
    rw [Array.getD_eq_getD_getElem?,Array.getElem?_eq_none hle] at g7
    exact wc g7
   rw [dJ hs];exact g7
  ·rw [bu et]
   refine d.agree u (fun p hp hpp=>hu p hp (hfp p hp hpp)) fun q hq o2 ho2 e2=>?_
   by_cases hqe:q.1=e
   ·rw [hqe,ho] at ho2;cases ho2
    rw [g3] at e2;exact et (Option.some.inj e2).symm
   ·exact hul q (List.mem_filter.2 ⟨hq,AL hqe⟩) o2 ho2 e2
 ·obtain ⟨q',hq',hflq,_⟩:=gS (d.free p (hpf p hp))
  rw [hq] at hq';cases hq'
  exact (d.pure p (hpf p hp) q hq hl w').dB (dj hflq).1 fun t ht=>pV hu ht hp hq
 ·exact List.mem_filter.2 ⟨d.lagrem q (hlag q hq).1,AL (hlag q hq).2⟩
 ·exact ((d.lagged q (hlag q hq).1).Hy fun o1 t h1 h2=>d.yq (hlag q hq).1 h1 (d.lagrem _ he) ho h2).cy fun r h=>h.show (hbl q (hlag q hq).1 (hlag q hq).2)
 ·exact d.lagnd.sublist (List.Sublist.map _ List.filter_sublist)

theorem iJ (hr:HR ν M w0 s w) (hg:GR ν E) (ht:ia ν tm z):∀ {pend:List Nat} {s s':SH},HR ν M w0 s w→recheck E ops tm pend s=some s'→(∀ p∈pend,free ops (Region.before ops) p=true)→
  (∀ p∈pend,∀ o,ops[p]?=some o→looks o.op=false→∀ w,mw E ops o z w)→s.cb s'∧(s'.ob→s.ob∧Ea E ops pend z w):=by
 intro pend
 induction pend with
 | nil=>intro s s' hr h _ _;cases h;exact ⟨.refl _,fun ob=>⟨ob,by intro p hp;cases hp⟩⟩
 | cons p ps ih=>
  intro s s' hr h hf hp
  unfold recheck at h
  cases ho:ops[p]? with
  | none=>rw [ho] at h;cases h
  | some o=>
   rw [ho] at h
   simp only at h
   cases hl:looks o.op
   ·rw [hl] at h
    simp only [cond_false] at h
    obtain ⟨hsame,hob⟩:=ih hr h (fun q hq=>hf q (List.mem_cons_of_mem _ hq)) (fun q hq=>hp q (List.mem_cons_of_mem _ hq))
    refine ⟨hsame,fun ob=>⟨(hob ob).1,fun q hq o' ho'=>?_⟩⟩
    rcases List.mem_cons.1 hq with e | e
    ·subst e
     rw [ho] at ho';cases ho'
     exact hp q List.mem_cons_self o ho hl w
    ·exact (hob ob).2 q e o' ho'
   ·rw [hl] at h
    simp only [cond_true] at h
    cases h1:lO E ops tm o s with
    | none=>rw [h1] at h;cases h
    | some r=>
    obtain ⟨x,s1⟩:=r
    rw [h1] at h
    cases hd:o.dst with
    | none=>rw [hd] at h;cases h
    | some d=>
    rw [hd] at h
    have h:((jK E (tm.get d) x s1).bind fun s=>recheck E ops tm ps s)=some s':=h
    cases h2:jK E (tm.get d) x s1 with
    | none=>rw [h2] at h;cases h
    | some s2=>
    rw [h2] at h
    have h:recheck E ops tm ps s2=some s':=h
    obtain ⟨o',ho',hfl,_⟩:=gS (hf p List.mem_cons_self)
    rw [ho] at ho';cases ho'
    obtain ⟨_,hsame1,hsol,hob1⟩:=qE hfl h1 hr hg ht
    obtain ⟨hsame2,hob2⟩:=py h2
    obtain ⟨hsame3,hob3⟩:=ih (hr.same (hsame1.trans hsame2)) h (fun q hq=>hf q (List.mem_cons_of_mem _ hq)) (fun q hq=>hp q (List.mem_cons_of_mem _ hq))
    refine ⟨(hsame1.trans hsame2).trans hsame3,fun ob=>?_⟩
    obtain ⟨ob2,hst⟩:=hob3 ob
    obtain ⟨ob1,heq⟩:=hob2 ob2
    obtain ⟨ob0,y,hv,hrun,hnot⟩:=hob1 ob1
    refine ⟨ob0,fun q hq o' ho'=>?_⟩
    rcases List.mem_cons.1 hq with e | e
    ·subst e
     rw [ho] at ho';cases ho'
     have hvz:=ht.at d
     rw [heq] at hvz
     have hyz:y=z.getD d undef:=VR.func1 x _ _ hsol hv hvz
     refine ⟨fun hw=>⟨y,(hrun hw).1,fun t et=>?_⟩,fun hw t et=>?_⟩
     ·rw [hd] at et;cases et;exact hyz
     ·rw [hd] at et;cases et;rw [← hyz,hnot hw]
    ·exact hst q e o' ho'

end
section
variable {E:Env} {ν:aA} {M:Own} {w0 w:World} {s s':SH}

def Iw (ν:aA):Option Nat→Option Nat→Prop
 | none,r=>r=none
 | some i,r=>∃ b,ν i=some b∧r=some b.1
theorem Iw.mono {ν':aA} (h:ν.Le ν'):∀ {x r:Option Nat},Iw ν x r→Iw ν' x r
 | none,_,e=>e
 | some _,_,⟨b,hb,e⟩=>⟨b,h _ _ hb,e⟩

inductive Dp (E:Env) (ν:aA) (M:Own) (w0:World) (s:SH):List Nat→dG→List SI→Array Value→List Item→Prop
 | plain {tm:dG} {xs:List SI} {a:Array Value} {ys:List Item} (ht:ia ν tm a) (hk:qJ ν xs ys):Dp E ν M w0 s [] tm xs a ys
 | drw {ops:Array Oper} {rem pend L:List Nat} {lag:List (Nat × Nat)} {tm:dG} {a z:Array Value} {k:List SI} {k':List Item} (hok:eB ops=true) (hn:rem.Nodup) (d:gG E ν M w0 ops rem pend lag L tm a z)
   (st:vi E ν s ops pend z) (hk:qJ ν k k'):Dp E ν M w0 s (lag.map (·.2)) tm (.drw ops rem pend::k) a (.inRegion ops L::k')

inductive iZ (E:Env) (ν:aA) (M:Own) (w0:World):List Nat→dG→List SI→Array Value→List Item→Prop
 | plain {tm:dG} {xs:List SI} {a:Array Value} {ys:List Item} (ht:ia ν tm a) (hk:qJ ν xs ys):iZ E ν M w0 [] tm xs a ys
 | drw {ops:Array Oper} {e:Nat} {rem pend L:List Nat} {lag:List (Nat × Nat)} {tm:dG} {a z:Array Value} {k:List SI} {k':List Item} (hok:eB ops=true) (hn:(e::rem).Nodup) (d:gG E ν M w0 ops (e::rem) pend lag (e::L) tm a z)
   (hnl:qv ops lag e) (hk:qJ ν k k'):iZ E ν M w0 (lag.map (·.2)) tm (.drw ops (e::rem) pend::k) a (.inRegion ops (e::L)::k')

theorem iZ.mono {ν':aA} (h:ν.Le ν') {hl:List Nat} {tm:dG} {xs:List SI} {a:Array Value} {ys:List Item}:iZ E ν M w0 hl tm xs a ys→iZ E ν' M w0 hl tm xs a ys
 | .plain ht hk=>.plain (ht.mono h) (hk.mono h)
 | .drw hok hn d hnl hk=>.drw hok hn (d.mono h) hnl (hk.mono h)

theorem iZ.cy {M':Own} {w0':World} {hl:List Nat} (k:∀ b∈hl,∀ r,cH M w0 b r→cH M' w0' b r) {tm:dG} {xs:List SI} {a:Array Value} {ys:List Item}:iZ E ν M w0 hl tm xs a ys→iZ E ν M' w0' hl tm xs a ys
 | .plain ht hk=>.plain ht hk
 | .drw hok hn d hnl hk=>.drw hok hn (d.cy fun q hq r h=>k _ (List.mem_map.2 ⟨q,hq,rfl⟩) r h) hnl hk

theorem iZ.hidden {hl:List Nat} {tm:dG} {xs:List SI} {a:Array Value} {ys:List Item} (h:iZ E ν M w0 hl tm xs a ys):∀ b∈hl,∃ r,cH M w0 b r:=by
 cases h with
 | plain ht hk=>intro b hb;cases hb
 | drw hok hn d hnl hk=>
  intro b hb
  obtain ⟨q,hq,rfl⟩:=List.mem_map.1 hb
  obtain ⟨_,_,r,_,_,_,_,h,_⟩:=d.lagged q hq
  exact ⟨r,h⟩

structure Dc (ν:aA) (F:SF) (fr:Frame):Prop where
 fn:fr.fn=F.fn
 defers:ib ν F.defers fr.defers
 kind:fr.kind=F.kind
 ro:Iw ν F.ro fr.roundOf
theorem Dc.mono {ν':aA} (h:ν.Le ν') {F:SF} {fr:Frame} (b:Dc ν F fr):Dc ν' F fr:=⟨b.fn,b.defers.mono h,b.kind,b.ro.mono h⟩

structure Em (E:Env) (ν:aA) (M:Own) (w0:World) (hl:List Nat) (s:SH) (F:SF) (fr:Frame):Prop where
 base:Dc ν F fr
 run:F.ret=false→fr.mode=.run∧Dp E ν M w0 s hl F.tm F.todo fr.tmps fr.todo
 ret:F.ret=true→fr.mode=.returning∧ia ν F.tm fr.tmps

structure dZ (E:Env) (ν:aA) (M:Own) (w0:World) (hl:List Nat) (F:SF) (fr:Frame):Prop where
 base:Dc ν F fr
 ret:F.ret=false
 mode:fr.mode=.run
 todo:iZ E ν M w0 hl F.tm F.todo fr.tmps fr.todo
theorem dZ.mono {ν':aA} (h:ν.Le ν') {hl:List Nat} {F:SF} {fr:Frame} (b:dZ E ν M w0 hl F fr):dZ E ν' M w0 hl F fr:=⟨b.base.mono h,b.ret,b.mode,b.todo.mono h⟩

structure D8 (ν:aA) (F:SF) (fr:Frame):Prop where
 base:Dc ν F fr
 ret:F.ret=true
 mode:fr.mode=.returning
 tm:ia ν F.tm fr.tmps
theorem D8.mono {ν':aA} (h:ν.Le ν') {F:SF} {fr:Frame} (b:D8 ν F fr):D8 ν' F fr:=⟨b.base.mono h,b.ret,b.mode,b.tm.mono h⟩

inductive aN (E:Env) (ν:aA) (M:Own) (w0:World) (cs0:List Frame):List Nat→CallKind→List SF→List Frame→Prop
 | nil {hl:List Nat} (hnd:hl.Nodup):aN E ν M w0 cs0 hl .normal [] cs0
 | wait {hl hl1:List Nat} {F:SF} {fr:Frame} {Fs:List SF} {frs:List Frame} (h:dZ E ν M w0 hl1 F fr) (t:aN E ν M w0 cs0 (hl++hl1) F.kind Fs frs):aN E ν M w0 cs0 hl .normal (F::Fs) (fr::frs)
 | ret {hl:List Nat} {F:SF} {fr:Frame} {Fs:List SF} {frs:List Frame} (h:D8 ν F fr) (t:aN E ν M w0 cs0 hl F.kind Fs frs):aN E ν M w0 cs0 hl .deferred (F::Fs) (fr::frs)

theorem aN.mono {ν':aA} (h:ν.Le ν') {cs0:List Frame} {hl:List Nat} {k:CallKind} {Fs:List SF} {frs:List Frame} (c:aN E ν M w0 cs0 hl k Fs frs):aN E ν' M w0 cs0 hl k Fs frs:=by
 induction c with
 | nil hnd=>exact .nil hnd
 | wait hf _ ih=>exact .wait (hf.mono h) ih
 | ret hf _ ih=>exact .ret (hf.mono h) ih

theorem aN.nodup {cs0:List Frame} {hl:List Nat} {k:CallKind} {Fs:List SF} {frs:List Frame} (c:aN E ν M w0 cs0 hl k Fs frs):hl.Nodup:=by
 induction c with
 | nil hnd=>exact hnd
 | wait _ _ ih=>exact (List.nodup_append.1 ih).1
 | ret _ _ ih=>exact ih

theorem aN.cy {M':Own} {w0':World} {cs0:List Frame} {hl:List Nat} {k:CallKind} {Fs:List SF} {frs:List Frame} (c:aN E ν M w0 cs0 hl k Fs frs):
  ∀ {hl':List Nat},(∀ b,b ∉ hl→∀ r,cH M w0 b r→cH M' w0' b r)→(∀ x:List Nat,(∀ b∈x,∃ r,cH M w0 b r)→(hl++x).Nodup→(hl'++x).Nodup)→aN E ν M' w0' cs0 hl' k Fs frs:=by
 induction c with
 | nil hnd=>intro hl' _ hx;exact .nil (by have:=hx [] (fun b hb=>by cases hb) (by simpa using hnd);simpa using this)
 | wait hf t ih=>
  intro hl' hk hx
  have hnd:=t.nodup
  refine .wait (hl1:=_) ⟨hf.base,hf.ret,hf.mode,hf.todo.cy fun b hb r h=>hk b (fun hm=>(List.nodup_append.1 hnd).2.2 b hm b hb rfl) r h⟩ (ih (fun b hb=>hk b fun hm=>hb (List.mem_append_left _ hm)) fun x hxh hxn=>?_)
  rw [List.append_assoc] at hxn ⊢
  refine hx _ (fun b hb=>?_) hxn
  rcases List.mem_append.1 hb with hb | hb
  ·exact hf.todo.hidden b hb
  ·exact hxh b hb
 | ret hf _ ih=>intro hl' hk hx;exact .ret hf (ih hk hx)

theorem aN.clear {cs0:List Frame} {hl:List Nat} {k:CallKind} {Fs:List SF} {frs:List Frame} (c:aN E ν M w0 cs0 hl k Fs frs):aN E ν M w0 cs0 [] k Fs frs:=
 c.cy (fun _ _ _ h=>h) fun _ _ h=>by simpa using (List.nodup_append.1 h).2.1

structure MR (E:Env) (M:Own) (w0:World) (cs0:List Frame) (ν:aA) (S:SM) (m:Machine):Prop where
 ex:∃ fr cs w hl,m=lone fr cs w∧HR ν M w0 S.mem w∧GR ν E∧Em E ν M w0 hl S.mem S.top fr∧aN E ν M w0 cs0 hl S.top.kind S.callers cs

def eR (E:Env):Prop:=∀ f k,E.ext f=some k→∀ args x s s',xr E k args s=some (x,s')→∀ ν M w0 w a,HR ν M w0 s w→aj ν args a→s'.ob→s.ob∧
 ∃ ν' w' y,ν.Le ν'∧(callFunc f a.toArray).run E.P w=.ok (.value y) w'∧VR ν' x y∧HR ν' M w0 s' w'

inductive ue (ν:aA) (s:SH) (w:World) (s':SH) (w':World) (x:SV) (y:Value):Prop where
 | same (hs:s.cb s') (hv:VR ν x y)
 | made (s0:SH) (so:SO) (b c:Nat) (o:Obj) (hs:s.cb s0) (hroom:s0.room=true) (he:s'=s0.new so) (hb:w.heap.size≤b) (ho:w'.heap[b]?=some o) (hor:OR (ν.put s0.nx (b,c)) s0.nx so o) (hv:VR (ν.put s0.nx (b,c)) x y)

structure HJ (w w':World) (b:Nat):Prop where
 os:w'.os=w.os
 tape:w'.tape=w.tape
 output:w'.output=w.output
 size:w.heap.size≤w'.heap.size
 block:∀ k,k<w.heap.size→k≠b→w'.heap[k]?=w.heap[k]?

inductive pc (ν:aA) (s:SH) (w:World) (s':SH) (w':World) (x:SV) (y:Value):Prop where
 | old (hb:Go.RowKit.Below w.heap.size w w') (n:ue ν s w s' w' x y)
 | jn (s0:SH) (j:Nat) (so so':SO) (b:Nat × Nat) (o:Obj) (hs:s.cb s0) (hl:s0.look j=some (so,true)) (he:s'=s0.put j so') (hb:ν j=some b) (ho:w'.heap[b.1]?=some o) (hor:OR ν j so' o) (hw:HJ w w' b.1) (hv:VR ν x y)
 | gen (ν':aA) (hle:ν.Le ν') (hv:VR ν' x y) (hh:∀ M w0,HR ν M w0 s w→HR ν' M w0 s' w')

def cV (E:Env) (M:Own) (w0:World):Prop:=∀ f g,E.sums f=some g→∀ args x s s',g args s=some (x,s')→s'.ob→s.ob∧∀ ν w a,HR ν M w0 s w→GR ν E→aj ν args a→
 (callFunc f a.toArray).run E.P w=.ok (.enter f a.toArray) w∧Calls E.P f a.toArray w fun e w'=>∃ y,e=.returned y∧pc ν s w s' w' x y

def JQ (E:Env) (M:Own) (w0:World):Prop:=∀ f g,E.qs f=some g→∀ args l,g args=some l→l≠[]∧∀ ν s w a,HR ν M w0 s w→GR ν E→aj ν args a→
 (callFunc f a.toArray).run E.P w=.ok (.enter f a.toArray) w∧Calls E.P f a.toArray w fun e w'=>Go.RowKit.Below w.heap.size w w'∧∃ x∈l,∃ y,e=.returned y∧VR ν x y

structure aE (E:Env) (M:Own) (w0:World):Prop where
 mixed:E.P.follows .mixedOrders=true
 calls : ∀ (f : Nat) (fn : Func), E.P.funcs[f]? = some fn → fn.body ≠ none → fn.name ≠ "runtime.NumGoroutine"
 ext:eR E
 sums:cV E M w0
 qs:JQ E M w0

theorem aE.cy {M1:Own} {w1:World} (K:aE E M w0) (B:bk M w0 M1 w1):aE E M1 w1:=
 ⟨K.mixed,K.calls,K.ext,fun f g hg args x s s' hx ob=>⟨(K.sums f g hg args x s s' hx ob).1,fun ν w a hr=>(K.sums f g hg args x s s' hx ob).2 ν w a (hr.uN B)⟩,fun f g hg args l hl=>⟨(K.qs f g hg args l hl).1,fun ν s w a hr=>(K.qs f g hg args l hl).2 ν s w a (hr.uN B)⟩⟩

theorem HR.grow {w':World} (h:HR ν M w0 s w) (b:Go.RowKit.Below w.heap.size w w'):HR ν M w0 s w':=by
 refine ⟨h.full,h.dom,h.fresh,fun i hi x hx=>?_,h.inj,Nat.le_trans h.size b.size,fun k hk hM=>?_,h.ro,b.os.trans h.os,b.tape.trans h.tape,b.output.trans h.output⟩
 ·obtain ⟨c,o,h1,h2,h3,h4⟩:=h.obj i hi x hx
  exact ⟨c,o,h1,by rw [b.block _ (Array.getElem?_eq_some_iff.1 h2).1];exact h2,h3,h4⟩
 ·rw [b.block k (Nat.lt_of_lt_of_le hk h.size)];exact h.frame k hk hM

theorem HR.qf {w':World} (h:HR ν M w0 s w') (hr:s.room=true) {so:SO} {o:Obj} {b c:Nat} (hge:w0.heap.size≤b) (ho:w'.heap[b]?=some o) (hnew:∀ i d,i<2 ^ s.d→s.H.get i≠none→ν i=some d→d.1≠b)
  (hor:OR (ν.put s.nx (b,c)) s.nx so o):ν.Le (ν.put s.nx (b,c))∧HR (ν.put s.nx (b,c)) M w0 (s.new so) w':=by
 have hnx:ν s.nx=none:=h.fresh _ (Nat.le_refl _)
 have hlt:s.nx<2 ^ s.d:=ca.1 hr
 have hle:=aA.gY hnx (b,c)
 have hput:∀ j,j≠s.nx→(ν.put s.nx (b,c)) j=ν j:=fun j e=>by simp [aA.put,e]
 have g:∀ u,u<2 ^ s.d→u≠s.nx→(s.new so).H.get u≠none→s.H.get u≠none:=by
  intro u hu ne hn
  have hn:(s.H.set s.nx (some (so,true))).get u≠none:=hn
  rwa [Tr.ct h.full hlt hu,if_neg ne] at hn
 refine ⟨hle,h.full.set _ _,?_,?_,?_,?_,h.size,h.frame,?_,h.os,h.tape,h.output⟩
 ·intro i hi
  have hi:2 ^ s.d≤i:=hi
  rw [hput i (by omega)];exact h.dom i hi
 ·intro i hi
  have hi:s.nx+1≤i:=hi
  rw [hput i (by omega)];exact h.fresh i (by omega)
 ·intro j hj y hy
  have hj:j<2 ^ s.d:=hj
  have hy:(s.H.set s.nx (some (so,true))).get j=some y:=hy
  rw [Tr.ct h.full hlt hj] at hy
  by_cases e:j=s.nx
  ·subst e
   rw [if_pos rfl] at hy
   cases hy
   exact ⟨(b,c),o,aA.aU _ _ _,ho,hor,fun _=>.inl hge⟩
  ·rw [if_neg e] at hy
   obtain ⟨d,o',hd,ho',hr',hown⟩:=h.obj j hj y hy
   exact ⟨d,o',by rw [hput j e];exact hd,ho',hr'.mono hle,hown⟩
 ·intro i j hi hj hgi hgj d d' hd hd' e
  have hi:i<2 ^ s.d:=hi
  have hj:j<2 ^ s.d:=hj
  by_cases ei:i=s.nx <;> by_cases ej:j=s.nx
  ·rw [ei,ej]
  ·subst ei
   rw [aA.aU] at hd;cases hd
   rw [hput j ej] at hd'
   exact absurd e.symm (hnew j d' hj (g j hj ej hgj) hd')
  ·subst ej
   rw [aA.aU] at hd';cases hd'
   rw [hput i ei] at hd
   exact absurd e (hnew i d hi (g i hi ei hgi) hd)
  ·rw [hput i ei] at hd
   rw [hput j ej] at hd'
   exact h.inj i j hi hj (g i hi ei hgi) (g j hj ej hgj) d d' hd hd' e
 ·intro j hj y hy hf d hd
  have hj:j<2 ^ s.d:=hj
  have hy:(s.H.set s.nx (some (so,true))).get j=some y:=hy
  rw [Tr.ct h.full hlt hj] at hy
  by_cases e:j=s.nx
  ·rw [if_pos e] at hy;cases hy;cases hf
  ·rw [if_neg e] at hy
   rw [hput j e] at hd
   exact h.ro j hj y hy hf d hd

theorem ue.hr {s':SH} {w':World} {x:SV} {y:Value} (n:ue ν s w s' w' x y) (h:HR ν M w0 s w) (hb:Go.RowKit.Below w.heap.size w w'):∃ ν',ν.Le ν'∧VR ν' x y∧HR ν' M w0 s' w':=by
 cases n with
 | same hs hv=>exact ⟨ν,aA.Le.refl _,hv,(h.grow hb).same hs⟩
 | made s0 so b c o hs hroom he hbb ho hor hv=>
  subst he
  have h0:=h.same hs
  obtain ⟨h1,h2⟩:=(h0.grow hb).qf hroom (Nat.le_trans h.size hbb) ho (fun i d hi hn hd e=>by
   cases hx:s0.H.get i with
   | none=>exact hn hx
   | some z=>
    obtain ⟨d',o',hd',ho',_⟩:=h0.obj i hi z hx
    rw [hd] at hd';cases hd'
    have:=(Array.getElem?_eq_some_iff.1 ho').1
    omega) hor
  exact ⟨_,h1,hv,h2⟩

theorem HR.jn {w':World} (h:HR ν M w0 s w) {i:Nat} {x:SO} (e:s.look i=some (x,true)) {o:SO} {r:Obj} {b:Nat × Nat}
  (hb:ν i=some b) (ho:OR ν i o r) (hr:w'.heap[b.1]?=some r) (k:HJ w w' b.1):HR ν M w0 (s.put i o) w':=by
 obtain ⟨hi,hg,b',o',hb',ho',_,hown⟩:=h.look e
 obtain rfl:b=b':=by rw [hb] at hb';exact Option.some.inj hb'
 have hlt:b.1<w.heap.size:=(Array.getElem?_eq_some_iff.1 ho').1
 let w1:World:={ w' with heap:=w'.heap.setIfInBounds b.1 o' }
 have hlt':b.1<w'.heap.size:=Nat.lt_of_lt_of_le hlt k.size
 have hB:Go.RowKit.Below w.heap.size w w1:=by
  refine ⟨k.os,k.tape,k.output,by show w.heap.size≤(w'.heap.setIfInBounds b.1 o').size;simpa using k.size,fun j hj=>?_⟩
  show (w'.heap.setIfInBounds b.1 o')[j]?=w.heap[j]?
  rw [Array.getElem?_setIfInBounds]
  by_cases e:b.1=j
  ·rw [if_pos e,← e,ho'];simp [hlt']
  ·rw [if_neg e];exact k.block j hj fun h=>e h.symm
 have h1:=h.grow hB
 refine h1.put e hb ho (w':=w') (r:=r) ?_ rfl rfl rfl
 show w'.heap=(w'.heap.setIfInBounds b.1 o').setIfInBounds b.1 r
 apply Array.ext
 ·simp
 ·intro j hj1 hj2
  rw [Array.getElem_setIfInBounds (by simpa using hj1)]
  by_cases e:b.1=j
  ·rw [if_pos e]
   subst e
   exact (Array.getElem?_eq_some_iff.1 hr).2
  ·rw [if_neg e,Array.getElem_setIfInBounds hj1,if_neg e]
theorem pc.hr {s':SH} {w':World} {x:SV} {y:Value} (n:pc ν s w s' w' x y) (h:HR ν M w0 s w):∃ ν',ν.Le ν'∧VR ν' x y∧HR ν' M w0 s' w':=by
 cases n with
 | old hb n=>exact n.hr h hb
 | jn s0 j so so' b o hs hl he hb ho hor hw hv=>
  subst he
  exact ⟨ν,aA.Le.refl _,hv,(h.same hs).jn hl hb hor ho hw⟩
 | gen ν' hle hv hh=>exact ⟨ν',hle,hv,hh _ _ h⟩


theorem Aq {F F':SF} {fr:Frame} {x:SV} {y:Value} {hl:List Nat} (hf:dZ E ν M w0 hl F fr) (hr:HR ν M w0 s w) (hg:GR ν E) (hv:VR ν x y) (h:finish E F x s=some (F',s')):
  s.cb s'∧F'.kind=F.kind∧(s'.ob→s.ob∧Em E ν M w0 hl s' F' (fr.finish y)):=by
 obtain ⟨fn,tm,todo,defers,ret,kind,ro⟩:=F
 obtain ⟨fn',tmps,todo',defers',mode',kind',ro'⟩:=fr
 obtain ⟨⟨h1,h2,h3,h4⟩,hret,hmode,hw⟩:=hf
 dsimp only at h1 h2 h3 h4 hret hmode hw
 have noret:∀ {P:Prop},ret=true→P:=fun e=>by rw [hret] at e;cases e
 cases hw with
 | plain ht hk=>
  cases hk with
  | nil=>simp [finish] at h
  | cons hx hk=>
   cases hx with
   | reg ops is=>
    cases is with
    | nil=>simp [finish] at h
    | cons i rest=>
     simp only [finish] at h
     split at h
     ·rename_i o ho
      cases h
      refine ⟨.refl _,rfl,fun ob=>⟨ob,⟨h1,h2,h3,h4⟩,fun _=>⟨hmode,.plain ?_ (.cons (.reg ops rest) hk)⟩,noret⟩⟩
      have:=ht.putDst o hv
      simp only [Frame.finish,ho,Option.bind_some]
      exact this
     ·cases h
   | inRF e=>
    simp only [finish,Option.some.injEq,Prod.mk.injEq] at h
    obtain ⟨rfl,rfl⟩:=h
    exact ⟨.refl _,rfl,fun ob=>⟨ob,⟨h1,h2,h3,h4⟩,fun _=>⟨hmode,.plain ht (.cons (.endRF e) hk)⟩,noret⟩⟩
   | beginRound=>
    simp only [finish,Option.some.injEq,Prod.mk.injEq] at h
    obtain ⟨rfl,rfl⟩:=h
    exact ⟨.refl _,rfl,fun ob=>⟨ob,⟨h1,h2,h3,h4⟩,fun _=>⟨hmode,.plain ht hk⟩,noret⟩⟩
   | _=>simp [finish] at h
 | drw hok hn d hnl hk=>
  rename_i ops e rem pend L lag z k k'
  simp only [finish] at h
  split at h
  ·rename_i o ho
   cases hu:unnamed ops pend o
   ·rw [hu] at h;cases h
   ·rw [hu] at h
    simp only [cond_true] at h
    cases hre:recheck E ops (putDst tm o x) pend s with
    | none=>rw [hre] at h;cases h
    | some s1=>
    rw [hre] at h;cases h
    have d':=d.done ho (.inl hn) hu hv hnl
    obtain ⟨hsame,hob⟩:=iJ hr hg d'.tm hr hre d'.free d'.pure
    refine ⟨hsame,rfl,fun ob=>⟨(hob ob).1,⟨h1,h2,h3,h4⟩,fun _=>⟨hmode,?_⟩,noret⟩⟩
    have:=Dp.drw hok (List.nodup_cons.1 hn).2 d' (fun M' w0' w' hr'=>((iJ (hr'.same hsame.symm) hg d'.tm (hr'.same hsame.symm) hre d'.free d'.pure).2 ob).2) hk
    simp only [Frame.finish,ho,Option.bind_some]
    exact this
  ·cases h


theorem tt (d:Nat):∀ (args:List SV) (i:Nat) (T:Tr SV),Tr.Full d T→i+args.length≤2 ^ d→
  Tr.Full d (rU.go T i args)∧∀ t,t<2 ^ d→(rU.go T i args).get t=if i≤t then (args[t - i]?).getD (T.get t) else T.get t
 | [],i,T,h,_=>⟨h,fun t _=>by simp [rU.go]⟩
 | x::xs,i,T,h,hl=>by
  simp only [List.length_cons] at hl
  obtain ⟨h1,h2⟩:=tt d xs (i+1) (T.set i x) (h.set _ _) (by omega)
  refine ⟨h1,fun t ht=>?_⟩
  rw [rU.go,h2 t ht,Tr.ct h (by omega) ht]
  by_cases e1:i+1≤t
  ·rw [if_pos e1,if_neg (show ¬ t=i by omega),if_pos (show i≤t by omega)]
   have:t - i=(t - (i+1))+1:=by omega
   rw [this,List.getElem?_cons_succ]
  ·rw [if_neg e1]
   by_cases e2:t=i
   ·subst e2;simp
   ·rw [if_neg e2,if_neg (show ¬ i≤t by omega)]

theorem Eu {n:Nat} {args:List SV} {a:List Value} {tm:dG} (h:rU n args=some tm) (ha:aj ν args a):ia ν tm (a.toArray++Array.replicate (n - a.toArray.size) undef):=by
 unfold rU at h
 cases hc:(Nat.ble args.length n&&Nat.ble n (2 ^ gg n))
 ·rw [hc] at h;cases h
 ·rw [hc] at h
  cases h
  rw [Bool.and_eq_true,Nat.ble_eq,Nat.ble_eq] at hc
  obtain ⟨hl,hn⟩:=hc
  have hal:=ha.length
  obtain ⟨hf,hg⟩:=tt (gg n) args 0 (Tr.mk (.v undef) (gg n)) (Tr.iR _ _) (by omega)
  refine ⟨by simp;omega,hf,hn,fun t ht=>?_⟩
  have ht':t<n:=ht
  rw [hg t (by omega),if_pos (Nat.zero_le _),Tr.rD]
  simp only [Nat.sub_zero]
  rw [Array.getD_eq_getD_getElem?,Array.getElem?_append]
  by_cases e:t<args.length
  ·rw [if_pos (by simp;omega)]
   have hx:args[t]?=some args[t]:=List.getElem?_eq_getElem e
   obtain ⟨y,hy,hv⟩:=ha.get hx
   rw [hx]
   have:a.toArray[t]?=some y:=by simpa using hy
   rw [this];exact hv
  ·rw [if_neg (by simp;omega),List.getElem?_eq_none (by omega)]
   simp only [Option.getD_none,List.size_toArray]
   rw [Array.getElem?_replicate,if_pos (by omega)]
   exact VR.ab.2 rfl

theorem j9 {f:FuncId} {args:List SV} {a:List Value} {kind:CallKind} {G:SF} (h:aP E f args kind=some G) (ha:aj ν args a) (s:SH):
  Em E ν M w0 [] s G (Frame.enter E.P f a.toArray kind)∧G.kind=kind∧∃ fn,E.P.funcs[f]?=some fn∧fn.body≠none:=by
 unfold aP at h
 split at h
 ·rename_i fn hfn
  split at h
  ·rename_i c hc
   cases hm:rU fn.ntmps args with
   | none=>rw [hm] at h;cases h
   | some tm=>
   rw [hm] at h;cases h
   have ht:=Eu hm ha
   refine ⟨⟨⟨rfl,rfl,rfl,rfl⟩,fun _=>⟨rfl,.plain ?_ ?_⟩,fun hc=>by cases hc⟩,rfl,fn,hfn,by rw [hc];exact fun h=>by cases h⟩
   ·simp only [Frame.enter,hfn,Option.map_some,Option.getD_some];exact ht
   ·simp only [Frame.enter,hfn,Option.bind_some,hc,Option.getD_some];exact .cons (.code c) .nil
  ·cases h
 ·cases h

theorem lJ:∀ {ps:List Tmp} {args:List SV} {a:List Value} {tm:dG} {t:Array Value},ia ν tm t→aj ν args a→
  ia ν ((ps.zip args).foldl (fun tm (t,a)=>tm.set t a) tm) ((ps.zip a).foldl (fun tmps (t,a)=>tmps.setIfInBounds t a) t)
 | [],_,_,_,_,h,_=>by simpa using h
 | _::_,[],_,_,_,h,ha=>by rw [ha.aq];simpa using h
 | p::ps,x::xs,_,_,_,h,ha=>by
  obtain ⟨y,ys,rfl,hy,hys⟩:=ha.cons_inv
  simp only [List.zip_cons_cons,List.foldl_cons]
  exact lJ (h.set p hy) hys

theorem run_getLoop {l:Nat} {r:Loop} (h:w.heap[l]?=some (.loop r)):(Instr.getLoop l).run E.P w=.ok r w:=by
 have:=dQ (P:=E.P) h (by intro c e f;exact fun h=>by cases h)
 simp [Instr.getLoop,this]

theorem BN {i:Nat} {b:Nat × Nat} {args:List SV} {a:List Value} {st:LoopState} {p:Option Code} {fn:FuncId} {tm:dG} {params:List Tmp} {assign body:Code} {df:Nat} {wr:Bool}
  (hl:s.look i=some (.loop st p fn tm params assign body df,wr)) (hlen:args.length=params.length) (hb:ν i=some b) (ha:aj ν args a) (hr:HR ν M w0 s w):
  ∃ t,(Instr.yield b.1 a.toArray).run E.P w=.ok (.round b.1 fn t assign body) w∧ia ν ((params.zip args).foldl (fun tm (t,a)=>tm.set t a) tm) t:=by
 obtain ⟨_,_,b',o,hb',ho,hor,_⟩:=hr.look hl
 rw [hb] at hb';cases hb'
 obtain ⟨t,b2,hb2,ht,rfl⟩:=hor
 refine ⟨_,?_,lJ ht ha⟩
 have hsz:a.toArray.size=params.toArray.size:=by simp [ha.length,hlen]
 simp only [Instr.yield,Sem.run_bind,run_getLoop ho,Result.andThen_ok,hsz,ne_eq,not_true_eq_false,if_false,Sem.run_pure]
 congr 2
 rw [← Array.foldl_toList]
 simp

end
section
variable {E:Env} {ν:aA} {M:Own} {w0 w:World} {s s':SH} {hid:List Nat}


theorem rf {kd:TypeDesc} {k k':SV} {t:Bool} (h:wg E kd k k' s=some (t,s')):s'.ob→s.ob:=by
 unfold wg at h
 split at h
 ·rename_i a x b y
  cases hb:(a==b)
  ·rw [hb] at h;cases h
  ·rw [hb] at h
   exact fun ob=>((SH.dR (Option.some.inj h)).2 ob).1
 ·exact fun ob=>((SH.dR (Option.some.inj h)).2 ob).1
 ·exact fun ob=>((SH.dR (Option.some.inj h)).2 ob).1
 ·cases h

theorem qU {kd:TypeDesc} {k:SV}:∀ {es:List (SV × SV × Nat)} {i:Nat} {s s':SH} {r:Option (Nat × SV × Nat)},sO E kd k es i s=some (r,s')→s'.ob→s.ob
 | [],_,_,_,_,h,ob=>by cases h;exact ob
 | e::es,i,s,s',r,h,ob=>by
  unfold sO at h
  split at h
  ·rename_i s1 hk
   cases h
   exact rf hk ob
  ·rename_i s1 hk
   exact rf hk (qU h ob)
  ·cases h

theorem qX {kd:TypeDesc} {k:SV} {es:List (SV × SV × Nat)} {s s':SH} {r:Option (Nat × SV × Nat)} (h:iq E kd k es s=some (r,s')):s'.ob→s.ob:=by
 unfold iq at h
 split at h
 ·cases h;exact fun ob=>ob.1
 ·cases h;exact fun ob=>ob.1
 ·exact qU h

theorem uS {t:TypeId} {a x:SV} {l:List SV} (h:na E t a l s=some (x,s')):s'.ob→s.ob:=by
 unfold na at h
 split at h
 ·split at h
  ·rename_i ag _ _ _ _ _ _
   revert h
   cases ag
   ·simp only [cond_false]
    split
    ·intro h;cases h;exact fun ob=>ob.1
    ·intro h;cases h
   ·intro h;cases h;exact fun ob=>ob.1
  ·cases h
 ·cases h

theorem wP {t:TypeId} {a x:SV} (h:nw E t a s=some (x,s')):s'.ob→s.ob:=by
 unfold nw at h
 have map1:∀ {o:Option SV},o.map (·,s)=some (x,s')→s'.ob→s.ob:=by
  intro o h
  cases o with
  | none=>cases h
  | some y=>cases h;exact id
 have map2:∀ {b:Bool} {y:SV},(s.ask E b).map (y,·)=some (x,s')→s'.ob→s.ob:=by
  intro b y h
  cases hq:s.ask E b with
  | none=>rw [hq] at h;cases h
  | some s1=>rw [hq] at h;cases h;exact fun ob=>((SH.c8 hq).2 ob).1
 split at h
 ·split at h
  ·exact map1 h
  ·exact map1 h
  ·exact map2 h
  ·cases h
 ·split at h
  ·rename_i xs _ _ _ _ _
   rename_i off info _ _ _ _ _ _ _ _ _
   revert h
   generalize Nat.ble _ _=bb
   cases bb
   ·intro h;cases h
   ·intro h;cases h;exact id
  ·exact map2 h
  ·cases h
 ·cases h

theorem gu {t:TypeId} {a x:SV} (h:gJ E t a s=some (x,s')):s'.ob→s.ob:=by
 unfold gJ at h
 split at h
 ·exact uS h
 ·exact wP h

theorem tu {t:TypeId} {m k x:SV} {ok:Bool} (h:lE E t m k ok s=some (x,s')):s'.ob→s.ob:=by
 unfold lE at h
 split at h
 ·obtain ⟨kd,_,h⟩:=Option.bind_eq_some_iff.1 h
  obtain ⟨zi,_,h⟩:=Option.bind_eq_some_iff.1 h
  obtain ⟨z,_,h⟩:=Option.bind_eq_some_iff.1 h
  dsimp only at h
  split at h
  ·obtain ⟨es,_,h⟩:=Option.bind_eq_some_iff.1 h
   obtain ⟨⟨r,s1⟩,h1,h⟩:=Option.bind_eq_some_iff.1 h
   have:=qX h1
   dsimp only at h
   split at h <;> (cases h;exact this)
  ·split at h
   ·obtain ⟨es,_,h⟩:=Option.bind_eq_some_iff.1 h
    obtain ⟨⟨r,s1⟩,h1,h⟩:=Option.bind_eq_some_iff.1 h
    have:=qX h1
    dsimp only at h
    split at h <;> (cases h;exact this)
   ·cases h
  ·cases h
 ·cases h

theorem yp {tm:dG} {o:Oper} {x:SV} (hl:looks o.op=true) (hf:fL o.op=true) (hn:∀ a b c,o.op=.convert a b c→False) (h:gH E tm o s=some [(.val x,s')]):s'.ob→s.ob:=by
 obtain ⟨dst,op,type,pos,aft,guard⟩:=o
 have vs1:∀ {z:Option (SV × SH)},(z.map fun x=>[(cz.val x.1,x.2)])=some [(.val x,s')]→z=some (x,s'):=by
  intro z h
  cases z with
  | none=>cases h
  | some r=>obtain ⟨a,b⟩:=r;simpa using h
 have v1:∀ {z:Option SV},(z.map fun x=>[(cz.val x,s)])=some [(.val x,s')]→s'.ob→s.ob:=by
  intro z h
  cases z with
  | none=>cases h
  | some r=>cases h;exact id
 cases op with
 | load t a=>exact gu (vs1 h)
 | lookup t m k ok=>exact tu (vs1 h)
 | call c=>
  obtain ⟨callee,args,ats⟩:=c
  cases callee with
  | value f=>cases hf
  | invoke r n=>cases hf
  | builtin b=>
   simp only [gH] at h
   split at h
   ·rename_i r hc
    have hc':=vs1 (z:=some r) h
    rw [hc'] at hc
    cases b with
    | len=>
     simp only [ep] at hc
     split at hc
     ·rename_i t ts z _ _
      cases hz:s7 E t z s with
      | none=>rw [hz] at hc;cases hc
      | some y=>rw [hz] at hc;cases hc;exact id
     ·cases hc
    | cap=>
     simp only [ep] at hc
     split at hc
     ·rename_i t ts z _ _
      cases hz:sC E t z with
      | none=>rw [hz] at hc;cases hc
      | some y=>rw [hz] at hc;cases hc;exact id
     ·cases hc
    | min=>simp only [ep] at hc;cases hc
    | max=>simp only [ep] at hc;cases hc
    | _=>cases hf
   ·exact v1 h
 | convert a b c=>exact (hn a b c rfl).elim
 | _=>cases hl

theorem we {ops:Array Oper} {tm:dG} {o:Oper} {b:Bool} (h:wanted ops tm o E s=some (b,s')):s'.ob→s.ob:=by
 unfold wanted at h
 split at h
 ·cases h;exact id
 ·split at h
  ·rename_i d _
   revert h
   cases Nat.blt d tm.nt
   ·intro h;cases h
   ·intro h
    simp only [cond_true] at h
    split at h
    ·rename_i t _
     cases hdec:s.dec E t with
     | mk t' s1=>
      rw [hdec] at h;cases h
      exact fun ob=>((SH.dR hdec).2 ob).1
    ·cases h;exact id
    ·cases h
  ·cases h

theorem Aw {tm:dG} {o:Oper} {x:SV} (hl:looks o.op=true) (hf:fL o.op=true) (h:zS E tm o s=some [(.val x,s')]):s'.ob→s.ob:=by
 unfold zS at h
 split at h
 ·split at h
  ·rename_i r hr'
   cases h
   unfold qS at hr'
   split at hr'
   ·unfold gi at hr'
    split at hr'
    ·split at hr'
     ·cases hr';exact fun ob=>ob.1
     ·cases hr'
    ·cases hr'
   ·obtain ⟨r,h1,h2⟩:=Option.map_eq_some_iff.1 hr'
    cases h2
    exact id
  ·cases hp:eJ E tm o with
   | none=>rw [hp] at h;cases h
   | some x0=>rw [hp] at h;cases h;exact id
 ·rename_i e;rw [e] at hl;cases hl
 ·exact yp hl hf (by assumption) h

theorem xN {ops:Array Oper} {tm:dG} {o:Oper} {x:SV} (hl:looks o.op=true) (hf:fL o.op=true) (h:lO E ops tm o s=some (x,s')):s'.ob→s.ob:=by
 unfold lO at h
 obtain ⟨u,_,h⟩:=Option.bind_eq_some_iff.1 h
 obtain ⟨⟨b,s1⟩,hw,h⟩:=Option.bind_eq_some_iff.1 h
 have hm:=we hw
 cases b
 ·cases h;exact hm
 ·simp only [cond_true] at h
  split at h
  ·rename_i x1 s2 hop
   revert h
   cases x1.mG
   ·intro h;cases h
   ·intro h;cases h
    exact fun ob=>hm (Aw hl hf hop ob)
  ·cases h

theorem iF {ops:Array Oper} {tm:dG}:∀ {pend:List Nat} {s s':SH},recheck E ops tm pend s=some s'→(∀ p∈pend,free ops (Region.before ops) p=true)→s'.ob→s.ob
 | [],_,_,h,_=>by cases h;exact id
 | p::ps,s,s',h,hf=>by
  unfold recheck at h
  split at h
  ·cases h
  ·rename_i o ho
   obtain ⟨o',ho',hfl,_⟩:=gS (hf p List.mem_cons_self)
   rw [ho] at ho';cases ho'
   cases hl:looks o.op
   ·rw [hl] at h
    exact iF h fun q hq=>hf q (List.mem_cons_of_mem _ hq)
   ·rw [hl] at h
    simp only [cond_true] at h
    obtain ⟨⟨x,s1⟩,h1,h⟩:=Option.bind_eq_some_iff.1 h
    obtain ⟨d,_,h⟩:=Option.bind_eq_some_iff.1 h
    obtain ⟨s2,h2,h⟩:=Option.bind_eq_some_iff.1 h
    have h3:=iF h fun q hq=>hf q (List.mem_cons_of_mem _ hq)
    exact fun ob=>xN hl hfl h1 ((py h2).2 (h3 ob)).1

theorem lZ {F F':SF} {a:Array Value} {ys:List Item} {x:SV} (hw:iZ E ν M w0 hid F.tm F.todo a ys) (h:finish E F x s=some (F',s')):s'.ob→s.ob:=by
 obtain ⟨fn,tm,todo,defers,ret,kind,ro⟩:=F
 dsimp only at hw
 unfold finish at h
 dsimp only at h
 split at h
 ·split at h
  ·cases h;exact id
  ·cases h
 ·rename_i ops e rem pend k
  split at h
  ·rename_i o ho
   revert h
   cases unnamed ops pend o
   ·intro h;cases h
   ·intro h
    simp only [cond_true] at h
    cases hre:recheck E ops (putDst tm o x) pend s with
    | none=>rw [hre] at h;cases h
    | some s1=>
    rw [hre] at h;cases h
    cases hw with
    | plain ht hk=>cases hk with | cons hx hk=>cases hx
    | drw hok hn d hnl hk=>exact iF hre d.free
  ·cases h
 ·cases h;exact id
 ·cases h;exact id
 ·cases h

theorem eI {F F':SF} {fr:Frame} {x:SV} (hf:dZ E ν M w0 hid F fr) (h:finish E F x s=some (F',s')):s'.ob→s.ob:=lZ hf.todo h
theorem tA {F F':SF} {fr:Frame} {x:SV} {d:List oU} (hf:dZ E ν M w0 hid F fr) (h:finish E { F with defers:=d } x s=some (F',s')):s'.ob→s.ob:=
 lZ (F:={ F with defers:=d }) hf.todo h

theorem uK {o:SO} {i:Nat} (h:cC o s=some (i,s')):s'.ob=s.ob:=by
 unfold cC at h
 cases hr:s.room
 ·rw [hr] at h;cases h
 ·rw [hr] at h;cases h;rfl

theorem xy {t:TypeId} {a x:SV} (h:mh E t a x s=some s'):s'.ob→s.ob:=by
 unfold mh at h
 split at h
 ·revert h
  generalize (_&&_:Bool)=b
  cases b
  ·intro h;cases h
  ·intro h
   simp only [cond_true] at h
   split at h
   ·cases h;exact fun ob=>ob.1
   ·cases h
 ·cases h

theorem xO {t:TypeId} {a x:SV} (h:mK E t a x s=some s'):s'.ob=s.ob:=by
 unfold mK at h
 split at h
 ·revert h
  generalize (_&&_:Bool)=b
  cases b
  ·intro h;cases h
  ·intro h
   simp only [cond_true] at h
   split at h
   ·revert h
    generalize (_&&_:Bool)=b
    cases b
    ·intro h;cases h
    ·intro h;cases h;rfl
   ·cases h
 ·cases h

theorem sE {t:TypeId} {a x:SV} (h:nP E t a x s=some s'):s'.ob→s.ob:=by
 unfold nP at h
 split at h
 ·exact xy h
 ·exact fun ob=>by rw [← xO h];exact ob

theorem tn {k:tG} {args:List SV} {x:SV} (h:xr E k args s=some (x,s')):s'.ob→s.ob:=by
 unfold xr at h
 split at h
 ·cases h;exact id
 ·obtain ⟨l,_,h⟩:=Option.bind_eq_some_iff.1 h
  obtain ⟨y,_,h⟩:=Option.map_eq_some_iff.1 h
  cases h;exact id
 ·rename_i t n
  split at h
  ·rename_i elem _
   cases hd:decide (0≤n∧n≤2 ^ 40)
   ·rw [hd] at h;cases h
   ·rw [hd] at h
    simp only [cond_true] at h
    obtain ⟨⟨i,s1⟩,h1,h⟩:=Option.map_eq_some_iff.1 h
    cases h
    rw [uK h1];exact id
  ·cases h
 ·split at h
  ·rename_i es clock _ _
   cases hn:cC (.map es clock) s with
   | none=>rw [hn] at h;cases h
   | some r=>obtain ⟨j,s1⟩:=r;rw [hn] at h;cases h;rw [uK hn];exact id
  ·cases h
 ·obtain ⟨y,_,h⟩:=Option.map_eq_some_iff.1 h
  cases h;exact id
 ·cases h;exact id
 ·unfold pC at h
  obtain ⟨p,hp,h⟩:=Option.bind_eq_some_iff.1 h
  have hob:p.2.ob=s.ob:=by
   unfold wD at hp
   obtain ⟨l,_,hp⟩:=Option.bind_eq_some_iff.1 hp
   obtain ⟨⟨i,s1⟩,h1,hp⟩:=Option.bind_eq_some_iff.1 hp
   cases hp;exact uK h1
  split at h
  ·obtain ⟨y,_,h⟩:=Option.map_eq_some_iff.1 h
   cases h;rw [hob];exact id
  ·cases h
 ·obtain ⟨r,_,h⟩:=Option.bind_eq_some_iff.1 h
  obtain ⟨y,_,h⟩:=Option.map_eq_some_iff.1 h
  cases h;exact id
 ·obtain ⟨r,_,h⟩:=Option.bind_eq_some_iff.1 h
  unfold yd at h
  revert h
  generalize Nat.beq _ _=b
  cases b
  ·intro h;cases h
  ·intro h
   obtain ⟨p,hp,h⟩:=Option.bind_eq_some_iff.1 h
   have:=gu (x:=p.1) (s':=p.2) hp
   split at h
   ·cases h;exact this
   ·cases h;exact this
   ·cases h
 ·obtain ⟨r,_,h⟩:=Option.bind_eq_some_iff.1 h
  unfold yK at h
  revert h
  generalize Nat.beq _ _=b
  cases b
  ·intro h;cases h
  ·intro h
   obtain ⟨e,_,h⟩:=Option.bind_eq_some_iff.1 h
   obtain ⟨e,_,h⟩:=Option.bind_eq_some_iff.1 h
   obtain ⟨p,hp,h⟩:=Option.bind_eq_some_iff.1 h
   have:=gu (x:=p.1) (s':=p.2) hp
   split at h
   ·obtain ⟨y,_,h⟩:=Option.map_eq_some_iff.1 h
    cases h;exact this
   ·cases h
 ·obtain ⟨r,_,h⟩:=Option.bind_eq_some_iff.1 h
  obtain ⟨q,_,h⟩:=Option.bind_eq_some_iff.1 h
  unfold CM at h
  revert h
  generalize Nat.beq _ _=b
  cases b
  ·intro h
   obtain ⟨p,hp,h⟩:=Option.bind_eq_some_iff.1 h
   have:=gu (x:=p.1) (s':=p.2) hp
   obtain ⟨b,_,h⟩:=Option.bind_eq_some_iff.1 h
   cases b
   ·cases h
   ·obtain ⟨s1,h1,h⟩:=Option.map_eq_some_iff.1 h
    cases h
    exact fun ob=>this (sE h1 ob)
  ·intro h;cases h
 ·cases h

theorem fU {P : Program} {f : FuncId} {a : Array Value} {fn : Func} (hf : P.funcs[f]? = some fn) (hb : fn.body ≠ none) (hn : fn.name ≠ "runtime.NumGoroutine") :
  (callFunc f a).run P w=.ok (.enter f a) w:=by
 have hb':fn.body.isNone=false:=by cases h:fn.body with | none=>exact absurd h hb | some _=>rfl
 simp [callFunc,hf,hb',hb,hn]

theorem rZ {f:cz × SH→Option (List SM)}:∀ {L:List (cz × SH)} {Ls:List SM},sf L f=some Ls→∀ p∈L,∃ l,f p=some l∧∀ x∈l,x∈Ls
 | [],_,_,p,hp=>by cases hp
 | x::xs,Ls,h,p,hp=>by
  unfold sf at h
  split at h
  ·rename_i a b ha hb
   cases h
   rcases List.mem_cons.1 hp with rfl | hp
   ·exact ⟨a,ha,fun y hy=>List.mem_append_left _ hy⟩
   ·obtain ⟨l,hl,hm⟩:=rZ hb p hp
    exact ⟨l,hl,fun y hy=>List.mem_append_right _ (hm y hy)⟩
  ·cases h

theorem dm {F F':SF} {fr:Frame} {x:SV} {y:Value} {callers:List SF} {cs cs0:List Frame} (hf:dZ E ν M w0 hid F fr) (hr:HR ν M w0 s w) (hg:GR ν E) (hv:VR ν x y)
  (h:finish E F x s=some (F',s')) (hc:aN E ν M w0 cs0 hid F.kind callers cs) (ob:s'.ob):s.ob∧MR E M w0 cs0 ν { top:=F',callers,mem:=s' } (lone (fr.finish y) cs w):=by
 obtain ⟨hsame,hk,hob⟩:=Aq hf hr hg hv h
 obtain ⟨ob1,ht⟩:=hob ob
 exact ⟨ob1,⟨_,_,w,_,rfl,hr.same hsame,hg,ht,by show aN E ν M w0 cs0 hid F'.kind callers cs;rw [hk];exact hc⟩⟩

theorem eG {F:SF} {callers:List SF} {x:SV} {l:List SM} (h:((finish E F x s).map fun (F,s)=>([{ top:=F,callers,mem:=s }]:List SM))=some l):
  ∃ F' s',finish E F x s=some (F',s')∧l=[{ top:=F',callers,mem:=s' }]:=by
 cases hf:finish E F x s with
 | none=>rw [hf] at h;cases h
 | some r=>obtain ⟨F',s1⟩:=r;rw [hf] at h;cases h;exact ⟨F',s1,rfl,rfl⟩

theorem xg {tm:dG} {o:Oper} {c:Call} {L:List (cz × SH)} (ho:o.op=.defer c) (h:gH E tm o s=some L):∀ p∈L,∃ d,p.1=.defer d:=by
 unfold gH at h
 rw [ho] at h
 simp only at h
 split at h
 ·rename_i f hcal
  cases hd:mD (aL E tm f) (fO E tm c.args) with
  | none=>rw [hd] at h;cases h
  | some d=>
   rw [hd] at h;cases h
   intro p hp
   rw [List.mem_singleton.1 hp];exact ⟨d,rfl⟩
 ·cases h

theorem zV {tm:dG} {o:Oper} {L:List (cz × SH)} (h:gH E tm o s=some L):∀ cs b,o.op≠.select cs b:=by
 intro cs b e
 unfold gH at h
 rw [e] at h
 cases h

structure GU (P:Program) (m0:Machine) (fr:Frame) (cs:List Frame) (g:Sem Next) (w:World):Prop where
 value:∀ y w',g.run P w=.ok (.value y) w'→Steps P m0 (lone (fr.finish y) cs w')
 skip:∀ w',g.run P w=.ok .skip w'→Steps P m0 (lone (fr.finish undef) cs w')
 enter:∀ f a w',g.run P w=.ok (.enter f a) w'→Steps P m0 (lone (Frame.enter P f a .normal) (fr::cs) w')
 round:∀ l f t assign body w',g.run P w=.ok (.round l f t assign body) w'→Steps P m0 (lone (Frame.round l f t assign body .normal) (fr::cs) w')

theorem nU {F:SF} {callers:List SF}:∀ {l:List SV} {Ls:List SM},zn E F callers s l=some Ls→∀ x∈l,∃ F' s',finish E F x s=some (F',s')∧({ top:=F',callers,mem:=s' }:SM)∈Ls
 | [],_,_,x,hx=>by cases hx
 | y::ys,Ls,h,x,hx=>by
  unfold zn at h
  split at h
  ·rename_i F' s' r hf hr
   cases h
   rcases List.mem_cons.1 hx with rfl | hx
   ·exact ⟨F',s',hf,List.mem_cons_self⟩
   ·obtain ⟨F2,s2,h2,hm⟩:=nU hr x hx
    exact ⟨F2,s2,h2,List.mem_cons_of_mem _ hm⟩
  ·cases h

theorem qG (K:aE E M w0) {F:SF} {fr0:Frame} {m0:Machine} {g:Sem Next} {n:cz} {s1:SH} {l:List SM} {callers:List SF} {cs cs0:List Frame} {ob:Prop}
  (D:ob→GU E.P m0 fr0 cs g w) (hf:dZ E ν M w0 hid F fr0) (hc:aN E ν M w0 cs0 hid F.kind callers cs) (hg:GR ν E)
  (hl:after E F callers (n,s1)=some l) (hn:∀ d,n≠.defer d) (hgood:s1.ob→ob∧cx E g ν M w0 w n s1):
  ∃ S'∈l,(S'.mem.ob→ob∧∃ ν' m',ν.Le ν'∧Steps E.P m0 m'∧MR E M w0 cs0 ν' S' m'):=by
 cases n with
 | val x=>
  obtain ⟨F',s2,hfin,rfl⟩:=eG hl
  refine ⟨_,List.mem_singleton.2 rfl,fun ob=>?_⟩
  obtain ⟨ob0,ν',w',y,hle,hrun,hv,hr'⟩:=hgood (eI hf hfin ob)
  obtain ⟨_,hMR⟩:=dm (hf.mono hle) hr' (hg.mono hle) hv hfin (hc.mono hle) ob
  refine ⟨ob0,ν',_,hle,?_,hMR⟩
  rcases hrun with hrun | ⟨hrun,rfl⟩
  ·exact (D ob0).value _ _ hrun
  ·exact (D ob0).skip _ hrun
 | enter f args=>
  simp only [after] at hl
  split at hl
  ·-- a function without a body
   rename_i k hk
   cases hx:xr E k args s1 with
   | none=>rw [hx] at hl;cases hl
   | some r=>
   obtain ⟨x,s2⟩:=r
   rw [hx] at hl
   obtain ⟨F',s3,hfin,rfl⟩:=eG hl
   refine ⟨_,List.mem_singleton.2 rfl,fun ob=>?_⟩
   have ob2:=eI hf hfin ob
   have ob1:s1.ob:=tn hx ob2
   obtain ⟨ob0,al,ha,eX,hrun⟩:=hgood ob1
   obtain ⟨_,ν',w',y,hle,hcall,hv,hr'⟩:=K.ext f k hk args x s1 s2 hx ν M w0 w al eX ha ob2
   obtain ⟨_,hMR⟩:=dm (hf.mono hle) hr' (hg.mono hle) hv hfin (hc.mono hle) ob
   exact ⟨ob0,ν',_,hle,(D ob0).value _ _ (by rw [hrun];exact hcall),hMR⟩
  ·split at hl
   ·-- a function that is told by its contract
    rename_i g hgs
    cases hx:g args s1 with
    | none=>rw [hx] at hl;cases hl
    | some r=>
    obtain ⟨x,s2⟩:=r
    rw [hx] at hl
    obtain ⟨F',s3,hfin,rfl⟩:=eG hl
    refine ⟨_,List.mem_singleton.2 rfl,fun ob=>?_⟩
    have ob2:=eI hf hfin ob
    obtain ⟨ob1,hc2⟩:=K.sums f g hgs args x s1 s2 hx ob2
    obtain ⟨ob0,al,ha,eX,hrun⟩:=hgood ob1
    obtain ⟨hcall,hcalls⟩:=hc2 ν w al eX hg ha
    obtain ⟨e,w',fr,⟨y,rfl,hnv⟩,hcomes,_,hleave⟩:=hcalls (fr0::cs)
    obtain ⟨ν',hle,hv,hr'⟩:=hnv.hr eX
    obtain ⟨_,hMR⟩:=dm (hf.mono hle) hr' (hg.mono hle) hv hfin (hc.mono hle) ob
    exact ⟨ob0,ν',_,hle,Steps.trans ((D ob0).enter _ _ _ (by rw [hrun];exact hcall)) (Steps.trans hcomes (.one (step_leave_returned hleave))),hMR⟩
   ·split at hl
    ·-- a call of which it is told what may come back
     rename_i g hgs
     obtain ⟨L,hL,hl⟩:=Option.bind_eq_some_iff.1 hl
     obtain ⟨hne,hq⟩:=K.qs f g hgs args L hL
     by_cases ob1:s1.ob
     ·obtain ⟨ob0,al,ha,eX,hrun⟩:=hgood ob1
      obtain ⟨hcall,hcalls⟩:=hq ν s1 w al eX hg ha
      obtain ⟨e,w',fr,⟨hbel,x,hx,y,rfl,hv⟩,hcomes,_,hleave⟩:=hcalls (fr0::cs)
      obtain ⟨F',s2,hfin,hm⟩:=nU hl x hx
      refine ⟨_,hm,fun ob=>?_⟩
      obtain ⟨_,hMR⟩:=dm hf (eX.grow hbel) hg hv hfin hc ob
      exact ⟨ob0,ν,_,aA.Le.refl _,Steps.trans ((D ob0).enter _ _ _ (by rw [hrun];exact hcall)) (Steps.trans hcomes (.one (step_leave_returned hleave))),hMR⟩
     ·obtain ⟨x,L',rfl⟩:=List.exists_cons_of_ne_nil hne
      obtain ⟨F',s2,hfin,hm⟩:=nU hl x List.mem_cons_self
      exact ⟨_,hm,fun ob=>absurd (eI hf hfin ob) ob1⟩
    cases hG:aP E f args .normal with
    | none=>rw [hG] at hl;cases hl
    | some G=>
    rw [hG] at hl
    cases hl
    refine ⟨_,List.mem_singleton.2 rfl,fun ob=>?_⟩
    obtain ⟨ob0,al,ha,eX,hrun⟩:=hgood ob
    obtain ⟨htop,hkind,fn,hfn,hbody⟩:=j9 hG ha _
    have hcall:(callFunc f al.toArray).run E.P w=.ok (.enter f al.toArray) w:=fU hfn hbody (K.calls f fn hfn hbody)
    refine ⟨ob0,ν,_,aA.Le.refl _,(D ob0).enter _ _ _ (by rw [hrun];exact hcall),⟨_,_,w,_,rfl,eX,hg,htop,?_⟩⟩
    show aN E ν M w0 cs0 [] G.kind (F::callers) _
    rw [hkind];exact .wait hf hc
 | round l args=>
  simp only [after] at hl
  split at hl
  ·rename_i st p fn tm params assign body dfi wr hlook
   cases hlen:(args.length==params.length)
   ·rw [hlen] at hl;cases hl
   ·rw [hlen] at hl
    cases hl
    refine ⟨_,List.mem_singleton.2 rfl,fun ob=>?_⟩
    obtain ⟨ob0,al,bb,hb,ha,eX,hrun⟩:=hgood ob
    obtain ⟨t,hy,ht⟩:=BN (E:=E) hlook (by simpa using hlen) hb ha eX
    refine ⟨ob0,ν,_,aA.Le.refl _,(D ob0).round _ _ _ _ _ _ (by rw [hrun];exact hy),⟨_,_,w,_,rfl,eX,hg,?_,aN.wait (hl:=[]) hf hc⟩⟩
    exact ⟨⟨rfl,rfl,rfl,⟨bb,hb,rfl⟩⟩,fun _=>⟨rfl,.plain ht (.cons (.code assign) (.cons .beginRound (.cons (.code body) .nil)))⟩,fun hc=>by cases hc⟩
  ·cases hl
 | defer d=>exact absurd rfl (hn d)

section
variable {F:SF} {b:Frame} {a z:Array Value} {df:List Deferred} {ops:Array Oper} {i:Nat} {rest:List Nat} {k':List Item} {o:Oper} {L:List (cz × SH)} {Ls:List SM} {callers:List SF} {cs cs0:List Frame}

theorem iC (ho:ops[i]?=some o) (y:Value):(b.atR ⟨a,df⟩ (.inRegion ops (i::rest)::k')).finish y=b.atR (Act.put ⟨a,df⟩ o.dst y) (.inRegion ops rest::k'):=by
 rw [Frame.finish_atR,ho];rfl

theorem I8 (K:aE E M w0) (hf:dZ E ν M w0 hid F (b.atR ⟨a,df⟩ (.inRegion ops (i::rest)::k'))) (ho:ops[i]?=some o) (hw:s.ob→Region.wanted o (yielded ops a)=true)
  (hz:ia ν F.tm z) (hev:∀ x∈o.op.operands,ev a x=ev z x) (hop:gH E F.tm o s=some L) (hj:sf L (after E F callers)=some Ls)
  (hc:aN E ν M w0 cs0 hid F.kind callers cs) (hr:HR ν M w0 s w) (hg:GR ν E):
  ∃ S'∈Ls,S'.mem.ob→s.ob∧∃ ν' m',ν.Le ν'∧Steps E.P (lone (b.atR ⟨a,df⟩ (.inRegion ops (i::rest)::k')) cs w) m'∧MR E M w0 cs0 ν' S' m':=by
 obtain ⟨p,hp,hgood⟩:=HG hop hr (hz.He hg)
 obtain ⟨l,hl,hsub⟩:=rZ hj p hp
 have hcong:execOp (ev a) o=execOp (ev z) o:=Go.execOp_congr o (zV hop) hev
 obtain ⟨n,s1⟩:=p
 have hsem:(∀ d,n≠.defer d)→o.semAt b.roundOf (Act.eval ⟨a,df⟩)=execOp (ev z) o:=by
  intro hn
  rw [Oper.semAt_eq _ _ _ (fun c e=>by obtain ⟨d,hd⟩:=xg e hop _ hp;exact hn d hd),Act.lW]
  exact hcong
 by_cases hd:∃ d,n=.defer d
 ·obtain ⟨d,rfl⟩:=hd
  simp only [after] at hl
  split at hl
  ·rename_i hro
   obtain ⟨F',s2,hfin,rfl⟩:=eG hl
   refine ⟨_,hsub _ (List.mem_singleton.2 rfl),fun ob=>?_⟩
   have hfr:=hf.base.ro
   rw [hro] at hfr
   have hb:b.roundOf=none:=hfr
   have hsem:o.semAt b.roundOf (Act.eval ⟨a,df⟩)=execOp (ev z) o:=by rw [hb,Oper.semAt_none,Act.lW];exact hcong
   have hf':∀ dv,xh ν d dv→dZ E ν M w0 hid { F with defers:=d::F.defers } (b.atR ⟨a,dv::df⟩ (.inRegion ops (i::rest)::k')):=fun dv hd=>
    ⟨⟨hf.base.fn,⟨dv,df,rfl,hd,hf.base.defers⟩,hf.base.kind,hf.base.ro⟩,hf.ret,hf.mode,hf.todo⟩
   have ob1:s1.ob:=by
    have hmono:∀ {fr:Frame},dZ E ν M w0 hid { F with defers:=d::F.defers } fr→s2.ob→s1.ob:=fun hx=>eI hx hfin
    exact tA hf hfin ob
   obtain ⟨ob0,dv,hd,eX,hrun⟩:=hgood ob1
   obtain ⟨_,hMR⟩:=dm (hf' dv hd) eX hg (VR.ab.2 rfl) hfin hc ob
   rw [iC ho] at hMR
   exact ⟨ob0,ν,_,aA.Le.refl _,.one (step_defer ho (hw ob0) (by rw [hsem];exact hrun)),hMR⟩
  ·cases hl
 ·have hn:∀ d,n≠.defer d:=fun d e=>hd ⟨d,e⟩
  have hsem:=hsem hn
  have D:s.ob→GU E.P (lone (b.atR ⟨a,df⟩ (.inRegion ops (i::rest)::k')) cs w) (b.atR ⟨a,df⟩ (.inRegion ops (i::rest)::k')) cs (execOp (ev z) o) w:=
   fun ob0=>⟨fun y w' hr=>by rw [iC ho];exact .one (lu ho (hw ob0) (by rw [hsem];exact hr)),fun w' hr=>by rw [iC ho];exact .one (xi ho (hw ob0) (by rw [hsem];exact hr)),
    fun f a w' hr=>.one (yL ho (hw ob0) (by rw [hsem];exact hr)),fun l f t as bd w' hr=>.one (yl ho (hw ob0) (by rw [hsem];exact hr))⟩
  obtain ⟨S',hm,h⟩:=qG K D hf hc hg hl hn hgood
  exact ⟨S',hsub _ hm,h⟩
end
end
section
variable {E:Env} {ν:aA} {M:Own} {w0 w:World} {s s':SH} {hid:List Nat}

theorem CD {fr:Frame} (h:fr.mode=.run):fr=fr.atR ⟨fr.tmps,fr.defers⟩ fr.todo:=by
 cases fr;simp only at h;subst h;rfl

def Out (E:Env) (M:Own) (w0:World) (cs0:List Frame) (ν:aA) (ob:Prop) (m:Machine) (Ls:List SM):Prop:=
 ∃ S'∈Ls,S'.mem.ob→ob∧∃ ν' m',ν.Le ν'∧Steps E.P m m'∧MR E M w0 cs0 ν' S' m'

theorem Out.one {cs0:List Frame} {ob:Prop} {m:Machine} {S':SM} (h:S'.mem.ob→ob∧∃ ν' m',ν.Le ν'∧Steps E.P m m'∧MR E M w0 cs0 ν' S' m'):Out E M w0 cs0 ν ob m [S']:=
 ⟨S',List.mem_singleton.2 rfl,h⟩

section
variable {F:SF} {fr:Frame} {callers:List SF} {cs cs0:List Frame} {Ls:List SM} {m:Machine}

theorem MR.to {k:List SI} {k':List Item} (hr:HR ν M w0 s w) (hg:GR ν E) (hb:Dc ν F fr) (hret:F.ret=false) (ht:ia ν F.tm fr.tmps) (hc:aN E ν M w0 cs0 [] F.kind callers cs) (hk:qJ ν k k'):
  MR E M w0 cs0 ν { top:={ F with todo:=k },callers,mem:=s } (lone (fr.atR ⟨fr.tmps,fr.defers⟩ k') cs w):=
 ⟨_,_,w,_,rfl,hr,hg,⟨⟨hb.fn,hb.defers,hb.kind,hb.ro⟩,fun _=>⟨rfl,.plain ht hk⟩,fun h=>by
  have h:F.ret=true:=h
  rw [hret] at h;cases h⟩,hc⟩

theorem Bb {k:List SI} {k':List Item} (hk:qJ ν k k') (id:Nat):
  (∀ x,j5 id k=some x→∃ y,exitTo id k'=some y∧qJ ν x y)∧(j5 id k=none→exitTo id k'=none):=by
 induction hk with
 | nil=>exact ⟨fun x h=>(by cases h),fun _=>rfl⟩
 | cons hx hk ih=>
  cases hx with
  | inBlock id'=>
   simp only [j5,exitTo]
   cases hb:(id'==id)
   ·simp only [cond_false,if_false,Bool.false_eq_true];exact ih
   ·simp only [cond_true,if_true]
    exact ⟨fun x h=>by cases h;exact ⟨_,rfl,hk⟩,fun h=>by cases h⟩
  | _=>exact ih

theorem AY {k:List SI} {k':List Item} (hk:qJ ν k k') (l:Nat):
  (∀ x,ki l k=some x→∃ y,gotoIn l k'=some y∧qJ ν x y)∧(ki l k=none→gotoIn l k'=none):=by
 induction hk with
 | nil=>exact ⟨fun x h=>(by cases h),fun _=>rfl⟩
 | cons hx hk ih=>
  cases hx with
  | inScope body=>
   simp only [ki,gotoIn]
   cases hb:findLabel body l with
   | some rest=>exact ⟨fun x h=>by cases h;exact ⟨_,rfl,.cons (.code rest) (.cons (.inScope body) hk)⟩,fun h=>by cases h⟩
   | none=>exact ih
  | _=>exact ih

theorem C4 {jump:Option Code} (hb:Dc ν F fr) (hret:F.ret=false) (hmode:fr.mode=.run) (ht:ia ν F.tm fr.tmps) (hr:HR ν M w0 s w) (hg:GR ν E) (hc:aN E ν M w0 cs0 [] F.kind callers cs)
  (h:lk E F callers s jump=some Ls)
  (hnone:fr.roundOf=none→(jump=none∨jump=some .ret)→step E.P m=.next (lone { fr with mode:=.returning } cs w))
  (hround:∀ l v w' c cs',fr.roundOf=some l→fr.kind=.normal→cs=c::cs'→(Instr.endRound l jump).run E.P w=.ok v w'→step E.P m=.next (lone (c.finish v) cs' w')):
  Out E M w0 cs0 ν s.ob m Ls:=by
 unfold lk at h
 have hro:=hb.ro
 split at h
 ·rename_i e
  rw [e] at hro
  have key:(jump=none∨jump=some .ret)→some [({ top:={ F with ret:=true },callers,mem:=s }:SM)]=some Ls→Out E M w0 cs0 ν s.ob m Ls:=by
   intro hj h
   cases h
   exact .one fun ob=>⟨ob,ν,_,aA.Le.refl _,.one (hnone hro hj),⟨_,_,w,_,rfl,hr,hg,⟨⟨hb.fn,hb.defers,hb.kind,hb.ro⟩,fun h=>(by cases h),fun _=>⟨rfl,ht⟩⟩,hc⟩⟩
  split at h
  ·exact key (.inl rfl) h
  ·exact key (.inr rfl) h
  ·cases h
 ·rename_i i e
  rw [e] at hro
  obtain ⟨b,hbi,hrou⟩:=hro
  split at h
  ·rename_i st p fn tm params assign body df hlook
   split at h
   ·rename_i c rest
    split at h
    ·rename_i hk
     rw [hk] at hc
     cases hc with
     | wait hw htail=>
     rename_i c' cs'
     obtain ⟨_,_,b',o,hb',ho,hor,hown⟩:=hr.look hlook
     rw [hbi] at hb';cases hb'
     obtain ⟨t,b2,hb2,htm,rfl⟩:=hor
     have hrun:(Instr.endRound b.1 jump).run E.P w=.ok (.bool jump.isNone)
       { w with heap:=w.heap.setIfInBounds b.1 (.loop { state:=if jump.isNone then .ready else .done,pending:=jump,fn,tmps:=t,params:=params.toArray,assign,body,defers:=b2.1 }) }:=by
      simp only [Instr.endRound,Sem.run_bind,run_getLoop ho,Result.andThen_ok,fp ho (by intro c e f;exact fun h=>by cases h),Sem.run_pure]
     have hr':HR ν M w0 (s.put i (.loop (if jump.isNone then .ready else .done) jump fn tm params assign body df)) _:=hr.put hlook hbi ⟨t,b2,hb2,htm,rfl⟩ rfl rfl rfl rfl (w':={ w with heap:=w.heap.setIfInBounds b.1 (.loop { state:=if jump.isNone then .ready else .done,pending:=jump,fn,tmps:=t,params:=params.toArray,assign,body,defers:=b2.1 }) })
     obtain ⟨c1,s2,hfin,rfl⟩:=eG h
     refine .one fun ob=>?_
     obtain ⟨ob1,hMR⟩:=dm hw hr' hg (VR.ab.2 rfl) hfin htail ob
     exact ⟨ob1,ν,_,aA.Le.refl _,.one (hround _ _ _ _ _ hrou (by rw [hb.kind,hk]) rfl hrun),hMR⟩
    ·cases h
   ·cases h
  ·cases h


theorem AJ {t:TypeId} {a:SV} {r:SV × SH} (h:gJ E t a s=some r):∃ i off,a=.ptr i off:=by
 unfold gJ at h
 split at h
 ·unfold na at h
  split at h
  ·exact ⟨_,_,rfl⟩
  ·cases h
 unfold nw at h
 split at h
 ·exact ⟨_,_,rfl⟩
 ·exact ⟨_,_,rfl⟩
 ·cases h

def CU (tmps:Array Value):ResultVar→Sem Value
 | .tmp t=>pure (tmps.getD t undef)
 | .cell a t=>do loadVar t (← asAddr (tmps.getD a undef))

theorem yw (fn:Func) (tmps:Array Value):results fn tmps=(fn.results.mapM (CU tmps) >>= fun vs=>pure (if h:vs.size=1 then vs[0] else .tuple vs)):=by
 unfold results
 congr 2

theorem kX {tm:dG} {tmps:Array Value} (ht:ia ν tm tmps):∀ {l:List ResultVar} {s s':SH} {r:List SV},HR ν M w0 s w→cu.go E tm l s=some (r,s')→
  s.cb s'∧(s'.ob→s.ob∧∃ vs,(l.mapM (CU tmps)).run E.P w=.ok vs w∧aj ν r vs)
 | [],s,s',r,hr,h=>by
  cases h
  exact ⟨.refl _,fun ob=>⟨ob,[],rfl,aj.nil⟩⟩
 | .tmp t::l,s,s',r,hr,h=>by
  unfold cu.go at h
  cases hg:cu.go E tm l s with
  | none=>rw [hg] at h;cases h
  | some q=>
  obtain ⟨r1,s1⟩:=q
  rw [hg] at h;cases h
  obtain ⟨hsame,hob⟩:=kX ht hr hg
  refine ⟨hsame,fun ob=>?_⟩
  obtain ⟨ob0,vs,hrun,hv⟩:=hob ob
  refine ⟨ob0,tmps.getD t undef::vs,?_,aj.cons (ht.at t) hv⟩
  simp only [List.mapM_cons,CU,Sem.run_bind,Sem.run_pure,Result.andThen_ok,hrun]
 | .cell a t::l,s,s',r,hr,h=>by
  unfold cu.go at h
  cases hl:gJ E t (tm.get a) s with
  | none=>rw [hl] at h;cases h
  | some q0=>
  obtain ⟨x,s1⟩:=q0
  rw [hl] at h
  simp only at h
  cases hg:cu.go E tm l s1 with
  | none=>rw [hg] at h;cases h
  | some q=>
  obtain ⟨r1,s2⟩:=q
  rw [hg] at h;cases h
  have hva:=ht.at a
  obtain ⟨i,off,hp⟩:=AJ hl
  obtain ⟨hs1,hob1⟩:=lU hl hr hva
  obtain ⟨hs2,hob2⟩:=kX ht (hr.same hs1) hg
  refine ⟨hs1.trans hs2,fun ob=>?_⟩
  obtain ⟨ob1,vs,hrun,hv⟩:=hob2 ob
  obtain ⟨ob0,y,hy,hvy⟩:=hob1 ob1
  refine ⟨ob0,y::vs,?_,aj.cons hvy hv⟩
  rw [hp] at hva
  obtain ⟨b,hb,hpt⟩:=VR.aw.1 hva
  have hy':((do loadVar t (← asAddr (tmps.getD a undef))):Sem Value).run E.P w=.ok y w:=by
   rw [hpt] at hy ⊢
   exact hy
  simp only [List.mapM_cons,CU,Sem.run_bind,Sem.run_pure,Result.andThen_ok,hrun] at hy' ⊢
  rw [hy'];simp only [Result.andThen_ok,hrun]

theorem ly {fn:Func} {tm:dG} {tmps:Array Value} {x:SV} (ht:ia ν tm tmps) (hr:HR ν M w0 s w) (h:cu E fn tm s=some (x,s')):
  s.cb s'∧(s'.ob→s.ob∧∃ v,(results fn tmps).run E.P w=.ok v w∧VR ν x v):=by
 unfold cu at h
 cases hg:cu.go E tm fn.results.toList s with
 | none=>rw [hg] at h;cases h
 | some q=>
 obtain ⟨l,s1⟩:=q
 rw [hg] at h
 simp only [Option.bind_some] at h
 obtain ⟨hsame,hob⟩:=kX ht hr hg
 have hres:∀ vs,(fn.results.toList.mapM (CU tmps)).run E.P w=.ok vs w→
   (results fn tmps).run E.P w=.ok (if h:vs.toArray.size=1 then vs.toArray[0] else .tuple vs.toArray) w:=by
  intro vs hv
  rw [yw,Array.mapM_eq_mapM_toList]
  simp only [Sem.run_bind,Sem.run_map,hv,Result.andThen_ok,Sem.run_pure]
 split at h
 ·rename_i y
  cases h
  refine ⟨hsame,fun ob=>?_⟩
  obtain ⟨ob0,vs,hrun,hv⟩:=hob ob
  obtain ⟨v,vs',rfl,h1,h2⟩:=hv.cons_inv
  obtain rfl:=h2.aq
  exact ⟨ob0,v,by rw [hres _ hrun];rfl,h1⟩
 ·rename_i hne
  cases h
  refine ⟨hsame,fun ob=>?_⟩
  obtain ⟨ob0,vs,hrun,hv⟩:=hob ob
  refine ⟨ob0,.tuple vs.toArray,?_,VR.bN.2 ⟨vs,rfl,hv⟩⟩
  rw [hres _ hrun,dif_neg]
  intro h1
  have hlen:=hv.length
  have h1:vs.length=1:=by simpa using h1
  rw [h1] at hlen
  obtain ⟨y,e⟩:=List.length_eq_one_iff.1 hlen.symm
  exact hne y e
end
end
section
variable {E:Env} {ν:aA} {M:Own} {w0 w:World} {s s':SH} {hid:List Nat}
variable {F:SF} {fr:Frame} {callers:List SF} {cs cs0:List Frame} {Ls:List SM} {m:Machine}

theorem ib.append:∀ {l:List oU} {ds:List Deferred} {m:List oU} {es:List Deferred},ib ν l ds→ib ν m es→ib ν (l++m) (ds++es)
 | [],_,_,_,h,k=>by have h:_=[]:=h;rw [h];exact k
 | _::_,_,_,_,⟨z,zs,e,hz,hs⟩,k=>by rw [e];exact ⟨z,zs++_,rfl,hz,ib.append hs k⟩

theorem Hz (K:aE E M w0) (hb:Dc ν F fr) (hret:F.ret=true) (hmode:fr.mode=.returning) (ht:ia ν F.tm fr.tmps) (hr:HR ν M w0 s w) (hg:GR ν E) (hc:aN E ν M w0 cs0 [] F.kind callers cs)
  (h:G0 E F callers s=some Ls):Out E M w0 cs0 ν s.ob (lone fr cs w) Ls:=by
 unfold G0 at h
 have hd:=hb.defers
 split at h
 ·-- a deferred call
  rename_i g capt args ds e
  rw [e] at hd
  obtain ⟨z,zs,hfd,⟨c',a',rfl,hcv,hav⟩,hds⟩:=hd
  cases hG:aP E g (args++capt) .deferred with
  | none=>rw [hG] at h;cases h
  | some G=>
  rw [hG] at h
  cases h
  refine .one fun ob=>?_
  obtain ⟨htop,hkind,fn,hfn,hbody⟩:=j9 hG (hav.append hcv) _
  have hcall:(invoke (.fn (.func g) c'.toArray) a'.toArray).run E.P w=.ok (.enter g (a'++c').toArray) w:=by
   have:=fU (a:=(a'++c').toArray) (w:=w) hfn hbody (K.calls g fn hfn hbody)
   simpa [invoke] using this
  refine ⟨ob,ν,_,aA.Le.refl _,.one (Go.step_defer (by rw [hmode];exact fun h=>(by cases h)) hfd rfl hcall),⟨_,_,w,_,rfl,hr,hg,htop,?_⟩⟩
  show aN E ν M w0 cs0 [] G.kind ({ F with defers:=ds }::callers) _
  rw [hkind]
  exact .ret ⟨⟨hb.fn,hds,hb.kind,hb.ro⟩,hret,hmode,ht⟩ hc
 ·cases h
 ·-- the calls that a loop has put off
  rename_i i ds e
  rw [e] at hd
  obtain ⟨z,zs,hfd,⟨b,hbi,rfl⟩,hds⟩:=hd
  split at h
  ·rename_i l hlook
   cases h
   obtain ⟨_,_,b',o,hb',ho,hor,_⟩:=hr.look hlook
   rw [hbi] at hb';cases hb'
   obtain ⟨es,rfl,hes⟩:=hor
   have hrun:(Instr.takeDeferred b.1).run E.P w=.ok es { w with heap:=w.heap.setIfInBounds b.1 (.deferred none) }:=by
    simp only [Instr.takeDeferred,Sem.run_bind,dQ (P:=E.P) ho (by intro c e f;exact fun h=>by cases h),Result.andThen_ok,fp (P:=E.P) ho (by intro c e f;exact fun h=>by cases h),Sem.run_pure]
   have hr':HR ν M w0 (s.put i (.dfr none)) { w with heap:=w.heap.setIfInBounds b.1 (.deferred none) }:=hr.put hlook hbi rfl rfl rfl rfl rfl
   have hstep:step E.P (lone fr cs w)=.next (lone { fr with defers:=es++zs } cs { w with heap:=w.heap.setIfInBounds b.1 (.deferred none) }):=
    step_lone_go (by simp [stepG,unwind,hmode,hfd,Sem.runT_eq,hrun])
   exact .one fun ob=>⟨ob,ν,_,aA.Le.refl _,.one hstep,⟨_,_,_,_,rfl,hr',hg,⟨⟨hb.fn,hes.append hds,hb.kind,hb.ro⟩,fun h=>(by
    have h:F.ret=false:=h
    rw [hret] at h;cases h),fun _=>⟨hmode,ht⟩⟩,hc⟩⟩
  ·cases h
 ·-- the end
  rename_i e
  rw [e] at hd
  have hfd:fr.defers=[]:=hd
  split at h
  ·rename_i fn hfn
   split at h
   ·rename_i x s1 hres
    obtain ⟨hsame,hob⟩:=ly (E:=E) ht hr hres
    unfold returned at h
    split at h
    ·rename_i c rest
     split at h
     ·rename_i hk
      obtain ⟨c1,s2,hfin,rfl⟩:=eG h
      rw [hk] at hc
      cases hc with
      | wait hw htail=>
      refine .one fun ob=>?_
      obtain ⟨ob0,v,hrun,hv⟩:=hob (eI hw hfin ob)
      obtain ⟨_,hMR⟩:=dm hw (hr.same hsame) hg hv hfin htail ob
      exact ⟨ob0,ν,_,aA.Le.refl _,.one (step_leave_returned ⟨hmode,hfd,by rw [hb.kind,hk],fn,by rw [hb.fn];exact hfn,hrun⟩),hMR⟩
     ·rename_i hk
      cases h
      rw [hk] at hc
      cases hc with
      | ret hw htail=>
      rename_i c' cs'
      refine .one fun ob=>?_
      obtain ⟨ob0,v,hrun,hv⟩:=hob ob
      have hstep:=step_going_returned (P:=E.P) (fr:=fr) (c:=c') (cs:=cs') (w:=w) (v:=v) (by rw [hb.kind,hk]) ⟨hmode,hfd,fn,by rw [hb.fn];exact hfn,hrun⟩
      have hset:({ c' with mode:=settle c'.mode }:Frame)=c':=by
       have:=hw.mode
       cases c';simp only at this;subst this;rfl
      rw [hset] at hstep
      exact ⟨ob0,ν,_,aA.Le.refl _,.one hstep,⟨_,_,w,_,rfl,hr.same hsame,hg,⟨hw.base,fun h=>(by rw [hw.ret] at h;cases h),fun _=>⟨hw.mode,hw.tm⟩⟩,htail⟩⟩
     ·cases h
    ·cases h
   ·cases h
  ·cases h

theorem qQ {f:Operand} {params:Array Tmp} {assign body:Code} {k':List Item} {l:Nat} {mark:List Deferred} {w1:World} (hmode:fr.mode=.run) (htodo:fr.todo=.code (.rangeFunc f params assign body)::k')
  (hrun:(Instr.enterLoop fr.fn fr.tmps params assign body fr.roundOf).run E.P w=.ok (l,mark) w1):
  GU E.P (lone fr cs w) { fr with todo:=.inRangeFunc l::k',defers:=mark++fr.defers } cs (do let d ← Deferred.ofValue (ev fr.tmps f) #[.func (.yield l) #[] #[]];invoke d.target d.args) w1:=by
 have hev:fr.eval f=ev fr.tmps f:=by cases f <;> rfl
 have hg:(do let d ← resolve ({ fr with todo:=.inRangeFunc l::k',defers:=mark++fr.defers }:Frame).eval { callee:=.value f,args:=#[.const (.func (.yield l) #[] #[])],argTypes:=#[] } 0;invoke d.target d.args:Sem Next)=
   (do let d ← Deferred.ofValue (ev fr.tmps f) #[.func (.yield l) #[] #[]];invoke d.target d.args):=by
  have h2:({ fr with todo:=.inRangeFunc l::k',defers:=mark++fr.defers }:Frame).eval=fr.eval:=by funext x;cases x <;> rfl
  simp only [resolve,h2,hev]
  simp [Frame.eval]
 have key:(stepG E.P true { frame:=fr,callers:=cs,status:=.running,dying:=none } w).bare=
   (stepG.apply E.P true { fr with todo:=.inRangeFunc l::k',defers:=mark++fr.defers } cs none (do let d ← Deferred.ofValue (ev fr.tmps f) #[.func (.yield l) #[] #[]];invoke d.target d.args) w1).bare:=by
  rw [← hg]
  simp only [stepG,stepG.exec,hmode,htodo,Sem.runT_eq,hrun,GStep.bare_after]
 refine ⟨fun y w' hr=>.one (step_lone_go ?_),fun w' hr=>.one (step_lone_go ?_),fun g a w' hr=>.one (step_lone_go ?_),fun l' g t as bd w' hr=>.one (step_lone_go ?_)⟩ <;>
 ·rw [key];simp [stepG.apply,Sem.runT_eq,hr]

theorem Bt (K:aE E M w0) {f:Operand} {params:Array Tmp} {assign body:Code} {k:List SI} {k':List Item} (hb:Dc ν F fr) (hret:F.ret=false) (hmode:fr.mode=.run) (ht:ia ν F.tm fr.tmps)
  (hk:qJ ν k k') (htodo:fr.todo=.code (.rangeFunc f params assign body)::k') (hr:HR ν M w0 s w) (hg:GR ν E) (hc:aN E ν M w0 cs0 [] F.kind callers cs)
  (h:yG E F callers s f params assign body k=some Ls):Out E M w0 cs0 ν s.ob (lone fr cs w) Ls:=by
 have noDefer:∀ {fv:SV} {args:List SV} {n:cz},jt fv args=some n→∀ d,n≠.defer d:=by
  intro fv args n hn d e
  subst e
  unfold jt at hn
  split at hn <;> cases hn
 unfold yG at h
 have hro:=hb.ro
 split at h
 ·-- a loop in a loop's body
  rename_i l e
  rw [e] at hro
  obtain ⟨bl,hbl,hrou⟩:=hro
  split at h
  ·rename_i d wr hlook
   obtain ⟨⟨i,s1⟩,hn,h⟩:=Option.bind_eq_some_iff.1 h
   obtain ⟨n,hcall,h⟩:=Option.bind_eq_some_iff.1 h
   obtain ⟨_,_,b',o,hb',ho,hor,_⟩:=hr.look hlook
   rw [hbl] at hb';cases hb'
   obtain ⟨t0,bd,hbd,_,rfl⟩:=hor
   obtain ⟨hob,ν',hle,hi,hr'⟩:=dN hn hr 0 (r:=.loop { state:=.ready,pending:=none,fn:=F.fn,tmps:=fr.tmps,params,assign,body,defers:=bd.1 })
    (fun ν' hle _=>⟨fr.tmps,bd,hle _ _ hbd,ht.mono hle,by simp⟩)
   have hrun:(Instr.enterLoop fr.fn fr.tmps params assign body fr.roundOf).run E.P w=.ok (w.heap.size,[]) { w with heap:=w.heap.push (.loop { state:=.ready,pending:=none,fn:=F.fn,tmps:=fr.tmps,params,assign,body,defers:=bd.1 }) }:=by
    rw [hrou,hb.fn]
    simp [Instr.enterLoop,run_getLoop ho]
   have D:=qQ (cs:=cs) hmode htodo hrun
   have hwait:dZ E ν' M w0 [] { F with todo:=.inRF i::k } { fr with todo:=.inRangeFunc w.heap.size::k',defers:=[]++fr.defers }:=
    ⟨⟨hb.fn,hb.defers.mono hle,hb.kind,hb.ro.mono hle⟩,hret,hmode,.plain (ht.mono hle) (.cons (.inRF hi) (hk.mono hle))⟩
   have hgood:s1.ob→s.ob∧cx E _ ν' M w0 _ n s1:=fun ob=>⟨by rw [← hob];exact ob,
    nf (E:=E) hcall (((ht.mono hle).He (hg.mono hle)) f) (aj.cons (VR.dV.2 ⟨_,hi,rfl⟩) aj.nil) hr'⟩
   obtain ⟨S',hm,hS⟩:=qG K (fun _=>D) hwait (hc.mono hle) (hg.mono hle) h (noDefer hcall) hgood
   exact ⟨S',hm,fun ob=>let ⟨o0,ν2,m',hle2,st,mr⟩:=hS ob;⟨o0,ν2,m',hle.trans hle2,st,mr⟩⟩
  ·cases h
 ·rename_i e
  rw [e] at hro
  have hrou:fr.roundOf=none:=hro
  obtain ⟨⟨d,s1⟩,hn1,h⟩:=Option.bind_eq_some_iff.1 h
  obtain ⟨⟨i,s2⟩,hn2,h⟩:=Option.bind_eq_some_iff.1 h
  obtain ⟨n,hcall,h⟩:=Option.bind_eq_some_iff.1 h
  obtain ⟨hob1,ν1,hle1,hi1,eX⟩:=dN hn1 hr 0 (r:=.deferred (some [])) (fun ν' hle _=>⟨[],rfl,rfl⟩)
  obtain ⟨hob2,ν2,hle2,hi2,oQ⟩:=dN hn2 eX 0 (r:=.loop { state:=.ready,pending:=none,fn:=F.fn,tmps:=fr.tmps,params,assign,body,defers:=w.heap.size })
   (fun ν' hle _=>⟨fr.tmps,(w.heap.size,0),hle _ _ hi1,(ht.mono hle1).mono hle,by simp⟩)
  have hle:=hle1.trans hle2
  have hrun:(Instr.enterLoop fr.fn fr.tmps params assign body fr.roundOf).run E.P w=.ok (w.heap.size+1,[{ target:=.collected w.heap.size,args:=#[] }])
    { w with heap:=(w.heap.push (.deferred (some []))).push (.loop { state:=.ready,pending:=none,fn:=F.fn,tmps:=fr.tmps,params,assign,body,defers:=w.heap.size }) }:=by
   rw [hrou,hb.fn]
   simp [Instr.enterLoop]
   rfl
  have D:=qQ (cs:=cs) hmode htodo hrun
  have hi2':ν2 i=some (w.heap.size+1,0):=by simpa using hi2
  have hwait:dZ E ν2 M w0 [] { F with todo:=.inRF i::k,defers:=.coll d::F.defers } { fr with todo:=.inRangeFunc (w.heap.size+1)::k',defers:=[{ target:=.collected w.heap.size,args:=#[] }]++fr.defers }:=
   ⟨⟨hb.fn,⟨_,_,rfl,⟨_,hle2 _ _ hi1,rfl⟩,hb.defers.mono hle⟩,hb.kind,hb.ro.mono hle⟩,hret,hmode,.plain (ht.mono hle) (.cons (.inRF hi2') (hk.mono hle))⟩
  have hgood:s2.ob→s.ob∧cx E _ ν2 M w0 _ n s2:=fun ob=>⟨by rw [← hob1,← hob2];exact ob,
   nf (E:=E) hcall (((ht.mono hle).He (hg.mono hle)) f) (aj.cons (VR.dV.2 ⟨_,hi2',rfl⟩) aj.nil) oQ⟩
  obtain ⟨S',hm,hS⟩:=qG K (fun _=>D) hwait (hc.mono hle) (hg.mono hle) h (noDefer hcall) hgood
  exact ⟨S',hm,fun ob=>let ⟨o0,ν3,m',hle3,st,mr⟩:=hS ob;⟨o0,ν3,m',hle.trans hle3,st,mr⟩⟩
end
section
variable {E:Env} {ν:aA} {M:Own} {w0 w:World} {s s':SH} {hid:List Nat}
variable {F:SF} {fr:Frame} {callers:List SF} {cs cs0:List Frame} {Ls:List SM} {m:Machine}

theorem zo (K:aE E M w0) {b:Frame} {a z:Array Value} {df:List Deferred} {ops:Array Oper} {i:Nat} {rest:List Nat} {k':List Item} {o:Oper}
  (hf:dZ E ν M w0 hid F (b.atR ⟨a,df⟩ (.inRegion ops (i::rest)::k'))) (ho:ops[i]?=some o) (hz:ia ν F.tm z) (hev:∀ x∈o.op.operands,ev a x=ev z x)
  (hwz:Region.wanted o (yielded ops a)=Region.wanted o (yielded ops z)) (hc:aN E ν M w0 cs0 hid F.kind callers cs) (hr:HR ν M w0 s w) (hg:GR ν E)
  (h:vb E ops F callers o s=some Ls):Out E M w0 cs0 ν s.ob (lone (b.atR ⟨a,df⟩ (.inRegion ops (i::rest)::k')) cs w) Ls:=by
 unfold vb at h
 split at h
 ·rename_i s1 hw
  obtain ⟨hsame,hob⟩:=nE hw hz
  obtain ⟨L,hop,hj⟩:=Option.bind_eq_some_iff.1 h
  obtain ⟨S',hm,hS⟩:=I8 K hf ho (fun ob=>by rw [hwz,(hob ob).2]) hz hev hop hj hc (hr.same hsame) hg
  exact ⟨S',hm,fun ob=>let ⟨o1,r⟩:=hS ob;⟨(hob o1).1,r⟩⟩
 ·rename_i s1 hw
  obtain ⟨hsame,hob⟩:=nE hw hz
  obtain ⟨F',s2,hfin,rfl⟩:=eG h
  refine .one fun ob=>?_
  obtain ⟨ob1,hMR⟩:=dm hf (hr.same hsame) hg (VR.ab.2 rfl) hfin hc ob
  obtain ⟨ob0,hwf⟩:=hob ob1
  rw [iC ho] at hMR
  have hs:=stepR_op_skip (P:=E.P) (b:=b) (a:=⟨a,df⟩) (k:=k') (cs:=cs) (w:=w) (ops:=ops) (i:=i) (rest:=rest) (by rw [ho];simp [hwz,hwf])
  rw [ho] at hs
  exact ⟨ob0,ν,_,aA.Le.refl _,.one hs,hMR⟩
 ·cases h

def Es (E:Env) (M:Own) (w0:World) (cs0:List Frame) (ν:aA) (ob:Prop) (m:Machine) (Ls:List SM):Prop:=
 ∃ S'∈Ls,S'.mem.ob→ob∧∃ ν' m' M1 w1,ν.Le ν'∧Steps E.P m m'∧bk M w0 M1 w1∧MR E M1 w1 cs0 ν' S' m'

theorem Out.base {M1:Own} {w1:World} {ob:Prop} (B:bk M w0 M1 w1) (h:Out E M1 w1 cs0 ν ob m Ls):Es E M w0 cs0 ν ob m Ls:=by
 obtain ⟨S',hS',h⟩:=h
 refine ⟨S',hS',fun o=>?_⟩
 obtain ⟨o1,ν',m',hle,hst,hmr⟩:=h o
 exact ⟨o1,ν',m',M1,w1,hle,hst,B,hmr⟩

theorem mU {l:List (Nat × Nat)} {e B:Nat} (hn:(l.map (·.1)).Nodup) (h2:(l.map (·.2)).Nodup) (he:(e,B)∈l):∀ q∈l,q.1≠e→q.2≠B:=by
 intro q hq hne e2
 obtain ⟨i,hi,hqi⟩:=List.mem_iff_getElem.1 hq
 obtain ⟨j,hj,hej⟩:=List.mem_iff_getElem.1 he
 have:i=j:=by
  refine (List.getElem_inj (h₀:=by simpa using hi) (h₁:=by simpa using hj) h2).1 ?_
  simp [hqi,hej,e2]
 subst this
 rw [hqi] at hej
 exact hne (by rw [hej])

theorem GX (K:aE E M w0) {M1:Own} {w1:World} {ops:Array Oper} {rem pend L:List Nat} {lag:List (Nat × Nat)} {z:Array Value} {k:List SI} {k':List Item} (hB:bk M w0 M1 w1) (hb:Dc ν F fr) (hret:F.ret=false) (hmode:fr.mode=.run) (htodo:fr.todo=.inRegion ops L::k')
  (hok:eB ops=true) (hn:rem.Nodup) (d:gG E ν M1 w1 ops rem pend lag L F.tm fr.tmps z) (st:vi E ν s ops pend z) (hk:qJ ν k k') (hr:HR ν M1 w1 s w) (hg:GR ν E) (hc:aN E ν M1 w1 cs0 (lag.map (·.2)) F.kind callers cs)
  (h:Ha E F callers s ops rem pend k=some Ls):Es E M w0 cs0 ν s.ob (lone fr cs w) Ls:=by
 unfold Ha at h
 dsimp only at h
 split at h
 ·-- one goes ahead of its jn
  rename_i i hfind
  have hi:=List.mem_of_find?_eq_some hfind
  have hp:=List.find?_some hfind
  rw [Bool.and_eq_true,Bool.and_eq_true] at hp
  split at h
  ·rename_i o ho
   cases hfr:lO E ops F.tm o s with
   | none=>rw [hfr] at h;cases h
   | some r=>
   obtain ⟨x,s1⟩:=r
   rw [hfr] at h;cases h
   obtain ⟨hsame,hob⟩:=d.float st hi hp.1.1 hp.1.2 ho hfr hr hg
   refine (Out.one fun ob=>?_:Out E M1 w1 cs0 ν s.ob (lone fr cs w) _).base hB
   obtain ⟨ob0,z',d',st'⟩:=hob ob
   exact ⟨ob0,ν,_,aA.Le.refl _,Steps.refl _ _,⟨_,_,w,_,rfl,hr.same hsame,hg,⟨⟨hb.fn,hb.defers,hb.kind,hb.ro⟩,fun _=>⟨hmode,by rw [htodo];exact .drw hok (hn.filter _) d' st' hk⟩,fun h=>(by
    have h:F.ret=true:=h
    rw [hret] at h;cases h)⟩,hc⟩⟩
  ·cases h
 ·split at h
  ·rename_i e hfind
   have he:e∈rem:=by
    rw [Option.or_eq_some_iff] at hfind
    rcases hfind with h1 | ⟨_,h1⟩ <;> exact List.mem_of_find?_eq_some h1
   revert h
   cases hall:(ready (Region.before ops) rem e&&rem.all fun j=>Nat.beq j e||((Region.before ops).getD j 0).testBit e||CT E ops (Region.before ops) F.tm j||rem.any fun i=>!Nat.beq i j&&((Region.before ops).getD j 0).testBit i&&!late E ops (Region.before ops) F.tm.nt i)
   ·intro h;cases h
   ·intro h
    simp only [cond_true] at h
    rw [Bool.and_eq_true] at hall
    obtain ⟨hready,hall⟩:=hall
    have hready:∀ j∈rem,((Region.before ops).getD e 0).testBit j=false:=fun j hj=>by simpa using List.all_eq_true.1 hready j hj
    have hsz:fr.tmps.size=F.tm.nt:=by rw [d.size];exact d.tm.size
    have hun:∀ j∈rem,j=e∨((Region.before ops).getD j 0).testBit e=true∨(late E ops (Region.before ops) F.tm.nt j=true∧∀ o,ops[j]?=some o→∃ r,fT E (ev z) o r)∨(∃ i∈rem,i≠j∧((Region.before ops).getD j 0).testBit i=true∧late E ops (Region.before ops) F.tm.nt i=false):=by
     intro j hj
     have h1:=List.all_eq_true.1 hall j hj
     rw [Bool.or_eq_true,Bool.or_eq_true,Bool.or_eq_true] at h1
     rcases h1 with ((h1 | h1) | h1) | h1
     ·exact .inl (Nat.eq_of_beq_eq_true h1)
     ·exact .inr (.inl h1)
     ·unfold CT at h1
      rw [Bool.and_eq_true] at h1
      refine .inr (.inr (.inl ⟨h1.1,fun o ho=>?_⟩))
      have h2:=h1.2
      rw [ho] at h2
      obtain ⟨so,hso⟩:=Option.isSome_iff_exists.1 h2
      obtain ⟨r,_,hrun,_⟩:=r9 hso (d.tm.He hg)
      exact ⟨r,hrun⟩
     ·obtain ⟨i,hi,h2⟩:=List.any_eq_true.1 h1
      rw [Bool.and_eq_true,Bool.and_eq_true] at h2
      refine .inr (.inr (.inr ⟨i,hi,fun e=>?_,h2.1.2,by simpa using h2.2⟩))
      subst e;simp at h2
    split at h
    ·rename_i o ho
     have hfr:fr=fr.atR ⟨fr.tmps,fr.defers⟩ (.inRegion ops L::k'):=by rw [← htodo];exact CD hmode
     by_cases hel:e∈lag.map (·.1)
     ·-- an allocation that the machine has carried out already
      obtain ⟨q,hq,rfl⟩:=List.mem_map.1 hel
      obtain ⟨e,B⟩:=q
      dsimp only at *
      obtain ⟨o1,t,r,g1,g2,g3,g4,g6,g7⟩:=d.lagged _ hq
      rw [ho] at g1;cases g1
      obtain ⟨o2,t2,g8,g9,g10,g11,g12,g13,_⟩:=ga g2
      rw [ho] at g8;cases g8
      unfold vb at h
      have hwant:wanted ops F.tm o E s=some (true,s):=by unfold wanted;rw [g10]
      rw [hwant] at h
      dsimp only at h
      obtain ⟨l0,hl0,_⟩:=Option.bind_eq_some_iff.1 h
      obtain ⟨so,hso⟩:=vL g9 hl0
      obtain ⟨r',g5,hrun',hsop⟩:=r9 hso (d.tm.He hg)
      obtain rfl:r'=r:=hrun'.one g4 w
      rw [hsop s] at h
      cases hnw:cC so s with
      | none=>rw [hnw] at h;cases h
      | some p=>
      obtain ⟨i,s2⟩:=p
      rw [hnw] at h
      simp only [Option.map_some,Option.bind_some,sf,after] at h
      unfold finish at h
      simp only [ho] at h
      revert h
      cases hu:unnamed ops (pend.filter fun p=>!(((Region.before ops).getD e 0).testBit p)) o
      ·intro h;cases h
      ·intro h
       simp only [cond_true] at h
       have hrm:s.room=true∧i=s.nx∧s2=s.new so:=by
        unfold cC at hnw
        cases hroom:s.room
        ·rw [hroom] at hnw;cases hnw
        ·rw [hroom] at hnw;cases hnw;exact ⟨rfl,rfl,rfl⟩
       obtain ⟨hroom,rfl,rfl⟩:=hrm
       cases hre:recheck E ops (putDst F.tm o (zC (mH o.op) s.nx)) (pend.filter fun p=>!(((Region.before ops).getD e 0).testBit p)) (s.new so) with
       | none=>rw [hre] at h;cases h
       | some s3=>
       rw [hre] at h
       simp only [Option.map_some,List.append_nil,Option.some.injEq] at h
       subst h
       obtain ⟨hle,oQ⟩:=hr.show g6 hroom g5
       have hg2:=hg.mono hle
       have hbl:=mU d.lagnd hc.nodup hq
       have d2:=d.zm hle hq ho hu (aA.aU _ _ _) hbl
       obtain ⟨hsame3,hob3⟩:=iJ oQ hg2 d2.tm oQ hre d2.free d2.pure
       have hc2:aN E (ν.put s.nx (B,0)) (M1.show B) w1 cs0 ((lag.filter fun q=>!Nat.beq q.1 e).map (·.2)) F.kind callers cs:=by
        refine (hc.mono hle).cy (fun b hb r' h'=>h'.show fun e'=>hb (List.mem_map.2 ⟨_,hq,e'.symm⟩)) fun x _ hnd=>?_
        exact hnd.sublist (List.Sublist.append (List.Sublist.map _ List.filter_sublist) (List.Sublist.refl _))
       refine ⟨_,List.mem_singleton.2 rfl,fun ob=>?_⟩
       obtain ⟨ob2,_⟩:=hob3 ob
       exact ⟨ob2,_,_,_,_,hle,Steps.refl _ _,hB.show g6,⟨_,_,w,_,rfl,oQ.same hsame3,hg2,⟨⟨hb.fn,hb.defers.mono hle,hb.kind,hb.ro.mono hle⟩,fun _=>⟨hmode,by
        rw [htodo]
        exact .drw hok (hn.filter _) d2 (fun M' w0' w' hr'=>((iJ (hr'.same hsame3.symm) hg2 d2.tm (hr'.same hsame3.symm) hre d2.free d2.pure).2 ob).2) (hk.mono hle)⟩,fun h=>(by
        have h:F.ret=true:=h
        rw [hret] at h;cases h)⟩,hc2⟩⟩
     ·obtain ⟨a',L',lag',M2,w2,w',hsteps,d2,oQ,hB2,hhid,l0,hl0,hnd0,hge⟩:=gG.reach hok he hun st hsz d hr hB hel (b:=fr) (df:=fr.defers) (k:=k') (cs:=cs)
      have d3:=d2.narrow he
      have hnd:(e::rem.filter fun j=>!Nat.beq j e).Nodup:=by
       refine List.nodup_cons.2 ⟨fun hm=>?_,hn.filter _⟩
       have:=(List.mem_filter.1 hm).2
       simp at this
      have hnl:qv ops lag' e:=fun q hq=>hready q.1 (d2.lagrem q hq)
      have hwait:dZ E ν M2 w2 (lag'.map (·.2)) { F with todo:=.drw ops (e::rem.filter fun j=>!Nat.beq j e) (pend.filter fun p=>!(((Region.before ops).getD e 0).testBit p))::k } (fr.atR ⟨a',fr.defers⟩ (.inRegion ops (e::L')::k')):=
       ⟨⟨hb.fn,hb.defers,hb.kind,hb.ro⟩,hret,rfl,.drw hok hnd d3 hnl hk⟩
      have hc2:aN E ν M2 w2 cs0 (lag'.map (·.2)) F.kind callers cs:=by
       refine hc.cy (fun b _ r' h'=>hhid b r' h') fun x hx hndx=>?_
       rw [hl0,List.append_assoc,List.nodup_append]
       refine ⟨hnd0,hndx,fun u hu v hv e'=>?_⟩
       have hbig:=hge u hu
       have hsmall:∃ r,cH M1 w1 v r:=by
        rcases List.mem_append.1 hv with hv | hv
        ·obtain ⟨q,hq,rfl⟩:=List.mem_map.1 hv
         obtain ⟨_,_,r,_,_,_,_,g,_⟩:=d.lagged q hq
         exact ⟨r,g⟩
        ·exact hx v hv
       obtain ⟨r,hr'⟩:=hsmall
       have:=(Array.getElem?_eq_some_iff.1 hr'.1).1
       omega
      obtain ⟨S',hm,hS⟩:=zo (K.cy hB2) hwait ho d3.tm (d3.Ik hnl ho) (d3.wanted hnl ho) hc2 oQ hg h
      refine ⟨S',hm,fun ob=>?_⟩
      obtain ⟨ob0,ν',m',hle,hst,hMR⟩:=hS ob
      refine ⟨ob0,ν',m',M2,w2,hle,?_,hB2,hMR⟩
      rw [hfr]
      exact Steps.trans hsteps hst
    ·cases h
  ·cases h

theorem AG {ops:Array Oper} {tm:dG} {a:Array Value} (hok:eB ops=true) (t:Nat) (ht:ia ν tm a):gG E ν M w0 ops (List.range ops.size) [] [] (Region.schedule true ops t) tm a a:=by
 have o:=vC hok t
 exact ⟨o.nodup,o.ord,o.irr,fun i hi=>(o.all i).1 hi,fun i hi=>.inl ((o.all i).2 (List.mem_range.1 hi)),fun i hi=>.inl (List.mem_range.2 ((o.all i).1 hi)),fun _ _ h=>(by cases h),fun _ h=>(by cases h),fun _ h=>(by cases h),ht,rfl,
  fun _ _ _=>rfl,fun _ h=>(by cases h),fun _ h=>(by cases h),fun _ h=>(by cases h),fun _ h=>(by cases h),fun _ h=>(by cases h),List.nodup_nil,fun _ h=>(by cases h)⟩

theorem BS {α:Type} {b:Bool} {x y:α} (h:b=true):(bif b then x else y)=x:=by rw [h];rfl
theorem AP {α:Type} {b:Bool} {x y:α} (h:b=false):(bif b then x else y)=y:=by rw [h];rfl

theorem Bu {M0:Own} {w00:World} (K0:aE E M0 w00) (B0:bk M0 w00 M w0) {S:SM} (hm:MR E M w0 cs0 ν S m) (h:zw E S=some Ls):Es E M0 w00 cs0 ν S.mem.ob m Ls:=by
 have K:=K0.cy B0
 obtain ⟨F,callers,s⟩:=S
 obtain ⟨fr,cs,w,hid,rfl,hr,hg,⟨hb,hrun,hret⟩,hc⟩:=hm
 dsimp only at hr hb hrun hret hc
 unfold zw at h
 dsimp only at h
 cases hF:F.ret
 case true=>
  rw [BS hF] at h
  obtain ⟨hmode,ht⟩:=hret hF
  exact (Hz K hb hF hmode ht hr hg hc.clear h).base B0
 case false=>
 rw [AP hF] at h
 obtain ⟨hmode,hR⟩:=hrun hF
 generalize hxs:F.todo=xs at h hR
 generalize htodo:fr.todo=ys at hR
 have hfr:fr=fr.atR ⟨fr.tmps,fr.defers⟩ ys:=by rw [← htodo];exact CD hmode
 have sw:∀ {m':Machine},step E.P (lone (fr.atR ⟨fr.tmps,fr.defers⟩ ys) cs w)=.next m'→Steps E.P (lone fr cs w) m':=fun h=>by rw [← hfr] at h;exact .one h
 cases hR with
 | drw hok hn d st hk=>
  rename_i ops rem pend L lag z k k'
  cases rem with
  | nil=>
   cases h
   refine (Out.one fun ob=>?_:Out E M w0 cs0 ν s.ob (lone fr cs w) _).base B0
   obtain ⟨a',hsteps,ht⟩:=d.xn (st _ _ _ hr) (b:=fr) (df:=fr.defers) (k:=k') (cs:=cs)
   rw [← hfr] at hsteps
   refine ⟨ob,ν,_,aA.Le.refl _,hsteps,⟨_,_,w,_,rfl,hr,hg,⟨⟨hb.fn,hb.defers,hb.kind,hb.ro⟩,fun _=>⟨rfl,.plain ht hk⟩,fun h=>(by
    have h:F.ret=true:=h
    rw [hF] at h;cases h)⟩,hc.clear⟩⟩
  | cons i rem=>exact GX K0 B0 hb hF hmode htodo hok hn d st hk hr hg hc h
 | plain ht hk=>
 refine Out.base B0 ?_
 have to:∀ {k:List SI} {k':List Item},step E.P (lone (fr.atR ⟨fr.tmps,fr.defers⟩ ys) cs w)=.next (lone (fr.atR ⟨fr.tmps,fr.defers⟩ k') cs w)→qJ ν k k'→
   some [({ top:={ F with todo:=k },callers,mem:=s }:SM)]=some Ls→Out E M w0 cs0 ν s.ob (lone fr cs w) Ls:=by
  intro k k' hs hk h
  cases h
  exact .one fun ob=>⟨ob,ν,_,aA.Le.refl _,sw hs,MR.to hr hg hb hF ht hc hk⟩
 have leave:∀ {jump:Option Code},(fr.roundOf=none→(jump=none∨jump=some .ret)→step E.P (lone (fr.atR ⟨fr.tmps,fr.defers⟩ ys) cs w)=.next (lone { fr.atR ⟨fr.tmps,fr.defers⟩ ys with mode:=.returning } cs w))→
   (∀ l v w' c cs',fr.roundOf=some l→fr.kind=.normal→(Instr.endRound l jump).run E.P w=.ok v w'→step E.P (lone (fr.atR ⟨fr.tmps,fr.defers⟩ ys) (c::cs') w)=.next (lone (c.finish v) cs' w'))→
   lk E F callers s jump=some Ls→Out E M w0 cs0 ν s.ob (lone fr cs w) Ls:=by
  intro jump h1 h2 h
  refine C4 hb hF hmode ht hr hg hc h (fun hro hj=>?_) (fun l v w' c cs' hl hkd hcs hrn=>?_)
  ·have:=h1 hro hj
   rw [← hfr] at this;exact this
  ·subst hcs
   have:=h2 l v w' c cs' hl hkd hrn
   rw [← hfr] at this;exact this
 cases hk with
 | nil=>exact leave (fun hro _=>stepR_end hro) (fun l v w' c cs' hl hkd hrn=>stepR_round_end hl hkd hrn) h
 | cons hx hk=>
  rename_i k k'
  cases hx with
  | inBlock id=>exact to stepR_inBlock hk h
  | inLoop c=>exact to stepR_inLoop (.cons (.code c) (.cons (.inLoop c) hk)) h
  | inScope c=>exact to (step_lone_go (by simp [stepG,stepG.exec,Frame.atR])) hk h
  | reg ops is=>
   cases is with
   | nil=>exact to stepR_region_end hk h
   | cons i rest=>
    dsimp only at h
    split at h
    ·cases h
    ·rename_i o ho
     have hwait:dZ E ν M w0 [] F (fr.atR ⟨fr.tmps,fr.defers⟩ (.inRegion ops (i::rest)::k')):=⟨⟨hb.fn,hb.defers,hb.kind,hb.ro⟩,hF,rfl,by rw [hxs];exact .plain ht (.cons (.reg ops _) hk)⟩
     have:=zo K hwait ho ht (fun _ _=>rfl) rfl hc hr hg h
     rw [← hfr] at this;exact this
  | inRF e=>cases h
  | endRF e=>
   rename_i ie be
   dsimp only at h
   split at h
   ·rename_i st jump fn tm params assign body df hlook
    obtain ⟨_,_,b',o,hb',ho,hor,_⟩:=hr.look hlook
    rw [e] at hb';cases hb'
    obtain ⟨t,b2,hb2,htm,rfl⟩:=hor
    have key:st≠.busy→some [({ top:={ F with todo:=(jump.map SI.code).toList++k },callers,mem:=s.put ie (.loop .exhausted jump fn tm params assign body df) }:SM)]=some Ls→Out E M w0 cs0 ν s.ob (lone fr cs w) Ls:=by
     intro hst h
     cases h
     have hst':(st==LoopState.busy)=false:=by cases st <;> first | rfl | exact absurd rfl hst
     have hrn:(Instr.endLoop be.1).run E.P w=.ok jump { w with heap:=w.heap.setIfInBounds be.1 (.loop { state:=.exhausted,pending:=jump,fn,tmps:=t,params:=params.toArray,assign,body,defers:=b2.1 }) }:=by
      simp only [Instr.endLoop,Sem.run_bind,run_getLoop ho,Result.andThen_ok,hst',Bool.false_eq_true,if_false,fp (P:=E.P) ho (by intro c e f;exact fun h=>by cases h),Sem.run_pure]
     have hr':=hr.put hlook e (o:=.loop .exhausted jump fn tm params assign body df) ⟨t,b2,hb2,htm,rfl⟩ rfl rfl rfl rfl (w':={ w with heap:=w.heap.setIfInBounds be.1 (.loop { state:=.exhausted,pending:=jump,fn,tmps:=t,params:=params.toArray,assign,body,defers:=b2.1 }) })
     have hs:step E.P (lone (fr.atR ⟨fr.tmps,fr.defers⟩ (.endRangeFunc be.1::k')) cs w)=.next (lone (fr.atR ⟨fr.tmps,fr.defers⟩ ((jump.map Item.code).toList++k')) cs _):=
      step_lone_go (by simp [stepG,stepG.exec,Frame.atR,Sem.runT_eq,hrn];rfl)
     have hks:qJ ν ((jump.map SI.code).toList++k) ((jump.map Item.code).toList++k'):=by
      cases jump with
      | none=>exact hk
      | some c=>exact .cons (.code c) hk
     exact .one fun ob=>⟨ob,ν,_,aA.Le.refl _,sw hs,MR.to hr' hg hb hF ht hc hks⟩
    split at h
    ·cases h
    ·rename_i hne
     exact key (fun e=>hne e) h
   ·cases h
  | beginRound=>
   dsimp only at h
   split at h
   ·rename_i i hro
    split at h
    ·rename_i p fn tm params assign body df hlook
     cases h
     have hro':=hb.ro
     rw [hro] at hro'
     obtain ⟨b,hbi,hrou⟩:=hro'
     obtain ⟨_,_,b',o,hb',ho,hor,_⟩:=hr.look hlook
     rw [hbi] at hb';cases hb'
     obtain ⟨t,b2,hb2,htm,rfl⟩:=hor
     have hrn:(Instr.beginRound b.1).run E.P w=.ok () { w with heap:=w.heap.setIfInBounds b.1 (.loop { state:=.busy,pending:=p,fn,tmps:=t,params:=params.toArray,assign,body,defers:=b2.1 }) }:=by
      simp only [Instr.beginRound,Sem.run_bind,run_getLoop ho,Result.andThen_ok,fp (P:=E.P) ho (by intro c e f;exact fun h=>by cases h),Sem.run_pure]
     have hr':=hr.put hlook hbi (o:=.loop .busy p fn tm params assign body df) ⟨t,b2,hb2,htm,rfl⟩ rfl rfl rfl rfl (w':={ w with heap:=w.heap.setIfInBounds b.1 (.loop { state:=.busy,pending:=p,fn,tmps:=t,params:=params.toArray,assign,body,defers:=b2.1 }) })
     exact .one fun ob=>⟨ob,ν,_,aA.Le.refl _,sw (stepR_beginRound hrou hrn),MR.to hr' hg hb hF ht hc hk⟩
    ·cases h
   ·cases h
  | code c=>
   cases c with
   | skip=>exact to stepR_skip hk h
   | label l=>exact to stepR_label hk h
   | seq a b=>exact to stepR_seq (.cons (.code a) (.cons (.code b) hk)) h
   | cond c a b=>
    dsimp only at h
    split at h
    ·rename_i t hev
     cases h
     obtain ⟨hsame,hob⟩:=SH.dR (s:=s) (E:=E) (b:=t) (t:=(s.dec E t).1) (s':=(s.dec E t).2) rfl
     have hv:=(ht.He hg) c
     rw [hev] at hv
     have hv:ev fr.tmps c=.bool t:=VR.ab.1 hv
     refine .one fun ob=>?_
     obtain ⟨ob0,hb1⟩:=hob ob
     have hs:=stepR_cond (P:=E.P) (b:=fr) (a:=⟨fr.tmps,fr.defers⟩) (k:=k') (cs:=cs) (w:=w) (c:=c) (x:=a) (y:=b) (t:=t) (by rw [Act.lW];exact hv)
     refine ⟨ob0,ν,_,aA.Le.refl _,sw hs,MR.to (hr.same hsame) hg hb hF ht hc ?_⟩
     rw [← hb1]
     cases t
     ·exact .cons (.code b) hk
     ·exact .cons (.code a) hk
    ·cases h
   | block id c=>exact to stepR_block (.cons (.code c) (.cons (.inBlock id) hk)) h
   | loop c=>exact to stepR_loop (.cons (.code c) (.cons (.inLoop c) hk)) h
   | scope c=>exact to (step_lone_go (by simp [stepG,stepG.exec,Frame.atR])) (.cons (.code c) (.cons (.inScope c) hk)) h
   | exit id=>
    dsimp only at h
    obtain ⟨HT,wY⟩:=Bb hk id
    split at h
    ·rename_i k1 hx
     obtain ⟨y,hy,hky⟩:=HT _ hx
     exact to (stepR_exit hy) hky h
    ·rename_i hx
     exact leave (fun _ hj=>by rcases hj with hj | hj <;> cases hj) (fun l v w' c cs' hl hkd hrn=>stepR_round_exit hl hkd (wY hx) hrn) h
   | goto l=>
    dsimp only at h
    obtain ⟨HT,wY⟩:=AY hk l
    split at h
    ·rename_i k1 hx
     obtain ⟨y,hy,hky⟩:=HT _ hx
     exact to (stepR_goto hy) hky h
    ·rename_i hx
     exact leave (fun _ hj=>by rcases hj with hj | hj <;> cases hj) (fun l v w' c cs' hl hkd hrn=>stepR_round_goto hl hkd (wY hx) hrn) h
   | ret=>exact leave (fun hro _=>stepR_ret hro) (fun l v w' c cs' hl hkd hrn=>stepR_round_ret hl hkd hrn) h
   | rangeFunc f params assign body=>exact Bt K hb hF hmode ht hk htodo hr hg hc h
   | refuse why=>cases h
   | region id ops draw=>
    dsimp only at h
    cases draw
    ·exact to stepR_region (.cons (.reg ops _) hk) h
    ·simp only [cond_true] at h
     cases hok:eB ops
     ·rw [hok] at h;cases h
     ·rw [hok] at h
      cases h
      have hs:=stepR_region_draw (P:=E.P) (b:=fr) (a:=⟨fr.tmps,fr.defers⟩) (k:=k') (cs:=cs) (w:=w) (ops:=ops) (id:=id)
      rw [K.mixed] at hs
      exact .one fun ob=>⟨ob,ν,_,aA.Le.refl _,sw hs,⟨_,_,_,_,rfl,hr.drawn _,hg,⟨⟨hb.fn,hb.defers,hb.kind,hb.ro⟩,fun _=>⟨rfl,.drw hok List.nodup_range (AG hok _ ht) (fun _ _ _ _ p hp=>by cases hp) hk⟩,fun h=>(by
       have h:F.ret=true:=h
       rw [hF] at h;cases h)⟩,hc⟩⟩

end
section
variable {E:Env} {ν:aA} {M:Own} {w0 w:World} {s s':SH} {hid:List Nat}

theorem HR.Bv (h:HR ν M w0 s w) (l:List Prop):HR ν M w0 { s with obl:=l } w:=⟨h.full,h.dom,h.fresh,h.obj,h.inj,h.size,h.frame,h.ro,h.os,h.tape,h.output⟩

theorem MR.Bv {cs0:List Frame} {S:SM} {m:Machine} (h:MR E M w0 cs0 ν S m) (l:List Prop):MR E M w0 cs0 ν { S with mem:={ S.mem with obl:=l } } m:=by
 obtain ⟨fr,cs,w,hl,hm,hr,hg,⟨h1,h2,h3⟩,hc⟩:=h
 refine ⟨fr,cs,w,hl,hm,hr.Bv l,hg,⟨h1,fun hf=>⟨(h2 hf).1,?_⟩,h3⟩,hc⟩
 have:=(h2 hf).2
 revert this
 generalize S.top.todo=xs
 generalize fr.todo=ys
 intro this
 cases this with
 | plain ht hk=>exact .plain ht hk
 | drw hok hn d st hk=>exact .drw hok hn d (fun M' w0' w' hr'=>st M' w0' w' (hr'.Bv S.mem.obl)) hk

theorem qW {S:SM} {Ls:List SM} (h:jm E S=some Ls):∃ l,zw E { S with mem:={ S.mem with obl:=[] } }=some l∧l≠[]∧Ls=l.map fun T=>{ T with mem:={ T.mem with obl:=T.mem.obl++S.mem.obl } }:=by
 unfold jm at h
 split at h
 ·cases h
 ·rename_i T hT;cases h;exact ⟨[T],hT,by simp,rfl⟩
 ·rename_i l hn _ hl;cases h;exact ⟨l,hl,fun e=>hn e,rfl⟩
 ·cases h

theorem p7 {S:SM} {Ls:List SM} (h:jm E S=some Ls):Ls≠[]∧∀ T∈Ls,T.mem.ob→S.mem.ob:=by
 obtain ⟨l,_,hn,rfl⟩:=qW h
 refine ⟨fun e=>hn (List.map_eq_nil_iff.1 e),fun T hT ob=>?_⟩
 obtain ⟨U,_,rfl⟩:=List.mem_map.1 hT
 exact (af.append ob).2

theorem vp {M0:Own} {w00:World} (K:aE E M0 w00) (B0:bk M0 w00 M w0) {cs0:List Frame} {S:SM} {Ls:List SM} {m:Machine} (hm:MR E M w0 cs0 ν S m) (h:jm E S=some Ls):Es E M0 w00 cs0 ν S.mem.ob m Ls:=by
 obtain ⟨l,hl,_,rfl⟩:=qW h
 obtain ⟨T,hT,hS⟩:=Bu K B0 (hm.Bv []) hl
 refine ⟨_,List.mem_map.2 ⟨T,hT,rfl⟩,fun ob=>?_⟩
 obtain ⟨o1,o2⟩:=af.append ob
 obtain ⟨_,ν',m',M1,w1,hle,hst,hB,hMR⟩:=hS o1
 exact ⟨o2,ν',m',M1,w1,hle,hst,hB,hMR.Bv _⟩

theorem Ct {stop:SM→Bool}:∀ {n:Nat} {work done Ls:List SM},run E stop n work done=some Ls→(∀ S∈done,S∈Ls)∧∀ S∈work,∃ S'∈Ls,S'.mem.ob→S.mem.ob:=by
 intro n
 induction n with
 | zero=>
  intro work done Ls h
  cases work with
  | nil=>cases h;exact ⟨fun _ hS=>hS,fun _ hS=>by cases hS⟩
  | cons S work=>cases h
 | succ n ih=>
  intro work done Ls h
  cases work with
  | nil=>cases h;exact ⟨fun _ hS=>hS,fun _ hS=>by cases hS⟩
  | cons S work=>
   unfold run at h
   cases hst:stop S
   ·rw [hst] at h
    simp only [cond_false] at h
    have key:∀ {l:List SM},jm E S=some l→run E stop n (l++work) done=some Ls→(∀ S∈done,S∈Ls)∧∀ T∈S::work,∃ S'∈Ls,S'.mem.ob→T.mem.ob:=by
     intro l hl h
     obtain ⟨h1,h2⟩:=ih h
     refine ⟨h1,fun T hT=>?_⟩
     rcases List.mem_cons.1 hT with rfl | hT
     ·obtain ⟨hne,hmono⟩:=p7 hl
      obtain ⟨U,l',rfl⟩:=List.exists_cons_of_ne_nil hne
      obtain ⟨S',hS',ho⟩:=h2 U (List.mem_append_left _ List.mem_cons_self)
      exact ⟨S',hS',fun ob=>hmono U List.mem_cons_self (ho ob)⟩
     ·exact h2 T (List.mem_append_right _ hT)
    split at h
    ·cases h
    ·rename_i S' hs;exact key hs h
    ·rename_i l _ hs;exact key hs h
   ·rw [hst] at h
    simp only [cond_true] at h
    obtain ⟨h1,h2⟩:=ih h
    refine ⟨fun T hT=>h1 T (List.mem_cons_of_mem _ hT),fun T hT=>?_⟩
    rcases List.mem_cons.1 hT with rfl | hT
    ·exact ⟨T,h1 T List.mem_cons_self,id⟩
    ·exact h2 T hT

theorem fJ {tm:dG}:∀ {l:List ResultVar} {s s':SH} {r:List SV},cu.go E tm l s=some (r,s')→s'.ob→s.ob
 | [],_,_,_,h=>by cases h;exact id
 | .tmp t::l,s,s',r,h=>by
  unfold cu.go at h
  cases hg:cu.go E tm l s with
  | none=>rw [hg] at h;cases h
  | some q=>obtain ⟨r1,s1⟩:=q;rw [hg] at h;cases h;exact fJ hg
 | .cell a t::l,s,s',r,h=>by
  unfold cu.go at h
  cases hl:gJ E t (tm.get a) s with
  | none=>rw [hl] at h;cases h
  | some q0=>
  obtain ⟨x,s1⟩:=q0
  rw [hl] at h
  simp only at h
  cases hg:cu.go E tm l s1 with
  | none=>rw [hg] at h;cases h
  | some q=>obtain ⟨r1,s2⟩:=q;rw [hg] at h;cases h;exact fun ob=>gu hl (fJ hg ob)

theorem kN {fn:Func} {tm:dG} {x:SV} (h:cu E fn tm s=some (x,s')):s'.ob→s.ob:=by
 unfold cu at h
 cases hg:cu.go E tm fn.results.toList s with
 | none=>rw [hg] at h;cases h
 | some q=>
 obtain ⟨l,s1⟩:=q
 rw [hg] at h
 simp only [Option.bind_some] at h
 have:=fJ hg
 split at h <;> (cases h;exact this)

theorem CO (K:aE E M w0) {stop:SM→Bool} {cs0:List Frame}:∀ {n:Nat} {work done Ls:List SM},run E stop n work done=some Ls→
  (∀ S∈done,S∈Ls)∧(∀ S∈Ls,S∈done∨stop S=true)∧∀ S∈work,∀ ν m M1 w1,bk M w0 M1 w1→MR E M1 w1 cs0 ν S m→∃ S'∈Ls,(S'.mem.ob→S.mem.ob∧∃ ν' m' M2 w2,ν.Le ν'∧Steps E.P m m'∧bk M w0 M2 w2∧MR E M2 w2 cs0 ν' S' m'):=by
 intro n
 induction n with
 | zero=>
  intro work done Ls h
  cases work with
  | nil=>cases h;exact ⟨fun _ hS=>hS,fun _ hS=>.inl hS,fun _ hS=>by cases hS⟩
  | cons S work=>cases h
 | succ n ih=>
  intro work done Ls h
  cases work with
  | nil=>cases h;exact ⟨fun _ hS=>hS,fun _ hS=>.inl hS,fun _ hS=>by cases hS⟩
  | cons S work=>
   unfold run at h
   cases hst:stop S
   ·rw [hst] at h
    simp only [cond_false] at h
    have key:∀ {l:List SM},jm E S=some l→run E stop n (l++work) done=some Ls→
      (∀ S∈done,S∈Ls)∧(∀ S∈Ls,S∈done∨stop S=true)∧∀ T∈S::work,∀ ν m M1 w1,bk M w0 M1 w1→MR E M1 w1 cs0 ν T m→∃ S'∈Ls,(S'.mem.ob→T.mem.ob∧∃ ν' m' M2 w2,ν.Le ν'∧Steps E.P m m'∧bk M w0 M2 w2∧MR E M2 w2 cs0 ν' S' m'):=by
     intro l hl hrun
     obtain ⟨h1,h2,h3⟩:=ih hrun
     refine ⟨h1,h2,fun T hT ν m M1 w1 hB hm=>?_⟩
     rcases List.mem_cons.1 hT with rfl | hT
     ·obtain ⟨S1,hS1,hS⟩:=vp K hB hm hl
      by_cases hob:S1.mem.ob
      ·obtain ⟨ob0,ν1,m1,M2,w2,hle,hst1,hB2,hm1⟩:=hS hob
       obtain ⟨S',hS',hS2⟩:=h3 S1 (List.mem_append_left _ hS1) ν1 m1 M2 w2 hB2 hm1
       refine ⟨S',hS',fun ob=>?_⟩
       obtain ⟨_,ν2,m2,M3,w3,hle2,hst2,hB3,hm2⟩:=hS2 ob
       exact ⟨ob0,ν2,m2,M3,w3,hle.trans hle2,Steps.trans hst1 hst2,hB3,hm2⟩
      ·obtain ⟨S',hS',ho⟩:=(Ct hrun).2 S1 (List.mem_append_left _ hS1)
       exact ⟨S',hS',fun ob=>absurd (ho ob) hob⟩
     ·exact h3 T (List.mem_append_right _ hT) ν m M1 w1 hB hm
    split at h
    ·cases h
    ·rename_i S' hs
     exact key hs h
    ·rename_i l _ hs
     exact key hs h
   ·rw [hst] at h
    simp only [cond_true] at h
    obtain ⟨h1,h2,h3⟩:=ih h
    refine ⟨fun T hT=>h1 T (List.mem_cons_of_mem _ hT),fun T hT=>?_,fun T hT ν m M1 w1 hB hm=>?_⟩
    ·rcases h2 T hT with h | h
     ·rcases List.mem_cons.1 h with rfl | h
      ·exact .inr hst
      ·exact .inl h
     ·exact .inr h
    ·rcases List.mem_cons.1 hT with rfl | hT
     ·exact ⟨T,h1 T List.mem_cons_self,fun ob=>⟨ob,ν,m,M1,w1,aA.Le.refl _,Steps.refl _ _,hB,hm⟩⟩
     ·exact h3 T hT ν m M1 w1 hB hm

def aS (E:Env) (f:FuncId) (args:List SV) (s:SH):Option SM:=(aP E f args .normal).map fun G=>{ top:=G,callers:=[],mem:=s }

def nk (E:Env) (f:FuncId) (S:SM):Option (SV × SH):=
 bif S.over&&Nat.beq S.top.fn f then match E.P.funcs[f]? with
  | some fn=>cu E fn S.top.tm S.mem
  | none=>none
 else none

theorem BZ (K:aE E M w0) {f:FuncId} {args:List SV} {a:List Value} {s0:SH} {S0:SM} {n:Nat} {Ls:List SM} {R:Ending→World→Prop} (hS0:aS E f args s0=some S0)
  (hrun:run E SM.over n [S0] []=some Ls) (hr:HR ν M w0 s0 w) (hro:∀ b,M.r b→b<w0.heap.size) (hh:∀ b,¬ M.h b) (hg:GR ν E) (ha:aj ν args a)
  (hres:∀ S'∈Ls,∃ x s',nk E f S'=some (x,s')∧s'.ob∧∀ ν' w' v,ν.Le ν'→VR ν' x v→HR ν' M w0 s' w'→GR ν' E→R (.returned v) w'):
  Calls E.P f a.toArray w R:=by
 intro cs0
 unfold aS at hS0
 cases hG:aP E f args .normal with
 | none=>rw [hG] at hS0;cases hS0
 | some G=>
 rw [hG] at hS0;cases hS0
 obtain ⟨htop,hkind,_⟩:=j9 (E:=E) hG ha _
 have hm:MR E M w0 cs0 ν { top:=G,callers:=[],mem:=s0 } (lone (Frame.enter E.P f a.toArray .normal) cs0 w):=
  ⟨_,_,w,[],rfl,hr,hg,htop,by show aN E ν M w0 cs0 [] G.kind [] cs0;rw [hkind];exact .nil List.nodup_nil⟩
 obtain ⟨_,_,h3⟩:=CO (M:=M) (w0:=w0) (cs0:=cs0) K hrun
 obtain ⟨S',hS',hS⟩:=h3 _ (List.mem_singleton.2 rfl) ν _ M w0 (bk.refl hro hh) hm
 obtain ⟨x,s',hend,hob,hR⟩:=hres S' hS'
 unfold nk at hend
 cases hov:(S'.over&&Nat.beq S'.top.fn f)
 ·rw [hov] at hend;cases hend
 ·rw [hov] at hend
  simp only [cond_true] at hend
  rw [Bool.and_eq_true] at hov
  obtain ⟨hov,hfn⟩:=hov
  have hfn:=Nat.eq_of_beq_eq_true hfn
  unfold SM.over at hov
  rw [Bool.and_eq_true,Bool.and_eq_true] at hov
  obtain ⟨⟨hcal,hret⟩,hdef⟩:=hov
  split at hend
  ·rename_i fn hf
   obtain ⟨ob0,ht⟩:S'.mem.ob∧True:=⟨kN hend hob,trivial⟩
   obtain ⟨_,ν',m',M2,w2,hle,hsteps,hB,⟨fr,cs,w',hl,rfl,hr',hg',htop',hc'⟩⟩:=hS ob0
   obtain ⟨hmode,htm⟩:=htop'.ret hret
   obtain ⟨hsame,hobr⟩:=ly (E:=E) htm hr' hend
   obtain ⟨_,v,hv,hvr⟩:=hobr hob
   have hcs:S'.callers=[]:=List.isEmpty_iff.1 hcal
   rw [hcs] at hc'
   have hk:S'.top.kind=.normal∧cs=cs0:=by
    generalize hkk:S'.top.kind=kk at hc'
    cases hc' with
    | nil _=>exact ⟨rfl,rfl⟩
   obtain ⟨hk,rfl⟩:=hk
   have hd:=htop'.base.defers
   rw [List.isEmpty_iff.1 hdef] at hd
   refine ⟨.returned v,w',fr,hR ν' w' v hle hvr ((hr'.uN hB).same hsame) hg',hsteps,by rw [htop'.base.fn];exact hfn,hmode,hd,by rw [htop'.base.kind];exact hk,fn,?_,hv⟩
   rw [htop'.base.fn,hfn];exact hf
  ·cases hend
end
section
variable {E:Env} {ν:aA} {M:Own} {w0 w:World} {s s':SH}

def F9:tG→Option (Array Value→Sem Value)
 | .same=>some Extern.AbiNoEscape.same
 | .pure f=>some f
 | .makeNoZero ps t=>some (Extern.BytealgMakeNoZero.makeNoZero ps #[t])
 | .mapsClone=>some Extern.MapsClone.clone
 | .typeOf=>some Extern.ReflectliteType.typeOf
 | .valueOf=>some fun args=>Extern.ReflectliteValue.unpack (args.getD 0 (.tuple #[]))
 | .valType => some (Extern.ReflectliteValue.methodAny (Extern.ReflectliteValue.valueError "reflectlite.Value.Type" 0) fun t _ _ _ => Extern.ReflectliteType.toType t)
 | .valIsNil => some (Extern.ReflectliteValue.method (Extern.ReflectliteValue.valueError "reflectlite.Value.IsNil" 0) Extern.ReflectliteValue.isNil)
 | .valElem => some (Extern.ReflectliteValue.method (Extern.ReflectliteValue.valueError "reflectlite.Value.Elem" 0) Extern.ReflectliteValue.elem)
 | .valSet=>some Extern.ReflectliteValue.set

theorem wh:∀ (x:SV) (y v:Value),whole x=some v→VR ν x y→y=v
 | .v _,_,_,h,hv=>by simp only [whole,Option.some.injEq] at h;rw [VR.ab.1 hv,h]
 | .iface t x,_,_,h,hv=>by
  obtain ⟨z,rfl,hz⟩:=VR.aK.1 hv
  simp only [whole,Option.map_eq_some_iff] at h
  obtain ⟨u,hu,rfl⟩:=h
  rw [wh x z u hu hz]
 | .aM,_,_,h,_=>by simp [whole] at h
 | .ptr _ _,_,_,h,_=>by simp [whole] at h
 | .sl _ _ _ _,_,_,h,_=>by simp [whole] at h
 | .map _,_,_,h,_=>by simp [whole] at h
 | .agg _,_,_,h,_=>by simp [whole] at h
 | .tup _,_,_,h,_=>by simp [whole] at h
 | .func _ _ _,_,_,h,_=>by simp [whole] at h
 | .yield _,_,_,h,_=>by simp [whole] at h

theorem sa:∀ {l:List SV} {a b:List Value},tC l=some a→aj ν l b→b=a
 | [],_,_,h,hv=>by cases h;exact hv.aq
 | x::xs,_,_,h,hv=>by
  obtain ⟨y,ys,rfl,hy,hys⟩:=hv.cons_inv
  unfold tC at h
  split at h
  ·rename_i u l hu hl
   cases h
   rw [wh x y u hu hy,sa hl hys]
  ·cases h

theorem wF (h:Value) (a:Addr) (f:Int) (hf:f≠0):Extern.ReflectliteValue.partsAny (.agg #[h,.pointer (some a),.int .u64 f])=(do pure (some (← Extern.Rtype.ofHandle h,a,f.toNat))):=by
 match f,hf with
 | .ofNat 0,hf=>exact absurd rfl hf
 | .ofNat (n+1),_=>rfl
 | .negSucc n,_=>rfl

theorem CY (t:TypeId) (r:Nat):Extern.MapsClone.clone #[.iface t (.map (some r))]=(getObj r >>= fun o=>match o with
  | .map entries clock=>newObj (.map entries clock) >>= fun r'=>pure (.iface t (.map (some r')))
  | _ => stuck "maps.clone: a map expected") := rfl

theorem nI (zero:Sem Value) (f:TypeId→Addr→Nat→Nat→Sem Value) (v:Value):Extern.ReflectliteValue.method zero f #[v]=(Extern.ReflectliteValue.parts v >>= fun p=>match p with
  | none=>zero
  | some (t,a,fl)=>f t a fl (fl % 32)):=rfl

theorem tD (zero:Sem Value) (f:TypeId→Addr→Nat→Nat→Sem Value) (v:Value):Extern.ReflectliteValue.methodAny zero f #[v]=(Extern.ReflectliteValue.partsAny v >>= fun p=>match p with
  | none=>zero
  | some (t,a,fl)=>f t a fl (fl % 32)):=rfl

theorem Hj (v x:Value):∃ g:Option (TypeId × Addr × Nat)→Option (TypeId × Addr × Nat)→Sem Value,Extern.ReflectliteValue.set #[v,x]=(Extern.ReflectliteValue.parts v >>= fun p=>Extern.ReflectliteValue.parts x >>= fun q=>g p q)∧
  ∀ dst a fl src b fb,g (some (dst,a,fl)) (some (src,b,fb))=(do
   if fl / Extern.ReflectliteValue.flagAddr % 2 == 0 then unsupported (.noEntry "extern/(internal/reflectlite.Value).Set.unaddressable")
   let val ← loadVar src b
   if ← Extern.Rtype.directlyAssignable dst src then storeVar dst a val
   else if ← Extern.Rtype.implements dst src then
    if (← Extern.Rtype.kind src)==20 then
     match val with
     | .nilIface => unsupported (.noEntry "extern/reflectlite: a nil value of one interface type handed on as a value of another")
     | _=>storeVar dst a val
    else storeVar dst a (.iface src val)
   else panicString ("reflectlite.Set: value of type " ++ (← Extern.Rtype.spelt src) ++ " is not assignable to type " ++ (← Extern.Rtype.spelt dst))
   pure (.tuple #[])):=by
 refine ⟨_,rfl,fun dst a fl src b fb=>rfl⟩

theorem pG {x:SV} {y:Value} {r:TypeId × Nat × Nat × Nat} (h:pe E x=some r) (hv:VR ν x y):
  ∃ b,ν r.2.1=some b∧∀ w,(Extern.ReflectliteValue.partsAny y).run E.P w=.ok (some (r.1,⟨b.1,r.2.2.1,none⟩,r.2.2.2)) w:=by
 unfold pe at h
 split at h
 ·rename_i hh i off f
  revert h
  cases hf:decide (f=0)
  ·intro h
   simp only [cond_false] at h
   obtain ⟨t,ht,rfl⟩:=Option.map_eq_some_iff.1 h
   obtain ⟨a,rfl,ha⟩:=VR.aW.1 hv
   obtain ⟨y1,ys,rfl,h1,ha⟩:=ha.cons_inv
   obtain ⟨y2,ys,rfl,h2,ha⟩:=ha.cons_inv
   obtain ⟨y3,ys,rfl,h3,ha⟩:=ha.cons_inv
   obtain rfl:=ha.aq
   obtain rfl:=VR.ab.1 h1
   obtain ⟨b,hb,rfl⟩:=VR.aw.1 h2
   obtain rfl:=VR.ab.1 h3
   have hf:f≠0:=of_decide_eq_false hf
   refine ⟨b,hb,fun w=>?_⟩
   rw [show ([y1,Value.pointer (some ⟨b.1,off,none⟩),Value.int .u64 f]:List Value).toArray=#[y1,.pointer (some ⟨b.1,off,none⟩),.int .u64 f] from rfl,wF _ _ _ hf]
   simp [ch ht w]
  ·intro h;cases h
 ·cases h

theorem gI {x:SV} {y:Value} {r:TypeId × Nat × Nat × Nat} (h:iw E x=some r) (hv:VR ν x y):
  ∃ b,ν r.2.1=some b∧∀ w,(Extern.ReflectliteValue.parts y).run E.P w=.ok (some (r.1,⟨b.1,r.2.2.1,none⟩,r.2.2.2)) w:=by
 unfold iw at h
 obtain ⟨q,hq,h⟩:=Option.bind_eq_some_iff.1 h
 obtain ⟨u,hu,rfl⟩:=Option.map_eq_some_iff.1 h
 obtain ⟨b,hb,hrun⟩:=pG hq hv
 exact ⟨b,hb,fun w=>by simp [Extern.ReflectliteValue.parts,hrun w,ch hu w]⟩

theorem rY {t:TypeId} {i off fl:Nat} {x:SV} {b:Nat × Nat} (h:tK E t i off fl=some x) (hb:ν i=some b):
  ∃ y,VR ν x y∧∀ w,(Extern.ReflectliteValue.mk t ⟨b.1,off,none⟩ fl).run E.P w=.ok y w:=by
 unfold tK at h
 obtain ⟨hd,hh,h⟩:=Option.bind_eq_some_iff.1 h
 obtain ⟨k,hk,rfl⟩:=Option.map_eq_some_iff.1 h
 refine ⟨.agg [hd,.pointer (some ⟨b.1,off,none⟩),.int .u64 (Int.ofNat (k+128+fl))].toArray,VR.aW.2 ⟨_,rfl,aj.cons (VR.ab.2 rfl) (aj.cons (VR.aw.2 ⟨b,hb,rfl⟩) (aj.cons (VR.ab.2 rfl) aj.nil))⟩,fun w=>?_⟩
 simp [Extern.ReflectliteValue.mk,ch hh w,ch hk w,Extern.ReflectliteValue.flagIndir]

theorem FB {n:Nat} (h:Nat.beq (n % 32) 22=true):n % 32=22:=Nat.eq_of_beq_eq_true h

theorem qF {t:TypeId} {i off:Nat} {x:SV} {b:Nat × Nat} (h:gJ E t (.ptr i off) s=some (x,s')) (hr:HR ν M w0 s w) (hb:ν i=some b):
  s.cb s'∧(s'.ob→s.ob∧∃ y,(loadVar t ⟨b.1,off,none⟩).run E.P w=.ok y w∧VR ν x y):=by
 obtain ⟨h1,h2⟩:=lU h hr (VR.aw.2 ⟨b,hb,rfl⟩)
 refine ⟨h1,fun ob=>?_⟩
 obtain ⟨o,y,hy,hv⟩:=h2 ob
 refine ⟨o,y,?_,hv⟩
 simpa [Instr.loadAt,Instr.sureAddr] using hy

theorem oq:∀ (n t:Nat) (acc:Array Value),(Extern.BytealgMakeNoZero.digits n t acc).size=acc.size+n
 | 0,_,_=>rfl
 | n+1,t,acc=>by rw [Extern.BytealgMakeNoZero.digits,oq n];simp;omega
theorem FT (ν:aA):∀ (n:Nat) (l:List Value),l.length=n→aj ν (List.replicate n .aM) l
 | 0,l,h=>by rw [List.length_eq_zero_iff.1 h];exact aj.nil
 | n+1,y::l,h=>aj.cons (by rw [VR];trivial) (FT ν n l (by simpa using h))
 | _+1,[],h=>by simp at h
def B9 (n:Int) (elem:TypeId):Sem Value:=do
 if n < 0 || n > 2 ^ 48 then runtimePanic (.error "makeslice: len out of range")
 let cap ← choose (.appendCap n.toNat 0 elem)
 askRoom cap
 let bytes ← choose (.extern "internal/bytealg.MakeNoZero.bytes" 0)
 let a ← newRow elem (Extern.BytealgMakeNoZero.digits cap bytes #[])
 pure (.slice (some a) n.toNat cap)
theorem rX (ps:Array TypeId) (t:TypeId) (n:Int):∃ g:TypeDesc→Sem Value,Extern.BytealgMakeNoZero.makeNoZero ps #[t] #[.int .i64 n]=(underlying t >>= g)∧∀ e,g (.slice e)=B9 n e:=⟨_,rfl,fun _=>rfl⟩
theorem rO {ps:Array TypeId} {t elem:TypeId} {n:Int} {i:Nat} {s1:SH} (ht:aZ E t=some (.slice elem)) (hn:0≤n∧n≤2 ^ 40)
  (h:cC (.row (List.replicate n.toNat .aM) elem (0,0) (some 1)) s=some (i,s1)) (hr:HR ν M w0 s w):
  ∃ ν' w' y,ν.Le ν'∧(Extern.BytealgMakeNoZero.makeNoZero ps #[t] #[.int .i64 n]).run E.P w=.ok y w'∧VR ν' (.sl i 0 n.toNat none) y∧HR ν' M w0 s1 w'∧s1.ob=s.ob:=by
 generalize hcap:(Question.appendCap n.toNat 0 elem).cut (w.tape w.drawn (.appendCap n.toNat 0 elem))=cap
 have hle:n.toNat≤cap:=by rw [← hcap];simp [Question.cut]
 have hch:(choose (.appendCap n.toNat 0 elem)).run E.P w=.ok cap { w with drawn:=w.drawn+1 }:=by
  rw [run_choose,show (Question.appendCap n.toNat 0 elem).forced=false from rfl,hcap];rfl
 have hch2 : ∃ b k, (choose (.extern "internal/bytealg.MakeNoZero.bytes" 0)).run E.P { w with drawn := w.drawn + 1 } = .ok b { w with drawn := k } := by
  rw [run_choose]
  cases (Question.extern "internal/bytealg.MakeNoZero.bytes" 0).forced
  ·exact ⟨_,w.drawn+2,rfl⟩
  ·exact ⟨_,w.drawn+1,rfl⟩
 obtain ⟨bs,k,hch2⟩:=hch2
 generalize hd:Extern.BytealgMakeNoZero.digits cap bs #[]=ds
 have hds:ds.size=cap:=by rw [← hd,oq];simp
 have hlen:ds.toList.length=cap:=by simpa using hds
 obtain ⟨hob,ν',hle',hi,hr'⟩:=dN h (hr.drawn k) cap (r:=.cells ds elem)
  (fun ν' hle' hi'=>⟨ds.toList.take n.toNat,ds.toList.drop n.toNat,by rw [List.take_append_drop];simp,FT ν' n.toNat _ (by rw [List.length_take];omega),by
   rw [List.take_append_drop,List.length_replicate]
   refine ⟨by omega,_,hi',by simpa using hlen⟩⟩)
 refine ⟨ν',_,_,hle',?_,VR.ay.2 ⟨_,hi,by simpa using hle,rfl⟩,hr',hob⟩
 have hneg:¬ (n<0∨n>2 ^ 48):=by omega
 obtain ⟨g,hg1,hg2⟩:=rX ps t n
 rw [hg1]
 simp only [Sem.run_bind,run_underlying ht,Result.andThen_ok,hg2]
 unfold B9
 rw [if_neg (by simp;omega)]
 simp only [Sem.run_bind,Sem.run_pure,hch,hch2,Result.andThen_ok,run_askRoom,hd,newRow,run_newObj]
 rfl
theorem EA {k:tG} {e:Array Value→Sem Value} (he:F9 k=some e) {args:List SV} {x:SV} {a:List Value} (h:xr E k args s=some (x,s')) (hr:HR ν M w0 s w) (ha:aj ν args a) (ob:s'.ob):
  ∃ ν' w' y,ν.Le ν'∧(e a.toArray).run E.P w=.ok y w'∧VR ν' x y∧HR ν' M w0 s' w':=by
 unfold xr at h
 split at h
 ·-- same
  cases he
  cases h
  obtain ⟨y,ys,rfl,hy,hys⟩:=ha.cons_inv
  obtain rfl:=hys.aq
  exact ⟨ν,w,y,aA.Le.refl _,rfl,hy,hr⟩
 ·-- pure
  cases he
  obtain ⟨l,hl,h⟩:=Option.bind_eq_some_iff.1 h
  obtain ⟨y,hy,h⟩:=Option.map_eq_some_iff.1 h
  cases h
  rw [sa hl ha]
  exact ⟨ν,w,y,aA.Le.refl _,ch hy w,VR.lift y,hr⟩
 ·-- MakeNoZero
  cases he
  obtain ⟨y,ys,rfl,hy,hys⟩:=ha.cons_inv
  obtain rfl:=hys.aq
  obtain rfl:=VR.ab.1 hy
  split at h
  ·rename_i elem ht
   rename_i n _
   cases hd:decide (0≤n∧n≤(2:Int) ^ 40)
   ·rw [hd] at h;cases h
   ·rw [hd] at h
    simp only [cond_true] at h
    obtain ⟨⟨i,s1⟩,h1,h⟩:=Option.map_eq_some_iff.1 h
    cases h
    obtain ⟨ν',w',y,g1,g2,g3,g4,_⟩:=rO (E:=E) ht (of_decide_eq_true hd) h1 hr
    exact ⟨ν',w',y,g1,g2,g3,g4⟩
  ·cases h
 ·-- maps.clone
  cases he
  rename_i t i
  obtain ⟨y,ys,rfl,hy,hys⟩:=ha.cons_inv
  obtain rfl:=hys.aq
  obtain ⟨v,rfl,hv⟩:=VR.aK.1 hy
  obtain ⟨b,hb,rfl⟩:=VR.bM.1 hv
  split at h
  ·rename_i es clock wr hlook
   obtain ⟨⟨j,s1⟩,hn,h⟩:=Option.map_eq_some_iff.1 h
   cases h
   obtain ⟨_,_,b',o,hb',ho,hor,_⟩:=hr.look hlook
   rw [hb] at hb';cases hb'
   obtain ⟨l,rfl,hl⟩:=hor
   obtain ⟨_,ν',hle,hi,hr'⟩:=dN hn hr 0 (r:=.map l.toArray clock) (fun ν' hle _=>⟨l,rfl,hl.mono hle⟩)
   refine ⟨ν',_,.iface t (.map (some w.heap.size)),hle,?_,VR.aK.2 ⟨_,rfl,VR.bM.2 ⟨_,hi,rfl⟩⟩,hr'⟩
   rw [show ([Value.iface t (.map (some b.1))]:List Value).toArray=#[.iface t (.map (some b.1))] from rfl,CY]
   simp [dQ (P:=E.P) ho (by intro c e f;exact fun h=>by cases h)]
  ·cases h
 ·-- TypeOf
  cases he
  obtain ⟨y,ys,rfl,hy,hys⟩:=ha.cons_inv
  obtain rfl:=hys.aq
  obtain ⟨v,rfl,hv⟩:=VR.aK.1 hy
  obtain ⟨y,hy,h⟩:=Option.map_eq_some_iff.1 h
  cases h
  exact ⟨ν,w,y,aA.Le.refl _,ch hy w,VR.lift y,hr⟩
 ·cases he
  obtain ⟨y,ys,rfl,hy,hys⟩:=ha.cons_inv
  obtain rfl:=hys.aq
  obtain rfl:=VR.ab.1 hy
  cases h
  exact ⟨ν,w,_,aA.Le.refl _,rfl,VR.ab.2 rfl,hr⟩
 ·-- ValueOf
  cases he
  rename_i t x0
  obtain ⟨y,ys,rfl,hy,hys⟩:=ha.cons_inv
  obtain rfl:=hys.aq
  obtain ⟨v,rfl,hv⟩:=VR.aK.1 hy
  unfold pC at h
  obtain ⟨⟨p,s1⟩,hp,h⟩:=Option.bind_eq_some_iff.1 h
  obtain ⟨_,ν',w',pv,hle,hrun,hpv,hr'⟩:=um (E:=E) hp hr hv
  dsimp only at h
  split at h
  ·rename_i i
   obtain ⟨x1,hx1,h⟩:=Option.map_eq_some_iff.1 h
   cases h
   obtain ⟨b,hb,rfl⟩:=VR.aw.1 hpv
   obtain ⟨y,hy,hmk⟩:=rY hx1 hb
   refine ⟨ν',w',y,hle,?_,hy,hr'⟩
   have hbox:∃ ad:Addr,(newVar t v).run E.P w=.ok ad w'∧Value.pointer (some ad)=.pointer (some ⟨b.1,0,none⟩):=by
    simp only [Instr.box,Sem.run_bind] at hrun
    cases hnv:(newVar t v).run E.P w with
    | ok ad w2=>
     rw [hnv] at hrun
     simp only [Result.andThen_ok,Sem.run_pure,Result.ok.injEq] at hrun
     obtain ⟨h1,rfl⟩:=hrun
     exact ⟨ad,rfl,h1⟩
    | _=>rw [hnv] at hrun;cases hrun
   obtain ⟨ad,hnv,had⟩:=hbox
   cases had
   simp [Extern.ReflectliteValue.unpack,hnv,hmk]
  ·cases h
 ·-- Value.Type
  cases he
  obtain ⟨y,ys,rfl,hy,hys⟩:=ha.cons_inv
  obtain rfl:=hys.aq
  obtain ⟨r,eX,h⟩:=Option.bind_eq_some_iff.1 h
  obtain ⟨z,hz,h⟩:=Option.map_eq_some_iff.1 h
  cases h
  obtain ⟨b,hb,hp⟩:=pG eX hy
  refine ⟨ν,w,z,aA.Le.refl _,?_,VR.lift z,hr⟩
  rw [show ([y]:List Value).toArray=#[y] from rfl,tD]
  simp [hp w,ch hz w]
 ·-- Value.IsNil
  cases he
  obtain ⟨y,ys,rfl,hy,hys⟩:=ha.cons_inv
  obtain rfl:=hys.aq
  obtain ⟨r,eX,h⟩:=Option.bind_eq_some_iff.1 h
  obtain ⟨b,hb,hp⟩:=gI eX hy
  unfold yd at h
  revert h
  cases hk:Nat.beq (r.2.2.2 % 32) 22
  ·intro h;cases h
  ·intro h
   simp only [cond_true] at h
   have hk:=FB hk
   obtain ⟨⟨p,s1⟩,hl,h⟩:=Option.bind_eq_some_iff.1 h
   obtain ⟨hsame,hob⟩:=qF hl hr hb
   dsimp only at h
   split at h
   ·cases h
    obtain ⟨_,y1,hy1,hv1⟩:=hob ob
    obtain ⟨c,_,rfl⟩:=VR.aw.1 hv1
    refine ⟨ν,w,.bool false,aA.Le.refl _,?_,VR.ab.2 rfl,hr.same hsame⟩
    rw [show ([y]:List Value).toArray=#[y] from rfl,nI]
    simp [hp w,Extern.ReflectliteValue.isNil,hk,hy1]
   ·cases h
    obtain ⟨_,y1,hy1,hv1⟩:=hob ob
    obtain rfl:=VR.ab.1 hv1
    refine ⟨ν,w,.bool true,aA.Le.refl _,?_,VR.ab.2 rfl,hr.same hsame⟩
    rw [show ([y]:List Value).toArray=#[y] from rfl,nI]
    simp [hp w,Extern.ReflectliteValue.isNil,hk,hy1]
   ·cases h
 ·-- Value.Elem
  cases he
  obtain ⟨y,ys,rfl,hy,hys⟩:=ha.cons_inv
  obtain rfl:=hys.aq
  obtain ⟨r,eX,h⟩:=Option.bind_eq_some_iff.1 h
  obtain ⟨b,hb,hp⟩:=gI eX hy
  unfold yK at h
  revert h
  cases hk:Nat.beq (r.2.2.2 % 32) 22
  ·intro h;cases h
  ·intro h
   simp only [cond_true] at h
   have hk:=FB hk
   cases hoe:bp E.P (Extern.Rtype.elem? r.1) with
   | none=>rw [hoe] at h;cases h
   | some oe=>
   rw [hoe] at h
   cases oe with
   | none=>cases h
   | some e=>
   simp only [Option.bind_some] at h
   obtain ⟨⟨p,s1⟩,hl,h⟩:=Option.bind_eq_some_iff.1 h
   obtain ⟨hsame,hob⟩:=qF hl hr hb
   dsimp only at h
   split at h
   ·rename_i j o
    obtain ⟨x1,hx1,h⟩:=Option.map_eq_some_iff.1 h
    cases h
    obtain ⟨_,y1,hy1,hv1⟩:=hob ob
    obtain ⟨c,hc,rfl⟩:=VR.aw.1 hv1
    obtain ⟨y2,hy2,hmk⟩:=rY hx1 hc
    refine ⟨ν,w,y2,aA.Le.refl _,?_,hy2,hr.same hsame⟩
    rw [show ([y]:List Value).toArray=#[y] from rfl,nI]
    simp [hp w,Extern.ReflectliteValue.elem,hk,hy1,ch hoe w,Extern.ReflectliteValue.flagAddr,hmk w]
   ·cases h
 ·-- Value.Set
  cases he
  obtain ⟨y,ys,rfl,hy,hys⟩:=ha.cons_inv
  obtain ⟨y2,ys,rfl,hy2,hys⟩:=hys.cons_inv
  obtain rfl:=hys.aq
  obtain ⟨r,eX,h⟩:=Option.bind_eq_some_iff.1 h
  obtain ⟨q,hq1,h⟩:=Option.bind_eq_some_iff.1 h
  obtain ⟨b,hb,hp⟩:=gI eX hy
  obtain ⟨c,hc,hpq⟩:=gI hq1 hy2
  unfold CM at h
  revert h
  cases hk:Nat.beq (r.2.2.2 / 256 % 2) 0
  ·intro h
   simp only [cond_false] at h
   have hk:r.2.2.2 / 256 % 2≠0:=fun e=>by rw [e] at hk;cases hk
   obtain ⟨⟨p,s1⟩,hl,h⟩:=Option.bind_eq_some_iff.1 h
   obtain ⟨hsame,hob⟩:=qF hl hr hc
   obtain ⟨d,hd,h⟩:=Option.bind_eq_some_iff.1 h
   cases d
   ·cases h
   ·obtain ⟨s2,hst,h⟩:=Option.map_eq_some_iff.1 h
    cases h
    have ob1:s1.ob:=sE hst ob
    obtain ⟨_,y1,hy1,hv1⟩:=hob ob1
    obtain ⟨_,hgood⟩:=sk hst (hr.same hsame) (VR.aw.2 ⟨b,hb,rfl⟩:VR ν (.ptr r.2.1 r.2.2.1) _) hv1 ob
    obtain ⟨ν',w',hle,hrun,hr'⟩:=hgood
    refine ⟨ν',w',.tuple #[],hle,?_,VR.ab.2 rfl,hr'⟩
    have hrun:(storeVar r.1 ⟨b.1,r.2.2.1,none⟩ y1).run E.P w=.ok () w':=by
     simpa [Instr.storeAt,Instr.sureAddr] using hrun
    obtain ⟨g,hg1,hg2⟩:=Hj y y2
    rw [show ([y,y2]:List Value).toArray=#[y,y2] from rfl,hg1]
    simp [hp w,hpq w,hg2,Extern.ReflectliteValue.flagAddr,hk,hy1,ch hd w,hrun]
  ·intro h;cases h
 ·cases h

def DM (P:Program) (r:FuncId × tG):Prop:=
 ∃ fn e, P.funcs[r.1]? = some fn ∧ (fn.name == "runtime.NumGoroutine") = false ∧ fn.body.isNone = true ∧ Extern.findNext fn = none ∧ F9 r.2 = some e ∧ Extern.find fn = some e

theorem eR.of (l:List (FuncId × tG)) (hE:E.ext=fun f=>l.lookup f) (h:∀ r∈l,DM E.P r):eR E:=by
 intro f k hk args x s s' hx ν M w0 w a hr ha ob
 refine ⟨tn hx ob,?_⟩
 rw [hE] at hk
 have hm:(f,k)∈l:=by
  have:∀ (l:List (FuncId × tG)),l.lookup f=some k→(f,k)∈l:=by
   intro l
   induction l with
   | nil=>intro h;cases h
   | cons r l ih=>
    intro h
    obtain ⟨g,k'⟩:=r
    rw [List.lookup_cons] at h
    split at h
    ·rename_i e
     cases h
     have e:f=g:=by simpa using e
     rw [e];exact List.mem_cons_self
    ·exact List.mem_cons_of_mem _ (ih h)
  exact this l hk
 obtain ⟨fn,e,h1,h2,h3,h4,h5,h6⟩:=h _ hm
 obtain ⟨ν',w',y,hle,hrun,hv,hr'⟩:=EA h5 hx hr ha ob
 exact ⟨ν',w',y,hle,by rw [run_callFunc_extern h1 h2 h3 h4 h6,hrun];rfl,hv,hr'⟩

end
end Go.Rx
set_option linter.unusedSimpArgs false
set_option linter.unusedVariables false
namespace Go.Rx
open Go.RowKit (Below)
section
variable {E:Env} {ν:aA} {M:Own} {w0 w:World} {s s':SH}


def pR (T:Tr (Option (SO × Bool))) (i:Nat):List (Nat × List SV)→Tr (Option (SO × Bool))
 | []=>T
 | x::xs=>pR (T.set i (some (.look x.2,false))) (i+1) xs

def jZ (d:Nat) (l:List (Nat × List SV)):SH:={ d,H:=pR (Tr.mk none d) 0 l,nx:=l.length,obl:=[],dc:=0 }

theorem vx (d:Nat):∀ (l:List (Nat × List SV)) (i:Nat) (T:Tr (Option (SO × Bool))),Tr.Full d T→i+l.length≤2 ^ d→
  Tr.Full d (pR T i l)∧∀ t,t<2 ^ d→(pR T i l).get t=if i≤t then ((l[t - i]?).map fun x=>some (SO.look x.2,false)).getD (T.get t) else T.get t
 | [],i,T,h,_=>⟨h,fun t _=>by simp [pR]⟩
 | x::xs,i,T,h,hl=>by
  simp only [List.length_cons] at hl
  obtain ⟨h1,h2⟩:=vx d xs (i+1) (T.set i (some (.look x.2,false))) (h.set _ _) (by omega)
  refine ⟨h1,fun t ht=>?_⟩
  rw [pR,h2 t ht,Tr.ct h (by omega) ht]
  by_cases e1:i+1≤t
  ·rw [if_pos e1,if_neg (show ¬ t=i by omega),if_pos (show i≤t by omega)]
   have:t - i=(t - (i+1))+1:=by omega
   rw [this,List.getElem?_cons_succ]
  ·rw [if_neg e1]
   by_cases e2:t=i
   ·subst e2;simp
   ·rw [if_neg e2,if_neg (show ¬ i≤t by omega)]

def Told (w:World) (r:Nat × List SV):Prop:=
 ∃ (ys:List Value) (c:Array Value) (e:TypeId) (fz:Nat × Nat),w.heap[r.1]?=some (.cells c e fz)∧(∀ ν,aj ν r.2 ys)∧∀ (k:Nat) (y:Value),ys[k]?=some y→c[k]?=some y

def gK (l:List (Nat × List SV)):aA:=fun i=>(l[i]?).map fun x=>(x.1,0)
def uD (l:List (Nat × List SV)):Own:=Own.Cv fun b=>∃ r∈l,r.1=b

theorem EY {d:Nat} {l:List (Nat × List SV)} (hd:l.length≤2 ^ d) (hn:(l.map (·.1)).Nodup) (ht:∀ r∈l,Told w r):HR (gK l) (uD l) w (jZ d l) w:=by
 obtain ⟨hf,hg⟩:=vx d l 0 (Tr.mk none d) (Tr.iR _ _) (by omega)
 have hget:∀ t,t<2 ^ d→(jZ d l).H.get t=(l[t]?).map fun x=>(SO.look x.2,false):=by
  intro t ht
  show (pR (Tr.mk none d) 0 l).get t=_
  rw [hg t ht,if_pos (Nat.zero_le _),Tr.rD,Nat.sub_zero]
  cases l[t]? <;> rfl
 have hx:∀ i,i<2 ^ d→∀ x,(jZ d l).H.get i=some x→∃ r,l[i]?=some r∧r∈l∧x=(SO.look r.2,false):=by
  intro i hi x hx
  rw [hget i hi] at hx
  obtain ⟨r,hr,rfl⟩:=Option.map_eq_some_iff.1 hx
  exact ⟨r,hr,List.mem_of_getElem? hr,rfl⟩
 refine ⟨hf,fun i hi=>?_,fun i hi=>?_,fun i hi x hxx=>?_,fun i j hi hj hgi hgj b c hb hc e=>?_,Nat.le_refl _,fun _ _ _=>rfl,fun i hi x hxx _ b hb=>?_,rfl,rfl,rfl⟩
 ·have hi:2 ^ d≤i:=hi
  simp only [gK];rw [List.getElem?_eq_none (by omega)];rfl
 ·have hi:l.length≤i:=hi
  simp only [gK];rw [List.getElem?_eq_none hi];rfl
 ·obtain ⟨r,hr,hm,rfl⟩:=hx i hi x hxx
  obtain ⟨ys,c,e,fz,h1,h2,h3⟩:=ht r hm
  exact ⟨(r.1,0),_,by simp [gK,hr],h1,⟨ys,c,e,fz,rfl,h2 _,h3⟩,fun h=>by cases h⟩
 ·simp only [gK,Option.map_eq_some_iff] at hb hc
  obtain ⟨r,hr,rfl⟩:=hb
  obtain ⟨q,hq,rfl⟩:=hc
  obtain ⟨hi',hr⟩:=List.getElem?_eq_some_iff.1 hr
  obtain ⟨hj',hq⟩:=List.getElem?_eq_some_iff.1 hq
  refine (List.getElem_inj (h₀:=by simpa using hi') (h₁:=by simpa using hj') hn).1 ?_
  simp only [List.getElem_map,hr,hq];exact e
 ·obtain ⟨r,hr,hm,rfl⟩:=hx i hi x hxx
  simp only [gK,hr,Option.map_some,Option.some.injEq] at hb
  subst hb
  exact ⟨r,hm,rfl⟩

theorem Fk {l:List (Nat × List SV)} (hG:E.G=(l.map (·.1)).zipIdx):GR (gK l) E:=by
 intro g i h
 rw [hG] at h
 have hm:(g,i)∈(l.map (·.1)).zipIdx:=by
  have:∀ (l:List (Nat × Nat)),l.lookup g=some i→(g,i)∈l:=by
   intro l
   induction l with
   | nil=>intro h;cases h
   | cons r l ih=>
    intro h
    obtain ⟨g',k'⟩:=r
    rw [List.lookup_cons] at h
    split at h
    ·rename_i e
     cases h
     have e:g=g':=by simpa using e
     rw [e];exact List.mem_cons_self
    ·exact List.mem_cons_of_mem _ (ih h)
  exact this _ h
 have:=List.mem_zipIdx hm
 obtain ⟨_,hlt,e⟩:=this
 simp only [Nat.zero_add,List.length_map] at hlt
 refine ⟨0,?_⟩
 simp only [gK]
 have hi:i<l.length:=by simpa using hlt
 rw [List.getElem?_eq_getElem hi]
 simp only [Option.map_some,Option.some.injEq,Prod.mk.injEq,and_true]
 simpa using e.symm


def verdict (E:Env) (f:FuncId):List SM→Prop
 | []=>True
 | S::r=>(match nk E f S with | some (.v (.bool true),s')=>s'.ob | _=>False)∧verdict E f r

def qq (E:Env) (f:FuncId):Option (List SM)→Prop
 | some Ls=>verdict E f Ls
 | none=>False

theorem oa {f:FuncId}:∀ {Ls:List SM},verdict E f Ls→∀ S∈Ls,∃ s',nk E f S=some (.v (.bool true),s')∧s'.ob
 | [],_,_,h=>by cases h
 | T::r,⟨h,k⟩,S,hS=>by
  rcases List.mem_cons.1 hS with rfl | hS
  ·split at h
   ·rename_i s' he;exact ⟨s',he,h⟩
   ·exact h.elim
  ·exact oa k S hS

def Ba (E:Env) (f:FuncId) (args:List SV) (s0:SH) (n:Nat):Option (List SM):=(aS E f args s0).bind fun S0=>run E SM.over n [S0] []

theorem xm {r:Nat→Prop} (K:aE E (Own.Cv r) w) {f:FuncId} {args:List SV} {a:List Value} {s0:SH} {n:Nat} (hv:qq E f (Ba E f args s0 n))
  (hr:HR ν (Own.Cv r) w s0 w) (hro:∀ b,r b→b<w.heap.size) (hg:GR ν E) (ha:aj ν args a):
  Calls E.P f a.toArray w fun e w'=>e=.returned (.bool true)∧Below w.heap.size w w':=by
 unfold Ba at hv
 cases hS:aS E f args s0 with
 | none=>rw [hS] at hv;exact hv.elim
 | some S0=>
 rw [hS] at hv
 simp only [Option.bind_some] at hv
 cases hrun:run E SM.over n [S0] [] with
 | none=>rw [hrun] at hv;exact hv.elim
 | some Ls=>
 rw [hrun] at hv
 refine BZ (M:=Own.Cv r) K hS hrun hr hro (fun _ h=>h) hg ha fun S' hS'=>?_
 obtain ⟨s',he,hob⟩:=oa hv S' hS'
 refine ⟨_,s',he,hob,fun ν' w' v _ hv hr' _=>⟨?_,hr'.below⟩⟩
 rw [VR.ab.1 hv]

theorem xd {l:List (Nat × List SV)} (K:aE E (uD l) w) {f:FuncId} {a:List Value} {d n:Nat} (hG:E.G=(l.map (·.1)).zipIdx) (hd:l.length≤2 ^ d) (hn:(l.map (·.1)).Nodup) (ht:∀ r∈l,Told w r)
  (hv:qq E f (Ba E f (a.map .v) (jZ d l) n)):Calls E.P f a.toArray w fun e w'=>e=.returned (.bool true)∧Below w.heap.size w w':=by
 refine xm K hv (EY hd hn ht) (fun b hb=>?_) (Fk hG) (aj.lits _ a)
 obtain ⟨r,hr,rfl⟩:=hb
 obtain ⟨_,_,_,_,h,_⟩:=ht r hr
 exact (Array.getElem?_eq_some_iff.1 h).1

theorem aE.of (mixed : E.P.follows .mixedOrders = true) (calls : (E.P.funcs.all fun fn => fn.body.isNone || fn.name != "runtime.NumGoroutine") = true) (ext : eR E) (sums : E.sums = fun _ => none) (qs : JQ E M w0) : aE E M w0 :=
 ⟨mixed,fun f fn hf hb=>by
  have:=Array.all_eq_true'.1 calls fn (Array.mem_of_getElem? hf)
  cases h:fn.body with
  | none=>exact absurd h hb
  | some c=>(rw [h] at this;simpa using this),ext,fun f g h=>(by rw [sums] at h;cases h),qs⟩

theorem aE.AR (mixed : E.P.follows .mixedOrders = true) (calls : (E.P.funcs.all fun fn => fn.body.isNone || fn.name != "runtime.NumGoroutine") = true) (ext : eR E) (sums : cV E M w0) (qs : JQ E M w0) : aE E M w0 :=
 ⟨mixed,fun f fn hf hb=>by
  have:=Array.all_eq_true'.1 calls fn (Array.mem_of_getElem? hf)
  cases h:fn.body with
  | none=>exact absurd h hb
  | some c=>(rw [h] at this;simpa using this),ext,sums,qs⟩

end
end Go.Rx
set_option linter.unusedSimpArgs false
set_option linter.unusedVariables false
namespace Go.Rx
open Go.ChangeShapes Go.WideShapes Go.ChangeAt Go.RowKit

theorem and_intro {a b:Bool} (ha:a=true) (hb:b=true):(a&&b)=true:=by rw [ha,hb];rfl

section
variable {P:Program} {w:World} {r:Reach} {base:Nat} {u:TypeId} {v:Value}

end

section
variable {H:Type} {enc:TypeId × Value→H} {P:Program} {W W':World}

theorem kE (hl:laidOutB P=true) (hb:Below W.heap.size W W'):∀ {ts:List TypeId} {vs:List Value} {ds:List (DataW H)} {ps:List MemPlace},DataW.TrodAll enc P W 0 (fun _=>true) true ts vs ds ps→
  (ts.all fun t=>P.readableRec t&&decide (t<P.types.size))=true→(∀ x∈ps,x.block<W.heap.size)→DataW.TrodAll enc P W' 0 (fun b=>decide (b<W.heap.size)) true ts vs ds ps
 | [],vs,ds,ps,h,_,_=>by
  obtain ⟨rfl,rfl,rfl⟩:=trodAll_nil h
  exact trodAll_mk0
 | t::ts,vs,ds,ps,h,hk,hlt=>by
  obtain ⟨v,vs',d,ds',p,p',rfl,rfl,rfl,h0,r0⟩:=trodAll_cons h
  rw [List.all_cons,Bool.and_eq_true,Bool.and_eq_true] at hk
  exact trodAll_cons_mk (Below.trod hl hk.1.1 (of_decide_eq_true hk.1.2) h0 hb fun x hx=>hlt x (List.mem_append_left _ hx)) (kE hl hb r0 hk.2 fun x hx=>hlt x (List.mem_append_right _ hx))
end

theorem uW {P:Program} {W:World} {l:List (String × DataW Unit)} (h:handlesMet P l W) {v:String} {d:DataW Unit} {name:List UInt8} (hm:(v,d)∈l) (hf:d.funcsIn?.isNone=true) (hn:d.handleName?=some name)
  {g : Nat} (hg : P.globalNamed v = some g) {u ty : TypeId} {hd : Value} (hu : (P.cutTypes.find? (·.1 == "internal/reflectlite.rtype")).map (·.2) = some u)
  (hrow:((List.range P.types.size).filter fun t=>P.rowNamed t name)=[ty]) (hh:typeHandle P ty=hd):Told W (g,[.iface u (.v (.agg #[hd]))]):=by
 have h1:=h _ hm
 dsimp only at h1
 split at h1
 ·rename_i f e;rw [e] at hf;cases hf
 ·obtain ⟨name',u',ty',e1,e2,e3,e4,e5⟩:=h1
  rw [hn] at e1;cases e1
  rw [hu] at e2;cases e2
  have hm2:ty'∈(List.range P.types.size).filter fun t=>P.rowNamed t name:=List.mem_filter.2 ⟨List.mem_range.2 e3,e4⟩
  rw [hrow] at hm2
  obtain rfl:=List.mem_singleton.1 hm2
  simp only [World.var?,hg,Option.bind_some] at e5
  split at e5
  ·rename_i cs e fz hheap
   cases e5
   refine ⟨[.iface u (.agg #[hd])],_,e,fz,hheap,fun ν=>aj.cons (VR.aK.2 ⟨_,rfl,VR.ab.2 rfl⟩) aj.nil,fun k y hk=>?_⟩
   rw [hh]
   match k,hk with
   | 0,hk=>simpa using hk
  ·cases e5

theorem mR {P:Program} {l:List (String × DataW Unit)} {w:World} (h:laidMetH P l w):handlesMet P (l.filter fun x=>x.2.handleName?.isSome) w:=by
 unfold laidMetH at h
 split at h
 ·rename_i e;rw [e];intro x hx;cases hx
 ·rename_i h0 hs e;rw [e];exact h.2

theorem iQ {P:Program} {w:World} {n:String} {d:DataW Unit}:∀ {l:List (String × DataW Unit)} {ps:List MemPlace},DataW.LaidVars P w l ps→(n,d)∈l→
  ∃ g t cs fuel p,P.globalNamed n=some g∧(P.globals[g]?).map (·.type)=some t∧w.var? P n=some cs∧DataW.trod (fun _=>()) P w 0 (fun _=>true) false fuel t cs.toList=some (d,p)
 | [],_,_,h=>by cases h
 | (n',d')::l,ps,hl,h=>by
  obtain ⟨g,t,cs,fuel,p,q,h1,h2,h3,h4,h5,_⟩:=hl
  rcases List.mem_cons.1 h with e | h
  ·cases e;exact ⟨g,t,cs,fuel,p,h1,h2,h3,h4⟩
  ·exact iQ h5 h

theorem iW {P:Program} {l:List (String × DataW Unit)} {w:World} (h:laidMetH P l w):laidMet P (l.filter fun x=>x.2.handleName?.isNone) w:=by
 unfold laidMetH at h
 split at h
 ·rename_i e
  have:(l.filter fun x=>x.2.handleName?.isNone)=l:=by
   refine List.filter_eq_self.2 fun x hx=>?_
   cases hn:x.2.handleName? with
   | none=>rfl
   | some s=>
    have hm:x∈l.filter fun x=>x.2.handleName?.isSome:=List.mem_filter.2 ⟨hx,by rw [hn];rfl⟩
    rw [e] at hm;cases hm
  rw [this];exact h
 ·exact h.1

theorem zT {P:Program} {W:World} {l:List (String × DataW Unit)} (h:laidMetH P l W) {v:String} {k:IntKind} {zs:List Int} (hm:(v,(DataW.agg (zs.map fun n=>.lit (.int k n)):DataW Unit))∈l.filter fun x=>x.2.handleName?.isNone)
  {g:Nat} (hg:P.globalNamed v=some g) {t e:TypeId} (ht:(P.globals[g]?).map (·.type)=some t) {len:Nat} (hu:P.underlying t=some (.array len e)) (he:P.underlying e=some (.int k)) (hc:P.cellsOf e=1) (hlen:zs.length=len):
  Told W (g,zs.map fun n=>.v (.int k n)):=by
 obtain ⟨ps,hl,_,_⟩:=iW h
 obtain ⟨g',t',cs,fuel,p,h1,h2,h3,hd⟩:=iQ hl hm
 rw [hg] at h1;cases h1
 rw [ht] at h2;cases h2
 obtain ⟨xs,m,_,ex,_,hl2,hel⟩:=DataW.trod_array hu hd
 have hvar:=h3
 simp only [World.var?,hg,Option.bind_some] at h3
 split at h3
 ·rename_i cs' ty fz hheap
  cases h3
  refine ⟨zs.map fun n=>.int k n,cs,ty,fz,hheap,fun ν=>?_,fun r y hy=>?_⟩
  ·have:=aj.lits ν (zs.map fun n=>Value.int k n)
   rw [List.map_map] at this;exact this
  ·obtain ⟨hr,rfl⟩:=List.getElem?_eq_some_iff.1 hy
   have hr':r<zs.length:=by simpa using hr
   have hE:=hel r (by omega)
   rw [hc,Nat.mul_one,List.getElem?_eq_getElem (by omega)] at hE
   obtain ⟨z,e1,e2,_⟩:=DataW.trod_int he hE
   have e3:(xs.map (·.1))=zs.map fun n=>.lit (.int k n):=(DataW.agg.inj (Prod.mk.inj ex).1).symm
   have e4:(xs.map (·.1))[r]?=(zs.map fun n=>(DataW.lit (.int k n):DataW Unit))[r]?:=by rw [e3]
   rw [List.getElem?_map,List.getElem?_map,List.getElem?_eq_getElem (by omega:r<xs.length),List.getElem?_eq_getElem hr',e2] at e4
   have hz:z=zs[r]:=by simpa using e4
   have h0:((cs.toList.drop r).take 1)[0]?=some (.int k z):=by rw [e1];rfl
   rw [hz] at h0
   simpa using h0
 ·cases h3

end Go.Rx
set_option linter.unusedSimpArgs false
set_option linter.unusedVariables false
namespace Go.Rx
open Go.RowKit (Below)

def runK (E:Env) (stop:SM→Bool):Nat→List SM→List SM→Option (List SM × List SM)
 | 0,w,d=>some (w,d)
 | _+1,[],d=>some ([],d)
 | n+1,S::w,d=>bif stop S then runK E stop n w (S::d) else match jm E S with
  | none=>none
  | some l=>runK E stop n (l++w) d

theorem pa {E:Env} {stop:SM→Bool} {n:Nat} {d:List SM}:run E stop n [] d=some d:=by
 cases n <;> rfl

theorem qH {E:Env} {stop:SM→Bool}:∀ {n:Nat} {w d w' d':List SM},runK E stop n w d=some (w',d')→∀ {m:Nat} {Ls:List SM},run E stop m w' d'=some Ls→run E stop (n+m) w d=some Ls
 | 0,w,d,w',d',h,m,Ls,k=>by cases h;rw [Nat.zero_add];exact k
 | n+1,[],d,w',d',h,m,Ls,k=>by
  cases h
  rw [pa] at k ⊢;exact k
 | n+1,S::w,d,w',d',h,m,Ls,k=>by
  rw [Nat.add_right_comm]
  unfold runK at h
  unfold run
  cases hs:stop S
  ·rw [hs] at h
   simp only [cond_false] at h ⊢
   split at h
   ·cases h
   ·rename_i l hl
    have:=qH h k
    rw [hl]
    split
    ·rename_i e;cases e
    ·rename_i S' e;cases e;exact this
    ·rename_i l' _ e;cases e;exact this
  ·rw [hs] at h
   simp only [cond_true] at h ⊢
   exact qH h k

theorem E9 {E:Env} {f:FuncId} {args:List SV} {s0:SH} {S0:SM} {n:Nat} {d:List SM} (h0:aS E f args s0=some S0) (h:runK E SM.over n [S0] []=some ([],d)):Ba E f args s0 n=some d:=by
 unfold Ba
 rw [h0]
 have:=qH h (m:=0) (Ls:=d) (by rw [pa])
 simpa using this


def Tr.fill {α:Type} (T:Tr α) (i:Nat):List α→Tr α
 | []=>T
 | x::xs=>Tr.fill (T.set i x) (i+1) xs

def gw (nt d:Nat) (l:List SV):dG:={ nt,d,T:=Tr.fill (Tr.mk (.v undef) d) 0 l }

def bc (d nx dc:Nat) (l:List (Option (SO × Bool))):SH:={ d,H:=Tr.fill (Tr.mk none d) 0 l,nx,obl:=[],dc }

def gW:Code→List Nat→Code
 | c,[]=>c
 | .seq a _,0::p=>gW a p
 | .seq _ b,_::p=>gW b p
 | .cond _ a _,0::p=>gW a p
 | .cond _ _ b,_::p=>gW b p
 | .block _ c,_::p=>gW c p
 | .loop c,_::p=>gW c p
 | .scope c,_::p=>gW c p
 | .rangeFunc _ _ a _,0::p=>gW a p
 | .rangeFunc _ _ _ b,_::p=>gW b p
 | c,_=>c

def Hm (P:Program) (f:FuncId) (p:List Nat):Code:=
 match P.funcs[f]? with
 | some fn=>match fn.body with
  | some c=>gW c p
  | none=>.skip
 | none=>.skip


section
variable {E:Env} {ν:aA} {M:Own} {w0 w:World} {s s':SH} {cs0:List Frame} {f:FuncId} {R:Ending→World→Prop}

def Fin (P:Program) (f:FuncId) (cs0:List Frame) (R:Ending→World→Prop) (m:Machine):Prop:=
 ∃ e w' fr,R e w'∧Comes P m (lone fr cs0 w') e∧fr.fn=f∧fr.leaving P w' e

theorem Fin.steps {P:Program} {m m':Machine} (h:Steps P m m') (k:Fin P f cs0 R m'):Fin P f cs0 R m:=by
 obtain ⟨e,w',fr,h1,h2,h3,h4⟩:=k
 exact ⟨e,w',fr,h1,Comes.of_steps h h2,h3,h4⟩

def ao (E:Env) (M:Own) (w0:World) (cs0:List Frame) (f:FuncId) (R:Ending→World→Prop) (ν:aA) (S:SM):Prop:=
 ∀ ν' m M1 w1,ν.Le ν'→bk M w0 M1 w1→MR E M1 w1 cs0 ν' S m→Fin E.P f cs0 R m

def SM.with (S:SM) (o:List (Nat × c9)):SM:={ S with mem:={ S.mem with obl:=[],dc:=0,orc:=fun n=>o.lookup n,soft:=!o.isEmpty } }

theorem HR.with (h:HR ν M w0 s w) (l:List Prop) (n:Nat) (o:Nat→Option c9) (b:Bool):HR ν M w0 { s with obl:=l,dc:=n,orc:=o,soft:=b } w:=⟨h.full,h.dom,h.fresh,h.obj,h.inj,h.size,h.frame,h.ro,h.os,h.tape,h.output⟩

theorem MR.with {S:SM} {m:Machine} (h:MR E M w0 cs0 ν S m) (l:List Prop) (n:Nat) (o:Nat→Option c9) (b:Bool):MR E M w0 cs0 ν { S with mem:={ S.mem with obl:=l,dc:=n,orc:=o,soft:=b } } m:=by
 obtain ⟨fr,cs,w,hl,hm,hr,hg,⟨h1,h2,h3⟩,hc⟩:=h
 refine ⟨fr,cs,w,hl,hm,hr.with l n o b,hg,⟨h1,fun hf=>⟨(h2 hf).1,?_⟩,h3⟩,hc⟩
 have:=(h2 hf).2
 revert this
 generalize S.top.todo=xs
 generalize fr.todo=ys
 intro this
 cases this with
 | plain ht hk=>exact .plain ht hk
 | drw hok hn d st hk=>exact .drw hok hn d (fun M' w0' w' hr'=>st M' w0' w' (hr'.with S.mem.obl S.mem.dc S.mem.orc S.mem.soft)) hk

theorem ao.run (K:aE E M w0) {stop:SM→Bool} {n:Nat} {S:SM} {o:List (Nat × c9)} {Ls:List SM} (h:run E stop n [S.with o] []=some Ls)
  (hs:∀ T∈Ls,T.mem.ob∧ao E M w0 cs0 f R ν T):ao E M w0 cs0 f R ν S:=by
 intro ν' m M1 w1 hle hB hm
 obtain ⟨_,_,h3⟩:=CO (cs0:=cs0) K h
 obtain ⟨S',hS',hS⟩:=h3 _ (List.mem_singleton.2 rfl) ν' m M1 w1 hB (hm.with [] 0 _ _)
 obtain ⟨ob,hsafe⟩:=hs S' hS'
 obtain ⟨_,ν2,m',M2,w2,hle2,hst,hB2,hMR⟩:=hS ob
 exact (hsafe ν2 m' M2 w2 (hle.trans hle2) hB2 hMR).steps hst

def rQ (E:Env) (stop:SM→Bool):Nat→SM→Option SM
 | 0,S=>bif stop S then some S else none
 | n+1,S=>bif stop S then some S else match jm E S with
  | some [T]=>rQ E stop n T
  | _=>none

theorem zk {stop:SM→Bool}:∀ {n:Nat} {S T:SM},rQ E stop n S=some T→Go.Rx.run E stop (n+1) [S] []=some [T]
 | 0,S,T,h=>by
  unfold rQ at h
  unfold Go.Rx.run
  cases hs:stop S
  ·rw [hs] at h;cases h
  ·rw [hs] at h;cases h;simp only [cond_true];exact pa
 | n+1,S,T,h=>by
  unfold rQ at h
  unfold Go.Rx.run
  cases hs:stop S
  ·rw [hs] at h
   simp only [cond_false] at h ⊢
   split at h
   ·rename_i U hU
    rw [hU]
    exact zk h
   ·cases h
  ·rw [hs] at h;cases h;simp only [cond_true];exact pa

theorem ao.go (K:aE E M w0) {stop:SM→Bool} {n:Nat} {S T:SM} {o:List (Nat × c9)} (h:rQ E stop n (S.with o)=some T) (ob:T.mem.ob) (hs:ao E M w0 cs0 f R ν T):ao E M w0 cs0 f R ν S:=
 ao.run K (zk h) fun U hU=>by rw [List.mem_singleton.1 hU];exact ⟨ob,hs⟩

theorem ao.done {S:SM} {x:SV} (hend:nk E f S=some (x,s')) (hob:s'.ob)
  (hR:∀ ν' M1 w1 w' v,ν.Le ν'→bk M w0 M1 w1→VR ν' x v→HR ν' M1 w1 s' w'→GR ν' E→R (.returned v) w'):ao E M w0 cs0 f R ν S:=by
 intro ν' m M1 w1 hle hB hm
 unfold nk at hend
 cases hov:(S.over&&Nat.beq S.top.fn f)
 ·rw [hov] at hend;cases hend
 ·rw [hov] at hend
  simp only [cond_true] at hend
  rw [Bool.and_eq_true] at hov
  obtain ⟨hov,hfn⟩:=hov
  have hfn:=Nat.eq_of_beq_eq_true hfn
  unfold SM.over at hov
  rw [Bool.and_eq_true,Bool.and_eq_true] at hov
  obtain ⟨⟨hcal,hret⟩,hdef⟩:=hov
  split at hend
  ·rename_i fn hf
   obtain ⟨fr,cs,w',hl,rfl,hr',hg',htop',hc'⟩:=hm
   obtain ⟨hmode,htm⟩:=htop'.ret hret
   obtain ⟨hsame,hobr⟩:=ly (E:=E) htm hr' hend
   obtain ⟨_,v,hv,hvr⟩:=hobr hob
   have hcs:S.callers=[]:=List.isEmpty_iff.1 hcal
   rw [hcs] at hc'
   have hk:S.top.kind=.normal∧cs=cs0:=by
    generalize hkk:S.top.kind=kk at hc'
    cases hc' with
    | nil _=>exact ⟨rfl,rfl⟩
   obtain ⟨hk,rfl⟩:=hk
   have hd:=htop'.base.defers
   rw [List.isEmpty_iff.1 hdef] at hd
   refine ⟨.returned v,w',fr,hR ν' M1 w1 w' v hle hB hvr (hr'.same hsame) hg',Steps.refl _ _,by rw [htop'.base.fn];exact hfn,hmode,hd,by rw [htop'.base.kind];exact hk,fn,?_,hv⟩
   rw [htop'.base.fn,hfn];exact hf
  ·cases hend

theorem ey {args:List SV} {a:List Value} {s0:SH} {S0:SM} (hS0:aS E f args s0=some S0) (hr:HR ν M w0 s0 w) (hro:∀ b,M.r b→b<w0.heap.size) (hh:∀ b,¬ M.h b)
  (hg:GR ν E) (ha:aj ν args a) (hs:∀ cs0,ao E M w0 cs0 f R ν S0):Calls E.P f a.toArray w R:=by
 intro cs0
 unfold aS at hS0
 cases hG:aP E f args .normal with
 | none=>rw [hG] at hS0;cases hS0
 | some G=>
 rw [hG] at hS0;cases hS0
 obtain ⟨htop,hkind,_⟩:=j9 (E:=E) hG ha _
 have hm:MR E M w0 cs0 ν { top:=G,callers:=[],mem:=s0 } (lone (Frame.enter E.P f a.toArray .normal) cs0 w):=
  ⟨_,_,w,[],rfl,hr,hg,htop,by show aN E ν M w0 cs0 [] G.kind [] cs0;rw [hkind];exact .nil List.nodup_nil⟩
 exact hs cs0 ν _ M w0 (aA.Le.refl _) (bk.refl hro hh) hm


theorem zJ (ν:aA):∀ {l:List SV} {a:Nat→Value},(∀ t x,l[t]?=some x→VR ν x (a t))→aj ν l ((List.range l.length).map a)
 | [],a,_=>by simpa using aj.nil
 | x::l,a,h=>by
  rw [List.length_cons,List.range_succ_eq_map,List.map_cons,List.map_map]
  exact aj.cons (h 0 x rfl) (zJ ν (l:=l) (a:=a ∘ Nat.succ) fun t y hy=>h (t+1) y (by simpa using hy))

theorem Ek {g:FuncId} {args:List SV} {G:SF} {fr:Frame} {hl:List Nat} (hG:aP E g args .normal=some G) (ht:Em E ν M w0 hl s G fr):
  ∃ xs:List Value,aj ν args xs∧fr=Frame.enter E.P g xs.toArray .normal:=by
 unfold aP at hG
 split at hG
 ·rename_i fn hfn
  split at hG
  ·rename_i c hc
   cases hm:rU fn.ntmps args with
   | none=>rw [hm] at hG;cases hG
   | some tm=>
   rw [hm] at hG;cases hG
   obtain ⟨⟨h1,h2,h3,h4⟩,hrun,_⟩:=ht
   obtain ⟨hmode,hR⟩:=hrun rfl
   dsimp only at h1 h2 h3 h4 hR
   cases hR with
   | plain hT hk=>
   unfold rU at hm
   cases hcc:(Nat.ble args.length fn.ntmps&&Nat.ble fn.ntmps (2 ^ gg fn.ntmps))
   ·rw [hcc] at hm;cases hm
   rw [hcc] at hm;cases hm
   rw [Bool.and_eq_true,Nat.ble_eq,Nat.ble_eq] at hcc
   obtain ⟨hle,hn⟩:=hcc
   obtain ⟨hf,hget⟩:=tt (gg fn.ntmps) args 0 (Tr.mk (.v undef) (gg fn.ntmps)) (Tr.iR _ _) (by omega)
   have hT':∀ t,t<fn.ntmps→VR ν ((args[t]?).getD (.v undef)) (fr.tmps.getD t undef):=by
    intro t ht
    have:=hT.get t ht
    have e:=hget t (by omega)
    rw [if_pos (Nat.zero_le _),Tr.rD,Nat.sub_zero] at e
    dsimp only at this
    rw [e] at this;exact this
   have hsz:fr.tmps.size=fn.ntmps:=hT.size
   refine ⟨(List.range args.length).map fun t=>fr.tmps.getD t undef,zJ ν fun t x hx=>?_,?_⟩
   ·have hlt:=(List.getElem?_eq_some_iff.1 hx).1
    have:=hT' t (by omega)
    rw [hx] at this;exact this
   ·have htm:fr.tmps=((List.range args.length).map fun t=>fr.tmps.getD t undef).toArray++Array.replicate (fn.ntmps - ((List.range args.length).map fun t=>fr.tmps.getD t undef).toArray.size) undef:=by
     apply Array.ext
     ·simp;omega
     ·intro t ht1 ht2
      rw [Array.getElem_append]
      split
      ·rename_i hlt
       simp [ht1]
      ·rename_i hge
       have hge:args.length≤t:=by simpa using hge
       have:=hT' t (by omega)
       rw [List.getElem?_eq_none hge] at this
       have e:=VR.ab.1 this
       have e2:fr.tmps.getD t undef=fr.tmps[t]:=by simp [Array.getD,ht1]
       rw [← e2,e]
       simp
    have hks:fr.todo=[.code c]:=by
     generalize fr.todo=ys at hk
     cases hk with
     | cons hx hk=>cases hx;cases hk;rfl
    have hd:fr.defers=[]:=h2
    have hro:fr.roundOf=none:=h4
    generalize hxs:((List.range args.length).map fun t=>fr.tmps.getD t undef)=xs at htm
    obtain ⟨f1,f2,f3,f4,f5,f6,f7⟩:=fr
    dsimp only at *
    subst h1 hd h3 hro hmode hks
    simp only [Frame.enter,hfn,Option.map_some,Option.getD_some,Option.bind_some,hc]
    congr 1
  ·cases hG
 ·cases hG

theorem ao.call {G F:SF} {Fs:List SF} {g:FuncId} {args:List SV} (hG:aP E g args .normal=some G)
  (hc:∀ ν' M1 w1 w a cs,ν.Le ν'→bk M w0 M1 w1→HR ν' M1 w1 s w→GR ν' E→aj ν' args a→aN E ν' M1 w1 cs0 [] .normal (F::Fs) cs→
   Calls E.P g a.toArray w fun e w'=>∃ y,e=.returned y∧∀ fr cs',cs=fr::cs'→Fin E.P f cs0 R (lone (fr.finish y) cs' w')):ao E M w0 cs0 f R ν ⟨G,F::Fs,s⟩:=by
 intro ν' m M1 w1 hle hB hm
 obtain ⟨fr,cs,w,hl,rfl,hr,hg,htop,hcal⟩:=hm
 obtain ⟨xs,hxs,rfl⟩:=Ek hG htop
 have hcal:=hcal.clear
 have hk:G.kind=.normal:=by
  unfold aP at hG
  split at hG
  ·split at hG
   ·obtain ⟨tm,_,h⟩:=Option.map_eq_some_iff.1 hG
    rw [← h]
   ·cases hG
  ·cases hG
 dsimp only at hcal
 rw [hk] at hcal
 have hC:=hc ν' M1 w1 w xs cs hle hB hr hg hxs hcal
 cases hcal with
 | wait hw ht=>
 rename_i fr0 cs1
 obtain ⟨e,w',fr,⟨y,rfl,hfin⟩,hcomes,_,hleave⟩:=hC (fr0::cs1)
 refine (hfin fr0 cs1 rfl).steps (Steps.trans hcomes (.one (step_leave_returned hleave)))


abbrev Hp:=Nat→Option Obj
def Hp.Sub (H H':Hp):Prop:=∀ b o,H b=some o→H' b=some o
theorem Hp.Sub.refl (H:Hp):H.Sub H:=fun _ _ h=>h
theorem Hp.Sub.trans {A B C:Hp} (h:A.Sub B) (k:B.Sub C):A.Sub C:=fun b o e=>k b o (h b o e)
def _root_.Go.World.hp (w:World):Hp:=fun b=>w.heap[b]?
def Hp.grow (H:Hp) (w w':World):Hp:=fun b=>if b<w.heap.size then H b else w'.heap[b]?
theorem Hp.cT {H:Hp} {w w':World} (h:H.Sub w.hp):H.Sub (H.grow w w'):=by
 intro b o hb
 have:=(Array.getElem?_eq_some_iff.1 (h b o hb)).1
 simp only [Hp.grow,if_pos this];exact hb
theorem Hp.qC {H:Hp} {w w':World} (h:H.Sub w.hp) (k:Below w.heap.size w w'):(H.grow w w').Sub w'.hp:=by
 intro b o hb
 simp only [Hp.grow] at hb
 split at hb
 ·rename_i hlt;exact (k.block b hlt).trans (h b o hb)
 ·exact hb

structure Kept (H0:Hp) (M00:Own) (w00:World) (H:Hp) (M:Own) (w:World):Prop where
 sub0:H0.Sub H
 still:∀ b o,H b=some o→b<w.heap.size∧¬ M b∧w.heap[b]?=some o
 old:∀ b o,b<w00.heap.size→H b=some o→H0 b=some o
 base:bk M00 w00 M w

theorem Kept.start {H0:Hp} {M:Own} {w:World} (h:H0.Sub w.hp) (hM:∀ b o,H0 b=some o→¬ M b) (hr:∀ b,M.r b→b<w.heap.size) (hh:∀ b,¬ M.h b):Kept H0 M w H0 M w:=
 ⟨Hp.Sub.refl _,fun b o hb=>⟨(Array.getElem?_eq_some_iff.1 (h b o hb)).1,hM b o hb,h b o hb⟩,fun _ _ _ h=>h,bk.refl hr hh⟩

theorem Kept.now {H0 H:Hp} {M00 M M1:Own} {w00 w0 w1 w:World} (k:Kept H0 M00 w00 H M w0) (hB:bk M w0 M1 w1) (hr:HR ν M1 w1 s w):H.Sub w.hp:=by
 intro b o hb
 obtain ⟨h1,h2,h3⟩:=k.still b o hb
 obtain ⟨h4,h5⟩:=hB.frame b h1 h2
 exact (hr.frame b (Nat.lt_of_lt_of_le h1 hB.size) h5).trans (h4.trans h3)

theorem bk.trans {M0 M M1 : Own} {w00 w0 w1 : World} (h : bk M0 w00 M w0) (k : bk M w0 M1 w1) : bk M0 w00 M1 w1 :=
  ⟨Nat.le_trans h.size k.size, k.os.trans h.os, k.tape.trans h.tape, k.output.trans h.output,
   fun b hb hM => by obtain ⟨h1, h2⟩ := h.frame b hb hM; obtain ⟨h3, h4⟩ := k.frame b (Nat.lt_of_lt_of_le hb h.size) h2; exact ⟨h3.trans h1, h4⟩,
   fun b hb => h.own b (k.own b hb), fun b => (k.ro b).trans (h.ro b), fun b hb => h.own b (k.hid b hb), k.rlt⟩

def tj (E:Env) (F:SF):Bool:=match F.todo with
 | .drw ops rem _::_=>rem.all fun i=>!late E ops (Region.before ops) F.tm.nt i
 | _=>true

theorem pF {F:SF} {fr:Frame} {hl:List Nat} (h:tj E F=true) (hw:dZ E ν M w0 hl F fr):hl=[]:=by
 obtain ⟨fn,tm,todo,defers,ret,kind,ro⟩:=F
 obtain ⟨fn',tmps,todo',defers',mode',kind',ro'⟩:=fr
 obtain ⟨_,hret,hmode,hw⟩:=hw
 dsimp only at hw
 cases hw with
 | plain ht hk=>rfl
 | drw hok hn d hnl hk=>
  rename_i ops e rem pend L lag z k k' _
  unfold tj at h
  dsimp only at h
  cases lag with
  | nil=>rfl
  | cons q lag=>
   exfalso
   have hm:=d.lagrem q List.mem_cons_self
   obtain ⟨o,dd,r,h1,h2,h3,_⟩:=d.lagged q List.mem_cons_self
   have:=List.all_eq_true.1 h q.1 hm
   have hs:tmps.size=tm.nt:=d.size.trans d.tm.size
   rw [hs] at h2
   rw [h2] at this
   cases this

def cg (ν:aA) (M:Own) (s:SH):Own:=⟨fun b=>∃ i x c,i<2 ^ s.d∧s.H.get i=some (x,true)∧ν i=some (b,c),M.r,fun _=>False⟩

theorem ao.HO {G F:SF} {g:FuncId} {args:List SV} (hG:aP E g args .normal=some G) (hlag:tj E F=true) {H0 H:Hp} {M00:Own} {w00:World} (hk:Kept H0 M00 w00 H M w0)
  (hc:∀ ν' w a,ν.Le ν'→H.Sub w.hp→GR ν' E→aj ν' args a→
   Calls E.P g a.toArray w fun e w'=>Below w.heap.size w w'∧∃ y x,e=.returned y∧VR ν' x y∧(∀ M2,Kept H0 M00 w00 (H.grow w w') M2 w'→
    ∃ F' s3,finish E F x s=some (F',s3)∧s3.ob∧ao E M2 w' cs0 f R ν' ⟨F',[],s3⟩)):ao E M w0 cs0 f R ν ⟨G,[F],s⟩:=by
 refine ao.call hG fun ν' M1 w1 w a cs hle hB hr hg ha hcal=>?_
 have hsub:=hk.now hB hr
 refine (hc ν' w a hle hsub hg ha).mono fun e w' ⟨hbel,y,x,he,hv,hnext⟩=>⟨y,he,fun fr cs' hcs=>?_⟩
 subst hcs
 have hown:∀ b,(cg ν' M1 s) b→b<w.heap.size∧(w1.heap.size≤b∨M1 b):=by
  rintro b ⟨i,x,c,hi,hx,hb⟩
  obtain ⟨b',o,hb',ho,_,h4⟩:=hr.obj i hi _ hx
  rw [hb] at hb';cases hb'
  exact ⟨(Array.getElem?_eq_some_iff.1 ho).1,h4 rfl⟩
 have hB2:bk M w0 (cg ν' M1 s) w':=by
  refine ⟨Nat.le_trans hB.size (Nat.le_trans hr.size hbel.size),hbel.os.trans (hr.os.trans hB.os),hbel.tape.trans (hr.tape.trans hB.tape),hbel.output.trans (hr.output.trans hB.output),fun b hb hM=>?_,fun b hb=>?_,hB.ro,fun b h=>h.elim,fun b hb=>?_⟩
  ·obtain ⟨h1,h2⟩:=hB.frame b hb hM
   have hb1:=Nat.lt_of_lt_of_le hb hB.size
   refine ⟨(hbel.block b (Nat.lt_of_lt_of_le hb1 hr.size)).trans ((hr.frame b hb1 h2).trans h1),fun hl=>?_⟩
   rcases (hown b hl).2 with h | h
   ·omega
   ·exact h2 h
  ·rcases hb with hb | hb
   ·exact .inl (Nat.le_trans hB.size (Nat.le_trans hr.size (Nat.le_trans hbel.size hb)))
   ·exact hB.own b (hown b hb).2
  ·exact Nat.lt_of_lt_of_le (hB.rlt b hb) (Nat.le_trans hr.size hbel.size)
 have hK2:Kept H0 M00 w00 (H.grow w w') (cg ν' M1 s) w':=by
  refine ⟨hk.sub0.trans (Hp.cT hsub),fun b o hb=>?_,fun b o hb h=>?_,hk.base.trans hB2⟩
  ·have hw':=Hp.qC hsub hbel b o hb
   refine ⟨(Array.getElem?_eq_some_iff.1 hw').1,fun hl=>?_,hw'⟩
   obtain ⟨h1,h2⟩:=hown b hl
   simp only [Hp.grow,if_pos h1] at hb
   obtain ⟨h3,h4,_⟩:=hk.still b o hb
   have h5:=(hB.frame b h3 h4).2
   rcases h2 with h | h
   ·have:=hB.size;omega
   ·exact h5 h
  ·have hlt:b<w.heap.size:=Nat.lt_of_lt_of_le hb (Nat.le_trans hk.base.size (Nat.le_trans hB.size hr.size))
   simp only [Hp.grow,if_pos hlt] at h
   exact hk.old b o hb h
 obtain ⟨F',s3,hfin,ob,hsafe⟩:=hnext _ hK2
 have oQ:HR ν' (cg ν' M1 s) w' s w':=by
  have hg:=hr.grow hbel
  refine ⟨hg.full,hg.dom,hg.fresh,fun i hi x hx=>?_,hg.inj,Nat.le_refl _,fun _ _ _=>rfl,hg.ro,rfl,rfl,rfl⟩
  obtain ⟨b,o,h1,h2,h3,h4⟩:=hg.obj i hi x hx
  refine ⟨b,o,h1,h2,h3,fun hm=>.inr ⟨i,x.1,b.2,hi,?_,h1⟩⟩
  rw [hx,← hm]
 cases hcal with
 | wait hw ht=>
 have hhl:=pF hlag hw
 subst hhl
 have hw2:dZ E ν' (cg ν' M1 s) w' [] F fr:=⟨hw.base,hw.ret,hw.mode,hw.todo.cy fun b hb=>by cases hb⟩
 have ht2:aN E ν' (cg ν' M1 s) w' cs0 [] F.kind [] cs':=by
  generalize F.kind=kk at ht
  cases ht with
  | nil h=>exact .nil List.nodup_nil
 obtain ⟨_,hMR⟩:=dm hw2 oQ hg hv hfin ht2 ob
 exact hsafe ν' _ _ _ (aA.Le.refl _) (bk.refl (fun b hb=>hB2.rlt b hb) fun b h=>h) hMR
end

def aA.ren (ν:aA) (ren:List (Nat × Nat)):aA:=fun i=>(ren.lookup i).bind ν

def CX:SV→Option (List SV)
 | .agg m=>some m
 | .v (.agg cs)=>some (cs.toList.map .v)
 | _=>none
def Dk:SV→Option (List SV)
 | .tup m=>some m
 | .v (.tuple cs)=>some (cs.toList.map .v)
 | _=>none
def tq:SV→Option (TypeId × SV)
 | .iface u y=>some (u,y)
 | .v (.iface u y)=>some (u,.v y)
 | _=>none

theorem Du {ν:aA} {b:SV} {m:List SV} {y:Value} (h:CX b=some m) (hv:VR ν b y):∃ a:List Value,y=.agg a.toArray∧aj ν m a:=by
 unfold CX at h
 split at h
 ·cases h;exact VR.aW.1 hv
 ·rename_i cs
  cases h;rw [VR.ab.1 hv];exact ⟨cs.toList,by simp,aj.lits ν _⟩
 ·cases h
theorem Ds {ν:aA} {b:SV} {m:List SV} {y:Value} (h:Dk b=some m) (hv:VR ν b y):∃ a:List Value,y=.tuple a.toArray∧aj ν m a:=by
 unfold Dk at h
 split at h
 ·cases h;exact VR.bN.1 hv
 ·rename_i cs
  cases h;rw [VR.ab.1 hv];exact ⟨cs.toList,by simp,aj.lits ν _⟩
 ·cases h
theorem yz {ν:aA} {b:SV} {u:TypeId} {z:SV} {y:Value} (h:tq b=some (u,z)) (hv:VR ν b y):∃ v,y=.iface u v∧VR ν z v:=by
 unfold tq at h
 split at h
 ·cases h;exact VR.aK.1 hv
 ·cases h;exact ⟨_,VR.ab.1 hv,VR.ab.2 rfl⟩
 ·cases h

mutual
def uq (ren:List (Nat × Nat)):SV→SV→List Prop
 | .aM=>fun _=>[]
 | .v x=>fun b=>match cU b with | some z=>[z=x] | none=>[False]
 | .ptr j o=>fun b=>match b with | .ptr i o'=>bif ren.lookup j==some i then [o'=o] else [False] | _=>[False]
 | .sl j o l c=>fun b=>match b with | .sl i o' l' c'=>bif ren.lookup j==some i then [o'=o∧l'=l∧c'=c] else [False] | _=>[False]
 | .map j=>fun b=>match b with | .map i=>bif ren.lookup j==some i then [] else [False] | _=>[False]
 | .agg l=>fun b=>match CX b with | some m=>Ej ren l m | none=>[False]
 | .tup l=>fun b=>match Dk b with | some m=>Ej ren l m | none=>[False]
 | .iface t x=>fun b=>match tq b with | some (u,y)=>bif t==u then uq ren x y else [False] | none=>[False]
 | .func fn p q=>fun b=>match b with | .func gn c d=>(gn=fn)::(Ej ren p c++Ej ren q d) | _=>[False]
 | .yield _=>fun _=>[False]
 | .fin j o l a=>fun b=>match b with | .fin i o' l' a'=>bif ren.lookup j==some i then [o'=o∧l'=l∧a'=a] else [False] | _=>[False]
def Ej (ren:List (Nat × Nat)):List SV→List SV→List Prop
 | []=>fun m=>match m with | []=>[] | _=>[False]
 | x::xs=>fun m=>match m with | y::ys=>uq ren x y++Ej ren xs ys | []=>[False]
end

theorem af.both:∀ {l m:List Prop},af l→af m→af (l++m)
 | [],_,_,k=>k
 | _::_,_,h,k=>⟨af.both h.1 k,h.2⟩
theorem cw {l m:List Prop}:af (l++m)↔af l∧af m:=⟨af.append,fun ⟨h,k⟩=>h.both k⟩
theorem jz {p:Prop}:af [p]↔p:=⟨fun h=>h.2,fun h=>⟨trivial,h⟩⟩
theorem ku {p:Prop} {l:List Prop}:af (p::l)↔af l∧p:=Iff.rfl
theorem aC {q:Prop} (h:af [False]):q:=(jz.1 h).elim

theorem dn {b:Bool} {l:List Prop} (h:af (bif b then l else [False])):b=true∧af l:=by
 cases b
 ·exact aC h
 ·exact ⟨rfl,h⟩

theorem eW {ν:aA} {ren:List (Nat × Nat)} {j i:Nat} (h:(ren.lookup j==some i)=true) {b:Nat × Nat} (hb:ν i=some b):(ν.ren ren) j=some b:=by
 unfold aA.ren
 rw [show ren.lookup j=some i by simpa using h];exact hb

mutual
theorem jl {ν:aA} {ren:List (Nat × Nat)}:∀ {a b:SV} {y:Value},af (uq ren a b)→VR ν b y→VR (ν.ren ren) a y
 | .aM,_,_,_,_=>by rw [VR];trivial
 | .v x,b,y,h,hv=>by
  rw [uq] at h
  dsimp only at h
  split at h
  ·rename_i z hz
   rw [VR,fi hz hv];exact jz.1 h
  ·exact aC h
 | .ptr j o,b,y,h,hv=>by
  rw [uq] at h
  dsimp only at h
  split at h
  ·obtain ⟨h1,h2⟩:=dn h
   obtain ⟨c,hc,rfl⟩:=VR.aw.1 hv
   obtain rfl:=jz.1 h2
   exact VR.aw.2 ⟨c,eW h1 hc,rfl⟩
  ·exact aC h
 | .sl j o l c,b,y,h,hv=>by
  rw [uq] at h
  dsimp only at h
  split at h
  ·obtain ⟨h1,h2⟩:=dn h
   obtain ⟨d,hd,hl,rfl⟩:=VR.ay.1 hv
   obtain ⟨rfl,rfl,rfl⟩:=jz.1 h2
   exact VR.ay.2 ⟨d,eW h1 hd,hl,rfl⟩
  ·exact aC h
 | .map j,b,y,h,hv=>by
  rw [uq] at h
  dsimp only at h
  split at h
  ·obtain ⟨h1,_⟩:=dn h
   obtain ⟨d,hd,rfl⟩:=VR.bM.1 hv
   exact VR.bM.2 ⟨d,eW h1 hd,rfl⟩
  ·exact aC h
 | .agg l,b,y,h,hv=>by
  rw [uq] at h
  dsimp only at h
  split at h
  ·rename_i m hm
   obtain ⟨a,rfl,ha⟩:=Du hm hv
   exact VR.aW.2 ⟨a,rfl,nG h ha⟩
  ·exact aC h
 | .tup l,b,y,h,hv=>by
  rw [uq] at h
  dsimp only at h
  split at h
  ·rename_i m hm
   obtain ⟨a,rfl,ha⟩:=Ds hm hv
   exact VR.bN.2 ⟨a,rfl,nG h ha⟩
  ·exact aC h
 | .iface t x,b,y,h,hv=>by
  rw [uq] at h
  dsimp only at h
  split at h
  ·rename_i u z hz
   obtain ⟨h1,h2⟩:=dn h
   obtain rfl:t=u:=by simpa using h1
   obtain ⟨v,rfl,hv'⟩:=yz hz hv
   exact VR.aK.2 ⟨v,rfl,jl h2 hv'⟩
  ·exact aC h
 | .func fn p q,b,y,h,hv=>by
  rw [uq] at h
  dsimp only at h
  split at h
  ·obtain ⟨h1,h2⟩:=ku.1 h
   obtain ⟨h3,h4⟩:=cw.1 h1
   obtain rfl:=h2
   obtain ⟨a',b',rfl,ha,hb⟩:=VR.cY.1 hv
   exact VR.cY.2 ⟨a',b',rfl,nG h3 ha,nG h4 hb⟩
  ·exact aC h
 | .yield _,b,y,h,hv=>by rw [uq] at h;exact aC h
 | .fin j o l a,b,y,h,hv=>by
  rw [uq] at h
  dsimp only at h
  split at h
  ·obtain ⟨h1,h2⟩:=dn h
   obtain ⟨d,hd,rfl⟩:=VR.dy.1 hv
   obtain ⟨rfl,rfl,rfl⟩:=jz.1 h2
   exact VR.dy.2 ⟨d,eW h1 hd,rfl⟩
  ·exact aC h
theorem nG {ν:aA} {ren:List (Nat × Nat)}:∀ {l m:List SV} {ys:List Value},af (Ej ren l m)→aj ν m ys→aj (ν.ren ren) l ys
 | [],m,ys,h,hv=>by
  rw [Ej] at h
  dsimp only at h
  split at h
  ·rw [hv.aq];exact aj.nil
  ·exact aC h
 | x::xs,m,zs,h,hv=>by
  rw [Ej] at h
  dsimp only at h
  split at h
  ·obtain ⟨h1,h2⟩:=cw.1 h
   obtain ⟨u,us,rfl,hu,hus⟩:=hv.cons_inv
   exact aj.cons (jl h1 hu) (nG h2 hus)
  ·exact aC h
end


def ae:SV→Bool
 | .v _ | .aM=>true
 | _=>false
theorem kS {ν ν':aA}:∀ {l:List SV} {ys:List Value},l.all ae=true→aj ν l ys→aj ν' l ys
 | [],_,_,h=>by rw [h.aq];exact aj.nil
 | x::xs,ys,hc,h=>by
  obtain ⟨u,us,rfl,hu,hus⟩:=h.cons_inv
  simp only [List.all_cons,Bool.and_eq_true] at hc
  refine aj.cons ?_ (kS hc.2 hus)
  cases x <;> first | (rw [VR];trivial) | (rw [VR];exact VR.ab.1 hu) | (cases hc.1)

def wq (ren:List (Nat × Nat)) (eq:Bool) (xs ys:List SV):List Prop:=bif eq then [ys=xs,xs.all ae=true] else Ej ren xs ys
theorem ru {ν:aA} {ren:List (Nat × Nat)} {eq:Bool} {xs ys:List SV} {zs:List Value} (h:af (wq ren eq xs ys)) (hv:aj ν ys zs):aj (ν.ren ren) xs zs:=by
 unfold wq at h
 cases eq
 ·exact nG h hv
 ·obtain ⟨⟨_,h1⟩,h2⟩:=h
  subst h2
  exact kS h1 hv

def rm (ren:List (Nat × Nat)):List (SV × SV × Nat)→List (SV × SV × Nat)→List Prop
 | []=>fun m=>match m with | []=>[] | _=>[False]
 | x::xs=>fun m=>match m with | y::ys=>(uq ren x.1 y.1++uq ren x.2.1 y.2.1)++((y.2.2=x.2.2)::rm ren xs ys) | []=>[False]
theorem sL {ν:aA} {ren:List (Nat × Nat)}:∀ {l m:List (SV × SV × Nat)} {ds:List MapEntry},af (rm ren l m)→cJ ν m ds→cJ (ν.ren ren) l ds
 | [],m,ys,h,hv=>by
  unfold rm at h
  cases m with
  | nil=>exact hv
  | cons=>exact aC h
 | x::xs,m,zs,h,hv=>by
  unfold rm at h
  cases m with
  | nil=>exact aC h
  | cons y ys=>
   obtain ⟨h1,h2⟩:=cw.1 h
   obtain ⟨h3,h4⟩:=cw.1 h1
   obtain ⟨h5,h6⟩:=ku.1 h2
   obtain ⟨u,us,rfl,hk,hu,hb,hus⟩:=hv
   exact ⟨u,us,rfl,jl h3 hk,jl h4 hu,h6 ▸ hb,sL h5 hus⟩

def bo:SV→Bool
 | .v _ | .aM=>true
 | .agg l=>l.all ae
 | _=>false
theorem pS {ν ν':aA} {x:SV} {y:Value} (h:bo x=true) (hv:VR ν x y):VR ν' x y:=by
 cases x <;> first
  | (rw [VR];trivial)
  | exact VR.ab.2 (VR.ab.1 hv)
  | (obtain ⟨a,rfl,ha⟩:=VR.aW.1 hv;exact VR.aW.2 ⟨a,rfl,kS h ha⟩)
  | (cases h)
theorem nY {ν ν':aA}:∀ {l:List (SV × SV × Nat)} {ds:List MapEntry},(l.all fun e=>bo e.1&&bo e.2.1)=true→cJ ν l ds→cJ ν' l ds
 | [],_,_,h=>h
 | x::xs,ds,hc,h=>by
  obtain ⟨u,us,rfl,hk,hu,hb,hus⟩:=h
  simp only [List.all_cons,Bool.and_eq_true] at hc
  exact ⟨u,us,rfl,pS hc.1.1 hk,pS hc.1.2 hu,hb,nY (by simpa using hc.2) hus⟩
def tV (ren:List (Nat × Nat)) (eq:Bool) (es es':List (SV × SV × Nat)):List Prop:=bif eq then [es'=es,(es.all fun e=>bo e.1&&bo e.2.1)=true] else rm ren es es'
theorem xz {ν:aA} {ren:List (Nat × Nat)} {eq:Bool} {l m:List (SV × SV × Nat)} {ds:List MapEntry} (h:af (tV ren eq l m)) (hv:cJ ν m ds):cJ (ν.ren ren) l ds:=by
 unfold tV at h
 cases eq
 ·exact sL h hv
 ·obtain ⟨⟨_,h1⟩,h2⟩:=h
  subst h2
  exact nY h1 hv
def KQ (ren:List (Nat × Nat)):Option Nat→Option Nat→Prop
 | none,none=>True
 | some j,some i=>ren.lookup j=some i
 | _,_=>False

def FE (ren:List (Nat × Nat)) (eq:Bool):SO→SO→List Prop
 | .row xs e fz ext=>fun o=>match o with
  | .row ys e' fz' ext'=>bif e==e'&&fz==fz'&&ext==ext' then wq ren eq xs ys else [False]
  | _=>[False]
 | .look xs=>fun o=>match o with
  | .look ys=>wq ren eq xs ys
  | .row ys _ _ _=>wq ren eq xs ys
  | _=>[False]
 | .map es c=>fun o=>match o with
  | .map es' c'=>(c'=c)::tV ren eq es es'
  | _=>[False]
 | .miter m since seen st=>fun o=>match o with
  | .miter m' since' seen' st'=>[KQ ren m m',since'=since,seen'=seen,st'=st]
  | _=>[False]
 | .dfr none=>fun o=>match o with
  | .dfr none=>[]
  | _=>[False]
 | _=>fun _=>[False]

theorem nF.ren {ν:aA} {ren:List (Nat × Nat)} {j i n size:Nat} (h:(ren.lookup j==some i)=true) {e:Option Nat} (r:nF ν i n size e):nF (ν.ren ren) j n size e:=by
 cases e with
 | none=>exact r
 | some e=>obtain ⟨h1,b,hb,h2⟩:=r;exact ⟨h1,b,eW h hb,h2⟩

theorem tN {ν:aA} {ren:List (Nat × Nat)} {eq:Bool} {j i:Nat} (hji:(ren.lookup j==some i)=true) {a b:SO} {o:Obj} (h:af (FE ren eq a b)) (hv:OR ν i b o):OR (ν.ren ren) j a o:=by
 unfold FE at h
 split at h
 ·split at h
  ·obtain ⟨h1,h2⟩:=dn h
   rw [Bool.and_eq_true,Bool.and_eq_true] at h1
   obtain ⟨⟨h3,h4⟩,h5⟩:=h1
   have h3:=eq_of_beq h3
   have h4:=eq_of_beq h4
   have h5:=eq_of_beq h5
   subst h3 h4 h5
   obtain ⟨zs,rest,rfl,hz,hx⟩:=hv
   have hz':=ru h2 hz
   refine ⟨zs,rest,rfl,hz',?_⟩
   rw [← hz'.length,hz.length];exact hx.ren hji
  ·exact aC h
 ·split at h
  ·obtain ⟨zs,c,e,fz,rfl,hz,hc⟩:=hv
   exact ⟨zs,c,e,fz,rfl,ru h hz,hc⟩
  ·obtain ⟨zs,rest,rfl,hz,hx⟩:=hv
   exact ⟨zs,_,_,_,rfl,ru h hz,fun k y hy=>by simpa using getElem?_append_left' hy⟩
  ·exact aC h
 ·split at h
  ·obtain ⟨h1,h2⟩:=ku.1 h
   obtain ⟨l,rfl,hl⟩:=hv
   subst h2
   exact ⟨l,rfl,xz h1 hl⟩
  ·exact aC h
 ·rename_i m since seen st
  split at h
  ·rename_i m' since' seen' st'
   obtain ⟨⟨⟨⟨_,h4⟩,h3⟩,h2⟩,h1⟩:=h
   subst h2 h3 h4
   cases m with
   | none=>cases m' with
    | none=>exact hv
    | some i'=>exact h1.elim
   | some j'=>cases m' with
    | none=>exact h1.elim
    | some i'=>
     obtain ⟨b,hb,ho⟩:=hv
     exact ⟨b,eW (by rw [h1];simp) hb,ho⟩
  ·exact aC h
 ·split at h
  ·exact hv
  ·exact aC h
 ·exact aC h


def jT (l:List SI):Bool:=l.all fun x=>match x with
 | .code _ | .inBlock _ | .inLoop _ | .inScope _ | .reg _ _=>true
 | _=>false

theorem uo {ν ν':aA} {l:List SI} {ys:List Item} (hp:jT l=true) (h:qJ ν l ys):qJ ν' l ys:=by
 induction h with
 | nil=>exact .nil
 | cons hx hk ih=>
  simp only [jT,List.all_cons,Bool.and_eq_true] at hp
  refine .cons ?_ (ih hp.2)
  cases hx <;> first | exact .code _ | exact .inBlock _ | exact .inLoop _ | exact .inScope _ | exact .reg _ _ | (cases hp.1)

def EH (ren:List (Nat × Nat)) (a b:dG):List Nat→List Prop
 | []=>[]
 | t::ts=>uq ren (a.T.get t) (b.T.get t)++EH ren a b ts

theorem zN {ν:aA} {ren:List (Nat × Nat)} {a b:dG}:∀ {ts:List Nat},af (EH ren a b ts)→∀ t∈ts,∀ y,VR ν (b.T.get t) y→VR (ν.ren ren) (a.T.get t) y
 | [],_,_,ht=>by cases ht
 | u::ts,h,t,ht=>by
  unfold EH at h
  obtain ⟨h1,h2⟩:=cw.1 h
  rcases List.mem_cons.1 ht with rfl | ht
  ·exact fun y hy=>jl h1 hy
  ·exact zN h2 t ht

def qy (ren:List (Nat × Nat)) (eqs:List Nat) (T:SH):Nat→List (Option (SO × Bool))→List Prop
 | _,[]=>[]
 | j,none::l=>qy ren eqs T (j+1) l
 | j,some (o,m)::l=>(match ren.lookup j with
   | some i=>match T.look i with
    | some (o',m')=>bif m==m' then FE ren (eqs.contains j) o o' else [False]
    | none=>[False]
   | none=>[False])++qy ren eqs T (j+1) l

theorem mn {ren:List (Nat × Nat)} {eqs:List Nat} {T:SH}:∀ {l:List (Option (SO × Bool))} {j:Nat},af (qy ren eqs T j l)→∀ k o m,l[k]?=some (some (o,m))→
  ∃ i o',ren.lookup (j+k)=some i∧T.look i=some (o',m)∧af (FE ren (eqs.contains (j+k)) o o')
 | [],_,_,k,o,m,hk=>by simp at hk
 | none::l,j,h,k,o,m,hk=>by
  unfold qy at h
  cases k with
  | zero=>simp at hk
  | succ k=>
   have:=mn h k o m (by simpa using hk)
   rwa [show j+1+k=j+(k+1) by omega] at this
 | some (o0,m0)::l,j,h,k,o,m,hk=>by
  unfold qy at h
  obtain ⟨h1,h2⟩:=cw.1 h
  cases k with
  | zero=>
   simp only [List.getElem?_cons_zero,Option.some.injEq,Prod.mk.injEq] at hk
   obtain ⟨rfl,rfl⟩:=hk
   split at h1
   ·rename_i i hi
    split at h1
    ·rename_i o' m' hl
     obtain ⟨h3,h4⟩:=dn h1
     obtain rfl:m0=m':=by simpa using h3
     exact ⟨i,o',hi,hl,h4⟩
    ·exact aC h1
   ·exact aC h1
  | succ k=>
   have:=mn h2 k o m (by simpa using hk)
   rwa [show j+1+k=j+(k+1) by omega] at this

theorem lN {α:Type} {d:Nat}:∀ (l:List α) (i:Nat) (T:Tr α),Tr.Full d T→i+l.length≤2 ^ d→
  Tr.Full d (Tr.fill T i l)∧∀ t,t<2 ^ d→(Tr.fill T i l).get t=if i≤t then (l[t - i]?).getD (T.get t) else T.get t
 | [],i,T,h,_=>⟨h,fun t _=>by simp [Tr.fill]⟩
 | x::xs,i,T,h,hl=>by
  simp only [List.length_cons] at hl
  obtain ⟨h1,h2⟩:=lN xs (i+1) (T.set i x) (h.set _ _) (by omega)
  refine ⟨h1,fun t ht=>?_⟩
  rw [Tr.fill,h2 t ht,Tr.ct h (by omega) ht]
  by_cases e1:i+1≤t
  ·rw [if_pos e1,if_neg (show ¬ t=i by omega),if_pos (show i≤t by omega)]
   have:t - i=(t - (i+1))+1:=by omega
   rw [this,List.getElem?_cons_succ]
  ·rw [if_neg e1]
   by_cases e2:t=i
   ·subst e2;simp
   ·rw [if_neg e2,if_neg (show ¬ i≤t by omega)]

def SM.at (F:SF) (d:Nat) (l:List (Option (SO × Bool))):SM:={ top:=F,callers:=[],mem:=bc d l.length 0 l }

def yU (F:SF):Bool:=!F.ret&&F.ro.isNone&&F.defers.isEmpty&&(match F.kind with | .normal=>true | _=>false)

def fits (E:Env) (ren:List (Nat × Nat)) (eqs:List Nat) (F:SF) (d:Nat) (l:List (Option (SO × Bool))) (T:SM):List Prop:=
 bif Nat.beq F.fn T.top.fn&&yU F&&yU T.top&&T.callers.isEmpty&&jT F.todo&&Nat.beq F.tm.nt T.top.tm.nt&&Tr.full F.tm.d F.tm.T&&Nat.ble F.tm.nt (2 ^ F.tm.d)&&Nat.ble l.length (2 ^ d)
   && ren.all (fun r=>Nat.blt r.1 l.length)&&decide ((ren.map (·.1)).Nodup∧(ren.map (·.2)).Nodup)&&E.G.all (fun r=>ren.lookup r.2==some r.2) then
  EH ren F.tm T.top.tm (List.range F.tm.nt)++qy ren eqs T.mem 0 l
 else [False]

theorem vh {F:SF} (h:yU F=true):F.ret=false∧F.ro=none∧F.defers=[]∧F.kind=.normal:=by
 obtain ⟨fn,tm,todo,defers,ret,kind,ro⟩:=F
 unfold yU at h
 dsimp only at h
 rw [Bool.and_eq_true,Bool.and_eq_true,Bool.and_eq_true] at h
 obtain ⟨⟨⟨h1,h2⟩,h3⟩,h4⟩:=h
 refine ⟨by simpa using h1,by simpa using h2,by simpa using h3,?_⟩
 cases kind <;> first | rfl | cases h4

theorem fq {ren:List (Nat × Nat)} {j i:Nat} (h:ren.lookup j=some i):(j,i)∈ren:=by
 induction ren with
 | nil=>cases h
 | cons r l ih=>
  obtain ⟨g',k'⟩:=r
  rw [List.lookup_cons] at h
  split at h
  ·rename_i e
   cases h
   have e:j=g':=by simpa using e
   rw [e];exact List.mem_cons_self
  ·exact List.mem_cons_of_mem _ (ih h)

theorem r5 {ren:List (Nat × Nat)} (h:(ren.map (·.2)).Nodup) {a b i:Nat} (ha:(a,i)∈ren) (hb:(b,i)∈ren):a=b:=by
 obtain ⟨m,hm,e1⟩:=List.getElem_of_mem ha
 obtain ⟨n,hn,e2⟩:=List.getElem_of_mem hb
 have:m=n:=(List.getElem_inj (h₀:=by simpa using hm) (h₁:=by simpa using hn) h).1 (by simp [e1,e2])
 subst this
 rw [e1] at e2;exact (Prod.mk.inj e2).1

section
variable {E:Env} {ν:aA} {M:Own} {w0 w:World} {s s':SH} {cs0:List Frame} {f:FuncId} {R:Ending→World→Prop}

theorem MR.fits {ren:List (Nat × Nat)} {eqs:List Nat} {F:SF} {d:Nat} {l:List (Option (SO × Bool))} {T:SM} {m:Machine} (hm:MR E M w0 cs0 ν T m) (h:af (Go.Rx.fits E ren eqs F d l T)) (htodo:T.top.todo=F.todo):
  MR E M w0 cs0 (ν.ren ren) (SM.at F d l) m:=by
 unfold Go.Rx.fits at h
 obtain ⟨hb,h⟩:=dn h
 obtain ⟨h1,h2⟩:=cw.1 h
 simp only [Bool.and_eq_true] at hb
 obtain ⟨⟨⟨⟨⟨⟨⟨⟨⟨⟨⟨b1,b2⟩,b3⟩,b4⟩,b5⟩,b6⟩,b7⟩,b8⟩,b9⟩,b10⟩,b11⟩,b12⟩:=hb
 have b1:=Nat.eq_of_beq_eq_true b1
 have b6:=Nat.eq_of_beq_eq_true b6
 have b8:=Nat.le_of_ble_eq_true b8
 have b9:=Nat.le_of_ble_eq_true b9
 obtain ⟨hn1,hn2⟩:=of_decide_eq_true b11
 obtain ⟨r1,r2,r3,r4⟩:=vh b2
 obtain ⟨q1,q2,q3,q4⟩:=vh b3
 obtain ⟨fr,cs,w,hl,rfl,hr,hg,⟨⟨g1,g2,g3,g4⟩,hrun,_⟩,hc⟩:=hm
 have hcal:T.callers=[]:=List.isEmpty_iff.1 b4
 rw [hcal,q4] at hc
 obtain ⟨hmode,hR⟩:=hrun q1
 have hlk:∀ j i,ren.lookup j=some i→j<l.length:=fun j i h=>ca.1 (List.all_eq_true.1 b10 _ (fq h))
 rw [htodo] at hR
 have hpl:ia ν T.top.tm fr.tmps∧qJ ν F.todo fr.todo:=by
  revert hR b5
  generalize fr.todo=ys0
  generalize F.todo=xs
  intro b5 hR
  cases hR with
  | plain ht hk=>exact ⟨ht,hk⟩
  | drw hok hn d st hk=>simp [jT] at b5
 obtain ⟨ht,hk⟩:=hpl
 have ht':ia (ν.ren ren) F.tm fr.tmps:=by
  refine ⟨by rw [ht.size,b6],Tr.BK.1 b7,b8,fun t htt=>?_⟩
  exact zN h1 t (List.mem_range.2 htt) _ (ht.get t (by rw [← b6];exact htt))
 have hgetl:∀ i,i<2 ^ d→(bc d l.length 0 l).H.get i=(l[i]?).getD none:=by
  intro i hi
  obtain ⟨_,hf⟩:=lN l 0 (Tr.mk none d) (Tr.iR _ _) (by omega)
  have:=hf i hi
  rw [if_pos (Nat.zero_le _),Tr.rD,Nat.sub_zero] at this
  exact this
 have hobj:∀ i,i<2 ^ d→∀ x,(bc d l.length 0 l).H.get i=some x→∃ k o',ren.lookup i=some k∧T.mem.look k=some (o',x.2)∧af (FE ren (eqs.contains i) x.1 o'):=by
  intro i hi x hx
  rw [hgetl i hi] at hx
  have hx':l[i]?=some (some (x.1,x.2)):=by
   cases hli:l[i]? with
   | none=>rw [hli] at hx;cases hx
   | some y=>rw [hli] at hx;simp only [Option.getD_some] at hx;rw [hx]
  have:=mn h2 i x.1 x.2 hx'
  simpa using this
 have hr':HR (ν.ren ren) M w0 (bc d l.length 0 l) w:=by
  refine ⟨(lN l 0 (Tr.mk none d) (Tr.iR _ _) (by omega)).1,fun i hi=>?_,fun i hi=>?_,fun i hi x hx=>?_,fun i j hi hj hgi hgj b c hb hc' e=>?_,hr.size,hr.frame,fun i hi x hx hf b hb=>?_,hr.os,hr.tape,hr.output⟩
  ·have hi:2 ^ d≤i:=hi
   unfold aA.ren
   cases hlo:ren.lookup i with
   | none=>rfl
   | some k=>have:=hlk _ _ hlo;omega
  ·have hi:l.length≤i:=hi
   unfold aA.ren
   cases hlo:ren.lookup i with
   | none=>rfl
   | some k=>have:=hlk _ _ hlo;omega
  ·obtain ⟨k,o',hlo,hl',ho⟩:=hobj i hi x hx
   obtain ⟨_,_,b,oo,hb,hoo,hor,hown⟩:=hr.look hl'
   have hji:(ren.lookup i==some k)=true:=by rw [hlo];simp
   exact ⟨b,oo,eW hji hb,hoo,tN hji ho hor,hown⟩
  ·have hx:∀ u,u<2 ^ d→(bc d l.length 0 l).H.get u≠none→∀ b,(ν.ren ren) u=some b→∃ k,ren.lookup u=some k∧k<2 ^ T.mem.d∧T.mem.H.get k≠none∧ν k=some b:=by
    intro u hu hn b hb
    cases hxx:(bc d l.length 0 l).H.get u with
    | none=>exact absurd hxx hn
    | some x=>
     obtain ⟨k,o',hlo,hl',_⟩:=hobj u hu x hxx
     obtain ⟨k1,k2,_⟩:=hr.look hl'
     refine ⟨k,hlo,k1,by rw [k2];simp,?_⟩
     unfold aA.ren at hb
     rw [hlo] at hb;exact hb
   obtain ⟨k1,e1,l1,n1,v1⟩:=hx i hi hgi b hb
   obtain ⟨k2,e2,l2,n2,v2⟩:=hx j hj hgj c hc'
   have:=hr.inj k1 k2 l1 l2 n1 n2 b c v1 v2 e
   subst this
   exact r5 hn2 (fq e1) (fq e2)
  ·obtain ⟨k,o',hlo,hl',_⟩:=hobj i hi x hx
   obtain ⟨k1,k2,_⟩:=hr.look hl'
   unfold aA.ren at hb
   rw [hlo] at hb
   rw [hf] at k2
   exact hr.ro k k1 _ k2 rfl b hb
 have hg':GR (ν.ren ren) E:=by
  intro g i h
  obtain ⟨c,hc'⟩:=hg g i h
  have:=List.all_eq_true.1 b12 _ (fq h)
  exact ⟨c,eW this hc'⟩
 refine ⟨fr,cs,w,[],rfl,hr',hg',⟨⟨by rw [g1,← b1];rfl,?_,by rw [g3,q4];exact r4.symm,?_⟩,fun _=>⟨hmode,.plain ht' (uo b5 hk)⟩,fun hcon=>?_⟩,?_⟩
 ·show ib _ F.defers _
  rw [r3];rw [q3] at g2;exact g2
 ·show Iw _ F.ro _
  rw [r2];rw [q2] at g4;exact g4
 ·have hcon:F.ret=true:=hcon
  rw [r1] at hcon;cases hcon
 ·show aN _ _ _ _ _ _ F.kind [] _
  rw [r4]
  cases hc with
  | nil _=>exact .nil List.nodup_nil

theorem ao.fits {ren:List (Nat × Nat)} {eqs:List Nat} {F:SF} {d:Nat} {l:List (Option (SO × Bool))} {T:SM} (h:af (Go.Rx.fits E ren eqs F d l T)) (htodo:T.top.todo=F.todo)
  (hν:∀ i b,ν i=some b→ren.lookup i=some i) (hs:ao E M w0 cs0 f R ν (SM.at F d l)):ao E M w0 cs0 f R ν T:=by
 intro ν' m M1 w1 hle hB hm
 refine hs (ν'.ren ren) m M1 w1 (fun i b hb=>?_) hB (hm.fits h htodo)
 exact eW (by rw [hν i b hb];simp) (hle i b hb)


def HA (k:Nat) (S:SM):Bool:=S.callers.isEmpty&&!S.top.ret&&match S.top.todo with
 | .inLoop _::r=>Nat.beq r.length k
 | .code (.loop _)::r=>Nat.beq r.length k
 | _=>false

def Fl (E:Env) (k n:Nat) (S:SM):Option SM:=match rQ E (HA k) n S with
 | some T=>match jm E T with
  | some [U]=>some U
  | _=>none
 | none=>none

theorem ao.Fl (K:aE E M w0) {k n:Nat} {S U:SM} {o:List (Nat × c9)} (h:Go.Rx.Fl E k n (S.with o)=some U) (ob:U.mem.ob) (hs:ao E M w0 cs0 f R ν U):ao E M w0 cs0 f R ν S:=by
 unfold Go.Rx.Fl at h
 split at h
 ·rename_i T hT
  split at h
  ·rename_i V hV
   cases h
   have obT:T.mem.ob:=(p7 hV).2 U List.mem_cons_self ob
   refine ao.go K hT obT fun ν' m M1 w1 hle hB hm=>?_
   obtain ⟨S',hS',hS⟩:=vp K hB hm hV
   obtain rfl:=List.mem_singleton.1 hS'
   obtain ⟨_,ν2,m',M2,w2,hle2,hst,hB2,hMR⟩:=hS ob
   exact (hs ν2 m' M2 w2 (hle.trans hle2) hB2 hMR).steps hst
  ·cases h
 ·cases h
end
end Go.Rx
