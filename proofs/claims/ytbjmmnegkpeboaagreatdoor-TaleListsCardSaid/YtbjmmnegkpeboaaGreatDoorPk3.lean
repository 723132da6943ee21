/- What the law TaleLists leans on, part 3: the symbolic executor, proved sound, contracts of functions, plain lemmas. By an AI agent. -/
import Derived.Test.YtbjmmnegkpeboaaGreatDoorPk2
import Derived.Test.YtbjmmnegkpeboaaGreatDoorChecked
import Derived.IntWalk
import Derived.Shelf.LaysM
import Derived.Shelf.Strings.Cut
import Derived.Shelf.Small.Strs
import Derived.WalkSmall
set_option linter.unusedSimpArgs false
set_option linter.unusedVariables false
set_option maxRecDepth 100000
noncomputable section
namespace Go.Rx
open Go.RowKit (Below)
def oy (E:Env)(S:SM):Option (Nat × Nat × Nat × List Nat × Nat × List (SV × SV × Nat) × Nat):=
 bif S.top.ret then none else match S.top.todo with
 | .reg ops (i::_)::_=>match ops[i]? with
  | some o=>match o.guard,o.op with
   | none,.next it false=>match bq E S.top.tm it with
    | .ptr iter 0=>match S.mem.look iter with
     | some (.miter (some m) since seen last,true)=>match S.mem.look m with
      | some (.map es clock,_)=>some (iter,m,since,seen,last,es,clock)
      | _=>none
     | _=>none
    | _=>none
   | _,_=>none
  | none=>none
 | _=>none
def jX (E:Env)(S:SM):Bool:=(oy E S).isSome
def ln (E:Env)(S:SM)(e:SV × SV × Nat):Option SM:=match oy E S with
 | some (iter,m,since,seen,_,_,clock)=>(finish E S.top (.tup [.v (.bool true),e.1,e.2.1]) (S.mem.put iter (.miter (some m) since (seen++[e.2.2]) clock))).map fun r=>{ top:=r.1,callers:=S.callers,mem:=r.2 }
 | none=>none
def k8 (E:Env)(S:SM):Option SM:=(finish E S.top (.v (.tuple #[.bool false])) S.mem).map fun r=>{ top:=r.1,callers:=S.callers,mem:=r.2 }
theorem vN {f:dG × SH->Option (List SM)}:∀ {l:List (dG × SH)},(∀ x∈l,∃ T,f x=some [T])->∃ Ls,pj l f=some Ls/\∀ T∈Ls,∃ x∈l,f x=some [T]
 | [],_=>⟨[],rfl,fun _ h=>by cases h⟩
 | x::xs,h=>by
  obtain⟨T,hT⟩:=h x Wj
  obtain⟨Ls,h1,h2⟩:=vN fun y hy=>h y (Wc _ hy)
  refine⟨T::Ls,by simp[pj,hT,h1],fun U hU=>?_⟩
  rcases V8.1 hU with rfl|hU
  ·exact⟨x,Wj,hT⟩
  ·obtain⟨y,hy,hf⟩:=h2 U hU
   exact⟨y,Wc _ hy,hf⟩
section
variable {E:Env}{ν:aP}{M:Own}{w0:World}{cs0:List Frame}{f:FuncId}{R:Ending->World->Prop}
theorem af.N8 (K:aK E M w0){S:SM}{Ls:List SM}(h:uj E S=some Ls)(hs:∀ T∈Ls,T.mem.ob/\af E M w0 cs0 f R ν T):af E M w0 cs0 f R ν S:=by
 intro ν' m M1 w1 hle hB hm;obtain⟨V,hV,Z4⟩:=yQ K hB hm h;obtain⟨ob,hgo⟩:=hs V hV;obtain⟨_,ν2,m',M2,w2,ZR,Ze,Γ,Z2⟩:=Z4 ob;exact (hgo ν2 m' M2 w2 (hle.trans ZR) Γ Z2).steps Ze
theorem af.next (K:aK E M w0){S:SM}{iter m since last clock:Nat}{seen:List Nat}{es:List (SV × SV × Nat)}(hd:oy E S=some (iter,m,since,seen,last,es,clock))
  (hfree:(!seen.isEmpty&&!es.isEmpty&&es.all fun e=>Nat.ble last e.2.2)=false)
  (hs:∀ e∈es,seen.contains e.2.2=false->∃ T,ln E S e=some T/\T.mem.ob/\af E M w0 cs0 f R ν T)
  (YI:(∀ e∈es,seen.contains e.2.2=false->Nat.blt e.2.2 since=false)->∃ T,k8 E S=some T/\T.mem.ob/\af E M w0 cs0 f R ν T):af E M w0 cs0 f R ν S:=by
 have hd0:=hd;unfold oy at hd;cases Y3:S.top.ret;rotate_left
 ·rw[Y3]at hd;cases hd
 rw[Y3,W5]at hd;split at hd
 ·rename_i ops i r k Zd;split at hd
  ·rename_i o ho;split at hd
   ·rename_i it hgd hop;split at hd
    ·rename_i iter' hit;split at hd
     ·rename_i m' since' seen' last' hl;split at hd
      ·rename_i es' clock' mk hm;cases hd;let old:=(es.filter fun e=>!seen.contains e.2.2).filter fun e=>Nat.blt e.2.2 since;let new:=(es.filter fun e=>!seen.contains e.2.2).filter fun e=>Nat.ble since e.2.2;let go:=(old++new).map fun e=>(SV.tup [.v (.bool true),e.1,e.2.1],S.mem.put iter (.miter (some m) since (seen++[e.2.2]) clock))
       have hn:kU (.ptr iter 0) false S.mem=some (bif old.isEmpty then (.v (.tuple #[.bool false]),S.mem)::go else go):=by
        show kU (.ptr iter 0) false S.mem=_;unfold kU;simp only[hl,hm,hfree,W5];rfl
       have Z4:uj E S=pj ((bif old.isEmpty then ((.v (.tuple #[.bool false]):SV),S.mem)::go else go).map fun r=>(dG.val r.1,r.2)) (after E S.top S.callers):=by
        unfold uj;simp only[Y3,W5,Zd,ho];unfold vT wanted;simp only[hgd];unfold j2;simp only[hop,hit,hn,Xb,V9]
       have Zj:∀ e∈old++new,e∈es/\seen.contains e.2.2=false:=fun e he=>by
        rcases WJ.1 he with he|he
        ·have h1:=(Wo.1 (Wo.1 he).1);exact⟨h1.1,by simpa using h1.2⟩
        ·have h1:=(Wo.1 (Wo.1 he).1);exact⟨h1.1,by simpa using h1.2⟩
       have hgo:∀ x∈(bif old.isEmpty then ((.v (.tuple #[.bool false]):SV),S.mem)::go else go).map (fun r=>(dG.val r.1,r.2)),∃ T,after E S.top S.callers x=some [T]/\T.mem.ob/\af E M w0 cs0 f R ν T:=fun x hx=>by
        obtain⟨y,hy,rfl⟩:=Wb.1 hx
        have hy':(y∈go)\/(y=((.v (.tuple #[.bool false]):SV),S.mem)/\old.isEmpty=true):=by
         cases hoe:old.isEmpty
         ·rw[hoe]at hy;exact .inl hy
         ·rw[hoe]at hy;rcases V8.1 hy with h|h
          ·exact .inr ⟨h,rfl⟩
          ·exact .inl h
        rcases hy' with hy|⟨rfl,hoe⟩
        ·obtain⟨e,he,rfl⟩:=Wb.1 hy;obtain⟨T,hT,Yw,hg⟩:=hs e (Zj e he).1 (Zj e he).2;refine⟨T,?_,Yw,hg⟩;unfold ln at hT;rw[hd0]at hT;dsimp only at hT;unfold after;obtain⟨r,hr,rfl⟩:=Wg.1 hT;dsimp only;rw[hr];rfl
        ·obtain⟨T,hT,Yw,hg⟩:=YI fun e he hc=>by
          cases hb:Nat.blt e.2.2 since
          ·rfl
          ·exfalso;have:e∈old:=Wo.2 ⟨Wo.2 ⟨he,by show (!seen.contains e.2.2)=true;rw[hc];rfl⟩,hb⟩;rw[XE.1 hoe]at this;cases this
         refine⟨T,?_,Yw,hg⟩;unfold k8 at hT;unfold after;obtain⟨r,hr,rfl⟩:=Wg.1 hT;dsimp only;rw[hr];rfl
       obtain⟨Ls,h1,h2⟩:=vN fun x hx=>let ⟨T,h,_⟩:=hgo x hx;⟨T,h⟩
       refine af.N8 K (Z4.trans h1) fun T hT=>?_;obtain⟨x,hx,hf⟩:=h2 T hT;obtain⟨U,hU,Yw,hg⟩:=hgo x hx;rw[hf]at hU;cases hU;exact⟨Yw,hg⟩
      ·cases hd
     ·cases hd
    ·cases hd
   ·cases hd
  ·cases hd
 ·cases hd
end
def gq (f g:Sum):Sum:=fun args s=>match s.orc s.dc with
 | some (.b true)=>f args s
 | some (.b false)=>g args s
 | _=>none
theorem bh.br {P:Program}{X:World->Prop}{h:FuncId}{f g:Sum}(hf:bh P X (h,f))(hg:bh P X (h,g)):bh P X (h,gq f g):=by
 refine⟨hf.1,fun args x s s' hx ob=>?_⟩;dsimp only at hx;unfold gq at hx;split at hx
 ·exact hf.2 args x s s' hx ob
 ·exact hg.2 args x s s' hx ob
 ·cases hx
def Hg {α:Type}(dec:List SV->α)(C:Nat):Nat->List SV->List α
 | 0,_=>[]
 | n+1,l=>dec (l.take C)::Hg dec C n (l.drop C)
theorem p9 {α:Type}{dec:List SV->α}{C:Nat}{g:α->List SV}(hg:∀ x,(g x).length=C)(hd:∀ x,dec (g x)=x):∀ (l:List α),Hg dec C l.length (l.flatMap g)=l
 | []=>rfl
 | x::l=>by
  show dec ((g x++l.flatMap g).take C)::Hg dec C l.length ((g x++l.flatMap g).drop C)=_
  rw[<- hg x,List.take_left,List.drop_left,hd,hg x,p9 hg hd l]
section
variable {E:Env}{ν:aP}{M:Own}{w0 w:World}{s s':SH}{cs0:List Frame}{f:FuncId}{R:Ending->World->Prop}
def eh (E:Env)(f:FuncId)(n:Nat)(S:SM)(o:List (Nat × gR))(ren:List (Nat × Nat))(x:SV):List Prop:=
 match po E SM.over n (S.with o) with
 | some T=>match ph E f T with
  | some (y,s')=>xS ren x y++s'.Y9
  | none=>[False]
 | none=>[False]
theorem af.eh (K:aK E M w0)(hM:∀ b,¬ M b){n:Nat}{S:SM}{o:List (Nat × gR)}{ren:List (Nat × Nat)}{x:SV}(h:ah (Go.Rx.eh E f n S o ren x))
  (hR:∀ ν' w' y,ν.Le ν'->VR (ν'.ren ren) x y->Below w0.heap.size w0 w'->R (.returned y) w'):af E M w0 cs0 f R ν S:=by
 unfold Go.Rx.eh at h;split at h
 ·rename_i T hT;split at h
  ·rename_i y s' YI;obtain⟨h1,h2⟩:=dX.1 h;refine af.go K hT (fV YI h2) (af.done YI h2 fun ν' M1 w1 w' u hle hB hv hr hg=>?_);exact hR ν' w' u hle (lD h1 hv) (aB hM hB hr)
  ·exact aN h
 ·exact aN h
end
def lq (g:List SV->SH->Option (SV × Prop)):Sum:=fun args s=>match g args s with
 | some (x,p)=>some (x,s.jh p)
 | none=>none
theorem mf {P : Program}{X : World -> Prop}{f : FuncId}{g : List SV -> SH -> Option (SV × Prop)}(hf : ∃ fn, P.funcs[f]? = some fn /\ fn.body.isSome = true /\ (fn.name == "runtime.NumGoroutine") = false)
  (h:∀ args s x p,g args s=some (x,p)->p->∀ ν M w0 w a,HR ν M w0 s w->X w->au ν args a->Calls P f a.toArray w fun e w'=>Below w.heap.size w w'/\∃ y,e=.returned y/\VR ν x y):bh P X (f,lq g):=by
 refine⟨hf,fun args x s s' hx ob=>?_⟩;dsimp only at hx;unfold lq at hx;split at hx
 ·rename_i v p hp;cases hx;exact⟨ob.1,fun ν M w0 w a hr hX ha=>(h args s _ _ hp ob.2 ν M w0 w a hr hX ha).mono fun e w' ⟨hB,y,he,hv⟩=>⟨hB,y,he,.same (SH.cn _ _) hv⟩⟩
 ·cases hx
abbrev MY:=List SV->SH->Option (List Value × Nat × Nat × TypeId × (SV->SV) × (Value->Value) × Prop)
def j0 (g:MY):Sum:=fun args s=>match g args s with
 | some (ys,n,C,elem,mk,_,p)=>(eW (.row (ys.map SV.v) elem (0,0) (some C)) (s.jh p)).map fun r=>(mk (.sl r.1 0 n none),r.2)
 | none=>none
theorem mq {P : Program}{X : World -> Prop}{f : FuncId}{g : MY}(hf : ∃ fn, P.funcs[f]? = some fn /\ fn.body.isSome = true /\ (fn.name == "runtime.NumGoroutine") = false)
  (hm:∀ args s ys n C elem mk mv p,g args s=some (ys,n,C,elem,mk,mv,p)->∀ (ν:aP) x y,VR ν x y->VR ν (mk x) (mv y))
  (h:∀ args s ys n C elem mk mv p,g args s=some (ys,n,C,elem,mk,mv,p)->p->∀ ν M w0 w a,HR ν M w0 s w->X w->au ν args a->Calls P f a.toArray w fun e w'=>Below w.heap.size w w'/\∃ y,e=.returned (mv y)/\cF w w' y ys n C elem):bh P X (f,j0 g):=by
 refine⟨hf,fun args x s s' hx ob=>?_⟩;dsimp only at hx;unfold j0 at hx;split at hx
 ·rename_i ys n C elem mk mv p hp;obtain⟨⟨i,s1⟩,hn,hx⟩:=Wg.1 hx;cases hx;unfold eW at hn;cases YB:(s.jh p).room
  ·rw[YB]at hn;cases hn
  rw[YB]at hn;simp only[WE]at hn;cases hn;have Z8:(s.jh p).ob:=ob;refine⟨Z8.1,fun ν M w0 w a hr hXw ha=>?_⟩;refine (h args s ys n C elem mk mv p hp Z8.2 ν M w0 w a hr hXw ha).mono fun e w' ⟨hB,y,he,b,c,rest,hy,hb,υ,ho,YX⟩=>?_;have hv:VR (ν.put (s.jh p).nx (b,c)) (.sl (s.jh p).nx 0 n none) y:=VR.aL.2 ⟨(b,c),aP.bO _ _ _,υ,hy⟩;refine⟨hB,_,he,.made (s.jh p) _ b c _ (SH.cn _ _) YB rfl hb ho ⟨ys,rest,by show _=_;simp,au.lits _ _,?_,(b,c),aP.bO _ _ _,YX⟩ (hm _ _ _ _ _ _ _ _ _ hp _ _ _ hv)⟩;simp
 ·cases hx
def wP (j:Nat)(b:Nat × Nat):SV->SV
 | .sl i 0 len none=>bif Nat.beq i j then .v (.slice (some ⟨b.1,0,none⟩) len b.2) else .sl i 0 len none
 | x=>x
def nM (j:Nat)(b:Nat × Nat):SV->SV
 | .agg l=>.agg (l.map (wP j b))
 | x=>x
def dJ (j:Nat)(b:Nat × Nat)(es:List (SV × SV × Nat)):List (SV × SV × Nat):=es.map fun e=>(e.1,nM j b e.2.1,e.2.2)
theorem D4 {ν:aP}{j:Nat}{b:Nat × Nat}(hj:ν j=some b){x:SV}{y:Value}(h:VR ν x y):VR ν (wP j b x) y:=by
 unfold wP;split
 ·rename_i i len;cases hi:Nat.beq i j
  ·exact h
  ·obtain rfl:=WM hi;obtain⟨b',Yy,_,rfl⟩:=VR.aL.1 h;rw[hj]at Yy;cases Yy;exact VR.ae.2 rfl
 ·exact h
theorem qX {ν:aP}{j:Nat}{b:Nat × Nat}(hj:ν j=some b):∀ {l:List SV} {ys:List Value},au ν l ys->au ν (l.map (wP j b)) ys
 | [],_,h=>h
 | x::l,_,h=>by
  obtain⟨z,zs,rfl,h1,h2⟩:=h.cons_inv
  exact au.cons (D4 hj h1) (qX hj h2)
theorem Dt {ν:aP}{j:Nat}{b:Nat × Nat}(hj:ν j=some b){x:SV}{y:Value}(h:VR ν x y):VR ν (nM j b x) y:=by
 unfold nM;split
 ·obtain⟨a,rfl,ha⟩:=VR.bx.1 h;exact VR.bx.2 ⟨a,rfl,qX hj ha⟩
 ·exact h
theorem vo {ν:aP}{j:Nat}{b:Nat × Nat}(hj:ν j=some b):∀ {es:List (SV × SV × Nat)} {ds:List MapEntry},eI ν es ds->eI ν (dJ j b es) ds
 | [],_,h=>h
 | x::xs,_,h=>by
  obtain⟨z,zs,rfl,h1,h2,h3,h4⟩:=h
  exact⟨z,zs,rfl,h1,Dt hj h2,h3,vo hj h4⟩
def SM.close (m j:Nat)(b:Nat × Nat)(es:List (SV × SV × Nat))(cl:Nat)(S:SM):SM:={ S with mem:=S.mem.put m (.map (dJ j b es) cl) }
def oH (S:SM):Bool:=match S.top.todo with|.drw _ _ _::_=>false|_=>true
section
variable {E:Env}{ν:aP}{M:Own}{w0 w:World}{s s':SH}{cs0:List Frame}{f:FuncId}{R:Ending->World->Prop}
end
def Hp.put (H:Hp)(b:Nat)(o:Obj):Hp:=fun x=>if x=b then some o else H x
theorem Hp.bO (H:Hp)(b:Nat)(o:Obj):H.put b o b=some o:=by simp[Hp.put]
def SM.KO (S:SM)(j:Nat):SM:={ S with mem:=S.mem.drop j }
section
variable {E:Env}{ν:aP}{M:Own}{w0 w:World}{s s':SH}{cs0:List Frame}{f:FuncId}{R:Ending->World->Prop}
theorem CW {M1:Own}{w1:World}(hr:HR ν M1 w1 s w):HR ν (dF ν M1 s) w s w:=by
 refine⟨hr.full,hr.dom,hr.fresh,fun i hi x hx=>?_,hr.inj,Wx _,fun _ _ _=>rfl,hr.ro,rfl,rfl,rfl⟩;obtain⟨b,o,h1,h2,h3,h4⟩:=hr.obj i hi x hx;refine⟨b,o,h1,h2,h3,fun hm=>.inr ⟨i,x.1,b.2,hi,?_,h1⟩⟩;rw[hx,<- hm]
theorem yz {M1:Own}{w1:World}(hr:HR ν M1 w1 s w){x:Nat}(h:(dF ν M1 s) x):x<w.heap.size/\(w1.heap.size<=x\/M1 x):=by
 obtain⟨i,y,c,hi,hy,hx⟩:=h;obtain⟨b',o,Yy,ho,_,h4⟩:=hr.obj i hi _ hy;rw[hx]at Yy;cases Yy;exact⟨(VY.1 ho).1,h4 rfl⟩
theorem DA {M1:Own}{w1:World}(hB:dh M w0 M1 w1)(hr:HR ν M1 w1 s w):dh M w0 (dF ν M1 s) w:=by
 refine⟨Wh hB.size hr.size,hr.os.trans hB.os,hr.tape.trans hB.tape,hr.output.trans hB.output,fun b hb hM=>?_,fun b hb=>?_,hB.ro,fun b h=>h.elim,fun b hb=>?_⟩
 ·obtain⟨h1,h2⟩:=hB.frame b hb hM;have Zs:=Wz hb hB.size;refine⟨(hr.frame b Zs h2).trans h1,fun hl=>?_⟩;rcases (yz hr hl).2 with h|h
  ·omega
  ·exact h2 h
 ·rcases hb with hb|hb
  ·exact .inl (Wh hB.size (Wh hr.size hb))
  ·exact hB.own b (yz hr hb).2
 ·exact Wz (hB.rlt b hb) hr.size
theorem af.freeze {H0 H:Hp}{ZP:Own}{w00:World}(hM00:∀ b,¬ ZP b)(hk:Kept H0 ZP w00 H M w0){S:SM}{j:Nat}{so:SO}(ZD:S.callers=[])(Y3:S.top.ret=false)(hd:oH S=true)(hj:S.mem.look j=some (so,true))
  (hs:∀ ν' b o M2 w2,ν.Le ν'->ν' j=some b->OR ν' j so o->Kept H0 ZP w00 (H.put b.1 o) M2 w2->H.Sub (H.put b.1 o)->w00.heap.size<=b.1->af E M2 w2 cs0 f R ν (S.KO j)):af E M w0 cs0 f R ν S:=by
 intro ν' m M1 w1 hle hB hm;obtain⟨fr,cs,w,hl,rfl,hr,hg,⟨h1,h2,h3⟩,hc⟩:=hm;obtain⟨hjlt,hjg,b,o,hb,ho,YA,YS⟩:=hr.look hj;have YS:=YS rfl;have hrd:=hr.drop hjlt;have hblt:b.1<w.heap.size:=(VY.1 ho).1
 have Yu:¬ (dF ν' M1 (S.mem.drop j)) b.1:=by
  rintro ⟨i,y,c,hi,hy,hx⟩
  have hy':(S.mem.H.set j none).get i=some (y,true):=hy;have hi':i<2 ^ S.mem.d:=hi;rw[Tr.dV hr.full hjlt hi']at hy';by_cases e:i=j
  ·rw[if_pos e]at hy';cases hy'
  ·rw[if_neg e]at hy';exact e (hr.inj i j hi' hjlt (by rw[hy'];simp) (by rw[hjg];simp) _ _ hx hb rfl)
 have Γ:=DA hB hrd
 have hHb:H b.1=none:=by
  cases hq:H b.1 with
  | none=>rfl
  | some o'=>
   obtain⟨q1,q2,_⟩:=hk.still _ _ hq;have q3:=(hB.frame _ q1 q2).2;rcases YS with h|h
   ·have:=hB.size;omega
   ·exact absurd h q3
 have Yv:H.Sub (H.put b.1 o):=fun x y hx=>by
  unfold Hp.put;by_cases e:x=b.1
  ·rw[e,hHb]at hx;cases hx
  ·rw[if_neg e];exact hx
 have hnow:=hk.now hB hr;have Z9:w00.heap.size<=b.1:=(hk.base.own _ (hB.own _ YS)).elim id fun h=>absurd h (hM00 _)
 have hK:Kept H0 ZP w00 (H.put b.1 o) (dF ν' M1 (S.mem.drop j)) w:=by
  refine⟨hk.Y1.trans Yv,fun x y hx=>?_,fun x y hx h=>?_,hk.base.trans Γ⟩
  ·unfold Hp.put at hx;by_cases e:x=b.1
   ·rw[if_pos e]at hx;cases hx;subst e;exact⟨hblt,Yu,ho⟩
   ·rw[if_neg e]at hx;obtain⟨q1,q2,_⟩:=hk.still _ _ hx;refine⟨Wz q1 (Wh hB.size hr.size),(Γ.frame _ q1 q2).2,hnow _ _ hx⟩
  ·unfold Hp.put at h;by_cases e:x=b.1
   ·subst e;exfalso;rcases hk.base.own _ (hB.own _ YS) with h|h
    ·omega
    ·exact hM00 _ h
   ·rw[if_neg e]at h;exact hk.old x y hx h
 have Yt:=(h2 Y3).2
 have hpl:hl=[]/\j3 ν' S.top.tm fr.tmps/\tx ν' S.top.todo fr.todo:=by
  revert Yt hd;unfold oH;generalize S.top.todo=xs;generalize fr.todo=ys;intro hd Yt;cases Yt with
  | plain ht hk=>exact⟨rfl,ht,hk⟩
  | drw Zr hn d st hk=>cases hd
 obtain⟨rfl,ht,hks⟩:=hpl
 have ZI:bo E ν' (dF ν' M1 (S.mem.drop j)) w cs0 [] S.top.kind S.callers cs:=by
  rw[ZD]at hc ⊢;generalize S.top.kind=kk at hc;cases hc with
  | nil _=>exact .nil XF
 exact hs ν' b o _ w hle hb YA hK Yv Z9 ν' _ _ w hle (dh.refl (fun x hx=>Γ.rlt x hx) fun x h=>h)
  ⟨fr,cs,w,[],rfl,CW hrd,hg,⟨h1,fun hf=>⟨(h2 Y3).1,.plain ht hks⟩,fun hf=>absurd (show S.top.ret=true from hf) (by rw[Y3];simp)⟩,ZI⟩
def fw (E:Env)(k n:Nat)(S:SM)(o:List (Nat × gR))(ren:List (Nat × Nat))(eqs:List Nat)(F:SF)(d:Nat)(l:List (Option (SO × Bool)))(m j:Nat)(so:SO)(b:Nat × Nat):List Prop:=
 match Ix E k n (S.with o) with
 | some T=>match T.mem.look m,T.mem.look j with
  | some (.map es cl,true),some (so',true)=>bif oH T&&T.callers.isEmpty&&!T.top.ret&&!Nat.beq m j&&Nat.blt m (2 ^ T.mem.d) then KL [(j,j)] true so so'++(fits E ren eqs F d l ((T.close m j b es cl).KO j)++T.mem.Y9) else [False]
  | _,_=>[False]
 | none=>[False]
theorem GB (hf:Tr.Full s.d s.H){m j:Nat}{o:SO}{x:SO × Bool}(hm:m<2 ^ s.d)(hj:s.look j=some x)(Yu:j≠m):(s.put m o).look j=some x:=by
 unfold SH.look at hj ⊢;show (bif Nat.blt j (2 ^ s.d) then (s.H.set m (some (o,true))).get j else none)=some x;cases hb:Nat.blt j (2 ^ s.d)
 ·rw[hb]at hj;cases hj
 ·rw[hb]at hj;simp only[WE]at hj ⊢;rw[Tr.dV hf hm (dw.1 hb),if_neg Yu];exact hj
theorem af.close' {S:SM}{m j cl:Nat}{es:List (SV × SV × Nat)}{x:SO × Bool}(hm:S.mem.look m=some (.map es cl,true))(hj:S.mem.look j=some x)(hd:oH S=true)
  (hs:∀ ν1 b,ν.Le ν1->ν1 j=some b->af E M w0 cs0 f R ν1 (S.close m j b es cl)):af E M w0 cs0 f R ν S:=by
 intro ν' mm M1 w1 hle hB hmr;obtain⟨fr,cs,w,hl,rfl,hr,hg,⟨h1,h2,h3⟩,hc⟩:=hmr;obtain⟨_,_,b,_,hb,_⟩:=hr.look hj;obtain⟨_,_,bm,ob,hbm,ho,YA,_⟩:=hr.look hm;refine hs ν' b hle hb ν' _ M1 w1 (aP.Le.refl _) hB ⟨fr,cs,w,hl,rfl,?_,hg,⟨h1,fun hf=>⟨(h2 hf).1,?_⟩,h3⟩,hc⟩
 ·refine hr.put hm hbm (r:=ob) ?_ ?_ rfl rfl rfl
  ·obtain⟨l,rfl,hl'⟩:=YA;exact⟨l,rfl,vo hb hl'⟩
  ·apply Array.ext
   ·simp
   ·intro k hk1 Zy;rw[XW];split
    ·rename_i h;have:=(VY.1 ho).2;subst h;exact this
    ·rfl
 ·have:=(h2 hf).2;revert this hd;show oH S=true->_->Eb E ν' M1 w1 _ hl S.top.tm S.top.todo fr.tmps fr.todo;unfold oH;generalize S.top.todo=xs;generalize fr.todo=ys;intro hd this;cases this with
  | plain ht hk=>exact .plain ht hk
  | drw Zr hn d st hk=>cases hd
theorem af.full {S:SM}(h:Tr.Full S.mem.d S.mem.H->af E M w0 cs0 f R ν S):af E M w0 cs0 f R ν S:=by
 intro ν' m M1 w1 hle hB hm;have hm':=hm;obtain⟨fr,cs,w,hl,rfl,hr,_⟩:=hm';exact h hr.full ν' _ M1 w1 hle hB hm
theorem af.fw (K:aK E M w0){H0 H:Hp}{ZP:Own}{w00:World}(hM00:∀ b,¬ ZP b)(hk:Kept H0 ZP w00 H M w0){k n d:Nat}{S:SM}{o:List (Nat × gR)}{ren:List (Nat × Nat)}{eqs:List Nat}{F:SF}{l:Nat × Nat->List (Option (SO × Bool))}{m j:Nat}{so:SO}
  (h:∀ b,ah (Go.Rx.fw E k n S o ren eqs F d (l b) m j so b)) (ht:dA E k n S o=F.todo) (hν:∀ i b,ν i=some b->ren.lookup i=some i)
  (hs:∀ ν1 b ob M2 w2,ν1 j=some b->OR ν1 j so ob->Kept H0 ZP w00 (H.put b.1 ob) M2 w2->H.Sub (H.put b.1 ob)->w00.heap.size<=b.1->af E M2 w2 cs0 f R ν (SM.at F d (l b))):af E M w0 cs0 f R ν S:=by
 have h0:=h (0,0);unfold Go.Rx.fw at h h0;unfold dA at ht;cases hT:Go.Rx.Ix E k n (S.with o) with
 | none=>rw[hT]at h0;exact aN h0
 | some T=>
  simp only[hT]at h h0 ht;split at h0
  ·rename_i es cl so' hm hj;simp only[hm,hj]at h;obtain⟨Zt,h0'⟩:=fk h0;obtain⟨_,h00⟩:=dX.1 h0';obtain⟨_,Yw⟩:=dX.1 h00;have hb:=Zt;simp only[V6]at hb;obtain⟨⟨⟨⟨b1,b2⟩,b3⟩,b4⟩,b5⟩:=hb
   have hmj:j≠m:=by
    rintro rfl
    have:Nat.beq j j=true:=by simp
    rw[this]at b4;cases b4
   refine af.Ix K hT Yw (af.full fun hfull=>af.close' hm hj b1 fun ν1 b hle1 Zs=>?_);have hq:=h b;rw[Zt]at hq;obtain⟨q1,q2⟩:=dX.1 hq;obtain⟨q3,_⟩:=dX.1 q2;have hj':(T.close m j b es cl).mem.look j=some (so',true):=GB hfull (dw.1 b5) hj hmj;refine af.freeze hM00 hk (XE.1 b2) (show T.top.ret=false by simpa using b3) b1 hj' fun ν' b' o' M2 w2 hle hbj YA hK Yv Z9=>?_
   obtain rfl:b=b':=by
    have:=hle _ _ Zs;rw[hbj]at this;exact (Option.some.inj this).symm
   have hjj:(([(j,j)]:List (Nat × Nat)).lookup j==some j)=true:=by simp[List.lookup]
   exact (af.fits q3 ht hν (hs _ b o' M2 w2 (iY hjj hbj) (wJ hjj q1 YA) hK Yv Z9)).mono hle1
  ·exact aN h0
def iL (E:Env)(f:FuncId)(n:Nat)(S:SM)(o:List (Nat × gR))(ren:List (Nat × Nat))(eqs:List Nat)(x:SV)(l:List (Option (SO × Bool))):List Prop:=
 match po E SM.over n (S.with o) with
 | some T=>match ph E f T with
  | some (y,s')=>bif decide ((ren.map (·.2)).Nodup) then xS ren x y++(sL ren eqs s' 0 l++s'.Y9) else [False]
  | none=>[False]
 | none=>[False]
structure Ps (ν:aP)(M:Own)(w0 w':World)(l:List (Option (SO × Bool))):Prop where
 obj:∀ k o m,l[k]?=some (some (o,m))->∃ b ob,ν k=some b/\w'.heap[b.1]?=some ob/\OR ν k o ob/\(m=true->w0.heap.size<=b.1\/M b.1)
 inj:∀ k k' o m o' m' b b',l[k]?=some (some (o,m))->l[k']?=some (some (o',m'))->ν k=some b->ν k'=some b'->b.1=b'.1->k=k'
theorem af.iL (K:aK E M w0){n:Nat}{S:SM}{o:List (Nat × gR)}{ren:List (Nat × Nat)}{eqs:List Nat}{x:SV}{l:List (Option (SO × Bool))}(h:ah (Go.Rx.iL E f n S o ren eqs x l))
  (hR:∀ ν' w' y,ν.Le ν'->VR (ν'.ren ren) x y->Ps (ν'.ren ren) M w0 w' l->(∃ M1 w1 s',dh M w0 M1 w1/\HR ν' M1 w1 s' w')->R (.returned y) w'):af E M w0 cs0 f R ν S:=by
 unfold Go.Rx.iL at h;split at h
 ·rename_i T hT;split at h
  ·rename_i y s' YI;obtain⟨hb,h⟩:=fk h;have hnd:=Ws hb;obtain⟨h1,h2⟩:=dX.1 h;obtain⟨h3,h4⟩:=dX.1 h2;refine af.go K hT (fV YI h4) (af.done YI h4 fun ν' M1 w1 w' u hle hB hv hr hg=>?_)
   have Yw:∀ k o m,l[k]?=some (some (o,m))->∃ i o',ren.lookup k=some i/\s'.look i=some (o',m)/\ah (KL ren (eqs.contains k) o o'):=fun k o m hk=>by
    have:=pf h3 k o m hk;simpa using this
   refine hR ν' w' u hle (lD h1 hv) ⟨fun k o m hk=>?_,fun k k' o m o' m' b b' hk hk' hb Yy e=>?_⟩ ⟨M1,w1,s',hB,hr⟩
   ·obtain⟨i,o',hlo,hl,ho⟩:=Yw k o m hk;obtain⟨_,_,b,ob,hb,hoo,YA,YS⟩:=hr.look hl;have hji:(ren.lookup k==some i)=true:=by rw[hlo];simp
    exact⟨b,ob,iY hji hb,hoo,wJ hji ho YA,fun hm=>hB.own _ (YS hm)⟩
   ·obtain⟨i,o1,hlo,hl,_⟩:=Yw k o m hk;obtain⟨i',o2,hlo',hl',_⟩:=Yw k' o' m' hk';obtain⟨q1,q2,_⟩:=hr.look hl;obtain⟨q3,q4,_⟩:=hr.look hl';unfold aP.ren at hb Yy;rw[hlo]at hb;rw[hlo']at Yy;have:=hr.inj i i' q1 q3 (by rw[q2];simp) (by rw[q4];simp) b b' hb Yy e;subst this;exact uZ hnd (ig hlo) (ig hlo')
  ·exact aN h
 ·exact aN h
def l8 (g:FuncId)(S:SM):Bool:=Nat.beq S.top.fn g
def dT (E:Env)(g:FuncId)(n:Nat)(S:SM)(o:List (Nat × gR)):List Prop:=match po E (l8 g) n (S.with o) with
 | some T=>match T.callers with
  | [F]=>bif vf E F then T.mem.Y9 else [False]
  | _=>[False]
 | none=>[False]
def iy (E:Env)(g:FuncId)(n:Nat)(S:SM)(o:List (Nat × gR)):Option SF:=(po E (l8 g) n (S.with o)).map (·.top)
def yf (E:Env)(g:FuncId)(n:Nat)(S:SM)(o:List (Nat × gR))(x:SV):Option SM:=match po E (l8 g) n (S.with o) with
 | some T=>match T.callers with
  | [F]=>(finish E F x T.mem).map fun r=>⟨r.1,[],r.2⟩
  | _=>none
 | none=>none
def dB (E:Env)(g:FuncId)(n:Nat)(S:SM)(o:List (Nat × gR))(x:SV):SM:=(yf E g n S o x).getD ⟨⟨0,e9 0 0 [],[],[],false,.normal,none⟩,[],bG 0 0 0 []⟩
def dS (E:Env)(g:FuncId)(n:Nat)(S:SM)(o:List (Nat × gR))(x:SV):List Prop:=match yf E g n S o x with
 | some T=>T.mem.Y9
 | none=>[False]
theorem yo {g:FuncId}{n:Nat}{S:SM}{o:List (Nat × gR)}{x:SV}(h:ah (dS E g n S o x)):yf E g n S o x=some (dB E g n S o x)/\(dB E g n S o x).mem.ob:=by
 unfold dS at h;unfold dB;split at h
 ·rename_i T hT;rw[hT];exact⟨rfl,h⟩
 ·exact aN h
theorem af.gI (K:aK E M w0){H0 H:Hp}{ZP:Own}{w00:World}(hk:Kept H0 ZP w00 H M w0){n:Nat}{g:FuncId}{S:SM}{o:List (Nat × gR)}{args:List SV}(h:ah (dT E g n S o))(hG:iy E g n S o=eO E g args .normal)
  (hc:∀ ν' w a,ν.Le ν'->H.Sub w.hp->GR ν' E->au ν' args a->Calls E.P g a.toArray w fun e w'=>Below w.heap.size w w'/\∃ y,e=.returned y/\(∀ M2,Kept H0 ZP w00 (H.grow w w') M2 w'->
   ah (dS E g n S o (.v y))/\af E M2 w' cs0 f R ν (dB E g n S o (.v y)))):af E M w0 cs0 f R ν S:=by
 unfold dT at h;cases hT:po E (l8 g) n (S.with o) with
 | none=>rw[hT]at h;exact aN h
 | some T=>
  rw[hT]at h;dsimp only at h;split at h
  ·rename_i F hF;obtain⟨ZG,Yw⟩:=fk h;unfold iy at hG;rw[hT]at hG;obtain⟨top,callers,mem⟩:=T;dsimp only at hF hG Yw;subst hF;refine af.go K hT Yw (af.Of (F:=F) hG.symm ZG hk fun ν' w a hle Yv χ ha=>?_);refine (hc ν' w a hle Yv χ ha).mono fun e w' ⟨hB,y,he,hn⟩=>⟨hB,y,.v y,he,VR.ae.2 rfl,fun M2 hK=>?_⟩;obtain⟨h1,h2⟩:=hn M2 hK;obtain⟨h3,h4⟩:=yo h1;have h5:=h3;unfold yf at h5;rw[hT]at h5;dsimp only at h5;obtain⟨r,hr,he2⟩:=Wg.1 h5;refine⟨r.1,r.2,hr,?_,?_⟩
   ·have:(dB E g n S o (.v y)).mem=r.2:=by rw[<- he2]
    have h6:(dB E g n S o (.v y)).mem.ob:=h4;rw[this]at h6;exact h6
   ·have:(⟨r.1,[],r.2⟩:SM)=dB E g n S o (.v y):=he2;rw[this];exact h2.mono hle
  ·exact aN h
end
def Hp.dH (H:Hp)(w w':World)(b:Nat):Hp:=fun k=>if k=b then none else H.grow w w' k
theorem Hp.lC {H:Hp}{w w':World}{b:Nat}:(H.dH w w' b).Sub (H.grow w w'):=fun k o h=>by
 unfold Hp.dH at h
 split at h
 ·cases h
 ·exact h
theorem Hp.lS {H:Hp}{w w':World}{b:Nat}(h:H.Sub w.hp)(hb:w.heap.size<=b):H.Sub (H.dH w w' b):=fun k o hk=>by
 have:=(VY.1 (h k o hk)).1
 unfold Hp.dH
 rw[if_neg (by omega)]
 exact Hp.fi h k o hk
section
variable {E:Env}{ν:aP}{M:Own}{w0 w:World}{s s':SH}{cs0:List Frame}{f:FuncId}{R:Ending->World->Prop}
theorem af.L5 {G F:SF}{g:FuncId}{args:List SV}(hG:eO E g args .normal=some G)(ZG:vf E F=true){H0 H:Hp}{ZP:Own}{w00:World}(hk:Kept H0 ZP w00 H M w0)
  (hc:∀ ν' w a,ν.Le ν'->H.Sub w.hp->GR ν' E->au ν' args a->
   Calls E.P g a.toArray w fun e w'=>Below w.heap.size w w'/\∃ y x so b c o,e=.returned y/\s.room=true/\w.heap.size<=b/\w'.heap[b]?=some o/\OR (ν'.put s.nx (b,c)) s.nx so o/\VR (ν'.put s.nx (b,c)) x y/\(∀ M2,Kept H0 ZP w00 (H.dH w w' b) M2 w'->
    ∃ F' s3,finish E F x (s.new so)=some (F',s3)/\s3.ob/\af E M2 w' cs0 f R ν ⟨F',[],s3⟩)):af E M w0 cs0 f R ν ⟨G,[F],s⟩:=by
 refine af.call hG fun ν' M1 w1 w a cs hle hB hr hg ha ZD=>?_;have Yv:=hk.now hB hr;refine (hc ν' w a hle Yv hg ha).mono fun e w' ⟨YP,y,x,so,b,c,o,he,YB,Z9,Yw,YA,hv,hnext⟩=>⟨y,he,fun fr κ hcs=>?_⟩;subst hcs
 have holdb:∀ i d,i<2 ^ s.d->s.H.get i≠none->ν' i=some d->d.1<w.heap.size:=by
  intro i d hi hx hd;cases hx':s.H.get i with
  | none=>exact absurd hx' hx
  | some x=>
   obtain⟨b',o',Yy,Zz,_,_⟩:=hr.obj i hi _ hx';rw[hd]at Yy;cases Yy;exact (VY.1 Zz).1
 obtain⟨ZR,hrA⟩:=HR.yD (hr.grow YP) YB (Wh hr.size Z9) Yw (fun i d hi hx hd=>by have:=holdb i d hi hx hd;omega) YA;have hnx:s.nx<2 ^ s.d:=dw.1 YB;have Za:∀ j,j≠s.nx->(ν'.put s.nx (b,c)) j=ν' j:=fun j e=>by simp[aP.put,e]
 have YS:∀ k,(dF (ν'.put s.nx (b,c)) M1 (s.new so)) k->k=b\/(k<w.heap.size/\(w1.heap.size<=k\/M1 k)):=by
  rintro k ⟨i,x',c',hi,hx',Yy⟩
  have hi:i<2 ^ s.d:=hi;have hx':(s.H.set s.nx (some (so,true))).get i=some (x',true):=hx';rw[Tr.dV hr.full hnx hi]at hx';by_cases e:i=s.nx
  ·subst e;rw[aP.bO]at Yy;cases Yy;exact .inl rfl
  ·rw[if_neg e]at hx';rw[Za i e]at Yy;obtain⟨b2,o2,YW,ho2,_,h4⟩:=hr.obj i hi _ hx';rw[Yy]at YW;cases YW;exact .inr ⟨(VY.1 ho2).1,h4 rfl⟩
 have Γ:dh M w0 (dF (ν'.put s.nx (b,c)) M1 (s.new so)) w':=by
  refine⟨Wh hB.size (Wh hr.size YP.size),YP.os.trans (hr.os.trans hB.os),YP.tape.trans (hr.tape.trans hB.tape),YP.output.trans (hr.output.trans hB.output),fun k hb hM=>?_,fun k hb=>?_,hB.ro,fun b h=>h.elim,fun k hb=>?_⟩
  ·obtain⟨h1,h2⟩:=hB.frame k hb hM;have Zs:=Wz hb hB.size;have YW:=Wz Zs hr.size;refine⟨(YP.block k YW).trans ((hr.frame k Zs h2).trans h1),fun hl=>?_⟩;rcases YS k hl with h|⟨_,h|h⟩
   ·omega
   ·omega
   ·exact h2 h
  ·rcases hb with hb|hb
   ·exact .inl (Wh hB.size (Wh hr.size (Wh YP.size hb)))
   ·rcases YS k hb with h|⟨_,h⟩
    ·exact .inl (Wh hB.size (Wh hr.size (by omega)))
    ·exact hB.own k h
  ·exact Wz (hB.rlt k hb) (Wh hr.size YP.size)
 have Zq:Kept H0 ZP w00 (H.dH w w' b) (dF (ν'.put s.nx (b,c)) M1 (s.new so)) w':=by
  refine⟨hk.Y1.trans (Hp.lS Yv Z9),fun k o' hb=>?_,fun k o' hb h=>?_,hk.base.trans Γ⟩
  ·have hw':=Hp.tU Yv YP k o' (Hp.lC k o' hb);refine⟨(VY.1 hw').1,fun hl=>?_,hw'⟩
   have Yu:k≠b:=fun e=>by
    unfold Hp.dH at hb;rw[if_pos e]at hb;cases hb
   rcases YS k hl with h|⟨h1,h2⟩
   ·exact Yu h
   ·have hb:=Hp.lC k o' hb;simp only[Hp.grow,if_pos h1]at hb;obtain⟨h3,h4,_⟩:=hk.still k o' hb;have h5:=(hB.frame k h3 h4).2;rcases h2 with h|h
    ·have:=hB.size;omega
    ·exact h5 h
  ·have YD:k<w.heap.size:=Wz hb (Wh hk.base.size (Wh hB.size hr.size));have h:=Hp.lC k o' h;simp only[Hp.grow,if_pos YD]at h;exact hk.old k o' hb h
 obtain⟨F',s3,YR,ob,hsafe⟩:=hnext _ Zq;have hr2:=CW hrA;cases ZD with
 | wait hw ht=>
 have hhl:=uo ZG hw;subst hhl;have hw2:gj E (ν'.put s.nx (b,c)) (dF (ν'.put s.nx (b,c)) M1 (s.new so)) w' [] F fr:=gj.mono ZR ⟨hw.base,hw.ret,hw.mode,hw.todo.dz fun b hb=>by cases hb⟩
 have ht2:bo E (ν'.put s.nx (b,c)) (dF (ν'.put s.nx (b,c)) M1 (s.new so)) w' cs0 [] F.kind [] κ:=by
  generalize F.kind=kk at ht;cases ht with
  | nil h=>exact .nil XF
 obtain⟨_,Z2⟩:=fb hw2 hr2 (hg.mono ZR) hv YR ht2 ob;exact hsafe (ν'.put s.nx (b,c)) _ _ _ (hle.trans ZR) (dh.refl (fun b hb=>Γ.rlt b hb) fun b h=>h) Z2
def wj (E:Env)(g:FuncId)(n:Nat)(S:SM)(o:List (Nat × gR))(mk:Nat->SV)(so:SO):Option SM:=match po E (l8 g) n (S.with o) with
 | some T=>match T.callers with
  | [F]=>bif T.mem.room then (finish E F (mk T.mem.nx) (T.mem.new so)).map fun r=>⟨r.1,[],r.2⟩ else none
  | _=>none
 | none=>none
def sO (E:Env)(g:FuncId)(n:Nat)(S:SM)(o:List (Nat × gR))(mk:Nat->SV)(so:SO):SM:=(wj E g n S o mk so).getD ⟨⟨0,e9 0 0 [],[],[],false,.normal,none⟩,[],bG 0 0 0 []⟩
def AA (E:Env)(g:FuncId)(n:Nat)(S:SM)(o:List (Nat × gR))(mk:Nat->SV)(so:SO):List Prop:=match wj E g n S o mk so with
 | some T=>T.mem.Y9
 | none=>[False]
theorem Iw {g:FuncId}{n:Nat}{S:SM}{o:List (Nat × gR)}{mk:Nat->SV}{so:SO}(h:ah (AA E g n S o mk so)):wj E g n S o mk so=some (sO E g n S o mk so)/\(sO E g n S o mk so).mem.ob:=by
 unfold AA at h;unfold sO;split at h
 ·rename_i T hT;rw[hT];exact⟨rfl,h⟩
 ·exact aN h
theorem af.CB (K:aK E M w0){H0 H:Hp}{ZP:Own}{w00:World}(hk:Kept H0 ZP w00 H M w0){n:Nat}{g:FuncId}{S:SM}{o:List (Nat × gR)}{args:List SV}(h:ah (dT E g n S o))(hG:iy E g n S o=eO E g args .normal)
  (hc:∀ ν' w a,ν.Le ν'->H.Sub w.hp->GR ν' E->au ν' args a->Calls E.P g a.toArray w fun e w'=>Below w.heap.size w w'/\∃ y mk so b c ob,e=.returned y/\w.heap.size<=b/\w'.heap[b]?=some ob/\(∀ (ν2:aP) i,ν2 i=some (b,c)->OR ν2 i so ob/\VR ν2 (mk i) y)/\
   ah (AA E g n S o mk so)/\∀ M2,Kept H0 ZP w00 (H.dH w w' b) M2 w'->af E M2 w' cs0 f R ν (sO E g n S o mk so)):af E M w0 cs0 f R ν S:=by
 unfold dT at h;cases hT:po E (l8 g) n (S.with o) with
 | none=>rw[hT]at h;exact aN h
 | some T=>
  rw[hT]at h;dsimp only at h;split at h
  ·rename_i F hF;obtain⟨ZG,Yw⟩:=fk h;unfold iy at hG;rw[hT]at hG;obtain⟨top,callers,mem⟩:=T;dsimp only at hF hG Yw;subst hF;refine af.go K hT Yw (af.L5 (F:=F) hG.symm ZG hk fun ν' w a hle Yv χ ha=>?_);refine (hc ν' w a hle Yv χ ha).mono fun e w' ⟨hB,y,mk,so,b,c,ob,he,Z9,hbo,YM,h1,h2⟩=>?_;obtain⟨h3,h4⟩:=Iw h1;have h5:=h3;unfold wj at h5;rw[hT]at h5;dsimp only at h5;cases YB:mem.room
   ·rw[YB]at h5;cases h5
   rw[YB]at h5;simp only[WE]at h5;obtain⟨r,hr,he2⟩:=Wg.1 h5;obtain⟨q1,q2⟩:=YM (ν'.put mem.nx (b,c)) mem.nx (aP.bO _ _ _);refine⟨hB,y,mk mem.nx,so,b,c,ob,he,rfl,Z9,hbo,q1,q2,fun M2 hK=>⟨r.1,r.2,hr,?_,?_⟩⟩
   ·have:(sO E g n S o mk so).mem=r.2:=by rw[<- he2]
    have h6:(sO E g n S o mk so).mem.ob:=h4;rw[this]at h6;exact h6
   ·have:(⟨r.1,[],r.2⟩:SM)=sO E g n S o mk so:=he2;rw[this];exact h2 M2 hK
  ·exact aN h
def zE (E:Env)(g:FuncId)(n:Nat)(S:SM)(o:List (Nat × gR))(i:Nat):Option (SO × Bool):=match po E (l8 g) n (S.with o) with
 | some T=>T.mem.look i
 | none=>none
theorem af.LO {G F:SF}{g:FuncId}{args:List SV}(hG:eO E g args .normal=some G)(ZG:vf E F=true){H0 H:Hp}{ZP:Own}{w00:World}(hk:Kept H0 ZP w00 H M w0)
  (hc:∀ ν' w a,ν.Le ν'->H.Sub w.hp->GR ν' E->au ν' args a->(∀ i so m,s.look i=some (so,m)->∃ b o,ν' i=some b/\w.heap[b.1]?=some o/\OR ν' i so o)->
   Calls E.P g a.toArray w fun e w'=>Below w.heap.size w w'/\∃ y x,e=.returned y/\VR ν' x y/\(∀ M2,Kept H0 ZP w00 (H.grow w w') M2 w'->
    ∃ F' s3,finish E F x s=some (F',s3)/\s3.ob/\af E M2 w' cs0 f R ν' ⟨F',[],s3⟩)):af E M w0 cs0 f R ν ⟨G,[F],s⟩:=by
 refine af.call hG fun ν' M1 w1 w a cs hle hB hr hg ha ZD=>?_;have Yv:=hk.now hB hr;refine (hc ν' w a hle Yv hg ha (fun i so m hl=>by obtain⟨_,_,b,o,h1,h2,h3,_⟩:=hr.look hl;exact⟨b,o,h1,h2,h3⟩)).mono fun e w' ⟨YP,y,x,he,hv,hnext⟩=>⟨y,he,fun fr κ hcs=>?_⟩;subst hcs
 have YS:∀ b,(dF ν' M1 s) b->b<w.heap.size/\(w1.heap.size<=b\/M1 b):=by
  rintro b ⟨i,x,c,hi,hx,hb⟩
  obtain⟨b',o,Yy,ho,_,h4⟩:=hr.obj i hi _ hx;rw[hb]at Yy;cases Yy;exact⟨(VY.1 ho).1,h4 rfl⟩
 have Γ:dh M w0 (dF ν' M1 s) w':=by
  refine⟨Wh hB.size (Wh hr.size YP.size),YP.os.trans (hr.os.trans hB.os),YP.tape.trans (hr.tape.trans hB.tape),YP.output.trans (hr.output.trans hB.output),fun b hb hM=>?_,fun b hb=>?_,hB.ro,fun b h=>h.elim,fun b hb=>?_⟩
  ·obtain⟨h1,h2⟩:=hB.frame b hb hM;have Zs:=Wz hb hB.size;refine⟨(YP.block b (Wz Zs hr.size)).trans ((hr.frame b Zs h2).trans h1),fun hl=>?_⟩;rcases (YS b hl).2 with h|h
   ·omega
   ·exact h2 h
  ·rcases hb with hb|hb
   ·exact .inl (Wh hB.size (Wh hr.size (Wh YP.size hb)))
   ·exact hB.own b (YS b hb).2
  ·exact Wz (hB.rlt b hb) (Wh hr.size YP.size)
 have Zq:Kept H0 ZP w00 (H.grow w w') (dF ν' M1 s) w':=by
  refine⟨hk.Y1.trans (Hp.fi Yv),fun b o hb=>?_,fun b o hb h=>?_,hk.base.trans Γ⟩
  ·have hw':=Hp.tU Yv YP b o hb;refine⟨(VY.1 hw').1,fun hl=>?_,hw'⟩;obtain⟨h1,h2⟩:=YS b hl;simp only[Hp.grow,if_pos h1]at hb;obtain⟨h3,h4,_⟩:=hk.still b o hb;have h5:=(hB.frame b h3 h4).2;rcases h2 with h|h
   ·have:=hB.size;omega
   ·exact h5 h
  ·have YD:b<w.heap.size:=Wz hb (Wh hk.base.size (Wh hB.size hr.size));simp only[Hp.grow,if_pos YD]at h;exact hk.old b o hb h
 obtain⟨F',s3,YR,ob,hsafe⟩:=hnext _ Zq
 have hr2:HR ν' (dF ν' M1 s) w' s w':=by
  have hg:=hr.grow YP;refine⟨hg.full,hg.dom,hg.fresh,fun i hi x hx=>?_,hg.inj,Wx _,fun _ _ _=>rfl,hg.ro,rfl,rfl,rfl⟩;obtain⟨b,o,h1,h2,h3,h4⟩:=hg.obj i hi x hx;refine⟨b,o,h1,h2,h3,fun hm=>.inr ⟨i,x.1,b.2,hi,?_,h1⟩⟩;rw[hx,<- hm]
 cases ZD with
 | wait hw ht=>
 have hhl:=uo ZG hw;subst hhl;have hw2:gj E ν' (dF ν' M1 s) w' [] F fr:=⟨hw.base,hw.ret,hw.mode,hw.todo.dz fun b hb=>by cases hb⟩
 have ht2:bo E ν' (dF ν' M1 s) w' cs0 [] F.kind [] κ:=by
  generalize F.kind=kk at ht;cases ht with
  | nil h=>exact .nil XF
 obtain⟨_,Z2⟩:=fb hw2 hr2 hg hv YR ht2 ob;exact hsafe ν' _ _ _ (aP.Le.refl _) (dh.refl (fun b hb=>Γ.rlt b hb) fun b h=>h) Z2
theorem af.OL (K:aK E M w0){H0 H:Hp}{ZP:Own}{w00:World}(hk:Kept H0 ZP w00 H M w0){n:Nat}{g:FuncId}{S:SM}{o:List (Nat × gR)}{args:List SV}(h:ah (dT E g n S o))(hG:iy E g n S o=eO E g args .normal)
  (hc:∀ ν' w a,ν.Le ν'->H.Sub w.hp->GR ν' E->au ν' args a->(∀ i so m,zE E g n S o i=some (so,m)->∃ b o,ν' i=some b/\w.heap[b.1]?=some o/\OR ν' i so o)->Calls E.P g a.toArray w fun e w'=>Below w.heap.size w w'/\∃ y,e=.returned y/\(∀ M2,Kept H0 ZP w00 (H.grow w w') M2 w'->
   ah (dS E g n S o (.v y))/\af E M2 w' cs0 f R ν (dB E g n S o (.v y)))):af E M w0 cs0 f R ν S:=by
 unfold dT at h;cases hT:po E (l8 g) n (S.with o) with
 | none=>rw[hT]at h;exact aN h
 | some T=>
  rw[hT]at h;dsimp only at h;split at h
  ·rename_i F hF;obtain⟨ZG,Yw⟩:=fk h;unfold iy at hG;rw[hT]at hG;obtain⟨top,callers,mem⟩:=T;dsimp only at hF hG Yw;subst hF;refine af.go K hT Yw (af.LO (F:=F) hG.symm ZG hk fun ν' w a hle Yv χ ha hlk=>?_);refine (hc ν' w a hle Yv χ ha (fun i so m hl=>hlk i so m (by unfold zE at hl;rw[hT]at hl;exact hl))).mono fun e w' ⟨hB,y,he,hn⟩=>⟨hB,y,.v y,he,VR.ae.2 rfl,fun M2 hK=>?_⟩;obtain⟨h1,h2⟩:=hn M2 hK;obtain⟨h3,h4⟩:=yo h1;have h5:=h3;unfold yf at h5;rw[hT]at h5;dsimp only at h5;obtain⟨r,hr,he2⟩:=Wg.1 h5;refine⟨r.1,r.2,hr,?_,?_⟩
   ·have:(dB E g n S o (.v y)).mem=r.2:=by rw[<- he2]
    have h6:(dB E g n S o (.v y)).mem.ob:=h4;rw[this]at h6;exact h6
   ·have:(⟨r.1,[],r.2⟩:SM)=dB E g n S o (.v y):=he2;rw[this];exact h2.mono hle
  ·exact aN h
end
end Go.Rx
namespace Go.Proofs.YtbjmmnegkpeboaaGreatDoor
open Go Go.Rx Go.RowKit
def iJ:List (FuncId × xF):=[(101,.same),(120,.pure Extern.BytealgIndexByte.indexByte),(128,.makeNoZero #[3] 44)]
theorem dK:∀ r∈iJ,HN Tryz.prog r:=by
 intro r hr;simp only[iJ,V8,Ww,Xc]at hr;rcases hr with rfl|rfl|rfl
 ·exact⟨Tryz.f101,_,Tryz.func101,by kernel_rfl,by kernel_rfl,by kernel_rfl,rfl,by kernel_rfl⟩
 ·exact⟨Tryz.f120,_,Tryz.func120,by kernel_rfl,by kernel_rfl,by kernel_rfl,rfl,by kernel_rfl⟩
 ·exact⟨Tryz.f128,_,Tryz.func128,by kernel_rfl,by kernel_rfl,by kernel_rfl,rfl,by kernel_rfl⟩
def Qb (l:List (Nat × Bool)):Nat->Option Bool:=fun n=>l.lookup n
def E (l:List (Nat × Bool))(G:List (Nat × Nat)):Env:={ P:=Tryz.prog,ext:=fun f=>iJ.lookup f,G,orc:=Qb l,YT:=fun _=>none,qs:=fun _=>none }
theorem facts {M:Own}{w0:World}(l:List (Nat × Bool))(G:List (Nat × Nat)):aK (E l G) M w0:=
 aK.of (Checked.mixed Tryz.checked) (by kernel_rfl) (fh.of iJ rfl dK) rfl (fun f g h=>by cases h)
def EP (sl:List (FuncId × PS))(G:List (Nat × Nat)):Env:={ P:=Tryz.prog,ext:=fun f=>iJ.lookup f,G,orc:=fun _=>none,YT:=Bf sl,qs:=fun _=>none }
theorem kM {M:Own}{w0:World}{sl:List (FuncId × PS)}{G:List (Nat × Nat)}{X:World->Prop}(h:∀ r∈sl,bX Tryz.prog X r)(hX:∀ ν s w,HR ν M w0 s w->GR ν (EP sl G)->X w):aK (EP sl G) M w0:=
 aK.uG (Checked.mixed Tryz.checked) (by kernel_rfl) (fh.of iJ rfl dK) (dy.of rfl h hX) (fun f g h=>by cases h)
theorem fM {M:Own}{w0:World}{sl:List (FuncId × PS)}(h:∀ r∈sl,bX Tryz.prog (fun _=>True) r):aK (EP sl []) M w0:=kM h fun _ _ _ _ _=>trivial
theorem own:ownKnob Tryz.prog.godebug=none:=by kernel_rfl
theorem laidOut:laidOutB Tryz.prog=true:=by kernel_rfl
def cj:List Int:=[0,274646895,549293790,820201905,1098587580,1361435347,1640403810,1905808397,2197175160,2460548119,2722870694,2987750089,3280807620,3553878443,3811616794,4084100981]
abbrev VS:=Value.string
abbrev VT:=Value.slice
abbrev VU:=Value.bool
abbrev VZ:=SV.agg
abbrev V1:=Value.int
abbrev vZ (n:Int):Value:=.int .i64 n
abbrev VO:ByteArray:=⟨⟨[]⟩⟩
abbrev VP:List (Nat × gR):=[(1000,.b true)]
abbrev VQ:=List (SV × SV × Nat)
abbrev nZ:Option Nat:=none
end Go.Proofs.YtbjmmnegkpeboaaGreatDoor
namespace Go.Proofs.YtbjmmnegkpeboaaGreatDoor
open Go Go.Rx Go.RowKit Go.Proofs
namespace paths
def MX (w:World):Prop:=∃ m:Int,w.cell? ⟨2,0,none⟩=some (.int .i64 m)
theorem MX.keep {w0 w:World}(h:MX w0)(hk:∀ k,k<w0.heap.size->w.heap[k]?=w0.heap[k]?):MX w:=let ⟨m,h⟩:=h;⟨m,DW h hk⟩
def zL:Go.Shelf.Ren:=⟨fun|145=>109|220=>124|219=>136|217=>100|225=>148|224=>149|267=>150|266=>120|314=>156|n=>n,fun|9=>9|4=>4|59=>146|3=>3|5=>5|46=>92|146=>180|51=>72|n=>n,fun|1=>2|n=>n⟩
theorem wk:Go.Proofs.LaysM.n145 Tryz.prog zL where
 mixed:=by kernel_rfl
 f145:=Tryz.func109.trans (congrArg some (by kernel_rfl))
 f217:=Tryz.func100.trans (congrArg some (by kernel_rfl))
 f219:=Tryz.func136.trans (congrArg some (by kernel_rfl))
 f220:=Tryz.func124.trans (congrArg some (by kernel_rfl))
 f224:=Tryz.func149.trans (congrArg some (by kernel_rfl))
 f225:=Tryz.func148.trans (congrArg some (by kernel_rfl))
 f266:=Tryz.func120.trans (congrArg some (by kernel_rfl))
 f267:=Tryz.func150.trans (congrArg some (by kernel_rfl))
 f314:=Tryz.func156.trans (congrArg some (by kernel_rfl))
 t3:=Tryz.underlying3
 a3:=Tryz.isAgg3
 z3:=Tryz.sizeOf3
 v3:=Tryz.zeroValue3
 t4:=Tryz.underlying4
 a4:=Tryz.isAgg4
 z4:=Tryz.sizeOf4
 v4:=Tryz.zeroValue4
 t5:=Tryz.underlying5
 a5:=Tryz.isAgg5
 z5:=Tryz.sizeOf5
 v5:=Tryz.zeroValue5
 t9:=Tryz.underlying9
 a9:=Tryz.isAgg9
 z9:=Tryz.sizeOf9
 v9:=Tryz.zeroValue9
 t46:=Tryz.underlying92
 a46:=Tryz.isAgg92
 z46:=Tryz.sizeOf92
 v46:=Tryz.zeroValue92
 t51:=Tryz.underlying72
 a51:=Tryz.isAgg72
 z51:=Tryz.sizeOf72
 v51:=Tryz.zeroValue72
 t59:=Tryz.underlying146
 a59:=Tryz.isAgg146
 z59:=Tryz.sizeOf146
 v59:=Tryz.zeroValue146
 t146:=Tryz.underlying180
 a146:=Tryz.isAgg180
 z146:=Tryz.sizeOf180
 v146:=Tryz.zeroValue180
 g1:=by kernel_rfl
 i3:=by kernel_rfl
 i4:=by kernel_rfl
 i5:=by kernel_rfl
 i9:=by kernel_rfl
 i46:=by kernel_rfl
 i51:=by kernel_rfl
 i59:=by kernel_rfl
 i146:=by kernel_rfl
 m1:=by kernel_rfl
 s1_3:=fun w h=>Go.Proofs.cell_of_shapedOpen_int (zero:=#[.int .i64 0]) (t:=3) h (Ws (by kernel_rfl)) (by kernel_rfl) rfl (by kernel_rfl) (by kernel_rfl) Tryz.underlying3
def Bx:Go.Shelf.Ren:=⟨fun|137=>74|217=>100|266=>120|n=>n,fun|9=>9|5=>5|3=>3|n=>n,fun|n=>n⟩
theorem L8:Go.Proofs.Lays.n137 Tryz.prog Bx where
 mixed:=by kernel_rfl
 f137:=Tryz.func74.trans (congrArg some (by kernel_rfl))
 f217:=Tryz.func100.trans (congrArg some (by kernel_rfl))
 f266:=Tryz.func120.trans (congrArg some (by kernel_rfl))
 t3:=Tryz.underlying3
 a3:=Tryz.isAgg3
 z3:=Tryz.sizeOf3
 v3:=Tryz.zeroValue3
 t5:=Tryz.underlying5
 a5:=Tryz.isAgg5
 z5:=Tryz.sizeOf5
 v5:=Tryz.zeroValue5
 t9:=Tryz.underlying9
 a9:=Tryz.isAgg9
 z9:=Tryz.sizeOf9
 v9:=Tryz.zeroValue9
def cA (s:ByteArray):ByteArray:=⟨(Lib.cut s.data.toList [47]).1.toArray⟩
def cB (s:ByteArray):ByteArray:=⟨(Lib.cut s.data.toList [47]).2.1.toArray⟩
def cM (s:ByteArray):Bool:=(Lib.cut s.data.toList [47]).2.2
def bw:ByteArray:=⟨#[47]⟩
def Ca:PS:=fun args=>match args with|[.string s,.string t]=>some (.tuple #[.string (cA s),.string (cB s),.bool (cM s)],s.size<=1000000000/\t=bw)|_=>none
theorem Gw:bX Tryz.prog MX (109,Ca):=by
 refine⟨⟨_,Tryz.func109,by kernel_rfl,by kernel_rfl⟩,fun args v p h hp w hX=>?_⟩;dsimp only[Ca]at h;split at h
 ·rename_i s t;cases h;obtain⟨h1,rfl⟩:=hp;obtain⟨m,hm⟩:=hX;refine (Any.strings_Cut { wk with } s bw m w (by omega) hm).mono fun e w' ⟨he,n,hw⟩=>⟨?_,he⟩;rw[hw];exact below_drewN (Below.refl _ _) n
 ·cases h
theorem iH (s:ByteArray):(cB s).size<=s.size:=by
 have e:(cB s).size=(Lib.cut s.data.toList [47]).2.1.length:=by simp[cB,ByteArray.size]
 have e2:s.data.toList.length=s.size:=by simp
 rw[e];unfold Lib.cut;split
 ·simp only[List.length_drop];omega
 ·simp
theorem Mx:cA ⟨#[]⟩=⟨#[]⟩:=by
 have:Lib.cut [] [47]=([],[],false):=rfl;show ByteArray.mk (Lib.cut [] [47]).1.toArray=_;rw[this]
def Kj (s:ByteArray):Int:=Lib.indexByte s.data.toList 0
def Lf:PS:=fun args=>match args with|[.string s,.int .u8 c]=>some (.int .i64 (Kj s),c=0)|_=>none
theorem Nb:bX Tryz.prog (fun _=>True) (74,Lf):=by
 refine⟨⟨_,Tryz.func74,by kernel_rfl,by kernel_rfl⟩,fun args v p h hp w hX=>?_⟩;dsimp only[Lf]at h;split at h
 ·rename_i s c;cases h;subst hp;refine (Any.strings_IndexByte L8 s 0 w).mono fun e w' ⟨he,hw⟩=>⟨?_,he⟩;rw[hw];exact Below.refl _ _
 ·cases h
def EI:Env:=EP [(74,Lf)] []
theorem KI {M:Own}{w0:World}:aK EI M w0:=fM fun r h=>by rw[Wl.1 h];exact Nb
theorem p0 (v:Value):ao EI 105 300 (a7 EI 105 [.v (.string ⟨#[]⟩)]) VP v=[VU false=v]:=by kernel_rfl
theorem p1 (v:Value):ao EI 105 300 (a7 EI 105 [.v (.string ⟨#[46]⟩)]) VP v=[VU false=v]:=by kernel_rfl
theorem p2 (v:Value):ao EI 105 300 (a7 EI 105 [.v (.string ⟨#[46,46]⟩)]) VP v=[VU false=v]:=by kernel_rfl
theorem p3 (s:ByteArray)(v:Value):ao EI 105 300 (a7 EI 105 [.v (.string s)]) (ff [0,1,2,3] true++ff [4,5,6,7,8,9,10,11,12,13,14,15,16,17] false) v=[VU false=v,false=false,false=false,false=false,false=false,false=false,false=false,false=false,decide ((↑s.size:Int)<=24)=false,decide ((↑s.size:Int)<=24)=false,decide ((↑s.size:Int)<=24)=false,(!s.toList==VO.toList)=true,(!s.toList==VO.toList)=true,(!s.toList==VO.toList)=true,(!s.toList==VO.toList)=true]:=by kernel_rfl
theorem p4 (s:ByteArray)(v:Value):ao EI 105 300 (a7 EI 105 [.v (.string s)]) (ff [0,1,2,3,4,5,6,7,8,9,10,11,13,14,15,16,17] true) v=[VU (decide (Kj s<0))=v,(!s.toList==(⟨⟨[46,46]⟩⟩:ByteArray).toList)=true,(!s.toList==(⟨⟨[46,46]⟩⟩:ByteArray).toList)=true,(0:Int)=0,(!s.toList==(⟨⟨[46,46]⟩⟩:ByteArray).toList)=true,(!s.toList==(⟨⟨[46,46]⟩⟩:ByteArray).toList)=true,(!s.toList==(⟨⟨[46]⟩⟩:ByteArray).toList)=true,(!s.toList==(⟨⟨[46]⟩⟩:ByteArray).toList)=true,(!s.toList==(⟨⟨[46]⟩⟩:ByteArray).toList)=true,decide ((↑s.size:Int)<=24)=true,decide ((↑s.size:Int)<=24)=true,decide ((↑s.size:Int)<=24)=true,(!s.toList==VO.toList)=true,(!s.toList==VO.toList)=true,(!s.toList==VO.toList)=true,(!s.toList==VO.toList)=true]:=by kernel_rfl
def bc (s:ByteArray):Bool:=decide (s.data.toList≠[]/\s.size<=24/\s.data.toList≠[46]/\s.data.toList≠[46,46])&&decide (Kj s<0)
def og:PS:=fun args=>match args with|[.string s]=>some (.bool (bc s),s.size<=1000000000)|_=>none
theorem jB (b:ByteArray):b.toList=b.data.toList:=ByteArray.toList_eq b
theorem xG {a b:List UInt8}(h:a≠b):(a==b)=false:=Wr.2 h
theorem rB {s:ByteArray}{l:List UInt8}(h:s.data.toList=l):s=⟨l.toArray⟩:=by cases s;subst h;simp
theorem Cp:bX Tryz.prog (fun _=>True) (105,og):=by
 refine⟨⟨_,Tryz.func105,by kernel_rfl,by kernel_rfl⟩,fun args v p h hp w hX=>?_⟩;dsimp only[og]at h;split at h
 ·rename_i s;cases h;refine (eE (E:=EI) rfl rfl (Q:=fun v=>v=.bool (bc s)) (args:=[.v (.string s)]) (a:=[.string s]) w (S0:=a7 EI 105 [.v (.string s)]) (by kernel_rfl) (au.cons (VR.ae.2 rfl) au.nil) fun cs0=>?_).mono fun e w' ⟨h1,u,h2,h3⟩=>⟨h1,by rw[h2,h3]⟩;have YI:∀ (ν':aP) (M1:Own) (w1:World) (s':SH) (w':World),(aA []).Le ν'->dh (aD [] []) w M1 w1->HR ν' M1 w1 s' w'->(Below w.heap.size w w'/\∃ v,Ending.returned (.bool (bc s))=.returned v/\v=.bool (bc s)):=fun ν' M1 w1 s' w' _ hB hr=>⟨aB aE hB hr,_,rfl,rfl⟩;by_cases h0:s.data.toList=[]
  ·obtain rfl:=rB h0;refine af.ao KI (n:=300) (o:=VP) (v:=.bool (bc _)) ?_ YI;rw[p0];simp[ah,bc]
  by_cases h1:s.data.toList=[46]
  ·obtain rfl:=rB h1;refine af.ao KI (n:=300) (o:=VP) (v:=.bool (bc _)) ?_ YI;rw[p1];simp[ah,bc]
  by_cases h2:s.data.toList=[46,46]
  ·obtain rfl:=rB h2;refine af.ao KI (n:=300) (o:=VP) (v:=.bool (bc _)) ?_ YI;rw[p2];simp[ah,bc]
  by_cases h3:s.size<=24
  ·refine af.ao KI (n:=300) (o:=ff [0,1,2,3,4,5,6,7,8,9,10,11,13,14,15,16,17] true) (v:=.bool (bc s)) ?_ YI;rw[p4];have e:bc s=decide (Kj s<0):=by unfold bc;simp[h0,h1,h2,h3]
   have c1:decide ((s.size:Int)<=24)=true:=V0 (by omega);simp only[ah,e,jB,xG h0,xG h1,xG h2,c1,W0,VW,VX]
  ·refine af.ao KI (n:=300) (o:=ff [0,1,2,3] true++ff [4,5,6,7,8,9,10,11,12,13,14,15,16,17] false) (v:=.bool (bc s)) ?_ YI;rw[p3];have e:bc s=false:=by unfold bc;simp[h3]
   have c1:decide ((s.size:Int)<=24)=false:=V2 (by omega);simp only[ah,e,jB,xG h0,c1,W0,VW,VX]
 ·cases h
def bn:Env:=EP [] []
theorem e0 (x y:ByteArray)(v:Value):ao bn 110 300 (a7 bn 110 [.v (.string x),.v (.string y)]) (ff [0,1] false++ff [2] true) v=[vZ (-1:Int)=v,Op.bytesLess x.toList y.toList=true,(!y.toList==y.toList)=false,(!x.toList==x.toList)=false]:=by kernel_rfl
theorem e1 (x y:ByteArray)(v:Value):ao bn 110 300 (a7 bn 110 [.v (.string x),.v (.string y)]) (ff [0,1,2] false++ff [3] true) v=[vZ 1=v,(!(Op.bytesLess x.toList y.toList||x.toList==y.toList))=true,Op.bytesLess x.toList y.toList=false,(!y.toList==y.toList)=false,(!x.toList==x.toList)=false]:=by kernel_rfl
theorem e2 (x y:ByteArray)(v:Value):ao bn 110 300 (a7 bn 110 [.v (.string x),.v (.string y)]) (ff [0,1,2,3] false) v=[vZ 0=v,(!(Op.bytesLess x.toList y.toList||x.toList==y.toList))=false,Op.bytesLess x.toList y.toList=false,(!y.toList==y.toList)=false,(!x.toList==x.toList)=false]:=by kernel_rfl
def oR (x y:ByteArray):Int:=if Op.bytesLess x.toList y.toList=true then -1 else if (!(Op.bytesLess x.toList y.toList||x.toList==y.toList))=true then 1 else 0
def Bh:PS:=fun args=>match args with|[.string x,.string y]=>some (.int .i64 (oR x y),True)|_=>none
theorem fQ {M:Own}{w0:World}:aK bn M w0:=fM fun r h=>by cases h
theorem CX:bX Tryz.prog (fun _=>True) (110,Bh):=by
 refine .mk ⟨_,Tryz.func110,by kernel_rfl,by kernel_rfl⟩ fun args v p h hp w hX=>?_;dsimp only[Bh]at h;split at h
 ·rename_i x y;cases h
  have go:∀ {o v},mX (ao bn 110 300 (a7 bn 110 [.v (.string x),.v (.string y)]) o v)->v=.int .i64 (oR x y)->Calls Tryz.prog 110 #[.string x,.string y] w fun e w'=>Below w.heap.size w w'/\e=.returned (.int .i64 (oR x y)):=fun h e=>
   e ▸ bW (E:=bn) (args:=[.v (.string x),.v (.string y)]) (a:=[.string x,.string y]) rfl rfl fQ (by kernel_rfl) (au.cons (VR.ae.2 rfl) (au.cons (VR.ae.2 rfl) au.nil)) h
  cases h1:Op.bytesLess x.toList y.toList
  ·cases h2:(x.toList==y.toList)
   ·exact go (o:=ff [0,1,2] false++ff [3] true) (v:=.int .i64 1) ⟨by rw[e1];simp[ah,h1,h2]⟩ (by simp[oR,h1,h2])
   ·exact go (o:=ff [0,1,2,3] false) (v:=.int .i64 0) ⟨by rw[e2];simp[ah,h1,h2]⟩ (by simp[oR,h1,h2])
  ·exact go (o:=ff [0,1] false++ff [2] true) (v:=.int .i64 (-1)) ⟨by rw[e0];simp[ah,h1]⟩ (by simp[oR,h1])
 ·cases h
def EN:Env:=EP [(109,Ca),(110,Bh)] []
def Ou:List SI:=dA EN 1 60 (a7 EN 89 [.v (.string ⟨#[]⟩),.v (.string ⟨#[]⟩)]) []
def GI (a b:ByteArray):SF:={ fn:=89,tm:=e9 44 6 ([.v (.string a),.v (.string b)]++List.replicate 42 .aH),todo:=Ou,defers:=[],ret:=false,kind:=.normal,ro:=none }
theorem n0 (a b:ByteArray):reach EN 1 60 (a7 EN 89 [.v (.string a),.v (.string b)]) VP [] [] (GI a b) 6 []=[VS a=VS a,VS b=VS b]:=by kernel_rfl
theorem n1 (a b:ByteArray)(v:Value):ao EN 89 300 (SM.at (GI a b) 6 []) (ff (List.range 40) true) v=[vZ (oR (cA a) (cA b))=v,True,(!(cA a).toList==(cA b).toList)=true,b.size<=1000000000/\(⟨⟨[47]⟩⟩:ByteArray)=bw,a.size<=1000000000/\(⟨⟨[47]⟩⟩:ByteArray)=bw]:=by kernel_rfl
theorem n2 (a b:ByteArray)(v:Value):ao EN 89 300 (SM.at (GI a b) 6 []) (ff [0,1,2] false++ff [3,4,5,6] true++ff [7] false++ff [8] true) v=[vZ (IntKind.i64.wrap (0 - 1))=v,cM b=true,cM a=false,true=true,(!cM a)=true,(!cM a)=true,(!cM a)=true,(!(cA a).toList==(cA b).toList)=false,b.size<=1000000000/\(⟨⟨[47]⟩⟩:ByteArray)=bw,a.size<=1000000000/\(⟨⟨[47]⟩⟩:ByteArray)=bw]:=by kernel_rfl
theorem n4 (a b:ByteArray)(v:Value):ao EN 89 300 (SM.at (GI a b) 6 []) (ff [0,1,2] false++ff [3,4,5,6] true++ff [7] false++ff [8] false) v=[vZ (IntKind.i64.wrap (0 - 0))=v,cM b=false,cM a=false,true=true,(!cM a)=true,(!cM a)=true,(!cM a)=true,(!(cA a).toList==(cA b).toList)=false,b.size<=1000000000/\(⟨⟨[47]⟩⟩:ByteArray)=bw,a.size<=1000000000/\(⟨⟨[47]⟩⟩:ByteArray)=bw]:=by kernel_rfl
theorem n5 (a b:ByteArray)(v:Value):ao EN 89 300 (SM.at (GI a b) 6 []) (ff [0,1,2,3,4,5] false++ff [6,7] true++ff [8] false) v=[vZ (IntKind.i64.wrap (1 - 0))=v,cM b=false,cM a=true,(!cM b)=true,(!cM a)=false,(!cM a)=false,(!cM a)=false,(!(cA a).toList==(cA b).toList)=false,b.size<=1000000000/\(⟨⟨[47]⟩⟩:ByteArray)=bw,a.size<=1000000000/\(⟨⟨[47]⟩⟩:ByteArray)=bw]:=by kernel_rfl
theorem n3 (a b a' b':ByteArray):reach EN 1 60 (SM.at (GI a b) 6 []) (ff (List.range 40) false) [] [] (GI a' b') 6 []=[VS (cB a)=VS a',VS (cB b)=VS b',(!cM b)=false,(!cM a)=false,(!cM a)=false,(!cM a)=false,(!(cA a).toList==(cA b).toList)=false,b.size<=1000000000/\(⟨⟨[47]⟩⟩:ByteArray)=bw,a.size<=1000000000/\(⟨⟨[47]⟩⟩:ByteArray)=bw]:=by kernel_rfl
theorem index_ge:∀ (s:List UInt8),Lib.index s [47]=-1\/0<=Lib.index s [47]
 | []=>.inl rfl
 | b::l=>by
  unfold Lib.index
  split
  ·exact .inr (Int.le_refl _)
  ·rcases index_ge l with h|h
   ·rw[h];exact .inl rfl
   ·right
    split
    ·rename_i e;rw[Xn]at e;omega
    ·omega
theorem Cv:Lib.cut [] [47]=([],[],false):=rfl
theorem Fp (l:List UInt8):Lib.cut (47::l) [47]=([],l,true):=by
 have h:Lib.index (47::l) [47]=0:=by unfold Lib.index;simp[List.isPrefixOf]
 unfold Lib.cut;rw[h];simp
theorem Ff {b:UInt8}(hb:b≠47)(l:List UInt8):Lib.cut (b::l) [47]=(b::(Lib.cut l [47]).1,(Lib.cut l [47]).2.1,(Lib.cut l [47]).2.2):=by
 have h0:([47]:List UInt8).isPrefixOf (b::l)=false:=by
  simp only[List.isPrefixOf,Bool.and_true];exact Wr.2 fun e=>hb e.symm
 have h:Lib.index (b::l) [47]=if Lib.index l [47]==-1 then -1 else Lib.index l [47]+1:=by
  conv=>lhs;unfold Lib.index
  rw[h0];rfl
 rcases index_ge l with h1|h1
 ·have h2:Lib.index (b::l) [47]=-1:=by rw[h,h1];rfl
  unfold Lib.cut;rw[h1,h2];rfl
 ·have h2:Lib.index (b::l) [47]=Lib.index l [47]+1:=by
   rw[h,if_neg (by rw[Xn];omega)]
  unfold Lib.cut;rw[h2,if_pos h1,if_pos (by omega)];have e:(Lib.index l [47]+1).toNat=(Lib.index l [47]).toNat+1:=by omega
  rw[e];simp[Nat.add_right_comm]
def aq:List UInt8->List (List UInt8)
 | []=>[[]]
 | b::l=>if b=47 then []::aq l else match aq l with
  | []=>[[b]]
  | x::xs=>(b::x)::xs
theorem cY:∀ l:List UInt8,aq l≠[]
 | []=>by simp[aq]
 | b::l=>by
  unfold aq
  split
  ·simp
  ·split<;>simp
theorem kz:∀ l:List UInt8,aq l=(Lib.cut l [47]).1::(if (Lib.cut l [47]).2.2=true then aq (Lib.cut l [47]).2.1 else [])
 | []=>by rw[Cv];rfl
 | b::l=>by
  by_cases hb:b=47
  ·subst hb;rw[Fp];simp[aq]
  ·rw[Ff hb];have ih:=kz l
   have e:aq (b::l)=match aq l with
    | []=>[[b]]
    | x::xs=>(b::x)::xs:=by
    conv=>lhs;unfold aq
    rw[if_neg hb]
   rw[e,ih]
theorem Dc:∀ l:List UInt8,(Lib.cut l [47]).2.2=true->(Lib.cut l [47]).2.1.length<l.length
 | []=>fun h=>by rw[Cv]at h;cases h
 | b::l=>fun h=>by
  by_cases hb:b=47
  ·subst hb;rw[Fp];simp
  ·rw[Ff hb]at h ⊢
   have:=Dc l h
   simp only[Wm];omega
theorem zW (s:ByteArray)(h:cM s=true):(cB s).size<s.size:=by
 have e:(cB s).size=(Lib.cut s.data.toList [47]).2.1.length:=by simp[cB,ByteArray.size]
 have e2:s.data.toList.length=s.size:=by simp
 have:=Dc s.data.toList h;omega
def E4 (b:Bool):Int:=bif b then 1 else 0
def l6:Nat->ByteArray->ByteArray->Int
 | 0,_,_=>0
 | n+1,a,b=>if (cA a).data.toList=(cA b).data.toList then (if cM a=true/\cM b=true then l6 n (cB a) (cB b) else E4 (cM a) - E4 (cM b)) else oR (cA a) (cA b)
def dp (a b:ByteArray):Int:=l6 (a.size+1) a b
def qI:PS:=fun args=>match args with|[.string a,.string b]=>some (.int .i64 (dp a b),a.size<=1000000000/\b.size<=1000000000)|_=>none
theorem KN {w0:World}(h:MX w0):aK EN (aD [] []) w0:=kM (X:=MX) (fun r hr=>by
 simp only[V8,Ww,Xc]at hr
 rcases hr with rfl|rfl
 ·exact Gw
 ·exact⟨CX.1,fun args v p e hp w _=>CX.2 args v p e hp w trivial⟩) fun ν s w hr _=>h.keep fun k hk=>hr.frame k hk (aE k)
theorem cg {E:Env}{M:Own}{w0:World}{cs0:List Frame}{f:FuncId}{R:Ending->World->Prop}{ν:aP}{n:Nat}{S:SM}{o:List (Nat × gR)}{v:Value}(K:aK E M w0)(hM:∀ b,¬ M b)(h:mX (ao E f n S o v))(hR:∀ w',Below w0.heap.size w0 w'->R (.returned v) w'):af E M w0 cs0 f R ν S:=
 af.ao K h.out fun ν' M1 w1 s' w' _ hB hr=>hR _ (aB hM hB hr)
theorem Ka {w0:World}{cs0:List Frame}{R:Ending->World->Prop}(h:MX w0):∀ (n:Nat) (a b:ByteArray),a.size<n->a.size<=1000000000->b.size<=1000000000->
  (∀ w',Below w0.heap.size w0 w'->R (.returned (.int .i64 (l6 n a b))) w')->af EN (aD [] []) w0 cs0 89 R (aA []) (SM.at (GI a b) 6 [])
 | 0,a,b,hn,_,_,_=>by omega
 | n+1,a,b,hn,ha,hb,hR=>by
  have sl:(⟨⟨[47]⟩⟩:ByteArray)=bw:=rfl
  have go:∀ {o v},mX (ao EN 89 300 (SM.at (GI a b) 6 []) o v)->v=.int .i64 (l6 (n+1) a b)->af EN (aD [] []) w0 cs0 89 R (aA []) (SM.at (GI a b) 6 []):=fun hd e=>
   cg (KN h) aE hd fun w' hw=>by rw[e];exact hR _ hw
  by_cases he:(cA a).data.toList=(cA b).data.toList
  ·have hq:((cA a).data.toList==(cA b).data.toList)=true:=Xn.2 he
   cases ma:cM a
   ·cases mb:cM b
    ·refine go (o:=(ff [0,1,2] false++ff [3,4,5,6] true++ff [7] false++ff [8] false)) (v:=.int .i64 0) ⟨?_⟩ (by simp[l6,he,ma,mb,E4])
     rw[n4]
     simp[ah,jB,hq,ma,mb,ha,hb,sl]
     rfl
    ·refine go (o:=(ff [0,1,2] false++ff [3,4,5,6] true++ff [7] false++ff [8] true)) (v:=.int .i64 (-1)) ⟨?_⟩ (by simp[l6,he,ma,mb,E4])
     rw[n2]
     simp[ah,jB,hq,ma,mb,ha,hb,sl]
     rfl
   ·cases mb:cM b
    ·refine go (o:=(ff [0,1,2,3,4,5] false++ff [6,7] true++ff [8] false)) (v:=.int .i64 1) ⟨?_⟩ (by simp[l6,he,ma,mb,E4])
     rw[n5]
     simp[ah,jB,hq,ma,mb,ha,hb,sl]
     rfl
    ·refine af.reach (KN h) (k:=1) (n:=60) (o:=ff (List.range 40) false) (ren:=[]) (eqs:=[]) ?_ (by kernel_rfl) (fun i b h=>by cases i<;>cases h) (l:=[]) (Ka h n (cB a) (cB b) (by have:=zW a ma;omega) (Wh (iH a) ha) (Wh (iH b) hb) fun w' hw=>by
      have:=hR w' hw
      have e:l6 (n+1) a b=l6 n (cB a) (cB b):=by simp[l6,he,ma,mb]
      rwa[e]at this)
     rw[n3]
     simp[ah,jB,hq,ma,mb,ha,hb,sl]
  ·have hq:((cA a).data.toList==(cA b).data.toList)=false:=Wr.2 he
   refine go (o:=ff (List.range 40) true) (v:=.int .i64 (oR (cA a) (cA b))) ⟨?_⟩ (by simp[l6,he])
   rw[n1]
   simp[ah,jB,hq,ha,hb,sl]
theorem Lp:bX Tryz.prog MX (89,qI):=by
 refine .mk ⟨_,Tryz.func89,by kernel_rfl,by kernel_rfl⟩ fun args v p h hp w hX=>?_;dsimp only[qI]at h;split at h
 ·rename_i a b;cases h;refine (eE (E:=EN) rfl rfl (Q:=fun v=>v=.int .i64 (dp a b)) (args:=[.v (.string a),.v (.string b)]) (a:=[.string a,.string b]) w (S0:=a7 EN 89 [.v (.string a),.v (.string b)]) (by kernel_rfl) (au.cons (VR.ae.2 rfl) (au.cons (VR.ae.2 rfl) au.nil)) fun cs0=>?_).mono fun e w' ⟨h1,u,h2,h3⟩=>⟨h1,by rw[h2,h3]⟩;refine af.reach (KN hX) (k:=1) (n:=60) (o:=VP) (ren:=[]) (eqs:=[]) (F:=GI a b) (d:=6) (l:=[]) ?_ (by kernel_rfl) (fun i b h=>by cases i<;>cases h) (Ka hX (a.size+1) a b (by omega) hp.1 hp.2 fun w' hw=>⟨hw,_,rfl,rfl⟩);rw[n0];simp[ah]
 ·cases h
def EC:Env:=EP [(109,Ca),(105,og)] []
theorem c0 (p:ByteArray)(v:Value):ao EC 81 3000 (a7 EC 81 [.v (.string p)]) ([(0,.b true)]) v=[vZ 23=v,decide ((↑p.size:Int)>96)=true]:=by kernel_rfl
theorem TO (p:ByteArray)(v:Value):ao EC 81 3000 (a7 EC 81 [.v (.string p)]) (ff [0] false++ff [8] true) v=[vZ 23=v,(!bc (cA p))=true,(cA p).size.le 1000000000,p.size<=1000000000/\(⟨⟨[47]⟩⟩:ByteArray)=bw,decide ((↑p.size:Int)>96)=false]:=by kernel_rfl
theorem Ua (p:ByteArray)(v:Value):ao EC 81 3000 (a7 EC 81 [.v (.string p)]) (ff [0,8,10] false++ff [] true) v=[vZ 0=v,cM p=false,(!bc (cA p))=false,(cA p).size.le 1000000000,p.size<=1000000000/\(⟨⟨[47]⟩⟩:ByteArray)=bw,decide ((↑p.size:Int)>96)=false]:=by kernel_rfl
theorem Sr (p:ByteArray)(v:Value):ao EC 81 3000 (a7 EC 81 [.v (.string p)]) (ff [0,8] false++ff [17,10] true) v=[vZ 23=v,(!bc (cA (cB p)))=true,(cA (cB p)).size.le 1000000000,(cB p).size<=1000000000/\(⟨⟨[47]⟩⟩:ByteArray)=bw,cM p=true,(!bc (cA p))=false,(cA p).size.le 1000000000,p.size<=1000000000/\(⟨⟨[47]⟩⟩:ByteArray)=bw,decide ((↑p.size:Int)>96)=false]:=by kernel_rfl
theorem TS (p:ByteArray)(v:Value):ao EC 81 3000 (a7 EC 81 [.v (.string p)]) (ff [0,8,17,19] false++ff [10] true) v=[vZ 0=v,cM (cB p)=false,(!bc (cA (cB p)))=false,(cA (cB p)).size.le 1000000000,(cB p).size<=1000000000/\(⟨⟨[47]⟩⟩:ByteArray)=bw,cM p=true,(!bc (cA p))=false,(cA p).size.le 1000000000,p.size<=1000000000/\(⟨⟨[47]⟩⟩:ByteArray)=bw,decide ((↑p.size:Int)>96)=false]:=by kernel_rfl
theorem U1 (p:ByteArray)(v:Value):ao EC 81 3000 (a7 EC 81 [.v (.string p)]) (ff [0,8,17] false++ff [26,10,19] true) v=[vZ 23=v,(!bc (cA (cB (cB p))))=true,(cA (cB (cB p))).size.le 1000000000,(cB (cB p)).size<=1000000000/\(⟨⟨[47]⟩⟩:ByteArray)=bw,cM (cB p)=true,(!bc (cA (cB p)))=false,(cA (cB p)).size.le 1000000000,(cB p).size<=1000000000/\(⟨⟨[47]⟩⟩:ByteArray)=bw,cM p=true,(!bc (cA p))=false,(cA p).size.le 1000000000,p.size<=1000000000/\(⟨⟨[47]⟩⟩:ByteArray)=bw,decide ((↑p.size:Int)>96)=false]:=by kernel_rfl
theorem TK (p:ByteArray)(v:Value):ao EC 81 3000 (a7 EC 81 [.v (.string p)]) (ff [0,8,17,26,28] false++ff [10,19] true) v=[vZ 0=v,cM (cB (cB p))=false,(!bc (cA (cB (cB p))))=false,(cA (cB (cB p))).size.le 1000000000,(cB (cB p)).size<=1000000000/\(⟨⟨[47]⟩⟩:ByteArray)=bw,cM (cB p)=true,(!bc (cA (cB p)))=false,(cA (cB p)).size.le 1000000000,(cB p).size<=1000000000/\(⟨⟨[47]⟩⟩:ByteArray)=bw,cM p=true,(!bc (cA p))=false,(cA p).size.le 1000000000,p.size<=1000000000/\(⟨⟨[47]⟩⟩:ByteArray)=bw,decide ((↑p.size:Int)>96)=false]:=by kernel_rfl
theorem Ur (p:ByteArray)(v:Value):ao EC 81 3000 (a7 EC 81 [.v (.string p)]) (ff [0,8,17,26] false++ff [35,10,19,28] true) v=[vZ 23=v,(!bc (cA (cB (cB (cB p)))))=true,(cA (cB (cB (cB p)))).size.le 1000000000,(cB (cB (cB p))).size<=1000000000/\(⟨⟨[47]⟩⟩:ByteArray)=bw,cM (cB (cB p))=true,(!bc (cA (cB (cB p))))=false,(cA (cB (cB p))).size.le 1000000000,(cB (cB p)).size<=1000000000/\(⟨⟨[47]⟩⟩:ByteArray)=bw,cM (cB p)=true,(!bc (cA (cB p)))=false,(cA (cB p)).size.le 1000000000,(cB p).size<=1000000000/\(⟨⟨[47]⟩⟩:ByteArray)=bw,cM p=true,(!bc (cA p))=false,(cA p).size.le 1000000000,p.size<=1000000000/\(⟨⟨[47]⟩⟩:ByteArray)=bw,decide ((↑p.size:Int)>96)=false]:=by kernel_rfl
theorem S6 (p:ByteArray)(v:Value):ao EC 81 3000 (a7 EC 81 [.v (.string p)]) (ff [0,8,17,26,35,37] false++ff [10,19,28] true) v=[vZ 0=v,cM (cB (cB (cB p)))=false,(!bc (cA (cB (cB (cB p)))))=false,(cA (cB (cB (cB p)))).size.le 1000000000,(cB (cB (cB p))).size<=1000000000/\(⟨⟨[47]⟩⟩:ByteArray)=bw,cM (cB (cB p))=true,(!bc (cA (cB (cB p))))=false,(cA (cB (cB p))).size.le 1000000000,(cB (cB p)).size<=1000000000/\(⟨⟨[47]⟩⟩:ByteArray)=bw,cM (cB p)=true,(!bc (cA (cB p)))=false,(cA (cB p)).size.le 1000000000,(cB p).size<=1000000000/\(⟨⟨[47]⟩⟩:ByteArray)=bw,cM p=true,(!bc (cA p))=false,(cA p).size.le 1000000000,p.size<=1000000000/\(⟨⟨[47]⟩⟩:ByteArray)=bw,decide ((↑p.size:Int)>96)=false]:=by kernel_rfl
theorem Rp (p:ByteArray)(v:Value):ao EC 81 3000 (a7 EC 81 [.v (.string p)]) (ff [0,8,17,26,35] false++ff [44,10,19,28,37] true) v=[vZ 23=v,(!bc (cA (cB (cB (cB (cB p))))))=true,(cA (cB (cB (cB (cB p))))).size.le 1000000000,(cB (cB (cB (cB p)))).size<=1000000000/\(⟨⟨[47]⟩⟩:ByteArray)=bw,cM (cB (cB (cB p)))=true,(!bc (cA (cB (cB (cB p)))))=false,(cA (cB (cB (cB p)))).size.le 1000000000,(cB (cB (cB p))).size<=1000000000/\(⟨⟨[47]⟩⟩:ByteArray)=bw,cM (cB (cB p))=true,(!bc (cA (cB (cB p))))=false,(cA (cB (cB p))).size.le 1000000000,(cB (cB p)).size<=1000000000/\(⟨⟨[47]⟩⟩:ByteArray)=bw,cM (cB p)=true,(!bc (cA (cB p)))=false,(cA (cB p)).size.le 1000000000,(cB p).size<=1000000000/\(⟨⟨[47]⟩⟩:ByteArray)=bw,cM p=true,(!bc (cA p))=false,(cA p).size.le 1000000000,p.size<=1000000000/\(⟨⟨[47]⟩⟩:ByteArray)=bw,decide ((↑p.size:Int)>96)=false]:=by kernel_rfl
theorem RZ (p:ByteArray)(v:Value):ao EC 81 3000 (a7 EC 81 [.v (.string p)]) (ff [0,8,17,26,35,44,46] false++ff [10,19,28,37] true) v=[vZ 0=v,cM (cB (cB (cB (cB p))))=false,(!bc (cA (cB (cB (cB (cB p))))))=false,(cA (cB (cB (cB (cB p))))).size.le 1000000000,(cB (cB (cB (cB p)))).size<=1000000000/\(⟨⟨[47]⟩⟩:ByteArray)=bw,cM (cB (cB (cB p)))=true,(!bc (cA (cB (cB (cB p)))))=false,(cA (cB (cB (cB p)))).size.le 1000000000,(cB (cB (cB p))).size<=1000000000/\(⟨⟨[47]⟩⟩:ByteArray)=bw,cM (cB (cB p))=true,(!bc (cA (cB (cB p))))=false,(cA (cB (cB p))).size.le 1000000000,(cB (cB p)).size<=1000000000/\(⟨⟨[47]⟩⟩:ByteArray)=bw,cM (cB p)=true,(!bc (cA (cB p)))=false,(cA (cB p)).size.le 1000000000,(cB p).size<=1000000000/\(⟨⟨[47]⟩⟩:ByteArray)=bw,cM p=true,(!bc (cA p))=false,(cA p).size.le 1000000000,p.size<=1000000000/\(⟨⟨[47]⟩⟩:ByteArray)=bw,decide ((↑p.size:Int)>96)=false]:=by kernel_rfl
theorem Sz (p:ByteArray)(v:Value):ao EC 81 3000 (a7 EC 81 [.v (.string p)]) (ff [0,8,17,26,35,44] false++ff [53,10,19,28,37,46] true) v=[vZ 23=v,(!bc (cA (cB (cB (cB (cB (cB p)))))))=true,(cA (cB (cB (cB (cB (cB p)))))).size.le 1000000000,(cB (cB (cB (cB (cB p))))).size<=1000000000/\(⟨⟨[47]⟩⟩:ByteArray)=bw,cM (cB (cB (cB (cB p))))=true,(!bc (cA (cB (cB (cB (cB p))))))=false,(cA (cB (cB (cB (cB p))))).size.le 1000000000,(cB (cB (cB (cB p)))).size<=1000000000/\(⟨⟨[47]⟩⟩:ByteArray)=bw,cM (cB (cB (cB p)))=true,(!bc (cA (cB (cB (cB p)))))=false,(cA (cB (cB (cB p)))).size.le 1000000000,(cB (cB (cB p))).size<=1000000000/\(⟨⟨[47]⟩⟩:ByteArray)=bw,cM (cB (cB p))=true,(!bc (cA (cB (cB p))))=false,(cA (cB (cB p))).size.le 1000000000,(cB (cB p)).size<=1000000000/\(⟨⟨[47]⟩⟩:ByteArray)=bw,cM (cB p)=true,(!bc (cA (cB p)))=false,(cA (cB p)).size.le 1000000000,(cB p).size<=1000000000/\(⟨⟨[47]⟩⟩:ByteArray)=bw,cM p=true,(!bc (cA p))=false,(cA p).size.le 1000000000,p.size<=1000000000/\(⟨⟨[47]⟩⟩:ByteArray)=bw,decide ((↑p.size:Int)>96)=false]:=by kernel_rfl
theorem UW (p:ByteArray)(v:Value):ao EC 81 3000 (a7 EC 81 [.v (.string p)]) (ff [0,8,17,26,35,44,53,55] false++ff [10,19,28,37,46] true) v=[vZ 0=v,cM (cB (cB (cB (cB (cB p)))))=false,(!bc (cA (cB (cB (cB (cB (cB p)))))))=false,(cA (cB (cB (cB (cB (cB p)))))).size.le 1000000000,(cB (cB (cB (cB (cB p))))).size<=1000000000/\(⟨⟨[47]⟩⟩:ByteArray)=bw,cM (cB (cB (cB (cB p))))=true,(!bc (cA (cB (cB (cB (cB p))))))=false,(cA (cB (cB (cB (cB p))))).size.le 1000000000,(cB (cB (cB (cB p)))).size<=1000000000/\(⟨⟨[47]⟩⟩:ByteArray)=bw,cM (cB (cB (cB p)))=true,(!bc (cA (cB (cB (cB p)))))=false,(cA (cB (cB (cB p)))).size.le 1000000000,(cB (cB (cB p))).size<=1000000000/\(⟨⟨[47]⟩⟩:ByteArray)=bw,cM (cB (cB p))=true,(!bc (cA (cB (cB p))))=false,(cA (cB (cB p))).size.le 1000000000,(cB (cB p)).size<=1000000000/\(⟨⟨[47]⟩⟩:ByteArray)=bw,cM (cB p)=true,(!bc (cA (cB p)))=false,(cA (cB p)).size.le 1000000000,(cB p).size<=1000000000/\(⟨⟨[47]⟩⟩:ByteArray)=bw,cM p=true,(!bc (cA p))=false,(cA p).size.le 1000000000,p.size<=1000000000/\(⟨⟨[47]⟩⟩:ByteArray)=bw,decide ((↑p.size:Int)>96)=false]:=by kernel_rfl
theorem cd (p:ByteArray)(v:Value):ao EC 81 3000 (a7 EC 81 [.v (.string p)]) (ff [0,8,17,26,35,44,53] false++ff [10,19,28,37,46,55] true) v=[vZ 23=v,(cB (cB (cB (cB (cB (cB p)))))).size<=1000000000/\(⟨⟨[47]⟩⟩:ByteArray)=bw,cM (cB (cB (cB (cB (cB p)))))=true,(!bc (cA (cB (cB (cB (cB (cB p)))))))=false,(cA (cB (cB (cB (cB (cB p)))))).size.le 1000000000,(cB (cB (cB (cB (cB p))))).size<=1000000000/\(⟨⟨[47]⟩⟩:ByteArray)=bw,cM (cB (cB (cB (cB p))))=true,(!bc (cA (cB (cB (cB (cB p))))))=false,(cA (cB (cB (cB (cB p))))).size.le 1000000000,(cB (cB (cB (cB p)))).size<=1000000000/\(⟨⟨[47]⟩⟩:ByteArray)=bw,cM (cB (cB (cB p)))=true,(!bc (cA (cB (cB (cB p)))))=false,(cA (cB (cB (cB p)))).size.le 1000000000,(cB (cB (cB p))).size<=1000000000/\(⟨⟨[47]⟩⟩:ByteArray)=bw,cM (cB (cB p))=true,(!bc (cA (cB (cB p))))=false,(cA (cB (cB p))).size.le 1000000000,(cB (cB p)).size<=1000000000/\(⟨⟨[47]⟩⟩:ByteArray)=bw,cM (cB p)=true,(!bc (cA (cB p)))=false,(cA (cB p)).size.le 1000000000,(cB p).size<=1000000000/\(⟨⟨[47]⟩⟩:ByteArray)=bw,cM p=true,(!bc (cA p))=false,(cA p).size.le 1000000000,p.size<=1000000000/\(⟨⟨[47]⟩⟩:ByteArray)=bw,decide ((↑p.size:Int)>96)=false]:=by kernel_rfl
theorem mQ (s:ByteArray):(cA s).size<=s.size:=by
 have e:(cA s).size=(Lib.cut s.data.toList [47]).1.length:=by simp[cA,ByteArray.size]
 have e2:s.data.toList.length=s.size:=by simp
 rw[e];unfold Lib.cut;split
 ·simp only[WX];omega
 ·simp
def kN:Nat->ByteArray->Bool
 | 0,_=>false
 | n+1,p=>bc (cA p)&&(!(cM p)||kN n (cB p))
def aR (p:ByteArray):Bool:=decide (p.size<=96)&&kN 6 p
def aG (p:ByteArray):Int:=bif aR p then 0 else 23
def kS:PS:=fun args=>match args with|[.string p]=>some (.int .i64 (aG p),p.size<=1000000000)|_=>none
theorem KC {w0:World}(h:MX w0):aK EC (aD [] []) w0:=kM (X:=MX) (fun r hr=>by
 simp only[V8,Ww,Xc]at hr
 rcases hr with rfl|rfl
 ·exact Gw
 ·exact⟨Cp.1,fun args v p e hp w _=>Cp.2 args v p e hp w trivial⟩) fun ν s w hr _=>h.keep fun k hk=>hr.frame k hk (aE k)
theorem oU:bX Tryz.prog MX (81,kS):=by
 refine .mk ⟨_,Tryz.func81,by kernel_rfl,by kernel_rfl⟩ fun args v p h hp w hX=>?_;dsimp only[kS]at h;split at h
 ·rename_i p;cases h
  have go:∀ {o v},mX (ao EC 81 3000 (a7 EC 81 [.v (.string p)]) o v)->v=.int .i64 (aG p)->Calls Tryz.prog 81 #[.string p] w fun e w'=>Below w.heap.size w w'/\e=.returned (.int .i64 (aG p)):=fun h e=>
   e ▸ bW (E:=EC) (args:=[.v (.string p)]) rfl rfl (KC hX) (by kernel_rfl) (au.cons (VR.ae.2 rfl) au.nil) h
  by_cases h96:p.size>96
  ·exact go (o:=[(0,.b true)]) ⟨by rw[c0];exact⟨⟨trivial,V0 (by omega)⟩,rfl⟩⟩ (by simp[aG,aR,show ¬ p.size<=96 by omega])
  have d96:decide ((p.size:Int)>96)=false:=V2 (by omega);have g96:decide (p.size<=96)=true:=V0 (by omega);have sl:(⟨⟨[47]⟩⟩:ByteArray)=bw:=rfl;have s0:p.size<=1000000000:=hp;have a0:(cA p).size<=1000000000:=Wh (mQ _) s0;have s1:(cB p).size<=1000000000:=Wh (iH _) s0;have a1:(cA (cB p)).size<=1000000000:=Wh (mQ _) s1;have s2:(cB (cB p)).size<=1000000000:=Wh (iH _) s1;have a2:(cA (cB (cB p))).size<=1000000000:=Wh (mQ _) s2;have s3:(cB (cB (cB p))).size<=1000000000:=Wh (iH _) s2;have a3:(cA (cB (cB (cB p)))).size<=1000000000:=Wh (mQ _) s3;have s4:(cB (cB (cB (cB p)))).size<=1000000000:=Wh (iH _) s3;have a4:(cA (cB (cB (cB (cB p))))).size<=1000000000:=Wh (mQ _) s4;have s5:(cB (cB (cB (cB (cB p))))).size<=1000000000:=Wh (iH _) s4;have a5:(cA (cB (cB (cB (cB (cB p)))))).size<=1000000000:=Wh (mQ _) s5;have s6:(cB (cB (cB (cB (cB (cB p)))))).size<=1000000000:=Wh (iH _) s5;cases p0:bc (cA p)
  ·exact go (o:=(ff [0] false++ff [8] true)) (v:=.int .i64 23) ⟨by rw[TO];simp[ah,d96,sl,s0,a0,p0]⟩ (by simp[aG,aR,kN,g96,p0])
  cases m0:cM p
  ·exact go (o:=(ff [0,8,10] false++ff [] true)) (v:=.int .i64 0) ⟨by rw[Ua];simp[ah,d96,sl,s0,a0,p0,m0]⟩ (by simp[aG,aR,kN,g96,p0,m0])
  cases p1:bc (cA (cB p))
  ·exact go (o:=(ff [0,8] false++ff [17,10] true)) (v:=.int .i64 23) ⟨by rw[Sr];simp[ah,d96,sl,s0,a0,p0,m0,s1,a1,p1]⟩ (by simp[aG,aR,kN,g96,p0,m0,p1])
  cases m1:cM (cB p)
  ·exact go (o:=(ff [0,8,17,19] false++ff [10] true)) (v:=.int .i64 0) ⟨by rw[TS];simp[ah,d96,sl,s0,a0,p0,m0,s1,a1,p1,m1]⟩ (by simp[aG,aR,kN,g96,p0,m0,p1,m1])
  cases p2:bc (cA (cB (cB p)))
  ·exact go (o:=(ff [0,8,17] false++ff [26,10,19] true)) (v:=.int .i64 23) ⟨by rw[U1];simp[ah,d96,sl,s0,a0,p0,m0,s1,a1,p1,m1,s2,a2,p2]⟩ (by simp[aG,aR,kN,g96,p0,m0,p1,m1,p2])
  cases m2:cM (cB (cB p))
  ·exact go (o:=(ff [0,8,17,26,28] false++ff [10,19] true)) (v:=.int .i64 0) ⟨by rw[TK];simp[ah,d96,sl,s0,a0,p0,m0,s1,a1,p1,m1,s2,a2,p2,m2]⟩ (by simp[aG,aR,kN,g96,p0,m0,p1,m1,p2,m2])
  cases p3:bc (cA (cB (cB (cB p))))
  ·exact go (o:=(ff [0,8,17,26] false++ff [35,10,19,28] true)) (v:=.int .i64 23) ⟨by rw[Ur];simp[ah,d96,sl,s0,a0,p0,m0,s1,a1,p1,m1,s2,a2,p2,m2,s3,a3,p3]⟩ (by simp[aG,aR,kN,g96,p0,m0,p1,m1,p2,m2,p3])
  cases m3:cM (cB (cB (cB p)))
  ·exact go (o:=(ff [0,8,17,26,35,37] false++ff [10,19,28] true)) (v:=.int .i64 0) ⟨by rw[S6];simp[ah,d96,sl,s0,a0,p0,m0,s1,a1,p1,m1,s2,a2,p2,m2,s3,a3,p3,m3]⟩ (by simp[aG,aR,kN,g96,p0,m0,p1,m1,p2,m2,p3,m3])
  cases p4:bc (cA (cB (cB (cB (cB p)))))
  ·exact go (o:=(ff [0,8,17,26,35] false++ff [44,10,19,28,37] true)) (v:=.int .i64 23) ⟨by rw[Rp];simp[ah,d96,sl,s0,a0,p0,m0,s1,a1,p1,m1,s2,a2,p2,m2,s3,a3,p3,m3,s4,a4,p4]⟩ (by simp[aG,aR,kN,g96,p0,m0,p1,m1,p2,m2,p3,m3,p4])
  cases m4:cM (cB (cB (cB (cB p))))
  ·exact go (o:=(ff [0,8,17,26,35,44,46] false++ff [10,19,28,37] true)) (v:=.int .i64 0) ⟨by rw[RZ];simp[ah,d96,sl,s0,a0,p0,m0,s1,a1,p1,m1,s2,a2,p2,m2,s3,a3,p3,m3,s4,a4,p4,m4]⟩ (by simp[aG,aR,kN,g96,p0,m0,p1,m1,p2,m2,p3,m3,p4,m4])
  cases p5:bc (cA (cB (cB (cB (cB (cB p))))))
  ·exact go (o:=(ff [0,8,17,26,35,44] false++ff [53,10,19,28,37,46] true)) (v:=.int .i64 23) ⟨by rw[Sz];simp[ah,d96,sl,s0,a0,p0,m0,s1,a1,p1,m1,s2,a2,p2,m2,s3,a3,p3,m3,s4,a4,p4,m4,s5,a5,p5]⟩ (by simp[aG,aR,kN,g96,p0,m0,p1,m1,p2,m2,p3,m3,p4,m4,p5])
  cases m5:cM (cB (cB (cB (cB (cB p)))))
  ·exact go (o:=(ff [0,8,17,26,35,44,53,55] false++ff [10,19,28,37,46] true)) (v:=.int .i64 0) ⟨by rw[UW];simp[ah,d96,sl,s0,a0,p0,m0,s1,a1,p1,m1,s2,a2,p2,m2,s3,a3,p3,m3,s4,a4,p4,m4,s5,a5,p5,m5]⟩ (by simp[aG,aR,kN,g96,p0,m0,p1,m1,p2,m2,p3,m3,p4,m4,p5,m5])
  exact go (o:=(ff [0,8,17,26,35,44,53] false++ff [10,19,28,37,46,55] true)) (v:=.int .i64 23) ⟨by rw[cd];simp[ah,d96,sl,s0,a0,p0,m0,s1,a1,p1,m1,s2,a2,p2,m2,s3,a3,p3,m3,s4,a4,p4,m4,s5,a5,p5,m5,s6]⟩ (by simp[aG,aR,kN,g96,p0,m0,p1,m1,p2,m2,p3,m3,p4,m4,p5,m5])
 ·cases h
theorem mL (p:ByteArray)(h:aG p=0):p.size≠0:=by
 intro e;have hp:p=⟨#[]⟩:=rB (l:=[]) (by have:p.data.toList.length=0:=(by simpa using e);exact Wd.1 this);subst hp;have h1:cA ⟨#[]⟩=⟨#[]⟩:=Mx;have h2:bc ⟨#[]⟩=false:=by simp[bc]
 simp[aG,aR,kN,h1,h2]at h
def EU:Env:=EP [(81,kS)] []
theorem u0 (p:ByteArray)(v:Value):ao EU 88 300 (a7 EU 88 [.v (.string p)]) (ff [0,1,2,3,4,5,6] false) v=[VU false=v,(aG p==0)=false,(aG p==0)=false,(aG p==0)=false,(aG p==0)=false,p.size.le 1000000000]:=by kernel_rfl
theorem u1 (p:ByteArray)(v:Value):ao EU 88 300 (a7 EU 88 [.v (.string p)]) (ff [0,1,2,3,4,5,6] true) v=[(VU !(↑(p.data.getD 0 (0:UInt8)).toNat:Int)==126)=v,(aG p==0)=true,(aG p==0)=true,ai 0 p.size=true,(aG p==0)=true,(aG p==0)=true,p.size.le 1000000000]:=by kernel_rfl
def fN (p:ByteArray):Bool:=aG p==0&&!(p.data.getD 0 0==126)
def qm:PS:=fun args=>match args with|[.string p]=>some (.bool (fN p),p.size<=1000000000)|_=>none
theorem KU {w0:World}(h:MX w0):aK EU (aD [] []) w0:=kM (X:=MX) (fun r hr=>by
 simp only[V8,Ww,Xc]at hr
 subst hr
 exact oU) fun ν s w hr _=>h.keep fun k hk=>hr.frame k hk (aE k)
theorem JJ:bX Tryz.prog MX (88,qm):=by
 refine .mk ⟨_,Tryz.func88,by kernel_rfl,by kernel_rfl⟩ fun args v p h hp w hX=>?_;dsimp only[qm]at h;split at h
 ·rename_i p;cases h
  have go:∀ {o v},mX (ao EU 88 300 (a7 EU 88 [.v (.string p)]) o v)->v=.bool (fN p)->Calls Tryz.prog 88 #[.string p] w fun e w'=>Below w.heap.size w w'/\e=.returned (.bool (fN p)):=fun h e=>
   e ▸ bW (E:=EU) (args:=[.v (.string p)]) rfl rfl (KU hX) (by kernel_rfl) (au.cons (VR.ae.2 rfl) au.nil) h
  by_cases h0:aG p=0
  ·have hs:=mL p h0;refine go (o:=ff [0,1,2,3,4,5,6] true) (v:=.bool (fN p)) ⟨?_⟩ rfl;rw[u1];have hr:ai 0 p.size=true:=by unfold ai;exact V0 (by omega)
   have hc:(((p.data.getD 0 0).toNat:Int)==126)=(p.data.getD 0 0==126):=by
    by_cases e:p.data.getD 0 0=126
    ·rw[e];rfl
    ·have:¬ ((p.data.getD 0 0).toNat:Int)=126:=fun h=>e (X0.1 (show (p.data.getD 0 0).toNat=126 by omega));rw[Wr.2 e,Wr.2 this]
   refine⟨⟨⟨⟨⟨⟨⟨trivial,hp⟩,?_⟩,?_⟩,hr⟩,?_⟩,?_⟩,?_⟩<;>first|(rw[h0];rfl)|(rw[hc];simp[fN,h0])
  ·have hz:(aG p==0)=false:=Wr.2 h0;refine go (o:=ff [0,1,2,3,4,5,6] false) (v:=.bool false) ⟨?_⟩ (by simp[fN,hz]);rw[u0];exact⟨⟨⟨⟨⟨⟨trivial,hp⟩,hz⟩,hz⟩,hz⟩,hz⟩,rfl⟩
 ·cases h
theorem l0 (a b:Int)(v:Value):ao bn 103 300 (a7 bn 103 [.v (.int .i64 a),.v (.int .i64 b)]) (ff [0] true) v=[vZ (-1:Int)=v,decide (a<b)=true]:=by kernel_rfl
theorem l1 (a b:Int)(v:Value):ao bn 103 300 (a7 bn 103 [.v (.int .i64 a),.v (.int .i64 b)]) (ff [0] false++ff [1] true) v=[vZ 1=v,decide (a>b)=true,decide (a<b)=false]:=by kernel_rfl
theorem l2 (a b:Int)(v:Value):ao bn 103 300 (a7 bn 103 [.v (.int .i64 a),.v (.int .i64 b)]) (ff [0,1] false) v=[vZ 0=v,decide (a>b)=false,decide (a<b)=false]:=by kernel_rfl
def fq (a b:Int):Int:=if a<b then -1 else if b<a then 1 else 0
def tl:PS:=fun args=>match args with|[.int .i64 a,.int .i64 b]=>some (.int .i64 (fq a b),True)|_=>none
def EB:Env:=EP [(103,tl)] []
def G8:List SI:=dA EB 2 60 (a7 EB 102 [.v (.string ⟨#[]⟩),.v (.string ⟨#[]⟩)]) []
def vH (a b:ByteArray)(i:Int):SF:={ fn:=102,tm:=e9 37 6 ([.v (.string a),.v (.string b),.aH,.aH,.aH,.v (.int .i64 i)]++List.replicate 31 .aH),todo:=G8,defers:=[],ret:=false,kind:=.normal,ro:=none }
theorem b0 (a b:ByteArray):reach EB 2 60 (a7 EB 102 [.v (.string a),.v (.string b)]) VP [] [] (vH a b 0) 6 []=[VS a=VS a,VS b=VS b,vZ 0=vZ 0]:=by kernel_rfl
theorem b1 (a b:ByteArray)(i i':Int):reach EB 2 100 (SM.at (vH a b i) 6 []) (ff (List.range 7) true++ff (List.range 40) false) [] [] (vH a b i') 6 []=[VS a=VS a,VS b=VS b,vZ (IntKind.i64.wrap (i+1))=vZ i',decide ((↑(a.data.getD i.toNat (0:UInt8)).toNat:Int)>(↑(b.data.getD i.toNat (0:UInt8)).toNat:Int))=false,ai i b.size=true,ai i a.size=true,decide ((↑(a.data.getD i.toNat (0:UInt8)).toNat:Int)<(↑(b.data.getD i.toNat (0:UInt8)).toNat:Int))=false,ai i b.size=true,ai i a.size=true,decide (i<(↑b.size:Int))=true,decide (i<(↑a.size:Int))=true,decide (i<(↑a.size:Int))=true,decide (i<(↑a.size:Int))=true,decide (i<(↑a.size:Int))=true,decide (i<(↑a.size:Int))=true]:=by kernel_rfl
theorem b2 (a b:ByteArray)(i:Int)(v:Value):ao EB 102 100 (SM.at (vH a b i) 6 []) (ff (List.range 40) true) v=[vZ (-1:Int)=v,decide ((↑(a.data.getD i.toNat (0:UInt8)).toNat:Int)<(↑(b.data.getD i.toNat (0:UInt8)).toNat:Int))=true,ai i b.size=true,ai i a.size=true,decide (i<(↑b.size:Int))=true,decide (i<(↑a.size:Int))=true,decide (i<(↑a.size:Int))=true,decide (i<(↑a.size:Int))=true,decide (i<(↑a.size:Int))=true,decide (i<(↑a.size:Int))=true]:=by kernel_rfl
theorem b3 (a b:ByteArray)(i:Int)(v:Value):ao EB 102 100 (SM.at (vH a b i) 6 []) (ff (List.range 8) true++ff [8] false++ff (List.range 40) true) v=[vZ 1=v,decide ((↑(a.data.getD i.toNat (0:UInt8)).toNat:Int)>(↑(b.data.getD i.toNat (0:UInt8)).toNat:Int))=true,ai i b.size=true,ai i a.size=true,decide ((↑(a.data.getD i.toNat (0:UInt8)).toNat:Int)<(↑(b.data.getD i.toNat (0:UInt8)).toNat:Int))=false,ai i b.size=true,ai i a.size=true,decide (i<(↑b.size:Int))=true,decide (i<(↑a.size:Int))=true,decide (i<(↑a.size:Int))=true,decide (i<(↑a.size:Int))=true,decide (i<(↑a.size:Int))=true,decide (i<(↑a.size:Int))=true]:=by kernel_rfl
theorem b4 (a b:ByteArray)(i:Int)(v:Value):ao EB 102 100 (SM.at (vH a b i) 6 []) (ff (List.range 40) false) v=[vZ (fq (↑a.size:Int) (↑b.size:Int))=v,True,false=false,decide (i<(↑a.size:Int))=false,decide (i<(↑a.size:Int))=false,decide (i<(↑a.size:Int))=false,decide (i<(↑a.size:Int))=false,decide (i<(↑a.size:Int))=false]:=by kernel_rfl
theorem b5 (a b:ByteArray)(i:Int)(v:Value):ao EB 102 100 (SM.at (vH a b i) 6 []) (ff [0,1,2,3,4] true++ff (List.range 40) false) v=[vZ (fq (↑a.size:Int) (↑b.size:Int))=v,True,decide (i<(↑b.size:Int))=false,decide (i<(↑a.size:Int))=true,decide (i<(↑a.size:Int))=true,decide (i<(↑a.size:Int))=true,decide (i<(↑a.size:Int))=true,decide (i<(↑a.size:Int))=true]:=by kernel_rfl
def EK:Env:=EP [] []
def OH:List SI:=dA EK 2 60 (a7 EK 76 [.v (.string ⟨#[]⟩)]) []
def CH (p:ByteArray)(x:SV)(i:Int):SF:={ fn:=76,tm:=e9 37 6 ([.v (.string p),.aH,.aH,x,.v (.int .i64 i)]++List.replicate 32 .aH),todo:=OH,defers:=[],ret:=false,kind:=.normal,ro:=none }
def one (s:ByteArray):List (Option (SO × Bool)):=[some (.row [.v (.string s)] 9 (0,0) none,true)]
def many (l:List SV):List (Option (SO × Bool)):=[some (.row l 9 (0,0) (some 1),true)]
theorem k0 (p:ByteArray):reach EK 2 60 (a7 EK 76 [.v (.string p)]) VP [(0,0)] [] (CH p (.sl 0 0 1 (some 1)) 0) 6 (one ⟨#[]⟩)=[VS p=VS p,0=0/\1=1/\some 1=some 1,vZ 0=vZ 0,VS ⟨⟨[]⟩⟩=VS ⟨⟨[]⟩⟩]:=by kernel_rfl
theorem k1 (p s s':ByteArray)(i i':Int):reach EK 2 100 (SM.at (CH p (.sl 0 0 1 (some 1)) i) 6 (one s)) (ff [0] true++ff (List.range 40) false) [(0,0)] [] (CH p (.sl 0 0 1 (some 1)) i') 6 (one s')=[VS p=VS p,0=0/\1=1/\some 1=some 1,vZ (IntKind.i64.wrap (i+1))=vZ i',VS (s++p.extract i.toNat (IntKind.i64.wrap (i+1)).toNat)=VS s',true=true,(s.size+(p.extract i.toNat (IntKind.i64.wrap (i+1)).toNat).size).le 9223372036854775807,decide (0<=i/\i<=(↑(IntKind.i64.wrap (i+1)).toNat:Int))=true,decide (0<=IntKind.i64.wrap (i+1)/\IntKind.i64.wrap (i+1)<=(↑p.size:Int))=true,true=true,((↑(p.data.getD i.toNat (0:UInt8)).toNat:Int)==47)=false,ai i p.size=true,decide (i<(↑p.size:Int))=true]:=by kernel_rfl
theorem k2 (p s:ByteArray)(i i':Int)(l':List SV):reach EK 2 100 (SM.at (CH p (.sl 0 0 1 (some 1)) i) 6 (one s)) (ff [0,1,2] true) [(0,2)] [0] (CH p (.sl 0 0 2 none) i') 6 (many l')=[VS p=VS p,0=0/\2=2/\nZ=none,vZ (IntKind.i64.wrap (i+1))=vZ i',List.take 1 (List.drop 0 [SV.v (VS s)])++List.take 1 (List.drop 0 (aQ (List.replicate 1 (List.map SV.v [VS ⟨⟨[]⟩⟩])).flatten 0 [SV.v (VS ⟨⟨[]⟩⟩)]))=l',l'.all ab=true,((↑(p.data.getD i.toNat (0:UInt8)).toNat:Int)==47)=true,ai i p.size=true,decide (i<(↑p.size:Int))=true]:=by kernel_rfl
theorem k3 (p s:ByteArray)(l l':List SV)(n:Nat)(i i':Int):reach EK 2 100 (SM.at (CH p (.sl 0 0 n none) i) 6 (many l)) (ff [0] true++ff [2] false++[(4,.cells [.v (.string s)]),(9,.put)]) [(0,0)] [0] (CH p (.sl 0 0 n none) i') 6 (many l')=[VS p=VS p,0=0/\n=n/\nZ=none,vZ (IntKind.i64.wrap (i+1))=vZ i',aQ l (0+(IntKind.i64.wrap ((↑n:Int) - 1)).toNat*1) [SV.v (VS (s++p.extract i.toNat (IntKind.i64.wrap (i+1)).toNat))]=l',l'.all ab=true,0+(IntKind.i64.wrap ((↑n:Int) - 1)).toNat*1+[SV.v (VS (s++p.extract i.toNat (IntKind.i64.wrap (i+1)).toNat))].length<=l.length/\nY (0,0) (0+(IntKind.i64.wrap ((↑n:Int) - 1)).toNat*1) [SV.v (VS (s++p.extract i.toNat (IntKind.i64.wrap (i+1)).toNat))].length=true,ai (IntKind.i64.wrap ((↑n:Int) - 1)) n=true,(s.size+(p.extract i.toNat (IntKind.i64.wrap (i+1)).toNat).size).le 9223372036854775807,decide (0<=i/\i<=(↑(IntKind.i64.wrap (i+1)).toNat:Int))=true,decide (0<=IntKind.i64.wrap (i+1)/\IntKind.i64.wrap (i+1)<=(↑p.size:Int))=true,l[0+(IntKind.i64.wrap ((↑n:Int) - 1)).toNat*1]?=some (SV.v (VS s)),ai (IntKind.i64.wrap ((↑n:Int) - 1)) n=true,((↑(p.data.getD i.toNat (0:UInt8)).toNat:Int)==47)=false,ai i p.size=true,decide (i<(↑p.size:Int))=true]:=by kernel_rfl
theorem k4 (p:ByteArray)(l l' w:List SV)(n:Nat)(i i':Int):reach EK 2 100 (SM.at (CH p (.sl 0 0 n none) i) 6 (many l)) (ff [0,1,2] true++[(3,.app l w)]) [(0,2)] [0] (CH p (.sl 0 0 (n+1) none) i') 6 (many l')=[VS p=VS p,0=0/\n+1=n+1/\nZ=none,vZ (IntKind.i64.wrap (i+1))=vZ i',l++w=l',l'.all ab=true,((List.take 1 (List.drop 0 (aQ (List.replicate 1 (List.map SV.v [VS ⟨⟨[]⟩⟩])).flatten 0 [SV.v (VS ⟨⟨[]⟩⟩)]))=w/\w.length=1*1)/\1≠0/\(2*(n+1)+1024)*16<=140737488355328)/\List.take (n*1) l=l/\l.length=n*1/\w.all SV.flat=true,((↑(p.data.getD i.toNat (0:UInt8)).toNat:Int)==47)=true,ai i p.size=true,decide (i<(↑p.size:Int))=true]:=by kernel_rfl
theorem k5 (p s:ByteArray)(i:Int):bY EK 76 100 (SM.at (CH p (.sl 0 0 1 (some 1)) i) 6 (one s)) (ff [0] false) (.sl 0 0 1 (some 1)) 0 (.row [.v (.string s)] 9 (0,0) none)=[0=0/\1=1/\some 1=some 1,[SV.v (VS s)]=[SV.v (VS s)],[SV.v (VS s)].all ab=true,decide (i<(↑p.size:Int))=false]:=by kernel_rfl
theorem k6 (p:ByteArray)(l:List SV)(n:Nat)(i:Int):bY EK 76 100 (SM.at (CH p (.sl 0 0 n none) i) 6 (many l)) (ff [0] false) (.sl 0 0 n none) 0 (.row l 9 (0,0) (some 1))=[0=0/\n=n/\nZ=none,l=l,l.all ab=true,decide (i<(↑p.size:Int))=false]:=by kernel_rfl
theorem dU {i:Nat}{b:Nat × Nat}{p:Prop}(h:aA [] i=some b):p:=by cases i<;>cases h
theorem wi {x:Int}(h:-9223372036854775808<=x/\x<=9223372036854775807):IntKind.i64.wrap x=x:=Xx _ h
theorem CN:bX Tryz.prog (fun _=>True) (103,tl):=by
 refine .mk ⟨_,Tryz.func103,by kernel_rfl,by kernel_rfl⟩ fun args v p h hp w hX=>?_;dsimp only[tl]at h;split at h
 ·rename_i a b;cases h
  have go:∀ {o v},mX (ao bn 103 300 (a7 bn 103 [.v (.int .i64 a),.v (.int .i64 b)]) o v)->v=.int .i64 (fq a b)->Calls Tryz.prog 103 #[.int .i64 a,.int .i64 b] w fun e w'=>Below w.heap.size w w'/\e=.returned (.int .i64 (fq a b)):=fun h e=>
   e ▸ bW (E:=bn) (args:=[.v (.int .i64 a),.v (.int .i64 b)]) (a:=[.int .i64 a,.int .i64 b]) rfl rfl fQ (by kernel_rfl) (au.cons (VR.ae.2 rfl) (au.cons (VR.ae.2 rfl) au.nil)) h
  by_cases h1:a<b
  ·exact go (o:=ff [0] true) (v:=.int .i64 (-1)) ⟨by rw[l0];simp[ah,h1]⟩ (by simp[fq,h1])
  ·by_cases h2:b<a
   ·exact go (o:=ff [0] false++ff [1] true) (v:=.int .i64 1) ⟨by rw[l1];exact⟨⟨⟨trivial,V2 h1⟩,V0 h2⟩,rfl⟩⟩ (by simp[fq,h1,h2])
   ·exact go (o:=ff [0,1] false) (v:=.int .i64 0) ⟨by rw[l2];exact⟨⟨⟨trivial,V2 h1⟩,V2 h2⟩,rfl⟩⟩ (by simp[fq,h1,h2])
 ·cases h
def eX:List UInt8->List UInt8->Int
 | [],[]=>0
 | [],_::_=>-1
 | _::_,[]=>1
 | x::xs,y::ys=>if x<y then -1 else if y<x then 1 else eX xs ys
def mc (a b:ByteArray):Int:=eX a.data.toList b.data.toList
def rF:PS:=fun args=>match args with|[.string a,.string b]=>some (.int .i64 (mc a b),a.size<=1000000000/\b.size<=1000000000)|_=>none
theorem KB {M:Own}{w0:World}:aK EB M w0:=fM fun r h=>by
 rw[Wl.1 h];exact CN
theorem ki {a:ByteArray}{i:Nat}(h:i<a.size):a.data.toList.drop i=a.data.getD i 0::a.data.toList.drop (i+1):=by
 have h':i<a.data.toList.length:=by simpa using h
 rw[WQ h'];congr 1;rw[Array.getD,dif_pos (show i<a.data.size from h)];simp
theorem aU {k:Nat}(h:k<=1000000000):IntKind.i64.wrap ((k:Int)+1)=((k+1:Nat):Int):=by
 rw[wi (by omega)];simp
theorem aJ {k n:Nat}(h:k<n):ai (k:Int) n=true:=by unfold ai;exact V0 (by omega)
theorem pb {w0:World}{cs0:List Frame}{R:Ending->World->Prop}{a b:ByteArray}(ha:a.size<=1000000000)(hb:b.size<=1000000000):∀ (j i:Nat),i+j=a.size->i<=b.size->
  (∀ w',Below w0.heap.size w0 w'->R (.returned (.int .i64 (eX (a.data.toList.drop i) (b.data.toList.drop i)))) w')->af EB (aD [] []) w0 cs0 102 R (aA []) (SM.at (vH a b i) 6 [])
 | j,i,hj,hib,hR=>by
  have go:∀ {o v},mX (ao EB 102 100 (SM.at (vH a b i) 6 []) o v)->v=.int .i64 (eX (a.data.toList.drop i) (b.data.toList.drop i))->af EB (aD [] []) w0 cs0 102 R (aA []) (SM.at (vH a b i) 6 []):=fun hd e=>
   cg KB aE hd fun w' hw=>by rw[e];exact hR _ hw
  have la:a.data.toList.length=a.size:=by simp
  have lb:b.data.toList.length=b.size:=by simp
  by_cases h1:i<a.size
  ·by_cases h2:i<b.size
   ·have da:=ki h1;have db:=ki h2;have t1:decide ((i:Int)<(a.size:Int))=true:=V0 (by omega);have t2:decide ((i:Int)<(b.size:Int))=true:=V0 (by omega);have r1:=aJ h1;have r2:=aJ h2;have lt_iff:∀ x y:UInt8,(x<y)↔((x.toNat:Int)<(y.toNat:Int)):=fun x y=>by rw[X8];omega
    by_cases c1:(a.data.getD i 0)<(b.data.getD i 0)
    ·refine go (o:=ff (List.range 40) true) (v:=.int .i64 (-1)) ⟨?_⟩ (by rw[da,db];unfold eX;rw[if_pos c1]);rw[b2];have c1':=V0 ((lt_iff _ _).1 c1);simp only[ah,V5,t1,t2,r1,r2,c1',VV]
    ·have c1':=V2 (fun h=>c1 ((lt_iff _ _).2 h));by_cases c2:(b.data.getD i 0)<(a.data.getD i 0)
     ·refine go (o:=ff (List.range 8) true++ff [8] false++ff (List.range 40) true) (v:=.int .i64 1) ⟨?_⟩ (by rw[da,db];unfold eX;rw[if_neg c1,if_pos c2]);rw[b3];have c2':decide (((a.data.getD i 0).toNat:Int)>((b.data.getD i 0).toNat:Int))=true:=V0 ((lt_iff _ _).1 c2);simp only[ah,V5,t1,t2,r1,r2,c1',c2',VV]
     ·have c2':decide (((a.data.getD i 0).toNat:Int)>((b.data.getD i 0).toNat:Int))=false:=V2 (fun h=>c2 ((lt_iff _ _).2 h));match j,hj with
      | 0,hj=>omega
      | j+1,hj=>
       refine af.reach KB (k:=2) (n:=100) (o:=ff (List.range 7) true++ff (List.range 40) false) (ren:=[]) (eqs:=[]) ?_ (by kernel_rfl) (fun i b h=>dU h) (l:=[]) (pb ha hb j (i+1) (by omega) (by omega) fun w' hw=>by
        have e:eX (a.data.toList.drop i) (b.data.toList.drop i)=eX (a.data.toList.drop (i+1)) (b.data.toList.drop (i+1)):=by
         rw[da,db];conv=>lhs;unfold eX
         rw[if_neg c1,if_neg c2]
        exact e ▸ hR w' hw)
       rw[b1];simp only[ah,V5,t1,t2,r1,r2,c1',c2',VV,aU (show i<=1000000000 by omega)]
   ·have hi:i=b.size:=by omega
    have t1:decide ((i:Int)<(a.size:Int))=true:=V0 (by omega);have t2:decide ((i:Int)<(b.size:Int))=false:=V2 (by omega);refine go (o:=(ff [0,1,2,3,4] true++ff (List.range 40) false)) (v:=.int .i64 (fq a.size b.size)) ⟨?_⟩ ?_
    ·rw[b5];simp only[ah,t1,t2,VV]
    ·rw[ki h1,Xf (by omega:b.data.toList.length<=i)];have:fq (a.size:Int) (b.size:Int)=1:=by unfold fq;rw[if_neg (by omega),if_pos (by omega)]
     rw[this];rfl
  ·have hi:i=a.size:=by omega
   have t1:decide ((i:Int)<(a.size:Int))=false:=V2 (by omega);refine go (o:=ff (List.range 40) false) (v:=.int .i64 (fq a.size b.size)) ⟨?_⟩ ?_
   ·rw[b4];simp only[ah,t1,VV]
   ·rw[Xf (by omega:a.data.toList.length<=i)];by_cases h2:i<b.size
    ·rw[ki h2];have:fq (a.size:Int) (b.size:Int)=-1:=by unfold fq;rw[if_pos (by omega)]
     rw[this];rfl
    ·rw[Xf (by omega:b.data.toList.length<=i)];have:fq (a.size:Int) (b.size:Int)=0:=by unfold fq;rw[if_neg (by omega),if_neg (by omega)]
     rw[this];rfl
theorem Gj:bX Tryz.prog (fun _=>True) (102,rF):=by
 refine .mk ⟨_,Tryz.func102,by kernel_rfl,by kernel_rfl⟩ fun args v p h hp w hX=>?_;dsimp only[rF]at h;split at h
 ·rename_i a b;cases h;refine (eE (E:=EB) rfl rfl (Q:=fun v=>v=.int .i64 (mc a b)) (args:=[.v (.string a),.v (.string b)]) (a:=[.string a,.string b]) w (S0:=a7 EB 102 [.v (.string a),.v (.string b)]) (by kernel_rfl) (au.cons (VR.ae.2 rfl) (au.cons (VR.ae.2 rfl) au.nil)) fun cs0=>?_).mono fun e w' ⟨h1,u,h2,h3⟩=>⟨h1,by rw[h2,h3]⟩;refine af.reach KB (k:=2) (n:=60) (o:=VP) (ren:=[]) (eqs:=[]) (F:=vH a b 0) (d:=6) (l:=[]) ?_ (by kernel_rfl) (fun i b h=>dU h) (pb hp.1 hp.2 a.size 0 (by omega) (by omega) fun w' hw=>⟨hw,_,rfl,rfl⟩);rw[b0];simp[ah]
 ·cases h
def mk (l:List UInt8):ByteArray:=⟨l.toArray⟩
theorem KG (b:ByteArray):mk b.data.toList=b:=by cases b;simp[mk]
theorem tO (a b:List UInt8):mk a++mk b=mk (a++b):=by
 apply ByteArray.ext;simp[mk]
theorem mS (l:List UInt8):(mk l).size=l.length:=rfl
theorem qM (p:ByteArray)(k:Nat)(h:k<p.size):p.extract k (k+1)=mk [p.data.getD k 0]:=by
 apply ByteArray.ext;have h':k<p.data.toList.length:=by simpa using h
 have e:(p.data.toList.drop k).take 1=[p.data.getD k 0]:=by rw[ki h];rfl
 have e2:p.data.toList.toArray=p.data:=by simp
 simp only[mk,ByteArray.data_extract];rw[<- e2,List.extract_toArray,List.extract_eq_take_drop,show k+1 - k=1 by omega,e]
theorem iI:∀ (l:List UInt8) (b:UInt8) (init:List (List UInt8)) (last:List UInt8),aq l=init++[last]->aq (l++[b])=if b=47 then init++[last,[]] else init++[last++[b]]
 | [],b,init,last,h=>by
  have h':([[]]:List (List UInt8))=init++[last]:=h
  have:init=[]/\last=[]:=by
   cases init with
   | nil=>simp at h';exact⟨rfl,h'⟩
   | cons x xs=>simp at h'
  obtain⟨rfl,rfl⟩:=this;by_cases hb:b=47<;>simp[aq,hb]
 | c::l,b,init,last,h=>by
  by_cases hc:c=47
  ·subst hc;have e1:aq (47::l)=[]::aq l:=by simp[aq]
   have e2:aq (47::l++[b])=[]::aq (l++[b]):=by simp[aq]
   rw[e1]at h;cases init with
   | nil=>
    simp at h;exact absurd h.2 (cY l)
   | cons x xs=>
    rw[Xs,List.cons.injEq]at h;obtain⟨rfl,h⟩:=h;rw[e2,iI l b xs last h];split<;>simp
  ·have step:∀ m:List UInt8,∀ x xs,aq m=x::xs->aq (c::m)=(c::x)::xs:=fun m x xs hm=>by
    conv=>lhs;unfold aq
    rw[if_neg hc,hm]
   cases hp:aq l with
   | nil=>exact absurd hp (cY l)
   | cons x xs=>
    rw[step l x xs hp]at h;cases init with
    | nil=>
     rw[Xm,List.cons.injEq]at h;obtain⟨rfl,rfl⟩:=h;have ih:=iI l b [] x (by rw[hp];rfl);by_cases hb:b=47
     ·rw[if_pos hb]at ih ⊢;rw[Xs,step _ x [[]] ih];rfl
     ·rw[if_neg hb]at ih ⊢;rw[Xs,step _ (x++[b]) [] ih];rfl
    | cons z zs=>
     rw[Xs,List.cons.injEq]at h;obtain⟨rfl,h⟩:=h;have ih:=iI l b (x::zs) last (by rw[hp,h];rfl);by_cases hb:b=47
     ·rw[if_pos hb]at ih ⊢;rw[Xs,step _ x (zs++[last,[]]) ih];rfl
     ·rw[if_neg hb]at ih ⊢;rw[Xs,step _ x (zs++[last++[b]]) ih];rfl
theorem fX:∀ l:List UInt8,(aq l).length<=l.length+1/\∀ x∈aq l,x.length<=l.length
 | []=>by simp[aq]
 | c::l=>by
  obtain⟨h1,h2⟩:=fX l
  unfold aq
  split
  ·refine⟨by simp only[Wm];omega,fun x hx=>?_⟩
   rcases V8.1 hx with rfl|hx
   ·simp
   ·have:=h2 x hx;simp only[Wm];omega
  ·cases hp:aq l with
   | nil=>exact absurd hp (cY l)
   | cons x xs=>
    rw[hp]at h1 h2
    refine⟨by simp only[Wm]at h1 ⊢;omega,fun y hy=>?_⟩
    rcases V8.1 hy with rfl|hy
    ·have:=h2 x Wj;simp only[Wm];omega
    ·have:=h2 y (Wc _ hy);simp only[Wm];omega
def cP (l:List (List UInt8)):List SV:=l.map fun s=>.v (.string (mk s))
theorem Bn (a b:List (List UInt8)):cP (a++b)=cP a++cP b:=by simp[cP]
theorem Hw (a:List (List UInt8)):(cP a).length=a.length:=by simp[cP]
theorem ey (a:List (List UInt8)):(cP a).all ab=true:=by
 rw[Wn];intro x hx;obtain⟨c,_,rfl⟩:=Wb.1 hx;rfl
theorem JC (a:List (List UInt8)):(cP a).all SV.flat=true:=by
 rw[Wn];intro x hx;obtain⟨c,_,rfl⟩:=Wb.1 hx;rfl
def vP (l:List (List UInt8)):List Value:=l.map fun s=>.string (mk s)
theorem Aw {ν:aP}:∀ {l:List (List UInt8)} {zs:List Value},au ν (cP l) zs->zs=vP l
 | [],zs,h=>au.ay h
 | s::l,zs,h=>by
  obtain⟨z,zs',rfl,h1,h2⟩:=au.cons_inv (x:=.v (.string (mk s))) (xs:=cP l) h
  rw[VR.ae.1 h1,Aw h2];rfl
theorem qD:∀ (a:List SV) (x y:SV),aQ (a++[x]) a.length [y]=a++[y]
 | [],x,y=>rfl
 | z::a,x,y=>by
  show z::aQ (a++[x]) a.length [y]=_
  rw[qD a x y];rfl
theorem nP (p:ByteArray){k:Nat}(h:k<p.size):p.data.toList.take (k+1)=p.data.toList.take k++[p.data.getD k 0]:=by
 have h':k<p.data.toList.length:=by simpa using h
 rw[Wp h'];congr 2;rw[Array.getD,dif_pos (show k<p.data.size from h)];simp
theorem KK {M:Own}{w0:World}:aK EK M w0:=fM fun r h=>by cases h
theorem Iz (x:UInt8):(((x.toNat:Int))==47)=(x==47):=by
 by_cases e:x=47
 ·rw[e];rfl
 ·rw[Wr.2 e,Wr.2 fun h=>e (X0.1 (show x.toNat=47 by omega))]
section
variable {w0:World}{cs0:List Frame}{R:Ending->World->Prop}{p:ByteArray}
def RK (w0:World)(p:ByteArray)(e:Ending)(w':World):Prop:=Below w0.heap.size w0 w'/\∃ y,e=.returned y/\cF w0 w' y (vP (aq p.data.toList)) (aq p.data.toList).length 1 9
theorem sj {w0 w':World}(h:∃ ν1 M1 w1 s',dh (aD [] []) w0 M1 w1/\HR ν1 M1 w1 s' w'):Below w0.heap.size w0 w':=by
 obtain⟨_,_,_,_,hB,hr⟩:=h;exact aB aE hB hr
theorem yK {w0:World}{b:Nat}(h:w0.heap.size<=b\/(aD [] []) b):w0.heap.size<=b:=by
 rcases h with h|h
 ·exact h
 ·exact absurd h (aE _)
theorem B3 (hp:p.size<=1000000000):∀ (j i:Nat),i+j=p.size->∀ (init:List (List UInt8)) (last:List UInt8),aq (p.data.toList.take i)=init++[last]->
  af EK (aD [] []) w0 cs0 76 (RK w0 p) (aA []) (SM.at (CH p (.sl 0 0 (init.length+1) none) i) 6 (many (cP (init++[last]))))
 | 0,i,hj,init,last,h=>by
  have hl:p.data.toList.length=p.size:=by simp
  rw[We (by omega)]at h;refine af.bY KK (n:=100) (o:=ff [0] false) (x:=.sl 0 0 (init.length+1) none) (i:=0) (so:=.row (cP (init++[last])) 9 (0,0) (some 1)) ?_ fun ν' w' y b ob hv hb ho YA hw hB=>?_
  ·rw[k6];simp only[ah,ey,VX,VV,VW];exact V2 (by omega)
  ·refine⟨sj hB,y,rfl,?_⟩;rw[h,show (init++[last]).length=init.length+1 by simp];exact cF.gb hv hb ho YA (yK hw) fun zs hz=>Aw hz
 | j+1,i,hj,init,last,h=>by
  have hi:i<p.size:=by omega
  have hs:=iI _ (p.data.getD i 0) init last h;rw[<- nP p hi]at hs;have t1:decide ((i:Int)<(p.size:Int))=true:=V0 (by omega);have r1:=aJ hi;have hlen:=fX (p.data.toList.take i);rw[h,V7,WX]at hlen;have hll:p.data.toList.length=p.size:=by simp
  have hn:init.length<=1000000000:=by have:=hlen.1;simp at this;omega
  have hlast:last.length<=1000000000:=by have:=hlen.2 last (by simp);omega
  have ws:=aU (k:=i) (by omega);have ws2:=aU (k:=i) (by omega);by_cases hb:p.data.getD i 0=47
  ·rw[if_pos hb]at hs;have e2:init++[last,[]]=(init++[last])++[[]]:=by simp
   have nx:=B3 hp j (i+1) (by omega) (init++[last]) [] (by rw[hs,e2]);have el:(init++[last]).length+1=init.length+1+1:=by simp
   rw[el]at nx;refine af.reach KK (k:=2) (n:=100) (o:=ff [0,1,2] true++[(3,.app (cP (init++[last])) (cP [[]]))]) (ren:=[(0,2)]) (eqs:=[0]) ?_ (by kernel_rfl) (fun i b h=>dU h) nx;rw[k4];have hq:((p.data.getD i 0).toNat:Int)==47:=by rw[Iz,hb];rfl
   simp only[ah,V5,t1,r1,hq,ey,JC,Bn,Hw,ws,WL,VW,VX,XJ];repeat' apply And.intro
   all_goals first|rfl|(simp[cP];done)|(simp[cP];omega)|omega|exact We (by simp[cP])|skip
  ·rw[if_neg hb]at hs;have nx:=B3 hp j (i+1) (by omega) init (last++[p.data.getD i 0]) hs;refine af.reach KK (k:=2) (n:=100) (o:=ff [0] true++ff [2] false++[(4,.cells [.v (.string (mk last))]),(9,.put)]) (ren:=[(0,0)]) (eqs:=[0]) ?_ (by kernel_rfl) (fun i b h=>dU h) nx;rw[k3];have hq:(((p.data.getD i 0).toNat:Int)==47)=false:=by rw[Iz];exact Wr.2 hb
   have wn:IntKind.i64.wrap (((init.length+1:Nat):Int) - 1)=(init.length:Int):=by rw[wi (by omega)];omega
   have rn:ai (init.length:Int) (init.length+1)=true:=aJ (Nat.lt_succ_self _);have g1:(cP (init++[last]))[0+init.length*1]?=some (.v (.string (mk last))):=by simp[cP]
   have g2:aQ (cP (init++[last])) (0+init.length*1) [.v (.string (mk last++mk [p.data.getD i 0]))]=cP (init++[last++[p.data.getD i 0]]):=by
    have:=qD (cP init) (.v (.string (mk last))) (.v (.string (mk last++mk [p.data.getD i 0])));rw[Hw]at this;rw[W8,XJ,Bn,tO]at *;rw[Bn];exact this
   simp only[ah,V5,t1,r1,hq,wn,rn,g1,ws,qM p i hi,g2,ey,VW,VX,VV];repeat' apply And.intro
   all_goals first|rfl|exact V0 (by omega)|(simp[cP];done)|(simp[cP];omega)|(rw[mS,mS];exact Wu (by simp;omega))|(show _+_<=_;rw[mS,mS];simp;omega)|omega
theorem F8 (hp:p.size<=1000000000):∀ (j i:Nat),i+j=p.size->∀ (last:List UInt8),aq (p.data.toList.take i)=[last]->
  af EK (aD [] []) w0 cs0 76 (RK w0 p) (aA []) (SM.at (CH p (.sl 0 0 1 (some 1)) i) 6 (one (mk last)))
 | 0,i,hj,last,h=>by
  have hl:p.data.toList.length=p.size:=by simp
  rw[We (by omega)]at h
  refine af.bY KK (n:=100) (o:=ff [0] false) (x:=.sl 0 0 1 (some 1)) (i:=0) (so:=.row [.v (.string (mk last))] 9 (0,0) none) ?_ fun ν' w' y b ob hv hb ho YA hw hB=>?_
  ·rw[k5]
   simp only[ah,VX,VV,VW]
   exact⟨V2 (by omega),rfl⟩
  ·refine⟨sj hB,y,rfl,?_⟩
   rw[h]
   exact cF.Mp hv hb ho YA (yK hw) (fun zs hz=>Aw (l:=[last]) hz) rfl
 | j+1,i,hj,last,h=>by
  have hi:i<p.size:=by omega
  have hs:=iI _ (p.data.getD i 0) [] last h
  rw[<- nP p hi]at hs
  have t1:decide ((i:Int)<(p.size:Int))=true:=V0 (by omega)
  have r1:=aJ hi
  have hlen:=fX (p.data.toList.take i)
  rw[h,WX]at hlen
  have hll:p.data.toList.length=p.size:=by simp
  have hlast:last.length<=1000000000:=by have:=hlen.2 last (by simp);omega
  have ws:=aU (k:=i) (by omega)
  by_cases hb:p.data.getD i 0=47
  ·rw[if_pos hb]at hs
   have nx:=B3 (w0:=w0) (cs0:=cs0) hp j (i+1) (by omega) [last] [] (by rw[hs];rfl)
   refine af.reach KK (k:=2) (n:=100) (o:=ff [0,1,2] true) (ren:=[(0,2)]) (eqs:=[0]) ?_ (by kernel_rfl) (fun i b h=>dU h) nx
   rw[show ([last]:List (List UInt8)).length+1=2 from rfl,k2]
   have hq:((p.data.getD i 0).toNat:Int)==47:=by rw[Iz,hb];rfl
   simp only[ah,V5,t1,r1,hq,ey,ws,VW,VX]
   repeat' apply And.intro
   all_goals first|rfl|(simp[cP];done)|(simp[cP];omega)|omega|exact We (by simp[cP])|skip
  ·rw[if_neg hb]at hs
   have nx:=F8 hp j (i+1) (by omega) (last++[p.data.getD i 0]) hs
   refine af.reach KK (k:=2) (n:=100) (o:=ff [0] true++ff (List.range 40) false) (ren:=[(0,0)]) (eqs:=[]) ?_ (by kernel_rfl) (fun i b h=>dU h) nx
   rw[k1]
   have hq:(((p.data.getD i 0).toNat:Int)==47)=false:=by rw[Iz];exact Wr.2 hb
   simp only[ah,V5,t1,r1,hq,ws,qM p i hi,tO,VW,VX,VV]
   repeat' apply And.intro
   all_goals first|rfl|exact V0 (by omega)|exact (show (mk last).size+(mk [p.data.getD i 0]).size<=9223372036854775807 by rw[mS,mS];simp;omega)|omega
end
def Dl:PQ:=fun args=>match args with|[.string p]=>some (vP (aq p.data.toList),(aq p.data.toList).length,1,9,none,p.size<=1000000000)|_=>none
theorem rM {X:World->Prop}:bh Tryz.prog X (76,sK Dl):=by
 refine GY ⟨_,Tryz.func76,by kernel_rfl,by kernel_rfl⟩ fun vs ys n C elem ex p h hp w hX=>?_;dsimp only[Dl]at h;split at h
 ·rename_i p;cases h;refine (bP (E:=EK) (R:=RK w p) rfl rfl (args:=[.v (.string p)]) (a:=[.string p]) (S0:=a7 EK 76 [.v (.string p)]) (by kernel_rfl) (au.cons (VR.ae.2 rfl) au.nil) fun cs0=>?_).mono fun e w' ⟨h1,y,h2,h3⟩=>⟨h1,y,h2,h3⟩;have nx:=F8 (w0:=w) (cs0:=cs0) hp p.size 0 (by omega) [] rfl;rw[show mk []=⟨#[]⟩ from rfl]at nx;refine af.reach KK (k:=2) (n:=60) (o:=VP) (ren:=[(0,0)]) (eqs:=[]) (F:=CH p (.sl 0 0 1 (some 1)) 0) (d:=6) (l:=one ⟨#[]⟩) ?_ (by kernel_rfl) (fun i b h=>dU h) nx;rw[k0];simp only[ah,VV,VX,VW];repeat' apply And.intro
  all_goals rfl
 ·cases h
def lR:List (FuncId × Sum):=[(76,sK Dl),(102,cq rF),(103,cq tl)]
def ER:Env:={ EP [] [] with YT:=fun f=>lR.lookup f }
theorem KR {M:Own}{w0:World}:aK ER M w0:=
 aK.uG (Checked.mixed Tryz.checked) (by kernel_rfl) (fh.of iJ rfl dK) (dy.list (X:=fun _=>True) (l:=lR) rfl (fun r hr=>by
  simp only[lR,V8,Ww,Xc]at hr
  rcases hr with rfl|rfl|rfl
  ·exact rM
  ·exact bh.pure (r:=(102,rF)) Gj
  ·exact bh.pure (r:=(103,tl)) CN) fun ν s w hr _=>trivial) (fun f g h=>by cases h)
def Ni:List SI:=dA ER 2 60 (a7 ER 80 [.v (.string ⟨#[]⟩),.v (.string ⟨#[]⟩)]) VP
def H3 (n m:Nat)(i:Int):SF:={ fn:=80,tm:=e9 42 6 (List.replicate 5 .aH++[.sl 0 0 n none,.sl 1 0 m none,.v (.int .i64 i)]++List.replicate 34 .aH),todo:=Ni,defers:=[],ret:=false,kind:=.normal,ro:=none }
def two (l m:List SV):List (Option (SO × Bool)):=[some (.row l 9 (0,0) (some 1),true),some (.row m 9 (0,0) (some 1),true)]
theorem r0 (a b:ByteArray)(n m:Nat)(l l2:List SV):reach ER 2 60 (a7 ER 80 [.v (.string a),.v (.string b)]) VP [(0,0),(1,1)] [0,1] (H3 n m 0) 6 (two l l2)=[0=0/\(aq a.data.toList).length=n/\nZ=none,0=0/\(aq b.data.toList).length=m/\nZ=none,vZ 0=vZ 0,List.map SV.v (vP (aq a.data.toList))=l,l.all ab=true,List.map SV.v (vP (aq b.data.toList))=l2,l2.all ab=true,b.size.le 1000000000,a.size.le 1000000000]:=by kernel_rfl
theorem Uj (s t:ByteArray)(n m:Nat)(l l2:List SV)(i i':Int):reach ER 2 100 (SM.at (H3 n m i) 6 (two l l2)) (ff [0,1,2,3,4,5] true++[(7,.cells [.v (.string s)]),(9,.cells [.v (.string t)])]++ff [11] false) [(0,0),(1,1)] [0,1] (H3 n m i') 6 (two l l2)=[0=0/\n=n/\nZ=none,0=0/\m=m/\nZ=none,vZ (IntKind.i64.wrap (i+1))=vZ i',l=l,l.all ab=true,l2=l2,l2.all ab=true,(!mc s t==0)=false,s.size<=1000000000/\t.size<=1000000000,l2[0+i.toNat*1]?=some (SV.v (VS t)),ai i m=true,l[0+i.toNat*1]?=some (SV.v (VS s)),ai i n=true,decide (i<(↑m:Int))=true,decide (i<(↑n:Int))=true,decide (i<(↑n:Int))=true,decide (i<(↑n:Int))=true,decide (i<(↑n:Int))=true,decide (i<(↑n:Int))=true]:=by kernel_rfl
theorem TY (s t:ByteArray)(n m:Nat)(l l2:List SV)(i:Int)(v:Value):ao ER 80 100 (SM.at (H3 n m i) 6 (two l l2)) (ff [0,1,2,3,4,5] true++[(7,.cells [.v (.string s)]),(9,.cells [.v (.string t)])]++ff [11] true) v=[vZ (mc s t)=v,(!mc s t==0)=true,s.size<=1000000000/\t.size<=1000000000,l2[0+i.toNat*1]?=some (SV.v (VS t)),ai i m=true,l[0+i.toNat*1]?=some (SV.v (VS s)),ai i n=true,decide (i<(↑m:Int))=true,decide (i<(↑n:Int))=true,decide (i<(↑n:Int))=true,decide (i<(↑n:Int))=true,decide (i<(↑n:Int))=true,decide (i<(↑n:Int))=true]:=by kernel_rfl
theorem r3 (n m:Nat)(l l2:List SV)(i:Int)(v:Value):ao ER 80 100 (SM.at (H3 n m i) 6 (two l l2)) (ff [0,1,2,3,4,5] false) v=[vZ (fq (↑n:Int) (↑m:Int))=v,True,false=false,decide (i<(↑n:Int))=false,decide (i<(↑n:Int))=false,decide (i<(↑n:Int))=false,decide (i<(↑n:Int))=false,decide (i<(↑n:Int))=false]:=by kernel_rfl
theorem r4 (n m:Nat)(l l2:List SV)(i:Int)(v:Value):ao ER 80 100 (SM.at (H3 n m i) 6 (two l l2)) (ff [0,1,2,3,4] true++ff [5] false) v=[vZ (fq (↑n:Int) (↑m:Int))=v,True,decide (i<(↑m:Int))=false,decide (i<(↑n:Int))=true,decide (i<(↑n:Int))=true,decide (i<(↑n:Int))=true,decide (i<(↑n:Int))=true,decide (i<(↑n:Int))=true]:=by kernel_rfl
theorem BD (x:UInt8):¬ x<x:=by rw[X8];omega
theorem wO {x y:UInt8}(h1:¬ x<y)(h2:¬ y<x):x=y:=by
 rw[X8]at h1 h2;exact X0.1 (by omega)
theorem LN {x y:UInt8}(h1:x<y):¬ y<x:=by
 rw[X8]at h1 ⊢;omega
theorem vy:∀ x:List UInt8,eX x x=0
 | []=>rfl
 | a::l=>by unfold eX;rw[if_neg (BD a),if_neg (BD a)];exact vy l
theorem pC:∀ {x y:List UInt8},eX x y=0->x=y
 | [],[],_=>rfl
 | [],_::_,h=>by cases h
 | _::_,[],h=>by cases h
 | a::l,b::m,h=>by
  unfold eX at h
  by_cases h1:a<b
  ·rw[if_pos h1]at h;cases h
  ·by_cases h2:b<a
   ·rw[if_neg h1,if_pos h2]at h;cases h
   ·rw[if_neg h1,if_neg h2]at h
    rw[wO h1 h2,pC h]
theorem za:∀ x y:List UInt8,(if Op.bytesLess x y=true then -1 else if (!(Op.bytesLess x y||x==y))=true then 1 else 0:Int)=eX x y
 | [],[]=>by simp[Op.bytesLess,eX]
 | [],_::_=>by simp[Op.bytesLess,eX]
 | _::_,[]=>by simp[Op.bytesLess,eX]
 | a::l,b::m=>by
  have ih:=za l m
  unfold eX
  by_cases h1:a<b
  ·simp[Op.bytesLess,h1]
  ·by_cases h2:b<a
   ·have ne:a≠b:=fun e=>BD b (by rw[e]at h2;exact h2)
    simp[Op.bytesLess,h1,h2,ne]
   ·obtain rfl:=wO h1 h2
    rw[if_neg h1,if_neg h2,<- ih]
    simp[Op.bytesLess,h1]
theorem HU (a b:ByteArray):oR a b=eX a.data.toList b.data.toList:=by
 unfold oR;rw[jB,jB];exact za _ _
def pr:List (List UInt8)->List (List UInt8)->Int
 | [],[]=>0
 | [],_::_=>-1
 | _::_,[]=>1
 | x::xs,y::ys=>if eX x y=0 then pr xs ys else eX x y
theorem xu:∀ (n:Nat) (a b:ByteArray),a.size<n->pr (aq a.data.toList) (aq b.data.toList)=l6 n a b
 | 0,_,_,h=>by omega
 | n+1,a,b,h=>by
  have ea:aq a.data.toList=(cA a).data.toList::(if cM a=true then aq (cB a).data.toList else []):=kz _
  have eb:aq b.data.toList=(cA b).data.toList::(if cM b=true then aq (cB b).data.toList else []):=kz _
  rw[ea,eb]
  unfold pr l6
  by_cases he:(cA a).data.toList=(cA b).data.toList
  ·rw[if_pos he,he,vy,if_pos rfl]
   cases ma:cM a
   ·cases mb:cM b
    ·simp[pr,E4]
    ·cases hp:aq (cB b).data.toList with
     | nil=>exact absurd hp (cY _)
     | cons x xs=>simp[pr,E4,hp]
   ·cases mb:cM b
    ·cases hp:aq (cB a).data.toList with
     | nil=>exact absurd hp (cY _)
     | cons x xs=>simp[pr,E4,hp]
    ·have:=xu n (cB a) (cB b) (by have:=zW a ma;omega)
     simp[this]
  ·rw[if_neg he,HU,if_neg fun e=>he (pC e)]
section
variable {w0:World}{cs0:List Frame}{R:Ending->World->Prop}{xs ys:List (List UInt8)}
theorem KJ (hx:xs.length<=2000000000)(hy:ys.length<=2000000000)(sx:∀ s∈xs,s.length<=1000000000)(sy:∀ s∈ys,s.length<=1000000000):∀ (j i:Nat),i+j=xs.length->i<=ys.length->
  (∀ w',Below w0.heap.size w0 w'->R (.returned (.int .i64 (pr (xs.drop i) (ys.drop i)))) w')->af ER (aD [] []) w0 cs0 80 R (aA []) (SM.at (H3 xs.length ys.length i) 6 (two (cP xs) (cP ys)))
 | j,i,hj,hib,hR=>by
  have go:∀ {o v},mX (ao ER 80 100 (SM.at (H3 xs.length ys.length i) 6 (two (cP xs) (cP ys))) o v)->v=.int .i64 (pr (xs.drop i) (ys.drop i))->af ER (aD [] []) w0 cs0 80 R (aA []) (SM.at (H3 xs.length ys.length i) 6 (two (cP xs) (cP ys))):=fun hd e=>
   cg KR aE hd fun w' hw=>by rw[e];exact hR _ hw
  by_cases h1:i<xs.length
  ·have t1:decide ((i:Int)<(xs.length:Int))=true:=V0 (by omega);by_cases h2:i<ys.length
   ·have t2:decide ((i:Int)<(ys.length:Int))=true:=V0 (by omega);have r1:=aJ h1;have r2:=aJ h2;have da:=WQ h1;have db:=WQ h2;have g1:(cP xs)[0+i*1]?=some (.v (.string (mk xs[i]))):=by simp[cP,h1]
    have g2:(cP ys)[0+i*1]?=some (.v (.string (mk ys[i]))):=by simp[cP,h2]
    have z1:(mk xs[i]).size<=1000000000:=sx _ (WS h1);have z2:(mk ys[i]).size<=1000000000:=sy _ (WS h2);have eb:mc (mk xs[i]) (mk ys[i])=eX xs[i] ys[i]:=by simp[mc,mk]
    by_cases hc:eX xs[i] ys[i]=0
    ·have hq:(!(eX xs[i] ys[i]==(0:Int)))=false:=by rw[hc];rfl
     match j,hj with
     | 0,hj=>omega
     | j+1,hj=>
      refine af.reach KR (k:=2) (n:=100) (o:=(ff [0,1,2,3,4,5] true++[(7,.cells [.v (.string (mk xs[i]))]),(9,.cells [.v (.string (mk ys[i]))])]++ff [11] false)) (ren:=[(0,0),(1,1)]) (eqs:=[0,1]) ?_ (by kernel_rfl) (fun i b h=>dU h) (KJ hx hy sx sy j (i+1) (by omega) (by omega) fun w' hw=>by
       have e:pr (xs.drop i) (ys.drop i)=pr (xs.drop (i+1)) (ys.drop (i+1)):=by
        rw[da,db];conv=>lhs;unfold pr
        rw[if_pos hc]
       exact e ▸ hR w' hw)
      rw[Uj];have ws:IntKind.i64.wrap ((i:Int)+1)=((i+1:Nat):Int):=by rw[wi (by omega)];simp
      simp only[ah,V5,t1,t2,r1,r2,g1,g2,z1,z2,eb,hq,ws,ey,VV]
    ·have hq:(!(eX xs[i] ys[i]==(0:Int)))=true:=by rw[Wr.2 hc];rfl
     refine go (o:=(ff [0,1,2,3,4,5] true++[(7,.cells [.v (.string (mk xs[i]))]),(9,.cells [.v (.string (mk ys[i]))])]++ff [11] true)) (v:=.int .i64 (mc (mk xs[i]) (mk ys[i]))) ⟨?_⟩ (by rw[da,db,eb];unfold pr;rw[if_neg hc]);rw[TY];simp only[ah,V5,t1,t2,r1,r2,g1,g2,z1,z2,eb,hq,VV]
   ·have t2:decide ((i:Int)<(ys.length:Int))=false:=V2 (by omega);refine go (o:=ff [0,1,2,3,4] true++ff [5] false) (v:=.int .i64 (fq xs.length ys.length)) ⟨?_⟩ ?_
    ·rw[r4];simp only[ah,t1,t2,VV]
    ·rw[WQ h1,Xf (by omega:ys.length<=i)];have:fq (xs.length:Int) (ys.length:Int)=1:=by unfold fq;rw[if_neg (by omega),if_pos (by omega)]
     rw[this];rfl
  ·have t1:decide ((i:Int)<(xs.length:Int))=false:=V2 (by omega);refine go (o:=ff [0,1,2,3,4,5] false) (v:=.int .i64 (fq xs.length ys.length)) ⟨?_⟩ ?_
   ·rw[r3];simp only[ah,t1,VV]
   ·rw[Xf (by omega:xs.length<=i)];by_cases h2:i<ys.length
    ·rw[WQ h2];have:fq (xs.length:Int) (ys.length:Int)=-1:=by unfold fq;rw[if_pos (by omega)]
     rw[this];rfl
    ·rw[Xf (by omega:ys.length<=i)];have:fq (xs.length:Int) (ys.length:Int)=0:=by unfold fq;rw[if_neg (by omega),if_neg (by omega)]
     rw[this];rfl
end
theorem CO:bX Tryz.prog (fun _=>True) (80,qI):=by
 refine .mk ⟨_,Tryz.func80,by kernel_rfl,by kernel_rfl⟩ fun args v p h hp w hX=>?_;dsimp only[qI]at h;split at h
 ·rename_i a b;cases h;refine bP (E:=ER) (R:=fun e w'=>Below w.heap.size w w'/\e=.returned (.int .i64 (dp a b))) rfl rfl (args:=[.v (.string a),.v (.string b)]) (a:=[.string a,.string b]) (S0:=a7 ER 80 [.v (.string a),.v (.string b)]) (by kernel_rfl) (au.cons (VR.ae.2 rfl) (au.cons (VR.ae.2 rfl) au.nil)) fun cs0=>?_;have la:a.data.toList.length=a.size:=by simp
  have lb:b.data.toList.length=b.size:=by simp
  obtain⟨ha,hb⟩:=hp;obtain⟨a1,a2⟩:=fX a.data.toList;obtain⟨b1,b2⟩:=fX b.data.toList
  have nx:=KJ (w0:=w) (cs0:=cs0) (R:=fun e w'=>Below w.heap.size w w'/\e=.returned (.int .i64 (dp a b))) (xs:=aq a.data.toList) (ys:=aq b.data.toList) (by omega) (by omega) (fun s hs=>by have:=a2 s hs;omega) (fun s hs=>by have:=b2 s hs;omega) (aq a.data.toList).length 0 (by omega) (by omega) fun w' hw=>⟨hw,by
   rw[List.drop_zero,List.drop_zero,xu (a.size+1) a b (by omega)];rfl⟩
  refine af.reach KR (k:=2) (n:=60) (o:=VP) (ren:=[(0,0),(1,1)]) (eqs:=[0,1]) (F:=H3 (aq a.data.toList).length (aq b.data.toList).length 0) (d:=6) (l:=two (cP (aq a.data.toList)) (cP (aq b.data.toList))) ?_ (by kernel_rfl) (fun i b h=>dU h) nx;have e1:∀ l:List (List UInt8),List.map SV.v (vP l)=cP l:=fun l=>by simp[vP,cP]
  rw[r0];simp only[ah,e1,ey,VV,VX,VW];exact⟨ha,hb⟩
 ·cases h
def Ow:List SI:=dA bn 2 60 (a7 bn 77 [.v (.string ⟨#[]⟩)]) []
def EY (s:ByteArray)(i:Int):SF:={ fn:=77,tm:=e9 30 6 ([.v (.string s),.aH,.aH,.v (.int .i64 i)]++List.replicate 26 .aH),todo:=Ow,defers:=[],ret:=false,kind:=.normal,ro:=none }
theorem q0 (s:ByteArray):reach bn 2 60 (a7 bn 77 [.v (.string s)]) VP [] [] (EY s 0) 6 []=[VS s=VS s,vZ 0=vZ 0]:=by kernel_rfl
theorem q1 (s:ByteArray)(i i':Int):reach bn 2 60 (SM.at (EY s i) 6 []) (ff [0] true++ff [2] false) [] [] (EY s i') 6 []=[VS s=VS s,vZ (IntKind.i64.wrap (i+1))=vZ i',((↑(s.data.getD i.toNat (0:UInt8)).toNat:Int)==0)=false,ai i s.size=true,decide (i<(↑s.size:Int))=true]:=by kernel_rfl
theorem q2 (s:ByteArray)(i:Int)(v:Value):ao bn 77 60 (SM.at (EY s i) 6 []) (ff [0,2] true) v=[VU false=v,((↑(s.data.getD i.toNat (0:UInt8)).toNat:Int)==0)=true,ai i s.size=true,decide (i<(↑s.size:Int))=true]:=by kernel_rfl
theorem q3 (s:ByteArray)(i:Int)(v:Value):ao bn 77 60 (SM.at (EY s i) 6 []) (ff (List.range 20) false) v=[VU false=v,false=false,false=false,false=false,false=false,false=false,false=false,decide ((↑s.size:Int)≥1)=false,decide ((↑s.size:Int)≥1)=false,decide ((↑s.size:Int)≥1)=false,decide ((↑s.size:Int)≥1)=false,decide (i<(↑s.size:Int))=false]:=by kernel_rfl
theorem q4 (s:ByteArray)(i:Int)(v:Value):ao bn 77 60 (SM.at (EY s i) 6 []) (ff [0] false++ff [1,2,3,4] true++ff (List.range 20) false) v=[VU false=v,false=false,false=false,false=false,decide ((↑s.size:Int)<=24)=false,decide ((↑s.size:Int)<=24)=false,decide ((↑s.size:Int)<=24)=false,decide ((↑s.size:Int)≥1)=true,decide ((↑s.size:Int)≥1)=true,decide ((↑s.size:Int)≥1)=true,decide ((↑s.size:Int)≥1)=true,decide (i<(↑s.size:Int))=false]:=by kernel_rfl
theorem q5 (s:ByteArray)(i:Int)(v:Value):ao bn 77 60 (SM.at (EY s i) 6 []) (ff [0] false++ff [1,2,3,4,5,6,7] true++ff (List.range 20) false) v=[VU false=v,(!s.toList==(⟨⟨[46]⟩⟩:ByteArray).toList)=false,(!s.toList==(⟨⟨[46]⟩⟩:ByteArray).toList)=false,(!s.toList==(⟨⟨[46]⟩⟩:ByteArray).toList)=false,decide ((↑s.size:Int)<=24)=true,decide ((↑s.size:Int)<=24)=true,decide ((↑s.size:Int)<=24)=true,decide ((↑s.size:Int)≥1)=true,decide ((↑s.size:Int)≥1)=true,decide ((↑s.size:Int)≥1)=true,decide ((↑s.size:Int)≥1)=true,decide (i<(↑s.size:Int))=false]:=by kernel_rfl
theorem q6 (s:ByteArray)(i:Int)(v:Value):ao bn 77 60 (SM.at (EY s i) 6 []) (ff [0] false++ff (List.range 20) true) v=[(VU !s.toList==(⟨⟨[46,46]⟩⟩:ByteArray).toList)=v,(!s.toList==(⟨⟨[46]⟩⟩:ByteArray).toList)=true,(!s.toList==(⟨⟨[46]⟩⟩:ByteArray).toList)=true,(!s.toList==(⟨⟨[46]⟩⟩:ByteArray).toList)=true,decide ((↑s.size:Int)<=24)=true,decide ((↑s.size:Int)<=24)=true,decide ((↑s.size:Int)<=24)=true,decide ((↑s.size:Int)≥1)=true,decide ((↑s.size:Int)≥1)=true,decide ((↑s.size:Int)≥1)=true,decide ((↑s.size:Int)≥1)=true,decide (i<(↑s.size:Int))=false]:=by kernel_rfl
def O7:List (FuncId × Sum):=[(76,sK Dl),(77,cq og)]
def DC:Env:={ EP [] [] with YT:=fun f=>O7.lookup f }
def KY:List SI:=dA DC 2 60 (a7 DC 45 [.v (.string ⟨#[]⟩)]) (ff [0] false)
def A9 (n:Nat)(i:Int):SF:={ fn:=45,tm:=e9 25 6 ([.aH,.aH,.aH,.sl 0 0 n none,.v (.int .i64 i)]++List.replicate 20 .aH),todo:=KY,defers:=[],ret:=false,kind:=.normal,ro:=none }
theorem Vx (p:ByteArray)(v:Value):ao DC 45 60 (a7 DC 45 [.v (.string p)]) (ff [0] true) v=[VU false=v,decide ((↑p.size:Int)>96)=true]:=by kernel_rfl
theorem RC (p:ByteArray)(n:Nat)(l:List SV):reach DC 2 60 (a7 DC 45 [.v (.string p)]) (ff [0] false) [(0,0)] [0] (A9 n 0) 6 (many l)=[0=0/\(aq p.data.toList).length=n/\nZ=none,vZ 0=vZ 0,List.map SV.v (vP (aq p.data.toList))=l,l.all ab=true,p.size.le 1000000000,decide ((↑p.size:Int)>96)=false]:=by kernel_rfl
theorem SZ (s:ByteArray)(n:Nat)(l:List SV)(i i':Int):reach DC 2 60 (SM.at (A9 n i) 6 (many l)) (ff [0] true++[(2,.cells [.v (.string s)])]++ff [4] false) [(0,0)] [0] (A9 n i') 6 (many l)=[0=0/\n=n/\nZ=none,vZ (IntKind.i64.wrap (i+1))=vZ i',l=l,l.all ab=true,(!bc s)=false,s.size.le 1000000000,l[0+i.toNat*1]?=some (SV.v (VS s)),ai i n=true,decide (i<(↑n:Int))=true]:=by kernel_rfl
theorem Vr (s:ByteArray)(n:Nat)(l:List SV)(i:Int)(v:Value):ao DC 45 60 (SM.at (A9 n i) 6 (many l)) (ff [0] true++[(2,.cells [.v (.string s)])]++ff [4] true) v=[VU false=v,(!bc s)=true,s.size.le 1000000000,l[0+i.toNat*1]?=some (SV.v (VS s)),ai i n=true,decide (i<(↑n:Int))=true]:=by kernel_rfl
theorem TP (n:Nat)(l:List SV)(i:Int)(v:Value):ao DC 45 60 (SM.at (A9 n i) 6 (many l)) (ff [0] false) v=[VU (decide ((↑n:Int)<=6))=v,decide (i<(↑n:Int))=false]:=by kernel_rfl
theorem Q6 (v:Int)(x:Value):ao bn 73 100 (a7 bn 73 [.v (.int .u64 v)]) (ff (List.range 10) true++ff (List.range 20) false) x=[VU false=x,false=false,false=false,false=false,false=false,true=true,true=true,true=true,true=true,true=true,true=true,true=true,decide (v.fdiv (2 ^ 20)<1)=true,decide (v.fdiv (2 ^ 20)<1)=true,decide (v.fdiv (2 ^ 20)<1)=true]:=by kernel_rfl
theorem Rf (v:Int)(x:Value):ao bn 73 100 (a7 bn 73 [.v (.int .u64 v)]) (ff [0,1,2] false++ff (List.range 10) true++ff (List.range 20) false) x=[VU false=x,false=false,false=false,false=false,false=false,true=true,true=true,true=true,true=true,decide (v.fdiv (2 ^ 20)>1099511627776)=true,decide (v.fdiv (2 ^ 20)>1099511627776)=true,decide (v.fdiv (2 ^ 20)>1099511627776)=true,decide (v.fdiv (2 ^ 20)<1)=false,decide (v.fdiv (2 ^ 20)<1)=false,decide (v.fdiv (2 ^ 20)<1)=false]:=by kernel_rfl
theorem Uw (v:Int)(x:Value):ao bn 73 100 (a7 bn 73 [.v (.int .u64 v)]) (ff [0,1,2,3,4,5] false++ff (List.range 10) true++ff (List.range 20) false) x=[VU false=x,false=false,false=false,false=false,false=false,true=true,decide (IntKind.u64.wrap (↑(BitVec.ofInt 64 v &&& BitVec.ofInt 64 1048575).toNat:Int)<1)=true,decide (IntKind.u64.wrap (↑(BitVec.ofInt 64 v &&& BitVec.ofInt 64 1048575).toNat:Int)<1)=true,decide (IntKind.u64.wrap (↑(BitVec.ofInt 64 v &&& BitVec.ofInt 64 1048575).toNat:Int)<1)=true,decide (v.fdiv (2 ^ 20)>1099511627776)=false,decide (v.fdiv (2 ^ 20)>1099511627776)=false,decide (v.fdiv (2 ^ 20)>1099511627776)=false,decide (v.fdiv (2 ^ 20)<1)=false,decide (v.fdiv (2 ^ 20)<1)=false,decide (v.fdiv (2 ^ 20)<1)=false]:=by kernel_rfl
theorem S5 (v:Int)(x:Value):ao bn 73 100 (a7 bn 73 [.v (.int .u64 v)]) (ff [0,1,2,3,4,5,6,7,8,9] false++ff (List.range 20) true) x=[VU (IntKind.u64.wrap (↑(BitVec.ofInt 64 (IntKind.u64.wrap (v.fdiv (2 ^ 20)*2 ^ 20)) ||| BitVec.ofInt 64 (IntKind.u64.wrap (↑(BitVec.ofInt 64 v &&& BitVec.ofInt 64 1048575).toNat:Int))).toNat:Int)==v)=x,true=true,true=true,true=true,true=true,decide (IntKind.u64.wrap (↑(BitVec.ofInt 64 v &&& BitVec.ofInt 64 1048575).toNat:Int)>1048575)=false,decide (IntKind.u64.wrap (↑(BitVec.ofInt 64 v &&& BitVec.ofInt 64 1048575).toNat:Int)<1)=false,decide (IntKind.u64.wrap (↑(BitVec.ofInt 64 v &&& BitVec.ofInt 64 1048575).toNat:Int)<1)=false,decide (IntKind.u64.wrap (↑(BitVec.ofInt 64 v &&& BitVec.ofInt 64 1048575).toNat:Int)<1)=false,decide (v.fdiv (2 ^ 20)>1099511627776)=false,decide (v.fdiv (2 ^ 20)>1099511627776)=false,decide (v.fdiv (2 ^ 20)>1099511627776)=false,decide (v.fdiv (2 ^ 20)<1)=false,decide (v.fdiv (2 ^ 20)<1)=false,decide (v.fdiv (2 ^ 20)<1)=false]:=by kernel_rfl
theorem Um (v:Int)(x:Value):ao bn 39 100 (a7 bn 39 [.v (.int .u64 v)]) (ff (List.range 20) false) x=[Value.tuple { toList:=[V1 IntKind.u64 (IntKind.u64.wrap (v.tdiv 1048576)),V1 IntKind.u64 (v.tmod 1048576),VU false]:Array Value }=x,false=false,false=false,false=false,decide (IntKind.u64.wrap (v.tdiv 1048576)≥1)=false,decide (IntKind.u64.wrap (v.tdiv 1048576)≥1)=false,decide (IntKind.u64.wrap (v.tdiv 1048576)≥1)=false]:=by kernel_rfl
theorem Ra (v:Int)(x:Value):ao bn 39 100 (a7 bn 39 [.v (.int .u64 v)]) (ff [0,1,2] true++ff (List.range 20) false) x=[Value.tuple { toList:=[V1 IntKind.u64 (IntKind.u64.wrap (v.tdiv 1048576)),V1 IntKind.u64 (v.tmod 1048576),VU false]:Array Value }=x,decide (IntKind.u64.wrap (v.tdiv 1048576)<=1099511627776)=false,decide (IntKind.u64.wrap (v.tdiv 1048576)<=1099511627776)=false,decide (IntKind.u64.wrap (v.tdiv 1048576)<=1099511627776)=false,decide (IntKind.u64.wrap (v.tdiv 1048576)≥1)=true,decide (IntKind.u64.wrap (v.tdiv 1048576)≥1)=true,decide (IntKind.u64.wrap (v.tdiv 1048576)≥1)=true]:=by kernel_rfl
theorem Rt (v:Int)(x:Value):ao bn 39 100 (a7 bn 39 [.v (.int .u64 v)]) (ff (List.range 20) true) x=[Value.tuple { toList:=[V1 IntKind.u64 (IntKind.u64.wrap (v.tdiv 1048576)),V1 IntKind.u64 (v.tmod 1048576),VU (decide (v.tmod (1048576:Int)≥1))]:Array Value }=x,decide (IntKind.u64.wrap (v.tdiv 1048576)<=1099511627776)=true,decide (IntKind.u64.wrap (v.tdiv 1048576)<=1099511627776)=true,decide (IntKind.u64.wrap (v.tdiv 1048576)<=1099511627776)=true,decide (IntKind.u64.wrap (v.tdiv 1048576)≥1)=true,decide (IntKind.u64.wrap (v.tdiv 1048576)≥1)=true,decide (IntKind.u64.wrap (v.tdiv 1048576)≥1)=true]:=by kernel_rfl
theorem SL (k:Int)(a:Option Addr)(l c:Nat)(v:Value):ao bn 82 100 (a7 bn 82 [.v (.agg #[.int .i64 1,.slice a l c])]) (ff [1] true) v=[vZ 0=v,decide ((↑l:Int)<=4096)=true]:=by kernel_rfl
theorem Pa (k:Int)(a:Option Addr)(l c:Nat)(v:Value):ao bn 82 100 (a7 bn 82 [.v (.agg #[.int .i64 1,.slice a l c])]) (ff [1] false) v=[vZ 13=v,decide ((↑l:Int)<=4096)=false]:=by kernel_rfl
theorem QC (k:Int)(a:Option Addr)(l c:Nat)(v:Value):ao bn 82 100 (a7 bn 82 [.v (.agg #[.int .i64 0,.slice a l c])]) (ff [3] true) v=[vZ 0=v,decide ((↑l:Int)<=0)=true]:=by kernel_rfl
theorem QI (k:Int)(a:Option Addr)(l c:Nat)(v:Value):ao bn 82 100 (a7 bn 82 [.v (.agg #[.int .i64 0,.slice a l c])]) (ff [3] false) v=[vZ 2=v,decide ((↑l:Int)<=0)=false]:=by kernel_rfl
theorem Pc (k:Int)(a:Option Addr)(l c:Nat)(v:Value):ao bn 82 100 (a7 bn 82 [.v (.agg #[.int .i64 2,.slice a l c])]) (ff [3] true) v=[vZ 0=v,decide ((↑l:Int)<=0)=true]:=by kernel_rfl
theorem O5 (k:Int)(a:Option Addr)(l c:Nat)(v:Value):ao bn 82 100 (a7 bn 82 [.v (.agg #[.int .i64 2,.slice a l c])]) (ff [3] false) v=[vZ 2=v,decide ((↑l:Int)<=0)=false]:=by kernel_rfl
theorem P1 (k:Int)(a:Option Addr)(l c:Nat)(v:Value):ao bn 82 100 (a7 bn 82 [.v (.agg #[.int .i64 k,.slice a l c])]) (ff (List.range 20) false) v=[vZ 2=v,(k==2)=false,(k==0)=false,(k==1)=false]:=by kernel_rfl
theorem Sv (a:Option Addr)(l c:Nat)(v:Value):ao bn 46 100 (a7 bn 46 [.v (.agg #[.int .i64 1,.slice a l c])]) (ff [16] true) v=[vZ 13=v,decide ((↑l:Int)>4096)=true]:=by kernel_rfl
theorem R8 (a:Option Addr)(l c:Nat)(v:Value):ao bn 46 100 (a7 bn 46 [.v (.agg #[.int .i64 1,.slice a l c])]) (ff [16] false) v=[vZ 0=v,decide ((↑l:Int)>4096)=false]:=by kernel_rfl
theorem UL (a:Option Addr)(l c:Nat)(v:Value):ao bn 46 100 (a7 bn 46 [.v (.agg #[.int .i64 0,.slice a l c])]) (ff [15] true) v=[vZ 2=v,decide ((↑l:Int)>0)=true]:=by kernel_rfl
theorem Tg (a:Option Addr)(l c:Nat)(v:Value):ao bn 46 100 (a7 bn 46 [.v (.agg #[.int .i64 0,.slice a l c])]) (ff [15,16] false) v=[vZ 0=v,decide ((↑l:Int)>4096)=false,decide ((↑l:Int)>0)=false]:=by kernel_rfl
theorem Un (a:Option Addr)(l c:Nat)(v:Value):ao bn 46 100 (a7 bn 46 [.v (.agg #[.int .i64 2,.slice a l c])]) (ff [15] true) v=[vZ 2=v,decide ((↑l:Int)>0)=true]:=by kernel_rfl
theorem Ta (a:Option Addr)(l c:Nat)(v:Value):ao bn 46 100 (a7 bn 46 [.v (.agg #[.int .i64 2,.slice a l c])]) (ff [15,16] false) v=[vZ 0=v,decide ((↑l:Int)>4096)=false,decide ((↑l:Int)>0)=false]:=by kernel_rfl
theorem Vy (k:Int)(a:Option Addr)(l c:Nat)(v:Value):ao bn 46 100 (a7 bn 46 [.v (.agg #[.int .i64 k,.slice a l c])]) (ff (List.range 20) true) v=[vZ 2=v,true=true,true=true,true=true,true=true,true=true,true=true,true=true,decide (k<0)=true,decide (k<0)=true,decide (k<0)=true,decide (k<0)=true]:=by kernel_rfl
theorem Tw (k:Int)(a:Option Addr)(l c:Nat)(v:Value):ao bn 46 100 (a7 bn 46 [.v (.agg #[.int .i64 k,.slice a l c])]) (ff [0,1,2,3] false++ff (List.range 20) true) v=[vZ 2=v,true=true,decide (k>2)=true,decide (k>2)=true,decide (k>2)=true,decide (k>2)=true,decide (k>2)=true,decide (k>2)=true,decide (k<0)=false,decide (k<0)=false,decide (k<0)=false,decide (k<0)=false]:=by kernel_rfl
def gX (v:Int):Bool:=decide (1<=v / 1048576/\v / 1048576<=1099511627776/\1<=v % 1048576)
def Hj:PS:=fun args=>match args with|[.int .u64 v]=>some (.bool (gX v),0<=v/\v<18446744073709551616)|_=>none
def aS (k:Int)(l:Nat):Int:=if k=1 then (if l<=4096 then 0 else 13) else if (k=0\/k=2)/\l=0 then 0 else 2
def jZ:PS:=fun args=>match args with|[.agg x]=>(match x.toList with|[.int .i64 k,.slice _ l _]=>some (.int .i64 (aS k l),True)|_=>none)|_=>none
def cG (p:ByteArray)(v k:Int)(l:Nat):Int:=bif fN p then bif gX v then aS k l else 2 else 23
def j1:PS:=fun args=>match args with|[.agg x]=>(match x.toList with|[.string p,.int .u64 v,.int .i64 k,.slice _ l _]=>some (.int .i64 (cG p v k l),p.size<=1000000000/\0<=v/\v<18446744073709551616)|_=>none)|_=>none
def ow:PS:=fun args=>match args with|[.int .u64 v]=>some (.tuple #[.int .u64 (v / 1048576),.int .u64 (v % 1048576),.bool (gX v)],0<=v/\v<18446744073709551616)|_=>none
def kQ:PS:=fun args=>match args with|[.string p]=>some (.bool (aR p),p.size<=1000000000)|_=>none
def KT:Env:=EP [(45,kQ)] []
theorem Rq (p:ByteArray)(v:Value):ao KT 87 300 (a7 KT 87 [.v (.string p)]) (ff [1,2,3,4,5,6] false) v=[VU false=v,aR p=false,aR p=false,aR p=false,aR p=false,p.size.le 1000000000]:=by kernel_rfl
theorem R0 (p:ByteArray)(v:Value):ao KT 87 300 (a7 KT 87 [.v (.string p)]) (ff [1,2,4,5,6] true) v=[(VU !(↑(p.data.getD 0 (0:UInt8)).toNat:Int)==126)=v,aR p=true,aR p=true,ai 0 p.size=true,aR p=true,aR p=true,p.size.le 1000000000]:=by kernel_rfl
def H6:Env:=EP [(88,qm),(73,Hj),(82,jZ)] []
def HY:Env:=EP [(87,qm),(39,ow),(46,jZ)] []
theorem Ui (p:ByteArray)(x k:Int)(a:Option Addr)(l c:Nat)(v:Value):ao H6 58 300 (a7 H6 58 [.v (.agg #[.string p,.int .u64 x,.int .i64 k,.slice a l c])]) (ff [1] true) v=[vZ 23=v,(!fN p)=true,p.size.le 1000000000]:=by kernel_rfl
theorem Rh (p:ByteArray)(x k:Int)(a:Option Addr)(l c:Nat)(v:Value):ao H6 58 300 (a7 H6 58 [.v (.agg #[.string p,.int .u64 x,.int .i64 k,.slice a l c])]) (ff [1] false++ff [3] true) v=[vZ 2=v,(!gX x)=true,0<=x/\x<18446744073709551616,(!fN p)=false,p.size.le 1000000000]:=by kernel_rfl
theorem Rs (p:ByteArray)(x k:Int)(a:Option Addr)(l c:Nat)(v:Value):ao H6 58 300 (a7 H6 58 [.v (.agg #[.string p,.int .u64 x,.int .i64 k,.slice a l c])]) (ff [1] false++ff [3] false) v=[vZ (aS k l)=v,True,(!gX x)=false,0<=x/\x<18446744073709551616,(!fN p)=false,p.size.le 1000000000]:=by kernel_rfl
theorem SX (p:ByteArray)(x k:Int)(a:Option Addr)(l c:Nat)(v:Value):ao HY 54 300 (a7 HY 54 [.v (.agg #[.string p,.int .u64 x,.int .i64 k,.slice a l c])]) (ff [1] true) v=[vZ 23=v,(!fN p)=true,p.size.le 1000000000]:=by kernel_rfl
theorem RU (p:ByteArray)(x k:Int)(a:Option Addr)(l c:Nat)(v:Value):ao HY 54 300 (a7 HY 54 [.v (.agg #[.string p,.int .u64 x,.int .i64 k,.slice a l c])]) (ff [1] false++ff [3] true) v=[vZ 2=v,(!gX x)=true,0<=x/\x<18446744073709551616,(!fN p)=false,p.size.le 1000000000]:=by kernel_rfl
theorem U8 (p:ByteArray)(x k:Int)(a:Option Addr)(l c:Nat)(v:Value):ao HY 54 300 (a7 HY 54 [.v (.agg #[.string p,.int .u64 x,.int .i64 k,.slice a l c])]) (ff [1] false++ff [3] false) v=[vZ (aS k l)=v,True,(!gX x)=false,0<=x/\x<18446744073709551616,(!fN p)=false,p.size.le 1000000000]:=by kernel_rfl
theorem C7 (s:ByteArray):Kj s<0↔∀ b∈s.data.toList,b≠0:=by
 have key:∀ l:List UInt8,(Lib.indexByte l 0=-1/\∀ b∈l,b≠0)\/(0<=Lib.indexByte l 0/\¬ ∀ b∈l,b≠0):=by
  intro l;induction l with
  | nil=>exact .inl ⟨rfl,fun b h=>by cases h⟩
  | cons x l ih=>
   unfold Lib.indexByte;by_cases hx:x=0
   ·subst hx;exact .inr ⟨by simp,fun h=>h 0 Wj rfl⟩
   ·have hx':(x==0)=false:=Wr.2 hx;rw[hx'];rcases ih with ⟨h1,h2⟩|⟨h1,h2⟩
    ·rw[h1];exact .inl ⟨rfl,fun b hb=>by rcases V8.1 hb with rfl|hb;exact hx;exact h2 b hb⟩
    ·refine .inr ⟨?_,fun h=>h2 fun b hb=>h b (Wc _ hb)⟩;have:(Lib.indexByte l 0==-1)=false:=Wr.2 (by omega);rw[this];simp only[Xj,Yf];omega
 rcases key s.data.toList with ⟨h1,h2⟩|⟨h1,h2⟩
 ·unfold Kj;rw[h1];exact⟨fun _=>h2,fun _=>by decide⟩
 ·unfold Kj;exact⟨fun h=>by omega,fun h=>absurd h h2⟩
section
variable {w0:World}{cs0:List Frame}{R:Ending->World->Prop}{s:ByteArray}
theorem Kp (hs:s.size<=1000000000)(hR:∀ w',Below w0.heap.size w0 w'->R (.returned (.bool (bc s))) w'):∀ (j i:Nat),i+j=s.size->(∀ b∈s.data.toList.take i,b≠0)->
  af bn (aD [] []) w0 cs0 77 R (aA []) (SM.at (EY s i) 6 [])
 | 0,i,hj,hz=>by
  have go:∀ {o v},mX (ao bn 77 60 (SM.at (EY s i) 6 []) o v)->v=.bool (bc s)->af bn (aD [] []) w0 cs0 77 R (aA []) (SM.at (EY s i) 6 []):=fun hd e=>
   cg fQ aE hd fun w' hw=>by rw[e];exact hR _ hw
  have hl:s.data.toList.length=s.size:=by simp
  rw[We (by omega)]at hz;have hnz:=(C7 s).2 hz;have t1:decide ((i:Int)<(s.size:Int))=false:=V2 (by omega);by_cases h0:s.data.toList=[]
  ·have hz0:s.size=0:=by rw[<- hl,h0];rfl
   have t2:decide ((s.size:Int)≥1)=false:=V2 (by omega);refine go (o:=ff (List.range 20) false) (v:=.bool false) ⟨?_⟩ (by simp[bc,h0]);rw[q3];simp only[ah,t1,t2,VV]
  have hz1:1<=s.size:=by
   rw[<- hl];exact Xg.2 h0
  have t2:decide ((s.size:Int)≥1)=true:=V0 (by omega);by_cases h24:s.size<=24
  ·have t3:decide ((s.size:Int)<=24)=true:=V0 (by omega);by_cases h1:s.data.toList=[46]
   ·have t4:(s.toList==(⟨#[46]⟩:ByteArray).toList)=true:=by rw[jB,jB];simp[h1]
    refine go (o:=ff [0] false++ff [1,2,3,4,5,6,7] true++ff (List.range 20) false) (v:=.bool false) ⟨?_⟩ (by simp[bc,h1]);rw[q5];simp only[ah,t1,t2,t3,t4,Wy,VV]
   ·have t4:(s.toList==(⟨#[46]⟩:ByteArray).toList)=false:=by rw[jB,jB];exact Wr.2 h1
    refine go (o:=ff [0] false++ff (List.range 20) true) (v:=.bool (!(s.toList==(⟨#[46,46]⟩:ByteArray).toList))) ⟨?_⟩ ?_
    ·rw[q6];simp only[ah,t1,t2,t3,t4,W0,VV]
    ·congr 1;rw[jB,jB];by_cases h2:s.data.toList=[46,46]
     ·simp[bc,h2]
     ·have:(s.data.toList==(⟨#[46,46]⟩:ByteArray).data.toList)=false:=Wr.2 h2;rw[this];simp[bc,h0,h1,h2,h24,hnz]
  ·have t3:decide ((s.size:Int)<=24)=false:=V2 (by omega);refine go (o:=ff [0] false++ff [1,2,3,4] true++ff (List.range 20) false) (v:=.bool false) ⟨?_⟩ (by simp[bc,h24]);rw[q4];simp only[ah,t1,t2,t3,VV]
 | j+1,i,hj,hz=>by
  have hi:i<s.size:=by omega
  have t1:decide ((i:Int)<(s.size:Int))=true:=V0 (by omega);have r1:=aJ hi;have ws:=aU (k:=i) (by omega);have ht:=nP s hi;by_cases hb:s.data.getD i 0=0
  ·have t2:(((s.data.getD i 0).toNat:Int)==0)=true:=by rw[hb];rfl
   refine cg fQ aE (n:=60) (o:=ff [0,2] true) (v:=.bool false) ⟨?_⟩ fun w' hw=>?_
   ·rw[q2];simp only[ah,V5,t1,r1,t2,VV]
   ·have hn:¬ Kj s<0:=fun h=>(C7 s).1 h 0 (by
     have h5:s.data.getD i 0∈s.data.toList.take (i+1):=by rw[ht];simp
     rw[hb]at h5;exact List.mem_of_mem_take h5) rfl
    have:bc s=false:=by unfold bc;rw[V2 hn,Bool.and_false]
    rw[<- this];exact hR _ hw
  ·have t2:(((s.data.getD i 0).toNat:Int)==0)=false:=Wr.2 fun h=>hb (X0.1 (show (s.data.getD i 0).toNat=0 by omega))
   refine af.reach fQ (k:=2) (n:=60) (o:=ff [0] true++ff [2] false) (ren:=[]) (eqs:=[]) ?_ (by kernel_rfl) (fun i b h=>dU h) (l:=[]) (Kp hs hR j (i+1) (by omega) fun b Yy=>by
    rw[ht]at Yy;rcases WJ.1 Yy with h|h
    ·exact hz b h
    ·rw[Wl.1 h];exact hb)
   rw[q1];simp only[ah,V5,t1,r1,t2,ws,VV]
end
theorem GU:bX Tryz.prog (fun _=>True) (77,og):=by
 refine .mk ⟨_,Tryz.func77,by kernel_rfl,by kernel_rfl⟩ fun args v p h hp w hX=>?_;dsimp only[og]at h;split at h
 ·rename_i s;cases h;refine bP (E:=bn) (R:=fun e w'=>Below w.heap.size w w'/\e=.returned (.bool (bc s))) rfl rfl (args:=[.v (.string s)]) (a:=[.string s]) (S0:=a7 bn 77 [.v (.string s)]) (by kernel_rfl) (au.cons (VR.ae.2 rfl) au.nil) fun cs0=>?_;refine af.reach fQ (k:=2) (n:=60) (o:=VP) (ren:=[]) (eqs:=[]) (F:=EY s 0) (d:=6) (l:=[]) ?_ (by kernel_rfl) (fun i b h=>dU h) (Kp hp (fun w' hw=>⟨hw,rfl⟩) s.size 0 (by omega) fun b hb=>by simp at hb);rw[q0];simp only[ah,VV]
 ·cases h
theorem ka:∀ (n:Nat) (p:ByteArray),kN n p=true↔(aq p.data.toList).length<=n/\∀ s∈aq p.data.toList,bc (mk s)=true
 | 0,p=>by
  refine⟨fun h=>by simp[kN]at h,fun ⟨h,_⟩=>?_⟩
  exact absurd (Wd.1 (Nat.le_zero.1 h)) (cY _)
 | n+1,p=>by
  have e:aq p.data.toList=(cA p).data.toList::(if cM p=true then aq (cB p).data.toList else []):=kz _
  rw[e]
  have eA:mk (cA p).data.toList=cA p:=KG _
  unfold kN
  cases hm:cM p
  ·simp[eA]
  ·have ih:=ka n (cB p)
   simp only[Wy,Bool.false_or,V6,ih,Yj,Wm,Nat.add_le_add_iff_right,V8,forall_eq_or_imp,eA]
   constructor
   ·rintro ⟨h1,h2,h3⟩;exact⟨h2,h1,h3⟩
   ·rintro ⟨h2,h1,h3⟩;exact⟨h1,h2,h3⟩
theorem NZ {M:Own}{w0:World}:aK DC M w0:=
 aK.uG (Checked.mixed Tryz.checked) (by kernel_rfl) (fh.of iJ rfl dK) (dy.list (X:=fun _=>True) (l:=O7) rfl (fun r hr=>by
  simp only[O7,V8,Ww,Xc]at hr
  rcases hr with rfl|rfl
  ·exact rM
  ·exact bh.pure (r:=(77,og)) GU) fun ν s w hr _=>trivial) (fun f g h=>by cases h)
section
variable {w0:World}{cs0:List Frame}{R:Ending->World->Prop}{p:ByteArray}{xs:List (List UInt8)}
theorem Hh (h96:p.size<=96)(hx:xs=aq p.data.toList)(hR:∀ w',Below w0.heap.size w0 w'->R (.returned (.bool (aR p))) w'):∀ (j i:Nat),i+j=xs.length->(∀ s∈xs.take i,bc (mk s)=true)->
  af DC (aD [] []) w0 cs0 45 R (aA []) (SM.at (A9 xs.length i) 6 (many (cP xs)))
 | 0,i,hj,hz=>by
  rw[We (by omega)]at hz;refine cg NZ aE (n:=60) (o:=ff [0] false) (v:=.bool (decide ((xs.length:Int)<=6))) ⟨?_⟩ fun w' hw=>?_
  ·rw[TP];simp only[ah,VW,VX];exact V2 (by omega)
  ·have:aR p=decide ((xs.length:Int)<=6):=by
    unfold aR;rw[V0 h96,Bool.true_and];by_cases hl:xs.length<=6
    ·rw[V0 (by omega:(xs.length:Int)<=6)];exact (ka 6 p).2 ⟨by rw[<- hx];exact hl,fun s hs=>hz s (by rw[hx];exact hs)⟩
    ·rw[V2 (by omega:¬ (xs.length:Int)<=6)];rw[XA];intro h;have:=((ka 6 p).1 h).1;rw[<- hx]at this;exact hl this
   rw[<- this];exact hR _ hw
 | j+1,i,hj,hz=>by
  have hi:i<xs.length:=by omega
  have t1:decide ((i:Int)<(xs.length:Int))=true:=V0 (by omega);have r1:=aJ hi;have hlen:=fX p.data.toList;have hll:p.data.toList.length=p.size:=by simp
  have ws:=aU (k:=i) (by rw[hx]at hi;omega);have g1:(cP xs)[0+i*1]?=some (.v (.string (mk xs[i]))):=by simp[cP,hi]
  have Zj:xs[i]∈aq p.data.toList:=by rw[<- hx];exact WS hi
  have z1:(mk xs[i]).size<=1000000000:=by
   have:=hlen.2 _ Zj;show xs[i].length<=_;omega
  cases hb:bc (mk xs[i])
  ·refine cg NZ aE (n:=60) (o:=(ff [0] true++[(2,.cells [.v (.string (mk xs[i]))])]++ff [4] true)) (v:=.bool false) ⟨?_⟩ fun w' hw=>?_
   ·rw[Vr];simp only[ah,V5,t1,r1,g1,hb,W0,VW,VX];exact z1
   ·have:aR p=false:=by
     unfold aR;rw[V0 h96,Bool.true_and,XA];intro h;have:=((ka 6 p).1 h).2 _ Zj;rw[hb]at this;cases this
    rw[<- this];exact hR _ hw
  ·refine af.reach NZ (k:=2) (n:=60) (o:=(ff [0] true++[(2,.cells [.v (.string (mk xs[i]))])]++ff [4] false)) (ren:=[(0,0)]) (eqs:=[0]) ?_ (by kernel_rfl) (fun i b h=>dU h) (Hh h96 hx hR j (i+1) (by omega) fun s hs=>by
    rw[Wp hi]at hs;rcases WJ.1 hs with h|h
    ·exact hz s h
    ·rw[Wl.1 h];exact hb)
   rw[SZ];simp only[ah,V5,t1,r1,g1,hb,ws,ey,Wy,VV,VW,VX];exact z1
end
theorem oJ:bX Tryz.prog (fun _=>True) (45,kQ):=by
 refine .mk ⟨_,Tryz.func45,by kernel_rfl,by kernel_rfl⟩ fun args v p h hp w hX=>?_;dsimp only[kQ]at h;split at h
 ·rename_i p;cases h;refine bP (E:=DC) (R:=fun e w'=>Below w.heap.size w w'/\e=.returned (.bool (aR p))) rfl rfl (args:=[.v (.string p)]) (a:=[.string p]) (S0:=a7 DC 45 [.v (.string p)]) (by kernel_rfl) (au.cons (VR.ae.2 rfl) au.nil) fun cs0=>?_;by_cases h96:p.size<=96
  ·refine af.reach NZ (k:=2) (n:=60) (o:=ff [0] false) (ren:=[(0,0)]) (eqs:=[0]) (F:=A9 (aq p.data.toList).length 0) (d:=6) (l:=many (cP (aq p.data.toList))) ?_ (by kernel_rfl) (fun i b h=>dU h) (Hh h96 rfl (fun w' hw=>⟨hw,rfl⟩) (aq p.data.toList).length 0 (by omega) fun s hs=>by simp at hs);have e1:∀ l:List (List UInt8),List.map SV.v (vP l)=cP l:=fun l=>by simp[vP,cP]
   rw[RC];simp only[ah,e1,ey,VV,VX,VW];exact⟨V2 (by omega),hp⟩
  ·refine cg NZ aE (n:=60) (o:=ff [0] true) (v:=.bool false) ⟨?_⟩ fun w' hw=>⟨hw,by simp[aR,h96]⟩;rw[Vx];simp only[ah,VW,VX];exact V0 (by omega)
 ·cases h
theorem Su {M:Own}{w0:World}:aK KT M w0:=fM fun r h=>by rw[Wl.1 h];exact oJ
theorem Fk:bX Tryz.prog (fun _=>True) (87,qm):=by
 refine .mk ⟨_,Tryz.func87,by kernel_rfl,by kernel_rfl⟩ fun args v p h hp w hX=>?_;dsimp only[qm]at h;split at h
 ·rename_i p;cases h
  have go:∀ {o v},mX (ao KT 87 300 (a7 KT 87 [.v (.string p)]) o v)->v=.bool (fN p)->Calls Tryz.prog 87 #[.string p] w fun e w'=>Below w.heap.size w w'/\e=.returned (.bool (fN p)):=fun h e=>
   e ▸ bW (E:=KT) (args:=[.v (.string p)]) rfl rfl Su (by kernel_rfl) (au.cons (VR.ae.2 rfl) au.nil) h
  cases hg:aR p
  ·refine go (o:=ff [1,2,3,4,5,6] false) (v:=.bool false) ⟨?_⟩ (by simp[fN,aG,hg]);rw[Rq];simp only[ah,hg,VV,VW,VX];exact hp
  ·have hs:=mL p (by simp[aG,hg]);have hr:ai 0 p.size=true:=by unfold ai;exact V0 (by omega)
   have hc:(((p.data.getD 0 0).toNat:Int)==126)=(p.data.getD 0 0==126):=by
    by_cases e:p.data.getD 0 0=126
    ·rw[e];rfl
    ·have:¬ ((p.data.getD 0 0).toNat:Int)=126:=fun h=>e (X0.1 (show (p.data.getD 0 0).toNat=126 by omega));rw[Wr.2 e,Wr.2 this]
   refine go (o:=ff [1,2,4,5,6] true) (v:=.bool (!(((p.data.getD 0 0).toNat:Int)==126))) ⟨?_⟩ (by rw[hc];simp[fN,aG,hg]);rw[R0];simp only[ah,hg,hr,VV,VW,VX];exact hp
 ·cases h
theorem nL {n:Nat}:((n:Int)).fdiv ((2:Int) ^ (20:Nat))=((n / 1048576:Nat):Int):=by
 rw[Int.fdiv_eq_ediv_of_nonneg _ (by decide)];rfl
theorem IV {x:Int}(h:0<=x/\x<18446744073709551616):IntKind.u64.wrap x=x:=IntWalk.u64_in _ (by omega)
theorem QB (n:Nat):BitVec.ofInt 64 (n:Int)=BitVec.ofNat 64 n:=BitVec.ofInt_natCast 64 n
theorem zZ {n:Nat}(h:n<18446744073709551616):IntKind.u64.wrap (((BitVec.ofInt 64 (n:Int) &&& BitVec.ofInt 64 1048575).toNat:Nat):Int)=((n % 1048576:Nat):Int):=by
 have e:(BitVec.ofInt 64 (n:Int) &&& BitVec.ofInt 64 1048575).toNat=n % 1048576:=by
  rw[QB,show BitVec.ofInt 64 1048575=BitVec.ofNat 64 1048575 from rfl,BitVec.toNat_and,X3,X3,Yc (by omega:n<2 ^ 64)];exact Nat.and_two_pow_sub_one_eq_mod n 20
 rw[e];exact IV (by omega)
theorem PZ {n:Nat}(h:n<18446744073709551616):IntKind.u64.wrap (((BitVec.ofInt 64 (IntKind.u64.wrap (((n / 1048576:Nat):Int)*(2:Int) ^ (20:Nat))) ||| BitVec.ofInt 64 ((n % 1048576:Nat):Int)).toNat:Nat):Int)=(n:Int):=by
 have e1:IntKind.u64.wrap (((n / 1048576:Nat):Int)*(2:Int) ^ (20:Nat))=((n / 1048576*1048576:Nat):Int):=by
  have:(((n / 1048576:Nat):Int)*(2:Int) ^ (20:Nat))=((n / 1048576*1048576:Nat):Int):=by
   rw[show ((2:Int) ^ (20:Nat))=((1048576:Nat):Int) from rfl];omega
  rw[this];exact IV (by omega)
 rw[e1,QB,QB]
 have e2:(BitVec.ofNat 64 (n / 1048576*1048576) ||| BitVec.ofNat 64 (n % 1048576)).toNat=n:=by
  rw[BitVec.toNat_or,X3,X3,Yc (by omega:n / 1048576*1048576<2 ^ 64),Yc (by omega:n % 1048576<2 ^ 64)];have h1:=Nat.shiftLeft_add_eq_or_of_lt (b:=n % 1048576) (i:=20) (by omega) (n / 1048576);rw[Nat.shiftLeft_eq]at h1;rw[show (2:Nat) ^ 20=1048576 from rfl]at h1;omega
 rw[e2];exact IV (by omega)
theorem C9:bX Tryz.prog (fun _=>True) (73,Hj):=by
 refine .mk ⟨_,Tryz.func73,by kernel_rfl,by kernel_rfl⟩ fun args v p h hp w hX=>?_;dsimp only[Hj]at h;split at h
 ·rename_i v;cases h
  have go:∀ {o x},mX (ao bn 73 100 (a7 bn 73 [.v (.int .u64 v)]) o x)->x=.bool (gX v)->Calls Tryz.prog 73 #[.int .u64 v] w fun e w'=>Below w.heap.size w w'/\e=.returned (.bool (gX v)):=fun h e=>
   e ▸ bW (E:=bn) (args:=[.v (.int .u64 v)]) (a:=[.int .u64 v]) rfl rfl fQ (by kernel_rfl) (au.cons (VR.ae.2 rfl) au.nil) h
  obtain⟨hp1,hp2⟩:=hp;obtain⟨n,rfl⟩:=XO hp1;have hn:n<18446744073709551616:=by omega
  by_cases h1:((n / 1048576:Nat):Int)<1
  ·refine go (o:=ff (List.range 10) true++ff (List.range 20) false) (x:=.bool false) ⟨?_⟩ (by congr 1;symm;exact V2 (by omega));rw[Q6];simp only[ah,nL,V0 h1,VV]
  by_cases h2:((n / 1048576:Nat):Int)>1099511627776
  ·refine go (o:=ff [0,1,2] false++ff (List.range 10) true++ff (List.range 20) false) (x:=.bool false) ⟨?_⟩ (by congr 1;symm;exact V2 (by omega));rw[Rf];simp only[ah,nL,V2 h1,V0 h2,VV]
  by_cases h3:((n % 1048576:Nat):Int)<1
  ·refine go (o:=ff [0,1,2,3,4,5] false++ff (List.range 10) true++ff (List.range 20) false) (x:=.bool false) ⟨?_⟩ (by congr 1;symm;exact V2 (by omega));rw[Uw];simp only[ah,nL,zZ hn,V2 h1,V2 h2,V0 h3,VV]
  ·have h4:¬ ((n % 1048576:Nat):Int)>1048575:=by omega
   refine go (o:=ff [0,1,2,3,4,5,6,7,8,9] false++ff (List.range 20) true) (x:=.bool true) ⟨?_⟩ (by congr 1;symm;exact V0 (by omega));rw[S5];simp only[ah,nL,zZ hn,PZ hn,V2 h1,V2 h2,V2 h3,V2 h4,WA,VV]
 ·cases h
theorem vh:bX Tryz.prog (fun _=>True) (39,ow):=by
 refine .mk ⟨_,Tryz.func39,by kernel_rfl,by kernel_rfl⟩ fun args v p h hp w hX=>?_;dsimp only[ow]at h;split at h
 ·rename_i v;cases h
  have go:∀ {o x},mX (ao bn 39 100 (a7 bn 39 [.v (.int .u64 v)]) o x)->x=.tuple #[.int .u64 (v / 1048576),.int .u64 (v % 1048576),.bool (gX v)]->Calls Tryz.prog 39 #[.int .u64 v] w fun e w'=>Below w.heap.size w w'/\e=.returned (.tuple #[.int .u64 (v / 1048576),.int .u64 (v % 1048576),.bool (gX v)]):=fun h e=>
   e ▸ bW (E:=bn) (args:=[.v (.int .u64 v)]) (a:=[.int .u64 v]) rfl rfl fQ (by kernel_rfl) (au.cons (VR.ae.2 rfl) au.nil) h
  obtain⟨hp1,hp2⟩:=hp;have e1:IntKind.u64.wrap (v.tdiv 1048576)=v / 1048576:=by rw[Int.tdiv_eq_ediv_of_nonneg hp1];exact IV (by omega)
  have e2:v.tmod 1048576=v % 1048576:=Int.tmod_eq_emod_of_nonneg hp1;by_cases h1:v / 1048576≥1
  ·by_cases h2:v / 1048576<=1099511627776
   ·refine go (o:=ff (List.range 20) true) (x:=.tuple #[.int .u64 (v / 1048576),.int .u64 (v % 1048576),.bool (decide (v % 1048576≥1))]) ⟨?_⟩ ?_
    ·rw[Rt];simp only[ah,e1,e2,V0 h1,V0 h2,VV]
    ·have:gX v=decide (v % 1048576≥1):=by
      unfold gX;by_cases h3:v % 1048576≥1
      ·rw[V0 h3];exact V0 ⟨h1,h2,h3⟩
      ·rw[V2 h3];exact V2 fun ⟨_,_,h⟩=>h3 h
     rw[this]
   ·have:gX v=false:=V2 fun ⟨_,h,_⟩=>h2 h;refine go (o:=ff [0,1,2] true++ff (List.range 20) false) (x:=.tuple #[.int .u64 (v / 1048576),.int .u64 (v % 1048576),.bool false]) ⟨?_⟩ (by rw[this]);rw[Ra];simp only[ah,e1,e2,V0 h1,V2 h2,VV]
  ·have:gX v=false:=V2 fun ⟨h,_,_⟩=>h1 h;refine go (o:=ff (List.range 20) false) (x:=.tuple #[.int .u64 (v / 1048576),.int .u64 (v % 1048576),.bool false]) ⟨?_⟩ (by rw[this]);rw[Um];simp only[ah,e1,e2,V2 h1,VV]
 ·cases h
theorem xV:bX Tryz.prog (fun _=>True) (82,jZ):=by
 refine .mk ⟨_,Tryz.func82,by kernel_rfl,by kernel_rfl⟩ fun args v p h hp w hX=>?_;dsimp only[jZ]at h;split at h
 ·rename_i x;split at h
  ·rename_i k a l c hx;cases h;obtain rfl:x=#[.int .i64 k,.slice a l c]:=by cases x;simpa using hx
   have go:∀ {o v},mX (ao bn 82 100 (a7 bn 82 [.v (.agg #[.int .i64 k,.slice a l c])]) o v)->v=.int .i64 (aS k l)->Calls Tryz.prog 82 #[.agg #[.int .i64 k,.slice a l c]] w fun e w'=>Below w.heap.size w w'/\e=.returned (.int .i64 (aS k l)):=fun h e=>
    e ▸ bW (E:=bn) (args:=[.v (.agg #[.int .i64 k,.slice a l c])]) (a:=[.agg #[.int .i64 k,.slice a l c]]) rfl rfl fQ (by kernel_rfl) (au.cons (VR.ae.2 rfl) au.nil) h
   by_cases k1:k=1
   ·subst k1;by_cases hl:l<=4096
    ·exact go (o:=ff [1] true) (v:=.int .i64 0) ⟨by rw[SL 0];simp only[ah,VW,VX];exact V0 (by omega)⟩ (by simp[aS,hl])
    ·exact go (o:=ff [1] false) (v:=.int .i64 13) ⟨by rw[Pa 0];simp only[ah,VW,VX];exact V2 (by omega)⟩ (by simp[aS,hl])
   by_cases k0:k=0
   ·subst k0;by_cases hl:l=0
    ·exact go (o:=ff [3] true) (v:=.int .i64 0) ⟨by rw[QC 0];simp only[ah,VW,VX];exact V0 (by omega)⟩ (by simp[aS,hl])
    ·exact go (o:=ff [3] false) (v:=.int .i64 2) ⟨by rw[QI 0];simp only[ah,VW,VX];exact V2 (by omega)⟩ (by simp[aS,hl])
   by_cases k2:k=2
   ·subst k2;by_cases hl:l=0
    ·exact go (o:=ff [3] true) (v:=.int .i64 0) ⟨by rw[Pc 0];simp only[ah,VW,VX];exact V0 (by omega)⟩ (by simp[aS,hl])
    ·exact go (o:=ff [3] false) (v:=.int .i64 2) ⟨by rw[O5 0];simp only[ah,VW,VX];exact V2 (by omega)⟩ (by simp[aS,hl])
   ·exact go (o:=ff (List.range 20) false) (v:=.int .i64 2) ⟨by rw[P1];simp only[ah,VW,VX];exact⟨⟨Wr.2 k1,Wr.2 k0⟩,Wr.2 k2⟩⟩ (by simp[aS,k0,k1,k2])
  ·cases h
 ·cases h
theorem yR:bX Tryz.prog (fun _=>True) (46,jZ):=by
 refine .mk ⟨_,Tryz.func46,by kernel_rfl,by kernel_rfl⟩ fun args v p h hp w hX=>?_;dsimp only[jZ]at h;split at h
 ·rename_i x;split at h
  ·rename_i k a l c hx;cases h;obtain rfl:x=#[.int .i64 k,.slice a l c]:=by cases x;simpa using hx
   have go:∀ {o v},mX (ao bn 46 100 (a7 bn 46 [.v (.agg #[.int .i64 k,.slice a l c])]) o v)->v=.int .i64 (aS k l)->Calls Tryz.prog 46 #[.agg #[.int .i64 k,.slice a l c]] w fun e w'=>Below w.heap.size w w'/\e=.returned (.int .i64 (aS k l)):=fun h e=>
    e ▸ bW (E:=bn) (args:=[.v (.agg #[.int .i64 k,.slice a l c])]) (a:=[.agg #[.int .i64 k,.slice a l c]]) rfl rfl fQ (by kernel_rfl) (au.cons (VR.ae.2 rfl) au.nil) h
   by_cases k1:k=1
   ·subst k1;by_cases hl:l<=4096
    ·exact go (o:=ff [16] false) (v:=.int .i64 0) ⟨by rw[R8];simp only[ah,VW,VX];exact V2 (by omega)⟩ (by simp[aS,hl])
    ·exact go (o:=ff [16] true) (v:=.int .i64 13) ⟨by rw[Sv];simp only[ah,VW,VX];exact V0 (by omega)⟩ (by simp[aS,hl])
   by_cases k0:k=0
   ·subst k0;by_cases hl:l=0
    ·exact go (o:=ff [15,16] false) (v:=.int .i64 0) ⟨by rw[Tg];simp only[ah,VW,VX];exact⟨V2 (by omega),V2 (by omega)⟩⟩ (by simp[aS,hl])
    ·exact go (o:=ff [15] true) (v:=.int .i64 2) ⟨by rw[UL];simp only[ah,VW,VX];exact V0 (by omega)⟩ (by simp[aS,hl])
   by_cases k2:k=2
   ·subst k2;by_cases hl:l=0
    ·exact go (o:=ff [15,16] false) (v:=.int .i64 0) ⟨by rw[Ta];simp only[ah,VW,VX];exact⟨V2 (by omega),V2 (by omega)⟩⟩ (by simp[aS,hl])
    ·exact go (o:=ff [15] true) (v:=.int .i64 2) ⟨by rw[Un];simp only[ah,VW,VX];exact V0 (by omega)⟩ (by simp[aS,hl])
   by_cases kn:k<0
   ·exact go (o:=ff (List.range 20) true) (v:=.int .i64 2) ⟨by rw[Vy];simp only[ah,V0 kn,VV]⟩ (by simp[aS,k0,k1,k2])
   ·have kg:k>2:=by omega
    exact go (o:=ff [0,1,2,3] false++ff (List.range 20) true) (v:=.int .i64 2) ⟨by rw[Tw];simp only[ah,V2 kn,V0 kg,VV]⟩ (by simp[aS,k0,k1,k2])
  ·cases h
 ·cases h
theorem SA {w0:World}(h:MX w0):aK H6 (aD [] []) w0:=kM (X:=MX) (fun r hr=>by
 simp only[V8,Ww,Xc]at hr
 rcases hr with rfl|rfl|rfl
 ·exact JJ
 ·exact⟨C9.1,fun args v p e hp w _=>C9.2 args v p e hp w trivial⟩
 ·exact⟨xV.1,fun args v p e hp w _=>xV.2 args v p e hp w trivial⟩) fun ν s w hr _=>h.keep fun k hk=>hr.frame k hk (aE k)
theorem UB {M:Own}{w0:World}:aK HY M w0:=fM fun r hr=>by
 simp only[V8,Ww,Xc]at hr
 rcases hr with rfl|rfl|rfl
 ·exact Fk
 ·exact vh
 ·exact yR
theorem IZ:bX Tryz.prog MX (58,j1):=by
 refine .mk ⟨_,Tryz.func58,by kernel_rfl,by kernel_rfl⟩ fun args v q h hp w hX=>?_;dsimp only[j1]at h;split at h
 ·rename_i y;split at h
  ·rename_i p x k a l c hy;cases h;obtain rfl:y=#[.string p,.int .u64 x,.int .i64 k,.slice a l c]:=by cases y;simpa using hy
   have go:∀ {o v},mX (ao H6 58 300 (a7 H6 58 [.v (.agg #[.string p,.int .u64 x,.int .i64 k,.slice a l c])]) o v)->v=.int .i64 (cG p x k l)->Calls Tryz.prog 58 #[.agg #[.string p,.int .u64 x,.int .i64 k,.slice a l c]] w fun e w'=>Below w.heap.size w w'/\e=.returned (.int .i64 (cG p x k l)):=fun h e=>
    e ▸ bW (E:=H6) (args:=[.v (.agg #[.string p,.int .u64 x,.int .i64 k,.slice a l c])]) (a:=[.agg #[.string p,.int .u64 x,.int .i64 k,.slice a l c]]) rfl rfl (SA hX) (by kernel_rfl) (au.cons (VR.ae.2 rfl) au.nil) h
   obtain⟨h1,h2⟩:=hp;have h1':p.size.le 1000000000:=h1;cases hu:fN p
   ·exact go (o:=ff [1] true) (v:=.int .i64 23) ⟨by rw[Ui];simp only[ah,hu,h1',W0,VV]⟩ (by simp[cG,hu])
   ·cases hv:gX x
    ·exact go (o:=ff [1] false++ff [3] true) (v:=.int .i64 2) ⟨by rw[Rh];simp only[ah,hu,hv,h1',h2,W0,Wy,VV]⟩ (by simp[cG,hu,hv])
    ·exact go (o:=ff [1] false++ff [3] false) (v:=.int .i64 (aS k l)) ⟨by rw[Rs];simp only[ah,hu,hv,h1',h2,Wy,VV]⟩ (by simp[cG,hu,hv])
  ·cases h
 ·cases h
theorem zB:bX Tryz.prog (fun _=>True) (54,j1):=by
 refine .mk ⟨_,Tryz.func54,by kernel_rfl,by kernel_rfl⟩ fun args v q h hp w hX=>?_;dsimp only[j1]at h;split at h
 ·rename_i y;split at h
  ·rename_i p x k a l c hy;cases h;obtain rfl:y=#[.string p,.int .u64 x,.int .i64 k,.slice a l c]:=by cases y;simpa using hy
   have go:∀ {o v},mX (ao HY 54 300 (a7 HY 54 [.v (.agg #[.string p,.int .u64 x,.int .i64 k,.slice a l c])]) o v)->v=.int .i64 (cG p x k l)->Calls Tryz.prog 54 #[.agg #[.string p,.int .u64 x,.int .i64 k,.slice a l c]] w fun e w'=>Below w.heap.size w w'/\e=.returned (.int .i64 (cG p x k l)):=fun h e=>
    e ▸ bW (E:=HY) (args:=[.v (.agg #[.string p,.int .u64 x,.int .i64 k,.slice a l c])]) (a:=[.agg #[.string p,.int .u64 x,.int .i64 k,.slice a l c]]) rfl rfl UB (by kernel_rfl) (au.cons (VR.ae.2 rfl) au.nil) h
   obtain⟨h1,h2⟩:=hp;have h1':p.size.le 1000000000:=h1;cases hu:fN p
   ·exact go (o:=ff [1] true) (v:=.int .i64 23) ⟨by rw[SX];simp only[ah,hu,h1',W0,VV]⟩ (by simp[cG,hu])
   ·cases hv:gX x
    ·exact go (o:=ff [1] false++ff [3] true) (v:=.int .i64 2) ⟨by rw[RU];simp only[ah,hu,hv,h1',h2,W0,Wy,VV]⟩ (by simp[cG,hu,hv])
    ·exact go (o:=ff [1] false++ff [3] false) (v:=.int .i64 (aS k l)) ⟨by rw[U8];simp only[ah,hu,hv,h1',h2,Wy,VV]⟩ (by simp[cG,hu,hv])
  ·cases h
 ·cases h
structure ak where
 p:ByteArray
 v:Int
 k:Int
 a:Option Addr
 l:Nat
 c:Nat
def eC (e:ak):List SV:=[.v (.string e.p),.v (.int .u64 e.v),.v (.int .i64 e.k),.v (.slice e.a e.l e.c)]
def eV (e:ak):List Value:=[.string e.p,.int .u64 e.v,.int .i64 e.k,.slice e.a e.l e.c]
def fx (l:List SV):Option (SO × Bool):=some (.row l 50 (0,0) (some 4),true)
def Nl:List SV:=[.v (.string ⟨#[]⟩),.v (.int .u64 0),.v (.int .i64 0),.v (.slice none 0 0)]
def Gf (l:List SV)(n c:Nat)(s:Int)(p:ByteArray):SM:=(a6 bn 55 [.agg [.v (.int .u64 s),.sl 0 0 n (some c)],.v (.string p)] (bG 6 1 0 [OE l])).getD dn
where OE (l:List SV):Option (SO × Bool):=some (.look l,false)
def MM:List SI:=dA bn 2 60 (Gf [] 0 0 0 ⟨#[]⟩) VP
def BF (p:ByteArray)(i:Int):SF:={ fn:=55,tm:=e9 28 6 ([.aH,.v (.string p),.ptr 1 0,.aH,.ptr 2 0,.v (.int .i64 i)]++List.replicate 22 .aH),todo:=MM,defers:=[],ret:=false,kind:=.normal,ro:=none }
def yX (l:List SV)(n c:Nat)(s:Int):List (Option (SO × Bool)):=[some (.look l,false),some (.row [.v (.int .u64 s),.sl 0 0 n (some c)] 34 (0,0) none,true),some (.row Nl 50 (0,0) none,true)]
theorem Rc (l:List SV)(n c:Nat)(s:Int)(p:ByteArray):reach bn 2 60 (Gf l n c s p) VP [(0,0),(1,1),(2,2)] [0] (BF p 0) 6 (yX l n c s)=[VS p=VS p,0=0,0=0,vZ 0=vZ 0,l=l,l.all ab=true,V1 IntKind.u64 s=V1 IntKind.u64 s,0=0/\n=n/\some c=some c,VS ⟨⟨[]⟩⟩=VS ⟨⟨[]⟩⟩,V1 IntKind.u64 0=V1 IntKind.u64 0,vZ 0=vZ 0,VT none 0 0=VT none 0 0]:=by kernel_rfl
theorem Sh (l:List SV)(n c:Nat)(s:Int)(p q:ByteArray)(i i':Int):reach bn 2 60 (SM.at (BF p i) 6 (yX l n c s)) (ff [0] true++[(2,.cells [.v (.string q)])]++ff [3] false) [(0,0),(1,1),(2,2)] [0] (BF p i') 6 (yX l n c s)=[VS p=VS p,0=0,0=0,vZ (IntKind.i64.wrap (i+1))=vZ i',l=l,l.all ab=true,V1 IntKind.u64 s=V1 IntKind.u64 s,0=0/\n=n/\some c=some c,VS ⟨⟨[]⟩⟩=VS ⟨⟨[]⟩⟩,V1 IntKind.u64 0=V1 IntKind.u64 0,vZ 0=vZ 0,VT none 0 0=VT none 0 0,(q.toList==p.toList)=false,l[0+i.toNat*4+0]?=some (SV.v (VS q)),ai i n=true,decide (i<(↑n:Int))=true]:=by kernel_rfl
theorem Rb (l:List SV)(n c:Nat)(s:Int)(p q:ByteArray)(i:Int)(e:ak)(v:Value):ao bn 55 60 (SM.at (BF p i) 6 (yX l n c s)) (ff [0] true++[(2,.cells [.v (.string q)])]++ff [3] true++[(5,.cells (eC e))]) v=[Value.agg { toList:=[VS e.1,V1 IntKind.u64 e.2,vZ e.3,VT e.4 e.5 e.6]:Array Value }=v,List.take 4 (List.drop (0+i.toNat*4) l)=eC e/\(eC e).length=4,ai i n=true,(q.toList==p.toList)=true,l[0+i.toNat*4+0]?=some (SV.v (VS q)),ai i n=true,decide (i<(↑n:Int))=true]:=by kernel_rfl
theorem Uu (l:List SV)(n c:Nat)(s:Int)(p:ByteArray)(i:Int)(v:Value):ao bn 55 60 (SM.at (BF p i) 6 (yX l n c s)) (ff [0] false) v=[Value.agg { toList:=[VS p,V1 IntKind.u64 0,vZ 0,VT none 0 0]:Array Value }=v,decide (i<(↑n:Int))=false]:=by kernel_rfl
def FF (l:List SV)(n c:Nat)(p:ByteArray):SM:=(a6 bn 56 [.sl 0 0 n (some c),.v (.string p)] (bG 6 1 0 [NR l])).getD dn
where NR (l:List SV):Option (SO × Bool):=some (.look l,false)
def Mn:List SI:=dA bn 2 60 (FF [] 0 0 ⟨#[]⟩) VP
def o6 (n c:Nat)(p:ByteArray)(x:SV)(i:Int):SF:={ fn:=56,tm:=e9 28 6 ([.sl 0 0 n (some c),.v (.string p),.aH,.aH,.aH,x,.v (.int .i64 i)]++List.replicate 21 .aH),todo:=Mn,defers:=[],ret:=false,kind:=.normal,ro:=none }
def cv (l:List SV):Option (SO × Bool):=some (.look l,false)
def bZ:SV:=.v (.slice none 0 0)
theorem SU (l:List SV)(n c:Nat)(p:ByteArray):reach bn 2 60 (FF l n c p) VP [(0,0)] [0] (o6 n c p bZ 0) 6 [cv l]=[0=0/\n=n/\some c=some c,VS p=VS p,VT none 0 0=VT none 0 0,vZ 0=vZ 0,l=l,l.all ab=true]:=by kernel_rfl
theorem Si (l:List SV)(n c:Nat)(p q:ByteArray)(i i':Int):reach bn 2 60 (SM.at (o6 n c p bZ i) 6 [cv l]) (ff [0] true++[(2,.cells [.v (.string q)])]++ff [3] false) [(0,0)] [0] (o6 n c p bZ i') 6 [cv l]=[0=0/\n=n/\some c=some c,VS p=VS p,VT none 0 0=VT none 0 0,vZ (IntKind.i64.wrap (i+1))=vZ i',l=l,l.all ab=true,(!q.toList==p.toList)=false,l[0+i.toNat*4+0]?=some (SV.v (VS q)),ai i n=true,decide (i<(↑n:Int))=true]:=by kernel_rfl
theorem U0 (l l':List SV)(n c:Nat)(p q:ByteArray)(i i':Int)(e:ak):reach bn 2 60 (SM.at (o6 n c p bZ i) 6 [cv l]) (ff [0] true++[(2,.cells [.v (.string q)])]++ff [3] true++[(5,.cells (eC e))]) [(0,0),(1,2)] [0,1] (o6 n c p (.sl 1 0 1 none) i') 6 [cv l,fx l']=[0=0/\n=n/\some c=some c,VS p=VS p,0=0/\1=1/\nZ=none,vZ (IntKind.i64.wrap (i+1))=vZ i',l=l,l.all ab=true,[]++List.take 4 (List.drop 0 (aQ (List.replicate 1 (List.map SV.v [VS ⟨⟨[]⟩⟩,V1 IntKind.u64 0,vZ 0,VT none 0 0])).flatten 0 (eC e)))=l',l'.all ab=true,List.take 4 (List.drop (0+i.toNat*4) l)=eC e/\(eC e).length=4,ai i n=true,(!q.toList==p.toList)=true,l[0+i.toNat*4+0]?=some (SV.v (VS q)),ai i n=true,decide (i<(↑n:Int))=true]:=by kernel_rfl
theorem RA (l m:List SV)(n c k:Nat)(p q:ByteArray)(i i':Int):reach bn 2 60 (SM.at (o6 n c p (.sl 1 0 k none) i) 6 [cv l,fx m]) (ff [0] true++[(2,.cells [.v (.string q)])]++ff [3] false) [(0,0),(1,1)] [0,1] (o6 n c p (.sl 1 0 k none) i') 6 [cv l,fx m]=[0=0/\n=n/\some c=some c,VS p=VS p,0=0/\k=k/\nZ=none,vZ (IntKind.i64.wrap (i+1))=vZ i',l=l,l.all ab=true,m=m,m.all ab=true,(!q.toList==p.toList)=false,l[0+i.toNat*4+0]?=some (SV.v (VS q)),ai i n=true,decide (i<(↑n:Int))=true]:=by kernel_rfl
theorem TM (l m l' w:List SV)(n c k:Nat)(p q:ByteArray)(i i':Int)(e:ak):reach bn 2 60 (SM.at (o6 n c p (.sl 1 0 k none) i) 6 [cv l,fx m]) (ff [0] true++[(2,.cells [.v (.string q)])]++ff [3] true++[(5,.cells (eC e)),(6,.app m w)]) [(0,0),(1,3)] [0,1] (o6 n c p (.sl 1 0 (k+1) none) i') 6 [cv l,fx l']=[0=0/\n=n/\some c=some c,VS p=VS p,0=0/\k+1=k+1/\nZ=none,vZ (IntKind.i64.wrap (i+1))=vZ i',l=l,l.all ab=true,m++w=l',l'.all ab=true,((List.take 4 (List.drop 0 (aQ (List.replicate 1 (List.map SV.v [VS ⟨⟨[]⟩⟩,V1 IntKind.u64 0,vZ 0,VT none 0 0])).flatten 0 (eC e)))=w/\w.length=1*4)/\1≠0/\(2*(k+1)+1024)*56<=140737488355328)/\List.take (k*4) m=m/\m.length=k*4/\w.all SV.flat=true,List.take 4 (List.drop (0+i.toNat*4) l)=eC e/\(eC e).length=4,ai i n=true,(!q.toList==p.toList)=true,l[0+i.toNat*4+0]?=some (SV.v (VS q)),ai i n=true,decide (i<(↑n:Int))=true]:=by kernel_rfl
theorem Q4 (l:List SV)(n c:Nat)(p:ByteArray)(i:Int)(v:Value):ao bn 56 60 (SM.at (o6 n c p bZ i) 6 [cv l]) (ff [0] false) v=[VT none 0 0=v,decide (i<(↑n:Int))=false]:=by kernel_rfl
theorem Vv (l m:List SV)(n c k:Nat)(p:ByteArray)(i:Int):bY bn 56 60 (SM.at (o6 n c p (.sl 1 0 k none) i) 6 [cv l,fx m]) (ff [0] false) (.sl 1 0 k none) 1 (.row m 50 (0,0) (some 4))=[0=0/\k=k/\nZ=none,m=m,m.all ab=true,decide (i<(↑n:Int))=false]:=by kernel_rfl
def cE (l:List ak):List SV:=l.flatMap eC
def vE (l:List ak):List Value:=l.flatMap eV
theorem c9 (e:ak):(eC e).length=4:=rfl
theorem cD (e:ak):(eC e).all ab=true:=rfl
theorem nT (a b:List ak):cE (a++b)=cE a++cE b:=by simp[cE]
theorem jr (e:ak):cE [e]=eC e:=by simp[cE]
theorem gS:∀ a:List ak,(cE a).length=a.length*4
 | []=>rfl
 | e::a=>by
  have:=gS a
  show (eC e++cE a).length=_
  rw[V7,this,c9,Wm];omega
theorem aM (a:List ak):(cE a).all ab=true:=by
 rw[Wn];intro x hx;obtain⟨r,_,hx⟩:=Yp.1 hx;exact Wn.1 (cD r) x hx
theorem mT (a:List ak):(cE a).all SV.flat=true:=by
 rw[Wn];intro x hx;obtain⟨r,_,hx⟩:=Yp.1 hx;exact Wn.1 (show (eC r).all SV.flat=true from rfl) x hx
theorem eL:∀ l:List ak,(vE l).map SV.v=cE l
 | []=>rfl
 | r::l=>by
  show (eV r++vE l).map SV.v=eC r++cE l
  rw[Wq,eL l];rfl
theorem gi {ν:aP}:∀ {a:List Value} {u v:List Value},au ν (a.map SV.v) u->au ν (a.map SV.v) v->u=v
 | [],u,v,hu,hv=>by rw[au.ay hu,au.ay hv]
 | z::a,u,v,hu,hv=>by
  obtain⟨p,ps,rfl,q1,q2⟩:=au.cons_inv (x:=.v z) (xs:=a.map SV.v) hu
  obtain⟨p',ps',rfl,q3,q4⟩:=au.cons_inv (x:=.v z) (xs:=a.map SV.v) hv
  rw[VR.ae.1 q1,VR.ae.1 q3,gi q2 q4]
theorem xx {ν:aP}{l:List ak}{zs:List Value}(h:au ν (cE l) zs):zs=vE l:=by
 rw[<- eL]at h;exact gi h (au.lits ν (vE l))
theorem ml {xs:List ak}{k:Nat}{x:ak}(h:xs[k]?=some x):List.take 4 (List.drop (0+k*4) (cE xs))=eC x:=by
 rw[W8];exact kr c9 h
theorem kp {xs:List ak}{k:Nat}{x:ak}(h:xs[k]?=some x):(cE xs)[0+k*4+0]?=some (.v (.string x.p)):=by
 have h2:(List.take 4 (List.drop (0+k*4) (cE xs)))[0]?=(eC x)[0]?:=by rw[ml h]
 rw[WN,if_pos (by decide),W7]at h2;exact h2
def Od (l:List SV):ak:=match l with
 | [.v (.string p),.v (.int _ v),.v (.int _ k),.v (.slice a l c)]=>⟨p,v,k,a,l,c⟩
 | _=>⟨⟨#[]⟩,0,0,none,0,0⟩
theorem IL (e:ak):Od (eC e)=e:=rfl
def ar (ys:List SV)(n:Nat):List ak:=Hg Od 4 n ys
theorem eR (l:List ak):ar (cE l) l.length=l:=p9 c9 IL l
structure bK (ys:List SV)(n:Nat)(l:List ak):Prop where
 cells:ys=cE l
 len:n=l.length
 YO:n<=1000
def pI (p:ByteArray)(e:ak):Bool:=e.p.data.toList==p.data.toList
def fB (p:ByteArray)(l:List ak):ak:=(l.find? (pI p)).getD ⟨p,0,0,none,0,0⟩
def bg (p:ByteArray)(l:List ak):List ak:=l.filter fun e=>!pI p e
theorem EG {ν:aP}{i:Nat}{ys:List SV}{e:TypeId}{fz:Nat × Nat}{x:Option Nat}{ob:Obj}(h:OR ν i (.row ys e fz x) ob):OR ν i (.look ys) ob:=by
 obtain⟨zs,rest,rfl,hz,_⟩:=h;exact⟨zs,_,_,_,rfl,hz,fun k y hk=>by simpa using YE hk⟩
theorem we {ν ν':aP}{i j:Nat}{ys:List SV}{ob:Obj}(hy:ys.all ab=true)(h:OR ν i (.look ys) ob):OR ν' j (.look ys) ob:=by
 obtain⟨zs,c,e,fz,rfl,hz,hc⟩:=h;exact⟨zs,c,e,fz,rfl,jv hy hz,hc⟩
theorem im {E:Env}{P:Program}(hP:E.P=P)(hG:E.G=[]){f:FuncId}{ν:aP}{M:Own}{w0 w:World}{sh:SH}(hr:HR ν M w0 sh w){i:Nat}{ys:List SV}{e:TypeId}{fz:Nat × Nat}{x:Option Nat}{mk:Bool}(hl:sh.look i=some (.row ys e fz x,mk))(hy:ys.all ab=true)
  {a:List Value} {args':Nat->List SV} {S0:Nat->SM} {R:Ending->World->Prop} (hloc:∀ b,ν i=some b->au (aA [b]) (args' b.2) a) (ZZ:∀ c,a6 E f (args' c) (bG 6 1 0 [some (.look ys,false)])=some (S0 c))
  (hs:∀ b cs0,af E (aD [b] [(.look ys,false)]) w cs0 f R (aA [b]) (S0 b.2)):Calls P f a.toArray w R:=by
 obtain⟨_,_,b,ob,hb,ho,YA,_⟩:=hr.look hl;refine aW (E:=E) hP (d:=6) (l:=[b]) (os:=[.look ys]) rfl (by simp) (by simp) ?_ hG (ZZ b.2) (hloc b hb) fun cs0=>hs b cs0;intro j o' b' c' h1 h2;match j with
 | 0=>
  simp only[Wa,Option.some.injEq]at h1 h2;subst h1;subst h2;exact⟨_,ho,we hy (EG YA)⟩
 | j+1=>simp at h1
theorem dj {b:Nat × Nat}{i:Nat}{x:Nat × Nat}(h:aA [b] i=some x):i=0:=by
 match i with
 | 0=>rfl
 | i+1=>simp[aA]at h
theorem gW {b:Nat × Nat}{ys:List SV}(z:Nat):¬ (aD [b] [(SO.look ys,false)]) z:=aZ (os:=[_])
section
variable {w0:World}{cs0:List Frame}{R:Ending->World->Prop}{xs:List ak}{p:ByteArray}{b:Nat × Nat}{c:Nat}
theorem HJ {s:Int}(hl:xs.length<=1000)(hR:∀ w',Below w0.heap.size w0 w'->R (.returned (.agg (eV (fB p xs)).toArray)) w'):∀ (j i:Nat),i+j=xs.length->(∀ e∈xs.take i,pI p e=false)->
  af bn (aD [b] [(.look (cE xs),false)]) w0 cs0 55 R (aA [b]) (SM.at (BF p i) 6 (yX (cE xs) xs.length c s))
 | 0,i,hj,hn=>by
  refine cg fQ gW (n:=60) (o:=ff [0] false) (v:=.agg #[.string p,.int .u64 0,.int .i64 0,.slice none 0 0]) ⟨?_⟩ fun w' hw=>?_
  ·rw[Uu];simp only[ah,VW,VX];exact V2 (by omega)
  ·rw[We (by omega)]at hn
   have:xs.find? (pI p)=none:=by
    rw[WY];intro e he;rw[hn e he];simp
   have e2:fB p xs=⟨p,0,0,none,0,0⟩:=by unfold fB;rw[this];rfl
   have:=hR w' hw;rw[e2]at this;exact this
 | j+1,i,hj,hn=>by
  have hi:i<xs.length:=by omega
  have Zm:xs[i]?=some xs[i]:=V4 hi;have t1:decide ((i:Int)<(xs.length:Int))=true:=V0 (by omega);have r1:=aJ hi;have ws:=aU (k:=i) (by omega);have rc:=kp Zm;have ra:=ml Zm;cases hq:pI p xs[i]
  ·have ZN:(xs[i].p.toList==p.toList)=false:=by rw[jB,jB];exact hq
   refine af.reach fQ (k:=2) (n:=60) (o:=(ff [0] true++[(2,.cells [.v (.string xs[i].p)])]++ff [3] false)) (ren:=[(0,0),(1,1),(2,2)]) (eqs:=[0]) ?_ (by kernel_rfl) (fun i b h=>by rw[dj h];rfl) (l:=yX (cE xs) xs.length c s) (HJ hl hR j (i+1) (by omega) fun e he=>by
    rw[Wp hi]at he;rcases WJ.1 he with h|h
    ·exact hn e h
    ·rw[Wl.1 h];exact hq)
   rw[Sh];simp only[ah,V5,t1,r1,rc,ZN,ws,aM,VV]
  ·have ZN:(xs[i].p.toList==p.toList)=true:=by rw[jB,jB];exact hq
   refine cg fQ gW (n:=60) (o:=(ff [0] true++[(2,.cells [.v (.string xs[i].p)])]++ff [3] true++[(5,.cells (eC xs[i]))])) (v:=.agg (eV xs[i]).toArray) ⟨?_⟩ fun w' hw=>?_
   ·rw[Rb];simp only[ah,V5,t1,r1,rc,ra,ZN,c9,VV,VW,VX];rfl
   ·have hf:xs.find? (pI p)=some xs[i]:=by
     conv=>lhs;rw[<- Xh i xs]
     rw[List.find?_append]
     have:(xs.take i).find? (pI p)=none:=by
      rw[WY];intro e he;rw[hn e he];simp
     rw[this,WQ hi,X2,hq];rfl
    have e2:fB p xs=xs[i]:=by unfold fB;rw[hf];rfl
    have:=hR w' hw;rw[e2]at this;exact this
end
def LH:yC:=fun args sh=>match args with
 | [.agg [.v (.int .u64 s),.sl i 0 n none],.v (.string p)]=>match sh.look i with
  | some (.row ys _ _ _,_)=>some (.agg #[.string (fB p (ar ys n)).p,.int .u64 (fB p (ar ys n)).v,.int .i64 (fB p (ar ys n)).k,.slice (fB p (ar ys n)).a (fB p (ar ys n)).l (fB p (ar ys n)).c],bK ys n (ar ys n))
  | _=>none
 | _=>none
theorem Ms {X:World->Prop}:bh Tryz.prog X (55,de LH):=by
 refine dO ⟨_,Tryz.func55,by kernel_rfl,by kernel_rfl⟩ fun args sh v q h hp ν M w0 w a hr hX ha=>?_;dsimp only[LH]at h;split at h
 ·rename_i s i n p;split at h
  ·rename_i ys e1 z1 x1 m1 hl;cases h;obtain⟨hc,hn,ZH⟩:=hp;generalize hE:ar ys n=xs at *;subst hc hn;obtain⟨y1,ZK,rfl,q1,YH⟩:=ha.cons_inv;obtain⟨y2,as2,rfl,q2,Zx⟩:=YH.cons_inv;obtain rfl:=Zx.ay;obtain rfl:=VR.ae.1 q2;obtain⟨u,rfl,hu⟩:=VR.bx.1 q1;obtain⟨y3,as3,rfl,q3,Ξ⟩:=hu.cons_inv;obtain⟨y4,as4,rfl,q4,hu3⟩:=Ξ.cons_inv;obtain rfl:=hu3.ay;obtain rfl:=VR.ae.1 q3;obtain⟨bb,YZ,hle,rfl⟩:=VR.aL.1 q4;refine im (E:=bn) rfl rfl hr hl (aM xs) (args':=fun c=>[.agg [.v (.int .u64 s),.sl 0 0 xs.length (some c)],.v (.string p)]) (S0:=fun c=>Gf (cE xs) xs.length c s p) (fun b hb=>?_) (fun c=>by kernel_rfl) fun b cs0=>?_
   ·rw[YZ]at hb;cases hb;have Zb:xs.length<=bb.2:=hle;exact au.cons (VR.bx.2 ⟨_,rfl,au.cons (VR.ae.2 rfl) (au.cons (VR.aL.2 ⟨bb,rfl,Zb,rfl⟩) au.nil)⟩) (au.cons (VR.ae.2 rfl) au.nil)
   ·have nx:=HJ (w0:=w) (cs0:=cs0) (b:=b) (c:=b.2) (p:=p) (s:=s) (xs:=xs) (R:=fun e w'=>Below w.heap.size w w'/\e=.returned (.agg (eV (fB p xs)).toArray)) ZH (fun w' hw=>⟨hw,rfl⟩) xs.length 0 (by omega) fun e he=>by simp at he
    refine af.reach fQ (k:=2) (n:=60) (o:=VP) (ren:=[(0,0),(1,1),(2,2)]) (eqs:=[0]) (F:=BF p 0) (d:=6) (l:=yX (cE xs) xs.length b.2 s) ?_ (by kernel_rfl) (fun i b h=>by rw[dj h];rfl) nx;rw[Rc];simp only[ah,aM,VV]
  ·cases h
 ·cases h
theorem r8 (p:ByteArray){xs:List ak}{i:Nat}(h:i<xs.length):bg p (xs.take (i+1))=bg p (xs.take i)++(if pI p xs[i]=true then [] else [xs[i]]):=by
 rw[Wp h];unfold bg;rw[List.filter_append];congr 1;cases hp:pI p xs[i]<;>simp[hp]
theorem qd (p:ByteArray)(xs:List ak):(bg p xs).length<=xs.length:=XQ _ _
theorem rS {E:Env}{M:Own}{w0:World}{cs0:List Frame}{f:FuncId}{R:Ending->World->Prop}{ν:aP}{n:Nat}{S:SM}{o:List (Nat × gR)}{m j:Nat}{l:List ak}(K:aK E M w0)(hM:∀ z,¬ M z)
  (h:mX (bY E f n S o (.sl j 0 m none) j (.row (cE l) 50 (0,0) (some 4)))) (hR:∀ w' y,Below w0.heap.size w0 w'->cF w0 w' y (vE l) m 4 50->R (.returned y) w'):af E M w0 cs0 f R ν S:=
 af.bY K h.out fun ν' w' y b ob hv hb ho YA hw hB=>by
  have hn:w0.heap.size<=b.1:=by
   rcases hw with h|h
   ·exact h
   ·exact absurd h (hM _)
  obtain⟨_,_,_,_,hB,hr⟩:=hB;exact hR w' y (aB hM hB hr) (cF.gb hv hb ho YA hn fun zs hz=>xx hz)
def RW (w0:World)(xs:List ak)(e:Ending)(w':World):Prop:=
 Below w0.heap.size w0 w'/\((xs=[]/\e=.returned (.slice none 0 0))\/(xs≠[]/\∃ y,e=.returned y/\cF w0 w' y (vE xs) xs.length 4 50))
section
variable {w0:World}{cs0:List Frame}{xs:List ak}{p:ByteArray}{b:Nat × Nat}{c:Nat}
theorem wv (hl:xs.length<=1000):∀ (j i:Nat),i+j=xs.length->bg p (xs.take i)≠[]->
  af bn (aD [b] [(.look (cE xs),false)]) w0 cs0 56 (RW w0 (bg p xs)) (aA [b]) (SM.at (o6 xs.length c p (.sl 1 0 (bg p (xs.take i)).length none) i) 6 [cv (cE xs),fx (cE (bg p (xs.take i)))])
 | 0,i,hj,Yu=>by
  rw[We (by omega)]at Yu ⊢
  refine rS (j:=1) fQ gW (n:=60) (o:=ff [0] false) ⟨?_⟩ fun w' y hB hy=>⟨hB,.inr ⟨Yu,y,rfl,hy⟩⟩
  rw[Vv]
  simp only[ah,aM,VV,VX,VW]
  exact V2 (by omega)
 | j+1,i,hj,Yu=>by
  have hi:i<xs.length:=by omega
  have Y2:=r8 p hi
  have Zm:xs[i]?=some xs[i]:=V4 hi
  have t1:decide ((i:Int)<(xs.length:Int))=true:=V0 (by omega)
  have r1:=aJ hi
  have ws:=aU (k:=i) (by omega)
  have rc:=kp Zm
  have ra:=ml Zm
  have hbl:(bg p (xs.take i)).length<=1000:=Wh (qd _ _) (by rw[WX];omega)
  cases hq:pI p xs[i]
  ·have ZN:(xs[i].p.toList==p.toList)=false:=by rw[jB,jB];exact hq
   rw[hq,if_neg (by decide)]at Y2
   have nx:=wv hl j (i+1) (by omega) (by rw[Y2];simp)
   rw[Y2,V7,show ([xs[i]]:List ak).length=1 from rfl]at nx
   refine af.reach fQ (k:=2) (n:=60) (o:=(ff [0] true++[(2,.cells [.v (.string xs[i].p)])]++ff [3] true++[(5,.cells (eC xs[i])),(6,.app (cE (bg p (xs.take i))) (eC xs[i]))])) (ren:=[(0,0),(1,3)]) (eqs:=[0,1]) ?_ (by kernel_rfl) (fun i b h=>by rw[dj h];rfl) nx
   rw[TM]
   simp only[ah,V5,t1,r1,rc,ra,ZN,ws,c9,aM,mT,nT,jr,gS,WL,W0,VV,VX,VW]
   repeat' apply And.intro
   all_goals first|rfl|omega|exact We (by rw[gS];exact Wx _)|exact cD _|skip
  ·have ZN:(xs[i].p.toList==p.toList)=true:=by rw[jB,jB];exact hq
   rw[hq,if_pos rfl,W4]at Y2
   have nx:=wv hl j (i+1) (by omega) (by rw[Y2];exact Yu)
   rw[Y2]at nx
   refine af.reach fQ (k:=2) (n:=60) (o:=(ff [0] true++[(2,.cells [.v (.string xs[i].p)])]++ff [3] false)) (ren:=[(0,0),(1,1)]) (eqs:=[0,1]) ?_ (by kernel_rfl) (fun i b h=>by rw[dj h];rfl) nx
   rw[RA]
   simp only[ah,V5,t1,r1,rc,ZN,ws,aM,Wy,VV]
theorem CY (hl:xs.length<=1000):∀ (j i:Nat),i+j=xs.length->bg p (xs.take i)=[]->
  af bn (aD [b] [(.look (cE xs),false)]) w0 cs0 56 (RW w0 (bg p xs)) (aA [b]) (SM.at (o6 xs.length c p bZ i) 6 [cv (cE xs)])
 | 0,i,hj,hn=>by
  rw[We (by omega)]at hn
  refine cg fQ gW (n:=60) (o:=ff [0] false) (v:=.slice none 0 0) ⟨?_⟩ fun w' hw=>⟨hw,.inl ⟨hn,rfl⟩⟩
  rw[Q4]
  simp only[ah,VV,VX,VW]
  exact V2 (by omega)
 | j+1,i,hj,hn=>by
  have hi:i<xs.length:=by omega
  have Y2:=r8 p hi
  have Zm:xs[i]?=some xs[i]:=V4 hi
  have t1:decide ((i:Int)<(xs.length:Int))=true:=V0 (by omega)
  have r1:=aJ hi
  have ws:=aU (k:=i) (by omega)
  have rc:=kp Zm
  have ra:=ml Zm
  cases hq:pI p xs[i]
  ·have ZN:(xs[i].p.toList==p.toList)=false:=by rw[jB,jB];exact hq
   rw[hq,if_neg (by decide),hn,Xm]at Y2
   have nx:=wv (w0:=w0) (cs0:=cs0) (b:=b) (c:=c) (p:=p) hl j (i+1) (by omega) (by rw[Y2];simp)
   rw[Y2,show ([xs[i]]:List ak).length=1 from rfl]at nx
   refine af.reach fQ (k:=2) (n:=60) (o:=(ff [0] true++[(2,.cells [.v (.string xs[i].p)])]++ff [3] true++[(5,.cells (eC xs[i]))])) (ren:=[(0,0),(1,2)]) (eqs:=[0,1]) ?_ (by kernel_rfl) (fun i b h=>by rw[dj h];rfl) nx
   rw[U0]
   simp only[ah,V5,t1,r1,rc,ra,ZN,ws,c9,aM,jr,W0,VV,VX,VW]
   repeat' apply And.intro
   all_goals first|rfl|omega|exact cD _|skip
  ·have ZN:(xs[i].p.toList==p.toList)=true:=by rw[jB,jB];exact hq
   rw[hq,if_pos rfl,W4]at Y2
   have nx:=CY hl j (i+1) (by omega) (by rw[Y2];exact hn)
   refine af.reach fQ (k:=2) (n:=60) (o:=(ff [0] true++[(2,.cells [.v (.string xs[i].p)])]++ff [3] false)) (ren:=[(0,0)]) (eqs:=[0]) ?_ (by kernel_rfl) (fun i b h=>by rw[dj h];rfl) nx
   rw[Si]
   simp only[ah,V5,t1,r1,rc,ZN,ws,aM,bZ,Wy,VV]
end
def um:H5:=fun args sh=>match args with
 | [.sl i 0 n none,.v (.string p)]=>match sh.look i with
  | some (.row ys _ _ _,_)=>some (vE (bg p (ar ys n)),(bg p (ar ys n)).length,4,50,none,bK ys n (ar ys n)/\bg p (ar ys n)≠[])
  | _=>none
 | _=>none
def sV:yC:=fun args sh=>match args with
 | [.sl i 0 n none,.v (.string p)]=>match sh.look i with
  | some (.row ys _ _ _,_)=>some (.slice none 0 0,bK ys n (ar ys n)/\bg p (ar ys n)=[])
  | _=>none
 | _=>none
theorem nz {ν:aP}{M:Own}{w0 w:World}{sh:SH}(hr:HR ν M w0 sh w){i n:Nat}{ys:List SV}{e:TypeId}{fz:Nat × Nat}{x:Option Nat}{mk:Bool}{p:ByteArray}{xs:List ak}(hl:sh.look i=some (.row ys e fz x,mk))(h:bK ys n xs){a:List Value}
  (ha:au ν [.sl i 0 n none,.v (.string p)] a):Calls Tryz.prog 56 a.toArray w (RW w (bg p xs)):=by
 obtain⟨rfl,rfl,ZH⟩:=h;obtain⟨y1,ZK,rfl,q1,YH⟩:=ha.cons_inv;obtain⟨y2,as2,rfl,q2,Zx⟩:=YH.cons_inv;obtain rfl:=Zx.ay;obtain rfl:=VR.ae.1 q2;obtain⟨bb,YZ,hle,rfl⟩:=VR.aL.1 q1;refine im (E:=bn) rfl rfl hr hl (aM xs) (args':=fun c=>[.sl 0 0 xs.length (some c),.v (.string p)]) (S0:=fun c=>FF (cE xs) xs.length c p) (fun b hb=>?_) (fun c=>by kernel_rfl) fun b cs0=>?_
 ·rw[YZ]at hb;cases hb;have Zb:xs.length<=bb.2:=hle;exact au.cons (VR.aL.2 ⟨bb,rfl,Zb,rfl⟩) (au.cons (VR.ae.2 rfl) au.nil)
 ·have nx:=CY (w0:=w) (cs0:=cs0) (b:=b) (c:=b.2) (p:=p) (xs:=xs) ZH xs.length 0 (by omega) rfl;refine af.reach fQ (k:=2) (n:=60) (o:=VP) (ren:=[(0,0)]) (eqs:=[0]) (F:=o6 xs.length b.2 p bZ 0) (d:=6) (l:=[cv (cE xs)]) ?_ (by kernel_rfl) (fun i b h=>by rw[dj h];rfl) nx;rw[SU];simp only[ah,aM,VV]
theorem AL {X:World->Prop}:bh Tryz.prog X (56,gq (fj um) (de sV)):=by
 refine bh.br (gJ ⟨_,Tryz.func56,by kernel_rfl,by kernel_rfl⟩ fun args sh ys n C elem ex p h hp ν M w0 w a hr hX ha=>?_) (dO ⟨_,Tryz.func56,by kernel_rfl,by kernel_rfl⟩ fun args sh v p h hp ν M w0 w a hr hX ha=>?_)
 ·dsimp only[um]at h;split at h
  ·rename_i i n p;split at h
   ·rename_i zs e1 z1 x1 m1 hl;cases h;refine (nz hr hl hp.1 ha).mono fun e w' ⟨hB,h⟩=>⟨hB,?_⟩;rcases h with ⟨h1,_⟩|⟨_,y,h2,h3⟩
    ·exact absurd h1 hp.2
    ·exact⟨y,h2,h3⟩
   ·cases h
  ·cases h
 ·dsimp only[sV]at h;split at h
  ·rename_i i n p;split at h
   ·rename_i zs e1 z1 x1 m1 hl;cases h;refine (nz hr hl hp.1 ha).mono fun e w' ⟨hB,h⟩=>⟨hB,?_⟩;rcases h with ⟨_,h2⟩|⟨h1,_⟩
    ·exact h2
    ·exact absurd hp.2 h1
   ·cases h
  ·cases h
def x7:Env:=EP [(80,qI)] []
def FT (l:List SV)(n c:Nat)(x:ak):SM:=(a6 x7 57 [.sl 0 0 n (some c),.v (.agg #[.string x.p,.int .u64 x.v,.int .i64 x.k,.slice x.a x.l x.c])] (bG 6 1 0 [cv l])).getD dn
def MD:List SI:=dA x7 2 60 (FT [] 0 0 ⟨⟨#[]⟩,0,0,none,0,0⟩) VP
def lH (n c:Nat)(x:SV)(d:Bool)(i:Int):SF:={ fn:=57,tm:=e9 45 6 ([.sl 0 0 n (some c),.aH,.aH,.ptr 1 0,.aH,x,.v (.bool d),.v (.int .i64 i)]++List.replicate 37 .aH),todo:=MD,defers:=[],ret:=false,kind:=.normal,ro:=none }
def lu (x:ak):Option (SO × Bool):=some (.row (eC x) 50 (0,0) none,true)
theorem VA (l:List SV)(n c:Nat)(x:ak):reach x7 2 60 (FT l n c x) VP [(0,0),(1,1)] [0] (lH n c bZ false 0) 6 [cv l,lu x]=[0=0/\n=n/\some c=some c,0=0,VT none 0 0=VT none 0 0,VU false=VU false,vZ 0=vZ 0,l=l,l.all ab=true,VS x.1=VS x.1,V1 IntKind.u64 x.2=V1 IntKind.u64 x.2,vZ x.3=vZ x.3,VT x.4 x.5 x.6=VT x.4 x.5 x.6]:=by kernel_rfl
theorem Sj (l l' m w w2:List SV)(n c k:Nat)(x e:ak)(i i':Int):reach x7 2 100 (SM.at (lH n c bZ false i) 6 [cv l,lu x]) (ff [0] true++[(7,.cells [.v (.string e.p)]),(16,.cells (eC e))]++ff [14] false) [(0,0),(1,1),(2,3)] [0,2] (lH n c (.sl 2 0 1 none) false i') 6 [cv l,lu x,fx l']=[0=0/\n=n/\some c=some c,0=0,0=0/\1=1/\nZ=none,VU false=VU false,vZ (IntKind.i64.wrap (i+1))=vZ i',l=l,l.all ab=true,VS x.1=VS x.1,V1 IntKind.u64 x.2=V1 IntKind.u64 x.2,vZ x.3=vZ x.3,VT x.4 x.5 x.6=VT x.4 x.5 x.6,[]++List.take 4 (List.drop 0 (aQ (List.replicate 1 (List.map SV.v [VS ⟨⟨[]⟩⟩,V1 IntKind.u64 0,vZ 0,VT none 0 0])).flatten 0 (eC e)))=l',l'.all ab=true,List.take 4 (List.drop (0+i.toNat*4) l)=eC e/\(eC e).length=4,ai i n=true,decide (dp e.1 x.1>0)=false,e.1.size<=1000000000/\x.1.size<=1000000000,l[0+i.toNat*4+0]?=some (SV.v (VS e.1)),ai i n=true,decide (i<(↑n:Int))=true]:=by kernel_rfl
theorem Ub (l l' m w w2:List SV)(n c k:Nat)(x e:ak)(i i':Int):reach x7 2 100 (SM.at (lH n c (.sl 2 0 k none) false i) 6 [cv l,lu x,fx m]) (ff [0] true++[(7,.cells [.v (.string e.p)]),(16,.cells (eC e)),(17,.app m w)]++ff [14] false) [(0,0),(1,1),(2,4)] [0,2] (lH n c (.sl 2 0 (k+1) none) false i') 6 [cv l,lu x,fx l']=[0=0/\n=n/\some c=some c,0=0,0=0/\k+1=k+1/\nZ=none,VU false=VU false,vZ (IntKind.i64.wrap (i+1))=vZ i',l=l,l.all ab=true,VS x.1=VS x.1,V1 IntKind.u64 x.2=V1 IntKind.u64 x.2,vZ x.3=vZ x.3,VT x.4 x.5 x.6=VT x.4 x.5 x.6,m++w=l',l'.all ab=true,((List.take 4 (List.drop 0 (aQ (List.replicate 1 (List.map SV.v [VS ⟨⟨[]⟩⟩,V1 IntKind.u64 0,vZ 0,VT none 0 0])).flatten 0 (eC e)))=w/\w.length=1*4)/\1≠0/\(2*(k+1)+1024)*56<=140737488355328)/\List.take (k*4) m=m/\m.length=k*4/\w.all SV.flat=true,List.take 4 (List.drop (0+i.toNat*4) l)=eC e/\(eC e).length=4,ai i n=true,decide (dp e.1 x.1>0)=false,e.1.size<=1000000000/\x.1.size<=1000000000,l[0+i.toNat*4+0]?=some (SV.v (VS e.1)),ai i n=true,decide (i<(↑n:Int))=true]:=by kernel_rfl
theorem T7 (l l' m w w2:List SV)(n c k:Nat)(x e:ak)(i i':Int):reach x7 2 100 (SM.at (lH n c bZ false i) 6 [cv l,lu x]) (ff [0] true++[(7,.cells [.v (.string e.p)])]++ff [14] true++[(17,.cells (eC e))]) [(0,0),(1,1),(2,5)] [0,2] (lH n c (.sl 2 0 2 none) true i') 6 [cv l,lu x,fx l']=[0=0/\n=n/\some c=some c,0=0,0=0/\2=2/\nZ=none,VU true=VU true,vZ (IntKind.i64.wrap (i+1))=vZ i',l=l,l.all ab=true,VS x.1=VS x.1,V1 IntKind.u64 x.2=V1 IntKind.u64 x.2,vZ x.3=vZ x.3,VT x.4 x.5 x.6=VT x.4 x.5 x.6,List.take 4 ([]++List.take 4 (List.drop 0 (aQ (List.replicate 1 (List.map SV.v [VS ⟨⟨[]⟩⟩,V1 IntKind.u64 0,vZ 0,VT none 0 0])).flatten 0 (List.take 4 (List.drop 0 (eC x))))))++List.take 4 (List.drop 0 (aQ (List.replicate 1 (List.map SV.v [VS ⟨⟨[]⟩⟩,V1 IntKind.u64 0,vZ 0,VT none 0 0])).flatten 0 (eC e)))=l',l'.all ab=true,List.take 4 (List.drop (0+i.toNat*4) l)=eC e/\(eC e).length=4,ai i n=true,decide (dp e.1 x.1>0)=true,e.1.size<=1000000000/\x.1.size<=1000000000,l[0+i.toNat*4+0]?=some (SV.v (VS e.1)),ai i n=true,decide (i<(↑n:Int))=true]:=by kernel_rfl
theorem RB (l l' m w w2:List SV)(n c k:Nat)(x e:ak)(i i':Int):reach x7 2 100 (SM.at (lH n c (.sl 2 0 k none) false i) 6 [cv l,lu x,fx m]) (ff [0] true++[(7,.cells [.v (.string e.p)])]++ff [14] true++[(15,.app m w),(17,.cells (eC e)),(18,.app (m++w) w2)]) [(0,0),(1,1),(2,6)] [0,2] (lH n c (.sl 2 0 (k+2) none) true i') 6 [cv l,lu x,fx l']=[0=0/\n=n/\some c=some c,0=0,0=0/\k+1+1=k+2/\nZ=none,VU true=VU true,vZ (IntKind.i64.wrap (i+1))=vZ i',l=l,l.all ab=true,VS x.1=VS x.1,V1 IntKind.u64 x.2=V1 IntKind.u64 x.2,vZ x.3=vZ x.3,VT x.4 x.5 x.6=VT x.4 x.5 x.6,m++w++w2=l',l'.all ab=true,((List.take 4 (List.drop 0 (aQ (List.replicate 1 (List.map SV.v [VS ⟨⟨[]⟩⟩,V1 IntKind.u64 0,vZ 0,VT none 0 0])).flatten 0 (eC e)))=w2/\w2.length=1*4)/\1≠0/\(2*(k+1+1)+1024)*56<=140737488355328)/\List.take ((k+1)*4) (m++w)=m++w/\(m++w).length=(k+1)*4/\w2.all SV.flat=true,List.take 4 (List.drop (0+i.toNat*4) l)=eC e/\(eC e).length=4,ai i n=true,((List.take 4 (List.drop 0 (aQ (List.replicate 1 (List.map SV.v [VS ⟨⟨[]⟩⟩,V1 IntKind.u64 0,vZ 0,VT none 0 0])).flatten 0 (List.take 4 (List.drop 0 (eC x)))))=w/\w.length=1*4)/\1≠0/\(2*(k+1)+1024)*56<=140737488355328)/\List.take (k*4) m=m/\m.length=k*4/\w.all SV.flat=true,decide (dp e.1 x.1>0)=true,e.1.size<=1000000000/\x.1.size<=1000000000,l[0+i.toNat*4+0]?=some (SV.v (VS e.1)),ai i n=true,decide (i<(↑n:Int))=true]:=by kernel_rfl
theorem Rr (l l' m w w2:List SV)(n c k:Nat)(x e:ak)(i i':Int):reach x7 2 100 (SM.at (lH n c (.sl 2 0 k none) true i) 6 [cv l,lu x,fx m]) (ff [0] true++[(13,.cells (eC e)),(14,.app m w)]) [(0,0),(1,1),(2,4)] [0,2] (lH n c (.sl 2 0 (k+1) none) true i') 6 [cv l,lu x,fx l']=[0=0/\n=n/\some c=some c,0=0,0=0/\k+1=k+1/\nZ=none,VU true=VU true,vZ (IntKind.i64.wrap (i+1))=vZ i',l=l,l.all ab=true,VS x.1=VS x.1,V1 IntKind.u64 x.2=V1 IntKind.u64 x.2,vZ x.3=vZ x.3,VT x.4 x.5 x.6=VT x.4 x.5 x.6,m++w=l',l'.all ab=true,((List.take 4 (List.drop 0 (aQ (List.replicate 1 (List.map SV.v [VS ⟨⟨[]⟩⟩,V1 IntKind.u64 0,vZ 0,VT none 0 0])).flatten 0 (eC e)))=w/\w.length=1*4)/\1≠0/\(2*(k+1)+1024)*56<=140737488355328)/\List.take (k*4) m=m/\m.length=k*4/\w.all SV.flat=true,List.take 4 (List.drop (0+i.toNat*4) l)=eC e/\(eC e).length=4,ai i n=true,decide (i<(↑n:Int))=true]:=by kernel_rfl
theorem T8 (l l' m w w2:List SV)(n c k:Nat)(x e:ak)(i i':Int):bY x7 57 60 (SM.at (lH n c (.sl 2 0 k none) false i) 6 [cv l,lu x,fx m]) (ff [0] false++[(2,.app m w)]) (.sl 4 0 (k+1) none) 4 (.row l' 50 (0,0) (some 4))=[0=0/\k+1=k+1/\nZ=none,m++w=l',l'.all ab=true,((List.take 4 (List.drop 0 (aQ (List.replicate 1 (List.map SV.v [VS ⟨⟨[]⟩⟩,V1 IntKind.u64 0,vZ 0,VT none 0 0])).flatten 0 (List.take 4 (List.drop 0 (eC x)))))=w/\w.length=1*4)/\1≠0/\(2*(k+1)+1024)*56<=140737488355328)/\List.take (k*4) m=m/\m.length=k*4/\w.all SV.flat=true,decide (i<(↑n:Int))=false]:=by kernel_rfl
theorem R3 (l l' m w w2:List SV)(n c k:Nat)(x e:ak)(i i':Int):bY x7 57 60 (SM.at (lH n c (.sl 2 0 k none) true i) 6 [cv l,lu x,fx m]) (ff [0] false) (.sl 2 0 k none) 2 (.row l' 50 (0,0) (some 4))=[0=0/\k=k/\nZ=none,m=l',l'.all ab=true,decide (i<(↑n:Int))=false]:=by kernel_rfl
def Kc (x:ak):SM:=(a6 x7 57 [.v (.slice none 0 0),.v (.agg #[.string x.p,.int .u64 x.v,.int .i64 x.k,.slice x.a x.l x.c])] (bG 6 0 0 [])).getD dn
theorem R5 (x:ak)(l':List SV):bY x7 57 60 (Kc x) VP (.sl 2 0 1 none) 2 (.row l' 50 (0,0) (some 4))=[0=0/\1=1/\nZ=none,[]++List.take 4 (List.drop 0 (aQ (List.replicate 1 (List.map SV.v [VS ⟨⟨[]⟩⟩,V1 IntKind.u64 0,vZ 0,VT none 0 0])).flatten 0 (List.take 4 (List.drop 0 (List.map SV.v [VS x.1,V1 IntKind.u64 x.2,vZ x.3,VT x.4 x.5 x.6])))))=l',l'.all ab=true]:=by kernel_rfl
def eK (x:ak):List ak->List ak
 | []=>[x]
 | e::l=>if dp e.p x.p>0 then x::e::l else e::eK x l
theorem kb (x:ak):∀ l:List ak,(eK x l).length=l.length+1
 | []=>rfl
 | e::l=>by
  unfold eK
  split
  ·rfl
  ·rw[Wm,kb x l,Wm]
def RI (w0:World)(xs:List ak)(e:Ending)(w':World):Prop:=Below w0.heap.size w0 w'/\∃ y,e=.returned y/\cF w0 w' y (vE xs) xs.length 4 50
theorem Jd {M:Own}{w0:World}:aK x7 M w0:=fM fun r h=>by rw[Wl.1 h];exact CO
section
variable {w0:World}{cs0:List Frame}{xs:List ak}{x:ak}{b:Nat × Nat}{c:Nat}
theorem wL (hl:xs.length<=1000):∀ (j i:Nat),i+j=xs.length->∀ (out:List ak),out.length<=i+1->
  af x7 (aD [b] [(.look (cE xs),false)]) w0 cs0 57 (RI w0 (out++xs.drop i)) (aA [b]) (SM.at (lH xs.length c (.sl 2 0 out.length none) true i) 6 [cv (cE xs),lu x,fx (cE out)])
 | 0,i,hj,out,ho=>by
  rw[Xf (by omega),W4]
  refine rS (j:=2) Jd gW (n:=60) (o:=ff [0] false) ⟨?_⟩ fun w' y hB hy=>⟨hB,y,rfl,hy⟩
  rw[R3 (l:=cE xs) (m:=cE out) (w:=[]) (w2:=[]) (e:=x) (i':=0)]
  simp only[ah,aM,VV,VX,VW]
  exact V2 (by omega)
 | j+1,i,hj,out,ho=>by
  have hi:i<xs.length:=by omega
  have Zm:xs[i]?=some xs[i]:=V4 hi
  have t1:decide ((i:Int)<(xs.length:Int))=true:=V0 (by omega)
  have r1:=aJ hi
  have ws:=aU (k:=i) (by omega)
  have ra:=ml Zm
  have nx:=wL hl j (i+1) (by omega) (out++[xs[i]]) (by rw[V7];simp;omega)
  rw[Xz,List.singleton_append,<- WQ hi,V7,show ([xs[i]]:List ak).length=1 from rfl]at nx
  refine af.reach Jd (k:=2) (n:=100) (o:=(ff [0] true++[(13,.cells (eC xs[i])),(14,.app (cE out) (eC xs[i]))])) (ren:=[(0,0),(1,1),(2,4)]) (eqs:=[0,2]) ?_ (by kernel_rfl) (fun i b h=>by rw[dj h];rfl) nx
  rw[Rr (w2:=[])]
  simp only[ah,V5,t1,r1,ra,ws,c9,aM,mT,nT,jr,gS,WL,VV,VX,VW]
  repeat' apply And.intro
  all_goals first|rfl|omega|exact We (by rw[gS];exact Wx _)|exact cD _|skip
theorem CA (hl:xs.length<=1000)(hp:x.p.size<=1000000000)(hs:∀ e∈xs,e.p.size<=1000000000):∀ (j i:Nat),i+j=xs.length->0<i->
  af x7 (aD [b] [(.look (cE xs),false)]) w0 cs0 57 (RI w0 (xs.take i++eK x (xs.drop i))) (aA [b]) (SM.at (lH xs.length c (.sl 2 0 (xs.take i).length none) false i) 6 [cv (cE xs),lu x,fx (cE (xs.take i))])
 | 0,i,hj,h0=>by
  have hlen:(xs.take i).length=i:=by rw[WX];omega
  rw[Xf (by omega),show eK x []=[x] from rfl];refine rS (j:=4) Jd gW (n:=60) (o:=(ff [0] false++[(2,.app (cE (xs.take i)) (eC x))])) ⟨?_⟩ fun w' y hB hy=>⟨hB,y,rfl,hy⟩;rw[V7,show ([x]:List ak).length=1 from rfl,T8 (w2:=[]) (e:=x) (i':=0)];simp only[ah,c9,aM,mT,nT,jr,gS,hlen,WL,VV,VX,VW];repeat' apply And.intro
  all_goals first|rfl|omega|exact We (by rw[gS,hlen];exact Wx _)|exact cD _|exact V2 (by omega)|skip
 | j+1,i,hj,h0=>by
  have hi:i<xs.length:=by omega
  have hlen:(xs.take i).length=i:=by rw[WX];omega
  have Zm:xs[i]?=some xs[i]:=V4 hi;have t1:decide ((i:Int)<(xs.length:Int))=true:=V0 (by omega);have r1:=aJ hi;have ws:=aU (k:=i) (by omega);have ra:=ml Zm;have rc:=kp Zm;have z1:=hs _ (WS hi);have hd:=WQ hi;have ht:=Wp hi;by_cases hc:dp xs[i].p x.p>0
  ·have tc:=V0 hc;have nx:=wL (w0:=w0) (cs0:=cs0) (x:=x) (b:=b) (c:=c) hl j (i+1) (by omega) (xs.take i++[x]++[xs[i]]) (by rw[V7,V7,hlen];simp)
   have e1:xs.take i++[x]++[xs[i]]++xs.drop (i+1)=xs.take i++eK x (xs.drop i):=by
    rw[hd];unfold eK;rw[if_pos hc];simp
   rw[e1,V7,V7,show ([x]:List ak).length=1 from rfl,show ([xs[i]]:List ak).length=1 from rfl]at nx;refine af.reach Jd (k:=2) (n:=100) (o:=(ff [0] true++[(7,.cells [.v (.string xs[i].p)])]++ff [14] true++[(15,.app (cE (xs.take i)) (eC x)),(17,.cells (eC xs[i])),(18,.app (cE (xs.take i)++eC x) (eC xs[i]))])) (ren:=[(0,0),(1,1),(2,6)]) (eqs:=[0,2]) ?_ (by kernel_rfl) (fun i b h=>by rw[dj h];rfl) nx;rw[show (xs.take i).length+1+1=(xs.take i).length+2 from rfl,RB];simp only[ah,V5,t1,r1,ra,rc,ws,tc,z1,hp,c9,aM,mT,nT,jr,gS,hlen,WL,V7,VV,VX,VW];repeat' apply And.intro
   all_goals first|rfl|omega|exact We (by rw[gS,hlen];exact Wx _)|exact We (by rw[V7,gS,hlen,c9];omega)|exact cD _|skip
  ·have tc:=V2 hc;have nx:=CA hl hp hs j (i+1) (by omega) (by omega)
   have e1:xs.take (i+1)++eK x (xs.drop (i+1))=xs.take i++eK x (xs.drop i):=by
    rw[hd,ht];conv=>rhs;unfold eK
    rw[if_neg hc,Xz];rfl
   rw[e1,ht,V7,show ([xs[i]]:List ak).length=1 from rfl]at nx;refine af.reach Jd (k:=2) (n:=100) (o:=(ff [0] true++[(7,.cells [.v (.string xs[i].p)]),(16,.cells (eC xs[i])),(17,.app (cE (xs.take i)) (eC xs[i]))]++ff [14] false)) (ren:=[(0,0),(1,1),(2,4)]) (eqs:=[0,2]) ?_ (by kernel_rfl) (fun i b h=>by rw[dj h];rfl) nx;rw[Ub (w2:=[])];simp only[ah,V5,t1,r1,ra,rc,ws,tc,z1,hp,c9,aM,mT,nT,jr,gS,hlen,WL,VV,VX,VW];repeat' apply And.intro
   all_goals first|rfl|omega|exact We (by rw[gS,hlen];exact Wx _)|exact cD _|skip
theorem Jx (hl:xs.length<=1000)(hp:x.p.size<=1000000000)(hs:∀ e∈xs,e.p.size<=1000000000)(h0:0<xs.length):
  af x7 (aD [b] [(.look (cE xs),false)]) w0 cs0 57 (RI w0 (eK x xs)) (aA [b]) (SM.at (lH xs.length c bZ false (0:Nat)) 6 [cv (cE xs),lu x]):=by
 have Zm:xs[0]?=some xs[0]:=V4 h0;have t1:decide (((0:Nat):Int)<(xs.length:Int))=true:=V0 (by omega);have r1:=aJ h0;have ws:=aU (k:=0) (by omega);have ra:=ml Zm;have rc:=kp Zm;have z1:=hs _ (WS h0);have hd:=WQ h0;rw[List.drop_zero]at hd;have ht:=Wp h0;rw[X7,Xm]at ht;by_cases hc:dp xs[0].p x.p>0
 ·have tc:=V0 hc;have nx:=wL (w0:=w0) (cs0:=cs0) (x:=x) (b:=b) (c:=c) hl (xs.length - 1) (0+1) (by omega) ([x]++[xs[0]]) (by simp)
  have e1:[x]++[xs[0]]++xs.drop (0+1)=eK x xs:=by
   conv=>rhs;rw[hd]
   unfold eK;rw[if_pos hc];simp
  rw[e1,show (([x]:List ak)++[xs[0]]).length=2 from rfl]at nx;refine af.reach Jd (k:=2) (n:=100) (o:=(ff [0] true++[(7,.cells [.v (.string xs[0].p)])]++ff [14] true++[(17,.cells (eC xs[0]))])) (ren:=[(0,0),(1,1),(2,5)]) (eqs:=[0,2]) ?_ (by kernel_rfl) (fun i b h=>by rw[dj h];rfl) nx;rw[T7 (m:=[]) (w:=[]) (w2:=[]) (k:=0)];simp only[ah,V5,t1,r1,ra,rc,ws,tc,z1,hp,c9,aM,nT,jr,VV,VX,VW];repeat' apply And.intro
  all_goals first|rfl|omega|exact cD _|(simp[cD,WL];done)|skip
 ·have tc:=V2 hc;have nx:=CA (w0:=w0) (cs0:=cs0) (x:=x) (b:=b) (c:=c) hl hp hs (xs.length - 1) (0+1) (by omega) (by omega)
  have e1:xs.take (0+1)++eK x (xs.drop (0+1))=eK x xs:=by
   rw[ht];conv=>rhs;rw[hd];unfold eK
   rw[if_neg hc];rfl
  rw[e1,ht,show ([xs[0]]:List ak).length=1 from rfl]at nx;refine af.reach Jd (k:=2) (n:=100) (o:=(ff [0] true++[(7,.cells [.v (.string xs[0].p)]),(16,.cells (eC xs[0]))]++ff [14] false)) (ren:=[(0,0),(1,1),(2,3)]) (eqs:=[0,2]) ?_ (by kernel_rfl) (fun i b h=>by rw[dj h];rfl) nx;rw[Sj (m:=[]) (w:=[]) (w2:=[]) (k:=0)];simp only[ah,V5,t1,r1,ra,rc,ws,tc,z1,hp,c9,aM,jr,VV,VX,VW];repeat' apply And.intro
  all_goals first|rfl|omega|exact cD _|skip
end
def LX:Value->Option ak
 | .agg a=>match a.toList with
  | [.string p,.int .u64 v,.int .i64 k,.slice a l c]=>some ⟨p,v,k,a,l,c⟩
  | _=>none
 | _=>none
def zl (x:SV):Option ak:=(eM x).bind LX
theorem JA {y:Value}{x:ak}(h:LX y=some x):y=.agg (eV x).toArray:=by
 unfold LX at h;split at h
 ·rename_i a;split at h
  ·rename_i p v k a' l c ha;cases h;cases a with|mk l'=>cases ha;rfl
  ·cases h
 ·cases h
theorem rC {ν:aP}{X:SV}{x:ak}{y:Value}(h:zl X=some x)(hv:VR ν X y):y=.agg (eV x).toArray:=by
 unfold zl at h;obtain⟨z,hz,h⟩:=Wi.1 h;rw[gD hz hv];exact JA h
def xH (a:SV)(s:SH):Option (List ak × Prop):=match a with
 | .v (.slice none 0 0)=>some ([],True)
 | .sl i 0 n none=>match s.look i with
  | some (.row ys e (0,0) (some 4),_)=>some (ar ys n,e=50/\bK ys n (ar ys n)/\ar ys n≠[])
  | _=>none
 | _=>none
theorem uU {a:SV}{s:SH}{xs:List ak}{p:Prop}(h:xH a s=some (xs,p))(hp:p):(xs=[]/\a=.v (.slice none 0 0))\/(xs≠[]/\xs.length<=1000/\∃ i mk,a=.sl i 0 xs.length none/\s.look i=some (.row (cE xs) 50 (0,0) (some 4),mk)):=by
 unfold xH at h;split at h
 ·cases h;exact .inl ⟨rfl,rfl⟩
 ·rename_i i n;split at h
  ·rename_i ys e mk hl;cases h;obtain⟨he,⟨hc,hn,hf⟩,Yu⟩:=hp;subst he;generalize ar ys n=xs at *;subst hc hn;exact .inr ⟨Yu,hf,i,mk,rfl,hl⟩
  ·cases h
 ·cases h
def Ce:H5:=fun args s=>match args with
 | [A,X]=>match zl X,xH A s with
  | some x,some (xs,p)=>some (vE (eK x xs),xs.length+1,4,50,none,p/\x.p.size<=1000000000/\∀ e∈xs,e.p.size<=1000000000)
  | _,_=>none
 | _=>none
theorem CS {X:World->Prop}:bh Tryz.prog X (57,fj Ce):=by
 refine gJ ⟨_,Tryz.func57,by kernel_rfl,by kernel_rfl⟩ fun args sh ys n C elem ex p h hp ν M w0 w a hr hX ha=>?_;dsimp only[Ce]at h;split at h
 ·rename_i A Xa;split at h
  ·rename_i x xs q hx ZV;cases h;obtain⟨hq,hxp,hes⟩:=hp;obtain⟨y1,ZK,rfl,q1,YH⟩:=ha.cons_inv;obtain⟨y2,as2,rfl,q2,Zx⟩:=YH.cons_inv;obtain rfl:=Zx.ay;obtain rfl:=rC hx q2;rcases uU ZV hq with ⟨rfl,rfl⟩|⟨Yu,ZH,i,mk,rfl,hl⟩
   ·obtain rfl:=VR.ae.1 q1;refine bP (E:=x7) rfl rfl (args:=[.v (.slice none 0 0),.v (.agg #[.string x.p,.int .u64 x.v,.int .i64 x.k,.slice x.a x.l x.c])]) (S0:=Kc x) (by kernel_rfl) (au.cons (VR.ae.2 rfl) (au.cons (VR.ae.2 rfl) au.nil)) fun cs0=>?_;refine rS (l:=[x]) (m:=1) (j:=2) Jd aE (n:=60) (o:=VP) ⟨?_⟩ fun w' y hB hy=>⟨hB,y,rfl,hy⟩;rw[R5];simp only[ah,jr,cD,VV,VX,VW];first|done|rfl|skip
   ·obtain⟨bb,YZ,hle,rfl⟩:=VR.aL.1 q1;refine im (E:=x7) rfl rfl hr hl (aM xs) (args':=fun c=>[.sl 0 0 xs.length (some c),.v (.agg #[.string x.p,.int .u64 x.v,.int .i64 x.k,.slice x.a x.l x.c])]) (S0:=fun c=>FT (cE xs) xs.length c x) (fun b hb=>?_) (fun c=>by kernel_rfl) fun b cs0=>?_
    ·rw[YZ]at hb;cases hb;have Zb:xs.length<=bb.2:=hle;exact au.cons (VR.aL.2 ⟨bb,rfl,Zb,rfl⟩) (au.cons (VR.ae.2 rfl) au.nil)
    ·have nx:=Jx (w0:=w) (cs0:=cs0) (b:=b) (c:=b.2) (x:=x) (xs:=xs) ZH hxp hes (Xg.2 Yu);unfold RI at nx;rw[kb]at nx;refine af.reach Jd (k:=2) (n:=60) (o:=VP) (ren:=[(0,0),(1,1)]) (eqs:=[0]) (F:=lH xs.length b.2 bZ false 0) (d:=6) (l:=[cv (cE xs),lu x]) ?_ (by kernel_rfl) (fun i b h=>by rw[dj h];rfl) nx;rw[VA];simp only[ah,aM,cD,VV]
  ·cases h
 ·cases h
abbrev bH:=ak × Nat
def mC (e:bH):SV × SV × Nat:=(.v (.string e.1.p),.agg [.v (.string e.1.p),.v (.int .u64 e.1.v),.v (.int .i64 e.1.k),.v (.slice e.1.a e.1.l e.1.c)],e.2)
def fP (e:bH):SV:=.agg [.v (.string e.1.p),.v (.int .u64 e.1.v),.v (.int .i64 e.1.k),.v (.slice e.1.a e.1.l e.1.c)]
def rH:Env:=EP [(89,qI)] []
def KP (s:Int):Option (SO × Bool):=some (.row [.v (.int .u64 s),.map 1] 66 (0,0) none,false)
def xI (es:VQ)(cl:Nat):Option (SO × Bool):=some (.map es cl,false)
def Hs (s:Int)(es:VQ)(cl:Nat):SM:=(a6 rH 61 [.ptr 0 0] (bG 6 2 0 [KP s,xI es cl])).getD dn
def K8:List SI:=dA rH 2 60 (Hs 0 [] 0) VP
def rb (Yr:ByteArray):SF:={ fn:=61,tm:=e9 57 6 ([.ptr 0 0,.aH,.aH,.aH,.v (.string Yr),.aH,.aH,.aH,.aH,.aH,.aH,.ptr 2 0]++List.replicate 45 .aH),todo:=K8,defers:=[],ret:=false,kind:=.normal,ro:=none }
def k9 (s:Int)(es:VQ)(cl:Nat)(seen:List Nat):List (Option (SO × Bool)):=[KP s,xI es cl,some (.miter (some 1) cl seen cl,true)]
def tn (s:Int)(es:VQ)(cl:Nat)(seen:List Nat)(Yr:ByteArray):SM:=(po rH (jX rH) 30 ((SM.at (rb Yr) 6 (k9 s es cl seen)).with VP)).getD dn
def wX (s:Int)(es:VQ)(cl:Nat)(seen:List Nat)(Yr:ByteArray)(e:SV × SV × Nat):SM:=(ln rH (tn s es cl seen Yr) e).getD dn
def L0 (s:Int)(es:VQ)(cl:Nat)(seen:List Nat)(Yr:ByteArray):SM:=(k8 rH (tn s es cl seen Yr)).getD dn
theorem eN (s:Int)(es:VQ)(cl:Nat)(seen:List Nat)(Yr:ByteArray):po rH (jX rH) 30 ((SM.at (rb Yr) 6 (k9 s es cl seen)).with VP)=some (tn s es cl seen Yr):=by kernel_rfl
theorem Oc (s:Int)(es:VQ)(cl:Nat)(seen:List Nat)(Yr:ByteArray):oy rH (tn s es cl seen Yr)=some (2,1,cl,seen,cl,es,cl):=by kernel_rfl
theorem La (s:Int)(es:VQ)(cl:Nat)(seen:List Nat)(Yr:ByteArray):(tn s es cl seen Yr).mem.Y9=[]:=by kernel_rfl
theorem Nj (s:Int)(es:VQ)(cl:Nat)(seen:List Nat)(Yr:ByteArray)(e:SV × SV × Nat):ln rH (tn s es cl seen Yr) e=some (wX s es cl seen Yr e):=by kernel_rfl
theorem N9 (s:Int)(es:VQ)(cl:Nat)(seen:List Nat)(Yr:ByteArray)(e:SV × SV × Nat):(wX s es cl seen Yr e).mem.Y9=[]:=by kernel_rfl
theorem Nk (s:Int)(es:VQ)(cl:Nat)(seen:List Nat)(Yr:ByteArray):k8 rH (tn s es cl seen Yr)=some (L0 s es cl seen Yr):=by kernel_rfl
theorem Oo (s:Int)(es:VQ)(cl:Nat)(seen:List Nat)(Yr:ByteArray):(L0 s es cl seen Yr).mem.Y9=[]:=by kernel_rfl
theorem Vd (s:Int)(es:VQ)(cl:Nat):reach rH 2 60 (Hs s es cl) VP [(0,0),(1,1),(2,2)] [1] (rb ⟨#[]⟩) 6 (k9 s es cl [])=[0=0,VS ⟨⟨[]⟩⟩=VS ⟨⟨[]⟩⟩,0=0,V1 IntKind.u64 s=V1 IntKind.u64 s,cl=cl,es=es,(es.all fun e=>aw e.fst&&aw e.snd.fst)=true,(match false with|true=>some 0|false=>List.lookup 1 [(1,1),(2,2)])=some 1,cl=cl,([]:List Nat)=[],cl=cl]:=by kernel_rfl
theorem Q8 (s:Int)(es:VQ)(cl:Nat)(seen:List Nat)(Yr:ByteArray)(e:bH)(v:Value):ao rH 61 60 (L0 s es cl seen Yr) VP v=[Value.tuple { toList:=[VS Yr,VU !Yr.toList==VO.toList]:Array Value }=v]:=by kernel_rfl
theorem sa (s:Int)(es:VQ)(cl:Nat)(seen:List Nat)(Yr best':ByteArray)(e f:bH)(j:Nat):reach rH 2 300 (wX s es cl seen Yr (mC e)) ([(0,.b true),(1,.ent (.v (.string e.1.p)) (fP e))]++ff (List.range 60) false) [(0,0),(1,1),(2,2)] [1] (rb best') 6 (k9 s es cl (seen++[e.2]))=[0=0,VS Yr=VS best',0=0,V1 IntKind.u64 s=V1 IntKind.u64 s,cl=cl,es=es,(es.all fun e=>aw e.fst&&aw e.snd.fst)=true,(match false with|true=>some 0|false=>List.lookup 1 [(1,1),(2,2)])=some 1,cl=cl,seen++[(mC e).snd.2]=seen++[e.2],cl=cl,false=false,(e.fst.3==0)=false,(e.fst.3==0)=false,(e.fst.3==0)=false,(e.fst.3==0)=false,(e.fst.3==0)=false,(e.fst.3==0)=false,(e.fst.3==0)=false,∃ Yz b,(seen++[(mC e).snd.snd]).getLast?=some Yz/\cl=cl/\List.find? (fun e=>e.snd.snd.beq Yz) es=some (SV.v (VS e.fst.p),fP e,b),true=true]:=by kernel_rfl
theorem sb (s:Int)(es:VQ)(cl:Nat)(seen:List Nat)(Yr best':ByteArray)(e f:bH)(j:Nat):reach rH 2 300 (wX s es cl seen Yr (mC e)) ([(0,.b true),(1,.ent (.v (.string e.1.p)) (fP e))]++ff (List.range 60) true) [(0,0),(1,1),(2,2)] [1] (rb best') 6 (k9 s es cl (seen++[e.2]))=[0=0,VS e.fst.1=VS best',0=0,V1 IntKind.u64 s=V1 IntKind.u64 s,cl=cl,es=es,(es.all fun e=>aw e.fst&&aw e.snd.fst)=true,(match false with|true=>some 0|false=>List.lookup 1 [(1,1),(2,2)])=some 1,cl=cl,seen++[(mC e).snd.2]=seen++[e.2],cl=cl,true=true,(e.fst.3==0)=true,true=true,(e.fst.3==0)=true,true=true,true=true,true=true,true=true,true=true,true=true,true=true,true=true,true=true,true=true,true=true,true=true,(e.fst.3==0)=true,(Yr.toList==VO.toList)=true,(e.fst.3==0)=true,(Yr.toList==VO.toList)=true,(Yr.toList==VO.toList)=true,(Yr.toList==VO.toList)=true,(Yr.toList==VO.toList)=true,(Yr.toList==VO.toList)=true,(Yr.toList==VO.toList)=true,(Yr.toList==VO.toList)=true,(Yr.toList==VO.toList)=true,(e.fst.3==0)=true,(e.fst.3==0)=true,(e.fst.3==0)=true,∃ Yz b,(seen++[(mC e).snd.snd]).getLast?=some Yz/\cl=cl/\List.find? (fun e=>e.snd.snd.beq Yz) es=some (SV.v (VS e.fst.p),fP e,b),true=true]:=by kernel_rfl
theorem sc (s:Int)(es:VQ)(cl:Nat)(seen:List Nat)(Yr best':ByteArray)(e f:bH)(j:Nat):reach rH 2 300 (wX s es cl seen Yr (mC e)) ([(0,.b true),(1,.ent (.v (.string e.1.p)) (fP e))]++ff [2,3,4] true++ff [5,6,7,8,9,10] false++[(11,.hit j (fP f) f.2)]++ff [12,13] false++ff [14] true++ff [15] false++ff (List.range 60) true) [(0,0),(1,1),(2,2)] [1] (rb best') 6 (k9 s es cl (seen++[e.2]))=[0=0,VS e.fst.1=VS best',0=0,V1 IntKind.u64 s=V1 IntKind.u64 s,cl=cl,es=es,(es.all fun e=>aw e.fst&&aw e.snd.fst)=true,(match false with|true=>some 0|false=>List.lookup 1 [(1,1),(2,2)])=some 1,cl=cl,seen++[(mC e).snd.2]=seen++[e.2],cl=cl,true=true,(e.fst.3==0)=true,decide (f.fst.2>e.fst.2)=true,(e.fst.3==0)=true,decide (f.fst.2>e.fst.2)=true,decide (f.fst.2>e.fst.2)=true,decide (f.fst.2>e.fst.2)=true,decide (f.fst.2>e.fst.2)=true,decide (f.fst.2>e.fst.2)=true,decide (f.fst.2>e.fst.2)=true,decide (f.fst.2>e.fst.2)=true,decide (f.fst.2>e.fst.2)=true,decide (f.fst.2>e.fst.2)=true,decide (f.fst.2>e.fst.2)=true,decide (f.fst.2>e.fst.2)=true,decide (f.fst.2>e.fst.2)=true,(e.fst.3==0)=true,(Yr.toList==VO.toList)=false,(e.fst.3==0)=true,(Yr.toList==VO.toList)=false,(Yr.toList==VO.toList)=false,(∀ (e:SV × SV × Nat),e∈List.take j es->a8 Yr e.fst)/\es[j]?=some (SV.v (VS Yr),VZ [SV.v (VS f.fst.1),SV.v (V1 IntKind.u64 f.fst.2),SV.v (vZ f.fst.3),SV.v (VT f.fst.4 f.fst.5 f.fst.6)],f.2),(Yr.toList==VO.toList)=false,(Yr.toList==VO.toList)=false,(Yr.toList==VO.toList)=false,(Yr.toList==VO.toList)=false,(Yr.toList==VO.toList)=false,(Yr.toList==VO.toList)=false,(e.fst.3==0)=true,(e.fst.3==0)=true,(e.fst.3==0)=true,∃ Yz b,(seen++[(mC e).snd.snd]).getLast?=some Yz/\cl=cl/\List.find? (fun e=>e.snd.snd.beq Yz) es=some (SV.v (VS e.fst.p),fP e,b),true=true]:=by kernel_rfl
theorem sd (s:Int)(es:VQ)(cl:Nat)(seen:List Nat)(Yr best':ByteArray)(e f:bH)(j:Nat):reach rH 2 300 (wX s es cl seen Yr (mC e)) ([(0,.b true),(1,.ent (.v (.string e.1.p)) (fP e))]++ff [2,3,4] true++ff [5,6,7,8,9,10] false++[(11,.hit j (fP f) f.2)]++ff [12,13] false++ff [14] true++ff [15] false++ff [16] true++ff [17,18,19,20,21,22] false++[(23,.hit j (fP f) f.2)]++ff [24,25,26,27,28] false++ff [34,37] false++ff (List.range 60) true) [(0,0),(1,1),(2,2)] [1] (rb best') 6 (k9 s es cl (seen++[e.2]))=[0=0,VS e.fst.1=VS best',0=0,V1 IntKind.u64 s=V1 IntKind.u64 s,cl=cl,es=es,(es.all fun e=>aw e.fst&&aw e.snd.fst)=true,(match false with|true=>some 0|false=>List.lookup 1 [(1,1),(2,2)])=some 1,cl=cl,seen++[(mC e).snd.2]=seen++[e.2],cl=cl,decide (dp e.fst.1 Yr<0)=true,(e.fst.3==0)=true,decide (f.fst.2>e.fst.2)=false,(e.fst.3==0)=true,(f.fst.2==e.fst.2)=true,decide (f.fst.2>e.fst.2)=false,(f.fst.2==e.fst.2)=true,e.fst.1.size<=1000000000/\Yr.size<=1000000000,(f.fst.2==e.fst.2)=true,(f.fst.2==e.fst.2)=true,(f.fst.2==e.fst.2)=true,decide (f.fst.2>e.fst.2)=false,decide (f.fst.2>e.fst.2)=false,decide (f.fst.2>e.fst.2)=false,decide (f.fst.2>e.fst.2)=false,decide (f.fst.2>e.fst.2)=false,(∀ (e:SV × SV × Nat),e∈List.take j es->a8 Yr e.fst)/\es[j]?=some (SV.v (VS Yr),VZ [SV.v (VS f.fst.1),SV.v (V1 IntKind.u64 f.fst.2),SV.v (vZ f.fst.3),SV.v (VT f.fst.4 f.fst.5 f.fst.6)],f.2),decide (f.fst.2>e.fst.2)=false,decide (f.fst.2>e.fst.2)=false,decide (f.fst.2>e.fst.2)=false,decide (f.fst.2>e.fst.2)=false,decide (f.fst.2>e.fst.2)=false,decide (f.fst.2>e.fst.2)=false,(e.fst.3==0)=true,(Yr.toList==VO.toList)=false,(e.fst.3==0)=true,(Yr.toList==VO.toList)=false,(Yr.toList==VO.toList)=false,(∀ (e:SV × SV × Nat),e∈List.take j es->a8 Yr e.fst)/\es[j]?=some (SV.v (VS Yr),VZ [SV.v (VS f.fst.1),SV.v (V1 IntKind.u64 f.fst.2),SV.v (vZ f.fst.3),SV.v (VT f.fst.4 f.fst.5 f.fst.6)],f.2),(Yr.toList==VO.toList)=false,(Yr.toList==VO.toList)=false,(Yr.toList==VO.toList)=false,(Yr.toList==VO.toList)=false,(Yr.toList==VO.toList)=false,(Yr.toList==VO.toList)=false,(e.fst.3==0)=true,(e.fst.3==0)=true,(e.fst.3==0)=true,∃ Yz b,(seen++[(mC e).snd.snd]).getLast?=some Yz/\cl=cl/\List.find? (fun e=>e.snd.snd.beq Yz) es=some (SV.v (VS e.fst.p),fP e,b),true=true]:=by kernel_rfl
theorem se (s:Int)(es:VQ)(cl:Nat)(seen:List Nat)(Yr best':ByteArray)(e f:bH)(j:Nat):reach rH 2 300 (wX s es cl seen Yr (mC e)) ([(0,.b true),(1,.ent (.v (.string e.1.p)) (fP e))]++ff [2,3,4] true++ff [5,6,7,8,9,10] false++[(11,.hit j (fP f) f.2)]++ff [12,13] false++ff [14] true++ff [15] false++ff [16] true++ff [17,18,19,20,21,22] false++[(23,.hit j (fP f) f.2)]++ff [24,25,26,27,28] false++ff [34,37,39] false++ff (List.range 60) true) [(0,0),(1,1),(2,2)] [1] (rb best') 6 (k9 s es cl (seen++[e.2]))=[0=0,VS Yr=VS best',0=0,V1 IntKind.u64 s=V1 IntKind.u64 s,cl=cl,es=es,(es.all fun e=>aw e.fst&&aw e.snd.fst)=true,(match false with|true=>some 0|false=>List.lookup 1 [(1,1),(2,2)])=some 1,cl=cl,seen++[(mC e).snd.2]=seen++[e.2],cl=cl,decide (dp e.fst.1 Yr<0)=false,(e.fst.3==0)=true,decide (f.fst.2>e.fst.2)=false,(e.fst.3==0)=true,(f.fst.2==e.fst.2)=true,decide (f.fst.2>e.fst.2)=false,(f.fst.2==e.fst.2)=true,e.fst.1.size<=1000000000/\Yr.size<=1000000000,(f.fst.2==e.fst.2)=true,(f.fst.2==e.fst.2)=true,(f.fst.2==e.fst.2)=true,decide (f.fst.2>e.fst.2)=false,decide (f.fst.2>e.fst.2)=false,decide (f.fst.2>e.fst.2)=false,decide (f.fst.2>e.fst.2)=false,decide (f.fst.2>e.fst.2)=false,(∀ (e:SV × SV × Nat),e∈List.take j es->a8 Yr e.fst)/\es[j]?=some (SV.v (VS Yr),VZ [SV.v (VS f.fst.1),SV.v (V1 IntKind.u64 f.fst.2),SV.v (vZ f.fst.3),SV.v (VT f.fst.4 f.fst.5 f.fst.6)],f.2),decide (f.fst.2>e.fst.2)=false,decide (f.fst.2>e.fst.2)=false,decide (f.fst.2>e.fst.2)=false,decide (f.fst.2>e.fst.2)=false,decide (f.fst.2>e.fst.2)=false,decide (f.fst.2>e.fst.2)=false,(e.fst.3==0)=true,(Yr.toList==VO.toList)=false,(e.fst.3==0)=true,(Yr.toList==VO.toList)=false,(Yr.toList==VO.toList)=false,(∀ (e:SV × SV × Nat),e∈List.take j es->a8 Yr e.fst)/\es[j]?=some (SV.v (VS Yr),VZ [SV.v (VS f.fst.1),SV.v (V1 IntKind.u64 f.fst.2),SV.v (vZ f.fst.3),SV.v (VT f.fst.4 f.fst.5 f.fst.6)],f.2),(Yr.toList==VO.toList)=false,(Yr.toList==VO.toList)=false,(Yr.toList==VO.toList)=false,(Yr.toList==VO.toList)=false,(Yr.toList==VO.toList)=false,(Yr.toList==VO.toList)=false,(e.fst.3==0)=true,(e.fst.3==0)=true,(e.fst.3==0)=true,∃ Yz b,(seen++[(mC e).snd.snd]).getLast?=some Yz/\cl=cl/\List.find? (fun e=>e.snd.snd.beq Yz) es=some (SV.v (VS e.fst.p),fP e,b),true=true]:=by kernel_rfl
theorem sf (s:Int)(es:VQ)(cl:Nat)(seen:List Nat)(Yr best':ByteArray)(e f:bH)(j:Nat):reach rH 2 300 (wX s es cl seen Yr (mC e)) ([(0,.b true),(1,.ent (.v (.string e.1.p)) (fP e))]++ff [2,3,4] true++ff [5,6,7,8,9,10] false++[(11,.hit j (fP f) f.2)]++ff [12,13] false++ff [14] true++ff [15] false++ff [16] true++ff [17,18,19,20,21,22] false++[(23,.hit j (fP f) f.2)]++ff [24,25,26,27,28] false++ff [35,37] true++ff (List.range 60) false) [(0,0),(1,1),(2,2)] [1] (rb best') 6 (k9 s es cl (seen++[e.2]))=[0=0,VS Yr=VS best',0=0,V1 IntKind.u64 s=V1 IntKind.u64 s,cl=cl,es=es,(es.all fun e=>aw e.fst&&aw e.snd.fst)=true,(match false with|true=>some 0|false=>List.lookup 1 [(1,1),(2,2)])=some 1,cl=cl,seen++[(mC e).snd.2]=seen++[e.2],cl=cl,false=false,(e.fst.3==0)=true,decide (f.fst.2>e.fst.2)=false,(e.fst.3==0)=true,(f.fst.2==e.fst.2)=false,decide (f.fst.2>e.fst.2)=false,(f.fst.2==e.fst.2)=false,(f.fst.2==e.fst.2)=false,(f.fst.2==e.fst.2)=false,(f.fst.2==e.fst.2)=false,decide (f.fst.2>e.fst.2)=false,decide (f.fst.2>e.fst.2)=false,decide (f.fst.2>e.fst.2)=false,decide (f.fst.2>e.fst.2)=false,decide (f.fst.2>e.fst.2)=false,(∀ (e:SV × SV × Nat),e∈List.take j es->a8 Yr e.fst)/\es[j]?=some (SV.v (VS Yr),VZ [SV.v (VS f.fst.1),SV.v (V1 IntKind.u64 f.fst.2),SV.v (vZ f.fst.3),SV.v (VT f.fst.4 f.fst.5 f.fst.6)],f.2),decide (f.fst.2>e.fst.2)=false,decide (f.fst.2>e.fst.2)=false,decide (f.fst.2>e.fst.2)=false,decide (f.fst.2>e.fst.2)=false,decide (f.fst.2>e.fst.2)=false,decide (f.fst.2>e.fst.2)=false,(e.fst.3==0)=true,(Yr.toList==VO.toList)=false,(e.fst.3==0)=true,(Yr.toList==VO.toList)=false,(Yr.toList==VO.toList)=false,(∀ (e:SV × SV × Nat),e∈List.take j es->a8 Yr e.fst)/\es[j]?=some (SV.v (VS Yr),VZ [SV.v (VS f.fst.1),SV.v (V1 IntKind.u64 f.fst.2),SV.v (vZ f.fst.3),SV.v (VT f.fst.4 f.fst.5 f.fst.6)],f.2),(Yr.toList==VO.toList)=false,(Yr.toList==VO.toList)=false,(Yr.toList==VO.toList)=false,(Yr.toList==VO.toList)=false,(Yr.toList==VO.toList)=false,(Yr.toList==VO.toList)=false,(e.fst.3==0)=true,(e.fst.3==0)=true,(e.fst.3==0)=true,∃ Yz b,(seen++[(mC e).snd.snd]).getLast?=some Yz/\cl=cl/\List.find? (fun e=>e.snd.snd.beq Yz) es=some (SV.v (VS e.fst.p),fP e,b),true=true]:=by kernel_rfl
theorem zC:∀ x y:List UInt8,eX y x=- eX x y
 | [],[]=>rfl
 | [],_::_=>rfl
 | _::_,[]=>rfl
 | a::l,b::m=>by
  unfold eX
  by_cases h1:a<b
  ·rw[if_pos h1,if_neg (LN h1),if_pos h1];rfl
  ·by_cases h2:b<a
   ·rw[if_pos h2,if_neg h1,if_pos h2]
   ·rw[if_neg h1,if_neg h2,if_neg h2,if_neg h1];exact zC l m
theorem tM:∀ {x y z:List UInt8},eX x y<0->eX y z<=0->eX x z<0
 | [],[],_,h,_=>by simp[eX]at h
 | [],_::_,[],_,k=>by simp[eX]at k
 | [],_::_,_::_,_,_=>by simp[eX]
 | _::_,[],_,h,_=>by simp[eX]at h
 | _::_,_::_,[],_,k=>by simp[eX]at k
 | a::l,b::m,c::n,h,k=>by
  unfold eX at h k ⊢
  by_cases h1:a<b
  ·by_cases k1:b<c
   ·have:a<c:=by rw[X8]at *;omega
    rw[if_pos this];decide
   ·by_cases k2:c<b
    ·rw[if_neg k1,if_pos k2]at k;exact absurd k (by decide)
    ·obtain rfl:=wO k1 k2
     rw[if_pos h1];decide
  ·by_cases h2:b<a
   ·rw[if_neg h1,if_pos h2]at h;exact absurd h (by decide)
   ·obtain rfl:=wO h1 h2
    rw[if_neg h1,if_neg h2]at h
    by_cases k1:a<c
    ·rw[if_pos k1];decide
    ·by_cases k2:c<a
     ·rw[if_neg k1,if_pos k2]at k;exact absurd k (by decide)
     ·rw[if_neg k1,if_neg k2]at k ⊢
      exact tM h k
theorem B8:∀ x y:List (List UInt8),pr y x=- pr x y
 | [],[]=>rfl
 | [],_::_=>rfl
 | _::_,[]=>rfl
 | a::l,b::m=>by
  unfold pr
  rw[zC a b]
  by_cases h:eX a b=0
  ·rw[if_pos h,if_pos (by omega)];exact B8 l m
  ·rw[if_neg h,if_neg (by omega)]
theorem Fm:∀ {x y:List (List UInt8)},pr x y=0->x=y
 | [],[],_=>rfl
 | [],_::_,h=>by simp[pr]at h
 | _::_,[],h=>by simp[pr]at h
 | a::l,b::m,h=>by
  unfold pr at h
  by_cases h1:eX a b=0
  ·rw[if_pos h1]at h;rw[pC h1,Fm h]
  ·rw[if_neg h1]at h;exact absurd h h1
theorem wb:∀ {x y z:List (List UInt8)},pr x y<0->pr y z<0->pr x z<0
 | [],[],_,h,_=>by simp[pr]at h
 | [],_::_,[],_,k=>by simp[pr]at k
 | [],_::_,_::_,_,_=>by simp[pr]
 | _::_,[],_,h,_=>by simp[pr]at h
 | _::_,_::_,[],_,k=>by simp[pr]at k
 | a::l,b::m,c::n,h,k=>by
  unfold pr at h k ⊢
  by_cases h1:eX a b=0
  ·rw[if_pos h1]at h
   obtain rfl:=pC h1
   by_cases k1:eX a c=0
   ·rw[if_pos k1]at k ⊢;exact wb h k
   ·rw[if_neg k1]at k ⊢;exact k
  ·rw[if_neg h1]at h
   by_cases k1:eX b c=0
   ·obtain rfl:=pC k1
    rw[if_neg h1];exact h
   ·rw[if_neg k1]at k
    have:=tM h (Int.le_of_lt k)
    rw[if_neg (by omega)];exact this
theorem rL (a b:ByteArray):dp a b=pr (aq a.data.toList) (aq b.data.toList):=(xu (a.size+1) a b (by omega)).symm
theorem fy (a b:ByteArray):dp b a=- dp a b:=by rw[rL,rL,B8]
theorem h8 {a b c:ByteArray}(h:dp a b<0)(k:dp b c<0):dp a c<0:=by
 rw[rL]at *;exact wb h k
def oF (f e:bH):Prop:=e.1.v>f.1.v\/(e.1.v=f.1.v/\dp f.1.p e.1.p<0)
theorem qU {f x e:bH}(h:oF f x)(k:oF x e):oF f e:=by
 rcases h with h|⟨h1,h2⟩
 ·rcases k with k|⟨k1,k2⟩
  ·exact .inl (by omega)
  ·exact .inl (by omega)
 ·rcases k with k|⟨k1,k2⟩
  ·exact .inl (by omega)
  ·exact .inr ⟨by omega,h8 h2 k2⟩
structure c8 (E:List bH)(cl:Nat):Prop where
 names:(E.map fun e=>e.1.p).Nodup
 Zi:(E.map fun e=>e.2).Nodup
 born:∀ e∈E,e.2<cl
 full:∀ e∈E,e.1.p≠⟨#[]⟩
 size:∀ e∈E,e.1.p.size<=1000000000
def sX (E:List bH)(seen:List Nat)(Yr:ByteArray):Prop:=
 (Yr=⟨#[]⟩/\∀ x∈E,x.2∈seen->x.1.k≠0)\/(∃ x∈E,x.1.p=Yr/\x.1.k=0/\x.2∈seen/\∀ y∈E,y.2∈seen->y.1.k=0->¬ oF y x)
theorem H4 {M:Own}{w0:World}(hM:∀ b,¬ M b)(h:MX w0):aK rH M w0:=kM (X:=MX) (fun r hr=>by
 rw[Wl.1 hr];exact Lp) fun ν s w hr _=>h.keep fun k hk=>hr.frame k hk (hM k)
theorem ib {α β:Type}{f:α->β}{l:List α}(h:(l.map f).Nodup){i j:Nat}{a b:α}(ha:l[i]?=some a)(hb:l[j]?=some b)(e:f a=f b):i=j:=by
 obtain⟨hi,rfl⟩:=WB.1 ha;obtain⟨hj,rfl⟩:=WB.1 hb;refine (Yq (h₀:=by simpa using hi) (h₁:=by simpa using hj) h).1 ?_;simpa using e
theorem find_born {E:List bH}(hb:(E.map fun e=>e.2).Nodup){x:bH}(hx:x∈E):(E.map mC).find? (fun e=>Nat.beq e.2.2 x.2)=some (mC x):=by
 induction E with
 | nil=>cases hx
 | cons y E ih=>
  rw[WC,X2];rw[WC,W3]at hb;by_cases h:y.2=x.2
  ·have hq:Nat.beq (mC y).2.2 x.2=true:=by show Nat.beq y.2 x.2=true;rw[h];simp
   rw[hq];rcases V8.1 hx with rfl|hx
   ·rfl
   ·exact absurd (Wb.2 ⟨x,hx,h.symm⟩) hb.1
  ·have hq:Nat.beq (mC y).2.2 x.2=false:=by
    show Nat.beq y.2 x.2=false;rw[XA];intro e;exact h (WM e)
   rw[hq];rcases V8.1 hx with rfl|hx
   ·exact absurd rfl h
   ·exact ih hb.2 hx
theorem Hb {E:List bH}(hn:(E.map fun e=>e.1.p).Nodup){f:bH}(hf:f∈E):∃ j,Eg (E.map mC) f.1.p j (fP f) f.2:=by
 obtain⟨j,hj⟩:=WZ hf;refine⟨j,fun e he=>?_,by rw[Wv,hj];rfl⟩;rw[<- List.map_take]at he;obtain⟨y,hy,rfl⟩:=Wb.1 he;refine⟨y.1.p,rfl,?_⟩;rw[XA];intro h;obtain⟨i,hi⟩:=WZ hy
 have YD:i<j:=by
  have:=(WB.1 hi).1;rw[WX]at this;omega
 rw[WN,if_pos YD]at hi
 have Z0:f.1.p=y.1.p:=by
  have:(f.1.p.data==y.1.p.data)=true:=h;have:=Yo this;cases hfp:f.1.p;cases hyp:y.1.p;rw[hfp,hyp]at this;cases this;rfl
 have:=ib hn hi hj Z0.symm;omega
theorem eY (E:List bH):((E.map mC).all fun e=>aw e.1&&aw e.2.1)=true:=by
 rw[Wn];intro x hx;obtain⟨y,_,rfl⟩:=Wb.1 hx;rfl
def ix (E:List bH)(Yr:ByteArray):Prop:=
 (Yr=⟨#[]⟩/\∀ x∈E,x.1.k≠0)\/(∃ x∈E,x.1.p=Yr/\x.1.k=0/\∀ y∈E,y.1.k=0->¬ oF y x)
def Cq (Yr:ByteArray):Value:=.tuple #[.string Yr,.bool (!Yr.toList==(⟨#[]⟩:ByteArray).toList)]
theorem toList_inj {a b:ByteArray}(h:(a.toList==b.toList)=true):a=b:=by
 rw[jB,jB]at h;have:=Yo h;cases a;cases b;congr 1;exact Array.toList_inj.1 this
theorem ve {a b:ByteArray}(h:a≠b):(a.toList==b.toList)=false:=by
 cases e:(a.toList==b.toList)
 ·rfl
 ·exact absurd (toList_inj e) h
theorem gV {l:List Nat}{x:Nat}:(l++[x]).getLast?=some x:=by simp
section
variable {w0:World}{cs0:List Frame}{R:Ending->World->Prop}{E:List bH}{s:Int}{cl:Nat}{M:Own}
theorem FO {E:List bH}{seen:List Nat}{e:bH}{n:Nat}(he:e∈E)(hs:seen.contains e.2=false)(h:(E.filter fun x=>!seen.contains x.2).length<=n+1):(E.filter fun x=>!(seen++[e.2]).contains x.2).length<=n:=by
 have YD:(E.filter fun x=>!(seen++[e.2]).contains x.2).length<(E.filter fun x=>!seen.contains x.2).length:=by
  have h1:(E.filter fun x=>!(seen++[e.2]).contains x.2)=(E.filter fun x=>!seen.contains x.2).filter fun x=>!(x.2==e.2):=by
   rw[List.filter_filter];congr 1;funext x;cases h1:(x.2==e.2)<;>cases h2:seen.contains x.2<;>simp_all
  rw[h1];refine Xu.2 ⟨e,Wo.2 ⟨he,by show (!seen.contains e.2)=true;rw[hs];rfl⟩,by simp⟩
 omega
theorem HA (hw:MX w0)(hM:∀ z,¬ M z)(hB:c8 E cl)(hR:∀ Yr w',Below w0.heap.size w0 w'->ix E Yr->R (.returned (Cq Yr)) w'){seen:List Nat}{Yr:ByteArray}{ν:aP}(hb:sX E seen Yr)
  (Ψ:∀ x∈E,seen.contains x.2=false->af rH M w0 cs0 61 R ν (wX s (E.map mC) cl seen Yr (mC x))):
  af rH M w0 cs0 61 R ν (SM.at (rb Yr) 6 (k9 s (E.map mC) cl seen)):=by
 refine af.go (H4 hM hw) (eN s (E.map mC) cl seen Yr) (by unfold SH.ob;rw[La];trivial) ?_;refine af.next (H4 hM hw) (Oc s (E.map mC) cl seen Yr) ?_ (fun e he hs=>?_) fun YM=>?_
 ·cases he:(!seen.isEmpty&&!(E.map mC).isEmpty&&(E.map mC).all fun e=>Nat.ble cl e.2.2)
  ·rfl
  ·rw[V6,V6,Wn]at he;obtain⟨⟨_,h2⟩,h3⟩:=he;cases hE:E with
   | nil=>rw[hE]at h2;cases h2
   | cons x E'=>
    have hx:x∈E:=by rw[hE];exact Wj
    have h4:=Wu (h3 (mC x) (Wb.2 ⟨x,hx,rfl⟩));have h5:=hB.born x hx;have h4':cl<=x.2:=h4;omega
 ·obtain⟨x,hx,rfl⟩:=Wb.1 he;exact⟨_,Nj s (E.map mC) cl seen Yr (mC x),by unfold SH.ob;rw[N9];trivial,Ψ x hx hs⟩
 ·refine⟨_,Nk s (E.map mC) cl seen Yr,by unfold SH.ob;rw[Oo];trivial,?_⟩;refine cg (H4 hM hw) hM (n:=60) (o:=VP) (v:=Cq Yr) ⟨?_⟩ fun w' Yy=>hR Yr w' Yy ?_
  ·rw[Q8 (e:=(⟨⟨#[]⟩,0,0,none,0,0⟩,0))];exact⟨trivial,rfl⟩
  ·have hs:∀ x∈E,x.2∈seen:=fun x hx=>by
    cases hc:seen.contains x.2
    ·have h1:=YM (mC x) (Wb.2 ⟨x,hx,rfl⟩) hc;have h2:Nat.blt x.2 cl=false:=h1;have h3:=hB.born x hx;have h4:Nat.blt x.2 cl=true:=by simp[Nat.blt_eq];omega
     rw[h4]at h2;cases h2
    ·exact W6.1 hc
   rcases hb with ⟨h1,h2⟩|⟨x,hx,h1,h2,h3,h4⟩
   ·exact .inl ⟨h1,fun x hx=>h2 x hx (hs x hx)⟩
   ·exact .inr ⟨x,hx,h1,h2,fun y hy=>h4 y hy (hs y hy)⟩
theorem K3 (hw:MX w0)(hM:∀ z,¬ M z)(hB:c8 E cl)(hR:∀ Yr w',Below w0.heap.size w0 w'->ix E Yr->R (.returned (Cq Yr)) w'):∀ (n:Nat) (seen:List Nat) (Yr:ByteArray) (ν:aP),(∀ i b,ν i=some b->([(0,0),(1,1),(2,2)]:List (Nat × Nat)).lookup i=some i)->(E.filter fun x=>!seen.contains x.2).length<=n->sX E seen Yr->
  af rH M w0 cs0 61 R ν (SM.at (rb Yr) 6 (k9 s (E.map mC) cl seen)):=by
 intro n;induction n with
 | zero=>
  intro seen Yr ν hν hn hb;refine HA hw hM hB hR hb fun x hx hs=>?_;have:x∈E.filter fun x=>!seen.contains x.2:=Wo.2 ⟨hx,by show (!seen.contains x.2)=true;rw[hs];rfl⟩;rw[Wd.1 (Nat.le_zero.1 hn)]at this;cases this
 | succ n ih=>
  intro seen Yr ν hν hn hb;refine HA hw hM hB hR hb fun x hx hs=>?_;have hn2:=FO hx hs hn;have hfb:=find_born hB.Zi hx;have hfx:∃ (Yz:Nat) (b:Nat),(seen++[(mC x).snd.snd]).getLast?=some Yz/\List.find? (fun e=>e.snd.snd.beq Yz) (E.map mC)=some (SV.v (Value.string x.fst.p),fP x,b):=⟨x.2,x.2,gV,hfb⟩;have YJ:=eY E;have Y2:∀ y,y∈seen++[x.2]↔y∈seen\/y=x.2:=fun y=>by simp
  have Z6:x.2∈seen++[x.2]:=by simp
  have Ys:∀ y∈E,y.2=x.2->y=x:=fun y hy h=>by
   obtain⟨i,hi⟩:=WZ hy;obtain⟨j,hj⟩:=WZ hx;have:=ib hB.Zi hi hj h;subst this;rw[hi]at hj;exact Option.some.inj hj
  by_cases hk:x.1.k=0
  ·have hk':(x.fst.3==(0:Int))=true:=by rw[Xn];exact hk
   have mine:(∀ y∈E,y.2∈seen->y.1.k=0->¬ oF y x)->sX E (seen++[x.2]) x.1.p:=fun h=>.inr ⟨x,hx,rfl,hk,Z6,fun y hy hy2 hy3=>by
    rcases (Y2 _).1 hy2 with h1|h1
    ·exact h y hy h1 hy3
    ·rw[Ys y hy h1];rintro (h|⟨_,h⟩)
     ·omega
     ·have:=fy x.1.p x.1.p;omega⟩
   rcases hb with ⟨rfl,hb⟩|⟨f,hf,rfl,hf0,hfs,hfb2⟩
   ·have nx:=ih (seen++[x.2]) x.1.p ν hν hn2 (mine fun y hy hy2 hy3=>absurd hy3 (hb y hy hy2));refine af.reach (H4 hM hw) (k:=2) (n:=300) (o:=([(0,.b true),(1,.ent (.v (.string x.1.p)) (fP x))]++ff (List.range 60) true)) (ren:=[(0,0),(1,1),(2,2)]) (eqs:=[1]) ?_ (by kernel_rfl) hν nx;rw[sb (f:=x) (j:=0)];have hrr:((⟨#[]⟩:ByteArray).toList==(⟨{ toList:=[] }⟩:ByteArray).toList)=true:=by rw[Xn]
    simp only[ah,hk',hrr,YJ,VV,VX,VW];repeat' apply And.intro
    all_goals first|rfl|exact hfx
   ·obtain⟨j,hj⟩:=Hb hB.names hf;have he0:=ve (hB.full f hf);have z1:=hB.size x hx;have z2:=hB.size f hf;have still:sX E seen f.1.p:=.inr ⟨f,hf,rfl,hf0,hfs,hfb2⟩
    have his:(∀ y∈E,y.2=x.2->¬ oF y f)->sX E (seen++[x.2]) f.1.p:=fun h=>.inr ⟨f,hf,rfl,hf0,(Y2 _).2 (.inl hfs),fun y hy hy2 hy3=>by
     rcases (Y2 _).1 hy2 with h1|h1
     ·exact hfb2 y hy h1 hy3
     ·exact h y hy h1⟩
    have he0':(f.fst.1.toList==({ data:={ toList:=[] } }:ByteArray).toList)=false:=he0;by_cases h1:f.1.v>x.1.v
    ·have t1:decide (f.fst.2>x.fst.2)=true:=V0 h1;have nx:=ih (seen++[x.2]) x.1.p ν hν hn2 (mine fun y hy hy2 hy3 h=>hfb2 y hy hy2 hy3 (qU h (.inl h1)));refine af.reach (H4 hM hw) (k:=2) (n:=300) (o:=([(0,.b true),(1,.ent (.v (.string x.1.p)) (fP x))]++ff [2,3,4] true++ff [5,6,7,8,9,10] false++[(11,.hit j (fP f) f.2)]++ff [12,13] false++ff [14] true++ff [15] false++ff (List.range 60) true)) (ren:=[(0,0),(1,1),(2,2)]) (eqs:=[1]) ?_ (by kernel_rfl) hν nx;rw[sc];simp only[ah,hk',YJ,he0',t1,VV,VX,VW];repeat' apply And.intro
     all_goals first|rfl|exact hfx|exact hj.1|exact hj.2|assumption
    ·have t1:decide (f.fst.2>x.fst.2)=false:=V2 h1;by_cases h2:f.1.v=x.1.v
     ·have t2:(f.fst.2==x.fst.2)=true:=by rw[Xn];exact h2
      by_cases h3:dp x.1.p f.1.p<0
      ·have t3:decide (dp x.fst.1 f.fst.1<(0:Int))=true:=V0 h3;have nx:=ih (seen++[x.2]) x.1.p ν hν hn2 (mine fun y hy hy2 hy3 h=>hfb2 y hy hy2 hy3 (qU h (.inr ⟨h2,h3⟩)));refine af.reach (H4 hM hw) (k:=2) (n:=300) (o:=([(0,.b true),(1,.ent (.v (.string x.1.p)) (fP x))]++ff [2,3,4] true++ff [5,6,7,8,9,10] false++[(11,.hit j (fP f) f.2)]++ff [12,13] false++ff [14] true++ff [15] false++ff [16] true++ff [17,18,19,20,21,22] false++[(23,.hit j (fP f) f.2)]++ff [24,25,26,27,28] false++ff [34,37] false++ff (List.range 60) true)) (ren:=[(0,0),(1,1),(2,2)]) (eqs:=[1]) ?_ (by kernel_rfl) hν nx;rw[sd];simp only[ah,hk',YJ,he0',t1,t2,t3,VV,VX,VW];repeat' apply And.intro
       all_goals first|rfl|exact hfx|exact hj.1|exact hj.2|assumption
      ·have t3:decide (dp x.fst.1 f.fst.1<(0:Int))=false:=V2 h3
       have nx:=ih (seen++[x.2]) f.1.p ν hν hn2 (his fun y hy h4=>by
        rw[Ys y hy h4];rintro (h|⟨_,h⟩)
        ·exact h1 h
        ·exact h3 h)
       refine af.reach (H4 hM hw) (k:=2) (n:=300) (o:=([(0,.b true),(1,.ent (.v (.string x.1.p)) (fP x))]++ff [2,3,4] true++ff [5,6,7,8,9,10] false++[(11,.hit j (fP f) f.2)]++ff [12,13] false++ff [14] true++ff [15] false++ff [16] true++ff [17,18,19,20,21,22] false++[(23,.hit j (fP f) f.2)]++ff [24,25,26,27,28] false++ff [34,37,39] false++ff (List.range 60) true)) (ren:=[(0,0),(1,1),(2,2)]) (eqs:=[1]) ?_ (by kernel_rfl) hν nx;rw[se];simp only[ah,hk',YJ,he0',t1,t2,t3,VV,VX,VW];repeat' apply And.intro
       all_goals first|rfl|exact hfx|exact hj.1|exact hj.2|assumption
     ·have t2:(f.fst.2==x.fst.2)=false:=by rw[Wr];exact h2
      have nx:=ih (seen++[x.2]) f.1.p ν hν hn2 (his fun y hy h4=>by
       rw[Ys y hy h4];rintro (h|⟨h,_⟩)
       ·exact h1 h
       ·exact h2 h)
      refine af.reach (H4 hM hw) (k:=2) (n:=300) (o:=([(0,.b true),(1,.ent (.v (.string x.1.p)) (fP x))]++ff [2,3,4] true++ff [5,6,7,8,9,10] false++[(11,.hit j (fP f) f.2)]++ff [12,13] false++ff [14] true++ff [15] false++ff [16] true++ff [17,18,19,20,21,22] false++[(23,.hit j (fP f) f.2)]++ff [24,25,26,27,28] false++ff [35,37] true++ff (List.range 60) false)) (ren:=[(0,0),(1,1),(2,2)]) (eqs:=[1]) ?_ (by kernel_rfl) hν nx;rw[sf];simp only[ah,hk',YJ,he0',t1,t2,VV,VX,VW];repeat' apply And.intro
      all_goals first|rfl|exact hfx|exact hj.1|exact hj.2|assumption
  ·have hk':(x.fst.3==(0:Int))=false:=by rw[Wr];exact hk
   have nx:=ih (seen++[x.2]) Yr ν hν hn2 (by
    rcases hb with ⟨h1,h2⟩|⟨y,hy,h1,h2,h3,h4⟩
    ·refine .inl ⟨h1,fun y hy hy2=>?_⟩;rcases (Y2 _).1 hy2 with h|h
     ·exact h2 y hy h
     ·rw[Ys y hy h];exact hk
    ·refine .inr ⟨y,hy,h1,h2,(Y2 _).2 (.inl h3),fun z hz hz2 hz3=>?_⟩;rcases (Y2 _).1 hz2 with h|h
     ·exact h4 z hz h hz3
     ·rw[Ys z hz h]at hz3;exact absurd hz3 hk)
   refine af.reach (H4 hM hw) (k:=2) (n:=300) (o:=([(0,.b true),(1,.ent (.v (.string x.1.p)) (fP x))]++ff (List.range 60) false)) (ren:=[(0,0),(1,1),(2,2)]) (eqs:=[1]) ?_ (by kernel_rfl) hν nx;rw[sa (f:=x) (j:=0)];simp only[ah,hk',YJ,VV,VX,VW];repeat' apply And.intro
   all_goals first|rfl|exact hfx
end
theorem nC:∀ {l m:List UInt8},aq l=aq m->l=m
 | [],[],_=>rfl
 | [],b::m,h=>by
  exfalso
  unfold aq at h
  split at h
  ·have:=cY m
   cases hp:aq m with
   | nil=>exact this hp
   | cons x xs=>rw[hp]at h;simp at h
  ·split at h<;>simp at h
 | b::l,[],h=>by
  exfalso
  unfold aq at h
  split at h
  ·have:=cY l
   cases hp:aq l with
   | nil=>exact this hp
   | cons x xs=>rw[hp]at h;simp at h
  ·split at h<;>simp at h
 | b::l,c::m,h=>by
  have nl:=cY l
  have nm:=cY m
  unfold aq at h
  by_cases hb:b=47
  ·by_cases hc:c=47
   ·rw[if_pos hb,if_pos hc]at h
    rw[hb,hc,nC (List.cons.inj h).2]
   ·rw[if_pos hb,if_neg hc]at h
    cases hp:aq m with
    | nil=>exact absurd hp nm
    | cons x xs=>rw[hp]at h;simp at h
  ·by_cases hc:c=47
   ·rw[if_neg hb,if_pos hc]at h
    cases hp:aq l with
    | nil=>exact absurd hp nl
    | cons x xs=>rw[hp]at h;simp at h
   ·rw[if_neg hb,if_neg hc]at h
    cases hp:aq l with
    | nil=>exact absurd hp nl
    | cons x xs=>
     cases hq:aq m with
     | nil=>exact absurd hq nm
     | cons y ys=>
      rw[hp,hq]at h
      simp only[List.cons.injEq]at h
      obtain⟨⟨h1,h2⟩,h3⟩:=h
      rw[h1,nC (l:=l) (m:=m) (by rw[hp,hq,h2,h3])]
theorem h9 {a b:ByteArray}(h:dp a b=0):a=b:=by
 rw[rL]at h;have:=nC (Fm h);cases a;cases b;congr 1;exact Array.toList_inj.1 this
theorem GX {x y:bH}(h:mC x=mC y):x=y:=by
 obtain⟨⟨p,v,k,a,l,c⟩,n⟩:=x;obtain⟨⟨p',v',k',a',l',c'⟩,n'⟩:=y;simp only[mC,Prod.mk.injEq,SV.v.injEq,Value.string.injEq,SV.agg.injEq,List.cons.injEq,Value.int.injEq,Value.slice.injEq,VW,VX]at h;obtain⟨h1,⟨_,h2,h3,h4,h5,h6⟩,h7⟩:=h;subst h1 h2 h3 h4 h5 h6 h7;rfl
theorem map_inj:∀ {E E':List bH},E.map mC=E'.map mC->E=E'
 | [],[],_=>rfl
 | [],_::_,h=>by simp at h
 | _::_,[],h=>by simp at h
 | x::E,y::E',h=>by
  rw[WC,WC,List.cons.injEq]at h
  rw[GX h.1,map_inj h.2]
theorem Ht {E:List bH}{cl:Nat}(hB:c8 E cl){a b:ByteArray}(ha:ix E a)(hb:ix E b):a=b:=by
 rcases ha with ⟨rfl,h1⟩|⟨x,hx,rfl,hx0,h1⟩
 ·rcases hb with ⟨rfl,_⟩|⟨y,hy,rfl,ζ,_⟩
  ·rfl
  ·exact absurd ζ (h1 y hy)
 ·rcases hb with ⟨rfl,h2⟩|⟨y,hy,rfl,ζ,h2⟩
  ·exact absurd hx0 (h2 x hx)
  ·have n1:=h1 y hy ζ;have n2:=h2 x hx hx0;unfold oF at n1 n2;have hn:=fy x.1.p y.1.p
   have hv:x.1.v=y.1.v:=by
    rcases Int.lt_trichotomy x.1.v y.1.v with h|h|h
    ·exact absurd (.inl h) n2
    ·exact h
    ·exact absurd (.inl h) n1
   refine h9 ?_;have m1:¬ dp y.1.p x.1.p<0:=fun h=>n1 (.inr ⟨hv,h⟩);have m2:¬ dp x.1.p y.1.p<0:=fun h=>n2 (.inr ⟨hv.symm,h⟩);omega
def jC (es:VQ):ByteArray:=@Classical.epsilon _ ⟨⟨#[]⟩⟩ fun Yr=>∃ E,es=E.map mC/\ix E Yr
theorem sv {E:List bH}{cl:Nat}(hB:c8 E cl){Yr:ByteArray}(h:ix E Yr):jC (E.map mC)=Yr:=by
 have:=Classical.epsilon_spec (p:=fun Yr=>∃ E',E.map mC=E'.map mC/\ix E' Yr) ⟨Yr,E,rfl,h⟩;obtain⟨E',h1,h2⟩:=this;rw[<- map_inj h1]at h2;exact Ht hB h2 h
def uc (es:VQ)(cl:Nat):Prop:=∃ E:List bH,es=E.map mC/\c8 E cl
def Am:yC:=fun args sh=>match args with
 | [.ptr i 0]=>match sh.look i with
  | some (.row [.v (.int .u64 s),.map m] t (0,0) none,_)=>match sh.look m with
   | some (.map es cl,_)=>some (.tuple #[.string (jC es),.bool (!(jC es).toList==(⟨#[]⟩:ByteArray).toList)],t=66/\uc es cl)
   | _=>none
  | _=>none
 | _=>none
theorem A7 {ν ν':aP}{i j:Nat}{E:List bH}{cl:Nat}{ob:Obj}(h:OR ν i (.map (E.map mC) cl) ob):OR ν' j (.map (E.map mC) cl) ob:=by
 obtain⟨l,rfl,hl⟩:=h;exact⟨l,rfl,lz (eY E) hl⟩
theorem Hm:bh Tryz.prog MX (61,de Am):=by
 refine dO ⟨_,Tryz.func61,by kernel_rfl,by kernel_rfl⟩ fun args sh v p h hp ν M w0 w a hr hX ha=>?_;dsimp only[Am]at h;split at h
 ·rename_i i;split at h
  ·rename_i s m t mk hl;split at h
   ·rename_i es cl mk2 hm;cases h;obtain⟨rfl,E,rfl,hB⟩:=hp;obtain⟨y1,ZK,rfl,q1,YH⟩:=ha.cons_inv;obtain rfl:=YH.ay;obtain⟨b,hb,rfl⟩:=VR.aF.1 q1;obtain⟨hi,hgi,b',ob,Yy,ho,YA,_⟩:=hr.look hl;rw[hb]at Yy;cases Yy;obtain⟨hi2,hgi2,b2,Z8,YW,ho2,hor2,_⟩:=hr.look hm
    have him:i≠m:=by
     rintro rfl
     rw[hl]at hm;cases hm
    have Yu:b.1≠b2.1:=fun e=>him (hr.inj i m hi hi2 (by rw[hgi];simp) (by rw[hgi2];simp) b b2 hb YW e);refine (aW (E:=rH) (R:=fun e w'=>Below w.heap.size w w'/\∃ Yr,e=.returned (Cq Yr)/\ix E Yr) rfl (d:=6) (l:=[b,b2]) (os:=[.row [.v (.int .u64 s),.map 1] 66 (0,0) none,.map (E.map mC) cl]) rfl (by simp) (by simpa using Yu) ?_ rfl (args:=[.ptr 0 0]) (S0:=Hs s (E.map mC) cl) (by kernel_rfl) (au.cons (VR.aF.2 ⟨b,rfl,rfl⟩) au.nil) fun cs0=>?_).mono fun e w' ⟨h1,Yr,h2,h3⟩=>⟨h1,by rw[h2,sv hB h3];rfl⟩
    ·intro j o' b' c' h1 h2;match j with
     | 0=>
      simp only[Wa,Option.some.injEq]at h1 h2;subst h1;subst h2;refine⟨_,ho,?_⟩;obtain⟨ys,rest,rfl,ZQ,hx⟩:=YA;obtain⟨z1,u,rfl,r1,hu⟩:=ZQ.cons_inv;obtain⟨z2,u2,rfl,r2,Ξ⟩:=hu.cons_inv;obtain rfl:=Ξ.ay;obtain rfl:=VR.ae.1 r1;obtain⟨b3,hb3,rfl⟩:=VR.cQ.1 r2;rw[YW]at hb3;cases hb3;exact⟨_,rest,rfl,au.cons (VR.ae.2 rfl) (au.cons (VR.cQ.2 ⟨b2,rfl,rfl⟩) au.nil),hx⟩
     | 1=>
      simp only[WU,Wa,Option.some.injEq]at h1 h2;subst h1;subst h2;exact⟨_,ho2,A7 hor2⟩
     | j+2=>simp at h1
    ·have hM:∀ z,¬ (aD [b,b2] ([SO.row [.v (.int .u64 s),.map 1] 66 (0,0) none,.map (E.map mC) cl].map fun o=>(o,false))) z:=fun z=>aZ
     have hν:∀ i c,aA [b,b2] i=some c->([(0,0),(1,1),(2,2)]:List (Nat × Nat)).lookup i=some i:=by
      intro i c h;match i with
      | 0=>rfl
      | 1=>rfl
      | i+2=>simp[aA]at h
     refine af.reach (H4 hM hX) (k:=2) (n:=60) (o:=VP) (ren:=[(0,0),(1,1),(2,2)]) (eqs:=[1]) (F:=rb ⟨#[]⟩) (d:=6) (l:=k9 s (E.map mC) cl []) ?_ (by kernel_rfl) hν (K3 hX hM hB (fun Yr w' hb h=>⟨hb,Yr,rfl,h⟩) (E.filter fun x=>!([]:List Nat).contains x.2).length [] ⟨#[]⟩ _ hν (Wx _) (.inl ⟨rfl,fun x hx h=>by cases h⟩));rw[Vd];simp only[ah,eY,VV,VX,VW];first|done|rfl|skip
   ·cases h
  ·cases h
 ·cases h
def Qe:List (FuncId × Sum):=[(54,cq j1),(55,de LH),(56,gq (fj um) (de sV)),(57,fj Ce)]
def y8:Env:={ EP [] [] with YT:=fun f=>Qe.lookup f }
def OJ (l:List SV):Option (SO × Bool):=some (.row l 50 (0,0) (some 4),false)
def qE (l:List SV)(n:Nat)(s:Int)(x:ak):SM:=(a6 y8 20 [.agg [.v (.int .u64 s),.sl 0 0 n none],.v (.agg #[.string x.p,.int .u64 x.v,.int .i64 x.k,.slice x.a x.l x.c])] (bG 6 1 0 [OJ l])).getD dn
theorem RF (l:List SV)(n:Nat)(s:Int)(x:ak):eh y8 20 300 (qE l n s x) (VP++ff (List.range 3) true) [(0,0)] (.tup [.agg [.v (.int .u64 s),.sl 0 0 n none],.v (.int .i64 (cG x.p x.v x.k x.l))])=[V1 IntKind.u64 s=V1 IntKind.u64 s,0=0/\n=n/\nZ=none,vZ (cG x.1 x.2 x.3 x.5)=vZ (cG x.1 x.2 x.3 x.5),(!cG x.1 x.2 x.3 x.5==0)=true,x.1.size<=1000000000/\0<=x.2/\x.2<18446744073709551616]:=by kernel_rfl
theorem TE (l:List SV)(n:Nat)(s:Int)(x:ak):eh y8 20 300 (qE l n s x) (VP++ff [1] false++ff (List.range 30) true) [(0,0)] (.tup [.agg [.v (.int .u64 s),.sl 0 0 n none],.v (.int .i64 31)])=[V1 IntKind.u64 s=V1 IntKind.u64 s,0=0/\n=n/\nZ=none,vZ 31=vZ 31,decide ((fB x.p (ar l n)).2≥x.2)=true,bK l n (ar l n),(!cG x.1 x.2 x.3 x.5==0)=false,x.1.size<=1000000000/\0<=x.2/\x.2<18446744073709551616]:=by kernel_rfl
theorem TQ (l l':List SV)(n k:Nat)(s:Int)(x:ak):bY y8 20 300 (qE l n s x) (VP++ff [1,3,4,5] false) (.tup [.agg [.v (.int .u64 s),.sl 5 0 k none],.v (.int .i64 0)]) 5 (.row l' 50 (0,0) (some 4))=[V1 IntKind.u64 s=V1 IntKind.u64 s,0=0/\1=k/\nZ=none,vZ 0=vZ 0,List.map SV.v (vE (eK x []))=l',l'.all ab=true,(s==s)=true,True/\x.1.size<=1000000000/\∀ (e:ak),e∈[]->e.p.size<=1000000000,false=false,bK l n (ar l n)/\bg x.1 (ar l n)=[],decide ((fB x.p (ar l n)).2≥x.2)=false,bK l n (ar l n),(!cG x.1 x.2 x.3 x.5==0)=false,x.1.size<=1000000000/\0<=x.2/\x.2<18446744073709551616]:=by kernel_rfl
theorem SS (l l':List SV)(n k:Nat)(s:Int)(x:ak):bY y8 20 300 (qE l n s x) (VP++ff [1,3] false++ff [4] true++ff [5] false) (.tup [.agg [.v (.int .u64 s),.sl 6 0 k none],.v (.int .i64 0)]) 6 (.row l' 50 (0,0) (some 4))=[V1 IntKind.u64 s=V1 IntKind.u64 s,0=0/\(ar (List.map SV.v (vE (bg x.1 (ar l n)))) (bg x.1 (ar l n)).length).length+1=k/\nZ=none,vZ 0=vZ 0,List.map SV.v (vE (eK x (ar (List.map SV.v (vE (bg x.1 (ar l n)))) (bg x.1 (ar l n)).length)))=l',l'.all ab=true,(s==s)=true,(50=50/\bK (List.map SV.v (vE (bg x.1 (ar l n)))) (bg x.1 (ar l n)).length (ar (List.map SV.v (vE (bg x.1 (ar l n)))) (bg x.1 (ar l n)).length)/\ar (List.map SV.v (vE (bg x.1 (ar l n)))) (bg x.1 (ar l n)).length≠[])/\x.1.size<=1000000000/\∀ (e:ak),e∈ar (List.map SV.v (vE (bg x.p (ar l n)))) (bg x.p (ar l n)).length->e.p.size<=1000000000,decide ((↑(bg x.1 (ar l n)).length:Int)≥256)=false,bK l n (ar l n)/\bg x.1 (ar l n)≠[],decide ((fB x.p (ar l n)).2≥x.2)=false,bK l n (ar l n),(!cG x.1 x.2 x.3 x.5==0)=false,x.1.size<=1000000000/\0<=x.2/\x.2<18446744073709551616]:=by kernel_rfl
def MG:List SI:=dA y8 3 300 (qE [] 0 0 ⟨⟨#[]⟩,0,0,none,0,0⟩) (VP++ff [1,3] false++ff [4,5] true)
def pS (k:Nat)(Yr i:Int):SF:={ fn:=20,tm:=e9 82 7 ([.aH,.aH,.ptr 1 0,.ptr 2 0,.ptr 3 0,.aH,.aH,.aH,.sl 4 0 k none,.v (.int .i64 Yr),.v (.int .i64 i)]++List.replicate 71 .aH),todo:=MG,defers:=[],ret:=false,kind:=.normal,ro:=none }
def Ug (s:Int)(n:Nat):Option (SO × Bool):=some (.row [.v (.int .u64 s),.sl 0 0 n none] 34 (0,0) none,true)
def OU:Option (SO × Bool):=some (.row [.v (.int .u64 0),bZ] 34 (0,0) none,true)
def kf (l m:List SV)(n:Nat)(s:Int)(x:ak):List (Option (SO × Bool)):=[OJ l,Ug s n,lu x,OU,fx m]
theorem S8 (l m:List SV)(n k:Nat)(s:Int)(x:ak):reach y8 3 300 (qE l n s x) (VP++ff [1,3] false++ff [4,5] true) [(0,0),(1,1),(2,2),(3,3),(4,5)] [0,4] (pS k (-1) 0) 6 (kf l m n s x)=[0=0,0=0,0=0,0=0/\(bg x.1 (ar l n)).length=k/\nZ=none,vZ (-1:Int)=vZ (-1:Int),vZ 0=vZ 0,l=l,l.all ab=true,V1 IntKind.u64 s=V1 IntKind.u64 s,0=0/\n=n/\nZ=none,VS x.1=VS x.1,V1 IntKind.u64 x.2=V1 IntKind.u64 x.2,vZ x.3=vZ x.3,VT x.4 x.5 x.6=VT x.4 x.5 x.6,V1 IntKind.u64 0=V1 IntKind.u64 0,VT none 0 0=VT none 0 0,List.map SV.v (vE (bg x.1 (ar l n)))=m,m.all ab=true,decide ((↑(bg x.1 (ar l n)).length:Int)≥256)=true,bK l n (ar l n)/\bg x.1 (ar l n)≠[],decide ((fB x.p (ar l n)).2≥x.2)=false,bK l n (ar l n),(!cG x.1 x.2 x.3 x.5==0)=false,x.1.size<=1000000000/\0<=x.2/\x.2<18446744073709551616]:=by kernel_rfl
theorem Tm (l m:List SV)(n k:Nat)(s:Int)(x e f:ak)(Yr best' i i':Int):reach y8 3 100 (SM.at (pS k Yr i) 6 (kf l m n s x)) (ff [0] true++[(2,.cells [.v (.int .i64 e.k)])]++ff (List.range 60) false) [(0,0),(1,1),(2,2),(3,3),(4,4)] [0,4] (pS k best' i') 6 (kf l m n s x)=[0=0,0=0,0=0,0=0/\k=k/\nZ=none,vZ Yr=vZ best',vZ (IntKind.i64.wrap (i+1))=vZ i',l=l,l.all ab=true,V1 IntKind.u64 s=V1 IntKind.u64 s,0=0/\n=n/\nZ=none,VS x.1=VS x.1,V1 IntKind.u64 x.2=V1 IntKind.u64 x.2,vZ x.3=vZ x.3,VT x.4 x.5 x.6=VT x.4 x.5 x.6,V1 IntKind.u64 0=V1 IntKind.u64 0,VT none 0 0=VT none 0 0,m=m,m.all ab=true,false=false,(e.3==0)=false,(e.3==0)=false,(e.3==0)=false,(e.3==0)=false,(e.3==0)=false,m[0+i.toNat*4+2+0]?=some (SV.v (vZ e.3)),ai i k=true,decide (i<(↑k:Int))=true]:=by kernel_rfl
theorem Ri (l m:List SV)(n k:Nat)(s:Int)(x e f:ak)(Yr best' i i':Int):reach y8 3 100 (SM.at (pS k Yr i) 6 (kf l m n s x)) (ff [0] true++[(2,.cells [.v (.int .i64 e.k)])]++ff (List.range 60) true) [(0,0),(1,1),(2,2),(3,3),(4,4)] [0,4] (pS k best' i') 6 (kf l m n s x)=[0=0,0=0,0=0,0=0/\k=k/\nZ=none,vZ i=vZ best',vZ (IntKind.i64.wrap (i+1))=vZ i',l=l,l.all ab=true,V1 IntKind.u64 s=V1 IntKind.u64 s,0=0/\n=n/\nZ=none,VS x.1=VS x.1,V1 IntKind.u64 x.2=V1 IntKind.u64 x.2,vZ x.3=vZ x.3,VT x.4 x.5 x.6=VT x.4 x.5 x.6,V1 IntKind.u64 0=V1 IntKind.u64 0,VT none 0 0=VT none 0 0,m=m,m.all ab=true,true=true,(e.3==0)=true,decide (Yr<0)=true,(e.3==0)=true,decide (Yr<0)=true,decide (Yr<0)=true,decide (Yr<0)=true,decide (Yr<0)=true,decide (Yr<0)=true,decide (Yr<0)=true,decide (Yr<0)=true,decide (Yr<0)=true,decide (Yr<0)=true,decide (Yr<0)=true,decide (Yr<0)=true,(e.3==0)=true,(e.3==0)=true,(e.3==0)=true,m[0+i.toNat*4+2+0]?=some (SV.v (vZ e.3)),ai i k=true,decide (i<(↑k:Int))=true]:=by kernel_rfl
theorem RH (l m:List SV)(n k:Nat)(s:Int)(x e f:ak)(Yr best' i i':Int):reach y8 3 100 (SM.at (pS k Yr i) 6 (kf l m n s x)) (ff [0] true++[(2,.cells [.v (.int .i64 e.k)])]++ff [3,4,5] true++ff [6,7,8,9,10,11] false++[(12,.cells [.v (.int .u64 e.v)])]++ff [13,14,15,16,17,18] false++[(19,.cells [.v (.int .u64 f.v)])]++ff [20] false++ff [21] true++ff [22] false++ff [23] true++ff [24] true) [(0,0),(1,1),(2,2),(3,3),(4,4)] [0,4] (pS k best' i') 6 (kf l m n s x)=[0=0,0=0,0=0,0=0/\k=k/\nZ=none,vZ i=vZ best',vZ (IntKind.i64.wrap (i+1))=vZ i',l=l,l.all ab=true,V1 IntKind.u64 s=V1 IntKind.u64 s,0=0/\n=n/\nZ=none,VS x.1=VS x.1,V1 IntKind.u64 x.2=V1 IntKind.u64 x.2,vZ x.3=vZ x.3,VT x.4 x.5 x.6=VT x.4 x.5 x.6,V1 IntKind.u64 0=V1 IntKind.u64 0,VT none 0 0=VT none 0 0,m=m,m.all ab=true,decide (e.2<f.2)=true,(e.3==0)=true,decide (Yr<0)=false,(e.3==0)=true,decide (Yr<0)=false,m[0+Yr.toNat*4+1]?=some (SV.v (V1 IntKind.u64 f.2)),decide (Yr<0)=false,decide (Yr<0)=false,ai Yr k=true,decide (Yr<0)=false,decide (Yr<0)=false,decide (Yr<0)=false,m[0+i.toNat*4+1]?=some (SV.v (V1 IntKind.u64 e.2)),decide (Yr<0)=false,decide (Yr<0)=false,ai i k=true,decide (Yr<0)=false,decide (Yr<0)=false,decide (Yr<0)=false,(e.3==0)=true,(e.3==0)=true,(e.3==0)=true,m[0+i.toNat*4+2+0]?=some (SV.v (vZ e.3)),ai i k=true,decide (i<(↑k:Int))=true]:=by kernel_rfl
theorem R1 (l m:List SV)(n k:Nat)(s:Int)(x e f:ak)(Yr best' i i':Int):reach y8 3 100 (SM.at (pS k Yr i) 6 (kf l m n s x)) (ff [0] true++[(2,.cells [.v (.int .i64 e.k)])]++ff [3,4,5] true++ff [6,7,8,9,10,11] false++[(12,.cells [.v (.int .u64 e.v)])]++ff [13,14,15,16,17,18] false++[(19,.cells [.v (.int .u64 f.v)])]++ff [20] false++ff [21] true++ff [22] false++ff [23] true++ff [24] false) [(0,0),(1,1),(2,2),(3,3),(4,4)] [0,4] (pS k best' i') 6 (kf l m n s x)=[0=0,0=0,0=0,0=0/\k=k/\nZ=none,vZ Yr=vZ best',vZ (IntKind.i64.wrap (i+1))=vZ i',l=l,l.all ab=true,V1 IntKind.u64 s=V1 IntKind.u64 s,0=0/\n=n/\nZ=none,VS x.1=VS x.1,V1 IntKind.u64 x.2=V1 IntKind.u64 x.2,vZ x.3=vZ x.3,VT x.4 x.5 x.6=VT x.4 x.5 x.6,V1 IntKind.u64 0=V1 IntKind.u64 0,VT none 0 0=VT none 0 0,m=m,m.all ab=true,decide (e.2<f.2)=false,(e.3==0)=true,decide (Yr<0)=false,(e.3==0)=true,decide (Yr<0)=false,m[0+Yr.toNat*4+1]?=some (SV.v (V1 IntKind.u64 f.2)),decide (Yr<0)=false,decide (Yr<0)=false,ai Yr k=true,decide (Yr<0)=false,decide (Yr<0)=false,decide (Yr<0)=false,m[0+i.toNat*4+1]?=some (SV.v (V1 IntKind.u64 e.2)),decide (Yr<0)=false,decide (Yr<0)=false,ai i k=true,decide (Yr<0)=false,decide (Yr<0)=false,decide (Yr<0)=false,(e.3==0)=true,(e.3==0)=true,(e.3==0)=true,m[0+i.toNat*4+2+0]?=some (SV.v (vZ e.3)),ai i k=true,decide (i<(↑k:Int))=true]:=by kernel_rfl
theorem SD (l m:List SV)(n k:Nat)(s:Int)(x e f:ak)(Yr best' i i':Int):eh y8 20 300 (SM.at (pS k Yr i) 6 (kf l m n s x)) (ff [0] false++ff [1] true) [(0,0)] (.tup [.agg [.v (.int .u64 s),.sl 0 0 n none],.v (.int .i64 24)])=[V1 IntKind.u64 s=V1 IntKind.u64 s,0=0/\n=n/\nZ=none,vZ 24=vZ 24,decide (Yr<0)=true,decide (i<(↑k:Int))=false]:=by kernel_rfl
theorem Vk (l m:List SV)(n k:Nat)(s:Int)(x e f:ak)(Yr best' i i':Int)(q:ByteArray)(l':List SV)(k':Nat):bY y8 20 300 (SM.at (pS k Yr i) 6 (kf l m n s x)) (ff [0] false++ff [1] false++[(3,.cells [.v (.string q)]),(4,.b true)]) (.tup [.agg [.v (.int .u64 s),.sl 6 0 k' none],.v (.int .i64 0)]) 6 (.row l' 50 (0,0) (some 4))=[V1 IntKind.u64 s=V1 IntKind.u64 s,0=0/\(ar (List.map SV.v (vE (bg q (ar m k)))) (bg q (ar m k)).length).length+1=k'/\nZ=none,vZ 0=vZ 0,List.map SV.v (vE (eK x (ar (List.map SV.v (vE (bg q (ar m k)))) (bg q (ar m k)).length)))=l',l'.all ab=true,(s==s)=true,(50=50/\bK (List.map SV.v (vE (bg q (ar m k)))) (bg q (ar m k)).length (ar (List.map SV.v (vE (bg q (ar m k)))) (bg q (ar m k)).length)/\ar (List.map SV.v (vE (bg q (ar m k)))) (bg q (ar m k)).length≠[])/\x.1.size<=1000000000/\∀ (e:ak),e∈ar (List.map SV.v (vE (bg q (ar m k)))) (bg q (ar m k)).length->e.p.size<=1000000000,bK m k (ar m k)/\bg q (ar m k)≠[],m[0+Yr.toNat*4+0]?=some (SV.v (VS q)),ai Yr k=true,decide (Yr<0)=false,decide (i<(↑k:Int))=false]:=by kernel_rfl
def QG:List (FuncId × Sum):=[(54,cq j1),(57,fj Ce)]
def MU:Env:={ EP [] [] with YT:=fun f=>QG.lookup f }
def De (s:Int)(x:ak):SM:=(a6 MU 20 [.v (.agg #[.int .u64 s,.slice none 0 0]),.v (.agg #[.string x.p,.int .u64 x.v,.int .i64 x.k,.slice x.a x.l x.c])] (bG 6 0 0 [])).getD dn
theorem Sf (s:Int)(x:ak):eh MU 20 300 (De s x) (VP++ff [1] true) [] (.v (.tuple #[.agg #[.int .u64 s,.slice none 0 0],.int .i64 (cG x.p x.v x.k x.l)]))=[Value.tuple { toList:=[Value.agg { toList:=[V1 IntKind.u64 s,VT none 0 0]:Array Value },vZ (cG x.1 x.2 x.3 x.5)]:Array Value }=Value.tuple { toList:=[Value.agg { toList:=[V1 IntKind.u64 s,VT none 0 0]:Array Value },vZ (cG x.1 x.2 x.3 x.5)]:Array Value },(!cG x.1 x.2 x.3 x.5==0)=true,x.1.size<=1000000000/\0<=x.2/\x.2<18446744073709551616]:=by kernel_rfl
theorem RY (l':List SV)(s:Int)(x:ak):bY MU 20 300 (De s x) (VP++ff (List.range 30) false) (.tup [.agg [.v (.int .u64 s),.sl 6 0 1 none],.v (.int .i64 0)]) 6 (.row l' 50 (0,0) (some 4))=[V1 IntKind.u64 s=V1 IntKind.u64 s,0=0/\1=1/\nZ=none,vZ 0=vZ 0,List.map SV.v (vE (eK x []))=l',l'.all ab=true,(s==s)=true,True/\x.1.size<=1000000000/\∀ (e:ak),e∈[]->e.p.size<=1000000000,false=false,false=false,decide (0≥x.2)=false,false=false,(!cG x.1 x.2 x.3 x.5==0)=false,x.1.size<=1000000000/\0<=x.2/\x.2<18446744073709551616]:=by kernel_rfl
def oI (acc:Option ak)(e:ak):Option ak:=if e.k=0 then (match acc with|none=>some e|some f=>if e.v<f.v then some e else some f) else acc
def ja (l:List ak):Option ak:=l.foldl oI none
def aY (xs:List ak)(x:ak):List ak × Int:=
 if cG x.p x.v x.k x.l≠0 then (xs,cG x.p x.v x.k x.l)
 else if (fB x.p xs).v≥x.v then (xs,31)
 else if (bg x.p xs).length≥256 then (match ja (bg x.p xs) with
  | none=>(xs,24)
  | some b=>(eK x (bg b.p (bg x.p xs)),0))
 else (eK x (bg x.p xs),0)
theorem tj {l:List ak}{i:Nat}(h:i<l.length):ja (l.take (i+1))=oI (ja (l.take i)) l[i]:=by
 unfold ja;rw[Wp h,Yn];rfl
theorem Em:∀ {l:List ak} {e:ak},ja l=some e->e∈l/\e.k=0:=by
 have aux:∀ (l:List ak) (acc:Option ak) (e:ak),l.foldl oI acc=some e->(e∈l/\e.k=0)\/acc=some e:=fun l=>by
  induction l with
  | nil=>exact fun acc e h=>.inr h
  | cons x l ih=>
   intro acc e h;rcases ih _ _ h with ⟨h,k⟩|h
   ·exact .inl ⟨Wc _ h,k⟩
   ·unfold oI at h;split at h
    ·rename_i hk;split at h
     ·cases h;exact .inl ⟨Wj,hk⟩
     ·split at h
      ·cases h;exact .inl ⟨Wj,hk⟩
      ·exact .inr h
    ·exact .inr h
 intro l e h;rcases aux l none e h with h|h
 ·exact h
 ·cases h
def BI (l:List ak)(i:Nat)(Yr:Int):Prop:=(Yr=-1/\ja (l.take i)=none)\/∃ (b:Nat) (e:ak),Yr=(b:Int)/\l[b]?=some e/\ja (l.take i)=some e
theorem yV {xs:List ak}{k:Nat}{x:ak}(h:xs[k]?=some x):(cE xs)[0+k*4+1]?=some (.v (.int .u64 x.v)):=by
 have h2:(List.take 4 (List.drop (0+k*4) (cE xs)))[1]?=(eC x)[1]?:=by rw[ml h]
 rw[WN,if_pos (by decide),W7]at h2;exact h2
theorem Hu {xs:List ak}{k:Nat}{x:ak}(h:xs[k]?=some x):(cE xs)[0+k*4+2+0]?=some (.v (.int .i64 x.k)):=by
 have h2:(List.take 4 (List.drop (0+k*4) (cE xs)))[2]?=(eC x)[2]?:=by rw[ml h]
 rw[WN,if_pos (by decide),W7]at h2;exact h2
theorem wH (xs:List ak)(h:xs.length<=1000):bK (cE xs) xs.length xs:=⟨rfl,rfl,h⟩
theorem FA {M:Own}{w0:World}:aK y8 M w0:=
 aK.uG (Checked.mixed Tryz.checked) (by kernel_rfl) (fh.of iJ rfl dK) (dy.list (X:=fun _=>True) (l:=Qe) rfl (fun r h=>by
  simp only[Qe,V8,Ww,Xc]at h
  rcases h with rfl|rfl|rfl|rfl
  ·exact bh.pure (r:=(54,j1)) zB
  ·exact Ms
  ·exact AL
  ·exact CS) fun ν s w hr _=>trivial) (fun f g h=>by cases h)
theorem QV {M:Own}{w0:World}:aK MU M w0:=
 aK.uG (Checked.mixed Tryz.checked) (by kernel_rfl) (fh.of iJ rfl dK) (dy.list (X:=fun _=>True) (l:=QG) rfl (fun r h=>by
  simp only[QG,V8,Ww,Xc]at h
  rcases h with rfl|rfl
  ·exact bh.pure (r:=(54,j1)) zB
  ·exact CS) fun ν s w hr _=>trivial) (fun f g h=>by cases h)
def bV (s:Int)(y:Value)(c:Int):Value:=.tuple #[.agg #[.int .u64 s,y],.int .i64 c]
theorem pd {E:Env}{M:Own}{w0:World}{cs0:List Frame}{f:FuncId}{R:Ending->World->Prop}{ν:aP}{n:Nat}{S:SM}{o:List (Nat × gR)}{m j:Nat}{l:List ak}{s:Int}(K:aK E M w0)(hM:∀ z,¬ M z)
  (h:mX (bY E f n S o (.tup [.agg [.v (.int .u64 s),.sl j 0 m none],.v (.int .i64 0)]) j (.row (cE l) 50 (0,0) (some 4)))) (hR:∀ w' y,Below w0.heap.size w0 w'->cF w0 w' y (vE l) m 4 50->R (.returned (bV s y 0)) w'):af E M w0 cs0 f R ν S:=
 af.bY K h.out fun ν' w' y b ob hv hb ho YA hw hB=>by
  have hn:w0.heap.size<=b.1:=by
   rcases hw with h|h
   ·exact h
   ·exact absurd h (hM _)
  obtain⟨_,_,_,_,hB,hr⟩:=hB;obtain⟨a,rfl,ha⟩:=VR.cz.1 hv;obtain⟨y1,a1,rfl,q1,ha1⟩:=ha.cons_inv;obtain⟨y2,a2,rfl,q2,YH⟩:=ha1.cons_inv;obtain rfl:=YH.ay;obtain rfl:=VR.ae.1 q2;obtain⟨c1,rfl,hc⟩:=VR.bx.1 q1;obtain⟨y3,c2,rfl,q3,hc2⟩:=hc.cons_inv;obtain⟨y4,c3,rfl,q4,hc3⟩:=hc2.cons_inv;obtain rfl:=hc3.ay;obtain rfl:=VR.ae.1 q3;exact hR w' y4 (aB hM hB hr) (cF.gb q4 hb ho YA hn fun zs hz=>xx hz)
theorem sJ {E:Env}{M:Own}{w0:World}{cs0:List Frame}{f:FuncId}{R:Ending->World->Prop}{b:Nat × Nat}{n:Nat}{S:SM}{o:List (Nat × gR)}{m:Nat}{s c:Int}(K:aK E M w0)(hM:∀ z,¬ M z)
  (h:mX (eh E f n S o [(0,0)] (.tup [.agg [.v (.int .u64 s),.sl 0 0 m none],.v (.int .i64 c)]))) (hR:∀ w',Below w0.heap.size w0 w'->R (.returned (bV s (.slice (some ⟨b.1,0,none⟩) m b.2) c)) w'):af E M w0 cs0 f R (aA [b]) S:=
 af.eh K hM h.out fun ν' w' y hle hv hB=>by
  obtain⟨a,rfl,ha⟩:=VR.cz.1 hv
  obtain⟨y1,a1,rfl,q1,ha1⟩:=ha.cons_inv
  obtain⟨y2,a2,rfl,q2,YH⟩:=ha1.cons_inv
  obtain rfl:=YH.ay
  obtain rfl:=VR.ae.1 q2
  obtain⟨c1,rfl,hc⟩:=VR.bx.1 q1
  obtain⟨y3,c2,rfl,q3,hc2⟩:=hc.cons_inv
  obtain⟨y4,c3,rfl,q4,hc3⟩:=hc2.cons_inv
  obtain rfl:=hc3.ay
  obtain rfl:=VR.ae.1 q3
  obtain⟨b',Yy,Zb,rfl⟩:=VR.aL.1 q4
  have Zt:(ν'.ren [(0,0)]) 0=some b:=hle 0 b rfl
  rw[Zt]at Yy;cases Yy
  exact hR w' hB
def RP (w0:World)(s:Int)(y0:Value)(r:List ak × Int)(e:Ending)(w':World):Prop:=
 Below w0.heap.size w0 w'/\((r.2≠0/\e=.returned (bV s y0 r.2))\/(r.2=0/\∃ y,e=.returned (bV s y 0)/\cF w0 w' y (vE r.1) r.1.length 4 50))
theorem mW (x:ak):(⟨x.p,x.v,x.k,x.a,x.l,x.c⟩:ak)=x:=rfl
theorem CM (l:List ak):ar (List.map SV.v (vE l)) l.length=l:=by rw[eL,eR]
section
variable {w0:World}{cs0:List Frame}{xs m:List ak}{x:ak}{b:Nat × Nat}{s:Int}
theorem pY {b:Nat × Nat}{o:SO}(z:Nat):¬ (aD [b] [(o,false)]) z:=aZ (os:=[_])
theorem tN (hl:xs.length<=1000)(hm:m.length<=1000)(hp:x.p.size<=1000000000)(hs:∀ e∈m,e.p.size<=1000000000)(h2:2<=m.length)(hd:∀ e∈m,bg e.p m≠[])
  (ω:ja m=none->aY xs x=(xs,24)) (hsome:∀ e,ja m=some e->aY xs x=(eK x (bg e.p m),0)):∀ (j i:Nat) (Yr:Int),i+j=m.length->BI m i Yr->
  af y8 (aD [b] [(.row (cE xs) 50 (0,0) (some 4),false)]) w0 cs0 20 (RP w0 s (.slice (some ⟨b.1,0,none⟩) xs.length b.2) (aY xs x)) (aA [b]) (SM.at (pS m.length Yr i) 6 (kf (cE xs) (cE m) xs.length s x))
 | 0,i,Yr,hj,hb=>by
  have t0:decide ((i:Int)<(m.length:Int))=false:=V2 (by omega);rcases hb with ⟨rfl,hb⟩|⟨bi,e,rfl,he,hb⟩
  ·rw[We (by omega)]at hb;refine sJ FA pY (n:=300) (o:=(ff [0] false++ff [1] true)) (m:=xs.length) (c:=24) ⟨?_⟩ fun w' hB=>⟨hB,.inl ⟨by rw[ω hb];exact (by decide:(24:Int)≠0),by rw[ω hb]⟩⟩;rw[SD (e:=x) (f:=x) (best':=0) (i':=0)];simp only[ah,t0,VV,VX,VW];first|done|rfl|decide
  ·rw[We (by omega)]at hb;have Zj:=(Em hb).1;have YD:bi<m.length:=(WB.1 he).1;have r1:=aJ YD;have t1:decide ((bi:Int)<(0:Int))=false:=V2 (by omega);have rc:=kp he;have hdl:=qd e.p m;refine pd (j:=6) (l:=eK x (bg e.p m)) (m:=(bg e.p m).length+1) FA pY (n:=300) (o:=(ff [0] false++ff [1] false++[(3,.cells [.v (.string e.p)]),(4,.b true)])) ⟨?_⟩ fun w' y hB hy=>⟨hB,.inr ⟨by rw[hsome e hb],y,rfl,by rw[hsome e hb];rw[kb];exact hy⟩⟩;rw[Vk (e:=x) (f:=x) (best':=0) (i':=0)];rw[eR,CM,eL];simp only[ah,t0,t1,r1,V5,rc,mW,eL,aM,VV,VX,VW];repeat' apply And.intro
   all_goals first|exact wH _ (by omega)|exact hd e Zj|exact hp|exact fun z hz=>hs z (Wo.1 hz).1|rfl|exact WA s|skip
 | j+1,i,Yr,hj,hb=>by
  have hi:i<m.length:=by omega
  have Zm:m[i]?=some m[i]:=V4 hi;have t1:decide ((i:Int)<(m.length:Int))=true:=V0 (by omega);have r1:=aJ hi;have ws:=aU (k:=i) (by omega);have rk:=Hu Zm;have rv:=yV Zm;have sn:=tj hi;by_cases hk:m[i].k=0
  ·have k1:(m[i].3==(0:Int))=true:=by rw[Xn];exact hk
   rcases hb with ⟨rfl,hb⟩|⟨bi,f,rfl,hf,hb⟩
   ·have nx:BI m (i+1) (i:Int):=.inr ⟨i,m[i],rfl,Zm,by rw[sn,hb];unfold oI;rw[if_pos hk]⟩;have tb:decide ((-1:Int)<(0:Int))=true:=by decide
    refine af.reach FA (k:=3) (n:=100) (o:=(ff [0] true++[(2,.cells [.v (.int .i64 m[i].k)])]++ff (List.range 60) true)) (ren:=[(0,0),(1,1),(2,2),(3,3),(4,4)]) (eqs:=[0,4]) ?_ (by kernel_rfl) (fun i b h=>by rw[dj h];rfl) (tN hl hm hp hs h2 hd ω hsome j (i+1) i (by omega) nx);rw[Ri (f:=x)];simp only[ah,V5,t1,r1,rk,ws,aM,k1,tb,VV,VX,VW];try (repeat' apply And.intro)
    all_goals first|rfl|assumption|exact ws|skip
   ·have YD:bi<m.length:=(WB.1 hf).1;have r2:=aJ YD;have fv:=yV hf;have tb:decide ((bi:Int)<(0:Int))=false:=V2 (by omega);by_cases hv:m[i].v<f.v
    ·have tv:decide (m[i].2<f.2)=true:=V0 hv;have nx:BI m (i+1) (i:Int):=.inr ⟨i,m[i],rfl,Zm,by rw[sn,hb];unfold oI;rw[if_pos hk];exact if_pos hv⟩;refine af.reach FA (k:=3) (n:=100) (o:=(ff [0] true++[(2,.cells [.v (.int .i64 m[i].k)])]++ff [3,4,5] true++ff [6,7,8,9,10,11] false++[(12,.cells [.v (.int .u64 m[i].v)])]++ff [13,14,15,16,17,18] false++[(19,.cells [.v (.int .u64 f.v)])]++ff [20] false++ff [21] true++ff [22] false++ff [23] true++ff [24] true)) (ren:=[(0,0),(1,1),(2,2),(3,3),(4,4)]) (eqs:=[0,4]) ?_ (by kernel_rfl) (fun i b h=>by rw[dj h];rfl) (tN hl hm hp hs h2 hd ω hsome j (i+1) i (by omega) nx);rw[RH (f:=f)];simp only[ah,V5,t1,r1,rk,ws,aM,k1,tb,tv,r2,rv,fv,VV,VX,VW];try (repeat' apply And.intro)
     all_goals first|rfl|assumption|exact ws|skip
    ·have tv:decide (m[i].2<f.2)=false:=V2 hv;have nx:BI m (i+1) (bi:Int):=.inr ⟨bi,f,rfl,hf,by rw[sn,hb];unfold oI;rw[if_pos hk];exact if_neg hv⟩;refine af.reach FA (k:=3) (n:=100) (o:=(ff [0] true++[(2,.cells [.v (.int .i64 m[i].k)])]++ff [3,4,5] true++ff [6,7,8,9,10,11] false++[(12,.cells [.v (.int .u64 m[i].v)])]++ff [13,14,15,16,17,18] false++[(19,.cells [.v (.int .u64 f.v)])]++ff [20] false++ff [21] true++ff [22] false++ff [23] true++ff [24] false)) (ren:=[(0,0),(1,1),(2,2),(3,3),(4,4)]) (eqs:=[0,4]) ?_ (by kernel_rfl) (fun i b h=>by rw[dj h];rfl) (tN hl hm hp hs h2 hd ω hsome j (i+1) bi (by omega) nx);rw[R1 (f:=f)];simp only[ah,V5,t1,r1,rk,ws,aM,k1,tb,tv,r2,rv,fv,VV,VX,VW];try (repeat' apply And.intro)
     all_goals first|rfl|assumption|exact ws|skip
  ·have k1:(m[i].3==(0:Int))=false:=by rw[Wr];exact hk
   have nx:BI m (i+1) Yr:=by
    unfold BI;rw[sn];unfold oI;rw[if_neg hk];exact hb
   refine af.reach FA (k:=3) (n:=100) (o:=(ff [0] true++[(2,.cells [.v (.int .i64 m[i].k)])]++ff (List.range 60) false)) (ren:=[(0,0),(1,1),(2,2),(3,3),(4,4)]) (eqs:=[0,4]) ?_ (by kernel_rfl) (fun i b h=>by rw[dj h];rfl) (tN hl hm hp hs h2 hd ω hsome j (i+1) Yr (by omega) nx);rw[Tm (f:=x)];simp only[ah,V5,t1,r1,rk,ws,aM,k1,VV,VX,VW];try (repeat' apply And.intro)
   all_goals first|rfl|assumption|exact ws|skip
end
end paths
end Go.Proofs.YtbjmmnegkpeboaaGreatDoor
