/- What the law TaleLists leans on, part 2: the symbolic executor, proved sound, contracts of functions, plain lemmas. By an AI agent. -/
import Derived.Test.YtbjmmnegkpeboaaGreatDoorPk1
import Derived.Orders
import Derived.Defers
import Derived.Laws.Externs
import Derived.ProofKit
import Derived.OpenShut
import Derived.LaidMore
import Derived.LaidHandle
import Derived.Carry
import Derived.Deep.Slices
import Derived.Deep.Fields
import Derived.Lib.Join
import Derived.Lib.SplitLaws
import Derived.SevenTiedAt
import Derived.Stop.Joined
import Derived.Lib.LaidTab
set_option linter.unusedSimpArgs false
set_option linter.unusedVariables false
noncomputable section
namespace Go.Rx
def bitsOf (acc:Array Nat)(o:Oper):Nat:=o.after.toList.foldl (fun s e=>if Region.binds .any e then s ||| 2 ^ e.on ||| acc.getD e.on 0 else s) 0
theorem DD (ops:Array Oper):Region.before ops=ops.toList.foldl (fun acc o=>acc.push (bitsOf acc o)) #[]:=by
 unfold Region.before;rw[<- Array.foldl_toList];congr 1;funext acc o;rw[bitsOf,<- Array.foldl_toList]
theorem pP (l:List Oper):∀ (acc:Array Nat),(l.foldl (fun acc o=>acc.push (bitsOf acc o)) acc).size=acc.size+l.length/\
  ∀ i,i<acc.size->(l.foldl (fun acc o=>acc.push (bitsOf acc o)) acc).getD i 0=acc.getD i 0:=by
 induction l with
 | nil=>intro acc;exact⟨rfl,fun _ _=>rfl⟩
 | cons o l ih=>
  intro acc;obtain⟨h1,h2⟩:=ih (acc.push (bitsOf acc o));refine⟨by simp only[X1,h1,Array.size_push,Wm];omega,fun i hi=>?_⟩;simp only[X1];rw[h2 i (by simp;omega)];rw[Wt,Wt,Xk,if_neg (by omega)]
theorem zt (acc:Array Nat)(o:Oper)(j:Nat):(bitsOf acc o).testBit j=true↔∃ e∈o.after.toList,Region.binds .any e=true/\(e.on=j\/(acc.getD e.on 0).testBit j=true):=by
 unfold bitsOf
 have key:∀ (l:List Edge) (s:Nat),(l.foldl (fun s e=>if Region.binds .any e then s ||| 2 ^ e.on ||| acc.getD e.on 0 else s) s).testBit j=true ↔
   s.testBit j=true\/∃ e∈l,Region.binds .any e=true/\(e.on=j\/(acc.getD e.on 0).testBit j=true):=by
  intro l;induction l with
  | nil=>intro s;simp
  | cons e l ih=>
   intro s;simp only[X1];rw[ih];by_cases hb:Region.binds .any e=true
   ·rw[if_pos hb];simp only[Nat.testBit_or,XH,Nat.testBit_two_pow,XI,V8,exists_eq_or_imp,hb,VW];constructor
    ·rintro ((h|h)|h)
     ·rcases h with h|h
      ·exact .inl h
      ·exact .inr (.inl (.inl h))
     ·exact .inr (.inl (.inr h))
     ·exact .inr (.inr h)
    ·rintro (h|(h|h)|h)
     ·exact .inl (.inl (.inl h))
     ·exact .inl (.inl (.inr h))
     ·exact .inl (.inr h)
     ·exact .inr h
   ·rw[if_neg hb];simp only[V8,exists_eq_or_imp,Bool.not_eq_true]at hb ⊢;simp only[hb,Xj,false_and,false_or]
 rw[key];simp
theorem qL {ops:Array Oper}{i j:Nat}{o:Oper}(ho:ops[i]?=some o)(Zr:gx ops=true):
  ((Region.before ops).getD i 0).testBit j=true↔∃ e∈o.after.toList,Region.binds .any e=true/\(e.on=j\/((Region.before ops).getD e.on 0).testBit j=true):=by
 obtain⟨hi,hoi⟩:=VY.1 ho
 have hsplit:ops.toList=ops.toList.take i++o::ops.toList.drop (i+1):=by
  have h1:ops.toList.drop i=o::ops.toList.drop (i+1):=by
   rw[WQ (by simpa using hi)];simp[hoi]
  rw[<- h1,Xh]
 let pre:=(ops.toList.take i).foldl (fun acc o=>acc.push (bitsOf acc o)) (#[]:Array Nat)
 have hpre:pre.size=i:=by
  have:=(pP (ops.toList.take i) #[]).1;simp only[pre];rw[this];simp;omega
 have hbf:Region.before ops=(ops.toList.drop (i+1)).foldl (fun acc o=>acc.push (bitsOf acc o)) (pre.push (bitsOf pre o)):=by
  rw[DD];conv=>lhs;rw[hsplit]
  rw[Yn,X1]
 have hgi:(Region.before ops).getD i 0=bitsOf pre o:=by
  rw[hbf,(pP _ _).2 i (by simp[hpre])];rw[Wt,Xk,if_pos hpre.symm];rfl
 have hlow:∀ k,k<i->(Region.before ops).getD k 0=pre.getD k 0:=by
  intro k hk;rw[hbf,(pP _ _).2 k (by simp[hpre];omega)];rw[Wt,Wt,Xk,if_neg (by omega)]
 have hedge:∀ e∈o.after.toList,Region.binds .any e=true->e.on<i:=by
  intro e he hb;have h1:=Wn.1 Zr i (by simpa using hi);rw[ho]at h1;have h2:=Wn.1 h1 e he;rw[hb]at h2;exact dw.1 (by simpa using h2)
 rw[hgi,zt];constructor
 ·rintro ⟨e,he,hb,h⟩
  refine⟨e,he,hb,h.imp id fun h=>?_⟩;rwa[hlow e.on (hedge e he hb)]
 ·rintro ⟨e,he,hb,h⟩
  refine⟨e,he,hb,h.imp id fun h=>?_⟩;rwa[<- hlow e.on (hedge e he hb)]
theorem vC {ops:Array Oper}(Zr:gx ops=true):∀ {i j:Nat},i<ops.size->((Region.before ops).getD i 0).testBit j=true->j<i:=by
 intro i;induction i using Nat.strongRecOn with
 | _ i ih=>
  intro j hi hb;have ho:ops[i]?=some ops[i]:=WT hi;obtain⟨e,he,hbd,h⟩:=(qL ho Zr).1 hb;have h1:=Wn.1 Zr i (by simpa using hi);rw[ho]at h1;have h2:=Wn.1 h1 e he;rw[hbd]at h2;have YD:e.on<i:=dw.1 (by simpa using h2);rcases h with h|h
  ·omega
  ·have:=ih e.on YD (by omega) h;omega
structure Order (ops:Array Oper)(L:List Nat):Prop where
 nodup:L.Nodup
 all:∀ i,i∈L↔i<ops.size
 ord:L.Pairwise fun a b=>((Region.before ops).getD a 0).testBit b=false
 irr:∀ i∈L,((Region.before ops).getD i 0).testBit i=false
structure CQ (ops:Array Oper)(listed:Array Bool)(acc:List Nat):Prop where
 size:listed.size=ops.size
 mem:∀ i,i<ops.size->(listed.getD i true=true↔i∈acc)
 lt:∀ i∈acc,i<ops.size
 nodup:acc.Nodup
 closed:∀ i∈acc,∀ j,((Region.before ops).getD i 0).testBit j=true->j∈acc
 ord:acc.Pairwise fun b a=>((Region.before ops).getD a 0).testBit b=false
 irr:∀ i∈acc,((Region.before ops).getD i 0).testBit i=false
theorem lg {l:Array Bool}{i:Nat}(h:i<l.size):l.getD i true=l.getD i false:=by
 simp[Array.getD,h]
theorem Dk (acc:List Nat):∀ i,i ∉ acc->∃ k,k<=i/\k ∉ acc/\∀ j,j<k->j∈acc:=by
 intro i;induction i using Nat.strongRecOn with
 | _ i ih=>
  intro hi;by_cases h:∃ j,j<i/\j ∉ acc
  ·obtain⟨j,hj,hn⟩:=h;obtain⟨k,hk,h1,h2⟩:=ih j hj hn;exact⟨k,by omega,h1,h2⟩
  ·exact⟨i,Wx _,hi,fun j hj=>Classical.byContradiction fun hn=>h ⟨j,hj,hn⟩⟩
theorem wx {ops:Array Oper}(Zr:gx ops=true):∀ (fuel t:Nat) (listed:Array Bool) (acc:List Nat),CQ ops listed acc->acc.length+fuel=ops.size->
  ∃ L,Region.linearise.go .any ops fuel t listed acc=L.reverse/\CQ ops (Array.replicate ops.size true) L:=by
 have hlen_le:∀ (l:List Nat),l.Nodup->(∀ i∈l,i<ops.size)->l.length<=ops.size:=by
  intro l h1 h2;have:=List.Nodup.length_le_of_subset (l₂:=List.range ops.size) h1 (fun i hi=>Xd.2 (h2 i hi));simpa using this
 intro fuel;induction fuel with
 | zero=>
  intro t listed acc h hlen;refine⟨acc,rfl,by simp,fun i hi=>?_,h.lt,h.nodup,h.closed,h.ord,h.irr⟩
  have h1:(Array.replicate ops.size true).getD i true=true:=by
   rw[Wt];simp[hi]
  simp only[h1,true_iff];refine Classical.byContradiction fun hn=>?_
  have:=hlen_le (i::acc) (W3.2 ⟨hn,h.nodup⟩) (fun j hj=>by
   rcases V8.1 hj with rfl|hj
   ·exact hi
   ·exact h.lt j hj)
  simp at this;omega
 | succ fuel ih=>
  intro t listed acc h hlen;unfold Region.linearise.go;generalize hrs:((List.range ops.size).filter fun i=>!listed.getD i true&&((ops[i]?).map (·.after.all fun e=>!Region.binds .any e||listed.getD e.on false)).getD false)=rs
  have Zj:∀ i,i∈rs->i<ops.size/\i ∉ acc/\∃ o,ops[i]?=some o/\∀ e∈o.after.toList,Region.binds .any e=true->e.on∈acc:=by
   intro i hi;rw[<- hrs,Wo]at hi;obtain⟨h1,h2⟩:=hi;have h1:=Xd.1 h1;rw[V6]at h2;obtain⟨h2,h3⟩:=h2;refine⟨h1,fun hc=>?_,?_⟩
   ·rw[(h.mem i h1).2 hc]at h2;cases h2
   ·obtain⟨o,ho⟩:∃ o,ops[i]?=some o:=⟨_,WT h1⟩;refine⟨o,ho,fun e he hb=>?_⟩;rw[ho]at h3;simp only[Xb,WR]at h3;have h4:=Array.all_eq_true'.1 h3 e (by simpa using he);rw[hb]at h4;have h4:listed.getD e.on false=true:=by simpa using h4
    have YD:e.on<listed.size:=by
     refine Classical.byContradiction fun hn=>?_;rw[Wt,W9 (by omega)]at h4;cases h4
    exact (h.mem e.on (by rw[<- h.size];exact YD)).1 (by rw[lg YD];exact h4)
  have Yu:0<rs.length:=by
   obtain⟨i,hi,hn⟩:∃ i,i<ops.size/\i ∉ acc:=by
    refine Classical.byContradiction fun hc=>?_;have YM:∀ i,i<ops.size->i∈acc:=fun i hi=>Classical.byContradiction fun hn=>hc ⟨i,hi,hn⟩;have:=List.Nodup.length_le_of_subset (l₁:=List.range ops.size) (l₂:=acc) List.nodup_range (fun i hi=>YM i (Xd.1 hi));simp at this;omega
   obtain⟨k,hk,hkn,YM⟩:=Dk acc i hn;have hks:k<ops.size:=by omega
   obtain⟨o,ho⟩:∃ o,ops[k]?=some o:=⟨_,WT hks⟩
   have:k∈rs:=by
    rw[<- hrs,Wo];refine⟨Xd.2 hks,?_⟩;rw[V6];refine⟨?_,?_⟩
    ·cases hl:listed.getD k true
     ·rfl
     ·exact absurd ((h.mem k hks).1 hl) hkn
    ·rw[ho];simp only[Xb,WR];rw[Array.all_eq_true'];intro e he;cases hb:Region.binds .any e
     ·rfl
     ·have YD:e.on<k:=by
       have h1:=Wn.1 Zr k (by simpa using hks);rw[ho]at h1;have h2:=Wn.1 h1 e (by simpa using he);rw[hb]at h2;exact dw.1 (by simpa using h2)
      have Z6:=YM e.on YD;have:=(h.mem e.on (by omega)).2 Z6;rw[lg (by rw[h.size];omega)]at this;simpa using this
   exact List.length_pos_of_mem this
  have YD:t % rs.length<rs.length:=Yb _ Yu;dsimp only;rw[V4 YD];dsimp only;generalize hk:rs[t % rs.length]=k;obtain⟨hks,hkn,o,ho,hed⟩:=Zj k (by rw[<- hk];exact WS YD)
  have hbits:∀ j,((Region.before ops).getD k 0).testBit j=true->j∈acc:=by
   intro j hj;obtain⟨e,he,hb,h1⟩:=(qL ho Zr).1 hj;have Z6:=hed e he hb;rcases h1 with rfl|h1
   ·exact Z6
   ·exact h.closed e.on Z6 j h1
  refine ih _ _ _ ⟨by simp[h.size],fun i hi=>?_,fun i hi=>?_,W3.2 ⟨hkn,h.nodup⟩,fun i hi j hj=>?_,W2.2 ⟨fun a ha=>?_,h.ord⟩,fun i hi=>?_⟩ (by simp;omega)
  ·rw[Wt,WO];by_cases e:k=i
   ·subst e;simp[h.size,hks]
   ·rw[if_neg e,<- Wt,h.mem i hi];simp[Ne.symm e]
  ·rcases V8.1 hi with rfl|hi
   ·exact hks
   ·exact h.lt i hi
  ·rcases V8.1 hi with rfl|hi
   ·exact Wc _ (hbits j hj)
   ·exact Wc _ (h.closed i hi j hj)
  ·cases hb:((Region.before ops).getD a 0).testBit k
   ·rfl
   ·exact absurd (h.closed a ha k hb) hkn
  ·rcases V8.1 hi with rfl|hi
   ·cases hb:((Region.before ops).getD i 0).testBit i
    ·rfl
    ·exact absurd (hbits i hb) hkn
   ·exact h.irr i hi
theorem zm {ops:Array Oper}(Zr:gx ops=true)(t:Nat):Order ops (Region.schedule true ops t):=by
 have:Region.schedule true ops t=Region.linearise .any ops t:=by simp[Region.schedule]
 rw[this];unfold Region.linearise
 obtain⟨L,hL,h⟩:=wx Zr ops.size t (Array.replicate ops.size false) [] ⟨by simp,fun i hi=>by
  rw[Wt];simp[hi],by simp,XF,by simp,List.Pairwise.nil,by simp⟩ (by simp)
 rw[hL];refine⟨?_,fun i=>?_,?_,fun i hi=>h.irr i (by simpa using hi)⟩
 ·have:=h.nodup;unfold List.Nodup at this ⊢;rw[List.pairwise_reverse];exact this.imp fun e=>e.symm
 ·rw[List.mem_reverse];constructor
  ·exact h.lt i
  ·intro hi;exact (h.mem i hi).1 (by rw[Wt];simp[hi])
 ·rw[List.pairwise_reverse];exact h.ord
section
variable {ν:aP}{M:Own}{w0 w:World}{s s':SH}{E:Env}
mutual
theorem VR.func1 {ν:aP}:∀ (s:SV) (x y:Value),s.pA=true->VR ν s x->VR ν s y->x=y
 | .aH,_,_,h,_,_=>by cases h
 | .v _,_,_,_,hx,hy=>by rw[VR.ae.1 hx,VR.ae.1 hy]
 | .ptr _ _,_,_,_,hx,hy=>by
  obtain⟨b,hb,rfl⟩:=VR.aF.1 hx;obtain⟨c,hc,rfl⟩:=VR.aF.1 hy;rw[hb]at hc;cases hc;rfl
 | .sl _ _ _ _,_,_,_,hx,hy=>by
  obtain⟨b,hb,_,rfl⟩:=VR.aL.1 hx;obtain⟨c,hc,_,rfl⟩:=VR.aL.1 hy;rw[hb]at hc;cases hc;rfl
 | .map _,_,_,_,hx,hy=>by
  obtain⟨b,hb,rfl⟩:=VR.cQ.1 hx;obtain⟨c,hc,rfl⟩:=VR.cQ.1 hy;rw[hb]at hc;cases hc;rfl
 | .agg l,_,_,h,hx,hy=>by
  obtain⟨a,rfl,ha⟩:=VR.bx.1 hx;obtain⟨b,rfl,hb⟩:=VR.bx.1 hy
  rw[au.func1 l a b h ha hb]
 | .tup l,_,_,h,hx,hy=>by
  obtain⟨a,rfl,ha⟩:=VR.cz.1 hx;obtain⟨b,rfl,hb⟩:=VR.cz.1 hy
  rw[au.func1 l a b h ha hb]
 | .iface _ x,_,_,h,hx,hy=>by
  obtain⟨a,rfl,ha⟩:=VR.dr.1 hx;obtain⟨b,rfl,hb⟩:=VR.dr.1 hy
  rw[VR.func1 x a b h ha hb]
 | .func _ p q,_,_,h,hx,hy=>by
  obtain⟨a,a',rfl,ha,ha'⟩:=VR.eH.1 hx;obtain⟨b,b',rfl,hb,Yy⟩:=VR.eH.1 hy
  rw[SV.pA,V6]at h
  rw[au.func1 p a b h.1 ha hb,au.func1 q a' b' h.2 ha' Yy]
 | .yield _,_,_,_,hx,hy=>by
  obtain⟨b,hb,rfl⟩:=VR.gh.1 hx;obtain⟨c,hc,rfl⟩:=VR.gh.1 hy;rw[hb]at hc;cases hc;rfl
 | .fin _ _ _ _,_,_,_,hx,hy=>by
  obtain⟨b,hb,rfl⟩:=VR.fu.1 hx;obtain⟨c,hc,rfl⟩:=VR.fu.1 hy;rw[hb]at hc;cases hc;rfl
theorem au.func1 {ν:aP}:∀ (l:List SV) (a b:List Value),pW l=true->au ν l a->au ν l b->a=b
 | [],_,_,_,ha,hb=>by rw[ha.ay,hb.ay]
 | x::xs,_,_,h,ha,hb=>by
  obtain⟨y,ys,rfl,hy,ZQ⟩:=ha.cons_inv;obtain⟨z,zs,rfl,hz,hzs⟩:=hb.cons_inv
  rw[pW,V6]at h
  rw[VR.func1 x y z h.1 hy hz,au.func1 xs ys zs h.2 ZQ hzs]
end
theorem uT {x y:Value}{s s':SH}(h:w7 E x y s=some s'):s.dD s'/\(s'.ob->s.ob/\x=y):=by
 unfold w7 at h;split at h
 ·rename_i k x k' y;cases hb:(k==k')
  ·rw[hb]at h;cases h
  ·rw[hb]at h;obtain⟨Ys,Yw⟩:=SH.eN h;have hb:k=k':=by simpa using hb
   exact⟨Ys,fun ob=>⟨(Yw ob).1,by have:=(Yw ob).2;have:x=y:=(by simpa using this);rw[hb,this]⟩⟩
 ·rename_i x y;obtain⟨Ys,Yw⟩:=SH.eN h;exact⟨Ys,fun ob=>⟨(Yw ob).1,by rw[(cL _ _).1 (Yw ob).2]⟩⟩
 ·rename_i x y;obtain⟨Ys,Yw⟩:=SH.eN h;exact⟨Ys,fun ob=>⟨(Yw ob).1,by have:=(Yw ob).2;have:x=y:=(by simpa using this);rw[this]⟩⟩
 ·cases h;exact⟨.refl _,fun ob=>⟨ob,rfl⟩⟩
 ·cases h;exact⟨.refl _,fun ob=>⟨ob,rfl⟩⟩
 ·cases h;exact⟨.refl _,fun ob=>⟨ob,rfl⟩⟩
 ·rename_i a l c b m d;obtain⟨Ys,Yw⟩:=SH.eN h;refine⟨Ys,fun ob=>⟨(Yw ob).1,?_⟩⟩;obtain⟨rfl,rfl,rfl⟩:=Ws (Yw ob).2;rfl
 ·cases h;exact⟨.refl _,fun ob=>⟨ob,rfl⟩⟩
 ·rename_i f a b g c d;cases hb:(f==g&&(a.size==0&&b.size==0)&&(c.size==0&&d.size==0))
  ·rw[hb]at h;cases h
  ·rw[hb]at h;cases h;simp only[V6]at hb;obtain⟨⟨h1,h2,h3⟩,h4,h5⟩:=hb;have h1:f=g:=by simpa using h1
   have h2:a=#[]:=by simpa using h2
   have h3:b=#[]:=by simpa using h3
   have h4:c=#[]:=by simpa using h4
   have h5:d=#[]:=by simpa using h5
   exact⟨.refl _,fun ob=>⟨ob,by rw[h1,h2,h3,h4,h5]⟩⟩
 ·cases h
theorem nJ:∀ {a b:List Value} {s s':SH},o4 E a b s=some s'->s.dD s'/\(s'.ob->s.ob/\a=b)
 | [],[],_,_,h=>by cases h;exact⟨.refl _,fun ob=>⟨ob,rfl⟩⟩
 | [],_::_,_,_,h=>by cases h
 | _::_,[],_,_,h=>by cases h
 | x::xs,y::ys,s,s',h=>by
  simp only[o4]at h
  obtain⟨s1,h1,h2⟩:=Wi.1 h
  obtain⟨e1,e2⟩:=uT h1
  obtain⟨e3,e4⟩:=nJ h2
  exact⟨e1.trans e3,fun ob=>⟨(e2 (e4 ob).1).1,by rw[(e4 ob).2,(e2 (e4 ob).1).2]⟩⟩
theorem AB {x y:Value}{s s':SH}(h:xo E x y s=some s'):s.dD s'/\(s'.ob->s.ob/\x=y):=by
 unfold xo at h;split at h
 ·obtain⟨e1,e2⟩:=nJ h;exact⟨e1,fun ob=>⟨(e2 ob).1,by rw[Array.toList_inj.1 (e2 ob).2]⟩⟩
 ·obtain⟨e1,e2⟩:=nJ h;exact⟨e1,fun ob=>⟨(e2 ob).1,by rw[Array.toList_inj.1 (e2 ob).2]⟩⟩
 ·exact uT h
theorem A2 {b:Bool}{p:Prop}(hp:b=true->p)(h:s.Ng b p=some s'):s.dD s'/\(s'.ob->s.ob/\p):=by
 unfold SH.Ng at h;cases hs:s.soft
 ·rw[hs]at h;cases b
  ·cases h
  ·cases h;exact⟨.refl _,fun ob=>⟨ob,hp rfl⟩⟩
 ·rw[hs]at h;cases h;exact⟨SH.cn _ _,fun ob=>ob⟩
mutual
theorem rP:∀ {x y:SV} {s s':SH},lF E x y s=some s'->s.dD s'/\(s'.ob->s.ob/\x=y)
 | .ptr i o,y,s,s',h=>by
  simp only[lF]at h
  split at h
  ·rename_i j p
   cases hb:(i==j)
   ·rw[hb]at h;cases h
   ·rw[hb]at h
    have hb:i=j:=by simpa using hb
    obtain⟨e1,e2⟩:=A2 (fun hp=>by simpa using hp) h
    exact⟨e1,fun ob=>⟨(e2 ob).1,by rw[hb,(e2 ob).2]⟩⟩
  ·cases h
 | .map i,y,s,s',h=>by
  simp only[lF]at h
  split at h
  ·rename_i j
   cases hb:(i==j)
   ·rw[hb]at h;cases h
   ·rw[hb]at h;cases h
    exact⟨.refl _,fun ob=>⟨ob,by simpa using hb⟩⟩
  ·cases h
 | .sl i o l c,y,s,s',h=>by
  simp only[lF]at h
  split at h
  ·rename_i j p m d
   cases hb:(i==j)
   ·rw[hb]at h;cases h
   ·rw[hb]at h
    have hb:i=j:=by simpa using hb
    obtain⟨e1,e2⟩:=A2 (fun hp=>by
     rw[V6,V6]at hp
     obtain⟨⟨h2,h3⟩,h4⟩:=hp
     have h2:o=p:=by simpa using h2
     have h3:l=m:=by simpa using h3
     have h4:c=d:=by simpa using h4
     exact⟨h2,h3,h4⟩) h
    exact⟨e1,fun ob=>⟨(e2 ob).1,by obtain⟨h2,h3,h4⟩:=(e2 ob).2;rw[hb,h2,h3,h4]⟩⟩
  ·cases h
 | .fin i o l a,y,s,s',h=>by
  simp only[lF]at h
  split at h
  ·rename_i j p m b
   cases hb:(i==j)
   ·rw[hb]at h;cases h
   ·rw[hb]at h
    have hb:i=j:=by simpa using hb
    obtain⟨e1,e2⟩:=A2 (fun hp=>by
     rw[V6,V6]at hp
     obtain⟨⟨h2,h3⟩,h4⟩:=hp
     have h2:o=p:=by simpa using h2
     have h3:l=m:=by simpa using h3
     have h4:a=b:=by simpa using h4
     exact⟨h2,h3,h4⟩) h
    exact⟨e1,fun ob=>⟨(e2 ob).1,by obtain⟨h2,h3,h4⟩:=(e2 ob).2;rw[hb,h2,h3,h4]⟩⟩
  ·cases h
 | .yield i,y,s,s',h=>by
  simp only[lF]at h
  split at h
  ·rename_i j
   cases hb:(i==j)
   ·rw[hb]at h;cases h
   ·rw[hb]at h;cases h
    exact⟨.refl _,fun ob=>⟨ob,by simpa using hb⟩⟩
  ·cases h
 | .iface t x,y,s,s',h=>by
  simp only[lF]at h
  split at h
  ·rename_i u y
   cases hb:(t==u)
   ·rw[hb]at h;cases h
   ·rw[hb]at h
    obtain⟨h1,h2⟩:=rP (x:=x) (y:=y) h
    have hb:t=u:=by simpa using hb
    exact⟨h1,fun ob=>⟨(h2 ob).1,by rw[hb,(h2 ob).2]⟩⟩
  ·cases h
 | .agg l,y,s,s',h=>by
  simp only[lF]at h
  split at h
  ·rename_i m
   obtain⟨h1,h2⟩:=lG (l:=l) (m:=m) h
   exact⟨h1,fun ob=>⟨(h2 ob).1,by rw[(h2 ob).2]⟩⟩
  ·cases h
 | .tup l,y,s,s',h=>by
  simp only[lF]at h
  split at h
  ·rename_i m
   obtain⟨h1,h2⟩:=lG (l:=l) (m:=m) h
   exact⟨h1,fun ob=>⟨(h2 ob).1,by rw[(h2 ob).2]⟩⟩
  ·cases h
 | .func f a b,y,s,s',h=>by
  simp only[lF]at h
  split at h
  ·rename_i f g c d
   cases hb:(f==g)
   ·rw[hb]at h;cases h
   ·rw[hb]at h
    have hb:f=g:=by simpa using hb
    obtain⟨s1,h1,h2⟩:=Wi.1 h
    obtain⟨e1,e2⟩:=lG (l:=a) (m:=c) h1
    obtain⟨e3,e4⟩:=lG (l:=b) (m:=d) h2
    exact⟨e1.trans e3,fun ob=>⟨(e2 (e4 ob).1).1,by rw[hb,(e4 ob).2,(e2 (e4 ob).1).2]⟩⟩
  ·cases h
 | .aH,y,s,s',h=>by simp[lF]at h
 | .v x,y,s,s',h=>by
  simp only[lF]at h
  split at h
  ·rename_i y
   obtain⟨h1,h2⟩:=AB h
   exact⟨h1,fun ob=>⟨(h2 ob).1,by rw[(h2 ob).2]⟩⟩
  ·cases h
theorem lG:∀ {l m:List SV} {s s':SH},qR E l m s=some s'->s.dD s'/\(s'.ob->s.ob/\l=m)
 | [],m,s,s',h=>by
  simp only[qR]at h
  split at h
  ·cases h;exact⟨.refl _,fun ob=>⟨ob,rfl⟩⟩
  ·cases h
 | x::xs,m,s,s',h=>by
  simp only[qR]at h
  split at h
  ·rename_i y ys
   obtain⟨s1,h1,h2⟩:=Wi.1 h
   obtain⟨e1,e2⟩:=rP (x:=x) (y:=y) h1
   obtain⟨e3,e4⟩:=lG (l:=xs) (m:=ys) h2
   exact⟨e1.trans e3,fun ob=>⟨(e2 (e4 ob).1).1,by rw[(e4 ob).2,(e2 (e4 ob).1).2]⟩⟩
  ·cases h
end
def eS (E:Env)(g:Sem Next)(ν:aP)(w:World)(x:SV)(looksIn:Bool):Prop:=
 (∃ y,g.run E.P w=.ok (.value y) w/\VR ν x y)/\(looksIn=false->∀ w,∃ y,g.run E.P w=.ok (.value y) w/\VR ν x y)
theorem eS.uB {g:Sem Value}{x:SV}{b:Bool}(h:∀ w,∃ y,g.run E.P w=.ok y w/\VR ν x y):eS E (do pure (.value (<- g))) ν w x b:=by
 have:∀ w,∃ y,((do pure (.value (<- g)):Sem Next)).run E.P w=.ok (.value y) w/\VR ν x y:=by
  intro w;obtain⟨y,hy,hv⟩:=h w;exact⟨y,by simp[hy],hv⟩
 exact⟨this w,fun _=>this⟩
theorem eS.Gn {g:Sem Value}{x:SV}(h:∃ y,g.run E.P w=.ok y w/\VR ν x y):eS E (do pure (.value (<- g))) ν w x true:=by
 obtain⟨y,hy,hv⟩:=h;exact⟨⟨y,by simp[hy],hv⟩,by intro h;cases h⟩
theorem qx {tm:fR}{o:Oper}{x:SV}(hk:lA o.op=true)(h:gH E tm o=some x){ρ:Operand->Value}(hρ:uD E ν tm ρ)(b:Bool):
  eS E (execOp ρ o) ν w x b:=by
 unfold gH at h;cases hp:lW E tm o.op.operands.toList
 ·rw[hp]at h;cases h
 ·rw[hp]at h;simp only[WE]at h;split at h
  ·rename_i v Yt;cases h;have hc:=Go.Rx.execOp_congr hk (zA hp hρ);have:∀ w,∃ y,(execOp ρ o).run E.P w=.ok (.value y) w/\VR ν (.v v) y:=fun w=>⟨v,by rw[hc];exact jt Yt w,VR.ae.2 rfl⟩;exact⟨this w,fun _=>this⟩
  ·cases h
theorem tQ {tm:fR}{o:Oper}{x:SV}{ρ:Operand->Value}(hf:ky o.op=true)(υ:∀ a b c,o.op≠.convert a b c)(hnf:∀ op t a b yt,o.op=.binOp op t a b yt->iF E t (bq E tm a) (bq E tm b) s=false)(h:j2 E tm o s=some [(.val x,s')])(hr:HR ν M w0 s w)(hρ:uD E ν tm ρ):
  s.dD s'/\(s'.ob->s.ob/\eS E (execOp ρ o) ν w x (looks o.op)):=by
 obtain⟨dst,op,type,pos,aft,guard⟩:=o
 have hval:∀ (z:Operand),eS E (pure (.value (ρ z))) ν w (bq E tm z) false:=fun z=>
  ⟨⟨_,rfl,hρ z⟩,fun _ w=>⟨_,rfl,hρ z⟩⟩
 have vV:∀ {z:Option SV} {g:Sem Value} {b:Bool},(z.map fun x=>[(dG.val x,s)])=some [(.val x,s')]->(∀ x0,z=some x0->∀ w,∃ y,g.run E.P w=.ok y w/\VR ν x0 y)->
   s.dD s'/\(s'.ob->s.ob/\eS E (do pure (.value (<- g))) ν w x b):=by
  intro z g b h hg;cases z with
  | none=>cases h
  | some x0=>cases h;exact⟨.refl _,fun ob=>⟨ob,.uB (hg x rfl)⟩⟩
 have Zc:∀ {o:Oper} (hk:lA o.op=true) (b:Bool),((gH E tm o).map fun x=>[(dG.val x,s)])=some [(.val x,s')]->s.dD s'/\(s'.ob->s.ob/\eS E (execOp ρ o) ν w x b):=by
  intro o hk b h;cases hp:gH E tm o with
  | none=>rw[hp]at h;cases h
  | some x0=>rw[hp]at h;cases h;exact⟨.refl _,fun ob=>⟨ob,qx hk hp hρ b⟩⟩
 have vsV:∀ {z:Option (SV × SH)} {g:Sem Value} {b:Bool},(z.map fun x=>[(dG.val x.1,x.2)])=some [(.val x,s')]->
   (∀ x0 s1,z=some (x0,s1)->s.dD s1/\(s1.ob->s.ob/\∀ w,∃ y,g.run E.P w=.ok y w/\VR ν x0 y))->s.dD s'/\(s'.ob->s.ob/\eS E (do pure (.value (<- g))) ν w x b):=by
  intro z g b h hg;cases z with
  | none=>cases h
  | some p=>
   obtain⟨x0,s1⟩:=p;cases h;obtain⟨h1,h2⟩:=hg _ _ rfl;exact⟨h1,fun ob=>⟨(h2 ob).1,.uB (h2 ob).2⟩⟩
 have lsV:∀ {z:Option (SV × SH)} {g:Sem Value},(z.map fun x=>[(dG.val x.1,x.2)])=some [(.val x,s')]->
   (∀ x0 s1,z=some (x0,s1)->s.dD s1/\(s1.ob->s.ob/\∃ y,g.run E.P w=.ok y w/\VR ν x0 y))->s.dD s'/\(s'.ob->s.ob/\eS E (do pure (.value (<- g))) ν w x true):=by
  intro z g h hg;cases z with
  | none=>cases h
  | some p=>
   obtain⟨x0,s1⟩:=p;cases h;obtain⟨h1,h2⟩:=hg _ _ rfl;exact⟨h1,fun ob=>⟨(h2 ob).1,.Gn (h2 ob).2⟩⟩
 cases op<;>try cases hf
 case convert a b c=>exact (υ a b c rfl).elim
 case move z=>cases h;exact⟨.refl _,fun ob=>⟨ob,hval z⟩⟩
 case pick c a b=>
  simp only[j2]at h;split at h
  ·rename_i t hc;have hcv:=hρ c;rw[hc]at hcv;have hcv:=VR.ae.1 hcv;cases Y8:s.dec E t with
   | mk u s1=>
   rw[Y8]at h;cases h;obtain⟨Ys,Yw⟩:=SH.fZ Y8;refine⟨Ys,fun ob=>⟨(Yw ob).1,?_⟩⟩;have hu:=(Yw ob).2
   have:∀ w,∃ y,(execOp ρ { dst:=dst,op:=.pick c a b,type:=type,pos:=pos,after:=aft,guard:=guard }).run E.P w=.ok (.value y) w/\VR ν (bif u then bq E tm a else bq E tm b) y:=by
    intro w;refine⟨if u=true then ρ a else ρ b,by simp[execOp,hcv,asBool,hu],?_⟩;cases u
    ·exact hρ b
    ·exact hρ a
   exact⟨this w,fun _=>this⟩
  ·cases h
 case build t ps=>
  refine vV h fun x0 e w=>?_;have:=vg (w:=w) e (pB hρ ps.toList);rw[kG];exact this
 case load t a=>
  exact lsV h fun x0 s1 e=>tE e hr (hρ a)
 case nilCheck z=>
  have hx:=hρ z
  have go:∀ {y:SV},bq E tm z=y->(execOp ρ { dst:=dst,op:=.nilCheck z,type:=type,pos:=pos,after:=aft,guard:=guard }=pure (.value (ρ z)))->[(dG.val y,s)]=[(dG.val x,s')]->
    s.dD s'/\(s'.ob->s.ob/\eS E (execOp ρ { dst:=dst,op:=.nilCheck z,type:=type,pos:=pos,after:=aft,guard:=guard }) ν w x false):=by
   intro y hy he h;cases h;rw[he,<- hy];exact⟨.refl _,fun ob=>⟨ob,hval z⟩⟩
  simp only[j2]at h;split at h
  ·rename_i i off hc;rw[hc]at hx;obtain⟨b,hb,he⟩:=VR.aF.1 hx;exact go hc (by simp only[execOp,he]) (Option.some.inj h)
  ·rename_i t y hc;rw[hc]at hx;obtain⟨b,he,hb⟩:=VR.dr.1 hx;exact go hc (by simp only[execOp,he]) (Option.some.inj h)
  ·rename_i f a b hc;rw[hc]at hx;obtain⟨a',b',he,_⟩:=VR.eH.1 hx;exact go hc (by simp only[execOp,he]) (Option.some.inj h)
  ·rename_i i hc;rw[hc]at hx;obtain⟨b,hb,he⟩:=VR.gh.1 hx;exact go hc (by simp only[execOp,he]) (Option.some.inj h)
  ·rename_i f a b hc;rw[hc]at hx;have he:=VR.ae.1 hx;exact go hc (by simp only[execOp,he]) (Option.some.inj h)
  ·cases h
 case binOp op t a b yt=>
  simp only[j2]at h;split at h
  ·rename_i r he;obtain⟨p,hs,Yt⟩:=CJ (r:=r.1) (s':=r.2) he (hρ a) (hρ b);obtain⟨r1,r2⟩:=r;dsimp only at hs Yt h;subst hs;cases h;refine⟨SH.cn _ _,fun ob=>?_⟩;obtain⟨YG,hp⟩:=ob;exact⟨YG,.uB fun w=>⟨.bool r1,Yt _ _ _ hp,VR.ae.2 rfl⟩⟩
  split at h
  ·rename_i p q hab;cases h;refine⟨SH.cn _ _,fun ob=>?_⟩;obtain⟨YG,hle⟩:=ob;obtain⟨hx,hy,rfl⟩:=vp hab (hρ a) (hρ b);refine⟨YG,.uB fun w=>⟨.string (p++q),?_,VR.ae.2 rfl⟩⟩;rw[hx,hy];exact tD w t a b hle
  split at h
  ·exact Zc (o:={ dst:=dst,op:=.binOp op t a b yt,type:=type,pos:=pos,after:=aft,guard:=guard }) rfl _ h
  ·split at h
   ·cases he:xh E t (bq E tm a) (bq E tm b) s with
    | none=>
     rw[he]at h;rw[hnf _ _ _ _ _ rfl]at h;simp only[W5]at h;exact Zc (o:={ dst:=dst,op:=.binOp _ t a b yt,type:=type,pos:=pos,after:=aft,guard:=guard }) rfl _ h
    | some p=>
     obtain⟨r,s1⟩:=p;rw[he]at h;cases h;have hs:=(oP (w:=w) he (hρ a) (hρ b)).1;subst hs;refine⟨.refl _,fun ob=>⟨ob,.uB fun w=>⟨.bool r,?_,VR.ae.2 rfl⟩⟩⟩;obtain⟨_,h1,h2,h3,_⟩:=oP (w:=w) he (hρ a) (hρ b);simp only[Wf,h2,V3,h3,h1,Wk]
   ·cases he:xh E t (bq E tm a) (bq E tm b) s with
    | none=>
     rw[he]at h;rw[hnf _ _ _ _ _ rfl]at h;simp only[W5]at h;exact Zc (o:={ dst:=dst,op:=.binOp _ t a b yt,type:=type,pos:=pos,after:=aft,guard:=guard }) rfl _ h
    | some p=>
     obtain⟨r,s1⟩:=p;rw[he]at h;cases h;have hs:=(oP (w:=w) he (hρ a) (hρ b)).1;subst hs;refine⟨.refl _,fun ob=>⟨ob,.uB fun w=>⟨.bool !r,?_,VR.ae.2 rfl⟩⟩⟩;obtain⟨_,h1,h2,_,h3⟩:=oP (w:=w) he (hρ a) (hρ b);simp only[Wf,h2,V3,h3,h1,Wk]
   ·cases h
 case unOp op t a=>exact Zc (o:={ dst:=dst,op:=.unOp op t a,type:=type,pos:=pos,after:=aft,guard:=guard }) rfl _ h
 case makeInterface t a=>
  simp only[j2]at h;split at h
  ·cases h
  ·rename_i d hnd hd;refine vV (z:=some _) h fun x0 e w=>?_;cases e;refine⟨.iface t (ρ a),?_,VR.dr.2 ⟨_,rfl,hρ a⟩⟩;simp only[Instr.makeInterface,Wf,run_underlying (by assumption),V3];cases d<;>first|rfl|exact (hnd _ rfl).elim
  ·cases h
 case makeFunc fn a b=>
  simp only[j2]at h;split at h
  ·refine vV (z:=some _) h fun x0 e w=>?_;cases e;refine⟨_,rfl,VR.eH.2 ⟨_,_,?_,ir hρ a,ir hρ b⟩⟩;rw[kG a,kG b]
  ·cases h
 case slice t a lo hi mx=>
  simp only[j2]at h;split at h
  ·rename_i r hc;refine vsV (z:=some r) h fun x0 s1 e=>?_;cases e;have h1:=(mE (w:=w) hc (hρ a) (fH hρ lo) (fH hρ hi) (fH hρ mx)).1;refine⟨h1,fun ob=>⟨((mE (w:=w) hc (hρ a) (fH hρ lo) (fH hρ hi) (fH hρ mx)).2 ob).1,fun w=>((mE (w:=w) hc (hρ a) (fH hρ lo) (fH hρ hi) (fH hρ mx)).2 ob).2⟩⟩
  ·split at h
   ·rename_i l hl;obtain⟨p0,_,_,_,_,rfl,_⟩:=zK hl;cases h
    have key:∀ w,s.dD p0.2/\(p0.2.ob->s.ob/\∃ yv,(Instr.sliceAt t (ρ a) (lo.map ρ) (hi.map ρ) (mx.map ρ)).run E.P w=.ok yv w/\VR ν p0.1 yv):=fun w=>by
     obtain⟨p,hp,h1,h2⟩:=sW (w:=w) hl (hρ a) (fH hρ lo) (fH hρ hi) (fH hρ mx);rw[Wl.1 hp]at h1 h2;exact⟨h1,h2⟩
    exact⟨(key w).1,fun ob=>⟨((key w).2 ob).1,.uB fun w=>((key w).2 ob).2⟩⟩
   split at h
   ·exact Zc (o:={ dst:=dst,op:=.slice t a lo hi mx,type:=type,pos:=pos,after:=aft,guard:=guard }) rfl _ h
   ·cases h
 case fieldAddr t a f=>exact vV h fun x0 e w=>nq e (hρ a)
 case field t a f=>
  simp only[j2]at h;split at h
  ·exact Zc (o:={ dst:=dst,op:=.field t a f,type:=type,pos:=pos,after:=aft,guard:=guard }) rfl _ h
  ·exact vV h fun x0 e w=>vS e (hρ a)
 case indexAddr t a i=>
  refine vsV h fun x0 s1 e=>?_;exact⟨(iD (w:=w) e (hρ a) (hρ i)).1,fun ob=>⟨((iD (w:=w) e (hρ a) (hρ i)).2 ob).1,fun w=>((iD (w:=w) e (hρ a) (hρ i)).2 ob).2⟩⟩
 case index t a i=>
  refine vsV h fun x0 s1 e=>?_;exact⟨(mF (w:=w) e (hρ a) (hρ i)).1,fun ob=>⟨((mF (w:=w) e (hρ a) (hρ i)).2 ob).1,fun w=>((mF (w:=w) e (hρ a) (hρ i)).2 ob).2⟩⟩
 case lookup t m k ok=>exact lsV h fun x0 s1 e=>ta e hr (hρ m) (hρ k)
 case typeAssert a xt at_ ok=>
  simp only[j2]at h;split at h
  ·exact Zc (o:={ dst:=dst,op:=.typeAssert a xt at_ ok,type:=type,pos:=pos,after:=aft,guard:=guard }) rfl _ h
  ·exact vV h fun x0 e w=>lK (xt:=xt) e (hρ a)
 case extract t i=>
  simp only[j2]at h;split at h
  ·rename_i l hl;refine vV h fun x0 e w=>?_;obtain⟨a,he,ha⟩:=SV.yi hl (hρ t);obtain⟨y,hy,hv⟩:=ha.get e;refine⟨y,?_,hv⟩;rw[he];simp[Instr.extract,hy]
  ·cases h
 case call c=>
  obtain⟨callee,args,ats⟩:=c;cases callee with
  | value f=>cases hf
  | invoke r n=>cases hf
  | builtin b=>
   simp only[j2]at h;split at h
   ·rename_i r hc;obtain⟨x0,s1⟩:=r
    have hx:x0=x/\s1=s':=by
     have:=Option.some.inj h;simpa using this
    obtain⟨rfl,rfl⟩:=hx;have harr:args.map ρ=(args.toList.map ρ).toArray:=by apply Array.ext';simp
    have ha:=ir hρ args
    have look:∀ {y:Value},(builtin b ats type (args.map fun|.const _=>true|_=>false) (args.toList.map ρ).toArray).run E.P w=.ok (.value y) w->VR ν x0 y->
      eS E (execOp ρ { dst:=dst,op:=.call { callee:=.builtin b,args:=args,argTypes:=ats },type:=type,pos:=pos,after:=aft,guard:=guard }) ν w x0 true:=by
     intro y h1 h2;refine⟨⟨y,?_,h2⟩,by intro h;cases h⟩;simp only[execOp,resolve,harr];exact h1
    cases b<;>try cases hf
    case h_1.cap.refl=>
     simp only[gl]at hc;split at hc
     ·rename_i t ts z Z1 hargs;cases hz:vm E t z with
      | none=>rw[hz]at hc;cases hc
      | some y0=>
      rw[hz]at hc;cases hc;rw[hargs]at ha;obtain⟨y,ys,hl,hy,ZQ⟩:=ha.cons_inv;obtain rfl:=ZQ.ay;obtain⟨yv,Yt,hv⟩:=yM (w:=w) (ats:=ats) (ty:=type) hz (by rw[kC Z1];simp) hy;refine⟨.refl _,fun ob=>⟨ob,look (y:=yv) ?_ hv⟩⟩;rw[hl];simp only[builtin,Wf,Yt,V3,Wk]
     ·cases hc
    case h_1.len.refl=>
     simp only[gl]at hc;split at hc
     ·rename_i t ts z Z1 hargs;cases hz:vi E t z s with
      | none=>rw[hz]at hc;cases hc
      | some y0=>
      rw[hz]at hc;cases hc;rw[hargs]at ha;obtain⟨y,ys,hl,hy,ZQ⟩:=ha.cons_inv;obtain rfl:=ZQ.ay;obtain⟨yv,Yt,hv⟩:=y7 (ats:=ats) (ty:=type) hz (by rw[kC Z1];simp) hy hr;refine⟨.refl _,fun ob=>⟨ob,look (y:=yv) ?_ hv⟩⟩;rw[hl];simp only[builtin,Wf,Yt,V3,Wk]
     ·cases hc
    all_goals (simp only[gl]at hc;cases hc)
   ·exact Zc (o:={ dst:=dst,op:=.call { callee:=.builtin b,args:=args,argTypes:=ats },type:=type,pos:=pos,after:=aft,guard:=guard }) rfl _ h
theorem xX {src dst:TypeId}{a x:SV}{xv:Value}(h:my E src dst a s=some x)(hr:HR ν M w0 s w)(ha:VR ν a xv):∃ y,(convert src dst xv).run E.P w=.ok y w/\VR ν x y:=by
 unfold my at h;split at h
 ·rename_i e i off len cap hs hd;split at h
  ·rename_i xs el fz ext mk he hl;revert h;cases hb:Nat.ble (off+len) xs.length
   ·intro h;cases h
   ·intro h;simp only[WE]at h;obtain⟨ns,hbs,rfl⟩:=Wg.1 h;have hg:=Wu hb;obtain⟨b,hb,_,rfl⟩:=VR.aL.1 ha;obtain⟨_,_,b',o,Yy,ho,YA,_⟩:=hr.look hl;rw[hb]at Yy;cases Yy;obtain⟨ys,rest,rfl,Zn,_⟩:=YA;have hlen:=Zn.length
    have Zw:=run_loadCells (P:=E.P) (w:=w) (b:=b.1) (off:=off) (n:=len) (vs:=(ys.drop off).take len) (by
     intro k hk;rw[cV ho,WN,if_pos hk,W7];have:off+k<ys.length:=by omega
     simp[WD this]) (by simp;omega)
    rw[nK hbs ((Zn.drop off).take len)]at Zw;refine⟨_,?_,VR.ae.2 rfl⟩;rw[run_convert_bytes_string w src dst e _ _ _ hs he hd,run_bytesToString w _ _ _ ns Zw,jW]
  ·cases h
 ·cases h
theorem DG {tm:fR}{o:Oper}{x:SV}{ρ:Operand->Value}(hf:ky o.op=true)(h:Es E tm o s=some [(.val x,s')])(hr:HR ν M w0 s w)(hρ:uD E ν tm ρ):
  s.dD s'/\(s'.ob->s.ob/\eS E (execOp ρ o) ν w x (looks o.op)):=by
 unfold Es at h;split at h
 ·rename_i a b c hop;split at h
  ·rename_i r YK;cases h;obtain⟨y,hy,hv⟩:=xX YK hr (hρ c);refine⟨.refl _,fun ob=>⟨ob,?_⟩⟩;have hl:looks o.op=true:=by rw[hop];rfl
   have:execOp ρ o=(do pure (.value (<- convert a b (ρ c)))):=by
    obtain⟨dst,op,type,pos,aft,guard⟩:=o;subst hop;rfl
   rw[hl,this];exact .Gn ⟨y,hy,hv⟩
  cases hp:gH E tm o with
  | none=>rw[hp]at h;cases h
  | some x0=>rw[hp]at h;cases h;exact⟨.refl _,fun ob=>⟨ob,qx (by rw[hop];rfl) hp hρ _⟩⟩
 ·rename_i op t a b yt hop;cases hfar:iF E t (bq E tm a) (bq E tm b) s
  ·rw[hfar]at h;simp only[W5]at h;exact tQ hf (fun a b c e=>by rw[hop]at e;cases e) (fun _ _ _ _ _ e=>by rw[hop]at e;cases e;exact hfar) h hr hρ
  ·rw[hfar]at h;cases h
 ·rename_i hn hn2;exact tQ hf (fun a b c e=>hn a b c e) (fun _ _ _ _ _ e=>(hn2 _ _ _ _ _ e).elim) h hr hρ
end
section
variable {E:Env}{ν:aP}{M:Own}{w0 w:World}{s s':SH}
section
variable {P:Program}{b:Frame}{a:Act}{k:List Item}{cs:List Frame}{ops:Array Oper}{i:Nat}{rest:List Nat}{o:Oper}{w':World}
theorem nR {y:Value}(ho:ops[i]?=some o)(hw:Region.wanted o (yielded ops a.tmps)=true)(hr:(o.semAt b.roundOf a.eval).run P w=.ok (.value y) w'):
  step P (lone (b.atR a (.inRegion ops (i::rest)::k)) cs w)=.next (lone (b.atR (a.put o.dst y) (.inRegion ops rest::k)) cs w'):=by
 have YR:=Frame.finish_atR b a ops i rest k y;rw[ho]at YR;refine Xv ?_;rw[stepGR_op ho hw];simp[stepG.apply,hr,YR]
theorem BX (ho:ops[i]?=some o)(hw:Region.wanted o (yielded ops a.tmps)=true)(hr:(o.semAt b.roundOf a.eval).run P w=.ok .skip w'):
  step P (lone (b.atR a (.inRegion ops (i::rest)::k)) cs w)=.next (lone (b.atR (a.put o.dst undef) (.inRegion ops rest::k)) cs w'):=by
 have YR:=Frame.finish_atR b a ops i rest k undef;rw[ho]at YR;refine Xv ?_;rw[stepGR_op ho hw];simp[stepG.apply,hr,YR]
theorem AZ {f:FuncId}{args:Array Value}(ho:ops[i]?=some o)(hw:Region.wanted o (yielded ops a.tmps)=true)(hr:(o.semAt b.roundOf a.eval).run P w=.ok (.enter f args) w'):
  step P (lone (b.atR a (.inRegion ops (i::rest)::k)) cs w)=.next (lone (Frame.enter P f args .normal) (b.atR a (.inRegion ops (i::rest)::k)::cs) w'):=by
 refine Xv ?_;rw[stepGR_op ho hw];simp[stepG.apply,hr,Frame.atR]
theorem A1 {l:Nat}{f:FuncId}{tmps:Array Value}{assign body:Code}(ho:ops[i]?=some o)(hw:Region.wanted o (yielded ops a.tmps)=true)
  (hr:(o.semAt b.roundOf a.eval).run P w=.ok (.round l f tmps assign body) w'):
  step P (lone (b.atR a (.inRegion ops (i::rest)::k)) cs w)=.next (lone (Frame.round l f tmps assign body .normal) (b.atR a (.inRegion ops (i::rest)::k)::cs) w'):=by
 refine Xv ?_;rw[stepGR_op ho hw];simp[stepG.apply,hr]
theorem step_defer {d:Deferred}(ho:ops[i]?=some o)(hw:Region.wanted o (yielded ops a.tmps)=true)(hr:(o.semAt b.roundOf a.eval).run P w=.ok (.defer d) w'):
  step P (lone (b.atR a (.inRegion ops (i::rest)::k)) cs w)=.next (lone (b.atR ({ a with defers:=d::a.defers }.put o.dst undef) (.inRegion ops rest::k)) cs w'):=by
 have YR:=Frame.finish_atR b { a with defers:=d::a.defers } ops i rest k undef;rw[ho]at YR;refine Xv ?_;rw[stepGR_op ho hw];simp only[stepG.apply,Sem.runT_eq,hr,Yj,GStep.bare_after];exact congrArg (fun fr=>GStep.go { frame:=fr,callers:=cs,status:=.running,dying:=none } w') YR
end
inductive KR (ν:aP):SI->Item->Prop
 | code (c:Code):KR ν (.code c) (.code c)
 | inBlock (id:Nat):KR ν (.inBlock id) (.inBlock id)
 | inLoop (c:Code):KR ν (.inLoop c) (.inLoop c)
 | inScope (c:Code):KR ν (.inScope c) (.inScope c)
 | reg (ops:Array Oper) (is:List Nat):KR ν (.reg ops is) (.inRegion ops is)
 | ε {i:Nat} {b:Nat × Nat} (h:ν i=some b):KR ν (.ε i) (.inRangeFunc b.1)
 | Δ {i:Nat} {b:Nat × Nat} (h:ν i=some b):KR ν (.Δ i) (.endRangeFunc b.1)
 | beginRound:KR ν .beginRound .beginRound
inductive tx (ν:aP):List SI->List Item->Prop
 | nil:tx ν [] []
 | cons {x:SI} {y:Item} {xs:List SI} {ys:List Item} (h:KR ν x y) (t:tx ν xs ys):tx ν (x::xs) (y::ys)
theorem KR.mono {ν':aP}(h:ν.Le ν'){x:SI}{y:Item}:KR ν x y->KR ν' x y
 | .code c=>.code c
 | .inBlock c=>.inBlock c
 | .inLoop c=>.inLoop c
 | .inScope c=>.inScope c
 | .reg a b=>.reg a b
 | .ε e=>.ε (h _ _ e)
 | .Δ e=>.Δ (h _ _ e)
 | .beginRound=>.beginRound
theorem tx.mono {ν':aP}(h:ν.Le ν'){x:List SI}{y:List Item}(k:tx ν x y):tx ν' x y:=by
 induction k with
 | nil=>exact .nil
 | cons hx _ ih=>exact .cons (hx.mono h) ih
def ev (a:Array Value):Operand->Value:=Act.eval { tmps:=a,defers:=[] }
theorem Act.oC (a:Act):a.eval=ev a.tmps:=by funext x;cases x<;>rfl
def GR (ν:aP)(E:Env):Prop:=∀ g i,E.G.lookup g=some i->∃ c,ν i=some (g,c)
theorem GR.mono {ν':aP}(h:ν.Le ν')(k:GR ν E):GR ν' E:=fun g i e=>let ⟨c,hc⟩:=k g i e;⟨c,h _ _ hc⟩
theorem j3.Na {tm:fR}{a:Array Value}(h:j3 ν tm a)(hg:GR ν E):uD E ν tm (ev a):=by
 intro x;cases x with
 | tmp t=>exact h.at t
 | const v=>exact VR.ae.2 rfl
 | global g=>
  simp only[bq];cases hl:E.G.lookup g with
  | none=>exact VR.ae.2 rfl
  | some i=>obtain⟨c,hc⟩:=hg g i hl;exact VR.aF.2 ⟨(g,c),hc,rfl⟩
 | func f=>exact VR.ae.2 rfl
theorem cH {a:Array Value}{d t:Nat}{y:Value}(h:t≠d):(a.setIfInBounds d y).getD t undef=a.getD t undef:=by
 rw[Wt,Wt,WO,if_neg (fun e=>h e.symm)]
theorem fE {a:Array Value}{d:Nat}{y:Value}(h:d<a.size):(a.setIfInBounds d y).getD d undef=y:=by
 rw[Wt,WO,if_pos rfl,if_pos h];rfl
def fW (a:Array Value)(o:Oper)(y:Value):Array Value:=match o.dst with|some d=>a.setIfInBounds d y|none=>a
theorem j3.putDst {tm:fR}{a:Array Value}(h:j3 ν tm a)(o:Oper){x:SV}{y:Value}(hx:VR ν x y):j3 ν (Go.Rx.putDst tm o x) (fW a o y):=by
 unfold Go.Rx.putDst fW;cases o.dst with
 | none=>exact h
 | some d=>exact h.set d hx
def oz (E:Env)(ops:Array Oper)(o:Oper)(a:Array Value)(w:World):Prop:=
 (Region.wanted o (yielded ops a)=true->∃ y,(execOp (ev a) o).run E.P w=.ok (.value y) w/\∀ d,o.dst=some d->y=a.getD d undef)/\
 (Region.wanted o (yielded ops a)=false->∀ d,o.dst=some d->undef=a.getD d undef)
def eG (M:Own)(w0:World)(B:Nat)(r:Obj):Prop:=w0.heap[B]?=some r/\¬ M B/\¬ M.r B/\M.h B
def rY (E:Env)(M:Own)(w0:World)(ops:Array Oper)(a:Array Value)(q:Nat × Nat):Prop:=
 ∃ o d so r,ops[q.1]?=some o/\late E ops (Region.before ops) a.size q.1=true/\o.dst=some d/\ub E o.op=some so/\(∀ ν i,OR ν i so r)/\eG M w0 q.2 r/\a.getD d undef=.pointer (some ⟨q.2,0,none⟩)
structure jU (E:Env)(ν:aP)(M:Own)(w0:World)(ops:Array Oper)(rem Yx:List Nat)(YU:List (Nat × Nat))(L:List Nat)(tm:fR)(a z:Array Value):Prop where
 nodup:L.Nodup
 ord:L.Pairwise fun i j=>((Region.before ops).getD i 0).testBit j=false
 irr:∀ i∈L,((Region.before ops).getD i 0).testBit i=false
 lt:∀ i∈L,i<ops.size
 remL:∀ i∈rem,i∈L\/i∈YU.map (·.1)
 sub:∀ i∈L,i∈rem\/i∈Yx
 ψ:∀ i∈rem,i ∉ Yx
 free:∀ p∈Yx,free ops (Region.before ops) p=true
 Z3:∀ p∈Yx,∀ j∈rem,((Region.before ops).getD p 0).testBit j=false
 tm:j3 ν tm z
 size:a.size=z.size
 agree:∀ t,(∀ p∈L,p∈Yx->∀ o,ops[p]?=some o->o.dst≠some t)->(∀ q∈YU,∀ o,ops[q.1]?=some o->o.dst≠some t)->a.getD t undef=z.getD t undef
 pure:∀ p∈Yx,∀ o,ops[p]?=some o->looks o.op=false->∀ w,oz E ops o z w
 Zp:∀ q∈YU,q.1∈rem
 δ:∀ q∈YU,q.1 ∉ L
 ZW:∀ q∈YU,((Region.before ops).getD q.1 0).testBit q.1=false
 YY:∀ q∈YU,rY E M w0 ops a q
 γ:(YU.map (·.1)).Nodup
 ZL:∀ q∈YU,∀ p∈L,((Region.before ops).getD q.1 0).testBit p=false
def JL (E:Env)(ops:Array Oper)(Yx:List Nat)(z:Array Value)(w:World):Prop:=∀ p∈Yx,∀ o,ops[p]?=some o->oz E ops o z w
def zy (E:Env)(ν:aP)(s:SH)(ops:Array Oper)(Yx:List Nat)(z:Array Value):Prop:=∀ M w0 w,HR ν M w0 s w->JL E ops Yx z w
theorem jU.mono {ν':aP}(h:ν.Le ν'){ops:Array Oper}{rem Yx L:List Nat}{YU:List (Nat × Nat)}{tm:fR}{a z:Array Value}(d:jU E ν M w0 ops rem Yx YU L tm a z):jU E ν' M w0 ops rem Yx YU L tm a z:=
 ⟨d.nodup,d.ord,d.irr,d.lt,d.remL,d.sub,d.ψ,d.free,d.Z3,d.tm.mono h,d.size,d.agree,d.pure,d.Zp,d.δ,d.ZW,d.YY,d.γ,d.ZL⟩
theorem rY.dz {M':Own}{w0':World}{ops:Array Oper}{a:Array Value}{q:Nat × Nat}(h:rY E M w0 ops a q)(k:∀ r,eG M w0 q.2 r->eG M' w0' q.2 r):rY E M' w0' ops a q:=by
 obtain⟨o,d,so,r,h1,h2,h3,h4,h5,h6,h7⟩:=h;exact⟨o,d,so,r,h1,h2,h3,h4,h5,k r h6,h7⟩
theorem jU.dz {M':Own}{w0':World}{ops:Array Oper}{rem Yx L:List Nat}{YU:List (Nat × Nat)}{tm:fR}{a z:Array Value}(d:jU E ν M w0 ops rem Yx YU L tm a z)
  (k:∀ q∈YU,∀ r,eG M w0 q.2 r->eG M' w0' q.2 r):jU E ν M' w0' ops rem Yx YU L tm a z:=
 ⟨d.nodup,d.ord,d.irr,d.lt,d.remL,d.sub,d.ψ,d.free,d.Z3,d.tm,d.size,d.agree,d.pure,d.Zp,d.δ,d.ZW,fun q hq=>(d.YY q hq).dz (k q hq),d.γ,d.ZL⟩
theorem rV {ops:Array Oper}{bf:Array Nat}{nt i:Nat}(h:late E ops bf nt i=true):∃ o so d,ops[i]?=some o/\ub E o.op=some so/\o.guard=none/\o.dst=some d/\d<nt/\
  ∀ j q,j≠i->ops[j]?=some q->(bf.getD j 0).testBit i=true\/((∀ x∈q.op.operands,x≠.tmp d)/\q.dst≠some d/\d ∉ dq ops q):=by
 unfold late at h;cases ho:ops[i]? with
 | none=>rw[ho]at h;cases h
 | some o=>
  rw[ho]at h;simp only[V6]at h;obtain⟨⟨h1,h2⟩,h3⟩:=h;obtain⟨so,hso⟩:=Option.isSome_iff_exists.1 h1;cases hd:o.dst with
  | none=>rw[hd]at h3;cases h3
  | some d=>
   rw[hd]at h3;simp only[V6,Wn]at h3;obtain⟨h3,h5⟩:=h3;refine⟨o,so,d,rfl,hso,by simpa using h2,hd,dw.1 h3,fun j q Yu hq=>?_⟩;have hj:j<ops.size:=(VY.1 hq).1;have h6:=h5 j (Xd.2 hj);rw[hq]at h6;simp only[XH,XV,Yg]at h6;rcases h6 with (h6|h6)|⟨h6,h7⟩
   ·exact absurd (WM h6) Yu
   ·exact .inl h6
   ·refine .inr ⟨fun x hx e=>?_,fun e=>?_,fun hm=>?_⟩
    ·subst e;have:d∈jd q:=Xq _ (List.mem_filterMap.2 ⟨_,by simpa using hx,rfl⟩);rw[<- W6]at this;rw[this]at h6;cases h6
    ·have:d∈jd q:=Xe _ (by simp[e]);rw[<- W6]at this;rw[this]at h6;cases h6
    ·rw[<- W6]at hm;rw[hm]at h7;cases h7
theorem pJ {op:Op}{so:SO}(h:ub E op=some so):∃ t r,op=.alloc t/\(∀ ν i,OR ν i so r)/\(∀ c e f,r=.cells c e f->True)/\
  (∀ (ρ:Operand->Value) (o:Oper),o.op=op->∀ w,(execOp ρ o).run E.P w=.ok (.value (.pointer (some ⟨w.heap.size,0,none⟩))) { w with heap:=w.heap.push r })/\
  (∀ (tm:fR) (o:Oper) (s:SH),o.op=op->j2 E tm o s=(eW so s).map fun p=>[(.val (.ptr p.1 0),p.2)]):=by
 unfold ub at h;split at h
 ·rename_i t;obtain⟨info,hi,h⟩:=Wi.1 h;obtain⟨z,hz,h⟩:=Wi.1 h;obtain⟨l,hl,rfl⟩:=Wg.1 h;refine⟨t,.cells z.cells t,rfl,fun ν i=>?_,fun _ _ _ _=>trivial,fun ρ o ho w=>?_,fun tm o s ho=>?_⟩
  ·have YJ:=SV.lP hl (VR.ae.2 rfl:VR ν (.v z) z);exact⟨z.cells.toList,[],by simp,YJ,by simpa[s8] using YJ.length⟩
  ·obtain⟨dst,op,type,pos,aft,guard⟩:=o;dsimp only at ho;subst ho;simp[execOp,Instr.alloc,dC hi hz,newVar,newRow]
  ·obtain⟨dst,op,type,pos,aft,guard⟩:=o;dsimp only at ho;subst ho;simp only[j2,xf,hi,hz,Gk,hl,WG,V9];cases eW (.row l t (0,0) none) s with
   | none=>rfl
   | some p=>rfl
 ·cases h
theorem jQ {ops:Array Oper}{bf:Array Nat}{i:Nat}(h:free ops bf i=true):∃ o,ops[i]?=some o/\ky o.op=true/\
  ∀ d,o.dst=some d->(∀ x∈o.op.operands,x≠.tmp d)/\(d ∉ dq ops o)/\
   ∀ j q,j≠i->ops[j]?=some q->(bf.getD j 0).testBit i=true\/((∀ x∈q.op.operands,x≠.tmp d)/\q.dst≠some d/\d ∉ dq ops q):=by
 unfold free at h;cases ho:ops[i]? with
 | none=>rw[ho]at h;cases h
 | some o=>
  rw[ho]at h;simp only[V6]at h;obtain⟨h1,h2⟩:=h;refine⟨o,rfl,h1,fun d hd=>?_⟩;rw[hd]at h2;simp only[V6,XV,Yg,Wn]at h2;obtain⟨⟨h3,h4⟩,h5⟩:=h2;refine⟨fun x hx e=>?_,fun hm=>?_,fun j q Yu hq=>?_⟩
  ·subst e;have:d∈tmpsOf o:=List.mem_filterMap.2 ⟨_,by simpa using hx,rfl⟩;rw[<- W6]at this;rw[this]at h3;cases h3
  ·rw[<- W6]at hm;rw[hm]at h4;cases h4
  ·have hj:j<ops.size:=(VY.1 hq).1;have h6:=h5 j (Xd.2 hj);rw[hq]at h6;simp only[XH,XV,Yg]at h6;rcases h6 with (h6|h6)|⟨h6,h7⟩
   ·exact absurd (WM h6) Yu
   ·exact .inl h6
   ·refine .inr ⟨fun x hx e=>?_,fun e=>?_,fun hm=>?_⟩
    ·subst e;have:d∈jd q:=Xq _ (List.mem_filterMap.2 ⟨_,by simpa using hx,rfl⟩);rw[<- W6]at this;rw[this]at h6;cases h6
    ·have:d∈jd q:=Xe _ (by simp[e]);rw[<- W6]at this;rw[this]at h6;cases h6
    ·rw[<- W6]at hm;rw[hm]at h7;cases h7
end
section
variable {E:Env}{ν:aP}{M:Own}{w0 w:World}{s s':SH}
variable {ops:Array Oper}{rem Yx L:List Nat}{YU:List (Nat × Nat)}{tm:fR}{a z:Array Value}
def sR (ops:Array Oper)(YU:List (Nat × Nat))(h:Nat):Prop:=∀ q∈YU,((Region.before ops).getD h 0).testBit q.1=false
theorem jU.xd (d:jU E ν M w0 ops rem Yx YU L tm a z){q:Nat × Nat}(hq:q∈YU){o1:Oper}(ho1:ops[q.1]?=some o1){t:Nat}(ht:o1.dst=some t){h:Nat}(Yu:h≠q.1)(hb:((Region.before ops).getD h 0).testBit q.1=false)
  {o:Oper} (ho:ops[h]?=some o):(∀ x∈o.op.operands,x≠.tmp t)/\o.dst≠some t/\t ∉ dq ops o:=by
 obtain⟨o2,d2,so,r,h1,h2,h3,_⟩:=d.YY q hq;obtain⟨o3,so3,d3,h4,_,_,h5,_,h6⟩:=rV h2;rw[ho1]at h1 h4;cases h1;cases h4;rw[ht]at h5;cases h5;rcases h6 h o Yu ho with hx|hx
 ·rw[hb]at hx;cases hx
 ·exact hx
theorem jU.named {h:Nat}(d:jU E ν M w0 ops rem Yx YU (h::L) tm a z)(hl:sR ops YU h){o:Oper}(ho:ops[h]?=some o){t:Nat}(ht:Operand.tmp t∈o.op.operands\/t∈dq ops o):
  a.getD t undef=z.getD t undef:=by
 refine d.agree t (fun p hp Φ q hq e=>?_) (fun q hq o1 ho1 e=>?_)
 ·obtain⟨q',ZN,_,hf⟩:=jQ (d.free p Φ);rw[hq]at ZN;cases ZN;obtain⟨h1,h2,h3⟩:=hf t e;by_cases hph:p=h
  ·subst hph;rw[hq]at ho;cases ho;rcases ht with ht|ht
   ·exact h1 _ ht rfl
   ·exact h2 ht
  ·rcases h3 h o (fun e=>hph e.symm) ho with hb|⟨h4,_,h6⟩
   ·have hpL:p∈L:=by
     rcases V8.1 hp with e|e
     ·exact absurd e hph
     ·exact e
    have:=(W2.1 d.ord).1 p hpL;rw[this]at hb;cases hb
   ·rcases ht with ht|ht
    ·exact h4 _ ht rfl
    ·exact h6 ht
 ·have Yu:h≠q.1:=fun e=>d.δ q hq (e ▸ Wj);obtain⟨h1,_,h3⟩:=d.xd hq ho1 e Yu (hl q hq) ho;rcases ht with ht|ht
  ·exact h1 _ ht rfl
  ·exact h3 ht
theorem jU.NQ {h:Nat}(d:jU E ν M w0 ops rem Yx YU (h::L) tm a z)(hl:sR ops YU h){o:Oper}(ho:ops[h]?=some o):∀ x∈o.op.operands,ev a x=ev z x:=by
 intro x hx;cases x with
 | tmp t=>exact d.named hl ho (.inl hx)
 | const v=>rfl
 | global g=>rfl
 | func f=>rfl
theorem ZJ {a z:Array Value}(hs:a.size=z.size){t:Nat}(h:a.getD t undef=z.getD t undef):a[t]?=z[t]?:=by
 by_cases ht:t<a.size
 ·rw[WT ht,WT (by omega)];rw[Wt,Wt,WT ht,WT (by omega)]at h;simpa using h
 ·rw[W9 (by omega),W9 (by omega)]
theorem jU.wanted {h:Nat}(d:jU E ν M w0 ops rem Yx YU (h::L) tm a z)(hl:sR ops YU h){o:Oper}(ho:ops[h]?=some o):Region.wanted o (yielded ops a)=Region.wanted o (yielded ops z):=by
 unfold Region.wanted;cases hg:o.guard with
 | none=>rfl
 | some jw=>
  obtain⟨j,want⟩:=jw;simp only
  have:yielded ops a j=yielded ops z j:=by
   unfold yielded;cases hj:(ops[j]?).bind (·.dst) with
   | none=>rfl
   | some t=>
    have ht:t∈dq ops o:=by
     unfold dq;rw[hg];simp[hj]
    simp only[V9,ZJ d.size (d.named hl ho (.inr ht))]
  rw[this]
theorem fe {o:Oper}(h:ky o.op=true):(∀ cs b,o.op≠.select cs b)/\∀ c,o.op≠.defer c:=by
 constructor
 ·intro cs b e;rw[e]at h;cases h
 ·intro c e;rw[e]at h;cases h
theorem tw {o:Oper}{y:Value}:(fW a o y).size=a.size:=by unfold fW;cases o.dst<;>simp
theorem rY.put {q:Nat × Nat}(h:rY E M w0 ops a q){o:Oper}{y:Value}(hs:∀ o1 t,ops[q.1]?=some o1->o1.dst=some t->o.dst≠some t):rY E M w0 ops (fW a o y) q:=by
 obtain⟨o1,d,so,r,h1,h2,h3,h4,h5,h6,h7⟩:=h;refine⟨o1,d,so,r,h1,by rw[tw];exact h2,h3,h4,h5,h6,?_⟩;rw[<- h7];unfold fW;cases hd:o.dst with
 | none=>rfl
 | some u=>exact cH (fun e=>hs o1 d h1 h3 (by rw[hd,e]))
theorem jU.pending {h:Nat}(d:jU E ν M w0 ops rem Yx YU (h::L) tm a z)(hp:h∈Yx)(Ze:JL E ops Yx z w){b:Frame}{df:List Deferred}{k:List Item}{cs:List Frame}:
  ∃ a',step E.P (lone (b.atR ⟨a,df⟩ (.inRegion ops (h::L)::k)) cs w)=.next (lone (b.atR ⟨a',df⟩ (.inRegion ops L::k)) cs w)/\jU E ν M w0 ops rem Yx YU L tm a' z:=by
 obtain⟨o,ho,hfl,_⟩:=jQ (d.free h hp);obtain⟨hns,hnd⟩:=fe hfl;have hruns:=Ze h hp o ho;have hl:sR ops YU h:=fun q hq=>d.Z3 h hp q.1 (d.Zp q hq);have hw:=d.wanted hl ho;have hnotrem:h ∉ rem:=fun hr=>d.ψ h hr hp
 have close:∀ y,(∀ t,o.dst=some t->y=z.getD t undef)->jU E ν M w0 ops rem Yx YU L tm (fW a o y) z:=by
  intro y hy
  refine⟨(W3.1 d.nodup).2,(W2.1 d.ord).2,fun i hi=>d.irr i (Wc _ hi),fun i hi=>d.lt i (Wc _ hi),fun i hi=>?_,fun i hi=>d.sub i (Wc _ hi),
   d.ψ,d.free,d.Z3,d.tm,?_,fun t ht htl=>?_,d.pure,d.Zp,fun q hq hm=>d.δ q hq (Wc _ hm),d.ZW,fun q hq=>(d.YY q hq).put fun o1 t h1 h2=>?_,d.γ,fun q hq p hp=>d.ZL q hq p (Wc _ hp)⟩
  ·rcases d.remL i hi with h1|h1
   ·rcases V8.1 h1 with rfl|h1
    ·exact absurd hi hnotrem
    ·exact .inl h1
   ·exact .inr h1
  ·rw[tw];exact d.size
  ·unfold fW;cases hd:o.dst with
   | none=>
    refine d.agree t (fun p hp' Φ q hq e=>?_) htl;rcases V8.1 hp' with rfl|h1
    ·rw[ho]at hq;cases hq;rw[hd]at e;cases e
    ·exact ht p h1 Φ q hq e
   | some u=>
    by_cases etu:t=u
    ·subst etu;by_cases YX:t<a.size
     ·rw[fE YX];exact hy t hd
     ·have h1:a.size<=t:=Nat.not_lt.mp YX;have h2:z.size<=t:=by rw[<- d.size];exact h1
      have h3:(a.setIfInBounds t y).size<=t:=by simpa using h1
      rw[Wt,W9 h3,Wt,W9 h2]
    ·rw[cH etu];refine d.agree t (fun p hp' Φ q hq e=>?_) htl;rcases V8.1 hp' with rfl|h1
     ·rw[ho]at hq;cases hq;rw[hd]at e;exact etu (Option.some.inj e).symm
     ·exact ht p h1 Φ q hq e
  ·have Yu:h≠q.1:=fun e=>d.δ q hq (e ▸ Wj);exact (d.xd hq h1 h2 Yu (hl q hq) ho).2.1
 cases hwb:Region.wanted o (yielded ops z)
 ·-- not wanted
  refine⟨fW a o undef,?_,close undef (hruns.2 hwb)⟩;have hs:=stepR_op_skip (P:=E.P) (b:=b) (a:=⟨a,df⟩) (k:=k) (cs:=cs) (w:=w) (ops:=ops) (i:=h) (rest:=L) (by rw[ho];simp[hw,hwb]);rw[hs,ho];congr 3;unfold fW Act.put;simp only[V9];cases o.dst<;>rfl
 ·obtain⟨y,Yt,hy⟩:=hruns.1 hwb;refine⟨fW a o y,?_,close y hy⟩;have hc:execOp (ev a) o=execOp (ev z) o:=Go.execOp_congr o hns (d.NQ hl ho)
  have hs:=nR (P:=E.P) (b:=b) (a:=⟨a,df⟩) (k:=k) (cs:=cs) (w:=w) (ops:=ops) (i:=h) (rest:=L) (w':=w) ho (by simp only;rw[hw,hwb]) (by
   rw[Oper.semAt_eq _ _ _ hnd,Act.oC];simp only;rw[hc];exact Yt)
  rw[hs];congr 3;unfold fW Act.put;cases o.dst<;>rfl
structure dh (M:Own)(w0:World)(M1:Own)(w1:World):Prop where
 size:w0.heap.size<=w1.heap.size
 os:w1.os=w0.os
 tape:w1.tape=w0.tape
 output:w1.output=w0.output
 frame:∀ b,b<w0.heap.size->¬ M b->w1.heap[b]?=w0.heap[b]?/\¬ M1 b
 own:∀ b,w1.heap.size<=b\/M1 b->w0.heap.size<=b\/M b
 ro:∀ b,M1.r b↔M.r b
 hid:∀ b,M1.h b->w0.heap.size<=b\/M b
 rlt:∀ b,M1.r b->b<w1.heap.size
theorem dh.refl (h:∀ b,M.r b->b<w0.heap.size)(hh:∀ b,¬ M.h b):dh M w0 M w0:=
 ⟨Wx _,rfl,rfl,rfl,fun _ _ h=>⟨rfl,h⟩,fun _ h=>h,fun _=>Iff.rfl,fun b h=>absurd h (hh b),h⟩
theorem HR.xy {M1:Own}{w1:World}(B:dh M w0 M1 w1)(h:HR ν M1 w1 s w):HR ν M w0 s w:=
 ⟨h.full,h.dom,h.fresh,fun i hi x hx=>let ⟨b,o,h1,h2,h3,h4⟩:=h.obj i hi x hx;⟨b,o,h1,h2,h3,fun e=>B.own _ (h4 e)⟩,h.inj,Wh B.size h.size,
  fun b hb hM=>by rw[h.frame b (Wz hb B.size) (B.frame b hb hM).2,(B.frame b hb hM).1],fun i hi x hx e b hb=>(B.ro _).1 (h.ro i hi x hx e b hb),h.os.trans B.os,h.tape.trans B.tape,h.output.trans B.output⟩
def Own.rf (M1:Own)(n B:Nat):Own:=⟨fun b=>(M1 b\/n<=b)/\b≠B,M1.r,fun b=>M1.h b\/b=B⟩
theorem HR.rf {M1:Own}{w1:World}(h:HR ν M1 w1 s w)(r:Obj):HR ν (M1.rf w1.heap.size w.heap.size) { w with heap:=w.heap.push r } s { w with heap:=w.heap.push r }:=by
 refine⟨h.full,h.dom,h.fresh,fun i hi x hx=>?_,h.inj,Wx _,fun _ _ _=>rfl,h.ro,rfl,rfl,rfl⟩;obtain⟨b,o,h1,h2,h3,h4⟩:=h.obj i hi x hx;have YD:b.1<w.heap.size:=(VY.1 h2).1;refine⟨b,o,h1,?_,h3,fun e=>.inr ⟨(h4 e).symm,by omega⟩⟩;show (w.heap.push r)[b.1]?=some o;rw[Xk,if_neg (by omega)];exact h2
theorem dh.rf {M1:Own}{w1:World}(B:dh M w0 M1 w1)(h:HR ν M1 w1 s w)(r:Obj):dh M w0 (M1.rf w1.heap.size w.heap.size) { w with heap:=w.heap.push r }:=by
 have YX:=h.size;have hB:=B.size;refine⟨by simp;omega,h.os.trans B.os,h.tape.trans B.tape,h.output.trans B.output,fun b hb hM=>?_,fun b hb=>?_,B.ro,fun b hb=>?_,fun b hb=>?_⟩
 ·obtain⟨h1,h2⟩:=B.frame b hb hM;refine⟨?_,fun hc=>?_⟩
  ·show (w.heap.push r)[b]?=_;rw[Xk,if_neg (by omega),h.frame b (by omega) h2,h1]
  ·rcases hc.1 with hc|hc
   ·exact h2 hc
   ·omega
 ·rcases hb with hb|hb
  ·have hb:(w.heap.push r).size<=b:=hb;simp at hb;exact .inl (by omega)
  ·exact B.own b hb.1.symm
 ·rcases hb with hb|hb
  ·exact B.hid b hb
  ·exact .inl (by omega)
 ·have:=B.rlt b hb;show b<(w.heap.push r).size;simp;omega
theorem eG.rf {M1:Own}{w1:World}(h:HR ν M1 w1 s w)(r:Obj){b:Nat}{r':Obj}(k:eG M1 w1 b r'):eG (M1.rf w1.heap.size w.heap.size) { w with heap:=w.heap.push r } b r':=by
 obtain⟨k1,k2,k3,k4⟩:=k;have YD:b<w1.heap.size:=(VY.1 k1).1;have YX:=h.size;refine⟨?_,fun hc=>?_,k3,.inl k4⟩
 ·show (w.heap.push r)[b]?=some r';rw[Xk,if_neg (by omega),h.frame b YD k2,k1]
 ·rcases hc.1 with hc|hc
  ·exact k2 hc
  ·omega
theorem eG.self {M1:Own}{w1:World}(h:HR ν M1 w1 s w)(hr:∀ b,M1.r b->b<w1.heap.size)(r:Obj):eG (M1.rf w1.heap.size w.heap.size) { w with heap:=w.heap.push r } w.heap.size r:=by
 refine⟨?_,fun hc=>hc.2 rfl,fun hc=>?_,.inr rfl⟩
 ·show (w.heap.push r)[w.heap.size]?=some r;simp
 ·have:=hr _ hc;have:=h.size;omega
theorem jU.LF (Zr:gx ops=true){M1:Own}{w1:World}{h:Nat}(d:jU E ν M1 w1 ops rem Yx YU (h::L) tm a z)(hr:HR ν M1 w1 s w)(η:∀ b,M1.r b->b<w1.heap.size)(hrem:h∈rem)(hlate:late E ops (Region.before ops) a.size h=true)
  {b:Frame} {df:List Deferred} {k:List Item} {cs:List Frame}:
  ∃ a' r,step E.P (lone (b.atR ⟨a,df⟩ (.inRegion ops (h::L)::k)) cs w)=.next (lone (b.atR ⟨a',df⟩ (.inRegion ops L::k)) cs { w with heap:=w.heap.push r })/\a'.size=a.size/\
   jU E ν (M1.rf w1.heap.size w.heap.size) { w with heap:=w.heap.push r } ops rem Yx ((h,w.heap.size)::YU) L tm a' z:=by
 obtain⟨o,so,t,ho,hso,hg,hd,YD,hnames⟩:=rV hlate;obtain⟨ty,r,hop,YA,_,Yt,_⟩:=pJ hso;have Yt:=Yt (ev a) o rfl w;have Zo:∀ q∈YU,q.1≠h:=fun q hq e=>d.δ q hq (e ▸ Wj);refine⟨a.setIfInBounds t (.pointer (some ⟨w.heap.size,0,none⟩)),r,?_,by simp,?_⟩
 ·have hs:=nR (P:=E.P) (b:=b) (a:=⟨a,df⟩) (k:=k) (cs:=cs) (w:=w) (ops:=ops) (i:=h) (rest:=L) (w':={ w with heap:=w.heap.push r }) ho (by simp[Region.wanted,hg]) (by
   rw[Oper.semAt_eq _ _ _ (by intro c e;rw[hop]at e;cases e),Act.oC];exact Yt)
  rw[hs];congr 3;unfold Act.put;rw[hd]
 ·have hother:∀ q∈YU,∀ o1 t1,ops[q.1]?=some o1->o1.dst=some t1->t1≠t:=by
   intro q hq o1 t1 h1 h2 e;subst e;rcases hnames q.1 o1 (Zo q hq) h1 with hb|⟨_,hb,_⟩
   ·obtain⟨o2,d2,so2,r2,g1,g2,g3,_⟩:=d.YY q hq;obtain⟨o3,so3,d3,g4,_,_,g5,_,g6⟩:=rV g2;rw[h1]at g1 g4;cases g1;cases g4;rw[h2]at g5;cases g5;rcases g6 h o (fun e=>Zo q hq e.symm) ho with YW|⟨_,YW,_⟩
    ·-- each comes ahead of the other
     have h3:=vC Zr (VY.1 h1).1 hb;have h4:=vC Zr (VY.1 ho).1 YW;omega
    ·exact YW hd
   ·exact hb h2
  refine⟨(W3.1 d.nodup).2,(W2.1 d.ord).2,fun i hi=>d.irr i (Wc _ hi),fun i hi=>d.lt i (Wc _ hi),fun i hi=>?_,fun i hi=>d.sub i (Wc _ hi),
   d.ψ,d.free,d.Z3,d.tm,by simpa using d.size,fun u hu hul=>?_,d.pure,fun q hq=>?_,fun q hq hm=>?_,fun q hq=>?_,fun q hq=>?_,?_,fun q hq p hp=>?_⟩
  ·rcases d.remL i hi with h1|h1
   ·rcases V8.1 h1 with e|h1
    ·exact .inr (by rw[e];exact Wj)
    ·exact .inl h1
   ·exact .inr (Wc _ h1)
  ·have hut:u≠t:=fun e=>hul (h,w.heap.size) Wj o ho (by rw[hd,e]);rw[cH hut];refine d.agree u (fun p hp Φ q hq e=>?_) (fun q hq=>hul q (Wc _ hq));rcases V8.1 hp with e1|h1
   ·subst e1;exact d.ψ p hrem Φ
   ·exact hu p h1 Φ q hq e
  ·rcases V8.1 hq with e|hq
   ·rw[e];exact hrem
   ·exact d.Zp q hq
  ·rcases V8.1 hq with e|hq
   ·rw[e]at hm;exact (W3.1 d.nodup).1 hm
   ·exact d.δ q hq (Wc _ hm)
  ·rcases V8.1 hq with e|hq
   ·rw[e];exact d.irr h Wj
   ·exact d.ZW q hq
  ·rcases V8.1 hq with e|hq
   ·rw[e];exact⟨o,t,so,r,ho,by simpa using hlate,hd,hso,YA,eG.self hr η r,by rw[fE YD]⟩
   ·obtain⟨o1,d1,so1,r1,g1,g2,g3,g4,g5,g6,g7⟩:=d.YY q hq;exact⟨o1,d1,so1,r1,g1,by simpa using g2,g3,g4,g5,g6.rf hr r,by rw[cH (hother q hq o1 d1 g1 g3)];exact g7⟩
  ·rw[WC,W3];refine⟨fun hm=>?_,d.γ⟩;obtain⟨q,hq,e⟩:=Wb.1 hm;exact Zo q hq e
  ·rcases V8.1 hq with e|hq
   ·rw[e];exact (W2.1 d.ord).1 p hp
   ·exact d.ZL q hq p (Wc _ hp)
theorem jU.reach (Zr:gx ops=true){e:Nat}(he:e∈rem){n:Nat}
  (hun:∀ j∈rem,j=e\/((Region.before ops).getD j 0).testBit e=true\/late E ops (Region.before ops) n j=true\/(∃ i∈rem,i≠j/\((Region.before ops).getD j 0).testBit i=true/\late E ops (Region.before ops) n i=false))
  (Ze:zy E ν s ops Yx z):
  ∀ {L:List Nat} {a:Array Value} {YU:List (Nat × Nat)} {M1:Own} {w1 w:World},a.size=n->jU E ν M1 w1 ops rem Yx YU L tm a z->HR ν M1 w1 s w->dh M w0 M1 w1->e ∉ YU.map (·.1)->∀ {b:Frame} {df:List Deferred} {k:List Item} {cs:List Frame},
  ∃ a' L' lag' M2 w2 w',Steps E.P (lone (b.atR ⟨a,df⟩ (.inRegion ops L::k)) cs w) (lone (b.atR ⟨a',df⟩ (.inRegion ops (e::L')::k)) cs w')/\jU E ν M2 w2 ops rem Yx lag' (e::L') tm a' z/\HR ν M2 w2 s w'/\dh M w0 M2 w2/\
   (∀ b r,eG M1 w1 b r->eG M2 w2 b r)/\(∃ l0,lag'.map (·.2)=l0++YU.map (·.2)/\l0.Nodup/\∀ B∈l0,w1.heap.size<=B):=by
 intro L;induction L with
 | nil=>
  intro a YU M1 w1 w _ d _ _ Z7 b df k cs;rcases d.remL e he with h|h
  ·cases h
  ·exact absurd h Z7
 | cons h L ih=>
  intro a YU M1 w1 w hn d hr hB Z7 b df k cs;by_cases hp:h∈Yx
  ·obtain⟨a',hs,d'⟩:=d.pending hp (Ze _ _ _ hr) (b:=b) (df:=df) (k:=k) (cs:=cs);obtain⟨a'',L',lag',M2,w2,w',hs',d'',rest⟩:=ih (by rw[d'.size,<- d.size];exact hn) d' hr hB Z7 (b:=b) (df:=df) (k:=k) (cs:=cs);exact⟨a'',L',lag',M2,w2,w',.head hs hs',d'',rest⟩
  ·have hrm:h∈rem:=(d.sub h (Wj)).resolve_right hp;by_cases hhe:h=e
   ·subst hhe;exact⟨a,L,YU,M1,w1,w,Steps.refl _ _,d,hr,hB,fun _ _ h=>h,[],rfl,XF,fun _ h=>by cases h⟩
   ·have hfalse:∀ i∈rem,i≠h->((Region.before ops).getD h 0).testBit i=true->i ∉ YU.map (·.1)->False:=by
     intro i hi Yu hb hni
     have hiL:i∈L:=by
      rcases d.remL i hi with h1|h1
      ·rcases V8.1 h1 with h1|h1
       ·exact absurd h1 Yu
       ·exact h1
      ·exact absurd h1 hni
     have:=(W2.1 d.ord).1 i hiL;rw[this]at hb;cases hb
    have hlate:late E ops (Region.before ops) a.size h=true:=by
     rw[hn];rcases hun h hrm with h1|h1|h1|⟨i,hi,Yu,hb,Zo⟩
     ·exact absurd h1 hhe
     ·exact (hfalse e he (fun e'=>hhe e'.symm) h1 Z7).elim
     ·exact h1
     ·refine (hfalse i hi Yu hb fun hm=>?_).elim;obtain⟨q,hq,eq⟩:=Wb.1 hm;obtain⟨_,_,_,_,_,g2,_⟩:=d.YY q hq;rw[eq,hn,Zo]at g2;cases g2
    obtain⟨a',r,hs,YX,d'⟩:=d.LF Zr hr hB.rlt hrm hlate (b:=b) (df:=df) (k:=k) (cs:=cs)
    obtain⟨a'',L',lag',M2,w2,w',hs',d'',hr'',hB'',hhid,l0,hl0,hnd,hge⟩:=ih (by rw[YX];exact hn) d' (hr.rf r) (hB.rf hr r) (by
     rw[WC,V8];rintro (e1|e1)
     ·exact hhe e1.symm
     ·exact Z7 e1) (b:=b) (df:=df) (k:=k) (cs:=cs)
    refine⟨a'',L',lag',M2,w2,w',.head hs hs',d'',hr'',hB'',fun b r' hh=>hhid b r' (hh.rf hr r),l0++[w.heap.size],by rw[hl0];simp,?_,fun B Zh=>?_⟩
    ·rw[Xy];refine⟨hnd,by simp,fun x hx y hy=>?_⟩;have:=hge x hx;have:(w.heap.push r).size<=x:=this;simp at this hy;omega
    ·rcases WJ.1 Zh with h1|h1
     ·have:(w.heap.push r).size<=B:=hge B h1;have:=hr.size;simp at *;omega
     ·have:=hr.size;simp at h1;omega
theorem jU.BB:∀ {L:List Nat} {a:Array Value},jU E ν M w0 ops [] Yx YU L tm a z->JL E ops Yx z w->∀ {b:Frame} {df:List Deferred} {k:List Item} {cs:List Frame},
  ∃ a',Steps E.P (lone (b.atR ⟨a,df⟩ (.inRegion ops L::k)) cs w) (lone (b.atR ⟨a',df⟩ k) cs w)/\j3 ν tm a':=by
 intro L;induction L with
 | nil=>
  intro a d _ b df k cs;refine⟨a,.one stepR_region_end,?_⟩;have YM:∀ t,a.getD t undef=z.getD t undef:=fun t=>d.agree t (by intro p hp;cases hp) (fun q hq=>by cases d.Zp q hq)
  have:a=z:=by
   apply Xt;intro t;exact ZJ d.size (YM t)
  rw[this];exact d.tm
 | cons h L ih=>
  intro a d Ze b df k cs;have hp:h∈Yx:=(d.sub h (Wj)).resolve_left (by simp);obtain⟨a',hs,d'⟩:=d.pending hp Ze (b:=b) (df:=df) (k:=k) (cs:=cs);obtain⟨a'',hs',ht⟩:=ih d' Ze (b:=b) (df:=df) (k:=k) (cs:=cs);exact⟨a'',.head hs hs',ht⟩
end
section
variable {E:Env}{ν:aP}{M:Own}{w0 w:World}{s s':SH}
variable {ops:Array Oper}{rem Yx L:List Nat}{YU:List (Nat × Nat)}{M1:Own}{w1:World}{tm:fR}{a z:Array Value}
theorem Dx {i j:Nat}(h:i≠j):(!Nat.beq i j)=true:=by
 cases hb:Nat.beq i j
 ·rfl
 ·exact absurd (WM hb) h
theorem pK {o:Oper}{b:Bool}(h:wanted ops tm o E s=some (b,s'))(ht:j3 ν tm a):s.dD s'/\(s'.ob->s.ob/\Region.wanted o (yielded ops a)=b):=by
 unfold wanted at h;unfold Region.wanted;split at h
 ·rename_i hg;cases h;rw[hg];exact⟨.refl _,fun ob=>⟨ob,rfl⟩⟩
 ·rename_i j want hg;rw[hg];simp only;split at h
  ·rename_i d hd;cases hb:Nat.blt d tm.nt
   ·rw[hb]at h;cases h
   ·rw[hb]at h;simp only[WE]at h;have hv:=ht.at d;have YD:d<a.size:=by rw[ht.size];exact dw.1 hb
    have hy:yielded ops a j=match a.getD d undef with|.bool b=>some b|_=>none:=by
     unfold yielded;rw[hd];simp only[V9,Wt,WT YD,WR];cases a[d]<;>rfl
    split at h
    ·rename_i t htm;rw[htm]at hv;rw[VR.ae.1 hv]at hy;cases Y8:s.dec E t with
     | mk t' s1=>
      rw[Y8]at h;cases h;obtain⟨Ys,Yw⟩:=SH.fZ Y8;refine⟨Ys,fun ob=>⟨(Yw ob).1,?_⟩⟩;rw[hy,(Yw ob).2];cases t'<;>cases want<;>rfl
    ·rename_i vs htm;rw[htm]at hv;rw[VR.ae.1 hv]at hy;cases h;refine⟨.refl _,fun ob=>⟨ob,?_⟩⟩;rw[hy];cases want<;>rfl
    ·cases h
  ·cases h
theorem ue {o:Oper}{x:SV}(hf:ky o.op=true)(h:oX E ops tm o s=some (x,s'))(hr:HR ν M w0 s w)(hg:GR ν E)(ht:j3 ν tm z):
  (∀ d,o.dst=some d->d<z.size)/\s.dD s'/\x.pA=true/\(s'.ob->s.ob/\∃ y,VR ν x y/\
   (Region.wanted o (yielded ops z)=true->(execOp (ev z) o).run E.P w=.ok (.value y) w/\(looks o.op=false->∀ w,(execOp (ev z) o).run E.P w=.ok (.value y) w))/\
   (Region.wanted o (yielded ops z)=false->y=undef)):=by
 unfold oX at h;obtain⟨u,h0,h⟩:=Wi.1 h;have h0:=kj h0;refine⟨fun d hd=>?_,?_⟩
 ·rw[hd]at h0;rw[ht.size];exact dw.1 h0
 cases hw:wanted ops tm o E s with
 | none=>rw[hw]at h;cases h
 | some r=>
 obtain⟨b,s1⟩:=r;rw[hw]at h;obtain⟨Ys,Yw⟩:=pK hw ht
 have h:(bif b then match Es E tm o s1 with
   | some [(.val x,s)]=>bif x.pA then some (x,s) else none
   | _=>none
  else some (.v undef,s1))=some (x,s'):=h
 cases b
 ·cases h;exact⟨Ys,rfl,fun ob=>⟨(Yw ob).1,undef,VR.ae.2 rfl,fun hc=>(by rw[(Yw ob).2]at hc;cases hc),fun _=>rfl⟩⟩
 ·simp only[WE]at h;split at h
  ·rename_i x1 s2 hop;cases hs:x1.pA
   ·rw[hs]at h;cases h
   ·rw[hs]at h;cases h;obtain⟨hs2,hq⟩:=DG hf hop (hr.same Ys) (ht.Na hg);refine⟨Ys.trans hs2,hs,fun ob=>?_⟩;obtain⟨ZU,⟨y,hy,hv⟩,YM⟩:=hq ob;refine⟨(Yw ZU).1,y,hv,fun _=>⟨hy,fun hl w'=>?_⟩,fun hc=>by rw[(Yw ZU).2]at hc;cases hc⟩;obtain⟨y',hy',hv'⟩:=YM hl w';rw[VR.func1 x y y' hs hv hv'];exact hy'
  ·cases h
theorem wanted_put {q:Oper}{d:Nat}{y:Value}(h:d ∉ dq ops q):Region.wanted q (yielded ops (z.setIfInBounds d y))=Region.wanted q (yielded ops z):=by
 unfold Region.wanted;cases hg:q.guard with
 | none=>rfl
 | some jw=>
  obtain⟨j,want⟩:=jw;simp only
  have:yielded ops (z.setIfInBounds d y) j=yielded ops z j:=by
   unfold yielded;cases hj:(ops[j]?).bind (·.dst) with
   | none=>rfl
   | some t=>
    have ht:t∈dq ops q:=by unfold dq;rw[hg];simp[hj]
    have Yu:d≠t:=fun e=>h (e ▸ ht);simp only[V9,WO,if_neg Yu]
  rw[this]
theorem execOp_put {q:Oper}{d:Nat}{y:Value}(hns:∀ cs b,q.op≠.select cs b)(h:∀ x∈q.op.operands,x≠.tmp d):execOp (ev (z.setIfInBounds d y)) q=execOp (ev z) q:=by
 refine Go.execOp_congr q hns fun x hx=>?_;cases x with
 | tmp t=>exact cH (fun e=>h _ hx (by rw[e]))
 | const v=>rfl
 | global g=>rfl
 | func f=>rfl
theorem oz.put {q:Oper}{d:Nat}{y:Value}(r:oz E ops q z w)(hns:∀ cs b,q.op≠.select cs b)(h1:∀ x∈q.op.operands,x≠.tmp d)(h2:q.dst≠some d)(h3:d ∉ dq ops q):
  oz E ops q (z.setIfInBounds d y) w:=by
 unfold oz at r ⊢;rw[wanted_put h3,execOp_put hns h1];refine⟨fun hw=>?_,fun hw t ht=>?_⟩
 ·obtain⟨v,hv,hd⟩:=r.1 hw;refine⟨v,hv,fun t ht=>?_⟩;rw[cH (fun e=>h2 (by rw[<- e];exact ht))];exact hd t ht
 ·rw[cH (fun e=>h2 (by rw[<- e];exact ht))];exact r.2 hw t ht
theorem oz.fW {q o:Oper}{y:Value}(r:oz E ops q z w)(hns:∀ cs b,q.op≠.select cs b)
  (h:∀ d,o.dst=some d->(∀ x∈q.op.operands,x≠.tmp d)/\q.dst≠some d/\d ∉ dq ops q):oz E ops q (fW z o y) w:=by
 unfold Go.Rx.fW;cases hd:o.dst with
 | none=>exact r
 | some d=>obtain⟨h1,h2,h3⟩:=h d hd;exact r.put hns h1 h2 h3
theorem mA {o:Oper}{y:Value}:(fW z o y).size=z.size:=by unfold fW;cases o.dst<;>simp
theorem jU.float {i:Nat}{o:Oper}{x:SV}(d:jU E ν M1 w1 ops rem Yx YU L tm a z)(Ze:zy E ν s ops Yx z)(hi:i∈rem)(hfree:Go.Rx.free ops (Region.before ops) i=true)(hready:ready (Region.before ops) rem i=true)
  (ho:ops[i]?=some o) (h:oX E ops tm o s=some (x,s')) (hr:HR ν M w0 s w) (hg:GR ν E):
  s.dD s'/\(s'.ob->s.ob/\∃ z',jU E ν M1 w1 ops (rem.filter fun j=>!Nat.beq j i) (i::Yx) YU L (putDst tm o x) a z'/\zy E ν s' ops (i::Yx) z'):=by
 obtain⟨o',Zz,hfl,hfr⟩:=jQ hfree;rw[ho]at Zz;cases Zz
 have hil:∀ q∈YU,q.1≠i:=by
  intro q hq e;obtain⟨o2,d2,so2,r2,g1,g2,g3,g4,_⟩:=d.YY q hq;rw[e,ho]at g1;cases g1;obtain⟨_,_,hop,_⟩:=pJ g4;rw[hop]at hfl;cases hfl
 have hiL:i∈L:=by
  rcases d.remL i hi with h1|h1
  ·exact h1
  ·obtain⟨q,hq,e⟩:=Wb.1 h1;exact absurd e (hil q hq)
 obtain⟨YD,Ys,hsol,Yw⟩:=ue hfl h hr hg d.tm;refine⟨Ys,fun ob=>?_⟩;obtain⟨ZU,y,hv,Yt,hnot⟩:=Yw ob;refine⟨ZU,fW z o y,?_⟩
 have hself:∀ (w':World),(Region.wanted o (yielded ops z)=true->(execOp (ev z) o).run E.P w'=.ok (.value y) w')->oz E ops o (fW z o y) w':=by
  intro w' hw';obtain⟨hns,_⟩:=fe hfl;unfold oz
  have e1:Region.wanted o (yielded ops (fW z o y))=Region.wanted o (yielded ops z):=by
   unfold fW;cases hd:o.dst with
   | none=>rfl
   | some t=>exact wanted_put (hfr t hd).2.1
  have e2:execOp (ev (fW z o y)) o=execOp (ev z) o:=by
   unfold fW;cases hd:o.dst with
   | none=>rfl
   | some t=>exact execOp_put hns (hfr t hd).1
  have e3:∀ t,o.dst=some t->(fW z o y).getD t undef=y:=by
   intro t ht;unfold fW;rw[ht];exact fE (YD t ht)
  rw[e1,e2];exact⟨fun hw=>⟨y,hw' hw,fun t ht=>(e3 t ht).symm⟩,fun hw t ht=>by rw[e3 t ht,hnot hw]⟩
 have hothers:∀ p∈Yx,∀ q,ops[p]?=some q->∀ w',oz E ops q z w'->oz E ops q (fW z o y) w':=by
  intro p hp q hq w' r;obtain⟨q',ZN,hflq,_⟩:=jQ (d.free p hp);rw[hq]at ZN;cases ZN;refine r.fW (fe hflq).1 fun t ht=>?_;have Yu:p≠i:=fun e=>d.ψ i hi (e ▸ hp);rcases (hfr t ht).2.2 p q Yu hq with hb|hb
  ·rw[d.Z3 p hp i hi]at hb;cases hb
  ·exact hb
 constructor
 ·refine⟨d.nodup,d.ord,d.irr,d.lt,fun j hj=>d.remL j (Wo.1 hj).1,fun j hj=>?_,fun j hj hm=>?_,fun p hp=>?_,fun p hp j hj=>?_,d.tm.putDst o hv,?_,fun t ht htl=>?_,fun p hp q hq hl w'=>?_,fun q hq=>Wo.2 ⟨d.Zp q hq,Dx (hil q hq)⟩,d.δ,d.ZW,d.YY,d.γ,d.ZL⟩
  ·rcases d.sub j hj with h1|h1
   ·by_cases e:j=i
    ·exact .inr (e ▸ Wj)
    ·exact .inl (Wo.2 ⟨h1,Dx e⟩)
   ·exact .inr (Wc _ h1)
  ·obtain⟨h1,h2⟩:=Wo.1 hj;rcases V8.1 hm with e|e
   ·rw[e]at h2;simp at h2
   ·exact d.ψ j h1 e
  ·rcases V8.1 hp with e|e
   ·rw[e];exact hfree
   ·exact d.free p e
  ·obtain⟨h1,h2⟩:=Wo.1 hj;rcases V8.1 hp with e|e
   ·subst e;have:=Wn.1 hready j h1;simpa using this
   ·exact d.Z3 p e j h1
  ·rw[mA];exact d.size
  ·have h1:a.getD t undef=z.getD t undef:=d.agree t (fun p hp Φ q hq=>ht p hp (Wc _ Φ) q hq) htl;have h2:o.dst≠some t:=ht i hiL Wj o ho;rw[h1];unfold fW;cases hd:o.dst with
   | none=>rfl
   | some u=>rw[cH (fun e=>h2 (by rw[hd,e]))]
  ·rcases V8.1 hp with e|e
   ·subst e;rw[ho]at hq;cases hq;exact hself w' fun hw=>(Yt hw).2 hl w'
   ·exact hothers p e q hq w' (d.pure p e q hq hl w')
 ·intro M' w0' w' YK p hp q hq;have YK:=YK.same Ys.symm;rcases V8.1 hp with e|e
  ·subst e;rw[ho]at hq;cases hq;obtain⟨_,_,_,hob'⟩:=ue hfl h YK hg d.tm;obtain⟨_,y',hv',hrun',_⟩:=hob' ob;refine hself w' fun hw=>?_;rw[VR.func1 x y y' hsol hv hv'];exact (hrun' hw).1
  ·exact hothers p e q hq w' (Ze _ _ _ YK p e q hq)
theorem jU.narrow {e:Nat}(d:jU E ν M1 w1 ops rem Yx YU (e::L) tm a z)(he:e∈rem):
  jU E ν M1 w1 ops (e::rem.filter fun j=>!Nat.beq j e) (Yx.filter fun p=>!(((Region.before ops).getD e 0).testBit p)) YU (e::L) tm a z:=by
 have Yv:∀ p∈L,p∈Yx->p∈Yx.filter fun p=>!(((Region.before ops).getD e 0).testBit p):=by
  intro p hp Φ;refine Wo.2 ⟨Φ,?_⟩;rw[(W2.1 d.ord).1 p hp];rfl
 have hrem:∀ i,i∈(e::rem.filter fun j=>!Nat.beq j e)↔i∈rem:=by
  intro i;rw[V8,Wo];constructor
  ·rintro (h|h)
   ·exact h ▸ he
   ·exact h.1
  ·intro h;by_cases hi:i=e
   ·exact .inl hi
   ·exact .inr ⟨h,Dx hi⟩
 refine⟨d.nodup,d.ord,d.irr,d.lt,fun i hi=>d.remL i ((hrem i).1 hi),fun i hi=>?_,fun i hi hm=>d.ψ i ((hrem i).1 hi) (Wo.1 hm).1,fun p hp=>d.free p (Wo.1 hp).1,
  fun p hp j hj=>d.Z3 p (Wo.1 hp).1 j ((hrem j).1 hj),d.tm,d.size,fun t ht htl=>d.agree t (fun p hp Φ q hq=>?_) htl,fun p hp=>d.pure p (Wo.1 hp).1,fun q hq=>(hrem q.1).2 (d.Zp q hq),d.δ,d.ZW,d.YY,d.γ,d.ZL⟩
 ·rcases d.sub i hi with h|h
  ·exact .inl ((hrem i).2 h)
  ·rcases V8.1 hi with h1|h1
   ·exact .inl (h1 ▸ Wj)
   ·exact .inr (Yv i h1 h)
 ·rcases V8.1 hp with h1|h1
  ·exact absurd Φ (d.ψ p (h1 ▸ he))
  ·exact ht p hp (Yv p h1 Φ) q hq
theorem ur {o:Oper}(h:unnamed ops Yx o=true){d:Nat}(hd:o.dst=some d){p:Nat}(hp:p∈Yx){q:Oper}(hq:ops[p]?=some q):
  (∀ x∈q.op.operands,x≠.tmp d)/\q.dst≠some d/\d ∉ dq ops q:=by
 unfold unnamed at h;rw[hd]at h;have h1:=Wn.1 h p hp;rw[hq]at h1;simp only[XV,Yg]at h1;obtain⟨h2,h3⟩:=h1;refine⟨fun x hx e=>?_,fun e=>?_,fun hm=>?_⟩
 ·subst e;have:d∈jd q:=Xq _ (List.mem_filterMap.2 ⟨_,by simpa using hx,rfl⟩);rw[<- W6]at this;rw[this]at h2;cases h2
 ·have:d∈jd q:=Xe _ (by simp[e]);rw[<- W6]at this;rw[this]at h2;cases h2
 ·rw[<- W6]at hm;rw[hm]at h3;cases h3
theorem jU.done {e:Nat}{o:Oper}{x:SV}{y:Value}(d:jU E ν M1 w1 ops (e::rem) Yx YU (e::L) tm a z)(ho:ops[e]?=some o)(hn:(e::rem).Nodup\/e ∉ rem)(hu:unnamed ops Yx o=true)(hv:VR ν x y)(Zo:sR ops YU e):
  jU E ν M1 w1 ops rem Yx YU L (putDst tm o x) (fW a o y) (fW z o y):=by
 have her:e ∉ rem:=by rcases hn with h|h;exact (W3.1 h).1;exact h
 have hep:e ∉ Yx:=d.ψ e Wj
 refine⟨(W3.1 d.nodup).2,(W2.1 d.ord).2,fun i hi=>d.irr i (Wc _ hi),fun i hi=>d.lt i (Wc _ hi),fun i hi=>?_,fun i hi=>?_,
  fun i hi=>d.ψ i (Wc _ hi),d.free,fun p hp j hj=>d.Z3 p hp j (Wc _ hj),d.tm.putDst o hv,by rw[mA,mA];exact d.size,fun t ht htl=>?_,fun p hp q hq hl w'=>?_,fun q hq=>?_,fun q hq hm=>d.δ q hq (Wc _ hm),d.ZW,fun q hq=>(d.YY q hq).put fun o1 t h1 h2=>?_,d.γ,fun q hq p hp=>d.ZL q hq p (Wc _ hp)⟩
 ·rcases d.remL i (Wc _ hi) with h|h
  ·rcases V8.1 h with h|h
   ·exact absurd (h ▸ hi) her
   ·exact .inl h
  ·exact .inr h
 ·rcases d.sub i (Wc _ hi) with h|h
  ·rcases V8.1 h with h1|h1
   ·exact absurd (h1 ▸ hi) (W3.1 d.nodup).1
   ·exact .inl h1
  ·exact .inr h
 ·have hat:a.getD t undef=z.getD t undef:=d.agree t (fun p hp Φ q hq=>by
   rcases V8.1 hp with h|h
   ·exact absurd (h ▸ Φ) hep
   ·exact ht p h Φ q hq) htl
  unfold fW;cases hd:o.dst with
  | none=>exact hat
  | some u=>
   simp only;by_cases et:t=u
   ·subst et;by_cases hs:t<a.size
    ·rw[fE hs,fE (by rw[<- d.size];exact hs)]
    ·have h1:a.size<=t:=Nat.not_lt.mp hs;have h2:z.size<=t:=by rw[<- d.size];exact h1
     rw[Wt,W9 (by simpa using h1),Wt,W9 (by simpa using h2)]
   ·rw[cH et,cH et];exact hat
 ·obtain⟨q',ZN,hflq,_⟩:=jQ (d.free p hp);rw[hq]at ZN;cases ZN;exact (d.pure p hp q hq hl w').fW (fe hflq).1 fun t ht=>ur hu ht hp hq
 ·rcases V8.1 (d.Zp q hq) with h|h
  ·exact absurd (h ▸ Wj) (d.δ q hq)
  ·exact h
 ·have Yu:e≠q.1:=fun h=>d.δ q hq (h ▸ Wj);exact (d.xd hq h1 h2 Yu (Zo q hq) ho).2.1
def Own.show (M:Own)(B:Nat):Own:=⟨fun b=>M b\/b=B,M.r,M.h⟩
theorem HR.show (h:HR ν M1 w1 s w){B:Nat}{r:Obj}(hB:eG M1 w1 B r)(YB:s.room=true){so:SO}(YA:∀ ν i,OR ν i so r):
  ν.Le (ν.put s.nx (B,0))/\HR (ν.put s.nx (B,0)) (M1.show B) w1 (s.new so) w:=by
 obtain⟨hB1,Γ,hB3,hB4⟩:=hB;have YD:B<w1.heap.size:=(VY.1 hB1).1;have h':HR ν (M1.show B) w1 s w:=⟨h.full,h.dom,h.fresh,fun i hi x hx=>let ⟨b,o,h1,h2,h3,h4⟩:=h.obj i hi x hx;⟨b,o,h1,h2,h3,fun e=>(h4 e).imp id .inl⟩,h.inj,h.size,fun b hb hM=>h.frame b hb fun hc=>hM (.inl hc),h.ro,h.os,h.tape,h.output⟩;refine h'.Cd YB 0 (.inr (.inr rfl)) (fun j hj hn b hb e=>?_) (YA _ _) (by rw[h.frame B YD Γ,hB1]) (fun _ _=>rfl) h.size rfl rfl rfl;cases hx:s.H.get j with
 | none=>exact hn hx
 | some x=>
  obtain⟨b',o',h1,h2,_,h4⟩:=h.obj j hj x hx;rw[hb]at h1;cases h1;cases hf:x.2
  ·exact hB3 (e ▸ h.ro j hj x hx hf b hb)
  ·rcases h4 hf with h4|h4
   ·omega
   ·exact Γ (e ▸ h4)
theorem dh.show {M:Own}{w0:World}(B:dh M w0 M1 w1){b0:Nat}{r:Obj}(hB:eG M1 w1 b0 r):dh M w0 (M1.show b0) w1:=by
 refine⟨B.size,B.os,B.tape,B.output,fun b hb hM=>⟨(B.frame b hb hM).1,fun hc=>?_⟩,fun b hb=>?_,B.ro,B.hid,B.rlt⟩
 ·rcases hc with hc|hc
  ·exact (B.frame b hb hM).2 hc
  ·subst hc;rcases B.hid b hB.2.2.2 with h|h
   ·omega
   ·exact hM h
 ·rcases hb with hb|hb|hb
  ·exact B.own b (.inl hb)
  ·exact B.own b (.inr hb)
  ·subst hb;exact B.hid b hB.2.2.2
theorem eG.show {b0 b:Nat}{r:Obj}(h:eG M1 w1 b r)(Yu:b≠b0):eG (M1.show b0) w1 b r:=
 ⟨h.1,fun hc=>hc.elim h.2.1 Yu,h.2.2.1,h.2.2.2⟩
theorem jU.Cd {e B:Nat}{o:Oper}{i:Nat}{ν':aP}(d:jU E ν M1 w1 ops rem Yx YU L tm a z)(hle:ν.Le ν')(he:(e,B)∈YU)(ho:ops[e]?=some o)
  (hu:unnamed ops (Yx.filter fun p=>!(((Region.before ops).getD e 0).testBit p)) o=true) (hi:ν' i=some (B,0)) (hbl:∀ q∈YU,q.1≠e->q.2≠B):
  jU E ν' (M1.show B) w1 ops (rem.filter fun j=>!Nat.beq j e) (Yx.filter fun p=>!(((Region.before ops).getD e 0).testBit p)) (YU.filter fun q=>!Nat.beq q.1 e) L (putDst tm o (.ptr i 0)) a (fW z o (.pointer (some ⟨B,0,none⟩))):=by
 obtain⟨o1,t,so,r,g1,g2,g3,g4,g5,g6,g7⟩:=d.YY _ he;rw[ho]at g1;cases g1;have d':=d.mono hle
 have ZG:∀ q,q∈YU.filter (fun q=>!Nat.beq q.1 e)->q∈YU/\q.1≠e:=by
  intro q hq;obtain⟨h1,h2⟩:=Wo.1 hq;exact⟨h1,fun e'=>by rw[e']at h2;simp at h2⟩
 have hpf:∀ p,p∈Yx.filter (fun p=>!(((Region.before ops).getD e 0).testBit p))->p∈Yx:=fun p hp=>(Wo.1 hp).1;have hfp:∀ p∈L,p∈Yx->p∈Yx.filter (fun p=>!(((Region.before ops).getD e 0).testBit p)):=fun p hp Φ=>Wo.2 ⟨Φ,by rw[d.ZL _ he p hp];rfl⟩
 refine⟨d.nodup,d.ord,d.irr,d.lt,fun j hj=>?_,fun j hj=>?_,fun j hj hm=>d.ψ j (Wo.1 hj).1 (hpf j hm),fun p hp=>d.free p (hpf p hp),fun p hp j hj=>d.Z3 p (hpf p hp) j (Wo.1 hj).1,
  d'.tm.putDst o (VR.aF.2 ⟨_,hi,rfl⟩),by rw[mA];exact d.size,fun u hu hul=>?_,fun p hp q hq hl w'=>?_,fun q hq=>?_,fun q hq=>d.δ q (ZG q hq).1,fun q hq=>d.ZW q (ZG q hq).1,fun q hq=>?_,?_,fun q hq=>d.ZL q (ZG q hq).1⟩
 ·obtain⟨h1,h2⟩:=Wo.1 hj;rcases d.remL j h1 with h|h
  ·exact .inl h
  ·obtain⟨q,hq,e'⟩:=Wb.1 h;exact .inr (Wb.2 ⟨q,Wo.2 ⟨hq,by rw[e'];exact h2⟩,e'⟩)
 ·rcases d.sub j hj with h|h
  ·refine .inl (Wo.2 ⟨h,Dx fun e'=>?_⟩);exact d.δ _ he (e' ▸ hj)
  ·exact .inr (hfp j hj h)
 ·unfold fW;rw[g3];simp only;by_cases et:u=t
  ·subst et
   have hs:u<z.size:=by
    rw[<- d.size];refine Nat.not_le.1 fun hle=>?_;rw[Wt,W9 hle]at g7;cases g7
   rw[fE hs];exact g7
  ·rw[cH et];refine d.agree u (fun p hp Φ=>hu p hp (hfp p hp Φ)) fun q hq o2 ho2 e2=>?_;by_cases hqe:q.1=e
   ·rw[hqe,ho]at ho2;cases ho2;rw[g3]at e2;exact et (Option.some.inj e2).symm
   ·exact hul q (Wo.2 ⟨hq,Dx hqe⟩) o2 ho2 e2
 ·obtain⟨q',ZN,hflq,_⟩:=jQ (d.free p (hpf p hp));rw[hq]at ZN;cases ZN;exact (d.pure p (hpf p hp) q hq hl w').fW (fe hflq).1 fun t ht=>ur hu ht hp hq
 ·exact Wo.2 ⟨d.Zp q (ZG q hq).1,Dx (ZG q hq).2⟩
 ·exact (d.YY q (ZG q hq).1).dz fun r h=>h.show (hbl q (ZG q hq).1 (ZG q hq).2)
 ·exact d.γ.sublist (List.Sublist.map _ Yi)
theorem kR (hr:HR ν M w0 s w)(hg:GR ν E)(ht:j3 ν tm z):∀ {Yx:List Nat} {s s':SH},HR ν M w0 s w->recheck E ops tm Yx s=some s'->(∀ p∈Yx,free ops (Region.before ops) p=true)->
  (∀ p∈Yx,∀ o,ops[p]?=some o->looks o.op=false->∀ w,oz E ops o z w)->s.dD s'/\(s'.ob->s.ob/\JL E ops Yx z w):=by
 intro Yx;induction Yx with
 | nil=>intro s s' hr h _ _;cases h;exact⟨.refl _,fun ob=>⟨ob,by intro p hp;cases hp⟩⟩
 | cons p ps ih=>
  intro s s' hr h hf hp;unfold recheck at h;cases ho:ops[p]? with
  | none=>rw[ho]at h;cases h
  | some o=>
   rw[ho]at h;simp only at h;cases hl:looks o.op
   ·rw[hl]at h;simp only[W5]at h;obtain⟨Ys,Yw⟩:=ih hr h (fun q hq=>hf q (Wc _ hq)) (fun q hq=>hp q (Wc _ hq));refine⟨Ys,fun ob=>⟨(Yw ob).1,fun q hq o' Zz=>?_⟩⟩;rcases V8.1 hq with e|e
    ·subst e;rw[ho]at Zz;cases Zz;exact hp q Wj o ho hl w
    ·exact (Yw ob).2 q e o' Zz
   ·rw[hl]at h;simp only[WE]at h;cases h1:oX E ops tm o s with
    | none=>rw[h1]at h;cases h
    | some r=>
    obtain⟨x,s1⟩:=r;rw[h1]at h;cases hd:o.dst with
    | none=>rw[hd]at h;cases h
    | some d=>
    rw[hd]at h;have h:((lF E (tm.get d) x s1).bind fun s=>recheck E ops tm ps s)=some s':=h;cases h2:lF E (tm.get d) x s1 with
    | none=>rw[h2]at h;cases h
    | some s2=>
    rw[h2]at h;have h:recheck E ops tm ps s2=some s':=h;obtain⟨o',Zz,hfl,_⟩:=jQ (hf p Wj);rw[ho]at Zz;cases Zz;obtain⟨_,hsame1,hsol,Ω⟩:=ue hfl h1 hr hg ht;obtain⟨Y7,Y6⟩:=rP h2;obtain⟨Zv,τ⟩:=ih (hr.same (hsame1.trans Y7)) h (fun q hq=>hf q (Wc _ hq)) (fun q hq=>hp q (Wc _ hq));refine⟨(hsame1.trans Y7).trans Zv,fun ob=>?_⟩;obtain⟨Z8,Ze⟩:=τ ob;obtain⟨ZU,heq⟩:=Y6 Z8;obtain⟨YG,y,hv,Yt,hnot⟩:=Ω ZU;refine⟨YG,fun q hq o' Zz=>?_⟩;rcases V8.1 hq with e|e
    ·subst e;rw[ho]at Zz;cases Zz;have hvz:=ht.at d;rw[heq]at hvz;have hyz:y=z.getD d undef:=VR.func1 x _ _ hsol hv hvz;refine⟨fun hw=>⟨y,(Yt hw).1,fun t et=>?_⟩,fun hw t et=>?_⟩
     ·rw[hd]at et;cases et;exact hyz
     ·rw[hd]at et;cases et;rw[<- hyz,hnot hw]
    ·exact Ze q e o' Zz
end
section
variable {E:Env}{ν:aP}{M:Own}{w0 w:World}{s s':SH}
def Nw (ν:aP):Option Nat->Option Nat->Prop
 | none,r=>r=none
 | some i,r=>∃ b,ν i=some b/\r=some b.1
theorem Nw.mono {ν':aP}(h:ν.Le ν'):∀ {x r:Option Nat},Nw ν x r->Nw ν' x r
 | none,_,e=>e
 | some _,_,⟨b,hb,e⟩=>⟨b,h _ _ hb,e⟩
inductive Eb (E:Env) (ν:aP) (M:Own) (w0:World) (s:SH):List Nat->fR->List SI->Array Value->List Item->Prop
 | plain {tm:fR} {xs:List SI} {a:Array Value} {ys:List Item} (ht:j3 ν tm a) (hk:tx ν xs ys):Eb E ν M w0 s [] tm xs a ys
 | drw {ops:Array Oper} {rem Yx L:List Nat} {YU:List (Nat × Nat)} {tm:fR} {a z:Array Value} {k:List SI} {k':List Item} (Zr:gx ops=true) (hn:rem.Nodup) (d:jU E ν M w0 ops rem Yx YU L tm a z)
   (st:zy E ν s ops Yx z) (hk:tx ν k k'):Eb E ν M w0 s (YU.map (·.2)) tm (.drw ops rem Yx::k) a (.inRegion ops L::k')
inductive lk (E:Env) (ν:aP) (M:Own) (w0:World):List Nat->fR->List SI->Array Value->List Item->Prop
 | plain {tm:fR} {xs:List SI} {a:Array Value} {ys:List Item} (ht:j3 ν tm a) (hk:tx ν xs ys):lk E ν M w0 [] tm xs a ys
 | drw {ops:Array Oper} {e:Nat} {rem Yx L:List Nat} {YU:List (Nat × Nat)} {tm:fR} {a z:Array Value} {k:List SI} {k':List Item} (Zr:gx ops=true) (hn:(e::rem).Nodup) (d:jU E ν M w0 ops (e::rem) Yx YU (e::L) tm a z)
   (Zo:sR ops YU e) (hk:tx ν k k'):lk E ν M w0 (YU.map (·.2)) tm (.drw ops (e::rem) Yx::k) a (.inRegion ops (e::L)::k')
theorem lk.mono {ν':aP}(h:ν.Le ν'){hl:List Nat}{tm:fR}{xs:List SI}{a:Array Value}{ys:List Item}:lk E ν M w0 hl tm xs a ys->lk E ν' M w0 hl tm xs a ys
 | .plain ht hk=>.plain (ht.mono h) (hk.mono h)
 | .drw Zr hn d Zo hk=>.drw Zr hn (d.mono h) Zo (hk.mono h)
theorem lk.dz {M':Own}{w0':World}{hl:List Nat}(k:∀ b∈hl,∀ r,eG M w0 b r->eG M' w0' b r){tm:fR}{xs:List SI}{a:Array Value}{ys:List Item}:lk E ν M w0 hl tm xs a ys->lk E ν M' w0' hl tm xs a ys
 | .plain ht hk=>.plain ht hk
 | .drw Zr hn d Zo hk=>.drw Zr hn (d.dz fun q hq r h=>k _ (Wb.2 ⟨q,hq,rfl⟩) r h) Zo hk
theorem lk.hidden {hl:List Nat}{tm:fR}{xs:List SI}{a:Array Value}{ys:List Item}(h:lk E ν M w0 hl tm xs a ys):∀ b∈hl,∃ r,eG M w0 b r:=by
 cases h with
 | plain ht hk=>intro b hb;cases hb
 | drw Zr hn d Zo hk=>
  intro b hb;obtain⟨q,hq,rfl⟩:=Wb.1 hb;obtain⟨_,_,_,r,_,_,_,_,_,h,_⟩:=d.YY q hq;exact⟨r,h⟩
structure HD (ν:aP)(F:SF)(fr:Frame):Prop where
 fn:fr.fn=F.fn
 defers:j8 ν F.defers fr.defers
 kind:fr.kind=F.kind
 ro:Nw ν F.ro fr.roundOf
theorem HD.mono {ν':aP}(h:ν.Le ν'){F:SF}{fr:Frame}(b:HD ν F fr):HD ν' F fr:=⟨b.fn,b.defers.mono h,b.kind,b.ro.mono h⟩
structure I0 (E:Env)(ν:aP)(M:Own)(w0:World)(hl:List Nat)(s:SH)(F:SF)(fr:Frame):Prop where
 base:HD ν F fr
 run:F.ret=false->fr.mode=.run/\Eb E ν M w0 s hl F.tm F.todo fr.tmps fr.todo
 ret:F.ret=true->fr.mode=.returning/\j3 ν F.tm fr.tmps
structure gj (E:Env)(ν:aP)(M:Own)(w0:World)(hl:List Nat)(F:SF)(fr:Frame):Prop where
 base:HD ν F fr
 ret:F.ret=false
 mode:fr.mode=.run
 todo:lk E ν M w0 hl F.tm F.todo fr.tmps fr.todo
theorem gj.mono {ν':aP}(h:ν.Le ν'){hl:List Nat}{F:SF}{fr:Frame}(b:gj E ν M w0 hl F fr):gj E ν' M w0 hl F fr:=⟨b.base.mono h,b.ret,b.mode,b.todo.mono h⟩
structure Js (ν:aP)(F:SF)(fr:Frame):Prop where
 base:HD ν F fr
 ret:F.ret=true
 mode:fr.mode=.returning
 tm:j3 ν F.tm fr.tmps
theorem Js.mono {ν':aP}(h:ν.Le ν'){F:SF}{fr:Frame}(b:Js ν F fr):Js ν' F fr:=⟨b.base.mono h,b.ret,b.mode,b.tm.mono h⟩
inductive bo (E:Env) (ν:aP) (M:Own) (w0:World) (cs0:List Frame):List Nat->CallKind->List SF->List Frame->Prop
 | nil {hl:List Nat} (hnd:hl.Nodup):bo E ν M w0 cs0 hl .normal [] cs0
 | wait {hl hl1:List Nat} {F:SF} {fr:Frame} {Fs:List SF} {frs:List Frame} (h:gj E ν M w0 hl1 F fr) (t:bo E ν M w0 cs0 (hl++hl1) F.kind Fs frs):bo E ν M w0 cs0 hl .normal (F::Fs) (fr::frs)
 | ret {hl:List Nat} {F:SF} {fr:Frame} {Fs:List SF} {frs:List Frame} (h:Js ν F fr) (t:bo E ν M w0 cs0 hl F.kind Fs frs):bo E ν M w0 cs0 hl .deferred (F::Fs) (fr::frs)
theorem bo.mono {ν':aP}(h:ν.Le ν'){cs0:List Frame}{hl:List Nat}{k:CallKind}{Fs:List SF}{frs:List Frame}(c:bo E ν M w0 cs0 hl k Fs frs):bo E ν' M w0 cs0 hl k Fs frs:=by
 induction c with
 | nil hnd=>exact .nil hnd
 | wait hf _ ih=>exact .wait (hf.mono h) ih
 | ret hf _ ih=>exact .ret (hf.mono h) ih
theorem bo.nodup {cs0:List Frame}{hl:List Nat}{k:CallKind}{Fs:List SF}{frs:List Frame}(c:bo E ν M w0 cs0 hl k Fs frs):hl.Nodup:=by
 induction c with
 | nil hnd=>exact hnd
 | wait _ _ ih=>exact (Xy.1 ih).1
 | ret _ _ ih=>exact ih
theorem bo.dz {M':Own}{w0':World}{cs0:List Frame}{hl:List Nat}{k:CallKind}{Fs:List SF}{frs:List Frame}(c:bo E ν M w0 cs0 hl k Fs frs):
  ∀ {hl':List Nat},(∀ b,b ∉ hl->∀ r,eG M w0 b r->eG M' w0' b r)->(∀ x:List Nat,(∀ b∈x,∃ r,eG M w0 b r)->(hl++x).Nodup->(hl'++x).Nodup)->bo E ν M' w0' cs0 hl' k Fs frs:=by
 induction c with
 | nil hnd=>intro hl' _ hx;exact .nil (by have:=hx [] (fun b hb=>by cases hb) (by simpa using hnd);simpa using this)
 | wait hf t ih=>
  intro hl' hk hx;have hnd:=t.nodup;refine .wait (hl1:=_) ⟨hf.base,hf.ret,hf.mode,hf.todo.dz fun b hb r h=>hk b (fun hm=>(Xy.1 hnd).2.2 b hm b hb rfl) r h⟩ (ih (fun b hb=>hk b fun hm=>hb (Xe _ hm)) fun x hxh hxn=>?_);rw[Xz]at hxn ⊢;refine hx _ (fun b hb=>?_) hxn;rcases WJ.1 hb with hb|hb
  ·exact hf.todo.hidden b hb
  ·exact hxh b hb
 | ret hf _ ih=>intro hl' hk hx;exact .ret hf (ih hk hx)
theorem bo.clear {cs0:List Frame}{hl:List Nat}{k:CallKind}{Fs:List SF}{frs:List Frame}(c:bo E ν M w0 cs0 hl k Fs frs):bo E ν M w0 cs0 [] k Fs frs:=
 c.dz (fun _ _ _ h=>h) fun _ _ h=>by simpa using (Xy.1 h).2.1
structure MR (E:Env)(M:Own)(w0:World)(cs0:List Frame)(ν:aP)(S:SM)(m:Machine):Prop where
 ex:∃ fr cs w hl,m=lone fr cs w/\HR ν M w0 S.mem w/\GR ν E/\I0 E ν M w0 hl S.mem S.top fr/\bo E ν M w0 cs0 hl S.top.kind S.callers cs
def fh (E:Env):Prop:=∀ f k,E.ext f=some k->∀ args x s s',Bv E k args s=some (x,s')->∀ ν M w0 w a,HR ν M w0 s w->au ν args a->s'.ob->s.ob/\
 ∃ ν' w' y,ν.Le ν'/\(callFunc f a.toArray).run E.P w=.ok (.value y) w'/\VR ν' x y/\HR ν' M w0 s' w'
inductive tq (ν:aP) (s:SH) (w:World) (s':SH) (w':World) (x:SV) (y:Value):Prop where
 | same (hs:s.dD s') (hv:VR ν x y)
 | made (s0:SH) (so:SO) (b c:Nat) (o:Obj) (hs:s.dD s0) (YB:s0.room=true) (he:s'=s0.new so) (hb:w.heap.size<=b) (ho:w'.heap[b]?=some o) (YA:OR (ν.put s0.nx (b,c)) s0.nx so o) (hv:VR (ν.put s0.nx (b,c)) x y)
structure Og (w w':World)(b:Nat):Prop where
 os:w'.os=w.os
 tape:w'.tape=w.tape
 output:w'.output=w.output
 size:w.heap.size<=w'.heap.size
 block:∀ k,k<w.heap.size->k≠b->w'.heap[k]?=w.heap[k]?
inductive rW (ν:aP) (s:SH) (w:World) (s':SH) (w':World) (x:SV) (y:Value):Prop where
 | old (hb:Go.RowKit.Below w.heap.size w w') (n:tq ν s w s' w' x y)
 | G3 (s0:SH) (j:Nat) (so so':SO) (b:Nat × Nat) (o:Obj) (hs:s.dD s0) (hl:s0.look j=some (so,true)) (he:s'=s0.put j so') (hb:ν j=some b) (ho:w'.heap[b.1]?=some o) (YA:OR ν j so' o) (hw:Og w w' b.1) (hv:VR ν x y)
def dy (E:Env)(M:Own)(w0:World):Prop:=∀ f g,E.YT f=some g->∀ args x s s',g args s=some (x,s')->s'.ob->s.ob/\∀ ν w a,HR ν M w0 s w->GR ν E->au ν args a->
 (callFunc f a.toArray).run E.P w=.ok (.enter f a.toArray) w/\Calls E.P f a.toArray w fun e w'=>∃ y,e=.returned y/\rW ν s w s' w' x y
def Qu (E:Env)(M:Own)(w0:World):Prop:=∀ f g,E.qs f=some g->∀ args l,g args=some l->l≠[]/\∀ ν s w a,HR ν M w0 s w->GR ν E->au ν args a->
 (callFunc f a.toArray).run E.P w=.ok (.enter f a.toArray) w/\Calls E.P f a.toArray w fun e w'=>Go.RowKit.Below w.heap.size w w'/\∃ x∈l,∃ y,e=.returned y/\VR ν x y
structure aK (E:Env)(M:Own)(w0:World):Prop where
 mixed:E.P.follows .mixedOrders=true
 calls : ∀ (f : Nat) (fn : Func), E.P.funcs[f]? = some fn -> fn.body ≠ none -> fn.name ≠ "runtime.NumGoroutine"
 ext:fh E
 YT:dy E M w0
 qs:Qu E M w0
theorem aK.dz {M1:Own}{w1:World}(K:aK E M w0)(B:dh M w0 M1 w1):aK E M1 w1:=
 ⟨K.mixed,K.calls,K.ext,fun f g hg args x s s' hx ob=>⟨(K.YT f g hg args x s s' hx ob).1,fun ν w a hr=>(K.YT f g hg args x s s' hx ob).2 ν w a (hr.xy B)⟩,fun f g hg args l hl=>⟨(K.qs f g hg args l hl).1,fun ν s w a hr=>(K.qs f g hg args l hl).2 ν s w a (hr.xy B)⟩⟩
theorem HR.grow {w':World}(h:HR ν M w0 s w)(b:Go.RowKit.Below w.heap.size w w'):HR ν M w0 s w':=by
 refine⟨h.full,h.dom,h.fresh,fun i hi x hx=>?_,h.inj,Wh h.size b.size,fun k hk hM=>?_,h.ro,b.os.trans h.os,b.tape.trans h.tape,b.output.trans h.output⟩
 ·obtain⟨c,o,h1,h2,h3,h4⟩:=h.obj i hi x hx;exact⟨c,o,h1,by rw[b.block _ (VY.1 h2).1];exact h2,h3,h4⟩
 ·rw[b.block k (Wz hk h.size)];exact h.frame k hk hM
theorem HR.yD {w':World}(h:HR ν M w0 s w')(hr:s.room=true){so:SO}{o:Obj}{b c:Nat}(hge:w0.heap.size<=b)(ho:w'.heap[b]?=some o)(ZO:∀ i d,i<2 ^ s.d->s.H.get i≠none->ν i=some d->d.1≠b)
  (YA:OR (ν.put s.nx (b,c)) s.nx so o):ν.Le (ν.put s.nx (b,c))/\HR (ν.put s.nx (b,c)) M w0 (s.new so) w':=by
 have hnx:ν s.nx=none:=h.fresh _ (Wx _);have YD:s.nx<2 ^ s.d:=dw.1 hr;have hle:=aP.lY hnx (b,c);have Za:∀ j,j≠s.nx->(ν.put s.nx (b,c)) j=ν j:=fun j e=>by simp[aP.put,e]
 have g:∀ u,u<2 ^ s.d->u≠s.nx->(s.new so).H.get u≠none->s.H.get u≠none:=by
  intro u hu ne hn;have hn:(s.H.set s.nx (some (so,true))).get u≠none:=hn;rwa[Tr.dV h.full YD hu,if_neg ne]at hn
 refine⟨hle,h.full.set _ _,?_,?_,?_,?_,h.size,h.frame,?_,h.os,h.tape,h.output⟩
 ·intro i hi;have hi:2 ^ s.d<=i:=hi;rw[Za i (by omega)];exact h.dom i hi
 ·intro i hi;have hi:s.nx+1<=i:=hi;rw[Za i (by omega)];exact h.fresh i (by omega)
 ·intro j hj y hy;have hj:j<2 ^ s.d:=hj;have hy:(s.H.set s.nx (some (so,true))).get j=some y:=hy;rw[Tr.dV h.full YD hj]at hy;by_cases e:j=s.nx
  ·subst e;rw[if_pos rfl]at hy;cases hy;exact⟨(b,c),o,aP.bO _ _ _,ho,YA,fun _=>.inl hge⟩
  ·rw[if_neg e]at hy;obtain⟨d,o',hd,Zz,YK,YS⟩:=h.obj j hj y hy;exact⟨d,o',by rw[Za j e];exact hd,Zz,YK.mono hle,YS⟩
 ·intro i j hi hj hgi hgj d d' hd hd' e;have hi:i<2 ^ s.d:=hi;have hj:j<2 ^ s.d:=hj;by_cases ei:i=s.nx<;>by_cases ej:j=s.nx
  ·rw[ei,ej]
  ·subst ei;rw[aP.bO]at hd;cases hd;rw[Za j ej]at hd';exact absurd e.symm (ZO j d' hj (g j hj ej hgj) hd')
  ·subst ej;rw[aP.bO]at hd';cases hd';rw[Za i ei]at hd;exact absurd e (ZO i d hi (g i hi ei hgi) hd)
  ·rw[Za i ei]at hd;rw[Za j ej]at hd';exact h.inj i j hi hj (g i hi ei hgi) (g j hj ej hgj) d d' hd hd' e
 ·intro j hj y hy hf d hd;have hj:j<2 ^ s.d:=hj;have hy:(s.H.set s.nx (some (so,true))).get j=some y:=hy;rw[Tr.dV h.full YD hj]at hy;by_cases e:j=s.nx
  ·rw[if_pos e]at hy;cases hy;cases hf
  ·rw[if_neg e]at hy;rw[Za j e]at hd;exact h.ro j hj y hy hf d hd
theorem tq.hr {s':SH}{w':World}{x:SV}{y:Value}(n:tq ν s w s' w' x y)(h:HR ν M w0 s w)(hb:Go.RowKit.Below w.heap.size w w'):∃ ν',ν.Le ν'/\VR ν' x y/\HR ν' M w0 s' w':=by
 cases n with
 | same hs hv=>exact⟨ν,aP.Le.refl _,hv,(h.grow hb).same hs⟩
 | made s0 so b c o hs YB he YZ ho YA hv=>
  subst he;have h0:=h.same hs
  obtain⟨h1,h2⟩:=(h0.grow hb).yD YB (Wh h.size YZ) ho (fun i d hi hn hd e=>by
   cases hx:s0.H.get i with
   | none=>exact hn hx
   | some z=>
    obtain⟨d',o',hd',Zz,_⟩:=h0.obj i hi z hx;rw[hd]at hd';cases hd';have:=(VY.1 Zz).1;omega) YA
  exact⟨_,h1,hv,h2⟩
theorem HR.G3 {w':World}(h:HR ν M w0 s w){i:Nat}{x:SO}(e:s.look i=some (x,true)){o:SO}{r:Obj}{b:Nat × Nat}
  (hb:ν i=some b) (ho:OR ν i o r) (hr:w'.heap[b.1]?=some r) (k:Og w w' b.1):HR ν M w0 (s.put i o) w':=by
 obtain⟨hi,hg,b',o',Yy,Zz,_,YS⟩:=h.look e;obtain rfl:b=b':=by rw[hb]at Yy;exact Option.some.inj Yy
 have YD:b.1<w.heap.size:=(VY.1 Zz).1;let w1:World:={ w' with heap:=w'.heap.setIfInBounds b.1 o' };have hlt':b.1<w'.heap.size:=Wz YD k.size
 have hB:Go.RowKit.Below w.heap.size w w1:=by
  refine⟨k.os,k.tape,k.output,by show w.heap.size<=(w'.heap.setIfInBounds b.1 o').size;simpa using k.size,fun j hj=>?_⟩;show (w'.heap.setIfInBounds b.1 o')[j]?=w.heap[j]?;rw[WO];by_cases e:b.1=j
  ·rw[if_pos e,<- e,Zz];simp[hlt']
  ·rw[if_neg e];exact k.block j hj fun h=>e h.symm
 have h1:=h.grow hB;refine h1.put e hb ho (w':=w') (r:=r) ?_ rfl rfl rfl;show w'.heap=(w'.heap.setIfInBounds b.1 o').setIfInBounds b.1 r;apply Array.ext
 ·simp
 ·intro j hj1 hj2;rw[XW (by simpa using hj1)];by_cases e:b.1=j
  ·rw[if_pos e];subst e;exact (VY.1 hr).2
  ·rw[if_neg e,XW hj1,if_neg e]
theorem rW.hr {s':SH}{w':World}{x:SV}{y:Value}(n:rW ν s w s' w' x y)(h:HR ν M w0 s w):∃ ν',ν.Le ν'/\VR ν' x y/\HR ν' M w0 s' w':=by
 cases n with
 | old hb n=>exact n.hr h hb
 | G3 s0 j so so' b o hs hl he hb ho YA hw hv=>
  subst he;exact⟨ν,aP.Le.refl _,hv,(h.same hs).G3 hl hb YA ho hw⟩
theorem Dm {F F':SF}{fr:Frame}{x:SV}{y:Value}{hl:List Nat}(hf:gj E ν M w0 hl F fr)(hr:HR ν M w0 s w)(hg:GR ν E)(hv:VR ν x y)(h:finish E F x s=some (F',s')):
  s.dD s'/\F'.kind=F.kind/\(s'.ob->s.ob/\I0 E ν M w0 hl s' F' (fr.finish y)):=by
 obtain⟨fn,tm,todo,defers,ret,kind,ro⟩:=F;obtain⟨fn',tmps,todo',defers',mode',kind',ro'⟩:=fr;obtain⟨⟨h1,h2,h3,h4⟩,Y3,YF,hw⟩:=hf;dsimp only at h1 h2 h3 h4 Y3 YF hw;have noret:∀ {P:Prop},ret=true->P:=fun e=>by rw[Y3]at e;cases e
 cases hw with
 | plain ht hk=>
  cases hk with
  | nil=>simp[finish]at h
  | cons hx hk=>
   cases hx with
   | reg ops is=>
    cases is with
    | nil=>simp[finish]at h
    | cons i rest=>
     simp only[finish]at h;split at h
     ·rename_i o ho;cases h;refine⟨.refl _,rfl,fun ob=>⟨ob,⟨h1,h2,h3,h4⟩,fun _=>⟨YF,.plain ?_ (.cons (.reg ops rest) hk)⟩,noret⟩⟩;have:=ht.putDst o hv;simp only[Frame.finish,ho,V9];exact this
     ·cases h
   | ε e=>
    simp only[finish,Option.some.injEq,Prod.mk.injEq]at h;obtain⟨rfl,rfl⟩:=h;exact⟨.refl _,rfl,fun ob=>⟨ob,⟨h1,h2,h3,h4⟩,fun _=>⟨YF,.plain ht (.cons (.Δ e) hk)⟩,noret⟩⟩
   | beginRound=>
    simp only[finish,Option.some.injEq,Prod.mk.injEq]at h;obtain⟨rfl,rfl⟩:=h;exact⟨.refl _,rfl,fun ob=>⟨ob,⟨h1,h2,h3,h4⟩,fun _=>⟨YF,.plain ht hk⟩,noret⟩⟩
   | _=>simp[finish]at h
 | drw Zr hn d Zo hk=>
  rename_i ops e rem Yx L YU z k k';simp only[finish]at h;split at h
  ·rename_i o ho;cases hu:unnamed ops Yx o
   ·rw[hu]at h;cases h
   ·rw[hu]at h;simp only[WE]at h;cases hre:recheck E ops (putDst tm o x) Yx s with
    | none=>rw[hre]at h;cases h
    | some s1=>
    rw[hre]at h;cases h;have d':=d.done ho (.inl hn) hu hv Zo;obtain⟨Ys,Yw⟩:=kR hr hg d'.tm hr hre d'.free d'.pure;refine⟨Ys,rfl,fun ob=>⟨(Yw ob).1,⟨h1,h2,h3,h4⟩,fun _=>⟨YF,?_⟩,noret⟩⟩;have:=Eb.drw Zr (W3.1 hn).2 d' (fun M' w0' w' YK=>((kR (YK.same Ys.symm) hg d'.tm (YK.same Ys.symm) hre d'.free d'.pure).2 ob).2) hk;simp only[Frame.finish,ho,V9];exact this
  ·cases h
theorem xL (d:Nat):∀ (args:List SV) (i:Nat) (T:Tr SV),Tr.Full d T->i+args.length<=2 ^ d->
  Tr.Full d (uO.go T i args)/\∀ t,t<2 ^ d->(uO.go T i args).get t=if i<=t then (args[t - i]?).getD (T.get t) else T.get t
 | [],i,T,h,_=>⟨h,fun t _=>by simp[uO.go]⟩
 | x::xs,i,T,h,hl=>by
  simp only[Wm]at hl
  obtain⟨h1,h2⟩:=xL d xs (i+1) (T.set i x) (h.set _ _) (by omega)
  refine⟨h1,fun t ht=>?_⟩
  rw[uO.go,h2 t ht,Tr.dV h (by omega) ht]
  by_cases e1:i+1<=t
  ·rw[if_pos e1,if_neg (show ¬ t=i by omega),if_pos (show i<=t by omega)]
   have:t - i=(t - (i+1))+1:=by omega
   rw[this,WU]
  ·rw[if_neg e1]
   by_cases e2:t=i
   ·subst e2;simp
   ·rw[if_neg e2,if_neg (show ¬ i<=t by omega)]
theorem J8 {n:Nat}{args:List SV}{a:List Value}{tm:fR}(h:uO n args=some tm)(ha:au ν args a):j3 ν tm (a.toArray++Array.replicate (n - a.toArray.size) undef):=by
 unfold uO at h;cases hc:(Nat.ble args.length n&&Nat.ble n (2 ^ jc n))
 ·rw[hc]at h;cases h
 ·rw[hc]at h;cases h;rw[V6,Nat.ble_eq,Nat.ble_eq]at hc;obtain⟨hl,hn⟩:=hc;have hal:=ha.length;obtain⟨hf,hg⟩:=xL (jc n) args 0 (Tr.mk (.v undef) (jc n)) (Tr.kB _ _) (by omega);refine⟨by simp;omega,hf,hn,fun t ht=>?_⟩;have ht':t<n:=ht;rw[hg t (by omega),if_pos (WW _),Tr.sQ];simp only[Yk];rw[Wt,Array.getElem?_append];by_cases e:t<args.length
  ·rw[if_pos (by simp;omega)];have hx:args[t]?=some args[t]:=V4 e;obtain⟨y,hy,hv⟩:=ha.get hx;rw[hx];have:a.toArray[t]?=some y:=by simpa using hy
   rw[this];exact hv
  ·rw[if_neg (by simp;omega),XR (by omega)];simp only[W1,XK];rw[Array.getElem?_replicate,if_pos (by omega)];exact VR.ae.2 rfl
theorem mV {f:FuncId}{args:List SV}{a:List Value}{kind:CallKind}{G:SF}(h:eO E f args kind=some G)(ha:au ν args a)(s:SH):
  I0 E ν M w0 [] s G (Frame.enter E.P f a.toArray kind)/\G.kind=kind/\∃ fn,E.P.funcs[f]?=some fn/\fn.body≠none:=by
 unfold eO at h;split at h
 ·rename_i fn ZA;split at h
  ·rename_i c hc;cases hm:uO fn.ntmps args with
   | none=>rw[hm]at h;cases h
   | some tm=>
   rw[hm]at h;cases h;have ht:=J8 hm ha;refine⟨⟨⟨rfl,rfl,rfl,rfl⟩,fun _=>⟨rfl,.plain ?_ ?_⟩,fun hc=>by cases hc⟩,rfl,fn,ZA,by rw[hc];exact fun h=>by cases h⟩
   ·simp only[Frame.enter,ZA,Xb,WR];exact ht
   ·simp only[Frame.enter,ZA,V9,hc,WR];exact .cons (.code c) .nil
  ·cases h
 ·cases h
theorem oS:∀ {ps:List Tmp} {args:List SV} {a:List Value} {tm:fR} {t:Array Value},j3 ν tm t->au ν args a->
  j3 ν ((ps.zip args).foldl (fun tm (t,a)=>tm.set t a) tm) ((ps.zip a).foldl (fun tmps (t,a)=>tmps.setIfInBounds t a) t)
 | [],_,_,_,_,h,_=>by simpa using h
 | _::_,[],_,_,_,h,ha=>by rw[ha.ay];simpa using h
 | p::ps,x::xs,_,_,_,h,ha=>by
  obtain⟨y,ys,rfl,hy,ZQ⟩:=ha.cons_inv
  simp only[List.zip_cons_cons,X1]
  exact oS (h.set p hy) ZQ
theorem run_getLoop {l:Nat}{r:Loop}(h:w.heap[l]?=some (.loop r)):(Instr.getLoop l).run E.P w=.ok r w:=by
 have:=gA (P:=E.P) h (by intro c e f;exact fun h=>by cases h);simp[Instr.getLoop,this]
theorem G5 {i:Nat}{b:Nat × Nat}{args:List SV}{a:List Value}{st:LoopState}{p:Option Code}{fn:FuncId}{tm:fR}{params:List Tmp}{assign body:Code}{df:Nat}{wr:Bool}
  (hl:s.look i=some (.loop st p fn tm params assign body df,wr)) (hlen:args.length=params.length) (hb:ν i=some b) (ha:au ν args a) (hr:HR ν M w0 s w):
  ∃ t,(Instr.yield b.1 a.toArray).run E.P w=.ok (.round b.1 fn t assign body) w/\j3 ν ((params.zip args).foldl (fun tm (t,a)=>tm.set t a) tm) t:=by
 obtain⟨_,_,b',o,Yy,ho,YA,_⟩:=hr.look hl;rw[hb]at Yy;cases Yy;obtain⟨t,b2,YW,ht,rfl⟩:=YA;refine⟨_,?_,oS ht ha⟩;have YX:a.toArray.size=params.toArray.size:=by simp[ha.length,hlen]
 simp only[Instr.yield,Wf,run_getLoop ho,V3,YX,ne_eq,not_true_eq_false,Yf,Wk];congr 2;rw[<- Array.foldl_toList];simp
end
section
variable {E:Env}{ν:aP}{M:Own}{w0 w:World}{s s':SH}{hid:List Nat}
theorem si {kd:TypeDesc}{k k':SV}{t:Bool}(h:yp E kd k k' s=some (t,s')):s'.ob->s.ob:=by
 unfold yp at h;split at h
 ·rename_i a x b y;cases hb:(a==b)
  ·rw[hb]at h;cases h
  ·rw[hb]at h;exact fun ob=>((SH.fZ (Option.some.inj h)).2 ob).1
 ·exact fun ob=>((SH.fZ (Option.some.inj h)).2 ob).1
 ·exact fun ob=>((SH.fZ (Option.some.inj h)).2 ob).1
 ·cases h
theorem sU {kd:TypeDesc}{k:SV}:∀ {es:List (SV × SV × Nat)} {i:Nat} {s s':SH} {r:Option (Nat × SV × Nat)},tB E kd k es i s=some (r,s')->s'.ob->s.ob
 | [],_,_,_,_,h,ob=>by cases h;exact ob
 | e::es,i,s,s',r,h,ob=>by
  unfold tB at h
  split at h
  ·rename_i s1 hk
   cases h
   exact si hk ob
  ·rename_i s1 hk
   exact si hk (sU h ob)
  ·cases h
theorem tC {kd:TypeDesc}{k:SV}{es:List (SV × SV × Nat)}{s s':SH}{r:Option (Nat × SV × Nat)}(h:lL E kd k es s=some (r,s')):s'.ob->s.ob:=by
 unfold lL at h;split at h
 ·cases h;exact fun ob=>ob.1
 ·cases h;exact fun ob=>ob.1
 ·exact sU h
theorem yP {t:TypeId}{a x:SV}{l:List SV}(h:qn E t a l s=some (x,s')):s'.ob->s.ob:=by
 unfold qn at h;split at h
 ·split at h
  ·rename_i ag _ _ _ _ _ _;revert h;cases ag
   ·simp only[W5];split
    ·intro h;cases h;exact fun ob=>ob.1
    ·intro h;cases h
   ·intro h;cases h;exact fun ob=>ob.1
  ·cases h
 ·cases h
theorem yU {t:TypeId}{a x:SV}(h:p8 E t a s=some (x,s')):s'.ob->s.ob:=by
 unfold p8 at h
 have map1:∀ {o:Option SV},o.map (·,s)=some (x,s')->s'.ob->s.ob:=by
  intro o h;cases o with
  | none=>cases h
  | some y=>cases h;exact id
 have map2:∀ {b:Bool} {y:SV},(s.ask E b).map (y,·)=some (x,s')->s'.ob->s.ob:=by
  intro b y h;cases hq:s.ask E b with
  | none=>rw[hq]at h;cases h
  | some s1=>rw[hq]at h;cases h;exact fun ob=>((SH.eN hq).2 ob).1
 split at h
 ·split at h
  ·exact map1 h
  ·exact map1 h
  ·exact map2 h
  ·cases h
 ·split at h
  ·rename_i xs _ _ _ _ _;rename_i off info _ _ _ _ _ _ _ _ _;revert h;generalize Nat.ble _ _=bb;cases bb
   ·intro h;cases h
   ·intro h;cases h;exact id
  ·exact map2 h
  ·cases h
 ·cases h
theorem tS {t:TypeId}{a x:SV}(h:nr E t a s=some (x,s')):s'.ob->s.ob:=by
 unfold nr at h;split at h
 ·exact yP h
 ·exact yU h
theorem wZ {t:TypeId}{m k x:SV}{ok:Bool}(h:oN E t m k ok s=some (x,s')):s'.ob->s.ob:=by
 unfold oN at h;split at h
 ·obtain⟨kd,_,h⟩:=Wi.1 h;obtain⟨zi,_,h⟩:=Wi.1 h;obtain⟨z,_,h⟩:=Wi.1 h;dsimp only at h;split at h
  ·obtain⟨es,_,h⟩:=Wi.1 h;obtain⟨⟨r,s1⟩,h1,h⟩:=Wi.1 h;have:=tC h1;dsimp only at h;split at h<;>(cases h;exact this)
  ·split at h
   ·obtain⟨es,_,h⟩:=Wi.1 h;obtain⟨⟨r,s1⟩,h1,h⟩:=Wi.1 h;have:=tC h1;dsimp only at h;split at h<;>(cases h;exact this)
   ·cases h
  ·cases h
 ·cases h
theorem Br {tm:fR}{o:Oper}{x:SV}(hl:looks o.op=true)(hf:ky o.op=true)(hn:∀ a b c,o.op=.convert a b c->False)(h:j2 E tm o s=some [(.val x,s')]):s'.ob->s.ob:=by
 obtain⟨dst,op,type,pos,aft,guard⟩:=o
 have vs1:∀ {z:Option (SV × SH)},(z.map fun x=>[(dG.val x.1,x.2)])=some [(.val x,s')]->z=some (x,s'):=by
  intro z h;cases z with
  | none=>cases h
  | some r=>obtain⟨a,b⟩:=r;simpa using h
 have v1:∀ {z:Option SV},(z.map fun x=>[(dG.val x,s)])=some [(.val x,s')]->s'.ob->s.ob:=by
  intro z h;cases z with
  | none=>cases h
  | some r=>cases h;exact id
 cases op with
 | load t a=>exact tS (vs1 h)
 | lookup t m k ok=>exact wZ (vs1 h)
 | call c=>
  obtain⟨callee,args,ats⟩:=c;cases callee with
  | value f=>cases hf
  | invoke r n=>cases hf
  | builtin b=>
   simp only[j2]at h;split at h
   ·rename_i r hc;have ZI:=vs1 (z:=some r) h;rw[ZI]at hc;cases b with
    | len=>
     simp only[gl]at hc;split at hc
     ·rename_i t ts z _ _;cases hz:vi E t z s with
      | none=>rw[hz]at hc;cases hc
      | some y=>rw[hz]at hc;cases hc;exact id
     ·cases hc
    | cap=>
     simp only[gl]at hc;split at hc
     ·rename_i t ts z _ _;cases hz:vm E t z with
      | none=>rw[hz]at hc;cases hc
      | some y=>rw[hz]at hc;cases hc;exact id
     ·cases hc
    | min=>simp only[gl]at hc;cases hc
    | max=>simp only[gl]at hc;cases hc
    | _=>cases hf
   ·exact v1 h
 | convert a b c=>exact (hn a b c rfl).elim
 | _=>cases hl
theorem ze {ops:Array Oper}{tm:fR}{o:Oper}{b:Bool}(h:wanted ops tm o E s=some (b,s')):s'.ob->s.ob:=by
 unfold wanted at h;split at h
 ·cases h;exact id
 ·split at h
  ·rename_i d _;revert h;cases Nat.blt d tm.nt
   ·intro h;cases h
   ·intro h;simp only[WE]at h;split at h
    ·rename_i t _;cases Y8:s.dec E t with
     | mk t' s1=>
      rw[Y8]at h;cases h;exact fun ob=>((SH.fZ Y8).2 ob).1
    ·cases h;exact id
    ·cases h
  ·cases h
theorem DY {tm:fR}{o:Oper}{x:SV}(hl:looks o.op=true)(hf:ky o.op=true)(h:Es E tm o s=some [(.val x,s')]):s'.ob->s.ob:=by
 unfold Es at h;split at h
 ·split at h
  ·cases h;exact id
  ·cases hp:gH E tm o with
   | none=>rw[hp]at h;cases h
   | some x0=>rw[hp]at h;cases h;exact id
 ·rename_i e;rw[e]at hl;cases hl
 ·exact Br hl hf (by assumption) h
theorem BH {ops:Array Oper}{tm:fR}{o:Oper}{x:SV}(hl:looks o.op=true)(hf:ky o.op=true)(h:oX E ops tm o s=some (x,s')):s'.ob->s.ob:=by
 unfold oX at h;obtain⟨u,_,h⟩:=Wi.1 h;obtain⟨⟨b,s1⟩,hw,h⟩:=Wi.1 h;have hm:=ze hw;cases b
 ·cases h;exact hm
 ·simp only[WE]at h;split at h
  ·rename_i x1 s2 hop;revert h;cases x1.pA
   ·intro h;cases h
   ·intro h;cases h;exact fun ob=>hm (DY hl hf hop ob)
  ·cases h
theorem kF {ops:Array Oper}{tm:fR}:∀ {Yx:List Nat} {s s':SH},recheck E ops tm Yx s=some s'->(∀ p∈Yx,free ops (Region.before ops) p=true)->s'.ob->s.ob
 | [],_,_,h,_=>by cases h;exact id
 | p::ps,s,s',h,hf=>by
  unfold recheck at h
  split at h
  ·cases h
  ·rename_i o ho
   obtain⟨o',Zz,hfl,_⟩:=jQ (hf p Wj)
   rw[ho]at Zz;cases Zz
   cases hl:looks o.op
   ·rw[hl]at h
    exact kF h fun q hq=>hf q (Wc _ hq)
   ·rw[hl]at h
    simp only[WE]at h
    obtain⟨⟨x,s1⟩,h1,h⟩:=Wi.1 h
    obtain⟨d,_,h⟩:=Wi.1 h
    obtain⟨s2,h2,h⟩:=Wi.1 h
    have h3:=kF h fun q hq=>hf q (Wc _ hq)
    exact fun ob=>BH hl hfl h1 ((rP h2).2 (h3 ob)).1
theorem pa {F F':SF}{a:Array Value}{ys:List Item}{x:SV}(hw:lk E ν M w0 hid F.tm F.todo a ys)(h:finish E F x s=some (F',s')):s'.ob->s.ob:=by
 obtain⟨fn,tm,todo,defers,ret,kind,ro⟩:=F;dsimp only at hw;unfold finish at h;dsimp only at h;split at h
 ·split at h
  ·cases h;exact id
  ·cases h
 ·rename_i ops e rem Yx k;split at h
  ·rename_i o ho;revert h;cases unnamed ops Yx o
   ·intro h;cases h
   ·intro h;simp only[WE]at h;cases hre:recheck E ops (putDst tm o x) Yx s with
    | none=>rw[hre]at h;cases h
    | some s1=>
    rw[hre]at h;cases h;cases hw with
    | plain ht hk=>cases hk with|cons hx hk=>cases hx
    | drw Zr hn d Zo hk=>exact kF hre d.free
  ·cases h
 ·cases h;exact id
 ·cases h;exact id
 ·cases h
theorem gE {F F':SF}{fr:Frame}{x:SV}(hf:gj E ν M w0 hid F fr)(h:finish E F x s=some (F',s')):s'.ob->s.ob:=pa hf.todo h
theorem x5 {F F':SF}{fr:Frame}{x:SV}{d:List ry}(hf:gj E ν M w0 hid F fr)(h:finish E { F with defers:=d } x s=some (F',s')):s'.ob->s.ob:=
 pa (F:={ F with defers:=d }) hf.todo h
theorem JW {o:SO}{i:Nat}(h:eW o s=some (i,s')):s'.ob=s.ob:=by
 unfold eW at h;cases hr:s.room
 ·rw[hr]at h;cases h
 ·rw[hr]at h;cases h;rfl
theorem vF {k:xF}{args:List SV}{x:SV}(h:Bv E k args s=some (x,s')):s'.ob->s.ob:=by
 unfold Bv at h;split at h
 ·cases h;exact id
 ·obtain⟨l,_,h⟩:=Wi.1 h;obtain⟨y,_,h⟩:=Wg.1 h;cases h;exact id
 ·rename_i t n;split at h
  ·rename_i elem _;cases hd:decide (0<=n/\n<=2 ^ 40)
   ·rw[hd]at h;cases h
   ·rw[hd]at h;simp only[WE]at h;obtain⟨⟨i,s1⟩,h1,h⟩:=Wg.1 h;cases h;rw[JW h1];exact id
  ·cases h
 ·cases h
theorem gM {P : Program}{f : FuncId}{a : Array Value}{fn : Func}(hf : P.funcs[f]? = some fn)(hb : fn.body ≠ none)(hn : fn.name ≠ "runtime.NumGoroutine") :
  (callFunc f a).run P w=.ok (.enter f a) w:=by
 have Yy:fn.body.isNone=false:=by cases h:fn.body with|none=>exact absurd h hb|some _=>rfl
 simp[callFunc,hf,Yy,hb,hn]
theorem vr {f:dG × SH->Option (List SM)}:∀ {L:List (dG × SH)} {Ls:List SM},pj L f=some Ls->∀ p∈L,∃ l,f p=some l/\∀ x∈l,x∈Ls
 | [],_,_,p,hp=>by cases hp
 | x::xs,Ls,h,p,hp=>by
  unfold pj at h
  split at h
  ·rename_i a b ha hb
   cases h
   rcases V8.1 hp with rfl|hp
   ·exact⟨a,ha,fun y hy=>Xe _ hy⟩
   ·obtain⟨l,hl,hm⟩:=vr hb p hp
    exact⟨l,hl,fun y hy=>Xq _ (hm y hy)⟩
  ·cases h
theorem fb {F F':SF}{fr:Frame}{x:SV}{y:Value}{callers:List SF}{cs cs0:List Frame}(hf:gj E ν M w0 hid F fr)(hr:HR ν M w0 s w)(hg:GR ν E)(hv:VR ν x y)
  (h:finish E F x s=some (F',s')) (hc:bo E ν M w0 cs0 hid F.kind callers cs) (ob:s'.ob):s.ob/\MR E M w0 cs0 ν { top:=F',callers,mem:=s' } (lone (fr.finish y) cs w):=by
 obtain⟨Ys,hk,Yw⟩:=Dm hf hr hg hv h;obtain⟨ZU,ht⟩:=Yw ob;exact⟨ZU,⟨_,_,w,_,rfl,hr.same Ys,hg,ht,by show bo E ν M w0 cs0 hid F'.kind callers cs;rw[hk];exact hc⟩⟩
theorem gz {F:SF}{callers:List SF}{x:SV}{l:List SM}(h:((finish E F x s).map fun (F,s)=>([{ top:=F,callers,mem:=s }]:List SM))=some l):
  ∃ F' s',finish E F x s=some (F',s')/\l=[{ top:=F',callers,mem:=s' }]:=by
 cases hf:finish E F x s with
 | none=>rw[hf]at h;cases h
 | some r=>obtain⟨F',s1⟩:=r;rw[hf]at h;cases h;exact⟨F',s1,rfl,rfl⟩
theorem Bu {tm:fR}{o:Oper}{c:Call}{L:List (dG × SH)}(ho:o.op=.defer c)(h:j2 E tm o s=some L):∀ p∈L,∃ d,p.1=.defer d:=by
 unfold j2 at h;rw[ho]at h;simp only at h;split at h
 ·rename_i f ZD;cases hd:oQ (bq E tm f) (iZ E tm c.args) with
  | none=>rw[hd]at h;cases h
  | some d=>
   rw[hd]at h;cases h;intro p hp;rw[Wl.1 hp];exact⟨d,rfl⟩
 ·cases h
theorem DO {tm:fR}{o:Oper}{L:List (dG × SH)}(h:j2 E tm o s=some L):∀ cs b,o.op≠.select cs b:=by
 intro cs b e;unfold j2 at h;rw[e]at h;cases h
structure Mg (P:Program)(m0:Machine)(fr:Frame)(cs:List Frame)(g:Sem Next)(w:World):Prop where
 value:∀ y w',g.run P w=.ok (.value y) w'->Steps P m0 (lone (fr.finish y) cs w')
 skip:∀ w',g.run P w=.ok .skip w'->Steps P m0 (lone (fr.finish undef) cs w')
 enter:∀ f a w',g.run P w=.ok (.enter f a) w'->Steps P m0 (lone (Frame.enter P f a .normal) (fr::cs) w')
 round:∀ l f t assign body w',g.run P w=.ok (.round l f t assign body) w'->Steps P m0 (lone (Frame.round l f t assign body .normal) (fr::cs) w')
theorem pN {F:SF}{callers:List SF}:∀ {l:List SV} {Ls:List SM},C5 E F callers s l=some Ls->∀ x∈l,∃ F' s',finish E F x s=some (F',s')/\({ top:=F',callers,mem:=s' }:SM)∈Ls
 | [],_,_,x,hx=>by cases hx
 | y::ys,Ls,h,x,hx=>by
  unfold C5 at h
  split at h
  ·rename_i F' s' r hf hr
   cases h
   rcases V8.1 hx with rfl|hx
   ·exact⟨F',s',hf,Wj⟩
   ·obtain⟨F2,s2,h2,hm⟩:=pN hr x hx
    exact⟨F2,s2,h2,Wc _ hm⟩
  ·cases h
theorem ud (K:aK E M w0){F:SF}{fr0:Frame}{m0:Machine}{g:Sem Next}{n:dG}{s1:SH}{l:List SM}{callers:List SF}{cs cs0:List Frame}{ob:Prop}
  (D:ob->Mg E.P m0 fr0 cs g w) (hf:gj E ν M w0 hid F fr0) (hc:bo E ν M w0 cs0 hid F.kind callers cs) (hg:GR ν E)
  (hl:after E F callers (n,s1)=some l) (hn:∀ d,n≠.defer d) (Zf:s1.ob->ob/\dP E g ν M w0 w n s1):
  ∃ S'∈l,(S'.mem.ob->ob/\∃ ν' m',ν.Le ν'/\Steps E.P m0 m'/\MR E M w0 cs0 ν' S' m'):=by
 cases n with
 | val x=>
  obtain⟨F',s2,YR,rfl⟩:=gz hl;refine⟨_,Wl.2 rfl,fun ob=>?_⟩;obtain⟨YG,ν',w',y,hle,Yt,hv,YK⟩:=Zf (gE hf YR ob);obtain⟨_,Z2⟩:=fb (hf.mono hle) YK (hg.mono hle) hv YR (hc.mono hle) ob;refine⟨YG,ν',_,hle,?_,Z2⟩;rcases Yt with Yt|⟨Yt,rfl⟩
  ·exact (D YG).value _ _ Yt
  ·exact (D YG).skip _ Yt
 | enter f args=>
  simp only[after]at hl;split at hl
  ·-- a function without a body
   rename_i k hk;cases hx:Bv E k args s1 with
   | none=>rw[hx]at hl;cases hl
   | some r=>
   obtain⟨x,s2⟩:=r;rw[hx]at hl;obtain⟨F',s3,YR,rfl⟩:=gz hl;refine⟨_,Wl.2 rfl,fun ob=>?_⟩;have Z8:=gE hf YR ob;have ZU:s1.ob:=vF hx Z8;obtain⟨YG,al,ha,ZE,Yt⟩:=Zf ZU;obtain⟨_,ν',w',y,hle,Zg,hv,YK⟩:=K.ext f k hk args x s1 s2 hx ν M w0 w al ZE ha Z8;obtain⟨_,Z2⟩:=fb (hf.mono hle) YK (hg.mono hle) hv YR (hc.mono hle) ob;exact⟨YG,ν',_,hle,(D YG).value _ _ (by rw[Yt];exact Zg),Z2⟩
  ·split at hl
   ·-- a function that is told by its contract
    rename_i g hgs;cases hx:g args s1 with
    | none=>rw[hx]at hl;cases hl
    | some r=>
    obtain⟨x,s2⟩:=r;rw[hx]at hl;obtain⟨F',s3,YR,rfl⟩:=gz hl;refine⟨_,Wl.2 rfl,fun ob=>?_⟩;have Z8:=gE hf YR ob;obtain⟨ZU,hc2⟩:=K.YT f g hgs args x s1 s2 hx Z8;obtain⟨YG,al,ha,ZE,Yt⟩:=Zf ZU;obtain⟨Zg,hcalls⟩:=hc2 ν w al ZE hg ha;obtain⟨e,w',fr,⟨y,rfl,hnv⟩,hcomes,_,hleave⟩:=hcalls (fr0::cs);obtain⟨ν',hle,hv,YK⟩:=hnv.hr ZE;obtain⟨_,Z2⟩:=fb (hf.mono hle) YK (hg.mono hle) hv YR (hc.mono hle) ob;exact⟨YG,ν',_,hle,Steps.trans ((D YG).enter _ _ _ (by rw[Yt];exact Zg)) (Steps.trans hcomes (.one (step_leave_returned hleave))),Z2⟩
   ·split at hl
    ·-- a call of which it is told what may come back
     rename_i g hgs;obtain⟨L,hL,hl⟩:=Wi.1 hl;obtain⟨Yu,hq⟩:=K.qs f g hgs args L hL;by_cases ZU:s1.ob
     ·obtain⟨YG,al,ha,ZE,Yt⟩:=Zf ZU;obtain⟨Zg,hcalls⟩:=hq ν s1 w al ZE hg ha;obtain⟨e,w',fr,⟨YP,x,hx,y,rfl,hv⟩,hcomes,_,hleave⟩:=hcalls (fr0::cs);obtain⟨F',s2,YR,hm⟩:=pN hl x hx;refine⟨_,hm,fun ob=>?_⟩;obtain⟨_,Z2⟩:=fb hf (ZE.grow YP) hg hv YR hc ob;exact⟨YG,ν,_,aP.Le.refl _,Steps.trans ((D YG).enter _ _ _ (by rw[Yt];exact Zg)) (Steps.trans hcomes (.one (step_leave_returned hleave))),Z2⟩
     ·obtain⟨x,L',rfl⟩:=List.exists_cons_of_ne_nil Yu;obtain⟨F',s2,YR,hm⟩:=pN hl x Wj;exact⟨_,hm,fun ob=>absurd (gE hf YR ob) ZU⟩
    cases hG:eO E f args .normal with
    | none=>rw[hG]at hl;cases hl
    | some G=>
    rw[hG]at hl;cases hl;refine⟨_,Wl.2 rfl,fun ob=>?_⟩;obtain⟨YG,al,ha,ZE,Yt⟩:=Zf ob;obtain⟨htop,hkind,fn,ZA,hbody⟩:=mV hG ha _;have Zg:(callFunc f al.toArray).run E.P w=.ok (.enter f al.toArray) w:=gM ZA hbody (K.calls f fn ZA hbody);refine⟨YG,ν,_,aP.Le.refl _,(D YG).enter _ _ _ (by rw[Yt];exact Zg),⟨_,_,w,_,rfl,ZE,hg,htop,?_⟩⟩;show bo E ν M w0 cs0 [] G.kind (F::callers) _;rw[hkind];exact .wait hf hc
 | round l args=>
  simp only[after]at hl;split at hl
  ·rename_i st p fn tm params assign body dfi wr Y5;cases hlen:(args.length==params.length)
   ·rw[hlen]at hl;cases hl
   ·rw[hlen]at hl;cases hl;refine⟨_,Wl.2 rfl,fun ob=>?_⟩;obtain⟨YG,al,bb,hb,ha,ZE,Yt⟩:=Zf ob;obtain⟨t,hy,ht⟩:=G5 (E:=E) Y5 (by simpa using hlen) hb ha ZE;refine⟨YG,ν,_,aP.Le.refl _,(D YG).round _ _ _ _ _ _ (by rw[Yt];exact hy),⟨_,_,w,_,rfl,ZE,hg,?_,bo.wait (hl:=[]) hf hc⟩⟩;exact⟨⟨rfl,rfl,rfl,⟨bb,hb,rfl⟩⟩,fun _=>⟨rfl,.plain ht (.cons (.code assign) (.cons .beginRound (.cons (.code body) .nil)))⟩,fun hc=>by cases hc⟩
  ·cases hl
 | defer d=>exact absurd rfl (hn d)
section
variable {F:SF}{b:Frame}{a z:Array Value}{df:List Deferred}{ops:Array Oper}{i:Nat}{rest:List Nat}{k':List Item}{o:Oper}{L:List (dG × SH)}{Ls:List SM}{callers:List SF}{cs cs0:List Frame}
theorem kW (ho:ops[i]?=some o)(y:Value):(b.atR ⟨a,df⟩ (.inRegion ops (i::rest)::k')).finish y=b.atR (Act.put ⟨a,df⟩ o.dst y) (.inRegion ops rest::k'):=by
 rw[Frame.finish_atR,ho];rfl
theorem NP (K:aK E M w0)(hf:gj E ν M w0 hid F (b.atR ⟨a,df⟩ (.inRegion ops (i::rest)::k')))(ho:ops[i]?=some o)(hw:s.ob->Region.wanted o (yielded ops a)=true)
  (hz:j3 ν F.tm z) (hev:∀ x∈o.op.operands,ev a x=ev z x) (hop:j2 E F.tm o s=some L) (hj:pj L (after E F callers)=some Ls)
  (hc:bo E ν M w0 cs0 hid F.kind callers cs) (hr:HR ν M w0 s w) (hg:GR ν E):
  ∃ S'∈Ls,S'.mem.ob->s.ob/\∃ ν' m',ν.Le ν'/\Steps E.P (lone (b.atR ⟨a,df⟩ (.inRegion ops (i::rest)::k')) cs w) m'/\MR E M w0 cs0 ν' S' m':=by
 obtain⟨p,hp,Zf⟩:=L9 hop hr (hz.Na hg);obtain⟨l,hl,Yv⟩:=vr hj p hp;have hcong:execOp (ev a) o=execOp (ev z) o:=Go.execOp_congr o (DO hop) hev;obtain⟨n,s1⟩:=p
 have hsem:(∀ d,n≠.defer d)->o.semAt b.roundOf (Act.eval ⟨a,df⟩)=execOp (ev z) o:=by
  intro hn;rw[Oper.semAt_eq _ _ _ (fun c e=>by obtain⟨d,hd⟩:=Bu e hop _ hp;exact hn d hd),Act.oC];exact hcong
 by_cases hd:∃ d,n=.defer d
 ·obtain⟨d,rfl⟩:=hd;simp only[after]at hl;split at hl
  ·rename_i η;obtain⟨F',s2,YR,rfl⟩:=gz hl;refine⟨_,Yv _ (Wl.2 rfl),fun ob=>?_⟩;have hfr:=hf.base.ro;rw[η]at hfr;have hb:b.roundOf=none:=hfr;have hsem:o.semAt b.roundOf (Act.eval ⟨a,df⟩)=execOp (ev z) o:=by rw[hb,Oper.semAt_none,Act.oC];exact hcong
   have hf':∀ dv,AV ν d dv->gj E ν M w0 hid { F with defers:=d::F.defers } (b.atR ⟨a,dv::df⟩ (.inRegion ops (i::rest)::k')):=fun dv hd=>
    ⟨⟨hf.base.fn,⟨dv,df,rfl,hd,hf.base.defers⟩,hf.base.kind,hf.base.ro⟩,hf.ret,hf.mode,hf.todo⟩
   have ZU:s1.ob:=by
    have hmono:∀ {fr:Frame},gj E ν M w0 hid { F with defers:=d::F.defers } fr->s2.ob->s1.ob:=fun hx=>gE hx YR;exact x5 hf YR ob
   obtain⟨YG,dv,hd,ZE,Yt⟩:=Zf ZU;obtain⟨_,Z2⟩:=fb (hf' dv hd) ZE hg (VR.ae.2 rfl) YR hc ob;rw[kW ho]at Z2;exact⟨YG,ν,_,aP.Le.refl _,.one (step_defer ho (hw YG) (by rw[hsem];exact Yt)),Z2⟩
  ·cases hl
 ·have hn:∀ d,n≠.defer d:=fun d e=>hd ⟨d,e⟩;have hsem:=hsem hn
  have D:s.ob->Mg E.P (lone (b.atR ⟨a,df⟩ (.inRegion ops (i::rest)::k')) cs w) (b.atR ⟨a,df⟩ (.inRegion ops (i::rest)::k')) cs (execOp (ev z) o) w:=
   fun YG=>⟨fun y w' hr=>by rw[kW ho];exact .one (nR ho (hw YG) (by rw[hsem];exact hr)),fun w' hr=>by rw[kW ho];exact .one (BX ho (hw YG) (by rw[hsem];exact hr)),
    fun f a w' hr=>.one (AZ ho (hw YG) (by rw[hsem];exact hr)),fun l f t as bd w' hr=>.one (A1 ho (hw YG) (by rw[hsem];exact hr))⟩
  obtain⟨S',hm,h⟩:=ud K D hf hc hg hl hn Zf;exact⟨S',Yv _ hm,h⟩
end
end
section
variable {E:Env}{ν:aP}{M:Own}{w0 w:World}{s s':SH}{hid:List Nat}
theorem GK {fr:Frame}(h:fr.mode=.run):fr=fr.atR ⟨fr.tmps,fr.defers⟩ fr.todo:=by
 cases fr;simp only at h;subst h;rfl
def Out (E:Env)(M:Own)(w0:World)(cs0:List Frame)(ν:aP)(ob:Prop)(m:Machine)(Ls:List SM):Prop:=
 ∃ S'∈Ls,S'.mem.ob->ob/\∃ ν' m',ν.Le ν'/\Steps E.P m m'/\MR E M w0 cs0 ν' S' m'
theorem Out.one {cs0:List Frame}{ob:Prop}{m:Machine}{S':SM}(h:S'.mem.ob->ob/\∃ ν' m',ν.Le ν'/\Steps E.P m m'/\MR E M w0 cs0 ν' S' m'):Out E M w0 cs0 ν ob m [S']:=
 ⟨S',Wl.2 rfl,h⟩
section
variable {F:SF}{fr:Frame}{callers:List SF}{cs cs0:List Frame}{Ls:List SM}{m:Machine}
theorem MR.to {k:List SI}{k':List Item}(hr:HR ν M w0 s w)(hg:GR ν E)(hb:HD ν F fr)(Y3:F.ret=false)(ht:j3 ν F.tm fr.tmps)(hc:bo E ν M w0 cs0 [] F.kind callers cs)(hk:tx ν k k'):
  MR E M w0 cs0 ν { top:={ F with todo:=k },callers,mem:=s } (lone (fr.atR ⟨fr.tmps,fr.defers⟩ k') cs w):=
 ⟨_,_,w,_,rfl,hr,hg,⟨⟨hb.fn,hb.defers,hb.kind,hb.ro⟩,fun _=>⟨rfl,.plain ht hk⟩,fun h=>by
  have h:F.ret=true:=h
  rw[Y3]at h;cases h⟩,hc⟩
theorem Eu {k:List SI}{k':List Item}(hk:tx ν k k')(id:Nat):
  (∀ x,mM id k=some x->∃ y,exitTo id k'=some y/\tx ν x y)/\(mM id k=none->exitTo id k'=none):=by
 induction hk with
 | nil=>exact⟨fun x h=>(by cases h),fun _=>rfl⟩
 | cons hx hk ih=>
  cases hx with
  | inBlock id'=>
   simp only[mM,exitTo];cases hb:(id'==id)
   ·simp only[W5,Yf,Xj];exact ih
   ·simp only[WE,Yj];exact⟨fun x h=>by cases h;exact⟨_,rfl,hk⟩,fun h=>by cases h⟩
  | _=>exact ih
theorem Dy {k:List SI}{k':List Item}(hk:tx ν k k')(l:Nat):
  (∀ x,mD l k=some x->∃ y,gotoIn l k'=some y/\tx ν x y)/\(mD l k=none->gotoIn l k'=none):=by
 induction hk with
 | nil=>exact⟨fun x h=>(by cases h),fun _=>rfl⟩
 | cons hx hk ih=>
  cases hx with
  | inScope body=>
   simp only[mD,gotoIn];cases hb:findLabel body l with
   | some rest=>exact⟨fun x h=>by cases h;exact⟨_,rfl,.cons (.code rest) (.cons (.inScope body) hk)⟩,fun h=>by cases h⟩
   | none=>exact ih
  | _=>exact ih
theorem GF {jump:Option Code}(hb:HD ν F fr)(Y3:F.ret=false)(YF:fr.mode=.run)(ht:j3 ν F.tm fr.tmps)(hr:HR ν M w0 s w)(hg:GR ν E)(hc:bo E ν M w0 cs0 [] F.kind callers cs)
  (h:nN E F callers s jump=some Ls)
  (ω:fr.roundOf=none->(jump=none\/jump=some .ret)->step E.P m=.next (lone { fr with mode:=.returning } cs w))
  (hround:∀ l v w' c κ,fr.roundOf=some l->fr.kind=.normal->cs=c::κ->(Instr.endRound l jump).run E.P w=.ok v w'->step E.P m=.next (lone (c.finish v) κ w')):
  Out E M w0 cs0 ν s.ob m Ls:=by
 unfold nN at h;have η:=hb.ro;split at h
 ·rename_i e;rw[e]at η
  have key:(jump=none\/jump=some .ret)->some [({ top:={ F with ret:=true },callers,mem:=s }:SM)]=some Ls->Out E M w0 cs0 ν s.ob m Ls:=by
   intro hj h;cases h;exact .one fun ob=>⟨ob,ν,_,aP.Le.refl _,.one (ω η hj),⟨_,_,w,_,rfl,hr,hg,⟨⟨hb.fn,hb.defers,hb.kind,hb.ro⟩,fun h=>(by cases h),fun _=>⟨rfl,ht⟩⟩,hc⟩⟩
  split at h
  ·exact key (.inl rfl) h
  ·exact key (.inr rfl) h
  ·cases h
 ·rename_i i e;rw[e]at η;obtain⟨b,hbi,hrou⟩:=η;split at h
  ·rename_i st p fn tm params assign body df Y5;split at h
   ·rename_i c rest;split at h
    ·rename_i hk;rw[hk]at hc;cases hc with
     | wait hw htail=>
     rename_i c' κ;obtain⟨_,_,b',o,Yy,ho,YA,YS⟩:=hr.look Y5;rw[hbi]at Yy;cases Yy;obtain⟨t,b2,YW,htm,rfl⟩:=YA
     have Yt:(Instr.endRound b.1 jump).run E.P w=.ok (.bool jump.isNone)
       { w with heap:=w.heap.setIfInBounds b.1 (.loop { state:=if jump.isNone then .ready else .done,pending:=jump,fn,tmps:=t,params:=params.toArray,assign,body,defers:=b2.1 }) }:=by
      simp only[Instr.endRound,Wf,run_getLoop ho,V3,gZ ho (by intro c e f;exact fun h=>by cases h),Wk]
     have YK:HR ν M w0 (s.put i (.loop (if jump.isNone then .ready else .done) jump fn tm params assign body df)) _:=hr.put Y5 hbi ⟨t,b2,YW,htm,rfl⟩ rfl rfl rfl rfl (w':={ w with heap:=w.heap.setIfInBounds b.1 (.loop { state:=if jump.isNone then .ready else .done,pending:=jump,fn,tmps:=t,params:=params.toArray,assign,body,defers:=b2.1 }) });obtain⟨c1,s2,YR,rfl⟩:=gz h;refine .one fun ob=>?_;obtain⟨ZU,Z2⟩:=fb hw YK hg (VR.ae.2 rfl) YR htail ob;exact⟨ZU,ν,_,aP.Le.refl _,.one (hround _ _ _ _ _ hrou (by rw[hb.kind,hk]) rfl Yt),Z2⟩
    ·cases h
   ·cases h
  ·cases h
theorem Ey {t:TypeId}{a:SV}{r:SV × SH}(h:nr E t a s=some r):∃ i off,a=.ptr i off:=by
 unfold nr at h;split at h
 ·unfold qn at h;split at h
  ·exact⟨_,_,rfl⟩
  ·cases h
 unfold p8 at h;split at h
 ·exact⟨_,_,rfl⟩
 ·exact⟨_,_,rfl⟩
 ·cases h
def FL (tmps:Array Value):ResultVar->Sem Value
 | .tmp t=>pure (tmps.getD t undef)
 | .cell a t=>do loadVar t (<- asAddr (tmps.getD a undef))
theorem B6 (fn:Func)(tmps:Array Value):results fn tmps=(fn.results.mapM (FL tmps) >>= fun vs=>pure (if h:vs.size=1 then vs[0] else .tuple vs)):=by
 unfold results;congr 2
theorem nG {tm:fR}{tmps:Array Value}(ht:j3 ν tm tmps):∀ {l:List ResultVar} {s s':SH} {r:List SV},HR ν M w0 s w->dM.go E tm l s=some (r,s')->
  s.dD s'/\(s'.ob->s.ob/\∃ vs,(l.mapM (FL tmps)).run E.P w=.ok vs w/\au ν r vs)
 | [],s,s',r,hr,h=>by
  cases h;exact⟨.refl _,fun ob=>⟨ob,[],rfl,au.nil⟩⟩
 | .tmp t::l,s,s',r,hr,h=>by
  unfold dM.go at h;cases hg:dM.go E tm l s with
  | none=>rw[hg]at h;cases h
  | some q=>
  obtain⟨r1,s1⟩:=q;rw[hg]at h;cases h;obtain⟨Ys,Yw⟩:=nG ht hr hg;refine⟨Ys,fun ob=>?_⟩;obtain⟨YG,vs,Yt,hv⟩:=Yw ob;refine⟨YG,tmps.getD t undef::vs,?_,au.cons (ht.at t) hv⟩;simp only[List.mapM_cons,FL,Wf,Wk,V3,Yt]
 | .cell a t::l,s,s',r,hr,h=>by
  unfold dM.go at h;cases hl:nr E t (tm.get a) s with
  | none=>rw[hl]at h;cases h
  | some q0=>
  obtain⟨x,s1⟩:=q0;rw[hl]at h;simp only at h;cases hg:dM.go E tm l s1 with
  | none=>rw[hg]at h;cases h
  | some q=>
  obtain⟨r1,s2⟩:=q;rw[hg]at h;cases h;have hva:=ht.at a;obtain⟨i,off,hp⟩:=Ey hl;obtain⟨hs1,Ω⟩:=tE hl hr hva;obtain⟨hs2,Y6⟩:=nG ht (hr.same hs1) hg;refine⟨hs1.trans hs2,fun ob=>?_⟩;obtain⟨ZU,vs,Yt,hv⟩:=Y6 ob;obtain⟨YG,y,hy,hvy⟩:=Ω ZU;refine⟨YG,y::vs,?_,au.cons hvy hv⟩;rw[hp]at hva;obtain⟨b,hb,hpt⟩:=VR.aF.1 hva
  have hy':((do loadVar t (<- asAddr (tmps.getD a undef))):Sem Value).run E.P w=.ok y w:=by
   rw[hpt]at hy ⊢;exact hy
  simp only[List.mapM_cons,FL,Wf,Wk,V3,Yt]at hy' ⊢;rw[hy'];simp only[V3,Yt]
theorem nO {fn:Func}{tm:fR}{tmps:Array Value}{x:SV}(ht:j3 ν tm tmps)(hr:HR ν M w0 s w)(h:dM E fn tm s=some (x,s')):
  s.dD s'/\(s'.ob->s.ob/\∃ v,(results fn tmps).run E.P w=.ok v w/\VR ν x v):=by
 unfold dM at h;cases hg:dM.go E tm fn.results.toList s with
 | none=>rw[hg]at h;cases h
 | some q=>
 obtain⟨l,s1⟩:=q;rw[hg]at h;simp only[V9]at h;obtain⟨Ys,Yw⟩:=nG ht hr hg
 have hres:∀ vs,(fn.results.toList.mapM (FL tmps)).run E.P w=.ok vs w->
   (results fn tmps).run E.P w=.ok (if h:vs.toArray.size=1 then vs.toArray[0] else .tuple vs.toArray) w:=by
  intro vs hv;rw[B6,Array.mapM_eq_mapM_toList];simp only[Wf,Sem.run_map,hv,V3,Wk]
 split at h
 ·rename_i y;cases h;refine⟨Ys,fun ob=>?_⟩;obtain⟨YG,vs,Yt,hv⟩:=Yw ob;obtain⟨v,vs',rfl,h1,h2⟩:=hv.cons_inv;obtain rfl:=h2.ay;exact⟨YG,v,by rw[hres _ Yt];rfl,h1⟩
 ·rename_i Yu;cases h;refine⟨Ys,fun ob=>?_⟩;obtain⟨YG,vs,Yt,hv⟩:=Yw ob;refine⟨YG,.tuple vs.toArray,?_,VR.cz.2 ⟨vs,rfl,hv⟩⟩;rw[hres _ Yt,dif_neg];intro h1;have hlen:=hv.length;have h1:vs.length=1:=by simpa using h1
  rw[h1]at hlen;obtain⟨y,e⟩:=List.length_eq_one_iff.1 hlen.symm;exact Yu y e
end
end
section
variable {E:Env}{ν:aP}{M:Own}{w0 w:World}{s s':SH}{hid:List Nat}
variable {F:SF}{fr:Frame}{callers:List SF}{cs cs0:List Frame}{Ls:List SM}{m:Machine}
theorem j8.append:∀ {l:List ry} {ds:List Deferred} {m:List ry} {es:List Deferred},j8 ν l ds->j8 ν m es->j8 ν (l++m) (ds++es)
 | [],_,_,_,h,k=>by have h:_=[]:=h;rw[h];exact k
 | _::_,_,_,_,⟨z,zs,e,hz,hs⟩,k=>by rw[e];exact⟨z,zs++_,rfl,hz,j8.append hs k⟩
theorem MC (K:aK E M w0)(hb:HD ν F fr)(Y3:F.ret=true)(YF:fr.mode=.returning)(ht:j3 ν F.tm fr.tmps)(hr:HR ν M w0 s w)(hg:GR ν E)(hc:bo E ν M w0 cs0 [] F.kind callers cs)
  (h:Lz E F callers s=some Ls):Out E M w0 cs0 ν s.ob (lone fr cs w) Ls:=by
 unfold Lz at h;have hd:=hb.defers;split at h
 ·-- a deferred call
  rename_i g capt args ds e;rw[e]at hd;obtain⟨z,zs,hfd,⟨c',a',rfl,hcv,hav⟩,hds⟩:=hd;cases hG:eO E g (args++capt) .deferred with
  | none=>rw[hG]at h;cases h
  | some G=>
  rw[hG]at h;cases h;refine .one fun ob=>?_;obtain⟨htop,hkind,fn,ZA,hbody⟩:=mV hG (hav.append hcv) _
  have Zg:(invoke (.fn (.func g) c'.toArray) a'.toArray).run E.P w=.ok (.enter g (a'++c').toArray) w:=by
   have:=gM (a:=(a'++c').toArray) (w:=w) ZA hbody (K.calls g fn ZA hbody);simpa[invoke] using this
  refine⟨ob,ν,_,aP.Le.refl _,.one (Go.step_defer (by rw[YF];exact fun h=>(by cases h)) hfd rfl Zg),⟨_,_,w,_,rfl,hr,hg,htop,?_⟩⟩;show bo E ν M w0 cs0 [] G.kind ({ F with defers:=ds }::callers) _;rw[hkind];exact .ret ⟨⟨hb.fn,hds,hb.kind,hb.ro⟩,Y3,YF,ht⟩ hc
 ·cases h
 ·-- the calls that a loop has put off
  rename_i i ds e;rw[e]at hd;obtain⟨z,zs,hfd,⟨b,hbi,rfl⟩,hds⟩:=hd;split at h
  ·rename_i l Y5;cases h;obtain⟨_,_,b',o,Yy,ho,YA,_⟩:=hr.look Y5;rw[hbi]at Yy;cases Yy;obtain⟨es,rfl,hes⟩:=YA
   have Yt:(Instr.takeDeferred b.1).run E.P w=.ok es { w with heap:=w.heap.setIfInBounds b.1 (.deferred none) }:=by
    simp only[Instr.takeDeferred,Wf,gA (P:=E.P) ho (by intro c e f;exact fun h=>by cases h),V3,gZ (P:=E.P) ho (by intro c e f;exact fun h=>by cases h),Wk]
   have YK:HR ν M w0 (s.put i (.dfr none)) { w with heap:=w.heap.setIfInBounds b.1 (.deferred none) }:=hr.put Y5 hbi rfl rfl rfl rfl rfl
   have Z4:step E.P (lone fr cs w)=.next (lone { fr with defers:=es++zs } cs { w with heap:=w.heap.setIfInBounds b.1 (.deferred none) }):=
    Xv (by simp[stepG,unwind,YF,hfd,Sem.runT_eq,Yt])
   exact .one fun ob=>⟨ob,ν,_,aP.Le.refl _,.one Z4,⟨_,_,_,_,rfl,YK,hg,⟨⟨hb.fn,hes.append hds,hb.kind,hb.ro⟩,fun h=>(by
    have h:F.ret=false:=h;rw[Y3]at h;cases h),fun _=>⟨YF,ht⟩⟩,hc⟩⟩
  ·cases h
 ·-- the end
  rename_i e;rw[e]at hd;have hfd:fr.defers=[]:=hd;split at h
  ·rename_i fn ZA;split at h
   ·rename_i x s1 hres;obtain⟨Ys,Yw⟩:=nO (E:=E) ht hr hres;unfold returned at h;split at h
    ·rename_i c rest;split at h
     ·rename_i hk;obtain⟨c1,s2,YR,rfl⟩:=gz h;rw[hk]at hc;cases hc with
      | wait hw htail=>
      refine .one fun ob=>?_;obtain⟨YG,v,Yt,hv⟩:=Yw (gE hw YR ob);obtain⟨_,Z2⟩:=fb hw (hr.same Ys) hg hv YR htail ob;exact⟨YG,ν,_,aP.Le.refl _,.one (step_leave_returned ⟨YF,hfd,by rw[hb.kind,hk],fn,by rw[hb.fn];exact ZA,Yt⟩),Z2⟩
     ·rename_i hk;cases h;rw[hk]at hc;cases hc with
      | ret hw htail=>
      rename_i c' κ;refine .one fun ob=>?_;obtain⟨YG,v,Yt,hv⟩:=Yw ob;have Z4:=step_going_returned (P:=E.P) (fr:=fr) (c:=c') (cs:=κ) (w:=w) (v:=v) (by rw[hb.kind,hk]) ⟨YF,hfd,fn,by rw[hb.fn];exact ZA,Yt⟩
      have hset:({ c' with mode:=settle c'.mode }:Frame)=c':=by
       have:=hw.mode;cases c';simp only at this;subst this;rfl
      rw[hset]at Z4;exact⟨YG,ν,_,aP.Le.refl _,.one Z4,⟨_,_,w,_,rfl,hr.same Ys,hg,⟨hw.base,fun h=>(by rw[hw.ret]at h;cases h),fun _=>⟨hw.mode,hw.tm⟩⟩,htail⟩⟩
     ·cases h
    ·cases h
   ·cases h
  ·cases h
theorem tW {f:Operand}{params:Array Tmp}{assign body:Code}{k':List Item}{l:Nat}{mark:List Deferred}{w1:World}(YF:fr.mode=.run)(Zd:fr.todo=.code (.rangeFunc f params assign body)::k')
  (Yt:(Instr.enterLoop fr.fn fr.tmps params assign body fr.roundOf).run E.P w=.ok (l,mark) w1):
  Mg E.P (lone fr cs w) { fr with todo:=.inRangeFunc l::k',defers:=mark++fr.defers } cs (do let d <- Deferred.ofValue (ev fr.tmps f) #[.func (.yield l) #[] #[]];invoke d.target d.args) w1:=by
 have hev:fr.eval f=ev fr.tmps f:=by cases f<;>rfl
 have hg:(do let d <- resolve ({ fr with todo:=.inRangeFunc l::k',defers:=mark++fr.defers }:Frame).eval { callee:=.value f,args:=#[.const (.func (.yield l) #[] #[])],argTypes:=#[] } 0;invoke d.target d.args:Sem Next)=
   (do let d <- Deferred.ofValue (ev fr.tmps f) #[.func (.yield l) #[] #[]];invoke d.target d.args):=by
  have h2:({ fr with todo:=.inRangeFunc l::k',defers:=mark++fr.defers }:Frame).eval=fr.eval:=by funext x;cases x<;>rfl
  simp only[resolve,h2,hev];simp[Frame.eval]
 have key:(stepG E.P true { frame:=fr,callers:=cs,status:=.running,dying:=none } w).bare=
   (stepG.apply E.P true { fr with todo:=.inRangeFunc l::k',defers:=mark++fr.defers } cs none (do let d <- Deferred.ofValue (ev fr.tmps f) #[.func (.yield l) #[] #[]];invoke d.target d.args) w1).bare:=by
  rw[<- hg];simp only[stepG,stepG.exec,YF,Zd,Sem.runT_eq,Yt,GStep.bare_after]
 refine⟨fun y w' hr=>.one (Xv ?_),fun w' hr=>.one (Xv ?_),fun g a w' hr=>.one (Xv ?_),fun l' g t as bd w' hr=>.one (Xv ?_)⟩ <;>
 ·rw[key];simp[stepG.apply,Sem.runT_eq,hr]
theorem GM (K:aK E M w0){f:Operand}{params:Array Tmp}{assign body:Code}{k:List SI}{k':List Item}(hb:HD ν F fr)(Y3:F.ret=false)(YF:fr.mode=.run)(ht:j3 ν F.tm fr.tmps)
  (hk:tx ν k k') (Zd:fr.todo=.code (.rangeFunc f params assign body)::k') (hr:HR ν M w0 s w) (hg:GR ν E) (hc:bo E ν M w0 cs0 [] F.kind callers cs)
  (h:BQ E F callers s f params assign body k=some Ls):Out E M w0 cs0 ν s.ob (lone fr cs w) Ls:=by
 have noDefer:∀ {fv:SV} {args:List SV} {n:dG},lE fv args=some n->∀ d,n≠.defer d:=by
  intro fv args n hn d e;subst e;unfold lE at hn;split at hn<;>cases hn
 unfold BQ at h;have η:=hb.ro;split at h
 ·-- a loop in a loop's body
  rename_i l e;rw[e]at η;obtain⟨bl,hbl,hrou⟩:=η;split at h
  ·rename_i d wr Y5;obtain⟨⟨i,s1⟩,hn,h⟩:=Wi.1 h;obtain⟨n,Zg,h⟩:=Wi.1 h;obtain⟨_,_,b',o,Yy,ho,YA,_⟩:=hr.look Y5;rw[hbl]at Yy;cases Yy;obtain⟨t0,bd,hbd,_,rfl⟩:=YA
   obtain⟨Yw,ν',hle,hi,YK⟩:=gw hn hr 0 (r:=.loop { state:=.ready,pending:=none,fn:=F.fn,tmps:=fr.tmps,params,assign,body,defers:=bd.1 })
    (fun ν' hle _=>⟨fr.tmps,bd,hle _ _ hbd,ht.mono hle,by simp⟩)
   have Yt:(Instr.enterLoop fr.fn fr.tmps params assign body fr.roundOf).run E.P w=.ok (w.heap.size,[]) { w with heap:=w.heap.push (.loop { state:=.ready,pending:=none,fn:=F.fn,tmps:=fr.tmps,params,assign,body,defers:=bd.1 }) }:=by
    rw[hrou,hb.fn];simp[Instr.enterLoop,run_getLoop ho]
   have D:=tW (cs:=cs) YF Zd Yt
   have hwait:gj E ν' M w0 [] { F with todo:=.ε i::k } { fr with todo:=.inRangeFunc w.heap.size::k',defers:=[]++fr.defers }:=
    ⟨⟨hb.fn,hb.defers.mono hle,hb.kind,hb.ro.mono hle⟩,Y3,YF,.plain (ht.mono hle) (.cons (.ε hi) (hk.mono hle))⟩
   have Zf:s1.ob->s.ob/\dP E _ ν' M w0 _ n s1:=fun ob=>⟨by rw[<- Yw];exact ob,
    p7 (E:=E) Zg (((ht.mono hle).Na (hg.mono hle)) f) (au.cons (VR.gh.2 ⟨_,hi,rfl⟩) au.nil) YK⟩
   obtain⟨S',hm,hS⟩:=ud K (fun _=>D) hwait (hc.mono hle) (hg.mono hle) h (noDefer Zg) Zf;exact⟨S',hm,fun ob=>let ⟨o0,ν2,m',ZR,st,mr⟩:=hS ob;⟨o0,ν2,m',hle.trans ZR,st,mr⟩⟩
  ·cases h
 ·rename_i e;rw[e]at η;have hrou:fr.roundOf=none:=η;obtain⟨⟨d,s1⟩,hn1,h⟩:=Wi.1 h;obtain⟨⟨i,s2⟩,hn2,h⟩:=Wi.1 h;obtain⟨n,Zg,h⟩:=Wi.1 h;obtain⟨Ω,ν1,hle1,hi1,ZE⟩:=gw hn1 hr 0 (r:=.deferred (some [])) (fun ν' hle _=>⟨[],rfl,rfl⟩)
  obtain⟨Y6,ν2,ZR,hi2,hr2⟩:=gw hn2 ZE 0 (r:=.loop { state:=.ready,pending:=none,fn:=F.fn,tmps:=fr.tmps,params,assign,body,defers:=w.heap.size })
   (fun ν' hle _=>⟨fr.tmps,(w.heap.size,0),hle _ _ hi1,(ht.mono hle1).mono hle,by simp⟩)
  have hle:=hle1.trans ZR
  have Yt:(Instr.enterLoop fr.fn fr.tmps params assign body fr.roundOf).run E.P w=.ok (w.heap.size+1,[{ target:=.collected w.heap.size,args:=#[] }])
    { w with heap:=(w.heap.push (.deferred (some []))).push (.loop { state:=.ready,pending:=none,fn:=F.fn,tmps:=fr.tmps,params,assign,body,defers:=w.heap.size }) }:=by
   rw[hrou,hb.fn];simp[Instr.enterLoop];rfl
  have D:=tW (cs:=cs) YF Zd Yt;have hi2':ν2 i=some (w.heap.size+1,0):=by simpa using hi2
  have hwait:gj E ν2 M w0 [] { F with todo:=.ε i::k,defers:=.coll d::F.defers } { fr with todo:=.inRangeFunc (w.heap.size+1)::k',defers:=[{ target:=.collected w.heap.size,args:=#[] }]++fr.defers }:=
   ⟨⟨hb.fn,⟨_,_,rfl,⟨_,ZR _ _ hi1,rfl⟩,hb.defers.mono hle⟩,hb.kind,hb.ro.mono hle⟩,Y3,YF,.plain (ht.mono hle) (.cons (.ε hi2') (hk.mono hle))⟩
  have Zf:s2.ob->s.ob/\dP E _ ν2 M w0 _ n s2:=fun ob=>⟨by rw[<- Ω,<- Y6];exact ob,
   p7 (E:=E) Zg (((ht.mono hle).Na (hg.mono hle)) f) (au.cons (VR.gh.2 ⟨_,hi2',rfl⟩) au.nil) hr2⟩
  obtain⟨S',hm,hS⟩:=ud K (fun _=>D) hwait (hc.mono hle) (hg.mono hle) h (noDefer Zg) Zf;exact⟨S',hm,fun ob=>let ⟨o0,ν3,m',hle3,st,mr⟩:=hS ob;⟨o0,ν3,m',hle.trans hle3,st,mr⟩⟩
end
section
variable {E:Env}{ν:aP}{M:Own}{w0 w:World}{s s':SH}{hid:List Nat}
variable {F:SF}{fr:Frame}{callers:List SF}{cs cs0:List Frame}{Ls:List SM}{m:Machine}
theorem Cw (K:aK E M w0){b:Frame}{a z:Array Value}{df:List Deferred}{ops:Array Oper}{i:Nat}{rest:List Nat}{k':List Item}{o:Oper}
  (hf:gj E ν M w0 hid F (b.atR ⟨a,df⟩ (.inRegion ops (i::rest)::k'))) (ho:ops[i]?=some o) (hz:j3 ν F.tm z) (hev:∀ x∈o.op.operands,ev a x=ev z x)
  (hwz:Region.wanted o (yielded ops a)=Region.wanted o (yielded ops z)) (hc:bo E ν M w0 cs0 hid F.kind callers cs) (hr:HR ν M w0 s w) (hg:GR ν E)
  (h:vT E ops F callers o s=some Ls):Out E M w0 cs0 ν s.ob (lone (b.atR ⟨a,df⟩ (.inRegion ops (i::rest)::k')) cs w) Ls:=by
 unfold vT at h;split at h
 ·rename_i s1 hw;obtain⟨Ys,Yw⟩:=pK hw hz;obtain⟨L,hop,hj⟩:=Wi.1 h;obtain⟨S',hm,hS⟩:=NP K hf ho (fun ob=>by rw[hwz,(Yw ob).2]) hz hev hop hj hc (hr.same Ys) hg;exact⟨S',hm,fun ob=>let ⟨o1,r⟩:=hS ob;⟨(Yw o1).1,r⟩⟩
 ·rename_i s1 hw;obtain⟨Ys,Yw⟩:=pK hw hz;obtain⟨F',s2,YR,rfl⟩:=gz h;refine .one fun ob=>?_;obtain⟨ZU,Z2⟩:=fb hf (hr.same Ys) hg (VR.ae.2 rfl) YR hc ob;obtain⟨YG,hwf⟩:=Yw ZU;rw[kW ho]at Z2;have hs:=stepR_op_skip (P:=E.P) (b:=b) (a:=⟨a,df⟩) (k:=k') (cs:=cs) (w:=w) (ops:=ops) (i:=i) (rest:=rest) (by rw[ho];simp[hwz,hwf]);rw[ho]at hs;exact⟨YG,ν,_,aP.Le.refl _,.one hs,Z2⟩
 ·cases h
def JG (E:Env)(M:Own)(w0:World)(cs0:List Frame)(ν:aP)(ob:Prop)(m:Machine)(Ls:List SM):Prop:=
 ∃ S'∈Ls,S'.mem.ob->ob/\∃ ν' m' M1 w1,ν.Le ν'/\Steps E.P m m'/\dh M w0 M1 w1/\MR E M1 w1 cs0 ν' S' m'
theorem Out.base {M1:Own}{w1:World}{ob:Prop}(B:dh M w0 M1 w1)(h:Out E M1 w1 cs0 ν ob m Ls):JG E M w0 cs0 ν ob m Ls:=by
 obtain⟨S',hS',h⟩:=h;refine⟨S',hS',fun o=>?_⟩;obtain⟨o1,ν',m',hle,Ze,hmr⟩:=h o;exact⟨o1,ν',m',M1,w1,hle,Ze,B,hmr⟩
theorem qk {l:List (Nat × Nat)}{e B:Nat}(hn:(l.map (·.1)).Nodup)(h2:(l.map (·.2)).Nodup)(he:(e,B)∈l):∀ q∈l,q.1≠e->q.2≠B:=by
 intro q hq Yu e2;obtain⟨i,hi,hqi⟩:=List.mem_iff_getElem.1 hq;obtain⟨j,hj,hej⟩:=List.mem_iff_getElem.1 he
 have:i=j:=by
  refine (Yq (h₀:=by simpa using hi) (h₁:=by simpa using hj) h2).1 ?_;simp[hqi,hej,e2]
 subst this;rw[hqi]at hej;exact Yu (by rw[hej])
theorem Mw (K:aK E M w0){M1:Own}{w1:World}{ops:Array Oper}{rem Yx L:List Nat}{YU:List (Nat × Nat)}{z:Array Value}{k:List SI}{k':List Item}(hB:dh M w0 M1 w1)(hb:HD ν F fr)(Y3:F.ret=false)(YF:fr.mode=.run)(Zd:fr.todo=.inRegion ops L::k')
  (Zr:gx ops=true) (hn:rem.Nodup) (d:jU E ν M1 w1 ops rem Yx YU L F.tm fr.tmps z) (st:zy E ν s ops Yx z) (hk:tx ν k k') (hr:HR ν M1 w1 s w) (hg:GR ν E) (hc:bo E ν M1 w1 cs0 (YU.map (·.2)) F.kind callers cs)
  (h:Ly E F callers s ops rem Yx k=some Ls):JG E M w0 cs0 ν s.ob (lone fr cs w) Ls:=by
 unfold Ly at h;dsimp only at h;split at h
 ·-- one goes ahead of its G3
  rename_i i hfind;have hi:=WV hfind;have hp:=Xp hfind;rw[V6,V6]at hp;split at h
  ·rename_i o ho;cases hfr:oX E ops F.tm o s with
   | none=>rw[hfr]at h;cases h
   | some r=>
   obtain⟨x,s1⟩:=r;rw[hfr]at h;cases h;obtain⟨Ys,Yw⟩:=d.float st hi hp.1.1 hp.1.2 ho hfr hr hg;refine (Out.one fun ob=>?_:Out E M1 w1 cs0 ν s.ob (lone fr cs w) _).base hB;obtain⟨YG,z',d',st'⟩:=Yw ob
   exact⟨YG,ν,_,aP.Le.refl _,Steps.refl _ _,⟨_,_,w,_,rfl,hr.same Ys,hg,⟨⟨hb.fn,hb.defers,hb.kind,hb.ro⟩,fun _=>⟨YF,by rw[Zd];exact .drw Zr (hn.filter _) d' st' hk⟩,fun h=>(by
    have h:F.ret=true:=h;rw[Y3]at h;cases h)⟩,hc⟩⟩
  ·cases h
 ·split at h
  ·rename_i e hfind
   have he:e∈rem:=by
    rw[Option.or_eq_some_iff]at hfind;rcases hfind with h1|⟨_,h1⟩<;>exact WV h1
   revert h;cases YM:(ready (Region.before ops) rem e&&rem.all fun j=>Nat.beq j e||((Region.before ops).getD j 0).testBit e||late E ops (Region.before ops) F.tm.nt j||rem.any fun i=>!Nat.beq i j&&((Region.before ops).getD j 0).testBit i&&!late E ops (Region.before ops) F.tm.nt i)
   ·intro h;cases h
   ·intro h;simp only[WE]at h;rw[V6]at YM;obtain⟨hready,YM⟩:=YM;have hready:∀ j∈rem,((Region.before ops).getD e 0).testBit j=false:=fun j hj=>by simpa using Wn.1 hready j hj
    have YX:fr.tmps.size=F.tm.nt:=by rw[d.size];exact d.tm.size
    have hun:∀ j∈rem,j=e\/((Region.before ops).getD j 0).testBit e=true\/late E ops (Region.before ops) F.tm.nt j=true\/(∃ i∈rem,i≠j/\((Region.before ops).getD j 0).testBit i=true/\late E ops (Region.before ops) F.tm.nt i=false):=by
     intro j hj;have h1:=Wn.1 YM j hj;rw[XH,XH,XH]at h1;rcases h1 with ((h1|h1)|h1)|h1
     ·exact .inl (WM h1)
     ·exact .inr (.inl h1)
     ·exact .inr (.inr (.inl h1))
     ·obtain⟨i,hi,h2⟩:=List.any_eq_true.1 h1;rw[V6,V6]at h2;refine .inr (.inr (.inr ⟨i,hi,fun e=>?_,h2.1.2,by simpa using h2.2⟩));subst e;simp at h2
    split at h
    ·rename_i o ho;have hfr:fr=fr.atR ⟨fr.tmps,fr.defers⟩ (.inRegion ops L::k'):=by rw[<- Zd];exact GK YF
     by_cases Z7:e∈YU.map (·.1)
     ·-- an allocation that the machine has carried out already
      obtain⟨q,hq,rfl⟩:=Wb.1 Z7;obtain⟨e,B⟩:=q;dsimp only at *;obtain⟨o1,t,so,r,g1,g2,g3,g4,g5,g6,g7⟩:=d.YY _ hq;rw[ho]at g1;cases g1;obtain⟨o2,so2,t2,g8,g9,g10,g11,g12,g13⟩:=rV g2;rw[ho]at g8;cases g8;obtain⟨ty,r2,hop,_,_,_,hsop⟩:=pJ g4;unfold vT at h;have hwant:wanted ops F.tm o E s=some (true,s):=by unfold wanted;rw[g10]
      rw[hwant]at h;dsimp only at h;rw[hsop F.tm o s rfl]at h;cases hnw:eW so s with
      | none=>rw[hnw]at h;cases h
      | some p=>
      obtain⟨i,s2⟩:=p;rw[hnw]at h;simp only[Xb,V9,pj,after]at h;unfold finish at h;simp only[ho]at h;revert h;cases hu:unnamed ops (Yx.filter fun p=>!(((Region.before ops).getD e 0).testBit p)) o
      ·intro h;cases h
      ·intro h;simp only[WE]at h
       have hrm:s.room=true/\i=s.nx/\s2=s.new so:=by
        unfold eW at hnw;cases YB:s.room
        ·rw[YB]at hnw;cases hnw
        ·rw[YB]at hnw;cases hnw;exact⟨rfl,rfl,rfl⟩
       obtain⟨YB,rfl,rfl⟩:=hrm;cases hre:recheck E ops (putDst F.tm o (.ptr s.nx 0)) (Yx.filter fun p=>!(((Region.before ops).getD e 0).testBit p)) (s.new so) with
       | none=>rw[hre]at h;cases h
       | some s3=>
       rw[hre]at h;simp only[Xb,W4,Option.some.injEq]at h;subst h;obtain⟨hle,hr2⟩:=hr.show g6 YB g5;have hg2:=hg.mono hle;have hbl:=qk d.γ hc.nodup hq;have d2:=d.Cd hle hq ho hu (aP.bO _ _ _) hbl;obtain⟨Zv,τ⟩:=kR hr2 hg2 d2.tm hr2 hre d2.free d2.pure
       have hc2:bo E (ν.put s.nx (B,0)) (M1.show B) w1 cs0 ((YU.filter fun q=>!Nat.beq q.1 e).map (·.2)) F.kind callers cs:=by
        refine (hc.mono hle).dz (fun b hb r' h'=>h'.show fun e'=>hb (Wb.2 ⟨_,hq,e'.symm⟩)) fun x _ hnd=>?_;exact hnd.sublist (List.Sublist.append (List.Sublist.map _ Yi) (List.Sublist.refl _))
       refine⟨_,Wl.2 rfl,fun ob=>?_⟩;obtain⟨Z8,_⟩:=τ ob
       exact⟨Z8,_,_,_,_,hle,Steps.refl _ _,hB.show g6,⟨_,_,w,_,rfl,hr2.same Zv,hg2,⟨⟨hb.fn,hb.defers.mono hle,hb.kind,hb.ro.mono hle⟩,fun _=>⟨YF,by
        rw[Zd];exact .drw Zr (hn.filter _) d2 (fun M' w0' w' YK=>((kR (YK.same Zv.symm) hg2 d2.tm (YK.same Zv.symm) hre d2.free d2.pure).2 ob).2) (hk.mono hle)⟩,fun h=>(by
        have h:F.ret=true:=h;rw[Y3]at h;cases h)⟩,hc2⟩⟩
     ·obtain⟨a',L',lag',M2,w2,w',σ,d2,hr2,Γ,hhid,l0,hl0,hnd0,hge⟩:=jU.reach Zr he hun st YX d hr hB Z7 (b:=fr) (df:=fr.defers) (k:=k') (cs:=cs);have d3:=d2.narrow he
      have hnd:(e::rem.filter fun j=>!Nat.beq j e).Nodup:=by
       refine W3.2 ⟨fun hm=>?_,hn.filter _⟩;have:=(Wo.1 hm).2;simp at this
      have Zo:sR ops lag' e:=fun q hq=>hready q.1 (d2.Zp q hq)
      have hwait:gj E ν M2 w2 (lag'.map (·.2)) { F with todo:=.drw ops (e::rem.filter fun j=>!Nat.beq j e) (Yx.filter fun p=>!(((Region.before ops).getD e 0).testBit p))::k } (fr.atR ⟨a',fr.defers⟩ (.inRegion ops (e::L')::k')):=
       ⟨⟨hb.fn,hb.defers,hb.kind,hb.ro⟩,Y3,rfl,.drw Zr hnd d3 Zo hk⟩
      have hc2:bo E ν M2 w2 cs0 (lag'.map (·.2)) F.kind callers cs:=by
       refine hc.dz (fun b _ r' h'=>hhid b r' h') fun x hx hndx=>?_;rw[hl0,Xz,Xy];refine⟨hnd0,hndx,fun u hu v hv e'=>?_⟩;have hbig:=hge u hu
       have hsmall:∃ r,eG M1 w1 v r:=by
        rcases WJ.1 hv with hv|hv
        ·obtain⟨q,hq,rfl⟩:=Wb.1 hv;obtain⟨_,_,_,r,_,_,_,_,_,g,_⟩:=d.YY q hq;exact⟨r,g⟩
        ·exact hx v hv
       obtain⟨r,YK⟩:=hsmall;have:=(VY.1 YK.1).1;omega
      obtain⟨S',hm,hS⟩:=Cw (K.dz Γ) hwait ho d3.tm (d3.NQ Zo ho) (d3.wanted Zo ho) hc2 hr2 hg h;refine⟨S',hm,fun ob=>?_⟩;obtain⟨YG,ν',m',hle,Ze,Z2⟩:=hS ob;refine⟨YG,ν',m',M2,w2,hle,?_,Γ,Z2⟩;rw[hfr];exact Steps.trans σ Ze
    ·cases h
  ·cases h
theorem Ep {ops:Array Oper}{tm:fR}{a:Array Value}(Zr:gx ops=true)(t:Nat)(ht:j3 ν tm a):jU E ν M w0 ops (List.range ops.size) [] [] (Region.schedule true ops t) tm a a:=by
 have o:=zm Zr t
 exact⟨o.nodup,o.ord,o.irr,fun i hi=>(o.all i).1 hi,fun i hi=>.inl ((o.all i).2 (Xd.1 hi)),fun i hi=>.inl (Xd.2 ((o.all i).1 hi)),fun _ _ h=>(by cases h),fun _ h=>(by cases h),fun _ h=>(by cases h),ht,rfl,
  fun _ _ _=>rfl,fun _ h=>(by cases h),fun _ h=>(by cases h),fun _ h=>(by cases h),fun _ h=>(by cases h),fun _ h=>(by cases h),XF,fun _ h=>(by cases h)⟩
theorem Fc {α:Type}{b:Bool}{x y:α}(h:b=true):(bif b then x else y)=x:=by rw[h];rfl
theorem Ee {α:Type}{b:Bool}{x y:α}(h:b=false):(bif b then x else y)=y:=by rw[h];rfl
theorem yQ {M0:Own}{w00:World}(K0:aK E M0 w00)(B0:dh M0 w00 M w0){S:SM}(hm:MR E M w0 cs0 ν S m)(h:uj E S=some Ls):JG E M0 w00 cs0 ν S.mem.ob m Ls:=by
 have K:=K0.dz B0;obtain⟨F,callers,s⟩:=S;obtain⟨fr,cs,w,hid,rfl,hr,hg,⟨hb,Yt,Y3⟩,hc⟩:=hm;dsimp only at hr hb Yt Y3 hc;unfold uj at h;dsimp only at h;cases hF:F.ret
 case true=>
  rw[Fc hF]at h;obtain⟨YF,ht⟩:=Y3 hF;exact (MC K hb hF YF ht hr hg hc.clear h).base B0
 case false=>
 rw[Ee hF]at h;obtain⟨YF,hR⟩:=Yt hF;generalize ZV:F.todo=xs at h hR;generalize Zd:fr.todo=ys at hR;have hfr:fr=fr.atR ⟨fr.tmps,fr.defers⟩ ys:=by rw[<- Zd];exact GK YF
 have sw:∀ {m':Machine},step E.P (lone (fr.atR ⟨fr.tmps,fr.defers⟩ ys) cs w)=.next m'->Steps E.P (lone fr cs w) m':=fun h=>by rw[<- hfr]at h;exact .one h
 cases hR with
 | drw Zr hn d st hk=>
  rename_i ops rem Yx L YU z k k';cases rem with
  | nil=>
   cases h;refine (Out.one fun ob=>?_:Out E M w0 cs0 ν s.ob (lone fr cs w) _).base B0;obtain⟨a',σ,ht⟩:=d.BB (st _ _ _ hr) (b:=fr) (df:=fr.defers) (k:=k') (cs:=cs);rw[<- hfr]at σ
   refine⟨ob,ν,_,aP.Le.refl _,σ,⟨_,_,w,_,rfl,hr,hg,⟨⟨hb.fn,hb.defers,hb.kind,hb.ro⟩,fun _=>⟨rfl,.plain ht hk⟩,fun h=>(by
    have h:F.ret=true:=h;rw[hF]at h;cases h)⟩,hc.clear⟩⟩
  | cons i rem=>exact Mw K0 B0 hb hF YF Zd Zr hn d st hk hr hg hc h
 | plain ht hk=>
 refine Out.base B0 ?_
 have to:∀ {k:List SI} {k':List Item},step E.P (lone (fr.atR ⟨fr.tmps,fr.defers⟩ ys) cs w)=.next (lone (fr.atR ⟨fr.tmps,fr.defers⟩ k') cs w)->tx ν k k'->
   some [({ top:={ F with todo:=k },callers,mem:=s }:SM)]=some Ls->Out E M w0 cs0 ν s.ob (lone fr cs w) Ls:=by
  intro k k' hs hk h;cases h;exact .one fun ob=>⟨ob,ν,_,aP.Le.refl _,sw hs,MR.to hr hg hb hF ht hc hk⟩
 have leave:∀ {jump:Option Code},(fr.roundOf=none->(jump=none\/jump=some .ret)->step E.P (lone (fr.atR ⟨fr.tmps,fr.defers⟩ ys) cs w)=.next (lone { fr.atR ⟨fr.tmps,fr.defers⟩ ys with mode:=.returning } cs w))->
   (∀ l v w' c κ,fr.roundOf=some l->fr.kind=.normal->(Instr.endRound l jump).run E.P w=.ok v w'->step E.P (lone (fr.atR ⟨fr.tmps,fr.defers⟩ ys) (c::κ) w)=.next (lone (c.finish v) κ w'))->
   nN E F callers s jump=some Ls->Out E M w0 cs0 ν s.ob (lone fr cs w) Ls:=by
  intro jump h1 h2 h;refine GF hb hF YF ht hr hg hc h (fun η hj=>?_) (fun l v w' c κ hl hkd hcs hrn=>?_)
  ·have:=h1 η hj;rw[<- hfr]at this;exact this
  ·subst hcs;have:=h2 l v w' c κ hl hkd hrn;rw[<- hfr]at this;exact this
 cases hk with
 | nil=>exact leave (fun η _=>stepR_end η) (fun l v w' c κ hl hkd hrn=>stepR_round_end hl hkd hrn) h
 | cons hx hk=>
  rename_i k k';cases hx with
  | inBlock id=>exact to stepR_inBlock hk h
  | inLoop c=>exact to stepR_inLoop (.cons (.code c) (.cons (.inLoop c) hk)) h
  | inScope c=>exact to (Xv (by simp[stepG,stepG.exec,Frame.atR])) hk h
  | reg ops is=>
   cases is with
   | nil=>exact to stepR_region_end hk h
   | cons i rest=>
    dsimp only at h;split at h
    ·cases h
    ·rename_i o ho;have hwait:gj E ν M w0 [] F (fr.atR ⟨fr.tmps,fr.defers⟩ (.inRegion ops (i::rest)::k')):=⟨⟨hb.fn,hb.defers,hb.kind,hb.ro⟩,hF,rfl,by rw[ZV];exact .plain ht (.cons (.reg ops _) hk)⟩;have:=Cw K hwait ho ht (fun _ _=>rfl) rfl hc hr hg h;rw[<- hfr]at this;exact this
  | ε e=>cases h
  | Δ e=>
   rename_i ie be;dsimp only at h;split at h
   ·rename_i st jump fn tm params assign body df Y5;obtain⟨_,_,b',o,Yy,ho,YA,_⟩:=hr.look Y5;rw[e]at Yy;cases Yy;obtain⟨t,b2,YW,htm,rfl⟩:=YA
    have key:st≠.busy->some [({ top:={ F with todo:=(jump.map SI.code).toList++k },callers,mem:=s.put ie (.loop .exhausted jump fn tm params assign body df) }:SM)]=some Ls->Out E M w0 cs0 ν s.ob (lone fr cs w) Ls:=by
     intro Ze h;cases h;have hst':(st==LoopState.busy)=false:=by cases st<;>first|rfl|exact absurd rfl Ze
     have hrn:(Instr.endLoop be.1).run E.P w=.ok jump { w with heap:=w.heap.setIfInBounds be.1 (.loop { state:=.exhausted,pending:=jump,fn,tmps:=t,params:=params.toArray,assign,body,defers:=b2.1 }) }:=by
      simp only[Instr.endLoop,Wf,run_getLoop ho,V3,hst',Xj,Yf,gZ (P:=E.P) ho (by intro c e f;exact fun h=>by cases h),Wk]
     have YK:=hr.put Y5 e (o:=.loop .exhausted jump fn tm params assign body df) ⟨t,b2,YW,htm,rfl⟩ rfl rfl rfl rfl (w':={ w with heap:=w.heap.setIfInBounds be.1 (.loop { state:=.exhausted,pending:=jump,fn,tmps:=t,params:=params.toArray,assign,body,defers:=b2.1 }) })
     have hs:step E.P (lone (fr.atR ⟨fr.tmps,fr.defers⟩ (.endRangeFunc be.1::k')) cs w)=.next (lone (fr.atR ⟨fr.tmps,fr.defers⟩ ((jump.map Item.code).toList++k')) cs _):=
      Xv (by simp[stepG,stepG.exec,Frame.atR,Sem.runT_eq,hrn];rfl)
     have hks:tx ν ((jump.map SI.code).toList++k) ((jump.map Item.code).toList++k'):=by
      cases jump with
      | none=>exact hk
      | some c=>exact .cons (.code c) hk
     exact .one fun ob=>⟨ob,ν,_,aP.Le.refl _,sw hs,MR.to YK hg hb hF ht hc hks⟩
    split at h
    ·cases h
    ·rename_i Yu;exact key (fun e=>Yu e) h
   ·cases h
  | beginRound=>
   dsimp only at h;split at h
   ·rename_i i η;split at h
    ·rename_i p fn tm params assign body df Y5;cases h;have hro':=hb.ro;rw[η]at hro';obtain⟨b,hbi,hrou⟩:=hro';obtain⟨_,_,b',o,Yy,ho,YA,_⟩:=hr.look Y5;rw[hbi]at Yy;cases Yy;obtain⟨t,b2,YW,htm,rfl⟩:=YA
     have hrn:(Instr.beginRound b.1).run E.P w=.ok () { w with heap:=w.heap.setIfInBounds b.1 (.loop { state:=.busy,pending:=p,fn,tmps:=t,params:=params.toArray,assign,body,defers:=b2.1 }) }:=by
      simp only[Instr.beginRound,Wf,run_getLoop ho,V3,gZ (P:=E.P) ho (by intro c e f;exact fun h=>by cases h),Wk]
     have YK:=hr.put Y5 hbi (o:=.loop .busy p fn tm params assign body df) ⟨t,b2,YW,htm,rfl⟩ rfl rfl rfl rfl (w':={ w with heap:=w.heap.setIfInBounds b.1 (.loop { state:=.busy,pending:=p,fn,tmps:=t,params:=params.toArray,assign,body,defers:=b2.1 }) });exact .one fun ob=>⟨ob,ν,_,aP.Le.refl _,sw (stepR_beginRound hrou hrn),MR.to YK hg hb hF ht hc hk⟩
    ·cases h
   ·cases h
  | code c=>
   cases c with
   | skip=>exact to stepR_skip hk h
   | label l=>exact to stepR_label hk h
   | seq a b=>exact to stepR_seq (.cons (.code a) (.cons (.code b) hk)) h
   | cond c a b=>
    dsimp only at h;split at h
    ·rename_i t hev;cases h;obtain⟨Ys,Yw⟩:=SH.fZ (s:=s) (E:=E) (b:=t) (t:=(s.dec E t).1) (s':=(s.dec E t).2) rfl;have hv:=(ht.Na hg) c;rw[hev]at hv;have hv:ev fr.tmps c=.bool t:=VR.ae.1 hv;refine .one fun ob=>?_;obtain⟨YG,Zs⟩:=Yw ob;have hs:=stepR_cond (P:=E.P) (b:=fr) (a:=⟨fr.tmps,fr.defers⟩) (k:=k') (cs:=cs) (w:=w) (c:=c) (x:=a) (y:=b) (t:=t) (by rw[Act.oC];exact hv);refine⟨YG,ν,_,aP.Le.refl _,sw hs,MR.to (hr.same Ys) hg hb hF ht hc ?_⟩;rw[<- Zs];cases t
     ·exact .cons (.code b) hk
     ·exact .cons (.code a) hk
    ·cases h
   | block id c=>exact to stepR_block (.cons (.code c) (.cons (.inBlock id) hk)) h
   | loop c=>exact to stepR_loop (.cons (.code c) (.cons (.inLoop c) hk)) h
   | scope c=>exact to (Xv (by simp[stepG,stepG.exec,Frame.atR])) (.cons (.code c) (.cons (.inScope c) hk)) h
   | exit id=>
    dsimp only at h;obtain⟨he1,he2⟩:=Eu hk id;split at h
    ·rename_i k1 hx;obtain⟨y,hy,hky⟩:=he1 _ hx;exact to (stepR_exit hy) hky h
    ·rename_i hx;exact leave (fun _ hj=>by rcases hj with hj|hj<;>cases hj) (fun l v w' c κ hl hkd hrn=>stepR_round_exit hl hkd (he2 hx) hrn) h
   | goto l=>
    dsimp only at h;obtain⟨he1,he2⟩:=Dy hk l;split at h
    ·rename_i k1 hx;obtain⟨y,hy,hky⟩:=he1 _ hx;exact to (stepR_goto hy) hky h
    ·rename_i hx;exact leave (fun _ hj=>by rcases hj with hj|hj<;>cases hj) (fun l v w' c κ hl hkd hrn=>stepR_round_goto hl hkd (he2 hx) hrn) h
   | ret=>exact leave (fun η _=>stepR_ret η) (fun l v w' c κ hl hkd hrn=>stepR_round_ret hl hkd hrn) h
   | rangeFunc f params assign body=>exact GM K hb hF YF ht hk Zd hr hg hc h
   | refuse why=>cases h
   | region id ops draw=>
    dsimp only at h;cases draw
    ·exact to stepR_region (.cons (.reg ops _) hk) h
    ·simp only[WE]at h;cases Zr:gx ops
     ·rw[Zr]at h;cases h
     ·rw[Zr]at h;cases h;have hs:=stepR_region_draw (P:=E.P) (b:=fr) (a:=⟨fr.tmps,fr.defers⟩) (k:=k') (cs:=cs) (w:=w) (ops:=ops) (id:=id);rw[K.mixed]at hs
      exact .one fun ob=>⟨ob,ν,_,aP.Le.refl _,sw hs,⟨_,_,_,_,rfl,hr.drawn _,hg,⟨⟨hb.fn,hb.defers,hb.kind,hb.ro⟩,fun _=>⟨rfl,.drw Zr List.nodup_range (Ep Zr _ ht) (fun _ _ _ _ p hp=>by cases hp) hk⟩,fun h=>(by
       have h:F.ret=true:=h;rw[hF]at h;cases h)⟩,hc⟩⟩
end
section
variable {E:Env}{ν:aP}{M:Own}{w0 w:World}{s s':SH}{hid:List Nat}
theorem HR.GN (h:HR ν M w0 s w)(l:List Prop):HR ν M w0 { s with Y9:=l } w:=⟨h.full,h.dom,h.fresh,h.obj,h.inj,h.size,h.frame,h.ro,h.os,h.tape,h.output⟩
theorem MR.GN {cs0:List Frame}{S:SM}{m:Machine}(h:MR E M w0 cs0 ν S m)(l:List Prop):MR E M w0 cs0 ν { S with mem:={ S.mem with Y9:=l } } m:=by
 obtain⟨fr,cs,w,hl,hm,hr,hg,⟨h1,h2,h3⟩,hc⟩:=h;refine⟨fr,cs,w,hl,hm,hr.GN l,hg,⟨h1,fun hf=>⟨(h2 hf).1,?_⟩,h3⟩,hc⟩;have:=(h2 hf).2;revert this;generalize S.top.todo=xs;generalize fr.todo=ys;intro this;cases this with
 | plain ht hk=>exact .plain ht hk
 | drw Zr hn d st hk=>exact .drw Zr hn d (fun M' w0' w' YK=>st M' w0' w' (YK.GN S.mem.Y9)) hk
theorem sM {S:SM}{Ls:List SM}(h:step1 E S=some Ls):∃ l,uj E { S with mem:={ S.mem with Y9:=[] } }=some l/\l≠[]/\Ls=l.map fun T=>{ T with mem:={ T.mem with Y9:=T.mem.Y9++S.mem.Y9 } }:=by
 unfold step1 at h;split at h
 ·cases h
 ·rename_i T hT;cases h;exact⟨[T],hT,by simp,rfl⟩
 ·rename_i l hn _ hl;cases h;exact⟨l,hl,fun e=>hn e,rfl⟩
 ·cases h
theorem sP {S:SM}{Ls:List SM}(h:step1 E S=some Ls):Ls≠[]/\∀ T∈Ls,T.mem.ob->S.mem.ob:=by
 obtain⟨l,_,hn,rfl⟩:=sM h;refine⟨fun e=>hn (List.map_eq_nil_iff.1 e),fun T hT ob=>?_⟩;obtain⟨U,_,rfl⟩:=Wb.1 hT;exact (ah.append ob).2
theorem yh {M0:Own}{w00:World}(K:aK E M0 w00)(B0:dh M0 w00 M w0){cs0:List Frame}{S:SM}{Ls:List SM}{m:Machine}(hm:MR E M w0 cs0 ν S m)(h:step1 E S=some Ls):JG E M0 w00 cs0 ν S.mem.ob m Ls:=by
 obtain⟨l,hl,_,rfl⟩:=sM h;obtain⟨T,hT,hS⟩:=yQ K B0 (hm.GN []) hl;refine⟨_,Wb.2 ⟨T,hT,rfl⟩,fun ob=>?_⟩;obtain⟨o1,o2⟩:=ah.append ob;obtain⟨_,ν',m',M1,w1,hle,Ze,hB,Z2⟩:=hS o1;exact⟨o2,ν',m',M1,w1,hle,Ze,hB,Z2.GN _⟩
theorem Gz {stop:SM->Bool}:∀ {n:Nat} {work done Ls:List SM},run E stop n work done=some Ls->(∀ S∈done,S∈Ls)/\∀ S∈work,∃ S'∈Ls,S'.mem.ob->S.mem.ob:=by
 intro n;induction n with
 | zero=>
  intro work done Ls h;cases work with
  | nil=>cases h;exact⟨fun _ hS=>hS,fun _ hS=>by cases hS⟩
  | cons S work=>cases h
 | succ n ih=>
  intro work done Ls h;cases work with
  | nil=>cases h;exact⟨fun _ hS=>hS,fun _ hS=>by cases hS⟩
  | cons S work=>
   unfold run at h;cases Ze:stop S
   ·rw[Ze]at h;simp only[W5]at h
    have key:∀ {l:List SM},step1 E S=some l->run E stop n (l++work) done=some Ls->(∀ S∈done,S∈Ls)/\∀ T∈S::work,∃ S'∈Ls,S'.mem.ob->T.mem.ob:=by
     intro l hl h;obtain⟨h1,h2⟩:=ih h;refine⟨h1,fun T hT=>?_⟩;rcases V8.1 hT with rfl|hT
     ·obtain⟨Yu,hmono⟩:=sP hl;obtain⟨U,l',rfl⟩:=List.exists_cons_of_ne_nil Yu;obtain⟨S',hS',ho⟩:=h2 U (Xe _ Wj);exact⟨S',hS',fun ob=>hmono U Wj (ho ob)⟩
     ·exact h2 T (Xq _ hT)
    split at h
    ·cases h
    ·rename_i S' hs;exact key hs h
    ·rename_i l _ hs;exact key hs h
   ·rw[Ze]at h;simp only[WE]at h;obtain⟨h1,h2⟩:=ih h;refine⟨fun T hT=>h1 T (Wc _ hT),fun T hT=>?_⟩;rcases V8.1 hT with rfl|hT
    ·exact⟨T,h1 T Wj,id⟩
    ·exact h2 T hT
theorem iX {tm:fR}:∀ {l:List ResultVar} {s s':SH} {r:List SV},dM.go E tm l s=some (r,s')->s'.ob->s.ob
 | [],_,_,_,h=>by cases h;exact id
 | .tmp t::l,s,s',r,h=>by
  unfold dM.go at h
  cases hg:dM.go E tm l s with
  | none=>rw[hg]at h;cases h
  | some q=>obtain⟨r1,s1⟩:=q;rw[hg]at h;cases h;exact iX hg
 | .cell a t::l,s,s',r,h=>by
  unfold dM.go at h
  cases hl:nr E t (tm.get a) s with
  | none=>rw[hl]at h;cases h
  | some q0=>
  obtain⟨x,s1⟩:=q0
  rw[hl]at h
  simp only at h
  cases hg:dM.go E tm l s1 with
  | none=>rw[hg]at h;cases h
  | some q=>obtain⟨r1,s2⟩:=q;rw[hg]at h;cases h;exact fun ob=>tS hl (iX hg ob)
theorem np {fn:Func}{tm:fR}{x:SV}(h:dM E fn tm s=some (x,s')):s'.ob->s.ob:=by
 unfold dM at h;cases hg:dM.go E tm fn.results.toList s with
 | none=>rw[hg]at h;cases h
 | some q=>
 obtain⟨l,s1⟩:=q;rw[hg]at h;simp only[V9]at h;have:=iX hg;split at h<;>(cases h;exact this)
theorem GQ (K:aK E M w0){stop:SM->Bool}{cs0:List Frame}:∀ {n:Nat} {work done Ls:List SM},run E stop n work done=some Ls->
  (∀ S∈done,S∈Ls)/\(∀ S∈Ls,S∈done\/stop S=true)/\∀ S∈work,∀ ν m M1 w1,dh M w0 M1 w1->MR E M1 w1 cs0 ν S m->∃ S'∈Ls,(S'.mem.ob->S.mem.ob/\∃ ν' m' M2 w2,ν.Le ν'/\Steps E.P m m'/\dh M w0 M2 w2/\MR E M2 w2 cs0 ν' S' m'):=by
 intro n;induction n with
 | zero=>
  intro work done Ls h;cases work with
  | nil=>cases h;exact⟨fun _ hS=>hS,fun _ hS=>.inl hS,fun _ hS=>by cases hS⟩
  | cons S work=>cases h
 | succ n ih=>
  intro work done Ls h;cases work with
  | nil=>cases h;exact⟨fun _ hS=>hS,fun _ hS=>.inl hS,fun _ hS=>by cases hS⟩
  | cons S work=>
   unfold run at h;cases Ze:stop S
   ·rw[Ze]at h;simp only[W5]at h
    have key:∀ {l:List SM},step1 E S=some l->run E stop n (l++work) done=some Ls->
      (∀ S∈done,S∈Ls)/\(∀ S∈Ls,S∈done\/stop S=true)/\∀ T∈S::work,∀ ν m M1 w1,dh M w0 M1 w1->MR E M1 w1 cs0 ν T m->∃ S'∈Ls,(S'.mem.ob->T.mem.ob/\∃ ν' m' M2 w2,ν.Le ν'/\Steps E.P m m'/\dh M w0 M2 w2/\MR E M2 w2 cs0 ν' S' m'):=by
     intro l hl Yt;obtain⟨h1,h2,h3⟩:=ih Yt;refine⟨h1,h2,fun T hT ν m M1 w1 hB hm=>?_⟩;rcases V8.1 hT with rfl|hT
     ·obtain⟨S1,hS1,hS⟩:=yh K hB hm hl;by_cases Yw:S1.mem.ob
      ·obtain⟨YG,ν1,m1,M2,w2,hle,hst1,Γ,hm1⟩:=hS Yw;obtain⟨S',hS',hS2⟩:=h3 S1 (Xe _ hS1) ν1 m1 M2 w2 Γ hm1;refine⟨S',hS',fun ob=>?_⟩;obtain⟨_,ν2,m2,M3,w3,ZR,hst2,hB3,hm2⟩:=hS2 ob;exact⟨YG,ν2,m2,M3,w3,hle.trans ZR,Steps.trans hst1 hst2,hB3,hm2⟩
      ·obtain⟨S',hS',ho⟩:=(Gz Yt).2 S1 (Xe _ hS1);exact⟨S',hS',fun ob=>absurd (ho ob) Yw⟩
     ·exact h3 T (Xq _ hT) ν m M1 w1 hB hm
    split at h
    ·cases h
    ·rename_i S' hs;exact key hs h
    ·rename_i l _ hs;exact key hs h
   ·rw[Ze]at h;simp only[WE]at h;obtain⟨h1,h2,h3⟩:=ih h;refine⟨fun T hT=>h1 T (Wc _ hT),fun T hT=>?_,fun T hT ν m M1 w1 hB hm=>?_⟩
    ·rcases h2 T hT with h|h
     ·rcases V8.1 h with rfl|h
      ·exact .inr Ze
      ·exact .inl h
     ·exact .inr h
    ·rcases V8.1 hT with rfl|hT
     ·exact⟨T,h1 T Wj,fun ob=>⟨ob,ν,m,M1,w1,aP.Le.refl _,Steps.refl _ _,hB,hm⟩⟩
     ·exact h3 T hT ν m M1 w1 hB hm
def a6 (E:Env)(f:FuncId)(args:List SV)(s:SH):Option SM:=(eO E f args .normal).map fun G=>{ top:=G,callers:=[],mem:=s }
def ph (E:Env)(f:FuncId)(S:SM):Option (SV × SH):=
 bif S.over&&Nat.beq S.top.fn f then match E.P.funcs[f]? with
  | some fn=>dM E fn S.top.tm S.mem
  | none=>none
 else none
theorem FI (K:aK E M w0){f:FuncId}{args:List SV}{a:List Value}{s0:SH}{S0:SM}{n:Nat}{Ls:List SM}{R:Ending->World->Prop}(ZZ:a6 E f args s0=some S0)
  (Yt:run E SM.over n [S0] []=some Ls) (hr:HR ν M w0 s0 w) (η:∀ b,M.r b->b<w0.heap.size) (hh:∀ b,¬ M.h b) (hg:GR ν E) (ha:au ν args a)
  (hres:∀ S'∈Ls,∃ x s',ph E f S'=some (x,s')/\s'.ob/\∀ ν' w' v,ν.Le ν'->VR ν' x v->HR ν' M w0 s' w'->GR ν' E->R (.returned v) w'):
  Calls E.P f a.toArray w R:=by
 intro cs0;unfold a6 at ZZ;cases hG:eO E f args .normal with
 | none=>rw[hG]at ZZ;cases ZZ
 | some G=>
 rw[hG]at ZZ;cases ZZ;obtain⟨htop,hkind,_⟩:=mV (E:=E) hG ha _
 have hm:MR E M w0 cs0 ν { top:=G,callers:=[],mem:=s0 } (lone (Frame.enter E.P f a.toArray .normal) cs0 w):=
  ⟨_,_,w,[],rfl,hr,hg,htop,by show bo E ν M w0 cs0 [] G.kind [] cs0;rw[hkind];exact .nil XF⟩
 obtain⟨_,_,h3⟩:=GQ (M:=M) (w0:=w0) (cs0:=cs0) K Yt;obtain⟨S',hS',hS⟩:=h3 _ (Wl.2 rfl) ν _ M w0 (dh.refl η hh) hm;obtain⟨x,s',YI,Yw,hR⟩:=hres S' hS';unfold ph at YI;cases hov:(S'.over&&Nat.beq S'.top.fn f)
 ·rw[hov]at YI;cases YI
 ·rw[hov]at YI;simp only[WE]at YI;rw[V6]at hov;obtain⟨hov,ZA⟩:=hov;have ZA:=WM ZA;unfold SM.over at hov;rw[V6,V6]at hov;obtain⟨⟨ZD,Y3⟩,hdef⟩:=hov;split at YI
  ·rename_i fn hf;obtain⟨YG,ht⟩:S'.mem.ob/\True:=⟨np YI Yw,trivial⟩;obtain⟨_,ν',m',M2,w2,hle,σ,hB,⟨fr,cs,w',hl,rfl,YK,hg',ZX,ZI⟩⟩:=hS YG;obtain⟨YF,htm⟩:=ZX.ret Y3;obtain⟨Ys,hobr⟩:=nO (E:=E) htm YK YI;obtain⟨_,v,hv,hvr⟩:=hobr Yw;have hcs:S'.callers=[]:=XE.1 ZD;rw[hcs]at ZI
   have hk:S'.top.kind=.normal/\cs=cs0:=by
    generalize hkk:S'.top.kind=kk at ZI;cases ZI with
    | nil _=>exact⟨rfl,rfl⟩
   obtain⟨hk,rfl⟩:=hk;have hd:=ZX.base.defers;rw[XE.1 hdef]at hd;refine⟨.returned v,w',fr,hR ν' w' v hle hvr ((YK.xy hB).same Ys) hg',σ,by rw[ZX.base.fn];exact ZA,YF,hd,by rw[ZX.base.kind];exact hk,fn,?_,hv⟩;rw[ZX.base.fn,ZA];exact hf
  ·cases YI
end
section
variable {E:Env}{ν:aP}{M:Own}{w0 w:World}{s s':SH}
def KF:xF->Option (Array Value->Sem Value)
 | .same=>some Extern.AbiNoEscape.same
 | .pure f=>some f
 | .makeNoZero ps t=>some (Extern.BytealgMakeNoZero.makeNoZero ps #[t])
theorem y6:∀ (x:SV) (y v:Value),whole x=some v->VR ν x y->y=v
 | .v _,_,_,h,hv=>by simp only[whole,Option.some.injEq]at h;rw[VR.ae.1 hv,h]
 | .iface t x,_,_,h,hv=>by
  obtain⟨z,rfl,hz⟩:=VR.dr.1 hv
  simp only[whole,Wg]at h
  obtain⟨u,hu,rfl⟩:=h
  rw[y6 x z u hu hz]
 | .aH,_,_,h,_=>by simp[whole]at h
 | .ptr _ _,_,_,h,_=>by simp[whole]at h
 | .sl _ _ _ _,_,_,h,_=>by simp[whole]at h
 | .map _,_,_,h,_=>by simp[whole]at h
 | .agg _,_,_,h,_=>by simp[whole]at h
 | .tup _,_,_,h,_=>by simp[whole]at h
 | .func _ _ _,_,_,h,_=>by simp[whole]at h
 | .yield _,_,_,h,_=>by simp[whole]at h
theorem vk:∀ {l:List SV} {a b:List Value},xB l=some a->au ν l b->b=a
 | [],_,_,h,hv=>by cases h;exact hv.ay
 | x::xs,_,_,h,hv=>by
  obtain⟨y,ys,rfl,hy,ZQ⟩:=hv.cons_inv
  unfold xB at h
  split at h
  ·rename_i u l hu hl
   cases h
   rw[y6 x y u hu hy,vk hl ZQ]
  ·cases h
theorem qv:∀ (n t:Nat) (acc:Array Value),(Extern.BytealgMakeNoZero.digits n t acc).size=acc.size+n
 | 0,_,_=>rfl
 | n+1,t,acc=>by rw[Extern.BytealgMakeNoZero.digits,qv n];simp;omega
theorem Kb (ν:aP):∀ (n:Nat) (l:List Value),l.length=n->au ν (List.replicate n .aH) l
 | 0,l,h=>by rw[Wd.1 h];exact au.nil
 | n+1,y::l,h=>au.cons (by rw[VR];trivial) (Kb ν n l (by simpa using h))
 | _+1,[],h=>by simp at h
def Hy (n:Int)(elem:TypeId):Sem Value:=do
 if n < 0 || n > 2 ^ 48 then runtimePanic (.error "makeslice: len out of range")
 let cap <- choose (.appendCap n.toNat 0 elem)
 askRoom cap
 let bytes <- choose (.extern "internal/bytealg.MakeNoZero.bytes" 0)
 let a <- newRow elem (Extern.BytealgMakeNoZero.digits cap bytes #[])
 pure (.slice (some a) n.toNat cap)
theorem uE (ps:Array TypeId)(t:TypeId)(n:Int):∃ g:TypeDesc->Sem Value,Extern.BytealgMakeNoZero.makeNoZero ps #[t] #[.int .i64 n]=(underlying t >>= g)/\∀ e,g (.slice e)=Hy n e:=⟨_,rfl,fun _=>rfl⟩
theorem uN {ps:Array TypeId}{t elem:TypeId}{n:Int}{i:Nat}{s1:SH}(ht:bR E t=some (.slice elem))(hn:0<=n/\n<=2 ^ 40)
  (h:eW (.row (List.replicate n.toNat .aH) elem (0,0) (some 1)) s=some (i,s1)) (hr:HR ν M w0 s w):
  ∃ ν' w' y,ν.Le ν'/\(Extern.BytealgMakeNoZero.makeNoZero ps #[t] #[.int .i64 n]).run E.P w=.ok y w'/\VR ν' (.sl i 0 n.toNat none) y/\HR ν' M w0 s1 w'/\s1.ob=s.ob:=by
 generalize Y0:(Question.appendCap n.toNat 0 elem).cut (w.tape w.drawn (.appendCap n.toNat 0 elem))=cap;have hle:n.toNat<=cap:=by rw[<- Y0];simp[Question.cut]
 have hch:(choose (.appendCap n.toNat 0 elem)).run E.P w=.ok cap { w with drawn:=w.drawn+1 }:=by
  rw[run_choose,show (Question.appendCap n.toNat 0 elem).forced=false from rfl,Y0];rfl
 have hch2 : ∃ b k, (choose (.extern "internal/bytealg.MakeNoZero.bytes" 0)).run E.P { w with drawn := w.drawn + 1 } = .ok b { w with drawn := k } := by
  rw[run_choose];cases (Question.extern "internal/bytealg.MakeNoZero.bytes" 0).forced
  ·exact⟨_,w.drawn+2,rfl⟩
  ·exact⟨_,w.drawn+1,rfl⟩
 obtain⟨bs,k,hch2⟩:=hch2;generalize hd:Extern.BytealgMakeNoZero.digits cap bs #[]=ds;have hds:ds.size=cap:=by rw[<- hd,qv];simp
 have hlen:ds.toList.length=cap:=by simpa using hds
 obtain⟨Yw,ν',Zb,hi,YK⟩:=gw h (hr.drawn k) cap (r:=.cells ds elem)
  (fun ν' Zb hi'=>⟨ds.toList.take n.toNat,ds.toList.drop n.toNat,by rw[Xh];simp,Kb ν' n.toNat _ (by rw[WX];omega),by
   rw[Xh,List.length_replicate];refine⟨by omega,_,hi',by simpa using hlen⟩⟩)
 refine⟨ν',_,_,Zb,?_,VR.aL.2 ⟨_,hi,by simpa using hle,rfl⟩,YK,Yw⟩;have hneg:¬ (n<0\/n>2 ^ 48):=by omega
 obtain⟨g,hg1,hg2⟩:=uE ps t n;rw[hg1];simp only[Wf,run_underlying ht,V3,hg2];unfold Hy;rw[if_neg (by simp;omega)];simp only[Wf,Wk,hch,hch2,V3,run_askRoom,hd,newRow,Yl];rfl
theorem Jq {k:xF}{e:Array Value->Sem Value}(he:KF k=some e){args:List SV}{x:SV}{a:List Value}(h:Bv E k args s=some (x,s'))(hr:HR ν M w0 s w)(ha:au ν args a)(ob:s'.ob):
  ∃ ν' w' y,ν.Le ν'/\(e a.toArray).run E.P w=.ok y w'/\VR ν' x y/\HR ν' M w0 s' w':=by
 unfold Bv at h;split at h
 ·-- same
  cases he;cases h;obtain⟨y,ys,rfl,hy,ZQ⟩:=ha.cons_inv;obtain rfl:=ZQ.ay;exact⟨ν,w,y,aP.Le.refl _,rfl,hy,hr⟩
 ·-- pure
  cases he;obtain⟨l,hl,h⟩:=Wi.1 h;obtain⟨y,hy,h⟩:=Wg.1 h;cases h;rw[vk hl ha];exact⟨ν,w,y,aP.Le.refl _,jt hy w,VR.lift y,hr⟩
 ·-- MakeNoZero
  cases he;obtain⟨y,ys,rfl,hy,ZQ⟩:=ha.cons_inv;obtain rfl:=ZQ.ay;obtain rfl:=VR.ae.1 hy;split at h
  ·rename_i elem ht;rename_i n _;cases hd:decide (0<=n/\n<=(2:Int) ^ 40)
   ·rw[hd]at h;cases h
   ·rw[hd]at h;simp only[WE]at h;obtain⟨⟨i,s1⟩,h1,h⟩:=Wg.1 h;cases h;obtain⟨ν',w',y,g1,g2,g3,g4,_⟩:=uN (E:=E) ht (Ws hd) h1 hr;exact⟨ν',w',y,g1,g2,g3,g4⟩
  ·cases h
 ·cases h
def HN (P:Program)(r:FuncId × xF):Prop:=
 ∃ fn e, P.funcs[r.1]? = some fn /\ (fn.name == "runtime.NumGoroutine") = false /\ fn.body.isNone = true /\ Extern.findNext fn = none /\ KF r.2 = some e /\ Extern.find fn = some e
theorem fh.of (l:List (FuncId × xF))(hE:E.ext=fun f=>l.lookup f)(h:∀ r∈l,HN E.P r):fh E:=by
 intro f k hk args x s s' hx ν M w0 w a hr ha ob;refine⟨vF hx ob,?_⟩;rw[hE]at hk
 have hm:(f,k)∈l:=by
  have:∀ (l:List (FuncId × xF)),l.lookup f=some k->(f,k)∈l:=by
   intro l;induction l with
   | nil=>intro h;cases h
   | cons r l ih=>
    intro h;obtain⟨g,k'⟩:=r;rw[List.lookup_cons]at h;split at h
    ·rename_i e;cases h;have e:f=g:=by simpa using e
     rw[e];exact Wj
    ·exact Wc _ (ih h)
  exact this l hk
 obtain⟨fn,e,h1,h2,h3,h4,h5,h6⟩:=h _ hm;obtain⟨ν',w',y,hle,Yt,hv,YK⟩:=Jq h5 hx hr ha ob;exact⟨ν',w',y,hle,by rw[run_callFunc_extern h1 h2 h3 h4 h6,Yt];rfl,hv,YK⟩
end
open Go.RowKit (Below)
section
variable {E:Env}{ν:aP}{M:Own}{w0 w:World}{s s':SH}
def sz (T:Tr (Option (SO × Bool)))(i:Nat):List (Nat × List SV)->Tr (Option (SO × Bool))
 | []=>T
 | x::xs=>sz (T.set i (some (.look x.2,false))) (i+1) xs
def jS (d:Nat)(l:List (Nat × List SV)):SH:={ d,H:=sz (Tr.mk none d) 0 l,nx:=l.length,Y9:=[],dc:=0 }
theorem zS (d:Nat):∀ (l:List (Nat × List SV)) (i:Nat) (T:Tr (Option (SO × Bool))),Tr.Full d T->i+l.length<=2 ^ d->
  Tr.Full d (sz T i l)/\∀ t,t<2 ^ d->(sz T i l).get t=if i<=t then ((l[t - i]?).map fun x=>some (SO.look x.2,false)).getD (T.get t) else T.get t
 | [],i,T,h,_=>⟨h,fun t _=>by simp[sz]⟩
 | x::xs,i,T,h,hl=>by
  simp only[Wm]at hl
  obtain⟨h1,h2⟩:=zS d xs (i+1) (T.set i (some (.look x.2,false))) (h.set _ _) (by omega)
  refine⟨h1,fun t ht=>?_⟩
  rw[sz,h2 t ht,Tr.dV h (by omega) ht]
  by_cases e1:i+1<=t
  ·rw[if_pos e1,if_neg (show ¬ t=i by omega),if_pos (show i<=t by omega)]
   have:t - i=(t - (i+1))+1:=by omega
   rw[this,WU]
  ·rw[if_neg e1]
   by_cases e2:t=i
   ·subst e2;simp
   ·rw[if_neg e2,if_neg (show ¬ i<=t by omega)]
def Told (w:World)(r:Nat × List SV):Prop:=
 ∃ (ys:List Value) (c:Array Value) (e:TypeId) (fz:Nat × Nat),w.heap[r.1]?=some (.cells c e fz)/\(∀ ν,au ν r.2 ys)/\∀ (k:Nat) (y:Value),ys[k]?=some y->c[k]?=some y
def gy (l:List (Nat × List SV)):aP:=fun i=>(l[i]?).map fun x=>(x.1,0)
def jf (l:List (Nat × List SV)):Own:=Own.Dz fun b=>∃ r∈l,r.1=b
theorem CC {d:Nat}{l:List (Nat × List SV)}(hd:l.length<=2 ^ d)(hn:(l.map (·.1)).Nodup)(ht:∀ r∈l,Told w r):HR (gy l) (jf l) w (jS d l) w:=by
 obtain⟨hf,hg⟩:=zS d l 0 (Tr.mk none d) (Tr.kB _ _) (by omega)
 have hget:∀ t,t<2 ^ d->(jS d l).H.get t=(l[t]?).map fun x=>(SO.look x.2,false):=by
  intro t ht;show (sz (Tr.mk none d) 0 l).get t=_;rw[hg t ht,if_pos (WW _),Tr.sQ,Yk];cases l[t]?<;>rfl
 have hx:∀ i,i<2 ^ d->∀ x,(jS d l).H.get i=some x->∃ r,l[i]?=some r/\r∈l/\x=(SO.look r.2,false):=by
  intro i hi x hx;rw[hget i hi]at hx;obtain⟨r,hr,rfl⟩:=Wg.1 hx;exact⟨r,hr,Xi hr,rfl⟩
 refine⟨hf,fun i hi=>?_,fun i hi=>?_,fun i hi x hxx=>?_,fun i j hi hj hgi hgj b c hb hc e=>?_,Wx _,fun _ _ _=>rfl,fun i hi x hxx _ b hb=>?_,rfl,rfl,rfl⟩
 ·have hi:2 ^ d<=i:=hi;simp only[gy];rw[XR (by omega)];rfl
 ·have hi:l.length<=i:=hi;simp only[gy];rw[XR hi];rfl
 ·obtain⟨r,hr,hm,rfl⟩:=hx i hi x hxx;obtain⟨ys,c,e,fz,h1,h2,h3⟩:=ht r hm;exact⟨(r.1,0),_,by simp[gy,hr],h1,⟨ys,c,e,fz,rfl,h2 _,h3⟩,fun h=>by cases h⟩
 ·simp only[gy,Wg]at hb hc;obtain⟨r,hr,rfl⟩:=hb;obtain⟨q,hq,rfl⟩:=hc;obtain⟨hi',hr⟩:=WB.1 hr;obtain⟨hj',hq⟩:=WB.1 hq;refine (Yq (h₀:=by simpa using hi') (h₁:=by simpa using hj') hn).1 ?_;simp only[List.getElem_map,hr,hq];exact e
 ·obtain⟨r,hr,hm,rfl⟩:=hx i hi x hxx;simp only[gy,hr,Xb,Option.some.injEq]at hb;subst hb;exact⟨r,hm,rfl⟩
theorem Cr {l:List (Nat × List SV)}(hG:E.G=(l.map (·.1)).zipIdx):GR (gy l) E:=by
 intro g i h;rw[hG]at h
 have hm:(g,i)∈(l.map (·.1)).zipIdx:=by
  have:∀ (l:List (Nat × Nat)),l.lookup g=some i->(g,i)∈l:=by
   intro l;induction l with
   | nil=>intro h;cases h
   | cons r l ih=>
    intro h;obtain⟨g',k'⟩:=r;rw[List.lookup_cons]at h;split at h
    ·rename_i e;cases h;have e:g=g':=by simpa using e
     rw[e];exact Wj
    ·exact Wc _ (ih h)
  exact this _ h
 have:=List.mem_zipIdx hm;obtain⟨_,YD,e⟩:=this;simp only[W8,WH]at YD;refine⟨0,?_⟩;simp only[gy];have hi:i<l.length:=by simpa using YD
 rw[V4 hi];simp only[Xb,Option.some.injEq,Prod.mk.injEq,VX];simpa using e.symm
def verdict (E:Env)(f:FuncId):List SM->Prop
 | []=>True
 | S::r=>(match ph E f S with|some (.v (.bool true),s')=>s'.ob|_=>False)/\verdict E f r
def sg (E:Env)(f:FuncId):Option (List SM)->Prop
 | some Ls=>verdict E f Ls
 | none=>False
theorem qO {f:FuncId}:∀ {Ls:List SM},verdict E f Ls->∀ S∈Ls,∃ s',ph E f S=some (.v (.bool true),s')/\s'.ob
 | [],_,_,h=>by cases h
 | T::r,⟨h,k⟩,S,hS=>by
  rcases V8.1 hS with rfl|hS
  ·split at h
   ·rename_i s' he;exact⟨s',he,h⟩
   ·exact h.elim
  ·exact qO k S hS
def Dv (E:Env)(f:FuncId)(args:List SV)(s0:SH)(n:Nat):Option (List SM):=(a6 E f args s0).bind fun S0=>run E SM.over n [S0] []
theorem BV {r:Nat->Prop}(K:aK E (Own.Dz r) w){f:FuncId}{args:List SV}{a:List Value}{s0:SH}{n:Nat}(hv:sg E f (Dv E f args s0 n))
  (hr:HR ν (Own.Dz r) w s0 w) (η:∀ b,r b->b<w.heap.size) (hg:GR ν E) (ha:au ν args a):
  Calls E.P f a.toArray w fun e w'=>e=.returned (.bool true)/\Below w.heap.size w w':=by
 unfold Dv at hv;cases hS:a6 E f args s0 with
 | none=>rw[hS]at hv;exact hv.elim
 | some S0=>
 rw[hS]at hv;simp only[V9]at hv;cases Yt:run E SM.over n [S0] [] with
 | none=>rw[Yt]at hv;exact hv.elim
 | some Ls=>
 rw[Yt]at hv;refine FI (M:=Own.Dz r) K hS Yt hr η (fun _ h=>h) hg ha fun S' hS'=>?_;obtain⟨s',he,Yw⟩:=qO hv S' hS';refine⟨_,s',he,Yw,fun ν' w' v _ hv YK _=>⟨?_,YK.below⟩⟩;rw[VR.ae.1 hv]
theorem A4 {l:List (Nat × List SV)}(K:aK E (jf l) w){f:FuncId}{a:List Value}{d n:Nat}(hG:E.G=(l.map (·.1)).zipIdx)(hd:l.length<=2 ^ d)(hn:(l.map (·.1)).Nodup)(ht:∀ r∈l,Told w r)
  (hv:sg E f (Dv E f (a.map .v) (jS d l) n)):Calls E.P f a.toArray w fun e w'=>e=.returned (.bool true)/\Below w.heap.size w w':=by
 refine BV K hv (CC hd hn ht) (fun b hb=>?_) (Cr hG) (au.lits _ a);obtain⟨r,hr,rfl⟩:=hb;obtain⟨_,_,_,_,h,_⟩:=ht r hr;exact (VY.1 h).1
theorem aK.of (mixed : E.P.follows .mixedOrders = true)(calls : (E.P.funcs.all fun fn => fn.body.isNone || fn.name != "runtime.NumGoroutine") = true)(ext : fh E)(YT : E.YT = fun _ => none)(qs : Qu E M w0) : aK E M w0 :=
 ⟨mixed,fun f fn hf hb=>by
  have:=Array.all_eq_true'.1 calls fn (Array.mem_of_getElem? hf)
  cases h:fn.body with
  | none=>exact absurd h hb
  | some c=>(rw[h]at this;simpa using this),ext,fun f g h=>(by rw[YT]at h;cases h),qs⟩
theorem aK.uG (mixed : E.P.follows .mixedOrders = true)(calls : (E.P.funcs.all fun fn => fn.body.isNone || fn.name != "runtime.NumGoroutine") = true)(ext : fh E)(YT : dy E M w0)(qs : Qu E M w0) : aK E M w0 :=
 ⟨mixed,fun f fn hf hb=>by
  have:=Array.all_eq_true'.1 calls fn (Array.mem_of_getElem? hf)
  cases h:fn.body with
  | none=>exact absurd h hb
  | some c=>(rw[h]at this;simpa using this),ext,YT,qs⟩
end
open Go.ChangeShapes Go.WideShapes Go.ChangeAt Go.RowKit
theorem and_intro {a b:Bool}(ha:a=true)(hb:b=true):(a&&b)=true:=by rw[ha,hb];rfl
section
variable {P:Program}{w:World}{r:Reach}{base:Nat}{u:TypeId}{v:Value}
end
section
variable {H:Type}{enc:TypeId × Value->H}{P:Program}{W W':World}
theorem nj (hl:laidOutB P=true)(hb:Below W.heap.size W W'):∀ {ts:List TypeId} {vs:List Value} {ds:List (DataW H)} {ps:List MemPlace},DataW.TrodAll enc P W 0 (fun _=>true) true ts vs ds ps->
  (ts.all fun t=>P.readableRec t&&decide (t<P.types.size))=true->(∀ x∈ps,x.block<W.heap.size)->DataW.TrodAll enc P W' 0 (fun b=>decide (b<W.heap.size)) true ts vs ds ps
 | [],vs,ds,ps,h,_,_=>by
  obtain⟨rfl,rfl,rfl⟩:=trodAll_nil h
  exact trodAll_mk0
 | t::ts,vs,ds,ps,h,hk,YD=>by
  obtain⟨v,vs',d,ds',p,p',rfl,rfl,rfl,h0,r0⟩:=trodAll_cons h
  rw[List.all_cons,V6,V6]at hk
  exact trodAll_cons_mk (Below.trod hl hk.1.1 (Ws hk.1.2) h0 hb fun x hx=>YD x (Xe _ hx)) (nj hl hb r0 hk.2 fun x hx=>YD x (Xq _ hx))
end
theorem kZ {P:Program}{w:World}{n:String}{d:DataW Unit}:∀ {l:List (String × DataW Unit)} {ps:List MemPlace},DataW.LaidVars P w l ps->(n,d)∈l->
  ∃ g t cs fuel p,P.globalNamed n=some g/\(P.globals[g]?).map (·.type)=some t/\w.var? P n=some cs/\DataW.trod (fun _=>()) P w 0 (fun _=>true) false fuel t cs.toList=some (d,p)
 | [],_,_,h=>by cases h
 | (n',d')::l,ps,hl,h=>by
  obtain⟨g,t,cs,fuel,p,q,h1,h2,h3,h4,h5,_⟩:=hl
  rcases V8.1 h with e|h
  ·cases e;exact⟨g,t,cs,fuel,p,h1,h2,h3,h4⟩
  ·exact kZ h5 h
theorem lp {P:Program}{l:List (String × DataW Unit)}{w:World}(h:laidMetH P l w):laidMet P (l.filter fun x=>x.2.handleName?.isNone) w:=by
 unfold laidMetH at h;split at h
 ·rename_i e
  have:(l.filter fun x=>x.2.handleName?.isNone)=l:=by
   refine XN.2 fun x hx=>?_;cases hn:x.2.handleName? with
   | none=>rfl
   | some s=>
    have hm:x∈l.filter fun x=>x.2.handleName?.isSome:=Wo.2 ⟨hx,by rw[hn];rfl⟩;rw[e]at hm;cases hm
  rw[this];exact h
 ·exact h.1
theorem En {P:Program}{W:World}{l:List (String × DataW Unit)}(h:laidMetH P l W){v:String}{k:IntKind}{zs:List Int}(hm:(v,(DataW.agg (zs.map fun n=>.lit (.int k n)):DataW Unit))∈l.filter fun x=>x.2.handleName?.isNone)
  {g:Nat} (hg:P.globalNamed v=some g) {t e:TypeId} (ht:(P.globals[g]?).map (·.type)=some t) {len:Nat} (hu:P.underlying t=some (.array len e)) (he:P.underlying e=some (.int k)) (hc:P.cellsOf e=1) (hlen:zs.length=len):
  Told W (g,zs.map fun n=>.v (.int k n)):=by
 obtain⟨ps,hl,_,_⟩:=lp h;obtain⟨g',t',cs,fuel,p,h1,h2,h3,hd⟩:=kZ hl hm;rw[hg]at h1;cases h1;rw[ht]at h2;cases h2;obtain⟨xs,m,_,ex,_,hl2,Z7⟩:=DataW.trod_array hu hd;have hvar:=h3;simp only[World.var?,hg,V9]at h3;split at h3
 ·rename_i κ ty fz hheap;cases h3;refine⟨zs.map fun n=>.int k n,cs,ty,fz,hheap,fun ν=>?_,fun r y hy=>?_⟩
  ·have:=au.lits ν (zs.map fun n=>Value.int k n);rw[WI]at this;exact this
  ·obtain⟨hr,rfl⟩:=WB.1 hy;have YK:r<zs.length:=by simpa using hr
   have hE:=Z7 r (by omega);rw[hc,XJ,V4 (by omega)]at hE;obtain⟨z,e1,e2,_⟩:=DataW.trod_int he hE;have e3:(xs.map (·.1))=zs.map fun n=>.lit (.int k n):=(DataW.agg.inj (Prod.mk.inj ex).1).symm;have e4:(xs.map (·.1))[r]?=(zs.map fun n=>(DataW.lit (.int k n):DataW Unit))[r]?:=by rw[e3]
   rw[Wv,Wv,V4 (by omega:r<xs.length),V4 YK,e2]at e4;have hz:z=zs[r]:=by simpa using e4
   have h0:((cs.toList.drop r).take 1)[0]?=some (.int k z):=by rw[e1];rfl
   rw[hz]at h0;simpa using h0
 ·cases h3
end Go.Rx
namespace Go.Rx
open Go.RowKit (Below)
def runK (E:Env)(stop:SM->Bool):Nat->List SM->List SM->Option (List SM × List SM)
 | 0,w,d=>some (w,d)
 | _+1,[],d=>some ([],d)
 | n+1,S::w,d=>bif stop S then runK E stop n w (S::d) else match step1 E S with
  | none=>none
  | some l=>runK E stop n (l++w) d
theorem rT {E:Env}{stop:SM->Bool}{n:Nat}{d:List SM}:run E stop n [] d=some d:=by
 cases n<;>rfl
theorem tL {E:Env}{stop:SM->Bool}:∀ {n:Nat} {w d w' d':List SM},runK E stop n w d=some (w',d')->∀ {m:Nat} {Ls:List SM},run E stop m w' d'=some Ls->run E stop (n+m) w d=some Ls
 | 0,w,d,w',d',h,m,Ls,k=>by cases h;rw[W8];exact k
 | n+1,[],d,w',d',h,m,Ls,k=>by
  cases h
  rw[rT]at k ⊢;exact k
 | n+1,S::w,d,w',d',h,m,Ls,k=>by
  rw[Nat.add_right_comm]
  unfold runK at h
  unfold run
  cases hs:stop S
  ·rw[hs]at h
   simp only[W5]at h ⊢
   split at h
   ·cases h
   ·rename_i l hl
    have:=tL h k
    rw[hl]
    split
    ·rename_i e;cases e
    ·rename_i S' e;cases e;exact this
    ·rename_i l' _ e;cases e;exact this
  ·rw[hs]at h
   simp only[WE]at h ⊢
   exact tL h k
theorem Jl {E:Env}{f:FuncId}{args:List SV}{s0:SH}{S0:SM}{n:Nat}{d:List SM}(h0:a6 E f args s0=some S0)(h:runK E SM.over n [S0] []=some ([],d)):Dv E f args s0 n=some d:=by
 unfold Dv;rw[h0];have:=tL h (m:=0) (Ls:=d) (by rw[rT]);simpa using this
def Tr.fill {α:Type}(T:Tr α)(i:Nat):List α->Tr α
 | []=>T
 | x::xs=>Tr.fill (T.set i x) (i+1) xs
def e9 (nt d:Nat)(l:List SV):fR:={ nt,d,T:=Tr.fill (Tr.mk (.v undef) d) 0 l }
def bG (d nx dc:Nat)(l:List (Option (SO × Bool))):SH:={ d,H:=Tr.fill (Tr.mk none d) 0 l,nx,Y9:=[],dc }
def jT:Code->List Nat->Code
 | c,[]=>c
 | .seq a _,0::p=>jT a p
 | .seq _ b,_::p=>jT b p
 | .cond _ a _,0::p=>jT a p
 | .cond _ _ b,_::p=>jT b p
 | .block _ c,_::p=>jT c p
 | .loop c,_::p=>jT c p
 | .scope c,_::p=>jT c p
 | .rangeFunc _ _ a _,0::p=>jT a p
 | .rangeFunc _ _ _ b,_::p=>jT b p
 | c,_=>c
def LM (P:Program)(f:FuncId)(p:List Nat):Code:=
 match P.funcs[f]? with
 | some fn=>match fn.body with
  | some c=>jT c p
  | none=>.skip
 | none=>.skip
section
variable {E:Env}{ν:aP}{M:Own}{w0 w:World}{s s':SH}{cs0:List Frame}{f:FuncId}{R:Ending->World->Prop}
def Fin (P:Program)(f:FuncId)(cs0:List Frame)(R:Ending->World->Prop)(m:Machine):Prop:=
 ∃ e w' fr,R e w'/\Comes P m (lone fr cs0 w') e/\fr.fn=f/\fr.leaving P w' e
theorem Fin.steps {P:Program}{m m':Machine}(h:Steps P m m')(k:Fin P f cs0 R m'):Fin P f cs0 R m:=by
 obtain⟨e,w',fr,h1,h2,h3,h4⟩:=k;exact⟨e,w',fr,h1,Comes.of_steps h h2,h3,h4⟩
def af (E:Env)(M:Own)(w0:World)(cs0:List Frame)(f:FuncId)(R:Ending->World->Prop)(ν:aP)(S:SM):Prop:=
 ∀ ν' m M1 w1,ν.Le ν'->dh M w0 M1 w1->MR E M1 w1 cs0 ν' S m->Fin E.P f cs0 R m
def SM.with (S:SM)(o:List (Nat × gR)):SM:={ S with mem:={ S.mem with Y9:=[],dc:=0,orc:=fun n=>o.lookup n,soft:=!o.isEmpty } }
theorem HR.with (h:HR ν M w0 s w)(l:List Prop)(n:Nat)(o:Nat->Option gR)(b:Bool):HR ν M w0 { s with Y9:=l,dc:=n,orc:=o,soft:=b } w:=⟨h.full,h.dom,h.fresh,h.obj,h.inj,h.size,h.frame,h.ro,h.os,h.tape,h.output⟩
theorem MR.with {S:SM}{m:Machine}(h:MR E M w0 cs0 ν S m)(l:List Prop)(n:Nat)(o:Nat->Option gR)(b:Bool):MR E M w0 cs0 ν { S with mem:={ S.mem with Y9:=l,dc:=n,orc:=o,soft:=b } } m:=by
 obtain⟨fr,cs,w,hl,hm,hr,hg,⟨h1,h2,h3⟩,hc⟩:=h;refine⟨fr,cs,w,hl,hm,hr.with l n o b,hg,⟨h1,fun hf=>⟨(h2 hf).1,?_⟩,h3⟩,hc⟩;have:=(h2 hf).2;revert this;generalize S.top.todo=xs;generalize fr.todo=ys;intro this;cases this with
 | plain ht hk=>exact .plain ht hk
 | drw Zr hn d st hk=>exact .drw Zr hn d (fun M' w0' w' YK=>st M' w0' w' (YK.with S.mem.Y9 S.mem.dc S.mem.orc S.mem.soft)) hk
theorem af.run (K:aK E M w0){stop:SM->Bool}{n:Nat}{S:SM}{o:List (Nat × gR)}{Ls:List SM}(h:run E stop n [S.with o] []=some Ls)
  (hs:∀ T∈Ls,T.mem.ob/\af E M w0 cs0 f R ν T):af E M w0 cs0 f R ν S:=by
 intro ν' m M1 w1 hle hB hm;obtain⟨_,_,h3⟩:=GQ (cs0:=cs0) K h;obtain⟨S',hS',hS⟩:=h3 _ (Wl.2 rfl) ν' m M1 w1 hB (hm.with [] 0 _ _);obtain⟨ob,hsafe⟩:=hs S' hS';obtain⟨_,ν2,m',M2,w2,ZR,Ze,Γ,Z2⟩:=hS ob;exact (hsafe ν2 m' M2 w2 (hle.trans ZR) Γ Z2).steps Ze
def po (E:Env)(stop:SM->Bool):Nat->SM->Option SM
 | 0,S=>bif stop S then some S else none
 | n+1,S=>bif stop S then some S else match step1 E S with
  | some [T]=>po E stop n T
  | _=>none
theorem CU {stop:SM->Bool}:∀ {n:Nat} {S T:SM},po E stop n S=some T->Go.Rx.run E stop (n+1) [S] []=some [T]
 | 0,S,T,h=>by
  unfold po at h
  unfold Go.Rx.run
  cases hs:stop S
  ·rw[hs]at h;cases h
  ·rw[hs]at h;cases h;simp only[WE];exact rT
 | n+1,S,T,h=>by
  unfold po at h
  unfold Go.Rx.run
  cases hs:stop S
  ·rw[hs]at h
   simp only[W5]at h ⊢
   split at h
   ·rename_i U hU
    rw[hU]
    exact CU h
   ·cases h
  ·rw[hs]at h;cases h;simp only[WE];exact rT
theorem af.go (K:aK E M w0){stop:SM->Bool}{n:Nat}{S T:SM}{o:List (Nat × gR)}(h:po E stop n (S.with o)=some T)(ob:T.mem.ob)(hs:af E M w0 cs0 f R ν T):af E M w0 cs0 f R ν S:=
 af.run K (CU h) fun U hU=>by rw[Wl.1 hU];exact⟨ob,hs⟩
theorem af.done {S:SM}{x:SV}(YI:ph E f S=some (x,s'))(Yw:s'.ob)
  (hR:∀ ν' M1 w1 w' v,ν.Le ν'->dh M w0 M1 w1->VR ν' x v->HR ν' M1 w1 s' w'->GR ν' E->R (.returned v) w'):af E M w0 cs0 f R ν S:=by
 intro ν' m M1 w1 hle hB hm;unfold ph at YI;cases hov:(S.over&&Nat.beq S.top.fn f)
 ·rw[hov]at YI;cases YI
 ·rw[hov]at YI;simp only[WE]at YI;rw[V6]at hov;obtain⟨hov,ZA⟩:=hov;have ZA:=WM ZA;unfold SM.over at hov;rw[V6,V6]at hov;obtain⟨⟨ZD,Y3⟩,hdef⟩:=hov;split at YI
  ·rename_i fn hf;obtain⟨fr,cs,w',hl,rfl,YK,hg',ZX,ZI⟩:=hm;obtain⟨YF,htm⟩:=ZX.ret Y3;obtain⟨Ys,hobr⟩:=nO (E:=E) htm YK YI;obtain⟨_,v,hv,hvr⟩:=hobr Yw;have hcs:S.callers=[]:=XE.1 ZD;rw[hcs]at ZI
   have hk:S.top.kind=.normal/\cs=cs0:=by
    generalize hkk:S.top.kind=kk at ZI;cases ZI with
    | nil _=>exact⟨rfl,rfl⟩
   obtain⟨hk,rfl⟩:=hk;have hd:=ZX.base.defers;rw[XE.1 hdef]at hd;refine⟨.returned v,w',fr,hR ν' M1 w1 w' v hle hB hvr (YK.same Ys) hg',Steps.refl _ _,by rw[ZX.base.fn];exact ZA,YF,hd,by rw[ZX.base.kind];exact hk,fn,?_,hv⟩;rw[ZX.base.fn,ZA];exact hf
  ·cases YI
theorem iG {args:List SV}{a:List Value}{s0:SH}{S0:SM}(ZZ:a6 E f args s0=some S0)(hr:HR ν M w0 s0 w)(η:∀ b,M.r b->b<w0.heap.size)(hh:∀ b,¬ M.h b)
  (hg:GR ν E) (ha:au ν args a) (hs:∀ cs0,af E M w0 cs0 f R ν S0):Calls E.P f a.toArray w R:=by
 intro cs0;unfold a6 at ZZ;cases hG:eO E f args .normal with
 | none=>rw[hG]at ZZ;cases ZZ
 | some G=>
 rw[hG]at ZZ;cases ZZ;obtain⟨htop,hkind,_⟩:=mV (E:=E) hG ha _
 have hm:MR E M w0 cs0 ν { top:=G,callers:=[],mem:=s0 } (lone (Frame.enter E.P f a.toArray .normal) cs0 w):=
  ⟨_,_,w,[],rfl,hr,hg,htop,by show bo E ν M w0 cs0 [] G.kind [] cs0;rw[hkind];exact .nil XF⟩
 exact hs cs0 ν _ M w0 (aP.Le.refl _) (dh.refl η hh) hm
theorem CG (ν:aP):∀ {l:List SV} {a:Nat->Value},(∀ t x,l[t]?=some x->VR ν x (a t))->au ν l ((List.range l.length).map a)
 | [],a,_=>by simpa using au.nil
 | x::l,a,h=>by
  rw[Wm,List.range_succ_eq_map,WC,WI]
  exact au.cons (h 0 x rfl) (CG ν (l:=l) (a:=a ∘ Nat.succ) fun t y hy=>h (t+1) y (by simpa using hy))
theorem I7 {g:FuncId}{args:List SV}{G:SF}{fr:Frame}{hl:List Nat}(hG:eO E g args .normal=some G)(ht:I0 E ν M w0 hl s G fr):
  ∃ xs:List Value,au ν args xs/\fr=Frame.enter E.P g xs.toArray .normal:=by
 unfold eO at hG;split at hG
 ·rename_i fn ZA;split at hG
  ·rename_i c hc;cases hm:uO fn.ntmps args with
   | none=>rw[hm]at hG;cases hG
   | some tm=>
   rw[hm]at hG;cases hG;obtain⟨⟨h1,h2,h3,h4⟩,Yt,_⟩:=ht;obtain⟨YF,hR⟩:=Yt rfl;dsimp only at h1 h2 h3 h4 hR;cases hR with
   | plain hT hk=>
   unfold uO at hm;cases hcc:(Nat.ble args.length fn.ntmps&&Nat.ble fn.ntmps (2 ^ jc fn.ntmps))
   ·rw[hcc]at hm;cases hm
   rw[hcc]at hm;cases hm;rw[V6,Nat.ble_eq,Nat.ble_eq]at hcc;obtain⟨hle,hn⟩:=hcc;obtain⟨hf,hget⟩:=xL (jc fn.ntmps) args 0 (Tr.mk (.v undef) (jc fn.ntmps)) (Tr.kB _ _) (by omega)
   have hT':∀ t,t<fn.ntmps->VR ν ((args[t]?).getD (.v undef)) (fr.tmps.getD t undef):=by
    intro t ht;have:=hT.get t ht;have e:=hget t (by omega);rw[if_pos (WW _),Tr.sQ,Yk]at e;dsimp only at this;rw[e]at this;exact this
   have YX:fr.tmps.size=fn.ntmps:=hT.size;refine⟨(List.range args.length).map fun t=>fr.tmps.getD t undef,CG ν fun t x hx=>?_,?_⟩
   ·have YD:=(WB.1 hx).1;have:=hT' t (by omega);rw[hx]at this;exact this
   ·have htm:fr.tmps=((List.range args.length).map fun t=>fr.tmps.getD t undef).toArray++Array.replicate (fn.ntmps - ((List.range args.length).map fun t=>fr.tmps.getD t undef).toArray.size) undef:=by
     apply Array.ext
     ·simp;omega
     ·intro t ht1 ht2;rw[Array.getElem_append];split
      ·rename_i YD;simp[ht1]
      ·rename_i hge;have hge:args.length<=t:=by simpa using hge
       have:=hT' t (by omega);rw[XR hge]at this;have e:=VR.ae.1 this;have e2:fr.tmps.getD t undef=fr.tmps[t]:=by simp[Array.getD,ht1]
       rw[<- e2,e];simp
    have hks:fr.todo=[.code c]:=by
     generalize fr.todo=ys at hk;cases hk with
     | cons hx hk=>cases hx;cases hk;rfl
    have hd:fr.defers=[]:=h2;have η:fr.roundOf=none:=h4;generalize ZV:((List.range args.length).map fun t=>fr.tmps.getD t undef)=xs at htm;obtain⟨f1,f2,f3,f4,f5,f6,f7⟩:=fr;dsimp only at *;subst h1 hd h3 η YF hks;simp only[Frame.enter,ZA,Xb,WR,V9,hc];congr 1
  ·cases hG
 ·cases hG
theorem af.call {G F:SF}{Fs:List SF}{g:FuncId}{args:List SV}(hG:eO E g args .normal=some G)
  (hc:∀ ν' M1 w1 w a cs,ν.Le ν'->dh M w0 M1 w1->HR ν' M1 w1 s w->GR ν' E->au ν' args a->bo E ν' M1 w1 cs0 [] .normal (F::Fs) cs->
   Calls E.P g a.toArray w fun e w'=>∃ y,e=.returned y/\∀ fr κ,cs=fr::κ->Fin E.P f cs0 R (lone (fr.finish y) κ w')):af E M w0 cs0 f R ν ⟨G,F::Fs,s⟩:=by
 intro ν' m M1 w1 hle hB hm;obtain⟨fr,cs,w,hl,rfl,hr,hg,htop,ZD⟩:=hm;obtain⟨xs,ZV,rfl⟩:=I7 hG htop;have ZD:=ZD.clear
 have hk:G.kind=.normal:=by
  unfold eO at hG;split at hG
  ·split at hG
   ·obtain⟨tm,_,h⟩:=Wg.1 hG;rw[<- h]
   ·cases hG
  ·cases hG
 dsimp only at ZD;rw[hk]at ZD;have hC:=hc ν' M1 w1 w xs cs hle hB hr hg ZV ZD;cases ZD with
 | wait hw ht=>
 rename_i fr0 cs1;obtain⟨e,w',fr,⟨y,rfl,YR⟩,hcomes,_,hleave⟩:=hC (fr0::cs1);refine (YR fr0 cs1 rfl).steps (Steps.trans hcomes (.one (step_leave_returned hleave)))
abbrev Hp:=Nat->Option Obj
def Hp.Sub (H H':Hp):Prop:=∀ b o,H b=some o->H' b=some o
theorem Hp.Sub.refl (H:Hp):H.Sub H:=fun _ _ h=>h
theorem Hp.Sub.trans {A B C:Hp}(h:A.Sub B)(k:B.Sub C):A.Sub C:=fun b o e=>k b o (h b o e)
def _root_.Go.World.hp (w:World):Hp:=fun b=>w.heap[b]?
def Hp.grow (H:Hp)(w w':World):Hp:=fun b=>if b<w.heap.size then H b else w'.heap[b]?
theorem Hp.fi {H:Hp}{w w':World}(h:H.Sub w.hp):H.Sub (H.grow w w'):=by
 intro b o hb;have:=(VY.1 (h b o hb)).1;simp only[Hp.grow,if_pos this];exact hb
theorem Hp.tU {H:Hp}{w w':World}(h:H.Sub w.hp)(k:Below w.heap.size w w'):(H.grow w w').Sub w'.hp:=by
 intro b o hb;simp only[Hp.grow]at hb;split at hb
 ·rename_i YD;exact (k.block b YD).trans (h b o hb)
 ·exact hb
structure Kept (H0:Hp)(ZP:Own)(w00:World)(H:Hp)(M:Own)(w:World):Prop where
 Y1:H0.Sub H
 still:∀ b o,H b=some o->b<w.heap.size/\¬ M b/\w.heap[b]?=some o
 old:∀ b o,b<w00.heap.size->H b=some o->H0 b=some o
 base:dh ZP w00 M w
theorem Kept.start {H0:Hp}{M:Own}{w:World}(h:H0.Sub w.hp)(hM:∀ b o,H0 b=some o->¬ M b)(hr:∀ b,M.r b->b<w.heap.size)(hh:∀ b,¬ M.h b):Kept H0 M w H0 M w:=
 ⟨Hp.Sub.refl _,fun b o hb=>⟨(VY.1 (h b o hb)).1,hM b o hb,h b o hb⟩,fun _ _ _ h=>h,dh.refl hr hh⟩
theorem Kept.now {H0 H:Hp}{ZP M M1:Own}{w00 w0 w1 w:World}(k:Kept H0 ZP w00 H M w0)(hB:dh M w0 M1 w1)(hr:HR ν M1 w1 s w):H.Sub w.hp:=by
 intro b o hb;obtain⟨h1,h2,h3⟩:=k.still b o hb;obtain⟨h4,h5⟩:=hB.frame b h1 h2;exact (hr.frame b (Wz h1 hB.size) h5).trans (h4.trans h3)
theorem dh.trans {M0 M M1 : Own}{w00 w0 w1 : World}(h : dh M0 w00 M w0)(k : dh M w0 M1 w1) : dh M0 w00 M1 w1 :=
  ⟨Wh h.size k.size, k.os.trans h.os, k.tape.trans h.tape, k.output.trans h.output,
   fun b hb hM => by obtain⟨h1, h2⟩ := h.frame b hb hM; obtain⟨h3, h4⟩ := k.frame b (Wz hb h.size) h2; exact⟨h3.trans h1, h4⟩,
   fun b hb => h.own b (k.own b hb), fun b => (k.ro b).trans (h.ro b), fun b hb => h.own b (k.hid b hb), k.rlt⟩
def vf (E:Env)(F:SF):Bool:=match F.todo with
 | .drw ops rem _::_=>rem.all fun i=>!late E ops (Region.before ops) F.tm.nt i
 | _=>true
theorem uo {F:SF}{fr:Frame}{hl:List Nat}(h:vf E F=true)(hw:gj E ν M w0 hl F fr):hl=[]:=by
 obtain⟨fn,tm,todo,defers,ret,kind,ro⟩:=F;obtain⟨fn',tmps,todo',defers',mode',kind',ro'⟩:=fr;obtain⟨_,Y3,YF,hw⟩:=hw;dsimp only at hw;cases hw with
 | plain ht hk=>rfl
 | drw Zr hn d Zo hk=>
  rename_i ops e rem Yx L YU z k k' _;unfold vf at h;dsimp only at h;cases YU with
  | nil=>rfl
  | cons q YU=>
   exfalso;have hm:=d.Zp q Wj;obtain⟨o,dd,so,r,h1,h2,h3,_⟩:=d.YY q Wj;have:=Wn.1 h q.1 hm;have hs:tmps.size=tm.nt:=d.size.trans d.tm.size;rw[hs]at h2;rw[h2]at this;cases this
def dF (ν:aP)(M:Own)(s:SH):Own:=⟨fun b=>∃ i x c,i<2 ^ s.d/\s.H.get i=some (x,true)/\ν i=some (b,c),M.r,fun _=>False⟩
theorem af.Of {G F:SF}{g:FuncId}{args:List SV}(hG:eO E g args .normal=some G)(ZG:vf E F=true){H0 H:Hp}{ZP:Own}{w00:World}(hk:Kept H0 ZP w00 H M w0)
  (hc:∀ ν' w a,ν.Le ν'->H.Sub w.hp->GR ν' E->au ν' args a->
   Calls E.P g a.toArray w fun e w'=>Below w.heap.size w w'/\∃ y x,e=.returned y/\VR ν' x y/\(∀ M2,Kept H0 ZP w00 (H.grow w w') M2 w'->
    ∃ F' s3,finish E F x s=some (F',s3)/\s3.ob/\af E M2 w' cs0 f R ν' ⟨F',[],s3⟩)):af E M w0 cs0 f R ν ⟨G,[F],s⟩:=by
 refine af.call hG fun ν' M1 w1 w a cs hle hB hr hg ha ZD=>?_;have Yv:=hk.now hB hr;refine (hc ν' w a hle Yv hg ha).mono fun e w' ⟨YP,y,x,he,hv,hnext⟩=>⟨y,he,fun fr κ hcs=>?_⟩;subst hcs
 have YS:∀ b,(dF ν' M1 s) b->b<w.heap.size/\(w1.heap.size<=b\/M1 b):=by
  rintro b ⟨i,x,c,hi,hx,hb⟩
  obtain⟨b',o,Yy,ho,_,h4⟩:=hr.obj i hi _ hx;rw[hb]at Yy;cases Yy;exact⟨(VY.1 ho).1,h4 rfl⟩
 have Γ:dh M w0 (dF ν' M1 s) w':=by
  refine⟨Wh hB.size (Wh hr.size YP.size),YP.os.trans (hr.os.trans hB.os),YP.tape.trans (hr.tape.trans hB.tape),YP.output.trans (hr.output.trans hB.output),fun b hb hM=>?_,fun b hb=>?_,hB.ro,fun b h=>h.elim,fun b hb=>?_⟩
  ·obtain⟨h1,h2⟩:=hB.frame b hb hM;have Zs:=Wz hb hB.size;refine⟨(YP.block b (Wz Zs hr.size)).trans ((hr.frame b Zs h2).trans h1),fun hl=>?_⟩;rcases (YS b hl).2 with h|h
   ·omega
   ·exact h2 h
  ·rcases hb with hb|hb
   ·exact .inl (Wh hB.size (Wh hr.size (Wh YP.size hb)))
   ·exact hB.own b (YS b hb).2
  ·exact Wz (hB.rlt b hb) (Wh hr.size YP.size)
 have Zq:Kept H0 ZP w00 (H.grow w w') (dF ν' M1 s) w':=by
  refine⟨hk.Y1.trans (Hp.fi Yv),fun b o hb=>?_,fun b o hb h=>?_,hk.base.trans Γ⟩
  ·have hw':=Hp.tU Yv YP b o hb;refine⟨(VY.1 hw').1,fun hl=>?_,hw'⟩;obtain⟨h1,h2⟩:=YS b hl;simp only[Hp.grow,if_pos h1]at hb;obtain⟨h3,h4,_⟩:=hk.still b o hb;have h5:=(hB.frame b h3 h4).2;rcases h2 with h|h
   ·have:=hB.size;omega
   ·exact h5 h
  ·have YD:b<w.heap.size:=Wz hb (Wh hk.base.size (Wh hB.size hr.size));simp only[Hp.grow,if_pos YD]at h;exact hk.old b o hb h
 obtain⟨F',s3,YR,ob,hsafe⟩:=hnext _ Zq
 have hr2:HR ν' (dF ν' M1 s) w' s w':=by
  have hg:=hr.grow YP;refine⟨hg.full,hg.dom,hg.fresh,fun i hi x hx=>?_,hg.inj,Wx _,fun _ _ _=>rfl,hg.ro,rfl,rfl,rfl⟩;obtain⟨b,o,h1,h2,h3,h4⟩:=hg.obj i hi x hx;refine⟨b,o,h1,h2,h3,fun hm=>.inr ⟨i,x.1,b.2,hi,?_,h1⟩⟩;rw[hx,<- hm]
 cases ZD with
 | wait hw ht=>
 have hhl:=uo ZG hw;subst hhl;have hw2:gj E ν' (dF ν' M1 s) w' [] F fr:=⟨hw.base,hw.ret,hw.mode,hw.todo.dz fun b hb=>by cases hb⟩
 have ht2:bo E ν' (dF ν' M1 s) w' cs0 [] F.kind [] κ:=by
  generalize F.kind=kk at ht;cases ht with
  | nil h=>exact .nil XF
 obtain⟨_,Z2⟩:=fb hw2 hr2 hg hv YR ht2 ob;exact hsafe ν' _ _ _ (aP.Le.refl _) (dh.refl (fun b hb=>Γ.rlt b hb) fun b h=>h) Z2
end
def aP.ren (ν:aP)(ren:List (Nat × Nat)):aP:=fun i=>(ren.lookup i).bind ν
def uv:SV->Option (List SV)
 | .agg m=>some m
 | .v (.agg cs)=>some (cs.toList.map .v)
 | _=>none
def FK:SV->Option (List SV)
 | .tup m=>some m
 | .v (.tuple cs)=>some (cs.toList.map .v)
 | _=>none
def w8:SV->Option (TypeId × SV)
 | .iface u y=>some (u,y)
 | .v (.iface u y)=>some (u,.v y)
 | _=>none
theorem HL {ν:aP}{b:SV}{m:List SV}{y:Value}(h:uv b=some m)(hv:VR ν b y):∃ a:List Value,y=.agg a.toArray/\au ν m a:=by
 unfold uv at h;split at h
 ·cases h;exact VR.bx.1 hv
 ·rename_i cs;cases h;rw[VR.ae.1 hv];exact⟨cs.toList,by simp,au.lits ν _⟩
 ·cases h
theorem Hl {ν:aP}{b:SV}{m:List SV}{y:Value}(h:FK b=some m)(hv:VR ν b y):∃ a:List Value,y=.tuple a.toArray/\au ν m a:=by
 unfold FK at h;split at h
 ·cases h;exact VR.cz.1 hv
 ·rename_i cs;cases h;rw[VR.ae.1 hv];exact⟨cs.toList,by simp,au.lits ν _⟩
 ·cases h
theorem BN {ν:aP}{b:SV}{u:TypeId}{z:SV}{y:Value}(h:w8 b=some (u,z))(hv:VR ν b y):∃ v,y=.iface u v/\VR ν z v:=by
 unfold w8 at h;split at h
 ·cases h;exact VR.dr.1 hv
 ·cases h;exact⟨_,VR.ae.1 hv,VR.ae.2 rfl⟩
 ·cases h
mutual
def xS (ren:List (Nat × Nat)):SV->SV->List Prop
 | .aH=>fun _=>[]
 | .v x=>fun b=>match eM b with|some z=>[z=x]|none=>[False]
 | .ptr j o=>fun b=>match b with|.ptr i o'=>bif ren.lookup j==some i then [o'=o] else [False]|_=>[False]
 | .sl j o l c=>fun b=>match b with|.sl i o' l' c'=>bif ren.lookup j==some i then [o'=o/\l'=l/\c'=c] else [False]|_=>[False]
 | .map j=>fun b=>match b with|.map i=>bif ren.lookup j==some i then [] else [False]|_=>[False]
 | .agg l=>fun b=>match uv b with|some m=>Jp ren l m|none=>[False]
 | .tup l=>fun b=>match FK b with|some m=>Jp ren l m|none=>[False]
 | .iface t x=>fun b=>match w8 b with|some (u,y)=>bif t==u then xS ren x y else [False]|none=>[False]
 | .func fn p q=>fun b=>match b with|.func gn c d=>(gn=fn)::(Jp ren p c++Jp ren q d)|_=>[False]
 | .yield _=>fun _=>[False]
 | .fin j o l a=>fun b=>match b with|.fin i o' l' a'=>bif ren.lookup j==some i then [o'=o/\l'=l/\a'=a] else [False]|_=>[False]
def Jp (ren:List (Nat × Nat)):List SV->List SV->List Prop
 | []=>fun m=>match m with|[]=>[]|_=>[False]
 | x::xs=>fun m=>match m with|y::ys=>xS ren x y++Jp ren xs ys|[]=>[False]
end
theorem ah.both:∀ {l m:List Prop},ah l->ah m->ah (l++m)
 | [],_,_,k=>k
 | _::_,_,h,k=>⟨ah.both h.1 k,h.2⟩
theorem dX {l m:List Prop}:ah (l++m)↔ah l/\ah m:=⟨ah.append,fun ⟨h,k⟩=>h.both k⟩
theorem l5 {p:Prop}:ah [p]↔p:=⟨fun h=>h.2,fun h=>⟨trivial,h⟩⟩
theorem mR {p:Prop}{l:List Prop}:ah (p::l)↔ah l/\p:=Iff.rfl
theorem aN {q:Prop}(h:ah [False]):q:=(l5.1 h).elim
theorem fk {b:Bool}{l:List Prop}(h:ah (bif b then l else [False])):b=true/\ah l:=by
 cases b
 ·exact aN h
 ·exact⟨rfl,h⟩
theorem iY {ν:aP}{ren:List (Nat × Nat)}{j i:Nat}(h:(ren.lookup j==some i)=true){b:Nat × Nat}(hb:ν i=some b):(ν.ren ren) j=some b:=by
 unfold aP.ren;rw[show ren.lookup j=some i by simpa using h];exact hb
mutual
theorem lD {ν:aP}{ren:List (Nat × Nat)}:∀ {a b:SV} {y:Value},ah (xS ren a b)->VR ν b y->VR (ν.ren ren) a y
 | .aH,_,_,_,_=>by rw[VR];trivial
 | .v x,b,y,h,hv=>by
  rw[xS]at h
  dsimp only at h
  split at h
  ·rename_i z hz
   rw[VR,gD hz hv];exact l5.1 h
  ·exact aN h
 | .ptr j o,b,y,h,hv=>by
  rw[xS]at h
  dsimp only at h
  split at h
  ·obtain⟨h1,h2⟩:=fk h
   obtain⟨c,hc,rfl⟩:=VR.aF.1 hv
   obtain rfl:=l5.1 h2
   exact VR.aF.2 ⟨c,iY h1 hc,rfl⟩
  ·exact aN h
 | .sl j o l c,b,y,h,hv=>by
  rw[xS]at h
  dsimp only at h
  split at h
  ·obtain⟨h1,h2⟩:=fk h
   obtain⟨d,hd,hl,rfl⟩:=VR.aL.1 hv
   obtain⟨rfl,rfl,rfl⟩:=l5.1 h2
   exact VR.aL.2 ⟨d,iY h1 hd,hl,rfl⟩
  ·exact aN h
 | .map j,b,y,h,hv=>by
  rw[xS]at h
  dsimp only at h
  split at h
  ·obtain⟨h1,_⟩:=fk h
   obtain⟨d,hd,rfl⟩:=VR.cQ.1 hv
   exact VR.cQ.2 ⟨d,iY h1 hd,rfl⟩
  ·exact aN h
 | .agg l,b,y,h,hv=>by
  rw[xS]at h
  dsimp only at h
  split at h
  ·rename_i m hm
   obtain⟨a,rfl,ha⟩:=HL hm hv
   exact VR.bx.2 ⟨a,rfl,pO h ha⟩
  ·exact aN h
 | .tup l,b,y,h,hv=>by
  rw[xS]at h
  dsimp only at h
  split at h
  ·rename_i m hm
   obtain⟨a,rfl,ha⟩:=Hl hm hv
   exact VR.cz.2 ⟨a,rfl,pO h ha⟩
  ·exact aN h
 | .iface t x,b,y,h,hv=>by
  rw[xS]at h
  dsimp only at h
  split at h
  ·rename_i u z hz
   obtain⟨h1,h2⟩:=fk h
   obtain rfl:t=u:=by simpa using h1
   obtain⟨v,rfl,hv'⟩:=BN hz hv
   exact VR.dr.2 ⟨v,rfl,lD h2 hv'⟩
  ·exact aN h
 | .func fn p q,b,y,h,hv=>by
  rw[xS]at h
  dsimp only at h
  split at h
  ·obtain⟨h1,h2⟩:=mR.1 h
   obtain⟨h3,h4⟩:=dX.1 h1
   obtain rfl:=h2
   obtain⟨a',b',rfl,ha,hb⟩:=VR.eH.1 hv
   exact VR.eH.2 ⟨a',b',rfl,pO h3 ha,pO h4 hb⟩
  ·exact aN h
 | .yield _,b,y,h,hv=>by rw[xS]at h;exact aN h
 | .fin j o l a,b,y,h,hv=>by
  rw[xS]at h
  dsimp only at h
  split at h
  ·obtain⟨h1,h2⟩:=fk h
   obtain⟨d,hd,rfl⟩:=VR.fu.1 hv
   obtain⟨rfl,rfl,rfl⟩:=l5.1 h2
   exact VR.fu.2 ⟨d,iY h1 hd,rfl⟩
  ·exact aN h
theorem pO {ν:aP}{ren:List (Nat × Nat)}:∀ {l m:List SV} {ys:List Value},ah (Jp ren l m)->au ν m ys->au (ν.ren ren) l ys
 | [],m,ys,h,hv=>by
  rw[Jp]at h
  dsimp only at h
  split at h
  ·rw[hv.ay];exact au.nil
  ·exact aN h
 | x::xs,m,zs,h,hv=>by
  rw[Jp]at h
  dsimp only at h
  split at h
  ·obtain⟨h1,h2⟩:=dX.1 h
   obtain⟨u,us,rfl,hu,hus⟩:=hv.cons_inv
   exact au.cons (lD h1 hu) (pO h2 hus)
  ·exact aN h
end
def ab:SV->Bool
 | .v _|.aH=>true
 | _=>false
theorem jv {ν ν':aP}:∀ {l:List SV} {ys:List Value},l.all ab=true->au ν l ys->au ν' l ys
 | [],_,_,h=>by rw[h.ay];exact au.nil
 | x::xs,ys,hc,h=>by
  obtain⟨u,us,rfl,hu,hus⟩:=h.cons_inv
  simp only[List.all_cons,V6]at hc
  refine au.cons ?_ (jv hc.2 hus)
  cases x<;>first|(rw[VR];trivial)|(rw[VR];exact VR.ae.1 hu)|(cases hc.1)
def yd (ren:List (Nat × Nat))(eq:Bool)(xs ys:List SV):List Prop:=bif eq then [ys=xs,xs.all ab=true] else Jp ren xs ys
theorem tI {ν:aP}{ren:List (Nat × Nat)}{eq:Bool}{xs ys:List SV}{zs:List Value}(h:ah (yd ren eq xs ys))(hv:au ν ys zs):au (ν.ren ren) xs zs:=by
 unfold yd at h;cases eq
 ·exact pO h hv
 ·obtain⟨⟨_,h1⟩,h2⟩:=h;subst h2;exact jv h1 hv
def r5 (ren:List (Nat × Nat)):List (SV × SV × Nat)->List (SV × SV × Nat)->List Prop
 | []=>fun m=>match m with|[]=>[]|_=>[False]
 | x::xs=>fun m=>match m with|y::ys=>(xS ren x.1 y.1++xS ren x.2.1 y.2.1)++((y.2.2=x.2.2)::r5 ren xs ys)|[]=>[False]
theorem vK {ν:aP}{ren:List (Nat × Nat)}:∀ {l m:List (SV × SV × Nat)} {ds:List MapEntry},ah (r5 ren l m)->eI ν m ds->eI (ν.ren ren) l ds
 | [],m,ys,h,hv=>by
  unfold r5 at h
  cases m with
  | nil=>exact hv
  | cons=>exact aN h
 | x::xs,m,zs,h,hv=>by
  unfold r5 at h
  cases m with
  | nil=>exact aN h
  | cons y ys=>
   obtain⟨h1,h2⟩:=dX.1 h
   obtain⟨h3,h4⟩:=dX.1 h1
   obtain⟨h5,h6⟩:=mR.1 h2
   obtain⟨u,us,rfl,hk,hu,hb,hus⟩:=hv
   exact⟨u,us,rfl,lD h3 hk,lD h4 hu,h6 ▸ hb,vK h5 hus⟩
def aw:SV->Bool
 | .v _|.aH=>true
 | .agg l=>l.all ab
 | _=>false
theorem uu {ν ν':aP}{x:SV}{y:Value}(h:aw x=true)(hv:VR ν x y):VR ν' x y:=by
 cases x<;>first
  | (rw[VR];trivial)
  | exact VR.ae.2 (VR.ae.1 hv)
  | (obtain⟨a,rfl,ha⟩:=VR.bx.1 hv;exact VR.bx.2 ⟨a,rfl,jv h ha⟩)
  | (cases h)
theorem lz {ν ν':aP}:∀ {l:List (SV × SV × Nat)} {ds:List MapEntry},(l.all fun e=>aw e.1&&aw e.2.1)=true->eI ν l ds->eI ν' l ds
 | [],_,_,h=>h
 | x::xs,ds,hc,h=>by
  obtain⟨u,us,rfl,hk,hu,hb,hus⟩:=h
  simp only[List.all_cons,V6]at hc
  exact⟨u,us,rfl,uu hc.1.1 hk,uu hc.1.2 hu,hb,lz (by simpa using hc.2) hus⟩
def xJ (ren:List (Nat × Nat))(eq:Bool)(es es':List (SV × SV × Nat)):List Prop:=bif eq then [es'=es,(es.all fun e=>aw e.1&&aw e.2.1)=true] else r5 ren es es'
theorem Be {ν:aP}{ren:List (Nat × Nat)}{eq:Bool}{l m:List (SV × SV × Nat)}{ds:List MapEntry}(h:ah (xJ ren eq l m))(hv:eI ν m ds):eI (ν.ren ren) l ds:=by
 unfold xJ at h;cases eq
 ·exact vK h hv
 ·obtain⟨⟨_,h1⟩,h2⟩:=h;subst h2;exact lz h1 hv
def PV (ren:List (Nat × Nat)):Option Nat->Option Nat->Prop
 | none,none=>True
 | some j,some i=>ren.lookup j=some i
 | _,_=>False
def KL (ren:List (Nat × Nat))(eq:Bool):SO->SO->List Prop
 | .row xs e fz ext=>fun o=>match o with
  | .row ys e' fz' ext'=>bif e==e'&&fz==fz'&&ext==ext' then yd ren eq xs ys else [False]
  | _=>[False]
 | .look xs=>fun o=>match o with
  | .look ys=>yd ren eq xs ys
  | .row ys _ _ _=>yd ren eq xs ys
  | _=>[False]
 | .map es c=>fun o=>match o with
  | .map es' c'=>(c'=c)::xJ ren eq es es'
  | _=>[False]
 | .miter m since seen st=>fun o=>match o with
  | .miter m' since' seen' st'=>[PV ren m m',since'=since,seen'=seen,st'=st]
  | _=>[False]
 | .dfr none=>fun o=>match o with
  | .dfr none=>[]
  | _=>[False]
 | _=>fun _=>[False]
theorem s8.ren {ν:aP}{ren:List (Nat × Nat)}{j i n size:Nat}(h:(ren.lookup j==some i)=true){e:Option Nat}(r:s8 ν i n size e):s8 (ν.ren ren) j n size e:=by
 cases e with
 | none=>exact r
 | some e=>obtain⟨h1,b,hb,h2⟩:=r;exact⟨h1,b,iY h hb,h2⟩
theorem wJ {ν:aP}{ren:List (Nat × Nat)}{eq:Bool}{j i:Nat}(hji:(ren.lookup j==some i)=true){a b:SO}{o:Obj}(h:ah (KL ren eq a b))(hv:OR ν i b o):OR (ν.ren ren) j a o:=by
 unfold KL at h;split at h
 ·split at h
  ·obtain⟨h1,h2⟩:=fk h;rw[V6,V6]at h1;obtain⟨⟨h3,h4⟩,h5⟩:=h1;have h3:=Yo h3;have h4:=Yo h4;have h5:=Yo h5;subst h3 h4 h5;obtain⟨zs,rest,rfl,hz,hx⟩:=hv;have hz':=tI h2 hz;refine⟨zs,rest,rfl,hz',?_⟩;rw[<- hz'.length,hz.length];exact hx.ren hji
  ·exact aN h
 ·split at h
  ·obtain⟨zs,c,e,fz,rfl,hz,hc⟩:=hv;exact⟨zs,c,e,fz,rfl,tI h hz,hc⟩
  ·obtain⟨zs,rest,rfl,hz,hx⟩:=hv;exact⟨zs,_,_,_,rfl,tI h hz,fun k y hy=>by simpa using YE hy⟩
  ·exact aN h
 ·split at h
  ·obtain⟨h1,h2⟩:=mR.1 h;obtain⟨l,rfl,hl⟩:=hv;subst h2;exact⟨l,rfl,Be h1 hl⟩
  ·exact aN h
 ·rename_i m since seen st;split at h
  ·rename_i m' since' seen' st';obtain⟨⟨⟨⟨_,h4⟩,h3⟩,h2⟩,h1⟩:=h;subst h2 h3 h4;cases m with
   | none=>cases m' with
    | none=>exact hv
    | some i'=>exact h1.elim
   | some j'=>cases m' with
    | none=>exact h1.elim
    | some i'=>
     obtain⟨b,hb,ho⟩:=hv;exact⟨b,iY (by rw[h1];simp) hb,ho⟩
  ·exact aN h
 ·split at h
  ·exact hv
  ·exact aN h
 ·exact aN h
def mP (l:List SI):Bool:=l.all fun x=>match x with
 | .code _|.inBlock _|.inLoop _|.inScope _|.reg _ _=>true
 | _=>false
theorem xj {ν ν':aP}{l:List SI}{ys:List Item}(hp:mP l=true)(h:tx ν l ys):tx ν' l ys:=by
 induction h with
 | nil=>exact .nil
 | cons hx hk ih=>
  simp only[mP,List.all_cons,V6]at hp;refine .cons ?_ (ih hp.2);cases hx<;>first|exact .code _|exact .inBlock _|exact .inLoop _|exact .inScope _|exact .reg _ _|(cases hp.1)
def I2 (ren:List (Nat × Nat))(a b:fR):List Nat->List Prop
 | []=>[]
 | t::ts=>xS ren (a.T.get t) (b.T.get t)++I2 ren a b ts
theorem Cz {ν:aP}{ren:List (Nat × Nat)}{a b:fR}:∀ {ts:List Nat},ah (I2 ren a b ts)->∀ t∈ts,∀ y,VR ν (b.T.get t) y->VR (ν.ren ren) (a.T.get t) y
 | [],_,_,ht=>by cases ht
 | u::ts,h,t,ht=>by
  unfold I2 at h
  obtain⟨h1,h2⟩:=dX.1 h
  rcases V8.1 ht with rfl|ht
  ·exact fun y hy=>lD h1 hy
  ·exact Cz h2 t ht
def sL (ren:List (Nat × Nat))(eqs:List Nat)(T:SH):Nat->List (Option (SO × Bool))->List Prop
 | _,[]=>[]
 | j,none::l=>sL ren eqs T (j+1) l
 | j,some (o,m)::l=>(match ren.lookup j with
   | some i=>match T.look i with
    | some (o',m')=>bif m==m' then KL ren (eqs.contains j) o o' else [False]
    | none=>[False]
   | none=>[False])++sL ren eqs T (j+1) l
theorem pf {ren:List (Nat × Nat)}{eqs:List Nat}{T:SH}:∀ {l:List (Option (SO × Bool))} {j:Nat},ah (sL ren eqs T j l)->∀ k o m,l[k]?=some (some (o,m))->
  ∃ i o',ren.lookup (j+k)=some i/\T.look i=some (o',m)/\ah (KL ren (eqs.contains (j+k)) o o')
 | [],_,_,k,o,m,hk=>by simp at hk
 | none::l,j,h,k,o,m,hk=>by
  unfold sL at h
  cases k with
  | zero=>simp at hk
  | succ k=>
   have:=pf h k o m (by simpa using hk)
   rwa[show j+1+k=j+(k+1) by omega]at this
 | some (o0,m0)::l,j,h,k,o,m,hk=>by
  unfold sL at h
  obtain⟨h1,h2⟩:=dX.1 h
  cases k with
  | zero=>
   simp only[Wa,Option.some.injEq,Prod.mk.injEq]at hk
   obtain⟨rfl,rfl⟩:=hk
   split at h1
   ·rename_i i hi
    split at h1
    ·rename_i o' m' hl
     obtain⟨h3,h4⟩:=fk h1
     obtain rfl:m0=m':=by simpa using h3
     exact⟨i,o',hi,hl,h4⟩
    ·exact aN h1
   ·exact aN h1
  | succ k=>
   have:=pf h2 k o m (by simpa using hk)
   rwa[show j+1+k=j+(k+1) by omega]at this
theorem oW {α:Type}{d:Nat}:∀ (l:List α) (i:Nat) (T:Tr α),Tr.Full d T->i+l.length<=2 ^ d->
  Tr.Full d (Tr.fill T i l)/\∀ t,t<2 ^ d->(Tr.fill T i l).get t=if i<=t then (l[t - i]?).getD (T.get t) else T.get t
 | [],i,T,h,_=>⟨h,fun t _=>by simp[Tr.fill]⟩
 | x::xs,i,T,h,hl=>by
  simp only[Wm]at hl
  obtain⟨h1,h2⟩:=oW xs (i+1) (T.set i x) (h.set _ _) (by omega)
  refine⟨h1,fun t ht=>?_⟩
  rw[Tr.fill,h2 t ht,Tr.dV h (by omega) ht]
  by_cases e1:i+1<=t
  ·rw[if_pos e1,if_neg (show ¬ t=i by omega),if_pos (show i<=t by omega)]
   have:t - i=(t - (i+1))+1:=by omega
   rw[this,WU]
  ·rw[if_neg e1]
   by_cases e2:t=i
   ·subst e2;simp
   ·rw[if_neg e2,if_neg (show ¬ i<=t by omega)]
def SM.at (F:SF)(d:Nat)(l:List (Option (SO × Bool))):SM:={ top:=F,callers:=[],mem:=bG d l.length 0 l }
def CP (F:SF):Bool:=!F.ret&&F.ro.isNone&&F.defers.isEmpty&&(match F.kind with|.normal=>true|_=>false)
def fits (E:Env)(ren:List (Nat × Nat))(eqs:List Nat)(F:SF)(d:Nat)(l:List (Option (SO × Bool)))(T:SM):List Prop:=
 bif Nat.beq F.fn T.top.fn&&CP F&&CP T.top&&T.callers.isEmpty&&mP F.todo&&Nat.beq F.tm.nt T.top.tm.nt&&Tr.full F.tm.d F.tm.T&&Nat.ble F.tm.nt (2 ^ F.tm.d)&&Nat.ble l.length (2 ^ d)
   && ren.all (fun r=>Nat.blt r.1 l.length)&&decide ((ren.map (·.1)).Nodup/\(ren.map (·.2)).Nodup)&&E.G.all (fun r=>ren.lookup r.2==some r.2) then
  I2 ren F.tm T.top.tm (List.range F.tm.nt)++sL ren eqs T.mem 0 l
 else [False]
theorem yc {F:SF}(h:CP F=true):F.ret=false/\F.ro=none/\F.defers=[]/\F.kind=.normal:=by
 obtain⟨fn,tm,todo,defers,ret,kind,ro⟩:=F;unfold CP at h;dsimp only at h;rw[V6,V6,V6]at h;obtain⟨⟨⟨h1,h2⟩,h3⟩,h4⟩:=h;refine⟨by simpa using h1,by simpa using h2,by simpa using h3,?_⟩;cases kind<;>first|rfl|cases h4
theorem ig {ren:List (Nat × Nat)}{j i:Nat}(h:ren.lookup j=some i):(j,i)∈ren:=by
 induction ren with
 | nil=>cases h
 | cons r l ih=>
  obtain⟨g',k'⟩:=r;rw[List.lookup_cons]at h;split at h
  ·rename_i e;cases h;have e:j=g':=by simpa using e
   rw[e];exact Wj
  ·exact Wc _ (ih h)
theorem uZ {ren:List (Nat × Nat)}(h:(ren.map (·.2)).Nodup){a b i:Nat}(ha:(a,i)∈ren)(hb:(b,i)∈ren):a=b:=by
 obtain⟨m,hm,e1⟩:=List.getElem_of_mem ha;obtain⟨n,hn,e2⟩:=List.getElem_of_mem hb;have:m=n:=(Yq (h₀:=by simpa using hm) (h₁:=by simpa using hn) h).1 (by simp[e1,e2]);subst this;rw[e1]at e2;exact (Prod.mk.inj e2).1
section
variable {E:Env}{ν:aP}{M:Own}{w0 w:World}{s s':SH}{cs0:List Frame}{f:FuncId}{R:Ending->World->Prop}
theorem MR.fits {ren:List (Nat × Nat)}{eqs:List Nat}{F:SF}{d:Nat}{l:List (Option (SO × Bool))}{T:SM}{m:Machine}(hm:MR E M w0 cs0 ν T m)(h:ah (Go.Rx.fits E ren eqs F d l T))(Zd:T.top.todo=F.todo):
  MR E M w0 cs0 (ν.ren ren) (SM.at F d l) m:=by
 unfold Go.Rx.fits at h;obtain⟨hb,h⟩:=fk h;obtain⟨h1,h2⟩:=dX.1 h;simp only[V6]at hb;obtain⟨⟨⟨⟨⟨⟨⟨⟨⟨⟨⟨b1,b2⟩,b3⟩,b4⟩,b5⟩,b6⟩,b7⟩,b8⟩,b9⟩,b10⟩,b11⟩,b12⟩:=hb;have b1:=WM b1;have b6:=WM b6;have b8:=Wu b8;have b9:=Wu b9;obtain⟨hn1,hn2⟩:=Ws b11;obtain⟨r1,r2,r3,r4⟩:=yc b2;obtain⟨q1,q2,q3,q4⟩:=yc b3;obtain⟨fr,cs,w,hl,rfl,hr,hg,⟨⟨g1,g2,g3,g4⟩,Yt,_⟩,hc⟩:=hm;have ZD:T.callers=[]:=XE.1 b4;rw[ZD,q4]at hc;obtain⟨YF,hR⟩:=Yt q1;have hlk:∀ j i,ren.lookup j=some i->j<l.length:=fun j i h=>dw.1 (Wn.1 b10 _ (ig h));rw[Zd]at hR
 have hpl:j3 ν T.top.tm fr.tmps/\tx ν F.todo fr.todo:=by
  revert hR b5;generalize fr.todo=ys0;generalize F.todo=xs;intro b5 hR;cases hR with
  | plain ht hk=>exact⟨ht,hk⟩
  | drw Zr hn d st hk=>simp[mP]at b5
 obtain⟨ht,hk⟩:=hpl
 have ht':j3 (ν.ren ren) F.tm fr.tmps:=by
  refine⟨by rw[ht.size,b6],Tr.FG.1 b7,b8,fun t htt=>?_⟩;exact Cz h1 t (Xd.2 htt) _ (ht.get t (by rw[<- b6];exact htt))
 have hgetl:∀ i,i<2 ^ d->(bG d l.length 0 l).H.get i=(l[i]?).getD none:=by
  intro i hi;obtain⟨_,hf⟩:=oW l 0 (Tr.mk none d) (Tr.kB _ _) (by omega);have:=hf i hi;rw[if_pos (WW _),Tr.sQ,Yk]at this;exact this
 have hobj:∀ i,i<2 ^ d->∀ x,(bG d l.length 0 l).H.get i=some x->∃ k o',ren.lookup i=some k/\T.mem.look k=some (o',x.2)/\ah (KL ren (eqs.contains i) x.1 o'):=by
  intro i hi x hx;rw[hgetl i hi]at hx
  have hx':l[i]?=some (some (x.1,x.2)):=by
   cases hli:l[i]? with
   | none=>rw[hli]at hx;cases hx
   | some y=>rw[hli]at hx;simp only[WR]at hx;rw[hx]
  have:=pf h2 i x.1 x.2 hx';simpa using this
 have YK:HR (ν.ren ren) M w0 (bG d l.length 0 l) w:=by
  refine⟨(oW l 0 (Tr.mk none d) (Tr.kB _ _) (by omega)).1,fun i hi=>?_,fun i hi=>?_,fun i hi x hx=>?_,fun i j hi hj hgi hgj b c hb ZI e=>?_,hr.size,hr.frame,fun i hi x hx hf b hb=>?_,hr.os,hr.tape,hr.output⟩
  ·have hi:2 ^ d<=i:=hi;unfold aP.ren;cases hlo:ren.lookup i with
   | none=>rfl
   | some k=>have:=hlk _ _ hlo;omega
  ·have hi:l.length<=i:=hi;unfold aP.ren;cases hlo:ren.lookup i with
   | none=>rfl
   | some k=>have:=hlk _ _ hlo;omega
  ·obtain⟨k,o',hlo,hl',ho⟩:=hobj i hi x hx;obtain⟨_,_,b,oo,hb,hoo,YA,YS⟩:=hr.look hl';have hji:(ren.lookup i==some k)=true:=by rw[hlo];simp
   exact⟨b,oo,iY hji hb,hoo,wJ hji ho YA,YS⟩
  ·have hx:∀ u,u<2 ^ d->(bG d l.length 0 l).H.get u≠none->∀ b,(ν.ren ren) u=some b->∃ k,ren.lookup u=some k/\k<2 ^ T.mem.d/\T.mem.H.get k≠none/\ν k=some b:=by
    intro u hu hn b hb;cases hxx:(bG d l.length 0 l).H.get u with
    | none=>exact absurd hxx hn
    | some x=>
     obtain⟨k,o',hlo,hl',_⟩:=hobj u hu x hxx;obtain⟨k1,k2,_⟩:=hr.look hl';refine⟨k,hlo,k1,by rw[k2];simp,?_⟩;unfold aP.ren at hb;rw[hlo]at hb;exact hb
   obtain⟨k1,e1,l1,n1,v1⟩:=hx i hi hgi b hb;obtain⟨k2,e2,l2,n2,v2⟩:=hx j hj hgj c ZI;have:=hr.inj k1 k2 l1 l2 n1 n2 b c v1 v2 e;subst this;exact uZ hn2 (ig e1) (ig e2)
  ·obtain⟨k,o',hlo,hl',_⟩:=hobj i hi x hx;obtain⟨k1,k2,_⟩:=hr.look hl';unfold aP.ren at hb;rw[hlo]at hb;rw[hf]at k2;exact hr.ro k k1 _ k2 rfl b hb
 have hg':GR (ν.ren ren) E:=by
  intro g i h;obtain⟨c,ZI⟩:=hg g i h;have:=Wn.1 b12 _ (ig h);exact⟨c,iY this ZI⟩
 refine⟨fr,cs,w,[],rfl,YK,hg',⟨⟨by rw[g1,<- b1];rfl,?_,by rw[g3,q4];exact r4.symm,?_⟩,fun _=>⟨YF,.plain ht' (xj b5 hk)⟩,fun hcon=>?_⟩,?_⟩
 ·show j8 _ F.defers _;rw[r3];rw[q3]at g2;exact g2
 ·show Nw _ F.ro _;rw[r2];rw[q2]at g4;exact g4
 ·have hcon:F.ret=true:=hcon;rw[r1]at hcon;cases hcon
 ·show bo _ _ _ _ _ _ F.kind [] _;rw[r4];cases hc with
  | nil _=>exact .nil XF
theorem af.fits {ren:List (Nat × Nat)}{eqs:List Nat}{F:SF}{d:Nat}{l:List (Option (SO × Bool))}{T:SM}(h:ah (Go.Rx.fits E ren eqs F d l T))(Zd:T.top.todo=F.todo)
  (hν:∀ i b,ν i=some b->ren.lookup i=some i) (hs:af E M w0 cs0 f R ν (SM.at F d l)):af E M w0 cs0 f R ν T:=by
 intro ν' m M1 w1 hle hB hm;refine hs (ν'.ren ren) m M1 w1 (fun i b hb=>?_) hB (hm.fits h Zd);exact iY (by rw[hν i b hb];simp) (hle i b hb)
def Mi (k:Nat)(S:SM):Bool:=S.callers.isEmpty&&!S.top.ret&&match S.top.todo with
 | .inLoop _::r=>Nat.beq r.length k
 | .code (.loop _)::r=>Nat.beq r.length k
 | _=>false
def Ix (E:Env)(k n:Nat)(S:SM):Option SM:=match po E (Mi k) n S with
 | some T=>match step1 E T with
  | some [U]=>some U
  | _=>none
 | none=>none
theorem af.Ix (K:aK E M w0){k n:Nat}{S U:SM}{o:List (Nat × gR)}(h:Go.Rx.Ix E k n (S.with o)=some U)(ob:U.mem.ob)(hs:af E M w0 cs0 f R ν U):af E M w0 cs0 f R ν S:=by
 unfold Go.Rx.Ix at h;split at h
 ·rename_i T hT;split at h
  ·rename_i V hV;cases h;have H8:T.mem.ob:=(sP hV).2 U Wj ob;refine af.go K hT H8 fun ν' m M1 w1 hle hB hm=>?_;obtain⟨S',hS',hS⟩:=yh K hB hm hV;obtain rfl:=Wl.1 hS';obtain⟨_,ν2,m',M2,w2,ZR,Ze,Γ,Z2⟩:=hS ob;exact (hs ν2 m' M2 w2 (hle.trans ZR) Γ Z2).steps Ze
  ·cases h
 ·cases h
end
abbrev PS:=List Value->Option (Value × Prop)
def cq (g:PS):List SV->SH->Option (SV × SH):=fun args s=>
 match jN args with
 | some l=>match g l with
  | some (v,p)=>some (.v v,s.jh p)
  | none=>none
 | none=>none
def bX (P:Program)(X:World->Prop)(r:FuncId × PS):Prop:=
 (∃ fn, P.funcs[r.1]? = some fn /\ fn.body.isSome = true /\ (fn.name == "runtime.NumGoroutine") = false) /\
  ∀ args v p,r.2 args=some (v,p)->p->∀ w,X w->Calls P r.1 args.toArray w fun e w'=>Below w.heap.size w w'/\e=.returned v
def Bf (l:List (FuncId × PS)):FuncId->Option (List SV->SH->Option (SV × SH)):=fun f=>(l.lookup f).map cq
theorem q7 {α:Type}{l:List (Nat × α)}{j:Nat}{i:α}(h:l.lookup j=some i):(j,i)∈l:=by
 induction l with
 | nil=>cases h
 | cons r l ih=>
  obtain⟨g',k'⟩:=r;rw[List.lookup_cons]at h;split at h
  ·rename_i e;cases h;have e:j=g':=by simpa using e
   rw[e];exact Wj
  ·exact Wc _ (ih h)
section
variable {E:Env}{ν:aP}{M:Own}{w0 w:World}{s s':SH}
theorem dy.of {X:World->Prop}{l:List (FuncId × PS)}(hE:E.YT=Bf l)(h:∀ r∈l,bX E.P X r)(hX:∀ ν s w,HR ν M w0 s w->GR ν E->X w):dy E M w0:=by
 intro f g hg args x s s' hx;rw[hE]at hg;unfold Bf at hg;obtain⟨ps,hps,rfl⟩:=Wg.1 hg;obtain⟨⟨fn,hf,hb,hn⟩,hc⟩:=h _ (q7 hps);unfold cq at hx;split at hx
 ·rename_i vs hvs;split at hx
  ·rename_i v p hp;cases hx;refine fun ob=>⟨ob.1,fun ν w a hr χ ha=>?_⟩;obtain rfl:=hQ hvs ha;refine⟨gM hf (by intro e;rw[e]at hb;cases hb) (by intro e;rw[e]at hn;simp at hn),?_⟩;exact (hc a v p hp ob.2 w (hX ν s w hr χ)).mono fun e w' ⟨YP,he⟩=>⟨v,he,.old YP (.same (SH.cn _ _) (VR.ae.2 rfl))⟩
  ·cases hx
 ·cases hx
def reach (E:Env)(k n:Nat)(S:SM)(o:List (Nat × gR))(ren:List (Nat × Nat))(eqs:List Nat)(F:SF)(d:Nat)(l:List (Option (SO × Bool))):List Prop:=
 match Ix E k n (S.with o) with|some T=>fits E ren eqs F d l T++T.mem.Y9|none=>[False]
def dA (E:Env)(k n:Nat)(S:SM)(o:List (Nat × gR)):List SI:=match Ix E k n (S.with o) with|some T=>T.top.todo|none=>[]
def ao (E:Env)(f:FuncId)(n:Nat)(S:SM)(o:List (Nat × gR))(v:Value):List Prop:=
 match po E SM.over n (S.with o) with
 | some T=>match ph E f T with
  | some (y,s')=>match eM y with
   | some z=>(z=v)::s'.Y9
   | none=>[False]
  | none=>[False]
 | none=>[False]
variable {cs0:List Frame}{f:FuncId}{R:Ending->World->Prop}
theorem fV {S:SM}{x:SV}(h:ph E f S=some (x,s')):s'.ob->S.mem.ob:=by
 unfold ph at h;cases hov:(S.over&&Nat.beq S.top.fn f)
 ·rw[hov]at h;cases h
 ·rw[hov]at h;simp only[WE]at h;split at h
  ·exact np h
  ·cases h
theorem af.reach (K:aK E M w0){k n d:Nat}{S:SM}{o:List (Nat × gR)}{ren:List (Nat × Nat)}{eqs:List Nat}{F:SF}{l:List (Option (SO × Bool))}(h:ah (Go.Rx.reach E k n S o ren eqs F d l))(ht:dA E k n S o=F.todo)
  (hν:∀ i b,ν i=some b->ren.lookup i=some i) (hs:af E M w0 cs0 f R ν (SM.at F d l)):af E M w0 cs0 f R ν S:=by
 unfold Go.Rx.reach at h;unfold dA at ht;split at h
 ·rename_i T hT;rw[hT]at ht;obtain⟨h1,h2⟩:=dX.1 h;exact af.Ix K hT h2 (af.fits h1 ht hν hs)
 ·exact aN h
theorem af.ao (K:aK E M w0){n:Nat}{S:SM}{o:List (Nat × gR)}{v:Value}(h:ah (Go.Rx.ao E f n S o v))
  (hR:∀ ν' M1 w1 s' w',ν.Le ν'->dh M w0 M1 w1->HR ν' M1 w1 s' w'->R (.returned v) w'):af E M w0 cs0 f R ν S:=by
 unfold Go.Rx.ao at h;split at h
 ·rename_i T hT;split at h
  ·rename_i y s' YI;split at h
   ·rename_i z hz;obtain⟨h1,h2⟩:=mR.1 h;subst h2;refine af.go K hT (fV YI h1) (af.done YI h1 fun ν' M1 w1 w' u hle hB hv hr hg=>?_);rw[gD hz hv];exact hR ν' M1 w1 s' w' hle hB hr
   ·exact aN h
  ·exact aN h
 ·exact aN h
def aA (l:List (Nat × Nat)):aP:=fun i=>l[i]?
def aD (l:List (Nat × Nat))(os:List (SO × Bool)):Own:=⟨fun b=>∃ (i:Nat) (o:SO) (c:Nat),os[i]?=some (o,true)/\l[i]?=some (b,c),fun b=>∃ (i:Nat) (o:SO) (c:Nat),os[i]?=some (o,false)/\l[i]?=some (b,c),fun _=>False⟩
theorem As {d:Nat}{l:List (Nat × Nat)}{os:List (SO × Bool)}(hlen:l.length=os.length)(hd:os.length<=2 ^ d)(hn:(l.map (·.1)).Nodup)
  (ho:∀ (i:Nat) (o:SO) (m:Bool) (b c:Nat),os[i]?=some (o,m)->l[i]?=some (b,c)->∃ r,w.heap[b]?=some r/\OR (aA l) i o r):HR (aA l) (aD l os) w (bG d os.length 0 (os.map some)) w:=by
 have hget:∀ i,i<2 ^ d->(bG d os.length 0 (os.map some)).H.get i=os[i]?:=by
  intro i hi;obtain⟨_,hf⟩:=oW (os.map some) 0 (Tr.mk none d) (Tr.kB _ _) (by simpa using hd);have:=hf i hi;rw[if_pos (WW _),Tr.sQ,Yk,Wv]at this;rw[show (bG d os.length 0 (os.map some)).H=Tr.fill (Tr.mk none d) 0 (os.map some) from rfl,this];cases os[i]?<;>rfl
 have hli:∀ (i:Nat) (x:SO × Bool),os[i]?=some x->∃ (b c:Nat),l[i]?=some (b,c):=by
  intro i x hx;have YD:=(WB.1 hx).1;exact⟨(l[i]'(by omega)).1,(l[i]'(by omega)).2,V4 (by omega)⟩
 refine⟨(oW (os.map some) 0 (Tr.mk none d) (Tr.kB _ _) (by simpa using hd)).1,fun i hi=>?_,fun i hi=>?_,fun i hi x hx=>?_,fun i j hi hj hgi hgj b c hb hc e=>?_,Wx _,fun _ _ _=>rfl,fun i hi x hx hf b hb=>?_,rfl,rfl,rfl⟩
 ·have hi:2 ^ d<=i:=hi;exact XR (by omega)
 ·have hi:os.length<=i:=hi;exact XR (by omega)
 ·have hi:i<2 ^ d:=hi;rw[hget i hi]at hx;obtain⟨b,c,hl⟩:=hli i x hx;obtain⟨r,hr,YA⟩:=ho i x.1 x.2 b c hx hl;exact⟨(b,c),r,hl,hr,YA,fun hm=>.inr ⟨i,x.1,c,by rw[hx,<- hm],hl⟩⟩
 ·obtain⟨hi',hb⟩:=WB.1 hb;obtain⟨hj',hc⟩:=WB.1 hc;refine (Yq (h₀:=by simpa using hi') (h₁:=by simpa using hj') hn).1 ?_;simp only[List.getElem_map,hb,hc];exact e
 ·have hi:i<2 ^ d:=hi;rw[hget i hi]at hx;exact⟨i,x.1,b.2,by rw[hx,<- hf],hb⟩
theorem dN {l:List (Nat × Nat)}{os:List (SO × Bool)}(ho:∀ (i:Nat) (o:SO) (m:Bool) (b c:Nat),os[i]?=some (o,m)->l[i]?=some (b,c)->∃ r,w.heap[b]?=some r/\OR (aA l) i o r):∀ b,(aD l os).r b->b<w.heap.size:=by
 rintro b ⟨i,o,c,h1,h2⟩
 obtain⟨r,hr,_⟩:=ho i o false b c h1 h2;exact (VY.1 hr).1
theorem ng {P:Program}(hP:E.P=P){args:List SV}{a:List Value}{d:Nat}{l:List (Nat × Nat)}{os:List SO}{S0:SM}{Q:Value->Prop}(hlen:l.length=os.length)(hd:os.length<=2 ^ d)(hn:(l.map (·.1)).Nodup)
  (ho:∀ (i:Nat) (o:SO) (b c:Nat),os[i]?=some o->l[i]?=some (b,c)->∃ r,w.heap[b]?=some r/\OR (aA l) i o r) (hG:E.G=[]) (ZZ:a6 E f args (bG d os.length 0 (os.map fun o=>some (o,false)))=some S0) (ha:au (aA l) args a)
  (hs:∀ cs0,af E (aD l (os.map fun o=>(o,false))) w cs0 f (fun e w'=>Below w.heap.size w w'/\∃ v,e=.returned v/\Q v) (aA l) S0):
  Calls P f a.toArray w fun e w'=>Below w.heap.size w w'/\∃ v,e=.returned v/\Q v:=by
 subst hP
 have Zz:∀ (i:Nat) (o:SO) (m:Bool) (b c:Nat),(os.map fun o=>(o,false))[i]?=some (o,m)->l[i]?=some (b,c)->∃ r,w.heap[b]?=some r/\OR (aA l) i o r:=by
  intro i o m b c h1 h2;rw[Wv]at h1;obtain⟨o',h3,h4⟩:=Wg.1 h1;cases h4;exact ho i o b c h3 h2
 have hr:=As (d:=d) (w:=w) (by simpa using hlen) (by simpa using hd) hn Zz;rw[WI,WH]at hr;exact iG ZZ hr (dN Zz) (fun _ h=>h) (fun g i h=>by rw[hG]at h;cases h) ha hs
theorem aZ {l:List (Nat × Nat)}{os:List SO}{b:Nat}:¬ (aD l (os.map fun o=>(o,false))) b:=by
 rintro ⟨i,o,c,h1,_⟩
 rw[Wv]at h1;obtain⟨o',_,h4⟩:=Wg.1 h1;cases h4
theorem aB {M1:Own}{w1:World}(hM:∀ b,¬ M b)(hB:dh M w0 M1 w1)(hr:HR ν M1 w1 s w):Below w0.heap.size w0 w:=by
 have h:=hr.xy hB;exact⟨h.os,h.tape,h.output,h.size,fun k hk=>h.frame k hk (hM k)⟩
theorem kr {α β:Type}{g:α->List β}{m:Nat}(hg:∀ x,(g x).length=m):∀ {xs:List α} {k:Nat} {x:α},xs[k]?=some x->((xs.flatMap g).drop (k*m)).take m=g x
 | [],_,_,h=>by simp at h
 | y::ys,0,x,h=>by
  simp only[Wa,Option.some.injEq]at h;subst h;rw[XL,Nat.zero_mul,List.drop_zero,XP (by rw[hg];exact Wx _),We (by rw[hg];exact Wx _)]
 | y::ys,k+1,x,h=>by
  have e:((y::ys).flatMap g).drop m=ys.flatMap g:=by
   rw[XL,List.drop_append_of_le_length (by rw[hg];exact Wx _),List.drop_of_length_le (l:=g y) (by rw[hg];exact Wx _),Xm]
  rw[Nat.succ_mul,Nat.add_comm,<- List.drop_drop,e];exact kr hg (by simpa using h)
def aT {α:Type}(g:α->List SV)(off:Nat)(xs:List α):List SV:=List.replicate off .aH++xs.flatMap g
theorem gG {α:Type}{g:α->List SV}{m off:Nat}(hg:∀ x,(g x).length=m){xs:List α}{k:Nat}{x:α}(h:xs[k]?=some x):((aT g off xs).drop (off+k*m)).take m=g x:=by
 unfold aT
 have e:(List.replicate off SV.aH++xs.flatMap g).drop off=xs.flatMap g:=by
  rw[List.drop_append_of_le_length (by simp),List.drop_of_length_le (l:=List.replicate off SV.aH) (by simp),Xm]
 rw[<- List.drop_drop,e];exact kr hg h
theorem ca {α:Type}{g:α->List SV}(hg:∀ x,(g x).all ab=true){off:Nat}{xs:List α}:(aT g off xs).all ab=true:=by
 unfold aT;rw[WL,V6];refine⟨Wn.2 fun x hx=>by rw[(List.mem_replicate.1 hx).2];rfl,?_⟩;refine Wn.2 fun x hx=>?_;obtain⟨y,_,hy⟩:=Yp.1 hx;exact Wn.1 (hg y) x hy
theorem eJ {α:Type}{g:α->List SV}{h:α->List Value}(hgh:∀ ν x,au ν (g x) (h x)){off:Nat}{xs:List α}{i:Nat}{ν:aP}{c:Array Value}{e:TypeId}{fz:Nat × Nat}(Y4:off<=c.size)
  (hc:∀ (k:Nat) (v:Value),(xs.flatMap h)[k]?=some v->c[off+k]?=some v):OR ν i (.look (aT g off xs)) (.cells c e fz):=by
 refine⟨c.toList.take off++xs.flatMap h,c,e,fz,rfl,?_,fun k y hk=>?_⟩
 ·unfold aT;refine au.append ?_ ?_
  ·have:∀ (n:Nat) (l:List Value),l.length=n->au ν (List.replicate n .aH) l:=by
    intro n;induction n with
    | zero=>intro l hl;rw[Wd.1 hl];exact au.nil
    | succ n ih=>
     intro l hl;match l,hl with
     | y::l,hl=>exact au.cons (by rw[VR];trivial) (ih l (by simpa using hl))
   exact this off _ (by simp;omega)
  ·clear hc;induction xs with
   | nil=>exact au.nil
   | cons x xs ih=>exact au.append (hgh ν x) ih
 ·by_cases YD:k<off
  ·rw[WD (by simp;omega),WN,if_pos YD]at hk;simpa using hk
  ·rw[XY (by simp;omega)]at hk;have:=hc _ y hk;rw[<- this];congr 1;simp;omega
end
def CZ {α:Type}(h:α->List Value)(W:World)(a:Option Addr)(l c:Nat):Prop:=
 (l<=c/\c<=maxLen)/\(l=0\/∃ (b off:Nat) (xs:List α) (cs:Array Value) (e:TypeId) (fz:Nat × Nat),a=some ⟨b,off,none⟩/\xs.length=l/\W.heap[b]?=some (.cells cs e fz)/\off<=cs.size/\
  ∀ (k:Nat) (v:Value),(xs.flatMap h)[k]?=some v->cs[off+k]?=some v)
theorem qJ {α β:Type}{h:α->List β}{C:Nat}(hC:0<C)(hh:∀ r,(h r).length=C):∀ {xs:List α} {k:Nat} {v:β},(xs.flatMap h)[k]?=some v->∃ x,xs[k / C]?=some x/\(h x)[k % C]?=some v
 | [],_,_,e=>by simp at e
 | y::ys,k,v,e=>by
  rw[XL]at e
  by_cases hk:k<C
  ·rw[WD (by rw[hh];exact hk)]at e
   exact⟨y,by rw[Nat.div_eq_of_lt hk];rfl,by rw[Yc hk];exact e⟩
  ·rw[XY (by rw[hh];omega),hh]at e
   obtain⟨x,h1,h2⟩:=qJ hC hh e
   refine⟨x,?_,?_⟩
   ·rw[Nat.div_eq_sub_div hC (by omega),WU];exact h1
   ·rw[Nat.mod_eq_sub_mod (by omega)];exact h2
section
variable {H:Type}{enc:TypeId × Value->H}{P:Program}{W:World}{base:Nat}{spare:Nat->Bool}{held:Bool}
end
def structFields (P:Program)(t:TypeId):Array Field:=match P.underlying t with|some (.struct fs)=>fs|_=>#[]
def fieldAt (P:Program)(t:TypeId)(i:Nat):Field:=(structFields P t).getD i default
section
variable {H:Type}{enc:TypeId × Value->H}{P:Program}{W:World}{base:Nat}{spare:Nat->Bool}{held:Bool}
end
section
variable {E:Env}{w:World}{f:FuncId}{R:Ending->World->Prop}
theorem yB {l:List (Nat × List SV)}(told:∀ r∈l,Told w r):∀ b,(jf l).r b->b<w.heap.size:=by
 rintro b ⟨r,hr,rfl⟩
 obtain⟨ys,c,e,fz,h1,_⟩:=told r hr;exact (VY.1 h1).1
theorem wh {P:Program}(hP:E.P=P){args:List SV}{a:List Value}{d:Nat}{l:List (Nat × List SV)}{S0:SM}(hG:E.G=(l.map (·.1)).zipIdx)(hd:l.length<=2 ^ d)(hn:(l.map (·.1)).Nodup)(told:∀ r∈l,Told w r)
  (ZZ:a6 E f args (jS d l)=some S0) (ha:au (gy l) args a) (hs:∀ cs0,af E (jf l) w cs0 f R (gy l) S0):Calls P f a.toArray w R:=by
 subst hP;exact iG ZZ (CC hd hn told) (yB told) (fun _ h=>h) (Cr hG) ha hs
end
def r9 (E:Env)(f:FuncId)(S:SM):Bool:=match ph E f S with
 | some (.v (.bool true),s')=>s'.Y9.isEmpty
 | _=>false
def pF (E:Env)(f:FuncId):Nat->List SM->Option (List SM)
 | 0,w=>some w
 | _+1,[]=>some []
 | n+1,S::w=>bif S.over then (bif r9 E f S then pF E f n w else none) else match step1 E S with
  | none=>none
  | some l=>pF E f n (l++w)
theorem qj {E:Env}{f:FuncId}:∀ {n:Nat} {w w':List SM},pF E f n w=some w'->∀ d:List SM,(∀ S∈d,r9 E f S=true)->∃ d',runK E SM.over n w d=some (w',d')/\∀ S∈d',r9 E f S=true
 | 0,w,w',h,d,hd=>by cases h;exact⟨d,rfl,hd⟩
 | _+1,[],w',h,d,hd=>by cases h;exact⟨d,rfl,hd⟩
 | n+1,S::w,w',h,d,hd=>by
  unfold pF at h
  unfold runK
  cases hs:S.over
  ·rw[hs]at h
   simp only[W5]at h ⊢
   split at h
   ·cases h
   ·rename_i l hl
    try rw[hl]
    exact qj h d hd
  ·rw[hs]at h
   simp only[WE]at h ⊢
   cases ho:r9 E f S
   ·rw[ho]at h;cases h
   ·rw[ho]at h
    refine qj h (S::d) fun T hT=>?_
    rcases V8.1 hT with rfl|hT
    ·exact ho
    ·exact hd T hT
theorem kT {E:Env}{f:FuncId}:∀ {n:Nat} {w w':List SM},pF E f n w=some w'->∀ {m:Nat} {r:List SM},pF E f m w'=some r->pF E f (n+m) w=some r
 | 0,w,w',h,m,r,k=>by cases h;rw[W8];exact k
 | n+1,[],w',h,m,r,k=>by
  cases h
  have e:∀ m,pF E f m []=some []:=by intro m;cases m<;>rfl
  rw[e]at k ⊢;exact k
 | n+1,S::w,w',h,m,r,k=>by
  rw[Nat.add_right_comm]
  unfold pF at h ⊢
  cases hs:S.over
  ·rw[hs]at h
   simp only[W5]at h ⊢
   split at h
   ·cases h
   ·rename_i l hl
    exact kT h k
  ·rw[hs]at h
   simp only[WE]at h ⊢
   cases ho:r9 E f S
   ·rw[ho]at h;cases h
   ·rw[ho]at h
    exact kT h k
theorem tG {E:Env}{f:FuncId}:∀ {Ls:List SM},(∀ S∈Ls,r9 E f S=true)->verdict E f Ls
 | [],_=>trivial
 | S::r,h=>by
  refine⟨?_,tG fun T hT=>h T (Wc _ hT)⟩
  have:=h S Wj
  unfold r9 at this
  split at this
  ·rename_i s' he
   try rw[he]
   show ah s'.Y9
   rw[XE.1 this];trivial
  ·cases this
theorem rj {E:Env}{f:FuncId}{args:List SV}{s0:SH}{S0:SM}{n:Nat}(h0:a6 E f args s0=some S0)(h:pF E f n [S0]=some []):sg E f (Dv E f args s0 n):=by
 obtain⟨d,hk,hd⟩:=qj h [] fun _ h=>by cases h
 rw[Jl h0 hk];exact tG hd
def nX (E:Env)(f:FuncId)(n:Nat)(S:SM)(b:Bool):Bool:=match po E SM.over n (S.with []) with
 | some T=>match ph E f T with
  | some (.v (.bool x),s')=>x==b&&s'.Y9.isEmpty
  | _=>false
 | none=>false
theorem af.nX {E:Env}{ν:aP}{M:Own}{w0:World}{cs0:List Frame}{f:FuncId}{R:Ending->World->Prop}(K:aK E M w0){n:Nat}{S:SM}{b:Bool}(h:Go.Rx.nX E f n S b=true)
  (hR:∀ ν' M1 w1 s' w',ν.Le ν'->dh M w0 M1 w1->HR ν' M1 w1 s' w'->R (.returned (.bool b)) w'):af E M w0 cs0 f R ν S:=by
 unfold Go.Rx.nX at h;split at h
 ·rename_i T hT;split at h
  ·rename_i x s' YI;rw[V6]at h;obtain rfl:x=b:=by simpa using h.1
   have ob:s'.ob:=by
    show ah s'.Y9;rw[XE.1 h.2];trivial
   refine af.go K hT (fV YI ob) (af.done YI ob fun ν' M1 w1 w' u hle hB hv hr hg=>?_);rw[VR.ae.1 hv];exact hR ν' M1 w1 s' w' hle hB hr
  ·cases h
 ·cases h
def fl:List SV->Option (List ByteArray)
 | []=>some []
 | .v (.string b)::r=>(fl r).map (b::·)
 | _=>none
theorem v7 {ν:aP}:∀ {l:List SV} {b:List ByteArray} {ys:List Value},fl l=some b->au ν l ys->ys=b.map Value.string
 | [],_,_,h,hv=>by cases h;exact hv.ay
 | x::r,_,_,h,hv=>by
  obtain⟨y,ys,rfl,hy,ZQ⟩:=hv.cons_inv
  unfold fl at h
  split at h
  ·rename_i e;cases e
  ·rename_i b r' e
   cases e
   obtain⟨l,hl,rfl⟩:=Wg.1 h
   rw[VR.ae.1 hy,v7 hl ZQ];rfl
  ·cases h
def cO (l:List ByteArray)(sep:ByteArray):ByteArray:=⟨(Lib.join (l.map (·.data.toList)) sep.data.toList).toArray⟩
def kL:List SV->SH->Option (SV × SH):=fun args s=>
 match args with
 | [.sl i off len (some cap),.v (.string sep)]=>
  match s.look i with
  | some (.row xs _ _ _,_)=>
   match fl ((xs.drop off).take len) with
   | some l=>bif Nat.beq l.length len&&Nat.ble len cap&&Nat.ble len 1000000 then some (.v (.string (cO l sep)),s.jh ((cO l sep).size<=140737488355328)) else none
   | none=>none
  | _=>none
 | _=>none
def wq (P:Program)(J:FuncId):Prop:=
 (∃ fn, P.funcs[J]? = some fn /\ fn.body.isSome = true /\ (fn.name == "runtime.NumGoroutine") = false) /\
 ∀ (bk o c:Nat) (xs:List ByteArray) (sep:ByteArray) (w:World),(∀ (j:Nat) x,xs[j]?=some x->w.cell? ⟨bk,o+j,none⟩=some (.string x))->bk<w.heap.size->xs.length<=140737488355328->xs.length<=c->
  (cO xs sep).size<=140737488355328->Calls P J #[.slice (some ⟨bk,o,none⟩) xs.length c,.string sep] w fun e w'=>e=.returned (.string (cO xs sep))/\Below w.heap.size w w'
section
variable {E:Env}{ν:aP}{M:Own}{w0 w:World}{s s':SH}
theorem xK {args:List SV}{x:SV}(h:kL args s=some (x,s')):∃ p,s'=s.jh p:=by
 unfold kL at h;split at h
 ·split at h
  ·split at h
   ·rename_i l _;generalize hc:(Nat.beq l.length _&&Nat.ble _ _&&Nat.ble _ 1000000)=c at h;cases c
    ·cases h
    ·cases h;exact⟨_,rfl⟩
   ·cases h
  ·cases h
 ·cases h
theorem BA {f:FuncId}(J:wq E.P f){args:List SV}{x:SV}(h:kL args s=some (x,s')):s'.ob->s.ob/\∀ ν w a,HR ν M w0 s w->GR ν E->au ν args a->
  (callFunc f a.toArray).run E.P w=.ok (.enter f a.toArray) w/\Calls E.P f a.toArray w fun e w'=>Below w.heap.size w w'/\∃ y,e=.returned y/\tq ν s w s' w' x y:=by
 obtain⟨p,hp⟩:=xK h;refine fun ob=>⟨by rw[hp]at ob;exact ob.1,fun ν w a hr hg ha=>?_⟩;obtain⟨⟨fn,hf,hb,hn⟩,hj⟩:=J;unfold kL at h;split at h
 ·rename_i i off len cap sep;split at h
  ·rename_i xs el fz ext mk hl;split at h
   ·rename_i l hs;cases hc:(Nat.beq l.length len&&Nat.ble len cap&&Nat.ble len 1000000)
    ·rw[hc]at h;cases h
    rw[hc]at h;simp only[WE]at h;cases h;rw[V6,V6]at hc;obtain⟨⟨c1,c2⟩,c3⟩:=hc;have c1:=WM c1;have c2:=Wu c2;have c3:=Wu c3;obtain⟨y1,ys,rfl,h1,ha⟩:=ha.cons_inv;obtain⟨y2,ys,rfl,h2,ha⟩:=ha.cons_inv;obtain rfl:=ha.ay;obtain rfl:=VR.ae.1 h2;obtain⟨b,Zs,_,rfl⟩:=VR.aL.1 h1;obtain⟨_,_,b',o,YW,ho,YA,_⟩:=hr.look hl;rw[Zs]at YW;cases YW;obtain⟨zs,rest,rfl,hz,_⟩:=YA;have hzs:=v7 hs ((hz.drop off).take len);have YD:=(VY.1 ho).1;subst c1;refine⟨gM hf (by intro e;rw[e]at hb;cases hb) (by intro e;rw[e]at hn;simp at hn),?_⟩;refine (hj b.1 off cap l sep w (fun j x hx=>?_) YD (by omega) c2 ob.2).mono fun e w' ⟨he,hB⟩=>⟨hB,_,he,.same (SH.cn _ _) (VR.ae.2 rfl)⟩;rw[cV ho];have hj1:=(WB.1 hx).1;have:((zs.drop off).take l.length)[j]?=some (.string x):=by rw[hzs,Wv,hx];rfl
    rw[WN,if_pos hj1,W7]at this;have hlen:=(WB.1 this).1;simp[WD hlen,this]
   ·cases h
  ·cases h
 ·cases h
end
abbrev Sum:=List SV->SH->Option (SV × SH)
def bh (P:Program)(X:World->Prop)(r:FuncId × Sum):Prop:=
 (∃ fn, P.funcs[r.1]? = some fn /\ fn.body.isSome = true /\ (fn.name == "runtime.NumGoroutine") = false) /\
 ∀ args x s s',r.2 args s=some (x,s')->s'.ob->s.ob/\∀ ν M w0 w a,HR ν M w0 s w->X w->au ν args a->
  Calls P r.1 a.toArray w fun e w'=>Below w.heap.size w w'/\∃ y,e=.returned y/\tq ν s w s' w' x y
def A6 (P:Program)(X:World->Prop)(r:FuncId × Sum):Prop:=
 (∃ fn, P.funcs[r.1]? = some fn /\ fn.body.isSome = true /\ (fn.name == "runtime.NumGoroutine") = false) /\
 ∀ args x s s',r.2 args s=some (x,s')->s'.ob->s.ob/\∀ ν M w0 w a,HR ν M w0 s w->X w->au ν args a->
  Calls P r.1 a.toArray w fun e w'=>∃ y,e=.returned y/\rW ν s w s' w' x y
theorem bh.t {P:Program}{X:World->Prop}{r:FuncId × Sum}(h:bh P X r):A6 P X r:=
 ⟨h.1,fun args x s s' hx ob=>⟨(h.2 args x s s' hx ob).1,fun ν M w0 w a hr hX ha=>((h.2 args x s s' hx ob).2 ν M w0 w a hr hX ha).mono fun e w' ⟨hB,y,he,n⟩=>⟨y,he,.old hB n⟩⟩⟩
theorem dy.Ky {E:Env}{M:Own}{w0:World}{X:World->Prop}{l:List (FuncId × Sum)}(hE:E.YT=fun f=>l.lookup f)(h:∀ r∈l,A6 E.P X r)(hX:∀ ν s w,HR ν M w0 s w->GR ν E->X w):dy E M w0:=by
 intro f g hg args x s s' hx ob;rw[hE]at hg;obtain⟨⟨fn,hf,hb,hn⟩,hc⟩:=h _ (q7 hg);obtain⟨ZU,hc⟩:=hc args x s s' hx ob;exact⟨ZU,fun ν w a hr χ ha=>⟨gM hf (by intro e;rw[e]at hb;cases hb) (by intro e;rw[e]at hn;simp at hn),hc ν M w0 w a hr (hX ν s w hr χ) ha⟩⟩
theorem dy.list {E:Env}{M:Own}{w0:World}{X:World->Prop}{l:List (FuncId × Sum)}(hE:E.YT=fun f=>l.lookup f)(h:∀ r∈l,bh E.P X r)(hX:∀ ν s w,HR ν M w0 s w->GR ν E->X w):dy E M w0:=
 dy.Ky hE (fun r hr=>(h r hr).t) hX
theorem bh.pure {P:Program}{X:World->Prop}{r:FuncId × PS}(h:bX P X r):bh P X (r.1,cq r.2):=by
 obtain⟨hf,hc⟩:=h;refine⟨hf,fun args x s s' hx ob=>?_⟩;dsimp only at hx;unfold cq at hx;split at hx
 ·rename_i vs hvs;split at hx
  ·rename_i v p hp;cases hx;refine⟨ob.1,fun ν M w0 w a hr hXw ha=>?_⟩;obtain rfl:=hQ hvs ha;exact (hc a v p hp ob.2 w hXw).mono fun e w' ⟨YP,he⟩=>⟨YP,v,he,.same (SH.cn _ _) (VR.ae.2 rfl)⟩
  ·cases hx
 ·cases hx
theorem bh.join {P:Program}{X:World->Prop}{J:FuncId}(h:wq P J):bh P X (J,kL):=by
 refine⟨h.1,fun args x s s' hx ob=>?_⟩;let E:Env:={ P,ext:=fun _=>none,G:=[],orc:=fun _=>none,YT:=fun _=>none,qs:=fun _=>none };have hE:wq E.P J:=h;have hs:=fun (M:Own) (w0:World)=>BA (E:=E) (M:=M) (w0:=w0) hE hx ob;refine⟨(hs (Own.Dz fun _=>False) default).1,fun ν M w0 w a hr _ ha=>?_⟩;exact ((hs M w0).2 ν w a hr (fun g i hgi=>by cases hgi) ha).2
def dn:SM:={ top:={ fn:=0,tm:=e9 0 0 [],todo:=[],defers:=[],ret:=false,kind:=.normal,ro:=none },callers:=[],mem:=bG 0 0 0 [] }
def a7 (E:Env)(f:FuncId)(args:List SV):SM:=(a6 E f args (bG 6 0 0 [])).getD dn
def ff (l:List Nat)(b:Bool):List (Nat × gR):=l.map fun n=>(n,.b b)
structure mX (l:List Prop):Prop where
 out:ah l
theorem eE {E:Env}{P:Program}(hP:E.P=P)(hG:E.G=[]){f:FuncId}{args:List SV}{a:List Value}{S0:SM}{Q:Value->Prop}(w:World)(ZZ:a6 E f args (bG 6 0 0 [])=some S0)(ha:au (aA []) args a)
  (hs:∀ cs0,af E (aD [] []) w cs0 f (fun e w'=>Below w.heap.size w w'/\∃ v,e=.returned v/\Q v) (aA []) S0):Calls P f a.toArray w fun e w'=>Below w.heap.size w w'/\∃ v,e=.returned v/\Q v:=
 ng (E:=E) hP (d:=6) (l:=[]) (os:=[]) rfl (by simp) (by simp) (fun i o b c h=>by simp at h) hG ZZ ha hs
theorem aE (b:Nat):¬ (aD [] []) b:=by rintro ⟨i,o,c,h,_⟩;simp at h
theorem bW {E:Env}{P:Program}(hP:E.P=P)(hG:E.G=[]){f:FuncId}{args:List SV}{a:List Value}{n:Nat}{o:List (Nat × gR)}{v:Value}{w:World}(K:aK E (aD [] []) w)
  (ZZ:a6 E f args (bG 6 0 0 [])=some (a7 E f args)) (ha:au (aA []) args a) (h:mX (ao E f n (a7 E f args) o v)):Calls P f a.toArray w fun e w'=>Below w.heap.size w w'/\e=.returned v:=
 (eE (Q:=fun u=>u=v) hP hG w ZZ ha fun cs0=>af.ao K h.out fun ν' M1 w1 s' w' _ hB hr=>⟨aB aE hB hr,_,rfl,rfl⟩).mono fun e w' ⟨h1,u,h2,h3⟩=>⟨h1,by rw[h2,h3]⟩
theorem bX.mk {P : Program}{X : World -> Prop}{f : FuncId}{ps : PS}(hf : ∃ fn, P.funcs[f]? = some fn /\ fn.body.isSome = true /\ (fn.name == "runtime.NumGoroutine") = false)
  (h:∀ args v p,ps args=some (v,p)->p->∀ w,X w->Calls P f args.toArray w fun e w'=>Below w.heap.size w w'/\e=.returned v):bX P X (f,ps):=⟨hf,h⟩
theorem DW {w0 w:World}{g:Nat}{v:Value}(h:w0.cell? ⟨g,0,none⟩=some v)(hk:∀ k,k<w0.heap.size->w.heap[k]?=w0.heap[k]?):w.cell? ⟨g,0,none⟩=some v:=by
 have YD:g<w0.heap.size:=by
  rcases Nat.lt_or_ge g w0.heap.size with h'|h'
  ·exact h'
  ·unfold World.cell? at h;simp only at h;rw[W9 h']at h;cases h
 unfold World.cell? at h ⊢;simp only at h ⊢;rw[hk g YD];exact h
section
variable {E:Env}{ν:aP}{M:Own}{w0 w:World}{s s':SH}{cs0:List Frame}{f:FuncId}{R:Ending->World->Prop}
theorem af.mono {ν':aP}{S:SM}(h:af E M w0 cs0 f R ν S)(k:ν.Le ν'):af E M w0 cs0 f R ν' S:=fun ν1 m M1 w1 hle=>h ν1 m M1 w1 (k.trans hle)
theorem j3.aH {tm:fR}{a:Array Value}(r:j3 ν tm a)(t:Nat):j3 ν (tm.set t .aH) a:=by
 have h:=r.set t (x:=.aH) (y:=a.getD t undef) (by rw[VR];trivial)
 have e:a.setIfInBounds t (a.getD t undef)=a:=by
  apply Array.ext
  ·simp
  ·intro i h1 h2;rw[XW (by simpa using h1)];split
   ·rename_i e;subst e;have:t<a.size:=h2;simp[Array.getD,this]
   ·rfl
 rwa[e]at h
end
open Go.RowKit
theorem ME {P:Program}{W:World}{l:List (String × DataW Unit)}(h:laidMetH P l W){v:String}{k:IntKind}{zs:List Int}(hm:(v,(Lib.tabData k zs:DataW Unit))∈l.filter fun x=>x.2.handleName?.isNone)
  {g:Nat} (hg:P.globalNamed v=some g) {t e:TypeId} (ht:(P.globals[g]?).map (·.type)=some t) {n:Nat} (hu:P.underlying t=some (.array n e)) (he:P.underlying e=some (.int k)) (hc:P.cellsOf e=1) (hct:P.cellsOf t=n):Lib.TabIs P W v k zs:=by
 obtain⟨ps,hl,_,_⟩:=lp h;obtain⟨g',t',cs,fuel,p,h1,h2,h3,hd⟩:=kZ hl hm;rw[hg]at h1;cases h1;rw[ht]at h2;cases h2;have hcs:=Lib.cells_of_tab hu he hc hct hd;unfold Lib.TabIs;rw[h3,<- hcs]
section
variable {H:Type}{enc:TypeId × Value->H}
theorem rZ {a:Assume}{C:Checked}{os:Os}{f:FuncId}{fn:Func}{s:ChangeSpec}{conds:List PathCond}{apart fresh handsOn again:Bool}{X:World->Array Value->Prop}
  (hX:∀ (w w':World) (args:Array Value),w.heap=w'.heap->X w args->X w' args) (own:ownKnob C.prog.godebug=none) (started:os.Started) (noInit:C.prog.inits.idxOf? f=none) (ZA:C.prog.funcs[f]?=some fn)
  (witness:∃ (w:World) (tape:Tape) (i:Input),w.os=os/\(w.forCall tape i).Shaped C.prog/\i.vars=[]/\Input.okWide C.prog (w.forCall tape i) .any w.heap.size f i/\
   ((s.pre enc C.prog fn conds apart (w.forCall tape i).memory i.args/\X (w.forCall tape i).memory i.args)/\sizedMet enc C.prog fn (OpenSpec.ofChange s) apart (w.forCall tape i).memory i.args)/\a.holds C.prog (lone (Frame.enter C.prog f i.args .normal) [] (w.forCall tape i)))
  (K:∀ (W:World) (base:Nat) (args:Array Value) (ds gs:List (DataW H)) (before:List MemPlace),(∀ (j:Nat) t v,fn.params[j]?=some t->args[j]?=some v->Value.okWide C.prog W .any base t v)->
   DataW.Whole enc C.prog fn.params.toList s.vars apart W args.toList ds gs before->conds.all (PathCond.test C.prog ⟨fn.params.toList,ds,s.plain.varTypes C.prog,gs⟩)=true->
   (DataW.weightsEach C.prog (fn.params.toList++s.plain.varTypes C.prog) (ds++gs)).all (·<=reachBytes)=true->X W args->W.ShapedOpen C.prog->
   Calls C.prog f args W fun e W'=>∃ v,e=.returned v/\s.post enc C.prog fn apart fresh handsOn again W args v W'):
  ReturnsInHanded a C os f .any (fun w args=>(s.pre enc C.prog fn conds apart w args/\X w args)/\sizedMet enc C.prog fn (OpenSpec.ofChange s) apart w args) (s.post enc C.prog fn apart fresh handsOn again):=by
 refine returnsInHanded_of_calls own started noInit witness fun w tape i _ hsh _ Zr hpre _=>?_;obtain⟨_,_,_,fn',hfn',_,_,_,_,hval⟩:=Zr;obtain rfl:fn'=fn:=Option.some.inj (hfn'.symm.trans ZA);obtain⟨⟨⟨ds,gs,before,hw,hc⟩,hx⟩,hz⟩:=hpre;refine (K (w.forCall tape i) w.heap.size i.args ds gs before hval (DataW.Whole.of_heap (w':=w.forCall tape i) (by rfl) hw) hc (hz.weights hw) (hX _ _ _ (by rfl) hx) hsh).mono fun e W' ⟨v,he,hp⟩=>?_;subst he;exact ChangeSpec.post_blind hp
end
end Go.Rx
namespace Go.Rx
open Go.RowKit (Below)
section
variable {E:Env}{ν:aP}{M:Own}{w0 w:World}{s s':SH}{cs0:List Frame}{f:FuncId}{R:Ending->World->Prop}
def bY (E:Env)(f:FuncId)(n:Nat)(S:SM)(o:List (Nat × gR))(x:SV)(i:Nat)(so:SO):List Prop:=
 match po E SM.over n (S.with o) with
 | some T=>match ph E f T with
  | some (y,s')=>match s'.look i with
   | some (so',true)=>xS [(i,i)] x y++(KL [(i,i)] true so so'++s'.Y9)
   | _=>[False]
  | none=>[False]
 | none=>[False]
theorem af.bY (K:aK E M w0){n:Nat}{S:SM}{o:List (Nat × gR)}{x:SV}{i:Nat}{so:SO}(h:ah (Go.Rx.bY E f n S o x i so))
  (hR:∀ ν' w' y b ob,VR ν' x y->ν' i=some b->w'.heap[b.1]?=some ob->OR ν' i so ob->(w0.heap.size<=b.1\/M b.1)->(∃ ν1 M1 w1 s',dh M w0 M1 w1/\HR ν1 M1 w1 s' w')->R (.returned y) w'):af E M w0 cs0 f R ν S:=by
 unfold Go.Rx.bY at h;split at h
 ·rename_i T hT;split at h
  ·rename_i y s' YI;split at h
   ·rename_i so' hl;obtain⟨h1,h2⟩:=dX.1 h;obtain⟨h3,h4⟩:=dX.1 h2;refine af.go K hT (fV YI h4) (af.done YI h4 fun ν' M1 w1 w' u hle hB hv hr hg=>?_);obtain⟨_,_,b,ob,hb,ho,YA,hw⟩:=hr.look hl;have hii:(([(i,i)]:List (Nat × Nat)).lookup i==some i)=true:=by simp[List.lookup]
    exact hR (ν'.ren [(i,i)]) w' u b ob (lD h1 hv) (iY hii hb) ho (wJ hii h3 YA) (hB.own _ (hw rfl)) ⟨ν',M1,w1,s',hB,hr⟩
   ·exact aN h
  ·exact aN h
 ·exact aN h
end
theorem aW {E:Env}{w:World}{f:FuncId}{R:Ending->World->Prop}{P:Program}(hP:E.P=P){args:List SV}{a:List Value}{d:Nat}{l:List (Nat × Nat)}{os:List SO}{S0:SM}(hlen:l.length=os.length)(hd:os.length<=2 ^ d)(hn:(l.map (·.1)).Nodup)
  (ho:∀ (i:Nat) (o:SO) (b c:Nat),os[i]?=some o->l[i]?=some (b,c)->∃ r,w.heap[b]?=some r/\OR (aA l) i o r) (hG:E.G=[]) (ZZ:a6 E f args (bG d os.length 0 (os.map fun o=>some (o,false)))=some S0) (ha:au (aA l) args a)
  (hs:∀ cs0,af E (aD l (os.map fun o=>(o,false))) w cs0 f R (aA l) S0):Calls P f a.toArray w R:=by
 subst hP
 have Zz:∀ (i:Nat) (o:SO) (m:Bool) (b c:Nat),(os.map fun o=>(o,false))[i]?=some (o,m)->l[i]?=some (b,c)->∃ r,w.heap[b]?=some r/\OR (aA l) i o r:=by
  intro i o m b c h1 h2;rw[Wv]at h1;obtain⟨o',h3,h4⟩:=Wg.1 h1;cases h4;exact ho i o b c h3 h2
 have hr:=As (d:=d) (w:=w) (by simpa using hlen) (by simpa using hd) hn Zz;rw[WI,WH]at hr;exact iG ZZ hr (dN Zz) (fun _ h=>h) (fun g i h=>by rw[hG]at h;cases h) ha hs
theorem bP {E:Env}{w:World}{f:FuncId}{R:Ending->World->Prop}{P:Program}(hP:E.P=P)(hG:E.G=[]){args:List SV}{a:List Value}{S0:SM}(ZZ:a6 E f args (bG 6 0 0 [])=some S0)(ha:au (aA []) args a)
  (hs:∀ cs0,af E (aD [] []) w cs0 f R (aA []) S0):Calls P f a.toArray w R:=
 aW (E:=E) hP (d:=6) (l:=[]) (os:=[]) rfl (by simp) (by simp) (fun i o b c h=>by simp at h) hG ZZ ha hs
def cF (W w':World)(y:Value)(ys:List Value)(n C:Nat)(elem:TypeId):Prop:=
 ∃ (b c:Nat) (rest:List Value),y=.slice (some ⟨b,0,none⟩) n c/\W.heap.size<=b/\n<=c/\w'.heap[b]?=some (.cells (ys++rest).toArray elem)/\(ys++rest).length=c*C
theorem cF.gb {ν:aP}{W w':World}{i n C:Nat}{xs:List SV}{ys:List Value}{elem:TypeId}{y:Value}{b:Nat × Nat}{ob:Obj}(hv:VR ν (.sl i 0 n none) y)(hb:ν i=some b)(ho:w'.heap[b.1]?=some ob)
  (YA:OR ν i (.row xs elem (0,0) (some C)) ob) (hn:W.heap.size<=b.1) (hu:∀ zs,au ν xs zs->zs=ys):cF W w' y ys n C elem:=by
 obtain⟨b',Yy,hle,rfl⟩:=VR.aL.1 hv;rw[hb]at Yy;cases Yy;obtain⟨zs,rest,rfl,hz,_,b2,YW,YX⟩:=YA;rw[hb]at YW;cases YW;obtain rfl:=hu zs hz;have Zb:n<=b.2:=hle;exact⟨b.1,b.2,rest,rfl,hn,Zb,by simpa using ho,YX⟩
theorem cF.Mp {ν:aP}{W w':World}{i n c C:Nat}{xs:List SV}{ys:List Value}{elem:TypeId}{y:Value}{b:Nat × Nat}{ob:Obj}(hv:VR ν (.sl i 0 n (some c)) y)(hb:ν i=some b)(ho:w'.heap[b.1]?=some ob)
  (YA:OR ν i (.row xs elem (0,0) none) ob) (hn:W.heap.size<=b.1) (hu:∀ zs,au ν xs zs->zs=ys) (hc:ys.length=c*C):cF W w' y ys n C elem:=by
 obtain⟨b',Yy,hle,rfl⟩:=VR.aL.1 hv;rw[hb]at Yy;cases Yy;obtain⟨zs,rest,rfl,hz,YX⟩:=YA;obtain rfl:=hu zs hz
 have h0:rest=[]:=by
  have:(zs++rest).length=xs.length:=YX;have h2:=hz.length;rw[V7]at this;exact Wd.1 (by omega)
 subst h0;exact⟨b.1,c,[],rfl,hn,hle,by simpa using ho,by simpa using hc⟩
abbrev PQ:=List Value->Option (List Value × Nat × Nat × TypeId × Option Value × Prop)
def Hz (ex:Option Value)(x:SV):SV:=match ex with|none=>x|some v=>.tup [x,.v v]
def C0 (ex:Option Value)(y:Value):Value:=match ex with|none=>y|some v=>.tuple #[y,v]
def sK (g:PQ):Sum:=fun args s=>match jN args with
 | some vs=>match g vs with
  | some (ys,n,C,elem,ex,p)=>(eW (.row (ys.map SV.v) elem (0,0) (some C)) (s.jh p)).map fun r=>(Hz ex (.sl r.1 0 n none),r.2)
  | none=>none
 | none=>none
theorem GY {P : Program}{X : World -> Prop}{f : FuncId}{g : PQ}(hf : ∃ fn, P.funcs[f]? = some fn /\ fn.body.isSome = true /\ (fn.name == "runtime.NumGoroutine") = false)
  (h:∀ vs ys n C elem ex p,g vs=some (ys,n,C,elem,ex,p)->p->∀ w,X w->Calls P f vs.toArray w fun e w'=>Below w.heap.size w w'/\∃ y,e=.returned (C0 ex y)/\cF w w' y ys n C elem):bh P X (f,sK g):=by
 refine⟨hf,fun args x s s' hx ob=>?_⟩;dsimp only at hx;unfold sK at hx;split at hx
 ·rename_i vs hvs;split at hx
  ·rename_i ys n C elem ex p hp;obtain⟨⟨i,s1⟩,hn,hx⟩:=Wg.1 hx;cases hx;unfold eW at hn;cases YB:(s.jh p).room
   ·rw[YB]at hn;cases hn
   rw[YB]at hn;simp only[WE]at hn;cases hn;have Z8:(s.jh p).ob:=ob;refine⟨Z8.1,fun ν M w0 w a hr hXw ha=>?_⟩;obtain rfl:=hQ hvs ha;refine (h a ys n C elem ex p hp Z8.2 w hXw).mono fun e w' ⟨hB,y,he,b,c,rest,hy,hb,υ,ho,YX⟩=>?_;have hv:VR (ν.put (s.jh p).nx (b,c)) (.sl (s.jh p).nx 0 n none) y:=VR.aL.2 ⟨(b,c),aP.bO _ _ _,υ,hy⟩;refine⟨hB,_,he,.made (s.jh p) _ b c _ (SH.cn _ _) YB rfl hb ho ⟨ys,rest,by show _=_;simp,au.lits _ _,?_,(b,c),aP.bO _ _ _,YX⟩ ?_⟩
   ·simp
   ·cases ex with
    | none=>exact hv
    | some v=>exact VR.cz.2 ⟨[y,v],rfl,au.cons hv (au.cons (VR.ae.2 rfl) au.nil)⟩
  ·cases hx
 ·cases hx
open Go.RowKit (Below)
abbrev H5:=List SV->SH->Option (List Value × Nat × Nat × TypeId × Option Value × Prop)
def fj (g:H5):Sum:=fun args s=>match g args s with
 | some (ys,n,C,elem,ex,p)=>(eW (.row (ys.map SV.v) elem (0,0) (some C)) (s.jh p)).map fun r=>(Hz ex (.sl r.1 0 n none),r.2)
 | none=>none
theorem gJ {P : Program}{X : World -> Prop}{f : FuncId}{g : H5}(hf : ∃ fn, P.funcs[f]? = some fn /\ fn.body.isSome = true /\ (fn.name == "runtime.NumGoroutine") = false)
  (h:∀ args s ys n C elem ex p,g args s=some (ys,n,C,elem,ex,p)->p->∀ ν M w0 w a,HR ν M w0 s w->X w->au ν args a->Calls P f a.toArray w fun e w'=>Below w.heap.size w w'/\∃ y,e=.returned (C0 ex y)/\cF w w' y ys n C elem):bh P X (f,fj g):=by
 refine⟨hf,fun args x s s' hx ob=>?_⟩;dsimp only at hx;unfold fj at hx;split at hx
 ·rename_i ys n C elem ex p hp;obtain⟨⟨i,s1⟩,hn,hx⟩:=Wg.1 hx;cases hx;unfold eW at hn;cases YB:(s.jh p).room
  ·rw[YB]at hn;cases hn
  rw[YB]at hn;simp only[WE]at hn;cases hn;have Z8:(s.jh p).ob:=ob;refine⟨Z8.1,fun ν M w0 w a hr hXw ha=>?_⟩;refine (h args s ys n C elem ex p hp Z8.2 ν M w0 w a hr hXw ha).mono fun e w' ⟨hB,y,he,b,c,rest,hy,hb,υ,ho,YX⟩=>?_;have hv:VR (ν.put (s.jh p).nx (b,c)) (.sl (s.jh p).nx 0 n none) y:=VR.aL.2 ⟨(b,c),aP.bO _ _ _,υ,hy⟩;refine⟨hB,_,he,.made (s.jh p) _ b c _ (SH.cn _ _) YB rfl hb ho ⟨ys,rest,by show _=_;simp,au.lits _ _,?_,(b,c),aP.bO _ _ _,YX⟩ ?_⟩
  ·simp
  ·cases ex with
   | none=>exact hv
   | some v=>exact VR.cz.2 ⟨[y,v],rfl,au.cons hv (au.cons (VR.ae.2 rfl) au.nil)⟩
 ·cases hx
abbrev yC:=List SV->SH->Option (Value × Prop)
def de (g:yC):Sum:=fun args s=>match g args s with
 | some (v,p)=>some (.v v,s.jh p)
 | none=>none
theorem dO {P : Program}{X : World -> Prop}{f : FuncId}{g : yC}(hf : ∃ fn, P.funcs[f]? = some fn /\ fn.body.isSome = true /\ (fn.name == "runtime.NumGoroutine") = false)
  (h:∀ args s v p,g args s=some (v,p)->p->∀ ν M w0 w a,HR ν M w0 s w->X w->au ν args a->Calls P f a.toArray w fun e w'=>Below w.heap.size w w'/\e=.returned v):bh P X (f,de g):=by
 refine⟨hf,fun args x s s' hx ob=>?_⟩;dsimp only at hx;unfold de at hx;split at hx
 ·rename_i v p hp;cases hx;exact⟨ob.1,fun ν M w0 w a hr hXw ha=>(h args s v p hp ob.2 ν M w0 w a hr hXw ha).mono fun e w' ⟨hB,he⟩=>⟨hB,v,he,.same (SH.cn _ _) (VR.ae.2 rfl)⟩⟩
 ·cases hx
end Go.Rx
