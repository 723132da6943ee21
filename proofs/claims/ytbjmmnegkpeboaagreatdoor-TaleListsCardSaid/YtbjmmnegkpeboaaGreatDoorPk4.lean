/- What the law TaleLists leans on, part 4: the symbolic executor, proved sound, contracts of functions, plain lemmas. By an AI agent. -/
import Derived.Test.YtbjmmnegkpeboaaGreatDoorPk3
import Derived.Shelf.Bytes.SlClone
import Derived.SizedLaws
import Derived.WalkKit
import Derived.Lib.Hide
import Derived.Laws.Cover1
import Derived.Shelf.SlSortCmp.NoneTotal
import Derived.Shelf.SlIter.Collect
import Derived.Shelf.SlIter.Nil
import Derived.Shelf.Bytes.SlEqualAll
import Derived.Shelf.Slices.CompactS
import Derived.Shelf.Strings.LastIndex
import Derived.Shelf.Strings.Prefix
set_option linter.unusedSimpArgs false
set_option linter.unusedVariables false
set_option maxRecDepth 100000
noncomputable section
namespace Go.Proofs.YtbjmmnegkpeboaaGreatDoor
open Go Go.Rx Go.RowKit Go.Proofs
namespace paths
structure gS (xs:List ak) (x:ak):Prop where
 p:x.p.size<=1000000000
 v:0<=x.v/\x.v<18446744073709551616
 names:(xs.map fun e=>e.p).Nodup
 size:∀ e∈xs,e.p.size<=1000000000
theorem gw {p:ByteArray} {e:ak}:pH p e=true↔e.p=p:=by
 unfold pH;rw [Xp];constructor
 ·intro h;cases h1:e.p;cases p;rw [h1] at h;congr 1;exact Array.toList_inj.1 h
 ·intro h;rw [h]
theorem HD {m:List ak} {e:ak} (hn:(m.map fun e=>e.p).Nodup) (h2:2<=m.length):bg e.p m≠[]:=by
 intro h
 have Y0:∀ x∈m,x.p=e.p:=fun x hx=>by
  cases hq:pH e.p x
  ·have:x∈bg e.p m:=Wo.2 ⟨hx,by rw [hq];rfl⟩;rw [h] at this;cases this
  ·exact gw.1 hq
 match m,h2,hn,Y0 with
 | a::b::m,_,hn,Y0=>
  have h1:=Y0 a (by simp);have h3:=Y0 b (by simp);simp [h1,h3] at hn
theorem FX {w0:World} {cs0:List Frame} {xs:List ak} {x:ak} {b:Nat × Nat} {s:Int} (hI:gS xs x) (YI:xs≠[]) (hl:xs.length<=1000):
  af zO (aD [b] [(.row (cE xs) 50 (0,0) (some 4),false)]) w0 cs0 20 (RP w0 s (.slice (some ⟨b.1,0,none⟩) xs.length b.2) (aX xs x)) (aA [b]) (qp (cE xs) xs.length s x):=by
 have hx1:=hI.p;have hx2:=hI.v.1;have hx3:=hI.v.2;have hh:=xS xs hl;have he:ar (cE xs) xs.length=xs:=eR xs;by_cases hc:cF x.p x.v x.k x.l=0
 ·have c1:(!cF x.1 x.2 x.3 x.5==(0:Int))=false:=by rw [show cF x.1 x.2 x.3 x.5=0 from hc];rfl
  by_cases hv:(fx x.p xs).v≥x.v
  ·have c2:decide ((fx x.p xs).2≥x.2)=true:=V0 hv;have hr:aX xs x=(xs,31):=by unfold aX;rw [if_neg (by simpa using hc),if_pos hv]
   rw [hr];refine tA Ff pX (n:=300) (o:=(VP++ff [1] false++ff (List.range 30) true)) ⟨?_⟩ fun w' hB=>⟨hB,.inl ⟨(by decide:(31:Int)≠0),rfl⟩⟩;rw [Uy,he];simp only [ah,c1,c2,VV,VX,VW];exact ⟨⟨hx1,hx2,hx3⟩,hh⟩
  ·have c2:decide ((fx x.p xs).2≥x.2)=false:=V2 hv;have hdl:=pN x.p xs;by_cases hm:(bg x.p xs).length≥256
   ·have c3:decide (((bg x.1 xs).length:Int)≥(256:Int))=true:=V0 (by exact_mod_cast hm);have hmn:((bg x.p xs).map fun e=>e.p).Nodup:=hI.names.sublist (List.Sublist.map _ Yf)
    have hr:aX xs x=match ja (bg x.p xs) with
      | none=>(xs,24)
      | some b=>(eK x (bg b.p (bg x.p xs)),0):=by unfold aX;rw [if_neg (by simpa using hc),if_neg hv,if_pos hm] <;> rfl
    have nx:=tL (w0:=w0) (cs0:=cs0) (b:=b) (s:=s) (x:=x) (xs:=xs) (m:=bg x.p xs) hl (by omega) hx1 (fun e he=>hI.size e (Wo.1 he).1) (by omega) (fun e he=>HD hmn (by omega)) (fun h=>by rw [hr,h]) (fun e h=>by rw [hr,h]) (bg x.p xs).length 0 (-1) (by omega) (.inl ⟨rfl,rfl⟩);refine af.reach Ff (k:=3) (n:=300) (o:=(VP++ff [1,3] false++ff [4,5] true)) (ren:=[(0,0),(1,1),(2,2),(3,3),(4,5)]) (eqs:=[0,4]) (F:=ql (bg x.p xs).length (-1) 0) (d:=6) (l:=j4 (cE xs) (cE (bg x.p xs)) xs.length s x) ?_ (by kernel_rfl) (fun i b h=>by rw [dj h];rfl) nx;rw [Vx,he,eN];simp only [ah,c1,c2,c3,aM,VV,VX,VW];repeat' apply And.intro
    all_goals first | assumption | rfl | (intro h0;rw [h0] at hm;simp at hm;done) | skip
   ·have c3:decide (((bg x.1 xs).length:Int)≥(256:Int))=false:=V2 (by intro h;exact hm (by exact_mod_cast h));have hr:aX xs x=(eK x (bg x.p xs),0):=by unfold aX;rw [if_neg (by simpa using hc),if_neg hv,if_neg hm]
    rw [hr];by_cases hd:bg x.p xs=[]
    ·rw [hd];refine oJ (j:=5) (l:=eK x []) (m:=1) Ff pX (n:=300) (o:=(VP++ff [1,3,4,5] false)) ⟨?_⟩ fun w' y hB hy=>⟨hB,.inr ⟨rfl,y,rfl,hy⟩⟩;rw [Vl,he];simp only [ah,c1,c2,na,eN,aM,VV,VX,VW];repeat' apply And.intro
     all_goals first | assumption | rfl | exact WB s | (intro e h;cases h;done) | skip
    ·refine oJ (j:=6) (l:=eK x (bg x.p xs)) (m:=(bg x.p xs).length+1) Ff pX (n:=300) (o:=(VP++ff [1,3] false++ff [4] true++ff [5] false)) ⟨?_⟩ fun w' y hB hy=>⟨hB,.inr ⟨rfl,y,rfl,by rw [ki];exact hy⟩⟩;rw [Rl,he,Cg,eN];simp only [ah,c1,c2,c3,na,eN,aM,VV,VX,VW];repeat' apply And.intro
     all_goals first | assumption | rfl | exact WB s | exact xS _ (by omega) | exact fun z hz=>hI.size z (Wo.1 hz).1 | skip
 ·have c1:(!cF x.1 x.2 x.3 x.5==(0:Int))=true:=by simpa using hc
  have hr:aX xs x=(xs,cF x.p x.v x.k x.l):=by unfold aX;rw [if_pos hc]
  rw [hr];refine tA Ff pX (n:=300) (o:=(VP++ff (List.range 3) true)) ⟨?_⟩ fun w' hB=>⟨hB,.inl ⟨hc,rfl⟩⟩;rw [U9];simp only [ah,c1,VV,VX,VW];exact ⟨hx1,hx2,hx3⟩
theorem Fa {E:Env} {M:Own} {w0:World} {cs0:List Frame} {f:FuncId} {R:Ending->World->Prop} {ν:aP} {n:Nat} {S:SM} {o:List (Nat × gM)} {v:Value} (K:aK E M w0) (hM:∀ z,¬ M z)
  (h:mY (ey E f n S o [] (.v v))) (hR:∀ w',Below w0.heap.size w0 w'->R (.returned v) w'):af E M w0 cs0 f R ν S:=
 af.ey K hM h.out fun ν' w' y hle hv hB=>by rw [VR.ae.1 hv];exact hR w' hB
theorem Ew {w0:World} {cs0:List Frame} {x:ak} {s:Int} (hI:gS [] x):af MU (aD [] []) w0 cs0 20 (RP w0 s (.slice none 0 0) (aX [] x)) (aA []) (C8 s x):=by
 have hx1:=hI.p;have hx2:=hI.v.1;have hx3:=hI.v.2;by_cases hc:cF x.p x.v x.k x.l=0
 ·have c1:(!cF x.1 x.2 x.3 x.5==(0:Int))=false:=by rw [show cF x.1 x.2 x.3 x.5=0 from hc];rfl
  have hv:¬ (0:Int)≥x.v:=by
   intro h;have h0:x.v=0:=by omega
   rw [h0] at hc;unfold cF at hc;revert hc;cases fK x.p <;> simp [gX]
  have c2:decide ((0:Int)≥x.2)=false:=V2 hv
  have hr:aX [] x=(eK x [],0):=by
   unfold aX;rw [if_neg (by simpa using hc),if_neg (by exact hv),if_neg (by simp [bg])];rfl
  rw [hr];refine oJ (j:=6) (l:=eK x []) (m:=1) QQ aE (n:=300) (o:=(VP++ff (List.range 30) false)) ⟨?_⟩ fun w' y hB hy=>⟨hB,.inr ⟨rfl,y,rfl,hy⟩⟩;rw [SA];simp only [ah,c1,c2,na,eN,aM,VV,VX,VW];repeat' apply And.intro
  all_goals first | assumption | rfl | exact WB s | (intro e h;cases h;done) | skip
 ·have c1:(!cF x.1 x.2 x.3 x.5==(0:Int))=true:=by simpa using hc
  have hr:aX [] x=([],cF x.p x.v x.k x.l):=by unfold aX;rw [if_pos hc]
  rw [hr];refine Fa (v:=bV s (.slice none 0 0) (cF x.p x.v x.k x.l)) QQ aE (n:=300) (o:=(VP++ff [1] true)) ⟨?_⟩ fun w' hB=>⟨hB,.inl ⟨hc,rfl⟩⟩;unfold bV;rw [Ts];simp only [ah,c1,VV,VX,VW];exact ⟨hx1,hx2,hx3⟩
def xH (B:SV) (sh:SH):Option (Int × List ak × Prop):=match tQ B with
 | some [.v (.int .u64 s),A]=>(xw A sh).map fun r=>(s,r.1,r.2)
 | _=>none
def Co:MW:=fun args sh=>match args with
 | [B,X]=>match yQ X,xH B sh with
  | some x,some (s,xs,p)=>some (vE (aX xs x).1,(aX xs x).1.length,4,50,fun a=>.tup [.agg [.v (.int .u64 s),a],.v (.int .i64 0)],fun y=>bV s y 0,p/\gS xs x/\(aX xs x).2=0)
  | _,_=>none
 | _=>none
def FM (args:List SV) (sh:SH):Option (SV × Prop):=match args with
 | [B,X]=>match yQ X,xH B sh with
  | some x,some (s,xs,p)=>some (.tup [B,.v (.int .i64 (aX xs x).2)],p/\gS xs x/\(aX xs x).2≠0)
  | _,_=>none
 | _=>none
theorem qZ {ν ν':aP} {i j:Nat} {ys:List SV} {e:TypeId} {fz:Nat × Nat} {C:Nat} {ob:Obj} {b:Nat × Nat} (hy:ys.all ab=true) (hi:ν i=some b) (hj:ν' j=some b) (h:OR ν i (.row ys e fz (some C)) ob):OR ν' j (.row ys e fz (some C)) ob:=by
 obtain ⟨zs,rest,rfl,hz,r,b',YM,Zb⟩:=h;rw [hi] at YM;cases YM;exact ⟨zs,rest,rfl,js hy hz,r,b,hj,Zb⟩
theorem uU {ν:aP} {M:Own} {w0 w:World} {sh:SH} (hr:HR ν M w0 sh w) {B X:SV} {s:Int} {xs:List ak} {x:ak} {p:Prop} (hx:yQ X=some x) (hb:xH B sh=some (s,xs,p)) (hp:p) (hI:gS xs x) {a:List Value} (ha:au ν [B,X] a):
  ∃ y0,VR ν B (.agg #[.int .u64 s,y0])/\Calls Tryz.prog 20 a.toArray w (RP w s y0 (aX xs x)):=by
 unfold xH at hb;split at hb
 ·rename_i s' A hA;obtain ⟨⟨xs',q⟩,hl,h⟩:=Wg.1 hb;cases h;obtain ⟨y1,ZY,rfl,q1,YV⟩:=ha.cons_inv;obtain ⟨y2,as2,rfl,q2,ZL⟩:=YV.cons_inv;obtain rfl:=ZL.ay;obtain rfl:=rN hx q2
  have hB:∃ y0,y1=.agg #[.int .u64 s,y0]/\VR ν A y0:=by
   unfold tQ at hA;split at hA
   ·rename_i mm;cases hA;obtain ⟨u,rfl,hu⟩:=VR.bx.1 q1;obtain ⟨z1,u2,rfl,r1,hu2⟩:=hu.cons_inv;obtain ⟨z2,u3,rfl,r2,hu3⟩:=hu2.cons_inv;obtain rfl:=hu3.ay;obtain rfl:=VR.ae.1 r1;exact ⟨z2,rfl,r2⟩
   ·rename_i cs;obtain rfl:=VR.ae.1 q1;have hA:=Option.some.inj hA;match cs,hA with
    | ⟨[c1,c2]⟩,hA=>
     simp at hA;obtain ⟨h1,h2⟩:=hA;subst h1 h2;exact ⟨c2,rfl,VR.ae.2 rfl⟩
    | ⟨[]⟩,hA=>simp at hA
    | ⟨[_]⟩,hA=>simp at hA
    | ⟨_::_::_::_⟩,hA=>simp at hA
   ·cases hA
  obtain ⟨y0,rfl,Γ⟩:=hB;refine ⟨y0,q1,?_⟩;rcases vd hl hp with ⟨rfl,rfl⟩ | ⟨YI,ZV,i,mk,rfl,hlk⟩
  ·obtain rfl:=VR.ae.1 Γ;exact bP (E:=MU) rfl rfl (args:=[.v (.agg #[.int .u64 s,.slice none 0 0]),.v (.agg #[.string x.p,.int .u64 x.v,.int .i64 x.k,.slice x.a x.l x.c])]) (S0:=C8 s x) (by kernel_rfl) (au.cons (VR.ae.2 rfl) (au.cons (VR.ae.2 rfl) au.nil)) fun cs0=>Ew hI
  ·obtain ⟨bb,Zd,hle,rfl⟩:=VR.aL.1 Γ;obtain ⟨_,_,b,ob,hb,ho,YO,_⟩:=hr.look hlk;rw [Zd] at hb;cases hb;have Zp:xs'.length<=bb.2:=hle;refine aZ (E:=zO) rfl (d:=6) (l:=[bb]) (os:=[.row (cE xs') 50 (0,0) (some 4)]) rfl (by simp) (by simp) ?_ rfl (args:=[.agg [.v (.int .u64 s),.sl 0 0 xs'.length none],.v (.agg #[.string x.p,.int .u64 x.v,.int .i64 x.k,.slice x.a x.l x.c])]) (S0:=qp (cE xs') xs'.length s x) (by kernel_rfl) (au.cons (VR.bx.2 ⟨_,rfl,au.cons (VR.ae.2 rfl) (au.cons (VR.aL.2 ⟨bb,rfl,Zp,rfl⟩) au.nil)⟩) (au.cons (VR.ae.2 rfl) au.nil)) fun cs0=>FX hI YI ZV;intro j o' b' c' h1 h2;match j with
   | 0=>
    simp only [Wa,Option.some.injEq] at h1 h2;subst h1;subst h2;exact ⟨_,ho,qZ (aM xs') Zd rfl YO⟩
   | j+1=>simp at h1
 ·cases hb
theorem Ji {X:World->Prop}:bh Tryz.prog X (20,gq (jX Co) (ln FM)):=by
 refine bh.br (mu ⟨_,Tryz.func20,by kernel_rfl,by kernel_rfl⟩ (fun args sh ys n C elem mk mv p h ν x y hv=>?_) fun args sh ys n C elem mk mv p h hp ν M w0 w a hr hX ha=>?_) (lM ⟨_,Tryz.func20,by kernel_rfl,by kernel_rfl⟩ fun args sh v p h hp ν M w0 w a hr hX ha=>?_)
 ·dsimp only [Co] at h;split at h
  ·split at h
   ·cases h;exact VR.cz.2 ⟨_,rfl,au.cons (VR.bx.2 ⟨_,rfl,au.cons (VR.ae.2 rfl) (au.cons hv au.nil)⟩) (au.cons (VR.ae.2 rfl) au.nil)⟩
   ·cases h
  ·cases h
 ·dsimp only [Co] at h;split at h
  ·split at h
   ·rename_i x s xs q hx hb;cases h;obtain ⟨y0,_,hc⟩:=uU hr hx hb hp.1 hp.2.1 ha;refine hc.mono fun e w' ⟨hB,h⟩=>⟨hB,?_⟩;rcases h with ⟨h1,_⟩ | ⟨_,y,h2,h3⟩
    ·exact absurd hp.2.2 h1
    ·exact ⟨y,h2,h3⟩
   ·cases h
  ·cases h
 ·dsimp only [FM] at h;split at h
  ·split at h
   ·rename_i x s xs q hx hb;cases h;obtain ⟨y0,hv,hc⟩:=uU hr hx hb hp.1 hp.2.1 ha;refine hc.mono fun e w' ⟨hB,h⟩=>⟨hB,?_⟩;rcases h with ⟨_,h2⟩ | ⟨h1,_⟩
    ·exact ⟨_,h2,VR.cz.2 ⟨_,rfl,au.cons hv (au.cons (VR.ae.2 rfl) au.nil)⟩⟩
    ·exact absurd h1 hp.2.2
   ·cases h
  ·cases h
def AN:Go.Shelf.Ren:=⟨fun | 4=>86 | n=>n,fun | 22=>44 | 4=>4 | 5=>5 | n=>n,fun | n=>n⟩
theorem Fq:Go.Proofs.SlLaysK.n4 Tryz.prog AN where
 mixed:=by kernel_rfl
 f4:=Tryz.func86.trans (congrArg some (by kernel_rfl))
 t4:=Tryz.underlying4
 a4:=Tryz.isAgg4
 z4:=Tryz.sizeOf4
 v4:=Tryz.zeroValue4
 t22:=Tryz.underlying44
 a22:=Tryz.isAgg44
 z22:=Tryz.sizeOf44
 v22:=Tryz.zeroValue44
 t5:=Tryz.underlying5
 i5:=by kernel_rfl

def LD (a0:Option Addr) (l0 c0:Nat) (ys:List Int):H8:=fun args _=>match args with
 | [.v (.slice a l c)]=>some (ys.map (Value.int .u8),l,1,5,none,(a=a0/\l=l0/\c=c0)/\a≠none)
 | _=>none
def Ld:zF:=fun args _=>match args with
 | [.v (.slice a l c)]=>some (.slice none 0 0,a=none)
 | _=>none
def KZ (a0:Option Addr) (l0 c0:Nat) (ys:List Int):List (FuncId × Sum):=[(86,gq (fl (LD a0 l0 c0 ys)) (de Ld))]
def kP (a0:Option Addr) (l0 c0:Nat) (ys:List Int):Env:={ EP [] [] with Y7:=fun f=>(KZ a0 l0 c0 ys).lookup f }
def BX (x:ak) (ys:List Int):SM:=(a6 (kP x.a x.l x.c ys) 62 [.v (.agg #[.string x.p,.int .u64 x.v,.int .i64 x.k,.slice x.a x.l x.c])] (bG 6 0 0 [])).getD dn
theorem RO (x:ak) (ys:List Int):ey (kP x.a x.l x.c ys) 62 300 (BX x ys) (VP++ff (List.range 10) false) [] (.v (.agg #[.string x.p,.int .u64 x.v,.int .i64 x.k,.slice none 0 0]))=[Value.agg { toList:=[VS x.1,V1 IntKind.u64 x.2,vZ x.3,VT none 0 0]:Array Value }=Value.agg { toList:=[VS x.1,V1 IntKind.u64 x.2,vZ x.3,VT none 0 0]:Array Value },(x.3==x.3)=true,x.4=none]:=by kernel_rfl
theorem z6 (x:ak) (ys:List Int) (m:List SV):bY (kP x.a x.l x.c ys) 62 300 (BX x ys) (VP++ff (List.range 10) true) (.agg [.v (.string x.p),.v (.int .u64 x.v),.v (.int .i64 x.k),.sl 4 0 x.l none]) 4 (.row m 5 (0,0) (some 1))=[VS x.1=VS x.1,V1 IntKind.u64 x.2=V1 IntKind.u64 x.2,vZ x.3=vZ x.3,0=0/\x.5=x.5/\nZ=none,List.map SV.v (List.map (V1 IntKind.u8) ys)=m,m.all ab=true,(x.3==x.3)=true,(x.4=x.4/\x.5=x.5/\x.6=x.6)/\x.4≠none]:=by kernel_rfl
def eZ (W:World) (a:Option Addr) (l:Nat) (ys:List Int):Prop:=ys.length=l/\l<=140737488355328/\∀ b,a=some b->∀ i,i<l->∀ W':World,(∀ k,k<W.heap.size->W'.heap[k]?=W.heap[k]?)->W'.cell? (b.add i)=some (.int .u8 (ys.getD i 0))
theorem Eb {W:World} {a0:Option Addr} {l0 c0:Nat} {ys:List Int} (hD:eZ W a0 l0 ys):
  bh Tryz.prog (fun w=>∀ k,k<W.heap.size->w.heap[k]?=W.heap[k]?) (86,gq (fl (LD a0 l0 c0 ys)) (de Ld)):=by
 refine bh.br (gK ⟨_,Tryz.func86,by kernel_rfl,by kernel_rfl⟩ fun args sh zs n C elem ex p h hp ν M w0 w a hr hX ha=>?_) (dR ⟨_,Tryz.func86,by kernel_rfl,by kernel_rfl⟩ fun args sh v p h hp ν M w0 w a hr hX ha=>?_)
 ·dsimp only [LD] at h;split at h
  ·rename_i a1 l1 c1;cases h;obtain ⟨⟨rfl,rfl,rfl⟩,YI⟩:=hp;obtain ⟨y1,ZY,rfl,q1,YV⟩:=ha.cons_inv;obtain rfl:=YV.ay;obtain rfl:=VR.ae.1 q1;cases a1 with
   | none=>exact absurd rfl YI
   | some b=>
    obtain ⟨h1,h2,h3⟩:=hD;refine (Any.bytes_Clone_at Fq b n c1 ys w h1 h2 fun i hi=>h3 b rfl i hi w hX).mono fun e w' ⟨v',he,⟨hlen,ho⟩,hv,hB⟩=>⟨hB,v',he,?_⟩;rcases ho with ⟨h0,_⟩ | ⟨g,cap,cur,rfl,hg,hh,hnc,_,Zb,hcur⟩
    ·exact absurd h0 hv
    ·refine ⟨g,cap,cur.toList.drop n,rfl,hg,hnc,?_,?_⟩
     ·rw [hh,<- hcur,XQ,Xg];rfl
     ·rw [<- hcur,XQ,Xg];simpa using Zb
  ·cases h
 ·dsimp only [Ld] at h;split at h
  ·rename_i a1 l1 c1;cases h;subst hp;obtain ⟨y1,ZY,rfl,q1,YV⟩:=ha.cons_inv;obtain rfl:=YV.ay;obtain rfl:=VR.ae.1 q1;exact (Any.bytes_Clone_nil Fq l1 c1 w).mono fun e w' ⟨he,hw⟩=>⟨by rw [hw];exact Below.refl _ _,he⟩
  ·cases h
theorem Bf {M:Own} {w0:World} (hM:∀ z,¬ M z) {x:ak} {ys:List Int} (hD:eZ w0 x.a x.l ys):aK (kP x.a x.l x.c ys) M w0:=
 aK.uS (Checked.mixed Tryz.checked) (by kernel_rfl) (fk.of iI rfl dK) (dz.list (X:=fun w=>∀ k,k<w0.heap.size->w.heap[k]?=w0.heap[k]?) (l:=KZ x.a x.l x.c ys) rfl (fun r h=>by
  simp only [KZ,V8,Ww,Xc] at h
  rcases h with rfl
  exact Eb hD) fun ν s w hr _=>fun k hk=>hr.frame k hk (hM k)) (fun f g h=>by cases h)
theorem sW {ν:aP} {ys:List Int} {zs:List Value} (h:au ν (List.map SV.v (List.map (Value.int .u8) ys)) zs):zs=ys.map (Value.int .u8):=gi h (au.lits ν _)
theorem bJ (ys:List Int):(List.map SV.v (List.map (Value.int .u8) ys)).all ab=true:=by
 rw [Wn];intro x hx;obtain ⟨v,_,rfl⟩:=Wc.1 hx;rfl
def JN (w0 w':World) (x:ak) (ys:List Int) (a:Option Addr) (c:Nat) (l:Nat):Prop:=
 (x.a=none/\a=none/\l=0/\c=0)\/(x.a≠none/\l=x.l/\∃ b,a=some ⟨b,0,none⟩/\cG w0 w' (.slice (some ⟨b,0,none⟩) x.l c) (ys.map (Value.int .u8)) x.l 1 5)
theorem qP {w:World} {x:ak} {ys:List Int} (hD:eZ w x.a x.l ys):Calls Tryz.prog 62 #[.agg (eV x).toArray] w fun e w'=>Below w.heap.size w w'/\∃ a c l,e=.returned (.agg #[.string x.p,.int .u64 x.v,.int .i64 x.k,.slice a l c])/\JN w w' x ys a c l:=by
 refine bP (E:=kP x.a x.l x.c ys) rfl rfl (args:=[.v (.agg #[.string x.p,.int .u64 x.v,.int .i64 x.k,.slice x.a x.l x.c])]) (a:=[.agg (eV x).toArray]) (S0:=BX x ys) (by kernel_rfl) (au.cons (VR.ae.2 rfl) au.nil) fun cs0=>?_;by_cases ha:x.a=none
 ·refine Fa (v:=.agg #[.string x.p,.int .u64 x.v,.int .i64 x.k,.slice none 0 0]) (Bf aE hD) aE (n:=300) (o:=(VP++ff (List.range 10) false)) ⟨?_⟩ fun w' hB=>⟨hB,none,0,0,rfl,.inl ⟨ha,rfl,rfl,rfl⟩⟩;rw [RO];simp only [ah,VV,VX,VW];exact ⟨ha,WB x.k⟩
 ·refine af.bY (Bf aE hD) (n:=300) (o:=(VP++ff (List.range 10) true)) (x:=.agg [.v (.string x.p),.v (.int .u64 x.v),.v (.int .i64 x.k),.sl 4 0 x.l none]) (i:=4) (so:=.row (List.map SV.v (List.map (Value.int .u8) ys)) 5 (0,0) (some 1)) (by
   rw [z6];simp only [ah,bJ,VV,VX,VW];exact ⟨ha,WB x.k⟩) fun ν' w' y b ob hv hb ho YO hw hB=>?_
  have hn:w.heap.size<=b.1:=by
   rcases hw with h | h
   ·exact h
   ·exact absurd h (aE _)
  obtain ⟨_,_,_,_,hB,hr⟩:=hB;obtain ⟨a,rfl,ha1⟩:=VR.bx.1 hv;obtain ⟨y1,a1,rfl,q1,YV⟩:=ha1.cons_inv;obtain ⟨y2,a2,rfl,q2,ZL⟩:=YV.cons_inv;obtain ⟨y3,a3,rfl,q3,ha4⟩:=ZL.cons_inv;obtain ⟨y4,a4,rfl,q4,ha5⟩:=ha4.cons_inv;obtain rfl:=ha5.ay;obtain rfl:=VR.ae.1 q1;obtain rfl:=VR.ae.1 q2;obtain rfl:=VR.ae.1 q3;have hs:=cG.fW q4 hb ho YO hn fun zs hz=>sW hz;have hs2:=hs;obtain ⟨g,c,rest,rfl,_⟩:=hs2;exact ⟨aB aE hB hr,_,_,_,rfl,.inr ⟨ha,rfl,g,rfl,hs⟩⟩
abbrev Key:=ByteArray × Int × Int × List Int
def KE (c:ak->List Int) (e:ak):Key:=(e.p,e.v,e.k,c e)
def KM (c:ak->List Int) (e:bH):Key:=KE c e.1
def zg (p:ByteArray) (K:List Key):List Key:=K.filter fun k=>!(k.1.data.toList==p.data.toList)
def Sorted (xs:List ak):Prop:=xs.Pairwise fun a b=>dr a.p b.p<0
theorem zV {ys:ak->List Int} (p:ByteArray) (xs:List ak):(bg p xs).map (KE ys)=zg p (xs.map (KE ys)):=by
 unfold bg zg;rw [List.filter_map];rfl
theorem j8 {p:ByteArray} {e:ak}:pH p e=false↔e.p≠p:=by
 rw [<- Bool.not_eq_true,gw]
theorem ji (a:ByteArray):dr a a=0:=by have:=fB a a;omega
theorem Sorted.names {xs:List ak} (h:Sorted xs):(xs.map fun e=>e.p).Nodup:=by
 unfold Sorted at h;rw [List.nodup_iff_pairwise_ne,Yk];exact h.imp fun {a b} hab e=>by rw [e,ji] at hab;exact absurd hab (by decide)
structure Inv (cm ys:ak->List Int) (E:List bH) (cl:Nat) (xs:List ak):Prop where
 ok:c8 E cl
 ZP:(E.map (KM cm)).Perm (xs.map (KE ys))
 sorted:Sorted xs
 Y2:xs.length<=256
section
variable {E:List bH} {cl:Nat} {xs:List ak} {x:ak} {cm ys:ak->List Int}
theorem Inv.len (h:Inv cm ys E cl xs):E.length=xs.length:=by simpa using h.ZP.length_eq
theorem Inv.to (h:Inv cm ys E cl xs) {e:ak} (he:e∈xs):∃ f∈E,KM cm f=KE ys e:=by
 have:=h.ZP.mem_iff.2 (Wc.2 ⟨e,he,rfl⟩);exact Wc.1 this
theorem Inv.of (h:Inv cm ys E cl xs) {f:bH} (hf:f∈E):∃ e∈xs,KE ys e=KM cm f:=by
 have:=h.ZP.mem_iff.1 (Wc.2 ⟨f,hf,rfl⟩);exact Wc.1 this
theorem lD {f:bH} {e:ak} (h:KM cm f=KE ys e):f.1.p=e.p/\f.1.v=e.v/\f.1.k=e.k:=by
 simp only [KM,KE,Prod.mk.injEq] at h;exact ⟨h.1,h.2.1,h.2.2.1⟩
theorem Inv.cont {cm':ak->List Int} (h:Inv cm ys E cl xs) (hc:∀ e∈E,cm e.1=cm' e.1):Inv cm' ys E cl xs:=
 ⟨h.ok,by
  have:E.map (KM cm')=E.map (KM cm):=XB fun e he=>by unfold KM KE;rw [hc e he]
  rw [this];exact h.ZP,h.sorted,h.Y2⟩
theorem Inv.size (h:Inv cm ys E cl xs):∀ e∈xs,e.p.size<=1000000000:=fun e he=>by
 obtain ⟨f,hf,hk⟩:=h.to he
 rw [<- (lD hk).1];exact h.ok.size f hf
theorem DN (hB:c8 E cl) {f g:bH} (hf:f∈E) (hg:g∈E) (h:f.1.p=g.1.p):f=g:=by
 obtain ⟨i,hi⟩:=WZ hf;obtain ⟨j,hj⟩:=WZ hg;have:=iw hB.names hi hj h;subst this;rw [hi] at hj;exact Option.some.inj hj
theorem Inv.pj (h:Inv cm ys E cl xs) {f:bH} (hf:f∈E) (hp:f.1.p=x.p):(fx x.p xs).v=f.1.v/\(bg x.p xs).length<xs.length:=by
 obtain ⟨e,he,hk⟩:=h.of hf;have he2:pH x.p e=true:=gw.2 (by rw [<- hp];exact (lD hk.symm).1.symm);constructor
 ·unfold fx;cases hq:xs.find? (pH x.p) with
  | none=>rw [WY] at hq;exact absurd he2 (hq e he)
  | some e'=>
   have h1:=WV hq;have h2:=gw.1 (Xr hq);obtain ⟨f',hf',hk'⟩:=h.to h1;have:f'=f:=DN h.ok hf' hf (by rw [(lD hk').1,h2,hp]);show e'.v=_;rw [<- this];exact (lD hk').2.1.symm
 ·refine Xm.2 ⟨e,he,by rw [he2];simp⟩
theorem Inv.cr (h:Inv cm ys E cl xs) (hm:∀ f∈E,f.1.p≠x.p):∀ e∈xs,e.p≠x.p:=fun e he=>by
 obtain ⟨f,hf,hk⟩:=h.to he
 rw [<- (lD hk).1];exact hm f hf
theorem EM {p:ByteArray} (hm:∀ e∈xs,e.p≠p):fx p xs=⟨p,0,0,none,0,0⟩/\bg p xs=xs:=by
 constructor
 ·unfold fx;rw [WY.2 fun e he=>by rw [j8.2 (hm e he)];simp];rfl
 ·exact XO.2 fun e he=>by rw [j8.2 (hm e he)];rfl
theorem kc (x:ak):∀ l:List ak,(eK x l).Perm (x::l)
 | []=>List.Perm.refl _
 | e::l=>by
  unfold eK
  split
  ·exact List.Perm.refl _
  ·exact ((kc x l).cons e).trans (List.Perm.swap x e l)
theorem qB:∀ {l:List ak},Sorted l->(∀ e∈l,e.p≠x.p)->Sorted (eK x l)
 | [],_,_=>by simp [eK,Sorted]
 | e::l,h,hx=>by
  unfold Sorted at h
  rw [W0] at h
  unfold eK
  split
  ·rename_i hc
   have h0:dr x.p e.p<0:=by rw [fB];omega
   unfold Sorted
   rw [W0,W0]
   refine ⟨fun b hb=>?_,h⟩
   rcases V8.1 hb with rfl | hb
   ·exact h0
   ·exact ij h0 (h.1 b hb)
  ·rename_i hc
   have h1:dr e.p x.p≠0:=fun h0=>hx e Wi (gZ h0)
   unfold Sorted
   rw [W0]
   refine ⟨fun b hb=>?_,qB h.2 fun z hz=>hx z (Wb _ hz)⟩
   rcases V8.1 ((kc x l).mem_iff.1 hb) with rfl | hb
   ·omega
   ·exact h.1 b hb
theorem Sorted.drop (h:Sorted xs) (p:ByteArray):Sorted (bg p xs):=List.Pairwise.sublist Yf h
theorem Inv.new {E':List bH} {cl':Nat} {L:List ak} (hB:c8 E' cl') (ht:(E'.map (KM cm)).Perm (KE ys x::L.map (KE ys))) (hs:Sorted L) (hx:∀ e∈L,e.p≠x.p) (hl:L.length<256):Inv cm ys E' cl' (eK x L):=
 ⟨hB,ht.trans (((kc x L).map (KE ys)).symm),qB hs hx,by rw [ki];omega⟩
theorem IP {p:ByteArray}:∀ e∈bg p xs,e.p≠p:=fun e he=>by
 have:=(Wo.1 he).2
 exact j8.1 (by simpa using this)
theorem nC (hs:Sorted xs):∀ i,i<=xs.length->match ja (xs.take i) with
  | none=>∀ y∈xs.take i,y.k≠0
  | some e=>e∈xs.take i/\e.k=0/\∀ y∈xs.take i,y.k=0->¬ (e.v>y.v\/(e.v=y.v/\dr y.p e.p<0))
 | 0,_=>by
  rw [X8]
  show ∀ y∈[],_
  intro y hy;cases hy
 | i+1,hi=>by
  have ih:=nC hs i (by omega)
  have YR:i<xs.length:=by omega
  rw [tW YR]
  have ht:=Wp YR
  have hbef:∀ y∈xs.take i,dr y.p xs[i].p<0:=fun y hy=>by
   have YJ:Sorted (xs.take (i+1)):=List.Pairwise.sublist (List.take_sublist _ _) hs
   rw [ht] at YJ
   exact (List.pairwise_append.1 YJ).2.2 y hy _ (by simp)
  have σ:∀ y,y∈xs.take (i+1)↔y∈xs.take i\/y=xs[i]:=fun y=>by rw [ht,WJ,Wk]
  unfold pk
  by_cases hk:xs[i].k=0
  ·rw [if_pos hk]
   cases hb:ja (xs.take i) with
   | none=>
    rw [hb] at ih
    refine ⟨(σ _).2 (.inr rfl),hk,fun y hy Γ=>?_⟩
    rcases (σ y).1 hy with h | h
    ·exact absurd Γ (ih y h)
    ·rw [h];rintro (h | ⟨_,h⟩)
     ·omega
     ·rw [ji] at h;omega
   | some f=>
    rw [hb] at ih
    obtain ⟨h1,h2,h3⟩:=ih
    by_cases hv:xs[i].v<f.v
    ·dsimp only
     rw [if_pos hv]
     refine ⟨(σ _).2 (.inr rfl),hk,fun y hy Γ=>?_⟩
     rcases (σ y).1 hy with h | h
     ·have:=h3 y h Γ
      rintro (h | ⟨h,_⟩)
      ·exact this (.inl (by omega))
      ·exact this (.inl (by omega))
     ·rw [h];rintro (h | ⟨_,h⟩)
      ·omega
      ·rw [ji] at h;omega
    ·dsimp only
     rw [if_neg hv]
     refine ⟨(σ _).2 (.inl h1),h2,fun y hy Γ=>?_⟩
     rcases (σ y).1 hy with h | h
     ·exact h3 y h Γ
     ·rw [h]
      have hc:=hbef f h1
      have hn:=fB f.p xs[i].p
      rintro (h | ⟨_,h⟩)
      ·exact hv h
      ·omega
  ·rw [if_neg hk]
   cases hb:ja (xs.take i) with
   | none=>
    rw [hb] at ih
    intro y hy
    rcases (σ y).1 hy with h | h
    ·exact ih y h
    ·rw [h];exact hk
   | some f=>
    rw [hb] at ih
    obtain ⟨h1,h2,h3⟩:=ih
    refine ⟨(σ _).2 (.inl h1),h2,fun y hy Γ=>?_⟩
    rcases (σ y).1 hy with h | h
    ·exact h3 y h Γ
    ·rw [h] at Γ;exact absurd Γ hk
theorem Inv.DY (h:Inv cm ys E cl xs) (hb:ja xs=none):iA E ⟨#[]⟩:=by
 have hs:=nC h.sorted xs.length (Wx _);rw [XE,hb] at hs;refine .inl ⟨rfl,fun f hf=>?_⟩;obtain ⟨e,he,hk⟩:=h.of hf;rw [(lD hk.symm).2.2];exact hs e he
theorem Inv.DP (h:Inv cm ys E cl xs) {e:ak} (hb:ja xs=some e):iA E e.p/\e∈xs:=by
 have hs:=nC h.sorted xs.length (Wx _);rw [XE,hb] at hs;obtain ⟨h1,h2,h3⟩:=hs;obtain ⟨f,hf,hk⟩:=h.to h1;refine ⟨.inr ⟨f,hf,(lD hk).1,by rw [(lD hk).2.2];exact h2,fun g hg hg0 hbt=>?_⟩,h1⟩;obtain ⟨y,hy,ZM⟩:=h.of hg;have ZM:=lD ZM.symm;have hk:=lD hk;refine h3 y hy (by rw [<- ZM.2.2];exact hg0) ?_;unfold pq at hbt;rw [hk.1,hk.2.1,ZM.1,ZM.2.1] at hbt;exact hbt
theorem jJ {α:Type} {g:α->α}:∀ {l:List α} {j:Nat} {f:α},l[j]?=some f->(l.modify j g).Perm (g f::l.eraseIdx j)
 | [],j,f,h=>by simp at h
 | a::l,0,f,h=>by
  simp at h;subst h
  simp
 | a::l,j+1,f,h=>by
  have ih:=jJ (g:=g) (l:=l) (j:=j) (f:=f) (by simpa using h)
  simp only [Ym,List.eraseIdx_cons_succ]
  exact (ih.cons a).trans (List.Perm.swap _ _ _)
theorem n9:∀ {E:List bH} {j:Nat} {f:bH},(E.map fun e=>e.1.p).Nodup->E[j]?=some f->(E.eraseIdx j).map (KM cm)=zg f.1.p (E.map (KM cm))
 | [],j,f,_,h=>by simp at h
 | a::l,0,f,hn,h=>by
  simp at h;subst h
  rw [WD,W3] at hn
  unfold zg
  rw [List.eraseIdx_cons_zero,WD,X0 (by simp [KM,KE])]
  refine (XO.2 fun k hk=>?_).symm
  obtain ⟨g,hg,rfl⟩:=Wc.1 hk
  have:g.1.p≠a.1.p:=fun e=>hn.1 (Wc.2 ⟨g,hg,e⟩)
  have:=j8.2 this
  unfold pH at this
  show (!(g.1.p.data.toList==a.1.p.data.toList))=true
  rw [this];rfl
 | a::l,j+1,f,hn,h=>by
  rw [WD,W3] at hn
  have hf:l[j]?=some f:=by simpa using h
  have ih:=n9 hn.2 hf
  have Zx:=Xi hf
  have:a.1.p≠f.1.p:=fun e=>hn.1 (Wc.2 ⟨f,Zx,e.symm⟩)
  have:=j8.2 this
  unfold pH at this
  unfold zg at ih ⊢
  rw [List.eraseIdx_cons_succ,WD,WD,ih,XZ (by show (!(a.1.p.data.toList==f.1.p.data.toList))=true;rw [this];rfl)]
theorem c8.sub {E':List bH} (h:c8 E cl) (hs:E'.Sublist E):c8 E' cl:=
 ⟨h.names.sublist (hs.map _),h.Zw.sublist (hs.map _),fun e he=>h.born e (hs.mem he),fun e he=>h.full e (hs.mem he),fun e he=>h.size e (hs.mem he)⟩
theorem c8.snoc (h:c8 E cl) {y:ak} (hm:∀ e∈E,e.1.p≠y.p) (hf:y.p≠⟨#[]⟩) (hz:y.p.size<=1000000000):c8 (E++[(y,cl)]) (cl+1):=by
 refine ⟨?_,?_,fun e he=>?_,fun e he=>?_,fun e he=>?_⟩
 ·rw [Wq,Xx];refine ⟨h.names,by simp,fun a ha b hb=>?_⟩;obtain ⟨e,he,rfl⟩:=Wc.1 ha;have:b=y.p:=by simpa using hb
  rw [this];exact hm e he
 ·rw [Wq,Xx];refine ⟨h.Zw,by simp,fun a ha b hb=>?_⟩;obtain ⟨e,he,rfl⟩:=Wc.1 ha;have:b=cl:=by simpa using hb
  have:=h.born e he;omega
 ·rcases WJ.1 he with he | he
  ·have:=h.born e he;omega
  ·have:e=(y,cl):=by simpa using he
   subst this;show cl<cl+1;omega
 ·rcases WJ.1 he with he | he
  ·exact h.full e he
  ·have:e=(y,cl):=by simpa using he
   subst this;exact hf
 ·rcases WJ.1 he with he | he
  ·exact h.size e he
  ·have:e=(y,cl):=by simpa using he
   subst this;exact hz
theorem jn {α β:Type} {h:α->β} {g:α->α}:∀ {l:List α} {j:Nat} {f:α},l[j]?=some f->h (g f)=h f->(l.modify j g).map h=l.map h
 | [],j,f,e,_=>by simp at e
 | a::l,0,f,e,k=>by simp at e;subst e;simp [k]
 | a::l,j+1,f,e,k=>by simp [jn (l:=l) (j:=j) (f:=f) (by simpa using e) k]
theorem eU {α:Type} {g:α->α} {l:List α} {j:Nat} {f e:α} (h:l[j]?=some f) (he:e∈l.modify j g):e=g f\/e∈l:=by
 rcases V8.1 ((jJ h).mem_iff.1 he) with h | h
 ·exact .inl h
 ·exact .inr (XY h)
theorem c8.mod (h:c8 E cl) {j:Nat} {f:bH} {y:ak} (hf:E[j]?=some f) (hp:y.p=f.1.p):c8 (E.modify j fun e=>(y,e.2)) cl:=by
 have Zx:=Xi hf;refine ⟨?_,?_,fun e he=>?_,fun e he=>?_,fun e he=>?_⟩
 ·rw [jn hf (by exact hp)];exact h.names
 ·rw [jn hf (by rfl)];exact h.Zw
 ·rcases eU hf he with rfl | he
  ·exact h.born f Zx
  ·exact h.born e he
 ·rcases eU hf he with rfl | he
  ·show y.p≠_;rw [hp];exact h.full f Zx
  ·exact h.full e he
 ·rcases eU hf he with rfl | he
  ·show y.p.size<=_;rw [hp];exact h.size f Zx
  ·exact h.size e he
end
def J5 (D:List ak) (ys:ak->List Int):MW:=fun args _=>match args with
 | [X]=>match yQ X with
  | some x=>some ((ys x).map (Value.int .u8),x.l,1,5,fun a=>.agg [.v (.string x.p),.v (.int .u64 x.v),.v (.int .i64 x.k),a],fun a=>.agg #[.string x.p,.int .u64 x.v,.int .i64 x.k,a],x∈D/\x.a≠none)
  | none=>none
 | _=>none
def MO (D:List ak) (args:List SV) (_:SH):Option (SV × Prop):=match args with
 | [X]=>match yQ X with
  | some x=>some (.agg [.v (.string x.p),.v (.int .u64 x.v),.v (.int .i64 x.k),.v (.slice none 0 0)],x∈D/\x.a=none)
  | none=>none
 | _=>none
def PQ (D:List ak) (ys:ak->List Int):List (FuncId × Sum):=[(20,gq (jX Co) (ln FM)),(58,cq jU),(61,de Al),(62,gq (jX (J5 D ys)) (ln (MO D)))]
def mZ (D:List ak) (ys:ak->List Int):Env:={ EP [] [] with Y7:=fun f=>(PQ D ys).lookup f }
def GM (D:List ak) (ys:ak->List Int) (l:List SV) (off n c:Nat):SM:=(a6 (mZ D ys) 8 [.sl 0 off n (some c)] (bG 6 1 0 [cv l])).getD dn
def MH:List SI:=dB (mZ [] fun _=>[]) 2 60 (GM [] (fun _=>[]) [] 0 0 0) VP
def fO (off n c:Nat) (i:Int):SF:={ fn:=8,tm:=fh 38 6 ([.aH,.aH,.aH,.ptr 1 0,.aH,.ptr 2 0,.ptr 3 0]++List.replicate 9 .aH++[.sl 0 off n (some c),.v (.int .i64 n),.v (.int .i64 i)]++List.replicate 19 .aH),todo:=MH,defers:=[],ret:=false,kind:=.normal,ro:=none }
def ON:Option (SO × Bool):=some (.row [.v (.int .u64 0),.v (.map none)] 66 (0,0) none,true)
def Ri:Option (SO × Bool):=some (.row [.v (.int .u64 0),.map 4] 66 (0,0) none,true)
def UW (k:Nat):Option (SO × Bool):=some (.row [.v (.int .u64 0),.sl 5 0 k none] 34 (0,0) none,true)
def uO (l:List SV):List (Option (SO × Bool)):=[cv l,OP,ON,OP]
def L3 (es:VQ) (cl:Nat):Option (SO × Bool):=some (.map es cl,true)
def iL (l:List SV) (es:VQ) (cl:Nat) (m:List SV) (k:Nat):List (Option (SO × Bool)):=[cv l,OP,Ri,UW k,L3 es cl,fA m]
theorem SY (D:List ak) (ys:ak->List Int) (l:List SV) (off n c:Nat):reach (mZ D ys) 2 60 (GM D ys l off n c) VP [(0,0),(1,1),(2,2),(3,3)] [0] (fO off n c 0) 6 (uO l)=[0=0,0=0,0=0,off=off/\n=n/\some c=some c,vZ (↑n:Int)=vZ (↑n:Int),vZ 0=vZ 0,l=l,l.all ab=true,V1 IntKind.u64 0=V1 IntKind.u64 0,VT none 0 0=VT none 0 0,V1 IntKind.u64 0=V1 IntKind.u64 0,Value.map none=Value.map none,V1 IntKind.u64 0=V1 IntKind.u64 0,VT none 0 0=VT none 0 0]:=by kernel_rfl
theorem Tw (D:List ak) (ys:ak->List Int) (l:List SV) (off n c:Nat) (x:ak) (i i':Int):reach (mZ D ys) 2 300 (SM.at (fO off n c i) 6 (uO l)) (ff [0] true++[(2,.cells (eC x))]++ff [3] false++ff [6] true++ff [7] false) [(0,0),(1,1),(2,2),(3,3)] [0] (fO off n c i') 6 (uO l)=[0=0,0=0,0=0,off=off/\n=n/\some c=some c,vZ (↑n:Int)=vZ (↑n:Int),vZ (IntKind.i64.wrap (i+1))=vZ i',l=l,l.all ab=true,V1 IntKind.u64 0=V1 IntKind.u64 0,VT none 0 0=VT none 0 0,V1 IntKind.u64 0=V1 IntKind.u64 0,Value.map none=Value.map none,V1 IntKind.u64 0=V1 IntKind.u64 0,VT none 0 0=VT none 0 0,(!cF x.1 x.2 x.3 x.5==(aX ([],True).fst x).2)=false,(!cF x.1 x.2 x.3 x.5==0)=true,x.1.size<=1000000000/\0<=x.2/\x.2<18446744073709551616,True/\gS [] x/\(aX ([],True).fst x).2≠0,List.take 4 (List.drop (off+i.toNat*4) l)=eC x/\(eC x).length=4,ai i n=true,decide (i<(↑n:Int))=true]:=by kernel_rfl
theorem UI (D:List ak) (ys:ak->List Int) (l:List SV) (off n c:Nat) (x:ak) (i i':Int) (es':VQ) (cl' k:Nat) (m:List SV) (q:List SV) (b:Nat × Nat):fu (mZ D ys) 2 400 (SM.at (fO off n c i) 6 (uO l)) (ff [0] true++[(2,.cells (eC x))]++ff [3] true++ff [6] false++ff [23] true) [(0,0),(1,1),(2,2),(3,3),(4,10),(5,5)] [0,4,5] (fO off n c i') 6 (iL l es' cl' m k) 10 11 (.row q 5 (0,0) (some 1)) b=[List.map SV.v (List.map (V1 IntKind.u8) (ys x))=q,q.all ab=true,0=0,0=0,0=0,off=off/\n=n/\some c=some c,vZ (↑n:Int)=vZ (↑n:Int),vZ (IntKind.i64.wrap (i+1))=vZ i',l=l,l.all ab=true,V1 IntKind.u64 0=V1 IntKind.u64 0,VT none 0 0=VT none 0 0,V1 IntKind.u64 0=V1 IntKind.u64 0,V1 IntKind.u64 0=V1 IntKind.u64 0,0=0/\(aX ([],True).fst x).1.length=k/\nZ=none,1=cl',dJ 11 b ([]++[(SV.v (VS x.p),VZ [SV.v (VS x.p),SV.v (V1 IntKind.u64 x.v),SV.v (vZ x.k),SV.sl 11 0 x.l none],0)])=es',(es'.all fun e=>aw e.fst&&aw e.snd.fst)=true,List.map SV.v (vE (aX ([],True).fst x).1)=m,m.all ab=true,(x.1==x.1)=true,List.Mem x D/\x.4≠none,(!cF x.1 x.2 x.3 x.5==0)=false,x.1.size<=1000000000/\0<=x.2/\x.2<18446744073709551616,True/\gS [] x/\(aX ([],True).fst x).2=0,List.take 4 (List.drop (off+i.toNat*4) l)=eC x/\(eC x).length=4,ai i n=true,decide (i<(↑n:Int))=true]:=by kernel_rfl
theorem Ra (D:List ak) (ys:ak->List Int) (l:List SV) (off n c:Nat) (x:ak) (i i':Int) (es':VQ) (cl' k:Nat) (m:List SV):reach (mZ D ys) 2 400 (SM.at (fO off n c i) 6 (uO l)) (ff [0] true++[(2,.cells (eC x))]++ff [3] true++ff [6] false++ff [23] false) [(0,0),(1,1),(2,2),(3,3),(4,10),(5,5)] [0,4,5] (fO off n c i') 6 (iL l es' cl' m k)=[0=0,0=0,0=0,off=off/\n=n/\some c=some c,vZ (↑n:Int)=vZ (↑n:Int),vZ (IntKind.i64.wrap (i+1))=vZ i',l=l,l.all ab=true,V1 IntKind.u64 0=V1 IntKind.u64 0,VT none 0 0=VT none 0 0,V1 IntKind.u64 0=V1 IntKind.u64 0,V1 IntKind.u64 0=V1 IntKind.u64 0,0=0/\(aX ([],True).fst x).1.length=k/\nZ=none,1=cl',([]++[(SV.v (VS x.p),VZ [SV.v (VS x.p),SV.v (V1 IntKind.u64 x.v),SV.v (vZ x.k),SV.v (VT none 0 0)],0)])=es',(es'.all fun e=>aw e.fst&&aw e.snd.fst)=true,List.map SV.v (vE (aX ([],True).fst x).1)=m,m.all ab=true,(x.1==x.1)=true,List.Mem x D/\x.4=none,(!cF x.1 x.2 x.3 x.5==0)=false,x.1.size<=1000000000/\0<=x.2/\x.2<18446744073709551616,True/\gS [] x/\(aX ([],True).fst x).2=0,List.take 4 (List.drop (off+i.toNat*4) l)=eC x/\(eC x).length=4,ai i n=true,decide (i<(↑n:Int))=true]:=by kernel_rfl
theorem SE (D:List ak) (ys:ak->List Int) (l m m':List SV) (off n c k k' j:Nat) (x f g:ak) (i i':Int) (es es':VQ) (cl cl' born:Nat):reach (mZ D ys) 2 400 (SM.at (fO off n c i) 6 (iL l es cl m k)) (ff [0] true++[(2,.cells (eC x))]++ff [3] false++ff [6] true++ff [7] false) [(0,0),(1,1),(2,2),(3,3),(4,4),(5,5)] [0,4,5] (fO off n c i') 6 (iL l es' cl' m' k')=[0=0,0=0,0=0,off=off/\n=n/\some c=some c,vZ (↑n:Int)=vZ (↑n:Int),vZ (IntKind.i64.wrap (i+1))=vZ i',l=l,l.all ab=true,V1 IntKind.u64 0=V1 IntKind.u64 0,VT none 0 0=VT none 0 0,V1 IntKind.u64 0=V1 IntKind.u64 0,V1 IntKind.u64 0=V1 IntKind.u64 0,0=0/\k=k'/\nZ=none,cl=cl',es=es',(es'.all fun e=>aw e.fst&&aw e.snd.fst)=true,m=m',m'.all ab=true,(!cF x.1 x.2 x.3 x.5==(aX (ar m k,(50:TypeId)=(50:TypeId)/\bK m k (ar m k)/\ar m k≠[]).fst x).2)=false,(!cF x.1 x.2 x.3 x.5==0)=true,x.1.size<=1000000000/\0<=x.2/\x.2<18446744073709551616,(50=50/\bK m k (ar m k)/\ar m k≠[])/\gS (ar m k) x/\(aX (ar m k,(50:TypeId)=(50:TypeId)/\bK m k (ar m k)/\ar m k≠[]).fst x).2≠0,List.take 4 (List.drop (off+i.toNat*4) l)=eC x/\(eC x).length=4,ai i n=true,decide (i<(↑n:Int))=true]:=by kernel_rfl
theorem U7 (D:List ak) (ys:ak->List Int) (l m m':List SV) (off n c k k' j:Nat) (x f g:ak) (i i':Int) (es es':VQ) (cl cl' born:Nat):reach (mZ D ys) 2 400 (SM.at (fO off n c i) 6 (iL l es cl m k)) (ff [0] true++[(2,.cells (eC x))]++ff [3,6] false++[(8,.hit j (.agg [.v (.string x.p),.v (.int .u64 f.v),.v (.int .i64 f.k),.v (.slice f.a f.l f.c)]) born)]++ff [14] true++ff [15] false) [(0,0),(1,1),(2,2),(3,3),(4,4),(5,5)] [0,4,5] (fO off n c i') 6 (iL l es' cl' m' k')=[0=0,0=0,0=0,off=off/\n=n/\some c=some c,vZ (↑n:Int)=vZ (↑n:Int),vZ (IntKind.i64.wrap (i+1))=vZ i',l=l,l.all ab=true,V1 IntKind.u64 0=V1 IntKind.u64 0,VT none 0 0=VT none 0 0,V1 IntKind.u64 0=V1 IntKind.u64 0,V1 IntKind.u64 0=V1 IntKind.u64 0,0=0/\k=k'/\nZ=none,cl=cl',es=es',(es'.all fun e=>aw e.fst&&aw e.snd.fst)=true,m=m',m'.all ab=true,(!31==(aX (ar m k,(50:TypeId)=(50:TypeId)/\bK m k (ar m k)/\ar m k≠[]).fst x).2)=false,(!decide (x.2>f.2))=true,(∀ (e:SV × SV × Nat),e∈List.take j es->a8 x.p e.fst)/\es[j]?=some (SV.v (VS x.1),VZ [SV.v (VS x.1),SV.v (V1 IntKind.u64 f.2),SV.v (vZ f.3),SV.v (VT f.4 f.5 f.6)],born),(!cF x.1 x.2 x.3 x.5==0)=false,x.1.size<=1000000000/\0<=x.2/\x.2<18446744073709551616,(50=50/\bK m k (ar m k)/\ar m k≠[])/\gS (ar m k) x/\(aX (ar m k,(50:TypeId)=(50:TypeId)/\bK m k (ar m k)/\ar m k≠[]).fst x).2≠0,List.take 4 (List.drop (off+i.toNat*4) l)=eC x/\(eC x).length=4,ai i n=true,decide (i<(↑n:Int))=true]:=by kernel_rfl
theorem RB (D:List ak) (ys:ak->List Int) (l m m':List SV) (off n c k k' j:Nat) (x f g:ak) (i i':Int) (es es':VQ) (cl cl' born:Nat):reach (mZ D ys) 2 400 (SM.at (fO off n c i) 6 (iL l es cl m k)) (ff [0] true++[(2,.cells (eC x))]++ff [3,6] false++[(8,.cr)]++ff [22,24] true++ff [25] false) [(0,0),(1,1),(2,2),(3,3),(4,4),(5,5)] [0,4,5] (fO off n c i') 6 (iL l es' cl' m' k')=[0=0,0=0,0=0,off=off/\n=n/\some c=some c,vZ (↑n:Int)=vZ (↑n:Int),vZ (IntKind.i64.wrap (i+1))=vZ i',l=l,l.all ab=true,V1 IntKind.u64 0=V1 IntKind.u64 0,VT none 0 0=VT none 0 0,V1 IntKind.u64 0=V1 IntKind.u64 0,V1 IntKind.u64 0=V1 IntKind.u64 0,0=0/\k=k'/\nZ=none,cl=cl',es=es',(es'.all fun e=>aw e.fst&&aw e.snd.fst)=true,m=m',m'.all ab=true,(!24==(aX (ar m k,(50:TypeId)=(50:TypeId)/\bK m k (ar m k)/\ar m k≠[]).fst x).2)=false,(!!(jQ es).toList==VO.toList)=true,66=66/\ua es cl,decide ((↑es.length:Int)≥256)=true,∀ (e:SV × SV × Nat),e∈es->a8 x.p e.fst,(!cF x.1 x.2 x.3 x.5==0)=false,x.1.size<=1000000000/\0<=x.2/\x.2<18446744073709551616,(50=50/\bK m k (ar m k)/\ar m k≠[])/\gS (ar m k) x/\(aX (ar m k,(50:TypeId)=(50:TypeId)/\bK m k (ar m k)/\ar m k≠[]).fst x).2≠0,List.take 4 (List.drop (off+i.toNat*4) l)=eC x/\(eC x).length=4,ai i n=true,decide (i<(↑n:Int))=true]:=by kernel_rfl
theorem Rc (D:List ak) (ys:ak->List Int) (l m m':List SV) (off n c k k' j:Nat) (x f g:ak) (i i':Int) (es es':VQ) (cl cl' born:Nat) (q:List SV) (b:Nat × Nat):fu (mZ D ys) 2 400 (SM.at (fO off n c i) 6 (iL l es cl m k)) (ff [0] true++[(2,.cells (eC x))]++ff [3] true++ff [6] false++[(8,.hit j (.agg [.v (.string x.p),.v (.int .u64 f.v),.v (.int .i64 f.k),.v (.slice f.a f.l f.c)]) born)]++ff [14] false++ff [24] true++[(26,.hit j (.agg [.v (.string x.p),.v (.int .u64 f.v),.v (.int .i64 f.k),.v (.slice f.a f.l f.c)]) born)]) [(0,0),(1,1),(2,2),(3,3),(4,4),(5,7)] [0,4,5] (fO off n c i') 6 (iL l es' cl' m' k') 4 14 (.row q 5 (0,0) (some 1)) b=[List.map SV.v (List.map (V1 IntKind.u8) (ys x))=q,q.all ab=true,0=0,0=0,0=0,off=off/\n=n/\some c=some c,vZ (↑n:Int)=vZ (↑n:Int),vZ (IntKind.i64.wrap (i+1))=vZ i',l=l,l.all ab=true,V1 IntKind.u64 0=V1 IntKind.u64 0,VT none 0 0=VT none 0 0,V1 IntKind.u64 0=V1 IntKind.u64 0,V1 IntKind.u64 0=V1 IntKind.u64 0,0=0/\(aX (ar m k,(50:TypeId)=(50:TypeId)/\bK m k (ar m k)/\ar m k≠[]).fst x).1.length=k'/\nZ=none,cl=cl',dJ 14 b (es.modify j fun e=>(SV.v (VS x.p),VZ [SV.v (VS x.p),SV.v (V1 IntKind.u64 x.v),SV.v (vZ x.k),SV.sl 14 0 x.l none],e.2.2))=es',(es'.all fun e=>aw e.fst&&aw e.snd.fst)=true,List.map SV.v (vE (aX (ar m k,(50:TypeId)=(50:TypeId)/\bK m k (ar m k)/\ar m k≠[]).fst x).1)=m',m'.all ab=true,(∀ (e:SV × SV × Nat),e∈List.take j es->a8 x.p e.fst)/\es[j]?=some (SV.v (VS x.1),VZ [SV.v (VS x.1),SV.v (V1 IntKind.u64 f.2),SV.v (vZ f.3),SV.v (VT f.4 f.5 f.6)],born),(x.1==x.1)=true,List.Mem x D/\x.4≠none,(!decide (x.2>f.2))=false,(∀ (e:SV × SV × Nat),e∈List.take j es->a8 x.p e.fst)/\es[j]?=some (SV.v (VS x.1),VZ [SV.v (VS x.1),SV.v (V1 IntKind.u64 f.2),SV.v (vZ f.3),SV.v (VT f.4 f.5 f.6)],born),(!cF x.1 x.2 x.3 x.5==0)=false,x.1.size<=1000000000/\0<=x.2/\x.2<18446744073709551616,(50=50/\bK m k (ar m k)/\ar m k≠[])/\gS (ar m k) x/\(aX (ar m k,(50:TypeId)=(50:TypeId)/\bK m k (ar m k)/\ar m k≠[]).fst x).2=0,List.take 4 (List.drop (off+i.toNat*4) l)=eC x/\(eC x).length=4,ai i n=true,decide (i<(↑n:Int))=true]:=by kernel_rfl
theorem Qs (D:List ak) (ys:ak->List Int) (l m m':List SV) (off n c k k' j:Nat) (x f g:ak) (i i':Int) (es es':VQ) (cl cl' born:Nat):reach (mZ D ys) 2 400 (SM.at (fO off n c i) 6 (iL l es cl m k)) (ff [0] true++[(2,.cells (eC x))]++ff [3] true++ff [6] false++[(8,.hit j (.agg [.v (.string x.p),.v (.int .u64 f.v),.v (.int .i64 f.k),.v (.slice f.a f.l f.c)]) born)]++ff [14] false++ff [24] false++[(26,.hit j (.agg [.v (.string x.p),.v (.int .u64 f.v),.v (.int .i64 f.k),.v (.slice f.a f.l f.c)]) born)]) [(0,0),(1,1),(2,2),(3,3),(4,4),(5,7)] [0,4,5] (fO off n c i') 6 (iL l es' cl' m' k')=[0=0,0=0,0=0,off=off/\n=n/\some c=some c,vZ (↑n:Int)=vZ (↑n:Int),vZ (IntKind.i64.wrap (i+1))=vZ i',l=l,l.all ab=true,V1 IntKind.u64 0=V1 IntKind.u64 0,VT none 0 0=VT none 0 0,V1 IntKind.u64 0=V1 IntKind.u64 0,V1 IntKind.u64 0=V1 IntKind.u64 0,0=0/\(aX (ar m k,(50:TypeId)=(50:TypeId)/\bK m k (ar m k)/\ar m k≠[]).fst x).1.length=k'/\nZ=none,cl=cl',(es.modify j fun e=>(SV.v (VS x.p),VZ [SV.v (VS x.p),SV.v (V1 IntKind.u64 x.v),SV.v (vZ x.k),SV.v (VT none 0 0)],e.2.2))=es',(es'.all fun e=>aw e.fst&&aw e.snd.fst)=true,List.map SV.v (vE (aX (ar m k,(50:TypeId)=(50:TypeId)/\bK m k (ar m k)/\ar m k≠[]).fst x).1)=m',m'.all ab=true,(∀ (e:SV × SV × Nat),e∈List.take j es->a8 x.p e.fst)/\es[j]?=some (SV.v (VS x.1),VZ [SV.v (VS x.1),SV.v (V1 IntKind.u64 f.2),SV.v (vZ f.3),SV.v (VT f.4 f.5 f.6)],born),(x.1==x.1)=true,List.Mem x D/\x.4=none,(!decide (x.2>f.2))=false,(∀ (e:SV × SV × Nat),e∈List.take j es->a8 x.p e.fst)/\es[j]?=some (SV.v (VS x.1),VZ [SV.v (VS x.1),SV.v (V1 IntKind.u64 f.2),SV.v (vZ f.3),SV.v (VT f.4 f.5 f.6)],born),(!cF x.1 x.2 x.3 x.5==0)=false,x.1.size<=1000000000/\0<=x.2/\x.2<18446744073709551616,(50=50/\bK m k (ar m k)/\ar m k≠[])/\gS (ar m k) x/\(aX (ar m k,(50:TypeId)=(50:TypeId)/\bK m k (ar m k)/\ar m k≠[]).fst x).2=0,List.take 4 (List.drop (off+i.toNat*4) l)=eC x/\(eC x).length=4,ai i n=true,decide (i<(↑n:Int))=true]:=by kernel_rfl
theorem Sn (D:List ak) (ys:ak->List Int) (l m m':List SV) (off n c k k' j:Nat) (x f g:ak) (i i':Int) (es es':VQ) (cl cl' born:Nat) (q:List SV) (b:Nat × Nat):fu (mZ D ys) 2 400 (SM.at (fO off n c i) 6 (iL l es cl m k)) (ff [0] true++[(2,.cells (eC x))]++ff [3] true++ff [6] false++[(8,.cr)]++ff [22] false++ff [24] true++[(26,.cr)]) [(0,0),(1,1),(2,2),(3,3),(4,4),(5,7)] [0,4,5] (fO off n c i') 6 (iL l es' cl' m' k') 4 12 (.row q 5 (0,0) (some 1)) b=[List.map SV.v (List.map (V1 IntKind.u8) (ys x))=q,q.all ab=true,0=0,0=0,0=0,off=off/\n=n/\some c=some c,vZ (↑n:Int)=vZ (↑n:Int),vZ (IntKind.i64.wrap (i+1))=vZ i',l=l,l.all ab=true,V1 IntKind.u64 0=V1 IntKind.u64 0,VT none 0 0=VT none 0 0,V1 IntKind.u64 0=V1 IntKind.u64 0,V1 IntKind.u64 0=V1 IntKind.u64 0,0=0/\(aX (ar m k,(50:TypeId)=(50:TypeId)/\bK m k (ar m k)/\ar m k≠[]).fst x).1.length=k'/\nZ=none,cl+1=cl',dJ 12 b (es++[(SV.v (VS x.p),VZ [SV.v (VS x.p),SV.v (V1 IntKind.u64 x.v),SV.v (vZ x.k),SV.sl 12 0 x.l none],cl)])=es',(es'.all fun e=>aw e.fst&&aw e.snd.fst)=true,List.map SV.v (vE (aX (ar m k,(50:TypeId)=(50:TypeId)/\bK m k (ar m k)/\ar m k≠[]).fst x).1)=m',m'.all ab=true,∀ (e:SV × SV × Nat),e∈es->a8 x.p e.fst,(x.1==x.1)=true,List.Mem x D/\x.4≠none,decide ((↑es.length:Int)≥256)=false,∀ (e:SV × SV × Nat),e∈es->a8 x.p e.fst,(!cF x.1 x.2 x.3 x.5==0)=false,x.1.size<=1000000000/\0<=x.2/\x.2<18446744073709551616,(50=50/\bK m k (ar m k)/\ar m k≠[])/\gS (ar m k) x/\(aX (ar m k,(50:TypeId)=(50:TypeId)/\bK m k (ar m k)/\ar m k≠[]).fst x).2=0,List.take 4 (List.drop (off+i.toNat*4) l)=eC x/\(eC x).length=4,ai i n=true,decide (i<(↑n:Int))=true]:=by kernel_rfl
theorem Pj (D:List ak) (ys:ak->List Int) (l m m':List SV) (off n c k k' j:Nat) (x f g:ak) (i i':Int) (es es':VQ) (cl cl' born:Nat):reach (mZ D ys) 2 400 (SM.at (fO off n c i) 6 (iL l es cl m k)) (ff [0] true++[(2,.cells (eC x))]++ff [3] true++ff [6] false++[(8,.cr)]++ff [22] false++ff [24] false++[(26,.cr)]) [(0,0),(1,1),(2,2),(3,3),(4,4),(5,7)] [0,4,5] (fO off n c i') 6 (iL l es' cl' m' k')=[0=0,0=0,0=0,off=off/\n=n/\some c=some c,vZ (↑n:Int)=vZ (↑n:Int),vZ (IntKind.i64.wrap (i+1))=vZ i',l=l,l.all ab=true,V1 IntKind.u64 0=V1 IntKind.u64 0,VT none 0 0=VT none 0 0,V1 IntKind.u64 0=V1 IntKind.u64 0,V1 IntKind.u64 0=V1 IntKind.u64 0,0=0/\(aX (ar m k,(50:TypeId)=(50:TypeId)/\bK m k (ar m k)/\ar m k≠[]).fst x).1.length=k'/\nZ=none,cl+1=cl',(es++[(SV.v (VS x.p),VZ [SV.v (VS x.p),SV.v (V1 IntKind.u64 x.v),SV.v (vZ x.k),SV.v (VT none 0 0)],cl)])=es',(es'.all fun e=>aw e.fst&&aw e.snd.fst)=true,List.map SV.v (vE (aX (ar m k,(50:TypeId)=(50:TypeId)/\bK m k (ar m k)/\ar m k≠[]).fst x).1)=m',m'.all ab=true,∀ (e:SV × SV × Nat),e∈es->a8 x.p e.fst,(x.1==x.1)=true,List.Mem x D/\x.4=none,decide ((↑es.length:Int)≥256)=false,∀ (e:SV × SV × Nat),e∈es->a8 x.p e.fst,(!cF x.1 x.2 x.3 x.5==0)=false,x.1.size<=1000000000/\0<=x.2/\x.2<18446744073709551616,(50=50/\bK m k (ar m k)/\ar m k≠[])/\gS (ar m k) x/\(aX (ar m k,(50:TypeId)=(50:TypeId)/\bK m k (ar m k)/\ar m k≠[]).fst x).2=0,List.take 4 (List.drop (off+i.toNat*4) l)=eC x/\(eC x).length=4,ai i n=true,decide (i<(↑n:Int))=true]:=by kernel_rfl
theorem Rr (D:List ak) (ys:ak->List Int) (l m m':List SV) (off n c k k' j:Nat) (x f g:ak) (i i':Int) (es es':VQ) (cl cl' born:Nat) (q:List SV) (b:Nat × Nat):fu (mZ D ys) 2 400 (SM.at (fO off n c i) 6 (iL l es cl m k)) (ff [0] true++[(2,.cells (eC x))]++ff [3] true++ff [6] false++[(8,.cr)]++ff [22] true++ff [24] false++[(25,.hit j (.agg [.v (.string g.p),.v (.int .u64 g.v),.v (.int .i64 g.k),.v (.slice g.a g.l g.c)]) born)]++ff [27] true++[(29,.cr)]) [(0,0),(1,1),(2,2),(3,3),(4,4),(5,7)] [0,4,5] (fO off n c i') 6 (iL l es' cl' m' k') 4 12 (.row q 5 (0,0) (some 1)) b=[List.map SV.v (List.map (V1 IntKind.u8) (ys x))=q,q.all ab=true,0=0,0=0,0=0,off=off/\n=n/\some c=some c,vZ (↑n:Int)=vZ (↑n:Int),vZ (IntKind.i64.wrap (i+1))=vZ i',l=l,l.all ab=true,V1 IntKind.u64 0=V1 IntKind.u64 0,VT none 0 0=VT none 0 0,V1 IntKind.u64 0=V1 IntKind.u64 0,V1 IntKind.u64 0=V1 IntKind.u64 0,0=0/\(aX (ar m k,(50:TypeId)=(50:TypeId)/\bK m k (ar m k)/\ar m k≠[]).fst x).1.length=k'/\nZ=none,cl+1=cl',dJ 12 b (es.eraseIdx j++[(SV.v (VS x.p),VZ [SV.v (VS x.p),SV.v (V1 IntKind.u64 x.v),SV.v (vZ x.k),SV.sl 12 0 x.l none],cl)])=es',(es'.all fun e=>aw e.fst&&aw e.snd.fst)=true,List.map SV.v (vE (aX (ar m k,(50:TypeId)=(50:TypeId)/\bK m k (ar m k)/\ar m k≠[]).fst x).1)=m',m'.all ab=true,∀ (e:SV × SV × Nat),e∈es.eraseIdx j->a8 x.p e.fst,(x.1==x.1)=true,List.Mem x D/\x.4≠none,(∀ (e:SV × SV × Nat),e∈List.take j es->a8 (jQ es) e.fst)/\es[j]?=some (SV.v (VS (jQ es)),VZ [SV.v (VS g.1),SV.v (V1 IntKind.u64 g.2),SV.v (vZ g.3),SV.v (VT g.4 g.5 g.6)],born),(!!(jQ es).toList==VO.toList)=false,66=66/\ua es cl,decide ((↑es.length:Int)≥256)=true,∀ (e:SV × SV × Nat),e∈es->a8 x.p e.fst,(!cF x.1 x.2 x.3 x.5==0)=false,x.1.size<=1000000000/\0<=x.2/\x.2<18446744073709551616,(50=50/\bK m k (ar m k)/\ar m k≠[])/\gS (ar m k) x/\(aX (ar m k,(50:TypeId)=(50:TypeId)/\bK m k (ar m k)/\ar m k≠[]).fst x).2=0,List.take 4 (List.drop (off+i.toNat*4) l)=eC x/\(eC x).length=4,ai i n=true,decide (i<(↑n:Int))=true]:=by kernel_rfl
theorem PF (D:List ak) (ys:ak->List Int) (l m m':List SV) (off n c k k' j:Nat) (x f g:ak) (i i':Int) (es es':VQ) (cl cl' born:Nat):reach (mZ D ys) 2 400 (SM.at (fO off n c i) 6 (iL l es cl m k)) (ff [0] true++[(2,.cells (eC x))]++ff [3] true++ff [6] false++[(8,.cr)]++ff [22] true++ff [24] false++[(25,.hit j (.agg [.v (.string g.p),.v (.int .u64 g.v),.v (.int .i64 g.k),.v (.slice g.a g.l g.c)]) born)]++ff [27] false++[(29,.cr)]) [(0,0),(1,1),(2,2),(3,3),(4,4),(5,7)] [0,4,5] (fO off n c i') 6 (iL l es' cl' m' k')=[0=0,0=0,0=0,off=off/\n=n/\some c=some c,vZ (↑n:Int)=vZ (↑n:Int),vZ (IntKind.i64.wrap (i+1))=vZ i',l=l,l.all ab=true,V1 IntKind.u64 0=V1 IntKind.u64 0,VT none 0 0=VT none 0 0,V1 IntKind.u64 0=V1 IntKind.u64 0,V1 IntKind.u64 0=V1 IntKind.u64 0,0=0/\(aX (ar m k,(50:TypeId)=(50:TypeId)/\bK m k (ar m k)/\ar m k≠[]).fst x).1.length=k'/\nZ=none,cl+1=cl',(es.eraseIdx j++[(SV.v (VS x.p),VZ [SV.v (VS x.p),SV.v (V1 IntKind.u64 x.v),SV.v (vZ x.k),SV.v (VT none 0 0)],cl)])=es',(es'.all fun e=>aw e.fst&&aw e.snd.fst)=true,List.map SV.v (vE (aX (ar m k,(50:TypeId)=(50:TypeId)/\bK m k (ar m k)/\ar m k≠[]).fst x).1)=m',m'.all ab=true,∀ (e:SV × SV × Nat),e∈es.eraseIdx j->a8 x.p e.fst,(x.1==x.1)=true,List.Mem x D/\x.4=none,(∀ (e:SV × SV × Nat),e∈List.take j es->a8 (jQ es) e.fst)/\es[j]?=some (SV.v (VS (jQ es)),VZ [SV.v (VS g.1),SV.v (V1 IntKind.u64 g.2),SV.v (vZ g.3),SV.v (VT g.4 g.5 g.6)],born),(!!(jQ es).toList==VO.toList)=false,66=66/\ua es cl,decide ((↑es.length:Int)≥256)=true,∀ (e:SV × SV × Nat),e∈es->a8 x.p e.fst,(!cF x.1 x.2 x.3 x.5==0)=false,x.1.size<=1000000000/\0<=x.2/\x.2<18446744073709551616,(50=50/\bK m k (ar m k)/\ar m k≠[])/\gS (ar m k) x/\(aX (ar m k,(50:TypeId)=(50:TypeId)/\bK m k (ar m k)/\ar m k≠[]).fst x).2=0,List.take 4 (List.drop (off+i.toNat*4) l)=eC x/\(eC x).length=4,ai i n=true,decide (i<(↑n:Int))=true]:=by kernel_rfl
def QP:Option (SO × Bool):=some (.row [.v (.int .u64 0),.map 1] 66 (0,0) none,true)
theorem SK (D:List ak) (ys:ak->List Int) (l:List SV) (off n c:Nat) (i:Int):iN (mZ D ys) 8 100 (SM.at (fO off n c i) 6 (uO l)) (ff [0] false) [(0,2)] [] (.tup [.ptr 0 0,.v (.agg #[.int .u64 0,.slice none 0 0]),.v (.bool true)]) [ON]=[0=0,Value.agg { toList:=[V1 IntKind.u64 0,VT none 0 0]:Array Value }=Value.agg { toList:=[V1 IntKind.u64 0,VT none 0 0]:Array Value },VU true=VU true,V1 IntKind.u64 0=V1 IntKind.u64 0,Value.map none=Value.map none,true=true,true=true,decide (i<(↑n:Int))=false]:=by kernel_rfl
theorem SS (D:List ak) (ys:ak->List Int) (l m:List SV) (off n c k:Nat) (i:Int) (es:VQ) (cl:Nat):iN (mZ D ys) 8 100 (SM.at (fO off n c i) 6 (iL l es cl m k)) (ff [0] false) [(0,2),(1,4),(2,5)] [1,2] (.tup [.ptr 0 0,.agg [.v (.int .u64 0),.sl 2 0 k none],.v (.bool true)]) [QP,L3 es cl,fA m]=[0=0,V1 IntKind.u64 0=V1 IntKind.u64 0,0=0/\k=k/\nZ=none,VU true=VU true,V1 IntKind.u64 0=V1 IntKind.u64 0,cl=cl,es=es,(es.all fun e=>aw e.fst&&aw e.snd.fst)=true,m=m,m.all ab=true,0=0/\k=k/\nZ=none,true=true,decide (i<(↑n:Int))=false]:=by kernel_rfl
def PX (D:List ak) (ys:ak->List Int) (w:World):Prop:=MX w/\∀ x∈D,eZ w x.a x.l (ys x)
theorem eZ.keep {w0 w:World} {a:Option Addr} {l:Nat} {ys:List Int} (h:eZ w0 a l ys) (hk:∀ k,k<w0.heap.size->w.heap[k]?=w0.heap[k]?):eZ w a l ys:=by
 obtain ⟨h1,h2,h3⟩:=h;refine ⟨h1,h2,fun b hb i hi W' hW=>h3 b hb i hi W' fun k ξ=>?_⟩;rw [<- hk k ξ];refine hW k ?_;have h4:=hk k ξ;rw [WS ξ] at h4;exact (VY.1 h4).1
theorem PX.keep {D:List ak} {ys:ak->List Int} {w0 w:World} (h:PX D ys w0) (hk:∀ k,k<w0.heap.size->w.heap[k]?=w0.heap[k]?):PX D ys w:=⟨h.1.keep hk,fun x hx=>(h.2 x hx).keep hk⟩
theorem GK {P:Program} {X Y:World->Prop} {r:FuncId × Sum} (h:bh P X r) (hXY:∀ w,Y w->X w):bh P Y r:=
 ⟨h.1,fun args x s s' hx ob=>⟨(h.2 args x s s' hx ob).1,fun ν M w0 w a hr hY ha=>(h.2 args x s s' hx ob).2 ν M w0 w a hr (hXY w hY) ha⟩⟩
theorem Lb {D:List ak} {ys:ak->List Int}:bh Tryz.prog (PX D ys) (62,gq (jX (J5 D ys)) (ln (MO D))):=by
 refine bh.br (mu ⟨_,Tryz.func62,by kernel_rfl,by kernel_rfl⟩ (fun args sh zs n C elem mk mv p h ν x y hv=>?_) fun args sh zs n C elem mk mv p h hp ν M w0 w a hr hX ha=>?_) (lM ⟨_,Tryz.func62,by kernel_rfl,by kernel_rfl⟩ fun args sh v p h hp ν M w0 w a hr hX ha=>?_)
 ·dsimp only [J5] at h;split at h
  ·split at h
   ·cases h;exact VR.bx.2 ⟨_,rfl,au.cons (VR.ae.2 rfl) (au.cons (VR.ae.2 rfl) (au.cons (VR.ae.2 rfl) (au.cons hv au.nil)))⟩
   ·cases h
  ·cases h
 ·dsimp only [J5] at h;split at h
  ·rename_i Xa;split at h
   ·rename_i x hx;cases h;obtain ⟨y1,ZY,rfl,q1,YV⟩:=ha.cons_inv;obtain rfl:=YV.ay;obtain rfl:=rN hx q1;refine (qP (hX.2 x hp.1)).mono fun e w' ⟨hB,a,c,l,he,h⟩=>⟨hB,?_⟩;rcases h with ⟨h1,_⟩ | ⟨_,h1,b,h2,h3⟩
    ·exact absurd h1 hp.2
    ·subst h1 h2;exact ⟨_,he,h3⟩
   ·cases h
  ·cases h
 ·dsimp only [MO] at h;split at h
  ·rename_i Xa;split at h
   ·rename_i x hx;cases h;obtain ⟨y1,ZY,rfl,q1,YV⟩:=ha.cons_inv;obtain rfl:=YV.ay;obtain rfl:=rN hx q1;refine (qP (hX.2 x hp.1)).mono fun e w' ⟨hB,a,c,l,he,h⟩=>⟨hB,?_⟩;rcases h with ⟨_,h1,h2,h3⟩ | ⟨h1,_⟩
    ·subst h1 h2 h3;exact ⟨_,he,VR.bx.2 ⟨_,rfl,au.cons (VR.ae.2 rfl) (au.cons (VR.ae.2 rfl) (au.cons (VR.ae.2 rfl) (au.cons (VR.ae.2 rfl) au.nil)))⟩⟩
    ·exact absurd hp.2 h1
   ·cases h
  ·cases h
theorem B7 {M0 M:Own} {w00 w0:World} {D:List ak} {ys:ak->List Int} (hM:∀ z,¬ M0 z) (hB:dh M0 w00 M w0) (hX:PX D ys w00):aK (mZ D ys) M w0:=
 aK.uS (Checked.mixed Tryz.checked) (by kernel_rfl) (fk.of iI rfl dK) (dz.list (X:=PX D ys) (l:=PQ D ys) rfl (fun r h=>by
  simp only [PQ,V8,Ww,Xc] at h
  rcases h with rfl | rfl | rfl | rfl
  ·exact Ji
  ·exact GK (bh.pure (r:=(58,jU)) IB) fun w h=>h.1
  ·exact GK GB fun w h=>h.1
  ·exact Lb) fun ν s w hr _=>hX.keep fun k hk=>(hr.frame k (Wz hk hB.size) (hB.frame k hk (hM k)).2).trans (hB.frame k hk (hM k)).1) (fun f g h=>by cases h)
theorem p8 (o:Nat) (b:Nat × Nat):∀ E:List bH,dJ o b (E.map mC)=E.map mC
 | []=>rfl
 | e::E=>by
  show _::dJ o b (E.map mC)=_
  rw [p8 o b E];rfl
theorem bt {o:Nat} {b:Nat × Nat} {E:List bH} {y:ak} {k v:SV} {n:Nat} (h:(k,oi o b v,n)=mC (y,n)):dJ o b (E.map mC++[(k,v,n)])=(E++[(y,n)]).map mC:=by
 unfold dJ;rw [Wq,Wq];have:=p8 o b E;unfold dJ at this;rw [this,WD,WD,h];rfl
theorem ix {g:SV × SV × Nat->SV × SV × Nat} {g':bH->bH} (h:∀ e,g (mC e)=mC (g' e)):∀ (E:List bH) (j:Nat),(E.map mC).modify j g=(E.modify j g').map mC
 | [],j=>by simp
 | e::E,0=>by simp [h]
 | e::E,j+1=>by simp [ix h E j]
theorem fC {o:Nat} {b:Nat × Nat} {g:SV × SV × Nat->SV × SV × Nat} {g':bH->bH} (h:∀ e,((g (mC e)).1,oi o b (g (mC e)).2.1,(g (mC e)).2.2)=mC (g' e)):∀ (E:List bH) (j:Nat),dJ o b ((E.map mC).modify j g)=(E.modify j g').map mC
 | [],j=>by simp [dJ]
 | e::E,0=>by
  simp only [WD,List.modify_zero_cons]
  show _::dJ o b (E.map mC)=_
  rw [p8]
  exact congrArg (·::E.map mC) (h e)
 | e::E,j+1=>by
  simp only [WD,Ym]
  show _::dJ o b ((E.map mC).modify j g)=_
  rw [fC h E j];rfl
theorem ba {α β:Type} (f:α->β):∀ (l:List α) (j:Nat),(l.map f).eraseIdx j=(l.eraseIdx j).map f
 | [],j=>by simp
 | a::l,0=>by simp
 | a::l,j+1=>by simp [ba f l j]
theorem wq {E:List bH} (hn:(E.map fun e=>e.1.p).Nodup) {f:bH} (hf:f∈E):∃ j,D5 (E.map mC) f.1.p j (fR f) f.2/\E[j]?=some f:=by
 obtain ⟨j,hj⟩:=GH hn hf;refine ⟨j,hj,?_⟩;have h2:=hj.2;rw [Wv] at h2;obtain ⟨g,hg,h3⟩:=Wg.1 h2;rw [hg,Gx (h3:mC g=mC f)]
theorem xQ {E:List bH} {p:ByteArray} (hm:∀ e∈E,e.1.p≠p):∀ e∈E.map mC,a8 p e.1:=fun e he=>by
 obtain ⟨y,hy,rfl⟩:=Wc.1 he
 refine ⟨y.1.p,rfl,?_⟩
 rw [XA];intro h
 refine hm y hy ?_
 have:(p.data==y.1.p.data)=true:=h
 have:=Yv this
 cases hfp:p;cases hyp:y.1.p;rw [hfp,hyp] at this;cases this;rfl
theorem cK (a:ByteArray):(a==a)=true:=by
 show (a.data==a.data)=true;exact WB _
theorem jO (x:ak) (l:List ak):eK x l≠[]:=fun h=>by
 have:=ki x l
 rw [h] at this;simp at this
theorem qm {cm:ak->List Int} {E:List bH} {y:ak} {n:Nat}:((E++[(y,n)]).map (KM cm)).Perm (KE cm y::E.map (KM cm)):=by
 rw [Wq];exact List.perm_append_comm
structure Hs (D:List ak):Prop where
 size:∀ x∈D,x.p.size<=1000000000
 v:∀ x∈D,0<=x.v/\x.v<18446744073709551616
 nil:∀ x∈D,x.a=none->x.l=0
 Y2:D.length<=1000
theorem C0 {x:ak} (hc:cF x.p x.v x.k x.l=0) (h:0<=x.v):0<x.v:=by
 rcases Int.lt_or_eq_of_le h with h | h
 ·exact h
 ·exfalso;unfold cF at hc;rw [<- h] at hc;revert hc;cases fK x.p <;> simp [gX]
theorem u5 {x:ak} (hc:cF x.p x.v x.k x.l=0):x.p≠⟨#[]⟩:=by
 intro h
 have hu:fK x.p=false:=by
  unfold fK;cases hq:(aG x.p==0)
  ·rfl
  ·exact absurd (by rw [h];rfl) (mM x.p (by simpa using hq))
 unfold cF at hc;rw [hu] at hc;revert hc;simp
def eh (H:Hp) (e:ak) (zs:List Int):Prop:=(e.a=none/\e.l=0/\zs=[])\/∃ b rest,e.a=some ⟨b,0,none⟩/\H b=some (.cells ((zs.map (Value.int .u8))++rest).toArray 5 (0,0))/\zs.length=e.l
def Np:Value->Int | .int _ n=>n | _=>0
def iO (H:Hp) (e:ak):List Int:=match e.a with
 | none=>[]
 | some a=>match H a.1 with
  | some (.cells c _ _)=>(c.toList.take e.l).map Np
  | _=>[]
theorem eh.cont {H:Hp} {e:ak} {zs:List Int} (h:eh H e zs):iO H e=zs:=by
 unfold iO;rcases h with ⟨h1,_,rfl⟩ | ⟨b,rest,h1,h2,h3⟩
 ·rw [h1]
 ·rw [h1];dsimp only;rw [h2];dsimp only;rw [XG (by simp [h3]),We (by simp [h3]),WI];exact List.map_id' zs
theorem eh.mono {H H':Hp} {e:ak} {zs:List Int} (h:eh H e zs) (hs:H.Sub H'):eh H' e zs:=by
 rcases h with h | ⟨b,rest,h1,h2,h3⟩
 ·exact .inl h
 ·exact .inr ⟨b,rest,h1,hs _ _ h2,h3⟩
def Ie (w0:World) (e:ak):Prop:=∀ a,e.a=some a->w0.heap.size<=a.block
structure St (D:List ak) (ys:ak->List Int) (w0:World) (M:Own) (H:Hp) (M1:Own) (w1:World) (E:List bH) (cl:Nat) (xs:List ak):Prop where
 kept:Kept w0.hp M w0 H M1 w1
 inv:Inv (iO H) ys E cl xs
 data:∀ e∈E,∃ zs,eh H e.1 zs/\Ie w0 e.1
 sub:∀ e∈xs,e∈D/\cF e.p e.v e.k e.l=0
theorem St.next {D:List ak} {ys:ak->List Int} {w0:World} {M:Own} {H:Hp} {M1:Own} {w1:World} {E:List bH} {cl:Nat} {xs:List ak} {x:ak} (hS:St D ys w0 M H M1 w1 E cl xs) {H':Hp} {M2:Own} {w2:World} (hk:Kept w0.hp M w0 H' M2 w2) (hs:H.Sub H') {y:ak} {zs:List Int} (hy:eh H' y zs) (hyn:Ie w0 y)
  {E':List bH} {cl':Nat} {xs':List ak} (hE:∀ e∈E',e.1=y\/e∈E) (hx:x∈D/\cF x.p x.v x.k x.l=0) (Z9:∀ e∈xs',e=x\/e∈xs) (inv:(∀ e∈E,iO H e.1=iO H' e.1)->Inv (iO H') ys E' cl' xs'):St D ys w0 M H' M2 w2 E' cl' xs':=by
 have hold:∀ e∈E,∃ zs,eh H' e.1 zs/\Ie w0 e.1/\iO H e.1=iO H' e.1:=fun e he=>by
  obtain ⟨zs,h,hn⟩:=hS.data e he;exact ⟨zs,h.mono hs,hn,by rw [h.cont,(h.mono hs).cont]⟩
 refine ⟨hk,inv fun e he=>(by obtain ⟨_,_,_,h⟩:=hold e he;exact h),fun e he=>?_,fun e he=>?_⟩
 ·rcases hE e he with h | h
  ·exact ⟨zs,by rw [h];exact hy,by rw [h];exact hyn⟩
  ·obtain ⟨zs,h,hn,_⟩:=hold e h;exact ⟨zs,h,hn⟩
 ·rcases Z9 e he with h | h
  ·rw [h];exact hx
  ·exact hS.sub e h
theorem rB {x e:ak} {p:ByteArray} {xs:List ak} (h:e∈eK x (bg p xs)):e=x\/e∈xs:=by
 rcases V8.1 ((kc x _).mem_iff.1 h) with h | h
 ·exact .inl h
 ·exact .inr (Wo.1 h).1
theorem oX {x e:ak} {xs:List ak} (h:e∈eK x xs):e=x\/e∈xs:=V8.1 ((kc x _).mem_iff.1 h)
theorem gJ {H:Hp} {x:ak} {zs:List Int} {ν1:aP} {j:Nat} {b:Nat × Nat} {ob:Obj} (hl:zs.length=x.l) (h:OR ν1 j (.row (List.map SV.v (zs.map (Value.int .u8))) 5 (0,0) (some 1)) ob):eh (H.put b.1 ob) ⟨x.p,x.v,x.k,some ⟨b.1,0,none⟩,x.l,b.2⟩ zs:=by
 obtain ⟨vs,rest,rfl,hv,_⟩:=h;obtain rfl:=sW hv;exact .inr ⟨b.1,rest,rfl,by rw [Hp.bM];simp,hl⟩
def nc (e:bH):MapEntry:={ key:=.string e.1.p,val:=.agg (eV e.1).toArray,born:=e.2 }
theorem xz {ν:aP}:∀ {E:List bH} {l:List MapEntry},eI ν (E.map mC) l->l=E.map nc
 | [],_,h=>h
 | e::E,_,h=>by
  obtain ⟨z,zs,rfl,h1,h2,h3,h4⟩:=h
  have e1:z.key=.string e.1.p:=VR.ae.1 h1
  obtain ⟨a,hq,ha⟩:=VR.bx.1 h2
  have e2:a=eV e.1:=gi ha (au.lits ν (eV e.1))
  rw [xz h4,WD]
  congr 1
  obtain ⟨k,v,n⟩:=z
  dsimp only at e1 hq h3
  subst e1 hq e2
  have h3:e.2=n:=h3
  subst h3;rfl
structure jq (w:World) (b m:Nat) (s:Int) (E:List bH) (cl:Nat):Prop where
 row:w.heap[b]?=some (.cells #[.int .u64 s,.map (some m)] 66 (0,0))
 map:w.heap[m]?=some (.map (E.map nc).toArray cl)
def CG (D : List ak) (ys : ak -> List Int) (w0 : World) (e : Ending) (w' : World) : Prop := Below w0.heap.size w0 w' /\ ∃ b v, e = .returned (.tuple #[.pointer (some ⟨b, 0, none⟩), v, .bool true]) /\ w0.heap.size <= b /\
  ((w'.heap[b]? = some (.cells #[.int .u64 0, .map none] 66 (0, 0)) /\ v = .agg #[.int .u64 0, .slice none 0 0]) \/
   ∃ m E cl xs y, w0.heap.size <= m /\ jq w' b m 0 E cl /\ v = .agg #[.int .u64 0, y] /\ cG w0 w' y (vE xs) xs.length 4 50 /\ Inv (iO w'.hp) ys E cl xs /\ (∀ e ∈ E, ∃ zs, eh w'.hp e.1 zs /\ Ie w0 e.1) /\ (∀ e ∈ xs, e ∈ D /\ cF e.p e.v e.k e.l = 0) /\ xs ≠ [])
section
variable {w0:World} {cs0:List Frame} {D:List ak} {ys:ak->List Int} {M:Own} {off c:Nat} {ν:aP}
theorem Lo (hX:PX D ys w0) (hM:∀ z,¬ M z) (hD:Hs D) {i:Nat} (hi:i<D.length) (Zz:∀ i b,ν i=some b->i=0)
  (ih:∀ H M1 w1 E cl xs,St D ys w0 M H M1 w1 E cl xs->xs≠[]->af (mZ D ys) M1 w1 cs0 8 (CG D ys w0) ν (SM.at (fO off D.length c ((i+1:Nat):Int)) 6 (iL (aT eC off D) (E.map mC) cl (cE xs) xs.length)))
  {H:Hp} {M1:Own} {w1:World} {E:List bH} {cl:Nat} {xs:List ak} (hS:St D ys w0 M H M1 w1 E cl xs) (YI:xs≠[]):
  af (mZ D ys) M1 w1 cs0 8 (CG D ys w0) ν (SM.at (fO off D.length c (i:Int)) 6 (iL (aT eC off D) (E.map mC) cl (cE xs) xs.length)):=by
 have hI:=hS.inv;generalize hx:D[i]=x;have ZA:D[i]?=some x:=by rw [<- hx];exact V4 hi
 have Y4:x∈D:=by rw [<- hx];exact WT hi
 have Y2:=hD.Y2;have t1:decide ((i:Int)<(D.length:Int))=true:=V0 (by omega);have r1:=aJ hi;have ws:=aU (k:=i) (by omega);have ra:=gF (off:=off) c9 ZA;have YX:(aT eC off D).all ab=true:=ca cD;have x1:=hD.size x Y4;obtain ⟨x2,x3⟩:=hD.v x Y4;have Ω:(ys x).length=x.l:=(hX.2 x Y4).1;have Γ:x.a=none->ys x=[]:=fun h=>Wd.1 (by rw [Ω,hD.nil x Y4 h]);have ZV:=hI.Y2;have hh:bK (cE xs) xs.length xs:=xS xs (by omega);have hPI:gS xs x:=⟨x1,⟨x2,x3⟩,hI.sorted.names,hI.size⟩;have hlen:=hI.len;have hBI:ua (E.map mC) cl:=⟨E,rfl,hI.ok⟩;by_cases hc:cF x.p x.v x.k x.l=0
 ·have en:(!cF x.1 x.2 x.3 x.5==(0:Int))=false:=by rw [show cF x.1 x.2 x.3 x.5=0 from hc];rfl
  have hvp:=C0 hc x2;have hxf:=u5 hc;by_cases hit:∃ f∈E,f.1.p=x.p
  ·obtain ⟨f,hf,hp⟩:=hit;obtain ⟨j,hj,hjE⟩:=wq hI.ok.names hf;rw [hp] at hj;have hj1:=hj.1
   have hj2:(E.map mC)[j]?=some (SV.v (Value.string x.1),SV.agg [SV.v (Value.string x.1),SV.v (Value.int IntKind.u64 f.1.2),SV.v (Value.int IntKind.i64 f.1.3),SV.v (Value.slice f.1.4 f.1.5 f.1.6)],f.2):=by
    rw [hj.2];unfold fR;rw [hp]
   obtain ⟨hfv,hdl⟩:=hI.pj hf hp;by_cases hv:f.1.v≥x.v
   ·have hr:aX xs x=(xs,31):=by unfold aX;rw [if_neg (by simpa using hc),if_pos (by rw [hfv];exact hv)]
    have c2:(!decide (x.2>f.1.2))=true:=by simpa using hv
    refine af.reach (B7 hM hS.kept.base hX) (k:=2) (n:=400) (o:=(ff [0] true++[(2,.cells (eC x))]++ff [3,6] false++[(8,.hit j (.agg [.v (.string x.p),.v (.int .u64 f.1.v),.v (.int .i64 f.1.k),.v (.slice f.1.a f.1.l f.1.c)]) f.2)]++ff [14] true++ff [15] false)) (ren:=[(0,0),(1,1),(2,2),(3,3),(4,4),(5,5)]) (eqs:=[0,4,5]) ?_ (by kernel_rfl) (fun i b h=>by rw [Zz i b h];rfl) (ih H M1 w1 E cl xs hS YI);rw [U7 (f:=f.1) (g:=x) (j:=j) (born:=f.2)];simp only [ah,t1,r1,ra,ws,en,c9,aM,YX,na,eR,hr,e8,hPI,hh,YI,x1,x2,x3,eN,c2,hj2,VV,VX,VW];try (repeat' apply And.intro)
    all_goals first | rfl | assumption | exact hh | exact cK _ | exact Y4 | exact bJ _ | decide | (simp;done) | exact ix (fun e=>rfl) E _ | exact fC (fun e=>rfl) E _ | exact bt (E:=[]) rfl | exact bt rfl | (rw [Wq];rfl) | (rw [ba,Wq];rfl) | (rw [ba];exact bt rfl) | skip
   ·have hr:aX xs x=(eK x (bg x.p xs),0):=by unfold aX;rw [if_neg (by simpa using hc),if_neg (by rw [hfv];exact hv),if_neg (by omega)]
    have c2:(!decide (x.2>f.1.2))=false:=by simpa using hv
    have inv:∀ cm:ak->List Int,(∀ e∈E,iO H e.1=cm e.1)->∀ y:ak,KE cm y=KE ys x->Inv cm ys (E.modify j fun e=>(y,e.2)) cl (eK x (bg x.p xs)):=fun cm hcm y hy=>by
     have hI:=hI.cont hcm;refine Inv.new (hI.ok.mod hjE (by rw [hp];exact (Prod.mk.inj hy).1)) ?_ (hI.sorted.drop _) IP (by omega);refine ((jJ hjE).map (KM cm)).trans ?_;rw [WD,n9 hI.ok.names hjE,hp,zV];show (KE cm y::_).Perm _;rw [hy];exact (hI.ZP.filter _).cons _
    by_cases hn:x.a=none
    ·have ZH:eh H (⟨x.p,x.v,x.k,none,0,0⟩:ak) (ys x):=.inl ⟨rfl,rfl,Γ hn⟩;have nx:=ih H M1 w1 (E.modify j fun e=>((⟨x.p,x.v,x.k,none,0,0⟩:ak),e.2)) cl _ (hS.next (x:=x) hS.kept (Hp.Sub.refl _) ZH (fun a h=>by cases h) (fun e he=>(eU hjE he).elim (fun h=>.inl (by rw [h])) .inr) ⟨Y4,hc⟩ (fun e he=>rB he) fun hc=>inv _ hc (⟨x.p,x.v,x.k,none,0,0⟩:ak) (by unfold KE;rw [ZH.cont])) (jO _ _);refine af.reach (B7 hM hS.kept.base hX) (k:=2) (n:=400) (o:=(ff [0] true++[(2,.cells (eC x))]++ff [3] true++ff [6] false++[(8,.hit j (.agg [.v (.string x.p),.v (.int .u64 f.1.v),.v (.int .i64 f.1.k),.v (.slice f.1.a f.1.l f.1.c)]) f.2)]++ff [14] false++ff [24] false++[(26,.hit j (.agg [.v (.string x.p),.v (.int .u64 f.1.v),.v (.int .i64 f.1.k),.v (.slice f.1.a f.1.l f.1.c)]) f.2)])) (ren:=[(0,0),(1,1),(2,2),(3,3),(4,4),(5,7)]) (eqs:=[0,4,5]) ?_ (by kernel_rfl) (fun i b h=>by rw [Zz i b h];rfl) nx
     rw [Qs (f:=f.1) (g:=x) (j:=j) (born:=f.2)];simp only [ah,t1,r1,ra,ws,en,c9,aM,YX,na,eR,hr,e8,hPI,hh,YI,x1,x2,x3,eN,c2,hj2,VV,VX,VW];try (repeat' apply And.intro)
     all_goals first | rfl | assumption | exact hh | exact cK _ | exact Y4 | exact bJ _ | decide | (simp;done) | exact ix (fun e=>rfl) E _ | exact fC (fun e=>rfl) E _ | exact bt (E:=[]) rfl | exact bt rfl | (rw [Wq];rfl) | (rw [ba,Wq];rfl) | (rw [ba];exact bt rfl) | skip
    ·refine af.fu (B7 hM hS.kept.base hX) hM hS.kept (k:=2) (n:=400) (o:=(ff [0] true++[(2,.cells (eC x))]++ff [3] true++ff [6] false++[(8,.hit j (.agg [.v (.string x.p),.v (.int .u64 f.1.v),.v (.int .i64 f.1.k),.v (.slice f.1.a f.1.l f.1.c)]) f.2)]++ff [14] false++ff [24] true++[(26,.hit j (.agg [.v (.string x.p),.v (.int .u64 f.1.v),.v (.int .i64 f.1.k),.v (.slice f.1.a f.1.l f.1.c)]) f.2)])) (ren:=[(0,0),(1,1),(2,2),(3,3),(4,4),(5,7)]) (eqs:=[0,4,5]) (m:=4) (j:=14) (so:=.row (List.map SV.v ((ys x).map (Value.int .u8))) 5 (0,0) (some 1)) (fun b=>?_) (by kernel_rfl) (fun i b h=>by rw [Zz i b h];rfl) (fun ν1 b ob M2 w2 ZG YO hK YJ φ=>ih (H.put b.1 ob) M2 w2 (E.modify j fun e=>((⟨x.p,x.v,x.k,some ⟨b.1,0,none⟩,x.l,b.2⟩:ak),e.2)) cl _ (hS.next (x:=x) hK YJ (gJ Ω YO) (fun a h=>by cases h;exact φ) (fun e he=>(eU hjE he).elim (fun h=>.inl (by rw [h])) .inr) ⟨Y4,hc⟩ (fun e he=>rB he) fun hc=>inv _ hc (⟨x.p,x.v,x.k,some ⟨b.1,0,none⟩,x.l,b.2⟩:ak) (by unfold KE;rw [(gJ (H:=H) (b:=b) (x:=x) Ω YO).cont])) (jO _ _))
     rw [Rc (f:=f.1) (g:=x) (j:=j) (born:=f.2)];simp only [ah,t1,r1,ra,ws,en,c9,aM,YX,na,eR,hr,e8,hPI,hh,YI,x1,x2,x3,eN,c2,hj2,VV,VX,VW];try (repeat' apply And.intro)
     all_goals first | rfl | assumption | exact hh | exact cK _ | exact Y4 | exact bJ _ | decide | (simp;done) | exact ix (fun e=>rfl) E _ | exact fC (fun e=>rfl) E _ | exact bt (E:=[]) rfl | exact bt rfl | (rw [Wq];rfl) | (rw [ba,Wq];rfl) | (rw [ba];exact bt rfl) | skip
  ·have hm:∀ f∈E,f.1.p≠x.p:=fun f hf h=>hit ⟨f,hf,h⟩;have hms:=xQ hm;have Z9:=hI.cr hm;obtain ⟨ZO,hdn⟩:=EM Z9;have hnv:¬ (fx x.p xs).v≥x.v:=by rw [ZO];show ¬ (0:Int)≥x.v;omega
   by_cases hl:xs.length≥256
   ·have c3:decide (((E.map mC).length:Int)≥(256:Int))=true:=V0 (by rw [WH];omega);cases hb:ja xs with
    | none=>
     have hr:aX xs x=(xs,24):=by unfold aX;rw [if_neg (by simpa using hc),if_neg hnv,hdn,if_pos hl,hb]
     have hbg:=su hI.ok (hI.DY hb);have c4:(!!(jQ (E.map mC)).toList==({ data:={ toList:=[]:Array UInt8 } }:ByteArray).toList)=true:=by rw [hbg];simp
     refine af.reach (B7 hM hS.kept.base hX) (k:=2) (n:=400) (o:=(ff [0] true++[(2,.cells (eC x))]++ff [3,6] false++[(8,.cr)]++ff [22,24] true++ff [25] false)) (ren:=[(0,0),(1,1),(2,2),(3,3),(4,4),(5,5)]) (eqs:=[0,4,5]) ?_ (by kernel_rfl) (fun i b h=>by rw [Zz i b h];rfl) (ih H M1 w1 E cl xs hS YI);rw [RB (f:=x) (g:=x) (j:=0) (born:=0)];simp only [ah,t1,r1,ra,ws,en,c9,aM,YX,na,eR,hr,e8,hPI,hh,YI,x1,x2,x3,eN,c3,c4,VV,VX,VW];try (repeat' apply And.intro)
     all_goals first | rfl | assumption | exact hh | exact cK _ | exact Y4 | exact bJ _ | decide | (simp;done) | exact ix (fun e=>rfl) E _ | exact fC (fun e=>rfl) E _ | exact bt (E:=[]) rfl | exact bt rfl | (rw [Wq];rfl) | (rw [ba,Wq];rfl) | (rw [ba];exact bt rfl) | skip
    | some e=>
     obtain ⟨hba,hex⟩:=hI.DP hb;have hbg:=su hI.ok hba;obtain ⟨g,hg,hgk⟩:=hI.to hex;have hgp:=(lD hgk).1;obtain ⟨j,hj,hjE⟩:=wq hI.ok.names hg;have hgf:=hI.ok.full g hg;have hj1:∀ e∈List.take j (E.map mC),a8 (jQ (E.map mC)) e.fst:=by rw [hbg,<- hgp];exact hj.1
     have hj2:(E.map mC)[j]?=some (SV.v (Value.string (jQ (E.map mC))),SV.agg [SV.v (Value.string g.1.1),SV.v (Value.int IntKind.u64 g.1.2),SV.v (Value.int IntKind.i64 g.1.3),SV.v (Value.slice g.1.4 g.1.5 g.1.6)],g.2):=by rw [hj.2,hbg,<- hgp];rfl
     have c4:(!!(jQ (E.map mC)).toList==({ data:={ toList:=[]:Array UInt8 } }:ByteArray).toList)=false:=by rw [hbg,<- hgp,vt hgf];rfl
     have hr:aX xs x=(eK x (bg e.p xs),0):=by unfold aX;rw [if_neg (by simpa using hc),if_neg hnv,hdn,if_pos hl,hb]
     have hdl:(bg e.p xs).length<xs.length:=Xm.2 ⟨e,hex,by rw [gw.2 rfl];simp⟩;have hm':∀ f∈E.eraseIdx j,f.1.p≠x.p:=fun f hf=>hm f (XY hf);have hms':=xQ hm';rw [<- ba] at hms'
     have inv:∀ cm:ak->List Int,(∀ e∈E,iO H e.1=cm e.1)->∀ y:ak,KE cm y=KE ys x->Inv cm ys (E.eraseIdx j++[(y,cl)]) (cl+1) (eK x (bg e.p xs)):=fun cm hcm y hy=>by
      have hI:=hI.cont hcm;have hyp:y.p=x.p:=(Prod.mk.inj hy).1;have Zv:=hI.ok.sub (List.eraseIdx_sublist E j);refine Inv.new (Zv.snoc (by rw [hyp];exact hm') (by rw [hyp];exact hxf) (by rw [hyp];exact x1)) ?_ (hI.sorted.drop _) (fun z hz=>Z9 z (Wo.1 hz).1) (by omega);refine qm.trans ?_;rw [n9 hI.ok.names hjE,hgp,zV,hy];exact (hI.ZP.filter _).cons _
     by_cases hn:x.a=none
     ·have ZH:eh H (⟨x.p,x.v,x.k,none,0,0⟩:ak) (ys x):=.inl ⟨rfl,rfl,Γ hn⟩;have nx:=ih H M1 w1 (E.eraseIdx j++[((⟨x.p,x.v,x.k,none,0,0⟩:ak),cl)]) (cl+1) _ (hS.next (x:=x) hS.kept (Hp.Sub.refl _) ZH (fun a h=>by cases h) (fun e he=>(WJ.1 he).elim (fun h=>.inr (XY h)) fun h=>.inl (by rw [Wk.1 h])) ⟨Y4,hc⟩ (fun e he=>rB he) fun hc=>inv _ hc (⟨x.p,x.v,x.k,none,0,0⟩:ak) (by unfold KE;rw [ZH.cont])) (jO _ _);refine af.reach (B7 hM hS.kept.base hX) (k:=2) (n:=400) (o:=(ff [0] true++[(2,.cells (eC x))]++ff [3] true++ff [6] false++[(8,.cr)]++ff [22] true++ff [24] false++[(25,.hit j (.agg [.v (.string g.1.p),.v (.int .u64 g.1.v),.v (.int .i64 g.1.k),.v (.slice g.1.a g.1.l g.1.c)]) g.2)]++ff [27] false++[(29,.cr)])) (ren:=[(0,0),(1,1),(2,2),(3,3),(4,4),(5,7)]) (eqs:=[0,4,5]) ?_ (by kernel_rfl) (fun i b h=>by rw [Zz i b h];rfl) nx;rw [PF (f:=x) (g:=g.1) (j:=j) (born:=g.2)]
      simp only [ah,t1,r1,ra,ws,en,c9,aM,YX,na,eR,hr,e8,hPI,hh,YI,x1,x2,x3,eN,c3,c4,hj2,VV,VX,VW];try (repeat' apply And.intro)
      all_goals first | rfl | assumption | exact hh | exact cK _ | exact Y4 | exact bJ _ | decide | (simp;done) | exact ix (fun e=>rfl) E _ | exact fC (fun e=>rfl) E _ | exact bt (E:=[]) rfl | exact bt rfl | (rw [Wq];rfl) | (rw [ba,Wq];rfl) | (rw [ba];exact bt rfl) | skip
     ·refine af.fu (B7 hM hS.kept.base hX) hM hS.kept (k:=2) (n:=400) (o:=(ff [0] true++[(2,.cells (eC x))]++ff [3] true++ff [6] false++[(8,.cr)]++ff [22] true++ff [24] false++[(25,.hit j (.agg [.v (.string g.1.p),.v (.int .u64 g.1.v),.v (.int .i64 g.1.k),.v (.slice g.1.a g.1.l g.1.c)]) g.2)]++ff [27] true++[(29,.cr)])) (ren:=[(0,0),(1,1),(2,2),(3,3),(4,4),(5,7)]) (eqs:=[0,4,5]) (m:=4) (j:=12) (so:=.row (List.map SV.v ((ys x).map (Value.int .u8))) 5 (0,0) (some 1)) (fun b=>?_) (by kernel_rfl) (fun i b h=>by rw [Zz i b h];rfl) (fun ν1 b ob M2 w2 ZG YO hK YJ φ=>ih (H.put b.1 ob) M2 w2 (E.eraseIdx j++[((⟨x.p,x.v,x.k,some ⟨b.1,0,none⟩,x.l,b.2⟩:ak),cl)]) (cl+1) _ (hS.next (x:=x) hK YJ (gJ Ω YO) (fun a h=>by cases h;exact φ) (fun e he=>(WJ.1 he).elim (fun h=>.inr (XY h)) fun h=>.inl (by rw [Wk.1 h])) ⟨Y4,hc⟩ (fun e he=>rB he) fun hc=>inv _ hc (⟨x.p,x.v,x.k,some ⟨b.1,0,none⟩,x.l,b.2⟩:ak) (by unfold KE;rw [(gJ (H:=H) (b:=b) (x:=x) Ω YO).cont])) (jO _ _))
      rw [Rr (f:=x) (g:=g.1) (j:=j) (born:=g.2)];simp only [ah,t1,r1,ra,ws,en,c9,aM,YX,na,eR,hr,e8,hPI,hh,YI,x1,x2,x3,eN,c3,c4,hj2,VV,VX,VW];try (repeat' apply And.intro)
      all_goals first | rfl | assumption | exact hh | exact cK _ | exact Y4 | exact bJ _ | decide | (simp;done) | exact ix (fun e=>rfl) E _ | exact fC (fun e=>rfl) E _ | exact bt (E:=[]) rfl | exact bt rfl | (rw [Wq];rfl) | (rw [ba,Wq];rfl) | (rw [ba];exact bt rfl) | skip
   ·have c3:decide (((E.map mC).length:Int)≥(256:Int))=false:=V2 (by rw [WH];omega);have hr:aX xs x=(eK x xs,0):=by unfold aX;rw [if_neg (by simpa using hc),if_neg hnv,hdn,if_neg hl]
    have inv:∀ cm:ak->List Int,(∀ e∈E,iO H e.1=cm e.1)->∀ y:ak,KE cm y=KE ys x->Inv cm ys (E++[(y,cl)]) (cl+1) (eK x xs):=fun cm hcm y hy=>by
     have hI:=hI.cont hcm;have hyp:y.p=x.p:=(Prod.mk.inj hy).1;refine Inv.new (hI.ok.snoc (by rw [hyp];exact hm) (by rw [hyp];exact hxf) (by rw [hyp];exact x1)) ?_ hI.sorted Z9 (by omega);refine qm.trans ?_;rw [hy];exact hI.ZP.cons _
    by_cases hn:x.a=none
    ·have ZH:eh H (⟨x.p,x.v,x.k,none,0,0⟩:ak) (ys x):=.inl ⟨rfl,rfl,Γ hn⟩;have nx:=ih H M1 w1 (E++[((⟨x.p,x.v,x.k,none,0,0⟩:ak),cl)]) (cl+1) _ (hS.next (x:=x) hS.kept (Hp.Sub.refl _) ZH (fun a h=>by cases h) (fun e he=>(WJ.1 he).elim (fun h=>.inr h) fun h=>.inl (by rw [Wk.1 h])) ⟨Y4,hc⟩ (fun e he=>oX he) fun hc=>inv _ hc (⟨x.p,x.v,x.k,none,0,0⟩:ak) (by unfold KE;rw [ZH.cont])) (jO _ _);refine af.reach (B7 hM hS.kept.base hX) (k:=2) (n:=400) (o:=(ff [0] true++[(2,.cells (eC x))]++ff [3] true++ff [6] false++[(8,.cr)]++ff [22] false++ff [24] false++[(26,.cr)])) (ren:=[(0,0),(1,1),(2,2),(3,3),(4,4),(5,7)]) (eqs:=[0,4,5]) ?_ (by kernel_rfl) (fun i b h=>by rw [Zz i b h];rfl) nx;rw [Pj (f:=x) (g:=x) (j:=0) (born:=0)];simp only [ah,t1,r1,ra,ws,en,c9,aM,YX,na,eR,hr,e8,hPI,hh,YI,x1,x2,x3,eN,c3,VV,VX,VW];try (repeat' apply And.intro)
     all_goals first | rfl | assumption | exact hh | exact cK _ | exact Y4 | exact bJ _ | decide | (simp;done) | exact ix (fun e=>rfl) E _ | exact fC (fun e=>rfl) E _ | exact bt (E:=[]) rfl | exact bt rfl | (rw [Wq];rfl) | (rw [ba,Wq];rfl) | (rw [ba];exact bt rfl) | skip
    ·refine af.fu (B7 hM hS.kept.base hX) hM hS.kept (k:=2) (n:=400) (o:=(ff [0] true++[(2,.cells (eC x))]++ff [3] true++ff [6] false++[(8,.cr)]++ff [22] false++ff [24] true++[(26,.cr)])) (ren:=[(0,0),(1,1),(2,2),(3,3),(4,4),(5,7)]) (eqs:=[0,4,5]) (m:=4) (j:=12) (so:=.row (List.map SV.v ((ys x).map (Value.int .u8))) 5 (0,0) (some 1)) (fun b=>?_) (by kernel_rfl) (fun i b h=>by rw [Zz i b h];rfl) (fun ν1 b ob M2 w2 ZG YO hK YJ φ=>ih (H.put b.1 ob) M2 w2 (E++[((⟨x.p,x.v,x.k,some ⟨b.1,0,none⟩,x.l,b.2⟩:ak),cl)]) (cl+1) _ (hS.next (x:=x) hK YJ (gJ Ω YO) (fun a h=>by cases h;exact φ) (fun e he=>(WJ.1 he).elim (fun h=>.inr h) fun h=>.inl (by rw [Wk.1 h])) ⟨Y4,hc⟩ (fun e he=>oX he) fun hc=>inv _ hc (⟨x.p,x.v,x.k,some ⟨b.1,0,none⟩,x.l,b.2⟩:ak) (by unfold KE;rw [(gJ (H:=H) (b:=b) (x:=x) Ω YO).cont])) (jO _ _));rw [Sn (f:=x) (g:=x) (j:=0) (born:=0)]
     simp only [ah,t1,r1,ra,ws,en,c9,aM,YX,na,eR,hr,e8,hPI,hh,YI,x1,x2,x3,eN,c3,VV,VX,VW];try (repeat' apply And.intro)
     all_goals first | rfl | assumption | exact hh | exact cK _ | exact Y4 | exact bJ _ | decide | (simp;done) | exact ix (fun e=>rfl) E _ | exact fC (fun e=>rfl) E _ | exact bt (E:=[]) rfl | exact bt rfl | (rw [Wq];rfl) | (rw [ba,Wq];rfl) | (rw [ba];exact bt rfl) | skip
 ·have en:(!cF x.1 x.2 x.3 x.5==(0:Int))=true:=by simpa using hc
  have hr:aX xs x=(xs,cF x.p x.v x.k x.l):=by unfold aX;rw [if_pos hc]
  refine af.reach (B7 hM hS.kept.base hX) (k:=2) (n:=400) (o:=(ff [0] true++[(2,.cells (eC x))]++ff [3] false++ff [6] true++ff [7] false)) (ren:=[(0,0),(1,1),(2,2),(3,3),(4,4),(5,5)]) (eqs:=[0,4,5]) ?_ (by kernel_rfl) (fun i b h=>by rw [Zz i b h];rfl) (ih H M1 w1 E cl xs hS YI);rw [SE (f:=x) (g:=x) (j:=0) (born:=0)];simp only [ah,t1,r1,ra,ws,en,c9,aM,YX,na,eR,hr,e8,hPI,hh,YI,x1,x2,x3,eN, VV,VX,VW];try (repeat' apply And.intro)
  all_goals first | rfl | assumption | exact hh | exact cK _ | exact Y4 | exact bJ _ | decide | (simp;done) | exact ix (fun e=>rfl) E _ | exact fC (fun e=>rfl) E _ | exact bt (E:=[]) rfl | exact bt rfl | (rw [Wq];rfl) | (rw [ba,Wq];rfl) | (rw [ba];exact bt rfl) | skip
end
theorem SQ (a:Option Addr) (c:Nat):iN (mZ [] fun _=>[]) 8 100 (a7 (mZ [] fun _=>[]) 8 [.v (.slice a 0 c)]) VP [(0,1)] [] (.tup [.ptr 0 0,.v (.agg #[.int .u64 0,.slice none 0 0]),.v (.bool true)]) [ON]=[0=0,Value.agg { toList:=[V1 IntKind.u64 0,VT none 0 0]:Array Value }=Value.agg { toList:=[V1 IntKind.u64 0,VT none 0 0]:Array Value },VU true=VU true,V1 IntKind.u64 0=V1 IntKind.u64 0,Value.map none=Value.map none,true=true,true=true]:=by kernel_rfl
theorem Inv.nil {cm ys:ak->List Int}:Inv cm ys [] 0 []:=
 ⟨⟨by simp,by simp,fun e he=>(nomatch he),fun e he=>(nomatch he),fun e he=>(nomatch he)⟩,List.Perm.refl _,List.Pairwise.nil,by simp⟩
theorem St.nil {D:List ak} {ys:ak->List Int} {w0:World} {M:Own} {H:Hp} {M1:Own} {w1:World} (hk:Kept w0.hp M w0 H M1 w1):St D ys w0 M H M1 w1 [] 0 []:=
 ⟨hk,Inv.nil,fun e he=>(nomatch he),fun e he=>(nomatch he)⟩
section
variable {w0:World} {cs0:List Frame} {D:List ak} {ys:ak->List Int} {M:Own} {off c:Nat} {ν:aP}
theorem LX (hX:PX D ys w0) (hM:∀ z,¬ M z) (hD:Hs D) {i:Nat} (hi:i<D.length) (Zz:∀ i b,ν i=some b->i=0)
  (ih:∀ H M1 w1 E cl xs,St D ys w0 M H M1 w1 E cl xs->xs≠[]->af (mZ D ys) M1 w1 cs0 8 (CG D ys w0) ν (SM.at (fO off D.length c ((i+1:Nat):Int)) 6 (iL (aT eC off D) (E.map mC) cl (cE xs) xs.length)))
  (ih0:∀ H M1 w1,Kept w0.hp M w0 H M1 w1->af (mZ D ys) M1 w1 cs0 8 (CG D ys w0) ν (SM.at (fO off D.length c ((i+1:Nat):Int)) 6 (uO (aT eC off D))))
  {H:Hp} {M1:Own} {w1:World} (hk:Kept w0.hp M w0 H M1 w1):af (mZ D ys) M1 w1 cs0 8 (CG D ys w0) ν (SM.at (fO off D.length c (i:Int)) 6 (uO (aT eC off D))):=by
 have hS:=St.nil (D:=D) (ys:=ys) hk;have hI:=hS.inv;generalize hx:D[i]=x;have ZA:D[i]?=some x:=by rw [<- hx];exact V4 hi
 have Y4:x∈D:=by rw [<- hx];exact WT hi
 have Y2:=hD.Y2;have t1:decide ((i:Int)<(D.length:Int))=true:=V0 (by omega);have r1:=aJ hi;have ws:=aU (k:=i) (by omega);have ra:=gF (off:=off) c9 ZA;have YX:(aT eC off D).all ab=true:=ca cD;have x1:=hD.size x Y4;obtain ⟨x2,x3⟩:=hD.v x Y4;have Ω:(ys x).length=x.l:=(hX.2 x Y4).1;have Γ:x.a=none->ys x=[]:=fun h=>Wd.1 (by rw [Ω,hD.nil x Y4 h]);have hPI:gS [] x:=⟨x1,⟨x2,x3⟩,by simp,fun e he=>(nomatch he)⟩;by_cases hc:cF x.p x.v x.k x.l=0
 ·have en:(!cF x.1 x.2 x.3 x.5==(0:Int))=false:=by rw [show cF x.1 x.2 x.3 x.5=0 from hc];rfl
  have hvp:=C0 hc x2;have hxf:=u5 hc
  have hr:aX [] x=(eK x [],0):=by
   unfold aX;rw [if_neg (by simpa using hc),if_neg (by show ¬ (0:Int)≥x.v;omega),if_neg (by show ¬ (0:Nat)≥256;omega)];rfl
  have inv:∀ cm:ak->List Int,∀ y:ak,KE cm y=KE ys x->Inv cm ys ([]++[(y,0)]) (0+1) (eK x []):=fun cm y hy=>by
   have hI:=Inv.nil (cm:=cm) (ys:=ys);have hyp:y.p=x.p:=(Prod.mk.inj hy).1;refine Inv.new (hI.ok.snoc (fun e he=>by cases he) (by rw [hyp];exact hxf) (by rw [hyp];exact x1)) ?_ hI.sorted (fun e he=>by cases he) (by simp);refine qm.trans ?_;rw [hy];exact hI.ZP.cons _
  by_cases hn:x.a=none
  ·have ZH:eh H (⟨x.p,x.v,x.k,none,0,0⟩:ak) (ys x):=.inl ⟨rfl,rfl,Γ hn⟩;have nx:=ih H M1 w1 ([]++[((⟨x.p,x.v,x.k,none,0,0⟩:ak),0)]) (0+1) _ (hS.next (x:=x) hS.kept (Hp.Sub.refl _) ZH (fun a h=>by cases h) (fun e he=>.inl (by rw [Wk.1 he])) ⟨Y4,hc⟩ (fun e he=>oX he) fun _=>inv _ (⟨x.p,x.v,x.k,none,0,0⟩:ak) (by unfold KE;rw [ZH.cont])) (jO _ _);refine af.reach (B7 hM hS.kept.base hX) (k:=2) (n:=400) (o:=(ff [0] true++[(2,.cells (eC x))]++ff [3] true++ff [6] false++ff [23] false)) (ren:=[(0,0),(1,1),(2,2),(3,3),(4,10),(5,5)]) (eqs:=[0,4,5]) ?_ (by kernel_rfl) (fun i b h=>by rw [Zz i b h];rfl) nx;rw [Ra];simp only [ah,t1,r1,ra,ws,en,c9,aM,YX,na,hr,e8,hPI,x1,x2,x3,eN,VV,VX,VW];try (repeat' apply And.intro)
   all_goals first | rfl | assumption | exact cK _ | exact Y4 | decide | (simp;done) | skip
  ·refine af.fu (B7 hM hS.kept.base hX) hM hS.kept (k:=2) (n:=400) (o:=(ff [0] true++[(2,.cells (eC x))]++ff [3] true++ff [6] false++ff [23] true)) (ren:=[(0,0),(1,1),(2,2),(3,3),(4,10),(5,5)]) (eqs:=[0,4,5]) (m:=10) (j:=11) (so:=.row (List.map SV.v ((ys x).map (Value.int .u8))) 5 (0,0) (some 1)) (fun b=>?_) (by kernel_rfl) (fun i b h=>by rw [Zz i b h];rfl) (fun ν1 b ob M2 w2 ZG YO hK YJ φ=>ih (H.put b.1 ob) M2 w2 ([]++[((⟨x.p,x.v,x.k,some ⟨b.1,0,none⟩,x.l,b.2⟩:ak),0)]) (0+1) _ (hS.next (x:=x) hK YJ (gJ Ω YO) (fun a h=>by cases h;exact φ) (fun e he=>.inl (by rw [Wk.1 he])) ⟨Y4,hc⟩ (fun e he=>oX he) fun _=>inv _ (⟨x.p,x.v,x.k,some ⟨b.1,0,none⟩,x.l,b.2⟩:ak) (by unfold KE;rw [(gJ (H:=H) (b:=b) (x:=x) Ω YO).cont])) (jO _ _));rw [UI];simp only [ah,t1,r1,ra,ws,en,c9,aM,YX,na,hr,e8,hPI,x1,x2,x3,eN,VV,VX,VW];try (repeat' apply And.intro)
   all_goals first | rfl | assumption | exact cK _ | exact Y4 | exact bJ _ | decide | (simp;done) | exact bt (E:=[]) rfl | skip
 ·have en:(!cF x.1 x.2 x.3 x.5==(0:Int))=true:=by simpa using hc
  have hr:aX [] x=([],cF x.p x.v x.k x.l):=by unfold aX;rw [if_pos hc]
  refine af.reach (B7 hM hS.kept.base hX) (k:=2) (n:=300) (o:=(ff [0] true++[(2,.cells (eC x))]++ff [3] false++ff [6] true++ff [7] false)) (ren:=[(0,0),(1,1),(2,2),(3,3)]) (eqs:=[0]) ?_ (by kernel_rfl) (fun i b h=>by rw [Zz i b h];rfl) (ih0 H M1 w1 hk);rw [Tw];simp only [ah,t1,r1,ra,ws,en,c9,aM,YX,na,hr,e8,hPI,x1,x2,x3,VV,VX,VW];try (repeat' apply And.intro)
  all_goals first | rfl | assumption | exact cK _ | exact Y4 | decide | (simp;done) | skip
theorem iH (hM:∀ z,¬ M z) {M1 M3:Own} {w1 w3:World} {H:Hp} (hk:Kept w0.hp M w0 H M1 w1) {b:Nat} (h:w1.heap.size<=b\/M1 b):w0.heap.size<=b:=by
 rcases hk.base.own _ h with h | h
 ·exact h
 ·exact absurd h (hM _)
theorem NN (hX:PX D ys w0) (hM:∀ z,¬ M z) (hD:Hs D) {H:Hp} {M1:Own} {w1:World} (hk:Kept w0.hp M w0 H M1 w1) {S:SM} {n:Nat} {o:List (Nat × gM)} {ren:List (Nat × Nat)}
  (h:mY (iN (mZ D ys) 8 n S o ren [] (.tup [.ptr 0 0,.v (.agg #[.int .u64 0,.slice none 0 0]),.v (.bool true)]) [ON])):
  af (mZ D ys) M1 w1 cs0 8 (CG D ys w0) ν S:=by
 refine af.iN (B7 hM hk.base hX) h.out fun ν' w' y hle hv hE hh=>?_;obtain ⟨M3,w3,s',hB,hr⟩:=hh;have Y3:=aB hM (hk.base.trans hB) hr;obtain ⟨a,rfl,ha⟩:=VR.cz.1 hv;obtain ⟨y1,a,rfl,q1,ha⟩:=ha.cons_inv;obtain ⟨y2,a,rfl,q2,ha⟩:=ha.cons_inv;obtain ⟨y3,a,rfl,q3,ha⟩:=ha.cons_inv;obtain rfl:=ha.ay;obtain ⟨b,hb,rfl⟩:=VR.aF.1 q1;obtain rfl:=VR.ae.1 q2;obtain rfl:=VR.ae.1 q3;obtain ⟨b',ob,YM,ho,YO,hw⟩:=hE.obj 0 _ _ rfl;rw [hb] at YM;cases YM;refine ⟨Y3,b.1,_,rfl,iH (M3:=M3) (w3:=w3) hM hk (hw rfl),.inl ⟨?_,rfl⟩⟩;obtain ⟨zs,rest,rfl,hz,hx⟩:=YO;obtain ⟨z1,u,rfl,r1,hu⟩:=hz.cons_inv;obtain ⟨z2,u2,rfl,r2,hu2⟩:=hu.cons_inv;obtain rfl:=hu2.ay;obtain rfl:=VR.ae.1 r1;obtain rfl:=VR.ae.1 r2
 have h0:rest=[]:=by
  have:([Value.int .u64 0,Value.map none]++rest).length=2:=hx;simpa using this
 subst h0;rw [ho];rfl
theorem P1 (hX:PX D ys w0) (hM:∀ z,¬ M z) (hD:Hs D) {H:Hp} {M1:Own} {w1:World} {E:List bH} {cl:Nat} {xs:List ak} (hS:St D ys w0 M H M1 w1 E cl xs) (YI:xs≠[]) {i:Int} (hi:¬ i<(D.length:Int)):
  af (mZ D ys) M1 w1 cs0 8 (CG D ys w0) ν (SM.at (fO off D.length c i) 6 (iL (aT eC off D) (E.map mC) cl (cE xs) xs.length)):=by
 refine af.iN (B7 hM hS.kept.base hX) (n:=100) (o:=ff [0] false) (ren:=[(0,2),(1,4),(2,5)]) (eqs:=[1,2]) (x:=.tup [.ptr 0 0,.agg [.v (.int .u64 0),.sl 2 0 xs.length none],.v (.bool true)]) (l:=[QP,L3 (E.map mC) cl,fA (cE xs)]) ?_ fun ν' w' y hle hv hE hh=>?_
 ·rw [SS];simp only [ah,e8,aM,V2 hi,VV,VX,VW]
 obtain ⟨M3,w3,s',hB,hr⟩:=hh;have Y3:=aB hM (hS.kept.base.trans hB) hr;have hnow:=hS.kept.now hB hr;obtain ⟨a,rfl,ha⟩:=VR.cz.1 hv;obtain ⟨y1,a,rfl,q1,ha⟩:=ha.cons_inv;obtain ⟨y2,a,rfl,q2,ha⟩:=ha.cons_inv;obtain ⟨y3,a,rfl,q3,ha⟩:=ha.cons_inv;obtain rfl:=ha.ay;obtain ⟨b,hb,rfl⟩:=VR.aF.1 q1;obtain ⟨g,rfl,hg⟩:=VR.bx.1 q2;obtain ⟨g1,g,rfl,p1,hg⟩:=hg.cons_inv;obtain ⟨g2,g,rfl,p2,hg⟩:=hg.cons_inv;obtain rfl:=hg.ay;obtain rfl:=VR.ae.1 p1;obtain rfl:=VR.ae.1 q3;obtain ⟨b',ob,YM,ho,YO,hw⟩:=hE.obj 0 _ _ rfl;rw [hb] at YM;cases YM;obtain ⟨bm,om,hbm,hom,horm,hwm⟩:=hE.obj 1 _ _ rfl;obtain ⟨br,orr,hbr,hor2,horr,hwr⟩:=hE.obj 2 _ _ rfl
 have hcont:∀ e∈E,iO H e.1=iO w'.hp e.1:=fun e he=>by
  obtain ⟨zs,hz,_⟩:=hS.data e he;rw [hz.cont,(hz.mono hnow).cont]
 refine ⟨Y3,b.1,_,rfl,iH (M3:=M3) (w3:=w3) hM hS.kept (hw rfl),.inr ⟨bm.1,E,cl,xs,g2,iH (M3:=M3) (w3:=w3) hM hS.kept (hwm rfl),⟨?_,?_⟩,rfl,?_,hS.inv.cont hcont,fun e he=>?_,hS.sub,YI⟩⟩
 ·obtain ⟨zs,rest,rfl,hz,hx⟩:=YO;obtain ⟨z1,u,rfl,r1,hu⟩:=hz.cons_inv;obtain ⟨z2,u2,rfl,r2,hu2⟩:=hu.cons_inv;obtain rfl:=hu2.ay;obtain rfl:=VR.ae.1 r1;obtain ⟨bm',hbm',rfl⟩:=VR.cV.1 r2;rw [hbm] at hbm';cases hbm'
  have h0:rest=[]:=by
   have:([Value.int .u64 0,Value.map (some bm.1)]++rest).length=2:=hx;simpa using this
  subst h0;rw [ho];rfl
 ·obtain ⟨l,rfl,hl⟩:=horm;rw [hom,xz hl]
 ·refine cG.fW p2 hbr hor2 horr (iH (M3:=M3) (w3:=w3) hM hS.kept (hwr rfl)) fun zs hz=>xq hz
 ·obtain ⟨zs,hz,hn⟩:=hS.data e he;exact ⟨zs,hz.mono hnow,hn⟩
theorem CB (hX:PX D ys w0) (hM:∀ z,¬ M z) (hD:Hs D) (Zz:∀ i b,ν i=some b->i=0):∀ (j i:Nat),i+j=D.length->∀ H M1 w1 E cl xs,St D ys w0 M H M1 w1 E cl xs->xs≠[]->
  af (mZ D ys) M1 w1 cs0 8 (CG D ys w0) ν (SM.at (fO off D.length c (i:Int)) 6 (iL (aT eC off D) (E.map mC) cl (cE xs) xs.length))
 | 0,i,hj,H,M1,w1,E,cl,xs,hS,YI=>P1 hX hM hD hS YI (by omega)
 | j+1,i,hj,H,M1,w1,E,cl,xs,hS,YI=>Lo hX hM hD (by omega) Zz (fun H M1 w1 E cl xs hS YI=>CB hX hM hD Zz j (i+1) (by omega) H M1 w1 E cl xs hS YI) hS YI
theorem CC (hX:PX D ys w0) (hM:∀ z,¬ M z) (hD:Hs D) (Zz:∀ i b,ν i=some b->i=0):∀ (j i:Nat),i+j=D.length->∀ H M1 w1,Kept w0.hp M w0 H M1 w1->
  af (mZ D ys) M1 w1 cs0 8 (CG D ys w0) ν (SM.at (fO off D.length c (i:Int)) 6 (uO (aT eC off D)))
 | 0,i,hj,H,M1,w1,hk=>by
  refine NN hX hM hD hk (n:=100) (o:=ff [0] false) (ren:=[(0,2)]) ⟨?_⟩
  rw [SK]
  simp only [ah,V2 (show ¬ (i:Int)<(D.length:Int) by omega),VV,VX,VW]
 | j+1,i,hj,H,M1,w1,hk=>LX hX hM hD (by omega) Zz (fun H M1 w1 E cl xs hS YI=>CB hX hM hD Zz j (i+1) (by omega) H M1 w1 E cl xs hS YI) (fun H M1 w1 hk=>CC hX hM hD Zz j (i+1) (by omega) H M1 w1 hk) hk
end
theorem zI {W:World} {D:List ak} {ys:ak->List Int} {b off c:Nat} {cs:Array Value} {e:TypeId} {fz:Nat × Nat} (hX:PX D ys W) (hD:Hs D) (ZT:D.length<=c) (hh:W.heap[b]?=some (.cells cs e fz)) (Zi:off<=cs.size) (hc:∀ (k:Nat) (v:Value),(D.flatMap eV)[k]?=some v->cs[off+k]?=some v):
  Calls Tryz.prog 8 #[.slice (some ⟨b,off,none⟩) D.length c] W (CG D ys W):=by
 refine aZ (E:=mZ D ys) rfl (d:=6) (l:=[(b,0)]) (os:=[.look (aT eC off D)]) rfl (by simp) (by simp) ?_ rfl (args:=[.sl 0 off D.length (some c)]) (a:=[.slice (some ⟨b,off,none⟩) D.length c]) (S0:=GM D ys (aT eC off D) off D.length c) (by kernel_rfl) (au.cons (VR.aL.2 ⟨(b,0),rfl,ZT,rfl⟩) au.nil) fun cs0=>?_
 ·intro j o' b' c' h1 h2;match j with
  | 0=>
   simp only [Wa,Option.some.injEq] at h1 h2;subst h1;cases h2;exact ⟨_,hh,eJ (h:=eV) (fun ν x=>au.lits ν (eV x)) Zi hc⟩
  | j+1=>simp at h1
 ·have hM:∀ z,¬ (aD [(b,0)] ([SO.look (aT eC off D)].map fun o=>(o,false))) z:=fun z=>aY;have hν:∀ i c,aA [(b,0)] i=some c->i=0:=fun i c h=>dj h
  have hK:=Kept.start (H0:=W.hp) (M:=aD [(b,0)] ([SO.look (aT eC off D)].map fun o=>(o,false))) (w:=W) (Hp.Sub.refl _) (fun z o _=>hM z) (dN (by
   intro j o' m b' c' h1 h2;match j with
   | 0=>
    simp only [WD,Wa,Option.some.injEq] at h1 h2;cases h1;cases h2;exact ⟨_,hh,eJ (h:=eV) (fun ν x=>au.lits ν (eV x)) Zi hc⟩
   | j+1=>simp at h1)) (fun _ h=>h)
  have YX:(aT eC off D).all ab=true:=ca cD;refine af.reach (B7 hM hK.base hX) (k:=2) (n:=60) (o:=VP) (ren:=[(0,0),(1,1),(2,2),(3,3)]) (eqs:=[0]) (F:=fO off D.length c 0) (d:=6) (l:=uO (aT eC off D)) ?_ (by kernel_rfl) (fun i b h=>by rw [hν i b h];rfl) (CC hX hM hD hν D.length 0 (by omega) W.hp _ W hK);rw [SY];simp only [ah,YX,VV,VX,VW]
theorem AR {W:World} (hm:MX W) (ys:ak->List Int) (a:Option Addr) (c:Nat):Calls Tryz.prog 8 #[.slice a 0 c] W (CG [] ys W):=by
 have hX:PX [] (fun _=>[]) W:=⟨hm,fun x hx=>(nomatch hx)⟩;have hD:Hs []:=⟨fun x hx=>(nomatch hx),fun x hx=>(nomatch hx),fun x hx=>(nomatch hx),WX _⟩
 have:Calls Tryz.prog 8 #[.slice a 0 c] W (CG [] (fun _=>[]) W):=by
  refine bP (E:=mZ [] fun _=>[]) rfl rfl (args:=[.v (.slice a 0 c)]) (a:=[.slice a 0 c]) (S0:=a7 (mZ [] fun _=>[]) 8 [.v (.slice a 0 c)]) (by kernel_rfl) (au.cons (VR.ae.2 rfl) au.nil) fun cs0=>?_;have hK:=Kept.start (H0:=W.hp) (M:=aD [] []) (w:=W) (Hp.Sub.refl _) (fun z o _=>aE z) (fun z h=>by obtain ⟨i,o,c,h,_⟩:=h;simp at h) (fun _ h=>h);refine NN hX aE hD hK (n:=100) (o:=VP) (ren:=[(0,1)]) ⟨?_⟩;rw [SQ];simp only [ah,VV,VX,VW]
 refine this.mono fun e w' ⟨h1,b,v,h2,h3,h4⟩=>⟨h1,b,v,h2,h3,?_⟩;rcases h4 with h | ⟨m,E,cl,xs,y,_,_,_,_,_,_,h,YI⟩
 ·exact .inl h
 ·exfalso;cases xs with
  | nil=>exact YI rfl
  | cons z zs=>exact absurd (h z Wi) (by simp)
def EX:Env:=EP [] []
def FW (l:List SV) (off n c:Nat):SM:=(a6 EX 5 [.sl 0 off n (some c)] (bG 6 1 0 [cv l])).getD dn
def Lm:List SI:=dB EX 2 60 (FW [] 0 0 0) VP
def A4 (off n c:Nat) (z i:Int):SF:={ fn:=5,tm:=fh 30 5 ([.sl 0 off n (some c),.aH,.aH,.v (.int .i64 z),.aH,.aH,.sl 0 off n (some c),.v (.int .i64 n),.v (.int .i64 i)]++List.replicate 21 .aH),todo:=Lm,defers:=[],ret:=false,kind:=.normal,ro:=none }
theorem P9 (l:List SV) (off n c:Nat):reach EX 2 60 (FW l off n c) VP [(0,0)] [0] (A4 off n c 0 0) 6 [cv l]=[off=off/\n=n/\some c=some c,vZ 0=vZ 0,off=off/\n=n/\some c=some c,vZ (↑n:Int)=vZ (↑n:Int),vZ 0=vZ 0,l=l,l.all ab=true]:=by kernel_rfl
theorem P7 (l:List SV) (off n c:Nat) (x:ak) (z i z' i':Int):reach EX 2 60 (SM.at (A4 off n c z i) 6 [cv l]) (ff [0] true++[(2,.cells (eC x))]) [(0,0)] [0] (A4 off n c z' i') 6 [cv l]=[off=off/\n=n/\some c=some c,vZ (IntKind.i64.wrap (z+IntKind.i64.wrap ((↑x.1.size:Int)+(↑x.5:Int))))=vZ z',off=off/\n=n/\some c=some c,vZ (↑n:Int)=vZ (↑n:Int),vZ (IntKind.i64.wrap (i+1))=vZ i',l=l,l.all ab=true,List.take 4 (List.drop (off+i.toNat*4) l)=eC x/\(eC x).length=4,ai i n=true,decide (i<(↑n:Int))=true]:=by kernel_rfl
theorem P6 (l:List SV) (off n c:Nat) (z i:Int) (b:Bool):ao EX 5 60 (SM.at (A4 off n c z i) 6 [cv l]) (ff [0] false++ff [1,2,3,4,5] true) (.bool b)=[VU (decide ((↑n:Int)<=400))=VU b,decide (z<=20000)=true,decide (z<=20000)=true,decide (z<=20000)=true,decide (z<=20000)=true,decide (i<(↑n:Int))=false]:=by kernel_rfl
theorem Tq (l:List SV) (off n c:Nat) (z i:Int) (b:Bool):ao EX 5 60 (SM.at (A4 off n c z i) 6 [cv l]) (ff [0] false++ff [1,2,3,4,5] false) (.bool b)=[VU false=VU b,decide (z<=20000)=false,decide (z<=20000)=false,decide (z<=20000)=false,decide (z<=20000)=false,decide (i<(↑n:Int))=false]:=by kernel_rfl
theorem Vd (a:Option Addr) (c:Nat) (b:Bool):ao EX 5 60 (a7 EX 5 [.v (.slice a 0 c)]) (ff [1000] true) (.bool b)=[VU true=VU b]:=by kernel_rfl
def rm (z:Int) (xs:List ak):Int:=xs.foldl (fun n e=>IntKind.i64.wrap (n+IntKind.i64.wrap ((e.p.size:Int)+(e.l:Int)))) z
def h9 (xs:List ak):Bool:=decide (rm 0 xs<=20000)&&decide ((xs.length:Int)<=400)
theorem DL (z:Int) (xs:List ak) (e:ak):rm z (xs++[e])=IntKind.i64.wrap (rm z xs+IntKind.i64.wrap ((e.p.size:Int)+(e.l:Int))):=by
 unfold rm;rw [Yl];rfl
theorem Nq {M:Own} {w0:World}:aK EX M w0:=fJ fun r h=>by cases h
section
variable {M:Own} {w0:World} {cs0:List Frame} {R:Ending->World->Prop} {ν:aP} {xs:List ak} {off c:Nat}
theorem HV (hν:∀ i b,ν i=some b->i=0) (hl:xs.length<=9223372036854775807) (hM:∀ b,¬ M b) (hR:∀ w',Below w0.heap.size w0 w'->R (.returned (.bool (h9 xs))) w'):
  ∀ (j k:Nat),k+j=xs.length->af EX M w0 cs0 5 R ν (SM.at (A4 off xs.length c (rm 0 (xs.take k)) k) 6 [cv (aT eC off xs)])
 | 0,k,hk=>by
  have hk:k=xs.length:=by omega
  by_cases h:rm 0 (xs.take k)<=20000
  ·refine af.ao Nq (n:=60) (o:=ff [0] false++ff [1,2,3,4,5] true) (v:=.bool (h9 xs)) ?_ fun ν' M1 w1 s' w' _ hB hr=>hR _ (aB hM hB hr)
   rw [P6]
   simp only [ah,h,decide_true,hk,Int.lt_irrefl,decide_false,VW,VX]
   unfold h9
   rw [hk,XE] at h
   simp [h]
  ·refine af.ao Nq (n:=60) (o:=ff [0] false++ff [1,2,3,4,5] false) (v:=.bool (h9 xs)) ?_ fun ν' M1 w1 s' w' _ hB hr=>hR _ (aB hM hB hr)
   rw [Tq]
   simp only [ah,h,decide_true,hk,Int.lt_irrefl,decide_false,VW,VX]
   unfold h9
   rw [hk,XE] at h
   simp [h]
 | j+1,k,hk=>by
  have hi:k<xs.length:=by omega
  have hxk:xs[k]?=some xs[k]:=V4 hi
  have t1:decide ((k:Int)<(xs.length:Int))=true:=V0 (by omega)
  have r1:=aJ hi
  have ws:IntKind.i64.wrap ((k:Int)+1)=((k+1:Nat):Int):=by rw [wi (by omega)];omega
  have ra:=gF (off:=off) c9 hxk
  have YX:(aT eC off xs).all ab=true:=ca cD
  have nx:=HV hν hl hM hR j (k+1) (by omega)
  rw [Wp hi,DL] at nx
  refine af.reach Nq (k:=2) (n:=60) (o:=(ff [0] true++[(2,.cells (eC xs[k]))])) (ren:=[(0,0)]) (eqs:=[0]) ?_ (by kernel_rfl) (fun i b h=>by rw [hν i b h];rfl) nx
  rw [P7]
  simp only [ah,V5,t1,r1,ws,ra,YX,c9,VV,VX,VW]
  try (repeat' apply And.intro)
  all_goals first | rfl | exact ws.symm | exact ws | skip
end
section
variable {H:Type} {enc:TypeId × Value->H} {P:Program} {W:World} {base:Nat} {spare:Nat->Bool} {held:Bool}
theorem gh {t ft:TypeId} {i o k n:Nat} {cs:List Value} {x:DataW H × List MemPlace} (h:DataW.trod enc P W base spare held n t cs=some x) (hs:P.underlying t=some (.struct (structFields P t))) (hf:(structFields P t)[i]?=some (fieldAt P t i))
  (ho:(fieldAt P t i).offset=o) (hty:(fieldAt P t i).type=ft) (hk:P.cellsOf ft=k):∃ n' y,DataW.trod enc P W base spare held n' ft ((cs.drop o).take k)=some y/\∀ q∈y.1.weights P ft,q∈x.1.weights P t:=by
 subst ho hty hk;obtain ⟨xs,n',_,hx,_,hlen,hg⟩:=DataW.trod_struct hs h;have hi:i<xs.length:=by rw [hlen];exact (VY.1 hf).1
 have:=hg i _ hf;rw [V4 hi] at this;refine ⟨n',_,this,fun q hq=>?_⟩;rw [hx];unfold DataW.weights;rw [hs];refine DataW.weights_mem_each (j:=i) (t:=(fieldAt P t i).type) (d:=xs[i].1) ?_ (by simp [hi]) q hq;rw [Wv,Array.getElem?_toList,hf];rfl
theorem G2 {e:TypeId}:∀ {l:List (DataW H)} {d:DataW H},d∈l->∀ {q:Nat},q∈d.weights P e->q∈DataW.weightsAll P e l
 | x::l,d,hd,q,hq=>by
  unfold DataW.weightsAll
  rcases V8.1 hd with rfl | hd
  ·exact Xe _ hq
  ·exact Xq _ (G2 hd hq)
theorem wI {α:Type} {h:α->List Value} {C:Nat} (hC0:0<C) (hh:∀ r,(h r).length=C) {t e:TypeId} {a:Option Addr} {l c n:Nat} {x:DataW H × List MemPlace}
  (hform:∀ (vs:List Value) (n:Nat) (y:DataW H × List MemPlace),DataW.trod enc P W base spare held n e vs=some y->(∀ q∈y.1.weights P e,q∈x.1.weights P t)->∃ r,vs=h r)
  (ht:P.underlying t=some (.slice e)) (hC:P.cellsOf e=C) (hd:DataW.trod enc P W base spare held n t [.slice a l c]=some x):CE h W a l c:=by
 rcases Deep.open_slice ht hd with ⟨h0,_⟩ | ⟨a',len,cap,m,n',D,Pl,hcs,hb,hl,hm,hmm,hxx,hi⟩
 ·cases h0;exact ⟨⟨Wx _,WX _⟩,.inl rfl⟩
 ·cases hcs;refine ⟨⟨hl,hm⟩,?_⟩;by_cases hl0:l=0
  ·exact .inl hl0
  right;have hlm:l<=m:=by rw [hmm];split <;> omega
  have τ:∀ i,i<l->∃ r:α,∀ j,j<C->W.cell? (a'.add (i*C+j))=(h r)[j]?:=by
   intro i hil;obtain ⟨Φ,hc,htr⟩:=hi i (by omega);rw [hC] at hc;obtain ⟨_,YX,hat⟩:=World.cells?_some hc
   obtain ⟨r,hr⟩:=hform Φ _ _ htr fun q hq=>by
    rw [hxx];unfold DataW.weights;rw [ht];exact Wb _ (Xe _ (G2 (Wc.2 ⟨i,Xd.2 hil,rfl⟩) hq))
   refine ⟨r,fun j hj=>?_⟩;have:=hat j hj;rw [<- hr,<- this,Deep.add_add]
  obtain ⟨F,hF⟩:∃ F:Nat->α,∀ i,i<l->∀ j,j<C->W.cell? (a'.add (i*C+j))=(h (F i))[j]?:=by
   obtain ⟨r0,_⟩:=τ 0 (by omega);refine ⟨fun i=>if hi:i<l then Classical.choose (τ i hi) else r0,fun i hi=>?_⟩;simp only [YD hi];exact XW (τ i hi)
  have h00:=hF 0 (by omega) 0 hC0;have hv0:∃ v,(h (F 0))[0]?=some v:=⟨_,V4 (by rw [hh];exact hC0)⟩;obtain ⟨v0,hv0⟩:=hv0;rw [hv0,Nat.zero_mul,Yc] at h00;have ha0:a'.add 0=a':=by simp [Addr.add]
  rw [ha0] at h00;unfold World.cell? at h00;split at h00
  ·rename_i cs el fz hheap
   have hsp:a'.spot=none:=by
    cases hs:a'.spot with
    | none=>rfl
    | some s=>rw [hs] at h00;simp at h00
   rw [hsp] at h00;simp only [Option.isSome_none,Xj,Yi] at h00;have Zi:=(VY.1 h00).1;obtain ⟨b,off,sp⟩:=a';simp only at hsp hheap Zi;subst hsp;refine ⟨b,off,(List.range l).map F,cs,el,fz,rfl,by simp,hheap,by omega,fun k v hk=>?_⟩;obtain ⟨x,h1,h2⟩:=qN hC0 hh hk;rw [Wv] at h1;obtain ⟨i,h3,rfl⟩:=Wg.1 h1;obtain ⟨YR,h3⟩:=WA.1 h3;rw [List.getElem_range] at h3;simp only [List.length_range] at YR;subst h3;have:=hF (k / C) YR (k % C) (Yh _ hC0);rw [h2] at this;have e:k / C*C+k % C=k:=by rw [Nat.mul_comm];exact Nat.div_add_mod k C
   rw [e,di,cQ hheap] at this;exact this
  ·cases h00
theorem ta:∀ xs:List { n:Int // 0<=n/\n<256 },(xs.flatMap fun r=>[Value.int .u8 r.1])=xs.map fun r=>Value.int .u8 r.1
 | []=>rfl
 | x::xs=>by rw [XK,ta xs];rfl
theorem yP {t e:TypeId} {a:Option Addr} {l c n:Nat} {x:DataW H × List MemPlace} (ht:P.underlying t=some (.slice e)) (he:P.underlying e=some (.int .u8)) (hC:P.cellsOf e=1) (hB:P.bytesOf e=1)
  (hd:DataW.trod enc P W base spare held n t [.slice a l c]=some x) (hw:∀ q∈x.1.weights P t,q<=reachBytes):(a=none->l=0)/\l<=reachBytes/\∃ ys:List Int,eZ W a l ys/\∀ y∈ys,0<=y/\y<256:=by
 have hr:CE (fun r:{ n:Int // 0<=n/\n<256 }=>[Value.int .u8 r.1]) W a l c:=wI (C:=1) (by decide) (fun _=>rfl) (fun vs n' y h _=>by
  obtain ⟨n1,hn1,_,hwf⟩:=YA he h
  have:0<=n1/\n1<256:=by
   have:=hwf;simp [Lit.wf,IntKind.has,IntKind.min,IntKind.max,IntKind.bits,IntKind.signed] at this;omega
  exact ⟨⟨n1,this⟩,hn1⟩) ht hC hd
 have hlen:(a=none->l=0)/\l<=reachBytes:=by
  rcases Deep.open_slice ht hd with ⟨h0,_⟩ | ⟨a',len,cap,m,n',D,Pl,hcs,hb,hl,hm,hmm,hxx,hi⟩
  ·cases h0;exact ⟨fun _=>rfl,WX _⟩
  ·cases hcs;refine ⟨fun h=>(nomatch h),?_⟩
   have:=hw (((List.range l).map D).length*1+(((List.range (m - l)).map fun j=>D (l+j)).length)*1) (by
    rw [hxx];unfold DataW.weights;rw [ht];dsimp only;rw [hB,<- X1];exact Wi)
   simp only [WH,List.length_range] at this;omega
 refine ⟨hlen.1,hlen.2,?_⟩;have Z0:reachBytes<=140737488355328:=by decide
 obtain ⟨_,rfl | ⟨b,off,xs,cs,e',fz,rfl,rfl,hh,Zi,hc⟩⟩:=hr
 ·exact ⟨[],⟨rfl,WX _,fun b _ i hi=>absurd hi (by omega)⟩,fun y hy=>(nomatch hy)⟩
 ·refine ⟨xs.map (·.1),⟨by simp,Wj hlen.2 Z0,fun b' YM i hi W' hW=>?_⟩,fun y hy=>?_⟩
  ·cases YM;have YR:=(VY.1 hh).1
   have h1:(xs.flatMap fun r=>[Value.int .u8 r.1])[i]?=some (.int .u8 ((xs.map (·.1)).getD i 0)):=by
    have:=ta xs;rw [this,Wv,V4 hi];simp [Xn,hi]
   have h2:=hc i _ h1;rw [di,cQ (by rw [hW b YR];exact hh)];exact h2
  ·obtain ⟨r,_,rfl⟩:=Wc.1 hy;exact r.2
end
inductive lB (W:World) (a:Option Addr) (l c:Nat) (D:List ak):Prop where
 | none (hl:l=0) (hD:D=[])
 | some (b off:Nat) (cs:Array Value) (e:TypeId) (fz:Nat × Nat) (ha:a=.some ⟨b,off,.none⟩) (hl:D.length=l) (ZT:l<=c) (hh:W.heap[b]?=.some (.cells cs e fz)) (Zi:off<=cs.size) (hc:∀ (k:Nat) (v:Value),(D.flatMap eV)[k]?=.some v->cs[off+k]?=.some v)
theorem lB.keep {W w:World} {a:Option Addr} {l c:Nat} {D:List ak} (h:lB W a l c D) (hk:∀ k,k<W.heap.size->w.heap[k]?=W.heap[k]?):lB w a l c D:=by
 rcases h with ⟨hl,hD⟩ | ⟨b,off,cs,e,fz,ha,hl,ZT,hh,Zi,hc⟩
 ·exact .none hl hD
 ·exact .some b off cs e fz ha hl ZT ((hk b (VY.1 hh).1).trans hh) Zi hc
structure qz (W:World) (x:ak):Prop where
 p:x.p.size<=reachBytes
 v:0<=x.v/\x.v<18446744073709551616
 nil:x.a=none->x.l=0
 l:x.l<=reachBytes
 ys:∃ ys:List Int,eZ W x.a x.l ys/\∀ y∈ys,0<=y/\y<256
section
variable {H:Type} {enc:TypeId × Value->H} {W:World} {base:Nat} {spare:Nat->Bool} {held:Bool}
theorem HK {vs:List Value} {n:Nat} {y:DataW H × List MemPlace} (h:DataW.trod enc Tryz.prog W base spare held n 50 vs=some y) (hw:∀ q∈y.1.weights Tryz.prog 50,q<=reachBytes):∃ r:{ x:ak // qz W x },vs=eV r.1:=by
 have hs:Tryz.prog.underlying 50=some (.struct (structFields Tryz.prog 50)):=by kernel_rfl
 obtain ⟨xs,n',_,_,hl,_,_⟩:=DataW.trod_struct hs h;have hl:vs.length=4:=hl.trans (by kernel_rfl);obtain ⟨n0,y0,h0,w0⟩:=gh (i:=0) (o:=0) (ft:=9) (k:=1) h hs (by kernel_rfl) (by kernel_rfl) (by kernel_rfl) (by kernel_rfl);obtain ⟨n1,y1,h1,w1⟩:=gh (i:=1) (o:=1) (ft:=32) (k:=1) h hs (by kernel_rfl) (by kernel_rfl) (by kernel_rfl) (by kernel_rfl);obtain ⟨n2,y2,h2,w2⟩:=gh (i:=2) (o:=2) (ft:=46) (k:=2) h hs (by kernel_rfl) (by kernel_rfl) (by kernel_rfl) (by kernel_rfl);have hs2:Tryz.prog.underlying 46=some (.struct (structFields Tryz.prog 46)):=by kernel_rfl
 obtain ⟨n3,y3,h3,w3⟩:=gh (i:=0) (o:=0) (ft:=3) (k:=1) h2 hs2 (by kernel_rfl) (by kernel_rfl) (by kernel_rfl) (by kernel_rfl);obtain ⟨n4,y4,h4,w4⟩:=gh (i:=1) (o:=1) (ft:=44) (k:=1) h2 hs2 (by kernel_rfl) (by kernel_rfl) (by kernel_rfl) (by kernel_rfl);match vs,hl with
 | [v0,v1,v2,v3],_=>
  obtain ⟨s,hs0,hx0,_⟩:=DataW.trod_string Tryz.underlying9 h0;obtain ⟨z1,hz1,_,wf1⟩:=YA Tryz.underlying32 h1;obtain ⟨z3,hz3,_,_⟩:=YA Tryz.underlying3 h3;cases hs0;cases hz1;cases hz3;have h4':DataW.trod enc Tryz.prog W base spare held n4 44 [v3]=some y4:=h4
  have hsl:∃ a l c,v3=.slice a l c:=by
   rcases Deep.open_slice Tryz.underlying44 h4' with ⟨h0,_⟩ | ⟨a',len,cap,m,n',D,Pl,hcs,_⟩
   ·cases h0;exact ⟨_,_,_,rfl⟩
   ·cases hcs;exact ⟨_,_,_,rfl⟩
  obtain ⟨a,l,c,rfl⟩:=hsl;obtain ⟨q1,q2,q3⟩:=yP Tryz.underlying44 Tryz.underlying5 (by kernel_rfl) (by kernel_rfl) h4' fun q hq=>hw q (w2 q (w4 q hq));refine ⟨⟨⟨s,z1,z3,a,l,c⟩,⟨?_,?_,q1,q2,q3⟩⟩,rfl⟩
  ·have:=hw s.data.toList.length (w0 _ (by rw [hx0];unfold DataW.weights;exact Wk.2 rfl));simpa using this
  ·have:=wf1;simp [Lit.wf,IntKind.has,IntKind.min,IntKind.max,IntKind.bits,IntKind.signed] at this;show 0<=z1/\z1<18446744073709551616;omega
theorem JQ {a:Option Addr} {l c:Nat} {d:DataW H} {p:List MemPlace} (h:DataW.Trod enc Tryz.prog W base spare held 23 (.slice a l c) d p) (hw:∀ q∈d.weights Tryz.prog 23,q<=reachBytes):
  ∃ D:List ak,lB W a l c D/\(∀ x∈D,qz W x)/\l<=9223372036854775807:=by
 obtain ⟨n,hn⟩:=h;have hr:=wI (h:=fun r:{ x:ak // qz W x }=>eV r.1) (C:=4) (by decide) (fun _=>rfl) (fun vs n y h hq=>HK h fun q Z1=>hw q (hq q Z1)) Tryz.underlying23 (by kernel_rfl) hn;obtain ⟨⟨ZT,hcm⟩,rfl | ⟨b,off,xs,cs,e,fz,rfl,rfl,hh,Zi,hc⟩⟩:=hr
 ·exact ⟨[],.none rfl rfl,fun x hx=>(nomatch hx),by omega⟩
 ·refine ⟨xs.map (·.1),.some b off cs e fz rfl (by simp) ZT hh Zi fun k v hk=>hc k v ?_,fun x hx=>?_,Wj ZT (Wj hcm (by decide))⟩
  ·rw [Ye] at hk;exact hk
  ·obtain ⟨r,_,rfl⟩:=Wc.1 hx;exact r.2
end
theorem CL {H:Type} {P:Program} {ts:List TypeId} {ds:List (DataW H)} (h:(DataW.weightsEach P ts ds).all (·<=reachBytes)=true) {j:Nat} {t:TypeId} {d:DataW H} (ht:ts[j]?=some t) (hd:ds[j]?=some d):∀ q∈d.weights P t,q<=reachBytes:=fun q hq=>by
 simpa using Wn.1 h q (DataW.weights_mem_each ht hd q hq)
theorem Bw {W:World} {D:List ak} (h:∀ x∈D,qz W x) (hl:h9 D=true):D.length<=400/\∀ x∈D,x.p.size<=20000/\x.l<=20000:=by
 unfold h9 at hl;rw [V6,XI,XI] at hl;obtain ⟨hs,hn⟩:=hl;refine ⟨by omega,?_⟩;have Z0:reachBytes<=140737488355328:=by decide
 have key:∀ (E:List ak) (z:Int),(∀ x∈E,qz W x)->0<=z->z+(E.length:Int)*281474976710656<=9223372036854775807->z<=rm z E/\∀ x∈E,z+(x.p.size:Int)+(x.l:Int)<=rm z E:=by
  intro E;induction E with
  | nil=>intro z _ _ _;exact ⟨Int.le_refl _,fun x hx=>(nomatch hx)⟩
  | cons e E ih=>
   intro z hE hz hb;have he:=hE e Wi;have h1:=Wj he.p Z0;have h2:=Wj he.l Z0;simp only [Wm] at hb;have w1:IntKind.i64.wrap ((e.p.size:Int)+(e.l:Int))=(e.p.size:Int)+(e.l:Int):=wi (by omega);have w2:IntKind.i64.wrap (z+((e.p.size:Int)+(e.l:Int)))=z+((e.p.size:Int)+(e.l:Int)):=wi (by omega)
   have hs:rm z (e::E)=rm (z+((e.p.size:Int)+(e.l:Int))) E:=by
    show rm (IntKind.i64.wrap (z+IntKind.i64.wrap ((e.p.size:Int)+(e.l:Int)))) E=_;rw [w1,w2]
   obtain ⟨i1,i2⟩:=ih (z+((e.p.size:Int)+(e.l:Int))) (fun x hx=>hE x (Wb _ hx)) (by omega) (by omega);rw [hs];refine ⟨by omega,fun x hx=>?_⟩;rcases V8.1 hx with rfl | hx
   ·omega
   ·have:=i2 x hx;omega
 obtain ⟨_,k2⟩:=key D 0 h (by omega) (by omega);intro x hx;have:=k2 x hx;omega
theorem yM {W:World} {a:Option Addr} {l c:Nat} {D:List ak} (h:lB W a l c D) (hl:l<=9223372036854775807):Calls Tryz.prog 5 #[.slice a l c] W fun e w'=>Below W.heap.size W w'/\e=.returned (.bool (h9 D)):=by
 rcases h with ⟨rfl,rfl⟩ | ⟨b,off,cs,e,fz,rfl,rfl,ZT,hh,Zi,hc⟩
 ·refine bX (E:=EX) (args:=[.v (.slice a 0 c)]) (a:=[.slice a 0 c]) (n:=60) (o:=ff [1000] true) rfl rfl Nq (by kernel_rfl) (au.cons (VR.ae.2 rfl) au.nil) ⟨?_⟩;rw [Vd];simp only [ah,VV,VX,VW];rfl
 ·refine (aZ (E:=EX) (R:=fun e w'=>Below W.heap.size W w'/\e=.returned (.bool (h9 D))) rfl (d:=6) (l:=[(b,0)]) (os:=[.look (aT eC off D)]) rfl (by simp) (by simp) ?_ rfl (args:=[.sl 0 off D.length (some c)]) (a:=[.slice (some ⟨b,off,none⟩) D.length c]) (S0:=FW (aT eC off D) off D.length c) (by kernel_rfl) (au.cons (VR.aL.2 ⟨(b,0),rfl,ZT,rfl⟩) au.nil) fun cs0=>?_)
  ·intro j o' b' c' h1 h2;match j with
   | 0=>
    simp only [Wa,Option.some.injEq] at h1 h2;subst h1;cases h2;exact ⟨_,hh,eJ (h:=eV) (fun ν x=>au.lits ν (eV x)) Zi hc⟩
   | j+1=>simp at h1
  ·have hM:∀ z,¬ (aD [(b,0)] ([SO.look (aT eC off D)].map fun o=>(o,false))) z:=fun z=>aY;have hν:∀ i c,aA [(b,0)] i=some c->i=0:=fun i c h=>dj h;have YX:(aT eC off D).all ab=true:=ca cD;have nx:=HV (w0:=W) (cs0:=cs0) (R:=fun e w'=>Below W.heap.size W w'/\e=.returned (.bool (h9 D))) (c:=c) (off:=off) hν (by omega) hM (fun w' hB=>⟨hB,rfl⟩) D.length 0 (by omega);rw [X8,show rm 0 []=0 from rfl] at nx;refine af.reach Nq (k:=2) (n:=60) (o:=VP) (ren:=[(0,0)]) (eqs:=[0]) (F:=A4 off D.length c 0 0) (d:=6) (l:=[cv (aT eC off D)]) ?_ (by kernel_rfl) (fun i b h=>by rw [hν i b h];rfl) nx;rw [P9];simp only [ah,YX,VV,VX,VW]
theorem DM {W:World} {D:List ak} (hm:MX W) (h:∀ x∈D,qz W x) (hl:h9 D=true):Hs D/\∃ ys,PX D ys W/\∀ x∈D,∀ y∈ys x,0<=y/\y<256:=by
 obtain ⟨h1,h2⟩:=Bw h hl;refine ⟨⟨fun x hx=>by have:=(h2 x hx).1;omega,fun x hx=>(h x hx).v,fun x hx=>(h x hx).nil,by omega⟩,?_⟩;classical
 refine ⟨fun x=>if hx:x∈D then Classical.choose (h x hx).ys else [],⟨hm,fun x hx=>?_⟩,fun x hx=>?_⟩
 ·simp only [YD hx];exact (XW (h x hx).ys).1
 ·simp only [YD hx];exact (XW (h x hx).ys).2
theorem Fj {W:World} {a:Option Addr} {l c:Nat} {D:List ak} {ys:ak->List Int} (h:lB W a l c D) (hX:PX D ys W) (hD:Hs D):Calls Tryz.prog 8 #[.slice a l c] W (CG D ys W):=by
 rcases h with ⟨rfl,rfl⟩ | ⟨b,off,cs,e,fz,rfl,rfl,ZT,hh,Zi,hc⟩
 ·exact AR hX.1 ys a c
 ·exact zI hX hD ZT hh Zi hc
def Qg:Value->Nat | .string s=>s.size | _=>0
theorem Pa (s:ByteArray) (m:Int) (w:World) (hs:s.size<=1000000000) (hm:w.cell? ⟨2,0,none⟩=some (.int .i64 m)):Calls Tryz.prog 109 #[.string s,.string ⟨#[47]⟩] w fun e w'=>e=.returned (.tuple #[.string (cA s),.string (cB s),.bool (cM s)])/\∃ n,w'=w.drewN n:=
 Any.strings_Cut { wx with } s bw m w (by omega) hm
theorem isNaN (s:ByteArray) (w:World):Calls Tryz.prog 125 #[.string s] w fun e w'=>e=.returned (.bool false)/\w=w':=by
 go_enter Tryz.func125,Tryz.ntmps125
 go_wp2
 go_ret
 exact ⟨by simp,rfl⟩
theorem Nw (x y:ByteArray) (w:World):Calls Tryz.prog 110 #[.string x,.string y] w fun e w'=>e=.returned (.int .i64 (o7 x y))/\w=w':=by
 go_enter Tryz.func110,Tryz.ntmps110
 go_wp2_with (go_at_call 125;refine (isNaN _ _).mono ?_;rintro e w' ⟨rfl,rfl⟩)
 all_goals
  go_ret
  refine ⟨?_,rfl⟩;simp_all [o7]
theorem T0 (b:Bool) (w:World):Calls Tryz.prog 111 #[.bool b] w fun e w'=>e=.returned (.int .i64 (if b then 1 else 0))/\w=w':=by
 cases b
 ·go_enter Tryz.func111,Tryz.ntmps111
  go_wp2
  go_ret
  exact ⟨rfl,rfl⟩
 ·go_enter Tryz.func111,Tryz.ntmps111
  go_wp2
  go_ret
  exact ⟨rfl,rfl⟩
def OA (z:Int) (w:World) (e:Ending) (w':World):Prop:=e=.returned (.int .i64 z)/\∃ n,w'=w.drewN n
theorem vS:∀ (n m:Nat) (a b:ByteArray),a.size<n->a.size<m->lQ n a b=lQ m a b
 | 0,_,_,_,h,_=>absurd h (Nat.not_lt_zero _)
 | _+1,0,_,_,_,h=>absurd h (Nat.not_lt_zero _)
 | n+1,m+1,a,b,h1,h2=>by
  unfold lQ
  by_cases hc:cM a=true/\cM b=true
  ·have:=zt a hc.1
   rw [if_pos hc,if_pos hc,vS n m (cB a) (cB b) (by omega) (by omega)]
  ·rw [if_neg hc,if_neg hc]
theorem vJ (a b:ByteArray):dr a b=if (cA a).data.toList=(cA b).data.toList then (if cM a=true/\cM b=true then dr (cB a) (cB b) else GN (cM a) - GN (cM b)) else o7 (cA a) (cA b):=by
 unfold dr;conv=>lhs;unfold lQ
 by_cases hc:cM a=true/\cM b=true
 ·have:=zt a hc.1;rw [if_pos hc,if_pos hc,vS a.size ((cB a).size+1) (cB a) (cB b) (by omega) (by omega)]
 ·rw [if_neg hc,if_neg hc]
theorem NF {x y:ByteArray} (h:(!(x.toList==y.toList))=true):¬ x.data.toList=y.data.toList:=fun e=>by
 have:x=y:=by cases x;cases y;congr 1;exact Array.toList_inj.1 e
 rw [this] at h;simp at h
theorem KQ {x y:ByteArray} (h:(!(x.toList==y.toList))=false):x.data.toList=y.data.toList:=by
 have h:x.toList=y.toList:=by simpa using h
 rwa [jt,jt] at h
theorem Qv (a b : ByteArray) (m : Int) (w : World) (ha : a.size <= 1000000000) (hb : b.size <= 1000000000) (hm : w.cell? ⟨2, 0, none⟩ = some (.int .i64 m)) : Calls Tryz.prog 89 #[.string a, .string b] w (OA (dr a b) w) := by
  go_enter Tryz.func89, Tryz.ntmps89
  go_wp2
  go_loopw [0, 1] (fun x y wr => ∃ (a' b' : ByteArray) (n : Nat), x = .string a' /\ y = .string b' /\ a'.size <= 1000000000 /\ b'.size <= 1000000000 /\ dr a' b' = dr a b /\ wr = w.drewN n) (fun x _ _ => Qg x)
  case atStart => exact ⟨a, b, 0, rfl, rfl, ha, hb, rfl, rfl⟩
  case round =>
    obtain ⟨a', b', n, rfl, rfl, ha', YM, hc, rfl⟩ := hrel;have HC := Lib.hid hc;clear hc;have hm' : (w.drewN n).cell? ⟨2, 0, none⟩ = some (.int .i64 m) := hm
    go_wp2_with (first
      | (go_at_call 109; refine (Pa _ m _ (by assumption) (by exact hm)).mono ?_; rintro e w' ⟨rfl, n1, rfl⟩)
      | (go_at_call 110; refine (Nw _ _ _).mono ?_; rintro e w' ⟨rfl, rfl⟩)
      | (go_at_call 111; refine (T0 _ _).mono ?_; rintro e w' ⟨rfl, rfl⟩))
    all_goals first
      | (go_ret
         refine ⟨?_, _, rfl⟩;rw [<- HC.out, vJ]
         first
           | (rw [if_neg (NF (by assumption))]; rfl)
           | (rw [if_pos (KQ (by assumption)), if_neg (by simp_all)]; simp_all [GN]))
      | (refine ⟨⟨cB a', cB b', _, rfl, rfl, Wj (iF _) ha', Wj (iF _) YM, ?_, rfl⟩, zt _ (by assumption)⟩
         rw [<- HC.out, vJ a' b', if_pos (KQ (by assumption)), if_pos (by simp_all)])
open Go Go.Rx Go.RowKit Go.Proofs Go.Sort
def BV:Go.Shelf.Ren:=⟨fun | 6=>112 | 15=>127 | 14=>126 | 28=>145 | 29=>130 | 20=>137 | 21=>138 | 22=>139 | 23=>140 | 24=>141 | 25=>142 | 26=>143 | 27=>144 | 46=>151 | 47=>152 | 48=>153 | 49=>154 | 50=>155 | 57=>157 | n=>n,fun | 22=>79 | 24=>9 | 25=>125 | 3=>3 | 39=>92 | 0=>0 | 53=>72 | 55=>32 | 4=>4 | 46=>166 | 45=>165 | 50=>170 | 5=>5 | 9=>9 | 66=>173 | 70=>176 | 76=>182 | 77=>183 | n=>n,fun | n=>n⟩
theorem xi:Go.Proofs.SlLaysF.n6 Tryz.prog BV where
 mixed:=by kernel_rfl
 f6 := ⟨ "slices.SortFunc[[]string,string]", by decide, Tryz.func112.trans (congrArg some (by kernel_rfl))⟩
 f14 := ⟨ "slices.pdqsortCmpFunc[string]", by decide, Tryz.func126.trans (congrArg some (by kernel_rfl))⟩
 f15:=Tryz.func127.trans (congrArg some (by kernel_rfl))
 f20 := ⟨ "slices.insertionSortCmpFunc[string]", by decide, Tryz.func137.trans (congrArg some (by kernel_rfl))⟩
 f21 := ⟨ "slices.heapSortCmpFunc[string]", by decide, Tryz.func138.trans (congrArg some (by kernel_rfl))⟩
 f22 := ⟨ "slices.breakPatternsCmpFunc[string]", by decide, Tryz.func139.trans (congrArg some (by kernel_rfl))⟩
 f23 := ⟨ "slices.choosePivotCmpFunc[string]", by decide, Tryz.func140.trans (congrArg some (by kernel_rfl))⟩
 f24 := ⟨ "slices.reverseRangeCmpFunc[string]", by decide, Tryz.func141.trans (congrArg some (by kernel_rfl))⟩
 f25 := ⟨ "slices.partialInsertionSortCmpFunc[string]", by decide, Tryz.func142.trans (congrArg some (by kernel_rfl))⟩
 f26 := ⟨ "slices.partitionEqualCmpFunc[string]", by decide, Tryz.func143.trans (congrArg some (by kernel_rfl))⟩
 f27 := ⟨ "slices.partitionCmpFunc[string]", by decide, Tryz.func144.trans (congrArg some (by kernel_rfl))⟩
 f28:=Tryz.func145.trans (congrArg some (by kernel_rfl))
 f29:=Tryz.func130.trans (congrArg some (by kernel_rfl))
 f46 := ⟨ "slices.siftDownCmpFunc[string]", by decide, Tryz.func151.trans (congrArg some (by kernel_rfl))⟩
 f47:=Tryz.func152.trans (congrArg some (by kernel_rfl))
 f48:=Tryz.func153.trans (congrArg some (by kernel_rfl))
 f49 := ⟨ "slices.medianAdjacentCmpFunc[string]", by decide, Tryz.func154.trans (congrArg some (by kernel_rfl))⟩
 f50 := ⟨ "slices.medianCmpFunc[string]", by decide, Tryz.func155.trans (congrArg some (by kernel_rfl))⟩
 f57 := ⟨ "slices.order2CmpFunc[string]", by decide, Tryz.func157.trans (congrArg some (by kernel_rfl))⟩
 t0:=Tryz.underlying0
 a0:=Tryz.isAgg0
 z0:=Tryz.sizeOf0
 v0:=Tryz.zeroValue0
 t3:=Tryz.underlying3
 a3:=Tryz.isAgg3
 z3:=Tryz.sizeOf3
 v3:=Tryz.zeroValue3
 t4:=Tryz.underlying4
 a4:=Tryz.isAgg4
 z4:=Tryz.sizeOf4
 v4:=Tryz.zeroValue4
 t5:=Tryz.underlying5
 a5:=Tryz.isAgg5
 z5:=Tryz.sizeOf5
 v5:=Tryz.zeroValue5
 t9:=Tryz.underlying9
 a9:=Tryz.isAgg9
 z9:=Tryz.sizeOf9
 v9:=Tryz.zeroValue9
 t22:=Tryz.underlying79
 a22:=Tryz.isAgg79
 z22:=Tryz.sizeOf79
 v22:=Tryz.zeroValue79
 a24:=Tryz.isAgg9
 z24:=Tryz.sizeOf9
 t25:=Tryz.underlying125
 a25:=Tryz.isAgg125
 z25:=Tryz.sizeOf125
 v25:=Tryz.zeroValue125
 t39:=Tryz.underlying92
 a39:=Tryz.isAgg92
 z39:=Tryz.sizeOf92
 v39:=Tryz.zeroValue92
 t45:=Tryz.underlying165
 a45:=Tryz.isAgg165
 z45:=Tryz.sizeOf165
 v45:=Tryz.zeroValue165
 t46:=Tryz.underlying166
 a46:=Tryz.isAgg166
 z46:=Tryz.sizeOf166
 v46:=Tryz.zeroValue166
 t50:=Tryz.underlying170
 a50:=Tryz.isAgg170
 z50:=Tryz.sizeOf170
 v50:=Tryz.zeroValue170
 t53:=Tryz.underlying72
 a53:=Tryz.isAgg72
 z53:=Tryz.sizeOf72
 v53:=Tryz.zeroValue72
 t55:=Tryz.underlying32
 a55:=Tryz.isAgg32
 z55:=Tryz.sizeOf32
 v55:=Tryz.zeroValue32
 t66:=Tryz.underlying173
 a66:=Tryz.isAgg173
 z66:=Tryz.sizeOf173
 v66:=Tryz.zeroValue173
 t70:=Tryz.underlying176
 a70:=Tryz.isAgg176
 z70:=Tryz.sizeOf176
 v70:=Tryz.zeroValue176
 t76:=Tryz.underlying182
 a76:=Tryz.isAgg182
 z76:=Tryz.sizeOf182
 v76:=Tryz.zeroValue182
 t77:=Tryz.underlying183
 a77:=Tryz.isAgg183
 z77:=Tryz.sizeOf183
 v77:=Tryz.zeroValue183

abbrev MZ:={ s:ByteArray // s.size<=1000000000 }
instance:Inhabited MZ:=⟨⟨⟨#[]⟩,by decide⟩⟩
def zQ (s:MZ):Value:=.string s.1
def Kg (x y:MZ):Int:=dr x.1 y.1
theorem QE:SWO (ltOf Kg):=by
 refine ⟨fun x=>?_,fun x y z h1 h2=>?_,fun x y z h1 h2=>?_⟩
 ·show decide (dr x.1 x.1<0)=false;rw [ji];rfl
 ·exact V0 (ij (Ws h1) (Ws h2))
 ·have h1:=Xs h1;have h2:=Xs h2;refine V2 fun h=>?_;have h:dr x.1 z.1<0:=h;have h1:¬ dr x.1 y.1<0:=h1;have h2:¬ dr y.1 z.1<0:=h2;have n1:=fB x.1 y.1;rcases Int.lt_trichotomy (dr y.1 x.1) 0 with h3 | h3 | h3
  ·exact h2 (ij h3 h)
  ·have:=gZ h3;rw [this] at h2;exact h2 h
  ·omega
theorem PH:∀ x y,(ltOf Kg) x y=false->(ltOf Kg) y x=false->x=y:=fun x y h1 h2=>by
 have h1:¬ dr x.1 y.1<0:=Xs h1
 have h2:¬ dr y.1 x.1<0:=Xs h2
 have n1:=fB x.1 y.1
 exact Subtype.ext (gZ (by omega))
def yJ (a b:ByteArray):Bool:=!decide (dr b a<0)
def bA (l:List ByteArray):List ByteArray:=l.mergeSort yJ
theorem Dx (a b c:ByteArray) (h1:yJ a b=true) (h2:yJ b c=true):yJ a c=true:=by
 unfold yJ at *;simp only [XX,decide_eq_false_iff_not] at *;intro h;have n1:=fB a b;rcases Int.lt_trichotomy (dr a b) 0 with h3 | h3 | h3
 ·exact h2 (ij h h3)
 ·have:=gZ h3;rw [this] at h;exact h2 h
 ·omega
theorem DX (a b:ByteArray):(yJ a b||yJ b a)=true:=by
 unfold yJ;have n1:=fB a b;by_cases h:dr b a<0
 ·have:¬ dr a b<0:=by omega
  simp [h,this]
 ·simp [h]
theorem GO {a b:ByteArray} (h1:yJ a b=true) (h2:yJ b a=true):a=b:=by
 unfold yJ at *;simp only [XX,decide_eq_false_iff_not] at *;have n1:=fB a b;exact gZ (by omega)
theorem bz (l:List ByteArray):(bA l).Perm l:=List.mergeSort_perm l yJ
theorem kA (l:List ByteArray):(bA l).Pairwise fun a b=>yJ a b=true:=List.pairwise_mergeSort Dx DX l
theorem jM {l m:List ByteArray} (h:m.Pairwise fun a b=>yJ a b=true) (hp:m.Perm l):bA l=m:=
 List.Perm.eq_of_pairwise (le:=fun a b=>yJ a b=true) (fun a b _ _ h1 h2=>GO h1 h2) (kA l) h ((bz l).trans hp.symm)
theorem Ka {a b:ByteArray} (h:dr a b<0):yJ a b=true:=by
 unfold yJ;have n1:=fB a b;simp;omega
theorem xZ {α:Type} [Inhabited α] (enc:α->Value) {w:World} {b:Nat} {d0 d:List α} {rest:List Value} {e:TypeId} {fz:Nat × Nat} (hh:w.heap[b]?=some (.cells (d0.map enc++rest).toArray e fz)) (hl:d.length=d0.length):
  (putRow enc w b 0 d.toArray).heap[b]?=some (.cells (d.map enc++rest).toArray e fz):=by
 unfold putRow mapBlock;simp only [XC,if_pos,hh,Xb,onCells];congr 2;apply Xt;intro k;simp only [putCells,Array.getElem?_mapIdx,X7,WX,VW,W9,Yj,XJ];by_cases hk:k<d.length
 ·have h1:(d0.map enc++rest)[k]?=some (enc d0[k]):=by
   rw [WC (by simpa using (by omega:k<d0.length)),Wv,V4 (by omega)];rfl
  have h2:(d.map enc++rest)[k]?=some (enc d[k]):=by
   rw [WC (by simpa using hk),Wv,V4 hk];rfl
  rw [h1,h2,Xb,if_pos hk];congr 2;rw [getElem!_pos d.toArray k (by simpa using hk)];simp
 ·have h1:(d0.map enc++rest)[k]?=rest[k - d0.length]?:=by
   rw [XR (by simpa using (by omega:d0.length<=k))];simp
  have h2:(d.map enc++rest)[k]?=rest[k - d.length]?:=by
   rw [XR (by simpa using (by omega:d.length<=k))];simp
  rw [h1,h2,hl];simp only [if_neg (show ¬ k<d0.length by omega)];simp
theorem nu {α:Type} [Inhabited α] (enc:α->Value) (w:World) (b off n:Nat) (d:Array α) (os:Array Obj):NC w (grow (putRow enc (Sort.ahead w n) b off d) os) b:=by
 refine ⟨rfl,rfl,rfl,by simp,fun k hk YI=>?_⟩;rw [heap_grow_old _ _ (by simpa using hk)];have:b≠k:=fun e=>YI e.symm;simp [putRow,mapBlock,Sort.ahead,XC,this]
theorem MX.but {w w':World} {b:Nat} (h:MX w) (hb:b≠2) (k:NC w w' b):MX w':=by
 obtain ⟨m,hm⟩:=h;refine ⟨m,?_⟩
 have YR:2<w.heap.size:=by
  rcases Nat.lt_or_ge 2 w.heap.size with h' | h'
  ·exact h'
  ·unfold World.cell? at hm;simp only at hm;rw [W8 h'] at hm;cases hm
 unfold World.cell? at hm ⊢;simp only at hm ⊢;rw [k.block _ YR (fun e=>hb e.symm)];exact hm
theorem yB {α:Type} [Inhabited α] (enc:α->Value) {w:World} {b:Nat} {d:List α} {rest:List Value} {e:TypeId} (hh:w.heap[b]?=some (.cells (d.map enc++rest).toArray e (0,0))):Holds enc w b 0 d.toArray:=by
 intro j hj;have hj:j<d.length:=by simpa using hj
 refine ⟨?_,?_⟩
 ·rw [cQ hh,W9]
  have h2:(d.map enc++rest)[j]?=some (enc d[j]):=by
   rw [WC (by simpa using hj),Wv,V4 hj];rfl
  rw [X7,h2,getElem!_pos d.toArray j (by simpa using hj)];simp
 ·unfold World.frozen?;simp [hh]
theorem r8 {w:World} {b cap:Nat} {L:List MZ} {rest:List Value} {e:TypeId} (hm:MX w) (hb:b≠2) (hh:w.heap[b]?=some (.cells (L.map zQ++rest).toArray e (0,0))) (hl:L.length<4611686018427387904):
  Calls Tryz.prog 112 #[.slice (some ⟨b,0,none⟩) L.length cap,.func (.func 89) #[] #[]] w fun e' w'=>e'=.returned (.tuple #[])/\NC w w' b/\w'.heap[b]?=some (.cells ((bA (L.map (·.1))).map Value.string++rest).toArray e (0,0)):=by
 have hC:CmpLays1 Tryz.prog 89 #[] zQ Kg b 0 L.toArray.size w:=fun m os dk _ x y=>by
  obtain ⟨z,hz⟩:=hm.but hb (nu zQ w b 0 m dk os);exact (Qv x.1 y.1 z _ x.2 y.2 hz).mono fun e w' ⟨he,n,hn⟩=>⟨he,n,#[],by rw [grow_empty];exact hn⟩
 have h:=Any.slices_SortFunc_total xi zQ (fun x=>rfl) Kg QE 89 #[] b 0 cap L.toArray w (enters_of Tryz.func89 (by kernel_rfl) rfl) hC (yB zQ hh) (VY.1 hh).1 (by simpa using hl) PH;rw [XJ] at h;refine h.mono fun e' w' ⟨he,n,os,hw⟩=>⟨he,?_,?_⟩
 ·rw [hw];exact nu zQ w b 0 n _ os
 ·rw [hw];unfold sortWorld;rw [heap_grow_old _ _ (by simpa using (VY.1 hh).1)];have hp:(L.mergeSort fun x y=>!(ltOf Kg) y x).length=L.length:=List.length_mergeSort _;rw [XN];have:=xZ zQ (w:=Sort.ahead w n) (d:=L.mergeSort fun x y=>!(ltOf Kg) y x) hh hp;rw [this];congr 3;have e1:(L.mergeSort fun x y=>!(ltOf Kg) y x).map (·.1)=bA (L.map (·.1)):=List.map_mergeSort fun a _ b _=>rfl;rw [<- e1,WI];rfl
def BS:Go.Shelf.Ren:=⟨fun | 8=>118 | 11=>134 | n=>n,fun | 26=>9 | 28=>138 | 24=>79 | 0=>0 | 33=>97 | 4=>4 | n=>n,fun | n=>n⟩
theorem Fl:Go.Proofs.SlLaysZ.n8 Tryz.prog BS where
 mixed:=by kernel_rfl
 f8 := ⟨ "slices.Collect[string]", by decide, Tryz.func118.trans (congrArg some (by kernel_rfl))⟩
 f11 := ⟨ "slices.AppendSeq[[]string,string]", by decide, Tryz.func134.trans (congrArg some (by kernel_rfl))⟩
 t0:=Tryz.underlying0
 a0:=Tryz.isAgg0
 z0:=Tryz.sizeOf0
 v0:=Tryz.zeroValue0
 t24:=Tryz.underlying79
 a24:=Tryz.isAgg79
 z24:=Tryz.sizeOf79
 v24:=Tryz.zeroValue79
 t26:=Tryz.underlying9
 a26:=Tryz.isAgg9
 z26:=Tryz.sizeOf9
 v26:=Tryz.zeroValue9
 t28:=Tryz.underlying138
 a28:=Tryz.isAgg138
 z28:=Tryz.sizeOf138
 v28:=Tryz.zeroValue138
 i26:=by kernel_rfl

def nY:Go.Shelf.Ren:=⟨fun | 7=>98 | 10=>119 | n=>n,fun | 23=>64 | 26=>9 | 3=>50 | 28=>138 | 0=>0 | 27=>137 | 33=>97 | 4=>4 | n=>n,fun | n=>n⟩
theorem xM:Go.Proofs.SlLaysZ.n7 Tryz.prog nY where
 mixed:=by kernel_rfl
 f7 := ⟨ "maps.Keys[map[string]tender/api.Entry,string,tender/api.Entry]", by decide, Tryz.func98.trans (congrArg some (by kernel_rfl))⟩
 f10 := ⟨ "maps.Keys[map[string]tender/api.Entry,string,tender/api.Entry]$1", by decide, Tryz.func119.trans (congrArg some (by kernel_rfl))⟩
 t0:=Tryz.underlying0
 a0:=Tryz.isAgg0
 z0:=Tryz.sizeOf0
 v0:=Tryz.zeroValue0
 t4:=Tryz.underlying4
 a4:=Tryz.isAgg4
 z4:=Tryz.sizeOf4
 v4:=Tryz.zeroValue4
 t23:=Tryz.underlying64
 a23:=Tryz.isAgg64
 z23:=Tryz.sizeOf64
 v23:=Tryz.zeroValue64
 t26:=Tryz.underlying9
 a26:=Tryz.isAgg9
 z26:=Tryz.sizeOf9
 v26:=Tryz.zeroValue9
 t27:=Tryz.underlying137
 a27:=Tryz.isAgg137
 z27:=Tryz.sizeOf137
 v27:=Tryz.zeroValue137
 t28:=Tryz.underlying138
 a28:=Tryz.isAgg138
 z28:=Tryz.sizeOf138
 v28:=Tryz.zeroValue138
 t33:=Tryz.underlying97
 a33:=Tryz.isAgg97
 z33:=Tryz.sizeOf97
 v33:=Tryz.zeroValue97

def RR:Value->Option (DataW Unit × List MemPlace):=fun _=>some (.nil,[])
def Em (e:bH):Lit × DataW Unit:=(.string e.1.p.data.toList,.nil)
def w8 (E:List bH):DataW Unit:=.map ((E.map Em).foldr DataW.insert [])
theorem JW:Tryz.prog.underlying 9=some .string:=by kernel_rfl
theorem C9 {s:ByteArray} (hs:s.size<=1000000000):keyOf Tryz.prog 9 (Value.string s)=some (Lit.string s.data.toList):=by
 unfold keyOf mapKey;rw [JW];exact if_pos (Wj hs (by decide))
theorem Mo (e:bH) (hs:e.1.p.size<=1000000000):WideElems.rg Tryz.prog 9 RR (nc e)=Em e:=by
 unfold WideElems.rg WideElems.rd;have:(nc e).key=Value.string e.1.p:=rfl;rw [this,C9 hs];rfl
theorem J4 {w:World} {m cl:Nat} {E:List bH} (hB:c8 E cl) (hh:w.heap[m]?=some (.map (E.map nc).toArray cl)) (Y2:E.length<=1000):w.ownsMap Tryz.prog 9 RR m E.length (w8 E):=by
 refine ⟨_,_,hh,⟨?_,⟨?_,?_,?_⟩,?_⟩,by simp,?_⟩
 ·simp only [XJ,WH];exact Wj Y2 (by decide)
 ·intro x hx;obtain ⟨e,he,rfl⟩:=Wc.1 (show x∈E.map nc by simpa using hx);exact hB.born e he
 ·have:(E.map nc).map (·.born)=E.map fun e=>e.2:=by rw [WI];rfl
  rw [XN,this];exact hB.Zw
 ·have:(E.map nc).map (·.key)=(E.map fun e=>e.1.p).map Value.string:=by rw [WI,WI];rfl
  rw [XN,this];refine Yk.2 (hB.names.imp fun h h'=>h ?_);cases h';rfl
 ·intro x hx;obtain ⟨e,he,rfl⟩:=Wc.1 (show x∈E.map nc by simpa using hx);refine ⟨Em e,?_⟩;unfold WideElems.rd;have:(nc e).key=Value.string e.1.p:=rfl;rw [this,C9 (hB.size e he)];rfl
 ·unfold w8;rw [XN,WI];have:E.map ((WideElems.rg Tryz.prog 9 RR) ∘ nc)=E.map Em:=XB fun e he=>Mo e (hB.size e he);rw [this]
theorem Je (E:List bH):(strKeys (w8 E)).Perm (E.map fun e=>e.1.p.data.toList):=by
 unfold strKeys w8;refine ((WideShapes.sorted_perm (E.map Em)).map _).trans ?_;rw [WI];exact List.Perm.refl _
theorem qE (E:List bH):Maps.size (w8 E)=E.length:=by
 show (List.foldr DataW.insert [] (List.map Em E)).length=E.length;rw [DataW.length_sorted];simp
def Fz (w w':World) (v:Value) (l:List ByteArray):Prop:=(v=.slice none 0 0/\l=[])\/(l≠[]/\cG w w' v (l.map Value.string) l.length 1 9)
theorem Ee {w w':World} {v:Value} {l:List ByteArray} (h:w'.ownsRow w.heap.size 9 1 v l.length (l.map Value.string)) (hn:v=.slice none 0 0↔l=[]):Fz w w' v l:=by
 rcases h.2 with ⟨h1,h2⟩ | ⟨g,cap,cur,rfl,hg,hh,h1,h2,h3,h4⟩
 ·exact .inl ⟨h1,Wd.1 h2⟩
 ·refine .inr ⟨fun h0=>(by have:=hn.2 h0;cases this),g,cap,cur.toList.drop l.length,rfl,hg,h1,?_,?_⟩
  ·rw [hh,<- h4,XQ,Xg]
  ·rw [<- h4,XQ,Xg];simpa using h3
theorem DS (l:List (List UInt8)):l.map encStr=(l.map fun x=>(⟨x.toArray⟩:ByteArray)).map Value.string:=by rw [WI];rfl
theorem Ae (E:List bH):(E.map fun e=>e.1.p.data.toList).map (fun x=>(⟨x.toArray⟩:ByteArray))=E.map fun e=>e.1.p:=by
 rw [WI];exact XB fun e _=>by simp
theorem uC {w:World} {x m cl:Nat} {E:List bH} (hx:w.heap[x]?=some (.cells #[.map (some m)] 64 (0,0))) (hB:c8 E cl) (hh:w.heap[m]?=some (.map (E.map nc).toArray cl)) (Y2:E.length<=1000):
  Calls Tryz.prog 118 #[.func (.func 119) #[] #[.pointer (some ⟨x,0,none⟩)]] w fun e w'=>∃ v l,e=.returned v/\l.Perm (E.map fun e=>e.1.p)/\Fz w w' v l/\Below w.heap.size w w':=by
 have Y6:=J4 hB hh Y2;have hxl:x<w.heap.size:=(VY.1 hx).1
 have hseq:SeqGives Fence.wide 3 Tryz.prog 119 #[.pointer (some ⟨x,0,none⟩)] encStr (fun ss=>ss.Perm (strKeys (w8 E))) (Maps.size (w8 E)) w:=
  AnyZ.keys_gives (ρ:=nY) { xM with } Fence.wide 3 trivial rfl (by omega) x m E.length (w8 E) w hxl (by rw [cQ hx];rfl) Y6
 have h:=AnyZ.collect_in Fl Fence.wide 5 trivial trivial rfl (by omega) 119 #[.pointer (some ⟨x,0,none⟩)] trivial (enters_of Tryz.func119 (by kernel_rfl) rfl) _ (Maps.size (w8 E)) (by rw [qE];exact Wj Y2 (by decide)) (by rw [qE];omega) w hseq;refine (callsIn_wide.1 h).mono fun e w' ⟨v,ss,he,hp,hrow,hnil,hb⟩=>⟨v,ss.map fun x=>⟨x.toArray⟩,he,?_,?_,hb⟩
 ·have:=(hp.trans (Je E)).map fun x=>(⟨x.toArray⟩:ByteArray);rw [Ae] at this;exact this
 ·rw [DS] at hrow;have hrow:w'.ownsRow w.heap.size 9 1 v ss.length ((ss.map fun x=>(⟨x.toArray⟩:ByteArray)).map Value.string):=hrow;refine Ee (by simpa using hrow) ?_;rw [hnil];simp
theorem DA {E:List bH} {cl:Nat} (hB:c8 E cl) {l:List ByteArray} (hp:l.Perm (E.map fun e=>e.1.p)):∃ L:List MZ,L.map (·.1)=l:=by
 have hs:∀ s∈l,s.size<=1000000000:=fun s hs=>by
  obtain ⟨e,he,rfl⟩:=Wc.1 (hp.mem_iff.1 hs);exact hB.size e he
 exact ⟨l.attach.map fun s=>⟨s.1,hs s.1 s.2⟩,by rw [WI];exact List.attach_map_subtype_val l⟩
theorem tX {E:List bH} {l:List ByteArray} (hp:l.Perm (E.map fun e=>e.1.p)):bA l=bA (E.map fun e=>e.1.p):=
 jM (kA _) ((bz _).trans hp.symm)
def zl (w:World) (l:List ByteArray) (e:Ending) (w':World):Prop:=∃ v,e=.returned v/\Fz w w' v l/\Below w.heap.size w w'
theorem xG {w:World} {x m cl:Nat} {E:List bH} (hm:MX w) (hx:w.heap[x]?=some (.cells #[.map (some m)] 64 (0,0))) (hB:c8 E cl) (hh:w.heap[m]?=some (.map (E.map nc).toArray cl)) (Y2:E.length<=1000):
  Calls Tryz.prog 97 #[.func (.func 119) #[] #[.pointer (some ⟨x,0,none⟩)],.func (.func 89) #[] #[]] w (zl w (bA (E.map fun e=>e.1.p))):=by
 have hc:=uC hx hB hh Y2;clear hx hh;go_enter Tryz.func97,Tryz.ntmps97
 go_wp2_with (go_at_call 118;refine hc.mono ?_;rintro e W ⟨v,l,rfl,hp,hrow,hb⟩)
 rcases hrow with ⟨rfl,rfl⟩ | ⟨YI,b,c,rest,rfl,ε,hnc,hbh,Zb⟩
 ·go_wp2_with (go_at_call 112;refine (AnyF.slices_SortFunc_none { xi with } none 0 _ W).mono ?_;rintro e w' ⟨rfl,rfl⟩)
  go_ret
  refine ⟨_,rfl,.inl ⟨rfl,?_⟩,hb⟩;rw [<- tX hp];exact Wd.1 (bz []).length_eq
 ·have hs:=tX hp;obtain ⟨L,rfl⟩:=DA hB hp;have hm':MX W:=hm.keep fun k hk=>hb.block k hk
  have hbm:b≠2:=by
   obtain ⟨z,hz⟩:=hm;intro h0
   have h1:2<w.heap.size:=by
    rcases Nat.lt_or_ge 2 w.heap.size with h' | h'
    ·exact h'
    ·unfold World.cell? at hz;simp only at hz;rw [W8 h'] at hz;cases hz
   omega
  have hbh':W.heap[b]?=some (.cells (L.map zQ++rest).toArray 9 (0,0)):=by
   rw [hbh,WI];rfl
  have hll:L.length<=1000:=by
   have:=hp.length_eq;simp only [WH] at this;omega
  have cS:=r8 (cap:=c) hm' hbm hbh' (by omega);have hlen:(L.map (·.1)).length=L.length:=by simp
  rw [<- hlen] at cS;have HS:=Lib.hid hs;have HZ:=Lib.hid Zb;clear hbh hbh' hs hlen Zb hll;go_wp2_with (go_at_call 112;refine cS.mono ?_;rintro e w' ⟨rfl,hbut,ZK⟩);go_ret;refine ⟨_,rfl,.inr ⟨?_,b,c,rest,?_,ε,?_,?_,?_⟩,hbut.os.trans hb.os,hbut.tape.trans hb.tape,hbut.output.trans hb.output,Wj hb.size hbut.size,fun k hk=>(hbut.block k (Wz hk hb.size) (by omega)).trans (hb.block k hk)⟩
  ·rw [<- HS.out];intro h0;have:=(bz (L.map (·.1))).length_eq;rw [h0] at this;exact YI (Wd.1 this.symm)
  ·rw [<- HS.out,(bz _).length_eq];simp
  ·rw [<- HS.out,(bz _).length_eq];exact hnc
  ·rw [<- HS.out];exact ZK
  ·rw [<- HS.out];have h1:=HZ.out;simp only [V7,WH] at h1 ⊢;rw [(bz _).length_eq];simpa using h1
theorem qS {w:World} {b m cl:Nat} {s:Int} {E:List bH} (hm:MX w) (hA:jq w b m s E cl) (hB:c8 E cl) (Y2:E.length<=1000):
  Calls Tryz.prog 71 #[.pointer (some ⟨b,0,none⟩)] w (zl w (bA (E.map fun e=>e.1.p))):=by
 have hbl:b<w.heap.size:=(VY.1 hA.row).1;have hml:m<w.heap.size:=(VY.1 hA.map).1;have h1:w.cell? ⟨b,1,none⟩=some (.map (some m)):=by rw [cQ hA.row];rfl
 have hb:Below w.heap.size w (w.alloc (.cells #[.map (some m)] 64)):=(Below.refl _ _).alloc (Wx _) _;have cs:=xG (x:=w.heap.size) (hm.keep fun k hk=>hb.block k hk) (show (w.heap.push _)[w.heap.size]?=some _ by rw [Array.getElem?_push_size]) hB ((hb.block m hml).trans hA.map) Y2;have ck:=callsIn_wide.1 (AnyZ.keys_in xM Fence.wide 5 trivial rfl (some m) w);clear hA;go_enter Tryz.func71,Tryz.ntmps71
 go_wp2_with (first
  | (go_at_call 98;refine ck.mono ?_;rintro e w' ⟨rfl,rfl⟩)
  | (go_at_call 97;refine cs.mono ?_;rintro e w' ⟨v,rfl,hv,Za⟩))
 go_ret
 have h3:w.heap.size<=(w.alloc (.cells #[.map (some m)] 64)).heap.size:=hb.size;refine ⟨_,rfl,?_,hb.trans (Za.mono h3)⟩;rcases hv with hv | ⟨YI,g,c,rest,h4,h5,h6⟩
 ·exact .inl hv
 ·exact .inr ⟨YI,g,c,rest,h4,Wj h3 h5,h6⟩
end paths
open Go Go.Rx Go.RowKit Go.Proofs
namespace paths
def Mn (s:Int):Option (SO × Bool):=some (.row [.v (.int .u64 s),.map 1] 66 (0,0) none,false)
def Be (es:VQ) (cl:Nat):Option (SO × Bool):=some (.map es cl,false)
theorem rS {ν:aP}:∀ E:List bH,eI ν (E.map mC) (E.map nc)
 | []=>rfl
 | e::E=>⟨nc e,E.map nc,rfl,VR.ae.2 rfl,VR.bx.2 ⟨_,rfl,au.lits ν (eV e.1)⟩,rfl,rS E⟩
theorem kQ {b m:Nat × Nat} {o o':SO} (z:Nat):¬ (aD [b,m] ([o,o'].map fun o=>(o,false))) z:=aY (os:=[_,_])
def ui (w:World) (a:Option Addr) (l:Nat) (zs:List Int):Prop:=eZ w a l zs/\(a=none->l=0)
theorem ui.keep {w0 w:World} {a:Option Addr} {l:Nat} {zs:List Int} (h:ui w0 a l zs) (hk:∀ k,k<w0.heap.size->w.heap[k]?=w0.heap[k]?):ui w a l zs:=⟨h.1.keep hk,h.2⟩
theorem eh.E3 {w:World} {x:ak} {zs:List Int} (h:eh w.hp x zs) (hl:zs.length<=140737488355328):ui w x.a x.l zs:=by
 rcases h with ⟨h1,h2,h3⟩ | ⟨b,rest,h1,h2,h3⟩
 ·rw [h1,h2,h3];exact ⟨⟨rfl,WX _,fun b hb=>by cases hb⟩,fun _=>rfl⟩
 ·rw [h1];refine ⟨⟨h3,by omega,fun b' YM i hi W' hW=>?_⟩,fun h=>by cases h⟩;cases YM;have h2:w.heap[b]?=_:=h2;have YR:=(VY.1 h2).1;rw [di,cQ ((hW b YR).trans h2)];have:i<zs.length:=by omega
  simp [WC,this]
def ze (s:Int) (es:VQ) (cl:Nat) (p:ByteArray) (x:ak) (ys:List Int):SM:=(a6 (kP x.a x.l x.c ys) 72 [.ptr 0 0,.v (.string p)] (bG 6 2 0 [Mn s,Be es cl])).getD dn
theorem Sl (s:Int) (es:VQ) (cl:Nat) (j born:Nat) (x:ak) (ys:List Int):ey (kP x.a x.l x.c ys) 72 300 (ze s es cl x.p x ys) (VP++ff [0] true++[(1,.hit j (.agg [.v (.string x.p),.v (.int .u64 x.v),.v (.int .i64 x.k),.v (.slice x.a x.l x.c)]) born)]++ff (List.range 30) false) [] (.v (.agg #[.string x.p,.int .u64 x.v,.int .i64 x.k,.slice none 0 0]))=[Value.agg { toList:=[VS x.1,V1 IntKind.u64 x.2,vZ x.3,VT none 0 0]:Array Value }=Value.agg { toList:=[VS x.1,V1 IntKind.u64 x.2,vZ x.3,VT none 0 0]:Array Value },(x.3==x.3)=true,x.4=none,false=false,(∀ (e:SV × SV × Nat),e∈List.take j es->a8 x.p e.fst)/\es[j]?=some (SV.v (VS x.1),VZ [SV.v (VS x.1),SV.v (V1 IntKind.u64 x.2),SV.v (vZ x.3),SV.v (VT x.4 x.5 x.6)],born),(!false)=true]:=by kernel_rfl
theorem T8 (s:Int) (es:VQ) (cl:Nat) (j born:Nat) (x:ak) (ys:List Int) (m:List SV):bY (kP x.a x.l x.c ys) 72 300 (ze s es cl x.p x ys) (VP++ff [0] true++[(1,.hit j (.agg [.v (.string x.p),.v (.int .u64 x.v),.v (.int .i64 x.k),.v (.slice x.a x.l x.c)]) born)]++ff [2] false++ff (List.range 30) true) (.agg [.v (.string x.p),.v (.int .u64 x.v),.v (.int .i64 x.k),.sl 9 0 x.l none]) 9 (.row m 5 (0,0) (some 1))=[VS x.1=VS x.1,V1 IntKind.u64 x.2=V1 IntKind.u64 x.2,vZ x.3=vZ x.3,0=0/\x.5=x.5/\nZ=none,List.map SV.v (List.map (V1 IntKind.u8) ys)=m,m.all ab=true,(x.3==x.3)=true,(x.4=x.4/\x.5=x.5/\x.6=x.6)/\x.4≠none,false=false,(∀ (e:SV × SV × Nat),e∈List.take j es->a8 x.p e.fst)/\es[j]?=some (SV.v (VS x.1),VZ [SV.v (VS x.1),SV.v (V1 IntKind.u64 x.2),SV.v (vZ x.3),SV.v (VT x.4 x.5 x.6)],born),(!false)=true]:=by kernel_rfl
theorem Sv (s:Int) (es:VQ) (cl:Nat) (p:ByteArray) (x:ak) (ys:List Int) (v:Value):ao (kP x.a x.l x.c ys) 72 300 (ze s es cl p x ys) (VP++ff [0] true++[(1,.cr)]++ff (List.range 30) true) v=[Value.agg { toList:=[VS p,V1 IntKind.u64 0,vZ 0,VT none 0 0]:Array Value }=v,true=true,∀ (e:SV × SV × Nat),e∈es->a8 p e.fst,(!false)=true]:=by kernel_rfl
theorem vn {Q:Env} (hP:Q.P=Tryz.prog) (hG:Q.G=[]) {f:FuncId} {w:World} {b m cl:Nat} {s:Int} {E:List bH} (hA:jq w b m s E cl) (YI:b≠m) {p:ByteArray} {R:Ending->World->Prop} {S0:SM} (ζ:a6 Q f [.ptr 0 0,.v (.string p)] (bG 6 2 0 [Mn s,Be (E.map mC) cl])=some S0)
  (h:∀ cs0,af Q (aD [(b,0),(m,0)] ([SO.row [.v (.int .u64 s),.map 1] 66 (0,0) none,SO.map (E.map mC) cl].map fun o=>(o,false))) w cs0 f R (aA [(b,0),(m,0)]) S0):
  Calls Tryz.prog f #[.pointer (some ⟨b,0,none⟩),.string p] w R:=by
 refine aZ (E:=Q) hP (d:=6) (l:=[(b,0),(m,0)]) (os:=[.row [.v (.int .u64 s),.map 1] 66 (0,0) none,.map (E.map mC) cl]) rfl (by simp) (by simpa using YI) ?_ hG (args:=[.ptr 0 0,.v (.string p)]) (a:=[.pointer (some ⟨b,0,none⟩),.string p]) (S0:=S0) ζ (au.cons (VR.aF.2 ⟨(b,0),rfl,rfl⟩) (au.cons (VR.ae.2 rfl) au.nil)) h;intro j o' b' c' h1 h2;match j with
 | 0=>
  simp only [Wa,Option.some.injEq] at h1 h2;subst h1;cases h2;exact ⟨_,hA.row,_,[],rfl,au.cons (VR.ae.2 rfl) (au.cons (VR.cV.2 ⟨(m,0),rfl,rfl⟩) au.nil),rfl⟩
 | 1=>
  simp only [WU,Wa,Option.some.injEq] at h1 h2;subst h1;cases h2;exact ⟨_,hA.map,_,rfl,rS E⟩
 | j+2=>simp at h1
def gN (c:ak->List Int) (l:List ak) (p:ByteArray):Int × Int × List Int:=match l.find? (pH p) with | some f=>(f.v,f.k,c f) | none=>(0,0,[])
def xE (w w':World) (x:ak) (zs:List Int):Prop:=eh w'.hp x zs/\zs.length<=140737488355328/\∀ b,x.a=some b->w.heap.size<=b.block
def ko (H:Hp) (a:Option Addr) (l:Nat) (zs:List Int):Prop:=∀ w:World,H.Sub w.hp->ui w a l zs
theorem xE.JA {H:Hp} {w w':World} {x:ak} {zs:List Int} (h:xE w w' x zs):ko (H.grow w w') x.a x.l zs:=fun w2 h2=>by
 obtain ⟨hb,hl,hn⟩:=h
 refine eh.E3 (w:=w2) ?_ hl
 rcases hb with hb | ⟨b,rest,h1,h3,h4⟩
 ·exact .inl hb
 ·refine .inr ⟨b,rest,h1,h2 _ _ ?_,h4⟩
  have:=hn _ h1
  unfold Hp.grow
  rw [if_neg (by simp only at this;omega)]
  exact h3
def N4 (H:Hp) (z:Int × Int × List Int) (p:ByteArray) (w:World) (e:Ending) (w':World):Prop:=Below w.heap.size w w'/\∃ x zs,e=.returned (.agg (eV x).toArray)/\x.p=p/\(x.v,x.k,zs)=z/\ko (H.grow w w') x.a x.l zs
theorem Gt {w:World}:ui w none 0 []:=⟨⟨rfl,WX _,fun b hb=>by cases hb⟩,fun _=>rfl⟩
theorem q8 {w w':World} {x:ak} (h:x.a=none) (h2:x.l=0):xE w w' x []:=⟨.inl ⟨h,h2,rfl⟩,WX _,fun b hb=>by rw [h] at hb;cases hb⟩
theorem vq {w w':World} {x:ak} {zs:List Int} {b c:Nat} {v:Value} (hD:ui w x.a x.l zs) (hv:v=.slice (some ⟨b,0,none⟩) x.l c) (h:cG w w' v (zs.map (Value.int .u8)) x.l 1 5):xE w w' ⟨x.p,x.v,x.k,some ⟨b,0,none⟩,x.l,c⟩ zs:=by
 obtain ⟨g,c',rest,h2,h3,h4,h5,h6⟩:=h;rw [hv] at h2;cases h2;exact ⟨.inr ⟨b,rest,rfl,h5,hD.1.1⟩,by rw [hD.1.1];exact hD.1.2.1,fun b' YM=>by cases YM;exact h3⟩
theorem Et {w:World} {b m cl:Nat} {s:Int} {E:List bH} {cm:ak->List Int} (hA:jq w b m s E cl) (YI:b≠m) (hB:c8 E cl) (hd:∀ e∈E,ui w e.1.a e.1.l (cm e.1)) (p:ByteArray) (H:Hp):
  Calls Tryz.prog 72 #[.pointer (some ⟨b,0,none⟩),.string p] w (N4 H (gN cm (E.map (·.1)) p) p w):=by
 unfold gN;cases hf:(E.map (·.1)).find? (pH p) with
 | none=>
  have hm:∀ e∈E,e.1.p≠p:=fun e he h=>by
   have:=WY.1 hf e.1 (Wc.2 ⟨e,he,rfl⟩);exact this (gw.2 h)
  refine vn (Q:=kP none 0 0 []) rfl rfl hA YI (S0:=ze s (E.map mC) cl p ⟨p,0,0,none,0,0⟩ []) (by kernel_rfl) fun cs0=>?_;refine af.ao (Bf (x:=⟨p,0,0,none,0,0⟩) kQ Gt.1) (n:=300) (o:=(VP++ff [0] true++[(1,.cr)]++ff (List.range 30) true)) (v:=.agg #[.string p,.int .u64 0,.int .i64 0,.slice none 0 0]) ?_ fun ν' M1 w1 s' w' _ hB hr=>⟨aB kQ hB hr,⟨p,0,0,none,0,0⟩,[],rfl,rfl,rfl,(q8 rfl rfl).JA⟩;rw [show (kP none 0 0 [])=kP (⟨p,0,0,none,0,0⟩:ak).a (⟨p,0,0,none,0,0⟩:ak).l (⟨p,0,0,none,0,0⟩:ak).c [] from rfl,Sv];simp only [ah,VV,VX,VW];exact ⟨rfl,xQ hm⟩
 | some f=>
  have hf1:=WV hf;have hfp:f.p=p:=gw.1 (Xr hf);obtain ⟨g,hg,rfl⟩:=Wc.1 hf1;subst hfp;have hD:=hd g hg;obtain ⟨j,hj,hx⟩:=wq hB.names hg;refine vn (Q:=kP g.1.a g.1.l g.1.c (cm g.1)) rfl rfl hA YI (S0:=ze s (E.map mC) cl g.1.p g.1 (cm g.1)) (by kernel_rfl) fun cs0=>?_;by_cases ha:g.1.a=none
  ·refine Fa (v:=.agg #[.string g.1.p,.int .u64 g.1.v,.int .i64 g.1.k,.slice none 0 0]) (Bf kQ hD.1) kQ (n:=300) (o:=(VP++ff [0] true++[(1,.hit j (.agg [.v (.string g.1.p),.v (.int .u64 g.1.v),.v (.int .i64 g.1.k),.v (.slice g.1.a g.1.l g.1.c)]) g.2)]++ff (List.range 30) false)) ⟨?_⟩ fun w' hB=>⟨hB,⟨g.1.p,g.1.v,g.1.k,none,0,0⟩,cm g.1,rfl,rfl,rfl,?_⟩
   ·rw [Sl];simp only [ah,VV,VX,VW];refine ⟨⟨⟨rfl,hj⟩,ha⟩,?_⟩;first | rfl | exact WB g.1.k
   ·have h0:cm g.1=[]:=Wd.1 (by rw [hD.1.1];exact hD.2 ha);rw [h0];exact (q8 rfl rfl).JA
  ·refine af.bY (Bf kQ hD.1) (n:=300) (o:=(VP++ff [0] true++[(1,.hit j (.agg [.v (.string g.1.p),.v (.int .u64 g.1.v),.v (.int .i64 g.1.k),.v (.slice g.1.a g.1.l g.1.c)]) g.2)]++ff [2] false++ff (List.range 30) true)) (x:=.agg [.v (.string g.1.p),.v (.int .u64 g.1.v),.v (.int .i64 g.1.k),.sl 9 0 g.1.l none]) (i:=9) (so:=.row (List.map SV.v (List.map (Value.int .u8) (cm g.1))) 5 (0,0) (some 1)) (by
    rw [T8];simp only [ah,bJ,VV,VX,VW];refine ⟨⟨⟨rfl,hj⟩,ha⟩,?_⟩;first | rfl | exact WB g.1.k) fun ν' w' y b1 ob hv hb ho YO hw hB=>?_
   have hn:w.heap.size<=b1.1:=by
    rcases hw with h | h
    ·exact h
    ·exact absurd h (kQ _)
   obtain ⟨_,_,_,_,hB,hr⟩:=hB;obtain ⟨a,rfl,ha1⟩:=VR.bx.1 hv;obtain ⟨y1,a1,rfl,q1,YV⟩:=ha1.cons_inv;obtain ⟨y2,a2,rfl,q2,ZL⟩:=YV.cons_inv;obtain ⟨y3,a3,rfl,q3,ha4⟩:=ZL.cons_inv;obtain ⟨y4,a4,rfl,q4,ha5⟩:=ha4.cons_inv;obtain rfl:=ha5.ay;obtain rfl:=VR.ae.1 q1;obtain rfl:=VR.ae.1 q2;obtain rfl:=VR.ae.1 q3;have hs:=cG.fW q4 hb ho YO hn fun zs hz=>sW hz;have hs2:=hs;obtain ⟨g',c,rest,rfl,_⟩:=hs2;exact ⟨aB kQ hB hr,⟨g.1.p,g.1.v,g.1.k,_,g.1.l,c⟩,cm g.1,rfl,rfl,rfl,(vq (x:=g.1) hD rfl hs).JA⟩
def Ef (x:ak):SV:=.v (.agg #[.string x.p,.int .u64 x.v,.int .i64 x.k,.slice x.a x.l x.c])
theorem iQ {W w:World} {H:Hp} (h0:W.hp.Sub H) (h:H.Sub w.hp):∀ k,k<W.heap.size->w.heap[k]?=W.heap[k]?:=fun k hk=>by
 have h1:=h _ _ (h0 k W.heap[k] (WS hk))
 rw [WS hk];exact h1
def Av (E:List bH):H8:=fun args sh=>match args with
 | [.ptr i 0]=>match sh.look i with
  | some (.row [.v (.int .u64 s),.map j] t z x,_)=>match sh.look j with
   | some (.map es cl,_)=>some ((bA (E.map fun e=>e.1.p)).map Value.string,E.length,1,9,none,t=66/\z=(0,0)/\x=none/\es=E.map mC/\c8 E cl/\E.length<=1000/\E≠[])
   | _=>none
  | _=>none
 | _=>none
def Ba (E:List bH):zF:=fun args sh=>match args with
 | [.ptr i 0]=>match sh.look i with
  | some (.row [.v (.int .u64 s),.map j] t z x,_)=>match sh.look j with
   | some (.map es cl,_)=>some (.slice none 0 0,t=66/\z=(0,0)/\x=none/\es=E.map mC/\c8 E cl/\E=[])
   | _=>none
  | _=>none
 | _=>none
def Q1 (E:List bH):List (FuncId × Sum):=[(71,gq (fl (Av E)) (de (Ba E)))]
def rP (E:List bH):Env:={ EP [] [] with Y7:=fun f=>(Q1 E).lookup f }
def zX (E:List bH) (s:Int) (es:VQ) (cl:Nat):SM:=(a6 (rP E) 34 [.ptr 0 0] (bG 6 2 0 [Mn s,Be es cl])).getD dn
def LO:List SI:=dB (rP []) 2 60 (zX [] 0 [] 0) (VP++ff (List.range 10) true)
def pT (n:Nat) (x:SV) (i:Int):SF:={ fn:=34,tm:=fh 20 6 ([.ptr 0 0,.aH,x,.aH,.aH,.aH,.sl 2 0 n none,.v (.int .i64 n),.v (.int .i64 i)]++List.replicate 11 .aH),todo:=LO,defers:=[],ret:=false,kind:=.normal,ro:=none }
def JU (l:List SV):Option (SO × Bool):=some (.row l 9 (0,0) (some 1),true)
def vX (s:Int) (es:VQ) (cl:Nat) (l:List SV):List (Option (SO × Bool)):=[Mn s,Be es cl,JU l]
def rZ (s:Int) (es:VQ) (cl:Nat) (l m:List SV):List (Option (SO × Bool)):=[Mn s,Be es cl,JU l,fA m]
def NM (E:List bH) (n:Nat) (i:Int) (s:Int) (es:VQ) (cl:Nat) (l:List SV) (q:ByteArray) (x:ak):SM:=dA (rP E) 72 60 (SM.at (pT n bZ i) 6 (vX s es cl l)) (ff [0] true++[(2,.cells [.v (.string q)])]) (Ef x)
def Ot (E:List bH) (n:Nat) (i:Int) (s:Int) (es:VQ) (cl:Nat) (l m:List SV) (k:Nat) (q:ByteArray) (x:ak):SM:=dA (rP E) 72 60 (SM.at (pT n (.sl 3 0 k none) i) 6 (rZ s es cl l m)) (ff [0] true++[(2,.cells [.v (.string q)])]) (Ef x)
theorem RC (E:List bH) (s:Int) (es:VQ) (cl n:Nat) (l:List SV):reach (rP E) 2 60 (zX E s es cl) (VP++ff (List.range 10) true) [(0,0),(1,1),(2,2)] [1,2] (pT n bZ 0) 6 (vX s es cl l)=[0=0,VT none 0 0=VT none 0 0,0=0/\E.length=n/\nZ=none,vZ (↑E.length:Int)=vZ (↑n:Int),vZ 0=vZ 0,V1 IntKind.u64 s=V1 IntKind.u64 s,cl=cl,es=es,(es.all fun e=>aw e.fst&&aw e.snd.fst)=true,List.map SV.v (List.map VS (bA (List.map (fun e=>e.fst.p) E)))=l,l.all ab=true,66=66/\(0,0)=(0,0)/\nZ=none/\es=List.map mC E/\c8 E cl/\E.length<=1000/\E≠[]]:=by kernel_rfl
theorem Rw (E:List bH) (s:Int) (es:VQ) (cl:Nat) (v:Value):ao (rP E) 34 60 (zX E s es cl) (VP++ff (List.range 10) false) v=[VT none 0 0=v,false=false,66=66/\(0,0)=(0,0)/\nZ=none/\es=List.map mC E/\c8 E cl/\E=[]]:=by kernel_rfl
theorem PN (E:List bH) (s:Int) (es:VQ) (cl n:Nat) (l:List SV) (i:Int) (q:ByteArray):dS (rP E) 72 60 (SM.at (pT n bZ i) 6 (vX s es cl l)) (ff [0] true++[(2,.cells [.v (.string q)])])=[l[0+i.toNat*1]?=some (SV.v (VS q)),ai i n=true,decide (i<(↑n:Int))=true]:=by kernel_rfl
theorem QH (E:List bH) (s:Int) (es:VQ) (cl n:Nat) (l:List SV) (i:Int) (q:ByteArray) (x:ak):dT (rP E) 72 60 (SM.at (pT n bZ i) 6 (vX s es cl l)) (ff [0] true++[(2,.cells [.v (.string q)])]) (Ef x)=[l[0+i.toNat*1]?=some (SV.v (VS q)),ai i n=true,decide (i<(↑n:Int))=true]:=by kernel_rfl
theorem Qy (E:List bH) (s:Int) (es:VQ) (cl n:Nat) (l l':List SV) (i i':Int) (q:ByteArray) (x:ak):reach (rP E) 2 60 (NM E n i s es cl l q x) (ff [0] false) [(0,0),(1,1),(2,2),(3,4)] [1,2,3] (pT n (.sl 3 0 1 none) i') 6 (rZ s es cl l l')=[0=0,0=0/\1=1/\nZ=none,0=0/\n=n/\nZ=none,vZ (↑n:Int)=vZ (↑n:Int),vZ (IntKind.i64.wrap (i+1))=vZ i',V1 IntKind.u64 s=V1 IntKind.u64 s,cl=cl,es=es,(es.all fun e=>aw e.fst&&aw e.snd.fst)=true,l=l,l.all ab=true,[]++List.take (1*4) (List.drop 0 (aQ (List.replicate 1 (List.map SV.v [VS ⟨⟨[]⟩⟩,V1 IntKind.u64 0,vZ 0,VT none 0 0])).flatten (0*4) (List.map SV.v [VS x.1,V1 IntKind.u64 x.2,vZ x.3,VT x.4 x.5 x.6])))=l',l'.all ab=true,false=false]:=by kernel_rfl
theorem Qa (E:List bH) (s:Int) (es:VQ) (cl n k:Nat) (l m:List SV) (i:Int) (q:ByteArray):dS (rP E) 72 60 (SM.at (pT n (.sl 3 0 k none) i) 6 (rZ s es cl l m)) (ff [0] true++[(2,.cells [.v (.string q)])])=[l[0+i.toNat*1]?=some (SV.v (VS q)),ai i n=true,decide (i<(↑n:Int))=true]:=by kernel_rfl
theorem PV (E:List bH) (s:Int) (es:VQ) (cl n k:Nat) (l m:List SV) (i:Int) (q:ByteArray) (x:ak):dT (rP E) 72 60 (SM.at (pT n (.sl 3 0 k none) i) 6 (rZ s es cl l m)) (ff [0] true++[(2,.cells [.v (.string q)])]) (Ef x)=[l[0+i.toNat*1]?=some (SV.v (VS q)),ai i n=true,decide (i<(↑n:Int))=true]:=by kernel_rfl
theorem Qr (E:List bH) (s:Int) (es:VQ) (cl n k:Nat) (l m w l':List SV) (i i':Int) (q:ByteArray) (x:ak):reach (rP E) 2 60 (Ot E n i s es cl l m k q x) ([(0,.app m w)]) [(0,0),(1,1),(2,2),(3,5)] [1,2,3] (pT n (.sl 3 0 (k+1) none) i') 6 (rZ s es cl l l')=[0=0,0=0/\k+1=k+1/\nZ=none,0=0/\n=n/\nZ=none,vZ (↑n:Int)=vZ (↑n:Int),vZ (IntKind.i64.wrap (i+1))=vZ i',V1 IntKind.u64 s=V1 IntKind.u64 s,cl=cl,es=es,(es.all fun e=>aw e.fst&&aw e.snd.fst)=true,l=l,l.all ab=true,m++w=l',l'.all ab=true,((List.take (1*4) (List.drop 0 (aQ (List.replicate 1 (List.map SV.v [VS ⟨⟨[]⟩⟩,V1 IntKind.u64 0,vZ 0,VT none 0 0])).flatten (0*4) (List.map SV.v [VS x.1,V1 IntKind.u64 x.2,vZ x.3,VT x.4 x.5 x.6])))=w/\w.length=1*4)/\1≠0/\(2*(k+1)+1024)*56<=140737488355328)/\List.take (k*4) m=m/\m.length=k*4/\w.all SV.flat=true]:=by kernel_rfl
theorem Rb (E:List bH) (s:Int) (es:VQ) (cl n k:Nat) (l m:List SV) (i:Int):bY (rP E) 34 60 (SM.at (pT n (.sl 3 0 k none) i) 6 (rZ s es cl l m)) (ff [0] false) (.sl 3 0 k none) 3 (.row m 50 (0,0) (some 4))=[0=0/\k=k/\nZ=none,m=m,m.all ab=true,decide (i<(↑n:Int))=false]:=by kernel_rfl
theorem uZ {ν:aP} {M:Own} {w0 w:World} {sh:SH} (hr:HR ν M w0 sh w) {i j:Nat} {s:Int} {t:TypeId} {z:Nat × Nat} {x:Option Nat} {mi mj:Bool} {E:List bH} {cl:Nat} {a:List Value}
  (hi:sh.look i=some (.row [.v (.int .u64 s),.map j] t z x,mi)) (hj:sh.look j=some (.map (E.map mC) cl,mj)) (ht:t=66) (hz:z=(0,0)) (hx:x=none) (ha:au ν [.ptr i 0] a):
  ∃ b m,a=[.pointer (some ⟨b,0,none⟩)]/\jq w b m s E cl/\b≠m:=by
 subst ht hz hx;obtain ⟨y1,ZY,rfl,q1,YV⟩:=ha.cons_inv;obtain rfl:=YV.ay;obtain ⟨bb,Zd,rfl⟩:=VR.aF.1 q1;obtain ⟨_,_,b,ob,hb,ho,YO,_⟩:=hr.look hi;obtain ⟨_,_,b2,υ,Za,ho2,hor2,_⟩:=hr.look hj;rw [Zd] at hb;cases hb;obtain ⟨zs,rest,rfl,hzs,hl⟩:=YO;obtain ⟨z1,u,rfl,r1,hu⟩:=hzs.cons_inv;obtain ⟨z2,u2,rfl,r2,hu2⟩:=hu.cons_inv;obtain rfl:=hu2.ay;obtain rfl:=VR.ae.1 r1;obtain ⟨bm,hbm,rfl⟩:=VR.cV.1 r2;rw [Za] at hbm;cases hbm
 have h0:rest=[]:=by
  have:([Value.int .u64 s,Value.map (some b2.1)]++rest).length=2:=hl;simpa using this
 subst h0;obtain ⟨l,rfl,hl2⟩:=hor2;refine ⟨bb.1,b2.1,rfl,⟨by rw [ho];rfl,by rw [ho2,xz hl2]⟩,fun h=>?_⟩;rw [h,ho2] at ho;cases ho
theorem kC (E:List bH):(bA (E.map fun e=>e.1.p)).length=E.length:=by rw [(bz _).length_eq];simp
theorem Ev {E:List bH}:bh Tryz.prog MX (71,gq (fl (Av E)) (de (Ba E))):=by
 refine bh.br (gK ⟨_,Tryz.func71,by kernel_rfl,by kernel_rfl⟩ fun args sh ys n C elem ex p h hp ν M w0 w a hr hX ha=>?_) (dR ⟨_,Tryz.func71,by kernel_rfl,by kernel_rfl⟩ fun args sh v p h hp ν M w0 w a hr hX ha=>?_)
 ·dsimp only [Av] at h;split at h
  ·rename_i i;split at h
   ·rename_i s j t z x m1 hi;split at h
    ·rename_i es cl m2 hj;cases h;obtain ⟨ht,hz,hx,rfl,hB,Y2,YI⟩:=hp;obtain ⟨b,m,rfl,hA,_⟩:=uZ hr hi hj ht hz hx ha;refine (qS hX hA hB Y2).mono fun e w' ⟨v,he,hv,hb⟩=>⟨hb,v,he,?_⟩;rcases hv with ⟨_,h0⟩ | ⟨_,h1⟩
     ·have:=kC E;rw [h0] at this;exact absurd (Wd.1 this.symm) YI
     ·rw [kC] at h1;exact h1
    ·cases h
   ·cases h
  ·cases h
 ·dsimp only [Ba] at h;split at h
  ·rename_i i;split at h
   ·rename_i s j t z x m1 hi;split at h
    ·rename_i es cl m2 hj;cases h;obtain ⟨ht,hz,hx,rfl,hB,rfl⟩:=hp;obtain ⟨b,m,rfl,hA,_⟩:=uZ hr hi hj ht hz hx ha;refine (qS hX hA hB (WX _)).mono fun e w' ⟨v,he,hv,hb⟩=>⟨hb,?_⟩;rcases hv with ⟨h1,_⟩ | ⟨h0,_⟩
     ·rw [he,h1]
     ·exact absurd (Wd.1 (bz []).length_eq) h0
    ·cases h
   ·cases h
  ·cases h
theorem MT {M0 M:Own} {w00 w0:World} {E:List bH} (hM:∀ z,¬ M0 z) (hB:dh M0 w00 M w0) (hX:MX w00):aK (rP E) M w0:=
 aK.uS (Checked.mixed Tryz.checked) (by kernel_rfl) (fk.of iI rfl dK) (dz.list (X:=MX) (l:=Q1 E) rfl (fun r h=>by
  rw [Wk.1 h];exact Ev) fun ν s w hr _=>hX.keep fun k hk=>(hr.frame k (Wz hk hB.size) (hB.frame k hk (hM k)).2).trans (hB.frame k hk (hM k)).1) (fun f g h=>by cases h)
def J6 (w w':World) (z:ByteArray->Int × Int × List Int) (L:List ByteArray) (v:Value):Prop:=(L=[]/\v=.slice none 0 0) \/
 ∃ zs,zs≠[]/\zs.map (·.p)=L/\cG w w' v (vE zs) zs.length 4 50/\∀ x∈zs,∃ us,(x.v,x.k,us)=z x.p/\ui w' x.a x.l us
def OZ (w:World) (z:ByteArray->Int × Int × List Int) (L:List ByteArray) (e:Ending) (w':World):Prop:=Below w.heap.size w w'/\∃ v,e=.returned v/\J6 w w' z L v
def strs (L:List ByteArray):List SV:=(L.map Value.string).map SV.v
theorem bL (L:List ByteArray):(strs L).all ab=true:=by
 rw [Wn];intro x hx;obtain ⟨v,_,rfl⟩:=Wc.1 hx;rfl
theorem rF {L:List ByteArray} {i:Nat} {q:ByteArray} (h:L[i]?=some q):(strs L)[0+(i:Int).toNat*1]?=some (.v (.string q)):=by
 unfold strs;rw [V5,W9,XQ,Wv,Wv,h];rfl
theorem ib (E:List bH):((E.map mC).all fun e=>aw e.1&&aw e.2.1)=true:=by
 rw [Wn];intro x hx;obtain ⟨v,_,rfl⟩:=Wc.1 hx;rfl
section
variable {W:World} {cs0:List Frame} {E:List bH} {cm:ak->List Int} {b m cl:Nat} {s:Int} {M:Own} {ν:aP}
theorem Dc (hX:MX W) (hM:∀ z,¬ M z) (hA:jq W b m s E cl) (YI:b≠m) (hB:c8 E cl) (hd:∀ e∈E,ui W e.1.a e.1.l (cm e.1)) (hν:ν 0=some (b,0)) {S:SM} {q:ByteArray} {o:List (Nat × gM)} {H:Hp} {M1:Own} {w1:World} (hk:Kept W.hp M W H M1 w1) {R:Ending->World->Prop}
  (h1:ah (dS (rP E) 72 60 S o)) (h2:iD (rP E) 72 60 S o=eL (rP E) 72 [.ptr 0 0,.v (.string q)] .normal) (h3:∀ x,ah (dT (rP E) 72 60 S o (Ef x)))
  (nx:∀ H' M2 w2 (x:ak) us,Kept W.hp M W H' M2 w2->H.Sub H'->x.p=q->(x.v,x.k,us)=gN cm (E.map (·.1)) q->ko H' x.a x.l us->af (rP E) M2 w2 cs0 34 R ν (dA (rP E) 72 60 S o (Ef x))):
  af (rP E) M1 w1 cs0 34 R ν S:=by
 refine af.gD (MT hM hk.base hX) hk (n:=60) (g:=72) (o:=o) (args:=[.ptr 0 0,.v (.string q)]) h1 h2 fun ν' w a hle YJ hgr ha=>?_;obtain ⟨y1,ZY,rfl,q1,YV⟩:=ha.cons_inv;obtain ⟨y2,as2,rfl,q2,ZL⟩:=YV.cons_inv;obtain rfl:=ZL.ay;obtain rfl:=VR.ae.1 q2;obtain ⟨bb,Zd,rfl⟩:=VR.aF.1 q1;have Zd:=Zd.symm.trans (hle 0 (b,0) hν);cases Zd;have hkp:=iQ hk.Zf YJ;have hA':jq w b m s E cl:=⟨(hkp b (VY.1 hA.row).1).trans hA.row,(hkp m (VY.1 hA.map).1).trans hA.map⟩;refine (Et hA' YI hB (fun e he=>(hd e he).keep hkp) q H).mono fun e w' ⟨Zv,x,zs,he,hxp,hz,hd'⟩=>⟨Zv,.agg #[.string x.p,.int .u64 x.v,.int .i64 x.k,.slice x.a x.l x.c],he,fun M2 ZE=>⟨h3 x,?_⟩⟩;exact nx _ M2 w' x zs ZE (Hp.fj YJ) hxp hz hd'
theorem ko.sub {H H':Hp} {a:Option Addr} {l:Nat} {us:List Int} (h:ko H a l us) (hs:H.Sub H'):ko H' a l us:=fun w hw=>h w (hs.trans hw)
theorem CO (hX:MX W) (hM:∀ z,¬ M z) (hA:jq W b m s E cl) (YI:b≠m) (hB:c8 E cl) (hd:∀ e∈E,ui W e.1.a e.1.l (cm e.1)) (hν:ν 0=some (b,0)) (hν1:∀ i b,ν i=some b->i=0\/i=1) {L:List ByteArray} (Y2:L.length<=1000):
  ∀ (j i:Nat),i+j=L.length->∀ H M1 w1 (zs:List ak),Kept W.hp M W H M1 w1->zs≠[]->zs.map (·.p)=L.take i->(∀ x∈zs,∃ us,(x.v,x.k,us)=gN cm (E.map (·.1)) x.p/\ko H x.a x.l us)->
   af (rP E) M1 w1 cs0 34 (OZ W (gN cm (E.map (·.1))) L) ν (SM.at (pT L.length (.sl 3 0 zs.length none) (i:Int)) 6 (rZ s (E.map mC) cl (strs L) (cE zs)))
 | 0,i,hj,H,M1,w1,zs,hk,hz,hp,hdat=>by
  rw [We (by omega)] at hp
  refine af.bY (MT hM hk.base hX) (n:=60) (o:=ff [0] false) (x:=.sl 3 0 zs.length none) (i:=3) (so:=.row (cE zs) 50 (0,0) (some 4)) (by
   rw [Rb];simp only [ah,aM,VV,VX,VW];exact V2 (by omega)) fun ν' w' y b1 ob hv hb ho YO hw Zv=>?_
  obtain ⟨M3,w3,M4,s',hBb,hr⟩:=Zv
  have hn:W.heap.size<=b1.1:=by
   rcases hk.base.own _ hw with h | h
   ·exact h
   ·exact absurd h (hM _)
  have hnow:=hk.now hBb hr
  exact ⟨aB hM (hk.base.trans hBb) hr,y,rfl,.inr ⟨zs,hz,hp,cG.fW hv hb ho YO hn fun zs hz=>xq hz,fun x hx=>by
   obtain ⟨us,h1,h2⟩:=hdat x hx;exact ⟨us,h1,h2 _ hnow⟩⟩⟩
 | j+1,i,hj,H,M1,w1,zs,hk,hz,hp,hdat=>by
  have hi:i<L.length:=by omega
  have hq:L[i]?=some L[i]:=V4 hi
  have hzl:zs.length=i:=by
   have:=congrArg List.length hp;simpa [Nat.min_eq_left (Nat.le_of_lt hi)] using this
  refine Dc hX hM hA YI hB hd hν hk (q:=L[i]) (o:=ff [0] true++[(2,.cells [.v (.string L[i])])]) ?_ (by kernel_rfl) (fun x=>?_) fun H' M2 w2 x us ZM hs hxp hzz hdd=>?_
  ·rw [Qa];simp only [ah,rF hq,aJ hi,V0 (show (i:Int)<(L.length:Int) by omega),VV,VX,VW]
  ·rw [PV];simp only [ah,rF hq,aJ hi,V0 (show (i:Int)<(L.length:Int) by omega),VV,VX,VW]
  ·have nx:=CO hX hM hA YI hB hd hν hν1 Y2 j (i+1) (by omega) H' M2 w2 (zs++[x]) ZM (by simp) (by rw [Wq,hp,List.take_add_one,hq];simp [hxp]) (fun y hy=>by
    rcases WJ.1 hy with hy | hy
    ·obtain ⟨us,h1,h2⟩:=hdat y hy;exact ⟨us,h1,h2.sub hs⟩
    ·rw [Wk.1 hy];exact ⟨us,by rw [hxp];exact hzz,hdd⟩)
   rw [V7,show ([x]:List ak).length=1 from rfl,nD,jo] at nx;refine af.reach (MT hM ZM.base hX) (k:=2) (n:=60) (o:=[(0,.app (cE zs) (eC x))]) (ren:=[(0,0),(1,1),(2,2),(3,5)]) (eqs:=[1,2,3]) (S:=Ot E L.length (i:Int) s (E.map mC) cl (strs L) (cE zs) zs.length L[i] x) ?_ (by kernel_rfl) (fun i b h=>by rcases hν1 i b h with h | h <;> rw [h] <;> rfl) nx;rw [Qr];simp only [ah,aU (k:=i) (by omega),aM,bL,ib,my,gP,WM,VV,VX,VW];repeat' apply And.intro
   all_goals first | rfl | omega | exact We (by rw [gP];exact Wx _) | exact cD _ | skip
theorem IC (hX:MX W) (hM:∀ z,¬ M z) (hA:jq W b m s E cl) (YI:b≠m) (hB:c8 E cl) (hd:∀ e∈E,ui W e.1.a e.1.l (cm e.1)) (hν:ν 0=some (b,0)) (hν1:∀ i b,ν i=some b->i=0\/i=1) {L:List ByteArray} (Y2:L.length<=1000) (hL:L≠[]) {H:Hp} {M1:Own} {w1:World} (hk:Kept W.hp M W H M1 w1):
  af (rP E) M1 w1 cs0 34 (OZ W (gN cm (E.map (·.1))) L) ν (SM.at (pT L.length bZ ((0:Nat):Int)) 6 (vX s (E.map mC) cl (strs L))):=by
 have hi:0<L.length:=Xh.2 hL;have hq:L[0]?=some L[0]:=V4 hi;refine Dc hX hM hA YI hB hd hν hk (q:=L[0]) (o:=ff [0] true++[(2,.cells [.v (.string L[0])])]) ?_ (by kernel_rfl) (fun x=>?_) fun H' M2 w2 x us ZM hs hxp hzz hdd=>?_
 ·rw [PN];simp only [ah,rF hq,aJ hi,V0 (show ((0:Nat):Int)<(L.length:Int) by omega),VV,VX,VW]
 ·rw [QH];simp only [ah,rF hq,aJ hi,V0 (show ((0:Nat):Int)<(L.length:Int) by omega),VV,VX,VW]
 ·have nx:=CO (cs0:=cs0) hX hM hA YI hB hd hν hν1 Y2 (L.length - 1) 1 (by omega) H' M2 w2 [x] ZM (by simp) (by rw [List.take_add_one,hq];simp [hxp]) (fun y hy=>by
   rw [Wk.1 hy];exact ⟨us,by rw [hxp];exact hzz,hdd⟩)
  rw [show ([x]:List ak).length=1 from rfl,jo] at nx;refine af.reach (MT hM ZM.base hX) (k:=2) (n:=60) (o:=ff [0] false) (ren:=[(0,0),(1,1),(2,2),(3,4)]) (eqs:=[1,2,3]) (S:=NM E L.length ((0:Nat):Int) s (E.map mC) cl (strs L) L[0] x) ?_ (by kernel_rfl) (fun i b h=>by rcases hν1 i b h with h | h <;> rw [h] <;> rfl) nx;rw [Qy];simp only [ah,aU (k:=0) (by omega),aM,bL,ib,cD,VV,VX,VW];repeat' apply And.intro
  all_goals first | rfl | omega | exact cD _ | skip
end
theorem uI {W:World} {b m cl:Nat} {s:Int} {E:List bH} {cm:ak->List Int} (hX:MX W) (hA:jq W b m s E cl) (YI:b≠m) (hB:c8 E cl) (hd:∀ e∈E,ui W e.1.a e.1.l (cm e.1)) (Y2:E.length<=1000):
  Calls Tryz.prog 34 #[.pointer (some ⟨b,0,none⟩)] W (OZ W (gN cm (E.map (·.1))) (bA (E.map fun e=>e.1.p))):=by
 have ho:∀ (j:Nat) (o':SO) (b' c':Nat),[SO.row [.v (.int .u64 s),.map 1] 66 (0,0) none,SO.map (E.map mC) cl][j]?=some o'->[(b,0),(m,0)][j]?=some (b',c')->∃ r,W.heap[b']?=some r/\OR (aA [(b,0),(m,0)]) j o' r:=by
  intro j o' b' c' h1 h2;match j with
  | 0=>
   simp only [Wa,Option.some.injEq] at h1 h2;subst h1;cases h2;exact ⟨_,hA.row,_,[],rfl,au.cons (VR.ae.2 rfl) (au.cons (VR.cV.2 ⟨(m,0),rfl,rfl⟩) au.nil),rfl⟩
  | 1=>
   simp only [WU,Wa,Option.some.injEq] at h1 h2;subst h1;cases h2;exact ⟨_,hA.map,_,rfl,rS E⟩
  | j+2=>simp at h1
 refine aZ (E:=rP E) rfl (d:=6) (l:=[(b,0),(m,0)]) (os:=[.row [.v (.int .u64 s),.map 1] 66 (0,0) none,.map (E.map mC) cl]) rfl (by simp) (by simpa using YI) ho rfl (args:=[.ptr 0 0]) (a:=[.pointer (some ⟨b,0,none⟩)]) (S0:=zX E s (E.map mC) cl) (by kernel_rfl) (au.cons (VR.aF.2 ⟨(b,0),rfl,rfl⟩) au.nil) fun cs0=>?_;have hM:∀ z,¬ (aD [(b,0),(m,0)] ([SO.row [.v (.int .u64 s),.map 1] 66 (0,0) none,SO.map (E.map mC) cl].map fun o=>(o,false))) z:=fun z=>kQ z
 have Z6:=Kept.start (H0:=W.hp) (M:=aD [(b,0),(m,0)] ([SO.row [.v (.int .u64 s),.map 1] 66 (0,0) none,SO.map (E.map mC) cl].map fun o=>(o,false))) (w:=W) (Hp.Sub.refl _) (fun z o _=>hM z) (dN (by
  intro j o' m' b' c' q1 q2;rw [Wv] at q1;obtain ⟨o2,q3,q4⟩:=Wg.1 q1;cases q4;exact ho j o' b' c' q3 q2)) (fun _ h=>h)
 have hν1:∀ i c,aA [(b,0),(m,0)] i=some c->i=0\/i=1:=fun i c h=>by
  match i with
  | 0=>exact .inl rfl
  | 1=>exact .inr rfl
  | i+2=>simp [aA] at h
 have hsl:=kC E;by_cases h0:E=[]
 ·subst h0;refine af.ao (MT hM Z6.base hX) (n:=60) (o:=VP++ff (List.range 10) false) (v:=.slice none 0 0) ?_ fun ν' M1 w1 s' w' _ Zv hr=>⟨aB hM Zv hr,_,rfl,.inl ⟨Wd.1 hsl,rfl⟩⟩;rw [Rw];simp only [ah,VV,VX,VW];exact hB
 ·have hL:bA (E.map fun e=>e.1.p)≠[]:=fun h=>h0 (Wd.1 (by rw [<- hsl,h];rfl));have nx:=IC (cs0:=cs0) (ν:=aA [(b,0),(m,0)]) hX hM hA YI hB hd rfl hν1 (by rw [hsl];exact Y2) hL Z6;rw [hsl] at nx;refine af.reach (MT hM Z6.base hX) (k:=2) (n:=60) (o:=VP++ff (List.range 10) true) (ren:=[(0,0),(1,1),(2,2)]) (eqs:=[1,2]) (S:=zX E s (E.map mC) cl) (F:=pT E.length bZ 0) (d:=6) (l:=vX s (E.map mC) cl (strs (bA (E.map fun e=>e.1.p)))) ?_ (by kernel_rfl) (fun i b h=>by rcases hν1 i b h with h | h <;> rw [h] <;> rfl) nx;rw [RC];simp only [ah,bL,ib,VV,VX,VW];repeat' apply And.intro
  all_goals first | rfl | exact hB | exact Y2 | exact h0 | skip
def OG (q:ByteArray):List SV:=[.v (.int .i64 3),.v (.string q)]
def sI (l:List ByteArray):List SV:=l.flatMap OG
section
variable {W:World} {cs0:List Frame} {M:Own} {ν:aP} {x1 x2:Nat} {D:ByteArray->Bool} {L:List ByteArray} {c:Nat}
end
open Go Go.Rx Go.RowKit Go.Proofs Go.Sort
def strOf:SV->ByteArray | .v (.string s)=>s | _=>⟨#[]⟩
def e9 (l:List SV):List ByteArray:=l.map strOf
theorem jI (L:List ByteArray):e9 (strs L)=L:=by
 unfold e9 strs;rw [WI,WI];exact (XB fun x _=>rfl).trans (List.map_id L)
theorem iK (L:List ByteArray):(strs L).length=L.length:=by unfold strs;simp
def Aq (L:List ByteArray):Prop:=L≠[]/\L.length<=100000/\∀ s∈L,s.size<=1000000000
def wR:Sum:=fun args s=>match args with
 | [.v u,.v v]=>some (.v (.tuple #[]),s.jg (u=.slice none 0 0/\v=.func (.func 89) #[] #[]))
 | [.sl j 0 n none,.v v]=>match s.look j with
  | some (.row ys e z (some C),true)=>some (.v (.tuple #[]),(s.jg (ys=strs (e9 ys)/\n=(e9 ys).length/\Aq (e9 ys)/\e=9/\z=(0,0)/\C=1/\v=.func (.func 89) #[] #[])).put j (.row (strs (bA (e9 ys))) e z (some C)))
  | _=>none
 | _=>none
def QO (L:List ByteArray):List ByteArray:=(Lib.compact (L.map fun s:ByteArray=>s.data.toList)).map fun x=>⟨x.toArray⟩
theorem FI {ν:aP} {M:Own} {w0 w:World} {s:SH} (hr:HR ν M w0 s w) {j n:Nat} {L:List ByteArray} {m:Bool} {y:Value} (hj:s.look j=some (.row (strs L) 9 (0,0) (some 1),m)) (hv:VR ν (.sl j 0 n none) y):
  ∃ b rest,ν j=some b/\n<=b.2/\y=.slice (some ⟨b.1,0,none⟩) n b.2/\w.heap[b.1]?=some (.cells (L.map Value.string++rest).toArray 9 (0,0))/\(L.map Value.string++rest).length=b.2*1:=by
 obtain ⟨b,hb,hle,rfl⟩:=VR.aL.1 hv;obtain ⟨_,_,b',o,YM,ho,YO,_⟩:=hr.look hj;rw [hb] at YM;cases YM;obtain ⟨zs,rest,rfl,hz,hx⟩:=YO;have hzs:zs=L.map Value.string:=gi hz (au.lits ν _);subst hzs;obtain ⟨_,b2,Za,Zb⟩:=hx;rw [hb] at Za;cases Za;exact ⟨b,rest,hb,hle,rfl,ho,Zb⟩
theorem Dr {L:List ByteArray} (h:∀ s∈L,s.size<=1000000000):∃ K:List MZ,K.map (·.1)=L:=
 ⟨L.attach.map fun s=>⟨s.1,h s.1 s.2⟩,by rw [WI];exact List.attach_map_subtype_val L⟩
theorem Oa {w:World} {b:Nat} {L:List ByteArray} {rest:List Value} (hm:MX w) (hL:L≠[]) (hh:w.heap[b]?=some (.cells (L.map Value.string++rest).toArray 9 (0,0))):b≠2:=by
 rintro rfl
 obtain ⟨z,hz⟩:=hm;rw [cQ hh] at hz;cases L with
 | nil=>exact hL rfl
 | cons x L=>simp at hz
theorem F9:A3 Tryz.prog MX (112,wR):=by
 refine ⟨⟨_,Tryz.func112,by kernel_rfl,by kernel_rfl⟩,fun args x s s' hx ob=>?_⟩;dsimp only at hx;unfold wR at hx;split at hx
 ·cases hx;obtain ⟨ob3,rfl,rfl⟩:=ob;refine ⟨ob3,fun ν M w0 w a hr hX ha=>?_⟩;obtain ⟨y1,ZY,rfl,q1,YV⟩:=ha.cons_inv;obtain ⟨y2,as2,rfl,q2,ZL⟩:=YV.cons_inv;obtain rfl:=ZL.ay;obtain rfl:=VR.ae.1 q1;obtain rfl:=VR.ae.1 q2;exact (AnyF.slices_SortFunc_none { xi with } none 0 _ w).mono fun e w' ⟨he,hw⟩=>⟨_,he,.old (by rw [hw];exact Below.refl _ _) (.same (SH.cj _ _) (VR.ae.2 rfl))⟩
 ·rename_i j n v;split at hx
  ·rename_i ys e z C hl;cases hx;obtain ⟨ob3,Z4,hn,hs,rfl,rfl,rfl,rfl⟩:=ob;refine ⟨ob3,fun ν M w0 w a hr hX ha=>?_⟩;generalize hL:e9 ys=L at *;subst Z4 hn;obtain ⟨y1,ZY,rfl,q1,YV⟩:=ha.cons_inv;obtain ⟨y2,as2,rfl,q2,ZL⟩:=YV.cons_inv;obtain rfl:=ZL.ay;obtain rfl:=VR.ae.1 q2;obtain ⟨b,rest,hb,hle,rfl,hh,Zb⟩:=FI hr hl q1;have hbm:=Oa hX hs.1 hh;obtain ⟨K,rfl⟩:=Dr hs.2.2;have hlen:=hs.2.1;have hl2:K.length=(K.map (·.1)).length:=by simp
   have cS:=r8 (cap:=b.2) hX hbm (L:=K) (rest:=rest) (by rw [hh,WI];rfl) (by omega);rw [hl2] at cS;refine cS.mono fun e w' ⟨he,hbut,ZK⟩=>⟨_,he,.Gu (s.jg _) j _ _ b _ (SH.cj _ _) hl rfl hb ZK ⟨(bA (K.map (·.1))).map Value.string,rest,rfl,au.lits _ _,?_⟩ hbut (VR.ae.2 rfl)⟩;refine ⟨by rw [iK,V7,WH];omega,b,hb,?_⟩;rw [<- Zb,V7,WH,(bz _).length_eq,V7,WH,WH,WH]
  ·cases hx
 ·cases hx
end paths
open Go Go.Rx Go.RowKit Go.Proofs
namespace paths
def PM (n:Nat):Nat->SV:=fun i=>.sl i 0 n none
def Qq (l:List ak):SO:=.row (cE l) 50 (0,0) (some 4)
theorem oU {W w:World} {H:Hp} (h0:W.hp.Sub H) (h:H.Sub w.hp):W.heap.size<=w.heap.size:=by
 rcases Nat.eq_zero_or_pos W.heap.size with h1 | h1
 ·omega
 ·have h2:=h _ _ (h0 (W.heap.size - 1) W.heap[W.heap.size - 1] (WS (by omega)));have:=(VY.1 h2).1;omega
section
variable {W:World} {cs0:List Frame} {b b1 b2:Nat} {c c1 c2:ak->List Int} {l l1 l2:List ak} {L L1 L2:List ByteArray} {M:Own} {ν:aP}
end
section
variable {w0:World} {cs0:List Frame} {xs:List ByteArray} {p:ByteArray} {b:Nat × Nat} {c:Nat}
end
section
variable {w0:World} {cs0:List Frame} {l0 xs:List ByteArray} {x:ByteArray} {M:Own} {ν:aP}
end
theorem lJ {ν:aP} {l:List ByteArray} {zs:List Value} (h:au ν (strs l) zs):zs=l.map Value.string:=gi h (au.lits ν _)
theorem s7 (a b:List ByteArray):strs (a++b)=strs a++strs b:=by unfold strs;simp
theorem pg (q:ByteArray):strs [q]=[.v (.string q)]:=rfl
theorem qe (a:List ByteArray):(strs a).all SV.flat=true:=by
 rw [Wn];intro x hx;obtain ⟨v,hv,rfl⟩:=Wc.1 hx;obtain ⟨s,_,rfl⟩:=Wc.1 hv;rfl
section
variable {W:World} {cs0:List Frame} {D:List ak} {ys:ak->List Int} {xs1 xs2:List ak} {M:Own} {ν:aP}
end
section
variable {W:World} {cs0:List Frame} {D:List ak} {ys:ak->List Int} {xs1:List ak} {M:Own} {ν:aP}
end
section
variable {W:World} {cs0:List Frame} {D:List ak} {ys:ak->List Int} {xs2:List ak} {M:Own} {ν:aP}
end
section
variable {W:World} {cs0:List Frame} {D:List ak} {ys:ak->List Int} {M:Own} {ν:aP}
end
def QM (a b:ByteArray):Prop:=dr a b<0
theorem Db (a:ByteArray):¬ QM a a:=by
 unfold QM;rw [ji];decide
open Go Go.Rx Go.RowKit Go.Proofs Go.Sort
theorem yX {w:World} {x:Nat} (hx:w.heap[x]?=some (.cells #[.map none] 64 (0,0))):
  Calls Tryz.prog 118 #[.func (.func 119) #[] #[.pointer (some ⟨x,0,none⟩)]] w fun e w'=>e=.returned (.slice none 0 0)/\Below w.heap.size w w':=by
 have hxl:x<w.heap.size:=(VY.1 hx).1
 have hseq:SeqGives Fence.wide 3 Tryz.prog 119 #[.pointer (some ⟨x,0,none⟩)] encStr (fun ss:List (List UInt8)=>ss=[]) 0 w:=
  AnyZ.keys_gives_nil (ρ:=nY) { xM with } Fence.wide 3 trivial rfl x w hxl (by rw [cQ hx];rfl)
 have h:=AnyZ.collect_in Fl Fence.wide 5 trivial trivial rfl (by omega) 119 #[.pointer (some ⟨x,0,none⟩)] trivial (enters_of Tryz.func119 (by kernel_rfl) rfl) _ 0 (by decide) (by omega) w hseq;exact (callsIn_wide.1 h).mono fun e w' ⟨v,ss,he,hp,hrow,hnil,hb⟩=>⟨by rw [he,hnil.2 hp],hb⟩
theorem Ao {w:World} {x:Nat} (hx:w.heap[x]?=some (.cells #[.map none] 64 (0,0))):
  Calls Tryz.prog 97 #[.func (.func 119) #[] #[.pointer (some ⟨x,0,none⟩)],.func (.func 89) #[] #[]] w fun e w'=>e=.returned (.slice none 0 0)/\Below w.heap.size w w':=by
 have hc:=yX hx;clear hx;go_enter Tryz.func97,Tryz.ntmps97
 go_wp2_with (first
  | (go_at_call 118;refine hc.mono ?_;rintro e W ⟨rfl,hb⟩)
  | (go_at_call 112;refine (AnyF.slices_SortFunc_none { xi with } none 0 _ W).mono ?_;rintro e w' ⟨rfl,rfl⟩))
 go_ret
 exact ⟨rfl,hb⟩
theorem D7 {w:World} {b:Nat} {s:Int} (hb:w.heap[b]?=some (.cells #[.int .u64 s,.map none] 66 (0,0))):
  Calls Tryz.prog 71 #[.pointer (some ⟨b,0,none⟩)] w fun e w'=>e=.returned (.slice none 0 0)/\Below w.heap.size w w':=by
 have h1:w.cell? ⟨b,1,none⟩=some (.map none):=by rw [cQ hb];rfl
 have hbl:Below w.heap.size w (w.alloc (.cells #[.map none] 64)):=(Below.refl _ _).alloc (Wx _) _;have cs:=Ao (w:=w.alloc (.cells #[.map none] 64)) (x:=w.heap.size) (show (w.heap.push _)[w.heap.size]?=some _ by rw [Array.getElem?_push_size]);have ck:=callsIn_wide.1 (AnyZ.keys_in xM Fence.wide 5 trivial rfl none w);clear hb;go_enter Tryz.func71,Tryz.ntmps71
 go_wp2_with (first
  | (go_at_call 98;refine ck.mono ?_;rintro e w' ⟨rfl,rfl⟩)
  | (go_at_call 97;refine cs.mono ?_;rintro e w' ⟨rfl,Za⟩))
 go_ret
 exact ⟨rfl,hbl.trans (Za.mono hbl.size)⟩
def Rt (s:Int):Option (SO × Bool):=some (.row [.v (.int .u64 s),.v (.map none)] 66 (0,0) none,false)
def Ap:zF:=fun args sh=>match args with
 | [.ptr i 0]=>match sh.look i with
  | some (.row [.v (.int .u64 s),.v u] t z x,_)=>some (.slice none 0 0,t=66/\z=(0,0)/\x=none/\u=.map none)
  | _=>none
 | _=>none
def QW:List (FuncId × Sum):=[(71,de Ap)]
def O0:Env:={ EP [] [] with Y7:=fun f=>QW.lookup f }
def KH (s:Int):SM:=(a6 O0 34 [.ptr 0 0] (bG 6 1 0 [Rt s])).getD dn
theorem ez (s:Int) (v:Value):ao O0 34 100 (KH s) VP v=[VT none 0 0=v,66=66/\(0,0)=(0,0)/\nZ=none/\Value.map none=Value.map none]:=by kernel_rfl
theorem Bp {w:World} {b:Nat} {s:Int} (hb:w.heap[b]?=some (.cells #[.int .u64 s,.map none] 66 (0,0))):∀ (j:Nat) (o':SO) (b' c':Nat),[SO.row [.v (.int .u64 s),.v (.map none)] 66 (0,0) none][j]?=some o'->[(b,0)][j]?=some (b',c')->∃ r,w.heap[b']?=some r/\OR (aA [(b,0)]) j o' r:=by
 intro j o' b' c' h1 h2;match j with
 | 0=>
  simp only [Wa,Option.some.injEq] at h1 h2;subst h1;cases h2;exact ⟨_,hb,_,[],rfl,au.cons (VR.ae.2 rfl) (au.cons (VR.ae.2 rfl) au.nil),rfl⟩
 | j+1=>simp at h1
theorem Bh {X:World->Prop}:bh Tryz.prog X (71,de Ap):=by
 refine dR ⟨_,Tryz.func71,by kernel_rfl,by kernel_rfl⟩ fun args sh v p h hp ν M w0 w a hr hX ha=>?_;dsimp only [Ap] at h;split at h
 ·rename_i i;split at h
  ·rename_i s u t z x m1 hi;cases h;obtain ⟨rfl,rfl,rfl,rfl⟩:=hp;obtain ⟨y1,ZY,rfl,q1,YV⟩:=ha.cons_inv;obtain rfl:=YV.ay;obtain ⟨bb,Zd,rfl⟩:=VR.aF.1 q1;obtain ⟨_,_,b,ob,hb,ho,YO,_⟩:=hr.look hi;rw [Zd] at hb;cases hb;obtain ⟨zs,rest,rfl,hzs,hl⟩:=YO;obtain ⟨z1,u,rfl,r1,hu⟩:=hzs.cons_inv;obtain ⟨z2,u2,rfl,r2,hu2⟩:=hu.cons_inv;obtain rfl:=hu2.ay;obtain rfl:=VR.ae.1 r1;obtain rfl:=VR.ae.1 r2
   have h0:rest=[]:=by
    have:([Value.int .u64 s,Value.map none]++rest).length=2:=hl;simpa using this
   subst h0;exact (D7 ho).mono fun e w' ⟨he,hB⟩=>⟨hB,he⟩
  ·cases h
 ·cases h
theorem yw {w:World} {b:Nat} {s:Int} (hb:w.heap[b]?=some (.cells #[.int .u64 s,.map none] 66 (0,0))):
  Calls Tryz.prog 34 #[.pointer (some ⟨b,0,none⟩)] w fun e w'=>Below w.heap.size w w'/\e=.returned (.slice none 0 0):=by
 refine aZ (E:=O0) rfl (d:=6) (l:=[(b,0)]) (os:=[.row [.v (.int .u64 s),.v (.map none)] 66 (0,0) none]) rfl (by simp) (by simp) (Bp hb) rfl (args:=[.ptr 0 0]) (a:=[.pointer (some ⟨b,0,none⟩)]) (S0:=KH s) (by kernel_rfl) (au.cons (VR.aF.2 ⟨(b,0),rfl,rfl⟩) au.nil) fun cs0=>?_
 have K:aK O0 (aD [(b,0)] ([SO.row [.v (.int .u64 s),.v (.map none)] 66 (0,0) none].map fun o=>(o,false))) w:=
  aK.uS (Checked.mixed Tryz.checked) (by kernel_rfl) (fk.of iI rfl dK) (dz.list (X:=fun _=>True) (l:=QW) rfl (fun r h=>by
   rw [Wk.1 h];exact Bh) fun ν s w hr _=>trivial) (fun f g h=>by cases h)
 refine af.ao K (n:=100) (o:=VP) (v:=.slice none 0 0) ?_ fun ν' M1 w1 s' w' _ Zv hr=>⟨aB (fun z=>aY (os:=[_])) Zv hr,rfl⟩;rw [ez];simp only [ah,VV,VX,VW]
end paths
open Go Go.Rx Go.RowKit Go.Proofs
namespace paths
theorem MX.sub {W w:World} (h:MX W) (hs:W.hp.Sub w.hp):MX w:=h.keep (iQ (Hp.Sub.refl _) hs)
theorem Gn (e:ak):pH e.p e=true:=gw.2 rfl
theorem qf {l:List ak} (hn:(l.map fun e=>e.p).Nodup) {e:ak} (he:e∈l):l.find? (pH e.p)=some e:=by
 induction l with
 | nil=>cases he
 | cons a l ih=>
  rw [WD,W3] at hn;rcases V8.1 he with rfl | h
  ·rw [X5,Gn]
  ·have hna:pH e.p a=false:=by
    cases h2:pH e.p a
    ·rfl
    ·exact absurd (Wc.2 ⟨e,h,(gw.1 h2).symm⟩) hn.1
   rw [X5,hna];exact ih hn.2 h
theorem AO {E:List bH} {xs:List ak} {cm ys:ak->List Int} (h:(E.map (KM cm)).Perm (xs.map (KE ys))) (hn:(E.map fun e=>e.1.p).Nodup) (q:ByteArray):gN cm (E.map (·.1)) q=gN ys xs q:=by
 have hnx:(xs.map fun e=>e.p).Nodup:=by
  have hp:=(h.map (fun k:Key=>k.1)).symm;rw [WI,WI] at hp;exact hp.nodup_iff.2 hn
 have hnE:((E.map (·.1)).map fun e=>e.p).Nodup:=by rw [WI];exact hn
 unfold gN;cases hf:xs.find? (pH q) with
 | some x=>
  have hx:=WV hf;have hxq:x.p=q:=gw.1 (Xr hf);obtain ⟨e,he,hk⟩:=Wc.1 (h.mem_iff.2 (Wc.2 ⟨x,hx,rfl⟩));unfold KM KE at hk;simp only [Prod.mk.injEq] at hk;obtain ⟨k1,k2,k3,k4⟩:=hk
  have hfe:(E.map (·.1)).find? (pH q)=some e.1:=by
   have:=qf hnE (Wc.2 ⟨e,he,rfl⟩);rwa [k1,hxq] at this
  rw [hfe];simp only [k2,k3,k4]
 | none=>
  have hfe:(E.map (·.1)).find? (pH q)=none:=by
   rw [WY];intro e1 he1 hq;obtain ⟨e,he,rfl⟩:=Wc.1 he1;obtain ⟨x,hx,hk⟩:=Wc.1 (h.mem_iff.1 (Wc.2 ⟨e,he,rfl⟩));have h1:x.p=e.1.p:=(Prod.mk.inj hk).1;exact absurd (gw.2 (h1.trans (gw.1 hq))) (WY.1 hf x hx)
  rw [hfe]
def Ke (n:Nat) (w w2:World):Prop:=∀ k o,n<=k->w.heap[k]?=some o->w2.heap[k]?=some o
def eP:List (List UInt8)->List UInt8
 | []=>[]
 | [x]=>x
 | x::y::r=>x++47::eP (y::r)
theorem ig {x:List UInt8} {l:List (List UInt8)} (h:l≠[]):eP (x::l)=x++47::eP l:=by
 cases l with
 | nil=>exact absurd rfl h
 | cons y r=>rfl
theorem mB:∀ {a b:List (List UInt8)},a≠[]->b≠[]->eP (a++b)=eP a++47::eP b
 | [],_,h,_=>absurd rfl h
 | [x],b,_,hb=>by rw [List.singleton_append,ig hb];rfl
 | x::y::r,b,_,hb=>by
  rw [Xv,ig (by simp),ig (by simp:(y::r)≠[]),mB (by simp) hb]
  simp
theorem uh:∀ (t r:List UInt8),aq (t++47::r)=aq t++aq r
 | [],r=>by
  have:aq (47::r)=[]::aq r:=by conv=>lhs;unfold aq;rw [if_pos rfl]
  rw [Xo,this];rfl
 | b::t,r=>by
  have ih:=uh t r
  rw [Xv]
  by_cases h:b=47
  ·have e:∀ l,aq (b::l)=[]::aq l:=fun l=>by conv=>lhs;unfold aq;rw [if_pos h]
   rw [e,e,ih];rfl
  ·cases ht:aq t with
   | nil=>exact absurd ht (cY _)
   | cons x xs=>
    rw [ht] at ih
    have e:∀ l y ys,aq l=y::ys->aq (b::l)=(b::y)::ys:=fun l y ys hl=>by conv=>lhs;unfold aq;rw [if_neg h,hl]
    rw [e _ _ _ ih,e _ _ _ ht];rfl
theorem jy:∀ l:List UInt8,eP (aq l)=l
 | []=>rfl
 | b::l=>by
  have ih:=jy l
  by_cases h:b=47
  ·have e:aq (b::l)=[]::aq l:=by conv=>lhs;unfold aq;rw [if_pos h]
   rw [e,ig (cY l),ih,h];rfl
  ·cases ht:aq l with
   | nil=>exact absurd ht (cY _)
   | cons x xs=>
    have e:aq (b::l)=(b::x)::xs:=by conv=>lhs;unfold aq;rw [if_neg h,ht]
    rw [ht] at ih
    rw [e]
    cases xs with
    | nil=>rw [<- ih];rfl
    | cons y ys=>rw [<- ih];rfl
theorem nN:∀ (l:List UInt8),∀ s∈aq l,(47:UInt8) ∉ s
 | [],s,hs=>by
  have:s=[]:=by simpa [aq] using hs
  rw [this];simp
 | b::l,s,hs=>by
  have ih:=nN l
  by_cases h:b=47
  ·have e:aq (b::l)=[]::aq l:=by conv=>lhs;unfold aq;rw [if_pos h]
   rw [e] at hs
   rcases V8.1 hs with rfl | hs
   ·simp
   ·exact ih s hs
  ·cases ht:aq l with
   | nil=>exact absurd ht (cY _)
   | cons x xs=>
    have e:aq (b::l)=(b::x)::xs:=by conv=>lhs;unfold aq;rw [if_neg h,ht]
    rw [e] at hs
    rcases V8.1 hs with rfl | hs
    ·have:=ih x (by rw [ht];simp)
     intro hm
     rcases V8.1 hm with h2 | h2
     ·exact h h2.symm
     ·exact this h2
    ·exact ih s (by rw [ht];exact Wb _ hs)
def yf (p:List UInt8):List UInt8:=eP (aq p).dropLast
def aj (p:ByteArray):ByteArray:=bif aR p then mk (yf p.data.toList) else ⟨#[]⟩
def aC (p:ByteArray):Bool:=aR p&&decide (1<(aq p.data.toList).length)
def qa (p t:List UInt8):Bool:=decide ((aq t).length<(aq p).length)&&decide ((aq p).take (aq t).length=aq t)
def dQ (p t:ByteArray):Bool:=aR p&&aR t&&qa p.data.toList t.data.toList
theorem xN (p t:List UInt8):qa p t=decide ((t++[47]) <+: p):=by
 unfold qa;by_cases h:(t++[47]) <+: p
 ·obtain ⟨r,hr⟩:=h;have e:p=t++47::r:=by rw [<- hr];simp
  have h2:=uh t r;have h3:0<(aq r).length:=Xh.2 (cY r);rw [V0 (show (t++[47]) <+: p from ⟨r,hr⟩),e,h2,V0 (by rw [V7];omega),V0 (by simp)];rfl
 ·rw [V2 h];by_cases h1:(aq t).length<(aq p).length
  ·rw [V0 h1,Bool.true_and];refine V2 fun h2=>h ⟨eP ((aq p).drop (aq t).length),?_⟩
   have h4:(aq p).drop (aq t).length≠[]:=fun h5=>by
    have:=congrArg List.length h5;rw [List.length_drop,WL] at this;omega
   have h6:=Xg (aq t).length (aq p);rw [h2] at h6;have h7:=mB (cY t) h4;rw [h6,jy,jy] at h7;rw [Xy];exact h7.symm
  ·rw [V2 h1,Bool.false_and]
theorem wZ {p:List UInt8} (h:(aq p).length<=1):yf p=[]/\(47:UInt8) ∉ p:=by
 have h0:=cY p;match hp:aq p,h with
 | [],_=>exact absurd hp h0
 | [x],_=>
  refine ⟨by unfold yf;rw [hp];rfl,?_⟩;have h1:=jy p;rw [hp] at h1;have h2:=nN p x (by rw [hp];simp);rw [<- h1];exact h2
 | _::_::_,h=>simp at h
theorem xK {p:List UInt8} (h:1<(aq p).length):∃ s,p=yf p++47::s/\(47:UInt8) ∉ s:=by
 have h0:=cY p
 have h1:(aq p).dropLast≠[]:=fun h2=>by
  have:=congrArg List.length h2;rw [List.length_dropLast,WL] at this;omega
 refine ⟨(aq p).getLast h0,?_,nN p _ (List.getLast_mem h0)⟩;have h2:=List.dropLast_concat_getLast h0;have h3:=mB h1 (show [(aq p).getLast h0]≠[] by simp);rw [h2,jy] at h3;exact h3
theorem JF {s:ByteArray} {k:Nat} (h:s.data.toList=s.data.toList.take k++47::s.data.toList.drop (k+1)) (hk:k<s.size) (h47:(47:UInt8) ∉ s.data.toList.drop (k+1)):Go.Lib.lastIndexByte s 47=k:=by
 have hlen:s.data.toList.length=s.size:=by simp
 have hget:∀ j,j<s.size->s.data[j]! = s.data.toList.getD j 0:=fun j hj=>by
  have h1:j<s.data.size:=hj;rw [getElem!_pos s.data j h1,Xn,V4 (by rw [hlen];exact hj)];simp
 have ZM:s.data.toList.getD k 0=47:=by
  have h2:(s.data.toList.take k++47::s.data.toList.drop (k+1)).getD k 0=47:=by
   rw [Xn,XR (by rw [WW];omega),WW,hlen,Nat.min_eq_left (by omega),Nat.sub_self];rfl
  rw [<- h] at h2;exact h2
 rcases Go.Lib.lastIndexByte_spec s 47 with ⟨h1,h2⟩ | ⟨i,hi,h1,h2,h3⟩
 ·exfalso;have:=h2 k hk;rw [hget k hk,ZM] at this;exact this rfl
 ·rw [h1];rcases Nat.lt_trichotomy i k with hik | rfl | hik
  ·exfalso;have:=h3 k hik hk;rw [hget k hk,ZM] at this;exact this rfl
  ·rfl
  ·exfalso;apply h47
   have h4:s.data.toList.getD i 0=47:=by
    have h5:=h2;rw [hget i hi] at h5;exact X3.1 (by rw [show (47:UInt8).toNat=47 from rfl];omega)
   rw [List.mem_iff_getElem?];refine ⟨i - (k+1),?_⟩;rw [W7,show k+1+(i - (k+1))=i by omega,V4 (by rw [hlen];exact hi)];rw [Xn,V4 (by rw [hlen];exact hi)] at h4;simpa using h4
theorem Eg {s:ByteArray} (h47:(47:UInt8) ∉ s.data.toList):Go.Lib.lastIndexByte s 47=-1:=by
 have hlen:s.data.toList.length=s.size:=by simp
 rcases Go.Lib.lastIndexByte_spec s 47 with ⟨h1,h2⟩ | ⟨i,hi,h1,h2,h3⟩
 ·exact h1
 ·exfalso;apply h47;have h1:i<s.data.size:=hi;rw [getElem!_pos s.data i h1] at h2;have h5:s.data[i]=47:=X3.1 (by rw [show (47:UInt8).toNat=47 from rfl];omega);rw [<- h5];simp
theorem vh {l a s:List UInt8} (h:l=a++47::s):l.take a.length=a/\l.drop (a.length+1)=s:=by
 subst h;refine ⟨List.take_left,?_⟩;rw [<- List.drop_drop,List.drop_left];rfl
theorem B8 (p:ByteArray):Go.Lib.lastIndexByte p 47=if 1<(aq p.data.toList).length then ((yf p.data.toList).length:Int) else -1:=by
 by_cases h:1<(aq p.data.toList).length
 ·rw [if_pos h];obtain ⟨s,h1,h2⟩:=xK h;have hlen:p.data.toList.length=p.size:=by simp
  have h3:=congrArg List.length h1;rw [V7,Wm,hlen] at h3;obtain ⟨ht,hd⟩:=vh h1;refine JF ?_ (by omega) (by rw [hd];exact h2);rw [ht,hd];exact h1
 ·rw [if_neg h];exact Eg (wZ (by omega)).2
theorem IJ (p:ByteArray) (h:1<(aq p.data.toList).length):p.extract 0 (yf p.data.toList).length=mk (yf p.data.toList):=by
 obtain ⟨s,h1,h2⟩:=xK h;obtain ⟨ht,_⟩:=vh h1
 have:(p.extract 0 (yf p.data.toList).length).data.toList=yf p.data.toList:=by
  rw [ByteArray.data_extract];simp [ht]
 rw [<- Kb (p.extract 0 (yf p.data.toList).length),this]
theorem FT (p:ByteArray) (h:1<(aq p.data.toList).length):(yf p.data.toList).length<p.size:=by
 obtain ⟨s,h1,h2⟩:=xK h;have hlen:p.data.toList.length=p.size:=by simp
 have h3:=congrArg List.length h1;rw [V7,Wm,hlen] at h3;omega
theorem wQ (p:ByteArray):(aj p).size<=p.size:=by
 unfold aj;cases aR p
 ·exact WX _
 ·show (yf p.data.toList).length<=_;by_cases h:1<(aq p.data.toList).length
  ·exact Nat.le_of_lt (FT p h)
  ·rw [(wZ (by omega)).1];exact WX _
theorem DI (p:ByteArray):aC p=!(aj p).data.toList.isEmpty:=by
 unfold aC aj;cases hg:aR p
 ·rfl
 ·show (true&&_)=!(yf p.data.toList).isEmpty;rw [Bool.true_and];by_cases h:1<(aq p.data.toList).length
  ·rw [V0 h]
   have h1:(aq p.data.toList).dropLast≠[]:=fun h2=>by
    have:=congrArg List.length h2;rw [List.length_dropLast,WL] at this;omega
   have Zt:=((ka 6 p).1 (by unfold aR at hg;rw [V6] at hg;exact hg.2)).2;match hd:(aq p.data.toList).dropLast,h1 with
   | x::r,_=>
    have hx:x∈aq p.data.toList:=List.dropLast_subset _ (by rw [hd];simp);have hb:=Zt x hx
    have YI:x≠[]:=fun e=>by
     rw [e] at hb;simp [bc,mk] at hb
    have:yf p.data.toList≠[]:=by
     unfold yf;rw [hd];cases r with
     | nil=>exact YI
     | cons y ys=>rw [ig (by simp)];simp [YI]
    cases hu:yf p.data.toList with
    | nil=>exact absurd hu this
    | cons _ _=>rfl
  ·rw [V2 h,(wZ (by omega)).1];rfl
def B3:Go.Shelf.Ren:=⟨fun | 99=>122 | 206=>135 | n=>n,fun | 9=>9 | 4=>4 | 3=>3 | n=>n,fun | n=>n⟩
theorem Lv:Go.Proofs.Lays.n99 Tryz.prog B3 where
 mixed:=by kernel_rfl
 f99:=Tryz.func122.trans (congrArg some (by kernel_rfl))
 f206:=Tryz.func135.trans (congrArg some (by kernel_rfl))
 t3:=Tryz.underlying3
 a3:=Tryz.isAgg3
 z3:=Tryz.sizeOf3
 v3:=Tryz.zeroValue3
 t4:=Tryz.underlying4
 a4:=Tryz.isAgg4
 z4:=Tryz.sizeOf4
 v4:=Tryz.zeroValue4
 t9:=Tryz.underlying9
 a9:=Tryz.isAgg9
 z9:=Tryz.sizeOf9
 v9:=Tryz.zeroValue9

def BO:Go.Shelf.Ren:=⟨fun | 149=>108 | 222=>123 | n=>n,fun | 9=>9 | 5=>5 | 3=>3 | 4=>4 | n=>n,fun | n=>n⟩
theorem Mb:Go.Proofs.Lays.n149 Tryz.prog BO where
 mixed:=by kernel_rfl
 f149:=Tryz.func108.trans (congrArg some (by kernel_rfl))
 f222:=Tryz.func123.trans (congrArg some (by kernel_rfl))
 t3:=Tryz.underlying3
 a3:=Tryz.isAgg3
 z3:=Tryz.sizeOf3
 v3:=Tryz.zeroValue3
 t4:=Tryz.underlying4
 a4:=Tryz.isAgg4
 z4:=Tryz.sizeOf4
 v4:=Tryz.zeroValue4
 t5:=Tryz.underlying5
 a5:=Tryz.isAgg5
 z5:=Tryz.sizeOf5
 v5:=Tryz.zeroValue5
 t9:=Tryz.underlying9
 a9:=Tryz.isAgg9
 z9:=Tryz.sizeOf9
 v9:=Tryz.zeroValue9

def zo (s t:ByteArray):Bool:=Go.Lib.hasPrefix s.data.toList t.data.toList
def AG:PS:=fun args=>match args with | [.string s,.string t]=>some (.bool (zo s t),True) | _=>none
def fM (s:ByteArray):Int:=Go.Lib.lastIndexByte s 47
def BT:PS:=fun args=>match args with | [.string s,.int .u8 c]=>some (.int .i64 (fM s),c=47/\s.size<=1000000000) | _=>none
def H9:Env:=EP [(81,kM),(122,AG)] []
def H2:Env:=EP [(81,kM),(108,BT)] []
theorem TX (p t:ByteArray) (v:Value):ao H9 107 300 (a7 H9 107 [.v (.string p),.v (.string t)]) (VP++ff (List.range 30) false) v=[VU false=v,false=false,false=false,false=false,false=false,false=false,(aG p==0)=false,(aG p==0)=false,(aG p==0)=false,(aG p==0)=false,p.size.le 1000000000]:=by kernel_rfl
theorem QZ (p t:ByteArray) (v:Value):ao H9 107 300 (a7 H9 107 [.v (.string p),.v (.string t)]) (VP++ff [1,2,4,5] true++ff (List.range 30) false) v=[VU false=v,(aG t==0)=false,(aG t==0)=false,(aG t==0)=false,(aG t==0)=false,(aG t==0)=false,(aG p==0)=true,(aG p==0)=true,t.size.le 1000000000,(aG p==0)=true,(aG p==0)=true,p.size.le 1000000000]:=by kernel_rfl
theorem R2 (p t:ByteArray) (v:Value):ao H9 107 300 (a7 H9 107 [.v (.string p),.v (.string t)]) (VP++ff (List.range 30) true) v=[VU (zo p (t++(⟨⟨[47]⟩⟩:ByteArray)))=v,(aG t==0)=true,True,(aG t==0)=true,(t.size+1).le 9223372036854775807,(aG t==0)=true,(aG t==0)=true,(aG t==0)=true,(aG p==0)=true,(aG p==0)=true,t.size.le 1000000000,(aG p==0)=true,(aG p==0)=true,p.size.le 1000000000]:=by kernel_rfl
theorem Qj (p:ByteArray) (v:Value):ao H2 84 300 (a7 H2 84 [.v (.string p)]) (VP++ff (List.range 30) true) v=[Value.tuple { toList:=[VS ⟨⟨[]⟩⟩,VU false]:Array Value }=v,true=true,decide (fM p<0)=true,decide (fM p<0)=true,decide (fM p<0)=true,decide (fM p<0)=true,(47:Int)=47/\p.size<=1000000000]:=by kernel_rfl
theorem PR (p:ByteArray) (v:Value):ao H2 84 300 (a7 H2 84 [.v (.string p)]) (VP++ff [1,2,4,5] false++ff (List.range 30) true) v=[Value.tuple { toList:=[VS ⟨⟨[]⟩⟩,VU false]:Array Value }=v,(!aG p==0)=true,decide (fM p<0)=false,decide (fM p<0)=false,p.size.le 1000000000,decide (fM p<0)=false,decide (fM p<0)=false,(47:Int)=47/\p.size<=1000000000]:=by kernel_rfl
theorem O6 (p:ByteArray) (v:Value):ao H2 84 300 (a7 H2 84 [.v (.string p)]) (VP++ff (List.range 30) false) v=[Value.tuple { toList:=[VS (p.extract 0 (fM p).toNat),VU true]:Array Value }=v,decide (0<=fM p/\fM p<=(↑p.size:Int))=true,(!aG p==0)=false,decide (fM p<0)=false,decide (fM p<0)=false,p.size.le 1000000000,decide (fM p<0)=false,decide (fM p<0)=false,(47:Int)=47/\p.size<=1000000000]:=by kernel_rfl
def P4:List (FuncId × Sum):=[(76,sz ET),(45,cq kO)]
def EW:Env:={ EP [] [] with Y7:=fun f=>P4.lookup f }
def wb (p t:ByteArray):SM:=a7 EW 78 [.v (.string p),.v (.string t)]
theorem Uf (p t:ByteArray) (v:Value):ao EW 78 300 (wb p t) (VP++ff (List.range 30) true) v=[VU false=v,true=true,(!aR p)=true,(!aR p)=true,(!aR p)=true,(!aR p)=true,p.size.le 1000000000]:=by kernel_rfl
theorem Q5 (p t:ByteArray) (v:Value):ao EW 78 300 (wb p t) (VP++ff [1,2,4,5] false++ff (List.range 30) true) v=[VU false=v,(!aR t)=true,(!aR p)=false,(!aR p)=false,t.size.le 1000000000,(!aR p)=false,(!aR p)=false,p.size.le 1000000000]:=by kernel_rfl
theorem TF (p t:ByteArray) (v:Value):ao EW 78 300 (wb p t) (VP++ff [1,2,4,5,6] false++ff (List.range 30) true) v=[VU false=v,decide ((↑(aq p.data.toList).length:Int)<=(↑(aq t.data.toList).length:Int))=true,t.size.le 1000000000,p.size.le 1000000000,(!aR t)=false,(!aR p)=false,(!aR p)=false,t.size.le 1000000000,(!aR p)=false,(!aR p)=false,p.size.le 1000000000]:=by kernel_rfl
def KY:List SI:=dB EW 2 60 (wb ⟨#[]⟩ ⟨#[]⟩) (VP++ff (List.range 30) false)
def AM (n m:Nat) (i:Int):SF:={ fn:=78,tm:=fh 40 6 (List.replicate 5 .aH++[.sl 0 0 n none,.sl 1 0 m none,.v (.int .i64 i)]++List.replicate 32 .aH),todo:=KY,defers:=[],ret:=false,kind:=.normal,ro:=none }
theorem Vz (p t:ByteArray) (n m:Nat) (l l2:List SV):reach EW 2 60 (wb p t) (VP++ff (List.range 30) false) [(0,0),(1,1)] [0,1] (AM n m 0) 6 (two l l2)=[0=0/\(aq p.data.toList).length=n/\nZ=none,0=0/\(aq t.data.toList).length=m/\nZ=none,vZ 0=vZ 0,List.map SV.v (vP (aq p.data.toList))=l,l.all ab=true,List.map SV.v (vP (aq t.data.toList))=l2,l2.all ab=true,decide ((↑(aq p.data.toList).length:Int)<=(↑(aq t.data.toList).length:Int))=false,t.size.le 1000000000,p.size.le 1000000000,(!aR t)=false,(!aR p)=false,(!aR p)=false,t.size.le 1000000000,(!aR p)=false,(!aR p)=false,p.size.le 1000000000]:=by kernel_rfl
theorem SX (s t:ByteArray) (n m:Nat) (l l2:List SV) (i i':Int):reach EW 2 100 (SM.at (AM n m i) 6 (two l l2)) (ff [0] true++[(2,.cells [.v (.string s)]),(4,.cells [.v (.string t)])]++ff [5,6,7] false) [(0,0),(1,1)] [0,1] (AM n m i') 6 (two l l2)=[0=0/\n=n/\nZ=none,0=0/\m=m/\nZ=none,vZ (IntKind.i64.wrap (i+1))=vZ i',l=l,l.all ab=true,l2=l2,l2.all ab=true,(!s.toList==t.toList)=false,l2[0+i.toNat*1]?=some (SV.v (VS t)),ai i m=true,l[0+i.toNat*1]?=some (SV.v (VS s)),ai i n=true,decide (i<(↑m:Int))=true]:=by kernel_rfl
theorem UO (s t:ByteArray) (n m:Nat) (l l2:List SV) (i:Int) (v:Value):ao EW 78 100 (SM.at (AM n m i) 6 (two l l2)) (ff [0] true++[(2,.cells [.v (.string s)]),(4,.cells [.v (.string t)])]++ff [5,6,7] true) v=[VU false=v,(!s.toList==t.toList)=true,l2[0+i.toNat*1]?=some (SV.v (VS t)),ai i m=true,l[0+i.toNat*1]?=some (SV.v (VS s)),ai i n=true,decide (i<(↑m:Int))=true]:=by kernel_rfl
theorem RA (n m:Nat) (l l2:List SV) (i:Int) (v:Value):ao EW 78 100 (SM.at (AM n m i) 6 (two l l2)) (ff [0] false) v=[VU true=v,decide (i<(↑m:Int))=false]:=by kernel_rfl
def G4 (l:List SV) (n c:Nat):SM:=(a6 bn 79 [.sl 0 0 n (some c)] (bG 6 1 0 [cv l])).getD dn
def Lx:List SI:=dB bn 2 60 (G4 [] 0 0) VP
def zc (n c:Nat) (s:ByteArray) (i:Int):SF:={ fn:=79,tm:=fh 22 5 ([.sl 0 0 n (some c),.aH,.aH,.v (.string s),.v (.int .i64 i)]++List.replicate 17 .aH),todo:=Lx,defers:=[],ret:=false,kind:=.normal,ro:=none }
theorem TJ (l:List SV) (n c:Nat):reach bn 2 60 (G4 l n c) VP [(0,0)] [0] (zc n c ⟨#[]⟩ 0) 6 [cv l]=[0=0/\n=n/\some c=some c,VS ⟨⟨[]⟩⟩=VS ⟨⟨[]⟩⟩,vZ 0=vZ 0,l=l,l.all ab=true]:=by kernel_rfl
theorem Uo (s s' q:ByteArray) (n c:Nat) (l:List SV) (i i':Int):reach bn 2 60 (SM.at (zc n c s i) 6 [cv l]) (ff [0] true++ff [1] false++[(3,.cells [.v (.string q)])]) [(0,0)] [0] (zc n c s' i') 6 [cv l]=[0=0/\n=n/\some c=some c,VS (s++q)=VS s',vZ (IntKind.i64.wrap (i+1))=vZ i',l=l,l.all ab=true,(s.size+q.size).le 9223372036854775807,l[0+i.toNat*1]?=some (SV.v (VS q)),ai i n=true,decide (i>0)=false,decide (i<(↑n:Int))=true]:=by kernel_rfl
theorem TW (s s' q:ByteArray) (n c:Nat) (l:List SV) (i i':Int):reach bn 2 60 (SM.at (zc n c s i) 6 [cv l]) (ff [0] true++ff [1] true++[(4,.cells [.v (.string q)])]) [(0,0)] [0] (zc n c s' i') 6 [cv l]=[0=0/\n=n/\some c=some c,VS (s++(⟨⟨[47]⟩⟩:ByteArray)++q)=VS s',vZ (IntKind.i64.wrap (i+1))=vZ i',l=l,l.all ab=true,((s++(⟨⟨[47]⟩⟩:ByteArray)).size+q.size).le 9223372036854775807,l[0+i.toNat*1]?=some (SV.v (VS q)),ai i n=true,(s.size+1).le 9223372036854775807,decide (i>0)=true,decide (i<(↑n:Int))=true]:=by kernel_rfl
theorem VN (s:ByteArray) (n c:Nat) (l:List SV) (i:Int) (v:Value):ao bn 79 60 (SM.at (zc n c s i) 6 [cv l]) (ff [0] false) v=[VS s=v,decide (i<(↑n:Int))=false]:=by kernel_rfl
def iT:zF:=fun args sh=>match args with
 | [.sl i 0 n none]=>match sh.look i with
  | some (.row ys _ _ _,_)=>some (.string (mk (eP ((jL ys).take n))),ys=cP (jL ys)/\n<=(jL ys).length/\(jL ys).length<=100/\∀ s∈jL ys,s.length<=96)
  | _=>none
 | _=>none
where jL (ys:List SV):List (List UInt8):=ys.map fun y=>match y with | .v (.string b)=>b.data.toList | _=>[]
def PO:List (FuncId × Sum):=[(76,sz ET),(45,cq kO),(79,de iT)]
def KF:Env:={ EP [] [] with Y7:=fun f=>PO.lookup f }
theorem RG (p:ByteArray) (v:Value):ao KF 49 300 (a7 KF 49 [.v (.string p)]) (VP++ff (List.range 30) true) v=[VS ⟨⟨[]⟩⟩=v,(!aR p)=true,p.size.le 1000000000]:=by kernel_rfl
theorem Td (p:ByteArray) (v:Value):ao KF 49 300 (a7 KF 49 [.v (.string p)]) (VP++ff [1] false++ff (List.range 30) true) v=[VS (mk (eP (List.take (IntKind.i64.wrap ((↑(aq p.data.toList).length:Int) - 1)).toNat (iT.jL (List.map SV.v (vP (aq p.data.toList)))))))=v,List.map SV.v (vP (aq p.data.toList))=cP (iT.jL (List.map SV.v (vP (aq p.data.toList))))/\(IntKind.i64.wrap ((↑(aq p.data.toList).length:Int) - 1)).toNat<=(iT.jL (List.map SV.v (vP (aq p.data.toList)))).length/\(iT.jL (List.map SV.v (vP (aq p.data.toList)))).length<=100/\∀ (s:List UInt8),s∈iT.jL (List.map SV.v (vP (aq p.data.toList)))->s.length<=96,true=true,decide (0<=IntKind.i64.wrap ((↑(aq p.data.toList).length:Int) - 1)/\IntKind.i64.wrap ((↑(aq p.data.toList).length:Int) - 1)<=(↑(aq p.data.toList).length:Int))=true,p.size.le 1000000000,(!aR p)=false,p.size.le 1000000000]:=by kernel_rfl
theorem IZ:bW Tryz.prog (fun _=>True) (122,AG):=by
 refine .mk ⟨_,Tryz.func122,by kernel_rfl,by kernel_rfl⟩ fun args v p h hp w hX=>?_;dsimp only [AG] at h;split at h
 ·cases h;exact (Any.strings_HasPrefix Lv _ _ w).mono fun e w' ⟨he,hw⟩=>⟨by rw [hw];exact Below.refl _ _,he⟩
 ·cases h
theorem Im:bW Tryz.prog (fun _=>True) (108,BT):=by
 refine .mk ⟨_,Tryz.func108,by kernel_rfl,by kernel_rfl⟩ fun args v p h hp w hX=>?_;dsimp only [BT] at h;split at h
 ·cases h;obtain ⟨rfl,hs⟩:=hp;exact (Any.strings_LastIndexByte Mb _ 47 (by omega) w).mono fun e w' ⟨he,hw⟩=>⟨by rw [hw];exact Below.refl _ _,he⟩
 ·cases h
def mJ:PS:=fun args=>match args with | [.string p,.string t]=>some (.bool (dQ p t),p.size<=1000000000/\t.size<=1000000000) | _=>none
def C7:PS:=fun args=>match args with | [.string p]=>some (.tuple #[.string (aj p),.bool (aC p)],p.size<=1000000000) | _=>none
def wK:PS:=fun args=>match args with | [.string p]=>some (.string (aj p),p.size<=1000000000) | _=>none
theorem Pv {M:Own} {w0:World} {sl:List (FuncId × PS)} (hM:∀ z,¬ M z) (h:MX w0) (hs:∀ r∈sl,bW Tryz.prog MX r):aK (EP sl []) M w0:=kq (X:=MX) hs fun ν s w hr _=>h.keep fun k hk=>hr.frame k hk (hM k)
theorem Fw {r:FuncId × PS} (h:bW Tryz.prog (fun _=>True) r):bW Tryz.prog MX r:=⟨h.1,fun args v p e hp w _=>h.2 args v p e hp w trivial⟩
theorem Vv {w0:World} (h:MX w0):aK H9 (aD [] []) w0:=Pv aE h fun r hr=>by
 simp only [V8,Ww,Xc] at hr
 rcases hr with rfl | rfl
 ·exact oq
 ·exact Fw IZ
theorem Va {w0:World} (h:MX w0):aK H2 (aD [] []) w0:=Pv aE h fun r hr=>by
 simp only [V8,Ww,Xc] at hr
 rcases hr with rfl | rfl
 ·exact oq
 ·exact Fw Im
theorem im (p:ByteArray):(aG p==(0:Int))=aR p:=by
 unfold aG;cases aR p <;> rfl
theorem BY (p t:ByteArray):zo p (t++bw)=qa p.data.toList t.data.toList:=by
 rw [xN];unfold zo Go.Lib.hasPrefix;have:(t++bw).data.toList=t.data.toList++[47]:=by rw [ByteArray.data_append];simp [bw]
 rw [this];by_cases h:(t.data.toList++[47]) <+: p.data.toList
 ·rw [V0 h];exact List.isPrefixOf_iff_prefix.2 h
 ·rw [V2 h];exact XA.2 fun h2=>h (List.isPrefixOf_iff_prefix.1 h2)
theorem Hm:bW Tryz.prog MX (107,mJ):=by
 refine .mk ⟨_,Tryz.func107,by kernel_rfl,by kernel_rfl⟩ fun args v p h hp w hX=>?_;dsimp only [mJ] at h;split at h
 ·rename_i p t;cases h;obtain ⟨h1,h2⟩:=hp
  have go:∀ {o v},mY (ao H9 107 300 (a7 H9 107 [.v (.string p),.v (.string t)]) o v)->v=.bool (dQ p t)->Calls Tryz.prog 107 #[.string p,.string t] w fun e w'=>Below w.heap.size w w'/\e=.returned (.bool (dQ p t)):=fun h e=>
   e ▸ bX (E:=H9) (args:=[.v (.string p),.v (.string t)]) rfl rfl (Vv hX) (by kernel_rfl) (au.cons (VR.ae.2 rfl) (au.cons (VR.ae.2 rfl) au.nil)) h
  have c1:=im p;have c2:=im t;have sl:(⟨⟨[47]⟩⟩:ByteArray)=bw:=rfl;cases g1:aR p
  ·rw [g1] at c1;refine go (o:=VP++ff (List.range 30) false) (v:=.bool false) ⟨?_⟩ (by simp [dQ,g1]);rw [TX];simp only [ah,c1,VV,VX,VW];exact h1
  ·rw [g1] at c1;cases g2:aR t
   ·rw [g2] at c2;refine go (o:=VP++ff [1,2,4,5] true++ff (List.range 30) false) (v:=.bool false) ⟨?_⟩ (by simp [dQ,g1,g2]);rw [QZ];simp only [ah,c1,c2,VV,VX,VW];exact ⟨h1,h2⟩
   ·rw [g2] at c2;refine go (o:=VP++ff (List.range 30) true) (v:=.bool (zo p (t++bw))) ⟨?_⟩ (by rw [BY];simp [dQ,g1,g2]);rw [R2];simp only [ah,c1,c2,sl,VV,VX,VW];exact ⟨⟨h1,h2⟩,(by show t.size+1<=9223372036854775807;omega)⟩
 ·cases h
theorem yp (p:ByteArray) (h:1<(aq p.data.toList).length) (hg:aR p=true):p.extract 0 (fM p).toNat=aj p:=by
 unfold fM aj;rw [B8,if_pos h,hg,V5,IJ p h];rfl
theorem D6:bW Tryz.prog MX (84,C7):=by
 refine .mk ⟨_,Tryz.func84,by kernel_rfl,by kernel_rfl⟩ fun args v p h hp w hX=>?_;dsimp only [C7] at h;split at h
 ·rename_i p;cases h
  have go:∀ {o v},mY (ao H2 84 300 (a7 H2 84 [.v (.string p)]) o v)->v=.tuple #[.string (aj p),.bool (aC p)]->Calls Tryz.prog 84 #[.string p] w fun e w'=>Below w.heap.size w w'/\e=.returned (.tuple #[.string (aj p),.bool (aC p)]):=fun h e=>
   e ▸ bX (E:=H2) (args:=[.v (.string p)]) rfl rfl (Va hX) (by kernel_rfl) (au.cons (VR.ae.2 rfl) au.nil) h
  have c1:=im p;have hl:fM p=_:=B8 p;by_cases h1:1<(aq p.data.toList).length
  ·rw [if_pos h1] at hl;have d1:decide (fM p<(0:Int))=false:=V2 (by omega);have hlen:=FT p h1;have d2:decide ((0:Int)<=fM p/\fM p<=(p.size:Int))=true:=V0 ⟨by omega,by omega⟩;cases g:aR p
   ·rw [g] at c1;refine go (o:=VP++ff [1,2,4,5] false++ff (List.range 30) true) (v:=.tuple #[.string ⟨#[]⟩,.bool false]) ⟨?_⟩ (by simp [aj,aC,g]);rw [PR];simp only [ah,c1,d1,W1,VV,VX,VW];exact ⟨hp,hp⟩
   ·rw [g] at c1;refine go (o:=VP++ff (List.range 30) false) (v:=.tuple #[.string (p.extract 0 (fM p).toNat),.bool true]) ⟨?_⟩ (by rw [yp p h1 g];simp [aC,g,h1]);rw [O6];simp only [ah,c1,d1,d2,Wy,VV,VX,VW];exact ⟨hp,hp⟩
  ·rw [if_neg h1] at hl;have d1:decide (fM p<(0:Int))=true:=V0 (by omega);refine go (o:=VP++ff (List.range 30) true) (v:=.tuple #[.string ⟨#[]⟩,.bool false]) ⟨?_⟩ ?_
   ·rw [Qj];simp only [ah,d1,VV,VX,VW];exact hp
   ·have:=(wZ (p:=p.data.toList) (by omega)).1;unfold aj aC;rw [this,V2 h1,Bool.and_false];cases aR p <;> rfl
 ·cases h
theorem Lc {M:Own} {w0:World}:aK EW M w0:=
 aK.uS (Checked.mixed Tryz.checked) (by kernel_rfl) (fk.of iI rfl dK) (dz.list (X:=fun _=>True) (l:=P4) rfl (fun r hr=>by
  simp only [P4,V8,Ww,Xc] at hr
  rcases hr with rfl | rfl
  ·exact rT
  ·exact bh.pure (r:=(45,kO)) oW) fun ν s w hr _=>trivial) (fun f g h=>by cases h)
section
variable {w0:World} {cs0:List Frame} {R:Ending->World->Prop} {xs ys:List (List UInt8)}
theorem Gi (hx:xs.length<=1000000001) (YR:ys.length<xs.length) (hR:∀ w',Below w0.heap.size w0 w'->R (.returned (.bool (decide (xs.take ys.length=ys)))) w'):∀ (j i:Nat),i+j=ys.length->xs.take i=ys.take i->
  af EW (aD [] []) w0 cs0 78 R (aA []) (SM.at (AM xs.length ys.length i) 6 (two (cP xs) (cP ys)))
 | 0,i,hj,he=>by
  have hi:i=ys.length:=by omega
  rw [hi,XE] at he
  refine cg Lc aE (n:=100) (o:=ff [0] false) (v:=.bool true) ⟨?_⟩ fun w' hw=>by have:=hR w' hw;rwa [V0 he] at this
  rw [RA];simp only [ah,VV,VX,VW];exact V2 (by omega)
 | j+1,i,hj,he=>by
  have h2:i<ys.length:=by omega
  have h1:i<xs.length:=by omega
  have t2:decide ((i:Int)<(ys.length:Int))=true:=V0 (by omega)
  have r1:=aJ h1
  have r2:=aJ h2
  have g1:(cP xs)[0+i*1]?=some (.v (.string (mk xs[i]))):=by simp [cP,h1]
  have g2:(cP ys)[0+i*1]?=some (.v (.string (mk ys[i]))):=by simp [cP,h2]
  have e1:(mk xs[i]).toList=xs[i]:=by rw [jt];simp [mk]
  have e2:(mk ys[i]).toList=ys[i]:=by rw [jt];simp [mk]
  by_cases hc:xs[i]=ys[i]
  ·have hq:(!(mk xs[i]).toList==(mk ys[i]).toList)=false:=by rw [e1,e2,hc];simp
   refine af.reach Lc (k:=2) (n:=100) (o:=(ff [0] true++[(2,.cells [.v (.string (mk xs[i]))]),(4,.cells [.v (.string (mk ys[i]))])]++ff [5,6,7] false)) (ren:=[(0,0),(1,1)]) (eqs:=[0,1]) ?_ (by kernel_rfl) (fun i b h=>dV h) (Gi hx YR hR j (i+1) (by omega) (by rw [Wp h1,Wp h2,he,hc]))
   rw [SX]
   have ws:=aU (k:=i) (by omega)
   simp only [ah,V5,t2,r1,r2,g1,g2,hq,ws,er,VV]
  ·have hq:(!(mk xs[i]).toList==(mk ys[i]).toList)=true:=by rw [e1,e2];simpa using hc
   have hn:¬ xs.take ys.length=ys:=fun h=>by
    have h5:(xs.take ys.length)[i]?=ys[i]?:=by rw [h]
    rw [WO,if_pos h2,V4 h1,V4 h2] at h5
    exact hc (Option.some.inj h5)
   refine cg Lc aE (n:=100) (o:=(ff [0] true++[(2,.cells [.v (.string (mk xs[i]))]),(4,.cells [.v (.string (mk ys[i]))])]++ff [5,6,7] true)) (v:=.bool false) ⟨?_⟩ fun w' hw=>by have:=hR w' hw;rwa [V2 hn] at this
   rw [UO];simp only [ah,V5,t2,r1,r2,g1,g2,hq,VV]
end
theorem AB (l:List (List UInt8)):List.map SV.v (vP l)=cP l:=by simp [vP,cP]
theorem DU:bW Tryz.prog (fun _=>True) (78,mJ):=by
 refine .mk ⟨_,Tryz.func78,by kernel_rfl,by kernel_rfl⟩ fun args v p h hp w hX=>?_;dsimp only [mJ] at h;split at h
 ·rename_i p t;cases h;obtain ⟨h1,h2⟩:=hp;refine bP (E:=EW) (R:=fun e w'=>Below w.heap.size w w'/\e=.returned (.bool (dQ p t))) rfl rfl (args:=[.v (.string p),.v (.string t)]) (a:=[.string p,.string t]) (S0:=wb p t) (by kernel_rfl) (au.cons (VR.ae.2 rfl) (au.cons (VR.ae.2 rfl) au.nil)) fun cs0=>?_;cases g1:aR p
  ·refine cg Lc aE (n:=300) (o:=VP++ff (List.range 30) true) (v:=.bool false) ⟨?_⟩ fun w' hw=>⟨hw,by simp [dQ,g1]⟩;rw [Uf];simp only [ah,g1,W1,VV,VX,VW];exact h1
  cases g2:aR t
  ·refine cg Lc aE (n:=300) (o:=VP++ff [1,2,4,5] false++ff (List.range 30) true) (v:=.bool false) ⟨?_⟩ fun w' hw=>⟨hw,by simp [dQ,g1,g2]⟩;rw [Q5];simp only [ah,g1,g2,W1,Wy,VV,VX,VW];exact ⟨h1,h2⟩
  have l1:p.data.toList.length=p.size:=by simp
  have a1:=(gb p.data.toList).1;by_cases hl:(aq t.data.toList).length<(aq p.data.toList).length
  ·have nx:=Gi (w0:=w) (cs0:=cs0) (R:=fun e w'=>Below w.heap.size w w'/\e=.returned (.bool (dQ p t))) (xs:=aq p.data.toList) (ys:=aq t.data.toList) (by omega) hl (fun w' hw=>⟨hw,by simp [dQ,qa,g1,g2,hl]⟩) (aq t.data.toList).length 0 (by omega) rfl;refine af.reach Lc (k:=2) (n:=60) (o:=VP++ff (List.range 30) false) (ren:=[(0,0),(1,1)]) (eqs:=[0,1]) (F:=AM (aq p.data.toList).length (aq t.data.toList).length 0) (d:=6) (l:=two (cP (aq p.data.toList)) (cP (aq t.data.toList))) ?_ (by kernel_rfl) (fun i b h=>dV h) nx;have dl:decide (((aq p.data.toList).length:Int)<=((aq t.data.toList).length:Int))=false:=V2 (by omega);rw [Vz];simp only [ah,AB,er,g1,g2,dl,Wy,VV,VX,VW];refine ⟨⟨⟨h1,h2⟩,h1⟩,h2⟩
  ·refine cg Lc aE (n:=300) (o:=VP++ff [1,2,4,5,6] false++ff (List.range 30) true) (v:=.bool false) ⟨?_⟩ fun w' hw=>⟨hw,by simp [dQ,qa,hl]⟩;have dl:decide (((aq p.data.toList).length:Int)<=((aq t.data.toList).length:Int))=true:=V0 (by omega);rw [TF];simp only [ah,g1,g2,dl,Wy,VV,VX,VW];refine ⟨⟨⟨h1,h2⟩,h1⟩,h2⟩
 ·cases h
section
variable {w0:World} {cs0:List Frame} {R:Ending->World->Prop} {xs:List (List UInt8)} {b:Nat × Nat} {n:Nat}
theorem A8 {a:List (List UInt8)} (h:a≠[]) (x:List UInt8):eP (a++[x])=eP a++47::x:=mB h (by simp)
theorem ve:∀ (a:List (List UInt8)),(∀ s∈a,s.length<=96)->(eP a).length<=a.length*97
 | [],_=>WX _
 | x::l,h=>by
  have hx:=h x Wi
  have ih:=ve l fun s hs=>h s (Wb _ hs)
  cases l with
  | nil=>show x.length<=_;simp only [Wm,WL];omega
  | cons y r=>
   rw [ig (by simp),V7,Wm,Wm];omega
theorem FH (hn:n<=xs.length) (hl:xs.length<=100) (hs:∀ s∈xs,s.length<=96) (hR:∀ w',Below w0.heap.size w0 w'->R (.returned (.string (mk (eP (xs.take n))))) w'):∀ (j i:Nat),i+j=n->
  af bn (aD [b] [(.look (cP xs),false)]) w0 cs0 79 R (aA [b]) (SM.at (zc n b.2 (mk (eP (xs.take i))) i) 6 [cv (cP xs)])
 | 0,i,hj=>by
  have hi:i=n:=by omega
  subst hi;refine cg fQ gQ (n:=60) (o:=ff [0] false) (v:=.string (mk (eP (xs.take i)))) ⟨?_⟩ hR;rw [VN];simp only [ah,VV,VX,VW];exact V2 (by omega)
 | j+1,i,hj=>by
  have hi:i<xs.length:=by omega
  have t1:decide ((i:Int)<(n:Int))=true:=V0 (by omega);have r1:ai (i:Int) n=true:=aJ (by omega);have g1:(cP xs)[0+i*1]?=some (.v (.string (mk xs[i]))):=by simp [cP,hi]
  have ws:=aU (k:=i) (by omega);have z1:=hs _ (WT hi);have z2:=ve (xs.take i) fun s h=>hs s (Yr h);rw [WW] at z2;have q1:(mk xs[i]).size<=96:=z1;have q2:(mk (eP (xs.take i))).size<=100*97:=by show (eP (xs.take i)).length<=_;omega
  have nx:=FH hn hl hs hR j (i+1) (by omega);rw [Wp hi] at nx;by_cases h0:i=0
  ·subst h0;have e:mk (eP (xs.take 0++[xs[0]]))=mk (eP (xs.take 0))++mk xs[0]:=by rw [sR];rfl
   rw [e] at nx;refine af.reach fQ (k:=2) (n:=60) (o:=(ff [0] true++ff [1] false++[(3,.cells [.v (.string (mk xs[0]))])])) (ren:=[(0,0)]) (eqs:=[0]) ?_ (by kernel_rfl) (fun i b h=>by rw [dj h];rfl) nx;have t2:decide (((0:Nat):Int)>0)=false:=by decide
   rw [Uo];simp only [ah,V5,t1,t2,r1,g1,ws,er,VV,VX,VW];exact (by omega:(mk (eP (xs.take 0))).size+(mk xs[0]).size<=9223372036854775807)
  ·have e:mk (eP (xs.take i++[xs[i]]))=mk (eP (xs.take i))++bw++mk xs[i]:=by
    rw [A8 (by rw [<- Xh,WW];omega),show bw=mk [47] from rfl,sR,sR];simp
   rw [e] at nx;refine af.reach fQ (k:=2) (n:=60) (o:=(ff [0] true++ff [1] true++[(4,.cells [.v (.string (mk xs[i]))])])) (ren:=[(0,0)]) (eqs:=[0]) ?_ (by kernel_rfl) (fun i b h=>by rw [dj h];rfl) nx;have t2:decide ((i:Int)>0)=true:=V0 (by omega);have sl:(⟨⟨[47]⟩⟩:ByteArray)=bw:=rfl;have q3:(mk (eP (xs.take i))++bw).size=(mk (eP (xs.take i))).size+1:=by rw [ByteArray.size_append];rfl
   rw [TW];simp only [ah,V5,t1,t2,r1,g1,ws,sl,er,VV,VX,VW];refine ⟨(by omega:(mk (eP (xs.take i))).size+1<=9223372036854775807),(by omega:(mk (eP (xs.take i))++bw).size+(mk xs[i]).size<=9223372036854775807)⟩
end
theorem yR (l:List (List UInt8)):iT.jL (cP l)=l:=by
 unfold iT.jL cP;rw [WI];conv=>rhs;rw [<- List.map_id l]
 exact XB fun s _=>by simp [mk]
theorem G3 {X:World->Prop}:bh Tryz.prog X (79,de iT):=by
 refine dR ⟨_,Tryz.func79,by kernel_rfl,by kernel_rfl⟩ fun args sh v q h hp ν M w0 w a hr hX ha=>?_;dsimp only [iT] at h;split at h
 ·rename_i i n;split at h
  ·rename_i ys e1 z1 x1 m1 hl;cases h;obtain ⟨hc,hn,ZV,hs⟩:=hp;generalize iT.jL ys=xs at *;subst hc;obtain ⟨y1,ZY,rfl,q1,YV⟩:=ha.cons_inv;obtain rfl:=YV.ay;obtain ⟨bb,Zd,hle,rfl⟩:=VR.aL.1 q1;refine iu (E:=bn) rfl rfl hr hl (er xs) (args':=fun c=>[.sl 0 0 n (some c)]) (S0:=fun c=>G4 (cP xs) n c) (fun b hb=>?_) (fun c=>by kernel_rfl) fun b cs0=>?_
   ·rw [Zd] at hb;cases hb;have Zp:n<=bb.2:=hle;exact au.cons (VR.aL.2 ⟨bb,rfl,Zp,rfl⟩) au.nil
   ·have nx:=FH (w0:=w) (cs0:=cs0) (b:=b) (xs:=xs) (n:=n) (R:=fun e w'=>Below w.heap.size w w'/\e=.returned (.string (mk (eP (xs.take n))))) hn ZV hs (fun w' hw=>⟨hw,rfl⟩) n 0 (by omega);refine af.reach fQ (k:=2) (n:=60) (o:=VP) (ren:=[(0,0)]) (eqs:=[0]) (F:=zc n b.2 ⟨#[]⟩ 0) (d:=6) (l:=[cv (cP xs)]) ?_ (by kernel_rfl) (fun i b h=>by rw [dj h];rfl) nx;rw [TJ];simp only [ah,er,VV]
  ·cases h
 ·cases h
theorem SN {M:Own} {w0:World}:aK KF M w0:=
 aK.uS (Checked.mixed Tryz.checked) (by kernel_rfl) (fk.of iI rfl dK) (dz.list (X:=fun _=>True) (l:=PO) rfl (fun r hr=>by
  simp only [PO,V8,Ww,Xc] at hr
  rcases hr with rfl | rfl | rfl
  ·exact rT
  ·exact bh.pure (r:=(45,kO)) oW
  ·exact G3) fun ν s w hr _=>trivial) (fun f g h=>by cases h)
theorem AE:bW Tryz.prog (fun _=>True) (49,wK):=by
 refine .mk ⟨_,Tryz.func49,by kernel_rfl,by kernel_rfl⟩ fun args v p h hp w hX=>?_;dsimp only [wK] at h;split at h
 ·rename_i p;cases h
  have go:∀ {o v},mY (ao KF 49 300 (a7 KF 49 [.v (.string p)]) o v)->v=.string (aj p)->Calls Tryz.prog 49 #[.string p] w fun e w'=>Below w.heap.size w w'/\e=.returned (.string (aj p)):=fun h e=>
   e ▸ bX (E:=KF) (args:=[.v (.string p)]) rfl rfl SN (by kernel_rfl) (au.cons (VR.ae.2 rfl) au.nil) h
  cases g:aR p
  ·refine go (o:=VP++ff (List.range 30) true) (v:=.string ⟨#[]⟩) ⟨?_⟩ (by simp [aj,g]);rw [RG];simp only [ah,g,W1,VV,VX,VW];exact hp
  ·have hg:=g;unfold aR at hg;rw [V6,XI] at hg;have h6:=((ka 6 p).1 hg.2).1;have l1:p.data.toList.length=p.size:=by simp
   have a1:=(gb p.data.toList).2;have hpos:0<(aq p.data.toList).length:=Xh.2 (cY _);have ew:(IntKind.i64.wrap (((aq p.data.toList).length:Int) - 1)).toNat=(aq p.data.toList).length - 1:=by rw [wi (by omega)];omega
   refine go (o:=VP++ff [1] false++ff (List.range 30) true) (v:=.string (mk (eP (List.take (IntKind.i64.wrap (((aq p.data.toList).length:Int) - (1:Int))).toNat (iT.jL (List.map SV.v (vP (aq p.data.toList)))))))) ⟨?_⟩ ?_
   ·rw [Td];simp only [ah,g,ew,AB,yR,Wy,VV,VX,VW];repeat' apply And.intro
    all_goals first | exact hp | exact V0 ⟨by rw [wi (by omega)];omega,by rw [wi (by omega)];omega⟩ | omega | exact (fun s hs=>by have:=a1 s hs;omega)
   ·rw [ew,AB,yR];unfold aj yf;rw [g,List.dropLast_eq_take];rfl
 ·cases h
structure ax where
 p:ByteArray
 k:Int
 a:Option Addr
 l:Nat
 c:Nat
def iC (e:ax):List SV:=[.v (.string e.p),.v (.int .i64 e.k),.v (.slice e.a e.l e.c)]
def iV (e:ax):List Value:=[.string e.p,.int .i64 e.k,.slice e.a e.l e.c]
def kf (l:List SV):Option (SO × Bool):=some (.row l 48 (0,0) (some 3),true)
def cI (l:List ax):List SV:=l.flatMap iC
def vI (l:List ax):List Value:=l.flatMap iV
theorem cC (e:ax):(iC e).length=3:=rfl
theorem bp (e:ax):(iC e).all ab=true:=rfl
theorem gW (a b:List ax):cI (a++b)=cI a++cI b:=by simp [cI]
theorem fH (e:ax):cI [e]=iC e:=by simp [cI]
theorem eQ:∀ a:List ax,(cI a).length=a.length*3
 | []=>rfl
 | e::a=>by
  have:=eQ a
  show (iC e++cI a).length=_
  rw [V7,this,cC,Wm];omega
theorem az (a:List ax):(cI a).all ab=true:=by
 rw [Wn];intro x hx;obtain ⟨r,_,hx⟩:=Yo.1 hx;exact Wn.1 (bp r) x hx
theorem gR (a:List ax):(cI a).all SV.flat=true:=by
 rw [Wn];intro x hx;obtain ⟨r,_,hx⟩:=Yo.1 hx;exact Wn.1 (show (iC r).all SV.flat=true from rfl) x hx
theorem cX:∀ l:List ax,(vI l).map SV.v=cI l
 | []=>rfl
 | r::l=>by
  show (iV r++vI l).map SV.v=iC r++cI l
  rw [Wq,cX l];rfl
theorem tI {ν:aP} {l:List ax} {zs:List Value} (h:au ν (cI l) zs):zs=vI l:=by
 rw [<- cX] at h;exact gi h (au.lits ν (vI l))
theorem py {xs:List ax} {k:Nat} {x:ax} (h:xs[k]?=some x):List.take 3 (List.drop (0+k*3) (cI xs))=iC x:=by
 rw [W9];exact ku cC h
theorem iP {xs:List ax} {k:Nat} {x:ax} (h:xs[k]?=some x):(cI xs)[0+k*3+0]?=some (.v (.string x.p)):=by
 have h2:(List.take 3 (List.drop (0+k*3) (cI xs)))[0]?=(iC x)[0]?:=by rw [py h]
 rw [WO,if_pos (by decide),W7] at h2;exact h2
def OC (l:List SV):ax:=match l with
 | [.v (.string p),.v (.int _ k),.v (.slice a l c)]=>⟨p,k,a,l,c⟩
 | _=>⟨⟨#[]⟩,0,none,0,0⟩
theorem JT (e:ax):OC (iC e)=e:=rfl
def ad (ys:List SV) (n:Nat):List ax:=FL OC 3 n ys
theorem aW (l:List ax):ad (cI l) l.length=l:=pU cC JT l
structure bu (ys:List SV) (n:Nat) (l:List ax):Prop where
 cells:ys=cI l
 len:n=l.length
 Y2:n<=1000
def pI (p:ByteArray) (e:ax):Bool:=e.p.data.toList==p.data.toList
def ch (p:ByteArray) (l:List ax):List ax:=l.filter fun e=>!pI p e
def E9 (l:List SV) (n c:Nat) (p:ByteArray):SM:=(a6 bn 48 [.sl 0 0 n (some c),.v (.string p)] (bG 6 1 0 [Ma l])).getD dn
where Ma (l:List SV):Option (SO × Bool):=some (.look l,false)
def ML:List SI:=dB bn 2 60 (E9 [] 0 0 ⟨#[]⟩) VP
def oz (n c:Nat) (p:ByteArray) (x:SV) (i:Int):SF:={ fn:=48,tm:=fh 28 6 ([.sl 0 0 n (some c),.v (.string p),.aH,.aH,.aH,x,.v (.int .i64 i)]++List.replicate 21 .aH),todo:=ML,defers:=[],ret:=false,kind:=.normal,ro:=none }
theorem UN (l:List SV) (n c:Nat) (p:ByteArray):reach bn 2 60 (E9 l n c p) VP [(0,0)] [0] (oz n c p bZ 0) 6 [cv l]=[0=0/\n=n/\some c=some c,VS p=VS p,VT none 0 0=VT none 0 0,vZ 0=vZ 0,l=l,l.all ab=true]:=by kernel_rfl
theorem Sf (l:List SV) (n c:Nat) (p q:ByteArray) (i i':Int):reach bn 2 60 (SM.at (oz n c p bZ i) 6 [cv l]) (ff [0] true++[(2,.cells [.v (.string q)])]++ff [3] false) [(0,0)] [0] (oz n c p bZ i') 6 [cv l]=[0=0/\n=n/\some c=some c,VS p=VS p,VT none 0 0=VT none 0 0,vZ (IntKind.i64.wrap (i+1))=vZ i',l=l,l.all ab=true,(!q.toList==p.toList)=false,l[0+i.toNat*3+0]?=some (SV.v (VS q)),ai i n=true,decide (i<(↑n:Int))=true]:=by kernel_rfl
theorem UQ (l l':List SV) (n c:Nat) (p q:ByteArray) (i i':Int) (e:ax):reach bn 2 60 (SM.at (oz n c p bZ i) 6 [cv l]) (ff [0] true++[(2,.cells [.v (.string q)])]++ff [3] true++[(5,.cells (iC e))]) [(0,0),(1,2)] [0,1] (oz n c p (.sl 1 0 1 none) i') 6 [cv l,kf l']=[0=0/\n=n/\some c=some c,VS p=VS p,0=0/\1=1/\nZ=none,vZ (IntKind.i64.wrap (i+1))=vZ i',l=l,l.all ab=true,[]++List.take 3 (List.drop 0 (aQ (List.replicate 1 (List.map SV.v [VS ⟨⟨[]⟩⟩,vZ 0,VT none 0 0])).flatten 0 (iC e)))=l',l'.all ab=true,List.take 3 (List.drop (0+i.toNat*3) l)=iC e/\(iC e).length=3,ai i n=true,(!q.toList==p.toList)=true,l[0+i.toNat*3+0]?=some (SV.v (VS q)),ai i n=true,decide (i<(↑n:Int))=true]:=by kernel_rfl
theorem VK (l m:List SV) (n c k:Nat) (p q:ByteArray) (i i':Int):reach bn 2 60 (SM.at (oz n c p (.sl 1 0 k none) i) 6 [cv l,kf m]) (ff [0] true++[(2,.cells [.v (.string q)])]++ff [3] false) [(0,0),(1,1)] [0,1] (oz n c p (.sl 1 0 k none) i') 6 [cv l,kf m]=[0=0/\n=n/\some c=some c,VS p=VS p,0=0/\k=k/\nZ=none,vZ (IntKind.i64.wrap (i+1))=vZ i',l=l,l.all ab=true,m=m,m.all ab=true,(!q.toList==p.toList)=false,l[0+i.toNat*3+0]?=some (SV.v (VS q)),ai i n=true,decide (i<(↑n:Int))=true]:=by kernel_rfl
theorem Tb (l m l' w:List SV) (n c k:Nat) (p q:ByteArray) (i i':Int) (e:ax):reach bn 2 60 (SM.at (oz n c p (.sl 1 0 k none) i) 6 [cv l,kf m]) (ff [0] true++[(2,.cells [.v (.string q)])]++ff [3] true++[(5,.cells (iC e)),(6,.app m w)]) [(0,0),(1,3)] [0,1] (oz n c p (.sl 1 0 (k+1) none) i') 6 [cv l,kf l']=[0=0/\n=n/\some c=some c,VS p=VS p,0=0/\k+1=k+1/\nZ=none,vZ (IntKind.i64.wrap (i+1))=vZ i',l=l,l.all ab=true,m++w=l',l'.all ab=true,((List.take 3 (List.drop 0 (aQ (List.replicate 1 (List.map SV.v [VS ⟨⟨[]⟩⟩,vZ 0,VT none 0 0])).flatten 0 (iC e)))=w/\w.length=1*3)/\1≠0/\(2*(k+1)+1024)*48<=140737488355328)/\List.take (k*3) m=m/\m.length=k*3/\w.all SV.flat=true,List.take 3 (List.drop (0+i.toNat*3) l)=iC e/\(iC e).length=3,ai i n=true,(!q.toList==p.toList)=true,l[0+i.toNat*3+0]?=some (SV.v (VS q)),ai i n=true,decide (i<(↑n:Int))=true]:=by kernel_rfl
theorem Tm (l:List SV) (n c:Nat) (p:ByteArray) (i:Int) (v:Value):ao bn 48 60 (SM.at (oz n c p bZ i) 6 [cv l]) (ff [0] false) v=[VT none 0 0=v,decide (i<(↑n:Int))=false]:=by kernel_rfl
theorem VC (l m:List SV) (n c k:Nat) (p:ByteArray) (i:Int):bY bn 48 60 (SM.at (oz n c p (.sl 1 0 k none) i) 6 [cv l,kf m]) (ff [0] false) (.sl 1 0 k none) 1 (.row m 48 (0,0) (some 3))=[0=0/\k=k/\nZ=none,m=m,m.all ab=true,decide (i<(↑n:Int))=false]:=by kernel_rfl
theorem tJ (p:ByteArray) {xs:List ax} {i:Nat} (h:i<xs.length):ch p (xs.take (i+1))=ch p (xs.take i)++(if pI p xs[i]=true then [] else [xs[i]]):=by
 rw [Wp h];unfold ch;rw [Yx];congr 1;cases hp:pI p xs[i] <;> simp [hp]
theorem vk (p:ByteArray) (xs:List ax):(ch p xs).length<=xs.length:=XU _ _
theorem oI {E:Env} {M:Own} {w0:World} {cs0:List Frame} {f:FuncId} {R:Ending->World->Prop} {ν:aP} {n:Nat} {S:SM} {o:List (Nat × gM)} {m j:Nat} {l:List ax} (K:aK E M w0) (hM:∀ z,¬ M z)
  (h:mY (bY E f n S o (.sl j 0 m none) j (.row (cI l) 48 (0,0) (some 3)))) (hR:∀ w' y,Below w0.heap.size w0 w'->cG w0 w' y (vI l) m 3 48->R (.returned y) w'):af E M w0 cs0 f R ν S:=
 af.bY K h.out fun ν' w' y b ob hv hb ho YO hw hB=>by
  have hn:w0.heap.size<=b.1:=by
   rcases hw with h | h
   ·exact h
   ·exact absurd h (hM _)
  obtain ⟨_,_,_,_,hB,hr⟩:=hB;exact hR w' y (aB hM hB hr) (cG.fW hv hb ho YO hn fun zs hz=>tI hz)
def PY (w0:World) (xs:List ax) (e:Ending) (w':World):Prop:=
 Below w0.heap.size w0 w'/\((xs=[]/\e=.returned (.slice none 0 0))\/(xs≠[]/\∃ y,e=.returned y/\cG w0 w' y (vI xs) xs.length 3 48))
section
variable {w0:World} {cs0:List Frame} {xs:List ax} {p:ByteArray} {b:Nat × Nat} {c:Nat}
theorem wy (hl:xs.length<=1000):∀ (j i:Nat),i+j=xs.length->ch p (xs.take i)≠[]->
  af bn (aD [b] [(.look (cI xs),false)]) w0 cs0 48 (PY w0 (ch p xs)) (aA [b]) (SM.at (oz xs.length c p (.sl 1 0 (ch p (xs.take i)).length none) i) 6 [cv (cI xs),kf (cI (ch p (xs.take i)))])
 | 0,i,hj,YI=>by
  rw [We (by omega)] at YI ⊢
  refine oI (j:=1) fQ gQ (n:=60) (o:=ff [0] false) ⟨?_⟩ fun w' y hB hy=>⟨hB,.inr ⟨YI,y,rfl,hy⟩⟩
  rw [VC]
  simp only [ah,az,VV,VX,VW]
  exact V2 (by omega)
 | j+1,i,hj,YI=>by
  have hi:i<xs.length:=by omega
  have Zg:=tJ p hi
  have ZA:xs[i]?=some xs[i]:=V4 hi
  have t1:decide ((i:Int)<(xs.length:Int))=true:=V0 (by omega)
  have r1:=aJ hi
  have ws:=aU (k:=i) (by omega)
  have rc:=iP ZA
  have ra:=py ZA
  have hbl:(ch p (xs.take i)).length<=1000:=Wj (vk _ _) (by rw [WW];omega)
  cases hq:pI p xs[i]
  ·have Z1:(xs[i].p.toList==p.toList)=false:=by rw [jt,jt];exact hq
   rw [hq,if_neg (by decide)] at Zg
   have nx:=wy hl j (i+1) (by omega) (by rw [Zg];simp)
   rw [Zg,V7,show ([xs[i]]:List ax).length=1 from rfl] at nx
   refine af.reach fQ (k:=2) (n:=60) (o:=(ff [0] true++[(2,.cells [.v (.string xs[i].p)])]++ff [3] true++[(5,.cells (iC xs[i])),(6,.app (cI (ch p (xs.take i))) (iC xs[i]))])) (ren:=[(0,0),(1,3)]) (eqs:=[0,1]) ?_ (by kernel_rfl) (fun i b h=>by rw [dj h];rfl) nx
   rw [Tb]
   simp only [ah,V5,t1,r1,rc,ra,Z1,ws,cC,az,gR,gW,fH,eQ,WM,W1,VV,VX,VW]
   repeat' apply And.intro
   all_goals first | rfl | omega | exact We (by rw [eQ];exact Wx _) | exact bp _ | skip
  ·have Z1:(xs[i].p.toList==p.toList)=true:=by rw [jt,jt];exact hq
   rw [hq,if_pos rfl,W4] at Zg
   have nx:=wy hl j (i+1) (by omega) (by rw [Zg];exact YI)
   rw [Zg] at nx
   refine af.reach fQ (k:=2) (n:=60) (o:=(ff [0] true++[(2,.cells [.v (.string xs[i].p)])]++ff [3] false)) (ren:=[(0,0),(1,1)]) (eqs:=[0,1]) ?_ (by kernel_rfl) (fun i b h=>by rw [dj h];rfl) nx
   rw [VK]
   simp only [ah,V5,t1,r1,rc,Z1,ws,az,Wy,VV]
theorem CW (hl:xs.length<=1000):∀ (j i:Nat),i+j=xs.length->ch p (xs.take i)=[]->
  af bn (aD [b] [(.look (cI xs),false)]) w0 cs0 48 (PY w0 (ch p xs)) (aA [b]) (SM.at (oz xs.length c p bZ i) 6 [cv (cI xs)])
 | 0,i,hj,hn=>by
  rw [We (by omega)] at hn
  refine cg fQ gQ (n:=60) (o:=ff [0] false) (v:=.slice none 0 0) ⟨?_⟩ fun w' hw=>⟨hw,.inl ⟨hn,rfl⟩⟩
  rw [Tm]
  simp only [ah,VV,VX,VW]
  exact V2 (by omega)
 | j+1,i,hj,hn=>by
  have hi:i<xs.length:=by omega
  have Zg:=tJ p hi
  have ZA:xs[i]?=some xs[i]:=V4 hi
  have t1:decide ((i:Int)<(xs.length:Int))=true:=V0 (by omega)
  have r1:=aJ hi
  have ws:=aU (k:=i) (by omega)
  have rc:=iP ZA
  have ra:=py ZA
  cases hq:pI p xs[i]
  ·have Z1:(xs[i].p.toList==p.toList)=false:=by rw [jt,jt];exact hq
   rw [hq,if_neg (by decide),hn,Xo] at Zg
   have nx:=wy (w0:=w0) (cs0:=cs0) (b:=b) (c:=c) (p:=p) hl j (i+1) (by omega) (by rw [Zg];simp)
   rw [Zg,show ([xs[i]]:List ax).length=1 from rfl] at nx
   refine af.reach fQ (k:=2) (n:=60) (o:=(ff [0] true++[(2,.cells [.v (.string xs[i].p)])]++ff [3] true++[(5,.cells (iC xs[i]))])) (ren:=[(0,0),(1,2)]) (eqs:=[0,1]) ?_ (by kernel_rfl) (fun i b h=>by rw [dj h];rfl) nx
   rw [UQ]
   simp only [ah,V5,t1,r1,rc,ra,Z1,ws,cC,az,fH,W1,VV,VX,VW]
   repeat' apply And.intro
   all_goals first | rfl | omega | exact bp _ | skip
  ·have Z1:(xs[i].p.toList==p.toList)=true:=by rw [jt,jt];exact hq
   rw [hq,if_pos rfl,W4] at Zg
   have nx:=CW hl j (i+1) (by omega) (by rw [Zg];exact hn)
   refine af.reach fQ (k:=2) (n:=60) (o:=(ff [0] true++[(2,.cells [.v (.string xs[i].p)])]++ff [3] false)) (ren:=[(0,0)]) (eqs:=[0]) ?_ (by kernel_rfl) (fun i b h=>by rw [dj h];rfl) nx
   rw [Sf]
   simp only [ah,V5,t1,r1,rc,Z1,ws,az,bZ,Wy,VV]
end
def mE:H8:=fun args sh=>match args with
 | [.sl i 0 n none,.v (.string p)]=>match sh.look i with
  | some (.row ys _ _ _,_)=>some (vI (ch p (ad ys n)),(ch p (ad ys n)).length,3,48,none,bu ys n (ad ys n)/\ch p (ad ys n)≠[])
  | _=>none
 | _=>none
def vu:zF:=fun args sh=>match args with
 | [.sl i 0 n none,.v (.string p)]=>match sh.look i with
  | some (.row ys _ _ _,_)=>some (.slice none 0 0,bu ys n (ad ys n)/\ch p (ad ys n)=[])
  | _=>none
 | _=>none
theorem lX {ν:aP} {M:Own} {w0 w:World} {sh:SH} (hr:HR ν M w0 sh w) {i n:Nat} {ys:List SV} {e:TypeId} {fz:Nat × Nat} {x:Option Nat} {mk:Bool} {p:ByteArray} {xs:List ax} (hl:sh.look i=some (.row ys e fz x,mk)) (h:bu ys n xs) {a:List Value}
  (ha:au ν [.sl i 0 n none,.v (.string p)] a):Calls Tryz.prog 48 a.toArray w (PY w (ch p xs)):=by
 obtain ⟨rfl,rfl,ZV⟩:=h;obtain ⟨y1,ZY,rfl,q1,YV⟩:=ha.cons_inv;obtain ⟨y2,as2,rfl,q2,ZL⟩:=YV.cons_inv;obtain rfl:=ZL.ay;obtain rfl:=VR.ae.1 q2;obtain ⟨bb,Zd,hle,rfl⟩:=VR.aL.1 q1;refine iu (E:=bn) rfl rfl hr hl (az xs) (args':=fun c=>[.sl 0 0 xs.length (some c),.v (.string p)]) (S0:=fun c=>E9 (cI xs) xs.length c p) (fun b hb=>?_) (fun c=>by kernel_rfl) fun b cs0=>?_
 ·rw [Zd] at hb;cases hb;have Zp:xs.length<=bb.2:=hle;exact au.cons (VR.aL.2 ⟨bb,rfl,Zp,rfl⟩) (au.cons (VR.ae.2 rfl) au.nil)
 ·have nx:=CW (w0:=w) (cs0:=cs0) (b:=b) (c:=b.2) (p:=p) (xs:=xs) ZV xs.length 0 (by omega) rfl;refine af.reach fQ (k:=2) (n:=60) (o:=VP) (ren:=[(0,0)]) (eqs:=[0]) (F:=oz xs.length b.2 p bZ 0) (d:=6) (l:=[cv (cI xs)]) ?_ (by kernel_rfl) (fun i b h=>by rw [dj h];rfl) nx;rw [UN];simp only [ah,az,VV]
def GI (p:ByteArray):SM:=(a6 bn 48 [.v (.slice none 0 0),.v (.string p)] (bG 6 0 0 [])).getD dn
theorem Ug (p:ByteArray) (v:Value):ao bn 48 60 (GI p) VP v=[VT none 0 0=v]:=by kernel_rfl
def mU:zF:=fun args sh=>match args with
 | [.v u,.v (.string p)]=>some (.slice none 0 0,u=.slice none 0 0)
 | _=>vu args sh
def QD:List (FuncId × Sum):=[(48,gq (fl mE) (de mU)),(80,cq qy)]
def xU:Env:={ EP [] [] with Y7:=fun f=>QD.lookup f }
def Ck (l:List SV):Option (SO × Bool):=some (.row l 48 (0,0) (some 3),false)
def jC (x:ax):SV:=.v (.agg #[.int .i64 x.k,.slice x.a x.l x.c])
def Ns (x:ax):Option (SO × Bool):=some (.row [.v (.int .i64 x.k),.v (.slice x.a x.l x.c)] 46 (0,0) none,true)
def C2 (l:List SV) (n:Nat) (x:ax):SM:=(a6 xU 51 [.sl 0 0 n none,.v (.string x.p),jC x] (bG 6 1 0 [Ck l])).getD dn
def Fi (x:ax):SM:=(a6 xU 51 [.v (.slice none 0 0),.v (.string x.p),jC x] (bG 6 0 0 [])).getD dn
def LA:List SI:=dB xU 2 100 (C2 [] 0 ⟨⟨#[]⟩,1,none,0,0⟩) (VP++ff [0] true++ff [1] false)
def mg (k:Nat) (q:ByteArray) (x:SV) (d:Bool) (i:Int):SF:={ fn:=51,tm:=fh 57 6 ([.sl 2 0 k none,.v (.string q),.aH,.aH,.aH,.ptr 1 0,.aH,x,.v (.bool d),.v (.int .i64 i)]++List.replicate 47 .aH),todo:=LA,defers:=[],ret:=false,kind:=.normal,ro:=none }
def yA (y:ax) (l m:List SV):List (Option (SO × Bool)):=[Ck l,Ns y,kf m]
def lh (y:ax) (l m o:List SV):List (Option (SO × Bool)):=[Ck l,Ns y,kf m,kf o]
theorem Rg (l m:List SV) (n k:Nat) (y:ax):reach xU 2 100 (C2 l n y) (VP++ff [0] true++ff [1] false) [(0,0),(1,1),(2,2)] [0,2] (mg k y.p bZ false 0) 6 (yA y l m)=[0=0/\(ch y.1 (ad l n)).length=k/\nZ=none,VS y.1=VS y.1,0=0,VT none 0 0=VT none 0 0,VU false=VU false,vZ 0=vZ 0,l=l,l.all ab=true,vZ y.2=vZ y.2,VT y.3 y.4 y.5=VT y.3 y.4 y.5,List.map SV.v (vI (ch y.1 (ad l n)))=m,m.all ab=true,(y.2==0)=false,bu l n (ad l n)/\ch y.1 (ad l n)≠[]]:=by kernel_rfl
theorem Q3 (l m:List SV) (n:Nat) (y:ax):bY xU 51 100 (C2 l n y) (VP++ff [0,1] false) (.sl 3 0 1 none) 3 (.row m 48 (0,0) (some 3))=[0=0/\1=1/\nZ=none,[]++List.take 3 (List.drop 0 (aQ (List.replicate 1 (List.map SV.v [VS ⟨⟨[]⟩⟩,vZ 0,VT none 0 0])).flatten 0 (aQ (aQ (List.map SV.v [VS ⟨⟨[]⟩⟩,vZ 0,VT none 0 0]) 0 [SV.v (VS y.1)]) 1 (List.take 2 (List.drop 0 (List.map SV.v [vZ y.2,VT y.3 y.4 y.5]))))))=m,m.all ab=true,(y.2==0)=false,bu l n (ad l n)/\ch y.1 (ad l n)=[]]:=by kernel_rfl
theorem UF (m:List SV) (y:ax):bY xU 51 100 (Fi y) (VP++ff [0,1] false) (.sl 2 0 1 none) 2 (.row m 48 (0,0) (some 3))=[0=0/\1=1/\nZ=none,[]++List.take 3 (List.drop 0 (aQ (List.replicate 1 (List.map SV.v [VS ⟨⟨[]⟩⟩,vZ 0,VT none 0 0])).flatten 0 (aQ (aQ (List.map SV.v [VS ⟨⟨[]⟩⟩,vZ 0,VT none 0 0]) 0 [SV.v (VS y.1)]) 1 (List.take 2 (List.drop 0 (List.map SV.v [vZ y.2,VT y.3 y.4 y.5]))))))=m,m.all ab=true,(y.2==0)=false,VT none 0 0=VT none 0 0]:=by kernel_rfl
theorem Vr (l m o o' w w2:List SV) (k r:Nat) (y e:ax) (i i':Int):reach xU 2 100 (SM.at (mg k y.p bZ false i) 6 (yA y l m)) (ff [0] true++[(7,.cells [.v (.string e.p)]),(13,.b false),(15,.cells (iC e))]) [(0,0),(1,1),(2,2),(3,4)] [0,2,3] (mg k y.p (.sl 3 0 1 none) false i') 6 (lh y l m o')=[0=0/\k=k/\nZ=none,VS y.1=VS y.1,0=0,0=0/\1=1/\nZ=none,VU false=VU false,vZ (IntKind.i64.wrap (i+1))=vZ i',l=l,l.all ab=true,vZ y.2=vZ y.2,VT y.3 y.4 y.5=VT y.3 y.4 y.5,m=m,m.all ab=true,[]++List.take 3 (List.drop 0 (aQ (List.replicate 1 (List.map SV.v [VS ⟨⟨[]⟩⟩,vZ 0,VT none 0 0])).flatten 0 (iC e)))=o',o'.all ab=true,List.take 3 (List.drop (0+i.toNat*3) m)=iC e/\(iC e).length=3,ai i k=true,decide (dr e.1 y.1>0)=false,e.1.size<=1000000000/\y.1.size<=1000000000,m[0+i.toNat*3+0]?=some (SV.v (VS e.1)),ai i k=true,decide (i<(↑k:Int))=true]:=by kernel_rfl
theorem TS (l m o o' w w2:List SV) (k r:Nat) (y e:ax) (i i':Int):reach xU 2 100 (SM.at (mg k y.p (.sl 3 0 r none) false i) 6 (lh y l m o)) (ff [0] true++[(7,.cells [.v (.string e.p)]),(13,.b false),(15,.cells (iC e)),(16,.app o w)]) [(0,0),(1,1),(2,2),(3,5)] [0,2,3] (mg k y.p (.sl 3 0 (r+1) none) false i') 6 (lh y l m o')=[0=0/\k=k/\nZ=none,VS y.1=VS y.1,0=0,0=0/\r+1=r+1/\nZ=none,VU false=VU false,vZ (IntKind.i64.wrap (i+1))=vZ i',l=l,l.all ab=true,vZ y.2=vZ y.2,VT y.3 y.4 y.5=VT y.3 y.4 y.5,m=m,m.all ab=true,o++w=o',o'.all ab=true,((List.take 3 (List.drop 0 (aQ (List.replicate 1 (List.map SV.v [VS ⟨⟨[]⟩⟩,vZ 0,VT none 0 0])).flatten 0 (iC e)))=w/\w.length=1*3)/\1≠0/\(2*(r+1)+1024)*48<=140737488355328)/\List.take (r*3) o=o/\o.length=r*3/\w.all SV.flat=true,List.take 3 (List.drop (0+i.toNat*3) m)=iC e/\(iC e).length=3,ai i k=true,decide (dr e.1 y.1>0)=false,e.1.size<=1000000000/\y.1.size<=1000000000,m[0+i.toNat*3+0]?=some (SV.v (VS e.1)),ai i k=true,decide (i<(↑k:Int))=true]:=by kernel_rfl
theorem Sc (l m o o' w w2:List SV) (k r:Nat) (y e:ax) (i i':Int):reach xU 2 100 (SM.at (mg k y.p bZ false i) 6 (yA y l m)) (ff [0] true++[(7,.cells [.v (.string e.p)]),(13,.b true),(16,.cells (iC e))]) [(0,0),(1,1),(2,2),(3,6)] [0,2,3] (mg k y.p (.sl 3 0 2 none) true i') 6 (lh y l m o')=[0=0/\k=k/\nZ=none,VS y.1=VS y.1,0=0,0=0/\2=2/\nZ=none,VU true=VU true,vZ (IntKind.i64.wrap (i+1))=vZ i',l=l,l.all ab=true,vZ y.2=vZ y.2,VT y.3 y.4 y.5=VT y.3 y.4 y.5,m=m,m.all ab=true,List.take 3 ([]++List.take 3 (List.drop 0 (aQ (List.replicate 1 (List.map SV.v [VS ⟨⟨[]⟩⟩,vZ 0,VT none 0 0])).flatten 0 (aQ (aQ (List.map SV.v [VS ⟨⟨[]⟩⟩,vZ 0,VT none 0 0]) 0 [SV.v (VS y.1)]) 1 (List.take 2 (List.drop 0 [SV.v (vZ y.2),SV.v (VT y.3 y.4 y.5)]))))))++List.take 3 (List.drop 0 (aQ (List.replicate 1 (List.map SV.v [VS ⟨⟨[]⟩⟩,vZ 0,VT none 0 0])).flatten 0 (iC e)))=o',o'.all ab=true,List.take 3 (List.drop (0+i.toNat*3) m)=iC e/\(iC e).length=3,ai i k=true,decide (dr e.1 y.1>0)=true,e.1.size<=1000000000/\y.1.size<=1000000000,m[0+i.toNat*3+0]?=some (SV.v (VS e.1)),ai i k=true,decide (i<(↑k:Int))=true]:=by kernel_rfl
theorem TM (l m o o' w w2:List SV) (k r:Nat) (y e:ax) (i i':Int):reach xU 2 100 (SM.at (mg k y.p (.sl 3 0 r none) false i) 6 (lh y l m o)) (ff [0] true++[(7,.cells [.v (.string e.p)]),(13,.b true),(14,.app o w),(16,.cells (iC e)),(17,.app (o++w) w2)]) [(0,0),(1,1),(2,2),(3,7)] [0,2,3] (mg k y.p (.sl 3 0 (r+2) none) true i') 6 (lh y l m o')=[0=0/\k=k/\nZ=none,VS y.1=VS y.1,0=0,0=0/\r+1+1=r+2/\nZ=none,VU true=VU true,vZ (IntKind.i64.wrap (i+1))=vZ i',l=l,l.all ab=true,vZ y.2=vZ y.2,VT y.3 y.4 y.5=VT y.3 y.4 y.5,m=m,m.all ab=true,o++w++w2=o',o'.all ab=true,((List.take 3 (List.drop 0 (aQ (List.replicate 1 (List.map SV.v [VS ⟨⟨[]⟩⟩,vZ 0,VT none 0 0])).flatten 0 (iC e)))=w2/\w2.length=1*3)/\1≠0/\(2*(r+1+1)+1024)*48<=140737488355328)/\List.take ((r+1)*3) (o++w)=o++w/\(o++w).length=(r+1)*3/\w2.all SV.flat=true,List.take 3 (List.drop (0+i.toNat*3) m)=iC e/\(iC e).length=3,ai i k=true,((List.take 3 (List.drop 0 (aQ (List.replicate 1 (List.map SV.v [VS ⟨⟨[]⟩⟩,vZ 0,VT none 0 0])).flatten 0 (aQ (aQ (List.map SV.v [VS ⟨⟨[]⟩⟩,vZ 0,VT none 0 0]) 0 [SV.v (VS y.1)]) 1 (List.take 2 (List.drop 0 [SV.v (vZ y.2),SV.v (VT y.3 y.4 y.5)])))))=w/\w.length=1*3)/\1≠0/\(2*(r+1)+1024)*48<=140737488355328)/\List.take (r*3) o=o/\o.length=r*3/\w.all SV.flat=true,decide (dr e.1 y.1>0)=true,e.1.size<=1000000000/\y.1.size<=1000000000,m[0+i.toNat*3+0]?=some (SV.v (VS e.1)),ai i k=true,decide (i<(↑k:Int))=true]:=by kernel_rfl
theorem RX (l m o o' w w2:List SV) (k r:Nat) (y e:ax) (i i':Int):reach xU 2 100 (SM.at (mg k y.p (.sl 3 0 r none) true i) 6 (lh y l m o)) (ff [0] true++[(12,.cells (iC e)),(13,.app o w)]) [(0,0),(1,1),(2,2),(3,5)] [0,2,3] (mg k y.p (.sl 3 0 (r+1) none) true i') 6 (lh y l m o')=[0=0/\k=k/\nZ=none,VS y.1=VS y.1,0=0,0=0/\r+1=r+1/\nZ=none,VU true=VU true,vZ (IntKind.i64.wrap (i+1))=vZ i',l=l,l.all ab=true,vZ y.2=vZ y.2,VT y.3 y.4 y.5=VT y.3 y.4 y.5,m=m,m.all ab=true,o++w=o',o'.all ab=true,((List.take 3 (List.drop 0 (aQ (List.replicate 1 (List.map SV.v [VS ⟨⟨[]⟩⟩,vZ 0,VT none 0 0])).flatten 0 (iC e)))=w/\w.length=1*3)/\1≠0/\(2*(r+1)+1024)*48<=140737488355328)/\List.take (r*3) o=o/\o.length=r*3/\w.all SV.flat=true,List.take 3 (List.drop (0+i.toNat*3) m)=iC e/\(iC e).length=3,ai i k=true,decide (i<(↑k:Int))=true]:=by kernel_rfl
theorem UH (l m o o' w w2:List SV) (k r:Nat) (y e:ax) (i i':Int):bY xU 51 100 (SM.at (mg k y.p (.sl 3 0 r none) false i) 6 (lh y l m o)) (ff [0] false++[(2,.app o w)]) (.sl 5 0 (r+1) none) 5 (.row o' 48 (0,0) (some 3))=[0=0/\r+1=r+1/\nZ=none,o++w=o',o'.all ab=true,((List.take 3 (List.drop 0 (aQ (List.replicate 1 (List.map SV.v [VS ⟨⟨[]⟩⟩,vZ 0,VT none 0 0])).flatten 0 (aQ (aQ (List.map SV.v [VS ⟨⟨[]⟩⟩,vZ 0,VT none 0 0]) 0 [SV.v (VS y.1)]) 1 (List.take 2 (List.drop 0 [SV.v (vZ y.2),SV.v (VT y.3 y.4 y.5)])))))=w/\w.length=1*3)/\1≠0/\(2*(r+1)+1024)*48<=140737488355328)/\List.take (r*3) o=o/\o.length=r*3/\w.all SV.flat=true,decide (i<(↑k:Int))=false]:=by kernel_rfl
theorem Q6 (l m o o' w w2:List SV) (k r:Nat) (y e:ax) (i i':Int):bY xU 51 100 (SM.at (mg k y.p (.sl 3 0 r none) true i) 6 (lh y l m o)) (ff [0] false) (.sl 3 0 r none) 3 (.row o' 48 (0,0) (some 3))=[0=0/\r=r/\nZ=none,o=o',o'.all ab=true,decide (i<(↑k:Int))=false]:=by kernel_rfl
def gL (x:ax):List ax->List ax
 | []=>[x]
 | e::l=>if dr e.p x.p>0 then x::e::l else e::gL x l
theorem ou (x:ax):∀ l:List ax,(gL x l).length=l.length+1
 | []=>rfl
 | e::l=>by
  unfold gL
  split
  ·rfl
  ·rw [Wm,ou x l,Wm]
def Ny (w0:World) (xs:List ax) (e:Ending) (w':World):Prop:=Below w0.heap.size w0 w'/\∃ y,e=.returned y/\cG w0 w' y (vI xs) xs.length 3 48
theorem Nk (p:ByteArray) (w:World):Calls Tryz.prog 48 #[.slice none 0 0,.string p] w fun e w'=>Below w.heap.size w w'/\e=.returned (.slice none 0 0):=by
 refine (bP (E:=bn) rfl rfl (args:=[.v (.slice none 0 0),.v (.string p)]) (a:=[.slice none 0 0,.string p]) (S0:=GI p) (by kernel_rfl) (au.cons (VR.ae.2 rfl) (au.cons (VR.ae.2 rfl) au.nil)) fun cs0=>?_);refine af.ao fQ (n:=60) (o:=VP) (v:=.slice none 0 0) ?_ fun ν' M1 w1 s' w' _ Zv hr=>⟨aB aE Zv hr,rfl⟩;rw [Ug];simp only [ah,VV,VX,VW]
theorem pr {X:World->Prop}:bh Tryz.prog X (48,gq (fl mE) (de mU)):=by
 refine bh.br (gK ⟨_,Tryz.func48,by kernel_rfl,by kernel_rfl⟩ fun args sh ys n C elem ex p h hp ν M w0 w a hr hX ha=>?_) (dR ⟨_,Tryz.func48,by kernel_rfl,by kernel_rfl⟩ fun args sh v p h hp ν M w0 w a hr hX ha=>?_)
 ·dsimp only [mE] at h;split at h
  ·rename_i i n p;split at h
   ·rename_i zs e1 z1 x1 m1 hl;cases h;refine (lX hr hl hp.1 ha).mono fun e w' ⟨hB,h⟩=>⟨hB,?_⟩;rcases h with ⟨h1,_⟩ | ⟨_,y,h2,h3⟩
    ·exact absurd h1 hp.2
    ·exact ⟨y,h2,h3⟩
   ·cases h
  ·cases h
 ·dsimp only [mU] at h;split at h
  ·rename_i u p;cases h;subst hp;obtain ⟨y1,ZY,rfl,q1,YV⟩:=ha.cons_inv;obtain ⟨y2,as2,rfl,q2,ZL⟩:=YV.cons_inv;obtain rfl:=ZL.ay;obtain rfl:=VR.ae.1 q1;obtain rfl:=VR.ae.1 q2;exact Nk p w
  ·dsimp only [vu] at h;split at h
   ·rename_i i n p;split at h
    ·rename_i zs e1 z1 x1 m1 hl;cases h;refine (lX hr hl hp.1 ha).mono fun e w' ⟨hB,h⟩=>⟨hB,?_⟩;rcases h with ⟨_,h2⟩ | ⟨h1,_⟩
     ·exact h2
     ·exact absurd hp.2 h1
    ·cases h
   ·cases h
theorem HY {M:Own} {w0:World}:aK xU M w0:=
 aK.uS (Checked.mixed Tryz.checked) (by kernel_rfl) (fk.of iI rfl dK) (dz.list (X:=fun _=>True) (l:=QD) rfl (fun r h=>by
  simp only [QD,V8,Ww,Xc] at h
  rcases h with rfl | rfl
  ·exact pr
  ·exact bh.pure (r:=(80,qy)) CT) fun ν s w hr _=>trivial) (fun f g h=>by cases h)
section
variable {w0:World} {cs0:List Frame} {l0 xs:List ax} {x:ax} {M:Own} {ν:aP}
theorem An (hM:∀ z,¬ M z) (hν:∀ i b,ν i=some b->i=0) (hl:xs.length<=1000):∀ (j i:Nat),i+j=xs.length->∀ (out:List ax),out.length<=i+1->
  af xU M w0 cs0 51 (Ny w0 (out++xs.drop i)) ν (SM.at (mg xs.length x.p (.sl 3 0 out.length none) true i) 6 (lh x (cI l0) (cI xs) (cI out)))
 | 0,i,hj,out,ho=>by
  rw [Xf (by omega),W4]
  refine oI (j:=3) HY hM (n:=100) (o:=ff [0] false) ⟨?_⟩ fun w' y hB hy=>⟨hB,y,rfl,hy⟩
  rw [Q6 (w:=[]) (w2:=[]) (e:=x) (i':=0)]
  simp only [ah,az,VV,VX,VW]
  exact V2 (by omega)
 | j+1,i,hj,out,ho=>by
  have hi:i<xs.length:=by omega
  have ZA:xs[i]?=some xs[i]:=V4 hi
  have t1:decide ((i:Int)<(xs.length:Int))=true:=V0 (by omega)
  have r1:=aJ hi
  have ws:=aU (k:=i) (by omega)
  have ra:=py ZA
  have nx:=An hM hν hl j (i+1) (by omega) (out++[xs[i]]) (by rw [V7];simp;omega)
  rw [Xy,List.singleton_append,<- WQ hi,V7,show ([xs[i]]:List ax).length=1 from rfl] at nx
  refine af.reach HY (k:=2) (n:=100) (o:=(ff [0] true++[(12,.cells (iC xs[i])),(13,.app (cI out) (iC xs[i]))])) (ren:=[(0,0),(1,1),(2,2),(3,5)]) (eqs:=[0,2,3]) ?_ (by kernel_rfl) (fun i b h=>by rw [hν i b h];rfl) nx
  rw [RX (w2:=[])]
  simp only [ah,V5,t1,r1,ra,ws,cC,az,gR,gW,fH,eQ,WM,VV,VX,VW]
  repeat' apply And.intro
  all_goals first | rfl | omega | exact We (by rw [eQ];exact Wx _) | exact bp _ | skip
theorem GQ (hM:∀ z,¬ M z) (hν:∀ i b,ν i=some b->i=0) (hl:xs.length<=1000) (hp:x.p.size<=1000000000) (hs:∀ e∈xs,e.p.size<=1000000000):∀ (j i:Nat),i+j=xs.length->0<i->
  af xU M w0 cs0 51 (Ny w0 (xs.take i++gL x (xs.drop i))) ν (SM.at (mg xs.length x.p (.sl 3 0 (xs.take i).length none) false i) 6 (lh x (cI l0) (cI xs) (cI (xs.take i))))
 | 0,i,hj,h0=>by
  have hlen:(xs.take i).length=i:=by rw [WW];omega
  rw [Xf (by omega),show gL x []=[x] from rfl];refine oI (j:=5) HY hM (n:=100) (o:=(ff [0] false++[(2,.app (cI (xs.take i)) (iC x))])) ⟨?_⟩ fun w' y hB hy=>⟨hB,y,rfl,hy⟩;rw [V7,show ([x]:List ax).length=1 from rfl,UH (w2:=[]) (e:=x) (i':=0)];simp only [ah,cC,az,gR,gW,fH,eQ,hlen,WM,VV,VX,VW];repeat' apply And.intro
  all_goals first | rfl | omega | exact We (by rw [eQ,hlen];exact Wx _) | exact bp _ | exact V2 (by omega) | skip
 | j+1,i,hj,h0=>by
  have hi:i<xs.length:=by omega
  have hlen:(xs.take i).length=i:=by rw [WW];omega
  have ZA:xs[i]?=some xs[i]:=V4 hi;have t1:decide ((i:Int)<(xs.length:Int))=true:=V0 (by omega);have r1:=aJ hi;have ws:=aU (k:=i) (by omega);have ra:=py ZA;have rc:=iP ZA;have z1:=hs _ (WT hi);have hd:=WQ hi;have ht:=Wp hi;by_cases hc:dr xs[i].p x.p>0
  ·have tc:=V0 hc;have nx:=An (w0:=w0) (cs0:=cs0) (x:=x) (l0:=l0) hM hν hl j (i+1) (by omega) (xs.take i++[x]++[xs[i]]) (by rw [V7,V7,hlen];simp)
   have e1:xs.take i++[x]++[xs[i]]++xs.drop (i+1)=xs.take i++gL x (xs.drop i):=by
    rw [hd];unfold gL;rw [if_pos hc];simp
   rw [e1,V7,V7,show ([x]:List ax).length=1 from rfl,show ([xs[i]]:List ax).length=1 from rfl] at nx;refine af.reach HY (k:=2) (n:=100) (o:=(ff [0] true++[(7,.cells [.v (.string xs[i].p)]),(13,.b true),(14,.app (cI (xs.take i)) (iC x)),(16,.cells (iC xs[i])),(17,.app (cI (xs.take i)++iC x) (iC xs[i]))])) (ren:=[(0,0),(1,1),(2,2),(3,7)]) (eqs:=[0,2,3]) ?_ (by kernel_rfl) (fun i b h=>by rw [hν i b h];rfl) nx;rw [show (xs.take i).length+1+1=(xs.take i).length+2 from rfl,TM];simp only [ah,V5,t1,r1,ra,rc,ws,tc,z1,hp,cC,az,gR,gW,fH,eQ,hlen,WM,V7,VV,VX,VW];repeat' apply And.intro
   all_goals first | rfl | omega | exact We (by rw [eQ,hlen];exact Wx _) | exact We (by rw [V7,eQ,hlen,cC];omega) | exact bp _ | skip
  ·have tc:=V2 hc;have nx:=GQ hM hν hl hp hs j (i+1) (by omega) (by omega)
   have e1:xs.take (i+1)++gL x (xs.drop (i+1))=xs.take i++gL x (xs.drop i):=by
    rw [hd,ht];conv=>rhs;unfold gL
    rw [if_neg hc,Xy];rfl
   rw [e1,ht,V7,show ([xs[i]]:List ax).length=1 from rfl] at nx;refine af.reach HY (k:=2) (n:=100) (o:=(ff [0] true++[(7,.cells [.v (.string xs[i].p)]),(13,.b false),(15,.cells (iC xs[i])),(16,.app (cI (xs.take i)) (iC xs[i]))])) (ren:=[(0,0),(1,1),(2,2),(3,5)]) (eqs:=[0,2,3]) ?_ (by kernel_rfl) (fun i b h=>by rw [hν i b h];rfl) nx;rw [TS (w2:=[])];simp only [ah,V5,t1,r1,ra,rc,ws,tc,z1,hp,cC,az,gR,gW,fH,eQ,hlen,WM,VV,VX,VW];repeat' apply And.intro
   all_goals first | rfl | omega | exact We (by rw [eQ,hlen];exact Wx _) | exact bp _ | skip
theorem Mi (hM:∀ z,¬ M z) (hν:∀ i b,ν i=some b->i=0) (hl:xs.length<=1000) (hp:x.p.size<=1000000000) (hs:∀ e∈xs,e.p.size<=1000000000) (h0:0<xs.length):
  af xU M w0 cs0 51 (Ny w0 (gL x xs)) ν (SM.at (mg xs.length x.p bZ false (0:Nat)) 6 (yA x (cI l0) (cI xs))):=by
 have ZA:xs[0]?=some xs[0]:=V4 h0;have t1:decide (((0:Nat):Int)<(xs.length:Int))=true:=V0 (by omega);have r1:=aJ h0;have ws:=aU (k:=0) (by omega);have ra:=py ZA;have rc:=iP ZA;have z1:=hs _ (WT h0);have hd:=WQ h0;rw [Yy] at hd;have ht:=Wp h0;rw [X8,Xo] at ht;by_cases hc:dr xs[0].p x.p>0
 ·have tc:=V0 hc;have nx:=An (w0:=w0) (cs0:=cs0) (x:=x) (l0:=l0) hM hν hl (xs.length - 1) (0+1) (by omega) ([x]++[xs[0]]) (by simp)
  have e1:[x]++[xs[0]]++xs.drop (0+1)=gL x xs:=by
   conv=>rhs;rw [hd]
   unfold gL;rw [if_pos hc];simp
  rw [e1,show (([x]:List ax)++[xs[0]]).length=2 from rfl] at nx;refine af.reach HY (k:=2) (n:=100) (o:=(ff [0] true++[(7,.cells [.v (.string xs[0].p)]),(13,.b true),(16,.cells (iC xs[0]))])) (ren:=[(0,0),(1,1),(2,2),(3,6)]) (eqs:=[0,2,3]) ?_ (by kernel_rfl) (fun i b h=>by rw [hν i b h];rfl) nx;rw [Sc (o:=[]) (w:=[]) (w2:=[]) (r:=0)];simp only [ah,V5,t1,r1,ra,rc,ws,tc,z1,hp,cC,az,gW,fH,VV,VX,VW];repeat' apply And.intro
  all_goals first | rfl | omega | exact bp _ | (simp [bp,WM];done) | skip
 ·have tc:=V2 hc;have nx:=GQ (w0:=w0) (cs0:=cs0) (x:=x) (l0:=l0) hM hν hl hp hs (xs.length - 1) (0+1) (by omega) (by omega)
  have e1:xs.take (0+1)++gL x (xs.drop (0+1))=gL x xs:=by
   rw [ht];conv=>rhs;rw [hd];unfold gL
   rw [if_neg hc];rfl
  rw [e1,ht,show ([xs[0]]:List ax).length=1 from rfl] at nx;refine af.reach HY (k:=2) (n:=100) (o:=(ff [0] true++[(7,.cells [.v (.string xs[0].p)]),(13,.b false),(15,.cells (iC xs[0]))])) (ren:=[(0,0),(1,1),(2,2),(3,4)]) (eqs:=[0,2,3]) ?_ (by kernel_rfl) (fun i b h=>by rw [hν i b h];rfl) nx;rw [Vr (o:=[]) (w:=[]) (w2:=[]) (r:=0)];simp only [ah,V5,t1,r1,ra,rc,ws,tc,z1,hp,cC,az,fH,VV,VX,VW];repeat' apply And.intro
  all_goals first | rfl | omega | exact bp _ | skip
end
def dZ (l:List ax) (x:ax):List ax:=gL x (ch x.p l)
theorem Gd {w:World} {b c:Nat} {l:List ax} {x:ax} {rest:List Value} (hk:x.k≠0) (hh:w.heap[b]?=some (.cells (vI l++rest).toArray 48 (0,0))) (Zb:(vI l++rest).length=c*3) (ZT:l.length<=c) (Y2:l.length<=1000) (hq:x.p.size<=1000000000) (hs:∀ e∈l,e.p.size<=1000000000):
  Calls Tryz.prog 51 #[.slice (some ⟨b,0,none⟩) l.length c,.string x.p,.agg #[.int .i64 x.k,.slice x.a x.l x.c]] w (Ny w (dZ l x)):=by
 have ξ:(x.2==(0:Int))=false:=Wr.2 hk
 have ho:∀ (j:Nat) (o':SO) (b' c':Nat),[SO.row (cI l) 48 (0,0) (some 3)][j]?=some o'->[(b,c)][j]?=some (b',c')->∃ r,w.heap[b']?=some r/\OR (aA [(b,c)]) j o' r:=by
  intro j o' b' c' h1 h2;match j with
  | 0=>
   simp only [Wa,Option.some.injEq] at h1 h2;subst h1;cases h2;exact ⟨_,hh,vI l,rest,rfl,by rw [<- cX];exact au.lits _ _,by rw [<- cX,WH,V7];omega,(b,c),rfl,Zb⟩
  | j+1=>simp at h1
 refine aZ (E:=xU) rfl (d:=6) (l:=[(b,c)]) (os:=[.row (cI l) 48 (0,0) (some 3)]) rfl (by simp) (by simp) ho rfl (args:=[.sl 0 0 l.length none,.v (.string x.p),jC x]) (a:=[.slice (some ⟨b,0,none⟩) l.length c,.string x.p,.agg #[.int .i64 x.k,.slice x.a x.l x.c]]) (S0:=C2 (cI l) l.length x) (by kernel_rfl) (au.cons (VR.aL.2 ⟨(b,c),rfl,ZT,rfl⟩) (au.cons (VR.ae.2 rfl) (au.cons (VR.ae.2 rfl) au.nil))) fun cs0=>?_;have hM:∀ z,¬ (aD [(b,c)] ([SO.row (cI l) 48 (0,0) (some 3)].map fun o=>(o,false))) z:=fun z=>aY (os:=[_]);have hν:∀ i b',aA [(b,c)] i=some b'->i=0:=fun i b' h=>dj h;have hd:(ch x.p l).length<=l.length:=XU _ _;by_cases h0:ch x.p l=[]
 ·unfold dZ;rw [h0,show gL x []=[x] from rfl];refine oI (j:=3) HY hM (n:=100) (o:=VP++ff [0,1] false) ⟨?_⟩ fun w' y hB hy=>⟨hB,y,rfl,hy⟩;rw [show cI [x]=iC x from fH x,show ([x]:List ax).length=1 from rfl,Q3];simp only [ah,aW,h0,ξ,bp,VV,VX,VW];repeat' apply And.intro
  all_goals first | rfl | exact Y2 | exact ⟨rfl,rfl,Y2⟩ | skip
 ·have nx:=Mi (w0:=w) (cs0:=cs0) (l0:=l) (x:=x) hM hν (xs:=ch x.p l) (by omega) hq (fun e he=>hs e (Wo.1 he).1) (Xh.2 h0);refine af.reach HY (k:=2) (n:=100) (o:=VP++ff [0] true++ff [1] false) (ren:=[(0,0),(1,1),(2,2)]) (eqs:=[0,2]) (F:=mg (ch x.p l).length x.p bZ false 0) (d:=6) (l:=yA x (cI l) (cI (ch x.p l))) ?_ (by kernel_rfl) (fun i b h=>by rw [hν i b h];rfl) nx;rw [Rg];simp only [ah,aW,ξ,az,cX,bZ,VV,VX,VW];repeat' apply And.intro
  all_goals first | rfl | exact Y2 | exact h0 | exact ⟨rfl,rfl,Y2⟩ | skip
theorem E8 {w:World} {x:ax} (hk:x.k≠0):Calls Tryz.prog 51 #[.slice none 0 0,.string x.p,.agg #[.int .i64 x.k,.slice x.a x.l x.c]] w (Ny w (dZ [] x)):=by
 have ξ:(x.2==(0:Int))=false:=Wr.2 hk;refine (bP (E:=xU) rfl rfl (args:=[.v (.slice none 0 0),.v (.string x.p),jC x]) (a:=[.slice none 0 0,.string x.p,.agg #[.int .i64 x.k,.slice x.a x.l x.c]]) (S0:=Fi x) (by kernel_rfl) (au.cons (VR.ae.2 rfl) (au.cons (VR.ae.2 rfl) (au.cons (VR.ae.2 rfl) au.nil))) fun cs0=>?_);refine oI (j:=2) HY aE (n:=100) (o:=VP++ff [0,1] false) ⟨?_⟩ fun w' y hB hy=>⟨hB,y,rfl,hy⟩;rw [show dZ [] x=[x] from rfl,show cI [x]=iC x from fH x,show ([x]:List ax).length=1 from rfl,UF];simp only [ah,ξ,bp,VV,VX,VW];rfl
end paths
end Go.Proofs.YtbjmmnegkpeboaaGreatDoor
