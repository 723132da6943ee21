/- What the law TaleLists leans on, part 4: the symbolic executor, proved sound, contracts of functions, plain lemmas. By an AI agent. -/
import Derived.Test.YtbjmmnegkpeboaaGreatDoorPk3
import Derived.Shelf.Bytes.SlClone
import Derived.SizedLaws
import Derived.WalkKit
import Derived.Lib.Hide
import Derived.Laws.Cover1
import Derived.Shelf.SlSortCmp.NoneTotal
import Derived.Shelf.SlIter.Collect
import Derived.Shelf.SlIter.Nil
import Derived.Shelf.Bytes.SlEqualAll
import Derived.Shelf.Slices.CompactS
import Derived.Shelf.Strings.LastIndex
import Derived.Shelf.Strings.Prefix
set_option linter.unusedSimpArgs false
set_option linter.unusedVariables false
set_option maxRecDepth 100000
noncomputable section
namespace Go.Proofs.YtbjmmnegkpeboaaGreatDoor
open Go Go.Rx Go.RowKit Go.Proofs
namespace paths
structure gQ (xs:List ak)(x:ak):Prop where
 p:x.p.size<=1000000000
 v:0<=x.v/\x.v<18446744073709551616
 names:(xs.map fun e=>e.p).Nodup
 size:∀ e∈xs,e.p.size<=1000000000
theorem gv {p:ByteArray}{e:ak}:pI p e=true↔e.p=p:=by
 unfold pI;rw[Xn];constructor
 ·intro h;cases h1:e.p;cases p;rw[h1]at h;congr 1;exact Array.toList_inj.1 h
 ·intro h;rw[h]
theorem Gl {m:List ak}{e:ak}(hn:(m.map fun e=>e.p).Nodup)(h2:2<=m.length):bg e.p m≠[]:=by
 intro h
 have YM:∀ x∈m,x.p=e.p:=fun x hx=>by
  cases hq:pI e.p x
  ·have:x∈bg e.p m:=Wo.2 ⟨hx,by rw[hq];rfl⟩;rw[h]at this;cases this
  ·exact gv.1 hq
 match m,h2,hn,YM with
 | a::b::m,_,hn,YM=>
  have h1:=YM a (by simp);have h3:=YM b (by simp);simp[h1,h3]at hn
theorem Fy {w0:World}{cs0:List Frame}{xs:List ak}{x:ak}{b:Nat × Nat}{s:Int}(hI:gQ xs x)(Yu:xs≠[])(hl:xs.length<=1000):
  af y8 (aD [b] [(.row (cE xs) 50 (0,0) (some 4),false)]) w0 cs0 20 (RP w0 s (.slice (some ⟨b.1,0,none⟩) xs.length b.2) (aY xs x)) (aA [b]) (qE (cE xs) xs.length s x):=by
 have hx1:=hI.p;have hx2:=hI.v.1;have hx3:=hI.v.2;have hh:=wH xs hl;have he:ar (cE xs) xs.length=xs:=eR xs;by_cases hc:cG x.p x.v x.k x.l=0
 ·have c1:(!cG x.1 x.2 x.3 x.5==(0:Int))=false:=by rw[show cG x.1 x.2 x.3 x.5=0 from hc];rfl
  by_cases hv:(fB x.p xs).v≥x.v
  ·have c2:decide ((fB x.p xs).2≥x.2)=true:=V0 hv;have hr:aY xs x=(xs,31):=by unfold aY;rw[if_neg (by simpa using hc),if_pos hv]
   rw[hr];refine sJ FA pY (n:=300) (o:=(VP++ff [1] false++ff (List.range 30) true)) ⟨?_⟩ fun w' hB=>⟨hB,.inl ⟨(by decide:(31:Int)≠0),rfl⟩⟩;rw[TE,he];simp only[ah,c1,c2,VV,VX,VW];exact⟨⟨hx1,hx2,hx3⟩,hh⟩
  ·have c2:decide ((fB x.p xs).2≥x.2)=false:=V2 hv;have hdl:=qd x.p xs;by_cases hm:(bg x.p xs).length≥256
   ·have c3:decide (((bg x.1 xs).length:Int)≥(256:Int))=true:=V0 (by exact_mod_cast hm);have hmn:((bg x.p xs).map fun e=>e.p).Nodup:=hI.names.sublist (List.Sublist.map _ Yi)
    have hr:aY xs x=match ja (bg x.p xs) with
      | none=>(xs,24)
      | some b=>(eK x (bg b.p (bg x.p xs)),0):=by unfold aY;rw[if_neg (by simpa using hc),if_neg hv,if_pos hm]<;>rfl
    have nx:=tN (w0:=w0) (cs0:=cs0) (b:=b) (s:=s) (x:=x) (xs:=xs) (m:=bg x.p xs) hl (by omega) hx1 (fun e he=>hI.size e (Wo.1 he).1) (by omega) (fun e he=>Gl hmn (by omega)) (fun h=>by rw[hr,h]) (fun e h=>by rw[hr,h]) (bg x.p xs).length 0 (-1) (by omega) (.inl ⟨rfl,rfl⟩);refine af.reach FA (k:=3) (n:=300) (o:=(VP++ff [1,3] false++ff [4,5] true)) (ren:=[(0,0),(1,1),(2,2),(3,3),(4,5)]) (eqs:=[0,4]) (F:=pS (bg x.p xs).length (-1) 0) (d:=6) (l:=kf (cE xs) (cE (bg x.p xs)) xs.length s x) ?_ (by kernel_rfl) (fun i b h=>by rw[dj h];rfl) nx;rw[S8,he,eL];simp only[ah,c1,c2,c3,aM,VV,VX,VW];repeat' apply And.intro
    all_goals first|assumption|rfl|(intro h0;rw[h0]at hm;simp at hm;done)|skip
   ·have c3:decide (((bg x.1 xs).length:Int)≥(256:Int))=false:=V2 (by intro h;exact hm (by exact_mod_cast h));have hr:aY xs x=(eK x (bg x.p xs),0):=by unfold aY;rw[if_neg (by simpa using hc),if_neg hv,if_neg hm]
    rw[hr];by_cases hd:bg x.p xs=[]
    ·rw[hd];refine pd (j:=5) (l:=eK x []) (m:=1) FA pY (n:=300) (o:=(VP++ff [1,3,4,5] false)) ⟨?_⟩ fun w' y hB hy=>⟨hB,.inr ⟨rfl,y,rfl,hy⟩⟩;rw[TQ,he];simp only[ah,c1,c2,mW,eL,aM,VV,VX,VW];repeat' apply And.intro
     all_goals first|assumption|rfl|exact WA s|(intro e h;cases h;done)|skip
    ·refine pd (j:=6) (l:=eK x (bg x.p xs)) (m:=(bg x.p xs).length+1) FA pY (n:=300) (o:=(VP++ff [1,3] false++ff [4] true++ff [5] false)) ⟨?_⟩ fun w' y hB hy=>⟨hB,.inr ⟨rfl,y,rfl,by rw[kb];exact hy⟩⟩;rw[SS,he,CM,eL];simp only[ah,c1,c2,c3,mW,eL,aM,VV,VX,VW];repeat' apply And.intro
     all_goals first|assumption|rfl|exact WA s|exact wH _ (by omega)|exact fun z hz=>hI.size z (Wo.1 hz).1|skip
 ·have c1:(!cG x.1 x.2 x.3 x.5==(0:Int))=true:=by simpa using hc
  have hr:aY xs x=(xs,cG x.p x.v x.k x.l):=by unfold aY;rw[if_pos hc]
  rw[hr];refine sJ FA pY (n:=300) (o:=(VP++ff (List.range 3) true)) ⟨?_⟩ fun w' hB=>⟨hB,.inl ⟨hc,rfl⟩⟩;rw[RF];simp only[ah,c1,VV,VX,VW];exact⟨hx1,hx2,hx3⟩
theorem Gy {E:Env}{M:Own}{w0:World}{cs0:List Frame}{f:FuncId}{R:Ending->World->Prop}{ν:aP}{n:Nat}{S:SM}{o:List (Nat × gR)}{v:Value}(K:aK E M w0)(hM:∀ z,¬ M z)
  (h:mX (eh E f n S o [] (.v v))) (hR:∀ w',Below w0.heap.size w0 w'->R (.returned v) w'):af E M w0 cs0 f R ν S:=
 af.eh K hM h.out fun ν' w' y hle hv hB=>by rw[VR.ae.1 hv];exact hR w' hB
theorem DE {w0:World}{cs0:List Frame}{x:ak}{s:Int}(hI:gQ [] x):af MU (aD [] []) w0 cs0 20 (RP w0 s (.slice none 0 0) (aY [] x)) (aA []) (De s x):=by
 have hx1:=hI.p;have hx2:=hI.v.1;have hx3:=hI.v.2;by_cases hc:cG x.p x.v x.k x.l=0
 ·have c1:(!cG x.1 x.2 x.3 x.5==(0:Int))=false:=by rw[show cG x.1 x.2 x.3 x.5=0 from hc];rfl
  have hv:¬ (0:Int)≥x.v:=by
   intro h;have h0:x.v=0:=by omega
   rw[h0]at hc;unfold cG at hc;revert hc;cases fN x.p<;>simp[gX]
  have c2:decide ((0:Int)≥x.2)=false:=V2 hv
  have hr:aY [] x=(eK x [],0):=by
   unfold aY;rw[if_neg (by simpa using hc),if_neg (by exact hv),if_neg (by simp[bg])];rfl
  rw[hr];refine pd (j:=6) (l:=eK x []) (m:=1) QV aE (n:=300) (o:=(VP++ff (List.range 30) false)) ⟨?_⟩ fun w' y hB hy=>⟨hB,.inr ⟨rfl,y,rfl,hy⟩⟩;rw[RY];simp only[ah,c1,c2,mW,eL,aM,VV,VX,VW];repeat' apply And.intro
  all_goals first|assumption|rfl|exact WA s|(intro e h;cases h;done)|skip
 ·have c1:(!cG x.1 x.2 x.3 x.5==(0:Int))=true:=by simpa using hc
  have hr:aY [] x=([],cG x.p x.v x.k x.l):=by unfold aY;rw[if_pos hc]
  rw[hr];refine Gy (v:=bV s (.slice none 0 0) (cG x.p x.v x.k x.l)) QV aE (n:=300) (o:=(VP++ff [1] true)) ⟨?_⟩ fun w' hB=>⟨hB,.inl ⟨hc,rfl⟩⟩;unfold bV;rw[Sf];simp only[ah,c1,VV,VX,VW];exact⟨hx1,hx2,hx3⟩
def xz (B:SV)(sh:SH):Option (Int × List ak × Prop):=match uv B with
 | some [.v (.int .u64 s),A]=>(xH A sh).map fun r=>(s,r.1,r.2)
 | _=>none
def Dg:MY:=fun args sh=>match args with
 | [B,X]=>match zl X,xz B sh with
  | some x,some (s,xs,p)=>some (vE (aY xs x).1,(aY xs x).1.length,4,50,fun a=>.tup [.agg [.v (.int .u64 s),a],.v (.int .i64 0)],fun y=>bV s y 0,p/\gQ xs x/\(aY xs x).2=0)
  | _,_=>none
 | _=>none
def Gu (args:List SV)(sh:SH):Option (SV × Prop):=match args with
 | [B,X]=>match zl X,xz B sh with
  | some x,some (s,xs,p)=>some (.tup [B,.v (.int .i64 (aY xs x).2)],p/\gQ xs x/\(aY xs x).2≠0)
  | _,_=>none
 | _=>none
theorem qw {ν ν':aP}{i j:Nat}{ys:List SV}{e:TypeId}{fz:Nat × Nat}{C:Nat}{ob:Obj}{b:Nat × Nat}(hy:ys.all ab=true)(hi:ν i=some b)(hj:ν' j=some b)(h:OR ν i (.row ys e fz (some C)) ob):OR ν' j (.row ys e fz (some C)) ob:=by
 obtain⟨zs,rest,rfl,hz,r,b',Yy,YX⟩:=h;rw[hi]at Yy;cases Yy;exact⟨zs,rest,rfl,jv hy hz,r,b,hj,YX⟩
theorem vU {ν:aP}{M:Own}{w0 w:World}{sh:SH}(hr:HR ν M w0 sh w){B X:SV}{s:Int}{xs:List ak}{x:ak}{p:Prop}(hx:zl X=some x)(hb:xz B sh=some (s,xs,p))(hp:p)(hI:gQ xs x){a:List Value}(ha:au ν [B,X] a):
  ∃ y0,VR ν B (.agg #[.int .u64 s,y0])/\Calls Tryz.prog 20 a.toArray w (RP w s y0 (aY xs x)):=by
 unfold xz at hb;split at hb
 ·rename_i s' A hA;obtain⟨⟨xs',q⟩,hl,h⟩:=Wg.1 hb;cases h;obtain⟨y1,ZK,rfl,q1,YH⟩:=ha.cons_inv;obtain⟨y2,as2,rfl,q2,Zx⟩:=YH.cons_inv;obtain rfl:=Zx.ay;obtain rfl:=rC hx q2
  have hB:∃ y0,y1=.agg #[.int .u64 s,y0]/\VR ν A y0:=by
   unfold uv at hA;split at hA
   ·rename_i mm;cases hA;obtain⟨u,rfl,hu⟩:=VR.bx.1 q1;obtain⟨z1,u2,rfl,r1,Ξ⟩:=hu.cons_inv;obtain⟨z2,u3,rfl,r2,hu3⟩:=Ξ.cons_inv;obtain rfl:=hu3.ay;obtain rfl:=VR.ae.1 r1;exact⟨z2,rfl,r2⟩
   ·rename_i cs;obtain rfl:=VR.ae.1 q1;have hA:=Option.some.inj hA;match cs,hA with
    | ⟨[c1,c2]⟩,hA=>
     simp at hA;obtain⟨h1,h2⟩:=hA;subst h1 h2;exact⟨c2,rfl,VR.ae.2 rfl⟩
    | ⟨[]⟩,hA=>simp at hA
    | ⟨[_]⟩,hA=>simp at hA
    | ⟨_::_::_::_⟩,hA=>simp at hA
   ·cases hA
  obtain⟨y0,rfl,ζ⟩:=hB;refine⟨y0,q1,?_⟩;rcases uU hl hp with ⟨rfl,rfl⟩|⟨Yu,ZH,i,mk,rfl,hlk⟩
  ·obtain rfl:=VR.ae.1 ζ;exact bP (E:=MU) rfl rfl (args:=[.v (.agg #[.int .u64 s,.slice none 0 0]),.v (.agg #[.string x.p,.int .u64 x.v,.int .i64 x.k,.slice x.a x.l x.c])]) (S0:=De s x) (by kernel_rfl) (au.cons (VR.ae.2 rfl) (au.cons (VR.ae.2 rfl) au.nil)) fun cs0=>DE hI
  ·obtain⟨bb,YZ,hle,rfl⟩:=VR.aL.1 ζ;obtain⟨_,_,b,ob,hb,ho,YA,_⟩:=hr.look hlk;rw[YZ]at hb;cases hb;have Zb:xs'.length<=bb.2:=hle;refine aW (E:=y8) rfl (d:=6) (l:=[bb]) (os:=[.row (cE xs') 50 (0,0) (some 4)]) rfl (by simp) (by simp) ?_ rfl (args:=[.agg [.v (.int .u64 s),.sl 0 0 xs'.length none],.v (.agg #[.string x.p,.int .u64 x.v,.int .i64 x.k,.slice x.a x.l x.c])]) (S0:=qE (cE xs') xs'.length s x) (by kernel_rfl) (au.cons (VR.bx.2 ⟨_,rfl,au.cons (VR.ae.2 rfl) (au.cons (VR.aL.2 ⟨bb,rfl,Zb,rfl⟩) au.nil)⟩) (au.cons (VR.ae.2 rfl) au.nil)) fun cs0=>Fy hI Yu ZH;intro j o' b' c' h1 h2;match j with
   | 0=>
    simp only[Wa,Option.some.injEq]at h1 h2;subst h1;subst h2;exact⟨_,ho,qw (aM xs') YZ rfl YA⟩
   | j+1=>simp at h1
 ·cases hb
theorem IY {X:World->Prop}:bh Tryz.prog X (20,gq (j0 Dg) (lq Gu)):=by
 refine bh.br (mq ⟨_,Tryz.func20,by kernel_rfl,by kernel_rfl⟩ (fun args sh ys n C elem mk mv p h ν x y hv=>?_) fun args sh ys n C elem mk mv p h hp ν M w0 w a hr hX ha=>?_) (mf ⟨_,Tryz.func20,by kernel_rfl,by kernel_rfl⟩ fun args sh v p h hp ν M w0 w a hr hX ha=>?_)
 ·dsimp only[Dg]at h;split at h
  ·split at h
   ·cases h;exact VR.cz.2 ⟨_,rfl,au.cons (VR.bx.2 ⟨_,rfl,au.cons (VR.ae.2 rfl) (au.cons hv au.nil)⟩) (au.cons (VR.ae.2 rfl) au.nil)⟩
   ·cases h
  ·cases h
 ·dsimp only[Dg]at h;split at h
  ·split at h
   ·rename_i x s xs q hx hb;cases h;obtain⟨y0,_,hc⟩:=vU hr hx hb hp.1 hp.2.1 ha;refine hc.mono fun e w' ⟨hB,h⟩=>⟨hB,?_⟩;rcases h with ⟨h1,_⟩|⟨_,y,h2,h3⟩
    ·exact absurd hp.2.2 h1
    ·exact⟨y,h2,h3⟩
   ·cases h
  ·cases h
 ·dsimp only[Gu]at h;split at h
  ·split at h
   ·rename_i x s xs q hx hb;cases h;obtain⟨y0,hv,hc⟩:=vU hr hx hb hp.1 hp.2.1 ha;refine hc.mono fun e w' ⟨hB,h⟩=>⟨hB,?_⟩;rcases h with ⟨_,h2⟩|⟨h1,_⟩
    ·exact⟨_,h2,VR.cz.2 ⟨_,rfl,au.cons hv (au.cons (VR.ae.2 rfl) au.nil)⟩⟩
    ·exact absurd h1 hp.2.2
   ·cases h
  ·cases h
def Ap:Go.Shelf.Ren:=⟨fun|4=>86|n=>n,fun|22=>44|4=>4|5=>5|n=>n,fun|n=>n⟩
theorem Fo:Go.Proofs.SlLaysK.n4 Tryz.prog Ap where
 mixed:=by kernel_rfl
 f4:=Tryz.func86.trans (congrArg some (by kernel_rfl))
 t4:=Tryz.underlying4
 a4:=Tryz.isAgg4
 z4:=Tryz.sizeOf4
 v4:=Tryz.zeroValue4
 t22:=Tryz.underlying44
 a22:=Tryz.isAgg44
 z22:=Tryz.sizeOf44
 v22:=Tryz.zeroValue44
 t5:=Tryz.underlying5
 i5:=by kernel_rfl
def Mv (a0:Option Addr)(l0 c0:Nat)(ys:List Int):H5:=fun args _=>match args with
 | [.v (.slice a l c)]=>some (ys.map (Value.int .u8),l,1,5,none,(a=a0/\l=l0/\c=c0)/\a≠none)
 | _=>none
def Mj:yC:=fun args _=>match args with
 | [.v (.slice a l c)]=>some (.slice none 0 0,a=none)
 | _=>none
def K9 (a0:Option Addr)(l0 c0:Nat)(ys:List Int):List (FuncId × Sum):=[(86,gq (fj (Mv a0 l0 c0 ys)) (de Mj))]
def kx (a0:Option Addr)(l0 c0:Nat)(ys:List Int):Env:={ EP [] [] with YT:=fun f=>(K9 a0 l0 c0 ys).lookup f }
def Ba (x:ak)(ys:List Int):SM:=(a6 (kx x.a x.l x.c ys) 62 [.v (.agg #[.string x.p,.int .u64 x.v,.int .i64 x.k,.slice x.a x.l x.c])] (bG 6 0 0 [])).getD dn
theorem Te (x:ak)(ys:List Int):eh (kx x.a x.l x.c ys) 62 300 (Ba x ys) (VP++ff (List.range 10) false) [] (.v (.agg #[.string x.p,.int .u64 x.v,.int .i64 x.k,.slice none 0 0]))=[Value.agg { toList:=[VS x.1,V1 IntKind.u64 x.2,vZ x.3,VT none 0 0]:Array Value }=Value.agg { toList:=[VS x.1,V1 IntKind.u64 x.2,vZ x.3,VT none 0 0]:Array Value },(x.3==x.3)=true,x.4=none]:=by kernel_rfl
theorem Aa (x:ak)(ys:List Int)(m:List SV):bY (kx x.a x.l x.c ys) 62 300 (Ba x ys) (VP++ff (List.range 10) true) (.agg [.v (.string x.p),.v (.int .u64 x.v),.v (.int .i64 x.k),.sl 4 0 x.l none]) 4 (.row m 5 (0,0) (some 1))=[VS x.1=VS x.1,V1 IntKind.u64 x.2=V1 IntKind.u64 x.2,vZ x.3=vZ x.3,0=0/\x.5=x.5/\nZ=none,List.map SV.v (List.map (V1 IntKind.u8) ys)=m,m.all ab=true,(x.3==x.3)=true,(x.4=x.4/\x.5=x.5/\x.6=x.6)/\x.4≠none]:=by kernel_rfl
def e8 (W:World)(a:Option Addr)(l:Nat)(ys:List Int):Prop:=ys.length=l/\l<=140737488355328/\∀ b,a=some b->∀ i,i<l->∀ W':World,(∀ k,k<W.heap.size->W'.heap[k]?=W.heap[k]?)->W'.cell? (b.add i)=some (.int .u8 (ys.getD i 0))
theorem Eo {W:World}{a0:Option Addr}{l0 c0:Nat}{ys:List Int}(hD:e8 W a0 l0 ys):
  bh Tryz.prog (fun w=>∀ k,k<W.heap.size->w.heap[k]?=W.heap[k]?) (86,gq (fj (Mv a0 l0 c0 ys)) (de Mj)):=by
 refine bh.br (gJ ⟨_,Tryz.func86,by kernel_rfl,by kernel_rfl⟩ fun args sh zs n C elem ex p h hp ν M w0 w a hr hX ha=>?_) (dO ⟨_,Tryz.func86,by kernel_rfl,by kernel_rfl⟩ fun args sh v p h hp ν M w0 w a hr hX ha=>?_)
 ·dsimp only[Mv]at h;split at h
  ·rename_i a1 l1 c1;cases h;obtain⟨⟨rfl,rfl,rfl⟩,Yu⟩:=hp;obtain⟨y1,ZK,rfl,q1,YH⟩:=ha.cons_inv;obtain rfl:=YH.ay;obtain rfl:=VR.ae.1 q1;cases a1 with
   | none=>exact absurd rfl Yu
   | some b=>
    obtain⟨h1,h2,h3⟩:=hD;refine (Any.bytes_Clone_at Fo b n c1 ys w h1 h2 fun i hi=>h3 b rfl i hi w hX).mono fun e w' ⟨v',he,⟨hlen,ho⟩,hv,hB⟩=>⟨hB,v',he,?_⟩;rcases ho with ⟨h0,_⟩|⟨g,cap,cur,rfl,hg,hh,υ,_,YX,hcur⟩
    ·exact absurd h0 hv
    ·refine⟨g,cap,cur.toList.drop n,rfl,hg,υ,?_,?_⟩
     ·rw[hh,<- hcur,XJ,Xh];rfl
     ·rw[<- hcur,XJ,Xh];simpa using YX
  ·cases h
 ·dsimp only[Mj]at h;split at h
  ·rename_i a1 l1 c1;cases h;subst hp;obtain⟨y1,ZK,rfl,q1,YH⟩:=ha.cons_inv;obtain rfl:=YH.ay;obtain rfl:=VR.ae.1 q1;exact (Any.bytes_Clone_nil Fo l1 c1 w).mono fun e w' ⟨he,hw⟩=>⟨by rw[hw];exact Below.refl _ _,he⟩
  ·cases h
theorem Au {M:Own}{w0:World}(hM:∀ z,¬ M z){x:ak}{ys:List Int}(hD:e8 w0 x.a x.l ys):aK (kx x.a x.l x.c ys) M w0:=
 aK.uG (Checked.mixed Tryz.checked) (by kernel_rfl) (fh.of iJ rfl dK) (dy.list (X:=fun w=>∀ k,k<w0.heap.size->w.heap[k]?=w0.heap[k]?) (l:=K9 x.a x.l x.c ys) rfl (fun r h=>by
  simp only[K9,V8,Ww,Xc]at h
  rcases h with rfl
  exact Eo hD) fun ν s w hr _=>fun k hk=>hr.frame k hk (hM k)) (fun f g h=>by cases h)
theorem r7 {ν:aP}{ys:List Int}{zs:List Value}(h:au ν (List.map SV.v (List.map (Value.int .u8) ys)) zs):zs=ys.map (Value.int .u8):=gi h (au.lits ν _)
theorem bJ (ys:List Int):(List.map SV.v (List.map (Value.int .u8) ys)).all ab=true:=by
 rw[Wn];intro x hx;obtain⟨v,_,rfl⟩:=Wb.1 hx;rfl
def I3 (w0 w':World)(x:ak)(ys:List Int)(a:Option Addr)(c:Nat)(l:Nat):Prop:=
 (x.a=none/\a=none/\l=0/\c=0)\/(x.a≠none/\l=x.l/\∃ b,a=some ⟨b,0,none⟩/\cF w0 w' (.slice (some ⟨b,0,none⟩) x.l c) (ys.map (Value.int .u8)) x.l 1 5)
theorem qH {w:World}{x:ak}{ys:List Int}(hD:e8 w x.a x.l ys):Calls Tryz.prog 62 #[.agg (eV x).toArray] w fun e w'=>Below w.heap.size w w'/\∃ a c l,e=.returned (.agg #[.string x.p,.int .u64 x.v,.int .i64 x.k,.slice a l c])/\I3 w w' x ys a c l:=by
 refine bP (E:=kx x.a x.l x.c ys) rfl rfl (args:=[.v (.agg #[.string x.p,.int .u64 x.v,.int .i64 x.k,.slice x.a x.l x.c])]) (a:=[.agg (eV x).toArray]) (S0:=Ba x ys) (by kernel_rfl) (au.cons (VR.ae.2 rfl) au.nil) fun cs0=>?_;by_cases ha:x.a=none
 ·refine Gy (v:=.agg #[.string x.p,.int .u64 x.v,.int .i64 x.k,.slice none 0 0]) (Au aE hD) aE (n:=300) (o:=(VP++ff (List.range 10) false)) ⟨?_⟩ fun w' hB=>⟨hB,none,0,0,rfl,.inl ⟨ha,rfl,rfl,rfl⟩⟩;rw[Te];simp only[ah,VV,VX,VW];exact⟨ha,WA x.k⟩
 ·refine af.bY (Au aE hD) (n:=300) (o:=(VP++ff (List.range 10) true)) (x:=.agg [.v (.string x.p),.v (.int .u64 x.v),.v (.int .i64 x.k),.sl 4 0 x.l none]) (i:=4) (so:=.row (List.map SV.v (List.map (Value.int .u8) ys)) 5 (0,0) (some 1)) (by
   rw[Aa];simp only[ah,bJ,VV,VX,VW];exact⟨ha,WA x.k⟩) fun ν' w' y b ob hv hb ho YA hw hB=>?_
  have hn:w.heap.size<=b.1:=by
   rcases hw with h|h
   ·exact h
   ·exact absurd h (aE _)
  obtain⟨_,_,_,_,hB,hr⟩:=hB;obtain⟨a,rfl,ha1⟩:=VR.bx.1 hv;obtain⟨y1,a1,rfl,q1,YH⟩:=ha1.cons_inv;obtain⟨y2,a2,rfl,q2,Zx⟩:=YH.cons_inv;obtain⟨y3,a3,rfl,q3,ha4⟩:=Zx.cons_inv;obtain⟨y4,a4,rfl,q4,ha5⟩:=ha4.cons_inv;obtain rfl:=ha5.ay;obtain rfl:=VR.ae.1 q1;obtain rfl:=VR.ae.1 q2;obtain rfl:=VR.ae.1 q3;have hs:=cF.gb q4 hb ho YA hn fun zs hz=>r7 hz;have hs2:=hs;obtain⟨g,c,rest,rfl,_⟩:=hs2;exact⟨aB aE hB hr,_,_,_,rfl,.inr ⟨ha,rfl,g,rfl,hs⟩⟩
abbrev Key:=ByteArray × Int × Int × List Int
def KE (c:ak->List Int)(e:ak):Key:=(e.p,e.v,e.k,c e)
def KM (c:ak->List Int)(e:bH):Key:=KE c e.1
def yJ (p:ByteArray)(K:List Key):List Key:=K.filter fun k=>!(k.1.data.toList==p.data.toList)
def Sorted (xs:List ak):Prop:=xs.Pairwise fun a b=>dp a.p b.p<0
theorem zu {ys:ak->List Int}(p:ByteArray)(xs:List ak):(bg p xs).map (KE ys)=yJ p (xs.map (KE ys)):=by
 unfold bg yJ;rw[List.filter_map];rfl
theorem ke {p:ByteArray}{e:ak}:pI p e=false↔e.p≠p:=by
 rw[<- Bool.not_eq_true,gv]
theorem jk (a:ByteArray):dp a a=0:=by have:=fy a a;omega
theorem Sorted.names {xs:List ak}(h:Sorted xs):(xs.map fun e=>e.p).Nodup:=by
 unfold Sorted at h;rw[List.nodup_iff_pairwise_ne,Ym];exact h.imp fun {a b} hab e=>by rw[e,jk]at hab;exact absurd hab (by decide)
structure Inv (cm ys:ak->List Int)(E:List bH)(cl:Nat)(xs:List ak):Prop where
 ok:c8 E cl
 ZB:(E.map (KM cm)).Perm (xs.map (KE ys))
 sorted:Sorted xs
 YO:xs.length<=256
section
variable {E:List bH}{cl:Nat}{xs:List ak}{x:ak}{cm ys:ak->List Int}
theorem Inv.len (h:Inv cm ys E cl xs):E.length=xs.length:=by simpa using h.ZB.length_eq
theorem Inv.to (h:Inv cm ys E cl xs){e:ak}(he:e∈xs):∃ f∈E,KM cm f=KE ys e:=by
 have:=h.ZB.mem_iff.2 (Wb.2 ⟨e,he,rfl⟩);exact Wb.1 this
theorem Inv.of (h:Inv cm ys E cl xs){f:bH}(hf:f∈E):∃ e∈xs,KE ys e=KM cm f:=by
 have:=h.ZB.mem_iff.1 (Wb.2 ⟨f,hf,rfl⟩);exact Wb.1 this
theorem l9 {f:bH}{e:ak}(h:KM cm f=KE ys e):f.1.p=e.p/\f.1.v=e.v/\f.1.k=e.k:=by
 simp only[KM,KE,Prod.mk.injEq]at h;exact⟨h.1,h.2.1,h.2.2.1⟩
theorem Inv.cont {cm':ak->List Int}(h:Inv cm ys E cl xs)(hc:∀ e∈E,cm e.1=cm' e.1):Inv cm' ys E cl xs:=
 ⟨h.ok,by
  have:E.map (KM cm')=E.map (KM cm):=XB fun e he=>by unfold KM KE;rw[hc e he]
  rw[this];exact h.ZB,h.sorted,h.YO⟩
theorem Inv.size (h:Inv cm ys E cl xs):∀ e∈xs,e.p.size<=1000000000:=fun e he=>by
 obtain⟨f,hf,hk⟩:=h.to he
 rw[<- (l9 hk).1];exact h.ok.size f hf
theorem Ew (hB:c8 E cl){f g:bH}(hf:f∈E)(hg:g∈E)(h:f.1.p=g.1.p):f=g:=by
 obtain⟨i,hi⟩:=WZ hf;obtain⟨j,hj⟩:=WZ hg;have:=ib hB.names hi hj h;subst this;rw[hi]at hj;exact Option.some.inj hj
theorem Inv.pG (h:Inv cm ys E cl xs){f:bH}(hf:f∈E)(hp:f.1.p=x.p):(fB x.p xs).v=f.1.v/\(bg x.p xs).length<xs.length:=by
 obtain⟨e,he,hk⟩:=h.of hf;have he2:pI x.p e=true:=gv.2 (by rw[<- hp];exact (l9 hk.symm).1.symm);constructor
 ·unfold fB;cases hq:xs.find? (pI x.p) with
  | none=>rw[WY]at hq;exact absurd he2 (hq e he)
  | some e'=>
   have h1:=WV hq;have h2:=gv.1 (Xp hq);obtain⟨f',hf',hk'⟩:=h.to h1;have:f'=f:=Ew h.ok hf' hf (by rw[(l9 hk').1,h2,hp]);show e'.v=_;rw[<- this];exact (l9 hk').2.1.symm
 ·refine Xu.2 ⟨e,he,by rw[he2];simp⟩
theorem Inv.cr (h:Inv cm ys E cl xs)(hm:∀ f∈E,f.1.p≠x.p):∀ e∈xs,e.p≠x.p:=fun e he=>by
 obtain⟨f,hf,hk⟩:=h.to he
 rw[<- (l9 hk).1];exact hm f hf
theorem DT {p:ByteArray}(hm:∀ e∈xs,e.p≠p):fB p xs=⟨p,0,0,none,0,0⟩/\bg p xs=xs:=by
 constructor
 ·unfold fB;rw[WY.2 fun e he=>by rw[ke.2 (hm e he)];simp];rfl
 ·exact XN.2 fun e he=>by rw[ke.2 (hm e he)];rfl
theorem j9 (x:ak):∀ l:List ak,(eK x l).Perm (x::l)
 | []=>List.Perm.refl _
 | e::l=>by
  unfold eK
  split
  ·exact List.Perm.refl _
  ·exact ((j9 x l).cons e).trans (List.Perm.swap x e l)
theorem qC:∀ {l:List ak},Sorted l->(∀ e∈l,e.p≠x.p)->Sorted (eK x l)
 | [],_,_=>by simp[eK,Sorted]
 | e::l,h,hx=>by
  unfold Sorted at h
  rw[W2]at h
  unfold eK
  split
  ·rename_i hc
   have h0:dp x.p e.p<0:=by rw[fy];omega
   unfold Sorted
   rw[W2,W2]
   refine⟨fun b hb=>?_,h⟩
   rcases V8.1 hb with rfl|hb
   ·exact h0
   ·exact h8 h0 (h.1 b hb)
  ·rename_i hc
   have h1:dp e.p x.p≠0:=fun h0=>hx e Wj (h9 h0)
   unfold Sorted
   rw[W2]
   refine⟨fun b hb=>?_,qC h.2 fun z hz=>hx z (Wc _ hz)⟩
   rcases V8.1 ((j9 x l).mem_iff.1 hb) with rfl|hb
   ·omega
   ·exact h.1 b hb
theorem Sorted.drop (h:Sorted xs)(p:ByteArray):Sorted (bg p xs):=List.Pairwise.sublist Yi h
theorem Inv.new {E':List bH}{cl':Nat}{L:List ak}(hB:c8 E' cl')(ht:(E'.map (KM cm)).Perm (KE ys x::L.map (KE ys)))(hs:Sorted L)(hx:∀ e∈L,e.p≠x.p)(hl:L.length<256):Inv cm ys E' cl' (eK x L):=
 ⟨hB,ht.trans (((j9 x L).map (KE ys)).symm),qC hs hx,by rw[kb];omega⟩
theorem It {p:ByteArray}:∀ e∈bg p xs,e.p≠p:=fun e he=>by
 have:=(Wo.1 he).2
 exact ke.1 (by simpa using this)
theorem nF (hs:Sorted xs):∀ i,i<=xs.length->match ja (xs.take i) with
  | none=>∀ y∈xs.take i,y.k≠0
  | some e=>e∈xs.take i/\e.k=0/\∀ y∈xs.take i,y.k=0->¬ (e.v>y.v\/(e.v=y.v/\dp y.p e.p<0))
 | 0,_=>by
  rw[X7]
  show ∀ y∈[],_
  intro y hy;cases hy
 | i+1,hi=>by
  have ih:=nF hs i (by omega)
  have YD:i<xs.length:=by omega
  rw[tj YD]
  have ht:=Wp YD
  have hbef:∀ y∈xs.take i,dp y.p xs[i].p<0:=fun y hy=>by
   have Yv:Sorted (xs.take (i+1)):=List.Pairwise.sublist (List.take_sublist _ _) hs
   rw[ht]at Yv
   exact (List.pairwise_append.1 Yv).2.2 y hy _ (by simp)
  have Z6:∀ y,y∈xs.take (i+1)↔y∈xs.take i\/y=xs[i]:=fun y=>by rw[ht,WJ,Wl]
  unfold oI
  by_cases hk:xs[i].k=0
  ·rw[if_pos hk]
   cases hb:ja (xs.take i) with
   | none=>
    rw[hb]at ih
    refine⟨(Z6 _).2 (.inr rfl),hk,fun y hy ζ=>?_⟩
    rcases (Z6 y).1 hy with h|h
    ·exact absurd ζ (ih y h)
    ·rw[h];rintro (h|⟨_,h⟩)
     ·omega
     ·rw[jk]at h;omega
   | some f=>
    rw[hb]at ih
    obtain⟨h1,h2,h3⟩:=ih
    by_cases hv:xs[i].v<f.v
    ·dsimp only
     rw[if_pos hv]
     refine⟨(Z6 _).2 (.inr rfl),hk,fun y hy ζ=>?_⟩
     rcases (Z6 y).1 hy with h|h
     ·have:=h3 y h ζ
      rintro (h|⟨h,_⟩)
      ·exact this (.inl (by omega))
      ·exact this (.inl (by omega))
     ·rw[h];rintro (h|⟨_,h⟩)
      ·omega
      ·rw[jk]at h;omega
    ·dsimp only
     rw[if_neg hv]
     refine⟨(Z6 _).2 (.inl h1),h2,fun y hy ζ=>?_⟩
     rcases (Z6 y).1 hy with h|h
     ·exact h3 y h ζ
     ·rw[h]
      have hc:=hbef f h1
      have hn:=fy f.p xs[i].p
      rintro (h|⟨_,h⟩)
      ·exact hv h
      ·omega
  ·rw[if_neg hk]
   cases hb:ja (xs.take i) with
   | none=>
    rw[hb]at ih
    intro y hy
    rcases (Z6 y).1 hy with h|h
    ·exact ih y h
    ·rw[h];exact hk
   | some f=>
    rw[hb]at ih
    obtain⟨h1,h2,h3⟩:=ih
    refine⟨(Z6 _).2 (.inl h1),h2,fun y hy ζ=>?_⟩
    rcases (Z6 y).1 hy with h|h
    ·exact h3 y h ζ
    ·rw[h]at ζ;exact absurd ζ hk
theorem Inv.Dr (h:Inv cm ys E cl xs)(hb:ja xs=none):ix E ⟨#[]⟩:=by
 have hs:=nF h.sorted xs.length (Wx _);rw[XC,hb]at hs;refine .inl ⟨rfl,fun f hf=>?_⟩;obtain⟨e,he,hk⟩:=h.of hf;rw[(l9 hk.symm).2.2];exact hs e he
theorem Inv.Ex (h:Inv cm ys E cl xs){e:ak}(hb:ja xs=some e):ix E e.p/\e∈xs:=by
 have hs:=nF h.sorted xs.length (Wx _);rw[XC,hb]at hs;obtain⟨h1,h2,h3⟩:=hs;obtain⟨f,hf,hk⟩:=h.to h1;refine⟨.inr ⟨f,hf,(l9 hk).1,by rw[(l9 hk).2.2];exact h2,fun g hg hg0 hbt=>?_⟩,h1⟩;obtain⟨y,hy,Zy⟩:=h.of hg;have Zy:=l9 Zy.symm;have hk:=l9 hk;refine h3 y hy (by rw[<- Zy.2.2];exact hg0) ?_;unfold oF at hbt;rw[hk.1,hk.2.1,Zy.1,Zy.2.1]at hbt;exact hbt
theorem jO {α:Type}{g:α->α}:∀ {l:List α} {j:Nat} {f:α},l[j]?=some f->(l.modify j g).Perm (g f::l.eraseIdx j)
 | [],j,f,h=>by simp at h
 | a::l,0,f,h=>by
  simp at h;subst h
  simp
 | a::l,j+1,f,h=>by
  have ih:=jO (g:=g) (l:=l) (j:=j) (f:=f) (by simpa using h)
  simp only[List.modify_succ_cons,List.eraseIdx_cons_succ]
  exact (ih.cons a).trans (List.Perm.swap _ _ _)
theorem nV:∀ {E:List bH} {j:Nat} {f:bH},(E.map fun e=>e.1.p).Nodup->E[j]?=some f->(E.eraseIdx j).map (KM cm)=yJ f.1.p (E.map (KM cm))
 | [],j,f,_,h=>by simp at h
 | a::l,0,f,hn,h=>by
  simp at h;subst h
  rw[WC,W3]at hn
  unfold yJ
  rw[List.eraseIdx_cons_zero,WC,X5 (by simp[KM,KE])]
  refine (XN.2 fun k hk=>?_).symm
  obtain⟨g,hg,rfl⟩:=Wb.1 hk
  have:g.1.p≠a.1.p:=fun e=>hn.1 (Wb.2 ⟨g,hg,e⟩)
  have:=ke.2 this
  unfold pI at this
  show (!(g.1.p.data.toList==a.1.p.data.toList))=true
  rw[this];rfl
 | a::l,j+1,f,hn,h=>by
  rw[WC,W3]at hn
  have hf:l[j]?=some f:=by simpa using h
  have ih:=nV hn.2 hf
  have Zj:=Xi hf
  have:a.1.p≠f.1.p:=fun e=>hn.1 (Wb.2 ⟨f,Zj,e.symm⟩)
  have:=ke.2 this
  unfold pI at this
  unfold yJ at ih ⊢
  rw[List.eraseIdx_cons_succ,WC,WC,ih,X4 (by show (!(a.1.p.data.toList==f.1.p.data.toList))=true;rw[this];rfl)]
theorem c8.sub {E':List bH}(h:c8 E cl)(hs:E'.Sublist E):c8 E' cl:=
 ⟨h.names.sublist (hs.map _),h.Zi.sublist (hs.map _),fun e he=>h.born e (hs.mem he),fun e he=>h.full e (hs.mem he),fun e he=>h.size e (hs.mem he)⟩
theorem c8.snoc (h:c8 E cl){y:ak}(hm:∀ e∈E,e.1.p≠y.p)(hf:y.p≠⟨#[]⟩)(hz:y.p.size<=1000000000):c8 (E++[(y,cl)]) (cl+1):=by
 refine⟨?_,?_,fun e he=>?_,fun e he=>?_,fun e he=>?_⟩
 ·rw[Wq,Xy];refine⟨h.names,by simp,fun a ha b hb=>?_⟩;obtain⟨e,he,rfl⟩:=Wb.1 ha;have:b=y.p:=by simpa using hb
  rw[this];exact hm e he
 ·rw[Wq,Xy];refine⟨h.Zi,by simp,fun a ha b hb=>?_⟩;obtain⟨e,he,rfl⟩:=Wb.1 ha;have:b=cl:=by simpa using hb
  have:=h.born e he;omega
 ·rcases WJ.1 he with he|he
  ·have:=h.born e he;omega
  ·have:e=(y,cl):=by simpa using he
   subst this;show cl<cl+1;omega
 ·rcases WJ.1 he with he|he
  ·exact h.full e he
  ·have:e=(y,cl):=by simpa using he
   subst this;exact hf
 ·rcases WJ.1 he with he|he
  ·exact h.size e he
  ·have:e=(y,cl):=by simpa using he
   subst this;exact hz
theorem jq {α β:Type}{h:α->β}{g:α->α}:∀ {l:List α} {j:Nat} {f:α},l[j]?=some f->h (g f)=h f->(l.modify j g).map h=l.map h
 | [],j,f,e,_=>by simp at e
 | a::l,0,f,e,k=>by simp at e;subst e;simp[k]
 | a::l,j+1,f,e,k=>by simp[jq (l:=l) (j:=j) (f:=f) (by simpa using e) k]
theorem eU {α:Type}{g:α->α}{l:List α}{j:Nat}{f e:α}(h:l[j]?=some f)(he:e∈l.modify j g):e=g f\/e∈l:=by
 rcases V8.1 ((jO h).mem_iff.1 he) with h|h
 ·exact .inl h
 ·exact .inr (XZ h)
theorem c8.mod (h:c8 E cl){j:Nat}{f:bH}{y:ak}(hf:E[j]?=some f)(hp:y.p=f.1.p):c8 (E.modify j fun e=>(y,e.2)) cl:=by
 have Zj:=Xi hf;refine⟨?_,?_,fun e he=>?_,fun e he=>?_,fun e he=>?_⟩
 ·rw[jq hf (by exact hp)];exact h.names
 ·rw[jq hf (by rfl)];exact h.Zi
 ·rcases eU hf he with rfl|he
  ·exact h.born f Zj
  ·exact h.born e he
 ·rcases eU hf he with rfl|he
  ·show y.p≠_;rw[hp];exact h.full f Zj
  ·exact h.full e he
 ·rcases eU hf he with rfl|he
  ·show y.p.size<=_;rw[hp];exact h.size f Zj
  ·exact h.size e he
end
def IK (D:List ak)(ys:ak->List Int):MY:=fun args _=>match args with
 | [X]=>match zl X with
  | some x=>some ((ys x).map (Value.int .u8),x.l,1,5,fun a=>.agg [.v (.string x.p),.v (.int .u64 x.v),.v (.int .i64 x.k),a],fun a=>.agg #[.string x.p,.int .u64 x.v,.int .i64 x.k,a],x∈D/\x.a≠none)
  | none=>none
 | _=>none
def L6 (D:List ak)(args:List SV)(_:SH):Option (SV × Prop):=match args with
 | [X]=>match zl X with
  | some x=>some (.agg [.v (.string x.p),.v (.int .u64 x.v),.v (.int .i64 x.k),.v (.slice none 0 0)],x∈D/\x.a=none)
  | none=>none
 | _=>none
def PK (D:List ak)(ys:ak->List Int):List (FuncId × Sum):=[(20,gq (j0 Dg) (lq Gu)),(58,cq j1),(61,de Am),(62,gq (j0 (IK D ys)) (lq (L6 D)))]
def na (D:List ak)(ys:ak->List Int):Env:={ EP [] [] with YT:=fun f=>(PK D ys).lookup f }
def F9 (D:List ak)(ys:ak->List Int)(l:List SV)(off n c:Nat):SM:=(a6 (na D ys) 8 [.sl 0 off n (some c)] (bG 6 1 0 [cv l])).getD dn
def Lu:List SI:=dA (na [] fun _=>[]) 2 60 (F9 [] (fun _=>[]) [] 0 0 0) VP
def fO (off n c:Nat)(i:Int):SF:={ fn:=8,tm:=e9 38 6 ([.aH,.aH,.aH,.ptr 1 0,.aH,.ptr 2 0,.ptr 3 0]++List.replicate 9 .aH++[.sl 0 off n (some c),.v (.int .i64 n),.v (.int .i64 i)]++List.replicate 19 .aH),todo:=Lu,defers:=[],ret:=false,kind:=.normal,ro:=none }
def OX:Option (SO × Bool):=some (.row [.v (.int .u64 0),.v (.map none)] 66 (0,0) none,true)
def Ut:Option (SO × Bool):=some (.row [.v (.int .u64 0),.map 4] 66 (0,0) none,true)
def Tx (k:Nat):Option (SO × Bool):=some (.row [.v (.int .u64 0),.sl 5 0 k none] 34 (0,0) none,true)
def uM (l:List SV):List (Option (SO × Bool)):=[cv l,OU,OX,OU]
def LS (es:VQ)(cl:Nat):Option (SO × Bool):=some (.map es cl,true)
def iQ (l:List SV)(es:VQ)(cl:Nat)(m:List SV)(k:Nat):List (Option (SO × Bool)):=[cv l,OU,Ut,Tx k,LS es cl,fx m]
theorem Q2 (D:List ak)(ys:ak->List Int)(l:List SV)(off n c:Nat):reach (na D ys) 2 60 (F9 D ys l off n c) VP [(0,0),(1,1),(2,2),(3,3)] [0] (fO off n c 0) 6 (uM l)=[0=0,0=0,0=0,off=off/\n=n/\some c=some c,vZ (↑n:Int)=vZ (↑n:Int),vZ 0=vZ 0,l=l,l.all ab=true,V1 IntKind.u64 0=V1 IntKind.u64 0,VT none 0 0=VT none 0 0,V1 IntKind.u64 0=V1 IntKind.u64 0,Value.map none=Value.map none,V1 IntKind.u64 0=V1 IntKind.u64 0,VT none 0 0=VT none 0 0]:=by kernel_rfl
theorem R6 (D:List ak)(ys:ak->List Int)(l:List SV)(off n c:Nat)(x:ak)(i i':Int):reach (na D ys) 2 300 (SM.at (fO off n c i) 6 (uM l)) (ff [0] true++[(2,.cells (eC x))]++ff [3] false++ff [6] true++ff [7] false) [(0,0),(1,1),(2,2),(3,3)] [0] (fO off n c i') 6 (uM l)=[0=0,0=0,0=0,off=off/\n=n/\some c=some c,vZ (↑n:Int)=vZ (↑n:Int),vZ (IntKind.i64.wrap (i+1))=vZ i',l=l,l.all ab=true,V1 IntKind.u64 0=V1 IntKind.u64 0,VT none 0 0=VT none 0 0,V1 IntKind.u64 0=V1 IntKind.u64 0,Value.map none=Value.map none,V1 IntKind.u64 0=V1 IntKind.u64 0,VT none 0 0=VT none 0 0,(!cG x.1 x.2 x.3 x.5==(aY ([],True).fst x).2)=false,(!cG x.1 x.2 x.3 x.5==0)=true,x.1.size<=1000000000/\0<=x.2/\x.2<18446744073709551616,True/\gQ [] x/\(aY ([],True).fst x).2≠0,List.take 4 (List.drop (off+i.toNat*4) l)=eC x/\(eC x).length=4,ai i n=true,decide (i<(↑n:Int))=true]:=by kernel_rfl
theorem Rz (D:List ak)(ys:ak->List Int)(l:List SV)(off n c:Nat)(x:ak)(i i':Int)(es':VQ)(cl' k:Nat)(m:List SV)(q:List SV)(b:Nat × Nat):fw (na D ys) 2 400 (SM.at (fO off n c i) 6 (uM l)) (ff [0] true++[(2,.cells (eC x))]++ff [3] true++ff [6] false++ff [23] true) [(0,0),(1,1),(2,2),(3,3),(4,10),(5,5)] [0,4,5] (fO off n c i') 6 (iQ l es' cl' m k) 10 11 (.row q 5 (0,0) (some 1)) b=[List.map SV.v (List.map (V1 IntKind.u8) (ys x))=q,q.all ab=true,0=0,0=0,0=0,off=off/\n=n/\some c=some c,vZ (↑n:Int)=vZ (↑n:Int),vZ (IntKind.i64.wrap (i+1))=vZ i',l=l,l.all ab=true,V1 IntKind.u64 0=V1 IntKind.u64 0,VT none 0 0=VT none 0 0,V1 IntKind.u64 0=V1 IntKind.u64 0,V1 IntKind.u64 0=V1 IntKind.u64 0,0=0/\(aY ([],True).fst x).1.length=k/\nZ=none,1=cl',dJ 11 b ([]++[(SV.v (VS x.p),VZ [SV.v (VS x.p),SV.v (V1 IntKind.u64 x.v),SV.v (vZ x.k),SV.sl 11 0 x.l none],0)])=es',(es'.all fun e=>aw e.fst&&aw e.snd.fst)=true,List.map SV.v (vE (aY ([],True).fst x).1)=m,m.all ab=true,(x.1==x.1)=true,List.Mem x D/\x.4≠none,(!cG x.1 x.2 x.3 x.5==0)=false,x.1.size<=1000000000/\0<=x.2/\x.2<18446744073709551616,True/\gQ [] x/\(aY ([],True).fst x).2=0,List.take 4 (List.drop (off+i.toNat*4) l)=eC x/\(eC x).length=4,ai i n=true,decide (i<(↑n:Int))=true]:=by kernel_rfl
theorem SG (D:List ak)(ys:ak->List Int)(l:List SV)(off n c:Nat)(x:ak)(i i':Int)(es':VQ)(cl' k:Nat)(m:List SV):reach (na D ys) 2 400 (SM.at (fO off n c i) 6 (uM l)) (ff [0] true++[(2,.cells (eC x))]++ff [3] true++ff [6] false++ff [23] false) [(0,0),(1,1),(2,2),(3,3),(4,10),(5,5)] [0,4,5] (fO off n c i') 6 (iQ l es' cl' m k)=[0=0,0=0,0=0,off=off/\n=n/\some c=some c,vZ (↑n:Int)=vZ (↑n:Int),vZ (IntKind.i64.wrap (i+1))=vZ i',l=l,l.all ab=true,V1 IntKind.u64 0=V1 IntKind.u64 0,VT none 0 0=VT none 0 0,V1 IntKind.u64 0=V1 IntKind.u64 0,V1 IntKind.u64 0=V1 IntKind.u64 0,0=0/\(aY ([],True).fst x).1.length=k/\nZ=none,1=cl',([]++[(SV.v (VS x.p),VZ [SV.v (VS x.p),SV.v (V1 IntKind.u64 x.v),SV.v (vZ x.k),SV.v (VT none 0 0)],0)])=es',(es'.all fun e=>aw e.fst&&aw e.snd.fst)=true,List.map SV.v (vE (aY ([],True).fst x).1)=m,m.all ab=true,(x.1==x.1)=true,List.Mem x D/\x.4=none,(!cG x.1 x.2 x.3 x.5==0)=false,x.1.size<=1000000000/\0<=x.2/\x.2<18446744073709551616,True/\gQ [] x/\(aY ([],True).fst x).2=0,List.take 4 (List.drop (off+i.toNat*4) l)=eC x/\(eC x).length=4,ai i n=true,decide (i<(↑n:Int))=true]:=by kernel_rfl
theorem Tf (D:List ak)(ys:ak->List Int)(l m m':List SV)(off n c k k' j:Nat)(x f g:ak)(i i':Int)(es es':VQ)(cl cl' born:Nat):reach (na D ys) 2 400 (SM.at (fO off n c i) 6 (iQ l es cl m k)) (ff [0] true++[(2,.cells (eC x))]++ff [3] false++ff [6] true++ff [7] false) [(0,0),(1,1),(2,2),(3,3),(4,4),(5,5)] [0,4,5] (fO off n c i') 6 (iQ l es' cl' m' k')=[0=0,0=0,0=0,off=off/\n=n/\some c=some c,vZ (↑n:Int)=vZ (↑n:Int),vZ (IntKind.i64.wrap (i+1))=vZ i',l=l,l.all ab=true,V1 IntKind.u64 0=V1 IntKind.u64 0,VT none 0 0=VT none 0 0,V1 IntKind.u64 0=V1 IntKind.u64 0,V1 IntKind.u64 0=V1 IntKind.u64 0,0=0/\k=k'/\nZ=none,cl=cl',es=es',(es'.all fun e=>aw e.fst&&aw e.snd.fst)=true,m=m',m'.all ab=true,(!cG x.1 x.2 x.3 x.5==(aY (ar m k,(50:TypeId)=(50:TypeId)/\bK m k (ar m k)/\ar m k≠[]).fst x).2)=false,(!cG x.1 x.2 x.3 x.5==0)=true,x.1.size<=1000000000/\0<=x.2/\x.2<18446744073709551616,(50=50/\bK m k (ar m k)/\ar m k≠[])/\gQ (ar m k) x/\(aY (ar m k,(50:TypeId)=(50:TypeId)/\bK m k (ar m k)/\ar m k≠[]).fst x).2≠0,List.take 4 (List.drop (off+i.toNat*4) l)=eC x/\(eC x).length=4,ai i n=true,decide (i<(↑n:Int))=true]:=by kernel_rfl
theorem UN (D:List ak)(ys:ak->List Int)(l m m':List SV)(off n c k k' j:Nat)(x f g:ak)(i i':Int)(es es':VQ)(cl cl' born:Nat):reach (na D ys) 2 400 (SM.at (fO off n c i) 6 (iQ l es cl m k)) (ff [0] true++[(2,.cells (eC x))]++ff [3,6] false++[(8,.hit j (.agg [.v (.string x.p),.v (.int .u64 f.v),.v (.int .i64 f.k),.v (.slice f.a f.l f.c)]) born)]++ff [14] true++ff [15] false) [(0,0),(1,1),(2,2),(3,3),(4,4),(5,5)] [0,4,5] (fO off n c i') 6 (iQ l es' cl' m' k')=[0=0,0=0,0=0,off=off/\n=n/\some c=some c,vZ (↑n:Int)=vZ (↑n:Int),vZ (IntKind.i64.wrap (i+1))=vZ i',l=l,l.all ab=true,V1 IntKind.u64 0=V1 IntKind.u64 0,VT none 0 0=VT none 0 0,V1 IntKind.u64 0=V1 IntKind.u64 0,V1 IntKind.u64 0=V1 IntKind.u64 0,0=0/\k=k'/\nZ=none,cl=cl',es=es',(es'.all fun e=>aw e.fst&&aw e.snd.fst)=true,m=m',m'.all ab=true,(!31==(aY (ar m k,(50:TypeId)=(50:TypeId)/\bK m k (ar m k)/\ar m k≠[]).fst x).2)=false,(!decide (x.2>f.2))=true,(∀ (e:SV × SV × Nat),e∈List.take j es->a8 x.p e.fst)/\es[j]?=some (SV.v (VS x.1),VZ [SV.v (VS x.1),SV.v (V1 IntKind.u64 f.2),SV.v (vZ f.3),SV.v (VT f.4 f.5 f.6)],born),(!cG x.1 x.2 x.3 x.5==0)=false,x.1.size<=1000000000/\0<=x.2/\x.2<18446744073709551616,(50=50/\bK m k (ar m k)/\ar m k≠[])/\gQ (ar m k) x/\(aY (ar m k,(50:TypeId)=(50:TypeId)/\bK m k (ar m k)/\ar m k≠[]).fst x).2≠0,List.take 4 (List.drop (off+i.toNat*4) l)=eC x/\(eC x).length=4,ai i n=true,decide (i<(↑n:Int))=true]:=by kernel_rfl
theorem SB (D:List ak)(ys:ak->List Int)(l m m':List SV)(off n c k k' j:Nat)(x f g:ak)(i i':Int)(es es':VQ)(cl cl' born:Nat):reach (na D ys) 2 400 (SM.at (fO off n c i) 6 (iQ l es cl m k)) (ff [0] true++[(2,.cells (eC x))]++ff [3,6] false++[(8,.cr)]++ff [22,24] true++ff [25] false) [(0,0),(1,1),(2,2),(3,3),(4,4),(5,5)] [0,4,5] (fO off n c i') 6 (iQ l es' cl' m' k')=[0=0,0=0,0=0,off=off/\n=n/\some c=some c,vZ (↑n:Int)=vZ (↑n:Int),vZ (IntKind.i64.wrap (i+1))=vZ i',l=l,l.all ab=true,V1 IntKind.u64 0=V1 IntKind.u64 0,VT none 0 0=VT none 0 0,V1 IntKind.u64 0=V1 IntKind.u64 0,V1 IntKind.u64 0=V1 IntKind.u64 0,0=0/\k=k'/\nZ=none,cl=cl',es=es',(es'.all fun e=>aw e.fst&&aw e.snd.fst)=true,m=m',m'.all ab=true,(!24==(aY (ar m k,(50:TypeId)=(50:TypeId)/\bK m k (ar m k)/\ar m k≠[]).fst x).2)=false,(!!(jC es).toList==VO.toList)=true,66=66/\uc es cl,decide ((↑es.length:Int)≥256)=true,∀ (e:SV × SV × Nat),e∈es->a8 x.p e.fst,(!cG x.1 x.2 x.3 x.5==0)=false,x.1.size<=1000000000/\0<=x.2/\x.2<18446744073709551616,(50=50/\bK m k (ar m k)/\ar m k≠[])/\gQ (ar m k) x/\(aY (ar m k,(50:TypeId)=(50:TypeId)/\bK m k (ar m k)/\ar m k≠[]).fst x).2≠0,List.take 4 (List.drop (off+i.toNat*4) l)=eC x/\(eC x).length=4,ai i n=true,decide (i<(↑n:Int))=true]:=by kernel_rfl
theorem Sc (D:List ak)(ys:ak->List Int)(l m m':List SV)(off n c k k' j:Nat)(x f g:ak)(i i':Int)(es es':VQ)(cl cl' born:Nat)(q:List SV)(b:Nat × Nat):fw (na D ys) 2 400 (SM.at (fO off n c i) 6 (iQ l es cl m k)) (ff [0] true++[(2,.cells (eC x))]++ff [3] true++ff [6] false++[(8,.hit j (.agg [.v (.string x.p),.v (.int .u64 f.v),.v (.int .i64 f.k),.v (.slice f.a f.l f.c)]) born)]++ff [14] false++ff [24] true++[(26,.hit j (.agg [.v (.string x.p),.v (.int .u64 f.v),.v (.int .i64 f.k),.v (.slice f.a f.l f.c)]) born)]) [(0,0),(1,1),(2,2),(3,3),(4,4),(5,7)] [0,4,5] (fO off n c i') 6 (iQ l es' cl' m' k') 4 14 (.row q 5 (0,0) (some 1)) b=[List.map SV.v (List.map (V1 IntKind.u8) (ys x))=q,q.all ab=true,0=0,0=0,0=0,off=off/\n=n/\some c=some c,vZ (↑n:Int)=vZ (↑n:Int),vZ (IntKind.i64.wrap (i+1))=vZ i',l=l,l.all ab=true,V1 IntKind.u64 0=V1 IntKind.u64 0,VT none 0 0=VT none 0 0,V1 IntKind.u64 0=V1 IntKind.u64 0,V1 IntKind.u64 0=V1 IntKind.u64 0,0=0/\(aY (ar m k,(50:TypeId)=(50:TypeId)/\bK m k (ar m k)/\ar m k≠[]).fst x).1.length=k'/\nZ=none,cl=cl',dJ 14 b (es.modify j fun e=>(SV.v (VS x.p),VZ [SV.v (VS x.p),SV.v (V1 IntKind.u64 x.v),SV.v (vZ x.k),SV.sl 14 0 x.l none],e.2.2))=es',(es'.all fun e=>aw e.fst&&aw e.snd.fst)=true,List.map SV.v (vE (aY (ar m k,(50:TypeId)=(50:TypeId)/\bK m k (ar m k)/\ar m k≠[]).fst x).1)=m',m'.all ab=true,(∀ (e:SV × SV × Nat),e∈List.take j es->a8 x.p e.fst)/\es[j]?=some (SV.v (VS x.1),VZ [SV.v (VS x.1),SV.v (V1 IntKind.u64 f.2),SV.v (vZ f.3),SV.v (VT f.4 f.5 f.6)],born),(x.1==x.1)=true,List.Mem x D/\x.4≠none,(!decide (x.2>f.2))=false,(∀ (e:SV × SV × Nat),e∈List.take j es->a8 x.p e.fst)/\es[j]?=some (SV.v (VS x.1),VZ [SV.v (VS x.1),SV.v (V1 IntKind.u64 f.2),SV.v (vZ f.3),SV.v (VT f.4 f.5 f.6)],born),(!cG x.1 x.2 x.3 x.5==0)=false,x.1.size<=1000000000/\0<=x.2/\x.2<18446744073709551616,(50=50/\bK m k (ar m k)/\ar m k≠[])/\gQ (ar m k) x/\(aY (ar m k,(50:TypeId)=(50:TypeId)/\bK m k (ar m k)/\ar m k≠[]).fst x).2=0,List.take 4 (List.drop (off+i.toNat*4) l)=eC x/\(eC x).length=4,ai i n=true,decide (i<(↑n:Int))=true]:=by kernel_rfl
theorem Pw (D:List ak)(ys:ak->List Int)(l m m':List SV)(off n c k k' j:Nat)(x f g:ak)(i i':Int)(es es':VQ)(cl cl' born:Nat):reach (na D ys) 2 400 (SM.at (fO off n c i) 6 (iQ l es cl m k)) (ff [0] true++[(2,.cells (eC x))]++ff [3] true++ff [6] false++[(8,.hit j (.agg [.v (.string x.p),.v (.int .u64 f.v),.v (.int .i64 f.k),.v (.slice f.a f.l f.c)]) born)]++ff [14] false++ff [24] false++[(26,.hit j (.agg [.v (.string x.p),.v (.int .u64 f.v),.v (.int .i64 f.k),.v (.slice f.a f.l f.c)]) born)]) [(0,0),(1,1),(2,2),(3,3),(4,4),(5,7)] [0,4,5] (fO off n c i') 6 (iQ l es' cl' m' k')=[0=0,0=0,0=0,off=off/\n=n/\some c=some c,vZ (↑n:Int)=vZ (↑n:Int),vZ (IntKind.i64.wrap (i+1))=vZ i',l=l,l.all ab=true,V1 IntKind.u64 0=V1 IntKind.u64 0,VT none 0 0=VT none 0 0,V1 IntKind.u64 0=V1 IntKind.u64 0,V1 IntKind.u64 0=V1 IntKind.u64 0,0=0/\(aY (ar m k,(50:TypeId)=(50:TypeId)/\bK m k (ar m k)/\ar m k≠[]).fst x).1.length=k'/\nZ=none,cl=cl',(es.modify j fun e=>(SV.v (VS x.p),VZ [SV.v (VS x.p),SV.v (V1 IntKind.u64 x.v),SV.v (vZ x.k),SV.v (VT none 0 0)],e.2.2))=es',(es'.all fun e=>aw e.fst&&aw e.snd.fst)=true,List.map SV.v (vE (aY (ar m k,(50:TypeId)=(50:TypeId)/\bK m k (ar m k)/\ar m k≠[]).fst x).1)=m',m'.all ab=true,(∀ (e:SV × SV × Nat),e∈List.take j es->a8 x.p e.fst)/\es[j]?=some (SV.v (VS x.1),VZ [SV.v (VS x.1),SV.v (V1 IntKind.u64 f.2),SV.v (vZ f.3),SV.v (VT f.4 f.5 f.6)],born),(x.1==x.1)=true,List.Mem x D/\x.4=none,(!decide (x.2>f.2))=false,(∀ (e:SV × SV × Nat),e∈List.take j es->a8 x.p e.fst)/\es[j]?=some (SV.v (VS x.1),VZ [SV.v (VS x.1),SV.v (V1 IntKind.u64 f.2),SV.v (vZ f.3),SV.v (VT f.4 f.5 f.6)],born),(!cG x.1 x.2 x.3 x.5==0)=false,x.1.size<=1000000000/\0<=x.2/\x.2<18446744073709551616,(50=50/\bK m k (ar m k)/\ar m k≠[])/\gQ (ar m k) x/\(aY (ar m k,(50:TypeId)=(50:TypeId)/\bK m k (ar m k)/\ar m k≠[]).fst x).2=0,List.take 4 (List.drop (off+i.toNat*4) l)=eC x/\(eC x).length=4,ai i n=true,decide (i<(↑n:Int))=true]:=by kernel_rfl
theorem VN (D:List ak)(ys:ak->List Int)(l m m':List SV)(off n c k k' j:Nat)(x f g:ak)(i i':Int)(es es':VQ)(cl cl' born:Nat)(q:List SV)(b:Nat × Nat):fw (na D ys) 2 400 (SM.at (fO off n c i) 6 (iQ l es cl m k)) (ff [0] true++[(2,.cells (eC x))]++ff [3] true++ff [6] false++[(8,.cr)]++ff [22] false++ff [24] true++[(26,.cr)]) [(0,0),(1,1),(2,2),(3,3),(4,4),(5,7)] [0,4,5] (fO off n c i') 6 (iQ l es' cl' m' k') 4 12 (.row q 5 (0,0) (some 1)) b=[List.map SV.v (List.map (V1 IntKind.u8) (ys x))=q,q.all ab=true,0=0,0=0,0=0,off=off/\n=n/\some c=some c,vZ (↑n:Int)=vZ (↑n:Int),vZ (IntKind.i64.wrap (i+1))=vZ i',l=l,l.all ab=true,V1 IntKind.u64 0=V1 IntKind.u64 0,VT none 0 0=VT none 0 0,V1 IntKind.u64 0=V1 IntKind.u64 0,V1 IntKind.u64 0=V1 IntKind.u64 0,0=0/\(aY (ar m k,(50:TypeId)=(50:TypeId)/\bK m k (ar m k)/\ar m k≠[]).fst x).1.length=k'/\nZ=none,cl+1=cl',dJ 12 b (es++[(SV.v (VS x.p),VZ [SV.v (VS x.p),SV.v (V1 IntKind.u64 x.v),SV.v (vZ x.k),SV.sl 12 0 x.l none],cl)])=es',(es'.all fun e=>aw e.fst&&aw e.snd.fst)=true,List.map SV.v (vE (aY (ar m k,(50:TypeId)=(50:TypeId)/\bK m k (ar m k)/\ar m k≠[]).fst x).1)=m',m'.all ab=true,∀ (e:SV × SV × Nat),e∈es->a8 x.p e.fst,(x.1==x.1)=true,List.Mem x D/\x.4≠none,decide ((↑es.length:Int)≥256)=false,∀ (e:SV × SV × Nat),e∈es->a8 x.p e.fst,(!cG x.1 x.2 x.3 x.5==0)=false,x.1.size<=1000000000/\0<=x.2/\x.2<18446744073709551616,(50=50/\bK m k (ar m k)/\ar m k≠[])/\gQ (ar m k) x/\(aY (ar m k,(50:TypeId)=(50:TypeId)/\bK m k (ar m k)/\ar m k≠[]).fst x).2=0,List.take 4 (List.drop (off+i.toNat*4) l)=eC x/\(eC x).length=4,ai i n=true,decide (i<(↑n:Int))=true]:=by kernel_rfl
theorem PG (D:List ak)(ys:ak->List Int)(l m m':List SV)(off n c k k' j:Nat)(x f g:ak)(i i':Int)(es es':VQ)(cl cl' born:Nat):reach (na D ys) 2 400 (SM.at (fO off n c i) 6 (iQ l es cl m k)) (ff [0] true++[(2,.cells (eC x))]++ff [3] true++ff [6] false++[(8,.cr)]++ff [22] false++ff [24] false++[(26,.cr)]) [(0,0),(1,1),(2,2),(3,3),(4,4),(5,7)] [0,4,5] (fO off n c i') 6 (iQ l es' cl' m' k')=[0=0,0=0,0=0,off=off/\n=n/\some c=some c,vZ (↑n:Int)=vZ (↑n:Int),vZ (IntKind.i64.wrap (i+1))=vZ i',l=l,l.all ab=true,V1 IntKind.u64 0=V1 IntKind.u64 0,VT none 0 0=VT none 0 0,V1 IntKind.u64 0=V1 IntKind.u64 0,V1 IntKind.u64 0=V1 IntKind.u64 0,0=0/\(aY (ar m k,(50:TypeId)=(50:TypeId)/\bK m k (ar m k)/\ar m k≠[]).fst x).1.length=k'/\nZ=none,cl+1=cl',(es++[(SV.v (VS x.p),VZ [SV.v (VS x.p),SV.v (V1 IntKind.u64 x.v),SV.v (vZ x.k),SV.v (VT none 0 0)],cl)])=es',(es'.all fun e=>aw e.fst&&aw e.snd.fst)=true,List.map SV.v (vE (aY (ar m k,(50:TypeId)=(50:TypeId)/\bK m k (ar m k)/\ar m k≠[]).fst x).1)=m',m'.all ab=true,∀ (e:SV × SV × Nat),e∈es->a8 x.p e.fst,(x.1==x.1)=true,List.Mem x D/\x.4=none,decide ((↑es.length:Int)≥256)=false,∀ (e:SV × SV × Nat),e∈es->a8 x.p e.fst,(!cG x.1 x.2 x.3 x.5==0)=false,x.1.size<=1000000000/\0<=x.2/\x.2<18446744073709551616,(50=50/\bK m k (ar m k)/\ar m k≠[])/\gQ (ar m k) x/\(aY (ar m k,(50:TypeId)=(50:TypeId)/\bK m k (ar m k)/\ar m k≠[]).fst x).2=0,List.take 4 (List.drop (off+i.toNat*4) l)=eC x/\(eC x).length=4,ai i n=true,decide (i<(↑n:Int))=true]:=by kernel_rfl
theorem SY (D:List ak)(ys:ak->List Int)(l m m':List SV)(off n c k k' j:Nat)(x f g:ak)(i i':Int)(es es':VQ)(cl cl' born:Nat)(q:List SV)(b:Nat × Nat):fw (na D ys) 2 400 (SM.at (fO off n c i) 6 (iQ l es cl m k)) (ff [0] true++[(2,.cells (eC x))]++ff [3] true++ff [6] false++[(8,.cr)]++ff [22] true++ff [24] false++[(25,.hit j (.agg [.v (.string g.p),.v (.int .u64 g.v),.v (.int .i64 g.k),.v (.slice g.a g.l g.c)]) born)]++ff [27] true++[(29,.cr)]) [(0,0),(1,1),(2,2),(3,3),(4,4),(5,7)] [0,4,5] (fO off n c i') 6 (iQ l es' cl' m' k') 4 12 (.row q 5 (0,0) (some 1)) b=[List.map SV.v (List.map (V1 IntKind.u8) (ys x))=q,q.all ab=true,0=0,0=0,0=0,off=off/\n=n/\some c=some c,vZ (↑n:Int)=vZ (↑n:Int),vZ (IntKind.i64.wrap (i+1))=vZ i',l=l,l.all ab=true,V1 IntKind.u64 0=V1 IntKind.u64 0,VT none 0 0=VT none 0 0,V1 IntKind.u64 0=V1 IntKind.u64 0,V1 IntKind.u64 0=V1 IntKind.u64 0,0=0/\(aY (ar m k,(50:TypeId)=(50:TypeId)/\bK m k (ar m k)/\ar m k≠[]).fst x).1.length=k'/\nZ=none,cl+1=cl',dJ 12 b (es.eraseIdx j++[(SV.v (VS x.p),VZ [SV.v (VS x.p),SV.v (V1 IntKind.u64 x.v),SV.v (vZ x.k),SV.sl 12 0 x.l none],cl)])=es',(es'.all fun e=>aw e.fst&&aw e.snd.fst)=true,List.map SV.v (vE (aY (ar m k,(50:TypeId)=(50:TypeId)/\bK m k (ar m k)/\ar m k≠[]).fst x).1)=m',m'.all ab=true,∀ (e:SV × SV × Nat),e∈es.eraseIdx j->a8 x.p e.fst,(x.1==x.1)=true,List.Mem x D/\x.4≠none,(∀ (e:SV × SV × Nat),e∈List.take j es->a8 (jC es) e.fst)/\es[j]?=some (SV.v (VS (jC es)),VZ [SV.v (VS g.1),SV.v (V1 IntKind.u64 g.2),SV.v (vZ g.3),SV.v (VT g.4 g.5 g.6)],born),(!!(jC es).toList==VO.toList)=false,66=66/\uc es cl,decide ((↑es.length:Int)≥256)=true,∀ (e:SV × SV × Nat),e∈es->a8 x.p e.fst,(!cG x.1 x.2 x.3 x.5==0)=false,x.1.size<=1000000000/\0<=x.2/\x.2<18446744073709551616,(50=50/\bK m k (ar m k)/\ar m k≠[])/\gQ (ar m k) x/\(aY (ar m k,(50:TypeId)=(50:TypeId)/\bK m k (ar m k)/\ar m k≠[]).fst x).2=0,List.take 4 (List.drop (off+i.toNat*4) l)=eC x/\(eC x).length=4,ai i n=true,decide (i<(↑n:Int))=true]:=by kernel_rfl
theorem Pv (D:List ak)(ys:ak->List Int)(l m m':List SV)(off n c k k' j:Nat)(x f g:ak)(i i':Int)(es es':VQ)(cl cl' born:Nat):reach (na D ys) 2 400 (SM.at (fO off n c i) 6 (iQ l es cl m k)) (ff [0] true++[(2,.cells (eC x))]++ff [3] true++ff [6] false++[(8,.cr)]++ff [22] true++ff [24] false++[(25,.hit j (.agg [.v (.string g.p),.v (.int .u64 g.v),.v (.int .i64 g.k),.v (.slice g.a g.l g.c)]) born)]++ff [27] false++[(29,.cr)]) [(0,0),(1,1),(2,2),(3,3),(4,4),(5,7)] [0,4,5] (fO off n c i') 6 (iQ l es' cl' m' k')=[0=0,0=0,0=0,off=off/\n=n/\some c=some c,vZ (↑n:Int)=vZ (↑n:Int),vZ (IntKind.i64.wrap (i+1))=vZ i',l=l,l.all ab=true,V1 IntKind.u64 0=V1 IntKind.u64 0,VT none 0 0=VT none 0 0,V1 IntKind.u64 0=V1 IntKind.u64 0,V1 IntKind.u64 0=V1 IntKind.u64 0,0=0/\(aY (ar m k,(50:TypeId)=(50:TypeId)/\bK m k (ar m k)/\ar m k≠[]).fst x).1.length=k'/\nZ=none,cl+1=cl',(es.eraseIdx j++[(SV.v (VS x.p),VZ [SV.v (VS x.p),SV.v (V1 IntKind.u64 x.v),SV.v (vZ x.k),SV.v (VT none 0 0)],cl)])=es',(es'.all fun e=>aw e.fst&&aw e.snd.fst)=true,List.map SV.v (vE (aY (ar m k,(50:TypeId)=(50:TypeId)/\bK m k (ar m k)/\ar m k≠[]).fst x).1)=m',m'.all ab=true,∀ (e:SV × SV × Nat),e∈es.eraseIdx j->a8 x.p e.fst,(x.1==x.1)=true,List.Mem x D/\x.4=none,(∀ (e:SV × SV × Nat),e∈List.take j es->a8 (jC es) e.fst)/\es[j]?=some (SV.v (VS (jC es)),VZ [SV.v (VS g.1),SV.v (V1 IntKind.u64 g.2),SV.v (vZ g.3),SV.v (VT g.4 g.5 g.6)],born),(!!(jC es).toList==VO.toList)=false,66=66/\uc es cl,decide ((↑es.length:Int)≥256)=true,∀ (e:SV × SV × Nat),e∈es->a8 x.p e.fst,(!cG x.1 x.2 x.3 x.5==0)=false,x.1.size<=1000000000/\0<=x.2/\x.2<18446744073709551616,(50=50/\bK m k (ar m k)/\ar m k≠[])/\gQ (ar m k) x/\(aY (ar m k,(50:TypeId)=(50:TypeId)/\bK m k (ar m k)/\ar m k≠[]).fst x).2=0,List.take 4 (List.drop (off+i.toNat*4) l)=eC x/\(eC x).length=4,ai i n=true,decide (i<(↑n:Int))=true]:=by kernel_rfl
def QW:Option (SO × Bool):=some (.row [.v (.int .u64 0),.map 1] 66 (0,0) none,true)
theorem Vz (D:List ak)(ys:ak->List Int)(l:List SV)(off n c:Nat)(i:Int):iL (na D ys) 8 100 (SM.at (fO off n c i) 6 (uM l)) (ff [0] false) [(0,2)] [] (.tup [.ptr 0 0,.v (.agg #[.int .u64 0,.slice none 0 0]),.v (.bool true)]) [OX]=[0=0,Value.agg { toList:=[V1 IntKind.u64 0,VT none 0 0]:Array Value }=Value.agg { toList:=[V1 IntKind.u64 0,VT none 0 0]:Array Value },VU true=VU true,V1 IntKind.u64 0=V1 IntKind.u64 0,Value.map none=Value.map none,true=true,true=true,decide (i<(↑n:Int))=false]:=by kernel_rfl
theorem SC (D:List ak)(ys:ak->List Int)(l m:List SV)(off n c k:Nat)(i:Int)(es:VQ)(cl:Nat):iL (na D ys) 8 100 (SM.at (fO off n c i) 6 (iQ l es cl m k)) (ff [0] false) [(0,2),(1,4),(2,5)] [1,2] (.tup [.ptr 0 0,.agg [.v (.int .u64 0),.sl 2 0 k none],.v (.bool true)]) [QW,LS es cl,fx m]=[0=0,V1 IntKind.u64 0=V1 IntKind.u64 0,0=0/\k=k/\nZ=none,VU true=VU true,V1 IntKind.u64 0=V1 IntKind.u64 0,cl=cl,es=es,(es.all fun e=>aw e.fst&&aw e.snd.fst)=true,m=m,m.all ab=true,0=0/\k=k/\nZ=none,true=true,decide (i<(↑n:Int))=false]:=by kernel_rfl
def PX (D:List ak)(ys:ak->List Int)(w:World):Prop:=MX w/\∀ x∈D,e8 w x.a x.l (ys x)
theorem e8.keep {w0 w:World}{a:Option Addr}{l:Nat}{ys:List Int}(h:e8 w0 a l ys)(hk:∀ k,k<w0.heap.size->w.heap[k]?=w0.heap[k]?):e8 w a l ys:=by
 obtain⟨h1,h2,h3⟩:=h;refine⟨h1,h2,fun b hb i hi W' hW=>h3 b hb i hi W' fun k Z5=>?_⟩;rw[<- hk k Z5];refine hW k ?_;have h4:=hk k Z5;rw[WT Z5]at h4;exact (VY.1 h4).1
theorem PX.keep {D:List ak}{ys:ak->List Int}{w0 w:World}(h:PX D ys w0)(hk:∀ k,k<w0.heap.size->w.heap[k]?=w0.heap[k]?):PX D ys w:=⟨h.1.keep hk,fun x hx=>(h.2 x hx).keep hk⟩
theorem Gb {P:Program}{X Y:World->Prop}{r:FuncId × Sum}(h:bh P X r)(hXY:∀ w,Y w->X w):bh P Y r:=
 ⟨h.1,fun args x s s' hx ob=>⟨(h.2 args x s s' hx ob).1,fun ν M w0 w a hr hY ha=>(h.2 args x s s' hx ob).2 ν M w0 w a hr (hXY w hY) ha⟩⟩
theorem Mu {D:List ak}{ys:ak->List Int}:bh Tryz.prog (PX D ys) (62,gq (j0 (IK D ys)) (lq (L6 D))):=by
 refine bh.br (mq ⟨_,Tryz.func62,by kernel_rfl,by kernel_rfl⟩ (fun args sh zs n C elem mk mv p h ν x y hv=>?_) fun args sh zs n C elem mk mv p h hp ν M w0 w a hr hX ha=>?_) (mf ⟨_,Tryz.func62,by kernel_rfl,by kernel_rfl⟩ fun args sh v p h hp ν M w0 w a hr hX ha=>?_)
 ·dsimp only[IK]at h;split at h
  ·split at h
   ·cases h;exact VR.bx.2 ⟨_,rfl,au.cons (VR.ae.2 rfl) (au.cons (VR.ae.2 rfl) (au.cons (VR.ae.2 rfl) (au.cons hv au.nil)))⟩
   ·cases h
  ·cases h
 ·dsimp only[IK]at h;split at h
  ·rename_i Xa;split at h
   ·rename_i x hx;cases h;obtain⟨y1,ZK,rfl,q1,YH⟩:=ha.cons_inv;obtain rfl:=YH.ay;obtain rfl:=rC hx q1;refine (qH (hX.2 x hp.1)).mono fun e w' ⟨hB,a,c,l,he,h⟩=>⟨hB,?_⟩;rcases h with ⟨h1,_⟩|⟨_,h1,b,h2,h3⟩
    ·exact absurd h1 hp.2
    ·subst h1 h2;exact⟨_,he,h3⟩
   ·cases h
  ·cases h
 ·dsimp only[L6]at h;split at h
  ·rename_i Xa;split at h
   ·rename_i x hx;cases h;obtain⟨y1,ZK,rfl,q1,YH⟩:=ha.cons_inv;obtain rfl:=YH.ay;obtain rfl:=rC hx q1;refine (qH (hX.2 x hp.1)).mono fun e w' ⟨hB,a,c,l,he,h⟩=>⟨hB,?_⟩;rcases h with ⟨_,h1,h2,h3⟩|⟨h1,_⟩
    ·subst h1 h2 h3;exact⟨_,he,VR.bx.2 ⟨_,rfl,au.cons (VR.ae.2 rfl) (au.cons (VR.ae.2 rfl) (au.cons (VR.ae.2 rfl) (au.cons (VR.ae.2 rfl) au.nil)))⟩⟩
    ·exact absurd hp.2 h1
   ·cases h
  ·cases h
theorem Bz {M0 M:Own}{w00 w0:World}{D:List ak}{ys:ak->List Int}(hM:∀ z,¬ M0 z)(hB:dh M0 w00 M w0)(hX:PX D ys w00):aK (na D ys) M w0:=
 aK.uG (Checked.mixed Tryz.checked) (by kernel_rfl) (fh.of iJ rfl dK) (dy.list (X:=PX D ys) (l:=PK D ys) rfl (fun r h=>by
  simp only[PK,V8,Ww,Xc]at h
  rcases h with rfl|rfl|rfl|rfl
  ·exact IY
  ·exact Gb (bh.pure (r:=(58,j1)) IZ) fun w h=>h.1
  ·exact Gb Hm fun w h=>h.1
  ·exact Mu) fun ν s w hr _=>hX.keep fun k hk=>(hr.frame k (Wz hk hB.size) (hB.frame k hk (hM k)).2).trans (hB.frame k hk (hM k)).1) (fun f g h=>by cases h)
theorem qb (o:Nat)(b:Nat × Nat):∀ E:List bH,dJ o b (E.map mC)=E.map mC
 | []=>rfl
 | e::E=>by
  show _::dJ o b (E.map mC)=_
  rw[qb o b E];rfl
theorem bt {o:Nat}{b:Nat × Nat}{E:List bH}{y:ak}{k v:SV}{n:Nat}(h:(k,nM o b v,n)=mC (y,n)):dJ o b (E.map mC++[(k,v,n)])=(E++[(y,n)]).map mC:=by
 unfold dJ;rw[Wq,Wq];have:=qb o b E;unfold dJ at this;rw[this,WC,WC,h];rfl
theorem iA {g:SV × SV × Nat->SV × SV × Nat}{g':bH->bH}(h:∀ e,g (mC e)=mC (g' e)):∀ (E:List bH) (j:Nat),(E.map mC).modify j g=(E.modify j g').map mC
 | [],j=>by simp
 | e::E,0=>by simp[h]
 | e::E,j+1=>by simp[iA h E j]
theorem fD {o:Nat}{b:Nat × Nat}{g:SV × SV × Nat->SV × SV × Nat}{g':bH->bH}(h:∀ e,((g (mC e)).1,nM o b (g (mC e)).2.1,(g (mC e)).2.2)=mC (g' e)):∀ (E:List bH) (j:Nat),dJ o b ((E.map mC).modify j g)=(E.modify j g').map mC
 | [],j=>by simp[dJ]
 | e::E,0=>by
  simp only[WC,List.modify_zero_cons]
  show _::dJ o b (E.map mC)=_
  rw[qb]
  exact congrArg (·::E.map mC) (h e)
 | e::E,j+1=>by
  simp only[WC,List.modify_succ_cons]
  show _::dJ o b ((E.map mC).modify j g)=_
  rw[fD h E j];rfl
theorem ba {α β:Type}(f:α->β):∀ (l:List α) (j:Nat),(l.map f).eraseIdx j=(l.eraseIdx j).map f
 | [],j=>by simp
 | a::l,0=>by simp
 | a::l,j+1=>by simp[ba f l j]
theorem wo {E:List bH}(hn:(E.map fun e=>e.1.p).Nodup){f:bH}(hf:f∈E):∃ j,Eg (E.map mC) f.1.p j (fP f) f.2/\E[j]?=some f:=by
 obtain⟨j,hj⟩:=Hb hn hf;refine⟨j,hj,?_⟩;have h2:=hj.2;rw[Wv]at h2;obtain⟨g,hg,h3⟩:=Wg.1 h2;rw[hg,GX (h3:mC g=mC f)]
theorem wW {E:List bH}{p:ByteArray}(hm:∀ e∈E,e.1.p≠p):∀ e∈E.map mC,a8 p e.1:=fun e he=>by
 obtain⟨y,hy,rfl⟩:=Wb.1 he
 refine⟨y.1.p,rfl,?_⟩
 rw[XA];intro h
 refine hm y hy ?_
 have:(p.data==y.1.p.data)=true:=h
 have:=Yo this
 cases hfp:p;cases hyp:y.1.p;rw[hfp,hyp]at this;cases this;rfl
theorem cL (a:ByteArray):(a==a)=true:=by
 show (a.data==a.data)=true;exact WA _
theorem jG (x:ak)(l:List ak):eK x l≠[]:=fun h=>by
 have:=kb x l
 rw[h]at this;simp at this
theorem pQ {cm:ak->List Int}{E:List bH}{y:ak}{n:Nat}:((E++[(y,n)]).map (KM cm)).Perm (KE cm y::E.map (KM cm)):=by
 rw[Wq];exact List.perm_append_comm
structure Gs (D:List ak):Prop where
 size:∀ x∈D,x.p.size<=1000000000
 v:∀ x∈D,0<=x.v/\x.v<18446744073709551616
 nil:∀ x∈D,x.a=none->x.l=0
 YO:D.length<=1000
theorem Cf {x:ak}(hc:cG x.p x.v x.k x.l=0)(h:0<=x.v):0<x.v:=by
 rcases Int.lt_or_eq_of_le h with h|h
 ·exact h
 ·exfalso;unfold cG at hc;rw[<- h]at hc;revert hc;cases fN x.p<;>simp[gX]
theorem uW {x:ak}(hc:cG x.p x.v x.k x.l=0):x.p≠⟨#[]⟩:=by
 intro h
 have hu:fN x.p=false:=by
  unfold fN;cases hq:(aG x.p==0)
  ·rfl
  ·exact absurd (by rw[h];rfl) (mL x.p (by simpa using hq))
 unfold cG at hc;rw[hu]at hc;revert hc;simp
def er (H:Hp)(e:ak)(zs:List Int):Prop:=(e.a=none/\e.l=0/\zs=[])\/∃ b rest,e.a=some ⟨b,0,none⟩/\H b=some (.cells ((zs.map (Value.int .u8))++rest).toArray 5 (0,0))/\zs.length=e.l
def Nc:Value->Int|.int _ n=>n|_=>0
def iO (H:Hp)(e:ak):List Int:=match e.a with
 | none=>[]
 | some a=>match H a.1 with
  | some (.cells c _ _)=>(c.toList.take e.l).map Nc
  | _=>[]
theorem er.cont {H:Hp}{e:ak}{zs:List Int}(h:er H e zs):iO H e=zs:=by
 unfold iO;rcases h with ⟨h1,_,rfl⟩|⟨b,rest,h1,h2,h3⟩
 ·rw[h1]
 ·rw[h1];dsimp only;rw[h2];dsimp only;rw[XP (by simp[h3]),We (by simp[h3]),WI];exact List.map_id' zs
theorem er.mono {H H':Hp}{e:ak}{zs:List Int}(h:er H e zs)(hs:H.Sub H'):er H' e zs:=by
 rcases h with h|⟨b,rest,h1,h2,h3⟩
 ·exact .inl h
 ·exact .inr ⟨b,rest,h1,hs _ _ h2,h3⟩
def Jt (w0:World)(e:ak):Prop:=∀ a,e.a=some a->w0.heap.size<=a.block
structure St (D:List ak)(ys:ak->List Int)(w0:World)(M:Own)(H:Hp)(M1:Own)(w1:World)(E:List bH)(cl:Nat)(xs:List ak):Prop where
 kept:Kept w0.hp M w0 H M1 w1
 inv:Inv (iO H) ys E cl xs
 data:∀ e∈E,∃ zs,er H e.1 zs/\Jt w0 e.1
 sub:∀ e∈xs,e∈D/\cG e.p e.v e.k e.l=0
theorem St.next {D:List ak}{ys:ak->List Int}{w0:World}{M:Own}{H:Hp}{M1:Own}{w1:World}{E:List bH}{cl:Nat}{xs:List ak}{x:ak}(hS:St D ys w0 M H M1 w1 E cl xs){H':Hp}{M2:Own}{w2:World}(hk:Kept w0.hp M w0 H' M2 w2)(hs:H.Sub H'){y:ak}{zs:List Int}(hy:er H' y zs)(hyn:Jt w0 y)
  {E':List bH} {cl':Nat} {xs':List ak} (hE:∀ e∈E',e.1=y\/e∈E) (hx:x∈D/\cG x.p x.v x.k x.l=0) (ZV:∀ e∈xs',e=x\/e∈xs) (inv:(∀ e∈E,iO H e.1=iO H' e.1)->Inv (iO H') ys E' cl' xs'):St D ys w0 M H' M2 w2 E' cl' xs':=by
 have hold:∀ e∈E,∃ zs,er H' e.1 zs/\Jt w0 e.1/\iO H e.1=iO H' e.1:=fun e he=>by
  obtain⟨zs,h,hn⟩:=hS.data e he;exact⟨zs,h.mono hs,hn,by rw[h.cont,(h.mono hs).cont]⟩
 refine⟨hk,inv fun e he=>(by obtain⟨_,_,_,h⟩:=hold e he;exact h),fun e he=>?_,fun e he=>?_⟩
 ·rcases hE e he with h|h
  ·exact⟨zs,by rw[h];exact hy,by rw[h];exact hyn⟩
  ·obtain⟨zs,h,hn,_⟩:=hold e h;exact⟨zs,h,hn⟩
 ·rcases ZV e he with h|h
  ·rw[h];exact hx
  ·exact hS.sub e h
theorem rA {x e:ak}{p:ByteArray}{xs:List ak}(h:e∈eK x (bg p xs)):e=x\/e∈xs:=by
 rcases V8.1 ((j9 x _).mem_iff.1 h) with h|h
 ·exact .inl h
 ·exact .inr (Wo.1 h).1
theorem oY {x e:ak}{xs:List ak}(h:e∈eK x xs):e=x\/e∈xs:=V8.1 ((j9 x _).mem_iff.1 h)
theorem gC {H:Hp}{x:ak}{zs:List Int}{ν1:aP}{j:Nat}{b:Nat × Nat}{ob:Obj}(hl:zs.length=x.l)(h:OR ν1 j (.row (List.map SV.v (zs.map (Value.int .u8))) 5 (0,0) (some 1)) ob):er (H.put b.1 ob) ⟨x.p,x.v,x.k,some ⟨b.1,0,none⟩,x.l,b.2⟩ zs:=by
 obtain⟨vs,rest,rfl,hv,_⟩:=h;obtain rfl:=r7 hv;exact .inr ⟨b.1,rest,rfl,by rw[Hp.bO];simp,hl⟩
def mY (e:bH):MapEntry:={ key:=.string e.1.p,val:=.agg (eV e.1).toArray,born:=e.2 }
theorem xq {ν:aP}:∀ {E:List bH} {l:List MapEntry},eI ν (E.map mC) l->l=E.map mY
 | [],_,h=>h
 | e::E,_,h=>by
  obtain⟨z,zs,rfl,h1,h2,h3,h4⟩:=h
  have e1:z.key=.string e.1.p:=VR.ae.1 h1
  obtain⟨a,hq,ha⟩:=VR.bx.1 h2
  have e2:a=eV e.1:=gi ha (au.lits ν (eV e.1))
  rw[xq h4,WC]
  congr 1
  obtain⟨k,v,n⟩:=z
  dsimp only at e1 hq h3
  subst e1 hq e2
  have h3:e.2=n:=h3
  subst h3;rfl
structure jy (w:World)(b m:Nat)(s:Int)(E:List bH)(cl:Nat):Prop where
 row:w.heap[b]?=some (.cells #[.int .u64 s,.map (some m)] 66 (0,0))
 map:w.heap[m]?=some (.map (E.map mY).toArray cl)
def CL (D : List ak)(ys : ak -> List Int)(w0 : World)(e : Ending)(w' : World) : Prop := Below w0.heap.size w0 w' /\ ∃ b v, e = .returned (.tuple #[.pointer (some ⟨b, 0, none⟩), v, .bool true]) /\ w0.heap.size <= b /\
  ((w'.heap[b]? = some (.cells #[.int .u64 0, .map none] 66 (0, 0)) /\ v = .agg #[.int .u64 0, .slice none 0 0]) \/
   ∃ m E cl xs y, w0.heap.size <= m /\ jy w' b m 0 E cl /\ v = .agg #[.int .u64 0, y] /\ cF w0 w' y (vE xs) xs.length 4 50 /\ Inv (iO w'.hp) ys E cl xs /\ (∀ e ∈ E, ∃ zs, er w'.hp e.1 zs /\ Jt w0 e.1) /\ (∀ e ∈ xs, e ∈ D /\ cG e.p e.v e.k e.l = 0) /\ xs ≠ [])
section
variable {w0:World}{cs0:List Frame}{D:List ak}{ys:ak->List Int}{M:Own}{off c:Nat}{ν:aP}
theorem L3 (hX:PX D ys w0)(hM:∀ z,¬ M z)(hD:Gs D){i:Nat}(hi:i<D.length)(Zl:∀ i b,ν i=some b->i=0)
  (ih:∀ H M1 w1 E cl xs,St D ys w0 M H M1 w1 E cl xs->xs≠[]->af (na D ys) M1 w1 cs0 8 (CL D ys w0) ν (SM.at (fO off D.length c ((i+1:Nat):Int)) 6 (iQ (aT eC off D) (E.map mC) cl (cE xs) xs.length)))
  {H:Hp} {M1:Own} {w1:World} {E:List bH} {cl:Nat} {xs:List ak} (hS:St D ys w0 M H M1 w1 E cl xs) (Yu:xs≠[]):
  af (na D ys) M1 w1 cs0 8 (CL D ys w0) ν (SM.at (fO off D.length c (i:Int)) 6 (iQ (aT eC off D) (E.map mC) cl (cE xs) xs.length)):=by
 have hI:=hS.inv;generalize hx:D[i]=x;have Zm:D[i]?=some x:=by rw[<- hx];exact V4 hi
 have YQ:x∈D:=by rw[<- hx];exact WS hi
 have YO:=hD.YO;have t1:decide ((i:Int)<(D.length:Int))=true:=V0 (by omega);have r1:=aJ hi;have ws:=aU (k:=i) (by omega);have ra:=gG (off:=off) c9 Zm;have YJ:(aT eC off D).all ab=true:=ca cD;have x1:=hD.size x YQ;obtain⟨x2,x3⟩:=hD.v x YQ;have ξ:(ys x).length=x.l:=(hX.2 x YQ).1;have ζ:x.a=none->ys x=[]:=fun h=>Wd.1 (by rw[ξ,hD.nil x YQ h]);have ZH:=hI.YO;have hh:bK (cE xs) xs.length xs:=wH xs (by omega);have hPI:gQ xs x:=⟨x1,⟨x2,x3⟩,hI.sorted.names,hI.size⟩;have hlen:=hI.len;have hBI:uc (E.map mC) cl:=⟨E,rfl,hI.ok⟩;by_cases hc:cG x.p x.v x.k x.l=0
 ·have en:(!cG x.1 x.2 x.3 x.5==(0:Int))=false:=by rw[show cG x.1 x.2 x.3 x.5=0 from hc];rfl
  have hvp:=Cf hc x2;have hxf:=uW hc;by_cases hit:∃ f∈E,f.1.p=x.p
  ·obtain⟨f,hf,hp⟩:=hit;obtain⟨j,hj,hjE⟩:=wo hI.ok.names hf;rw[hp]at hj;have hj1:=hj.1
   have hj2:(E.map mC)[j]?=some (SV.v (Value.string x.1),SV.agg [SV.v (Value.string x.1),SV.v (Value.int IntKind.u64 f.1.2),SV.v (Value.int IntKind.i64 f.1.3),SV.v (Value.slice f.1.4 f.1.5 f.1.6)],f.2):=by
    rw[hj.2];unfold fP;rw[hp]
   obtain⟨hfv,hdl⟩:=hI.pG hf hp;by_cases hv:f.1.v≥x.v
   ·have hr:aY xs x=(xs,31):=by unfold aY;rw[if_neg (by simpa using hc),if_pos (by rw[hfv];exact hv)]
    have c2:(!decide (x.2>f.1.2))=true:=by simpa using hv
    refine af.reach (Bz hM hS.kept.base hX) (k:=2) (n:=400) (o:=(ff [0] true++[(2,.cells (eC x))]++ff [3,6] false++[(8,.hit j (.agg [.v (.string x.p),.v (.int .u64 f.1.v),.v (.int .i64 f.1.k),.v (.slice f.1.a f.1.l f.1.c)]) f.2)]++ff [14] true++ff [15] false)) (ren:=[(0,0),(1,1),(2,2),(3,3),(4,4),(5,5)]) (eqs:=[0,4,5]) ?_ (by kernel_rfl) (fun i b h=>by rw[Zl i b h];rfl) (ih H M1 w1 E cl xs hS Yu);rw[UN (f:=f.1) (g:=x) (j:=j) (born:=f.2)];simp only[ah,t1,r1,ra,ws,en,c9,aM,YJ,mW,eR,hr,eY,hPI,hh,Yu,x1,x2,x3,eL,c2,hj2,VV,VX,VW];try (repeat' apply And.intro)
    all_goals first|rfl|assumption|exact hh|exact cL _|exact YQ|exact bJ _|decide|(simp;done)|exact iA (fun e=>rfl) E _|exact fD (fun e=>rfl) E _|exact bt (E:=[]) rfl|exact bt rfl|(rw[Wq];rfl)|(rw[ba,Wq];rfl)|(rw[ba];exact bt rfl)|skip
   ·have hr:aY xs x=(eK x (bg x.p xs),0):=by unfold aY;rw[if_neg (by simpa using hc),if_neg (by rw[hfv];exact hv),if_neg (by omega)]
    have c2:(!decide (x.2>f.1.2))=false:=by simpa using hv
    have inv:∀ cm:ak->List Int,(∀ e∈E,iO H e.1=cm e.1)->∀ y:ak,KE cm y=KE ys x->Inv cm ys (E.modify j fun e=>(y,e.2)) cl (eK x (bg x.p xs)):=fun cm hcm y hy=>by
     have hI:=hI.cont hcm;refine Inv.new (hI.ok.mod hjE (by rw[hp];exact (Prod.mk.inj hy).1)) ?_ (hI.sorted.drop _) It (by omega);refine ((jO hjE).map (KM cm)).trans ?_;rw[WC,nV hI.ok.names hjE,hp,zu];show (KE cm y::_).Perm _;rw[hy];exact (hI.ZB.filter _).cons _
    by_cases hn:x.a=none
    ·have Zt:er H (⟨x.p,x.v,x.k,none,0,0⟩:ak) (ys x):=.inl ⟨rfl,rfl,ζ hn⟩;have nx:=ih H M1 w1 (E.modify j fun e=>((⟨x.p,x.v,x.k,none,0,0⟩:ak),e.2)) cl _ (hS.next (x:=x) hS.kept (Hp.Sub.refl _) Zt (fun a h=>by cases h) (fun e he=>(eU hjE he).elim (fun h=>.inl (by rw[h])) .inr) ⟨YQ,hc⟩ (fun e he=>rA he) fun hc=>inv _ hc (⟨x.p,x.v,x.k,none,0,0⟩:ak) (by unfold KE;rw[Zt.cont])) (jG _ _);refine af.reach (Bz hM hS.kept.base hX) (k:=2) (n:=400) (o:=(ff [0] true++[(2,.cells (eC x))]++ff [3] true++ff [6] false++[(8,.hit j (.agg [.v (.string x.p),.v (.int .u64 f.1.v),.v (.int .i64 f.1.k),.v (.slice f.1.a f.1.l f.1.c)]) f.2)]++ff [14] false++ff [24] false++[(26,.hit j (.agg [.v (.string x.p),.v (.int .u64 f.1.v),.v (.int .i64 f.1.k),.v (.slice f.1.a f.1.l f.1.c)]) f.2)])) (ren:=[(0,0),(1,1),(2,2),(3,3),(4,4),(5,7)]) (eqs:=[0,4,5]) ?_ (by kernel_rfl) (fun i b h=>by rw[Zl i b h];rfl) nx
     rw[Pw (f:=f.1) (g:=x) (j:=j) (born:=f.2)];simp only[ah,t1,r1,ra,ws,en,c9,aM,YJ,mW,eR,hr,eY,hPI,hh,Yu,x1,x2,x3,eL,c2,hj2,VV,VX,VW];try (repeat' apply And.intro)
     all_goals first|rfl|assumption|exact hh|exact cL _|exact YQ|exact bJ _|decide|(simp;done)|exact iA (fun e=>rfl) E _|exact fD (fun e=>rfl) E _|exact bt (E:=[]) rfl|exact bt rfl|(rw[Wq];rfl)|(rw[ba,Wq];rfl)|(rw[ba];exact bt rfl)|skip
    ·refine af.fw (Bz hM hS.kept.base hX) hM hS.kept (k:=2) (n:=400) (o:=(ff [0] true++[(2,.cells (eC x))]++ff [3] true++ff [6] false++[(8,.hit j (.agg [.v (.string x.p),.v (.int .u64 f.1.v),.v (.int .i64 f.1.k),.v (.slice f.1.a f.1.l f.1.c)]) f.2)]++ff [14] false++ff [24] true++[(26,.hit j (.agg [.v (.string x.p),.v (.int .u64 f.1.v),.v (.int .i64 f.1.k),.v (.slice f.1.a f.1.l f.1.c)]) f.2)])) (ren:=[(0,0),(1,1),(2,2),(3,3),(4,4),(5,7)]) (eqs:=[0,4,5]) (m:=4) (j:=14) (so:=.row (List.map SV.v ((ys x).map (Value.int .u8))) 5 (0,0) (some 1)) (fun b=>?_) (by kernel_rfl) (fun i b h=>by rw[Zl i b h];rfl) (fun ν1 b ob M2 w2 Zs YA hK Yv Z9=>ih (H.put b.1 ob) M2 w2 (E.modify j fun e=>((⟨x.p,x.v,x.k,some ⟨b.1,0,none⟩,x.l,b.2⟩:ak),e.2)) cl _ (hS.next (x:=x) hK Yv (gC ξ YA) (fun a h=>by cases h;exact Z9) (fun e he=>(eU hjE he).elim (fun h=>.inl (by rw[h])) .inr) ⟨YQ,hc⟩ (fun e he=>rA he) fun hc=>inv _ hc (⟨x.p,x.v,x.k,some ⟨b.1,0,none⟩,x.l,b.2⟩:ak) (by unfold KE;rw[(gC (H:=H) (b:=b) (x:=x) ξ YA).cont])) (jG _ _))
     rw[Sc (f:=f.1) (g:=x) (j:=j) (born:=f.2)];simp only[ah,t1,r1,ra,ws,en,c9,aM,YJ,mW,eR,hr,eY,hPI,hh,Yu,x1,x2,x3,eL,c2,hj2,VV,VX,VW];try (repeat' apply And.intro)
     all_goals first|rfl|assumption|exact hh|exact cL _|exact YQ|exact bJ _|decide|(simp;done)|exact iA (fun e=>rfl) E _|exact fD (fun e=>rfl) E _|exact bt (E:=[]) rfl|exact bt rfl|(rw[Wq];rfl)|(rw[ba,Wq];rfl)|(rw[ba];exact bt rfl)|skip
  ·have hm:∀ f∈E,f.1.p≠x.p:=fun f hf h=>hit ⟨f,hf,h⟩;have hms:=wW hm;have ZV:=hI.cr hm;obtain⟨ZA,hdn⟩:=DT ZV;have hnv:¬ (fB x.p xs).v≥x.v:=by rw[ZA];show ¬ (0:Int)≥x.v;omega
   by_cases hl:xs.length≥256
   ·have c3:decide (((E.map mC).length:Int)≥(256:Int))=true:=V0 (by rw[WH];omega);cases hb:ja xs with
    | none=>
     have hr:aY xs x=(xs,24):=by unfold aY;rw[if_neg (by simpa using hc),if_neg hnv,hdn,if_pos hl,hb]
     have hbg:=sv hI.ok (hI.Dr hb);have c4:(!!(jC (E.map mC)).toList==({ data:={ toList:=[]:Array UInt8 } }:ByteArray).toList)=true:=by rw[hbg];simp
     refine af.reach (Bz hM hS.kept.base hX) (k:=2) (n:=400) (o:=(ff [0] true++[(2,.cells (eC x))]++ff [3,6] false++[(8,.cr)]++ff [22,24] true++ff [25] false)) (ren:=[(0,0),(1,1),(2,2),(3,3),(4,4),(5,5)]) (eqs:=[0,4,5]) ?_ (by kernel_rfl) (fun i b h=>by rw[Zl i b h];rfl) (ih H M1 w1 E cl xs hS Yu);rw[SB (f:=x) (g:=x) (j:=0) (born:=0)];simp only[ah,t1,r1,ra,ws,en,c9,aM,YJ,mW,eR,hr,eY,hPI,hh,Yu,x1,x2,x3,eL,c3,c4,VV,VX,VW];try (repeat' apply And.intro)
     all_goals first|rfl|assumption|exact hh|exact cL _|exact YQ|exact bJ _|decide|(simp;done)|exact iA (fun e=>rfl) E _|exact fD (fun e=>rfl) E _|exact bt (E:=[]) rfl|exact bt rfl|(rw[Wq];rfl)|(rw[ba,Wq];rfl)|(rw[ba];exact bt rfl)|skip
    | some e=>
     obtain⟨hba,hex⟩:=hI.Ex hb;have hbg:=sv hI.ok hba;obtain⟨g,hg,hgk⟩:=hI.to hex;have hgp:=(l9 hgk).1;obtain⟨j,hj,hjE⟩:=wo hI.ok.names hg;have hgf:=hI.ok.full g hg;have hj1:∀ e∈List.take j (E.map mC),a8 (jC (E.map mC)) e.fst:=by rw[hbg,<- hgp];exact hj.1
     have hj2:(E.map mC)[j]?=some (SV.v (Value.string (jC (E.map mC))),SV.agg [SV.v (Value.string g.1.1),SV.v (Value.int IntKind.u64 g.1.2),SV.v (Value.int IntKind.i64 g.1.3),SV.v (Value.slice g.1.4 g.1.5 g.1.6)],g.2):=by rw[hj.2,hbg,<- hgp];rfl
     have c4:(!!(jC (E.map mC)).toList==({ data:={ toList:=[]:Array UInt8 } }:ByteArray).toList)=false:=by rw[hbg,<- hgp,ve hgf];rfl
     have hr:aY xs x=(eK x (bg e.p xs),0):=by unfold aY;rw[if_neg (by simpa using hc),if_neg hnv,hdn,if_pos hl,hb]
     have hdl:(bg e.p xs).length<xs.length:=Xu.2 ⟨e,hex,by rw[gv.2 rfl];simp⟩;have hm':∀ f∈E.eraseIdx j,f.1.p≠x.p:=fun f hf=>hm f (XZ hf);have hms':=wW hm';rw[<- ba]at hms'
     have inv:∀ cm:ak->List Int,(∀ e∈E,iO H e.1=cm e.1)->∀ y:ak,KE cm y=KE ys x->Inv cm ys (E.eraseIdx j++[(y,cl)]) (cl+1) (eK x (bg e.p xs)):=fun cm hcm y hy=>by
      have hI:=hI.cont hcm;have hyp:y.p=x.p:=(Prod.mk.inj hy).1;have Zh:=hI.ok.sub (List.eraseIdx_sublist E j);refine Inv.new (Zh.snoc (by rw[hyp];exact hm') (by rw[hyp];exact hxf) (by rw[hyp];exact x1)) ?_ (hI.sorted.drop _) (fun z hz=>ZV z (Wo.1 hz).1) (by omega);refine pQ.trans ?_;rw[nV hI.ok.names hjE,hgp,zu,hy];exact (hI.ZB.filter _).cons _
     by_cases hn:x.a=none
     ·have Zt:er H (⟨x.p,x.v,x.k,none,0,0⟩:ak) (ys x):=.inl ⟨rfl,rfl,ζ hn⟩;have nx:=ih H M1 w1 (E.eraseIdx j++[((⟨x.p,x.v,x.k,none,0,0⟩:ak),cl)]) (cl+1) _ (hS.next (x:=x) hS.kept (Hp.Sub.refl _) Zt (fun a h=>by cases h) (fun e he=>(WJ.1 he).elim (fun h=>.inr (XZ h)) fun h=>.inl (by rw[Wl.1 h])) ⟨YQ,hc⟩ (fun e he=>rA he) fun hc=>inv _ hc (⟨x.p,x.v,x.k,none,0,0⟩:ak) (by unfold KE;rw[Zt.cont])) (jG _ _);refine af.reach (Bz hM hS.kept.base hX) (k:=2) (n:=400) (o:=(ff [0] true++[(2,.cells (eC x))]++ff [3] true++ff [6] false++[(8,.cr)]++ff [22] true++ff [24] false++[(25,.hit j (.agg [.v (.string g.1.p),.v (.int .u64 g.1.v),.v (.int .i64 g.1.k),.v (.slice g.1.a g.1.l g.1.c)]) g.2)]++ff [27] false++[(29,.cr)])) (ren:=[(0,0),(1,1),(2,2),(3,3),(4,4),(5,7)]) (eqs:=[0,4,5]) ?_ (by kernel_rfl) (fun i b h=>by rw[Zl i b h];rfl) nx;rw[Pv (f:=x) (g:=g.1) (j:=j) (born:=g.2)]
      simp only[ah,t1,r1,ra,ws,en,c9,aM,YJ,mW,eR,hr,eY,hPI,hh,Yu,x1,x2,x3,eL,c3,c4,hj2,VV,VX,VW];try (repeat' apply And.intro)
      all_goals first|rfl|assumption|exact hh|exact cL _|exact YQ|exact bJ _|decide|(simp;done)|exact iA (fun e=>rfl) E _|exact fD (fun e=>rfl) E _|exact bt (E:=[]) rfl|exact bt rfl|(rw[Wq];rfl)|(rw[ba,Wq];rfl)|(rw[ba];exact bt rfl)|skip
     ·refine af.fw (Bz hM hS.kept.base hX) hM hS.kept (k:=2) (n:=400) (o:=(ff [0] true++[(2,.cells (eC x))]++ff [3] true++ff [6] false++[(8,.cr)]++ff [22] true++ff [24] false++[(25,.hit j (.agg [.v (.string g.1.p),.v (.int .u64 g.1.v),.v (.int .i64 g.1.k),.v (.slice g.1.a g.1.l g.1.c)]) g.2)]++ff [27] true++[(29,.cr)])) (ren:=[(0,0),(1,1),(2,2),(3,3),(4,4),(5,7)]) (eqs:=[0,4,5]) (m:=4) (j:=12) (so:=.row (List.map SV.v ((ys x).map (Value.int .u8))) 5 (0,0) (some 1)) (fun b=>?_) (by kernel_rfl) (fun i b h=>by rw[Zl i b h];rfl) (fun ν1 b ob M2 w2 Zs YA hK Yv Z9=>ih (H.put b.1 ob) M2 w2 (E.eraseIdx j++[((⟨x.p,x.v,x.k,some ⟨b.1,0,none⟩,x.l,b.2⟩:ak),cl)]) (cl+1) _ (hS.next (x:=x) hK Yv (gC ξ YA) (fun a h=>by cases h;exact Z9) (fun e he=>(WJ.1 he).elim (fun h=>.inr (XZ h)) fun h=>.inl (by rw[Wl.1 h])) ⟨YQ,hc⟩ (fun e he=>rA he) fun hc=>inv _ hc (⟨x.p,x.v,x.k,some ⟨b.1,0,none⟩,x.l,b.2⟩:ak) (by unfold KE;rw[(gC (H:=H) (b:=b) (x:=x) ξ YA).cont])) (jG _ _))
      rw[SY (f:=x) (g:=g.1) (j:=j) (born:=g.2)];simp only[ah,t1,r1,ra,ws,en,c9,aM,YJ,mW,eR,hr,eY,hPI,hh,Yu,x1,x2,x3,eL,c3,c4,hj2,VV,VX,VW];try (repeat' apply And.intro)
      all_goals first|rfl|assumption|exact hh|exact cL _|exact YQ|exact bJ _|decide|(simp;done)|exact iA (fun e=>rfl) E _|exact fD (fun e=>rfl) E _|exact bt (E:=[]) rfl|exact bt rfl|(rw[Wq];rfl)|(rw[ba,Wq];rfl)|(rw[ba];exact bt rfl)|skip
   ·have c3:decide (((E.map mC).length:Int)≥(256:Int))=false:=V2 (by rw[WH];omega);have hr:aY xs x=(eK x xs,0):=by unfold aY;rw[if_neg (by simpa using hc),if_neg hnv,hdn,if_neg hl]
    have inv:∀ cm:ak->List Int,(∀ e∈E,iO H e.1=cm e.1)->∀ y:ak,KE cm y=KE ys x->Inv cm ys (E++[(y,cl)]) (cl+1) (eK x xs):=fun cm hcm y hy=>by
     have hI:=hI.cont hcm;have hyp:y.p=x.p:=(Prod.mk.inj hy).1;refine Inv.new (hI.ok.snoc (by rw[hyp];exact hm) (by rw[hyp];exact hxf) (by rw[hyp];exact x1)) ?_ hI.sorted ZV (by omega);refine pQ.trans ?_;rw[hy];exact hI.ZB.cons _
    by_cases hn:x.a=none
    ·have Zt:er H (⟨x.p,x.v,x.k,none,0,0⟩:ak) (ys x):=.inl ⟨rfl,rfl,ζ hn⟩;have nx:=ih H M1 w1 (E++[((⟨x.p,x.v,x.k,none,0,0⟩:ak),cl)]) (cl+1) _ (hS.next (x:=x) hS.kept (Hp.Sub.refl _) Zt (fun a h=>by cases h) (fun e he=>(WJ.1 he).elim (fun h=>.inr h) fun h=>.inl (by rw[Wl.1 h])) ⟨YQ,hc⟩ (fun e he=>oY he) fun hc=>inv _ hc (⟨x.p,x.v,x.k,none,0,0⟩:ak) (by unfold KE;rw[Zt.cont])) (jG _ _);refine af.reach (Bz hM hS.kept.base hX) (k:=2) (n:=400) (o:=(ff [0] true++[(2,.cells (eC x))]++ff [3] true++ff [6] false++[(8,.cr)]++ff [22] false++ff [24] false++[(26,.cr)])) (ren:=[(0,0),(1,1),(2,2),(3,3),(4,4),(5,7)]) (eqs:=[0,4,5]) ?_ (by kernel_rfl) (fun i b h=>by rw[Zl i b h];rfl) nx;rw[PG (f:=x) (g:=x) (j:=0) (born:=0)];simp only[ah,t1,r1,ra,ws,en,c9,aM,YJ,mW,eR,hr,eY,hPI,hh,Yu,x1,x2,x3,eL,c3,VV,VX,VW];try (repeat' apply And.intro)
     all_goals first|rfl|assumption|exact hh|exact cL _|exact YQ|exact bJ _|decide|(simp;done)|exact iA (fun e=>rfl) E _|exact fD (fun e=>rfl) E _|exact bt (E:=[]) rfl|exact bt rfl|(rw[Wq];rfl)|(rw[ba,Wq];rfl)|(rw[ba];exact bt rfl)|skip
    ·refine af.fw (Bz hM hS.kept.base hX) hM hS.kept (k:=2) (n:=400) (o:=(ff [0] true++[(2,.cells (eC x))]++ff [3] true++ff [6] false++[(8,.cr)]++ff [22] false++ff [24] true++[(26,.cr)])) (ren:=[(0,0),(1,1),(2,2),(3,3),(4,4),(5,7)]) (eqs:=[0,4,5]) (m:=4) (j:=12) (so:=.row (List.map SV.v ((ys x).map (Value.int .u8))) 5 (0,0) (some 1)) (fun b=>?_) (by kernel_rfl) (fun i b h=>by rw[Zl i b h];rfl) (fun ν1 b ob M2 w2 Zs YA hK Yv Z9=>ih (H.put b.1 ob) M2 w2 (E++[((⟨x.p,x.v,x.k,some ⟨b.1,0,none⟩,x.l,b.2⟩:ak),cl)]) (cl+1) _ (hS.next (x:=x) hK Yv (gC ξ YA) (fun a h=>by cases h;exact Z9) (fun e he=>(WJ.1 he).elim (fun h=>.inr h) fun h=>.inl (by rw[Wl.1 h])) ⟨YQ,hc⟩ (fun e he=>oY he) fun hc=>inv _ hc (⟨x.p,x.v,x.k,some ⟨b.1,0,none⟩,x.l,b.2⟩:ak) (by unfold KE;rw[(gC (H:=H) (b:=b) (x:=x) ξ YA).cont])) (jG _ _));rw[VN (f:=x) (g:=x) (j:=0) (born:=0)]
     simp only[ah,t1,r1,ra,ws,en,c9,aM,YJ,mW,eR,hr,eY,hPI,hh,Yu,x1,x2,x3,eL,c3,VV,VX,VW];try (repeat' apply And.intro)
     all_goals first|rfl|assumption|exact hh|exact cL _|exact YQ|exact bJ _|decide|(simp;done)|exact iA (fun e=>rfl) E _|exact fD (fun e=>rfl) E _|exact bt (E:=[]) rfl|exact bt rfl|(rw[Wq];rfl)|(rw[ba,Wq];rfl)|(rw[ba];exact bt rfl)|skip
 ·have en:(!cG x.1 x.2 x.3 x.5==(0:Int))=true:=by simpa using hc
  have hr:aY xs x=(xs,cG x.p x.v x.k x.l):=by unfold aY;rw[if_pos hc]
  refine af.reach (Bz hM hS.kept.base hX) (k:=2) (n:=400) (o:=(ff [0] true++[(2,.cells (eC x))]++ff [3] false++ff [6] true++ff [7] false)) (ren:=[(0,0),(1,1),(2,2),(3,3),(4,4),(5,5)]) (eqs:=[0,4,5]) ?_ (by kernel_rfl) (fun i b h=>by rw[Zl i b h];rfl) (ih H M1 w1 E cl xs hS Yu);rw[Tf (f:=x) (g:=x) (j:=0) (born:=0)];simp only[ah,t1,r1,ra,ws,en,c9,aM,YJ,mW,eR,hr,eY,hPI,hh,Yu,x1,x2,x3,eL, VV,VX,VW];try (repeat' apply And.intro)
  all_goals first|rfl|assumption|exact hh|exact cL _|exact YQ|exact bJ _|decide|(simp;done)|exact iA (fun e=>rfl) E _|exact fD (fun e=>rfl) E _|exact bt (E:=[]) rfl|exact bt rfl|(rw[Wq];rfl)|(rw[ba,Wq];rfl)|(rw[ba];exact bt rfl)|skip
end
theorem U9 (a:Option Addr)(c:Nat):iL (na [] fun _=>[]) 8 100 (a7 (na [] fun _=>[]) 8 [.v (.slice a 0 c)]) VP [(0,1)] [] (.tup [.ptr 0 0,.v (.agg #[.int .u64 0,.slice none 0 0]),.v (.bool true)]) [OX]=[0=0,Value.agg { toList:=[V1 IntKind.u64 0,VT none 0 0]:Array Value }=Value.agg { toList:=[V1 IntKind.u64 0,VT none 0 0]:Array Value },VU true=VU true,V1 IntKind.u64 0=V1 IntKind.u64 0,Value.map none=Value.map none,true=true,true=true]:=by kernel_rfl
theorem Inv.nil {cm ys:ak->List Int}:Inv cm ys [] 0 []:=
 ⟨⟨by simp,by simp,fun e he=>(nomatch he),fun e he=>(nomatch he),fun e he=>(nomatch he)⟩,List.Perm.refl _,List.Pairwise.nil,by simp⟩
theorem St.nil {D:List ak}{ys:ak->List Int}{w0:World}{M:Own}{H:Hp}{M1:Own}{w1:World}(hk:Kept w0.hp M w0 H M1 w1):St D ys w0 M H M1 w1 [] 0 []:=
 ⟨hk,Inv.nil,fun e he=>(nomatch he),fun e he=>(nomatch he)⟩
section
variable {w0:World}{cs0:List Frame}{D:List ak}{ys:ak->List Int}{M:Own}{off c:Nat}{ν:aP}
theorem LB (hX:PX D ys w0)(hM:∀ z,¬ M z)(hD:Gs D){i:Nat}(hi:i<D.length)(Zl:∀ i b,ν i=some b->i=0)
  (ih:∀ H M1 w1 E cl xs,St D ys w0 M H M1 w1 E cl xs->xs≠[]->af (na D ys) M1 w1 cs0 8 (CL D ys w0) ν (SM.at (fO off D.length c ((i+1:Nat):Int)) 6 (iQ (aT eC off D) (E.map mC) cl (cE xs) xs.length)))
  (ih0:∀ H M1 w1,Kept w0.hp M w0 H M1 w1->af (na D ys) M1 w1 cs0 8 (CL D ys w0) ν (SM.at (fO off D.length c ((i+1:Nat):Int)) 6 (uM (aT eC off D))))
  {H:Hp} {M1:Own} {w1:World} (hk:Kept w0.hp M w0 H M1 w1):af (na D ys) M1 w1 cs0 8 (CL D ys w0) ν (SM.at (fO off D.length c (i:Int)) 6 (uM (aT eC off D))):=by
 have hS:=St.nil (D:=D) (ys:=ys) hk;have hI:=hS.inv;generalize hx:D[i]=x;have Zm:D[i]?=some x:=by rw[<- hx];exact V4 hi
 have YQ:x∈D:=by rw[<- hx];exact WS hi
 have YO:=hD.YO;have t1:decide ((i:Int)<(D.length:Int))=true:=V0 (by omega);have r1:=aJ hi;have ws:=aU (k:=i) (by omega);have ra:=gG (off:=off) c9 Zm;have YJ:(aT eC off D).all ab=true:=ca cD;have x1:=hD.size x YQ;obtain⟨x2,x3⟩:=hD.v x YQ;have ξ:(ys x).length=x.l:=(hX.2 x YQ).1;have ζ:x.a=none->ys x=[]:=fun h=>Wd.1 (by rw[ξ,hD.nil x YQ h]);have hPI:gQ [] x:=⟨x1,⟨x2,x3⟩,by simp,fun e he=>(nomatch he)⟩;by_cases hc:cG x.p x.v x.k x.l=0
 ·have en:(!cG x.1 x.2 x.3 x.5==(0:Int))=false:=by rw[show cG x.1 x.2 x.3 x.5=0 from hc];rfl
  have hvp:=Cf hc x2;have hxf:=uW hc
  have hr:aY [] x=(eK x [],0):=by
   unfold aY;rw[if_neg (by simpa using hc),if_neg (by show ¬ (0:Int)≥x.v;omega),if_neg (by show ¬ (0:Nat)≥256;omega)];rfl
  have inv:∀ cm:ak->List Int,∀ y:ak,KE cm y=KE ys x->Inv cm ys ([]++[(y,0)]) (0+1) (eK x []):=fun cm y hy=>by
   have hI:=Inv.nil (cm:=cm) (ys:=ys);have hyp:y.p=x.p:=(Prod.mk.inj hy).1;refine Inv.new (hI.ok.snoc (fun e he=>by cases he) (by rw[hyp];exact hxf) (by rw[hyp];exact x1)) ?_ hI.sorted (fun e he=>by cases he) (by simp);refine pQ.trans ?_;rw[hy];exact hI.ZB.cons _
  by_cases hn:x.a=none
  ·have Zt:er H (⟨x.p,x.v,x.k,none,0,0⟩:ak) (ys x):=.inl ⟨rfl,rfl,ζ hn⟩;have nx:=ih H M1 w1 ([]++[((⟨x.p,x.v,x.k,none,0,0⟩:ak),0)]) (0+1) _ (hS.next (x:=x) hS.kept (Hp.Sub.refl _) Zt (fun a h=>by cases h) (fun e he=>.inl (by rw[Wl.1 he])) ⟨YQ,hc⟩ (fun e he=>oY he) fun _=>inv _ (⟨x.p,x.v,x.k,none,0,0⟩:ak) (by unfold KE;rw[Zt.cont])) (jG _ _);refine af.reach (Bz hM hS.kept.base hX) (k:=2) (n:=400) (o:=(ff [0] true++[(2,.cells (eC x))]++ff [3] true++ff [6] false++ff [23] false)) (ren:=[(0,0),(1,1),(2,2),(3,3),(4,10),(5,5)]) (eqs:=[0,4,5]) ?_ (by kernel_rfl) (fun i b h=>by rw[Zl i b h];rfl) nx;rw[SG];simp only[ah,t1,r1,ra,ws,en,c9,aM,YJ,mW,hr,eY,hPI,x1,x2,x3,eL,VV,VX,VW];try (repeat' apply And.intro)
   all_goals first|rfl|assumption|exact cL _|exact YQ|decide|(simp;done)|skip
  ·refine af.fw (Bz hM hS.kept.base hX) hM hS.kept (k:=2) (n:=400) (o:=(ff [0] true++[(2,.cells (eC x))]++ff [3] true++ff [6] false++ff [23] true)) (ren:=[(0,0),(1,1),(2,2),(3,3),(4,10),(5,5)]) (eqs:=[0,4,5]) (m:=10) (j:=11) (so:=.row (List.map SV.v ((ys x).map (Value.int .u8))) 5 (0,0) (some 1)) (fun b=>?_) (by kernel_rfl) (fun i b h=>by rw[Zl i b h];rfl) (fun ν1 b ob M2 w2 Zs YA hK Yv Z9=>ih (H.put b.1 ob) M2 w2 ([]++[((⟨x.p,x.v,x.k,some ⟨b.1,0,none⟩,x.l,b.2⟩:ak),0)]) (0+1) _ (hS.next (x:=x) hK Yv (gC ξ YA) (fun a h=>by cases h;exact Z9) (fun e he=>.inl (by rw[Wl.1 he])) ⟨YQ,hc⟩ (fun e he=>oY he) fun _=>inv _ (⟨x.p,x.v,x.k,some ⟨b.1,0,none⟩,x.l,b.2⟩:ak) (by unfold KE;rw[(gC (H:=H) (b:=b) (x:=x) ξ YA).cont])) (jG _ _));rw[Rz];simp only[ah,t1,r1,ra,ws,en,c9,aM,YJ,mW,hr,eY,hPI,x1,x2,x3,eL,VV,VX,VW];try (repeat' apply And.intro)
   all_goals first|rfl|assumption|exact cL _|exact YQ|exact bJ _|decide|(simp;done)|exact bt (E:=[]) rfl|skip
 ·have en:(!cG x.1 x.2 x.3 x.5==(0:Int))=true:=by simpa using hc
  have hr:aY [] x=([],cG x.p x.v x.k x.l):=by unfold aY;rw[if_pos hc]
  refine af.reach (Bz hM hS.kept.base hX) (k:=2) (n:=300) (o:=(ff [0] true++[(2,.cells (eC x))]++ff [3] false++ff [6] true++ff [7] false)) (ren:=[(0,0),(1,1),(2,2),(3,3)]) (eqs:=[0]) ?_ (by kernel_rfl) (fun i b h=>by rw[Zl i b h];rfl) (ih0 H M1 w1 hk);rw[R6];simp only[ah,t1,r1,ra,ws,en,c9,aM,YJ,mW,hr,eY,hPI,x1,x2,x3,VV,VX,VW];try (repeat' apply And.intro)
  all_goals first|rfl|assumption|exact cL _|exact YQ|decide|(simp;done)|skip
theorem iE (hM:∀ z,¬ M z){M1 M3:Own}{w1 w3:World}{H:Hp}(hk:Kept w0.hp M w0 H M1 w1){b:Nat}(h:w1.heap.size<=b\/M1 b):w0.heap.size<=b:=by
 rcases hk.base.own _ h with h|h
 ·exact h
 ·exact absurd h (hM _)
theorem N2 (hX:PX D ys w0)(hM:∀ z,¬ M z)(hD:Gs D){H:Hp}{M1:Own}{w1:World}(hk:Kept w0.hp M w0 H M1 w1){S:SM}{n:Nat}{o:List (Nat × gR)}{ren:List (Nat × Nat)}
  (h:mX (iL (na D ys) 8 n S o ren [] (.tup [.ptr 0 0,.v (.agg #[.int .u64 0,.slice none 0 0]),.v (.bool true)]) [OX])):
  af (na D ys) M1 w1 cs0 8 (CL D ys w0) ν S:=by
 refine af.iL (Bz hM hk.base hX) h.out fun ν' w' y hle hv hE hh=>?_;obtain⟨M3,w3,s',hB,hr⟩:=hh;have YP:=aB hM (hk.base.trans hB) hr;obtain⟨a,rfl,ha⟩:=VR.cz.1 hv;obtain⟨y1,a,rfl,q1,ha⟩:=ha.cons_inv;obtain⟨y2,a,rfl,q2,ha⟩:=ha.cons_inv;obtain⟨y3,a,rfl,q3,ha⟩:=ha.cons_inv;obtain rfl:=ha.ay;obtain⟨b,hb,rfl⟩:=VR.aF.1 q1;obtain rfl:=VR.ae.1 q2;obtain rfl:=VR.ae.1 q3;obtain⟨b',ob,Yy,ho,YA,hw⟩:=hE.obj 0 _ _ rfl;rw[hb]at Yy;cases Yy;refine⟨YP,b.1,_,rfl,iE (M3:=M3) (w3:=w3) hM hk (hw rfl),.inl ⟨?_,rfl⟩⟩;obtain⟨zs,rest,rfl,hz,hx⟩:=YA;obtain⟨z1,u,rfl,r1,hu⟩:=hz.cons_inv;obtain⟨z2,u2,rfl,r2,Ξ⟩:=hu.cons_inv;obtain rfl:=Ξ.ay;obtain rfl:=VR.ae.1 r1;obtain rfl:=VR.ae.1 r2
 have h0:rest=[]:=by
  have:([Value.int .u64 0,Value.map none]++rest).length=2:=hx;simpa using this
 subst h0;rw[ho];rfl
theorem PT (hX:PX D ys w0)(hM:∀ z,¬ M z)(hD:Gs D){H:Hp}{M1:Own}{w1:World}{E:List bH}{cl:Nat}{xs:List ak}(hS:St D ys w0 M H M1 w1 E cl xs)(Yu:xs≠[]){i:Int}(hi:¬ i<(D.length:Int)):
  af (na D ys) M1 w1 cs0 8 (CL D ys w0) ν (SM.at (fO off D.length c i) 6 (iQ (aT eC off D) (E.map mC) cl (cE xs) xs.length)):=by
 refine af.iL (Bz hM hS.kept.base hX) (n:=100) (o:=ff [0] false) (ren:=[(0,2),(1,4),(2,5)]) (eqs:=[1,2]) (x:=.tup [.ptr 0 0,.agg [.v (.int .u64 0),.sl 2 0 xs.length none],.v (.bool true)]) (l:=[QW,LS (E.map mC) cl,fx (cE xs)]) ?_ fun ν' w' y hle hv hE hh=>?_
 ·rw[SC];simp only[ah,eY,aM,V2 hi,VV,VX,VW]
 obtain⟨M3,w3,s',hB,hr⟩:=hh;have YP:=aB hM (hS.kept.base.trans hB) hr;have hnow:=hS.kept.now hB hr;obtain⟨a,rfl,ha⟩:=VR.cz.1 hv;obtain⟨y1,a,rfl,q1,ha⟩:=ha.cons_inv;obtain⟨y2,a,rfl,q2,ha⟩:=ha.cons_inv;obtain⟨y3,a,rfl,q3,ha⟩:=ha.cons_inv;obtain rfl:=ha.ay;obtain⟨b,hb,rfl⟩:=VR.aF.1 q1;obtain⟨g,rfl,hg⟩:=VR.bx.1 q2;obtain⟨g1,g,rfl,p1,hg⟩:=hg.cons_inv;obtain⟨g2,g,rfl,p2,hg⟩:=hg.cons_inv;obtain rfl:=hg.ay;obtain rfl:=VR.ae.1 p1;obtain rfl:=VR.ae.1 q3;obtain⟨b',ob,Yy,ho,YA,hw⟩:=hE.obj 0 _ _ rfl;rw[hb]at Yy;cases Yy;obtain⟨bm,om,hbm,hom,horm,hwm⟩:=hE.obj 1 _ _ rfl;obtain⟨br,orr,hbr,hor2,horr,hwr⟩:=hE.obj 2 _ _ rfl
 have hcont:∀ e∈E,iO H e.1=iO w'.hp e.1:=fun e he=>by
  obtain⟨zs,hz,_⟩:=hS.data e he;rw[hz.cont,(hz.mono hnow).cont]
 refine⟨YP,b.1,_,rfl,iE (M3:=M3) (w3:=w3) hM hS.kept (hw rfl),.inr ⟨bm.1,E,cl,xs,g2,iE (M3:=M3) (w3:=w3) hM hS.kept (hwm rfl),⟨?_,?_⟩,rfl,?_,hS.inv.cont hcont,fun e he=>?_,hS.sub,Yu⟩⟩
 ·obtain⟨zs,rest,rfl,hz,hx⟩:=YA;obtain⟨z1,u,rfl,r1,hu⟩:=hz.cons_inv;obtain⟨z2,u2,rfl,r2,Ξ⟩:=hu.cons_inv;obtain rfl:=Ξ.ay;obtain rfl:=VR.ae.1 r1;obtain⟨bm',hbm',rfl⟩:=VR.cQ.1 r2;rw[hbm]at hbm';cases hbm'
  have h0:rest=[]:=by
   have:([Value.int .u64 0,Value.map (some bm.1)]++rest).length=2:=hx;simpa using this
  subst h0;rw[ho];rfl
 ·obtain⟨l,rfl,hl⟩:=horm;rw[hom,xq hl]
 ·refine cF.gb p2 hbr hor2 horr (iE (M3:=M3) (w3:=w3) hM hS.kept (hwr rfl)) fun zs hz=>xx hz
 ·obtain⟨zs,hz,hn⟩:=hS.data e he;exact⟨zs,hz.mono hnow,hn⟩
theorem Dh (hX:PX D ys w0)(hM:∀ z,¬ M z)(hD:Gs D)(Zl:∀ i b,ν i=some b->i=0):∀ (j i:Nat),i+j=D.length->∀ H M1 w1 E cl xs,St D ys w0 M H M1 w1 E cl xs->xs≠[]->
  af (na D ys) M1 w1 cs0 8 (CL D ys w0) ν (SM.at (fO off D.length c (i:Int)) 6 (iQ (aT eC off D) (E.map mC) cl (cE xs) xs.length))
 | 0,i,hj,H,M1,w1,E,cl,xs,hS,Yu=>PT hX hM hD hS Yu (by omega)
 | j+1,i,hj,H,M1,w1,E,cl,xs,hS,Yu=>L3 hX hM hD (by omega) Zl (fun H M1 w1 E cl xs hS Yu=>Dh hX hM hD Zl j (i+1) (by omega) H M1 w1 E cl xs hS Yu) hS Yu
theorem Co (hX:PX D ys w0)(hM:∀ z,¬ M z)(hD:Gs D)(Zl:∀ i b,ν i=some b->i=0):∀ (j i:Nat),i+j=D.length->∀ H M1 w1,Kept w0.hp M w0 H M1 w1->
  af (na D ys) M1 w1 cs0 8 (CL D ys w0) ν (SM.at (fO off D.length c (i:Int)) 6 (uM (aT eC off D)))
 | 0,i,hj,H,M1,w1,hk=>by
  refine N2 hX hM hD hk (n:=100) (o:=ff [0] false) (ren:=[(0,2)]) ⟨?_⟩
  rw[Vz]
  simp only[ah,V2 (show ¬ (i:Int)<(D.length:Int) by omega),VV,VX,VW]
 | j+1,i,hj,H,M1,w1,hk=>LB hX hM hD (by omega) Zl (fun H M1 w1 E cl xs hS Yu=>Dh hX hM hD Zl j (i+1) (by omega) H M1 w1 E cl xs hS Yu) (fun H M1 w1 hk=>Co hX hM hD Zl j (i+1) (by omega) H M1 w1 hk) hk
end
theorem yZ {W:World}{D:List ak}{ys:ak->List Int}{b off c:Nat}{cs:Array Value}{e:TypeId}{fz:Nat × Nat}(hX:PX D ys W)(hD:Gs D)(ZF:D.length<=c)(hh:W.heap[b]?=some (.cells cs e fz))(Y4:off<=cs.size)(hc:∀ (k:Nat) (v:Value),(D.flatMap eV)[k]?=some v->cs[off+k]?=some v):
  Calls Tryz.prog 8 #[.slice (some ⟨b,off,none⟩) D.length c] W (CL D ys W):=by
 refine aW (E:=na D ys) rfl (d:=6) (l:=[(b,0)]) (os:=[.look (aT eC off D)]) rfl (by simp) (by simp) ?_ rfl (args:=[.sl 0 off D.length (some c)]) (a:=[.slice (some ⟨b,off,none⟩) D.length c]) (S0:=F9 D ys (aT eC off D) off D.length c) (by kernel_rfl) (au.cons (VR.aL.2 ⟨(b,0),rfl,ZF,rfl⟩) au.nil) fun cs0=>?_
 ·intro j o' b' c' h1 h2;match j with
  | 0=>
   simp only[Wa,Option.some.injEq]at h1 h2;subst h1;cases h2;exact⟨_,hh,eJ (h:=eV) (fun ν x=>au.lits ν (eV x)) Y4 hc⟩
  | j+1=>simp at h1
 ·have hM:∀ z,¬ (aD [(b,0)] ([SO.look (aT eC off D)].map fun o=>(o,false))) z:=fun z=>aZ;have hν:∀ i c,aA [(b,0)] i=some c->i=0:=fun i c h=>dj h
  have hK:=Kept.start (H0:=W.hp) (M:=aD [(b,0)] ([SO.look (aT eC off D)].map fun o=>(o,false))) (w:=W) (Hp.Sub.refl _) (fun z o _=>hM z) (dN (by
   intro j o' m b' c' h1 h2;match j with
   | 0=>
    simp only[WC,Wa,Option.some.injEq]at h1 h2;cases h1;cases h2;exact⟨_,hh,eJ (h:=eV) (fun ν x=>au.lits ν (eV x)) Y4 hc⟩
   | j+1=>simp at h1)) (fun _ h=>h)
  have YJ:(aT eC off D).all ab=true:=ca cD;refine af.reach (Bz hM hK.base hX) (k:=2) (n:=60) (o:=VP) (ren:=[(0,0),(1,1),(2,2),(3,3)]) (eqs:=[0]) (F:=fO off D.length c 0) (d:=6) (l:=uM (aT eC off D)) ?_ (by kernel_rfl) (fun i b h=>by rw[hν i b h];rfl) (Co hX hM hD hν D.length 0 (by omega) W.hp _ W hK);rw[Q2];simp only[ah,YJ,VV,VX,VW]
theorem Ao {W:World}(hm:MX W)(ys:ak->List Int)(a:Option Addr)(c:Nat):Calls Tryz.prog 8 #[.slice a 0 c] W (CL [] ys W):=by
 have hX:PX [] (fun _=>[]) W:=⟨hm,fun x hx=>(nomatch hx)⟩;have hD:Gs []:=⟨fun x hx=>(nomatch hx),fun x hx=>(nomatch hx),fun x hx=>(nomatch hx),WW _⟩
 have:Calls Tryz.prog 8 #[.slice a 0 c] W (CL [] (fun _=>[]) W):=by
  refine bP (E:=na [] fun _=>[]) rfl rfl (args:=[.v (.slice a 0 c)]) (a:=[.slice a 0 c]) (S0:=a7 (na [] fun _=>[]) 8 [.v (.slice a 0 c)]) (by kernel_rfl) (au.cons (VR.ae.2 rfl) au.nil) fun cs0=>?_;have hK:=Kept.start (H0:=W.hp) (M:=aD [] []) (w:=W) (Hp.Sub.refl _) (fun z o _=>aE z) (fun z h=>by obtain⟨i,o,c,h,_⟩:=h;simp at h) (fun _ h=>h);refine N2 hX aE hD hK (n:=100) (o:=VP) (ren:=[(0,1)]) ⟨?_⟩;rw[U9];simp only[ah,VV,VX,VW]
 refine this.mono fun e w' ⟨h1,b,v,h2,h3,h4⟩=>⟨h1,b,v,h2,h3,?_⟩;rcases h4 with h|⟨m,E,cl,xs,y,_,_,_,_,_,_,h,Yu⟩
 ·exact .inl h
 ·exfalso;cases xs with
  | nil=>exact Yu rfl
  | cons z zs=>exact absurd (h z Wj) (by simp)
def E3:Env:=EP [] []
def Gh (l:List SV)(off n c:Nat):SM:=(a6 E3 5 [.sl 0 off n (some c)] (bG 6 1 0 [cv l])).getD dn
def Ld:List SI:=dA E3 2 60 (Gh [] 0 0 0) VP
def AR (off n c:Nat)(z i:Int):SF:={ fn:=5,tm:=e9 30 5 ([.sl 0 off n (some c),.aH,.aH,.v (.int .i64 z),.aH,.aH,.sl 0 off n (some c),.v (.int .i64 n),.v (.int .i64 i)]++List.replicate 21 .aH),todo:=Ld,defers:=[],ret:=false,kind:=.normal,ro:=none }
theorem PE (l:List SV)(off n c:Nat):reach E3 2 60 (Gh l off n c) VP [(0,0)] [0] (AR off n c 0 0) 6 [cv l]=[off=off/\n=n/\some c=some c,vZ 0=vZ 0,off=off/\n=n/\some c=some c,vZ (↑n:Int)=vZ (↑n:Int),vZ 0=vZ 0,l=l,l.all ab=true]:=by kernel_rfl
theorem Pr (l:List SV)(off n c:Nat)(x:ak)(z i z' i':Int):reach E3 2 60 (SM.at (AR off n c z i) 6 [cv l]) (ff [0] true++[(2,.cells (eC x))]) [(0,0)] [0] (AR off n c z' i') 6 [cv l]=[off=off/\n=n/\some c=some c,vZ (IntKind.i64.wrap (z+IntKind.i64.wrap ((↑x.1.size:Int)+(↑x.5:Int))))=vZ z',off=off/\n=n/\some c=some c,vZ (↑n:Int)=vZ (↑n:Int),vZ (IntKind.i64.wrap (i+1))=vZ i',l=l,l.all ab=true,List.take 4 (List.drop (off+i.toNat*4) l)=eC x/\(eC x).length=4,ai i n=true,decide (i<(↑n:Int))=true]:=by kernel_rfl
theorem PO (l:List SV)(off n c:Nat)(z i:Int)(b:Bool):ao E3 5 60 (SM.at (AR off n c z i) 6 [cv l]) (ff [0] false++ff [1,2,3,4,5] true) (.bool b)=[VU (decide ((↑n:Int)<=400))=VU b,decide (z<=20000)=true,decide (z<=20000)=true,decide (z<=20000)=true,decide (z<=20000)=true,decide (i<(↑n:Int))=false]:=by kernel_rfl
theorem Vs (l:List SV)(off n c:Nat)(z i:Int)(b:Bool):ao E3 5 60 (SM.at (AR off n c z i) 6 [cv l]) (ff [0] false++ff [1,2,3,4,5] false) (.bool b)=[VU false=VU b,decide (z<=20000)=false,decide (z<=20000)=false,decide (z<=20000)=false,decide (z<=20000)=false,decide (i<(↑n:Int))=false]:=by kernel_rfl
theorem Vh (a:Option Addr)(c:Nat)(b:Bool):ao E3 5 60 (a7 E3 5 [.v (.slice a 0 c)]) (ff [1000] true) (.bool b)=[VU true=VU b]:=by kernel_rfl
def rm (z:Int)(xs:List ak):Int:=xs.foldl (fun n e=>IntKind.i64.wrap (n+IntKind.i64.wrap ((e.p.size:Int)+(e.l:Int)))) z
def iu (xs:List ak):Bool:=decide (rm 0 xs<=20000)&&decide ((xs.length:Int)<=400)
theorem DP (z:Int)(xs:List ak)(e:ak):rm z (xs++[e])=IntKind.i64.wrap (rm z xs+IntKind.i64.wrap ((e.p.size:Int)+(e.l:Int))):=by
 unfold rm;rw[Yn];rfl
theorem Nh {M:Own}{w0:World}:aK E3 M w0:=fM fun r h=>by cases h
section
variable {M:Own}{w0:World}{cs0:List Frame}{R:Ending->World->Prop}{ν:aP}{xs:List ak}{off c:Nat}
theorem Ho (hν:∀ i b,ν i=some b->i=0)(hl:xs.length<=9223372036854775807)(hM:∀ b,¬ M b)(hR:∀ w',Below w0.heap.size w0 w'->R (.returned (.bool (iu xs))) w'):
  ∀ (j k:Nat),k+j=xs.length->af E3 M w0 cs0 5 R ν (SM.at (AR off xs.length c (rm 0 (xs.take k)) k) 6 [cv (aT eC off xs)])
 | 0,k,hk=>by
  have hk:k=xs.length:=by omega
  by_cases h:rm 0 (xs.take k)<=20000
  ·refine af.ao Nh (n:=60) (o:=ff [0] false++ff [1,2,3,4,5] true) (v:=.bool (iu xs)) ?_ fun ν' M1 w1 s' w' _ hB hr=>hR _ (aB hM hB hr)
   rw[PO]
   simp only[ah,h,decide_true,hk,Int.lt_irrefl,decide_false,VW,VX]
   unfold iu
   rw[hk,XC]at h
   simp[h]
  ·refine af.ao Nh (n:=60) (o:=ff [0] false++ff [1,2,3,4,5] false) (v:=.bool (iu xs)) ?_ fun ν' M1 w1 s' w' _ hB hr=>hR _ (aB hM hB hr)
   rw[Vs]
   simp only[ah,h,decide_true,hk,Int.lt_irrefl,decide_false,VW,VX]
   unfold iu
   rw[hk,XC]at h
   simp[h]
 | j+1,k,hk=>by
  have hi:k<xs.length:=by omega
  have hxk:xs[k]?=some xs[k]:=V4 hi
  have t1:decide ((k:Int)<(xs.length:Int))=true:=V0 (by omega)
  have r1:=aJ hi
  have ws:IntKind.i64.wrap ((k:Int)+1)=((k+1:Nat):Int):=by rw[wi (by omega)];omega
  have ra:=gG (off:=off) c9 hxk
  have YJ:(aT eC off xs).all ab=true:=ca cD
  have nx:=Ho hν hl hM hR j (k+1) (by omega)
  rw[Wp hi,DP]at nx
  refine af.reach Nh (k:=2) (n:=60) (o:=(ff [0] true++[(2,.cells (eC xs[k]))])) (ren:=[(0,0)]) (eqs:=[0]) ?_ (by kernel_rfl) (fun i b h=>by rw[hν i b h];rfl) nx
  rw[Pr]
  simp only[ah,V5,t1,r1,ws,ra,YJ,c9,VV,VX,VW]
  try (repeat' apply And.intro)
  all_goals first|rfl|exact ws.symm|exact ws|skip
end
section
variable {H:Type}{enc:TypeId × Value->H}{P:Program}{W:World}{base:Nat}{spare:Nat->Bool}{held:Bool}
theorem gd {t ft:TypeId}{i o k n:Nat}{cs:List Value}{x:DataW H × List MemPlace}(h:DataW.trod enc P W base spare held n t cs=some x)(hs:P.underlying t=some (.struct (structFields P t)))(hf:(structFields P t)[i]?=some (fieldAt P t i))
  (ho:(fieldAt P t i).offset=o) (hty:(fieldAt P t i).type=ft) (hk:P.cellsOf ft=k):∃ n' y,DataW.trod enc P W base spare held n' ft ((cs.drop o).take k)=some y/\∀ q∈y.1.weights P ft,q∈x.1.weights P t:=by
 subst ho hty hk;obtain⟨xs,n',_,hx,_,hlen,hg⟩:=DataW.trod_struct hs h;have hi:i<xs.length:=by rw[hlen];exact (VY.1 hf).1
 have:=hg i _ hf;rw[V4 hi]at this;refine⟨n',_,this,fun q hq=>?_⟩;rw[hx];unfold DataW.weights;rw[hs];refine DataW.weights_mem_each (j:=i) (t:=(fieldAt P t i).type) (d:=xs[i].1) ?_ (by simp[hi]) q hq;rw[Wv,Array.getElem?_toList,hf];rfl
theorem Fi {e:TypeId}:∀ {l:List (DataW H)} {d:DataW H},d∈l->∀ {q:Nat},q∈d.weights P e->q∈DataW.weightsAll P e l
 | x::l,d,hd,q,hq=>by
  unfold DataW.weightsAll
  rcases V8.1 hd with rfl|hd
  ·exact Xe _ hq
  ·exact Xq _ (Fi hd hq)
theorem wy {α:Type}{h:α->List Value}{C:Nat}(hC0:0<C)(hh:∀ r,(h r).length=C){t e:TypeId}{a:Option Addr}{l c n:Nat}{x:DataW H × List MemPlace}
  (hform:∀ (vs:List Value) (n:Nat) (y:DataW H × List MemPlace),DataW.trod enc P W base spare held n e vs=some y->(∀ q∈y.1.weights P e,q∈x.1.weights P t)->∃ r,vs=h r)
  (ht:P.underlying t=some (.slice e)) (hC:P.cellsOf e=C) (hd:DataW.trod enc P W base spare held n t [.slice a l c]=some x):CZ h W a l c:=by
 rcases Deep.open_slice ht hd with ⟨h0,_⟩|⟨a',len,cap,m,n',D,Pl,hcs,hb,hl,hm,hmm,hxx,hi⟩
 ·cases h0;exact⟨⟨Wx _,WW _⟩,.inl rfl⟩
 ·cases hcs;refine⟨⟨hl,hm⟩,?_⟩;by_cases hl0:l=0
  ·exact .inl hl0
  right;have hlm:l<=m:=by rw[hmm];split<;>omega
  have Z7:∀ i,i<l->∃ r:α,∀ j,j<C->W.cell? (a'.add (i*C+j))=(h r)[j]?:=by
   intro i hil;obtain⟨κ,hc,htr⟩:=hi i (by omega);rw[hC]at hc;obtain⟨_,YJ,hat⟩:=World.cells?_some hc
   obtain⟨r,hr⟩:=hform κ _ _ htr fun q hq=>by
    rw[hxx];unfold DataW.weights;rw[ht];exact Wc _ (Xe _ (Fi (Wb.2 ⟨i,Xd.2 hil,rfl⟩) hq))
   refine⟨r,fun j hj=>?_⟩;have:=hat j hj;rw[<- hr,<- this,Deep.add_add]
  obtain⟨F,hF⟩:∃ F:Nat->α,∀ i,i<l->∀ j,j<C->W.cell? (a'.add (i*C+j))=(h (F i))[j]?:=by
   obtain⟨r0,_⟩:=Z7 0 (by omega);refine⟨fun i=>if hi:i<l then Classical.choose (Z7 i hi) else r0,fun i hi=>?_⟩;simp only[dif_pos hi];exact XU (Z7 i hi)
  have h00:=hF 0 (by omega) 0 hC0;have hv0:∃ v,(h (F 0))[0]?=some v:=⟨_,V4 (by rw[hh];exact hC0)⟩;obtain⟨v0,hv0⟩:=hv0;rw[hv0,Nat.zero_mul,X6]at h00;have ha0:a'.add 0=a':=by simp[Addr.add]
  rw[ha0]at h00;unfold World.cell? at h00;split at h00
  ·rename_i cs el fz hheap
   have hsp:a'.spot=none:=by
    cases hs:a'.spot with
    | none=>rfl
    | some s=>rw[hs]at h00;simp at h00
   rw[hsp]at h00;simp only[Option.isSome_none,Xj,Yf]at h00;have Y4:=(VY.1 h00).1;obtain⟨b,off,sp⟩:=a';simp only at hsp hheap Y4;subst hsp;refine⟨b,off,(List.range l).map F,cs,el,fz,rfl,by simp,hheap,by omega,fun k v hk=>?_⟩;obtain⟨x,h1,h2⟩:=qJ hC0 hh hk;rw[Wv]at h1;obtain⟨i,h3,rfl⟩:=Wg.1 h1;obtain⟨YD,h3⟩:=WB.1 h3;rw[List.getElem_range]at h3;simp only[List.length_range]at YD;subst h3;have:=hF (k / C) YD (k % C) (Yb _ hC0);rw[h2]at this;have e:k / C*C+k % C=k:=by rw[Nat.mul_comm];exact Nat.div_add_mod k C
   rw[e,di,cV hheap]at this;exact this
  ·cases h00
theorem ux:∀ xs:List { n:Int // 0<=n/\n<256 },(xs.flatMap fun r=>[Value.int .u8 r.1])=xs.map fun r=>Value.int .u8 r.1
 | []=>rfl
 | x::xs=>by rw[XL,ux xs];rfl
theorem zT {t e:TypeId}{a:Option Addr}{l c n:Nat}{x:DataW H × List MemPlace}(ht:P.underlying t=some (.slice e))(he:P.underlying e=some (.int .u8))(hC:P.cellsOf e=1)(hB:P.bytesOf e=1)
  (hd:DataW.trod enc P W base spare held n t [.slice a l c]=some x) (hw:∀ q∈x.1.weights P t,q<=reachBytes):(a=none->l=0)/\l<=reachBytes/\∃ ys:List Int,e8 W a l ys/\∀ y∈ys,0<=y/\y<256:=by
 have hr:CZ (fun r:{ n:Int // 0<=n/\n<256 }=>[Value.int .u8 r.1]) W a l c:=wy (C:=1) (by decide) (fun _=>rfl) (fun vs n' y h _=>by
  obtain⟨n1,hn1,_,hwf⟩:=DataW.trod_int he h
  have:0<=n1/\n1<256:=by
   have:=hwf;simp[Lit.wf,IntKind.has,IntKind.min,IntKind.max,IntKind.bits,IntKind.signed]at this;omega
  exact⟨⟨n1,this⟩,hn1⟩) ht hC hd
 have hlen:(a=none->l=0)/\l<=reachBytes:=by
  rcases Deep.open_slice ht hd with ⟨h0,_⟩|⟨a',len,cap,m,n',D,Pl,hcs,hb,hl,hm,hmm,hxx,hi⟩
  ·cases h0;exact⟨fun _=>rfl,WW _⟩
  ·cases hcs;refine⟨fun h=>(nomatch h),?_⟩
   have:=hw (((List.range l).map D).length*1+(((List.range (m - l)).map fun j=>D (l+j)).length)*1) (by
    rw[hxx];unfold DataW.weights;rw[ht];dsimp only;rw[hB,<- XX];exact Wj)
   simp only[WH,List.length_range]at this;omega
 refine⟨hlen.1,hlen.2,?_⟩;have ZM:reachBytes<=140737488355328:=by decide
 obtain⟨_,rfl|⟨b,off,xs,cs,e',fz,rfl,rfl,hh,Y4,hc⟩⟩:=hr
 ·exact⟨[],⟨rfl,WW _,fun b _ i hi=>absurd hi (by omega)⟩,fun y hy=>(nomatch hy)⟩
 ·refine⟨xs.map (·.1),⟨by simp,Wh hlen.2 ZM,fun b' Yy i hi W' hW=>?_⟩,fun y hy=>?_⟩
  ·cases Yy;have YD:=(VY.1 hh).1
   have h1:(xs.flatMap fun r=>[Value.int .u8 r.1])[i]?=some (.int .u8 ((xs.map (·.1)).getD i 0)):=by
    have:=ux xs;rw[this,Wv,V4 hi];simp[Xo,hi]
   have h2:=hc i _ h1;rw[di,cV (by rw[hW b YD];exact hh)];exact h2
  ·obtain⟨r,_,rfl⟩:=Wb.1 hy;exact r.2
end
inductive lB (W:World) (a:Option Addr) (l c:Nat) (D:List ak):Prop where
 | none (hl:l=0) (hD:D=[])
 | some (b off:Nat) (cs:Array Value) (e:TypeId) (fz:Nat × Nat) (ha:a=.some ⟨b,off,.none⟩) (hl:D.length=l) (ZF:l<=c) (hh:W.heap[b]?=.some (.cells cs e fz)) (Y4:off<=cs.size) (hc:∀ (k:Nat) (v:Value),(D.flatMap eV)[k]?=.some v->cs[off+k]?=.some v)
theorem lB.keep {W w:World}{a:Option Addr}{l c:Nat}{D:List ak}(h:lB W a l c D)(hk:∀ k,k<W.heap.size->w.heap[k]?=W.heap[k]?):lB w a l c D:=by
 rcases h with ⟨hl,hD⟩|⟨b,off,cs,e,fz,ha,hl,ZF,hh,Y4,hc⟩
 ·exact .none hl hD
 ·exact .some b off cs e fz ha hl ZF ((hk b (VY.1 hh).1).trans hh) Y4 hc
structure qK (W:World)(x:ak):Prop where
 p:x.p.size<=reachBytes
 v:0<=x.v/\x.v<18446744073709551616
 nil:x.a=none->x.l=0
 l:x.l<=reachBytes
 ys:∃ ys:List Int,e8 W x.a x.l ys/\∀ y∈ys,0<=y/\y<256
section
variable {H:Type}{enc:TypeId × Value->H}{W:World}{base:Nat}{spare:Nat->Bool}{held:Bool}
theorem Hn {vs:List Value}{n:Nat}{y:DataW H × List MemPlace}(h:DataW.trod enc Tryz.prog W base spare held n 50 vs=some y)(hw:∀ q∈y.1.weights Tryz.prog 50,q<=reachBytes):∃ r:{ x:ak // qK W x },vs=eV r.1:=by
 have hs:Tryz.prog.underlying 50=some (.struct (structFields Tryz.prog 50)):=by kernel_rfl
 obtain⟨xs,n',_,_,hl,_,_⟩:=DataW.trod_struct hs h;have hl:vs.length=4:=hl.trans (by kernel_rfl);obtain⟨n0,y0,h0,w0⟩:=gd (i:=0) (o:=0) (ft:=9) (k:=1) h hs (by kernel_rfl) (by kernel_rfl) (by kernel_rfl) (by kernel_rfl);obtain⟨n1,y1,h1,w1⟩:=gd (i:=1) (o:=1) (ft:=32) (k:=1) h hs (by kernel_rfl) (by kernel_rfl) (by kernel_rfl) (by kernel_rfl);obtain⟨n2,y2,h2,w2⟩:=gd (i:=2) (o:=2) (ft:=46) (k:=2) h hs (by kernel_rfl) (by kernel_rfl) (by kernel_rfl) (by kernel_rfl);have hs2:Tryz.prog.underlying 46=some (.struct (structFields Tryz.prog 46)):=by kernel_rfl
 obtain⟨n3,y3,h3,w3⟩:=gd (i:=0) (o:=0) (ft:=3) (k:=1) h2 hs2 (by kernel_rfl) (by kernel_rfl) (by kernel_rfl) (by kernel_rfl);obtain⟨n4,y4,h4,w4⟩:=gd (i:=1) (o:=1) (ft:=44) (k:=1) h2 hs2 (by kernel_rfl) (by kernel_rfl) (by kernel_rfl) (by kernel_rfl);match vs,hl with
 | [v0,v1,v2,v3],_=>
  obtain⟨s,hs0,hx0,_⟩:=DataW.trod_string Tryz.underlying9 h0;obtain⟨z1,hz1,_,wf1⟩:=DataW.trod_int Tryz.underlying32 h1;obtain⟨z3,hz3,_,_⟩:=DataW.trod_int Tryz.underlying3 h3;cases hs0;cases hz1;cases hz3;have h4':DataW.trod enc Tryz.prog W base spare held n4 44 [v3]=some y4:=h4
  have hsl:∃ a l c,v3=.slice a l c:=by
   rcases Deep.open_slice Tryz.underlying44 h4' with ⟨h0,_⟩|⟨a',len,cap,m,n',D,Pl,hcs,_⟩
   ·cases h0;exact⟨_,_,_,rfl⟩
   ·cases hcs;exact⟨_,_,_,rfl⟩
  obtain⟨a,l,c,rfl⟩:=hsl;obtain⟨q1,q2,q3⟩:=zT Tryz.underlying44 Tryz.underlying5 (by kernel_rfl) (by kernel_rfl) h4' fun q hq=>hw q (w2 q (w4 q hq));refine⟨⟨⟨s,z1,z3,a,l,c⟩,⟨?_,?_,q1,q2,q3⟩⟩,rfl⟩
  ·have:=hw s.data.toList.length (w0 _ (by rw[hx0];unfold DataW.weights;exact Wl.2 rfl));simpa using this
  ·have:=wf1;simp[Lit.wf,IntKind.has,IntKind.min,IntKind.max,IntKind.bits,IntKind.signed]at this;show 0<=z1/\z1<18446744073709551616;omega
theorem Ie {a:Option Addr}{l c:Nat}{d:DataW H}{p:List MemPlace}(h:DataW.Trod enc Tryz.prog W base spare held 23 (.slice a l c) d p)(hw:∀ q∈d.weights Tryz.prog 23,q<=reachBytes):
  ∃ D:List ak,lB W a l c D/\(∀ x∈D,qK W x)/\l<=9223372036854775807:=by
 obtain⟨n,hn⟩:=h;have hr:=wy (h:=fun r:{ x:ak // qK W x }=>eV r.1) (C:=4) (by decide) (fun _=>rfl) (fun vs n y h hq=>Hn h fun q ZN=>hw q (hq q ZN)) Tryz.underlying23 (by kernel_rfl) hn;obtain⟨⟨ZF,hcm⟩,rfl|⟨b,off,xs,cs,e,fz,rfl,rfl,hh,Y4,hc⟩⟩:=hr
 ·exact⟨[],.none rfl rfl,fun x hx=>(nomatch hx),by omega⟩
 ·refine⟨xs.map (·.1),.some b off cs e fz rfl (by simp) ZF hh Y4 fun k v hk=>hc k v ?_,fun x hx=>?_,Wh ZF (Wh hcm (by decide))⟩
  ·rw[Ye]at hk;exact hk
  ·obtain⟨r,_,rfl⟩:=Wb.1 hx;exact r.2
end
theorem C2 {H:Type}{P:Program}{ts:List TypeId}{ds:List (DataW H)}(h:(DataW.weightsEach P ts ds).all (·<=reachBytes)=true){j:Nat}{t:TypeId}{d:DataW H}(ht:ts[j]?=some t)(hd:ds[j]?=some d):∀ q∈d.weights P t,q<=reachBytes:=fun q hq=>by
 simpa using Wn.1 h q (DataW.weights_mem_each ht hd q hq)
theorem Bj {W:World}{D:List ak}(h:∀ x∈D,qK W x)(hl:iu D=true):D.length<=400/\∀ x∈D,x.p.size<=20000/\x.l<=20000:=by
 unfold iu at hl;rw[V6,XI,XI]at hl;obtain⟨hs,hn⟩:=hl;refine⟨by omega,?_⟩;have ZM:reachBytes<=140737488355328:=by decide
 have key:∀ (E:List ak) (z:Int),(∀ x∈E,qK W x)->0<=z->z+(E.length:Int)*281474976710656<=9223372036854775807->z<=rm z E/\∀ x∈E,z+(x.p.size:Int)+(x.l:Int)<=rm z E:=by
  intro E;induction E with
  | nil=>intro z _ _ _;exact⟨Int.le_refl _,fun x hx=>(nomatch hx)⟩
  | cons e E ih=>
   intro z hE hz hb;have he:=hE e Wj;have h1:=Wh he.p ZM;have h2:=Wh he.l ZM;simp only[Wm]at hb;have w1:IntKind.i64.wrap ((e.p.size:Int)+(e.l:Int))=(e.p.size:Int)+(e.l:Int):=wi (by omega);have w2:IntKind.i64.wrap (z+((e.p.size:Int)+(e.l:Int)))=z+((e.p.size:Int)+(e.l:Int)):=wi (by omega)
   have hs:rm z (e::E)=rm (z+((e.p.size:Int)+(e.l:Int))) E:=by
    show rm (IntKind.i64.wrap (z+IntKind.i64.wrap ((e.p.size:Int)+(e.l:Int)))) E=_;rw[w1,w2]
   obtain⟨i1,i2⟩:=ih (z+((e.p.size:Int)+(e.l:Int))) (fun x hx=>hE x (Wc _ hx)) (by omega) (by omega);rw[hs];refine⟨by omega,fun x hx=>?_⟩;rcases V8.1 hx with rfl|hx
   ·omega
   ·have:=i2 x hx;omega
 obtain⟨_,k2⟩:=key D 0 h (by omega) (by omega);intro x hx;have:=k2 x hx;omega
theorem zj {W:World}{a:Option Addr}{l c:Nat}{D:List ak}(h:lB W a l c D)(hl:l<=9223372036854775807):Calls Tryz.prog 5 #[.slice a l c] W fun e w'=>Below W.heap.size W w'/\e=.returned (.bool (iu D)):=by
 rcases h with ⟨rfl,rfl⟩|⟨b,off,cs,e,fz,rfl,rfl,ZF,hh,Y4,hc⟩
 ·refine bW (E:=E3) (args:=[.v (.slice a 0 c)]) (a:=[.slice a 0 c]) (n:=60) (o:=ff [1000] true) rfl rfl Nh (by kernel_rfl) (au.cons (VR.ae.2 rfl) au.nil) ⟨?_⟩;rw[Vh];simp only[ah,VV,VX,VW];rfl
 ·refine (aW (E:=E3) (R:=fun e w'=>Below W.heap.size W w'/\e=.returned (.bool (iu D))) rfl (d:=6) (l:=[(b,0)]) (os:=[.look (aT eC off D)]) rfl (by simp) (by simp) ?_ rfl (args:=[.sl 0 off D.length (some c)]) (a:=[.slice (some ⟨b,off,none⟩) D.length c]) (S0:=Gh (aT eC off D) off D.length c) (by kernel_rfl) (au.cons (VR.aL.2 ⟨(b,0),rfl,ZF,rfl⟩) au.nil) fun cs0=>?_)
  ·intro j o' b' c' h1 h2;match j with
   | 0=>
    simp only[Wa,Option.some.injEq]at h1 h2;subst h1;cases h2;exact⟨_,hh,eJ (h:=eV) (fun ν x=>au.lits ν (eV x)) Y4 hc⟩
   | j+1=>simp at h1
  ·have hM:∀ z,¬ (aD [(b,0)] ([SO.look (aT eC off D)].map fun o=>(o,false))) z:=fun z=>aZ;have hν:∀ i c,aA [(b,0)] i=some c->i=0:=fun i c h=>dj h;have YJ:(aT eC off D).all ab=true:=ca cD;have nx:=Ho (w0:=W) (cs0:=cs0) (R:=fun e w'=>Below W.heap.size W w'/\e=.returned (.bool (iu D))) (c:=c) (off:=off) hν (by omega) hM (fun w' hB=>⟨hB,rfl⟩) D.length 0 (by omega);rw[X7,show rm 0 []=0 from rfl]at nx;refine af.reach Nh (k:=2) (n:=60) (o:=VP) (ren:=[(0,0)]) (eqs:=[0]) (F:=AR off D.length c 0 0) (d:=6) (l:=[cv (aT eC off D)]) ?_ (by kernel_rfl) (fun i b h=>by rw[hν i b h];rfl) nx;rw[PE];simp only[ah,YJ,VV,VX,VW]
theorem Et {W:World}{D:List ak}(hm:MX W)(h:∀ x∈D,qK W x)(hl:iu D=true):Gs D/\∃ ys,PX D ys W/\∀ x∈D,∀ y∈ys x,0<=y/\y<256:=by
 obtain⟨h1,h2⟩:=Bj h hl;refine⟨⟨fun x hx=>by have:=(h2 x hx).1;omega,fun x hx=>(h x hx).v,fun x hx=>(h x hx).nil,by omega⟩,?_⟩;classical
 refine⟨fun x=>if hx:x∈D then Classical.choose (h x hx).ys else [],⟨hm,fun x hx=>?_⟩,fun x hx=>?_⟩
 ·simp only[dif_pos hx];exact (XU (h x hx).ys).1
 ·simp only[dif_pos hx];exact (XU (h x hx).ys).2
theorem G2 {W:World}{a:Option Addr}{l c:Nat}{D:List ak}{ys:ak->List Int}(h:lB W a l c D)(hX:PX D ys W)(hD:Gs D):Calls Tryz.prog 8 #[.slice a l c] W (CL D ys W):=by
 rcases h with ⟨rfl,rfl⟩|⟨b,off,cs,e,fz,rfl,rfl,ZF,hh,Y4,hc⟩
 ·exact Ao hX.1 ys a c
 ·exact yZ hX hD ZF hh Y4 hc
def QH:Value->Nat|.string s=>s.size|_=>0
theorem PY (s:ByteArray)(m:Int)(w:World)(hs:s.size<=1000000000)(hm:w.cell? ⟨2,0,none⟩=some (.int .i64 m)):Calls Tryz.prog 109 #[.string s,.string ⟨#[47]⟩] w fun e w'=>e=.returned (.tuple #[.string (cA s),.string (cB s),.bool (cM s)])/\∃ n,w'=w.drewN n:=
 Any.strings_Cut { wk with } s bw m w (by omega) hm
theorem isNaN (s:ByteArray)(w:World):Calls Tryz.prog 125 #[.string s] w fun e w'=>e=.returned (.bool false)/\w=w':=by
 go_enter Tryz.func125,Tryz.ntmps125
 go_wp2
 go_ret
 exact⟨by simp,rfl⟩
theorem Oh (x y:ByteArray)(w:World):Calls Tryz.prog 110 #[.string x,.string y] w fun e w'=>e=.returned (.int .i64 (oR x y))/\w=w':=by
 go_enter Tryz.func110,Tryz.ntmps110
 go_wp2_with (go_at_call 125;refine (isNaN _ _).mono ?_;rintro e w' ⟨rfl,rfl⟩)
 all_goals
  go_ret
  refine⟨?_,rfl⟩;simp_all [oR]
theorem TI (b:Bool)(w:World):Calls Tryz.prog 111 #[.bool b] w fun e w'=>e=.returned (.int .i64 (if b then 1 else 0))/\w=w':=by
 cases b
 ·go_enter Tryz.func111,Tryz.ntmps111
  go_wp2
  go_ret
  exact⟨rfl,rfl⟩
 ·go_enter Tryz.func111,Tryz.ntmps111
  go_wp2
  go_ret
  exact⟨rfl,rfl⟩
def NM (z:Int)(w:World)(e:Ending)(w':World):Prop:=e=.returned (.int .i64 z)/\∃ n,w'=w.drewN n
theorem vG:∀ (n m:Nat) (a b:ByteArray),a.size<n->a.size<m->l6 n a b=l6 m a b
 | 0,_,_,_,h,_=>absurd h (Nat.not_lt_zero _)
 | _+1,0,_,_,_,h=>absurd h (Nat.not_lt_zero _)
 | n+1,m+1,a,b,h1,h2=>by
  unfold l6
  by_cases hc:cM a=true/\cM b=true
  ·have:=zW a hc.1
   rw[if_pos hc,if_pos hc,vG n m (cB a) (cB b) (by omega) (by omega)]
  ·rw[if_neg hc,if_neg hc]
theorem vM (a b:ByteArray):dp a b=if (cA a).data.toList=(cA b).data.toList then (if cM a=true/\cM b=true then dp (cB a) (cB b) else E4 (cM a) - E4 (cM b)) else oR (cA a) (cA b):=by
 unfold dp;conv=>lhs;unfold l6
 by_cases hc:cM a=true/\cM b=true
 ·have:=zW a hc.1;rw[if_pos hc,if_pos hc,vG a.size ((cB a).size+1) (cB a) (cB b) (by omega) (by omega)]
 ·rw[if_neg hc,if_neg hc]
theorem NG {x y:ByteArray}(h:(!(x.toList==y.toList))=true):¬ x.data.toList=y.data.toList:=fun e=>by
 have:x=y:=by cases x;cases y;congr 1;exact Array.toList_inj.1 e
 rw[this]at h;simp at h
theorem KQ {x y:ByteArray}(h:(!(x.toList==y.toList))=false):x.data.toList=y.data.toList:=by
 have h:x.toList=y.toList:=by simpa using h
 rwa[jB,jB]at h
theorem O6 (a b : ByteArray)(m : Int)(w : World)(ha : a.size <= 1000000000)(hb : b.size <= 1000000000)(hm : w.cell? ⟨2, 0, none⟩ = some (.int .i64 m)) : Calls Tryz.prog 89 #[.string a, .string b] w (NM (dp a b) w) := by
  go_enter Tryz.func89, Tryz.ntmps89
  go_wp2
  go_loopw [0, 1] (fun x y wr => ∃ (a' b' : ByteArray) (n : Nat), x = .string a' /\ y = .string b' /\ a'.size <= 1000000000 /\ b'.size <= 1000000000 /\ dp a' b' = dp a b /\ wr = w.drewN n) (fun x _ _ => QH x)
  case atStart => exact⟨a, b, 0, rfl, rfl, ha, hb, rfl, rfl⟩
  case round =>
    obtain⟨a', b', n, rfl, rfl, ha', Yy, hc, rfl⟩ := hrel;have HC := Lib.hid hc;clear hc;have hm' : (w.drewN n).cell? ⟨2, 0, none⟩ = some (.int .i64 m) := hm
    go_wp2_with (first
      | (go_at_call 109; refine (PY _ m _ (by assumption) (by exact hm)).mono ?_; rintro e w' ⟨rfl, n1, rfl⟩)
      | (go_at_call 110; refine (Oh _ _ _).mono ?_; rintro e w' ⟨rfl, rfl⟩)
      | (go_at_call 111; refine (TI _ _).mono ?_; rintro e w' ⟨rfl, rfl⟩))
    all_goals first
      | (go_ret
         refine⟨?_, _, rfl⟩;rw[<- HC.out, vM]
         first
           | (rw[if_neg (NG (by assumption))]; rfl)
           | (rw[if_pos (KQ (by assumption)), if_neg (by simp_all)]; simp_all [E4]))
      | (refine⟨⟨cB a', cB b', _, rfl, rfl, Wh (iH _) ha', Wh (iH _) Yy, ?_, rfl⟩, zW _ (by assumption)⟩
         rw[<- HC.out, vM a' b', if_pos (KQ (by assumption)), if_pos (by simp_all)])
open Go Go.Rx Go.RowKit Go.Proofs Go.Sort
def BS:Go.Shelf.Ren:=⟨fun|6=>112|15=>127|14=>126|28=>145|29=>130|20=>137|21=>138|22=>139|23=>140|24=>141|25=>142|26=>143|27=>144|46=>151|47=>152|48=>153|49=>154|50=>155|57=>157|n=>n,fun|22=>79|24=>9|25=>125|3=>3|39=>92|0=>0|53=>72|55=>32|4=>4|46=>166|45=>165|50=>170|5=>5|9=>9|66=>173|70=>176|76=>182|77=>183|n=>n,fun|n=>n⟩
theorem wI:Go.Proofs.SlLaysF.n6 Tryz.prog BS where
 mixed:=by kernel_rfl
 f6 := ⟨ "slices.SortFunc[[]string,string]", by decide, Tryz.func112.trans (congrArg some (by kernel_rfl))⟩
 f14 := ⟨ "slices.pdqsortCmpFunc[string]", by decide, Tryz.func126.trans (congrArg some (by kernel_rfl))⟩
 f15:=Tryz.func127.trans (congrArg some (by kernel_rfl))
 f20 := ⟨ "slices.insertionSortCmpFunc[string]", by decide, Tryz.func137.trans (congrArg some (by kernel_rfl))⟩
 f21 := ⟨ "slices.heapSortCmpFunc[string]", by decide, Tryz.func138.trans (congrArg some (by kernel_rfl))⟩
 f22 := ⟨ "slices.breakPatternsCmpFunc[string]", by decide, Tryz.func139.trans (congrArg some (by kernel_rfl))⟩
 f23 := ⟨ "slices.choosePivotCmpFunc[string]", by decide, Tryz.func140.trans (congrArg some (by kernel_rfl))⟩
 f24 := ⟨ "slices.reverseRangeCmpFunc[string]", by decide, Tryz.func141.trans (congrArg some (by kernel_rfl))⟩
 f25 := ⟨ "slices.partialInsertionSortCmpFunc[string]", by decide, Tryz.func142.trans (congrArg some (by kernel_rfl))⟩
 f26 := ⟨ "slices.partitionEqualCmpFunc[string]", by decide, Tryz.func143.trans (congrArg some (by kernel_rfl))⟩
 f27 := ⟨ "slices.partitionCmpFunc[string]", by decide, Tryz.func144.trans (congrArg some (by kernel_rfl))⟩
 f28:=Tryz.func145.trans (congrArg some (by kernel_rfl))
 f29:=Tryz.func130.trans (congrArg some (by kernel_rfl))
 f46 := ⟨ "slices.siftDownCmpFunc[string]", by decide, Tryz.func151.trans (congrArg some (by kernel_rfl))⟩
 f47:=Tryz.func152.trans (congrArg some (by kernel_rfl))
 f48:=Tryz.func153.trans (congrArg some (by kernel_rfl))
 f49 := ⟨ "slices.medianAdjacentCmpFunc[string]", by decide, Tryz.func154.trans (congrArg some (by kernel_rfl))⟩
 f50 := ⟨ "slices.medianCmpFunc[string]", by decide, Tryz.func155.trans (congrArg some (by kernel_rfl))⟩
 f57 := ⟨ "slices.order2CmpFunc[string]", by decide, Tryz.func157.trans (congrArg some (by kernel_rfl))⟩
 t0:=Tryz.underlying0
 a0:=Tryz.isAgg0
 z0:=Tryz.sizeOf0
 v0:=Tryz.zeroValue0
 t3:=Tryz.underlying3
 a3:=Tryz.isAgg3
 z3:=Tryz.sizeOf3
 v3:=Tryz.zeroValue3
 t4:=Tryz.underlying4
 a4:=Tryz.isAgg4
 z4:=Tryz.sizeOf4
 v4:=Tryz.zeroValue4
 t5:=Tryz.underlying5
 a5:=Tryz.isAgg5
 z5:=Tryz.sizeOf5
 v5:=Tryz.zeroValue5
 t9:=Tryz.underlying9
 a9:=Tryz.isAgg9
 z9:=Tryz.sizeOf9
 v9:=Tryz.zeroValue9
 t22:=Tryz.underlying79
 a22:=Tryz.isAgg79
 z22:=Tryz.sizeOf79
 v22:=Tryz.zeroValue79
 a24:=Tryz.isAgg9
 z24:=Tryz.sizeOf9
 t25:=Tryz.underlying125
 a25:=Tryz.isAgg125
 z25:=Tryz.sizeOf125
 v25:=Tryz.zeroValue125
 t39:=Tryz.underlying92
 a39:=Tryz.isAgg92
 z39:=Tryz.sizeOf92
 v39:=Tryz.zeroValue92
 t45:=Tryz.underlying165
 a45:=Tryz.isAgg165
 z45:=Tryz.sizeOf165
 v45:=Tryz.zeroValue165
 t46:=Tryz.underlying166
 a46:=Tryz.isAgg166
 z46:=Tryz.sizeOf166
 v46:=Tryz.zeroValue166
 t50:=Tryz.underlying170
 a50:=Tryz.isAgg170
 z50:=Tryz.sizeOf170
 v50:=Tryz.zeroValue170
 t53:=Tryz.underlying72
 a53:=Tryz.isAgg72
 z53:=Tryz.sizeOf72
 v53:=Tryz.zeroValue72
 t55:=Tryz.underlying32
 a55:=Tryz.isAgg32
 z55:=Tryz.sizeOf32
 v55:=Tryz.zeroValue32
 t66:=Tryz.underlying173
 a66:=Tryz.isAgg173
 z66:=Tryz.sizeOf173
 v66:=Tryz.zeroValue173
 t70:=Tryz.underlying176
 a70:=Tryz.isAgg176
 z70:=Tryz.sizeOf176
 v70:=Tryz.zeroValue176
 t76:=Tryz.underlying182
 a76:=Tryz.isAgg182
 z76:=Tryz.sizeOf182
 v76:=Tryz.zeroValue182
 t77:=Tryz.underlying183
 a77:=Tryz.isAgg183
 z77:=Tryz.sizeOf183
 v77:=Tryz.zeroValue183
abbrev MV:={ s:ByteArray // s.size<=1000000000 }
instance:Inhabited MV:=⟨⟨⟨#[]⟩,by decide⟩⟩
def yS (s:MV):Value:=.string s.1
def Ke (x y:MV):Int:=dp x.1 y.1
theorem QA:SWO (ltOf Ke):=by
 refine⟨fun x=>?_,fun x y z h1 h2=>?_,fun x y z h1 h2=>?_⟩
 ·show decide (dp x.1 x.1<0)=false;rw[jk];rfl
 ·exact V0 (h8 (Ws h1) (Ws h2))
 ·have h1:=Xr h1;have h2:=Xr h2;refine V2 fun h=>?_;have h:dp x.1 z.1<0:=h;have h1:¬ dp x.1 y.1<0:=h1;have h2:¬ dp y.1 z.1<0:=h2;have n1:=fy x.1 y.1;rcases Int.lt_trichotomy (dp y.1 x.1) 0 with h3|h3|h3
  ·exact h2 (h8 h3 h)
  ·have:=h9 h3;rw[this]at h2;exact h2 h
  ·omega
theorem QD:∀ x y,(ltOf Ke) x y=false->(ltOf Ke) y x=false->x=y:=fun x y h1 h2=>by
 have h1:¬ dp x.1 y.1<0:=Xr h1
 have h2:¬ dp y.1 x.1<0:=Xr h2
 have n1:=fy x.1 y.1
 exact Subtype.ext (h9 (by omega))
def zp (a b:ByteArray):Bool:=!decide (dp b a<0)
def bA (l:List ByteArray):List ByteArray:=l.mergeSort zp
theorem Ea (a b c:ByteArray)(h1:zp a b=true)(h2:zp b c=true):zp a c=true:=by
 unfold zp at *;simp only[XV,decide_eq_false_iff_not]at *;intro h;have n1:=fy a b;rcases Int.lt_trichotomy (dp a b) 0 with h3|h3|h3
 ·exact h2 (h8 h h3)
 ·have:=h9 h3;rw[this]at h;exact h2 h
 ·omega
theorem DM (a b:ByteArray):(zp a b||zp b a)=true:=by
 unfold zp;have n1:=fy a b;by_cases h:dp b a<0
 ·have:¬ dp a b<0:=by omega
  simp[h,this]
 ·simp[h]
theorem FN {a b:ByteArray}(h1:zp a b=true)(h2:zp b a=true):a=b:=by
 unfold zp at *;simp only[XV,decide_eq_false_iff_not]at *;have n1:=fy a b;exact h9 (by omega)
theorem bz (l:List ByteArray):(bA l).Perm l:=List.mergeSort_perm l zp
theorem kH (l:List ByteArray):(bA l).Pairwise fun a b=>zp a b=true:=List.pairwise_mergeSort Ea DM l
theorem jK {l m:List ByteArray}(h:m.Pairwise fun a b=>zp a b=true)(hp:m.Perm l):bA l=m:=
 List.Perm.eq_of_pairwise (le:=fun a b=>zp a b=true) (fun a b _ _ h1 h2=>FN h1 h2) (kH l) h ((bz l).trans hp.symm)
theorem KH {a b:ByteArray}(h:dp a b<0):zp a b=true:=by
 unfold zp;have n1:=fy a b;simp;omega
theorem wM {α:Type}[Inhabited α](enc:α->Value){w:World}{b:Nat}{d0 d:List α}{rest:List Value}{e:TypeId}{fz:Nat × Nat}(hh:w.heap[b]?=some (.cells (d0.map enc++rest).toArray e fz))(hl:d.length=d0.length):
  (putRow enc w b 0 d.toArray).heap[b]?=some (.cells (d.map enc++rest).toArray e fz):=by
 unfold putRow mapBlock;simp only[XG,if_pos,hh,Xb,onCells];congr 2;apply Xt;intro k;simp only[putCells,Array.getElem?_mapIdx,X9,WW,VW,W8,Yk,XK];by_cases hk:k<d.length
 ·have h1:(d0.map enc++rest)[k]?=some (enc d0[k]):=by
   rw[WD (by simpa using (by omega:k<d0.length)),Wv,V4 (by omega)];rfl
  have h2:(d.map enc++rest)[k]?=some (enc d[k]):=by
   rw[WD (by simpa using hk),Wv,V4 hk];rfl
  rw[h1,h2,Xb,if_pos hk];congr 2;rw[getElem!_pos d.toArray k (by simpa using hk)];simp
 ·have h1:(d0.map enc++rest)[k]?=rest[k - d0.length]?:=by
   rw[XY (by simpa using (by omega:d0.length<=k))];simp
  have h2:(d.map enc++rest)[k]?=rest[k - d.length]?:=by
   rw[XY (by simpa using (by omega:d.length<=k))];simp
  rw[h1,h2,hl];simp only[if_neg (show ¬ k<d0.length by omega)];simp
theorem nA {α:Type}[Inhabited α](enc:α->Value)(w:World)(b off n:Nat)(d:Array α)(os:Array Obj):Og w (grow (putRow enc (Sort.ahead w n) b off d) os) b:=by
 refine⟨rfl,rfl,rfl,by simp,fun k hk Yu=>?_⟩;rw[heap_grow_old _ _ (by simpa using hk)];have:b≠k:=fun e=>Yu e.symm;simp[putRow,mapBlock,Sort.ahead,XG,this]
theorem MX.but {w w':World}{b:Nat}(h:MX w)(hb:b≠2)(k:Og w w' b):MX w':=by
 obtain⟨m,hm⟩:=h;refine⟨m,?_⟩
 have YD:2<w.heap.size:=by
  rcases Nat.lt_or_ge 2 w.heap.size with h'|h'
  ·exact h'
  ·unfold World.cell? at hm;simp only at hm;rw[W9 h']at hm;cases hm
 unfold World.cell? at hm ⊢;simp only at hm ⊢;rw[k.block _ YD (fun e=>hb e.symm)];exact hm
theorem yy {α:Type}[Inhabited α](enc:α->Value){w:World}{b:Nat}{d:List α}{rest:List Value}{e:TypeId}(hh:w.heap[b]?=some (.cells (d.map enc++rest).toArray e (0,0))):Holds enc w b 0 d.toArray:=by
 intro j hj;have hj:j<d.length:=by simpa using hj
 refine⟨?_,?_⟩
 ·rw[cV hh,W8]
  have h2:(d.map enc++rest)[j]?=some (enc d[j]):=by
   rw[WD (by simpa using hj),Wv,V4 hj];rfl
  rw[X9,h2,getElem!_pos d.toArray j (by simpa using hj)];simp
 ·unfold World.frozen?;simp[hh]
theorem s9 {w:World}{b cap:Nat}{L:List MV}{rest:List Value}{e:TypeId}(hm:MX w)(hb:b≠2)(hh:w.heap[b]?=some (.cells (L.map yS++rest).toArray e (0,0)))(hl:L.length<4611686018427387904):
  Calls Tryz.prog 112 #[.slice (some ⟨b,0,none⟩) L.length cap,.func (.func 89) #[] #[]] w fun e' w'=>e'=.returned (.tuple #[])/\Og w w' b/\w'.heap[b]?=some (.cells ((bA (L.map (·.1))).map Value.string++rest).toArray e (0,0)):=by
 have hC:CmpLays1 Tryz.prog 89 #[] yS Ke b 0 L.toArray.size w:=fun m os dk _ x y=>by
  obtain⟨z,hz⟩:=hm.but hb (nA yS w b 0 m dk os);exact (O6 x.1 y.1 z _ x.2 y.2 hz).mono fun e w' ⟨he,n,hn⟩=>⟨he,n,#[],by rw[grow_empty];exact hn⟩
 have h:=Any.slices_SortFunc_total wI yS (fun x=>rfl) Ke QA 89 #[] b 0 cap L.toArray w (enters_of Tryz.func89 (by kernel_rfl) rfl) hC (yy yS hh) (VY.1 hh).1 (by simpa using hl) QD;rw[XK]at h;refine h.mono fun e' w' ⟨he,n,os,hw⟩=>⟨he,?_,?_⟩
 ·rw[hw];exact nA yS w b 0 n _ os
 ·rw[hw];unfold sortWorld;rw[heap_grow_old _ _ (by simpa using (VY.1 hh).1)];have hp:(L.mergeSort fun x y=>!(ltOf Ke) y x).length=L.length:=List.length_mergeSort _;rw[XM];have:=wM yS (w:=Sort.ahead w n) (d:=L.mergeSort fun x y=>!(ltOf Ke) y x) hh hp;rw[this];congr 3;have e1:(L.mergeSort fun x y=>!(ltOf Ke) y x).map (·.1)=bA (L.map (·.1)):=List.map_mergeSort fun a _ b _=>rfl;rw[<- e1,WI];rfl
def BW:Go.Shelf.Ren:=⟨fun|8=>118|11=>134|n=>n,fun|26=>9|28=>138|24=>79|0=>0|33=>97|4=>4|n=>n,fun|n=>n⟩
theorem Gt:Go.Proofs.SlLaysZ.n8 Tryz.prog BW where
 mixed:=by kernel_rfl
 f8 := ⟨ "slices.Collect[string]", by decide, Tryz.func118.trans (congrArg some (by kernel_rfl))⟩
 f11 := ⟨ "slices.AppendSeq[[]string,string]", by decide, Tryz.func134.trans (congrArg some (by kernel_rfl))⟩
 t0:=Tryz.underlying0
 a0:=Tryz.isAgg0
 z0:=Tryz.sizeOf0
 v0:=Tryz.zeroValue0
 t24:=Tryz.underlying79
 a24:=Tryz.isAgg79
 z24:=Tryz.sizeOf79
 v24:=Tryz.zeroValue79
 t26:=Tryz.underlying9
 a26:=Tryz.isAgg9
 z26:=Tryz.sizeOf9
 v26:=Tryz.zeroValue9
 t28:=Tryz.underlying138
 a28:=Tryz.isAgg138
 z28:=Tryz.sizeOf138
 v28:=Tryz.zeroValue138
 i26:=by kernel_rfl
def oi:Go.Shelf.Ren:=⟨fun|7=>98|10=>119|n=>n,fun|23=>64|26=>9|3=>50|28=>138|0=>0|27=>137|33=>97|4=>4|n=>n,fun|n=>n⟩
theorem wY:Go.Proofs.SlLaysZ.n7 Tryz.prog oi where
 mixed:=by kernel_rfl
 f7 := ⟨ "maps.Keys[map[string]tender/api.Entry,string,tender/api.Entry]", by decide, Tryz.func98.trans (congrArg some (by kernel_rfl))⟩
 f10 := ⟨ "maps.Keys[map[string]tender/api.Entry,string,tender/api.Entry]$1", by decide, Tryz.func119.trans (congrArg some (by kernel_rfl))⟩
 t0:=Tryz.underlying0
 a0:=Tryz.isAgg0
 z0:=Tryz.sizeOf0
 v0:=Tryz.zeroValue0
 t4:=Tryz.underlying4
 a4:=Tryz.isAgg4
 z4:=Tryz.sizeOf4
 v4:=Tryz.zeroValue4
 t23:=Tryz.underlying64
 a23:=Tryz.isAgg64
 z23:=Tryz.sizeOf64
 v23:=Tryz.zeroValue64
 t26:=Tryz.underlying9
 a26:=Tryz.isAgg9
 z26:=Tryz.sizeOf9
 v26:=Tryz.zeroValue9
 t27:=Tryz.underlying137
 a27:=Tryz.isAgg137
 z27:=Tryz.sizeOf137
 v27:=Tryz.zeroValue137
 t28:=Tryz.underlying138
 a28:=Tryz.isAgg138
 z28:=Tryz.sizeOf138
 v28:=Tryz.zeroValue138
 t33:=Tryz.underlying97
 a33:=Tryz.isAgg97
 z33:=Tryz.sizeOf97
 v33:=Tryz.zeroValue97
def RR:Value->Option (DataW Unit × List MemPlace):=fun _=>some (.nil,[])
def Ez (e:bH):Lit × DataW Unit:=(.string e.1.p.data.toList,.nil)
def xR (E:List bH):DataW Unit:=.map ((E.map Ez).foldr DataW.insert [])
theorem IG:Tryz.prog.underlying 9=some .string:=by kernel_rfl
theorem CF {s:ByteArray}(hs:s.size<=1000000000):keyOf Tryz.prog 9 (Value.string s)=some (Lit.string s.data.toList):=by
 unfold keyOf mapKey;rw[IG];exact if_pos (Wh hs (by decide))
theorem Mc (e:bH)(hs:e.1.p.size<=1000000000):WideElems.rg Tryz.prog 9 RR (mY e)=Ez e:=by
 unfold WideElems.rg WideElems.rd;have:(mY e).key=Value.string e.1.p:=rfl;rw[this,CF hs];rfl
theorem Jz {w:World}{m cl:Nat}{E:List bH}(hB:c8 E cl)(hh:w.heap[m]?=some (.map (E.map mY).toArray cl))(YO:E.length<=1000):w.ownsMap Tryz.prog 9 RR m E.length (xR E):=by
 refine⟨_,_,hh,⟨?_,⟨?_,?_,?_⟩,?_⟩,by simp,?_⟩
 ·simp only[XK,WH];exact Wh YO (by decide)
 ·intro x hx;obtain⟨e,he,rfl⟩:=Wb.1 (show x∈E.map mY by simpa using hx);exact hB.born e he
 ·have:(E.map mY).map (·.born)=E.map fun e=>e.2:=by rw[WI];rfl
  rw[XM,this];exact hB.Zi
 ·have:(E.map mY).map (·.key)=(E.map fun e=>e.1.p).map Value.string:=by rw[WI,WI];rfl
  rw[XM,this];refine Ym.2 (hB.names.imp fun h h'=>h ?_);cases h';rfl
 ·intro x hx;obtain⟨e,he,rfl⟩:=Wb.1 (show x∈E.map mY by simpa using hx);refine⟨Ez e,?_⟩;unfold WideElems.rd;have:(mY e).key=Value.string e.1.p:=rfl;rw[this,CF (hB.size e he)];rfl
 ·unfold xR;rw[XM,WI];have:E.map ((WideElems.rg Tryz.prog 9 RR) ∘ mY)=E.map Ez:=XB fun e he=>Mc e (hB.size e he);rw[this]
theorem JD (E:List bH):(strKeys (xR E)).Perm (E.map fun e=>e.1.p.data.toList):=by
 unfold strKeys xR;refine ((WideShapes.sorted_perm (E.map Ez)).map _).trans ?_;rw[WI];exact List.Perm.refl _
theorem qy (E:List bH):Maps.size (xR E)=E.length:=by
 show (List.foldr DataW.insert [] (List.map Ez E)).length=E.length;rw[DataW.length_sorted];simp
def G9 (w w':World)(v:Value)(l:List ByteArray):Prop:=(v=.slice none 0 0/\l=[])\/(l≠[]/\cF w w' v (l.map Value.string) l.length 1 9)
theorem D7 {w w':World}{v:Value}{l:List ByteArray}(h:w'.ownsRow w.heap.size 9 1 v l.length (l.map Value.string))(hn:v=.slice none 0 0↔l=[]):G9 w w' v l:=by
 rcases h.2 with ⟨h1,h2⟩|⟨g,cap,cur,rfl,hg,hh,h1,h2,h3,h4⟩
 ·exact .inl ⟨h1,Wd.1 h2⟩
 ·refine .inr ⟨fun h0=>(by have:=hn.2 h0;cases this),g,cap,cur.toList.drop l.length,rfl,hg,h1,?_,?_⟩
  ·rw[hh,<- h4,XJ,Xh]
  ·rw[<- h4,XJ,Xh];simpa using h3
theorem EM (l:List (List UInt8)):l.map encStr=(l.map fun x=>(⟨x.toArray⟩:ByteArray)).map Value.string:=by rw[WI];rfl
theorem Bc (E:List bH):(E.map fun e=>e.1.p.data.toList).map (fun x=>(⟨x.toArray⟩:ByteArray))=E.map fun e=>e.1.p:=by
 rw[WI];exact XB fun e _=>by simp
theorem uS {w:World}{x m cl:Nat}{E:List bH}(hx:w.heap[x]?=some (.cells #[.map (some m)] 64 (0,0)))(hB:c8 E cl)(hh:w.heap[m]?=some (.map (E.map mY).toArray cl))(YO:E.length<=1000):
  Calls Tryz.prog 118 #[.func (.func 119) #[] #[.pointer (some ⟨x,0,none⟩)]] w fun e w'=>∃ v l,e=.returned v/\l.Perm (E.map fun e=>e.1.p)/\G9 w w' v l/\Below w.heap.size w w':=by
 have YS:=Jz hB hh YO;have hxl:x<w.heap.size:=(VY.1 hx).1
 have hseq:SeqGives Fence.wide 3 Tryz.prog 119 #[.pointer (some ⟨x,0,none⟩)] encStr (fun ss=>ss.Perm (strKeys (xR E))) (Maps.size (xR E)) w:=
  AnyZ.keys_gives (ρ:=oi) { wY with } Fence.wide 3 trivial rfl (by omega) x m E.length (xR E) w hxl (by rw[cV hx];rfl) YS
 have h:=AnyZ.collect_in Gt Fence.wide 5 trivial trivial rfl (by omega) 119 #[.pointer (some ⟨x,0,none⟩)] trivial (enters_of Tryz.func119 (by kernel_rfl) rfl) _ (Maps.size (xR E)) (by rw[qy];exact Wh YO (by decide)) (by rw[qy];omega) w hseq;refine (callsIn_wide.1 h).mono fun e w' ⟨v,ss,he,hp,hrow,hnil,hb⟩=>⟨v,ss.map fun x=>⟨x.toArray⟩,he,?_,?_,hb⟩
 ·have:=(hp.trans (JD E)).map fun x=>(⟨x.toArray⟩:ByteArray);rw[Bc]at this;exact this
 ·rw[EM]at hrow;have hrow:w'.ownsRow w.heap.size 9 1 v ss.length ((ss.map fun x=>(⟨x.toArray⟩:ByteArray)).map Value.string):=hrow;refine D7 (by simpa using hrow) ?_;rw[hnil];simp
theorem Ed {E:List bH}{cl:Nat}(hB:c8 E cl){l:List ByteArray}(hp:l.Perm (E.map fun e=>e.1.p)):∃ L:List MV,L.map (·.1)=l:=by
 have hs:∀ s∈l,s.size<=1000000000:=fun s hs=>by
  obtain⟨e,he,rfl⟩:=Wb.1 (hp.mem_iff.1 hs);exact hB.size e he
 exact⟨l.attach.map fun s=>⟨s.1,hs s.1 s.2⟩,by rw[WI];exact List.attach_map_subtype_val l⟩
theorem sY {E:List bH}{l:List ByteArray}(hp:l.Perm (E.map fun e=>e.1.p)):bA l=bA (E.map fun e=>e.1.p):=
 jK (kH _) ((bz _).trans hp.symm)
def zk (w:World)(l:List ByteArray)(e:Ending)(w':World):Prop:=∃ v,e=.returned v/\G9 w w' v l/\Below w.heap.size w w'
theorem xE {w:World}{x m cl:Nat}{E:List bH}(hm:MX w)(hx:w.heap[x]?=some (.cells #[.map (some m)] 64 (0,0)))(hB:c8 E cl)(hh:w.heap[m]?=some (.map (E.map mY).toArray cl))(YO:E.length<=1000):
  Calls Tryz.prog 97 #[.func (.func 119) #[] #[.pointer (some ⟨x,0,none⟩)],.func (.func 89) #[] #[]] w (zk w (bA (E.map fun e=>e.1.p))):=by
 have hc:=uS hx hB hh YO;clear hx hh;go_enter Tryz.func97,Tryz.ntmps97
 go_wp2_with (go_at_call 118;refine hc.mono ?_;rintro e W ⟨v,l,rfl,hp,hrow,hb⟩)
 rcases hrow with ⟨rfl,rfl⟩|⟨Yu,b,c,rest,rfl,ZY,υ,hbh,YX⟩
 ·go_wp2_with (go_at_call 112;refine (AnyF.slices_SortFunc_none { wI with } none 0 _ W).mono ?_;rintro e w' ⟨rfl,rfl⟩)
  go_ret
  refine⟨_,rfl,.inl ⟨rfl,?_⟩,hb⟩;rw[<- sY hp];exact Wd.1 (bz []).length_eq
 ·have hs:=sY hp;obtain⟨L,rfl⟩:=Ed hB hp;have hm':MX W:=hm.keep fun k hk=>hb.block k hk
  have hbm:b≠2:=by
   obtain⟨z,hz⟩:=hm;intro h0
   have h1:2<w.heap.size:=by
    rcases Nat.lt_or_ge 2 w.heap.size with h'|h'
    ·exact h'
    ·unfold World.cell? at hz;simp only at hz;rw[W9 h']at hz;cases hz
   omega
  have hbh':W.heap[b]?=some (.cells (L.map yS++rest).toArray 9 (0,0)):=by
   rw[hbh,WI];rfl
  have hll:L.length<=1000:=by
   have:=hp.length_eq;simp only[WH]at this;omega
  have cS:=s9 (cap:=c) hm' hbm hbh' (by omega);have hlen:(L.map (·.1)).length=L.length:=by simp
  rw[<- hlen]at cS;have HS:=Lib.hid hs;have HZ:=Lib.hid YX;clear hbh hbh' hs hlen YX hll;go_wp2_with (go_at_call 112;refine cS.mono ?_;rintro e w' ⟨rfl,hbut,Zw⟩);go_ret;refine⟨_,rfl,.inr ⟨?_,b,c,rest,?_,ZY,?_,?_,?_⟩,hbut.os.trans hb.os,hbut.tape.trans hb.tape,hbut.output.trans hb.output,Wh hb.size hbut.size,fun k hk=>(hbut.block k (Wz hk hb.size) (by omega)).trans (hb.block k hk)⟩
  ·rw[<- HS.out];intro h0;have:=(bz (L.map (·.1))).length_eq;rw[h0]at this;exact Yu (Wd.1 this.symm)
  ·rw[<- HS.out,(bz _).length_eq];simp
  ·rw[<- HS.out,(bz _).length_eq];exact υ
  ·rw[<- HS.out];exact Zw
  ·rw[<- HS.out];have h1:=HZ.out;simp only[V7,WH]at h1 ⊢;rw[(bz _).length_eq];simpa using h1
theorem qu {w:World}{b m cl:Nat}{s:Int}{E:List bH}(hm:MX w)(hA:jy w b m s E cl)(hB:c8 E cl)(YO:E.length<=1000):
  Calls Tryz.prog 71 #[.pointer (some ⟨b,0,none⟩)] w (zk w (bA (E.map fun e=>e.1.p))):=by
 have hbl:b<w.heap.size:=(VY.1 hA.row).1;have hml:m<w.heap.size:=(VY.1 hA.map).1;have h1:w.cell? ⟨b,1,none⟩=some (.map (some m)):=by rw[cV hA.row];rfl
 have hb:Below w.heap.size w (w.alloc (.cells #[.map (some m)] 64)):=(Below.refl _ _).alloc (Wx _) _;have cs:=xE (x:=w.heap.size) (hm.keep fun k hk=>hb.block k hk) (show (w.heap.push _)[w.heap.size]?=some _ by rw[Array.getElem?_push_size]) hB ((hb.block m hml).trans hA.map) YO;have ck:=callsIn_wide.1 (AnyZ.keys_in wY Fence.wide 5 trivial rfl (some m) w);clear hA;go_enter Tryz.func71,Tryz.ntmps71
 go_wp2_with (first
  | (go_at_call 98;refine ck.mono ?_;rintro e w' ⟨rfl,rfl⟩)
  | (go_at_call 97;refine cs.mono ?_;rintro e w' ⟨v,rfl,hv,YW⟩))
 go_ret
 have h3:w.heap.size<=(w.alloc (.cells #[.map (some m)] 64)).heap.size:=hb.size;refine⟨_,rfl,?_,hb.trans (YW.mono h3)⟩;rcases hv with hv|⟨Yu,g,c,rest,h4,h5,h6⟩
 ·exact .inl hv
 ·exact .inr ⟨Yu,g,c,rest,h4,Wh h3 h5,h6⟩
end paths
open Go Go.Rx Go.RowKit Go.Proofs
namespace paths
def KV (s:Int):Option (SO × Bool):=some (.row [.v (.int .u64 s),.map 1] 66 (0,0) none,false)
def BU (es:VQ)(cl:Nat):Option (SO × Bool):=some (.map es cl,false)
theorem rQ {ν:aP}:∀ E:List bH,eI ν (E.map mC) (E.map mY)
 | []=>rfl
 | e::E=>⟨mY e,E.map mY,rfl,VR.ae.2 rfl,VR.bx.2 ⟨_,rfl,au.lits ν (eV e.1)⟩,rfl,rQ E⟩
theorem kX {b m:Nat × Nat}{o o':SO}(z:Nat):¬ (aD [b,m] ([o,o'].map fun o=>(o,false))) z:=aZ (os:=[_,_])
def uw (w:World)(a:Option Addr)(l:Nat)(zs:List Int):Prop:=e8 w a l zs/\(a=none->l=0)
theorem uw.keep {w0 w:World}{a:Option Addr}{l:Nat}{zs:List Int}(h:uw w0 a l zs)(hk:∀ k,k<w0.heap.size->w.heap[k]?=w0.heap[k]?):uw w a l zs:=⟨h.1.keep hk,h.2⟩
theorem er.EZ {w:World}{x:ak}{zs:List Int}(h:er w.hp x zs)(hl:zs.length<=140737488355328):uw w x.a x.l zs:=by
 rcases h with ⟨h1,h2,h3⟩|⟨b,rest,h1,h2,h3⟩
 ·rw[h1,h2,h3];exact⟨⟨rfl,WW _,fun b hb=>by cases hb⟩,fun _=>rfl⟩
 ·rw[h1];refine⟨⟨h3,by omega,fun b' Yy i hi W' hW=>?_⟩,fun h=>by cases h⟩;cases Yy;have h2:w.heap[b]?=_:=h2;have YD:=(VY.1 h2).1;rw[di,cV ((hW b YD).trans h2)];have:i<zs.length:=by omega
  simp[WD,this]
def yx (s:Int)(es:VQ)(cl:Nat)(p:ByteArray)(x:ak)(ys:List Int):SM:=(a6 (kx x.a x.l x.c ys) 72 [.ptr 0 0,.v (.string p)] (bG 6 2 0 [KV s,BU es cl])).getD dn
theorem U4 (s:Int)(es:VQ)(cl:Nat)(j born:Nat)(x:ak)(ys:List Int):eh (kx x.a x.l x.c ys) 72 300 (yx s es cl x.p x ys) (VP++ff [0] true++[(1,.hit j (.agg [.v (.string x.p),.v (.int .u64 x.v),.v (.int .i64 x.k),.v (.slice x.a x.l x.c)]) born)]++ff (List.range 30) false) [] (.v (.agg #[.string x.p,.int .u64 x.v,.int .i64 x.k,.slice none 0 0]))=[Value.agg { toList:=[VS x.1,V1 IntKind.u64 x.2,vZ x.3,VT none 0 0]:Array Value }=Value.agg { toList:=[VS x.1,V1 IntKind.u64 x.2,vZ x.3,VT none 0 0]:Array Value },(x.3==x.3)=true,x.4=none,false=false,(∀ (e:SV × SV × Nat),e∈List.take j es->a8 x.p e.fst)/\es[j]?=some (SV.v (VS x.1),VZ [SV.v (VS x.1),SV.v (V1 IntKind.u64 x.2),SV.v (vZ x.3),SV.v (VT x.4 x.5 x.6)],born),(!false)=true]:=by kernel_rfl
theorem Ue (s:Int)(es:VQ)(cl:Nat)(j born:Nat)(x:ak)(ys:List Int)(m:List SV):bY (kx x.a x.l x.c ys) 72 300 (yx s es cl x.p x ys) (VP++ff [0] true++[(1,.hit j (.agg [.v (.string x.p),.v (.int .u64 x.v),.v (.int .i64 x.k),.v (.slice x.a x.l x.c)]) born)]++ff [2] false++ff (List.range 30) true) (.agg [.v (.string x.p),.v (.int .u64 x.v),.v (.int .i64 x.k),.sl 9 0 x.l none]) 9 (.row m 5 (0,0) (some 1))=[VS x.1=VS x.1,V1 IntKind.u64 x.2=V1 IntKind.u64 x.2,vZ x.3=vZ x.3,0=0/\x.5=x.5/\nZ=none,List.map SV.v (List.map (V1 IntKind.u8) ys)=m,m.all ab=true,(x.3==x.3)=true,(x.4=x.4/\x.5=x.5/\x.6=x.6)/\x.4≠none,false=false,(∀ (e:SV × SV × Nat),e∈List.take j es->a8 x.p e.fst)/\es[j]?=some (SV.v (VS x.1),VZ [SV.v (VS x.1),SV.v (V1 IntKind.u64 x.2),SV.v (vZ x.3),SV.v (VT x.4 x.5 x.6)],born),(!false)=true]:=by kernel_rfl
theorem Ux (s:Int)(es:VQ)(cl:Nat)(p:ByteArray)(x:ak)(ys:List Int)(v:Value):ao (kx x.a x.l x.c ys) 72 300 (yx s es cl p x ys) (VP++ff [0] true++[(1,.cr)]++ff (List.range 30) true) v=[Value.agg { toList:=[VS p,V1 IntKind.u64 0,vZ 0,VT none 0 0]:Array Value }=v,true=true,∀ (e:SV × SV × Nat),e∈es->a8 p e.fst,(!false)=true]:=by kernel_rfl
theorem vJ {Q:Env}(hP:Q.P=Tryz.prog)(hG:Q.G=[]){f:FuncId}{w:World}{b m cl:Nat}{s:Int}{E:List bH}(hA:jy w b m s E cl)(Yu:b≠m){p:ByteArray}{R:Ending->World->Prop}{S0:SM}(ZZ:a6 Q f [.ptr 0 0,.v (.string p)] (bG 6 2 0 [KV s,BU (E.map mC) cl])=some S0)
  (h:∀ cs0,af Q (aD [(b,0),(m,0)] ([SO.row [.v (.int .u64 s),.map 1] 66 (0,0) none,SO.map (E.map mC) cl].map fun o=>(o,false))) w cs0 f R (aA [(b,0),(m,0)]) S0):
  Calls Tryz.prog f #[.pointer (some ⟨b,0,none⟩),.string p] w R:=by
 refine aW (E:=Q) hP (d:=6) (l:=[(b,0),(m,0)]) (os:=[.row [.v (.int .u64 s),.map 1] 66 (0,0) none,.map (E.map mC) cl]) rfl (by simp) (by simpa using Yu) ?_ hG (args:=[.ptr 0 0,.v (.string p)]) (a:=[.pointer (some ⟨b,0,none⟩),.string p]) (S0:=S0) ZZ (au.cons (VR.aF.2 ⟨(b,0),rfl,rfl⟩) (au.cons (VR.ae.2 rfl) au.nil)) h;intro j o' b' c' h1 h2;match j with
 | 0=>
  simp only[Wa,Option.some.injEq]at h1 h2;subst h1;cases h2;exact⟨_,hA.row,_,[],rfl,au.cons (VR.ae.2 rfl) (au.cons (VR.cQ.2 ⟨(m,0),rfl,rfl⟩) au.nil),rfl⟩
 | 1=>
  simp only[WU,Wa,Option.some.injEq]at h1 h2;subst h1;cases h2;exact⟨_,hA.map,_,rfl,rQ E⟩
 | j+2=>simp at h1
def gP (c:ak->List Int)(l:List ak)(p:ByteArray):Int × Int × List Int:=match l.find? (pI p) with|some f=>(f.v,f.k,c f)|none=>(0,0,[])
def wS (w w':World)(x:ak)(zs:List Int):Prop:=er w'.hp x zs/\zs.length<=140737488355328/\∀ b,x.a=some b->w.heap.size<=b.block
def j4 (H:Hp)(a:Option Addr)(l:Nat)(zs:List Int):Prop:=∀ w:World,H.Sub w.hp->uw w a l zs
theorem wS.JN {H:Hp}{w w':World}{x:ak}{zs:List Int}(h:wS w w' x zs):j4 (H.grow w w') x.a x.l zs:=fun w2 h2=>by
 obtain⟨hb,hl,hn⟩:=h
 refine er.EZ (w:=w2) ?_ hl
 rcases hb with hb|⟨b,rest,h1,h3,h4⟩
 ·exact .inl hb
 ·refine .inr ⟨b,rest,h1,h2 _ _ ?_,h4⟩
  have:=hn _ h1
  unfold Hp.grow
  rw[if_neg (by simp only at this;omega)]
  exact h3
def NV (H:Hp)(z:Int × Int × List Int)(p:ByteArray)(w:World)(e:Ending)(w':World):Prop:=Below w.heap.size w w'/\∃ x zs,e=.returned (.agg (eV x).toArray)/\x.p=p/\(x.v,x.k,zs)=z/\j4 (H.grow w w') x.a x.l zs
theorem Gm {w:World}:uw w none 0 []:=⟨⟨rfl,WW _,fun b hb=>by cases hb⟩,fun _=>rfl⟩
theorem qA {w w':World}{x:ak}(h:x.a=none)(h2:x.l=0):wS w w' x []:=⟨.inl ⟨h,h2,rfl⟩,WW _,fun b hb=>by rw[h]at hb;cases hb⟩
theorem vt {w w':World}{x:ak}{zs:List Int}{b c:Nat}{v:Value}(hD:uw w x.a x.l zs)(hv:v=.slice (some ⟨b,0,none⟩) x.l c)(h:cF w w' v (zs.map (Value.int .u8)) x.l 1 5):wS w w' ⟨x.p,x.v,x.k,some ⟨b,0,none⟩,x.l,c⟩ zs:=by
 obtain⟨g,c',rest,h2,h3,h4,h5,h6⟩:=h;rw[hv]at h2;cases h2;exact⟨.inr ⟨b,rest,rfl,h5,hD.1.1⟩,by rw[hD.1.1];exact hD.1.2.1,fun b' Yy=>by cases Yy;exact h3⟩
theorem DR {w:World}{b m cl:Nat}{s:Int}{E:List bH}{cm:ak->List Int}(hA:jy w b m s E cl)(Yu:b≠m)(hB:c8 E cl)(hd:∀ e∈E,uw w e.1.a e.1.l (cm e.1))(p:ByteArray)(H:Hp):
  Calls Tryz.prog 72 #[.pointer (some ⟨b,0,none⟩),.string p] w (NV H (gP cm (E.map (·.1)) p) p w):=by
 unfold gP;cases hf:(E.map (·.1)).find? (pI p) with
 | none=>
  have hm:∀ e∈E,e.1.p≠p:=fun e he h=>by
   have:=WY.1 hf e.1 (Wb.2 ⟨e,he,rfl⟩);exact this (gv.2 h)
  refine vJ (Q:=kx none 0 0 []) rfl rfl hA Yu (S0:=yx s (E.map mC) cl p ⟨p,0,0,none,0,0⟩ []) (by kernel_rfl) fun cs0=>?_;refine af.ao (Au (x:=⟨p,0,0,none,0,0⟩) kX Gm.1) (n:=300) (o:=(VP++ff [0] true++[(1,.cr)]++ff (List.range 30) true)) (v:=.agg #[.string p,.int .u64 0,.int .i64 0,.slice none 0 0]) ?_ fun ν' M1 w1 s' w' _ hB hr=>⟨aB kX hB hr,⟨p,0,0,none,0,0⟩,[],rfl,rfl,rfl,(qA rfl rfl).JN⟩;rw[show (kx none 0 0 [])=kx (⟨p,0,0,none,0,0⟩:ak).a (⟨p,0,0,none,0,0⟩:ak).l (⟨p,0,0,none,0,0⟩:ak).c [] from rfl,Ux];simp only[ah,VV,VX,VW];exact⟨rfl,wW hm⟩
 | some f=>
  have hf1:=WV hf;have hfp:f.p=p:=gv.1 (Xp hf);obtain⟨g,hg,rfl⟩:=Wb.1 hf1;subst hfp;have hD:=hd g hg;obtain⟨j,hj,hx⟩:=wo hB.names hg;refine vJ (Q:=kx g.1.a g.1.l g.1.c (cm g.1)) rfl rfl hA Yu (S0:=yx s (E.map mC) cl g.1.p g.1 (cm g.1)) (by kernel_rfl) fun cs0=>?_;by_cases ha:g.1.a=none
  ·refine Gy (v:=.agg #[.string g.1.p,.int .u64 g.1.v,.int .i64 g.1.k,.slice none 0 0]) (Au kX hD.1) kX (n:=300) (o:=(VP++ff [0] true++[(1,.hit j (.agg [.v (.string g.1.p),.v (.int .u64 g.1.v),.v (.int .i64 g.1.k),.v (.slice g.1.a g.1.l g.1.c)]) g.2)]++ff (List.range 30) false)) ⟨?_⟩ fun w' hB=>⟨hB,⟨g.1.p,g.1.v,g.1.k,none,0,0⟩,cm g.1,rfl,rfl,rfl,?_⟩
   ·rw[U4];simp only[ah,VV,VX,VW];refine⟨⟨⟨rfl,hj⟩,ha⟩,?_⟩;first|rfl|exact WA g.1.k
   ·have h0:cm g.1=[]:=Wd.1 (by rw[hD.1.1];exact hD.2 ha);rw[h0];exact (qA rfl rfl).JN
  ·refine af.bY (Au kX hD.1) (n:=300) (o:=(VP++ff [0] true++[(1,.hit j (.agg [.v (.string g.1.p),.v (.int .u64 g.1.v),.v (.int .i64 g.1.k),.v (.slice g.1.a g.1.l g.1.c)]) g.2)]++ff [2] false++ff (List.range 30) true)) (x:=.agg [.v (.string g.1.p),.v (.int .u64 g.1.v),.v (.int .i64 g.1.k),.sl 9 0 g.1.l none]) (i:=9) (so:=.row (List.map SV.v (List.map (Value.int .u8) (cm g.1))) 5 (0,0) (some 1)) (by
    rw[Ue];simp only[ah,bJ,VV,VX,VW];refine⟨⟨⟨rfl,hj⟩,ha⟩,?_⟩;first|rfl|exact WA g.1.k) fun ν' w' y b1 ob hv hb ho YA hw hB=>?_
   have hn:w.heap.size<=b1.1:=by
    rcases hw with h|h
    ·exact h
    ·exact absurd h (kX _)
   obtain⟨_,_,_,_,hB,hr⟩:=hB;obtain⟨a,rfl,ha1⟩:=VR.bx.1 hv;obtain⟨y1,a1,rfl,q1,YH⟩:=ha1.cons_inv;obtain⟨y2,a2,rfl,q2,Zx⟩:=YH.cons_inv;obtain⟨y3,a3,rfl,q3,ha4⟩:=Zx.cons_inv;obtain⟨y4,a4,rfl,q4,ha5⟩:=ha4.cons_inv;obtain rfl:=ha5.ay;obtain rfl:=VR.ae.1 q1;obtain rfl:=VR.ae.1 q2;obtain rfl:=VR.ae.1 q3;have hs:=cF.gb q4 hb ho YA hn fun zs hz=>r7 hz;have hs2:=hs;obtain⟨g',c,rest,rfl,_⟩:=hs2;exact⟨aB kX hB hr,⟨g.1.p,g.1.v,g.1.k,_,g.1.l,c⟩,cm g.1,rfl,rfl,rfl,(vt (x:=g.1) hD rfl hs).JN⟩
def Dw (x:ak):SV:=.v (.agg #[.string x.p,.int .u64 x.v,.int .i64 x.k,.slice x.a x.l x.c])
theorem iN {W w:World}{H:Hp}(h0:W.hp.Sub H)(h:H.Sub w.hp):∀ k,k<W.heap.size->w.heap[k]?=W.heap[k]?:=fun k hk=>by
 have h1:=h _ _ (h0 k W.heap[k] (WT hk))
 rw[WT hk];exact h1
def B2 (E:List bH):H5:=fun args sh=>match args with
 | [.ptr i 0]=>match sh.look i with
  | some (.row [.v (.int .u64 s),.map j] t z x,_)=>match sh.look j with
   | some (.map es cl,_)=>some ((bA (E.map fun e=>e.1.p)).map Value.string,E.length,1,9,none,t=66/\z=(0,0)/\x=none/\es=E.map mC/\c8 E cl/\E.length<=1000/\E≠[])
   | _=>none
  | _=>none
 | _=>none
def AS (E:List bH):yC:=fun args sh=>match args with
 | [.ptr i 0]=>match sh.look i with
  | some (.row [.v (.int .u64 s),.map j] t z x,_)=>match sh.look j with
   | some (.map es cl,_)=>some (.slice none 0 0,t=66/\z=(0,0)/\x=none/\es=E.map mC/\c8 E cl/\E=[])
   | _=>none
  | _=>none
 | _=>none
def QQ (E:List bH):List (FuncId × Sum):=[(71,gq (fj (B2 E)) (de (AS E)))]
def rU (E:List bH):Env:={ EP [] [] with YT:=fun f=>(QQ E).lookup f }
def zh (E:List bH)(s:Int)(es:VQ)(cl:Nat):SM:=(a6 (rU E) 34 [.ptr 0 0] (bG 6 2 0 [KV s,BU es cl])).getD dn
def Lq:List SI:=dA (rU []) 2 60 (zh [] 0 [] 0) (VP++ff (List.range 10) true)
def pV (n:Nat)(x:SV)(i:Int):SF:={ fn:=34,tm:=e9 20 6 ([.ptr 0 0,.aH,x,.aH,.aH,.aH,.sl 2 0 n none,.v (.int .i64 n),.v (.int .i64 i)]++List.replicate 11 .aH),todo:=Lq,defers:=[],ret:=false,kind:=.normal,ro:=none }
def JX (l:List SV):Option (SO × Bool):=some (.row l 9 (0,0) (some 1),true)
def vj (s:Int)(es:VQ)(cl:Nat)(l:List SV):List (Option (SO × Bool)):=[KV s,BU es cl,JX l]
def r6 (s:Int)(es:VQ)(cl:Nat)(l m:List SV):List (Option (SO × Bool)):=[KV s,BU es cl,JX l,fx m]
def Nv (E:List bH)(n:Nat)(i:Int)(s:Int)(es:VQ)(cl:Nat)(l:List SV)(q:ByteArray)(x:ak):SM:=dB (rU E) 72 60 (SM.at (pV n bZ i) 6 (vj s es cl l)) (ff [0] true++[(2,.cells [.v (.string q)])]) (Dw x)
def N0 (E:List bH)(n:Nat)(i:Int)(s:Int)(es:VQ)(cl:Nat)(l m:List SV)(k:Nat)(q:ByteArray)(x:ak):SM:=dB (rU E) 72 60 (SM.at (pV n (.sl 3 0 k none) i) 6 (r6 s es cl l m)) (ff [0] true++[(2,.cells [.v (.string q)])]) (Dw x)
theorem TW (E:List bH)(s:Int)(es:VQ)(cl n:Nat)(l:List SV):reach (rU E) 2 60 (zh E s es cl) (VP++ff (List.range 10) true) [(0,0),(1,1),(2,2)] [1,2] (pV n bZ 0) 6 (vj s es cl l)=[0=0,VT none 0 0=VT none 0 0,0=0/\E.length=n/\nZ=none,vZ (↑E.length:Int)=vZ (↑n:Int),vZ 0=vZ 0,V1 IntKind.u64 s=V1 IntKind.u64 s,cl=cl,es=es,(es.all fun e=>aw e.fst&&aw e.snd.fst)=true,List.map SV.v (List.map VS (bA (List.map (fun e=>e.fst.p) E)))=l,l.all ab=true,66=66/\(0,0)=(0,0)/\nZ=none/\es=List.map mC E/\c8 E cl/\E.length<=1000/\E≠[]]:=by kernel_rfl
theorem S7 (E:List bH)(s:Int)(es:VQ)(cl:Nat)(v:Value):ao (rU E) 34 60 (zh E s es cl) (VP++ff (List.range 10) false) v=[VT none 0 0=v,false=false,66=66/\(0,0)=(0,0)/\nZ=none/\es=List.map mC E/\c8 E cl/\E=[]]:=by kernel_rfl
theorem Qy (E:List bH)(s:Int)(es:VQ)(cl n:Nat)(l:List SV)(i:Int)(q:ByteArray):dT (rU E) 72 60 (SM.at (pV n bZ i) 6 (vj s es cl l)) (ff [0] true++[(2,.cells [.v (.string q)])])=[l[0+i.toNat*1]?=some (SV.v (VS q)),ai i n=true,decide (i<(↑n:Int))=true]:=by kernel_rfl
theorem PH (E:List bH)(s:Int)(es:VQ)(cl n:Nat)(l:List SV)(i:Int)(q:ByteArray)(x:ak):dS (rU E) 72 60 (SM.at (pV n bZ i) 6 (vj s es cl l)) (ff [0] true++[(2,.cells [.v (.string q)])]) (Dw x)=[l[0+i.toNat*1]?=some (SV.v (VS q)),ai i n=true,decide (i<(↑n:Int))=true]:=by kernel_rfl
theorem Pe (E:List bH)(s:Int)(es:VQ)(cl n:Nat)(l l':List SV)(i i':Int)(q:ByteArray)(x:ak):reach (rU E) 2 60 (Nv E n i s es cl l q x) (ff [0] false) [(0,0),(1,1),(2,2),(3,4)] [1,2,3] (pV n (.sl 3 0 1 none) i') 6 (r6 s es cl l l')=[0=0,0=0/\1=1/\nZ=none,0=0/\n=n/\nZ=none,vZ (↑n:Int)=vZ (↑n:Int),vZ (IntKind.i64.wrap (i+1))=vZ i',V1 IntKind.u64 s=V1 IntKind.u64 s,cl=cl,es=es,(es.all fun e=>aw e.fst&&aw e.snd.fst)=true,l=l,l.all ab=true,[]++List.take (1*4) (List.drop 0 (aQ (List.replicate 1 (List.map SV.v [VS ⟨⟨[]⟩⟩,V1 IntKind.u64 0,vZ 0,VT none 0 0])).flatten (0*4) (List.map SV.v [VS x.1,V1 IntKind.u64 x.2,vZ x.3,VT x.4 x.5 x.6])))=l',l'.all ab=true,false=false]:=by kernel_rfl
theorem P5 (E:List bH)(s:Int)(es:VQ)(cl n k:Nat)(l m:List SV)(i:Int)(q:ByteArray):dT (rU E) 72 60 (SM.at (pV n (.sl 3 0 k none) i) 6 (r6 s es cl l m)) (ff [0] true++[(2,.cells [.v (.string q)])])=[l[0+i.toNat*1]?=some (SV.v (VS q)),ai i n=true,decide (i<(↑n:Int))=true]:=by kernel_rfl
theorem Ph (E:List bH)(s:Int)(es:VQ)(cl n k:Nat)(l m:List SV)(i:Int)(q:ByteArray)(x:ak):dS (rU E) 72 60 (SM.at (pV n (.sl 3 0 k none) i) 6 (r6 s es cl l m)) (ff [0] true++[(2,.cells [.v (.string q)])]) (Dw x)=[l[0+i.toNat*1]?=some (SV.v (VS q)),ai i n=true,decide (i<(↑n:Int))=true]:=by kernel_rfl
theorem Po (E:List bH)(s:Int)(es:VQ)(cl n k:Nat)(l m w l':List SV)(i i':Int)(q:ByteArray)(x:ak):reach (rU E) 2 60 (N0 E n i s es cl l m k q x) ([(0,.app m w)]) [(0,0),(1,1),(2,2),(3,5)] [1,2,3] (pV n (.sl 3 0 (k+1) none) i') 6 (r6 s es cl l l')=[0=0,0=0/\k+1=k+1/\nZ=none,0=0/\n=n/\nZ=none,vZ (↑n:Int)=vZ (↑n:Int),vZ (IntKind.i64.wrap (i+1))=vZ i',V1 IntKind.u64 s=V1 IntKind.u64 s,cl=cl,es=es,(es.all fun e=>aw e.fst&&aw e.snd.fst)=true,l=l,l.all ab=true,m++w=l',l'.all ab=true,((List.take (1*4) (List.drop 0 (aQ (List.replicate 1 (List.map SV.v [VS ⟨⟨[]⟩⟩,V1 IntKind.u64 0,vZ 0,VT none 0 0])).flatten (0*4) (List.map SV.v [VS x.1,V1 IntKind.u64 x.2,vZ x.3,VT x.4 x.5 x.6])))=w/\w.length=1*4)/\1≠0/\(2*(k+1)+1024)*56<=140737488355328)/\List.take (k*4) m=m/\m.length=k*4/\w.all SV.flat=true]:=by kernel_rfl
theorem RX (E:List bH)(s:Int)(es:VQ)(cl n k:Nat)(l m:List SV)(i:Int):bY (rU E) 34 60 (SM.at (pV n (.sl 3 0 k none) i) 6 (r6 s es cl l m)) (ff [0] false) (.sl 3 0 k none) 3 (.row m 50 (0,0) (some 4))=[0=0/\k=k/\nZ=none,m=m,m.all ab=true,decide (i<(↑n:Int))=false]:=by kernel_rfl
theorem vn {ν:aP}{M:Own}{w0 w:World}{sh:SH}(hr:HR ν M w0 sh w){i j:Nat}{s:Int}{t:TypeId}{z:Nat × Nat}{x:Option Nat}{mi mj:Bool}{E:List bH}{cl:Nat}{a:List Value}
  (hi:sh.look i=some (.row [.v (.int .u64 s),.map j] t z x,mi)) (hj:sh.look j=some (.map (E.map mC) cl,mj)) (ht:t=66) (hz:z=(0,0)) (hx:x=none) (ha:au ν [.ptr i 0] a):
  ∃ b m,a=[.pointer (some ⟨b,0,none⟩)]/\jy w b m s E cl/\b≠m:=by
 subst ht hz hx;obtain⟨y1,ZK,rfl,q1,YH⟩:=ha.cons_inv;obtain rfl:=YH.ay;obtain⟨bb,YZ,rfl⟩:=VR.aF.1 q1;obtain⟨_,_,b,ob,hb,ho,YA,_⟩:=hr.look hi;obtain⟨_,_,b2,Z8,YW,ho2,hor2,_⟩:=hr.look hj;rw[YZ]at hb;cases hb;obtain⟨zs,rest,rfl,hzs,hl⟩:=YA;obtain⟨z1,u,rfl,r1,hu⟩:=hzs.cons_inv;obtain⟨z2,u2,rfl,r2,Ξ⟩:=hu.cons_inv;obtain rfl:=Ξ.ay;obtain rfl:=VR.ae.1 r1;obtain⟨bm,hbm,rfl⟩:=VR.cQ.1 r2;rw[YW]at hbm;cases hbm
 have h0:rest=[]:=by
  have:([Value.int .u64 s,Value.map (some b2.1)]++rest).length=2:=hl;simpa using this
 subst h0;obtain⟨l,rfl,hl2⟩:=hor2;refine⟨bb.1,b2.1,rfl,⟨by rw[ho];rfl,by rw[ho2,xq hl2]⟩,fun h=>?_⟩;rw[h,ho2]at ho;cases ho
theorem kA (E:List bH):(bA (E.map fun e=>e.1.p)).length=E.length:=by rw[(bz _).length_eq];simp
theorem ED {E:List bH}:bh Tryz.prog MX (71,gq (fj (B2 E)) (de (AS E))):=by
 refine bh.br (gJ ⟨_,Tryz.func71,by kernel_rfl,by kernel_rfl⟩ fun args sh ys n C elem ex p h hp ν M w0 w a hr hX ha=>?_) (dO ⟨_,Tryz.func71,by kernel_rfl,by kernel_rfl⟩ fun args sh v p h hp ν M w0 w a hr hX ha=>?_)
 ·dsimp only[B2]at h;split at h
  ·rename_i i;split at h
   ·rename_i s j t z x m1 hi;split at h
    ·rename_i es cl m2 hj;cases h;obtain⟨ht,hz,hx,rfl,hB,YO,Yu⟩:=hp;obtain⟨b,m,rfl,hA,_⟩:=vn hr hi hj ht hz hx ha;refine (qu hX hA hB YO).mono fun e w' ⟨v,he,hv,hb⟩=>⟨hb,v,he,?_⟩;rcases hv with ⟨_,h0⟩|⟨_,h1⟩
     ·have:=kA E;rw[h0]at this;exact absurd (Wd.1 this.symm) Yu
     ·rw[kA]at h1;exact h1
    ·cases h
   ·cases h
  ·cases h
 ·dsimp only[AS]at h;split at h
  ·rename_i i;split at h
   ·rename_i s j t z x m1 hi;split at h
    ·rename_i es cl m2 hj;cases h;obtain⟨ht,hz,hx,rfl,hB,rfl⟩:=hp;obtain⟨b,m,rfl,hA,_⟩:=vn hr hi hj ht hz hx ha;refine (qu hX hA hB (WW _)).mono fun e w' ⟨v,he,hv,hb⟩=>⟨hb,?_⟩;rcases hv with ⟨h1,_⟩|⟨h0,_⟩
     ·rw[he,h1]
     ·exact absurd (Wd.1 (bz []).length_eq) h0
    ·cases h
   ·cases h
  ·cases h
theorem MS {M0 M:Own}{w00 w0:World}{E:List bH}(hM:∀ z,¬ M0 z)(hB:dh M0 w00 M w0)(hX:MX w00):aK (rU E) M w0:=
 aK.uG (Checked.mixed Tryz.checked) (by kernel_rfl) (fh.of iJ rfl dK) (dy.list (X:=MX) (l:=QQ E) rfl (fun r h=>by
  rw[Wl.1 h];exact ED) fun ν s w hr _=>hX.keep fun k hk=>(hr.frame k (Wz hk hB.size) (hB.frame k hk (hM k)).2).trans (hB.frame k hk (hM k)).1) (fun f g h=>by cases h)
def JI (w w':World)(z:ByteArray->Int × Int × List Int)(L:List ByteArray)(v:Value):Prop:=(L=[]/\v=.slice none 0 0) \/
 ∃ zs,zs≠[]/\zs.map (·.p)=L/\cF w w' v (vE zs) zs.length 4 50/\∀ x∈zs,∃ us,(x.v,x.k,us)=z x.p/\uw w' x.a x.l us
def OZ (w:World)(z:ByteArray->Int × Int × List Int)(L:List ByteArray)(e:Ending)(w':World):Prop:=Below w.heap.size w w'/\∃ v,e=.returned v/\JI w w' z L v
def strs (L:List ByteArray):List SV:=(L.map Value.string).map SV.v
theorem bL (L:List ByteArray):(strs L).all ab=true:=by
 rw[Wn];intro x hx;obtain⟨v,_,rfl⟩:=Wb.1 hx;rfl
theorem rD {L:List ByteArray}{i:Nat}{q:ByteArray}(h:L[i]?=some q):(strs L)[0+(i:Int).toNat*1]?=some (.v (.string q)):=by
 unfold strs;rw[V5,W8,XJ,Wv,Wv,h];rfl
theorem iq (E:List bH):((E.map mC).all fun e=>aw e.1&&aw e.2.1)=true:=by
 rw[Wn];intro x hx;obtain⟨v,_,rfl⟩:=Wb.1 hx;rfl
section
variable {W:World}{cs0:List Frame}{E:List bH}{cm:ak->List Int}{b m cl:Nat}{s:Int}{M:Own}{ν:aP}
theorem C3 (hX:MX W)(hM:∀ z,¬ M z)(hA:jy W b m s E cl)(Yu:b≠m)(hB:c8 E cl)(hd:∀ e∈E,uw W e.1.a e.1.l (cm e.1))(hν:ν 0=some (b,0)){S:SM}{q:ByteArray}{o:List (Nat × gR)}{H:Hp}{M1:Own}{w1:World}(hk:Kept W.hp M W H M1 w1){R:Ending->World->Prop}
  (h1:ah (dT (rU E) 72 60 S o)) (h2:iy (rU E) 72 60 S o=eO (rU E) 72 [.ptr 0 0,.v (.string q)] .normal) (h3:∀ x,ah (dS (rU E) 72 60 S o (Dw x)))
  (nx:∀ H' M2 w2 (x:ak) us,Kept W.hp M W H' M2 w2->H.Sub H'->x.p=q->(x.v,x.k,us)=gP cm (E.map (·.1)) q->j4 H' x.a x.l us->af (rU E) M2 w2 cs0 34 R ν (dB (rU E) 72 60 S o (Dw x))):
  af (rU E) M1 w1 cs0 34 R ν S:=by
 refine af.gI (MS hM hk.base hX) hk (n:=60) (g:=72) (o:=o) (args:=[.ptr 0 0,.v (.string q)]) h1 h2 fun ν' w a hle Yv χ ha=>?_;obtain⟨y1,ZK,rfl,q1,YH⟩:=ha.cons_inv;obtain⟨y2,as2,rfl,q2,Zx⟩:=YH.cons_inv;obtain rfl:=Zx.ay;obtain rfl:=VR.ae.1 q2;obtain⟨bb,YZ,rfl⟩:=VR.aF.1 q1;have YZ:=YZ.symm.trans (hle 0 (b,0) hν);cases YZ;have hkp:=iN hk.Y1 Yv;have hA':jy w b m s E cl:=⟨(hkp b (VY.1 hA.row).1).trans hA.row,(hkp m (VY.1 hA.map).1).trans hA.map⟩;refine (DR hA' Yu hB (fun e he=>(hd e he).keep hkp) q H).mono fun e w' ⟨Zh,x,zs,he,hxp,hz,hd'⟩=>⟨Zh,.agg #[.string x.p,.int .u64 x.v,.int .i64 x.k,.slice x.a x.l x.c],he,fun M2 Zq=>⟨h3 x,?_⟩⟩;exact nx _ M2 w' x zs Zq (Hp.fi Yv) hxp hz hd'
theorem j4.sub {H H':Hp}{a:Option Addr}{l:Nat}{us:List Int}(h:j4 H a l us)(hs:H.Sub H'):j4 H' a l us:=fun w hw=>h w (hs.trans hw)
theorem CK (hX:MX W)(hM:∀ z,¬ M z)(hA:jy W b m s E cl)(Yu:b≠m)(hB:c8 E cl)(hd:∀ e∈E,uw W e.1.a e.1.l (cm e.1))(hν:ν 0=some (b,0))(hν1:∀ i b,ν i=some b->i=0\/i=1){L:List ByteArray}(YO:L.length<=1000):
  ∀ (j i:Nat),i+j=L.length->∀ H M1 w1 (zs:List ak),Kept W.hp M W H M1 w1->zs≠[]->zs.map (·.p)=L.take i->(∀ x∈zs,∃ us,(x.v,x.k,us)=gP cm (E.map (·.1)) x.p/\j4 H x.a x.l us)->
   af (rU E) M1 w1 cs0 34 (OZ W (gP cm (E.map (·.1))) L) ν (SM.at (pV L.length (.sl 3 0 zs.length none) (i:Int)) 6 (r6 s (E.map mC) cl (strs L) (cE zs)))
 | 0,i,hj,H,M1,w1,zs,hk,hz,hp,hdat=>by
  rw[We (by omega)]at hp
  refine af.bY (MS hM hk.base hX) (n:=60) (o:=ff [0] false) (x:=.sl 3 0 zs.length none) (i:=3) (so:=.row (cE zs) 50 (0,0) (some 4)) (by
   rw[RX];simp only[ah,aM,VV,VX,VW];exact V2 (by omega)) fun ν' w' y b1 ob hv hb ho YA hw Zh=>?_
  obtain⟨M3,w3,M4,s',hBb,hr⟩:=Zh
  have hn:W.heap.size<=b1.1:=by
   rcases hk.base.own _ hw with h|h
   ·exact h
   ·exact absurd h (hM _)
  have hnow:=hk.now hBb hr
  exact⟨aB hM (hk.base.trans hBb) hr,y,rfl,.inr ⟨zs,hz,hp,cF.gb hv hb ho YA hn fun zs hz=>xx hz,fun x hx=>by
   obtain⟨us,h1,h2⟩:=hdat x hx;exact⟨us,h1,h2 _ hnow⟩⟩⟩
 | j+1,i,hj,H,M1,w1,zs,hk,hz,hp,hdat=>by
  have hi:i<L.length:=by omega
  have hq:L[i]?=some L[i]:=V4 hi
  have hzl:zs.length=i:=by
   have:=congrArg List.length hp;simpa[Nat.min_eq_left (Nat.le_of_lt hi)] using this
  refine C3 hX hM hA Yu hB hd hν hk (q:=L[i]) (o:=ff [0] true++[(2,.cells [.v (.string L[i])])]) ?_ (by kernel_rfl) (fun x=>?_) fun H' M2 w2 x us Zy hs hxp hzz hdd=>?_
  ·rw[P5];simp only[ah,rD hq,aJ hi,V0 (show (i:Int)<(L.length:Int) by omega),VV,VX,VW]
  ·rw[Ph];simp only[ah,rD hq,aJ hi,V0 (show (i:Int)<(L.length:Int) by omega),VV,VX,VW]
  ·have nx:=CK hX hM hA Yu hB hd hν hν1 YO j (i+1) (by omega) H' M2 w2 (zs++[x]) Zy (by simp) (by rw[Wq,hp,List.take_add_one,hq];simp[hxp]) (fun y hy=>by
    rcases WJ.1 hy with hy|hy
    ·obtain⟨us,h1,h2⟩:=hdat y hy;exact⟨us,h1,h2.sub hs⟩
    ·rw[Wl.1 hy];exact⟨us,by rw[hxp];exact hzz,hdd⟩)
   rw[V7,show ([x]:List ak).length=1 from rfl,nT,jr]at nx;refine af.reach (MS hM Zy.base hX) (k:=2) (n:=60) (o:=[(0,.app (cE zs) (eC x))]) (ren:=[(0,0),(1,1),(2,2),(3,5)]) (eqs:=[1,2,3]) (S:=N0 E L.length (i:Int) s (E.map mC) cl (strs L) (cE zs) zs.length L[i] x) ?_ (by kernel_rfl) (fun i b h=>by rcases hν1 i b h with h|h<;>rw[h]<;>rfl) nx;rw[Po];simp only[ah,aU (k:=i) (by omega),aM,bL,iq,mT,gS,WL,VV,VX,VW];repeat' apply And.intro
   all_goals first|rfl|omega|exact We (by rw[gS];exact Wx _)|exact cD _|skip
theorem Ia (hX:MX W)(hM:∀ z,¬ M z)(hA:jy W b m s E cl)(Yu:b≠m)(hB:c8 E cl)(hd:∀ e∈E,uw W e.1.a e.1.l (cm e.1))(hν:ν 0=some (b,0))(hν1:∀ i b,ν i=some b->i=0\/i=1){L:List ByteArray}(YO:L.length<=1000)(hL:L≠[]){H:Hp}{M1:Own}{w1:World}(hk:Kept W.hp M W H M1 w1):
  af (rU E) M1 w1 cs0 34 (OZ W (gP cm (E.map (·.1))) L) ν (SM.at (pV L.length bZ ((0:Nat):Int)) 6 (vj s (E.map mC) cl (strs L))):=by
 have hi:0<L.length:=Xg.2 hL;have hq:L[0]?=some L[0]:=V4 hi;refine C3 hX hM hA Yu hB hd hν hk (q:=L[0]) (o:=ff [0] true++[(2,.cells [.v (.string L[0])])]) ?_ (by kernel_rfl) (fun x=>?_) fun H' M2 w2 x us Zy hs hxp hzz hdd=>?_
 ·rw[Qy];simp only[ah,rD hq,aJ hi,V0 (show ((0:Nat):Int)<(L.length:Int) by omega),VV,VX,VW]
 ·rw[PH];simp only[ah,rD hq,aJ hi,V0 (show ((0:Nat):Int)<(L.length:Int) by omega),VV,VX,VW]
 ·have nx:=CK (cs0:=cs0) hX hM hA Yu hB hd hν hν1 YO (L.length - 1) 1 (by omega) H' M2 w2 [x] Zy (by simp) (by rw[List.take_add_one,hq];simp[hxp]) (fun y hy=>by
   rw[Wl.1 hy];exact⟨us,by rw[hxp];exact hzz,hdd⟩)
  rw[show ([x]:List ak).length=1 from rfl,jr]at nx;refine af.reach (MS hM Zy.base hX) (k:=2) (n:=60) (o:=ff [0] false) (ren:=[(0,0),(1,1),(2,2),(3,4)]) (eqs:=[1,2,3]) (S:=Nv E L.length ((0:Nat):Int) s (E.map mC) cl (strs L) L[0] x) ?_ (by kernel_rfl) (fun i b h=>by rcases hν1 i b h with h|h<;>rw[h]<;>rfl) nx;rw[Pe];simp only[ah,aU (k:=0) (by omega),aM,bL,iq,cD,VV,VX,VW];repeat' apply And.intro
  all_goals first|rfl|omega|exact cD _|skip
end
theorem uC {W:World}{b m cl:Nat}{s:Int}{E:List bH}{cm:ak->List Int}(hX:MX W)(hA:jy W b m s E cl)(Yu:b≠m)(hB:c8 E cl)(hd:∀ e∈E,uw W e.1.a e.1.l (cm e.1))(YO:E.length<=1000):
  Calls Tryz.prog 34 #[.pointer (some ⟨b,0,none⟩)] W (OZ W (gP cm (E.map (·.1))) (bA (E.map fun e=>e.1.p))):=by
 have ho:∀ (j:Nat) (o':SO) (b' c':Nat),[SO.row [.v (.int .u64 s),.map 1] 66 (0,0) none,SO.map (E.map mC) cl][j]?=some o'->[(b,0),(m,0)][j]?=some (b',c')->∃ r,W.heap[b']?=some r/\OR (aA [(b,0),(m,0)]) j o' r:=by
  intro j o' b' c' h1 h2;match j with
  | 0=>
   simp only[Wa,Option.some.injEq]at h1 h2;subst h1;cases h2;exact⟨_,hA.row,_,[],rfl,au.cons (VR.ae.2 rfl) (au.cons (VR.cQ.2 ⟨(m,0),rfl,rfl⟩) au.nil),rfl⟩
  | 1=>
   simp only[WU,Wa,Option.some.injEq]at h1 h2;subst h1;cases h2;exact⟨_,hA.map,_,rfl,rQ E⟩
  | j+2=>simp at h1
 refine aW (E:=rU E) rfl (d:=6) (l:=[(b,0),(m,0)]) (os:=[.row [.v (.int .u64 s),.map 1] 66 (0,0) none,.map (E.map mC) cl]) rfl (by simp) (by simpa using Yu) ho rfl (args:=[.ptr 0 0]) (a:=[.pointer (some ⟨b,0,none⟩)]) (S0:=zh E s (E.map mC) cl) (by kernel_rfl) (au.cons (VR.aF.2 ⟨(b,0),rfl,rfl⟩) au.nil) fun cs0=>?_;have hM:∀ z,¬ (aD [(b,0),(m,0)] ([SO.row [.v (.int .u64 s),.map 1] 66 (0,0) none,SO.map (E.map mC) cl].map fun o=>(o,false))) z:=fun z=>kX z
 have ZS:=Kept.start (H0:=W.hp) (M:=aD [(b,0),(m,0)] ([SO.row [.v (.int .u64 s),.map 1] 66 (0,0) none,SO.map (E.map mC) cl].map fun o=>(o,false))) (w:=W) (Hp.Sub.refl _) (fun z o _=>hM z) (dN (by
  intro j o' m' b' c' q1 q2;rw[Wv]at q1;obtain⟨o2,q3,q4⟩:=Wg.1 q1;cases q4;exact ho j o' b' c' q3 q2)) (fun _ h=>h)
 have hν1:∀ i c,aA [(b,0),(m,0)] i=some c->i=0\/i=1:=fun i c h=>by
  match i with
  | 0=>exact .inl rfl
  | 1=>exact .inr rfl
  | i+2=>simp[aA]at h
 have hsl:=kA E;by_cases h0:E=[]
 ·subst h0;refine af.ao (MS hM ZS.base hX) (n:=60) (o:=VP++ff (List.range 10) false) (v:=.slice none 0 0) ?_ fun ν' M1 w1 s' w' _ Zh hr=>⟨aB hM Zh hr,_,rfl,.inl ⟨Wd.1 hsl,rfl⟩⟩;rw[S7];simp only[ah,VV,VX,VW];exact hB
 ·have hL:bA (E.map fun e=>e.1.p)≠[]:=fun h=>h0 (Wd.1 (by rw[<- hsl,h];rfl));have nx:=Ia (cs0:=cs0) (ν:=aA [(b,0),(m,0)]) hX hM hA Yu hB hd rfl hν1 (by rw[hsl];exact YO) hL ZS;rw[hsl]at nx;refine af.reach (MS hM ZS.base hX) (k:=2) (n:=60) (o:=VP++ff (List.range 10) true) (ren:=[(0,0),(1,1),(2,2)]) (eqs:=[1,2]) (S:=zh E s (E.map mC) cl) (F:=pV E.length bZ 0) (d:=6) (l:=vj s (E.map mC) cl (strs (bA (E.map fun e=>e.1.p)))) ?_ (by kernel_rfl) (fun i b h=>by rcases hν1 i b h with h|h<;>rw[h]<;>rfl) nx;rw[TW];simp only[ah,bL,iq,VV,VX,VW];repeat' apply And.intro
  all_goals first|rfl|exact hB|exact YO|exact h0|skip
def Oa (q:ByteArray):List SV:=[.v (.int .i64 3),.v (.string q)]
def tB (l:List ByteArray):List SV:=l.flatMap Oa
section
variable {W:World}{cs0:List Frame}{M:Own}{ν:aP}{x1 x2:Nat}{D:ByteArray->Bool}{L:List ByteArray}{c:Nat}
end
open Go Go.Rx Go.RowKit Go.Proofs Go.Sort
def strOf:SV->ByteArray|.v (.string s)=>s|_=>⟨#[]⟩
def fl (l:List SV):List ByteArray:=l.map strOf
theorem jI (L:List ByteArray):fl (strs L)=L:=by
 unfold fl strs;rw[WI,WI];exact (XB fun x _=>rfl).trans (List.map_id L)
theorem iK (L:List ByteArray):(strs L).length=L.length:=by unfold strs;simp
def Bt (L:List ByteArray):Prop:=L≠[]/\L.length<=100000/\∀ s∈L,s.size<=1000000000
def xN:Sum:=fun args s=>match args with
 | [.v u,.v v]=>some (.v (.tuple #[]),s.jh (u=.slice none 0 0/\v=.func (.func 89) #[] #[]))
 | [.sl j 0 n none,.v v]=>match s.look j with
  | some (.row ys e z (some C),true)=>some (.v (.tuple #[]),(s.jh (ys=strs (fl ys)/\n=(fl ys).length/\Bt (fl ys)/\e=9/\z=(0,0)/\C=1/\v=.func (.func 89) #[] #[])).put j (.row (strs (bA (fl ys))) e z (some C)))
  | _=>none
 | _=>none
def QM (L:List ByteArray):List ByteArray:=(Lib.compact (L.map fun s:ByteArray=>s.data.toList)).map fun x=>⟨x.toArray⟩
theorem F1 {ν:aP}{M:Own}{w0 w:World}{s:SH}(hr:HR ν M w0 s w){j n:Nat}{L:List ByteArray}{m:Bool}{y:Value}(hj:s.look j=some (.row (strs L) 9 (0,0) (some 1),m))(hv:VR ν (.sl j 0 n none) y):
  ∃ b rest,ν j=some b/\n<=b.2/\y=.slice (some ⟨b.1,0,none⟩) n b.2/\w.heap[b.1]?=some (.cells (L.map Value.string++rest).toArray 9 (0,0))/\(L.map Value.string++rest).length=b.2*1:=by
 obtain⟨b,hb,hle,rfl⟩:=VR.aL.1 hv;obtain⟨_,_,b',o,Yy,ho,YA,_⟩:=hr.look hj;rw[hb]at Yy;cases Yy;obtain⟨zs,rest,rfl,hz,hx⟩:=YA;have hzs:zs=L.map Value.string:=gi hz (au.lits ν _);subst hzs;obtain⟨_,b2,YW,YX⟩:=hx;rw[hb]at YW;cases YW;exact⟨b,rest,hb,hle,rfl,ho,YX⟩
theorem D9 {L:List ByteArray}(h:∀ s∈L,s.size<=1000000000):∃ K:List MV,K.map (·.1)=L:=
 ⟨L.attach.map fun s=>⟨s.1,h s.1 s.2⟩,by rw[WI];exact List.attach_map_subtype_val L⟩
theorem Oq {w:World}{b:Nat}{L:List ByteArray}{rest:List Value}(hm:MX w)(hL:L≠[])(hh:w.heap[b]?=some (.cells (L.map Value.string++rest).toArray 9 (0,0))):b≠2:=by
 rintro rfl
 obtain⟨z,hz⟩:=hm;rw[cV hh]at hz;cases L with
 | nil=>exact hL rfl
 | cons x L=>simp at hz
theorem FU:A6 Tryz.prog MX (112,xN):=by
 refine⟨⟨_,Tryz.func112,by kernel_rfl,by kernel_rfl⟩,fun args x s s' hx ob=>?_⟩;dsimp only at hx;unfold xN at hx;split at hx
 ·cases hx;obtain⟨ob3,rfl,rfl⟩:=ob;refine⟨ob3,fun ν M w0 w a hr hX ha=>?_⟩;obtain⟨y1,ZK,rfl,q1,YH⟩:=ha.cons_inv;obtain⟨y2,as2,rfl,q2,Zx⟩:=YH.cons_inv;obtain rfl:=Zx.ay;obtain rfl:=VR.ae.1 q1;obtain rfl:=VR.ae.1 q2;exact (AnyF.slices_SortFunc_none { wI with } none 0 _ w).mono fun e w' ⟨he,hw⟩=>⟨_,he,.old (by rw[hw];exact Below.refl _ _) (.same (SH.cn _ _) (VR.ae.2 rfl))⟩
 ·rename_i j n v;split at hx
  ·rename_i ys e z C hl;cases hx;obtain⟨ob3,ZQ,hn,hs,rfl,rfl,rfl,rfl⟩:=ob;refine⟨ob3,fun ν M w0 w a hr hX ha=>?_⟩;generalize hL:fl ys=L at *;subst ZQ hn;obtain⟨y1,ZK,rfl,q1,YH⟩:=ha.cons_inv;obtain⟨y2,as2,rfl,q2,Zx⟩:=YH.cons_inv;obtain rfl:=Zx.ay;obtain rfl:=VR.ae.1 q2;obtain⟨b,rest,hb,hle,rfl,hh,YX⟩:=F1 hr hl q1;have hbm:=Oq hX hs.1 hh;obtain⟨K,rfl⟩:=D9 hs.2.2;have hlen:=hs.2.1;have hl2:K.length=(K.map (·.1)).length:=by simp
   have cS:=s9 (cap:=b.2) hX hbm (L:=K) (rest:=rest) (by rw[hh,WI];rfl) (by omega);rw[hl2]at cS;refine cS.mono fun e w' ⟨he,hbut,Zw⟩=>⟨_,he,.G3 (s.jh _) j _ _ b _ (SH.cn _ _) hl rfl hb Zw ⟨(bA (K.map (·.1))).map Value.string,rest,rfl,au.lits _ _,?_⟩ hbut (VR.ae.2 rfl)⟩;refine⟨by rw[iK,V7,WH];omega,b,hb,?_⟩;rw[<- YX,V7,WH,(bz _).length_eq,V7,WH,WH,WH]
  ·cases hx
 ·cases hx
end paths
open Go Go.Rx Go.RowKit Go.Proofs
namespace paths
def P4 (n:Nat):Nat->SV:=fun i=>.sl i 0 n none
def Pj (l:List ak):SO:=.row (cE l) 50 (0,0) (some 4)
theorem oO {W w:World}{H:Hp}(h0:W.hp.Sub H)(h:H.Sub w.hp):W.heap.size<=w.heap.size:=by
 rcases Nat.eq_zero_or_pos W.heap.size with h1|h1
 ·omega
 ·have h2:=h _ _ (h0 (W.heap.size - 1) W.heap[W.heap.size - 1] (WT (by omega)));have:=(VY.1 h2).1;omega
section
variable {W:World}{cs0:List Frame}{b b1 b2:Nat}{c c1 c2:ak->List Int}{l l1 l2:List ak}{L L1 L2:List ByteArray}{M:Own}{ν:aP}
end
section
variable {w0:World}{cs0:List Frame}{xs:List ByteArray}{p:ByteArray}{b:Nat × Nat}{c:Nat}
end
section
variable {w0:World}{cs0:List Frame}{l0 xs:List ByteArray}{x:ByteArray}{M:Own}{ν:aP}
end
theorem lX {ν:aP}{l:List ByteArray}{zs:List Value}(h:au ν (strs l) zs):zs=l.map Value.string:=gi h (au.lits ν _)
theorem tJ (a b:List ByteArray):strs (a++b)=strs a++strs b:=by unfold strs;simp
theorem oE (q:ByteArray):strs [q]=[.v (.string q)]:=rfl
theorem pM (a:List ByteArray):(strs a).all SV.flat=true:=by
 rw[Wn];intro x hx;obtain⟨v,hv,rfl⟩:=Wb.1 hx;obtain⟨s,_,rfl⟩:=Wb.1 hv;rfl
section
variable {W:World}{cs0:List Frame}{D:List ak}{ys:ak->List Int}{xs1 xs2:List ak}{M:Own}{ν:aP}
end
section
variable {W:World}{cs0:List Frame}{D:List ak}{ys:ak->List Int}{xs1:List ak}{M:Own}{ν:aP}
end
section
variable {W:World}{cs0:List Frame}{D:List ak}{ys:ak->List Int}{xs2:List ak}{M:Own}{ν:aP}
end
section
variable {W:World}{cs0:List Frame}{D:List ak}{ys:ak->List Int}{M:Own}{ν:aP}
end
def QX (a b:ByteArray):Prop:=dp a b<0
theorem Cy (a:ByteArray):¬ QX a a:=by
 unfold QX;rw[jk];decide
open Go Go.Rx Go.RowKit Go.Proofs Go.Sort
theorem yA {w:World}{x:Nat}(hx:w.heap[x]?=some (.cells #[.map none] 64 (0,0))):
  Calls Tryz.prog 118 #[.func (.func 119) #[] #[.pointer (some ⟨x,0,none⟩)]] w fun e w'=>e=.returned (.slice none 0 0)/\Below w.heap.size w w':=by
 have hxl:x<w.heap.size:=(VY.1 hx).1
 have hseq:SeqGives Fence.wide 3 Tryz.prog 119 #[.pointer (some ⟨x,0,none⟩)] encStr (fun ss:List (List UInt8)=>ss=[]) 0 w:=
  AnyZ.keys_gives_nil (ρ:=oi) { wY with } Fence.wide 3 trivial rfl x w hxl (by rw[cV hx];rfl)
 have h:=AnyZ.collect_in Gt Fence.wide 5 trivial trivial rfl (by omega) 119 #[.pointer (some ⟨x,0,none⟩)] trivial (enters_of Tryz.func119 (by kernel_rfl) rfl) _ 0 (by decide) (by omega) w hseq;exact (callsIn_wide.1 h).mono fun e w' ⟨v,ss,he,hp,hrow,hnil,hb⟩=>⟨by rw[he,hnil.2 hp],hb⟩
theorem AW {w:World}{x:Nat}(hx:w.heap[x]?=some (.cells #[.map none] 64 (0,0))):
  Calls Tryz.prog 97 #[.func (.func 119) #[] #[.pointer (some ⟨x,0,none⟩)],.func (.func 89) #[] #[]] w fun e w'=>e=.returned (.slice none 0 0)/\Below w.heap.size w w':=by
 have hc:=yA hx;clear hx;go_enter Tryz.func97,Tryz.ntmps97
 go_wp2_with (first
  | (go_at_call 118;refine hc.mono ?_;rintro e W ⟨rfl,hb⟩)
  | (go_at_call 112;refine (AnyF.slices_SortFunc_none { wI with } none 0 _ W).mono ?_;rintro e w' ⟨rfl,rfl⟩))
 go_ret
 exact⟨rfl,hb⟩
theorem EE {w:World}{b:Nat}{s:Int}(hb:w.heap[b]?=some (.cells #[.int .u64 s,.map none] 66 (0,0))):
  Calls Tryz.prog 71 #[.pointer (some ⟨b,0,none⟩)] w fun e w'=>e=.returned (.slice none 0 0)/\Below w.heap.size w w':=by
 have h1:w.cell? ⟨b,1,none⟩=some (.map none):=by rw[cV hb];rfl
 have hbl:Below w.heap.size w (w.alloc (.cells #[.map none] 64)):=(Below.refl _ _).alloc (Wx _) _;have cs:=AW (w:=w.alloc (.cells #[.map none] 64)) (x:=w.heap.size) (show (w.heap.push _)[w.heap.size]?=some _ by rw[Array.getElem?_push_size]);have ck:=callsIn_wide.1 (AnyZ.keys_in wY Fence.wide 5 trivial rfl none w);clear hb;go_enter Tryz.func71,Tryz.ntmps71
 go_wp2_with (first
  | (go_at_call 98;refine ck.mono ?_;rintro e w' ⟨rfl,rfl⟩)
  | (go_at_call 97;refine cs.mono ?_;rintro e w' ⟨rfl,YW⟩))
 go_ret
 exact⟨rfl,hbl.trans (YW.mono hbl.size)⟩
def Rv (s:Int):Option (SO × Bool):=some (.row [.v (.int .u64 s),.v (.map none)] 66 (0,0) none,false)
def Ax:yC:=fun args sh=>match args with
 | [.ptr i 0]=>match sh.look i with
  | some (.row [.v (.int .u64 s),.v u] t z x,_)=>some (.slice none 0 0,t=66/\z=(0,0)/\x=none/\u=.map none)
  | _=>none
 | _=>none
def QU:List (FuncId × Sum):=[(71,de Ax)]
def O0:Env:={ EP [] [] with YT:=fun f=>QU.lookup f }
def Kl (s:Int):SM:=(a6 O0 34 [.ptr 0 0] (bG 6 1 0 [Rv s])).getD dn
theorem ez (s:Int)(v:Value):ao O0 34 100 (Kl s) VP v=[VT none 0 0=v,66=66/\(0,0)=(0,0)/\nZ=none/\Value.map none=Value.map none]:=by kernel_rfl
theorem AY {w:World}{b:Nat}{s:Int}(hb:w.heap[b]?=some (.cells #[.int .u64 s,.map none] 66 (0,0))):∀ (j:Nat) (o':SO) (b' c':Nat),[SO.row [.v (.int .u64 s),.v (.map none)] 66 (0,0) none][j]?=some o'->[(b,0)][j]?=some (b',c')->∃ r,w.heap[b']?=some r/\OR (aA [(b,0)]) j o' r:=by
 intro j o' b' c' h1 h2;match j with
 | 0=>
  simp only[Wa,Option.some.injEq]at h1 h2;subst h1;cases h2;exact⟨_,hb,_,[],rfl,au.cons (VR.ae.2 rfl) (au.cons (VR.ae.2 rfl) au.nil),rfl⟩
 | j+1=>simp at h1
theorem AP {X:World->Prop}:bh Tryz.prog X (71,de Ax):=by
 refine dO ⟨_,Tryz.func71,by kernel_rfl,by kernel_rfl⟩ fun args sh v p h hp ν M w0 w a hr hX ha=>?_;dsimp only[Ax]at h;split at h
 ·rename_i i;split at h
  ·rename_i s u t z x m1 hi;cases h;obtain⟨rfl,rfl,rfl,rfl⟩:=hp;obtain⟨y1,ZK,rfl,q1,YH⟩:=ha.cons_inv;obtain rfl:=YH.ay;obtain⟨bb,YZ,rfl⟩:=VR.aF.1 q1;obtain⟨_,_,b,ob,hb,ho,YA,_⟩:=hr.look hi;rw[YZ]at hb;cases hb;obtain⟨zs,rest,rfl,hzs,hl⟩:=YA;obtain⟨z1,u,rfl,r1,hu⟩:=hzs.cons_inv;obtain⟨z2,u2,rfl,r2,Ξ⟩:=hu.cons_inv;obtain rfl:=Ξ.ay;obtain rfl:=VR.ae.1 r1;obtain rfl:=VR.ae.1 r2
   have h0:rest=[]:=by
    have:([Value.int .u64 s,Value.map none]++rest).length=2:=hl;simpa using this
   subst h0;exact (EE ho).mono fun e w' ⟨he,hB⟩=>⟨hB,he⟩
  ·cases h
 ·cases h
theorem zI {w:World}{b:Nat}{s:Int}(hb:w.heap[b]?=some (.cells #[.int .u64 s,.map none] 66 (0,0))):
  Calls Tryz.prog 34 #[.pointer (some ⟨b,0,none⟩)] w fun e w'=>Below w.heap.size w w'/\e=.returned (.slice none 0 0):=by
 refine aW (E:=O0) rfl (d:=6) (l:=[(b,0)]) (os:=[.row [.v (.int .u64 s),.v (.map none)] 66 (0,0) none]) rfl (by simp) (by simp) (AY hb) rfl (args:=[.ptr 0 0]) (a:=[.pointer (some ⟨b,0,none⟩)]) (S0:=Kl s) (by kernel_rfl) (au.cons (VR.aF.2 ⟨(b,0),rfl,rfl⟩) au.nil) fun cs0=>?_
 have K:aK O0 (aD [(b,0)] ([SO.row [.v (.int .u64 s),.v (.map none)] 66 (0,0) none].map fun o=>(o,false))) w:=
  aK.uG (Checked.mixed Tryz.checked) (by kernel_rfl) (fh.of iJ rfl dK) (dy.list (X:=fun _=>True) (l:=QU) rfl (fun r h=>by
   rw[Wl.1 h];exact AP) fun ν s w hr _=>trivial) (fun f g h=>by cases h)
 refine af.ao K (n:=100) (o:=VP) (v:=.slice none 0 0) ?_ fun ν' M1 w1 s' w' _ Zh hr=>⟨aB (fun z=>aZ (os:=[_])) Zh hr,rfl⟩;rw[ez];simp only[ah,VV,VX,VW]
end paths
open Go Go.Rx Go.RowKit Go.Proofs
namespace paths
theorem MX.sub {W w:World}(h:MX W)(hs:W.hp.Sub w.hp):MX w:=h.keep (iN (Hp.Sub.refl _) hs)
theorem GD (e:ak):pI e.p e=true:=gv.2 rfl
theorem qa {l:List ak}(hn:(l.map fun e=>e.p).Nodup){e:ak}(he:e∈l):l.find? (pI e.p)=some e:=by
 induction l with
 | nil=>cases he
 | cons a l ih=>
  rw[WC,W3]at hn;rcases V8.1 he with rfl|h
  ·rw[X2,GD]
  ·have hna:pI e.p a=false:=by
    cases h2:pI e.p a
    ·rfl
    ·exact absurd (Wb.2 ⟨e,h,(gv.1 h2).symm⟩) hn.1
   rw[X2,hna];exact ih hn.2 h
theorem BO {E:List bH}{xs:List ak}{cm ys:ak->List Int}(h:(E.map (KM cm)).Perm (xs.map (KE ys)))(hn:(E.map fun e=>e.1.p).Nodup)(q:ByteArray):gP cm (E.map (·.1)) q=gP ys xs q:=by
 have hnx:(xs.map fun e=>e.p).Nodup:=by
  have hp:=(h.map (fun k:Key=>k.1)).symm;rw[WI,WI]at hp;exact hp.nodup_iff.2 hn
 have hnE:((E.map (·.1)).map fun e=>e.p).Nodup:=by rw[WI];exact hn
 unfold gP;cases hf:xs.find? (pI q) with
 | some x=>
  have hx:=WV hf;have hxq:x.p=q:=gv.1 (Xp hf);obtain⟨e,he,hk⟩:=Wb.1 (h.mem_iff.2 (Wb.2 ⟨x,hx,rfl⟩));unfold KM KE at hk;simp only[Prod.mk.injEq]at hk;obtain⟨k1,k2,k3,k4⟩:=hk
  have hfe:(E.map (·.1)).find? (pI q)=some e.1:=by
   have:=qa hnE (Wb.2 ⟨e,he,rfl⟩);rwa[k1,hxq]at this
  rw[hfe];simp only[k2,k3,k4]
 | none=>
  have hfe:(E.map (·.1)).find? (pI q)=none:=by
   rw[WY];intro e1 he1 hq;obtain⟨e,he,rfl⟩:=Wb.1 he1;obtain⟨x,hx,hk⟩:=Wb.1 (h.mem_iff.1 (Wb.2 ⟨e,he,rfl⟩));have h1:x.p=e.1.p:=(Prod.mk.inj hk).1;exact absurd (gv.2 (h1.trans (gv.1 hq))) (WY.1 hf x hx)
  rw[hfe]
def Kf (n:Nat)(w w2:World):Prop:=∀ k o,n<=k->w.heap[k]?=some o->w2.heap[k]?=some o
def eP:List (List UInt8)->List UInt8
 | []=>[]
 | [x]=>x
 | x::y::r=>x++47::eP (y::r)
theorem il {x:List UInt8}{l:List (List UInt8)}(h:l≠[]):eP (x::l)=x++47::eP l:=by
 cases l with
 | nil=>exact absurd rfl h
 | cons y r=>rfl
theorem mJ:∀ {a b:List (List UInt8)},a≠[]->b≠[]->eP (a++b)=eP a++47::eP b
 | [],_,h,_=>absurd rfl h
 | [x],b,_,hb=>by rw[List.singleton_append,il hb];rfl
 | x::y::r,b,_,hb=>by
  rw[Xs,il (by simp),il (by simp:(y::r)≠[]),mJ (by simp) hb]
  simp
theorem sq:∀ (t r:List UInt8),aq (t++47::r)=aq t++aq r
 | [],r=>by
  have:aq (47::r)=[]::aq r:=by conv=>lhs;unfold aq;rw[if_pos rfl]
  rw[Xm,this];rfl
 | b::t,r=>by
  have ih:=sq t r
  rw[Xs]
  by_cases h:b=47
  ·have e:∀ l,aq (b::l)=[]::aq l:=fun l=>by conv=>lhs;unfold aq;rw[if_pos h]
   rw[e,e,ih];rfl
  ·cases ht:aq t with
   | nil=>exact absurd ht (cY _)
   | cons x xs=>
    rw[ht]at ih
    have e:∀ l y ys,aq l=y::ys->aq (b::l)=(b::y)::ys:=fun l y ys hl=>by conv=>lhs;unfold aq;rw[if_neg h,hl]
    rw[e _ _ _ ih,e _ _ _ ht];rfl
theorem jz:∀ l:List UInt8,eP (aq l)=l
 | []=>rfl
 | b::l=>by
  have ih:=jz l
  by_cases h:b=47
  ·have e:aq (b::l)=[]::aq l:=by conv=>lhs;unfold aq;rw[if_pos h]
   rw[e,il (cY l),ih,h];rfl
  ·cases ht:aq l with
   | nil=>exact absurd ht (cY _)
   | cons x xs=>
    have e:aq (b::l)=(b::x)::xs:=by conv=>lhs;unfold aq;rw[if_neg h,ht]
    rw[ht]at ih
    rw[e]
    cases xs with
    | nil=>rw[<- ih];rfl
    | cons y ys=>rw[<- ih];rfl
theorem nE:∀ (l:List UInt8),∀ s∈aq l,(47:UInt8) ∉ s
 | [],s,hs=>by
  have:s=[]:=by simpa[aq] using hs
  rw[this];simp
 | b::l,s,hs=>by
  have ih:=nE l
  by_cases h:b=47
  ·have e:aq (b::l)=[]::aq l:=by conv=>lhs;unfold aq;rw[if_pos h]
   rw[e]at hs
   rcases V8.1 hs with rfl|hs
   ·simp
   ·exact ih s hs
  ·cases ht:aq l with
   | nil=>exact absurd ht (cY _)
   | cons x xs=>
    have e:aq (b::l)=(b::x)::xs:=by conv=>lhs;unfold aq;rw[if_neg h,ht]
    rw[e]at hs
    rcases V8.1 hs with rfl|hs
    ·have:=ih x (by rw[ht];simp)
     intro hm
     rcases V8.1 hm with h2|h2
     ·exact h h2.symm
     ·exact this h2
    ·exact ih s (by rw[ht];exact Wc _ hs)
def zb (p:List UInt8):List UInt8:=eP (aq p).dropLast
def aj (p:ByteArray):ByteArray:=bif aR p then mk (zb p.data.toList) else ⟨#[]⟩
def aC (p:ByteArray):Bool:=aR p&&decide (1<(aq p.data.toList).length)
def qg (p t:List UInt8):Bool:=decide ((aq t).length<(aq p).length)&&decide ((aq p).take (aq t).length=aq t)
def dR (p t:ByteArray):Bool:=aR p&&aR t&&qg p.data.toList t.data.toList
theorem wK (p t:List UInt8):qg p t=decide ((t++[47]) <+: p):=by
 unfold qg;by_cases h:(t++[47]) <+: p
 ·obtain⟨r,hr⟩:=h;have e:p=t++47::r:=by rw[<- hr];simp
  have h2:=sq t r;have h3:0<(aq r).length:=Xg.2 (cY r);rw[V0 (show (t++[47]) <+: p from ⟨r,hr⟩),e,h2,V0 (by rw[V7];omega),V0 (by simp)];rfl
 ·rw[V2 h];by_cases h1:(aq t).length<(aq p).length
  ·rw[V0 h1,Bool.true_and];refine V2 fun h2=>h ⟨eP ((aq p).drop (aq t).length),?_⟩
   have h4:(aq p).drop (aq t).length≠[]:=fun h5=>by
    have:=congrArg List.length h5;rw[List.length_drop,WK]at this;omega
   have h6:=Xh (aq t).length (aq p);rw[h2]at h6;have h7:=mJ (cY t) h4;rw[h6,jz,jz]at h7;rw[Xz];exact h7.symm
  ·rw[V2 h1,Bool.false_and]
theorem wQ {p:List UInt8}(h:(aq p).length<=1):zb p=[]/\(47:UInt8) ∉ p:=by
 have h0:=cY p;match hp:aq p,h with
 | [],_=>exact absurd hp h0
 | [x],_=>
  refine⟨by unfold zb;rw[hp];rfl,?_⟩;have h1:=jz p;rw[hp]at h1;have h2:=nE p x (by rw[hp];simp);rw[<- h1];exact h2
 | _::_::_,h=>simp at h
theorem xU {p:List UInt8}(h:1<(aq p).length):∃ s,p=zb p++47::s/\(47:UInt8) ∉ s:=by
 have h0:=cY p
 have h1:(aq p).dropLast≠[]:=fun h2=>by
  have:=congrArg List.length h2;rw[List.length_dropLast,WK]at this;omega
 refine⟨(aq p).getLast h0,?_,nE p _ (List.getLast_mem h0)⟩;have h2:=List.dropLast_concat_getLast h0;have h3:=mJ h1 (show [(aq p).getLast h0]≠[] by simp);rw[h2,jz]at h3;exact h3
theorem JH {s:ByteArray}{k:Nat}(h:s.data.toList=s.data.toList.take k++47::s.data.toList.drop (k+1))(hk:k<s.size)(h47:(47:UInt8) ∉ s.data.toList.drop (k+1)):Go.Lib.lastIndexByte s 47=k:=by
 have hlen:s.data.toList.length=s.size:=by simp
 have hget:∀ j,j<s.size->s.data[j]! = s.data.toList.getD j 0:=fun j hj=>by
  have h1:j<s.data.size:=hj;rw[getElem!_pos s.data j h1,Xo,V4 (by rw[hlen];exact hj)];simp
 have Zy:s.data.toList.getD k 0=47:=by
  have h2:(s.data.toList.take k++47::s.data.toList.drop (k+1)).getD k 0=47:=by
   rw[Xo,XY (by rw[WX];omega),WX,hlen,Nat.min_eq_left (by omega),Nat.sub_self];rfl
  rw[<- h]at h2;exact h2
 rcases Go.Lib.lastIndexByte_spec s 47 with ⟨h1,h2⟩|⟨i,hi,h1,h2,h3⟩
 ·exfalso;have:=h2 k hk;rw[hget k hk,Zy]at this;exact this rfl
 ·rw[h1];rcases Nat.lt_trichotomy i k with hik|rfl|hik
  ·exfalso;have:=h3 k hik hk;rw[hget k hk,Zy]at this;exact this rfl
  ·rfl
  ·exfalso;apply h47
   have h4:s.data.toList.getD i 0=47:=by
    have h5:=h2;rw[hget i hi]at h5;exact X0.1 (by rw[show (47:UInt8).toNat=47 from rfl];omega)
   rw[List.mem_iff_getElem?];refine⟨i - (k+1),?_⟩;rw[W7,show k+1+(i - (k+1))=i by omega,V4 (by rw[hlen];exact hi)];rw[Xo,V4 (by rw[hlen];exact hi)]at h4;simpa using h4
theorem EH {s:ByteArray}(h47:(47:UInt8) ∉ s.data.toList):Go.Lib.lastIndexByte s 47=-1:=by
 have hlen:s.data.toList.length=s.size:=by simp
 rcases Go.Lib.lastIndexByte_spec s 47 with ⟨h1,h2⟩|⟨i,hi,h1,h2,h3⟩
 ·exact h1
 ·exfalso;apply h47;have h1:i<s.data.size:=hi;rw[getElem!_pos s.data i h1]at h2;have h5:s.data[i]=47:=X0.1 (by rw[show (47:UInt8).toNat=47 from rfl];omega);rw[<- h5];simp
theorem vB {l a s:List UInt8}(h:l=a++47::s):l.take a.length=a/\l.drop (a.length+1)=s:=by
 subst h;refine⟨List.take_left,?_⟩;rw[<- List.drop_drop,List.drop_left];rfl
theorem Cs (p:ByteArray):Go.Lib.lastIndexByte p 47=if 1<(aq p.data.toList).length then ((zb p.data.toList).length:Int) else -1:=by
 by_cases h:1<(aq p.data.toList).length
 ·rw[if_pos h];obtain⟨s,h1,h2⟩:=xU h;have hlen:p.data.toList.length=p.size:=by simp
  have h3:=congrArg List.length h1;rw[V7,Wm,hlen]at h3;obtain⟨ht,hd⟩:=vB h1;refine JH ?_ (by omega) (by rw[hd];exact h2);rw[ht,hd];exact h1
 ·rw[if_neg h];exact EH (wQ (by omega)).2
theorem JP (p:ByteArray)(h:1<(aq p.data.toList).length):p.extract 0 (zb p.data.toList).length=mk (zb p.data.toList):=by
 obtain⟨s,h1,h2⟩:=xU h;obtain⟨ht,_⟩:=vB h1
 have:(p.extract 0 (zb p.data.toList).length).data.toList=zb p.data.toList:=by
  rw[ByteArray.data_extract];simp[ht]
 rw[<- KG (p.extract 0 (zb p.data.toList).length),this]
theorem Fw (p:ByteArray)(h:1<(aq p.data.toList).length):(zb p.data.toList).length<p.size:=by
 obtain⟨s,h1,h2⟩:=xU h;have hlen:p.data.toList.length=p.size:=by simp
 have h3:=congrArg List.length h1;rw[V7,Wm,hlen]at h3;omega
theorem xa (p:ByteArray):(aj p).size<=p.size:=by
 unfold aj;cases aR p
 ·exact WW _
 ·show (zb p.data.toList).length<=_;by_cases h:1<(aq p.data.toList).length
  ·exact Nat.le_of_lt (Fw p h)
  ·rw[(wQ (by omega)).1];exact WW _
theorem EJ (p:ByteArray):aC p=!(aj p).data.toList.isEmpty:=by
 unfold aC aj;cases hg:aR p
 ·rfl
 ·show (true&&_)=!(zb p.data.toList).isEmpty;rw[Bool.true_and];by_cases h:1<(aq p.data.toList).length
  ·rw[V0 h]
   have h1:(aq p.data.toList).dropLast≠[]:=fun h2=>by
    have:=congrArg List.length h2;rw[List.length_dropLast,WK]at this;omega
   have Zf:=((ka 6 p).1 (by unfold aR at hg;rw[V6]at hg;exact hg.2)).2;match hd:(aq p.data.toList).dropLast,h1 with
   | x::r,_=>
    have hx:x∈aq p.data.toList:=List.dropLast_subset _ (by rw[hd];simp);have hb:=Zf x hx
    have Yu:x≠[]:=fun e=>by
     rw[e]at hb;simp[bc,mk]at hb
    have:zb p.data.toList≠[]:=by
     unfold zb;rw[hd];cases r with
     | nil=>exact Yu
     | cons y ys=>rw[il (by simp)];simp[Yu]
    cases hu:zb p.data.toList with
    | nil=>exact absurd hu this
    | cons _ _=>rfl
  ·rw[V2 h,(wQ (by omega)).1];rfl
def Ai:Go.Shelf.Ren:=⟨fun|99=>122|206=>135|n=>n,fun|9=>9|4=>4|3=>3|n=>n,fun|n=>n⟩
theorem Mq:Go.Proofs.Lays.n99 Tryz.prog Ai where
 mixed:=by kernel_rfl
 f99:=Tryz.func122.trans (congrArg some (by kernel_rfl))
 f206:=Tryz.func135.trans (congrArg some (by kernel_rfl))
 t3:=Tryz.underlying3
 a3:=Tryz.isAgg3
 z3:=Tryz.sizeOf3
 v3:=Tryz.zeroValue3
 t4:=Tryz.underlying4
 a4:=Tryz.isAgg4
 z4:=Tryz.sizeOf4
 v4:=Tryz.zeroValue4
 t9:=Tryz.underlying9
 a9:=Tryz.isAgg9
 z9:=Tryz.sizeOf9
 v9:=Tryz.zeroValue9
def Ak:Go.Shelf.Ren:=⟨fun|149=>108|222=>123|n=>n,fun|9=>9|5=>5|3=>3|4=>4|n=>n,fun|n=>n⟩
theorem KW:Go.Proofs.Lays.n149 Tryz.prog Ak where
 mixed:=by kernel_rfl
 f149:=Tryz.func108.trans (congrArg some (by kernel_rfl))
 f222:=Tryz.func123.trans (congrArg some (by kernel_rfl))
 t3:=Tryz.underlying3
 a3:=Tryz.isAgg3
 z3:=Tryz.sizeOf3
 v3:=Tryz.zeroValue3
 t4:=Tryz.underlying4
 a4:=Tryz.isAgg4
 z4:=Tryz.sizeOf4
 v4:=Tryz.zeroValue4
 t5:=Tryz.underlying5
 a5:=Tryz.isAgg5
 z5:=Tryz.sizeOf5
 v5:=Tryz.zeroValue5
 t9:=Tryz.underlying9
 a9:=Tryz.isAgg9
 z9:=Tryz.sizeOf9
 v9:=Tryz.zeroValue9
def yk (s t:ByteArray):Bool:=Go.Lib.hasPrefix s.data.toList t.data.toList
def A3:PS:=fun args=>match args with|[.string s,.string t]=>some (.bool (yk s t),True)|_=>none
def fJ (s:ByteArray):Int:=Go.Lib.lastIndexByte s 47
def BZ:PS:=fun args=>match args with|[.string s,.int .u8 c]=>some (.int .i64 (fJ s),c=47/\s.size<=1000000000)|_=>none
def H7:Env:=EP [(81,kS),(122,A3)] []
def H2:Env:=EP [(81,kS),(108,BZ)] []
theorem Rj (p t:ByteArray)(v:Value):ao H7 107 300 (a7 H7 107 [.v (.string p),.v (.string t)]) (VP++ff (List.range 30) false) v=[VU false=v,false=false,false=false,false=false,false=false,false=false,(aG p==0)=false,(aG p==0)=false,(aG p==0)=false,(aG p==0)=false,p.size.le 1000000000]:=by kernel_rfl
theorem QY (p t:ByteArray)(v:Value):ao H7 107 300 (a7 H7 107 [.v (.string p),.v (.string t)]) (VP++ff [1,2,4,5] true++ff (List.range 30) false) v=[VU false=v,(aG t==0)=false,(aG t==0)=false,(aG t==0)=false,(aG t==0)=false,(aG t==0)=false,(aG p==0)=true,(aG p==0)=true,t.size.le 1000000000,(aG p==0)=true,(aG p==0)=true,p.size.le 1000000000]:=by kernel_rfl
theorem Sl (p t:ByteArray)(v:Value):ao H7 107 300 (a7 H7 107 [.v (.string p),.v (.string t)]) (VP++ff (List.range 30) true) v=[VU (yk p (t++(⟨⟨[47]⟩⟩:ByteArray)))=v,(aG t==0)=true,True,(aG t==0)=true,(t.size+1).le 9223372036854775807,(aG t==0)=true,(aG t==0)=true,(aG t==0)=true,(aG p==0)=true,(aG p==0)=true,t.size.le 1000000000,(aG p==0)=true,(aG p==0)=true,p.size.le 1000000000]:=by kernel_rfl
theorem Qr (p:ByteArray)(v:Value):ao H2 84 300 (a7 H2 84 [.v (.string p)]) (VP++ff (List.range 30) true) v=[Value.tuple { toList:=[VS ⟨⟨[]⟩⟩,VU false]:Array Value }=v,true=true,decide (fJ p<0)=true,decide (fJ p<0)=true,decide (fJ p<0)=true,decide (fJ p<0)=true,(47:Int)=47/\p.size<=1000000000]:=by kernel_rfl
theorem Pq (p:ByteArray)(v:Value):ao H2 84 300 (a7 H2 84 [.v (.string p)]) (VP++ff [1,2,4,5] false++ff (List.range 30) true) v=[Value.tuple { toList:=[VS ⟨⟨[]⟩⟩,VU false]:Array Value }=v,(!aG p==0)=true,decide (fJ p<0)=false,decide (fJ p<0)=false,p.size.le 1000000000,decide (fJ p<0)=false,decide (fJ p<0)=false,(47:Int)=47/\p.size<=1000000000]:=by kernel_rfl
theorem Qs (p:ByteArray)(v:Value):ao H2 84 300 (a7 H2 84 [.v (.string p)]) (VP++ff (List.range 30) false) v=[Value.tuple { toList:=[VS (p.extract 0 (fJ p).toNat),VU true]:Array Value }=v,decide (0<=fJ p/\fJ p<=(↑p.size:Int))=true,(!aG p==0)=false,decide (fJ p<0)=false,decide (fJ p<0)=false,p.size.le 1000000000,decide (fJ p<0)=false,decide (fJ p<0)=false,(47:Int)=47/\p.size<=1000000000]:=by kernel_rfl
def Qq:List (FuncId × Sum):=[(76,sK Dl),(45,cq kQ)]
def EX:Env:={ EP [] [] with YT:=fun f=>Qq.lookup f }
def vY (p t:ByteArray):SM:=a7 EX 78 [.v (.string p),.v (.string t)]
theorem SJ (p t:ByteArray)(v:Value):ao EX 78 300 (vY p t) (VP++ff (List.range 30) true) v=[VU false=v,true=true,(!aR p)=true,(!aR p)=true,(!aR p)=true,(!aR p)=true,p.size.le 1000000000]:=by kernel_rfl
theorem Vu (p t:ByteArray)(v:Value):ao EX 78 300 (vY p t) (VP++ff [1,2,4,5] false++ff (List.range 30) true) v=[VU false=v,(!aR t)=true,(!aR p)=false,(!aR p)=false,t.size.le 1000000000,(!aR p)=false,(!aR p)=false,p.size.le 1000000000]:=by kernel_rfl
theorem To (p t:ByteArray)(v:Value):ao EX 78 300 (vY p t) (VP++ff [1,2,4,5,6] false++ff (List.range 30) true) v=[VU false=v,decide ((↑(aq p.data.toList).length:Int)<=(↑(aq t.data.toList).length:Int))=true,t.size.le 1000000000,p.size.le 1000000000,(!aR t)=false,(!aR p)=false,(!aR p)=false,t.size.le 1000000000,(!aR p)=false,(!aR p)=false,p.size.le 1000000000]:=by kernel_rfl
def Lt:List SI:=dA EX 2 60 (vY ⟨#[]⟩ ⟨#[]⟩) (VP++ff (List.range 30) false)
def Ay (n m:Nat)(i:Int):SF:={ fn:=78,tm:=e9 40 6 (List.replicate 5 .aH++[.sl 0 0 n none,.sl 1 0 m none,.v (.int .i64 i)]++List.replicate 32 .aH),todo:=Lt,defers:=[],ret:=false,kind:=.normal,ro:=none }
theorem Sg (p t:ByteArray)(n m:Nat)(l l2:List SV):reach EX 2 60 (vY p t) (VP++ff (List.range 30) false) [(0,0),(1,1)] [0,1] (Ay n m 0) 6 (two l l2)=[0=0/\(aq p.data.toList).length=n/\nZ=none,0=0/\(aq t.data.toList).length=m/\nZ=none,vZ 0=vZ 0,List.map SV.v (vP (aq p.data.toList))=l,l.all ab=true,List.map SV.v (vP (aq t.data.toList))=l2,l2.all ab=true,decide ((↑(aq p.data.toList).length:Int)<=(↑(aq t.data.toList).length:Int))=false,t.size.le 1000000000,p.size.le 1000000000,(!aR t)=false,(!aR p)=false,(!aR p)=false,t.size.le 1000000000,(!aR p)=false,(!aR p)=false,p.size.le 1000000000]:=by kernel_rfl
theorem TT (s t:ByteArray)(n m:Nat)(l l2:List SV)(i i':Int):reach EX 2 100 (SM.at (Ay n m i) 6 (two l l2)) (ff [0] true++[(2,.cells [.v (.string s)]),(4,.cells [.v (.string t)])]++ff [5,6,7] false) [(0,0),(1,1)] [0,1] (Ay n m i') 6 (two l l2)=[0=0/\n=n/\nZ=none,0=0/\m=m/\nZ=none,vZ (IntKind.i64.wrap (i+1))=vZ i',l=l,l.all ab=true,l2=l2,l2.all ab=true,(!s.toList==t.toList)=false,l2[0+i.toNat*1]?=some (SV.v (VS t)),ai i m=true,l[0+i.toNat*1]?=some (SV.v (VS s)),ai i n=true,decide (i<(↑m:Int))=true]:=by kernel_rfl
theorem U5 (s t:ByteArray)(n m:Nat)(l l2:List SV)(i:Int)(v:Value):ao EX 78 100 (SM.at (Ay n m i) 6 (two l l2)) (ff [0] true++[(2,.cells [.v (.string s)]),(4,.cells [.v (.string t)])]++ff [5,6,7] true) v=[VU false=v,(!s.toList==t.toList)=true,l2[0+i.toNat*1]?=some (SV.v (VS t)),ai i m=true,l[0+i.toNat*1]?=some (SV.v (VS s)),ai i n=true,decide (i<(↑m:Int))=true]:=by kernel_rfl
theorem TC (n m:Nat)(l l2:List SV)(i:Int)(v:Value):ao EX 78 100 (SM.at (Ay n m i) 6 (two l l2)) (ff [0] false) v=[VU true=v,decide (i<(↑m:Int))=false]:=by kernel_rfl
def FP (l:List SV)(n c:Nat):SM:=(a6 bn 79 [.sl 0 0 n (some c)] (bG 6 1 0 [cv l])).getD dn
def Mo:List SI:=dA bn 2 60 (FP [] 0 0) VP
def yW (n c:Nat)(s:ByteArray)(i:Int):SF:={ fn:=79,tm:=e9 22 5 ([.sl 0 0 n (some c),.aH,.aH,.v (.string s),.v (.int .i64 i)]++List.replicate 17 .aH),todo:=Mo,defers:=[],ret:=false,kind:=.normal,ro:=none }
theorem Vg (l:List SV)(n c:Nat):reach bn 2 60 (FP l n c) VP [(0,0)] [0] (yW n c ⟨#[]⟩ 0) 6 [cv l]=[0=0/\n=n/\some c=some c,VS ⟨⟨[]⟩⟩=VS ⟨⟨[]⟩⟩,vZ 0=vZ 0,l=l,l.all ab=true]:=by kernel_rfl
theorem UI (s s' q:ByteArray)(n c:Nat)(l:List SV)(i i':Int):reach bn 2 60 (SM.at (yW n c s i) 6 [cv l]) (ff [0] true++ff [1] false++[(3,.cells [.v (.string q)])]) [(0,0)] [0] (yW n c s' i') 6 [cv l]=[0=0/\n=n/\some c=some c,VS (s++q)=VS s',vZ (IntKind.i64.wrap (i+1))=vZ i',l=l,l.all ab=true,(s.size+q.size).le 9223372036854775807,l[0+i.toNat*1]?=some (SV.v (VS q)),ai i n=true,decide (i>0)=false,decide (i<(↑n:Int))=true]:=by kernel_rfl
theorem Ss (s s' q:ByteArray)(n c:Nat)(l:List SV)(i i':Int):reach bn 2 60 (SM.at (yW n c s i) 6 [cv l]) (ff [0] true++ff [1] true++[(4,.cells [.v (.string q)])]) [(0,0)] [0] (yW n c s' i') 6 [cv l]=[0=0/\n=n/\some c=some c,VS (s++(⟨⟨[47]⟩⟩:ByteArray)++q)=VS s',vZ (IntKind.i64.wrap (i+1))=vZ i',l=l,l.all ab=true,((s++(⟨⟨[47]⟩⟩:ByteArray)).size+q.size).le 9223372036854775807,l[0+i.toNat*1]?=some (SV.v (VS q)),ai i n=true,(s.size+1).le 9223372036854775807,decide (i>0)=true,decide (i<(↑n:Int))=true]:=by kernel_rfl
theorem UH (s:ByteArray)(n c:Nat)(l:List SV)(i:Int)(v:Value):ao bn 79 60 (SM.at (yW n c s i) 6 [cv l]) (ff [0] false) v=[VS s=v,decide (i<(↑n:Int))=false]:=by kernel_rfl
def iU:yC:=fun args sh=>match args with
 | [.sl i 0 n none]=>match sh.look i with
  | some (.row ys _ _ _,_)=>some (.string (mk (eP ((jJ ys).take n))),ys=cP (jJ ys)/\n<=(jJ ys).length/\(jJ ys).length<=100/\∀ s∈jJ ys,s.length<=96)
  | _=>none
 | _=>none
where jJ (ys:List SV):List (List UInt8):=ys.map fun y=>match y with|.v (.string b)=>b.data.toList|_=>[]
def P0:List (FuncId × Sum):=[(76,sK Dl),(45,cq kQ),(79,de iU)]
def Kt:Env:={ EP [] [] with YT:=fun f=>P0.lookup f }
theorem UC (p:ByteArray)(v:Value):ao Kt 49 300 (a7 Kt 49 [.v (.string p)]) (VP++ff (List.range 30) true) v=[VS ⟨⟨[]⟩⟩=v,(!aR p)=true,p.size.le 1000000000]:=by kernel_rfl
theorem Uy (p:ByteArray)(v:Value):ao Kt 49 300 (a7 Kt 49 [.v (.string p)]) (VP++ff [1] false++ff (List.range 30) true) v=[VS (mk (eP (List.take (IntKind.i64.wrap ((↑(aq p.data.toList).length:Int) - 1)).toNat (iU.jJ (List.map SV.v (vP (aq p.data.toList)))))))=v,List.map SV.v (vP (aq p.data.toList))=cP (iU.jJ (List.map SV.v (vP (aq p.data.toList))))/\(IntKind.i64.wrap ((↑(aq p.data.toList).length:Int) - 1)).toNat<=(iU.jJ (List.map SV.v (vP (aq p.data.toList)))).length/\(iU.jJ (List.map SV.v (vP (aq p.data.toList)))).length<=100/\∀ (s:List UInt8),s∈iU.jJ (List.map SV.v (vP (aq p.data.toList)))->s.length<=96,true=true,decide (0<=IntKind.i64.wrap ((↑(aq p.data.toList).length:Int) - 1)/\IntKind.i64.wrap ((↑(aq p.data.toList).length:Int) - 1)<=(↑(aq p.data.toList).length:Int))=true,p.size.le 1000000000,(!aR p)=false,p.size.le 1000000000]:=by kernel_rfl
theorem JV:bX Tryz.prog (fun _=>True) (122,A3):=by
 refine .mk ⟨_,Tryz.func122,by kernel_rfl,by kernel_rfl⟩ fun args v p h hp w hX=>?_;dsimp only[A3]at h;split at h
 ·cases h;exact (Any.strings_HasPrefix Mq _ _ w).mono fun e w' ⟨he,hw⟩=>⟨by rw[hw];exact Below.refl _ _,he⟩
 ·cases h
theorem Jj:bX Tryz.prog (fun _=>True) (108,BZ):=by
 refine .mk ⟨_,Tryz.func108,by kernel_rfl,by kernel_rfl⟩ fun args v p h hp w hX=>?_;dsimp only[BZ]at h;split at h
 ·cases h;obtain⟨rfl,hs⟩:=hp;exact (Any.strings_LastIndexByte KW _ 47 (by omega) w).mono fun e w' ⟨he,hw⟩=>⟨by rw[hw];exact Below.refl _ _,he⟩
 ·cases h
def mN:PS:=fun args=>match args with|[.string p,.string t]=>some (.bool (dR p t),p.size<=1000000000/\t.size<=1000000000)|_=>none
def C4:PS:=fun args=>match args with|[.string p]=>some (.tuple #[.string (aj p),.bool (aC p)],p.size<=1000000000)|_=>none
def xg:PS:=fun args=>match args with|[.string p]=>some (.string (aj p),p.size<=1000000000)|_=>none
theorem Pb {M:Own}{w0:World}{sl:List (FuncId × PS)}(hM:∀ z,¬ M z)(h:MX w0)(hs:∀ r∈sl,bX Tryz.prog MX r):aK (EP sl []) M w0:=kM (X:=MX) hs fun ν s w hr _=>h.keep fun k hk=>hr.frame k hk (hM k)
theorem Gp {r:FuncId × PS}(h:bX Tryz.prog (fun _=>True) r):bX Tryz.prog MX r:=⟨h.1,fun args v p e hp w _=>h.2 args v p e hp w trivial⟩
theorem Vt {w0:World}(h:MX w0):aK H7 (aD [] []) w0:=Pb aE h fun r hr=>by
 simp only[V8,Ww,Xc]at hr
 rcases hr with rfl|rfl
 ·exact oU
 ·exact Gp JV
theorem Rg {w0:World}(h:MX w0):aK H2 (aD [] []) w0:=Pb aE h fun r hr=>by
 simp only[V8,Ww,Xc]at hr
 rcases hr with rfl|rfl
 ·exact oU
 ·exact Gp Jj
theorem iw (p:ByteArray):(aG p==(0:Int))=aR p:=by
 unfold aG;cases aR p<;>rfl
theorem Ag (p t:ByteArray):yk p (t++bw)=qg p.data.toList t.data.toList:=by
 rw[wK];unfold yk Go.Lib.hasPrefix;have:(t++bw).data.toList=t.data.toList++[47]:=by rw[ByteArray.data_append];simp[bw]
 rw[this];by_cases h:(t.data.toList++[47]) <+: p.data.toList
 ·rw[V0 h];exact List.isPrefixOf_iff_prefix.2 h
 ·rw[V2 h];exact XA.2 fun h2=>h (List.isPrefixOf_iff_prefix.1 h2)
theorem F6:bX Tryz.prog MX (107,mN):=by
 refine .mk ⟨_,Tryz.func107,by kernel_rfl,by kernel_rfl⟩ fun args v p h hp w hX=>?_;dsimp only[mN]at h;split at h
 ·rename_i p t;cases h;obtain⟨h1,h2⟩:=hp
  have go:∀ {o v},mX (ao H7 107 300 (a7 H7 107 [.v (.string p),.v (.string t)]) o v)->v=.bool (dR p t)->Calls Tryz.prog 107 #[.string p,.string t] w fun e w'=>Below w.heap.size w w'/\e=.returned (.bool (dR p t)):=fun h e=>
   e ▸ bW (E:=H7) (args:=[.v (.string p),.v (.string t)]) rfl rfl (Vt hX) (by kernel_rfl) (au.cons (VR.ae.2 rfl) (au.cons (VR.ae.2 rfl) au.nil)) h
  have c1:=iw p;have c2:=iw t;have sl:(⟨⟨[47]⟩⟩:ByteArray)=bw:=rfl;cases g1:aR p
  ·rw[g1]at c1;refine go (o:=VP++ff (List.range 30) false) (v:=.bool false) ⟨?_⟩ (by simp[dR,g1]);rw[Rj];simp only[ah,c1,VV,VX,VW];exact h1
  ·rw[g1]at c1;cases g2:aR t
   ·rw[g2]at c2;refine go (o:=VP++ff [1,2,4,5] true++ff (List.range 30) false) (v:=.bool false) ⟨?_⟩ (by simp[dR,g1,g2]);rw[QY];simp only[ah,c1,c2,VV,VX,VW];exact⟨h1,h2⟩
   ·rw[g2]at c2;refine go (o:=VP++ff (List.range 30) true) (v:=.bool (yk p (t++bw))) ⟨?_⟩ (by rw[Ag];simp[dR,g1,g2]);rw[Sl];simp only[ah,c1,c2,sl,VV,VX,VW];exact⟨⟨h1,h2⟩,(by show t.size+1<=9223372036854775807;omega)⟩
 ·cases h
theorem ye (p:ByteArray)(h:1<(aq p.data.toList).length)(hg:aR p=true):p.extract 0 (fJ p).toNat=aj p:=by
 unfold fJ aj;rw[Cs,if_pos h,hg,V5,JP p h];rfl
theorem Ef:bX Tryz.prog MX (84,C4):=by
 refine .mk ⟨_,Tryz.func84,by kernel_rfl,by kernel_rfl⟩ fun args v p h hp w hX=>?_;dsimp only[C4]at h;split at h
 ·rename_i p;cases h
  have go:∀ {o v},mX (ao H2 84 300 (a7 H2 84 [.v (.string p)]) o v)->v=.tuple #[.string (aj p),.bool (aC p)]->Calls Tryz.prog 84 #[.string p] w fun e w'=>Below w.heap.size w w'/\e=.returned (.tuple #[.string (aj p),.bool (aC p)]):=fun h e=>
   e ▸ bW (E:=H2) (args:=[.v (.string p)]) rfl rfl (Rg hX) (by kernel_rfl) (au.cons (VR.ae.2 rfl) au.nil) h
  have c1:=iw p;have hl:fJ p=_:=Cs p;by_cases h1:1<(aq p.data.toList).length
  ·rw[if_pos h1]at hl;have d1:decide (fJ p<(0:Int))=false:=V2 (by omega);have hlen:=Fw p h1;have d2:decide ((0:Int)<=fJ p/\fJ p<=(p.size:Int))=true:=V0 ⟨by omega,by omega⟩;cases g:aR p
   ·rw[g]at c1;refine go (o:=VP++ff [1,2,4,5] false++ff (List.range 30) true) (v:=.tuple #[.string ⟨#[]⟩,.bool false]) ⟨?_⟩ (by simp[aj,aC,g]);rw[Pq];simp only[ah,c1,d1,W0,VV,VX,VW];exact⟨hp,hp⟩
   ·rw[g]at c1;refine go (o:=VP++ff (List.range 30) false) (v:=.tuple #[.string (p.extract 0 (fJ p).toNat),.bool true]) ⟨?_⟩ (by rw[ye p h1 g];simp[aC,g,h1]);rw[Qs];simp only[ah,c1,d1,d2,Wy,VV,VX,VW];exact⟨hp,hp⟩
  ·rw[if_neg h1]at hl;have d1:decide (fJ p<(0:Int))=true:=V0 (by omega);refine go (o:=VP++ff (List.range 30) true) (v:=.tuple #[.string ⟨#[]⟩,.bool false]) ⟨?_⟩ ?_
   ·rw[Qr];simp only[ah,d1,VV,VX,VW];exact hp
   ·have:=(wQ (p:=p.data.toList) (by omega)).1;unfold aj aC;rw[this,V2 h1,Bool.and_false];cases aR p<;>rfl
 ·cases h
theorem KZ {M:Own}{w0:World}:aK EX M w0:=
 aK.uG (Checked.mixed Tryz.checked) (by kernel_rfl) (fh.of iJ rfl dK) (dy.list (X:=fun _=>True) (l:=Qq) rfl (fun r hr=>by
  simp only[Qq,V8,Ww,Xc]at hr
  rcases hr with rfl|rfl
  ·exact rM
  ·exact bh.pure (r:=(45,kQ)) oJ) fun ν s w hr _=>trivial) (fun f g h=>by cases h)
section
variable {w0:World}{cs0:List Frame}{R:Ending->World->Prop}{xs ys:List (List UInt8)}
theorem Fx (hx:xs.length<=1000000001)(YD:ys.length<xs.length)(hR:∀ w',Below w0.heap.size w0 w'->R (.returned (.bool (decide (xs.take ys.length=ys)))) w'):∀ (j i:Nat),i+j=ys.length->xs.take i=ys.take i->
  af EX (aD [] []) w0 cs0 78 R (aA []) (SM.at (Ay xs.length ys.length i) 6 (two (cP xs) (cP ys)))
 | 0,i,hj,he=>by
  have hi:i=ys.length:=by omega
  rw[hi,XC]at he
  refine cg KZ aE (n:=100) (o:=ff [0] false) (v:=.bool true) ⟨?_⟩ fun w' hw=>by have:=hR w' hw;rwa[V0 he]at this
  rw[TC];simp only[ah,VV,VX,VW];exact V2 (by omega)
 | j+1,i,hj,he=>by
  have h2:i<ys.length:=by omega
  have h1:i<xs.length:=by omega
  have t2:decide ((i:Int)<(ys.length:Int))=true:=V0 (by omega)
  have r1:=aJ h1
  have r2:=aJ h2
  have g1:(cP xs)[0+i*1]?=some (.v (.string (mk xs[i]))):=by simp[cP,h1]
  have g2:(cP ys)[0+i*1]?=some (.v (.string (mk ys[i]))):=by simp[cP,h2]
  have e1:(mk xs[i]).toList=xs[i]:=by rw[jB];simp[mk]
  have e2:(mk ys[i]).toList=ys[i]:=by rw[jB];simp[mk]
  by_cases hc:xs[i]=ys[i]
  ·have hq:(!(mk xs[i]).toList==(mk ys[i]).toList)=false:=by rw[e1,e2,hc];simp
   refine af.reach KZ (k:=2) (n:=100) (o:=(ff [0] true++[(2,.cells [.v (.string (mk xs[i]))]),(4,.cells [.v (.string (mk ys[i]))])]++ff [5,6,7] false)) (ren:=[(0,0),(1,1)]) (eqs:=[0,1]) ?_ (by kernel_rfl) (fun i b h=>dU h) (Fx hx YD hR j (i+1) (by omega) (by rw[Wp h1,Wp h2,he,hc]))
   rw[TT]
   have ws:=aU (k:=i) (by omega)
   simp only[ah,V5,t2,r1,r2,g1,g2,hq,ws,ey,VV]
  ·have hq:(!(mk xs[i]).toList==(mk ys[i]).toList)=true:=by rw[e1,e2];simpa using hc
   have hn:¬ xs.take ys.length=ys:=fun h=>by
    have h5:(xs.take ys.length)[i]?=ys[i]?:=by rw[h]
    rw[WN,if_pos h2,V4 h1,V4 h2]at h5
    exact hc (Option.some.inj h5)
   refine cg KZ aE (n:=100) (o:=(ff [0] true++[(2,.cells [.v (.string (mk xs[i]))]),(4,.cells [.v (.string (mk ys[i]))])]++ff [5,6,7] true)) (v:=.bool false) ⟨?_⟩ fun w' hw=>by have:=hR w' hw;rwa[V2 hn]at this
   rw[U5];simp only[ah,V5,t2,r1,r2,g1,g2,hq,VV]
end
theorem BG (l:List (List UInt8)):List.map SV.v (vP l)=cP l:=by simp[vP,cP]
theorem DI:bX Tryz.prog (fun _=>True) (78,mN):=by
 refine .mk ⟨_,Tryz.func78,by kernel_rfl,by kernel_rfl⟩ fun args v p h hp w hX=>?_;dsimp only[mN]at h;split at h
 ·rename_i p t;cases h;obtain⟨h1,h2⟩:=hp;refine bP (E:=EX) (R:=fun e w'=>Below w.heap.size w w'/\e=.returned (.bool (dR p t))) rfl rfl (args:=[.v (.string p),.v (.string t)]) (a:=[.string p,.string t]) (S0:=vY p t) (by kernel_rfl) (au.cons (VR.ae.2 rfl) (au.cons (VR.ae.2 rfl) au.nil)) fun cs0=>?_;cases g1:aR p
  ·refine cg KZ aE (n:=300) (o:=VP++ff (List.range 30) true) (v:=.bool false) ⟨?_⟩ fun w' hw=>⟨hw,by simp[dR,g1]⟩;rw[SJ];simp only[ah,g1,W0,VV,VX,VW];exact h1
  cases g2:aR t
  ·refine cg KZ aE (n:=300) (o:=VP++ff [1,2,4,5] false++ff (List.range 30) true) (v:=.bool false) ⟨?_⟩ fun w' hw=>⟨hw,by simp[dR,g1,g2]⟩;rw[Vu];simp only[ah,g1,g2,W0,Wy,VV,VX,VW];exact⟨h1,h2⟩
  have l1:p.data.toList.length=p.size:=by simp
  have a1:=(fX p.data.toList).1;by_cases hl:(aq t.data.toList).length<(aq p.data.toList).length
  ·have nx:=Fx (w0:=w) (cs0:=cs0) (R:=fun e w'=>Below w.heap.size w w'/\e=.returned (.bool (dR p t))) (xs:=aq p.data.toList) (ys:=aq t.data.toList) (by omega) hl (fun w' hw=>⟨hw,by simp[dR,qg,g1,g2,hl]⟩) (aq t.data.toList).length 0 (by omega) rfl;refine af.reach KZ (k:=2) (n:=60) (o:=VP++ff (List.range 30) false) (ren:=[(0,0),(1,1)]) (eqs:=[0,1]) (F:=Ay (aq p.data.toList).length (aq t.data.toList).length 0) (d:=6) (l:=two (cP (aq p.data.toList)) (cP (aq t.data.toList))) ?_ (by kernel_rfl) (fun i b h=>dU h) nx;have dl:decide (((aq p.data.toList).length:Int)<=((aq t.data.toList).length:Int))=false:=V2 (by omega);rw[Sg];simp only[ah,BG,ey,g1,g2,dl,Wy,VV,VX,VW];refine⟨⟨⟨h1,h2⟩,h1⟩,h2⟩
  ·refine cg KZ aE (n:=300) (o:=VP++ff [1,2,4,5,6] false++ff (List.range 30) true) (v:=.bool false) ⟨?_⟩ fun w' hw=>⟨hw,by simp[dR,qg,hl]⟩;have dl:decide (((aq p.data.toList).length:Int)<=((aq t.data.toList).length:Int))=true:=V0 (by omega);rw[To];simp only[ah,g1,g2,dl,Wy,VV,VX,VW];refine⟨⟨⟨h1,h2⟩,h1⟩,h2⟩
 ·cases h
section
variable {w0:World}{cs0:List Frame}{R:Ending->World->Prop}{xs:List (List UInt8)}{b:Nat × Nat}{n:Nat}
theorem Bi {a:List (List UInt8)}(h:a≠[])(x:List UInt8):eP (a++[x])=eP a++47::x:=mJ h (by simp)
theorem vq:∀ (a:List (List UInt8)),(∀ s∈a,s.length<=96)->(eP a).length<=a.length*97
 | [],_=>WW _
 | x::l,h=>by
  have hx:=h x Wj
  have ih:=vq l fun s hs=>h s (Wc _ hs)
  cases l with
  | nil=>show x.length<=_;simp only[Wm,WK];omega
  | cons y r=>
   rw[il (by simp),V7,Wm,Wm];omega
theorem G1 (hn:n<=xs.length)(hl:xs.length<=100)(hs:∀ s∈xs,s.length<=96)(hR:∀ w',Below w0.heap.size w0 w'->R (.returned (.string (mk (eP (xs.take n))))) w'):∀ (j i:Nat),i+j=n->
  af bn (aD [b] [(.look (cP xs),false)]) w0 cs0 79 R (aA [b]) (SM.at (yW n b.2 (mk (eP (xs.take i))) i) 6 [cv (cP xs)])
 | 0,i,hj=>by
  have hi:i=n:=by omega
  subst hi;refine cg fQ gW (n:=60) (o:=ff [0] false) (v:=.string (mk (eP (xs.take i)))) ⟨?_⟩ hR;rw[UH];simp only[ah,VV,VX,VW];exact V2 (by omega)
 | j+1,i,hj=>by
  have hi:i<xs.length:=by omega
  have t1:decide ((i:Int)<(n:Int))=true:=V0 (by omega);have r1:ai (i:Int) n=true:=aJ (by omega);have g1:(cP xs)[0+i*1]?=some (.v (.string (mk xs[i]))):=by simp[cP,hi]
  have ws:=aU (k:=i) (by omega);have z1:=hs _ (WS hi);have z2:=vq (xs.take i) fun s h=>hs s (List.mem_of_mem_take h);rw[WX]at z2;have q1:(mk xs[i]).size<=96:=z1;have q2:(mk (eP (xs.take i))).size<=100*97:=by show (eP (xs.take i)).length<=_;omega
  have nx:=G1 hn hl hs hR j (i+1) (by omega);rw[Wp hi]at nx;by_cases h0:i=0
  ·subst h0;have e:mk (eP (xs.take 0++[xs[0]]))=mk (eP (xs.take 0))++mk xs[0]:=by rw[tO];rfl
   rw[e]at nx;refine af.reach fQ (k:=2) (n:=60) (o:=(ff [0] true++ff [1] false++[(3,.cells [.v (.string (mk xs[0]))])])) (ren:=[(0,0)]) (eqs:=[0]) ?_ (by kernel_rfl) (fun i b h=>by rw[dj h];rfl) nx;have t2:decide (((0:Nat):Int)>0)=false:=by decide
   rw[UI];simp only[ah,V5,t1,t2,r1,g1,ws,ey,VV,VX,VW];exact (by omega:(mk (eP (xs.take 0))).size+(mk xs[0]).size<=9223372036854775807)
  ·have e:mk (eP (xs.take i++[xs[i]]))=mk (eP (xs.take i))++bw++mk xs[i]:=by
    rw[Bi (by rw[<- Xg,WX];omega),show bw=mk [47] from rfl,tO,tO];simp
   rw[e]at nx;refine af.reach fQ (k:=2) (n:=60) (o:=(ff [0] true++ff [1] true++[(4,.cells [.v (.string (mk xs[i]))])])) (ren:=[(0,0)]) (eqs:=[0]) ?_ (by kernel_rfl) (fun i b h=>by rw[dj h];rfl) nx;have t2:decide ((i:Int)>0)=true:=V0 (by omega);have sl:(⟨⟨[47]⟩⟩:ByteArray)=bw:=rfl;have q3:(mk (eP (xs.take i))++bw).size=(mk (eP (xs.take i))).size+1:=by rw[ByteArray.size_append];rfl
   rw[Ss];simp only[ah,V5,t1,t2,r1,g1,ws,sl,ey,VV,VX,VW];refine⟨(by omega:(mk (eP (xs.take i))).size+1<=9223372036854775807),(by omega:(mk (eP (xs.take i))++bw).size+(mk xs[i]).size<=9223372036854775807)⟩
end
theorem yn (l:List (List UInt8)):iU.jJ (cP l)=l:=by
 unfold iU.jJ cP;rw[WI];conv=>rhs;rw[<- List.map_id l]
 exact XB fun s _=>by simp[mk]
theorem E9 {X:World->Prop}:bh Tryz.prog X (79,de iU):=by
 refine dO ⟨_,Tryz.func79,by kernel_rfl,by kernel_rfl⟩ fun args sh v q h hp ν M w0 w a hr hX ha=>?_;dsimp only[iU]at h;split at h
 ·rename_i i n;split at h
  ·rename_i ys e1 z1 x1 m1 hl;cases h;obtain⟨hc,hn,ZH,hs⟩:=hp;generalize iU.jJ ys=xs at *;subst hc;obtain⟨y1,ZK,rfl,q1,YH⟩:=ha.cons_inv;obtain rfl:=YH.ay;obtain⟨bb,YZ,hle,rfl⟩:=VR.aL.1 q1;refine im (E:=bn) rfl rfl hr hl (ey xs) (args':=fun c=>[.sl 0 0 n (some c)]) (S0:=fun c=>FP (cP xs) n c) (fun b hb=>?_) (fun c=>by kernel_rfl) fun b cs0=>?_
   ·rw[YZ]at hb;cases hb;have Zb:n<=bb.2:=hle;exact au.cons (VR.aL.2 ⟨bb,rfl,Zb,rfl⟩) au.nil
   ·have nx:=G1 (w0:=w) (cs0:=cs0) (b:=b) (xs:=xs) (n:=n) (R:=fun e w'=>Below w.heap.size w w'/\e=.returned (.string (mk (eP (xs.take n))))) hn ZH hs (fun w' hw=>⟨hw,rfl⟩) n 0 (by omega);refine af.reach fQ (k:=2) (n:=60) (o:=VP) (ren:=[(0,0)]) (eqs:=[0]) (F:=yW n b.2 ⟨#[]⟩ 0) (d:=6) (l:=[cv (cP xs)]) ?_ (by kernel_rfl) (fun i b h=>by rw[dj h];rfl) nx;rw[Vg];simp only[ah,ey,VV]
  ·cases h
 ·cases h
theorem SR {M:Own}{w0:World}:aK Kt M w0:=
 aK.uG (Checked.mixed Tryz.checked) (by kernel_rfl) (fh.of iJ rfl dK) (dy.list (X:=fun _=>True) (l:=P0) rfl (fun r hr=>by
  simp only[P0,V8,Ww,Xc]at hr
  rcases hr with rfl|rfl|rfl
  ·exact rM
  ·exact bh.pure (r:=(45,kQ)) oJ
  ·exact E9) fun ν s w hr _=>trivial) (fun f g h=>by cases h)
theorem BR:bX Tryz.prog (fun _=>True) (49,xg):=by
 refine .mk ⟨_,Tryz.func49,by kernel_rfl,by kernel_rfl⟩ fun args v p h hp w hX=>?_;dsimp only[xg]at h;split at h
 ·rename_i p;cases h
  have go:∀ {o v},mX (ao Kt 49 300 (a7 Kt 49 [.v (.string p)]) o v)->v=.string (aj p)->Calls Tryz.prog 49 #[.string p] w fun e w'=>Below w.heap.size w w'/\e=.returned (.string (aj p)):=fun h e=>
   e ▸ bW (E:=Kt) (args:=[.v (.string p)]) rfl rfl SR (by kernel_rfl) (au.cons (VR.ae.2 rfl) au.nil) h
  cases g:aR p
  ·refine go (o:=VP++ff (List.range 30) true) (v:=.string ⟨#[]⟩) ⟨?_⟩ (by simp[aj,g]);rw[UC];simp only[ah,g,W0,VV,VX,VW];exact hp
  ·have hg:=g;unfold aR at hg;rw[V6,XI]at hg;have h6:=((ka 6 p).1 hg.2).1;have l1:p.data.toList.length=p.size:=by simp
   have a1:=(fX p.data.toList).2;have hpos:0<(aq p.data.toList).length:=Xg.2 (cY _);have ew:(IntKind.i64.wrap (((aq p.data.toList).length:Int) - 1)).toNat=(aq p.data.toList).length - 1:=by rw[wi (by omega)];omega
   refine go (o:=VP++ff [1] false++ff (List.range 30) true) (v:=.string (mk (eP (List.take (IntKind.i64.wrap (((aq p.data.toList).length:Int) - (1:Int))).toNat (iU.jJ (List.map SV.v (vP (aq p.data.toList)))))))) ⟨?_⟩ ?_
   ·rw[Uy];simp only[ah,g,ew,BG,yn,Wy,VV,VX,VW];repeat' apply And.intro
    all_goals first|exact hp|exact V0 ⟨by rw[wi (by omega)];omega,by rw[wi (by omega)];omega⟩|omega|exact (fun s hs=>by have:=a1 s hs;omega)
   ·rw[ew,BG,yn];unfold aj zb;rw[g,List.dropLast_eq_take];rfl
 ·cases h
structure ax where
 p:ByteArray
 k:Int
 a:Option Addr
 l:Nat
 c:Nat
def iC (e:ax):List SV:=[.v (.string e.p),.v (.int .i64 e.k),.v (.slice e.a e.l e.c)]
def iV (e:ax):List Value:=[.string e.p,.int .i64 e.k,.slice e.a e.l e.c]
def j6 (l:List SV):Option (SO × Bool):=some (.row l 48 (0,0) (some 3),true)
def cI (l:List ax):List SV:=l.flatMap iC
def vI (l:List ax):List Value:=l.flatMap iV
theorem cC (e:ax):(iC e).length=3:=rfl
theorem bp (e:ax):(iC e).all ab=true:=rfl
theorem gT (a b:List ax):cI (a++b)=cI a++cI b:=by simp[cI]
theorem fF (e:ax):cI [e]=iC e:=by simp[cI]
theorem eQ:∀ a:List ax,(cI a).length=a.length*3
 | []=>rfl
 | e::a=>by
  have:=eQ a
  show (iC e++cI a).length=_
  rw[V7,this,cC,Wm];omega
theorem az (a:List ax):(cI a).all ab=true:=by
 rw[Wn];intro x hx;obtain⟨r,_,hx⟩:=Yp.1 hx;exact Wn.1 (bp r) x hx
theorem gN (a:List ax):(cI a).all SV.flat=true:=by
 rw[Wn];intro x hx;obtain⟨r,_,hx⟩:=Yp.1 hx;exact Wn.1 (show (iC r).all SV.flat=true from rfl) x hx
theorem cX:∀ l:List ax,(vI l).map SV.v=cI l
 | []=>rfl
 | r::l=>by
  show (iV r++vI l).map SV.v=iC r++cI l
  rw[Wq,cX l];rfl
theorem tu {ν:aP}{l:List ax}{zs:List Value}(h:au ν (cI l) zs):zs=vI l:=by
 rw[<- cX]at h;exact gi h (au.lits ν (vI l))
theorem o9 {xs:List ax}{k:Nat}{x:ax}(h:xs[k]?=some x):List.take 3 (List.drop (0+k*3) (cI xs))=iC x:=by
 rw[W8];exact kr cC h
theorem iP {xs:List ax}{k:Nat}{x:ax}(h:xs[k]?=some x):(cI xs)[0+k*3+0]?=some (.v (.string x.p)):=by
 have h2:(List.take 3 (List.drop (0+k*3) (cI xs)))[0]?=(iC x)[0]?:=by rw[o9 h]
 rw[WN,if_pos (by decide),W7]at h2;exact h2
def Ot (l:List SV):ax:=match l with
 | [.v (.string p),.v (.int _ k),.v (.slice a l c)]=>⟨p,k,a,l,c⟩
 | _=>⟨⟨#[]⟩,0,none,0,0⟩
theorem Jn (e:ax):Ot (iC e)=e:=rfl
def ad (ys:List SV)(n:Nat):List ax:=Hg Ot 3 n ys
theorem aX (l:List ax):ad (cI l) l.length=l:=p9 cC Jn l
structure bu (ys:List SV)(n:Nat)(l:List ax):Prop where
 cells:ys=cI l
 len:n=l.length
 YO:n<=1000
def pH (p:ByteArray)(e:ax):Bool:=e.p.data.toList==p.data.toList
def ch (p:ByteArray)(l:List ax):List ax:=l.filter fun e=>!pH p e
def Gr (l:List SV)(n c:Nat)(p:ByteArray):SM:=(a6 bn 48 [.sl 0 0 n (some c),.v (.string p)] (bG 6 1 0 [K7 l])).getD dn
where K7 (l:List SV):Option (SO × Bool):=some (.look l,false)
def LP:List SI:=dA bn 2 60 (Gr [] 0 0 ⟨#[]⟩) VP
def pD (n c:Nat)(p:ByteArray)(x:SV)(i:Int):SF:={ fn:=48,tm:=e9 28 6 ([.sl 0 0 n (some c),.v (.string p),.aH,.aH,.aH,x,.v (.int .i64 i)]++List.replicate 21 .aH),todo:=LP,defers:=[],ret:=false,kind:=.normal,ro:=none }
theorem RT (l:List SV)(n c:Nat)(p:ByteArray):reach bn 2 60 (Gr l n c p) VP [(0,0)] [0] (pD n c p bZ 0) 6 [cv l]=[0=0/\n=n/\some c=some c,VS p=VS p,VT none 0 0=VT none 0 0,vZ 0=vZ 0,l=l,l.all ab=true]:=by kernel_rfl
theorem RG (l:List SV)(n c:Nat)(p q:ByteArray)(i i':Int):reach bn 2 60 (SM.at (pD n c p bZ i) 6 [cv l]) (ff [0] true++[(2,.cells [.v (.string q)])]++ff [3] false) [(0,0)] [0] (pD n c p bZ i') 6 [cv l]=[0=0/\n=n/\some c=some c,VS p=VS p,VT none 0 0=VT none 0 0,vZ (IntKind.i64.wrap (i+1))=vZ i',l=l,l.all ab=true,(!q.toList==p.toList)=false,l[0+i.toNat*3+0]?=some (SV.v (VS q)),ai i n=true,decide (i<(↑n:Int))=true]:=by kernel_rfl
theorem Tn (l l':List SV)(n c:Nat)(p q:ByteArray)(i i':Int)(e:ax):reach bn 2 60 (SM.at (pD n c p bZ i) 6 [cv l]) (ff [0] true++[(2,.cells [.v (.string q)])]++ff [3] true++[(5,.cells (iC e))]) [(0,0),(1,2)] [0,1] (pD n c p (.sl 1 0 1 none) i') 6 [cv l,j6 l']=[0=0/\n=n/\some c=some c,VS p=VS p,0=0/\1=1/\nZ=none,vZ (IntKind.i64.wrap (i+1))=vZ i',l=l,l.all ab=true,[]++List.take 3 (List.drop 0 (aQ (List.replicate 1 (List.map SV.v [VS ⟨⟨[]⟩⟩,vZ 0,VT none 0 0])).flatten 0 (iC e)))=l',l'.all ab=true,List.take 3 (List.drop (0+i.toNat*3) l)=iC e/\(iC e).length=3,ai i n=true,(!q.toList==p.toList)=true,l[0+i.toNat*3+0]?=some (SV.v (VS q)),ai i n=true,decide (i<(↑n:Int))=true]:=by kernel_rfl
theorem TU (l m:List SV)(n c k:Nat)(p q:ByteArray)(i i':Int):reach bn 2 60 (SM.at (pD n c p (.sl 1 0 k none) i) 6 [cv l,j6 m]) (ff [0] true++[(2,.cells [.v (.string q)])]++ff [3] false) [(0,0),(1,1)] [0,1] (pD n c p (.sl 1 0 k none) i') 6 [cv l,j6 m]=[0=0/\n=n/\some c=some c,VS p=VS p,0=0/\k=k/\nZ=none,vZ (IntKind.i64.wrap (i+1))=vZ i',l=l,l.all ab=true,m=m,m.all ab=true,(!q.toList==p.toList)=false,l[0+i.toNat*3+0]?=some (SV.v (VS q)),ai i n=true,decide (i<(↑n:Int))=true]:=by kernel_rfl
theorem Rn (l m l' w:List SV)(n c k:Nat)(p q:ByteArray)(i i':Int)(e:ax):reach bn 2 60 (SM.at (pD n c p (.sl 1 0 k none) i) 6 [cv l,j6 m]) (ff [0] true++[(2,.cells [.v (.string q)])]++ff [3] true++[(5,.cells (iC e)),(6,.app m w)]) [(0,0),(1,3)] [0,1] (pD n c p (.sl 1 0 (k+1) none) i') 6 [cv l,j6 l']=[0=0/\n=n/\some c=some c,VS p=VS p,0=0/\k+1=k+1/\nZ=none,vZ (IntKind.i64.wrap (i+1))=vZ i',l=l,l.all ab=true,m++w=l',l'.all ab=true,((List.take 3 (List.drop 0 (aQ (List.replicate 1 (List.map SV.v [VS ⟨⟨[]⟩⟩,vZ 0,VT none 0 0])).flatten 0 (iC e)))=w/\w.length=1*3)/\1≠0/\(2*(k+1)+1024)*48<=140737488355328)/\List.take (k*3) m=m/\m.length=k*3/\w.all SV.flat=true,List.take 3 (List.drop (0+i.toNat*3) l)=iC e/\(iC e).length=3,ai i n=true,(!q.toList==p.toList)=true,l[0+i.toNat*3+0]?=some (SV.v (VS q)),ai i n=true,decide (i<(↑n:Int))=true]:=by kernel_rfl
theorem RM (l:List SV)(n c:Nat)(p:ByteArray)(i:Int)(v:Value):ao bn 48 60 (SM.at (pD n c p bZ i) 6 [cv l]) (ff [0] false) v=[VT none 0 0=v,decide (i<(↑n:Int))=false]:=by kernel_rfl
theorem S3 (l m:List SV)(n c k:Nat)(p:ByteArray)(i:Int):bY bn 48 60 (SM.at (pD n c p (.sl 1 0 k none) i) 6 [cv l,j6 m]) (ff [0] false) (.sl 1 0 k none) 1 (.row m 48 (0,0) (some 3))=[0=0/\k=k/\nZ=none,m=m,m.all ab=true,decide (i<(↑n:Int))=false]:=by kernel_rfl
theorem rX (p:ByteArray){xs:List ax}{i:Nat}(h:i<xs.length):ch p (xs.take (i+1))=ch p (xs.take i)++(if pH p xs[i]=true then [] else [xs[i]]):=by
 rw[Wp h];unfold ch;rw[List.filter_append];congr 1;cases hp:pH p xs[i]<;>simp[hp]
theorem vc (p:ByteArray)(xs:List ax):(ch p xs).length<=xs.length:=XQ _ _
theorem oq {E:Env}{M:Own}{w0:World}{cs0:List Frame}{f:FuncId}{R:Ending->World->Prop}{ν:aP}{n:Nat}{S:SM}{o:List (Nat × gR)}{m j:Nat}{l:List ax}(K:aK E M w0)(hM:∀ z,¬ M z)
  (h:mX (bY E f n S o (.sl j 0 m none) j (.row (cI l) 48 (0,0) (some 3)))) (hR:∀ w' y,Below w0.heap.size w0 w'->cF w0 w' y (vI l) m 3 48->R (.returned y) w'):af E M w0 cs0 f R ν S:=
 af.bY K h.out fun ν' w' y b ob hv hb ho YA hw hB=>by
  have hn:w0.heap.size<=b.1:=by
   rcases hw with h|h
   ·exact h
   ·exact absurd h (hM _)
  obtain⟨_,_,_,_,hB,hr⟩:=hB;exact hR w' y (aB hM hB hr) (cF.gb hv hb ho YA hn fun zs hz=>tu hz)
def Qx (w0:World)(xs:List ax)(e:Ending)(w':World):Prop:=
 Below w0.heap.size w0 w'/\((xs=[]/\e=.returned (.slice none 0 0))\/(xs≠[]/\∃ y,e=.returned y/\cF w0 w' y (vI xs) xs.length 3 48))
section
variable {w0:World}{cs0:List Frame}{xs:List ax}{p:ByteArray}{b:Nat × Nat}{c:Nat}
theorem x4 (hl:xs.length<=1000):∀ (j i:Nat),i+j=xs.length->ch p (xs.take i)≠[]->
  af bn (aD [b] [(.look (cI xs),false)]) w0 cs0 48 (Qx w0 (ch p xs)) (aA [b]) (SM.at (pD xs.length c p (.sl 1 0 (ch p (xs.take i)).length none) i) 6 [cv (cI xs),j6 (cI (ch p (xs.take i)))])
 | 0,i,hj,Yu=>by
  rw[We (by omega)]at Yu ⊢
  refine oq (j:=1) fQ gW (n:=60) (o:=ff [0] false) ⟨?_⟩ fun w' y hB hy=>⟨hB,.inr ⟨Yu,y,rfl,hy⟩⟩
  rw[S3]
  simp only[ah,az,VV,VX,VW]
  exact V2 (by omega)
 | j+1,i,hj,Yu=>by
  have hi:i<xs.length:=by omega
  have Y2:=rX p hi
  have Zm:xs[i]?=some xs[i]:=V4 hi
  have t1:decide ((i:Int)<(xs.length:Int))=true:=V0 (by omega)
  have r1:=aJ hi
  have ws:=aU (k:=i) (by omega)
  have rc:=iP Zm
  have ra:=o9 Zm
  have hbl:(ch p (xs.take i)).length<=1000:=Wh (vc _ _) (by rw[WX];omega)
  cases hq:pH p xs[i]
  ·have ZN:(xs[i].p.toList==p.toList)=false:=by rw[jB,jB];exact hq
   rw[hq,if_neg (by decide)]at Y2
   have nx:=x4 hl j (i+1) (by omega) (by rw[Y2];simp)
   rw[Y2,V7,show ([xs[i]]:List ax).length=1 from rfl]at nx
   refine af.reach fQ (k:=2) (n:=60) (o:=(ff [0] true++[(2,.cells [.v (.string xs[i].p)])]++ff [3] true++[(5,.cells (iC xs[i])),(6,.app (cI (ch p (xs.take i))) (iC xs[i]))])) (ren:=[(0,0),(1,3)]) (eqs:=[0,1]) ?_ (by kernel_rfl) (fun i b h=>by rw[dj h];rfl) nx
   rw[Rn]
   simp only[ah,V5,t1,r1,rc,ra,ZN,ws,cC,az,gN,gT,fF,eQ,WL,W0,VV,VX,VW]
   repeat' apply And.intro
   all_goals first|rfl|omega|exact We (by rw[eQ];exact Wx _)|exact bp _|skip
  ·have ZN:(xs[i].p.toList==p.toList)=true:=by rw[jB,jB];exact hq
   rw[hq,if_pos rfl,W4]at Y2
   have nx:=x4 hl j (i+1) (by omega) (by rw[Y2];exact Yu)
   rw[Y2]at nx
   refine af.reach fQ (k:=2) (n:=60) (o:=(ff [0] true++[(2,.cells [.v (.string xs[i].p)])]++ff [3] false)) (ren:=[(0,0),(1,1)]) (eqs:=[0,1]) ?_ (by kernel_rfl) (fun i b h=>by rw[dj h];rfl) nx
   rw[TU]
   simp only[ah,V5,t1,r1,rc,ZN,ws,az,Wy,VV]
theorem Db (hl:xs.length<=1000):∀ (j i:Nat),i+j=xs.length->ch p (xs.take i)=[]->
  af bn (aD [b] [(.look (cI xs),false)]) w0 cs0 48 (Qx w0 (ch p xs)) (aA [b]) (SM.at (pD xs.length c p bZ i) 6 [cv (cI xs)])
 | 0,i,hj,hn=>by
  rw[We (by omega)]at hn
  refine cg fQ gW (n:=60) (o:=ff [0] false) (v:=.slice none 0 0) ⟨?_⟩ fun w' hw=>⟨hw,.inl ⟨hn,rfl⟩⟩
  rw[RM]
  simp only[ah,VV,VX,VW]
  exact V2 (by omega)
 | j+1,i,hj,hn=>by
  have hi:i<xs.length:=by omega
  have Y2:=rX p hi
  have Zm:xs[i]?=some xs[i]:=V4 hi
  have t1:decide ((i:Int)<(xs.length:Int))=true:=V0 (by omega)
  have r1:=aJ hi
  have ws:=aU (k:=i) (by omega)
  have rc:=iP Zm
  have ra:=o9 Zm
  cases hq:pH p xs[i]
  ·have ZN:(xs[i].p.toList==p.toList)=false:=by rw[jB,jB];exact hq
   rw[hq,if_neg (by decide),hn,Xm]at Y2
   have nx:=x4 (w0:=w0) (cs0:=cs0) (b:=b) (c:=c) (p:=p) hl j (i+1) (by omega) (by rw[Y2];simp)
   rw[Y2,show ([xs[i]]:List ax).length=1 from rfl]at nx
   refine af.reach fQ (k:=2) (n:=60) (o:=(ff [0] true++[(2,.cells [.v (.string xs[i].p)])]++ff [3] true++[(5,.cells (iC xs[i]))])) (ren:=[(0,0),(1,2)]) (eqs:=[0,1]) ?_ (by kernel_rfl) (fun i b h=>by rw[dj h];rfl) nx
   rw[Tn]
   simp only[ah,V5,t1,r1,rc,ra,ZN,ws,cC,az,fF,W0,VV,VX,VW]
   repeat' apply And.intro
   all_goals first|rfl|omega|exact bp _|skip
  ·have ZN:(xs[i].p.toList==p.toList)=true:=by rw[jB,jB];exact hq
   rw[hq,if_pos rfl,W4]at Y2
   have nx:=Db hl j (i+1) (by omega) (by rw[Y2];exact hn)
   refine af.reach fQ (k:=2) (n:=60) (o:=(ff [0] true++[(2,.cells [.v (.string xs[i].p)])]++ff [3] false)) (ren:=[(0,0)]) (eqs:=[0]) ?_ (by kernel_rfl) (fun i b h=>by rw[dj h];rfl) nx
   rw[RG]
   simp only[ah,V5,t1,r1,rc,ZN,ws,az,bZ,Wy,VV]
end
def mH:H5:=fun args sh=>match args with
 | [.sl i 0 n none,.v (.string p)]=>match sh.look i with
  | some (.row ys _ _ _,_)=>some (vI (ch p (ad ys n)),(ch p (ad ys n)).length,3,48,none,bu ys n (ad ys n)/\ch p (ad ys n)≠[])
  | _=>none
 | _=>none
def vD:yC:=fun args sh=>match args with
 | [.sl i 0 n none,.v (.string p)]=>match sh.look i with
  | some (.row ys _ _ _,_)=>some (.slice none 0 0,bu ys n (ad ys n)/\ch p (ad ys n)=[])
  | _=>none
 | _=>none
theorem lZ {ν:aP}{M:Own}{w0 w:World}{sh:SH}(hr:HR ν M w0 sh w){i n:Nat}{ys:List SV}{e:TypeId}{fz:Nat × Nat}{x:Option Nat}{mk:Bool}{p:ByteArray}{xs:List ax}(hl:sh.look i=some (.row ys e fz x,mk))(h:bu ys n xs){a:List Value}
  (ha:au ν [.sl i 0 n none,.v (.string p)] a):Calls Tryz.prog 48 a.toArray w (Qx w (ch p xs)):=by
 obtain⟨rfl,rfl,ZH⟩:=h;obtain⟨y1,ZK,rfl,q1,YH⟩:=ha.cons_inv;obtain⟨y2,as2,rfl,q2,Zx⟩:=YH.cons_inv;obtain rfl:=Zx.ay;obtain rfl:=VR.ae.1 q2;obtain⟨bb,YZ,hle,rfl⟩:=VR.aL.1 q1;refine im (E:=bn) rfl rfl hr hl (az xs) (args':=fun c=>[.sl 0 0 xs.length (some c),.v (.string p)]) (S0:=fun c=>Gr (cI xs) xs.length c p) (fun b hb=>?_) (fun c=>by kernel_rfl) fun b cs0=>?_
 ·rw[YZ]at hb;cases hb;have Zb:xs.length<=bb.2:=hle;exact au.cons (VR.aL.2 ⟨bb,rfl,Zb,rfl⟩) (au.cons (VR.ae.2 rfl) au.nil)
 ·have nx:=Db (w0:=w) (cs0:=cs0) (b:=b) (c:=b.2) (p:=p) (xs:=xs) ZH xs.length 0 (by omega) rfl;refine af.reach fQ (k:=2) (n:=60) (o:=VP) (ren:=[(0,0)]) (eqs:=[0]) (F:=pD xs.length b.2 p bZ 0) (d:=6) (l:=[cv (cI xs)]) ?_ (by kernel_rfl) (fun i b h=>by rw[dj h];rfl) nx;rw[RT];simp only[ah,az,VV]
def GJ (p:ByteArray):SM:=(a6 bn 48 [.v (.slice none 0 0),.v (.string p)] (bG 6 0 0 [])).getD dn
theorem S4 (p:ByteArray)(v:Value):ao bn 48 60 (GJ p) VP v=[VT none 0 0=v]:=by kernel_rfl
def mO:yC:=fun args sh=>match args with
 | [.v u,.v (.string p)]=>some (.slice none 0 0,u=.slice none 0 0)
 | _=>vD args sh
def PD:List (FuncId × Sum):=[(48,gq (fj mH) (de mO)),(80,cq qI)]
def wz:Env:={ EP [] [] with YT:=fun f=>PD.lookup f }
def C8 (l:List SV):Option (SO × Bool):=some (.row l 48 (0,0) (some 3),false)
def jM (x:ax):SV:=.v (.agg #[.int .i64 x.k,.slice x.a x.l x.c])
def OC (x:ax):Option (SO × Bool):=some (.row [.v (.int .i64 x.k),.v (.slice x.a x.l x.c)] 46 (0,0) none,true)
def Cn (l:List SV)(n:Nat)(x:ax):SM:=(a6 wz 51 [.sl 0 0 n none,.v (.string x.p),jM x] (bG 6 1 0 [C8 l])).getD dn
def Fv (x:ax):SM:=(a6 wz 51 [.v (.slice none 0 0),.v (.string x.p),jM x] (bG 6 0 0 [])).getD dn
def LA:List SI:=dA wz 2 100 (Cn [] 0 ⟨⟨#[]⟩,1,none,0,0⟩) (VP++ff [0] true++ff [1] false)
def mh (k:Nat)(q:ByteArray)(x:SV)(d:Bool)(i:Int):SF:={ fn:=51,tm:=e9 57 6 ([.sl 2 0 k none,.v (.string q),.aH,.aH,.aH,.ptr 1 0,.aH,x,.v (.bool d),.v (.int .i64 i)]++List.replicate 47 .aH),todo:=LA,defers:=[],ret:=false,kind:=.normal,ro:=none }
def yl (y:ax)(l m:List SV):List (Option (SO × Bool)):=[C8 l,OC y,j6 m]
def lj (y:ax)(l m o:List SV):List (Option (SO × Bool)):=[C8 l,OC y,j6 m,j6 o]
theorem UD (l m:List SV)(n k:Nat)(y:ax):reach wz 2 100 (Cn l n y) (VP++ff [0] true++ff [1] false) [(0,0),(1,1),(2,2)] [0,2] (mh k y.p bZ false 0) 6 (yl y l m)=[0=0/\(ch y.1 (ad l n)).length=k/\nZ=none,VS y.1=VS y.1,0=0,VT none 0 0=VT none 0 0,VU false=VU false,vZ 0=vZ 0,l=l,l.all ab=true,vZ y.2=vZ y.2,VT y.3 y.4 y.5=VT y.3 y.4 y.5,List.map SV.v (vI (ch y.1 (ad l n)))=m,m.all ab=true,(y.2==0)=false,bu l n (ad l n)/\ch y.1 (ad l n)≠[]]:=by kernel_rfl
theorem VC (l m:List SV)(n:Nat)(y:ax):bY wz 51 100 (Cn l n y) (VP++ff [0,1] false) (.sl 3 0 1 none) 3 (.row m 48 (0,0) (some 3))=[0=0/\1=1/\nZ=none,[]++List.take 3 (List.drop 0 (aQ (List.replicate 1 (List.map SV.v [VS ⟨⟨[]⟩⟩,vZ 0,VT none 0 0])).flatten 0 (aQ (aQ (List.map SV.v [VS ⟨⟨[]⟩⟩,vZ 0,VT none 0 0]) 0 [SV.v (VS y.1)]) 1 (List.take 2 (List.drop 0 (List.map SV.v [vZ y.2,VT y.3 y.4 y.5]))))))=m,m.all ab=true,(y.2==0)=false,bu l n (ad l n)/\ch y.1 (ad l n)=[]]:=by kernel_rfl
theorem SP (m:List SV)(y:ax):bY wz 51 100 (Fv y) (VP++ff [0,1] false) (.sl 2 0 1 none) 2 (.row m 48 (0,0) (some 3))=[0=0/\1=1/\nZ=none,[]++List.take 3 (List.drop 0 (aQ (List.replicate 1 (List.map SV.v [VS ⟨⟨[]⟩⟩,vZ 0,VT none 0 0])).flatten 0 (aQ (aQ (List.map SV.v [VS ⟨⟨[]⟩⟩,vZ 0,VT none 0 0]) 0 [SV.v (VS y.1)]) 1 (List.take 2 (List.drop 0 (List.map SV.v [vZ y.2,VT y.3 y.4 y.5]))))))=m,m.all ab=true,(y.2==0)=false,VT none 0 0=VT none 0 0]:=by kernel_rfl
theorem Ud (l m o o' w w2:List SV)(k r:Nat)(y e:ax)(i i':Int):reach wz 2 100 (SM.at (mh k y.p bZ false i) 6 (yl y l m)) (ff [0] true++[(7,.cells [.v (.string e.p)]),(13,.b false),(15,.cells (iC e))]) [(0,0),(1,1),(2,2),(3,4)] [0,2,3] (mh k y.p (.sl 3 0 1 none) false i') 6 (lj y l m o')=[0=0/\k=k/\nZ=none,VS y.1=VS y.1,0=0,0=0/\1=1/\nZ=none,VU false=VU false,vZ (IntKind.i64.wrap (i+1))=vZ i',l=l,l.all ab=true,vZ y.2=vZ y.2,VT y.3 y.4 y.5=VT y.3 y.4 y.5,m=m,m.all ab=true,[]++List.take 3 (List.drop 0 (aQ (List.replicate 1 (List.map SV.v [VS ⟨⟨[]⟩⟩,vZ 0,VT none 0 0])).flatten 0 (iC e)))=o',o'.all ab=true,List.take 3 (List.drop (0+i.toNat*3) m)=iC e/\(iC e).length=3,ai i k=true,decide (dp e.1 y.1>0)=false,e.1.size<=1000000000/\y.1.size<=1000000000,m[0+i.toNat*3+0]?=some (SV.v (VS e.1)),ai i k=true,decide (i<(↑k:Int))=true]:=by kernel_rfl
theorem Vn (l m o o' w w2:List SV)(k r:Nat)(y e:ax)(i i':Int):reach wz 2 100 (SM.at (mh k y.p (.sl 3 0 r none) false i) 6 (lj y l m o)) (ff [0] true++[(7,.cells [.v (.string e.p)]),(13,.b false),(15,.cells (iC e)),(16,.app o w)]) [(0,0),(1,1),(2,2),(3,5)] [0,2,3] (mh k y.p (.sl 3 0 (r+1) none) false i') 6 (lj y l m o')=[0=0/\k=k/\nZ=none,VS y.1=VS y.1,0=0,0=0/\r+1=r+1/\nZ=none,VU false=VU false,vZ (IntKind.i64.wrap (i+1))=vZ i',l=l,l.all ab=true,vZ y.2=vZ y.2,VT y.3 y.4 y.5=VT y.3 y.4 y.5,m=m,m.all ab=true,o++w=o',o'.all ab=true,((List.take 3 (List.drop 0 (aQ (List.replicate 1 (List.map SV.v [VS ⟨⟨[]⟩⟩,vZ 0,VT none 0 0])).flatten 0 (iC e)))=w/\w.length=1*3)/\1≠0/\(2*(r+1)+1024)*48<=140737488355328)/\List.take (r*3) o=o/\o.length=r*3/\w.all SV.flat=true,List.take 3 (List.drop (0+i.toNat*3) m)=iC e/\(iC e).length=3,ai i k=true,decide (dp e.1 y.1>0)=false,e.1.size<=1000000000/\y.1.size<=1000000000,m[0+i.toNat*3+0]?=some (SV.v (VS e.1)),ai i k=true,decide (i<(↑k:Int))=true]:=by kernel_rfl
theorem RO (l m o o' w w2:List SV)(k r:Nat)(y e:ax)(i i':Int):reach wz 2 100 (SM.at (mh k y.p bZ false i) 6 (yl y l m)) (ff [0] true++[(7,.cells [.v (.string e.p)]),(13,.b true),(16,.cells (iC e))]) [(0,0),(1,1),(2,2),(3,6)] [0,2,3] (mh k y.p (.sl 3 0 2 none) true i') 6 (lj y l m o')=[0=0/\k=k/\nZ=none,VS y.1=VS y.1,0=0,0=0/\2=2/\nZ=none,VU true=VU true,vZ (IntKind.i64.wrap (i+1))=vZ i',l=l,l.all ab=true,vZ y.2=vZ y.2,VT y.3 y.4 y.5=VT y.3 y.4 y.5,m=m,m.all ab=true,List.take 3 ([]++List.take 3 (List.drop 0 (aQ (List.replicate 1 (List.map SV.v [VS ⟨⟨[]⟩⟩,vZ 0,VT none 0 0])).flatten 0 (aQ (aQ (List.map SV.v [VS ⟨⟨[]⟩⟩,vZ 0,VT none 0 0]) 0 [SV.v (VS y.1)]) 1 (List.take 2 (List.drop 0 [SV.v (vZ y.2),SV.v (VT y.3 y.4 y.5)]))))))++List.take 3 (List.drop 0 (aQ (List.replicate 1 (List.map SV.v [VS ⟨⟨[]⟩⟩,vZ 0,VT none 0 0])).flatten 0 (iC e)))=o',o'.all ab=true,List.take 3 (List.drop (0+i.toNat*3) m)=iC e/\(iC e).length=3,ai i k=true,decide (dp e.1 y.1>0)=true,e.1.size<=1000000000/\y.1.size<=1000000000,m[0+i.toNat*3+0]?=some (SV.v (VS e.1)),ai i k=true,decide (i<(↑k:Int))=true]:=by kernel_rfl
theorem VF (l m o o' w w2:List SV)(k r:Nat)(y e:ax)(i i':Int):reach wz 2 100 (SM.at (mh k y.p (.sl 3 0 r none) false i) 6 (lj y l m o)) (ff [0] true++[(7,.cells [.v (.string e.p)]),(13,.b true),(14,.app o w),(16,.cells (iC e)),(17,.app (o++w) w2)]) [(0,0),(1,1),(2,2),(3,7)] [0,2,3] (mh k y.p (.sl 3 0 (r+2) none) true i') 6 (lj y l m o')=[0=0/\k=k/\nZ=none,VS y.1=VS y.1,0=0,0=0/\r+1+1=r+2/\nZ=none,VU true=VU true,vZ (IntKind.i64.wrap (i+1))=vZ i',l=l,l.all ab=true,vZ y.2=vZ y.2,VT y.3 y.4 y.5=VT y.3 y.4 y.5,m=m,m.all ab=true,o++w++w2=o',o'.all ab=true,((List.take 3 (List.drop 0 (aQ (List.replicate 1 (List.map SV.v [VS ⟨⟨[]⟩⟩,vZ 0,VT none 0 0])).flatten 0 (iC e)))=w2/\w2.length=1*3)/\1≠0/\(2*(r+1+1)+1024)*48<=140737488355328)/\List.take ((r+1)*3) (o++w)=o++w/\(o++w).length=(r+1)*3/\w2.all SV.flat=true,List.take 3 (List.drop (0+i.toNat*3) m)=iC e/\(iC e).length=3,ai i k=true,((List.take 3 (List.drop 0 (aQ (List.replicate 1 (List.map SV.v [VS ⟨⟨[]⟩⟩,vZ 0,VT none 0 0])).flatten 0 (aQ (aQ (List.map SV.v [VS ⟨⟨[]⟩⟩,vZ 0,VT none 0 0]) 0 [SV.v (VS y.1)]) 1 (List.take 2 (List.drop 0 [SV.v (vZ y.2),SV.v (VT y.3 y.4 y.5)])))))=w/\w.length=1*3)/\1≠0/\(2*(r+1)+1024)*48<=140737488355328)/\List.take (r*3) o=o/\o.length=r*3/\w.all SV.flat=true,decide (dp e.1 y.1>0)=true,e.1.size<=1000000000/\y.1.size<=1000000000,m[0+i.toNat*3+0]?=some (SV.v (VS e.1)),ai i k=true,decide (i<(↑k:Int))=true]:=by kernel_rfl
theorem Uf (l m o o' w w2:List SV)(k r:Nat)(y e:ax)(i i':Int):reach wz 2 100 (SM.at (mh k y.p (.sl 3 0 r none) true i) 6 (lj y l m o)) (ff [0] true++[(12,.cells (iC e)),(13,.app o w)]) [(0,0),(1,1),(2,2),(3,5)] [0,2,3] (mh k y.p (.sl 3 0 (r+1) none) true i') 6 (lj y l m o')=[0=0/\k=k/\nZ=none,VS y.1=VS y.1,0=0,0=0/\r+1=r+1/\nZ=none,VU true=VU true,vZ (IntKind.i64.wrap (i+1))=vZ i',l=l,l.all ab=true,vZ y.2=vZ y.2,VT y.3 y.4 y.5=VT y.3 y.4 y.5,m=m,m.all ab=true,o++w=o',o'.all ab=true,((List.take 3 (List.drop 0 (aQ (List.replicate 1 (List.map SV.v [VS ⟨⟨[]⟩⟩,vZ 0,VT none 0 0])).flatten 0 (iC e)))=w/\w.length=1*3)/\1≠0/\(2*(r+1)+1024)*48<=140737488355328)/\List.take (r*3) o=o/\o.length=r*3/\w.all SV.flat=true,List.take 3 (List.drop (0+i.toNat*3) m)=iC e/\(iC e).length=3,ai i k=true,decide (i<(↑k:Int))=true]:=by kernel_rfl
theorem R9 (l m o o' w w2:List SV)(k r:Nat)(y e:ax)(i i':Int):bY wz 51 100 (SM.at (mh k y.p (.sl 3 0 r none) false i) 6 (lj y l m o)) (ff [0] false++[(2,.app o w)]) (.sl 5 0 (r+1) none) 5 (.row o' 48 (0,0) (some 3))=[0=0/\r+1=r+1/\nZ=none,o++w=o',o'.all ab=true,((List.take 3 (List.drop 0 (aQ (List.replicate 1 (List.map SV.v [VS ⟨⟨[]⟩⟩,vZ 0,VT none 0 0])).flatten 0 (aQ (aQ (List.map SV.v [VS ⟨⟨[]⟩⟩,vZ 0,VT none 0 0]) 0 [SV.v (VS y.1)]) 1 (List.take 2 (List.drop 0 [SV.v (vZ y.2),SV.v (VT y.3 y.4 y.5)])))))=w/\w.length=1*3)/\1≠0/\(2*(r+1)+1024)*48<=140737488355328)/\List.take (r*3) o=o/\o.length=r*3/\w.all SV.flat=true,decide (i<(↑k:Int))=false]:=by kernel_rfl
theorem Tq (l m o o' w w2:List SV)(k r:Nat)(y e:ax)(i i':Int):bY wz 51 100 (SM.at (mh k y.p (.sl 3 0 r none) true i) 6 (lj y l m o)) (ff [0] false) (.sl 3 0 r none) 3 (.row o' 48 (0,0) (some 3))=[0=0/\r=r/\nZ=none,o=o',o'.all ab=true,decide (i<(↑k:Int))=false]:=by kernel_rfl
def gL (x:ax):List ax->List ax
 | []=>[x]
 | e::l=>if dp e.p x.p>0 then x::e::l else e::gL x l
theorem pe (x:ax):∀ l:List ax,(gL x l).length=l.length+1
 | []=>rfl
 | e::l=>by
  unfold gL
  split
  ·rfl
  ·rw[Wm,pe x l,Wm]
def Ns (w0:World)(xs:List ax)(e:Ending)(w':World):Prop:=Below w0.heap.size w0 w'/\∃ y,e=.returned y/\cF w0 w' y (vI xs) xs.length 3 48
theorem Oj (p:ByteArray)(w:World):Calls Tryz.prog 48 #[.slice none 0 0,.string p] w fun e w'=>Below w.heap.size w w'/\e=.returned (.slice none 0 0):=by
 refine (bP (E:=bn) rfl rfl (args:=[.v (.slice none 0 0),.v (.string p)]) (a:=[.slice none 0 0,.string p]) (S0:=GJ p) (by kernel_rfl) (au.cons (VR.ae.2 rfl) (au.cons (VR.ae.2 rfl) au.nil)) fun cs0=>?_);refine af.ao fQ (n:=60) (o:=VP) (v:=.slice none 0 0) ?_ fun ν' M1 w1 s' w' _ Zh hr=>⟨aB aE Zh hr,rfl⟩;rw[S4];simp only[ah,VV,VX,VW]
theorem ou {X:World->Prop}:bh Tryz.prog X (48,gq (fj mH) (de mO)):=by
 refine bh.br (gJ ⟨_,Tryz.func48,by kernel_rfl,by kernel_rfl⟩ fun args sh ys n C elem ex p h hp ν M w0 w a hr hX ha=>?_) (dO ⟨_,Tryz.func48,by kernel_rfl,by kernel_rfl⟩ fun args sh v p h hp ν M w0 w a hr hX ha=>?_)
 ·dsimp only[mH]at h;split at h
  ·rename_i i n p;split at h
   ·rename_i zs e1 z1 x1 m1 hl;cases h;refine (lZ hr hl hp.1 ha).mono fun e w' ⟨hB,h⟩=>⟨hB,?_⟩;rcases h with ⟨h1,_⟩|⟨_,y,h2,h3⟩
    ·exact absurd h1 hp.2
    ·exact⟨y,h2,h3⟩
   ·cases h
  ·cases h
 ·dsimp only[mO]at h;split at h
  ·rename_i u p;cases h;subst hp;obtain⟨y1,ZK,rfl,q1,YH⟩:=ha.cons_inv;obtain⟨y2,as2,rfl,q2,Zx⟩:=YH.cons_inv;obtain rfl:=Zx.ay;obtain rfl:=VR.ae.1 q1;obtain rfl:=VR.ae.1 q2;exact Oj p w
  ·dsimp only[vD]at h;split at h
   ·rename_i i n p;split at h
    ·rename_i zs e1 z1 x1 m1 hl;cases h;refine (lZ hr hl hp.1 ha).mono fun e w' ⟨hB,h⟩=>⟨hB,?_⟩;rcases h with ⟨_,h2⟩|⟨h1,_⟩
     ·exact h2
     ·exact absurd hp.2 h1
    ·cases h
   ·cases h
theorem H9 {M:Own}{w0:World}:aK wz M w0:=
 aK.uG (Checked.mixed Tryz.checked) (by kernel_rfl) (fh.of iJ rfl dK) (dy.list (X:=fun _=>True) (l:=PD) rfl (fun r h=>by
  simp only[PD,V8,Ww,Xc]at h
  rcases h with rfl|rfl
  ·exact ou
  ·exact bh.pure (r:=(80,qI)) CO) fun ν s w hr _=>trivial) (fun f g h=>by cases h)
section
variable {w0:World}{cs0:List Frame}{l0 xs:List ax}{x:ax}{M:Own}{ν:aP}
theorem Az (hM:∀ z,¬ M z)(hν:∀ i b,ν i=some b->i=0)(hl:xs.length<=1000):∀ (j i:Nat),i+j=xs.length->∀ (out:List ax),out.length<=i+1->
  af wz M w0 cs0 51 (Ns w0 (out++xs.drop i)) ν (SM.at (mh xs.length x.p (.sl 3 0 out.length none) true i) 6 (lj x (cI l0) (cI xs) (cI out)))
 | 0,i,hj,out,ho=>by
  rw[Xf (by omega),W4]
  refine oq (j:=3) H9 hM (n:=100) (o:=ff [0] false) ⟨?_⟩ fun w' y hB hy=>⟨hB,y,rfl,hy⟩
  rw[Tq (w:=[]) (w2:=[]) (e:=x) (i':=0)]
  simp only[ah,az,VV,VX,VW]
  exact V2 (by omega)
 | j+1,i,hj,out,ho=>by
  have hi:i<xs.length:=by omega
  have Zm:xs[i]?=some xs[i]:=V4 hi
  have t1:decide ((i:Int)<(xs.length:Int))=true:=V0 (by omega)
  have r1:=aJ hi
  have ws:=aU (k:=i) (by omega)
  have ra:=o9 Zm
  have nx:=Az hM hν hl j (i+1) (by omega) (out++[xs[i]]) (by rw[V7];simp;omega)
  rw[Xz,List.singleton_append,<- WQ hi,V7,show ([xs[i]]:List ax).length=1 from rfl]at nx
  refine af.reach H9 (k:=2) (n:=100) (o:=(ff [0] true++[(12,.cells (iC xs[i])),(13,.app (cI out) (iC xs[i]))])) (ren:=[(0,0),(1,1),(2,2),(3,5)]) (eqs:=[0,2,3]) ?_ (by kernel_rfl) (fun i b h=>by rw[hν i b h];rfl) nx
  rw[Uf (w2:=[])]
  simp only[ah,V5,t1,r1,ra,ws,cC,az,gN,gT,fF,eQ,WL,VV,VX,VW]
  repeat' apply And.intro
  all_goals first|rfl|omega|exact We (by rw[eQ];exact Wx _)|exact bp _|skip
theorem FM (hM:∀ z,¬ M z)(hν:∀ i b,ν i=some b->i=0)(hl:xs.length<=1000)(hp:x.p.size<=1000000000)(hs:∀ e∈xs,e.p.size<=1000000000):∀ (j i:Nat),i+j=xs.length->0<i->
  af wz M w0 cs0 51 (Ns w0 (xs.take i++gL x (xs.drop i))) ν (SM.at (mh xs.length x.p (.sl 3 0 (xs.take i).length none) false i) 6 (lj x (cI l0) (cI xs) (cI (xs.take i))))
 | 0,i,hj,h0=>by
  have hlen:(xs.take i).length=i:=by rw[WX];omega
  rw[Xf (by omega),show gL x []=[x] from rfl];refine oq (j:=5) H9 hM (n:=100) (o:=(ff [0] false++[(2,.app (cI (xs.take i)) (iC x))])) ⟨?_⟩ fun w' y hB hy=>⟨hB,y,rfl,hy⟩;rw[V7,show ([x]:List ax).length=1 from rfl,R9 (w2:=[]) (e:=x) (i':=0)];simp only[ah,cC,az,gN,gT,fF,eQ,hlen,WL,VV,VX,VW];repeat' apply And.intro
  all_goals first|rfl|omega|exact We (by rw[eQ,hlen];exact Wx _)|exact bp _|exact V2 (by omega)|skip
 | j+1,i,hj,h0=>by
  have hi:i<xs.length:=by omega
  have hlen:(xs.take i).length=i:=by rw[WX];omega
  have Zm:xs[i]?=some xs[i]:=V4 hi;have t1:decide ((i:Int)<(xs.length:Int))=true:=V0 (by omega);have r1:=aJ hi;have ws:=aU (k:=i) (by omega);have ra:=o9 Zm;have rc:=iP Zm;have z1:=hs _ (WS hi);have hd:=WQ hi;have ht:=Wp hi;by_cases hc:dp xs[i].p x.p>0
  ·have tc:=V0 hc;have nx:=Az (w0:=w0) (cs0:=cs0) (x:=x) (l0:=l0) hM hν hl j (i+1) (by omega) (xs.take i++[x]++[xs[i]]) (by rw[V7,V7,hlen];simp)
   have e1:xs.take i++[x]++[xs[i]]++xs.drop (i+1)=xs.take i++gL x (xs.drop i):=by
    rw[hd];unfold gL;rw[if_pos hc];simp
   rw[e1,V7,V7,show ([x]:List ax).length=1 from rfl,show ([xs[i]]:List ax).length=1 from rfl]at nx;refine af.reach H9 (k:=2) (n:=100) (o:=(ff [0] true++[(7,.cells [.v (.string xs[i].p)]),(13,.b true),(14,.app (cI (xs.take i)) (iC x)),(16,.cells (iC xs[i])),(17,.app (cI (xs.take i)++iC x) (iC xs[i]))])) (ren:=[(0,0),(1,1),(2,2),(3,7)]) (eqs:=[0,2,3]) ?_ (by kernel_rfl) (fun i b h=>by rw[hν i b h];rfl) nx;rw[show (xs.take i).length+1+1=(xs.take i).length+2 from rfl,VF];simp only[ah,V5,t1,r1,ra,rc,ws,tc,z1,hp,cC,az,gN,gT,fF,eQ,hlen,WL,V7,VV,VX,VW];repeat' apply And.intro
   all_goals first|rfl|omega|exact We (by rw[eQ,hlen];exact Wx _)|exact We (by rw[V7,eQ,hlen,cC];omega)|exact bp _|skip
  ·have tc:=V2 hc;have nx:=FM hM hν hl hp hs j (i+1) (by omega) (by omega)
   have e1:xs.take (i+1)++gL x (xs.drop (i+1))=xs.take i++gL x (xs.drop i):=by
    rw[hd,ht];conv=>rhs;unfold gL
    rw[if_neg hc,Xz];rfl
   rw[e1,ht,V7,show ([xs[i]]:List ax).length=1 from rfl]at nx;refine af.reach H9 (k:=2) (n:=100) (o:=(ff [0] true++[(7,.cells [.v (.string xs[i].p)]),(13,.b false),(15,.cells (iC xs[i])),(16,.app (cI (xs.take i)) (iC xs[i]))])) (ren:=[(0,0),(1,1),(2,2),(3,5)]) (eqs:=[0,2,3]) ?_ (by kernel_rfl) (fun i b h=>by rw[hν i b h];rfl) nx;rw[Vn (w2:=[])];simp only[ah,V5,t1,r1,ra,rc,ws,tc,z1,hp,cC,az,gN,gT,fF,eQ,hlen,WL,VV,VX,VW];repeat' apply And.intro
   all_goals first|rfl|omega|exact We (by rw[eQ,hlen];exact Wx _)|exact bp _|skip
theorem L4 (hM:∀ z,¬ M z)(hν:∀ i b,ν i=some b->i=0)(hl:xs.length<=1000)(hp:x.p.size<=1000000000)(hs:∀ e∈xs,e.p.size<=1000000000)(h0:0<xs.length):
  af wz M w0 cs0 51 (Ns w0 (gL x xs)) ν (SM.at (mh xs.length x.p bZ false (0:Nat)) 6 (yl x (cI l0) (cI xs))):=by
 have Zm:xs[0]?=some xs[0]:=V4 h0;have t1:decide (((0:Nat):Int)<(xs.length:Int))=true:=V0 (by omega);have r1:=aJ h0;have ws:=aU (k:=0) (by omega);have ra:=o9 Zm;have rc:=iP Zm;have z1:=hs _ (WS h0);have hd:=WQ h0;rw[List.drop_zero]at hd;have ht:=Wp h0;rw[X7,Xm]at ht;by_cases hc:dp xs[0].p x.p>0
 ·have tc:=V0 hc;have nx:=Az (w0:=w0) (cs0:=cs0) (x:=x) (l0:=l0) hM hν hl (xs.length - 1) (0+1) (by omega) ([x]++[xs[0]]) (by simp)
  have e1:[x]++[xs[0]]++xs.drop (0+1)=gL x xs:=by
   conv=>rhs;rw[hd]
   unfold gL;rw[if_pos hc];simp
  rw[e1,show (([x]:List ax)++[xs[0]]).length=2 from rfl]at nx;refine af.reach H9 (k:=2) (n:=100) (o:=(ff [0] true++[(7,.cells [.v (.string xs[0].p)]),(13,.b true),(16,.cells (iC xs[0]))])) (ren:=[(0,0),(1,1),(2,2),(3,6)]) (eqs:=[0,2,3]) ?_ (by kernel_rfl) (fun i b h=>by rw[hν i b h];rfl) nx;rw[RO (o:=[]) (w:=[]) (w2:=[]) (r:=0)];simp only[ah,V5,t1,r1,ra,rc,ws,tc,z1,hp,cC,az,gT,fF,VV,VX,VW];repeat' apply And.intro
  all_goals first|rfl|omega|exact bp _|(simp[bp,WL];done)|skip
 ·have tc:=V2 hc;have nx:=FM (w0:=w0) (cs0:=cs0) (x:=x) (l0:=l0) hM hν hl hp hs (xs.length - 1) (0+1) (by omega) (by omega)
  have e1:xs.take (0+1)++gL x (xs.drop (0+1))=gL x xs:=by
   rw[ht];conv=>rhs;rw[hd];unfold gL
   rw[if_neg hc];rfl
  rw[e1,ht,show ([xs[0]]:List ax).length=1 from rfl]at nx;refine af.reach H9 (k:=2) (n:=100) (o:=(ff [0] true++[(7,.cells [.v (.string xs[0].p)]),(13,.b false),(15,.cells (iC xs[0]))])) (ren:=[(0,0),(1,1),(2,2),(3,4)]) (eqs:=[0,2,3]) ?_ (by kernel_rfl) (fun i b h=>by rw[hν i b h];rfl) nx;rw[Ud (o:=[]) (w:=[]) (w2:=[]) (r:=0)];simp only[ah,V5,t1,r1,ra,rc,ws,tc,z1,hp,cC,az,fF,VV,VX,VW];repeat' apply And.intro
  all_goals first|rfl|omega|exact bp _|skip
end
def ee (l:List ax)(x:ax):List ax:=gL x (ch x.p l)
theorem GW {w:World}{b c:Nat}{l:List ax}{x:ax}{rest:List Value}(hk:x.k≠0)(hh:w.heap[b]?=some (.cells (vI l++rest).toArray 48 (0,0)))(YX:(vI l++rest).length=c*3)(ZF:l.length<=c)(YO:l.length<=1000)(hq:x.p.size<=1000000000)(hs:∀ e∈l,e.p.size<=1000000000):
  Calls Tryz.prog 51 #[.slice (some ⟨b,0,none⟩) l.length c,.string x.p,.agg #[.int .i64 x.k,.slice x.a x.l x.c]] w (Ns w (ee l x)):=by
 have Z5:(x.2==(0:Int))=false:=Wr.2 hk
 have ho:∀ (j:Nat) (o':SO) (b' c':Nat),[SO.row (cI l) 48 (0,0) (some 3)][j]?=some o'->[(b,c)][j]?=some (b',c')->∃ r,w.heap[b']?=some r/\OR (aA [(b,c)]) j o' r:=by
  intro j o' b' c' h1 h2;match j with
  | 0=>
   simp only[Wa,Option.some.injEq]at h1 h2;subst h1;cases h2;exact⟨_,hh,vI l,rest,rfl,by rw[<- cX];exact au.lits _ _,by rw[<- cX,WH,V7];omega,(b,c),rfl,YX⟩
  | j+1=>simp at h1
 refine aW (E:=wz) rfl (d:=6) (l:=[(b,c)]) (os:=[.row (cI l) 48 (0,0) (some 3)]) rfl (by simp) (by simp) ho rfl (args:=[.sl 0 0 l.length none,.v (.string x.p),jM x]) (a:=[.slice (some ⟨b,0,none⟩) l.length c,.string x.p,.agg #[.int .i64 x.k,.slice x.a x.l x.c]]) (S0:=Cn (cI l) l.length x) (by kernel_rfl) (au.cons (VR.aL.2 ⟨(b,c),rfl,ZF,rfl⟩) (au.cons (VR.ae.2 rfl) (au.cons (VR.ae.2 rfl) au.nil))) fun cs0=>?_;have hM:∀ z,¬ (aD [(b,c)] ([SO.row (cI l) 48 (0,0) (some 3)].map fun o=>(o,false))) z:=fun z=>aZ (os:=[_]);have hν:∀ i b',aA [(b,c)] i=some b'->i=0:=fun i b' h=>dj h;have hd:(ch x.p l).length<=l.length:=XQ _ _;by_cases h0:ch x.p l=[]
 ·unfold ee;rw[h0,show gL x []=[x] from rfl];refine oq (j:=3) H9 hM (n:=100) (o:=VP++ff [0,1] false) ⟨?_⟩ fun w' y hB hy=>⟨hB,y,rfl,hy⟩;rw[show cI [x]=iC x from fF x,show ([x]:List ax).length=1 from rfl,VC];simp only[ah,aX,h0,Z5,bp,VV,VX,VW];repeat' apply And.intro
  all_goals first|rfl|exact YO|exact⟨rfl,rfl,YO⟩|skip
 ·have nx:=L4 (w0:=w) (cs0:=cs0) (l0:=l) (x:=x) hM hν (xs:=ch x.p l) (by omega) hq (fun e he=>hs e (Wo.1 he).1) (Xg.2 h0);refine af.reach H9 (k:=2) (n:=100) (o:=VP++ff [0] true++ff [1] false) (ren:=[(0,0),(1,1),(2,2)]) (eqs:=[0,2]) (F:=mh (ch x.p l).length x.p bZ false 0) (d:=6) (l:=yl x (cI l) (cI (ch x.p l))) ?_ (by kernel_rfl) (fun i b h=>by rw[hν i b h];rfl) nx;rw[UD];simp only[ah,aX,Z5,az,cX,bZ,VV,VX,VW];repeat' apply And.intro
  all_goals first|rfl|exact YO|exact h0|exact⟨rfl,rfl,YO⟩|skip
theorem Hk {w:World}{x:ax}(hk:x.k≠0):Calls Tryz.prog 51 #[.slice none 0 0,.string x.p,.agg #[.int .i64 x.k,.slice x.a x.l x.c]] w (Ns w (ee [] x)):=by
 have Z5:(x.2==(0:Int))=false:=Wr.2 hk;refine (bP (E:=wz) rfl rfl (args:=[.v (.slice none 0 0),.v (.string x.p),jM x]) (a:=[.slice none 0 0,.string x.p,.agg #[.int .i64 x.k,.slice x.a x.l x.c]]) (S0:=Fv x) (by kernel_rfl) (au.cons (VR.ae.2 rfl) (au.cons (VR.ae.2 rfl) (au.cons (VR.ae.2 rfl) au.nil))) fun cs0=>?_);refine oq (j:=2) H9 aE (n:=100) (o:=VP++ff [0,1] false) ⟨?_⟩ fun w' y hB hy=>⟨hB,y,rfl,hy⟩;rw[show ee [] x=[x] from rfl,show cI [x]=iC x from fF x,show ([x]:List ax).length=1 from rfl,SP];simp only[ah,Z5,bp,VV,VX,VW];rfl
end paths
end Go.Proofs.YtbjmmnegkpeboaaGreatDoor
