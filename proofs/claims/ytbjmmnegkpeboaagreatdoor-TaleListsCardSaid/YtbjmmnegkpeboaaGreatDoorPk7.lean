/- What the law TaleLists leans on, part 7: the symbolic executor, proved sound, contracts of functions, plain lemmas. By an AI agent. -/
import Derived.Test.YtbjmmnegkpeboaaGreatDoorPk6
set_option linter.unusedSimpArgs false
set_option linter.unusedVariables false
set_option maxHeartbeats 0
set_option maxRecDepth 100000
noncomputable section
namespace Go.Proofs.YtbjmmnegkpeboaaGreatDoor
open Go Go.Rx Go.RowKit Go.Proofs
namespace paths
namespace ly
def lS (f:FuncId) (a:Array Value) (u:ByteArray) (w:World):Prop:=Calls Tryz.prog f a w fun e w'=>Below w.heap.size w w'/\e=.returned (.string u)
theorem I7 {M:Own} {W:World} {cs0:List Frame} {ν:aP} (K:aK EA M W) (hM:∀ z,¬ M z) {x:eS} {p:lF} {y:mA} {m:Option Nat} {s i:Int} {u v z:ByteArray} {H:Hp} {M1:Own} {w1:World} (hk:Kept W.hp M W H M1 w1) (hi:¬ i<x.k)
  (cT:∀ w:World,H.Sub w.hp->lS 10 #[fy p.b] u w) (cW:∀ w:World,H.Sub w.hp->lS 11 #[p.v] u w)
  (cB:∀ (w:World) (b:Nat),H.Sub w.hp->w.heap[b]?=some (.cells #[.int .u64 s,.map m] 66 (0,0))->lS 12 #[.pointer (some ⟨b,0,none⟩)] v w)
  (cR:∀ w:World,H.Sub w.hp->lS 13 #[.agg #[.int .u64 (IntKind.u64.wrap x.k),.slice y.a y.n y.c]] v w)
  (cN:∀ w:World,H.Sub w.hp->lS 12 #[.pointer none] z w) (cE:∀ w:World,H.Sub w.hp->lS 13 #[.agg #[.int .u64 0,.slice none 0 0]] z w) (cZ:∀ w:World,H.Sub w.hp->lS 10 #[.pointer none] ⟨#[]⟩ w):
  af EA M1 w1 cs0 3 (fun e w'=>e=.returned (.bool true)/\Below W.heap.size W w') ν (MY x p y m s i):=by
 have hi0:decide (i<x.7)=false:=V2 hi;refine af.gD (K.dy hk.base) hk (n:=200) (g:=10) (o:=oZ) (args:=[.v (fy p.b)]) (by rw [Qc];simp only [ah,hi0,VV,VX,VW]) (by kernel_rfl) fun ν1 wA a hle YJ hgr ha=>?_;obtain ⟨y1,as0,rfl,e0,ZH⟩:=ha.cons_inv;obtain rfl:=ZH.ay;obtain rfl:=VR.ae.1 e0;refine (cT wA YJ).mono fun e wA' ⟨hBA,he⟩=>⟨hBA,_,he,fun M2 ZE=>⟨by rw [ld1];simp only [ah,hi0,VV,VX,VW],?_⟩⟩;change af EA M2 wA' cs0 _ _ _ (OT x p y m s i u);have sA:H.Sub (H.grow wA wA'):=Hp.fj YJ;refine af.gD (K.dy ZE.base) ZE (n:=60) (g:=11) (o:=oG) (args:=[.v p.v]) (by rw [Ph];trivial) (by kernel_rfl) fun ν2 wB a Z5 hsubB hgr2 ha=>?_;obtain ⟨y1,as0,rfl,e0,ZH⟩:=ha.cons_inv;obtain rfl:=ZH.ay;obtain rfl:=VR.ae.1 e0;refine (cW wB (sA.trans hsubB)).mono fun e wB' ⟨hBB,he⟩=>⟨hBB,_,he,fun M3 hK3=>⟨by rw [RV];trivial,?_⟩⟩;change af EA M3 wB' cs0 _ _ _ (O1 x p y m s i u)
 have sB:=sA.trans (Hp.fj (w:=wB) (w':=wB') hsubB);refine af.OD (K.dy hK3.base) hK3 (n:=60) (g:=12) (o:=oG) (args:=[.ptr 0 0]) (by rw [Pd];simp only [ah,WB,VV,VX,VW]) (by kernel_rfl) fun ν3 wC a hle3 hsubC hgr3 ha Zj=>?_;obtain ⟨y1,as0,rfl,e0,ZH⟩:=ha.cons_inv;obtain rfl:=ZH.ay;obtain ⟨bb,Zd,rfl⟩:=VR.aF.1 e0;obtain ⟨b,ob,hb,ho,YO⟩:=Zj 0 (.row [.v (.int .u64 s),.v (.map m)] 66 (0,0) none) true (by kernel_rfl);rw [Zd] at hb;cases hb
 have hrow:wC.heap[bb.1]?=some (.cells #[.int .u64 s,.map m] 66 (0,0)):=by
  rw [ho];obtain ⟨zs,rest,rfl,hzs,hl⟩:=YO;obtain ⟨z1,u1,rfl,r1,hu⟩:=hzs.cons_inv;obtain ⟨z2,u2,rfl,r2,hu2⟩:=hu.cons_inv;obtain rfl:=hu2.ay;obtain rfl:=VR.ae.1 r1;obtain rfl:=VR.ae.1 r2
  have h0:rest=[]:=by
   have:([Value.int .u64 s,Value.map m]++rest).length=2:=hl;simpa using this
  subst h0;rfl
 refine (cB wC bb.1 (sB.trans hsubC) hrow).mono fun e wC' ⟨hBC,he⟩=>⟨hBC,_,he,fun M4 hK4=>⟨by rw [Us];simp only [ah,WB,eq_self,decide_true,VV,VX,VW],?_⟩⟩;change af EA M4 wC' cs0 _ _ _ (OV x p y m s i u v);have sC:=sB.trans (Hp.fj (w:=wC) (w':=wC') hsubC);refine af.gD (K.dy hK4.base) hK4 (n:=60) (g:=13) (o:=oG) (args:=[.agg [.v (.int .u64 (IntKind.u64.wrap x.k)),.v (.slice y.a y.n y.c)]]) (by rw [Pw];simp only [ah,WB,VV,VX,VW]) (by kernel_rfl) fun ν4 wD a hle4 hsubD hgr4 ha=>?_;obtain ⟨y1,as0,rfl,e0,ZH⟩:=ha.cons_inv;obtain rfl:=ZH.ay;obtain ⟨zs,rfl,hz⟩:=VR.bx.1 e0;obtain ⟨z1,u1,rfl,r1,hu⟩:=hz.cons_inv;obtain ⟨z2,u2,rfl,r2,hu2⟩:=hu.cons_inv;obtain rfl:=hu2.ay;obtain rfl:=VR.ae.1 r1;obtain rfl:=VR.ae.1 r2;refine (cR wD (sC.trans hsubD)).mono fun e wD' ⟨hBD,he⟩=>⟨hBD,_,he,fun M5 hK5=>⟨by rw [S8];simp only [ah,WB,VV,VX,VW],?_⟩⟩;change af EA M5 wD' cs0 _ _ _ (OW x p y m s i u v)
 have sD:=sC.trans (Hp.fj (w:=wD) (w':=wD') hsubD);refine af.gD (K.dy hK5.base) hK5 (n:=60) (g:=12) (o:=oG) (args:=[.v (.pointer none)]) (by rw [QG];simp only [ah,WB,VV,VX,VW]) (by kernel_rfl) fun ν5 wE a hle5 hsubE hgr5 ha=>?_;obtain ⟨y1,as0,rfl,e0,ZH⟩:=ha.cons_inv;obtain rfl:=ZH.ay;obtain rfl:=VR.ae.1 e0;refine (cN wE (sD.trans hsubE)).mono fun e wE' ⟨hBE,he⟩=>⟨hBE,_,he,fun M6 hK6=>⟨by rw [Sw];simp only [ah,WB,VV,VX,VW],?_⟩⟩;change af EA M6 wE' cs0 _ _ _ (OX x p y m s i u v z);have sE:=sD.trans (Hp.fj (w:=wE) (w':=wE') hsubE);refine af.gD (K.dy hK6.base) hK6 (n:=60) (g:=13) (o:=oG) (args:=[.agg [.v (.int .u64 0),.v (.slice none 0 0)]]) (by rw [O7];simp only [ah,WB,VV,VX,VW]) (by kernel_rfl) fun ν6 wF a hle6 hsubF hgr6 ha=>?_;obtain ⟨y1,as0,rfl,e0,ZH⟩:=ha.cons_inv;obtain rfl:=ZH.ay;obtain ⟨zs,rfl,hz⟩:=VR.bx.1 e0;obtain ⟨z1,u1,rfl,r1,hu⟩:=hz.cons_inv
 obtain ⟨z2,u2,rfl,r2,hu2⟩:=hu.cons_inv;obtain rfl:=hu2.ay;obtain rfl:=VR.ae.1 r1;obtain rfl:=VR.ae.1 r2;refine (cE wF (sE.trans hsubF)).mono fun e wF' ⟨hBF,he⟩=>⟨hBF,_,he,fun M7 hK7=>⟨by rw [Up];simp only [ah,WB,VV,VX,VW],?_⟩⟩;change af EA M7 wF' cs0 _ _ _ (O3 x p y m s i u v z);have sF:=sE.trans (Hp.fj (w:=wF) (w':=wF') hsubF);refine af.gD (K.dy hK7.base) hK7 (n:=60) (g:=10) (o:=oG) (args:=[.v (.pointer none)]) (by rw [Sq];simp only [ah,WB,VV,VX,VW]) (by kernel_rfl) fun ν7 wG a hle7 hsubG hgr7 ha=>?_;obtain ⟨y1,as0,rfl,e0,ZH⟩:=ha.cons_inv;obtain rfl:=ZH.ay;obtain rfl:=VR.ae.1 e0;refine (cZ wG (sF.trans hsubG)).mono fun e wG' ⟨hBG,he⟩=>⟨hBG,_,he,fun M8 hK8=>⟨by rw [Vs];simp only [ah,WB,VV,VX,VW],?_⟩⟩;change af EA M8 wG' cs0 _ _ _ (QJ x p y m s i u v z);refine af.ao (K.dy hK8.base) (n:=300) (o:=oG) (v:=.bool true) ?_ fun ν' M9 w9 s' w' _ hB hr=>⟨rfl,aB hM (hK8.base.trans hB) hr⟩;rw [UY]
 simp only [ah,WB,VV,VX,VW]
theorem u8_in {n:Nat} (h:n<256):IntKind.u8.wrap (n:Int)=(n:Int):=by rw [IntKind.wrap_u8];omega
theorem u64_in {n:Nat} (h:n<18446744073709551616):IntKind.u64.wrap (n:Int)=(n:Int):=by rw [IntKind.wrap_u64];omega
section
variable {cs0:List Frame} {R:Ending->World->Prop} {ν:aP} {M1:Own} {w1:World} {x:eS} {p:lF} {y:mA} {m:Option Nat}
theorem Kz (K:aK EA M1 w1) (hν:∀ i b,ν i≠some b) {k:Nat} (hk:x.k=(k:Int)) (hk8:k<256) (nx:af EA M1 w1 cs0 3 R ν (MY x p y m (k:Int) (k:Int))):∀ (j i:Nat),i+j=k->
  af EA M1 w1 cs0 3 R ν (SM.at (MP x p (i:Int)) 12 (MQ y m (i:Int)))
 | 0,i,hj=>by
  have e:i=k:=by omega
  subst e;exact nx
 | j+1,i,hj=>by
  have ih:=Kz K hν hk hk8 nx j (i+1) (by omega)
  have t1:decide ((i:Int)<x.7)=true:=V0 (by rw [show x.7=(k:Int) from hk];omega)
  have t2:decide ((i:Int)≥1099511627776)=false:=V2 (by omega)
  have e1:IntKind.u64.wrap ((i:Int)+1)=((i+1:Nat):Int):=u64_in (n:=i+1) (by omega)
  have e2:IntKind.u8.wrap ((i:Int)+1)=((i+1:Nat):Int):=u8_in (n:=i+1) (by omega)
  refine af.reach K (k:=2) (n:=200) (o:=ff [0] true++ff (List.range 20) false++VP) (ren:=[(0,0),(1,1)]) (eqs:=[]) ?_ (by kernel_rfl) (fun i b h=>absurd h (hν i b)) ih
  rw [UR]
  simp only [ah,t1,t2,e1,e2,VV,VX,VW]
theorem Mt (K:aK EA M1 w1) (hν:∀ i b,ν i≠some b) {k:Nat} (hk:x.k=(k:Int)) (hk8:k<256) (nx:af EA M1 w1 cs0 3 R ν (MY x p y m (k:Int) (k:Int))):
  af EA M1 w1 cs0 3 R ν (Ng x p y m):=by
 refine af.reach K (k:=2) (n:=200) (o:=oL) (ren:=[(0,0),(1,1)]) (eqs:=[]) ?_ (by kernel_rfl) (fun i b h=>absurd h (hν i b)) (Kz K hν hk hk8 nx k 0 (by omega));show ah (reach EA 2 200 (Ng x p y m) oL [(0,0),(1,1)] [] (MP x p 0) 12 (MQ y m 0));rw [Tf];simp only [ah,VV,VX,VW]
end
open Go Go.Rx Go.RowKit Go.Proofs
theorem F5 {D xs:List ax} {ys:Option Addr->Nat->List Int} (YJ:∀ e∈xs,e∈D) (hr:∀ x∈D,∀ z∈ys x.a x.l,0<=z/\z<256) (p:ByteArray):∀ z∈(pF (yI ys) xs p).2,0<=z/\z<256:=by
 unfold pF;cases hq:xs.find? (pI p) with
 | none=>intro z hz;cases hz
 | some e=>exact hr e (YJ e (WV hq))
theorem Br {D:List ax} {ys:Option Addr->Nat->List Int} {w0:World} (hX:uD D ys w0) (hI:yr D) (Ze:∀ x∈D,x.l<=x.c\/x.l=0) (hr:∀ x∈D,∀ z∈ys x.a x.l,0<=z/\z<256) {e:Ending} {w':World} (h:vg D ys w0 e w'):
  Below w0.heap.size w0 w'/\∃ b v u,e=.returned (.tuple #[fy b,v,.bool true])/\∀ w2:World,uD D ys w2->words.fG w2->crc.lN w2->Ke w0.heap.size w' w2->lS 10 #[fy b] u w2/\lS 11 #[v] u w2:=by
 obtain ⟨hB,b,v,he,hb,E,cl,xs,inv,data,YJ,ht,hv⟩:=h;refine ⟨hB,b,v,words.cx (xs.flatMap (tt.lineX ys)),he,fun w2 hX2 hP hN hn=>⟨?_,?_⟩⟩
 ·have d2:∀ e∈E,∃ zs,dF w'.hp e.1 zs/\dF w2.hp e.1 zs/\vw w0 e.1:=fun e he=>by
   obtain ⟨zs,hz,Z2⟩:=data e he;refine ⟨zs,hz,?_,Z2⟩;rcases hz with h | ⟨b3,r3,h1,h2,h3⟩
   ·exact .inl h
   ·exact .inr ⟨b3,r3,h1,hn _ _ (Z2 _ h1) h2,h3⟩
  have hT:jY w2 b (pF (yI ys) xs) E:=by
   refine II hX (inv.cont (cm':=k7 w2.hp) fun e he=>?_) (w0:=w0) (fun e he=>?_) YJ ?_
   ·obtain ⟨zs,h1,h2,_⟩:=d2 e he;rw [h1.cont,h2.cont]
   ·obtain ⟨zs,_,h2,h3⟩:=d2 e he;exact ⟨zs,h2,h3⟩
   ·rcases ht with ⟨h0,h1⟩ | ⟨m,hm,h1⟩
    ·exact .inl ⟨h0,hn _ _ hb h1⟩
    ·exact .inr ⟨m,hm,⟨hn _ _ hb h1.row,hn _ _ hm h1.map⟩⟩
  have:=tt.zG hX2.1 hP hN hT (F5 YJ hr);rw [HU inv fun x hx=>(hX.2 x (YJ x hx)).1] at this;exact this
 ·have hD:crc.XD D ys w2:=⟨fun x hx=>⟨hX2.2 x hx,hI.nil x hx⟩,Ze,hr⟩;refine tr.y6 ?_ hD YJ (by have:=inv.Y2;omega) fun x hx=>hI.size x (YJ x hx);rcases hv with h1 | ⟨h0,g,c,rest,h1,h2,h3,h4,h5⟩
  ·exact .inl h1
  ·exact .inr ⟨h0,{ w2 with heap:=#[] },g,c,rest,h1,WX _,h3,hn _ _ h2 h4,h5⟩
def Hl (n b:Nat) (w w2:World):Prop:=∀ k o,n<=k->k≠b->w.heap[k]?=some o->w2.heap[k]?=some o
def He (s:Int) (xs:List ak):ByteArray:=words.cx (tk.headB s.toNat xs.length++xs.flatMap tk.lineX)
theorem yS {w:World} {b k:Nat} {cs Φ:Array Value} {e e':TypeId} {f f':Nat × Nat} (h1:w.heap[b]?=some (.cells cs e f)) (h2:w.heap[k]?=some (.cells Φ e' f')) (h:e≠e'):k≠b:=fun hk=>by
 subst hk
 rw [h1] at h2
 injection h2 with h2
 injection h2 with _ h3 _
 exact h h3
theorem Bj {D:List ak} {ys:ak->List Int} {w0:World} (hX:PX D ys w0) (hI:Hs D) {e:Ending} {w':World} (h:CG D ys w0 e w'):
  Below w0.heap.size w0 w'/\∃ b y m xs,e=.returned (.tuple #[.pointer (some ⟨b,0,none⟩),.agg #[.int .u64 0,.slice (mA.a y) (mA.n y) (mA.c y)],.bool true])/\w0.heap.size<=b/\w'.heap[b]?=some (.cells #[.int .u64 0,.map m] 66 (0,0))/\
   ∀ (w2:World) (s:Int),PX D ys w2->words.fG w2->(0<=s/\s<18446744073709551616)->Hl w0.heap.size b w' w2->
    (∀ b',w2.heap[b']?=some (.cells #[.int .u64 s,.map m] 66 (0,0))->lS 12 #[.pointer (some ⟨b',0,none⟩)] (He s xs) w2)/\lS 13 #[.agg #[.int .u64 s,.slice y.a y.n y.c]] (He s xs) w2:=by
 obtain ⟨hB,b,v,he,hb,h⟩:=h;refine ⟨hB,?_⟩;rcases h with ⟨hr,rfl⟩ | ⟨m,E,cl,xs,y,hm,hA,rfl,hs,hIv,hby,YJ,YI⟩
 ·refine ⟨b,⟨none,0,0⟩,none,[],he,hb,hr,fun w2 s hX2 hP hs hn=>⟨fun b' YM=>?_,?_⟩⟩
  ·have:=tk.Ea hP YM hs (fun _=>(0,0,[]));unfold tk.bookL at this;exact this
  ·exact br.l9 (.inl ⟨rfl,rfl⟩) (WX _) hs (fun x hx=>(nomatch hx)) (fun x hx=>(nomatch hx)) fun x hx=>(nomatch hx)
 ·obtain ⟨g,k,rest,hy,hg,hnk,hh,Zb⟩:=hs;subst hy;refine ⟨b,⟨some ⟨g,0,none⟩,xs.length,k⟩,some m,xs,he,hb,hA.row,fun w2 s hX2 hP hs hn=>?_⟩
  have hmb:m≠b:=fun q=>by
   have h1:=hA.map;rw [q,hA.row] at h1;cases h1
  have hfine:∀ x∈xs,tk.Fine x.v x.k:=fun x hx=>Ir (YJ x hx).2 (hI.v x (YJ x hx).1).1 (hI.v x (YJ x hx).1).2;have Y2:=hIv.Y2;have hlen:=hIv.len;refine ⟨fun b' YM=>?_,?_⟩
  ·have hm2:=hn _ _ hm hmb hA.map
   have hne2:b'≠m:=fun q=>by
    rw [q,hm2] at YM;cases YM
   have hd:∀ e∈E,ui w2 e.1.a e.1.l (iO w'.hp e.1):=fun e he=>by
    obtain ⟨zs,hz,Z2⟩:=hby e he;rw [hz.cont]
    have hz2:eh w2.hp e.1 zs:=by
     rcases hz with h | ⟨b3,r3,h1,h2,h3⟩
     ·exact .inl h
     ·refine .inr ⟨b3,r3,h1,hn _ _ (Z2 _ h1) ?_ h2,h3⟩;exact yS hA.row h2 (by decide)
    refine hz2.E3 ?_;obtain ⟨x,hx,hk⟩:=Wc.1 (hIv.ZP.mem_iff.1 (Wc.2 ⟨e,he,rfl⟩));have h1:ys x=iO w'.hp e.1:=(Prod.mk.inj (Prod.mk.inj (Prod.mk.inj hk).2).2).2;rw [hz.cont] at h1;have h2:=hX.2 x (YJ x hx).1;rw [<- h1,h2.1];exact h2.2.1
   have hg:∀ e∈E,tk.Fine e.1.v e.1.k:=fun e he=>by
    obtain ⟨x,hx,hk⟩:=Wc.1 (hIv.ZP.mem_iff.1 (Wc.2 ⟨e,he,rfl⟩));have h2:=(Prod.mk.inj hk).2;have h3:=(Prod.mk.inj h2).1;have h4:=(Prod.mk.inj (Prod.mk.inj h2).2).1;have:=hfine x hx;rw [h3,h4] at this;exact this
   have:=tk.zj (cm:=iO w'.hp) hX2.1 hP ⟨YM,hm2⟩ hne2 hIv.ok hd (by omega) hs hg;rw [Ga hIv s fun x hx=>(hX.2 x (YJ x hx).1).1] at this;exact this
  ·refine br.l9 (.inr ⟨YI,{ w2 with heap:=#[] },g,k,rest,rfl,WX _,hnk,hn _ _ hg (yS hA.row hh (by decide)) hh,Zb⟩) (by omega) hs (fun x hx=>hI.size x (YJ x hx).1) (fun x hx=>(hX.2 x (YJ x hx).1).2.1) hfine
theorem rA {w w1 w2:World} {H:Hp} (hk:(H.grow w w1).Sub w2.hp):Ke w.heap.size w1 w2:=fun k o hk1 ho=>hk k o (by unfold Hp.grow;rw [if_neg (by omega)];exact ho)
theorem yk {w w1 w2:World} {H:Hp} {b:Nat} (hk:(H.dG w w1 b).Sub w2.hp):Hl w.heap.size b w1 w2:=fun k o hk1 hkb ho=>hk k o (by unfold Hp.dG;rw [if_neg hkb];unfold Hp.grow;rw [if_neg (by omega)];exact ho)
theorem mh {H:Hp} {w w':World} {b:Nat} (hs:H.Sub w.hp) (hb:w.heap.size<=b):H.Sub (H.dG w w' b):=fun k o hk=>by
 have h1:=hs k o hk
 have h2:k<w.heap.size:=(VY.1 h1).1
 unfold Hp.dG
 rw [if_neg (by omega)]
 exact Hp.fj hs k o hk
theorem JB {W:World} {cs0:List Frame} {x:eS} (K:aK EA (jh []) W) (hm:MX W) (hP:words.fG W) (hN:crc.lN W) (e1:∃ D:List ax,qu W x.a0 x.l0 x.c0 D/\(∀ y∈D,xg W y)/\x.l0<=9223372036854775807) (e2:∃ D:List ak,lB W x.a1 x.l1 x.c1 D/\(∀ y∈D,qz W y)/\x.l1<=9223372036854775807) (hx:0<=x.k/\x.k<256):
  af EA (jh []) W cs0 3 (fun e w'=>e=.returned (.bool true)/\Below W.heap.size W w') (gv []) (Hc x):=by
 obtain ⟨D1,hE1,hD1,hl1⟩:=e1;obtain ⟨D2,hE2,hD2,hl2⟩:=e2;obtain ⟨k,hk⟩:=XL hx.1;have hk8:k<256:=by omega
 have hM:∀ z,¬ (jh []) z:=fun z h=>h;have Z6:=Kept.start (H0:=W.hp) (M:=jh []) (w:=W) (Hp.Sub.refl _) (fun z o _ h=>h) (yq (l:=[]) fun r hr=>(nomatch hr)) (fun _ h=>h);have old:∀ {H:Hp} {w:World},W.hp.Sub H->H.Sub w.hp->∀ k,k<W.heap.size->w.heap[k]?=W.heap[k]?:=fun {H w} h0 hs=>iQ (Hp.Sub.refl _) (h0.trans hs);refine af.gD K Z6 (n:=60) (g:=4) (o:=oL) (args:=[.v (.slice x.a0 x.l0 x.c0)]) (by rw [Rj];trivial) (by kernel_rfl) fun ν1 wA a hle hsA hgr ha=>?_;obtain ⟨y1,ZY,rfl,u1,YV⟩:=ha.cons_inv;obtain rfl:=YV.ay;obtain rfl:=VR.ae.1 u1;refine (xh (hE1.keep (old Z6.Zf hsA)) hl1).mono fun e wA' ⟨hBA,he⟩=>⟨hBA,_,he,fun M1 hK1=>⟨by rw [TQ];trivial,?_⟩⟩;change af EA M1 wA' cs0 _ _ _ (N2 x (gz D1));cases ZG:gz D1
 ·refine af.ao (K.dy hK1.base) (n:=300) (o:=oL) (v:=.bool true) ?_ fun ν' M9 w9 s' w' _ hB hr=>⟨rfl,aB hM (hK1.base.trans hB) hr⟩;rw [Vq];simp only [ah,VV,VX,VW]
 refine af.gD (K.dy hK1.base) hK1 (n:=60) (g:=5) (o:=oL) (args:=[.v (.slice x.a1 x.l1 x.c1)]) (by rw [RN];trivial) (by kernel_rfl) fun ν1 wB a hle hsB hgr ha=>?_;obtain ⟨y1,ZY,rfl,u1,YV⟩:=ha.cons_inv;obtain rfl:=YV.ay;obtain rfl:=VR.ae.1 u1;refine (yM (hE2.keep (old hK1.Zf hsB)) hl2).mono fun e wB' ⟨hBB,he⟩=>⟨hBB,_,he,fun M2 ZE=>⟨by rw [T7];trivial,?_⟩⟩;change af EA M2 wB' cs0 _ _ _ (MS x (h9 D2));cases Za:h9 D2
 ·refine af.ao (K.dy ZE.base) (n:=300) (o:=oL) (v:=.bool true) ?_ fun ν' M9 w9 s' w' _ hB hr=>⟨rfl,aB hM (ZE.base.trans hB) hr⟩;rw [Si];simp only [ah,VV,VX,VW]
 obtain ⟨hI1,hX1⟩:=GZ hm hD1 ZG;obtain ⟨hI2,ys2,hX2,hr2⟩:=DM hm hD2 Za;have Ze:∀ q∈D1,q.l<=q.c\/q.l=0:=fun q hq=>(hD1 q hq).cap;have ZS:∀ q∈D1,∀ z∈LH W q.a q.l,0<=z/\z<256:=fun q hq=>JI (hD1 q hq);refine af.gD (K.dy ZE.base) ZE (n:=60) (g:=7) (o:=oL) (args:=[.v (.slice x.a0 x.l0 x.c0)]) (by rw [S2];trivial) (by kernel_rfl) fun ν1 wD a hle hsD hgr ha=>?_;obtain ⟨y1,ZY,rfl,u1,YV⟩:=ha.cons_inv;obtain rfl:=YV.ay;obtain rfl:=VR.ae.1 u1;have kD:=old ZE.Zf hsD;refine (Ep (hE1.keep kD) (hX1.keep kD) hI1).mono fun e wD' h=>?_;obtain ⟨hBD,b1,v1,u,he,T1⟩:=Br (hX1.keep kD) hI1 Ze ZS h
 refine ⟨hBD,_,he,fun M4 hK4=>⟨by
  show ah (dT EA 7 60 (MS x true) oL (.v (Li (lF.mk b1 v1).b (lF.mk b1 v1).v)));rw [UC];trivial,?_⟩⟩
 change af EA M4 wD' cs0 _ _ _ (OS x ⟨b1,v1⟩);refine af.CY (K.dy hK4.base) hK4 (n:=60) (g:=8) (o:=oL) (args:=[.v (.slice x.a1 x.l1 x.c1)]) (by rw [Sa];trivial) (by kernel_rfl) fun ν1 wE a hle hsE hgr ha=>?_;obtain ⟨y1,ZY,rfl,u1,YV⟩:=ha.cons_inv;obtain rfl:=YV.ay;obtain rfl:=VR.ae.1 u1;have kE:=old hK4.Zf hsE;refine (Fj (hE2.keep kE) (hX2.keep kE) hI2).mono fun e wE' h=>?_;obtain ⟨hBE,b2,y,m,xs,he,hlo,hrow,T2⟩:=Bj (hX2.keep kE) hI2 h;refine ⟨hBE,_,Qd y,Px m,b2,0,_,he,hlo,hrow,fun ν2 j hj=>⟨⟨[.int .u64 0,.map m],[],rfl,au.cons (VR.ae.2 rfl) (au.cons (VR.ae.2 rfl) au.nil),rfl⟩,VR.cz.2 ⟨_,rfl,au.cons (VR.aF.2 ⟨(b2,0),hj,rfl⟩) (au.cons (VR.bx.2 ⟨_,rfl,au.cons (VR.ae.2 rfl) (au.cons (VR.ae.2 rfl) au.nil)⟩) (au.cons (VR.ae.2 rfl) au.nil))⟩⟩,by rw [R4];trivial,fun M5 hK5=>?_⟩;change af EA M5 wE' cs0 _ _ _ (Ng x ⟨b1,v1⟩ y m);have s45:=mh (w':=wE') hsE hlo
 have hw:IntKind.u64.wrap x.k=(k:Int):=by rw [hk];exact u64_in (by omega)
 refine Mt (K.dy hK5.base) (fun i b h=>by simp [gv] at h) hk hk8 (I7 K hM (z:=He 0 []) hK5 (by rw [hk];omega)
  (fun w hs=>(T1 w (hX1.keep (old hK5.Zf hs)) (tt.gV hP (old hK5.Zf hs)) (hN.keep (old hK5.Zf hs)) (rA (s45.trans hs))).1)
  (fun w hs=>(T1 w (hX1.keep (old hK5.Zf hs)) (tt.gV hP (old hK5.Zf hs)) (hN.keep (old hK5.Zf hs)) (rA (s45.trans hs))).2)
  (fun w b hs hb=>(T2 w k (hX2.keep (old hK5.Zf hs)) (tt.gV hP (old hK5.Zf hs)) ⟨by omega,by omega⟩ (yk hs)).1 b hb)
  (fun w hs=>by rw [hw];exact (T2 w k (hX2.keep (old hK5.Zf hs)) (tt.gV hP (old hK5.Zf hs)) ⟨by omega,by omega⟩ (yk hs)).2)
  (fun w hs=>tk.AH (tt.gV hP (old hK5.Zf hs)) (fun _=>(0,0,[])))
  (fun w hs=>br.l9 (.inl ⟨rfl,rfl⟩) (WX _) ⟨by omega,by omega⟩ (fun x hx=>(nomatch hx)) (fun x hx=>(nomatch hx)) fun x hx=>(nomatch hx))
  (fun w hs=>tt.Au))
end ly
end paths
end Go.Proofs.YtbjmmnegkpeboaaGreatDoor
namespace Go.Proofs.YtbjmmnegkpeboaaGreatDoor.taleLists
open Go Go.Rx Go.RowKit
def n0:SV:=.v (.tuple #[])
def Fm:SM:={ top:={ fn:=6,tm:=(fh 8 4 [n0,n0,n0,n0,n0,n0,n0,n0]),todo:=[.code (MJ Tryz.prog 6 [])],defers:=[],ret:=false,kind:=.normal,«ro»:=none },callers:=[],mem:=(bG 12 1 0 [some (.look [.v (.int .u32 0),.v (.int .u32 274646895),.v (.int .u32 549293790),.v (.int .u32 820201905),.v (.int .u32 1098587580),.v (.int .u32 1361435347),.v (.int .u32 1640403810),.v (.int .u32 1905808397),.v (.int .u32 2197175160),.v (.int .u32 2460548119),.v (.int .u32 2722870694),.v (.int .u32 2987750089),.v (.int .u32 3280807620),.v (.int .u32 3553878443),.v (.int .u32 3811616794),.v (.int .u32 4084100981)],false)]) }
theorem g0:a6 (E [] [(0,0)]) 6 [] (jS 12 [(0,cn.map fun n=>.v (.int .u32 n))])=some Fm:=by kernel_rfl
def w1:List SM:=[]
theorem g1:oR (E [] [(0,0)]) 6 3000 [Fm]=some w1:=by kernel_rfl
def w2:List SM:=[]
theorem g2:oR (E [] [(0,0)]) 6 3000 w1=some w2:=by kernel_rfl
def w3:List SM:=[]
theorem g3:oR (E [] [(0,0)]) 6 20 w2=some w3:=by kernel_rfl
theorem BG {E:Env} {w:World} {l:List (Nat × List SV)} (K:aK E (jh l) w) {f:FuncId} {S0:SM} {d n:Nat} (hG:E.G=(l.map (·.1)).zipIdx) (hd:l.length<=2 ^ d) (hn:(l.map (·.1)).Nodup) (ht:∀ r∈l,Rx.Told w r)
  (h0:a6 E f [] (jS d l)=some S0) (h:oR E f n [S0]=some []):Calls E.P f #[] w fun e w'=>e=.returned (.bool true)/\Below w.heap.size w w':=
 BQ (a:=[]) K hG hd hn ht (q9 (f:=f) h0 h)
theorem Bu (w:World) (told:∀ r∈([(0,cn.map fun n=>.v (.int .u32 n))]:List (Nat × List SV)),Rx.Told w r):Calls Tryz.prog 6 #[] w fun e w'=>e=.returned (.bool true)/\Below w.heap.size w w':=
 BG (d:=12) (l:=[(0,cn.map fun n=>.v (.int .u32 n))]) (facts [] [(0,0)]) rfl (by decide) (by decide) told g0 (ky g1 (ky g2 g3))
end Go.Proofs.YtbjmmnegkpeboaaGreatDoor.taleLists
