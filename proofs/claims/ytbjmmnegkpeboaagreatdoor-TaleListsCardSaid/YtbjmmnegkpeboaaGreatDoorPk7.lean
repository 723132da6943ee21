/- What the law TaleLists leans on, part 7: the symbolic executor, proved sound, contracts of functions, plain lemmas. By an AI agent. -/
import Derived.Test.YtbjmmnegkpeboaaGreatDoorPk6
set_option linter.unusedSimpArgs false
set_option linter.unusedVariables false
set_option maxHeartbeats 0
set_option maxRecDepth 100000
noncomputable section
namespace Go.Proofs.YtbjmmnegkpeboaaGreatDoor
open Go Go.Rx Go.RowKit Go.Proofs
namespace paths
namespace ly
def lN (f:FuncId)(a:Array Value)(u:ByteArray)(w:World):Prop:=Calls Tryz.prog f a w fun e w'=>Below w.heap.size w w'/\e=.returned (.string u)
theorem IT {M:Own}{W:World}{cs0:List Frame}{ν:aP}(K:aK EA M W)(hM:∀ z,¬ M z){x:eT}{p:lM}{y:mG}{m:Option Nat}{s i:Int}{u v z:ByteArray}{H:Hp}{M1:Own}{w1:World}(hk:Kept W.hp M W H M1 w1)(hi:¬ i<x.k)
  (cT:∀ w:World,H.Sub w.hp->lN 10 #[fA p.b] u w) (cW:∀ w:World,H.Sub w.hp->lN 11 #[p.v] u w)
  (cB:∀ (w:World) (b:Nat),H.Sub w.hp->w.heap[b]?=some (.cells #[.int .u64 s,.map m] 66 (0,0))->lN 12 #[.pointer (some ⟨b,0,none⟩)] v w)
  (cR:∀ w:World,H.Sub w.hp->lN 13 #[.agg #[.int .u64 (IntKind.u64.wrap x.k),.slice y.a y.n y.c]] v w)
  (cN:∀ w:World,H.Sub w.hp->lN 12 #[.pointer none] z w) (cE:∀ w:World,H.Sub w.hp->lN 13 #[.agg #[.int .u64 0,.slice none 0 0]] z w) (cZ:∀ w:World,H.Sub w.hp->lN 10 #[.pointer none] ⟨#[]⟩ w):
  af EA M1 w1 cs0 3 (fun e w'=>e=.returned (.bool true)/\Below W.heap.size W w') ν (MT x p y m s i):=by
 have hi0:decide (i<x.7)=false:=V2 hi;refine af.gI (K.dz hk.base) hk (n:=200) (g:=10) (o:=oZ) (args:=[.v (fA p.b)]) (by rw[Pa];simp only[ah,hi0,VV,VX,VW]) (by kernel_rfl) fun ν1 wA a hle Yv χ ha=>?_;obtain⟨y1,as0,rfl,e0,Zt⟩:=ha.cons_inv;obtain rfl:=Zt.ay;obtain rfl:=VR.ae.1 e0;refine (cT wA Yv).mono fun e wA' ⟨hBA,he⟩=>⟨hBA,_,he,fun M2 Zq=>⟨by rw[ld1];simp only[ah,hi0,VV,VX,VW],?_⟩⟩;change af EA M2 wA' cs0 _ _ _ (OY x p y m s i u);have sA:H.Sub (H.grow wA wA'):=Hp.fi Yv;refine af.gI (K.dz Zq.base) Zq (n:=60) (g:=11) (o:=oG) (args:=[.v p.v]) (by rw[QC];trivial) (by kernel_rfl) fun ν2 wB a ZR hsubB hgr2 ha=>?_;obtain⟨y1,as0,rfl,e0,Zt⟩:=ha.cons_inv;obtain rfl:=Zt.ay;obtain rfl:=VR.ae.1 e0;refine (cW wB (sA.trans hsubB)).mono fun e wB' ⟨hBB,he⟩=>⟨hBB,_,he,fun M3 hK3=>⟨by rw[Q7];trivial,?_⟩⟩;change af EA M3 wB' cs0 _ _ _ (O1 x p y m s i u)
 have sB:=sA.trans (Hp.fi (w:=wB) (w':=wB') hsubB);refine af.OL (K.dz hK3.base) hK3 (n:=60) (g:=12) (o:=oG) (args:=[.ptr 0 0]) (by rw[QI];simp only[ah,WA,VV,VX,VW]) (by kernel_rfl) fun ν3 wC a hle3 hsubC hgr3 ha Y5=>?_;obtain⟨y1,as0,rfl,e0,Zt⟩:=ha.cons_inv;obtain rfl:=Zt.ay;obtain⟨bb,YZ,rfl⟩:=VR.aF.1 e0;obtain⟨b,ob,hb,ho,YA⟩:=Y5 0 (.row [.v (.int .u64 s),.v (.map m)] 66 (0,0) none) true (by kernel_rfl);rw[YZ]at hb;cases hb
 have hrow:wC.heap[bb.1]?=some (.cells #[.int .u64 s,.map m] 66 (0,0)):=by
  rw[ho];obtain⟨zs,rest,rfl,hzs,hl⟩:=YA;obtain⟨z1,u1,rfl,r1,hu⟩:=hzs.cons_inv;obtain⟨z2,u2,rfl,r2,Ξ⟩:=hu.cons_inv;obtain rfl:=Ξ.ay;obtain rfl:=VR.ae.1 r1;obtain rfl:=VR.ae.1 r2
  have h0:rest=[]:=by
   have:([Value.int .u64 s,Value.map m]++rest).length=2:=hl;simpa using this
  subst h0;rfl
 refine (cB wC bb.1 (sB.trans hsubC) hrow).mono fun e wC' ⟨hBC,he⟩=>⟨hBC,_,he,fun M4 hK4=>⟨by rw[UP];simp only[ah,WA,eq_self,decide_true,VV,VX,VW],?_⟩⟩;change af EA M4 wC' cs0 _ _ _ (OO x p y m s i u v);have sC:=sB.trans (Hp.fi (w:=wC) (w':=wC') hsubC);refine af.gI (K.dz hK4.base) hK4 (n:=60) (g:=13) (o:=oG) (args:=[.agg [.v (.int .u64 (IntKind.u64.wrap x.k)),.v (.slice y.a y.n y.c)]]) (by rw[Pc];simp only[ah,WA,VV,VX,VW]) (by kernel_rfl) fun ν4 wD a hle4 hsubD hgr4 ha=>?_;obtain⟨y1,as0,rfl,e0,Zt⟩:=ha.cons_inv;obtain rfl:=Zt.ay;obtain⟨zs,rfl,hz⟩:=VR.bx.1 e0;obtain⟨z1,u1,rfl,r1,hu⟩:=hz.cons_inv;obtain⟨z2,u2,rfl,r2,Ξ⟩:=hu.cons_inv;obtain rfl:=Ξ.ay;obtain rfl:=VR.ae.1 r1;obtain rfl:=VR.ae.1 r2;refine (cR wD (sC.trans hsubD)).mono fun e wD' ⟨hBD,he⟩=>⟨hBD,_,he,fun M5 hK5=>⟨by rw[Th];simp only[ah,WA,VV,VX,VW],?_⟩⟩;change af EA M5 wD' cs0 _ _ _ (O3 x p y m s i u v)
 have sD:=sC.trans (Hp.fi (w:=wD) (w':=wD') hsubD);refine af.gI (K.dz hK5.base) hK5 (n:=60) (g:=12) (o:=oG) (args:=[.v (.pointer none)]) (by rw[O5];simp only[ah,WA,VV,VX,VW]) (by kernel_rfl) fun ν5 wE a hle5 hsubE hgr5 ha=>?_;obtain⟨y1,as0,rfl,e0,Zt⟩:=ha.cons_inv;obtain rfl:=Zt.ay;obtain rfl:=VR.ae.1 e0;refine (cN wE (sD.trans hsubE)).mono fun e wE' ⟨hBE,he⟩=>⟨hBE,_,he,fun M6 hK6=>⟨by rw[Sw];simp only[ah,WA,VV,VX,VW],?_⟩⟩;change af EA M6 wE' cs0 _ _ _ (ON x p y m s i u v z);have sE:=sD.trans (Hp.fi (w:=wE) (w':=wE') hsubE);refine af.gI (K.dz hK6.base) hK6 (n:=60) (g:=13) (o:=oG) (args:=[.agg [.v (.int .u64 0),.v (.slice none 0 0)]]) (by rw[P1];simp only[ah,WA,VV,VX,VW]) (by kernel_rfl) fun ν6 wF a hle6 hsubF hgr6 ha=>?_;obtain⟨y1,as0,rfl,e0,Zt⟩:=ha.cons_inv;obtain rfl:=Zt.ay;obtain⟨zs,rfl,hz⟩:=VR.bx.1 e0;obtain⟨z1,u1,rfl,r1,hu⟩:=hz.cons_inv;obtain⟨z2,u2,rfl,r2,Ξ⟩:=hu.cons_inv
 obtain rfl:=Ξ.ay;obtain rfl:=VR.ae.1 r1;obtain rfl:=VR.ae.1 r2;refine (cE wF (sE.trans hsubF)).mono fun e wF' ⟨hBF,he⟩=>⟨hBF,_,he,fun M7 hK7=>⟨by rw[Tp];simp only[ah,WA,VV,VX,VW],?_⟩⟩;change af EA M7 wF' cs0 _ _ _ (OQ x p y m s i u v z);have sF:=sE.trans (Hp.fi (w:=wF) (w':=wF') hsubF);refine af.gI (K.dz hK7.base) hK7 (n:=60) (g:=10) (o:=oG) (args:=[.v (.pointer none)]) (by rw[Re];simp only[ah,WA,VV,VX,VW]) (by kernel_rfl) fun ν7 wG a hle7 hsubG hgr7 ha=>?_;obtain⟨y1,as0,rfl,e0,Zt⟩:=ha.cons_inv;obtain rfl:=Zt.ay;obtain rfl:=VR.ae.1 e0;refine (cZ wG (sF.trans hsubG)).mono fun e wG' ⟨hBG,he⟩=>⟨hBG,_,he,fun M8 hK8=>⟨by rw[UK];simp only[ah,WA,VV,VX,VW],?_⟩⟩;change af EA M8 wG' cs0 _ _ _ (QP x p y m s i u v z);refine af.ao (K.dz hK8.base) (n:=300) (o:=oG) (v:=.bool true) ?_ fun ν' M9 w9 s' w' _ hB hr=>⟨rfl,aB hM (hK8.base.trans hB) hr⟩;rw[R4];simp only[ah,WA,VV,VX,VW]
theorem u8_in {n:Nat}(h:n<256):IntKind.u8.wrap (n:Int)=(n:Int):=by rw[IntKind.wrap_u8];omega
theorem u64_in {n:Nat}(h:n<18446744073709551616):IntKind.u64.wrap (n:Int)=(n:Int):=by rw[IntKind.wrap_u64];omega
section
variable {cs0:List Frame}{R:Ending->World->Prop}{ν:aP}{M1:Own}{w1:World}{x:eT}{p:lM}{y:mG}{m:Option Nat}
theorem Ko (K:aK EA M1 w1)(hν:∀ i b,ν i≠some b){k:Nat}(hk:x.k=(k:Int))(hk8:k<256)(nx:af EA M1 w1 cs0 3 R ν (MT x p y m (k:Int) (k:Int))):∀ (j i:Nat),i+j=k->
  af EA M1 w1 cs0 3 R ν (SM.at (MW x p (i:Int)) 12 (MQ y m (i:Int)))
 | 0,i,hj=>by
  have e:i=k:=by omega
  subst e;exact nx
 | j+1,i,hj=>by
  have ih:=Ko K hν hk hk8 nx j (i+1) (by omega)
  have t1:decide ((i:Int)<x.7)=true:=V0 (by rw[show x.7=(k:Int) from hk];omega)
  have t2:decide ((i:Int)≥1099511627776)=false:=V2 (by omega)
  have e1:IntKind.u64.wrap ((i:Int)+1)=((i+1:Nat):Int):=u64_in (n:=i+1) (by omega)
  have e2:IntKind.u8.wrap ((i:Int)+1)=((i+1:Nat):Int):=u8_in (n:=i+1) (by omega)
  refine af.reach K (k:=2) (n:=200) (o:=ff [0] true++ff (List.range 20) false++VP) (ren:=[(0,0),(1,1)]) (eqs:=[]) ?_ (by kernel_rfl) (fun i b h=>absurd h (hν i b)) ih
  rw[TF]
  simp only[ah,t1,t2,e1,e2,VV,VX,VW]
theorem LG (K:aK EA M1 w1)(hν:∀ i b,ν i≠some b){k:Nat}(hk:x.k=(k:Int))(hk8:k<256)(nx:af EA M1 w1 cs0 3 R ν (MT x p y m (k:Int) (k:Int))):
  af EA M1 w1 cs0 3 R ν (Oz x p y m):=by
 refine af.reach K (k:=2) (n:=200) (o:=oL) (ren:=[(0,0),(1,1)]) (eqs:=[]) ?_ (by kernel_rfl) (fun i b h=>absurd h (hν i b)) (Ko K hν hk hk8 nx k 0 (by omega));show ah (reach EA 2 200 (Oz x p y m) oL [(0,0),(1,1)] [] (MW x p 0) 12 (MQ y m 0));rw[Tv];simp only[ah,VV,VX,VW]
end
open Go Go.Rx Go.RowKit Go.Proofs
theorem He {D xs:List ax}{ys:Option Addr->Nat->List Int}(Yv:∀ e∈xs,e∈D)(hr:∀ x∈D,∀ z∈ys x.a x.l,0<=z/\z<256)(p:ByteArray):∀ z∈(oM (yI ys) xs p).2,0<=z/\z<256:=by
 unfold oM;cases hq:xs.find? (pH p) with
 | none=>intro z hz;cases hz
 | some e=>exact hr e (Yv e (WV hq))
theorem Bm {D:List ax}{ys:Option Addr->Nat->List Int}{w0:World}(hX:uP D ys w0)(hI:zw D)(Y0:∀ x∈D,x.l<=x.c\/x.l=0)(hr:∀ x∈D,∀ z∈ys x.a x.l,0<=z/\z<256){e:Ending}{w':World}(h:vX D ys w0 e w'):
  Below w0.heap.size w0 w'/\∃ b v u,e=.returned (.tuple #[fA b,v,.bool true])/\∀ w2:World,uP D ys w2->words.fG w2->crc.lJ w2->Kf w0.heap.size w' w2->lN 10 #[fA b] u w2/\lN 11 #[v] u w2:=by
 obtain⟨hB,b,v,he,hb,E,cl,xs,inv,data,Yv,ht,hv⟩:=h;refine⟨hB,b,v,words.cx (xs.flatMap (tt.lineX ys)),he,fun w2 hX2 hP hN hn=>⟨?_,?_⟩⟩
 ·have d2:∀ e∈E,∃ zs,dE w'.hp e.1 zs/\dE w2.hp e.1 zs/\u9 w0 e.1:=fun e he=>by
   obtain⟨zs,hz,ZO⟩:=data e he;refine⟨zs,hz,?_,ZO⟩;rcases hz with h|⟨b3,r3,h1,h2,h3⟩
   ·exact .inl h
   ·exact .inr ⟨b3,r3,h1,hn _ _ (ZO _ h1) h2,h3⟩
  have hT:jY w2 b (oM (yI ys) xs) E:=by
   refine Ja hX (inv.cont (cm':=lr w2.hp) fun e he=>?_) (w0:=w0) (fun e he=>?_) Yv ?_
   ·obtain⟨zs,h1,h2,_⟩:=d2 e he;rw[h1.cont,h2.cont]
   ·obtain⟨zs,_,h2,h3⟩:=d2 e he;exact⟨zs,h2,h3⟩
   ·rcases ht with ⟨h0,h1⟩|⟨m,hm,h1⟩
    ·exact .inl ⟨h0,hn _ _ hb h1⟩
    ·exact .inr ⟨m,hm,⟨hn _ _ hb h1.row,hn _ _ hm h1.map⟩⟩
  have:=tt.zV hX2.1 hP hN hT (He Yv hr);rw[Hv inv fun x hx=>(hX.2 x (Yv x hx)).1]at this;exact this
 ·have hD:crc.XD D ys w2:=⟨fun x hx=>⟨hX2.2 x hx,hI.nil x hx⟩,Y0,hr⟩;refine tr.zD ?_ hD Yv (by have:=inv.YO;omega) fun x hx=>hI.size x (Yv x hx);rcases hv with h1|⟨h0,g,c,rest,h1,h2,h3,h4,h5⟩
  ·exact .inl h1
  ·exact .inr ⟨h0,{ w2 with heap:=#[] },g,c,rest,h1,WW _,h3,hn _ _ h2 h4,h5⟩
def FY (n b:Nat)(w w2:World):Prop:=∀ k o,n<=k->k≠b->w.heap[k]?=some o->w2.heap[k]?=some o
def FR (s:Int)(xs:List ak):ByteArray:=words.cx (tk.headB s.toNat xs.length++xs.flatMap tk.lineX)
theorem yb {w:World}{b k:Nat}{cs κ:Array Value}{e e':TypeId}{f f':Nat × Nat}(h1:w.heap[b]?=some (.cells cs e f))(h2:w.heap[k]?=some (.cells κ e' f'))(h:e≠e'):k≠b:=fun hk=>by
 subst hk
 rw[h1]at h2
 injection h2 with h2
 injection h2 with _ h3 _
 exact h h3
theorem Aq {D:List ak}{ys:ak->List Int}{w0:World}(hX:PX D ys w0)(hI:Gs D){e:Ending}{w':World}(h:CL D ys w0 e w'):
  Below w0.heap.size w0 w'/\∃ b y m xs,e=.returned (.tuple #[.pointer (some ⟨b,0,none⟩),.agg #[.int .u64 0,.slice (mG.a y) (mG.n y) (mG.c y)],.bool true])/\w0.heap.size<=b/\w'.heap[b]?=some (.cells #[.int .u64 0,.map m] 66 (0,0))/\
   ∀ (w2:World) (s:Int),PX D ys w2->words.fG w2->(0<=s/\s<18446744073709551616)->FY w0.heap.size b w' w2->
    (∀ b',w2.heap[b']?=some (.cells #[.int .u64 s,.map m] 66 (0,0))->lN 12 #[.pointer (some ⟨b',0,none⟩)] (FR s xs) w2)/\lN 13 #[.agg #[.int .u64 s,.slice y.a y.n y.c]] (FR s xs) w2:=by
 obtain⟨hB,b,v,he,hb,h⟩:=h;refine⟨hB,?_⟩;rcases h with ⟨hr,rfl⟩|⟨m,E,cl,xs,y,hm,hA,rfl,hs,hIv,hby,Yv,Yu⟩
 ·refine⟨b,⟨none,0,0⟩,none,[],he,hb,hr,fun w2 s hX2 hP hs hn=>⟨fun b' Yy=>?_,?_⟩⟩
  ·have:=tk.DS hP Yy hs (fun _=>(0,0,[]));unfold tk.bookL at this;exact this
  ·exact br.l4 (.inl ⟨rfl,rfl⟩) (WW _) hs (fun x hx=>(nomatch hx)) (fun x hx=>(nomatch hx)) fun x hx=>(nomatch hx)
 ·obtain⟨g,k,rest,hy,hg,hnk,hh,YX⟩:=hs;subst hy;refine⟨b,⟨some ⟨g,0,none⟩,xs.length,k⟩,some m,xs,he,hb,hA.row,fun w2 s hX2 hP hs hn=>?_⟩
  have hmb:m≠b:=fun q=>by
   have h1:=hA.map;rw[q,hA.row]at h1;cases h1
  have hfine:∀ x∈xs,tk.Fine x.v x.k:=fun x hx=>JT (Yv x hx).2 (hI.v x (Yv x hx).1).1 (hI.v x (Yv x hx).1).2;have YO:=hIv.YO;have hlen:=hIv.len;refine⟨fun b' Yy=>?_,?_⟩
  ·have hm2:=hn _ _ hm hmb hA.map
   have hne2:b'≠m:=fun q=>by
    rw[q,hm2]at Yy;cases Yy
   have hd:∀ e∈E,uw w2 e.1.a e.1.l (iO w'.hp e.1):=fun e he=>by
    obtain⟨zs,hz,ZO⟩:=hby e he;rw[hz.cont]
    have hz2:er w2.hp e.1 zs:=by
     rcases hz with h|⟨b3,r3,h1,h2,h3⟩
     ·exact .inl h
     ·refine .inr ⟨b3,r3,h1,hn _ _ (ZO _ h1) ?_ h2,h3⟩;exact yb hA.row h2 (by decide)
    refine hz2.EZ ?_;obtain⟨x,hx,hk⟩:=Wb.1 (hIv.ZB.mem_iff.1 (Wb.2 ⟨e,he,rfl⟩));have h1:ys x=iO w'.hp e.1:=(Prod.mk.inj (Prod.mk.inj (Prod.mk.inj hk).2).2).2;rw[hz.cont]at h1;have h2:=hX.2 x (Yv x hx).1;rw[<- h1,h2.1];exact h2.2.1
   have hg:∀ e∈E,tk.Fine e.1.v e.1.k:=fun e he=>by
    obtain⟨x,hx,hk⟩:=Wb.1 (hIv.ZB.mem_iff.1 (Wb.2 ⟨e,he,rfl⟩));have h2:=(Prod.mk.inj hk).2;have h3:=(Prod.mk.inj h2).1;have h4:=(Prod.mk.inj (Prod.mk.inj h2).2).1;have:=hfine x hx;rw[h3,h4]at this;exact this
   have:=tk.zo (cm:=iO w'.hp) hX2.1 hP ⟨Yy,hm2⟩ hne2 hIv.ok hd (by omega) hs hg;rw[HO hIv s fun x hx=>(hX.2 x (Yv x hx).1).1]at this;exact this
  ·refine br.l4 (.inr ⟨Yu,{ w2 with heap:=#[] },g,k,rest,rfl,WW _,hnk,hn _ _ hg (yb hA.row hh (by decide)) hh,YX⟩) (by omega) hs (fun x hx=>hI.size x (Yv x hx).1) (fun x hx=>(hX.2 x (Yv x hx).1).2.1) hfine
theorem rO {w w1 w2:World}{H:Hp}(hk:(H.grow w w1).Sub w2.hp):Kf w.heap.size w1 w2:=fun k o hk1 ho=>hk k o (by unfold Hp.grow;rw[if_neg (by omega)];exact ho)
theorem zr {w w1 w2:World}{H:Hp}{b:Nat}(hk:(H.dH w w1 b).Sub w2.hp):FY w.heap.size b w1 w2:=fun k o hk1 hkb ho=>hk k o (by unfold Hp.dH;rw[if_neg hkb];unfold Hp.grow;rw[if_neg (by omega)];exact ho)
theorem lS {H:Hp}{w w':World}{b:Nat}(hs:H.Sub w.hp)(hb:w.heap.size<=b):H.Sub (H.dH w w' b):=fun k o hk=>by
 have h1:=hs k o hk
 have h2:k<w.heap.size:=(VY.1 h1).1
 unfold Hp.dH
 rw[if_neg (by omega)]
 exact Hp.fi hs k o hk
theorem Jh {W:World}{cs0:List Frame}{x:eT}(K:aK EA (jf []) W)(hm:MX W)(hP:words.fG W)(hN:crc.lJ W)(e1:∃ D:List ax,qY W x.a0 x.l0 x.c0 D/\(∀ y∈D,xb W y)/\x.l0<=9223372036854775807)(e2:∃ D:List ak,lB W x.a1 x.l1 x.c1 D/\(∀ y∈D,qK W y)/\x.l1<=9223372036854775807)(hx:0<=x.k/\x.k<256):
  af EA (jf []) W cs0 3 (fun e w'=>e=.returned (.bool true)/\Below W.heap.size W w') (gy []) (GV x):=by
 obtain⟨D1,hE1,hD1,hl1⟩:=e1;obtain⟨D2,hE2,hD2,hl2⟩:=e2;obtain⟨k,hk⟩:=XO hx.1;have hk8:k<256:=by omega
 have hM:∀ z,¬ (jf []) z:=fun z h=>h;have ZS:=Kept.start (H0:=W.hp) (M:=jf []) (w:=W) (Hp.Sub.refl _) (fun z o _ h=>h) (yB (l:=[]) fun r hr=>(nomatch hr)) (fun _ h=>h);have old:∀ {H:Hp} {w:World},W.hp.Sub H->H.Sub w.hp->∀ k,k<W.heap.size->w.heap[k]?=W.heap[k]?:=fun {H w} h0 hs=>iN (Hp.Sub.refl _) (h0.trans hs);refine af.gI K ZS (n:=60) (g:=4) (o:=oL) (args:=[.v (.slice x.a0 x.l0 x.c0)]) (by rw[Sd];trivial) (by kernel_rfl) fun ν1 wA a hle hsA χ ha=>?_;obtain⟨y1,ZK,rfl,u1,YH⟩:=ha.cons_inv;obtain rfl:=YH.ay;obtain rfl:=VR.ae.1 u1;refine (xi (hE1.keep (old ZS.Y1 hsA)) hl1).mono fun e wA' ⟨hBA,he⟩=>⟨hBA,_,he,fun M1 hK1=>⟨by rw[Ty];trivial,?_⟩⟩;change af EA M1 wA' cs0 _ _ _ (OI x (gB D1));cases Zs:gB D1
 ·refine af.ao (K.dz hK1.base) (n:=300) (o:=oL) (v:=.bool true) ?_ fun ν' M9 w9 s' w' _ hB hr=>⟨rfl,aB hM (hK1.base.trans hB) hr⟩;rw[Uh];simp only[ah,VV,VX,VW]
 refine af.gI (K.dz hK1.base) hK1 (n:=60) (g:=5) (o:=oL) (args:=[.v (.slice x.a1 x.l1 x.c1)]) (by rw[Rk];trivial) (by kernel_rfl) fun ν1 wB a hle hsB χ ha=>?_;obtain⟨y1,ZK,rfl,u1,YH⟩:=ha.cons_inv;obtain rfl:=YH.ay;obtain rfl:=VR.ae.1 u1;refine (zj (hE2.keep (old hK1.Y1 hsB)) hl2).mono fun e wB' ⟨hBB,he⟩=>⟨hBB,_,he,fun M2 Zq=>⟨by rw[RD];trivial,?_⟩⟩;change af EA M2 wB' cs0 _ _ _ (MZ x (iu D2));cases YW:iu D2
 ·refine af.ao (K.dz Zq.base) (n:=300) (o:=oL) (v:=.bool true) ?_ fun ν' M9 w9 s' w' _ hB hr=>⟨rfl,aB hM (Zq.base.trans hB) hr⟩;rw[TH];simp only[ah,VV,VX,VW]
 obtain⟨hI1,hX1⟩:=Hr hm hD1 Zs;obtain⟨hI2,ys2,hX2,hr2⟩:=Et hm hD2 YW;have Y0:∀ q∈D1,q.l<=q.c\/q.l=0:=fun q hq=>(hD1 q hq).cap;have ZE:∀ q∈D1,∀ z∈My W q.a q.l,0<=z/\z<256:=fun q hq=>Jf (hD1 q hq);refine af.gI (K.dz Zq.base) Zq (n:=60) (g:=7) (o:=oL) (args:=[.v (.slice x.a0 x.l0 x.c0)]) (by rw[Td];trivial) (by kernel_rfl) fun ν1 wD a hle hsD χ ha=>?_;obtain⟨y1,ZK,rfl,u1,YH⟩:=ha.cons_inv;obtain rfl:=YH.ay;obtain rfl:=VR.ae.1 u1;have kD:=old Zq.Y1 hsD;refine (D3 (hE1.keep kD) (hX1.keep kD) hI1).mono fun e wD' h=>?_;obtain⟨hBD,b1,v1,u,he,T1⟩:=Bm (hX1.keep kD) hI1 Y0 ZE h
 refine⟨hBD,_,he,fun M4 hK4=>⟨by
  show ah (dS EA 7 60 (MZ x true) oL (.v (Lb (lM.mk b1 v1).b (lM.mk b1 v1).v)));rw[RE];trivial,?_⟩⟩
 change af EA M4 wD' cs0 _ _ _ (OM x ⟨b1,v1⟩);refine af.CB (K.dz hK4.base) hK4 (n:=60) (g:=8) (o:=oL) (args:=[.v (.slice x.a1 x.l1 x.c1)]) (by rw[Sm];trivial) (by kernel_rfl) fun ν1 wE a hle hsE χ ha=>?_;obtain⟨y1,ZK,rfl,u1,YH⟩:=ha.cons_inv;obtain rfl:=YH.ay;obtain rfl:=VR.ae.1 u1;have kE:=old hK4.Y1 hsE;refine (G2 (hE2.keep kE) (hX2.keep kE) hI2).mono fun e wE' h=>?_;obtain⟨hBE,b2,y,m,xs,he,hlo,hrow,T2⟩:=Aq (hX2.keep kE) hI2 h;refine⟨hBE,_,Qw y,P9 m,b2,0,_,he,hlo,hrow,fun ν2 j hj=>⟨⟨[.int .u64 0,.map m],[],rfl,au.cons (VR.ae.2 rfl) (au.cons (VR.ae.2 rfl) au.nil),rfl⟩,VR.cz.2 ⟨_,rfl,au.cons (VR.aF.2 ⟨(b2,0),hj,rfl⟩) (au.cons (VR.bx.2 ⟨_,rfl,au.cons (VR.ae.2 rfl) (au.cons (VR.ae.2 rfl) au.nil)⟩) (au.cons (VR.ae.2 rfl) au.nil))⟩⟩,by rw[TA];trivial,fun M5 hK5=>?_⟩;change af EA M5 wE' cs0 _ _ _ (Oz x ⟨b1,v1⟩ y m);have s45:=lS (w':=wE') hsE hlo
 have hw:IntKind.u64.wrap x.k=(k:Int):=by rw[hk];exact u64_in (by omega)
 refine LG (K.dz hK5.base) (fun i b h=>by simp[gy]at h) hk hk8 (IT K hM (z:=FR 0 []) hK5 (by rw[hk];omega)
  (fun w hs=>(T1 w (hX1.keep (old hK5.Y1 hs)) (tt.gU hP (old hK5.Y1 hs)) (hN.keep (old hK5.Y1 hs)) (rO (s45.trans hs))).1)
  (fun w hs=>(T1 w (hX1.keep (old hK5.Y1 hs)) (tt.gU hP (old hK5.Y1 hs)) (hN.keep (old hK5.Y1 hs)) (rO (s45.trans hs))).2)
  (fun w b hs hb=>(T2 w k (hX2.keep (old hK5.Y1 hs)) (tt.gU hP (old hK5.Y1 hs)) ⟨by omega,by omega⟩ (zr hs)).1 b hb)
  (fun w hs=>by rw[hw];exact (T2 w k (hX2.keep (old hK5.Y1 hs)) (tt.gU hP (old hK5.Y1 hs)) ⟨by omega,by omega⟩ (zr hs)).2)
  (fun w hs=>tk.AE (tt.gU hP (old hK5.Y1 hs)) (fun _=>(0,0,[])))
  (fun w hs=>br.l4 (.inl ⟨rfl,rfl⟩) (WW _) ⟨by omega,by omega⟩ (fun x hx=>(nomatch hx)) (fun x hx=>(nomatch hx)) fun x hx=>(nomatch hx))
  (fun w hs=>tt.AJ))
end ly
end paths
end Go.Proofs.YtbjmmnegkpeboaaGreatDoor
namespace Go.Proofs.YtbjmmnegkpeboaaGreatDoor.taleLists
open Go Go.Rx Go.RowKit
def n0:SV:=.v (.tuple #[])
def GH:SM:={ top:={ fn:=6,tm:=(e9 8 4 [n0,n0,n0,n0,n0,n0,n0,n0]),todo:=[.code (LM Tryz.prog 6 [])],defers:=[],ret:=false,kind:=.normal,«ro»:=none },callers:=[],mem:=(bG 12 1 0 [some (.look [.v (.int .u32 0),.v (.int .u32 274646895),.v (.int .u32 549293790),.v (.int .u32 820201905),.v (.int .u32 1098587580),.v (.int .u32 1361435347),.v (.int .u32 1640403810),.v (.int .u32 1905808397),.v (.int .u32 2197175160),.v (.int .u32 2460548119),.v (.int .u32 2722870694),.v (.int .u32 2987750089),.v (.int .u32 3280807620),.v (.int .u32 3553878443),.v (.int .u32 3811616794),.v (.int .u32 4084100981)],false)]) }
theorem g0:a6 (E [] [(0,0)]) 6 [] (jS 12 [(0,cj.map fun n=>.v (.int .u32 n))])=some GH:=by kernel_rfl
def w1:List SM:=[]
theorem g1:pF (E [] [(0,0)]) 6 3000 [GH]=some w1:=by kernel_rfl
def w2:List SM:=[]
theorem g2:pF (E [] [(0,0)]) 6 3000 w1=some w2:=by kernel_rfl
def w3:List SM:=[]
theorem g3:pF (E [] [(0,0)]) 6 20 w2=some w3:=by kernel_rfl
theorem Av {E:Env}{w:World}{l:List (Nat × List SV)}(K:aK E (jf l) w){f:FuncId}{S0:SM}{d n:Nat}(hG:E.G=(l.map (·.1)).zipIdx)(hd:l.length<=2 ^ d)(hn:(l.map (·.1)).Nodup)(ht:∀ r∈l,Rx.Told w r)
  (h0:a6 E f [] (jS d l)=some S0) (h:pF E f n [S0]=some []):Calls E.P f #[] w fun e w'=>e=.returned (.bool true)/\Below w.heap.size w w':=
 A4 (a:=[]) K hG hd hn ht (rj (f:=f) h0 h)
theorem AH (w:World)(told:∀ r∈([(0,cj.map fun n=>.v (.int .u32 n))]:List (Nat × List SV)),Rx.Told w r):Calls Tryz.prog 6 #[] w fun e w'=>e=.returned (.bool true)/\Below w.heap.size w w':=
 Av (d:=12) (l:=[(0,cj.map fun n=>.v (.int .u32 n))]) (facts [] [(0,0)]) rfl (by decide) (by decide) told g0 (kT g1 (kT g2 g3))
end Go.Proofs.YtbjmmnegkpeboaaGreatDoor.taleLists
