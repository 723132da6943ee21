/- What the law TaleLists leans on, part 6: the symbolic executor, proved sound, contracts of functions, plain lemmas. By an AI agent. -/
import Derived.Test.YtbjmmnegkpeboaaGreatDoorPk5
import Derived.IntWalk
import Derived.Shelf.LaysM
import Derived.Shelf.Strings.OnBuilder
import Derived.Shelf.Strconv.Itoa3
import Derived.Shelf.Strconv.Itoa1
import Derived.Shelf.Strconv.Itoa2
import Derived.Lib.Walk
import Derived.Lib.ItoaMem
import Derived.WalkKit
import Derived.BigCall
import Derived.BigGuard
import Derived.Lib.ItoaLen
set_option linter.unusedSimpArgs false
set_option linter.unusedVariables false
set_option maxRecDepth 100000
set_option maxHeartbeats 0
noncomputable section
namespace Go.Proofs.YtbjmmnegkpeboaaGreatDoor
open Go Go.Rx Go.RowKit Go.Proofs
namespace paths
def HF (z:Int) (xs:List ax):Int:=xs.foldl (fun n e=>IntKind.i64.wrap (n+(e.l:Int))) z
def nW (e:ax):Bool:=!decide ((e.p.size:Int)>200)
def gz (xs:List ax):Bool:=xs.all nW&&(decide ((xs.length:Int)<=200)&&decide (HF 0 xs<=20000))
theorem DO (z:Int) (xs:List ax) (e:ax):HF z (xs++[e])=IntKind.i64.wrap (HF z xs+(e.l:Int)):=by
 unfold HF;rw [Yl];rfl
section
variable {M:Own} {w0:World} {cs0:List Frame} {R:Ending->World->Prop} {ν:aP} {xs:List ax} {off c:Nat}
theorem G8 (hν:∀ i b,ν i=some b->i=0) (hl:xs.length<=9223372036854775807) (hM:∀ b,¬ M b) (hR:∀ w',Below w0.heap.size w0 w'->R (.returned (.bool (gz xs))) w'):
  ∀ (j k:Nat),k+j=xs.length->(xs.take k).all nW=true->af bn M w0 cs0 4 R ν (SM.at (yh off xs.length c (HF 0 (xs.take k)) (k:Int)) 6 [cv (aT iC off xs)])
 | 0,k,hk,hs=>by
  have hk:k=xs.length:=by omega
  subst hk;rw [XE] at hs ⊢;have f0:decide ((xs.length:Int)<(xs.length:Int))=false:=V2 (by omega);by_cases h:(xs.length:Int)<=200
  ·have h1:=V0 h;refine af.ao fQ (n:=100) (o:=(ff [1,2,3,4] true++ff [0] false++VP)) (v:=.bool (gz xs)) ?_ fun ν' M1 w1 s' w' _ hB hr=>hR _ (aB hM hB hr);rw [US (z':=0) (i':=0) (x:=⟨⟨#[]⟩,0,none,0,0⟩)];simp only [ah,f0,h1,VV,VX,VW];unfold gz;rw [hs,h1];simp
  ·have h1:=V2 h;refine af.ao fQ (n:=100) (o:=(ff [0,1,2,3,4] false++VP)) (v:=.bool (gz xs)) ?_ fun ν' M1 w1 s' w' _ hB hr=>hR _ (aB hM hB hr);rw [Ry (z':=0) (i':=0) (x:=⟨⟨#[]⟩,0,none,0,0⟩)];simp only [ah,f0,h1,VV,VX,VW];unfold gz;rw [hs,h1];simp
 | j+1,k,hk,hs=>by
  have hi:k<xs.length:=by omega
  have nx:=G8 hν hl hM hR j (k+1) (by omega);generalize hx:xs[k]=x;have hxk:xs[k]?=some x:=by rw [<- hx];exact V4 hi
  have t1:decide ((k:Int)<(xs.length:Int))=true:=V0 (by omega);have r1:=aJ hi;have ws:IntKind.i64.wrap ((k:Int)+1)=((k+1:Nat):Int):=by rw [wi (by omega)];omega
  have ra:=gF (off:=off) cC hxk;have YX:(aT iC off xs).all ab=true:=ca bp;rw [Wp hi,DO,WM,hs,hx] at nx;by_cases h:(x.p.size:Int)>200
  ·have h1:decide ((x.1.size:Int)>200)=true:=V0 h
   have hf:gz xs=false:=by
    unfold gz
    have:xs.all nW=false:=by
     rw [<- Bool.not_eq_true,Wn];intro ha;have:=ha x (Xi hxk);unfold nW at this;rw [show decide ((x.p.size:Int)>200)=true from h1] at this;exact absurd this (by decide)
    rw [this];rfl
   refine af.ao fQ (n:=100) (o:=([(2,.cells (iC x))]++ff [0,3] true++ff [1,4] false++VP)) (v:=.bool (gz xs)) ?_ fun ν' M1 w1 s' w' _ hB hr=>hR _ (aB hM hB hr);rw [Sx (z':=0) (i':=0)];simp only [ah,V5,t1,r1,ra,cC,h1,hf,VV,VX,VW]
  ·have h1:decide ((x.1.size:Int)>200)=false:=V2 h;have h2:nW x=true:=by unfold nW;rw [show decide ((x.p.size:Int)>200)=false from h1];rfl
   have nx:=nx (by simp [h2]);refine af.reach fQ (k:=2) (n:=100) (o:=([(2,.cells (iC x))]++ff [0] true++ff [1,3,4,5,6,7,8,9,10] false++VP)) (ren:=[(0,0)]) (eqs:=[0]) ?_ (by kernel_rfl) (fun i b h=>by rw [hν i b h];rfl) nx;rw [Sk (v:=.int .i64 0)];simp only [ah,V5,t1,r1,ws,ra,YX,cC,h1,VV,VX,VW];try (repeat' apply And.intro)
   all_goals first | rfl | exact ws.symm | exact ws | skip
end
theorem xh {W:World} {a:Option Addr} {l c:Nat} {D:List ax} (h:qu W a l c D) (hl:l<=9223372036854775807):Calls Tryz.prog 4 #[.slice a l c] W fun e w'=>Below W.heap.size W w'/\e=.returned (.bool (gz D)):=by
 rcases h with ⟨rfl,rfl⟩ | ⟨b,off,cs,e,fz,rfl,rfl,ZT,hh,Zi,hc⟩
 ·refine bX (E:=bn) (args:=[.v (.slice a 0 c)]) (a:=[.slice a 0 c]) (n:=100) (o:=(ff [1,2,3] true++ff [0,4] false++VP)) rfl rfl fQ (by kernel_rfl) (au.cons (VR.ae.2 rfl) au.nil) ⟨?_⟩;rw [Vh];simp only [ah,VV,VX,VW];rfl
 ·refine (aZ (E:=bn) (R:=fun e w'=>Below W.heap.size W w'/\e=.returned (.bool (gz D))) rfl (d:=6) (l:=[(b,0)]) (os:=[.look (aT iC off D)]) rfl (by simp) (by simp) ?_ rfl (args:=[.sl 0 off D.length (some c)]) (a:=[.slice (some ⟨b,off,none⟩) D.length c]) (S0:=Fe (aT iC off D) off D.length c) (by kernel_rfl) (au.cons (VR.aL.2 ⟨(b,0),rfl,ZT,rfl⟩) au.nil) fun cs0=>?_)
  ·intro j o' b' c' h1 h2;match j with
   | 0=>
    simp only [Wa,Option.some.injEq] at h1 h2;subst h1;cases h2;exact ⟨_,hh,eJ (h:=iV) (fun ν x=>au.lits ν (iV x)) Zi hc⟩
   | j+1=>simp at h1
  ·have hM:∀ z,¬ (aD [(b,0)] ([SO.look (aT iC off D)].map fun o=>(o,false))) z:=fun z=>aY;have hν:∀ i c,aA [(b,0)] i=some c->i=0:=fun i c h=>dj h;have YX:(aT iC off D).all ab=true:=ca bp;have nx:=G8 (w0:=W) (cs0:=cs0) (R:=fun e w'=>Below W.heap.size W w'/\e=.returned (.bool (gz D))) (c:=c) (off:=off) hν (by omega) hM (fun w' hB=>⟨hB,rfl⟩) D.length 0 (by omega) rfl;refine af.reach fQ (k:=2) (n:=60) (o:=(ff [0,1,2,3,4,5,6] false++VP)) (ren:=[(0,0)]) (eqs:=[0]) (F:=yh off D.length c 0 0) (d:=6) (l:=[cv (aT iC off D)]) ?_ (by kernel_rfl) (fun i b h=>by rw [hν i b h];rfl) nx;rw [UT (x:=⟨⟨#[]⟩,0,none,0,0⟩) (z:=0) (i:=0) (z':=0) (i':=0) (v:=.int .i64 0)];simp only [ah,YX,VV,VX,VW]
theorem GZ {W:World} {D:List ax} (hm:MX W) (h:∀ x∈D,xg W x) (hl:gz D=true):yr D/\uD D (LH W) W:=by
 unfold gz at hl;rw [V6,V6,XI,XI,Wn] at hl;obtain ⟨h1,h2,_⟩:=hl;refine ⟨⟨fun x hx=>?_,fun x hx=>(h x hx).nil,by omega⟩,Lg hm h⟩;have:=h1 x hx;unfold nW at this;simp only [XX,decide_eq_false_iff_not] at this;omega
def yz (p:ByteArray):SM:=(a6 bn 64 [.ptr 0 0,.v (.string p)] (bG 6 1 0 [cv []])).getD dn
def Gg (p:ByteArray) (x:SV):SM:=dA bn 85 100 (yz p) (ff [1000] true) x
def Nx (p:ByteArray) (x y:SV):SM:=dA bn 53 100 (Gg p x) (ff [1000] true) y
theorem U6 (p:ByteArray):dS bn 85 100 (yz p) (ff [1000] true)=[]:=by kernel_rfl
theorem VA (p:ByteArray) (k:Int) (a:Option Addr) (l c:Nat):dT bn 85 100 (yz p) (ff [1000] true) (kX k a l c)=[]:=by kernel_rfl
theorem Su (p:ByteArray) (k:Int) (a:Option Addr) (l c:Nat):dS bn 53 100 (Gg p (kX k a l c)) (ff [1000] true)=[]:=by kernel_rfl
theorem Tz (p:ByteArray) (k k':Int) (a a':Option Addr) (l c l' c':Nat):dT bn 53 100 (Gg p (kX k a l c)) (ff [1000] true) (kX k' a' l' c')=[]:=by kernel_rfl
theorem S5 (p:ByteArray) (k k':Int) (a a':Option Addr) (l c l' c':Nat) (v:Value):ao bn 64 100 (Nx p (kX k a l c) (kX k' a' l' c')) (ff [1000] true) v=[Value.agg { toList:=[vZ k',VT a' l' c']:Array Value }=v]:=by kernel_rfl
def P5 (H:Hp) (w:World) (z:Int × List Int) (e:Ending) (w':World):Prop:=Below w.heap.size w w'/\∃ k a l c zs,e=.returned (.agg #[.int .i64 k,.slice a l c])/\ko (H.grow w w') a l zs/\(k,zs)=z/\(l<=c\/l=0)
theorem Af {w w':World} {x:ax} {ys:List Int} {a:Option Addr} {c l:Nat} (h:tY w w' x ys a c l):l<=c\/l=0:=by
 rcases h with ⟨_,_,h3,_⟩ | ⟨_,h2,g,h3,g',cc,rest,hy,_,hnc,_⟩
 ·exact .inr h3
 ·injection hy with _ _ e3;left;rw [h2,e3];exact hnc
theorem Ax {H:Hp} {w w':World} {x:ax} {ys:List Int} {a:Option Addr} {c l:Nat} (hD:ui w x.a x.l ys) (h:tY w w' x ys a c l):ko (H.grow w w') a l ys:=by
 rcases h with ⟨h1,h2,h3,h4⟩ | ⟨h1,h2,g,h3,h4⟩
 ·subst h2 h3;have:ys=[]:=Wd.1 (by rw [hD.1.1];exact hD.2 h1);rw [this];exact fun _ _=>pQ
 ·subst h2 h3;exact (vq (x:=⟨⟨#[]⟩,0,x.k,x.a,x.l,x.c⟩) hD rfl h4).JA
def EZ:Hp:=fun _=>none
theorem rA {H Hx:Hp} {W w2 w3 w4:World} (hs:W.heap.size<=w2.heap.size) (hn:(Hx.grow w2 w3).Sub w4.hp):(EZ.grow w2 w3).Sub (H.grow W w4):=fun k o hk=>by
 unfold Hp.grow EZ at hk
 split at hk
 ·cases hk
 ·rename_i YR
  unfold Hp.grow
  rw [if_neg (by omega)]
  exact hn k o (by unfold Hp.grow;rw [if_neg YR];exact hk)
theorem BE {W:World} {b:Nat} {z:ByteArray->Int × List Int} {cs:Array Value} {e1:TypeId} {f1:Nat × Nat} (hb:W.heap[b]?=some (.cells cs e1 f1)) (h:zx W.hp b z) (p:ByteArray) (H:Hp):
  Calls Tryz.prog 64 #[fy b,.string p] W (P5 H W (z p)):=by
 have ho:∀ (j:Nat) (o':SO) (b' c':Nat),[SO.look []][j]?=some o'->[(b,0)][j]?=some (b',c')->∃ r,W.heap[b']?=some r/\OR (aA [(b,0)]) j o' r:=by
  intro j o' b' c' q1 q2;match j with
  | 0=>
   simp only [Wa,Option.some.injEq] at q1 q2;subst q1;cases q2;exact ⟨_,hb,[],_,_,_,rfl,au.nil,fun k y h=>by simp at h⟩
  | j+1=>simp at q1
 refine aZ (E:=bn) rfl (d:=6) (l:=[(b,0)]) (os:=[.look []]) rfl (by simp) (by simp) ho rfl (args:=[.ptr 0 0,.v (.string p)]) (a:=[fy b,.string p]) (S0:=yz p) (by kernel_rfl) (au.cons (VR.aF.2 ⟨(b,0),rfl,rfl⟩) (au.cons (VR.ae.2 rfl) au.nil)) fun cs0=>?_;have hM:∀ z,¬ (aD [(b,0)] ([SO.look []].map fun o=>(o,false))) z:=fun z=>aY (os:=[SO.look []])
 have Z6:=Kept.start (H0:=W.hp) (M:=aD [(b,0)] ([SO.look []].map fun o=>(o,false))) (w:=W) (Hp.Sub.refl _) (fun z o _=>hM z) (dN (by
  intro j o' m b' c' q1 q2;rw [Wv] at q1;obtain ⟨o2,q3,q4⟩:=Wg.1 q1;cases q4;exact ho j o' b' c' q3 q2)) (fun _ h=>h)
 refine af.gD fQ Z6 (n:=100) (g:=85) (o:=ff [1000] true) (args:=[.ptr 0 0,.v (.string p)]) (by rw [U6];trivial) (by kernel_rfl) fun ν' w a hle YJ hgr ha=>?_;obtain ⟨y1,ZY,rfl,q1,YV⟩:=ha.cons_inv;obtain ⟨y2,as2,rfl,q2,ZL⟩:=YV.cons_inv;obtain rfl:=ZL.ay;obtain rfl:=VR.ae.1 q2;obtain ⟨bb,Zd,rfl⟩:=VR.aF.1 q1;have Zd:=Zd.symm.trans (hle 0 (b,0) rfl);cases Zd;refine (h w YJ p).mono fun e w' ⟨hB,k,a,l,c,zs,he,hd,hz⟩=>⟨hB,.agg #[.int .i64 k,.slice a l c],he,fun M2 ZE=>⟨by show ah (dT bn 85 100 (yz p) (ff [1000] true) (kX k a l c));rw [VA];trivial,?_⟩⟩;show af bn M2 w' cs0 _ _ _ (Gg p (kX k a l c));refine af.gD fQ ZE (n:=100) (g:=53) (o:=ff [1000] true) (args:=[kX k a l c]) (by rw [Su];trivial) (by kernel_rfl) fun ν2 w2 a2 Z5 hsub2 hgr2 YV=>?_;obtain ⟨y1,ZY,rfl,q1,YV⟩:=YV.cons_inv;obtain rfl:=YV.ay;obtain rfl:=VR.ae.1 q1;have hs2:W.hp.Sub w2.hp:=(Hp.fj YJ).trans hsub2;have hD:=hd w2 hs2
 refine (kI (x:=⟨⟨#[]⟩,k,a,l,c⟩) hD.1).mono fun e w3 ⟨hB3,a',c',l',he3,YX⟩=>⟨hB3,.agg #[.int .i64 k,.slice a' l' c'],he3,fun M3 hK3=>⟨by show ah (dT bn 53 100 (Gg p (kX k a l c)) (ff [1000] true) (kX k a' l' c'));rw [Tz];trivial,?_⟩⟩;show af bn M3 w3 cs0 _ _ _ (Nx p (kX k a l c) (kX k a' l' c'));refine af.ao fQ (n:=100) (o:=ff [1000] true) (v:=.agg #[.int .i64 k,.slice a' l' c']) (by rw [S5];simp [ah]) fun ν' M1 w4 s' w5 _ Zv hr=>⟨aB hM (hK3.base.trans Zv) hr,k,a',l',c',zs,rfl,?_,hz,Af YX⟩;have hcd:=Ax (H:=EZ) (x:=⟨⟨#[]⟩,k,a,l,c⟩) hD YX;exact hcd.mono (rA (oU (Hp.Sub.refl _) hs2) (hK3.now Zv hr))
end paths
open Go Go.Rx Go.RowKit
namespace words
def dn:SM:={ top:={ fn:=0,tm:=fh 0 0 [],todo:=[],defers:=[],ret:=false,kind:=.normal,ro:=none },callers:=[],mem:=bG 0 0 0 [] }
def a7 (E:Env) (f:FuncId) (args:List SV):SM:=(a6 E f args (bG 6 0 0 [])).getD dn
structure mY (l:List Prop):Prop where
 out:ah l
theorem eD {E:Env} {P:Program} (hP:E.P=P) (hG:E.G=[]) {f:FuncId} {args:List SV} {a:List Value} {S0:SM} {Q:Value->Prop} (w:World) (ζ:a6 E f args (bG 6 0 0 [])=some S0) (ha:au (aA []) args a)
  (hs:∀ cs0,af E (aD [] []) w cs0 f (fun e w'=>Below w.heap.size w w'/\∃ v,e=.returned v/\Q v) (aA []) S0):Calls P f a.toArray w fun e w'=>Below w.heap.size w w'/\∃ v,e=.returned v/\Q v:=
 nq (E:=E) hP (d:=6) (l:=[]) (os:=[]) rfl (by simp) (by simp) (fun i o b c h=>by simp at h) hG ζ ha hs
theorem aE (b:Nat):¬ (aD [] []) b:=by rintro ⟨i,o,c,h,_⟩;simp at h
theorem dV {i:Nat} {b:Nat × Nat} (h:aA [] i=some b) {p:Prop}:p:=by simp [aA] at h

def fe (n:Nat):Bool:=(Nat.ble 97 n&&Nat.ble n 122)||(Nat.ble 48 n&&Nat.ble n 57)||Nat.beq n 46||Nat.beq n 47||Nat.beq n 45||Nat.beq n 126
def gH:ByteArray:=⟨#[48,49,50,51,52,53,54,55,56,57,97,98,99,100,101,102]⟩
def E0:Env:=EP [] []
theorem K0 {M:Own} {w0:World}:aK E0 M w0:=fJ fun r h=>by cases h
theorem Dp:(List.range 256).all (fun n=>nJ E0 68 200 (a7 E0 68 [.v (.int .u8 (Int.ofNat n))]) (fe n))=true:=by kernel_rfl
theorem BJ:(List.range 256).all (fun n=>nJ E0 42 200 (a7 E0 42 [.v (.int .u8 (Int.ofNat n))]) (fe n))=true:=by kernel_rfl
def mH:PS:=fun args=>match args with | [.int .u8 c]=>some (.bool (fe c.toNat),0<=c/\c<256) | _=>none
theorem Hg:bW Tryz.prog (fun _=>True) (68,mH):=by
 refine ⟨⟨_,Tryz.func68,by kernel_rfl,by kernel_rfl⟩,fun args v p h hp w hX=>?_⟩;dsimp only [mH] at h;split at h
 ·rename_i c;cases h;have ht:=Wn.1 Dp c.toNat (Xd.2 (by omega));have hc:Int.ofNat c.toNat=c:=Int.toNat_of_nonneg hp.1;rw [hc] at ht;refine (eD (E:=E0) rfl rfl (Q:=fun v=>v=.bool (fe c.toNat)) (args:=[.v (.int .u8 c)]) (a:=[.int .u8 c]) w (S0:=a7 E0 68 [.v (.int .u8 c)]) (by kernel_rfl) (au.cons (VR.ae.2 rfl) au.nil) fun cs0=>?_).mono fun e w' ⟨h1,u,h2,h3⟩=>⟨h1,by rw [h2,h3]⟩;refine af.nJ K0 (n:=200) (b:=fe c.toNat) ?_ ?_
  ·with_reducible exact ht
  ·intro ν' M1 w1 s' w' _ hB hr;exact ⟨aB aE hB hr,_,rfl,rfl⟩
 ·cases h
theorem EH:bW Tryz.prog (fun _=>True) (42,mH):=by
 refine ⟨⟨_,Tryz.func42,by kernel_rfl,by kernel_rfl⟩,fun args v p h hp w hX=>?_⟩;dsimp only [mH] at h;split at h
 ·rename_i c;cases h;have ht:=Wn.1 BJ c.toNat (Xd.2 (by omega));have hc:Int.ofNat c.toNat=c:=Int.toNat_of_nonneg hp.1;rw [hc] at ht;refine (eD (E:=E0) rfl rfl (Q:=fun v=>v=.bool (fe c.toNat)) (args:=[.v (.int .u8 c)]) (a:=[.int .u8 c]) w (S0:=a7 E0 42 [.v (.int .u8 c)]) (by kernel_rfl) (au.cons (VR.ae.2 rfl) au.nil) fun cs0=>?_).mono fun e w' ⟨h1,u,h2,h3⟩=>⟨h1,by rw [h2,h3]⟩;refine af.nJ K0 (n:=200) (b:=fe c.toNat) ?_ ?_
  ·with_reducible exact ht
  ·intro ν' M1 w1 s' w' _ hB hr;exact ⟨aB aE hB hr,_,rfl,rfl⟩
 ·cases h
theorem hx (n:Int) (s:ByteArray):ao E0 29 100 (a7 E0 29 [.v (.int .i64 n)]) VP (.string s)=[VS ((⟨⟨[48,49,50,51,52,53,54,55,56,57,97,98,99,100,101,102]⟩⟩:ByteArray).extract n.toNat (IntKind.i64.wrap (n+1)).toNat)=VS s,decide (0<=n/\n<=(↑(IntKind.i64.wrap (n+1)).toNat:Int))=true,decide (0<=IntKind.i64.wrap (n+1)/\IntKind.i64.wrap (n+1)<=(↑(16:Nat):Int))=true]:=by kernel_rfl
def yK:PS:=fun args=>match args with | [.int .i64 n]=>some (.string (gH.extract n.toNat (n.toNat+1)),0<=n/\n<16) | _=>none
theorem AL:bW Tryz.prog (fun _=>True) (29,yK):=by
 refine ⟨⟨_,Tryz.func29,by kernel_rfl,by kernel_rfl⟩,fun args v p h hp w hX=>?_⟩;dsimp only [yK] at h;split at h
 ·rename_i n;cases h;refine (eD (E:=E0) rfl rfl (Q:=fun v=>v=.string (gH.extract n.toNat (n.toNat+1))) (args:=[.v (.int .i64 n)]) (a:=[.int .i64 n]) w (S0:=a7 E0 29 [.v (.int .i64 n)]) (by kernel_rfl) (au.cons (VR.ae.2 rfl) au.nil) fun cs0=>?_).mono fun e w' ⟨h1,u,h2,h3⟩=>⟨h1,by rw [h2,h3]⟩;refine af.ao K0 (n:=100) (o:=VP) (v:=.string (gH.extract n.toNat (n.toNat+1))) ?_ ?_
  ·rw [hx];obtain ⟨h0,h1⟩:=hp;have hw:IntKind.i64.wrap (n+1)=n+1:=Xz _ (by omega);have ht:(n+1).toNat=n.toNat+1:=by omega
   simp [ah,hw,ht,gH];omega
  ·intro ν' M1 w1 s' w' _ hB hr;exact ⟨aB aE hB hr,_,rfl,rfl⟩
 ·cases h
def fo (n:Nat):UInt8:=gH.data.getD n 0
def iS (c:UInt8):List UInt8:=if fe c.toNat=true then [c] else [92,fo (c.toNat / 16),fo (c.toNat % 16)]
def pathL (l:List UInt8):List UInt8:=l.flatMap iS
def cx (l:List UInt8):ByteArray:=⟨l.toArray⟩
theorem mkS_app (a b:List UInt8):cx a++cx b=cx (a++b):=by
 apply ByteArray.ext;simp [cx]
theorem mkS_size (l:List UInt8):(cx l).size=l.length:=rfl
theorem HN (b:ByteArray):cx b.data.toList=b:=by cases b;simp [cx]
theorem AK (l:List UInt8) (k:Nat):(cx l).data.getD k 0=l.getD k 0:=by
 simp [cx]
theorem zZ (l:List UInt8) (k:Nat) (h:k<l.length):(cx l).extract k (k+1)=cx [l[k]]:=by
 apply ByteArray.ext;have e:(l.drop k).take 1=[l[k]]:=by rw [WQ h];rfl
 simp only [cx,ByteArray.data_extract,List.extract_toArray,List.extract_eq_take_drop];rw [show k+1 - k=1 by omega,e]
theorem sg (l:List UInt8) (c:UInt8):pathL (l++[c])=pathL l++iS c:=by simp [pathL]
def E1:Env:=EP [(68,mH),(29,yK)] []
theorem K1 {M:Own} {w0:World}:aK E1 M w0:=fJ fun r h=>by
 simp only [V8,Ww,Xc] at h
 rcases h with rfl | rfl
 ·exact Hg
 ·exact AL
def FF:List SI:=dB E1 2 60 (a7 E1 27 [.v (.string ⟨#[]⟩)]) []
def vr (p s:ByteArray) (i:Int):SF:={ fn:=27,tm:=fh 39 6 ([.v (.string p),.aH,.aH,.v (.string s),.v (.int .i64 i)]++List.replicate 34 .aH),todo:=FF,defers:=[],ret:=false,kind:=.normal,ro:=none }
theorem b0 (p:ByteArray):reach E1 2 60 (a7 E1 27 [.v (.string p)]) VP [] [] (vr p ⟨#[]⟩ 0) 6 []=[VS p=VS p,VS ⟨⟨[]⟩⟩=VS ⟨⟨[]⟩⟩,vZ 0=vZ 0]:=by kernel_rfl
theorem b1 (p s s':ByteArray) (i i':Int):reach E1 2 60 (SM.at (vr p s i) 6 []) [(0,.b true),(3,.b true)] [] [] (vr p s' i') 6 []=[VS p=VS p,VS (s++p.extract i.toNat (IntKind.i64.wrap (i+1)).toNat)=VS s',vZ (IntKind.i64.wrap (i+1))=vZ i',(s.size+(p.extract i.toNat (IntKind.i64.wrap (i+1)).toNat).size).le 9223372036854775807,decide (0<=i/\i<=(↑(IntKind.i64.wrap (i+1)).toNat:Int))=true,decide (0<=IntKind.i64.wrap (i+1)/\IntKind.i64.wrap (i+1)<=(↑p.size:Int))=true,fe (↑(p.data.getD i.toNat (0:UInt8)).toNat:Int).toNat=true,0<=(↑(p.data.getD i.toNat (0:UInt8)).toNat:Int)/\(↑(p.data.getD i.toNat (0:UInt8)).toNat:Int)<256,ai i p.size=true,decide (i<(↑p.size:Int))=true]:=by kernel_rfl
theorem b2 (p s s':ByteArray) (i i':Int):reach E1 2 60 (SM.at (vr p s i) 6 []) [(0,.b true),(3,.b false)] [] [] (vr p s' i') 6 []=[VS p=VS p,VS (s++(⟨⟨[92]⟩⟩:ByteArray)++gH.extract (IntKind.i64.wrap ((IntKind.i64.wrap (↑(p.data.getD i.toNat (0:UInt8)).toNat:Int)).tdiv 16)).toNat ((IntKind.i64.wrap ((IntKind.i64.wrap (↑(p.data.getD i.toNat (0:UInt8)).toNat:Int)).tdiv 16)).toNat+1)++gH.extract ((IntKind.i64.wrap (↑(p.data.getD i.toNat (0:UInt8)).toNat:Int)).tmod 16).toNat (((IntKind.i64.wrap (↑(p.data.getD i.toNat (0:UInt8)).toNat:Int)).tmod 16).toNat+1))=VS s',vZ (IntKind.i64.wrap (i+1))=vZ i',((s++(⟨⟨[92]⟩⟩:ByteArray)++gH.extract (IntKind.i64.wrap ((IntKind.i64.wrap (↑(p.data.getD i.toNat (0:UInt8)).toNat:Int)).tdiv 16)).toNat ((IntKind.i64.wrap ((IntKind.i64.wrap (↑(p.data.getD i.toNat (0:UInt8)).toNat:Int)).tdiv 16)).toNat+1)).size+(gH.extract ((IntKind.i64.wrap (↑(p.data.getD i.toNat (0:UInt8)).toNat:Int)).tmod 16).toNat (((IntKind.i64.wrap (↑(p.data.getD i.toNat (0:UInt8)).toNat:Int)).tmod 16).toNat+1)).size).le 9223372036854775807,0<=(IntKind.i64.wrap (↑(p.data.getD i.toNat (0:UInt8)).toNat:Int)).tmod 16/\(IntKind.i64.wrap (↑(p.data.getD i.toNat (0:UInt8)).toNat:Int)).tmod (16:Int)<16,((s++(⟨⟨[92]⟩⟩:ByteArray)).size+(gH.extract (IntKind.i64.wrap ((IntKind.i64.wrap (↑(p.data.getD i.toNat (0:UInt8)).toNat:Int)).tdiv 16)).toNat ((IntKind.i64.wrap ((IntKind.i64.wrap (↑(p.data.getD i.toNat (0:UInt8)).toNat:Int)).tdiv 16)).toNat+1)).size).le 9223372036854775807,(IntKind.i64.wrap (↑(p.data.getD i.toNat (0:UInt8)).toNat:Int)==IntKind.i64.wrap (↑(p.data.getD i.toNat (0:UInt8)).toNat:Int))=true,0<=IntKind.i64.wrap ((IntKind.i64.wrap (↑(p.data.getD i.toNat (0:UInt8)).toNat:Int)).tdiv 16)/\IntKind.i64.wrap ((IntKind.i64.wrap (↑(p.data.getD i.toNat (0:UInt8)).toNat:Int)).tdiv 16)<16,ai i p.size=true,ai i p.size=true,(s.size+1).le 9223372036854775807,fe (↑(p.data.getD i.toNat (0:UInt8)).toNat:Int).toNat=false,0<=(↑(p.data.getD i.toNat (0:UInt8)).toNat:Int)/\(↑(p.data.getD i.toNat (0:UInt8)).toNat:Int)<256,ai i p.size=true,decide (i<(↑p.size:Int))=true]:=by kernel_rfl
theorem b3 (p s s':ByteArray) (i:Int):ao E1 27 60 (SM.at (vr p s i) 6 []) [(0,.b false)] (.string s')=[VS s=VS s',decide (i<(↑p.size:Int))=false]:=by kernel_rfl
theorem zd:∀ n,n<16->gH.extract n (n+1)=cx [fo n]:=by decide
theorem Ft (c:UInt8):1<=(iS c).length/\(iS c).length<=3:=by
 unfold iS;split <;> simp
theorem iq (l:List UInt8):(pathL l).length<=3*l.length:=by
 induction l with
 | nil=>simp [pathL]
 | cons c l ih=>
  have:=(Ft c).2;simp only [pathL,XK,V7,Wm] at *;omega
theorem yl {n:Nat} (h:n<9223372036854775807):IntKind.i64.wrap (n:Int)=(n:Int):=Xz _ (by omega)
theorem aU {k:Nat} (h:k<9223372036854775806):IntKind.i64.wrap ((k:Int)+1)=((k+1:Nat):Int):=by rw [Xz _ (by omega)];omega
theorem LW (n:Nat):((n:Int)).tdiv 16=((n / 16:Nat):Int):=rfl
theorem L4 (n:Nat):((n:Int)).tmod 16=((n % 16:Nat):Int):=rfl
theorem aJ {k n:Nat} (h:k<n):ai (k:Int) n=true:=by unfold ai;exact V0 (by omega)
section
variable {M:Own} {w0:World} {cs0:List Frame} {R:Ending->World->Prop} {ν:aP} {l:List UInt8}
theorem ph (hν:∀ i b,ν i=some b->False) (hl:l.length<=1000000000) (hR:∀ w',Below w0.heap.size w0 w'->R (.returned (.string (cx (pathL l)))) w') (hM:∀ b,¬ M b):
  ∀ (j k:Nat),k+j=l.length->af E1 M w0 cs0 27 R ν (SM.at (vr (cx l) (cx (pathL (l.take k))) k) 6 [])
 | 0,k,hk=>by
  have hk:k=l.length:=by omega
  subst hk;rw [XE];refine af.ao K1 (n:=60) (o:=[(0,.b false)]) (v:=.string (cx (pathL l))) ?_ ?_
  ·rw [b3];simp [ah,mkS_size]
  ·intro ν' M1 w1 s' w' _ hB hr;exact hR _ (aB hM hB hr)
 | j+1,k,hk=>by
  have YR:k<l.length:=by omega
  have ht:pathL (l.take (k+1))=pathL (l.take k)++iS l[k]:=by rw [Wp YR,sg]
  have hlen:(pathL (l.take k)).length<=3000000000:=by
   have:=iq (l.take k);have h2:(l.take k).length<=k:=List.length_take_le _ _;omega
  have hx:(cx l).data.getD k 0=l[k]:=by rw [AK];simp [YR]
  have h256:l[k].toNat<256:=UInt8.toNat_lt _;have hws:=aU (k:=k) (by omega);have hwc:IntKind.i64.wrap (l[k].toNat:Int)=(l[k].toNat:Int):=yl (by omega);by_cases hp:fe l[k].toNat=true
  ·refine af.reach K1 (k:=2) (n:=60) (o:=[(0,.b true),(3,.b true)]) (ren:=[]) (eqs:=[]) ?_ (by kernel_rfl) (fun i b h=>(hν i b h).elim) (ph hν hl hR hM j (k+1) (by omega));rw [b1];have he:iS l[k]=[l[k]]:=by unfold iS;rw [if_pos hp]
   simp only [ah,XI,Nat.le_eq];simp only [V5,hws,hx,zZ l k YR,mkS_app,ht,he,hp,mkS_size,VW,VX,Wm,WL];refine ⟨⟨⟨⟨⟨?_,?_⟩,?_⟩,?_⟩,?_⟩,?_⟩ <;> first | omega | exact aJ YR
  ·refine af.reach K1 (k:=2) (n:=60) (o:=[(0,.b true),(3,.b false)]) (ren:=[]) (eqs:=[]) ?_ (by kernel_rfl) (fun i b h=>(hν i b h).elim) (ph hν hl hR hM j (k+1) (by omega));rw [b2];have hpf:fe l[k].toNat=false:=by simpa using hp
   have he:iS l[k]=[92,fo (l[k].toNat / 16),fo (l[k].toNat % 16)]:=by unfold iS;rw [if_neg hp]
   have hd:l[k].toNat / 16<16:=by omega
   have hm:l[k].toNat % 16<16:=by omega
   have hwd:IntKind.i64.wrap ((l[k].toNat / 16:Nat):Int)=((l[k].toNat / 16:Nat):Int):=yl (by omega);have h92:({ data:={ toList:=[(92:UInt8)]:Array UInt8 }:ByteArray })=cx [92]:=rfl;simp only [ah,XI,Nat.le_eq];simp only [V5,hws,hx,hwc,LW,L4,hwd,zd _ hd,zd _ hm,h92,mkS_app,ht,he,hpf,mkS_size,VW,VX,Wm,WL,V7,Xy,Xv,Xo];repeat' apply And.intro
   all_goals first | omega | exact aJ YR | simp
end
def iZ:PS:=fun args=>match args with | [.string p]=>some (.string (cx (pathL p.data.toList)),p.size<=1000000000) | _=>none
theorem wu:bW Tryz.prog (fun _=>True) (27,iZ):=by
 refine ⟨⟨_,Tryz.func27,by kernel_rfl,by kernel_rfl⟩,fun args v p h hp w hX=>?_⟩;dsimp only [iZ] at h;split at h
 ·rename_i p;cases h;refine (eD (E:=E1) rfl rfl (Q:=fun v=>v=.string (cx (pathL p.data.toList))) (args:=[.v (.string p)]) (a:=[.string p]) w (S0:=a7 E1 27 [.v (.string p)]) (by kernel_rfl) (au.cons (VR.ae.2 rfl) au.nil) fun cs0=>?_).mono fun e w' ⟨h1,u,h2,h3⟩=>⟨h1,by rw [h2,h3]⟩;refine af.reach K1 (k:=2) (n:=60) (o:=VP) (ren:=[]) (eqs:=[]) (F:=vr p ⟨#[]⟩ 0) (d:=6) (l:=[]) ?_ (by kernel_rfl) (fun i b h=>dV h) ?_
  ·rw [b0];simp [ah]
  ·have t:=ph (l:=p.data.toList) (M:=aD [] []) (w0:=w) (cs0:=cs0) (ν:=aA []) (R:=fun e w'=>Below w.heap.size w w'/\∃ v,e=.returned v/\v=.string (cx (pathL p.data.toList))) (fun i b h=>dV h) (by simpa using hp) (fun w' hB=>⟨hB,_,rfl,rfl⟩) aE p.data.toList.length 0 (by omega);rw [HN] at t;exact t
 ·cases h
def E2:Env:=EP [(42,mH)] []
theorem K2 {M:Own} {w0:World}:aK E2 M w0:=fJ fun r h=>by
 simp only [V8,Ww,Xc] at h
 rcases h with rfl
 exact EH
def NO:List SI:=dB E2 2 60 (a7 E2 15 [.v (.string ⟨#[]⟩)]) []
def x9 (p:ByteArray) (n i:Int):SF:={ fn:=15,tm:=fh 29 6 ([.v (.string p),.aH,.v (.string ⟨#[]⟩),.ptr 0 0,.aH,.aH,.aH,.v (.int .i64 n),.v (.int .i64 i)]++List.replicate 20 .aH),todo:=NO,defers:=[],ret:=false,kind:=.normal,ro:=none }
def MV:List (Option (SO × Bool)):=[some (.row [.v (.pointer none),.v (.slice none 0 0)] 87 (0,0) none,true)]
def Aa (n:Nat) (l:List SV):List (Option (SO × Bool)):=[some (.row [.ptr 0 0,.sl 1 0 n none] 87 (0,0) none,true),some (.row l 5 (0,0) (some 1),true)]
theorem c0 (p:ByteArray):reach E2 2 60 (a7 E2 15 [.v (.string p)]) VP [(0,0)] [] (x9 p p.size 0) 6 MV=[VS p=VS p,VS ⟨⟨[]⟩⟩=VS ⟨⟨[]⟩⟩,0=0,vZ (↑p.size:Int)=vZ (↑p.size:Int),vZ 0=vZ 0,Value.pointer none=Value.pointer none,VT none 0 0=VT none 0 0]:=by kernel_rfl
theorem c1 (p:ByteArray) (n i i':Int) (l':List SV):reach E2 2 200 (SM.at (x9 p n i) 6 MV) [(0,.b true),(3,.b true)] [(0,0),(1,2)] [1] (x9 p n i') 6 (Aa 1 l')=[VS p=VS p,VS ⟨⟨[]⟩⟩=VS ⟨⟨[]⟩⟩,0=0,vZ n=vZ n,vZ (IntKind.i64.wrap (i+1))=vZ i',0=0,0=0/\1=1/\nZ=none,[]++List.take 1 (List.drop 0 (aQ (List.replicate 1 (List.map SV.v [V1 IntKind.u8 0])).flatten 0 [SV.v (V1 IntKind.u8 (↑(p.data.getD i.toNat (0:UInt8)).toNat:Int))]))=l',l'.all ab=true,fe (↑(p.data.getD i.toNat (0:UInt8)).toNat:Int).toNat=true,0<=(↑(p.data.getD i.toNat (0:UInt8)).toNat:Int)/\(↑(p.data.getD i.toNat (0:UInt8)).toNat:Int)<256,ai i p.size=true,decide (i<n)=true]:=by kernel_rfl
theorem c2 (p:ByteArray) (n i i':Int) (l':List SV):reach E2 2 300 (SM.at (x9 p n i) 6 MV) [(0,.b true),(3,.b false)] [(0,0),(1,6)] [1] (x9 p n i') 6 (Aa 3 l')=[VS p=VS p,VS ⟨⟨[]⟩⟩=VS ⟨⟨[]⟩⟩,0=0,vZ n=vZ n,vZ (IntKind.i64.wrap (i+1))=vZ i',0=0,0=0/\3=3/\nZ=none,List.take 2 (List.take 1 ([]++List.take 1 (List.drop 0 (aQ (List.replicate 1 (List.map SV.v [V1 IntKind.u8 0])).flatten 0 [SV.v (V1 IntKind.u8 92)])))++List.take 1 (List.drop 0 (aQ (List.replicate 1 (List.map SV.v [V1 IntKind.u8 0])).flatten 0 [SV.v (V1 IntKind.u8 (↑((⟨⟨[48,49,50,51,52,53,54,55,56,57,97,98,99,100,101,102]⟩⟩:ByteArray).data.getD ((↑(p.data.getD i.toNat (0:UInt8)).toNat:Int).fdiv (2 ^ 4)).toNat (0:UInt8)).toNat:Int))])))++List.take 1 (List.drop 0 (aQ (List.replicate 1 (List.map SV.v [V1 IntKind.u8 0])).flatten 0 [SV.v (V1 IntKind.u8 (↑((⟨⟨[48,49,50,51,52,53,54,55,56,57,97,98,99,100,101,102]⟩⟩:ByteArray).data.getD (IntKind.u8.wrap (↑(BitVec.ofInt 8 (↑(p.data.getD i.toNat (0:UInt8)).toNat:Int) &&& BitVec.ofInt 8 15).toNat:Int)).toNat (0:UInt8)).toNat:Int))]))=l',l'.all ab=true,ai (IntKind.u8.wrap (↑(BitVec.ofInt 8 (↑(p.data.getD i.toNat (0:UInt8)).toNat:Int) &&& BitVec.ofInt 8 15).toNat:Int)) 16=true,ai ((↑(p.data.getD i.toNat (0:UInt8)).toNat:Int).fdiv (2 ^ 4)) 16=true,fe (↑(p.data.getD i.toNat (0:UInt8)).toNat:Int).toNat=false,0<=(↑(p.data.getD i.toNat (0:UInt8)).toNat:Int)/\(↑(p.data.getD i.toNat (0:UInt8)).toNat:Int)<256,ai i p.size=true,decide (i<n)=true]:=by kernel_rfl
theorem c3 (p:ByteArray) (n i i':Int) (m:Nat) (l l' w:List SV):reach E2 2 300 (SM.at (x9 p n i) 6 (Aa m l)) [(0,.b true),(3,.b true),(6,.app l w)] [(0,0),(1,3)] [1] (x9 p n i') 6 (Aa (m+1) l')=[VS p=VS p,VS ⟨⟨[]⟩⟩=VS ⟨⟨[]⟩⟩,0=0,vZ n=vZ n,vZ (IntKind.i64.wrap (i+1))=vZ i',0=0,0=0/\m+1=m+1/\nZ=none,l++w=l',l'.all ab=true,((List.take 1 (List.drop 0 (aQ (List.replicate 1 (List.map SV.v [V1 IntKind.u8 0])).flatten 0 [SV.v (V1 IntKind.u8 (↑(p.data.getD i.toNat (0:UInt8)).toNat:Int))]))=w/\w.length=1*1)/\1≠0/\(2*(m+1)+1024)*1<=140737488355328)/\List.take (m*1) l=l/\l.length=m*1/\w.all SV.flat=true,fe (↑(p.data.getD i.toNat (0:UInt8)).toNat:Int).toNat=true,0<=(↑(p.data.getD i.toNat (0:UInt8)).toNat:Int)/\(↑(p.data.getD i.toNat (0:UInt8)).toNat:Int)<256,ai i p.size=true,decide (i<n)=true]:=by kernel_rfl
theorem c4 (p:ByteArray) (n i i':Int) (m:Nat) (l l' w w2 w3:List SV):reach E2 2 300 (SM.at (x9 p n i) 6 (Aa m l)) [(0,.b true),(3,.b false),(6,.app l w),(10,.app (l++w) w2),(14,.app (l++w++w2) w3)] [(0,0),(1,7)] [1] (x9 p n i') 6 (Aa (m+3) l')=[VS p=VS p,VS ⟨⟨[]⟩⟩=VS ⟨⟨[]⟩⟩,0=0,vZ n=vZ n,vZ (IntKind.i64.wrap (i+1))=vZ i',0=0,0=0/\m+1+1+1=m+3/\nZ=none,l++w++w2++w3=l',l'.all ab=true,((List.take 1 (List.drop 0 (aQ (List.replicate 1 (List.map SV.v [V1 IntKind.u8 0])).flatten 0 [SV.v (V1 IntKind.u8 (↑((⟨⟨[48,49,50,51,52,53,54,55,56,57,97,98,99,100,101,102]⟩⟩:ByteArray).data.getD (IntKind.u8.wrap (↑(BitVec.ofInt 8 (↑(p.data.getD i.toNat (0:UInt8)).toNat:Int) &&& BitVec.ofInt 8 15).toNat:Int)).toNat (0:UInt8)).toNat:Int))]))=w3/\w3.length=1*1)/\1≠0/\(2*(m+1+1+1)+1024)*1<=140737488355328)/\List.take ((m+1+1)*1) (l++w++w2)=l++w++w2/\(l++w++w2).length=(m+1+1)*1/\w3.all SV.flat=true,ai (IntKind.u8.wrap (↑(BitVec.ofInt 8 (↑(p.data.getD i.toNat (0:UInt8)).toNat:Int) &&& BitVec.ofInt 8 15).toNat:Int)) 16=true,((List.take 1 (List.drop 0 (aQ (List.replicate 1 (List.map SV.v [V1 IntKind.u8 0])).flatten 0 [SV.v (V1 IntKind.u8 (↑((⟨⟨[48,49,50,51,52,53,54,55,56,57,97,98,99,100,101,102]⟩⟩:ByteArray).data.getD ((↑(p.data.getD i.toNat (0:UInt8)).toNat:Int).fdiv (2 ^ 4)).toNat (0:UInt8)).toNat:Int))]))=w2/\w2.length=1*1)/\1≠0/\(2*(m+1+1)+1024)*1<=140737488355328)/\List.take ((m+1)*1) (l++w)=l++w/\(l++w).length=(m+1)*1/\w2.all SV.flat=true,ai ((↑(p.data.getD i.toNat (0:UInt8)).toNat:Int).fdiv (2 ^ 4)) 16=true,((List.take 1 (List.drop 0 (aQ (List.replicate 1 (List.map SV.v [V1 IntKind.u8 0])).flatten 0 [SV.v (V1 IntKind.u8 92)]))=w/\w.length=1*1)/\1≠0/\(2*(m+1)+1024)*1<=140737488355328)/\List.take (m*1) l=l/\l.length=m*1/\w.all SV.flat=true,fe (↑(p.data.getD i.toNat (0:UInt8)).toNat:Int).toNat=false,0<=(↑(p.data.getD i.toNat (0:UInt8)).toNat:Int)/\(↑(p.data.getD i.toNat (0:UInt8)).toNat:Int)<256,ai i p.size=true,decide (i<n)=true]:=by kernel_rfl
theorem c5 (p:ByteArray) (n i:Int) (v:Value):ao E2 15 300 (SM.at (x9 p n i) 6 MV) [(0,.b false)] v=[VS ⟨⟨[]⟩⟩=v,true=true,true=true,decide (i<n)=false]:=by kernel_rfl
theorem c6 (p:ByteArray) (n i:Int) (m:Nat) (l:List SV) (b:ByteArray) (v:Value):ao E2 15 300 (SM.at (x9 p n i) 6 (Aa m l)) [(0,.b false),(4,.str b)] v=[VS b=v,(0<(↑m:Int)/\(↑m:Int)<=2 ^ 40)/\(↑m:Int).toNat<=l.length/\List.take (↑m:Int).toNat l=List.map (fun c=>SV.v (V1 IntKind.u8 (↑c.toNat:Int))) b.data.toList,0=0/\m=m/\nZ=none,((↑m:Int)==(↑m:Int))=true,(!m==0)=true,decide (i<n)=false]:=by kernel_rfl
theorem wj (n:Nat):((n:Int)).fdiv ((2:Int) ^ (4:Nat))=((n / 16:Nat):Int):=by
 rw [Yz _ (by decide)];rfl
theorem Dz:(List.range 256).all (fun n=>decide (IntKind.u8.wrap (((BitVec.ofInt 8 (n:Int) &&& BitVec.ofInt 8 15).toNat:Nat):Int)=((n % 16:Nat):Int)))=true:=by kernel_rfl
theorem KP {n:Nat} (h:n<256):IntKind.u8.wrap (((BitVec.ofInt 8 (n:Int) &&& BitVec.ofInt 8 15).toNat:Nat):Int)=((n % 16:Nat):Int):=Ws (Wn.1 Dz n (Xd.2 h))
def cB (l:List UInt8):List SV:=l.map fun c=>.v (.int .u8 (c.toNat:Int))
theorem Lz (a b:List UInt8):cB (a++b)=cB a++cB b:=by simp [cB]
theorem rX (a:List UInt8):(cB a).length=a.length:=by simp [cB]
theorem mS (a:List UInt8):(cB a).all ab=true:=by
 rw [Wn];intro x hx;obtain ⟨c,_,rfl⟩:=Wc.1 hx;rfl
theorem Cq (a:List UInt8):(cB a).all SV.flat=true:=by
 rw [Wn];intro x hx;obtain ⟨c,_,rfl⟩:=Wc.1 hx;rfl
theorem yN:({ data:={ toList:=[(48:UInt8),(49:UInt8),(50:UInt8),(51:UInt8),(52:UInt8),(53:UInt8),(54:UInt8),(55:UInt8),(56:UInt8),(57:UInt8),(97:UInt8),(98:UInt8),(99:UInt8),(100:UInt8),(101:UInt8),(102:UInt8)]:Array UInt8 }:ByteArray })=gH:=rfl
theorem tH (n:Nat):gH.data.getD n 0=fo n:=rfl
theorem yZ {α:Type} {l:List α} {m:Nat} (h:l.length=m):List.take (m*1) l=l:=by rw [XQ,<- h,XE]
section
variable {M:Own} {w0:World} {cs0:List Frame} {R:Ending->World->Prop} {ν:aP} {l:List UInt8}
theorem Oo (hν:∀ i b,ν i=some b->False) (hl:l.length<=1000000000) {k:Nat} (YR:k<l.length) {s:List UInt8} (hs:s.length<=3000000000)
  (hn:af E2 M w0 cs0 15 R ν (SM.at (x9 (cx l) l.length (k+1:Nat)) 6 (Aa (s++iS l[k]).length (cB (s++iS l[k]))))):af E2 M w0 cs0 15 R ν (SM.at (x9 (cx l) l.length k) 6 (Aa s.length (cB s))):=by
 have hx:(cx l).data.getD k 0=l[k]:=by rw [AK];simp [YR]
 have h256:l[k].toNat<256:=UInt8.toNat_lt _;have hws:=aU (k:=k) (by omega);by_cases hp:fe l[k].toNat=true
 ·have he:iS l[k]=[l[k]]:=by unfold iS;rw [if_pos hp]
  rw [he] at hn;refine af.reach K2 (k:=2) (n:=300) (o:=[(0,.b true),(3,.b true),(6,.app (cB s) (cB [l[k]]))]) (ren:=[(0,0),(1,3)]) (eqs:=[1]) ?_ (by kernel_rfl) (fun i b h=>(hν i b h).elim) (l:=Aa (s.length+1) (cB (s++[l[k]]))) (by rw [V7] at hn;exact hn);rw [c3];simp only [ah,V5,hws,hx,mkS_size,hp,VW,VX,Lz,one_cell,mS,Cq,rX,WM,Bool.and_self,yZ (rX s)];repeat' apply And.intro
  all_goals first | rfl | exact aJ YR | exact V0 (by omega) | omega | (simp [cB,ab,SV.flat];done) | (simp [cB];omega)
 ·have hpf:fe l[k].toNat=false:=by simpa using hp
  have he:iS l[k]=[92,fo (l[k].toNat / 16),fo (l[k].toNat % 16)]:=by unfold iS;rw [if_neg hp]
  rw [he] at hn;have hd:l[k].toNat / 16<16:=by omega
  have hm:l[k].toNat % 16<16:=by omega
  refine af.reach K2 (k:=2) (n:=300) (o:=[(0,.b true),(3,.b false),(6,.app (cB s) (cB [92])),(10,.app (cB s++cB [92]) (cB [fo (l[k].toNat / 16)])),(14,.app (cB s++cB [92]++cB [fo (l[k].toNat / 16)]) (cB [fo (l[k].toNat % 16)]))])
   (ren:=[(0,0),(1,7)]) (eqs:=[1]) ?_ (by kernel_rfl) (fun i b h=>(hν i b h).elim) (l:=Aa (s.length+3) (cB (s++[92,fo (l[k].toNat / 16),fo (l[k].toNat % 16)]))) (by rw [V7] at hn;exact hn)
  rw [c4];have hsp:∀ (a b c:UInt8),cB (s++[a,b,c])=cB s++cB [a]++cB [b]++cB [c]:=fun a b c=>by simp [cB]
  have hx1:gH.data.getD ((l[k].toNat / 16:Nat):Int).toNat 0=fo (l[k].toNat / 16):=rfl;have hx2:gH.data.getD ((l[k].toNat % 16:Nat):Int).toNat 0=fo (l[k].toNat % 16):=rfl;simp only [ah,V5,hws,hx,yN,mkS_size,hpf,wj,KP h256,VW,VX,hsp,one_cell,mS,Cq,rX,WM,Bool.and_self,tH,V7];repeat' apply And.intro
  all_goals first | rfl | exact aJ YR | exact aJ hd | exact aJ hm | exact V0 (by omega) | omega | exact yZ (by simp [cB]) | (simp [cB,ab,SV.flat];done) | (simp [cB];done) | skip

theorem K7 (hν:∀ i b,ν i=some b->False) (hl:l.length<=1000000000) (YR:0<l.length)
  (hn:af E2 M w0 cs0 15 R ν (SM.at (x9 (cx l) l.length (0+1:Nat)) 6 (Aa (iS l[0]).length (cB (iS l[0]))))):af E2 M w0 cs0 15 R ν (SM.at (x9 (cx l) l.length (0:Nat)) 6 MV):=by
 have hx:(cx l).data.getD 0 0=l[0]:=by rw [AK];simp [YR]
 have h256:l[0].toNat<256:=UInt8.toNat_lt _;have hws:=aU (k:=0) (by omega);by_cases hp:fe l[0].toNat=true
 ·have he:iS l[0]=[l[0]]:=by unfold iS;rw [if_pos hp]
  rw [he] at hn;refine af.reach K2 (k:=2) (n:=200) (o:=[(0,.b true),(3,.b true)]) (ren:=[(0,0),(1,2)]) (eqs:=[1]) ?_ (by kernel_rfl) (fun i b h=>(hν i b h).elim) (l:=Aa 1 (cB [l[0]])) hn;rw [c1];simp only [ah,V5,hws,hx,mkS_size,hp,VW,VX,mS];repeat' apply And.intro
  all_goals first | rfl | exact aJ YR | exact V0 (by omega) | omega | (simp [cB,ab,SV.flat];done) | (simp;omega)
 ·have hpf:fe l[0].toNat=false:=by simpa using hp
  have he:iS l[0]=[92,fo (l[0].toNat / 16),fo (l[0].toNat % 16)]:=by unfold iS;rw [if_neg hp]
  rw [he] at hn;have hd:l[0].toNat / 16<16:=by omega
  have hm:l[0].toNat % 16<16:=by omega
  refine af.reach K2 (k:=2) (n:=300) (o:=[(0,.b true),(3,.b false)]) (ren:=[(0,0),(1,6)]) (eqs:=[1]) ?_ (by kernel_rfl) (fun i b h=>(hν i b h).elim) (l:=Aa 3 (cB [92,fo (l[0].toNat / 16),fo (l[0].toNat % 16)])) hn;rw [c2];simp only [ah,V5,hws,hx,yN,mkS_size,hpf,wj,KP h256,VW,VX,mS,tH];repeat' apply And.intro
  all_goals first | rfl | exact aJ YR | exact aJ hd | exact aJ hm | exact V0 (by omega) | omega | (simp [cB,ab,SV.flat];done) | (simp;omega)
theorem IN (c:UInt8):iS c≠[]:=by unfold iS;split <;> simp
theorem E5 {l:List UInt8} (h:l≠[]):pathL l≠[]:=by
 cases l with
 | nil=>exact absurd rfl h
 | cons c l=>simp [pathL,IN]
theorem Mx (s:List UInt8):cB s=List.map (fun c=>SV.v (Value.int IntKind.u8 (c.toNat:Int))) (cx s).data.toList:=by simp [cB,cx]
theorem PI {s:List UInt8} (hR:∀ w',Below w0.heap.size w0 w'->R (.returned (.string (cx s))) w') (hM:∀ b,¬ M b) (h0:s≠[]) (hs:s.length<=3000000000) {n i:Int} (hi:¬ i<n) {p:ByteArray}:af E2 M w0 cs0 15 R ν (SM.at (x9 p n i) 6 (Aa s.length (cB s))):=by
 refine af.ao K2 (n:=300) (o:=[(0,.b false),(4,.str (cx s))]) (v:=.string (cx s)) ?_ ?_
 ·rw [c6];have hlen:0<s.length:=Xh.2 h0;simp only [ah,V5,VW,VX,rX];repeat' apply And.intro
  all_goals first | rfl | exact V2 hi | (simp;omega) | omega | (rw [<- rX,XE];exact Mx s) | (simp;done) | (simp;intro e;rw [e] at hlen;simp at hlen)
 ·intro ν' M1 w1 s' w' _ hB hr;exact hR _ (aB hM hB hr)
theorem vp {l:List UInt8} {k:Nat} (h:k<l.length):pathL (l.take (k+1))=pathL (l.take k)++iS l[k]:=by rw [Wp h,sg]
theorem ny {l:List UInt8} {k:Nat} (hl:l.length<=1000000000):(pathL (l.take k)).length<=3000000000:=by
 have:=iq (l.take k);have h2:(l.take k).length<=l.length:=by simp;omega
 omega
theorem Kk (hν:∀ i b,ν i=some b->False) (hl:l.length<=1000000000) (hR:∀ w',Below w0.heap.size w0 w'->R (.returned (.string (cx (pathL l)))) w') (hM:∀ b,¬ M b):
  ∀ (j k:Nat),k+1+j=l.length->af E2 M w0 cs0 15 R ν (SM.at (x9 (cx l) l.length (k+1:Nat)) 6 (Aa (pathL (l.take (k+1))).length (cB (pathL (l.take (k+1))))))
 | 0,k,hk=>by
  have hk':l.take (k+1)=l:=We (by omega)
  rw [hk']
  have YI:l≠[]:=by intro e;rw [e] at hk;simp at hk
  have:=ny (k:=k+1) hl
  rw [hk'] at this
  exact PI hR hM (E5 YI) this (by omega)
 | j+1,k,hk=>by
  have YR:k+1<l.length:=by omega
  refine Oo hν hl YR (ny hl) ?_
  rw [<- vp YR]
  exact Kk hν hl hR hM j (k+1) (by omega)
end
theorem oP:bW Tryz.prog (fun _=>True) (15,iZ):=by
 refine ⟨⟨_,Tryz.func15,by kernel_rfl,by kernel_rfl⟩,fun args v p h hp w hX=>?_⟩;dsimp only [iZ] at h;split at h
 ·rename_i p;cases h;refine (eD (E:=E2) rfl rfl (Q:=fun v=>v=.string (cx (pathL p.data.toList))) (args:=[.v (.string p)]) (a:=[.string p]) w (S0:=a7 E2 15 [.v (.string p)]) (by kernel_rfl) (au.cons (VR.ae.2 rfl) au.nil) fun cs0=>?_).mono fun e w' ⟨h1,u,h2,h3⟩=>⟨h1,by rw [h2,h3]⟩;refine af.reach K2 (k:=2) (n:=60) (o:=VP) (ren:=[(0,0)]) (eqs:=[]) (F:=x9 p p.size 0) (d:=6) (l:=MV) ?_ (by kernel_rfl) (fun i b h=>dV h) ?_
  ·rw [c0];simp [ah]
  ·have hl:p.data.toList.length=p.size:=by simp
   have hp':p.data.toList.length<=1000000000:=by rw [hl];exact hp
   have hR:∀ w',Below w.heap.size w w'->(fun (e:Ending) (w':World)=>Below w.heap.size w w'/\∃ v,e=.returned v/\v=.string (cx (pathL p.data.toList))) (.returned (.string (cx (pathL p.data.toList)))) w':=fun w' hB=>⟨hB,_,rfl,rfl⟩;by_cases h0:p.data.toList.length=0
   ·refine af.ao K2 (n:=300) (o:=[(0,.b false)]) (v:=.string (cx (pathL p.data.toList))) ?_ fun ν' M1 w1 s' w' _ hB hr=>hR _ (aB aE hB hr);rw [c5];rw [Wd.1 h0];rw [h0] at hl;simp [ah,<- hl,pathL,cx]
   ·have t:=K7 (l:=p.data.toList) (M:=aD [] []) (w0:=w) (cs0:=cs0) (ν:=aA []) (R:=fun e w'=>Below w.heap.size w w'/\∃ v,e=.returned v/\v=.string (cx (pathL p.data.toList))) (fun i b h=>dV h) hp' (by omega);have t2:=Kk (l:=p.data.toList) (M:=aD [] []) (w0:=w) (cs0:=cs0) (ν:=aA []) (R:=fun e w'=>Below w.heap.size w w'/\∃ v,e=.returned v/\v=.string (cx (pathL p.data.toList))) (fun i b h=>dV h) hp' hR aE (p.data.toList.length - 1) 0 (by omega);rw [vp (by omega),X8,show pathL []=[] from rfl,Xo] at t2;have t:=t t2;rw [HN,hl] at t;exact t
 ·cases h
def PD (n:Nat):Int:=if 48<=n/\n<=57 then (n:Int) - 48 else if 97<=n/\n<=102 then (n:Int) - 87 else -1
def QZ (l:List SV):List (Option (SO × Bool)):=[some (.row l 5 (0,0) (some 1),true)]
def hv (n:Nat):Nat:=(PD n).toNat
section
variable {M:Own} {w0:World} {cs0:List Frame} {R:Ending->World->Prop} {ν:aP} {l:List UInt8}
end
end words
end Go.Proofs.YtbjmmnegkpeboaaGreatDoor
namespace Go.Proofs.YtbjmmnegkpeboaaGreatDoor
open Go Go.Rx Go.RowKit Go.Proofs
namespace words
def px:Go.Shelf.Ren:=⟨fun | 156=>65 | 165=>92 | 166=>93 | 169=>44 | 240=>75 | 241=>113 | 276=>101 | 277=>128 | n=>n,fun | 31=>79 | 9=>9 | 3=>3 | 4=>4 | 0=>0 | 20=>20 | 72=>87 | 76=>133 | 70=>85 | 37=>44 | 75=>90 | 127=>121 | 164=>142 | 5=>5 | 80=>93 | n=>n,fun | n=>n⟩
theorem Hd:Go.Proofs.Lays.n156 Tryz.prog px where
 mixed:=by kernel_rfl
 f156:=Tryz.func65.trans (congrArg some (by kernel_rfl))
 f165:=Tryz.func92.trans (congrArg some (by kernel_rfl))
 f166:=Tryz.func93.trans (congrArg some (by kernel_rfl))
 f169:=Tryz.func44.trans (congrArg some (by kernel_rfl))
 f240:=Tryz.func75.trans (congrArg some (by kernel_rfl))
 f241:=Tryz.func113.trans (congrArg some (by kernel_rfl))
 f276:=Tryz.func101.trans (congrArg some (by kernel_rfl))
 f277:=Tryz.func128.trans (congrArg some (by kernel_rfl))
 t0:=Tryz.underlying0
 a0:=Tryz.isAgg0
 z0:=Tryz.sizeOf0
 v0:=Tryz.zeroValue0
 t3:=Tryz.underlying3
 a3:=Tryz.isAgg3
 z3:=Tryz.sizeOf3
 v3:=Tryz.zeroValue3
 t4:=Tryz.underlying4
 a4:=Tryz.isAgg4
 z4:=Tryz.sizeOf4
 v4:=Tryz.zeroValue4
 t9:=Tryz.underlying9
 a9:=Tryz.isAgg9
 z9:=Tryz.sizeOf9
 v9:=Tryz.zeroValue9
 t20:=Tryz.underlying20
 a20:=Tryz.isAgg20
 z20:=Tryz.sizeOf20
 v20:=Tryz.zeroValue20
 t31:=Tryz.underlying79
 a31:=Tryz.isAgg79
 z31:=Tryz.sizeOf79
 v31:=Tryz.zeroValue79
 t37:=Tryz.underlying44
 a37:=Tryz.isAgg44
 z37:=Tryz.sizeOf44
 v37:=Tryz.zeroValue44
 t70:=Tryz.underlying85
 a70:=Tryz.isAgg85
 z70:=Tryz.sizeOf85
 v70:=Tryz.zeroValue85
 t72:=Tryz.underlying87
 a72:=Tryz.isAgg87
 z72:=Tryz.sizeOf87
 v72:=Tryz.zeroValue87
 t75:=Tryz.underlying90
 a75:=Tryz.isAgg90
 z75:=Tryz.sizeOf90
 v75:=Tryz.zeroValue90
 t76:=Tryz.underlying133
 a76:=Tryz.isAgg133
 z76:=Tryz.sizeOf133
 v76:=Tryz.zeroValue133
 t127:=Tryz.underlying121
 a127:=Tryz.isAgg121
 z127:=Tryz.sizeOf121
 v127:=Tryz.zeroValue121
 t164:=Tryz.underlying142
 a164:=Tryz.isAgg142
 z164:=Tryz.sizeOf142
 v164:=Tryz.zeroValue142

def xR:Go.Shelf.Ren:=⟨fun | 171=>24 | 243=>66 | 246=>94 | 283=>114 | 284=>115 | 285=>116 | 286=>117 | 129=>130 | 317=>129 | 318=>131 | 319=>132 | 320=>133 | 337=>146 | 338=>147 | n=>n,fun | 3=>3 | 9=>9 | 2=>2 | 4=>4 | 171=>150 | 0=>0 | 53=>32 | 37=>44 | 5=>5 | 173=>153 | 212=>161 | 51=>72 | 20=>20 | 213=>162 | 46=>92 | 232=>178 | 233=>179 | n=>n,fun | 17=>1 | 18=>3 | 19=>4 | n=>n⟩
theorem HL:Go.Proofs.LaysM.n171 Tryz.prog xR where
 mixed:=by kernel_rfl
 f129:=Tryz.func130.trans (congrArg some (by kernel_rfl))
 f171:=Tryz.func24.trans (congrArg some (by kernel_rfl))
 f243:=Tryz.func66.trans (congrArg some (by kernel_rfl))
 f246:=Tryz.func94.trans (congrArg some (by kernel_rfl))
 f283:=Tryz.func114.trans (congrArg some (by kernel_rfl))
 f284:=Tryz.func115.trans (congrArg some (by kernel_rfl))
 f285:=Tryz.func116.trans (congrArg some (by kernel_rfl))
 f286:=Tryz.func117.trans (congrArg some (by kernel_rfl))
 f317:=Tryz.func129.trans (congrArg some (by kernel_rfl))
 f318:=Tryz.func131.trans (congrArg some (by kernel_rfl))
 f319:=Tryz.func132.trans (congrArg some (by kernel_rfl))
 f320:=Tryz.func133.trans (congrArg some (by kernel_rfl))
 f337:=Tryz.func146.trans (congrArg some (by kernel_rfl))
 f338:=Tryz.func147.trans (congrArg some (by kernel_rfl))
 t0:=Tryz.underlying0
 a0:=Tryz.isAgg0
 z0:=Tryz.sizeOf0
 v0:=Tryz.zeroValue0
 t2:=Tryz.underlying2
 a2:=Tryz.isAgg2
 z2:=Tryz.sizeOf2
 v2:=Tryz.zeroValue2
 t3:=Tryz.underlying3
 a3:=Tryz.isAgg3
 z3:=Tryz.sizeOf3
 v3:=Tryz.zeroValue3
 t4:=Tryz.underlying4
 a4:=Tryz.isAgg4
 z4:=Tryz.sizeOf4
 v4:=Tryz.zeroValue4
 t5:=Tryz.underlying5
 a5:=Tryz.isAgg5
 z5:=Tryz.sizeOf5
 v5:=Tryz.zeroValue5
 t9:=Tryz.underlying9
 a9:=Tryz.isAgg9
 z9:=Tryz.sizeOf9
 v9:=Tryz.zeroValue9
 t20:=Tryz.underlying20
 a20:=Tryz.isAgg20
 z20:=Tryz.sizeOf20
 v20:=Tryz.zeroValue20
 t37:=Tryz.underlying44
 a37:=Tryz.isAgg44
 z37:=Tryz.sizeOf44
 v37:=Tryz.zeroValue44
 t46:=Tryz.underlying92
 a46:=Tryz.isAgg92
 z46:=Tryz.sizeOf92
 v46:=Tryz.zeroValue92
 t51:=Tryz.underlying72
 a51:=Tryz.isAgg72
 z51:=Tryz.sizeOf72
 v51:=Tryz.zeroValue72
 t53:=Tryz.underlying32
 a53:=Tryz.isAgg32
 z53:=Tryz.sizeOf32
 v53:=Tryz.zeroValue32
 t171:=Tryz.underlying150
 a171:=Tryz.isAgg150
 z171:=Tryz.sizeOf150
 v171:=Tryz.zeroValue150
 t173:=Tryz.underlying153
 a173:=Tryz.isAgg153
 z173:=Tryz.sizeOf153
 v173:=Tryz.zeroValue153
 t212:=Tryz.underlying161
 a212:=Tryz.isAgg161
 z212:=Tryz.sizeOf161
 v212:=Tryz.zeroValue161
 t213:=Tryz.underlying162
 a213:=Tryz.isAgg162
 z213:=Tryz.sizeOf162
 t232:=Tryz.underlying178
 a232:=Tryz.isAgg178
 z232:=Tryz.sizeOf178
 v232:=Tryz.zeroValue178
 t233:=Tryz.underlying179
 a233:=Tryz.isAgg179
 z233:=Tryz.sizeOf179
 v233:=Tryz.zeroValue179
 g17:=by kernel_rfl
 g18:=by kernel_rfl
 g19:=by kernel_rfl
 i0:=by kernel_rfl
 i2:=by kernel_rfl
 i3:=by kernel_rfl
 i4:=by kernel_rfl
 i5:=by kernel_rfl
 i9:=by kernel_rfl
 i20:=by kernel_rfl
 i37:=by kernel_rfl
 i46:=by kernel_rfl
 i51:=by kernel_rfl
 i53:=by kernel_rfl
 i171:=by kernel_rfl
 i173:=by kernel_rfl
 i212:=by kernel_rfl
 i232:=by kernel_rfl
 i233:=by kernel_rfl
 m17:=by kernel_rfl
 m18:=by kernel_rfl
 m19:=by kernel_rfl

theorem D4:Builder.Extra Tryz.prog px where
 sizeBuilder:=by kernel_rfl
 liesBuilder:=by kernel_rfl
 t5:=Tryz.underlying5
 a5:=Tryz.isAgg5
 z5:=Tryz.sizeOf5
 v5:=Tryz.zeroValue5
 infoByte:=by kernel_rfl
 cellsByte:=by kernel_rfl
 sizeByte:=by kernel_rfl
 neB5:=by decide
theorem Cv:xf Tryz.prog 65:=
 ⟨⟨_,Tryz.func65,by kernel_rfl,by kernel_rfl⟩,fun bk o c xs sep w h1 h2 h3 h4 h5=>Any.strings_Join Hd D4 bk o c xs sep w h1 h2 h3 h4 (by simpa [cL,ByteArray.size] using h5)⟩
def fG (w : World) : Prop := Lib.TabIs Tryz.prog w "internal/strconv.uint64pow10" .u64 Lib.pow10Tab
theorem tR (w:World) (k:Nat) (os:Array Obj):Below w.heap.size w (Go.Sort.grow (w.drewN k) os):=
 ⟨rfl,rfl,rfl,by rw [Go.Sort.size_grow];exact Nat.le_add_right _ _,fun j hj=>Go.Sort.heap_grow_old (w.drewN k) os hj⟩
def pK:PS:=fun args=>match args with | [.int .i64 n]=>some (.string ⟨(Lib.itoa n).toArray⟩,-9223372036854775808<=n/\n<=9223372036854775807) | _=>none
theorem wV:bW Tryz.prog fG (24,pK):=by
 refine ⟨⟨_,Tryz.func24,by kernel_rfl,by kernel_rfl⟩,fun args v p h hp w hX=>?_⟩;dsimp only [pK] at h;split at h
 ·rename_i n;cases h;refine (Any.strconv_Itoa HL n hp.1 hp.2 w hX).mono fun e w' ⟨he,k,os,hw⟩=>⟨?_,he⟩;subst hw;exact tR w k os
 ·cases h
open Go Go.Rx Go.RowKit
def bQ (n:Nat):ByteArray:=⟨(Lib.decDigits n).toArray⟩
def vH (m:Int):PS:=fun args=>match args with | [.int .u64 k]=>some (.string (bQ k.toNat),0<=k/\k<m) | _=>none
def EN (m:Int):Env:=EP [(38,vH m)] []
def j5:PS:=fun args=>match args with | [.int .i64 n]=>some (.string ⟨(Lib.itoa n).toArray⟩,-9223372036854775808<=n/\n<=9223372036854775807) | _=>none
theorem n0 (m k:Int) (v:Value):ao (EN m) 38 100 (a7 (EN m) 38 [.v (.int .u64 k)]) [(0,.b true)] v=[VS ((⟨⟨[48,49,50,51,52,53,54,55,56,57]⟩⟩:ByteArray).extract k.toNat (IntKind.u64.wrap (k+1)).toNat)=v,decide (0<=k/\k<=(↑(IntKind.u64.wrap (k+1)).toNat:Int))=true,decide (0<=IntKind.u64.wrap (k+1)/\IntKind.u64.wrap (k+1)<=(↑(10:Nat):Int))=true,decide (k<10)=true]:=by kernel_rfl
theorem n1 (m k:Int) (v:Value):ao (EN m) 38 100 (a7 (EN m) 38 [.v (.int .u64 k)]) [(0,.b false)] v=[VS (bQ (IntKind.u64.wrap (k.tdiv 10)).toNat++bQ (k.tmod 10).toNat)=v,((bQ (IntKind.u64.wrap (k.tdiv 10)).toNat).size+(bQ (k.tmod 10).toNat).size).le 9223372036854775807,0<=k.tmod 10/\k.tmod 10<m,0<=IntKind.u64.wrap (k.tdiv 10)/\IntKind.u64.wrap (k.tdiv 10)<m,decide (k<10)=false]:=by kernel_rfl
theorem s0 (k:Int) (v:Value):ao (EN 18446744073709551616) 30 100 (a7 (EN 18446744073709551616) 30 [.v (.int .i64 k)]) [(0,.b true)] v=[VS ((⟨⟨[45]⟩⟩:ByteArray)++bQ (IntKind.u64.wrap (IntKind.u64.wrap (IntKind.i64.wrap (0 - IntKind.i64.wrap (k+1)))+1)).toNat)=v,(1+(bQ (IntKind.u64.wrap (IntKind.u64.wrap (IntKind.i64.wrap (0 - IntKind.i64.wrap (k+1)))+1)).toNat).size).le 9223372036854775807,0<=IntKind.u64.wrap (IntKind.u64.wrap (IntKind.i64.wrap (0 - IntKind.i64.wrap (k+1)))+1)/\IntKind.u64.wrap (IntKind.u64.wrap (IntKind.i64.wrap (0 - IntKind.i64.wrap (k+1)))+1)<18446744073709551616,decide (k<0)=true]:=by kernel_rfl
theorem s1 (k:Int) (v:Value):ao (EN 18446744073709551616) 30 100 (a7 (EN 18446744073709551616) 30 [.v (.int .i64 k)]) [(0,.b false)] v=[VS (bQ (IntKind.u64.wrap k).toNat)=v,0<=IntKind.u64.wrap k/\IntKind.u64.wrap k<18446744073709551616,decide (k<0)=false]:=by kernel_rfl
theorem JX:(List.range 10).all (fun n=>decide ((({ data:={ toList:=[(48:UInt8),(49:UInt8),(50:UInt8),(51:UInt8),(52:UInt8),(53:UInt8),(54:UInt8),(55:UInt8),(56:UInt8),(57:UInt8)]:Array UInt8 }:ByteArray }).extract n (n+1)).data.toList=[UInt8.ofNat (48+n)]))=true:=by kernel_rfl
theorem I6 {n:Nat} (h:n<10):(({ data:={ toList:=[(48:UInt8),(49:UInt8),(50:UInt8),(51:UInt8),(52:UInt8),(53:UInt8),(54:UInt8),(55:UInt8),(56:UInt8),(57:UInt8)]:Array UInt8 }:ByteArray }).extract n (n+1))=bQ n:=by
 have:=Ws (Wn.1 JX n (Xd.2 h));apply ByteArray.ext;apply Array.toList_inj.1;rw [this,bQ,Lib.decDigits_one h]
theorem DB {n:Nat} (h:¬ n<10):Lib.decDigits n=Lib.decDigits (n / 10)++Lib.decDigits (n % 10):=by
 rw [Lib.decDigits_one (Yh n (by omega)),Lib.decDigits,dif_neg h]
theorem BL {n:Nat} (h:¬ n<10):bQ (n / 10)++bQ (n % 10)=bQ n:=by
 unfold bQ;rw [DB h];apply ByteArray.ext;simp
theorem pC {n:Nat} (h:n<18446744073709551616):(bQ n).size<=20:=by
 have:Lib.nDigits n<=20:=by
  by_cases h1:1<=n
  ·have:=Lib.numDigits_eq n h1 h;split at this <;> omega
  ·rw [Lib.nDigits_small (by omega)];omega
 show (Lib.decDigits n).toArray.size<=20;rw [XJ,Lib.decDigits_length];exact this
theorem u64_in {k:Int} (h0:0<=k) (h1:k<18446744073709551616):IntKind.u64.wrap k=k:=by rw [IntKind.wrap_u64];omega
theorem BH:∀ m:Nat,m<=18446744073709551616->bW Tryz.prog (fun _=>True) (38,vH m)
 | 0,_=>by
  refine ⟨⟨_,Tryz.func38,by kernel_rfl,by kernel_rfl⟩,fun args v p h hp w hX=>?_⟩
  dsimp only [vH] at h
  split at h
  ·cases h;omega
  ·cases h
 | m+1,hm=>by
  have ih:=BH m (by omega)
  have K:∀ {M:Own} {w0:World},aK (EN m) M w0:=fun {M w0}=>fJ fun r h=>by
   simp only [V8,Ww,Xc] at h
   rcases h with rfl
   exact ih
  refine ⟨⟨_,Tryz.func38,by kernel_rfl,by kernel_rfl⟩,fun args v p h hp w hX=>?_⟩
  dsimp only [vH] at h
  split at h
  ·rename_i k
   cases h
   obtain ⟨n,rfl⟩:∃ n:Nat,k=n:=⟨k.toNat,by omega⟩
   refine (eD (E:=EN m) rfl rfl (Q:=fun v=>v=.string (bQ n)) (args:=[.v (.int .u64 n)]) (a:=[.int .u64 n]) w (S0:=a7 (EN m) 38 [.v (.int .u64 n)]) (by kernel_rfl) (au.cons (VR.ae.2 rfl) au.nil) fun cs0=>?_).mono fun e w' ⟨h1,u,h2,h3⟩=>⟨h1,by rw [h2,h3];rfl⟩
   by_cases h10:n<10
   ·refine af.ao K (n:=100) (o:=[(0,.b true)]) (v:=.string (bQ n)) ?_ fun ν' M1 w1 s' w' _ hB hr=>⟨aB aE hB hr,_,rfl,rfl⟩
    rw [n0]
    have hw:IntKind.u64.wrap ((n:Int)+1)=((n+1:Nat):Int):=by rw [u64_in (by omega) (by omega)];omega
    simp only [ah,hw,V5,I6 h10,VW,VX]
    repeat' apply And.intro
    all_goals first | rfl | exact V0 (by omega)
   ·refine af.ao K (n:=100) (o:=[(0,.b false)]) (v:=.string (bQ n)) ?_ fun ν' M1 w1 s' w' _ hB hr=>⟨aB aE hB hr,_,rfl,rfl⟩
    rw [n1]
    have e1:(n:Int).tdiv 10=((n / 10:Nat):Int):=rfl
    have e2:(n:Int).tmod 10=((n % 10:Nat):Int):=rfl
    have hw:IntKind.u64.wrap ((n / 10:Nat):Int)=((n / 10:Nat):Int):=u64_in (by omega) (by omega)
    have l1:=pC (n:=n / 10) (by omega)
    have l2:=pC (n:=n % 10) (by omega)
    simp only [ah,e1,e2,hw,V5,BL h10,VW,VX]
    repeat' apply And.intro
    all_goals first | rfl | omega | exact V2 (by omega) | (show (_:Nat)<=_;omega)
  ·cases h
theorem KN {M:Own} {w0:World}:aK (EN 18446744073709551616) M w0:=fJ fun r h=>by
 simp only [V8,Ww,Xc] at h
 rcases h with rfl
 exact BH 18446744073709551616 (Wx _)
theorem EE {n:Int} (h:n<0):(⟨#[45]⟩:ByteArray)++bQ n.natAbs=⟨(Lib.itoa n).toArray⟩:=by
 unfold Lib.itoa bQ;rw [if_pos h];apply ByteArray.ext;simp
theorem Ec {n:Int} (h:¬ n<0):bQ n.toNat=⟨(Lib.itoa n).toArray⟩:=by
 unfold Lib.itoa bQ;rw [if_neg h]
theorem qb:bW Tryz.prog (fun _=>True) (30,j5):=by
 refine ⟨⟨_,Tryz.func30,by kernel_rfl,by kernel_rfl⟩,fun args v p h hp w hX=>?_⟩;dsimp only [j5] at h;split at h
 ·rename_i k;cases h;refine (eD (E:=EN 18446744073709551616) rfl rfl (Q:=fun v=>v=.string ⟨(Lib.itoa k).toArray⟩) (args:=[.v (.int .i64 k)]) (a:=[.int .i64 k]) w (S0:=a7 (EN 18446744073709551616) 30 [.v (.int .i64 k)]) (by kernel_rfl) (au.cons (VR.ae.2 rfl) au.nil) fun cs0=>?_).mono fun e w' ⟨h1,u,h2,h3⟩=>⟨h1,by rw [h2,h3]⟩;by_cases h0:k<0
  ·refine af.ao KN (n:=100) (o:=[(0,.b true)]) (v:=.string ⟨(Lib.itoa k).toArray⟩) ?_ fun ν' M1 w1 s' w' _ hB hr=>⟨aB aE hB hr,_,rfl,rfl⟩;rw [s0];obtain ⟨j,rfl⟩:∃ j:Nat,k=-((j:Int)+1):=⟨(-k - 1).toNat,by omega⟩;have e1:IntKind.i64.wrap (-((j:Int)+1)+1)=-(j:Int):=by rw [Xz _ (by omega)];omega
   have e2:IntKind.i64.wrap (0 - -(j:Int))=(j:Int):=by rw [Xz _ (by omega)];omega
   have e3:IntKind.u64.wrap (j:Int)=(j:Int):=u64_in (by omega) (by omega);have e4:IntKind.u64.wrap ((j:Int)+1)=((j+1:Nat):Int):=by rw [u64_in (by omega) (by omega)];omega
   have e5:=EE (n:=-((j:Int)+1)) h0;have e6:(-((j:Int)+1)).natAbs=j+1:=by omega
   rw [e6] at e5;have l1:=pC (n:=j+1) (by omega);simp only [ah,e1,e2,e3,e4,V5,e5,VW,VX];repeat' apply And.intro
   all_goals first | rfl | omega | exact V0 (by omega) | (show (_:Nat)<=_;omega)
  ·refine af.ao KN (n:=100) (o:=[(0,.b false)]) (v:=.string ⟨(Lib.itoa k).toArray⟩) ?_ fun ν' M1 w1 s' w' _ hB hr=>⟨aB aE hB hr,_,rfl,rfl⟩;rw [s1];have e1:IntKind.u64.wrap k=k:=u64_in (by omega) (by omega);simp only [ah,e1,Ec h0,VW,VX];repeat' apply And.intro
   all_goals first | rfl | omega | exact V2 (by omega)
 ·cases h
end words
open Go Go.Rx Go.RowKit Go.Shelf Go.Sort Go.Lib Go.Proofs
namespace fmtU
def BK:Go.Shelf.Ren:=⟨fun | 284=>115 | 129=>130 | 317=>129 | 318=>131 | n=>n,fun | 53=>32 | 3=>3 | 212=>161 | 0=>0 | 4=>4 | 46=>92 | 5=>5 | 9=>9 | n=>n,fun | 17=>1 | n=>n⟩
theorem LM:Go.Proofs.LaysM.n284 Tryz.prog BK where
 mixed:=by kernel_rfl
 f129:=Tryz.func130.trans (congrArg some (by kernel_rfl))
 f284:=Tryz.func115.trans (congrArg some (by kernel_rfl))
 f317:=Tryz.func129.trans (congrArg some (by kernel_rfl))
 f318:=Tryz.func131.trans (congrArg some (by kernel_rfl))
 t0:=Tryz.underlying0
 a0:=Tryz.isAgg0
 z0:=Tryz.sizeOf0
 v0:=Tryz.zeroValue0
 t3:=Tryz.underlying3
 a3:=Tryz.isAgg3
 z3:=Tryz.sizeOf3
 v3:=Tryz.zeroValue3
 t4:=Tryz.underlying4
 a4:=Tryz.isAgg4
 z4:=Tryz.sizeOf4
 v4:=Tryz.zeroValue4
 t5:=Tryz.underlying5
 a5:=Tryz.isAgg5
 z5:=Tryz.sizeOf5
 v5:=Tryz.zeroValue5
 t9:=Tryz.underlying9
 a9:=Tryz.isAgg9
 z9:=Tryz.sizeOf9
 v9:=Tryz.zeroValue9
 t46:=Tryz.underlying92
 a46:=Tryz.isAgg92
 z46:=Tryz.sizeOf92
 v46:=Tryz.zeroValue92
 t53:=Tryz.underlying32
 a53:=Tryz.isAgg32
 z53:=Tryz.sizeOf32
 v53:=Tryz.zeroValue32
 t212:=Tryz.underlying161
 a212:=Tryz.isAgg161
 z212:=Tryz.sizeOf161
 v212:=Tryz.zeroValue161
 g17:=by kernel_rfl
 i0:=by kernel_rfl
 i3:=by kernel_rfl
 i4:=by kernel_rfl
 i5:=by kernel_rfl
 i9:=by kernel_rfl
 i46:=by kernel_rfl
 i53:=by kernel_rfl
 i212:=by kernel_rfl
 m17:=by kernel_rfl

def Bb:Go.Shelf.Ren:=⟨fun | 285=>116 | n=>n,fun | 37=>44 | 53=>32 | 3=>3 | 4=>4 | 51=>72 | 9=>9 | 5=>5 | 0=>0 | n=>n,fun | n=>n⟩
theorem Mk:Go.Proofs.Lays.n285 Tryz.prog Bb where
 mixed:=by kernel_rfl
 f285:=Tryz.func116.trans (congrArg some (by kernel_rfl))
 t0:=Tryz.underlying0
 a0:=Tryz.isAgg0
 z0:=Tryz.sizeOf0
 v0:=Tryz.zeroValue0
 t3:=Tryz.underlying3
 a3:=Tryz.isAgg3
 z3:=Tryz.sizeOf3
 v3:=Tryz.zeroValue3
 t4:=Tryz.underlying4
 a4:=Tryz.isAgg4
 z4:=Tryz.sizeOf4
 v4:=Tryz.zeroValue4
 t5:=Tryz.underlying5
 a5:=Tryz.isAgg5
 z5:=Tryz.sizeOf5
 v5:=Tryz.zeroValue5
 t9:=Tryz.underlying9
 a9:=Tryz.isAgg9
 z9:=Tryz.sizeOf9
 v9:=Tryz.zeroValue9
 t37:=Tryz.underlying44
 a37:=Tryz.isAgg44
 z37:=Tryz.sizeOf44
 v37:=Tryz.zeroValue44
 t51:=Tryz.underlying72
 a51:=Tryz.isAgg72
 z51:=Tryz.sizeOf72
 v51:=Tryz.zeroValue72
 t53:=Tryz.underlying32
 a53:=Tryz.isAgg32
 z53:=Tryz.sizeOf32
 v53:=Tryz.zeroValue32

def BC:Go.Shelf.Ren:=⟨fun | 283=>114 | n=>n,fun | 3=>3 | 9=>9 | 4=>4 | n=>n,fun | n=>n⟩
theorem La:Go.Proofs.Lays.n283 Tryz.prog BC where
 mixed:=by kernel_rfl
 f283:=Tryz.func114.trans (congrArg some (by kernel_rfl))
 t3:=Tryz.underlying3
 a3:=Tryz.isAgg3
 z3:=Tryz.sizeOf3
 v3:=Tryz.zeroValue3
 t4:=Tryz.underlying4
 a4:=Tryz.isAgg4
 z4:=Tryz.sizeOf4
 v4:=Tryz.zeroValue4
 t9:=Tryz.underlying9
 a9:=Tryz.isAgg9
 z9:=Tryz.sizeOf9
 v9:=Tryz.zeroValue9


theorem zu (w:World) (T:TypeId) (nd:Nat) (hs:nd<=24):Holds (fun (b:UInt8)=>Value.int .u8 (b.toNat:Int)) (w.alloc (.cells zeros24 T)) w.heap.size 0 (Array.replicate nd (0:UInt8)):=fun j hj=>by
 have hj':j<nd:=by simpa using hj
 refine ⟨?_,World.frozen?_alloc_new _ _ _ _⟩
 rw [World.cell?_alloc_new,zeros24_at _ (by omega),getElem!_pos _ j hj]
 simp
theorem P8 (w:World) (o:Obj) (dk:Array UInt8) (k:Nat):∃ os,(putRow (fun (b:UInt8)=>Value.int .u8 (b.toNat:Int)) (w.alloc o) w.heap.size 0 dk).drewN k=grow (w.drewN k) os:=by
 rw [alloc_eq_grow];obtain ⟨os',_,e⟩:=putRow_grow_new (fun (b:UInt8)=>Value.int .u8 (b.toNat:Int)) w #[o] w.heap.size 0 dk (Wx _);exact ⟨os',by rw [e];rfl⟩
set_option maxHeartbeats 6400000 in
theorem G1 (u : Nat) (hu64 : u < 18446744073709551616) (w : World) (htab : Lib.TabIs Tryz.prog w "internal/strconv.uint64pow10" .u64 Lib.pow10Tab) :
  Calls Tryz.prog 96 #[.int .u64 u,.int .i64 10] w fun e w'=>e=.returned (.string ⟨(Lib.decDigits u).toArray⟩)/\∃ k os,w'=grow (w.drewN k) os:=by
 by_cases hs:u<100
 ·have hw:IntKind.i64.wrap (u:Int)=u:=Xz _ (by omega);go_enter Tryz.func96,Tryz.ntmps96
  go_wp2_with (go_at_call 114;refine (Any.internal_strconv_small La u hs _).mono ?_;rintro e w' ⟨rfl,rfl⟩)

  go_ret
  exact ⟨rfl,0,#[],by simp [World.drewN_zero]⟩
 ·have hu1:1<=u:=by omega
  have hnd20:Lib.nDigits u<=20:=by have:=Lib.numDigits_eq u hu1 hu64;split at this <;> omega
  have hal:Tryz.prog.arrayLen 150=24:=by simp [Program.arrayLen,Tryz.underlying150]
  have hsl1:∀ W,(Instr.sliceAt 150 (.pointer (some ⟨w.heap.size,0,none⟩)) none (some (.int .i64 (Lib.nDigits u:Int))) none).run Tryz.prog W=.ok (.slice (some ⟨w.heap.size,0,none⟩) (Lib.nDigits u) 24) W:=fun W=>by
   rw [run_sliceAt_array_h W 150 ⟨w.heap.size,0,none⟩ (by simp [Program.arrayLen,Program.elem,Tryz.underlying150]) .i64 (Lib.nDigits u:Int) (by omega) (by rw [hal];omega)];go_simp
  have hH0:=zu w 150 (Lib.nDigits u) (by omega);have hfmt:=Any.internal_strconv_formatBase10 Mk w.heap.size 0 24 u (Array.replicate (Lib.nDigits u) 0) (w.alloc (.cells Lib.zeros24 150)) hH0 (by rw [Yt];exact Lib.lt_pow_nDigits u) hu64 (by rw [Yt];omega);rw [Yt] at hfmt;have HH0:=Lib.hid hH0;clear hH0 hal;go_enter Tryz.func96,Tryz.ntmps96
  go_wp2_with (first
   | (go_at_call 115;refine (Any.internal_strconv_numDigits LM u hu1 hu64 _ (Lib.tabIs_alloc htab _)).mono ?_;rintro e w' ⟨rfl,rfl⟩))

  go_at_call 116
  refine hfmt.mono ?_;rintro e w' ⟨rfl,k,v',dk,rfl,hF⟩
  have hcv:(convert 44 9 (.slice (some ⟨w.heap.size,0,none⟩) (Lib.nDigits u) 24)).run Tryz.prog ((putRow (fun (b:UInt8)=>Value.int .u8 (b.toNat:Int)) (w.alloc (.cells Lib.zeros24 150)) w.heap.size 0 dk).drewN k)=.ok (.string ⟨(Lib.decDigits u).toArray⟩) ((putRow (fun (b:UInt8)=>Value.int .u8 (b.toNat:Int)) (w.alloc (.cells Lib.zeros24 150)) w.heap.size 0 dk).drewN k):=by
   have h:=run_convert_bytes_back (P:=Tryz.prog) ((putRow (fun (b:UInt8)=>Value.int .u8 (b.toNat:Int)) (w.alloc (.cells Lib.zeros24 150)) w.heap.size 0 dk).drewN k) 44 9 5 ⟨w.heap.size,0,none⟩ 24 (Lib.decDigits u) Tryz.underlying44 Tryz.underlying5 Tryz.underlying9 (fun j hj=>by
    rw [Lib.row_is_numeral hF j hj,Lib.add_plain,World.cell?_drewN];exact cell?_putRow (fun (b:UInt8)=>Value.int .u8 (b.toNat:Int)) _ w.heap.size 0 _ dk HH0.out (by rw [hF.size,Yt]) j (by rw [hF.size];rw [Lib.decDigits_length] at hj;exact hj))
   rw [Lib.decDigits_length] at h;exact h
  go_wp2
  go_ret
  obtain ⟨os,eo⟩:=P8 w (.cells Lib.zeros24 150) dk k;exact ⟨rfl,k,os,eo⟩
end fmtU
end Go.Proofs.YtbjmmnegkpeboaaGreatDoor
namespace Go.Rx
open Go.RowKit (Below)
theorem qw {E:Env} {w:World} {f:FuncId} {R:Ending->World->Prop} {P:Program} (hP:E.P=P) {args:List SV} {a:List Value} {d:Nat} {l:List (Nat × Nat)} {os:List SO} {S0:SM} (hlen:l.length=os.length) (hd:os.length<=2 ^ d) (hn:(l.map (·.1)).Nodup)
  (ho:∀ (i:Nat) (o:SO) (b c:Nat),os[i]?=some o->l[i]?=some (b,c)->∃ r,w.heap[b]?=some r/\OR (aA l) i o r) (hG:∀ g i,E.G.lookup g=some i->∃ c,l[i]?=some (g,c)) (ζ:a6 E f args (bG d os.length 0 (os.map fun o=>some (o,false)))=some S0) (ha:au (aA l) args a)
  (hs:∀ cs0,af E (aD l (os.map fun o=>(o,false))) w cs0 f R (aA l) S0):Calls P f a.toArray w R:=by
 subst hP
 have ZN:∀ (i:Nat) (o:SO) (m:Bool) (b c:Nat),(os.map fun o=>(o,false))[i]?=some (o,m)->l[i]?=some (b,c)->∃ r,w.heap[b]?=some r/\OR (aA l) i o r:=by
  intro i o m b c h1 h2;rw [Wv] at h1;obtain ⟨o',h3,h4⟩:=Wg.1 h1;cases h4;exact ho i o b c h3 h2
 have hr:=Ak (d:=d) (w:=w) (by simpa using hlen) (by simpa using hd) hn ZN;rw [WI,WH] at hr;exact iz ζ hr (dN ZN) (fun _ h=>h) hG ha hs
end Go.Rx
namespace Go.Proofs.YtbjmmnegkpeboaaGreatDoor
open Go Go.Rx Go.RowKit Go.Proofs
namespace paths
namespace crc
def HP:Env:=EP [] [(0,0)]
theorem OU {M:Own} {w0:World}:aK HP M w0:=kq (X:=fun _=>True) (fun r h=>by cases h) fun ν s w hr hg=>trivial
def Hn (s:Int) (tb l:List SV) (off n c:Nat):SM:=(a6 HP 95 [.v (.int .u32 s),.sl 1 off n (some c)] (bG 6 2 0 [cv tb,cv l])).getD dn
def LK:List SI:=dB HP 2 60 (Hn 0 [] [] 0 0 0) VP
def Fh (r:Int) (off n c:Nat) (i:Int):SF:={ fn:=95,tm:=fh 36 6 ([.v (.int .u32 r)]++List.replicate 8 .aH++[.sl 1 off n (some c),.v (.int .i64 n),.v (.int .i64 i)]++List.replicate 24 .aH),todo:=LK,defers:=[],ret:=false,kind:=.normal,ro:=none }
theorem Tv (s r:Int) (tb l:List SV) (off n c:Nat):reach HP 2 60 (Hn s tb l off n c) VP [(0,0),(1,1)] [0,1] (Fh r off n c 0) 6 [cv tb,cv l]=[V1 IntKind.u32 (IntKind.u32.wrap (↑(BitVec.ofInt 32 IntKind.u32.max ^^^ BitVec.ofInt 32 s).toNat:Int))=V1 IntKind.u32 r,off=off/\n=n/\some c=some c,vZ (↑n:Int)=vZ (↑n:Int),vZ 0=vZ 0,tb=tb,tb.all ab=true,l=l,l.all ab=true]:=by kernel_rfl
theorem Uk (r r' i i' z v1 v2:Int) (tb l:List SV) (off n c:Nat):reach HP 2 100 (SM.at (Fh r off n c i) 6 [cv tb,cv l]) (ff [0] true++[(2,.cells [.v (.int .u8 z)]),(4,.cells [.v (.int .u32 v1)]),(6,.cells [.v (.int .u32 v2)])]) [(0,0),(1,1)] [0,1] (Fh r' off n c i') 6 [cv tb,cv l]=[V1 IntKind.u32 (IntKind.u32.wrap (↑(BitVec.ofInt 32 ((IntKind.u32.wrap (↑(BitVec.ofInt 32 ((IntKind.u32.wrap (↑(BitVec.ofInt 32 r ^^^ BitVec.ofInt 32 (IntKind.u32.wrap z)).toNat:Int)).fdiv (2 ^ 4)) ^^^ BitVec.ofInt 32 v1).toNat:Int)).fdiv (2 ^ 4)) ^^^ BitVec.ofInt 32 v2).toNat:Int))=V1 IntKind.u32 r',off=off/\n=n/\some c=some c,vZ (↑n:Int)=vZ (↑n:Int),vZ (IntKind.i64.wrap (i+1))=vZ i',tb=tb,tb.all ab=true,l=l,l.all ab=true,tb[0+(IntKind.u32.wrap (↑(BitVec.ofInt 32 (IntKind.u32.wrap (↑(BitVec.ofInt 32 ((IntKind.u32.wrap (↑(BitVec.ofInt 32 r ^^^ BitVec.ofInt 32 (IntKind.u32.wrap z)).toNat:Int)).fdiv (2 ^ 4)) ^^^ BitVec.ofInt 32 v1).toNat:Int)) &&& BitVec.ofInt 32 15).toNat:Int)).toNat*1]?=some (SV.v (V1 IntKind.u32 v2)),ai (IntKind.u32.wrap (↑(BitVec.ofInt 32 (IntKind.u32.wrap (↑(BitVec.ofInt 32 ((IntKind.u32.wrap (↑(BitVec.ofInt 32 r ^^^ BitVec.ofInt 32 (IntKind.u32.wrap z)).toNat:Int)).fdiv (2 ^ 4)) ^^^ BitVec.ofInt 32 v1).toNat:Int)) &&& BitVec.ofInt 32 15).toNat:Int)) 16=true,tb[0+(IntKind.u32.wrap (↑(BitVec.ofInt 32 (IntKind.u32.wrap (↑(BitVec.ofInt 32 r ^^^ BitVec.ofInt 32 (IntKind.u32.wrap z)).toNat:Int)) &&& BitVec.ofInt 32 15).toNat:Int)).toNat*1]?=some (SV.v (V1 IntKind.u32 v1)),ai (IntKind.u32.wrap (↑(BitVec.ofInt 32 (IntKind.u32.wrap (↑(BitVec.ofInt 32 r ^^^ BitVec.ofInt 32 (IntKind.u32.wrap z)).toNat:Int)) &&& BitVec.ofInt 32 15).toNat:Int)) 16=true,l[off+i.toNat*1]?=some (SV.v (V1 IntKind.u8 z)),ai i n=true,decide (i<(↑n:Int))=true]:=by kernel_rfl
theorem Re (r i:Int) (tb l:List SV) (off n c:Nat) (v:Value):ao HP 95 60 (SM.at (Fh r off n c i) 6 [cv tb,cv l]) (ff [0] false) v=[V1 IntKind.u32 (IntKind.u32.wrap (↑(BitVec.ofInt 32 IntKind.u32.max ^^^ BitVec.ofInt 32 r).toNat:Int))=v,decide (i<(↑n:Int))=false]:=by kernel_rfl
def GV (s:Int) (l:List SV) (off n c:Nat):SM:=(a6 bn 69 [.v (.int .u32 s),.sl 0 off n (some c)] (bG 6 1 0 [cv l])).getD dn
def LQ:List SI:=dB bn 2 60 (GV 0 [] 0 0 0) VP
def DK (r:Int) (off n c:Nat) (i:Int):SF:={ fn:=69,tm:=fh 38 6 ([.aH,.sl 0 off n (some c),.aH,.aH,.aH,.v (.int .u32 r),.v (.int .i64 i)]++List.replicate 31 .aH),todo:=LQ,defers:=[],ret:=false,kind:=.normal,ro:=none }
def MK:List SI:=dB bn 6 60 (SM.at (DK 0 0 0 0 0) 6 [cv []]) (ff [0] true++[(2,.cells [.v (.int .u8 0)])])
def y7 (r:Int) (off n c:Nat) (i k:Int):SF:={ fn:=69,tm:=fh 38 6 ([.aH,.sl 0 off n (some c),.aH,.aH,.aH,.v (.int .u32 r),.v (.int .i64 i),.v (.int .i64 k)]++List.replicate 30 .aH),todo:=MK,defers:=[],ret:=false,kind:=.normal,ro:=none }
theorem RS (s r:Int) (l:List SV) (off n c:Nat):reach bn 2 60 (GV s l off n c) VP [(0,0)] [0] (DK r off n c 0) 6 [cv l]=[off=off/\n=n/\some c=some c,V1 IntKind.u32 (IntKind.u32.wrap (4294967295 - s))=V1 IntKind.u32 r,vZ 0=vZ 0,l=l,l.all ab=true]:=by kernel_rfl
theorem TP (r r' i z:Int) (l:List SV) (off n c:Nat):reach bn 6 60 (SM.at (DK r off n c i) 6 [cv l]) (ff [0] true++[(2,.cells [.v (.int .u8 z)])]) [(0,0)] [0] (y7 r' off n c i 0) 6 [cv l]=[off=off/\n=n/\some c=some c,V1 IntKind.u32 (IntKind.u32.wrap (↑(BitVec.ofInt 32 r ^^^ BitVec.ofInt 32 (IntKind.u32.wrap z)).toNat:Int))=V1 IntKind.u32 r',vZ i=vZ i,vZ 0=vZ 0,l=l,l.all ab=true,l[off+i.toNat*1]?=some (SV.v (V1 IntKind.u8 z)),ai i n=true,decide (i<(↑n:Int))=true]:=by kernel_rfl
theorem TH (r r' i k k':Int) (l:List SV) (off n c:Nat):reach bn 6 60 (SM.at (y7 r off n c i k) 6 [cv l]) (ff [0,1] true) [(0,0)] [0] (y7 r' off n c i k') 6 [cv l]=[off=off/\n=n/\some c=some c,V1 IntKind.u32 (IntKind.u32.wrap (↑(BitVec.ofInt 32 (IntKind.u32.wrap (r.tdiv 2)) ^^^ BitVec.ofInt 32 2197175160).toNat:Int))=V1 IntKind.u32 r',vZ i=vZ i,vZ (IntKind.i64.wrap (k+1))=vZ k',l=l,l.all ab=true,(r.tmod (2:Int)==1)=true,decide (k<8)=true]:=by kernel_rfl
theorem Ud (r r' i k k':Int) (l:List SV) (off n c:Nat):reach bn 6 60 (SM.at (y7 r off n c i k) 6 [cv l]) (ff [0] true++ff [1] false) [(0,0)] [0] (y7 r' off n c i k') 6 [cv l]=[off=off/\n=n/\some c=some c,V1 IntKind.u32 (IntKind.u32.wrap (r.tdiv 2))=V1 IntKind.u32 r',vZ i=vZ i,vZ (IntKind.i64.wrap (k+1))=vZ k',l=l,l.all ab=true,(r.tmod (2:Int)==1)=false,decide (k<8)=true]:=by kernel_rfl
theorem Uh (r i i' k:Int) (l:List SV) (off n c:Nat):reach bn 2 60 (SM.at (y7 r off n c i k) 6 [cv l]) (ff [0] false) [(0,0)] [0] (DK r off n c i') 6 [cv l]=[off=off/\n=n/\some c=some c,V1 IntKind.u32 r=V1 IntKind.u32 r,vZ (IntKind.i64.wrap (i+1))=vZ i',l=l,l.all ab=true,decide (k<8)=false]:=by kernel_rfl
theorem S7 (r i:Int) (l:List SV) (off n c:Nat) (v:Value):ao bn 69 60 (SM.at (DK r off n c i) 6 [cv l]) (ff [0] false) v=[V1 IntKind.u32 (IntKind.u32.wrap (4294967295 - r))=v,decide (i<(↑n:Int))=false]:=by kernel_rfl
open Go Go.Rx Go.RowKit Go.Proofs
def st1 (n:Nat):Nat:=if n % 2=1 then (n / 2) ^^^ 2197175160 else n / 2
def q7 (n:Nat):Nat:=st1 (st1 (st1 (st1 n)))
def Mf:List Nat:=[0,274646895,549293790,820201905,1098587580,1361435347,1640403810,1905808397,2197175160,2460548119,2722870694,2987750089,3280807620,3553878443,3811616794,4084100981]
theorem rO (a b:Nat):st1 (a ^^^ b)=st1 a ^^^ st1 b:=by
 have h1:(a ^^^ b) / 2=a / 2 ^^^ b / 2:=by
  apply Nat.eq_of_testBit_eq;intro i;simp [Nat.testBit_div_two]
 have h2:(a ^^^ b) % 2=1↔¬ (a % 2=1↔b % 2=1):=by
  have:=Nat.testBit_xor a b 0;simp only [Nat.testBit_zero] at this
  have e:=decide_eq_decide.1 (show decide ((a ^^^ b) % 2=1)=decide (¬ (a % 2=1↔b % 2=1)) from by
   rw [this];by_cases ha:a % 2=1 <;> by_cases hb:b % 2=1 <;> simp [ha,hb])
  exact e
 unfold st1;by_cases ha:a % 2=1
 ·by_cases hb:b % 2=1
  ·rw [if_neg (by rw [h2];simp [ha,hb]),if_pos ha,if_pos hb,h1,Nat.xor_assoc,Nat.xor_comm (b / 2) 2197175160,<- Nat.xor_assoc 2197175160,Nat.xor_self,Nat.zero_xor]
  ·rw [if_pos (by rw [h2];simp [ha,hb]),if_pos ha,if_neg hb,h1,Nat.xor_assoc,Nat.xor_comm (b / 2),<- Nat.xor_assoc]
 ·by_cases hb:b % 2=1
  ·rw [if_pos (by rw [h2];simp [ha,hb]),if_neg ha,if_pos hb,h1,Nat.xor_assoc]
  ·rw [if_neg (by rw [h2];simp [ha,hb]),if_neg ha,if_neg hb,h1]
theorem JL (a b:Nat):q7 (a ^^^ b)=q7 a ^^^ q7 b:=by
 unfold q7;rw [rO,rO,rO,rO]
theorem Fx (q:Nat):q7 (16*q)=q:=by
 have e:∀ m:Nat,st1 (2*m)=m:=fun m=>by
  unfold st1;rw [if_neg (by omega)];omega
 unfold q7;rw [show 16*q=2*(2*(2*(2*q))) by omega,e,e,e,e]
theorem Ia:(List.range 16).all (fun k=>decide (some (q7 k)=Mf[k]?))=true:=by kernel_rfl
theorem Mc {k:Nat} (h:k<16):Mf[k]?=some (q7 k):=(Ws (Wn.1 Ia k (Xd.2 h))).symm
theorem Iw (n:Nat):(16*(n / 16)) ^^^ (n % 16)=n:=by
 apply Nat.eq_of_testBit_eq;intro i;rw [Nat.testBit_xor,show 16=2 ^ 4 from rfl,Nat.testBit_two_pow_mul,Nat.testBit_mod_two_pow,Nat.testBit_div_two_pow];by_cases h:i<4
 ·simp [h,show ¬ i≥4 by omega]
 ·simp [h,show i≥4 by omega,show 4+(i - 4)=i by omega,show i - 4+4=i by omega]
theorem half (n:Nat):(n / 16) ^^^ q7 (n % 16)=q7 n:=by
 conv=>rhs;rw [<- Iw n,JL,Fx]
def OY (n:Nat):Nat:=q7 (q7 n)
def uM (r:Nat) (zs:List Int):Nat:=zs.foldl (fun r z=>OY (r ^^^ z.toNat)) r
def eB (zs:List Int):Nat:=4294967295 - uM 4294967295 zs
theorem uu {n:Nat} (h:n<4294967296):st1 n<4294967296:=by
 unfold st1;split
 ·exact Nat.xor_lt_two_pow (n:=32) (by omega) (by decide)
 ·omega
theorem sM {n:Nat} (h:n<4294967296):q7 n<4294967296:=uu (uu (uu (uu h)))
theorem MC {n:Nat} (h:n<4294967296):OY n<4294967296:=sM (sM h)
theorem xm {a b:Nat} (ha:a<4294967296) (hb:b<4294967296):a ^^^ b<4294967296:=Nat.xor_lt_two_pow (n:=32) ha hb
theorem u32_in {k:Nat} (h:k<4294967296):IntKind.u32.wrap (k:Int)=(k:Int):=by
 rw [show IntKind.u32.wrap (k:Int)=(k:Int) % 4294967296 from rfl];omega
theorem x4 {a:Nat} (h:a<4294967296):(BitVec.ofInt 32 (a:Int)).toNat=a:=by
 rw [BitVec.ofInt_natCast,X2];omega
theorem ES {a b:Nat} (ha:a<4294967296) (hb:b<4294967296):IntKind.u32.wrap (((BitVec.ofInt 32 (a:Int) ^^^ BitVec.ofInt 32 (b:Int)).toNat:Nat):Int)=((a ^^^ b:Nat):Int):=by
 rw [BitVec.toNat_xor,x4 ha,x4 hb,u32_in (xm ha hb)]
theorem K9 {a:Nat} (ha:a<4294967296):IntKind.u32.wrap (((BitVec.ofInt 32 (a:Int) &&& BitVec.ofInt 32 15).toNat:Nat):Int)=((a % 16:Nat):Int):=by
 rw [show (15:Int)=((15:Nat):Int) from rfl,BitVec.toNat_and,x4 ha,x4 (by omega),show a &&& 15=a % 16 from Nat.and_two_pow_sub_one_eq_mod a 4,u32_in (by omega)]
theorem P3 {r:Nat} (h:r<4294967296):4294967295 ^^^ r=4294967295 - r:=by
 have h1:=BitVec.toNat_not (x:=BitVec.ofNat 32 r);rw [BitVec.not_def,BitVec.toNat_xor,BitVec.toNat_allOnes,X2,Yb (by omega)] at h1;exact h1
def bC (z:Int):List SV:=[.v (.int .u8 z)]
theorem L0 (z:Int):(bC z).length=1:=rfl
theorem mP (z:Int):(bC z).all ab=true:=rfl
def p6:List SV:=Mf.map fun n:Nat=>SV.v (.int .u32 (n:Int))
theorem qv:p6.all ab=true:=by kernel_rfl
theorem Ca {n:Nat}:p6[0+((n % 16:Nat):Int).toNat*1]?=some (.v (.int .u32 ((q7 (n % 16):Nat):Int))):=by
 rw [V5,W9,XQ];unfold p6;rw [Wv,Mc (Yh _ (by decide))];rfl
theorem Nl {off:Nat} {zs:List Int} {k:Nat} {z:Int} (h:zs[k]?=some z):(aT bC off zs)[off+(k:Int).toNat*1]?=some (.v (.int .u8 z)):=by
 have h1:=gF (off:=off) L0 h;rw [V5];have h2:((aT bC off zs).drop (off+k*1))[0]?=(bC z)[0]?:=by rw [<- h1,WO,if_pos (by decide)]
 rw [W7,Yc] at h2;exact h2
theorem vz {r:Nat} {zs:List Int} {i:Nat} (h:i<zs.length):uM r (zs.take (i+1))=OY (uM r (zs.take i) ^^^ zs[i].toNat):=by
 unfold uM;rw [Wp h,Yl];rfl
theorem ox {r:Nat} (hr:r<4294967296):∀ {zs:List Int},(∀ z∈zs,0<=z/\z<256)->uM r zs<4294967296
 | [],_=>hr
 | z::zs,h=>by
  have hz:=h z Wi
  exact ox (MC (xm hr (by omega))) fun y hy=>h y (Wb _ hy)
section
variable {w0:World} {cs0:List Frame} {R:Ending->World->Prop} {M:Own} {ν:aP} {zs:List Int} {off c:Nat}
theorem Gj (hν:∀ i b,ν i=some b->i=0\/i=1) (hM:∀ b,¬ M b) (Y2:zs.length<=140737488355328) (hz:∀ z∈zs,0<=z/\z<256) (hR:∀ w',Below w0.heap.size w0 w'->R (.returned (.int .u32 ((eB zs:Nat):Int))) w'):∀ (j i:Nat),i+j=zs.length->
  af HP M w0 cs0 95 R ν (SM.at (Fh ((uM 4294967295 (zs.take i):Nat):Int) off zs.length c (i:Int)) 6 [cv p6,cv (aT bC off zs)])
 | 0,i,hj=>by
  refine af.ao OU (n:=60) (o:=ff [0] false) (v:=.int .u32 ((eB zs:Nat):Int)) ?_ fun ν' M1 w1 s' w' _ hB hr=>hR w' (aB hM hB hr)
  have hl:=ox (r:=4294967295) (by decide) hz
  rw [Re,We (by omega),show IntKind.u32.max=((4294967295:Nat):Int) from rfl,ES (by decide) hl,P3 hl]
  simp only [ah,VV,VX,VW]
  exact ⟨V2 (by omega),rfl⟩
 | j+1,i,hj=>by
  have hi:i<zs.length:=by omega
  have nx:=Gj hν hM Y2 hz hR j (i+1) (by omega)
  rw [vz hi] at nx
  have hzi:=hz _ (WT hi)
  have hq:zs[i]?=some zs[i]:=V4 hi
  have hl:=ox (r:=4294967295) (zs:=zs.take i) (by decide) fun z h=>hz z (Yr h)
  generalize zs[i]=z at hzi hq nx
  generalize uM 4294967295 (zs.take i)=r at hl nx ⊢
  obtain ⟨y,rfl⟩:∃ y:Nat,z=y:=⟨z.toNat,by omega⟩
  rw [V5] at nx
  have t1:decide ((i:Int)<(zs.length:Int))=true:=V0 (by omega)
  have r1:=aJ hi
  have ra:=Nl (off:=off) hq
  have ws:IntKind.i64.wrap ((i:Int)+1)=((i+1:Nat):Int):=by rw [Xz _ (by omega)];omega
  have h0:y<4294967296:=by omega
  have h1:=xm hl h0
  have w0':IntKind.u32.wrap (y:Int)=(y:Int):=u32_in h0
  have x1:=ES hl h0
  generalize hx:r ^^^ y=x at h1 x1 nx
  have a1:=K9 h1
  have f1:=words.wj x
  have h2:x / 16<4294967296:=by omega
  have h3:q7 (x % 16)<4294967296:=sM (by omega)
  have x2:=ES h2 h3
  rw [half] at x2
  have h4:=sM h1
  have a2:=K9 h4
  have f2:=words.wj (q7 x)
  have h5:q7 x / 16<4294967296:=by omega
  have h6:q7 (q7 x % 16)<4294967296:=sM (by omega)
  have x3:=ES h5 h6
  rw [half] at x3
  have i1:ai ((x % 16:Nat):Int) 16=true:=aJ (Yh _ (by decide))
  have i2:ai ((q7 x % 16:Nat):Int) 16=true:=aJ (Yh _ (by decide))
  have c1:=Ca (n:=x)
  have c2:=Ca (n:=q7 x)
  have YX:(aT bC off zs).all ab=true:=ca mP
  refine af.reach OU (k:=2) (n:=100) (o:=ff [0] true++[(2,.cells [.v (.int .u8 (y:Int))]),(4,.cells [.v (.int .u32 ((q7 (x % 16):Nat):Int))]),(6,.cells [.v (.int .u32 ((q7 (q7 x % 16):Nat):Int))])]) (ren:=[(0,0),(1,1)]) (eqs:=[0,1]) ?_ (by kernel_rfl) (fun i b h=>by rcases hν i b h with h | h <;> rw [h] <;> rfl) nx
  rw [Uk]
  simp only [ah,t1,r1,ra,ws,w0',x1,a1,f1,x2,a2,f2,x3,i1,i2,c1,c2,YX,qv,VV,VX,VW]
  try (repeat' apply And.intro)
  all_goals first | rfl | skip
theorem J7:∀ (j r:Nat),Nat.repeat st1 j (st1 r)=Nat.repeat st1 (j+1) r:=by
 intro j;induction j with
 | zero=>intro r;rfl
 | succ j ih=>intro r;show st1 (Nat.repeat st1 j (st1 r))=st1 (Nat.repeat st1 (j+1) r);rw [ih]
theorem MI (hν:∀ i b,ν i=some b->i=0) {i:Nat} {l:List SV} (YX:l.all ab=true) {n:Nat}:∀ (j k r:Nat),k+j=8->r<4294967296->af bn M w0 cs0 69 R ν (SM.at (y7 ((Nat.repeat st1 j r:Nat):Int) off n c (i:Int) ((8:Nat):Int)) 6 [cv l])->
  af bn M w0 cs0 69 R ν (SM.at (y7 (r:Int) off n c (i:Int) (k:Int)) 6 [cv l]):=by
 intro j;induction j with
 | zero=>
  intro k r hk hr nx;have e:k=8:=by omega
  rw [e];exact nx
 | succ j IH=>
  intro k r hk hr nx;have ih:=IH (k+1) (st1 r) (by omega) (uu hr) (by rw [J7];exact nx);have ws:=aU (k:=k) (by omega);have t1:decide ((k:Int)<8)=true:=V0 (by omega);have e1:(r:Int).tdiv 2=((r / 2:Nat):Int):=rfl;have e2:(r:Int).tmod 2=((r % 2:Nat):Int):=rfl;have e3:=u32_in (k:=r / 2) (by omega);by_cases h:r % 2=1
  ·have e4:(((r % 2:Nat):Int)==1)=true:=by rw [h];rfl
   have e5:=ES (a:=r / 2) (b:=2197175160) (by omega) (by decide);have e6:st1 r=(r / 2) ^^^ 2197175160:=by unfold st1;rw [if_pos h]
   rw [e6] at ih;refine af.reach fQ (k:=6) (n:=60) (o:=ff [0,1] true) (ren:=[(0,0)]) (eqs:=[0]) ?_ (by kernel_rfl) (fun i b h=>by rw [hν i b h];rfl) ih;rw [TH];have e7:((2197175160:Nat):Int)=(2197175160:Int):=rfl;rw [e7] at e5;simp only [ah,e1,e2,e3,e4,e5,ws,t1,YX,VV,VX,VW]
  ·have e4:(((r % 2:Nat):Int)==1)=false:=by rw [show r % 2=0 by omega];rfl
   have e6:st1 r=r / 2:=by unfold st1;rw [if_neg h]
   rw [e6] at ih;refine af.reach fQ (k:=6) (n:=60) (o:=ff [0] true++ff [1] false) (ren:=[(0,0)]) (eqs:=[0]) ?_ (by kernel_rfl) (fun i b h=>by rw [hν i b h];rfl) ih;rw [Ud];simp only [ah,e1,e2,e3,e4,ws,t1,YX,VV,VX,VW]
theorem HB (hν:∀ i b,ν i=some b->i=0) (hM:∀ b,¬ M b) (Y2:zs.length<=140737488355328) (hz:∀ z∈zs,0<=z/\z<256) (hR:∀ w',Below w0.heap.size w0 w'->R (.returned (.int .u32 ((eB zs:Nat):Int))) w'):∀ (j i:Nat),i+j=zs.length->
  af bn M w0 cs0 69 R ν (SM.at (DK ((uM 4294967295 (zs.take i):Nat):Int) off zs.length c (i:Int)) 6 [cv (aT bC off zs)])
 | 0,i,hj=>by
  refine af.ao fQ (n:=60) (o:=ff [0] false) (v:=.int .u32 ((eB zs:Nat):Int)) ?_ fun ν' M1 w1 s' w' _ hB hr=>hR w' (aB hM hB hr)
  have hl:=ox (r:=4294967295) (by decide) hz
  have e:(4294967295:Int) - ((uM 4294967295 zs:Nat):Int)=((eB zs:Nat):Int):=by unfold eB;omega
  rw [S7,We (by omega),e,u32_in (by unfold eB;omega)]
  simp only [ah,VV,VX,VW]
  exact V2 (by omega)
 | j+1,i,hj=>by
  have hi:i<zs.length:=by omega
  have nx:=HB hν hM Y2 hz hR j (i+1) (by omega)
  rw [vz hi] at nx
  have hzi:=hz _ (WT hi)
  have hq:zs[i]?=some zs[i]:=V4 hi
  have hl:=ox (r:=4294967295) (zs:=zs.take i) (by decide) fun z h=>hz z (Yr h)
  generalize zs[i]=z at hzi hq nx
  generalize uM 4294967295 (zs.take i)=r at hl nx ⊢
  obtain ⟨y,rfl⟩:∃ y:Nat,z=y:=⟨z.toNat,by omega⟩
  rw [V5] at nx
  have t1:decide ((i:Int)<(zs.length:Int))=true:=V0 (by omega)
  have r1:=aJ hi
  have ra:=Nl (off:=off) hq
  have ws:IntKind.i64.wrap ((i:Int)+1)=((i+1:Nat):Int):=by rw [Xz _ (by omega)];omega
  have h0:y<4294967296:=by omega
  have w0':IntKind.u32.wrap (y:Int)=(y:Int):=u32_in h0
  have x1:=ES hl h0
  have h1:=xm hl h0
  have YX:(aT bC off zs).all ab=true:=ca mP
  have mid:=MI (cs0:=cs0) (R:=R) (M:=M) (w0:=w0) (off:=off) (c:=c) (n:=zs.length) (i:=i) (l:=aT bC off zs) hν YX 8 0 (r ^^^ y) (by omega) h1 (by
   refine af.reach fQ (k:=2) (n:=60) (o:=ff [0] false) (ren:=[(0,0)]) (eqs:=[0]) ?_ (by kernel_rfl) (fun i b h=>by rw [hν i b h];rfl) nx
   rw [show Nat.repeat st1 8 (r ^^^ y)=OY (r ^^^ y) from rfl,Uh]
   simp only [ah,ws,YX,VV,VX,VW]
   exact V2 (by omega))
  refine af.reach fQ (k:=6) (n:=60) (o:=ff [0] true++[(2,.cells [.v (.int .u8 (y:Int))])]) (ren:=[(0,0)]) (eqs:=[0]) ?_ (by kernel_rfl) (fun i b h=>by rw [hν i b h];rfl) mid
  rw [show ((0:Nat):Int)=0 from rfl,TP]
  simp only [ah,t1,r1,ra,w0',x1,YX,VV,VX,VW]
  try (repeat' apply And.intro)
  all_goals first | rfl | skip
end
def lN (w:World):Prop:=Rx.Told w (0,p6)
theorem lN.keep {w0 w:World} (h:lN w0) (hk:∀ k,k<w0.heap.size->w.heap[k]?=w0.heap[k]?):lN w:=by
 obtain ⟨ys,c,e,fz,h1,h2,h3⟩:=h;exact ⟨ys,c,e,fz,(hk _ (VY.1 h1).1).trans h1,h2,h3⟩
def KD (a:Option Addr) (c:Nat):SM:=(a6 HP 95 [.v (.int .u32 0),.v (.slice a 0 c)] (bG 6 1 0 [cv p6])).getD dn
theorem mz (a:Option Addr) (c:Nat) (v:Value):ao HP 95 60 (KD a c) (ff [1] true++ff [0] false) v=[V1 IntKind.u32 (IntKind.u32.wrap (↑(0:Nat):Int))=v,false=false]:=by kernel_rfl
theorem rz (a:Option Addr) (c:Nat) (v:Value):ao bn 69 60 (a7 bn 69 [.v (.int .u32 0),.v (.slice a 0 c)]) (ff [1] true++ff [0] false) v=[V1 IntKind.u32 (IntKind.u32.wrap (4294967295 - IntKind.u32.wrap (4294967295 - 0)))=v,false=false]:=by kernel_rfl
theorem v7 {w:World} {b:Addr} {l:Nat} {zs:List Int} (h:eZ w (some b) l zs) (hl:0<l):∃ cs e fz,b=⟨b.block,b.off,none⟩/\w.heap[b.block]?=some (.cells cs e fz)/\b.off<=cs.size/\∀ (k:Nat) (v:Value),(zs.map (Value.int .u8))[k]?=some v->cs[b.off+k]?=some v:=by
 obtain ⟨h1,_,h2⟩:=h;have key:=fun i hi=>h2 b rfl i hi w (fun _ _=>rfl);have h0:=key 0 hl;unfold World.cell? Addr.add at h0;rw [if_pos rfl] at h0;split at h0
 ·rename_i cs e fz hh;split at h0
  ·cases h0
  ·rename_i hs;have hsp:b.spot=none:=by simpa using hs
   refine ⟨cs,e,fz,?_,hh,?_,fun k v hk=>?_⟩
   ·cases b;simp only at hsp;rw [hsp]
   ·have:=(VY.1 h0).1;omega
   ·have hkl:k<l:=by
     have:=(WA.1 hk).1;simpa [h1] using this
    have hv:=key k hkl;unfold World.cell? Addr.add at hv;rw [Wv,V4 (by omega)] at hk;cases hk;rw [Xn,V4 (by omega)] at hv;by_cases ξ:k=0
    ·subst ξ;rw [if_pos rfl,hh] at hv;dsimp only at hv;rw [if_neg (by simp [hsp])] at hv;exact hv
    ·rw [if_neg ξ] at hv;dsimp only at hv;rw [hh] at hv;dsimp only at hv;rw [if_neg (by simp)] at hv;exact hv
 ·cases h0
theorem Cn (zs:List Int):zs.flatMap (fun z=>[Value.int .u8 z])=zs.map (Value.int .u8):=by
 induction zs with
 | nil=>rfl
 | cons z zs ih=>rw [XK,ih];rfl
theorem BU {w:World} {a:Option Addr} {l c:Nat} {zs:List Int} (hd:ui w a l zs) (ZT:l<=c\/l=0) (YI:∀ b,a=some b->0<l->(0:Nat)≠b.block) (hz:∀ z∈zs,0<=z/\z<256) (ht:lN w):Calls Tryz.prog 95 #[.int .u32 0,.slice a l c] w fun e w'=>Below w.heap.size w w'/\e=.returned (.int .u32 ((eB zs:Nat):Int)):=by
 obtain ⟨ts,tc,te,tf,th,tv,tk⟩:=ht;by_cases hl:l=0
 ·subst hl;have hzs:zs=[]:=Wd.1 hd.1.1;subst hzs
  have ho:∀ (j:Nat) (o':SO) (b' c':Nat),[SO.look p6][j]?=some o'->[(0,0)][j]?=some (b',c')->∃ r,w.heap[b']?=some r/\OR (aA [(0,0)]) j o' r:=by
   intro j o' b' c' q1 q2;match j with
   | 0=>
    simp only [Wa,Option.some.injEq] at q1 q2;subst q1;cases q2;exact ⟨_,th,ts,_,_,_,rfl,tv _,tk⟩
   | j+1=>simp at q1
  refine qw (E:=HP) rfl (d:=6) (l:=[(0,0)]) (os:=[.look p6]) rfl (by simp) (by simp) ho (fun g i h=>by
   by_cases hg:g=0
   ·subst hg;cases h;exact ⟨0,rfl⟩
   ·have:([(0,0)]:List (Nat × Nat)).lookup g=none:=by simp [List.lookup,Wr.2 hg]
    exact absurd (this.symm.trans h) (by simp)) (args:=[.v (.int .u32 0),.v (.slice a 0 c)]) (a:=[.int .u32 0,.slice a 0 c]) (S0:=KD a c) (by kernel_rfl) (au.cons (VR.ae.2 rfl) (au.cons (VR.ae.2 rfl) au.nil)) fun cs0=>?_
  refine af.ao OU (n:=60) (o:=ff [1] true++ff [0] false) (v:=.int .u32 ((eB []:Nat):Int)) ?_ fun ν' M1 w1 s' w' _ Zv hr=>⟨aB (fun z=>aY (os:=[SO.look p6])) Zv hr,rfl⟩;rw [mz];simp only [ah,VV,VX,VW];first | done | kernel_rfl
 ·cases a with
  | none=>exact absurd (hd.2 rfl) hl
  | some b=>
   obtain ⟨cs,e,fz,hb,hh,Zi,hc⟩:=v7 hd.1 (by omega);have hzl:zs.length=l:=hd.1.1;have YI:=YI b rfl (by omega);have ZT:l<=c:=by omega
   have ho:∀ (j:Nat) (o':SO) (b' c':Nat),[SO.look p6,SO.look (aT bC b.off zs)][j]?=some o'->[(0,0),(b.block,0)][j]?=some (b',c')->∃ r,w.heap[b']?=some r/\OR (aA [(0,0),(b.block,0)]) j o' r:=by
    intro j o' b' c' q1 q2;match j with
    | 0=>
     simp only [Wa,Option.some.injEq] at q1 q2;subst q1;cases q2;exact ⟨_,th,ts,_,_,_,rfl,tv _,tk⟩
    | 1=>
     simp only [WU,Wa,Option.some.injEq] at q1 q2;subst q1;cases q2;exact ⟨_,hh,eJ (h:=fun z=>[Value.int .u8 z]) (fun ν x=>au.lits ν [Value.int .u8 x]) Zi (by rw [Cn];exact hc)⟩
    | j+2=>simp at q1
   have hM:∀ z,¬ (aD [(0,0),(b.block,0)] ([SO.look p6,SO.look (aT bC b.off zs)].map fun o=>(o,false))) z:=fun z=>aY (os:=[_,_])
   refine qw (E:=HP) rfl (d:=6) (l:=[(0,0),(b.block,0)]) (os:=[.look p6,.look (aT bC b.off zs)]) rfl (by simp) (by simpa using YI) ho (fun g i h=>by
    by_cases hg:g=0
    ·subst hg;cases h;exact ⟨0,rfl⟩
    ·have:([(0,0)]:List (Nat × Nat)).lookup g=none:=by simp [List.lookup,Wr.2 hg]
     exact absurd (this.symm.trans h) (by simp)) (args:=[.v (.int .u32 0),.sl 1 b.off zs.length (some c)]) (a:=[.int .u32 0,.slice (some b) l c]) (S0:=Hn 0 p6 (aT bC b.off zs) b.off zs.length c) (by kernel_rfl) (au.cons (VR.ae.2 rfl) (au.cons (VR.aL.2 ⟨(b.block,0),rfl,by rw [hzl];exact ZT,by rw [hzl,<- hb];rfl⟩) au.nil)) fun cs0=>?_
   have hν:∀ i b',aA [(0,0),(b.block,0)] i=some b'->i=0\/i=1:=fun i b' h=>by
    match i with
    | 0=>exact .inl rfl
    | 1=>exact .inr rfl
    | i+2=>simp [aA] at h
   have nx:=Gj (w0:=w) (cs0:=cs0) (zs:=zs) (off:=b.off) (c:=c) (R:=fun e w'=>Below w.heap.size w w'/\e=.returned (.int .u32 ((eB zs:Nat):Int))) hν hM (by rw [hzl];exact hd.1.2.1) hz (fun w' hw=>⟨hw,rfl⟩) zs.length 0 (by omega);have YX:(aT bC b.off zs).all ab=true:=ca mP;refine af.reach OU (k:=2) (n:=60) (o:=VP) (ren:=[(0,0),(1,1)]) (eqs:=[0,1]) ?_ (by kernel_rfl) (fun i b h=>by rcases hν i b h with h | h <;> rw [h] <;> rfl) nx;rw [show ((0:Nat):Int)=0 from rfl,Tv];simp only [ah,qv,YX,VV,VX,VW];first | done | rfl | kernel_rfl
theorem za {w:World} {a:Option Addr} {l c:Nat} {zs:List Int} (hd:ui w a l zs) (ZT:l<=c\/l=0) (hz:∀ z∈zs,0<=z/\z<256):Calls Tryz.prog 69 #[.int .u32 0,.slice a l c] w fun e w'=>Below w.heap.size w w'/\e=.returned (.int .u32 ((eB zs:Nat):Int)):=by
 by_cases hl:l=0
 ·subst hl;have hzs:zs=[]:=Wd.1 hd.1.1;subst hzs;refine (bP (E:=bn) rfl rfl (args:=[.v (.int .u32 0),.v (.slice a 0 c)]) (a:=[.int .u32 0,.slice a 0 c]) (S0:=a7 bn 69 [.v (.int .u32 0),.v (.slice a 0 c)]) (by kernel_rfl) (au.cons (VR.ae.2 rfl) (au.cons (VR.ae.2 rfl) au.nil)) fun cs0=>?_);refine af.ao fQ (n:=60) (o:=ff [1] true++ff [0] false) (v:=.int .u32 ((eB []:Nat):Int)) ?_ fun ν' M1 w1 s' w' _ Zv hr=>⟨aB aE Zv hr,rfl⟩;rw [rz];simp only [ah,VV,VX,VW];first | done | kernel_rfl
 ·cases a with
  | none=>exact absurd (hd.2 rfl) hl
  | some b=>
   obtain ⟨cs,e,fz,hb,hh,Zi,hc⟩:=v7 hd.1 (by omega);have hzl:zs.length=l:=hd.1.1;have ZT:l<=c:=by omega
   have ho:∀ (j:Nat) (o':SO) (b' c':Nat),[SO.look (aT bC b.off zs)][j]?=some o'->[(b.block,0)][j]?=some (b',c')->∃ r,w.heap[b']?=some r/\OR (aA [(b.block,0)]) j o' r:=by
    intro j o' b' c' q1 q2;match j with
    | 0=>
     simp only [Wa,Option.some.injEq] at q1 q2;subst q1;cases q2;exact ⟨_,hh,eJ (h:=fun z=>[Value.int .u8 z]) (fun ν x=>au.lits ν [Value.int .u8 x]) Zi (by rw [Cn];exact hc)⟩
    | j+1=>simp at q1
   have hM:∀ z,¬ (aD [(b.block,0)] ([SO.look (aT bC b.off zs)].map fun o=>(o,false))) z:=fun z=>aY (os:=[_]);refine aZ (E:=bn) rfl (d:=6) (l:=[(b.block,0)]) (os:=[.look (aT bC b.off zs)]) rfl (by simp) (by simp) ho rfl (args:=[.v (.int .u32 0),.sl 0 b.off zs.length (some c)]) (a:=[.int .u32 0,.slice (some b) l c]) (S0:=GV 0 (aT bC b.off zs) b.off zs.length c) (by kernel_rfl) (au.cons (VR.ae.2 rfl) (au.cons (VR.aL.2 ⟨(b.block,0),rfl,by rw [hzl];exact ZT,by rw [hzl,<- hb];rfl⟩) au.nil)) fun cs0=>?_;have hν:∀ i b',aA [(b.block,0)] i=some b'->i=0:=fun i b' h=>dj h;have nx:=HB (w0:=w) (cs0:=cs0) (zs:=zs) (off:=b.off) (c:=c) (R:=fun e w'=>Below w.heap.size w w'/\e=.returned (.int .u32 ((eB zs:Nat):Int))) hν hM (by rw [hzl];exact hd.1.2.1) hz (fun w' hw=>⟨hw,rfl⟩) zs.length 0 (by omega);have YX:(aT bC b.off zs).all ab=true:=ca mP
   refine af.reach fQ (k:=2) (n:=60) (o:=VP) (ren:=[(0,0)]) (eqs:=[0]) ?_ (by kernel_rfl) (fun i b h=>by rw [hν i b h];rfl) nx;rw [show ((0:Nat):Int)=0 from rfl,RS];simp only [ah,YX,VV,VX,VW];first | done | rfl | kernel_rfl
def O2 (D:List ax) (a:Option Addr) (l c:Nat):Prop:=∃ x∈D,x.a=a/\x.l=l/\x.c=c
def vc (D:List ax) (zf:Option Addr->Nat->List Int):zF:=fun args sh=>match args with
 | [.v (.int .u32 s),.v (.slice a l c)]=>some (.int .u32 ((eB (zf a l):Nat):Int),s=0/\O2 D a l c)
 | _=>none
structure XD (D:List ax) (zf:Option Addr->Nat->List Int) (w:World):Prop where
 E3:∀ x∈D,ui w x.a x.l (zf x.a x.l)
 cap:∀ x∈D,x.l<=x.c\/x.l=0
 rng:∀ x∈D,∀ z∈zf x.a x.l,0<=z/\z<256
structure XS (D:List ax) (zf:Option Addr->Nat->List Int) (w:World):Prop extends XD D zf w where
 tab:lN w
 far:∀ x∈D,∀ b,x.a=some b->0<x.l->(0:Nat)≠b.block
theorem XD.keep {D:List ax} {zf:Option Addr->Nat->List Int} {w0 w:World} (h:XD D zf w0) (hk:∀ k,k<w0.heap.size->w.heap[k]?=w0.heap[k]?):XD D zf w:=⟨fun x hx=>(h.E3 x hx).keep hk,h.cap,h.rng⟩
theorem XS.keep {D:List ax} {zf:Option Addr->Nat->List Int} {w0 w:World} (h:XS D zf w0) (hk:∀ k,k<w0.heap.size->w.heap[k]?=w0.heap[k]?):XS D zf w:=⟨h.toXD.keep hk,h.tab.keep hk,h.far⟩
theorem Jv {D:List ax} {zf:Option Addr->Nat->List Int}:bh Tryz.prog (XS D zf) (95,de (vc D zf)):=by
 refine dR ⟨_,Tryz.func95,by kernel_rfl,by kernel_rfl⟩ fun args sh v q h hq ν M w0 w a hr hX ha=>?_;unfold vc at h;split at h
 ·rename_i s a1 l1 c1;cases h;obtain ⟨rfl,x,hx,rfl,rfl,rfl⟩:=hq;obtain ⟨y1,ZY,rfl,q1,YV⟩:=ha.cons_inv;obtain ⟨y2,as2,rfl,q2,ZL⟩:=YV.cons_inv;obtain rfl:=ZL.ay;obtain rfl:=VR.ae.1 q1;obtain rfl:=VR.ae.1 q2;exact BU (hX.E3 x hx) (hX.cap x hx) (hX.far x hx) (hX.rng x hx) hX.tab
 ·cases h
theorem HT {D:List ax} {zf:Option Addr->Nat->List Int}:bh Tryz.prog (XD D zf) (69,de (vc D zf)):=by
 refine dR ⟨_,Tryz.func69,by kernel_rfl,by kernel_rfl⟩ fun args sh v q h hq ν M w0 w a hr hX ha=>?_;unfold vc at h;split at h
 ·rename_i s a1 l1 c1;cases h;obtain ⟨rfl,x,hx,rfl,rfl,rfl⟩:=hq;obtain ⟨y1,ZY,rfl,q1,YV⟩:=ha.cons_inv;obtain ⟨y2,as2,rfl,q2,ZL⟩:=YV.cons_inv;obtain rfl:=ZL.ay;obtain rfl:=VR.ae.1 q1;obtain rfl:=VR.ae.1 q2;exact za (hX.E3 x hx) (hX.cap x hx) (hX.rng x hx)
 ·cases h
def Pz (D:List ax) (zf:Option Addr->Nat->List Int):List (FuncId × Sum):=[(95,de (vc D zf))]
def OM (D:List ax) (zf:Option Addr->Nat->List Int):Env:={ EP [] [] with Y7:=fun f=>(Pz D zf).lookup f }
def Kw (D:List ax) (zf:Option Addr->Nat->List Int) (a:Option Addr) (l c:Nat):SM:=a7 (OM D zf) 26 [.v (.slice a l c)]
theorem Uq {M0 M:Own} {w00 w0:World} {D:List ax} {zf:Option Addr->Nat->List Int} (hM:∀ z,¬ M0 z) (hB:dh M0 w00 M w0) (hX:XS D zf w00):aK (OM D zf) M w0:=
 aK.uS (Checked.mixed Tryz.checked) (by kernel_rfl) (fk.of iI rfl dK) (dz.list (X:=XS D zf) (l:=Pz D zf) rfl (fun r h=>by
  simp only [Pz,V8,Ww,Xc] at h
  rcases h with rfl
  exact Jv) fun ν s w hr _=>hX.keep fun k hk=>(hr.frame k (Wz hk hB.size) (hB.frame k hk (hM k)).2).trans (hB.frame k hk (hM k)).1) (fun f g h=>by cases h)
def wT (n:Nat):ByteArray:=words.cx [words.fo (n / 2 ^ 28 % 16),words.fo (n / 2 ^ 24 % 16),words.fo (n / 2 ^ 20 % 16),words.fo (n / 2 ^ 16 % 16),words.fo (n / 2 ^ 12 % 16),words.fo (n / 2 ^ 8 % 16),words.fo (n / 2 ^ 4 % 16),words.fo (n / 2 ^ 0 % 16)]
def uE (n k:Nat):Int:=(((words.gH).data.getD (IntKind.u32.wrap (((BitVec.ofInt 32 ((n:Int).fdiv ((2:Int) ^ k)) &&& BitVec.ofInt 32 15).toNat:Nat):Int)).toNat 0).toNat:Int)
def GS (n:Nat):ByteArray:=⟨⟨[uE n 28,uE n 24,uE n 20,uE n 16,uE n 12,uE n 8,uE n 4,uE n 0].map fun n=>UInt8.ofNat n.toNat⟩⟩
theorem sm (D:List ax) (zf:Option Addr->Nat->List Int) (a:Option Addr) (l c:Nat) (v:Value):ao (OM D zf) 26 500 (Kw D zf a l c) (ff [0,1,4,7,10,13,16,19,22] true++ff [2,3,5,6,8,9,11,12,14,15,17,18,20,21,23,24,25,26] false++VP) v=[VS (GS (eB (zf a l)))=v,false=false,false=false,ai (IntKind.u32.wrap (↑(BitVec.ofInt 32 ((↑(eB (zf a l)):Int).fdiv (2 ^ 0)) &&& BitVec.ofInt 32 15).toNat:Int)) 16=true,true=true,false=false,ai (IntKind.u32.wrap (↑(BitVec.ofInt 32 ((↑(eB (zf a l)):Int).fdiv (2 ^ 4)) &&& BitVec.ofInt 32 15).toNat:Int)) 16=true,true=true,false=false,ai (IntKind.u32.wrap (↑(BitVec.ofInt 32 ((↑(eB (zf a l)):Int).fdiv (2 ^ 8)) &&& BitVec.ofInt 32 15).toNat:Int)) 16=true,true=true,false=false,ai (IntKind.u32.wrap (↑(BitVec.ofInt 32 ((↑(eB (zf a l)):Int).fdiv (2 ^ 12)) &&& BitVec.ofInt 32 15).toNat:Int)) 16=true,true=true,false=false,ai (IntKind.u32.wrap (↑(BitVec.ofInt 32 ((↑(eB (zf a l)):Int).fdiv (2 ^ 16)) &&& BitVec.ofInt 32 15).toNat:Int)) 16=true,true=true,false=false,ai (IntKind.u32.wrap (↑(BitVec.ofInt 32 ((↑(eB (zf a l)):Int).fdiv (2 ^ 20)) &&& BitVec.ofInt 32 15).toNat:Int)) 16=true,true=true,false=false,ai (IntKind.u32.wrap (↑(BitVec.ofInt 32 ((↑(eB (zf a l)):Int).fdiv (2 ^ 24)) &&& BitVec.ofInt 32 15).toNat:Int)) 16=true,true=true,false=false,ai (IntKind.u32.wrap (↑(BitVec.ofInt 32 ((↑(eB (zf a l)):Int).fdiv (2 ^ 28)) &&& BitVec.ofInt 32 15).toNat:Int)) 16=true,true=true,(0:Int)=0/\O2 D a l c]:=by kernel_rfl
theorem NA (n k:Nat):((n:Int)).fdiv ((2:Int) ^ k)=((n / 2 ^ k:Nat):Int):=by
 rw [show ((2:Int) ^ k)=((2 ^ k:Nat):Int) by simp];rw [Yz _ (Int.natCast_nonneg _)];exact (Int.natCast_ediv n (2 ^ k)).symm
theorem CR (zs:List Int):eB zs<4294967296:=by unfold eB;omega
theorem Fk (n k:Nat) (h:n<4294967296):IntKind.u32.wrap (((BitVec.ofInt 32 ((n:Int).fdiv ((2:Int) ^ k)) &&& BitVec.ofInt 32 15).toNat:Nat):Int)=((n / 2 ^ k % 16:Nat):Int):=by
 rw [NA,K9 (Nat.lt_of_le_of_lt (Nat.div_le_self _ _) h)]
theorem JP {n:Nat} (h:n<4294967296) (k:Nat):UInt8.ofNat (uE n k).toNat=words.fo (n / 2 ^ k % 16):=by
 unfold uE;rw [Fk n k h,V5,V5,UInt8.ofNat_toNat];rfl
theorem IW {n:Nat} (h:n<4294967296):GS n=wT n:=by
 unfold GS wT words.cx;simp only [WD,List.map_nil,JP h]
def KV (D:List ax) (zf:Option Addr->Nat->List Int):zF:=fun args sh=>match args with
 | [.v (.slice a l c)]=>some (.string (wT (eB (zf a l))),O2 D a l c)
 | _=>none
theorem J1 {D:List ax} {zf:Option Addr->Nat->List Int}:bh Tryz.prog (XS D zf) (26,de (KV D zf)):=by
 refine dR ⟨_,Tryz.func26,by kernel_rfl,by kernel_rfl⟩ fun args sh v q h hq ν M w0 w a hr hX ha=>?_;unfold KV at h;split at h
 ·rename_i a1 l1 c1;cases h;obtain ⟨y1,ZY,rfl,q1,YV⟩:=ha.cons_inv;obtain rfl:=YV.ay;obtain rfl:=VR.ae.1 q1;refine (bP (E:=OM D zf) rfl rfl (args:=[.v (.slice a1 l1 c1)]) (a:=[.slice a1 l1 c1]) (S0:=Kw D zf a1 l1 c1) (by kernel_rfl) (au.cons (VR.ae.2 rfl) au.nil) fun cs0=>?_);refine af.ao (Uq aE (dh.refl (fun b hb=>by obtain ⟨i,o,c,h1,h2⟩:=hb;simp at h1) fun _ h=>h) hX) (n:=500) (o:=ff [0,1,4,7,10,13,16,19,22] true++ff [2,3,5,6,8,9,11,12,14,15,17,18,20,21,23,24,25,26] false++VP) (v:=.string (wT (eB (zf a1 l1)))) ?_ fun ν' M1 w1 s' w' _ Zv hr=>⟨aB aE Zv hr,rfl⟩;have hl:=CR (zf a1 l1);rw [sm];generalize eB (zf a1 l1)=n at hl ⊢;have i0:∀ k,ai ((n / 2 ^ k % 16:Nat):Int) 16=true:=fun k=>aJ (Yh _ (by decide));simp only [ah,Fk n _ hl,i0,IW hl,V5,VV,VX,VW];exact hq
 ·cases h
end crc
def Hz:SV:=.func (.func 91) [] []
def Bv (es:VQ) (cl:Nat):SM:=(a6 ee 90 [.ptr 0 0,Hz] (bG 6 2 0 [tw,xu es cl])).getD dn
def Jn:List SI:=dB ee 2 60 (Bv [] 0) VP
def qx (x:SV):SF:={ fn:=90,tm:=fh 27 5 ([.ptr 0 0,Hz,.aH,.aH,x,.aH,.aH,.aH,.aH,.aH,.aH,.aH,.ptr 2 0]++List.replicate 14 .aH),todo:=Jn,defers:=[],ret:=false,kind:=.normal,ro:=none }
def rI (es:VQ) (cl:Nat) (seen:List Nat):List (Option (SO × Bool)):=[tw,xu es cl,some (.miter (some 1) cl seen cl,true)]
def rH (es:VQ) (cl:Nat) (seen:List Nat) (m:List SV):List (Option (SO × Bool)):=[tw,xu es cl,some (.miter (some 1) cl seen cl,true),oM m]
def JM (es:VQ) (cl:Nat) (seen:List Nat):SM:=SM.at (qx bZ) 6 (rI es cl seen)
def JO (es:VQ) (cl:Nat) (seen:List Nat) (m:List SV) (k:Nat):SM:=SM.at (qx (.sl 3 0 k none)) 6 (rH es cl seen m)
def tF (es:VQ) (cl:Nat) (seen:List Nat):SM:=(pd ee (j1 ee) 30 ((JM es cl seen).with VP)).getD dn
def DD (es:VQ) (cl:Nat) (seen:List Nat) (e:SV × SV × Nat):SM:=(k8 ee (tF es cl seen) e).getD dn
def IL (es:VQ) (cl:Nat) (seen:List Nat):SM:=(lj ee (tF es cl seen)).getD dn
theorem G5 (es:VQ) (cl:Nat) (seen:List Nat):pd ee (j1 ee) 30 ((JM es cl seen).with VP)=some (tF es cl seen):=by kernel_rfl
theorem JH (es:VQ) (cl:Nat) (seen:List Nat):ow ee (tF es cl seen)=some (2,1,cl,seen,cl,es,cl):=by kernel_rfl
theorem HM (es:VQ) (cl:Nat) (seen:List Nat):(tF es cl seen).mem.Zn=[]:=by kernel_rfl
theorem JD (es:VQ) (cl:Nat) (seen:List Nat) (e:SV × SV × Nat):k8 ee (tF es cl seen) e=some (DD es cl seen e):=by kernel_rfl
theorem Jg (es:VQ) (cl:Nat) (seen:List Nat) (e:SV × SV × Nat):(DD es cl seen e).mem.Zn=[]:=by kernel_rfl
theorem IF (es:VQ) (cl:Nat) (seen:List Nat):lj ee (tF es cl seen)=some (IL es cl seen):=by kernel_rfl
theorem Ic (es:VQ) (cl:Nat) (seen:List Nat):(IL es cl seen).mem.Zn=[]:=by kernel_rfl
def IS (e:cp):List (Nat × gM):=[(0,.b true),(1,.ent (.v (.string e.1.p)) (cU e))]
def I1 (es:VQ) (cl:Nat) (seen:List Nat) (e:cp) (d:Bool):SM:=dA ee 91 60 (DD es cl seen (mI e)) (IS e) (.v (.bool d))
def r5 (es:VQ) (cl:Nat) (seen:List Nat) (m:List SV) (k:Nat):SM:=(pd ee (j1 ee) 30 ((JO es cl seen m k).with VP)).getD dn
def EJ (es:VQ) (cl:Nat) (seen:List Nat) (m:List SV) (k:Nat) (e:SV × SV × Nat):SM:=(k8 ee (r5 es cl seen m k) e).getD dn
def I2 (es:VQ) (cl:Nat) (seen:List Nat) (m:List SV) (k:Nat):SM:=(lj ee (r5 es cl seen m k)).getD dn
theorem Hj (es:VQ) (cl:Nat) (seen:List Nat) (m:List SV) (k:Nat):pd ee (j1 ee) 30 ((JO es cl seen m k).with VP)=some (r5 es cl seen m k):=by kernel_rfl
theorem Il (es:VQ) (cl:Nat) (seen:List Nat) (m:List SV) (k:Nat):ow ee (r5 es cl seen m k)=some (2,1,cl,seen,cl,es,cl):=by kernel_rfl
theorem GA (es:VQ) (cl:Nat) (seen:List Nat) (m:List SV) (k:Nat):(r5 es cl seen m k).mem.Zn=[]:=by kernel_rfl
theorem Jt (es:VQ) (cl:Nat) (seen:List Nat) (m:List SV) (k:Nat) (e:SV × SV × Nat):k8 ee (r5 es cl seen m k) e=some (EJ es cl seen m k e):=by kernel_rfl
theorem Ig (es:VQ) (cl:Nat) (seen:List Nat) (m:List SV) (k:Nat) (e:SV × SV × Nat):(EJ es cl seen m k e).mem.Zn=[]:=by kernel_rfl
theorem J8 (es:VQ) (cl:Nat) (seen:List Nat) (m:List SV) (k:Nat):lj ee (r5 es cl seen m k)=some (I2 es cl seen m k):=by kernel_rfl
theorem JJ (es:VQ) (cl:Nat) (seen:List Nat) (m:List SV) (k:Nat):(I2 es cl seen m k).mem.Zn=[]:=by kernel_rfl
def Iy (e:cp):List (Nat × gM):=[(0,.b true),(1,.ent (.v (.string e.1.p)) (cU e))]
def I5 (es:VQ) (cl:Nat) (seen:List Nat) (m:List SV) (k:Nat) (e:cp) (d:Bool):SM:=dA ee 91 60 (EJ es cl seen m k (mI e)) (Iy e) (.v (.bool d))
theorem QB (es:VQ) (cl:Nat):reach ee 2 60 (Bv es cl) VP [(0,0),(1,1),(2,2)] [1] (qx bZ) 6 (rI es cl [])=[0=0,Fn.func 91=Fn.func 91,VT none 0 0=VT none 0 0,0=0,cl=cl,es=es,(es.all fun e=>aw e.fst&&aw e.snd.fst)=true,(match false with | true=>some 0 | false=>List.lookup 1 [(1,1),(2,2)])=some 1,cl=cl,([]:List Nat)=[],cl=cl]:=by kernel_rfl
theorem NW (es:VQ) (cl:Nat) (seen:List Nat) (e:cp):dS ee 91 60 (DD es cl seen (mI e)) (IS e)=[∃ YN b,(seen++[(mI e).snd.snd]).getLast?=some YN/\cl=cl/\List.find? (fun e=>e.snd.snd.beq YN) es=some (SV.v (VS e.fst.p),cU e,b),true=true]:=by kernel_rfl
theorem OJ (es:VQ) (cl:Nat) (seen:List Nat) (e:cp) (d:Bool):dT ee 91 60 (DD es cl seen (mI e)) (IS e) (.v (.bool d))=[∃ YN b,(seen++[(mI e).snd.snd]).getLast?=some YN/\cl=cl/\List.find? (fun e=>e.snd.snd.beq YN) es=some (SV.v (VS e.fst.p),cU e,b),true=true]:=by kernel_rfl
theorem Om (es:VQ) (cl:Nat) (seen:List Nat) (e:cp):reach ee 2 60 (I1 es cl seen e false) (ff [0] false) [(0,0),(1,1),(2,2)] [1] (qx bZ) 6 (rI es cl (seen++[e.2]))=[0=0,Fn.func 91=Fn.func 91,VT none 0 0=VT none 0 0,0=0,cl=cl,es=es,(es.all fun e=>aw e.fst&&aw e.snd.fst)=true,(match false with | true=>some 0 | false=>List.lookup 1 [(1,1),(2,2)])=some 1,cl=cl,seen++[(mI e).snd.2]=seen++[e.2],cl=cl,false=false]:=by kernel_rfl
theorem Nd (es:VQ) (cl:Nat) (seen:List Nat) (e:cp) (m':List SV):reach ee 2 60 (I1 es cl seen e true) (ff [0] true++ff [1] false) [(0,0),(1,1),(2,2),(3,4)] [1,3] (qx (.sl 3 0 1 none)) 6 (rH es cl (seen++[e.2]) m')=[0=0,Fn.func 91=Fn.func 91,0=0/\1=1/\nZ=none,0=0,cl=cl,es=es,(es.all fun e=>aw e.fst&&aw e.snd.fst)=true,(match false with | true=>some 0 | false=>List.lookup 1 [(1,1),(2,2),(3,4)])=some 1,cl=cl,seen++[(mI e).snd.2]=seen++[e.2],cl=cl,[]++List.take 1 (List.drop 0 (aQ (List.replicate 1 (List.map SV.v [VS ⟨⟨[]⟩⟩])).flatten 0 [SV.v (VS e.fst.1)]))=m',m'.all ab=true,false=false,true=true]:=by kernel_rfl
theorem Nc (es:VQ) (cl:Nat) (seen:List Nat) (m:List SV) (k:Nat) (e:cp):dS ee 91 60 (EJ es cl seen m k (mI e)) (Iy e)=[∃ YN b,(seen++[(mI e).snd.snd]).getLast?=some YN/\cl=cl/\List.find? (fun e=>e.snd.snd.beq YN) es=some (SV.v (VS e.fst.p),cU e,b),true=true]:=by kernel_rfl
theorem Od (es:VQ) (cl:Nat) (seen:List Nat) (m:List SV) (k:Nat) (e:cp) (d:Bool):dT ee 91 60 (EJ es cl seen m k (mI e)) (Iy e) (.v (.bool d))=[∃ YN b,(seen++[(mI e).snd.snd]).getLast?=some YN/\cl=cl/\List.find? (fun e=>e.snd.snd.beq YN) es=some (SV.v (VS e.fst.p),cU e,b),true=true]:=by kernel_rfl
theorem Of (es:VQ) (cl:Nat) (seen:List Nat) (m:List SV) (k:Nat) (e:cp):reach ee 2 60 (I5 es cl seen m k e false) (ff [0] false) [(0,0),(1,1),(2,2),(3,3)] [1,3] (qx (.sl 3 0 k none)) 6 (rH es cl (seen++[e.2]) m)=[0=0,Fn.func 91=Fn.func 91,0=0/\k=k/\nZ=none,0=0,cl=cl,es=es,(es.all fun e=>aw e.fst&&aw e.snd.fst)=true,(match false with | true=>some 0 | false=>List.lookup 1 [(1,1),(2,2),(3,3)])=some 1,cl=cl,seen++[(mI e).snd.2]=seen++[e.2],cl=cl,m=m,m.all ab=true,false=false]:=by kernel_rfl
theorem Nj (es:VQ) (cl:Nat) (seen:List Nat) (m w m':List SV) (k:Nat) (e:cp):reach ee 2 60 (I5 es cl seen m k e true) [(0,.b true),(1,.app m w)] [(0,0),(1,1),(2,2),(3,5)] [1,3] (qx (.sl 3 0 (k+1) none)) 6 (rH es cl (seen++[e.2]) m')=[0=0,Fn.func 91=Fn.func 91,0=0/\k+1=k+1/\nZ=none,0=0,cl=cl,es=es,(es.all fun e=>aw e.fst&&aw e.snd.fst)=true,(match false with | true=>some 0 | false=>List.lookup 1 [(1,1),(2,2),(3,5)])=some 1,cl=cl,seen++[(mI e).snd.2]=seen++[e.2],cl=cl,m++w=m',m'.all ab=true,((List.take 1 (List.drop 0 (aQ (List.replicate 1 (List.map SV.v [VS ⟨⟨[]⟩⟩])).flatten 0 [SV.v (VS e.fst.1)]))=w/\w.length=1*1)/\1≠0/\(2*(k+1)+1024)*16<=140737488355328)/\List.take (k*1) m=m/\m.length=k*1/\w.all SV.flat=true,true=true]:=by kernel_rfl
theorem Kp (es:VQ) (cl:Nat) (seen:List Nat):ao ee 90 60 (IL es cl seen) VP (.slice none 0 0)=[VT none 0 0=VT none 0 0,VT none 0 0=VT none 0 0/\Value.func (Fn.func 89) { toList:=[]:Array Value } { toList:=[]:Array Value }=Value.func (Fn.func 89) { toList:=[]:Array Value } { toList:=[]:Array Value }]:=by kernel_rfl
theorem KL (es:VQ) (cl:Nat) (seen:List Nat) (m m':List SV) (k:Nat):bY ee 90 60 (I2 es cl seen m k) VP (.sl 3 0 k none) 3 (.row m' 9 (0,0) (some 1))=[0=0/\k=k/\nZ=none,strs (bA (e9 m))=m',m'.all ab=true,m=strs (e9 m)/\k=(e9 m).length/\Aq (e9 m)/\9=9/\(0,0)=(0,0)/\1=1/\Value.func (Fn.func 89) { toList:=[]:Array Value } { toList:=[]:Array Value }=Value.func (Fn.func 89) { toList:=[]:Array Value } { toList:=[]:Array Value }]:=by kernel_rfl
def CM (W:World) (D:ByteArray->Bool):Prop:=∀ w,W.hp.Sub w.hp->∀ q:ByteArray,q.size<=1000000000->Calls Tryz.prog 91 #[.string q] w fun e w'=>Below w.heap.size w w'/\e=.returned (.bool (D q))
section
variable {W:World} {cs0:List Frame} {M:Own} {ν:aP} {D:ByteArray->Bool} {E:List cp} {cl:Nat}
theorem Cc (hm:MX W) (hM:∀ z,¬ M z) (hp:CM W D)  {S:SM} {q:ByteArray} (hq:q.size<=1000000000) {o:List (Nat × gM)} {H:Hp} {M1:Own} {w1:World} (hk:Kept W.hp M W H M1 w1) {R:Ending->World->Prop}
  (h1:ah (dS ee 91 60 S o)) (h2:iD ee 91 60 S o=eL ee 91 [.v (.string q)] .normal) (h3:ah (dT ee 91 60 S o (.v (.bool (D q)))))
  (nx:∀ H' M2 w2,Kept W.hp M W H' M2 w2->af ee M2 w2 cs0 90 R ν (dA ee 91 60 S o (.v (.bool (D q))))):
  af ee M1 w1 cs0 90 R ν S:=by
 refine af.gD (qQ hM hk.base hm) hk (n:=60) (g:=91) (o:=o) (args:=[.v (.string q)]) h1 h2 fun ν' w a hle YJ hgr ha=>?_;obtain ⟨y0,as0,rfl,q0,ha⟩:=ha.cons_inv;obtain rfl:=ha.ay;obtain rfl:=VR.ae.1 q0;exact (hp w (hk.Zf.trans YJ) q hq).mono fun e w' ⟨hB,he⟩=>⟨hB,_,he,fun M2 ZE=>⟨h3,nx _ M2 w' ZE⟩⟩
theorem zr (hm:MX W) (hM:∀ z,¬ M z) (hB:dO E cl) {seen:List Nat} {H:Hp} {M1:Own} {w1:World} (hk:Kept W.hp M W H M1 w1) {R:Ending->World->Prop}
  (YW:(∀ e∈E,seen.contains e.2=true)->af ee M1 w1 cs0 90 R ν (IL (E.map mI) cl seen)) (hone:∀ x∈E,seen.contains x.2=false->af ee M1 w1 cs0 90 R ν (DD (E.map mI) cl seen (mI x))):
  af ee M1 w1 cs0 90 R ν (JM (E.map mI) cl seen):=by
 have K:=qQ hM hk.base hm;refine af.go K (G5 (E.map mI) cl seen) (by unfold SH.ob;rw [HM];trivial) ?_;refine af.next K (JH (E.map mI) cl seen) ?_ (fun e he hs=>?_) fun Y0=>?_
 ·cases he:(!seen.isEmpty&&!(E.map mI).isEmpty&&(E.map mI).all fun e=>Nat.ble cl e.2.2)
  ·rfl
  ·rw [V6,V6,Wn] at he;obtain ⟨⟨_,h2⟩,h3⟩:=he;cases hE:E with
   | nil=>rw [hE] at h2;cases h2
   | cons x E'=>
    have hx:x∈E:=by rw [hE];exact Wi
    have h4:=Wu (h3 (mI x) (Wc.2 ⟨x,hx,rfl⟩));have h5:=hB.born x hx;have h4':cl<=x.2:=h4;omega
 ·obtain ⟨x,hx,rfl⟩:=Wc.1 he;exact ⟨_,JD (E.map mI) cl seen (mI x),by unfold SH.ob;rw [Jg];trivial,hone x hx hs⟩
 ·refine ⟨_,IF (E.map mI) cl seen,by unfold SH.ob;rw [Ic];trivial,YW fun x hx=>?_⟩;cases hc:seen.contains x.2
  ·have h1:=Y0 (mI x) (Wc.2 ⟨x,hx,rfl⟩) hc;have h2:Nat.blt x.2 cl=false:=h1;have h3:=hB.born x hx;have h4:Nat.blt x.2 cl=true:=by simp [Nat.blt_eq];omega
   rw [h4] at h2;cases h2
  ·rfl
theorem yG (hm:MX W) (hM:∀ z,¬ M z) (hB:dO E cl) {seen:List Nat} {Y1:List ByteArray} {H:Hp} {M1:Own} {w1:World} (hk:Kept W.hp M W H M1 w1) {R:Ending->World->Prop}
  (YW:(∀ e∈E,seen.contains e.2=true)->af ee M1 w1 cs0 90 R ν (I2 (E.map mI) cl seen (strs Y1) Y1.length)) (hone:∀ x∈E,seen.contains x.2=false->af ee M1 w1 cs0 90 R ν (EJ (E.map mI) cl seen (strs Y1) Y1.length (mI x))):
  af ee M1 w1 cs0 90 R ν (JO (E.map mI) cl seen (strs Y1) Y1.length):=by
 have K:=qQ hM hk.base hm;refine af.go K (Hj (E.map mI) cl seen (strs Y1) Y1.length) (by unfold SH.ob;rw [GA];trivial) ?_;refine af.next K (Il (E.map mI) cl seen (strs Y1) Y1.length) ?_ (fun e he hs=>?_) fun Y0=>?_
 ·cases he:(!seen.isEmpty&&!(E.map mI).isEmpty&&(E.map mI).all fun e=>Nat.ble cl e.2.2)
  ·rfl
  ·rw [V6,V6,Wn] at he;obtain ⟨⟨_,h2⟩,h3⟩:=he;cases hE:E with
   | nil=>rw [hE] at h2;cases h2
   | cons x E'=>
    have hx:x∈E:=by rw [hE];exact Wi
    have h4:=Wu (h3 (mI x) (Wc.2 ⟨x,hx,rfl⟩));have h5:=hB.born x hx;have h4':cl<=x.2:=h4;omega
 ·obtain ⟨x,hx,rfl⟩:=Wc.1 he;exact ⟨_,Jt (E.map mI) cl seen (strs Y1) Y1.length (mI x),by unfold SH.ob;rw [Ig];trivial,hone x hx hs⟩
 ·refine ⟨_,J8 (E.map mI) cl seen (strs Y1) Y1.length,by unfold SH.ob;rw [JJ];trivial,YW fun x hx=>?_⟩;cases hc:seen.contains x.2
  ·have h1:=Y0 (mI x) (Wc.2 ⟨x,hx,rfl⟩) hc;have h2:Nat.blt x.2 cl=false:=h1;have h3:=hB.born x hx;have h4:Nat.blt x.2 cl=true:=by simp [Nat.blt_eq];omega
   rw [h4] at h2;cases h2
  ·rfl
theorem Gw (hm:MX W) (hM:∀ z,¬ M z) (hB:dO E cl) (Y2:E.length<=1000) (hp:CM W D) (hν:∀ i b,ν i=some b->i=0\/i=1):∀ (n:Nat) (seen:List Nat) (Y1:List ByteArray),(E.filter fun x=>!seen.contains x.2).length<=n->kN E D seen Y1->Y1≠[]->∀ H M1 w1,Kept W.hp M W H M1 w1->
  af ee M1 w1 cs0 90 (EF W (bA ((E.map fun e=>e.1.p).filter D))) ν (JO (E.map mI) cl seen (strs Y1) Y1.length):=by
 intro n;induction n with
 | zero=>
  intro seen Y1 hn hg YI H M1 w1 hk;refine yG hm hM hB hk (fun Y0=>?_) fun x hx hs=>?_;rotate_left
  ·have:x∈E.filter fun x=>!seen.contains x.2:=Wo.2 ⟨hx,by show (!seen.contains x.2)=true;rw [hs];rfl⟩;rw [Wd.1 (YE.1 hn)] at this;cases this
  ·have hpm:=hg.all Y0;have hso:=gG hpm;have hln:(bA Y1).length=Y1.length:=(bz Y1).length_eq;have hgl:=hg.len;have hsne:bA Y1≠[]:=fun h=>YI (Wd.1 (by rw [<- hln,h];rfl))
   refine af.bY (qQ hM hk.base hm) (n:=60) (o:=VP) (x:=.sl 3 0 Y1.length none) (i:=3) (so:=.row (strs (bA Y1)) 9 (0,0) (some 1)) (by
    rw [KL];simp only [ah,jI,bL,VV,VX,VW];exact ⟨YI,by omega,hg.size hB⟩) fun ν' w' y b1 ob hv hb ho YO hw Zv=>?_
   obtain ⟨M3,w3,M4,s',hBb,hr⟩:=Zv
   have hn:W.heap.size<=b1.1:=by
    rcases hk.base.own _ hw with h | h
    ·exact h
    ·exact absurd h (hM _)
   rw [<- hso];exact ⟨aB hM (hk.base.trans hBb) hr,y,rfl,.inr ⟨hsne,by rw [hln];exact cG.fW hv hb ho YO hn fun zs hz=>lJ hz⟩⟩
 | succ n ih=>
  intro seen Y1 hn hg YI H M1 w1 hk;refine yG hm hM hB hk (fun Y0=>?_) fun x hx hs=>?_
  ·have hpm:=hg.all Y0;have hso:=gG hpm;have hln:(bA Y1).length=Y1.length:=(bz Y1).length_eq;have hgl:=hg.len;have hsne:bA Y1≠[]:=fun h=>YI (Wd.1 (by rw [<- hln,h];rfl))
   refine af.bY (qQ hM hk.base hm) (n:=60) (o:=VP) (x:=.sl 3 0 Y1.length none) (i:=3) (so:=.row (strs (bA Y1)) 9 (0,0) (some 1)) (by
    rw [KL];simp only [ah,jI,bL,VV,VX,VW];exact ⟨YI,by omega,hg.size hB⟩) fun ν' w' y b1 ob hv hb ho YO hw Zv=>?_
   obtain ⟨M3,w3,M4,s',hBb,hr⟩:=Zv
   have hn:W.heap.size<=b1.1:=by
    rcases hk.base.own _ hw with h | h
    ·exact h
    ·exact absurd h (hM _)
   rw [<- hso];exact ⟨aB hM (hk.base.trans hBb) hr,y,rfl,.inr ⟨hsne,by rw [hln];exact cG.fW hv hb ho YO hn fun zs hz=>lJ hz⟩⟩
  ·have hn2:=mV hx hs hn;have hfb:=kJ hB.Zw hx;have hfx:∃ (YN:Nat) (b:Nat),(seen++[(mI x).snd.snd]).getLast?=some YN/\List.find? (fun e=>e.snd.snd.beq YN) (E.map mI)=some (SV.v (Value.string x.fst.p),cU x,b):=⟨x.2,x.2,gU,hfb⟩;have YX:=cH E;have hgn:=hg.next hB.Zw hx hs;have Zb:=hB.size x hx;have hgl:=hg.len;refine Cc hm hM hp Zb hk (o:=Iy x) ?_ (by kernel_rfl) ?_ fun H' M2 w2 ZM=>?_
   ·rw [Nc];simp only [ah,VV,VX,VW];exact hfx
   ·rw [Od];simp only [ah,VV,VX,VW];exact hfx
   ·cases hd:D x.1.p
    ·rw [hd,if_neg (by decide),W4] at hgn;refine af.reach (qQ hM ZM.base hm) (k:=2) (n:=60) (o:=ff [0] false) (ren:=[(0,0),(1,1),(2,2),(3,3)]) (eqs:=[1,3]) (S:=I5 (E.map mI) cl seen (strs Y1) Y1.length x false) ?_ (by kernel_rfl) (fun i b h=>by rcases hν i b h with h | h <;> rw [h] <;> rfl) (ih (seen++[x.2]) Y1 hn2 hgn YI H' M2 w2 ZM);rw [Of];simp only [ah,YX,bL,VV,VX,VW];repeat' apply And.intro
     all_goals first | rfl | skip
    ·rw [hd,if_pos rfl] at hgn;have nx:=ih (seen++[x.2]) (Y1++[x.1.p]) hn2 hgn (by simp) H' M2 w2 ZM;rw [V7,show ([x.1.p]:List ByteArray).length=1 from rfl] at nx;refine af.reach (qQ hM ZM.base hm) (k:=2) (n:=60) (o:=[(0,.b true),(1,.app (strs Y1) [.v (.string x.1.p)])]) (ren:=[(0,0),(1,1),(2,2),(3,5)]) (eqs:=[1,3]) (S:=I5 (E.map mI) cl seen (strs Y1) Y1.length x true) ?_ (by kernel_rfl) (fun i b h=>by rcases hν i b h with h | h <;> rw [h] <;> rfl) nx;rw [Nj];simp only [ah,YX,bL,qe,iK,s7,pg,WM,VV,VX,VW];repeat' apply And.intro
     all_goals first | rfl | omega | exact We (by rw [iK];omega) | skip
theorem Hh (hm:MX W) (hM:∀ z,¬ M z) (hB:dO E cl) (Y2:E.length<=1000) (hp:CM W D) (hν:∀ i b,ν i=some b->i=0\/i=1):∀ (n:Nat) (seen:List Nat),(E.filter fun x=>!seen.contains x.2).length<=n->kN E D seen []->∀ H M1 w1,Kept W.hp M W H M1 w1->
  af ee M1 w1 cs0 90 (EF W (bA ((E.map fun e=>e.1.p).filter D))) ν (JM (E.map mI) cl seen):=by
 intro n;induction n with
 | zero=>
  intro seen hn hg H M1 w1 hk;refine zr hm hM hB hk (fun Y0=>?_) fun x hx hs=>?_;rotate_left
  ·have:x∈E.filter fun x=>!seen.contains x.2:=Wo.2 ⟨hx,by show (!seen.contains x.2)=true;rw [hs];rfl⟩;rw [Wd.1 (YE.1 hn)] at this;cases this
  ·have hpm:=hg.all Y0;have hso:=gG hpm;have h0:bA ([]:List ByteArray)=[]:=Wd.1 (bz []).length_eq;refine af.ao (qQ hM hk.base hm) (n:=60) (o:=VP) (v:=.slice none 0 0) ?_ fun ν' M3 w3 s' w' _ Zv hr=>⟨aB hM (hk.base.trans Zv) hr,_,rfl,.inl ⟨by rw [<- hso,h0],rfl⟩⟩;rw [Kp];simp only [ah,VV,VX,VW]
 | succ n ih=>
  intro seen hn hg H M1 w1 hk;refine zr hm hM hB hk (fun Y0=>?_) fun x hx hs=>?_
  ·have hpm:=hg.all Y0;have hso:=gG hpm;have h0:bA ([]:List ByteArray)=[]:=Wd.1 (bz []).length_eq;refine af.ao (qQ hM hk.base hm) (n:=60) (o:=VP) (v:=.slice none 0 0) ?_ fun ν' M3 w3 s' w' _ Zv hr=>⟨aB hM (hk.base.trans Zv) hr,_,rfl,.inl ⟨by rw [<- hso,h0],rfl⟩⟩;rw [Kp];simp only [ah,VV,VX,VW]
  ·have hn2:=mV hx hs hn;have hfb:=kJ hB.Zw hx;have hfx:∃ (YN:Nat) (b:Nat),(seen++[(mI x).snd.snd]).getLast?=some YN/\List.find? (fun e=>e.snd.snd.beq YN) (E.map mI)=some (SV.v (Value.string x.fst.p),cU x,b):=⟨x.2,x.2,gU,hfb⟩;have YX:=cH E;have hgn:=hg.next hB.Zw hx hs;have Zb:=hB.size x hx;refine Cc hm hM hp Zb hk (o:=IS x) ?_ (by kernel_rfl) ?_ fun H' M2 w2 ZM=>?_
   ·rw [NW];simp only [ah,VV,VX,VW];exact hfx
   ·rw [OJ];simp only [ah,VV,VX,VW];exact hfx
   ·cases hd:D x.1.p
    ·rw [hd,if_neg (by decide)] at hgn;refine af.reach (qQ hM ZM.base hm) (k:=2) (n:=60) (o:=ff [0] false) (ren:=[(0,0),(1,1),(2,2)]) (eqs:=[1]) (S:=I1 (E.map mI) cl seen x false) ?_ (by kernel_rfl) (fun i b h=>by rcases hν i b h with h | h <;> rw [h] <;> rfl) (ih (seen++[x.2]) hn2 hgn H' M2 w2 ZM);rw [Om];simp only [ah,YX,VV,VX,VW];repeat' apply And.intro
     all_goals first | rfl | skip
    ·rw [hd,if_pos rfl] at hgn;have nx:=Gw (cs0:=cs0) hm hM hB Y2 hp hν n (seen++[x.2]) [x.1.p] hn2 hgn (by simp) H' M2 w2 ZM;rw [show ([x.1.p]:List ByteArray).length=1 from rfl] at nx;refine af.reach (qQ hM ZM.base hm) (k:=2) (n:=60) (o:=ff [0] true++ff [1] false) (ren:=[(0,0),(1,1),(2,2),(3,4)]) (eqs:=[1,3]) (S:=I1 (E.map mI) cl seen x true) ?_ (by kernel_rfl) (fun i b h=>by rcases hν i b h with h | h <;> rw [h] <;> rfl) nx;rw [Nd];simp only [ah,YX,VV,VX,VW];repeat' apply And.intro
     all_goals first | rfl | skip
end
theorem wS {W:World} {b m:Nat} {E:List cp} {cl:Nat} {D:ByteArray->Bool}  (hm:MX W) (hA:kK W b m E cl) (hB:dO E cl) (Y2:E.length<=1000) (hn:[b,m].Nodup)  (hp:CM W D):
  Calls Tryz.prog 90 #[fy b,.func (.func 91) #[] #[]] W (EF W (bA ((E.map fun e=>e.1.p).filter D))):=by
 have ho:∀ (j:Nat) (o':SO) (b' c':Nat),[SO.row [.map 1] 96 (0,0) none,SO.map (E.map mI) cl][j]?=some o'->[(b,0),(m,0)][j]?=some (b',c')->∃ r,W.heap[b']?=some r/\OR (aA [(b,0),(m,0)]) j o' r:=by
  intro j o' b' c' q1 q2;match j with
  | 0=>
   simp only [Wa,Option.some.injEq] at q1 q2;subst q1;cases q2;exact ⟨_,hA.row,[.map (some m)],[],rfl,au.cons (VR.cV.2 ⟨(m,0),rfl,rfl⟩) au.nil,rfl⟩
  | 1=>
   simp only [WU,Wa,Option.some.injEq] at q1 q2;subst q1;cases q2;exact ⟨_,hA.map,_,rfl,o8 E⟩
  | j+2=>simp at q1
 refine aZ (E:=ee) rfl (d:=6) (l:=[(b,0),(m,0)]) (os:=[.row [.map 1] 96 (0,0) none,.map (E.map mI) cl]) rfl (by simp) (by simpa using hn) ho rfl (args:=[.ptr 0 0,Hz]) (a:=[fy b,.func (.func 91) #[] #[]]) (S0:=Bv (E.map mI) cl) (by kernel_rfl) (au.cons (VR.aF.2 ⟨(b,0),rfl,rfl⟩) (au.cons ?_ au.nil)) fun cs0=>?_
 ·exact VR.eH.2 ⟨[],[],rfl,au.nil,au.nil⟩
 have hM:∀ z,¬ (aD [(b,0),(m,0)] ([SO.row [.map 1] 96 (0,0) none,SO.map (E.map mI) cl].map fun o=>(o,false))) z:=fun z=>aY (os:=[SO.row [.map 1] 96 (0,0) none,SO.map (E.map mI) cl])
 have Z6:=Kept.start (H0:=W.hp) (M:=aD [(b,0),(m,0)] ([SO.row [.map 1] 96 (0,0) none,SO.map (E.map mI) cl].map fun o=>(o,false))) (w:=W) (Hp.Sub.refl _) (fun z o _=>hM z) (dN (by
  intro j o' m' b' c' q1 q2;rw [Wv] at q1;obtain ⟨o2,q3,q4⟩:=Wg.1 q1;cases q4;exact ho j o' b' c' q3 q2)) (fun _ h=>h)
 have hν:∀ i b',aA [(b,0),(m,0)] i=some b'->i=0\/i=1:=fun i b' h=>by
  match i with
  | 0=>exact .inl rfl
  | 1=>exact .inr (rfl)
  | i+2=>simp [aA] at h
 have nx:=Hh (cs0:=cs0) (ν:=aA [(b,0),(m,0)]) hm hM hB Y2 hp hν (E.filter fun x=>!([]:List Nat).contains x.2).length [] (Wx _) kN.start W.hp _ W Z6;refine af.reach (qQ hM Z6.base hm) (k:=2) (n:=60) (o:=VP) (ren:=[(0,0),(1,1),(2,2)]) (eqs:=[1]) (F:=qx bZ) (d:=6) (l:=rI (E.map mI) cl []) ?_ (by kernel_rfl) (fun i b h=>by rcases hν i b h with h | h <;> rw [h] <;> rfl) nx;rw [QB];simp only [ah,cH,bZ,VV,VX,VW];repeat' apply And.intro
 all_goals first | rfl | skip
namespace al
theorem Vn (q:ByteArray) (v:Value):ao bn 91 60 (a7 bn 91 [.v (.string q)]) VP v=[VU true=v]:=by kernel_rfl
def Kt:SM:=(a6 ee 90 [.ptr 0 0,Hz] (bG 6 1 0 [Hv])).getD dn
theorem RT (v:Value):ao ee 90 100 Kt oT v=[VT none 0 0=v,VT none 0 0=VT none 0 0/\Value.func (Fn.func 89) { toList:=[]:Array Value } { toList:=[]:Array Value }=Value.func (Fn.func 89) { toList:=[]:Array Value } { toList:=[]:Array Value }]:=by kernel_rfl
def Dg:SM:=(a6 bn 63 [.ptr 0 0] (bG 6 1 0 [cv []])).getD dn
theorem Sd (u:Unit):dS bn 90 100 Dg oT=[]:=by kernel_rfl
theorem Rv (v:Value):dT bn 90 100 Dg oT (.v v)=[]:=by kernel_rfl
theorem S4 (v:Value):ao bn 63 100 (dA bn 90 100 Dg oT (.v v)) oT v=[v=v]:=by kernel_rfl
theorem Bz (w:World) (q:ByteArray):Calls Tryz.prog 91 #[.string q] w fun e w'=>Below w.heap.size w w'/\e=.returned (.bool true):=by
 refine (bP (E:=bn) rfl rfl (args:=[.v (.string q)]) (a:=[.string q]) (S0:=a7 bn 91 [.v (.string q)]) (by kernel_rfl) (au.cons (VR.ae.2 rfl) au.nil) fun cs0=>?_);refine af.ao fQ (n:=60) (o:=VP) (v:=.bool true) ?_ fun ν' M1 w1 s' w' _ Zv hr=>⟨aB aE Zv hr,rfl⟩;rw [Vn];simp only [ah,VV,VX,VW]
theorem Dm {w:World} {b:Nat} {E:List cp} (hm:MX w) (h:iY w b E) (Y2:E.length<=1000):
  Calls Tryz.prog 90 #[fy b,.func (.func 91) #[] #[]] w (EF w (bA (E.map fun e=>e.1.p))):=by
 rcases h with ⟨m,cl,YI,hA,hB⟩ | ⟨rfl,hZ⟩
 ·have:=wS (D:=fun _=>true) hm hA hB Y2 (by simpa using YI) (fun w2 hs q hq=>Bz w2 q);rw [XO.2 fun _ _=>rfl] at this;exact this
 ·have hM:∀ z,¬ (aD [(b,0)] ([SO.row [.v (.map none)] 96 (0,0) none].map fun o=>(o,false))) z:=fun z=>aY (os:=[_])
  have ho:∀ (j:Nat) (o':SO) (b' c':Nat),[SO.row [.v (.map none)] 96 (0,0) none][j]?=some o'->[(b,0)][j]?=some (b',c')->∃ r,w.heap[b']?=some r/\OR (aA [(b,0)]) j o' r:=by
   intro j o' b' c' q1 q2;match j with
   | 0=>
    simp only [Wa,Option.some.injEq] at q1 q2;subst q1;cases q2;exact ⟨_,hZ,[.map none],[],rfl,au.cons (VR.ae.2 rfl) au.nil,rfl⟩
   | j+1=>simp at q1
  refine aZ (E:=ee) rfl (d:=6) (l:=[(b,0)]) (os:=[.row [.v (.map none)] 96 (0,0) none]) rfl (by simp) (by simp) ho rfl (args:=[.ptr 0 0,Hz]) (a:=[fy b,.func (.func 91) #[] #[]]) (S0:=Kt) (by kernel_rfl) (au.cons (VR.aF.2 ⟨(b,0),rfl,rfl⟩) (au.cons (VR.eH.2 ⟨[],[],rfl,au.nil,au.nil⟩) au.nil)) fun cs0=>?_
  have Z6:=Kept.start (H0:=w.hp) (M:=aD [(b,0)] ([SO.row [.v (.map none)] 96 (0,0) none].map fun o=>(o,false))) (w:=w) (Hp.Sub.refl _) (fun z o _=>hM z) (dN (by
   intro j o' m' b' c' q1 q2;rw [Wv] at q1;obtain ⟨o2,q3,q4⟩:=Wg.1 q1;cases q4;exact ho j o' b' c' q3 q2)) (fun _ h=>h)
  refine af.ao (qQ hM Z6.base hm) (n:=100) (o:=oT) (v:=.slice none 0 0) ?_ fun ν' M1 w1 s' w' _ Zv hr=>⟨aB hM Zv hr,_,rfl,.inl ⟨Wd.1 (bz []).length_eq,rfl⟩⟩;rw [RT];simp only [ah,VV,VX,VW]
theorem Ds {w:World} {b:Nat} {E:List cp} (hm:MX w) (h:iY w b E) (Y2:E.length<=1000):Calls Tryz.prog 63 #[fy b] w (EF w (bA (E.map fun e=>e.1.p))):=by
 obtain ⟨v0,hb⟩:=h.cells
 have ho:∀ (j:Nat) (o':SO) (b' c':Nat),[SO.look []][j]?=some o'->[(b,0)][j]?=some (b',c')->∃ r,w.heap[b']?=some r/\OR (aA [(b,0)]) j o' r:=by
  intro j o' b' c' q1 q2;match j with
  | 0=>
   simp only [Wa,Option.some.injEq] at q1 q2;subst q1;cases q2;exact ⟨_,hb,[],_,_,_,rfl,au.nil,fun k y h=>by simp at h⟩
  | j+1=>simp at q1
 refine aZ (E:=bn) rfl (d:=6) (l:=[(b,0)]) (os:=[.look []]) rfl (by simp) (by simp) ho rfl (args:=[.ptr 0 0]) (a:=[fy b]) (S0:=Dg) (by kernel_rfl) (au.cons (VR.aF.2 ⟨(b,0),rfl,rfl⟩) au.nil) fun cs0=>?_;have hM:∀ z,¬ (aD [(b,0)] ([SO.look []].map fun o=>(o,false))) z:=fun z=>aY (os:=[SO.look []])
 have Z6:=Kept.start (H0:=w.hp) (M:=aD [(b,0)] ([SO.look []].map fun o=>(o,false))) (w:=w) (Hp.Sub.refl _) (fun z o _=>hM z) (dN (by
  intro j o' m b' c' q1 q2;rw [Wv] at q1;obtain ⟨o2,q3,q4⟩:=Wg.1 q1;cases q4;exact ho j o' b' c' q3 q2)) (fun _ h=>h)
 refine af.gD fQ Z6 (n:=100) (g:=90) (o:=oT) (args:=[.ptr 0 0,.v (.func (.func 91) #[] #[])]) (by rw [Sd ()];trivial) (by kernel_rfl) fun ν' w1 a hle YJ hgr ha=>?_;obtain ⟨y1,ZY,rfl,q1,YV⟩:=ha.cons_inv;obtain ⟨y2,as2,rfl,q2,ZL⟩:=YV.cons_inv;obtain rfl:=ZL.ay;obtain rfl:=VR.ae.1 q2;obtain ⟨bb,Zd,rfl⟩:=VR.aF.1 q1;have Zd:=Zd.symm.trans (hle 0 (b,0) rfl);cases Zd;refine (Dm (hm.sub (Z6.Zf.trans YJ)) (h.keep (Z6.Zf.trans YJ)) Y2).mono fun e w2 ⟨hB,v,he,hv⟩=>⟨hB,v,he,fun M2 ZE=>⟨by rw [Rv];trivial,?_⟩⟩;refine af.ao fQ (n:=100) (o:=oT) (v:=v) (by rw [S4];simp [ah]) fun ν' M5 w5 s5 w6 _ hB5 hr5=>⟨aB hM (ZE.base.trans hB5) hr5,v,rfl,?_⟩;rcases hv with h | ⟨h0,g,cc,rest,hy,ε,hnc,hh,Zb⟩
 ·exact .inl h
 ·refine .inr ⟨h0,g,cc,rest,hy,Wj (oU Z6.Zf YJ) ε,hnc,(ZE.now hB5 hr5) _ _ ?_,Zb⟩;unfold Hp.grow;rw [if_neg (by omega)];exact hh
end al
namespace itm
def u6:SM:=(a6 bn 22 [.ptr 0 0] (bG 6 1 0 [cv []])).getD dn
def QC (l:List ByteArray) (k:Nat):SM:=ti bn 63 100 u6 oT (cx k) (PG l)
def QY:SM:=dA bn 63 100 u6 oT (.v (.slice none 0 0))
def L5:List SI:=dB bn 2 100 (QC [] 0) VP
def nb (n:Nat) (x:SV) (i:Int):SF:={ fn:=22,tm:=fh 22 5 ([.ptr 0 0,.aH,x,.aH,.aH,.aH,.sl 1 0 n none,.v (.int .i64 n),.v (.int .i64 i)]++List.replicate 13 .aH),todo:=L5,defers:=[],ret:=false,kind:=.normal,ro:=none }
def NI (l:List SV):Option (SO × Bool):=some (.row l 48 (0,0) (some 3),true)
def Kr (q:List SV):List (Option (SO × Bool)):=[cv [],JU q]
def Kv (q m:List SV):List (Option (SO × Bool)):=[cv [],JU q,NI m]
def rc (k:Nat):SV:=.sl 2 0 k none
def oG (p:ByteArray):List (Nat × gM):=[(2,.cells [.v (.string p)])]++ff (List.range 60) true
def sA (q:List SV) (n:Nat) (i:Int) (p:ByteArray) (k:Int) (a:Option Addr) (l c:Nat):SM:=dA bn 64 100 (SM.at (nb n bZ i) 6 (Kr q)) (oG p) (kX k a l c)
def sB (q m:List SV) (n r:Nat) (i:Int) (p:ByteArray) (k:Int) (a:Option Addr) (l c:Nat):SM:=dA bn 64 100 (SM.at (nb n (rc r) i) 6 (Kv q m)) (oG p) (kX k a l c)
theorem QL (u:Unit):dS bn 63 100 u6 oT=[]:=by kernel_rfl
theorem Q7 (n:Nat) (qq:List ByteArray):Bs bn 63 100 u6 oT (cx n) (PG qq)=[]:=by kernel_rfl
theorem Sp (n:Nat) (qq:List ByteArray):reach bn 2 100 (QC qq n) VP [(0,0),(1,1)] [1] (nb n bZ 0) 6 (Kr (strs qq))=[0=0,VT none 0 0=VT none 0 0,0=0/\n=n/\nZ=none,vZ (↑n:Int)=vZ (↑n:Int),vZ 0=vZ 0,strs qq=strs qq,(strs qq).all ab=true]:=by kernel_rfl
theorem T9 (u:Unit):dT bn 63 100 u6 oT (.v (.slice none 0 0))=[]:=by kernel_rfl
theorem Uz (v:Value):ao bn 22 100 QY (ff (List.range 10) false) v=[VT none 0 0=v,false=false]:=by kernel_rfl
theorem RH (q m m' w:List SV) (n r:Nat) (i i':Int) (p:ByteArray) (k:Int) (a:Option Addr) (l c:Nat) (qq:List ByteArray):dS bn 64 100 (SM.at (nb n bZ i) 6 (Kr q)) (oG p)=[q[0+i.toNat*1]?=some (SV.v (VS p)),ai i n=true,decide (i<(↑n:Int))=true]:=by kernel_rfl
theorem Ue (q m m' w:List SV) (n r:Nat) (i i':Int) (p:ByteArray) (k:Int) (a:Option Addr) (l c:Nat) (qq:List ByteArray):dS bn 64 100 (SM.at (nb n (rc r) i) 6 (Kv q m)) (oG p)=[q[0+i.toNat*1]?=some (SV.v (VS p)),ai i n=true,decide (i<(↑n:Int))=true]:=by kernel_rfl
theorem R1 (q m m' w:List SV) (n r:Nat) (i i':Int) (p:ByteArray) (k:Int) (a:Option Addr) (l c:Nat) (qq:List ByteArray):dT bn 64 100 (SM.at (nb n bZ i) 6 (Kr q)) (oG p) (kX k a l c)=[q[0+i.toNat*1]?=some (SV.v (VS p)),ai i n=true,decide (i<(↑n:Int))=true]:=by kernel_rfl
theorem TV (q m m' w:List SV) (n r:Nat) (i i':Int) (p:ByteArray) (k:Int) (a:Option Addr) (l c:Nat) (qq:List ByteArray):dT bn 64 100 (SM.at (nb n (rc r) i) 6 (Kv q m)) (oG p) (kX k a l c)=[q[0+i.toNat*1]?=some (SV.v (VS p)),ai i n=true,decide (i<(↑n:Int))=true]:=by kernel_rfl
theorem Vt (q m m' w:List SV) (n r:Nat) (i i':Int) (p:ByteArray) (k:Int) (a:Option Addr) (l c:Nat) (qq:List ByteArray) (v:Value):ao bn 22 60 (SM.at (nb n bZ i) 6 (Kr q)) (ff [0] false) v=[VT none 0 0=v,decide (i<(↑n:Int))=false]:=by kernel_rfl
theorem Uc (q m m' w:List SV) (n r:Nat) (i i':Int) (p:ByteArray) (k:Int) (a:Option Addr) (l c:Nat) (qq:List ByteArray):bY bn 22 60 (SM.at (nb n (rc r) i) 6 (Kv q m)) (ff [0] false) (rc r) 2 (.row m 48 (0,0) (some 3))=[0=0/\r=r/\nZ=none,m=m,m.all ab=true,decide (i<(↑n:Int))=false]:=by kernel_rfl
theorem UX (q m m' w:List SV) (n r:Nat) (i i':Int) (p:ByteArray) (k:Int) (a:Option Addr) (l c:Nat) (qq:List ByteArray):reach bn 2 100 (sA q n i p k a l c) ([(0,.b false)]++ff (List.range 40) true) [(0,0),(1,1),(2,3)] [1,2] (nb n (rc 1) i') 6 (Kv q m')=[0=0,0=0/\1=1/\nZ=none,0=0/\n=n/\nZ=none,vZ (↑n:Int)=vZ (↑n:Int),vZ (IntKind.i64.wrap (i+1))=vZ i',q=q,q.all ab=true,[]++List.take 3 (List.drop 0 (aQ (List.replicate 1 (List.map SV.v [VS ⟨⟨[]⟩⟩,vZ 0,VT none 0 0])).flatten 0 (aQ (aQ (List.map SV.v [VS ⟨⟨[]⟩⟩,vZ 0,VT none 0 0]) 0 [SV.v (VS p)]) 1 (List.map SV.v [vZ k,VT a l c]))))=m',m'.all ab=true,false=false]:=by kernel_rfl
theorem RJ (q m m' w:List SV) (n r:Nat) (i i':Int) (p:ByteArray) (k:Int) (a:Option Addr) (l c:Nat) (qq:List ByteArray):reach bn 2 100 (sB q m n r i p k a l c) ([(0,.app m w)]++ff (List.range 40) true) [(0,0),(1,1),(2,4)] [1,2] (nb n (rc (r+1)) i') 6 (Kv q m')=[0=0,0=0/\r+1=r+1/\nZ=none,0=0/\n=n/\nZ=none,vZ (↑n:Int)=vZ (↑n:Int),vZ (IntKind.i64.wrap (i+1))=vZ i',q=q,q.all ab=true,m++w=m',m'.all ab=true,((List.take 3 (List.drop 0 (aQ (List.replicate 1 (List.map SV.v [VS ⟨⟨[]⟩⟩,vZ 0,VT none 0 0])).flatten 0 (aQ (aQ (List.map SV.v [VS ⟨⟨[]⟩⟩,vZ 0,VT none 0 0]) 0 [SV.v (VS p)]) 1 (List.map SV.v [vZ k,VT a l c]))))=w/\w.length=1*3)/\1≠0/\(2*(r+1)+1024)*48<=140737488355328)/\List.take (r*3) m=m/\m.length=r*3/\w.all SV.flat=true]:=by kernel_rfl
theorem vO {L:List ByteArray} {i:Nat} {q:ByteArray} (h:L[i]?=some q):(strs L)[0+(i:Int).toNat*1]?=some (.v (.string q)):=by
 rw [V5,W9,XQ];unfold strs;rw [Wv,Wv,h];rfl
def lg (H:Hp) (z:ByteArray->Int × List Int) (N:List ByteArray) (L:List ax):Prop:=L.map (fun x=>x.p)=N/\∀ x∈L,∃ zs,ko H x.a x.l zs/\(x.k,zs)=z x.p/\(x.l<=x.c\/x.l=0)
theorem lg.mono {H H':Hp} {z:ByteArray->Int × List Int} {N:List ByteArray} {L:List ax} (h:lg H z N L) (hs:H.Sub H'):lg H' z N L:=⟨h.1,fun x hx=>by
 obtain ⟨zs,h1,h2⟩:=h.2 x hx
 exact ⟨zs,h1.mono hs,h2⟩⟩
theorem lg.snoc {H:Hp} {z:ByteArray->Int × List Int} {N:List ByteArray} {L:List ax} (h:lg H z N L) {x:ax} {zs:List Int} (h1:ko H x.a x.l zs) (h2:(x.k,zs)=z x.p) (h3:x.l<=x.c\/x.l=0):lg H z (N++[x.p]) (L++[x]):=⟨by rw [Wq,h.1];rfl,fun y hy=>by
 rcases WJ.1 hy with hy | hy
 ·exact h.2 y hy
 ·rw [Wk.1 hy];exact ⟨zs,h1,h2,h3⟩⟩
def lr (n:Nat) (H:Hp):Hp:=fun k=>if k<n then none else H k
theorem Bc {n:Nat} {H H':Hp} (h:H.Sub H'):(lr n H).Sub (lr n H'):=fun k o hk=>by
 unfold lr at hk ⊢
 split at hk
 ·cases hk
 ·rename_i YR
  rw [if_neg YR];exact h k o hk
theorem AZ {n:Nat} {H:Hp} {w w':World} (hn:n<=w.heap.size):(EZ.grow w w').Sub (lr n (H.grow w w')):=fun k o hk=>by
 unfold Hp.grow EZ at hk
 split at hk
 ·cases hk
 ·rename_i YR
  unfold lr Hp.grow
  rw [if_neg (by omega),if_neg YR];exact hk
def OO (W:World) (z:ByteArray->Int × List Int) (N:List ByteArray) (e:Ending) (w':World):Prop:=Below W.heap.size W w'/\∃ v L,e=.returned v/\((N=[]/\L=[]/\v=.slice none 0 0) \/
 (L≠[]/\∃ g c rest,v=.slice (some ⟨g,0,none⟩) L.length c/\W.heap.size<=g/\L.length<=c/\w'.heap[g]?=some (.cells (vI L++rest).toArray 48 (0,0))/\(vI L++rest).length=c*3/\lg (EZ.dG W w' g) z N L))
section
variable {W:World} {cs0:List Frame} {M:Own} {ν:aP} {b:Nat} {z:ByteArray->Int × List Int} {E:List cp} {N:List ByteArray}
theorem Nr (hT:jY W b z E) (Zz:ν 0=some (b,0)) {S:SM} {p:ByteArray} {o:List (Nat × gM)} {H:Hp} {M1:Own} {w1:World} (hk:Kept W.hp M W H M1 w1) {R:Ending->World->Prop}
  (q1:ah (dS bn 64 100 S o)) (q2:iD bn 64 100 S o=eL bn 64 [.ptr 0 0,.v (.string p)] .normal)
  (q3:∀ k a l c,ah (dT bn 64 100 S o (kX k a l c)))
  (nx:∀ H' M2 w2 k a l c zs,Kept W.hp M W H' M2 w2->(lr W.heap.size H).Sub (lr W.heap.size H')->ko (lr W.heap.size H') a l zs->(k,zs)=z p->(l<=c\/l=0)->af bn M2 w2 cs0 22 R ν (dA bn 64 100 S o (kX k a l c))):
  af bn M1 w1 cs0 22 R ν S:=by
 refine af.gD fQ hk (n:=100) (g:=64) (o:=o) (args:=[.ptr 0 0,.v (.string p)]) q1 q2 fun ν' w a hle YJ hgr ha=>?_;obtain ⟨y1,ZY,rfl,r1,YV⟩:=ha.cons_inv;obtain ⟨y2,as2,rfl,r2,ZL⟩:=YV.cons_inv;obtain rfl:=ZL.ay;obtain rfl:=VR.ae.1 r2;obtain ⟨bb,Zd,rfl⟩:=VR.aF.1 r1;have Zd:=Zd.symm.trans (hle 0 (b,0) Zz);cases Zd;have hs:=hk.Zf.trans YJ;obtain ⟨v1,c1⟩:=(hT.tree.keep hs).cells;exact (BE c1 (hT.get.mono hs) p EZ).mono fun e w' ⟨hB,k,a,l,c,zs,he,hd,hz,Ze⟩=>⟨hB,.agg #[.int .i64 k,.slice a l c],he,fun M2 ZE=>⟨q3 k a l c,nx _ M2 w' k a l c zs ZE (Bc (Hp.fj YJ)) (hd.mono (AZ (oU hk.Zf YJ))) hz Ze⟩⟩
theorem ph (hT:jY W b z E) (hM:∀ z,¬ M z) (Zz:ν 0=some (b,0)) (hν:∀ i b,ν i=some b->i=0) (fewN:N.length<=1000):∀ (j i:Nat),i+j=N.length->∀ H M1 w1 L,Kept W.hp M W H M1 w1->lg (lr W.heap.size H) z (N.take i) L->L≠[]->af bn M1 w1 cs0 22 (OO W z N) ν (SM.at (nb N.length (rc L.length) (i:Int)) 6 (Kv (strs N) (cI L)))
 | 0,i,hj,H,M1,w1,L,hk,hL,YI=>by
  rw [We (by omega)] at hL
  refine af.bY fQ (n:=60) (o:=ff [0] false) (x:=rc L.length) (i:=2) (so:=.row (cI L) 48 (0,0) (some 3)) (by
   rw [Uc (m':=[]) (w:=[]) (i':=0) (p:=⟨#[]⟩) (k:=0) (a:=none) (l:=0) (c:=0) (qq:=[])];simp only [ah,az,V2 (show ¬ (i:Int)<(N.length:Int) by omega),VV,VX,VW]) fun ν' w' y b1 ob hv hb ho YO hw Zv=>?_
  obtain ⟨M3,w3,M4,s',hBb,hr⟩:=Zv
  have hn:W.heap.size<=b1.1:=by
   rcases hk.base.own _ hw with h | h
   ·exact h
   ·exact absurd h (hM _)
  have hx:H b1.1=none:=by
   cases hh:H b1.1 with
   | none=>rfl
   | some o=>
    obtain ⟨h1,h2,_⟩:=hk.still _ _ hh;rcases hw with h | h
    ·omega
    ·exact absurd h h2
  have YJ:(lr W.heap.size H).Sub (EZ.dG W w' b1.1):=fun k o' hko=>by
   unfold lr at hko;split at hko
   ·cases hko
   ·rename_i YR;have hne':k≠b1.1:=fun e=>by rw [e,hx] at hko;cases hko
    unfold Hp.dG;rw [if_neg hne'];unfold Hp.grow;rw [if_neg YR];exact (hk.now hBb hr) k o' hko
  have hns:=cG.fW (W:=W) hv hb ho YO hn fun zs hz=>tI hz;obtain ⟨g,cc,rest,hy,ε,hnc,hh,Zb⟩:=hns
  obtain rfl:g=b1.1:=by
   obtain ⟨bb,Zd,hle,hy2⟩:=VR.aL.1 hv;rw [hb] at Zd;cases Zd;rw [hy] at hy2;injection hy2 with e1 _ _;injection e1 with e1;injection e1 with e1
  exact ⟨aB hM (hk.base.trans hBb) hr,y,L,rfl,.inr ⟨YI,b1.1,cc,rest,hy,ε,hnc,hh,Zb,hL.mono YJ⟩⟩
 | j+1,i,hj,H,M1,w1,L,hk,hL,YI=>by
  have hi:i<N.length:=by omega
  have hq:N[i]?=some N[i]:=V4 hi;have Zg:N.take (i+1)=N.take i++[N[i]]:=Wp hi;generalize N[i]=p at hq Zg;have t1:decide ((i:Int)<(N.length:Int))=true:=V0 (by omega);have ws:=aU (k:=i) (by omega);have ri:=aJ hi;have rq:=vO hq
  have hll:L.length<=1000:=by
   have:=congrArg List.length hL.1;rw [WH,WW] at this;omega
  refine Nr hT Zz hk (S:=(SM.at (nb N.length (rc L.length) (i:Int)) 6 (Kv (strs N) (cI L)))) (p:=p) (o:=oG p) ?_ (by kernel_rfl) (fun k a l c=>?_) fun H' M2 w2 k a l c zs ZM hs hd hz Ze=>?_
  ·rw [Ue (strs N) (cI L) [] [] N.length L.length (i:Int) 0 p 0 none 0 0 []];simp only [ah,t1,ri,rq,ws,bL,az,gR,eQ,gW,fH,WM,VV,VX,VW]
  ·rw [TV (strs N) (cI L) [] [] N.length L.length (i:Int) 0 p k a l c []];simp only [ah,t1,ri,rq,ws,bL,az,gR,eQ,gW,fH,WM,VV,VX,VW]
  ·show af bn M2 w2 cs0 _ _ ν (sB (strs N) (cI L) N.length L.length (i:Int) p k a l c);have hg:=(hL.mono hs).snoc (x:=⟨p,k,a,l,c⟩) hd hz Ze;rw [<- Zg] at hg;have nx:=ph hT hM Zz hν fewN j (i+1) (by omega) H' M2 w2 (L++[⟨p,k,a,l,c⟩]) ZM hg (by simp);rw [V7,show ([(⟨p,k,a,l,c⟩:ax)]).length=1 from rfl,gW,fH] at nx;refine af.reach fQ (k:=2) (n:=100) (o:=[(0,.app (cI L) (iC ⟨p,k,a,l,c⟩))]++ff (List.range 40) true) (ren:=[(0,0),(1,1),(2,4)]) (eqs:=[1,2]) (S:=(sB (strs N) (cI L) N.length L.length (i:Int) p k a l c)) ?_ (by kernel_rfl) (fun i b h=>by rw [hν i b h];rfl) nx;rw [RJ (qq:=[])];simp only [ah,t1,ri,rq,ws,bL,az,gR,eQ,gW,fH,WM,VV,VX,VW];try (repeat' apply And.intro)
   all_goals first | rfl | omega | exact We (by rw [eQ];exact Wx _) | skip
theorem OE (hT:jY W b z E) (hM:∀ z,¬ M z) (Zz:ν 0=some (b,0)) (hν:∀ i b,ν i=some b->i=0) (fewN:N.length<=1000):∀ (j i:Nat),i+j=N.length->∀ H M1 w1 L,Kept W.hp M W H M1 w1->lg (lr W.heap.size H) z (N.take i) L->L=[]->af bn M1 w1 cs0 22 (OO W z N) ν (SM.at (nb N.length bZ (i:Int)) 6 (Kr (strs N)))
 | 0,i,hj,H,M1,w1,L,hk,hL,YI=>by
  rw [We (by omega)] at hL;have hN:N=[]:=by rw [<- hL.1,YI];rfl
  refine af.ao fQ (n:=60) (o:=ff [0] false) (v:=.slice none 0 0) ?_ fun ν' M3 w3 s' w' _ Zv hr=>⟨aB hM (hk.base.trans Zv) hr,_,[],rfl,.inl ⟨hN,rfl,rfl⟩⟩;rw [Vt (m:=[]) (m':=[]) (w:=[]) (r:=0) (i':=0) (p:=⟨#[]⟩) (k:=0) (a:=none) (l:=0) (c:=0) (qq:=[])];simp only [ah,V2 (show ¬ (i:Int)<(N.length:Int) by omega),VV,VX,VW]
 | j+1,i,hj,H,M1,w1,L,hk,hL,YI=>by
  have hi:i<N.length:=by omega
  have hq:N[i]?=some N[i]:=V4 hi;have Zg:N.take (i+1)=N.take i++[N[i]]:=Wp hi;generalize N[i]=p at hq Zg;have t1:decide ((i:Int)<(N.length:Int))=true:=V0 (by omega);have ws:=aU (k:=i) (by omega);have ri:=aJ hi;have rq:=vO hq
  have hll:L.length<=1000:=by
   have:=congrArg List.length hL.1;rw [WH,WW] at this;omega
  refine Nr hT Zz hk (S:=(SM.at (nb N.length bZ (i:Int)) 6 (Kr (strs N)))) (p:=p) (o:=oG p) ?_ (by kernel_rfl) (fun k a l c=>?_) fun H' M2 w2 k a l c zs ZM hs hd hz Ze=>?_
  ·rw [RH (strs N) [] [] [] N.length 0 (i:Int) 0 p 0 none 0 0 []];simp only [ah,t1,ri,rq,ws,bL,az,gR,eQ,gW,fH,WM,VV,VX,VW]
  ·rw [R1 (strs N) [] [] [] N.length 0 (i:Int) 0 p k a l c []];simp only [ah,t1,ri,rq,ws,bL,az,gR,eQ,gW,fH,WM,VV,VX,VW]
  ·show af bn M2 w2 cs0 _ _ ν (sA (strs N) N.length (i:Int) p k a l c);have hg:=(hL.mono hs).snoc (x:=⟨p,k,a,l,c⟩) hd hz Ze;rw [<- Zg] at hg;have nx:=ph (cs0:=cs0) hT hM Zz hν fewN j (i+1) (by omega) H' M2 w2 (L++[⟨p,k,a,l,c⟩]) ZM hg (by simp);rw [V7,show ([(⟨p,k,a,l,c⟩:ax)]).length=1 from rfl,gW,fH] at nx;have hL0:L=[]:=YI;subst hL0;refine af.reach fQ (k:=2) (n:=100) (o:=[(0,.b false)]++ff (List.range 40) true) (ren:=[(0,0),(1,1),(2,3)]) (eqs:=[1,2]) (S:=(sA (strs N) N.length (i:Int) p k a l c)) ?_ (by kernel_rfl) (fun i b h=>by rw [hν i b h];rfl) nx;rw [show cI ([]:List ax)++iC ⟨p,k,a,l,c⟩=iC ⟨p,k,a,l,c⟩ from rfl,show ([]:List ax).length+1=1 from rfl,UX (m:=[]) (w:=[]) (r:=0) (qq:=[])];simp only [ah,t1,ri,rq,ws,bL,az,gR,eQ,gW,fH,WM,VV,VX,VW];try (repeat' apply And.intro)
   all_goals first | rfl | omega | exact We (by rw [eQ];exact Wx _) | skip
end
theorem zb {w:World} {b:Nat} {z:ByteArray->Int × List Int} {E:List cp} (hm:MX w) (hT:jY w b z E):Calls Tryz.prog 22 #[fy b] w (OO w z (bA (E.map fun e=>e.1.p))):=by
 obtain ⟨v0,hb⟩:=hT.tree.cells
 have ho:∀ (j:Nat) (o':SO) (b' c':Nat),[SO.look []][j]?=some o'->[(b,0)][j]?=some (b',c')->∃ r,w.heap[b']?=some r/\OR (aA [(b,0)]) j o' r:=by
  intro j o' b' c' q1 q2;match j with
  | 0=>
   simp only [Wa,Option.some.injEq] at q1 q2;subst q1;cases q2;exact ⟨_,hb,[],_,_,_,rfl,au.nil,fun k y h=>by simp at h⟩
  | j+1=>simp at q1
 refine aZ (E:=bn) rfl (d:=6) (l:=[(b,0)]) (os:=[.look []]) rfl (by simp) (by simp) ho rfl (args:=[.ptr 0 0]) (a:=[fy b]) (S0:=u6) (by kernel_rfl) (au.cons (VR.aF.2 ⟨(b,0),rfl,rfl⟩) au.nil) fun cs0=>?_;have hM:∀ z,¬ (aD [(b,0)] ([SO.look []].map fun o=>(o,false))) z:=fun z=>aY (os:=[SO.look []])
 have Z6:=Kept.start (H0:=w.hp) (M:=aD [(b,0)] ([SO.look []].map fun o=>(o,false))) (w:=w) (Hp.Sub.refl _) (fun z o _=>hM z) (dN (by
  intro j o' m b' c' q1 q2;rw [Wv] at q1;obtain ⟨o2,q3,q4⟩:=Wg.1 q1;cases q4;exact ho j o' b' c' q3 q2)) (fun _ h=>h)
 have hν:∀ i b',aA [(b,0)] i=some b'->i=0:=fun i b' h=>dj h
 have hd:∀ {w1:World} {ν':aP} {aa:List Value},(aA [(b,0)]).Le ν'->w.hp.Sub w1.hp->au ν' [.ptr 0 0] aa->Calls Tryz.prog 63 aa.toArray w1 (EF w1 (bA (E.map fun e=>e.1.p))):=by
  intro w1 ν' aa hle hs ha;obtain ⟨y1,ZY,rfl,q1,YV⟩:=ha.cons_inv;obtain rfl:=YV.ay;obtain ⟨bb,Zd,rfl⟩:=VR.aF.1 q1;have Zd:=Zd.symm.trans (hle 0 (b,0) rfl);cases Zd;exact al.Ds (hm.sub hs) (hT.tree.keep hs) hT.Y2
 have fewN:(bA (E.map fun e=>e.1.p)).length<=1000:=by rw [(bz _).length_eq,WH];exact hT.Y2
 generalize bA (E.map fun e=>e.1.p)=N at hd fewN ⊢;by_cases hL:N=[]
 ·refine af.gD fQ Z6 (n:=100) (g:=63) (o:=oT) (args:=[.ptr 0 0]) (by rw [QL ()];trivial) (by kernel_rfl) fun ν' w1 aa hle YJ hgr ha=>?_;refine (hd hle YJ ha).mono fun e w' ⟨hB,v,he,hv⟩=>?_
  obtain rfl:v=.slice none 0 0:=by
   rcases hv with ⟨_,h⟩ | ⟨h0,_⟩
   ·exact h
   ·exact absurd hL h0
  refine ⟨hB,_,he,fun M2 ZE=>⟨by rw [T9 ()];trivial,?_⟩⟩;refine af.ao fQ (n:=100) (o:=ff (List.range 10) false) (v:=.slice none 0 0) ?_ fun ν'' M5 w5 s5 w6 _ hB5 hr5=>⟨aB hM (ZE.base.trans hB5) hr5,_,[],rfl,.inl ⟨hL,rfl,rfl⟩⟩;show ah (ao bn 22 100 QY (ff (List.range 10) false) (.slice none 0 0));rw [Uz];simp only [ah,VV,VX,VW]
 ·refine af.CY fQ Z6 (n:=100) (g:=63) (o:=oT) (args:=[.ptr 0 0]) (by rw [QL ()];trivial) (by kernel_rfl) fun ν' w1 aa hle YJ hgr ha=>?_;refine (hd hle YJ ha).mono fun e w' ⟨hB,v,he,hv⟩=>?_;rcases hv with ⟨h0,_⟩ | ⟨_,hs⟩
  ·exact absurd h0 hL
  obtain ⟨g,cc,rest,hy,ε,hnc,hh,Zb⟩:=hs;refine ⟨hB,v,cx N.length,PG N,g,cc,_,he,ε,hh,fun ν2 j hj=>⟨⟨N.map Value.string,rest,rfl,?_,by rw [iK,V7,WH];omega,(g,cc),hj,Zb⟩,VR.aL.2 ⟨(g,cc),hj,hnc,hy⟩⟩,by rw [Q7];trivial,fun M2 ZE=>?_⟩
  ·have:strs N=(N.map Value.string).map SV.v:=by unfold strs;simp
   rw [this];exact au.lits _ _
  show af bn M2 w' cs0 _ _ (aA [(b,0)]) (QC N N.length);have nx:=OE (cs0:=cs0) hT hM rfl hν fewN N.length 0 (by omega) _ M2 w' [] ZE ⟨rfl,fun x hx=>(nomatch hx)⟩ rfl;refine af.reach fQ (k:=2) (n:=100) (o:=VP) (ren:=[(0,0),(1,1)]) (eqs:=[1]) (F:=nb N.length bZ 0) (d:=6) (l:=Kr (strs N)) ?_ (by kernel_rfl) (fun i b h=>by rw [hν i b h];rfl) nx;rw [Sp];simp only [ah,bL,bZ,VV,VX,VW]
end itm
end paths
end Go.Proofs.YtbjmmnegkpeboaaGreatDoor
namespace Go.Rx
open Go.RowKit (Below)
theorem af.env {E E':Env} {ν:aP} {M:Own} {w0:World} {cs0:List Frame} {f:FuncId} {R:Ending->World->Prop} {S:SM} (hP:E'.P=E.P) (hG:E'.G=E.G) (hd:o9 S=true) (YX:S.callers=[]) (h:af E' M w0 cs0 f R ν S):af E M w0 cs0 f R ν S:=by
 intro ν' mm M1 w1 hle hB hmr;obtain ⟨fr,cs,w,hl,hm,hr,hg,⟨h1,h2,h3⟩,hc⟩:=hmr;have:=h ν' mm M1 w1 hle hB ⟨fr,cs,w,hl,hm,hr,fun g i e=>hg g i (by rw [<- hG];exact e),⟨h1,fun hf=>⟨(h2 hf).1,?_⟩,h3⟩,?_⟩
 ·rw [<- hP];exact this
 ·have:=(h2 hf).2;revert this hd;show o9 S=true->_->DC E' ν' M1 w1 S.mem hl S.top.tm S.top.todo fr.tmps fr.todo;unfold o9;generalize S.top.todo=xs;generalize fr.todo=ys;intro hd this;cases this with
  | plain ht hk=>exact .plain ht hk
  | drw ZF hn d st hk=>cases hd
 ·rw [YX] at hc ⊢;generalize S.top.kind=k at hc ⊢;cases hc with
  | nil hnd=>exact .nil hnd
end Go.Rx
namespace Go.Proofs.YtbjmmnegkpeboaaGreatDoor
open Go Go.Rx Go.RowKit Go.Proofs
namespace paths
namespace tt
def Qz (D:List ax) (zf:Option Addr->Nat->List Int):List (FuncId × Sum):=[(15,cq words.iZ),(24,cq words.pK),(65,kR),(26,de (crc.KV D zf))]
def H6 (D:List ax) (zf:Option Addr->Nat->List Int):Env:={ EP [] [] with Y7:=fun f=>(Qz D zf).lookup f }
def vb:SM:=(a6 bn 10 [.ptr 0 0] (bG 6 1 0 [cv []])).getD dn
def Pt (n:Nat):Nat->SV:=fun i=>.sl i 0 n none
def Qo (l:List ax):SO:=.row (cI l) 48 (0,0) (some 3)
def OQ (l:List ax) (k:Nat):SM:=ti bn 22 100 vb oT (Pt k) (Qo l)
def QR:SM:=dA bn 22 100 vb oT (.v (.slice none 0 0))
def Lt:List SI:=dB (H6 [] fun _ _=>[]) 2 100 (OQ [] 0) VP
def y9 (n:Nat) (s:ByteArray) (i:Int):SF:={ fn:=10,tm:=fh 41 6 ([.aH,.aH,.aH,.v (.string s),.aH,.aH,.aH,.sl 1 0 n none,.v (.int .i64 n),.v (.int .i64 i)]++List.replicate 31 .aH),todo:=Lt,defers:=[],ret:=false,kind:=.normal,ro:=none }
def H5 (m:List SV):List (Option (SO × Bool)):=[cv [],some (.row m 48 (0,0) (some 3),true)]
theorem QK (u:Unit):dS bn 22 100 vb oT=[]:=by kernel_rfl
theorem To (n:Nat) (l:List ax):Bs bn 22 100 vb oT (Pt n) (Qo l)=[]:=by kernel_rfl
theorem Sy (D:List ax) (zf:Option Addr->Nat->List Int) (n:Nat) (l:List ax):reach (H6 D zf) 2 100 (OQ l n) VP [(0,0),(1,1)] [1] (y9 n ⟨#[]⟩ 0) 6 (H5 (cI l))=[VS ⟨⟨[]⟩⟩=VS ⟨⟨[]⟩⟩,0=0/\n=n/\nZ=none,vZ (↑n:Int)=vZ (↑n:Int),vZ 0=vZ 0,cI l=cI l,(cI l).all ab=true]:=by kernel_rfl
theorem RY (u:Unit):dT bn 22 100 vb oT (.v (.slice none 0 0))=[]:=by kernel_rfl
theorem Vi (v:Value):ao bn 10 100 QR (ff (List.range 10) false) v=[VS ⟨⟨[]⟩⟩=v,false=false]:=by kernel_rfl
theorem tz (D:List ax) (zf:Option Addr->Nat->List Int) (m:List SV) (n:Nat) (i i':Int) (s s':ByteArray) (x:ax) (v:Value):ao (H6 D zf) 10 60 (SM.at (y9 n s i) 6 (H5 m)) (ff [0] false) v=[VS s=v,decide (i<(↑n:Int))=false]:=by kernel_rfl
theorem tf (D:List ax) (zf:Option Addr->Nat->List Int) (m:List SV) (n:Nat) (i i':Int) (s s':ByteArray) (x:ax):reach (H6 D zf) 2 300 (SM.at (y9 n s i) 6 (H5 m)) ([(2,.cells (iC x))]++ff [0] true++ff [1,3,4,5,6,7,8,9,10,11,12,13,14,15,16,17,18,19,20] false++VP) [(0,0),(1,1)] [1] (y9 n s' i') 6 (H5 m)=[VS (s++(cL [(⟨⟨[102,105,108,101]⟩⟩:ByteArray),words.cx (words.pathL x.1.data.toList),{ data:={ toList:=Lib.itoa (↑x.4:Int):Array UInt8 }:ByteArray },crc.wT (crc.eB (zf x.3 x.4))] (⟨⟨[32]⟩⟩:ByteArray)++(⟨⟨[10]⟩⟩:ByteArray)))=VS s',0=0/\n=n/\nZ=none,vZ (↑n:Int)=vZ (↑n:Int),vZ (IntKind.i64.wrap (i+1))=vZ i',m=m,m.all ab=true,(s.size+(cL [(⟨⟨[102,105,108,101]⟩⟩:ByteArray),words.cx (words.pathL x.1.data.toList),{ data:={ toList:=Lib.itoa (↑x.4:Int):Array UInt8 }:ByteArray },crc.wT (crc.eB (zf x.3 x.4))] (⟨⟨[32]⟩⟩:ByteArray)++(⟨⟨[10]⟩⟩:ByteArray)).size).le 9223372036854775807,((cL [(⟨⟨[102,105,108,101]⟩⟩:ByteArray),words.cx (words.pathL x.1.data.toList),{ data:={ toList:=Lib.itoa (↑x.4:Int):Array UInt8 }:ByteArray },crc.wT (crc.eB (zf x.3 x.4))] (⟨⟨[32]⟩⟩:ByteArray)).size+1).le 9223372036854775807,(cL [(⟨⟨[102,105,108,101]⟩⟩:ByteArray),words.cx (words.pathL x.1.data.toList),{ data:={ toList:=Lib.itoa (↑x.4:Int):Array UInt8 }:ByteArray },crc.wT (crc.eB (zf x.3 x.4))] (⟨⟨[32]⟩⟩:ByteArray)).size.le 140737488355328,∃ Z7,Z7∈D/\Z7.a=x.a/\Z7.l=x.l/\Z7.c=x.c,decide (x.3=x.3/\x.4=x.4/\x.5=x.5)=true,(-9223372036854775808:Int)<=(↑x.4:Int)/\(↑x.4:Int)<=9223372036854775807,decide (x.3=x.3/\x.4=x.4/\x.5=x.5)=true,decide (x.3=x.3/\x.4=x.4/\x.5=x.5)=true,(x.2==x.2)=true,decide (x.3=x.3/\x.4=x.4/\x.5=x.5)=true,x.1.size.le 1000000000,(x.2==2)=false,List.take 3 (List.drop (0+i.toNat*3) m)=iC x/\(iC x).length=3,ai i n=true,decide (i<(↑n:Int))=true]:=by kernel_rfl
theorem td (D:List ax) (zf:Option Addr->Nat->List Int) (m:List SV) (n:Nat) (i i':Int) (s s':ByteArray) (x:ax):reach (H6 D zf) 2 300 (SM.at (y9 n s i) 6 (H5 m)) ([(2,.cells (iC x))]++ff [0,3] true++ff [1,4,5,6,7,8,9,10,11,12,13] false++VP) [(0,0),(1,1)] [1] (y9 n s' i') 6 (H5 m)=[VS (s++(cL [(⟨⟨[100,105,114]⟩⟩:ByteArray),words.cx (words.pathL x.1.data.toList)] (⟨⟨[32]⟩⟩:ByteArray)++(⟨⟨[10]⟩⟩:ByteArray)))=VS s',0=0/\n=n/\nZ=none,vZ (↑n:Int)=vZ (↑n:Int),vZ (IntKind.i64.wrap (i+1))=vZ i',m=m,m.all ab=true,(s.size+(cL [(⟨⟨[100,105,114]⟩⟩:ByteArray),words.cx (words.pathL x.1.data.toList)] (⟨⟨[32]⟩⟩:ByteArray)++(⟨⟨[10]⟩⟩:ByteArray)).size).le 9223372036854775807,((cL [(⟨⟨[100,105,114]⟩⟩:ByteArray),words.cx (words.pathL x.1.data.toList)] (⟨⟨[32]⟩⟩:ByteArray)).size+1).le 9223372036854775807,(cL [(⟨⟨[100,105,114]⟩⟩:ByteArray),words.cx (words.pathL x.1.data.toList)] (⟨⟨[32]⟩⟩:ByteArray)).size.le 140737488355328,x.1.size.le 1000000000,(x.2==2)=true,List.take 3 (List.drop (0+i.toNat*3) m)=iC x/\(iC x).length=3,ai i n=true,decide (i<(↑n:Int))=true]:=by kernel_rfl
open Go Go.Rx Go.RowKit Go.Proofs
open words (pathL mkS_app mkS_size)
theorem xJ (ls:List (List UInt8)) (s:List UInt8):cL (ls.map words.cx) (words.cx s)=words.cx (Lib.join ls s):=by
 unfold cL words.cx;rw [WI]
 have:(ls.map ((fun x:ByteArray=>x.data.toList) ∘ fun l=>(⟨l.toArray⟩:ByteArray)))=ls:=by
  conv=>rhs;rw [<- List.map_id ls]
  exact XB fun x _=>rfl
 rw [this]
def hexL (n:Nat):List UInt8:=[words.fo (n / 2 ^ 28 % 16),words.fo (n / 2 ^ 24 % 16),words.fo (n / 2 ^ 20 % 16),words.fo (n / 2 ^ 16 % 16),words.fo (n / 2 ^ 12 % 16),words.fo (n / 2 ^ 8 % 16),words.fo (n / 2 ^ 4 % 16),words.fo (n / 2 ^ 0 % 16)]
def bodyD (p:ByteArray):List UInt8:=[100,105,114]++[32]++pathL p.data.toList
def bodyF (p:ByteArray) (l n:Nat):List UInt8:=[102,105,108,101]++[32]++pathL p.data.toList++[32]++Lib.itoa (l:Int)++[32]++hexL n
theorem jD (p:ByteArray):cL [{ data:={ toList:=[(100:UInt8),(105:UInt8),(114:UInt8)]:Array UInt8 }:ByteArray },words.cx (pathL p.data.toList)] { data:={ toList:=[(32:UInt8)]:Array UInt8 }:ByteArray }=words.cx (bodyD p):=by
 have:=xJ [[100,105,114],pathL p.data.toList] [32];refine Eq.trans ?_ (this.trans ?_)
 ·rfl
 ·unfold bodyD Lib.join;congr 1;simp [List.intercalate]
theorem jF (p:ByteArray) (l n:Nat):cL [{ data:={ toList:=[(102:UInt8),(105:UInt8),(108:UInt8),(101:UInt8)]:Array UInt8 }:ByteArray },words.cx (pathL p.data.toList),{ data:={ toList:=Lib.itoa (l:Int):Array UInt8 }:ByteArray },crc.wT n] { data:={ toList:=[(32:UInt8)]:Array UInt8 }:ByteArray }=words.cx (bodyF p l n):=by
 have:=xJ [[102,105,108,101],pathL p.data.toList,Lib.itoa (l:Int),hexL n] [32];refine Eq.trans ?_ (this.trans ?_)
 ·rfl
 ·unfold bodyF Lib.join;congr 1;simp [List.intercalate]
theorem nl (u:List UInt8):words.cx u++{ data:={ toList:=[(10:UInt8)]:Array UInt8 }:ByteArray }=words.cx (u++[10]):=mkS_app u [10]
def lineX (zf:Option Addr->Nat->List Int) (x:ax):List UInt8:=if x.k=2 then bodyD x.p++[10] else bodyF x.p x.l (crc.eB (zf x.a x.l))++[10]
theorem bodyD_len {p:ByteArray} (h:p.size<=1000000000):(bodyD p).length<=3000000010:=by
 unfold bodyD;have:=words.iq p.data.toList;have e:p.data.toList.length=p.size:=rfl;simp only [V7,Wm,WL];omega
theorem bodyF_len {p:ByteArray} (h:p.size<=1000000000) {l n:Nat} (hl:l<=140737488355328):(bodyF p l n).length<=3000000100:=by
 unfold bodyF;have:=words.iq p.data.toList;have e:p.data.toList.length=p.size:=rfl;have h2:=Lib.itoa_length_le (l:Int) (by omega) (by omega);have h3:(hexL n).length=8:=rfl;simp only [V7,Wm,WL];omega
theorem gV {w0 w:World} (h:words.fG w0) (hk:∀ k,k<w0.heap.size->w.heap[k]?=w0.heap[k]?):words.fG w:=by
 unfold words.fG Lib.TabIs World.var? at *;cases hg : Tryz.prog.globalNamed "internal/strconv.uint64pow10" with
 | none=>simp [hg] at h
 | some g=>
  simp only [hg,V9] at h ⊢
  have YR:g<w0.heap.size:=by
   rcases Nat.lt_or_ge g w0.heap.size with h' | h'
   ·exact h'
   ·rw [W8 h'] at h;simp at h
  rw [hk g YR];exact h
def XT (D:List ax) (zf:Option Addr->Nat->List Int) (w:World):Prop:=crc.XS D zf w/\words.fG w
theorem vC {H0 H:Hp} {Z3 M:Own} {w00 w0 w:World} {ν:aP} {s:SH} (hk:Kept H0 Z3 w00 H M w0) (hr:HR ν M w0 s w):H.Sub w.hp:=fun k o h=>by
 obtain ⟨h1,h2,h3⟩:=hk.still k o h
 exact (hr.frame k h1 h2).trans h3
theorem JY {P:Program} {X Y:World->Prop} {r:FuncId × Sum} (h:bh P X r) (hY:∀ w,Y w->X w):bh P Y r:=by
 refine ⟨h.1,fun args x s s' hx ob=>?_⟩;obtain ⟨h1,h2⟩:=h.2 args x s s' hx ob;exact ⟨h1,fun ν M w0 w a hr hXw ha=>h2 ν M w0 w a hr (hY w hXw) ha⟩
theorem Tc {H0 H:Hp} {Z3 M:Own} {w00 w0:World} {D:List ax} {zf:Option Addr->Nat->List Int} (hk:Kept H0 Z3 w00 H M w0) (hX:∀ w:World,H.Sub w.hp->XT D zf w):aK (H6 D zf) M w0:=
 aK.uS (Checked.mixed Tryz.checked) (by kernel_rfl) (fk.of iI rfl dK) (dz.list (X:=XT D zf) (l:=Qz D zf) rfl (fun r h=>by
  simp only [Qz,V8,Ww,Xc] at h
  rcases h with rfl | rfl | rfl | rfl
  ·exact bh.pure (r:=(15,words.iZ)) ⟨words.oP.1,fun args v p h hp w _=>words.oP.2 args v p h hp w trivial⟩
  ·exact bh.pure (r:=(24,words.pK)) ⟨words.wV.1,fun args v p h hp w hx=>words.wV.2 args v p h hp w hx.2⟩
  ·exact bh.join words.Cv
  ·exact JY crc.J1 fun w hx=>hx.1) fun ν s w hr _=>hX w (vC hk hr)) (fun f g h=>by cases h)
theorem text_take {α:Type} (f:α->List UInt8) {l:List α} {i:Nat} (h:i<l.length):(l.take (i+1)).flatMap f=(l.take i).flatMap f++f l[i]:=by
 rw [Wp h,List.flatMap_append];simp
section
variable {cs0:List Frame} {R:Ending->World->Prop} {ν:aP} {L:List ax} {zf:Option Addr->Nat->List Int} {M1:Own} {w1:World}
theorem FJ (K:aK (H6 L zf) M1 w1) (hν:∀ i b,ν i=some b->i=0) (Y2:L.length<=1000) (hs:∀ x∈L,x.p.size<=1000000000) (hl:∀ x∈L,x.l<=140737488355328)
  (hR:∀ ν' M2 w2 s' w',dh M1 w1 M2 w2->HR ν' M2 w2 s' w'->R (.returned (.string (words.cx (L.flatMap (lineX zf))))) w'):∀ (j i:Nat),i+j=L.length->((L.take i).flatMap (lineX zf)).length<=i*3000000200->
  af (H6 L zf) M1 w1 cs0 10 R ν (SM.at (y9 L.length (words.cx ((L.take i).flatMap (lineX zf))) (i:Int)) 6 (H5 (cI L)))
 | 0,i,hj,hb=>by
  refine af.ao K (n:=60) (o:=ff [0] false) (v:=.string (words.cx (L.flatMap (lineX zf)))) ?_ fun ν' M2 w2 s' w' _ hB hr=>hR ν' M2 w2 s' w' hB hr;rw [tz (i':=0) (s':=⟨#[]⟩) (x:=⟨⟨#[]⟩,0,none,0,0⟩),We (by omega)];simp only [ah,VV,VX,VW];exact V2 (by omega)
 | j+1,i,hj,hb=>by
  have hi:i<L.length:=by omega
  have hxm:=WT hi;have hx:L[i]?=some L[i]:=V4 hi;have Zg:=text_take (lineX zf) hi;generalize L[i]=x at hxm hx Zg;have Z9:=hs x hxm;have hxl:=hl x hxm;have t1:decide ((i:Int)<(L.length:Int))=true:=V0 (by omega);have r1:=aJ hi;have ws:=aU (k:=i) (by omega);have ra:=py hx;have nx:=FJ K hν Y2 hs hl hR j (i+1) (by omega);rw [Zg] at nx;generalize (L.take i).flatMap (lineX zf)=t at hb nx ⊢
  have ht:t.length<=3000000200000:=by
   have:i*3000000200<=1000*3000000200:=Xu _ (by omega);omega
  by_cases h2:x.k=2
  ·have e:lineX zf x=bodyD x.p++[10]:=by unfold lineX;rw [if_pos h2]
   have ZG:=bodyD_len Z9;have q2:(x.2==(2:Int))=true:=by rw [show x.2=2 from h2];rfl
   rw [e] at nx;refine af.reach K (k:=2) (n:=300) (o:=([(2,.cells (iC x))]++ff [0,3] true++ff [1,4,5,6,7,8,9,10,11,12,13] false++VP)) (ren:=[(0,0),(1,1)]) (eqs:=[1]) ?_ (by kernel_rfl) (fun i b h=>by rw [hν i b h];rfl) (nx (by simp only [V7,Wm,WL];omega));rw [td];simp only [ah,t1,r1,ra,ws,q2,jD,nl,mkS_app,mkS_size,cC,az,V5,VV,VX,VW];simp only [V7,Wm,WL];try (repeat' apply And.intro)
   all_goals first | rfl | exact V0 ⟨rfl,rfl,rfl⟩ | exact Z9 | (show (_:Nat)<=_;omega) | omega | skip
  ·have e:lineX zf x=bodyF x.p x.l (crc.eB (zf x.a x.l))++[10]:=by unfold lineX;rw [if_neg h2]
   have ZG:=bodyF_len (n:=crc.eB (zf x.a x.l)) Z9 hxl;have q2:(x.2==(2:Int))=false:=by simpa using h2
   rw [e] at nx;refine af.reach K (k:=2) (n:=300) (o:=([(2,.cells (iC x))]++ff [0] true++ff [1,3,4,5,6,7,8,9,10,11,12,13,14,15,16,17,18,19,20] false++VP)) (ren:=[(0,0),(1,1)]) (eqs:=[1]) ?_ (by kernel_rfl) (fun i b h=>by rw [hν i b h];rfl) (nx (by simp only [V7,Wm,WL];omega));rw [tf];simp only [ah,t1,r1,ra,ws,q2,jF,nl,mkS_app,mkS_size,cC,az,V5,VV,VX,VW];simp only [V7,Wm,WL];try (repeat' apply And.intro)
   all_goals first | rfl | exact V0 ⟨rfl,rfl,rfl⟩ | exact Z9 | exact WB _ | exact ⟨x,hxm,rfl,rfl,rfl⟩ | (show (_:Nat)<=_;omega) | omega | skip
end
def lineZ (z:ByteArray->Int × List Int) (p:ByteArray):List UInt8:=if (z p).1=2 then bodyD p++[10] else bodyF p (z p).2.length (crc.eB (z p).2)++[10]
theorem AY {w:World} {a:Option Addr} {l:Nat} {zs us:List Int} (h1:ui w a l zs) (h2:ui w a l us):zs=us:=by
 refine List.ext_getElem (h1.1.1.trans h2.1.1.symm) fun i hi hj=>?_;have hil:i<l:=by have:=h1.1.1;omega
 cases a with
 | none=>have:=h1.2 rfl;omega
 | some b=>
  have e1:=h1.1.2.2 b rfl i hil w fun _ _=>rfl;have e2:=h2.1.2.2 b rfl i hil w fun _ _=>rfl;rw [e1] at e2;injection e2 with e2;injection e2 with _ e2;rwa [Xn,Xn,V4 hi,V4 hj] at e2
theorem FY {n:Nat} {H:Hp} {w:World} {a:Option Addr} {l:Nat} {zs:List Int} (hH:∀ k,k<n->H k=none) (hs:H.Sub w.hp) (hd:ko H a l zs) (hl:0<l) (hn:n<=w.heap.size):∀ b,a=some b->n<=b.block:=by
 intro b hb;subst hb;by_cases h:n<=b.block
 ·exact h
 ·exfalso;have YR:b.block<w.heap.size:=by omega
  have hd2:=hd { w with heap:=w.heap.set b.block (.map #[] 0) YR } fun k o hk=>by
   have hkn:k≠b.block:=fun e=>by rw [e,hH _ (by omega)] at hk;cases hk
   show (w.heap.set b.block (.map #[] 0) YR)[k]?=some o;rw [Array.getElem?_set_ne _ (Ne.symm hkn)];exact hs k o hk
  have:=hd2.1.2.2 b rfl 0 hl _ fun _ _=>rfl;unfold World.cell? Addr.add at this;rw [if_pos rfl] at this;simp at this
def uH (L:List ax) (z:ByteArray->Int × List Int) (a:Option Addr) (l:Nat):List Int:=open Classical in if h:∃ x∈L,x.a=a/\x.l=l then (z (Classical.choose h).p).2 else []
theorem A5 {H:Hp} {z:ByteArray->Int × List Int} {N:List ByteArray} {L:List ax} (h:itm.lg H z N L) {x:ax} (hx:x∈L):ko H x.a x.l (uH L z x.a x.l):=by
 have he:∃ y∈L,y.a=x.a/\y.l=x.l:=⟨x,hx,rfl,rfl⟩;unfold uH;rw [YD he];obtain ⟨hy,ha,hl⟩:=XW he;generalize Classical.choose he=y at hy ha hl ⊢;obtain ⟨zs,hd,hz,_⟩:=h.2 _ hy;rw [<- hz,<- ha,<- hl];exact hd
theorem Kn {H:Hp} {z:ByteArray->Int × List Int} {N:List ByteArray} {L:List ax} (h:itm.lg H z N L) {w:World} (hs:H.Sub w.hp) {x:ax} (hx:x∈L):z x.p=(x.k,uH L z x.a x.l)/\x.l=(uH L z x.a x.l).length:=by
 obtain ⟨zs,hd,hz,_⟩:=h.2 x hx;have h1:=hd w hs;have h2:=A5 h hx w hs;rw [<- hz,AY h1 h2];exact ⟨rfl,h2.1.1.symm⟩
theorem flat_congr {α β:Type} {f g:α->List β}:∀ {l:List α},(∀ x∈l,f x=g x)->l.flatMap f=l.flatMap g
 | [],_=>rfl
 | x::l,h=>by rw [XK,XK,h x Wi,flat_congr fun y hy=>h y (Wb _ hy)]
theorem Js {H:Hp} {z:ByteArray->Int × List Int} {N:List ByteArray} {L:List ax} (h:itm.lg H z N L) {w:World} (hs:H.Sub w.hp):L.flatMap (lineX (uH L z))=N.flatMap (lineZ z):=by
 rw [<- h.1,Ye];refine flat_congr fun x hx=>?_;obtain ⟨h1,h2⟩:=Kn h hs hx;unfold lineX lineZ;rw [h1,<- h2]
theorem zG {W:World} {b:Nat} {z:ByteArray->Int × List Int} {E:List cp} (hm:MX W) (hP:words.fG W) (hN:crc.lN W) (hT:jY W b z E) (hz:∀ p,∀ y∈(z p).2,0<=y/\y<256):
  Calls Tryz.prog 10 #[fy b] W fun e w'=>Below W.heap.size W w'/\e=.returned (.string (words.cx ((bA (E.map fun e=>e.1.p)).flatMap (lineZ z)))):=by
 obtain ⟨v0,hb⟩:=hT.tree.cells
 have hsN:∀ s∈bA (E.map fun e=>e.1.p),s.size<=1000000000:=fun s hs=>by
  obtain ⟨e,he,rfl⟩:=Wc.1 ((bz _).mem_iff.1 hs);exact hT.tree.size e he
 have fewN:(bA (E.map fun e=>e.1.p)).length<=1000:=by rw [(bz _).length_eq,WH];exact hT.Y2
 have ho:∀ (j:Nat) (o':SO) (b' c':Nat),[SO.look []][j]?=some o'->[(b,0)][j]?=some (b',c')->∃ r,W.heap[b']?=some r/\OR (aA [(b,0)]) j o' r:=by
  intro j o' b' c' q1 q2;match j with
  | 0=>
   simp only [Wa,Option.some.injEq] at q1 q2;subst q1;cases q2;exact ⟨_,hb,[],_,_,_,rfl,au.nil,fun k y h=>by simp at h⟩
  | j+1=>simp at q1
 refine aZ (E:=bn) rfl (d:=6) (l:=[(b,0)]) (os:=[.look []]) rfl (by simp) (by simp) ho rfl (args:=[.ptr 0 0]) (a:=[fy b]) (S0:=vb) (by kernel_rfl) (au.cons (VR.aF.2 ⟨(b,0),rfl,rfl⟩) au.nil) fun cs0=>?_;have hM:∀ z,¬ (aD [(b,0)] ([SO.look []].map fun o=>(o,false))) z:=fun z=>aY (os:=[SO.look []])
 have Z6:=Kept.start (H0:=W.hp) (M:=aD [(b,0)] ([SO.look []].map fun o=>(o,false))) (w:=W) (Hp.Sub.refl _) (fun z o _=>hM z) (dN (by
  intro j o' m b' c' q1 q2;rw [Wv] at q1;obtain ⟨o2,q3,q4⟩:=Wg.1 q1;cases q4;exact ho j o' b' c' q3 q2)) (fun _ h=>h)
 have hν:∀ i b',aA [(b,0)] i=some b'->i=0:=fun i b' h=>dj h
 have hd:∀ {w1:World} {ν':aP} {aa:List Value},(aA [(b,0)]).Le ν'->W.hp.Sub w1.hp->au ν' [.ptr 0 0] aa->Calls Tryz.prog 22 aa.toArray w1 (itm.OO w1 z (bA (E.map fun e=>e.1.p))):=by
  intro w1 ν' aa hle hs ha;obtain ⟨y1,ZY,rfl,q1,YV⟩:=ha.cons_inv;obtain rfl:=YV.ay;obtain ⟨bb,Zd,rfl⟩:=VR.aF.1 q1;have Zd:=Zd.symm.trans (hle 0 (b,0) rfl);cases Zd;exact itm.zb (hm.sub hs) (hT.keep hs)
 by_cases hN0:bA (E.map fun e=>e.1.p)=[]
 ·refine af.gD fQ Z6 (n:=100) (g:=22) (o:=oT) (args:=[.ptr 0 0]) (by rw [QK ()];trivial) (by kernel_rfl) fun ν' w1 aa hle YJ hgr ha=>?_;refine (hd hle YJ ha).mono fun e w' ⟨hB,v,L,he,hv⟩=>?_
  obtain rfl:v=.slice none 0 0:=by
   rcases hv with ⟨_,_,h⟩ | ⟨h0,_,_,_,_,_,_,_,_,hg⟩
   ·exact h
   ·exact absurd (List.map_eq_nil_iff.1 (hg.1.trans hN0)) h0
  refine ⟨hB,_,he,fun M2 ZE=>⟨by rw [RY ()];trivial,?_⟩⟩;refine af.ao fQ (n:=100) (o:=ff (List.range 10) false) (v:=.string (words.cx ((bA (E.map fun e=>e.1.p)).flatMap (lineZ z)))) ?_ fun ν'' M5 w5 s5 w6 _ hB5 hr5=>⟨aB hM (ZE.base.trans hB5) hr5,rfl⟩;show ah (ao bn 10 100 QR (ff (List.range 10) false) _);rw [Vi,hN0];simp only [ah,VV,VX,VW];rfl
 ·refine af.CY fQ Z6 (n:=100) (g:=22) (o:=oT) (args:=[.ptr 0 0]) (by rw [QK ()];trivial) (by kernel_rfl) fun ν' w1 aa hle YJ hgr ha=>?_;refine (hd hle YJ ha).mono fun e w' ⟨hB,v,L,he,hv⟩=>?_;rcases hv with ⟨h0,_⟩ | ⟨YI,g,cc,rest,hy,ε,hnc,hh,Zb,hg⟩
  ·exact absurd h0 hN0
  have hLl:L.length<=1000:=by
   have:=congrArg List.length hg.1;rw [WH] at this;omega
  refine ⟨hB,v,Pt L.length,Qo L,g,cc,_,he,ε,hh,fun ν2 j hj=>⟨⟨vI L,rest,rfl,?_,by rw [eQ,V7];have:=congrArg List.length (cX L);rw [WH,eQ] at this;omega,(g,cc),hj,Zb⟩,VR.aL.2 ⟨(g,cc),hj,hnc,hy⟩⟩,by rw [To];trivial,fun M2 ZE=>?_⟩
  ·rw [<- cX];exact au.lits _ _
  have hgs:(EZ.dG w1 w' g).Sub ((W.hp).dG w1 w' g):=fun k o hk=>by
   unfold Hp.dG at hk ⊢;split at hk
   ·cases hk
   ·rename_i hne';rw [if_neg hne'];unfold Hp.grow EZ at hk;unfold Hp.grow;split at hk
    ·cases hk
    ·rename_i YR;rw [if_neg YR];exact hk
  have hsw:((W.hp).dG w1 w' g).Sub w'.hp:=fun k o hk=>(ZE.still k o hk).2.2;have hg':=hg.mono hgs;have hWs:∀ {w2:World},((W.hp).dG w1 w' g).Sub w2.hp->W.hp.Sub w2.hp:=fun h=>ZE.Zf.trans h
  have htl:(0:Nat)<W.heap.size:=by
   obtain ⟨_,_,_,_,h1,_⟩:=hN;exact (VY.1 h1).1
  have hX:∀ w2:World,((W.hp).dG w1 w' g).Sub w2.hp->XT L (uH L z) w2:=fun w2 h2=>by
   have hk:=iQ (Hp.Sub.refl _) (hWs h2);refine ⟨⟨⟨fun x hx=>A5 hg' hx w2 h2,fun x hx=>?_,fun x hx y hy=>?_⟩,hN.keep hk,fun x hx bb Zd hl=>?_⟩,gV hP hk⟩
   ·obtain ⟨_,_,_,hc⟩:=hg.2 x hx;exact hc
   ·have:=(Kn hg' hsw hx).1;exact hz x.p y (by rw [this];exact hy)
   ·have Z2:=FY (n:=w1.heap.size) (H:=EZ.dG w1 w' g) (w:=w') (fun k hk=>by
     unfold Hp.dG;split
     ·rfl
     ·unfold Hp.grow EZ;rw [if_pos hk]) (hgs.trans hsw) (A5 hg hx) hl hB.size bb Zd
    have:=oU (Hp.Sub.refl _) YJ;omega
  show af bn M2 w' cs0 _ _ (aA [(b,0)]) (OQ L L.length);refine af.env (E':=H6 L (uH L z)) rfl rfl (by kernel_rfl) (by kernel_rfl) ?_;have K:=Tc (D:=L) (zf:=uH L z) ZE hX;have hte:=Js hg' hsw;have nx:=FJ (cs0:=cs0) (L:=L) (zf:=uH L z) (R:=fun e w'=>Below W.heap.size W w'/\e=.returned (.string (words.cx ((bA (E.map fun e=>e.1.p)).flatMap (lineZ z))))) K hν hLl (fun x hx=>hsN x.p (by rw [<- hg.1];exact Wc.2 ⟨x,hx,rfl⟩)) (fun x hx=>(hX w' hsw).1.E3 x hx |>.1.2.1) (fun ν' M3 w3 s' w4 hB3 hr3=>⟨aB hM (ZE.base.trans hB3) hr3,by rw [hte]⟩) L.length 0 (by omega) (by simp);refine af.reach K (k:=2) (n:=100) (o:=VP) (ren:=[(0,0),(1,1)]) (eqs:=[1]) ?_ (by kernel_rfl) (fun i b h=>by rw [hν i b h];rfl) nx;show ah (reach (H6 L (uH L z)) 2 100 (OQ L L.length) VP [(0,0),(1,1)] [1] (y9 L.length ⟨#[]⟩ 0) 6 (H5 (cI L)));rw [Sy];simp only [ah,az,VV,VX,VW]
end tt
namespace tr
def PT (D:List ax) (zf:Option Addr->Nat->List Int):List (FuncId × Sum):=[(27,cq words.iZ),(30,cq words.j5),(29,cq words.yK),(69,de (crc.vc D zf))]
def uB (D:List ax) (zf:Option Addr->Nat->List Int):Env:={ EP [] [] with Y7:=fun f=>(PT D zf).lookup f }
def C3 (D:List ax) (zf:Option Addr->Nat->List Int) (l:List SV) (n c:Nat):SM:=(a6 (uB D zf) 11 [.sl 0 0 n (some c)] (bG 6 1 0 [cv l])).getD dn
def MG:List SI:=dB (uB [] fun _ _=>[]) 2 100 (C3 [] (fun _ _=>[]) [] 0 0) VP
def xB (n c:Nat) (s:ByteArray) (i:Int):SF:={ fn:=11,tm:=fh 74 7 ([.sl 0 0 n (some c),.aH,.aH,.v (.string s),.v (.int .i64 i)]++List.replicate 69 .aH),todo:=MG,defers:=[],ret:=false,kind:=.normal,ro:=none }
def Lq:List SI:=dB (uB [] fun _ _=>[]) 7 200 (SM.at (xB 0 0 ⟨#[]⟩ 0) 6 [cv []]) ([(2,.cells [.v (.int .i64 0)]),(5,.cells [.v (.slice none 0 0)])]++ff [0] true++ff [3] false)
def AD (n c:Nat) (s:ByteArray) (i N:Int) (d:ByteArray) (k:Int):SF:={ fn:=11,tm:=fh 74 7 ([.sl 0 0 n (some c),.aH,.aH,.v (.string s),.v (.int .i64 i),.v (.int .i64 N),.v (.string d),.v (.int .i64 k)]++List.replicate 66 .aH),todo:=Lq,defers:=[],ret:=false,kind:=.normal,ro:=none }
theorem T5 (D:List ax) (zf:Option Addr->Nat->List Int) (m:List SV) (n c:Nat):reach (uB D zf) 2 100 (C3 D zf m n c) VP [(0,0)] [0] (xB n c ⟨#[]⟩ 0) 6 [cv m]=[0=0/\n=n/\some c=some c,VS ⟨⟨[]⟩⟩=VS ⟨⟨[]⟩⟩,vZ 0=vZ 0,m=m,m.all ab=true]:=by kernel_rfl
theorem Tp (D:List ax) (zf:Option Addr->Nat->List Int) (m:List SV) (n c:Nat) (i i' N N' k k':Int) (s s' d d':ByteArray) (x:ax) (v:Value):ao (uB D zf) 11 60 (SM.at (xB n c s i) 6 [cv m]) (ff [0] false) v=[VS s=v,decide (i<(↑n:Int))=false]:=by kernel_rfl
theorem Tn (v:Value):ao (uB [] fun _ _=>[]) 11 60 (a7 (uB [] fun _ _=>[]) 11 [.v (.slice none 0 0)]) (ff [0] false++VP) v=[VS ⟨⟨[]⟩⟩=v,false=false]:=by kernel_rfl
theorem rd (D:List ax) (zf:Option Addr->Nat->List Int) (m:List SV) (n c:Nat) (i i' N N' k k':Int) (s s' d d':ByteArray) (x:ax):reach (uB D zf) 2 400 (SM.at (xB n c s i) 6 [cv m]) ([(2,.cells [.v (.int .i64 x.k)]),(6,.cells [.v (.string x.p)])]++ff [0,3] true++ff [1,4,5,7,8,9,10,11,12,13,14] false++VP) [(0,0)] [0] (xB n c s' i') 6 [cv m]=[0=0/\n=n/\some c=some c,VS (s++(⟨⟨[100,105,114,32]⟩⟩:ByteArray)++words.cx (words.pathL x.1.data.toList)++(⟨⟨[10]⟩⟩:ByteArray))=VS s',vZ (IntKind.i64.wrap (i+1))=vZ i',m=m,m.all ab=true,((s++(⟨⟨[100,105,114,32]⟩⟩:ByteArray)++words.cx (words.pathL x.1.data.toList)).size+1).le 9223372036854775807,((s++(⟨⟨[100,105,114,32]⟩⟩:ByteArray)).size+(words.cx (words.pathL x.1.data.toList)).size).le 9223372036854775807,x.1.size.le 1000000000,m[0+i.toNat*3+0]?=some (SV.v (VS x.1)),ai i n=true,(s.size+4).le 9223372036854775807,(x.2==2)=true,m[0+i.toNat*3+1+0]?=some (SV.v (vZ x.2)),ai i n=true,decide (i<(↑n:Int))=true]:=by kernel_rfl
theorem ri (D:List ax) (zf:Option Addr->Nat->List Int) (m:List SV) (n c:Nat) (i i' N N' k k':Int) (s s' d d':ByteArray) (x:ax):reach (uB D zf) 7 300 (SM.at (xB n c s i) 6 [cv m]) ([(2,.cells [.v (.int .i64 x.k)]),(5,.cells [.v (.slice x.a x.l x.c)])]++ff [0] true++ff [3] false++VP) [(0,0)] [0] (AD n c s i N ⟨#[]⟩ 0) 6 [cv m]=[0=0/\n=n/\some c=some c,VS s=VS s,vZ i=vZ i,vZ (IntKind.i64.wrap (↑(crc.eB (zf x.3 x.4)):Int))=vZ N,VS ⟨⟨[]⟩⟩=VS ⟨⟨[]⟩⟩,vZ 0=vZ 0,m=m,m.all ab=true,(0:Int)=0/\crc.O2 D x.3 x.4 x.5,m[0+i.toNat*3+1+1]?=some (SV.v (VT x.3 x.4 x.5)),ai i n=true,(x.2==2)=false,m[0+i.toNat*3+1+0]?=some (SV.v (vZ x.2)),ai i n=true,decide (i<(↑n:Int))=true]:=by kernel_rfl
theorem rr (D:List ax) (zf:Option Addr->Nat->List Int) (m:List SV) (n c:Nat) (i i' N N' k k':Int) (s s' d d':ByteArray) (x:ax):reach (uB D zf) 7 300 (SM.at (AD n c s i N d k) 6 [cv m]) (ff [0] true++VP) [(0,0)] [0] (AD n c s i N' d' k') 6 [cv m]=[0=0/\n=n/\some c=some c,VS s=VS s,vZ i=vZ i,vZ (IntKind.i64.wrap (N.tdiv 16))=vZ N',VS (words.gH.extract (N.tmod 16).toNat ((N.tmod 16).toNat+1)++d)=VS d',vZ (IntKind.i64.wrap (k+1))=vZ k',m=m,m.all ab=true,((words.gH.extract (N.tmod 16).toNat ((N.tmod 16).toNat+1)).size+d.size).le 9223372036854775807,0<=N.tmod 16/\N.tmod (16:Int)<16,decide (k<8)=true]:=by kernel_rfl
theorem re (D:List ax) (zf:Option Addr->Nat->List Int) (m:List SV) (n c:Nat) (i i' N N' k k':Int) (s s' d d':ByteArray) (x:ax):reach (uB D zf) 2 400 (SM.at (AD n c s i N d k) 6 [cv m]) ([(3,.cells [.v (.string x.p)]),(5,.cells [.v (.slice x.a x.l x.c)]),(8,.cells [.v (.slice x.a x.l x.c)])]++ff [0] false++VP) [(0,0)] [0] (xB n c s' i') 6 [cv m]=[0=0/\n=n/\some c=some c,VS (s++(⟨⟨[102,105,108,101,32]⟩⟩:ByteArray)++words.cx (words.pathL x.1.data.toList)++(⟨⟨[32]⟩⟩:ByteArray)++{ data:={ toList:=Lib.itoa (↑x.4:Int):Array UInt8 }:ByteArray }++(⟨⟨[32]⟩⟩:ByteArray)++d++(⟨⟨[10]⟩⟩:ByteArray))=VS s',vZ (IntKind.i64.wrap (i+1))=vZ i',m=m,m.all ab=true,((s++(⟨⟨[102,105,108,101,32]⟩⟩:ByteArray)++words.cx (words.pathL x.1.data.toList)++(⟨⟨[32]⟩⟩:ByteArray)++{ data:={ toList:=Lib.itoa (↑x.4:Int):Array UInt8 }:ByteArray }++(⟨⟨[32]⟩⟩:ByteArray)++d).size+1).le 9223372036854775807,((s++(⟨⟨[102,105,108,101,32]⟩⟩:ByteArray)++words.cx (words.pathL x.1.data.toList)++(⟨⟨[32]⟩⟩:ByteArray)++{ data:={ toList:=Lib.itoa (↑x.4:Int):Array UInt8 }:ByteArray }++(⟨⟨[32]⟩⟩:ByteArray)).size+d.size).le 9223372036854775807,((s++(⟨⟨[102,105,108,101,32]⟩⟩:ByteArray)++words.cx (words.pathL x.1.data.toList)++(⟨⟨[32]⟩⟩:ByteArray)++{ data:={ toList:=Lib.itoa (↑x.4:Int):Array UInt8 }:ByteArray }).size+1).le 9223372036854775807,((s++(⟨⟨[102,105,108,101,32]⟩⟩:ByteArray)++words.cx (words.pathL x.1.data.toList)++(⟨⟨[32]⟩⟩:ByteArray)).size+{ data:={ toList:=Lib.itoa (↑x.4:Int):Array UInt8 }:ByteArray }.size).le 9223372036854775807,(-9223372036854775808:Int)<=(↑x.4:Int)/\(↑x.4:Int)<=9223372036854775807,((s++(⟨⟨[102,105,108,101,32]⟩⟩:ByteArray)++words.cx (words.pathL x.1.data.toList)).size+1).le 9223372036854775807,((s++(⟨⟨[102,105,108,101,32]⟩⟩:ByteArray)).size+(words.cx (words.pathL x.1.data.toList)).size).le 9223372036854775807,decide (x.3=x.3/\x.4=x.4/\x.5=x.5)=true,m[0+i.toNat*3+1+1]?=some (SV.v (VT x.3 x.4 x.5)),((↑x.4:Int)==(↑x.4:Int))=true,x.1.size.le 1000000000,m[0+i.toNat*3+1+1]?=some (SV.v (VT x.3 x.4 x.5)),ai i n=true,m[0+i.toNat*3+0]?=some (SV.v (VS x.1)),ai i n=true,(s.size+5).le 9223372036854775807,decide (k<8)=false]:=by kernel_rfl
open words (pathL mkS_app mkS_size)
open tt (bodyD bodyF hexL lineX bodyD_len bodyF_len text_take)
theorem QN {M0 M:Own} {w00 w0:World} {D:List ax} {zf:Option Addr->Nat->List Int} (hM:∀ z,¬ M0 z) (hB:dh M0 w00 M w0) (hX:crc.XD D zf w00):aK (uB D zf) M w0:=
 aK.uS (Checked.mixed Tryz.checked) (by kernel_rfl) (fk.of iI rfl dK) (dz.list (X:=crc.XD D zf) (l:=PT D zf) rfl (fun r h=>by
  simp only [PT,V8,Ww,Xc] at h
  rcases h with rfl | rfl | rfl | rfl
  ·exact bh.pure (r:=(27,words.iZ)) ⟨words.wu.1,fun args v p h hp w _=>words.wu.2 args v p h hp w trivial⟩
  ·exact bh.pure (r:=(30,words.j5)) ⟨words.qb.1,fun args v p h hp w _=>words.qb.2 args v p h hp w trivial⟩
  ·exact bh.pure (r:=(29,words.yK)) ⟨words.AL.1,fun args v p h hp w _=>words.AL.2 args v p h hp w trivial⟩
  ·exact crc.HT) fun ν s w hr _=>hX.keep fun k hk=>(hr.frame k (Wz hk hB.size) (hB.frame k hk (hM k)).2).trans (hB.frame k hk (hM k)).1) (fun f g h=>by cases h)
theorem J0:(List.range 16).all (fun k=>decide (words.gH.extract k (k+1)=words.cx [words.fo k]))=true:=by kernel_rfl
theorem Jx {k:Nat} (h:k<16):words.gH.extract k (k+1)=words.cx [words.fo k]:=Ws (Wn.1 J0 k (Xd.2 h))
def qc (n:Nat):Nat->List UInt8
 | 0=>[]
 | k+1=>words.fo (n / 16 ^ k % 16)::qc n k
theorem tD (n:Nat):∀ k,(qc n k).length=k
 | 0=>rfl
 | k+1=>by unfold qc;rw [Wm,tD n k]
theorem LV (n:Nat):qc n 8=hexL n:=rfl
theorem UL {xs:List ax} {i:Nat} {x:ax} (h:xs[i]?=some x):(cI xs)[0+(i:Int).toNat*3+0]?=some (.v (.string x.p)):=by
 rw [V5];exact iP h
theorem FB {xs:List ax} {i j:Nat} {x:ax} (h:xs[i]?=some x) (hj:j<3):(cI xs)[0+i*3+j]?=(iC x)[j]?:=by
 have h1:=py h;rw [<- h1,WO,if_pos hj,W7]
theorem VB {xs:List ax} {i:Nat} {x:ax} (h:xs[i]?=some x):(cI xs)[0+(i:Int).toNat*3+1+0]?=some (.v (.int .i64 x.k)):=by
 rw [V5,Yc,FB h (by decide)];rfl
theorem UA {xs:List ax} {i:Nat} {x:ax} (h:xs[i]?=some x):(cI xs)[0+(i:Int).toNat*3+1+1]?=some (.v (.slice x.a x.l x.c)):=by
 rw [V5,show 0+i*3+1+1=0+i*3+2 from rfl,FB h (by decide)];rfl
theorem bF:({ data:={ toList:=[(102:UInt8),(105:UInt8),(108:UInt8),(101:UInt8),(32:UInt8)]:Array UInt8 }:ByteArray })=words.cx [102,105,108,101,32]:=rfl
theorem bD:({ data:={ toList:=[(100:UInt8),(105:UInt8),(114:UInt8),(32:UInt8)]:Array UInt8 }:ByteArray })=words.cx [100,105,114,32]:=rfl
theorem bS:({ data:={ toList:=[(32:UInt8)]:Array UInt8 }:ByteArray })=words.cx [32]:=rfl
theorem bN:({ data:={ toList:=[(10:UInt8)]:Array UInt8 }:ByteArray })=words.cx [10]:=rfl
theorem bI (z:Int):({ data:={ toList:=Lib.itoa z:Array UInt8 }:ByteArray })=words.cx (Lib.itoa z):=rfl
section
variable {cs0:List Frame} {R:Ending->World->Prop} {ν:aP} {L D:List ax} {zf:Option Addr->Nat->List Int} {M1:Own} {w1:World} {c:Nat}
theorem Lw (K:aK (uB D zf) M1 w1) (hν:∀ i b,ν i=some b->i=0) {i:Nat} {s:ByteArray} {n q:Nat} (hq:q<4294967296) {m:List SV} (YX:m.all ab=true)
  (nx:af (uB D zf) M1 w1 cs0 11 R ν (SM.at (AD n c s (i:Int) ((q / 16 ^ 8:Nat):Int) (words.cx (qc q 8)) ((8:Nat):Int)) 6 [cv m])):∀ (j k:Nat),k+j=8->
  af (uB D zf) M1 w1 cs0 11 R ν (SM.at (AD n c s (i:Int) ((q / 16 ^ k:Nat):Int) (words.cx (qc q k)) (k:Int)) 6 [cv m]):=by
 intro j;induction j with
 | zero=>
  intro k hk;have e:k=8:=by omega
  rw [e];exact nx
 | succ j IH=>
  intro k hk;have ih:=IH (k+1) (by omega);have ws:=aU (k:=k) (by omega);have t1:decide ((k:Int)<8)=true:=V0 (by omega);have hle:q / 16 ^ k<=q:=Nat.div_le_self _ _;have e0:q / 16 ^ (k+1)=q / 16 ^ k / 16:=by rw [Nat.pow_succ,Nat.div_div_eq_div_mul]
  rw [e0,show qc q (k+1)=words.fo (q / 16 ^ k % 16)::qc q k from rfl] at ih;have hkl:=tD q k;generalize qc q k=dl at ih hkl ⊢;generalize q / 16 ^ k=r at ih hle ⊢;have e1:(r:Int).tmod 16=((r % 16:Nat):Int):=rfl;have e2:(r:Int).tdiv 16=((r / 16:Nat):Int):=rfl;have e3:IntKind.i64.wrap ((r / 16:Nat):Int)=((r / 16:Nat):Int):=Xz _ (by omega);have e4:=Jx (k:=r % 16) (Yh _ (by decide));refine af.reach K (k:=7) (n:=300) (o:=ff [0] true++VP) (ren:=[(0,0)]) (eqs:=[0]) ?_ (by kernel_rfl) (fun i b h=>by rw [hν i b h];rfl) ih;rw [rr (i':=0) (s':=⟨#[]⟩) (x:=⟨⟨#[]⟩,0,none,0,0⟩)];simp only [ah,t1,ws,e1,e2,e3,e4,YX,V5,mkS_app,mkS_size,V7,Wm,WL,Xv,Xo,VV,VX,VW];try (repeat' apply And.intro)
  all_goals first | rfl | omega | (show (_:Nat)<=_;omega) | skip
theorem FK (K:aK (uB L zf) M1 w1) (hν:∀ i b,ν i=some b->i=0) (Y2:L.length<=1000) (hs:∀ x∈L,x.p.size<=1000000000) (hl:∀ x∈L,x.l<=140737488355328)
  (hR:∀ ν' M2 w2 s' w',dh M1 w1 M2 w2->HR ν' M2 w2 s' w'->R (.returned (.string (words.cx (L.flatMap (lineX zf))))) w'):∀ (j i:Nat),i+j=L.length->((L.take i).flatMap (lineX zf)).length<=i*3000000200->
  af (uB L zf) M1 w1 cs0 11 R ν (SM.at (xB L.length c (words.cx ((L.take i).flatMap (lineX zf))) (i:Int)) 6 [cv (cI L)])
 | 0,i,hj,hb=>by
  refine af.ao K (n:=60) (o:=ff [0] false) (v:=.string (words.cx (L.flatMap (lineX zf)))) ?_ fun ν' M2 w2 s' w' _ hB hr=>hR ν' M2 w2 s' w' hB hr;rw [Tp (i':=0) (s':=⟨#[]⟩) (N:=0) (N':=0) (k:=0) (k':=0) (d:=⟨#[]⟩) (d':=⟨#[]⟩) (x:=⟨⟨#[]⟩,0,none,0,0⟩),We (by omega)];simp only [ah,VV,VX,VW];exact V2 (by omega)
 | j+1,i,hj,hb=>by
  have hi:i<L.length:=by omega
  have hxm:=WT hi;have hx:L[i]?=some L[i]:=V4 hi;have Zg:=text_take (lineX zf) hi;generalize L[i]=x at hxm hx Zg;have Z9:=hs x hxm;have hxl:=hl x hxm;have t1:decide ((i:Int)<(L.length:Int))=true:=V0 (by omega);have r1:=aJ hi;have ws:=aU (k:=i) (by omega);have rp:=UL hx;have rk:=VB hx;have ra:=UA hx;have nx:=FK K hν Y2 hs hl hR j (i+1) (by omega);rw [Zg] at nx;generalize (L.take i).flatMap (lineX zf)=t at hb nx ⊢
  have ht:t.length<=3000000200000:=by
   have:i*3000000200<=1000*3000000200:=Xu _ (by omega);omega
  have hpl:=words.iq x.p.data.toList;have η:x.p.data.toList.length=x.p.size:=rfl;by_cases h2:x.k=2
  ·have e:lineX zf x=bodyD x.p++[10]:=by unfold lineX;rw [if_pos h2]
   have ZG:=bodyD_len Z9;have q2:(x.2==(2:Int))=true:=by rw [show x.2=2 from h2];rfl
   rw [e] at nx;have nx:=nx (by simp only [V7,Wm,WL];omega);have es:words.cx (t++(bodyD x.p++[10]))=words.cx (t++[100,105,114,32]++pathL x.p.data.toList++[10]):=by unfold bodyD;simp
   rw [es] at nx;refine af.reach K (k:=2) (n:=400) (o:=([(2,.cells [.v (.int .i64 x.k)]),(6,.cells [.v (.string x.p)])]++ff [0,3] true++ff [1,4,5,7,8,9,10,11,12,13,14] false++VP)) (ren:=[(0,0)]) (eqs:=[0]) ?_ (by kernel_rfl) (fun i b h=>by rw [hν i b h];rfl) nx;rw [rd (N:=0) (N':=0) (k:=0) (k':=0) (d:=⟨#[]⟩) (d':=⟨#[]⟩)];simp only [ah,t1,r1,rp,rk,ws,q2,bD,bN,mkS_app,mkS_size,az,VV,VX,VW];simp only [V7,Wm,WL];try (repeat' apply And.intro)
   all_goals first | rfl | exact Z9 | (show (_:Nat)<=_;omega) | omega | skip
  ·have e:lineX zf x=bodyF x.p x.l (crc.eB (zf x.a x.l))++[10]:=by unfold lineX;rw [if_neg h2]
   have ZG:=bodyF_len (n:=crc.eB (zf x.a x.l)) Z9 hxl;have q2:(x.2==(2:Int))=false:=by simpa using h2
   have hil:=Lib.itoa_length_le (x.l:Int) (by omega) (by omega);have hq:=crc.CR (zf x.a x.l);rw [e] at nx;have nx:=nx (by simp only [V7,Wm,WL];omega);have es:words.cx (t++(bodyF x.p x.l (crc.eB (zf x.a x.l))++[10]))=words.cx (t++[102,105,108,101,32]++pathL x.p.data.toList++[32]++Lib.itoa (x.l:Int)++[32]++qc (crc.eB (zf x.a x.l)) 8++[10]):=by rw [LV];unfold bodyF;simp
   rw [es] at nx;have ew:IntKind.i64.wrap ((crc.eB (zf x.a x.l):Nat):Int)=((crc.eB (zf x.a x.l):Nat):Int):=Xz _ (by omega);have hk8:=tD (crc.eB (zf x.a x.l)) 8
   have ex:af (uB L zf) M1 w1 cs0 11 R ν (SM.at (AD L.length c (words.cx t) (i:Int) ((crc.eB (zf x.a x.l) / 16 ^ 8:Nat):Int) (words.cx (qc (crc.eB (zf x.a x.l)) 8)) ((8:Nat):Int)) 6 [cv (cI L)]):=by
    refine af.reach K (k:=2) (n:=400) (o:=([(3,.cells [.v (.string x.p)]),(5,.cells [.v (.slice x.a x.l x.c)]),(8,.cells [.v (.slice x.a x.l x.c)])]++ff [0] false++VP)) (ren:=[(0,0)]) (eqs:=[0]) ?_ (by kernel_rfl) (fun i b h=>by rw [hν i b h];rfl) nx;rw [re (N':=0) (k':=0) (d':=⟨#[]⟩)];generalize qc (crc.eB (zf x.a x.l)) 8=dl at hk8 ⊢;simp only [ah,r1,rp,ra,ws,bF,bS,bN,bI,mkS_app,mkS_size,az,V2 (show ¬ ((8:Nat):Int)<8 by omega),VV,VX,VW];simp only [V7,Wm,WL];try (repeat' apply And.intro)
    all_goals first | rfl | exact Z9 | exact WB _ | exact V0 ⟨rfl,rfl,rfl⟩ | (show (_:Nat)<=_;omega) | omega | skip
   have mid:=Lw K hν hq (az L) ex 8 0 (by omega);rw [show crc.eB (zf x.a x.l) / 16 ^ 0=crc.eB (zf x.a x.l) by simp,show words.cx (qc (crc.eB (zf x.a x.l)) 0)=⟨#[]⟩ from rfl,show ((0:Nat):Int)=0 from rfl] at mid;refine af.reach K (k:=7) (n:=300) (o:=([(2,.cells [.v (.int .i64 x.k)]),(5,.cells [.v (.slice x.a x.l x.c)])]++ff [0] true++ff [3] false++VP)) (ren:=[(0,0)]) (eqs:=[0]) ?_ (by kernel_rfl) (fun i b h=>by rw [hν i b h];rfl) mid;rw [ri (i':=0) (N':=0) (k:=0) (k':=0) (s':=⟨#[]⟩) (d:=⟨#[]⟩) (d':=⟨#[]⟩)];simp only [ah,t1,r1,rk,ra,q2,ew,az,VV,VX,VW];try (repeat' apply And.intro)
   all_goals first | rfl | exact ⟨x,hxm,rfl,rfl,rfl⟩ | skip
end
end tr
namespace tr
open tt (lineX lineZ)
def Pn (W:World) (y:Value) (xs:List ax):Prop:=(xs=[]/\y=.slice none 0 0)\/(xs≠[]/\∃ w0:World,cG w0 W y (vI xs) xs.length 3 48)
theorem y6 {W:World} {y:Value} {xs D:List ax} {zf:Option Addr->Nat->List Int} (h:Pn W y xs) (hX0:crc.XD D zf W) (YJ:∀ e∈xs,e∈D) (Y2:xs.length<=1000) (hs:∀ x∈xs,x.p.size<=1000000000):
  Calls Tryz.prog 11 #[y] W fun e w'=>Below W.heap.size W w'/\e=.returned (.string (words.cx (xs.flatMap (lineX zf)))):=by
 have hX:crc.XD xs zf W:=⟨fun x hx=>hX0.E3 x (YJ x hx),fun x hx=>hX0.cap x (YJ x hx),fun x hx=>hX0.rng x (YJ x hx)⟩;rcases h with ⟨rfl,rfl⟩ | ⟨YI,w0,g,c,rest,rfl,_,ZT,hh,Zb⟩
 ·refine (bP (E:=uB [] fun _ _=>[]) rfl rfl (args:=[.v (.slice none 0 0)]) (a:=[.slice none 0 0]) (S0:=a7 (uB [] fun _ _=>[]) 11 [.v (.slice none 0 0)]) (by kernel_rfl) (au.cons (VR.ae.2 rfl) au.nil) fun cs0=>?_);refine af.ao (QN aE (dh.refl (fun b hb=>by obtain ⟨i,o,c,h1,h2⟩:=hb;simp at h1) fun _ h=>h) (D:=[]) (zf:=fun _ _=>[]) ⟨fun x hx=>(nomatch hx),fun x hx=>(nomatch hx),fun x hx=>(nomatch hx)⟩) (n:=60) (o:=ff [0] false++VP) (v:=.string (words.cx (([]:List ax).flatMap (lineX zf)))) ?_ fun ν' M1 w1 s' w' _ Zv hr=>⟨aB aE Zv hr,rfl⟩;rw [Tn];simp only [ah,VV,VX,VW];rfl
 ·have ho:∀ (j:Nat) (o':SO) (b' c':Nat),[SO.look (cI xs)][j]?=some o'->[(g,c)][j]?=some (b',c')->∃ r,W.heap[b']?=some r/\OR (aA [(g,c)]) j o' r:=by
   intro j o' b' c' q1 q2;match j with
   | 0=>
    simp only [Wa,Option.some.injEq] at q1 q2;subst q1;cases q2;refine ⟨_,hh,?_⟩;have:cI xs=aT iC 0 xs:=rfl;rw [this];refine eJ (h:=iV) (fun ν x=>au.lits ν (iV x)) (WX _) fun k v hk=>?_;rw [W9];have hk:(vI xs)[k]?=some v:=hk;show (vI xs++rest).toArray[k]?=some v;rw [X7,WC (WA.1 hk).1];exact hk
   | j+1=>simp at q1
  refine aZ (E:=uB xs zf) rfl (d:=6) (l:=[(g,c)]) (os:=[.look (cI xs)]) rfl (by simp) (by simp) ho rfl (args:=[.sl 0 0 xs.length (some c)]) (a:=[.slice (some ⟨g,0,none⟩) xs.length c]) (S0:=C3 xs zf (cI xs) xs.length c) (by kernel_rfl) (au.cons (VR.aL.2 ⟨(g,c),rfl,ZT,rfl⟩) au.nil) fun cs0=>?_;have hM:∀ z,¬ (aD [(g,c)] ([SO.look (cI xs)].map fun o=>(o,false))) z:=fun z=>aY (os:=[SO.look (cI xs)])
  have K:=QN (D:=xs) (zf:=zf) (M0:=aD [(g,c)] ([SO.look (cI xs)].map fun o=>(o,false))) (w00:=W) (M:=aD [(g,c)] ([SO.look (cI xs)].map fun o=>(o,false))) (w0:=W) hM (dh.refl (dN (by
   intro j o' m b' c' q1 q2;rw [Wv] at q1;obtain ⟨o2,q3,q4⟩:=Wg.1 q1;cases q4;exact ho j o' b' c' q3 q2)) fun _ h=>h) hX
  have hν:∀ i b',aA [(g,c)] i=some b'->i=0:=fun i b' h=>dj h;have nx:=FK (cs0:=cs0) (L:=xs) (zf:=zf) (c:=c) (R:=fun e w'=>Below W.heap.size W w'/\e=.returned (.string (words.cx (xs.flatMap (lineX zf))))) K hν Y2 hs (fun x hx=>(hX.E3 x hx).1.2.1) (fun ν' M3 w3 s' w4 hB3 hr3=>⟨aB hM hB3 hr3,rfl⟩) xs.length 0 (by omega) (by simp);refine af.reach K (k:=2) (n:=100) (o:=VP) (ren:=[(0,0)]) (eqs:=[0]) ?_ (by kernel_rfl) (fun i b h=>by rw [hν i b h];rfl) nx;show ah (reach (uB xs zf) 2 100 (C3 xs zf (cI xs) xs.length c) VP [(0,0)] [0] (xB xs.length c ⟨#[]⟩ 0) 6 [cv (cI xs)]);rw [T5];simp only [ah,az,VV,VX,VW]
end tr
def pF (ys:ax->List Int) (xs:List ax) (p:ByteArray):Int × List Int:=match xs.find? (pI p) with | some e=>(e.k,ys e) | none=>(0,[])
section
variable {cm ys:ax->List Int} {E:List cp} {cl:Nat} {xs:List ax}
theorem dM.look (h:dM cm ys E cl xs) (p:ByteArray):CQ cm E p=pF ys xs p:=by
 unfold CQ pF;cases hf:BN E p with
 | none=>
  have hm:∀ e∈E,e.1.p≠p:=fun e he h=>WY.1 hf e he (eY.2 h);cases hq:xs.find? (pI p) with
  | none=>rfl
  | some e=>
   obtain ⟨f,hfE,hk⟩:=h.to (WV hq);exact absurd ((lA hk).1.trans (eY.1 (Xr hq))) (hm f hfE)
 | some f=>
  have hfE:=WV hf;have hfp:f.1.p=p:=eY.1 (Xr (p:=fun e:cp=>pI p e.1) hf);cases hq:xs.find? (pI p) with
  | none=>
   obtain ⟨e,he,hk⟩:=h.of hfE;exact absurd (eY.2 ((lA hk.symm).1.symm.trans hfp)) (WY.1 hq e he)
  | some e=>
   obtain ⟨f',hf',hk⟩:=h.to (WV hq);have:f'=f:=B2 h.ok hf' hfE ((lA hk).1.trans ((eY.1 (Xr hq)).trans hfp.symm));subst this;exact Prod.ext (lA hk).2 (GF hk)
end
theorem dF.E3 {w:World} {e:ax} {zs:List Int} (h:dF w.hp e zs) (hl:zs.length<=140737488355328):ko w.hp e.a e.l zs:=fun w2 hs=>
 eh.E3 (w:=w2) (x:=⟨e.p,0,e.k,e.a,e.l,e.c⟩) (h.mono hs) hl
theorem II {W w w0:World} {b cl:Nat} {E:List cp} {xs D:List ax} {ys:Option Addr->Nat->List Int} (hX:uD D ys W) (inv:dM (k7 w.hp) (yI ys) E cl xs) (data:∀ e∈E,∃ zs,dF w.hp e.1 zs/\vw w0 e.1) (YJ:∀ e∈xs,e∈D)
  (ht:(xs=[]/\iG w b)\/∃ m,w0.heap.size<=m/\kK w b m E cl):jY w b (pF (yI ys) xs) E:=by
 have hT:iY w b E:=by
  rcases ht with ⟨h0,hZ⟩ | ⟨m,_,hA⟩
  ·subst h0;exact .inr ⟨inv.empty,hZ⟩
  ·refine .inl ⟨m,cl,?_,hA,inv.ok⟩;rintro rfl
   have:=hA.row;rw [hA.map] at this;cases this
 refine ⟨hT,fun w2 hs p=>?_,by rw [inv.len];have:=inv.Y2;omega⟩;rw [<- inv.look p];refine BR (hT.keep hs) (fun e he=>?_) p;obtain ⟨zs,hz,_⟩:=data e he;obtain ⟨x,hx,hk⟩:=inv.of he;have hc:=GF hk.symm;rw [hz.cont] at hc;rw [hz.cont];have hC:=(hX.2 x (YJ x hx));refine hz.E3 ?_;rw [hc];show (ys x.a x.l).length<=_;rw [hC.1];exact hC.2.1
open tt (lineX lineZ)
theorem dM.bA {cm ys:ax->List Int} {E:List cp} {cl:Nat} {xs:List ax} (h:dM cm ys E cl xs):bA (E.map fun e=>e.1.p)=xs.map fun e=>e.p:=by
 refine jM ?_ h.sT.symm;rw [Yk];exact List.Pairwise.imp (fun hab=>Ka hab) h.sorted
theorem IM {cm ys:ax->List Int} {E:List cp} {cl:Nat} {xs:List ax} (h:dM cm ys E cl xs) {x:ax} (hx:x∈xs):pF ys xs x.p=(x.k,ys x):=by
 unfold pF;cases hq:xs.find? (pI x.p) with
 | none=>exact absurd (eY.2 rfl) (WY.1 hq x hx)
 | some e=>
  have he:=WV hq;have hp:e.p=x.p:=eY.1 (Xr hq)
  have:e=x:=by
   obtain ⟨i,hi,rfl⟩:=Ys.1 he;obtain ⟨j,hj,rfl⟩:=Ys.1 hx;have hs:=List.pairwise_iff_getElem.1 h.sorted
   have:i=j:=by
    rcases Nat.lt_trichotomy i j with h1 | h1 | h1
    ·exact absurd (by have:=hs i j hi hj h1;rw [hp] at this;exact this) (Db _)
    ·exact h1
    ·exact absurd (by have:=hs j i hj hi h1;rw [hp] at this;exact this) (Db _)
   subst this;rfl
  subst this;rfl
theorem HU {cm:ax->List Int} {E:List cp} {cl:Nat} {xs:List ax} {ys:Option Addr->Nat->List Int} (h:dM cm (yI ys) E cl xs) (hl:∀ x∈xs,(ys x.a x.l).length=x.l):
  (bA (E.map fun e=>e.1.p)).flatMap (lineZ (pF (yI ys) xs))=xs.flatMap (lineX ys):=by
 rw [h.bA,Ye];refine tt.flat_congr fun x hx=>?_;unfold lineX lineZ;rw [IM h hx];show (if x.k=2 then _ else tt.bodyF x.p (ys x.a x.l).length (crc.eB (ys x.a x.l))++[10])=_;rw [hl x hx]
end paths
open Go Go.Rx Go.RowKit Go.Proofs
namespace paths
namespace tk
def CF:PS:=fun args=>match args with | [.int .u64 n,.int .i64 k]=>some (.string (words.bQ n.toNat),k=10/\0<=n/\n<18446744073709551616) | _=>none
def PE:List (FuncId × Sum):=[(15,cq words.iZ),(24,cq words.pK),(65,kR),(96,cq CF),(73,cq Fv)]
def oS:Env:={ EP [] [] with Y7:=fun f=>PE.lookup f }
def vL (s:Int) (es:VQ) (cl:Nat):SM:=(a6 oS 12 [.ptr 0 0] (bG 6 2 0 [Mn s,Be es cl])).getD dn
def tq (s:Int):SM:=(a6 oS 12 [.ptr 0 0] (bG 6 1 0 [some (.row [.v (.int .u64 s),.v (.map none)] 66 (0,0) none,false)])).getD dn
def oK:List (Nat × gM):=ff [0,3] false++VP
def Qf (s:Int) (es:VQ) (cl:Nat) (l:List ak) (k:Nat):SM:=ti oS 34 300 (vL s es cl) oK (PM k) (Qq l)
def QX (s:Int) (es:VQ) (cl:Nat):SM:=dA oS 34 300 (vL s es cl) oK (.v (.slice none 0 0))
def QT (s:Int):SM:=dA oS 34 300 (tq s) oK (.v (.slice none 0 0))
def Lf:List SI:=dB oS 2 100 (Qf 0 [] 0 [] 0) VP
def uL (n:Nat) (s:ByteArray) (i:Int):SF:={ fn:=12,tm:=fh 46 6 ([.aH,.aH,.aH,.v (.string s)]++List.replicate 11 .aH++[.sl 2 0 n none,.v (.int .i64 n),.v (.int .i64 i)]++List.replicate 28 .aH),todo:=Lf,defers:=[],ret:=false,kind:=.normal,ro:=none }
def HX (s:Int) (es:VQ) (cl:Nat) (m:List SV):List (Option (SO × Bool)):=[Mn s,Be es cl,fA m]
theorem QS (s:Int) (es:VQ) (cl:Nat):dS oS 34 300 (vL s es cl) oK=[((cL [(⟨⟨[98,111,111,107]⟩⟩:ByteArray),words.bQ s.toNat,{ data:={ toList:=Lib.itoa (↑es.length:Int):Array UInt8 }:ByteArray }] (⟨⟨[32]⟩⟩:ByteArray)).size+1).le 9223372036854775807,(cL [(⟨⟨[98,111,111,107]⟩⟩:ByteArray),words.bQ s.toNat,{ data:={ toList:=Lib.itoa (↑es.length:Int):Array UInt8 }:ByteArray }] (⟨⟨[32]⟩⟩:ByteArray)).size.le 140737488355328,(-9223372036854775808:Int)<=(↑es.length:Int)/\(↑es.length:Int)<=9223372036854775807,(10:Int)=10/\0<=s/\s<18446744073709551616,false=false]:=by kernel_rfl
theorem Q2 (s:Int) (es:VQ) (cl:Nat) (n:Nat) (l:List ak):Bs oS 34 300 (vL s es cl) oK (PM n) (Qq l)=[((cL [(⟨⟨[98,111,111,107]⟩⟩:ByteArray),words.bQ s.toNat,{ data:={ toList:=Lib.itoa (↑es.length:Int):Array UInt8 }:ByteArray }] (⟨⟨[32]⟩⟩:ByteArray)).size+1).le 9223372036854775807,(cL [(⟨⟨[98,111,111,107]⟩⟩:ByteArray),words.bQ s.toNat,{ data:={ toList:=Lib.itoa (↑es.length:Int):Array UInt8 }:ByteArray }] (⟨⟨[32]⟩⟩:ByteArray)).size.le 140737488355328,(-9223372036854775808:Int)<=(↑es.length:Int)/\(↑es.length:Int)<=9223372036854775807,(10:Int)=10/\0<=s/\s<18446744073709551616,false=false]:=by kernel_rfl
theorem Uj (s:Int) (es:VQ) (cl:Nat) (n:Nat) (l:List ak) (t:ByteArray):reach oS 2 100 (Qf s es cl l n) VP [(0,0),(1,1),(2,3)] [1,2] (uL n t 0) 6 (HX s es cl (cE l))=[VS (cL [(⟨⟨[98,111,111,107]⟩⟩:ByteArray),words.bQ s.toNat,{ data:={ toList:=Lib.itoa (↑es.length:Int):Array UInt8 }:ByteArray }] (⟨⟨[32]⟩⟩:ByteArray)++(⟨⟨[10]⟩⟩:ByteArray))=VS t,0=0/\n=n/\nZ=none,vZ (↑n:Int)=vZ (↑n:Int),vZ 0=vZ 0,V1 IntKind.u64 s=V1 IntKind.u64 s,cl=cl,es=es,(es.all fun e=>aw e.fst&&aw e.snd.fst)=true,cE l=cE l,(cE l).all ab=true]:=by kernel_rfl
theorem Sm (s:Int) (es:VQ) (cl:Nat):dT oS 34 300 (vL s es cl) oK (.v (.slice none 0 0))=[((cL [(⟨⟨[98,111,111,107]⟩⟩:ByteArray),words.bQ s.toNat,{ data:={ toList:=Lib.itoa (↑es.length:Int):Array UInt8 }:ByteArray }] (⟨⟨[32]⟩⟩:ByteArray)).size+1).le 9223372036854775807,(cL [(⟨⟨[98,111,111,107]⟩⟩:ByteArray),words.bQ s.toNat,{ data:={ toList:=Lib.itoa (↑es.length:Int):Array UInt8 }:ByteArray }] (⟨⟨[32]⟩⟩:ByteArray)).size.le 140737488355328,(-9223372036854775808:Int)<=(↑es.length:Int)/\(↑es.length:Int)<=9223372036854775807,(10:Int)=10/\0<=s/\s<18446744073709551616,false=false]:=by kernel_rfl
theorem Tl (s:Int) (es:VQ) (cl:Nat) (v:Value):ao oS 12 100 (QX s es cl) (ff (List.range 10) false) v=[VS (cL [(⟨⟨[98,111,111,107]⟩⟩:ByteArray),words.bQ s.toNat,{ data:={ toList:=Lib.itoa (↑es.length:Int):Array UInt8 }:ByteArray }] (⟨⟨[32]⟩⟩:ByteArray)++(⟨⟨[10]⟩⟩:ByteArray))=v,false=false]:=by kernel_rfl
theorem PW (s:Int):dS oS 34 300 (tq s) oK=[((cL [(⟨⟨[98,111,111,107]⟩⟩:ByteArray),words.bQ s.toNat,{ data:={ toList:=Lib.itoa 0:Array UInt8 }:ByteArray }] (⟨⟨[32]⟩⟩:ByteArray)).size+1).le 9223372036854775807,(cL [(⟨⟨[98,111,111,107]⟩⟩:ByteArray),words.bQ s.toNat,{ data:={ toList:=Lib.itoa 0:Array UInt8 }:ByteArray }] (⟨⟨[32]⟩⟩:ByteArray)).size.le 140737488355328,(-9223372036854775808:Int)<=0/\(0:Int)<=9223372036854775807,(10:Int)=10/\0<=s/\s<18446744073709551616,false=false]:=by kernel_rfl
theorem VE (s:Int):dT oS 34 300 (tq s) oK (.v (.slice none 0 0))=[((cL [(⟨⟨[98,111,111,107]⟩⟩:ByteArray),words.bQ s.toNat,{ data:={ toList:=Lib.itoa 0:Array UInt8 }:ByteArray }] (⟨⟨[32]⟩⟩:ByteArray)).size+1).le 9223372036854775807,(cL [(⟨⟨[98,111,111,107]⟩⟩:ByteArray),words.bQ s.toNat,{ data:={ toList:=Lib.itoa 0:Array UInt8 }:ByteArray }] (⟨⟨[32]⟩⟩:ByteArray)).size.le 140737488355328,(-9223372036854775808:Int)<=0/\(0:Int)<=9223372036854775807,(10:Int)=10/\0<=s/\s<18446744073709551616,false=false]:=by kernel_rfl
theorem UG (s:Int) (v:Value):ao oS 12 100 (QT s) (ff (List.range 10) false) v=[VS (cL [(⟨⟨[98,111,111,107]⟩⟩:ByteArray),words.bQ s.toNat,{ data:={ toList:=Lib.itoa 0:Array UInt8 }:ByteArray }] (⟨⟨[32]⟩⟩:ByteArray)++(⟨⟨[10]⟩⟩:ByteArray))=v,false=false]:=by kernel_rfl
theorem SJ (v:Value):ao oS 12 400 (a7 oS 12 [.v (.pointer none)]) VP v=[VS (cL [(⟨⟨[98,111,111,107]⟩⟩:ByteArray),words.bQ 0,{ data:={ toList:=Lib.itoa 0:Array UInt8 }:ByteArray }] (⟨⟨[32]⟩⟩:ByteArray)++(⟨⟨[10]⟩⟩:ByteArray))=v,Nat.le 9 9223372036854775807,Nat.le 8 140737488355328,(-9223372036854775808:Int)<=0/\(0:Int)<=9223372036854775807,(10:Int)=10/\(0:Int)<=0/\(0:Int)<18446744073709551616]:=by kernel_rfl
theorem Rm (s:Int) (es:VQ) (cl:Nat) (m:List SV) (n:Nat) (i i':Int) (t t':ByteArray) (x:ak) (v:Value):ao oS 12 60 (SM.at (uL n t i) 6 (HX s es cl m)) (ff [0] false) v=[VS t=v,decide (i<(↑n:Int))=false]:=by kernel_rfl
theorem Qm (s:Int) (es:VQ) (cl:Nat) (m:List SV) (n:Nat) (i i':Int) (t t':ByteArray) (x:ak):reach oS 2 500 (SM.at (uL n t i) 6 (HX s es cl m)) ([(2,.cells (eC x))]++ff [0,29] true++ff (List.range 60) false++VP) [(0,0),(1,1),(2,2)] [1,2] (uL n t' i') 6 (HX s es cl m)=[VS (t++(cL [(⟨⟨[101,110,116,114,121]⟩⟩:ByteArray),words.cx (words.pathL x.1.data.toList),words.bQ (x.2.fdiv (2 ^ 20)).toNat,words.bQ (IntKind.u64.wrap (↑(BitVec.ofInt 64 x.2 &&& BitVec.ofInt 64 1048575).toNat:Int)).toNat,(⟨⟨[110,111,110,101]⟩⟩:ByteArray),{ data:={ toList:=Lib.itoa (↑x.5:Int):Array UInt8 }:ByteArray }] (⟨⟨[32]⟩⟩:ByteArray)++(⟨⟨[10]⟩⟩:ByteArray)))=VS t',0=0/\n=n/\nZ=none,vZ (↑n:Int)=vZ (↑n:Int),vZ (IntKind.i64.wrap (i+1))=vZ i',V1 IntKind.u64 s=V1 IntKind.u64 s,cl=cl,es=es,(es.all fun e=>aw e.fst&&aw e.snd.fst)=true,m=m,m.all ab=true,(t.size+(cL [(⟨⟨[101,110,116,114,121]⟩⟩:ByteArray),words.cx (words.pathL x.1.data.toList),words.bQ (x.2.fdiv (2 ^ 20)).toNat,words.bQ (IntKind.u64.wrap (↑(BitVec.ofInt 64 x.2 &&& BitVec.ofInt 64 1048575).toNat:Int)).toNat,(⟨⟨[110,111,110,101]⟩⟩:ByteArray),{ data:={ toList:=Lib.itoa (↑x.5:Int):Array UInt8 }:ByteArray }] (⟨⟨[32]⟩⟩:ByteArray)++(⟨⟨[10]⟩⟩:ByteArray)).size).le 9223372036854775807,((cL [(⟨⟨[101,110,116,114,121]⟩⟩:ByteArray),words.cx (words.pathL x.1.data.toList),words.bQ (x.2.fdiv (2 ^ 20)).toNat,words.bQ (IntKind.u64.wrap (↑(BitVec.ofInt 64 x.2 &&& BitVec.ofInt 64 1048575).toNat:Int)).toNat,(⟨⟨[110,111,110,101]⟩⟩:ByteArray),{ data:={ toList:=Lib.itoa (↑x.5:Int):Array UInt8 }:ByteArray }] (⟨⟨[32]⟩⟩:ByteArray)).size+1).le 9223372036854775807,(cL [(⟨⟨[101,110,116,114,121]⟩⟩:ByteArray),words.cx (words.pathL x.1.data.toList),words.bQ (x.2.fdiv (2 ^ 20)).toNat,words.bQ (IntKind.u64.wrap (↑(BitVec.ofInt 64 x.2 &&& BitVec.ofInt 64 1048575).toNat:Int)).toNat,(⟨⟨[110,111,110,101]⟩⟩:ByteArray),{ data:={ toList:=Lib.itoa (↑x.5:Int):Array UInt8 }:ByteArray }] (⟨⟨[32]⟩⟩:ByteArray)).size.le 140737488355328,(-9223372036854775808:Int)<=(↑x.5:Int)/\(↑x.5:Int)<=9223372036854775807,decide (x.4=x.4/\x.5=x.5/\x.6=x.6)=true,(x.3==x.3)=true,(x.3==0)=true,(x.3==x.3)=true,decide (x.4=x.4/\x.5=x.5/\x.6=x.6)=true,(x.3==x.3)=true,(10:Int)=10/\0<=IntKind.u64.wrap (↑(BitVec.ofInt 64 x.2 &&& BitVec.ofInt 64 1048575).toNat:Int)/\IntKind.u64.wrap (↑(BitVec.ofInt 64 x.2 &&& BitVec.ofInt 64 1048575).toNat:Int)<18446744073709551616,(x.3==x.3)=true,decide (x.4=x.4/\x.5=x.5/\x.6=x.6)=true,(x.3==x.3)=true,(!gX x.2)=false,0<=x.2/\x.2<18446744073709551616,(x.2==x.2)=true,(x.3==x.3)=true,decide (x.4=x.4/\x.5=x.5/\x.6=x.6)=true,(x.3==x.3)=true,(10:Int)=10/\0<=x.2.fdiv (2 ^ 20)/\x.2.fdiv (2 ^ 20)<18446744073709551616,(x.2==x.2)=true,(x.3==x.3)=true,decide (x.4=x.4/\x.5=x.5/\x.6=x.6)=true,(x.3==x.3)=true,(!gX x.2)=false,0<=x.2/\x.2<18446744073709551616,(x.2==x.2)=true,(x.2==x.2)=true,(x.3==x.3)=true,decide (x.4=x.4/\x.5=x.5/\x.6=x.6)=true,(x.3==x.3)=true,x.1.size.le 1000000000,List.take 4 (List.drop (0+i.toNat*4) m)=eC x/\(eC x).length=4,ai i n=true,decide (i<(↑n:Int))=true]:=by kernel_rfl
theorem Pg (s:Int) (es:VQ) (cl:Nat) (m:List SV) (n:Nat) (i i':Int) (t t':ByteArray) (x:ak):reach oS 2 500 (SM.at (uL n t i) 6 (HX s es cl m)) ([(2,.cells (eC x))]++ff [0,30] true++ff (List.range 60) false++VP) [(0,0),(1,1),(2,2)] [1,2] (uL n t' i') 6 (HX s es cl m)=[VS (t++(cL [(⟨⟨[101,110,116,114,121]⟩⟩:ByteArray),words.cx (words.pathL x.1.data.toList),words.bQ (x.2.fdiv (2 ^ 20)).toNat,words.bQ (IntKind.u64.wrap (↑(BitVec.ofInt 64 x.2 &&& BitVec.ofInt 64 1048575).toNat:Int)).toNat,(⟨⟨[102,105,108,101]⟩⟩:ByteArray),{ data:={ toList:=Lib.itoa (↑x.5:Int):Array UInt8 }:ByteArray }] (⟨⟨[32]⟩⟩:ByteArray)++(⟨⟨[10]⟩⟩:ByteArray)))=VS t',0=0/\n=n/\nZ=none,vZ (↑n:Int)=vZ (↑n:Int),vZ (IntKind.i64.wrap (i+1))=vZ i',V1 IntKind.u64 s=V1 IntKind.u64 s,cl=cl,es=es,(es.all fun e=>aw e.fst&&aw e.snd.fst)=true,m=m,m.all ab=true,(t.size+(cL [(⟨⟨[101,110,116,114,121]⟩⟩:ByteArray),words.cx (words.pathL x.1.data.toList),words.bQ (x.2.fdiv (2 ^ 20)).toNat,words.bQ (IntKind.u64.wrap (↑(BitVec.ofInt 64 x.2 &&& BitVec.ofInt 64 1048575).toNat:Int)).toNat,(⟨⟨[102,105,108,101]⟩⟩:ByteArray),{ data:={ toList:=Lib.itoa (↑x.5:Int):Array UInt8 }:ByteArray }] (⟨⟨[32]⟩⟩:ByteArray)++(⟨⟨[10]⟩⟩:ByteArray)).size).le 9223372036854775807,((cL [(⟨⟨[101,110,116,114,121]⟩⟩:ByteArray),words.cx (words.pathL x.1.data.toList),words.bQ (x.2.fdiv (2 ^ 20)).toNat,words.bQ (IntKind.u64.wrap (↑(BitVec.ofInt 64 x.2 &&& BitVec.ofInt 64 1048575).toNat:Int)).toNat,(⟨⟨[102,105,108,101]⟩⟩:ByteArray),{ data:={ toList:=Lib.itoa (↑x.5:Int):Array UInt8 }:ByteArray }] (⟨⟨[32]⟩⟩:ByteArray)).size+1).le 9223372036854775807,(cL [(⟨⟨[101,110,116,114,121]⟩⟩:ByteArray),words.cx (words.pathL x.1.data.toList),words.bQ (x.2.fdiv (2 ^ 20)).toNat,words.bQ (IntKind.u64.wrap (↑(BitVec.ofInt 64 x.2 &&& BitVec.ofInt 64 1048575).toNat:Int)).toNat,(⟨⟨[102,105,108,101]⟩⟩:ByteArray),{ data:={ toList:=Lib.itoa (↑x.5:Int):Array UInt8 }:ByteArray }] (⟨⟨[32]⟩⟩:ByteArray)).size.le 140737488355328,(-9223372036854775808:Int)<=(↑x.5:Int)/\(↑x.5:Int)<=9223372036854775807,decide (x.4=x.4/\x.5=x.5/\x.6=x.6)=true,(x.3==x.3)=true,(x.3==1)=true,(x.3==0)=false,(x.3==x.3)=true,decide (x.4=x.4/\x.5=x.5/\x.6=x.6)=true,(x.3==x.3)=true,(10:Int)=10/\0<=IntKind.u64.wrap (↑(BitVec.ofInt 64 x.2 &&& BitVec.ofInt 64 1048575).toNat:Int)/\IntKind.u64.wrap (↑(BitVec.ofInt 64 x.2 &&& BitVec.ofInt 64 1048575).toNat:Int)<18446744073709551616,(x.3==x.3)=true,decide (x.4=x.4/\x.5=x.5/\x.6=x.6)=true,(x.3==x.3)=true,(!gX x.2)=false,0<=x.2/\x.2<18446744073709551616,(x.2==x.2)=true,(x.3==x.3)=true,decide (x.4=x.4/\x.5=x.5/\x.6=x.6)=true,(x.3==x.3)=true,(10:Int)=10/\0<=x.2.fdiv (2 ^ 20)/\x.2.fdiv (2 ^ 20)<18446744073709551616,(x.2==x.2)=true,(x.3==x.3)=true,decide (x.4=x.4/\x.5=x.5/\x.6=x.6)=true,(x.3==x.3)=true,(!gX x.2)=false,0<=x.2/\x.2<18446744073709551616,(x.2==x.2)=true,(x.2==x.2)=true,(x.3==x.3)=true,decide (x.4=x.4/\x.5=x.5/\x.6=x.6)=true,(x.3==x.3)=true,x.1.size.le 1000000000,List.take 4 (List.drop (0+i.toNat*4) m)=eC x/\(eC x).length=4,ai i n=true,decide (i<(↑n:Int))=true]:=by kernel_rfl
theorem Qw (s:Int) (es:VQ) (cl:Nat) (m:List SV) (n:Nat) (i i':Int) (t t':ByteArray) (x:ak):reach oS 2 500 (SM.at (uL n t i) 6 (HX s es cl m)) ([(2,.cells (eC x))]++ff [0,31] true++ff (List.range 60) false++VP) [(0,0),(1,1),(2,2)] [1,2] (uL n t' i') 6 (HX s es cl m)=[VS (t++(cL [(⟨⟨[101,110,116,114,121]⟩⟩:ByteArray),words.cx (words.pathL x.1.data.toList),words.bQ (x.2.fdiv (2 ^ 20)).toNat,words.bQ (IntKind.u64.wrap (↑(BitVec.ofInt 64 x.2 &&& BitVec.ofInt 64 1048575).toNat:Int)).toNat,(⟨⟨[100,105,114]⟩⟩:ByteArray),{ data:={ toList:=Lib.itoa (↑x.5:Int):Array UInt8 }:ByteArray }] (⟨⟨[32]⟩⟩:ByteArray)++(⟨⟨[10]⟩⟩:ByteArray)))=VS t',0=0/\n=n/\nZ=none,vZ (↑n:Int)=vZ (↑n:Int),vZ (IntKind.i64.wrap (i+1))=vZ i',V1 IntKind.u64 s=V1 IntKind.u64 s,cl=cl,es=es,(es.all fun e=>aw e.fst&&aw e.snd.fst)=true,m=m,m.all ab=true,(t.size+(cL [(⟨⟨[101,110,116,114,121]⟩⟩:ByteArray),words.cx (words.pathL x.1.data.toList),words.bQ (x.2.fdiv (2 ^ 20)).toNat,words.bQ (IntKind.u64.wrap (↑(BitVec.ofInt 64 x.2 &&& BitVec.ofInt 64 1048575).toNat:Int)).toNat,(⟨⟨[100,105,114]⟩⟩:ByteArray),{ data:={ toList:=Lib.itoa (↑x.5:Int):Array UInt8 }:ByteArray }] (⟨⟨[32]⟩⟩:ByteArray)++(⟨⟨[10]⟩⟩:ByteArray)).size).le 9223372036854775807,((cL [(⟨⟨[101,110,116,114,121]⟩⟩:ByteArray),words.cx (words.pathL x.1.data.toList),words.bQ (x.2.fdiv (2 ^ 20)).toNat,words.bQ (IntKind.u64.wrap (↑(BitVec.ofInt 64 x.2 &&& BitVec.ofInt 64 1048575).toNat:Int)).toNat,(⟨⟨[100,105,114]⟩⟩:ByteArray),{ data:={ toList:=Lib.itoa (↑x.5:Int):Array UInt8 }:ByteArray }] (⟨⟨[32]⟩⟩:ByteArray)).size+1).le 9223372036854775807,(cL [(⟨⟨[101,110,116,114,121]⟩⟩:ByteArray),words.cx (words.pathL x.1.data.toList),words.bQ (x.2.fdiv (2 ^ 20)).toNat,words.bQ (IntKind.u64.wrap (↑(BitVec.ofInt 64 x.2 &&& BitVec.ofInt 64 1048575).toNat:Int)).toNat,(⟨⟨[100,105,114]⟩⟩:ByteArray),{ data:={ toList:=Lib.itoa (↑x.5:Int):Array UInt8 }:ByteArray }] (⟨⟨[32]⟩⟩:ByteArray)).size.le 140737488355328,(-9223372036854775808:Int)<=(↑x.5:Int)/\(↑x.5:Int)<=9223372036854775807,decide (x.4=x.4/\x.5=x.5/\x.6=x.6)=true,(x.3==x.3)=true,(x.3==2)=true,(x.3==1)=false,(x.3==0)=false,(x.3==x.3)=true,decide (x.4=x.4/\x.5=x.5/\x.6=x.6)=true,(x.3==x.3)=true,(10:Int)=10/\0<=IntKind.u64.wrap (↑(BitVec.ofInt 64 x.2 &&& BitVec.ofInt 64 1048575).toNat:Int)/\IntKind.u64.wrap (↑(BitVec.ofInt 64 x.2 &&& BitVec.ofInt 64 1048575).toNat:Int)<18446744073709551616,(x.3==x.3)=true,decide (x.4=x.4/\x.5=x.5/\x.6=x.6)=true,(x.3==x.3)=true,(!gX x.2)=false,0<=x.2/\x.2<18446744073709551616,(x.2==x.2)=true,(x.3==x.3)=true,decide (x.4=x.4/\x.5=x.5/\x.6=x.6)=true,(x.3==x.3)=true,(10:Int)=10/\0<=x.2.fdiv (2 ^ 20)/\x.2.fdiv (2 ^ 20)<18446744073709551616,(x.2==x.2)=true,(x.3==x.3)=true,decide (x.4=x.4/\x.5=x.5/\x.6=x.6)=true,(x.3==x.3)=true,(!gX x.2)=false,0<=x.2/\x.2<18446744073709551616,(x.2==x.2)=true,(x.2==x.2)=true,(x.3==x.3)=true,decide (x.4=x.4/\x.5=x.5/\x.6=x.6)=true,(x.3==x.3)=true,x.1.size.le 1000000000,List.take 4 (List.drop (0+i.toNat*4) m)=eC x/\(eC x).length=4,ai i n=true,decide (i<(↑n:Int))=true]:=by kernel_rfl
open Go Go.Rx Go.RowKit Go.Proofs
open words (pathL mkS_app mkS_size)
open tt (text_take flat_congr)
theorem Ms:bW Tryz.prog words.fG (96,CF):=by
 refine ⟨⟨_,Tryz.func96,by kernel_rfl,by kernel_rfl⟩,fun args v p h hp w hX=>?_⟩;dsimp only [CF] at h;split at h
 ·rename_i n k;cases h;obtain ⟨rfl,h0,h1⟩:=hp;obtain ⟨n,rfl⟩:=XL h0;refine (fmtU.G1 n (by omega) w hX).mono fun e w' ⟨he,k,os,hw⟩=>⟨?_,he⟩;subst hw;exact words.tR w k os
 ·cases h
theorem K4 {H0 H:Hp} {Z3 M:Own} {w00 w0:World} (hk:Kept H0 Z3 w00 H M w0) (hX:∀ w:World,H.Sub w.hp->words.fG w):aK oS M w0:=
 aK.uS (Checked.mixed Tryz.checked) (by kernel_rfl) (fk.of iI rfl dK) (dz.list (X:=words.fG) (l:=PE) rfl (fun r h=>by
  simp only [PE,V8,Ww,Xc] at h
  rcases h with rfl | rfl | rfl | rfl | rfl
  ·exact bh.pure (r:=(15,words.iZ)) ⟨words.oP.1,fun args v p h hp w _=>words.oP.2 args v p h hp w trivial⟩
  ·exact bh.pure (r:=(24,words.pK)) words.wV
  ·exact bh.join words.Cv
  ·exact bh.pure (r:=(96,CF)) Ms
  ·exact bh.pure (r:=(73,Fv)) ⟨C6.1,fun args v p h hp w _=>C6.2 args v p h hp w trivial⟩) fun ν s w hr _=>hX w (tt.vC hk hr)) (fun f g h=>by cases h)
def kindL (k:Int):List UInt8:=if k=0 then [110,111,110,101] else if k=1 then [102,105,108,101] else [100,105,114]
def headB (s:Nat) (n:Nat):List UInt8:=[98,111,111,107]++[32]++Lib.decDigits s++[32]++Lib.itoa (n:Int)++[10]
def bodyK (p:ByteArray) (a c:Nat) (ks:List UInt8) (l:Nat):List UInt8:=[101,110,116,114,121]++[32]++pathL p.data.toList++[32]++Lib.decDigits a++[32]++Lib.decDigits c++[32]++ks++[32]++Lib.itoa (l:Int)
theorem jH (s:Nat) (n:Nat):cL [{ data:={ toList:=[(98:UInt8),(111:UInt8),(111:UInt8),(107:UInt8)]:Array UInt8 }:ByteArray },words.bQ s,{ data:={ toList:=Lib.itoa (n:Int):Array UInt8 }:ByteArray }] { data:={ toList:=[(32:UInt8)]:Array UInt8 }:ByteArray }++{ data:={ toList:=[(10:UInt8)]:Array UInt8 }:ByteArray }=words.cx (headB s n):=by
 have:=tt.xJ [[98,111,111,107],Lib.decDigits s,Lib.itoa (n:Int)] [32];refine Eq.trans (congrArg (·++_) (Eq.trans ?_ this)) (Eq.trans (tt.nl _) ?_)
 ·rfl
 ·unfold headB Lib.join;congr 1;simp [List.intercalate]
theorem jE (p:ByteArray) (a c:Nat) (ks:List UInt8) (l:Nat):cL [{ data:={ toList:=[(101:UInt8),(110:UInt8),(116:UInt8),(114:UInt8),(121:UInt8)]:Array UInt8 }:ByteArray },words.cx (pathL p.data.toList),words.bQ a,words.bQ c,{ data:={ toList:=ks:Array UInt8 }:ByteArray },{ data:={ toList:=Lib.itoa (l:Int):Array UInt8 }:ByteArray }] { data:={ toList:=[(32:UInt8)]:Array UInt8 }:ByteArray }=words.cx (bodyK p a c ks l):=by
 have:=tt.xJ [[101,110,116,114,121],pathL p.data.toList,Lib.decDigits a,Lib.decDigits c,ks,Lib.itoa (l:Int)] [32];refine Eq.trans ?_ (this.trans ?_)
 ·rfl
 ·unfold bodyK Lib.join;congr 1;simp [List.intercalate]
theorem dec_len {n:Nat} (h:n<18446744073709551616):(Lib.decDigits n).length<=20:=by
 have:=words.pC h;exact this
theorem bodyK_len {p:ByteArray} (h:p.size<=1000000000) {a c l:Nat} {ks:List UInt8} (ha:a<18446744073709551616) (hc:c<18446744073709551616) (hk:ks.length<=4) (hl:l<=140737488355328):(bodyK p a c ks l).length<=3000000150:=by
 unfold bodyK;have:=words.iq p.data.toList;have e:p.data.toList.length=p.size:=rfl;have h2:=Lib.itoa_length_le (l:Int) (by omega) (by omega);have h3:=dec_len ha;have h4:=dec_len hc;simp only [V7,Wm,WL];omega
theorem headB_len {s n:Nat} (hs:s<18446744073709551616) (hn:n<=1000):(headB s n).length<=100:=by
 unfold headB;have h2:=Lib.itoa_length_le (n:Int) (by omega) (by omega);have h3:=dec_len hs;simp only [V7,Wm,WL];omega
def lineX (x:ak):List UInt8:=bodyK x.p (x.v.toNat / 1048576) (x.v.toNat % 1048576) (kindL x.k) x.l++[10]
def Fine (v k:Int):Prop:=0<=v/\v<18446744073709551616/\gX v=true/\(k=0\/k=1\/k=2)
section
variable {cs0:List Frame} {R:Ending->World->Prop} {ν:aP} {L:List ak} {M1:Own} {w1:World} {s:Int} {E:List bH} {cl:Nat} {hd:List UInt8}
theorem F1 (K:aK oS M1 w1) (hν:∀ i b,ν i=some b->i=0\/i=1) (Y2:L.length<=1000) (hh:hd.length<=100) (hs:∀ x∈L,x.p.size<=1000000000) (hl:∀ x∈L,x.l<=140737488355328) (hg:∀ x∈L,Fine x.v x.k)
  (hR:∀ ν' M2 w2 s' w',dh M1 w1 M2 w2->HR ν' M2 w2 s' w'->R (.returned (.string (words.cx (hd++L.flatMap lineX)))) w'):∀ (j i:Nat),i+j=L.length->((L.take i).flatMap lineX).length<=i*3000000200->
  af oS M1 w1 cs0 12 R ν (SM.at (uL L.length (words.cx (hd++(L.take i).flatMap lineX)) (i:Int)) 6 (HX s (E.map mC) cl (cE L)))
 | 0,i,hj,hb=>by
  refine af.ao K (n:=60) (o:=ff [0] false) (v:=.string (words.cx (hd++L.flatMap lineX))) ?_ fun ν' M2 w2 s' w' _ hB hr=>hR ν' M2 w2 s' w' hB hr;rw [Rm (i':=0) (t':=⟨#[]⟩) (x:=⟨⟨#[]⟩,0,0,none,0,0⟩),We (by omega)];simp only [ah,VV,VX,VW];exact V2 (by omega)
 | j+1,i,hj,hb=>by
  have hi:i<L.length:=by omega
  have hxm:=WT hi;have hx:L[i]?=some L[i]:=V4 hi;have Zg:=text_take lineX hi;generalize L[i]=x at hxm hx Zg;have Z9:=hs x hxm;have hxl:=hl x hxm;obtain ⟨g0,g1,g2,gk⟩:=hg x hxm;have t1:decide ((i:Int)<(L.length:Int))=true:=V0 (by omega);have r1:=aJ hi;have ws:=aU (k:=i) (by omega);have ra:=lY hx;have nx:=F1 K hν Y2 hh hs hl hg hR j (i+1) (by omega);rw [Zg] at nx;generalize (L.take i).flatMap lineX=t at hb nx ⊢
  have ht:t.length<=3000000200000:=by
   have:i*3000000200<=1000*3000000200:=Xu _ (by omega);omega
  obtain ⟨n,hn⟩:=XL g0;have hn':x.2=(n:Int):=hn;have ZC:n<18446744073709551616:=by omega
  have hv:(!gX (n:Int))=false:=by rw [<- hn,g2];rfl
  have hv0:(0:Int)<=(n:Int)/\(n:Int)<18446744073709551616:=⟨by omega,by omega⟩;have el:lineX x=bodyK x.p (n / 1048576) (n % 1048576) (kindL x.k) x.l++[10]:=by unfold lineX;rw [hn,V5]
  have hkl:(kindL x.k).length<=4:=by unfold kindL;split <;> (try split) <;> decide
  have ZG:=bodyK_len (a:=n / 1048576) (c:=n % 1048576) (ks:=kindL x.k) (l:=x.l) Z9 (by omega) (by omega) hkl hxl;rw [el] at nx;have nx:=nx (by simp only [V7,Wm,WL];omega);rw [<- Xy] at nx;have hd1:(10:Int)=10/\(0:Int)<=((n / 1048576:Nat):Int)/\((n / 1048576:Nat):Int)<18446744073709551616:=⟨rfl,by omega,by omega⟩;have hd2:(10:Int)=10/\(0:Int)<=((n % 1048576:Nat):Int)/\((n % 1048576:Nat):Int)<18446744073709551616:=⟨rfl,by omega,by omega⟩;have hil:(-9223372036854775808:Int)<=(x.l:Int)/\(x.l:Int)<=9223372036854775807:=⟨by omega,by omega⟩;rcases gk with k | k | k
  ·have q0:(x.3==(0:Int))=true:=by rw [show x.3=0 from k];rfl
   have ek:kindL x.k=[110,111,110,101]:=by rw [k];rfl
   rw [ek] at nx ZG;refine af.reach K (k:=2) (n:=500) (o:=([(2,.cells (eC x))]++ff [0,29] true++ff (List.range 60) false++VP)) (ren:=[(0,0),(1,1),(2,2)]) (eqs:=[1,2]) ?_ (by kernel_rfl) (fun i b h=>by rcases hν i b h with h | h <;> rw [h] <;> rfl) nx;rw [Qm];simp only [ah,t1,r1,ra,ws,hv,q0,hn',og,yH ZC,V5,jE,tt.nl,mkS_app,mkS_size,c9,aM,ib,VV,VX,VW];simp only [V7,Wm,WL];try (repeat' apply And.intro)
   all_goals first | rfl | exact Z9 | exact WB _ | exact V0 ⟨rfl,rfl,rfl⟩ | exact hv0 | exact hd1 | exact hd2 | exact hil | (show (_:Nat)<=_;omega) | omega | skip
  ·have q0:(x.3==(0:Int))=false:=by rw [show x.3=1 from k];rfl
   have q1:(x.3==(1:Int))=true:=by rw [show x.3=1 from k];rfl
   have ek:kindL x.k=[102,105,108,101]:=by rw [k];rfl
   rw [ek] at nx ZG;refine af.reach K (k:=2) (n:=500) (o:=([(2,.cells (eC x))]++ff [0,30] true++ff (List.range 60) false++VP)) (ren:=[(0,0),(1,1),(2,2)]) (eqs:=[1,2]) ?_ (by kernel_rfl) (fun i b h=>by rcases hν i b h with h | h <;> rw [h] <;> rfl) nx;rw [Pg];simp only [ah,t1,r1,ra,ws,hv,q0,q1,hn',og,yH ZC,V5,jE,tt.nl,mkS_app,mkS_size,c9,aM,ib,VV,VX,VW];simp only [V7,Wm,WL];try (repeat' apply And.intro)
   all_goals first | rfl | exact Z9 | exact WB _ | exact V0 ⟨rfl,rfl,rfl⟩ | exact hv0 | exact hd1 | exact hd2 | exact hil | (show (_:Nat)<=_;omega) | omega | skip
  ·have q0:(x.3==(0:Int))=false:=by rw [show x.3=2 from k];rfl
   have q1:(x.3==(1:Int))=false:=by rw [show x.3=2 from k];rfl
   have q2:(x.3==(2:Int))=true:=by rw [show x.3=2 from k];rfl
   have ek:kindL x.k=[100,105,114]:=by rw [k];rfl
   rw [ek] at nx ZG;refine af.reach K (k:=2) (n:=500) (o:=([(2,.cells (eC x))]++ff [0,31] true++ff (List.range 60) false++VP)) (ren:=[(0,0),(1,1),(2,2)]) (eqs:=[1,2]) ?_ (by kernel_rfl) (fun i b h=>by rcases hν i b h with h | h <;> rw [h] <;> rfl) nx;rw [Qw];simp only [ah,t1,r1,ra,ws,hv,q0,q1,q2,hn',og,yH ZC,V5,jE,tt.nl,mkS_app,mkS_size,c9,aM,ib,VV,VX,VW];simp only [V7,Wm,WL];try (repeat' apply And.intro)
   all_goals first | rfl | exact Z9 | exact WB _ | exact V0 ⟨rfl,rfl,rfl⟩ | exact hv0 | exact hd1 | exact hd2 | exact hil | (show (_:Nat)<=_;omega) | omega | skip
end
def lineZ (z:ByteArray->Int × Int × List Int) (p:ByteArray):List UInt8:=bodyK p ((z p).1.toNat / 1048576) ((z p).1.toNat % 1048576) (kindL (z p).2.1) (z p).2.2.length++[10]
def bookL (s:Int) (z:ByteArray->Int × Int × List Int) (N:List ByteArray):List UInt8:=headB s.toNat N.length++N.flatMap (lineZ z)
theorem U8 {w:World} {z:ByteArray->Int × Int × List Int} {L:List ak} (h:∀ x∈L,∃ us,(x.v,x.k,us)=z x.p/\ui w x.a x.l us):L.flatMap lineX=(L.map (·.p)).flatMap (lineZ z):=by
 rw [Ye];refine flat_congr fun x hx=>?_;obtain ⟨us,h1,h2⟩:=h x hx;unfold lineX lineZ;rw [<- h1];show _=bodyK x.p (x.v.toNat / 1048576) (x.v.toNat % 1048576) (kindL x.k) us.length++[10];rw [h2.1.1]
theorem Ih {cm:ak->List Int} {E:List bH} {cl:Nat} (hB:c8 E cl) {p:ByteArray} (hp:p∈E.map fun e=>e.1.p):∃ e∈E,e.1.p=p/\gN cm (E.map (·.1)) p=(e.1.v,e.1.k,cm e.1):=by
 obtain ⟨e,he,rfl⟩:=Wc.1 hp;refine ⟨e,he,rfl,?_⟩;unfold gN;have hn:((E.map (·.1)).map fun e=>e.p).Nodup:=by rw [WI];exact hB.names
 rw [qf hn (Wc.2 ⟨e,he,rfl⟩)]
theorem zj {W:World} {b m cl:Nat} {s:Int} {E:List bH} {cm:ak->List Int} (hX:MX W) (hP:words.fG W) (hA:jq W b m s E cl) (YI:b≠m) (hB:c8 E cl) (hd:∀ e∈E,ui W e.1.a e.1.l (cm e.1)) (Y2:E.length<=1000) (hs:0<=s/\s<18446744073709551616) (hg:∀ e∈E,Fine e.1.v e.1.k):
  Calls Tryz.prog 12 #[.pointer (some ⟨b,0,none⟩)] W fun e w'=>Below W.heap.size W w'/\e=.returned (.string (words.cx (bookL s (gN cm (E.map (·.1))) (bA (E.map fun e=>e.1.p))))):=by
 have ho:∀ (j:Nat) (o':SO) (b' c':Nat),[SO.row [.v (.int .u64 s),.map 1] 66 (0,0) none,SO.map (E.map mC) cl][j]?=some o'->[(b,0),(m,0)][j]?=some (b',c')->∃ r,W.heap[b']?=some r/\OR (aA [(b,0),(m,0)]) j o' r:=by
  intro j o' b' c' h1 h2;match j with
  | 0=>
   simp only [Wa,Option.some.injEq] at h1 h2;subst h1;cases h2;exact ⟨_,hA.row,_,[],rfl,au.cons (VR.ae.2 rfl) (au.cons (VR.cV.2 ⟨(m,0),rfl,rfl⟩) au.nil),rfl⟩
  | 1=>
   simp only [WU,Wa,Option.some.injEq] at h1 h2;subst h1;cases h2;exact ⟨_,hA.map,_,rfl,rS E⟩
  | j+2=>simp at h1
 refine aZ (E:=oS) rfl (d:=6) (l:=[(b,0),(m,0)]) (os:=[.row [.v (.int .u64 s),.map 1] 66 (0,0) none,.map (E.map mC) cl]) rfl (by simp) (by simpa using YI) ho rfl (args:=[.ptr 0 0]) (a:=[.pointer (some ⟨b,0,none⟩)]) (S0:=vL s (E.map mC) cl) (by kernel_rfl) (au.cons (VR.aF.2 ⟨(b,0),rfl,rfl⟩) au.nil) fun cs0=>?_;have hM:∀ z,¬ (aD [(b,0),(m,0)] ([SO.row [.v (.int .u64 s),.map 1] 66 (0,0) none,SO.map (E.map mC) cl].map fun o=>(o,false))) z:=fun z=>kQ z
 have Z6:=Kept.start (H0:=W.hp) (M:=aD [(b,0),(m,0)] ([SO.row [.v (.int .u64 s),.map 1] 66 (0,0) none,SO.map (E.map mC) cl].map fun o=>(o,false))) (w:=W) (Hp.Sub.refl _) (fun z o _=>hM z) (dN (by
  intro j o' m' b' c' q1 q2;rw [Wv] at q1;obtain ⟨o2,q3,q4⟩:=Wg.1 q1;cases q4;exact ho j o' b' c' q3 q2)) (fun _ h=>h)
 have hν1:∀ i c,aA [(b,0),(m,0)] i=some c->i=0\/i=1:=fun i c h=>by
  match i with
  | 0=>exact .inl rfl
  | 1=>exact .inr rfl
  | i+2=>simp [aA] at h
 have hsl:=kC E;have hhd:=headB_len (s:=s.toNat) (n:=E.length) (by omega) Y2;have hjs:=jH s.toNat E.length
 have hjl:((cL [{ data:={ toList:=[(98:UInt8),(111:UInt8),(111:UInt8),(107:UInt8)]:Array UInt8 }:ByteArray },words.bQ s.toNat,{ data:={ toList:=Lib.itoa (E.length:Int):Array UInt8 }:ByteArray }] { data:={ toList:=[(32:UInt8)]:Array UInt8 }:ByteArray }).size)<=100:=by
  have:=congrArg ByteArray.size hjs;rw [mkS_size,ByteArray.size_append] at this;omega
 have hX0:∀ {H:Hp},W.hp.Sub H->∀ w:World,H.Sub w.hp->words.fG w:=fun h w h2=>tt.gV hP (iQ (Hp.Sub.refl _) (h.trans h2));have hlen:((E.map mC).length:Int)=(E.length:Int):=by rw [WH]
 have Zu:∀ {w1:World} {ν':aP} {aa:List Value},(aA [(b,0),(m,0)]).Le ν'->W.hp.Sub w1.hp->au ν' [.ptr 0 0] aa->Calls Tryz.prog 34 aa.toArray w1 (OZ w1 (gN cm (E.map (·.1))) (bA (E.map fun e=>e.1.p))):=by
  intro w1 ν' aa hle hs ha;obtain ⟨y1,ZY,rfl,q1,YV⟩:=ha.cons_inv;obtain rfl:=YV.ay;obtain ⟨bb,Zd,rfl⟩:=VR.aF.1 q1;have Zd:=Zd.symm.trans (hle 0 (b,0) rfl);cases Zd;exact uI (hX.sub hs) ⟨hs _ _ hA.row,hs _ _ hA.map⟩ YI hB (fun e he=>(hd e he).keep (iQ (Hp.Sub.refl _) hs)) Y2
 by_cases hE0:E=[]
 ·subst hE0;refine af.gD (K4 Z6 (hX0 (Hp.Sub.refl _))) Z6 (n:=300) (g:=34) (o:=oK) (args:=[.ptr 0 0]) ?_ (by kernel_rfl) fun ν' w1 aa hle YJ hgr ha=>?_
  ·rw [QS];simp only [ah,hlen,VV,VX,VW];try (repeat' apply And.intro)
   all_goals first | rfl | exact hs.1 | exact hs.2 | exact Wj hjl (by decide) | exact Wj (Ya hjl) (by decide) | omega | decide
  refine (Zu hle YJ ha).mono fun e w' ⟨Zv,v,he,hv⟩=>?_
  obtain rfl:v=.slice none 0 0:=by
   rcases hv with ⟨_,h⟩ | ⟨zs,hz,hp,_⟩
   ·exact h
   ·exact absurd (List.map_eq_nil_iff.1 (hp.trans (Wd.1 hsl))) hz
  refine ⟨Zv,_,he,fun M2 ZE=>⟨?_,?_⟩⟩
  ·rw [Sm];simp only [ah,hlen,VV,VX,VW];try (repeat' apply And.intro)
   all_goals first | rfl | exact hs.1 | exact hs.2 | exact Wj hjl (by decide) | exact Wj (Ya hjl) (by decide) | omega | decide
  refine af.ao (K4 ZE (hX0 ZE.Zf)) (n:=100) (o:=ff (List.range 10) false) (v:=.string (words.cx (bookL s (gN cm []) (bA [])))) ?_ fun ν'' M5 w5 s5 w6 _ hB5 hr5=>⟨aB hM (ZE.base.trans hB5) hr5,rfl⟩;show ah (ao oS 12 100 (QX s _ cl) (ff (List.range 10) false) _);rw [Tl];simp only [ah,VV,VX,VW];have h0:bA ([]:List ByteArray)=[]:=Wd.1 (bz []).length_eq;refine congrArg Value.string (hjs.trans (congrArg words.cx ?_));unfold bookL;rw [h0,Yd,W4];rfl
 ·have hL:bA (E.map fun e=>e.1.p)≠[]:=fun h=>hE0 (Wd.1 (by rw [<- hsl,h];rfl));refine af.CY (K4 Z6 (hX0 (Hp.Sub.refl _))) Z6 (n:=300) (g:=34) (o:=oK) (args:=[.ptr 0 0]) ?_ (by kernel_rfl) fun ν' w1 aa hle YJ hgr ha=>?_
  ·rw [QS];simp only [ah,hlen,VV,VX,VW];try (repeat' apply And.intro)
   all_goals first | rfl | exact hs.1 | exact hs.2 | exact Wj hjl (by decide) | exact Wj (Ya hjl) (by decide) | omega | decide
  refine (Zu hle YJ ha).mono fun e w' ⟨Zv,v,he,hv⟩=>?_;rcases hv with ⟨h0,_⟩ | ⟨L,hLne,hp,hsl2,hdat⟩
  ·exact absurd h0 hL
  obtain ⟨g,cc,rest,hy,ε,hnc,hh,Zb⟩:=hsl2
  have hLl:L.length=E.length:=by
   have:=congrArg List.length hp;rw [WH,hsl] at this;exact this
  refine ⟨Zv,v,PM L.length,Qq L,g,cc,_,he,ε,hh,fun ν2 j hj=>⟨⟨vE L,rest,rfl,?_,?_,(g,cc),hj,Zb⟩,VR.aL.2 ⟨(g,cc),hj,hnc,hy⟩⟩,?_,fun M2 ZE=>?_⟩
  ·rw [<- eN];exact au.lits _ _
  ·rw [<- eN,WH,V7];omega
  ·rw [Q2];simp only [ah,hlen,VV,VX,VW];try (repeat' apply And.intro)
   all_goals first | rfl | exact hs.1 | exact hs.2 | exact Wj hjl (by decide) | exact Wj (Ya hjl) (by decide) | omega | decide
  have Zt:∀ x∈L,x.p.size<=1000000000/\Fine x.v x.k:=fun x hx=>by
   have hxp:x.p∈E.map fun e=>e.1.p:=(bz _).mem_iff.1 (by rw [<- hp];exact Wc.2 ⟨x,hx,rfl⟩);obtain ⟨e1,he1,hep,hz⟩:=Ih (cm:=cm) hB hxp;obtain ⟨us,h1,_⟩:=hdat x hx;rw [hz] at h1;obtain ⟨h2,h3⟩:=Prod.mk.inj h1;obtain ⟨h3,_⟩:=Prod.mk.inj h3;rw [h2,h3,<- hep];exact ⟨hB.size e1 he1,hg e1 he1⟩
  have K:=K4 ZE (hX0 ZE.Zf);have hte:=U8 hdat;rw [hp] at hte;have nx:=F1 (cs0:=cs0) (s:=s) (E:=E) (cl:=cl) (L:=L) (hd:=headB s.toNat E.length) (R:=fun e w'=>Below W.heap.size W w'/\e=.returned (.string (words.cx (bookL s (gN cm (E.map (·.1))) (bA (E.map fun e=>e.1.p)))))) K hν1 (by omega) hhd (fun x hx=>(Zt x hx).1) (fun x hx=>by obtain ⟨us,_,h2⟩:=hdat x hx;exact h2.1.2.1) (fun x hx=>(Zt x hx).2) (fun ν' M3 w3 s' w4 hB3 hr3=>⟨aB hM (ZE.base.trans hB3) hr3,by rw [hte];unfold bookL;rw [hsl]⟩) L.length 0 (by omega) (by simp);refine af.reach K (k:=2) (n:=100) (o:=VP) (ren:=[(0,0),(1,1),(2,3)]) (eqs:=[1,2]) ?_ (by kernel_rfl) (fun i b h=>by rcases hν1 i b h with h | h <;> rw [h] <;> rfl) nx;show ah (reach oS 2 100 (Qf s (E.map mC) cl L L.length) VP [(0,0),(1,1),(2,3)] [1,2] (uL L.length (words.cx (headB s.toNat E.length++(L.take 0).flatMap lineX)) 0) 6 (HX s (E.map mC) cl (cE L)));rw [Uj]
  simp only [ah,hlen,hjs,X8,Yd,W4,ib,aM,VV,VX,VW];try (repeat' apply And.intro)
  all_goals first | rfl | omega | skip
end tk
namespace tk
theorem Dl (s:Nat) (n:Nat) (hs:s<18446744073709551616) (hn:n<=1000):(cL [{ data:={ toList:=[(98:UInt8),(111:UInt8),(111:UInt8),(107:UInt8)]:Array UInt8 }:ByteArray },words.bQ s,{ data:={ toList:=Lib.itoa (n:Int):Array UInt8 }:ByteArray }] { data:={ toList:=[(32:UInt8)]:Array UInt8 }:ByteArray }).size<=100:=by
 have:=congrArg ByteArray.size (jH s n);rw [words.mkS_size,ByteArray.size_append] at this;have:=headB_len hs hn;omega
theorem Ea {W:World} {b:Nat} {s:Int} (hP:words.fG W) (hb:W.heap[b]?=some (.cells #[.int .u64 s,.map none] 66 (0,0))) (hs:0<=s/\s<18446744073709551616) (z:ByteArray->Int × Int × List Int):
  Calls Tryz.prog 12 #[.pointer (some ⟨b,0,none⟩)] W fun e w'=>Below W.heap.size W w'/\e=.returned (.string (words.cx (bookL s z []))):=by
 refine aZ (E:=oS) rfl (d:=6) (l:=[(b,0)]) (os:=[.row [.v (.int .u64 s),.v (.map none)] 66 (0,0) none]) rfl (by simp) (by simp) (Bp hb) rfl (args:=[.ptr 0 0]) (a:=[.pointer (some ⟨b,0,none⟩)]) (S0:=tq s) (by kernel_rfl) (au.cons (VR.aF.2 ⟨(b,0),rfl,rfl⟩) au.nil) fun cs0=>?_;have hM:∀ z,¬ (aD [(b,0)] ([SO.row [.v (.int .u64 s),.v (.map none)] 66 (0,0) none].map fun o=>(o,false))) z:=fun z=>aY (os:=[_])
 have Z6:=Kept.start (H0:=W.hp) (M:=aD [(b,0)] ([SO.row [.v (.int .u64 s),.v (.map none)] 66 (0,0) none].map fun o=>(o,false))) (w:=W) (Hp.Sub.refl _) (fun z o _=>hM z) (dN (by
  intro j o' m' b' c' q1 q2;rw [Wv] at q1;obtain ⟨o2,q3,q4⟩:=Wg.1 q1;cases q4;exact Bp hb j o' b' c' q3 q2)) (fun _ h=>h)
 have hX0:∀ {H:Hp},W.hp.Sub H->∀ w:World,H.Sub w.hp->words.fG w:=fun h w h2=>tt.gV hP (iQ (Hp.Sub.refl _) (h.trans h2));have hjl:=Dl s.toNat 0 (by omega) (by omega);refine af.gD (K4 Z6 (hX0 (Hp.Sub.refl _))) Z6 (n:=300) (g:=34) (o:=oK) (args:=[.ptr 0 0]) ?_ (by kernel_rfl) fun ν' w1 aa hle YJ hgr ha=>?_
 ·rw [PW];simp only [ah,VV,VX,VW];try (repeat' apply And.intro)
  all_goals first | rfl | exact hs.1 | exact hs.2 | exact Wj hjl (by decide) | exact Wj (Ya hjl) (by decide) | omega | decide
 obtain ⟨y1,ZY,rfl,q1,YV⟩:=ha.cons_inv;obtain rfl:=YV.ay;obtain ⟨bb,Zd,rfl⟩:=VR.aF.1 q1;have Zd:=Zd.symm.trans (hle 0 (b,0) rfl);cases Zd;refine (yw (YJ _ _ hb)).mono fun e w' ⟨Zv,he⟩=>⟨Zv,_,he,fun M2 ZE=>⟨?_,?_⟩⟩
 ·rw [VE];simp only [ah,VV,VX,VW];try (repeat' apply And.intro)
  all_goals first | rfl | exact hs.1 | exact hs.2 | exact Wj hjl (by decide) | exact Wj (Ya hjl) (by decide) | omega | decide
 refine af.ao (K4 ZE (hX0 ZE.Zf)) (n:=100) (o:=ff (List.range 10) false) (v:=.string (words.cx (bookL s z []))) ?_ fun ν'' M5 w5 s5 w6 _ hB5 hr5=>⟨aB hM (ZE.base.trans hB5) hr5,rfl⟩;show ah (ao oS 12 100 (QT s) (ff (List.range 10) false) _);rw [UG];simp only [ah,VV,VX,VW];refine congrArg Value.string ((jH s.toNat 0).trans (congrArg words.cx ?_));unfold bookL;rw [Yd,W4];rfl
theorem AH {W:World} (hP:words.fG W) (z:ByteArray->Int × Int × List Int):
  Calls Tryz.prog 12 #[.pointer none] W fun e w'=>Below W.heap.size W w'/\e=.returned (.string (words.cx (bookL 0 z []))):=by
 have Z6:=Kept.start (H0:=W.hp) (M:=aD [] []) (w:=W) (Hp.Sub.refl _) (fun z o _=>aE z) (fun b hb=>by obtain ⟨i,o,c,h1,h2⟩:=hb;simp at h1) (fun _ h=>h);refine bX (E:=oS) (args:=[.v (.pointer none)]) (a:=[.pointer none]) rfl rfl (K4 Z6 fun w h=>tt.gV hP (iQ (Hp.Sub.refl _) h)) (by kernel_rfl) (au.cons (VR.ae.2 rfl) au.nil) (n:=400) (o:=VP) ⟨?_⟩;rw [SJ];simp only [ah,VV,VX,VW];have h1:Value.string (_++_)=Value.string _:=congrArg Value.string ((jH 0 0).trans (congrArg words.cx (show headB 0 0=bookL 0 z [] by unfold bookL;rw [Yd,W4];rfl)));try (repeat' apply And.intro)
 all_goals first | rfl | exact h1 | (show (_:Nat)<=_;omega) | decide | omega
end tk
namespace br
def Ps:List (FuncId × Sum):=[(27,cq words.iZ),(30,cq words.j5),(38,cq (words.vH 18446744073709551616)),(39,cq o6)]
def Eo:Env:={ EP [] [] with Y7:=fun f=>Ps.lookup f }
def CJ (l:List SV) (s:Int) (n c:Nat):SM:=(a6 Eo 13 [.agg [.v (.int .u64 s),.sl 0 0 n (some c)]] (bG 6 1 0 [cv l])).getD dn
def Kh:List SV:=[.v (.string ⟨#[110,111,110,101]⟩),.v (.string ⟨#[102,105,108,101]⟩),.v (.string ⟨#[100,105,114]⟩)]
def Ex (l:List SV) (s:Int) (n c:Nat):List (Option (SO × Bool)):=[cv l,some (.row [.v (.int .u64 s),.sl 0 0 n (some c)] 34 (0,0) none,true),some (.row Kh 9 (0,0) none,true)]
def Mj:List SI:=dB Eo 2 200 (CJ [] 0 0 0) VP
def EL (t:ByteArray) (i:Int):SF:={ fn:=13,tm:=fh 72 7 ([.aH,.ptr 1 0,.aH,.v (.string t),.sl 2 0 3 (some 3),.v (.int .i64 i)]++List.replicate 66 .aH),todo:=Mj,defers:=[],ret:=false,kind:=.normal,ro:=none }
theorem Ut (l:List SV) (s:Int) (n c:Nat) (t:ByteArray):reach Eo 2 300 (CJ l s n c) VP [(0,0),(1,1),(2,2)] [0] (EL t 0) 6 (Ex l s n c)=[0=0,VS ((⟨⟨[98,111,111,107,32]⟩⟩:ByteArray)++words.bQ s.toNat++(⟨⟨[32]⟩⟩:ByteArray)++{ data:={ toList:=Lib.itoa (↑n:Int):Array UInt8 }:ByteArray }++(⟨⟨[10]⟩⟩:ByteArray))=VS t,0=0/\3=3/\some 3=some 3,vZ 0=vZ 0,l=l,l.all ab=true,V1 IntKind.u64 s=V1 IntKind.u64 s,0=0/\n=n/\some c=some c,VS ⟨⟨[110,111,110,101]⟩⟩=VS ⟨⟨[110,111,110,101]⟩⟩,VS ⟨⟨[102,105,108,101]⟩⟩=VS ⟨⟨[102,105,108,101]⟩⟩,VS ⟨⟨[100,105,114]⟩⟩=VS ⟨⟨[100,105,114]⟩⟩,(((⟨⟨[98,111,111,107,32]⟩⟩:ByteArray)++words.bQ s.toNat++(⟨⟨[32]⟩⟩:ByteArray)++{ data:={ toList:=Lib.itoa (↑n:Int):Array UInt8 }:ByteArray }).size+1).le 9223372036854775807,(((⟨⟨[98,111,111,107,32]⟩⟩:ByteArray)++words.bQ s.toNat++(⟨⟨[32]⟩⟩:ByteArray)).size+{ data:={ toList:=Lib.itoa (↑n:Int):Array UInt8 }:ByteArray }.size).le 9223372036854775807,(-9223372036854775808:Int)<=(↑n:Int)/\(↑n:Int)<=9223372036854775807,(((⟨⟨[98,111,111,107,32]⟩⟩:ByteArray)++words.bQ s.toNat).size+1).le 9223372036854775807,(5+(words.bQ s.toNat).size).le 9223372036854775807,0=0/\n=n/\some c=some c,((↑n:Int)==(↑n:Int))=true,0<=s/\s<18446744073709551616]:=by kernel_rfl
theorem U3 (l:List SV) (s:Int) (n c:Nat) (t:ByteArray) (i:Int) (v:Value):ao Eo 13 60 (SM.at (EL t i) 6 (Ex l s n c)) (ff [0] false++VP) v=[VS t=v,decide (i<(↑n:Int))=false]:=by kernel_rfl
theorem SR (s:Int) (v:Value):ao Eo 13 400 (a7 Eo 13 [.agg [.v (.int .u64 s),.v (.slice none 0 0)]]) (VP) v=[VS ((⟨⟨[98,111,111,107,32]⟩⟩:ByteArray)++words.bQ s.toNat++(⟨⟨[32]⟩⟩:ByteArray)++{ data:={ toList:=Lib.itoa (↑(0:Nat):Int):Array UInt8 }:ByteArray }++(⟨⟨[10]⟩⟩:ByteArray))=v,(((⟨⟨[98,111,111,107,32]⟩⟩:ByteArray)++words.bQ s.toNat++(⟨⟨[32]⟩⟩:ByteArray)++{ data:={ toList:=Lib.itoa (↑(0:Nat):Int):Array UInt8 }:ByteArray }).size+1).le 9223372036854775807,(((⟨⟨[98,111,111,107,32]⟩⟩:ByteArray)++words.bQ s.toNat++(⟨⟨[32]⟩⟩:ByteArray)).size+1).le 9223372036854775807,(-9223372036854775808:Int)<=(↑(0:Nat):Int)/\(↑(0:Nat):Int)<=9223372036854775807,(((⟨⟨[98,111,111,107,32]⟩⟩:ByteArray)++words.bQ s.toNat).size+1).le 9223372036854775807,(5+(words.bQ s.toNat).size).le 9223372036854775807,true=true,true=true,0<=s/\s<18446744073709551616]:=by kernel_rfl
theorem VM (l:List SV) (s:Int) (n c:Nat) (t t' w:ByteArray) (i i':Int) (x:ak):reach Eo 2 500 (SM.at (EL t i) 6 (Ex l s n c)) ([(2,.cells (eC x))]++ff [0] true++[6,10,18,26,34].map (fun q=>(q,.cells [.v (.string w)]))++VP) [(0,0),(1,1),(2,2)] [0] (EL t' i') 6 (Ex l s n c)=[0=0,VS (t++(⟨⟨[101,110,116,114,121,32]⟩⟩:ByteArray)++words.cx (words.pathL x.1.data.toList)++(⟨⟨[32]⟩⟩:ByteArray)++words.bQ (x.2 / 1048576).toNat++(⟨⟨[32]⟩⟩:ByteArray)++words.bQ (x.2 % 1048576).toNat++(⟨⟨[32]⟩⟩:ByteArray)++w++(⟨⟨[32]⟩⟩:ByteArray)++{ data:={ toList:=Lib.itoa (↑x.5:Int):Array UInt8 }:ByteArray }++(⟨⟨[10]⟩⟩:ByteArray))=VS t',0=0/\3=3/\some 3=some 3,vZ (IntKind.i64.wrap (i+1))=vZ i',l=l,l.all ab=true,V1 IntKind.u64 s=V1 IntKind.u64 s,0=0/\n=n/\some c=some c,VS ⟨⟨[110,111,110,101]⟩⟩=VS ⟨⟨[110,111,110,101]⟩⟩,VS ⟨⟨[102,105,108,101]⟩⟩=VS ⟨⟨[102,105,108,101]⟩⟩,VS ⟨⟨[100,105,114]⟩⟩=VS ⟨⟨[100,105,114]⟩⟩,((t++(⟨⟨[101,110,116,114,121,32]⟩⟩:ByteArray)++words.cx (words.pathL x.1.data.toList)++(⟨⟨[32]⟩⟩:ByteArray)++words.bQ (x.2 / 1048576).toNat++(⟨⟨[32]⟩⟩:ByteArray)++words.bQ (x.2 % 1048576).toNat++(⟨⟨[32]⟩⟩:ByteArray)++w++(⟨⟨[32]⟩⟩:ByteArray)++{ data:={ toList:=Lib.itoa (↑x.5:Int):Array UInt8 }:ByteArray }).size+1).le 9223372036854775807,((t++(⟨⟨[101,110,116,114,121,32]⟩⟩:ByteArray)++words.cx (words.pathL x.1.data.toList)++(⟨⟨[32]⟩⟩:ByteArray)++words.bQ (x.2 / 1048576).toNat++(⟨⟨[32]⟩⟩:ByteArray)++words.bQ (x.2 % 1048576).toNat++(⟨⟨[32]⟩⟩:ByteArray)++w++(⟨⟨[32]⟩⟩:ByteArray)).size+{ data:={ toList:=Lib.itoa (↑x.5:Int):Array UInt8 }:ByteArray }.size).le 9223372036854775807,(x.3==x.3)=true,(w==w)=true,Kh[0+x.3.toNat*1]?=some (SV.v (VS w)),(-9223372036854775808:Int)<=(↑x.5:Int)/\(↑x.5:Int)<=9223372036854775807,((t++(⟨⟨[101,110,116,114,121,32]⟩⟩:ByteArray)++words.cx (words.pathL x.1.data.toList)++(⟨⟨[32]⟩⟩:ByteArray)++words.bQ (x.2 / 1048576).toNat++(⟨⟨[32]⟩⟩:ByteArray)++words.bQ (x.2 % 1048576).toNat++(⟨⟨[32]⟩⟩:ByteArray)++w).size+1).le 9223372036854775807,((t++(⟨⟨[101,110,116,114,121,32]⟩⟩:ByteArray)++words.cx (words.pathL x.1.data.toList)++(⟨⟨[32]⟩⟩:ByteArray)++words.bQ (x.2 / 1048576).toNat++(⟨⟨[32]⟩⟩:ByteArray)++words.bQ (x.2 % 1048576).toNat++(⟨⟨[32]⟩⟩:ByteArray)).size+w.size).le 9223372036854775807,((t++(⟨⟨[101,110,116,114,121,32]⟩⟩:ByteArray)++words.cx (words.pathL x.1.data.toList)++(⟨⟨[32]⟩⟩:ByteArray)++words.bQ (x.2 / 1048576).toNat++(⟨⟨[32]⟩⟩:ByteArray)++words.bQ (x.2 % 1048576).toNat).size+1).le 9223372036854775807,((t++(⟨⟨[101,110,116,114,121,32]⟩⟩:ByteArray)++words.cx (words.pathL x.1.data.toList)++(⟨⟨[32]⟩⟩:ByteArray)++words.bQ (x.2 / 1048576).toNat++(⟨⟨[32]⟩⟩:ByteArray)).size+(words.bQ (x.2 % 1048576).toNat).size).le 9223372036854775807,(x.3==x.3)=true,(w==w)=true,Kh[0+x.3.toNat*1]?=some (SV.v (VS w)),decide (x.4=x.4/\x.5=x.5/\x.6=x.6)=true,((↑x.5:Int)==(↑x.5:Int))=true,0<=x.2 % 1048576/\x.2 % (1048576:Int)<18446744073709551616,((t++(⟨⟨[101,110,116,114,121,32]⟩⟩:ByteArray)++words.cx (words.pathL x.1.data.toList)++(⟨⟨[32]⟩⟩:ByteArray)++words.bQ (x.2 / 1048576).toNat).size+1).le 9223372036854775807,((t++(⟨⟨[101,110,116,114,121,32]⟩⟩:ByteArray)++words.cx (words.pathL x.1.data.toList)++(⟨⟨[32]⟩⟩:ByteArray)).size+(words.bQ (x.2 / 1048576).toNat).size).le 9223372036854775807,(x.3==x.3)=true,(w==w)=true,Kh[0+x.3.toNat*1]?=some (SV.v (VS w)),decide (x.4=x.4/\x.5=x.5/\x.6=x.6)=true,((↑x.5:Int)==(↑x.5:Int))=true,0<=x.2 / 1048576/\x.2 / (1048576:Int)<18446744073709551616,((t++(⟨⟨[101,110,116,114,121,32]⟩⟩:ByteArray)++words.cx (words.pathL x.1.data.toList)).size+1).le 9223372036854775807,((t++(⟨⟨[101,110,116,114,121,32]⟩⟩:ByteArray)).size+(words.cx (words.pathL x.1.data.toList)).size).le 9223372036854775807,(x.3==x.3)=true,(w==w)=true,Kh[0+x.3.toNat*1]?=some (SV.v (VS w)),decide (x.4=x.4/\x.5=x.5/\x.6=x.6)=true,((↑x.5:Int)==(↑x.5:Int))=true,x.1.size.le 1000000000,Kh[0+x.3.toNat*1]?=some (SV.v (VS w)),ai x.3 3=true,(t.size+6).le 9223372036854775807,0<=x.2/\x.2<18446744073709551616,List.take 4 (List.drop (0+i.toNat*4) l)=eC x/\(eC x).length=4,ai i n=true,decide (i<(↑n:Int))=true]:=by kernel_rfl
open words (pathL mkS_app mkS_size)
open tt (text_take flat_congr)
open tk (bodyK headB kindL Fine dec_len bodyK_len headB_len lineX)
theorem Q0 {M0 M:Own} {w00 w0:World} (hM:∀ z,¬ M0 z) (hB:dh M0 w00 M w0):aK Eo M w0:=
 aK.uS (Checked.mixed Tryz.checked) (by kernel_rfl) (fk.of iI rfl dK) (dz.list (X:=fun _=>True) (l:=Ps) rfl (fun r h=>by
  simp only [Ps,V8,Ww,Xc] at h
  rcases h with rfl | rfl | rfl | rfl
  ·exact bh.pure (r:=(27,words.iZ)) words.wu
  ·exact bh.pure (r:=(30,words.j5)) words.qb
  ·exact bh.pure (r:=(38,words.vH 18446744073709551616)) (words.BH 18446744073709551616 (Wx _))
  ·exact bh.pure (r:=(39,o6)) wc) fun ν s w hr _=>trivial) (fun f g h=>by cases h)
theorem bE:({ data:={ toList:=[(101:UInt8),(110:UInt8),(116:UInt8),(114:UInt8),(121:UInt8),(32:UInt8)]:Array UInt8 }:ByteArray })=words.cx [101,110,116,114,121,32]:=rfl
theorem bB:({ data:={ toList:=[(98:UInt8),(111:UInt8),(111:UInt8),(107:UInt8),(32:UInt8)]:Array UInt8 }:ByteArray })=words.cx [98,111,111,107,32]:=rfl
theorem bU (n:Nat):words.bQ n=words.cx (Lib.decDigits n):=rfl
theorem Mm {k:Int} (h:k=0\/k=1\/k=2):Kh[0+k.toNat*1]?=some (.v (.string (words.cx (kindL k)))):=by
 rcases h with rfl | rfl | rfl <;> rfl
section
variable {cs0:List Frame} {R:Ending->World->Prop} {ν:aP} {L:List ak} {M1:Own} {w1:World} {s:Int} {c:Nat} {hd:List UInt8}
theorem FD (K:aK Eo M1 w1) (hν:∀ i b,ν i=some b->i=0) (Y2:L.length<=1000) (hh:hd.length<=100) (hs:∀ x∈L,x.p.size<=1000000000) (hl:∀ x∈L,x.l<=140737488355328) (hg:∀ x∈L,Fine x.v x.k)
  (hR:∀ ν' M2 w2 s' w',dh M1 w1 M2 w2->HR ν' M2 w2 s' w'->R (.returned (.string (words.cx (hd++L.flatMap lineX)))) w'):∀ (j i:Nat),i+j=L.length->((L.take i).flatMap lineX).length<=i*3000000200->
  af Eo M1 w1 cs0 13 R ν (SM.at (EL (words.cx (hd++(L.take i).flatMap lineX)) (i:Int)) 6 (Ex (cE L) s L.length c))
 | 0,i,hj,hb=>by
  refine af.ao K (n:=60) (o:=ff [0] false++VP) (v:=.string (words.cx (hd++L.flatMap lineX))) ?_ fun ν' M2 w2 s' w' _ hB hr=>hR ν' M2 w2 s' w' hB hr;rw [U3,We (by omega)];simp only [ah,VV,VX,VW];exact V2 (by omega)
 | j+1,i,hj,hb=>by
  have hi:i<L.length:=by omega
  have hxm:=WT hi;have hx:L[i]?=some L[i]:=V4 hi;have Zg:=text_take lineX hi;generalize L[i]=x at hxm hx Zg;have Z9:=hs x hxm;have hxl:=hl x hxm;obtain ⟨g0,g1,g2,gk⟩:=hg x hxm;have t1:decide ((i:Int)<(L.length:Int))=true:=V0 (by omega);have r1:=aJ hi;have ws:=aU (k:=i) (by omega);have ra:=lY hx;have nx:=FD K hν Y2 hh hs hl hg hR j (i+1) (by omega);rw [Zg] at nx;generalize (L.take i).flatMap lineX=t at hb nx ⊢
  have ht:t.length<=3000000200000:=by
   have:i*3000000200<=1000*3000000200:=Xu _ (by omega);omega
  obtain ⟨n,hn⟩:=XL g0;have hn':x.2=(n:Int):=hn;have ZC:n<18446744073709551616:=by omega
  have hv0:(0:Int)<=(n:Int)/\(n:Int)<18446744073709551616:=⟨by omega,by omega⟩;have el:lineX x=bodyK x.p (n / 1048576) (n % 1048576) (kindL x.k) x.l++[10]:=by unfold lineX;rw [hn,V5]
  have hkl:(kindL x.k).length<=4:=by unfold kindL;split <;> (try split) <;> decide
  have ZG:=bodyK_len (a:=n / 1048576) (c:=n % 1048576) (ks:=kindL x.k) (l:=x.l) Z9 (by omega) (by omega) hkl hxl;rw [el] at nx;have nx:=nx (by simp only [V7,Wm,WL];omega);have e1:((n:Int) / 1048576)=((n / 1048576:Nat):Int):=by omega
  have e2:((n:Int) % 1048576)=((n % 1048576:Nat):Int):=by omega
  have hd1:(0:Int)<=((n / 1048576:Nat):Int)/\((n / 1048576:Nat):Int)<18446744073709551616:=⟨by omega,by omega⟩;have hd2:(0:Int)<=((n % 1048576:Nat):Int)/\((n % 1048576:Nat):Int)<18446744073709551616:=⟨by omega,by omega⟩;have hil:(-9223372036854775808:Int)<=(x.l:Int)/\(x.l:Int)<=9223372036854775807:=⟨by omega,by omega⟩;have hkw:=Mm gk;have hkr:ai x.3 3=true:=by rcases gk with k | k | k <;> (rw [show x.3=_ from k];rfl)
  have hpl:=words.iq x.p.data.toList;have η:x.p.data.toList.length=x.p.size:=rfl;have hdl1:=dec_len (n:=n / 1048576) (by omega);have hdl2:=dec_len (n:=n % 1048576) (by omega);have hitl:=Lib.itoa_length_le (x.l:Int) (by omega) (by omega);refine af.reach K (k:=2) (n:=500) (o:=([(2,.cells (eC x))]++ff [0] true++[6,10,18,26,34].map (fun q=>(q,.cells [.v (.string (words.cx (kindL x.k)))]))++VP)) (ren:=[(0,0),(1,1),(2,2)]) (eqs:=[0]) ?_ (by kernel_rfl) (fun i b h=>by rw [hν i b h];rfl) nx;rw [VM];have hkw':Kh[0+x.3.toNat*1]?=some (.v (.string (words.cx (kindL x.k)))):=hkw;generalize kindL x.k=ks at hkl ZG hkw' ⊢;simp only [ah,t1,r1,ra,ws,hn',e1,e2,hkr,hkw',V5,bE,bU,tr.bS,tr.bN,tr.bI,mkS_app,mkS_size,c9,aM,VV,VX,VW];simp only [V7,Wm,WL];try (repeat' apply And.intro)
  all_goals first | rfl | exact Z9 | exact WB _ | exact cK _ | exact V0 ⟨rfl,rfl,rfl⟩ | (show (_:Nat)<=_;omega) | omega | (refine congrArg Value.string (congrArg words.cx ?_);unfold bodyK;simp) | skip
end
end br
namespace br
open words (mkS_app mkS_size)
open tk (headB Fine dec_len headB_len lineX)
theorem head_eq (s n:Nat):[98,111,111,107,32]++Lib.decDigits s++[32]++Lib.itoa (n:Int)++[10]=headB s n:=by unfold headB;simp
def QI (W:World) (y:Value) (xs:List ak):Prop:=(xs=[]/\y=.slice none 0 0)\/(xs≠[]/\∃ w0:World,cG w0 W y (vE xs) xs.length 4 50)
theorem l9 {W:World} {y:Value} {xs:List ak} {s:Int} (h:QI W y xs) (Y2:xs.length<=1000) (hs:0<=s/\s<18446744073709551616) (Zb:∀ x∈xs,x.p.size<=1000000000) (hl:∀ x∈xs,x.l<=140737488355328) (hg:∀ x∈xs,Fine x.v x.k):
  Calls Tryz.prog 13 #[.agg #[.int .u64 s,y]] W fun e w'=>Below W.heap.size W w'/\e=.returned (.string (words.cx (headB s.toNat xs.length++xs.flatMap lineX))):=by
 obtain ⟨n,rfl⟩:=XL hs.1;have ZC:n<18446744073709551616:=by omega
 have hdl:=dec_len ZC;rcases h with ⟨rfl,rfl⟩ | ⟨YI,w0,g,c,rest,rfl,_,ZT,hh,hsz2⟩
 ·refine bX (E:=Eo) (args:=[.agg [.v (.int .u64 n),.v (.slice none 0 0)]]) (a:=[.agg #[.int .u64 n,.slice none 0 0]]) rfl rfl (Q0 aE (dh.refl (fun b hb=>by obtain ⟨i,o,c,h1,h2⟩:=hb;simp at h1) fun _ h=>h)) (by kernel_rfl) (au.cons (VR.bx.2 ⟨_,rfl,au.cons (VR.ae.2 rfl) (au.cons (VR.ae.2 rfl) au.nil)⟩) au.nil) (n:=400) (o:=VP) ⟨?_⟩;rw [SR];have hitl:=Lib.itoa_length_le ((0:Nat):Int) (by omega) (by omega);have he:=head_eq n 0;simp only [ah,V5,bB,bU,tr.bS,tr.bN,tr.bI,mkS_app,mkS_size,he,Yd,W4,VV,VX,VW];simp only [V7,Wm,WL];try (repeat' apply And.intro)
  all_goals first | rfl | trivial | (show (_:Nat)<=_;omega) | omega | skip
 ·have ho:∀ (j:Nat) (o':SO) (b' c':Nat),[SO.look (cE xs)][j]?=some o'->[(g,c)][j]?=some (b',c')->∃ r,W.heap[b']?=some r/\OR (aA [(g,c)]) j o' r:=by
   intro j o' b' c' q1 q2;match j with
   | 0=>
    simp only [Wa,Option.some.injEq] at q1 q2;subst q1;cases q2;refine ⟨_,hh,?_⟩;have:cE xs=aT eC 0 xs:=rfl;rw [this];refine eJ (h:=eV) (fun ν x=>au.lits ν (eV x)) (WX _) fun k v hk=>?_;rw [W9];have hk:(vE xs)[k]?=some v:=hk;show (vE xs++rest).toArray[k]?=some v;rw [X7,WC (WA.1 hk).1];exact hk
   | j+1=>simp at q1
  refine aZ (E:=Eo) rfl (d:=6) (l:=[(g,c)]) (os:=[.look (cE xs)]) rfl (by simp) (by simp) ho rfl (args:=[.agg [.v (.int .u64 n),.sl 0 0 xs.length (some c)]]) (a:=[.agg #[.int .u64 n,.slice (some ⟨g,0,none⟩) xs.length c]]) (S0:=CJ (cE xs) n xs.length c) (by kernel_rfl) (au.cons (VR.bx.2 ⟨_,rfl,au.cons (VR.ae.2 rfl) (au.cons (VR.aL.2 ⟨(g,c),rfl,ZT,rfl⟩) au.nil)⟩) au.nil) fun cs0=>?_;have hM:∀ z,¬ (aD [(g,c)] ([SO.look (cE xs)].map fun o=>(o,false))) z:=fun z=>aY (os:=[SO.look (cE xs)])
  have K:=Q0 (M0:=aD [(g,c)] ([SO.look (cE xs)].map fun o=>(o,false))) (w00:=W) (M:=aD [(g,c)] ([SO.look (cE xs)].map fun o=>(o,false))) (w0:=W) hM (dh.refl (dN (by
   intro j o' m b' c' q1 q2;rw [Wv] at q1;obtain ⟨o2,q3,q4⟩:=Wg.1 q1;cases q4;exact ho j o' b' c' q3 q2)) fun _ h=>h)
  have hν:∀ i b',aA [(g,c)] i=some b'->i=0:=fun i b' h=>dj h;have hhd:=headB_len (s:=n) (n:=xs.length) ZC Y2;have nx:=FD (cs0:=cs0) (L:=xs) (s:=n) (c:=c) (hd:=headB n xs.length) (R:=fun e w'=>Below W.heap.size W w'/\e=.returned (.string (words.cx (headB n xs.length++xs.flatMap lineX)))) K hν Y2 hhd Zb hl hg (fun ν' M3 w3 s' w4 hB3 hr3=>⟨aB hM hB3 hr3,rfl⟩) xs.length 0 (by omega) (by simp);refine af.reach K (k:=2) (n:=300) (o:=VP) (ren:=[(0,0),(1,1),(2,2)]) (eqs:=[0]) ?_ (by kernel_rfl) (fun i b h=>by rw [hν i b h];rfl) nx;show ah (reach Eo 2 300 (CJ (cE xs) n xs.length c) VP [(0,0),(1,1),(2,2)] [0] (EL (words.cx (headB n xs.length++(xs.take 0).flatMap lineX)) 0) 6 (Ex (cE xs) n xs.length c));rw [Ut];have hitl:=Lib.itoa_length_le (xs.length:Int) (by omega) (by omega);have he:=head_eq n xs.length;simp only [ah,V5,bB,bU,tr.bS,tr.bN,tr.bI,mkS_app,mkS_size,he,X8,Yd,W4,aM,VV,VX,VW]
  simp only [V7,Wm,WL];try (repeat' apply And.intro)
  all_goals first | rfl | exact WB _ | (show (_:Nat)<=_;omega) | omega | skip
end br
open tk (lineX lineZ headB bookL bodyK kindL Fine)
theorem Inv.names {cm ys:ak->List Int} {E:List bH} {cl:Nat} {xs:List ak} (h:Inv cm ys E cl xs):(E.map fun e=>e.1.p).Perm (xs.map fun e=>e.p):=by
 have hp:=h.ZP.map (fun k:Key=>k.1);rw [WI,WI] at hp;exact hp
theorem Inv.bA {cm ys:ak->List Int} {E:List bH} {cl:Nat} {xs:List ak} (h:Inv cm ys E cl xs):bA (E.map fun e=>e.1.p)=xs.map fun e=>e.p:=by
 refine jM ?_ h.names.symm;rw [Yk];exact List.Pairwise.imp (fun hab=>Ka hab) h.sorted
theorem Ga {cm ys:ak->List Int} {E:List bH} {cl:Nat} {xs:List ak} (h:Inv cm ys E cl xs) (s:Int) (hl:∀ x∈xs,(ys x).length=x.l):
  bookL s (gN cm (E.map (·.1))) (bA (E.map fun e=>e.1.p))=headB s.toNat xs.length++xs.flatMap lineX:=by
 unfold bookL;rw [h.bA,WH,Ye];refine congrArg _ (tt.flat_congr fun x hx=>?_);have hn:(xs.map fun e=>e.p).Nodup:=(h.names.nodup_iff).1 h.ok.names
 have hz:gN cm (E.map (·.1)) x.p=(x.v,x.k,ys x):=by
  rw [AO h.ZP h.ok.names];unfold gN;rw [qf hn hx]
 unfold lineX lineZ;rw [hz];show bodyK x.p (x.v.toNat / 1048576) (x.v.toNat % 1048576) (kindL x.k) (ys x).length++[10]=_;rw [hl x hx]
theorem Ir {x:ak} (h:cF x.p x.v x.k x.l=0) (h0:0<=x.v) (h1:x.v<18446744073709551616):Fine x.v x.k:=by
 unfold cF at h;cases hu:fK x.p with
 | false=>rw [hu] at h;simp at h
 | true=>
  cases hv:gX x.v with
  | false=>rw [hu,hv] at h;simp at h
  | true=>
   rw [hu,hv] at h;simp only [WG] at h;refine ⟨h0,h1,hv,?_⟩;unfold aS at h;by_cases k1:x.k=1
   ·exact .inr (.inl k1)
   ·rw [if_neg k1] at h;by_cases k2:(x.k=0\/x.k=2)/\x.l=0
    ·rcases k2.1 with k | k
     ·exact .inl k
     ·exact .inr (.inr k)
    ·rw [if_neg k2] at h;simp at h
end paths
open Go Go.Rx Go.RowKit Go.Proofs
namespace paths
namespace tt
theorem Rp (v:Value):ao bn 10 800 (a7 bn 10 [.v (.pointer none)]) VP v=[VS ⟨⟨[]⟩⟩=v]:=by kernel_rfl
theorem Au {W:World}:Calls Tryz.prog 10 #[.pointer none] W fun e w'=>Below W.heap.size W w'/\e=.returned (.string ⟨#[]⟩):=by
 refine bX (E:=bn) (args:=[.v (.pointer none)]) (a:=[.pointer none]) rfl rfl fQ (by kernel_rfl) (au.cons (VR.ae.2 rfl) au.nil) (n:=800) (o:=VP) ⟨?_⟩;rw [Rp];simp only [ah,VV,VX,VW]
end tt
open Go Go.Rx Go.RowKit Go.Proofs
namespace ly
def Pk:List (FuncId × PS):=[(6,fun args=>match args with | []=>some (.bool true,True) | _=>none)]
def EA:Env:=EP Pk []
structure eS where
 a0:Option Addr
 l0:Nat
 c0:Nat
 a1:Option Addr
 l1:Nat
 c1:Nat
 k:Int
def Hc (x:eS):SM:=(a6 EA 3 [.v (.slice x.a0 x.l0 x.c0),.v (.slice x.a1 x.l1 x.c1),.v (.int .u8 x.k)] (jS 12 [])).getD dn
def oL:List (Nat × gM):=ff [1000] true
def Li (b:Nat) (v:Value):Value:=.tuple #[fy b,v,.bool true]
structure mA where
 a:Option Addr
 n:Nat
 c:Nat
def Qd (y:mA):Nat->SV:=fun i=>.tup [.ptr i 0,.agg [.v (.int .u64 0),.v (.slice y.a y.n y.c)],.v (.bool true)]
def Px (m:Option Nat):SO:=.row [.v (.int .u64 0),.v (.map m)] 66 (0,0) none
structure lF where
 b:Nat
 v:Value
def N2 (x:eS) (b:Bool):SM:=dA EA 4 60 (Hc x) oL (.v (.bool b))
def MS (x:eS) (b:Bool):SM:=dA EA 5 60 (N2 x true) oL (.v (.bool b))
def OS (x:eS) (p:lF):SM:=dA EA 7 60 (MS x true) oL (.v (Li p.b p.v))
def Ng (x:eS) (p:lF) (y:mA) (m:Option Nat):SM:=ti EA 8 60 (OS x p) oL (Qd y) (Px m)
def NZ:List SI:=dB EA 2 200 (Ng ⟨none,0,0,none,0,0,0⟩ ⟨0,.int .i64 0⟩ ⟨none,0,0⟩ none) oL
def MP (x:eS) (p:lF) (i:Int):SF:={ fn:=3,tm:=fh 74 7 ([.aH,.aH,.v (.int .u8 x.k),.aH,.aH,.aH,.aH,.v (fy p.b),.v p.v,.aH,.ptr 0 0,.ptr 1 0]++List.replicate 28 .aH++[.v (.int .u8 x.k),.v (.int .u8 i)]++List.replicate 32 .aH),todo:=NZ,defers:=[],ret:=false,kind:=.normal,ro:=none }
def MQ (y:mA) (m:Option Nat) (s:Int):List (Option (SO × Bool)):=[some (.row [.v (.int .u64 s),.v (.map m)] 66 (0,0) none,true),some (.row [.v (.int .u64 0),.v (.slice y.a y.n y.c)] 34 (0,0) none,true)]
def oZ:List (Nat × gM):=ff [0] false++ff ((List.range 40).map (·+1)) true++VP
def oG:List (Nat × gM):=ff (List.range 40) true++VP
def MY (x:eS) (p:lF) (y:mA) (m:Option Nat) (s i:Int):SM:=SM.at (MP x p i) 12 (MQ y m s)
def OT (x:eS) (p:lF) (y:mA) (m:Option Nat) (s i:Int) (u:ByteArray):SM:=dA EA 10 200 (MY x p y m s i) oZ (.v (.string u))
def O1 (x:eS) (p:lF) (y:mA) (m:Option Nat) (s i:Int) (u:ByteArray):SM:=dA EA 11 60 (OT x p y m s i u) oG (.v (.string u))
def OV (x:eS) (p:lF) (y:mA) (m:Option Nat) (s i:Int) (u v:ByteArray):SM:=dA EA 12 60 (O1 x p y m s i u) oG (.v (.string v))
def OW (x:eS) (p:lF) (y:mA) (m:Option Nat) (s i:Int) (u v:ByteArray):SM:=dA EA 13 60 (OV x p y m s i u v) oG (.v (.string v))
def OX (x:eS) (p:lF) (y:mA) (m:Option Nat) (s i:Int) (u v z:ByteArray):SM:=dA EA 12 60 (OW x p y m s i u v) oG (.v (.string z))
def O3 (x:eS) (p:lF) (y:mA) (m:Option Nat) (s i:Int) (u v z:ByteArray):SM:=dA EA 13 60 (OX x p y m s i u v z) oG (.v (.string z))
def QJ (x:eS) (p:lF) (y:mA) (m:Option Nat) (s i:Int) (u v z:ByteArray):SM:=dA EA 10 60 (O3 x p y m s i u v z) oG (.v (.string ⟨#[]⟩))
theorem Rj (x:eS):dS EA 4 60 (Hc x) oL=[]:=by kernel_rfl
theorem RN (x:eS):dS EA 5 60 (N2 x true) oL=[]:=by kernel_rfl
theorem S2 (x:eS):dS EA 7 60 (MS x true) oL=[]:=by kernel_rfl
theorem Sa (x:eS) (p:lF):dS EA 8 60 (OS x p) oL=[]:=by kernel_rfl
theorem TQ (x:eS) (b:Bool):dT EA 4 60 (Hc x) oL (.v (.bool b))=[]:=by kernel_rfl
theorem T7 (x:eS) (b:Bool):dT EA 5 60 (N2 x true) oL (.v (.bool b))=[]:=by kernel_rfl
theorem UC (x:eS) (p:lF):dT EA 7 60 (MS x true) oL (.v (Li p.b p.v))=[]:=by kernel_rfl
theorem R4 (x:eS) (p:lF) (y:mA) (m:Option Nat):Bs EA 8 60 (OS x p) oL (Qd y) (Px m)=[]:=by kernel_rfl
theorem Vq (x:eS):ao EA 3 300 (N2 x false) oL (.bool true)=[VU true=VU true,True]:=by kernel_rfl
theorem Si (x:eS):ao EA 3 300 (MS x false) oL (.bool true)=[VU true=VU true,True]:=by kernel_rfl
theorem Tf (x:eS) (p:lF) (y:mA) (m:Option Nat):reach EA 2 200 (Ng x p y m) oL [(0,0),(1,1)] [] (MP x p 0) 12 (MQ y m 0)=[V1 IntKind.u8 x.7=V1 IntKind.u8 x.7,Value.pointer (some { block:=p.1,off:=0:Addr })=Value.pointer (some { block:=p.1,off:=0:Addr }),p.2=p.2,0=0,0=0,V1 IntKind.u8 x.7=V1 IntKind.u8 x.7,V1 IntKind.u8 0=V1 IntKind.u8 0,V1 IntKind.u64 0=V1 IntKind.u64 0,Value.map m=Value.map m,V1 IntKind.u64 0=V1 IntKind.u64 0,VT y.1 y.2 y.3=VT y.1 y.2 y.3]:=by kernel_rfl
theorem UR (x:eS) (p:lF) (y:mA) (m:Option Nat) (s s' i i':Int):reach EA 2 200 (SM.at (MP x p i) 12 (MQ y m s)) (ff [0] true++ff (List.range 20) false++VP) [(0,0),(1,1)] [] (MP x p i') 12 (MQ y m s')=[V1 IntKind.u8 x.7=V1 IntKind.u8 x.7,Value.pointer (some { block:=p.1,off:=0:Addr })=Value.pointer (some { block:=p.1,off:=0:Addr }),p.2=p.2,0=0,0=0,V1 IntKind.u8 x.7=V1 IntKind.u8 x.7,V1 IntKind.u8 (IntKind.u8.wrap (i+1))=V1 IntKind.u8 i',V1 IntKind.u64 (IntKind.u64.wrap (s+1))=V1 IntKind.u64 s',Value.map m=Value.map m,V1 IntKind.u64 0=V1 IntKind.u64 0,VT y.1 y.2 y.3=VT y.1 y.2 y.3,decide (s≥1099511627776)=false,false=false,decide (i<x.7)=true]:=by kernel_rfl
theorem Qc (x:eS) (p:lF) (y:mA) (m:Option Nat) (s i:Int):dS EA 10 200 (MY x p y m s i) oZ=[decide (i<x.7)=false]:=by kernel_rfl
theorem ld1 (x:eS) (p:lF) (y:mA) (m:Option Nat) (s i:Int) (u:ByteArray):dT EA 10 200 (MY x p y m s i) oZ (.v (.string u))=[decide (i<x.7)=false]:=by kernel_rfl
theorem Ph (x:eS) (p:lF) (y:mA) (m:Option Nat) (s i:Int) (u:ByteArray):dS EA 11 60 (OT x p y m s i u) oG=[]:=by kernel_rfl
theorem RV (x:eS) (p:lF) (y:mA) (m:Option Nat) (s i:Int) (u:ByteArray):dT EA 11 60 (OT x p y m s i u) oG (.v (.string u))=[]:=by kernel_rfl
theorem Pd (x:eS) (p:lF) (y:mA) (m:Option Nat) (s i:Int) (u:ByteArray):dS EA 12 60 (O1 x p y m s i u) oG=[(u.toList==u.toList)=true,(u.toList==u.toList)=true,(u.toList==u.toList)=true]:=by kernel_rfl
theorem Us (x:eS) (p:lF) (y:mA) (m:Option Nat) (s i:Int) (u v:ByteArray):dT EA 12 60 (O1 x p y m s i u) oG (.v (.string v))=[decide (y.1=y.1/\y.2=y.2/\y.3=y.3)=true,(IntKind.u64.wrap x.7==IntKind.u64.wrap x.7)=true,(u.toList==u.toList)=true,(u.toList==u.toList)=true,(u.toList==u.toList)=true,(u.toList==u.toList)=true]:=by kernel_rfl
theorem Pw (x:eS) (p:lF) (y:mA) (m:Option Nat) (s i:Int) (u v:ByteArray):dS EA 13 60 (OV x p y m s i u v) oG=[(u.toList==u.toList)=true]:=by kernel_rfl
theorem S8 (x:eS) (p:lF) (y:mA) (m:Option Nat) (s i:Int) (u v:ByteArray):dT EA 13 60 (OV x p y m s i u v) oG (.v (.string v))=[(u.toList==u.toList)=true]:=by kernel_rfl
theorem QG (x:eS) (p:lF) (y:mA) (m:Option Nat) (s i:Int) (u v:ByteArray):dS EA 12 60 (OW x p y m s i u v) oG=[(v.toList==v.toList)=true,(v.toList==v.toList)=true,(u.toList==u.toList)=true,(u.toList==u.toList)=true]:=by kernel_rfl
theorem Sw (x:eS) (p:lF) (y:mA) (m:Option Nat) (s i:Int) (u v z:ByteArray):dT EA 12 60 (OW x p y m s i u v) oG (.v (.string z))=[(v.toList==v.toList)=true,(v.toList==v.toList)=true,(u.toList==u.toList)=true,(u.toList==u.toList)=true]:=by kernel_rfl
theorem O7 (x:eS) (p:lF) (y:mA) (m:Option Nat) (s i:Int) (u v z:ByteArray):dS EA 13 60 (OX x p y m s i u v z) oG=[(v.toList==v.toList)=true]:=by kernel_rfl
theorem Up (x:eS) (p:lF) (y:mA) (m:Option Nat) (s i:Int) (u v z:ByteArray):dT EA 13 60 (OX x p y m s i u v z) oG (.v (.string z))=[(v.toList==v.toList)=true]:=by kernel_rfl
theorem Sq (x:eS) (p:lF) (y:mA) (m:Option Nat) (s i:Int) (u v z:ByteArray):dS EA 10 60 (O3 x p y m s i u v z) oG=[(z.toList==z.toList)=true,(v.toList==v.toList)=true,(v.toList==v.toList)=true]:=by kernel_rfl
theorem Vs (x:eS) (p:lF) (y:mA) (m:Option Nat) (s i:Int) (u v z:ByteArray):dT EA 10 60 (O3 x p y m s i u v z) oG (.v (.string ⟨#[]⟩))=[(z.toList==z.toList)=true,(v.toList==v.toList)=true,(v.toList==v.toList)=true]:=by kernel_rfl
theorem UY (x:eS) (p:lF) (y:mA) (m:Option Nat) (s i:Int) (u v z:ByteArray):ao EA 3 300 (QJ x p y m s i u v z) oG (.bool true)=[VU true=VU true,true=true,True,true=true,(z.toList==z.toList)=true,(z.toList==z.toList)=true]:=by kernel_rfl
end ly
end paths
end Go.Proofs.YtbjmmnegkpeboaaGreatDoor
