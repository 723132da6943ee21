/- What the law TaleLists leans on, part 6: the symbolic executor, proved sound, contracts of functions, plain lemmas. By an AI agent. -/
import Derived.Test.YtbjmmnegkpeboaaGreatDoorPk5
import Derived.IntWalk
import Derived.Shelf.LaysM
import Derived.Shelf.Strings.OnBuilder
import Derived.Shelf.Strconv.Itoa3
import Derived.Shelf.Strconv.Itoa1
import Derived.Shelf.Strconv.Itoa2
import Derived.Lib.Walk
import Derived.Lib.ItoaMem
import Derived.WalkKit
import Derived.BigCall
import Derived.BigGuard
import Derived.Lib.ItoaLen
set_option linter.unusedSimpArgs false
set_option linter.unusedVariables false
set_option maxRecDepth 100000
set_option maxHeartbeats 0
noncomputable section
namespace Go.Proofs.YtbjmmnegkpeboaaGreatDoor
open Go Go.Rx Go.RowKit Go.Proofs
namespace paths
def FV (z:Int)(xs:List ax):Int:=xs.foldl (fun n e=>IntKind.i64.wrap (n+(e.l:Int))) z
def oa (e:ax):Bool:=!decide ((e.p.size:Int)>200)
def gB (xs:List ax):Bool:=xs.all oa&&(decide ((xs.length:Int)<=200)&&decide (FV 0 xs<=20000))
theorem Ec (z:Int)(xs:List ax)(e:ax):FV z (xs++[e])=IntKind.i64.wrap (FV z xs+(e.l:Int)):=by
 unfold FV;rw[Yn];rfl
section
variable {M:Own}{w0:World}{cs0:List Frame}{R:Ending->World->Prop}{ν:aP}{xs:List ax}{off c:Nat}
theorem Hc (hν:∀ i b,ν i=some b->i=0)(hl:xs.length<=9223372036854775807)(hM:∀ b,¬ M b)(hR:∀ w',Below w0.heap.size w0 w'->R (.returned (.bool (gB xs))) w'):
  ∀ (j k:Nat),k+j=xs.length->(xs.take k).all oa=true->af bn M w0 cs0 4 R ν (SM.at (zv off xs.length c (FV 0 (xs.take k)) (k:Int)) 6 [cv (aT iC off xs)])
 | 0,k,hk,hs=>by
  have hk:k=xs.length:=by omega
  subst hk;rw[XC]at hs ⊢;have f0:decide ((xs.length:Int)<(xs.length:Int))=false:=V2 (by omega);by_cases h:(xs.length:Int)<=200
  ·have h1:=V0 h;refine af.ao fQ (n:=100) (o:=(ff [1,2,3,4] true++ff [0] false++VP)) (v:=.bool (gB xs)) ?_ fun ν' M1 w1 s' w' _ hB hr=>hR _ (aB hM hB hr);rw[Vm (z':=0) (i':=0) (x:=⟨⟨#[]⟩,0,none,0,0⟩)];simp only[ah,f0,h1,VV,VX,VW];unfold gB;rw[hs,h1];simp
  ·have h1:=V2 h;refine af.ao fQ (n:=100) (o:=(ff [0,1,2,3,4] false++VP)) (v:=.bool (gB xs)) ?_ fun ν' M1 w1 s' w' _ hB hr=>hR _ (aB hM hB hr);rw[T0 (z':=0) (i':=0) (x:=⟨⟨#[]⟩,0,none,0,0⟩)];simp only[ah,f0,h1,VV,VX,VW];unfold gB;rw[hs,h1];simp
 | j+1,k,hk,hs=>by
  have hi:k<xs.length:=by omega
  have nx:=Hc hν hl hM hR j (k+1) (by omega);generalize hx:xs[k]=x;have hxk:xs[k]?=some x:=by rw[<- hx];exact V4 hi
  have t1:decide ((k:Int)<(xs.length:Int))=true:=V0 (by omega);have r1:=aJ hi;have ws:IntKind.i64.wrap ((k:Int)+1)=((k+1:Nat):Int):=by rw[wi (by omega)];omega
  have ra:=gG (off:=off) cC hxk;have YJ:(aT iC off xs).all ab=true:=ca bp;rw[Wp hi,Ec,WL,hs,hx]at nx;by_cases h:(x.p.size:Int)>200
  ·have h1:decide ((x.1.size:Int)>200)=true:=V0 h
   have hf:gB xs=false:=by
    unfold gB
    have:xs.all oa=false:=by
     rw[<- Bool.not_eq_true,Wn];intro ha;have:=ha x (Xi hxk);unfold oa at this;rw[show decide ((x.p.size:Int)>200)=true from h1]at this;exact absurd this (by decide)
    rw[this];rfl
   refine af.ao fQ (n:=100) (o:=([(2,.cells (iC x))]++ff [0,3] true++ff [1,4] false++VP)) (v:=.bool (gB xs)) ?_ fun ν' M1 w1 s' w' _ hB hr=>hR _ (aB hM hB hr);rw[UJ (z':=0) (i':=0)];simp only[ah,V5,t1,r1,ra,cC,h1,hf,VV,VX,VW]
  ·have h1:decide ((x.1.size:Int)>200)=false:=V2 h;have h2:oa x=true:=by unfold oa;rw[show decide ((x.p.size:Int)>200)=false from h1];rfl
   have nx:=nx (by simp[h2]);refine af.reach fQ (k:=2) (n:=100) (o:=([(2,.cells (iC x))]++ff [0] true++ff [1,3,4,5,6,7,8,9,10] false++VP)) (ren:=[(0,0)]) (eqs:=[0]) ?_ (by kernel_rfl) (fun i b h=>by rw[hν i b h];rfl) nx;rw[Uo (v:=.int .i64 0)];simp only[ah,V5,t1,r1,ws,ra,YJ,cC,h1,VV,VX,VW];try (repeat' apply And.intro)
   all_goals first|rfl|exact ws.symm|exact ws|skip
end
theorem xi {W:World}{a:Option Addr}{l c:Nat}{D:List ax}(h:qY W a l c D)(hl:l<=9223372036854775807):Calls Tryz.prog 4 #[.slice a l c] W fun e w'=>Below W.heap.size W w'/\e=.returned (.bool (gB D)):=by
 rcases h with ⟨rfl,rfl⟩|⟨b,off,cs,e,fz,rfl,rfl,ZF,hh,Y4,hc⟩
 ·refine bW (E:=bn) (args:=[.v (.slice a 0 c)]) (a:=[.slice a 0 c]) (n:=100) (o:=(ff [1,2,3] true++ff [0,4] false++VP)) rfl rfl fQ (by kernel_rfl) (au.cons (VR.ae.2 rfl) au.nil) ⟨?_⟩;rw[Q5];simp only[ah,VV,VX,VW];rfl
 ·refine (aW (E:=bn) (R:=fun e w'=>Below W.heap.size W w'/\e=.returned (.bool (gB D))) rfl (d:=6) (l:=[(b,0)]) (os:=[.look (aT iC off D)]) rfl (by simp) (by simp) ?_ rfl (args:=[.sl 0 off D.length (some c)]) (a:=[.slice (some ⟨b,off,none⟩) D.length c]) (S0:=HP (aT iC off D) off D.length c) (by kernel_rfl) (au.cons (VR.aL.2 ⟨(b,0),rfl,ZF,rfl⟩) au.nil) fun cs0=>?_)
  ·intro j o' b' c' h1 h2;match j with
   | 0=>
    simp only[Wa,Option.some.injEq]at h1 h2;subst h1;cases h2;exact⟨_,hh,eJ (h:=iV) (fun ν x=>au.lits ν (iV x)) Y4 hc⟩
   | j+1=>simp at h1
  ·have hM:∀ z,¬ (aD [(b,0)] ([SO.look (aT iC off D)].map fun o=>(o,false))) z:=fun z=>aZ;have hν:∀ i c,aA [(b,0)] i=some c->i=0:=fun i c h=>dj h;have YJ:(aT iC off D).all ab=true:=ca bp;have nx:=Hc (w0:=W) (cs0:=cs0) (R:=fun e w'=>Below W.heap.size W w'/\e=.returned (.bool (gB D))) (c:=c) (off:=off) hν (by omega) hM (fun w' hB=>⟨hB,rfl⟩) D.length 0 (by omega) rfl;refine af.reach fQ (k:=2) (n:=60) (o:=(ff [0,1,2,3,4,5,6] false++VP)) (ren:=[(0,0)]) (eqs:=[0]) (F:=zv off D.length c 0 0) (d:=6) (l:=[cv (aT iC off D)]) ?_ (by kernel_rfl) (fun i b h=>by rw[hν i b h];rfl) nx;rw[Tt (x:=⟨⟨#[]⟩,0,none,0,0⟩) (z:=0) (i:=0) (z':=0) (i':=0) (v:=.int .i64 0)];simp only[ah,YJ,VV,VX,VW]
theorem Hr {W:World}{D:List ax}(hm:MX W)(h:∀ x∈D,xb W x)(hl:gB D=true):zw D/\uP D (My W) W:=by
 unfold gB at hl;rw[V6,V6,XI,XI,Wn]at hl;obtain⟨h1,h2,_⟩:=hl;refine⟨⟨fun x hx=>?_,fun x hx=>(h x hx).nil,by omega⟩,Lr hm h⟩;have:=h1 x hx;unfold oa at this;simp only[XV,decide_eq_false_iff_not]at this;omega
def zq (p:ByteArray):SM:=(a6 bn 64 [.ptr 0 0,.v (.string p)] (bG 6 1 0 [cv []])).getD dn
def Gc (p:ByteArray)(x:SV):SM:=dB bn 85 100 (zq p) (ff [1000] true) x
def Oy (p:ByteArray)(x y:SV):SM:=dB bn 53 100 (Gc p x) (ff [1000] true) y
theorem Vb (p:ByteArray):dT bn 85 100 (zq p) (ff [1000] true)=[]:=by kernel_rfl
theorem Vc (p:ByteArray)(k:Int)(a:Option Addr)(l c:Nat):dS bn 85 100 (zq p) (ff [1000] true) (kJ k a l c)=[]:=by kernel_rfl
theorem UO (p:ByteArray)(k:Int)(a:Option Addr)(l c:Nat):dT bn 53 100 (Gc p (kJ k a l c)) (ff [1000] true)=[]:=by kernel_rfl
theorem Vo (p:ByteArray)(k k':Int)(a a':Option Addr)(l c l' c':Nat):dS bn 53 100 (Gc p (kJ k a l c)) (ff [1000] true) (kJ k' a' l' c')=[]:=by kernel_rfl
theorem Vf (p:ByteArray)(k k':Int)(a a':Option Addr)(l c l' c':Nat)(v:Value):ao bn 64 100 (Oy p (kJ k a l c) (kJ k' a' l' c')) (ff [1000] true) v=[Value.agg { toList:=[vZ k',VT a' l' c']:Array Value }=v]:=by kernel_rfl
def Pn (H:Hp)(w:World)(z:Int × List Int)(e:Ending)(w':World):Prop:=Below w.heap.size w w'/\∃ k a l c zs,e=.returned (.agg #[.int .i64 k,.slice a l c])/\j4 (H.grow w w') a l zs/\(k,zs)=z/\(l<=c\/l=0)
theorem B1 {w w':World}{x:ax}{ys:List Int}{a:Option Addr}{c l:Nat}(h:tH w w' x ys a c l):l<=c\/l=0:=by
 rcases h with ⟨_,_,h3,_⟩|⟨_,h2,g,h3,g',cc,rest,hy,_,υ,_⟩
 ·exact .inr h3
 ·injection hy with _ _ e3;left;rw[h2,e3];exact υ
theorem AT {H:Hp}{w w':World}{x:ax}{ys:List Int}{a:Option Addr}{c l:Nat}(hD:uw w x.a x.l ys)(h:tH w w' x ys a c l):j4 (H.grow w w') a l ys:=by
 rcases h with ⟨h1,h2,h3,h4⟩|⟨h1,h2,g,h3,h4⟩
 ·subst h2 h3;have:ys=[]:=Wd.1 (by rw[hD.1.1];exact hD.2 h1);rw[this];exact fun _ _=>pZ
 ·subst h2 h3;exact (vt (x:=⟨⟨#[]⟩,0,x.k,x.a,x.l,x.c⟩) hD rfl h4).JN
def EW:Hp:=fun _=>none
theorem rO {H Hx:Hp}{W w2 w3 w4:World}(hs:W.heap.size<=w2.heap.size)(hn:(Hx.grow w2 w3).Sub w4.hp):(EW.grow w2 w3).Sub (H.grow W w4):=fun k o hk=>by
 unfold Hp.grow EW at hk
 split at hk
 ·cases hk
 ·rename_i YD
  unfold Hp.grow
  rw[if_neg (by omega)]
  exact hn k o (by unfold Hp.grow;rw[if_neg YD];exact hk)
theorem An {W:World}{b:Nat}{z:ByteArray->Int × List Int}{cs:Array Value}{e1:TypeId}{f1:Nat × Nat}(hb:W.heap[b]?=some (.cells cs e1 f1))(h:yu W.hp b z)(p:ByteArray)(H:Hp):
  Calls Tryz.prog 64 #[fA b,.string p] W (Pn H W (z p)):=by
 have ho:∀ (j:Nat) (o':SO) (b' c':Nat),[SO.look []][j]?=some o'->[(b,0)][j]?=some (b',c')->∃ r,W.heap[b']?=some r/\OR (aA [(b,0)]) j o' r:=by
  intro j o' b' c' q1 q2;match j with
  | 0=>
   simp only[Wa,Option.some.injEq]at q1 q2;subst q1;cases q2;exact⟨_,hb,[],_,_,_,rfl,au.nil,fun k y h=>by simp at h⟩
  | j+1=>simp at q1
 refine aW (E:=bn) rfl (d:=6) (l:=[(b,0)]) (os:=[.look []]) rfl (by simp) (by simp) ho rfl (args:=[.ptr 0 0,.v (.string p)]) (a:=[fA b,.string p]) (S0:=zq p) (by kernel_rfl) (au.cons (VR.aF.2 ⟨(b,0),rfl,rfl⟩) (au.cons (VR.ae.2 rfl) au.nil)) fun cs0=>?_;have hM:∀ z,¬ (aD [(b,0)] ([SO.look []].map fun o=>(o,false))) z:=fun z=>aZ (os:=[SO.look []])
 have ZS:=Kept.start (H0:=W.hp) (M:=aD [(b,0)] ([SO.look []].map fun o=>(o,false))) (w:=W) (Hp.Sub.refl _) (fun z o _=>hM z) (dN (by
  intro j o' m b' c' q1 q2;rw[Wv]at q1;obtain⟨o2,q3,q4⟩:=Wg.1 q1;cases q4;exact ho j o' b' c' q3 q2)) (fun _ h=>h)
 refine af.gI fQ ZS (n:=100) (g:=85) (o:=ff [1000] true) (args:=[.ptr 0 0,.v (.string p)]) (by rw[Vb];trivial) (by kernel_rfl) fun ν' w a hle Yv χ ha=>?_;obtain⟨y1,ZK,rfl,q1,YH⟩:=ha.cons_inv;obtain⟨y2,as2,rfl,q2,Zx⟩:=YH.cons_inv;obtain rfl:=Zx.ay;obtain rfl:=VR.ae.1 q2;obtain⟨bb,YZ,rfl⟩:=VR.aF.1 q1;have YZ:=YZ.symm.trans (hle 0 (b,0) rfl);cases YZ;refine (h w Yv p).mono fun e w' ⟨hB,k,a,l,c,zs,he,hd,hz⟩=>⟨hB,.agg #[.int .i64 k,.slice a l c],he,fun M2 Zq=>⟨by show ah (dS bn 85 100 (zq p) (ff [1000] true) (kJ k a l c));rw[Vc];trivial,?_⟩⟩;show af bn M2 w' cs0 _ _ _ (Gc p (kJ k a l c));refine af.gI fQ Zq (n:=100) (g:=53) (o:=ff [1000] true) (args:=[kJ k a l c]) (by rw[UO];trivial) (by kernel_rfl) fun ν2 w2 a2 ZR hsub2 hgr2 YH=>?_;obtain⟨y1,ZK,rfl,q1,YH⟩:=YH.cons_inv;obtain rfl:=YH.ay;obtain rfl:=VR.ae.1 q1;have hs2:W.hp.Sub w2.hp:=(Hp.fi Yv).trans hsub2;have hD:=hd w2 hs2
 refine (kV (x:=⟨⟨#[]⟩,k,a,l,c⟩) hD.1).mono fun e w3 ⟨hB3,a',c',l',he3,YJ⟩=>⟨hB3,.agg #[.int .i64 k,.slice a' l' c'],he3,fun M3 hK3=>⟨by show ah (dS bn 53 100 (Gc p (kJ k a l c)) (ff [1000] true) (kJ k a' l' c'));rw[Vo];trivial,?_⟩⟩;show af bn M3 w3 cs0 _ _ _ (Oy p (kJ k a l c) (kJ k a' l' c'));refine af.ao fQ (n:=100) (o:=ff [1000] true) (v:=.agg #[.int .i64 k,.slice a' l' c']) (by rw[Vf];simp[ah]) fun ν' M1 w4 s' w5 _ Zh hr=>⟨aB hM (hK3.base.trans Zh) hr,k,a',l',c',zs,rfl,?_,hz,B1 YJ⟩;have hcd:=AT (H:=EW) (x:=⟨⟨#[]⟩,k,a,l,c⟩) hD YJ;exact hcd.mono (rO (oO (Hp.Sub.refl _) hs2) (hK3.now Zh hr))
end paths
open Go Go.Rx Go.RowKit
namespace words
def dn:SM:={ top:={ fn:=0,tm:=e9 0 0 [],todo:=[],defers:=[],ret:=false,kind:=.normal,ro:=none },callers:=[],mem:=bG 0 0 0 [] }
def a7 (E:Env)(f:FuncId)(args:List SV):SM:=(a6 E f args (bG 6 0 0 [])).getD dn
structure mX (l:List Prop):Prop where
 out:ah l
theorem eE {E:Env}{P:Program}(hP:E.P=P)(hG:E.G=[]){f:FuncId}{args:List SV}{a:List Value}{S0:SM}{Q:Value->Prop}(w:World)(ZZ:a6 E f args (bG 6 0 0 [])=some S0)(ha:au (aA []) args a)
  (hs:∀ cs0,af E (aD [] []) w cs0 f (fun e w'=>Below w.heap.size w w'/\∃ v,e=.returned v/\Q v) (aA []) S0):Calls P f a.toArray w fun e w'=>Below w.heap.size w w'/\∃ v,e=.returned v/\Q v:=
 ng (E:=E) hP (d:=6) (l:=[]) (os:=[]) rfl (by simp) (by simp) (fun i o b c h=>by simp at h) hG ZZ ha hs
theorem aE (b:Nat):¬ (aD [] []) b:=by rintro ⟨i,o,c,h,_⟩;simp at h
theorem dU {i:Nat}{b:Nat × Nat}(h:aA [] i=some b){p:Prop}:p:=by simp[aA]at h
def fg (n:Nat):Bool:=(Nat.ble 97 n&&Nat.ble n 122)||(Nat.ble 48 n&&Nat.ble n 57)||Nat.beq n 46||Nat.beq n 47||Nat.beq n 45||Nat.beq n 126
def gK:ByteArray:=⟨#[48,49,50,51,52,53,54,55,56,57,97,98,99,100,101,102]⟩
def E0:Env:=EP [] []
theorem K0 {M:Own}{w0:World}:aK E0 M w0:=fM fun r h=>by cases h
theorem Ei:(List.range 256).all (fun n=>nX E0 68 200 (a7 E0 68 [.v (.int .u8 (Int.ofNat n))]) (fg n))=true:=by kernel_rfl
theorem Bp:(List.range 256).all (fun n=>nX E0 42 200 (a7 E0 42 [.v (.int .u8 (Int.ofNat n))]) (fg n))=true:=by kernel_rfl
def mK:PS:=fun args=>match args with|[.int .u8 c]=>some (.bool (fg c.toNat),0<=c/\c<256)|_=>none
theorem FC:bX Tryz.prog (fun _=>True) (68,mK):=by
 refine⟨⟨_,Tryz.func68,by kernel_rfl,by kernel_rfl⟩,fun args v p h hp w hX=>?_⟩;dsimp only[mK]at h;split at h
 ·rename_i c;cases h;have ht:=Wn.1 Ei c.toNat (Xd.2 (by omega));have hc:Int.ofNat c.toNat=c:=Int.toNat_of_nonneg hp.1;rw[hc]at ht;refine (eE (E:=E0) rfl rfl (Q:=fun v=>v=.bool (fg c.toNat)) (args:=[.v (.int .u8 c)]) (a:=[.int .u8 c]) w (S0:=a7 E0 68 [.v (.int .u8 c)]) (by kernel_rfl) (au.cons (VR.ae.2 rfl) au.nil) fun cs0=>?_).mono fun e w' ⟨h1,u,h2,h3⟩=>⟨h1,by rw[h2,h3]⟩;refine af.nX K0 (n:=200) (b:=fg c.toNat) ?_ ?_
  ·with_reducible exact ht
  ·intro ν' M1 w1 s' w' _ hB hr;exact⟨aB aE hB hr,_,rfl,rfl⟩
 ·cases h
theorem DX:bX Tryz.prog (fun _=>True) (42,mK):=by
 refine⟨⟨_,Tryz.func42,by kernel_rfl,by kernel_rfl⟩,fun args v p h hp w hX=>?_⟩;dsimp only[mK]at h;split at h
 ·rename_i c;cases h;have ht:=Wn.1 Bp c.toNat (Xd.2 (by omega));have hc:Int.ofNat c.toNat=c:=Int.toNat_of_nonneg hp.1;rw[hc]at ht;refine (eE (E:=E0) rfl rfl (Q:=fun v=>v=.bool (fg c.toNat)) (args:=[.v (.int .u8 c)]) (a:=[.int .u8 c]) w (S0:=a7 E0 42 [.v (.int .u8 c)]) (by kernel_rfl) (au.cons (VR.ae.2 rfl) au.nil) fun cs0=>?_).mono fun e w' ⟨h1,u,h2,h3⟩=>⟨h1,by rw[h2,h3]⟩;refine af.nX K0 (n:=200) (b:=fg c.toNat) ?_ ?_
  ·with_reducible exact ht
  ·intro ν' M1 w1 s' w' _ hB hr;exact⟨aB aE hB hr,_,rfl,rfl⟩
 ·cases h
theorem hx (n:Int)(s:ByteArray):ao E0 29 100 (a7 E0 29 [.v (.int .i64 n)]) VP (.string s)=[VS ((⟨⟨[48,49,50,51,52,53,54,55,56,57,97,98,99,100,101,102]⟩⟩:ByteArray).extract n.toNat (IntKind.i64.wrap (n+1)).toNat)=VS s,decide (0<=n/\n<=(↑(IntKind.i64.wrap (n+1)).toNat:Int))=true,decide (0<=IntKind.i64.wrap (n+1)/\IntKind.i64.wrap (n+1)<=(↑(16:Nat):Int))=true]:=by kernel_rfl
def yq:PS:=fun args=>match args with|[.int .i64 n]=>some (.string (gK.extract n.toNat (n.toNat+1)),0<=n/\n<16)|_=>none
theorem Af:bX Tryz.prog (fun _=>True) (29,yq):=by
 refine⟨⟨_,Tryz.func29,by kernel_rfl,by kernel_rfl⟩,fun args v p h hp w hX=>?_⟩;dsimp only[yq]at h;split at h
 ·rename_i n;cases h;refine (eE (E:=E0) rfl rfl (Q:=fun v=>v=.string (gK.extract n.toNat (n.toNat+1))) (args:=[.v (.int .i64 n)]) (a:=[.int .i64 n]) w (S0:=a7 E0 29 [.v (.int .i64 n)]) (by kernel_rfl) (au.cons (VR.ae.2 rfl) au.nil) fun cs0=>?_).mono fun e w' ⟨h1,u,h2,h3⟩=>⟨h1,by rw[h2,h3]⟩;refine af.ao K0 (n:=100) (o:=VP) (v:=.string (gK.extract n.toNat (n.toNat+1))) ?_ ?_
  ·rw[hx];obtain⟨h0,h1⟩:=hp;have hw:IntKind.i64.wrap (n+1)=n+1:=Xx _ (by omega);have ht:(n+1).toNat=n.toNat+1:=by omega
   simp[ah,hw,ht,gK];omega
  ·intro ν' M1 w1 s' w' _ hB hr;exact⟨aB aE hB hr,_,rfl,rfl⟩
 ·cases h
def fo (n:Nat):UInt8:=gK.data.getD n 0
def iW (c:UInt8):List UInt8:=if fg c.toNat=true then [c] else [92,fo (c.toNat / 16),fo (c.toNat % 16)]
def pathL (l:List UInt8):List UInt8:=l.flatMap iW
def cx (l:List UInt8):ByteArray:=⟨l.toArray⟩
theorem mkS_app (a b:List UInt8):cx a++cx b=cx (a++b):=by
 apply ByteArray.ext;simp[cx]
theorem mkS_size (l:List UInt8):(cx l).size=l.length:=rfl
theorem Hd (b:ByteArray):cx b.data.toList=b:=by cases b;simp[cx]
theorem B5 (l:List UInt8)(k:Nat):(cx l).data.getD k 0=l.getD k 0:=by
 simp[cx]
theorem yY (l:List UInt8)(k:Nat)(h:k<l.length):(cx l).extract k (k+1)=cx [l[k]]:=by
 apply ByteArray.ext;have e:(l.drop k).take 1=[l[k]]:=by rw[WQ h];rfl
 simp only[cx,ByteArray.data_extract,List.extract_toArray,List.extract_eq_take_drop];rw[show k+1 - k=1 by omega,e]
theorem su (l:List UInt8)(c:UInt8):pathL (l++[c])=pathL l++iW c:=by simp[pathL]
def E1:Env:=EP [(68,mK),(29,yq)] []
theorem K1 {M:Own}{w0:World}:aK E1 M w0:=fM fun r h=>by
 simp only[V8,Ww,Xc]at h
 rcases h with rfl|rfl
 ·exact FC
 ·exact Af
def G8:List SI:=dA E1 2 60 (a7 E1 27 [.v (.string ⟨#[]⟩)]) []
def vH (p s:ByteArray)(i:Int):SF:={ fn:=27,tm:=e9 39 6 ([.v (.string p),.aH,.aH,.v (.string s),.v (.int .i64 i)]++List.replicate 34 .aH),todo:=G8,defers:=[],ret:=false,kind:=.normal,ro:=none }
theorem b0 (p:ByteArray):reach E1 2 60 (a7 E1 27 [.v (.string p)]) VP [] [] (vH p ⟨#[]⟩ 0) 6 []=[VS p=VS p,VS ⟨⟨[]⟩⟩=VS ⟨⟨[]⟩⟩,vZ 0=vZ 0]:=by kernel_rfl
theorem b1 (p s s':ByteArray)(i i':Int):reach E1 2 60 (SM.at (vH p s i) 6 []) [(0,.b true),(3,.b true)] [] [] (vH p s' i') 6 []=[VS p=VS p,VS (s++p.extract i.toNat (IntKind.i64.wrap (i+1)).toNat)=VS s',vZ (IntKind.i64.wrap (i+1))=vZ i',(s.size+(p.extract i.toNat (IntKind.i64.wrap (i+1)).toNat).size).le 9223372036854775807,decide (0<=i/\i<=(↑(IntKind.i64.wrap (i+1)).toNat:Int))=true,decide (0<=IntKind.i64.wrap (i+1)/\IntKind.i64.wrap (i+1)<=(↑p.size:Int))=true,fg (↑(p.data.getD i.toNat (0:UInt8)).toNat:Int).toNat=true,0<=(↑(p.data.getD i.toNat (0:UInt8)).toNat:Int)/\(↑(p.data.getD i.toNat (0:UInt8)).toNat:Int)<256,ai i p.size=true,decide (i<(↑p.size:Int))=true]:=by kernel_rfl
theorem b2 (p s s':ByteArray)(i i':Int):reach E1 2 60 (SM.at (vH p s i) 6 []) [(0,.b true),(3,.b false)] [] [] (vH p s' i') 6 []=[VS p=VS p,VS (s++(⟨⟨[92]⟩⟩:ByteArray)++gK.extract (IntKind.i64.wrap ((IntKind.i64.wrap (↑(p.data.getD i.toNat (0:UInt8)).toNat:Int)).tdiv 16)).toNat ((IntKind.i64.wrap ((IntKind.i64.wrap (↑(p.data.getD i.toNat (0:UInt8)).toNat:Int)).tdiv 16)).toNat+1)++gK.extract ((IntKind.i64.wrap (↑(p.data.getD i.toNat (0:UInt8)).toNat:Int)).tmod 16).toNat (((IntKind.i64.wrap (↑(p.data.getD i.toNat (0:UInt8)).toNat:Int)).tmod 16).toNat+1))=VS s',vZ (IntKind.i64.wrap (i+1))=vZ i',((s++(⟨⟨[92]⟩⟩:ByteArray)++gK.extract (IntKind.i64.wrap ((IntKind.i64.wrap (↑(p.data.getD i.toNat (0:UInt8)).toNat:Int)).tdiv 16)).toNat ((IntKind.i64.wrap ((IntKind.i64.wrap (↑(p.data.getD i.toNat (0:UInt8)).toNat:Int)).tdiv 16)).toNat+1)).size+(gK.extract ((IntKind.i64.wrap (↑(p.data.getD i.toNat (0:UInt8)).toNat:Int)).tmod 16).toNat (((IntKind.i64.wrap (↑(p.data.getD i.toNat (0:UInt8)).toNat:Int)).tmod 16).toNat+1)).size).le 9223372036854775807,0<=(IntKind.i64.wrap (↑(p.data.getD i.toNat (0:UInt8)).toNat:Int)).tmod 16/\(IntKind.i64.wrap (↑(p.data.getD i.toNat (0:UInt8)).toNat:Int)).tmod (16:Int)<16,((s++(⟨⟨[92]⟩⟩:ByteArray)).size+(gK.extract (IntKind.i64.wrap ((IntKind.i64.wrap (↑(p.data.getD i.toNat (0:UInt8)).toNat:Int)).tdiv 16)).toNat ((IntKind.i64.wrap ((IntKind.i64.wrap (↑(p.data.getD i.toNat (0:UInt8)).toNat:Int)).tdiv 16)).toNat+1)).size).le 9223372036854775807,(IntKind.i64.wrap (↑(p.data.getD i.toNat (0:UInt8)).toNat:Int)==IntKind.i64.wrap (↑(p.data.getD i.toNat (0:UInt8)).toNat:Int))=true,0<=IntKind.i64.wrap ((IntKind.i64.wrap (↑(p.data.getD i.toNat (0:UInt8)).toNat:Int)).tdiv 16)/\IntKind.i64.wrap ((IntKind.i64.wrap (↑(p.data.getD i.toNat (0:UInt8)).toNat:Int)).tdiv 16)<16,ai i p.size=true,ai i p.size=true,(s.size+1).le 9223372036854775807,fg (↑(p.data.getD i.toNat (0:UInt8)).toNat:Int).toNat=false,0<=(↑(p.data.getD i.toNat (0:UInt8)).toNat:Int)/\(↑(p.data.getD i.toNat (0:UInt8)).toNat:Int)<256,ai i p.size=true,decide (i<(↑p.size:Int))=true]:=by kernel_rfl
theorem b3 (p s s':ByteArray)(i:Int):ao E1 27 60 (SM.at (vH p s i) 6 []) [(0,.b false)] (.string s')=[VS s=VS s',decide (i<(↑p.size:Int))=false]:=by kernel_rfl
theorem zd:∀ n,n<16->gK.extract n (n+1)=cx [fo n]:=by decide
theorem GS (c:UInt8):1<=(iW c).length/\(iW c).length<=3:=by
 unfold iW;split<;>simp
theorem ia (l:List UInt8):(pathL l).length<=3*l.length:=by
 induction l with
 | nil=>simp[pathL]
 | cons c l ih=>
  have:=(GS c).2;simp only[pathL,XL,V7,Wm]at *;omega
theorem zc {n:Nat}(h:n<9223372036854775807):IntKind.i64.wrap (n:Int)=(n:Int):=Xx _ (by omega)
theorem aU {k:Nat}(h:k<9223372036854775806):IntKind.i64.wrap ((k:Int)+1)=((k+1:Nat):Int):=by rw[Xx _ (by omega)];omega
theorem Lo (n:Nat):((n:Int)).tdiv 16=((n / 16:Nat):Int):=rfl
theorem LK (n:Nat):((n:Int)).tmod 16=((n % 16:Nat):Int):=rfl
theorem aJ {k n:Nat}(h:k<n):ai (k:Int) n=true:=by unfold ai;exact V0 (by omega)
section
variable {M:Own}{w0:World}{cs0:List Frame}{R:Ending->World->Prop}{ν:aP}{l:List UInt8}
theorem pb (hν:∀ i b,ν i=some b->False)(hl:l.length<=1000000000)(hR:∀ w',Below w0.heap.size w0 w'->R (.returned (.string (cx (pathL l)))) w')(hM:∀ b,¬ M b):
  ∀ (j k:Nat),k+j=l.length->af E1 M w0 cs0 27 R ν (SM.at (vH (cx l) (cx (pathL (l.take k))) k) 6 [])
 | 0,k,hk=>by
  have hk:k=l.length:=by omega
  subst hk;rw[XC];refine af.ao K1 (n:=60) (o:=[(0,.b false)]) (v:=.string (cx (pathL l))) ?_ ?_
  ·rw[b3];simp[ah,mkS_size]
  ·intro ν' M1 w1 s' w' _ hB hr;exact hR _ (aB hM hB hr)
 | j+1,k,hk=>by
  have YD:k<l.length:=by omega
  have ht:pathL (l.take (k+1))=pathL (l.take k)++iW l[k]:=by rw[Wp YD,su]
  have hlen:(pathL (l.take k)).length<=3000000000:=by
   have:=ia (l.take k);have h2:(l.take k).length<=k:=List.length_take_le _ _;omega
  have hx:(cx l).data.getD k 0=l[k]:=by rw[B5];simp[YD]
  have h256:l[k].toNat<256:=UInt8.toNat_lt _;have hws:=aU (k:=k) (by omega);have hwc:IntKind.i64.wrap (l[k].toNat:Int)=(l[k].toNat:Int):=zc (by omega);by_cases hp:fg l[k].toNat=true
  ·refine af.reach K1 (k:=2) (n:=60) (o:=[(0,.b true),(3,.b true)]) (ren:=[]) (eqs:=[]) ?_ (by kernel_rfl) (fun i b h=>(hν i b h).elim) (pb hν hl hR hM j (k+1) (by omega));rw[b1];have he:iW l[k]=[l[k]]:=by unfold iW;rw[if_pos hp]
   simp only[ah,XI,Nat.le_eq];simp only[V5,hws,hx,yY l k YD,mkS_app,ht,he,hp,mkS_size,VW,VX,Wm,WK];refine⟨⟨⟨⟨⟨?_,?_⟩,?_⟩,?_⟩,?_⟩,?_⟩<;>first|omega|exact aJ YD
  ·refine af.reach K1 (k:=2) (n:=60) (o:=[(0,.b true),(3,.b false)]) (ren:=[]) (eqs:=[]) ?_ (by kernel_rfl) (fun i b h=>(hν i b h).elim) (pb hν hl hR hM j (k+1) (by omega));rw[b2];have hpf:fg l[k].toNat=false:=by simpa using hp
   have he:iW l[k]=[92,fo (l[k].toNat / 16),fo (l[k].toNat % 16)]:=by unfold iW;rw[if_neg hp]
   have hd:l[k].toNat / 16<16:=by omega
   have hm:l[k].toNat % 16<16:=by omega
   have hwd:IntKind.i64.wrap ((l[k].toNat / 16:Nat):Int)=((l[k].toNat / 16:Nat):Int):=zc (by omega);have h92:({ data:={ toList:=[(92:UInt8)]:Array UInt8 }:ByteArray })=cx [92]:=rfl;simp only[ah,XI,Nat.le_eq];simp only[V5,hws,hx,hwc,Lo,LK,hwd,zd _ hd,zd _ hm,h92,mkS_app,ht,he,hpf,mkS_size,VW,VX,Wm,WK,V7,Xz,Xs,Xm];repeat' apply And.intro
   all_goals first|omega|exact aJ YD|simp
end
def iS:PS:=fun args=>match args with|[.string p]=>some (.string (cx (pathL p.data.toList)),p.size<=1000000000)|_=>none
theorem xQ:bX Tryz.prog (fun _=>True) (27,iS):=by
 refine⟨⟨_,Tryz.func27,by kernel_rfl,by kernel_rfl⟩,fun args v p h hp w hX=>?_⟩;dsimp only[iS]at h;split at h
 ·rename_i p;cases h;refine (eE (E:=E1) rfl rfl (Q:=fun v=>v=.string (cx (pathL p.data.toList))) (args:=[.v (.string p)]) (a:=[.string p]) w (S0:=a7 E1 27 [.v (.string p)]) (by kernel_rfl) (au.cons (VR.ae.2 rfl) au.nil) fun cs0=>?_).mono fun e w' ⟨h1,u,h2,h3⟩=>⟨h1,by rw[h2,h3]⟩;refine af.reach K1 (k:=2) (n:=60) (o:=VP) (ren:=[]) (eqs:=[]) (F:=vH p ⟨#[]⟩ 0) (d:=6) (l:=[]) ?_ (by kernel_rfl) (fun i b h=>dU h) ?_
  ·rw[b0];simp[ah]
  ·have t:=pb (l:=p.data.toList) (M:=aD [] []) (w0:=w) (cs0:=cs0) (ν:=aA []) (R:=fun e w'=>Below w.heap.size w w'/\∃ v,e=.returned v/\v=.string (cx (pathL p.data.toList))) (fun i b h=>dU h) (by simpa using hp) (fun w' hB=>⟨hB,_,rfl,rfl⟩) aE p.data.toList.length 0 (by omega);rw[Hd]at t;exact t
 ·cases h
def E2:Env:=EP [(42,mK)] []
theorem K2 {M:Own}{w0:World}:aK E2 M w0:=fM fun r h=>by
 simp only[V8,Ww,Xc]at h
 rcases h with rfl
 exact DX
def NC:List SI:=dA E2 2 60 (a7 E2 15 [.v (.string ⟨#[]⟩)]) []
def x9 (p:ByteArray)(n i:Int):SF:={ fn:=15,tm:=e9 29 6 ([.v (.string p),.aH,.v (.string ⟨#[]⟩),.ptr 0 0,.aH,.aH,.aH,.v (.int .i64 n),.v (.int .i64 i)]++List.replicate 20 .aH),todo:=NC,defers:=[],ret:=false,kind:=.normal,ro:=none }
def MP:List (Option (SO × Bool)):=[some (.row [.v (.pointer none),.v (.slice none 0 0)] 87 (0,0) none,true)]
def z7 (n:Nat)(l:List SV):List (Option (SO × Bool)):=[some (.row [.ptr 0 0,.sl 1 0 n none] 87 (0,0) none,true),some (.row l 5 (0,0) (some 1),true)]
theorem c0 (p:ByteArray):reach E2 2 60 (a7 E2 15 [.v (.string p)]) VP [(0,0)] [] (x9 p p.size 0) 6 MP=[VS p=VS p,VS ⟨⟨[]⟩⟩=VS ⟨⟨[]⟩⟩,0=0,vZ (↑p.size:Int)=vZ (↑p.size:Int),vZ 0=vZ 0,Value.pointer none=Value.pointer none,VT none 0 0=VT none 0 0]:=by kernel_rfl
theorem c1 (p:ByteArray)(n i i':Int)(l':List SV):reach E2 2 200 (SM.at (x9 p n i) 6 MP) [(0,.b true),(3,.b true)] [(0,0),(1,2)] [1] (x9 p n i') 6 (z7 1 l')=[VS p=VS p,VS ⟨⟨[]⟩⟩=VS ⟨⟨[]⟩⟩,0=0,vZ n=vZ n,vZ (IntKind.i64.wrap (i+1))=vZ i',0=0,0=0/\1=1/\nZ=none,[]++List.take 1 (List.drop 0 (aQ (List.replicate 1 (List.map SV.v [V1 IntKind.u8 0])).flatten 0 [SV.v (V1 IntKind.u8 (↑(p.data.getD i.toNat (0:UInt8)).toNat:Int))]))=l',l'.all ab=true,fg (↑(p.data.getD i.toNat (0:UInt8)).toNat:Int).toNat=true,0<=(↑(p.data.getD i.toNat (0:UInt8)).toNat:Int)/\(↑(p.data.getD i.toNat (0:UInt8)).toNat:Int)<256,ai i p.size=true,decide (i<n)=true]:=by kernel_rfl
theorem c2 (p:ByteArray)(n i i':Int)(l':List SV):reach E2 2 300 (SM.at (x9 p n i) 6 MP) [(0,.b true),(3,.b false)] [(0,0),(1,6)] [1] (x9 p n i') 6 (z7 3 l')=[VS p=VS p,VS ⟨⟨[]⟩⟩=VS ⟨⟨[]⟩⟩,0=0,vZ n=vZ n,vZ (IntKind.i64.wrap (i+1))=vZ i',0=0,0=0/\3=3/\nZ=none,List.take 2 (List.take 1 ([]++List.take 1 (List.drop 0 (aQ (List.replicate 1 (List.map SV.v [V1 IntKind.u8 0])).flatten 0 [SV.v (V1 IntKind.u8 92)])))++List.take 1 (List.drop 0 (aQ (List.replicate 1 (List.map SV.v [V1 IntKind.u8 0])).flatten 0 [SV.v (V1 IntKind.u8 (↑((⟨⟨[48,49,50,51,52,53,54,55,56,57,97,98,99,100,101,102]⟩⟩:ByteArray).data.getD ((↑(p.data.getD i.toNat (0:UInt8)).toNat:Int).fdiv (2 ^ 4)).toNat (0:UInt8)).toNat:Int))])))++List.take 1 (List.drop 0 (aQ (List.replicate 1 (List.map SV.v [V1 IntKind.u8 0])).flatten 0 [SV.v (V1 IntKind.u8 (↑((⟨⟨[48,49,50,51,52,53,54,55,56,57,97,98,99,100,101,102]⟩⟩:ByteArray).data.getD (IntKind.u8.wrap (↑(BitVec.ofInt 8 (↑(p.data.getD i.toNat (0:UInt8)).toNat:Int) &&& BitVec.ofInt 8 15).toNat:Int)).toNat (0:UInt8)).toNat:Int))]))=l',l'.all ab=true,ai (IntKind.u8.wrap (↑(BitVec.ofInt 8 (↑(p.data.getD i.toNat (0:UInt8)).toNat:Int) &&& BitVec.ofInt 8 15).toNat:Int)) 16=true,ai ((↑(p.data.getD i.toNat (0:UInt8)).toNat:Int).fdiv (2 ^ 4)) 16=true,fg (↑(p.data.getD i.toNat (0:UInt8)).toNat:Int).toNat=false,0<=(↑(p.data.getD i.toNat (0:UInt8)).toNat:Int)/\(↑(p.data.getD i.toNat (0:UInt8)).toNat:Int)<256,ai i p.size=true,decide (i<n)=true]:=by kernel_rfl
theorem c3 (p:ByteArray)(n i i':Int)(m:Nat)(l l' w:List SV):reach E2 2 300 (SM.at (x9 p n i) 6 (z7 m l)) [(0,.b true),(3,.b true),(6,.app l w)] [(0,0),(1,3)] [1] (x9 p n i') 6 (z7 (m+1) l')=[VS p=VS p,VS ⟨⟨[]⟩⟩=VS ⟨⟨[]⟩⟩,0=0,vZ n=vZ n,vZ (IntKind.i64.wrap (i+1))=vZ i',0=0,0=0/\m+1=m+1/\nZ=none,l++w=l',l'.all ab=true,((List.take 1 (List.drop 0 (aQ (List.replicate 1 (List.map SV.v [V1 IntKind.u8 0])).flatten 0 [SV.v (V1 IntKind.u8 (↑(p.data.getD i.toNat (0:UInt8)).toNat:Int))]))=w/\w.length=1*1)/\1≠0/\(2*(m+1)+1024)*1<=140737488355328)/\List.take (m*1) l=l/\l.length=m*1/\w.all SV.flat=true,fg (↑(p.data.getD i.toNat (0:UInt8)).toNat:Int).toNat=true,0<=(↑(p.data.getD i.toNat (0:UInt8)).toNat:Int)/\(↑(p.data.getD i.toNat (0:UInt8)).toNat:Int)<256,ai i p.size=true,decide (i<n)=true]:=by kernel_rfl
theorem c4 (p:ByteArray)(n i i':Int)(m:Nat)(l l' w w2 w3:List SV):reach E2 2 300 (SM.at (x9 p n i) 6 (z7 m l)) [(0,.b true),(3,.b false),(6,.app l w),(10,.app (l++w) w2),(14,.app (l++w++w2) w3)] [(0,0),(1,7)] [1] (x9 p n i') 6 (z7 (m+3) l')=[VS p=VS p,VS ⟨⟨[]⟩⟩=VS ⟨⟨[]⟩⟩,0=0,vZ n=vZ n,vZ (IntKind.i64.wrap (i+1))=vZ i',0=0,0=0/\m+1+1+1=m+3/\nZ=none,l++w++w2++w3=l',l'.all ab=true,((List.take 1 (List.drop 0 (aQ (List.replicate 1 (List.map SV.v [V1 IntKind.u8 0])).flatten 0 [SV.v (V1 IntKind.u8 (↑((⟨⟨[48,49,50,51,52,53,54,55,56,57,97,98,99,100,101,102]⟩⟩:ByteArray).data.getD (IntKind.u8.wrap (↑(BitVec.ofInt 8 (↑(p.data.getD i.toNat (0:UInt8)).toNat:Int) &&& BitVec.ofInt 8 15).toNat:Int)).toNat (0:UInt8)).toNat:Int))]))=w3/\w3.length=1*1)/\1≠0/\(2*(m+1+1+1)+1024)*1<=140737488355328)/\List.take ((m+1+1)*1) (l++w++w2)=l++w++w2/\(l++w++w2).length=(m+1+1)*1/\w3.all SV.flat=true,ai (IntKind.u8.wrap (↑(BitVec.ofInt 8 (↑(p.data.getD i.toNat (0:UInt8)).toNat:Int) &&& BitVec.ofInt 8 15).toNat:Int)) 16=true,((List.take 1 (List.drop 0 (aQ (List.replicate 1 (List.map SV.v [V1 IntKind.u8 0])).flatten 0 [SV.v (V1 IntKind.u8 (↑((⟨⟨[48,49,50,51,52,53,54,55,56,57,97,98,99,100,101,102]⟩⟩:ByteArray).data.getD ((↑(p.data.getD i.toNat (0:UInt8)).toNat:Int).fdiv (2 ^ 4)).toNat (0:UInt8)).toNat:Int))]))=w2/\w2.length=1*1)/\1≠0/\(2*(m+1+1)+1024)*1<=140737488355328)/\List.take ((m+1)*1) (l++w)=l++w/\(l++w).length=(m+1)*1/\w2.all SV.flat=true,ai ((↑(p.data.getD i.toNat (0:UInt8)).toNat:Int).fdiv (2 ^ 4)) 16=true,((List.take 1 (List.drop 0 (aQ (List.replicate 1 (List.map SV.v [V1 IntKind.u8 0])).flatten 0 [SV.v (V1 IntKind.u8 92)]))=w/\w.length=1*1)/\1≠0/\(2*(m+1)+1024)*1<=140737488355328)/\List.take (m*1) l=l/\l.length=m*1/\w.all SV.flat=true,fg (↑(p.data.getD i.toNat (0:UInt8)).toNat:Int).toNat=false,0<=(↑(p.data.getD i.toNat (0:UInt8)).toNat:Int)/\(↑(p.data.getD i.toNat (0:UInt8)).toNat:Int)<256,ai i p.size=true,decide (i<n)=true]:=by kernel_rfl
theorem c5 (p:ByteArray)(n i:Int)(v:Value):ao E2 15 300 (SM.at (x9 p n i) 6 MP) [(0,.b false)] v=[VS ⟨⟨[]⟩⟩=v,true=true,true=true,decide (i<n)=false]:=by kernel_rfl
theorem c6 (p:ByteArray)(n i:Int)(m:Nat)(l:List SV)(b:ByteArray)(v:Value):ao E2 15 300 (SM.at (x9 p n i) 6 (z7 m l)) [(0,.b false),(4,.str b)] v=[VS b=v,(0<(↑m:Int)/\(↑m:Int)<=2 ^ 40)/\(↑m:Int).toNat<=l.length/\List.take (↑m:Int).toNat l=List.map (fun c=>SV.v (V1 IntKind.u8 (↑c.toNat:Int))) b.data.toList,0=0/\m=m/\nZ=none,((↑m:Int)==(↑m:Int))=true,(!m==0)=true,decide (i<n)=false]:=by kernel_rfl
theorem wg (n:Nat):((n:Int)).fdiv ((2:Int) ^ (4:Nat))=((n / 16:Nat):Int):=by
 rw[Int.fdiv_eq_ediv_of_nonneg _ (by decide)];rfl
theorem D6:(List.range 256).all (fun n=>decide (IntKind.u8.wrap (((BitVec.ofInt 8 (n:Int) &&& BitVec.ofInt 8 15).toNat:Nat):Int)=((n % 16:Nat):Int)))=true:=by kernel_rfl
theorem Kg {n:Nat}(h:n<256):IntKind.u8.wrap (((BitVec.ofInt 8 (n:Int) &&& BitVec.ofInt 8 15).toNat:Nat):Int)=((n % 16:Nat):Int):=Ws (Wn.1 D6 n (Xd.2 h))
def cB (l:List UInt8):List SV:=l.map fun c=>.v (.int .u8 (c.toNat:Int))
theorem Mr (a b:List UInt8):cB (a++b)=cB a++cB b:=by simp[cB]
theorem tR (a:List UInt8):(cB a).length=a.length:=by simp[cB]
theorem mU (a:List UInt8):(cB a).all ab=true:=by
 rw[Wn];intro x hx;obtain⟨c,_,rfl⟩:=Wb.1 hx;rfl
theorem CT (a:List UInt8):(cB a).all SV.flat=true:=by
 rw[Wn];intro x hx;obtain⟨c,_,rfl⟩:=Wb.1 hx;rfl
theorem zX:({ data:={ toList:=[(48:UInt8),(49:UInt8),(50:UInt8),(51:UInt8),(52:UInt8),(53:UInt8),(54:UInt8),(55:UInt8),(56:UInt8),(57:UInt8),(97:UInt8),(98:UInt8),(99:UInt8),(100:UInt8),(101:UInt8),(102:UInt8)]:Array UInt8 }:ByteArray })=gK:=rfl
theorem sr (n:Nat):gK.data.getD n 0=fo n:=rfl
theorem yH {α:Type}{l:List α}{m:Nat}(h:l.length=m):List.take (m*1) l=l:=by rw[XJ,<- h,XC]
section
variable {M:Own}{w0:World}{cs0:List Frame}{R:Ending->World->Prop}{ν:aP}{l:List UInt8}
theorem Ob (hν:∀ i b,ν i=some b->False)(hl:l.length<=1000000000){k:Nat}(YD:k<l.length){s:List UInt8}(hs:s.length<=3000000000)
  (hn:af E2 M w0 cs0 15 R ν (SM.at (x9 (cx l) l.length (k+1:Nat)) 6 (z7 (s++iW l[k]).length (cB (s++iW l[k]))))):af E2 M w0 cs0 15 R ν (SM.at (x9 (cx l) l.length k) 6 (z7 s.length (cB s))):=by
 have hx:(cx l).data.getD k 0=l[k]:=by rw[B5];simp[YD]
 have h256:l[k].toNat<256:=UInt8.toNat_lt _;have hws:=aU (k:=k) (by omega);by_cases hp:fg l[k].toNat=true
 ·have he:iW l[k]=[l[k]]:=by unfold iW;rw[if_pos hp]
  rw[he]at hn;refine af.reach K2 (k:=2) (n:=300) (o:=[(0,.b true),(3,.b true),(6,.app (cB s) (cB [l[k]]))]) (ren:=[(0,0),(1,3)]) (eqs:=[1]) ?_ (by kernel_rfl) (fun i b h=>(hν i b h).elim) (l:=z7 (s.length+1) (cB (s++[l[k]]))) (by rw[V7]at hn;exact hn);rw[c3];simp only[ah,V5,hws,hx,mkS_size,hp,VW,VX,Mr,one_cell,mU,CT,tR,WL,Bool.and_self,yH (tR s)];repeat' apply And.intro
  all_goals first|rfl|exact aJ YD|exact V0 (by omega)|omega|(simp[cB,ab,SV.flat];done)|(simp[cB];omega)
 ·have hpf:fg l[k].toNat=false:=by simpa using hp
  have he:iW l[k]=[92,fo (l[k].toNat / 16),fo (l[k].toNat % 16)]:=by unfold iW;rw[if_neg hp]
  rw[he]at hn;have hd:l[k].toNat / 16<16:=by omega
  have hm:l[k].toNat % 16<16:=by omega
  refine af.reach K2 (k:=2) (n:=300) (o:=[(0,.b true),(3,.b false),(6,.app (cB s) (cB [92])),(10,.app (cB s++cB [92]) (cB [fo (l[k].toNat / 16)])),(14,.app (cB s++cB [92]++cB [fo (l[k].toNat / 16)]) (cB [fo (l[k].toNat % 16)]))])
   (ren:=[(0,0),(1,7)]) (eqs:=[1]) ?_ (by kernel_rfl) (fun i b h=>(hν i b h).elim) (l:=z7 (s.length+3) (cB (s++[92,fo (l[k].toNat / 16),fo (l[k].toNat % 16)]))) (by rw[V7]at hn;exact hn)
  rw[c4];have hsp:∀ (a b c:UInt8),cB (s++[a,b,c])=cB s++cB [a]++cB [b]++cB [c]:=fun a b c=>by simp[cB]
  have hx1:gK.data.getD ((l[k].toNat / 16:Nat):Int).toNat 0=fo (l[k].toNat / 16):=rfl;have hx2:gK.data.getD ((l[k].toNat % 16:Nat):Int).toNat 0=fo (l[k].toNat % 16):=rfl;simp only[ah,V5,hws,hx,zX,mkS_size,hpf,wg,Kg h256,VW,VX,hsp,one_cell,mU,CT,tR,WL,Bool.and_self,sr,V7];repeat' apply And.intro
  all_goals first|rfl|exact aJ YD|exact aJ hd|exact aJ hm|exact V0 (by omega)|omega|exact yH (by simp[cB])|(simp[cB,ab,SV.flat];done)|(simp[cB];done)|skip
theorem Ma (hν:∀ i b,ν i=some b->False)(hl:l.length<=1000000000)(YD:0<l.length)
  (hn:af E2 M w0 cs0 15 R ν (SM.at (x9 (cx l) l.length (0+1:Nat)) 6 (z7 (iW l[0]).length (cB (iW l[0]))))):af E2 M w0 cs0 15 R ν (SM.at (x9 (cx l) l.length (0:Nat)) 6 MP):=by
 have hx:(cx l).data.getD 0 0=l[0]:=by rw[B5];simp[YD]
 have h256:l[0].toNat<256:=UInt8.toNat_lt _;have hws:=aU (k:=0) (by omega);by_cases hp:fg l[0].toNat=true
 ·have he:iW l[0]=[l[0]]:=by unfold iW;rw[if_pos hp]
  rw[he]at hn;refine af.reach K2 (k:=2) (n:=200) (o:=[(0,.b true),(3,.b true)]) (ren:=[(0,0),(1,2)]) (eqs:=[1]) ?_ (by kernel_rfl) (fun i b h=>(hν i b h).elim) (l:=z7 1 (cB [l[0]])) hn;rw[c1];simp only[ah,V5,hws,hx,mkS_size,hp,VW,VX,mU];repeat' apply And.intro
  all_goals first|rfl|exact aJ YD|exact V0 (by omega)|omega|(simp[cB,ab,SV.flat];done)|(simp;omega)
 ·have hpf:fg l[0].toNat=false:=by simpa using hp
  have he:iW l[0]=[92,fo (l[0].toNat / 16),fo (l[0].toNat % 16)]:=by unfold iW;rw[if_neg hp]
  rw[he]at hn;have hd:l[0].toNat / 16<16:=by omega
  have hm:l[0].toNat % 16<16:=by omega
  refine af.reach K2 (k:=2) (n:=300) (o:=[(0,.b true),(3,.b false)]) (ren:=[(0,0),(1,6)]) (eqs:=[1]) ?_ (by kernel_rfl) (fun i b h=>(hν i b h).elim) (l:=z7 3 (cB [92,fo (l[0].toNat / 16),fo (l[0].toNat % 16)])) hn;rw[c2];simp only[ah,V5,hws,hx,zX,mkS_size,hpf,wg,Kg h256,VW,VX,mU,sr];repeat' apply And.intro
  all_goals first|rfl|exact aJ YD|exact aJ hd|exact aJ hm|exact V0 (by omega)|omega|(simp[cB,ab,SV.flat];done)|(simp;omega)
theorem JS (c:UInt8):iW c≠[]:=by unfold iW;split<;>simp
theorem Fj {l:List UInt8}(h:l≠[]):pathL l≠[]:=by
 cases l with
 | nil=>exact absurd rfl h
 | cons c l=>simp[pathL,JS]
theorem Ll (s:List UInt8):cB s=List.map (fun c=>SV.v (Value.int IntKind.u8 (c.toNat:Int))) (cx s).data.toList:=by simp[cB,cx]
theorem Qp {s:List UInt8}(hR:∀ w',Below w0.heap.size w0 w'->R (.returned (.string (cx s))) w')(hM:∀ b,¬ M b)(h0:s≠[])(hs:s.length<=3000000000){n i:Int}(hi:¬ i<n){p:ByteArray}:af E2 M w0 cs0 15 R ν (SM.at (x9 p n i) 6 (z7 s.length (cB s))):=by
 refine af.ao K2 (n:=300) (o:=[(0,.b false),(4,.str (cx s))]) (v:=.string (cx s)) ?_ ?_
 ·rw[c6];have hlen:0<s.length:=Xg.2 h0;simp only[ah,V5,VW,VX,tR];repeat' apply And.intro
  all_goals first|rfl|exact V2 hi|(simp;omega)|omega|(rw[<- tR,XC];exact Ll s)|(simp;done)|(simp;intro e;rw[e]at hlen;simp at hlen)
 ·intro ν' M1 w1 s' w' _ hB hr;exact hR _ (aB hM hB hr)
theorem vw {l:List UInt8}{k:Nat}(h:k<l.length):pathL (l.take (k+1))=pathL (l.take k)++iW l[k]:=by rw[Wp h,su]
theorem nn {l:List UInt8}{k:Nat}(hl:l.length<=1000000000):(pathL (l.take k)).length<=3000000000:=by
 have:=ia (l.take k);have h2:(l.take k).length<=l.length:=by simp;omega
 omega
theorem Kw (hν:∀ i b,ν i=some b->False)(hl:l.length<=1000000000)(hR:∀ w',Below w0.heap.size w0 w'->R (.returned (.string (cx (pathL l)))) w')(hM:∀ b,¬ M b):
  ∀ (j k:Nat),k+1+j=l.length->af E2 M w0 cs0 15 R ν (SM.at (x9 (cx l) l.length (k+1:Nat)) 6 (z7 (pathL (l.take (k+1))).length (cB (pathL (l.take (k+1))))))
 | 0,k,hk=>by
  have hk':l.take (k+1)=l:=We (by omega)
  rw[hk']
  have Yu:l≠[]:=by intro e;rw[e]at hk;simp at hk
  have:=nn (k:=k+1) hl
  rw[hk']at this
  exact Qp hR hM (Fj Yu) this (by omega)
 | j+1,k,hk=>by
  have YD:k+1<l.length:=by omega
  refine Ob hν hl YD (nn hl) ?_
  rw[<- vw YD]
  exact Kw hν hl hR hM j (k+1) (by omega)
end
theorem oA:bX Tryz.prog (fun _=>True) (15,iS):=by
 refine⟨⟨_,Tryz.func15,by kernel_rfl,by kernel_rfl⟩,fun args v p h hp w hX=>?_⟩;dsimp only[iS]at h;split at h
 ·rename_i p;cases h;refine (eE (E:=E2) rfl rfl (Q:=fun v=>v=.string (cx (pathL p.data.toList))) (args:=[.v (.string p)]) (a:=[.string p]) w (S0:=a7 E2 15 [.v (.string p)]) (by kernel_rfl) (au.cons (VR.ae.2 rfl) au.nil) fun cs0=>?_).mono fun e w' ⟨h1,u,h2,h3⟩=>⟨h1,by rw[h2,h3]⟩;refine af.reach K2 (k:=2) (n:=60) (o:=VP) (ren:=[(0,0)]) (eqs:=[]) (F:=x9 p p.size 0) (d:=6) (l:=MP) ?_ (by kernel_rfl) (fun i b h=>dU h) ?_
  ·rw[c0];simp[ah]
  ·have hl:p.data.toList.length=p.size:=by simp
   have hp':p.data.toList.length<=1000000000:=by rw[hl];exact hp
   have hR:∀ w',Below w.heap.size w w'->(fun (e:Ending) (w':World)=>Below w.heap.size w w'/\∃ v,e=.returned v/\v=.string (cx (pathL p.data.toList))) (.returned (.string (cx (pathL p.data.toList)))) w':=fun w' hB=>⟨hB,_,rfl,rfl⟩;by_cases h0:p.data.toList.length=0
   ·refine af.ao K2 (n:=300) (o:=[(0,.b false)]) (v:=.string (cx (pathL p.data.toList))) ?_ fun ν' M1 w1 s' w' _ hB hr=>hR _ (aB aE hB hr);rw[c5];rw[Wd.1 h0];rw[h0]at hl;simp[ah,<- hl,pathL,cx]
   ·have t:=Ma (l:=p.data.toList) (M:=aD [] []) (w0:=w) (cs0:=cs0) (ν:=aA []) (R:=fun e w'=>Below w.heap.size w w'/\∃ v,e=.returned v/\v=.string (cx (pathL p.data.toList))) (fun i b h=>dU h) hp' (by omega);have t2:=Kw (l:=p.data.toList) (M:=aD [] []) (w0:=w) (cs0:=cs0) (ν:=aA []) (R:=fun e w'=>Below w.heap.size w w'/\∃ v,e=.returned v/\v=.string (cx (pathL p.data.toList))) (fun i b h=>dU h) hp' hR aE (p.data.toList.length - 1) 0 (by omega);rw[vw (by omega),X7,show pathL []=[] from rfl,Xm]at t2;have t:=t t2;rw[Hd,hl]at t;exact t
 ·cases h
def QE (n:Nat):Int:=if 48<=n/\n<=57 then (n:Int) - 48 else if 97<=n/\n<=102 then (n:Int) - 87 else -1
def QY (l:List SV):List (Option (SO × Bool)):=[some (.row l 5 (0,0) (some 1),true)]
def hv (n:Nat):Nat:=(QE n).toNat
section
variable {M:Own}{w0:World}{cs0:List Frame}{R:Ending->World->Prop}{ν:aP}{l:List UInt8}
end
end words
end Go.Proofs.YtbjmmnegkpeboaaGreatDoor
namespace Go.Proofs.YtbjmmnegkpeboaaGreatDoor
open Go Go.Rx Go.RowKit Go.Proofs
namespace words
def pE:Go.Shelf.Ren:=⟨fun|156=>65|165=>92|166=>93|169=>44|240=>75|241=>113|276=>101|277=>128|n=>n,fun|31=>79|9=>9|3=>3|4=>4|0=>0|20=>20|72=>87|76=>133|70=>85|37=>44|75=>90|127=>121|164=>142|5=>5|80=>93|n=>n,fun|n=>n⟩
theorem GC:Go.Proofs.Lays.n156 Tryz.prog pE where
 mixed:=by kernel_rfl
 f156:=Tryz.func65.trans (congrArg some (by kernel_rfl))
 f165:=Tryz.func92.trans (congrArg some (by kernel_rfl))
 f166:=Tryz.func93.trans (congrArg some (by kernel_rfl))
 f169:=Tryz.func44.trans (congrArg some (by kernel_rfl))
 f240:=Tryz.func75.trans (congrArg some (by kernel_rfl))
 f241:=Tryz.func113.trans (congrArg some (by kernel_rfl))
 f276:=Tryz.func101.trans (congrArg some (by kernel_rfl))
 f277:=Tryz.func128.trans (congrArg some (by kernel_rfl))
 t0:=Tryz.underlying0
 a0:=Tryz.isAgg0
 z0:=Tryz.sizeOf0
 v0:=Tryz.zeroValue0
 t3:=Tryz.underlying3
 a3:=Tryz.isAgg3
 z3:=Tryz.sizeOf3
 v3:=Tryz.zeroValue3
 t4:=Tryz.underlying4
 a4:=Tryz.isAgg4
 z4:=Tryz.sizeOf4
 v4:=Tryz.zeroValue4
 t9:=Tryz.underlying9
 a9:=Tryz.isAgg9
 z9:=Tryz.sizeOf9
 v9:=Tryz.zeroValue9
 t20:=Tryz.underlying20
 a20:=Tryz.isAgg20
 z20:=Tryz.sizeOf20
 v20:=Tryz.zeroValue20
 t31:=Tryz.underlying79
 a31:=Tryz.isAgg79
 z31:=Tryz.sizeOf79
 v31:=Tryz.zeroValue79
 t37:=Tryz.underlying44
 a37:=Tryz.isAgg44
 z37:=Tryz.sizeOf44
 v37:=Tryz.zeroValue44
 t70:=Tryz.underlying85
 a70:=Tryz.isAgg85
 z70:=Tryz.sizeOf85
 v70:=Tryz.zeroValue85
 t72:=Tryz.underlying87
 a72:=Tryz.isAgg87
 z72:=Tryz.sizeOf87
 v72:=Tryz.zeroValue87
 t75:=Tryz.underlying90
 a75:=Tryz.isAgg90
 z75:=Tryz.sizeOf90
 v75:=Tryz.zeroValue90
 t76:=Tryz.underlying133
 a76:=Tryz.isAgg133
 z76:=Tryz.sizeOf133
 v76:=Tryz.zeroValue133
 t127:=Tryz.underlying121
 a127:=Tryz.isAgg121
 z127:=Tryz.sizeOf121
 v127:=Tryz.zeroValue121
 t164:=Tryz.underlying142
 a164:=Tryz.isAgg142
 z164:=Tryz.sizeOf142
 v164:=Tryz.zeroValue142
def wU:Go.Shelf.Ren:=⟨fun|171=>24|243=>66|246=>94|283=>114|284=>115|285=>116|286=>117|129=>130|317=>129|318=>131|319=>132|320=>133|337=>146|338=>147|n=>n,fun|3=>3|9=>9|2=>2|4=>4|171=>150|0=>0|53=>32|37=>44|5=>5|173=>153|212=>161|51=>72|20=>20|213=>162|46=>92|232=>178|233=>179|n=>n,fun|17=>1|18=>3|19=>4|n=>n⟩
theorem FE:Go.Proofs.LaysM.n171 Tryz.prog wU where
 mixed:=by kernel_rfl
 f129:=Tryz.func130.trans (congrArg some (by kernel_rfl))
 f171:=Tryz.func24.trans (congrArg some (by kernel_rfl))
 f243:=Tryz.func66.trans (congrArg some (by kernel_rfl))
 f246:=Tryz.func94.trans (congrArg some (by kernel_rfl))
 f283:=Tryz.func114.trans (congrArg some (by kernel_rfl))
 f284:=Tryz.func115.trans (congrArg some (by kernel_rfl))
 f285:=Tryz.func116.trans (congrArg some (by kernel_rfl))
 f286:=Tryz.func117.trans (congrArg some (by kernel_rfl))
 f317:=Tryz.func129.trans (congrArg some (by kernel_rfl))
 f318:=Tryz.func131.trans (congrArg some (by kernel_rfl))
 f319:=Tryz.func132.trans (congrArg some (by kernel_rfl))
 f320:=Tryz.func133.trans (congrArg some (by kernel_rfl))
 f337:=Tryz.func146.trans (congrArg some (by kernel_rfl))
 f338:=Tryz.func147.trans (congrArg some (by kernel_rfl))
 t0:=Tryz.underlying0
 a0:=Tryz.isAgg0
 z0:=Tryz.sizeOf0
 v0:=Tryz.zeroValue0
 t2:=Tryz.underlying2
 a2:=Tryz.isAgg2
 z2:=Tryz.sizeOf2
 v2:=Tryz.zeroValue2
 t3:=Tryz.underlying3
 a3:=Tryz.isAgg3
 z3:=Tryz.sizeOf3
 v3:=Tryz.zeroValue3
 t4:=Tryz.underlying4
 a4:=Tryz.isAgg4
 z4:=Tryz.sizeOf4
 v4:=Tryz.zeroValue4
 t5:=Tryz.underlying5
 a5:=Tryz.isAgg5
 z5:=Tryz.sizeOf5
 v5:=Tryz.zeroValue5
 t9:=Tryz.underlying9
 a9:=Tryz.isAgg9
 z9:=Tryz.sizeOf9
 v9:=Tryz.zeroValue9
 t20:=Tryz.underlying20
 a20:=Tryz.isAgg20
 z20:=Tryz.sizeOf20
 v20:=Tryz.zeroValue20
 t37:=Tryz.underlying44
 a37:=Tryz.isAgg44
 z37:=Tryz.sizeOf44
 v37:=Tryz.zeroValue44
 t46:=Tryz.underlying92
 a46:=Tryz.isAgg92
 z46:=Tryz.sizeOf92
 v46:=Tryz.zeroValue92
 t51:=Tryz.underlying72
 a51:=Tryz.isAgg72
 z51:=Tryz.sizeOf72
 v51:=Tryz.zeroValue72
 t53:=Tryz.underlying32
 a53:=Tryz.isAgg32
 z53:=Tryz.sizeOf32
 v53:=Tryz.zeroValue32
 t171:=Tryz.underlying150
 a171:=Tryz.isAgg150
 z171:=Tryz.sizeOf150
 v171:=Tryz.zeroValue150
 t173:=Tryz.underlying153
 a173:=Tryz.isAgg153
 z173:=Tryz.sizeOf153
 v173:=Tryz.zeroValue153
 t212:=Tryz.underlying161
 a212:=Tryz.isAgg161
 z212:=Tryz.sizeOf161
 v212:=Tryz.zeroValue161
 t213:=Tryz.underlying162
 a213:=Tryz.isAgg162
 z213:=Tryz.sizeOf162
 t232:=Tryz.underlying178
 a232:=Tryz.isAgg178
 z232:=Tryz.sizeOf178
 v232:=Tryz.zeroValue178
 t233:=Tryz.underlying179
 a233:=Tryz.isAgg179
 z233:=Tryz.sizeOf179
 v233:=Tryz.zeroValue179
 g17:=by kernel_rfl
 g18:=by kernel_rfl
 g19:=by kernel_rfl
 i0:=by kernel_rfl
 i2:=by kernel_rfl
 i3:=by kernel_rfl
 i4:=by kernel_rfl
 i5:=by kernel_rfl
 i9:=by kernel_rfl
 i20:=by kernel_rfl
 i37:=by kernel_rfl
 i46:=by kernel_rfl
 i51:=by kernel_rfl
 i53:=by kernel_rfl
 i171:=by kernel_rfl
 i173:=by kernel_rfl
 i212:=by kernel_rfl
 i232:=by kernel_rfl
 i233:=by kernel_rfl
 m17:=by kernel_rfl
 m18:=by kernel_rfl
 m19:=by kernel_rfl
theorem Dq:Builder.Extra Tryz.prog pE where
 sizeBuilder:=by kernel_rfl
 liesBuilder:=by kernel_rfl
 t5:=Tryz.underlying5
 a5:=Tryz.isAgg5
 z5:=Tryz.sizeOf5
 v5:=Tryz.zeroValue5
 infoByte:=by kernel_rfl
 cellsByte:=by kernel_rfl
 sizeByte:=by kernel_rfl
 neB5:=by decide
theorem Cc:wq Tryz.prog 65:=
 ⟨⟨_,Tryz.func65,by kernel_rfl,by kernel_rfl⟩,fun bk o c xs sep w h1 h2 h3 h4 h5=>Any.strings_Join GC Dq bk o c xs sep w h1 h2 h3 h4 (by simpa[cO,ByteArray.size] using h5)⟩
def fG (w : World) : Prop := Lib.TabIs Tryz.prog w "internal/strconv.uint64pow10" .u64 Lib.pow10Tab
theorem tY (w:World)(k:Nat)(os:Array Obj):Below w.heap.size w (Go.Sort.grow (w.drewN k) os):=
 ⟨rfl,rfl,rfl,by rw[Go.Sort.size_grow];exact Nat.le_add_right _ _,fun j hj=>Go.Sort.heap_grow_old (w.drewN k) os hj⟩
def p6:PS:=fun args=>match args with|[.int .i64 n]=>some (.string ⟨(Lib.itoa n).toArray⟩,-9223372036854775808<=n/\n<=9223372036854775807)|_=>none
theorem xY:bX Tryz.prog fG (24,p6):=by
 refine⟨⟨_,Tryz.func24,by kernel_rfl,by kernel_rfl⟩,fun args v p h hp w hX=>?_⟩;dsimp only[p6]at h;split at h
 ·rename_i n;cases h;refine (Any.strconv_Itoa FE n hp.1 hp.2 w hX).mono fun e w' ⟨he,k,os,hw⟩=>⟨?_,he⟩;subst hw;exact tY w k os
 ·cases h
open Go Go.Rx Go.RowKit
def bQ (n:Nat):ByteArray:=⟨(Lib.decDigits n).toArray⟩
def uX (m:Int):PS:=fun args=>match args with|[.int .u64 k]=>some (.string (bQ k.toNat),0<=k/\k<m)|_=>none
def EN (m:Int):Env:=EP [(38,uX m)] []
def j7:PS:=fun args=>match args with|[.int .i64 n]=>some (.string ⟨(Lib.itoa n).toArray⟩,-9223372036854775808<=n/\n<=9223372036854775807)|_=>none
theorem n0 (m k:Int)(v:Value):ao (EN m) 38 100 (a7 (EN m) 38 [.v (.int .u64 k)]) [(0,.b true)] v=[VS ((⟨⟨[48,49,50,51,52,53,54,55,56,57]⟩⟩:ByteArray).extract k.toNat (IntKind.u64.wrap (k+1)).toNat)=v,decide (0<=k/\k<=(↑(IntKind.u64.wrap (k+1)).toNat:Int))=true,decide (0<=IntKind.u64.wrap (k+1)/\IntKind.u64.wrap (k+1)<=(↑(10:Nat):Int))=true,decide (k<10)=true]:=by kernel_rfl
theorem n1 (m k:Int)(v:Value):ao (EN m) 38 100 (a7 (EN m) 38 [.v (.int .u64 k)]) [(0,.b false)] v=[VS (bQ (IntKind.u64.wrap (k.tdiv 10)).toNat++bQ (k.tmod 10).toNat)=v,((bQ (IntKind.u64.wrap (k.tdiv 10)).toNat).size+(bQ (k.tmod 10).toNat).size).le 9223372036854775807,0<=k.tmod 10/\k.tmod 10<m,0<=IntKind.u64.wrap (k.tdiv 10)/\IntKind.u64.wrap (k.tdiv 10)<m,decide (k<10)=false]:=by kernel_rfl
theorem s0 (k:Int)(v:Value):ao (EN 18446744073709551616) 30 100 (a7 (EN 18446744073709551616) 30 [.v (.int .i64 k)]) [(0,.b true)] v=[VS ((⟨⟨[45]⟩⟩:ByteArray)++bQ (IntKind.u64.wrap (IntKind.u64.wrap (IntKind.i64.wrap (0 - IntKind.i64.wrap (k+1)))+1)).toNat)=v,(1+(bQ (IntKind.u64.wrap (IntKind.u64.wrap (IntKind.i64.wrap (0 - IntKind.i64.wrap (k+1)))+1)).toNat).size).le 9223372036854775807,0<=IntKind.u64.wrap (IntKind.u64.wrap (IntKind.i64.wrap (0 - IntKind.i64.wrap (k+1)))+1)/\IntKind.u64.wrap (IntKind.u64.wrap (IntKind.i64.wrap (0 - IntKind.i64.wrap (k+1)))+1)<18446744073709551616,decide (k<0)=true]:=by kernel_rfl
theorem s1 (k:Int)(v:Value):ao (EN 18446744073709551616) 30 100 (a7 (EN 18446744073709551616) 30 [.v (.int .i64 k)]) [(0,.b false)] v=[VS (bQ (IntKind.u64.wrap k).toNat)=v,0<=IntKind.u64.wrap k/\IntKind.u64.wrap k<18446744073709551616,decide (k<0)=false]:=by kernel_rfl
theorem JZ:(List.range 10).all (fun n=>decide ((({ data:={ toList:=[(48:UInt8),(49:UInt8),(50:UInt8),(51:UInt8),(52:UInt8),(53:UInt8),(54:UInt8),(55:UInt8),(56:UInt8),(57:UInt8)]:Array UInt8 }:ByteArray }).extract n (n+1)).data.toList=[UInt8.ofNat (48+n)]))=true:=by kernel_rfl
theorem Im {n:Nat}(h:n<10):(({ data:={ toList:=[(48:UInt8),(49:UInt8),(50:UInt8),(51:UInt8),(52:UInt8),(53:UInt8),(54:UInt8),(55:UInt8),(56:UInt8),(57:UInt8)]:Array UInt8 }:ByteArray }).extract n (n+1))=bQ n:=by
 have:=Ws (Wn.1 JZ n (Xd.2 h));apply ByteArray.ext;apply Array.toList_inj.1;rw[this,bQ,Lib.decDigits_one h]
theorem Dp {n:Nat}(h:¬ n<10):Lib.decDigits n=Lib.decDigits (n / 10)++Lib.decDigits (n % 10):=by
 rw[Lib.decDigits_one (Yb n (by omega)),Lib.decDigits,dif_neg h]
theorem Bd {n:Nat}(h:¬ n<10):bQ (n / 10)++bQ (n % 10)=bQ n:=by
 unfold bQ;rw[Dp h];apply ByteArray.ext;simp
theorem o8 {n:Nat}(h:n<18446744073709551616):(bQ n).size<=20:=by
 have:Lib.nDigits n<=20:=by
  by_cases h1:1<=n
  ·have:=Lib.numDigits_eq n h1 h;split at this<;>omega
  ·rw[Lib.nDigits_small (by omega)];omega
 show (Lib.decDigits n).toArray.size<=20;rw[XK,Lib.decDigits_length];exact this
theorem u64_in {k:Int}(h0:0<=k)(h1:k<18446744073709551616):IntKind.u64.wrap k=k:=by rw[IntKind.wrap_u64];omega
theorem B7:∀ m:Nat,m<=18446744073709551616->bX Tryz.prog (fun _=>True) (38,uX m)
 | 0,_=>by
  refine⟨⟨_,Tryz.func38,by kernel_rfl,by kernel_rfl⟩,fun args v p h hp w hX=>?_⟩
  dsimp only[uX]at h
  split at h
  ·cases h;omega
  ·cases h
 | m+1,hm=>by
  have ih:=B7 m (by omega)
  have K:∀ {M:Own} {w0:World},aK (EN m) M w0:=fun {M w0}=>fM fun r h=>by
   simp only[V8,Ww,Xc]at h
   rcases h with rfl
   exact ih
  refine⟨⟨_,Tryz.func38,by kernel_rfl,by kernel_rfl⟩,fun args v p h hp w hX=>?_⟩
  dsimp only[uX]at h
  split at h
  ·rename_i k
   cases h
   obtain⟨n,rfl⟩:∃ n:Nat,k=n:=⟨k.toNat,by omega⟩
   refine (eE (E:=EN m) rfl rfl (Q:=fun v=>v=.string (bQ n)) (args:=[.v (.int .u64 n)]) (a:=[.int .u64 n]) w (S0:=a7 (EN m) 38 [.v (.int .u64 n)]) (by kernel_rfl) (au.cons (VR.ae.2 rfl) au.nil) fun cs0=>?_).mono fun e w' ⟨h1,u,h2,h3⟩=>⟨h1,by rw[h2,h3];rfl⟩
   by_cases h10:n<10
   ·refine af.ao K (n:=100) (o:=[(0,.b true)]) (v:=.string (bQ n)) ?_ fun ν' M1 w1 s' w' _ hB hr=>⟨aB aE hB hr,_,rfl,rfl⟩
    rw[n0]
    have hw:IntKind.u64.wrap ((n:Int)+1)=((n+1:Nat):Int):=by rw[u64_in (by omega) (by omega)];omega
    simp only[ah,hw,V5,Im h10,VW,VX]
    repeat' apply And.intro
    all_goals first|rfl|exact V0 (by omega)
   ·refine af.ao K (n:=100) (o:=[(0,.b false)]) (v:=.string (bQ n)) ?_ fun ν' M1 w1 s' w' _ hB hr=>⟨aB aE hB hr,_,rfl,rfl⟩
    rw[n1]
    have e1:(n:Int).tdiv 10=((n / 10:Nat):Int):=rfl
    have e2:(n:Int).tmod 10=((n % 10:Nat):Int):=rfl
    have hw:IntKind.u64.wrap ((n / 10:Nat):Int)=((n / 10:Nat):Int):=u64_in (by omega) (by omega)
    have l1:=o8 (n:=n / 10) (by omega)
    have l2:=o8 (n:=n % 10) (by omega)
    simp only[ah,e1,e2,hw,V5,Bd h10,VW,VX]
    repeat' apply And.intro
    all_goals first|rfl|omega|exact V2 (by omega)|(show (_:Nat)<=_;omega)
  ·cases h
theorem KN {M:Own}{w0:World}:aK (EN 18446744073709551616) M w0:=fM fun r h=>by
 simp only[V8,Ww,Xc]at h
 rcases h with rfl
 exact B7 18446744073709551616 (Wx _)
theorem Du {n:Int}(h:n<0):(⟨#[45]⟩:ByteArray)++bQ n.natAbs=⟨(Lib.itoa n).toArray⟩:=by
 unfold Lib.itoa bQ;rw[if_pos h];apply ByteArray.ext;simp
theorem ET {n:Int}(h:¬ n<0):bQ n.toNat=⟨(Lib.itoa n).toArray⟩:=by
 unfold Lib.itoa bQ;rw[if_neg h]
theorem qi:bX Tryz.prog (fun _=>True) (30,j7):=by
 refine⟨⟨_,Tryz.func30,by kernel_rfl,by kernel_rfl⟩,fun args v p h hp w hX=>?_⟩;dsimp only[j7]at h;split at h
 ·rename_i k;cases h;refine (eE (E:=EN 18446744073709551616) rfl rfl (Q:=fun v=>v=.string ⟨(Lib.itoa k).toArray⟩) (args:=[.v (.int .i64 k)]) (a:=[.int .i64 k]) w (S0:=a7 (EN 18446744073709551616) 30 [.v (.int .i64 k)]) (by kernel_rfl) (au.cons (VR.ae.2 rfl) au.nil) fun cs0=>?_).mono fun e w' ⟨h1,u,h2,h3⟩=>⟨h1,by rw[h2,h3]⟩;by_cases h0:k<0
  ·refine af.ao KN (n:=100) (o:=[(0,.b true)]) (v:=.string ⟨(Lib.itoa k).toArray⟩) ?_ fun ν' M1 w1 s' w' _ hB hr=>⟨aB aE hB hr,_,rfl,rfl⟩;rw[s0];obtain⟨j,rfl⟩:∃ j:Nat,k=-((j:Int)+1):=⟨(-k - 1).toNat,by omega⟩;have e1:IntKind.i64.wrap (-((j:Int)+1)+1)=-(j:Int):=by rw[Xx _ (by omega)];omega
   have e2:IntKind.i64.wrap (0 - -(j:Int))=(j:Int):=by rw[Xx _ (by omega)];omega
   have e3:IntKind.u64.wrap (j:Int)=(j:Int):=u64_in (by omega) (by omega);have e4:IntKind.u64.wrap ((j:Int)+1)=((j+1:Nat):Int):=by rw[u64_in (by omega) (by omega)];omega
   have e5:=Du (n:=-((j:Int)+1)) h0;have e6:(-((j:Int)+1)).natAbs=j+1:=by omega
   rw[e6]at e5;have l1:=o8 (n:=j+1) (by omega);simp only[ah,e1,e2,e3,e4,V5,e5,VW,VX];repeat' apply And.intro
   all_goals first|rfl|omega|exact V0 (by omega)|(show (_:Nat)<=_;omega)
  ·refine af.ao KN (n:=100) (o:=[(0,.b false)]) (v:=.string ⟨(Lib.itoa k).toArray⟩) ?_ fun ν' M1 w1 s' w' _ hB hr=>⟨aB aE hB hr,_,rfl,rfl⟩;rw[s1];have e1:IntKind.u64.wrap k=k:=u64_in (by omega) (by omega);simp only[ah,e1,ET h0,VW,VX];repeat' apply And.intro
   all_goals first|rfl|omega|exact V2 (by omega)
 ·cases h
end words
open Go Go.Rx Go.RowKit Go.Shelf Go.Sort Go.Lib Go.Proofs
namespace fmtU
def BL:Go.Shelf.Ren:=⟨fun|284=>115|129=>130|317=>129|318=>131|n=>n,fun|53=>32|3=>3|212=>161|0=>0|4=>4|46=>92|5=>5|9=>9|n=>n,fun|17=>1|n=>n⟩
theorem LC:Go.Proofs.LaysM.n284 Tryz.prog BL where
 mixed:=by kernel_rfl
 f129:=Tryz.func130.trans (congrArg some (by kernel_rfl))
 f284:=Tryz.func115.trans (congrArg some (by kernel_rfl))
 f317:=Tryz.func129.trans (congrArg some (by kernel_rfl))
 f318:=Tryz.func131.trans (congrArg some (by kernel_rfl))
 t0:=Tryz.underlying0
 a0:=Tryz.isAgg0
 z0:=Tryz.sizeOf0
 v0:=Tryz.zeroValue0
 t3:=Tryz.underlying3
 a3:=Tryz.isAgg3
 z3:=Tryz.sizeOf3
 v3:=Tryz.zeroValue3
 t4:=Tryz.underlying4
 a4:=Tryz.isAgg4
 z4:=Tryz.sizeOf4
 v4:=Tryz.zeroValue4
 t5:=Tryz.underlying5
 a5:=Tryz.isAgg5
 z5:=Tryz.sizeOf5
 v5:=Tryz.zeroValue5
 t9:=Tryz.underlying9
 a9:=Tryz.isAgg9
 z9:=Tryz.sizeOf9
 v9:=Tryz.zeroValue9
 t46:=Tryz.underlying92
 a46:=Tryz.isAgg92
 z46:=Tryz.sizeOf92
 v46:=Tryz.zeroValue92
 t53:=Tryz.underlying32
 a53:=Tryz.isAgg32
 z53:=Tryz.sizeOf32
 v53:=Tryz.zeroValue32
 t212:=Tryz.underlying161
 a212:=Tryz.isAgg161
 z212:=Tryz.sizeOf161
 v212:=Tryz.zeroValue161
 g17:=by kernel_rfl
 i0:=by kernel_rfl
 i3:=by kernel_rfl
 i4:=by kernel_rfl
 i5:=by kernel_rfl
 i9:=by kernel_rfl
 i46:=by kernel_rfl
 i53:=by kernel_rfl
 i212:=by kernel_rfl
 m17:=by kernel_rfl
def AO:Go.Shelf.Ren:=⟨fun|285=>116|n=>n,fun|37=>44|53=>32|3=>3|4=>4|51=>72|9=>9|5=>5|0=>0|n=>n,fun|n=>n⟩
theorem LJ:Go.Proofs.Lays.n285 Tryz.prog AO where
 mixed:=by kernel_rfl
 f285:=Tryz.func116.trans (congrArg some (by kernel_rfl))
 t0:=Tryz.underlying0
 a0:=Tryz.isAgg0
 z0:=Tryz.sizeOf0
 v0:=Tryz.zeroValue0
 t3:=Tryz.underlying3
 a3:=Tryz.isAgg3
 z3:=Tryz.sizeOf3
 v3:=Tryz.zeroValue3
 t4:=Tryz.underlying4
 a4:=Tryz.isAgg4
 z4:=Tryz.sizeOf4
 v4:=Tryz.zeroValue4
 t5:=Tryz.underlying5
 a5:=Tryz.isAgg5
 z5:=Tryz.sizeOf5
 v5:=Tryz.zeroValue5
 t9:=Tryz.underlying9
 a9:=Tryz.isAgg9
 z9:=Tryz.sizeOf9
 v9:=Tryz.zeroValue9
 t37:=Tryz.underlying44
 a37:=Tryz.isAgg44
 z37:=Tryz.sizeOf44
 v37:=Tryz.zeroValue44
 t51:=Tryz.underlying72
 a51:=Tryz.isAgg72
 z51:=Tryz.sizeOf72
 v51:=Tryz.zeroValue72
 t53:=Tryz.underlying32
 a53:=Tryz.isAgg32
 z53:=Tryz.sizeOf32
 v53:=Tryz.zeroValue32
def Al:Go.Shelf.Ren:=⟨fun|283=>114|n=>n,fun|3=>3|9=>9|4=>4|n=>n,fun|n=>n⟩
theorem LZ:Go.Proofs.Lays.n283 Tryz.prog Al where
 mixed:=by kernel_rfl
 f283:=Tryz.func114.trans (congrArg some (by kernel_rfl))
 t3:=Tryz.underlying3
 a3:=Tryz.isAgg3
 z3:=Tryz.sizeOf3
 v3:=Tryz.zeroValue3
 t4:=Tryz.underlying4
 a4:=Tryz.isAgg4
 z4:=Tryz.sizeOf4
 v4:=Tryz.zeroValue4
 t9:=Tryz.underlying9
 a9:=Tryz.isAgg9
 z9:=Tryz.sizeOf9
 v9:=Tryz.zeroValue9
theorem ym (w:World)(T:TypeId)(nd:Nat)(hs:nd<=24):Holds (fun (b:UInt8)=>Value.int .u8 (b.toNat:Int)) (w.alloc (.cells zeros24 T)) w.heap.size 0 (Array.replicate nd (0:UInt8)):=fun j hj=>by
 have hj':j<nd:=by simpa using hj
 refine⟨?_,World.frozen?_alloc_new _ _ _ _⟩
 rw[World.cell?_alloc_new,zeros24_at _ (by omega),getElem!_pos _ j hj]
 simp
theorem Qo (w:World)(o:Obj)(dk:Array UInt8)(k:Nat):∃ os,(putRow (fun (b:UInt8)=>Value.int .u8 (b.toNat:Int)) (w.alloc o) w.heap.size 0 dk).drewN k=grow (w.drewN k) os:=by
 rw[alloc_eq_grow];obtain⟨os',_,e⟩:=putRow_grow_new (fun (b:UInt8)=>Value.int .u8 (b.toNat:Int)) w #[o] w.heap.size 0 dk (Wx _);exact⟨os',by rw[e];rfl⟩
set_option maxHeartbeats 6400000 in
theorem Ha (u : Nat)(hu64 : u < 18446744073709551616)(w : World)(htab : Lib.TabIs Tryz.prog w "internal/strconv.uint64pow10" .u64 Lib.pow10Tab) :
  Calls Tryz.prog 96 #[.int .u64 u,.int .i64 10] w fun e w'=>e=.returned (.string ⟨(Lib.decDigits u).toArray⟩)/\∃ k os,w'=grow (w.drewN k) os:=by
 by_cases hs:u<100
 ·have hw:IntKind.i64.wrap (u:Int)=u:=Xx _ (by omega);go_enter Tryz.func96,Tryz.ntmps96
  go_wp2_with (go_at_call 114;refine (Any.internal_strconv_small LZ u hs _).mono ?_;rintro e w' ⟨rfl,rfl⟩)
  go_ret
  exact⟨rfl,0,#[],by simp[World.drewN_zero]⟩
 ·have hu1:1<=u:=by omega
  have hnd20:Lib.nDigits u<=20:=by have:=Lib.numDigits_eq u hu1 hu64;split at this<;>omega
  have hal:Tryz.prog.arrayLen 150=24:=by simp[Program.arrayLen,Tryz.underlying150]
  have hsl1:∀ W,(Instr.sliceAt 150 (.pointer (some ⟨w.heap.size,0,none⟩)) none (some (.int .i64 (Lib.nDigits u:Int))) none).run Tryz.prog W=.ok (.slice (some ⟨w.heap.size,0,none⟩) (Lib.nDigits u) 24) W:=fun W=>by
   rw[run_sliceAt_array_h W 150 ⟨w.heap.size,0,none⟩ (by simp[Program.arrayLen,Program.elem,Tryz.underlying150]) .i64 (Lib.nDigits u:Int) (by omega) (by rw[hal];omega)];go_simp
  have hH0:=ym w 150 (Lib.nDigits u) (by omega);have hfmt:=Any.internal_strconv_formatBase10 LJ w.heap.size 0 24 u (Array.replicate (Lib.nDigits u) 0) (w.alloc (.cells Lib.zeros24 150)) hH0 (by rw[Array.size_replicate];exact Lib.lt_pow_nDigits u) hu64 (by rw[Array.size_replicate];omega);rw[Array.size_replicate]at hfmt;have HH0:=Lib.hid hH0;clear hH0 hal;go_enter Tryz.func96,Tryz.ntmps96
  go_wp2_with (first
   | (go_at_call 115;refine (Any.internal_strconv_numDigits LC u hu1 hu64 _ (Lib.tabIs_alloc htab _)).mono ?_;rintro e w' ⟨rfl,rfl⟩))
  go_at_call 116
  refine hfmt.mono ?_;rintro e w' ⟨rfl,k,v',dk,rfl,hF⟩
  have hcv:(convert 44 9 (.slice (some ⟨w.heap.size,0,none⟩) (Lib.nDigits u) 24)).run Tryz.prog ((putRow (fun (b:UInt8)=>Value.int .u8 (b.toNat:Int)) (w.alloc (.cells Lib.zeros24 150)) w.heap.size 0 dk).drewN k)=.ok (.string ⟨(Lib.decDigits u).toArray⟩) ((putRow (fun (b:UInt8)=>Value.int .u8 (b.toNat:Int)) (w.alloc (.cells Lib.zeros24 150)) w.heap.size 0 dk).drewN k):=by
   have h:=run_convert_bytes_back (P:=Tryz.prog) ((putRow (fun (b:UInt8)=>Value.int .u8 (b.toNat:Int)) (w.alloc (.cells Lib.zeros24 150)) w.heap.size 0 dk).drewN k) 44 9 5 ⟨w.heap.size,0,none⟩ 24 (Lib.decDigits u) Tryz.underlying44 Tryz.underlying5 Tryz.underlying9 (fun j hj=>by
    rw[Lib.row_is_numeral hF j hj,Lib.add_plain,World.cell?_drewN];exact cell?_putRow (fun (b:UInt8)=>Value.int .u8 (b.toNat:Int)) _ w.heap.size 0 _ dk HH0.out (by rw[hF.size,Array.size_replicate]) j (by rw[hF.size];rw[Lib.decDigits_length]at hj;exact hj))
   rw[Lib.decDigits_length]at h;exact h
  go_wp2
  go_ret
  obtain⟨os,eo⟩:=Qo w (.cells Lib.zeros24 150) dk k;exact⟨rfl,k,os,eo⟩
end fmtU
end Go.Proofs.YtbjmmnegkpeboaaGreatDoor
namespace Go.Rx
open Go.RowKit (Below)
theorem qB {E:Env}{w:World}{f:FuncId}{R:Ending->World->Prop}{P:Program}(hP:E.P=P){args:List SV}{a:List Value}{d:Nat}{l:List (Nat × Nat)}{os:List SO}{S0:SM}(hlen:l.length=os.length)(hd:os.length<=2 ^ d)(hn:(l.map (·.1)).Nodup)
  (ho:∀ (i:Nat) (o:SO) (b c:Nat),os[i]?=some o->l[i]?=some (b,c)->∃ r,w.heap[b]?=some r/\OR (aA l) i o r) (hG:∀ g i,E.G.lookup g=some i->∃ c,l[i]?=some (g,c)) (ZZ:a6 E f args (bG d os.length 0 (os.map fun o=>some (o,false)))=some S0) (ha:au (aA l) args a)
  (hs:∀ cs0,af E (aD l (os.map fun o=>(o,false))) w cs0 f R (aA l) S0):Calls P f a.toArray w R:=by
 subst hP
 have Zz:∀ (i:Nat) (o:SO) (m:Bool) (b c:Nat),(os.map fun o=>(o,false))[i]?=some (o,m)->l[i]?=some (b,c)->∃ r,w.heap[b]?=some r/\OR (aA l) i o r:=by
  intro i o m b c h1 h2;rw[Wv]at h1;obtain⟨o',h3,h4⟩:=Wg.1 h1;cases h4;exact ho i o b c h3 h2
 have hr:=As (d:=d) (w:=w) (by simpa using hlen) (by simpa using hd) hn Zz;rw[WI,WH]at hr;exact iG ZZ hr (dN Zz) (fun _ h=>h) hG ha hs
end Go.Rx
namespace Go.Proofs.YtbjmmnegkpeboaaGreatDoor
open Go Go.Rx Go.RowKit Go.Proofs
namespace paths
namespace crc
def G6:Env:=EP [] [(0,0)]
theorem O4 {M:Own}{w0:World}:aK G6 M w0:=kM (X:=fun _=>True) (fun r h=>by cases h) fun ν s w hr hg=>trivial
def Fb (s:Int)(tb l:List SV)(off n c:Nat):SM:=(a6 G6 95 [.v (.int .u32 s),.sl 1 off n (some c)] (bG 6 2 0 [cv tb,cv l])).getD dn
def LQ:List SI:=dA G6 2 60 (Fb 0 [] [] 0 0 0) VP
def Ga (r:Int)(off n c:Nat)(i:Int):SF:={ fn:=95,tm:=e9 36 6 ([.v (.int .u32 r)]++List.replicate 8 .aH++[.sl 1 off n (some c),.v (.int .i64 n),.v (.int .i64 i)]++List.replicate 24 .aH),todo:=LQ,defers:=[],ret:=false,kind:=.normal,ro:=none }
theorem VI (s r:Int)(tb l:List SV)(off n c:Nat):reach G6 2 60 (Fb s tb l off n c) VP [(0,0),(1,1)] [0,1] (Ga r off n c 0) 6 [cv tb,cv l]=[V1 IntKind.u32 (IntKind.u32.wrap (↑(BitVec.ofInt 32 IntKind.u32.max ^^^ BitVec.ofInt 32 s).toNat:Int))=V1 IntKind.u32 r,off=off/\n=n/\some c=some c,vZ (↑n:Int)=vZ (↑n:Int),vZ 0=vZ 0,tb=tb,tb.all ab=true,l=l,l.all ab=true]:=by kernel_rfl
theorem Sx (r r' i i' z v1 v2:Int)(tb l:List SV)(off n c:Nat):reach G6 2 100 (SM.at (Ga r off n c i) 6 [cv tb,cv l]) (ff [0] true++[(2,.cells [.v (.int .u8 z)]),(4,.cells [.v (.int .u32 v1)]),(6,.cells [.v (.int .u32 v2)])]) [(0,0),(1,1)] [0,1] (Ga r' off n c i') 6 [cv tb,cv l]=[V1 IntKind.u32 (IntKind.u32.wrap (↑(BitVec.ofInt 32 ((IntKind.u32.wrap (↑(BitVec.ofInt 32 ((IntKind.u32.wrap (↑(BitVec.ofInt 32 r ^^^ BitVec.ofInt 32 (IntKind.u32.wrap z)).toNat:Int)).fdiv (2 ^ 4)) ^^^ BitVec.ofInt 32 v1).toNat:Int)).fdiv (2 ^ 4)) ^^^ BitVec.ofInt 32 v2).toNat:Int))=V1 IntKind.u32 r',off=off/\n=n/\some c=some c,vZ (↑n:Int)=vZ (↑n:Int),vZ (IntKind.i64.wrap (i+1))=vZ i',tb=tb,tb.all ab=true,l=l,l.all ab=true,tb[0+(IntKind.u32.wrap (↑(BitVec.ofInt 32 (IntKind.u32.wrap (↑(BitVec.ofInt 32 ((IntKind.u32.wrap (↑(BitVec.ofInt 32 r ^^^ BitVec.ofInt 32 (IntKind.u32.wrap z)).toNat:Int)).fdiv (2 ^ 4)) ^^^ BitVec.ofInt 32 v1).toNat:Int)) &&& BitVec.ofInt 32 15).toNat:Int)).toNat*1]?=some (SV.v (V1 IntKind.u32 v2)),ai (IntKind.u32.wrap (↑(BitVec.ofInt 32 (IntKind.u32.wrap (↑(BitVec.ofInt 32 ((IntKind.u32.wrap (↑(BitVec.ofInt 32 r ^^^ BitVec.ofInt 32 (IntKind.u32.wrap z)).toNat:Int)).fdiv (2 ^ 4)) ^^^ BitVec.ofInt 32 v1).toNat:Int)) &&& BitVec.ofInt 32 15).toNat:Int)) 16=true,tb[0+(IntKind.u32.wrap (↑(BitVec.ofInt 32 (IntKind.u32.wrap (↑(BitVec.ofInt 32 r ^^^ BitVec.ofInt 32 (IntKind.u32.wrap z)).toNat:Int)) &&& BitVec.ofInt 32 15).toNat:Int)).toNat*1]?=some (SV.v (V1 IntKind.u32 v1)),ai (IntKind.u32.wrap (↑(BitVec.ofInt 32 (IntKind.u32.wrap (↑(BitVec.ofInt 32 r ^^^ BitVec.ofInt 32 (IntKind.u32.wrap z)).toNat:Int)) &&& BitVec.ofInt 32 15).toNat:Int)) 16=true,l[off+i.toNat*1]?=some (SV.v (V1 IntKind.u8 z)),ai i n=true,decide (i<(↑n:Int))=true]:=by kernel_rfl
theorem TL (r i:Int)(tb l:List SV)(off n c:Nat)(v:Value):ao G6 95 60 (SM.at (Ga r off n c i) 6 [cv tb,cv l]) (ff [0] false) v=[V1 IntKind.u32 (IntKind.u32.wrap (↑(BitVec.ofInt 32 IntKind.u32.max ^^^ BitVec.ofInt 32 r).toNat:Int))=v,decide (i<(↑n:Int))=false]:=by kernel_rfl
def F4 (s:Int)(l:List SV)(off n c:Nat):SM:=(a6 bn 69 [.v (.int .u32 s),.sl 0 off n (some c)] (bG 6 1 0 [cv l])).getD dn
def MA:List SI:=dA bn 2 60 (F4 0 [] 0 0 0) VP
def Dn (r:Int)(off n c:Nat)(i:Int):SF:={ fn:=69,tm:=e9 38 6 ([.aH,.sl 0 off n (some c),.aH,.aH,.aH,.v (.int .u32 r),.v (.int .i64 i)]++List.replicate 31 .aH),todo:=MA,defers:=[],ret:=false,kind:=.normal,ro:=none }
def Mh:List SI:=dA bn 6 60 (SM.at (Dn 0 0 0 0 0) 6 [cv []]) (ff [0] true++[(2,.cells [.v (.int .u8 0)])])
def zM (r:Int)(off n c:Nat)(i k:Int):SF:={ fn:=69,tm:=e9 38 6 ([.aH,.sl 0 off n (some c),.aH,.aH,.aH,.v (.int .u32 r),.v (.int .i64 i),.v (.int .i64 k)]++List.replicate 30 .aH),todo:=Mh,defers:=[],ret:=false,kind:=.normal,ro:=none }
theorem S9 (s r:Int)(l:List SV)(off n c:Nat):reach bn 2 60 (F4 s l off n c) VP [(0,0)] [0] (Dn r off n c 0) 6 [cv l]=[off=off/\n=n/\some c=some c,V1 IntKind.u32 (IntKind.u32.wrap (4294967295 - s))=V1 IntKind.u32 r,vZ 0=vZ 0,l=l,l.all ab=true]:=by kernel_rfl
theorem Q9 (r r' i z:Int)(l:List SV)(off n c:Nat):reach bn 6 60 (SM.at (Dn r off n c i) 6 [cv l]) (ff [0] true++[(2,.cells [.v (.int .u8 z)])]) [(0,0)] [0] (zM r' off n c i 0) 6 [cv l]=[off=off/\n=n/\some c=some c,V1 IntKind.u32 (IntKind.u32.wrap (↑(BitVec.ofInt 32 r ^^^ BitVec.ofInt 32 (IntKind.u32.wrap z)).toNat:Int))=V1 IntKind.u32 r',vZ i=vZ i,vZ 0=vZ 0,l=l,l.all ab=true,l[off+i.toNat*1]?=some (SV.v (V1 IntKind.u8 z)),ai i n=true,decide (i<(↑n:Int))=true]:=by kernel_rfl
theorem Sn (r r' i k k':Int)(l:List SV)(off n c:Nat):reach bn 6 60 (SM.at (zM r off n c i k) 6 [cv l]) (ff [0,1] true) [(0,0)] [0] (zM r' off n c i k') 6 [cv l]=[off=off/\n=n/\some c=some c,V1 IntKind.u32 (IntKind.u32.wrap (↑(BitVec.ofInt 32 (IntKind.u32.wrap (r.tdiv 2)) ^^^ BitVec.ofInt 32 2197175160).toNat:Int))=V1 IntKind.u32 r',vZ i=vZ i,vZ (IntKind.i64.wrap (k+1))=vZ k',l=l,l.all ab=true,(r.tmod (2:Int)==1)=true,decide (k<8)=true]:=by kernel_rfl
theorem VM (r r' i k k':Int)(l:List SV)(off n c:Nat):reach bn 6 60 (SM.at (zM r off n c i k) 6 [cv l]) (ff [0] true++ff [1] false) [(0,0)] [0] (zM r' off n c i k') 6 [cv l]=[off=off/\n=n/\some c=some c,V1 IntKind.u32 (IntKind.u32.wrap (r.tdiv 2))=V1 IntKind.u32 r',vZ i=vZ i,vZ (IntKind.i64.wrap (k+1))=vZ k',l=l,l.all ab=true,(r.tmod (2:Int)==1)=false,decide (k<8)=true]:=by kernel_rfl
theorem UM (r i i' k:Int)(l:List SV)(off n c:Nat):reach bn 2 60 (SM.at (zM r off n c i k) 6 [cv l]) (ff [0] false) [(0,0)] [0] (Dn r off n c i') 6 [cv l]=[off=off/\n=n/\some c=some c,V1 IntKind.u32 r=V1 IntKind.u32 r,vZ (IntKind.i64.wrap (i+1))=vZ i',l=l,l.all ab=true,decide (k<8)=false]:=by kernel_rfl
theorem Ro (r i:Int)(l:List SV)(off n c:Nat)(v:Value):ao bn 69 60 (SM.at (Dn r off n c i) 6 [cv l]) (ff [0] false) v=[V1 IntKind.u32 (IntKind.u32.wrap (4294967295 - r))=v,decide (i<(↑n:Int))=false]:=by kernel_rfl
open Go Go.Rx Go.RowKit Go.Proofs
def st1 (n:Nat):Nat:=if n % 2=1 then (n / 2) ^^^ 2197175160 else n / 2
def qS (n:Nat):Nat:=st1 (st1 (st1 (st1 n)))
def ML:List Nat:=[0,274646895,549293790,820201905,1098587580,1361435347,1640403810,1905808397,2197175160,2460548119,2722870694,2987750089,3280807620,3553878443,3811616794,4084100981]
theorem rI (a b:Nat):st1 (a ^^^ b)=st1 a ^^^ st1 b:=by
 have h1:(a ^^^ b) / 2=a / 2 ^^^ b / 2:=by
  apply Nat.eq_of_testBit_eq;intro i;simp[Nat.testBit_div_two]
 have h2:(a ^^^ b) % 2=1↔¬ (a % 2=1↔b % 2=1):=by
  have:=Nat.testBit_xor a b 0;simp only[Nat.testBit_zero]at this
  have e:=decide_eq_decide.1 (show decide ((a ^^^ b) % 2=1)=decide (¬ (a % 2=1↔b % 2=1)) from by
   rw[this];by_cases ha:a % 2=1<;>by_cases hb:b % 2=1<;>simp[ha,hb])
  exact e
 unfold st1;by_cases ha:a % 2=1
 ·by_cases hb:b % 2=1
  ·rw[if_neg (by rw[h2];simp[ha,hb]),if_pos ha,if_pos hb,h1,Nat.xor_assoc,Nat.xor_comm (b / 2) 2197175160,<- Nat.xor_assoc 2197175160,Nat.xor_self,Nat.zero_xor]
  ·rw[if_pos (by rw[h2];simp[ha,hb]),if_pos ha,if_neg hb,h1,Nat.xor_assoc,Nat.xor_comm (b / 2),<- Nat.xor_assoc]
 ·by_cases hb:b % 2=1
  ·rw[if_pos (by rw[h2];simp[ha,hb]),if_neg ha,if_pos hb,h1,Nat.xor_assoc]
  ·rw[if_neg (by rw[h2];simp[ha,hb]),if_neg ha,if_neg hb,h1]
theorem Ig (a b:Nat):qS (a ^^^ b)=qS a ^^^ qS b:=by
 unfold qS;rw[rI,rI,rI,rI]
theorem Ft (q:Nat):qS (16*q)=q:=by
 have e:∀ m:Nat,st1 (2*m)=m:=fun m=>by
  unfold st1;rw[if_neg (by omega)];omega
 unfold qS;rw[show 16*q=2*(2*(2*(2*q))) by omega,e,e,e,e]
theorem Ip:(List.range 16).all (fun k=>decide (some (qS k)=ML[k]?))=true:=by kernel_rfl
theorem LU {k:Nat}(h:k<16):ML[k]?=some (qS k):=(Ws (Wn.1 Ip k (Xd.2 h))).symm
theorem Jc (n:Nat):(16*(n / 16)) ^^^ (n % 16)=n:=by
 apply Nat.eq_of_testBit_eq;intro i;rw[Nat.testBit_xor,show 16=2 ^ 4 from rfl,Nat.testBit_two_pow_mul,Nat.testBit_mod_two_pow,Nat.testBit_div_two_pow];by_cases h:i<4
 ·simp[h,show ¬ i≥4 by omega]
 ·simp[h,show i≥4 by omega,show 4+(i - 4)=i by omega,show i - 4+4=i by omega]
theorem half (n:Nat):(n / 16) ^^^ qS (n % 16)=qS n:=by
 conv=>rhs;rw[<- Jc n,Ig,Ft]
def OP (n:Nat):Nat:=qS (qS n)
def uJ (r:Nat)(zs:List Int):Nat:=zs.foldl (fun r z=>OP (r ^^^ z.toNat)) r
def eF (zs:List Int):Nat:=4294967295 - uJ 4294967295 zs
theorem tp {n:Nat}(h:n<4294967296):st1 n<4294967296:=by
 unfold st1;split
 ·exact Nat.xor_lt_two_pow (n:=32) (by omega) (by decide)
 ·omega
theorem sS {n:Nat}(h:n<4294967296):qS n<4294967296:=tp (tp (tp (tp h)))
theorem LL {n:Nat}(h:n<4294967296):OP n<4294967296:=sS (sS h)
theorem xO {a b:Nat}(ha:a<4294967296)(hb:b<4294967296):a ^^^ b<4294967296:=Nat.xor_lt_two_pow (n:=32) ha hb
theorem u32_in {k:Nat}(h:k<4294967296):IntKind.u32.wrap (k:Int)=(k:Int):=by
 rw[show IntKind.u32.wrap (k:Int)=(k:Int) % 4294967296 from rfl];omega
theorem x6 {a:Nat}(h:a<4294967296):(BitVec.ofInt 32 (a:Int)).toNat=a:=by
 rw[BitVec.ofInt_natCast,X3];omega
theorem Ej {a b:Nat}(ha:a<4294967296)(hb:b<4294967296):IntKind.u32.wrap (((BitVec.ofInt 32 (a:Int) ^^^ BitVec.ofInt 32 (b:Int)).toNat:Nat):Int)=((a ^^^ b:Nat):Int):=by
 rw[BitVec.toNat_xor,x6 ha,x6 hb,u32_in (xO ha hb)]
theorem Lc {a:Nat}(ha:a<4294967296):IntKind.u32.wrap (((BitVec.ofInt 32 (a:Int) &&& BitVec.ofInt 32 15).toNat:Nat):Int)=((a % 16:Nat):Int):=by
 rw[show (15:Int)=((15:Nat):Int) from rfl,BitVec.toNat_and,x6 ha,x6 (by omega),show a &&& 15=a % 16 from Nat.and_two_pow_sub_one_eq_mod a 4,u32_in (by omega)]
theorem Qm {r:Nat}(h:r<4294967296):4294967295 ^^^ r=4294967295 - r:=by
 have h1:=BitVec.toNat_not (x:=BitVec.ofNat 32 r);rw[BitVec.not_def,BitVec.toNat_xor,BitVec.toNat_allOnes,X3,Yc (by omega)]at h1;exact h1
def bC (z:Int):List SV:=[.v (.int .u8 z)]
theorem MI (z:Int):(bC z).length=1:=rfl
theorem mB (z:Int):(bC z).all ab=true:=rfl
def qe:List SV:=ML.map fun n:Nat=>SV.v (.int .u32 (n:Int))
theorem qp:qe.all ab=true:=by kernel_rfl
theorem C1 {n:Nat}:qe[0+((n % 16:Nat):Int).toNat*1]?=some (.v (.int .u32 ((qS (n % 16):Nat):Int))):=by
 rw[V5,W8,XJ];unfold qe;rw[Wv,LU (Yb _ (by decide))];rfl
theorem NX {off:Nat}{zs:List Int}{k:Nat}{z:Int}(h:zs[k]?=some z):(aT bC off zs)[off+(k:Int).toNat*1]?=some (.v (.int .u8 z)):=by
 have h1:=gG (off:=off) MI h;rw[V5];have h2:((aT bC off zs).drop (off+k*1))[0]?=(bC z)[0]?:=by rw[<- h1,WN,if_pos (by decide)]
 rw[W7,X6]at h2;exact h2
theorem u5 {r:Nat}{zs:List Int}{i:Nat}(h:i<zs.length):uJ r (zs.take (i+1))=OP (uJ r (zs.take i) ^^^ zs[i].toNat):=by
 unfold uJ;rw[Wp h,Yn];rfl
theorem pk {r:Nat}(hr:r<4294967296):∀ {zs:List Int},(∀ z∈zs,0<=z/\z<256)->uJ r zs<4294967296
 | [],_=>hr
 | z::zs,h=>by
  have hz:=h z Wj
  exact pk (LL (xO hr (by omega))) fun y hy=>h y (Wc _ hy)
section
variable {w0:World}{cs0:List Frame}{R:Ending->World->Prop}{M:Own}{ν:aP}{zs:List Int}{off c:Nat}
theorem Hf (hν:∀ i b,ν i=some b->i=0\/i=1)(hM:∀ b,¬ M b)(YO:zs.length<=140737488355328)(hz:∀ z∈zs,0<=z/\z<256)(hR:∀ w',Below w0.heap.size w0 w'->R (.returned (.int .u32 ((eF zs:Nat):Int))) w'):∀ (j i:Nat),i+j=zs.length->
  af G6 M w0 cs0 95 R ν (SM.at (Ga ((uJ 4294967295 (zs.take i):Nat):Int) off zs.length c (i:Int)) 6 [cv qe,cv (aT bC off zs)])
 | 0,i,hj=>by
  refine af.ao O4 (n:=60) (o:=ff [0] false) (v:=.int .u32 ((eF zs:Nat):Int)) ?_ fun ν' M1 w1 s' w' _ hB hr=>hR w' (aB hM hB hr)
  have hl:=pk (r:=4294967295) (by decide) hz
  rw[TL,We (by omega),show IntKind.u32.max=((4294967295:Nat):Int) from rfl,Ej (by decide) hl,Qm hl]
  simp only[ah,VV,VX,VW]
  exact⟨V2 (by omega),rfl⟩
 | j+1,i,hj=>by
  have hi:i<zs.length:=by omega
  have nx:=Hf hν hM YO hz hR j (i+1) (by omega)
  rw[u5 hi]at nx
  have hzi:=hz _ (WS hi)
  have hq:zs[i]?=some zs[i]:=V4 hi
  have hl:=pk (r:=4294967295) (zs:=zs.take i) (by decide) fun z h=>hz z (List.mem_of_mem_take h)
  generalize zs[i]=z at hzi hq nx
  generalize uJ 4294967295 (zs.take i)=r at hl nx ⊢
  obtain⟨y,rfl⟩:∃ y:Nat,z=y:=⟨z.toNat,by omega⟩
  rw[V5]at nx
  have t1:decide ((i:Int)<(zs.length:Int))=true:=V0 (by omega)
  have r1:=aJ hi
  have ra:=NX (off:=off) hq
  have ws:IntKind.i64.wrap ((i:Int)+1)=((i+1:Nat):Int):=by rw[Xx _ (by omega)];omega
  have h0:y<4294967296:=by omega
  have h1:=xO hl h0
  have w0':IntKind.u32.wrap (y:Int)=(y:Int):=u32_in h0
  have x1:=Ej hl h0
  generalize hx:r ^^^ y=x at h1 x1 nx
  have a1:=Lc h1
  have f1:=words.wg x
  have h2:x / 16<4294967296:=by omega
  have h3:qS (x % 16)<4294967296:=sS (by omega)
  have x2:=Ej h2 h3
  rw[half]at x2
  have h4:=sS h1
  have a2:=Lc h4
  have f2:=words.wg (qS x)
  have h5:qS x / 16<4294967296:=by omega
  have h6:qS (qS x % 16)<4294967296:=sS (by omega)
  have x3:=Ej h5 h6
  rw[half]at x3
  have i1:ai ((x % 16:Nat):Int) 16=true:=aJ (Yb _ (by decide))
  have i2:ai ((qS x % 16:Nat):Int) 16=true:=aJ (Yb _ (by decide))
  have c1:=C1 (n:=x)
  have c2:=C1 (n:=qS x)
  have YJ:(aT bC off zs).all ab=true:=ca mB
  refine af.reach O4 (k:=2) (n:=100) (o:=ff [0] true++[(2,.cells [.v (.int .u8 (y:Int))]),(4,.cells [.v (.int .u32 ((qS (x % 16):Nat):Int))]),(6,.cells [.v (.int .u32 ((qS (qS x % 16):Nat):Int))])]) (ren:=[(0,0),(1,1)]) (eqs:=[0,1]) ?_ (by kernel_rfl) (fun i b h=>by rcases hν i b h with h|h<;>rw[h]<;>rfl) nx
  rw[Sx]
  simp only[ah,t1,r1,ra,ws,w0',x1,a1,f1,x2,a2,f2,x3,i1,i2,c1,c2,YJ,qp,VV,VX,VW]
  try (repeat' apply And.intro)
  all_goals first|rfl|skip
theorem IA:∀ (j r:Nat),Nat.repeat st1 j (st1 r)=Nat.repeat st1 (j+1) r:=by
 intro j;induction j with
 | zero=>intro r;rfl
 | succ j ih=>intro r;show st1 (Nat.repeat st1 j (st1 r))=st1 (Nat.repeat st1 (j+1) r);rw[ih]
theorem Mz (hν:∀ i b,ν i=some b->i=0){i:Nat}{l:List SV}(YJ:l.all ab=true){n:Nat}:∀ (j k r:Nat),k+j=8->r<4294967296->af bn M w0 cs0 69 R ν (SM.at (zM ((Nat.repeat st1 j r:Nat):Int) off n c (i:Int) ((8:Nat):Int)) 6 [cv l])->
  af bn M w0 cs0 69 R ν (SM.at (zM (r:Int) off n c (i:Int) (k:Int)) 6 [cv l]):=by
 intro j;induction j with
 | zero=>
  intro k r hk hr nx;have e:k=8:=by omega
  rw[e];exact nx
 | succ j IH=>
  intro k r hk hr nx;have ih:=IH (k+1) (st1 r) (by omega) (tp hr) (by rw[IA];exact nx);have ws:=aU (k:=k) (by omega);have t1:decide ((k:Int)<8)=true:=V0 (by omega);have e1:(r:Int).tdiv 2=((r / 2:Nat):Int):=rfl;have e2:(r:Int).tmod 2=((r % 2:Nat):Int):=rfl;have e3:=u32_in (k:=r / 2) (by omega);by_cases h:r % 2=1
  ·have e4:(((r % 2:Nat):Int)==1)=true:=by rw[h];rfl
   have e5:=Ej (a:=r / 2) (b:=2197175160) (by omega) (by decide);have e6:st1 r=(r / 2) ^^^ 2197175160:=by unfold st1;rw[if_pos h]
   rw[e6]at ih;refine af.reach fQ (k:=6) (n:=60) (o:=ff [0,1] true) (ren:=[(0,0)]) (eqs:=[0]) ?_ (by kernel_rfl) (fun i b h=>by rw[hν i b h];rfl) ih;rw[Sn];have e7:((2197175160:Nat):Int)=(2197175160:Int):=rfl;rw[e7]at e5;simp only[ah,e1,e2,e3,e4,e5,ws,t1,YJ,VV,VX,VW]
  ·have e4:(((r % 2:Nat):Int)==1)=false:=by rw[show r % 2=0 by omega];rfl
   have e6:st1 r=r / 2:=by unfold st1;rw[if_neg h]
   rw[e6]at ih;refine af.reach fQ (k:=6) (n:=60) (o:=ff [0] true++ff [1] false) (ren:=[(0,0)]) (eqs:=[0]) ?_ (by kernel_rfl) (fun i b h=>by rw[hν i b h];rfl) ih;rw[VM];simp only[ah,e1,e2,e3,e4,ws,t1,YJ,VV,VX,VW]
theorem G4 (hν:∀ i b,ν i=some b->i=0)(hM:∀ b,¬ M b)(YO:zs.length<=140737488355328)(hz:∀ z∈zs,0<=z/\z<256)(hR:∀ w',Below w0.heap.size w0 w'->R (.returned (.int .u32 ((eF zs:Nat):Int))) w'):∀ (j i:Nat),i+j=zs.length->
  af bn M w0 cs0 69 R ν (SM.at (Dn ((uJ 4294967295 (zs.take i):Nat):Int) off zs.length c (i:Int)) 6 [cv (aT bC off zs)])
 | 0,i,hj=>by
  refine af.ao fQ (n:=60) (o:=ff [0] false) (v:=.int .u32 ((eF zs:Nat):Int)) ?_ fun ν' M1 w1 s' w' _ hB hr=>hR w' (aB hM hB hr)
  have hl:=pk (r:=4294967295) (by decide) hz
  have e:(4294967295:Int) - ((uJ 4294967295 zs:Nat):Int)=((eF zs:Nat):Int):=by unfold eF;omega
  rw[Ro,We (by omega),e,u32_in (by unfold eF;omega)]
  simp only[ah,VV,VX,VW]
  exact V2 (by omega)
 | j+1,i,hj=>by
  have hi:i<zs.length:=by omega
  have nx:=G4 hν hM YO hz hR j (i+1) (by omega)
  rw[u5 hi]at nx
  have hzi:=hz _ (WS hi)
  have hq:zs[i]?=some zs[i]:=V4 hi
  have hl:=pk (r:=4294967295) (zs:=zs.take i) (by decide) fun z h=>hz z (List.mem_of_mem_take h)
  generalize zs[i]=z at hzi hq nx
  generalize uJ 4294967295 (zs.take i)=r at hl nx ⊢
  obtain⟨y,rfl⟩:∃ y:Nat,z=y:=⟨z.toNat,by omega⟩
  rw[V5]at nx
  have t1:decide ((i:Int)<(zs.length:Int))=true:=V0 (by omega)
  have r1:=aJ hi
  have ra:=NX (off:=off) hq
  have ws:IntKind.i64.wrap ((i:Int)+1)=((i+1:Nat):Int):=by rw[Xx _ (by omega)];omega
  have h0:y<4294967296:=by omega
  have w0':IntKind.u32.wrap (y:Int)=(y:Int):=u32_in h0
  have x1:=Ej hl h0
  have h1:=xO hl h0
  have YJ:(aT bC off zs).all ab=true:=ca mB
  have mid:=Mz (cs0:=cs0) (R:=R) (M:=M) (w0:=w0) (off:=off) (c:=c) (n:=zs.length) (i:=i) (l:=aT bC off zs) hν YJ 8 0 (r ^^^ y) (by omega) h1 (by
   refine af.reach fQ (k:=2) (n:=60) (o:=ff [0] false) (ren:=[(0,0)]) (eqs:=[0]) ?_ (by kernel_rfl) (fun i b h=>by rw[hν i b h];rfl) nx
   rw[show Nat.repeat st1 8 (r ^^^ y)=OP (r ^^^ y) from rfl,UM]
   simp only[ah,ws,YJ,VV,VX,VW]
   exact V2 (by omega))
  refine af.reach fQ (k:=6) (n:=60) (o:=ff [0] true++[(2,.cells [.v (.int .u8 (y:Int))])]) (ren:=[(0,0)]) (eqs:=[0]) ?_ (by kernel_rfl) (fun i b h=>by rw[hν i b h];rfl) mid
  rw[show ((0:Nat):Int)=0 from rfl,Q9]
  simp only[ah,t1,r1,ra,w0',x1,YJ,VV,VX,VW]
  try (repeat' apply And.intro)
  all_goals first|rfl|skip
end
def lJ (w:World):Prop:=Rx.Told w (0,qe)
theorem lJ.keep {w0 w:World}(h:lJ w0)(hk:∀ k,k<w0.heap.size->w.heap[k]?=w0.heap[k]?):lJ w:=by
 obtain⟨ys,c,e,fz,h1,h2,h3⟩:=h;exact⟨ys,c,e,fz,(hk _ (VY.1 h1).1).trans h1,h2,h3⟩
def Ki (a:Option Addr)(c:Nat):SM:=(a6 G6 95 [.v (.int .u32 0),.v (.slice a 0 c)] (bG 6 1 0 [cv qe])).getD dn
theorem mz (a:Option Addr)(c:Nat)(v:Value):ao G6 95 60 (Ki a c) (ff [1] true++ff [0] false) v=[V1 IntKind.u32 (IntKind.u32.wrap (↑(0:Nat):Int))=v,false=false]:=by kernel_rfl
theorem rz (a:Option Addr)(c:Nat)(v:Value):ao bn 69 60 (a7 bn 69 [.v (.int .u32 0),.v (.slice a 0 c)]) (ff [1] true++ff [0] false) v=[V1 IntKind.u32 (IntKind.u32.wrap (4294967295 - IntKind.u32.wrap (4294967295 - 0)))=v,false=false]:=by kernel_rfl
theorem wa {w:World}{b:Addr}{l:Nat}{zs:List Int}(h:e8 w (some b) l zs)(hl:0<l):∃ cs e fz,b=⟨b.block,b.off,none⟩/\w.heap[b.block]?=some (.cells cs e fz)/\b.off<=cs.size/\∀ (k:Nat) (v:Value),(zs.map (Value.int .u8))[k]?=some v->cs[b.off+k]?=some v:=by
 obtain⟨h1,_,h2⟩:=h;have key:=fun i hi=>h2 b rfl i hi w (fun _ _=>rfl);have h0:=key 0 hl;unfold World.cell? Addr.add at h0;rw[if_pos rfl]at h0;split at h0
 ·rename_i cs e fz hh;split at h0
  ·cases h0
  ·rename_i hs;have hsp:b.spot=none:=by simpa using hs
   refine⟨cs,e,fz,?_,hh,?_,fun k v hk=>?_⟩
   ·cases b;simp only at hsp;rw[hsp]
   ·have:=(VY.1 h0).1;omega
   ·have hkl:k<l:=by
     have:=(WB.1 hk).1;simpa[h1] using this
    have hv:=key k hkl;unfold World.cell? Addr.add at hv;rw[Wv,V4 (by omega)]at hk;cases hk;rw[Xo,V4 (by omega)]at hv;by_cases Z5:k=0
    ·subst Z5;rw[if_pos rfl,hh]at hv;dsimp only at hv;rw[if_neg (by simp[hsp])]at hv;exact hv
    ·rw[if_neg Z5]at hv;dsimp only at hv;rw[hh]at hv;dsimp only at hv;rw[if_neg (by simp)]at hv;exact hv
 ·cases h0
theorem Cg (zs:List Int):zs.flatMap (fun z=>[Value.int .u8 z])=zs.map (Value.int .u8):=by
 induction zs with
 | nil=>rfl
 | cons z zs ih=>rw[XL,ih];rfl
theorem Bg {w:World}{a:Option Addr}{l c:Nat}{zs:List Int}(hd:uw w a l zs)(ZF:l<=c\/l=0)(Yu:∀ b,a=some b->0<l->(0:Nat)≠b.block)(hz:∀ z∈zs,0<=z/\z<256)(ht:lJ w):Calls Tryz.prog 95 #[.int .u32 0,.slice a l c] w fun e w'=>Below w.heap.size w w'/\e=.returned (.int .u32 ((eF zs:Nat):Int)):=by
 obtain⟨ts,tc,te,tf,th,tv,tk⟩:=ht;by_cases hl:l=0
 ·subst hl;have hzs:zs=[]:=Wd.1 hd.1.1;subst hzs
  have ho:∀ (j:Nat) (o':SO) (b' c':Nat),[SO.look qe][j]?=some o'->[(0,0)][j]?=some (b',c')->∃ r,w.heap[b']?=some r/\OR (aA [(0,0)]) j o' r:=by
   intro j o' b' c' q1 q2;match j with
   | 0=>
    simp only[Wa,Option.some.injEq]at q1 q2;subst q1;cases q2;exact⟨_,th,ts,_,_,_,rfl,tv _,tk⟩
   | j+1=>simp at q1
  refine qB (E:=G6) rfl (d:=6) (l:=[(0,0)]) (os:=[.look qe]) rfl (by simp) (by simp) ho (fun g i h=>by
   by_cases hg:g=0
   ·subst hg;cases h;exact⟨0,rfl⟩
   ·have:([(0,0)]:List (Nat × Nat)).lookup g=none:=by simp[List.lookup,Wr.2 hg]
    exact absurd (this.symm.trans h) (by simp)) (args:=[.v (.int .u32 0),.v (.slice a 0 c)]) (a:=[.int .u32 0,.slice a 0 c]) (S0:=Ki a c) (by kernel_rfl) (au.cons (VR.ae.2 rfl) (au.cons (VR.ae.2 rfl) au.nil)) fun cs0=>?_
  refine af.ao O4 (n:=60) (o:=ff [1] true++ff [0] false) (v:=.int .u32 ((eF []:Nat):Int)) ?_ fun ν' M1 w1 s' w' _ Zh hr=>⟨aB (fun z=>aZ (os:=[SO.look qe])) Zh hr,rfl⟩;rw[mz];simp only[ah,VV,VX,VW];first|done|kernel_rfl
 ·cases a with
  | none=>exact absurd (hd.2 rfl) hl
  | some b=>
   obtain⟨cs,e,fz,hb,hh,Y4,hc⟩:=wa hd.1 (by omega);have hzl:zs.length=l:=hd.1.1;have Yu:=Yu b rfl (by omega);have ZF:l<=c:=by omega
   have ho:∀ (j:Nat) (o':SO) (b' c':Nat),[SO.look qe,SO.look (aT bC b.off zs)][j]?=some o'->[(0,0),(b.block,0)][j]?=some (b',c')->∃ r,w.heap[b']?=some r/\OR (aA [(0,0),(b.block,0)]) j o' r:=by
    intro j o' b' c' q1 q2;match j with
    | 0=>
     simp only[Wa,Option.some.injEq]at q1 q2;subst q1;cases q2;exact⟨_,th,ts,_,_,_,rfl,tv _,tk⟩
    | 1=>
     simp only[WU,Wa,Option.some.injEq]at q1 q2;subst q1;cases q2;exact⟨_,hh,eJ (h:=fun z=>[Value.int .u8 z]) (fun ν x=>au.lits ν [Value.int .u8 x]) Y4 (by rw[Cg];exact hc)⟩
    | j+2=>simp at q1
   have hM:∀ z,¬ (aD [(0,0),(b.block,0)] ([SO.look qe,SO.look (aT bC b.off zs)].map fun o=>(o,false))) z:=fun z=>aZ (os:=[_,_])
   refine qB (E:=G6) rfl (d:=6) (l:=[(0,0),(b.block,0)]) (os:=[.look qe,.look (aT bC b.off zs)]) rfl (by simp) (by simpa using Yu) ho (fun g i h=>by
    by_cases hg:g=0
    ·subst hg;cases h;exact⟨0,rfl⟩
    ·have:([(0,0)]:List (Nat × Nat)).lookup g=none:=by simp[List.lookup,Wr.2 hg]
     exact absurd (this.symm.trans h) (by simp)) (args:=[.v (.int .u32 0),.sl 1 b.off zs.length (some c)]) (a:=[.int .u32 0,.slice (some b) l c]) (S0:=Fb 0 qe (aT bC b.off zs) b.off zs.length c) (by kernel_rfl) (au.cons (VR.ae.2 rfl) (au.cons (VR.aL.2 ⟨(b.block,0),rfl,by rw[hzl];exact ZF,by rw[hzl,<- hb];rfl⟩) au.nil)) fun cs0=>?_
   have hν:∀ i b',aA [(0,0),(b.block,0)] i=some b'->i=0\/i=1:=fun i b' h=>by
    match i with
    | 0=>exact .inl rfl
    | 1=>exact .inr rfl
    | i+2=>simp[aA]at h
   have nx:=Hf (w0:=w) (cs0:=cs0) (zs:=zs) (off:=b.off) (c:=c) (R:=fun e w'=>Below w.heap.size w w'/\e=.returned (.int .u32 ((eF zs:Nat):Int))) hν hM (by rw[hzl];exact hd.1.2.1) hz (fun w' hw=>⟨hw,rfl⟩) zs.length 0 (by omega);have YJ:(aT bC b.off zs).all ab=true:=ca mB;refine af.reach O4 (k:=2) (n:=60) (o:=VP) (ren:=[(0,0),(1,1)]) (eqs:=[0,1]) ?_ (by kernel_rfl) (fun i b h=>by rcases hν i b h with h|h<;>rw[h]<;>rfl) nx;rw[show ((0:Nat):Int)=0 from rfl,VI];simp only[ah,qp,YJ,VV,VX,VW];first|done|rfl|kernel_rfl
theorem yr {w:World}{a:Option Addr}{l c:Nat}{zs:List Int}(hd:uw w a l zs)(ZF:l<=c\/l=0)(hz:∀ z∈zs,0<=z/\z<256):Calls Tryz.prog 69 #[.int .u32 0,.slice a l c] w fun e w'=>Below w.heap.size w w'/\e=.returned (.int .u32 ((eF zs:Nat):Int)):=by
 by_cases hl:l=0
 ·subst hl;have hzs:zs=[]:=Wd.1 hd.1.1;subst hzs;refine (bP (E:=bn) rfl rfl (args:=[.v (.int .u32 0),.v (.slice a 0 c)]) (a:=[.int .u32 0,.slice a 0 c]) (S0:=a7 bn 69 [.v (.int .u32 0),.v (.slice a 0 c)]) (by kernel_rfl) (au.cons (VR.ae.2 rfl) (au.cons (VR.ae.2 rfl) au.nil)) fun cs0=>?_);refine af.ao fQ (n:=60) (o:=ff [1] true++ff [0] false) (v:=.int .u32 ((eF []:Nat):Int)) ?_ fun ν' M1 w1 s' w' _ Zh hr=>⟨aB aE Zh hr,rfl⟩;rw[rz];simp only[ah,VV,VX,VW];first|done|kernel_rfl
 ·cases a with
  | none=>exact absurd (hd.2 rfl) hl
  | some b=>
   obtain⟨cs,e,fz,hb,hh,Y4,hc⟩:=wa hd.1 (by omega);have hzl:zs.length=l:=hd.1.1;have ZF:l<=c:=by omega
   have ho:∀ (j:Nat) (o':SO) (b' c':Nat),[SO.look (aT bC b.off zs)][j]?=some o'->[(b.block,0)][j]?=some (b',c')->∃ r,w.heap[b']?=some r/\OR (aA [(b.block,0)]) j o' r:=by
    intro j o' b' c' q1 q2;match j with
    | 0=>
     simp only[Wa,Option.some.injEq]at q1 q2;subst q1;cases q2;exact⟨_,hh,eJ (h:=fun z=>[Value.int .u8 z]) (fun ν x=>au.lits ν [Value.int .u8 x]) Y4 (by rw[Cg];exact hc)⟩
    | j+1=>simp at q1
   have hM:∀ z,¬ (aD [(b.block,0)] ([SO.look (aT bC b.off zs)].map fun o=>(o,false))) z:=fun z=>aZ (os:=[_]);refine aW (E:=bn) rfl (d:=6) (l:=[(b.block,0)]) (os:=[.look (aT bC b.off zs)]) rfl (by simp) (by simp) ho rfl (args:=[.v (.int .u32 0),.sl 0 b.off zs.length (some c)]) (a:=[.int .u32 0,.slice (some b) l c]) (S0:=F4 0 (aT bC b.off zs) b.off zs.length c) (by kernel_rfl) (au.cons (VR.ae.2 rfl) (au.cons (VR.aL.2 ⟨(b.block,0),rfl,by rw[hzl];exact ZF,by rw[hzl,<- hb];rfl⟩) au.nil)) fun cs0=>?_;have hν:∀ i b',aA [(b.block,0)] i=some b'->i=0:=fun i b' h=>dj h;have nx:=G4 (w0:=w) (cs0:=cs0) (zs:=zs) (off:=b.off) (c:=c) (R:=fun e w'=>Below w.heap.size w w'/\e=.returned (.int .u32 ((eF zs:Nat):Int))) hν hM (by rw[hzl];exact hd.1.2.1) hz (fun w' hw=>⟨hw,rfl⟩) zs.length 0 (by omega);have YJ:(aT bC b.off zs).all ab=true:=ca mB
   refine af.reach fQ (k:=2) (n:=60) (o:=VP) (ren:=[(0,0)]) (eqs:=[0]) ?_ (by kernel_rfl) (fun i b h=>by rw[hν i b h];rfl) nx;rw[show ((0:Nat):Int)=0 from rfl,S9];simp only[ah,YJ,VV,VX,VW];first|done|rfl|kernel_rfl
def O2 (D:List ax)(a:Option Addr)(l c:Nat):Prop:=∃ x∈D,x.a=a/\x.l=l/\x.c=c
def vb (D:List ax)(zf:Option Addr->Nat->List Int):yC:=fun args sh=>match args with
 | [.v (.int .u32 s),.v (.slice a l c)]=>some (.int .u32 ((eF (zf a l):Nat):Int),s=0/\O2 D a l c)
 | _=>none
structure XD (D:List ax)(zf:Option Addr->Nat->List Int)(w:World):Prop where
 EZ:∀ x∈D,uw w x.a x.l (zf x.a x.l)
 cap:∀ x∈D,x.l<=x.c\/x.l=0
 rng:∀ x∈D,∀ z∈zf x.a x.l,0<=z/\z<256
structure XS (D:List ax)(zf:Option Addr->Nat->List Int)(w:World):Prop extends XD D zf w where
 tab:lJ w
 far:∀ x∈D,∀ b,x.a=some b->0<x.l->(0:Nat)≠b.block
theorem XD.keep {D:List ax}{zf:Option Addr->Nat->List Int}{w0 w:World}(h:XD D zf w0)(hk:∀ k,k<w0.heap.size->w.heap[k]?=w0.heap[k]?):XD D zf w:=⟨fun x hx=>(h.EZ x hx).keep hk,h.cap,h.rng⟩
theorem XS.keep {D:List ax}{zf:Option Addr->Nat->List Int}{w0 w:World}(h:XS D zf w0)(hk:∀ k,k<w0.heap.size->w.heap[k]?=w0.heap[k]?):XS D zf w:=⟨h.toXD.keep hk,h.tab.keep hk,h.far⟩
theorem IM {D:List ax}{zf:Option Addr->Nat->List Int}:bh Tryz.prog (XS D zf) (95,de (vb D zf)):=by
 refine dO ⟨_,Tryz.func95,by kernel_rfl,by kernel_rfl⟩ fun args sh v q h hq ν M w0 w a hr hX ha=>?_;unfold vb at h;split at h
 ·rename_i s a1 l1 c1;cases h;obtain⟨rfl,x,hx,rfl,rfl,rfl⟩:=hq;obtain⟨y1,ZK,rfl,q1,YH⟩:=ha.cons_inv;obtain⟨y2,as2,rfl,q2,Zx⟩:=YH.cons_inv;obtain rfl:=Zx.ay;obtain rfl:=VR.ae.1 q1;obtain rfl:=VR.ae.1 q2;exact Bg (hX.EZ x hx) (hX.cap x hx) (hX.far x hx) (hX.rng x hx) hX.tab
 ·cases h
theorem Gq {D:List ax}{zf:Option Addr->Nat->List Int}:bh Tryz.prog (XD D zf) (69,de (vb D zf)):=by
 refine dO ⟨_,Tryz.func69,by kernel_rfl,by kernel_rfl⟩ fun args sh v q h hq ν M w0 w a hr hX ha=>?_;unfold vb at h;split at h
 ·rename_i s a1 l1 c1;cases h;obtain⟨rfl,x,hx,rfl,rfl,rfl⟩:=hq;obtain⟨y1,ZK,rfl,q1,YH⟩:=ha.cons_inv;obtain⟨y2,as2,rfl,q2,Zx⟩:=YH.cons_inv;obtain rfl:=Zx.ay;obtain rfl:=VR.ae.1 q1;obtain rfl:=VR.ae.1 q2;exact yr (hX.EZ x hx) (hX.cap x hx) (hX.rng x hx)
 ·cases h
def Qa (D:List ax)(zf:Option Addr->Nat->List Int):List (FuncId × Sum):=[(95,de (vb D zf))]
def OT (D:List ax)(zf:Option Addr->Nat->List Int):Env:={ EP [] [] with YT:=fun f=>(Qa D zf).lookup f }
def Ku (D:List ax)(zf:Option Addr->Nat->List Int)(a:Option Addr)(l c:Nat):SM:=a7 (OT D zf) 26 [.v (.slice a l c)]
theorem Rm {M0 M:Own}{w00 w0:World}{D:List ax}{zf:Option Addr->Nat->List Int}(hM:∀ z,¬ M0 z)(hB:dh M0 w00 M w0)(hX:XS D zf w00):aK (OT D zf) M w0:=
 aK.uG (Checked.mixed Tryz.checked) (by kernel_rfl) (fh.of iJ rfl dK) (dy.list (X:=XS D zf) (l:=Qa D zf) rfl (fun r h=>by
  simp only[Qa,V8,Ww,Xc]at h
  rcases h with rfl
  exact IM) fun ν s w hr _=>hX.keep fun k hk=>(hr.frame k (Wz hk hB.size) (hB.frame k hk (hM k)).2).trans (hB.frame k hk (hM k)).1) (fun f g h=>by cases h)
def xW (n:Nat):ByteArray:=words.cx [words.fo (n / 2 ^ 28 % 16),words.fo (n / 2 ^ 24 % 16),words.fo (n / 2 ^ 20 % 16),words.fo (n / 2 ^ 16 % 16),words.fo (n / 2 ^ 12 % 16),words.fo (n / 2 ^ 8 % 16),words.fo (n / 2 ^ 4 % 16),words.fo (n / 2 ^ 0 % 16)]
def uI (n k:Nat):Int:=(((words.gK).data.getD (IntKind.u32.wrap (((BitVec.ofInt 32 ((n:Int).fdiv ((2:Int) ^ k)) &&& BitVec.ofInt 32 15).toNat:Nat):Int)).toNat 0).toNat:Int)
def E5 (n:Nat):ByteArray:=⟨⟨[uI n 28,uI n 24,uI n 20,uI n 16,uI n 12,uI n 8,uI n 4,uI n 0].map fun n=>UInt8.ofNat n.toNat⟩⟩
theorem sm (D:List ax)(zf:Option Addr->Nat->List Int)(a:Option Addr)(l c:Nat)(v:Value):ao (OT D zf) 26 500 (Ku D zf a l c) (ff [0,1,4,7,10,13,16,19,22] true++ff [2,3,5,6,8,9,11,12,14,15,17,18,20,21,23,24,25,26] false++VP) v=[VS (E5 (eF (zf a l)))=v,false=false,false=false,ai (IntKind.u32.wrap (↑(BitVec.ofInt 32 ((↑(eF (zf a l)):Int).fdiv (2 ^ 0)) &&& BitVec.ofInt 32 15).toNat:Int)) 16=true,true=true,false=false,ai (IntKind.u32.wrap (↑(BitVec.ofInt 32 ((↑(eF (zf a l)):Int).fdiv (2 ^ 4)) &&& BitVec.ofInt 32 15).toNat:Int)) 16=true,true=true,false=false,ai (IntKind.u32.wrap (↑(BitVec.ofInt 32 ((↑(eF (zf a l)):Int).fdiv (2 ^ 8)) &&& BitVec.ofInt 32 15).toNat:Int)) 16=true,true=true,false=false,ai (IntKind.u32.wrap (↑(BitVec.ofInt 32 ((↑(eF (zf a l)):Int).fdiv (2 ^ 12)) &&& BitVec.ofInt 32 15).toNat:Int)) 16=true,true=true,false=false,ai (IntKind.u32.wrap (↑(BitVec.ofInt 32 ((↑(eF (zf a l)):Int).fdiv (2 ^ 16)) &&& BitVec.ofInt 32 15).toNat:Int)) 16=true,true=true,false=false,ai (IntKind.u32.wrap (↑(BitVec.ofInt 32 ((↑(eF (zf a l)):Int).fdiv (2 ^ 20)) &&& BitVec.ofInt 32 15).toNat:Int)) 16=true,true=true,false=false,ai (IntKind.u32.wrap (↑(BitVec.ofInt 32 ((↑(eF (zf a l)):Int).fdiv (2 ^ 24)) &&& BitVec.ofInt 32 15).toNat:Int)) 16=true,true=true,false=false,ai (IntKind.u32.wrap (↑(BitVec.ofInt 32 ((↑(eF (zf a l)):Int).fdiv (2 ^ 28)) &&& BitVec.ofInt 32 15).toNat:Int)) 16=true,true=true,(0:Int)=0/\O2 D a l c]:=by kernel_rfl
theorem NK (n k:Nat):((n:Int)).fdiv ((2:Int) ^ k)=((n / 2 ^ k:Nat):Int):=by
 rw[show ((2:Int) ^ k)=((2 ^ k:Nat):Int) by simp];rw[Int.fdiv_eq_ediv_of_nonneg _ (Int.natCast_nonneg _)];exact (Int.natCast_ediv n (2 ^ k)).symm
theorem Di (zs:List Int):eF zs<4294967296:=by unfold eF;omega
theorem GG (n k:Nat)(h:n<4294967296):IntKind.u32.wrap (((BitVec.ofInt 32 ((n:Int).fdiv ((2:Int) ^ k)) &&& BitVec.ofInt 32 15).toNat:Nat):Int)=((n / 2 ^ k % 16:Nat):Int):=by
 rw[NK,Lc (Nat.lt_of_le_of_lt (Nat.div_le_self _ _) h)]
theorem JF {n:Nat}(h:n<4294967296)(k:Nat):UInt8.ofNat (uI n k).toNat=words.fo (n / 2 ^ k % 16):=by
 unfold uI;rw[GG n k h,V5,V5,UInt8.ofNat_toNat];rfl
theorem IN {n:Nat}(h:n<4294967296):E5 n=xW n:=by
 unfold E5 xW words.cx;simp only[WC,List.map_nil,JF h]
def Ml (D:List ax)(zf:Option Addr->Nat->List Int):yC:=fun args sh=>match args with
 | [.v (.slice a l c)]=>some (.string (xW (eF (zf a l))),O2 D a l c)
 | _=>none
theorem I5 {D:List ax}{zf:Option Addr->Nat->List Int}:bh Tryz.prog (XS D zf) (26,de (Ml D zf)):=by
 refine dO ⟨_,Tryz.func26,by kernel_rfl,by kernel_rfl⟩ fun args sh v q h hq ν M w0 w a hr hX ha=>?_;unfold Ml at h;split at h
 ·rename_i a1 l1 c1;cases h;obtain⟨y1,ZK,rfl,q1,YH⟩:=ha.cons_inv;obtain rfl:=YH.ay;obtain rfl:=VR.ae.1 q1;refine (bP (E:=OT D zf) rfl rfl (args:=[.v (.slice a1 l1 c1)]) (a:=[.slice a1 l1 c1]) (S0:=Ku D zf a1 l1 c1) (by kernel_rfl) (au.cons (VR.ae.2 rfl) au.nil) fun cs0=>?_);refine af.ao (Rm aE (dh.refl (fun b hb=>by obtain⟨i,o,c,h1,h2⟩:=hb;simp at h1) fun _ h=>h) hX) (n:=500) (o:=ff [0,1,4,7,10,13,16,19,22] true++ff [2,3,5,6,8,9,11,12,14,15,17,18,20,21,23,24,25,26] false++VP) (v:=.string (xW (eF (zf a1 l1)))) ?_ fun ν' M1 w1 s' w' _ Zh hr=>⟨aB aE Zh hr,rfl⟩;have hl:=Di (zf a1 l1);rw[sm];generalize eF (zf a1 l1)=n at hl ⊢;have i0:∀ k,ai ((n / 2 ^ k % 16:Nat):Int) 16=true:=fun k=>aJ (Yb _ (by decide));simp only[ah,GG n _ hl,i0,IN hl,V5,VV,VX,VW];exact hq
 ·cases h
end crc
def Fg:SV:=.func (.func 91) [] []
def Ab (es:VQ)(cl:Nat):SM:=(a6 dZ 90 [.ptr 0 0,Fg] (bG 6 2 0 [tT,xI es cl])).getD dn
def JO:List SI:=dA dZ 2 60 (Ab [] 0) VP
def q8 (x:SV):SF:={ fn:=90,tm:=e9 27 5 ([.ptr 0 0,Fg,.aH,.aH,x,.aH,.aH,.aH,.aH,.aH,.aH,.aH,.ptr 2 0]++List.replicate 14 .aH),todo:=JO,defers:=[],ret:=false,kind:=.normal,ro:=none }
def rE (es:VQ)(cl:Nat)(seen:List Nat):List (Option (SO × Bool)):=[tT,xI es cl,some (.miter (some 1) cl seen cl,true)]
def rK (es:VQ)(cl:Nat)(seen:List Nat)(m:List SV):List (Option (SO × Bool)):=[tT,xI es cl,some (.miter (some 1) cl seen cl,true),py m]
def Io (es:VQ)(cl:Nat)(seen:List Nat):SM:=SM.at (q8 bZ) 6 (rE es cl seen)
def IX (es:VQ)(cl:Nat)(seen:List Nat)(m:List SV)(k:Nat):SM:=SM.at (q8 (.sl 3 0 k none)) 6 (rK es cl seen m)
def sG (es:VQ)(cl:Nat)(seen:List Nat):SM:=(po dZ (jX dZ) 30 ((Io es cl seen).with VP)).getD dn
def EF (es:VQ)(cl:Nat)(seen:List Nat)(e:SV × SV × Nat):SM:=(ln dZ (sG es cl seen) e).getD dn
def Je (es:VQ)(cl:Nat)(seen:List Nat):SM:=(k8 dZ (sG es cl seen)).getD dn
theorem GL (es:VQ)(cl:Nat)(seen:List Nat):po dZ (jX dZ) 30 ((Io es cl seen).with VP)=some (sG es cl seen):=by kernel_rfl
theorem Jm (es:VQ)(cl:Nat)(seen:List Nat):oy dZ (sG es cl seen)=some (2,1,cl,seen,cl,es,cl):=by kernel_rfl
theorem GZ (es:VQ)(cl:Nat)(seen:List Nat):(sG es cl seen).mem.Y9=[]:=by kernel_rfl
theorem IU (es:VQ)(cl:Nat)(seen:List Nat)(e:SV × SV × Nat):ln dZ (sG es cl seen) e=some (EF es cl seen e):=by kernel_rfl
theorem J1 (es:VQ)(cl:Nat)(seen:List Nat)(e:SV × SV × Nat):(EF es cl seen e).mem.Y9=[]:=by kernel_rfl
theorem Jr (es:VQ)(cl:Nat)(seen:List Nat):k8 dZ (sG es cl seen)=some (Je es cl seen):=by kernel_rfl
theorem J0 (es:VQ)(cl:Nat)(seen:List Nat):(Je es cl seen).mem.Y9=[]:=by kernel_rfl
def Jo (e:cp):List (Nat × gR):=[(0,.b true),(1,.ent (.v (.string e.1.p)) (cU e))]
def Jb (es:VQ)(cl:Nat)(seen:List Nat)(e:cp)(d:Bool):SM:=dB dZ 91 60 (EF es cl seen (mI e)) (Jo e) (.v (.bool d))
def tF (es:VQ)(cl:Nat)(seen:List Nat)(m:List SV)(k:Nat):SM:=(po dZ (jX dZ) 30 ((IX es cl seen m k).with VP)).getD dn
def DL (es:VQ)(cl:Nat)(seen:List Nat)(m:List SV)(k:Nat)(e:SV × SV × Nat):SM:=(ln dZ (tF es cl seen m k) e).getD dn
def J2 (es:VQ)(cl:Nat)(seen:List Nat)(m:List SV)(k:Nat):SM:=(k8 dZ (tF es cl seen m k)).getD dn
theorem HV (es:VQ)(cl:Nat)(seen:List Nat)(m:List SV)(k:Nat):po dZ (jX dZ) 30 ((IX es cl seen m k).with VP)=some (tF es cl seen m k):=by kernel_rfl
theorem JB (es:VQ)(cl:Nat)(seen:List Nat)(m:List SV)(k:Nat):oy dZ (tF es cl seen m k)=some (2,1,cl,seen,cl,es,cl):=by kernel_rfl
theorem HF (es:VQ)(cl:Nat)(seen:List Nat)(m:List SV)(k:Nat):(tF es cl seen m k).mem.Y9=[]:=by kernel_rfl
theorem JU (es:VQ)(cl:Nat)(seen:List Nat)(m:List SV)(k:Nat)(e:SV × SV × Nat):ln dZ (tF es cl seen m k) e=some (DL es cl seen m k e):=by kernel_rfl
theorem Jk (es:VQ)(cl:Nat)(seen:List Nat)(m:List SV)(k:Nat)(e:SV × SV × Nat):(DL es cl seen m k e).mem.Y9=[]:=by kernel_rfl
theorem Ic (es:VQ)(cl:Nat)(seen:List Nat)(m:List SV)(k:Nat):k8 dZ (tF es cl seen m k)=some (J2 es cl seen m k):=by kernel_rfl
theorem IF (es:VQ)(cl:Nat)(seen:List Nat)(m:List SV)(k:Nat):(J2 es cl seen m k).mem.Y9=[]:=by kernel_rfl
def JY (e:cp):List (Nat × gR):=[(0,.b true),(1,.ent (.v (.string e.1.p)) (cU e))]
def Ju (es:VQ)(cl:Nat)(seen:List Nat)(m:List SV)(k:Nat)(e:cp)(d:Bool):SM:=dB dZ 91 60 (DL es cl seen m k (mI e)) (JY e) (.v (.bool d))
theorem PI (es:VQ)(cl:Nat):reach dZ 2 60 (Ab es cl) VP [(0,0),(1,1),(2,2)] [1] (q8 bZ) 6 (rE es cl [])=[0=0,Fn.func 91=Fn.func 91,VT none 0 0=VT none 0 0,0=0,cl=cl,es=es,(es.all fun e=>aw e.fst&&aw e.snd.fst)=true,(match false with|true=>some 0|false=>List.lookup 1 [(1,1),(2,2)])=some 1,cl=cl,([]:List Nat)=[],cl=cl]:=by kernel_rfl
theorem Oi (es:VQ)(cl:Nat)(seen:List Nat)(e:cp):dT dZ 91 60 (EF es cl seen (mI e)) (Jo e)=[∃ Yz b,(seen++[(mI e).snd.snd]).getLast?=some Yz/\cl=cl/\List.find? (fun e=>e.snd.snd.beq Yz) es=some (SV.v (VS e.fst.p),cU e,b),true=true]:=by kernel_rfl
theorem On (es:VQ)(cl:Nat)(seen:List Nat)(e:cp)(d:Bool):dS dZ 91 60 (EF es cl seen (mI e)) (Jo e) (.v (.bool d))=[∃ Yz b,(seen++[(mI e).snd.snd]).getLast?=some Yz/\cl=cl/\List.find? (fun e=>e.snd.snd.beq Yz) es=some (SV.v (VS e.fst.p),cU e,b),true=true]:=by kernel_rfl
theorem OB (es:VQ)(cl:Nat)(seen:List Nat)(e:cp):reach dZ 2 60 (Jb es cl seen e false) (ff [0] false) [(0,0),(1,1),(2,2)] [1] (q8 bZ) 6 (rE es cl (seen++[e.2]))=[0=0,Fn.func 91=Fn.func 91,VT none 0 0=VT none 0 0,0=0,cl=cl,es=es,(es.all fun e=>aw e.fst&&aw e.snd.fst)=true,(match false with|true=>some 0|false=>List.lookup 1 [(1,1),(2,2)])=some 1,cl=cl,seen++[(mI e).snd.2]=seen++[e.2],cl=cl,false=false]:=by kernel_rfl
theorem N1 (es:VQ)(cl:Nat)(seen:List Nat)(e:cp)(m':List SV):reach dZ 2 60 (Jb es cl seen e true) (ff [0] true++ff [1] false) [(0,0),(1,1),(2,2),(3,4)] [1,3] (q8 (.sl 3 0 1 none)) 6 (rK es cl (seen++[e.2]) m')=[0=0,Fn.func 91=Fn.func 91,0=0/\1=1/\nZ=none,0=0,cl=cl,es=es,(es.all fun e=>aw e.fst&&aw e.snd.fst)=true,(match false with|true=>some 0|false=>List.lookup 1 [(1,1),(2,2),(3,4)])=some 1,cl=cl,seen++[(mI e).snd.2]=seen++[e.2],cl=cl,[]++List.take 1 (List.drop 0 (aQ (List.replicate 1 (List.map SV.v [VS ⟨⟨[]⟩⟩])).flatten 0 [SV.v (VS e.fst.1)]))=m',m'.all ab=true,false=false,true=true]:=by kernel_rfl
theorem N6 (es:VQ)(cl:Nat)(seen:List Nat)(m:List SV)(k:Nat)(e:cp):dT dZ 91 60 (DL es cl seen m k (mI e)) (JY e)=[∃ Yz b,(seen++[(mI e).snd.snd]).getLast?=some Yz/\cl=cl/\List.find? (fun e=>e.snd.snd.beq Yz) es=some (SV.v (VS e.fst.p),cU e,b),true=true]:=by kernel_rfl
theorem ND (es:VQ)(cl:Nat)(seen:List Nat)(m:List SV)(k:Nat)(e:cp)(d:Bool):dS dZ 91 60 (DL es cl seen m k (mI e)) (JY e) (.v (.bool d))=[∃ Yz b,(seen++[(mI e).snd.snd]).getLast?=some Yz/\cl=cl/\List.find? (fun e=>e.snd.snd.beq Yz) es=some (SV.v (VS e.fst.p),cU e,b),true=true]:=by kernel_rfl
theorem Nz (es:VQ)(cl:Nat)(seen:List Nat)(m:List SV)(k:Nat)(e:cp):reach dZ 2 60 (Ju es cl seen m k e false) (ff [0] false) [(0,0),(1,1),(2,2),(3,3)] [1,3] (q8 (.sl 3 0 k none)) 6 (rK es cl (seen++[e.2]) m)=[0=0,Fn.func 91=Fn.func 91,0=0/\k=k/\nZ=none,0=0,cl=cl,es=es,(es.all fun e=>aw e.fst&&aw e.snd.fst)=true,(match false with|true=>some 0|false=>List.lookup 1 [(1,1),(2,2),(3,3)])=some 1,cl=cl,seen++[(mI e).snd.2]=seen++[e.2],cl=cl,m=m,m.all ab=true,false=false]:=by kernel_rfl
theorem Nu (es:VQ)(cl:Nat)(seen:List Nat)(m w m':List SV)(k:Nat)(e:cp):reach dZ 2 60 (Ju es cl seen m k e true) [(0,.b true),(1,.app m w)] [(0,0),(1,1),(2,2),(3,5)] [1,3] (q8 (.sl 3 0 (k+1) none)) 6 (rK es cl (seen++[e.2]) m')=[0=0,Fn.func 91=Fn.func 91,0=0/\k+1=k+1/\nZ=none,0=0,cl=cl,es=es,(es.all fun e=>aw e.fst&&aw e.snd.fst)=true,(match false with|true=>some 0|false=>List.lookup 1 [(1,1),(2,2),(3,5)])=some 1,cl=cl,seen++[(mI e).snd.2]=seen++[e.2],cl=cl,m++w=m',m'.all ab=true,((List.take 1 (List.drop 0 (aQ (List.replicate 1 (List.map SV.v [VS ⟨⟨[]⟩⟩])).flatten 0 [SV.v (VS e.fst.1)]))=w/\w.length=1*1)/\1≠0/\(2*(k+1)+1024)*16<=140737488355328)/\List.take (k*1) m=m/\m.length=k*1/\w.all SV.flat=true,true=true]:=by kernel_rfl
theorem Kv (es:VQ)(cl:Nat)(seen:List Nat):ao dZ 90 60 (Je es cl seen) VP (.slice none 0 0)=[VT none 0 0=VT none 0 0,VT none 0 0=VT none 0 0/\Value.func (Fn.func 89) { toList:=[]:Array Value } { toList:=[]:Array Value }=Value.func (Fn.func 89) { toList:=[]:Array Value } { toList:=[]:Array Value }]:=by kernel_rfl
theorem Kr (es:VQ)(cl:Nat)(seen:List Nat)(m m':List SV)(k:Nat):bY dZ 90 60 (J2 es cl seen m k) VP (.sl 3 0 k none) 3 (.row m' 9 (0,0) (some 1))=[0=0/\k=k/\nZ=none,strs (bA (fl m))=m',m'.all ab=true,m=strs (fl m)/\k=(fl m).length/\Bt (fl m)/\9=9/\(0,0)=(0,0)/\1=1/\Value.func (Fn.func 89) { toList:=[]:Array Value } { toList:=[]:Array Value }=Value.func (Fn.func 89) { toList:=[]:Array Value } { toList:=[]:Array Value }]:=by kernel_rfl
def Dd (W:World)(D:ByteArray->Bool):Prop:=∀ w,W.hp.Sub w.hp->∀ q:ByteArray,q.size<=1000000000->Calls Tryz.prog 91 #[.string q] w fun e w'=>Below w.heap.size w w'/\e=.returned (.bool (D q))
section
variable {W:World}{cs0:List Frame}{M:Own}{ν:aP}{D:ByteArray->Bool}{E:List cp}{cl:Nat}
theorem CI (hm:MX W)(hM:∀ z,¬ M z)(hp:Dd W D)  {S:SM}{q:ByteArray}(hq:q.size<=1000000000){o:List (Nat × gR)}{H:Hp}{M1:Own}{w1:World}(hk:Kept W.hp M W H M1 w1){R:Ending->World->Prop}
  (h1:ah (dT dZ 91 60 S o)) (h2:iy dZ 91 60 S o=eO dZ 91 [.v (.string q)] .normal) (h3:ah (dS dZ 91 60 S o (.v (.bool (D q)))))
  (nx:∀ H' M2 w2,Kept W.hp M W H' M2 w2->af dZ M2 w2 cs0 90 R ν (dB dZ 91 60 S o (.v (.bool (D q))))):
  af dZ M1 w1 cs0 90 R ν S:=by
 refine af.gI (qP hM hk.base hm) hk (n:=60) (g:=91) (o:=o) (args:=[.v (.string q)]) h1 h2 fun ν' w a hle Yv χ ha=>?_;obtain⟨y0,as0,rfl,q0,ha⟩:=ha.cons_inv;obtain rfl:=ha.ay;obtain rfl:=VR.ae.1 q0;exact (hp w (hk.Y1.trans Yv) q hq).mono fun e w' ⟨hB,he⟩=>⟨hB,_,he,fun M2 Zq=>⟨h3,nx _ M2 w' Zq⟩⟩
theorem zx (hm:MX W)(hM:∀ z,¬ M z)(hB:dQ E cl){seen:List Nat}{H:Hp}{M1:Own}{w1:World}(hk:Kept W.hp M W H M1 w1){R:Ending->World->Prop}
  (YI:(∀ e∈E,seen.contains e.2=true)->af dZ M1 w1 cs0 90 R ν (Je (E.map mI) cl seen)) (Ψ:∀ x∈E,seen.contains x.2=false->af dZ M1 w1 cs0 90 R ν (EF (E.map mI) cl seen (mI x))):
  af dZ M1 w1 cs0 90 R ν (Io (E.map mI) cl seen):=by
 have K:=qP hM hk.base hm;refine af.go K (GL (E.map mI) cl seen) (by unfold SH.ob;rw[GZ];trivial) ?_;refine af.next K (Jm (E.map mI) cl seen) ?_ (fun e he hs=>?_) fun YM=>?_
 ·cases he:(!seen.isEmpty&&!(E.map mI).isEmpty&&(E.map mI).all fun e=>Nat.ble cl e.2.2)
  ·rfl
  ·rw[V6,V6,Wn]at he;obtain⟨⟨_,h2⟩,h3⟩:=he;cases hE:E with
   | nil=>rw[hE]at h2;cases h2
   | cons x E'=>
    have hx:x∈E:=by rw[hE];exact Wj
    have h4:=Wu (h3 (mI x) (Wb.2 ⟨x,hx,rfl⟩));have h5:=hB.born x hx;have h4':cl<=x.2:=h4;omega
 ·obtain⟨x,hx,rfl⟩:=Wb.1 he;exact⟨_,IU (E.map mI) cl seen (mI x),by unfold SH.ob;rw[J1];trivial,Ψ x hx hs⟩
 ·refine⟨_,Jr (E.map mI) cl seen,by unfold SH.ob;rw[J0];trivial,YI fun x hx=>?_⟩;cases hc:seen.contains x.2
  ·have h1:=YM (mI x) (Wb.2 ⟨x,hx,rfl⟩) hc;have h2:Nat.blt x.2 cl=false:=h1;have h3:=hB.born x hx;have h4:Nat.blt x.2 cl=true:=by simp[Nat.blt_eq];omega
   rw[h4]at h2;cases h2
  ·rfl
theorem y5 (hm:MX W)(hM:∀ z,¬ M z)(hB:dQ E cl){seen:List Nat}{YN:List ByteArray}{H:Hp}{M1:Own}{w1:World}(hk:Kept W.hp M W H M1 w1){R:Ending->World->Prop}
  (YI:(∀ e∈E,seen.contains e.2=true)->af dZ M1 w1 cs0 90 R ν (J2 (E.map mI) cl seen (strs YN) YN.length)) (Ψ:∀ x∈E,seen.contains x.2=false->af dZ M1 w1 cs0 90 R ν (DL (E.map mI) cl seen (strs YN) YN.length (mI x))):
  af dZ M1 w1 cs0 90 R ν (IX (E.map mI) cl seen (strs YN) YN.length):=by
 have K:=qP hM hk.base hm;refine af.go K (HV (E.map mI) cl seen (strs YN) YN.length) (by unfold SH.ob;rw[HF];trivial) ?_;refine af.next K (JB (E.map mI) cl seen (strs YN) YN.length) ?_ (fun e he hs=>?_) fun YM=>?_
 ·cases he:(!seen.isEmpty&&!(E.map mI).isEmpty&&(E.map mI).all fun e=>Nat.ble cl e.2.2)
  ·rfl
  ·rw[V6,V6,Wn]at he;obtain⟨⟨_,h2⟩,h3⟩:=he;cases hE:E with
   | nil=>rw[hE]at h2;cases h2
   | cons x E'=>
    have hx:x∈E:=by rw[hE];exact Wj
    have h4:=Wu (h3 (mI x) (Wb.2 ⟨x,hx,rfl⟩));have h5:=hB.born x hx;have h4':cl<=x.2:=h4;omega
 ·obtain⟨x,hx,rfl⟩:=Wb.1 he;exact⟨_,JU (E.map mI) cl seen (strs YN) YN.length (mI x),by unfold SH.ob;rw[Jk];trivial,Ψ x hx hs⟩
 ·refine⟨_,Ic (E.map mI) cl seen (strs YN) YN.length,by unfold SH.ob;rw[IF];trivial,YI fun x hx=>?_⟩;cases hc:seen.contains x.2
  ·have h1:=YM (mI x) (Wb.2 ⟨x,hx,rfl⟩) hc;have h2:Nat.blt x.2 cl=false:=h1;have h3:=hB.born x hx;have h4:Nat.blt x.2 cl=true:=by simp[Nat.blt_eq];omega
   rw[h4]at h2;cases h2
  ·rfl
theorem Gx (hm:MX W)(hM:∀ z,¬ M z)(hB:dQ E cl)(YO:E.length<=1000)(hp:Dd W D)(hν:∀ i b,ν i=some b->i=0\/i=1):∀ (n:Nat) (seen:List Nat) (YN:List ByteArray),(E.filter fun x=>!seen.contains x.2).length<=n->kP E D seen YN->YN≠[]->∀ H M1 w1,Kept W.hp M W H M1 w1->
  af dZ M1 w1 cs0 90 (DZ W (bA ((E.map fun e=>e.1.p).filter D))) ν (IX (E.map mI) cl seen (strs YN) YN.length):=by
 intro n;induction n with
 | zero=>
  intro seen YN hn hg Yu H M1 w1 hk;refine y5 hm hM hB hk (fun YM=>?_) fun x hx hs=>?_;rotate_left
  ·have:x∈E.filter fun x=>!seen.contains x.2:=Wo.2 ⟨hx,by show (!seen.contains x.2)=true;rw[hs];rfl⟩;rw[Wd.1 (Nat.le_zero.1 hn)]at this;cases this
  ·have hpm:=hg.all YM;have hso:=gF hpm;have hln:(bA YN).length=YN.length:=(bz YN).length_eq;have hgl:=hg.len;have hsne:bA YN≠[]:=fun h=>Yu (Wd.1 (by rw[<- hln,h];rfl))
   refine af.bY (qP hM hk.base hm) (n:=60) (o:=VP) (x:=.sl 3 0 YN.length none) (i:=3) (so:=.row (strs (bA YN)) 9 (0,0) (some 1)) (by
    rw[Kr];simp only[ah,jI,bL,VV,VX,VW];exact⟨Yu,by omega,hg.size hB⟩) fun ν' w' y b1 ob hv hb ho YA hw Zh=>?_
   obtain⟨M3,w3,M4,s',hBb,hr⟩:=Zh
   have hn:W.heap.size<=b1.1:=by
    rcases hk.base.own _ hw with h|h
    ·exact h
    ·exact absurd h (hM _)
   rw[<- hso];exact⟨aB hM (hk.base.trans hBb) hr,y,rfl,.inr ⟨hsne,by rw[hln];exact cF.gb hv hb ho YA hn fun zs hz=>lX hz⟩⟩
 | succ n ih=>
  intro seen YN hn hg Yu H M1 w1 hk;refine y5 hm hM hB hk (fun YM=>?_) fun x hx hs=>?_
  ·have hpm:=hg.all YM;have hso:=gF hpm;have hln:(bA YN).length=YN.length:=(bz YN).length_eq;have hgl:=hg.len;have hsne:bA YN≠[]:=fun h=>Yu (Wd.1 (by rw[<- hln,h];rfl))
   refine af.bY (qP hM hk.base hm) (n:=60) (o:=VP) (x:=.sl 3 0 YN.length none) (i:=3) (so:=.row (strs (bA YN)) 9 (0,0) (some 1)) (by
    rw[Kr];simp only[ah,jI,bL,VV,VX,VW];exact⟨Yu,by omega,hg.size hB⟩) fun ν' w' y b1 ob hv hb ho YA hw Zh=>?_
   obtain⟨M3,w3,M4,s',hBb,hr⟩:=Zh
   have hn:W.heap.size<=b1.1:=by
    rcases hk.base.own _ hw with h|h
    ·exact h
    ·exact absurd h (hM _)
   rw[<- hso];exact⟨aB hM (hk.base.trans hBb) hr,y,rfl,.inr ⟨hsne,by rw[hln];exact cF.gb hv hb ho YA hn fun zs hz=>lX hz⟩⟩
  ·have hn2:=mn hx hs hn;have hfb:=kK hB.Zi hx;have hfx:∃ (Yz:Nat) (b:Nat),(seen++[(mI x).snd.snd]).getLast?=some Yz/\List.find? (fun e=>e.snd.snd.beq Yz) (E.map mI)=some (SV.v (Value.string x.fst.p),cU x,b):=⟨x.2,x.2,gV,hfb⟩;have YJ:=cK E;have hgn:=hg.next hB.Zi hx hs;have YX:=hB.size x hx;have hgl:=hg.len;refine CI hm hM hp YX hk (o:=JY x) ?_ (by kernel_rfl) ?_ fun H' M2 w2 Zy=>?_
   ·rw[N6];simp only[ah,VV,VX,VW];exact hfx
   ·rw[ND];simp only[ah,VV,VX,VW];exact hfx
   ·cases hd:D x.1.p
    ·rw[hd,if_neg (by decide),W4]at hgn;refine af.reach (qP hM Zy.base hm) (k:=2) (n:=60) (o:=ff [0] false) (ren:=[(0,0),(1,1),(2,2),(3,3)]) (eqs:=[1,3]) (S:=Ju (E.map mI) cl seen (strs YN) YN.length x false) ?_ (by kernel_rfl) (fun i b h=>by rcases hν i b h with h|h<;>rw[h]<;>rfl) (ih (seen++[x.2]) YN hn2 hgn Yu H' M2 w2 Zy);rw[Nz];simp only[ah,YJ,bL,VV,VX,VW];repeat' apply And.intro
     all_goals first|rfl|skip
    ·rw[hd,if_pos rfl]at hgn;have nx:=ih (seen++[x.2]) (YN++[x.1.p]) hn2 hgn (by simp) H' M2 w2 Zy;rw[V7,show ([x.1.p]:List ByteArray).length=1 from rfl]at nx;refine af.reach (qP hM Zy.base hm) (k:=2) (n:=60) (o:=[(0,.b true),(1,.app (strs YN) [.v (.string x.1.p)])]) (ren:=[(0,0),(1,1),(2,2),(3,5)]) (eqs:=[1,3]) (S:=Ju (E.map mI) cl seen (strs YN) YN.length x true) ?_ (by kernel_rfl) (fun i b h=>by rcases hν i b h with h|h<;>rw[h]<;>rfl) nx;rw[Nu];simp only[ah,YJ,bL,pM,iK,tJ,oE,WL,VV,VX,VW];repeat' apply And.intro
     all_goals first|rfl|omega|exact We (by rw[iK];omega)|skip
theorem FQ (hm:MX W)(hM:∀ z,¬ M z)(hB:dQ E cl)(YO:E.length<=1000)(hp:Dd W D)(hν:∀ i b,ν i=some b->i=0\/i=1):∀ (n:Nat) (seen:List Nat),(E.filter fun x=>!seen.contains x.2).length<=n->kP E D seen []->∀ H M1 w1,Kept W.hp M W H M1 w1->
  af dZ M1 w1 cs0 90 (DZ W (bA ((E.map fun e=>e.1.p).filter D))) ν (Io (E.map mI) cl seen):=by
 intro n;induction n with
 | zero=>
  intro seen hn hg H M1 w1 hk;refine zx hm hM hB hk (fun YM=>?_) fun x hx hs=>?_;rotate_left
  ·have:x∈E.filter fun x=>!seen.contains x.2:=Wo.2 ⟨hx,by show (!seen.contains x.2)=true;rw[hs];rfl⟩;rw[Wd.1 (Nat.le_zero.1 hn)]at this;cases this
  ·have hpm:=hg.all YM;have hso:=gF hpm;have h0:bA ([]:List ByteArray)=[]:=Wd.1 (bz []).length_eq;refine af.ao (qP hM hk.base hm) (n:=60) (o:=VP) (v:=.slice none 0 0) ?_ fun ν' M3 w3 s' w' _ Zh hr=>⟨aB hM (hk.base.trans Zh) hr,_,rfl,.inl ⟨by rw[<- hso,h0],rfl⟩⟩;rw[Kv];simp only[ah,VV,VX,VW]
 | succ n ih=>
  intro seen hn hg H M1 w1 hk;refine zx hm hM hB hk (fun YM=>?_) fun x hx hs=>?_
  ·have hpm:=hg.all YM;have hso:=gF hpm;have h0:bA ([]:List ByteArray)=[]:=Wd.1 (bz []).length_eq;refine af.ao (qP hM hk.base hm) (n:=60) (o:=VP) (v:=.slice none 0 0) ?_ fun ν' M3 w3 s' w' _ Zh hr=>⟨aB hM (hk.base.trans Zh) hr,_,rfl,.inl ⟨by rw[<- hso,h0],rfl⟩⟩;rw[Kv];simp only[ah,VV,VX,VW]
  ·have hn2:=mn hx hs hn;have hfb:=kK hB.Zi hx;have hfx:∃ (Yz:Nat) (b:Nat),(seen++[(mI x).snd.snd]).getLast?=some Yz/\List.find? (fun e=>e.snd.snd.beq Yz) (E.map mI)=some (SV.v (Value.string x.fst.p),cU x,b):=⟨x.2,x.2,gV,hfb⟩;have YJ:=cK E;have hgn:=hg.next hB.Zi hx hs;have YX:=hB.size x hx;refine CI hm hM hp YX hk (o:=Jo x) ?_ (by kernel_rfl) ?_ fun H' M2 w2 Zy=>?_
   ·rw[Oi];simp only[ah,VV,VX,VW];exact hfx
   ·rw[On];simp only[ah,VV,VX,VW];exact hfx
   ·cases hd:D x.1.p
    ·rw[hd,if_neg (by decide)]at hgn;refine af.reach (qP hM Zy.base hm) (k:=2) (n:=60) (o:=ff [0] false) (ren:=[(0,0),(1,1),(2,2)]) (eqs:=[1]) (S:=Jb (E.map mI) cl seen x false) ?_ (by kernel_rfl) (fun i b h=>by rcases hν i b h with h|h<;>rw[h]<;>rfl) (ih (seen++[x.2]) hn2 hgn H' M2 w2 Zy);rw[OB];simp only[ah,YJ,VV,VX,VW];repeat' apply And.intro
     all_goals first|rfl|skip
    ·rw[hd,if_pos rfl]at hgn;have nx:=Gx (cs0:=cs0) hm hM hB YO hp hν n (seen++[x.2]) [x.1.p] hn2 hgn (by simp) H' M2 w2 Zy;rw[show ([x.1.p]:List ByteArray).length=1 from rfl]at nx;refine af.reach (qP hM Zy.base hm) (k:=2) (n:=60) (o:=ff [0] true++ff [1] false) (ren:=[(0,0),(1,1),(2,2),(3,4)]) (eqs:=[1,3]) (S:=Jb (E.map mI) cl seen x true) ?_ (by kernel_rfl) (fun i b h=>by rcases hν i b h with h|h<;>rw[h]<;>rfl) nx;rw[N1];simp only[ah,YJ,VV,VX,VW];repeat' apply And.intro
     all_goals first|rfl|skip
end
theorem wV {W:World}{b m:Nat}{E:List cp}{cl:Nat}{D:ByteArray->Bool}  (hm:MX W)(hA:kO W b m E cl)(hB:dQ E cl)(YO:E.length<=1000)(hn:[b,m].Nodup)  (hp:Dd W D):
  Calls Tryz.prog 90 #[fA b,.func (.func 91) #[] #[]] W (DZ W (bA ((E.map fun e=>e.1.p).filter D))):=by
 have ho:∀ (j:Nat) (o':SO) (b' c':Nat),[SO.row [.map 1] 96 (0,0) none,SO.map (E.map mI) cl][j]?=some o'->[(b,0),(m,0)][j]?=some (b',c')->∃ r,W.heap[b']?=some r/\OR (aA [(b,0),(m,0)]) j o' r:=by
  intro j o' b' c' q1 q2;match j with
  | 0=>
   simp only[Wa,Option.some.injEq]at q1 q2;subst q1;cases q2;exact⟨_,hA.row,[.map (some m)],[],rfl,au.cons (VR.cQ.2 ⟨(m,0),rfl,rfl⟩) au.nil,rfl⟩
  | 1=>
   simp only[WU,Wa,Option.some.injEq]at q1 q2;subst q1;cases q2;exact⟨_,hA.map,_,rfl,oB E⟩
  | j+2=>simp at q1
 refine aW (E:=dZ) rfl (d:=6) (l:=[(b,0),(m,0)]) (os:=[.row [.map 1] 96 (0,0) none,.map (E.map mI) cl]) rfl (by simp) (by simpa using hn) ho rfl (args:=[.ptr 0 0,Fg]) (a:=[fA b,.func (.func 91) #[] #[]]) (S0:=Ab (E.map mI) cl) (by kernel_rfl) (au.cons (VR.aF.2 ⟨(b,0),rfl,rfl⟩) (au.cons ?_ au.nil)) fun cs0=>?_
 ·exact VR.eH.2 ⟨[],[],rfl,au.nil,au.nil⟩
 have hM:∀ z,¬ (aD [(b,0),(m,0)] ([SO.row [.map 1] 96 (0,0) none,SO.map (E.map mI) cl].map fun o=>(o,false))) z:=fun z=>aZ (os:=[SO.row [.map 1] 96 (0,0) none,SO.map (E.map mI) cl])
 have ZS:=Kept.start (H0:=W.hp) (M:=aD [(b,0),(m,0)] ([SO.row [.map 1] 96 (0,0) none,SO.map (E.map mI) cl].map fun o=>(o,false))) (w:=W) (Hp.Sub.refl _) (fun z o _=>hM z) (dN (by
  intro j o' m' b' c' q1 q2;rw[Wv]at q1;obtain⟨o2,q3,q4⟩:=Wg.1 q1;cases q4;exact ho j o' b' c' q3 q2)) (fun _ h=>h)
 have hν:∀ i b',aA [(b,0),(m,0)] i=some b'->i=0\/i=1:=fun i b' h=>by
  match i with
  | 0=>exact .inl rfl
  | 1=>exact .inr (rfl)
  | i+2=>simp[aA]at h
 have nx:=FQ (cs0:=cs0) (ν:=aA [(b,0),(m,0)]) hm hM hB YO hp hν (E.filter fun x=>!([]:List Nat).contains x.2).length [] (Wx _) kP.start W.hp _ W ZS;refine af.reach (qP hM ZS.base hm) (k:=2) (n:=60) (o:=VP) (ren:=[(0,0),(1,1),(2,2)]) (eqs:=[1]) (F:=q8 bZ) (d:=6) (l:=rE (E.map mI) cl []) ?_ (by kernel_rfl) (fun i b h=>by rcases hν i b h with h|h<;>rw[h]<;>rfl) nx;rw[PI];simp only[ah,cK,bZ,VV,VX,VW];repeat' apply And.intro
 all_goals first|rfl|skip
namespace al
theorem Rw (q:ByteArray)(v:Value):ao bn 91 60 (a7 bn 91 [.v (.string q)]) VP v=[VU true=v]:=by kernel_rfl
def Ks:SM:=(a6 dZ 90 [.ptr 0 0,Fg] (bG 6 1 0 [F7])).getD dn
theorem Tk (v:Value):ao dZ 90 100 Ks oT v=[VT none 0 0=v,VT none 0 0=VT none 0 0/\Value.func (Fn.func 89) { toList:=[]:Array Value } { toList:=[]:Array Value }=Value.func (Fn.func 89) { toList:=[]:Array Value } { toList:=[]:Array Value }]:=by kernel_rfl
def Ct:SM:=(a6 bn 63 [.ptr 0 0] (bG 6 1 0 [cv []])).getD dn
theorem UA (u:Unit):dT bn 90 100 Ct oT=[]:=by kernel_rfl
theorem R7 (v:Value):dS bn 90 100 Ct oT (.v v)=[]:=by kernel_rfl
theorem UT (v:Value):ao bn 63 100 (dB bn 90 100 Ct oT (.v v)) oT v=[v=v]:=by kernel_rfl
theorem AU (w:World)(q:ByteArray):Calls Tryz.prog 91 #[.string q] w fun e w'=>Below w.heap.size w w'/\e=.returned (.bool true):=by
 refine (bP (E:=bn) rfl rfl (args:=[.v (.string q)]) (a:=[.string q]) (S0:=a7 bn 91 [.v (.string q)]) (by kernel_rfl) (au.cons (VR.ae.2 rfl) au.nil) fun cs0=>?_);refine af.ao fQ (n:=60) (o:=VP) (v:=.bool true) ?_ fun ν' M1 w1 s' w' _ Zh hr=>⟨aB aE Zh hr,rfl⟩;rw[Rw];simp only[ah,VV,VX,VW]
theorem DK {w:World}{b:Nat}{E:List cp}(hm:MX w)(h:iR w b E)(YO:E.length<=1000):
  Calls Tryz.prog 90 #[fA b,.func (.func 91) #[] #[]] w (DZ w (bA (E.map fun e=>e.1.p))):=by
 rcases h with ⟨m,cl,Yu,hA,hB⟩|⟨rfl,hZ⟩
 ·have:=wV (D:=fun _=>true) hm hA hB YO (by simpa using Yu) (fun w2 hs q hq=>AU w2 q);rw[XN.2 fun _ _=>rfl]at this;exact this
 ·have hM:∀ z,¬ (aD [(b,0)] ([SO.row [.v (.map none)] 96 (0,0) none].map fun o=>(o,false))) z:=fun z=>aZ (os:=[_])
  have ho:∀ (j:Nat) (o':SO) (b' c':Nat),[SO.row [.v (.map none)] 96 (0,0) none][j]?=some o'->[(b,0)][j]?=some (b',c')->∃ r,w.heap[b']?=some r/\OR (aA [(b,0)]) j o' r:=by
   intro j o' b' c' q1 q2;match j with
   | 0=>
    simp only[Wa,Option.some.injEq]at q1 q2;subst q1;cases q2;exact⟨_,hZ,[.map none],[],rfl,au.cons (VR.ae.2 rfl) au.nil,rfl⟩
   | j+1=>simp at q1
  refine aW (E:=dZ) rfl (d:=6) (l:=[(b,0)]) (os:=[.row [.v (.map none)] 96 (0,0) none]) rfl (by simp) (by simp) ho rfl (args:=[.ptr 0 0,Fg]) (a:=[fA b,.func (.func 91) #[] #[]]) (S0:=Ks) (by kernel_rfl) (au.cons (VR.aF.2 ⟨(b,0),rfl,rfl⟩) (au.cons (VR.eH.2 ⟨[],[],rfl,au.nil,au.nil⟩) au.nil)) fun cs0=>?_
  have ZS:=Kept.start (H0:=w.hp) (M:=aD [(b,0)] ([SO.row [.v (.map none)] 96 (0,0) none].map fun o=>(o,false))) (w:=w) (Hp.Sub.refl _) (fun z o _=>hM z) (dN (by
   intro j o' m' b' c' q1 q2;rw[Wv]at q1;obtain⟨o2,q3,q4⟩:=Wg.1 q1;cases q4;exact ho j o' b' c' q3 q2)) (fun _ h=>h)
  refine af.ao (qP hM ZS.base hm) (n:=100) (o:=oT) (v:=.slice none 0 0) ?_ fun ν' M1 w1 s' w' _ Zh hr=>⟨aB hM Zh hr,_,rfl,.inl ⟨Wd.1 (bz []).length_eq,rfl⟩⟩;rw[Tk];simp only[ah,VV,VX,VW]
theorem DU {w:World}{b:Nat}{E:List cp}(hm:MX w)(h:iR w b E)(YO:E.length<=1000):Calls Tryz.prog 63 #[fA b] w (DZ w (bA (E.map fun e=>e.1.p))):=by
 obtain⟨v0,hb⟩:=h.cells
 have ho:∀ (j:Nat) (o':SO) (b' c':Nat),[SO.look []][j]?=some o'->[(b,0)][j]?=some (b',c')->∃ r,w.heap[b']?=some r/\OR (aA [(b,0)]) j o' r:=by
  intro j o' b' c' q1 q2;match j with
  | 0=>
   simp only[Wa,Option.some.injEq]at q1 q2;subst q1;cases q2;exact⟨_,hb,[],_,_,_,rfl,au.nil,fun k y h=>by simp at h⟩
  | j+1=>simp at q1
 refine aW (E:=bn) rfl (d:=6) (l:=[(b,0)]) (os:=[.look []]) rfl (by simp) (by simp) ho rfl (args:=[.ptr 0 0]) (a:=[fA b]) (S0:=Ct) (by kernel_rfl) (au.cons (VR.aF.2 ⟨(b,0),rfl,rfl⟩) au.nil) fun cs0=>?_;have hM:∀ z,¬ (aD [(b,0)] ([SO.look []].map fun o=>(o,false))) z:=fun z=>aZ (os:=[SO.look []])
 have ZS:=Kept.start (H0:=w.hp) (M:=aD [(b,0)] ([SO.look []].map fun o=>(o,false))) (w:=w) (Hp.Sub.refl _) (fun z o _=>hM z) (dN (by
  intro j o' m b' c' q1 q2;rw[Wv]at q1;obtain⟨o2,q3,q4⟩:=Wg.1 q1;cases q4;exact ho j o' b' c' q3 q2)) (fun _ h=>h)
 refine af.gI fQ ZS (n:=100) (g:=90) (o:=oT) (args:=[.ptr 0 0,.v (.func (.func 91) #[] #[])]) (by rw[UA ()];trivial) (by kernel_rfl) fun ν' w1 a hle Yv χ ha=>?_;obtain⟨y1,ZK,rfl,q1,YH⟩:=ha.cons_inv;obtain⟨y2,as2,rfl,q2,Zx⟩:=YH.cons_inv;obtain rfl:=Zx.ay;obtain rfl:=VR.ae.1 q2;obtain⟨bb,YZ,rfl⟩:=VR.aF.1 q1;have YZ:=YZ.symm.trans (hle 0 (b,0) rfl);cases YZ;refine (DK (hm.sub (ZS.Y1.trans Yv)) (h.keep (ZS.Y1.trans Yv)) YO).mono fun e w2 ⟨hB,v,he,hv⟩=>⟨hB,v,he,fun M2 Zq=>⟨by rw[R7];trivial,?_⟩⟩;refine af.ao fQ (n:=100) (o:=oT) (v:=v) (by rw[UT];simp[ah]) fun ν' M5 w5 s5 w6 _ hB5 hr5=>⟨aB hM (Zq.base.trans hB5) hr5,v,rfl,?_⟩;rcases hv with h|⟨h0,g,cc,rest,hy,ZY,υ,hh,YX⟩
 ·exact .inl h
 ·refine .inr ⟨h0,g,cc,rest,hy,Wh (oO ZS.Y1 Yv) ZY,υ,(Zq.now hB5 hr5) _ _ ?_,YX⟩;unfold Hp.grow;rw[if_neg (by omega)];exact hh
end al
namespace itm
def vz:SM:=(a6 bn 22 [.ptr 0 0] (bG 6 1 0 [cv []])).getD dn
def PC (l:List ByteArray)(k:Nat):SM:=sO bn 63 100 vz oT (cx k) (PA l)
def QO:SM:=dB bn 63 100 vz oT (.v (.slice none 0 0))
def Mk:List SI:=dA bn 2 100 (PC [] 0) VP
def nb (n:Nat)(x:SV)(i:Int):SF:={ fn:=22,tm:=e9 22 5 ([.ptr 0 0,.aH,x,.aH,.aH,.aH,.sl 1 0 n none,.v (.int .i64 n),.v (.int .i64 i)]++List.replicate 13 .aH),todo:=Mk,defers:=[],ret:=false,kind:=.normal,ro:=none }
def NH (l:List SV):Option (SO × Bool):=some (.row l 48 (0,0) (some 3),true)
def Kq (q:List SV):List (Option (SO × Bool)):=[cv [],JX q]
def KS (q m:List SV):List (Option (SO × Bool)):=[cv [],JX q,NH m]
def rc (k:Nat):SV:=.sl 2 0 k none
def oG (p:ByteArray):List (Nat × gR):=[(2,.cells [.v (.string p)])]++ff (List.range 60) true
def sA (q:List SV)(n:Nat)(i:Int)(p:ByteArray)(k:Int)(a:Option Addr)(l c:Nat):SM:=dB bn 64 100 (SM.at (nb n bZ i) 6 (Kq q)) (oG p) (kJ k a l c)
def sB (q m:List SV)(n r:Nat)(i:Int)(p:ByteArray)(k:Int)(a:Option Addr)(l c:Nat):SM:=dB bn 64 100 (SM.at (nb n (rc r) i) 6 (KS q m)) (oG p) (kJ k a l c)
theorem QL (u:Unit):dT bn 63 100 vz oT=[]:=by kernel_rfl
theorem Ry (n:Nat)(qq:List ByteArray):AA bn 63 100 vz oT (cx n) (PA qq)=[]:=by kernel_rfl
theorem Sb (n:Nat)(qq:List ByteArray):reach bn 2 100 (PC qq n) VP [(0,0),(1,1)] [1] (nb n bZ 0) 6 (Kq (strs qq))=[0=0,VT none 0 0=VT none 0 0,0=0/\n=n/\nZ=none,vZ (↑n:Int)=vZ (↑n:Int),vZ 0=vZ 0,strs qq=strs qq,(strs qq).all ab=true]:=by kernel_rfl
theorem SE (u:Unit):dS bn 63 100 vz oT (.v (.slice none 0 0))=[]:=by kernel_rfl
theorem Tz (v:Value):ao bn 22 100 QO (ff (List.range 10) false) v=[VT none 0 0=v,false=false]:=by kernel_rfl
theorem TV (q m m' w:List SV)(n r:Nat)(i i':Int)(p:ByteArray)(k:Int)(a:Option Addr)(l c:Nat)(qq:List ByteArray):dT bn 64 100 (SM.at (nb n bZ i) 6 (Kq q)) (oG p)=[q[0+i.toNat*1]?=some (SV.v (VS p)),ai i n=true,decide (i<(↑n:Int))=true]:=by kernel_rfl
theorem Us (q m m' w:List SV)(n r:Nat)(i i':Int)(p:ByteArray)(k:Int)(a:Option Addr)(l c:Nat)(qq:List ByteArray):dT bn 64 100 (SM.at (nb n (rc r) i) 6 (KS q m)) (oG p)=[q[0+i.toNat*1]?=some (SV.v (VS p)),ai i n=true,decide (i<(↑n:Int))=true]:=by kernel_rfl
theorem Ts (q m m' w:List SV)(n r:Nat)(i i':Int)(p:ByteArray)(k:Int)(a:Option Addr)(l c:Nat)(qq:List ByteArray):dS bn 64 100 (SM.at (nb n bZ i) 6 (Kq q)) (oG p) (kJ k a l c)=[q[0+i.toNat*1]?=some (SV.v (VS p)),ai i n=true,decide (i<(↑n:Int))=true]:=by kernel_rfl
theorem Tb (q m m' w:List SV)(n r:Nat)(i i':Int)(p:ByteArray)(k:Int)(a:Option Addr)(l c:Nat)(qq:List ByteArray):dS bn 64 100 (SM.at (nb n (rc r) i) 6 (KS q m)) (oG p) (kJ k a l c)=[q[0+i.toNat*1]?=some (SV.v (VS p)),ai i n=true,decide (i<(↑n:Int))=true]:=by kernel_rfl
theorem U7 (q m m' w:List SV)(n r:Nat)(i i':Int)(p:ByteArray)(k:Int)(a:Option Addr)(l c:Nat)(qq:List ByteArray)(v:Value):ao bn 22 60 (SM.at (nb n bZ i) 6 (Kq q)) (ff [0] false) v=[VT none 0 0=v,decide (i<(↑n:Int))=false]:=by kernel_rfl
theorem R2 (q m m' w:List SV)(n r:Nat)(i i':Int)(p:ByteArray)(k:Int)(a:Option Addr)(l c:Nat)(qq:List ByteArray):bY bn 22 60 (SM.at (nb n (rc r) i) 6 (KS q m)) (ff [0] false) (rc r) 2 (.row m 48 (0,0) (some 3))=[0=0/\r=r/\nZ=none,m=m,m.all ab=true,decide (i<(↑n:Int))=false]:=by kernel_rfl
theorem Uc (q m m' w:List SV)(n r:Nat)(i i':Int)(p:ByteArray)(k:Int)(a:Option Addr)(l c:Nat)(qq:List ByteArray):reach bn 2 100 (sA q n i p k a l c) ([(0,.b false)]++ff (List.range 40) true) [(0,0),(1,1),(2,3)] [1,2] (nb n (rc 1) i') 6 (KS q m')=[0=0,0=0/\1=1/\nZ=none,0=0/\n=n/\nZ=none,vZ (↑n:Int)=vZ (↑n:Int),vZ (IntKind.i64.wrap (i+1))=vZ i',q=q,q.all ab=true,[]++List.take 3 (List.drop 0 (aQ (List.replicate 1 (List.map SV.v [VS ⟨⟨[]⟩⟩,vZ 0,VT none 0 0])).flatten 0 (aQ (aQ (List.map SV.v [VS ⟨⟨[]⟩⟩,vZ 0,VT none 0 0]) 0 [SV.v (VS p)]) 1 (List.map SV.v [vZ k,VT a l c]))))=m',m'.all ab=true,false=false]:=by kernel_rfl
theorem Ul (q m m' w:List SV)(n r:Nat)(i i':Int)(p:ByteArray)(k:Int)(a:Option Addr)(l c:Nat)(qq:List ByteArray):reach bn 2 100 (sB q m n r i p k a l c) ([(0,.app m w)]++ff (List.range 40) true) [(0,0),(1,1),(2,4)] [1,2] (nb n (rc (r+1)) i') 6 (KS q m')=[0=0,0=0/\r+1=r+1/\nZ=none,0=0/\n=n/\nZ=none,vZ (↑n:Int)=vZ (↑n:Int),vZ (IntKind.i64.wrap (i+1))=vZ i',q=q,q.all ab=true,m++w=m',m'.all ab=true,((List.take 3 (List.drop 0 (aQ (List.replicate 1 (List.map SV.v [VS ⟨⟨[]⟩⟩,vZ 0,VT none 0 0])).flatten 0 (aQ (aQ (List.map SV.v [VS ⟨⟨[]⟩⟩,vZ 0,VT none 0 0]) 0 [SV.v (VS p)]) 1 (List.map SV.v [vZ k,VT a l c]))))=w/\w.length=1*3)/\1≠0/\(2*(r+1)+1024)*48<=140737488355328)/\List.take (r*3) m=m/\m.length=r*3/\w.all SV.flat=true]:=by kernel_rfl
theorem vO {L:List ByteArray}{i:Nat}{q:ByteArray}(h:L[i]?=some q):(strs L)[0+(i:Int).toNat*1]?=some (.v (.string q)):=by
 rw[V5,W8,XJ];unfold strs;rw[Wv,Wv,h];rfl
def lf (H:Hp)(z:ByteArray->Int × List Int)(N:List ByteArray)(L:List ax):Prop:=L.map (fun x=>x.p)=N/\∀ x∈L,∃ zs,j4 H x.a x.l zs/\(x.k,zs)=z x.p/\(x.l<=x.c\/x.l=0)
theorem lf.mono {H H':Hp}{z:ByteArray->Int × List Int}{N:List ByteArray}{L:List ax}(h:lf H z N L)(hs:H.Sub H'):lf H' z N L:=⟨h.1,fun x hx=>by
 obtain⟨zs,h1,h2⟩:=h.2 x hx
 exact⟨zs,h1.mono hs,h2⟩⟩
theorem lf.snoc {H:Hp}{z:ByteArray->Int × List Int}{N:List ByteArray}{L:List ax}(h:lf H z N L){x:ax}{zs:List Int}(h1:j4 H x.a x.l zs)(h2:(x.k,zs)=z x.p)(h3:x.l<=x.c\/x.l=0):lf H z (N++[x.p]) (L++[x]):=⟨by rw[Wq,h.1];rfl,fun y hy=>by
 rcases WJ.1 hy with hy|hy
 ·exact h.2 y hy
 ·rw[Wl.1 hy];exact⟨zs,h1,h2,h3⟩⟩
def ll (n:Nat)(H:Hp):Hp:=fun k=>if k<n then none else H k
theorem AX {n:Nat}{H H':Hp}(h:H.Sub H'):(ll n H).Sub (ll n H'):=fun k o hk=>by
 unfold ll at hk ⊢
 split at hk
 ·cases hk
 ·rename_i YD
  rw[if_neg YD];exact h k o hk
theorem BM {n:Nat}{H:Hp}{w w':World}(hn:n<=w.heap.size):(EW.grow w w').Sub (ll n (H.grow w w')):=fun k o hk=>by
 unfold Hp.grow EW at hk
 split at hk
 ·cases hk
 ·rename_i YD
  unfold ll Hp.grow
  rw[if_neg (by omega),if_neg YD];exact hk
def OS (W:World)(z:ByteArray->Int × List Int)(N:List ByteArray)(e:Ending)(w':World):Prop:=Below W.heap.size W w'/\∃ v L,e=.returned v/\((N=[]/\L=[]/\v=.slice none 0 0) \/
 (L≠[]/\∃ g c rest,v=.slice (some ⟨g,0,none⟩) L.length c/\W.heap.size<=g/\L.length<=c/\w'.heap[g]?=some (.cells (vI L++rest).toArray 48 (0,0))/\(vI L++rest).length=c*3/\lf (EW.dH W w' g) z N L))
section
variable {W:World}{cs0:List Frame}{M:Own}{ν:aP}{b:Nat}{z:ByteArray->Int × List Int}{E:List cp}{N:List ByteArray}
theorem Nq (hT:jY W b z E)(Zl:ν 0=some (b,0)){S:SM}{p:ByteArray}{o:List (Nat × gR)}{H:Hp}{M1:Own}{w1:World}(hk:Kept W.hp M W H M1 w1){R:Ending->World->Prop}
  (q1:ah (dT bn 64 100 S o)) (q2:iy bn 64 100 S o=eO bn 64 [.ptr 0 0,.v (.string p)] .normal)
  (q3:∀ k a l c,ah (dS bn 64 100 S o (kJ k a l c)))
  (nx:∀ H' M2 w2 k a l c zs,Kept W.hp M W H' M2 w2->(ll W.heap.size H).Sub (ll W.heap.size H')->j4 (ll W.heap.size H') a l zs->(k,zs)=z p->(l<=c\/l=0)->af bn M2 w2 cs0 22 R ν (dB bn 64 100 S o (kJ k a l c))):
  af bn M1 w1 cs0 22 R ν S:=by
 refine af.gI fQ hk (n:=100) (g:=64) (o:=o) (args:=[.ptr 0 0,.v (.string p)]) q1 q2 fun ν' w a hle Yv χ ha=>?_;obtain⟨y1,ZK,rfl,r1,YH⟩:=ha.cons_inv;obtain⟨y2,as2,rfl,r2,Zx⟩:=YH.cons_inv;obtain rfl:=Zx.ay;obtain rfl:=VR.ae.1 r2;obtain⟨bb,YZ,rfl⟩:=VR.aF.1 r1;have YZ:=YZ.symm.trans (hle 0 (b,0) Zl);cases YZ;have hs:=hk.Y1.trans Yv;obtain⟨v1,c1⟩:=(hT.tree.keep hs).cells;exact (An c1 (hT.get.mono hs) p EW).mono fun e w' ⟨hB,k,a,l,c,zs,he,hd,hz,Y0⟩=>⟨hB,.agg #[.int .i64 k,.slice a l c],he,fun M2 Zq=>⟨q3 k a l c,nx _ M2 w' k a l c zs Zq (AX (Hp.fi Yv)) (hd.mono (BM (oO hk.Y1 Yv))) hz Y0⟩⟩
theorem pb (hT:jY W b z E)(hM:∀ z,¬ M z)(Zl:ν 0=some (b,0))(hν:∀ i b,ν i=some b->i=0)(fewN:N.length<=1000):∀ (j i:Nat),i+j=N.length->∀ H M1 w1 L,Kept W.hp M W H M1 w1->lf (ll W.heap.size H) z (N.take i) L->L≠[]->af bn M1 w1 cs0 22 (OS W z N) ν (SM.at (nb N.length (rc L.length) (i:Int)) 6 (KS (strs N) (cI L)))
 | 0,i,hj,H,M1,w1,L,hk,hL,Yu=>by
  rw[We (by omega)]at hL
  refine af.bY fQ (n:=60) (o:=ff [0] false) (x:=rc L.length) (i:=2) (so:=.row (cI L) 48 (0,0) (some 3)) (by
   rw[R2 (m':=[]) (w:=[]) (i':=0) (p:=⟨#[]⟩) (k:=0) (a:=none) (l:=0) (c:=0) (qq:=[])];simp only[ah,az,V2 (show ¬ (i:Int)<(N.length:Int) by omega),VV,VX,VW]) fun ν' w' y b1 ob hv hb ho YA hw Zh=>?_
  obtain⟨M3,w3,M4,s',hBb,hr⟩:=Zh
  have hn:W.heap.size<=b1.1:=by
   rcases hk.base.own _ hw with h|h
   ·exact h
   ·exact absurd h (hM _)
  have hx:H b1.1=none:=by
   cases hh:H b1.1 with
   | none=>rfl
   | some o=>
    obtain⟨h1,h2,_⟩:=hk.still _ _ hh;rcases hw with h|h
    ·omega
    ·exact absurd h h2
  have Yv:(ll W.heap.size H).Sub (EW.dH W w' b1.1):=fun k o' hko=>by
   unfold ll at hko;split at hko
   ·cases hko
   ·rename_i YD;have hne':k≠b1.1:=fun e=>by rw[e,hx]at hko;cases hko
    unfold Hp.dH;rw[if_neg hne'];unfold Hp.grow;rw[if_neg YD];exact (hk.now hBb hr) k o' hko
  have hns:=cF.gb (W:=W) hv hb ho YA hn fun zs hz=>tu hz;obtain⟨g,cc,rest,hy,ZY,υ,hh,YX⟩:=hns
  obtain rfl:g=b1.1:=by
   obtain⟨bb,YZ,hle,hy2⟩:=VR.aL.1 hv;rw[hb]at YZ;cases YZ;rw[hy]at hy2;injection hy2 with e1 _ _;injection e1 with e1;injection e1 with e1
  exact⟨aB hM (hk.base.trans hBb) hr,y,L,rfl,.inr ⟨Yu,b1.1,cc,rest,hy,ZY,υ,hh,YX,hL.mono Yv⟩⟩
 | j+1,i,hj,H,M1,w1,L,hk,hL,Yu=>by
  have hi:i<N.length:=by omega
  have hq:N[i]?=some N[i]:=V4 hi;have Y2:N.take (i+1)=N.take i++[N[i]]:=Wp hi;generalize N[i]=p at hq Y2;have t1:decide ((i:Int)<(N.length:Int))=true:=V0 (by omega);have ws:=aU (k:=i) (by omega);have ri:=aJ hi;have rq:=vO hq
  have hll:L.length<=1000:=by
   have:=congrArg List.length hL.1;rw[WH,WX]at this;omega
  refine Nq hT Zl hk (S:=(SM.at (nb N.length (rc L.length) (i:Int)) 6 (KS (strs N) (cI L)))) (p:=p) (o:=oG p) ?_ (by kernel_rfl) (fun k a l c=>?_) fun H' M2 w2 k a l c zs Zy hs hd hz Y0=>?_
  ·rw[Us (strs N) (cI L) [] [] N.length L.length (i:Int) 0 p 0 none 0 0 []];simp only[ah,t1,ri,rq,ws,bL,az,gN,eQ,gT,fF,WL,VV,VX,VW]
  ·rw[Tb (strs N) (cI L) [] [] N.length L.length (i:Int) 0 p k a l c []];simp only[ah,t1,ri,rq,ws,bL,az,gN,eQ,gT,fF,WL,VV,VX,VW]
  ·show af bn M2 w2 cs0 _ _ ν (sB (strs N) (cI L) N.length L.length (i:Int) p k a l c);have hg:=(hL.mono hs).snoc (x:=⟨p,k,a,l,c⟩) hd hz Y0;rw[<- Y2]at hg;have nx:=pb hT hM Zl hν fewN j (i+1) (by omega) H' M2 w2 (L++[⟨p,k,a,l,c⟩]) Zy hg (by simp);rw[V7,show ([(⟨p,k,a,l,c⟩:ax)]).length=1 from rfl,gT,fF]at nx;refine af.reach fQ (k:=2) (n:=100) (o:=[(0,.app (cI L) (iC ⟨p,k,a,l,c⟩))]++ff (List.range 40) true) (ren:=[(0,0),(1,1),(2,4)]) (eqs:=[1,2]) (S:=(sB (strs N) (cI L) N.length L.length (i:Int) p k a l c)) ?_ (by kernel_rfl) (fun i b h=>by rw[hν i b h];rfl) nx;rw[Ul (qq:=[])];simp only[ah,t1,ri,rq,ws,bL,az,gN,eQ,gT,fF,WL,VV,VX,VW];try (repeat' apply And.intro)
   all_goals first|rfl|omega|exact We (by rw[eQ];exact Wx _)|skip
theorem NL (hT:jY W b z E)(hM:∀ z,¬ M z)(Zl:ν 0=some (b,0))(hν:∀ i b,ν i=some b->i=0)(fewN:N.length<=1000):∀ (j i:Nat),i+j=N.length->∀ H M1 w1 L,Kept W.hp M W H M1 w1->lf (ll W.heap.size H) z (N.take i) L->L=[]->af bn M1 w1 cs0 22 (OS W z N) ν (SM.at (nb N.length bZ (i:Int)) 6 (Kq (strs N)))
 | 0,i,hj,H,M1,w1,L,hk,hL,Yu=>by
  rw[We (by omega)]at hL;have hN:N=[]:=by rw[<- hL.1,Yu];rfl
  refine af.ao fQ (n:=60) (o:=ff [0] false) (v:=.slice none 0 0) ?_ fun ν' M3 w3 s' w' _ Zh hr=>⟨aB hM (hk.base.trans Zh) hr,_,[],rfl,.inl ⟨hN,rfl,rfl⟩⟩;rw[U7 (m:=[]) (m':=[]) (w:=[]) (r:=0) (i':=0) (p:=⟨#[]⟩) (k:=0) (a:=none) (l:=0) (c:=0) (qq:=[])];simp only[ah,V2 (show ¬ (i:Int)<(N.length:Int) by omega),VV,VX,VW]
 | j+1,i,hj,H,M1,w1,L,hk,hL,Yu=>by
  have hi:i<N.length:=by omega
  have hq:N[i]?=some N[i]:=V4 hi;have Y2:N.take (i+1)=N.take i++[N[i]]:=Wp hi;generalize N[i]=p at hq Y2;have t1:decide ((i:Int)<(N.length:Int))=true:=V0 (by omega);have ws:=aU (k:=i) (by omega);have ri:=aJ hi;have rq:=vO hq
  have hll:L.length<=1000:=by
   have:=congrArg List.length hL.1;rw[WH,WX]at this;omega
  refine Nq hT Zl hk (S:=(SM.at (nb N.length bZ (i:Int)) 6 (Kq (strs N)))) (p:=p) (o:=oG p) ?_ (by kernel_rfl) (fun k a l c=>?_) fun H' M2 w2 k a l c zs Zy hs hd hz Y0=>?_
  ·rw[TV (strs N) [] [] [] N.length 0 (i:Int) 0 p 0 none 0 0 []];simp only[ah,t1,ri,rq,ws,bL,az,gN,eQ,gT,fF,WL,VV,VX,VW]
  ·rw[Ts (strs N) [] [] [] N.length 0 (i:Int) 0 p k a l c []];simp only[ah,t1,ri,rq,ws,bL,az,gN,eQ,gT,fF,WL,VV,VX,VW]
  ·show af bn M2 w2 cs0 _ _ ν (sA (strs N) N.length (i:Int) p k a l c);have hg:=(hL.mono hs).snoc (x:=⟨p,k,a,l,c⟩) hd hz Y0;rw[<- Y2]at hg;have nx:=pb (cs0:=cs0) hT hM Zl hν fewN j (i+1) (by omega) H' M2 w2 (L++[⟨p,k,a,l,c⟩]) Zy hg (by simp);rw[V7,show ([(⟨p,k,a,l,c⟩:ax)]).length=1 from rfl,gT,fF]at nx;have hL0:L=[]:=Yu;subst hL0;refine af.reach fQ (k:=2) (n:=100) (o:=[(0,.b false)]++ff (List.range 40) true) (ren:=[(0,0),(1,1),(2,3)]) (eqs:=[1,2]) (S:=(sA (strs N) N.length (i:Int) p k a l c)) ?_ (by kernel_rfl) (fun i b h=>by rw[hν i b h];rfl) nx;rw[show cI ([]:List ax)++iC ⟨p,k,a,l,c⟩=iC ⟨p,k,a,l,c⟩ from rfl,show ([]:List ax).length+1=1 from rfl,Uc (m:=[]) (w:=[]) (r:=0) (qq:=[])];simp only[ah,t1,ri,rq,ws,bL,az,gN,eQ,gT,fF,WL,VV,VX,VW];try (repeat' apply And.intro)
   all_goals first|rfl|omega|exact We (by rw[eQ];exact Wx _)|skip
end
theorem zR {w:World}{b:Nat}{z:ByteArray->Int × List Int}{E:List cp}(hm:MX w)(hT:jY w b z E):Calls Tryz.prog 22 #[fA b] w (OS w z (bA (E.map fun e=>e.1.p))):=by
 obtain⟨v0,hb⟩:=hT.tree.cells
 have ho:∀ (j:Nat) (o':SO) (b' c':Nat),[SO.look []][j]?=some o'->[(b,0)][j]?=some (b',c')->∃ r,w.heap[b']?=some r/\OR (aA [(b,0)]) j o' r:=by
  intro j o' b' c' q1 q2;match j with
  | 0=>
   simp only[Wa,Option.some.injEq]at q1 q2;subst q1;cases q2;exact⟨_,hb,[],_,_,_,rfl,au.nil,fun k y h=>by simp at h⟩
  | j+1=>simp at q1
 refine aW (E:=bn) rfl (d:=6) (l:=[(b,0)]) (os:=[.look []]) rfl (by simp) (by simp) ho rfl (args:=[.ptr 0 0]) (a:=[fA b]) (S0:=vz) (by kernel_rfl) (au.cons (VR.aF.2 ⟨(b,0),rfl,rfl⟩) au.nil) fun cs0=>?_;have hM:∀ z,¬ (aD [(b,0)] ([SO.look []].map fun o=>(o,false))) z:=fun z=>aZ (os:=[SO.look []])
 have ZS:=Kept.start (H0:=w.hp) (M:=aD [(b,0)] ([SO.look []].map fun o=>(o,false))) (w:=w) (Hp.Sub.refl _) (fun z o _=>hM z) (dN (by
  intro j o' m b' c' q1 q2;rw[Wv]at q1;obtain⟨o2,q3,q4⟩:=Wg.1 q1;cases q4;exact ho j o' b' c' q3 q2)) (fun _ h=>h)
 have hν:∀ i b',aA [(b,0)] i=some b'->i=0:=fun i b' h=>dj h
 have hd:∀ {w1:World} {ν':aP} {aa:List Value},(aA [(b,0)]).Le ν'->w.hp.Sub w1.hp->au ν' [.ptr 0 0] aa->Calls Tryz.prog 63 aa.toArray w1 (DZ w1 (bA (E.map fun e=>e.1.p))):=by
  intro w1 ν' aa hle hs ha;obtain⟨y1,ZK,rfl,q1,YH⟩:=ha.cons_inv;obtain rfl:=YH.ay;obtain⟨bb,YZ,rfl⟩:=VR.aF.1 q1;have YZ:=YZ.symm.trans (hle 0 (b,0) rfl);cases YZ;exact al.DU (hm.sub hs) (hT.tree.keep hs) hT.YO
 have fewN:(bA (E.map fun e=>e.1.p)).length<=1000:=by rw[(bz _).length_eq,WH];exact hT.YO
 generalize bA (E.map fun e=>e.1.p)=N at hd fewN ⊢;by_cases hL:N=[]
 ·refine af.gI fQ ZS (n:=100) (g:=63) (o:=oT) (args:=[.ptr 0 0]) (by rw[QL ()];trivial) (by kernel_rfl) fun ν' w1 aa hle Yv χ ha=>?_;refine (hd hle Yv ha).mono fun e w' ⟨hB,v,he,hv⟩=>?_
  obtain rfl:v=.slice none 0 0:=by
   rcases hv with ⟨_,h⟩|⟨h0,_⟩
   ·exact h
   ·exact absurd hL h0
  refine⟨hB,_,he,fun M2 Zq=>⟨by rw[SE ()];trivial,?_⟩⟩;refine af.ao fQ (n:=100) (o:=ff (List.range 10) false) (v:=.slice none 0 0) ?_ fun ν'' M5 w5 s5 w6 _ hB5 hr5=>⟨aB hM (Zq.base.trans hB5) hr5,_,[],rfl,.inl ⟨hL,rfl,rfl⟩⟩;show ah (ao bn 22 100 QO (ff (List.range 10) false) (.slice none 0 0));rw[Tz];simp only[ah,VV,VX,VW]
 ·refine af.CB fQ ZS (n:=100) (g:=63) (o:=oT) (args:=[.ptr 0 0]) (by rw[QL ()];trivial) (by kernel_rfl) fun ν' w1 aa hle Yv χ ha=>?_;refine (hd hle Yv ha).mono fun e w' ⟨hB,v,he,hv⟩=>?_;rcases hv with ⟨h0,_⟩|⟨_,hs⟩
  ·exact absurd h0 hL
  obtain⟨g,cc,rest,hy,ZY,υ,hh,YX⟩:=hs;refine⟨hB,v,cx N.length,PA N,g,cc,_,he,ZY,hh,fun ν2 j hj=>⟨⟨N.map Value.string,rest,rfl,?_,by rw[iK,V7,WH];omega,(g,cc),hj,YX⟩,VR.aL.2 ⟨(g,cc),hj,υ,hy⟩⟩,by rw[Ry];trivial,fun M2 Zq=>?_⟩
  ·have:strs N=(N.map Value.string).map SV.v:=by unfold strs;simp
   rw[this];exact au.lits _ _
  show af bn M2 w' cs0 _ _ (aA [(b,0)]) (PC N N.length);have nx:=NL (cs0:=cs0) hT hM rfl hν fewN N.length 0 (by omega) _ M2 w' [] Zq ⟨rfl,fun x hx=>(nomatch hx)⟩ rfl;refine af.reach fQ (k:=2) (n:=100) (o:=VP) (ren:=[(0,0),(1,1)]) (eqs:=[1]) (F:=nb N.length bZ 0) (d:=6) (l:=Kq (strs N)) ?_ (by kernel_rfl) (fun i b h=>by rw[hν i b h];rfl) nx;rw[Sb];simp only[ah,bL,bZ,VV,VX,VW]
end itm
end paths
end Go.Proofs.YtbjmmnegkpeboaaGreatDoor
namespace Go.Rx
open Go.RowKit (Below)
theorem af.env {E E':Env}{ν:aP}{M:Own}{w0:World}{cs0:List Frame}{f:FuncId}{R:Ending->World->Prop}{S:SM}(hP:E'.P=E.P)(hG:E'.G=E.G)(hd:oH S=true)(YJ:S.callers=[])(h:af E' M w0 cs0 f R ν S):af E M w0 cs0 f R ν S:=by
 intro ν' mm M1 w1 hle hB hmr;obtain⟨fr,cs,w,hl,hm,hr,hg,⟨h1,h2,h3⟩,hc⟩:=hmr;have:=h ν' mm M1 w1 hle hB ⟨fr,cs,w,hl,hm,hr,fun g i e=>hg g i (by rw[<- hG];exact e),⟨h1,fun hf=>⟨(h2 hf).1,?_⟩,h3⟩,?_⟩
 ·rw[<- hP];exact this
 ·have:=(h2 hf).2;revert this hd;show oH S=true->_->Eb E' ν' M1 w1 S.mem hl S.top.tm S.top.todo fr.tmps fr.todo;unfold oH;generalize S.top.todo=xs;generalize fr.todo=ys;intro hd this;cases this with
  | plain ht hk=>exact .plain ht hk
  | drw Zr hn d st hk=>cases hd
 ·rw[YJ]at hc ⊢;generalize S.top.kind=k at hc ⊢;cases hc with
  | nil hnd=>exact .nil hnd
end Go.Rx
namespace Go.Proofs.YtbjmmnegkpeboaaGreatDoor
open Go Go.Rx Go.RowKit Go.Proofs
namespace paths
namespace tt
def Py (D:List ax)(zf:Option Addr->Nat->List Int):List (FuncId × Sum):=[(15,cq words.iS),(24,cq words.p6),(65,kL),(26,de (crc.Ml D zf))]
def HW (D:List ax)(zf:Option Addr->Nat->List Int):Env:={ EP [] [] with YT:=fun f=>(Py D zf).lookup f }
def u6:SM:=(a6 bn 10 [.ptr 0 0] (bG 6 1 0 [cv []])).getD dn
def O8 (n:Nat):Nat->SV:=fun i=>.sl i 0 n none
def Pt (l:List ax):SO:=.row (cI l) 48 (0,0) (some 3)
def OW (l:List ax)(k:Nat):SM:=sO bn 22 100 u6 oT (O8 k) (Pt l)
def QR:SM:=dB bn 22 100 u6 oT (.v (.slice none 0 0))
def MB:List SI:=dA (HW [] fun _ _=>[]) 2 100 (OW [] 0) VP
def zO (n:Nat)(s:ByteArray)(i:Int):SF:={ fn:=10,tm:=e9 41 6 ([.aH,.aH,.aH,.v (.string s),.aH,.aH,.aH,.sl 1 0 n none,.v (.int .i64 n),.v (.int .i64 i)]++List.replicate 31 .aH),todo:=MB,defers:=[],ret:=false,kind:=.normal,ro:=none }
def H8 (m:List SV):List (Option (SO × Bool)):=[cv [],some (.row m 48 (0,0) (some 3),true)]
theorem Q1 (u:Unit):dT bn 22 100 u6 oT=[]:=by kernel_rfl
theorem RV (n:Nat)(l:List ax):AA bn 22 100 u6 oT (O8 n) (Pt l)=[]:=by kernel_rfl
theorem TJ (D:List ax)(zf:Option Addr->Nat->List Int)(n:Nat)(l:List ax):reach (HW D zf) 2 100 (OW l n) VP [(0,0),(1,1)] [1] (zO n ⟨#[]⟩ 0) 6 (H8 (cI l))=[VS ⟨⟨[]⟩⟩=VS ⟨⟨[]⟩⟩,0=0/\n=n/\nZ=none,vZ (↑n:Int)=vZ (↑n:Int),vZ 0=vZ 0,cI l=cI l,(cI l).all ab=true]:=by kernel_rfl
theorem UY (u:Unit):dS bn 22 100 u6 oT (.v (.slice none 0 0))=[]:=by kernel_rfl
theorem Vq (v:Value):ao bn 10 100 QR (ff (List.range 10) false) v=[VS ⟨⟨[]⟩⟩=v,false=false]:=by kernel_rfl
theorem tz (D:List ax)(zf:Option Addr->Nat->List Int)(m:List SV)(n:Nat)(i i':Int)(s s':ByteArray)(x:ax)(v:Value):ao (HW D zf) 10 60 (SM.at (zO n s i) 6 (H8 m)) (ff [0] false) v=[VS s=v,decide (i<(↑n:Int))=false]:=by kernel_rfl
theorem tf (D:List ax)(zf:Option Addr->Nat->List Int)(m:List SV)(n:Nat)(i i':Int)(s s':ByteArray)(x:ax):reach (HW D zf) 2 300 (SM.at (zO n s i) 6 (H8 m)) ([(2,.cells (iC x))]++ff [0] true++ff [1,3,4,5,6,7,8,9,10,11,12,13,14,15,16,17,18,19,20] false++VP) [(0,0),(1,1)] [1] (zO n s' i') 6 (H8 m)=[VS (s++(cO [(⟨⟨[102,105,108,101]⟩⟩:ByteArray),words.cx (words.pathL x.1.data.toList),{ data:={ toList:=Lib.itoa (↑x.4:Int):Array UInt8 }:ByteArray },crc.xW (crc.eF (zf x.3 x.4))] (⟨⟨[32]⟩⟩:ByteArray)++(⟨⟨[10]⟩⟩:ByteArray)))=VS s',0=0/\n=n/\nZ=none,vZ (↑n:Int)=vZ (↑n:Int),vZ (IntKind.i64.wrap (i+1))=vZ i',m=m,m.all ab=true,(s.size+(cO [(⟨⟨[102,105,108,101]⟩⟩:ByteArray),words.cx (words.pathL x.1.data.toList),{ data:={ toList:=Lib.itoa (↑x.4:Int):Array UInt8 }:ByteArray },crc.xW (crc.eF (zf x.3 x.4))] (⟨⟨[32]⟩⟩:ByteArray)++(⟨⟨[10]⟩⟩:ByteArray)).size).le 9223372036854775807,((cO [(⟨⟨[102,105,108,101]⟩⟩:ByteArray),words.cx (words.pathL x.1.data.toList),{ data:={ toList:=Lib.itoa (↑x.4:Int):Array UInt8 }:ByteArray },crc.xW (crc.eF (zf x.3 x.4))] (⟨⟨[32]⟩⟩:ByteArray)).size+1).le 9223372036854775807,(cO [(⟨⟨[102,105,108,101]⟩⟩:ByteArray),words.cx (words.pathL x.1.data.toList),{ data:={ toList:=Lib.itoa (↑x.4:Int):Array UInt8 }:ByteArray },crc.xW (crc.eF (zf x.3 x.4))] (⟨⟨[32]⟩⟩:ByteArray)).size.le 140737488355328,∃ ZT,ZT∈D/\ZT.a=x.a/\ZT.l=x.l/\ZT.c=x.c,decide (x.3=x.3/\x.4=x.4/\x.5=x.5)=true,(-9223372036854775808:Int)<=(↑x.4:Int)/\(↑x.4:Int)<=9223372036854775807,decide (x.3=x.3/\x.4=x.4/\x.5=x.5)=true,decide (x.3=x.3/\x.4=x.4/\x.5=x.5)=true,(x.2==x.2)=true,decide (x.3=x.3/\x.4=x.4/\x.5=x.5)=true,x.1.size.le 1000000000,(x.2==2)=false,List.take 3 (List.drop (0+i.toNat*3) m)=iC x/\(iC x).length=3,ai i n=true,decide (i<(↑n:Int))=true]:=by kernel_rfl
theorem td (D:List ax)(zf:Option Addr->Nat->List Int)(m:List SV)(n:Nat)(i i':Int)(s s':ByteArray)(x:ax):reach (HW D zf) 2 300 (SM.at (zO n s i) 6 (H8 m)) ([(2,.cells (iC x))]++ff [0,3] true++ff [1,4,5,6,7,8,9,10,11,12,13] false++VP) [(0,0),(1,1)] [1] (zO n s' i') 6 (H8 m)=[VS (s++(cO [(⟨⟨[100,105,114]⟩⟩:ByteArray),words.cx (words.pathL x.1.data.toList)] (⟨⟨[32]⟩⟩:ByteArray)++(⟨⟨[10]⟩⟩:ByteArray)))=VS s',0=0/\n=n/\nZ=none,vZ (↑n:Int)=vZ (↑n:Int),vZ (IntKind.i64.wrap (i+1))=vZ i',m=m,m.all ab=true,(s.size+(cO [(⟨⟨[100,105,114]⟩⟩:ByteArray),words.cx (words.pathL x.1.data.toList)] (⟨⟨[32]⟩⟩:ByteArray)++(⟨⟨[10]⟩⟩:ByteArray)).size).le 9223372036854775807,((cO [(⟨⟨[100,105,114]⟩⟩:ByteArray),words.cx (words.pathL x.1.data.toList)] (⟨⟨[32]⟩⟩:ByteArray)).size+1).le 9223372036854775807,(cO [(⟨⟨[100,105,114]⟩⟩:ByteArray),words.cx (words.pathL x.1.data.toList)] (⟨⟨[32]⟩⟩:ByteArray)).size.le 140737488355328,x.1.size.le 1000000000,(x.2==2)=true,List.take 3 (List.drop (0+i.toNat*3) m)=iC x/\(iC x).length=3,ai i n=true,decide (i<(↑n:Int))=true]:=by kernel_rfl
open Go Go.Rx Go.RowKit Go.Proofs
open words (pathL mkS_app mkS_size)
theorem xr (ls:List (List UInt8))(s:List UInt8):cO (ls.map words.cx) (words.cx s)=words.cx (Lib.join ls s):=by
 unfold cO words.cx;rw[WI]
 have:(ls.map ((fun x:ByteArray=>x.data.toList) ∘ fun l=>(⟨l.toArray⟩:ByteArray)))=ls:=by
  conv=>rhs;rw[<- List.map_id ls]
  exact XB fun x _=>rfl
 rw[this]
def hexL (n:Nat):List UInt8:=[words.fo (n / 2 ^ 28 % 16),words.fo (n / 2 ^ 24 % 16),words.fo (n / 2 ^ 20 % 16),words.fo (n / 2 ^ 16 % 16),words.fo (n / 2 ^ 12 % 16),words.fo (n / 2 ^ 8 % 16),words.fo (n / 2 ^ 4 % 16),words.fo (n / 2 ^ 0 % 16)]
def bodyD (p:ByteArray):List UInt8:=[100,105,114]++[32]++pathL p.data.toList
def bodyF (p:ByteArray)(l n:Nat):List UInt8:=[102,105,108,101]++[32]++pathL p.data.toList++[32]++Lib.itoa (l:Int)++[32]++hexL n
theorem jD (p:ByteArray):cO [{ data:={ toList:=[(100:UInt8),(105:UInt8),(114:UInt8)]:Array UInt8 }:ByteArray },words.cx (pathL p.data.toList)] { data:={ toList:=[(32:UInt8)]:Array UInt8 }:ByteArray }=words.cx (bodyD p):=by
 have:=xr [[100,105,114],pathL p.data.toList] [32];refine Eq.trans ?_ (this.trans ?_)
 ·rfl
 ·unfold bodyD Lib.join;congr 1;simp[List.intercalate]
theorem jF (p:ByteArray)(l n:Nat):cO [{ data:={ toList:=[(102:UInt8),(105:UInt8),(108:UInt8),(101:UInt8)]:Array UInt8 }:ByteArray },words.cx (pathL p.data.toList),{ data:={ toList:=Lib.itoa (l:Int):Array UInt8 }:ByteArray },crc.xW n] { data:={ toList:=[(32:UInt8)]:Array UInt8 }:ByteArray }=words.cx (bodyF p l n):=by
 have:=xr [[102,105,108,101],pathL p.data.toList,Lib.itoa (l:Int),hexL n] [32];refine Eq.trans ?_ (this.trans ?_)
 ·rfl
 ·unfold bodyF Lib.join;congr 1;simp[List.intercalate]
theorem nl (u:List UInt8):words.cx u++{ data:={ toList:=[(10:UInt8)]:Array UInt8 }:ByteArray }=words.cx (u++[10]):=mkS_app u [10]
def lineX (zf:Option Addr->Nat->List Int)(x:ax):List UInt8:=if x.k=2 then bodyD x.p++[10] else bodyF x.p x.l (crc.eF (zf x.a x.l))++[10]
theorem bodyD_len {p:ByteArray}(h:p.size<=1000000000):(bodyD p).length<=3000000010:=by
 unfold bodyD;have:=words.ia p.data.toList;have e:p.data.toList.length=p.size:=rfl;simp only[V7,Wm,WK];omega
theorem bodyF_len {p:ByteArray}(h:p.size<=1000000000){l n:Nat}(hl:l<=140737488355328):(bodyF p l n).length<=3000000100:=by
 unfold bodyF;have:=words.ia p.data.toList;have e:p.data.toList.length=p.size:=rfl;have h2:=Lib.itoa_length_le (l:Int) (by omega) (by omega);have h3:(hexL n).length=8:=rfl;simp only[V7,Wm,WK];omega
theorem gU {w0 w:World}(h:words.fG w0)(hk:∀ k,k<w0.heap.size->w.heap[k]?=w0.heap[k]?):words.fG w:=by
 unfold words.fG Lib.TabIs World.var? at *;cases hg : Tryz.prog.globalNamed "internal/strconv.uint64pow10" with
 | none=>simp[hg]at h
 | some g=>
  simp only[hg,V9]at h ⊢
  have YD:g<w0.heap.size:=by
   rcases Nat.lt_or_ge g w0.heap.size with h'|h'
   ·exact h'
   ·rw[W9 h']at h;simp at h
  rw[hk g YD];exact h
def XT (D:List ax)(zf:Option Addr->Nat->List Int)(w:World):Prop:=crc.XS D zf w/\words.fG w
theorem vA {H0 H:Hp}{ZP M:Own}{w00 w0 w:World}{ν:aP}{s:SH}(hk:Kept H0 ZP w00 H M w0)(hr:HR ν M w0 s w):H.Sub w.hp:=fun k o h=>by
 obtain⟨h1,h2,h3⟩:=hk.still k o h
 exact (hr.frame k h1 h2).trans h3
theorem Ji {P:Program}{X Y:World->Prop}{r:FuncId × Sum}(h:bh P X r)(hY:∀ w,Y w->X w):bh P Y r:=by
 refine⟨h.1,fun args x s s' hx ob=>?_⟩;obtain⟨h1,h2⟩:=h.2 args x s s' hx ob;exact⟨h1,fun ν M w0 w a hr hXw ha=>h2 ν M w0 w a hr (hY w hXw) ha⟩
theorem Vl {H0 H:Hp}{ZP M:Own}{w00 w0:World}{D:List ax}{zf:Option Addr->Nat->List Int}(hk:Kept H0 ZP w00 H M w0)(hX:∀ w:World,H.Sub w.hp->XT D zf w):aK (HW D zf) M w0:=
 aK.uG (Checked.mixed Tryz.checked) (by kernel_rfl) (fh.of iJ rfl dK) (dy.list (X:=XT D zf) (l:=Py D zf) rfl (fun r h=>by
  simp only[Py,V8,Ww,Xc]at h
  rcases h with rfl|rfl|rfl|rfl
  ·exact bh.pure (r:=(15,words.iS)) ⟨words.oA.1,fun args v p h hp w _=>words.oA.2 args v p h hp w trivial⟩
  ·exact bh.pure (r:=(24,words.p6)) ⟨words.xY.1,fun args v p h hp w hx=>words.xY.2 args v p h hp w hx.2⟩
  ·exact bh.join words.Cc
  ·exact Ji crc.I5 fun w hx=>hx.1) fun ν s w hr _=>hX w (vA hk hr)) (fun f g h=>by cases h)
theorem text_take {α:Type}(f:α->List UInt8){l:List α}{i:Nat}(h:i<l.length):(l.take (i+1)).flatMap f=(l.take i).flatMap f++f l[i]:=by
 rw[Wp h,List.flatMap_append];simp
section
variable {cs0:List Frame}{R:Ending->World->Prop}{ν:aP}{L:List ax}{zf:Option Addr->Nat->List Int}{M1:Own}{w1:World}
theorem FH (K:aK (HW L zf) M1 w1)(hν:∀ i b,ν i=some b->i=0)(YO:L.length<=1000)(hs:∀ x∈L,x.p.size<=1000000000)(hl:∀ x∈L,x.l<=140737488355328)
  (hR:∀ ν' M2 w2 s' w',dh M1 w1 M2 w2->HR ν' M2 w2 s' w'->R (.returned (.string (words.cx (L.flatMap (lineX zf))))) w'):∀ (j i:Nat),i+j=L.length->((L.take i).flatMap (lineX zf)).length<=i*3000000200->
  af (HW L zf) M1 w1 cs0 10 R ν (SM.at (zO L.length (words.cx ((L.take i).flatMap (lineX zf))) (i:Int)) 6 (H8 (cI L)))
 | 0,i,hj,hb=>by
  refine af.ao K (n:=60) (o:=ff [0] false) (v:=.string (words.cx (L.flatMap (lineX zf)))) ?_ fun ν' M2 w2 s' w' _ hB hr=>hR ν' M2 w2 s' w' hB hr;rw[tz (i':=0) (s':=⟨#[]⟩) (x:=⟨⟨#[]⟩,0,none,0,0⟩),We (by omega)];simp only[ah,VV,VX,VW];exact V2 (by omega)
 | j+1,i,hj,hb=>by
  have hi:i<L.length:=by omega
  have hxm:=WS hi;have hx:L[i]?=some L[i]:=V4 hi;have Y2:=text_take (lineX zf) hi;generalize L[i]=x at hxm hx Y2;have ZV:=hs x hxm;have hxl:=hl x hxm;have t1:decide ((i:Int)<(L.length:Int))=true:=V0 (by omega);have r1:=aJ hi;have ws:=aU (k:=i) (by omega);have ra:=o9 hx;have nx:=FH K hν YO hs hl hR j (i+1) (by omega);rw[Y2]at nx;generalize (L.take i).flatMap (lineX zf)=t at hb nx ⊢
  have ht:t.length<=3000000200000:=by
   have:i*3000000200<=1000*3000000200:=Xw _ (by omega);omega
  by_cases h2:x.k=2
  ·have e:lineX zf x=bodyD x.p++[10]:=by unfold lineX;rw[if_pos h2]
   have Zs:=bodyD_len ZV;have q2:(x.2==(2:Int))=true:=by rw[show x.2=2 from h2];rfl
   rw[e]at nx;refine af.reach K (k:=2) (n:=300) (o:=([(2,.cells (iC x))]++ff [0,3] true++ff [1,4,5,6,7,8,9,10,11,12,13] false++VP)) (ren:=[(0,0),(1,1)]) (eqs:=[1]) ?_ (by kernel_rfl) (fun i b h=>by rw[hν i b h];rfl) (nx (by simp only[V7,Wm,WK];omega));rw[td];simp only[ah,t1,r1,ra,ws,q2,jD,nl,mkS_app,mkS_size,cC,az,V5,VV,VX,VW];simp only[V7,Wm,WK];try (repeat' apply And.intro)
   all_goals first|rfl|exact V0 ⟨rfl,rfl,rfl⟩|exact ZV|(show (_:Nat)<=_;omega)|omega|skip
  ·have e:lineX zf x=bodyF x.p x.l (crc.eF (zf x.a x.l))++[10]:=by unfold lineX;rw[if_neg h2]
   have Zs:=bodyF_len (n:=crc.eF (zf x.a x.l)) ZV hxl;have q2:(x.2==(2:Int))=false:=by simpa using h2
   rw[e]at nx;refine af.reach K (k:=2) (n:=300) (o:=([(2,.cells (iC x))]++ff [0] true++ff [1,3,4,5,6,7,8,9,10,11,12,13,14,15,16,17,18,19,20] false++VP)) (ren:=[(0,0),(1,1)]) (eqs:=[1]) ?_ (by kernel_rfl) (fun i b h=>by rw[hν i b h];rfl) (nx (by simp only[V7,Wm,WK];omega));rw[tf];simp only[ah,t1,r1,ra,ws,q2,jF,nl,mkS_app,mkS_size,cC,az,V5,VV,VX,VW];simp only[V7,Wm,WK];try (repeat' apply And.intro)
   all_goals first|rfl|exact V0 ⟨rfl,rfl,rfl⟩|exact ZV|exact WA _|exact⟨x,hxm,rfl,rfl,rfl⟩|(show (_:Nat)<=_;omega)|omega|skip
end
def lineZ (z:ByteArray->Int × List Int)(p:ByteArray):List UInt8:=if (z p).1=2 then bodyD p++[10] else bodyF p (z p).2.length (crc.eF (z p).2)++[10]
theorem Ac {w:World}{a:Option Addr}{l:Nat}{zs us:List Int}(h1:uw w a l zs)(h2:uw w a l us):zs=us:=by
 refine List.ext_getElem (h1.1.1.trans h2.1.1.symm) fun i hi hj=>?_;have hil:i<l:=by have:=h1.1.1;omega
 cases a with
 | none=>have:=h1.2 rfl;omega
 | some b=>
  have e1:=h1.1.2.2 b rfl i hil w fun _ _=>rfl;have e2:=h2.1.2.2 b rfl i hil w fun _ _=>rfl;rw[e1]at e2;injection e2 with e2;injection e2 with _ e2;rwa[Xo,Xo,V4 hi,V4 hj]at e2
theorem Fh {n:Nat}{H:Hp}{w:World}{a:Option Addr}{l:Nat}{zs:List Int}(hH:∀ k,k<n->H k=none)(hs:H.Sub w.hp)(hd:j4 H a l zs)(hl:0<l)(hn:n<=w.heap.size):∀ b,a=some b->n<=b.block:=by
 intro b hb;subst hb;by_cases h:n<=b.block
 ·exact h
 ·exfalso;have YD:b.block<w.heap.size:=by omega
  have hd2:=hd { w with heap:=w.heap.set b.block (.map #[] 0) YD } fun k o hk=>by
   have hkn:k≠b.block:=fun e=>by rw[e,hH _ (by omega)]at hk;cases hk
   show (w.heap.set b.block (.map #[] 0) YD)[k]?=some o;rw[Array.getElem?_set_ne _ (Ne.symm hkn)];exact hs k o hk
  have:=hd2.1.2.2 b rfl 0 hl _ fun _ _=>rfl;unfold World.cell? Addr.add at this;rw[if_pos rfl]at this;simp at this
def uQ (L:List ax)(z:ByteArray->Int × List Int)(a:Option Addr)(l:Nat):List Int:=open Classical in if h:∃ x∈L,x.a=a/\x.l=l then (z (Classical.choose h).p).2 else []
theorem Bo {H:Hp}{z:ByteArray->Int × List Int}{N:List ByteArray}{L:List ax}(h:itm.lf H z N L){x:ax}(hx:x∈L):j4 H x.a x.l (uQ L z x.a x.l):=by
 have he:∃ y∈L,y.a=x.a/\y.l=x.l:=⟨x,hx,rfl,rfl⟩;unfold uQ;rw[dif_pos he];obtain⟨hy,ha,hl⟩:=XU he;generalize Classical.choose he=y at hy ha hl ⊢;obtain⟨zs,hd,hz,_⟩:=h.2 _ hy;rw[<- hz,<- ha,<- hl];exact hd
theorem Kd {H:Hp}{z:ByteArray->Int × List Int}{N:List ByteArray}{L:List ax}(h:itm.lf H z N L){w:World}(hs:H.Sub w.hp){x:ax}(hx:x∈L):z x.p=(x.k,uQ L z x.a x.l)/\x.l=(uQ L z x.a x.l).length:=by
 obtain⟨zs,hd,hz,_⟩:=h.2 x hx;have h1:=hd w hs;have h2:=Bo h hx w hs;rw[<- hz,Ac h1 h2];exact⟨rfl,h2.1.1.symm⟩
theorem flat_congr {α β:Type}{f g:α->List β}:∀ {l:List α},(∀ x∈l,f x=g x)->l.flatMap f=l.flatMap g
 | [],_=>rfl
 | x::l,h=>by rw[XL,XL,h x Wj,flat_congr fun y hy=>h y (Wc _ hy)]
theorem IS {H:Hp}{z:ByteArray->Int × List Int}{N:List ByteArray}{L:List ax}(h:itm.lf H z N L){w:World}(hs:H.Sub w.hp):L.flatMap (lineX (uQ L z))=N.flatMap (lineZ z):=by
 rw[<- h.1,Ye];refine flat_congr fun x hx=>?_;obtain⟨h1,h2⟩:=Kd h hs hx;unfold lineX lineZ;rw[h1,<- h2]
theorem zV {W:World}{b:Nat}{z:ByteArray->Int × List Int}{E:List cp}(hm:MX W)(hP:words.fG W)(hN:crc.lJ W)(hT:jY W b z E)(hz:∀ p,∀ y∈(z p).2,0<=y/\y<256):
  Calls Tryz.prog 10 #[fA b] W fun e w'=>Below W.heap.size W w'/\e=.returned (.string (words.cx ((bA (E.map fun e=>e.1.p)).flatMap (lineZ z)))):=by
 obtain⟨v0,hb⟩:=hT.tree.cells
 have hsN:∀ s∈bA (E.map fun e=>e.1.p),s.size<=1000000000:=fun s hs=>by
  obtain⟨e,he,rfl⟩:=Wb.1 ((bz _).mem_iff.1 hs);exact hT.tree.size e he
 have fewN:(bA (E.map fun e=>e.1.p)).length<=1000:=by rw[(bz _).length_eq,WH];exact hT.YO
 have ho:∀ (j:Nat) (o':SO) (b' c':Nat),[SO.look []][j]?=some o'->[(b,0)][j]?=some (b',c')->∃ r,W.heap[b']?=some r/\OR (aA [(b,0)]) j o' r:=by
  intro j o' b' c' q1 q2;match j with
  | 0=>
   simp only[Wa,Option.some.injEq]at q1 q2;subst q1;cases q2;exact⟨_,hb,[],_,_,_,rfl,au.nil,fun k y h=>by simp at h⟩
  | j+1=>simp at q1
 refine aW (E:=bn) rfl (d:=6) (l:=[(b,0)]) (os:=[.look []]) rfl (by simp) (by simp) ho rfl (args:=[.ptr 0 0]) (a:=[fA b]) (S0:=u6) (by kernel_rfl) (au.cons (VR.aF.2 ⟨(b,0),rfl,rfl⟩) au.nil) fun cs0=>?_;have hM:∀ z,¬ (aD [(b,0)] ([SO.look []].map fun o=>(o,false))) z:=fun z=>aZ (os:=[SO.look []])
 have ZS:=Kept.start (H0:=W.hp) (M:=aD [(b,0)] ([SO.look []].map fun o=>(o,false))) (w:=W) (Hp.Sub.refl _) (fun z o _=>hM z) (dN (by
  intro j o' m b' c' q1 q2;rw[Wv]at q1;obtain⟨o2,q3,q4⟩:=Wg.1 q1;cases q4;exact ho j o' b' c' q3 q2)) (fun _ h=>h)
 have hν:∀ i b',aA [(b,0)] i=some b'->i=0:=fun i b' h=>dj h
 have hd:∀ {w1:World} {ν':aP} {aa:List Value},(aA [(b,0)]).Le ν'->W.hp.Sub w1.hp->au ν' [.ptr 0 0] aa->Calls Tryz.prog 22 aa.toArray w1 (itm.OS w1 z (bA (E.map fun e=>e.1.p))):=by
  intro w1 ν' aa hle hs ha;obtain⟨y1,ZK,rfl,q1,YH⟩:=ha.cons_inv;obtain rfl:=YH.ay;obtain⟨bb,YZ,rfl⟩:=VR.aF.1 q1;have YZ:=YZ.symm.trans (hle 0 (b,0) rfl);cases YZ;exact itm.zR (hm.sub hs) (hT.keep hs)
 by_cases hN0:bA (E.map fun e=>e.1.p)=[]
 ·refine af.gI fQ ZS (n:=100) (g:=22) (o:=oT) (args:=[.ptr 0 0]) (by rw[Q1 ()];trivial) (by kernel_rfl) fun ν' w1 aa hle Yv χ ha=>?_;refine (hd hle Yv ha).mono fun e w' ⟨hB,v,L,he,hv⟩=>?_
  obtain rfl:v=.slice none 0 0:=by
   rcases hv with ⟨_,_,h⟩|⟨h0,_,_,_,_,_,_,_,_,hg⟩
   ·exact h
   ·exact absurd (List.map_eq_nil_iff.1 (hg.1.trans hN0)) h0
  refine⟨hB,_,he,fun M2 Zq=>⟨by rw[UY ()];trivial,?_⟩⟩;refine af.ao fQ (n:=100) (o:=ff (List.range 10) false) (v:=.string (words.cx ((bA (E.map fun e=>e.1.p)).flatMap (lineZ z)))) ?_ fun ν'' M5 w5 s5 w6 _ hB5 hr5=>⟨aB hM (Zq.base.trans hB5) hr5,rfl⟩;show ah (ao bn 10 100 QR (ff (List.range 10) false) _);rw[Vq,hN0];simp only[ah,VV,VX,VW];rfl
 ·refine af.CB fQ ZS (n:=100) (g:=22) (o:=oT) (args:=[.ptr 0 0]) (by rw[Q1 ()];trivial) (by kernel_rfl) fun ν' w1 aa hle Yv χ ha=>?_;refine (hd hle Yv ha).mono fun e w' ⟨hB,v,L,he,hv⟩=>?_;rcases hv with ⟨h0,_⟩|⟨Yu,g,cc,rest,hy,ZY,υ,hh,YX,hg⟩
  ·exact absurd h0 hN0
  have hLl:L.length<=1000:=by
   have:=congrArg List.length hg.1;rw[WH]at this;omega
  refine⟨hB,v,O8 L.length,Pt L,g,cc,_,he,ZY,hh,fun ν2 j hj=>⟨⟨vI L,rest,rfl,?_,by rw[eQ,V7];have:=congrArg List.length (cX L);rw[WH,eQ]at this;omega,(g,cc),hj,YX⟩,VR.aL.2 ⟨(g,cc),hj,υ,hy⟩⟩,by rw[RV];trivial,fun M2 Zq=>?_⟩
  ·rw[<- cX];exact au.lits _ _
  have hgs:(EW.dH w1 w' g).Sub ((W.hp).dH w1 w' g):=fun k o hk=>by
   unfold Hp.dH at hk ⊢;split at hk
   ·cases hk
   ·rename_i hne';rw[if_neg hne'];unfold Hp.grow EW at hk;unfold Hp.grow;split at hk
    ·cases hk
    ·rename_i YD;rw[if_neg YD];exact hk
  have hsw:((W.hp).dH w1 w' g).Sub w'.hp:=fun k o hk=>(Zq.still k o hk).2.2;have hg':=hg.mono hgs;have hWs:∀ {w2:World},((W.hp).dH w1 w' g).Sub w2.hp->W.hp.Sub w2.hp:=fun h=>Zq.Y1.trans h
  have htl:(0:Nat)<W.heap.size:=by
   obtain⟨_,_,_,_,h1,_⟩:=hN;exact (VY.1 h1).1
  have hX:∀ w2:World,((W.hp).dH w1 w' g).Sub w2.hp->XT L (uQ L z) w2:=fun w2 h2=>by
   have hk:=iN (Hp.Sub.refl _) (hWs h2);refine⟨⟨⟨fun x hx=>Bo hg' hx w2 h2,fun x hx=>?_,fun x hx y hy=>?_⟩,hN.keep hk,fun x hx bb YZ hl=>?_⟩,gU hP hk⟩
   ·obtain⟨_,_,_,hc⟩:=hg.2 x hx;exact hc
   ·have:=(Kd hg' hsw hx).1;exact hz x.p y (by rw[this];exact hy)
   ·have ZO:=Fh (n:=w1.heap.size) (H:=EW.dH w1 w' g) (w:=w') (fun k hk=>by
     unfold Hp.dH;split
     ·rfl
     ·unfold Hp.grow EW;rw[if_pos hk]) (hgs.trans hsw) (Bo hg hx) hl hB.size bb YZ
    have:=oO (Hp.Sub.refl _) Yv;omega
  show af bn M2 w' cs0 _ _ (aA [(b,0)]) (OW L L.length);refine af.env (E':=HW L (uQ L z)) rfl rfl (by kernel_rfl) (by kernel_rfl) ?_;have K:=Vl (D:=L) (zf:=uQ L z) Zq hX;have hte:=IS hg' hsw;have nx:=FH (cs0:=cs0) (L:=L) (zf:=uQ L z) (R:=fun e w'=>Below W.heap.size W w'/\e=.returned (.string (words.cx ((bA (E.map fun e=>e.1.p)).flatMap (lineZ z))))) K hν hLl (fun x hx=>hsN x.p (by rw[<- hg.1];exact Wb.2 ⟨x,hx,rfl⟩)) (fun x hx=>(hX w' hsw).1.EZ x hx |>.1.2.1) (fun ν' M3 w3 s' w4 hB3 hr3=>⟨aB hM (Zq.base.trans hB3) hr3,by rw[hte]⟩) L.length 0 (by omega) (by simp);refine af.reach K (k:=2) (n:=100) (o:=VP) (ren:=[(0,0),(1,1)]) (eqs:=[1]) ?_ (by kernel_rfl) (fun i b h=>by rw[hν i b h];rfl) nx;show ah (reach (HW L (uQ L z)) 2 100 (OW L L.length) VP [(0,0),(1,1)] [1] (zO L.length ⟨#[]⟩ 0) 6 (H8 (cI L)));rw[TJ];simp only[ah,az,VV,VX,VW]
end tt
namespace tr
def Px (D:List ax)(zf:Option Addr->Nat->List Int):List (FuncId × Sum):=[(27,cq words.iS),(30,cq words.j7),(29,cq words.yq),(69,de (crc.vb D zf))]
def uA (D:List ax)(zf:Option Addr->Nat->List Int):Env:={ EP [] [] with YT:=fun f=>(Px D zf).lookup f }
def Cl (D:List ax)(zf:Option Addr->Nat->List Int)(l:List SV)(n c:Nat):SM:=(a6 (uA D zf) 11 [.sl 0 0 n (some c)] (bG 6 1 0 [cv l])).getD dn
def LV:List SI:=dA (uA [] fun _ _=>[]) 2 100 (Cl [] (fun _ _=>[]) [] 0 0) VP
def xc (n c:Nat)(s:ByteArray)(i:Int):SF:={ fn:=11,tm:=e9 74 7 ([.sl 0 0 n (some c),.aH,.aH,.v (.string s),.v (.int .i64 i)]++List.replicate 69 .aH),todo:=LV,defers:=[],ret:=false,kind:=.normal,ro:=none }
def LI:List SI:=dA (uA [] fun _ _=>[]) 7 200 (SM.at (xc 0 0 ⟨#[]⟩ 0) 6 [cv []]) ([(2,.cells [.v (.int .i64 0)]),(5,.cells [.v (.slice none 0 0)])]++ff [0] true++ff [3] false)
def AN (n c:Nat)(s:ByteArray)(i N:Int)(d:ByteArray)(k:Int):SF:={ fn:=11,tm:=e9 74 7 ([.sl 0 0 n (some c),.aH,.aH,.v (.string s),.v (.int .i64 i),.v (.int .i64 N),.v (.string d),.v (.int .i64 k)]++List.replicate 66 .aH),todo:=LI,defers:=[],ret:=false,kind:=.normal,ro:=none }
theorem U6 (D:List ax)(zf:Option Addr->Nat->List Int)(m:List SV)(n c:Nat):reach (uA D zf) 2 100 (Cl D zf m n c) VP [(0,0)] [0] (xc n c ⟨#[]⟩ 0) 6 [cv m]=[0=0/\n=n/\some c=some c,VS ⟨⟨[]⟩⟩=VS ⟨⟨[]⟩⟩,vZ 0=vZ 0,m=m,m.all ab=true]:=by kernel_rfl
theorem Sk (D:List ax)(zf:Option Addr->Nat->List Int)(m:List SV)(n c:Nat)(i i' N N' k k':Int)(s s' d d':ByteArray)(x:ax)(v:Value):ao (uA D zf) 11 60 (SM.at (xc n c s i) 6 [cv m]) (ff [0] false) v=[VS s=v,decide (i<(↑n:Int))=false]:=by kernel_rfl
theorem Uq (v:Value):ao (uA [] fun _ _=>[]) 11 60 (a7 (uA [] fun _ _=>[]) 11 [.v (.slice none 0 0)]) (ff [0] false++VP) v=[VS ⟨⟨[]⟩⟩=v,false=false]:=by kernel_rfl
theorem rd (D:List ax)(zf:Option Addr->Nat->List Int)(m:List SV)(n c:Nat)(i i' N N' k k':Int)(s s' d d':ByteArray)(x:ax):reach (uA D zf) 2 400 (SM.at (xc n c s i) 6 [cv m]) ([(2,.cells [.v (.int .i64 x.k)]),(6,.cells [.v (.string x.p)])]++ff [0,3] true++ff [1,4,5,7,8,9,10,11,12,13,14] false++VP) [(0,0)] [0] (xc n c s' i') 6 [cv m]=[0=0/\n=n/\some c=some c,VS (s++(⟨⟨[100,105,114,32]⟩⟩:ByteArray)++words.cx (words.pathL x.1.data.toList)++(⟨⟨[10]⟩⟩:ByteArray))=VS s',vZ (IntKind.i64.wrap (i+1))=vZ i',m=m,m.all ab=true,((s++(⟨⟨[100,105,114,32]⟩⟩:ByteArray)++words.cx (words.pathL x.1.data.toList)).size+1).le 9223372036854775807,((s++(⟨⟨[100,105,114,32]⟩⟩:ByteArray)).size+(words.cx (words.pathL x.1.data.toList)).size).le 9223372036854775807,x.1.size.le 1000000000,m[0+i.toNat*3+0]?=some (SV.v (VS x.1)),ai i n=true,(s.size+4).le 9223372036854775807,(x.2==2)=true,m[0+i.toNat*3+1+0]?=some (SV.v (vZ x.2)),ai i n=true,decide (i<(↑n:Int))=true]:=by kernel_rfl
theorem ri (D:List ax)(zf:Option Addr->Nat->List Int)(m:List SV)(n c:Nat)(i i' N N' k k':Int)(s s' d d':ByteArray)(x:ax):reach (uA D zf) 7 300 (SM.at (xc n c s i) 6 [cv m]) ([(2,.cells [.v (.int .i64 x.k)]),(5,.cells [.v (.slice x.a x.l x.c)])]++ff [0] true++ff [3] false++VP) [(0,0)] [0] (AN n c s i N ⟨#[]⟩ 0) 6 [cv m]=[0=0/\n=n/\some c=some c,VS s=VS s,vZ i=vZ i,vZ (IntKind.i64.wrap (↑(crc.eF (zf x.3 x.4)):Int))=vZ N,VS ⟨⟨[]⟩⟩=VS ⟨⟨[]⟩⟩,vZ 0=vZ 0,m=m,m.all ab=true,(0:Int)=0/\crc.O2 D x.3 x.4 x.5,m[0+i.toNat*3+1+1]?=some (SV.v (VT x.3 x.4 x.5)),ai i n=true,(x.2==2)=false,m[0+i.toNat*3+1+0]?=some (SV.v (vZ x.2)),ai i n=true,decide (i<(↑n:Int))=true]:=by kernel_rfl
theorem rr (D:List ax)(zf:Option Addr->Nat->List Int)(m:List SV)(n c:Nat)(i i' N N' k k':Int)(s s' d d':ByteArray)(x:ax):reach (uA D zf) 7 300 (SM.at (AN n c s i N d k) 6 [cv m]) (ff [0] true++VP) [(0,0)] [0] (AN n c s i N' d' k') 6 [cv m]=[0=0/\n=n/\some c=some c,VS s=VS s,vZ i=vZ i,vZ (IntKind.i64.wrap (N.tdiv 16))=vZ N',VS (words.gK.extract (N.tmod 16).toNat ((N.tmod 16).toNat+1)++d)=VS d',vZ (IntKind.i64.wrap (k+1))=vZ k',m=m,m.all ab=true,((words.gK.extract (N.tmod 16).toNat ((N.tmod 16).toNat+1)).size+d.size).le 9223372036854775807,0<=N.tmod 16/\N.tmod (16:Int)<16,decide (k<8)=true]:=by kernel_rfl
theorem re (D:List ax)(zf:Option Addr->Nat->List Int)(m:List SV)(n c:Nat)(i i' N N' k k':Int)(s s' d d':ByteArray)(x:ax):reach (uA D zf) 2 400 (SM.at (AN n c s i N d k) 6 [cv m]) ([(3,.cells [.v (.string x.p)]),(5,.cells [.v (.slice x.a x.l x.c)]),(8,.cells [.v (.slice x.a x.l x.c)])]++ff [0] false++VP) [(0,0)] [0] (xc n c s' i') 6 [cv m]=[0=0/\n=n/\some c=some c,VS (s++(⟨⟨[102,105,108,101,32]⟩⟩:ByteArray)++words.cx (words.pathL x.1.data.toList)++(⟨⟨[32]⟩⟩:ByteArray)++{ data:={ toList:=Lib.itoa (↑x.4:Int):Array UInt8 }:ByteArray }++(⟨⟨[32]⟩⟩:ByteArray)++d++(⟨⟨[10]⟩⟩:ByteArray))=VS s',vZ (IntKind.i64.wrap (i+1))=vZ i',m=m,m.all ab=true,((s++(⟨⟨[102,105,108,101,32]⟩⟩:ByteArray)++words.cx (words.pathL x.1.data.toList)++(⟨⟨[32]⟩⟩:ByteArray)++{ data:={ toList:=Lib.itoa (↑x.4:Int):Array UInt8 }:ByteArray }++(⟨⟨[32]⟩⟩:ByteArray)++d).size+1).le 9223372036854775807,((s++(⟨⟨[102,105,108,101,32]⟩⟩:ByteArray)++words.cx (words.pathL x.1.data.toList)++(⟨⟨[32]⟩⟩:ByteArray)++{ data:={ toList:=Lib.itoa (↑x.4:Int):Array UInt8 }:ByteArray }++(⟨⟨[32]⟩⟩:ByteArray)).size+d.size).le 9223372036854775807,((s++(⟨⟨[102,105,108,101,32]⟩⟩:ByteArray)++words.cx (words.pathL x.1.data.toList)++(⟨⟨[32]⟩⟩:ByteArray)++{ data:={ toList:=Lib.itoa (↑x.4:Int):Array UInt8 }:ByteArray }).size+1).le 9223372036854775807,((s++(⟨⟨[102,105,108,101,32]⟩⟩:ByteArray)++words.cx (words.pathL x.1.data.toList)++(⟨⟨[32]⟩⟩:ByteArray)).size+{ data:={ toList:=Lib.itoa (↑x.4:Int):Array UInt8 }:ByteArray }.size).le 9223372036854775807,(-9223372036854775808:Int)<=(↑x.4:Int)/\(↑x.4:Int)<=9223372036854775807,((s++(⟨⟨[102,105,108,101,32]⟩⟩:ByteArray)++words.cx (words.pathL x.1.data.toList)).size+1).le 9223372036854775807,((s++(⟨⟨[102,105,108,101,32]⟩⟩:ByteArray)).size+(words.cx (words.pathL x.1.data.toList)).size).le 9223372036854775807,decide (x.3=x.3/\x.4=x.4/\x.5=x.5)=true,m[0+i.toNat*3+1+1]?=some (SV.v (VT x.3 x.4 x.5)),((↑x.4:Int)==(↑x.4:Int))=true,x.1.size.le 1000000000,m[0+i.toNat*3+1+1]?=some (SV.v (VT x.3 x.4 x.5)),ai i n=true,m[0+i.toNat*3+0]?=some (SV.v (VS x.1)),ai i n=true,(s.size+5).le 9223372036854775807,decide (k<8)=false]:=by kernel_rfl
open words (pathL mkS_app mkS_size)
open tt (bodyD bodyF hexL lineX bodyD_len bodyF_len text_take)
theorem QJ {M0 M:Own}{w00 w0:World}{D:List ax}{zf:Option Addr->Nat->List Int}(hM:∀ z,¬ M0 z)(hB:dh M0 w00 M w0)(hX:crc.XD D zf w00):aK (uA D zf) M w0:=
 aK.uG (Checked.mixed Tryz.checked) (by kernel_rfl) (fh.of iJ rfl dK) (dy.list (X:=crc.XD D zf) (l:=Px D zf) rfl (fun r h=>by
  simp only[Px,V8,Ww,Xc]at h
  rcases h with rfl|rfl|rfl|rfl
  ·exact bh.pure (r:=(27,words.iS)) ⟨words.xQ.1,fun args v p h hp w _=>words.xQ.2 args v p h hp w trivial⟩
  ·exact bh.pure (r:=(30,words.j7)) ⟨words.qi.1,fun args v p h hp w _=>words.qi.2 args v p h hp w trivial⟩
  ·exact bh.pure (r:=(29,words.yq)) ⟨words.Af.1,fun args v p h hp w _=>words.Af.2 args v p h hp w trivial⟩
  ·exact crc.Gq) fun ν s w hr _=>hX.keep fun k hk=>(hr.frame k (Wz hk hB.size) (hB.frame k hk (hM k)).2).trans (hB.frame k hk (hM k)).1) (fun f g h=>by cases h)
theorem Ik:(List.range 16).all (fun k=>decide (words.gK.extract k (k+1)=words.cx [words.fo k]))=true:=by kernel_rfl
theorem IE {k:Nat}(h:k<16):words.gK.extract k (k+1)=words.cx [words.fo k]:=Ws (Wn.1 Ik k (Xd.2 h))
def ql (n:Nat):Nat->List UInt8
 | 0=>[]
 | k+1=>words.fo (n / 16 ^ k % 16)::ql n k
theorem tK (n:Nat):∀ k,(ql n k).length=k
 | 0=>rfl
 | k+1=>by unfold ql;rw[Wm,tK n k]
theorem MJ (n:Nat):ql n 8=hexL n:=rfl
theorem TX {xs:List ax}{i:Nat}{x:ax}(h:xs[i]?=some x):(cI xs)[0+(i:Int).toNat*3+0]?=some (.v (.string x.p)):=by
 rw[V5];exact iP h
theorem F5 {xs:List ax}{i j:Nat}{x:ax}(h:xs[i]?=some x)(hj:j<3):(cI xs)[0+i*3+j]?=(iC x)[j]?:=by
 have h1:=o9 h;rw[<- h1,WN,if_pos hj,W7]
theorem T6 {xs:List ax}{i:Nat}{x:ax}(h:xs[i]?=some x):(cI xs)[0+(i:Int).toNat*3+1+0]?=some (.v (.int .i64 x.k)):=by
 rw[V5,X6,F5 h (by decide)];rfl
theorem UF {xs:List ax}{i:Nat}{x:ax}(h:xs[i]?=some x):(cI xs)[0+(i:Int).toNat*3+1+1]?=some (.v (.slice x.a x.l x.c)):=by
 rw[V5,show 0+i*3+1+1=0+i*3+2 from rfl,F5 h (by decide)];rfl
theorem bF:({ data:={ toList:=[(102:UInt8),(105:UInt8),(108:UInt8),(101:UInt8),(32:UInt8)]:Array UInt8 }:ByteArray })=words.cx [102,105,108,101,32]:=rfl
theorem bD:({ data:={ toList:=[(100:UInt8),(105:UInt8),(114:UInt8),(32:UInt8)]:Array UInt8 }:ByteArray })=words.cx [100,105,114,32]:=rfl
theorem bS:({ data:={ toList:=[(32:UInt8)]:Array UInt8 }:ByteArray })=words.cx [32]:=rfl
theorem bN:({ data:={ toList:=[(10:UInt8)]:Array UInt8 }:ByteArray })=words.cx [10]:=rfl
theorem bI (z:Int):({ data:={ toList:=Lib.itoa z:Array UInt8 }:ByteArray })=words.cx (Lib.itoa z):=rfl
section
variable {cs0:List Frame}{R:Ending->World->Prop}{ν:aP}{L D:List ax}{zf:Option Addr->Nat->List Int}{M1:Own}{w1:World}{c:Nat}
theorem Lv (K:aK (uA D zf) M1 w1)(hν:∀ i b,ν i=some b->i=0){i:Nat}{s:ByteArray}{n q:Nat}(hq:q<4294967296){m:List SV}(YJ:m.all ab=true)
  (nx:af (uA D zf) M1 w1 cs0 11 R ν (SM.at (AN n c s (i:Int) ((q / 16 ^ 8:Nat):Int) (words.cx (ql q 8)) ((8:Nat):Int)) 6 [cv m])):∀ (j k:Nat),k+j=8->
  af (uA D zf) M1 w1 cs0 11 R ν (SM.at (AN n c s (i:Int) ((q / 16 ^ k:Nat):Int) (words.cx (ql q k)) (k:Int)) 6 [cv m]):=by
 intro j;induction j with
 | zero=>
  intro k hk;have e:k=8:=by omega
  rw[e];exact nx
 | succ j IH=>
  intro k hk;have ih:=IH (k+1) (by omega);have ws:=aU (k:=k) (by omega);have t1:decide ((k:Int)<8)=true:=V0 (by omega);have hle:q / 16 ^ k<=q:=Nat.div_le_self _ _;have e0:q / 16 ^ (k+1)=q / 16 ^ k / 16:=by rw[Nat.pow_succ,Nat.div_div_eq_div_mul]
  rw[e0,show ql q (k+1)=words.fo (q / 16 ^ k % 16)::ql q k from rfl]at ih;have hkl:=tK q k;generalize ql q k=dl at ih hkl ⊢;generalize q / 16 ^ k=r at ih hle ⊢;have e1:(r:Int).tmod 16=((r % 16:Nat):Int):=rfl;have e2:(r:Int).tdiv 16=((r / 16:Nat):Int):=rfl;have e3:IntKind.i64.wrap ((r / 16:Nat):Int)=((r / 16:Nat):Int):=Xx _ (by omega);have e4:=IE (k:=r % 16) (Yb _ (by decide));refine af.reach K (k:=7) (n:=300) (o:=ff [0] true++VP) (ren:=[(0,0)]) (eqs:=[0]) ?_ (by kernel_rfl) (fun i b h=>by rw[hν i b h];rfl) ih;rw[rr (i':=0) (s':=⟨#[]⟩) (x:=⟨⟨#[]⟩,0,none,0,0⟩)];simp only[ah,t1,ws,e1,e2,e3,e4,YJ,V5,mkS_app,mkS_size,V7,Wm,WK,Xs,Xm,VV,VX,VW];try (repeat' apply And.intro)
  all_goals first|rfl|omega|(show (_:Nat)<=_;omega)|skip
theorem Fe (K:aK (uA L zf) M1 w1)(hν:∀ i b,ν i=some b->i=0)(YO:L.length<=1000)(hs:∀ x∈L,x.p.size<=1000000000)(hl:∀ x∈L,x.l<=140737488355328)
  (hR:∀ ν' M2 w2 s' w',dh M1 w1 M2 w2->HR ν' M2 w2 s' w'->R (.returned (.string (words.cx (L.flatMap (lineX zf))))) w'):∀ (j i:Nat),i+j=L.length->((L.take i).flatMap (lineX zf)).length<=i*3000000200->
  af (uA L zf) M1 w1 cs0 11 R ν (SM.at (xc L.length c (words.cx ((L.take i).flatMap (lineX zf))) (i:Int)) 6 [cv (cI L)])
 | 0,i,hj,hb=>by
  refine af.ao K (n:=60) (o:=ff [0] false) (v:=.string (words.cx (L.flatMap (lineX zf)))) ?_ fun ν' M2 w2 s' w' _ hB hr=>hR ν' M2 w2 s' w' hB hr;rw[Sk (i':=0) (s':=⟨#[]⟩) (N:=0) (N':=0) (k:=0) (k':=0) (d:=⟨#[]⟩) (d':=⟨#[]⟩) (x:=⟨⟨#[]⟩,0,none,0,0⟩),We (by omega)];simp only[ah,VV,VX,VW];exact V2 (by omega)
 | j+1,i,hj,hb=>by
  have hi:i<L.length:=by omega
  have hxm:=WS hi;have hx:L[i]?=some L[i]:=V4 hi;have Y2:=text_take (lineX zf) hi;generalize L[i]=x at hxm hx Y2;have ZV:=hs x hxm;have hxl:=hl x hxm;have t1:decide ((i:Int)<(L.length:Int))=true:=V0 (by omega);have r1:=aJ hi;have ws:=aU (k:=i) (by omega);have rp:=TX hx;have rk:=T6 hx;have ra:=UF hx;have nx:=Fe K hν YO hs hl hR j (i+1) (by omega);rw[Y2]at nx;generalize (L.take i).flatMap (lineX zf)=t at hb nx ⊢
  have ht:t.length<=3000000200000:=by
   have:i*3000000200<=1000*3000000200:=Xw _ (by omega);omega
  have hpl:=words.ia x.p.data.toList;have Z0:x.p.data.toList.length=x.p.size:=rfl;by_cases h2:x.k=2
  ·have e:lineX zf x=bodyD x.p++[10]:=by unfold lineX;rw[if_pos h2]
   have Zs:=bodyD_len ZV;have q2:(x.2==(2:Int))=true:=by rw[show x.2=2 from h2];rfl
   rw[e]at nx;have nx:=nx (by simp only[V7,Wm,WK];omega);have es:words.cx (t++(bodyD x.p++[10]))=words.cx (t++[100,105,114,32]++pathL x.p.data.toList++[10]):=by unfold bodyD;simp
   rw[es]at nx;refine af.reach K (k:=2) (n:=400) (o:=([(2,.cells [.v (.int .i64 x.k)]),(6,.cells [.v (.string x.p)])]++ff [0,3] true++ff [1,4,5,7,8,9,10,11,12,13,14] false++VP)) (ren:=[(0,0)]) (eqs:=[0]) ?_ (by kernel_rfl) (fun i b h=>by rw[hν i b h];rfl) nx;rw[rd (N:=0) (N':=0) (k:=0) (k':=0) (d:=⟨#[]⟩) (d':=⟨#[]⟩)];simp only[ah,t1,r1,rp,rk,ws,q2,bD,bN,mkS_app,mkS_size,az,VV,VX,VW];simp only[V7,Wm,WK];try (repeat' apply And.intro)
   all_goals first|rfl|exact ZV|(show (_:Nat)<=_;omega)|omega|skip
  ·have e:lineX zf x=bodyF x.p x.l (crc.eF (zf x.a x.l))++[10]:=by unfold lineX;rw[if_neg h2]
   have Zs:=bodyF_len (n:=crc.eF (zf x.a x.l)) ZV hxl;have q2:(x.2==(2:Int))=false:=by simpa using h2
   have hil:=Lib.itoa_length_le (x.l:Int) (by omega) (by omega);have hq:=crc.Di (zf x.a x.l);rw[e]at nx;have nx:=nx (by simp only[V7,Wm,WK];omega);have es:words.cx (t++(bodyF x.p x.l (crc.eF (zf x.a x.l))++[10]))=words.cx (t++[102,105,108,101,32]++pathL x.p.data.toList++[32]++Lib.itoa (x.l:Int)++[32]++ql (crc.eF (zf x.a x.l)) 8++[10]):=by rw[MJ];unfold bodyF;simp
   rw[es]at nx;have ew:IntKind.i64.wrap ((crc.eF (zf x.a x.l):Nat):Int)=((crc.eF (zf x.a x.l):Nat):Int):=Xx _ (by omega);have hk8:=tK (crc.eF (zf x.a x.l)) 8
   have ex:af (uA L zf) M1 w1 cs0 11 R ν (SM.at (AN L.length c (words.cx t) (i:Int) ((crc.eF (zf x.a x.l) / 16 ^ 8:Nat):Int) (words.cx (ql (crc.eF (zf x.a x.l)) 8)) ((8:Nat):Int)) 6 [cv (cI L)]):=by
    refine af.reach K (k:=2) (n:=400) (o:=([(3,.cells [.v (.string x.p)]),(5,.cells [.v (.slice x.a x.l x.c)]),(8,.cells [.v (.slice x.a x.l x.c)])]++ff [0] false++VP)) (ren:=[(0,0)]) (eqs:=[0]) ?_ (by kernel_rfl) (fun i b h=>by rw[hν i b h];rfl) nx;rw[re (N':=0) (k':=0) (d':=⟨#[]⟩)];generalize ql (crc.eF (zf x.a x.l)) 8=dl at hk8 ⊢;simp only[ah,r1,rp,ra,ws,bF,bS,bN,bI,mkS_app,mkS_size,az,V2 (show ¬ ((8:Nat):Int)<8 by omega),VV,VX,VW];simp only[V7,Wm,WK];try (repeat' apply And.intro)
    all_goals first|rfl|exact ZV|exact WA _|exact V0 ⟨rfl,rfl,rfl⟩|(show (_:Nat)<=_;omega)|omega|skip
   have mid:=Lv K hν hq (az L) ex 8 0 (by omega);rw[show crc.eF (zf x.a x.l) / 16 ^ 0=crc.eF (zf x.a x.l) by simp,show words.cx (ql (crc.eF (zf x.a x.l)) 0)=⟨#[]⟩ from rfl,show ((0:Nat):Int)=0 from rfl]at mid;refine af.reach K (k:=7) (n:=300) (o:=([(2,.cells [.v (.int .i64 x.k)]),(5,.cells [.v (.slice x.a x.l x.c)])]++ff [0] true++ff [3] false++VP)) (ren:=[(0,0)]) (eqs:=[0]) ?_ (by kernel_rfl) (fun i b h=>by rw[hν i b h];rfl) mid;rw[ri (i':=0) (N':=0) (k:=0) (k':=0) (s':=⟨#[]⟩) (d:=⟨#[]⟩) (d':=⟨#[]⟩)];simp only[ah,t1,r1,rk,ra,q2,ew,az,VV,VX,VW];try (repeat' apply And.intro)
   all_goals first|rfl|exact⟨x,hxm,rfl,rfl,rfl⟩|skip
end
end tr
namespace tr
open tt (lineX lineZ)
def Pz (W:World)(y:Value)(xs:List ax):Prop:=(xs=[]/\y=.slice none 0 0)\/(xs≠[]/\∃ w0:World,cF w0 W y (vI xs) xs.length 3 48)
theorem zD {W:World}{y:Value}{xs D:List ax}{zf:Option Addr->Nat->List Int}(h:Pz W y xs)(hX0:crc.XD D zf W)(Yv:∀ e∈xs,e∈D)(YO:xs.length<=1000)(hs:∀ x∈xs,x.p.size<=1000000000):
  Calls Tryz.prog 11 #[y] W fun e w'=>Below W.heap.size W w'/\e=.returned (.string (words.cx (xs.flatMap (lineX zf)))):=by
 have hX:crc.XD xs zf W:=⟨fun x hx=>hX0.EZ x (Yv x hx),fun x hx=>hX0.cap x (Yv x hx),fun x hx=>hX0.rng x (Yv x hx)⟩;rcases h with ⟨rfl,rfl⟩|⟨Yu,w0,g,c,rest,rfl,_,ZF,hh,YX⟩
 ·refine (bP (E:=uA [] fun _ _=>[]) rfl rfl (args:=[.v (.slice none 0 0)]) (a:=[.slice none 0 0]) (S0:=a7 (uA [] fun _ _=>[]) 11 [.v (.slice none 0 0)]) (by kernel_rfl) (au.cons (VR.ae.2 rfl) au.nil) fun cs0=>?_);refine af.ao (QJ aE (dh.refl (fun b hb=>by obtain⟨i,o,c,h1,h2⟩:=hb;simp at h1) fun _ h=>h) (D:=[]) (zf:=fun _ _=>[]) ⟨fun x hx=>(nomatch hx),fun x hx=>(nomatch hx),fun x hx=>(nomatch hx)⟩) (n:=60) (o:=ff [0] false++VP) (v:=.string (words.cx (([]:List ax).flatMap (lineX zf)))) ?_ fun ν' M1 w1 s' w' _ Zh hr=>⟨aB aE Zh hr,rfl⟩;rw[Uq];simp only[ah,VV,VX,VW];rfl
 ·have ho:∀ (j:Nat) (o':SO) (b' c':Nat),[SO.look (cI xs)][j]?=some o'->[(g,c)][j]?=some (b',c')->∃ r,W.heap[b']?=some r/\OR (aA [(g,c)]) j o' r:=by
   intro j o' b' c' q1 q2;match j with
   | 0=>
    simp only[Wa,Option.some.injEq]at q1 q2;subst q1;cases q2;refine⟨_,hh,?_⟩;have:cI xs=aT iC 0 xs:=rfl;rw[this];refine eJ (h:=iV) (fun ν x=>au.lits ν (iV x)) (WW _) fun k v hk=>?_;rw[W8];have hk:(vI xs)[k]?=some v:=hk;show (vI xs++rest).toArray[k]?=some v;rw[X9,WD (WB.1 hk).1];exact hk
   | j+1=>simp at q1
  refine aW (E:=uA xs zf) rfl (d:=6) (l:=[(g,c)]) (os:=[.look (cI xs)]) rfl (by simp) (by simp) ho rfl (args:=[.sl 0 0 xs.length (some c)]) (a:=[.slice (some ⟨g,0,none⟩) xs.length c]) (S0:=Cl xs zf (cI xs) xs.length c) (by kernel_rfl) (au.cons (VR.aL.2 ⟨(g,c),rfl,ZF,rfl⟩) au.nil) fun cs0=>?_;have hM:∀ z,¬ (aD [(g,c)] ([SO.look (cI xs)].map fun o=>(o,false))) z:=fun z=>aZ (os:=[SO.look (cI xs)])
  have K:=QJ (D:=xs) (zf:=zf) (M0:=aD [(g,c)] ([SO.look (cI xs)].map fun o=>(o,false))) (w00:=W) (M:=aD [(g,c)] ([SO.look (cI xs)].map fun o=>(o,false))) (w0:=W) hM (dh.refl (dN (by
   intro j o' m b' c' q1 q2;rw[Wv]at q1;obtain⟨o2,q3,q4⟩:=Wg.1 q1;cases q4;exact ho j o' b' c' q3 q2)) fun _ h=>h) hX
  have hν:∀ i b',aA [(g,c)] i=some b'->i=0:=fun i b' h=>dj h;have nx:=Fe (cs0:=cs0) (L:=xs) (zf:=zf) (c:=c) (R:=fun e w'=>Below W.heap.size W w'/\e=.returned (.string (words.cx (xs.flatMap (lineX zf))))) K hν YO hs (fun x hx=>(hX.EZ x hx).1.2.1) (fun ν' M3 w3 s' w4 hB3 hr3=>⟨aB hM hB3 hr3,rfl⟩) xs.length 0 (by omega) (by simp);refine af.reach K (k:=2) (n:=100) (o:=VP) (ren:=[(0,0)]) (eqs:=[0]) ?_ (by kernel_rfl) (fun i b h=>by rw[hν i b h];rfl) nx;show ah (reach (uA xs zf) 2 100 (Cl xs zf (cI xs) xs.length c) VP [(0,0)] [0] (xc xs.length c ⟨#[]⟩ 0) 6 [cv (cI xs)]);rw[U6];simp only[ah,az,VV,VX,VW]
end tr
def oM (ys:ax->List Int)(xs:List ax)(p:ByteArray):Int × List Int:=match xs.find? (pH p) with|some e=>(e.k,ys e)|none=>(0,[])
section
variable {cm ys:ax->List Int}{E:List cp}{cl:Nat}{xs:List ax}
theorem dL.look (h:dL cm ys E cl xs)(p:ByteArray):Ch cm E p=oM ys xs p:=by
 unfold Ch oM;cases hf:BJ E p with
 | none=>
  have hm:∀ e∈E,e.1.p≠p:=fun e he h=>WY.1 hf e he (eZ.2 h);cases hq:xs.find? (pH p) with
  | none=>rfl
  | some e=>
   obtain⟨f,hfE,hk⟩:=h.to (WV hq);exact absurd ((lO hk).1.trans (eZ.1 (Xp hq))) (hm f hfE)
 | some f=>
  have hfE:=WV hf;have hfp:f.1.p=p:=eZ.1 (Xp (p:=fun e:cp=>pH p e.1) hf);cases hq:xs.find? (pH p) with
  | none=>
   obtain⟨e,he,hk⟩:=h.of hfE;exact absurd (eZ.2 ((lO hk.symm).1.symm.trans hfp)) (WY.1 hq e he)
  | some e=>
   obtain⟨f',hf',hk⟩:=h.to (WV hq);have:f'=f:=AF h.ok hf' hfE ((lO hk).1.trans ((eZ.1 (Xp hq)).trans hfp.symm));subst this;exact Prod.ext (lO hk).2 (GA hk)
end
theorem dE.EZ {w:World}{e:ax}{zs:List Int}(h:dE w.hp e zs)(hl:zs.length<=140737488355328):j4 w.hp e.a e.l zs:=fun w2 hs=>
 er.EZ (w:=w2) (x:=⟨e.p,0,e.k,e.a,e.l,e.c⟩) (h.mono hs) hl
theorem Ja {W w w0:World}{b cl:Nat}{E:List cp}{xs D:List ax}{ys:Option Addr->Nat->List Int}(hX:uP D ys W)(inv:dL (lr w.hp) (yI ys) E cl xs)(data:∀ e∈E,∃ zs,dE w.hp e.1 zs/\u9 w0 e.1)(Yv:∀ e∈xs,e∈D)
  (ht:(xs=[]/\iz w b)\/∃ m,w0.heap.size<=m/\kO w b m E cl):jY w b (oM (yI ys) xs) E:=by
 have hT:iR w b E:=by
  rcases ht with ⟨h0,hZ⟩|⟨m,_,hA⟩
  ·subst h0;exact .inr ⟨inv.empty,hZ⟩
  ·refine .inl ⟨m,cl,?_,hA,inv.ok⟩;rintro rfl
   have:=hA.row;rw[hA.map]at this;cases this
 refine⟨hT,fun w2 hs p=>?_,by rw[inv.len];have:=inv.YO;omega⟩;rw[<- inv.look p];refine A0 (hT.keep hs) (fun e he=>?_) p;obtain⟨zs,hz,_⟩:=data e he;obtain⟨x,hx,hk⟩:=inv.of he;have hc:=GA hk.symm;rw[hz.cont]at hc;rw[hz.cont];have hC:=(hX.2 x (Yv x hx));refine hz.EZ ?_;rw[hc];show (ys x.a x.l).length<=_;rw[hC.1];exact hC.2.1
open tt (lineX lineZ)
theorem dL.bA {cm ys:ax->List Int}{E:List cp}{cl:Nat}{xs:List ax}(h:dL cm ys E cl xs):bA (E.map fun e=>e.1.p)=xs.map fun e=>e.p:=by
 refine jK ?_ h.s7.symm;rw[Ym];exact List.Pairwise.imp (fun hab=>KH hab) h.sorted
theorem I1 {cm ys:ax->List Int}{E:List cp}{cl:Nat}{xs:List ax}(h:dL cm ys E cl xs){x:ax}(hx:x∈xs):oM ys xs x.p=(x.k,ys x):=by
 unfold oM;cases hq:xs.find? (pH x.p) with
 | none=>exact absurd (eZ.2 rfl) (WY.1 hq x hx)
 | some e=>
  have he:=WV hq;have hp:e.p=x.p:=eZ.1 (Xp hq)
  have:e=x:=by
   obtain⟨i,hi,rfl⟩:=List.mem_iff_getElem.1 he;obtain⟨j,hj,rfl⟩:=List.mem_iff_getElem.1 hx;have hs:=List.pairwise_iff_getElem.1 h.sorted
   have:i=j:=by
    rcases Nat.lt_trichotomy i j with h1|h1|h1
    ·exact absurd (by have:=hs i j hi hj h1;rw[hp]at this;exact this) (Cy _)
    ·exact h1
    ·exact absurd (by have:=hs j i hj hi h1;rw[hp]at this;exact this) (Cy _)
   subst this;rfl
  subst this;rfl
theorem Hv {cm:ax->List Int}{E:List cp}{cl:Nat}{xs:List ax}{ys:Option Addr->Nat->List Int}(h:dL cm (yI ys) E cl xs)(hl:∀ x∈xs,(ys x.a x.l).length=x.l):
  (bA (E.map fun e=>e.1.p)).flatMap (lineZ (oM (yI ys) xs))=xs.flatMap (lineX ys):=by
 rw[h.bA,Ye];refine tt.flat_congr fun x hx=>?_;unfold lineX lineZ;rw[I1 h hx];show (if x.k=2 then _ else tt.bodyF x.p (ys x.a x.l).length (crc.eF (ys x.a x.l))++[10])=_;rw[hl x hx]
end paths
open Go Go.Rx Go.RowKit Go.Proofs
namespace paths
namespace tk
def CR:PS:=fun args=>match args with|[.int .u64 n,.int .i64 k]=>some (.string (words.bQ n.toNat),k=10/\0<=n/\n<18446744073709551616)|_=>none
def Qj:List (FuncId × Sum):=[(15,cq words.iS),(24,cq words.p6),(65,kL),(96,cq CR),(73,cq Hj)]
def ox:Env:={ EP [] [] with YT:=fun f=>Qj.lookup f }
def vx (s:Int)(es:VQ)(cl:Nat):SM:=(a6 ox 12 [.ptr 0 0] (bG 6 2 0 [KV s,BU es cl])).getD dn
def sI (s:Int):SM:=(a6 ox 12 [.ptr 0 0] (bG 6 1 0 [some (.row [.v (.int .u64 s),.v (.map none)] 66 (0,0) none,false)])).getD dn
def oK:List (Nat × gR):=ff [0,3] false++VP
def PU (s:Int)(es:VQ)(cl:Nat)(l:List ak)(k:Nat):SM:=sO ox 34 300 (vx s es cl) oK (P4 k) (Pj l)
def QT (s:Int)(es:VQ)(cl:Nat):SM:=dB ox 34 300 (vx s es cl) oK (.v (.slice none 0 0))
def QK (s:Int):SM:=dB ox 34 300 (sI s) oK (.v (.slice none 0 0))
def Li:List SI:=dA ox 2 100 (PU 0 [] 0 [] 0) VP
def uH (n:Nat)(s:ByteArray)(i:Int):SF:={ fn:=12,tm:=e9 46 6 ([.aH,.aH,.aH,.v (.string s)]++List.replicate 11 .aH++[.sl 2 0 n none,.v (.int .i64 n),.v (.int .i64 i)]++List.replicate 28 .aH),todo:=Li,defers:=[],ret:=false,kind:=.normal,ro:=none }
def HX (s:Int)(es:VQ)(cl:Nat)(m:List SV):List (Option (SO × Bool)):=[KV s,BU es cl,fx m]
theorem QN (s:Int)(es:VQ)(cl:Nat):dT ox 34 300 (vx s es cl) oK=[((cO [(⟨⟨[98,111,111,107]⟩⟩:ByteArray),words.bQ s.toNat,{ data:={ toList:=Lib.itoa (↑es.length:Int):Array UInt8 }:ByteArray }] (⟨⟨[32]⟩⟩:ByteArray)).size+1).le 9223372036854775807,(cO [(⟨⟨[98,111,111,107]⟩⟩:ByteArray),words.bQ s.toNat,{ data:={ toList:=Lib.itoa (↑es.length:Int):Array UInt8 }:ByteArray }] (⟨⟨[32]⟩⟩:ByteArray)).size.le 140737488355328,(-9223372036854775808:Int)<=(↑es.length:Int)/\(↑es.length:Int)<=9223372036854775807,(10:Int)=10/\0<=s/\s<18446744073709551616,false=false]:=by kernel_rfl
theorem Uv (s:Int)(es:VQ)(cl:Nat)(n:Nat)(l:List ak):AA ox 34 300 (vx s es cl) oK (P4 n) (Pj l)=[((cO [(⟨⟨[98,111,111,107]⟩⟩:ByteArray),words.bQ s.toNat,{ data:={ toList:=Lib.itoa (↑es.length:Int):Array UInt8 }:ByteArray }] (⟨⟨[32]⟩⟩:ByteArray)).size+1).le 9223372036854775807,(cO [(⟨⟨[98,111,111,107]⟩⟩:ByteArray),words.bQ s.toNat,{ data:={ toList:=Lib.itoa (↑es.length:Int):Array UInt8 }:ByteArray }] (⟨⟨[32]⟩⟩:ByteArray)).size.le 140737488355328,(-9223372036854775808:Int)<=(↑es.length:Int)/\(↑es.length:Int)<=9223372036854775807,(10:Int)=10/\0<=s/\s<18446744073709551616,false=false]:=by kernel_rfl
theorem TB (s:Int)(es:VQ)(cl:Nat)(n:Nat)(l:List ak)(t:ByteArray):reach ox 2 100 (PU s es cl l n) VP [(0,0),(1,1),(2,3)] [1,2] (uH n t 0) 6 (HX s es cl (cE l))=[VS (cO [(⟨⟨[98,111,111,107]⟩⟩:ByteArray),words.bQ s.toNat,{ data:={ toList:=Lib.itoa (↑es.length:Int):Array UInt8 }:ByteArray }] (⟨⟨[32]⟩⟩:ByteArray)++(⟨⟨[10]⟩⟩:ByteArray))=VS t,0=0/\n=n/\nZ=none,vZ (↑n:Int)=vZ (↑n:Int),vZ 0=vZ 0,V1 IntKind.u64 s=V1 IntKind.u64 s,cl=cl,es=es,(es.all fun e=>aw e.fst&&aw e.snd.fst)=true,cE l=cE l,(cE l).all ab=true]:=by kernel_rfl
theorem Ve (s:Int)(es:VQ)(cl:Nat):dS ox 34 300 (vx s es cl) oK (.v (.slice none 0 0))=[((cO [(⟨⟨[98,111,111,107]⟩⟩:ByteArray),words.bQ s.toNat,{ data:={ toList:=Lib.itoa (↑es.length:Int):Array UInt8 }:ByteArray }] (⟨⟨[32]⟩⟩:ByteArray)).size+1).le 9223372036854775807,(cO [(⟨⟨[98,111,111,107]⟩⟩:ByteArray),words.bQ s.toNat,{ data:={ toList:=Lib.itoa (↑es.length:Int):Array UInt8 }:ByteArray }] (⟨⟨[32]⟩⟩:ByteArray)).size.le 140737488355328,(-9223372036854775808:Int)<=(↑es.length:Int)/\(↑es.length:Int)<=9223372036854775807,(10:Int)=10/\0<=s/\s<18446744073709551616,false=false]:=by kernel_rfl
theorem Tl (s:Int)(es:VQ)(cl:Nat)(v:Value):ao ox 12 100 (QT s es cl) (ff (List.range 10) false) v=[VS (cO [(⟨⟨[98,111,111,107]⟩⟩:ByteArray),words.bQ s.toNat,{ data:={ toList:=Lib.itoa (↑es.length:Int):Array UInt8 }:ByteArray }] (⟨⟨[32]⟩⟩:ByteArray)++(⟨⟨[10]⟩⟩:ByteArray))=v,false=false]:=by kernel_rfl
theorem PJ (s:Int):dT ox 34 300 (sI s) oK=[((cO [(⟨⟨[98,111,111,107]⟩⟩:ByteArray),words.bQ s.toNat,{ data:={ toList:=Lib.itoa 0:Array UInt8 }:ByteArray }] (⟨⟨[32]⟩⟩:ByteArray)).size+1).le 9223372036854775807,(cO [(⟨⟨[98,111,111,107]⟩⟩:ByteArray),words.bQ s.toNat,{ data:={ toList:=Lib.itoa 0:Array UInt8 }:ByteArray }] (⟨⟨[32]⟩⟩:ByteArray)).size.le 140737488355328,(-9223372036854775808:Int)<=0/\(0:Int)<=9223372036854775807,(10:Int)=10/\0<=s/\s<18446744073709551616,false=false]:=by kernel_rfl
theorem RN (s:Int):dS ox 34 300 (sI s) oK (.v (.slice none 0 0))=[((cO [(⟨⟨[98,111,111,107]⟩⟩:ByteArray),words.bQ s.toNat,{ data:={ toList:=Lib.itoa 0:Array UInt8 }:ByteArray }] (⟨⟨[32]⟩⟩:ByteArray)).size+1).le 9223372036854775807,(cO [(⟨⟨[98,111,111,107]⟩⟩:ByteArray),words.bQ s.toNat,{ data:={ toList:=Lib.itoa 0:Array UInt8 }:ByteArray }] (⟨⟨[32]⟩⟩:ByteArray)).size.le 140737488355328,(-9223372036854775808:Int)<=0/\(0:Int)<=9223372036854775807,(10:Int)=10/\0<=s/\s<18446744073709551616,false=false]:=by kernel_rfl
theorem SN (s:Int)(v:Value):ao ox 12 100 (QK s) (ff (List.range 10) false) v=[VS (cO [(⟨⟨[98,111,111,107]⟩⟩:ByteArray),words.bQ s.toNat,{ data:={ toList:=Lib.itoa 0:Array UInt8 }:ByteArray }] (⟨⟨[32]⟩⟩:ByteArray)++(⟨⟨[10]⟩⟩:ByteArray))=v,false=false]:=by kernel_rfl
theorem T4 (v:Value):ao ox 12 400 (a7 ox 12 [.v (.pointer none)]) VP v=[VS (cO [(⟨⟨[98,111,111,107]⟩⟩:ByteArray),words.bQ 0,{ data:={ toList:=Lib.itoa 0:Array UInt8 }:ByteArray }] (⟨⟨[32]⟩⟩:ByteArray)++(⟨⟨[10]⟩⟩:ByteArray))=v,Nat.le 9 9223372036854775807,Nat.le 8 140737488355328,(-9223372036854775808:Int)<=0/\(0:Int)<=9223372036854775807,(10:Int)=10/\(0:Int)<=0/\(0:Int)<18446744073709551616]:=by kernel_rfl
theorem Rl (s:Int)(es:VQ)(cl:Nat)(m:List SV)(n:Nat)(i i':Int)(t t':ByteArray)(x:ak)(v:Value):ao ox 12 60 (SM.at (uH n t i) 6 (HX s es cl m)) (ff [0] false) v=[VS t=v,decide (i<(↑n:Int))=false]:=by kernel_rfl
theorem Pf (s:Int)(es:VQ)(cl:Nat)(m:List SV)(n:Nat)(i i':Int)(t t':ByteArray)(x:ak):reach ox 2 500 (SM.at (uH n t i) 6 (HX s es cl m)) ([(2,.cells (eC x))]++ff [0,29] true++ff (List.range 60) false++VP) [(0,0),(1,1),(2,2)] [1,2] (uH n t' i') 6 (HX s es cl m)=[VS (t++(cO [(⟨⟨[101,110,116,114,121]⟩⟩:ByteArray),words.cx (words.pathL x.1.data.toList),words.bQ (x.2.fdiv (2 ^ 20)).toNat,words.bQ (IntKind.u64.wrap (↑(BitVec.ofInt 64 x.2 &&& BitVec.ofInt 64 1048575).toNat:Int)).toNat,(⟨⟨[110,111,110,101]⟩⟩:ByteArray),{ data:={ toList:=Lib.itoa (↑x.5:Int):Array UInt8 }:ByteArray }] (⟨⟨[32]⟩⟩:ByteArray)++(⟨⟨[10]⟩⟩:ByteArray)))=VS t',0=0/\n=n/\nZ=none,vZ (↑n:Int)=vZ (↑n:Int),vZ (IntKind.i64.wrap (i+1))=vZ i',V1 IntKind.u64 s=V1 IntKind.u64 s,cl=cl,es=es,(es.all fun e=>aw e.fst&&aw e.snd.fst)=true,m=m,m.all ab=true,(t.size+(cO [(⟨⟨[101,110,116,114,121]⟩⟩:ByteArray),words.cx (words.pathL x.1.data.toList),words.bQ (x.2.fdiv (2 ^ 20)).toNat,words.bQ (IntKind.u64.wrap (↑(BitVec.ofInt 64 x.2 &&& BitVec.ofInt 64 1048575).toNat:Int)).toNat,(⟨⟨[110,111,110,101]⟩⟩:ByteArray),{ data:={ toList:=Lib.itoa (↑x.5:Int):Array UInt8 }:ByteArray }] (⟨⟨[32]⟩⟩:ByteArray)++(⟨⟨[10]⟩⟩:ByteArray)).size).le 9223372036854775807,((cO [(⟨⟨[101,110,116,114,121]⟩⟩:ByteArray),words.cx (words.pathL x.1.data.toList),words.bQ (x.2.fdiv (2 ^ 20)).toNat,words.bQ (IntKind.u64.wrap (↑(BitVec.ofInt 64 x.2 &&& BitVec.ofInt 64 1048575).toNat:Int)).toNat,(⟨⟨[110,111,110,101]⟩⟩:ByteArray),{ data:={ toList:=Lib.itoa (↑x.5:Int):Array UInt8 }:ByteArray }] (⟨⟨[32]⟩⟩:ByteArray)).size+1).le 9223372036854775807,(cO [(⟨⟨[101,110,116,114,121]⟩⟩:ByteArray),words.cx (words.pathL x.1.data.toList),words.bQ (x.2.fdiv (2 ^ 20)).toNat,words.bQ (IntKind.u64.wrap (↑(BitVec.ofInt 64 x.2 &&& BitVec.ofInt 64 1048575).toNat:Int)).toNat,(⟨⟨[110,111,110,101]⟩⟩:ByteArray),{ data:={ toList:=Lib.itoa (↑x.5:Int):Array UInt8 }:ByteArray }] (⟨⟨[32]⟩⟩:ByteArray)).size.le 140737488355328,(-9223372036854775808:Int)<=(↑x.5:Int)/\(↑x.5:Int)<=9223372036854775807,decide (x.4=x.4/\x.5=x.5/\x.6=x.6)=true,(x.3==x.3)=true,(x.3==0)=true,(x.3==x.3)=true,decide (x.4=x.4/\x.5=x.5/\x.6=x.6)=true,(x.3==x.3)=true,(10:Int)=10/\0<=IntKind.u64.wrap (↑(BitVec.ofInt 64 x.2 &&& BitVec.ofInt 64 1048575).toNat:Int)/\IntKind.u64.wrap (↑(BitVec.ofInt 64 x.2 &&& BitVec.ofInt 64 1048575).toNat:Int)<18446744073709551616,(x.3==x.3)=true,decide (x.4=x.4/\x.5=x.5/\x.6=x.6)=true,(x.3==x.3)=true,(!gX x.2)=false,0<=x.2/\x.2<18446744073709551616,(x.2==x.2)=true,(x.3==x.3)=true,decide (x.4=x.4/\x.5=x.5/\x.6=x.6)=true,(x.3==x.3)=true,(10:Int)=10/\0<=x.2.fdiv (2 ^ 20)/\x.2.fdiv (2 ^ 20)<18446744073709551616,(x.2==x.2)=true,(x.3==x.3)=true,decide (x.4=x.4/\x.5=x.5/\x.6=x.6)=true,(x.3==x.3)=true,(!gX x.2)=false,0<=x.2/\x.2<18446744073709551616,(x.2==x.2)=true,(x.2==x.2)=true,(x.3==x.3)=true,decide (x.4=x.4/\x.5=x.5/\x.6=x.6)=true,(x.3==x.3)=true,x.1.size.le 1000000000,List.take 4 (List.drop (0+i.toNat*4) m)=eC x/\(eC x).length=4,ai i n=true,decide (i<(↑n:Int))=true]:=by kernel_rfl
theorem P2 (s:Int)(es:VQ)(cl:Nat)(m:List SV)(n:Nat)(i i':Int)(t t':ByteArray)(x:ak):reach ox 2 500 (SM.at (uH n t i) 6 (HX s es cl m)) ([(2,.cells (eC x))]++ff [0,30] true++ff (List.range 60) false++VP) [(0,0),(1,1),(2,2)] [1,2] (uH n t' i') 6 (HX s es cl m)=[VS (t++(cO [(⟨⟨[101,110,116,114,121]⟩⟩:ByteArray),words.cx (words.pathL x.1.data.toList),words.bQ (x.2.fdiv (2 ^ 20)).toNat,words.bQ (IntKind.u64.wrap (↑(BitVec.ofInt 64 x.2 &&& BitVec.ofInt 64 1048575).toNat:Int)).toNat,(⟨⟨[102,105,108,101]⟩⟩:ByteArray),{ data:={ toList:=Lib.itoa (↑x.5:Int):Array UInt8 }:ByteArray }] (⟨⟨[32]⟩⟩:ByteArray)++(⟨⟨[10]⟩⟩:ByteArray)))=VS t',0=0/\n=n/\nZ=none,vZ (↑n:Int)=vZ (↑n:Int),vZ (IntKind.i64.wrap (i+1))=vZ i',V1 IntKind.u64 s=V1 IntKind.u64 s,cl=cl,es=es,(es.all fun e=>aw e.fst&&aw e.snd.fst)=true,m=m,m.all ab=true,(t.size+(cO [(⟨⟨[101,110,116,114,121]⟩⟩:ByteArray),words.cx (words.pathL x.1.data.toList),words.bQ (x.2.fdiv (2 ^ 20)).toNat,words.bQ (IntKind.u64.wrap (↑(BitVec.ofInt 64 x.2 &&& BitVec.ofInt 64 1048575).toNat:Int)).toNat,(⟨⟨[102,105,108,101]⟩⟩:ByteArray),{ data:={ toList:=Lib.itoa (↑x.5:Int):Array UInt8 }:ByteArray }] (⟨⟨[32]⟩⟩:ByteArray)++(⟨⟨[10]⟩⟩:ByteArray)).size).le 9223372036854775807,((cO [(⟨⟨[101,110,116,114,121]⟩⟩:ByteArray),words.cx (words.pathL x.1.data.toList),words.bQ (x.2.fdiv (2 ^ 20)).toNat,words.bQ (IntKind.u64.wrap (↑(BitVec.ofInt 64 x.2 &&& BitVec.ofInt 64 1048575).toNat:Int)).toNat,(⟨⟨[102,105,108,101]⟩⟩:ByteArray),{ data:={ toList:=Lib.itoa (↑x.5:Int):Array UInt8 }:ByteArray }] (⟨⟨[32]⟩⟩:ByteArray)).size+1).le 9223372036854775807,(cO [(⟨⟨[101,110,116,114,121]⟩⟩:ByteArray),words.cx (words.pathL x.1.data.toList),words.bQ (x.2.fdiv (2 ^ 20)).toNat,words.bQ (IntKind.u64.wrap (↑(BitVec.ofInt 64 x.2 &&& BitVec.ofInt 64 1048575).toNat:Int)).toNat,(⟨⟨[102,105,108,101]⟩⟩:ByteArray),{ data:={ toList:=Lib.itoa (↑x.5:Int):Array UInt8 }:ByteArray }] (⟨⟨[32]⟩⟩:ByteArray)).size.le 140737488355328,(-9223372036854775808:Int)<=(↑x.5:Int)/\(↑x.5:Int)<=9223372036854775807,decide (x.4=x.4/\x.5=x.5/\x.6=x.6)=true,(x.3==x.3)=true,(x.3==1)=true,(x.3==0)=false,(x.3==x.3)=true,decide (x.4=x.4/\x.5=x.5/\x.6=x.6)=true,(x.3==x.3)=true,(10:Int)=10/\0<=IntKind.u64.wrap (↑(BitVec.ofInt 64 x.2 &&& BitVec.ofInt 64 1048575).toNat:Int)/\IntKind.u64.wrap (↑(BitVec.ofInt 64 x.2 &&& BitVec.ofInt 64 1048575).toNat:Int)<18446744073709551616,(x.3==x.3)=true,decide (x.4=x.4/\x.5=x.5/\x.6=x.6)=true,(x.3==x.3)=true,(!gX x.2)=false,0<=x.2/\x.2<18446744073709551616,(x.2==x.2)=true,(x.3==x.3)=true,decide (x.4=x.4/\x.5=x.5/\x.6=x.6)=true,(x.3==x.3)=true,(10:Int)=10/\0<=x.2.fdiv (2 ^ 20)/\x.2.fdiv (2 ^ 20)<18446744073709551616,(x.2==x.2)=true,(x.3==x.3)=true,decide (x.4=x.4/\x.5=x.5/\x.6=x.6)=true,(x.3==x.3)=true,(!gX x.2)=false,0<=x.2/\x.2<18446744073709551616,(x.2==x.2)=true,(x.2==x.2)=true,(x.3==x.3)=true,decide (x.4=x.4/\x.5=x.5/\x.6=x.6)=true,(x.3==x.3)=true,x.1.size.le 1000000000,List.take 4 (List.drop (0+i.toNat*4) m)=eC x/\(eC x).length=4,ai i n=true,decide (i<(↑n:Int))=true]:=by kernel_rfl
theorem PW (s:Int)(es:VQ)(cl:Nat)(m:List SV)(n:Nat)(i i':Int)(t t':ByteArray)(x:ak):reach ox 2 500 (SM.at (uH n t i) 6 (HX s es cl m)) ([(2,.cells (eC x))]++ff [0,31] true++ff (List.range 60) false++VP) [(0,0),(1,1),(2,2)] [1,2] (uH n t' i') 6 (HX s es cl m)=[VS (t++(cO [(⟨⟨[101,110,116,114,121]⟩⟩:ByteArray),words.cx (words.pathL x.1.data.toList),words.bQ (x.2.fdiv (2 ^ 20)).toNat,words.bQ (IntKind.u64.wrap (↑(BitVec.ofInt 64 x.2 &&& BitVec.ofInt 64 1048575).toNat:Int)).toNat,(⟨⟨[100,105,114]⟩⟩:ByteArray),{ data:={ toList:=Lib.itoa (↑x.5:Int):Array UInt8 }:ByteArray }] (⟨⟨[32]⟩⟩:ByteArray)++(⟨⟨[10]⟩⟩:ByteArray)))=VS t',0=0/\n=n/\nZ=none,vZ (↑n:Int)=vZ (↑n:Int),vZ (IntKind.i64.wrap (i+1))=vZ i',V1 IntKind.u64 s=V1 IntKind.u64 s,cl=cl,es=es,(es.all fun e=>aw e.fst&&aw e.snd.fst)=true,m=m,m.all ab=true,(t.size+(cO [(⟨⟨[101,110,116,114,121]⟩⟩:ByteArray),words.cx (words.pathL x.1.data.toList),words.bQ (x.2.fdiv (2 ^ 20)).toNat,words.bQ (IntKind.u64.wrap (↑(BitVec.ofInt 64 x.2 &&& BitVec.ofInt 64 1048575).toNat:Int)).toNat,(⟨⟨[100,105,114]⟩⟩:ByteArray),{ data:={ toList:=Lib.itoa (↑x.5:Int):Array UInt8 }:ByteArray }] (⟨⟨[32]⟩⟩:ByteArray)++(⟨⟨[10]⟩⟩:ByteArray)).size).le 9223372036854775807,((cO [(⟨⟨[101,110,116,114,121]⟩⟩:ByteArray),words.cx (words.pathL x.1.data.toList),words.bQ (x.2.fdiv (2 ^ 20)).toNat,words.bQ (IntKind.u64.wrap (↑(BitVec.ofInt 64 x.2 &&& BitVec.ofInt 64 1048575).toNat:Int)).toNat,(⟨⟨[100,105,114]⟩⟩:ByteArray),{ data:={ toList:=Lib.itoa (↑x.5:Int):Array UInt8 }:ByteArray }] (⟨⟨[32]⟩⟩:ByteArray)).size+1).le 9223372036854775807,(cO [(⟨⟨[101,110,116,114,121]⟩⟩:ByteArray),words.cx (words.pathL x.1.data.toList),words.bQ (x.2.fdiv (2 ^ 20)).toNat,words.bQ (IntKind.u64.wrap (↑(BitVec.ofInt 64 x.2 &&& BitVec.ofInt 64 1048575).toNat:Int)).toNat,(⟨⟨[100,105,114]⟩⟩:ByteArray),{ data:={ toList:=Lib.itoa (↑x.5:Int):Array UInt8 }:ByteArray }] (⟨⟨[32]⟩⟩:ByteArray)).size.le 140737488355328,(-9223372036854775808:Int)<=(↑x.5:Int)/\(↑x.5:Int)<=9223372036854775807,decide (x.4=x.4/\x.5=x.5/\x.6=x.6)=true,(x.3==x.3)=true,(x.3==2)=true,(x.3==1)=false,(x.3==0)=false,(x.3==x.3)=true,decide (x.4=x.4/\x.5=x.5/\x.6=x.6)=true,(x.3==x.3)=true,(10:Int)=10/\0<=IntKind.u64.wrap (↑(BitVec.ofInt 64 x.2 &&& BitVec.ofInt 64 1048575).toNat:Int)/\IntKind.u64.wrap (↑(BitVec.ofInt 64 x.2 &&& BitVec.ofInt 64 1048575).toNat:Int)<18446744073709551616,(x.3==x.3)=true,decide (x.4=x.4/\x.5=x.5/\x.6=x.6)=true,(x.3==x.3)=true,(!gX x.2)=false,0<=x.2/\x.2<18446744073709551616,(x.2==x.2)=true,(x.3==x.3)=true,decide (x.4=x.4/\x.5=x.5/\x.6=x.6)=true,(x.3==x.3)=true,(10:Int)=10/\0<=x.2.fdiv (2 ^ 20)/\x.2.fdiv (2 ^ 20)<18446744073709551616,(x.2==x.2)=true,(x.3==x.3)=true,decide (x.4=x.4/\x.5=x.5/\x.6=x.6)=true,(x.3==x.3)=true,(!gX x.2)=false,0<=x.2/\x.2<18446744073709551616,(x.2==x.2)=true,(x.2==x.2)=true,(x.3==x.3)=true,decide (x.4=x.4/\x.5=x.5/\x.6=x.6)=true,(x.3==x.3)=true,x.1.size.le 1000000000,List.take 4 (List.drop (0+i.toNat*4) m)=eC x/\(eC x).length=4,ai i n=true,decide (i<(↑n:Int))=true]:=by kernel_rfl
open Go Go.Rx Go.RowKit Go.Proofs
open words (pathL mkS_app mkS_size)
open tt (text_take flat_congr)
theorem LW:bX Tryz.prog words.fG (96,CR):=by
 refine⟨⟨_,Tryz.func96,by kernel_rfl,by kernel_rfl⟩,fun args v p h hp w hX=>?_⟩;dsimp only[CR]at h;split at h
 ·rename_i n k;cases h;obtain⟨rfl,h0,h1⟩:=hp;obtain⟨n,rfl⟩:=XO h0;refine (fmtU.Ha n (by omega) w hX).mono fun e w' ⟨he,k,os,hw⟩=>⟨?_,he⟩;subst hw;exact words.tY w k os
 ·cases h
theorem Mm {H0 H:Hp}{ZP M:Own}{w00 w0:World}(hk:Kept H0 ZP w00 H M w0)(hX:∀ w:World,H.Sub w.hp->words.fG w):aK ox M w0:=
 aK.uG (Checked.mixed Tryz.checked) (by kernel_rfl) (fh.of iJ rfl dK) (dy.list (X:=words.fG) (l:=Qj) rfl (fun r h=>by
  simp only[Qj,V8,Ww,Xc]at h
  rcases h with rfl|rfl|rfl|rfl|rfl
  ·exact bh.pure (r:=(15,words.iS)) ⟨words.oA.1,fun args v p h hp w _=>words.oA.2 args v p h hp w trivial⟩
  ·exact bh.pure (r:=(24,words.p6)) words.xY
  ·exact bh.join words.Cc
  ·exact bh.pure (r:=(96,CR)) LW
  ·exact bh.pure (r:=(73,Hj)) ⟨C9.1,fun args v p h hp w _=>C9.2 args v p h hp w trivial⟩) fun ν s w hr _=>hX w (tt.vA hk hr)) (fun f g h=>by cases h)
def kindL (k:Int):List UInt8:=if k=0 then [110,111,110,101] else if k=1 then [102,105,108,101] else [100,105,114]
def headB (s:Nat)(n:Nat):List UInt8:=[98,111,111,107]++[32]++Lib.decDigits s++[32]++Lib.itoa (n:Int)++[10]
def bodyK (p:ByteArray)(a c:Nat)(ks:List UInt8)(l:Nat):List UInt8:=[101,110,116,114,121]++[32]++pathL p.data.toList++[32]++Lib.decDigits a++[32]++Lib.decDigits c++[32]++ks++[32]++Lib.itoa (l:Int)
theorem jH (s:Nat)(n:Nat):cO [{ data:={ toList:=[(98:UInt8),(111:UInt8),(111:UInt8),(107:UInt8)]:Array UInt8 }:ByteArray },words.bQ s,{ data:={ toList:=Lib.itoa (n:Int):Array UInt8 }:ByteArray }] { data:={ toList:=[(32:UInt8)]:Array UInt8 }:ByteArray }++{ data:={ toList:=[(10:UInt8)]:Array UInt8 }:ByteArray }=words.cx (headB s n):=by
 have:=tt.xr [[98,111,111,107],Lib.decDigits s,Lib.itoa (n:Int)] [32];refine Eq.trans (congrArg (·++_) (Eq.trans ?_ this)) (Eq.trans (tt.nl _) ?_)
 ·rfl
 ·unfold headB Lib.join;congr 1;simp[List.intercalate]
theorem jE (p:ByteArray)(a c:Nat)(ks:List UInt8)(l:Nat):cO [{ data:={ toList:=[(101:UInt8),(110:UInt8),(116:UInt8),(114:UInt8),(121:UInt8)]:Array UInt8 }:ByteArray },words.cx (pathL p.data.toList),words.bQ a,words.bQ c,{ data:={ toList:=ks:Array UInt8 }:ByteArray },{ data:={ toList:=Lib.itoa (l:Int):Array UInt8 }:ByteArray }] { data:={ toList:=[(32:UInt8)]:Array UInt8 }:ByteArray }=words.cx (bodyK p a c ks l):=by
 have:=tt.xr [[101,110,116,114,121],pathL p.data.toList,Lib.decDigits a,Lib.decDigits c,ks,Lib.itoa (l:Int)] [32];refine Eq.trans ?_ (this.trans ?_)
 ·rfl
 ·unfold bodyK Lib.join;congr 1;simp[List.intercalate]
theorem dec_len {n:Nat}(h:n<18446744073709551616):(Lib.decDigits n).length<=20:=by
 have:=words.o8 h;exact this
theorem bodyK_len {p:ByteArray}(h:p.size<=1000000000){a c l:Nat}{ks:List UInt8}(ha:a<18446744073709551616)(hc:c<18446744073709551616)(hk:ks.length<=4)(hl:l<=140737488355328):(bodyK p a c ks l).length<=3000000150:=by
 unfold bodyK;have:=words.ia p.data.toList;have e:p.data.toList.length=p.size:=rfl;have h2:=Lib.itoa_length_le (l:Int) (by omega) (by omega);have h3:=dec_len ha;have h4:=dec_len hc;simp only[V7,Wm,WK];omega
theorem headB_len {s n:Nat}(hs:s<18446744073709551616)(hn:n<=1000):(headB s n).length<=100:=by
 unfold headB;have h2:=Lib.itoa_length_le (n:Int) (by omega) (by omega);have h3:=dec_len hs;simp only[V7,Wm,WK];omega
def lineX (x:ak):List UInt8:=bodyK x.p (x.v.toNat / 1048576) (x.v.toNat % 1048576) (kindL x.k) x.l++[10]
def Fine (v k:Int):Prop:=0<=v/\v<18446744073709551616/\gX v=true/\(k=0\/k=1\/k=2)
section
variable {cs0:List Frame}{R:Ending->World->Prop}{ν:aP}{L:List ak}{M1:Own}{w1:World}{s:Int}{E:List bH}{cl:Nat}{hd:List UInt8}
theorem F3 (K:aK ox M1 w1)(hν:∀ i b,ν i=some b->i=0\/i=1)(YO:L.length<=1000)(hh:hd.length<=100)(hs:∀ x∈L,x.p.size<=1000000000)(hl:∀ x∈L,x.l<=140737488355328)(hg:∀ x∈L,Fine x.v x.k)
  (hR:∀ ν' M2 w2 s' w',dh M1 w1 M2 w2->HR ν' M2 w2 s' w'->R (.returned (.string (words.cx (hd++L.flatMap lineX)))) w'):∀ (j i:Nat),i+j=L.length->((L.take i).flatMap lineX).length<=i*3000000200->
  af ox M1 w1 cs0 12 R ν (SM.at (uH L.length (words.cx (hd++(L.take i).flatMap lineX)) (i:Int)) 6 (HX s (E.map mC) cl (cE L)))
 | 0,i,hj,hb=>by
  refine af.ao K (n:=60) (o:=ff [0] false) (v:=.string (words.cx (hd++L.flatMap lineX))) ?_ fun ν' M2 w2 s' w' _ hB hr=>hR ν' M2 w2 s' w' hB hr;rw[Rl (i':=0) (t':=⟨#[]⟩) (x:=⟨⟨#[]⟩,0,0,none,0,0⟩),We (by omega)];simp only[ah,VV,VX,VW];exact V2 (by omega)
 | j+1,i,hj,hb=>by
  have hi:i<L.length:=by omega
  have hxm:=WS hi;have hx:L[i]?=some L[i]:=V4 hi;have Y2:=text_take lineX hi;generalize L[i]=x at hxm hx Y2;have ZV:=hs x hxm;have hxl:=hl x hxm;obtain⟨g0,g1,g2,gk⟩:=hg x hxm;have t1:decide ((i:Int)<(L.length:Int))=true:=V0 (by omega);have r1:=aJ hi;have ws:=aU (k:=i) (by omega);have ra:=ml hx;have nx:=F3 K hν YO hh hs hl hg hR j (i+1) (by omega);rw[Y2]at nx;generalize (L.take i).flatMap lineX=t at hb nx ⊢
  have ht:t.length<=3000000200000:=by
   have:i*3000000200<=1000*3000000200:=Xw _ (by omega);omega
  obtain⟨n,hn⟩:=XO g0;have hn':x.2=(n:Int):=hn;have Zo:n<18446744073709551616:=by omega
  have hv:(!gX (n:Int))=false:=by rw[<- hn,g2];rfl
  have hv0:(0:Int)<=(n:Int)/\(n:Int)<18446744073709551616:=⟨by omega,by omega⟩;have el:lineX x=bodyK x.p (n / 1048576) (n % 1048576) (kindL x.k) x.l++[10]:=by unfold lineX;rw[hn,V5]
  have hkl:(kindL x.k).length<=4:=by unfold kindL;split<;>(try split)<;>decide
  have Zs:=bodyK_len (a:=n / 1048576) (c:=n % 1048576) (ks:=kindL x.k) (l:=x.l) ZV (by omega) (by omega) hkl hxl;rw[el]at nx;have nx:=nx (by simp only[V7,Wm,WK];omega);rw[<- Xz]at nx;have hd1:(10:Int)=10/\(0:Int)<=((n / 1048576:Nat):Int)/\((n / 1048576:Nat):Int)<18446744073709551616:=⟨rfl,by omega,by omega⟩;have hd2:(10:Int)=10/\(0:Int)<=((n % 1048576:Nat):Int)/\((n % 1048576:Nat):Int)<18446744073709551616:=⟨rfl,by omega,by omega⟩;have hil:(-9223372036854775808:Int)<=(x.l:Int)/\(x.l:Int)<=9223372036854775807:=⟨by omega,by omega⟩;rcases gk with k|k|k
  ·have q0:(x.3==(0:Int))=true:=by rw[show x.3=0 from k];rfl
   have ek:kindL x.k=[110,111,110,101]:=by rw[k];rfl
   rw[ek]at nx Zs;refine af.reach K (k:=2) (n:=500) (o:=([(2,.cells (eC x))]++ff [0,29] true++ff (List.range 60) false++VP)) (ren:=[(0,0),(1,1),(2,2)]) (eqs:=[1,2]) ?_ (by kernel_rfl) (fun i b h=>by rcases hν i b h with h|h<;>rw[h]<;>rfl) nx;rw[Pf];simp only[ah,t1,r1,ra,ws,hv,q0,hn',nL,zZ Zo,V5,jE,tt.nl,mkS_app,mkS_size,c9,aM,iq,VV,VX,VW];simp only[V7,Wm,WK];try (repeat' apply And.intro)
   all_goals first|rfl|exact ZV|exact WA _|exact V0 ⟨rfl,rfl,rfl⟩|exact hv0|exact hd1|exact hd2|exact hil|(show (_:Nat)<=_;omega)|omega|skip
  ·have q0:(x.3==(0:Int))=false:=by rw[show x.3=1 from k];rfl
   have q1:(x.3==(1:Int))=true:=by rw[show x.3=1 from k];rfl
   have ek:kindL x.k=[102,105,108,101]:=by rw[k];rfl
   rw[ek]at nx Zs;refine af.reach K (k:=2) (n:=500) (o:=([(2,.cells (eC x))]++ff [0,30] true++ff (List.range 60) false++VP)) (ren:=[(0,0),(1,1),(2,2)]) (eqs:=[1,2]) ?_ (by kernel_rfl) (fun i b h=>by rcases hν i b h with h|h<;>rw[h]<;>rfl) nx;rw[P2];simp only[ah,t1,r1,ra,ws,hv,q0,q1,hn',nL,zZ Zo,V5,jE,tt.nl,mkS_app,mkS_size,c9,aM,iq,VV,VX,VW];simp only[V7,Wm,WK];try (repeat' apply And.intro)
   all_goals first|rfl|exact ZV|exact WA _|exact V0 ⟨rfl,rfl,rfl⟩|exact hv0|exact hd1|exact hd2|exact hil|(show (_:Nat)<=_;omega)|omega|skip
  ·have q0:(x.3==(0:Int))=false:=by rw[show x.3=2 from k];rfl
   have q1:(x.3==(1:Int))=false:=by rw[show x.3=2 from k];rfl
   have q2:(x.3==(2:Int))=true:=by rw[show x.3=2 from k];rfl
   have ek:kindL x.k=[100,105,114]:=by rw[k];rfl
   rw[ek]at nx Zs;refine af.reach K (k:=2) (n:=500) (o:=([(2,.cells (eC x))]++ff [0,31] true++ff (List.range 60) false++VP)) (ren:=[(0,0),(1,1),(2,2)]) (eqs:=[1,2]) ?_ (by kernel_rfl) (fun i b h=>by rcases hν i b h with h|h<;>rw[h]<;>rfl) nx;rw[PW];simp only[ah,t1,r1,ra,ws,hv,q0,q1,q2,hn',nL,zZ Zo,V5,jE,tt.nl,mkS_app,mkS_size,c9,aM,iq,VV,VX,VW];simp only[V7,Wm,WK];try (repeat' apply And.intro)
   all_goals first|rfl|exact ZV|exact WA _|exact V0 ⟨rfl,rfl,rfl⟩|exact hv0|exact hd1|exact hd2|exact hil|(show (_:Nat)<=_;omega)|omega|skip
end
def lineZ (z:ByteArray->Int × Int × List Int)(p:ByteArray):List UInt8:=bodyK p ((z p).1.toNat / 1048576) ((z p).1.toNat % 1048576) (kindL (z p).2.1) (z p).2.2.length++[10]
def bookL (s:Int)(z:ByteArray->Int × Int × List Int)(N:List ByteArray):List UInt8:=headB s.toNat N.length++N.flatMap (lineZ z)
theorem Uk {w:World}{z:ByteArray->Int × Int × List Int}{L:List ak}(h:∀ x∈L,∃ us,(x.v,x.k,us)=z x.p/\uw w x.a x.l us):L.flatMap lineX=(L.map (·.p)).flatMap (lineZ z):=by
 rw[Ye];refine flat_congr fun x hx=>?_;obtain⟨us,h1,h2⟩:=h x hx;unfold lineX lineZ;rw[<- h1];show _=bodyK x.p (x.v.toNat / 1048576) (x.v.toNat % 1048576) (kindL x.k) us.length++[10];rw[h2.1.1]
theorem IC {cm:ak->List Int}{E:List bH}{cl:Nat}(hB:c8 E cl){p:ByteArray}(hp:p∈E.map fun e=>e.1.p):∃ e∈E,e.1.p=p/\gP cm (E.map (·.1)) p=(e.1.v,e.1.k,cm e.1):=by
 obtain⟨e,he,rfl⟩:=Wb.1 hp;refine⟨e,he,rfl,?_⟩;unfold gP;have hn:((E.map (·.1)).map fun e=>e.p).Nodup:=by rw[WI];exact hB.names
 rw[qa hn (Wb.2 ⟨e,he,rfl⟩)]
theorem zo {W:World}{b m cl:Nat}{s:Int}{E:List bH}{cm:ak->List Int}(hX:MX W)(hP:words.fG W)(hA:jy W b m s E cl)(Yu:b≠m)(hB:c8 E cl)(hd:∀ e∈E,uw W e.1.a e.1.l (cm e.1))(YO:E.length<=1000)(hs:0<=s/\s<18446744073709551616)(hg:∀ e∈E,Fine e.1.v e.1.k):
  Calls Tryz.prog 12 #[.pointer (some ⟨b,0,none⟩)] W fun e w'=>Below W.heap.size W w'/\e=.returned (.string (words.cx (bookL s (gP cm (E.map (·.1))) (bA (E.map fun e=>e.1.p))))):=by
 have ho:∀ (j:Nat) (o':SO) (b' c':Nat),[SO.row [.v (.int .u64 s),.map 1] 66 (0,0) none,SO.map (E.map mC) cl][j]?=some o'->[(b,0),(m,0)][j]?=some (b',c')->∃ r,W.heap[b']?=some r/\OR (aA [(b,0),(m,0)]) j o' r:=by
  intro j o' b' c' h1 h2;match j with
  | 0=>
   simp only[Wa,Option.some.injEq]at h1 h2;subst h1;cases h2;exact⟨_,hA.row,_,[],rfl,au.cons (VR.ae.2 rfl) (au.cons (VR.cQ.2 ⟨(m,0),rfl,rfl⟩) au.nil),rfl⟩
  | 1=>
   simp only[WU,Wa,Option.some.injEq]at h1 h2;subst h1;cases h2;exact⟨_,hA.map,_,rfl,rQ E⟩
  | j+2=>simp at h1
 refine aW (E:=ox) rfl (d:=6) (l:=[(b,0),(m,0)]) (os:=[.row [.v (.int .u64 s),.map 1] 66 (0,0) none,.map (E.map mC) cl]) rfl (by simp) (by simpa using Yu) ho rfl (args:=[.ptr 0 0]) (a:=[.pointer (some ⟨b,0,none⟩)]) (S0:=vx s (E.map mC) cl) (by kernel_rfl) (au.cons (VR.aF.2 ⟨(b,0),rfl,rfl⟩) au.nil) fun cs0=>?_;have hM:∀ z,¬ (aD [(b,0),(m,0)] ([SO.row [.v (.int .u64 s),.map 1] 66 (0,0) none,SO.map (E.map mC) cl].map fun o=>(o,false))) z:=fun z=>kX z
 have ZS:=Kept.start (H0:=W.hp) (M:=aD [(b,0),(m,0)] ([SO.row [.v (.int .u64 s),.map 1] 66 (0,0) none,SO.map (E.map mC) cl].map fun o=>(o,false))) (w:=W) (Hp.Sub.refl _) (fun z o _=>hM z) (dN (by
  intro j o' m' b' c' q1 q2;rw[Wv]at q1;obtain⟨o2,q3,q4⟩:=Wg.1 q1;cases q4;exact ho j o' b' c' q3 q2)) (fun _ h=>h)
 have hν1:∀ i c,aA [(b,0),(m,0)] i=some c->i=0\/i=1:=fun i c h=>by
  match i with
  | 0=>exact .inl rfl
  | 1=>exact .inr rfl
  | i+2=>simp[aA]at h
 have hsl:=kA E;have hhd:=headB_len (s:=s.toNat) (n:=E.length) (by omega) YO;have hjs:=jH s.toNat E.length
 have hjl:((cO [{ data:={ toList:=[(98:UInt8),(111:UInt8),(111:UInt8),(107:UInt8)]:Array UInt8 }:ByteArray },words.bQ s.toNat,{ data:={ toList:=Lib.itoa (E.length:Int):Array UInt8 }:ByteArray }] { data:={ toList:=[(32:UInt8)]:Array UInt8 }:ByteArray }).size)<=100:=by
  have:=congrArg ByteArray.size hjs;rw[mkS_size,ByteArray.size_append]at this;omega
 have hX0:∀ {H:Hp},W.hp.Sub H->∀ w:World,H.Sub w.hp->words.fG w:=fun h w h2=>tt.gU hP (iN (Hp.Sub.refl _) (h.trans h2));have hlen:((E.map mC).length:Int)=(E.length:Int):=by rw[WH]
 have Zg:∀ {w1:World} {ν':aP} {aa:List Value},(aA [(b,0),(m,0)]).Le ν'->W.hp.Sub w1.hp->au ν' [.ptr 0 0] aa->Calls Tryz.prog 34 aa.toArray w1 (OZ w1 (gP cm (E.map (·.1))) (bA (E.map fun e=>e.1.p))):=by
  intro w1 ν' aa hle hs ha;obtain⟨y1,ZK,rfl,q1,YH⟩:=ha.cons_inv;obtain rfl:=YH.ay;obtain⟨bb,YZ,rfl⟩:=VR.aF.1 q1;have YZ:=YZ.symm.trans (hle 0 (b,0) rfl);cases YZ;exact uC (hX.sub hs) ⟨hs _ _ hA.row,hs _ _ hA.map⟩ Yu hB (fun e he=>(hd e he).keep (iN (Hp.Sub.refl _) hs)) YO
 by_cases hE0:E=[]
 ·subst hE0;refine af.gI (Mm ZS (hX0 (Hp.Sub.refl _))) ZS (n:=300) (g:=34) (o:=oK) (args:=[.ptr 0 0]) ?_ (by kernel_rfl) fun ν' w1 aa hle Yv χ ha=>?_
  ·rw[QN];simp only[ah,hlen,VV,VX,VW];try (repeat' apply And.intro)
   all_goals first|rfl|exact hs.1|exact hs.2|exact Wh hjl (by decide)|exact Wh (Ya hjl) (by decide)|omega|decide
  refine (Zg hle Yv ha).mono fun e w' ⟨Zh,v,he,hv⟩=>?_
  obtain rfl:v=.slice none 0 0:=by
   rcases hv with ⟨_,h⟩|⟨zs,hz,hp,_⟩
   ·exact h
   ·exact absurd (List.map_eq_nil_iff.1 (hp.trans (Wd.1 hsl))) hz
  refine⟨Zh,_,he,fun M2 Zq=>⟨?_,?_⟩⟩
  ·rw[Ve];simp only[ah,hlen,VV,VX,VW];try (repeat' apply And.intro)
   all_goals first|rfl|exact hs.1|exact hs.2|exact Wh hjl (by decide)|exact Wh (Ya hjl) (by decide)|omega|decide
  refine af.ao (Mm Zq (hX0 Zq.Y1)) (n:=100) (o:=ff (List.range 10) false) (v:=.string (words.cx (bookL s (gP cm []) (bA [])))) ?_ fun ν'' M5 w5 s5 w6 _ hB5 hr5=>⟨aB hM (Zq.base.trans hB5) hr5,rfl⟩;show ah (ao ox 12 100 (QT s _ cl) (ff (List.range 10) false) _);rw[Tl];simp only[ah,VV,VX,VW];have h0:bA ([]:List ByteArray)=[]:=Wd.1 (bz []).length_eq;refine congrArg Value.string (hjs.trans (congrArg words.cx ?_));unfold bookL;rw[h0,Yd,W4];rfl
 ·have hL:bA (E.map fun e=>e.1.p)≠[]:=fun h=>hE0 (Wd.1 (by rw[<- hsl,h];rfl));refine af.CB (Mm ZS (hX0 (Hp.Sub.refl _))) ZS (n:=300) (g:=34) (o:=oK) (args:=[.ptr 0 0]) ?_ (by kernel_rfl) fun ν' w1 aa hle Yv χ ha=>?_
  ·rw[QN];simp only[ah,hlen,VV,VX,VW];try (repeat' apply And.intro)
   all_goals first|rfl|exact hs.1|exact hs.2|exact Wh hjl (by decide)|exact Wh (Ya hjl) (by decide)|omega|decide
  refine (Zg hle Yv ha).mono fun e w' ⟨Zh,v,he,hv⟩=>?_;rcases hv with ⟨h0,_⟩|⟨L,hLne,hp,hsl2,hdat⟩
  ·exact absurd h0 hL
  obtain⟨g,cc,rest,hy,ZY,υ,hh,YX⟩:=hsl2
  have hLl:L.length=E.length:=by
   have:=congrArg List.length hp;rw[WH,hsl]at this;exact this
  refine⟨Zh,v,P4 L.length,Pj L,g,cc,_,he,ZY,hh,fun ν2 j hj=>⟨⟨vE L,rest,rfl,?_,?_,(g,cc),hj,YX⟩,VR.aL.2 ⟨(g,cc),hj,υ,hy⟩⟩,?_,fun M2 Zq=>?_⟩
  ·rw[<- eL];exact au.lits _ _
  ·rw[<- eL,WH,V7];omega
  ·rw[Uv];simp only[ah,hlen,VV,VX,VW];try (repeat' apply And.intro)
   all_goals first|rfl|exact hs.1|exact hs.2|exact Wh hjl (by decide)|exact Wh (Ya hjl) (by decide)|omega|decide
  have Zf:∀ x∈L,x.p.size<=1000000000/\Fine x.v x.k:=fun x hx=>by
   have hxp:x.p∈E.map fun e=>e.1.p:=(bz _).mem_iff.1 (by rw[<- hp];exact Wb.2 ⟨x,hx,rfl⟩);obtain⟨e1,he1,hep,hz⟩:=IC (cm:=cm) hB hxp;obtain⟨us,h1,_⟩:=hdat x hx;rw[hz]at h1;obtain⟨h2,h3⟩:=Prod.mk.inj h1;obtain⟨h3,_⟩:=Prod.mk.inj h3;rw[h2,h3,<- hep];exact⟨hB.size e1 he1,hg e1 he1⟩
  have K:=Mm Zq (hX0 Zq.Y1);have hte:=Uk hdat;rw[hp]at hte;have nx:=F3 (cs0:=cs0) (s:=s) (E:=E) (cl:=cl) (L:=L) (hd:=headB s.toNat E.length) (R:=fun e w'=>Below W.heap.size W w'/\e=.returned (.string (words.cx (bookL s (gP cm (E.map (·.1))) (bA (E.map fun e=>e.1.p)))))) K hν1 (by omega) hhd (fun x hx=>(Zf x hx).1) (fun x hx=>by obtain⟨us,_,h2⟩:=hdat x hx;exact h2.1.2.1) (fun x hx=>(Zf x hx).2) (fun ν' M3 w3 s' w4 hB3 hr3=>⟨aB hM (Zq.base.trans hB3) hr3,by rw[hte];unfold bookL;rw[hsl]⟩) L.length 0 (by omega) (by simp);refine af.reach K (k:=2) (n:=100) (o:=VP) (ren:=[(0,0),(1,1),(2,3)]) (eqs:=[1,2]) ?_ (by kernel_rfl) (fun i b h=>by rcases hν1 i b h with h|h<;>rw[h]<;>rfl) nx;show ah (reach ox 2 100 (PU s (E.map mC) cl L L.length) VP [(0,0),(1,1),(2,3)] [1,2] (uH L.length (words.cx (headB s.toNat E.length++(L.take 0).flatMap lineX)) 0) 6 (HX s (E.map mC) cl (cE L)));rw[TB]
  simp only[ah,hlen,hjs,X7,Yd,W4,iq,aM,VV,VX,VW];try (repeat' apply And.intro)
  all_goals first|rfl|omega|skip
end tk
namespace tk
theorem Eh (s:Nat)(n:Nat)(hs:s<18446744073709551616)(hn:n<=1000):(cO [{ data:={ toList:=[(98:UInt8),(111:UInt8),(111:UInt8),(107:UInt8)]:Array UInt8 }:ByteArray },words.bQ s,{ data:={ toList:=Lib.itoa (n:Int):Array UInt8 }:ByteArray }] { data:={ toList:=[(32:UInt8)]:Array UInt8 }:ByteArray }).size<=100:=by
 have:=congrArg ByteArray.size (jH s n);rw[words.mkS_size,ByteArray.size_append]at this;have:=headB_len hs hn;omega
theorem DS {W:World}{b:Nat}{s:Int}(hP:words.fG W)(hb:W.heap[b]?=some (.cells #[.int .u64 s,.map none] 66 (0,0)))(hs:0<=s/\s<18446744073709551616)(z:ByteArray->Int × Int × List Int):
  Calls Tryz.prog 12 #[.pointer (some ⟨b,0,none⟩)] W fun e w'=>Below W.heap.size W w'/\e=.returned (.string (words.cx (bookL s z []))):=by
 refine aW (E:=ox) rfl (d:=6) (l:=[(b,0)]) (os:=[.row [.v (.int .u64 s),.v (.map none)] 66 (0,0) none]) rfl (by simp) (by simp) (AY hb) rfl (args:=[.ptr 0 0]) (a:=[.pointer (some ⟨b,0,none⟩)]) (S0:=sI s) (by kernel_rfl) (au.cons (VR.aF.2 ⟨(b,0),rfl,rfl⟩) au.nil) fun cs0=>?_;have hM:∀ z,¬ (aD [(b,0)] ([SO.row [.v (.int .u64 s),.v (.map none)] 66 (0,0) none].map fun o=>(o,false))) z:=fun z=>aZ (os:=[_])
 have ZS:=Kept.start (H0:=W.hp) (M:=aD [(b,0)] ([SO.row [.v (.int .u64 s),.v (.map none)] 66 (0,0) none].map fun o=>(o,false))) (w:=W) (Hp.Sub.refl _) (fun z o _=>hM z) (dN (by
  intro j o' m' b' c' q1 q2;rw[Wv]at q1;obtain⟨o2,q3,q4⟩:=Wg.1 q1;cases q4;exact AY hb j o' b' c' q3 q2)) (fun _ h=>h)
 have hX0:∀ {H:Hp},W.hp.Sub H->∀ w:World,H.Sub w.hp->words.fG w:=fun h w h2=>tt.gU hP (iN (Hp.Sub.refl _) (h.trans h2));have hjl:=Eh s.toNat 0 (by omega) (by omega);refine af.gI (Mm ZS (hX0 (Hp.Sub.refl _))) ZS (n:=300) (g:=34) (o:=oK) (args:=[.ptr 0 0]) ?_ (by kernel_rfl) fun ν' w1 aa hle Yv χ ha=>?_
 ·rw[PJ];simp only[ah,VV,VX,VW];try (repeat' apply And.intro)
  all_goals first|rfl|exact hs.1|exact hs.2|exact Wh hjl (by decide)|exact Wh (Ya hjl) (by decide)|omega|decide
 obtain⟨y1,ZK,rfl,q1,YH⟩:=ha.cons_inv;obtain rfl:=YH.ay;obtain⟨bb,YZ,rfl⟩:=VR.aF.1 q1;have YZ:=YZ.symm.trans (hle 0 (b,0) rfl);cases YZ;refine (zI (Yv _ _ hb)).mono fun e w' ⟨Zh,he⟩=>⟨Zh,_,he,fun M2 Zq=>⟨?_,?_⟩⟩
 ·rw[RN];simp only[ah,VV,VX,VW];try (repeat' apply And.intro)
  all_goals first|rfl|exact hs.1|exact hs.2|exact Wh hjl (by decide)|exact Wh (Ya hjl) (by decide)|omega|decide
 refine af.ao (Mm Zq (hX0 Zq.Y1)) (n:=100) (o:=ff (List.range 10) false) (v:=.string (words.cx (bookL s z []))) ?_ fun ν'' M5 w5 s5 w6 _ hB5 hr5=>⟨aB hM (Zq.base.trans hB5) hr5,rfl⟩;show ah (ao ox 12 100 (QK s) (ff (List.range 10) false) _);rw[SN];simp only[ah,VV,VX,VW];refine congrArg Value.string ((jH s.toNat 0).trans (congrArg words.cx ?_));unfold bookL;rw[Yd,W4];rfl
theorem AE {W:World}(hP:words.fG W)(z:ByteArray->Int × Int × List Int):
  Calls Tryz.prog 12 #[.pointer none] W fun e w'=>Below W.heap.size W w'/\e=.returned (.string (words.cx (bookL 0 z []))):=by
 have ZS:=Kept.start (H0:=W.hp) (M:=aD [] []) (w:=W) (Hp.Sub.refl _) (fun z o _=>aE z) (fun b hb=>by obtain⟨i,o,c,h1,h2⟩:=hb;simp at h1) (fun _ h=>h);refine bW (E:=ox) (args:=[.v (.pointer none)]) (a:=[.pointer none]) rfl rfl (Mm ZS fun w h=>tt.gU hP (iN (Hp.Sub.refl _) h)) (by kernel_rfl) (au.cons (VR.ae.2 rfl) au.nil) (n:=400) (o:=VP) ⟨?_⟩;rw[T4];simp only[ah,VV,VX,VW];have h1:Value.string (_++_)=Value.string _:=congrArg Value.string ((jH 0 0).trans (congrArg words.cx (show headB 0 0=bookL 0 z [] by unfold bookL;rw[Yd,W4];rfl)));try (repeat' apply And.intro)
 all_goals first|rfl|exact h1|(show (_:Nat)<=_;omega)|decide|omega
end tk
namespace br
def Pd:List (FuncId × Sum):=[(27,cq words.iS),(30,cq words.j7),(38,cq (words.uX 18446744073709551616)),(39,cq ow)]
def DN:Env:={ EP [] [] with YT:=fun f=>Pd.lookup f }
def Cb (l:List SV)(s:Int)(n c:Nat):SM:=(a6 DN 13 [.agg [.v (.int .u64 s),.sl 0 0 n (some c)]] (bG 6 1 0 [cv l])).getD dn
def Kn:List SV:=[.v (.string ⟨#[110,111,110,101]⟩),.v (.string ⟨#[102,105,108,101]⟩),.v (.string ⟨#[100,105,114]⟩)]
def Ek (l:List SV)(s:Int)(n c:Nat):List (Option (SO × Bool)):=[cv l,some (.row [.v (.int .u64 s),.sl 0 0 n (some c)] 34 (0,0) none,true),some (.row Kn 9 (0,0) none,true)]
def Mt:List SI:=dA DN 2 200 (Cb [] 0 0 0) VP
def ES (t:ByteArray)(i:Int):SF:={ fn:=13,tm:=e9 72 7 ([.aH,.ptr 1 0,.aH,.v (.string t),.sl 2 0 3 (some 3),.v (.int .i64 i)]++List.replicate 66 .aH),todo:=Mt,defers:=[],ret:=false,kind:=.normal,ro:=none }
theorem VK (l:List SV)(s:Int)(n c:Nat)(t:ByteArray):reach DN 2 300 (Cb l s n c) VP [(0,0),(1,1),(2,2)] [0] (ES t 0) 6 (Ek l s n c)=[0=0,VS ((⟨⟨[98,111,111,107,32]⟩⟩:ByteArray)++words.bQ s.toNat++(⟨⟨[32]⟩⟩:ByteArray)++{ data:={ toList:=Lib.itoa (↑n:Int):Array UInt8 }:ByteArray }++(⟨⟨[10]⟩⟩:ByteArray))=VS t,0=0/\3=3/\some 3=some 3,vZ 0=vZ 0,l=l,l.all ab=true,V1 IntKind.u64 s=V1 IntKind.u64 s,0=0/\n=n/\some c=some c,VS ⟨⟨[110,111,110,101]⟩⟩=VS ⟨⟨[110,111,110,101]⟩⟩,VS ⟨⟨[102,105,108,101]⟩⟩=VS ⟨⟨[102,105,108,101]⟩⟩,VS ⟨⟨[100,105,114]⟩⟩=VS ⟨⟨[100,105,114]⟩⟩,(((⟨⟨[98,111,111,107,32]⟩⟩:ByteArray)++words.bQ s.toNat++(⟨⟨[32]⟩⟩:ByteArray)++{ data:={ toList:=Lib.itoa (↑n:Int):Array UInt8 }:ByteArray }).size+1).le 9223372036854775807,(((⟨⟨[98,111,111,107,32]⟩⟩:ByteArray)++words.bQ s.toNat++(⟨⟨[32]⟩⟩:ByteArray)).size+{ data:={ toList:=Lib.itoa (↑n:Int):Array UInt8 }:ByteArray }.size).le 9223372036854775807,(-9223372036854775808:Int)<=(↑n:Int)/\(↑n:Int)<=9223372036854775807,(((⟨⟨[98,111,111,107,32]⟩⟩:ByteArray)++words.bQ s.toNat).size+1).le 9223372036854775807,(5+(words.bQ s.toNat).size).le 9223372036854775807,0=0/\n=n/\some c=some c,((↑n:Int)==(↑n:Int))=true,0<=s/\s<18446744073709551616]:=by kernel_rfl
theorem Vj (l:List SV)(s:Int)(n c:Nat)(t:ByteArray)(i:Int)(v:Value):ao DN 13 60 (SM.at (ES t i) 6 (Ek l s n c)) (ff [0] false++VP) v=[VS t=v,decide (i<(↑n:Int))=false]:=by kernel_rfl
theorem RL (s:Int)(v:Value):ao DN 13 400 (a7 DN 13 [.agg [.v (.int .u64 s),.v (.slice none 0 0)]]) (VP) v=[VS ((⟨⟨[98,111,111,107,32]⟩⟩:ByteArray)++words.bQ s.toNat++(⟨⟨[32]⟩⟩:ByteArray)++{ data:={ toList:=Lib.itoa (↑(0:Nat):Int):Array UInt8 }:ByteArray }++(⟨⟨[10]⟩⟩:ByteArray))=v,(((⟨⟨[98,111,111,107,32]⟩⟩:ByteArray)++words.bQ s.toNat++(⟨⟨[32]⟩⟩:ByteArray)++{ data:={ toList:=Lib.itoa (↑(0:Nat):Int):Array UInt8 }:ByteArray }).size+1).le 9223372036854775807,(((⟨⟨[98,111,111,107,32]⟩⟩:ByteArray)++words.bQ s.toNat++(⟨⟨[32]⟩⟩:ByteArray)).size+1).le 9223372036854775807,(-9223372036854775808:Int)<=(↑(0:Nat):Int)/\(↑(0:Nat):Int)<=9223372036854775807,(((⟨⟨[98,111,111,107,32]⟩⟩:ByteArray)++words.bQ s.toNat).size+1).le 9223372036854775807,(5+(words.bQ s.toNat).size).le 9223372036854775807,true=true,true=true,0<=s/\s<18446744073709551616]:=by kernel_rfl
theorem Sa (l:List SV)(s:Int)(n c:Nat)(t t' w:ByteArray)(i i':Int)(x:ak):reach DN 2 500 (SM.at (ES t i) 6 (Ek l s n c)) ([(2,.cells (eC x))]++ff [0] true++[6,10,18,26,34].map (fun q=>(q,.cells [.v (.string w)]))++VP) [(0,0),(1,1),(2,2)] [0] (ES t' i') 6 (Ek l s n c)=[0=0,VS (t++(⟨⟨[101,110,116,114,121,32]⟩⟩:ByteArray)++words.cx (words.pathL x.1.data.toList)++(⟨⟨[32]⟩⟩:ByteArray)++words.bQ (x.2 / 1048576).toNat++(⟨⟨[32]⟩⟩:ByteArray)++words.bQ (x.2 % 1048576).toNat++(⟨⟨[32]⟩⟩:ByteArray)++w++(⟨⟨[32]⟩⟩:ByteArray)++{ data:={ toList:=Lib.itoa (↑x.5:Int):Array UInt8 }:ByteArray }++(⟨⟨[10]⟩⟩:ByteArray))=VS t',0=0/\3=3/\some 3=some 3,vZ (IntKind.i64.wrap (i+1))=vZ i',l=l,l.all ab=true,V1 IntKind.u64 s=V1 IntKind.u64 s,0=0/\n=n/\some c=some c,VS ⟨⟨[110,111,110,101]⟩⟩=VS ⟨⟨[110,111,110,101]⟩⟩,VS ⟨⟨[102,105,108,101]⟩⟩=VS ⟨⟨[102,105,108,101]⟩⟩,VS ⟨⟨[100,105,114]⟩⟩=VS ⟨⟨[100,105,114]⟩⟩,((t++(⟨⟨[101,110,116,114,121,32]⟩⟩:ByteArray)++words.cx (words.pathL x.1.data.toList)++(⟨⟨[32]⟩⟩:ByteArray)++words.bQ (x.2 / 1048576).toNat++(⟨⟨[32]⟩⟩:ByteArray)++words.bQ (x.2 % 1048576).toNat++(⟨⟨[32]⟩⟩:ByteArray)++w++(⟨⟨[32]⟩⟩:ByteArray)++{ data:={ toList:=Lib.itoa (↑x.5:Int):Array UInt8 }:ByteArray }).size+1).le 9223372036854775807,((t++(⟨⟨[101,110,116,114,121,32]⟩⟩:ByteArray)++words.cx (words.pathL x.1.data.toList)++(⟨⟨[32]⟩⟩:ByteArray)++words.bQ (x.2 / 1048576).toNat++(⟨⟨[32]⟩⟩:ByteArray)++words.bQ (x.2 % 1048576).toNat++(⟨⟨[32]⟩⟩:ByteArray)++w++(⟨⟨[32]⟩⟩:ByteArray)).size+{ data:={ toList:=Lib.itoa (↑x.5:Int):Array UInt8 }:ByteArray }.size).le 9223372036854775807,(x.3==x.3)=true,(w==w)=true,Kn[0+x.3.toNat*1]?=some (SV.v (VS w)),(-9223372036854775808:Int)<=(↑x.5:Int)/\(↑x.5:Int)<=9223372036854775807,((t++(⟨⟨[101,110,116,114,121,32]⟩⟩:ByteArray)++words.cx (words.pathL x.1.data.toList)++(⟨⟨[32]⟩⟩:ByteArray)++words.bQ (x.2 / 1048576).toNat++(⟨⟨[32]⟩⟩:ByteArray)++words.bQ (x.2 % 1048576).toNat++(⟨⟨[32]⟩⟩:ByteArray)++w).size+1).le 9223372036854775807,((t++(⟨⟨[101,110,116,114,121,32]⟩⟩:ByteArray)++words.cx (words.pathL x.1.data.toList)++(⟨⟨[32]⟩⟩:ByteArray)++words.bQ (x.2 / 1048576).toNat++(⟨⟨[32]⟩⟩:ByteArray)++words.bQ (x.2 % 1048576).toNat++(⟨⟨[32]⟩⟩:ByteArray)).size+w.size).le 9223372036854775807,((t++(⟨⟨[101,110,116,114,121,32]⟩⟩:ByteArray)++words.cx (words.pathL x.1.data.toList)++(⟨⟨[32]⟩⟩:ByteArray)++words.bQ (x.2 / 1048576).toNat++(⟨⟨[32]⟩⟩:ByteArray)++words.bQ (x.2 % 1048576).toNat).size+1).le 9223372036854775807,((t++(⟨⟨[101,110,116,114,121,32]⟩⟩:ByteArray)++words.cx (words.pathL x.1.data.toList)++(⟨⟨[32]⟩⟩:ByteArray)++words.bQ (x.2 / 1048576).toNat++(⟨⟨[32]⟩⟩:ByteArray)).size+(words.bQ (x.2 % 1048576).toNat).size).le 9223372036854775807,(x.3==x.3)=true,(w==w)=true,Kn[0+x.3.toNat*1]?=some (SV.v (VS w)),decide (x.4=x.4/\x.5=x.5/\x.6=x.6)=true,((↑x.5:Int)==(↑x.5:Int))=true,0<=x.2 % 1048576/\x.2 % (1048576:Int)<18446744073709551616,((t++(⟨⟨[101,110,116,114,121,32]⟩⟩:ByteArray)++words.cx (words.pathL x.1.data.toList)++(⟨⟨[32]⟩⟩:ByteArray)++words.bQ (x.2 / 1048576).toNat).size+1).le 9223372036854775807,((t++(⟨⟨[101,110,116,114,121,32]⟩⟩:ByteArray)++words.cx (words.pathL x.1.data.toList)++(⟨⟨[32]⟩⟩:ByteArray)).size+(words.bQ (x.2 / 1048576).toNat).size).le 9223372036854775807,(x.3==x.3)=true,(w==w)=true,Kn[0+x.3.toNat*1]?=some (SV.v (VS w)),decide (x.4=x.4/\x.5=x.5/\x.6=x.6)=true,((↑x.5:Int)==(↑x.5:Int))=true,0<=x.2 / 1048576/\x.2 / (1048576:Int)<18446744073709551616,((t++(⟨⟨[101,110,116,114,121,32]⟩⟩:ByteArray)++words.cx (words.pathL x.1.data.toList)).size+1).le 9223372036854775807,((t++(⟨⟨[101,110,116,114,121,32]⟩⟩:ByteArray)).size+(words.cx (words.pathL x.1.data.toList)).size).le 9223372036854775807,(x.3==x.3)=true,(w==w)=true,Kn[0+x.3.toNat*1]?=some (SV.v (VS w)),decide (x.4=x.4/\x.5=x.5/\x.6=x.6)=true,((↑x.5:Int)==(↑x.5:Int))=true,x.1.size.le 1000000000,Kn[0+x.3.toNat*1]?=some (SV.v (VS w)),ai x.3 3=true,(t.size+6).le 9223372036854775807,0<=x.2/\x.2<18446744073709551616,List.take 4 (List.drop (0+i.toNat*4) l)=eC x/\(eC x).length=4,ai i n=true,decide (i<(↑n:Int))=true]:=by kernel_rfl
open words (pathL mkS_app mkS_size)
open tt (text_take flat_congr)
open tk (bodyK headB kindL Fine dec_len bodyK_len headB_len lineX)
theorem QS {M0 M:Own}{w00 w0:World}(hM:∀ z,¬ M0 z)(hB:dh M0 w00 M w0):aK DN M w0:=
 aK.uG (Checked.mixed Tryz.checked) (by kernel_rfl) (fh.of iJ rfl dK) (dy.list (X:=fun _=>True) (l:=Pd) rfl (fun r h=>by
  simp only[Pd,V8,Ww,Xc]at h
  rcases h with rfl|rfl|rfl|rfl
  ·exact bh.pure (r:=(27,words.iS)) words.xQ
  ·exact bh.pure (r:=(30,words.j7)) words.qi
  ·exact bh.pure (r:=(38,words.uX 18446744073709551616)) (words.B7 18446744073709551616 (Wx _))
  ·exact bh.pure (r:=(39,ow)) vh) fun ν s w hr _=>trivial) (fun f g h=>by cases h)
theorem bE:({ data:={ toList:=[(101:UInt8),(110:UInt8),(116:UInt8),(114:UInt8),(121:UInt8),(32:UInt8)]:Array UInt8 }:ByteArray })=words.cx [101,110,116,114,121,32]:=rfl
theorem bB:({ data:={ toList:=[(98:UInt8),(111:UInt8),(111:UInt8),(107:UInt8),(32:UInt8)]:Array UInt8 }:ByteArray })=words.cx [98,111,111,107,32]:=rfl
theorem bU (n:Nat):words.bQ n=words.cx (Lib.decDigits n):=rfl
theorem Lw {k:Int}(h:k=0\/k=1\/k=2):Kn[0+k.toNat*1]?=some (.v (.string (words.cx (kindL k)))):=by
 rcases h with rfl|rfl|rfl<;>rfl
section
variable {cs0:List Frame}{R:Ending->World->Prop}{ν:aP}{L:List ak}{M1:Own}{w1:World}{s:Int}{c:Nat}{hd:List UInt8}
theorem Fu (K:aK DN M1 w1)(hν:∀ i b,ν i=some b->i=0)(YO:L.length<=1000)(hh:hd.length<=100)(hs:∀ x∈L,x.p.size<=1000000000)(hl:∀ x∈L,x.l<=140737488355328)(hg:∀ x∈L,Fine x.v x.k)
  (hR:∀ ν' M2 w2 s' w',dh M1 w1 M2 w2->HR ν' M2 w2 s' w'->R (.returned (.string (words.cx (hd++L.flatMap lineX)))) w'):∀ (j i:Nat),i+j=L.length->((L.take i).flatMap lineX).length<=i*3000000200->
  af DN M1 w1 cs0 13 R ν (SM.at (ES (words.cx (hd++(L.take i).flatMap lineX)) (i:Int)) 6 (Ek (cE L) s L.length c))
 | 0,i,hj,hb=>by
  refine af.ao K (n:=60) (o:=ff [0] false++VP) (v:=.string (words.cx (hd++L.flatMap lineX))) ?_ fun ν' M2 w2 s' w' _ hB hr=>hR ν' M2 w2 s' w' hB hr;rw[Vj,We (by omega)];simp only[ah,VV,VX,VW];exact V2 (by omega)
 | j+1,i,hj,hb=>by
  have hi:i<L.length:=by omega
  have hxm:=WS hi;have hx:L[i]?=some L[i]:=V4 hi;have Y2:=text_take lineX hi;generalize L[i]=x at hxm hx Y2;have ZV:=hs x hxm;have hxl:=hl x hxm;obtain⟨g0,g1,g2,gk⟩:=hg x hxm;have t1:decide ((i:Int)<(L.length:Int))=true:=V0 (by omega);have r1:=aJ hi;have ws:=aU (k:=i) (by omega);have ra:=ml hx;have nx:=Fu K hν YO hh hs hl hg hR j (i+1) (by omega);rw[Y2]at nx;generalize (L.take i).flatMap lineX=t at hb nx ⊢
  have ht:t.length<=3000000200000:=by
   have:i*3000000200<=1000*3000000200:=Xw _ (by omega);omega
  obtain⟨n,hn⟩:=XO g0;have hn':x.2=(n:Int):=hn;have Zo:n<18446744073709551616:=by omega
  have hv0:(0:Int)<=(n:Int)/\(n:Int)<18446744073709551616:=⟨by omega,by omega⟩;have el:lineX x=bodyK x.p (n / 1048576) (n % 1048576) (kindL x.k) x.l++[10]:=by unfold lineX;rw[hn,V5]
  have hkl:(kindL x.k).length<=4:=by unfold kindL;split<;>(try split)<;>decide
  have Zs:=bodyK_len (a:=n / 1048576) (c:=n % 1048576) (ks:=kindL x.k) (l:=x.l) ZV (by omega) (by omega) hkl hxl;rw[el]at nx;have nx:=nx (by simp only[V7,Wm,WK];omega);have e1:((n:Int) / 1048576)=((n / 1048576:Nat):Int):=by omega
  have e2:((n:Int) % 1048576)=((n % 1048576:Nat):Int):=by omega
  have hd1:(0:Int)<=((n / 1048576:Nat):Int)/\((n / 1048576:Nat):Int)<18446744073709551616:=⟨by omega,by omega⟩;have hd2:(0:Int)<=((n % 1048576:Nat):Int)/\((n % 1048576:Nat):Int)<18446744073709551616:=⟨by omega,by omega⟩;have hil:(-9223372036854775808:Int)<=(x.l:Int)/\(x.l:Int)<=9223372036854775807:=⟨by omega,by omega⟩;have hkw:=Lw gk;have hkr:ai x.3 3=true:=by rcases gk with k|k|k<;>(rw[show x.3=_ from k];rfl)
  have hpl:=words.ia x.p.data.toList;have Z0:x.p.data.toList.length=x.p.size:=rfl;have hdl1:=dec_len (n:=n / 1048576) (by omega);have hdl2:=dec_len (n:=n % 1048576) (by omega);have hitl:=Lib.itoa_length_le (x.l:Int) (by omega) (by omega);refine af.reach K (k:=2) (n:=500) (o:=([(2,.cells (eC x))]++ff [0] true++[6,10,18,26,34].map (fun q=>(q,.cells [.v (.string (words.cx (kindL x.k)))]))++VP)) (ren:=[(0,0),(1,1),(2,2)]) (eqs:=[0]) ?_ (by kernel_rfl) (fun i b h=>by rw[hν i b h];rfl) nx;rw[Sa];have hkw':Kn[0+x.3.toNat*1]?=some (.v (.string (words.cx (kindL x.k)))):=hkw;generalize kindL x.k=ks at hkl Zs hkw' ⊢;simp only[ah,t1,r1,ra,ws,hn',e1,e2,hkr,hkw',V5,bE,bU,tr.bS,tr.bN,tr.bI,mkS_app,mkS_size,c9,aM,VV,VX,VW];simp only[V7,Wm,WK];try (repeat' apply And.intro)
  all_goals first|rfl|exact ZV|exact WA _|exact cL _|exact V0 ⟨rfl,rfl,rfl⟩|(show (_:Nat)<=_;omega)|omega|(refine congrArg Value.string (congrArg words.cx ?_);unfold bodyK;simp)|skip
end
end br
namespace br
open words (mkS_app mkS_size)
open tk (headB Fine dec_len headB_len lineX)
theorem head_eq (s n:Nat):[98,111,111,107,32]++Lib.decDigits s++[32]++Lib.itoa (n:Int)++[10]=headB s n:=by unfold headB;simp
def Pu (W:World)(y:Value)(xs:List ak):Prop:=(xs=[]/\y=.slice none 0 0)\/(xs≠[]/\∃ w0:World,cF w0 W y (vE xs) xs.length 4 50)
theorem l4 {W:World}{y:Value}{xs:List ak}{s:Int}(h:Pu W y xs)(YO:xs.length<=1000)(hs:0<=s/\s<18446744073709551616)(YX:∀ x∈xs,x.p.size<=1000000000)(hl:∀ x∈xs,x.l<=140737488355328)(hg:∀ x∈xs,Fine x.v x.k):
  Calls Tryz.prog 13 #[.agg #[.int .u64 s,y]] W fun e w'=>Below W.heap.size W w'/\e=.returned (.string (words.cx (headB s.toNat xs.length++xs.flatMap lineX))):=by
 obtain⟨n,rfl⟩:=XO hs.1;have Zo:n<18446744073709551616:=by omega
 have hdl:=dec_len Zo;rcases h with ⟨rfl,rfl⟩|⟨Yu,w0,g,c,rest,rfl,_,ZF,hh,hsz2⟩
 ·refine bW (E:=DN) (args:=[.agg [.v (.int .u64 n),.v (.slice none 0 0)]]) (a:=[.agg #[.int .u64 n,.slice none 0 0]]) rfl rfl (QS aE (dh.refl (fun b hb=>by obtain⟨i,o,c,h1,h2⟩:=hb;simp at h1) fun _ h=>h)) (by kernel_rfl) (au.cons (VR.bx.2 ⟨_,rfl,au.cons (VR.ae.2 rfl) (au.cons (VR.ae.2 rfl) au.nil)⟩) au.nil) (n:=400) (o:=VP) ⟨?_⟩;rw[RL];have hitl:=Lib.itoa_length_le ((0:Nat):Int) (by omega) (by omega);have he:=head_eq n 0;simp only[ah,V5,bB,bU,tr.bS,tr.bN,tr.bI,mkS_app,mkS_size,he,Yd,W4,VV,VX,VW];simp only[V7,Wm,WK];try (repeat' apply And.intro)
  all_goals first|rfl|trivial|(show (_:Nat)<=_;omega)|omega|skip
 ·have ho:∀ (j:Nat) (o':SO) (b' c':Nat),[SO.look (cE xs)][j]?=some o'->[(g,c)][j]?=some (b',c')->∃ r,W.heap[b']?=some r/\OR (aA [(g,c)]) j o' r:=by
   intro j o' b' c' q1 q2;match j with
   | 0=>
    simp only[Wa,Option.some.injEq]at q1 q2;subst q1;cases q2;refine⟨_,hh,?_⟩;have:cE xs=aT eC 0 xs:=rfl;rw[this];refine eJ (h:=eV) (fun ν x=>au.lits ν (eV x)) (WW _) fun k v hk=>?_;rw[W8];have hk:(vE xs)[k]?=some v:=hk;show (vE xs++rest).toArray[k]?=some v;rw[X9,WD (WB.1 hk).1];exact hk
   | j+1=>simp at q1
  refine aW (E:=DN) rfl (d:=6) (l:=[(g,c)]) (os:=[.look (cE xs)]) rfl (by simp) (by simp) ho rfl (args:=[.agg [.v (.int .u64 n),.sl 0 0 xs.length (some c)]]) (a:=[.agg #[.int .u64 n,.slice (some ⟨g,0,none⟩) xs.length c]]) (S0:=Cb (cE xs) n xs.length c) (by kernel_rfl) (au.cons (VR.bx.2 ⟨_,rfl,au.cons (VR.ae.2 rfl) (au.cons (VR.aL.2 ⟨(g,c),rfl,ZF,rfl⟩) au.nil)⟩) au.nil) fun cs0=>?_;have hM:∀ z,¬ (aD [(g,c)] ([SO.look (cE xs)].map fun o=>(o,false))) z:=fun z=>aZ (os:=[SO.look (cE xs)])
  have K:=QS (M0:=aD [(g,c)] ([SO.look (cE xs)].map fun o=>(o,false))) (w00:=W) (M:=aD [(g,c)] ([SO.look (cE xs)].map fun o=>(o,false))) (w0:=W) hM (dh.refl (dN (by
   intro j o' m b' c' q1 q2;rw[Wv]at q1;obtain⟨o2,q3,q4⟩:=Wg.1 q1;cases q4;exact ho j o' b' c' q3 q2)) fun _ h=>h)
  have hν:∀ i b',aA [(g,c)] i=some b'->i=0:=fun i b' h=>dj h;have hhd:=headB_len (s:=n) (n:=xs.length) Zo YO;have nx:=Fu (cs0:=cs0) (L:=xs) (s:=n) (c:=c) (hd:=headB n xs.length) (R:=fun e w'=>Below W.heap.size W w'/\e=.returned (.string (words.cx (headB n xs.length++xs.flatMap lineX)))) K hν YO hhd YX hl hg (fun ν' M3 w3 s' w4 hB3 hr3=>⟨aB hM hB3 hr3,rfl⟩) xs.length 0 (by omega) (by simp);refine af.reach K (k:=2) (n:=300) (o:=VP) (ren:=[(0,0),(1,1),(2,2)]) (eqs:=[0]) ?_ (by kernel_rfl) (fun i b h=>by rw[hν i b h];rfl) nx;show ah (reach DN 2 300 (Cb (cE xs) n xs.length c) VP [(0,0),(1,1),(2,2)] [0] (ES (words.cx (headB n xs.length++(xs.take 0).flatMap lineX)) 0) 6 (Ek (cE xs) n xs.length c));rw[VK];have hitl:=Lib.itoa_length_le (xs.length:Int) (by omega) (by omega);have he:=head_eq n xs.length;simp only[ah,V5,bB,bU,tr.bS,tr.bN,tr.bI,mkS_app,mkS_size,he,X7,Yd,W4,aM,VV,VX,VW]
  simp only[V7,Wm,WK];try (repeat' apply And.intro)
  all_goals first|rfl|exact WA _|(show (_:Nat)<=_;omega)|omega|skip
end br
open tk (lineX lineZ headB bookL bodyK kindL Fine)
theorem Inv.names {cm ys:ak->List Int}{E:List bH}{cl:Nat}{xs:List ak}(h:Inv cm ys E cl xs):(E.map fun e=>e.1.p).Perm (xs.map fun e=>e.p):=by
 have hp:=h.ZB.map (fun k:Key=>k.1);rw[WI,WI]at hp;exact hp
theorem Inv.bA {cm ys:ak->List Int}{E:List bH}{cl:Nat}{xs:List ak}(h:Inv cm ys E cl xs):bA (E.map fun e=>e.1.p)=xs.map fun e=>e.p:=by
 refine jK ?_ h.names.symm;rw[Ym];exact List.Pairwise.imp (fun hab=>KH hab) h.sorted
theorem HO {cm ys:ak->List Int}{E:List bH}{cl:Nat}{xs:List ak}(h:Inv cm ys E cl xs)(s:Int)(hl:∀ x∈xs,(ys x).length=x.l):
  bookL s (gP cm (E.map (·.1))) (bA (E.map fun e=>e.1.p))=headB s.toNat xs.length++xs.flatMap lineX:=by
 unfold bookL;rw[h.bA,WH,Ye];refine congrArg _ (tt.flat_congr fun x hx=>?_);have hn:(xs.map fun e=>e.p).Nodup:=(h.names.nodup_iff).1 h.ok.names
 have hz:gP cm (E.map (·.1)) x.p=(x.v,x.k,ys x):=by
  rw[BO h.ZB h.ok.names];unfold gP;rw[qa hn hx]
 unfold lineX lineZ;rw[hz];show bodyK x.p (x.v.toNat / 1048576) (x.v.toNat % 1048576) (kindL x.k) (ys x).length++[10]=_;rw[hl x hx]
theorem JT {x:ak}(h:cG x.p x.v x.k x.l=0)(h0:0<=x.v)(h1:x.v<18446744073709551616):Fine x.v x.k:=by
 unfold cG at h;cases hu:fN x.p with
 | false=>rw[hu]at h;simp at h
 | true=>
  cases hv:gX x.v with
  | false=>rw[hu,hv]at h;simp at h
  | true=>
   rw[hu,hv]at h;simp only[WE]at h;refine⟨h0,h1,hv,?_⟩;unfold aS at h;by_cases k1:x.k=1
   ·exact .inr (.inl k1)
   ·rw[if_neg k1]at h;by_cases k2:(x.k=0\/x.k=2)/\x.l=0
    ·rcases k2.1 with k|k
     ·exact .inl k
     ·exact .inr (.inr k)
    ·rw[if_neg k2]at h;simp at h
end paths
open Go Go.Rx Go.RowKit Go.Proofs
namespace paths
namespace tt
theorem UZ (v:Value):ao bn 10 800 (a7 bn 10 [.v (.pointer none)]) VP v=[VS ⟨⟨[]⟩⟩=v]:=by kernel_rfl
theorem AJ {W:World}:Calls Tryz.prog 10 #[.pointer none] W fun e w'=>Below W.heap.size W w'/\e=.returned (.string ⟨#[]⟩):=by
 refine bW (E:=bn) (args:=[.v (.pointer none)]) (a:=[.pointer none]) rfl rfl fQ (by kernel_rfl) (au.cons (VR.ae.2 rfl) au.nil) (n:=800) (o:=VP) ⟨?_⟩;rw[UZ];simp only[ah,VV,VX,VW]
end tt
open Go Go.Rx Go.RowKit Go.Proofs
namespace ly
def P7:List (FuncId × PS):=[(6,fun args=>match args with|[]=>some (.bool true,True)|_=>none)]
def EA:Env:=EP P7 []
structure eT where
 a0:Option Addr
 l0:Nat
 c0:Nat
 a1:Option Addr
 l1:Nat
 c1:Nat
 k:Int
def GV (x:eT):SM:=(a6 EA 3 [.v (.slice x.a0 x.l0 x.c0),.v (.slice x.a1 x.l1 x.c1),.v (.int .u8 x.k)] (jS 12 [])).getD dn
def oL:List (Nat × gR):=ff [1000] true
def Lb (b:Nat)(v:Value):Value:=.tuple #[fA b,v,.bool true]
structure mG where
 a:Option Addr
 n:Nat
 c:Nat
def Qw (y:mG):Nat->SV:=fun i=>.tup [.ptr i 0,.agg [.v (.int .u64 0),.v (.slice y.a y.n y.c)],.v (.bool true)]
def P9 (m:Option Nat):SO:=.row [.v (.int .u64 0),.v (.map m)] 66 (0,0) none
structure lM where
 b:Nat
 v:Value
def OI (x:eT)(b:Bool):SM:=dB EA 4 60 (GV x) oL (.v (.bool b))
def MZ (x:eT)(b:Bool):SM:=dB EA 5 60 (OI x true) oL (.v (.bool b))
def OM (x:eT)(p:lM):SM:=dB EA 7 60 (MZ x true) oL (.v (Lb p.b p.v))
def Oz (x:eT)(p:lM)(y:mG)(m:Option Nat):SM:=sO EA 8 60 (OM x p) oL (Qw y) (P9 m)
def OG:List SI:=dA EA 2 200 (Oz ⟨none,0,0,none,0,0,0⟩ ⟨0,.int .i64 0⟩ ⟨none,0,0⟩ none) oL
def MW (x:eT)(p:lM)(i:Int):SF:={ fn:=3,tm:=e9 74 7 ([.aH,.aH,.v (.int .u8 x.k),.aH,.aH,.aH,.aH,.v (fA p.b),.v p.v,.aH,.ptr 0 0,.ptr 1 0]++List.replicate 28 .aH++[.v (.int .u8 x.k),.v (.int .u8 i)]++List.replicate 32 .aH),todo:=OG,defers:=[],ret:=false,kind:=.normal,ro:=none }
def MQ (y:mG)(m:Option Nat)(s:Int):List (Option (SO × Bool)):=[some (.row [.v (.int .u64 s),.v (.map m)] 66 (0,0) none,true),some (.row [.v (.int .u64 0),.v (.slice y.a y.n y.c)] 34 (0,0) none,true)]
def oZ:List (Nat × gR):=ff [0] false++ff ((List.range 40).map (·+1)) true++VP
def oG:List (Nat × gR):=ff (List.range 40) true++VP
def MT (x:eT)(p:lM)(y:mG)(m:Option Nat)(s i:Int):SM:=SM.at (MW x p i) 12 (MQ y m s)
def OY (x:eT)(p:lM)(y:mG)(m:Option Nat)(s i:Int)(u:ByteArray):SM:=dB EA 10 200 (MT x p y m s i) oZ (.v (.string u))
def O1 (x:eT)(p:lM)(y:mG)(m:Option Nat)(s i:Int)(u:ByteArray):SM:=dB EA 11 60 (OY x p y m s i u) oG (.v (.string u))
def OO (x:eT)(p:lM)(y:mG)(m:Option Nat)(s i:Int)(u v:ByteArray):SM:=dB EA 12 60 (O1 x p y m s i u) oG (.v (.string v))
def O3 (x:eT)(p:lM)(y:mG)(m:Option Nat)(s i:Int)(u v:ByteArray):SM:=dB EA 13 60 (OO x p y m s i u v) oG (.v (.string v))
def ON (x:eT)(p:lM)(y:mG)(m:Option Nat)(s i:Int)(u v z:ByteArray):SM:=dB EA 12 60 (O3 x p y m s i u v) oG (.v (.string z))
def OQ (x:eT)(p:lM)(y:mG)(m:Option Nat)(s i:Int)(u v z:ByteArray):SM:=dB EA 13 60 (ON x p y m s i u v z) oG (.v (.string z))
def QP (x:eT)(p:lM)(y:mG)(m:Option Nat)(s i:Int)(u v z:ByteArray):SM:=dB EA 10 60 (OQ x p y m s i u v z) oG (.v (.string ⟨#[]⟩))
theorem Sd (x:eT):dT EA 4 60 (GV x) oL=[]:=by kernel_rfl
theorem Rk (x:eT):dT EA 5 60 (OI x true) oL=[]:=by kernel_rfl
theorem Td (x:eT):dT EA 7 60 (MZ x true) oL=[]:=by kernel_rfl
theorem Sm (x:eT)(p:lM):dT EA 8 60 (OM x p) oL=[]:=by kernel_rfl
theorem Ty (x:eT)(b:Bool):dS EA 4 60 (GV x) oL (.v (.bool b))=[]:=by kernel_rfl
theorem RD (x:eT)(b:Bool):dS EA 5 60 (OI x true) oL (.v (.bool b))=[]:=by kernel_rfl
theorem RE (x:eT)(p:lM):dS EA 7 60 (MZ x true) oL (.v (Lb p.b p.v))=[]:=by kernel_rfl
theorem TA (x:eT)(p:lM)(y:mG)(m:Option Nat):AA EA 8 60 (OM x p) oL (Qw y) (P9 m)=[]:=by kernel_rfl
theorem Uh (x:eT):ao EA 3 300 (OI x false) oL (.bool true)=[VU true=VU true,True]:=by kernel_rfl
theorem TH (x:eT):ao EA 3 300 (MZ x false) oL (.bool true)=[VU true=VU true,True]:=by kernel_rfl
theorem Tv (x:eT)(p:lM)(y:mG)(m:Option Nat):reach EA 2 200 (Oz x p y m) oL [(0,0),(1,1)] [] (MW x p 0) 12 (MQ y m 0)=[V1 IntKind.u8 x.7=V1 IntKind.u8 x.7,Value.pointer (some { block:=p.1,off:=0:Addr })=Value.pointer (some { block:=p.1,off:=0:Addr }),p.2=p.2,0=0,0=0,V1 IntKind.u8 x.7=V1 IntKind.u8 x.7,V1 IntKind.u8 0=V1 IntKind.u8 0,V1 IntKind.u64 0=V1 IntKind.u64 0,Value.map m=Value.map m,V1 IntKind.u64 0=V1 IntKind.u64 0,VT y.1 y.2 y.3=VT y.1 y.2 y.3]:=by kernel_rfl
theorem TF (x:eT)(p:lM)(y:mG)(m:Option Nat)(s s' i i':Int):reach EA 2 200 (SM.at (MW x p i) 12 (MQ y m s)) (ff [0] true++ff (List.range 20) false++VP) [(0,0),(1,1)] [] (MW x p i') 12 (MQ y m s')=[V1 IntKind.u8 x.7=V1 IntKind.u8 x.7,Value.pointer (some { block:=p.1,off:=0:Addr })=Value.pointer (some { block:=p.1,off:=0:Addr }),p.2=p.2,0=0,0=0,V1 IntKind.u8 x.7=V1 IntKind.u8 x.7,V1 IntKind.u8 (IntKind.u8.wrap (i+1))=V1 IntKind.u8 i',V1 IntKind.u64 (IntKind.u64.wrap (s+1))=V1 IntKind.u64 s',Value.map m=Value.map m,V1 IntKind.u64 0=V1 IntKind.u64 0,VT y.1 y.2 y.3=VT y.1 y.2 y.3,decide (s≥1099511627776)=false,false=false,decide (i<x.7)=true]:=by kernel_rfl
theorem Pa (x:eT)(p:lM)(y:mG)(m:Option Nat)(s i:Int):dT EA 10 200 (MT x p y m s i) oZ=[decide (i<x.7)=false]:=by kernel_rfl
theorem ld1 (x:eT)(p:lM)(y:mG)(m:Option Nat)(s i:Int)(u:ByteArray):dS EA 10 200 (MT x p y m s i) oZ (.v (.string u))=[decide (i<x.7)=false]:=by kernel_rfl
theorem QC (x:eT)(p:lM)(y:mG)(m:Option Nat)(s i:Int)(u:ByteArray):dT EA 11 60 (OY x p y m s i u) oG=[]:=by kernel_rfl
theorem Q7 (x:eT)(p:lM)(y:mG)(m:Option Nat)(s i:Int)(u:ByteArray):dS EA 11 60 (OY x p y m s i u) oG (.v (.string u))=[]:=by kernel_rfl
theorem QI (x:eT)(p:lM)(y:mG)(m:Option Nat)(s i:Int)(u:ByteArray):dT EA 12 60 (O1 x p y m s i u) oG=[(u.toList==u.toList)=true,(u.toList==u.toList)=true,(u.toList==u.toList)=true]:=by kernel_rfl
theorem UP (x:eT)(p:lM)(y:mG)(m:Option Nat)(s i:Int)(u v:ByteArray):dS EA 12 60 (O1 x p y m s i u) oG (.v (.string v))=[decide (y.1=y.1/\y.2=y.2/\y.3=y.3)=true,(IntKind.u64.wrap x.7==IntKind.u64.wrap x.7)=true,(u.toList==u.toList)=true,(u.toList==u.toList)=true,(u.toList==u.toList)=true,(u.toList==u.toList)=true]:=by kernel_rfl
theorem Pc (x:eT)(p:lM)(y:mG)(m:Option Nat)(s i:Int)(u v:ByteArray):dT EA 13 60 (OO x p y m s i u v) oG=[(u.toList==u.toList)=true]:=by kernel_rfl
theorem Th (x:eT)(p:lM)(y:mG)(m:Option Nat)(s i:Int)(u v:ByteArray):dS EA 13 60 (OO x p y m s i u v) oG (.v (.string v))=[(u.toList==u.toList)=true]:=by kernel_rfl
theorem O5 (x:eT)(p:lM)(y:mG)(m:Option Nat)(s i:Int)(u v:ByteArray):dT EA 12 60 (O3 x p y m s i u v) oG=[(v.toList==v.toList)=true,(v.toList==v.toList)=true,(u.toList==u.toList)=true,(u.toList==u.toList)=true]:=by kernel_rfl
theorem Sw (x:eT)(p:lM)(y:mG)(m:Option Nat)(s i:Int)(u v z:ByteArray):dS EA 12 60 (O3 x p y m s i u v) oG (.v (.string z))=[(v.toList==v.toList)=true,(v.toList==v.toList)=true,(u.toList==u.toList)=true,(u.toList==u.toList)=true]:=by kernel_rfl
theorem P1 (x:eT)(p:lM)(y:mG)(m:Option Nat)(s i:Int)(u v z:ByteArray):dT EA 13 60 (ON x p y m s i u v z) oG=[(v.toList==v.toList)=true]:=by kernel_rfl
theorem Tp (x:eT)(p:lM)(y:mG)(m:Option Nat)(s i:Int)(u v z:ByteArray):dS EA 13 60 (ON x p y m s i u v z) oG (.v (.string z))=[(v.toList==v.toList)=true]:=by kernel_rfl
theorem Re (x:eT)(p:lM)(y:mG)(m:Option Nat)(s i:Int)(u v z:ByteArray):dT EA 10 60 (OQ x p y m s i u v z) oG=[(z.toList==z.toList)=true,(v.toList==v.toList)=true,(v.toList==v.toList)=true]:=by kernel_rfl
theorem UK (x:eT)(p:lM)(y:mG)(m:Option Nat)(s i:Int)(u v z:ByteArray):dS EA 10 60 (OQ x p y m s i u v z) oG (.v (.string ⟨#[]⟩))=[(z.toList==z.toList)=true,(v.toList==v.toList)=true,(v.toList==v.toList)=true]:=by kernel_rfl
theorem R4 (x:eT)(p:lM)(y:mG)(m:Option Nat)(s i:Int)(u v z:ByteArray):ao EA 3 300 (QP x p y m s i u v z) oG (.bool true)=[VU true=VU true,true=true,True,true=true,(z.toList==z.toList)=true,(z.toList==z.toList)=true]:=by kernel_rfl
end ly
end paths
end Go.Proofs.YtbjmmnegkpeboaaGreatDoor
