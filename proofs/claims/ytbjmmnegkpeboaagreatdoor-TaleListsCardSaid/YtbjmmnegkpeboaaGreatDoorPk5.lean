/- What the law TaleLists leans on, part 5: the symbolic executor, proved sound, contracts of functions, plain lemmas. By an AI agent. -/
import Derived.Test.YtbjmmnegkpeboaaGreatDoorPk4
set_option linter.unusedSimpArgs false
set_option linter.unusedVariables false
set_option maxRecDepth 100000
noncomputable section
namespace Go.Proofs.YtbjmmnegkpeboaaGreatDoor
open Go Go.Rx Go.RowKit Go.Proofs
namespace paths
def yw (e:ax):List SV:=[.v (.int .i64 e.k),.v (.slice e.a e.l e.c)]
def qZ:Option (SO × Bool):=some (.row [.v (.int .i64 0),.v (.slice none 0 0)] 46 (0,0) none,true)
def GO (l:List SV)(n c:Nat)(p:ByteArray):SM:=(a6 bn 50 [.sl 0 0 n (some c),.v (.string p)] (bG 6 1 0 [cv l])).getD dn
def K5:List SI:=dA bn 2 60 (GO [] 0 0 ⟨#[]⟩) VP
def Bl (n c:Nat)(p:ByteArray)(i:Int):SF:={ fn:=50,tm:=e9 25 5 ([.sl 0 0 n (some c),.v (.string p),.aH,.aH,.ptr 1 0,.v (.int .i64 i)]++List.replicate 19 .aH),todo:=K5,defers:=[],ret:=false,kind:=.normal,ro:=none }
theorem TD (l:List SV)(n c:Nat)(p:ByteArray):reach bn 2 60 (GO l n c p) VP [(0,0),(1,1)] [0] (Bl n c p 0) 6 [cv l,qZ]=[0=0/\n=n/\some c=some c,VS p=VS p,0=0,vZ 0=vZ 0,l=l,l.all ab=true,vZ 0=vZ 0,VT none 0 0=VT none 0 0]:=by kernel_rfl
theorem Va (l:List SV)(n c:Nat)(p q:ByteArray)(i i':Int):reach bn 2 60 (SM.at (Bl n c p i) 6 [cv l,qZ]) (ff [0] true++[(2,.cells [.v (.string q)])]++ff [3] false) [(0,0),(1,1)] [0] (Bl n c p i') 6 [cv l,qZ]=[0=0/\n=n/\some c=some c,VS p=VS p,0=0,vZ (IntKind.i64.wrap (i+1))=vZ i',l=l,l.all ab=true,vZ 0=vZ 0,VT none 0 0=VT none 0 0,(q.toList==p.toList)=false,l[0+i.toNat*3+0]?=some (SV.v (VS q)),ai i n=true,decide (i<(↑n:Int))=true]:=by kernel_rfl
theorem T9 (l:List SV)(n c:Nat)(p q:ByteArray)(i:Int)(e:ax)(v:Value):ao bn 50 60 (SM.at (Bl n c p i) 6 [cv l,qZ]) (ff [0] true++[(2,.cells [.v (.string q)])]++ff [3] true++[(5,.cells (yw e))]) v=[Value.agg { toList:=[vZ e.2,VT e.3 e.4 e.5]:Array Value }=v,List.take 2 (List.drop (0+i.toNat*3+1) l)=yw e/\(yw e).length=2,ai i n=true,(q.toList==p.toList)=true,l[0+i.toNat*3+0]?=some (SV.v (VS q)),ai i n=true,decide (i<(↑n:Int))=true]:=by kernel_rfl
theorem US (l:List SV)(n c:Nat)(p:ByteArray)(i:Int)(v:Value):ao bn 50 60 (SM.at (Bl n c p i) 6 [cv l,qZ]) (ff [0] false) v=[Value.agg { toList:=[vZ 0,VT none 0 0]:Array Value }=v,decide (i<(↑n:Int))=false]:=by kernel_rfl
def Fz (p:ByteArray):SM:=a7 bn 50 [.v (.slice none 0 0),.v (.string p)]
theorem UE (p:ByteArray)(v:Value):ao bn 50 60 (Fz p) VP v=[Value.agg { toList:=[vZ 0,VT none 0 0]:Array Value }=v]:=by kernel_rfl
def z8:Env:=EP [(78,mN)] []
def G0 (l:List SV)(n c:Nat)(p:ByteArray):SM:=(a6 z8 47 [.sl 0 0 n (some c),.v (.string p)] (bG 6 1 0 [cv l])).getD dn
def LR:List SI:=dA z8 2 60 (G0 [] 0 0 ⟨#[]⟩) VP
def pc (n c:Nat)(p:ByteArray)(x:SV)(i:Int):SF:={ fn:=47,tm:=e9 29 5 ([.sl 0 0 n (some c),.v (.string p),.aH,.aH,.aH,x,.v (.int .i64 i)]++List.replicate 22 .aH),todo:=LR,defers:=[],ret:=false,kind:=.normal,ro:=none }
def py (l:List SV):Option (SO × Bool):=some (.row l 9 (0,0) (some 1),true)
theorem Ti (l:List SV)(n c:Nat)(p:ByteArray):reach z8 2 60 (G0 l n c p) VP [(0,0)] [0] (pc n c p bZ 0) 6 [cv l]=[0=0/\n=n/\some c=some c,VS p=VS p,VT none 0 0=VT none 0 0,vZ 0=vZ 0,l=l,l.all ab=true]:=by kernel_rfl
theorem UR (l:List SV)(n c:Nat)(p q:ByteArray)(i i':Int):reach z8 2 60 (SM.at (pc n c p bZ i) 6 [cv l]) (ff [0] true++[(2,.cells [.v (.string q)])]++ff [3,4] false) [(0,0)] [0] (pc n c p bZ i') 6 [cv l]=[0=0/\n=n/\some c=some c,VS p=VS p,VT none 0 0=VT none 0 0,vZ (IntKind.i64.wrap (i+1))=vZ i',l=l,l.all ab=true,dR q p=false,q.size<=1000000000/\p.size<=1000000000,l[0+i.toNat*3+0]?=some (SV.v (VS q)),ai i n=true,decide (i<(↑n:Int))=true]:=by kernel_rfl
theorem TR (l l':List SV)(n c:Nat)(p q:ByteArray)(i i':Int):reach z8 2 60 (SM.at (pc n c p bZ i) 6 [cv l]) (ff [0] true++[(2,.cells [.v (.string q)])]++ff [3,4] true++[(6,.cells [.v (.string q)])]) [(0,0),(1,2)] [0,1] (pc n c p (.sl 1 0 1 none) i') 6 [cv l,py l']=[0=0/\n=n/\some c=some c,VS p=VS p,0=0/\1=1/\nZ=none,vZ (IntKind.i64.wrap (i+1))=vZ i',l=l,l.all ab=true,[]++List.take 1 (List.drop 0 (aQ (List.replicate 1 (List.map SV.v [VS ⟨⟨[]⟩⟩])).flatten 0 [SV.v (VS q)]))=l',l'.all ab=true,l[0+i.toNat*3+0]?=some (SV.v (VS q)),ai i n=true,dR q p=true,q.size<=1000000000/\p.size<=1000000000,l[0+i.toNat*3+0]?=some (SV.v (VS q)),ai i n=true,decide (i<(↑n:Int))=true]:=by kernel_rfl
theorem VL (l m:List SV)(n c k:Nat)(p q:ByteArray)(i i':Int):reach z8 2 60 (SM.at (pc n c p (.sl 1 0 k none) i) 6 [cv l,py m]) (ff [0] true++[(2,.cells [.v (.string q)])]++ff [3,4] false) [(0,0),(1,1)] [0,1] (pc n c p (.sl 1 0 k none) i') 6 [cv l,py m]=[0=0/\n=n/\some c=some c,VS p=VS p,0=0/\k=k/\nZ=none,vZ (IntKind.i64.wrap (i+1))=vZ i',l=l,l.all ab=true,m=m,m.all ab=true,dR q p=false,q.size<=1000000000/\p.size<=1000000000,l[0+i.toNat*3+0]?=some (SV.v (VS q)),ai i n=true,decide (i<(↑n:Int))=true]:=by kernel_rfl
theorem Vp (l m l' w:List SV)(n c k:Nat)(p q:ByteArray)(i i':Int):reach z8 2 60 (SM.at (pc n c p (.sl 1 0 k none) i) 6 [cv l,py m]) (ff [0] true++[(2,.cells [.v (.string q)])]++ff [3,4] true++[(6,.cells [.v (.string q)]),(7,.app m w)]) [(0,0),(1,3)] [0,1] (pc n c p (.sl 1 0 (k+1) none) i') 6 [cv l,py l']=[0=0/\n=n/\some c=some c,VS p=VS p,0=0/\k+1=k+1/\nZ=none,vZ (IntKind.i64.wrap (i+1))=vZ i',l=l,l.all ab=true,m++w=l',l'.all ab=true,((List.take 1 (List.drop 0 (aQ (List.replicate 1 (List.map SV.v [VS ⟨⟨[]⟩⟩])).flatten 0 [SV.v (VS q)]))=w/\w.length=1*1)/\1≠0/\(2*(k+1)+1024)*16<=140737488355328)/\List.take (k*1) m=m/\m.length=k*1/\w.all SV.flat=true,l[0+i.toNat*3+0]?=some (SV.v (VS q)),ai i n=true,dR q p=true,q.size<=1000000000/\p.size<=1000000000,l[0+i.toNat*3+0]?=some (SV.v (VS q)),ai i n=true,decide (i<(↑n:Int))=true]:=by kernel_rfl
theorem Se (l:List SV)(n c:Nat)(p:ByteArray)(i:Int)(v:Value):ao z8 47 60 (SM.at (pc n c p bZ i) 6 [cv l]) (ff [0] false) v=[VT none 0 0=v,decide (i<(↑n:Int))=false]:=by kernel_rfl
theorem Sq (l m:List SV)(n c k:Nat)(p:ByteArray)(i:Int):bY z8 47 60 (SM.at (pc n c p (.sl 1 0 k none) i) 6 [cv l,py m]) (ff [0] false) (.sl 1 0 k none) 1 (.row m 9 (0,0) (some 1))=[0=0/\k=k/\nZ=none,m=m,m.all ab=true,decide (i<(↑n:Int))=false]:=by kernel_rfl
def Hi (p:ByteArray):SM:=a7 z8 47 [.v (.slice none 0 0),.v (.string p)]
theorem Ru (p:ByteArray)(v:Value):ao z8 47 60 (Hi p) VP v=[VT none 0 0=v]:=by kernel_rfl
def aO (p:ByteArray)(l:List ax):ax:=(l.find? (pH p)).getD ⟨p,0,none,0,0⟩
def bM (p:ByteArray)(l:List ax):List ByteArray:=(l.map fun e=>e.p).filter fun q=>dR q p
def pL (e:ax):Value:=.agg #[.int .i64 e.k,.slice e.a e.l e.c]
theorem J5 {xs:List ax}{k:Nat}{x:ax}(h:xs[k]?=some x):List.take 2 (List.drop (0+k*3+1) (cI xs))=yw x:=by
 have h1:=o9 h;have h2:List.drop (0+k*3+1) (cI xs)=List.drop 1 (List.drop (0+k*3) (cI xs)):=by rw[List.drop_drop]
 have h3:List.take 2 (List.drop 1 (List.drop (0+k*3) (cI xs)))=List.drop 1 (List.take 3 (List.drop (0+k*3) (cI xs))):=by rw[List.drop_take]
 rw[h2,h3,h1];rfl
def gO (a:SV)(s:SH):Option (List ax × Prop):=match a with
 | .v (.slice none 0 0)=>some ([],True)
 | .sl i 0 n none=>match s.look i with
  | some (.row ys e (0,0) (some 3),_)=>some (ad ys n,e=48/\bu ys n (ad ys n)/\ad ys n≠[])
  | _=>none
 | _=>none
theorem ku {a:SV}{s:SH}{xs:List ax}{p:Prop}(h:gO a s=some (xs,p))(hp:p):(xs=[]/\a=.v (.slice none 0 0))\/(xs≠[]/\xs.length<=1000/\∃ i mk,a=.sl i 0 xs.length none/\s.look i=some (.row (cI xs) 48 (0,0) (some 3),mk)):=by
 unfold gO at h;split at h
 ·cases h;exact .inl ⟨rfl,rfl⟩
 ·rename_i i n;split at h
  ·rename_i ys e mk hl;cases h;obtain⟨rfl,⟨h1,h2,h3⟩,h4⟩:=hp;refine .inr ⟨h4,by omega,i,mk,by rw[<- h2],?_⟩;rw[hl];congr 3
  ·cases h
 ·cases h
section
variable {w0:World}{cs0:List Frame}{R:Ending->World->Prop}{xs:List ax}{p:ByteArray}{b:Nat × Nat}{c:Nat}
theorem G7 (hl:xs.length<=1000)(hR:∀ w',Below w0.heap.size w0 w'->R (.returned (pL (aO p xs))) w'):∀ (j i:Nat),i+j=xs.length->(∀ e∈xs.take i,pH p e=false)->
  af bn (aD [b] [(.look (cI xs),false)]) w0 cs0 50 R (aA [b]) (SM.at (Bl xs.length c p i) 6 [cv (cI xs),qZ])
 | 0,i,hj,hn=>by
  refine cg fQ gW (n:=60) (o:=ff [0] false) (v:=.agg #[.int .i64 0,.slice none 0 0]) ⟨?_⟩ fun w' hw=>?_
  ·rw[US];simp only[ah,VW,VX];exact V2 (by omega)
  ·rw[We (by omega)]at hn
   have:xs.find? (pH p)=none:=by
    rw[WY];intro e he;rw[hn e he];simp
   have e2:aO p xs=⟨p,0,none,0,0⟩:=by unfold aO;rw[this];rfl
   have:=hR w' hw;rw[e2]at this;exact this
 | j+1,i,hj,hn=>by
  have hi:i<xs.length:=by omega
  have Zm:xs[i]?=some xs[i]:=V4 hi;have t1:decide ((i:Int)<(xs.length:Int))=true:=V0 (by omega);have r1:=aJ hi;have ws:=aU (k:=i) (by omega);have rc:=iP Zm;have ra:=J5 Zm;cases hq:pH p xs[i]
  ·have ZN:(xs[i].p.toList==p.toList)=false:=by rw[jB,jB];exact hq
   refine af.reach fQ (k:=2) (n:=60) (o:=(ff [0] true++[(2,.cells [.v (.string xs[i].p)])]++ff [3] false)) (ren:=[(0,0),(1,1)]) (eqs:=[0]) ?_ (by kernel_rfl) (fun i b h=>by rw[dj h];rfl) (l:=[cv (cI xs),qZ]) (G7 hl hR j (i+1) (by omega) fun e he=>by
    rw[Wp hi]at he;rcases WJ.1 he with h|h
    ·exact hn e h
    ·rw[Wl.1 h];exact hq)
   rw[Va];simp only[ah,V5,t1,r1,rc,ZN,ws,az,VV]
  ·have ZN:(xs[i].p.toList==p.toList)=true:=by rw[jB,jB];exact hq
   refine cg fQ gW (n:=60) (o:=(ff [0] true++[(2,.cells [.v (.string xs[i].p)])]++ff [3] true++[(5,.cells (yw xs[i]))])) (v:=pL xs[i]) ⟨?_⟩ fun w' hw=>?_
   ·rw[T9];simp only[ah,V5,t1,r1,rc,ra,ZN,VV,VW,VX];exact⟨rfl,rfl⟩
   ·have hf:xs.find? (pH p)=some xs[i]:=by
     conv=>lhs;rw[<- Xh i xs]
     rw[List.find?_append]
     have:(xs.take i).find? (pH p)=none:=by
      rw[WY];intro e he;rw[hn e he];simp
     rw[this,WQ hi,X2,hq];rfl
    have e2:aO p xs=xs[i]:=by unfold aO;rw[hf];rfl
    have:=hR w' hw;rw[e2]at this;exact this
end
def HQ:yC:=fun args sh=>match args with
 | [A,.v (.string p)]=>match gO A sh with
  | some (xs,q)=>some (pL (aO p xs),q)
  | none=>none
 | _=>none
theorem Iy {X:World->Prop}:bh Tryz.prog X (50,de HQ):=by
 refine dO ⟨_,Tryz.func50,by kernel_rfl,by kernel_rfl⟩ fun args sh v q h hp ν M w0 w a hr hX ha=>?_;dsimp only[HQ]at h;split at h
 ·rename_i A p;split at h
  ·rename_i xs q hl;cases h;obtain⟨y1,ZK,rfl,q1,YH⟩:=ha.cons_inv;obtain⟨y2,as2,rfl,q2,Zx⟩:=YH.cons_inv;obtain rfl:=Zx.ay;obtain rfl:=VR.ae.1 q2;rcases ku hl hp with ⟨rfl,rfl⟩|⟨Yu,ZH,i,mk,rfl,hlk⟩
   ·obtain rfl:=VR.ae.1 q1;refine (bP (E:=bn) (R:=fun e w'=>Below w.heap.size w w'/\e=.returned (pL (aO p []))) rfl rfl (args:=[.v (.slice none 0 0),.v (.string p)]) (a:=[.slice none 0 0,.string p]) (S0:=Fz p) (by kernel_rfl) (au.cons (VR.ae.2 rfl) (au.cons (VR.ae.2 rfl) au.nil)) fun cs0=>?_);refine cg fQ aE (n:=60) (o:=VP) (v:=pL (aO p [])) ⟨?_⟩ fun w' hw=>⟨hw,rfl⟩;rw[UE];simp only[ah,VW,VX];rfl
   ·obtain⟨bb,YZ,hle,rfl⟩:=VR.aL.1 q1;refine im (E:=bn) rfl rfl hr hlk (az xs) (args':=fun c=>[.sl 0 0 xs.length (some c),.v (.string p)]) (S0:=fun c=>GO (cI xs) xs.length c p) (fun b hb=>?_) (fun c=>by kernel_rfl) fun b cs0=>?_
    ·rw[YZ]at hb;cases hb;have Zb:xs.length<=bb.2:=hle;exact au.cons (VR.aL.2 ⟨bb,rfl,Zb,rfl⟩) (au.cons (VR.ae.2 rfl) au.nil)
    ·have nx:=G7 (w0:=w) (cs0:=cs0) (b:=b) (c:=b.2) (p:=p) (xs:=xs) (R:=fun e w'=>Below w.heap.size w w'/\e=.returned (pL (aO p xs))) ZH (fun w' hw=>⟨hw,rfl⟩) xs.length 0 (by omega) (fun e he=>by simp at he);refine af.reach fQ (k:=2) (n:=60) (o:=VP) (ren:=[(0,0),(1,1)]) (eqs:=[0]) (F:=Bl xs.length b.2 p 0) (d:=6) (l:=[cv (cI xs),qZ]) ?_ (by kernel_rfl) (fun i b h=>by rw[dj h];rfl) nx;rw[TD];simp only[ah,az,VV,VX,VW];first|done|rfl
  ·cases h
 ·cases h
theorem KA {M:Own}{w0:World}:aK z8 M w0:=fM fun r h=>by rw[Wl.1 h];exact DI
theorem qF (p:ByteArray){xs:List ax}{i:Nat}(h:i<xs.length):bM p (xs.take (i+1))=bM p (xs.take i)++(if dR xs[i].p p=true then [xs[i].p] else []):=by
 rw[Wp h];unfold bM;rw[Wq,List.filter_append];congr 1;cases hp:dR xs[i].p p<;>simp[hp]
theorem BT (p:ByteArray)(xs:List ax):(bM p xs).length<=xs.length:=by
 unfold bM;exact Wh (XQ _ _) (by rw[WH];exact Wx _)
def Pm (w0:World)(l:List ByteArray)(e:Ending)(w':World):Prop:=Below w0.heap.size w0 w'/\((l=[]/\e=.returned (.slice none 0 0))\/(l≠[]/\∃ y,e=.returned y/\cF w0 w' y (l.map Value.string) l.length 1 9))
section
variable {w0:World}{cs0:List Frame}{xs:List ax}{p:ByteArray}{b:Nat × Nat}{c:Nat}
theorem xC (hl:xs.length<=1000)(hp:p.size<=1000000000)(hs:∀ e∈xs,e.p.size<=1000000000):∀ (j i:Nat),i+j=xs.length->bM p (xs.take i)≠[]->
  af z8 (aD [b] [(.look (cI xs),false)]) w0 cs0 47 (Pm w0 (bM p xs)) (aA [b]) (SM.at (pc xs.length c p (.sl 1 0 (bM p (xs.take i)).length none) i) 6 [cv (cI xs),py (strs (bM p (xs.take i)))])
 | 0,i,hj,Yu=>by
  rw[We (by omega)]at Yu ⊢
  refine af.bY KA (n:=60) (o:=ff [0] false) (x:=.sl 1 0 (bM p xs).length none) (i:=1) (so:=.row (strs (bM p xs)) 9 (0,0) (some 1)) (by
   rw[Sq];simp only[ah,bL,VV,VX,VW];exact V2 (by omega)) fun ν' w' y b1 ob hv hb ho YA hw Zh=>?_
  obtain⟨M3,w3,M4,s',hBb,hr⟩:=Zh
  have hn:w0.heap.size<=b1.1:=by
   rcases hw with h|h
   ·exact h
   ·exact absurd h (gW _)
  exact⟨aB gW hBb hr,.inr ⟨Yu,y,rfl,cF.gb hv hb ho YA hn fun zs hz=>lX hz⟩⟩
 | j+1,i,hj,Yu=>by
  have hi:i<xs.length:=by omega
  have Y2:=qF p hi;have Zm:xs[i]?=some xs[i]:=V4 hi;have t1:decide ((i:Int)<(xs.length:Int))=true:=V0 (by omega);have r1:=aJ hi;have ws:=aU (k:=i) (by omega);have rc:=iP Zm;have z1:=hs _ (WS hi);have hbl:(bM p (xs.take i)).length<=1000:=Wh (BT _ _) (by rw[WX];omega);cases hq:dR xs[i].p p
  ·rw[hq,if_neg (by decide),W4]at Y2;have nx:=xC hl hp hs j (i+1) (by omega) (by rw[Y2];exact Yu);rw[Y2]at nx;refine af.reach KA (k:=2) (n:=60) (o:=(ff [0] true++[(2,.cells [.v (.string xs[i].p)])]++ff [3,4] false)) (ren:=[(0,0),(1,1)]) (eqs:=[0,1]) ?_ (by kernel_rfl) (fun i b h=>by rw[dj h];rfl) nx;rw[VL];simp only[ah,V5,t1,r1,rc,hq,ws,az,bL,VV,VX,VW];exact⟨z1,hp⟩
  ·rw[hq,if_pos rfl]at Y2;have nx:=xC hl hp hs j (i+1) (by omega) (by rw[Y2];simp);rw[Y2,V7,show ([xs[i].p]:List ByteArray).length=1 from rfl,tJ,oE]at nx;refine af.reach KA (k:=2) (n:=60) (o:=(ff [0] true++[(2,.cells [.v (.string xs[i].p)])]++ff [3,4] true++[(6,.cells [.v (.string xs[i].p)]),(7,.app (strs (bM p (xs.take i))) [.v (.string xs[i].p)])])) (ren:=[(0,0),(1,3)]) (eqs:=[0,1]) ?_ (by kernel_rfl) (fun i b h=>by rw[dj h];rfl) nx;rw[Vp];simp only[ah,V5,t1,r1,rc,hq,ws,az,bL,pM,iK,WL,VV,VX,VW];repeat' apply And.intro
   all_goals first|rfl|exact z1|exact hp|omega|exact We (by rw[iK];omega)|skip
theorem Ck (hl:xs.length<=1000)(hp:p.size<=1000000000)(hs:∀ e∈xs,e.p.size<=1000000000):∀ (j i:Nat),i+j=xs.length->bM p (xs.take i)=[]->
  af z8 (aD [b] [(.look (cI xs),false)]) w0 cs0 47 (Pm w0 (bM p xs)) (aA [b]) (SM.at (pc xs.length c p bZ i) 6 [cv (cI xs)])
 | 0,i,hj,hn=>by
  rw[We (by omega)]at hn
  refine cg KA gW (n:=60) (o:=ff [0] false) (v:=.slice none 0 0) ⟨?_⟩ fun w' hw=>⟨hw,.inl ⟨hn,rfl⟩⟩
  rw[Se]
  simp only[ah,VV,VX,VW]
  exact V2 (by omega)
 | j+1,i,hj,hn=>by
  have hi:i<xs.length:=by omega
  have Y2:=qF p hi
  have Zm:xs[i]?=some xs[i]:=V4 hi
  have t1:decide ((i:Int)<(xs.length:Int))=true:=V0 (by omega)
  have r1:=aJ hi
  have ws:=aU (k:=i) (by omega)
  have rc:=iP Zm
  have z1:=hs _ (WS hi)
  cases hq:dR xs[i].p p
  ·rw[hq,if_neg (by decide),W4]at Y2
   have nx:=Ck hl hp hs j (i+1) (by omega) (by rw[Y2];exact hn)
   refine af.reach KA (k:=2) (n:=60) (o:=(ff [0] true++[(2,.cells [.v (.string xs[i].p)])]++ff [3,4] false)) (ren:=[(0,0)]) (eqs:=[0]) ?_ (by kernel_rfl) (fun i b h=>by rw[dj h];rfl) nx
   rw[UR]
   simp only[ah,V5,t1,r1,rc,hq,ws,az,bZ,VV,VX,VW]
   exact⟨z1,hp⟩
  ·rw[hq,if_pos rfl,hn,Xm]at Y2
   have nx:=xC (w0:=w0) (cs0:=cs0) (b:=b) (c:=c) (p:=p) hl hp hs j (i+1) (by omega) (by rw[Y2];simp)
   rw[Y2,show ([xs[i].p]:List ByteArray).length=1 from rfl,oE]at nx
   refine af.reach KA (k:=2) (n:=60) (o:=(ff [0] true++[(2,.cells [.v (.string xs[i].p)])]++ff [3,4] true++[(6,.cells [.v (.string xs[i].p)])])) (ren:=[(0,0),(1,2)]) (eqs:=[0,1]) ?_ (by kernel_rfl) (fun i b h=>by rw[dj h];rfl) nx
   rw[TR]
   simp only[ah,V5,t1,r1,rc,hq,ws,az,VV,VX,VW]
   repeat' apply And.intro
   all_goals first|rfl|exact z1|exact hp|omega|skip
end
theorem pg {ν:aP}{M:Own}{w0 w:World}{sh:SH}(hr:HR ν M w0 sh w){A:SV}{xs:List ax}{q:Prop}{p:ByteArray}(hl:gO A sh=some (xs,q))(hq:q)(hp:p.size<=1000000000)(hs:∀ e∈xs,e.p.size<=1000000000){a:List Value}
  (ha:au ν [A,.v (.string p)] a):Calls Tryz.prog 47 a.toArray w (Pm w (bM p xs)):=by
 obtain⟨y1,ZK,rfl,q1,YH⟩:=ha.cons_inv;obtain⟨y2,as2,rfl,q2,Zx⟩:=YH.cons_inv;obtain rfl:=Zx.ay;obtain rfl:=VR.ae.1 q2;rcases ku hl hq with ⟨rfl,rfl⟩|⟨Yu,ZH,i,mk,rfl,hlk⟩
 ·obtain rfl:=VR.ae.1 q1;refine (bP (E:=z8) rfl rfl (args:=[.v (.slice none 0 0),.v (.string p)]) (a:=[.slice none 0 0,.string p]) (S0:=Hi p) (by kernel_rfl) (au.cons (VR.ae.2 rfl) (au.cons (VR.ae.2 rfl) au.nil)) fun cs0=>?_);refine cg KA aE (n:=60) (o:=VP) (v:=.slice none 0 0) ⟨?_⟩ fun w' hw=>⟨hw,.inl ⟨rfl,rfl⟩⟩;rw[Ru];simp only[ah,VW,VX]
 ·obtain⟨bb,YZ,hle,rfl⟩:=VR.aL.1 q1;refine im (E:=z8) rfl rfl hr hlk (az xs) (args':=fun c=>[.sl 0 0 xs.length (some c),.v (.string p)]) (S0:=fun c=>G0 (cI xs) xs.length c p) (fun b hb=>?_) (fun c=>by kernel_rfl) fun b cs0=>?_
  ·rw[YZ]at hb;cases hb;have Zb:xs.length<=bb.2:=hle;exact au.cons (VR.aL.2 ⟨bb,rfl,Zb,rfl⟩) (au.cons (VR.ae.2 rfl) au.nil)
  ·have nx:=Ck (w0:=w) (cs0:=cs0) (b:=b) (c:=b.2) (p:=p) (xs:=xs) ZH hp hs xs.length 0 (by omega) rfl;refine af.reach KA (k:=2) (n:=60) (o:=VP) (ren:=[(0,0)]) (eqs:=[0]) (F:=pc xs.length b.2 p bZ 0) (d:=6) (l:=[cv (cI xs)]) ?_ (by kernel_rfl) (fun i b h=>by rw[dj h];rfl) nx;rw[Ti];simp only[ah,az,bZ,VV,VX,VW]
def B4:H5:=fun args sh=>match args with
 | [A,.v (.string p)]=>match gO A sh with
  | some (xs,q)=>some ((bM p xs).map Value.string,(bM p xs).length,1,9,none,q/\bM p xs≠[]/\p.size<=1000000000/\∀ e∈xs,e.p.size<=1000000000)
  | _=>none
 | _=>none
def AQ:yC:=fun args sh=>match args with
 | [A,.v (.string p)]=>match gO A sh with
  | some (xs,q)=>some (.slice none 0 0,q/\bM p xs=[]/\p.size<=1000000000/\∀ e∈xs,e.p.size<=1000000000)
  | _=>none
 | _=>none
theorem Er {X:World->Prop}:bh Tryz.prog X (47,gq (fj B4) (de AQ)):=by
 refine bh.br (gJ ⟨_,Tryz.func47,by kernel_rfl,by kernel_rfl⟩ fun args sh ys n C elem ex p h hp ν M w0 w a hr hX ha=>?_) (dO ⟨_,Tryz.func47,by kernel_rfl,by kernel_rfl⟩ fun args sh v p h hp ν M w0 w a hr hX ha=>?_)
 ·dsimp only[B4]at h;split at h
  ·split at h
   ·rename_i xs q hl;cases h;refine (pg hr hl hp.1 hp.2.2.1 hp.2.2.2 ha).mono fun e w' ⟨hB,h⟩=>⟨hB,?_⟩;rcases h with ⟨h1,_⟩|⟨_,y,h2,h3⟩
    ·exact absurd h1 hp.2.1
    ·exact⟨y,h2,h3⟩
   ·cases h
  ·cases h
 ·dsimp only[AQ]at h;split at h
  ·split at h
   ·rename_i xs q hl;cases h;refine (pg hr hl hp.1 hp.2.2.1 hp.2.2.2 ha).mono fun e w' ⟨hB,h⟩=>⟨hB,?_⟩;rcases h with ⟨_,h2⟩|⟨h1,_⟩
    ·exact h2
    ·exact absurd hp.2.1 h1
   ·cases h
  ·cases h
def ni (x:SV):Option (Int × Option Addr × Nat × Nat):=match uv x with
 | some [.v (.int .i64 k),.v (.slice a l c)]=>some (k,a,l,c)
 | _=>none
theorem lI {ν:aP}{x:SV}{y:Value}{k:Int}{a:Option Addr}{l c:Nat}(h:ni x=some (k,a,l,c))(hv:VR ν x y):y=.agg #[.int .i64 k,.slice a l c]:=by
 unfold ni at h;split at h
 ·rename_i k' a' l' c' hx;cases h;unfold uv at hx;split at hx
  ·rename_i mm;cases hx;obtain⟨u,rfl,hu⟩:=VR.bx.1 hv;obtain rfl:=gi hu (au.lits ν [.int .i64 k,.slice a l c]);rfl
  ·rename_i cs;obtain rfl:=VR.ae.1 hv;have hx:=Option.some.inj hx;match cs,hx with
   | ⟨[c1,c2]⟩,hx=>
    simp at hx;obtain⟨h1,h2⟩:=hx;subst h1 h2;rfl
   | ⟨[]⟩,hx=>simp at hx
   | ⟨[_]⟩,hx=>simp at hx
   | ⟨_::_::_::_⟩,hx=>simp at hx
  ·cases hx
 ·cases h
def Gd:H5:=fun args sh=>match args with
 | [A,.v (.string p),L]=>match gO A sh,ni L with
  | some (xs,q),some (k,a,l,c)=>some (vI (ee xs ⟨p,k,a,l,c⟩),(ee xs ⟨p,k,a,l,c⟩).length,3,48,none,q/\k≠0/\p.size<=1000000000/\∀ e∈xs,e.p.size<=1000000000)
  | _,_=>none
 | _=>none
def PL:List (FuncId × Sum):=[(45,cq kQ),(46,cq jZ),(47,gq (fj B4) (de AQ)),(48,gq (fj mH) (de mO)),(49,cq xg),(50,de HQ),(51,fj Gd)]
def mZ:Env:={ EP [] [] with YT:=fun f=>PL.lookup f }
def gr (l:List SV)(n:Nat)(x:ax):SM:=(a6 mZ 17 [.sl 0 0 n none,.v (.string x.p),jM x] (bG 6 1 0 [C8 l])).getD dn
def kY (x:ax):SM:=(a6 mZ 17 [.v (.slice none 0 0),.v (.string x.p),jM x] (bG 6 0 0 [])).getD dn
theorem Tc (l m:List SV)(n k:Nat)(x:ax):eh mZ 17 300 (gr l n x) (ff [1] true++ff [0,2,3] false++VP) [(0,0)] (.tup [.sl 0 0 n none,.v (.int .i64 23)])=[0=0/\n=n/\nZ=none,vZ 23=vZ 23,(!aR x.1)=true,x.1.size.le 1000000000]:=by kernel_rfl
theorem st1 (l m:List SV)(n k:Nat)(x:ax):eh mZ 17 300 (gr l n x) (ff [3] true++ff [0,1,2,4,5] false++VP) [(0,0)] (.tup [.sl 0 0 n none,.v (.int .i64 (aS x.k x.l))])=[0=0/\n=n/\nZ=none,vZ (aS x.2 x.4)=vZ (aS x.2 x.4),(!aS x.2 x.4==0)=true,True,(!aR x.1)=false,x.1.size.le 1000000000]:=by kernel_rfl
theorem st2 (l m:List SV)(n k:Nat)(x:ax):eh mZ 17 300 (gr l n x) (ff [4,5,6,7,8,9,10,11] true++ff [0,1,2,3,12,13] false++VP) [(0,0)] (.tup [.sl 0 0 n none,.v (.int .i64 22)])=[0=0/\n=n/\nZ=none,vZ 22=vZ 22,decide ((↑(bM x.1 (ad l n)).length:Int)>0)=true,(!x.2==2)=true,(!x.2==2)=true,(!x.2==2)=true,(48=48/\bu l n (ad l n)/\ad l n≠[])/\bM x.1 (ad l n)≠[]/\x.1.size<=1000000000/\∀ (e:ax),e∈ad l n->e.p.size<=1000000000,(!x.2==2)=true,(!x.2==2)=true,(!x.2==2)=true,(!aS x.2 x.4==0)=false,True,(!aR x.1)=false,x.1.size.le 1000000000]:=by kernel_rfl
theorem Q3 (l m:List SV)(n k:Nat)(x:ax):bY mZ 17 300 (gr l n x) (ff [4,5,6,8,9,10,12,13] true++ff [0,1,2,3,7,11,14,15] false++VP) (.tup [.sl 2 0 k none,.v (.int .i64 0)]) 2 (.row m 48 (0,0) (some 3))=[0=0/\(ch x.1 (ad l n)).length=k/\nZ=none,vZ 0=vZ 0,List.map SV.v (vI (ch x.1 (ad l n)))=m,m.all ab=true,bu l n (ad l n)/\ch x.1 (ad l n)≠[],(x.2==0)=true,false=false,(!x.2==2)=true,(!x.2==2)=true,(!x.2==2)=true,(48=48/\bu l n (ad l n)/\ad l n≠[])/\bM x.1 (ad l n)=[]/\x.1.size<=1000000000/\∀ (e:ax),e∈ad l n->e.p.size<=1000000000,(!x.2==2)=true,(!x.2==2)=true,(!x.2==2)=true,(!aS x.2 x.4==0)=false,True,(!aR x.1)=false,x.1.size.le 1000000000]:=by kernel_rfl
theorem qS (l m:List SV)(n k:Nat)(x:ax):eh mZ 17 300 (gr l n x) (ff [4,5,6,8,9,10,12] true++ff [0,1,2,3,7,11,13,14] false++VP) [(0,0)] (.v (.tuple #[.slice none 0 0,.int .i64 0]))=[Value.tuple { toList:=[VT none 0 0,vZ 0]:Array Value }=Value.tuple { toList:=[VT none 0 0,vZ 0]:Array Value },bu l n (ad l n)/\ch x.1 (ad l n)=[],(x.2==0)=true,false=false,(!x.2==2)=true,(!x.2==2)=true,(!x.2==2)=true,(48=48/\bu l n (ad l n)/\ad l n≠[])/\bM x.1 (ad l n)=[]/\x.1.size<=1000000000/\∀ (e:ax),e∈ad l n->e.p.size<=1000000000,(!x.2==2)=true,(!x.2==2)=true,(!x.2==2)=true,(!aS x.2 x.4==0)=false,True,(!aR x.1)=false,x.1.size.le 1000000000]:=by kernel_rfl
theorem Qt (l m:List SV)(n k:Nat)(x:ax):eh mZ 17 300 (gr l n x) (ff [4,5,6,8,9,10,14,15,16,18,19,20,21] true++ff [0,1,2,3,7,11,12,13,17,22,23] false++VP) [(0,0)] (.tup [.sl 0 0 n none,.v (.int .i64 22)])=[0=0/\n=n/\nZ=none,vZ 22=vZ 22,(!(aO (aj x.p) (ad l n)).2==2)=true,(!(aj x.1).toList==VO.toList)=true,(!(aj x.1).toList==VO.toList)=true,(!(aj x.1).toList==VO.toList)=true,48=48/\bu l n (ad l n)/\ad l n≠[],(!(aj x.1).toList==VO.toList)=true,(!(aj x.1).toList==VO.toList)=true,(!(aj x.1).toList==VO.toList)=true,x.1.size.le 1000000000,(x.2==0)=false,false=false,(!x.2==2)=true,(!x.2==2)=true,(!x.2==2)=true,(48=48/\bu l n (ad l n)/\ad l n≠[])/\bM x.1 (ad l n)=[]/\x.1.size<=1000000000/\∀ (e:ax),e∈ad l n->e.p.size<=1000000000,(!x.2==2)=true,(!x.2==2)=true,(!x.2==2)=true,(!aS x.2 x.4==0)=false,True,(!aR x.1)=false,x.1.size.le 1000000000]:=by kernel_rfl
theorem NF (l m:List SV)(n k:Nat)(x:ax):eh mZ 17 300 (gr l n x) (ff [4,5,6,8,9,10,22,23,24,25,26] true++ff [0,1,2,3,7,11,12,13,14,15,16,17,18,19,20,21,27,28] false++VP) [(0,0)] (.tup [.sl 0 0 n none,.v (.int .i64 24)])=[0=0/\n=n/\nZ=none,vZ 24=vZ 24,decide ((↑n:Int)≥128)=true,((aO x.p (ad l n)).2==0)=true,((aO x.p (ad l n)).2==0)=true,((aO x.p (ad l n)).2==0)=true,((aO x.p (ad l n)).2==0)=true,48=48/\bu l n (ad l n)/\ad l n≠[],false=false,(!(aj x.1).toList==VO.toList)=false,(!(aj x.1).toList==VO.toList)=false,(!(aj x.1).toList==VO.toList)=false,(!(aj x.1).toList==VO.toList)=false,(!(aj x.1).toList==VO.toList)=false,(!(aj x.1).toList==VO.toList)=false,x.1.size.le 1000000000,(x.2==0)=false,false=false,(!x.2==2)=true,(!x.2==2)=true,(!x.2==2)=true,(48=48/\bu l n (ad l n)/\ad l n≠[])/\bM x.1 (ad l n)=[]/\x.1.size<=1000000000/\∀ (e:ax),e∈ad l n->e.p.size<=1000000000,(!x.2==2)=true,(!x.2==2)=true,(!x.2==2)=true,(!aS x.2 x.4==0)=false,True,(!aR x.1)=false,x.1.size.le 1000000000]:=by kernel_rfl
theorem Lj (l m:List SV)(n k:Nat)(x:ax):bY mZ 17 300 (gr l n x) (ff [4,5,6,8,9,10,22,23,24,25] true++ff [0,1,2,3,7,11,12,13,14,15,16,17,18,19,20,21,26,27,28,29] false++VP) (.tup [.sl 2 0 k none,.v (.int .i64 0)]) 2 (.row m 48 (0,0) (some 3))=[0=0/\(ee (ad l n) x).length=k/\nZ=none,vZ 0=vZ 0,List.map SV.v (vI (ee (ad l n) x))=m,m.all ab=true,(48=48/\bu l n (ad l n)/\ad l n≠[])/\x.2≠0/\x.1.size<=1000000000/\∀ (e:ax),e∈ad l n->e.p.size<=1000000000,decide ((↑n:Int)≥128)=false,((aO x.p (ad l n)).2==0)=true,((aO x.p (ad l n)).2==0)=true,((aO x.p (ad l n)).2==0)=true,((aO x.p (ad l n)).2==0)=true,48=48/\bu l n (ad l n)/\ad l n≠[],false=false,(!(aj x.1).toList==VO.toList)=false,(!(aj x.1).toList==VO.toList)=false,(!(aj x.1).toList==VO.toList)=false,(!(aj x.1).toList==VO.toList)=false,(!(aj x.1).toList==VO.toList)=false,(!(aj x.1).toList==VO.toList)=false,x.1.size.le 1000000000,(x.2==0)=false,false=false,(!x.2==2)=true,(!x.2==2)=true,(!x.2==2)=true,(48=48/\bu l n (ad l n)/\ad l n≠[])/\bM x.1 (ad l n)=[]/\x.1.size<=1000000000/\∀ (e:ax),e∈ad l n->e.p.size<=1000000000,(!x.2==2)=true,(!x.2==2)=true,(!x.2==2)=true,(!aS x.2 x.4==0)=false,True,(!aR x.1)=false,x.1.size.le 1000000000]:=by kernel_rfl
theorem K4 (l m:List SV)(n k:Nat)(x:ax):bY mZ 17 300 (gr l n x) (ff [4,5,6,8,9,10] true++ff [0,1,2,3,7,11,12,13,14,15,16,17,18,19,20,21,22,23,24,25,26,27,28,29] false++VP) (.tup [.sl 2 0 k none,.v (.int .i64 0)]) 2 (.row m 48 (0,0) (some 3))=[0=0/\(ee (ad l n) x).length=k/\nZ=none,vZ 0=vZ 0,List.map SV.v (vI (ee (ad l n) x))=m,m.all ab=true,(48=48/\bu l n (ad l n)/\ad l n≠[])/\x.2≠0/\x.1.size<=1000000000/\∀ (e:ax),e∈ad l n->e.p.size<=1000000000,false=false,((aO x.p (ad l n)).2==0)=false,((aO x.p (ad l n)).2==0)=false,((aO x.p (ad l n)).2==0)=false,((aO x.p (ad l n)).2==0)=false,48=48/\bu l n (ad l n)/\ad l n≠[],false=false,(!(aj x.1).toList==VO.toList)=false,(!(aj x.1).toList==VO.toList)=false,(!(aj x.1).toList==VO.toList)=false,(!(aj x.1).toList==VO.toList)=false,(!(aj x.1).toList==VO.toList)=false,(!(aj x.1).toList==VO.toList)=false,x.1.size.le 1000000000,(x.2==0)=false,false=false,(!x.2==2)=true,(!x.2==2)=true,(!x.2==2)=true,(48=48/\bu l n (ad l n)/\ad l n≠[])/\bM x.1 (ad l n)=[]/\x.1.size<=1000000000/\∀ (e:ax),e∈ad l n->e.p.size<=1000000000,(!x.2==2)=true,(!x.2==2)=true,(!x.2==2)=true,(!aS x.2 x.4==0)=false,True,(!aR x.1)=false,x.1.size.le 1000000000]:=by kernel_rfl
theorem Ny (l m:List SV)(n k:Nat)(x:ax):eh mZ 17 300 (gr l n x) (ff [4,5,6,8,9,10,14,15,16,18,19,20,23,24,25,26,27] true++ff [0,1,2,3,7,11,12,13,17,21,22,28,29] false++VP) [(0,0)] (.tup [.sl 0 0 n none,.v (.int .i64 24)])=[0=0/\n=n/\nZ=none,vZ 24=vZ 24,decide ((↑n:Int)≥128)=true,((aO x.p (ad l n)).2==0)=true,((aO x.p (ad l n)).2==0)=true,((aO x.p (ad l n)).2==0)=true,((aO x.p (ad l n)).2==0)=true,48=48/\bu l n (ad l n)/\ad l n≠[],(!(aO (aj x.p) (ad l n)).2==2)=false,(!(aj x.1).toList==VO.toList)=true,(!(aj x.1).toList==VO.toList)=true,(!(aj x.1).toList==VO.toList)=true,48=48/\bu l n (ad l n)/\ad l n≠[],(!(aj x.1).toList==VO.toList)=true,(!(aj x.1).toList==VO.toList)=true,(!(aj x.1).toList==VO.toList)=true,x.1.size.le 1000000000,(x.2==0)=false,false=false,(!x.2==2)=true,(!x.2==2)=true,(!x.2==2)=true,(48=48/\bu l n (ad l n)/\ad l n≠[])/\bM x.1 (ad l n)=[]/\x.1.size<=1000000000/\∀ (e:ax),e∈ad l n->e.p.size<=1000000000,(!x.2==2)=true,(!x.2==2)=true,(!x.2==2)=true,(!aS x.2 x.4==0)=false,True,(!aR x.1)=false,x.1.size.le 1000000000]:=by kernel_rfl
theorem LD (l m:List SV)(n k:Nat)(x:ax):bY mZ 17 300 (gr l n x) (ff [4,5,6,8,9,10,14,15,16,18,19,20,23,24,25,26] true++ff [0,1,2,3,7,11,12,13,17,21,22,27,28,29,30] false++VP) (.tup [.sl 2 0 k none,.v (.int .i64 0)]) 2 (.row m 48 (0,0) (some 3))=[0=0/\(ee (ad l n) x).length=k/\nZ=none,vZ 0=vZ 0,List.map SV.v (vI (ee (ad l n) x))=m,m.all ab=true,(48=48/\bu l n (ad l n)/\ad l n≠[])/\x.2≠0/\x.1.size<=1000000000/\∀ (e:ax),e∈ad l n->e.p.size<=1000000000,decide ((↑n:Int)≥128)=false,((aO x.p (ad l n)).2==0)=true,((aO x.p (ad l n)).2==0)=true,((aO x.p (ad l n)).2==0)=true,((aO x.p (ad l n)).2==0)=true,48=48/\bu l n (ad l n)/\ad l n≠[],(!(aO (aj x.p) (ad l n)).2==2)=false,(!(aj x.1).toList==VO.toList)=true,(!(aj x.1).toList==VO.toList)=true,(!(aj x.1).toList==VO.toList)=true,48=48/\bu l n (ad l n)/\ad l n≠[],(!(aj x.1).toList==VO.toList)=true,(!(aj x.1).toList==VO.toList)=true,(!(aj x.1).toList==VO.toList)=true,x.1.size.le 1000000000,(x.2==0)=false,false=false,(!x.2==2)=true,(!x.2==2)=true,(!x.2==2)=true,(48=48/\bu l n (ad l n)/\ad l n≠[])/\bM x.1 (ad l n)=[]/\x.1.size<=1000000000/\∀ (e:ax),e∈ad l n->e.p.size<=1000000000,(!x.2==2)=true,(!x.2==2)=true,(!x.2==2)=true,(!aS x.2 x.4==0)=false,True,(!aR x.1)=false,x.1.size.le 1000000000]:=by kernel_rfl
theorem MF (l m:List SV)(n k:Nat)(x:ax):bY mZ 17 300 (gr l n x) (ff [4,5,6,8,9,10,14,15,16,18,19,20] true++ff [0,1,2,3,7,11,12,13,17,21,22,23,24,25,26,27,28,29,30] false++VP) (.tup [.sl 2 0 k none,.v (.int .i64 0)]) 2 (.row m 48 (0,0) (some 3))=[0=0/\(ee (ad l n) x).length=k/\nZ=none,vZ 0=vZ 0,List.map SV.v (vI (ee (ad l n) x))=m,m.all ab=true,(48=48/\bu l n (ad l n)/\ad l n≠[])/\x.2≠0/\x.1.size<=1000000000/\∀ (e:ax),e∈ad l n->e.p.size<=1000000000,false=false,((aO x.p (ad l n)).2==0)=false,((aO x.p (ad l n)).2==0)=false,((aO x.p (ad l n)).2==0)=false,((aO x.p (ad l n)).2==0)=false,48=48/\bu l n (ad l n)/\ad l n≠[],(!(aO (aj x.p) (ad l n)).2==2)=false,(!(aj x.1).toList==VO.toList)=true,(!(aj x.1).toList==VO.toList)=true,(!(aj x.1).toList==VO.toList)=true,48=48/\bu l n (ad l n)/\ad l n≠[],(!(aj x.1).toList==VO.toList)=true,(!(aj x.1).toList==VO.toList)=true,(!(aj x.1).toList==VO.toList)=true,x.1.size.le 1000000000,(x.2==0)=false,false=false,(!x.2==2)=true,(!x.2==2)=true,(!x.2==2)=true,(48=48/\bu l n (ad l n)/\ad l n≠[])/\bM x.1 (ad l n)=[]/\x.1.size<=1000000000/\∀ (e:ax),e∈ad l n->e.p.size<=1000000000,(!x.2==2)=true,(!x.2==2)=true,(!x.2==2)=true,(!aS x.2 x.4==0)=false,True,(!aR x.1)=false,x.1.size.le 1000000000]:=by kernel_rfl
theorem Qf (l m:List SV)(n k:Nat)(x:ax):eh mZ 17 300 (gr l n x) (ff [13,14,15,17,18,19,20] true++ff [0,1,2,3,4,5,6,7,8,9,10,11,12,16,21,22] false++VP) [(0,0)] (.tup [.sl 0 0 n none,.v (.int .i64 22)])=[0=0/\n=n/\nZ=none,vZ 22=vZ 22,(!(aO (aj x.p) (ad l n)).2==2)=true,(!(aj x.1).toList==VO.toList)=true,(!(aj x.1).toList==VO.toList)=true,(!(aj x.1).toList==VO.toList)=true,48=48/\bu l n (ad l n)/\ad l n≠[],(!(aj x.1).toList==VO.toList)=true,(!(aj x.1).toList==VO.toList)=true,(!(aj x.1).toList==VO.toList)=true,x.1.size.le 1000000000,(x.2==0)=false,false=false,(!x.2==2)=false,(!x.2==2)=false,(!x.2==2)=false,(!x.2==2)=false,(!x.2==2)=false,(!x.2==2)=false,(!aS x.2 x.4==0)=false,True,(!aR x.1)=false,x.1.size.le 1000000000]:=by kernel_rfl
theorem NI (l m:List SV)(n k:Nat)(x:ax):eh mZ 17 300 (gr l n x) (ff [21,22,23,24,25] true++ff [0,1,2,3,4,5,6,7,8,9,10,11,12,13,14,15,16,17,18,19,20,26,27] false++VP) [(0,0)] (.tup [.sl 0 0 n none,.v (.int .i64 24)])=[0=0/\n=n/\nZ=none,vZ 24=vZ 24,decide ((↑n:Int)≥128)=true,((aO x.p (ad l n)).2==0)=true,((aO x.p (ad l n)).2==0)=true,((aO x.p (ad l n)).2==0)=true,((aO x.p (ad l n)).2==0)=true,48=48/\bu l n (ad l n)/\ad l n≠[],false=false,(!(aj x.1).toList==VO.toList)=false,(!(aj x.1).toList==VO.toList)=false,(!(aj x.1).toList==VO.toList)=false,(!(aj x.1).toList==VO.toList)=false,(!(aj x.1).toList==VO.toList)=false,(!(aj x.1).toList==VO.toList)=false,x.1.size.le 1000000000,(x.2==0)=false,false=false,(!x.2==2)=false,(!x.2==2)=false,(!x.2==2)=false,(!x.2==2)=false,(!x.2==2)=false,(!x.2==2)=false,(!aS x.2 x.4==0)=false,True,(!aR x.1)=false,x.1.size.le 1000000000]:=by kernel_rfl
theorem MN (l m:List SV)(n k:Nat)(x:ax):bY mZ 17 300 (gr l n x) (ff [21,22,23,24] true++ff [0,1,2,3,4,5,6,7,8,9,10,11,12,13,14,15,16,17,18,19,20,25,26,27,28] false++VP) (.tup [.sl 2 0 k none,.v (.int .i64 0)]) 2 (.row m 48 (0,0) (some 3))=[0=0/\(ee (ad l n) x).length=k/\nZ=none,vZ 0=vZ 0,List.map SV.v (vI (ee (ad l n) x))=m,m.all ab=true,(48=48/\bu l n (ad l n)/\ad l n≠[])/\x.2≠0/\x.1.size<=1000000000/\∀ (e:ax),e∈ad l n->e.p.size<=1000000000,decide ((↑n:Int)≥128)=false,((aO x.p (ad l n)).2==0)=true,((aO x.p (ad l n)).2==0)=true,((aO x.p (ad l n)).2==0)=true,((aO x.p (ad l n)).2==0)=true,48=48/\bu l n (ad l n)/\ad l n≠[],false=false,(!(aj x.1).toList==VO.toList)=false,(!(aj x.1).toList==VO.toList)=false,(!(aj x.1).toList==VO.toList)=false,(!(aj x.1).toList==VO.toList)=false,(!(aj x.1).toList==VO.toList)=false,(!(aj x.1).toList==VO.toList)=false,x.1.size.le 1000000000,(x.2==0)=false,false=false,(!x.2==2)=false,(!x.2==2)=false,(!x.2==2)=false,(!x.2==2)=false,(!x.2==2)=false,(!x.2==2)=false,(!aS x.2 x.4==0)=false,True,(!aR x.1)=false,x.1.size.le 1000000000]:=by kernel_rfl
theorem MO (l m:List SV)(n k:Nat)(x:ax):bY mZ 17 300 (gr l n x) (ff [0,1,2,3,4,5,6,7,8,9,10,11,12,13,14,15,16,17,18,19,20,21,22,23,24,25,26,27,28] false++VP) (.tup [.sl 2 0 k none,.v (.int .i64 0)]) 2 (.row m 48 (0,0) (some 3))=[0=0/\(ee (ad l n) x).length=k/\nZ=none,vZ 0=vZ 0,List.map SV.v (vI (ee (ad l n) x))=m,m.all ab=true,(48=48/\bu l n (ad l n)/\ad l n≠[])/\x.2≠0/\x.1.size<=1000000000/\∀ (e:ax),e∈ad l n->e.p.size<=1000000000,false=false,((aO x.p (ad l n)).2==0)=false,((aO x.p (ad l n)).2==0)=false,((aO x.p (ad l n)).2==0)=false,((aO x.p (ad l n)).2==0)=false,48=48/\bu l n (ad l n)/\ad l n≠[],false=false,(!(aj x.1).toList==VO.toList)=false,(!(aj x.1).toList==VO.toList)=false,(!(aj x.1).toList==VO.toList)=false,(!(aj x.1).toList==VO.toList)=false,(!(aj x.1).toList==VO.toList)=false,(!(aj x.1).toList==VO.toList)=false,x.1.size.le 1000000000,(x.2==0)=false,false=false,(!x.2==2)=false,(!x.2==2)=false,(!x.2==2)=false,(!x.2==2)=false,(!x.2==2)=false,(!x.2==2)=false,(!aS x.2 x.4==0)=false,True,(!aR x.1)=false,x.1.size.le 1000000000]:=by kernel_rfl
theorem N4 (l m:List SV)(n k:Nat)(x:ax):eh mZ 17 300 (gr l n x) (ff [13,14,15,17,18,19,22,23,24,25,26] true++ff [0,1,2,3,4,5,6,7,8,9,10,11,12,16,20,21,27,28] false++VP) [(0,0)] (.tup [.sl 0 0 n none,.v (.int .i64 24)])=[0=0/\n=n/\nZ=none,vZ 24=vZ 24,decide ((↑n:Int)≥128)=true,((aO x.p (ad l n)).2==0)=true,((aO x.p (ad l n)).2==0)=true,((aO x.p (ad l n)).2==0)=true,((aO x.p (ad l n)).2==0)=true,48=48/\bu l n (ad l n)/\ad l n≠[],(!(aO (aj x.p) (ad l n)).2==2)=false,(!(aj x.1).toList==VO.toList)=true,(!(aj x.1).toList==VO.toList)=true,(!(aj x.1).toList==VO.toList)=true,48=48/\bu l n (ad l n)/\ad l n≠[],(!(aj x.1).toList==VO.toList)=true,(!(aj x.1).toList==VO.toList)=true,(!(aj x.1).toList==VO.toList)=true,x.1.size.le 1000000000,(x.2==0)=false,false=false,(!x.2==2)=false,(!x.2==2)=false,(!x.2==2)=false,(!x.2==2)=false,(!x.2==2)=false,(!x.2==2)=false,(!aS x.2 x.4==0)=false,True,(!aR x.1)=false,x.1.size.le 1000000000]:=by kernel_rfl
theorem Mb (l m:List SV)(n k:Nat)(x:ax):bY mZ 17 300 (gr l n x) (ff [13,14,15,17,18,19,22,23,24,25] true++ff [0,1,2,3,4,5,6,7,8,9,10,11,12,16,20,21,26,27,28,29] false++VP) (.tup [.sl 2 0 k none,.v (.int .i64 0)]) 2 (.row m 48 (0,0) (some 3))=[0=0/\(ee (ad l n) x).length=k/\nZ=none,vZ 0=vZ 0,List.map SV.v (vI (ee (ad l n) x))=m,m.all ab=true,(48=48/\bu l n (ad l n)/\ad l n≠[])/\x.2≠0/\x.1.size<=1000000000/\∀ (e:ax),e∈ad l n->e.p.size<=1000000000,decide ((↑n:Int)≥128)=false,((aO x.p (ad l n)).2==0)=true,((aO x.p (ad l n)).2==0)=true,((aO x.p (ad l n)).2==0)=true,((aO x.p (ad l n)).2==0)=true,48=48/\bu l n (ad l n)/\ad l n≠[],(!(aO (aj x.p) (ad l n)).2==2)=false,(!(aj x.1).toList==VO.toList)=true,(!(aj x.1).toList==VO.toList)=true,(!(aj x.1).toList==VO.toList)=true,48=48/\bu l n (ad l n)/\ad l n≠[],(!(aj x.1).toList==VO.toList)=true,(!(aj x.1).toList==VO.toList)=true,(!(aj x.1).toList==VO.toList)=true,x.1.size.le 1000000000,(x.2==0)=false,false=false,(!x.2==2)=false,(!x.2==2)=false,(!x.2==2)=false,(!x.2==2)=false,(!x.2==2)=false,(!x.2==2)=false,(!aS x.2 x.4==0)=false,True,(!aR x.1)=false,x.1.size.le 1000000000]:=by kernel_rfl
theorem Mf (l m:List SV)(n k:Nat)(x:ax):bY mZ 17 300 (gr l n x) (ff [13,14,15,17,18,19] true++ff [0,1,2,3,4,5,6,7,8,9,10,11,12,16,20,21,22,23,24,25,26,27,28,29] false++VP) (.tup [.sl 2 0 k none,.v (.int .i64 0)]) 2 (.row m 48 (0,0) (some 3))=[0=0/\(ee (ad l n) x).length=k/\nZ=none,vZ 0=vZ 0,List.map SV.v (vI (ee (ad l n) x))=m,m.all ab=true,(48=48/\bu l n (ad l n)/\ad l n≠[])/\x.2≠0/\x.1.size<=1000000000/\∀ (e:ax),e∈ad l n->e.p.size<=1000000000,false=false,((aO x.p (ad l n)).2==0)=false,((aO x.p (ad l n)).2==0)=false,((aO x.p (ad l n)).2==0)=false,((aO x.p (ad l n)).2==0)=false,48=48/\bu l n (ad l n)/\ad l n≠[],(!(aO (aj x.p) (ad l n)).2==2)=false,(!(aj x.1).toList==VO.toList)=true,(!(aj x.1).toList==VO.toList)=true,(!(aj x.1).toList==VO.toList)=true,48=48/\bu l n (ad l n)/\ad l n≠[],(!(aj x.1).toList==VO.toList)=true,(!(aj x.1).toList==VO.toList)=true,(!(aj x.1).toList==VO.toList)=true,x.1.size.le 1000000000,(x.2==0)=false,false=false,(!x.2==2)=false,(!x.2==2)=false,(!x.2==2)=false,(!x.2==2)=false,(!x.2==2)=false,(!x.2==2)=false,(!aS x.2 x.4==0)=false,True,(!aR x.1)=false,x.1.size.le 1000000000]:=by kernel_rfl
theorem Sy (m:List SV)(k:Nat)(x:ax):eh mZ 17 300 (kY x) (ff [1] true++ff [0,2] false++VP) [] (.v (.tuple #[.slice none 0 0,.int .i64 23]))=[Value.tuple { toList:=[VT none 0 0,vZ 23]:Array Value }=Value.tuple { toList:=[VT none 0 0,vZ 23]:Array Value },(!aR x.1)=true,x.1.size.le 1000000000]:=by kernel_rfl
theorem T5 (m:List SV)(k:Nat)(x:ax):eh mZ 17 300 (kY x) (ff [3] true++ff [0,1,2,4] false++VP) [] (.v (.tuple #[.slice none 0 0,.int .i64 (aS x.k x.l)]))=[Value.tuple { toList:=[VT none 0 0,vZ (aS x.2 x.4)]:Array Value }=Value.tuple { toList:=[VT none 0 0,vZ (aS x.2 x.4)]:Array Value },(!aS x.2 x.4==0)=true,True,(!aR x.1)=false,x.1.size.le 1000000000]:=by kernel_rfl
theorem UQ (m:List SV)(k:Nat)(x:ax):eh mZ 17 300 (kY x) (ff [4,5,6,8,9,10,12] true++ff [0,1,2,3,7,11,13,14] false++VP) [] (.v (.tuple #[.slice none 0 0,.int .i64 0]))=[Value.tuple { toList:=[VT none 0 0,vZ 0]:Array Value }=Value.tuple { toList:=[VT none 0 0,vZ 0]:Array Value },VT none 0 0=VT none 0 0,(x.2==0)=true,false=false,(!x.2==2)=true,(!x.2==2)=true,(!x.2==2)=true,True/\bM x.1 []=[]/\x.1.size<=1000000000/\∀ (e:ax),e∈[]->e.p.size<=1000000000,(!x.2==2)=true,(!x.2==2)=true,(!x.2==2)=true,(!aS x.2 x.4==0)=false,True,(!aR x.1)=false,x.1.size.le 1000000000]:=by kernel_rfl
theorem QF (m:List SV)(k:Nat)(x:ax):eh mZ 17 300 (kY x) (ff [4,5,6,8,9,10,14,15,16,18,19,20,21] true++ff [0,1,2,3,7,11,12,13,17,22] false++VP) [] (.v (.tuple #[.slice none 0 0,.int .i64 22]))=[Value.tuple { toList:=[VT none 0 0,vZ 22]:Array Value }=Value.tuple { toList:=[VT none 0 0,vZ 22]:Array Value },(!(aO (aj x.p) []).2==2)=true,(!(aj x.1).toList==VO.toList)=true,(!(aj x.1).toList==VO.toList)=true,(!(aj x.1).toList==VO.toList)=true,True,(!(aj x.1).toList==VO.toList)=true,(!(aj x.1).toList==VO.toList)=true,(!(aj x.1).toList==VO.toList)=true,x.1.size.le 1000000000,(x.2==0)=false,false=false,(!x.2==2)=true,(!x.2==2)=true,(!x.2==2)=true,True/\bM x.1 []=[]/\x.1.size<=1000000000/\∀ (e:ax),e∈[]->e.p.size<=1000000000,(!x.2==2)=true,(!x.2==2)=true,(!x.2==2)=true,(!aS x.2 x.4==0)=false,True,(!aR x.1)=false,x.1.size.le 1000000000]:=by kernel_rfl
theorem O9 (m:List SV)(k:Nat)(x:ax):bY mZ 17 300 (kY x) (ff [4,5,6,8,9,10,22,23,24,25] true++ff [0,1,2,3,7,11,12,13,14,15,16,17,18,19,20,21,26,27,28] false++VP) (.tup [.sl 1 0 k none,.v (.int .i64 0)]) 1 (.row m 48 (0,0) (some 3))=[0=0/\(ee [] x).length=k/\nZ=none,vZ 0=vZ 0,List.map SV.v (vI (ee [] x))=m,m.all ab=true,True/\x.2≠0/\x.1.size<=1000000000/\∀ (e:ax),e∈[]->e.p.size<=1000000000,false=false,((aO x.p []).2==0)=true,((aO x.p []).2==0)=true,((aO x.p []).2==0)=true,((aO x.p []).2==0)=true,True,false=false,(!(aj x.1).toList==VO.toList)=false,(!(aj x.1).toList==VO.toList)=false,(!(aj x.1).toList==VO.toList)=false,(!(aj x.1).toList==VO.toList)=false,(!(aj x.1).toList==VO.toList)=false,(!(aj x.1).toList==VO.toList)=false,x.1.size.le 1000000000,(x.2==0)=false,false=false,(!x.2==2)=true,(!x.2==2)=true,(!x.2==2)=true,True/\bM x.1 []=[]/\x.1.size<=1000000000/\∀ (e:ax),e∈[]->e.p.size<=1000000000,(!x.2==2)=true,(!x.2==2)=true,(!x.2==2)=true,(!aS x.2 x.4==0)=false,True,(!aR x.1)=false,x.1.size.le 1000000000]:=by kernel_rfl
theorem PM (m:List SV)(k:Nat)(x:ax):eh mZ 17 300 (kY x) (ff [13,14,15,17,18,19,20] true++ff [0,1,2,3,4,5,6,7,8,9,10,11,12,16,21] false++VP) [] (.v (.tuple #[.slice none 0 0,.int .i64 22]))=[Value.tuple { toList:=[VT none 0 0,vZ 22]:Array Value }=Value.tuple { toList:=[VT none 0 0,vZ 22]:Array Value },(!(aO (aj x.p) []).2==2)=true,(!(aj x.1).toList==VO.toList)=true,(!(aj x.1).toList==VO.toList)=true,(!(aj x.1).toList==VO.toList)=true,True,(!(aj x.1).toList==VO.toList)=true,(!(aj x.1).toList==VO.toList)=true,(!(aj x.1).toList==VO.toList)=true,x.1.size.le 1000000000,(x.2==0)=false,false=false,(!x.2==2)=false,(!x.2==2)=false,(!x.2==2)=false,(!x.2==2)=false,(!x.2==2)=false,(!x.2==2)=false,(!aS x.2 x.4==0)=false,True,(!aR x.1)=false,x.1.size.le 1000000000]:=by kernel_rfl
theorem PN (m:List SV)(k:Nat)(x:ax):bY mZ 17 300 (kY x) (ff [21,22,23,24] true++ff [0,1,2,3,4,5,6,7,8,9,10,11,12,13,14,15,16,17,18,19,20,25,26,27] false++VP) (.tup [.sl 1 0 k none,.v (.int .i64 0)]) 1 (.row m 48 (0,0) (some 3))=[0=0/\(ee [] x).length=k/\nZ=none,vZ 0=vZ 0,List.map SV.v (vI (ee [] x))=m,m.all ab=true,True/\x.2≠0/\x.1.size<=1000000000/\∀ (e:ax),e∈[]->e.p.size<=1000000000,false=false,((aO x.p []).2==0)=true,((aO x.p []).2==0)=true,((aO x.p []).2==0)=true,((aO x.p []).2==0)=true,True,false=false,(!(aj x.1).toList==VO.toList)=false,(!(aj x.1).toList==VO.toList)=false,(!(aj x.1).toList==VO.toList)=false,(!(aj x.1).toList==VO.toList)=false,(!(aj x.1).toList==VO.toList)=false,(!(aj x.1).toList==VO.toList)=false,x.1.size.le 1000000000,(x.2==0)=false,false=false,(!x.2==2)=false,(!x.2==2)=false,(!x.2==2)=false,(!x.2==2)=false,(!x.2==2)=false,(!x.2==2)=false,(!aS x.2 x.4==0)=false,True,(!aR x.1)=false,x.1.size.le 1000000000]:=by kernel_rfl
theorem J7 {X:World->Prop}:bh Tryz.prog X (51,fj Gd):=by
 refine gJ ⟨_,Tryz.func51,by kernel_rfl,by kernel_rfl⟩ fun args sh ys n C elem ex p h hp ν M w0 w a hr hX ha=>?_;dsimp only[Gd]at h;split at h
 ·rename_i A p L;split at h
  ·rename_i xs q k a1 l1 c1 hl hd;cases h;obtain⟨hq,hk,h1,h2⟩:=hp;obtain⟨y1,ZK,rfl,q1,YH⟩:=ha.cons_inv;obtain⟨y2,as2,rfl,q2,Zx⟩:=YH.cons_inv;obtain⟨y3,as3,rfl,q3,ha4⟩:=Zx.cons_inv;obtain rfl:=ha4.ay;obtain rfl:=VR.ae.1 q2;obtain rfl:=lI hd q3;rcases ku hl hq with ⟨rfl,rfl⟩|⟨Yu,ZH,i,mk,rfl,hlk⟩
   ·obtain rfl:=VR.ae.1 q1;exact Hk (w:=w) (x:=⟨p,k,a1,l1,c1⟩) hk
   ·obtain⟨bb,YZ,hle,rfl⟩:=VR.aL.1 q1;obtain⟨_,_,b,ob,hb,ho,YA,_⟩:=hr.look hlk;rw[YZ]at hb;cases hb;obtain⟨zs,rest,rfl,hz,r,b',Yy,YX⟩:=YA;rw[YZ]at Yy;cases Yy;obtain rfl:=tu hz;exact GW (w:=w) (x:=⟨p,k,a1,l1,c1⟩) hk ho YX hle ZH h1 h2
  ·cases h
 ·cases h
theorem qt {M:Own}{w0:World}:aK mZ M w0:=
 aK.uG (Checked.mixed Tryz.checked) (by kernel_rfl) (fh.of iJ rfl dK) (dy.list (X:=fun _=>True) (l:=PL) rfl (fun r h=>by
  simp only[PL,V8,Ww,Xc]at h
  rcases h with rfl|rfl|rfl|rfl|rfl|rfl|rfl
  ·exact bh.pure (r:=(45,kQ)) oJ
  ·exact bh.pure (r:=(46,jZ)) yR
  ·exact Er
  ·exact ou
  ·exact bh.pure (r:=(49,xg)) BR
  ·exact Iy
  ·exact J7) fun ν s w hr _=>trivial) (fun f g h=>by cases h)
def Da (x:ax):Bool:=!(aj x.p).toList==(⟨#[]⟩:ByteArray).toList
def aI (xs:List ax)(x:ax):List ax × Int:=
 if aR x.p=false then (xs,23)
 else if aS x.k x.l≠0 then (xs,aS x.k x.l)
 else if x.k≠2/\bM x.p xs≠[] then (xs,22)
 else if x.k=0 then (ch x.p xs,0)
 else if Da x=true/\(aO (aj x.p) xs).k≠2 then (xs,22)
 else if (aO x.p xs).k=0/\128<=xs.length then (xs,24)
 else (ee xs x,0)
def tV (y:Value)(c:Int):Value:=.tuple #[y,.int .i64 c]
def PR (w0:World)(y0:Value)(r:List ax × Int)(e:Ending)(w':World):Prop:=
 Below w0.heap.size w0 w'/\((r.2≠0/\e=.returned (tV y0 r.2))\/(r.2=0/\r.1=[]/\e=.returned (tV (.slice none 0 0) 0))\/(r.2=0/\r.1≠[]/\∃ y,e=.returned (tV y 0)/\cF w0 w' y (vI r.1) r.1.length 3 48))
theorem iB (xs:List ax)(x:ax):ee xs x≠[]:=fun h=>by
 have:=pe x (ch x.p xs)
 unfold ee at h
 rw[h]at this;simp at this
section
variable {E:Env}{M:Own}{w0:World}{cs0:List Frame}{f:FuncId}{R:Ending->World->Prop}{ν:aP}{n:Nat}{S:SM}{o:List (Nat × gR)}
theorem fS {m j:Nat}{l:List ax}(K:aK E M w0)(hM:∀ z,¬ M z)(h:mX (bY E f n S o (.tup [.sl j 0 m none,.v (.int .i64 0)]) j (.row (cI l) 48 (0,0) (some 3))))
  (hR:∀ w' y,Below w0.heap.size w0 w'->cF w0 w' y (vI l) m 3 48->R (.returned (tV y 0)) w'):af E M w0 cs0 f R ν S:=
 af.bY K h.out fun ν' w' y b ob hv hb ho YA hw hB=>by
  have hn:w0.heap.size<=b.1:=by
   rcases hw with h|h
   ·exact h
   ·exact absurd h (hM _)
  obtain⟨_,_,_,_,hB,hr⟩:=hB;obtain⟨a,rfl,ha⟩:=VR.cz.1 hv;obtain⟨y1,a1,rfl,q1,ha1⟩:=ha.cons_inv;obtain⟨y2,a2,rfl,q2,YH⟩:=ha1.cons_inv;obtain rfl:=YH.ay;obtain rfl:=VR.ae.1 q2;exact hR w' y1 (aB hM hB hr) (cF.gb q1 hb ho YA hn fun zs hz=>tu hz)
theorem jg {b:Nat × Nat}{m:Nat}{c:Int}(K:aK E M w0)(hM:∀ z,¬ M z)(h:mX (eh E f n S o [(0,0)] (.tup [.sl 0 0 m none,.v (.int .i64 c)])))
  (hR:∀ w',Below w0.heap.size w0 w'->R (.returned (tV (.slice (some ⟨b.1,0,none⟩) m b.2) c)) w'):af E M w0 cs0 f R (aA [b]) S:=
 af.eh K hM h.out fun ν' w' y hle hv hB=>by
  obtain⟨a,rfl,ha⟩:=VR.cz.1 hv
  obtain⟨y1,a1,rfl,q1,ha1⟩:=ha.cons_inv
  obtain⟨y2,a2,rfl,q2,YH⟩:=ha1.cons_inv
  obtain rfl:=YH.ay
  obtain rfl:=VR.ae.1 q2
  obtain⟨b',Yy,Zb,rfl⟩:=VR.aL.1 q1
  have Zt:(ν'.ren [(0,0)]) 0=some b:=hle 0 b rfl
  rw[Zt]at Yy;cases Yy
  exact hR w' hB
theorem kq {rn:List (Nat × Nat)}{v:Value}(K:aK E M w0)(hM:∀ z,¬ M z)(h:mX (eh E f n S o rn (.v v)))(hR:∀ w',Below w0.heap.size w0 w'->R (.returned v) w'):af E M w0 cs0 f R ν S:=
 af.eh K hM h.out fun ν' w' y hle hv hB=>by rw[VR.ae.1 hv];exact hR w' hB
end
section
variable {w0:World}{cs0:List Frame}{xs:List ax}{x:ax}{b:Nat × Nat}
theorem Hq (Yu:xs≠[])(hl:xs.length<=1000)(hp:x.p.size<=1000000000)(hs:∀ e∈xs,e.p.size<=1000000000):
  af mZ (aD [b] [(.row (cI xs) 48 (0,0) (some 3),false)]) w0 cs0 17 (PR w0 (.slice (some ⟨b.1,0,none⟩) xs.length b.2) (aI xs x)) (aA [b]) (gr (cI xs) xs.length x):=by
 have hM:∀ z,¬ (aD [b] [(SO.row (cI xs) 48 (0,0) (some 3),false)]) z:=fun z=>aZ (os:=[_]);have hh:bu (cI xs) xs.length xs:=⟨rfl,rfl,hl⟩;have hx:(⟨x.1,x.2,x.3,x.4,x.5⟩:ax)=x:=rfl;have Z0:(!(aj x.1).toList==(⟨⟨[]⟩⟩:ByteArray).toList)=Da x:=rfl;cases g:aR x.p
 ·have hr:aI xs x=(xs,23):=by unfold aI;rw[if_pos g]
  rw[hr];refine jg qt hM (o:=(ff [1] true++ff [0,2,3] false++VP)) (n:=300) ⟨?_⟩ fun w' hB=>⟨hB,.inl ⟨by show (23:Int)≠0;decide,rfl⟩⟩;rw[Tc (m:=[]) (k:=0)];simp only[ah,g,W0,VV,VX,VW];exact hp
 have g':aR x.1=true:=g;by_cases c1:aS x.k x.l=0
 case neg=>
  have d1:(!aS x.2 x.4==(0:Int))=true:=by simpa using c1
  have hr:aI xs x=(xs,aS x.k x.l):=by unfold aI;rw[if_neg (by simp[g]),if_pos c1]
  rw[hr];refine jg qt hM (o:=(ff [3] true++ff [0,1,2,4,5] false++VP)) (n:=300) ⟨?_⟩ fun w' hB=>⟨hB,.inl ⟨c1,rfl⟩⟩;rw[st1 (m:=[]) (k:=0)];simp only[ah,g',d1,Wy,VV,VX,VW];exact hp
 have d1:(!aS x.2 x.4==(0:Int))=false:=by simpa using c1
 have fin:∀ {P Q R:Prop},P->Q->R->P/\Q/\R:=fun a b c=>⟨a,b,c⟩;by_cases c2:x.k=2
 ·have d2:(!x.2==(2:Int))=false:=by simpa using c2
  have d0:(x.2==(0:Int))=false:=Wr.2 (by omega);have k0:x.2≠0:=by show x.k≠0;omega
  have ZM:aI xs x=if Da x=true/\(aO (aj x.p) xs).k≠2 then (xs,22) else if (aO x.p xs).k=0/\128<=xs.length then (xs,24) else (ee xs x,0):=by
   unfold aI;rw[if_neg (by simp[g]),if_neg (by simp[c1]),if_neg (by simp[c2]),if_neg (by omega)]
  cases u:Da x
  ·rw[u]at ZM Z0;rw[if_neg (by simp)]at ZM;by_cases ct:(aO x.p xs).k=0
   ·have dt:((aO x.p xs).2==(0:Int))=true:=Xn.2 ct;by_cases cf:128<=xs.length
    ·have df:decide ((xs.length:Int)≥(128:Int))=true:=V0 (by omega);rw[ZM,if_pos ⟨ct,cf⟩];refine jg qt hM (o:=(ff [21,22,23,24,25] true++ff [0,1,2,3,4,5,6,7,8,9,10,11,12,13,14,15,16,17,18,19,20,26,27] false++VP)) (n:=300) ⟨?_⟩ fun w' hB=>⟨hB,.inl ⟨by show (24:Int)≠0;decide,rfl⟩⟩;rw[NI (m:=[]) (k:=0)];simp only[ah,aX,g',d1,d2,d0,Z0,dt,df,Wy,VV,VX,VW];repeat' apply And.intro
     all_goals first|exact hp|exact hh|exact Yu|skip
    ·have df:decide ((xs.length:Int)≥(128:Int))=false:=V2 (by omega);rw[ZM,if_neg (by omega)];refine fS (j:=2) (l:=ee xs x) (m:=(ee xs x).length) qt hM (o:=(ff [21,22,23,24] true++ff [0,1,2,3,4,5,6,7,8,9,10,11,12,13,14,15,16,17,18,19,20,25,26,27,28] false++VP)) (n:=300) ⟨?_⟩ fun w' y hB hy=>⟨hB,.inr (.inr ⟨rfl,iB _ _,y,rfl,hy⟩)⟩;rw[MN];simp only[ah,aX,cX,az,hx,g',d1,d2,d0,Z0,dt,df,Wy,VV,VX,VW];repeat' apply And.intro
     all_goals first|exact hp|exact hh|exact Yu|exact hs|exact k0|skip
   ·have dt:((aO x.p xs).2==(0:Int))=false:=Wr.2 ct;rw[ZM,if_neg (by simp[ct])];refine fS (j:=2) (l:=ee xs x) (m:=(ee xs x).length) qt hM (o:=(ff [0,1,2,3,4,5,6,7,8,9,10,11,12,13,14,15,16,17,18,19,20,21,22,23,24,25,26,27,28] false++VP)) (n:=300) ⟨?_⟩ fun w' y hB hy=>⟨hB,.inr (.inr ⟨rfl,iB _ _,y,rfl,hy⟩)⟩;rw[MO];simp only[ah,aX,cX,az,hx,g',d1,d2,d0,Z0,dt,Wy,VV,VX,VW];repeat' apply And.intro
    all_goals first|exact hp|exact hh|exact Yu|exact hs|exact k0|skip
  ·rw[u]at ZM Z0;by_cases cd:(aO (aj x.p) xs).k=2
   case neg=>
    have dd:(!(aO (aj x.p) xs).2==(2:Int))=true:=by simpa using cd
    rw[ZM,if_pos ⟨rfl,cd⟩];refine jg qt hM (o:=(ff [13,14,15,17,18,19,20] true++ff [0,1,2,3,4,5,6,7,8,9,10,11,12,16,21,22] false++VP)) (n:=300) ⟨?_⟩ fun w' hB=>⟨hB,.inl ⟨by show (22:Int)≠0;decide,rfl⟩⟩;rw[Qf (m:=[]) (k:=0)];simp only[ah,aX,g',d1,d2,d0,Z0,dd,Wy,VV,VX,VW];repeat' apply And.intro
    all_goals first|exact hp|exact hh|exact Yu|skip
   have dd:(!(aO (aj x.p) xs).2==(2:Int))=false:=by simpa using cd
   rw[if_neg (by simp[cd])]at ZM;by_cases ct:(aO x.p xs).k=0
   ·have dt:((aO x.p xs).2==(0:Int))=true:=Xn.2 ct;by_cases cf:128<=xs.length
    ·have df:decide ((xs.length:Int)≥(128:Int))=true:=V0 (by omega);rw[ZM,if_pos ⟨ct,cf⟩];refine jg qt hM (o:=(ff [13,14,15,17,18,19,22,23,24,25,26] true++ff [0,1,2,3,4,5,6,7,8,9,10,11,12,16,20,21,27,28] false++VP)) (n:=300) ⟨?_⟩ fun w' hB=>⟨hB,.inl ⟨by show (24:Int)≠0;decide,rfl⟩⟩;rw[N4 (m:=[]) (k:=0)];simp only[ah,aX,g',d1,d2,d0,Z0,dd,dt,df,Wy,VV,VX,VW];repeat' apply And.intro
     all_goals first|exact hp|exact hh|exact Yu|skip
    ·have df:decide ((xs.length:Int)≥(128:Int))=false:=V2 (by omega);rw[ZM,if_neg (by omega)];refine fS (j:=2) (l:=ee xs x) (m:=(ee xs x).length) qt hM (o:=(ff [13,14,15,17,18,19,22,23,24,25] true++ff [0,1,2,3,4,5,6,7,8,9,10,11,12,16,20,21,26,27,28,29] false++VP)) (n:=300) ⟨?_⟩ fun w' y hB hy=>⟨hB,.inr (.inr ⟨rfl,iB _ _,y,rfl,hy⟩)⟩;rw[Mb];simp only[ah,aX,cX,az,hx,g',d1,d2,d0,Z0,dd,dt,df,Wy,VV,VX,VW];repeat' apply And.intro
     all_goals first|exact hp|exact hh|exact Yu|exact hs|exact k0|skip
   ·have dt:((aO x.p xs).2==(0:Int))=false:=Wr.2 ct;rw[ZM,if_neg (by simp[ct])];refine fS (j:=2) (l:=ee xs x) (m:=(ee xs x).length) qt hM (o:=(ff [13,14,15,17,18,19] true++ff [0,1,2,3,4,5,6,7,8,9,10,11,12,16,20,21,22,23,24,25,26,27,28,29] false++VP)) (n:=300) ⟨?_⟩ fun w' y hB hy=>⟨hB,.inr (.inr ⟨rfl,iB _ _,y,rfl,hy⟩)⟩;rw[Mf];simp only[ah,aX,cX,az,hx,g',d1,d2,d0,Z0,dd,dt,Wy,VV,VX,VW];repeat' apply And.intro
    all_goals first|exact hp|exact hh|exact Yu|exact hs|exact k0|skip
 ·have d2:(!x.2==(2:Int))=true:=by simpa using c2
  by_cases cb:bM x.p xs=[]
  case neg=>
   have hr:aI xs x=(xs,22):=by unfold aI;rw[if_neg (by simp[g]),if_neg (by simp[c1]),if_pos ⟨c2,cb⟩]
   have db:decide (((bM x.1 xs).length:Int)>(0:Int))=true:=V0 (by have:=Xg.2 cb;omega);have Θ:bM x.1 xs≠[]:=cb;rw[hr];refine jg qt hM (o:=(ff [4,5,6,7,8,9,10,11] true++ff [0,1,2,3,12,13] false++VP)) (n:=300) ⟨?_⟩ fun w' hB=>⟨hB,.inl ⟨by show (22:Int)≠0;decide,rfl⟩⟩;rw[st2 (m:=[]) (k:=0)];simp only[ah,aX,g',d1,d2,db,Wy,VV,VX,VW];repeat' apply And.intro
   all_goals first|exact hp|exact hh|exact Yu|exact hs|exact Θ|skip
  have Θ:bM x.1 xs=[]:=cb;by_cases c0:x.k=0
  ·have d0:(x.2==(0:Int))=true:=Xn.2 c0;have hr:aI xs x=(ch x.p xs,0):=by unfold aI;rw[if_neg (by simp[g]),if_neg (by simp[c1]),if_neg (by simp[cb]),if_pos c0]
   rw[hr];by_cases cw:ch x.p xs=[]
   ·rw[cw];have cw':ch x.1 xs=[]:=cw;refine kq qt hM (rn:=[(0,0)]) (v:=.tuple #[.slice none 0 0,.int .i64 0]) (o:=(ff [4,5,6,8,9,10,12] true++ff [0,1,2,3,7,11,13,14] false++VP)) (n:=300) ⟨?_⟩ fun w' hB=>⟨hB,.inr (.inl ⟨rfl,rfl,rfl⟩)⟩;rw[qS (m:=[]) (k:=0)];simp only[ah,aX,g',d1,d2,d0,Wy,VV,VX,VW];repeat' apply And.intro
    all_goals first|exact hp|exact hh|exact Yu|exact hs|exact Θ|exact cw'|skip
   ·have cw':ch x.1 xs≠[]:=cw;refine fS (j:=2) (l:=ch x.p xs) (m:=(ch x.p xs).length) qt hM (o:=(ff [4,5,6,8,9,10,12,13] true++ff [0,1,2,3,7,11,14,15] false++VP)) (n:=300) ⟨?_⟩ fun w' y hB hy=>⟨hB,.inr (.inr ⟨rfl,cw,y,rfl,hy⟩)⟩;rw[Q3];simp only[ah,aX,cX,az,g',d1,d2,d0,Wy,VV,VX,VW];repeat' apply And.intro
    all_goals first|exact hp|exact hh|exact Yu|exact hs|exact Θ|exact cw'|skip
  have d0:(x.2==(0:Int))=false:=Wr.2 c0;have k0:x.2≠0:=c0
  have ZM:aI xs x=if Da x=true/\(aO (aj x.p) xs).k≠2 then (xs,22) else if (aO x.p xs).k=0/\128<=xs.length then (xs,24) else (ee xs x,0):=by
   unfold aI;rw[if_neg (by simp[g]),if_neg (by simp[c1]),if_neg (by simp[cb]),if_neg c0]
  cases u:Da x
  ·rw[u]at ZM Z0;rw[if_neg (by simp)]at ZM;by_cases ct:(aO x.p xs).k=0
   ·have dt:((aO x.p xs).2==(0:Int))=true:=Xn.2 ct;by_cases cf:128<=xs.length
    ·have df:decide ((xs.length:Int)≥(128:Int))=true:=V0 (by omega);rw[ZM,if_pos ⟨ct,cf⟩];refine jg qt hM (o:=(ff [4,5,6,8,9,10,22,23,24,25,26] true++ff [0,1,2,3,7,11,12,13,14,15,16,17,18,19,20,21,27,28] false++VP)) (n:=300) ⟨?_⟩ fun w' hB=>⟨hB,.inl ⟨by show (24:Int)≠0;decide,rfl⟩⟩;rw[NF (m:=[]) (k:=0)];simp only[ah,aX,g',d1,d2,d0,Z0,dt,df,Wy,VV,VX,VW];repeat' apply And.intro
     all_goals first|exact hp|exact hh|exact Yu|exact hs|exact Θ|skip
    ·have df:decide ((xs.length:Int)≥(128:Int))=false:=V2 (by omega);rw[ZM,if_neg (by omega)];refine fS (j:=2) (l:=ee xs x) (m:=(ee xs x).length) qt hM (o:=(ff [4,5,6,8,9,10,22,23,24,25] true++ff [0,1,2,3,7,11,12,13,14,15,16,17,18,19,20,21,26,27,28,29] false++VP)) (n:=300) ⟨?_⟩ fun w' y hB hy=>⟨hB,.inr (.inr ⟨rfl,iB _ _,y,rfl,hy⟩)⟩;rw[Lj];simp only[ah,aX,cX,az,hx,g',d1,d2,d0,Z0,dt,df,Wy,VV,VX,VW];repeat' apply And.intro
     all_goals first|exact hp|exact hh|exact Yu|exact hs|exact k0|exact Θ|skip
   ·have dt:((aO x.p xs).2==(0:Int))=false:=Wr.2 ct;rw[ZM,if_neg (by simp[ct])];refine fS (j:=2) (l:=ee xs x) (m:=(ee xs x).length) qt hM (o:=(ff [4,5,6,8,9,10] true++ff [0,1,2,3,7,11,12,13,14,15,16,17,18,19,20,21,22,23,24,25,26,27,28,29] false++VP)) (n:=300) ⟨?_⟩ fun w' y hB hy=>⟨hB,.inr (.inr ⟨rfl,iB _ _,y,rfl,hy⟩)⟩;rw[K4];simp only[ah,aX,cX,az,hx,g',d1,d2,d0,Z0,dt,Wy,VV,VX,VW];repeat' apply And.intro
    all_goals first|exact hp|exact hh|exact Yu|exact hs|exact k0|exact Θ|skip
  ·rw[u]at ZM Z0;by_cases cd:(aO (aj x.p) xs).k=2
   case neg=>
    have dd:(!(aO (aj x.p) xs).2==(2:Int))=true:=by simpa using cd
    rw[ZM,if_pos ⟨rfl,cd⟩];refine jg qt hM (o:=(ff [4,5,6,8,9,10,14,15,16,18,19,20,21] true++ff [0,1,2,3,7,11,12,13,17,22,23] false++VP)) (n:=300) ⟨?_⟩ fun w' hB=>⟨hB,.inl ⟨by show (22:Int)≠0;decide,rfl⟩⟩;rw[Qt (m:=[]) (k:=0)];simp only[ah,aX,g',d1,d2,d0,Z0,dd,Wy,VV,VX,VW];repeat' apply And.intro
    all_goals first|exact hp|exact hh|exact Yu|exact hs|exact Θ|skip
   have dd:(!(aO (aj x.p) xs).2==(2:Int))=false:=by simpa using cd
   rw[if_neg (by simp[cd])]at ZM;by_cases ct:(aO x.p xs).k=0
   ·have dt:((aO x.p xs).2==(0:Int))=true:=Xn.2 ct;by_cases cf:128<=xs.length
    ·have df:decide ((xs.length:Int)≥(128:Int))=true:=V0 (by omega);rw[ZM,if_pos ⟨ct,cf⟩];refine jg qt hM (o:=(ff [4,5,6,8,9,10,14,15,16,18,19,20,23,24,25,26,27] true++ff [0,1,2,3,7,11,12,13,17,21,22,28,29] false++VP)) (n:=300) ⟨?_⟩ fun w' hB=>⟨hB,.inl ⟨by show (24:Int)≠0;decide,rfl⟩⟩;rw[Ny (m:=[]) (k:=0)];simp only[ah,aX,g',d1,d2,d0,Z0,dd,dt,df,Wy,VV,VX,VW];repeat' apply And.intro
     all_goals first|exact hp|exact hh|exact Yu|exact hs|exact Θ|skip
    ·have df:decide ((xs.length:Int)≥(128:Int))=false:=V2 (by omega);rw[ZM,if_neg (by omega)];refine fS (j:=2) (l:=ee xs x) (m:=(ee xs x).length) qt hM (o:=(ff [4,5,6,8,9,10,14,15,16,18,19,20,23,24,25,26] true++ff [0,1,2,3,7,11,12,13,17,21,22,27,28,29,30] false++VP)) (n:=300) ⟨?_⟩ fun w' y hB hy=>⟨hB,.inr (.inr ⟨rfl,iB _ _,y,rfl,hy⟩)⟩;rw[LD];simp only[ah,aX,cX,az,hx,g',d1,d2,d0,Z0,dd,dt,df,Wy,VV,VX,VW];repeat' apply And.intro
     all_goals first|exact hp|exact hh|exact Yu|exact hs|exact k0|exact Θ|skip
   ·have dt:((aO x.p xs).2==(0:Int))=false:=Wr.2 ct;rw[ZM,if_neg (by simp[ct])];refine fS (j:=2) (l:=ee xs x) (m:=(ee xs x).length) qt hM (o:=(ff [4,5,6,8,9,10,14,15,16,18,19,20] true++ff [0,1,2,3,7,11,12,13,17,21,22,23,24,25,26,27,28,29,30] false++VP)) (n:=300) ⟨?_⟩ fun w' y hB hy=>⟨hB,.inr (.inr ⟨rfl,iB _ _,y,rfl,hy⟩)⟩;rw[MF];simp only[ah,aX,cX,az,hx,g',d1,d2,d0,Z0,dd,dt,Wy,VV,VX,VW];repeat' apply And.intro
    all_goals first|exact hp|exact hh|exact Yu|exact hs|exact k0|exact Θ|skip
theorem EO (hp:x.p.size<=1000000000):af mZ (aD [] []) w0 cs0 17 (PR w0 (.slice none 0 0) (aI [] x)) (aA []) (kY x):=by
 have hx:(⟨x.1,x.2,x.3,x.4,x.5⟩:ax)=x:=rfl;have Z0:(!(aj x.1).toList==(⟨⟨[]⟩⟩:ByteArray).toList)=Da x:=rfl;have hs:∀ e:ax,e∈([]:List ax)->e.p.size<=1000000000:=fun e h=>(nomatch h);have hb:bM x.1 []=[]:=rfl;have hf:∀ q,(aO q []).2=0:=fun q=>rfl;have ht:((aO x.p []).2==(0:Int))=true:=rfl;have hd:(!(aO (aj x.p) []).2==(2:Int))=true:=rfl;cases g:aR x.p
 ·have hr:aI [] x=([],23):=by unfold aI;rw[if_pos g]
  rw[hr];refine kq qt aE (rn:=[]) (v:=.tuple #[.slice none 0 0,.int .i64 23]) (o:=(ff [1] true++ff [0,2] false++VP)) (n:=300) ⟨?_⟩ fun w' hB=>⟨hB,.inl ⟨by show (23:Int)≠0;decide,rfl⟩⟩;rw[Sy (m:=[]) (k:=0)];simp only[ah,g,W0,VV,VX,VW];exact hp
 have g':aR x.1=true:=g;by_cases c1:aS x.k x.l=0
 case neg=>
  have d1:(!aS x.2 x.4==(0:Int))=true:=by simpa using c1
  have hr:aI [] x=([],aS x.k x.l):=by unfold aI;rw[if_neg (by simp[g]),if_pos c1]
  rw[hr];refine kq qt aE (rn:=[]) (v:=.tuple #[.slice none 0 0,.int .i64 (aS x.k x.l)]) (o:=(ff [3] true++ff [0,1,2,4] false++VP)) (n:=300) ⟨?_⟩ fun w' hB=>⟨hB,.inl ⟨c1,rfl⟩⟩;rw[T5 (m:=[]) (k:=0)];simp only[ah,g',d1,Wy,VV,VX,VW];exact hp
 have d1:(!aS x.2 x.4==(0:Int))=false:=by simpa using c1
 have ZM:x.k≠0->aI [] x=if Da x=true then ([],22) else (ee [] x,0):=fun c0=>by
  unfold aI;rw[if_neg (by simp[g]),if_neg (by simp[c1]),if_neg (by simp[bM]),if_neg c0];cases u:Da x
  ·rw[if_neg (by simp),if_neg (by simp),if_neg (by simp)]
  ·rw[if_pos ⟨rfl,by show (0:Int)≠2;decide⟩,if_pos rfl]
 by_cases c0:x.k=0
 ·have d0:(x.2==(0:Int))=true:=Xn.2 c0;have d2:(!x.2==(2:Int))=true:=by rw[show x.2=0 from c0];rfl
  have hr:aI [] x=([],0):=by unfold aI;rw[if_neg (by simp[g]),if_neg (by simp[c1]),if_neg (by simp[bM]),if_pos c0];rfl
  rw[hr];refine kq qt aE (rn:=[]) (v:=.tuple #[.slice none 0 0,.int .i64 0]) (o:=(ff [4,5,6,8,9,10,12] true++ff [0,1,2,3,7,11,13,14] false++VP)) (n:=300) ⟨?_⟩ fun w' hB=>⟨hB,.inr (.inl ⟨rfl,rfl,rfl⟩)⟩;rw[UQ (m:=[]) (k:=0)];simp only[ah,g',d1,d2,d0,hb,Wy,VV,VX,VW];repeat' apply And.intro
  all_goals first|exact hp|exact hs|skip
 have d0:(x.2==(0:Int))=false:=Wr.2 c0;have k0:x.2≠0:=c0;have ZM:=ZM c0;by_cases c2:x.k=2
 ·have d2:(!x.2==(2:Int))=false:=by simpa using c2
  cases u:Da x
  ·rw[u]at ZM Z0;rw[ZM,if_neg (by decide)];refine fS (j:=1) (l:=ee [] x) (m:=(ee [] x).length) qt aE (o:=(ff [21,22,23,24] true++ff [0,1,2,3,4,5,6,7,8,9,10,11,12,13,14,15,16,17,18,19,20,25,26,27] false++VP)) (n:=300) ⟨?_⟩ fun w' y hB hy=>⟨hB,.inr (.inr ⟨rfl,iB _ _,y,rfl,hy⟩)⟩;rw[PN];simp only[ah,cX,az,hx,g',d1,d2,d0,Z0,ht,Wy,VV,VX,VW];repeat' apply And.intro
   all_goals first|exact hp|exact hs|exact k0|skip
  ·rw[u]at ZM Z0;rw[ZM,if_pos rfl];refine kq qt aE (rn:=[]) (v:=.tuple #[.slice none 0 0,.int .i64 22]) (o:=(ff [13,14,15,17,18,19,20] true++ff [0,1,2,3,4,5,6,7,8,9,10,11,12,16,21] false++VP)) (n:=300) ⟨?_⟩ fun w' hB=>⟨hB,.inl ⟨by show (22:Int)≠0;decide,rfl⟩⟩;rw[PM (m:=[]) (k:=0)];simp only[ah,g',d1,d2,d0,Z0,hd,Wy,VV,VX,VW];repeat' apply And.intro
   all_goals first|exact hp|exact hs|skip
 ·have d2:(!x.2==(2:Int))=true:=by simpa using c2
  cases u:Da x
  ·rw[u]at ZM Z0;rw[ZM,if_neg (by decide)];refine fS (j:=1) (l:=ee [] x) (m:=(ee [] x).length) qt aE (o:=(ff [4,5,6,8,9,10,22,23,24,25] true++ff [0,1,2,3,7,11,12,13,14,15,16,17,18,19,20,21,26,27,28] false++VP)) (n:=300) ⟨?_⟩ fun w' y hB hy=>⟨hB,.inr (.inr ⟨rfl,iB _ _,y,rfl,hy⟩)⟩;rw[O9];simp only[ah,cX,az,hx,g',d1,d2,d0,Z0,ht,hb,Wy,VV,VX,VW];repeat' apply And.intro
   all_goals first|exact hp|exact hs|exact k0|skip
  ·rw[u]at ZM Z0;rw[ZM,if_pos rfl];refine kq qt aE (rn:=[]) (v:=.tuple #[.slice none 0 0,.int .i64 22]) (o:=(ff [4,5,6,8,9,10,14,15,16,18,19,20,21] true++ff [0,1,2,3,7,11,12,13,17,22] false++VP)) (n:=300) ⟨?_⟩ fun w' hB=>⟨hB,.inl ⟨by show (22:Int)≠0;decide,rfl⟩⟩;rw[QF (m:=[]) (k:=0)];simp only[ah,g',d1,d2,d0,Z0,hd,hb,Wy,VV,VX,VW];repeat' apply And.intro
   all_goals first|exact hp|exact hs|skip
end
abbrev cp:=ax × Nat
def mI (e:cp):SV × SV × Nat:=(.v (.string e.1.p),.agg [.v (.int .i64 e.1.k),.v (.slice e.1.a e.1.l e.1.c)],e.2)
def cU (e:cp):SV:=.agg [.v (.int .i64 e.1.k),.v (.slice e.1.a e.1.l e.1.c)]
structure dQ (E:List cp)(cl:Nat):Prop where
 names:(E.map fun e=>e.1.p).Nodup
 Zi:(E.map fun e=>e.2).Nodup
 born:∀ e∈E,e.2<cl
 full:∀ e∈E,e.1.p≠⟨#[]⟩
 size:∀ e∈E,e.1.p.size<=1000000000
theorem Ln {x y:cp}(h:mI x=mI y):x=y:=by
 obtain⟨⟨p,k,a,l,c⟩,n⟩:=x;obtain⟨⟨p',k',a',l',c'⟩,n'⟩:=y;simp only[mI,Prod.mk.injEq,SV.v.injEq,Value.string.injEq,SV.agg.injEq,List.cons.injEq,Value.int.injEq,Value.slice.injEq,VW,VX]at h;obtain⟨h1,⟨h3,h4,h5,h6⟩,h7⟩:=h;subst h1 h3 h4 h5 h6 h7;rfl
theorem kK {E:List cp}(hb:(E.map fun e=>e.2).Nodup){x:cp}(hx:x∈E):(E.map mI).find? (fun e=>Nat.beq e.2.2 x.2)=some (mI x):=by
 induction E with
 | nil=>cases hx
 | cons y E ih=>
  rw[WC,X2];rw[WC,W3]at hb;by_cases h:y.2=x.2
  ·have hq:Nat.beq (mI y).2.2 x.2=true:=by show Nat.beq y.2 x.2=true;rw[h];simp
   rw[hq];rcases V8.1 hx with rfl|hx
   ·rfl
   ·exact absurd (Wb.2 ⟨x,hx,h.symm⟩) hb.1
  ·have hq:Nat.beq (mI y).2.2 x.2=false:=by
    show Nat.beq y.2 x.2=false;rw[XA];intro e;exact h (WM e)
   rw[hq];rcases V8.1 hx with rfl|hx
   ·exact absurd rfl h
   ·exact ih hb.2 hx
theorem I8 {E:List cp}(hn:(E.map fun e=>e.1.p).Nodup){f:cp}(hf:f∈E):∃ j,Eg (E.map mI) f.1.p j (cU f) f.2:=by
 obtain⟨j,hj⟩:=WZ hf;refine⟨j,fun e he=>?_,by rw[Wv,hj];rfl⟩;rw[<- List.map_take]at he;obtain⟨y,hy,rfl⟩:=Wb.1 he;refine⟨y.1.p,rfl,?_⟩;rw[XA];intro h;obtain⟨i,hi⟩:=WZ hy
 have YD:i<j:=by
  have:=(WB.1 hi).1;rw[WX]at this;omega
 rw[WN,if_pos YD]at hi
 have Z0:f.1.p=y.1.p:=by
  have:(f.1.p.data==y.1.p.data)=true:=h;have:=Yo this;cases hfp:f.1.p;cases hyp:y.1.p;rw[hfp,hyp]at this;cases this;rfl
 have:=ib hn hi hj Z0.symm;omega
theorem cK (E:List cp):((E.map mI).all fun e=>aw e.1&&aw e.2.1)=true:=by
 rw[Wn];intro x hx;obtain⟨y,_,rfl⟩:=Wb.1 hx;rfl
theorem mn {E:List cp}{seen:List Nat}{e:cp}{n:Nat}(he:e∈E)(hs:seen.contains e.2=false)(h:(E.filter fun x=>!seen.contains x.2).length<=n+1):(E.filter fun x=>!(seen++[e.2]).contains x.2).length<=n:=by
 have YD:(E.filter fun x=>!(seen++[e.2]).contains x.2).length<(E.filter fun x=>!seen.contains x.2).length:=by
  have h1:(E.filter fun x=>!(seen++[e.2]).contains x.2)=(E.filter fun x=>!seen.contains x.2).filter fun x=>!(x.2==e.2):=by
   rw[List.filter_filter];congr 1;funext x;cases h1:(x.2==e.2)<;>cases h2:seen.contains x.2<;>simp_all
  rw[h1];refine Xu.2 ⟨e,Wo.2 ⟨he,by show (!seen.contains e.2)=true;rw[hs];rfl⟩,by simp⟩
 omega
theorem eZ {p:ByteArray}{e:ax}:pH p e=true↔e.p=p:=by
 unfold pH;rw[Xn];constructor
 ·intro h;cases h1:e.p;cases p;rw[h1]at h;congr 1;exact Array.toList_inj.1 h
 ·intro h;rw[h]
abbrev E7:=ByteArray × Int × List Int
def oj (c:ax->List Int)(e:ax):E7:=(e.p,e.k,c e)
def lx (c:ax->List Int)(e:cp):E7:=oj c e.1
def uz (p:ByteArray)(K:List E7):List E7:=K.filter fun k=>!(k.1.data.toList==p.data.toList)
def fK (xs:List ax):Prop:=xs.Pairwise fun a b=>dp a.p b.p<0
theorem vR {ys:ax->List Int}(p:ByteArray)(xs:List ax):(ch p xs).map (oj ys)=uz p (xs.map (oj ys)):=by
 unfold ch uz;rw[List.filter_map];rfl
theorem ko {p:ByteArray}{e:ax}:pH p e=false↔e.p≠p:=by
 rw[<- Bool.not_eq_true,eZ]
theorem fK.names {xs:List ax}(h:fK xs):(xs.map fun e=>e.p).Nodup:=by
 unfold fK at h;rw[List.nodup_iff_pairwise_ne,Ym];exact h.imp fun {a b} hab e=>by rw[e,jk]at hab;exact absurd hab (by decide)
structure dL (cm ys:ax->List Int)(E:List cp)(cl:Nat)(xs:List ax):Prop where
 ok:dQ E cl
 ZB:(E.map (lx cm)).Perm (xs.map (oj ys))
 sorted:fK xs
 YO:xs.length<=128
 kind:∀ e∈xs,e.k≠0
section
variable {E:List cp}{cl:Nat}{xs:List ax}{x:ax}{cm ys:ax->List Int}
theorem dL.len (h:dL cm ys E cl xs):E.length=xs.length:=by simpa using h.ZB.length_eq
theorem dL.to (h:dL cm ys E cl xs){e:ax}(he:e∈xs):∃ f∈E,lx cm f=oj ys e:=by
 have:=h.ZB.mem_iff.2 (Wb.2 ⟨e,he,rfl⟩);exact Wb.1 this
theorem dL.of (h:dL cm ys E cl xs){f:cp}(hf:f∈E):∃ e∈xs,oj ys e=lx cm f:=by
 have:=h.ZB.mem_iff.1 (Wb.2 ⟨f,hf,rfl⟩);exact Wb.1 this
theorem lO {f:cp}{e:ax}(h:lx cm f=oj ys e):f.1.p=e.p/\f.1.k=e.k:=by
 simp only[lx,oj,Prod.mk.injEq]at h;exact⟨h.1,h.2.1⟩
theorem GA {f:cp}{e:ax}(h:lx cm f=oj ys e):cm f.1=ys e:=by
 simp only[lx,oj,Prod.mk.injEq]at h;exact h.2.2
theorem dL.size (h:dL cm ys E cl xs):∀ e∈xs,e.p.size<=1000000000:=fun e he=>by
 obtain⟨f,hf,hk⟩:=h.to he
 rw[<- (lO hk).1];exact h.ok.size f hf
theorem AF (hB:dQ E cl){f g:cp}(hf:f∈E)(hg:g∈E)(h:f.1.p=g.1.p):f=g:=by
 obtain⟨i,hi⟩:=WZ hf;obtain⟨j,hj⟩:=WZ hg;have:=ib hB.names hi hj h;subst this;rw[hi]at hj;exact Option.some.inj hj
theorem dL.cr (h:dL cm ys E cl xs)(hm:∀ f∈E,f.1.p≠x.p):∀ e∈xs,e.p≠x.p:=fun e he=>by
 obtain⟨f,hf,hk⟩:=h.to he
 rw[<- (lO hk).1];exact hm f hf
theorem nQ {p:ByteArray}(hm:∀ e∈xs,e.p≠p):aO p xs=⟨p,0,none,0,0⟩/\ch p xs=xs:=by
 constructor
 ·unfold aO;rw[WY.2 fun e he=>by rw[ko.2 (hm e he)];simp];rfl
 ·exact XN.2 fun e he=>by rw[ko.2 (hm e he)];rfl
theorem ji (x:ax):∀ l:List ax,(gL x l).Perm (x::l)
 | []=>List.Perm.refl _
 | e::l=>by
  unfold gL
  split
  ·exact List.Perm.refl _
  ·exact ((ji x l).cons e).trans (List.Perm.swap x e l)
theorem qW:∀ {l:List ax},fK l->(∀ e∈l,e.p≠x.p)->fK (gL x l)
 | [],_,_=>by simp[gL,fK]
 | e::l,h,hx=>by
  unfold fK at h
  rw[W2]at h
  unfold gL
  split
  ·rename_i hc
   have h0:dp x.p e.p<0:=by rw[fy];omega
   unfold fK
   rw[W2,W2]
   refine⟨fun b hb=>?_,h⟩
   rcases V8.1 hb with rfl|hb
   ·exact h0
   ·exact h8 h0 (h.1 b hb)
  ·rename_i hc
   have h1:dp e.p x.p≠0:=fun h0=>hx e Wj (h9 h0)
   unfold fK
   rw[W2]
   refine⟨fun b hb=>?_,qW h.2 fun z hz=>hx z (Wc _ hz)⟩
   rcases V8.1 ((ji x l).mem_iff.1 hb) with rfl|hb
   ·omega
   ·exact h.1 b hb
theorem fK.drop (h:fK xs)(p:ByteArray):fK (ch p xs):=List.Pairwise.sublist Yi h
theorem F0 {p:ByteArray}:∀ e∈ch p xs,e.p≠p:=fun e he=>by
 have:=(Wo.1 he).2
 exact ko.1 (by simpa using this)
theorem lQ:∀ {E:List cp} {j:Nat} {f:cp},(E.map fun e=>e.1.p).Nodup->E[j]?=some f->(E.eraseIdx j).map (lx cm)=uz f.1.p (E.map (lx cm))
 | [],j,f,_,h=>by simp at h
 | a::l,0,f,hn,h=>by
  simp at h;subst h
  rw[WC,W3]at hn
  unfold uz
  rw[List.eraseIdx_cons_zero,WC,X5 (by simp[lx,oj])]
  refine (XN.2 fun k hk=>?_).symm
  obtain⟨g,hg,rfl⟩:=Wb.1 hk
  have:g.1.p≠a.1.p:=fun e=>hn.1 (Wb.2 ⟨g,hg,e⟩)
  have:=ko.2 this
  unfold pH at this
  show (!(g.1.p.data.toList==a.1.p.data.toList))=true
  rw[this];rfl
 | a::l,j+1,f,hn,h=>by
  rw[WC,W3]at hn
  have hf:l[j]?=some f:=by simpa using h
  have ih:=lQ hn.2 hf
  have Zj:=Xi hf
  have:a.1.p≠f.1.p:=fun e=>hn.1 (Wb.2 ⟨f,Zj,e.symm⟩)
  have:=ko.2 this
  unfold pH at this
  unfold uz at ih ⊢
  rw[List.eraseIdx_cons_succ,WC,WC,ih,X4 (by show (!(a.1.p.data.toList==f.1.p.data.toList))=true;rw[this];rfl)]
theorem dQ.sub {E':List cp}(h:dQ E cl)(hs:E'.Sublist E):dQ E' cl:=
 ⟨h.names.sublist (hs.map _),h.Zi.sublist (hs.map _),fun e he=>h.born e (hs.mem he),fun e he=>h.full e (hs.mem he),fun e he=>h.size e (hs.mem he)⟩
theorem dQ.snoc (h:dQ E cl){y:ax}(hm:∀ e∈E,e.1.p≠y.p)(hf:y.p≠⟨#[]⟩)(hz:y.p.size<=1000000000):dQ (E++[(y,cl)]) (cl+1):=by
 refine⟨?_,?_,fun e he=>?_,fun e he=>?_,fun e he=>?_⟩
 ·rw[Wq,Xy];refine⟨h.names,by simp,fun a ha b hb=>?_⟩;obtain⟨e,he,rfl⟩:=Wb.1 ha;have:b=y.p:=by simpa using hb
  rw[this];exact hm e he
 ·rw[Wq,Xy];refine⟨h.Zi,by simp,fun a ha b hb=>?_⟩;obtain⟨e,he,rfl⟩:=Wb.1 ha;have:b=cl:=by simpa using hb
  have:=h.born e he;omega
 ·rcases WJ.1 he with he|he
  ·have:=h.born e he;omega
  ·have:e=(y,cl):=by simpa using he
   subst this;show cl<cl+1;omega
 ·rcases WJ.1 he with he|he
  ·exact h.full e he
  ·have:e=(y,cl):=by simpa using he
   subst this;exact hf
 ·rcases WJ.1 he with he|he
  ·exact h.size e he
  ·have:e=(y,cl):=by simpa using he
   subst this;exact hz
theorem dQ.mod (h:dQ E cl){j:Nat}{f:cp}{y:ax}(hf:E[j]?=some f)(hp:y.p=f.1.p):dQ (E.modify j fun e=>(y,e.2)) cl:=by
 have Zj:=Xi hf;refine⟨?_,?_,fun e he=>?_,fun e he=>?_,fun e he=>?_⟩
 ·rw[jq hf (by exact hp)];exact h.names
 ·rw[jq hf (by rfl)];exact h.Zi
 ·rcases eU hf he with rfl|he
  ·exact h.born f Zj
  ·exact h.born e he
 ·rcases eU hf he with rfl|he
  ·show y.p≠_;rw[hp];exact h.full f Zj
  ·exact h.full e he
 ·rcases eU hf he with rfl|he
  ·show y.p.size<=_;rw[hp];exact h.size f Zj
  ·exact h.size e he
theorem dL.cont {cm':ax->List Int}(h:dL cm ys E cl xs)(hc:∀ e∈E,cm e.1=cm' e.1):dL cm' ys E cl xs:=
 ⟨h.ok,by
  have:E.map (lx cm')=E.map (lx cm):=XB fun e he=>by unfold lx oj;rw[hc e he]
  rw[this];exact h.ZB,h.sorted,h.YO,h.kind⟩
theorem dL.pG (h:dL cm ys E cl xs){f:cp}(hf:f∈E):(aO f.1.p xs).k=f.1.k/\(ch f.1.p xs).length<xs.length/\∃ e∈xs,aO f.1.p xs=e/\oj ys e=lx cm f:=by
 obtain⟨e,he,hk⟩:=h.of hf;have he2:pH f.1.p e=true:=eZ.2 (lO hk.symm).1.symm
 have hfe:xs.find? (pH f.1.p)=some e:=by
  cases hq:xs.find? (pH f.1.p) with
  | none=>rw[WY]at hq;exact absurd he2 (hq e he)
  | some e'=>
   have h1:=WV hq;have h2:=eZ.1 (Xp hq);have hn:=h.sorted.names;have h3:=eZ.1 he2;obtain⟨i,hi⟩:=WZ h1;obtain⟨j,hj⟩:=WZ he;have:=ib hn hi hj (by rw[h2,h3]);subst this;rw[hi]at hj;exact hj
 have hfi:aO f.1.p xs=e:=by unfold aO;rw[hfe];rfl
 refine⟨by rw[hfi];exact (lO hk.symm).2.symm,Xu.2 ⟨e,he,by rw[he2];simp⟩,e,he,hfi,hk⟩
theorem dL.s7 (h:dL cm ys E cl xs):(E.map fun e=>e.1.p).Perm (xs.map fun e=>e.p):=by
 have:=h.ZB.map (fun k:E7=>k.1);rw[WI,WI]at this;exact this
theorem dL.new {E':List cp}{cl':Nat}{L:List ax}(hB:dQ E' cl')(ht:(E'.map (lx cm)).Perm (oj ys x::L.map (oj ys)))(hs:fK L)(hx:∀ e∈L,e.p≠x.p)(hl:L.length<128)(hk:∀ e∈L,e.k≠0)(hxk:x.k≠0):dL cm ys E' cl' (gL x L):=
 ⟨hB,ht.trans (((ji x L).map (oj ys)).symm),qW hs hx,by rw[pe];omega,fun e he=>by
  rcases V8.1 ((ji x L).mem_iff.1 he) with rfl|h
  ·exact hxk
  ·exact hk e h⟩
end
theorem nH (o:Nat)(b:Nat × Nat):∀ E:List cp,dJ o b (E.map mI)=E.map mI
 | []=>rfl
 | e::E=>by
  show _::dJ o b (E.map mI)=_
  rw[nH o b E];rfl
theorem aV {o:Nat}{b:Nat × Nat}{E:List cp}{y:ax}{k v:SV}{n:Nat}(h:(k,nM o b v,n)=mI (y,n)):dJ o b (E.map mI++[(k,v,n)])=(E++[(y,n)]).map mI:=by
 unfold dJ;rw[Wq,Wq];have:=nH o b E;unfold dJ at this;rw[this,WC,WC,h];rfl
theorem dW {g:SV × SV × Nat->SV × SV × Nat}{g':cp->cp}(h:∀ e,g (mI e)=mI (g' e)):∀ (E:List cp) (j:Nat),(E.map mI).modify j g=(E.modify j g').map mI
 | [],j=>by simp
 | e::E,0=>by simp[h]
 | e::E,j+1=>by simp[dW h E j]
theorem cJ {o:Nat}{b:Nat × Nat}{g:SV × SV × Nat->SV × SV × Nat}{g':cp->cp}(h:∀ e,((g (mI e)).1,nM o b (g (mI e)).2.1,(g (mI e)).2.2)=mI (g' e)):∀ (E:List cp) (j:Nat),dJ o b ((E.map mI).modify j g)=(E.modify j g').map mI
 | [],j=>by simp[dJ]
 | e::E,0=>by
  simp only[WC,List.modify_zero_cons]
  show _::dJ o b (E.map mI)=_
  rw[nH]
  exact congrArg (·::E.map mI) (h e)
 | e::E,j+1=>by
  simp only[WC,List.modify_succ_cons]
  show _::dJ o b ((E.map mI).modify j g)=_
  rw[cJ h E j];rfl
theorem pq {E:List cp}(hn:(E.map fun e=>e.1.p).Nodup){f:cp}(hf:f∈E):∃ j,Eg (E.map mI) f.1.p j (cU f) f.2/\E[j]?=some f:=by
 obtain⟨j,hj⟩:=I8 hn hf;refine⟨j,hj,?_⟩;have h2:=hj.2;rw[Wv]at h2;obtain⟨g,hg,h3⟩:=Wg.1 h2;rw[hg,Ln (h3:mI g=mI f)]
theorem j5 {E:List cp}{p:ByteArray}(hm:∀ e∈E,e.1.p≠p):∀ e∈E.map mI,a8 p e.1:=fun e he=>by
 obtain⟨y,hy,rfl⟩:=Wb.1 he
 refine⟨y.1.p,rfl,?_⟩
 rw[XA];intro h
 refine hm y hy ?_
 have:(p.data==y.1.p.data)=true:=h
 have:=Yo this
 cases hfp:p;cases hyp:y.1.p;rw[hfp,hyp]at this;cases this;rfl
theorem dx (x:ax)(l:List ax):gL x l≠[]:=fun h=>by
 have:=pe x l
 rw[h]at this;simp at this
theorem BK {cm:ax->List Int}{E:List cp}{y:ax}{n:Nat}:((E++[(y,n)]).map (lx cm)).Perm (oj cm y::E.map (lx cm)):=by
 rw[Wq];exact List.perm_append_comm
def dE (H:Hp)(e:ax)(zs:List Int):Prop:=(e.a=none/\e.l=0/\zs=[])\/∃ b rest,e.a=some ⟨b,0,none⟩/\H b=some (.cells ((zs.map (Value.int .u8))++rest).toArray 5 (0,0))/\zs.length=e.l
def lr (H:Hp)(e:ax):List Int:=match e.a with
 | none=>[]
 | some a=>match H a.1 with
  | some (.cells c _ _)=>(c.toList.take e.l).map Nc
  | _=>[]
theorem dE.cont {H:Hp}{e:ax}{zs:List Int}(h:dE H e zs):lr H e=zs:=by
 unfold lr;rcases h with ⟨h1,_,rfl⟩|⟨b,rest,h1,h2,h3⟩
 ·rw[h1]
 ·rw[h1];dsimp only;rw[h2];dsimp only;rw[XP (by simp[h3]),We (by simp[h3]),WI];exact List.map_id' zs
theorem dE.mono {H H':Hp}{e:ax}{zs:List Int}(h:dE H e zs)(hs:H.Sub H'):dE H' e zs:=by
 rcases h with h|⟨b,rest,h1,h2,h3⟩
 ·exact .inl h
 ·exact .inr ⟨b,rest,h1,hs _ _ h2,h3⟩
def u9 (w0:World)(e:ax):Prop:=∀ a,e.a=some a->w0.heap.size<=a.block
theorem yj {x e:ax}{p:ByteArray}{xs:List ax}(h:e∈gL x (ch p xs)):e=x\/e∈xs:=by
 rcases V8.1 ((ji x _).mem_iff.1 h) with h|h
 ·exact .inl h
 ·exact .inr (Wo.1 h).1
theorem jl {x e:ax}{xs:List ax}(h:e∈gL x xs):e=x\/e∈xs:=V8.1 ((ji x _).mem_iff.1 h)
def Pp:List (FuncId × Sum):=[(112,xN)]
def dZ:Env:={ EP [] [] with YT:=fun f=>Pp.lookup f }
def tT:Option (SO × Bool):=some (.row [.map 1] 96 (0,0) none,false)
theorem qP {M0 M:Own}{w00 w0:World}(hM:∀ z,¬ M0 z)(hB:dh M0 w00 M w0)(hX:MX w00):aK dZ M w0:=
 aK.uG (Checked.mixed Tryz.checked) (by kernel_rfl) (fh.of iJ rfl dK) (dy.Ky (X:=MX) (l:=Pp) rfl (fun r h=>by
  simp only[Pp,V8,Ww,Xc]at h
  rcases h with rfl
  exact FU) fun ν s w hr _=>hX.keep fun k hk=>(hr.frame k (Wz hk hB.size) (hB.frame k hk (hM k)).2).trans (hB.frame k hk (hM k)).1) (fun f g h=>by cases h)
def Lh:SV:=.func (.func 106) [] [.ptr 2 0]
def Bk (es:VQ)(cl:Nat):SM:=(a6 dZ 90 [.ptr 0 0,Lh] (bG 6 3 0 [tT,xI es cl,cv []])).getD dn
def JK:List SI:=dA dZ 2 60 (Bk [] 0) VP
def qT (x:SV):SF:={ fn:=90,tm:=e9 27 5 ([.ptr 0 0,Lh,.aH,.aH,x,.aH,.aH,.aH,.aH,.aH,.aH,.aH,.ptr 3 0]++List.replicate 14 .aH),todo:=JK,defers:=[],ret:=false,kind:=.normal,ro:=none }
def rG (es:VQ)(cl:Nat)(seen:List Nat):List (Option (SO × Bool)):=[tT,xI es cl,cv [],some (.miter (some 1) cl seen cl,true)]
def rN (es:VQ)(cl:Nat)(seen:List Nat)(m:List SV):List (Option (SO × Bool)):=[tT,xI es cl,cv [],some (.miter (some 1) cl seen cl,true),py m]
def IB (es:VQ)(cl:Nat)(seen:List Nat):SM:=SM.at (qT bZ) 6 (rG es cl seen)
def IJ (es:VQ)(cl:Nat)(seen:List Nat)(m:List SV)(k:Nat):SM:=SM.at (qT (.sl 4 0 k none)) 6 (rN es cl seen m)
def sT (es:VQ)(cl:Nat)(seen:List Nat):SM:=(po dZ (jX dZ) 30 ((IB es cl seen).with VP)).getD dn
def D5 (es:VQ)(cl:Nat)(seen:List Nat)(e:SV × SV × Nat):SM:=(ln dZ (sT es cl seen) e).getD dn
def JR (es:VQ)(cl:Nat)(seen:List Nat):SM:=(k8 dZ (sT es cl seen)).getD dn
theorem FJ (es:VQ)(cl:Nat)(seen:List Nat):po dZ (jX dZ) 30 ((IB es cl seen).with VP)=some (sT es cl seen):=by kernel_rfl
theorem IW (es:VQ)(cl:Nat)(seen:List Nat):oy dZ (sT es cl seen)=some (3,1,cl,seen,cl,es,cl):=by kernel_rfl
theorem HK (es:VQ)(cl:Nat)(seen:List Nat):(sT es cl seen).mem.Y9=[]:=by kernel_rfl
theorem Jw (es:VQ)(cl:Nat)(seen:List Nat)(e:SV × SV × Nat):ln dZ (sT es cl seen) e=some (D5 es cl seen e):=by kernel_rfl
theorem Iv (es:VQ)(cl:Nat)(seen:List Nat)(e:SV × SV × Nat):(D5 es cl seen e).mem.Y9=[]:=by kernel_rfl
theorem JM (es:VQ)(cl:Nat)(seen:List Nat):k8 dZ (sT es cl seen)=some (JR es cl seen):=by kernel_rfl
theorem Ii (es:VQ)(cl:Nat)(seen:List Nat):(JR es cl seen).mem.Y9=[]:=by kernel_rfl
def I6 (e:cp):List (Nat × gR):=[(0,.b true),(1,.ent (.v (.string e.1.p)) (cU e))]
def Ih (es:VQ)(cl:Nat)(seen:List Nat)(e:cp)(d:Bool):SM:=dB dZ 106 60 (D5 es cl seen (mI e)) (I6 e) (.v (.bool d))
def uf (es:VQ)(cl:Nat)(seen:List Nat)(m:List SV)(k:Nat):SM:=(po dZ (jX dZ) 30 ((IJ es cl seen m k).with VP)).getD dn
def DQ (es:VQ)(cl:Nat)(seen:List Nat)(m:List SV)(k:Nat)(e:SV × SV × Nat):SM:=(ln dZ (uf es cl seen m k) e).getD dn
def I4 (es:VQ)(cl:Nat)(seen:List Nat)(m:List SV)(k:Nat):SM:=(k8 dZ (uf es cl seen m k)).getD dn
theorem Gi (es:VQ)(cl:Nat)(seen:List Nat)(m:List SV)(k:Nat):po dZ (jX dZ) 30 ((IJ es cl seen m k).with VP)=some (uf es cl seen m k):=by kernel_rfl
theorem Iu (es:VQ)(cl:Nat)(seen:List Nat)(m:List SV)(k:Nat):oy dZ (uf es cl seen m k)=some (3,1,cl,seen,cl,es,cl):=by kernel_rfl
theorem FD (es:VQ)(cl:Nat)(seen:List Nat)(m:List SV)(k:Nat):(uf es cl seen m k).mem.Y9=[]:=by kernel_rfl
theorem J9 (es:VQ)(cl:Nat)(seen:List Nat)(m:List SV)(k:Nat)(e:SV × SV × Nat):ln dZ (uf es cl seen m k) e=some (DQ es cl seen m k e):=by kernel_rfl
theorem Jy (es:VQ)(cl:Nat)(seen:List Nat)(m:List SV)(k:Nat)(e:SV × SV × Nat):(DQ es cl seen m k e).mem.Y9=[]:=by kernel_rfl
theorem Is (es:VQ)(cl:Nat)(seen:List Nat)(m:List SV)(k:Nat):k8 dZ (uf es cl seen m k)=some (I4 es cl seen m k):=by kernel_rfl
theorem JE (es:VQ)(cl:Nat)(seen:List Nat)(m:List SV)(k:Nat):(I4 es cl seen m k).mem.Y9=[]:=by kernel_rfl
def I9 (e:cp):List (Nat × gR):=[(0,.b true),(1,.ent (.v (.string e.1.p)) (cU e))]
def Jg (es:VQ)(cl:Nat)(seen:List Nat)(m:List SV)(k:Nat)(e:cp)(d:Bool):SM:=dB dZ 106 60 (DQ es cl seen m k (mI e)) (I9 e) (.v (.bool d))
theorem Qn (es:VQ)(cl:Nat):reach dZ 2 60 (Bk es cl) VP [(0,0),(1,1),(2,2),(3,3)] [1] (qT bZ) 6 (rG es cl [])=[0=0,Fn.func 106=Fn.func 106,0=0,VT none 0 0=VT none 0 0,0=0,cl=cl,es=es,(es.all fun e=>aw e.fst&&aw e.snd.fst)=true,(match false with|true=>some 0|false=>List.lookup 1 [(1,1),(2,2),(3,3)])=some 1,cl=cl,([]:List Nat)=[],cl=cl]:=by kernel_rfl
theorem OF (es:VQ)(cl:Nat)(seen:List Nat)(e:cp):dT dZ 106 60 (D5 es cl seen (mI e)) (I6 e)=[∃ Yz b,(seen++[(mI e).snd.snd]).getLast?=some Yz/\cl=cl/\List.find? (fun e=>e.snd.snd.beq Yz) es=some (SV.v (VS e.fst.p),cU e,b),true=true]:=by kernel_rfl
theorem Np (es:VQ)(cl:Nat)(seen:List Nat)(e:cp)(d:Bool):dS dZ 106 60 (D5 es cl seen (mI e)) (I6 e) (.v (.bool d))=[∃ Yz b,(seen++[(mI e).snd.snd]).getLast?=some Yz/\cl=cl/\List.find? (fun e=>e.snd.snd.beq Yz) es=some (SV.v (VS e.fst.p),cU e,b),true=true]:=by kernel_rfl
theorem N7 (es:VQ)(cl:Nat)(seen:List Nat)(e:cp):reach dZ 2 60 (Ih es cl seen e false) (ff [0] false) [(0,0),(1,1),(2,2),(3,3)] [1] (qT bZ) 6 (rG es cl (seen++[e.2]))=[0=0,Fn.func 106=Fn.func 106,0=0,VT none 0 0=VT none 0 0,0=0,cl=cl,es=es,(es.all fun e=>aw e.fst&&aw e.snd.fst)=true,(match false with|true=>some 0|false=>List.lookup 1 [(1,1),(2,2),(3,3)])=some 1,cl=cl,seen++[(mI e).snd.2]=seen++[e.2],cl=cl,false=false]:=by kernel_rfl
theorem No (es:VQ)(cl:Nat)(seen:List Nat)(e:cp)(m':List SV):reach dZ 2 60 (Ih es cl seen e true) (ff [0] true++ff [1] false) [(0,0),(1,1),(2,2),(3,3),(4,5)] [1,4] (qT (.sl 4 0 1 none)) 6 (rN es cl (seen++[e.2]) m')=[0=0,Fn.func 106=Fn.func 106,0=0,0=0/\1=1/\nZ=none,0=0,cl=cl,es=es,(es.all fun e=>aw e.fst&&aw e.snd.fst)=true,(match false with|true=>some 0|false=>List.lookup 1 [(1,1),(2,2),(3,3),(4,5)])=some 1,cl=cl,seen++[(mI e).snd.2]=seen++[e.2],cl=cl,[]++List.take 1 (List.drop 0 (aQ (List.replicate 1 (List.map SV.v [VS ⟨⟨[]⟩⟩])).flatten 0 [SV.v (VS e.fst.1)]))=m',m'.all ab=true,false=false,true=true]:=by kernel_rfl
theorem OA (es:VQ)(cl:Nat)(seen:List Nat)(m:List SV)(k:Nat)(e:cp):dT dZ 106 60 (DQ es cl seen m k (mI e)) (I9 e)=[∃ Yz b,(seen++[(mI e).snd.snd]).getLast?=some Yz/\cl=cl/\List.find? (fun e=>e.snd.snd.beq Yz) es=some (SV.v (VS e.fst.p),cU e,b),true=true]:=by kernel_rfl
theorem NT (es:VQ)(cl:Nat)(seen:List Nat)(m:List SV)(k:Nat)(e:cp)(d:Bool):dS dZ 106 60 (DQ es cl seen m k (mI e)) (I9 e) (.v (.bool d))=[∃ Yz b,(seen++[(mI e).snd.snd]).getLast?=some Yz/\cl=cl/\List.find? (fun e=>e.snd.snd.beq Yz) es=some (SV.v (VS e.fst.p),cU e,b),true=true]:=by kernel_rfl
theorem NB (es:VQ)(cl:Nat)(seen:List Nat)(m:List SV)(k:Nat)(e:cp):reach dZ 2 60 (Jg es cl seen m k e false) (ff [0] false) [(0,0),(1,1),(2,2),(3,3),(4,4)] [1,4] (qT (.sl 4 0 k none)) 6 (rN es cl (seen++[e.2]) m)=[0=0,Fn.func 106=Fn.func 106,0=0,0=0/\k=k/\nZ=none,0=0,cl=cl,es=es,(es.all fun e=>aw e.fst&&aw e.snd.fst)=true,(match false with|true=>some 0|false=>List.lookup 1 [(1,1),(2,2),(3,3),(4,4)])=some 1,cl=cl,seen++[(mI e).snd.2]=seen++[e.2],cl=cl,m=m,m.all ab=true,false=false]:=by kernel_rfl
theorem Ov (es:VQ)(cl:Nat)(seen:List Nat)(m w m':List SV)(k:Nat)(e:cp):reach dZ 2 60 (Jg es cl seen m k e true) [(0,.b true),(1,.app m w)] [(0,0),(1,1),(2,2),(3,3),(4,6)] [1,4] (qT (.sl 4 0 (k+1) none)) 6 (rN es cl (seen++[e.2]) m')=[0=0,Fn.func 106=Fn.func 106,0=0,0=0/\k+1=k+1/\nZ=none,0=0,cl=cl,es=es,(es.all fun e=>aw e.fst&&aw e.snd.fst)=true,(match false with|true=>some 0|false=>List.lookup 1 [(1,1),(2,2),(3,3),(4,6)])=some 1,cl=cl,seen++[(mI e).snd.2]=seen++[e.2],cl=cl,m++w=m',m'.all ab=true,((List.take 1 (List.drop 0 (aQ (List.replicate 1 (List.map SV.v [VS ⟨⟨[]⟩⟩])).flatten 0 [SV.v (VS e.fst.1)]))=w/\w.length=1*1)/\1≠0/\(2*(k+1)+1024)*16<=140737488355328)/\List.take (k*1) m=m/\m.length=k*1/\w.all SV.flat=true,true=true]:=by kernel_rfl
theorem Kz (es:VQ)(cl:Nat)(seen:List Nat):ao dZ 90 60 (JR es cl seen) VP (.slice none 0 0)=[VT none 0 0=VT none 0 0,VT none 0 0=VT none 0 0/\Value.func (Fn.func 89) { toList:=[]:Array Value } { toList:=[]:Array Value }=Value.func (Fn.func 89) { toList:=[]:Array Value } { toList:=[]:Array Value }]:=by kernel_rfl
theorem Kh (es:VQ)(cl:Nat)(seen:List Nat)(m m':List SV)(k:Nat):bY dZ 90 60 (I4 es cl seen m k) VP (.sl 4 0 k none) 4 (.row m' 9 (0,0) (some 1))=[0=0/\k=k/\nZ=none,strs (bA (fl m))=m',m'.all ab=true,m=strs (fl m)/\k=(fl m).length/\Bt (fl m)/\9=9/\(0,0)=(0,0)/\1=1/\Value.func (Fn.func 89) { toList:=[]:Array Value } { toList:=[]:Array Value }=Value.func (Fn.func 89) { toList:=[]:Array Value } { toList:=[]:Array Value }]:=by kernel_rfl
def fA (b:Nat):Value:=.pointer (some ⟨b,0,none⟩)
def zF (e:cp):MapEntry:={ key:=.string e.1.p,val:=.agg #[.int .i64 e.1.k,.slice e.1.a e.1.l e.1.c],born:=e.2 }
theorem oB {ν:aP}:∀ E:List cp,eI ν (E.map mI) (E.map zF)
 | []=>rfl
 | e::E=>⟨zF e,E.map zF,rfl,VR.ae.2 rfl,VR.bx.2 ⟨_,rfl,au.lits ν [.int .i64 e.1.k,.slice e.1.a e.1.l e.1.c]⟩,rfl,oB E⟩
theorem rJ {ν:aP}:∀ {E:List cp} {l:List MapEntry},eI ν (E.map mI) l->l=E.map zF
 | [],_,h=>h
 | e::E,_,h=>by
  obtain⟨z,zs,rfl,h1,h2,h3,h4⟩:=h
  have e1:z.key=.string e.1.p:=VR.ae.1 h1
  obtain⟨a,hq,ha⟩:=VR.bx.1 h2
  have e2:a=[.int .i64 e.1.k,.slice e.1.a e.1.l e.1.c]:=gi ha (au.lits ν [.int .i64 e.1.k,.slice e.1.a e.1.l e.1.c])
  subst e2
  rw[rJ h4,WC]
  congr 1
  cases z;simp only at e1 hq h3;subst e1 hq;rw[<- h3];rfl
structure kO (w:World)(b m:Nat)(E:List cp)(cl:Nat):Prop where
 row:w.heap[b]?=some (.cells #[.map (some m)] 96 (0,0))
 map:w.heap[m]?=some (.map (E.map zF).toArray cl)
theorem zG {E:List cp}(hb:(E.map fun e=>e.2).Nodup){x:cp}(hx:x∈E){seen:List Nat}(hs:seen.contains x.2=false):(E.filter fun y=>(seen++[x.2]).contains y.2).Perm ((E.filter fun y=>seen.contains y.2)++[x]):=by
 induction E with
 | nil=>cases hx
 | cons y E ih=>
  rw[WC,W3]at hb
  have hc:∀ z:cp,(seen++[x.2]).contains z.2=(seen.contains z.2||(z.2==x.2)):=fun z=>by
   rw[Yh];simp[W6,XH]
  by_cases hyx:y.2=x.2
  ·have hyE:∀ z∈E,(z.2==x.2)=false:=fun z hz=>by
    rw[Wr];intro h;exact hb.1 (Wb.2 ⟨z,hz,by rw[h,hyx]⟩)
   have hye:y=x:=by
    rcases V8.1 hx with h|h
    ·exact h.symm
    ·exact absurd (Wb.2 ⟨x,h,hyx.symm⟩) hb.1
   subst hye;have h1:(E.filter fun z=>(seen++[y.2]).contains z.2)=E.filter fun z=>seen.contains z.2:=List.filter_congr fun z hz=>by rw[hc z,hyE z hz,Bool.or_false]
   rw[X4 (by rw[hc y];simp),X5 (by simp only[hs];decide),h1];exact List.perm_append_comm (l₁:=[y])
  ·have hxE:x∈E:=by
    rcases V8.1 hx with h|h
    ·exact absurd (by rw[h]) hyx
    ·exact h
   have ih:=ih hb.2 hxE;have hcy:(seen++[x.2]).contains y.2=seen.contains y.2:=by rw[hc y,Wr.2 hyx,Bool.or_false]
   cases hq:seen.contains y.2
   ·rw[X5 (by rw[hcy,hq];decide),X5 (by rw[hq];decide)];exact ih
   ·rw[X4 (by rw[hcy,hq]),X4 (by rw[hq])];exact ih.cons y
def kP (E:List cp)(D:ByteArray->Bool)(seen:List Nat)(YN:List ByteArray):Prop:=YN.Perm (((E.filter fun y=>seen.contains y.2).map fun e=>e.1.p).filter D)
theorem kP.start {E:List cp}{D:ByteArray->Bool}:kP E D [] []:=by
 have:(E.filter fun y=>([]:List Nat).contains y.2)=[]:=List.filter_eq_nil_iff.2 fun y _=>by simp
 unfold kP;rw[this];exact List.Perm.refl _
theorem kP.next {E:List cp}{D:ByteArray->Bool}{seen:List Nat}{YN:List ByteArray}(h:kP E D seen YN)(hb:(E.map fun e=>e.2).Nodup){x:cp}(hx:x∈E)(hs:seen.contains x.2=false):kP E D (seen++[x.2]) (YN++if D x.1.p=true then [x.1.p] else []):=by
 have h1:=((zG hb hx hs).map fun e=>e.1.p).filter D;rw[Wq,List.filter_append]at h1;refine List.Perm.trans ?_ h1.symm;refine List.Perm.append h ?_;cases hd:D x.1.p<;>simp[hd]
theorem kP.all {E:List cp}{D:ByteArray->Bool}{seen:List Nat}{YN:List ByteArray}(h:kP E D seen YN)(ha:∀ e∈E,seen.contains e.2=true):YN.Perm ((E.map fun e=>e.1.p).filter D):=by
 have:(E.filter fun y=>seen.contains y.2)=E:=XN.2 ha;unfold kP at h;rw[this]at h;exact h
theorem kP.len {E:List cp}{D:ByteArray->Bool}{seen:List Nat}{YN:List ByteArray}(h:kP E D seen YN):YN.length<=E.length:=by
 rw[h.length_eq];refine Wh (XQ _ _) ?_;rw[WH];exact XQ _ _
theorem kP.size {E:List cp}{cl:Nat}{D:ByteArray->Bool}{seen:List Nat}{YN:List ByteArray}(h:kP E D seen YN)(hB:dQ E cl):∀ s∈YN,s.size<=1000000000:=fun s hs=>by
 obtain⟨e,he,rfl⟩:=Wb.1 (Wo.1 (h.mem_iff.1 hs)).1
 exact hB.size e (Wo.1 he).1
theorem gF {l m:List ByteArray}(h:l.Perm m):bA l=bA m:=jK (kH m) ((bz m).trans h.symm)
def DZ (w0:World)(l:List ByteArray)(e:Ending)(w':World):Prop:=Below w0.heap.size w0 w'/\∃ v,e=.returned v/\((l=[]/\v=.slice none 0 0)\/(l≠[]/\cF w0 w' v (l.map Value.string) l.length 1 9))
def Cm (W:World)(x1:Nat)(D:ByteArray->Bool):Prop:=∀ w,W.hp.Sub w.hp->∀ q:ByteArray,q.size<=1000000000->Calls Tryz.prog 106 #[.string q,fA x1] w fun e w'=>Below w.heap.size w w'/\e=.returned (.bool (D q))
section
variable {W:World}{cs0:List Frame}{M:Own}{ν:aP}{x1:Nat}{D:ByteArray->Bool}{E:List cp}{cl:Nat}
theorem Cj (hm:MX W)(hM:∀ z,¬ M z)(hp:Cm W x1 D)(hν2:ν 2=some (x1,0)){S:SM}{q:ByteArray}(hq:q.size<=1000000000){o:List (Nat × gR)}{H:Hp}{M1:Own}{w1:World}(hk:Kept W.hp M W H M1 w1){R:Ending->World->Prop}
  (h1:ah (dT dZ 106 60 S o)) (h2:iy dZ 106 60 S o=eO dZ 106 [.v (.string q),.ptr 2 0] .normal) (h3:ah (dS dZ 106 60 S o (.v (.bool (D q)))))
  (nx:∀ H' M2 w2,Kept W.hp M W H' M2 w2->af dZ M2 w2 cs0 90 R ν (dB dZ 106 60 S o (.v (.bool (D q))))):
  af dZ M1 w1 cs0 90 R ν S:=by
 refine af.gI (qP hM hk.base hm) hk (n:=60) (g:=106) (o:=o) (args:=[.v (.string q),.ptr 2 0]) h1 h2 fun ν' w a hle Yv χ ha=>?_;obtain⟨y0,as0,rfl,q0,ha⟩:=ha.cons_inv;obtain⟨y1,ZK,rfl,q1,ha⟩:=ha.cons_inv;obtain rfl:=ha.ay;obtain rfl:=VR.ae.1 q0;obtain⟨bb,YZ,rfl⟩:=VR.aF.1 q1;have YZ:=YZ.symm.trans (hle 2 (x1,0) hν2);cases YZ;exact (hp w (hk.Y1.trans Yv) q hq).mono fun e w' ⟨hB,he⟩=>⟨hB,_,he,fun M2 Zq=>⟨h3,nx _ M2 w' Zq⟩⟩
theorem yO (hm:MX W)(hM:∀ z,¬ M z)(hB:dQ E cl){seen:List Nat}{H:Hp}{M1:Own}{w1:World}(hk:Kept W.hp M W H M1 w1){R:Ending->World->Prop}
  (YI:(∀ e∈E,seen.contains e.2=true)->af dZ M1 w1 cs0 90 R ν (JR (E.map mI) cl seen)) (Ψ:∀ x∈E,seen.contains x.2=false->af dZ M1 w1 cs0 90 R ν (D5 (E.map mI) cl seen (mI x))):
  af dZ M1 w1 cs0 90 R ν (IB (E.map mI) cl seen):=by
 have K:=qP hM hk.base hm;refine af.go K (FJ (E.map mI) cl seen) (by unfold SH.ob;rw[HK];trivial) ?_;refine af.next K (IW (E.map mI) cl seen) ?_ (fun e he hs=>?_) fun YM=>?_
 ·cases he:(!seen.isEmpty&&!(E.map mI).isEmpty&&(E.map mI).all fun e=>Nat.ble cl e.2.2)
  ·rfl
  ·rw[V6,V6,Wn]at he;obtain⟨⟨_,h2⟩,h3⟩:=he;cases hE:E with
   | nil=>rw[hE]at h2;cases h2
   | cons x E'=>
    have hx:x∈E:=by rw[hE];exact Wj
    have h4:=Wu (h3 (mI x) (Wb.2 ⟨x,hx,rfl⟩));have h5:=hB.born x hx;have h4':cl<=x.2:=h4;omega
 ·obtain⟨x,hx,rfl⟩:=Wb.1 he;exact⟨_,Jw (E.map mI) cl seen (mI x),by unfold SH.ob;rw[Iv];trivial,Ψ x hx hs⟩
 ·refine⟨_,JM (E.map mI) cl seen,by unfold SH.ob;rw[Ii];trivial,YI fun x hx=>?_⟩;cases hc:seen.contains x.2
  ·have h1:=YM (mI x) (Wb.2 ⟨x,hx,rfl⟩) hc;have h2:Nat.blt x.2 cl=false:=h1;have h3:=hB.born x hx;have h4:Nat.blt x.2 cl=true:=by simp[Nat.blt_eq];omega
   rw[h4]at h2;cases h2
  ·rfl
theorem zU (hm:MX W)(hM:∀ z,¬ M z)(hB:dQ E cl){seen:List Nat}{YN:List ByteArray}{H:Hp}{M1:Own}{w1:World}(hk:Kept W.hp M W H M1 w1){R:Ending->World->Prop}
  (YI:(∀ e∈E,seen.contains e.2=true)->af dZ M1 w1 cs0 90 R ν (I4 (E.map mI) cl seen (strs YN) YN.length)) (Ψ:∀ x∈E,seen.contains x.2=false->af dZ M1 w1 cs0 90 R ν (DQ (E.map mI) cl seen (strs YN) YN.length (mI x))):
  af dZ M1 w1 cs0 90 R ν (IJ (E.map mI) cl seen (strs YN) YN.length):=by
 have K:=qP hM hk.base hm;refine af.go K (Gi (E.map mI) cl seen (strs YN) YN.length) (by unfold SH.ob;rw[FD];trivial) ?_;refine af.next K (Iu (E.map mI) cl seen (strs YN) YN.length) ?_ (fun e he hs=>?_) fun YM=>?_
 ·cases he:(!seen.isEmpty&&!(E.map mI).isEmpty&&(E.map mI).all fun e=>Nat.ble cl e.2.2)
  ·rfl
  ·rw[V6,V6,Wn]at he;obtain⟨⟨_,h2⟩,h3⟩:=he;cases hE:E with
   | nil=>rw[hE]at h2;cases h2
   | cons x E'=>
    have hx:x∈E:=by rw[hE];exact Wj
    have h4:=Wu (h3 (mI x) (Wb.2 ⟨x,hx,rfl⟩));have h5:=hB.born x hx;have h4':cl<=x.2:=h4;omega
 ·obtain⟨x,hx,rfl⟩:=Wb.1 he;exact⟨_,J9 (E.map mI) cl seen (strs YN) YN.length (mI x),by unfold SH.ob;rw[Jy];trivial,Ψ x hx hs⟩
 ·refine⟨_,Is (E.map mI) cl seen (strs YN) YN.length,by unfold SH.ob;rw[JE];trivial,YI fun x hx=>?_⟩;cases hc:seen.contains x.2
  ·have h1:=YM (mI x) (Wb.2 ⟨x,hx,rfl⟩) hc;have h2:Nat.blt x.2 cl=false:=h1;have h3:=hB.born x hx;have h4:Nat.blt x.2 cl=true:=by simp[Nat.blt_eq];omega
   rw[h4]at h2;cases h2
  ·rfl
theorem HB (hm:MX W)(hM:∀ z,¬ M z)(hB:dQ E cl)(YO:E.length<=1000)(hp:Cm W x1 D)(hν2:ν 2=some (x1,0))(hν:∀ i b,ν i=some b->i=0\/i=1\/i=2):∀ (n:Nat) (seen:List Nat) (YN:List ByteArray),(E.filter fun x=>!seen.contains x.2).length<=n->kP E D seen YN->YN≠[]->∀ H M1 w1,Kept W.hp M W H M1 w1->
  af dZ M1 w1 cs0 90 (DZ W (bA ((E.map fun e=>e.1.p).filter D))) ν (IJ (E.map mI) cl seen (strs YN) YN.length):=by
 intro n;induction n with
 | zero=>
  intro seen YN hn hg Yu H M1 w1 hk;refine zU hm hM hB hk (fun YM=>?_) fun x hx hs=>?_;rotate_left
  ·have:x∈E.filter fun x=>!seen.contains x.2:=Wo.2 ⟨hx,by show (!seen.contains x.2)=true;rw[hs];rfl⟩;rw[Wd.1 (Nat.le_zero.1 hn)]at this;cases this
  ·have hpm:=hg.all YM;have hso:=gF hpm;have hln:(bA YN).length=YN.length:=(bz YN).length_eq;have hgl:=hg.len;have hsne:bA YN≠[]:=fun h=>Yu (Wd.1 (by rw[<- hln,h];rfl))
   refine af.bY (qP hM hk.base hm) (n:=60) (o:=VP) (x:=.sl 4 0 YN.length none) (i:=4) (so:=.row (strs (bA YN)) 9 (0,0) (some 1)) (by
    rw[Kh];simp only[ah,jI,bL,VV,VX,VW];exact⟨Yu,by omega,hg.size hB⟩) fun ν' w' y b1 ob hv hb ho YA hw Zh=>?_
   obtain⟨M3,w3,M4,s',hBb,hr⟩:=Zh
   have hn:W.heap.size<=b1.1:=by
    rcases hk.base.own _ hw with h|h
    ·exact h
    ·exact absurd h (hM _)
   rw[<- hso];exact⟨aB hM (hk.base.trans hBb) hr,y,rfl,.inr ⟨hsne,by rw[hln];exact cF.gb hv hb ho YA hn fun zs hz=>lX hz⟩⟩
 | succ n ih=>
  intro seen YN hn hg Yu H M1 w1 hk;refine zU hm hM hB hk (fun YM=>?_) fun x hx hs=>?_
  ·have hpm:=hg.all YM;have hso:=gF hpm;have hln:(bA YN).length=YN.length:=(bz YN).length_eq;have hgl:=hg.len;have hsne:bA YN≠[]:=fun h=>Yu (Wd.1 (by rw[<- hln,h];rfl))
   refine af.bY (qP hM hk.base hm) (n:=60) (o:=VP) (x:=.sl 4 0 YN.length none) (i:=4) (so:=.row (strs (bA YN)) 9 (0,0) (some 1)) (by
    rw[Kh];simp only[ah,jI,bL,VV,VX,VW];exact⟨Yu,by omega,hg.size hB⟩) fun ν' w' y b1 ob hv hb ho YA hw Zh=>?_
   obtain⟨M3,w3,M4,s',hBb,hr⟩:=Zh
   have hn:W.heap.size<=b1.1:=by
    rcases hk.base.own _ hw with h|h
    ·exact h
    ·exact absurd h (hM _)
   rw[<- hso];exact⟨aB hM (hk.base.trans hBb) hr,y,rfl,.inr ⟨hsne,by rw[hln];exact cF.gb hv hb ho YA hn fun zs hz=>lX hz⟩⟩
  ·have hn2:=mn hx hs hn;have hfb:=kK hB.Zi hx;have hfx:∃ (Yz:Nat) (b:Nat),(seen++[(mI x).snd.snd]).getLast?=some Yz/\List.find? (fun e=>e.snd.snd.beq Yz) (E.map mI)=some (SV.v (Value.string x.fst.p),cU x,b):=⟨x.2,x.2,gV,hfb⟩;have YJ:=cK E;have hgn:=hg.next hB.Zi hx hs;have YX:=hB.size x hx;have hgl:=hg.len;refine Cj hm hM hp hν2 YX hk (o:=I9 x) ?_ (by kernel_rfl) ?_ fun H' M2 w2 Zy=>?_
   ·rw[OA];simp only[ah,VV,VX,VW];exact hfx
   ·rw[NT];simp only[ah,VV,VX,VW];exact hfx
   ·cases hd:D x.1.p
    ·rw[hd,if_neg (by decide),W4]at hgn;refine af.reach (qP hM Zy.base hm) (k:=2) (n:=60) (o:=ff [0] false) (ren:=[(0,0),(1,1),(2,2),(3,3),(4,4)]) (eqs:=[1,4]) (S:=Jg (E.map mI) cl seen (strs YN) YN.length x false) ?_ (by kernel_rfl) (fun i b h=>by rcases hν i b h with h|h|h<;>rw[h]<;>rfl) (ih (seen++[x.2]) YN hn2 hgn Yu H' M2 w2 Zy);rw[NB];simp only[ah,YJ,bL,VV,VX,VW];repeat' apply And.intro
     all_goals first|rfl|skip
    ·rw[hd,if_pos rfl]at hgn;have nx:=ih (seen++[x.2]) (YN++[x.1.p]) hn2 hgn (by simp) H' M2 w2 Zy;rw[V7,show ([x.1.p]:List ByteArray).length=1 from rfl]at nx;refine af.reach (qP hM Zy.base hm) (k:=2) (n:=60) (o:=[(0,.b true),(1,.app (strs YN) [.v (.string x.1.p)])]) (ren:=[(0,0),(1,1),(2,2),(3,3),(4,6)]) (eqs:=[1,4]) (S:=Jg (E.map mI) cl seen (strs YN) YN.length x true) ?_ (by kernel_rfl) (fun i b h=>by rcases hν i b h with h|h|h<;>rw[h]<;>rfl) nx;rw[Ov];simp only[ah,YJ,bL,pM,iK,tJ,oE,WL,VV,VX,VW];repeat' apply And.intro
     all_goals first|rfl|omega|exact We (by rw[iK];omega)|skip
theorem Gv (hm:MX W)(hM:∀ z,¬ M z)(hB:dQ E cl)(YO:E.length<=1000)(hp:Cm W x1 D)(hν2:ν 2=some (x1,0))(hν:∀ i b,ν i=some b->i=0\/i=1\/i=2):∀ (n:Nat) (seen:List Nat),(E.filter fun x=>!seen.contains x.2).length<=n->kP E D seen []->∀ H M1 w1,Kept W.hp M W H M1 w1->
  af dZ M1 w1 cs0 90 (DZ W (bA ((E.map fun e=>e.1.p).filter D))) ν (IB (E.map mI) cl seen):=by
 intro n;induction n with
 | zero=>
  intro seen hn hg H M1 w1 hk;refine yO hm hM hB hk (fun YM=>?_) fun x hx hs=>?_;rotate_left
  ·have:x∈E.filter fun x=>!seen.contains x.2:=Wo.2 ⟨hx,by show (!seen.contains x.2)=true;rw[hs];rfl⟩;rw[Wd.1 (Nat.le_zero.1 hn)]at this;cases this
  ·have hpm:=hg.all YM;have hso:=gF hpm;have h0:bA ([]:List ByteArray)=[]:=Wd.1 (bz []).length_eq;refine af.ao (qP hM hk.base hm) (n:=60) (o:=VP) (v:=.slice none 0 0) ?_ fun ν' M3 w3 s' w' _ Zh hr=>⟨aB hM (hk.base.trans Zh) hr,_,rfl,.inl ⟨by rw[<- hso,h0],rfl⟩⟩;rw[Kz];simp only[ah,VV,VX,VW]
 | succ n ih=>
  intro seen hn hg H M1 w1 hk;refine yO hm hM hB hk (fun YM=>?_) fun x hx hs=>?_
  ·have hpm:=hg.all YM;have hso:=gF hpm;have h0:bA ([]:List ByteArray)=[]:=Wd.1 (bz []).length_eq;refine af.ao (qP hM hk.base hm) (n:=60) (o:=VP) (v:=.slice none 0 0) ?_ fun ν' M3 w3 s' w' _ Zh hr=>⟨aB hM (hk.base.trans Zh) hr,_,rfl,.inl ⟨by rw[<- hso,h0],rfl⟩⟩;rw[Kz];simp only[ah,VV,VX,VW]
  ·have hn2:=mn hx hs hn;have hfb:=kK hB.Zi hx;have hfx:∃ (Yz:Nat) (b:Nat),(seen++[(mI x).snd.snd]).getLast?=some Yz/\List.find? (fun e=>e.snd.snd.beq Yz) (E.map mI)=some (SV.v (Value.string x.fst.p),cU x,b):=⟨x.2,x.2,gV,hfb⟩;have YJ:=cK E;have hgn:=hg.next hB.Zi hx hs;have YX:=hB.size x hx;refine Cj hm hM hp hν2 YX hk (o:=I6 x) ?_ (by kernel_rfl) ?_ fun H' M2 w2 Zy=>?_
   ·rw[OF];simp only[ah,VV,VX,VW];exact hfx
   ·rw[Np];simp only[ah,VV,VX,VW];exact hfx
   ·cases hd:D x.1.p
    ·rw[hd,if_neg (by decide)]at hgn;refine af.reach (qP hM Zy.base hm) (k:=2) (n:=60) (o:=ff [0] false) (ren:=[(0,0),(1,1),(2,2),(3,3)]) (eqs:=[1]) (S:=Ih (E.map mI) cl seen x false) ?_ (by kernel_rfl) (fun i b h=>by rcases hν i b h with h|h|h<;>rw[h]<;>rfl) (ih (seen++[x.2]) hn2 hgn H' M2 w2 Zy);rw[N7];simp only[ah,YJ,VV,VX,VW];repeat' apply And.intro
     all_goals first|rfl|skip
    ·rw[hd,if_pos rfl]at hgn;have nx:=HB (cs0:=cs0) hm hM hB YO hp hν2 hν n (seen++[x.2]) [x.1.p] hn2 hgn (by simp) H' M2 w2 Zy;rw[show ([x.1.p]:List ByteArray).length=1 from rfl]at nx;refine af.reach (qP hM Zy.base hm) (k:=2) (n:=60) (o:=ff [0] true++ff [1] false) (ren:=[(0,0),(1,1),(2,2),(3,3),(4,5)]) (eqs:=[1,4]) (S:=Ih (E.map mI) cl seen x true) ?_ (by kernel_rfl) (fun i b h=>by rcases hν i b h with h|h|h<;>rw[h]<;>rfl) nx;rw[No];simp only[ah,YJ,VV,VX,VW];repeat' apply And.intro
     all_goals first|rfl|skip
end
theorem xM {W:World}{b m x1:Nat}{E:List cp}{cl:Nat}{D:ByteArray->Bool}{cs1:Array Value}{e1:TypeId}{f1:Nat × Nat}(hm:MX W)(hA:kO W b m E cl)(hB:dQ E cl)(YO:E.length<=1000)(hn:[b,m,x1].Nodup)(hx1:W.heap[x1]?=some (.cells cs1 e1 f1))(hp:Cm W x1 D):
  Calls Tryz.prog 90 #[fA b,.func (.func 106) #[] #[fA x1]] W (DZ W (bA ((E.map fun e=>e.1.p).filter D))):=by
 have ho:∀ (j:Nat) (o':SO) (b' c':Nat),[SO.row [.map 1] 96 (0,0) none,SO.map (E.map mI) cl,SO.look []][j]?=some o'->[(b,0),(m,0),(x1,0)][j]?=some (b',c')->∃ r,W.heap[b']?=some r/\OR (aA [(b,0),(m,0),(x1,0)]) j o' r:=by
  intro j o' b' c' q1 q2;match j with
  | 0=>
   simp only[Wa,Option.some.injEq]at q1 q2;subst q1;cases q2;exact⟨_,hA.row,[.map (some m)],[],rfl,au.cons (VR.cQ.2 ⟨(m,0),rfl,rfl⟩) au.nil,rfl⟩
  | 1=>
   simp only[WU,Wa,Option.some.injEq]at q1 q2;subst q1;cases q2;exact⟨_,hA.map,_,rfl,oB E⟩
  | 2=>
   simp only[WU,Wa,Option.some.injEq]at q1 q2;subst q1;cases q2;exact⟨_,hx1,[],_,_,_,rfl,au.nil,fun k y h=>by simp at h⟩
  | j+3=>simp at q1
 refine aW (E:=dZ) rfl (d:=6) (l:=[(b,0),(m,0),(x1,0)]) (os:=[.row [.map 1] 96 (0,0) none,.map (E.map mI) cl,.look []]) rfl (by simp) (by simpa using hn) ho rfl (args:=[.ptr 0 0,Lh]) (a:=[fA b,.func (.func 106) #[] #[fA x1]]) (S0:=Bk (E.map mI) cl) (by kernel_rfl) (au.cons (VR.aF.2 ⟨(b,0),rfl,rfl⟩) (au.cons ?_ au.nil)) fun cs0=>?_
 ·exact VR.eH.2 ⟨[],[fA x1],rfl,au.nil,au.cons (VR.aF.2 ⟨(x1,0),rfl,rfl⟩) au.nil⟩
 have hM:∀ z,¬ (aD [(b,0),(m,0),(x1,0)] ([SO.row [.map 1] 96 (0,0) none,SO.map (E.map mI) cl,SO.look []].map fun o=>(o,false))) z:=fun z=>aZ (os:=[SO.row [.map 1] 96 (0,0) none,SO.map (E.map mI) cl,SO.look []])
 have ZS:=Kept.start (H0:=W.hp) (M:=aD [(b,0),(m,0),(x1,0)] ([SO.row [.map 1] 96 (0,0) none,SO.map (E.map mI) cl,SO.look []].map fun o=>(o,false))) (w:=W) (Hp.Sub.refl _) (fun z o _=>hM z) (dN (by
  intro j o' m' b' c' q1 q2;rw[Wv]at q1;obtain⟨o2,q3,q4⟩:=Wg.1 q1;cases q4;exact ho j o' b' c' q3 q2)) (fun _ h=>h)
 have hν:∀ i b',aA [(b,0),(m,0),(x1,0)] i=some b'->i=0\/i=1\/i=2:=fun i b' h=>by
  match i with
  | 0=>exact .inl rfl
  | 1=>exact .inr (.inl rfl)
  | 2=>exact .inr (.inr (rfl))
  | i+3=>simp[aA]at h
 have nx:=Gv (cs0:=cs0) (ν:=aA [(b,0),(m,0),(x1,0)]) hm hM hB YO hp rfl hν (E.filter fun x=>!([]:List Nat).contains x.2).length [] (Wx _) kP.start W.hp _ W ZS;refine af.reach (qP hM ZS.base hm) (k:=2) (n:=60) (o:=VP) (ren:=[(0,0),(1,1),(2,2),(3,3)]) (eqs:=[1]) (F:=qT bZ) (d:=6) (l:=rG (E.map mI) cl []) ?_ (by kernel_rfl) (fun i b h=>by rcases hν i b h with h|h|h<;>rw[h]<;>rfl) nx;rw[Qn];simp only[ah,cK,bZ,VV,VX,VW];repeat' apply And.intro
 all_goals first|rfl|skip
section
variable {W:World}{cs0:List Frame}{M:Own}{ν:aP}{x1 x2:Nat}{D:ByteArray->Bool}{E:List cp}{cl:Nat}
end
def OV:Env:=EP [(107,mN)] []
def LY (p:ByteArray):Option (SO × Bool):=some (.row [.v (.string p)] 9 (0,0) none,false)
def Km (q p:ByteArray):SM:=(a6 OV 106 [.v (.string q),.ptr 0 0] (bG 6 1 0 [LY p])).getD dn
theorem T3 (q p:ByteArray)(v:Value):ao OV 106 60 (Km q p) VP v=[VU (dR q p)=v,q.size<=1000000000/\p.size<=1000000000]:=by kernel_rfl
theorem RQ {M:Own}{w0:World}(hM:∀ z,¬ M z)(h:MX w0):aK OV M w0:=Pb hM h fun r hr=>by rw[Wl.1 hr];exact F6
theorem HI {w:World}{x:Nat}{q p:ByteArray}(hm:MX w)(hx:w.heap[x]?=some (.cells #[.string p] 9 (0,0)))(hq:q.size<=1000000000)(hp:p.size<=1000000000):
  Calls Tryz.prog 106 #[.string q,fA x] w fun e w'=>Below w.heap.size w w'/\e=.returned (.bool (dR q p)):=by
 refine aW (E:=OV) rfl (d:=6) (l:=[(x,0)]) (os:=[.row [.v (.string p)] 9 (0,0) none]) rfl (by simp) (by simp) ?_ rfl (args:=[.v (.string q),.ptr 0 0]) (a:=[.string q,fA x]) (S0:=Km q p) (by kernel_rfl) (au.cons (VR.ae.2 rfl) (au.cons (VR.aF.2 ⟨(x,0),rfl,rfl⟩) au.nil)) fun cs0=>?_
 ·intro j o' b' c' h1 h2;match j with
  | 0=>
   simp only[Wa,Option.some.injEq]at h1 h2;subst h1;cases h2;exact⟨_,hx,[.string p],[],rfl,au.cons (VR.ae.2 rfl) au.nil,rfl⟩
  | j+1=>simp at h1
 ·refine cg (RQ (fun z=>aZ (os:=[_])) hm) (fun z=>aZ (os:=[_])) (n:=60) (o:=VP) (v:=.bool (dR q p)) ⟨?_⟩ fun w' hw=>⟨hw,rfl⟩;rw[T3];simp only[ah,VW,VX];exact⟨hq,hp⟩
def cy (p:ByteArray)(E:List cp):List ByteArray:=bA ((E.map fun e=>e.1.p).filter fun q=>dR q p)
theorem wu {w:World}{b m cl:Nat}{E:List cp}{p:ByteArray}(hm:MX w)(hA:kO w b m E cl)(Yu:b≠m)(hB:dQ E cl)(YO:E.length<=1000)(hp:p.size<=1000000000):
  Calls Tryz.prog 83 #[fA b,.string p] w (DZ w (cy p E)):=by
 have hbl:b<w.heap.size:=(VY.1 hA.row).1;have hml:m<w.heap.size:=(VY.1 hA.map).1;have hb:Below w.heap.size w (w.alloc (.cells #[.string p] 9)):=(Below.refl _ _).alloc (Wx _) _;have hm':MX (w.alloc (.cells #[.string p] 9)):=hm.keep fun k hk=>hb.block k hk
 have hx:(w.alloc (.cells #[.string p] 9)).heap[w.heap.size]?=some (.cells #[.string p] 9 (0,0)):=by
  show (w.heap.push _)[w.heap.size]?=some _;rw[Array.getElem?_push_size]
 have hA':kO (w.alloc (.cells #[.string p] 9)) b m E cl:=⟨(hb.block b hbl).trans hA.row,(hb.block m hml).trans hA.map⟩
 have cs:=xM (x1:=w.heap.size) (D:=fun q=>dR q p) hm' hA' hB YO (by simp;omega) hx (fun w2 hs q hq=>HI (hm'.keep fun k hk=>by
  have h1:=hs k (w.alloc (.cells #[.string p] 9)).heap[k] (WT hk);rw[WT hk];exact h1) (hs _ _ hx) hq hp)
 clear hA hA' hx;have HE:=Lib.hid (show cy p E=bA ((E.map fun e=>e.1.p).filter fun q=>dR q p) from rfl);go_enter Tryz.func83,Tryz.ntmps83
 go_wp2_with (go_at_call 90;refine cs.mono ?_;rintro e w' ⟨YW,v,rfl,hv⟩)
 go_ret
 have h3:w.heap.size<=(w.alloc (.cells #[.string p] 9)).heap.size:=hb.size;refine⟨hb.trans (YW.mono h3),_,rfl,?_⟩;rw[HE.out];rcases hv with hv|⟨Yu,g,c,rest,h4,h5,h6⟩
 ·exact .inl hv
 ·exact .inr ⟨Yu,g,c,rest,h4,Wh h3 h5,h6⟩
def Nx (e:SV × SV × Nat):cp:=match e with
 | (.v (.string p),.agg [.v (.int _ k),.v (.slice a l c)],n)=>(⟨p,k,a,l,c⟩,n)
 | (_,_,n)=>(⟨⟨#[]⟩,0,none,0,0⟩,n)
theorem IP (e:cp):Nx (mI e)=e:=rfl
def mapOf (es:VQ):List cp:=es.map Nx
theorem bj (E:List cp):mapOf (E.map mI)=E:=by
 unfold mapOf;rw[WI];exact (XB fun e _=>IP e).trans (List.map_id E)
def dY (es:VQ)(cl:Nat):Prop:=es=(mapOf es).map mI/\dQ (mapOf es) cl/\(mapOf es).length<=1000
def pU (a:SV)(sh:SH):Option (VQ × Nat × Prop):=match a with
 | .ptr i 0=>match sh.look i with
  | some (.row [.map m] t (0,0) none,_)=>match sh.look m with
   | some (.map es cl,_)=>some (es,cl,t=96/\dY es cl)
   | _=>none
  | some (.row [.v (.map none)] t (0,0) none,_)=>some ([],0,t=96)
  | _=>none
 | _=>none
def Qc:H5:=fun args sh=>match args with
 | [A,.v (.string p)]=>match pU A sh with
  | some (es,cl,q)=>some ((cy p (mapOf es)).map Value.string,(cy p (mapOf es)).length,1,9,none,q/\cy p (mapOf es)≠[]/\p.size<=1000000000)
  | none=>none
 | _=>none
def P6:yC:=fun args sh=>match args with
 | [A,.v (.string p)]=>match pU A sh with
  | some (es,cl,q)=>some (.slice none 0 0,q/\cy p (mapOf es)=[]/\p.size<=1000000000)
  | none=>none
 | _=>none
def Pk:List (FuncId × Sum):=[(81,cq kS),(82,cq jZ),(83,gq (fj Qc) (de P6)),(84,cq C4)]
def lh:Env:={ EP [] [] with YT:=fun f=>Pk.lookup f }
def fL (es:VQ)(cl:Nat)(x:ax):SM:=(a6 lh 52 [.ptr 0 0,.v (.string x.p),jM x] (bG 6 2 0 [tT,xI es cl])).getD dn
theorem Vw (es:VQ)(cl:Nat)(x:ax)(f g:cp)(i j:Nat):ao lh 52 400 (fL es cl x) (ff [1] true++ff [0,2] false++VP) (.int .i64 (aG x.p))=[vZ (aG x.1)=vZ (aG x.1),(!aG x.1==0)=true,x.1.size.le 1000000000]:=by kernel_rfl
theorem TZ (es:VQ)(cl:Nat)(x:ax)(f g:cp)(i j:Nat):ao lh 52 400 (fL es cl x) (ff [3] true++ff [0,1,2,4] false++VP) (.int .i64 (aS x.k x.l))=[vZ (aS x.2 x.4)=vZ (aS x.2 x.4),(!aS x.2 x.4==0)=true,True,(!aG x.1==0)=false,x.1.size.le 1000000000]:=by kernel_rfl
theorem Q0 (es:VQ)(cl:Nat)(x:ax)(f g:cp)(i j:Nat):ao lh 52 400 (fL es cl x) (ff [4,5,6,7,8,9,10,11] true++ff [0,1,2,3,12] false++VP) (.int .i64 22)=[vZ 22=vZ 22,decide ((↑(cy x.1 (mapOf es)).length:Int)>0)=true,(!x.2==2)=true,(!x.2==2)=true,(!x.2==2)=true,(96=96/\dY es cl)/\cy x.1 (mapOf es)≠[]/\x.1.size<=1000000000,(!x.2==2)=true,(!x.2==2)=true,(!x.2==2)=true,(!aS x.2 x.4==0)=false,True,(!aG x.1==0)=false,x.1.size.le 1000000000]:=by kernel_rfl
theorem Tu (es:VQ)(cl:Nat)(x:ax)(f g:cp)(i j:Nat):ao lh 52 400 (fL es cl x) (ff [4,5,6,8,9,10,12] true++ff [0,1,2,3,7,11,13] false++VP) (.int .i64 0)=[vZ 0=vZ 0,(x.2==0)=true,false=false,(!x.2==2)=true,(!x.2==2)=true,(!x.2==2)=true,(96=96/\dY es cl)/\cy x.1 (mapOf es)=[]/\x.1.size<=1000000000,(!x.2==2)=true,(!x.2==2)=true,(!x.2==2)=true,(!aS x.2 x.4==0)=false,True,(!aG x.1==0)=false,x.1.size.le 1000000000]:=by kernel_rfl
theorem Nn (es:VQ)(cl:Nat)(x:ax)(f g:cp)(i j:Nat):ao lh 52 400 (fL es cl x) ([(18,.hit j (cU f) f.2)]++ff [4,5,6,8,9,10,14,15,16,19,20,21,22] true++ff [0,1,2,3,7,11,12,13,17,23] false++VP) (.int .i64 22)=[vZ 22=vZ 22,(!f.fst.2==2)=true,aC x.1=true,aC x.1=true,aC x.1=true,(∀ (e:SV × SV × Nat),e∈List.take j es->a8 (aj x.p) e.fst)/\es[j]?=some (SV.v (VS (aj x.1)),cU f,f.2),false=false,aC x.1=true,aC x.1=true,aC x.1=true,x.1.size.le 1000000000,(x.2==0)=false,false=false,(!x.2==2)=true,(!x.2==2)=true,(!x.2==2)=true,(96=96/\dY es cl)/\cy x.1 (mapOf es)=[]/\x.1.size<=1000000000,(!x.2==2)=true,(!x.2==2)=true,(!x.2==2)=true,(!aS x.2 x.4==0)=false,True,(!aG x.1==0)=false,x.1.size.le 1000000000]:=by kernel_rfl
theorem Om (es:VQ)(cl:Nat)(x:ax)(f g:cp)(i j:Nat):ao lh 52 400 (fL es cl x) ([(18,.cr),(23,.cr)]++ff [4,5,6,8,9,10,14,15,16,19,20,21] true++ff [0,1,2,3,7,11,12,13,17] false++VP) (.int .i64 22)=[vZ 22=vZ 22,aC x.1=true,aC x.1=true,aC x.1=true,∀ (e:SV × SV × Nat),e∈es->a8 (aj x.p) e.fst,false=false,aC x.1=true,aC x.1=true,aC x.1=true,x.1.size.le 1000000000,(x.2==0)=false,false=false,(!x.2==2)=true,(!x.2==2)=true,(!x.2==2)=true,(96=96/\dY es cl)/\cy x.1 (mapOf es)=[]/\x.1.size<=1000000000,(!x.2==2)=true,(!x.2==2)=true,(!x.2==2)=true,(!aS x.2 x.4==0)=false,True,(!aG x.1==0)=false,x.1.size.le 1000000000]:=by kernel_rfl
theorem NY (es:VQ)(cl:Nat)(x:ax)(f g:cp)(i j:Nat):ao lh 52 400 (fL es cl x) ([(21,.hit i (cU g) g.2)]++ff [4,5,6,8,9,10] true++ff [0,1,2,3,7,11,12,13,14,15,16,17,18,19,20,22,23,24,25,26,27,28,29,30] false++VP) (.int .i64 0)=[vZ 0=vZ 0,false=false,false=false,false=false,false=false,false=false,false=false,false=false,false=false,(∀ (e:SV × SV × Nat),e∈List.take i es->a8 x.p e.fst)/\es[i]?=some (SV.v (VS x.1),cU g,g.2),false=false,aC x.1=false,aC x.1=false,aC x.1=false,aC x.1=false,aC x.1=false,aC x.1=false,x.1.size.le 1000000000,(x.2==0)=false,false=false,(!x.2==2)=true,(!x.2==2)=true,(!x.2==2)=true,(96=96/\dY es cl)/\cy x.1 (mapOf es)=[]/\x.1.size<=1000000000,(!x.2==2)=true,(!x.2==2)=true,(!x.2==2)=true,(!aS x.2 x.4==0)=false,True,(!aG x.1==0)=false,x.1.size.le 1000000000]:=by kernel_rfl
theorem NN (es:VQ)(cl:Nat)(x:ax)(f g:cp)(i j:Nat):ao lh 52 400 (fL es cl x) ([(21,.cr)]++ff [4,5,6,8,9,10,22,23,24,25,26,27,28,29] true++ff [0,1,2,3,7,11,12,13,14,15,16,17,18,19,20,30] false++VP) (.int .i64 24)=[vZ 24=vZ 24,decide ((↑es.length:Int)≥128)=true,true=true,true=true,true=true,true=true,true=true,true=true,true=true,∀ (e:SV × SV × Nat),e∈es->a8 x.p e.fst,false=false,aC x.1=false,aC x.1=false,aC x.1=false,aC x.1=false,aC x.1=false,aC x.1=false,x.1.size.le 1000000000,(x.2==0)=false,false=false,(!x.2==2)=true,(!x.2==2)=true,(!x.2==2)=true,(96=96/\dY es cl)/\cy x.1 (mapOf es)=[]/\x.1.size<=1000000000,(!x.2==2)=true,(!x.2==2)=true,(!x.2==2)=true,(!aS x.2 x.4==0)=false,True,(!aG x.1==0)=false,x.1.size.le 1000000000]:=by kernel_rfl
theorem Nr (es:VQ)(cl:Nat)(x:ax)(f g:cp)(i j:Nat):ao lh 52 400 (fL es cl x) ([(21,.cr)]++ff [4,5,6,8,9,10,22,23,24,25,26,27] true++ff [0,1,2,3,7,11,12,13,14,15,16,17,18,19,20,29] false++VP) (.int .i64 0)=[vZ 0=vZ 0,decide ((↑es.length:Int)≥128)=false,true=true,true=true,true=true,true=true,true=true,true=true,∀ (e:SV × SV × Nat),e∈es->a8 x.p e.fst,false=false,aC x.1=false,aC x.1=false,aC x.1=false,aC x.1=false,aC x.1=false,aC x.1=false,x.1.size.le 1000000000,(x.2==0)=false,false=false,(!x.2==2)=true,(!x.2==2)=true,(!x.2==2)=true,(96=96/\dY es cl)/\cy x.1 (mapOf es)=[]/\x.1.size<=1000000000,(!x.2==2)=true,(!x.2==2)=true,(!x.2==2)=true,(!aS x.2 x.4==0)=false,True,(!aG x.1==0)=false,x.1.size.le 1000000000]:=by kernel_rfl
theorem N5 (es:VQ)(cl:Nat)(x:ax)(f g:cp)(i j:Nat):ao lh 52 400 (fL es cl x) ([(18,.hit j (cU f) f.2),(23,.hit i (cU g) g.2)]++ff [4,5,6,8,9,10,14,15,16,19,20,21] true++ff [0,1,2,3,7,11,12,13,17,22,24,25,26,27,28,29,30,31,32] false++VP) (.int .i64 0)=[vZ 0=vZ 0,false=false,false=false,false=false,false=false,false=false,false=false,false=false,false=false,(∀ (e:SV × SV × Nat),e∈List.take i es->a8 x.p e.fst)/\es[i]?=some (SV.v (VS x.1),cU g,g.2),(!f.fst.2==2)=false,aC x.1=true,aC x.1=true,aC x.1=true,(∀ (e:SV × SV × Nat),e∈List.take j es->a8 (aj x.p) e.fst)/\es[j]?=some (SV.v (VS (aj x.1)),cU f,f.2),false=false,aC x.1=true,aC x.1=true,aC x.1=true,x.1.size.le 1000000000,(x.2==0)=false,false=false,(!x.2==2)=true,(!x.2==2)=true,(!x.2==2)=true,(96=96/\dY es cl)/\cy x.1 (mapOf es)=[]/\x.1.size<=1000000000,(!x.2==2)=true,(!x.2==2)=true,(!x.2==2)=true,(!aS x.2 x.4==0)=false,True,(!aG x.1==0)=false,x.1.size.le 1000000000]:=by kernel_rfl
theorem NW (es:VQ)(cl:Nat)(x:ax)(f g:cp)(i j:Nat):ao lh 52 400 (fL es cl x) ([(18,.hit j (cU f) f.2),(23,.cr)]++ff [4,5,6,8,9,10,14,15,16,19,20,21,24,25,26,27,28,29,30,31] true++ff [0,1,2,3,7,11,12,13,17,22,32] false++VP) (.int .i64 24)=[vZ 24=vZ 24,decide ((↑es.length:Int)≥128)=true,true=true,true=true,true=true,true=true,true=true,true=true,true=true,∀ (e:SV × SV × Nat),e∈es->a8 x.p e.fst,(!f.fst.2==2)=false,aC x.1=true,aC x.1=true,aC x.1=true,(∀ (e:SV × SV × Nat),e∈List.take j es->a8 (aj x.p) e.fst)/\es[j]?=some (SV.v (VS (aj x.1)),cU f,f.2),false=false,aC x.1=true,aC x.1=true,aC x.1=true,x.1.size.le 1000000000,(x.2==0)=false,false=false,(!x.2==2)=true,(!x.2==2)=true,(!x.2==2)=true,(96=96/\dY es cl)/\cy x.1 (mapOf es)=[]/\x.1.size<=1000000000,(!x.2==2)=true,(!x.2==2)=true,(!x.2==2)=true,(!aS x.2 x.4==0)=false,True,(!aG x.1==0)=false,x.1.size.le 1000000000]:=by kernel_rfl
theorem Ox (es:VQ)(cl:Nat)(x:ax)(f g:cp)(i j:Nat):ao lh 52 400 (fL es cl x) ([(18,.hit j (cU f) f.2),(23,.cr)]++ff [4,5,6,8,9,10,14,15,16,19,20,21,24,25,26,27,28,29] true++ff [0,1,2,3,7,11,12,13,17,22,31] false++VP) (.int .i64 0)=[vZ 0=vZ 0,decide ((↑es.length:Int)≥128)=false,true=true,true=true,true=true,true=true,true=true,true=true,∀ (e:SV × SV × Nat),e∈es->a8 x.p e.fst,(!f.fst.2==2)=false,aC x.1=true,aC x.1=true,aC x.1=true,(∀ (e:SV × SV × Nat),e∈List.take j es->a8 (aj x.p) e.fst)/\es[j]?=some (SV.v (VS (aj x.1)),cU f,f.2),false=false,aC x.1=true,aC x.1=true,aC x.1=true,x.1.size.le 1000000000,(x.2==0)=false,false=false,(!x.2==2)=true,(!x.2==2)=true,(!x.2==2)=true,(96=96/\dY es cl)/\cy x.1 (mapOf es)=[]/\x.1.size<=1000000000,(!x.2==2)=true,(!x.2==2)=true,(!x.2==2)=true,(!aS x.2 x.4==0)=false,True,(!aG x.1==0)=false,x.1.size.le 1000000000]:=by kernel_rfl
theorem OD (es:VQ)(cl:Nat)(x:ax)(f g:cp)(i j:Nat):ao lh 52 400 (fL es cl x) ([(17,.hit j (cU f) f.2)]++ff [13,14,15,18,19,20,21] true++ff [0,1,2,3,4,5,6,7,8,9,10,11,12,16,22] false++VP) (.int .i64 22)=[vZ 22=vZ 22,(!f.fst.2==2)=true,aC x.1=true,aC x.1=true,aC x.1=true,(∀ (e:SV × SV × Nat),e∈List.take j es->a8 (aj x.p) e.fst)/\es[j]?=some (SV.v (VS (aj x.1)),cU f,f.2),false=false,aC x.1=true,aC x.1=true,aC x.1=true,x.1.size.le 1000000000,(x.2==0)=false,false=false,(!x.2==2)=false,(!x.2==2)=false,(!x.2==2)=false,(!x.2==2)=false,(!x.2==2)=false,(!x.2==2)=false,(!aS x.2 x.4==0)=false,True,(!aG x.1==0)=false,x.1.size.le 1000000000]:=by kernel_rfl
theorem NS (es:VQ)(cl:Nat)(x:ax)(f g:cp)(i j:Nat):ao lh 52 400 (fL es cl x) ([(17,.cr),(22,.cr)]++ff [13,14,15,18,19,20] true++ff [0,1,2,3,4,5,6,7,8,9,10,11,12,16] false++VP) (.int .i64 22)=[vZ 22=vZ 22,aC x.1=true,aC x.1=true,aC x.1=true,∀ (e:SV × SV × Nat),e∈es->a8 (aj x.p) e.fst,false=false,aC x.1=true,aC x.1=true,aC x.1=true,x.1.size.le 1000000000,(x.2==0)=false,false=false,(!x.2==2)=false,(!x.2==2)=false,(!x.2==2)=false,(!x.2==2)=false,(!x.2==2)=false,(!x.2==2)=false,(!aS x.2 x.4==0)=false,True,(!aG x.1==0)=false,x.1.size.le 1000000000]:=by kernel_rfl
theorem Nf (es:VQ)(cl:Nat)(x:ax)(f g:cp)(i j:Nat):ao lh 52 400 (fL es cl x) ([(20,.hit i (cU g) g.2)]++ff [0,1,2,3,4,5,6,7,8,9,10,11,12,13,14,15,16,17,18,19,21,22,23,24,25,26,27,28,29] false++VP) (.int .i64 0)=[vZ 0=vZ 0,false=false,false=false,false=false,false=false,false=false,false=false,false=false,false=false,(∀ (e:SV × SV × Nat),e∈List.take i es->a8 x.p e.fst)/\es[i]?=some (SV.v (VS x.1),cU g,g.2),false=false,aC x.1=false,aC x.1=false,aC x.1=false,aC x.1=false,aC x.1=false,aC x.1=false,x.1.size.le 1000000000,(x.2==0)=false,false=false,(!x.2==2)=false,(!x.2==2)=false,(!x.2==2)=false,(!x.2==2)=false,(!x.2==2)=false,(!x.2==2)=false,(!aS x.2 x.4==0)=false,True,(!aG x.1==0)=false,x.1.size.le 1000000000]:=by kernel_rfl
theorem Ol (es:VQ)(cl:Nat)(x:ax)(f g:cp)(i j:Nat):ao lh 52 400 (fL es cl x) ([(20,.cr)]++ff [21,22,23,24,25,26,27,28] true++ff [0,1,2,3,4,5,6,7,8,9,10,11,12,13,14,15,16,17,18,19,29] false++VP) (.int .i64 24)=[vZ 24=vZ 24,decide ((↑es.length:Int)≥128)=true,true=true,true=true,true=true,true=true,true=true,true=true,true=true,∀ (e:SV × SV × Nat),e∈es->a8 x.p e.fst,false=false,aC x.1=false,aC x.1=false,aC x.1=false,aC x.1=false,aC x.1=false,aC x.1=false,x.1.size.le 1000000000,(x.2==0)=false,false=false,(!x.2==2)=false,(!x.2==2)=false,(!x.2==2)=false,(!x.2==2)=false,(!x.2==2)=false,(!x.2==2)=false,(!aS x.2 x.4==0)=false,True,(!aG x.1==0)=false,x.1.size.le 1000000000]:=by kernel_rfl
theorem NU (es:VQ)(cl:Nat)(x:ax)(f g:cp)(i j:Nat):ao lh 52 400 (fL es cl x) ([(20,.cr)]++ff [21,22,23,24,25,26] true++ff [0,1,2,3,4,5,6,7,8,9,10,11,12,13,14,15,16,17,18,19,28] false++VP) (.int .i64 0)=[vZ 0=vZ 0,decide ((↑es.length:Int)≥128)=false,true=true,true=true,true=true,true=true,true=true,true=true,∀ (e:SV × SV × Nat),e∈es->a8 x.p e.fst,false=false,aC x.1=false,aC x.1=false,aC x.1=false,aC x.1=false,aC x.1=false,aC x.1=false,x.1.size.le 1000000000,(x.2==0)=false,false=false,(!x.2==2)=false,(!x.2==2)=false,(!x.2==2)=false,(!x.2==2)=false,(!x.2==2)=false,(!x.2==2)=false,(!aS x.2 x.4==0)=false,True,(!aG x.1==0)=false,x.1.size.le 1000000000]:=by kernel_rfl
theorem NA (es:VQ)(cl:Nat)(x:ax)(f g:cp)(i j:Nat):ao lh 52 400 (fL es cl x) ([(17,.hit j (cU f) f.2),(22,.hit i (cU g) g.2)]++ff [13,14,15,18,19,20] true++ff [0,1,2,3,4,5,6,7,8,9,10,11,12,16,21,23,24,25,26,27,28,29,30,31] false++VP) (.int .i64 0)=[vZ 0=vZ 0,false=false,false=false,false=false,false=false,false=false,false=false,false=false,false=false,(∀ (e:SV × SV × Nat),e∈List.take i es->a8 x.p e.fst)/\es[i]?=some (SV.v (VS x.1),cU g,g.2),(!f.fst.2==2)=false,aC x.1=true,aC x.1=true,aC x.1=true,(∀ (e:SV × SV × Nat),e∈List.take j es->a8 (aj x.p) e.fst)/\es[j]?=some (SV.v (VS (aj x.1)),cU f,f.2),false=false,aC x.1=true,aC x.1=true,aC x.1=true,x.1.size.le 1000000000,(x.2==0)=false,false=false,(!x.2==2)=false,(!x.2==2)=false,(!x.2==2)=false,(!x.2==2)=false,(!x.2==2)=false,(!x.2==2)=false,(!aS x.2 x.4==0)=false,True,(!aG x.1==0)=false,x.1.size.le 1000000000]:=by kernel_rfl
theorem OK (es:VQ)(cl:Nat)(x:ax)(f g:cp)(i j:Nat):ao lh 52 400 (fL es cl x) ([(17,.hit j (cU f) f.2),(22,.cr)]++ff [13,14,15,18,19,20,23,24,25,26,27,28,29,30] true++ff [0,1,2,3,4,5,6,7,8,9,10,11,12,16,21,31] false++VP) (.int .i64 24)=[vZ 24=vZ 24,decide ((↑es.length:Int)≥128)=true,true=true,true=true,true=true,true=true,true=true,true=true,true=true,∀ (e:SV × SV × Nat),e∈es->a8 x.p e.fst,(!f.fst.2==2)=false,aC x.1=true,aC x.1=true,aC x.1=true,(∀ (e:SV × SV × Nat),e∈List.take j es->a8 (aj x.p) e.fst)/\es[j]?=some (SV.v (VS (aj x.1)),cU f,f.2),false=false,aC x.1=true,aC x.1=true,aC x.1=true,x.1.size.le 1000000000,(x.2==0)=false,false=false,(!x.2==2)=false,(!x.2==2)=false,(!x.2==2)=false,(!x.2==2)=false,(!x.2==2)=false,(!x.2==2)=false,(!aS x.2 x.4==0)=false,True,(!aG x.1==0)=false,x.1.size.le 1000000000]:=by kernel_rfl
theorem Nt (es:VQ)(cl:Nat)(x:ax)(f g:cp)(i j:Nat):ao lh 52 400 (fL es cl x) ([(17,.hit j (cU f) f.2),(22,.cr)]++ff [13,14,15,18,19,20,23,24,25,26,27,28] true++ff [0,1,2,3,4,5,6,7,8,9,10,11,12,16,21,30] false++VP) (.int .i64 0)=[vZ 0=vZ 0,decide ((↑es.length:Int)≥128)=false,true=true,true=true,true=true,true=true,true=true,true=true,∀ (e:SV × SV × Nat),e∈es->a8 x.p e.fst,(!f.fst.2==2)=false,aC x.1=true,aC x.1=true,aC x.1=true,(∀ (e:SV × SV × Nat),e∈List.take j es->a8 (aj x.p) e.fst)/\es[j]?=some (SV.v (VS (aj x.1)),cU f,f.2),false=false,aC x.1=true,aC x.1=true,aC x.1=true,x.1.size.le 1000000000,(x.2==0)=false,false=false,(!x.2==2)=false,(!x.2==2)=false,(!x.2==2)=false,(!x.2==2)=false,(!x.2==2)=false,(!x.2==2)=false,(!aS x.2 x.4==0)=false,True,(!aG x.1==0)=false,x.1.size.le 1000000000]:=by kernel_rfl
def KD:Option (SO × Bool):=some (.row [.v (.map none)] 96 (0,0) none,false)
def HG (f:Value):SM:=(a6 dZ 90 [.ptr 0 0,.v f] (bG 6 1 0 [KD])).getD dn
def jm (x:ax):SM:=(a6 lh 52 [.ptr 0 0,.v (.string x.p),jM x] (bG 6 1 0 [KD])).getD dn
theorem RJ (f:Value):ao dZ 90 60 (HG f) VP (.slice none 0 0)=[VT none 0 0=VT none 0 0,VT none 0 0=VT none 0 0/\Value.func (Fn.func 89) { toList:=[]:Array Value } { toList:=[]:Array Value }=Value.func (Fn.func 89) { toList:=[]:Array Value } { toList:=[]:Array Value }]:=by kernel_rfl
theorem Tj (x:ax):ao lh 52 400 (jm x) (ff [1] true++ff [0,2] false++VP) (.int .i64 (aG x.p))=[vZ (aG x.1)=vZ (aG x.1),(!aG x.1==0)=true,x.1.size.le 1000000000]:=by kernel_rfl
theorem U2 (x:ax):ao lh 52 400 (jm x) (ff [3] true++ff [0,1,2,4] false++VP) (.int .i64 (aS x.k x.l))=[vZ (aS x.2 x.4)=vZ (aS x.2 x.4),(!aS x.2 x.4==0)=true,True,(!aG x.1==0)=false,x.1.size.le 1000000000]:=by kernel_rfl
theorem VB (x:ax):ao lh 52 400 (jm x) (ff [4,5,6,8,9,10,12] true++ff [0,1,2,3,7,11,13] false++VP) (.int .i64 0)=[vZ 0=vZ 0,(x.2==0)=true,false=false,(!x.2==2)=true,(!x.2==2)=true,(!x.2==2)=true,96=96/\cy x.1 (mapOf [])=[]/\x.1.size<=1000000000,(!x.2==2)=true,(!x.2==2)=true,(!x.2==2)=true,(!aS x.2 x.4==0)=false,True,(!aG x.1==0)=false,x.1.size.le 1000000000]:=by kernel_rfl
theorem Qz (x:ax):ao lh 52 400 (jm x) (ff [4,5,6,8,9,10,14,15,16,18,19,20,21] true++ff [0,1,2,3,7,11,12,13,17,22] false++VP) (.int .i64 22)=[vZ 22=vZ 22,true=true,aC x.1=true,aC x.1=true,aC x.1=true,false=false,aC x.1=true,aC x.1=true,aC x.1=true,x.1.size.le 1000000000,(x.2==0)=false,false=false,(!x.2==2)=true,(!x.2==2)=true,(!x.2==2)=true,96=96/\cy x.1 (mapOf [])=[]/\x.1.size<=1000000000,(!x.2==2)=true,(!x.2==2)=true,(!x.2==2)=true,(!aS x.2 x.4==0)=false,True,(!aG x.1==0)=false,x.1.size.le 1000000000]:=by kernel_rfl
theorem Qg (x:ax):ao lh 52 400 (jm x) (ff [4,5,6,8,9,10,21,22,23,24,25,26,27] true++ff [0,1,2,3,7,11,12,13,14,15,16,17,18,19,20,28,29] false++VP) (.int .i64 0)=[vZ 0=vZ 0,false=false,true=true,true=true,true=true,true=true,true=true,true=true,true=true,false=false,aC x.1=false,aC x.1=false,aC x.1=false,aC x.1=false,aC x.1=false,aC x.1=false,x.1.size.le 1000000000,(x.2==0)=false,false=false,(!x.2==2)=true,(!x.2==2)=true,(!x.2==2)=true,96=96/\cy x.1 (mapOf [])=[]/\x.1.size<=1000000000,(!x.2==2)=true,(!x.2==2)=true,(!x.2==2)=true,(!aS x.2 x.4==0)=false,True,(!aG x.1==0)=false,x.1.size.le 1000000000]:=by kernel_rfl
theorem Qi (x:ax):ao lh 52 400 (jm x) (ff [13,14,15,17,18,19,20] true++ff [0,1,2,3,4,5,6,7,8,9,10,11,12,16,21] false++VP) (.int .i64 22)=[vZ 22=vZ 22,true=true,aC x.1=true,aC x.1=true,aC x.1=true,false=false,aC x.1=true,aC x.1=true,aC x.1=true,x.1.size.le 1000000000,(x.2==0)=false,false=false,(!x.2==2)=false,(!x.2==2)=false,(!x.2==2)=false,(!x.2==2)=false,(!x.2==2)=false,(!x.2==2)=false,(!aS x.2 x.4==0)=false,True,(!aG x.1==0)=false,x.1.size.le 1000000000]:=by kernel_rfl
theorem PB (x:ax):ao lh 52 400 (jm x) (ff [20,21,22,23,24,25,26] true++ff [0,1,2,3,4,5,6,7,8,9,10,11,12,13,14,15,16,17,18,19,27,28] false++VP) (.int .i64 0)=[vZ 0=vZ 0,false=false,true=true,true=true,true=true,true=true,true=true,true=true,true=true,false=false,aC x.1=false,aC x.1=false,aC x.1=false,aC x.1=false,aC x.1=false,aC x.1=false,x.1.size.le 1000000000,(x.2==0)=false,false=false,(!x.2==2)=false,(!x.2==2)=false,(!x.2==2)=false,(!x.2==2)=false,(!x.2==2)=false,(!x.2==2)=false,(!aS x.2 x.4==0)=false,True,(!aG x.1==0)=false,x.1.size.le 1000000000]:=by kernel_rfl
def iz (w:World)(b:Nat):Prop:=w.heap[b]?=some (.cells #[.map none] 96 (0,0))
theorem v8 {A:SV}{sh:SH}{es:VQ}{cl:Nat}{q:Prop}(h:pU A sh=some (es,cl,q))(hq:q){ν:aP}{M:Own}{w0 w:World}(hr:HR ν M w0 sh w){y:Value}(hv:VR ν A y):
  ∃ b,y=fA b/\((∃ m,b≠m/\kO w b m (mapOf es) cl/\dY es cl)\/(es=[]/\iz w b)):=by
 unfold pU at h;split at h
 ·rename_i i;split at h
  ·rename_i m t mk hl;split at h
   ·rename_i es' cl' mk2 hm;cases h;obtain⟨rfl,hT⟩:=hq;obtain⟨b,hb,rfl⟩:=VR.aF.1 hv;obtain⟨hi,hgi,b',ob,Yy,ho,YA,_⟩:=hr.look hl;rw[hb]at Yy;cases Yy;obtain⟨hi2,hgi2,b2,Z8,YW,ho2,hor2,_⟩:=hr.look hm
    have him:i≠m:=by
     rintro rfl
     rw[hl]at hm;cases hm
    have Yu:b.1≠b2.1:=fun e=>him (hr.inj i m hi hi2 (by rw[hgi];simp) (by rw[hgi2];simp) b b2 hb YW e);refine⟨b.1,rfl,.inl ⟨b2.1,Yu,⟨?_,?_⟩,hT⟩⟩
    ·obtain⟨ys,rest,rfl,ZQ,hx⟩:=YA;obtain⟨z1,u,rfl,r1,hu⟩:=ZQ.cons_inv;obtain rfl:=hu.ay;obtain⟨b3,hb3,rfl⟩:=VR.cQ.1 r1;rw[YW]at hb3;cases hb3
     have h0:rest=[]:=by
      have:([Value.map (some b2.1)]++rest).length=1:=hx;simpa using this
     subst h0;rw[ho];rfl
    ·obtain⟨l,rfl,hl2⟩:=hor2;rw[hT.1]at hl2;rw[ho2,rJ hl2]
   ·cases h
  ·rename_i t mk hl;cases h;subst hq;obtain⟨b,hb,rfl⟩:=VR.aF.1 hv;obtain⟨hi,hgi,b',ob,Yy,ho,YA,_⟩:=hr.look hl;rw[hb]at Yy;cases Yy;refine⟨b.1,rfl,.inr ⟨rfl,?_⟩⟩;obtain⟨ys,rest,rfl,ZQ,hx⟩:=YA;obtain⟨z1,u,rfl,r1,hu⟩:=ZQ.cons_inv;obtain rfl:=hu.ay;obtain rfl:=VR.ae.1 r1
   have h0:rest=[]:=by
    have:([Value.map none]++rest).length=1:=hx;simpa using this
   subst h0;unfold iz;rw[ho];rfl
  ·cases h
 ·cases h
theorem wR {w:World}{b:Nat}(f:Value)(hm:MX w)(hA:iz w b):Calls Tryz.prog 90 #[fA b,f] w (DZ w []):=by
 refine aW (E:=dZ) rfl (d:=6) (l:=[(b,0)]) (os:=[.row [.v (.map none)] 96 (0,0) none]) rfl (by simp) (by simp) ?_ rfl (args:=[.ptr 0 0,.v f]) (a:=[fA b,f]) (S0:=HG f) (by kernel_rfl) (au.cons (VR.aF.2 ⟨(b,0),rfl,rfl⟩) (au.cons (VR.ae.2 rfl) au.nil)) fun cs0=>?_
 ·intro j o' b' c' h1 h2;match j with
  | 0=>
   simp only[Wa,Option.some.injEq]at h1 h2;subst h1;cases h2;exact⟨_,hA,[.map none],[],rfl,au.cons (VR.ae.2 rfl) au.nil,rfl⟩
  | j+1=>simp at h1
 ·have hM:∀ z,¬ (aD [(b,0)] [(SO.row [.v (.map none)] 96 (0,0) none,false)]) z:=fun z=>aZ (os:=[_])
  have hB:dh (aD [(b,0)] [(SO.row [.v (.map none)] 96 (0,0) none,false)]) w (aD [(b,0)] [(SO.row [.v (.map none)] 96 (0,0) none,false)]) w:=dh.refl (dN (os:=[(SO.row [.v (.map none)] 96 (0,0) none,false)]) (by
   intro j o' m b' c' h1 h2;match j with
   | 0=>
    simp only[Wa,Option.some.injEq]at h1 h2;cases h1;cases h2;exact⟨_,hA,[.map none],[],rfl,au.cons (VR.ae.2 rfl) au.nil,rfl⟩
   | j+1=>simp at h1)) (fun _ h=>h)
  refine cg (qP hM hB hm) hM (n:=60) (o:=VP) (v:=.slice none 0 0) ⟨?_⟩ fun w' hw=>⟨hw,_,rfl,.inl ⟨rfl,rfl⟩⟩;rw[RJ];simp only[ah,VV,VX,VW]
theorem uK {w:World}{b:Nat}{p:ByteArray}(hm:MX w)(hA:iz w b):Calls Tryz.prog 83 #[fA b,.string p] w (DZ w []):=by
 have hbl:b<w.heap.size:=(VY.1 hA).1;have hb:Below w.heap.size w (w.alloc (.cells #[.string p] 9)):=(Below.refl _ _).alloc (Wx _) _;have hm':MX (w.alloc (.cells #[.string p] 9)):=hm.keep fun k hk=>hb.block k hk;have hA':iz (w.alloc (.cells #[.string p] 9)) b:=(hb.block b hbl).trans hA;have cs:=fun f=>wR f hm' hA';clear hA hA';go_enter Tryz.func83,Tryz.ntmps83
 go_wp2_with (go_at_call 90;refine (cs _).mono ?_;rintro e w' ⟨YW,v,rfl,hv⟩)
 go_ret
 have h3:w.heap.size<=(w.alloc (.cells #[.string p] 9)).heap.size:=hb.size;refine⟨hb.trans (YW.mono h3),_,rfl,?_⟩;rcases hv with hv|⟨Yu,_⟩
 ·exact .inl ⟨rfl,hv.2⟩
 ·exact absurd rfl Yu
theorem nS (p:ByteArray):cy p []=[]:=Wd.1 (bz []).length_eq
theorem o5 {A:SV}{sh:SH}{es:VQ}{cl:Nat}{q:Prop}(h:pU A sh=some (es,cl,q))(hq:q){ν:aP}{M:Own}{w0 w:World}(hr:HR ν M w0 sh w)(hX:MX w){p:ByteArray}(hp:p.size<=1000000000){a:List Value}(ha:au ν [A,.v (.string p)] a):
  Calls Tryz.prog 83 a.toArray w (DZ w (cy p (mapOf es))):=by
 obtain⟨y1,ZK,rfl,q1,YH⟩:=ha.cons_inv;obtain⟨y2,as2,rfl,q2,Zx⟩:=YH.cons_inv;obtain rfl:=Zx.ay;obtain rfl:=VR.ae.1 q2;obtain⟨b,rfl,⟨m,Yu,hA,hT⟩|⟨rfl,hA⟩⟩:=v8 h hq hr q1
 ·exact wu hX hA Yu hT.2.1 hT.2.2 hp
 ·rw[show cy p (mapOf [])=[] from nS p];exact uK hX hA
theorem DH:bh Tryz.prog MX (83,gq (fj Qc) (de P6)):=by
 refine bh.br (gJ ⟨_,Tryz.func83,by kernel_rfl,by kernel_rfl⟩ fun args sh ys n C elem ex p h hp ν M w0 w a hr hX ha=>?_) (dO ⟨_,Tryz.func83,by kernel_rfl,by kernel_rfl⟩ fun args sh v p h hp ν M w0 w a hr hX ha=>?_)
 ·dsimp only[Qc]at h;split at h
  ·split at h
   ·rename_i es cl q ht;cases h;refine (o5 ht hp.1 hr hX hp.2.2 ha).mono fun e w' ⟨hB,v,he,h⟩=>⟨hB,v,he,?_⟩;rcases h with ⟨h1,_⟩|⟨_,h3⟩
    ·exact absurd h1 hp.2.1
    ·exact h3
   ·cases h
  ·cases h
 ·dsimp only[P6]at h;split at h
  ·split at h
   ·rename_i es cl q ht;cases h;refine (o5 ht hp.1 hr hX hp.2.2 ha).mono fun e w' ⟨hB,v,he,h⟩=>⟨hB,?_⟩;rcases h with ⟨_,h3⟩|⟨h1,_⟩
    ·rw[he,h3]
    ·exact absurd hp.2.1 h1
   ·cases h
  ·cases h
theorem QZ {M:Own}{w0:World}(hM:∀ z,¬ M z)(h:MX w0):aK lh M w0:=
 aK.uG (Checked.mixed Tryz.checked) (by kernel_rfl) (fh.of iJ rfl dK) (dy.list (X:=MX) (l:=Pk) rfl (fun r hr=>by
  simp only[Pk,V8,Ww,Xc]at hr
  rcases hr with rfl|rfl|rfl|rfl
  ·exact bh.pure (r:=(81,kS)) oU
  ·exact bh.pure (r:=(82,jZ)) (Gp xV)
  ·exact DH
  ·exact bh.pure (r:=(84,C4)) Ef) fun ν s w hr _=>h.keep fun k hk=>hr.frame k hk (hM k)) (fun f g h=>by cases h)
def BJ (E:List cp)(p:ByteArray):Option cp:=E.find? fun e=>pH p e.1
def jR (E:List cp)(p:ByteArray):Int:=match BJ E p with|some e=>e.1.k|none=>0
def eD (E:List cp)(x:ax):Int:=
 if aR x.p=false then 23
 else if aS x.k x.l≠0 then aS x.k x.l
 else if x.k≠2/\cy x.p E≠[] then 22
 else if x.k=0 then 0
 else if aC x.p=true/\jR E (aj x.p)≠2 then 22
 else if BJ E x.p=none/\128<=E.length then 24
 else 0
theorem Fa {E:List cp}(hn:(E.map fun e=>e.1.p).Nodup){f:cp}(hf:f∈E){p:ByteArray}(hp:f.1.p=p):BJ E p=some f:=by
 unfold BJ;cases hq:E.find? (fun e=>pH p e.1) with
 | none=>rw[WY]at hq;exact absurd (eZ.2 hp) (hq f hf)
 | some e=>
  have h1:=WV hq;have h2:e.1.p=p:=eZ.1 (by have h3:=Xp hq;exact h3);obtain⟨i,hi⟩:=WZ h1;obtain⟨j,hj⟩:=WZ hf;have:=ib hn hi hj (by rw[h2,hp]);subst this;rw[hi]at hj;exact hj
theorem Df {E:List cp}{p:ByteArray}(h:∀ e∈E,e.1.p≠p):BJ E p=none:=by
 unfold BJ;rw[WY];intro e he hq;exact h e he (eZ.1 hq)
section
variable {w0:World}{cs0:List Frame}{E:List cp}{cl:Nat}{x:ax}{M:Own}{ν:aP}
theorem HT (hm:MX w0)(hM:∀ z,¬ M z)(hB:dQ E cl)(YO:E.length<=1000)(hp:x.p.size<=1000000000):
  af lh M w0 cs0 52 (fun e w'=>Below w0.heap.size w0 w'/\e=.returned (.int .i64 (eD E x))) ν (fL (E.map mI) cl x):=by
 have K:=QZ hM hm;have hT:dY (E.map mI) cl:=⟨by rw[bj],by rw[bj];exact hB,by rw[bj];exact YO⟩
 have go:∀ {o v},mX (ao lh 52 400 (fL (E.map mI) cl x) o v)->v=.int .i64 (eD E x)->af lh M w0 cs0 52 (fun e w'=>Below w0.heap.size w0 w'/\e=.returned (.int .i64 (eD E x))) ν (fL (E.map mI) cl x):=fun hd e=>
  cg K hM hd fun w' hw=>⟨hw,by rw[e]⟩
 have c1:=iw x.p;have pz:=xa x.p;let z:cp:=(x,0);cases g:aR x.p
 ·have d1:(!aG x.1==(0:Int))=true:=by show (!(aG x.p==0))=true;rw[c1,g];rfl
  refine go (o:=(ff [1] true++ff [0,2] false++VP)) (v:=.int .i64 (aG x.p)) ⟨?_⟩ (by unfold eD;rw[if_pos g];simp[aG,g]);rw[Vw (f:=z) (g:=z) (i:=0) (j:=0)];simp only[ah,d1,VV,VX,VW];exact hp
 have d1:(!aG x.1==(0:Int))=false:=by show (!(aG x.p==0))=false;rw[c1,g];rfl
 by_cases Aa:aS x.k x.l=0
 case neg=>
  have d2:(!aS x.2 x.4==(0:Int))=true:=by simpa using Aa
  refine go (o:=(ff [3] true++ff [0,1,2,4] false++VP)) (v:=.int .i64 (aS x.k x.l)) ⟨?_⟩ (by unfold eD;rw[if_neg (by simp[g]),if_pos Aa]);rw[TZ (f:=z) (g:=z) (i:=0) (j:=0)];simp only[ah,d1,d2,VV,VX,VW];exact hp
 have d2:(!aS x.2 x.4==(0:Int))=false:=by simpa using Aa
 have hit:∀ {q},(∃ f∈E,f.1.p=q)->∃ (f:cp) (j:Nat),BJ E q=some f/\f.1.p=q/\(∀ e∈List.take j (E.map mI),a8 q e.fst)/\(E.map mI)[j]?=some (SV.v (Value.string q),cU f,f.2):=by
  rintro q ⟨f,hf,rfl⟩
  obtain⟨j,hj,_⟩:=pq hB.names hf;exact⟨f,j,Fa hB.names hf rfl,rfl,hj.1,hj.2⟩
 have cr:∀ {q},¬ (∃ f∈E,f.1.p=q)->BJ E q=none/\∀ e∈E.map mI,a8 q e.fst:=fun {q} h=>by
  have h1:∀ e∈E,e.1.p≠q:=fun e he hq=>h ⟨e,he,hq⟩;exact⟨Df h1,j5 h1⟩
 have Z7:(E.map mI).length=E.length:=WH _;by_cases c0:x.k=0
 ·have d0:(x.2==(0:Int))=true:=Xn.2 c0;have d3:(!x.2==(2:Int))=true:=by rw[show x.2=0 from c0];rfl
  by_cases cb:cy x.p E=[]
  ·have Θ:cy x.1 E=[]:=cb;refine go (o:=(ff [4,5,6,8,9,10,12] true++ff [0,1,2,3,7,11,13] false++VP)) (v:=.int .i64 0) ⟨?_⟩ (by unfold eD;rw[if_neg (by simp[g]),if_neg (by simp[Aa]),if_neg (by simp[cb]),if_pos c0]);rw[Tu (f:=z) (g:=z) (i:=0) (j:=0)];simp only[ah,bj,d1,d2,d3,d0,VV,VX,VW];repeat' apply And.intro
   all_goals first|exact hp|exact hT|exact hT.1|exact hT.2.1|exact hT.2.2|exact Θ|skip
  ·have db:decide (((cy x.1 E).length:Int)>(0:Int))=true:=V0 (by have:=Xg.2 cb;exact_mod_cast this);have Θ:cy x.1 E≠[]:=cb;refine go (o:=(ff [4,5,6,7,8,9,10,11] true++ff [0,1,2,3,12] false++VP)) (v:=.int .i64 22) ⟨?_⟩ (by unfold eD;rw[if_neg (by simp[g]),if_neg (by simp[Aa]),if_pos ⟨by omega,cb⟩]);rw[Q0 (f:=z) (g:=z) (i:=0) (j:=0)];simp only[ah,bj,d1,d2,d3,db,VV,VX,VW];repeat' apply And.intro
   all_goals first|exact hp|exact hT|exact hT.1|exact hT.2.1|exact hT.2.2|exact Θ|skip
 have d0:(x.2==(0:Int))=false:=Wr.2 c0;by_cases c2:x.k=2
 ·have d3:(!x.2==(2:Int))=false:=by simpa using c2
  have hN:eD E x=if aC x.p=true/\jR E (aj x.p)≠2 then 22 else if BJ E x.p=none/\128<=E.length then 24 else 0:=by
   unfold eD;rw[if_neg (by simp[g]),if_neg (by simp[Aa]),if_neg (by simp[c2]),if_neg c0]
  cases u:aC x.p
  ·have u':aC x.1=false:=u;rw[u,if_neg (by simp)]at hN;by_cases ht:∃ f∈E,f.1.p=x.p
   ·obtain⟨gg,jj,ga,gp,gj1,gj2⟩:=hit ht;refine go (o:=([(20,.hit jj (cU gg) gg.2)]++ff [0,1,2,3,4,5,6,7,8,9,10,11,12,13,14,15,16,17,18,19,21,22,23,24,25,26,27,28,29] false++VP)) (v:=.int .i64 0) ⟨?_⟩ (by rw[hN,if_neg (by simp[ga])]);rw[Nf (f:=z) (j:=0) (g:=gg) (i:=jj)];simp only[ah,bj,d1,d2,d3,d0,Z7,u',VV,VX,VW];repeat' apply And.intro
    all_goals first|exact hp|exact hT|exact hT.1|exact hT.2.1|exact hT.2.2|exact gj1|exact gj2|skip
   ·obtain⟨ga,gm⟩:=cr ht;by_cases cf:128<=E.length
    ·have df:decide ((E.length:Int)≥(128:Int))=true:=V0 (by omega);refine go (o:=([(20,.cr)]++ff [21,22,23,24,25,26,27,28] true++ff [0,1,2,3,4,5,6,7,8,9,10,11,12,13,14,15,16,17,18,19,29] false++VP)) (v:=.int .i64 24) ⟨?_⟩ (by rw[hN,if_pos ⟨ga,cf⟩]);rw[Ol (f:=z) (j:=0) (g:=z) (i:=0)];simp only[ah,bj,d1,d2,d3,d0,Z7,u',df,VV,VX,VW];repeat' apply And.intro
     all_goals first|exact hp|exact hT|exact hT.1|exact hT.2.1|exact hT.2.2|exact gm|skip
    ·have df:decide ((E.length:Int)≥(128:Int))=false:=V2 (by omega);refine go (o:=([(20,.cr)]++ff [21,22,23,24,25,26] true++ff [0,1,2,3,4,5,6,7,8,9,10,11,12,13,14,15,16,17,18,19,28] false++VP)) (v:=.int .i64 0) ⟨?_⟩ (by rw[hN,if_neg (by omega)]);rw[NU (f:=z) (j:=0) (g:=z) (i:=0)];simp only[ah,bj,d1,d2,d3,d0,Z7,u',df,VV,VX,VW];repeat' apply And.intro
     all_goals first|exact hp|exact hT|exact hT.1|exact hT.2.1|exact hT.2.2|exact gm|skip
  ·have u':aC x.1=true:=u;rw[u]at hN;by_cases hu:∃ f∈E,f.1.p=aj x.p
   ·obtain⟨f,j,fa,fp,hj1,hj2⟩:=hit hu;have hk:jR E (aj x.p)=f.1.k:=by unfold jR;rw[fa]
    rw[hk]at hN;by_cases ck:f.1.k=2
    ·have du:(!f.fst.2==(2:Int))=false:=by simpa using ck
     rw[if_neg (by simp[ck])]at hN;by_cases ht:∃ f∈E,f.1.p=x.p
     ·obtain⟨gg,jj,ga,gp,gj1,gj2⟩:=hit ht;refine go (o:=([(17,.hit j (cU f) f.2),(22,.hit jj (cU gg) gg.2)]++ff [13,14,15,18,19,20] true++ff [0,1,2,3,4,5,6,7,8,9,10,11,12,16,21,23,24,25,26,27,28,29,30,31] false++VP)) (v:=.int .i64 0) ⟨?_⟩ (by rw[hN,if_neg (by simp[ga])]);rw[NA (f:=f) (j:=j) (g:=gg) (i:=jj)];simp only[ah,bj,d1,d2,d3,d0,Z7,u',du,VV,VX,VW];repeat' apply And.intro
      all_goals first|exact hp|exact hT|exact hT.1|exact hT.2.1|exact hT.2.2|exact hj1|exact hj2|exact gj1|exact gj2|skip
     ·obtain⟨ga,gm⟩:=cr ht;by_cases cf:128<=E.length
      ·have df:decide ((E.length:Int)≥(128:Int))=true:=V0 (by omega);refine go (o:=([(17,.hit j (cU f) f.2),(22,.cr)]++ff [13,14,15,18,19,20,23,24,25,26,27,28,29,30] true++ff [0,1,2,3,4,5,6,7,8,9,10,11,12,16,21,31] false++VP)) (v:=.int .i64 24) ⟨?_⟩ (by rw[hN,if_pos ⟨ga,cf⟩]);rw[OK (f:=f) (j:=j) (g:=z) (i:=0)];simp only[ah,bj,d1,d2,d3,d0,Z7,u',du,df,VV,VX,VW];repeat' apply And.intro
       all_goals first|exact hp|exact hT|exact hT.1|exact hT.2.1|exact hT.2.2|exact hj1|exact hj2|exact gm|skip
      ·have df:decide ((E.length:Int)≥(128:Int))=false:=V2 (by omega);refine go (o:=([(17,.hit j (cU f) f.2),(22,.cr)]++ff [13,14,15,18,19,20,23,24,25,26,27,28] true++ff [0,1,2,3,4,5,6,7,8,9,10,11,12,16,21,30] false++VP)) (v:=.int .i64 0) ⟨?_⟩ (by rw[hN,if_neg (by omega)]);rw[Nt (f:=f) (j:=j) (g:=z) (i:=0)];simp only[ah,bj,d1,d2,d3,d0,Z7,u',du,df,VV,VX,VW];repeat' apply And.intro
       all_goals first|exact hp|exact hT|exact hT.1|exact hT.2.1|exact hT.2.2|exact hj1|exact hj2|exact gm|skip
    ·have du:(!f.fst.2==(2:Int))=true:=by simpa using ck
     rw[if_pos ⟨rfl,ck⟩]at hN;refine go (o:=([(17,.hit j (cU f) f.2)]++ff [13,14,15,18,19,20,21] true++ff [0,1,2,3,4,5,6,7,8,9,10,11,12,16,22] false++VP)) (v:=.int .i64 22) ⟨?_⟩ (by rw[hN]);rw[OD (f:=f) (j:=j) (g:=z) (i:=0)];simp only[ah,bj,d1,d2,d3,d0,Z7,u',du,VV,VX,VW];repeat' apply And.intro
     all_goals first|exact hp|exact hT|exact hT.1|exact hT.2.1|exact hT.2.2|exact hj1|exact hj2|skip
   ·obtain⟨fa,fm⟩:=cr hu;have hk:jR E (aj x.p)=0:=by unfold jR;rw[fa]
    rw[hk,if_pos ⟨rfl,by decide⟩]at hN;refine go (o:=([(17,.cr),(22,.cr)]++ff [13,14,15,18,19,20] true++ff [0,1,2,3,4,5,6,7,8,9,10,11,12,16] false++VP)) (v:=.int .i64 22) ⟨?_⟩ (by rw[hN]);rw[NS (f:=z) (j:=0) (g:=z) (i:=0)];simp only[ah,bj,d1,d2,d3,d0,Z7,u',VV,VX,VW];repeat' apply And.intro
    all_goals first|exact hp|exact hT|exact hT.1|exact hT.2.1|exact hT.2.2|exact fm|skip
 ·have d3:(!x.2==(2:Int))=true:=by simpa using c2
  by_cases cb:cy x.p E=[]
  case neg=>
   have db:decide (((cy x.1 E).length:Int)>(0:Int))=true:=V0 (by have:=Xg.2 cb;exact_mod_cast this);have Θ:cy x.1 E≠[]:=cb;refine go (o:=(ff [4,5,6,7,8,9,10,11] true++ff [0,1,2,3,12] false++VP)) (v:=.int .i64 22) ⟨?_⟩ (by unfold eD;rw[if_neg (by simp[g]),if_neg (by simp[Aa]),if_pos ⟨c2,cb⟩]);rw[Q0 (f:=z) (g:=z) (i:=0) (j:=0)];simp only[ah,bj,d1,d2,d3,db,VV,VX,VW];repeat' apply And.intro
   all_goals first|exact hp|exact hT|exact hT.1|exact hT.2.1|exact hT.2.2|exact Θ|skip
  have Θ:cy x.1 E=[]:=cb
  have hN:eD E x=if aC x.p=true/\jR E (aj x.p)≠2 then 22 else if BJ E x.p=none/\128<=E.length then 24 else 0:=by
   unfold eD;rw[if_neg (by simp[g]),if_neg (by simp[Aa]),if_neg (by simp[cb]),if_neg c0]
  cases u:aC x.p
  ·have u':aC x.1=false:=u;rw[u,if_neg (by simp)]at hN;by_cases ht:∃ f∈E,f.1.p=x.p
   ·obtain⟨gg,jj,ga,gp,gj1,gj2⟩:=hit ht;refine go (o:=([(21,.hit jj (cU gg) gg.2)]++ff [4,5,6,8,9,10] true++ff [0,1,2,3,7,11,12,13,14,15,16,17,18,19,20,22,23,24,25,26,27,28,29,30] false++VP)) (v:=.int .i64 0) ⟨?_⟩ (by rw[hN,if_neg (by simp[ga])]);rw[NY (f:=z) (j:=0) (g:=gg) (i:=jj)];simp only[ah,bj,d1,d2,d3,d0,Z7,u',VV,VX,VW];repeat' apply And.intro
    all_goals first|exact hp|exact hT|exact hT.1|exact hT.2.1|exact hT.2.2|exact Θ|exact gj1|exact gj2|skip
   ·obtain⟨ga,gm⟩:=cr ht;by_cases cf:128<=E.length
    ·have df:decide ((E.length:Int)≥(128:Int))=true:=V0 (by omega);refine go (o:=([(21,.cr)]++ff [4,5,6,8,9,10,22,23,24,25,26,27,28,29] true++ff [0,1,2,3,7,11,12,13,14,15,16,17,18,19,20,30] false++VP)) (v:=.int .i64 24) ⟨?_⟩ (by rw[hN,if_pos ⟨ga,cf⟩]);rw[NN (f:=z) (j:=0) (g:=z) (i:=0)];simp only[ah,bj,d1,d2,d3,d0,Z7,u',df,VV,VX,VW];repeat' apply And.intro
     all_goals first|exact hp|exact hT|exact hT.1|exact hT.2.1|exact hT.2.2|exact Θ|exact gm|skip
    ·have df:decide ((E.length:Int)≥(128:Int))=false:=V2 (by omega);refine go (o:=([(21,.cr)]++ff [4,5,6,8,9,10,22,23,24,25,26,27] true++ff [0,1,2,3,7,11,12,13,14,15,16,17,18,19,20,29] false++VP)) (v:=.int .i64 0) ⟨?_⟩ (by rw[hN,if_neg (by omega)]);rw[Nr (f:=z) (j:=0) (g:=z) (i:=0)];simp only[ah,bj,d1,d2,d3,d0,Z7,u',df,VV,VX,VW];repeat' apply And.intro
     all_goals first|exact hp|exact hT|exact hT.1|exact hT.2.1|exact hT.2.2|exact Θ|exact gm|skip
  ·have u':aC x.1=true:=u;rw[u]at hN;by_cases hu:∃ f∈E,f.1.p=aj x.p
   ·obtain⟨f,j,fa,fp,hj1,hj2⟩:=hit hu;have hk:jR E (aj x.p)=f.1.k:=by unfold jR;rw[fa]
    rw[hk]at hN;by_cases ck:f.1.k=2
    ·have du:(!f.fst.2==(2:Int))=false:=by simpa using ck
     rw[if_neg (by simp[ck])]at hN;by_cases ht:∃ f∈E,f.1.p=x.p
     ·obtain⟨gg,jj,ga,gp,gj1,gj2⟩:=hit ht;refine go (o:=([(18,.hit j (cU f) f.2),(23,.hit jj (cU gg) gg.2)]++ff [4,5,6,8,9,10,14,15,16,19,20,21] true++ff [0,1,2,3,7,11,12,13,17,22,24,25,26,27,28,29,30,31,32] false++VP)) (v:=.int .i64 0) ⟨?_⟩ (by rw[hN,if_neg (by simp[ga])]);rw[N5 (f:=f) (j:=j) (g:=gg) (i:=jj)];simp only[ah,bj,d1,d2,d3,d0,Z7,u',du,VV,VX,VW];repeat' apply And.intro
      all_goals first|exact hp|exact hT|exact hT.1|exact hT.2.1|exact hT.2.2|exact Θ|exact hj1|exact hj2|exact gj1|exact gj2|skip
     ·obtain⟨ga,gm⟩:=cr ht;by_cases cf:128<=E.length
      ·have df:decide ((E.length:Int)≥(128:Int))=true:=V0 (by omega);refine go (o:=([(18,.hit j (cU f) f.2),(23,.cr)]++ff [4,5,6,8,9,10,14,15,16,19,20,21,24,25,26,27,28,29,30,31] true++ff [0,1,2,3,7,11,12,13,17,22,32] false++VP)) (v:=.int .i64 24) ⟨?_⟩ (by rw[hN,if_pos ⟨ga,cf⟩]);rw[NW (f:=f) (j:=j) (g:=z) (i:=0)];simp only[ah,bj,d1,d2,d3,d0,Z7,u',du,df,VV,VX,VW];repeat' apply And.intro
       all_goals first|exact hp|exact hT|exact hT.1|exact hT.2.1|exact hT.2.2|exact Θ|exact hj1|exact hj2|exact gm|skip
      ·have df:decide ((E.length:Int)≥(128:Int))=false:=V2 (by omega);refine go (o:=([(18,.hit j (cU f) f.2),(23,.cr)]++ff [4,5,6,8,9,10,14,15,16,19,20,21,24,25,26,27,28,29] true++ff [0,1,2,3,7,11,12,13,17,22,31] false++VP)) (v:=.int .i64 0) ⟨?_⟩ (by rw[hN,if_neg (by omega)]);rw[Ox (f:=f) (j:=j) (g:=z) (i:=0)];simp only[ah,bj,d1,d2,d3,d0,Z7,u',du,df,VV,VX,VW];repeat' apply And.intro
       all_goals first|exact hp|exact hT|exact hT.1|exact hT.2.1|exact hT.2.2|exact Θ|exact hj1|exact hj2|exact gm|skip
    ·have du:(!f.fst.2==(2:Int))=true:=by simpa using ck
     rw[if_pos ⟨rfl,ck⟩]at hN;refine go (o:=([(18,.hit j (cU f) f.2)]++ff [4,5,6,8,9,10,14,15,16,19,20,21,22] true++ff [0,1,2,3,7,11,12,13,17,23] false++VP)) (v:=.int .i64 22) ⟨?_⟩ (by rw[hN]);rw[Nn (f:=f) (j:=j) (g:=z) (i:=0)];simp only[ah,bj,d1,d2,d3,d0,Z7,u',du,VV,VX,VW];repeat' apply And.intro
     all_goals first|exact hp|exact hT|exact hT.1|exact hT.2.1|exact hT.2.2|exact Θ|exact hj1|exact hj2|skip
   ·obtain⟨fa,fm⟩:=cr hu;have hk:jR E (aj x.p)=0:=by unfold jR;rw[fa]
    rw[hk,if_pos ⟨rfl,by decide⟩]at hN;refine go (o:=([(18,.cr),(23,.cr)]++ff [4,5,6,8,9,10,14,15,16,19,20,21] true++ff [0,1,2,3,7,11,12,13,17] false++VP)) (v:=.int .i64 22) ⟨?_⟩ (by rw[hN]);rw[Om (f:=z) (j:=0) (g:=z) (i:=0)];simp only[ah,bj,d1,d2,d3,d0,Z7,u',VV,VX,VW];repeat' apply And.intro
    all_goals first|exact hp|exact hT|exact hT.1|exact hT.2.1|exact hT.2.2|exact Θ|exact fm|skip
theorem EV (hm:MX w0)(hM:∀ z,¬ M z)(hp:x.p.size<=1000000000):
  af lh M w0 cs0 52 (fun e w'=>Below w0.heap.size w0 w'/\e=.returned (.int .i64 (eD [] x))) ν (jm x):=by
 have K:=QZ hM hm
 have go:∀ {o v},mX (ao lh 52 400 (jm x) o v)->v=.int .i64 (eD [] x)->af lh M w0 cs0 52 (fun e w'=>Below w0.heap.size w0 w'/\e=.returned (.int .i64 (eD [] x))) ν (jm x):=fun hd e=>
  cg K hM hd fun w' hw=>⟨hw,by rw[e]⟩
 have c1:=iw x.p;have hb:cy x.1 (mapOf [])=[]:=nS x.p;have Yy:cy x.p []=[]:=nS x.p;cases g:aR x.p
 ·have d1:(!aG x.1==(0:Int))=true:=by show (!(aG x.p==0))=true;rw[c1,g];rfl
  refine go (o:=(ff [1] true++ff [0,2] false++VP)) (v:=.int .i64 (aG x.p)) ⟨?_⟩ (by unfold eD;rw[if_pos g];simp[aG,g]);rw[Tj];simp only[ah,d1,VV,VX,VW];exact hp
 have d1:(!aG x.1==(0:Int))=false:=by show (!(aG x.p==0))=false;rw[c1,g];rfl
 by_cases Aa:aS x.k x.l=0
 case neg=>
  have d2:(!aS x.2 x.4==(0:Int))=true:=by simpa using Aa
  refine go (o:=(ff [3] true++ff [0,1,2,4] false++VP)) (v:=.int .i64 (aS x.k x.l)) ⟨?_⟩ (by unfold eD;rw[if_neg (by simp[g]),if_pos Aa]);rw[U2];simp only[ah,d1,d2,VV,VX,VW];exact hp
 have d2:(!aS x.2 x.4==(0:Int))=false:=by simpa using Aa
 by_cases c0:x.k=0
 ·have d0:(x.2==(0:Int))=true:=Xn.2 c0;have d3:(!x.2==(2:Int))=true:=by rw[show x.2=0 from c0];rfl
  refine go (o:=(ff [4,5,6,8,9,10,12] true++ff [0,1,2,3,7,11,13] false++VP)) (v:=.int .i64 0) ⟨?_⟩ (by unfold eD;rw[if_neg (by simp[g]),if_neg (by simp[Aa]),if_neg (by simp[Yy]),if_pos c0]);rw[VB];simp only[ah,hb,d1,d2,d3,d0,VV,VX,VW];exact⟨hp,hp⟩
 have d0:(x.2==(0:Int))=false:=Wr.2 c0
 have hN:eD [] x=if aC x.p=true then 22 else 0:=by
  unfold eD;rw[if_neg (by simp[g]),if_neg (by simp[Aa]),if_neg (by simp[Yy]),if_neg c0];cases aC x.p
  ·rw[if_neg (by simp),if_neg (by simp),if_neg (by simp)]
  ·rw[if_pos ⟨rfl,by show (0:Int)≠2;decide⟩,if_pos rfl]
 cases u:aC x.p
 ·have u':aC x.1=false:=u;rw[u,if_neg (by decide)]at hN;by_cases c2:x.k=2
  ·have d3:(!x.2==(2:Int))=false:=by simpa using c2
   refine go (o:=(ff [20,21,22,23,24,25,26] true++ff [0,1,2,3,4,5,6,7,8,9,10,11,12,13,14,15,16,17,18,19,27,28] false++VP)) (v:=.int .i64 0) ⟨?_⟩ (by rw[hN]);rw[PB];simp only[ah,hb,d1,d2,d3,d0,u',VV,VX,VW];repeat' apply And.intro
   all_goals first|exact hp|skip
  ·have d3:(!x.2==(2:Int))=true:=by simpa using c2
   refine go (o:=(ff [4,5,6,8,9,10,21,22,23,24,25,26,27] true++ff [0,1,2,3,7,11,12,13,14,15,16,17,18,19,20,28,29] false++VP)) (v:=.int .i64 0) ⟨?_⟩ (by rw[hN]);rw[Qg];simp only[ah,hb,d1,d2,d3,d0,u',VV,VX,VW];repeat' apply And.intro
   all_goals first|exact hp|skip
 ·have u':aC x.1=true:=u;rw[u,if_pos rfl]at hN;by_cases c2:x.k=2
  ·have d3:(!x.2==(2:Int))=false:=by simpa using c2
   refine go (o:=(ff [13,14,15,17,18,19,20] true++ff [0,1,2,3,4,5,6,7,8,9,10,11,12,16,21] false++VP)) (v:=.int .i64 22) ⟨?_⟩ (by rw[hN]);rw[Qi];simp only[ah,hb,d1,d2,d3,d0,u',VV,VX,VW];repeat' apply And.intro
   all_goals first|exact hp|skip
  ·have d3:(!x.2==(2:Int))=true:=by simpa using c2
   refine go (o:=(ff [4,5,6,8,9,10,14,15,16,18,19,20,21] true++ff [0,1,2,3,7,11,12,13,17,22] false++VP)) (v:=.int .i64 22) ⟨?_⟩ (by rw[hN]);rw[Qz];simp only[ah,hb,d1,d2,d3,d0,u',VV,VX,VW];repeat' apply And.intro
   all_goals first|exact hp|skip
end
def MH:yC:=fun args sh=>match args with
 | [A,.v (.string p),L]=>match pU A sh,ni L with
  | some (es,cl,q),some (k,a,l,c)=>some (.int .i64 (eD (mapOf es) ⟨p,k,a,l,c⟩),q/\p.size<=1000000000)
  | _,_=>none
 | _=>none
theorem Lm:bh Tryz.prog MX (52,de MH):=by
 refine dO ⟨_,Tryz.func52,by kernel_rfl,by kernel_rfl⟩ fun args sh v p h hp ν M w0 w a hr hX ha=>?_;dsimp only[MH]at h;split at h
 ·rename_i A p L;split at h
  ·rename_i es cl q k a1 l1 c1 ht hd;cases h;obtain⟨y1,ZK,rfl,q1,YH⟩:=ha.cons_inv;obtain⟨y2,as2,rfl,q2,Zx⟩:=YH.cons_inv;obtain⟨y3,as3,rfl,q3,ha4⟩:=Zx.cons_inv;obtain rfl:=ha4.ay;obtain rfl:=VR.ae.1 q2;obtain rfl:=lI hd q3;obtain⟨b,rfl,⟨m,Yu,hA,hT⟩|⟨rfl,hA⟩⟩:=v8 ht hp.1 hr q1
   ·obtain⟨_,hTo,hTf⟩:=hT;generalize mapOf es=E at *;refine aW (E:=lh) rfl (d:=6) (l:=[(b,0),(m,0)]) (os:=[.row [.map 1] 96 (0,0) none,.map (E.map mI) cl]) rfl (by simp) (by simpa using Yu) ?_ rfl (args:=[.ptr 0 0,.v (.string p),jM ⟨p,k,a1,l1,c1⟩]) (S0:=fL (E.map mI) cl ⟨p,k,a1,l1,c1⟩) (by kernel_rfl) (au.cons (VR.aF.2 ⟨(b,0),rfl,rfl⟩) (au.cons (VR.ae.2 rfl) (au.cons (VR.ae.2 rfl) au.nil))) fun cs0=>HT hX (fun z=>aZ (os:=[_,_])) hTo hTf hp.2;intro j o' b' c' h1 h2;match j with
    | 0=>
     simp only[Wa,Option.some.injEq]at h1 h2;subst h1;cases h2;exact⟨_,hA.row,_,[],rfl,au.cons (VR.cQ.2 ⟨(m,0),rfl,rfl⟩) au.nil,rfl⟩
    | 1=>
     simp only[WU,Wa,Option.some.injEq]at h1 h2;subst h1;cases h2;exact⟨_,hA.map,_,rfl,oB E⟩
    | j+2=>simp at h1
   ·refine aW (E:=lh) rfl (d:=6) (l:=[(b,0)]) (os:=[.row [.v (.map none)] 96 (0,0) none]) rfl (by simp) (by simp) ?_ rfl (args:=[.ptr 0 0,.v (.string p),jM ⟨p,k,a1,l1,c1⟩]) (S0:=jm ⟨p,k,a1,l1,c1⟩) (by kernel_rfl) (au.cons (VR.aF.2 ⟨(b,0),rfl,rfl⟩) (au.cons (VR.ae.2 rfl) (au.cons (VR.ae.2 rfl) au.nil))) fun cs0=>EV hX (fun z=>aZ (os:=[_])) hp.2;intro j o' b' c' h1 h2;match j with
    | 0=>
     simp only[Wa,Option.some.injEq]at h1 h2;subst h1;cases h2;exact⟨_,hA,[.map none],[],rfl,au.cons (VR.ae.2 rfl) au.nil,rfl⟩
    | j+1=>simp at h1
  ·cases h
 ·cases h
theorem dL.CE {cm ys:ax->List Int}{E:List cp}{cl:Nat}{xs:List ax}(h:dL cm ys E cl xs)(p:ByteArray):jR E p=(aO p xs).k/\(BJ E p=none↔(aO p xs).k=0):=by
 by_cases hf:∃ f∈E,f.1.p=p
 ·obtain⟨f,hf,rfl⟩:=hf;obtain⟨h1,_,e,he,h2,h3⟩:=h.pG hf;have ha:=Fa h.ok.names hf rfl;unfold jR;rw[ha];refine⟨h1.symm,fun h=>(nomatch h),fun h0=>?_⟩;rw[h2]at h0;exact absurd h0 (h.kind e he)
 ·have hm:∀ e∈E,e.1.p≠p:=fun e he hq=>hf ⟨e,he,hq⟩;have ha:=Df hm;have hz:=(nQ (xs:=xs) (p:=p) (h.cr (x:=⟨p,0,none,0,0⟩) hm)).1;unfold jR;rw[ha,hz];exact⟨rfl,fun _=>rfl,fun _=>rfl⟩
theorem dL.below {cm ys:ax->List Int}{E:List cp}{cl:Nat}{xs:List ax}(h:dL cm ys E cl xs)(p:ByteArray):cy p E=[]↔bM p xs=[]:=by
 have h1:(cy p E).length=(bM p xs).length:=by
  unfold cy bM;rw[(bz _).length_eq];exact (h.s7.filter _).length_eq
 rw[<- Wd,<- Wd,h1]
theorem Iq (x:ax):Da x=aC x.p:=by
 unfold Da;rw[EJ,jB,jB];congr 1;cases h:(aj x.p).data.toList with
 | nil=>rfl
 | cons a l=>rfl
theorem xn {cm ys:ax->List Int}{E:List cp}{cl:Nat}{xs:List ax}(h:dL cm ys E cl xs)(x:ax):eD E x=(aI xs x).2:=by
 have hb:=h.below x.p;have h1:=(h.CE (aj x.p)).1;have h2:=(h.CE x.p).2;have hl:=h.len;unfold eD aI;by_cases g:aR x.p=false
 ·rw[if_pos g,if_pos g]
 rw[if_neg g,if_neg g];by_cases c1:aS x.k x.l≠0
 ·rw[if_pos c1,if_pos c1]
 rw[if_neg c1,if_neg c1];by_cases c2:x.k≠2/\cy x.p E≠[]
 ·rw[if_pos c2,if_pos ⟨c2.1,fun e=>c2.2 (hb.2 e)⟩]
 have c2':¬ (x.k≠2/\bM x.p xs≠[]):=fun e=>c2 ⟨e.1,fun k=>e.2 (hb.1 k)⟩;rw[if_neg c2,if_neg c2'];by_cases c0:x.k=0
 ·rw[if_pos c0,if_pos c0]
 rw[if_neg c0,if_neg c0,Iq,h1];by_cases cu:aC x.p=true/\(aO (aj x.p) xs).k≠2
 ·rw[if_pos cu,if_pos cu]
 rw[if_neg cu,if_neg cu];by_cases cf:BJ E x.p=none/\128<=E.length
 ·rw[if_pos cf,if_pos ⟨h2.1 cf.1,by omega⟩]
 ·have cf':¬ ((aO x.p xs).k=0/\128<=xs.length):=fun e=>cf ⟨h2.2 e.1,by omega⟩;rw[if_neg cf,if_neg cf']
def tX (x:ax)(ys:List Int):SM:=(a6 (kx x.a x.l x.c ys) 53 [jM x] (bG 6 0 0 [])).getD dn
theorem U3 (x:ax)(ys:List Int):eh (kx x.a x.l x.c ys) 53 300 (tX x ys) (VP++ff (List.range 10) false) [] (.v (.agg #[.int .i64 x.k,.slice none 0 0]))=[Value.agg { toList:=[vZ x.2,VT none 0 0]:Array Value }=Value.agg { toList:=[vZ x.2,VT none 0 0]:Array Value },(x.2==x.2)=true,x.3=none]:=by kernel_rfl
theorem VH (x:ax)(ys:List Int)(m:List SV):bY (kx x.a x.l x.c ys) 53 300 (tX x ys) (VP++ff (List.range 10) true) (.agg [.v (.int .i64 x.k),.sl 2 0 x.l none]) 2 (.row m 5 (0,0) (some 1))=[vZ x.2=vZ x.2,0=0/\x.4=x.4/\nZ=none,List.map SV.v (List.map (V1 IntKind.u8) ys)=m,m.all ab=true,(x.2==x.2)=true,(x.3=x.3/\x.4=x.4/\x.5=x.5)/\x.3≠none]:=by kernel_rfl
def tH (w0 w':World)(x:ax)(ys:List Int)(a:Option Addr)(c:Nat)(l:Nat):Prop:=
 (x.a=none/\a=none/\l=0/\c=0)\/(x.a≠none/\l=x.l/\∃ b,a=some ⟨b,0,none⟩/\cF w0 w' (.slice (some ⟨b,0,none⟩) x.l c) (ys.map (Value.int .u8)) x.l 1 5)
theorem kV {w:World}{x:ax}{ys:List Int}(hD:e8 w x.a x.l ys):Calls Tryz.prog 53 #[.agg #[.int .i64 x.k,.slice x.a x.l x.c]] w fun e w'=>Below w.heap.size w w'/\∃ a c l,e=.returned (.agg #[.int .i64 x.k,.slice a l c])/\tH w w' x ys a c l:=by
 refine bP (E:=kx x.a x.l x.c ys) rfl rfl (args:=[jM x]) (a:=[.agg #[.int .i64 x.k,.slice x.a x.l x.c]]) (S0:=tX x ys) (by kernel_rfl) (au.cons (VR.ae.2 rfl) au.nil) fun cs0=>?_;by_cases ha:x.a=none
 ·refine kq (v:=.agg #[.int .i64 x.k,.slice none 0 0]) (Au (x:=⟨x.p,0,x.k,x.a,x.l,x.c⟩) aE hD) aE (rn:=[]) (n:=300) (o:=(VP++ff (List.range 10) false)) ⟨?_⟩ fun w' hB=>⟨hB,none,0,0,rfl,.inl ⟨ha,rfl,rfl,rfl⟩⟩;show ah (eh (kx x.a x.l x.c ys) 53 300 (tX x ys) (VP++ff (List.range 10) false) [] (.v (.agg #[.int .i64 x.k,.slice none 0 0])));rw[U3];simp only[ah,VV,VX,VW];exact⟨ha,WA x.k⟩
 ·refine af.bY (Au (x:=⟨x.p,0,x.k,x.a,x.l,x.c⟩) aE hD) (n:=300) (o:=(VP++ff (List.range 10) true)) (x:=.agg [.v (.int .i64 x.k),.sl 2 0 x.l none]) (i:=2) (so:=.row (List.map SV.v (List.map (Value.int .u8) ys)) 5 (0,0) (some 1)) (by
   show ah (bY (kx x.a x.l x.c ys) 53 300 (tX x ys) (VP++ff (List.range 10) true) (.agg [.v (.int .i64 x.k),.sl 2 0 x.l none]) 2 (.row (List.map SV.v (List.map (Value.int .u8) ys)) 5 (0,0) (some 1)));rw[VH];simp only[ah,bJ,VV,VX,VW];exact⟨ha,WA x.k⟩) fun ν' w' y b ob hv hb ho YA hw hB=>?_
  have hn:w.heap.size<=b.1:=by
   rcases hw with h|h
   ·exact h
   ·exact absurd h (aE _)
  obtain⟨_,_,_,_,hB,hr⟩:=hB;obtain⟨a,rfl,ha1⟩:=VR.bx.1 hv;obtain⟨y1,a1,rfl,q1,YH⟩:=ha1.cons_inv;obtain⟨y4,a4,rfl,q4,ha5⟩:=YH.cons_inv;obtain rfl:=ha5.ay;obtain rfl:=VR.ae.1 q1;have hs:=cF.gb q4 hb ho YA hn fun zs hz=>r7 hz;have hs2:=hs;obtain⟨g,c,rest,rfl,_⟩:=hs2;exact⟨aB aE hB hr,_,_,_,rfl,.inr ⟨ha,rfl,g,rfl,hs⟩⟩
def uP (D:List ax)(ys:Option Addr->Nat->List Int)(w:World):Prop:=MX w/\∀ x∈D,e8 w x.a x.l (ys x.a x.l)
theorem uP.keep {D:List ax}{ys:Option Addr->Nat->List Int}{w0 w:World}(h:uP D ys w0)(hk:∀ k,k<w0.heap.size->w.heap[k]?=w0.heap[k]?):uP D ys w:=⟨h.1.keep hk,fun x hx=>(h.2 x hx).keep hk⟩
def Cu (D:List ax)(ys:Option Addr->Nat->List Int):MY:=fun args _=>match args with
 | [L]=>match ni L with
  | some (k,a,l,c)=>some ((ys a l).map (Value.int .u8),l,1,5,fun s=>.agg [.v (.int .i64 k),s],fun s=>.agg #[.int .i64 k,s],(∃ x∈D,x.a=a/\x.l=l)/\a≠none)
  | none=>none
 | _=>none
def FB (D:List ax)(args:List SV)(_:SH):Option (SV × Prop):=match args with
 | [L]=>match ni L with
  | some (k,a,l,c)=>some (.agg [.v (.int .i64 k),.v (.slice none 0 0)],(∃ x∈D,x.a=a/\x.l=l)/\a=none)
  | none=>none
 | _=>none
theorem II {D:List ax}{ys:Option Addr->Nat->List Int}:bh Tryz.prog (uP D ys) (53,gq (j0 (Cu D ys)) (lq (FB D))):=by
 refine bh.br (mq ⟨_,Tryz.func53,by kernel_rfl,by kernel_rfl⟩ (fun args sh zs n C elem mk mv p h ν x y hv=>?_) fun args sh zs n C elem mk mv p h hp ν M w0 w a hr hX ha=>?_) (mf ⟨_,Tryz.func53,by kernel_rfl,by kernel_rfl⟩ fun args sh v p h hp ν M w0 w a hr hX ha=>?_)
 ·dsimp only[Cu]at h;split at h
  ·split at h
   ·cases h;exact VR.bx.2 ⟨_,rfl,au.cons (VR.ae.2 rfl) (au.cons hv au.nil)⟩
   ·cases h
  ·cases h
 ·dsimp only[Cu]at h;split at h
  ·rename_i L;split at h
   ·rename_i k a1 l1 c1 hd;cases h;obtain⟨y1,ZK,rfl,q1,YH⟩:=ha.cons_inv;obtain rfl:=YH.ay;obtain rfl:=lI hd q1;obtain⟨⟨x,hx,rfl,rfl⟩,Yu⟩:=hp;refine (kV (x:=⟨x.p,k,x.a,x.l,c1⟩) (hX.2 x hx)).mono fun e w' ⟨hB,a,c,l,he,h⟩=>⟨hB,?_⟩;rcases h with ⟨h1,_⟩|⟨_,h1,b,h2,h3⟩
    ·exact absurd h1 Yu
    ·subst h1 h2;exact⟨_,he,h3⟩
   ·cases h
  ·cases h
 ·dsimp only[FB]at h;split at h
  ·rename_i L;split at h
   ·rename_i k a1 l1 c1 hd;cases h;obtain⟨y1,ZK,rfl,q1,YH⟩:=ha.cons_inv;obtain rfl:=YH.ay;obtain rfl:=lI hd q1;obtain⟨⟨x,hx,rfl,rfl⟩,Yu⟩:=hp;refine (kV (x:=⟨x.p,k,x.a,x.l,c1⟩) (hX.2 x hx)).mono fun e w' ⟨hB,a,c,l,he,h⟩=>⟨hB,?_⟩;rcases h with ⟨_,h1,h2,h3⟩|⟨h1,_⟩
    ·subst h1 h2 h3;exact⟨_,he,VR.bx.2 ⟨_,rfl,au.cons (VR.ae.2 rfl) (au.cons (VR.ae.2 rfl) au.nil)⟩⟩
    ·exact absurd Yu h1
   ·cases h
  ·cases h
def wN (f g h:Sum):Sum:=fun args s=>match s.orc s.dc with
 | some (.b true)=>f args s
 | some (.b false)=>g args s
 | some .cr=>h args s
 | _=>none
theorem Me {P:Program}{X:World->Prop}{k:FuncId}{f g h:Sum}(hf:bh P X (k,f))(hg:bh P X (k,g))(hh:bh P X (k,h)):bh P X (k,wN f g h):=by
 refine⟨hf.1,fun args x s s' hx ob=>?_⟩;dsimp only at hx;unfold wN at hx;split at hx
 ·exact hf.2 args x s s' hx ob
 ·exact hg.2 args x s s' hx ob
 ·exact hh.2 args x s s' hx ob
 ·cases hx
structure fT (xs:List ax)(x:ax):Prop where
 p:x.p.size<=1000000000
 size:∀ e∈xs,e.p.size<=1000000000
def CD:MY:=fun args sh=>match args with
 | [A,.v (.string p),L]=>match gO A sh,ni L with
  | some (xs,q),some (k,a,l,c)=>some (vI (aI xs ⟨p,k,a,l,c⟩).1,(aI xs ⟨p,k,a,l,c⟩).1.length,3,48,fun s=>.tup [s,.v (.int .i64 0)],fun y=>tV y 0,q/\fT xs ⟨p,k,a,l,c⟩/\(aI xs ⟨p,k,a,l,c⟩).2=0/\(aI xs ⟨p,k,a,l,c⟩).1≠[])
  | _,_=>none
 | _=>none
def FW (args:List SV)(sh:SH):Option (SV × Prop):=match args with
 | [A,.v (.string p),L]=>match gO A sh,ni L with
  | some (xs,q),some (k,a,l,c)=>some (.tup [A,.v (.int .i64 (aI xs ⟨p,k,a,l,c⟩).2)],q/\fT xs ⟨p,k,a,l,c⟩/\(aI xs ⟨p,k,a,l,c⟩).2≠0)
  | _,_=>none
 | _=>none
def GP (args:List SV)(sh:SH):Option (SV × Prop):=match args with
 | [A,.v (.string p),L]=>match gO A sh,ni L with
  | some (xs,q),some (k,a,l,c)=>some (.tup [.v (.slice none 0 0),.v (.int .i64 0)],q/\fT xs ⟨p,k,a,l,c⟩/\(aI xs ⟨p,k,a,l,c⟩).2=0/\(aI xs ⟨p,k,a,l,c⟩).1=[])
  | _,_=>none
 | _=>none
theorem pR {ν:aP}{M:Own}{w0 w:World}{sh:SH}(hr:HR ν M w0 sh w){A L:SV}{p:ByteArray}{xs:List ax}{q:Prop}{k:Int}{a1:Option Addr}{l1 c1:Nat}(hl:gO A sh=some (xs,q))(hd:ni L=some (k,a1,l1,c1))(hq:q)(hI:fT xs ⟨p,k,a1,l1,c1⟩){a:List Value}(ha:au ν [A,.v (.string p),L] a):
  ∃ y0,VR ν A y0/\Calls Tryz.prog 17 a.toArray w (PR w y0 (aI xs ⟨p,k,a1,l1,c1⟩)):=by
 obtain⟨y1,ZK,rfl,q1,YH⟩:=ha.cons_inv;obtain⟨y2,as2,rfl,q2,Zx⟩:=YH.cons_inv;obtain⟨y3,as3,rfl,q3,ha4⟩:=Zx.cons_inv;obtain rfl:=ha4.ay;obtain rfl:=VR.ae.1 q2;obtain rfl:=lI hd q3;refine⟨y1,q1,?_⟩;rcases ku hl hq with ⟨rfl,rfl⟩|⟨Yu,ZH,i,mk,rfl,hlk⟩
 ·obtain rfl:=VR.ae.1 q1;exact bP (E:=mZ) rfl rfl (args:=[.v (.slice none 0 0),.v (.string p),jM ⟨p,k,a1,l1,c1⟩]) (S0:=kY ⟨p,k,a1,l1,c1⟩) (by kernel_rfl) (au.cons (VR.ae.2 rfl) (au.cons (VR.ae.2 rfl) (au.cons (VR.ae.2 rfl) au.nil))) fun cs0=>EO hI.p
 ·obtain⟨bb,YZ,hle,rfl⟩:=VR.aL.1 q1;obtain⟨_,_,b,ob,hb,ho,YA,_⟩:=hr.look hlk;rw[YZ]at hb;cases hb;have Zb:xs.length<=bb.2:=hle;refine aW (E:=mZ) rfl (d:=6) (l:=[bb]) (os:=[.row (cI xs) 48 (0,0) (some 3)]) rfl (by simp) (by simp) ?_ rfl (args:=[.sl 0 0 xs.length none,.v (.string p),jM ⟨p,k,a1,l1,c1⟩]) (S0:=gr (cI xs) xs.length ⟨p,k,a1,l1,c1⟩) (by kernel_rfl) (au.cons (VR.aL.2 ⟨bb,rfl,Zb,rfl⟩) (au.cons (VR.ae.2 rfl) (au.cons (VR.ae.2 rfl) au.nil))) fun cs0=>Hq Yu ZH hI.p hI.size;intro j o' b' c' h1 h2;match j with
  | 0=>
   simp only[Wa,Option.some.injEq]at h1 h2;subst h1;subst h2;exact⟨_,ho,qw (az xs) YZ rfl YA⟩
  | j+1=>simp at h1
theorem J6 {X:World->Prop}:bh Tryz.prog X (17,wN (j0 CD) (lq FW) (lq GP)):=by
 refine Me (mq ⟨_,Tryz.func17,by kernel_rfl,by kernel_rfl⟩ (fun args sh ys n C elem mk mv p h ν x y hv=>?_) fun args sh ys n C elem mk mv p h hp ν M w0 w a hr hX ha=>?_) (mf ⟨_,Tryz.func17,by kernel_rfl,by kernel_rfl⟩ fun args sh v p h hp ν M w0 w a hr hX ha=>?_) (mf ⟨_,Tryz.func17,by kernel_rfl,by kernel_rfl⟩ fun args sh v p h hp ν M w0 w a hr hX ha=>?_)
 ·dsimp only[CD]at h;split at h
  ·split at h
   ·cases h;exact VR.cz.2 ⟨_,rfl,au.cons hv (au.cons (VR.ae.2 rfl) au.nil)⟩
   ·cases h
  ·cases h
 ·dsimp only[CD]at h;split at h
  ·split at h
   ·rename_i xs q k a1 l1 c1 hl hd;cases h;obtain⟨y0,_,hc⟩:=pR hr hl hd hp.1 hp.2.1 ha;refine hc.mono fun e w' ⟨hB,h⟩=>⟨hB,?_⟩;rcases h with ⟨h1,_⟩|⟨_,h1,_⟩|⟨_,_,y,h2,h3⟩
    ·exact absurd hp.2.2.1 h1
    ·exact absurd h1 hp.2.2.2
    ·exact⟨y,h2,h3⟩
   ·cases h
  ·cases h
 ·dsimp only[FW]at h;split at h
  ·split at h
   ·rename_i xs q k a1 l1 c1 hl hd;cases h;obtain⟨y0,hv,hc⟩:=pR hr hl hd hp.1 hp.2.1 ha;refine hc.mono fun e w' ⟨hB,h⟩=>⟨hB,?_⟩;rcases h with ⟨_,h2⟩|⟨h1,_⟩|⟨h1,_⟩
    ·exact⟨_,h2,VR.cz.2 ⟨_,rfl,au.cons hv (au.cons (VR.ae.2 rfl) au.nil)⟩⟩
    ·exact absurd h1 hp.2.2
    ·exact absurd h1 hp.2.2
   ·cases h
  ·cases h
 ·dsimp only[GP]at h;split at h
  ·split at h
   ·rename_i xs q k a1 l1 c1 hl hd;cases h;obtain⟨y0,hv,hc⟩:=pR hr hl hd hp.1 hp.2.1 ha;refine hc.mono fun e w' ⟨hB,h⟩=>⟨hB,?_⟩;rcases h with ⟨h1,_⟩|⟨_,_,h2⟩|⟨_,h1,_⟩
    ·exact absurd hp.2.2.1 h1
    ·exact⟨_,h2,VR.cz.2 ⟨_,rfl,au.cons (VR.ae.2 rfl) (au.cons (VR.ae.2 rfl) au.nil)⟩⟩
    ·exact absurd hp.2.2.2 h1
   ·cases h
  ·cases h
def PF (D:List ax)(ys:Option Addr->Nat->List Int):List (FuncId × Sum):=[(17,wN (j0 CD) (lq FW) (lq GP)),(52,de MH),(53,gq (j0 (Cu D ys)) (lq (FB D)))]
def jL (D:List ax)(ys:Option Addr->Nat->List Int):Env:={ EP [] [] with YT:=fun f=>(PF D ys).lookup f }
def Fq (D:List ax)(ys:Option Addr->Nat->List Int)(l:List SV)(off n c:Nat):SM:=(a6 (jL D ys) 7 [.sl 0 off n (some c)] (bG 6 1 0 [cv l])).getD dn
def Lx:List SI:=dA (jL [] fun _ _=>[]) 2 100 (Fq [] (fun _ _=>[]) [] 0 0 0) VP
def eB (off n c:Nat)(x:SV)(i:Int):SF:={ fn:=7,tm:=e9 49 6 ([.aH,.aH,.aH,.aH,.aH,.ptr 1 0,.aH,x]++List.replicate 14 .aH++[.sl 0 off n (some c),.v (.int .i64 n),.v (.int .i64 i)]++List.replicate 24 .aH),todo:=Lx,defers:=[],ret:=false,kind:=.normal,ro:=none }
def xD:Option (SO × Bool):=some (.row [.v (.map none)] 96 (0,0) none,true)
def Ge:Option (SO × Bool):=some (.row [.map 2] 96 (0,0) none,true)
def wc (es:VQ)(cl:Nat):Option (SO × Bool):=some (.map es cl,true)
def ru (l:List SV):List (Option (SO × Bool)):=[cv l,xD]
def qf (l:List SV)(es:VQ)(cl:Nat):List (Option (SO × Bool)):=[cv l,Ge,wc es cl]
def iM (l:List SV)(es:VQ)(cl:Nat)(m:List SV):List (Option (SO × Bool)):=[cv l,Ge,wc es cl,j6 m]
def qo (k:Nat):SV:=.sl 3 0 k none
theorem UG (D:List ax)(ys:Option Addr->Nat->List Int)(l m m' q:List SV)(off n c k k' cl cl' j:Nat)(x:ax)(f:cp)(i i':Int)(es es':VQ)(b:Nat × Nat):reach (jL D ys) 2 400 (SM.at (eB off n c bZ i) 6 (ru l)) ([(2,.cells (iC x)),(3,.b false)]++ff [0,6] true++ff [1,4,5,7,8,9,10,11,12,13,14,15,16] false++VP) [(0,0),(1,1)] [0,1] (eB off n c bZ i') 6 (ru l)=[0=0,VT none 0 0=VT none 0 0,off=off/\n=n/\some c=some c,vZ (↑n:Int)=vZ (↑n:Int),vZ (IntKind.i64.wrap (i+1))=vZ i',l=l,l.all ab=true,[SV.v (Value.map none)]=[SV.v (Value.map none)],true=true,(!eD (mapOf []) x==(aI [] x).2)=false,(!eD (mapOf []) x==0)=true,96=96/\x.1.size<=1000000000,false=false,True/\fT [] x/\(aI [] x).2≠0,List.take 3 (List.drop (off+i.toNat*3) l)=iC x/\(iC x).length=3,ai i n=true,decide (i<(↑n:Int))=true]:=by kernel_rfl
theorem UX (D:List ax)(ys:Option Addr->Nat->List Int)(l m m' q:List SV)(off n c k k' cl cl' j:Nat)(x:ax)(f:cp)(i i':Int)(es es':VQ)(b:Nat × Nat):reach (jL D ys) 2 400 (SM.at (eB off n c bZ i) 6 (ru l)) ([(2,.cells (iC x)),(3,.cr)]++ff [0,7] true++ff [1,4,5,6,8,9,10,11,12,13,14,15,16,17] false++VP) [(0,0),(1,1)] [0,1] (eB off n c bZ i') 6 (ru l)=[0=0,VT none 0 0=VT none 0 0,off=off/\n=n/\some c=some c,vZ (↑n:Int)=vZ (↑n:Int),vZ (IntKind.i64.wrap (i+1))=vZ i',l=l,l.all ab=true,[SV.v (Value.map none)]=[SV.v (Value.map none)],true=true,false=false,(x.2==0)=true,(!eD (mapOf []) x==0)=false,96=96/\x.1.size<=1000000000,false=false,True/\fT [] x/\(aI [] x).2=0/\(aI [] x).1=[],List.take 3 (List.drop (off+i.toNat*3) l)=iC x/\(iC x).length=3,ai i n=true,decide (i<(↑n:Int))=true]:=by kernel_rfl
theorem Vi (D:List ax)(ys:Option Addr->Nat->List Int)(l m m' q:List SV)(off n c k k' cl cl' j:Nat)(x:ax)(f:cp)(i i':Int)(es es':VQ)(b:Nat × Nat):reach (jL D ys) 2 400 (SM.at (eB off n c bZ i) 6 (ru l)) ([(2,.cells (iC x)),(3,.b true)]++ff [0,8] true++ff [1,4,5,6,7,9] false++VP) [(0,0),(1,1),(2,5),(3,3)] [0,2,3] (eB off n c (qo k') i') 6 (iM l es' cl' m')=[0=0,0=0/\(aI [] x).1.length=k'/\nZ=none,off=off/\n=n/\some c=some c,vZ (↑n:Int)=vZ (↑n:Int),vZ (IntKind.i64.wrap (i+1))=vZ i',l=l,l.all ab=true,1=cl',([]++[(SV.v (VS x.p),VZ [SV.v (vZ x.k),SV.v (VT none 0 0)],0)])=es',(es'.all fun e=>aw e.fst&&aw e.snd.fst)=true,List.map SV.v (vI (aI [] x).1)=m',m'.all ab=true,(∃ ZT,ZT∈D/\ZT.a=x.a/\ZT.l=x.l)/\x.3=none,true=true,(x.2==0)=false,(!eD (mapOf []) x==0)=false,96=96/\x.1.size<=1000000000,false=false,True/\fT [] x/\(aI [] x).2=0/\(aI [] x).1≠[],List.take 3 (List.drop (off+i.toNat*3) l)=iC x/\(iC x).length=3,ai i n=true,decide (i<(↑n:Int))=true]:=by kernel_rfl
theorem S2 (D:List ax)(ys:Option Addr->Nat->List Int)(l m m' q:List SV)(off n c k k' cl cl' j:Nat)(x:ax)(f:cp)(i i':Int)(es es':VQ)(b:Nat × Nat):fw (jL D ys) 2 400 (SM.at (eB off n c bZ i) 6 (ru l)) ([(2,.cells (iC x)),(3,.b true)]++ff [0,8,9] true++ff [1,4,5,6,7] false++VP) [(0,0),(1,1),(2,5),(3,3)] [0,2,3] (eB off n c (qo k') i') 6 (iM l es' cl' m') 5 6 (.row q 5 (0,0) (some 1)) b=[List.map SV.v (List.map (V1 IntKind.u8) (ys x.3 x.4))=q,q.all ab=true,0=0,0=0/\(aI [] x).1.length=k'/\nZ=none,off=off/\n=n/\some c=some c,vZ (↑n:Int)=vZ (↑n:Int),vZ (IntKind.i64.wrap (i+1))=vZ i',l=l,l.all ab=true,1=cl',dJ 6 b ([]++[(SV.v (VS x.p),VZ [SV.v (vZ x.k),SV.sl 6 0 x.l none],0)])=es',(es'.all fun e=>aw e.fst&&aw e.snd.fst)=true,List.map SV.v (vI (aI [] x).1)=m',m'.all ab=true,(∃ ZT,ZT∈D/\ZT.a=x.a/\ZT.l=x.l)/\x.3≠none,true=true,(x.2==0)=false,(!eD (mapOf []) x==0)=false,96=96/\x.1.size<=1000000000,false=false,True/\fT [] x/\(aI [] x).2=0/\(aI [] x).1≠[],List.take 3 (List.drop (off+i.toNat*3) l)=iC x/\(iC x).length=3,ai i n=true,decide (i<(↑n:Int))=true]:=by kernel_rfl
theorem RS (D:List ax)(ys:Option Addr->Nat->List Int)(l m m' q:List SV)(off n c k k' cl cl' j:Nat)(x:ax)(f:cp)(i i':Int)(es es':VQ)(b:Nat × Nat):reach (jL D ys) 2 400 (SM.at (eB off n c bZ i) 6 (qf l es cl)) ([(2,.cells (iC x)),(3,.b false)]++ff [0,6] true++ff [1,4,5,7,8,9,10,11,12,13,14,15,16,17] false++VP) [(0,0),(1,1),(2,2)] [0,2] (eB off n c bZ i') 6 (qf l es' cl')=[0=0,VT none 0 0=VT none 0 0,off=off/\n=n/\some c=some c,vZ (↑n:Int)=vZ (↑n:Int),vZ (IntKind.i64.wrap (i+1))=vZ i',l=l,l.all ab=true,cl=cl',es=es',(es'.all fun e=>aw e.fst&&aw e.snd.fst)=true,(!eD (mapOf es) x==(aI [] x).2)=false,(!eD (mapOf es) x==0)=true,(96=96/\dY es cl)/\x.1.size<=1000000000,false=false,True/\fT [] x/\(aI [] x).2≠0,List.take 3 (List.drop (off+i.toNat*3) l)=iC x/\(iC x).length=3,ai i n=true,decide (i<(↑n:Int))=true]:=by kernel_rfl
theorem UU (D:List ax)(ys:Option Addr->Nat->List Int)(l m m' q:List SV)(off n c k k' cl cl' j:Nat)(x:ax)(f:cp)(i i':Int)(es es':VQ)(b:Nat × Nat):reach (jL D ys) 2 400 (SM.at (eB off n c bZ i) 6 (qf l es cl)) ([(2,.cells (iC x)),(3,.cr),(8,.cr)]++ff [0,7] true++ff [1,4,5,6,9,10,11,12,13,14,15,16,17,18,19] false++VP) [(0,0),(1,1),(2,2)] [0,2] (eB off n c bZ i') 6 (qf l es' cl')=[0=0,VT none 0 0=VT none 0 0,off=off/\n=n/\some c=some c,vZ (↑n:Int)=vZ (↑n:Int),vZ (IntKind.i64.wrap (i+1))=vZ i',l=l,l.all ab=true,cl=cl',es=es',(es'.all fun e=>aw e.fst&&aw e.snd.fst)=true,false=false,∀ (e:SV × SV × Nat),e∈es->a8 x.p e.fst,(x.2==0)=true,(!eD (mapOf es) x==0)=false,(96=96/\dY es cl)/\x.1.size<=1000000000,false=false,True/\fT [] x/\(aI [] x).2=0/\(aI [] x).1=[],List.take 3 (List.drop (off+i.toNat*3) l)=iC x/\(iC x).length=3,ai i n=true,decide (i<(↑n:Int))=true]:=by kernel_rfl
theorem Sp (D:List ax)(ys:Option Addr->Nat->List Int)(l m m' q:List SV)(off n c k k' cl cl' j:Nat)(x:ax)(f:cp)(i i':Int)(es es':VQ)(b:Nat × Nat):reach (jL D ys) 2 400 (SM.at (eB off n c bZ i) 6 (qf l es cl)) ([(2,.cells (iC x)),(3,.b true),(10,.cr)]++ff [0] true++ff [1,4,5,6,7,8,9,11,12,13,14,15,16,17,18,19,20,21,22] false++VP) [(0,0),(1,1),(2,2),(3,4)] [0,2,3] (eB off n c (qo k') i') 6 (iM l es' cl' m')=[0=0,0=0/\(aI [] x).1.length=k'/\nZ=none,off=off/\n=n/\some c=some c,vZ (↑n:Int)=vZ (↑n:Int),vZ (IntKind.i64.wrap (i+1))=vZ i',l=l,l.all ab=true,cl+1=cl',(es++[(SV.v (VS x.p),VZ [SV.v (vZ x.k),SV.v (VT none 0 0)],cl)])=es',(es'.all fun e=>aw e.fst&&aw e.snd.fst)=true,List.map SV.v (vI (aI [] x).1)=m',m'.all ab=true,false=false,∀ (e:SV × SV × Nat),e∈es->a8 x.p e.fst,(∃ ZT,ZT∈D/\ZT.a=x.a/\ZT.l=x.l)/\x.3=none,false=false,(x.2==0)=false,(!eD (mapOf es) x==0)=false,(96=96/\dY es cl)/\x.1.size<=1000000000,false=false,True/\fT [] x/\(aI [] x).2=0/\(aI [] x).1≠[],List.take 3 (List.drop (off+i.toNat*3) l)=iC x/\(iC x).length=3,ai i n=true,decide (i<(↑n:Int))=true]:=by kernel_rfl
theorem Up (D:List ax)(ys:Option Addr->Nat->List Int)(l m m' q:List SV)(off n c k k' cl cl' j:Nat)(x:ax)(f:cp)(i i':Int)(es es':VQ)(b:Nat × Nat):fw (jL D ys) 2 400 (SM.at (eB off n c bZ i) 6 (qf l es cl)) ([(2,.cells (iC x)),(3,.b true),(10,.cr)]++ff [0,9] true++ff [1,4,5,6,7,8,11,12,13,14,15,16,17,18,19,20,21,22] false++VP) [(0,0),(1,1),(2,2),(3,4)] [0,2,3] (eB off n c (qo k') i') 6 (iM l es' cl' m') 2 6 (.row q 5 (0,0) (some 1)) b=[List.map SV.v (List.map (V1 IntKind.u8) (ys x.3 x.4))=q,q.all ab=true,0=0,0=0/\(aI [] x).1.length=k'/\nZ=none,off=off/\n=n/\some c=some c,vZ (↑n:Int)=vZ (↑n:Int),vZ (IntKind.i64.wrap (i+1))=vZ i',l=l,l.all ab=true,cl+1=cl',dJ 6 b (es++[(SV.v (VS x.p),VZ [SV.v (vZ x.k),SV.sl 6 0 x.l none],cl)])=es',(es'.all fun e=>aw e.fst&&aw e.snd.fst)=true,List.map SV.v (vI (aI [] x).1)=m',m'.all ab=true,false=false,∀ (e:SV × SV × Nat),e∈es->a8 x.p e.fst,(∃ ZT,ZT∈D/\ZT.a=x.a/\ZT.l=x.l)/\x.3≠none,false=false,(x.2==0)=false,(!eD (mapOf es) x==0)=false,(96=96/\dY es cl)/\x.1.size<=1000000000,false=false,True/\fT [] x/\(aI [] x).2=0/\(aI [] x).1≠[],List.take 3 (List.drop (off+i.toNat*3) l)=iC x/\(iC x).length=3,ai i n=true,decide (i<(↑n:Int))=true]:=by kernel_rfl
theorem VD (D:List ax)(ys:Option Addr->Nat->List Int)(l m m' q:List SV)(off n c k k' cl cl' j:Nat)(x:ax)(f:cp)(i i':Int)(es es':VQ)(b:Nat × Nat):reach (jL D ys) 2 400 (SM.at (eB off n c (qo k) i) 6 (iM l es cl m)) ([(2,.cells (iC x)),(3,.b false)]++ff [0,6] true++ff [1,4,5,7,8,9,10,11,12,13,14,15,16,17,18,19] false++VP) [(0,0),(1,1),(2,2),(3,3)] [0,2,3] (eB off n c (qo k') i') 6 (iM l es' cl' m')=[0=0,0=0/\k=k'/\nZ=none,off=off/\n=n/\some c=some c,vZ (↑n:Int)=vZ (↑n:Int),vZ (IntKind.i64.wrap (i+1))=vZ i',l=l,l.all ab=true,cl=cl',es=es',(es'.all fun e=>aw e.fst&&aw e.snd.fst)=true,m=m',m'.all ab=true,(!eD (mapOf es) x==(aI (ad m k) x).2)=false,(!eD (mapOf es) x==0)=true,(96=96/\dY es cl)/\x.1.size<=1000000000,false=false,(48=48/\bu m k (ad m k)/\ad m k≠[])/\fT (ad m k) x/\(aI (ad m k) x).2≠0,List.take 3 (List.drop (off+i.toNat*3) l)=iC x/\(iC x).length=3,ai i n=true,decide (i<(↑n:Int))=true]:=by kernel_rfl
theorem P8 (D:List ax)(ys:Option Addr->Nat->List Int)(l m m' q:List SV)(off n c k k' cl cl' j:Nat)(x:ax)(f:cp)(i i':Int)(es es':VQ)(b:Nat × Nat):reach (jL D ys) 2 400 (SM.at (eB off n c (qo k) i) 6 (iM l es cl m)) ([(2,.cells (iC x)),(3,.b true),(8,.hit j (cU f) f.2)]++ff [0,7] true++ff [1,4,5,6,9,10,11,12,13,14,15,16,17,18,19,20,21] false++VP) [(0,0),(1,1),(2,2),(3,5)] [0,2,3] (eB off n c (qo k') i') 6 (iM l es' cl' m')=[0=0,0=0/\(aI (ad m k) x).1.length=k'/\nZ=none,off=off/\n=n/\some c=some c,vZ (↑n:Int)=vZ (↑n:Int),vZ (IntKind.i64.wrap (i+1))=vZ i',l=l,l.all ab=true,cl=cl',es.eraseIdx j=es',(es'.all fun e=>aw e.fst&&aw e.snd.fst)=true,List.map SV.v (vI (aI (ad m k) x).1)=m',m'.all ab=true,false=false,(∀ (e:SV × SV × Nat),e∈List.take j es->a8 x.p e.fst)/\es[j]?=some (SV.v (VS x.1),cU f,f.2),(x.2==0)=true,(!eD (mapOf es) x==0)=false,(96=96/\dY es cl)/\x.1.size<=1000000000,false=false,(48=48/\bu m k (ad m k)/\ad m k≠[])/\fT (ad m k) x/\(aI (ad m k) x).2=0/\(aI (ad m k) x).1≠[],List.take 3 (List.drop (off+i.toNat*3) l)=iC x/\(iC x).length=3,ai i n=true,decide (i<(↑n:Int))=true]:=by kernel_rfl
theorem Pg (D:List ax)(ys:Option Addr->Nat->List Int)(l m m' q:List SV)(off n c k k' cl cl' j:Nat)(x:ax)(f:cp)(i i':Int)(es es':VQ)(b:Nat × Nat):reach (jL D ys) 2 400 (SM.at (eB off n c (qo k) i) 6 (iM l es cl m)) ([(2,.cells (iC x)),(3,.cr),(8,.hit j (cU f) f.2)]++ff [0,7] true++ff [1,4,5,6,9,10,11,12,13,14,15,16,17,18,19] false++VP) [(0,0),(1,1),(2,2)] [0,2] (eB off n c bZ i') 6 (qf l es' cl')=[0=0,VT none 0 0=VT none 0 0,off=off/\n=n/\some c=some c,vZ (↑n:Int)=vZ (↑n:Int),vZ (IntKind.i64.wrap (i+1))=vZ i',l=l,l.all ab=true,cl=cl',es.eraseIdx j=es',(es'.all fun e=>aw e.fst&&aw e.snd.fst)=true,false=false,(∀ (e:SV × SV × Nat),e∈List.take j es->a8 x.p e.fst)/\es[j]?=some (SV.v (VS x.1),cU f,f.2),(x.2==0)=true,(!eD (mapOf es) x==0)=false,(96=96/\dY es cl)/\x.1.size<=1000000000,false=false,(48=48/\bu m k (ad m k)/\ad m k≠[])/\fT (ad m k) x/\(aI (ad m k) x).2=0/\(aI (ad m k) x).1=[],List.take 3 (List.drop (off+i.toNat*3) l)=iC x/\(iC x).length=3,ai i n=true,decide (i<(↑n:Int))=true]:=by kernel_rfl
theorem Qd (D:List ax)(ys:Option Addr->Nat->List Int)(l m m' q:List SV)(off n c k k' cl cl' j:Nat)(x:ax)(f:cp)(i i':Int)(es es':VQ)(b:Nat × Nat):reach (jL D ys) 2 400 (SM.at (eB off n c (qo k) i) 6 (iM l es cl m)) ([(2,.cells (iC x)),(3,.b true),(8,.cr)]++ff [0,7] true++ff [1,4,5,6,9,10,11,12,13,14,15,16,17,18,19,20,21] false++VP) [(0,0),(1,1),(2,2),(3,5)] [0,2,3] (eB off n c (qo k') i') 6 (iM l es' cl' m')=[0=0,0=0/\(aI (ad m k) x).1.length=k'/\nZ=none,off=off/\n=n/\some c=some c,vZ (↑n:Int)=vZ (↑n:Int),vZ (IntKind.i64.wrap (i+1))=vZ i',l=l,l.all ab=true,cl=cl',es=es',(es'.all fun e=>aw e.fst&&aw e.snd.fst)=true,List.map SV.v (vI (aI (ad m k) x).1)=m',m'.all ab=true,false=false,∀ (e:SV × SV × Nat),e∈es->a8 x.p e.fst,(x.2==0)=true,(!eD (mapOf es) x==0)=false,(96=96/\dY es cl)/\x.1.size<=1000000000,false=false,(48=48/\bu m k (ad m k)/\ad m k≠[])/\fT (ad m k) x/\(aI (ad m k) x).2=0/\(aI (ad m k) x).1≠[],List.take 3 (List.drop (off+i.toNat*3) l)=iC x/\(iC x).length=3,ai i n=true,decide (i<(↑n:Int))=true]:=by kernel_rfl
theorem Qh (D:List ax)(ys:Option Addr->Nat->List Int)(l m m' q:List SV)(off n c k k' cl cl' j:Nat)(x:ax)(f:cp)(i i':Int)(es es':VQ)(b:Nat × Nat):reach (jL D ys) 2 400 (SM.at (eB off n c (qo k) i) 6 (iM l es cl m)) ([(2,.cells (iC x)),(3,.b true),(10,.hit j (cU f) f.2)]++ff [0] true++ff [1,4,5,6,7,8,9,11,12,13,14,15,16,17,18,19,20,21,22,23] false++VP) [(0,0),(1,1),(2,2),(3,5)] [0,2,3] (eB off n c (qo k') i') 6 (iM l es' cl' m')=[0=0,0=0/\(aI (ad m k) x).1.length=k'/\nZ=none,off=off/\n=n/\some c=some c,vZ (↑n:Int)=vZ (↑n:Int),vZ (IntKind.i64.wrap (i+1))=vZ i',l=l,l.all ab=true,cl=cl',(es.modify j fun e=>(SV.v (VS x.p),VZ [SV.v (vZ x.k),SV.v (VT none 0 0)],e.2.2))=es',(es'.all fun e=>aw e.fst&&aw e.snd.fst)=true,List.map SV.v (vI (aI (ad m k) x).1)=m',m'.all ab=true,false=false,(∀ (e:SV × SV × Nat),e∈List.take j es->a8 x.p e.fst)/\es[j]?=some (SV.v (VS x.1),cU f,f.2),(∃ ZT,ZT∈D/\ZT.a=x.a/\ZT.l=x.l)/\x.3=none,false=false,(x.2==0)=false,(!eD (mapOf es) x==0)=false,(96=96/\dY es cl)/\x.1.size<=1000000000,false=false,(48=48/\bu m k (ad m k)/\ad m k≠[])/\fT (ad m k) x/\(aI (ad m k) x).2=0/\(aI (ad m k) x).1≠[],List.take 3 (List.drop (off+i.toNat*3) l)=iC x/\(iC x).length=3,ai i n=true,decide (i<(↑n:Int))=true]:=by kernel_rfl
theorem Qv (D:List ax)(ys:Option Addr->Nat->List Int)(l m m' q:List SV)(off n c k k' cl cl' j:Nat)(x:ax)(f:cp)(i i':Int)(es es':VQ)(b:Nat × Nat):fw (jL D ys) 2 400 (SM.at (eB off n c (qo k) i) 6 (iM l es cl m)) ([(2,.cells (iC x)),(3,.b true),(10,.hit j (cU f) f.2)]++ff [0,9] true++ff [1,4,5,6,7,8,11,12,13,14,15,16,17,18,19,20,21,22,23] false++VP) [(0,0),(1,1),(2,2),(3,5)] [0,2,3] (eB off n c (qo k') i') 6 (iM l es' cl' m') 2 7 (.row q 5 (0,0) (some 1)) b=[List.map SV.v (List.map (V1 IntKind.u8) (ys x.3 x.4))=q,q.all ab=true,0=0,0=0/\(aI (ad m k) x).1.length=k'/\nZ=none,off=off/\n=n/\some c=some c,vZ (↑n:Int)=vZ (↑n:Int),vZ (IntKind.i64.wrap (i+1))=vZ i',l=l,l.all ab=true,cl=cl',dJ 7 b (es.modify j fun e=>(SV.v (VS x.p),VZ [SV.v (vZ x.k),SV.sl 7 0 x.l none],e.2.2))=es',(es'.all fun e=>aw e.fst&&aw e.snd.fst)=true,List.map SV.v (vI (aI (ad m k) x).1)=m',m'.all ab=true,false=false,(∀ (e:SV × SV × Nat),e∈List.take j es->a8 x.p e.fst)/\es[j]?=some (SV.v (VS x.1),cU f,f.2),(∃ ZT,ZT∈D/\ZT.a=x.a/\ZT.l=x.l)/\x.3≠none,false=false,(x.2==0)=false,(!eD (mapOf es) x==0)=false,(96=96/\dY es cl)/\x.1.size<=1000000000,false=false,(48=48/\bu m k (ad m k)/\ad m k≠[])/\fT (ad m k) x/\(aI (ad m k) x).2=0/\(aI (ad m k) x).1≠[],List.take 3 (List.drop (off+i.toNat*3) l)=iC x/\(iC x).length=3,ai i n=true,decide (i<(↑n:Int))=true]:=by kernel_rfl
theorem P3 (D:List ax)(ys:Option Addr->Nat->List Int)(l m m' q:List SV)(off n c k k' cl cl' j:Nat)(x:ax)(f:cp)(i i':Int)(es es':VQ)(b:Nat × Nat):reach (jL D ys) 2 400 (SM.at (eB off n c (qo k) i) 6 (iM l es cl m)) ([(2,.cells (iC x)),(3,.b true),(10,.cr)]++ff [0] true++ff [1,4,5,6,7,8,9,11,12,13,14,15,16,17,18,19,20,21,22,23] false++VP) [(0,0),(1,1),(2,2),(3,5)] [0,2,3] (eB off n c (qo k') i') 6 (iM l es' cl' m')=[0=0,0=0/\(aI (ad m k) x).1.length=k'/\nZ=none,off=off/\n=n/\some c=some c,vZ (↑n:Int)=vZ (↑n:Int),vZ (IntKind.i64.wrap (i+1))=vZ i',l=l,l.all ab=true,cl+1=cl',(es++[(SV.v (VS x.p),VZ [SV.v (vZ x.k),SV.v (VT none 0 0)],cl)])=es',(es'.all fun e=>aw e.fst&&aw e.snd.fst)=true,List.map SV.v (vI (aI (ad m k) x).1)=m',m'.all ab=true,false=false,∀ (e:SV × SV × Nat),e∈es->a8 x.p e.fst,(∃ ZT,ZT∈D/\ZT.a=x.a/\ZT.l=x.l)/\x.3=none,false=false,(x.2==0)=false,(!eD (mapOf es) x==0)=false,(96=96/\dY es cl)/\x.1.size<=1000000000,false=false,(48=48/\bu m k (ad m k)/\ad m k≠[])/\fT (ad m k) x/\(aI (ad m k) x).2=0/\(aI (ad m k) x).1≠[],List.take 3 (List.drop (off+i.toNat*3) l)=iC x/\(iC x).length=3,ai i n=true,decide (i<(↑n:Int))=true]:=by kernel_rfl
theorem Ql (D:List ax)(ys:Option Addr->Nat->List Int)(l m m' q:List SV)(off n c k k' cl cl' j:Nat)(x:ax)(f:cp)(i i':Int)(es es':VQ)(b:Nat × Nat):fw (jL D ys) 2 400 (SM.at (eB off n c (qo k) i) 6 (iM l es cl m)) ([(2,.cells (iC x)),(3,.b true),(10,.cr)]++ff [0,9] true++ff [1,4,5,6,7,8,11,12,13,14,15,16,17,18,19,20,21,22,23] false++VP) [(0,0),(1,1),(2,2),(3,5)] [0,2,3] (eB off n c (qo k') i') 6 (iM l es' cl' m') 2 7 (.row q 5 (0,0) (some 1)) b=[List.map SV.v (List.map (V1 IntKind.u8) (ys x.3 x.4))=q,q.all ab=true,0=0,0=0/\(aI (ad m k) x).1.length=k'/\nZ=none,off=off/\n=n/\some c=some c,vZ (↑n:Int)=vZ (↑n:Int),vZ (IntKind.i64.wrap (i+1))=vZ i',l=l,l.all ab=true,cl+1=cl',dJ 7 b (es++[(SV.v (VS x.p),VZ [SV.v (vZ x.k),SV.sl 7 0 x.l none],cl)])=es',(es'.all fun e=>aw e.fst&&aw e.snd.fst)=true,List.map SV.v (vI (aI (ad m k) x).1)=m',m'.all ab=true,false=false,∀ (e:SV × SV × Nat),e∈es->a8 x.p e.fst,(∃ ZT,ZT∈D/\ZT.a=x.a/\ZT.l=x.l)/\x.3≠none,false=false,(x.2==0)=false,(!eD (mapOf es) x==0)=false,(96=96/\dY es cl)/\x.1.size<=1000000000,false=false,(48=48/\bu m k (ad m k)/\ad m k≠[])/\fT (ad m k) x/\(aI (ad m k) x).2=0/\(aI (ad m k) x).1≠[],List.take 3 (List.drop (off+i.toNat*3) l)=iC x/\(iC x).length=3,ai i n=true,decide (i<(↑n:Int))=true]:=by kernel_rfl
theorem pT {p:ByteArray}(h:aR p=true):p≠⟨#[]⟩:=fun e=>by
 have h1:=iw p
 rw[h]at h1
 exact absurd (by rw[e];rfl) (mL p (by simpa using h1))
theorem ug {xs:List ax}{x:ax}(h:(aI xs x).2=0):aR x.p=true/\((x.k=0/\aI xs x=(ch x.p xs,0))\/(x.k≠0/\aI xs x=(gL x (ch x.p xs),0)/\((aO x.p xs).k≠0\/xs.length<128))):=by
 unfold aI at h ⊢;by_cases g:aR x.p=false
 ·rw[if_pos g]at h;simp at h
 rw[if_neg g]at h ⊢;refine⟨by simpa using g,?_⟩;by_cases c1:aS x.k x.l≠0
 ·rw[if_pos c1]at h;exact absurd h c1
 rw[if_neg c1]at h ⊢;by_cases c2:x.k≠2/\bM x.p xs≠[]
 ·rw[if_pos c2]at h;simp at h
 rw[if_neg c2]at h ⊢;by_cases c0:x.k=0
 ·rw[if_pos c0];exact .inl ⟨c0,rfl⟩
 rw[if_neg c0]at h ⊢;by_cases cu:Da x=true/\(aO (aj x.p) xs).k≠2
 ·rw[if_pos cu]at h;simp at h
 rw[if_neg cu]at h ⊢;by_cases cf:(aO x.p xs).k=0/\128<=xs.length
 ·rw[if_pos cf]at h;simp at h
 rw[if_neg cf];refine .inr ⟨c0,rfl,?_⟩;by_cases h0:(aO x.p xs).k=0
 ·exact .inr (Nat.lt_of_not_le fun h=>cf ⟨h0,h⟩)
 ·exact .inl h0
section
variable {E:List cp}{cl:Nat}{xs:List ax}{x:ax}{cm ys:ax->List Int}
theorem dL.nil:dL cm ys [] cl []:=⟨⟨by simp,by simp,fun e he=>(nomatch he),fun e he=>(nomatch he),fun e he=>(nomatch he)⟩,List.Perm.refl _,List.Pairwise.nil,by simp,fun e he=>(nomatch he)⟩
theorem dL.era (h:dL cm ys E cl xs){j:Nat}{f:cp}(hj:E[j]?=some f)(hp:f.1.p=x.p):dL cm ys (E.eraseIdx j) cl (ch x.p xs):=
 ⟨h.ok.sub (List.eraseIdx_sublist E j),by rw[lQ h.ok.names hj,hp,vR];exact h.ZB.filter _,h.sorted.drop _,Wh (vc _ _) h.YO,fun e he=>h.kind e (Wo.1 he).1⟩
theorem dL.mod (h:dL cm ys E cl xs){j:Nat}{f:cp}(hj:E[j]?=some f)(hp:f.1.p=x.p){y:ax}(hy:oj cm y=oj ys x)(hxk:x.k≠0):dL cm ys (E.modify j fun e=>(y,e.2)) cl (gL x (ch x.p xs)):=by
 have hf:=Xi hj;have hyp:y.p=x.p:=(Prod.mk.inj hy).1;refine dL.new (h.ok.mod hj (by rw[hyp,hp])) ?_ (h.sorted.drop _) (fun e he=>F0 e he) ?_ (fun e he=>h.kind e (Wo.1 he).1) hxk
 ·refine ((jO (g:=fun e=>(y,e.2)) hj).map (lx cm)).trans ?_;rw[WC,lQ h.ok.names hj,hp,vR];show (oj cm y::_).Perm _;rw[hy];exact (h.ZB.filter _).cons _
 ·have:=(h.pG hf).2.1;rw[hp]at this;have:=h.YO;omega
theorem dL.snoc (h:dL cm ys E cl xs)(hm:∀ f∈E,f.1.p≠x.p){y:ax}(hy:oj cm y=oj ys x)(hf:x.p≠⟨#[]⟩)(hz:x.p.size<=1000000000)(hl:xs.length<128)(hxk:x.k≠0):dL cm ys (E++[(y,cl)]) (cl+1) (gL x xs):=by
 have hyp:y.p=x.p:=(Prod.mk.inj hy).1;refine dL.new (h.ok.snoc (by rw[hyp];exact hm) (by rw[hyp];exact hf) (by rw[hyp];exact hz)) ?_ h.sorted (h.cr hm) hl h.kind hxk;refine BK.trans ?_;rw[hy];exact h.ZB.cons _
theorem dL.tree (h:dL cm ys E cl xs):dY (E.map mI) cl:=by
 refine⟨by rw[bj],by rw[bj];exact h.ok,?_⟩;rw[bj,h.len];have:=h.YO;omega
theorem dL.empty (h:dL cm ys E cl []):E=[]:=Wd.1 (by rw[h.len];rfl)
end
structure zw (D:List ax):Prop where
 size:∀ x∈D,x.p.size<=1000000000
 nil:∀ x∈D,x.a=none->x.l=0
 YO:D.length<=1000
def yI (ys:Option Addr->Nat->List Int)(e:ax):List Int:=ys e.a e.l
structure x8 (D:List ax)(ys:Option Addr->Nat->List Int)(w0:World)(M:Own)(H:Hp)(M1:Own)(w1:World)(E:List cp)(cl:Nat)(xs:List ax):Prop where
 kept:Kept w0.hp M w0 H M1 w1
 inv:dL (lr H) (yI ys) E cl xs
 data:∀ e∈E,∃ zs,dE H e.1 zs/\u9 w0 e.1
 sub:∀ e∈xs,e∈D
section
variable {D:List ax}{ys:Option Addr->Nat->List Int}{w0:World}{M:Own}{H:Hp}{M1:Own}{w1:World}{E:List cp}{cl:Nat}{xs:List ax}{x:ax}
theorem x8.next (hS:x8 D ys w0 M H M1 w1 E cl xs){H':Hp}{M2:Own}{w2:World}(hk:Kept w0.hp M w0 H' M2 w2)(hs:H.Sub H'){y:ax}{zs:List Int}(hy:dE H' y zs)(hyn:u9 w0 y)
  {E':List cp} {cl':Nat} {xs':List ax} (hE:∀ e∈E',e.1=y\/e∈E) (hx:x∈D) (ZV:∀ e∈xs',e=x\/e∈xs) (inv:dL (lr H') (yI ys) E cl xs->dL (lr H') (yI ys) E' cl' xs'):x8 D ys w0 M H' M2 w2 E' cl' xs':=by
 have hold:∀ e∈E,∃ zs,dE H' e.1 zs/\u9 w0 e.1/\lr H e.1=lr H' e.1:=fun e he=>by
  obtain⟨zs,h,hn⟩:=hS.data e he;exact⟨zs,h.mono hs,hn,by rw[h.cont,(h.mono hs).cont]⟩
 refine⟨hk,inv (hS.inv.cont fun e he=>(by obtain⟨_,_,_,h⟩:=hold e he;exact h)),fun e he=>?_,fun e he=>?_⟩
 ·rcases hE e he with h|h
  ·exact⟨zs,by rw[h];exact hy,by rw[h];exact hyn⟩
  ·obtain⟨zs,h,hn,_⟩:=hold e h;exact⟨zs,h,hn⟩
 ·rcases ZV e he with h|h
  ·rw[h];exact hx
  ·exact hS.sub e h
theorem x8.nil (hk:Kept w0.hp M w0 H M1 w1):x8 D ys w0 M H M1 w1 [] 0 []:=⟨hk,dL.nil,fun e he=>(nomatch he),fun e he=>(nomatch he)⟩
theorem fY {H:Hp}{x:ax}{zs:List Int}{ν1:aP}{j:Nat}{b:Nat × Nat}{ob:Obj}(hl:zs.length=x.l)(h:OR ν1 j (.row (List.map SV.v (zs.map (Value.int .u8))) 5 (0,0) (some 1)) ob):dE (H.put b.1 ob) ⟨x.p,x.k,some ⟨b.1,0,none⟩,x.l,b.2⟩ zs:=by
 obtain⟨vs,rest,rfl,hv,_⟩:=h;obtain rfl:=r7 hv;exact .inr ⟨b.1,rest,rfl,by rw[Hp.bO];simp,hl⟩
theorem vd {M0:Own}{w00 w0:World}(hM:∀ z,¬ M0 z)(hB:dh M0 w00 M w0)(hX:uP D ys w00):aK (jL D ys) M w0:=
 aK.uG (Checked.mixed Tryz.checked) (by kernel_rfl) (fh.of iJ rfl dK) (dy.list (X:=uP D ys) (l:=PF D ys) rfl (fun r h=>by
  simp only[PF,V8,Ww,Xc]at h
  rcases h with rfl|rfl|rfl
  ·exact J6
  ·exact Gb Lm fun w h=>h.1
  ·exact II) fun ν s w hr _=>hX.keep fun k hk=>(hr.frame k (Wz hk hB.size) (hB.frame k hk (hM k)).2).trans (hB.frame k hk (hM k)).1) (fun f g h=>by cases h)
def vX (D:List ax)(ys:Option Addr->Nat->List Int)(w0:World)(e:Ending)(w':World):Prop:=Below w0.heap.size w0 w'/\∃ b v,e=.returned (.tuple #[fA b,v,.bool true])/\w0.heap.size<=b/\
 ∃ E cl xs,dL (lr w'.hp) (yI ys) E cl xs/\(∀ e∈E,∃ zs,dE w'.hp e.1 zs/\u9 w0 e.1)/\(∀ e∈xs,e∈D)/\
  ((xs=[]/\iz w' b)\/∃ m,w0.heap.size<=m/\kO w' b m E cl)/\((xs=[]/\v=.slice none 0 0)\/(xs≠[]/\cF w0 w' v (vI xs) xs.length 3 48))
end
theorem z6 (x:ax):(⟨x.p,x.k,x.a,x.l,x.c⟩:ax)=x:=rfl
theorem dI:mapOf []=[]:=rfl
section
variable {w0:World}{cs0:List Frame}{D:List ax}{ys:Option Addr->Nat->List Int}{M:Own}{off c:Nat}{ν:aP}
theorem J3 (hX:uP D ys w0)(hM:∀ z,¬ M z)(hD:zw D){i:Nat}(hi:i<D.length)(Zl:∀ i b,ν i=some b->i=0)
  (ihC:∀ H M1 w1 E cl xs,x8 D ys w0 M H M1 w1 E cl xs->xs≠[]->af (jL D ys) M1 w1 cs0 7 (vX D ys w0) ν (SM.at (eB off D.length c (qo xs.length) ((i+1:Nat):Int)) 6 (iM (aT iC off D) (E.map mI) cl (cI xs))))
  (ihA:∀ H M1 w1,Kept w0.hp M w0 H M1 w1->af (jL D ys) M1 w1 cs0 7 (vX D ys w0) ν (SM.at (eB off D.length c bZ ((i+1:Nat):Int)) 6 (ru (aT iC off D))))
  {H:Hp} {M1:Own} {w1:World} (hk:Kept w0.hp M w0 H M1 w1):
  af (jL D ys) M1 w1 cs0 7 (vX D ys w0) ν (SM.at (eB off D.length c bZ (i:Int)) 6 (ru (aT iC off D))):=by
 have hS:=x8.nil (D:=D) (ys:=ys) hk;generalize hx:D[i]=x;have Zm:D[i]?=some x:=by rw[<- hx];exact V4 hi
 have YQ:x∈D:=by rw[<- hx];exact WS hi
 have YO:=hD.YO;have t1:decide ((i:Int)<(D.length:Int))=true:=V0 (by omega);have r1:=aJ hi;have ws:=aU (k:=i) (by omega);have ra:=gG (off:=off) cC Zm;have YJ:(aT iC off D).all ab=true:=ca bp;have x1:=hD.size x YQ;have ξ:(ys x.a x.l).length=x.l:=(hX.2 x YQ).1;have ζ:x.a=none->ys x.a x.l=[]:=fun h=>Wd.1 (by rw[ξ,hD.nil x YQ h]);have hI:=hS.inv;have hSI:fT [] x:=⟨x1,hI.size⟩;have hT:=hI.tree;have hmr:=xn hI x;have hh:True:=trivial;by_cases hc:¬ (aI [] x).2=0
 ·have ZC:(!eD [] x==(0:Int))=true:=by rw[hmr];simpa using hc
  have hr:(!eD [] x==(aI [] x).2)=false:=by rw[hmr];simp
  refine af.reach (vd hM hS.kept.base hX) (k:=2) (n:=400) (o:=([(2,.cells (iC x)),(3,.b false)]++ff [0,6] true++ff [1,4,5,7,8,9,10,11,12,13,14,15,16] false++VP)) (ren:=[(0,0),(1,1)]) (eqs:=[0,1]) ?_ (by kernel_rfl) (fun i b h=>by rw[Zl i b h];rfl) (ihA H M1 w1 hk);rw[UG (m:=[]) (m':=[]) (q:=[]) (k:=0) (k':=0) (cl:=0) (cl':=0) (j:=0) (f:=(x,0)) (es:=[]) (es':=[]) (b:=(0,0))];simp only[ah,t1,r1,ra,ws,ZC,hr,cC,bp,YJ,z6,aX,dI,bj,az,cX,cK,hh,hT,hSI,x1,hc,ne_eq,Xl,VV,VX,VW];try (repeat' apply And.intro)
  all_goals first|rfl|assumption|exact cL _|exact⟨x,YQ,rfl,rfl⟩|exact⟨x,YQ,by assumption,rfl⟩|exact hT.2.1|exact bJ _|decide|(simp;done)|exact dW (fun e=>rfl) E _|exact cJ (fun e=>rfl) E _|exact aV (E:=[]) rfl|exact aV rfl|(rw[Wq];rfl)|(rw[ba])|exact dx _ _|skip
 have hc:=Classical.not_not.1 hc;obtain⟨hg,hz⟩:=ug hc;have hxf:=pT hg;have ZC:(!eD [] x==(0:Int))=false:=by rw[hmr,hc];rfl
 rcases hz with ⟨Z5,hr⟩|⟨Z5,hr,θ⟩
 ·have k0:(x.2==(0:Int))=true:=by rw[show x.2=0 from Z5];rfl
  have hd:ch x.p ([]:List ax)=[]:=rfl;rw[hd]at hr;refine af.reach (vd hM hS.kept.base hX) (k:=2) (n:=400) (o:=([(2,.cells (iC x)),(3,.cr)]++ff [0,7] true++ff [1,4,5,6,8,9,10,11,12,13,14,15,16,17] false++VP)) (ren:=[(0,0),(1,1)]) (eqs:=[0,1]) ?_ (by kernel_rfl) (fun i b h=>by rw[Zl i b h];rfl) (ihA H M1 w1 hk);rw[UX (m:=[]) (m':=[]) (q:=[]) (k:=0) (k':=0) (cl:=0) (cl':=0) (j:=0) (f:=(x,0)) (es:=[]) (es':=[]) (b:=(0,0))];simp only[ah,t1,r1,ra,ws,ZC,hr,cC,bp,YJ,z6,aX,dI,bj,az,cX,cK,hh,hT,hSI,x1,k0,VV,VX,VW];try (repeat' apply And.intro)
  all_goals first|rfl|assumption|exact cL _|exact⟨x,YQ,rfl,rfl⟩|exact⟨x,YQ,by assumption,rfl⟩|exact hT.2.1|exact bJ _|decide|(simp;done)|exact dW (fun e=>rfl) E _|exact cJ (fun e=>rfl) E _|exact aV (E:=[]) rfl|exact aV rfl|(rw[Wq];rfl)|(rw[ba])|exact dx _ _|skip
 ·have k0:(x.2==(0:Int))=false:=by simpa using Z5
  have hd:ch x.p ([]:List ax)=[]:=rfl;rw[hd]at hr;have hm:∀ f∈([]:List cp),f.1.p≠x.p:=fun f hf=>(nomatch hf);by_cases hn:x.a=none
  ·have Zt:dE H (⟨x.p,x.k,none,0,0⟩:ax) (ys x.a x.l):=.inl ⟨rfl,rfl,ζ hn⟩;have hn3:x.3=none:=hn;refine af.reach (vd hM hS.kept.base hX) (k:=2) (n:=400) (o:=([(2,.cells (iC x)),(3,.b true)]++ff [0,8] true++ff [1,4,5,6,7,9] false++VP)) (ren:=[(0,0),(1,1),(2,5),(3,3)]) (eqs:=[0,2,3]) ?_ (by kernel_rfl) (fun i b h=>by rw[Zl i b h];rfl) (ihC H M1 w1 ([]++[((⟨x.p,x.k,none,0,0⟩:ax),0)]) (0+1) _ (hS.next (x:=x) (y:=(⟨x.p,x.k,none,0,0⟩:ax)) hS.kept (Hp.Sub.refl _) Zt (fun a h=>by cases h) (fun e he=>(WJ.1 he).elim (fun h=>.inr h) fun h=>.inl (by rw[Wl.1 h])) YQ (fun e he=>jl he) fun hI=>hI.snoc hm (by unfold oj yI;rw[Zt.cont]) hxf x1 (by simp) Z5) (dx _ _));rw[Vi (m:=[]) (q:=[]) (k:=0) (cl:=0) (j:=0) (f:=(x,0)) (es:=[]) (b:=(0,0))];simp only[ah,t1,r1,ra,ws,ZC,hr,cC,bp,YJ,z6,aX,dI,bj,az,cX,cK,hh,hT,hSI,x1,Ww,false_implies,implies_true,k0,hn3,VV,VX,VW];try (repeat' apply And.intro)
   all_goals first|rfl|assumption|exact cL _|exact⟨x,YQ,rfl,rfl⟩|exact⟨x,YQ,by assumption,rfl⟩|exact hT.2.1|exact bJ _|decide|(simp;done)|exact dW (fun e=>rfl) E _|exact cJ (fun e=>rfl) E _|exact aV (E:=[]) rfl|exact aV rfl|(rw[Wq];rfl)|(rw[ba])|exact dx _ _|skip
  ·have hn3:¬ x.3=none:=hn;refine af.fw (vd hM hS.kept.base hX) hM hS.kept (k:=2) (n:=400) (o:=([(2,.cells (iC x)),(3,.b true)]++ff [0,8,9] true++ff [1,4,5,6,7] false++VP)) (ren:=[(0,0),(1,1),(2,5),(3,3)]) (eqs:=[0,2,3]) (m:=5) (j:=6) (so:=.row (List.map SV.v ((ys x.a x.l).map (Value.int .u8))) 5 (0,0) (some 1)) (fun b=>?_) (by kernel_rfl) (fun i b h=>by rw[Zl i b h];rfl) (fun ν1 b ob M2 w2 Zs YA hK Yv Z9=>ihC (H.put b.1 ob) M2 w2 ([]++[((⟨x.p,x.k,some ⟨b.1,0,none⟩,x.l,b.2⟩:ax),0)]) (0+1) _ (hS.next (x:=x) (y:=(⟨x.p,x.k,some ⟨b.1,0,none⟩,x.l,b.2⟩:ax)) hK Yv (fY ξ YA) (fun a h=>by cases h;exact Z9) (fun e he=>(WJ.1 he).elim (fun h=>.inr h) fun h=>.inl (by rw[Wl.1 h])) YQ (fun e he=>jl he) fun hI=>hI.snoc hm (by unfold oj yI;rw[(fY (H:=H) (b:=b) (x:=x) ξ YA).cont]) hxf x1 (by simp) Z5) (dx _ _));rw[S2 (m:=[]) (k:=0) (cl:=0) (j:=0) (f:=(x,0)) (es:=[])]
   simp only[ah,t1,r1,ra,ws,ZC,hr,cC,bp,YJ,z6,aX,dI,bj,az,cX,cK,hh,hT,hSI,x1,Ww,false_implies,implies_true,k0,hn3,ne_eq,Xl,VV,VX,VW];try (repeat' apply And.intro)
   all_goals first|rfl|assumption|exact cL _|exact⟨x,YQ,rfl,rfl⟩|exact⟨x,YQ,by assumption,rfl⟩|exact hT.2.1|exact bJ _|decide|(simp;done)|exact dW (fun e=>rfl) E _|exact cJ (fun e=>rfl) E _|exact aV (E:=[]) rfl|exact aV rfl|(rw[Wq];rfl)|(rw[ba])|exact dx _ _|skip
theorem ID (hX:uP D ys w0)(hM:∀ z,¬ M z)(hD:zw D){i:Nat}(hi:i<D.length)(Zl:∀ i b,ν i=some b->i=0)
  (ihC:∀ H M1 w1 E cl xs,x8 D ys w0 M H M1 w1 E cl xs->xs≠[]->af (jL D ys) M1 w1 cs0 7 (vX D ys w0) ν (SM.at (eB off D.length c (qo xs.length) ((i+1:Nat):Int)) 6 (iM (aT iC off D) (E.map mI) cl (cI xs))))
  (ihB:∀ H M1 w1 cl,x8 D ys w0 M H M1 w1 [] cl []->af (jL D ys) M1 w1 cs0 7 (vX D ys w0) ν (SM.at (eB off D.length c bZ ((i+1:Nat):Int)) 6 (qf (aT iC off D) [] cl)))
  {H:Hp} {M1:Own} {w1:World} {cl:Nat} (hS:x8 D ys w0 M H M1 w1 [] cl []):
  af (jL D ys) M1 w1 cs0 7 (vX D ys w0) ν (SM.at (eB off D.length c bZ (i:Int)) 6 (qf (aT iC off D) [] cl)):=by
 generalize hx:D[i]=x;have Zm:D[i]?=some x:=by rw[<- hx];exact V4 hi
 have YQ:x∈D:=by rw[<- hx];exact WS hi
 have YO:=hD.YO;have t1:decide ((i:Int)<(D.length:Int))=true:=V0 (by omega);have r1:=aJ hi;have ws:=aU (k:=i) (by omega);have ra:=gG (off:=off) cC Zm;have YJ:(aT iC off D).all ab=true:=ca bp;have x1:=hD.size x YQ;have ξ:(ys x.a x.l).length=x.l:=(hX.2 x YQ).1;have ζ:x.a=none->ys x.a x.l=[]:=fun h=>Wd.1 (by rw[ξ,hD.nil x YQ h]);have hI:=hS.inv;have hSI:fT [] x:=⟨x1,hI.size⟩;have hT:=hI.tree;have hmr:=xn hI x;have hh:True:=trivial;by_cases hc:¬ (aI [] x).2=0
 ·have ZC:(!eD [] x==(0:Int))=true:=by rw[hmr];simpa using hc
  have hr:(!eD [] x==(aI [] x).2)=false:=by rw[hmr];simp
  refine af.reach (vd hM hS.kept.base hX) (k:=2) (n:=400) (o:=([(2,.cells (iC x)),(3,.b false)]++ff [0,6] true++ff [1,4,5,7,8,9,10,11,12,13,14,15,16,17] false++VP)) (ren:=[(0,0),(1,1),(2,2)]) (eqs:=[0,2]) ?_ (by kernel_rfl) (fun i b h=>by rw[Zl i b h];rfl) (ihB H M1 w1 cl hS);rw[RS (m:=[]) (m':=[]) (q:=[]) (k:=0) (k':=0) (j:=0) (f:=(x,0)) (b:=(0,0))];simp only[ah,t1,r1,ra,ws,ZC,hr,cC,bp,YJ,z6,aX,dI,bj,az,cX,cK,hh,hT,hSI,x1,hc,ne_eq,Xl,VV,VX,VW];try (repeat' apply And.intro)
  all_goals first|rfl|assumption|exact cL _|exact⟨x,YQ,rfl,rfl⟩|exact⟨x,YQ,by assumption,rfl⟩|exact hT.2.1|exact bJ _|decide|(simp;done)|exact dW (fun e=>rfl) E _|exact cJ (fun e=>rfl) E _|exact aV (E:=[]) rfl|exact aV rfl|(rw[Wq];rfl)|(rw[ba])|exact dx _ _|skip
 have hc:=Classical.not_not.1 hc;obtain⟨hg,hz⟩:=ug hc;have hxf:=pT hg;have ZC:(!eD [] x==(0:Int))=false:=by rw[hmr,hc];rfl
 rcases hz with ⟨Z5,hr⟩|⟨Z5,hr,θ⟩
 ·have k0:(x.2==(0:Int))=true:=by rw[show x.2=0 from Z5];rfl
  have hd:ch x.p ([]:List ax)=[]:=rfl;rw[hd]at hr;refine af.reach (vd hM hS.kept.base hX) (k:=2) (n:=400) (o:=([(2,.cells (iC x)),(3,.cr),(8,.cr)]++ff [0,7] true++ff [1,4,5,6,9,10,11,12,13,14,15,16,17,18,19] false++VP)) (ren:=[(0,0),(1,1),(2,2)]) (eqs:=[0,2]) ?_ (by kernel_rfl) (fun i b h=>by rw[Zl i b h];rfl) (ihB H M1 w1 cl hS);rw[UU (m:=[]) (m':=[]) (q:=[]) (k:=0) (k':=0) (j:=0) (f:=(x,0)) (b:=(0,0))];simp only[ah,t1,r1,ra,ws,ZC,hr,cC,bp,YJ,z6,aX,dI,bj,az,cX,cK,hh,hT,hSI,x1,k0,Ww,false_implies,implies_true,VV,VX,VW];try (repeat' apply And.intro)
  all_goals first|rfl|assumption|exact cL _|exact⟨x,YQ,rfl,rfl⟩|exact⟨x,YQ,by assumption,rfl⟩|exact hT.2.1|exact bJ _|decide|(simp;done)|exact dW (fun e=>rfl) E _|exact cJ (fun e=>rfl) E _|exact aV (E:=[]) rfl|exact aV rfl|(rw[Wq];rfl)|(rw[ba])|exact dx _ _|skip
 ·have k0:(x.2==(0:Int))=false:=by simpa using Z5
  have hd:ch x.p ([]:List ax)=[]:=rfl;rw[hd]at hr;have hm:∀ f∈([]:List cp),f.1.p≠x.p:=fun f hf=>(nomatch hf);by_cases hn:x.a=none
  ·have Zt:dE H (⟨x.p,x.k,none,0,0⟩:ax) (ys x.a x.l):=.inl ⟨rfl,rfl,ζ hn⟩;have hn3:x.3=none:=hn;refine af.reach (vd hM hS.kept.base hX) (k:=2) (n:=400) (o:=([(2,.cells (iC x)),(3,.b true),(10,.cr)]++ff [0] true++ff [1,4,5,6,7,8,9,11,12,13,14,15,16,17,18,19,20,21,22] false++VP)) (ren:=[(0,0),(1,1),(2,2),(3,4)]) (eqs:=[0,2,3]) ?_ (by kernel_rfl) (fun i b h=>by rw[Zl i b h];rfl) (ihC H M1 w1 ([]++[((⟨x.p,x.k,none,0,0⟩:ax),cl)]) (cl+1) _ (hS.next (x:=x) (y:=(⟨x.p,x.k,none,0,0⟩:ax)) hS.kept (Hp.Sub.refl _) Zt (fun a h=>by cases h) (fun e he=>(WJ.1 he).elim (fun h=>.inr h) fun h=>.inl (by rw[Wl.1 h])) YQ (fun e he=>jl he) fun hI=>hI.snoc hm (by unfold oj yI;rw[Zt.cont]) hxf x1 (by simp) Z5) (dx _ _));rw[Sp (m:=[]) (q:=[]) (k:=0) (j:=0) (f:=(x,0)) (b:=(0,0))];simp only[ah,t1,r1,ra,ws,ZC,hr,cC,bp,YJ,z6,aX,dI,bj,az,cX,cK,hh,hT,hSI,x1,Ww,false_implies,implies_true,k0,hn3,VV,VX,VW]
   try (repeat' apply And.intro)
   all_goals first|rfl|assumption|exact cL _|exact⟨x,YQ,rfl,rfl⟩|exact⟨x,YQ,by assumption,rfl⟩|exact hT.2.1|exact bJ _|decide|(simp;done)|exact dW (fun e=>rfl) E _|exact cJ (fun e=>rfl) E _|exact aV (E:=[]) rfl|exact aV rfl|(rw[Wq];rfl)|(rw[ba])|exact dx _ _|skip
  ·have hn3:¬ x.3=none:=hn;refine af.fw (vd hM hS.kept.base hX) hM hS.kept (k:=2) (n:=400) (o:=([(2,.cells (iC x)),(3,.b true),(10,.cr)]++ff [0,9] true++ff [1,4,5,6,7,8,11,12,13,14,15,16,17,18,19,20,21,22] false++VP)) (ren:=[(0,0),(1,1),(2,2),(3,4)]) (eqs:=[0,2,3]) (m:=2) (j:=6) (so:=.row (List.map SV.v ((ys x.a x.l).map (Value.int .u8))) 5 (0,0) (some 1)) (fun b=>?_) (by kernel_rfl) (fun i b h=>by rw[Zl i b h];rfl) (fun ν1 b ob M2 w2 Zs YA hK Yv Z9=>ihC (H.put b.1 ob) M2 w2 ([]++[((⟨x.p,x.k,some ⟨b.1,0,none⟩,x.l,b.2⟩:ax),cl)]) (cl+1) _ (hS.next (x:=x) (y:=(⟨x.p,x.k,some ⟨b.1,0,none⟩,x.l,b.2⟩:ax)) hK Yv (fY ξ YA) (fun a h=>by cases h;exact Z9) (fun e he=>(WJ.1 he).elim (fun h=>.inr h) fun h=>.inl (by rw[Wl.1 h])) YQ (fun e he=>jl he) fun hI=>hI.snoc hm (by unfold oj yI;rw[(fY (H:=H) (b:=b) (x:=x) ξ YA).cont]) hxf x1 (by simp) Z5) (dx _ _));rw[Up (m:=[]) (k:=0) (j:=0) (f:=(x,0))]
   simp only[ah,t1,r1,ra,ws,ZC,hr,cC,bp,YJ,z6,aX,dI,bj,az,cX,cK,hh,hT,hSI,x1,Ww,false_implies,implies_true,k0,hn3,ne_eq,Xl,VV,VX,VW];try (repeat' apply And.intro)
   all_goals first|rfl|assumption|exact cL _|exact⟨x,YQ,rfl,rfl⟩|exact⟨x,YQ,by assumption,rfl⟩|exact hT.2.1|exact bJ _|decide|(simp;done)|exact dW (fun e=>rfl) E _|exact cJ (fun e=>rfl) E _|exact aV (E:=[]) rfl|exact aV rfl|(rw[Wq];rfl)|(rw[ba])|exact dx _ _|skip
theorem Ib (hX:uP D ys w0)(hM:∀ z,¬ M z)(hD:zw D){i:Nat}(hi:i<D.length)(Zl:∀ i b,ν i=some b->i=0)
  (ihC:∀ H M1 w1 E cl xs,x8 D ys w0 M H M1 w1 E cl xs->xs≠[]->af (jL D ys) M1 w1 cs0 7 (vX D ys w0) ν (SM.at (eB off D.length c (qo xs.length) ((i+1:Nat):Int)) 6 (iM (aT iC off D) (E.map mI) cl (cI xs))))
  (ihB:∀ H M1 w1 cl,x8 D ys w0 M H M1 w1 [] cl []->af (jL D ys) M1 w1 cs0 7 (vX D ys w0) ν (SM.at (eB off D.length c bZ ((i+1:Nat):Int)) 6 (qf (aT iC off D) [] cl)))
  {H:Hp} {M1:Own} {w1:World} {E:List cp} {cl:Nat} {xs:List ax} (hS:x8 D ys w0 M H M1 w1 E cl xs) (Yu:xs≠[]):
  af (jL D ys) M1 w1 cs0 7 (vX D ys w0) ν (SM.at (eB off D.length c (qo xs.length) (i:Int)) 6 (iM (aT iC off D) (E.map mI) cl (cI xs))):=by
 generalize hx:D[i]=x;have Zm:D[i]?=some x:=by rw[<- hx];exact V4 hi
 have YQ:x∈D:=by rw[<- hx];exact WS hi
 have YO:=hD.YO;have t1:decide ((i:Int)<(D.length:Int))=true:=V0 (by omega);have r1:=aJ hi;have ws:=aU (k:=i) (by omega);have ra:=gG (off:=off) cC Zm;have YJ:(aT iC off D).all ab=true:=ca bp;have x1:=hD.size x YQ;have ξ:(ys x.a x.l).length=x.l:=(hX.2 x YQ).1;have ζ:x.a=none->ys x.a x.l=[]:=fun h=>Wd.1 (by rw[ξ,hD.nil x YQ h]);have hI:=hS.inv;have hSI:fT xs x:=⟨x1,hI.size⟩;have hT:=hI.tree;have hmr:=xn hI x;have hh:bu (cI xs) xs.length xs:=⟨rfl,rfl,by have:=hI.YO;omega⟩;by_cases hc:¬ (aI xs x).2=0
 ·have ZC:(!eD E x==(0:Int))=true:=by rw[hmr];simpa using hc
  have hr:(!eD E x==(aI xs x).2)=false:=by rw[hmr];simp
  refine af.reach (vd hM hS.kept.base hX) (k:=2) (n:=400) (o:=([(2,.cells (iC x)),(3,.b false)]++ff [0,6] true++ff [1,4,5,7,8,9,10,11,12,13,14,15,16,17,18,19] false++VP)) (ren:=[(0,0),(1,1),(2,2),(3,3)]) (eqs:=[0,2,3]) ?_ (by kernel_rfl) (fun i b h=>by rw[Zl i b h];rfl) (ihC H M1 w1 E cl xs hS Yu);rw[VD (q:=[]) (j:=0) (f:=(x,0)) (b:=(0,0))];simp only[ah,t1,r1,ra,ws,ZC,hr,cC,bp,YJ,z6,aX,dI,bj,az,cX,cK,hh,hT,hSI,x1,Yu,hc,ne_eq,Xl,VV,VX,VW];try (repeat' apply And.intro)
  all_goals first|rfl|assumption|exact cL _|exact⟨x,YQ,rfl,rfl⟩|exact⟨x,YQ,by assumption,rfl⟩|exact hT.2.1|exact bJ _|decide|(simp;done)|exact dW (fun e=>rfl) E _|exact cJ (fun e=>rfl) E _|exact aV (E:=[]) rfl|exact aV rfl|(rw[Wq];rfl)|(rw[ba])|exact dx _ _|skip
 have hc:=Classical.not_not.1 hc;obtain⟨hg,hz⟩:=ug hc;have hxf:=pT hg;have ZC:(!eD E x==(0:Int))=false:=by rw[hmr,hc];rfl
 rcases hz with ⟨Z5,hr⟩|⟨Z5,hr,θ⟩
 ·have k0:(x.2==(0:Int))=true:=by rw[show x.2=0 from Z5];rfl
  by_cases hit:∃ f∈E,f.1.p=x.p
  ·obtain⟨f,hf,hp⟩:=hit;obtain⟨j,hj,hjE⟩:=pq hI.ok.names hf;rw[hp]at hj;have hj1:=hj.1;have hj2:(E.map mI)[j]?=some (SV.v (Value.string x.1),cU f,f.2):=hj.2;have hE':=hI.era (x:=x) hjE hp;have hs':x8 D ys w0 M H M1 w1 (E.eraseIdx j) cl (ch x.p xs):=⟨hS.kept,hE',fun e he=>hS.data e (XZ he),fun e he=>hS.sub e (Wo.1 he).1⟩;by_cases hd:ch x.p xs=[]
   ·rw[hd]at hr hs';have hE0:=hs'.inv.empty;rw[hE0]at hs';have hE1:(E.map mI).eraseIdx j=[]:=by rw[ba,hE0];rfl
    refine af.reach (vd hM hS.kept.base hX) (k:=2) (n:=400) (o:=([(2,.cells (iC x)),(3,.cr),(8,.hit j (cU f) f.2)]++ff [0,7] true++ff [1,4,5,6,9,10,11,12,13,14,15,16,17,18,19] false++VP)) (ren:=[(0,0),(1,1),(2,2)]) (eqs:=[0,2]) ?_ (by kernel_rfl) (fun i b h=>by rw[Zl i b h];rfl) (ihB H M1 w1 cl hs');rw[Pg (m':=[]) (q:=[]) (k':=0) (b:=(0,0))];simp only[ah,t1,r1,ra,ws,ZC,hr,cC,bp,YJ,z6,aX,dI,bj,az,cX,cK,hh,hT,hSI,x1,Yu,k0,hj1,hj2,hE1,ne_eq,Xl,VV,VX,VW];try (repeat' apply And.intro)
    all_goals first|rfl|assumption|exact cL _|exact⟨x,YQ,rfl,rfl⟩|exact⟨x,YQ,by assumption,rfl⟩|exact hT.2.1|exact bJ _|decide|(simp;done)|exact dW (fun e=>rfl) E _|exact cJ (fun e=>rfl) E _|exact aV (E:=[]) rfl|exact aV rfl|(rw[Wq];rfl)|(rw[ba])|exact dx _ _|skip
   ·have hE1:(E.map mI).eraseIdx j=(E.eraseIdx j).map mI:=ba _ _ _;refine af.reach (vd hM hS.kept.base hX) (k:=2) (n:=400) (o:=([(2,.cells (iC x)),(3,.b true),(8,.hit j (cU f) f.2)]++ff [0,7] true++ff [1,4,5,6,9,10,11,12,13,14,15,16,17,18,19,20,21] false++VP)) (ren:=[(0,0),(1,1),(2,2),(3,5)]) (eqs:=[0,2,3]) ?_ (by kernel_rfl) (fun i b h=>by rw[Zl i b h];rfl) (ihC H M1 w1 (E.eraseIdx j) cl _ hs' hd);rw[P8 (q:=[]) (b:=(0,0))];simp only[ah,t1,r1,ra,ws,ZC,hr,cC,bp,YJ,z6,aX,dI,bj,az,cX,cK,hh,hT,hSI,x1,Yu,hd,k0,hj1,hj2,hE1,ne_eq,Xl,VV,VX,VW];try (repeat' apply And.intro)
    all_goals first|rfl|assumption|exact cL _|exact⟨x,YQ,rfl,rfl⟩|exact⟨x,YQ,by assumption,rfl⟩|exact hT.2.1|exact bJ _|decide|(simp;done)|exact dW (fun e=>rfl) E _|exact cJ (fun e=>rfl) E _|exact aV (E:=[]) rfl|exact aV rfl|(rw[Wq];rfl)|(rw[ba])|exact dx _ _|skip
  ·have hm:∀ f∈E,f.1.p≠x.p:=fun f hf h=>hit ⟨f,hf,h⟩;have hms:=j5 hm;have hd:=(nQ (hI.cr hm)).2;rw[hd]at hr;refine af.reach (vd hM hS.kept.base hX) (k:=2) (n:=400) (o:=([(2,.cells (iC x)),(3,.b true),(8,.cr)]++ff [0,7] true++ff [1,4,5,6,9,10,11,12,13,14,15,16,17,18,19,20,21] false++VP)) (ren:=[(0,0),(1,1),(2,2),(3,5)]) (eqs:=[0,2,3]) ?_ (by kernel_rfl) (fun i b h=>by rw[Zl i b h];rfl) (ihC H M1 w1 E cl xs hS Yu);rw[Qd (q:=[]) (j:=0) (f:=(x,0)) (b:=(0,0))];simp only[ah,t1,r1,ra,ws,ZC,hr,cC,bp,YJ,z6,aX,dI,bj,az,cX,cK,hh,hT,hSI,x1,Yu,k0,ne_eq,Xl,VV,VX,VW];try (repeat' apply And.intro)
   all_goals first|rfl|assumption|exact cL _|exact⟨x,YQ,rfl,rfl⟩|exact⟨x,YQ,by assumption,rfl⟩|exact hT.2.1|exact bJ _|decide|(simp;done)|exact dW (fun e=>rfl) E _|exact cJ (fun e=>rfl) E _|exact aV (E:=[]) rfl|exact aV rfl|(rw[Wq];rfl)|(rw[ba])|exact dx _ _|skip
 ·have k0:(x.2==(0:Int))=false:=by simpa using Z5
  by_cases hit:∃ f∈E,f.1.p=x.p
  ·obtain⟨f,hf,hp⟩:=hit;obtain⟨j,hj,hjE⟩:=pq hI.ok.names hf;rw[hp]at hj;have hj1:=hj.1;have hj2:(E.map mI)[j]?=some (SV.v (Value.string x.1),cU f,f.2):=hj.2;by_cases hn:x.a=none
   ·have Zt:dE H (⟨x.p,x.k,none,0,0⟩:ax) (ys x.a x.l):=.inl ⟨rfl,rfl,ζ hn⟩;have hn3:x.3=none:=hn;refine af.reach (vd hM hS.kept.base hX) (k:=2) (n:=400) (o:=([(2,.cells (iC x)),(3,.b true),(10,.hit j (cU f) f.2)]++ff [0] true++ff [1,4,5,6,7,8,9,11,12,13,14,15,16,17,18,19,20,21,22,23] false++VP)) (ren:=[(0,0),(1,1),(2,2),(3,5)]) (eqs:=[0,2,3]) ?_ (by kernel_rfl) (fun i b h=>by rw[Zl i b h];rfl) (ihC H M1 w1 (E.modify j fun e=>((⟨x.p,x.k,none,0,0⟩:ax),e.2)) cl _ (hS.next (x:=x) (y:=(⟨x.p,x.k,none,0,0⟩:ax)) hS.kept (Hp.Sub.refl _) Zt (fun a h=>by cases h) (fun e he=>(eU hjE he).elim (fun h=>.inl (by rw[h])) .inr) YQ (fun e he=>yj he) fun hI=>hI.mod hjE hp (by unfold oj yI;rw[Zt.cont]) Z5) (dx _ _));rw[Qh (q:=[]) (b:=(0,0))];simp only[ah,t1,r1,ra,ws,ZC,hr,cC,bp,YJ,z6,aX,dI,bj,az,cX,cK,hh,hT,hSI,x1,Yu,hj1,hj2,k0,hn3,VV,VX,VW];try (repeat' apply And.intro)
    all_goals first|rfl|assumption|exact cL _|exact⟨x,YQ,rfl,rfl⟩|exact⟨x,YQ,by assumption,rfl⟩|exact hT.2.1|exact bJ _|decide|(simp;done)|exact dW (fun e=>rfl) E _|exact cJ (fun e=>rfl) E _|exact aV (E:=[]) rfl|exact aV rfl|(rw[Wq];rfl)|(rw[ba])|exact dx _ _|skip
   ·have hn3:¬ x.3=none:=hn;refine af.fw (vd hM hS.kept.base hX) hM hS.kept (k:=2) (n:=400) (o:=([(2,.cells (iC x)),(3,.b true),(10,.hit j (cU f) f.2)]++ff [0,9] true++ff [1,4,5,6,7,8,11,12,13,14,15,16,17,18,19,20,21,22,23] false++VP)) (ren:=[(0,0),(1,1),(2,2),(3,5)]) (eqs:=[0,2,3]) (m:=2) (j:=7) (so:=.row (List.map SV.v ((ys x.a x.l).map (Value.int .u8))) 5 (0,0) (some 1)) (fun b=>?_) (by kernel_rfl) (fun i b h=>by rw[Zl i b h];rfl) (fun ν1 b ob M2 w2 Zs YA hK Yv Z9=>ihC (H.put b.1 ob) M2 w2 (E.modify j fun e=>((⟨x.p,x.k,some ⟨b.1,0,none⟩,x.l,b.2⟩:ax),e.2)) cl _ (hS.next (x:=x) (y:=(⟨x.p,x.k,some ⟨b.1,0,none⟩,x.l,b.2⟩:ax)) hK Yv (fY ξ YA) (fun a h=>by cases h;exact Z9) (fun e he=>(eU hjE he).elim (fun h=>.inl (by rw[h])) .inr) YQ (fun e he=>yj he) fun hI=>hI.mod hjE hp (by unfold oj yI;rw[(fY (H:=H) (b:=b) (x:=x) ξ YA).cont]) Z5) (dx _ _));rw[Qv]
    simp only[ah,t1,r1,ra,ws,ZC,hr,cC,bp,YJ,z6,aX,dI,bj,az,cX,cK,hh,hT,hSI,x1,Yu,hj1,hj2,k0,hn3,ne_eq,Xl,VV,VX,VW];try (repeat' apply And.intro)
    all_goals first|rfl|assumption|exact cL _|exact⟨x,YQ,rfl,rfl⟩|exact⟨x,YQ,by assumption,rfl⟩|exact hT.2.1|exact bJ _|decide|(simp;done)|exact dW (fun e=>rfl) E _|exact cJ (fun e=>rfl) E _|exact aV (E:=[]) rfl|exact aV rfl|(rw[Wq];rfl)|(rw[ba])|exact dx _ _|skip
  ·have hm:∀ f∈E,f.1.p≠x.p:=fun f hf h=>hit ⟨f,hf,h⟩;have hms:=j5 hm;have ZA:=nQ (hI.cr hm)
   have YD:xs.length<128:=by
    rcases θ with h|h
    ·rw[ZA.1]at h;exact absurd rfl h
    ·exact h
   have hd:=ZA.2;rw[hd]at hr;by_cases hn:x.a=none
   ·have Zt:dE H (⟨x.p,x.k,none,0,0⟩:ax) (ys x.a x.l):=.inl ⟨rfl,rfl,ζ hn⟩;have hn3:x.3=none:=hn;refine af.reach (vd hM hS.kept.base hX) (k:=2) (n:=400) (o:=([(2,.cells (iC x)),(3,.b true),(10,.cr)]++ff [0] true++ff [1,4,5,6,7,8,9,11,12,13,14,15,16,17,18,19,20,21,22,23] false++VP)) (ren:=[(0,0),(1,1),(2,2),(3,5)]) (eqs:=[0,2,3]) ?_ (by kernel_rfl) (fun i b h=>by rw[Zl i b h];rfl) (ihC H M1 w1 (E++[((⟨x.p,x.k,none,0,0⟩:ax),cl)]) (cl+1) _ (hS.next (x:=x) (y:=(⟨x.p,x.k,none,0,0⟩:ax)) hS.kept (Hp.Sub.refl _) Zt (fun a h=>by cases h) (fun e he=>(WJ.1 he).elim (fun h=>.inr h) fun h=>.inl (by rw[Wl.1 h])) YQ (fun e he=>jl he) fun hI=>hI.snoc hm (by unfold oj yI;rw[Zt.cont]) hxf x1 YD Z5) (dx _ _));rw[P3 (q:=[]) (j:=0) (f:=(x,0)) (b:=(0,0))];simp only[ah,t1,r1,ra,ws,ZC,hr,cC,bp,YJ,z6,aX,dI,bj,az,cX,cK,hh,hT,hSI,x1,Yu,k0,hn3,VV,VX,VW];try (repeat' apply And.intro)
    all_goals first|rfl|assumption|exact cL _|exact⟨x,YQ,rfl,rfl⟩|exact⟨x,YQ,by assumption,rfl⟩|exact hT.2.1|exact bJ _|decide|(simp;done)|exact dW (fun e=>rfl) E _|exact cJ (fun e=>rfl) E _|exact aV (E:=[]) rfl|exact aV rfl|(rw[Wq];rfl)|(rw[ba])|exact dx _ _|skip
   ·have hn3:¬ x.3=none:=hn;refine af.fw (vd hM hS.kept.base hX) hM hS.kept (k:=2) (n:=400) (o:=([(2,.cells (iC x)),(3,.b true),(10,.cr)]++ff [0,9] true++ff [1,4,5,6,7,8,11,12,13,14,15,16,17,18,19,20,21,22,23] false++VP)) (ren:=[(0,0),(1,1),(2,2),(3,5)]) (eqs:=[0,2,3]) (m:=2) (j:=7) (so:=.row (List.map SV.v ((ys x.a x.l).map (Value.int .u8))) 5 (0,0) (some 1)) (fun b=>?_) (by kernel_rfl) (fun i b h=>by rw[Zl i b h];rfl) (fun ν1 b ob M2 w2 Zs YA hK Yv Z9=>ihC (H.put b.1 ob) M2 w2 (E++[((⟨x.p,x.k,some ⟨b.1,0,none⟩,x.l,b.2⟩:ax),cl)]) (cl+1) _ (hS.next (x:=x) (y:=(⟨x.p,x.k,some ⟨b.1,0,none⟩,x.l,b.2⟩:ax)) hK Yv (fY ξ YA) (fun a h=>by cases h;exact Z9) (fun e he=>(WJ.1 he).elim (fun h=>.inr h) fun h=>.inl (by rw[Wl.1 h])) YQ (fun e he=>jl he) fun hI=>hI.snoc hm (by unfold oj yI;rw[(fY (H:=H) (b:=b) (x:=x) ξ YA).cont]) hxf x1 YD Z5) (dx _ _));rw[Ql (j:=0) (f:=(x,0))]
    simp only[ah,t1,r1,ra,ws,ZC,hr,cC,bp,YJ,z6,aX,dI,bj,az,cX,cK,hh,hT,hSI,x1,Yu,k0,hn3,ne_eq,Xl,VV,VX,VW];try (repeat' apply And.intro)
    all_goals first|rfl|assumption|exact cL _|exact⟨x,YQ,rfl,rfl⟩|exact⟨x,YQ,by assumption,rfl⟩|exact hT.2.1|exact bJ _|decide|(simp;done)|exact dW (fun e=>rfl) E _|exact cJ (fun e=>rfl) E _|exact aV (E:=[]) rfl|exact aV rfl|(rw[Wq];rfl)|(rw[ba])|exact dx _ _|skip
end
def CV:Option (SO × Bool):=some (.row [.map 1] 96 (0,0) none,true)
theorem PJ (D:List ax)(ys:Option Addr->Nat->List Int)(l:List SV)(off n c:Nat)(i:Int):iL (jL D ys) 7 100 (SM.at (eB off n c bZ i) 6 (ru l)) (ff [0] false) [(0,1)] [] (.tup [.ptr 0 0,.v (.slice none 0 0),.v (.bool true)]) [xD]=[0=0,VT none 0 0=VT none 0 0,VU true=VU true,Value.map none=Value.map none,decide (i<(↑n:Int))=false]:=by kernel_rfl
theorem Uz (D:List ax)(ys:Option Addr->Nat->List Int)(l:List SV)(off n c cl:Nat)(i:Int)(es:VQ):iL (jL D ys) 7 100 (SM.at (eB off n c bZ i) 6 (qf l es cl)) (ff [0] false) [(0,1),(1,2)] [1] (.tup [.ptr 0 0,.v (.slice none 0 0),.v (.bool true)]) [CV,wc es cl]=[0=0,VT none 0 0=VT none 0 0,VU true=VU true,cl=cl,es=es,(es.all fun e=>aw e.fst&&aw e.snd.fst)=true,decide (i<(↑n:Int))=false]:=by kernel_rfl
theorem VE (D:List ax)(ys:Option Addr->Nat->List Int)(l m:List SV)(off n c cl k:Nat)(i:Int)(es:VQ):iL (jL D ys) 7 100 (SM.at (eB off n c (qo k) i) 6 (iM l es cl m)) (ff [0] false) [(0,1),(1,2),(2,3)] [1,2] (.tup [.ptr 0 0,.sl 2 0 k none,.v (.bool true)]) [CV,wc es cl,j6 m]=[0=0,0=0/\k=k/\nZ=none,VU true=VU true,cl=cl,es=es,(es.all fun e=>aw e.fst&&aw e.snd.fst)=true,m=m,m.all ab=true,decide (i<(↑n:Int))=false]:=by kernel_rfl
theorem SQ (a:Option Addr)(c:Nat):iL (jL [] fun _ _=>[]) 7 100 (a7 (jL [] fun _ _=>[]) 7 [.v (.slice a 0 c)]) VP [(0,0)] [] (.tup [.ptr 0 0,.v (.slice none 0 0),.v (.bool true)]) [xD]=[0=0,VT none 0 0=VT none 0 0,VU true=VU true,Value.map none=Value.map none]:=by kernel_rfl
theorem VJ (D:List ax)(ys:Option Addr->Nat->List Int)(l:List SV)(off n c:Nat):reach (jL D ys) 2 100 (Fq D ys l off n c) (VP) [(0,0),(1,1)] [0,1] (eB off n c bZ 0) 6 (ru l)=[0=0,VT none 0 0=VT none 0 0,off=off/\n=n/\some c=some c,vZ (↑n:Int)=vZ (↑n:Int),vZ 0=vZ 0,l=l,l.all ab=true,List.map SV.v [Value.map none]=[SV.v (Value.map none)],true=true]:=by kernel_rfl
section
variable {w0:World}{cs0:List Frame}{D:List ax}{ys:Option Addr->Nat->List Int}{M:Own}{off c:Nat}{ν:aP}
theorem DB {ν':aP}{ob:Obj}(h:OR ν' 0 (.row [.v (.map none)] 96 (0,0) none) ob):ob=.cells #[.map none] 96 (0,0):=by
 obtain⟨zs,rest,rfl,hz,hx⟩:=h;obtain⟨z1,u,rfl,r1,hu⟩:=hz.cons_inv;obtain rfl:=hu.ay;obtain rfl:=VR.ae.1 r1
 have h0:rest=[]:=by
  have:([Value.map none]++rest).length=1:=hx;simpa using this
 subst h0;rfl
theorem vl {ν':aP}{ob:Obj}{bm:Nat × Nat}(hbm:ν' 1=some bm)(h:OR ν' 0 (.row [.map 1] 96 (0,0) none) ob):ob=.cells #[.map (some bm.1)] 96 (0,0):=by
 obtain⟨zs,rest,rfl,hz,hx⟩:=h;obtain⟨z1,u,rfl,r1,hu⟩:=hz.cons_inv;obtain rfl:=hu.ay;obtain⟨bm',hbm',rfl⟩:=VR.cQ.1 r1;rw[hbm]at hbm';cases hbm'
 have h0:rest=[]:=by
  have:([Value.map (some bm.1)]++rest).length=1:=hx;simpa using this
 subst h0;rfl
theorem Kx (hX:uP D ys w0)(hM:∀ z,¬ M z){H:Hp}{M1:Own}{w1:World}(hk:Kept w0.hp M w0 H M1 w1){S:SM}{n:Nat}{o:List (Nat × gR)}{ren:List (Nat × Nat)}
  (h:mX (iL (jL D ys) 7 n S o ren [] (.tup [.ptr 0 0,.v (.slice none 0 0),.v (.bool true)]) [xD])):
  af (jL D ys) M1 w1 cs0 7 (vX D ys w0) ν S:=by
 refine af.iL (vd hM hk.base hX) h.out fun ν' w' y hle hv hE hh=>?_;obtain⟨M3,w3,s',hB,hr⟩:=hh;have YP:=aB hM (hk.base.trans hB) hr;obtain⟨a,rfl,ha⟩:=VR.cz.1 hv;obtain⟨y1,a,rfl,q1,ha⟩:=ha.cons_inv;obtain⟨y2,a,rfl,q2,ha⟩:=ha.cons_inv;obtain⟨y3,a,rfl,q3,ha⟩:=ha.cons_inv;obtain rfl:=ha.ay;obtain⟨b,hb,rfl⟩:=VR.aF.1 q1;obtain rfl:=VR.ae.1 q2;obtain rfl:=VR.ae.1 q3;obtain⟨b',ob,Yy,ho,YA,hw⟩:=hE.obj 0 _ _ rfl;rw[hb]at Yy;cases Yy;refine⟨YP,b.1,_,rfl,iE (M3:=M3) (w3:=w3) hM hk (hw rfl),[],0,[],dL.nil,fun e he=>(nomatch he),fun e he=>(nomatch he),.inl ⟨rfl,?_⟩,.inl ⟨rfl,rfl⟩⟩;unfold iz;rw[ho,DB YA]
theorem Nd (hX:uP D ys w0)(hM:∀ z,¬ M z){H:Hp}{M1:Own}{w1:World}{cl:Nat}(hS:x8 D ys w0 M H M1 w1 [] cl []){i:Int}(hi:¬ i<(D.length:Int)):
  af (jL D ys) M1 w1 cs0 7 (vX D ys w0) ν (SM.at (eB off D.length c bZ i) 6 (qf (aT iC off D) [] cl)):=by
 refine af.iL (vd hM hS.kept.base hX) (n:=100) (o:=ff [0] false) (ren:=[(0,1),(1,2)]) (eqs:=[1]) (x:=.tup [.ptr 0 0,.v (.slice none 0 0),.v (.bool true)]) (l:=[CV,wc [] cl]) ?_ fun ν' w' y hle hv hE hh=>?_
 ·rw[Uz];simp only[ah,V2 hi,List.all_nil,VV,VX,VW]
 obtain⟨M3,w3,s',hB,hr⟩:=hh;have YP:=aB hM (hS.kept.base.trans hB) hr;obtain⟨a,rfl,ha⟩:=VR.cz.1 hv;obtain⟨y1,a,rfl,q1,ha⟩:=ha.cons_inv;obtain⟨y2,a,rfl,q2,ha⟩:=ha.cons_inv;obtain⟨y3,a,rfl,q3,ha⟩:=ha.cons_inv;obtain rfl:=ha.ay;obtain⟨b,hb,rfl⟩:=VR.aF.1 q1;obtain rfl:=VR.ae.1 q2;obtain rfl:=VR.ae.1 q3;obtain⟨b',ob,Yy,ho,YA,hw⟩:=hE.obj 0 _ _ rfl;rw[hb]at Yy;cases Yy;obtain⟨bm,om,hbm,hom,horm,hwm⟩:=hE.obj 1 _ _ rfl;refine⟨YP,b.1,_,rfl,iE (M3:=M3) (w3:=w3) hM hS.kept (hw rfl),[],cl,[],dL.nil,fun e he=>(nomatch he),fun e he=>(nomatch he),.inr ⟨bm.1,iE (M3:=M3) (w3:=w3) hM hS.kept (hwm rfl),⟨?_,?_⟩⟩,.inl ⟨rfl,rfl⟩⟩
 ·rw[ho,vl hbm YA]
 ·obtain⟨l,rfl,hl⟩:=horm;rw[hom,rJ (E:=[]) hl]
theorem NO (hX:uP D ys w0)(hM:∀ z,¬ M z){H:Hp}{M1:Own}{w1:World}{E:List cp}{cl:Nat}{xs:List ax}(hS:x8 D ys w0 M H M1 w1 E cl xs)(Yu:xs≠[]){i:Int}(hi:¬ i<(D.length:Int)):
  af (jL D ys) M1 w1 cs0 7 (vX D ys w0) ν (SM.at (eB off D.length c (qo xs.length) i) 6 (iM (aT iC off D) (E.map mI) cl (cI xs))):=by
 refine af.iL (vd hM hS.kept.base hX) (n:=100) (o:=ff [0] false) (ren:=[(0,1),(1,2),(2,3)]) (eqs:=[1,2]) (x:=.tup [.ptr 0 0,.sl 2 0 xs.length none,.v (.bool true)]) (l:=[CV,wc (E.map mI) cl,j6 (cI xs)]) ?_ fun ν' w' y hle hv hE hh=>?_
 ·rw[VE];simp only[ah,cK,az,V2 hi,VV,VX,VW]
 obtain⟨M3,w3,s',hB,hr⟩:=hh;have YP:=aB hM (hS.kept.base.trans hB) hr;have hnow:=hS.kept.now hB hr;obtain⟨a,rfl,ha⟩:=VR.cz.1 hv;obtain⟨y1,a,rfl,q1,ha⟩:=ha.cons_inv;obtain⟨y2,a,rfl,q2,ha⟩:=ha.cons_inv;obtain⟨y3,a,rfl,q3,ha⟩:=ha.cons_inv;obtain rfl:=ha.ay;obtain⟨b,hb,rfl⟩:=VR.aF.1 q1;obtain rfl:=VR.ae.1 q3;obtain⟨b',ob,Yy,ho,YA,hw⟩:=hE.obj 0 _ _ rfl;rw[hb]at Yy;cases Yy;obtain⟨bm,om,hbm,hom,horm,hwm⟩:=hE.obj 1 _ _ rfl;obtain⟨br,orr,hbr,hor2,horr,hwr⟩:=hE.obj 2 _ _ rfl
 have hcont:∀ e∈E,lr H e.1=lr w'.hp e.1:=fun e he=>by
  obtain⟨zs,hz,_⟩:=hS.data e he;rw[hz.cont,(hz.mono hnow).cont]
 refine⟨YP,b.1,y2,rfl,iE (M3:=M3) (w3:=w3) hM hS.kept (hw rfl),E,cl,xs,hS.inv.cont hcont,fun e he=>?_,hS.sub,.inr ⟨bm.1,iE (M3:=M3) (w3:=w3) hM hS.kept (hwm rfl),⟨?_,?_⟩⟩,.inr ⟨Yu,?_⟩⟩
 ·obtain⟨zs,hz,hn⟩:=hS.data e he;exact⟨zs,hz.mono hnow,hn⟩
 ·rw[ho,vl hbm YA]
 ·obtain⟨l,rfl,hl⟩:=horm;rw[hom,rJ hl]
 ·exact cF.gb q2 hbr hor2 horr (iE (M3:=M3) (w3:=w3) hM hS.kept (hwr rfl)) fun zs hz=>tu hz
theorem Gg (hX:uP D ys w0)(hM:∀ z,¬ M z)(hD:zw D)(Zl:∀ i b,ν i=some b->i=0):∀ (j i:Nat),i+j=D.length->
  (∀ H M1 w1 E cl xs,x8 D ys w0 M H M1 w1 E cl xs->xs≠[]->af (jL D ys) M1 w1 cs0 7 (vX D ys w0) ν (SM.at (eB off D.length c (qo xs.length) (i:Int)) 6 (iM (aT iC off D) (E.map mI) cl (cI xs))))/\
  (∀ H M1 w1 cl,x8 D ys w0 M H M1 w1 [] cl []->af (jL D ys) M1 w1 cs0 7 (vX D ys w0) ν (SM.at (eB off D.length c bZ (i:Int)) 6 (qf (aT iC off D) [] cl)))/\
  (∀ H M1 w1,Kept w0.hp M w0 H M1 w1->af (jL D ys) M1 w1 cs0 7 (vX D ys w0) ν (SM.at (eB off D.length c bZ (i:Int)) 6 (ru (aT iC off D))))
 | 0,i,hj=>by
  refine⟨fun H M1 w1 E cl xs hS Yu=>NO hX hM hS Yu (by omega),fun H M1 w1 cl hS=>Nd hX hM hS (by omega),fun H M1 w1 hk=>?_⟩
  refine Kx hX hM hk (n:=100) (o:=ff [0] false) (ren:=[(0,1)]) ⟨?_⟩
  rw[PJ]
  simp only[ah,V2 (show ¬ (i:Int)<(D.length:Int) by omega),VV,VX,VW]
 | j+1,i,hj=>by
  obtain⟨hC,hB,hA⟩:=Gg hX hM hD Zl j (i+1) (by omega)
  exact⟨fun H M1 w1 E cl xs hS Yu=>Ib hX hM hD (by omega) Zl hC hB hS Yu,fun H M1 w1 cl hS=>ID hX hM hD (by omega) Zl hC hB hS,fun H M1 w1 hk=>J3 hX hM hD (by omega) Zl hC hA hk⟩
end
theorem xw {W:World}{D:List ax}{ys:Option Addr->Nat->List Int}{b off c:Nat}{cs:Array Value}{e:TypeId}{fz:Nat × Nat}(hX:uP D ys W)(hD:zw D)(ZF:D.length<=c)(hh:W.heap[b]?=some (.cells cs e fz))(Y4:off<=cs.size)(hc:∀ (k:Nat) (v:Value),(D.flatMap iV)[k]?=some v->cs[off+k]?=some v):
  Calls Tryz.prog 7 #[.slice (some ⟨b,off,none⟩) D.length c] W (vX D ys W):=by
 refine aW (E:=jL D ys) rfl (d:=6) (l:=[(b,0)]) (os:=[.look (aT iC off D)]) rfl (by simp) (by simp) ?_ rfl (args:=[.sl 0 off D.length (some c)]) (a:=[.slice (some ⟨b,off,none⟩) D.length c]) (S0:=Fq D ys (aT iC off D) off D.length c) (by kernel_rfl) (au.cons (VR.aL.2 ⟨(b,0),rfl,ZF,rfl⟩) au.nil) fun cs0=>?_
 ·intro j o' b' c' h1 h2;match j with
  | 0=>
   simp only[Wa,Option.some.injEq]at h1 h2;subst h1;cases h2;exact⟨_,hh,eJ (h:=iV) (fun ν x=>au.lits ν (iV x)) Y4 hc⟩
  | j+1=>simp at h1
 ·have hM:∀ z,¬ (aD [(b,0)] ([SO.look (aT iC off D)].map fun o=>(o,false))) z:=fun z=>aZ;have hν:∀ i c,aA [(b,0)] i=some c->i=0:=fun i c h=>dj h
  have hK:=Kept.start (H0:=W.hp) (M:=aD [(b,0)] ([SO.look (aT iC off D)].map fun o=>(o,false))) (w:=W) (Hp.Sub.refl _) (fun z o _=>hM z) (dN (by
   intro j o' m b' c' h1 h2;match j with
   | 0=>
    simp only[WC,Wa,Option.some.injEq]at h1 h2;cases h1;cases h2;exact⟨_,hh,eJ (h:=iV) (fun ν x=>au.lits ν (iV x)) Y4 hc⟩
   | j+1=>simp at h1)) (fun _ h=>h)
  have YJ:(aT iC off D).all ab=true:=ca bp;refine af.reach (vd hM hK.base hX) (k:=2) (n:=100) (o:=VP) (ren:=[(0,0),(1,1)]) (eqs:=[0,1]) (F:=eB off D.length c bZ 0) (d:=6) (l:=ru (aT iC off D)) ?_ (by kernel_rfl) (fun i b h=>by rw[hν i b h];rfl) ((Gg hX hM hD hν D.length 0 (by omega)).2.2 W.hp _ W hK);rw[VJ];simp only[ah,YJ,VV,VX,VW];try (repeat' apply And.intro)
  all_goals first|rfl|assumption|decide|(simp;done)|skip
theorem yE {W:World}(hm:MX W)(ys:Option Addr->Nat->List Int)(a:Option Addr)(c:Nat):Calls Tryz.prog 7 #[.slice a 0 c] W (vX [] ys W):=by
 have hX:uP [] (fun _ _=>[]) W:=⟨hm,fun x hx=>(nomatch hx)⟩
 have:Calls Tryz.prog 7 #[.slice a 0 c] W (vX [] (fun _ _=>[]) W):=by
  refine bP (E:=jL [] fun _ _=>[]) rfl rfl (args:=[.v (.slice a 0 c)]) (a:=[.slice a 0 c]) (S0:=a7 (jL [] fun _ _=>[]) 7 [.v (.slice a 0 c)]) (by kernel_rfl) (au.cons (VR.ae.2 rfl) au.nil) fun cs0=>?_;have hK:=Kept.start (H0:=W.hp) (M:=aD [] []) (w:=W) (Hp.Sub.refl _) (fun z o _=>aE z) (fun z h=>by obtain⟨i,o,c,h,_⟩:=h;simp at h) (fun _ h=>h);refine Kx hX aE hK (n:=100) (o:=VP) (ren:=[(0,0)]) ⟨?_⟩;rw[SQ];simp only[ah,VV,VX,VW]
 refine this.mono fun e w' ⟨h1,b,v,h2,h3,E,cl,xs,h4,h5,h6,h7⟩=>?_
 have hx:xs=[]:=by
  cases xs with
  | nil=>rfl
  | cons z zs=>exact absurd (h6 z Wj) (by simp)
 subst hx;have hE:=h4.empty;subst hE;exact⟨h1,b,v,h2,h3,[],cl,[],dL.nil,fun e he=>(nomatch he),fun e he=>(nomatch he),h7⟩
def Kk:Option (SO × Bool):=some (.row [.map 1] 96 (0,0) none,false)
def F7:Option (SO × Bool):=some (.row [.v (.map none)] 96 (0,0) none,false)
def mapTR (es:VQ)(cl:Nat):Option (SO × Bool):=some (.map es cl,false)
def Ci (es:VQ)(cl:Nat)(p:ByteArray):SM:=(a6 bn 85 [.ptr 0 0,.v (.string p)] (bG 6 2 0 [Kk,mapTR es cl])).getD dn
def sI (p:ByteArray):SM:=(a6 bn 85 [.ptr 0 0,.v (.string p)] (bG 6 1 0 [F7])).getD dn
theorem SK (es:VQ)(cl:Nat)(p:ByteArray)(j:Nat)(f:cp)(v:Value):ao bn 85 60 (Ci es cl p) (VP++(List.range 10).map fun k=>(k,.hit j (.agg [.v (.int .i64 f.1.k),.v (.slice f.1.a f.1.l f.1.c)]) f.2)) v=[Value.agg { toList:=[vZ f.fst.2,VT f.fst.3 f.fst.4 f.fst.5]:Array Value }=v,(∀ (e:SV × SV × Nat),e∈List.take j es->a8 p e.fst)/\es[j]?=some (SV.v (VS p),VZ [SV.v (vZ f.fst.2),SV.v (VT f.fst.3 f.fst.4 f.fst.5)],f.2)]:=by kernel_rfl
theorem TN (es:VQ)(cl:Nat)(p:ByteArray)(v:Value):ao bn 85 60 (Ci es cl p) (VP++(List.range 10).map fun k=>(k,.cr)) v=[Value.agg { toList:=[vZ 0,VT none 0 0]:Array Value }=v,∀ (e:SV × SV × Nat),e∈es->a8 p e.fst]:=by kernel_rfl
theorem TG (p:ByteArray)(v:Value):ao bn 85 60 (sI p) (VP) v=[Value.agg { toList:=[vZ 0,VT none 0 0]:Array Value }=v]:=by kernel_rfl
def iR (w:World)(b:Nat)(E:List cp):Prop:=(∃ m cl,b≠m/\kO w b m E cl/\dQ E cl)\/(E=[]/\iz w b)
theorem iR.keep {w0 w:World}{b:Nat}{E:List cp}(h:iR w0 b E)(hs:w0.hp.Sub w.hp):iR w b E:=by
 rcases h with ⟨m,cl,h1,⟨h2,h3⟩,h4⟩|⟨h1,h2⟩
 ·exact .inl ⟨m,cl,h1,⟨hs _ _ h2,hs _ _ h3⟩,h4⟩
 ·exact .inr ⟨h1,hs _ _ h2⟩
def Ch (c:ax->List Int)(E:List cp)(p:ByteArray):Int × List Int:=match BJ E p with|some e=>(e.1.k,c e.1)|none=>(0,[])
def NJ (H:Hp)(w:World)(z:Int × List Int)(e:Ending)(w':World):Prop:=Below w.heap.size w w'/\∃ k a l c zs,e=.returned (.agg #[.int .i64 k,.slice a l c])/\j4 H a l zs/\(k,zs)=z
theorem pZ {w:World}:uw w none 0 []:=⟨⟨rfl,WW _,fun b hb=>by cases hb⟩,fun _=>rfl⟩
theorem HH {b m:Nat × Nat}{o o':SO}(z:Nat):¬ (aD [b,m] ([o,o'].map fun o=>(o,false))) z:=aZ (os:=[_,_])
theorem L7 {b:Nat × Nat}{o:SO}(z:Nat):¬ (aD [b] ([o].map fun o=>(o,false))) z:=aZ (os:=[_])
theorem vL {Q:Env}(hP:Q.P=Tryz.prog)(hG:Q.G=[]){f:FuncId}{w:World}{b m cl:Nat}{E:List cp}(hA:kO w b m E cl)(Yu:b≠m){p:ByteArray}{R:Ending->World->Prop}{S0:SM}(ZZ:a6 Q f [.ptr 0 0,.v (.string p)] (bG 6 2 0 [Kk,mapTR (E.map mI) cl])=some S0)
  (h:∀ cs0,af Q (aD [(b,0),(m,0)] ([SO.row [.map 1] 96 (0,0) none,SO.map (E.map mI) cl].map fun o=>(o,false))) w cs0 f R (aA [(b,0),(m,0)]) S0):
  Calls Tryz.prog f #[fA b,.string p] w R:=by
 refine aW (E:=Q) hP (d:=6) (l:=[(b,0),(m,0)]) (os:=[.row [.map 1] 96 (0,0) none,.map (E.map mI) cl]) rfl (by simp) (by simpa using Yu) ?_ hG (args:=[.ptr 0 0,.v (.string p)]) (a:=[fA b,.string p]) (S0:=S0) ZZ (au.cons (VR.aF.2 ⟨(b,0),rfl,rfl⟩) (au.cons (VR.ae.2 rfl) au.nil)) h;intro j o' b' c' h1 h2;match j with
 | 0=>
  simp only[Wa,Option.some.injEq]at h1 h2;subst h1;cases h2;exact⟨_,hA.row,_,[],rfl,au.cons (VR.cQ.2 ⟨(m,0),rfl,rfl⟩) au.nil,rfl⟩
 | 1=>
  simp only[WU,Wa,Option.some.injEq]at h1 h2;subst h1;cases h2;exact⟨_,hA.map,_,rfl,oB E⟩
 | j+2=>simp at h1
theorem AD {Q:Env}(hP:Q.P=Tryz.prog)(hG:Q.G=[]){f:FuncId}{w:World}{b:Nat}(hA:iz w b){p:ByteArray}{R:Ending->World->Prop}{S0:SM}(ZZ:a6 Q f [.ptr 0 0,.v (.string p)] (bG 6 1 0 [F7])=some S0)
  (h:∀ cs0,af Q (aD [(b,0)] ([SO.row [.v (.map none)] 96 (0,0) none].map fun o=>(o,false))) w cs0 f R (aA [(b,0)]) S0):
  Calls Tryz.prog f #[fA b,.string p] w R:=by
 refine aW (E:=Q) hP (d:=6) (l:=[(b,0)]) (os:=[.row [.v (.map none)] 96 (0,0) none]) rfl (by simp) (by simp) ?_ hG (args:=[.ptr 0 0,.v (.string p)]) (a:=[fA b,.string p]) (S0:=S0) ZZ (au.cons (VR.aF.2 ⟨(b,0),rfl,rfl⟩) (au.cons (VR.ae.2 rfl) au.nil)) h;intro j o' b' c' h1 h2;match j with
 | 0=>
  simp only[Wa,Option.some.injEq]at h1 h2;subst h1;cases h2;exact⟨_,hA,_,[],rfl,au.cons (VR.ae.2 rfl) au.nil,rfl⟩
 | j+1=>simp at h1
theorem A0 {w:World}{b:Nat}{E:List cp}{cm:ax->List Int}(h:iR w b E){H:Hp}(hd:∀ e∈E,j4 H e.1.a e.1.l (cm e.1))(p:ByteArray):
  Calls Tryz.prog 85 #[fA b,.string p] w (NJ H w (Ch cm E p)):=by
 unfold Ch;rcases h with ⟨m,cl,Yu,hA,hB⟩|⟨rfl,hZ⟩
 ·cases hf:BJ E p with
  | none=>
   have hm:∀ e∈E,e.1.p≠p:=fun e he h=>WY.1 hf e he (eZ.2 h);refine vL (Q:=bn) rfl rfl hA Yu (S0:=Ci (E.map mI) cl p) (by kernel_rfl) fun cs0=>?_;refine af.ao fQ (n:=60) (o:=(VP++(List.range 10).map fun k=>(k,.cr))) (v:=.agg #[.int .i64 0,.slice none 0 0]) ?_ fun ν' M1 w1 s' w' _ hB hr=>⟨aB HH hB hr,0,none,0,0,[],rfl,fun _ _=>pZ,rfl⟩;rw[TN];simp only[ah,VV,VX,VW];first|exact j5 hm|exact⟨rfl,j5 hm⟩|exact⟨j5 hm,rfl⟩
  | some g=>
   have hg:=WV hf;have hfp:g.1.p=p:=eZ.1 (Xp (p:=fun e:cp=>pH p e.1) hf);obtain⟨j,hj,hx⟩:=pq hB.names hg;rw[hfp]at hj;refine vL (Q:=bn) rfl rfl hA Yu (S0:=Ci (E.map mI) cl p) (by kernel_rfl) fun cs0=>?_;refine af.ao fQ (n:=60) (o:=(VP++(List.range 10).map fun k=>(k,.hit j (.agg [.v (.int .i64 g.1.k),.v (.slice g.1.a g.1.l g.1.c)]) g.2))) (v:=.agg #[.int .i64 g.1.k,.slice g.1.a g.1.l g.1.c]) ?_ fun ν' M1 w1 s' w' _ hB hr=>⟨aB HH hB hr,_,_,_,_,cm g.1,rfl,hd g hg,rfl⟩;rw[SK];simp only[ah,VV,VX,VW];first|exact hj|exact⟨hj,rfl⟩|exact⟨rfl,hj⟩
 ·refine AD (Q:=bn) rfl rfl hZ (S0:=sI p) (by kernel_rfl) fun cs0=>?_;refine af.ao fQ (n:=60) (o:=VP) (v:=.agg #[.int .i64 0,.slice none 0 0]) ?_ fun ν' M1 w1 s' w' _ hB hr=>⟨aB L7 hB hr,0,none,0,0,[],rfl,fun _ _=>pZ,rfl⟩;rw[TG];simp only[ah,VV,VX,VW]
def kJ (k:Int)(a:Option Addr)(l c:Nat):SV:=.v (.agg #[.int .i64 k,.slice a l c])
def yu (H0:Hp)(b:Nat)(z:ByteArray->Int × List Int):Prop:=
 ∀ w,H0.Sub w.hp->∀ p,Calls Tryz.prog 85 #[fA b,.string p] w (NJ H0 w (z p))
end paths
end Go.Proofs.YtbjmmnegkpeboaaGreatDoor
namespace Go.Rx
open Go.RowKit (Below)
section
variable {E:Env}{ν:aP}{M:Own}{w0 w:World}{s s':SH}{cs0:List Frame}{f:FuncId}{R:Ending->World->Prop}
end
end Go.Rx
namespace Go.Proofs.YtbjmmnegkpeboaaGreatDoor
open Go Go.Rx Go.RowKit Go.Proofs
namespace paths
def cx (n:Nat):Nat->SV:=fun i=>.sl i 0 n none
def PA (l:List ByteArray):SO:=.row (strs l) 9 (0,0) (some 1)
def oT:List (Nat × gR):=ff [1000] true
theorem iR.cells {w:World}{b:Nat}{E:List cp}(h:iR w b E):∃ v,w.heap[b]?=some (.cells #[.map v] 96 (0,0)):=by
 rcases h with ⟨m,cl,h1,h2,h4⟩|⟨h1,h2⟩
 ·exact⟨_,h2.row⟩
 ·exact⟨_,h2⟩
theorem iR.size {w:World}{b:Nat}{E:List cp}(h:iR w b E):∀ e∈E,e.1.p.size<=1000000000:=by
 rcases h with ⟨m,cl,h1,h2,h4⟩|⟨h1,h2⟩
 ·exact h4.size
 ·rw[h1];exact fun e he=>(nomatch he)
theorem j4.mono {H H':Hp}{a:Option Addr}{l:Nat}{zs:List Int}(h:j4 H a l zs)(hs:H.Sub H'):j4 H' a l zs:=fun w hw=>h w (hs.trans hw)
theorem yu.mono {H H':Hp}{b:Nat}{z:ByteArray->Int × List Int}(h:yu H b z)(hs:H.Sub H'):yu H' b z:=fun w hw p=>
 (h w (hs.trans hw) p).mono fun e w' ⟨h1,k,a,l,c,zs,h2,h3,h4⟩=>⟨h1,k,a,l,c,zs,h2,h3.mono hs,h4⟩
structure jY (W:World)(b:Nat)(z:ByteArray->Int × List Int)(E:List cp):Prop where
 tree:iR W b E
 get:yu W.hp b z
 YO:E.length<=1000
theorem jY.keep {W w:World}{b:Nat}{z:ByteArray->Int × List Int}{E:List cp}(h:jY W b z E)(hs:W.hp.Sub w.hp):jY w b z E:=⟨h.tree.keep hs,h.get.mono hs,h.YO⟩
section
variable {W:World}{cs0:List Frame}{b b1 b2:Nat}{z z1 z2:ByteArray->Int × List Int}{E E1 E2:List cp}{M:Own}{ν:aP}
end
inductive qY (W:World) (a:Option Addr) (l c:Nat) (D:List ax):Prop where
 | none (hl:l=0) (hD:D=[])
 | some (b off:Nat) (cs:Array Value) (e:TypeId) (fz:Nat × Nat) (ha:a=.some ⟨b,off,.none⟩) (hl:D.length=l) (ZF:l<=c) (hh:W.heap[b]?=.some (.cells cs e fz)) (Y4:off<=cs.size) (hc:∀ (k:Nat) (v:Value),(D.flatMap iV)[k]?=.some v->cs[off+k]?=.some v)
theorem qY.keep {W w:World}{a:Option Addr}{l c:Nat}{D:List ax}(h:qY W a l c D)(hk:∀ k,k<W.heap.size->w.heap[k]?=W.heap[k]?):qY w a l c D:=by
 rcases h with ⟨hl,hD⟩|⟨b,off,cs,e,fz,ha,hl,ZF,hh,Y4,hc⟩
 ·exact .none hl hD
 ·exact .some b off cs e fz ha hl ZF ((hk b (VY.1 hh).1).trans hh) Y4 hc
structure xb (W:World)(x:ax):Prop where
 p:x.p.size<=reachBytes
 nil:x.a=none->x.l=0
 l:x.l<=reachBytes
 ys:∃ ys:List Int,e8 W x.a x.l ys/\∀ y∈ys,0<=y/\y<256
 cap:x.l<=x.c\/x.l=0
section
variable {H:Type}{enc:TypeId × Value->H}{W:World}{base:Nat}{spare:Nat->Bool}{held:Bool}
theorem Jv {vs:List Value}{n:Nat}{y:DataW H × List MemPlace}(h:DataW.trod enc Tryz.prog W base spare held n 48 vs=some y)(hw:∀ q∈y.1.weights Tryz.prog 48,q<=reachBytes):∃ r:{ x:ax // xb W x },vs=iV r.1:=by
 have hs:Tryz.prog.underlying 48=some (.struct (structFields Tryz.prog 48)):=by kernel_rfl
 obtain⟨xs,n',_,_,hl,_,_⟩:=DataW.trod_struct hs h;have hl:vs.length=3:=hl.trans (by kernel_rfl);obtain⟨n0,y0,h0,w0⟩:=gd (i:=0) (o:=0) (ft:=9) (k:=1) h hs (by kernel_rfl) (by kernel_rfl) (by kernel_rfl) (by kernel_rfl);obtain⟨n2,y2,h2,w2⟩:=gd (i:=1) (o:=1) (ft:=46) (k:=2) h hs (by kernel_rfl) (by kernel_rfl) (by kernel_rfl) (by kernel_rfl);have hs2:Tryz.prog.underlying 46=some (.struct (structFields Tryz.prog 46)):=by kernel_rfl
 obtain⟨n3,y3,h3,w3⟩:=gd (i:=0) (o:=0) (ft:=3) (k:=1) h2 hs2 (by kernel_rfl) (by kernel_rfl) (by kernel_rfl) (by kernel_rfl);obtain⟨n4,y4,h4,w4⟩:=gd (i:=1) (o:=1) (ft:=44) (k:=1) h2 hs2 (by kernel_rfl) (by kernel_rfl) (by kernel_rfl) (by kernel_rfl);match vs,hl with
 | [v0,v2,v3],_=>
  obtain⟨s,hs0,hx0,_⟩:=DataW.trod_string Tryz.underlying9 h0;obtain⟨z3,hz3,_,_⟩:=DataW.trod_int Tryz.underlying3 h3;cases hs0;cases hz3;have h4':DataW.trod enc Tryz.prog W base spare held n4 44 [v3]=some y4:=h4
  have hsl:∃ a l c,v3=.slice a l c/\(l<=c\/l=0):=by
   rcases Deep.open_slice Tryz.underlying44 h4' with ⟨h0,_⟩|⟨a',len,cap,m,n',D,Pl,hcs,_,ZF,_⟩
   ·cases h0;exact⟨_,_,_,rfl,.inr rfl⟩
   ·cases hcs;exact⟨_,_,_,rfl,.inl ZF⟩
  obtain⟨a,l,c,rfl,ZF⟩:=hsl;obtain⟨q1,q2,q3⟩:=zT Tryz.underlying44 Tryz.underlying5 (by kernel_rfl) (by kernel_rfl) h4' fun q hq=>hw q (w2 q (w4 q hq));refine⟨⟨⟨s,z3,a,l,c⟩,⟨?_,q1,q2,q3,ZF⟩⟩,rfl⟩;have:=hw s.data.toList.length (w0 _ (by rw[hx0];unfold DataW.weights;exact Wl.2 rfl));simpa using this
theorem MK {a:Option Addr}{l c:Nat}{d:DataW H}{p:List MemPlace}(h:DataW.Trod enc Tryz.prog W base spare held 22 (.slice a l c) d p)(hw:∀ q∈d.weights Tryz.prog 22,q<=reachBytes):
  ∃ D:List ax,qY W a l c D/\(∀ x∈D,xb W x)/\l<=9223372036854775807:=by
 obtain⟨n,hn⟩:=h;have hr:=wy (h:=fun r:{ x:ax // xb W x }=>iV r.1) (C:=3) (by decide) (fun _=>rfl) (fun vs n y h hq=>Jv h fun q ZN=>hw q (hq q ZN)) Tryz.underlying22 (by kernel_rfl) hn;obtain⟨⟨ZF,hcm⟩,rfl|⟨b,off,xs,cs,e,fz,rfl,rfl,hh,Y4,hc⟩⟩:=hr
 ·exact⟨[],.none rfl rfl,fun x hx=>(nomatch hx),by omega⟩
 ·refine⟨xs.map (·.1),.some b off cs e fz rfl (by simp) ZF hh Y4 fun k v hk=>hc k v ?_,fun x hx=>?_,Wh ZF (Wh hcm (by decide))⟩
  ·rw[Ye]at hk;exact hk
  ·obtain⟨r,_,rfl⟩:=Wb.1 hx;exact r.2
end
def My (W:World)(a:Option Addr)(l:Nat):List Int:=open Classical in if h:∃ ys:List Int,e8 W a l ys/\∀ y∈ys,0<=y/\y<256 then Classical.choose h else []
theorem K6 {W:World}{x:ax}(h:xb W x):e8 W x.a x.l (My W x.a x.l):=by
 unfold My;rw[dif_pos h.ys];exact (XU h.ys).1
theorem Jf {W:World}{x:ax}(h:xb W x):∀ y∈My W x.a x.l,0<=y/\y<256:=by
 unfold My;rw[dif_pos h.ys];exact (XU h.ys).2
theorem Lr {W:World}{D:List ax}(hm:MX W)(h:∀ x∈D,xb W x):uP D (My W) W:=⟨hm,fun x hx=>K6 (h x hx)⟩
theorem D3 {W:World}{a:Option Addr}{l c:Nat}{D:List ax}{ys:Option Addr->Nat->List Int}(h:qY W a l c D)(hX:uP D ys W)(hD:zw D):Calls Tryz.prog 7 #[.slice a l c] W (vX D ys W):=by
 rcases h with ⟨rfl,rfl⟩|⟨b,off,cs,e,fz,rfl,rfl,ZF,hh,Y4,hc⟩
 ·exact yE hX.1 ys a c
 ·exact xw hX hD ZF hh Y4 hc
def HP (l:List SV)(off n c:Nat):SM:=(a6 bn 4 [.sl 0 off n (some c)] (bG 6 1 0 [cv l])).getD dn
def Lk:List SI:=dA bn 2 60 (HP [] 0 0 0) VP
def zv (off n c:Nat)(z i:Int):SF:={ fn:=4,tm:=e9 30 6 ([.sl 0 off n (some c),.aH,.aH,.v (.int .i64 z),.aH,.aH,.sl 0 off n (some c),.v (.int .i64 n),.v (.int .i64 i)]++List.replicate 21 .aH),todo:=Lk,defers:=[],ret:=false,kind:=.normal,ro:=none }
theorem Tt (l:List SV)(off n c:Nat)(x:ax)(z i z' i':Int)(v:Value):reach bn 2 60 (HP l off n c) (ff [0,1,2,3,4,5,6] false++VP) [(0,0)] [0] (zv off n c 0 0) 6 [cv l]=[off=off/\n=n/\some c=some c,vZ 0=vZ 0,off=off/\n=n/\some c=some c,vZ (↑n:Int)=vZ (↑n:Int),vZ 0=vZ 0,l=l,l.all ab=true]:=by kernel_rfl
theorem Uo (l:List SV)(off n c:Nat)(x:ax)(z i z' i':Int)(v:Value):reach bn 2 100 (SM.at (zv off n c z i) 6 [cv l]) ([(2,.cells (iC x))]++ff [0] true++ff [1,3,4,5,6,7,8,9,10] false++VP) [(0,0)] [0] (zv off n c z' i') 6 [cv l]=[off=off/\n=n/\some c=some c,vZ (IntKind.i64.wrap (z+(↑x.4:Int)))=vZ z',off=off/\n=n/\some c=some c,vZ (↑n:Int)=vZ (↑n:Int),vZ (IntKind.i64.wrap (i+1))=vZ i',l=l,l.all ab=true,decide ((↑x.1.size:Int)>200)=false,List.take 3 (List.drop (off+i.toNat*3) l)=iC x/\(iC x).length=3,ai i n=true,decide (i<(↑n:Int))=true]:=by kernel_rfl
theorem UJ (l:List SV)(off n c:Nat)(x:ax)(z i z' i':Int)(v:Value):ao bn 4 100 (SM.at (zv off n c z i) 6 [cv l]) ([(2,.cells (iC x))]++ff [0,3] true++ff [1,4] false++VP) v=[VU false=v,decide ((↑x.1.size:Int)>200)=true,List.take 3 (List.drop (off+i.toNat*3) l)=iC x/\(iC x).length=3,ai i n=true,decide (i<(↑n:Int))=true]:=by kernel_rfl
theorem Vm (l:List SV)(off n c:Nat)(x:ax)(z i z' i':Int)(v:Value):ao bn 4 100 (SM.at (zv off n c z i) 6 [cv l]) (ff [1,2,3,4] true++ff [0] false++VP) v=[VU (decide (z<=20000))=v,decide ((↑n:Int)<=200)=true,decide ((↑n:Int)<=200)=true,decide ((↑n:Int)<=200)=true,decide (i<(↑n:Int))=false]:=by kernel_rfl
theorem T0 (l:List SV)(off n c:Nat)(x:ax)(z i z' i':Int)(v:Value):ao bn 4 100 (SM.at (zv off n c z i) 6 [cv l]) (ff [0,1,2,3,4] false++VP) v=[VU false=v,decide ((↑n:Int)<=200)=false,decide ((↑n:Int)<=200)=false,decide ((↑n:Int)<=200)=false,decide (i<(↑n:Int))=false]:=by kernel_rfl
theorem Q5 (a:Option Addr)(c:Nat)(v:Value):ao bn 4 100 (a7 bn 4 [.v (.slice a 0 c)]) (ff [1,2,3] true++ff [0,4] false++VP) v=[VU true=v,true=true,true=true,true=true,false=false]:=by kernel_rfl
end paths
end Go.Proofs.YtbjmmnegkpeboaaGreatDoor
