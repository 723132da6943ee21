/- What the law TaleLists leans on, part 5: the symbolic executor, proved sound, contracts of functions, plain lemmas. By an AI agent. -/
import Derived.Test.YtbjmmnegkpeboaaGreatDoorPk4
set_option linter.unusedSimpArgs false
set_option linter.unusedVariables false
set_option maxRecDepth 100000
noncomputable section
namespace Go.Proofs.YtbjmmnegkpeboaaGreatDoor
open Go Go.Rx Go.RowKit Go.Proofs
namespace paths
def yu (e:ax):List SV:=[.v (.int .i64 e.k),.v (.slice e.a e.l e.c)]
def qM:Option (SO × Bool):=some (.row [.v (.int .i64 0),.v (.slice none 0 0)] 46 (0,0) none,true)
def FC (l:List SV) (n c:Nat) (p:ByteArray):SM:=(a6 bn 50 [.sl 0 0 n (some c),.v (.string p)] (bG 6 1 0 [cv l])).getD dn
def LZ:List SI:=dB bn 2 60 (FC [] 0 0 ⟨#[]⟩) VP
def AX (n c:Nat) (p:ByteArray) (i:Int):SF:={ fn:=50,tm:=fh 25 5 ([.sl 0 0 n (some c),.v (.string p),.aH,.aH,.ptr 1 0,.v (.int .i64 i)]++List.replicate 19 .aH),todo:=LZ,defers:=[],ret:=false,kind:=.normal,ro:=none }
theorem TL (l:List SV) (n c:Nat) (p:ByteArray):reach bn 2 60 (FC l n c p) VP [(0,0),(1,1)] [0] (AX n c p 0) 6 [cv l,qM]=[0=0/\n=n/\some c=some c,VS p=VS p,0=0,vZ 0=vZ 0,l=l,l.all ab=true,vZ 0=vZ 0,VT none 0 0=VT none 0 0]:=by kernel_rfl
theorem Vb (l:List SV) (n c:Nat) (p q:ByteArray) (i i':Int):reach bn 2 60 (SM.at (AX n c p i) 6 [cv l,qM]) (ff [0] true++[(2,.cells [.v (.string q)])]++ff [3] false) [(0,0),(1,1)] [0] (AX n c p i') 6 [cv l,qM]=[0=0/\n=n/\some c=some c,VS p=VS p,0=0,vZ (IntKind.i64.wrap (i+1))=vZ i',l=l,l.all ab=true,vZ 0=vZ 0,VT none 0 0=VT none 0 0,(q.toList==p.toList)=false,l[0+i.toNat*3+0]?=some (SV.v (VS q)),ai i n=true,decide (i<(↑n:Int))=true]:=by kernel_rfl
theorem Ta (l:List SV) (n c:Nat) (p q:ByteArray) (i:Int) (e:ax) (v:Value):ao bn 50 60 (SM.at (AX n c p i) 6 [cv l,qM]) (ff [0] true++[(2,.cells [.v (.string q)])]++ff [3] true++[(5,.cells (yu e))]) v=[Value.agg { toList:=[vZ e.2,VT e.3 e.4 e.5]:Array Value }=v,List.take 2 (List.drop (0+i.toNat*3+1) l)=yu e/\(yu e).length=2,ai i n=true,(q.toList==p.toList)=true,l[0+i.toNat*3+0]?=some (SV.v (VS q)),ai i n=true,decide (i<(↑n:Int))=true]:=by kernel_rfl
theorem TY (l:List SV) (n c:Nat) (p:ByteArray) (i:Int) (v:Value):ao bn 50 60 (SM.at (AX n c p i) 6 [cv l,qM]) (ff [0] false) v=[Value.agg { toList:=[vZ 0,VT none 0 0]:Array Value }=v,decide (i<(↑n:Int))=false]:=by kernel_rfl
def HQ (p:ByteArray):SM:=a7 bn 50 [.v (.slice none 0 0),.v (.string p)]
theorem Sh (p:ByteArray) (v:Value):ao bn 50 60 (HQ p) VP v=[Value.agg { toList:=[vZ 0,VT none 0 0]:Array Value }=v]:=by kernel_rfl
def z7:Env:=EP [(78,mJ)] []
def GL (l:List SV) (n c:Nat) (p:ByteArray):SM:=(a6 z7 47 [.sl 0 0 n (some c),.v (.string p)] (bG 6 1 0 [cv l])).getD dn
def Lj:List SI:=dB z7 2 60 (GL [] 0 0 ⟨#[]⟩) VP
def pb (n c:Nat) (p:ByteArray) (x:SV) (i:Int):SF:={ fn:=47,tm:=fh 29 5 ([.sl 0 0 n (some c),.v (.string p),.aH,.aH,.aH,x,.v (.int .i64 i)]++List.replicate 22 .aH),todo:=Lj,defers:=[],ret:=false,kind:=.normal,ro:=none }
def oM (l:List SV):Option (SO × Bool):=some (.row l 9 (0,0) (some 1),true)
theorem Q4 (l:List SV) (n c:Nat) (p:ByteArray):reach z7 2 60 (GL l n c p) VP [(0,0)] [0] (pb n c p bZ 0) 6 [cv l]=[0=0/\n=n/\some c=some c,VS p=VS p,VT none 0 0=VT none 0 0,vZ 0=vZ 0,l=l,l.all ab=true]:=by kernel_rfl
theorem Ux (l:List SV) (n c:Nat) (p q:ByteArray) (i i':Int):reach z7 2 60 (SM.at (pb n c p bZ i) 6 [cv l]) (ff [0] true++[(2,.cells [.v (.string q)])]++ff [3,4] false) [(0,0)] [0] (pb n c p bZ i') 6 [cv l]=[0=0/\n=n/\some c=some c,VS p=VS p,VT none 0 0=VT none 0 0,vZ (IntKind.i64.wrap (i+1))=vZ i',l=l,l.all ab=true,dQ q p=false,q.size<=1000000000/\p.size<=1000000000,l[0+i.toNat*3+0]?=some (SV.v (VS q)),ai i n=true,decide (i<(↑n:Int))=true]:=by kernel_rfl
theorem Tu (l l':List SV) (n c:Nat) (p q:ByteArray) (i i':Int):reach z7 2 60 (SM.at (pb n c p bZ i) 6 [cv l]) (ff [0] true++[(2,.cells [.v (.string q)])]++ff [3,4] true++[(6,.cells [.v (.string q)])]) [(0,0),(1,2)] [0,1] (pb n c p (.sl 1 0 1 none) i') 6 [cv l,oM l']=[0=0/\n=n/\some c=some c,VS p=VS p,0=0/\1=1/\nZ=none,vZ (IntKind.i64.wrap (i+1))=vZ i',l=l,l.all ab=true,[]++List.take 1 (List.drop 0 (aQ (List.replicate 1 (List.map SV.v [VS ⟨⟨[]⟩⟩])).flatten 0 [SV.v (VS q)]))=l',l'.all ab=true,l[0+i.toNat*3+0]?=some (SV.v (VS q)),ai i n=true,dQ q p=true,q.size<=1000000000/\p.size<=1000000000,l[0+i.toNat*3+0]?=some (SV.v (VS q)),ai i n=true,decide (i<(↑n:Int))=true]:=by kernel_rfl
theorem Ua (l m:List SV) (n c k:Nat) (p q:ByteArray) (i i':Int):reach z7 2 60 (SM.at (pb n c p (.sl 1 0 k none) i) 6 [cv l,oM m]) (ff [0] true++[(2,.cells [.v (.string q)])]++ff [3,4] false) [(0,0),(1,1)] [0,1] (pb n c p (.sl 1 0 k none) i') 6 [cv l,oM m]=[0=0/\n=n/\some c=some c,VS p=VS p,0=0/\k=k/\nZ=none,vZ (IntKind.i64.wrap (i+1))=vZ i',l=l,l.all ab=true,m=m,m.all ab=true,dQ q p=false,q.size<=1000000000/\p.size<=1000000000,l[0+i.toNat*3+0]?=some (SV.v (VS q)),ai i n=true,decide (i<(↑n:Int))=true]:=by kernel_rfl
theorem Ty (l m l' w:List SV) (n c k:Nat) (p q:ByteArray) (i i':Int):reach z7 2 60 (SM.at (pb n c p (.sl 1 0 k none) i) 6 [cv l,oM m]) (ff [0] true++[(2,.cells [.v (.string q)])]++ff [3,4] true++[(6,.cells [.v (.string q)]),(7,.app m w)]) [(0,0),(1,3)] [0,1] (pb n c p (.sl 1 0 (k+1) none) i') 6 [cv l,oM l']=[0=0/\n=n/\some c=some c,VS p=VS p,0=0/\k+1=k+1/\nZ=none,vZ (IntKind.i64.wrap (i+1))=vZ i',l=l,l.all ab=true,m++w=l',l'.all ab=true,((List.take 1 (List.drop 0 (aQ (List.replicate 1 (List.map SV.v [VS ⟨⟨[]⟩⟩])).flatten 0 [SV.v (VS q)]))=w/\w.length=1*1)/\1≠0/\(2*(k+1)+1024)*16<=140737488355328)/\List.take (k*1) m=m/\m.length=k*1/\w.all SV.flat=true,l[0+i.toNat*3+0]?=some (SV.v (VS q)),ai i n=true,dQ q p=true,q.size<=1000000000/\p.size<=1000000000,l[0+i.toNat*3+0]?=some (SV.v (VS q)),ai i n=true,decide (i<(↑n:Int))=true]:=by kernel_rfl
theorem UK (l:List SV) (n c:Nat) (p:ByteArray) (i:Int) (v:Value):ao z7 47 60 (SM.at (pb n c p bZ i) 6 [cv l]) (ff [0] false) v=[VT none 0 0=v,decide (i<(↑n:Int))=false]:=by kernel_rfl
theorem Sz (l m:List SV) (n c k:Nat) (p:ByteArray) (i:Int):bY z7 47 60 (SM.at (pb n c p (.sl 1 0 k none) i) 6 [cv l,oM m]) (ff [0] false) (.sl 1 0 k none) 1 (.row m 9 (0,0) (some 1))=[0=0/\k=k/\nZ=none,m=m,m.all ab=true,decide (i<(↑n:Int))=false]:=by kernel_rfl
def FZ (p:ByteArray):SM:=a7 z7 47 [.v (.slice none 0 0),.v (.string p)]
theorem UE (p:ByteArray) (v:Value):ao z7 47 60 (FZ p) VP v=[VT none 0 0=v]:=by kernel_rfl
def aO (p:ByteArray) (l:List ax):ax:=(l.find? (pI p)).getD ⟨p,0,none,0,0⟩
def bO (p:ByteArray) (l:List ax):List ByteArray:=(l.map fun e=>e.p).filter fun q=>dQ q p
def pP (e:ax):Value:=.agg #[.int .i64 e.k,.slice e.a e.l e.c]
theorem It {xs:List ax} {k:Nat} {x:ax} (h:xs[k]?=some x):List.take 2 (List.drop (0+k*3+1) (cI xs))=yu x:=by
 have h1:=py h;have h2:List.drop (0+k*3+1) (cI xs)=List.drop 1 (List.drop (0+k*3) (cI xs)):=by rw [List.drop_drop]
 have h3:List.take 2 (List.drop 1 (List.drop (0+k*3) (cI xs)))=List.drop 1 (List.take 3 (List.drop (0+k*3) (cI xs))):=by rw [List.drop_take]
 rw [h2,h3,h1];rfl
def gO (a:SV) (s:SH):Option (List ax × Prop):=match a with
 | .v (.slice none 0 0)=>some ([],True)
 | .sl i 0 n none=>match s.look i with
  | some (.row ys e (0,0) (some 3),_)=>some (ad ys n,e=48/\bu ys n (ad ys n)/\ad ys n≠[])
  | _=>none
 | _=>none
theorem kY {a:SV} {s:SH} {xs:List ax} {p:Prop} (h:gO a s=some (xs,p)) (hp:p):(xs=[]/\a=.v (.slice none 0 0))\/(xs≠[]/\xs.length<=1000/\∃ i mk,a=.sl i 0 xs.length none/\s.look i=some (.row (cI xs) 48 (0,0) (some 3),mk)):=by
 unfold gO at h;split at h
 ·cases h;exact .inl ⟨rfl,rfl⟩
 ·rename_i i n;split at h
  ·rename_i ys e mk hl;cases h;obtain ⟨rfl,⟨h1,h2,h3⟩,h4⟩:=hp;refine .inr ⟨h4,by omega,i,mk,by rw [<- h2],?_⟩;rw [hl];congr 3
  ·cases h
 ·cases h
section
variable {w0:World} {cs0:List Frame} {R:Ending->World->Prop} {xs:List ax} {p:ByteArray} {b:Nat × Nat} {c:Nat}
theorem FP (hl:xs.length<=1000) (hR:∀ w',Below w0.heap.size w0 w'->R (.returned (pP (aO p xs))) w'):∀ (j i:Nat),i+j=xs.length->(∀ e∈xs.take i,pI p e=false)->
  af bn (aD [b] [(.look (cI xs),false)]) w0 cs0 50 R (aA [b]) (SM.at (AX xs.length c p i) 6 [cv (cI xs),qM])
 | 0,i,hj,hn=>by
  refine cg fQ gQ (n:=60) (o:=ff [0] false) (v:=.agg #[.int .i64 0,.slice none 0 0]) ⟨?_⟩ fun w' hw=>?_
  ·rw [TY];simp only [ah,VW,VX];exact V2 (by omega)
  ·rw [We (by omega)] at hn
   have:xs.find? (pI p)=none:=by
    rw [WY];intro e he;rw [hn e he];simp
   have e2:aO p xs=⟨p,0,none,0,0⟩:=by unfold aO;rw [this];rfl
   have:=hR w' hw;rw [e2] at this;exact this
 | j+1,i,hj,hn=>by
  have hi:i<xs.length:=by omega
  have ZA:xs[i]?=some xs[i]:=V4 hi;have t1:decide ((i:Int)<(xs.length:Int))=true:=V0 (by omega);have r1:=aJ hi;have ws:=aU (k:=i) (by omega);have rc:=iP ZA;have ra:=It ZA;cases hq:pI p xs[i]
  ·have Z1:(xs[i].p.toList==p.toList)=false:=by rw [jt,jt];exact hq
   refine af.reach fQ (k:=2) (n:=60) (o:=(ff [0] true++[(2,.cells [.v (.string xs[i].p)])]++ff [3] false)) (ren:=[(0,0),(1,1)]) (eqs:=[0]) ?_ (by kernel_rfl) (fun i b h=>by rw [dj h];rfl) (l:=[cv (cI xs),qM]) (FP hl hR j (i+1) (by omega) fun e he=>by
    rw [Wp hi] at he;rcases WJ.1 he with h | h
    ·exact hn e h
    ·rw [Wk.1 h];exact hq)
   rw [Vb];simp only [ah,V5,t1,r1,rc,Z1,ws,az,VV]
  ·have Z1:(xs[i].p.toList==p.toList)=true:=by rw [jt,jt];exact hq
   refine cg fQ gQ (n:=60) (o:=(ff [0] true++[(2,.cells [.v (.string xs[i].p)])]++ff [3] true++[(5,.cells (yu xs[i]))])) (v:=pP xs[i]) ⟨?_⟩ fun w' hw=>?_
   ·rw [Ta];simp only [ah,V5,t1,r1,rc,ra,Z1,VV,VW,VX];exact ⟨rfl,rfl⟩
   ·have hf:xs.find? (pI p)=some xs[i]:=by
     conv=>lhs;rw [<- Xg i xs]
     rw [List.find?_append]
     have:(xs.take i).find? (pI p)=none:=by
      rw [WY];intro e he;rw [hn e he];simp
     rw [this,WQ hi,X5,hq];rfl
    have e2:aO p xs=xs[i]:=by unfold aO;rw [hf];rfl
    have:=hR w' hw;rw [e2] at this;exact this
end
def HI:zF:=fun args sh=>match args with
 | [A,.v (.string p)]=>match gO A sh with
  | some (xs,q)=>some (pP (aO p xs),q)
  | none=>none
 | _=>none
theorem Jk {X:World->Prop}:bh Tryz.prog X (50,de HI):=by
 refine dR ⟨_,Tryz.func50,by kernel_rfl,by kernel_rfl⟩ fun args sh v q h hp ν M w0 w a hr hX ha=>?_;dsimp only [HI] at h;split at h
 ·rename_i A p;split at h
  ·rename_i xs q hl;cases h;obtain ⟨y1,ZY,rfl,q1,YV⟩:=ha.cons_inv;obtain ⟨y2,as2,rfl,q2,ZL⟩:=YV.cons_inv;obtain rfl:=ZL.ay;obtain rfl:=VR.ae.1 q2;rcases kY hl hp with ⟨rfl,rfl⟩ | ⟨YI,ZV,i,mk,rfl,hlk⟩
   ·obtain rfl:=VR.ae.1 q1;refine (bP (E:=bn) (R:=fun e w'=>Below w.heap.size w w'/\e=.returned (pP (aO p []))) rfl rfl (args:=[.v (.slice none 0 0),.v (.string p)]) (a:=[.slice none 0 0,.string p]) (S0:=HQ p) (by kernel_rfl) (au.cons (VR.ae.2 rfl) (au.cons (VR.ae.2 rfl) au.nil)) fun cs0=>?_);refine cg fQ aE (n:=60) (o:=VP) (v:=pP (aO p [])) ⟨?_⟩ fun w' hw=>⟨hw,rfl⟩;rw [Sh];simp only [ah,VW,VX];rfl
   ·obtain ⟨bb,Zd,hle,rfl⟩:=VR.aL.1 q1;refine iu (E:=bn) rfl rfl hr hlk (az xs) (args':=fun c=>[.sl 0 0 xs.length (some c),.v (.string p)]) (S0:=fun c=>FC (cI xs) xs.length c p) (fun b hb=>?_) (fun c=>by kernel_rfl) fun b cs0=>?_
    ·rw [Zd] at hb;cases hb;have Zp:xs.length<=bb.2:=hle;exact au.cons (VR.aL.2 ⟨bb,rfl,Zp,rfl⟩) (au.cons (VR.ae.2 rfl) au.nil)
    ·have nx:=FP (w0:=w) (cs0:=cs0) (b:=b) (c:=b.2) (p:=p) (xs:=xs) (R:=fun e w'=>Below w.heap.size w w'/\e=.returned (pP (aO p xs))) ZV (fun w' hw=>⟨hw,rfl⟩) xs.length 0 (by omega) (fun e he=>by simp at he);refine af.reach fQ (k:=2) (n:=60) (o:=VP) (ren:=[(0,0),(1,1)]) (eqs:=[0]) (F:=AX xs.length b.2 p 0) (d:=6) (l:=[cv (cI xs),qM]) ?_ (by kernel_rfl) (fun i b h=>by rw [dj h];rfl) nx;rw [TL];simp only [ah,az,VV,VX,VW];first | done | rfl
  ·cases h
 ·cases h
theorem Ku {M:Own} {w0:World}:aK z7 M w0:=fJ fun r h=>by rw [Wk.1 h];exact DU
theorem qI (p:ByteArray) {xs:List ax} {i:Nat} (h:i<xs.length):bO p (xs.take (i+1))=bO p (xs.take i)++(if dQ xs[i].p p=true then [xs[i].p] else []):=by
 rw [Wp h];unfold bO;rw [Wq,Yx];congr 1;cases hp:dQ xs[i].p p <;> simp [hp]
theorem BA (p:ByteArray) (xs:List ax):(bO p xs).length<=xs.length:=by
 unfold bO;exact Wj (XU _ _) (by rw [WH];exact Wx _)
def Pr (w0:World) (l:List ByteArray) (e:Ending) (w':World):Prop:=Below w0.heap.size w0 w'/\((l=[]/\e=.returned (.slice none 0 0))\/(l≠[]/\∃ y,e=.returned y/\cG w0 w' y (l.map Value.string) l.length 1 9))
section
variable {w0:World} {cs0:List Frame} {xs:List ax} {p:ByteArray} {b:Nat × Nat} {c:Nat}
theorem xa (hl:xs.length<=1000) (hp:p.size<=1000000000) (hs:∀ e∈xs,e.p.size<=1000000000):∀ (j i:Nat),i+j=xs.length->bO p (xs.take i)≠[]->
  af z7 (aD [b] [(.look (cI xs),false)]) w0 cs0 47 (Pr w0 (bO p xs)) (aA [b]) (SM.at (pb xs.length c p (.sl 1 0 (bO p (xs.take i)).length none) i) 6 [cv (cI xs),oM (strs (bO p (xs.take i)))])
 | 0,i,hj,YI=>by
  rw [We (by omega)] at YI ⊢
  refine af.bY Ku (n:=60) (o:=ff [0] false) (x:=.sl 1 0 (bO p xs).length none) (i:=1) (so:=.row (strs (bO p xs)) 9 (0,0) (some 1)) (by
   rw [Sz];simp only [ah,bL,VV,VX,VW];exact V2 (by omega)) fun ν' w' y b1 ob hv hb ho YO hw Zv=>?_
  obtain ⟨M3,w3,M4,s',hBb,hr⟩:=Zv
  have hn:w0.heap.size<=b1.1:=by
   rcases hw with h | h
   ·exact h
   ·exact absurd h (gQ _)
  exact ⟨aB gQ hBb hr,.inr ⟨YI,y,rfl,cG.fW hv hb ho YO hn fun zs hz=>lJ hz⟩⟩
 | j+1,i,hj,YI=>by
  have hi:i<xs.length:=by omega
  have Zg:=qI p hi;have ZA:xs[i]?=some xs[i]:=V4 hi;have t1:decide ((i:Int)<(xs.length:Int))=true:=V0 (by omega);have r1:=aJ hi;have ws:=aU (k:=i) (by omega);have rc:=iP ZA;have z1:=hs _ (WT hi);have hbl:(bO p (xs.take i)).length<=1000:=Wj (BA _ _) (by rw [WW];omega);cases hq:dQ xs[i].p p
  ·rw [hq,if_neg (by decide),W4] at Zg;have nx:=xa hl hp hs j (i+1) (by omega) (by rw [Zg];exact YI);rw [Zg] at nx;refine af.reach Ku (k:=2) (n:=60) (o:=(ff [0] true++[(2,.cells [.v (.string xs[i].p)])]++ff [3,4] false)) (ren:=[(0,0),(1,1)]) (eqs:=[0,1]) ?_ (by kernel_rfl) (fun i b h=>by rw [dj h];rfl) nx;rw [Ua];simp only [ah,V5,t1,r1,rc,hq,ws,az,bL,VV,VX,VW];exact ⟨z1,hp⟩
  ·rw [hq,if_pos rfl] at Zg;have nx:=xa hl hp hs j (i+1) (by omega) (by rw [Zg];simp);rw [Zg,V7,show ([xs[i].p]:List ByteArray).length=1 from rfl,s7,pg] at nx;refine af.reach Ku (k:=2) (n:=60) (o:=(ff [0] true++[(2,.cells [.v (.string xs[i].p)])]++ff [3,4] true++[(6,.cells [.v (.string xs[i].p)]),(7,.app (strs (bO p (xs.take i))) [.v (.string xs[i].p)])])) (ren:=[(0,0),(1,3)]) (eqs:=[0,1]) ?_ (by kernel_rfl) (fun i b h=>by rw [dj h];rfl) nx;rw [Ty];simp only [ah,V5,t1,r1,rc,hq,ws,az,bL,qe,iK,WM,VV,VX,VW];repeat' apply And.intro
   all_goals first | rfl | exact z1 | exact hp | omega | exact We (by rw [iK];omega) | skip
theorem C1 (hl:xs.length<=1000) (hp:p.size<=1000000000) (hs:∀ e∈xs,e.p.size<=1000000000):∀ (j i:Nat),i+j=xs.length->bO p (xs.take i)=[]->
  af z7 (aD [b] [(.look (cI xs),false)]) w0 cs0 47 (Pr w0 (bO p xs)) (aA [b]) (SM.at (pb xs.length c p bZ i) 6 [cv (cI xs)])
 | 0,i,hj,hn=>by
  rw [We (by omega)] at hn
  refine cg Ku gQ (n:=60) (o:=ff [0] false) (v:=.slice none 0 0) ⟨?_⟩ fun w' hw=>⟨hw,.inl ⟨hn,rfl⟩⟩
  rw [UK]
  simp only [ah,VV,VX,VW]
  exact V2 (by omega)
 | j+1,i,hj,hn=>by
  have hi:i<xs.length:=by omega
  have Zg:=qI p hi
  have ZA:xs[i]?=some xs[i]:=V4 hi
  have t1:decide ((i:Int)<(xs.length:Int))=true:=V0 (by omega)
  have r1:=aJ hi
  have ws:=aU (k:=i) (by omega)
  have rc:=iP ZA
  have z1:=hs _ (WT hi)
  cases hq:dQ xs[i].p p
  ·rw [hq,if_neg (by decide),W4] at Zg
   have nx:=C1 hl hp hs j (i+1) (by omega) (by rw [Zg];exact hn)
   refine af.reach Ku (k:=2) (n:=60) (o:=(ff [0] true++[(2,.cells [.v (.string xs[i].p)])]++ff [3,4] false)) (ren:=[(0,0)]) (eqs:=[0]) ?_ (by kernel_rfl) (fun i b h=>by rw [dj h];rfl) nx
   rw [Ux]
   simp only [ah,V5,t1,r1,rc,hq,ws,az,bZ,VV,VX,VW]
   exact ⟨z1,hp⟩
  ·rw [hq,if_pos rfl,hn,Xo] at Zg
   have nx:=xa (w0:=w0) (cs0:=cs0) (b:=b) (c:=c) (p:=p) hl hp hs j (i+1) (by omega) (by rw [Zg];simp)
   rw [Zg,show ([xs[i].p]:List ByteArray).length=1 from rfl,pg] at nx
   refine af.reach Ku (k:=2) (n:=60) (o:=(ff [0] true++[(2,.cells [.v (.string xs[i].p)])]++ff [3,4] true++[(6,.cells [.v (.string xs[i].p)])])) (ren:=[(0,0),(1,2)]) (eqs:=[0,1]) ?_ (by kernel_rfl) (fun i b h=>by rw [dj h];rfl) nx
   rw [Tu]
   simp only [ah,V5,t1,r1,rc,hq,ws,az,VV,VX,VW]
   repeat' apply And.intro
   all_goals first | rfl | exact z1 | exact hp | omega | skip
end
theorem pe {ν:aP} {M:Own} {w0 w:World} {sh:SH} (hr:HR ν M w0 sh w) {A:SV} {xs:List ax} {q:Prop} {p:ByteArray} (hl:gO A sh=some (xs,q)) (hq:q) (hp:p.size<=1000000000) (hs:∀ e∈xs,e.p.size<=1000000000) {a:List Value}
  (ha:au ν [A,.v (.string p)] a):Calls Tryz.prog 47 a.toArray w (Pr w (bO p xs)):=by
 obtain ⟨y1,ZY,rfl,q1,YV⟩:=ha.cons_inv;obtain ⟨y2,as2,rfl,q2,ZL⟩:=YV.cons_inv;obtain rfl:=ZL.ay;obtain rfl:=VR.ae.1 q2;rcases kY hl hq with ⟨rfl,rfl⟩ | ⟨YI,ZV,i,mk,rfl,hlk⟩
 ·obtain rfl:=VR.ae.1 q1;refine (bP (E:=z7) rfl rfl (args:=[.v (.slice none 0 0),.v (.string p)]) (a:=[.slice none 0 0,.string p]) (S0:=FZ p) (by kernel_rfl) (au.cons (VR.ae.2 rfl) (au.cons (VR.ae.2 rfl) au.nil)) fun cs0=>?_);refine cg Ku aE (n:=60) (o:=VP) (v:=.slice none 0 0) ⟨?_⟩ fun w' hw=>⟨hw,.inl ⟨rfl,rfl⟩⟩;rw [UE];simp only [ah,VW,VX]
 ·obtain ⟨bb,Zd,hle,rfl⟩:=VR.aL.1 q1;refine iu (E:=z7) rfl rfl hr hlk (az xs) (args':=fun c=>[.sl 0 0 xs.length (some c),.v (.string p)]) (S0:=fun c=>GL (cI xs) xs.length c p) (fun b hb=>?_) (fun c=>by kernel_rfl) fun b cs0=>?_
  ·rw [Zd] at hb;cases hb;have Zp:xs.length<=bb.2:=hle;exact au.cons (VR.aL.2 ⟨bb,rfl,Zp,rfl⟩) (au.cons (VR.ae.2 rfl) au.nil)
  ·have nx:=C1 (w0:=w) (cs0:=cs0) (b:=b) (c:=b.2) (p:=p) (xs:=xs) ZV hp hs xs.length 0 (by omega) rfl;refine af.reach Ku (k:=2) (n:=60) (o:=VP) (ren:=[(0,0)]) (eqs:=[0]) (F:=pb xs.length b.2 p bZ 0) (d:=6) (l:=[cv (cI xs)]) ?_ (by kernel_rfl) (fun i b h=>by rw [dj h];rfl) nx;rw [Q4];simp only [ah,az,bZ,VV,VX,VW]
def Bo:H8:=fun args sh=>match args with
 | [A,.v (.string p)]=>match gO A sh with
  | some (xs,q)=>some ((bO p xs).map Value.string,(bO p xs).length,1,9,none,q/\bO p xs≠[]/\p.size<=1000000000/\∀ e∈xs,e.p.size<=1000000000)
  | _=>none
 | _=>none
def Bk:zF:=fun args sh=>match args with
 | [A,.v (.string p)]=>match gO A sh with
  | some (xs,q)=>some (.slice none 0 0,q/\bO p xs=[]/\p.size<=1000000000/\∀ e∈xs,e.p.size<=1000000000)
  | _=>none
 | _=>none
theorem Dj {X:World->Prop}:bh Tryz.prog X (47,gq (fl Bo) (de Bk)):=by
 refine bh.br (gK ⟨_,Tryz.func47,by kernel_rfl,by kernel_rfl⟩ fun args sh ys n C elem ex p h hp ν M w0 w a hr hX ha=>?_) (dR ⟨_,Tryz.func47,by kernel_rfl,by kernel_rfl⟩ fun args sh v p h hp ν M w0 w a hr hX ha=>?_)
 ·dsimp only [Bo] at h;split at h
  ·split at h
   ·rename_i xs q hl;cases h;refine (pe hr hl hp.1 hp.2.2.1 hp.2.2.2 ha).mono fun e w' ⟨hB,h⟩=>⟨hB,?_⟩;rcases h with ⟨h1,_⟩ | ⟨_,y,h2,h3⟩
    ·exact absurd h1 hp.2.1
    ·exact ⟨y,h2,h3⟩
   ·cases h
  ·cases h
 ·dsimp only [Bk] at h;split at h
  ·split at h
   ·rename_i xs q hl;cases h;refine (pe hr hl hp.1 hp.2.2.1 hp.2.2.2 ha).mono fun e w' ⟨hB,h⟩=>⟨hB,?_⟩;rcases h with ⟨_,h2⟩ | ⟨h1,_⟩
    ·exact h2
    ·exact absurd hp.2.1 h1
   ·cases h
  ·cases h
def nn (x:SV):Option (Int × Option Addr × Nat × Nat):=match tQ x with
 | some [.v (.int .i64 k),.v (.slice a l c)]=>some (k,a,l,c)
 | _=>none
theorem lW {ν:aP} {x:SV} {y:Value} {k:Int} {a:Option Addr} {l c:Nat} (h:nn x=some (k,a,l,c)) (hv:VR ν x y):y=.agg #[.int .i64 k,.slice a l c]:=by
 unfold nn at h;split at h
 ·rename_i k' a' l' c' hx;cases h;unfold tQ at hx;split at hx
  ·rename_i mm;cases hx;obtain ⟨u,rfl,hu⟩:=VR.bx.1 hv;obtain rfl:=gi hu (au.lits ν [.int .i64 k,.slice a l c]);rfl
  ·rename_i cs;obtain rfl:=VR.ae.1 hv;have hx:=Option.some.inj hx;match cs,hx with
   | ⟨[c1,c2]⟩,hx=>
    simp at hx;obtain ⟨h1,h2⟩:=hx;subst h1 h2;rfl
   | ⟨[]⟩,hx=>simp at hx
   | ⟨[_]⟩,hx=>simp at hx
   | ⟨_::_::_::_⟩,hx=>simp at hx
  ·cases hx
 ·cases h
def GP:H8:=fun args sh=>match args with
 | [A,.v (.string p),L]=>match gO A sh,nn L with
  | some (xs,q),some (k,a,l,c)=>some (vI (dZ xs ⟨p,k,a,l,c⟩),(dZ xs ⟨p,k,a,l,c⟩).length,3,48,none,q/\k≠0/\p.size<=1000000000/\∀ e∈xs,e.p.size<=1000000000)
  | _,_=>none
 | _=>none
def Qn:List (FuncId × Sum):=[(45,cq kO),(46,cq j0),(47,gq (fl Bo) (de Bk)),(48,gq (fl mE) (de mU)),(49,cq wK),(50,de HI),(51,fl GP)]
def mW:Env:={ EP [] [] with Y7:=fun f=>Qn.lookup f }
def gr (l:List SV) (n:Nat) (x:ax):SM:=(a6 mW 17 [.sl 0 0 n none,.v (.string x.p),jC x] (bG 6 1 0 [Ck l])).getD dn
def kW (x:ax):SM:=(a6 mW 17 [.v (.slice none 0 0),.v (.string x.p),jC x] (bG 6 0 0 [])).getD dn
theorem R9 (l m:List SV) (n k:Nat) (x:ax):ey mW 17 300 (gr l n x) (ff [1] true++ff [0,2,3] false++VP) [(0,0)] (.tup [.sl 0 0 n none,.v (.int .i64 23)])=[0=0/\n=n/\nZ=none,vZ 23=vZ 23,(!aR x.1)=true,x.1.size.le 1000000000]:=by kernel_rfl
theorem st1 (l m:List SV) (n k:Nat) (x:ax):ey mW 17 300 (gr l n x) (ff [3] true++ff [0,1,2,4,5] false++VP) [(0,0)] (.tup [.sl 0 0 n none,.v (.int .i64 (aS x.k x.l))])=[0=0/\n=n/\nZ=none,vZ (aS x.2 x.4)=vZ (aS x.2 x.4),(!aS x.2 x.4==0)=true,True,(!aR x.1)=false,x.1.size.le 1000000000]:=by kernel_rfl
theorem st2 (l m:List SV) (n k:Nat) (x:ax):ey mW 17 300 (gr l n x) (ff [4,5,6,7,8,9,10,11] true++ff [0,1,2,3,12,13] false++VP) [(0,0)] (.tup [.sl 0 0 n none,.v (.int .i64 22)])=[0=0/\n=n/\nZ=none,vZ 22=vZ 22,decide ((↑(bO x.1 (ad l n)).length:Int)>0)=true,(!x.2==2)=true,(!x.2==2)=true,(!x.2==2)=true,(48=48/\bu l n (ad l n)/\ad l n≠[])/\bO x.1 (ad l n)≠[]/\x.1.size<=1000000000/\∀ (e:ax),e∈ad l n->e.p.size<=1000000000,(!x.2==2)=true,(!x.2==2)=true,(!x.2==2)=true,(!aS x.2 x.4==0)=false,True,(!aR x.1)=false,x.1.size.le 1000000000]:=by kernel_rfl
theorem SC (l m:List SV) (n k:Nat) (x:ax):bY mW 17 300 (gr l n x) (ff [4,5,6,8,9,10,12,13] true++ff [0,1,2,3,7,11,14,15] false++VP) (.tup [.sl 2 0 k none,.v (.int .i64 0)]) 2 (.row m 48 (0,0) (some 3))=[0=0/\(ch x.1 (ad l n)).length=k/\nZ=none,vZ 0=vZ 0,List.map SV.v (vI (ch x.1 (ad l n)))=m,m.all ab=true,bu l n (ad l n)/\ch x.1 (ad l n)≠[],(x.2==0)=true,false=false,(!x.2==2)=true,(!x.2==2)=true,(!x.2==2)=true,(48=48/\bu l n (ad l n)/\ad l n≠[])/\bO x.1 (ad l n)=[]/\x.1.size<=1000000000/\∀ (e:ax),e∈ad l n->e.p.size<=1000000000,(!x.2==2)=true,(!x.2==2)=true,(!x.2==2)=true,(!aS x.2 x.4==0)=false,True,(!aR x.1)=false,x.1.size.le 1000000000]:=by kernel_rfl
theorem q7 (l m:List SV) (n k:Nat) (x:ax):ey mW 17 300 (gr l n x) (ff [4,5,6,8,9,10,12] true++ff [0,1,2,3,7,11,13,14] false++VP) [(0,0)] (.v (.tuple #[.slice none 0 0,.int .i64 0]))=[Value.tuple { toList:=[VT none 0 0,vZ 0]:Array Value }=Value.tuple { toList:=[VT none 0 0,vZ 0]:Array Value },bu l n (ad l n)/\ch x.1 (ad l n)=[],(x.2==0)=true,false=false,(!x.2==2)=true,(!x.2==2)=true,(!x.2==2)=true,(48=48/\bu l n (ad l n)/\ad l n≠[])/\bO x.1 (ad l n)=[]/\x.1.size<=1000000000/\∀ (e:ax),e∈ad l n->e.p.size<=1000000000,(!x.2==2)=true,(!x.2==2)=true,(!x.2==2)=true,(!aS x.2 x.4==0)=false,True,(!aR x.1)=false,x.1.size.le 1000000000]:=by kernel_rfl
theorem Qh (l m:List SV) (n k:Nat) (x:ax):ey mW 17 300 (gr l n x) (ff [4,5,6,8,9,10,14,15,16,18,19,20,21] true++ff [0,1,2,3,7,11,12,13,17,22,23] false++VP) [(0,0)] (.tup [.sl 0 0 n none,.v (.int .i64 22)])=[0=0/\n=n/\nZ=none,vZ 22=vZ 22,(!(aO (aj x.p) (ad l n)).2==2)=true,(!(aj x.1).toList==VO.toList)=true,(!(aj x.1).toList==VO.toList)=true,(!(aj x.1).toList==VO.toList)=true,48=48/\bu l n (ad l n)/\ad l n≠[],(!(aj x.1).toList==VO.toList)=true,(!(aj x.1).toList==VO.toList)=true,(!(aj x.1).toList==VO.toList)=true,x.1.size.le 1000000000,(x.2==0)=false,false=false,(!x.2==2)=true,(!x.2==2)=true,(!x.2==2)=true,(48=48/\bu l n (ad l n)/\ad l n≠[])/\bO x.1 (ad l n)=[]/\x.1.size<=1000000000/\∀ (e:ax),e∈ad l n->e.p.size<=1000000000,(!x.2==2)=true,(!x.2==2)=true,(!x.2==2)=true,(!aS x.2 x.4==0)=false,True,(!aR x.1)=false,x.1.size.le 1000000000]:=by kernel_rfl
theorem OL (l m:List SV) (n k:Nat) (x:ax):ey mW 17 300 (gr l n x) (ff [4,5,6,8,9,10,22,23,24,25,26] true++ff [0,1,2,3,7,11,12,13,14,15,16,17,18,19,20,21,27,28] false++VP) [(0,0)] (.tup [.sl 0 0 n none,.v (.int .i64 24)])=[0=0/\n=n/\nZ=none,vZ 24=vZ 24,decide ((↑n:Int)≥128)=true,((aO x.p (ad l n)).2==0)=true,((aO x.p (ad l n)).2==0)=true,((aO x.p (ad l n)).2==0)=true,((aO x.p (ad l n)).2==0)=true,48=48/\bu l n (ad l n)/\ad l n≠[],false=false,(!(aj x.1).toList==VO.toList)=false,(!(aj x.1).toList==VO.toList)=false,(!(aj x.1).toList==VO.toList)=false,(!(aj x.1).toList==VO.toList)=false,(!(aj x.1).toList==VO.toList)=false,(!(aj x.1).toList==VO.toList)=false,x.1.size.le 1000000000,(x.2==0)=false,false=false,(!x.2==2)=true,(!x.2==2)=true,(!x.2==2)=true,(48=48/\bu l n (ad l n)/\ad l n≠[])/\bO x.1 (ad l n)=[]/\x.1.size<=1000000000/\∀ (e:ax),e∈ad l n->e.p.size<=1000000000,(!x.2==2)=true,(!x.2==2)=true,(!x.2==2)=true,(!aS x.2 x.4==0)=false,True,(!aR x.1)=false,x.1.size.le 1000000000]:=by kernel_rfl
theorem LP (l m:List SV) (n k:Nat) (x:ax):bY mW 17 300 (gr l n x) (ff [4,5,6,8,9,10,22,23,24,25] true++ff [0,1,2,3,7,11,12,13,14,15,16,17,18,19,20,21,26,27,28,29] false++VP) (.tup [.sl 2 0 k none,.v (.int .i64 0)]) 2 (.row m 48 (0,0) (some 3))=[0=0/\(dZ (ad l n) x).length=k/\nZ=none,vZ 0=vZ 0,List.map SV.v (vI (dZ (ad l n) x))=m,m.all ab=true,(48=48/\bu l n (ad l n)/\ad l n≠[])/\x.2≠0/\x.1.size<=1000000000/\∀ (e:ax),e∈ad l n->e.p.size<=1000000000,decide ((↑n:Int)≥128)=false,((aO x.p (ad l n)).2==0)=true,((aO x.p (ad l n)).2==0)=true,((aO x.p (ad l n)).2==0)=true,((aO x.p (ad l n)).2==0)=true,48=48/\bu l n (ad l n)/\ad l n≠[],false=false,(!(aj x.1).toList==VO.toList)=false,(!(aj x.1).toList==VO.toList)=false,(!(aj x.1).toList==VO.toList)=false,(!(aj x.1).toList==VO.toList)=false,(!(aj x.1).toList==VO.toList)=false,(!(aj x.1).toList==VO.toList)=false,x.1.size.le 1000000000,(x.2==0)=false,false=false,(!x.2==2)=true,(!x.2==2)=true,(!x.2==2)=true,(48=48/\bu l n (ad l n)/\ad l n≠[])/\bO x.1 (ad l n)=[]/\x.1.size<=1000000000/\∀ (e:ax),e∈ad l n->e.p.size<=1000000000,(!x.2==2)=true,(!x.2==2)=true,(!x.2==2)=true,(!aS x.2 x.4==0)=false,True,(!aR x.1)=false,x.1.size.le 1000000000]:=by kernel_rfl
theorem My (l m:List SV) (n k:Nat) (x:ax):bY mW 17 300 (gr l n x) (ff [4,5,6,8,9,10] true++ff [0,1,2,3,7,11,12,13,14,15,16,17,18,19,20,21,22,23,24,25,26,27,28,29] false++VP) (.tup [.sl 2 0 k none,.v (.int .i64 0)]) 2 (.row m 48 (0,0) (some 3))=[0=0/\(dZ (ad l n) x).length=k/\nZ=none,vZ 0=vZ 0,List.map SV.v (vI (dZ (ad l n) x))=m,m.all ab=true,(48=48/\bu l n (ad l n)/\ad l n≠[])/\x.2≠0/\x.1.size<=1000000000/\∀ (e:ax),e∈ad l n->e.p.size<=1000000000,false=false,((aO x.p (ad l n)).2==0)=false,((aO x.p (ad l n)).2==0)=false,((aO x.p (ad l n)).2==0)=false,((aO x.p (ad l n)).2==0)=false,48=48/\bu l n (ad l n)/\ad l n≠[],false=false,(!(aj x.1).toList==VO.toList)=false,(!(aj x.1).toList==VO.toList)=false,(!(aj x.1).toList==VO.toList)=false,(!(aj x.1).toList==VO.toList)=false,(!(aj x.1).toList==VO.toList)=false,(!(aj x.1).toList==VO.toList)=false,x.1.size.le 1000000000,(x.2==0)=false,false=false,(!x.2==2)=true,(!x.2==2)=true,(!x.2==2)=true,(48=48/\bu l n (ad l n)/\ad l n≠[])/\bO x.1 (ad l n)=[]/\x.1.size<=1000000000/\∀ (e:ax),e∈ad l n->e.p.size<=1000000000,(!x.2==2)=true,(!x.2==2)=true,(!x.2==2)=true,(!aS x.2 x.4==0)=false,True,(!aR x.1)=false,x.1.size.le 1000000000]:=by kernel_rfl
theorem Nt (l m:List SV) (n k:Nat) (x:ax):ey mW 17 300 (gr l n x) (ff [4,5,6,8,9,10,14,15,16,18,19,20,23,24,25,26,27] true++ff [0,1,2,3,7,11,12,13,17,21,22,28,29] false++VP) [(0,0)] (.tup [.sl 0 0 n none,.v (.int .i64 24)])=[0=0/\n=n/\nZ=none,vZ 24=vZ 24,decide ((↑n:Int)≥128)=true,((aO x.p (ad l n)).2==0)=true,((aO x.p (ad l n)).2==0)=true,((aO x.p (ad l n)).2==0)=true,((aO x.p (ad l n)).2==0)=true,48=48/\bu l n (ad l n)/\ad l n≠[],(!(aO (aj x.p) (ad l n)).2==2)=false,(!(aj x.1).toList==VO.toList)=true,(!(aj x.1).toList==VO.toList)=true,(!(aj x.1).toList==VO.toList)=true,48=48/\bu l n (ad l n)/\ad l n≠[],(!(aj x.1).toList==VO.toList)=true,(!(aj x.1).toList==VO.toList)=true,(!(aj x.1).toList==VO.toList)=true,x.1.size.le 1000000000,(x.2==0)=false,false=false,(!x.2==2)=true,(!x.2==2)=true,(!x.2==2)=true,(48=48/\bu l n (ad l n)/\ad l n≠[])/\bO x.1 (ad l n)=[]/\x.1.size<=1000000000/\∀ (e:ax),e∈ad l n->e.p.size<=1000000000,(!x.2==2)=true,(!x.2==2)=true,(!x.2==2)=true,(!aS x.2 x.4==0)=false,True,(!aR x.1)=false,x.1.size.le 1000000000]:=by kernel_rfl
theorem LB (l m:List SV) (n k:Nat) (x:ax):bY mW 17 300 (gr l n x) (ff [4,5,6,8,9,10,14,15,16,18,19,20,23,24,25,26] true++ff [0,1,2,3,7,11,12,13,17,21,22,27,28,29,30] false++VP) (.tup [.sl 2 0 k none,.v (.int .i64 0)]) 2 (.row m 48 (0,0) (some 3))=[0=0/\(dZ (ad l n) x).length=k/\nZ=none,vZ 0=vZ 0,List.map SV.v (vI (dZ (ad l n) x))=m,m.all ab=true,(48=48/\bu l n (ad l n)/\ad l n≠[])/\x.2≠0/\x.1.size<=1000000000/\∀ (e:ax),e∈ad l n->e.p.size<=1000000000,decide ((↑n:Int)≥128)=false,((aO x.p (ad l n)).2==0)=true,((aO x.p (ad l n)).2==0)=true,((aO x.p (ad l n)).2==0)=true,((aO x.p (ad l n)).2==0)=true,48=48/\bu l n (ad l n)/\ad l n≠[],(!(aO (aj x.p) (ad l n)).2==2)=false,(!(aj x.1).toList==VO.toList)=true,(!(aj x.1).toList==VO.toList)=true,(!(aj x.1).toList==VO.toList)=true,48=48/\bu l n (ad l n)/\ad l n≠[],(!(aj x.1).toList==VO.toList)=true,(!(aj x.1).toList==VO.toList)=true,(!(aj x.1).toList==VO.toList)=true,x.1.size.le 1000000000,(x.2==0)=false,false=false,(!x.2==2)=true,(!x.2==2)=true,(!x.2==2)=true,(48=48/\bu l n (ad l n)/\ad l n≠[])/\bO x.1 (ad l n)=[]/\x.1.size<=1000000000/\∀ (e:ax),e∈ad l n->e.p.size<=1000000000,(!x.2==2)=true,(!x.2==2)=true,(!x.2==2)=true,(!aS x.2 x.4==0)=false,True,(!aR x.1)=false,x.1.size.le 1000000000]:=by kernel_rfl
theorem MF (l m:List SV) (n k:Nat) (x:ax):bY mW 17 300 (gr l n x) (ff [4,5,6,8,9,10,14,15,16,18,19,20] true++ff [0,1,2,3,7,11,12,13,17,21,22,23,24,25,26,27,28,29,30] false++VP) (.tup [.sl 2 0 k none,.v (.int .i64 0)]) 2 (.row m 48 (0,0) (some 3))=[0=0/\(dZ (ad l n) x).length=k/\nZ=none,vZ 0=vZ 0,List.map SV.v (vI (dZ (ad l n) x))=m,m.all ab=true,(48=48/\bu l n (ad l n)/\ad l n≠[])/\x.2≠0/\x.1.size<=1000000000/\∀ (e:ax),e∈ad l n->e.p.size<=1000000000,false=false,((aO x.p (ad l n)).2==0)=false,((aO x.p (ad l n)).2==0)=false,((aO x.p (ad l n)).2==0)=false,((aO x.p (ad l n)).2==0)=false,48=48/\bu l n (ad l n)/\ad l n≠[],(!(aO (aj x.p) (ad l n)).2==2)=false,(!(aj x.1).toList==VO.toList)=true,(!(aj x.1).toList==VO.toList)=true,(!(aj x.1).toList==VO.toList)=true,48=48/\bu l n (ad l n)/\ad l n≠[],(!(aj x.1).toList==VO.toList)=true,(!(aj x.1).toList==VO.toList)=true,(!(aj x.1).toList==VO.toList)=true,x.1.size.le 1000000000,(x.2==0)=false,false=false,(!x.2==2)=true,(!x.2==2)=true,(!x.2==2)=true,(48=48/\bu l n (ad l n)/\ad l n≠[])/\bO x.1 (ad l n)=[]/\x.1.size<=1000000000/\∀ (e:ax),e∈ad l n->e.p.size<=1000000000,(!x.2==2)=true,(!x.2==2)=true,(!x.2==2)=true,(!aS x.2 x.4==0)=false,True,(!aR x.1)=false,x.1.size.le 1000000000]:=by kernel_rfl
theorem PB (l m:List SV) (n k:Nat) (x:ax):ey mW 17 300 (gr l n x) (ff [13,14,15,17,18,19,20] true++ff [0,1,2,3,4,5,6,7,8,9,10,11,12,16,21,22] false++VP) [(0,0)] (.tup [.sl 0 0 n none,.v (.int .i64 22)])=[0=0/\n=n/\nZ=none,vZ 22=vZ 22,(!(aO (aj x.p) (ad l n)).2==2)=true,(!(aj x.1).toList==VO.toList)=true,(!(aj x.1).toList==VO.toList)=true,(!(aj x.1).toList==VO.toList)=true,48=48/\bu l n (ad l n)/\ad l n≠[],(!(aj x.1).toList==VO.toList)=true,(!(aj x.1).toList==VO.toList)=true,(!(aj x.1).toList==VO.toList)=true,x.1.size.le 1000000000,(x.2==0)=false,false=false,(!x.2==2)=false,(!x.2==2)=false,(!x.2==2)=false,(!x.2==2)=false,(!x.2==2)=false,(!x.2==2)=false,(!aS x.2 x.4==0)=false,True,(!aR x.1)=false,x.1.size.le 1000000000]:=by kernel_rfl
theorem Oh (l m:List SV) (n k:Nat) (x:ax):ey mW 17 300 (gr l n x) (ff [21,22,23,24,25] true++ff [0,1,2,3,4,5,6,7,8,9,10,11,12,13,14,15,16,17,18,19,20,26,27] false++VP) [(0,0)] (.tup [.sl 0 0 n none,.v (.int .i64 24)])=[0=0/\n=n/\nZ=none,vZ 24=vZ 24,decide ((↑n:Int)≥128)=true,((aO x.p (ad l n)).2==0)=true,((aO x.p (ad l n)).2==0)=true,((aO x.p (ad l n)).2==0)=true,((aO x.p (ad l n)).2==0)=true,48=48/\bu l n (ad l n)/\ad l n≠[],false=false,(!(aj x.1).toList==VO.toList)=false,(!(aj x.1).toList==VO.toList)=false,(!(aj x.1).toList==VO.toList)=false,(!(aj x.1).toList==VO.toList)=false,(!(aj x.1).toList==VO.toList)=false,(!(aj x.1).toList==VO.toList)=false,x.1.size.le 1000000000,(x.2==0)=false,false=false,(!x.2==2)=false,(!x.2==2)=false,(!x.2==2)=false,(!x.2==2)=false,(!x.2==2)=false,(!x.2==2)=false,(!aS x.2 x.4==0)=false,True,(!aR x.1)=false,x.1.size.le 1000000000]:=by kernel_rfl
theorem Lp (l m:List SV) (n k:Nat) (x:ax):bY mW 17 300 (gr l n x) (ff [21,22,23,24] true++ff [0,1,2,3,4,5,6,7,8,9,10,11,12,13,14,15,16,17,18,19,20,25,26,27,28] false++VP) (.tup [.sl 2 0 k none,.v (.int .i64 0)]) 2 (.row m 48 (0,0) (some 3))=[0=0/\(dZ (ad l n) x).length=k/\nZ=none,vZ 0=vZ 0,List.map SV.v (vI (dZ (ad l n) x))=m,m.all ab=true,(48=48/\bu l n (ad l n)/\ad l n≠[])/\x.2≠0/\x.1.size<=1000000000/\∀ (e:ax),e∈ad l n->e.p.size<=1000000000,decide ((↑n:Int)≥128)=false,((aO x.p (ad l n)).2==0)=true,((aO x.p (ad l n)).2==0)=true,((aO x.p (ad l n)).2==0)=true,((aO x.p (ad l n)).2==0)=true,48=48/\bu l n (ad l n)/\ad l n≠[],false=false,(!(aj x.1).toList==VO.toList)=false,(!(aj x.1).toList==VO.toList)=false,(!(aj x.1).toList==VO.toList)=false,(!(aj x.1).toList==VO.toList)=false,(!(aj x.1).toList==VO.toList)=false,(!(aj x.1).toList==VO.toList)=false,x.1.size.le 1000000000,(x.2==0)=false,false=false,(!x.2==2)=false,(!x.2==2)=false,(!x.2==2)=false,(!x.2==2)=false,(!x.2==2)=false,(!x.2==2)=false,(!aS x.2 x.4==0)=false,True,(!aR x.1)=false,x.1.size.le 1000000000]:=by kernel_rfl
theorem Ln (l m:List SV) (n k:Nat) (x:ax):bY mW 17 300 (gr l n x) (ff [0,1,2,3,4,5,6,7,8,9,10,11,12,13,14,15,16,17,18,19,20,21,22,23,24,25,26,27,28] false++VP) (.tup [.sl 2 0 k none,.v (.int .i64 0)]) 2 (.row m 48 (0,0) (some 3))=[0=0/\(dZ (ad l n) x).length=k/\nZ=none,vZ 0=vZ 0,List.map SV.v (vI (dZ (ad l n) x))=m,m.all ab=true,(48=48/\bu l n (ad l n)/\ad l n≠[])/\x.2≠0/\x.1.size<=1000000000/\∀ (e:ax),e∈ad l n->e.p.size<=1000000000,false=false,((aO x.p (ad l n)).2==0)=false,((aO x.p (ad l n)).2==0)=false,((aO x.p (ad l n)).2==0)=false,((aO x.p (ad l n)).2==0)=false,48=48/\bu l n (ad l n)/\ad l n≠[],false=false,(!(aj x.1).toList==VO.toList)=false,(!(aj x.1).toList==VO.toList)=false,(!(aj x.1).toList==VO.toList)=false,(!(aj x.1).toList==VO.toList)=false,(!(aj x.1).toList==VO.toList)=false,(!(aj x.1).toList==VO.toList)=false,x.1.size.le 1000000000,(x.2==0)=false,false=false,(!x.2==2)=false,(!x.2==2)=false,(!x.2==2)=false,(!x.2==2)=false,(!x.2==2)=false,(!x.2==2)=false,(!aS x.2 x.4==0)=false,True,(!aR x.1)=false,x.1.size.le 1000000000]:=by kernel_rfl
theorem ND (l m:List SV) (n k:Nat) (x:ax):ey mW 17 300 (gr l n x) (ff [13,14,15,17,18,19,22,23,24,25,26] true++ff [0,1,2,3,4,5,6,7,8,9,10,11,12,16,20,21,27,28] false++VP) [(0,0)] (.tup [.sl 0 0 n none,.v (.int .i64 24)])=[0=0/\n=n/\nZ=none,vZ 24=vZ 24,decide ((↑n:Int)≥128)=true,((aO x.p (ad l n)).2==0)=true,((aO x.p (ad l n)).2==0)=true,((aO x.p (ad l n)).2==0)=true,((aO x.p (ad l n)).2==0)=true,48=48/\bu l n (ad l n)/\ad l n≠[],(!(aO (aj x.p) (ad l n)).2==2)=false,(!(aj x.1).toList==VO.toList)=true,(!(aj x.1).toList==VO.toList)=true,(!(aj x.1).toList==VO.toList)=true,48=48/\bu l n (ad l n)/\ad l n≠[],(!(aj x.1).toList==VO.toList)=true,(!(aj x.1).toList==VO.toList)=true,(!(aj x.1).toList==VO.toList)=true,x.1.size.le 1000000000,(x.2==0)=false,false=false,(!x.2==2)=false,(!x.2==2)=false,(!x.2==2)=false,(!x.2==2)=false,(!x.2==2)=false,(!x.2==2)=false,(!aS x.2 x.4==0)=false,True,(!aR x.1)=false,x.1.size.le 1000000000]:=by kernel_rfl
theorem LR (l m:List SV) (n k:Nat) (x:ax):bY mW 17 300 (gr l n x) (ff [13,14,15,17,18,19,22,23,24,25] true++ff [0,1,2,3,4,5,6,7,8,9,10,11,12,16,20,21,26,27,28,29] false++VP) (.tup [.sl 2 0 k none,.v (.int .i64 0)]) 2 (.row m 48 (0,0) (some 3))=[0=0/\(dZ (ad l n) x).length=k/\nZ=none,vZ 0=vZ 0,List.map SV.v (vI (dZ (ad l n) x))=m,m.all ab=true,(48=48/\bu l n (ad l n)/\ad l n≠[])/\x.2≠0/\x.1.size<=1000000000/\∀ (e:ax),e∈ad l n->e.p.size<=1000000000,decide ((↑n:Int)≥128)=false,((aO x.p (ad l n)).2==0)=true,((aO x.p (ad l n)).2==0)=true,((aO x.p (ad l n)).2==0)=true,((aO x.p (ad l n)).2==0)=true,48=48/\bu l n (ad l n)/\ad l n≠[],(!(aO (aj x.p) (ad l n)).2==2)=false,(!(aj x.1).toList==VO.toList)=true,(!(aj x.1).toList==VO.toList)=true,(!(aj x.1).toList==VO.toList)=true,48=48/\bu l n (ad l n)/\ad l n≠[],(!(aj x.1).toList==VO.toList)=true,(!(aj x.1).toList==VO.toList)=true,(!(aj x.1).toList==VO.toList)=true,x.1.size.le 1000000000,(x.2==0)=false,false=false,(!x.2==2)=false,(!x.2==2)=false,(!x.2==2)=false,(!x.2==2)=false,(!x.2==2)=false,(!x.2==2)=false,(!aS x.2 x.4==0)=false,True,(!aR x.1)=false,x.1.size.le 1000000000]:=by kernel_rfl
theorem MA (l m:List SV) (n k:Nat) (x:ax):bY mW 17 300 (gr l n x) (ff [13,14,15,17,18,19] true++ff [0,1,2,3,4,5,6,7,8,9,10,11,12,16,20,21,22,23,24,25,26,27,28,29] false++VP) (.tup [.sl 2 0 k none,.v (.int .i64 0)]) 2 (.row m 48 (0,0) (some 3))=[0=0/\(dZ (ad l n) x).length=k/\nZ=none,vZ 0=vZ 0,List.map SV.v (vI (dZ (ad l n) x))=m,m.all ab=true,(48=48/\bu l n (ad l n)/\ad l n≠[])/\x.2≠0/\x.1.size<=1000000000/\∀ (e:ax),e∈ad l n->e.p.size<=1000000000,false=false,((aO x.p (ad l n)).2==0)=false,((aO x.p (ad l n)).2==0)=false,((aO x.p (ad l n)).2==0)=false,((aO x.p (ad l n)).2==0)=false,48=48/\bu l n (ad l n)/\ad l n≠[],(!(aO (aj x.p) (ad l n)).2==2)=false,(!(aj x.1).toList==VO.toList)=true,(!(aj x.1).toList==VO.toList)=true,(!(aj x.1).toList==VO.toList)=true,48=48/\bu l n (ad l n)/\ad l n≠[],(!(aj x.1).toList==VO.toList)=true,(!(aj x.1).toList==VO.toList)=true,(!(aj x.1).toList==VO.toList)=true,x.1.size.le 1000000000,(x.2==0)=false,false=false,(!x.2==2)=false,(!x.2==2)=false,(!x.2==2)=false,(!x.2==2)=false,(!x.2==2)=false,(!x.2==2)=false,(!aS x.2 x.4==0)=false,True,(!aR x.1)=false,x.1.size.le 1000000000]:=by kernel_rfl
theorem Vw (m:List SV) (k:Nat) (x:ax):ey mW 17 300 (kW x) (ff [1] true++ff [0,2] false++VP) [] (.v (.tuple #[.slice none 0 0,.int .i64 23]))=[Value.tuple { toList:=[VT none 0 0,vZ 23]:Array Value }=Value.tuple { toList:=[VT none 0 0,vZ 23]:Array Value },(!aR x.1)=true,x.1.size.le 1000000000]:=by kernel_rfl
theorem Tx (m:List SV) (k:Nat) (x:ax):ey mW 17 300 (kW x) (ff [3] true++ff [0,1,2,4] false++VP) [] (.v (.tuple #[.slice none 0 0,.int .i64 (aS x.k x.l)]))=[Value.tuple { toList:=[VT none 0 0,vZ (aS x.2 x.4)]:Array Value }=Value.tuple { toList:=[VT none 0 0,vZ (aS x.2 x.4)]:Array Value },(!aS x.2 x.4==0)=true,True,(!aR x.1)=false,x.1.size.le 1000000000]:=by kernel_rfl
theorem R6 (m:List SV) (k:Nat) (x:ax):ey mW 17 300 (kW x) (ff [4,5,6,8,9,10,12] true++ff [0,1,2,3,7,11,13,14] false++VP) [] (.v (.tuple #[.slice none 0 0,.int .i64 0]))=[Value.tuple { toList:=[VT none 0 0,vZ 0]:Array Value }=Value.tuple { toList:=[VT none 0 0,vZ 0]:Array Value },VT none 0 0=VT none 0 0,(x.2==0)=true,false=false,(!x.2==2)=true,(!x.2==2)=true,(!x.2==2)=true,True/\bO x.1 []=[]/\x.1.size<=1000000000/\∀ (e:ax),e∈[]->e.p.size<=1000000000,(!x.2==2)=true,(!x.2==2)=true,(!x.2==2)=true,(!aS x.2 x.4==0)=false,True,(!aR x.1)=false,x.1.size.le 1000000000]:=by kernel_rfl
theorem PL (m:List SV) (k:Nat) (x:ax):ey mW 17 300 (kW x) (ff [4,5,6,8,9,10,14,15,16,18,19,20,21] true++ff [0,1,2,3,7,11,12,13,17,22] false++VP) [] (.v (.tuple #[.slice none 0 0,.int .i64 22]))=[Value.tuple { toList:=[VT none 0 0,vZ 22]:Array Value }=Value.tuple { toList:=[VT none 0 0,vZ 22]:Array Value },(!(aO (aj x.p) []).2==2)=true,(!(aj x.1).toList==VO.toList)=true,(!(aj x.1).toList==VO.toList)=true,(!(aj x.1).toList==VO.toList)=true,True,(!(aj x.1).toList==VO.toList)=true,(!(aj x.1).toList==VO.toList)=true,(!(aj x.1).toList==VO.toList)=true,x.1.size.le 1000000000,(x.2==0)=false,false=false,(!x.2==2)=true,(!x.2==2)=true,(!x.2==2)=true,True/\bO x.1 []=[]/\x.1.size<=1000000000/\∀ (e:ax),e∈[]->e.p.size<=1000000000,(!x.2==2)=true,(!x.2==2)=true,(!x.2==2)=true,(!aS x.2 x.4==0)=false,True,(!aR x.1)=false,x.1.size.le 1000000000]:=by kernel_rfl
theorem P2 (m:List SV) (k:Nat) (x:ax):bY mW 17 300 (kW x) (ff [4,5,6,8,9,10,22,23,24,25] true++ff [0,1,2,3,7,11,12,13,14,15,16,17,18,19,20,21,26,27,28] false++VP) (.tup [.sl 1 0 k none,.v (.int .i64 0)]) 1 (.row m 48 (0,0) (some 3))=[0=0/\(dZ [] x).length=k/\nZ=none,vZ 0=vZ 0,List.map SV.v (vI (dZ [] x))=m,m.all ab=true,True/\x.2≠0/\x.1.size<=1000000000/\∀ (e:ax),e∈[]->e.p.size<=1000000000,false=false,((aO x.p []).2==0)=true,((aO x.p []).2==0)=true,((aO x.p []).2==0)=true,((aO x.p []).2==0)=true,True,false=false,(!(aj x.1).toList==VO.toList)=false,(!(aj x.1).toList==VO.toList)=false,(!(aj x.1).toList==VO.toList)=false,(!(aj x.1).toList==VO.toList)=false,(!(aj x.1).toList==VO.toList)=false,(!(aj x.1).toList==VO.toList)=false,x.1.size.le 1000000000,(x.2==0)=false,false=false,(!x.2==2)=true,(!x.2==2)=true,(!x.2==2)=true,True/\bO x.1 []=[]/\x.1.size<=1000000000/\∀ (e:ax),e∈[]->e.p.size<=1000000000,(!x.2==2)=true,(!x.2==2)=true,(!x.2==2)=true,(!aS x.2 x.4==0)=false,True,(!aR x.1)=false,x.1.size.le 1000000000]:=by kernel_rfl
theorem Qk (m:List SV) (k:Nat) (x:ax):ey mW 17 300 (kW x) (ff [13,14,15,17,18,19,20] true++ff [0,1,2,3,4,5,6,7,8,9,10,11,12,16,21] false++VP) [] (.v (.tuple #[.slice none 0 0,.int .i64 22]))=[Value.tuple { toList:=[VT none 0 0,vZ 22]:Array Value }=Value.tuple { toList:=[VT none 0 0,vZ 22]:Array Value },(!(aO (aj x.p) []).2==2)=true,(!(aj x.1).toList==VO.toList)=true,(!(aj x.1).toList==VO.toList)=true,(!(aj x.1).toList==VO.toList)=true,True,(!(aj x.1).toList==VO.toList)=true,(!(aj x.1).toList==VO.toList)=true,(!(aj x.1).toList==VO.toList)=true,x.1.size.le 1000000000,(x.2==0)=false,false=false,(!x.2==2)=false,(!x.2==2)=false,(!x.2==2)=false,(!x.2==2)=false,(!x.2==2)=false,(!x.2==2)=false,(!aS x.2 x.4==0)=false,True,(!aR x.1)=false,x.1.size.le 1000000000]:=by kernel_rfl
theorem Qu (m:List SV) (k:Nat) (x:ax):bY mW 17 300 (kW x) (ff [21,22,23,24] true++ff [0,1,2,3,4,5,6,7,8,9,10,11,12,13,14,15,16,17,18,19,20,25,26,27] false++VP) (.tup [.sl 1 0 k none,.v (.int .i64 0)]) 1 (.row m 48 (0,0) (some 3))=[0=0/\(dZ [] x).length=k/\nZ=none,vZ 0=vZ 0,List.map SV.v (vI (dZ [] x))=m,m.all ab=true,True/\x.2≠0/\x.1.size<=1000000000/\∀ (e:ax),e∈[]->e.p.size<=1000000000,false=false,((aO x.p []).2==0)=true,((aO x.p []).2==0)=true,((aO x.p []).2==0)=true,((aO x.p []).2==0)=true,True,false=false,(!(aj x.1).toList==VO.toList)=false,(!(aj x.1).toList==VO.toList)=false,(!(aj x.1).toList==VO.toList)=false,(!(aj x.1).toList==VO.toList)=false,(!(aj x.1).toList==VO.toList)=false,(!(aj x.1).toList==VO.toList)=false,x.1.size.le 1000000000,(x.2==0)=false,false=false,(!x.2==2)=false,(!x.2==2)=false,(!x.2==2)=false,(!x.2==2)=false,(!x.2==2)=false,(!x.2==2)=false,(!aS x.2 x.4==0)=false,True,(!aR x.1)=false,x.1.size.le 1000000000]:=by kernel_rfl
theorem Jd {X:World->Prop}:bh Tryz.prog X (51,fl GP):=by
 refine gK ⟨_,Tryz.func51,by kernel_rfl,by kernel_rfl⟩ fun args sh ys n C elem ex p h hp ν M w0 w a hr hX ha=>?_;dsimp only [GP] at h;split at h
 ·rename_i A p L;split at h
  ·rename_i xs q k a1 l1 c1 hl hd;cases h;obtain ⟨hq,hk,h1,h2⟩:=hp;obtain ⟨y1,ZY,rfl,q1,YV⟩:=ha.cons_inv;obtain ⟨y2,as2,rfl,q2,ZL⟩:=YV.cons_inv;obtain ⟨y3,as3,rfl,q3,ha4⟩:=ZL.cons_inv;obtain rfl:=ha4.ay;obtain rfl:=VR.ae.1 q2;obtain rfl:=lW hd q3;rcases kY hl hq with ⟨rfl,rfl⟩ | ⟨YI,ZV,i,mk,rfl,hlk⟩
   ·obtain rfl:=VR.ae.1 q1;exact E8 (w:=w) (x:=⟨p,k,a1,l1,c1⟩) hk
   ·obtain ⟨bb,Zd,hle,rfl⟩:=VR.aL.1 q1;obtain ⟨_,_,b,ob,hb,ho,YO,_⟩:=hr.look hlk;rw [Zd] at hb;cases hb;obtain ⟨zs,rest,rfl,hz,r,b',YM,Zb⟩:=YO;rw [Zd] at YM;cases YM;obtain rfl:=tI hz;exact Gd (w:=w) (x:=⟨p,k,a1,l1,c1⟩) hk ho Zb hle ZV h1 h2
  ·cases h
 ·cases h
theorem qA {M:Own} {w0:World}:aK mW M w0:=
 aK.uS (Checked.mixed Tryz.checked) (by kernel_rfl) (fk.of iI rfl dK) (dz.list (X:=fun _=>True) (l:=Qn) rfl (fun r h=>by
  simp only [Qn,V8,Ww,Xc] at h
  rcases h with rfl | rfl | rfl | rfl | rfl | rfl | rfl
  ·exact bh.pure (r:=(45,kO)) oW
  ·exact bh.pure (r:=(46,j0)) yD
  ·exact Dj
  ·exact pr
  ·exact bh.pure (r:=(49,wK)) AE
  ·exact Jk
  ·exact Jd) fun ν s w hr _=>trivial) (fun f g h=>by cases h)
def CA (x:ax):Bool:=!(aj x.p).toList==(⟨#[]⟩:ByteArray).toList
def aI (xs:List ax) (x:ax):List ax × Int:=
 if aR x.p=false then (xs,23)
 else if aS x.k x.l≠0 then (xs,aS x.k x.l)
 else if x.k≠2/\bO x.p xs≠[] then (xs,22)
 else if x.k=0 then (ch x.p xs,0)
 else if CA x=true/\(aO (aj x.p) xs).k≠2 then (xs,22)
 else if (aO x.p xs).k=0/\128<=xs.length then (xs,24)
 else (dZ xs x,0)
def tV (y:Value) (c:Int):Value:=.tuple #[y,.int .i64 c]
def Pp (w0:World) (y0:Value) (r:List ax × Int) (e:Ending) (w':World):Prop:=
 Below w0.heap.size w0 w'/\((r.2≠0/\e=.returned (tV y0 r.2))\/(r.2=0/\r.1=[]/\e=.returned (tV (.slice none 0 0) 0))\/(r.2=0/\r.1≠[]/\∃ y,e=.returned (tV y 0)/\cG w0 w' y (vI r.1) r.1.length 3 48))
theorem iB (xs:List ax) (x:ax):dZ xs x≠[]:=fun h=>by
 have:=ou x (ch x.p xs)
 unfold dZ at h
 rw [h] at this;simp at this
section
variable {E:Env} {M:Own} {w0:World} {cs0:List Frame} {f:FuncId} {R:Ending->World->Prop} {ν:aP} {n:Nat} {S:SM} {o:List (Nat × gM)}
theorem fV {m j:Nat} {l:List ax} (K:aK E M w0) (hM:∀ z,¬ M z) (h:mY (bY E f n S o (.tup [.sl j 0 m none,.v (.int .i64 0)]) j (.row (cI l) 48 (0,0) (some 3))))
  (hR:∀ w' y,Below w0.heap.size w0 w'->cG w0 w' y (vI l) m 3 48->R (.returned (tV y 0)) w'):af E M w0 cs0 f R ν S:=
 af.bY K h.out fun ν' w' y b ob hv hb ho YO hw hB=>by
  have hn:w0.heap.size<=b.1:=by
   rcases hw with h | h
   ·exact h
   ·exact absurd h (hM _)
  obtain ⟨_,_,_,_,hB,hr⟩:=hB;obtain ⟨a,rfl,ha⟩:=VR.cz.1 hv;obtain ⟨y1,a1,rfl,q1,ha1⟩:=ha.cons_inv;obtain ⟨y2,a2,rfl,q2,YV⟩:=ha1.cons_inv;obtain rfl:=YV.ay;obtain rfl:=VR.ae.1 q2;exact hR w' y1 (aB hM hB hr) (cG.fW q1 hb ho YO hn fun zs hz=>tI hz)
theorem je {b:Nat × Nat} {m:Nat} {c:Int} (K:aK E M w0) (hM:∀ z,¬ M z) (h:mY (ey E f n S o [(0,0)] (.tup [.sl 0 0 m none,.v (.int .i64 c)])))
  (hR:∀ w',Below w0.heap.size w0 w'->R (.returned (tV (.slice (some ⟨b.1,0,none⟩) m b.2) c)) w'):af E M w0 cs0 f R (aA [b]) S:=
 af.ey K hM h.out fun ν' w' y hle hv hB=>by
  obtain ⟨a,rfl,ha⟩:=VR.cz.1 hv
  obtain ⟨y1,a1,rfl,q1,ha1⟩:=ha.cons_inv
  obtain ⟨y2,a2,rfl,q2,YV⟩:=ha1.cons_inv
  obtain rfl:=YV.ay
  obtain rfl:=VR.ae.1 q2
  obtain ⟨b',YM,Zp,rfl⟩:=VR.aL.1 q1
  have ZH:(ν'.ren [(0,0)]) 0=some b:=hle 0 b rfl
  rw [ZH] at YM;cases YM
  exact hR w' hB
theorem kL {rn:List (Nat × Nat)} {v:Value} (K:aK E M w0) (hM:∀ z,¬ M z) (h:mY (ey E f n S o rn (.v v))) (hR:∀ w',Below w0.heap.size w0 w'->R (.returned v) w'):af E M w0 cs0 f R ν S:=
 af.ey K hM h.out fun ν' w' y hle hv hB=>by rw [VR.ae.1 hv];exact hR w' hB
end
section
variable {w0:World} {cs0:List Frame} {xs:List ax} {x:ax} {b:Nat × Nat}
theorem FU (YI:xs≠[]) (hl:xs.length<=1000) (hp:x.p.size<=1000000000) (hs:∀ e∈xs,e.p.size<=1000000000):
  af mW (aD [b] [(.row (cI xs) 48 (0,0) (some 3),false)]) w0 cs0 17 (Pp w0 (.slice (some ⟨b.1,0,none⟩) xs.length b.2) (aI xs x)) (aA [b]) (gr (cI xs) xs.length x):=by
 have hM:∀ z,¬ (aD [b] [(SO.row (cI xs) 48 (0,0) (some 3),false)]) z:=fun z=>aY (os:=[_]);have hh:bu (cI xs) xs.length xs:=⟨rfl,rfl,hl⟩;have hx:(⟨x.1,x.2,x.3,x.4,x.5⟩:ax)=x:=rfl;have η:(!(aj x.1).toList==(⟨⟨[]⟩⟩:ByteArray).toList)=CA x:=rfl;cases g:aR x.p
 ·have hr:aI xs x=(xs,23):=by unfold aI;rw [if_pos g]
  rw [hr];refine je qA hM (o:=(ff [1] true++ff [0,2,3] false++VP)) (n:=300) ⟨?_⟩ fun w' hB=>⟨hB,.inl ⟨by show (23:Int)≠0;decide,rfl⟩⟩;rw [R9 (m:=[]) (k:=0)];simp only [ah,g,W1,VV,VX,VW];exact hp
 have g':aR x.1=true:=g;by_cases c1:aS x.k x.l=0
 case neg=>
  have d1:(!aS x.2 x.4==(0:Int))=true:=by simpa using c1
  have hr:aI xs x=(xs,aS x.k x.l):=by unfold aI;rw [if_neg (by simp [g]),if_pos c1]
  rw [hr];refine je qA hM (o:=(ff [3] true++ff [0,1,2,4,5] false++VP)) (n:=300) ⟨?_⟩ fun w' hB=>⟨hB,.inl ⟨c1,rfl⟩⟩;rw [st1 (m:=[]) (k:=0)];simp only [ah,g',d1,Wy,VV,VX,VW];exact hp
 have d1:(!aS x.2 x.4==(0:Int))=false:=by simpa using c1
 have fin:∀ {P Q R:Prop},P->Q->R->P/\Q/\R:=fun a b c=>⟨a,b,c⟩;by_cases c2:x.k=2
 ·have d2:(!x.2==(2:Int))=false:=by simpa using c2
  have d0:(x.2==(0:Int))=false:=Wr.2 (by omega);have k0:x.2≠0:=by show x.k≠0;omega
  have Z0:aI xs x=if CA x=true/\(aO (aj x.p) xs).k≠2 then (xs,22) else if (aO x.p xs).k=0/\128<=xs.length then (xs,24) else (dZ xs x,0):=by
   unfold aI;rw [if_neg (by simp [g]),if_neg (by simp [c1]),if_neg (by simp [c2]),if_neg (by omega)]
  cases u:CA x
  ·rw [u] at Z0 η;rw [if_neg (by simp)] at Z0;by_cases ct:(aO x.p xs).k=0
   ·have dt:((aO x.p xs).2==(0:Int))=true:=Xp.2 ct;by_cases cf:128<=xs.length
    ·have df:decide ((xs.length:Int)≥(128:Int))=true:=V0 (by omega);rw [Z0,if_pos ⟨ct,cf⟩];refine je qA hM (o:=(ff [21,22,23,24,25] true++ff [0,1,2,3,4,5,6,7,8,9,10,11,12,13,14,15,16,17,18,19,20,26,27] false++VP)) (n:=300) ⟨?_⟩ fun w' hB=>⟨hB,.inl ⟨by show (24:Int)≠0;decide,rfl⟩⟩;rw [Oh (m:=[]) (k:=0)];simp only [ah,aW,g',d1,d2,d0,η,dt,df,Wy,VV,VX,VW];repeat' apply And.intro
     all_goals first | exact hp | exact hh | exact YI | skip
    ·have df:decide ((xs.length:Int)≥(128:Int))=false:=V2 (by omega);rw [Z0,if_neg (by omega)];refine fV (j:=2) (l:=dZ xs x) (m:=(dZ xs x).length) qA hM (o:=(ff [21,22,23,24] true++ff [0,1,2,3,4,5,6,7,8,9,10,11,12,13,14,15,16,17,18,19,20,25,26,27,28] false++VP)) (n:=300) ⟨?_⟩ fun w' y hB hy=>⟨hB,.inr (.inr ⟨rfl,iB _ _,y,rfl,hy⟩)⟩;rw [Lp];simp only [ah,aW,cX,az,hx,g',d1,d2,d0,η,dt,df,Wy,VV,VX,VW];repeat' apply And.intro
     all_goals first | exact hp | exact hh | exact YI | exact hs | exact k0 | skip
   ·have dt:((aO x.p xs).2==(0:Int))=false:=Wr.2 ct;rw [Z0,if_neg (by simp [ct])];refine fV (j:=2) (l:=dZ xs x) (m:=(dZ xs x).length) qA hM (o:=(ff [0,1,2,3,4,5,6,7,8,9,10,11,12,13,14,15,16,17,18,19,20,21,22,23,24,25,26,27,28] false++VP)) (n:=300) ⟨?_⟩ fun w' y hB hy=>⟨hB,.inr (.inr ⟨rfl,iB _ _,y,rfl,hy⟩)⟩;rw [Ln];simp only [ah,aW,cX,az,hx,g',d1,d2,d0,η,dt,Wy,VV,VX,VW];repeat' apply And.intro
    all_goals first | exact hp | exact hh | exact YI | exact hs | exact k0 | skip
  ·rw [u] at Z0 η;by_cases cd:(aO (aj x.p) xs).k=2
   case neg=>
    have dd:(!(aO (aj x.p) xs).2==(2:Int))=true:=by simpa using cd
    rw [Z0,if_pos ⟨rfl,cd⟩];refine je qA hM (o:=(ff [13,14,15,17,18,19,20] true++ff [0,1,2,3,4,5,6,7,8,9,10,11,12,16,21,22] false++VP)) (n:=300) ⟨?_⟩ fun w' hB=>⟨hB,.inl ⟨by show (22:Int)≠0;decide,rfl⟩⟩;rw [PB (m:=[]) (k:=0)];simp only [ah,aW,g',d1,d2,d0,η,dd,Wy,VV,VX,VW];repeat' apply And.intro
    all_goals first | exact hp | exact hh | exact YI | skip
   have dd:(!(aO (aj x.p) xs).2==(2:Int))=false:=by simpa using cd
   rw [if_neg (by simp [cd])] at Z0;by_cases ct:(aO x.p xs).k=0
   ·have dt:((aO x.p xs).2==(0:Int))=true:=Xp.2 ct;by_cases cf:128<=xs.length
    ·have df:decide ((xs.length:Int)≥(128:Int))=true:=V0 (by omega);rw [Z0,if_pos ⟨ct,cf⟩];refine je qA hM (o:=(ff [13,14,15,17,18,19,22,23,24,25,26] true++ff [0,1,2,3,4,5,6,7,8,9,10,11,12,16,20,21,27,28] false++VP)) (n:=300) ⟨?_⟩ fun w' hB=>⟨hB,.inl ⟨by show (24:Int)≠0;decide,rfl⟩⟩;rw [ND (m:=[]) (k:=0)];simp only [ah,aW,g',d1,d2,d0,η,dd,dt,df,Wy,VV,VX,VW];repeat' apply And.intro
     all_goals first | exact hp | exact hh | exact YI | skip
    ·have df:decide ((xs.length:Int)≥(128:Int))=false:=V2 (by omega);rw [Z0,if_neg (by omega)];refine fV (j:=2) (l:=dZ xs x) (m:=(dZ xs x).length) qA hM (o:=(ff [13,14,15,17,18,19,22,23,24,25] true++ff [0,1,2,3,4,5,6,7,8,9,10,11,12,16,20,21,26,27,28,29] false++VP)) (n:=300) ⟨?_⟩ fun w' y hB hy=>⟨hB,.inr (.inr ⟨rfl,iB _ _,y,rfl,hy⟩)⟩;rw [LR];simp only [ah,aW,cX,az,hx,g',d1,d2,d0,η,dd,dt,df,Wy,VV,VX,VW];repeat' apply And.intro
     all_goals first | exact hp | exact hh | exact YI | exact hs | exact k0 | skip
   ·have dt:((aO x.p xs).2==(0:Int))=false:=Wr.2 ct;rw [Z0,if_neg (by simp [ct])];refine fV (j:=2) (l:=dZ xs x) (m:=(dZ xs x).length) qA hM (o:=(ff [13,14,15,17,18,19] true++ff [0,1,2,3,4,5,6,7,8,9,10,11,12,16,20,21,22,23,24,25,26,27,28,29] false++VP)) (n:=300) ⟨?_⟩ fun w' y hB hy=>⟨hB,.inr (.inr ⟨rfl,iB _ _,y,rfl,hy⟩)⟩;rw [MA];simp only [ah,aW,cX,az,hx,g',d1,d2,d0,η,dd,dt,Wy,VV,VX,VW];repeat' apply And.intro
    all_goals first | exact hp | exact hh | exact YI | exact hs | exact k0 | skip
 ·have d2:(!x.2==(2:Int))=true:=by simpa using c2
  by_cases cb:bO x.p xs=[]
  case neg=>
   have hr:aI xs x=(xs,22):=by unfold aI;rw [if_neg (by simp [g]),if_neg (by simp [c1]),if_pos ⟨c2,cb⟩]
   have db:decide (((bO x.1 xs).length:Int)>(0:Int))=true:=V0 (by have:=Xh.2 cb;omega);have cb':bO x.1 xs≠[]:=cb;rw [hr];refine je qA hM (o:=(ff [4,5,6,7,8,9,10,11] true++ff [0,1,2,3,12,13] false++VP)) (n:=300) ⟨?_⟩ fun w' hB=>⟨hB,.inl ⟨by show (22:Int)≠0;decide,rfl⟩⟩;rw [st2 (m:=[]) (k:=0)];simp only [ah,aW,g',d1,d2,db,Wy,VV,VX,VW];repeat' apply And.intro
   all_goals first | exact hp | exact hh | exact YI | exact hs | exact cb' | skip
  have cb':bO x.1 xs=[]:=cb;by_cases c0:x.k=0
  ·have d0:(x.2==(0:Int))=true:=Xp.2 c0;have hr:aI xs x=(ch x.p xs,0):=by unfold aI;rw [if_neg (by simp [g]),if_neg (by simp [c1]),if_neg (by simp [cb]),if_pos c0]
   rw [hr];by_cases cw:ch x.p xs=[]
   ·rw [cw];have cw':ch x.1 xs=[]:=cw;refine kL qA hM (rn:=[(0,0)]) (v:=.tuple #[.slice none 0 0,.int .i64 0]) (o:=(ff [4,5,6,8,9,10,12] true++ff [0,1,2,3,7,11,13,14] false++VP)) (n:=300) ⟨?_⟩ fun w' hB=>⟨hB,.inr (.inl ⟨rfl,rfl,rfl⟩)⟩;rw [q7 (m:=[]) (k:=0)];simp only [ah,aW,g',d1,d2,d0,Wy,VV,VX,VW];repeat' apply And.intro
    all_goals first | exact hp | exact hh | exact YI | exact hs | exact cb' | exact cw' | skip
   ·have cw':ch x.1 xs≠[]:=cw;refine fV (j:=2) (l:=ch x.p xs) (m:=(ch x.p xs).length) qA hM (o:=(ff [4,5,6,8,9,10,12,13] true++ff [0,1,2,3,7,11,14,15] false++VP)) (n:=300) ⟨?_⟩ fun w' y hB hy=>⟨hB,.inr (.inr ⟨rfl,cw,y,rfl,hy⟩)⟩;rw [SC];simp only [ah,aW,cX,az,g',d1,d2,d0,Wy,VV,VX,VW];repeat' apply And.intro
    all_goals first | exact hp | exact hh | exact YI | exact hs | exact cb' | exact cw' | skip
  have d0:(x.2==(0:Int))=false:=Wr.2 c0;have k0:x.2≠0:=c0
  have Z0:aI xs x=if CA x=true/\(aO (aj x.p) xs).k≠2 then (xs,22) else if (aO x.p xs).k=0/\128<=xs.length then (xs,24) else (dZ xs x,0):=by
   unfold aI;rw [if_neg (by simp [g]),if_neg (by simp [c1]),if_neg (by simp [cb]),if_neg c0]
  cases u:CA x
  ·rw [u] at Z0 η;rw [if_neg (by simp)] at Z0;by_cases ct:(aO x.p xs).k=0
   ·have dt:((aO x.p xs).2==(0:Int))=true:=Xp.2 ct;by_cases cf:128<=xs.length
    ·have df:decide ((xs.length:Int)≥(128:Int))=true:=V0 (by omega);rw [Z0,if_pos ⟨ct,cf⟩];refine je qA hM (o:=(ff [4,5,6,8,9,10,22,23,24,25,26] true++ff [0,1,2,3,7,11,12,13,14,15,16,17,18,19,20,21,27,28] false++VP)) (n:=300) ⟨?_⟩ fun w' hB=>⟨hB,.inl ⟨by show (24:Int)≠0;decide,rfl⟩⟩;rw [OL (m:=[]) (k:=0)];simp only [ah,aW,g',d1,d2,d0,η,dt,df,Wy,VV,VX,VW];repeat' apply And.intro
     all_goals first | exact hp | exact hh | exact YI | exact hs | exact cb' | skip
    ·have df:decide ((xs.length:Int)≥(128:Int))=false:=V2 (by omega);rw [Z0,if_neg (by omega)];refine fV (j:=2) (l:=dZ xs x) (m:=(dZ xs x).length) qA hM (o:=(ff [4,5,6,8,9,10,22,23,24,25] true++ff [0,1,2,3,7,11,12,13,14,15,16,17,18,19,20,21,26,27,28,29] false++VP)) (n:=300) ⟨?_⟩ fun w' y hB hy=>⟨hB,.inr (.inr ⟨rfl,iB _ _,y,rfl,hy⟩)⟩;rw [LP];simp only [ah,aW,cX,az,hx,g',d1,d2,d0,η,dt,df,Wy,VV,VX,VW];repeat' apply And.intro
     all_goals first | exact hp | exact hh | exact YI | exact hs | exact k0 | exact cb' | skip
   ·have dt:((aO x.p xs).2==(0:Int))=false:=Wr.2 ct;rw [Z0,if_neg (by simp [ct])];refine fV (j:=2) (l:=dZ xs x) (m:=(dZ xs x).length) qA hM (o:=(ff [4,5,6,8,9,10] true++ff [0,1,2,3,7,11,12,13,14,15,16,17,18,19,20,21,22,23,24,25,26,27,28,29] false++VP)) (n:=300) ⟨?_⟩ fun w' y hB hy=>⟨hB,.inr (.inr ⟨rfl,iB _ _,y,rfl,hy⟩)⟩;rw [My];simp only [ah,aW,cX,az,hx,g',d1,d2,d0,η,dt,Wy,VV,VX,VW];repeat' apply And.intro
    all_goals first | exact hp | exact hh | exact YI | exact hs | exact k0 | exact cb' | skip
  ·rw [u] at Z0 η;by_cases cd:(aO (aj x.p) xs).k=2
   case neg=>
    have dd:(!(aO (aj x.p) xs).2==(2:Int))=true:=by simpa using cd
    rw [Z0,if_pos ⟨rfl,cd⟩];refine je qA hM (o:=(ff [4,5,6,8,9,10,14,15,16,18,19,20,21] true++ff [0,1,2,3,7,11,12,13,17,22,23] false++VP)) (n:=300) ⟨?_⟩ fun w' hB=>⟨hB,.inl ⟨by show (22:Int)≠0;decide,rfl⟩⟩;rw [Qh (m:=[]) (k:=0)];simp only [ah,aW,g',d1,d2,d0,η,dd,Wy,VV,VX,VW];repeat' apply And.intro
    all_goals first | exact hp | exact hh | exact YI | exact hs | exact cb' | skip
   have dd:(!(aO (aj x.p) xs).2==(2:Int))=false:=by simpa using cd
   rw [if_neg (by simp [cd])] at Z0;by_cases ct:(aO x.p xs).k=0
   ·have dt:((aO x.p xs).2==(0:Int))=true:=Xp.2 ct;by_cases cf:128<=xs.length
    ·have df:decide ((xs.length:Int)≥(128:Int))=true:=V0 (by omega);rw [Z0,if_pos ⟨ct,cf⟩];refine je qA hM (o:=(ff [4,5,6,8,9,10,14,15,16,18,19,20,23,24,25,26,27] true++ff [0,1,2,3,7,11,12,13,17,21,22,28,29] false++VP)) (n:=300) ⟨?_⟩ fun w' hB=>⟨hB,.inl ⟨by show (24:Int)≠0;decide,rfl⟩⟩;rw [Nt (m:=[]) (k:=0)];simp only [ah,aW,g',d1,d2,d0,η,dd,dt,df,Wy,VV,VX,VW];repeat' apply And.intro
     all_goals first | exact hp | exact hh | exact YI | exact hs | exact cb' | skip
    ·have df:decide ((xs.length:Int)≥(128:Int))=false:=V2 (by omega);rw [Z0,if_neg (by omega)];refine fV (j:=2) (l:=dZ xs x) (m:=(dZ xs x).length) qA hM (o:=(ff [4,5,6,8,9,10,14,15,16,18,19,20,23,24,25,26] true++ff [0,1,2,3,7,11,12,13,17,21,22,27,28,29,30] false++VP)) (n:=300) ⟨?_⟩ fun w' y hB hy=>⟨hB,.inr (.inr ⟨rfl,iB _ _,y,rfl,hy⟩)⟩;rw [LB];simp only [ah,aW,cX,az,hx,g',d1,d2,d0,η,dd,dt,df,Wy,VV,VX,VW];repeat' apply And.intro
     all_goals first | exact hp | exact hh | exact YI | exact hs | exact k0 | exact cb' | skip
   ·have dt:((aO x.p xs).2==(0:Int))=false:=Wr.2 ct;rw [Z0,if_neg (by simp [ct])];refine fV (j:=2) (l:=dZ xs x) (m:=(dZ xs x).length) qA hM (o:=(ff [4,5,6,8,9,10,14,15,16,18,19,20] true++ff [0,1,2,3,7,11,12,13,17,21,22,23,24,25,26,27,28,29,30] false++VP)) (n:=300) ⟨?_⟩ fun w' y hB hy=>⟨hB,.inr (.inr ⟨rfl,iB _ _,y,rfl,hy⟩)⟩;rw [MF];simp only [ah,aW,cX,az,hx,g',d1,d2,d0,η,dd,dt,Wy,VV,VX,VW];repeat' apply And.intro
    all_goals first | exact hp | exact hh | exact YI | exact hs | exact k0 | exact cb' | skip
theorem DV (hp:x.p.size<=1000000000):af mW (aD [] []) w0 cs0 17 (Pp w0 (.slice none 0 0) (aI [] x)) (aA []) (kW x):=by
 have hx:(⟨x.1,x.2,x.3,x.4,x.5⟩:ax)=x:=rfl;have η:(!(aj x.1).toList==(⟨⟨[]⟩⟩:ByteArray).toList)=CA x:=rfl;have hs:∀ e:ax,e∈([]:List ax)->e.p.size<=1000000000:=fun e h=>(nomatch h);have hb:bO x.1 []=[]:=rfl;have hf:∀ q,(aO q []).2=0:=fun q=>rfl;have ht:((aO x.p []).2==(0:Int))=true:=rfl;have hd:(!(aO (aj x.p) []).2==(2:Int))=true:=rfl;cases g:aR x.p
 ·have hr:aI [] x=([],23):=by unfold aI;rw [if_pos g]
  rw [hr];refine kL qA aE (rn:=[]) (v:=.tuple #[.slice none 0 0,.int .i64 23]) (o:=(ff [1] true++ff [0,2] false++VP)) (n:=300) ⟨?_⟩ fun w' hB=>⟨hB,.inl ⟨by show (23:Int)≠0;decide,rfl⟩⟩;rw [Vw (m:=[]) (k:=0)];simp only [ah,g,W1,VV,VX,VW];exact hp
 have g':aR x.1=true:=g;by_cases c1:aS x.k x.l=0
 case neg=>
  have d1:(!aS x.2 x.4==(0:Int))=true:=by simpa using c1
  have hr:aI [] x=([],aS x.k x.l):=by unfold aI;rw [if_neg (by simp [g]),if_pos c1]
  rw [hr];refine kL qA aE (rn:=[]) (v:=.tuple #[.slice none 0 0,.int .i64 (aS x.k x.l)]) (o:=(ff [3] true++ff [0,1,2,4] false++VP)) (n:=300) ⟨?_⟩ fun w' hB=>⟨hB,.inl ⟨c1,rfl⟩⟩;rw [Tx (m:=[]) (k:=0)];simp only [ah,g',d1,Wy,VV,VX,VW];exact hp
 have d1:(!aS x.2 x.4==(0:Int))=false:=by simpa using c1
 have Z0:x.k≠0->aI [] x=if CA x=true then ([],22) else (dZ [] x,0):=fun c0=>by
  unfold aI;rw [if_neg (by simp [g]),if_neg (by simp [c1]),if_neg (by simp [bO]),if_neg c0];cases u:CA x
  ·rw [if_neg (by simp),if_neg (by simp),if_neg (by simp)]
  ·rw [if_pos ⟨rfl,by show (0:Int)≠2;decide⟩,if_pos rfl]
 by_cases c0:x.k=0
 ·have d0:(x.2==(0:Int))=true:=Xp.2 c0;have d2:(!x.2==(2:Int))=true:=by rw [show x.2=0 from c0];rfl
  have hr:aI [] x=([],0):=by unfold aI;rw [if_neg (by simp [g]),if_neg (by simp [c1]),if_neg (by simp [bO]),if_pos c0];rfl
  rw [hr];refine kL qA aE (rn:=[]) (v:=.tuple #[.slice none 0 0,.int .i64 0]) (o:=(ff [4,5,6,8,9,10,12] true++ff [0,1,2,3,7,11,13,14] false++VP)) (n:=300) ⟨?_⟩ fun w' hB=>⟨hB,.inr (.inl ⟨rfl,rfl,rfl⟩)⟩;rw [R6 (m:=[]) (k:=0)];simp only [ah,g',d1,d2,d0,hb,Wy,VV,VX,VW];repeat' apply And.intro
  all_goals first | exact hp | exact hs | skip
 have d0:(x.2==(0:Int))=false:=Wr.2 c0;have k0:x.2≠0:=c0;have Z0:=Z0 c0;by_cases c2:x.k=2
 ·have d2:(!x.2==(2:Int))=false:=by simpa using c2
  cases u:CA x
  ·rw [u] at Z0 η;rw [Z0,if_neg (by decide)];refine fV (j:=1) (l:=dZ [] x) (m:=(dZ [] x).length) qA aE (o:=(ff [21,22,23,24] true++ff [0,1,2,3,4,5,6,7,8,9,10,11,12,13,14,15,16,17,18,19,20,25,26,27] false++VP)) (n:=300) ⟨?_⟩ fun w' y hB hy=>⟨hB,.inr (.inr ⟨rfl,iB _ _,y,rfl,hy⟩)⟩;rw [Qu];simp only [ah,cX,az,hx,g',d1,d2,d0,η,ht,Wy,VV,VX,VW];repeat' apply And.intro
   all_goals first | exact hp | exact hs | exact k0 | skip
  ·rw [u] at Z0 η;rw [Z0,if_pos rfl];refine kL qA aE (rn:=[]) (v:=.tuple #[.slice none 0 0,.int .i64 22]) (o:=(ff [13,14,15,17,18,19,20] true++ff [0,1,2,3,4,5,6,7,8,9,10,11,12,16,21] false++VP)) (n:=300) ⟨?_⟩ fun w' hB=>⟨hB,.inl ⟨by show (22:Int)≠0;decide,rfl⟩⟩;rw [Qk (m:=[]) (k:=0)];simp only [ah,g',d1,d2,d0,η,hd,Wy,VV,VX,VW];repeat' apply And.intro
   all_goals first | exact hp | exact hs | skip
 ·have d2:(!x.2==(2:Int))=true:=by simpa using c2
  cases u:CA x
  ·rw [u] at Z0 η;rw [Z0,if_neg (by decide)];refine fV (j:=1) (l:=dZ [] x) (m:=(dZ [] x).length) qA aE (o:=(ff [4,5,6,8,9,10,22,23,24,25] true++ff [0,1,2,3,7,11,12,13,14,15,16,17,18,19,20,21,26,27,28] false++VP)) (n:=300) ⟨?_⟩ fun w' y hB hy=>⟨hB,.inr (.inr ⟨rfl,iB _ _,y,rfl,hy⟩)⟩;rw [P2];simp only [ah,cX,az,hx,g',d1,d2,d0,η,ht,hb,Wy,VV,VX,VW];repeat' apply And.intro
   all_goals first | exact hp | exact hs | exact k0 | skip
  ·rw [u] at Z0 η;rw [Z0,if_pos rfl];refine kL qA aE (rn:=[]) (v:=.tuple #[.slice none 0 0,.int .i64 22]) (o:=(ff [4,5,6,8,9,10,14,15,16,18,19,20,21] true++ff [0,1,2,3,7,11,12,13,17,22] false++VP)) (n:=300) ⟨?_⟩ fun w' hB=>⟨hB,.inl ⟨by show (22:Int)≠0;decide,rfl⟩⟩;rw [PL (m:=[]) (k:=0)];simp only [ah,g',d1,d2,d0,η,hd,hb,Wy,VV,VX,VW];repeat' apply And.intro
   all_goals first | exact hp | exact hs | skip
end
abbrev cp:=ax × Nat
def mI (e:cp):SV × SV × Nat:=(.v (.string e.1.p),.agg [.v (.int .i64 e.1.k),.v (.slice e.1.a e.1.l e.1.c)],e.2)
def cU (e:cp):SV:=.agg [.v (.int .i64 e.1.k),.v (.slice e.1.a e.1.l e.1.c)]
structure dO (E:List cp) (cl:Nat):Prop where
 names:(E.map fun e=>e.1.p).Nodup
 Zw:(E.map fun e=>e.2).Nodup
 born:∀ e∈E,e.2<cl
 full:∀ e∈E,e.1.p≠⟨#[]⟩
 size:∀ e∈E,e.1.p.size<=1000000000
theorem Lh {x y:cp} (h:mI x=mI y):x=y:=by
 obtain ⟨⟨p,k,a,l,c⟩,n⟩:=x;obtain ⟨⟨p',k',a',l',c'⟩,n'⟩:=y;simp only [mI,Prod.mk.injEq,SV.v.injEq,Value.string.injEq,SV.agg.injEq,List.cons.injEq,Value.int.injEq,Value.slice.injEq,VW,VX] at h;obtain ⟨h1,⟨h3,h4,h5,h6⟩,h7⟩:=h;subst h1 h3 h4 h5 h6 h7;rfl
theorem kJ {E:List cp} (hb:(E.map fun e=>e.2).Nodup) {x:cp} (hx:x∈E):(E.map mI).find? (fun e=>Nat.beq e.2.2 x.2)=some (mI x):=by
 induction E with
 | nil=>cases hx
 | cons y E ih=>
  rw [WD,X5];rw [WD,W3] at hb;by_cases h:y.2=x.2
  ·have hq:Nat.beq (mI y).2.2 x.2=true:=by show Nat.beq y.2 x.2=true;rw [h];simp
   rw [hq];rcases V8.1 hx with rfl | hx
   ·rfl
   ·exact absurd (Wc.2 ⟨x,hx,h.symm⟩) hb.1
  ·have hq:Nat.beq (mI y).2.2 x.2=false:=by
    show Nat.beq y.2 x.2=false;rw [XA];intro e;exact h (WK e)
   rw [hq];rcases V8.1 hx with rfl | hx
   ·exact absurd rfl h
   ·exact ih hb.2 hx
theorem Ju {E:List cp} (hn:(E.map fun e=>e.1.p).Nodup) {f:cp} (hf:f∈E):∃ j,D5 (E.map mI) f.1.p j (cU f) f.2:=by
 obtain ⟨j,hj⟩:=WZ hf;refine ⟨j,fun e he=>?_,by rw [Wv,hj];rfl⟩;rw [<- List.map_take] at he;obtain ⟨y,hy,rfl⟩:=Wc.1 he;refine ⟨y.1.p,rfl,?_⟩;rw [XA];intro h;obtain ⟨i,hi⟩:=WZ hy
 have YR:i<j:=by
  have:=(WA.1 hi).1;rw [WW] at this;omega
 rw [WO,if_pos YR] at hi
 have η:f.1.p=y.1.p:=by
  have:(f.1.p.data==y.1.p.data)=true:=h;have:=Yv this;cases hfp:f.1.p;cases hyp:y.1.p;rw [hfp,hyp] at this;cases this;rfl
 have:=iw hn hi hj η.symm;omega
theorem cH (E:List cp):((E.map mI).all fun e=>aw e.1&&aw e.2.1)=true:=by
 rw [Wn];intro x hx;obtain ⟨y,_,rfl⟩:=Wc.1 hx;rfl
theorem mV {E:List cp} {seen:List Nat} {e:cp} {n:Nat} (he:e∈E) (hs:seen.contains e.2=false) (h:(E.filter fun x=>!seen.contains x.2).length<=n+1):(E.filter fun x=>!(seen++[e.2]).contains x.2).length<=n:=by
 have YR:(E.filter fun x=>!(seen++[e.2]).contains x.2).length<(E.filter fun x=>!seen.contains x.2).length:=by
  have h1:(E.filter fun x=>!(seen++[e.2]).contains x.2)=(E.filter fun x=>!seen.contains x.2).filter fun x=>!(x.2==e.2):=by
   rw [List.filter_filter];congr 1;funext x;cases h1:(x.2==e.2) <;> cases h2:seen.contains x.2 <;> simp_all
  rw [h1];refine Xm.2 ⟨e,Wo.2 ⟨he,by show (!seen.contains e.2)=true;rw [hs];rfl⟩,by simp⟩
 omega
theorem eY {p:ByteArray} {e:ax}:pI p e=true↔e.p=p:=by
 unfold pI;rw [Xp];constructor
 ·intro h;cases h1:e.p;cases p;rw [h1] at h;congr 1;exact Array.toList_inj.1 h
 ·intro h;rw [h]
abbrev Fy:=ByteArray × Int × List Int
def oj (c:ax->List Int) (e:ax):Fy:=(e.p,e.k,c e)
def lx (c:ax->List Int) (e:cp):Fy:=oj c e.1
def ud (p:ByteArray) (K:List Fy):List Fy:=K.filter fun k=>!(k.1.data.toList==p.data.toList)
def fI (xs:List ax):Prop:=xs.Pairwise fun a b=>dr a.p b.p<0
theorem vK {ys:ax->List Int} (p:ByteArray) (xs:List ax):(ch p xs).map (oj ys)=ud p (xs.map (oj ys)):=by
 unfold ch ud;rw [List.filter_map];rfl
theorem ke {p:ByteArray} {e:ax}:pI p e=false↔e.p≠p:=by
 rw [<- Bool.not_eq_true,eY]
theorem fI.names {xs:List ax} (h:fI xs):(xs.map fun e=>e.p).Nodup:=by
 unfold fI at h;rw [List.nodup_iff_pairwise_ne,Yk];exact h.imp fun {a b} hab e=>by rw [e,ji] at hab;exact absurd hab (by decide)
structure dM (cm ys:ax->List Int) (E:List cp) (cl:Nat) (xs:List ax):Prop where
 ok:dO E cl
 ZP:(E.map (lx cm)).Perm (xs.map (oj ys))
 sorted:fI xs
 Y2:xs.length<=128
 kind:∀ e∈xs,e.k≠0
section
variable {E:List cp} {cl:Nat} {xs:List ax} {x:ax} {cm ys:ax->List Int}
theorem dM.len (h:dM cm ys E cl xs):E.length=xs.length:=by simpa using h.ZP.length_eq
theorem dM.to (h:dM cm ys E cl xs) {e:ax} (he:e∈xs):∃ f∈E,lx cm f=oj ys e:=by
 have:=h.ZP.mem_iff.2 (Wc.2 ⟨e,he,rfl⟩);exact Wc.1 this
theorem dM.of (h:dM cm ys E cl xs) {f:cp} (hf:f∈E):∃ e∈xs,oj ys e=lx cm f:=by
 have:=h.ZP.mem_iff.1 (Wc.2 ⟨f,hf,rfl⟩);exact Wc.1 this
theorem lA {f:cp} {e:ax} (h:lx cm f=oj ys e):f.1.p=e.p/\f.1.k=e.k:=by
 simp only [lx,oj,Prod.mk.injEq] at h;exact ⟨h.1,h.2.1⟩
theorem GF {f:cp} {e:ax} (h:lx cm f=oj ys e):cm f.1=ys e:=by
 simp only [lx,oj,Prod.mk.injEq] at h;exact h.2.2
theorem dM.size (h:dM cm ys E cl xs):∀ e∈xs,e.p.size<=1000000000:=fun e he=>by
 obtain ⟨f,hf,hk⟩:=h.to he
 rw [<- (lA hk).1];exact h.ok.size f hf
theorem B2 (hB:dO E cl) {f g:cp} (hf:f∈E) (hg:g∈E) (h:f.1.p=g.1.p):f=g:=by
 obtain ⟨i,hi⟩:=WZ hf;obtain ⟨j,hj⟩:=WZ hg;have:=iw hB.names hi hj h;subst this;rw [hi] at hj;exact Option.some.inj hj
theorem dM.cr (h:dM cm ys E cl xs) (hm:∀ f∈E,f.1.p≠x.p):∀ e∈xs,e.p≠x.p:=fun e he=>by
 obtain ⟨f,hf,hk⟩:=h.to he
 rw [<- (lA hk).1];exact hm f hf
theorem nF {p:ByteArray} (hm:∀ e∈xs,e.p≠p):aO p xs=⟨p,0,none,0,0⟩/\ch p xs=xs:=by
 constructor
 ·unfold aO;rw [WY.2 fun e he=>by rw [ke.2 (hm e he)];simp];rfl
 ·exact XO.2 fun e he=>by rw [ke.2 (hm e he)];rfl
theorem jl (x:ax):∀ l:List ax,(gL x l).Perm (x::l)
 | []=>List.Perm.refl _
 | e::l=>by
  unfold gL
  split
  ·exact List.Perm.refl _
  ·exact ((jl x l).cons e).trans (List.Perm.swap x e l)
theorem qK:∀ {l:List ax},fI l->(∀ e∈l,e.p≠x.p)->fI (gL x l)
 | [],_,_=>by simp [gL,fI]
 | e::l,h,hx=>by
  unfold fI at h
  rw [W0] at h
  unfold gL
  split
  ·rename_i hc
   have h0:dr x.p e.p<0:=by rw [fB];omega
   unfold fI
   rw [W0,W0]
   refine ⟨fun b hb=>?_,h⟩
   rcases V8.1 hb with rfl | hb
   ·exact h0
   ·exact ij h0 (h.1 b hb)
  ·rename_i hc
   have h1:dr e.p x.p≠0:=fun h0=>hx e Wi (gZ h0)
   unfold fI
   rw [W0]
   refine ⟨fun b hb=>?_,qK h.2 fun z hz=>hx z (Wb _ hz)⟩
   rcases V8.1 ((jl x l).mem_iff.1 hb) with rfl | hb
   ·omega
   ·exact h.1 b hb
theorem fI.drop (h:fI xs) (p:ByteArray):fI (ch p xs):=List.Pairwise.sublist Yf h
theorem Ho {p:ByteArray}:∀ e∈ch p xs,e.p≠p:=fun e he=>by
 have:=(Wo.1 he).2
 exact ke.1 (by simpa using this)
theorem lO:∀ {E:List cp} {j:Nat} {f:cp},(E.map fun e=>e.1.p).Nodup->E[j]?=some f->(E.eraseIdx j).map (lx cm)=ud f.1.p (E.map (lx cm))
 | [],j,f,_,h=>by simp at h
 | a::l,0,f,hn,h=>by
  simp at h;subst h
  rw [WD,W3] at hn
  unfold ud
  rw [List.eraseIdx_cons_zero,WD,X0 (by simp [lx,oj])]
  refine (XO.2 fun k hk=>?_).symm
  obtain ⟨g,hg,rfl⟩:=Wc.1 hk
  have:g.1.p≠a.1.p:=fun e=>hn.1 (Wc.2 ⟨g,hg,e⟩)
  have:=ke.2 this
  unfold pI at this
  show (!(g.1.p.data.toList==a.1.p.data.toList))=true
  rw [this];rfl
 | a::l,j+1,f,hn,h=>by
  rw [WD,W3] at hn
  have hf:l[j]?=some f:=by simpa using h
  have ih:=lO hn.2 hf
  have Zx:=Xi hf
  have:a.1.p≠f.1.p:=fun e=>hn.1 (Wc.2 ⟨f,Zx,e.symm⟩)
  have:=ke.2 this
  unfold pI at this
  unfold ud at ih ⊢
  rw [List.eraseIdx_cons_succ,WD,WD,ih,XZ (by show (!(a.1.p.data.toList==f.1.p.data.toList))=true;rw [this];rfl)]
theorem dO.sub {E':List cp} (h:dO E cl) (hs:E'.Sublist E):dO E' cl:=
 ⟨h.names.sublist (hs.map _),h.Zw.sublist (hs.map _),fun e he=>h.born e (hs.mem he),fun e he=>h.full e (hs.mem he),fun e he=>h.size e (hs.mem he)⟩
theorem dO.snoc (h:dO E cl) {y:ax} (hm:∀ e∈E,e.1.p≠y.p) (hf:y.p≠⟨#[]⟩) (hz:y.p.size<=1000000000):dO (E++[(y,cl)]) (cl+1):=by
 refine ⟨?_,?_,fun e he=>?_,fun e he=>?_,fun e he=>?_⟩
 ·rw [Wq,Xx];refine ⟨h.names,by simp,fun a ha b hb=>?_⟩;obtain ⟨e,he,rfl⟩:=Wc.1 ha;have:b=y.p:=by simpa using hb
  rw [this];exact hm e he
 ·rw [Wq,Xx];refine ⟨h.Zw,by simp,fun a ha b hb=>?_⟩;obtain ⟨e,he,rfl⟩:=Wc.1 ha;have:b=cl:=by simpa using hb
  have:=h.born e he;omega
 ·rcases WJ.1 he with he | he
  ·have:=h.born e he;omega
  ·have:e=(y,cl):=by simpa using he
   subst this;show cl<cl+1;omega
 ·rcases WJ.1 he with he | he
  ·exact h.full e he
  ·have:e=(y,cl):=by simpa using he
   subst this;exact hf
 ·rcases WJ.1 he with he | he
  ·exact h.size e he
  ·have:e=(y,cl):=by simpa using he
   subst this;exact hz
theorem dO.mod (h:dO E cl) {j:Nat} {f:cp} {y:ax} (hf:E[j]?=some f) (hp:y.p=f.1.p):dO (E.modify j fun e=>(y,e.2)) cl:=by
 have Zx:=Xi hf;refine ⟨?_,?_,fun e he=>?_,fun e he=>?_,fun e he=>?_⟩
 ·rw [jn hf (by exact hp)];exact h.names
 ·rw [jn hf (by rfl)];exact h.Zw
 ·rcases eU hf he with rfl | he
  ·exact h.born f Zx
  ·exact h.born e he
 ·rcases eU hf he with rfl | he
  ·show y.p≠_;rw [hp];exact h.full f Zx
  ·exact h.full e he
 ·rcases eU hf he with rfl | he
  ·show y.p.size<=_;rw [hp];exact h.size f Zx
  ·exact h.size e he
theorem dM.cont {cm':ax->List Int} (h:dM cm ys E cl xs) (hc:∀ e∈E,cm e.1=cm' e.1):dM cm' ys E cl xs:=
 ⟨h.ok,by
  have:E.map (lx cm')=E.map (lx cm):=XB fun e he=>by unfold lx oj;rw [hc e he]
  rw [this];exact h.ZP,h.sorted,h.Y2,h.kind⟩
theorem dM.pj (h:dM cm ys E cl xs) {f:cp} (hf:f∈E):(aO f.1.p xs).k=f.1.k/\(ch f.1.p xs).length<xs.length/\∃ e∈xs,aO f.1.p xs=e/\oj ys e=lx cm f:=by
 obtain ⟨e,he,hk⟩:=h.of hf;have he2:pI f.1.p e=true:=eY.2 (lA hk.symm).1.symm
 have hfe:xs.find? (pI f.1.p)=some e:=by
  cases hq:xs.find? (pI f.1.p) with
  | none=>rw [WY] at hq;exact absurd he2 (hq e he)
  | some e'=>
   have h1:=WV hq;have h2:=eY.1 (Xr hq);have hn:=h.sorted.names;have h3:=eY.1 he2;obtain ⟨i,hi⟩:=WZ h1;obtain ⟨j,hj⟩:=WZ he;have:=iw hn hi hj (by rw [h2,h3]);subst this;rw [hi] at hj;exact hj
 have hfi:aO f.1.p xs=e:=by unfold aO;rw [hfe];rfl
 refine ⟨by rw [hfi];exact (lA hk.symm).2.symm,Xm.2 ⟨e,he,by rw [he2];simp⟩,e,he,hfi,hk⟩
theorem dM.sT (h:dM cm ys E cl xs):(E.map fun e=>e.1.p).Perm (xs.map fun e=>e.p):=by
 have:=h.ZP.map (fun k:Fy=>k.1);rw [WI,WI] at this;exact this
theorem dM.new {E':List cp} {cl':Nat} {L:List ax} (hB:dO E' cl') (ht:(E'.map (lx cm)).Perm (oj ys x::L.map (oj ys))) (hs:fI L) (hx:∀ e∈L,e.p≠x.p) (hl:L.length<128) (hk:∀ e∈L,e.k≠0) (hxk:x.k≠0):dM cm ys E' cl' (gL x L):=
 ⟨hB,ht.trans (((jl x L).map (oj ys)).symm),qK hs hx,by rw [ou];omega,fun e he=>by
  rcases V8.1 ((jl x L).mem_iff.1 he) with rfl | h
  ·exact hxk
  ·exact hk e h⟩
end
theorem nG (o:Nat) (b:Nat × Nat):∀ E:List cp,dJ o b (E.map mI)=E.map mI
 | []=>rfl
 | e::E=>by
  show _::dJ o b (E.map mI)=_
  rw [nG o b E];rfl
theorem aV {o:Nat} {b:Nat × Nat} {E:List cp} {y:ax} {k v:SV} {n:Nat} (h:(k,oi o b v,n)=mI (y,n)):dJ o b (E.map mI++[(k,v,n)])=(E++[(y,n)]).map mI:=by
 unfold dJ;rw [Wq,Wq];have:=nG o b E;unfold dJ at this;rw [this,WD,WD,h];rfl
theorem dX {g:SV × SV × Nat->SV × SV × Nat} {g':cp->cp} (h:∀ e,g (mI e)=mI (g' e)):∀ (E:List cp) (j:Nat),(E.map mI).modify j g=(E.modify j g').map mI
 | [],j=>by simp
 | e::E,0=>by simp [h]
 | e::E,j+1=>by simp [dX h E j]
theorem cJ {o:Nat} {b:Nat × Nat} {g:SV × SV × Nat->SV × SV × Nat} {g':cp->cp} (h:∀ e,((g (mI e)).1,oi o b (g (mI e)).2.1,(g (mI e)).2.2)=mI (g' e)):∀ (E:List cp) (j:Nat),dJ o b ((E.map mI).modify j g)=(E.modify j g').map mI
 | [],j=>by simp [dJ]
 | e::E,0=>by
  simp only [WD,List.modify_zero_cons]
  show _::dJ o b (E.map mI)=_
  rw [nG]
  exact congrArg (·::E.map mI) (h e)
 | e::E,j+1=>by
  simp only [WD,Ym]
  show _::dJ o b ((E.map mI).modify j g)=_
  rw [cJ h E j];rfl
theorem pA {E:List cp} (hn:(E.map fun e=>e.1.p).Nodup) {f:cp} (hf:f∈E):∃ j,D5 (E.map mI) f.1.p j (cU f) f.2/\E[j]?=some f:=by
 obtain ⟨j,hj⟩:=Ju hn hf;refine ⟨j,hj,?_⟩;have h2:=hj.2;rw [Wv] at h2;obtain ⟨g,hg,h3⟩:=Wg.1 h2;rw [hg,Lh (h3:mI g=mI f)]
theorem kj {E:List cp} {p:ByteArray} (hm:∀ e∈E,e.1.p≠p):∀ e∈E.map mI,a8 p e.1:=fun e he=>by
 obtain ⟨y,hy,rfl⟩:=Wc.1 he
 refine ⟨y.1.p,rfl,?_⟩
 rw [XA];intro h
 refine hm y hy ?_
 have:(p.data==y.1.p.data)=true:=h
 have:=Yv this
 cases hfp:p;cases hyp:y.1.p;rw [hfp,hyp] at this;cases this;rfl
theorem dx (x:ax) (l:List ax):gL x l≠[]:=fun h=>by
 have:=ou x l
 rw [h] at this;simp at this
theorem A9 {cm:ax->List Int} {E:List cp} {y:ax} {n:Nat}:((E++[(y,n)]).map (lx cm)).Perm (oj cm y::E.map (lx cm)):=by
 rw [Wq];exact List.perm_append_comm
def dF (H:Hp) (e:ax) (zs:List Int):Prop:=(e.a=none/\e.l=0/\zs=[])\/∃ b rest,e.a=some ⟨b,0,none⟩/\H b=some (.cells ((zs.map (Value.int .u8))++rest).toArray 5 (0,0))/\zs.length=e.l
def k7 (H:Hp) (e:ax):List Int:=match e.a with
 | none=>[]
 | some a=>match H a.1 with
  | some (.cells c _ _)=>(c.toList.take e.l).map Np
  | _=>[]
theorem dF.cont {H:Hp} {e:ax} {zs:List Int} (h:dF H e zs):k7 H e=zs:=by
 unfold k7;rcases h with ⟨h1,_,rfl⟩ | ⟨b,rest,h1,h2,h3⟩
 ·rw [h1]
 ·rw [h1];dsimp only;rw [h2];dsimp only;rw [XG (by simp [h3]),We (by simp [h3]),WI];exact List.map_id' zs
theorem dF.mono {H H':Hp} {e:ax} {zs:List Int} (h:dF H e zs) (hs:H.Sub H'):dF H' e zs:=by
 rcases h with h | ⟨b,rest,h1,h2,h3⟩
 ·exact .inl h
 ·exact .inr ⟨b,rest,h1,hs _ _ h2,h3⟩
def vw (w0:World) (e:ax):Prop:=∀ a,e.a=some a->w0.heap.size<=a.block
theorem yY {x e:ax} {p:ByteArray} {xs:List ax} (h:e∈gL x (ch p xs)):e=x\/e∈xs:=by
 rcases V8.1 ((jl x _).mem_iff.1 h) with h | h
 ·exact .inl h
 ·exact .inr (Wo.1 h).1
theorem jk {x e:ax} {xs:List ax} (h:e∈gL x xs):e=x\/e∈xs:=V8.1 ((jl x _).mem_iff.1 h)
def QF:List (FuncId × Sum):=[(112,wR)]
def ee:Env:={ EP [] [] with Y7:=fun f=>QF.lookup f }
def tw:Option (SO × Bool):=some (.row [.map 1] 96 (0,0) none,false)
theorem qQ {M0 M:Own} {w00 w0:World} (hM:∀ z,¬ M0 z) (hB:dh M0 w00 M w0) (hX:MX w00):aK ee M w0:=
 aK.uS (Checked.mixed Tryz.checked) (by kernel_rfl) (fk.of iI rfl dK) (dz.Km (X:=MX) (l:=QF) rfl (fun r h=>by
  simp only [QF,V8,Ww,Xc] at h
  rcases h with rfl
  exact F9) fun ν s w hr _=>hX.keep fun k hk=>(hr.frame k (Wz hk hB.size) (hB.frame k hk (hM k)).2).trans (hB.frame k hk (hM k)).1) (fun f g h=>by cases h)
def L9:SV:=.func (.func 106) [] [.ptr 2 0]
def AU (es:VQ) (cl:Nat):SM:=(a6 ee 90 [.ptr 0 0,L9] (bG 6 3 0 [tw,xu es cl,cv []])).getD dn
def Iq:List SI:=dB ee 2 60 (AU [] 0) VP
def qW (x:SV):SF:={ fn:=90,tm:=fh 27 5 ([.ptr 0 0,L9,.aH,.aH,x,.aH,.aH,.aH,.aH,.aH,.aH,.aH,.ptr 3 0]++List.replicate 14 .aH),todo:=Iq,defers:=[],ret:=false,kind:=.normal,ro:=none }
def rC (es:VQ) (cl:Nat) (seen:List Nat):List (Option (SO × Bool)):=[tw,xu es cl,cv [],some (.miter (some 1) cl seen cl,true)]
def rD (es:VQ) (cl:Nat) (seen:List Nat) (m:List SV):List (Option (SO × Bool)):=[tw,xu es cl,cv [],some (.miter (some 1) cl seen cl,true),oM m]
def Jh (es:VQ) (cl:Nat) (seen:List Nat):SM:=SM.at (qW bZ) 6 (rC es cl seen)
def Jf (es:VQ) (cl:Nat) (seen:List Nat) (m:List SV) (k:Nat):SM:=SM.at (qW (.sl 4 0 k none)) 6 (rD es cl seen m)
def sr (es:VQ) (cl:Nat) (seen:List Nat):SM:=(pd ee (j1 ee) 30 ((Jh es cl seen).with VP)).getD dn
def DZ (es:VQ) (cl:Nat) (seen:List Nat) (e:SV × SV × Nat):SM:=(k8 ee (sr es cl seen) e).getD dn
def ID (es:VQ) (cl:Nat) (seen:List Nat):SM:=(lj ee (sr es cl seen)).getD dn
theorem F6 (es:VQ) (cl:Nat) (seen:List Nat):pd ee (j1 ee) 30 ((Jh es cl seen).with VP)=some (sr es cl seen):=by kernel_rfl
theorem JG (es:VQ) (cl:Nat) (seen:List Nat):ow ee (sr es cl seen)=some (3,1,cl,seen,cl,es,cl):=by kernel_rfl
theorem GU (es:VQ) (cl:Nat) (seen:List Nat):(sr es cl seen).mem.Zn=[]:=by kernel_rfl
theorem IE (es:VQ) (cl:Nat) (seen:List Nat) (e:SV × SV × Nat):k8 ee (sr es cl seen) e=some (DZ es cl seen e):=by kernel_rfl
theorem Jj (es:VQ) (cl:Nat) (seen:List Nat) (e:SV × SV × Nat):(DZ es cl seen e).mem.Zn=[]:=by kernel_rfl
theorem Jy (es:VQ) (cl:Nat) (seen:List Nat):lj ee (sr es cl seen)=some (ID es cl seen):=by kernel_rfl
theorem Jc (es:VQ) (cl:Nat) (seen:List Nat):(ID es cl seen).mem.Zn=[]:=by kernel_rfl
def IU (e:cp):List (Nat × gM):=[(0,.b true),(1,.ent (.v (.string e.1.p)) (cU e))]
def Jr (es:VQ) (cl:Nat) (seen:List Nat) (e:cp) (d:Bool):SM:=dA ee 106 60 (DZ es cl seen (mI e)) (IU e) (.v (.bool d))
def tg (es:VQ) (cl:Nat) (seen:List Nat) (m:List SV) (k:Nat):SM:=(pd ee (j1 ee) 30 ((Jf es cl seen m k).with VP)).getD dn
def DQ (es:VQ) (cl:Nat) (seen:List Nat) (m:List SV) (k:Nat) (e:SV × SV × Nat):SM:=(k8 ee (tg es cl seen m k) e).getD dn
def J2 (es:VQ) (cl:Nat) (seen:List Nat) (m:List SV) (k:Nat):SM:=(lj ee (tg es cl seen m k)).getD dn
theorem G7 (es:VQ) (cl:Nat) (seen:List Nat) (m:List SV) (k:Nat):pd ee (j1 ee) 30 ((Jf es cl seen m k).with VP)=some (tg es cl seen m k):=by kernel_rfl
theorem Iz (es:VQ) (cl:Nat) (seen:List Nat) (m:List SV) (k:Nat):ow ee (tg es cl seen m k)=some (3,1,cl,seen,cl,es,cl):=by kernel_rfl
theorem Gk (es:VQ) (cl:Nat) (seen:List Nat) (m:List SV) (k:Nat):(tg es cl seen m k).mem.Zn=[]:=by kernel_rfl
theorem I9 (es:VQ) (cl:Nat) (seen:List Nat) (m:List SV) (k:Nat) (e:SV × SV × Nat):k8 ee (tg es cl seen m k) e=some (DQ es cl seen m k e):=by kernel_rfl
theorem Jp (es:VQ) (cl:Nat) (seen:List Nat) (m:List SV) (k:Nat) (e:SV × SV × Nat):(DQ es cl seen m k e).mem.Zn=[]:=by kernel_rfl
theorem I0 (es:VQ) (cl:Nat) (seen:List Nat) (m:List SV) (k:Nat):lj ee (tg es cl seen m k)=some (J2 es cl seen m k):=by kernel_rfl
theorem Jl (es:VQ) (cl:Nat) (seen:List Nat) (m:List SV) (k:Nat):(J2 es cl seen m k).mem.Zn=[]:=by kernel_rfl
def IV (e:cp):List (Nat × gM):=[(0,.b true),(1,.ent (.v (.string e.1.p)) (cU e))]
def Io (es:VQ) (cl:Nat) (seen:List Nat) (m:List SV) (k:Nat) (e:cp) (d:Bool):SM:=dA ee 106 60 (DQ es cl seen m k (mI e)) (IV e) (.v (.bool d))
theorem O8 (es:VQ) (cl:Nat):reach ee 2 60 (AU es cl) VP [(0,0),(1,1),(2,2),(3,3)] [1] (qW bZ) 6 (rC es cl [])=[0=0,Fn.func 106=Fn.func 106,0=0,VT none 0 0=VT none 0 0,0=0,cl=cl,es=es,(es.all fun e=>aw e.fst&&aw e.snd.fst)=true,(match false with | true=>some 0 | false=>List.lookup 1 [(1,1),(2,2),(3,3)])=some 1,cl=cl,([]:List Nat)=[],cl=cl]:=by kernel_rfl
theorem NH (es:VQ) (cl:Nat) (seen:List Nat) (e:cp):dS ee 106 60 (DZ es cl seen (mI e)) (IU e)=[∃ YN b,(seen++[(mI e).snd.snd]).getLast?=some YN/\cl=cl/\List.find? (fun e=>e.snd.snd.beq YN) es=some (SV.v (VS e.fst.p),cU e,b),true=true]:=by kernel_rfl
theorem Nu (es:VQ) (cl:Nat) (seen:List Nat) (e:cp) (d:Bool):dT ee 106 60 (DZ es cl seen (mI e)) (IU e) (.v (.bool d))=[∃ YN b,(seen++[(mI e).snd.snd]).getLast?=some YN/\cl=cl/\List.find? (fun e=>e.snd.snd.beq YN) es=some (SV.v (VS e.fst.p),cU e,b),true=true]:=by kernel_rfl
theorem Nn (es:VQ) (cl:Nat) (seen:List Nat) (e:cp):reach ee 2 60 (Jr es cl seen e false) (ff [0] false) [(0,0),(1,1),(2,2),(3,3)] [1] (qW bZ) 6 (rC es cl (seen++[e.2]))=[0=0,Fn.func 106=Fn.func 106,0=0,VT none 0 0=VT none 0 0,0=0,cl=cl,es=es,(es.all fun e=>aw e.fst&&aw e.snd.fst)=true,(match false with | true=>some 0 | false=>List.lookup 1 [(1,1),(2,2),(3,3)])=some 1,cl=cl,seen++[(mI e).snd.2]=seen++[e.2],cl=cl,false=false]:=by kernel_rfl
theorem Oz (es:VQ) (cl:Nat) (seen:List Nat) (e:cp) (m':List SV):reach ee 2 60 (Jr es cl seen e true) (ff [0] true++ff [1] false) [(0,0),(1,1),(2,2),(3,3),(4,5)] [1,4] (qW (.sl 4 0 1 none)) 6 (rD es cl (seen++[e.2]) m')=[0=0,Fn.func 106=Fn.func 106,0=0,0=0/\1=1/\nZ=none,0=0,cl=cl,es=es,(es.all fun e=>aw e.fst&&aw e.snd.fst)=true,(match false with | true=>some 0 | false=>List.lookup 1 [(1,1),(2,2),(3,3),(4,5)])=some 1,cl=cl,seen++[(mI e).snd.2]=seen++[e.2],cl=cl,[]++List.take 1 (List.drop 0 (aQ (List.replicate 1 (List.map SV.v [VS ⟨⟨[]⟩⟩])).flatten 0 [SV.v (VS e.fst.1)]))=m',m'.all ab=true,false=false,true=true]:=by kernel_rfl
theorem NG (es:VQ) (cl:Nat) (seen:List Nat) (m:List SV) (k:Nat) (e:cp):dS ee 106 60 (DQ es cl seen m k (mI e)) (IV e)=[∃ YN b,(seen++[(mI e).snd.snd]).getLast?=some YN/\cl=cl/\List.find? (fun e=>e.snd.snd.beq YN) es=some (SV.v (VS e.fst.p),cU e,b),true=true]:=by kernel_rfl
theorem NQ (es:VQ) (cl:Nat) (seen:List Nat) (m:List SV) (k:Nat) (e:cp) (d:Bool):dT ee 106 60 (DQ es cl seen m k (mI e)) (IV e) (.v (.bool d))=[∃ YN b,(seen++[(mI e).snd.snd]).getLast?=some YN/\cl=cl/\List.find? (fun e=>e.snd.snd.beq YN) es=some (SV.v (VS e.fst.p),cU e,b),true=true]:=by kernel_rfl
theorem OB (es:VQ) (cl:Nat) (seen:List Nat) (m:List SV) (k:Nat) (e:cp):reach ee 2 60 (Io es cl seen m k e false) (ff [0] false) [(0,0),(1,1),(2,2),(3,3),(4,4)] [1,4] (qW (.sl 4 0 k none)) 6 (rD es cl (seen++[e.2]) m)=[0=0,Fn.func 106=Fn.func 106,0=0,0=0/\k=k/\nZ=none,0=0,cl=cl,es=es,(es.all fun e=>aw e.fst&&aw e.snd.fst)=true,(match false with | true=>some 0 | false=>List.lookup 1 [(1,1),(2,2),(3,3),(4,4)])=some 1,cl=cl,seen++[(mI e).snd.2]=seen++[e.2],cl=cl,m=m,m.all ab=true,false=false]:=by kernel_rfl
theorem N6 (es:VQ) (cl:Nat) (seen:List Nat) (m w m':List SV) (k:Nat) (e:cp):reach ee 2 60 (Io es cl seen m k e true) [(0,.b true),(1,.app m w)] [(0,0),(1,1),(2,2),(3,3),(4,6)] [1,4] (qW (.sl 4 0 (k+1) none)) 6 (rD es cl (seen++[e.2]) m')=[0=0,Fn.func 106=Fn.func 106,0=0,0=0/\k+1=k+1/\nZ=none,0=0,cl=cl,es=es,(es.all fun e=>aw e.fst&&aw e.snd.fst)=true,(match false with | true=>some 0 | false=>List.lookup 1 [(1,1),(2,2),(3,3),(4,6)])=some 1,cl=cl,seen++[(mI e).snd.2]=seen++[e.2],cl=cl,m++w=m',m'.all ab=true,((List.take 1 (List.drop 0 (aQ (List.replicate 1 (List.map SV.v [VS ⟨⟨[]⟩⟩])).flatten 0 [SV.v (VS e.fst.1)]))=w/\w.length=1*1)/\1≠0/\(2*(k+1)+1024)*16<=140737488355328)/\List.take (k*1) m=m/\m.length=k*1/\w.all SV.flat=true,true=true]:=by kernel_rfl
theorem Kx (es:VQ) (cl:Nat) (seen:List Nat):ao ee 90 60 (ID es cl seen) VP (.slice none 0 0)=[VT none 0 0=VT none 0 0,VT none 0 0=VT none 0 0/\Value.func (Fn.func 89) { toList:=[]:Array Value } { toList:=[]:Array Value }=Value.func (Fn.func 89) { toList:=[]:Array Value } { toList:=[]:Array Value }]:=by kernel_rfl
theorem Ks (es:VQ) (cl:Nat) (seen:List Nat) (m m':List SV) (k:Nat):bY ee 90 60 (J2 es cl seen m k) VP (.sl 4 0 k none) 4 (.row m' 9 (0,0) (some 1))=[0=0/\k=k/\nZ=none,strs (bA (e9 m))=m',m'.all ab=true,m=strs (e9 m)/\k=(e9 m).length/\Aq (e9 m)/\9=9/\(0,0)=(0,0)/\1=1/\Value.func (Fn.func 89) { toList:=[]:Array Value } { toList:=[]:Array Value }=Value.func (Fn.func 89) { toList:=[]:Array Value } { toList:=[]:Array Value }]:=by kernel_rfl
def fy (b:Nat):Value:=.pointer (some ⟨b,0,none⟩)
def zU (e:cp):MapEntry:={ key:=.string e.1.p,val:=.agg #[.int .i64 e.1.k,.slice e.1.a e.1.l e.1.c],born:=e.2 }
theorem o8 {ν:aP}:∀ E:List cp,eI ν (E.map mI) (E.map zU)
 | []=>rfl
 | e::E=>⟨zU e,E.map zU,rfl,VR.ae.2 rfl,VR.bx.2 ⟨_,rfl,au.lits ν [.int .i64 e.1.k,.slice e.1.a e.1.l e.1.c]⟩,rfl,o8 E⟩
theorem rU {ν:aP}:∀ {E:List cp} {l:List MapEntry},eI ν (E.map mI) l->l=E.map zU
 | [],_,h=>h
 | e::E,_,h=>by
  obtain ⟨z,zs,rfl,h1,h2,h3,h4⟩:=h
  have e1:z.key=.string e.1.p:=VR.ae.1 h1
  obtain ⟨a,hq,ha⟩:=VR.bx.1 h2
  have e2:a=[.int .i64 e.1.k,.slice e.1.a e.1.l e.1.c]:=gi ha (au.lits ν [.int .i64 e.1.k,.slice e.1.a e.1.l e.1.c])
  subst e2
  rw [rU h4,WD]
  congr 1
  cases z;simp only at e1 hq h3;subst e1 hq;rw [<- h3];rfl
structure kK (w:World) (b m:Nat) (E:List cp) (cl:Nat):Prop where
 row:w.heap[b]?=some (.cells #[.map (some m)] 96 (0,0))
 map:w.heap[m]?=some (.map (E.map zU).toArray cl)
theorem yy {E:List cp} (hb:(E.map fun e=>e.2).Nodup) {x:cp} (hx:x∈E) {seen:List Nat} (hs:seen.contains x.2=false):(E.filter fun y=>(seen++[x.2]).contains y.2).Perm ((E.filter fun y=>seen.contains y.2)++[x]):=by
 induction E with
 | nil=>cases hx
 | cons y E ih=>
  rw [WD,W3] at hb
  have hc:∀ z:cp,(seen++[x.2]).contains z.2=(seen.contains z.2||(z.2==x.2)):=fun z=>by
   rw [Yg];simp [W5,XM]
  by_cases hyx:y.2=x.2
  ·have hyE:∀ z∈E,(z.2==x.2)=false:=fun z hz=>by
    rw [Wr];intro h;exact hb.1 (Wc.2 ⟨z,hz,by rw [h,hyx]⟩)
   have hye:y=x:=by
    rcases V8.1 hx with h | h
    ·exact h.symm
    ·exact absurd (Wc.2 ⟨x,h,hyx.symm⟩) hb.1
   subst hye;have h1:(E.filter fun z=>(seen++[y.2]).contains z.2)=E.filter fun z=>seen.contains z.2:=List.filter_congr fun z hz=>by rw [hc z,hyE z hz,Bool.or_false]
   rw [XZ (by rw [hc y];simp),X0 (by simp only [hs];decide),h1];exact List.perm_append_comm (l₁:=[y])
  ·have hxE:x∈E:=by
    rcases V8.1 hx with h | h
    ·exact absurd (by rw [h]) hyx
    ·exact h
   have ih:=ih hb.2 hxE;have hcy:(seen++[x.2]).contains y.2=seen.contains y.2:=by rw [hc y,Wr.2 hyx,Bool.or_false]
   cases hq:seen.contains y.2
   ·rw [X0 (by rw [hcy,hq];decide),X0 (by rw [hq];decide)];exact ih
   ·rw [XZ (by rw [hcy,hq]),XZ (by rw [hq])];exact ih.cons y
def kN (E:List cp) (D:ByteArray->Bool) (seen:List Nat) (Y1:List ByteArray):Prop:=Y1.Perm (((E.filter fun y=>seen.contains y.2).map fun e=>e.1.p).filter D)
theorem kN.start {E:List cp} {D:ByteArray->Bool}:kN E D [] []:=by
 have:(E.filter fun y=>([]:List Nat).contains y.2)=[]:=List.filter_eq_nil_iff.2 fun y _=>by simp
 unfold kN;rw [this];exact List.Perm.refl _
theorem kN.next {E:List cp} {D:ByteArray->Bool} {seen:List Nat} {Y1:List ByteArray} (h:kN E D seen Y1) (hb:(E.map fun e=>e.2).Nodup) {x:cp} (hx:x∈E) (hs:seen.contains x.2=false):kN E D (seen++[x.2]) (Y1++if D x.1.p=true then [x.1.p] else []):=by
 have h1:=((yy hb hx hs).map fun e=>e.1.p).filter D;rw [Wq,Yx] at h1;refine List.Perm.trans ?_ h1.symm;refine List.Perm.append h ?_;cases hd:D x.1.p <;> simp [hd]
theorem kN.all {E:List cp} {D:ByteArray->Bool} {seen:List Nat} {Y1:List ByteArray} (h:kN E D seen Y1) (ha:∀ e∈E,seen.contains e.2=true):Y1.Perm ((E.map fun e=>e.1.p).filter D):=by
 have:(E.filter fun y=>seen.contains y.2)=E:=XO.2 ha;unfold kN at h;rw [this] at h;exact h
theorem kN.len {E:List cp} {D:ByteArray->Bool} {seen:List Nat} {Y1:List ByteArray} (h:kN E D seen Y1):Y1.length<=E.length:=by
 rw [h.length_eq];refine Wj (XU _ _) ?_;rw [WH];exact XU _ _
theorem kN.size {E:List cp} {cl:Nat} {D:ByteArray->Bool} {seen:List Nat} {Y1:List ByteArray} (h:kN E D seen Y1) (hB:dO E cl):∀ s∈Y1,s.size<=1000000000:=fun s hs=>by
 obtain ⟨e,he,rfl⟩:=Wc.1 (Wo.1 (h.mem_iff.1 hs)).1
 exact hB.size e (Wo.1 he).1
theorem gG {l m:List ByteArray} (h:l.Perm m):bA l=bA m:=jM (kA m) ((bz m).trans h.symm)
def EF (w0:World) (l:List ByteArray) (e:Ending) (w':World):Prop:=Below w0.heap.size w0 w'/\∃ v,e=.returned v/\((l=[]/\v=.slice none 0 0)\/(l≠[]/\cG w0 w' v (l.map Value.string) l.length 1 9))
def De (W:World) (x1:Nat) (D:ByteArray->Bool):Prop:=∀ w,W.hp.Sub w.hp->∀ q:ByteArray,q.size<=1000000000->Calls Tryz.prog 106 #[.string q,fy x1] w fun e w'=>Below w.heap.size w w'/\e=.returned (.bool (D q))
section
variable {W:World} {cs0:List Frame} {M:Own} {ν:aP} {x1:Nat} {D:ByteArray->Bool} {E:List cp} {cl:Nat}
theorem Cy (hm:MX W) (hM:∀ z,¬ M z) (hp:De W x1 D) (hν2:ν 2=some (x1,0)) {S:SM} {q:ByteArray} (hq:q.size<=1000000000) {o:List (Nat × gM)} {H:Hp} {M1:Own} {w1:World} (hk:Kept W.hp M W H M1 w1) {R:Ending->World->Prop}
  (h1:ah (dS ee 106 60 S o)) (h2:iD ee 106 60 S o=eL ee 106 [.v (.string q),.ptr 2 0] .normal) (h3:ah (dT ee 106 60 S o (.v (.bool (D q)))))
  (nx:∀ H' M2 w2,Kept W.hp M W H' M2 w2->af ee M2 w2 cs0 90 R ν (dA ee 106 60 S o (.v (.bool (D q))))):
  af ee M1 w1 cs0 90 R ν S:=by
 refine af.gD (qQ hM hk.base hm) hk (n:=60) (g:=106) (o:=o) (args:=[.v (.string q),.ptr 2 0]) h1 h2 fun ν' w a hle YJ hgr ha=>?_;obtain ⟨y0,as0,rfl,q0,ha⟩:=ha.cons_inv;obtain ⟨y1,ZY,rfl,q1,ha⟩:=ha.cons_inv;obtain rfl:=ha.ay;obtain rfl:=VR.ae.1 q0;obtain ⟨bb,Zd,rfl⟩:=VR.aF.1 q1;have Zd:=Zd.symm.trans (hle 2 (x1,0) hν2);cases Zd;exact (hp w (hk.Zf.trans YJ) q hq).mono fun e w' ⟨hB,he⟩=>⟨hB,_,he,fun M2 ZE=>⟨h3,nx _ M2 w' ZE⟩⟩
theorem yT (hm:MX W) (hM:∀ z,¬ M z) (hB:dO E cl) {seen:List Nat} {H:Hp} {M1:Own} {w1:World} (hk:Kept W.hp M W H M1 w1) {R:Ending->World->Prop}
  (YW:(∀ e∈E,seen.contains e.2=true)->af ee M1 w1 cs0 90 R ν (ID (E.map mI) cl seen)) (hone:∀ x∈E,seen.contains x.2=false->af ee M1 w1 cs0 90 R ν (DZ (E.map mI) cl seen (mI x))):
  af ee M1 w1 cs0 90 R ν (Jh (E.map mI) cl seen):=by
 have K:=qQ hM hk.base hm;refine af.go K (F6 (E.map mI) cl seen) (by unfold SH.ob;rw [GU];trivial) ?_;refine af.next K (JG (E.map mI) cl seen) ?_ (fun e he hs=>?_) fun Y0=>?_
 ·cases he:(!seen.isEmpty&&!(E.map mI).isEmpty&&(E.map mI).all fun e=>Nat.ble cl e.2.2)
  ·rfl
  ·rw [V6,V6,Wn] at he;obtain ⟨⟨_,h2⟩,h3⟩:=he;cases hE:E with
   | nil=>rw [hE] at h2;cases h2
   | cons x E'=>
    have hx:x∈E:=by rw [hE];exact Wi
    have h4:=Wu (h3 (mI x) (Wc.2 ⟨x,hx,rfl⟩));have h5:=hB.born x hx;have h4':cl<=x.2:=h4;omega
 ·obtain ⟨x,hx,rfl⟩:=Wc.1 he;exact ⟨_,IE (E.map mI) cl seen (mI x),by unfold SH.ob;rw [Jj];trivial,hone x hx hs⟩
 ·refine ⟨_,Jy (E.map mI) cl seen,by unfold SH.ob;rw [Jc];trivial,YW fun x hx=>?_⟩;cases hc:seen.contains x.2
  ·have h1:=Y0 (mI x) (Wc.2 ⟨x,hx,rfl⟩) hc;have h2:Nat.blt x.2 cl=false:=h1;have h3:=hB.born x hx;have h4:Nat.blt x.2 cl=true:=by simp [Nat.blt_eq];omega
   rw [h4] at h2;cases h2
  ·rfl
theorem yd (hm:MX W) (hM:∀ z,¬ M z) (hB:dO E cl) {seen:List Nat} {Y1:List ByteArray} {H:Hp} {M1:Own} {w1:World} (hk:Kept W.hp M W H M1 w1) {R:Ending->World->Prop}
  (YW:(∀ e∈E,seen.contains e.2=true)->af ee M1 w1 cs0 90 R ν (J2 (E.map mI) cl seen (strs Y1) Y1.length)) (hone:∀ x∈E,seen.contains x.2=false->af ee M1 w1 cs0 90 R ν (DQ (E.map mI) cl seen (strs Y1) Y1.length (mI x))):
  af ee M1 w1 cs0 90 R ν (Jf (E.map mI) cl seen (strs Y1) Y1.length):=by
 have K:=qQ hM hk.base hm;refine af.go K (G7 (E.map mI) cl seen (strs Y1) Y1.length) (by unfold SH.ob;rw [Gk];trivial) ?_;refine af.next K (Iz (E.map mI) cl seen (strs Y1) Y1.length) ?_ (fun e he hs=>?_) fun Y0=>?_
 ·cases he:(!seen.isEmpty&&!(E.map mI).isEmpty&&(E.map mI).all fun e=>Nat.ble cl e.2.2)
  ·rfl
  ·rw [V6,V6,Wn] at he;obtain ⟨⟨_,h2⟩,h3⟩:=he;cases hE:E with
   | nil=>rw [hE] at h2;cases h2
   | cons x E'=>
    have hx:x∈E:=by rw [hE];exact Wi
    have h4:=Wu (h3 (mI x) (Wc.2 ⟨x,hx,rfl⟩));have h5:=hB.born x hx;have h4':cl<=x.2:=h4;omega
 ·obtain ⟨x,hx,rfl⟩:=Wc.1 he;exact ⟨_,I9 (E.map mI) cl seen (strs Y1) Y1.length (mI x),by unfold SH.ob;rw [Jp];trivial,hone x hx hs⟩
 ·refine ⟨_,I0 (E.map mI) cl seen (strs Y1) Y1.length,by unfold SH.ob;rw [Jl];trivial,YW fun x hx=>?_⟩;cases hc:seen.contains x.2
  ·have h1:=Y0 (mI x) (Wc.2 ⟨x,hx,rfl⟩) hc;have h2:Nat.blt x.2 cl=false:=h1;have h3:=hB.born x hx;have h4:Nat.blt x.2 cl=true:=by simp [Nat.blt_eq];omega
   rw [h4] at h2;cases h2
  ·rfl
theorem HH (hm:MX W) (hM:∀ z,¬ M z) (hB:dO E cl) (Y2:E.length<=1000) (hp:De W x1 D) (hν2:ν 2=some (x1,0)) (hν:∀ i b,ν i=some b->i=0\/i=1\/i=2):∀ (n:Nat) (seen:List Nat) (Y1:List ByteArray),(E.filter fun x=>!seen.contains x.2).length<=n->kN E D seen Y1->Y1≠[]->∀ H M1 w1,Kept W.hp M W H M1 w1->
  af ee M1 w1 cs0 90 (EF W (bA ((E.map fun e=>e.1.p).filter D))) ν (Jf (E.map mI) cl seen (strs Y1) Y1.length):=by
 intro n;induction n with
 | zero=>
  intro seen Y1 hn hg YI H M1 w1 hk;refine yd hm hM hB hk (fun Y0=>?_) fun x hx hs=>?_;rotate_left
  ·have:x∈E.filter fun x=>!seen.contains x.2:=Wo.2 ⟨hx,by show (!seen.contains x.2)=true;rw [hs];rfl⟩;rw [Wd.1 (YE.1 hn)] at this;cases this
  ·have hpm:=hg.all Y0;have hso:=gG hpm;have hln:(bA Y1).length=Y1.length:=(bz Y1).length_eq;have hgl:=hg.len;have hsne:bA Y1≠[]:=fun h=>YI (Wd.1 (by rw [<- hln,h];rfl))
   refine af.bY (qQ hM hk.base hm) (n:=60) (o:=VP) (x:=.sl 4 0 Y1.length none) (i:=4) (so:=.row (strs (bA Y1)) 9 (0,0) (some 1)) (by
    rw [Ks];simp only [ah,jI,bL,VV,VX,VW];exact ⟨YI,by omega,hg.size hB⟩) fun ν' w' y b1 ob hv hb ho YO hw Zv=>?_
   obtain ⟨M3,w3,M4,s',hBb,hr⟩:=Zv
   have hn:W.heap.size<=b1.1:=by
    rcases hk.base.own _ hw with h | h
    ·exact h
    ·exact absurd h (hM _)
   rw [<- hso];exact ⟨aB hM (hk.base.trans hBb) hr,y,rfl,.inr ⟨hsne,by rw [hln];exact cG.fW hv hb ho YO hn fun zs hz=>lJ hz⟩⟩
 | succ n ih=>
  intro seen Y1 hn hg YI H M1 w1 hk;refine yd hm hM hB hk (fun Y0=>?_) fun x hx hs=>?_
  ·have hpm:=hg.all Y0;have hso:=gG hpm;have hln:(bA Y1).length=Y1.length:=(bz Y1).length_eq;have hgl:=hg.len;have hsne:bA Y1≠[]:=fun h=>YI (Wd.1 (by rw [<- hln,h];rfl))
   refine af.bY (qQ hM hk.base hm) (n:=60) (o:=VP) (x:=.sl 4 0 Y1.length none) (i:=4) (so:=.row (strs (bA Y1)) 9 (0,0) (some 1)) (by
    rw [Ks];simp only [ah,jI,bL,VV,VX,VW];exact ⟨YI,by omega,hg.size hB⟩) fun ν' w' y b1 ob hv hb ho YO hw Zv=>?_
   obtain ⟨M3,w3,M4,s',hBb,hr⟩:=Zv
   have hn:W.heap.size<=b1.1:=by
    rcases hk.base.own _ hw with h | h
    ·exact h
    ·exact absurd h (hM _)
   rw [<- hso];exact ⟨aB hM (hk.base.trans hBb) hr,y,rfl,.inr ⟨hsne,by rw [hln];exact cG.fW hv hb ho YO hn fun zs hz=>lJ hz⟩⟩
  ·have hn2:=mV hx hs hn;have hfb:=kJ hB.Zw hx;have hfx:∃ (YN:Nat) (b:Nat),(seen++[(mI x).snd.snd]).getLast?=some YN/\List.find? (fun e=>e.snd.snd.beq YN) (E.map mI)=some (SV.v (Value.string x.fst.p),cU x,b):=⟨x.2,x.2,gU,hfb⟩;have YX:=cH E;have hgn:=hg.next hB.Zw hx hs;have Zb:=hB.size x hx;have hgl:=hg.len;refine Cy hm hM hp hν2 Zb hk (o:=IV x) ?_ (by kernel_rfl) ?_ fun H' M2 w2 ZM=>?_
   ·rw [NG];simp only [ah,VV,VX,VW];exact hfx
   ·rw [NQ];simp only [ah,VV,VX,VW];exact hfx
   ·cases hd:D x.1.p
    ·rw [hd,if_neg (by decide),W4] at hgn;refine af.reach (qQ hM ZM.base hm) (k:=2) (n:=60) (o:=ff [0] false) (ren:=[(0,0),(1,1),(2,2),(3,3),(4,4)]) (eqs:=[1,4]) (S:=Io (E.map mI) cl seen (strs Y1) Y1.length x false) ?_ (by kernel_rfl) (fun i b h=>by rcases hν i b h with h | h | h <;> rw [h] <;> rfl) (ih (seen++[x.2]) Y1 hn2 hgn YI H' M2 w2 ZM);rw [OB];simp only [ah,YX,bL,VV,VX,VW];repeat' apply And.intro
     all_goals first | rfl | skip
    ·rw [hd,if_pos rfl] at hgn;have nx:=ih (seen++[x.2]) (Y1++[x.1.p]) hn2 hgn (by simp) H' M2 w2 ZM;rw [V7,show ([x.1.p]:List ByteArray).length=1 from rfl] at nx;refine af.reach (qQ hM ZM.base hm) (k:=2) (n:=60) (o:=[(0,.b true),(1,.app (strs Y1) [.v (.string x.1.p)])]) (ren:=[(0,0),(1,1),(2,2),(3,3),(4,6)]) (eqs:=[1,4]) (S:=Io (E.map mI) cl seen (strs Y1) Y1.length x true) ?_ (by kernel_rfl) (fun i b h=>by rcases hν i b h with h | h | h <;> rw [h] <;> rfl) nx;rw [N6];simp only [ah,YX,bL,qe,iK,s7,pg,WM,VV,VX,VW];repeat' apply And.intro
     all_goals first | rfl | omega | exact We (by rw [iK];omega) | skip
theorem Gv (hm:MX W) (hM:∀ z,¬ M z) (hB:dO E cl) (Y2:E.length<=1000) (hp:De W x1 D) (hν2:ν 2=some (x1,0)) (hν:∀ i b,ν i=some b->i=0\/i=1\/i=2):∀ (n:Nat) (seen:List Nat),(E.filter fun x=>!seen.contains x.2).length<=n->kN E D seen []->∀ H M1 w1,Kept W.hp M W H M1 w1->
  af ee M1 w1 cs0 90 (EF W (bA ((E.map fun e=>e.1.p).filter D))) ν (Jh (E.map mI) cl seen):=by
 intro n;induction n with
 | zero=>
  intro seen hn hg H M1 w1 hk;refine yT hm hM hB hk (fun Y0=>?_) fun x hx hs=>?_;rotate_left
  ·have:x∈E.filter fun x=>!seen.contains x.2:=Wo.2 ⟨hx,by show (!seen.contains x.2)=true;rw [hs];rfl⟩;rw [Wd.1 (YE.1 hn)] at this;cases this
  ·have hpm:=hg.all Y0;have hso:=gG hpm;have h0:bA ([]:List ByteArray)=[]:=Wd.1 (bz []).length_eq;refine af.ao (qQ hM hk.base hm) (n:=60) (o:=VP) (v:=.slice none 0 0) ?_ fun ν' M3 w3 s' w' _ Zv hr=>⟨aB hM (hk.base.trans Zv) hr,_,rfl,.inl ⟨by rw [<- hso,h0],rfl⟩⟩;rw [Kx];simp only [ah,VV,VX,VW]
 | succ n ih=>
  intro seen hn hg H M1 w1 hk;refine yT hm hM hB hk (fun Y0=>?_) fun x hx hs=>?_
  ·have hpm:=hg.all Y0;have hso:=gG hpm;have h0:bA ([]:List ByteArray)=[]:=Wd.1 (bz []).length_eq;refine af.ao (qQ hM hk.base hm) (n:=60) (o:=VP) (v:=.slice none 0 0) ?_ fun ν' M3 w3 s' w' _ Zv hr=>⟨aB hM (hk.base.trans Zv) hr,_,rfl,.inl ⟨by rw [<- hso,h0],rfl⟩⟩;rw [Kx];simp only [ah,VV,VX,VW]
  ·have hn2:=mV hx hs hn;have hfb:=kJ hB.Zw hx;have hfx:∃ (YN:Nat) (b:Nat),(seen++[(mI x).snd.snd]).getLast?=some YN/\List.find? (fun e=>e.snd.snd.beq YN) (E.map mI)=some (SV.v (Value.string x.fst.p),cU x,b):=⟨x.2,x.2,gU,hfb⟩;have YX:=cH E;have hgn:=hg.next hB.Zw hx hs;have Zb:=hB.size x hx;refine Cy hm hM hp hν2 Zb hk (o:=IU x) ?_ (by kernel_rfl) ?_ fun H' M2 w2 ZM=>?_
   ·rw [NH];simp only [ah,VV,VX,VW];exact hfx
   ·rw [Nu];simp only [ah,VV,VX,VW];exact hfx
   ·cases hd:D x.1.p
    ·rw [hd,if_neg (by decide)] at hgn;refine af.reach (qQ hM ZM.base hm) (k:=2) (n:=60) (o:=ff [0] false) (ren:=[(0,0),(1,1),(2,2),(3,3)]) (eqs:=[1]) (S:=Jr (E.map mI) cl seen x false) ?_ (by kernel_rfl) (fun i b h=>by rcases hν i b h with h | h | h <;> rw [h] <;> rfl) (ih (seen++[x.2]) hn2 hgn H' M2 w2 ZM);rw [Nn];simp only [ah,YX,VV,VX,VW];repeat' apply And.intro
     all_goals first | rfl | skip
    ·rw [hd,if_pos rfl] at hgn;have nx:=HH (cs0:=cs0) hm hM hB Y2 hp hν2 hν n (seen++[x.2]) [x.1.p] hn2 hgn (by simp) H' M2 w2 ZM;rw [show ([x.1.p]:List ByteArray).length=1 from rfl] at nx;refine af.reach (qQ hM ZM.base hm) (k:=2) (n:=60) (o:=ff [0] true++ff [1] false) (ren:=[(0,0),(1,1),(2,2),(3,3),(4,5)]) (eqs:=[1,4]) (S:=Jr (E.map mI) cl seen x true) ?_ (by kernel_rfl) (fun i b h=>by rcases hν i b h with h | h | h <;> rw [h] <;> rfl) nx;rw [Oz];simp only [ah,YX,VV,VX,VW];repeat' apply And.intro
     all_goals first | rfl | skip
end
theorem xk {W:World} {b m x1:Nat} {E:List cp} {cl:Nat} {D:ByteArray->Bool} {cs1:Array Value} {e1:TypeId} {f1:Nat × Nat} (hm:MX W) (hA:kK W b m E cl) (hB:dO E cl) (Y2:E.length<=1000) (hn:[b,m,x1].Nodup) (hx1:W.heap[x1]?=some (.cells cs1 e1 f1)) (hp:De W x1 D):
  Calls Tryz.prog 90 #[fy b,.func (.func 106) #[] #[fy x1]] W (EF W (bA ((E.map fun e=>e.1.p).filter D))):=by
 have ho:∀ (j:Nat) (o':SO) (b' c':Nat),[SO.row [.map 1] 96 (0,0) none,SO.map (E.map mI) cl,SO.look []][j]?=some o'->[(b,0),(m,0),(x1,0)][j]?=some (b',c')->∃ r,W.heap[b']?=some r/\OR (aA [(b,0),(m,0),(x1,0)]) j o' r:=by
  intro j o' b' c' q1 q2;match j with
  | 0=>
   simp only [Wa,Option.some.injEq] at q1 q2;subst q1;cases q2;exact ⟨_,hA.row,[.map (some m)],[],rfl,au.cons (VR.cV.2 ⟨(m,0),rfl,rfl⟩) au.nil,rfl⟩
  | 1=>
   simp only [WU,Wa,Option.some.injEq] at q1 q2;subst q1;cases q2;exact ⟨_,hA.map,_,rfl,o8 E⟩
  | 2=>
   simp only [WU,Wa,Option.some.injEq] at q1 q2;subst q1;cases q2;exact ⟨_,hx1,[],_,_,_,rfl,au.nil,fun k y h=>by simp at h⟩
  | j+3=>simp at q1
 refine aZ (E:=ee) rfl (d:=6) (l:=[(b,0),(m,0),(x1,0)]) (os:=[.row [.map 1] 96 (0,0) none,.map (E.map mI) cl,.look []]) rfl (by simp) (by simpa using hn) ho rfl (args:=[.ptr 0 0,L9]) (a:=[fy b,.func (.func 106) #[] #[fy x1]]) (S0:=AU (E.map mI) cl) (by kernel_rfl) (au.cons (VR.aF.2 ⟨(b,0),rfl,rfl⟩) (au.cons ?_ au.nil)) fun cs0=>?_
 ·exact VR.eH.2 ⟨[],[fy x1],rfl,au.nil,au.cons (VR.aF.2 ⟨(x1,0),rfl,rfl⟩) au.nil⟩
 have hM:∀ z,¬ (aD [(b,0),(m,0),(x1,0)] ([SO.row [.map 1] 96 (0,0) none,SO.map (E.map mI) cl,SO.look []].map fun o=>(o,false))) z:=fun z=>aY (os:=[SO.row [.map 1] 96 (0,0) none,SO.map (E.map mI) cl,SO.look []])
 have Z6:=Kept.start (H0:=W.hp) (M:=aD [(b,0),(m,0),(x1,0)] ([SO.row [.map 1] 96 (0,0) none,SO.map (E.map mI) cl,SO.look []].map fun o=>(o,false))) (w:=W) (Hp.Sub.refl _) (fun z o _=>hM z) (dN (by
  intro j o' m' b' c' q1 q2;rw [Wv] at q1;obtain ⟨o2,q3,q4⟩:=Wg.1 q1;cases q4;exact ho j o' b' c' q3 q2)) (fun _ h=>h)
 have hν:∀ i b',aA [(b,0),(m,0),(x1,0)] i=some b'->i=0\/i=1\/i=2:=fun i b' h=>by
  match i with
  | 0=>exact .inl rfl
  | 1=>exact .inr (.inl rfl)
  | 2=>exact .inr (.inr (rfl))
  | i+3=>simp [aA] at h
 have nx:=Gv (cs0:=cs0) (ν:=aA [(b,0),(m,0),(x1,0)]) hm hM hB Y2 hp rfl hν (E.filter fun x=>!([]:List Nat).contains x.2).length [] (Wx _) kN.start W.hp _ W Z6;refine af.reach (qQ hM Z6.base hm) (k:=2) (n:=60) (o:=VP) (ren:=[(0,0),(1,1),(2,2),(3,3)]) (eqs:=[1]) (F:=qW bZ) (d:=6) (l:=rC (E.map mI) cl []) ?_ (by kernel_rfl) (fun i b h=>by rcases hν i b h with h | h | h <;> rw [h] <;> rfl) nx;rw [O8];simp only [ah,cH,bZ,VV,VX,VW];repeat' apply And.intro
 all_goals first | rfl | skip
section
variable {W:World} {cs0:List Frame} {M:Own} {ν:aP} {x1 x2:Nat} {D:ByteArray->Bool} {E:List cp} {cl:Nat}
end
def O4:Env:=EP [(107,mJ)] []
def L8 (p:ByteArray):Option (SO × Bool):=some (.row [.v (.string p)] 9 (0,0) none,false)
def KT (q p:ByteArray):SM:=(a6 O4 106 [.v (.string q),.ptr 0 0] (bG 6 1 0 [L8 p])).getD dn
theorem RM (q p:ByteArray) (v:Value):ao O4 106 60 (KT q p) VP v=[VU (dQ q p)=v,q.size<=1000000000/\p.size<=1000000000]:=by kernel_rfl
theorem Vm {M:Own} {w0:World} (hM:∀ z,¬ M z) (h:MX w0):aK O4 M w0:=Pv hM h fun r hr=>by rw [Wk.1 hr];exact Hm
theorem Gq {w:World} {x:Nat} {q p:ByteArray} (hm:MX w) (hx:w.heap[x]?=some (.cells #[.string p] 9 (0,0))) (hq:q.size<=1000000000) (hp:p.size<=1000000000):
  Calls Tryz.prog 106 #[.string q,fy x] w fun e w'=>Below w.heap.size w w'/\e=.returned (.bool (dQ q p)):=by
 refine aZ (E:=O4) rfl (d:=6) (l:=[(x,0)]) (os:=[.row [.v (.string p)] 9 (0,0) none]) rfl (by simp) (by simp) ?_ rfl (args:=[.v (.string q),.ptr 0 0]) (a:=[.string q,fy x]) (S0:=KT q p) (by kernel_rfl) (au.cons (VR.ae.2 rfl) (au.cons (VR.aF.2 ⟨(x,0),rfl,rfl⟩) au.nil)) fun cs0=>?_
 ·intro j o' b' c' h1 h2;match j with
  | 0=>
   simp only [Wa,Option.some.injEq] at h1 h2;subst h1;cases h2;exact ⟨_,hx,[.string p],[],rfl,au.cons (VR.ae.2 rfl) au.nil,rfl⟩
  | j+1=>simp at h1
 ·refine cg (Vm (fun z=>aY (os:=[_])) hm) (fun z=>aY (os:=[_])) (n:=60) (o:=VP) (v:=.bool (dQ q p)) ⟨?_⟩ fun w' hw=>⟨hw,rfl⟩;rw [RM];simp only [ah,VW,VX];exact ⟨hq,hp⟩
def cy (p:ByteArray) (E:List cp):List ByteArray:=bA ((E.map fun e=>e.1.p).filter fun q=>dQ q p)
theorem xD {w:World} {b m cl:Nat} {E:List cp} {p:ByteArray} (hm:MX w) (hA:kK w b m E cl) (YI:b≠m) (hB:dO E cl) (Y2:E.length<=1000) (hp:p.size<=1000000000):
  Calls Tryz.prog 83 #[fy b,.string p] w (EF w (cy p E)):=by
 have hbl:b<w.heap.size:=(VY.1 hA.row).1;have hml:m<w.heap.size:=(VY.1 hA.map).1;have hb:Below w.heap.size w (w.alloc (.cells #[.string p] 9)):=(Below.refl _ _).alloc (Wx _) _;have hm':MX (w.alloc (.cells #[.string p] 9)):=hm.keep fun k hk=>hb.block k hk
 have hx:(w.alloc (.cells #[.string p] 9)).heap[w.heap.size]?=some (.cells #[.string p] 9 (0,0)):=by
  show (w.heap.push _)[w.heap.size]?=some _;rw [Array.getElem?_push_size]
 have hA':kK (w.alloc (.cells #[.string p] 9)) b m E cl:=⟨(hb.block b hbl).trans hA.row,(hb.block m hml).trans hA.map⟩
 have cs:=xk (x1:=w.heap.size) (D:=fun q=>dQ q p) hm' hA' hB Y2 (by simp;omega) hx (fun w2 hs q hq=>Gq (hm'.keep fun k hk=>by
  have h1:=hs k (w.alloc (.cells #[.string p] 9)).heap[k] (WS hk);rw [WS hk];exact h1) (hs _ _ hx) hq hp)
 clear hA hA' hx;have HE:=Lib.hid (show cy p E=bA ((E.map fun e=>e.1.p).filter fun q=>dQ q p) from rfl);go_enter Tryz.func83,Tryz.ntmps83
 go_wp2_with (go_at_call 90;refine cs.mono ?_;rintro e w' ⟨Za,v,rfl,hv⟩)
 go_ret
 have h3:w.heap.size<=(w.alloc (.cells #[.string p] 9)).heap.size:=hb.size;refine ⟨hb.trans (Za.mono h3),_,rfl,?_⟩;rw [HE.out];rcases hv with hv | ⟨YI,g,c,rest,h4,h5,h6⟩
 ·exact .inl hv
 ·exact .inr ⟨YI,g,c,rest,h4,Wj h3 h5,h6⟩
def NT (e:SV × SV × Nat):cp:=match e with
 | (.v (.string p),.agg [.v (.int _ k),.v (.slice a l c)],n)=>(⟨p,k,a,l,c⟩,n)
 | (_,_,n)=>(⟨⟨#[]⟩,0,none,0,0⟩,n)
theorem J9 (e:cp):NT (mI e)=e:=rfl
def mapOf (es:VQ):List cp:=es.map NT
theorem bj (E:List cp):mapOf (E.map mI)=E:=by
 unfold mapOf;rw [WI];exact (XB fun e _=>J9 e).trans (List.map_id E)
def dW (es:VQ) (cl:Nat):Prop:=es=(mapOf es).map mI/\dO (mapOf es) cl/\(mapOf es).length<=1000
def qj (a:SV) (sh:SH):Option (VQ × Nat × Prop):=match a with
 | .ptr i 0=>match sh.look i with
  | some (.row [.map m] t (0,0) none,_)=>match sh.look m with
   | some (.map es cl,_)=>some (es,cl,t=96/\dW es cl)
   | _=>none
  | some (.row [.v (.map none)] t (0,0) none,_)=>some ([],0,t=96)
  | _=>none
 | _=>none
def O5:H8:=fun args sh=>match args with
 | [A,.v (.string p)]=>match qj A sh with
  | some (es,cl,q)=>some ((cy p (mapOf es)).map Value.string,(cy p (mapOf es)).length,1,9,none,q/\cy p (mapOf es)≠[]/\p.size<=1000000000)
  | none=>none
 | _=>none
def PK:zF:=fun args sh=>match args with
 | [A,.v (.string p)]=>match qj A sh with
  | some (es,cl,q)=>some (.slice none 0 0,q/\cy p (mapOf es)=[]/\p.size<=1000000000)
  | none=>none
 | _=>none
def Qp:List (FuncId × Sum):=[(81,cq kM),(82,cq j0),(83,gq (fl O5) (de PK)),(84,cq C7)]
def lp:Env:={ EP [] [] with Y7:=fun f=>Qp.lookup f }
def fN (es:VQ) (cl:Nat) (x:ax):SM:=(a6 lp 52 [.ptr 0 0,.v (.string x.p),jC x] (bG 6 2 0 [tw,xu es cl])).getD dn
theorem Rz (es:VQ) (cl:Nat) (x:ax) (f g:cp) (i j:Nat):ao lp 52 400 (fN es cl x) (ff [1] true++ff [0,2] false++VP) (.int .i64 (aG x.p))=[vZ (aG x.1)=vZ (aG x.1),(!aG x.1==0)=true,x.1.size.le 1000000000]:=by kernel_rfl
theorem TC (es:VQ) (cl:Nat) (x:ax) (f g:cp) (i j:Nat):ao lp 52 400 (fN es cl x) (ff [3] true++ff [0,1,2,4] false++VP) (.int .i64 (aS x.k x.l))=[vZ (aS x.2 x.4)=vZ (aS x.2 x.4),(!aS x.2 x.4==0)=true,True,(!aG x.1==0)=false,x.1.size.le 1000000000]:=by kernel_rfl
theorem QU (es:VQ) (cl:Nat) (x:ax) (f g:cp) (i j:Nat):ao lp 52 400 (fN es cl x) (ff [4,5,6,7,8,9,10,11] true++ff [0,1,2,3,12] false++VP) (.int .i64 22)=[vZ 22=vZ 22,decide ((↑(cy x.1 (mapOf es)).length:Int)>0)=true,(!x.2==2)=true,(!x.2==2)=true,(!x.2==2)=true,(96=96/\dW es cl)/\cy x.1 (mapOf es)≠[]/\x.1.size<=1000000000,(!x.2==2)=true,(!x.2==2)=true,(!x.2==2)=true,(!aS x.2 x.4==0)=false,True,(!aG x.1==0)=false,x.1.size.le 1000000000]:=by kernel_rfl
theorem Th (es:VQ) (cl:Nat) (x:ax) (f g:cp) (i j:Nat):ao lp 52 400 (fN es cl x) (ff [4,5,6,8,9,10,12] true++ff [0,1,2,3,7,11,13] false++VP) (.int .i64 0)=[vZ 0=vZ 0,(x.2==0)=true,false=false,(!x.2==2)=true,(!x.2==2)=true,(!x.2==2)=true,(96=96/\dW es cl)/\cy x.1 (mapOf es)=[]/\x.1.size<=1000000000,(!x.2==2)=true,(!x.2==2)=true,(!x.2==2)=true,(!aS x.2 x.4==0)=false,True,(!aG x.1==0)=false,x.1.size.le 1000000000]:=by kernel_rfl
theorem NJ (es:VQ) (cl:Nat) (x:ax) (f g:cp) (i j:Nat):ao lp 52 400 (fN es cl x) ([(18,.hit j (cU f) f.2)]++ff [4,5,6,8,9,10,14,15,16,19,20,21,22] true++ff [0,1,2,3,7,11,12,13,17,23] false++VP) (.int .i64 22)=[vZ 22=vZ 22,(!f.fst.2==2)=true,aC x.1=true,aC x.1=true,aC x.1=true,(∀ (e:SV × SV × Nat),e∈List.take j es->a8 (aj x.p) e.fst)/\es[j]?=some (SV.v (VS (aj x.1)),cU f,f.2),false=false,aC x.1=true,aC x.1=true,aC x.1=true,x.1.size.le 1000000000,(x.2==0)=false,false=false,(!x.2==2)=true,(!x.2==2)=true,(!x.2==2)=true,(96=96/\dW es cl)/\cy x.1 (mapOf es)=[]/\x.1.size<=1000000000,(!x.2==2)=true,(!x.2==2)=true,(!x.2==2)=true,(!aS x.2 x.4==0)=false,True,(!aG x.1==0)=false,x.1.size.le 1000000000]:=by kernel_rfl
theorem N8 (es:VQ) (cl:Nat) (x:ax) (f g:cp) (i j:Nat):ao lp 52 400 (fN es cl x) ([(18,.cr),(23,.cr)]++ff [4,5,6,8,9,10,14,15,16,19,20,21] true++ff [0,1,2,3,7,11,12,13,17] false++VP) (.int .i64 22)=[vZ 22=vZ 22,aC x.1=true,aC x.1=true,aC x.1=true,∀ (e:SV × SV × Nat),e∈es->a8 (aj x.p) e.fst,false=false,aC x.1=true,aC x.1=true,aC x.1=true,x.1.size.le 1000000000,(x.2==0)=false,false=false,(!x.2==2)=true,(!x.2==2)=true,(!x.2==2)=true,(96=96/\dW es cl)/\cy x.1 (mapOf es)=[]/\x.1.size<=1000000000,(!x.2==2)=true,(!x.2==2)=true,(!x.2==2)=true,(!aS x.2 x.4==0)=false,True,(!aG x.1==0)=false,x.1.size.le 1000000000]:=by kernel_rfl
theorem N7 (es:VQ) (cl:Nat) (x:ax) (f g:cp) (i j:Nat):ao lp 52 400 (fN es cl x) ([(21,.hit i (cU g) g.2)]++ff [4,5,6,8,9,10] true++ff [0,1,2,3,7,11,12,13,14,15,16,17,18,19,20,22,23,24,25,26,27,28,29,30] false++VP) (.int .i64 0)=[vZ 0=vZ 0,false=false,false=false,false=false,false=false,false=false,false=false,false=false,false=false,(∀ (e:SV × SV × Nat),e∈List.take i es->a8 x.p e.fst)/\es[i]?=some (SV.v (VS x.1),cU g,g.2),false=false,aC x.1=false,aC x.1=false,aC x.1=false,aC x.1=false,aC x.1=false,aC x.1=false,x.1.size.le 1000000000,(x.2==0)=false,false=false,(!x.2==2)=true,(!x.2==2)=true,(!x.2==2)=true,(96=96/\dW es cl)/\cy x.1 (mapOf es)=[]/\x.1.size<=1000000000,(!x.2==2)=true,(!x.2==2)=true,(!x.2==2)=true,(!aS x.2 x.4==0)=false,True,(!aG x.1==0)=false,x.1.size.le 1000000000]:=by kernel_rfl
theorem NU (es:VQ) (cl:Nat) (x:ax) (f g:cp) (i j:Nat):ao lp 52 400 (fN es cl x) ([(21,.cr)]++ff [4,5,6,8,9,10,22,23,24,25,26,27,28,29] true++ff [0,1,2,3,7,11,12,13,14,15,16,17,18,19,20,30] false++VP) (.int .i64 24)=[vZ 24=vZ 24,decide ((↑es.length:Int)≥128)=true,true=true,true=true,true=true,true=true,true=true,true=true,true=true,∀ (e:SV × SV × Nat),e∈es->a8 x.p e.fst,false=false,aC x.1=false,aC x.1=false,aC x.1=false,aC x.1=false,aC x.1=false,aC x.1=false,x.1.size.le 1000000000,(x.2==0)=false,false=false,(!x.2==2)=true,(!x.2==2)=true,(!x.2==2)=true,(96=96/\dW es cl)/\cy x.1 (mapOf es)=[]/\x.1.size<=1000000000,(!x.2==2)=true,(!x.2==2)=true,(!x.2==2)=true,(!aS x.2 x.4==0)=false,True,(!aG x.1==0)=false,x.1.size.le 1000000000]:=by kernel_rfl
theorem Ni (es:VQ) (cl:Nat) (x:ax) (f g:cp) (i j:Nat):ao lp 52 400 (fN es cl x) ([(21,.cr)]++ff [4,5,6,8,9,10,22,23,24,25,26,27] true++ff [0,1,2,3,7,11,12,13,14,15,16,17,18,19,20,29] false++VP) (.int .i64 0)=[vZ 0=vZ 0,decide ((↑es.length:Int)≥128)=false,true=true,true=true,true=true,true=true,true=true,true=true,∀ (e:SV × SV × Nat),e∈es->a8 x.p e.fst,false=false,aC x.1=false,aC x.1=false,aC x.1=false,aC x.1=false,aC x.1=false,aC x.1=false,x.1.size.le 1000000000,(x.2==0)=false,false=false,(!x.2==2)=true,(!x.2==2)=true,(!x.2==2)=true,(96=96/\dW es cl)/\cy x.1 (mapOf es)=[]/\x.1.size<=1000000000,(!x.2==2)=true,(!x.2==2)=true,(!x.2==2)=true,(!aS x.2 x.4==0)=false,True,(!aG x.1==0)=false,x.1.size.le 1000000000]:=by kernel_rfl
theorem NY (es:VQ) (cl:Nat) (x:ax) (f g:cp) (i j:Nat):ao lp 52 400 (fN es cl x) ([(18,.hit j (cU f) f.2),(23,.hit i (cU g) g.2)]++ff [4,5,6,8,9,10,14,15,16,19,20,21] true++ff [0,1,2,3,7,11,12,13,17,22,24,25,26,27,28,29,30,31,32] false++VP) (.int .i64 0)=[vZ 0=vZ 0,false=false,false=false,false=false,false=false,false=false,false=false,false=false,false=false,(∀ (e:SV × SV × Nat),e∈List.take i es->a8 x.p e.fst)/\es[i]?=some (SV.v (VS x.1),cU g,g.2),(!f.fst.2==2)=false,aC x.1=true,aC x.1=true,aC x.1=true,(∀ (e:SV × SV × Nat),e∈List.take j es->a8 (aj x.p) e.fst)/\es[j]?=some (SV.v (VS (aj x.1)),cU f,f.2),false=false,aC x.1=true,aC x.1=true,aC x.1=true,x.1.size.le 1000000000,(x.2==0)=false,false=false,(!x.2==2)=true,(!x.2==2)=true,(!x.2==2)=true,(96=96/\dW es cl)/\cy x.1 (mapOf es)=[]/\x.1.size<=1000000000,(!x.2==2)=true,(!x.2==2)=true,(!x.2==2)=true,(!aS x.2 x.4==0)=false,True,(!aG x.1==0)=false,x.1.size.le 1000000000]:=by kernel_rfl
theorem Nv (es:VQ) (cl:Nat) (x:ax) (f g:cp) (i j:Nat):ao lp 52 400 (fN es cl x) ([(18,.hit j (cU f) f.2),(23,.cr)]++ff [4,5,6,8,9,10,14,15,16,19,20,21,24,25,26,27,28,29,30,31] true++ff [0,1,2,3,7,11,12,13,17,22,32] false++VP) (.int .i64 24)=[vZ 24=vZ 24,decide ((↑es.length:Int)≥128)=true,true=true,true=true,true=true,true=true,true=true,true=true,true=true,∀ (e:SV × SV × Nat),e∈es->a8 x.p e.fst,(!f.fst.2==2)=false,aC x.1=true,aC x.1=true,aC x.1=true,(∀ (e:SV × SV × Nat),e∈List.take j es->a8 (aj x.p) e.fst)/\es[j]?=some (SV.v (VS (aj x.1)),cU f,f.2),false=false,aC x.1=true,aC x.1=true,aC x.1=true,x.1.size.le 1000000000,(x.2==0)=false,false=false,(!x.2==2)=true,(!x.2==2)=true,(!x.2==2)=true,(96=96/\dW es cl)/\cy x.1 (mapOf es)=[]/\x.1.size<=1000000000,(!x.2==2)=true,(!x.2==2)=true,(!x.2==2)=true,(!aS x.2 x.4==0)=false,True,(!aG x.1==0)=false,x.1.size.le 1000000000]:=by kernel_rfl
theorem Nb (es:VQ) (cl:Nat) (x:ax) (f g:cp) (i j:Nat):ao lp 52 400 (fN es cl x) ([(18,.hit j (cU f) f.2),(23,.cr)]++ff [4,5,6,8,9,10,14,15,16,19,20,21,24,25,26,27,28,29] true++ff [0,1,2,3,7,11,12,13,17,22,31] false++VP) (.int .i64 0)=[vZ 0=vZ 0,decide ((↑es.length:Int)≥128)=false,true=true,true=true,true=true,true=true,true=true,true=true,∀ (e:SV × SV × Nat),e∈es->a8 x.p e.fst,(!f.fst.2==2)=false,aC x.1=true,aC x.1=true,aC x.1=true,(∀ (e:SV × SV × Nat),e∈List.take j es->a8 (aj x.p) e.fst)/\es[j]?=some (SV.v (VS (aj x.1)),cU f,f.2),false=false,aC x.1=true,aC x.1=true,aC x.1=true,x.1.size.le 1000000000,(x.2==0)=false,false=false,(!x.2==2)=true,(!x.2==2)=true,(!x.2==2)=true,(96=96/\dW es cl)/\cy x.1 (mapOf es)=[]/\x.1.size<=1000000000,(!x.2==2)=true,(!x.2==2)=true,(!x.2==2)=true,(!aS x.2 x.4==0)=false,True,(!aG x.1==0)=false,x.1.size.le 1000000000]:=by kernel_rfl
theorem NK (es:VQ) (cl:Nat) (x:ax) (f g:cp) (i j:Nat):ao lp 52 400 (fN es cl x) ([(17,.hit j (cU f) f.2)]++ff [13,14,15,18,19,20,21] true++ff [0,1,2,3,4,5,6,7,8,9,10,11,12,16,22] false++VP) (.int .i64 22)=[vZ 22=vZ 22,(!f.fst.2==2)=true,aC x.1=true,aC x.1=true,aC x.1=true,(∀ (e:SV × SV × Nat),e∈List.take j es->a8 (aj x.p) e.fst)/\es[j]?=some (SV.v (VS (aj x.1)),cU f,f.2),false=false,aC x.1=true,aC x.1=true,aC x.1=true,x.1.size.le 1000000000,(x.2==0)=false,false=false,(!x.2==2)=false,(!x.2==2)=false,(!x.2==2)=false,(!x.2==2)=false,(!x.2==2)=false,(!x.2==2)=false,(!aS x.2 x.4==0)=false,True,(!aG x.1==0)=false,x.1.size.le 1000000000]:=by kernel_rfl
theorem Oc (es:VQ) (cl:Nat) (x:ax) (f g:cp) (i j:Nat):ao lp 52 400 (fN es cl x) ([(17,.cr),(22,.cr)]++ff [13,14,15,18,19,20] true++ff [0,1,2,3,4,5,6,7,8,9,10,11,12,16] false++VP) (.int .i64 22)=[vZ 22=vZ 22,aC x.1=true,aC x.1=true,aC x.1=true,∀ (e:SV × SV × Nat),e∈es->a8 (aj x.p) e.fst,false=false,aC x.1=true,aC x.1=true,aC x.1=true,x.1.size.le 1000000000,(x.2==0)=false,false=false,(!x.2==2)=false,(!x.2==2)=false,(!x.2==2)=false,(!x.2==2)=false,(!x.2==2)=false,(!x.2==2)=false,(!aS x.2 x.4==0)=false,True,(!aG x.1==0)=false,x.1.size.le 1000000000]:=by kernel_rfl
theorem N9 (es:VQ) (cl:Nat) (x:ax) (f g:cp) (i j:Nat):ao lp 52 400 (fN es cl x) ([(20,.hit i (cU g) g.2)]++ff [0,1,2,3,4,5,6,7,8,9,10,11,12,13,14,15,16,17,18,19,21,22,23,24,25,26,27,28,29] false++VP) (.int .i64 0)=[vZ 0=vZ 0,false=false,false=false,false=false,false=false,false=false,false=false,false=false,false=false,(∀ (e:SV × SV × Nat),e∈List.take i es->a8 x.p e.fst)/\es[i]?=some (SV.v (VS x.1),cU g,g.2),false=false,aC x.1=false,aC x.1=false,aC x.1=false,aC x.1=false,aC x.1=false,aC x.1=false,x.1.size.le 1000000000,(x.2==0)=false,false=false,(!x.2==2)=false,(!x.2==2)=false,(!x.2==2)=false,(!x.2==2)=false,(!x.2==2)=false,(!x.2==2)=false,(!aS x.2 x.4==0)=false,True,(!aG x.1==0)=false,x.1.size.le 1000000000]:=by kernel_rfl
theorem Nz (es:VQ) (cl:Nat) (x:ax) (f g:cp) (i j:Nat):ao lp 52 400 (fN es cl x) ([(20,.cr)]++ff [21,22,23,24,25,26,27,28] true++ff [0,1,2,3,4,5,6,7,8,9,10,11,12,13,14,15,16,17,18,19,29] false++VP) (.int .i64 24)=[vZ 24=vZ 24,decide ((↑es.length:Int)≥128)=true,true=true,true=true,true=true,true=true,true=true,true=true,true=true,∀ (e:SV × SV × Nat),e∈es->a8 x.p e.fst,false=false,aC x.1=false,aC x.1=false,aC x.1=false,aC x.1=false,aC x.1=false,aC x.1=false,x.1.size.le 1000000000,(x.2==0)=false,false=false,(!x.2==2)=false,(!x.2==2)=false,(!x.2==2)=false,(!x.2==2)=false,(!x.2==2)=false,(!x.2==2)=false,(!aS x.2 x.4==0)=false,True,(!aG x.1==0)=false,x.1.size.le 1000000000]:=by kernel_rfl
theorem OH (es:VQ) (cl:Nat) (x:ax) (f g:cp) (i j:Nat):ao lp 52 400 (fN es cl x) ([(20,.cr)]++ff [21,22,23,24,25,26] true++ff [0,1,2,3,4,5,6,7,8,9,10,11,12,13,14,15,16,17,18,19,28] false++VP) (.int .i64 0)=[vZ 0=vZ 0,decide ((↑es.length:Int)≥128)=false,true=true,true=true,true=true,true=true,true=true,true=true,∀ (e:SV × SV × Nat),e∈es->a8 x.p e.fst,false=false,aC x.1=false,aC x.1=false,aC x.1=false,aC x.1=false,aC x.1=false,aC x.1=false,x.1.size.le 1000000000,(x.2==0)=false,false=false,(!x.2==2)=false,(!x.2==2)=false,(!x.2==2)=false,(!x.2==2)=false,(!x.2==2)=false,(!x.2==2)=false,(!aS x.2 x.4==0)=false,True,(!aG x.1==0)=false,x.1.size.le 1000000000]:=by kernel_rfl
theorem Ow (es:VQ) (cl:Nat) (x:ax) (f g:cp) (i j:Nat):ao lp 52 400 (fN es cl x) ([(17,.hit j (cU f) f.2),(22,.hit i (cU g) g.2)]++ff [13,14,15,18,19,20] true++ff [0,1,2,3,4,5,6,7,8,9,10,11,12,16,21,23,24,25,26,27,28,29,30,31] false++VP) (.int .i64 0)=[vZ 0=vZ 0,false=false,false=false,false=false,false=false,false=false,false=false,false=false,false=false,(∀ (e:SV × SV × Nat),e∈List.take i es->a8 x.p e.fst)/\es[i]?=some (SV.v (VS x.1),cU g,g.2),(!f.fst.2==2)=false,aC x.1=true,aC x.1=true,aC x.1=true,(∀ (e:SV × SV × Nat),e∈List.take j es->a8 (aj x.p) e.fst)/\es[j]?=some (SV.v (VS (aj x.1)),cU f,f.2),false=false,aC x.1=true,aC x.1=true,aC x.1=true,x.1.size.le 1000000000,(x.2==0)=false,false=false,(!x.2==2)=false,(!x.2==2)=false,(!x.2==2)=false,(!x.2==2)=false,(!x.2==2)=false,(!x.2==2)=false,(!aS x.2 x.4==0)=false,True,(!aG x.1==0)=false,x.1.size.le 1000000000]:=by kernel_rfl
theorem Ob (es:VQ) (cl:Nat) (x:ax) (f g:cp) (i j:Nat):ao lp 52 400 (fN es cl x) ([(17,.hit j (cU f) f.2),(22,.cr)]++ff [13,14,15,18,19,20,23,24,25,26,27,28,29,30] true++ff [0,1,2,3,4,5,6,7,8,9,10,11,12,16,21,31] false++VP) (.int .i64 24)=[vZ 24=vZ 24,decide ((↑es.length:Int)≥128)=true,true=true,true=true,true=true,true=true,true=true,true=true,true=true,∀ (e:SV × SV × Nat),e∈es->a8 x.p e.fst,(!f.fst.2==2)=false,aC x.1=true,aC x.1=true,aC x.1=true,(∀ (e:SV × SV × Nat),e∈List.take j es->a8 (aj x.p) e.fst)/\es[j]?=some (SV.v (VS (aj x.1)),cU f,f.2),false=false,aC x.1=true,aC x.1=true,aC x.1=true,x.1.size.le 1000000000,(x.2==0)=false,false=false,(!x.2==2)=false,(!x.2==2)=false,(!x.2==2)=false,(!x.2==2)=false,(!x.2==2)=false,(!x.2==2)=false,(!aS x.2 x.4==0)=false,True,(!aG x.1==0)=false,x.1.size.le 1000000000]:=by kernel_rfl
theorem Oj (es:VQ) (cl:Nat) (x:ax) (f g:cp) (i j:Nat):ao lp 52 400 (fN es cl x) ([(17,.hit j (cU f) f.2),(22,.cr)]++ff [13,14,15,18,19,20,23,24,25,26,27,28] true++ff [0,1,2,3,4,5,6,7,8,9,10,11,12,16,21,30] false++VP) (.int .i64 0)=[vZ 0=vZ 0,decide ((↑es.length:Int)≥128)=false,true=true,true=true,true=true,true=true,true=true,true=true,∀ (e:SV × SV × Nat),e∈es->a8 x.p e.fst,(!f.fst.2==2)=false,aC x.1=true,aC x.1=true,aC x.1=true,(∀ (e:SV × SV × Nat),e∈List.take j es->a8 (aj x.p) e.fst)/\es[j]?=some (SV.v (VS (aj x.1)),cU f,f.2),false=false,aC x.1=true,aC x.1=true,aC x.1=true,x.1.size.le 1000000000,(x.2==0)=false,false=false,(!x.2==2)=false,(!x.2==2)=false,(!x.2==2)=false,(!x.2==2)=false,(!x.2==2)=false,(!x.2==2)=false,(!aS x.2 x.4==0)=false,True,(!aG x.1==0)=false,x.1.size.le 1000000000]:=by kernel_rfl
def KS:Option (SO × Bool):=some (.row [.v (.map none)] 96 (0,0) none,false)
def G0 (f:Value):SM:=(a6 ee 90 [.ptr 0 0,.v f] (bG 6 1 0 [KS])).getD dn
def jz (x:ax):SM:=(a6 lp 52 [.ptr 0 0,.v (.string x.p),jC x] (bG 6 1 0 [KS])).getD dn
theorem TO (f:Value):ao ee 90 60 (G0 f) VP (.slice none 0 0)=[VT none 0 0=VT none 0 0,VT none 0 0=VT none 0 0/\Value.func (Fn.func 89) { toList:=[]:Array Value } { toList:=[]:Array Value }=Value.func (Fn.func 89) { toList:=[]:Array Value } { toList:=[]:Array Value }]:=by kernel_rfl
theorem Rh (x:ax):ao lp 52 400 (jz x) (ff [1] true++ff [0,2] false++VP) (.int .i64 (aG x.p))=[vZ (aG x.1)=vZ (aG x.1),(!aG x.1==0)=true,x.1.size.le 1000000000]:=by kernel_rfl
theorem UJ (x:ax):ao lp 52 400 (jz x) (ff [3] true++ff [0,1,2,4] false++VP) (.int .i64 (aS x.k x.l))=[vZ (aS x.2 x.4)=vZ (aS x.2 x.4),(!aS x.2 x.4==0)=true,True,(!aG x.1==0)=false,x.1.size.le 1000000000]:=by kernel_rfl
theorem Ru (x:ax):ao lp 52 400 (jz x) (ff [4,5,6,8,9,10,12] true++ff [0,1,2,3,7,11,13] false++VP) (.int .i64 0)=[vZ 0=vZ 0,(x.2==0)=true,false=false,(!x.2==2)=true,(!x.2==2)=true,(!x.2==2)=true,96=96/\cy x.1 (mapOf [])=[]/\x.1.size<=1000000000,(!x.2==2)=true,(!x.2==2)=true,(!x.2==2)=true,(!aS x.2 x.4==0)=false,True,(!aG x.1==0)=false,x.1.size.le 1000000000]:=by kernel_rfl
theorem Ql (x:ax):ao lp 52 400 (jz x) (ff [4,5,6,8,9,10,14,15,16,18,19,20,21] true++ff [0,1,2,3,7,11,12,13,17,22] false++VP) (.int .i64 22)=[vZ 22=vZ 22,true=true,aC x.1=true,aC x.1=true,aC x.1=true,false=false,aC x.1=true,aC x.1=true,aC x.1=true,x.1.size.le 1000000000,(x.2==0)=false,false=false,(!x.2==2)=true,(!x.2==2)=true,(!x.2==2)=true,96=96/\cy x.1 (mapOf [])=[]/\x.1.size<=1000000000,(!x.2==2)=true,(!x.2==2)=true,(!x.2==2)=true,(!aS x.2 x.4==0)=false,True,(!aG x.1==0)=false,x.1.size.le 1000000000]:=by kernel_rfl
theorem PZ (x:ax):ao lp 52 400 (jz x) (ff [4,5,6,8,9,10,21,22,23,24,25,26,27] true++ff [0,1,2,3,7,11,12,13,14,15,16,17,18,19,20,28,29] false++VP) (.int .i64 0)=[vZ 0=vZ 0,false=false,true=true,true=true,true=true,true=true,true=true,true=true,true=true,false=false,aC x.1=false,aC x.1=false,aC x.1=false,aC x.1=false,aC x.1=false,aC x.1=false,x.1.size.le 1000000000,(x.2==0)=false,false=false,(!x.2==2)=true,(!x.2==2)=true,(!x.2==2)=true,96=96/\cy x.1 (mapOf [])=[]/\x.1.size<=1000000000,(!x.2==2)=true,(!x.2==2)=true,(!x.2==2)=true,(!aS x.2 x.4==0)=false,True,(!aG x.1==0)=false,x.1.size.le 1000000000]:=by kernel_rfl
theorem PA (x:ax):ao lp 52 400 (jz x) (ff [13,14,15,17,18,19,20] true++ff [0,1,2,3,4,5,6,7,8,9,10,11,12,16,21] false++VP) (.int .i64 22)=[vZ 22=vZ 22,true=true,aC x.1=true,aC x.1=true,aC x.1=true,false=false,aC x.1=true,aC x.1=true,aC x.1=true,x.1.size.le 1000000000,(x.2==0)=false,false=false,(!x.2==2)=false,(!x.2==2)=false,(!x.2==2)=false,(!x.2==2)=false,(!x.2==2)=false,(!x.2==2)=false,(!aS x.2 x.4==0)=false,True,(!aG x.1==0)=false,x.1.size.le 1000000000]:=by kernel_rfl
theorem Qe (x:ax):ao lp 52 400 (jz x) (ff [20,21,22,23,24,25,26] true++ff [0,1,2,3,4,5,6,7,8,9,10,11,12,13,14,15,16,17,18,19,27,28] false++VP) (.int .i64 0)=[vZ 0=vZ 0,false=false,true=true,true=true,true=true,true=true,true=true,true=true,true=true,false=false,aC x.1=false,aC x.1=false,aC x.1=false,aC x.1=false,aC x.1=false,aC x.1=false,x.1.size.le 1000000000,(x.2==0)=false,false=false,(!x.2==2)=false,(!x.2==2)=false,(!x.2==2)=false,(!x.2==2)=false,(!x.2==2)=false,(!x.2==2)=false,(!aS x.2 x.4==0)=false,True,(!aG x.1==0)=false,x.1.size.le 1000000000]:=by kernel_rfl
def iG (w:World) (b:Nat):Prop:=w.heap[b]?=some (.cells #[.map none] 96 (0,0))
theorem vB {A:SV} {sh:SH} {es:VQ} {cl:Nat} {q:Prop} (h:qj A sh=some (es,cl,q)) (hq:q) {ν:aP} {M:Own} {w0 w:World} (hr:HR ν M w0 sh w) {y:Value} (hv:VR ν A y):
  ∃ b,y=fy b/\((∃ m,b≠m/\kK w b m (mapOf es) cl/\dW es cl)\/(es=[]/\iG w b)):=by
 unfold qj at h;split at h
 ·rename_i i;split at h
  ·rename_i m t mk hl;split at h
   ·rename_i es' cl' mk2 hm;cases h;obtain ⟨rfl,hT⟩:=hq;obtain ⟨b,hb,rfl⟩:=VR.aF.1 hv;obtain ⟨hi,hgi,b',ob,YM,ho,YO,_⟩:=hr.look hl;rw [hb] at YM;cases YM;obtain ⟨hi2,hgi2,b2,υ,Za,ho2,hor2,_⟩:=hr.look hm
    have him:i≠m:=by
     rintro rfl
     rw [hl] at hm;cases hm
    have YI:b.1≠b2.1:=fun e=>him (hr.inj i m hi hi2 (by rw [hgi];simp) (by rw [hgi2];simp) b b2 hb Za e);refine ⟨b.1,rfl,.inl ⟨b2.1,YI,⟨?_,?_⟩,hT⟩⟩
    ·obtain ⟨ys,rest,rfl,Z4,hx⟩:=YO;obtain ⟨z1,u,rfl,r1,hu⟩:=Z4.cons_inv;obtain rfl:=hu.ay;obtain ⟨b3,hb3,rfl⟩:=VR.cV.1 r1;rw [Za] at hb3;cases hb3
     have h0:rest=[]:=by
      have:([Value.map (some b2.1)]++rest).length=1:=hx;simpa using this
     subst h0;rw [ho];rfl
    ·obtain ⟨l,rfl,hl2⟩:=hor2;rw [hT.1] at hl2;rw [ho2,rU hl2]
   ·cases h
  ·rename_i t mk hl;cases h;subst hq;obtain ⟨b,hb,rfl⟩:=VR.aF.1 hv;obtain ⟨hi,hgi,b',ob,YM,ho,YO,_⟩:=hr.look hl;rw [hb] at YM;cases YM;refine ⟨b.1,rfl,.inr ⟨rfl,?_⟩⟩;obtain ⟨ys,rest,rfl,Z4,hx⟩:=YO;obtain ⟨z1,u,rfl,r1,hu⟩:=Z4.cons_inv;obtain rfl:=hu.ay;obtain rfl:=VR.ae.1 r1
   have h0:rest=[]:=by
    have:([Value.map none]++rest).length=1:=hx;simpa using this
   subst h0;unfold iG;rw [ho];rfl
  ·cases h
 ·cases h
theorem xY {w:World} {b:Nat} (f:Value) (hm:MX w) (hA:iG w b):Calls Tryz.prog 90 #[fy b,f] w (EF w []):=by
 refine aZ (E:=ee) rfl (d:=6) (l:=[(b,0)]) (os:=[.row [.v (.map none)] 96 (0,0) none]) rfl (by simp) (by simp) ?_ rfl (args:=[.ptr 0 0,.v f]) (a:=[fy b,f]) (S0:=G0 f) (by kernel_rfl) (au.cons (VR.aF.2 ⟨(b,0),rfl,rfl⟩) (au.cons (VR.ae.2 rfl) au.nil)) fun cs0=>?_
 ·intro j o' b' c' h1 h2;match j with
  | 0=>
   simp only [Wa,Option.some.injEq] at h1 h2;subst h1;cases h2;exact ⟨_,hA,[.map none],[],rfl,au.cons (VR.ae.2 rfl) au.nil,rfl⟩
  | j+1=>simp at h1
 ·have hM:∀ z,¬ (aD [(b,0)] [(SO.row [.v (.map none)] 96 (0,0) none,false)]) z:=fun z=>aY (os:=[_])
  have hB:dh (aD [(b,0)] [(SO.row [.v (.map none)] 96 (0,0) none,false)]) w (aD [(b,0)] [(SO.row [.v (.map none)] 96 (0,0) none,false)]) w:=dh.refl (dN (os:=[(SO.row [.v (.map none)] 96 (0,0) none,false)]) (by
   intro j o' m b' c' h1 h2;match j with
   | 0=>
    simp only [Wa,Option.some.injEq] at h1 h2;cases h1;cases h2;exact ⟨_,hA,[.map none],[],rfl,au.cons (VR.ae.2 rfl) au.nil,rfl⟩
   | j+1=>simp at h1)) (fun _ h=>h)
  refine cg (qQ hM hB hm) hM (n:=60) (o:=VP) (v:=.slice none 0 0) ⟨?_⟩ fun w' hw=>⟨hw,_,rfl,.inl ⟨rfl,rfl⟩⟩;rw [TO];simp only [ah,VV,VX,VW]
theorem uK {w:World} {b:Nat} {p:ByteArray} (hm:MX w) (hA:iG w b):Calls Tryz.prog 83 #[fy b,.string p] w (EF w []):=by
 have hbl:b<w.heap.size:=(VY.1 hA).1;have hb:Below w.heap.size w (w.alloc (.cells #[.string p] 9)):=(Below.refl _ _).alloc (Wx _) _;have hm':MX (w.alloc (.cells #[.string p] 9)):=hm.keep fun k hk=>hb.block k hk;have hA':iG (w.alloc (.cells #[.string p] 9)) b:=(hb.block b hbl).trans hA;have cs:=fun f=>xY f hm' hA';clear hA hA';go_enter Tryz.func83,Tryz.ntmps83
 go_wp2_with (go_at_call 90;refine (cs _).mono ?_;rintro e w' ⟨Za,v,rfl,hv⟩)
 go_ret
 have h3:w.heap.size<=(w.alloc (.cells #[.string p] 9)).heap.size:=hb.size;refine ⟨hb.trans (Za.mono h3),_,rfl,?_⟩;rcases hv with hv | ⟨YI,_⟩
 ·exact .inl ⟨rfl,hv.2⟩
 ·exact absurd rfl YI
theorem nT (p:ByteArray):cy p []=[]:=Wd.1 (bz []).length_eq
theorem o4 {A:SV} {sh:SH} {es:VQ} {cl:Nat} {q:Prop} (h:qj A sh=some (es,cl,q)) (hq:q) {ν:aP} {M:Own} {w0 w:World} (hr:HR ν M w0 sh w) (hX:MX w) {p:ByteArray} (hp:p.size<=1000000000) {a:List Value} (ha:au ν [A,.v (.string p)] a):
  Calls Tryz.prog 83 a.toArray w (EF w (cy p (mapOf es))):=by
 obtain ⟨y1,ZY,rfl,q1,YV⟩:=ha.cons_inv;obtain ⟨y2,as2,rfl,q2,ZL⟩:=YV.cons_inv;obtain rfl:=ZL.ay;obtain rfl:=VR.ae.1 q2;obtain ⟨b,rfl,⟨m,YI,hA,hT⟩ | ⟨rfl,hA⟩⟩:=vB h hq hr q1
 ·exact xD hX hA YI hT.2.1 hT.2.2 hp
 ·rw [show cy p (mapOf [])=[] from nT p];exact uK hX hA
theorem Dq:bh Tryz.prog MX (83,gq (fl O5) (de PK)):=by
 refine bh.br (gK ⟨_,Tryz.func83,by kernel_rfl,by kernel_rfl⟩ fun args sh ys n C elem ex p h hp ν M w0 w a hr hX ha=>?_) (dR ⟨_,Tryz.func83,by kernel_rfl,by kernel_rfl⟩ fun args sh v p h hp ν M w0 w a hr hX ha=>?_)
 ·dsimp only [O5] at h;split at h
  ·split at h
   ·rename_i es cl q ht;cases h;refine (o4 ht hp.1 hr hX hp.2.2 ha).mono fun e w' ⟨hB,v,he,h⟩=>⟨hB,v,he,?_⟩;rcases h with ⟨h1,_⟩ | ⟨_,h3⟩
    ·exact absurd h1 hp.2.1
    ·exact h3
   ·cases h
  ·cases h
 ·dsimp only [PK] at h;split at h
  ·split at h
   ·rename_i es cl q ht;cases h;refine (o4 ht hp.1 hr hX hp.2.2 ha).mono fun e w' ⟨hB,v,he,h⟩=>⟨hB,?_⟩;rcases h with ⟨_,h3⟩ | ⟨h1,_⟩
    ·rw [he,h3]
    ·exact absurd hp.2.1 h1
   ·cases h
  ·cases h
theorem QV {M:Own} {w0:World} (hM:∀ z,¬ M z) (h:MX w0):aK lp M w0:=
 aK.uS (Checked.mixed Tryz.checked) (by kernel_rfl) (fk.of iI rfl dK) (dz.list (X:=MX) (l:=Qp) rfl (fun r hr=>by
  simp only [Qp,V8,Ww,Xc] at hr
  rcases hr with rfl | rfl | rfl | rfl
  ·exact bh.pure (r:=(81,kM)) oq
  ·exact bh.pure (r:=(82,j0)) (Fw wm)
  ·exact Dq
  ·exact bh.pure (r:=(84,C7)) D6) fun ν s w hr _=>h.keep fun k hk=>hr.frame k hk (hM k)) (fun f g h=>by cases h)
def BN (E:List cp) (p:ByteArray):Option cp:=E.find? fun e=>pI p e.1
def jN (E:List cp) (p:ByteArray):Int:=match BN E p with | some e=>e.1.k | none=>0
def eE (E:List cp) (x:ax):Int:=
 if aR x.p=false then 23
 else if aS x.k x.l≠0 then aS x.k x.l
 else if x.k≠2/\cy x.p E≠[] then 22
 else if x.k=0 then 0
 else if aC x.p=true/\jN E (aj x.p)≠2 then 22
 else if BN E x.p=none/\128<=E.length then 24
 else 0
theorem F0 {E:List cp} (hn:(E.map fun e=>e.1.p).Nodup) {f:cp} (hf:f∈E) {p:ByteArray} (hp:f.1.p=p):BN E p=some f:=by
 unfold BN;cases hq:E.find? (fun e=>pI p e.1) with
 | none=>rw [WY] at hq;exact absurd (eY.2 hp) (hq f hf)
 | some e=>
  have h1:=WV hq;have h2:e.1.p=p:=eY.1 (by have h3:=Xr hq;exact h3);obtain ⟨i,hi⟩:=WZ h1;obtain ⟨j,hj⟩:=WZ hf;have:=iw hn hi hj (by rw [h2,hp]);subst this;rw [hi] at hj;exact hj
theorem CK {E:List cp} {p:ByteArray} (h:∀ e∈E,e.1.p≠p):BN E p=none:=by
 unfold BN;rw [WY];intro e he hq;exact h e he (eY.1 hq)
section
variable {w0:World} {cs0:List Frame} {E:List cp} {cl:Nat} {x:ax} {M:Own} {ν:aP}
theorem Hk (hm:MX w0) (hM:∀ z,¬ M z) (hB:dO E cl) (Y2:E.length<=1000) (hp:x.p.size<=1000000000):
  af lp M w0 cs0 52 (fun e w'=>Below w0.heap.size w0 w'/\e=.returned (.int .i64 (eE E x))) ν (fN (E.map mI) cl x):=by
 have K:=QV hM hm;have hT:dW (E.map mI) cl:=⟨by rw [bj],by rw [bj];exact hB,by rw [bj];exact Y2⟩
 have go:∀ {o v},mY (ao lp 52 400 (fN (E.map mI) cl x) o v)->v=.int .i64 (eE E x)->af lp M w0 cs0 52 (fun e w'=>Below w0.heap.size w0 w'/\e=.returned (.int .i64 (eE E x))) ν (fN (E.map mI) cl x):=fun hd e=>
  cg K hM hd fun w' hw=>⟨hw,by rw [e]⟩
 have c1:=im x.p;have pz:=wQ x.p;let z:cp:=(x,0);cases g:aR x.p
 ·have d1:(!aG x.1==(0:Int))=true:=by show (!(aG x.p==0))=true;rw [c1,g];rfl
  refine go (o:=(ff [1] true++ff [0,2] false++VP)) (v:=.int .i64 (aG x.p)) ⟨?_⟩ (by unfold eE;rw [if_pos g];simp [aG,g]);rw [Rz (f:=z) (g:=z) (i:=0) (j:=0)];simp only [ah,d1,VV,VX,VW];exact hp
 have d1:(!aG x.1==(0:Int))=false:=by show (!(aG x.p==0))=false;rw [c1,g];rfl
 by_cases z6:aS x.k x.l=0
 case neg=>
  have d2:(!aS x.2 x.4==(0:Int))=true:=by simpa using z6
  refine go (o:=(ff [3] true++ff [0,1,2,4] false++VP)) (v:=.int .i64 (aS x.k x.l)) ⟨?_⟩ (by unfold eE;rw [if_neg (by simp [g]),if_pos z6]);rw [TC (f:=z) (g:=z) (i:=0) (j:=0)];simp only [ah,d1,d2,VV,VX,VW];exact hp
 have d2:(!aS x.2 x.4==(0:Int))=false:=by simpa using z6
 have hit:∀ {q},(∃ f∈E,f.1.p=q)->∃ (f:cp) (j:Nat),BN E q=some f/\f.1.p=q/\(∀ e∈List.take j (E.map mI),a8 q e.fst)/\(E.map mI)[j]?=some (SV.v (Value.string q),cU f,f.2):=by
  rintro q ⟨f,hf,rfl⟩
  obtain ⟨j,hj,_⟩:=pA hB.names hf;exact ⟨f,j,F0 hB.names hf rfl,rfl,hj.1,hj.2⟩
 have cr:∀ {q},¬ (∃ f∈E,f.1.p=q)->BN E q=none/\∀ e∈E.map mI,a8 q e.fst:=fun {q} h=>by
  have h1:∀ e∈E,e.1.p≠q:=fun e he hq=>h ⟨e,he,hq⟩;exact ⟨CK h1,kj h1⟩
 have τ:(E.map mI).length=E.length:=WH _;by_cases c0:x.k=0
 ·have d0:(x.2==(0:Int))=true:=Xp.2 c0;have d3:(!x.2==(2:Int))=true:=by rw [show x.2=0 from c0];rfl
  by_cases cb:cy x.p E=[]
  ·have cb':cy x.1 E=[]:=cb;refine go (o:=(ff [4,5,6,8,9,10,12] true++ff [0,1,2,3,7,11,13] false++VP)) (v:=.int .i64 0) ⟨?_⟩ (by unfold eE;rw [if_neg (by simp [g]),if_neg (by simp [z6]),if_neg (by simp [cb]),if_pos c0]);rw [Th (f:=z) (g:=z) (i:=0) (j:=0)];simp only [ah,bj,d1,d2,d3,d0,VV,VX,VW];repeat' apply And.intro
   all_goals first | exact hp | exact hT | exact hT.1 | exact hT.2.1 | exact hT.2.2 | exact cb' | skip
  ·have db:decide (((cy x.1 E).length:Int)>(0:Int))=true:=V0 (by have:=Xh.2 cb;exact_mod_cast this);have cb':cy x.1 E≠[]:=cb;refine go (o:=(ff [4,5,6,7,8,9,10,11] true++ff [0,1,2,3,12] false++VP)) (v:=.int .i64 22) ⟨?_⟩ (by unfold eE;rw [if_neg (by simp [g]),if_neg (by simp [z6]),if_pos ⟨by omega,cb⟩]);rw [QU (f:=z) (g:=z) (i:=0) (j:=0)];simp only [ah,bj,d1,d2,d3,db,VV,VX,VW];repeat' apply And.intro
   all_goals first | exact hp | exact hT | exact hT.1 | exact hT.2.1 | exact hT.2.2 | exact cb' | skip
 have d0:(x.2==(0:Int))=false:=Wr.2 c0;by_cases c2:x.k=2
 ·have d3:(!x.2==(2:Int))=false:=by simpa using c2
  have hN:eE E x=if aC x.p=true/\jN E (aj x.p)≠2 then 22 else if BN E x.p=none/\128<=E.length then 24 else 0:=by
   unfold eE;rw [if_neg (by simp [g]),if_neg (by simp [z6]),if_neg (by simp [c2]),if_neg c0]
  cases u:aC x.p
  ·have u':aC x.1=false:=u;rw [u,if_neg (by simp)] at hN;by_cases ht:∃ f∈E,f.1.p=x.p
   ·obtain ⟨gg,jj,ga,gp,gj1,gj2⟩:=hit ht;refine go (o:=([(20,.hit jj (cU gg) gg.2)]++ff [0,1,2,3,4,5,6,7,8,9,10,11,12,13,14,15,16,17,18,19,21,22,23,24,25,26,27,28,29] false++VP)) (v:=.int .i64 0) ⟨?_⟩ (by rw [hN,if_neg (by simp [ga])]);rw [N9 (f:=z) (j:=0) (g:=gg) (i:=jj)];simp only [ah,bj,d1,d2,d3,d0,τ,u',VV,VX,VW];repeat' apply And.intro
    all_goals first | exact hp | exact hT | exact hT.1 | exact hT.2.1 | exact hT.2.2 | exact gj1 | exact gj2 | skip
   ·obtain ⟨ga,gm⟩:=cr ht;by_cases cf:128<=E.length
    ·have df:decide ((E.length:Int)≥(128:Int))=true:=V0 (by omega);refine go (o:=([(20,.cr)]++ff [21,22,23,24,25,26,27,28] true++ff [0,1,2,3,4,5,6,7,8,9,10,11,12,13,14,15,16,17,18,19,29] false++VP)) (v:=.int .i64 24) ⟨?_⟩ (by rw [hN,if_pos ⟨ga,cf⟩]);rw [Nz (f:=z) (j:=0) (g:=z) (i:=0)];simp only [ah,bj,d1,d2,d3,d0,τ,u',df,VV,VX,VW];repeat' apply And.intro
     all_goals first | exact hp | exact hT | exact hT.1 | exact hT.2.1 | exact hT.2.2 | exact gm | skip
    ·have df:decide ((E.length:Int)≥(128:Int))=false:=V2 (by omega);refine go (o:=([(20,.cr)]++ff [21,22,23,24,25,26] true++ff [0,1,2,3,4,5,6,7,8,9,10,11,12,13,14,15,16,17,18,19,28] false++VP)) (v:=.int .i64 0) ⟨?_⟩ (by rw [hN,if_neg (by omega)]);rw [OH (f:=z) (j:=0) (g:=z) (i:=0)];simp only [ah,bj,d1,d2,d3,d0,τ,u',df,VV,VX,VW];repeat' apply And.intro
     all_goals first | exact hp | exact hT | exact hT.1 | exact hT.2.1 | exact hT.2.2 | exact gm | skip
  ·have u':aC x.1=true:=u;rw [u] at hN;by_cases hu:∃ f∈E,f.1.p=aj x.p
   ·obtain ⟨f,j,fa,fp,hj1,hj2⟩:=hit hu;have hk:jN E (aj x.p)=f.1.k:=by unfold jN;rw [fa]
    rw [hk] at hN;by_cases ck:f.1.k=2
    ·have du:(!f.fst.2==(2:Int))=false:=by simpa using ck
     rw [if_neg (by simp [ck])] at hN;by_cases ht:∃ f∈E,f.1.p=x.p
     ·obtain ⟨gg,jj,ga,gp,gj1,gj2⟩:=hit ht;refine go (o:=([(17,.hit j (cU f) f.2),(22,.hit jj (cU gg) gg.2)]++ff [13,14,15,18,19,20] true++ff [0,1,2,3,4,5,6,7,8,9,10,11,12,16,21,23,24,25,26,27,28,29,30,31] false++VP)) (v:=.int .i64 0) ⟨?_⟩ (by rw [hN,if_neg (by simp [ga])]);rw [Ow (f:=f) (j:=j) (g:=gg) (i:=jj)];simp only [ah,bj,d1,d2,d3,d0,τ,u',du,VV,VX,VW];repeat' apply And.intro
      all_goals first | exact hp | exact hT | exact hT.1 | exact hT.2.1 | exact hT.2.2 | exact hj1 | exact hj2 | exact gj1 | exact gj2 | skip
     ·obtain ⟨ga,gm⟩:=cr ht;by_cases cf:128<=E.length
      ·have df:decide ((E.length:Int)≥(128:Int))=true:=V0 (by omega);refine go (o:=([(17,.hit j (cU f) f.2),(22,.cr)]++ff [13,14,15,18,19,20,23,24,25,26,27,28,29,30] true++ff [0,1,2,3,4,5,6,7,8,9,10,11,12,16,21,31] false++VP)) (v:=.int .i64 24) ⟨?_⟩ (by rw [hN,if_pos ⟨ga,cf⟩]);rw [Ob (f:=f) (j:=j) (g:=z) (i:=0)];simp only [ah,bj,d1,d2,d3,d0,τ,u',du,df,VV,VX,VW];repeat' apply And.intro
       all_goals first | exact hp | exact hT | exact hT.1 | exact hT.2.1 | exact hT.2.2 | exact hj1 | exact hj2 | exact gm | skip
      ·have df:decide ((E.length:Int)≥(128:Int))=false:=V2 (by omega);refine go (o:=([(17,.hit j (cU f) f.2),(22,.cr)]++ff [13,14,15,18,19,20,23,24,25,26,27,28] true++ff [0,1,2,3,4,5,6,7,8,9,10,11,12,16,21,30] false++VP)) (v:=.int .i64 0) ⟨?_⟩ (by rw [hN,if_neg (by omega)]);rw [Oj (f:=f) (j:=j) (g:=z) (i:=0)];simp only [ah,bj,d1,d2,d3,d0,τ,u',du,df,VV,VX,VW];repeat' apply And.intro
       all_goals first | exact hp | exact hT | exact hT.1 | exact hT.2.1 | exact hT.2.2 | exact hj1 | exact hj2 | exact gm | skip
    ·have du:(!f.fst.2==(2:Int))=true:=by simpa using ck
     rw [if_pos ⟨rfl,ck⟩] at hN;refine go (o:=([(17,.hit j (cU f) f.2)]++ff [13,14,15,18,19,20,21] true++ff [0,1,2,3,4,5,6,7,8,9,10,11,12,16,22] false++VP)) (v:=.int .i64 22) ⟨?_⟩ (by rw [hN]);rw [NK (f:=f) (j:=j) (g:=z) (i:=0)];simp only [ah,bj,d1,d2,d3,d0,τ,u',du,VV,VX,VW];repeat' apply And.intro
     all_goals first | exact hp | exact hT | exact hT.1 | exact hT.2.1 | exact hT.2.2 | exact hj1 | exact hj2 | skip
   ·obtain ⟨fa,fm⟩:=cr hu;have hk:jN E (aj x.p)=0:=by unfold jN;rw [fa]
    rw [hk,if_pos ⟨rfl,by decide⟩] at hN;refine go (o:=([(17,.cr),(22,.cr)]++ff [13,14,15,18,19,20] true++ff [0,1,2,3,4,5,6,7,8,9,10,11,12,16] false++VP)) (v:=.int .i64 22) ⟨?_⟩ (by rw [hN]);rw [Oc (f:=z) (j:=0) (g:=z) (i:=0)];simp only [ah,bj,d1,d2,d3,d0,τ,u',VV,VX,VW];repeat' apply And.intro
    all_goals first | exact hp | exact hT | exact hT.1 | exact hT.2.1 | exact hT.2.2 | exact fm | skip
 ·have d3:(!x.2==(2:Int))=true:=by simpa using c2
  by_cases cb:cy x.p E=[]
  case neg=>
   have db:decide (((cy x.1 E).length:Int)>(0:Int))=true:=V0 (by have:=Xh.2 cb;exact_mod_cast this);have cb':cy x.1 E≠[]:=cb;refine go (o:=(ff [4,5,6,7,8,9,10,11] true++ff [0,1,2,3,12] false++VP)) (v:=.int .i64 22) ⟨?_⟩ (by unfold eE;rw [if_neg (by simp [g]),if_neg (by simp [z6]),if_pos ⟨c2,cb⟩]);rw [QU (f:=z) (g:=z) (i:=0) (j:=0)];simp only [ah,bj,d1,d2,d3,db,VV,VX,VW];repeat' apply And.intro
   all_goals first | exact hp | exact hT | exact hT.1 | exact hT.2.1 | exact hT.2.2 | exact cb' | skip
  have cb':cy x.1 E=[]:=cb
  have hN:eE E x=if aC x.p=true/\jN E (aj x.p)≠2 then 22 else if BN E x.p=none/\128<=E.length then 24 else 0:=by
   unfold eE;rw [if_neg (by simp [g]),if_neg (by simp [z6]),if_neg (by simp [cb]),if_neg c0]
  cases u:aC x.p
  ·have u':aC x.1=false:=u;rw [u,if_neg (by simp)] at hN;by_cases ht:∃ f∈E,f.1.p=x.p
   ·obtain ⟨gg,jj,ga,gp,gj1,gj2⟩:=hit ht;refine go (o:=([(21,.hit jj (cU gg) gg.2)]++ff [4,5,6,8,9,10] true++ff [0,1,2,3,7,11,12,13,14,15,16,17,18,19,20,22,23,24,25,26,27,28,29,30] false++VP)) (v:=.int .i64 0) ⟨?_⟩ (by rw [hN,if_neg (by simp [ga])]);rw [N7 (f:=z) (j:=0) (g:=gg) (i:=jj)];simp only [ah,bj,d1,d2,d3,d0,τ,u',VV,VX,VW];repeat' apply And.intro
    all_goals first | exact hp | exact hT | exact hT.1 | exact hT.2.1 | exact hT.2.2 | exact cb' | exact gj1 | exact gj2 | skip
   ·obtain ⟨ga,gm⟩:=cr ht;by_cases cf:128<=E.length
    ·have df:decide ((E.length:Int)≥(128:Int))=true:=V0 (by omega);refine go (o:=([(21,.cr)]++ff [4,5,6,8,9,10,22,23,24,25,26,27,28,29] true++ff [0,1,2,3,7,11,12,13,14,15,16,17,18,19,20,30] false++VP)) (v:=.int .i64 24) ⟨?_⟩ (by rw [hN,if_pos ⟨ga,cf⟩]);rw [NU (f:=z) (j:=0) (g:=z) (i:=0)];simp only [ah,bj,d1,d2,d3,d0,τ,u',df,VV,VX,VW];repeat' apply And.intro
     all_goals first | exact hp | exact hT | exact hT.1 | exact hT.2.1 | exact hT.2.2 | exact cb' | exact gm | skip
    ·have df:decide ((E.length:Int)≥(128:Int))=false:=V2 (by omega);refine go (o:=([(21,.cr)]++ff [4,5,6,8,9,10,22,23,24,25,26,27] true++ff [0,1,2,3,7,11,12,13,14,15,16,17,18,19,20,29] false++VP)) (v:=.int .i64 0) ⟨?_⟩ (by rw [hN,if_neg (by omega)]);rw [Ni (f:=z) (j:=0) (g:=z) (i:=0)];simp only [ah,bj,d1,d2,d3,d0,τ,u',df,VV,VX,VW];repeat' apply And.intro
     all_goals first | exact hp | exact hT | exact hT.1 | exact hT.2.1 | exact hT.2.2 | exact cb' | exact gm | skip
  ·have u':aC x.1=true:=u;rw [u] at hN;by_cases hu:∃ f∈E,f.1.p=aj x.p
   ·obtain ⟨f,j,fa,fp,hj1,hj2⟩:=hit hu;have hk:jN E (aj x.p)=f.1.k:=by unfold jN;rw [fa]
    rw [hk] at hN;by_cases ck:f.1.k=2
    ·have du:(!f.fst.2==(2:Int))=false:=by simpa using ck
     rw [if_neg (by simp [ck])] at hN;by_cases ht:∃ f∈E,f.1.p=x.p
     ·obtain ⟨gg,jj,ga,gp,gj1,gj2⟩:=hit ht;refine go (o:=([(18,.hit j (cU f) f.2),(23,.hit jj (cU gg) gg.2)]++ff [4,5,6,8,9,10,14,15,16,19,20,21] true++ff [0,1,2,3,7,11,12,13,17,22,24,25,26,27,28,29,30,31,32] false++VP)) (v:=.int .i64 0) ⟨?_⟩ (by rw [hN,if_neg (by simp [ga])]);rw [NY (f:=f) (j:=j) (g:=gg) (i:=jj)];simp only [ah,bj,d1,d2,d3,d0,τ,u',du,VV,VX,VW];repeat' apply And.intro
      all_goals first | exact hp | exact hT | exact hT.1 | exact hT.2.1 | exact hT.2.2 | exact cb' | exact hj1 | exact hj2 | exact gj1 | exact gj2 | skip
     ·obtain ⟨ga,gm⟩:=cr ht;by_cases cf:128<=E.length
      ·have df:decide ((E.length:Int)≥(128:Int))=true:=V0 (by omega);refine go (o:=([(18,.hit j (cU f) f.2),(23,.cr)]++ff [4,5,6,8,9,10,14,15,16,19,20,21,24,25,26,27,28,29,30,31] true++ff [0,1,2,3,7,11,12,13,17,22,32] false++VP)) (v:=.int .i64 24) ⟨?_⟩ (by rw [hN,if_pos ⟨ga,cf⟩]);rw [Nv (f:=f) (j:=j) (g:=z) (i:=0)];simp only [ah,bj,d1,d2,d3,d0,τ,u',du,df,VV,VX,VW];repeat' apply And.intro
       all_goals first | exact hp | exact hT | exact hT.1 | exact hT.2.1 | exact hT.2.2 | exact cb' | exact hj1 | exact hj2 | exact gm | skip
      ·have df:decide ((E.length:Int)≥(128:Int))=false:=V2 (by omega);refine go (o:=([(18,.hit j (cU f) f.2),(23,.cr)]++ff [4,5,6,8,9,10,14,15,16,19,20,21,24,25,26,27,28,29] true++ff [0,1,2,3,7,11,12,13,17,22,31] false++VP)) (v:=.int .i64 0) ⟨?_⟩ (by rw [hN,if_neg (by omega)]);rw [Nb (f:=f) (j:=j) (g:=z) (i:=0)];simp only [ah,bj,d1,d2,d3,d0,τ,u',du,df,VV,VX,VW];repeat' apply And.intro
       all_goals first | exact hp | exact hT | exact hT.1 | exact hT.2.1 | exact hT.2.2 | exact cb' | exact hj1 | exact hj2 | exact gm | skip
    ·have du:(!f.fst.2==(2:Int))=true:=by simpa using ck
     rw [if_pos ⟨rfl,ck⟩] at hN;refine go (o:=([(18,.hit j (cU f) f.2)]++ff [4,5,6,8,9,10,14,15,16,19,20,21,22] true++ff [0,1,2,3,7,11,12,13,17,23] false++VP)) (v:=.int .i64 22) ⟨?_⟩ (by rw [hN]);rw [NJ (f:=f) (j:=j) (g:=z) (i:=0)];simp only [ah,bj,d1,d2,d3,d0,τ,u',du,VV,VX,VW];repeat' apply And.intro
     all_goals first | exact hp | exact hT | exact hT.1 | exact hT.2.1 | exact hT.2.2 | exact cb' | exact hj1 | exact hj2 | skip
   ·obtain ⟨fa,fm⟩:=cr hu;have hk:jN E (aj x.p)=0:=by unfold jN;rw [fa]
    rw [hk,if_pos ⟨rfl,by decide⟩] at hN;refine go (o:=([(18,.cr),(23,.cr)]++ff [4,5,6,8,9,10,14,15,16,19,20,21] true++ff [0,1,2,3,7,11,12,13,17] false++VP)) (v:=.int .i64 22) ⟨?_⟩ (by rw [hN]);rw [N8 (f:=z) (j:=0) (g:=z) (i:=0)];simp only [ah,bj,d1,d2,d3,d0,τ,u',VV,VX,VW];repeat' apply And.intro
    all_goals first | exact hp | exact hT | exact hT.1 | exact hT.2.1 | exact hT.2.2 | exact cb' | exact fm | skip
theorem DR (hm:MX w0) (hM:∀ z,¬ M z) (hp:x.p.size<=1000000000):
  af lp M w0 cs0 52 (fun e w'=>Below w0.heap.size w0 w'/\e=.returned (.int .i64 (eE [] x))) ν (jz x):=by
 have K:=QV hM hm
 have go:∀ {o v},mY (ao lp 52 400 (jz x) o v)->v=.int .i64 (eE [] x)->af lp M w0 cs0 52 (fun e w'=>Below w0.heap.size w0 w'/\e=.returned (.int .i64 (eE [] x))) ν (jz x):=fun hd e=>
  cg K hM hd fun w' hw=>⟨hw,by rw [e]⟩
 have c1:=im x.p;have hb:cy x.1 (mapOf [])=[]:=nT x.p;have YM:cy x.p []=[]:=nT x.p;cases g:aR x.p
 ·have d1:(!aG x.1==(0:Int))=true:=by show (!(aG x.p==0))=true;rw [c1,g];rfl
  refine go (o:=(ff [1] true++ff [0,2] false++VP)) (v:=.int .i64 (aG x.p)) ⟨?_⟩ (by unfold eE;rw [if_pos g];simp [aG,g]);rw [Rh];simp only [ah,d1,VV,VX,VW];exact hp
 have d1:(!aG x.1==(0:Int))=false:=by show (!(aG x.p==0))=false;rw [c1,g];rfl
 by_cases z6:aS x.k x.l=0
 case neg=>
  have d2:(!aS x.2 x.4==(0:Int))=true:=by simpa using z6
  refine go (o:=(ff [3] true++ff [0,1,2,4] false++VP)) (v:=.int .i64 (aS x.k x.l)) ⟨?_⟩ (by unfold eE;rw [if_neg (by simp [g]),if_pos z6]);rw [UJ];simp only [ah,d1,d2,VV,VX,VW];exact hp
 have d2:(!aS x.2 x.4==(0:Int))=false:=by simpa using z6
 by_cases c0:x.k=0
 ·have d0:(x.2==(0:Int))=true:=Xp.2 c0;have d3:(!x.2==(2:Int))=true:=by rw [show x.2=0 from c0];rfl
  refine go (o:=(ff [4,5,6,8,9,10,12] true++ff [0,1,2,3,7,11,13] false++VP)) (v:=.int .i64 0) ⟨?_⟩ (by unfold eE;rw [if_neg (by simp [g]),if_neg (by simp [z6]),if_neg (by simp [YM]),if_pos c0]);rw [Ru];simp only [ah,hb,d1,d2,d3,d0,VV,VX,VW];exact ⟨hp,hp⟩
 have d0:(x.2==(0:Int))=false:=Wr.2 c0
 have hN:eE [] x=if aC x.p=true then 22 else 0:=by
  unfold eE;rw [if_neg (by simp [g]),if_neg (by simp [z6]),if_neg (by simp [YM]),if_neg c0];cases aC x.p
  ·rw [if_neg (by simp),if_neg (by simp),if_neg (by simp)]
  ·rw [if_pos ⟨rfl,by show (0:Int)≠2;decide⟩,if_pos rfl]
 cases u:aC x.p
 ·have u':aC x.1=false:=u;rw [u,if_neg (by decide)] at hN;by_cases c2:x.k=2
  ·have d3:(!x.2==(2:Int))=false:=by simpa using c2
   refine go (o:=(ff [20,21,22,23,24,25,26] true++ff [0,1,2,3,4,5,6,7,8,9,10,11,12,13,14,15,16,17,18,19,27,28] false++VP)) (v:=.int .i64 0) ⟨?_⟩ (by rw [hN]);rw [Qe];simp only [ah,hb,d1,d2,d3,d0,u',VV,VX,VW];repeat' apply And.intro
   all_goals first | exact hp | skip
  ·have d3:(!x.2==(2:Int))=true:=by simpa using c2
   refine go (o:=(ff [4,5,6,8,9,10,21,22,23,24,25,26,27] true++ff [0,1,2,3,7,11,12,13,14,15,16,17,18,19,20,28,29] false++VP)) (v:=.int .i64 0) ⟨?_⟩ (by rw [hN]);rw [PZ];simp only [ah,hb,d1,d2,d3,d0,u',VV,VX,VW];repeat' apply And.intro
   all_goals first | exact hp | skip
 ·have u':aC x.1=true:=u;rw [u,if_pos rfl] at hN;by_cases c2:x.k=2
  ·have d3:(!x.2==(2:Int))=false:=by simpa using c2
   refine go (o:=(ff [13,14,15,17,18,19,20] true++ff [0,1,2,3,4,5,6,7,8,9,10,11,12,16,21] false++VP)) (v:=.int .i64 22) ⟨?_⟩ (by rw [hN]);rw [PA];simp only [ah,hb,d1,d2,d3,d0,u',VV,VX,VW];repeat' apply And.intro
   all_goals first | exact hp | skip
  ·have d3:(!x.2==(2:Int))=true:=by simpa using c2
   refine go (o:=(ff [4,5,6,8,9,10,14,15,16,18,19,20,21] true++ff [0,1,2,3,7,11,12,13,17,22] false++VP)) (v:=.int .i64 22) ⟨?_⟩ (by rw [hN]);rw [Ql];simp only [ah,hb,d1,d2,d3,d0,u',VV,VX,VW];repeat' apply And.intro
   all_goals first | exact hp | skip
end
def ME:zF:=fun args sh=>match args with
 | [A,.v (.string p),L]=>match qj A sh,nn L with
  | some (es,cl,q),some (k,a,l,c)=>some (.int .i64 (eE (mapOf es) ⟨p,k,a,l,c⟩),q/\p.size<=1000000000)
  | _,_=>none
 | _=>none
theorem LL:bh Tryz.prog MX (52,de ME):=by
 refine dR ⟨_,Tryz.func52,by kernel_rfl,by kernel_rfl⟩ fun args sh v p h hp ν M w0 w a hr hX ha=>?_;dsimp only [ME] at h;split at h
 ·rename_i A p L;split at h
  ·rename_i es cl q k a1 l1 c1 ht hd;cases h;obtain ⟨y1,ZY,rfl,q1,YV⟩:=ha.cons_inv;obtain ⟨y2,as2,rfl,q2,ZL⟩:=YV.cons_inv;obtain ⟨y3,as3,rfl,q3,ha4⟩:=ZL.cons_inv;obtain rfl:=ha4.ay;obtain rfl:=VR.ae.1 q2;obtain rfl:=lW hd q3;obtain ⟨b,rfl,⟨m,YI,hA,hT⟩ | ⟨rfl,hA⟩⟩:=vB ht hp.1 hr q1
   ·obtain ⟨_,hTo,hTf⟩:=hT;generalize mapOf es=E at *;refine aZ (E:=lp) rfl (d:=6) (l:=[(b,0),(m,0)]) (os:=[.row [.map 1] 96 (0,0) none,.map (E.map mI) cl]) rfl (by simp) (by simpa using YI) ?_ rfl (args:=[.ptr 0 0,.v (.string p),jC ⟨p,k,a1,l1,c1⟩]) (S0:=fN (E.map mI) cl ⟨p,k,a1,l1,c1⟩) (by kernel_rfl) (au.cons (VR.aF.2 ⟨(b,0),rfl,rfl⟩) (au.cons (VR.ae.2 rfl) (au.cons (VR.ae.2 rfl) au.nil))) fun cs0=>Hk hX (fun z=>aY (os:=[_,_])) hTo hTf hp.2;intro j o' b' c' h1 h2;match j with
    | 0=>
     simp only [Wa,Option.some.injEq] at h1 h2;subst h1;cases h2;exact ⟨_,hA.row,_,[],rfl,au.cons (VR.cV.2 ⟨(m,0),rfl,rfl⟩) au.nil,rfl⟩
    | 1=>
     simp only [WU,Wa,Option.some.injEq] at h1 h2;subst h1;cases h2;exact ⟨_,hA.map,_,rfl,o8 E⟩
    | j+2=>simp at h1
   ·refine aZ (E:=lp) rfl (d:=6) (l:=[(b,0)]) (os:=[.row [.v (.map none)] 96 (0,0) none]) rfl (by simp) (by simp) ?_ rfl (args:=[.ptr 0 0,.v (.string p),jC ⟨p,k,a1,l1,c1⟩]) (S0:=jz ⟨p,k,a1,l1,c1⟩) (by kernel_rfl) (au.cons (VR.aF.2 ⟨(b,0),rfl,rfl⟩) (au.cons (VR.ae.2 rfl) (au.cons (VR.ae.2 rfl) au.nil))) fun cs0=>DR hX (fun z=>aY (os:=[_])) hp.2;intro j o' b' c' h1 h2;match j with
    | 0=>
     simp only [Wa,Option.some.injEq] at h1 h2;subst h1;cases h2;exact ⟨_,hA,[.map none],[],rfl,au.cons (VR.ae.2 rfl) au.nil,rfl⟩
    | j+1=>simp at h1
  ·cases h
 ·cases h
theorem dM.Cu {cm ys:ax->List Int} {E:List cp} {cl:Nat} {xs:List ax} (h:dM cm ys E cl xs) (p:ByteArray):jN E p=(aO p xs).k/\(BN E p=none↔(aO p xs).k=0):=by
 by_cases hf:∃ f∈E,f.1.p=p
 ·obtain ⟨f,hf,rfl⟩:=hf;obtain ⟨h1,_,e,he,h2,h3⟩:=h.pj hf;have ha:=F0 h.ok.names hf rfl;unfold jN;rw [ha];refine ⟨h1.symm,fun h=>(nomatch h),fun h0=>?_⟩;rw [h2] at h0;exact absurd h0 (h.kind e he)
 ·have hm:∀ e∈E,e.1.p≠p:=fun e he hq=>hf ⟨e,he,hq⟩;have ha:=CK hm;have hz:=(nF (xs:=xs) (p:=p) (h.cr (x:=⟨p,0,none,0,0⟩) hm)).1;unfold jN;rw [ha,hz];exact ⟨rfl,fun _=>rfl,fun _=>rfl⟩
theorem dM.below {cm ys:ax->List Int} {E:List cp} {cl:Nat} {xs:List ax} (h:dM cm ys E cl xs) (p:ByteArray):cy p E=[]↔bO p xs=[]:=by
 have h1:(cy p E).length=(bO p xs).length:=by
  unfold cy bO;rw [(bz _).length_eq];exact (h.sT.filter _).length_eq
 rw [<- Wd,<- Wd,h1]
theorem JC (x:ax):CA x=aC x.p:=by
 unfold CA;rw [DI,jt,jt];congr 1;cases h:(aj x.p).data.toList with
 | nil=>rfl
 | cons a l=>rfl
theorem xc {cm ys:ax->List Int} {E:List cp} {cl:Nat} {xs:List ax} (h:dM cm ys E cl xs) (x:ax):eE E x=(aI xs x).2:=by
 have hb:=h.below x.p;have h1:=(h.Cu (aj x.p)).1;have h2:=(h.Cu x.p).2;have hl:=h.len;unfold eE aI;by_cases g:aR x.p=false
 ·rw [if_pos g,if_pos g]
 rw [if_neg g,if_neg g];by_cases c1:aS x.k x.l≠0
 ·rw [if_pos c1,if_pos c1]
 rw [if_neg c1,if_neg c1];by_cases c2:x.k≠2/\cy x.p E≠[]
 ·rw [if_pos c2,if_pos ⟨c2.1,fun e=>c2.2 (hb.2 e)⟩]
 have c2':¬ (x.k≠2/\bO x.p xs≠[]):=fun e=>c2 ⟨e.1,fun k=>e.2 (hb.1 k)⟩;rw [if_neg c2,if_neg c2'];by_cases c0:x.k=0
 ·rw [if_pos c0,if_pos c0]
 rw [if_neg c0,if_neg c0,JC,h1];by_cases cu:aC x.p=true/\(aO (aj x.p) xs).k≠2
 ·rw [if_pos cu,if_pos cu]
 rw [if_neg cu,if_neg cu];by_cases cf:BN E x.p=none/\128<=E.length
 ·rw [if_pos cf,if_pos ⟨h2.1 cf.1,by omega⟩]
 ·have cf':¬ ((aO x.p xs).k=0/\128<=xs.length):=fun e=>cf ⟨h2.2 e.1,by omega⟩;rw [if_neg cf,if_neg cf']
def ur (x:ax) (ys:List Int):SM:=(a6 (kP x.a x.l x.c ys) 53 [jC x] (bG 6 0 0 [])).getD dn
theorem SP (x:ax) (ys:List Int):ey (kP x.a x.l x.c ys) 53 300 (ur x ys) (VP++ff (List.range 10) false) [] (.v (.agg #[.int .i64 x.k,.slice none 0 0]))=[Value.agg { toList:=[vZ x.2,VT none 0 0]:Array Value }=Value.agg { toList:=[vZ x.2,VT none 0 0]:Array Value },(x.2==x.2)=true,x.3=none]:=by kernel_rfl
theorem RE (x:ax) (ys:List Int) (m:List SV):bY (kP x.a x.l x.c ys) 53 300 (ur x ys) (VP++ff (List.range 10) true) (.agg [.v (.int .i64 x.k),.sl 2 0 x.l none]) 2 (.row m 5 (0,0) (some 1))=[vZ x.2=vZ x.2,0=0/\x.4=x.4/\nZ=none,List.map SV.v (List.map (V1 IntKind.u8) ys)=m,m.all ab=true,(x.2==x.2)=true,(x.3=x.3/\x.4=x.4/\x.5=x.5)/\x.3≠none]:=by kernel_rfl
def tY (w0 w':World) (x:ax) (ys:List Int) (a:Option Addr) (c:Nat) (l:Nat):Prop:=
 (x.a=none/\a=none/\l=0/\c=0)\/(x.a≠none/\l=x.l/\∃ b,a=some ⟨b,0,none⟩/\cG w0 w' (.slice (some ⟨b,0,none⟩) x.l c) (ys.map (Value.int .u8)) x.l 1 5)
theorem kI {w:World} {x:ax} {ys:List Int} (hD:eZ w x.a x.l ys):Calls Tryz.prog 53 #[.agg #[.int .i64 x.k,.slice x.a x.l x.c]] w fun e w'=>Below w.heap.size w w'/\∃ a c l,e=.returned (.agg #[.int .i64 x.k,.slice a l c])/\tY w w' x ys a c l:=by
 refine bP (E:=kP x.a x.l x.c ys) rfl rfl (args:=[jC x]) (a:=[.agg #[.int .i64 x.k,.slice x.a x.l x.c]]) (S0:=ur x ys) (by kernel_rfl) (au.cons (VR.ae.2 rfl) au.nil) fun cs0=>?_;by_cases ha:x.a=none
 ·refine kL (v:=.agg #[.int .i64 x.k,.slice none 0 0]) (Bf (x:=⟨x.p,0,x.k,x.a,x.l,x.c⟩) aE hD) aE (rn:=[]) (n:=300) (o:=(VP++ff (List.range 10) false)) ⟨?_⟩ fun w' hB=>⟨hB,none,0,0,rfl,.inl ⟨ha,rfl,rfl,rfl⟩⟩;show ah (ey (kP x.a x.l x.c ys) 53 300 (ur x ys) (VP++ff (List.range 10) false) [] (.v (.agg #[.int .i64 x.k,.slice none 0 0])));rw [SP];simp only [ah,VV,VX,VW];exact ⟨ha,WB x.k⟩
 ·refine af.bY (Bf (x:=⟨x.p,0,x.k,x.a,x.l,x.c⟩) aE hD) (n:=300) (o:=(VP++ff (List.range 10) true)) (x:=.agg [.v (.int .i64 x.k),.sl 2 0 x.l none]) (i:=2) (so:=.row (List.map SV.v (List.map (Value.int .u8) ys)) 5 (0,0) (some 1)) (by
   show ah (bY (kP x.a x.l x.c ys) 53 300 (ur x ys) (VP++ff (List.range 10) true) (.agg [.v (.int .i64 x.k),.sl 2 0 x.l none]) 2 (.row (List.map SV.v (List.map (Value.int .u8) ys)) 5 (0,0) (some 1)));rw [RE];simp only [ah,bJ,VV,VX,VW];exact ⟨ha,WB x.k⟩) fun ν' w' y b ob hv hb ho YO hw hB=>?_
  have hn:w.heap.size<=b.1:=by
   rcases hw with h | h
   ·exact h
   ·exact absurd h (aE _)
  obtain ⟨_,_,_,_,hB,hr⟩:=hB;obtain ⟨a,rfl,ha1⟩:=VR.bx.1 hv;obtain ⟨y1,a1,rfl,q1,YV⟩:=ha1.cons_inv;obtain ⟨y4,a4,rfl,q4,ha5⟩:=YV.cons_inv;obtain rfl:=ha5.ay;obtain rfl:=VR.ae.1 q1;have hs:=cG.fW q4 hb ho YO hn fun zs hz=>sW hz;have hs2:=hs;obtain ⟨g,c,rest,rfl,_⟩:=hs2;exact ⟨aB aE hB hr,_,_,_,rfl,.inr ⟨ha,rfl,g,rfl,hs⟩⟩
def uD (D:List ax) (ys:Option Addr->Nat->List Int) (w:World):Prop:=MX w/\∀ x∈D,eZ w x.a x.l (ys x.a x.l)
theorem uD.keep {D:List ax} {ys:Option Addr->Nat->List Int} {w0 w:World} (h:uD D ys w0) (hk:∀ k,k<w0.heap.size->w.heap[k]?=w0.heap[k]?):uD D ys w:=⟨h.1.keep hk,fun x hx=>(h.2 x hx).keep hk⟩
def CD (D:List ax) (ys:Option Addr->Nat->List Int):MW:=fun args _=>match args with
 | [L]=>match nn L with
  | some (k,a,l,c)=>some ((ys a l).map (Value.int .u8),l,1,5,fun s=>.agg [.v (.int .i64 k),s],fun s=>.agg #[.int .i64 k,s],(∃ x∈D,x.a=a/\x.l=l)/\a≠none)
  | none=>none
 | _=>none
def E4 (D:List ax) (args:List SV) (_:SH):Option (SV × Prop):=match args with
 | [L]=>match nn L with
  | some (k,a,l,c)=>some (.agg [.v (.int .i64 k),.v (.slice none 0 0)],(∃ x∈D,x.a=a/\x.l=l)/\a=none)
  | none=>none
 | _=>none
theorem Iu {D:List ax} {ys:Option Addr->Nat->List Int}:bh Tryz.prog (uD D ys) (53,gq (jX (CD D ys)) (ln (E4 D))):=by
 refine bh.br (mu ⟨_,Tryz.func53,by kernel_rfl,by kernel_rfl⟩ (fun args sh zs n C elem mk mv p h ν x y hv=>?_) fun args sh zs n C elem mk mv p h hp ν M w0 w a hr hX ha=>?_) (lM ⟨_,Tryz.func53,by kernel_rfl,by kernel_rfl⟩ fun args sh v p h hp ν M w0 w a hr hX ha=>?_)
 ·dsimp only [CD] at h;split at h
  ·split at h
   ·cases h;exact VR.bx.2 ⟨_,rfl,au.cons (VR.ae.2 rfl) (au.cons hv au.nil)⟩
   ·cases h
  ·cases h
 ·dsimp only [CD] at h;split at h
  ·rename_i L;split at h
   ·rename_i k a1 l1 c1 hd;cases h;obtain ⟨y1,ZY,rfl,q1,YV⟩:=ha.cons_inv;obtain rfl:=YV.ay;obtain rfl:=lW hd q1;obtain ⟨⟨x,hx,rfl,rfl⟩,YI⟩:=hp;refine (kI (x:=⟨x.p,k,x.a,x.l,c1⟩) (hX.2 x hx)).mono fun e w' ⟨hB,a,c,l,he,h⟩=>⟨hB,?_⟩;rcases h with ⟨h1,_⟩ | ⟨_,h1,b,h2,h3⟩
    ·exact absurd h1 YI
    ·subst h1 h2;exact ⟨_,he,h3⟩
   ·cases h
  ·cases h
 ·dsimp only [E4] at h;split at h
  ·rename_i L;split at h
   ·rename_i k a1 l1 c1 hd;cases h;obtain ⟨y1,ZY,rfl,q1,YV⟩:=ha.cons_inv;obtain rfl:=YV.ay;obtain rfl:=lW hd q1;obtain ⟨⟨x,hx,rfl,rfl⟩,YI⟩:=hp;refine (kI (x:=⟨x.p,k,x.a,x.l,c1⟩) (hX.2 x hx)).mono fun e w' ⟨hB,a,c,l,he,h⟩=>⟨hB,?_⟩;rcases h with ⟨_,h1,h2,h3⟩ | ⟨h1,_⟩
    ·subst h1 h2 h3;exact ⟨_,he,VR.bx.2 ⟨_,rfl,au.cons (VR.ae.2 rfl) (au.cons (VR.ae.2 rfl) au.nil)⟩⟩
    ·exact absurd YI h1
   ·cases h
  ·cases h
def wN (f g h:Sum):Sum:=fun args s=>match s.orc s.dc with
 | some (.b true)=>f args s
 | some (.b false)=>g args s
 | some .cr=>h args s
 | _=>none
theorem Lu {P:Program} {X:World->Prop} {k:FuncId} {f g h:Sum} (hf:bh P X (k,f)) (hg:bh P X (k,g)) (hh:bh P X (k,h)):bh P X (k,wN f g h):=by
 refine ⟨hf.1,fun args x s s' hx ob=>?_⟩;dsimp only at hx;unfold wN at hx;split at hx
 ·exact hf.2 args x s s' hx ob
 ·exact hg.2 args x s s' hx ob
 ·exact hh.2 args x s s' hx ob
 ·cases hx
structure fS (xs:List ax) (x:ax):Prop where
 p:x.p.size<=1000000000
 size:∀ e∈xs,e.p.size<=1000000000
def CH:MW:=fun args sh=>match args with
 | [A,.v (.string p),L]=>match gO A sh,nn L with
  | some (xs,q),some (k,a,l,c)=>some (vI (aI xs ⟨p,k,a,l,c⟩).1,(aI xs ⟨p,k,a,l,c⟩).1.length,3,48,fun s=>.tup [s,.v (.int .i64 0)],fun y=>tV y 0,q/\fS xs ⟨p,k,a,l,c⟩/\(aI xs ⟨p,k,a,l,c⟩).2=0/\(aI xs ⟨p,k,a,l,c⟩).1≠[])
  | _,_=>none
 | _=>none
def GW (args:List SV) (sh:SH):Option (SV × Prop):=match args with
 | [A,.v (.string p),L]=>match gO A sh,nn L with
  | some (xs,q),some (k,a,l,c)=>some (.tup [A,.v (.int .i64 (aI xs ⟨p,k,a,l,c⟩).2)],q/\fS xs ⟨p,k,a,l,c⟩/\(aI xs ⟨p,k,a,l,c⟩).2≠0)
  | _,_=>none
 | _=>none
def FG (args:List SV) (sh:SH):Option (SV × Prop):=match args with
 | [A,.v (.string p),L]=>match gO A sh,nn L with
  | some (xs,q),some (k,a,l,c)=>some (.tup [.v (.slice none 0 0),.v (.int .i64 0)],q/\fS xs ⟨p,k,a,l,c⟩/\(aI xs ⟨p,k,a,l,c⟩).2=0/\(aI xs ⟨p,k,a,l,c⟩).1=[])
  | _,_=>none
 | _=>none
theorem pL {ν:aP} {M:Own} {w0 w:World} {sh:SH} (hr:HR ν M w0 sh w) {A L:SV} {p:ByteArray} {xs:List ax} {q:Prop} {k:Int} {a1:Option Addr} {l1 c1:Nat} (hl:gO A sh=some (xs,q)) (hd:nn L=some (k,a1,l1,c1)) (hq:q) (hI:fS xs ⟨p,k,a1,l1,c1⟩) {a:List Value} (ha:au ν [A,.v (.string p),L] a):
  ∃ y0,VR ν A y0/\Calls Tryz.prog 17 a.toArray w (Pp w y0 (aI xs ⟨p,k,a1,l1,c1⟩)):=by
 obtain ⟨y1,ZY,rfl,q1,YV⟩:=ha.cons_inv;obtain ⟨y2,as2,rfl,q2,ZL⟩:=YV.cons_inv;obtain ⟨y3,as3,rfl,q3,ha4⟩:=ZL.cons_inv;obtain rfl:=ha4.ay;obtain rfl:=VR.ae.1 q2;obtain rfl:=lW hd q3;refine ⟨y1,q1,?_⟩;rcases kY hl hq with ⟨rfl,rfl⟩ | ⟨YI,ZV,i,mk,rfl,hlk⟩
 ·obtain rfl:=VR.ae.1 q1;exact bP (E:=mW) rfl rfl (args:=[.v (.slice none 0 0),.v (.string p),jC ⟨p,k,a1,l1,c1⟩]) (S0:=kW ⟨p,k,a1,l1,c1⟩) (by kernel_rfl) (au.cons (VR.ae.2 rfl) (au.cons (VR.ae.2 rfl) (au.cons (VR.ae.2 rfl) au.nil))) fun cs0=>DV hI.p
 ·obtain ⟨bb,Zd,hle,rfl⟩:=VR.aL.1 q1;obtain ⟨_,_,b,ob,hb,ho,YO,_⟩:=hr.look hlk;rw [Zd] at hb;cases hb;have Zp:xs.length<=bb.2:=hle;refine aZ (E:=mW) rfl (d:=6) (l:=[bb]) (os:=[.row (cI xs) 48 (0,0) (some 3)]) rfl (by simp) (by simp) ?_ rfl (args:=[.sl 0 0 xs.length none,.v (.string p),jC ⟨p,k,a1,l1,c1⟩]) (S0:=gr (cI xs) xs.length ⟨p,k,a1,l1,c1⟩) (by kernel_rfl) (au.cons (VR.aL.2 ⟨bb,rfl,Zp,rfl⟩) (au.cons (VR.ae.2 rfl) (au.cons (VR.ae.2 rfl) au.nil))) fun cs0=>FU YI ZV hI.p hI.size;intro j o' b' c' h1 h2;match j with
  | 0=>
   simp only [Wa,Option.some.injEq] at h1 h2;subst h1;subst h2;exact ⟨_,ho,qZ (az xs) Zd rfl YO⟩
  | j+1=>simp at h1
theorem Is {X:World->Prop}:bh Tryz.prog X (17,wN (jX CH) (ln GW) (ln FG)):=by
 refine Lu (mu ⟨_,Tryz.func17,by kernel_rfl,by kernel_rfl⟩ (fun args sh ys n C elem mk mv p h ν x y hv=>?_) fun args sh ys n C elem mk mv p h hp ν M w0 w a hr hX ha=>?_) (lM ⟨_,Tryz.func17,by kernel_rfl,by kernel_rfl⟩ fun args sh v p h hp ν M w0 w a hr hX ha=>?_) (lM ⟨_,Tryz.func17,by kernel_rfl,by kernel_rfl⟩ fun args sh v p h hp ν M w0 w a hr hX ha=>?_)
 ·dsimp only [CH] at h;split at h
  ·split at h
   ·cases h;exact VR.cz.2 ⟨_,rfl,au.cons hv (au.cons (VR.ae.2 rfl) au.nil)⟩
   ·cases h
  ·cases h
 ·dsimp only [CH] at h;split at h
  ·split at h
   ·rename_i xs q k a1 l1 c1 hl hd;cases h;obtain ⟨y0,_,hc⟩:=pL hr hl hd hp.1 hp.2.1 ha;refine hc.mono fun e w' ⟨hB,h⟩=>⟨hB,?_⟩;rcases h with ⟨h1,_⟩ | ⟨_,h1,_⟩ | ⟨_,_,y,h2,h3⟩
    ·exact absurd hp.2.2.1 h1
    ·exact absurd h1 hp.2.2.2
    ·exact ⟨y,h2,h3⟩
   ·cases h
  ·cases h
 ·dsimp only [GW] at h;split at h
  ·split at h
   ·rename_i xs q k a1 l1 c1 hl hd;cases h;obtain ⟨y0,hv,hc⟩:=pL hr hl hd hp.1 hp.2.1 ha;refine hc.mono fun e w' ⟨hB,h⟩=>⟨hB,?_⟩;rcases h with ⟨_,h2⟩ | ⟨h1,_⟩ | ⟨h1,_⟩
    ·exact ⟨_,h2,VR.cz.2 ⟨_,rfl,au.cons hv (au.cons (VR.ae.2 rfl) au.nil)⟩⟩
    ·exact absurd h1 hp.2.2
    ·exact absurd h1 hp.2.2
   ·cases h
  ·cases h
 ·dsimp only [FG] at h;split at h
  ·split at h
   ·rename_i xs q k a1 l1 c1 hl hd;cases h;obtain ⟨y0,hv,hc⟩:=pL hr hl hd hp.1 hp.2.1 ha;refine hc.mono fun e w' ⟨hB,h⟩=>⟨hB,?_⟩;rcases h with ⟨h1,_⟩ | ⟨_,_,h2⟩ | ⟨_,h1,_⟩
    ·exact absurd hp.2.2.1 h1
    ·exact ⟨_,h2,VR.cz.2 ⟨_,rfl,au.cons (VR.ae.2 rfl) (au.cons (VR.ae.2 rfl) au.nil)⟩⟩
    ·exact absurd hp.2.2.2 h1
   ·cases h
  ·cases h
def Qx (D:List ax) (ys:Option Addr->Nat->List Int):List (FuncId × Sum):=[(17,wN (jX CH) (ln GW) (ln FG)),(52,de ME),(53,gq (jX (CD D ys)) (ln (E4 D)))]
def jR (D:List ax) (ys:Option Addr->Nat->List Int):Env:={ EP [] [] with Y7:=fun f=>(Qx D ys).lookup f }
def F7 (D:List ax) (ys:Option Addr->Nat->List Int) (l:List SV) (off n c:Nat):SM:=(a6 (jR D ys) 7 [.sl 0 off n (some c)] (bG 6 1 0 [cv l])).getD dn
def KX:List SI:=dB (jR [] fun _ _=>[]) 2 100 (F7 [] (fun _ _=>[]) [] 0 0 0) VP
def eF (off n c:Nat) (x:SV) (i:Int):SF:={ fn:=7,tm:=fh 49 6 ([.aH,.aH,.aH,.aH,.aH,.ptr 1 0,.aH,x]++List.replicate 14 .aH++[.sl 0 off n (some c),.v (.int .i64 n),.v (.int .i64 i)]++List.replicate 24 .aH),todo:=KX,defers:=[],ret:=false,kind:=.normal,ro:=none }
def xe:Option (SO × Bool):=some (.row [.v (.map none)] 96 (0,0) none,true)
def Fo:Option (SO × Bool):=some (.row [.map 2] 96 (0,0) none,true)
def vl (es:VQ) (cl:Nat):Option (SO × Bool):=some (.map es cl,true)
def rj (l:List SV):List (Option (SO × Bool)):=[cv l,xe]
def pM (l:List SV) (es:VQ) (cl:Nat):List (Option (SO × Bool)):=[cv l,Fo,vl es cl]
def iM (l:List SV) (es:VQ) (cl:Nat) (m:List SV):List (Option (SO × Bool)):=[cv l,Fo,vl es cl,kf m]
def qL (k:Nat):SV:=.sl 3 0 k none
theorem S3 (D:List ax) (ys:Option Addr->Nat->List Int) (l m m' q:List SV) (off n c k k' cl cl' j:Nat) (x:ax) (f:cp) (i i':Int) (es es':VQ) (b:Nat × Nat):reach (jR D ys) 2 400 (SM.at (eF off n c bZ i) 6 (rj l)) ([(2,.cells (iC x)),(3,.b false)]++ff [0,6] true++ff [1,4,5,7,8,9,10,11,12,13,14,15,16] false++VP) [(0,0),(1,1)] [0,1] (eF off n c bZ i') 6 (rj l)=[0=0,VT none 0 0=VT none 0 0,off=off/\n=n/\some c=some c,vZ (↑n:Int)=vZ (↑n:Int),vZ (IntKind.i64.wrap (i+1))=vZ i',l=l,l.all ab=true,[SV.v (Value.map none)]=[SV.v (Value.map none)],true=true,(!eE (mapOf []) x==(aI [] x).2)=false,(!eE (mapOf []) x==0)=true,96=96/\x.1.size<=1000000000,false=false,True/\fS [] x/\(aI [] x).2≠0,List.take 3 (List.drop (off+i.toNat*3) l)=iC x/\(iC x).length=3,ai i n=true,decide (i<(↑n:Int))=true]:=by kernel_rfl
theorem VI (D:List ax) (ys:Option Addr->Nat->List Int) (l m m' q:List SV) (off n c k k' cl cl' j:Nat) (x:ax) (f:cp) (i i':Int) (es es':VQ) (b:Nat × Nat):reach (jR D ys) 2 400 (SM.at (eF off n c bZ i) 6 (rj l)) ([(2,.cells (iC x)),(3,.cr)]++ff [0,7] true++ff [1,4,5,6,8,9,10,11,12,13,14,15,16,17] false++VP) [(0,0),(1,1)] [0,1] (eF off n c bZ i') 6 (rj l)=[0=0,VT none 0 0=VT none 0 0,off=off/\n=n/\some c=some c,vZ (↑n:Int)=vZ (↑n:Int),vZ (IntKind.i64.wrap (i+1))=vZ i',l=l,l.all ab=true,[SV.v (Value.map none)]=[SV.v (Value.map none)],true=true,false=false,(x.2==0)=true,(!eE (mapOf []) x==0)=false,96=96/\x.1.size<=1000000000,false=false,True/\fS [] x/\(aI [] x).2=0/\(aI [] x).1=[],List.take 3 (List.drop (off+i.toNat*3) l)=iC x/\(iC x).length=3,ai i n=true,decide (i<(↑n:Int))=true]:=by kernel_rfl
theorem Vy (D:List ax) (ys:Option Addr->Nat->List Int) (l m m' q:List SV) (off n c k k' cl cl' j:Nat) (x:ax) (f:cp) (i i':Int) (es es':VQ) (b:Nat × Nat):reach (jR D ys) 2 400 (SM.at (eF off n c bZ i) 6 (rj l)) ([(2,.cells (iC x)),(3,.b true)]++ff [0,8] true++ff [1,4,5,6,7,9] false++VP) [(0,0),(1,1),(2,5),(3,3)] [0,2,3] (eF off n c (qL k') i') 6 (iM l es' cl' m')=[0=0,0=0/\(aI [] x).1.length=k'/\nZ=none,off=off/\n=n/\some c=some c,vZ (↑n:Int)=vZ (↑n:Int),vZ (IntKind.i64.wrap (i+1))=vZ i',l=l,l.all ab=true,1=cl',([]++[(SV.v (VS x.p),VZ [SV.v (vZ x.k),SV.v (VT none 0 0)],0)])=es',(es'.all fun e=>aw e.fst&&aw e.snd.fst)=true,List.map SV.v (vI (aI [] x).1)=m',m'.all ab=true,(∃ Z7,Z7∈D/\Z7.a=x.a/\Z7.l=x.l)/\x.3=none,true=true,(x.2==0)=false,(!eE (mapOf []) x==0)=false,96=96/\x.1.size<=1000000000,false=false,True/\fS [] x/\(aI [] x).2=0/\(aI [] x).1≠[],List.take 3 (List.drop (off+i.toNat*3) l)=iC x/\(iC x).length=3,ai i n=true,decide (i<(↑n:Int))=true]:=by kernel_rfl
theorem UP (D:List ax) (ys:Option Addr->Nat->List Int) (l m m' q:List SV) (off n c k k' cl cl' j:Nat) (x:ax) (f:cp) (i i':Int) (es es':VQ) (b:Nat × Nat):fu (jR D ys) 2 400 (SM.at (eF off n c bZ i) 6 (rj l)) ([(2,.cells (iC x)),(3,.b true)]++ff [0,8,9] true++ff [1,4,5,6,7] false++VP) [(0,0),(1,1),(2,5),(3,3)] [0,2,3] (eF off n c (qL k') i') 6 (iM l es' cl' m') 5 6 (.row q 5 (0,0) (some 1)) b=[List.map SV.v (List.map (V1 IntKind.u8) (ys x.3 x.4))=q,q.all ab=true,0=0,0=0/\(aI [] x).1.length=k'/\nZ=none,off=off/\n=n/\some c=some c,vZ (↑n:Int)=vZ (↑n:Int),vZ (IntKind.i64.wrap (i+1))=vZ i',l=l,l.all ab=true,1=cl',dJ 6 b ([]++[(SV.v (VS x.p),VZ [SV.v (vZ x.k),SV.sl 6 0 x.l none],0)])=es',(es'.all fun e=>aw e.fst&&aw e.snd.fst)=true,List.map SV.v (vI (aI [] x).1)=m',m'.all ab=true,(∃ Z7,Z7∈D/\Z7.a=x.a/\Z7.l=x.l)/\x.3≠none,true=true,(x.2==0)=false,(!eE (mapOf []) x==0)=false,96=96/\x.1.size<=1000000000,false=false,True/\fS [] x/\(aI [] x).2=0/\(aI [] x).1≠[],List.take 3 (List.drop (off+i.toNat*3) l)=iC x/\(iC x).length=3,ai i n=true,decide (i<(↑n:Int))=true]:=by kernel_rfl
theorem Ub (D:List ax) (ys:Option Addr->Nat->List Int) (l m m' q:List SV) (off n c k k' cl cl' j:Nat) (x:ax) (f:cp) (i i':Int) (es es':VQ) (b:Nat × Nat):reach (jR D ys) 2 400 (SM.at (eF off n c bZ i) 6 (pM l es cl)) ([(2,.cells (iC x)),(3,.b false)]++ff [0,6] true++ff [1,4,5,7,8,9,10,11,12,13,14,15,16,17] false++VP) [(0,0),(1,1),(2,2)] [0,2] (eF off n c bZ i') 6 (pM l es' cl')=[0=0,VT none 0 0=VT none 0 0,off=off/\n=n/\some c=some c,vZ (↑n:Int)=vZ (↑n:Int),vZ (IntKind.i64.wrap (i+1))=vZ i',l=l,l.all ab=true,cl=cl',es=es',(es'.all fun e=>aw e.fst&&aw e.snd.fst)=true,(!eE (mapOf es) x==(aI [] x).2)=false,(!eE (mapOf es) x==0)=true,(96=96/\dW es cl)/\x.1.size<=1000000000,false=false,True/\fS [] x/\(aI [] x).2≠0,List.take 3 (List.drop (off+i.toNat*3) l)=iC x/\(iC x).length=3,ai i n=true,decide (i<(↑n:Int))=true]:=by kernel_rfl
theorem TR (D:List ax) (ys:Option Addr->Nat->List Int) (l m m' q:List SV) (off n c k k' cl cl' j:Nat) (x:ax) (f:cp) (i i':Int) (es es':VQ) (b:Nat × Nat):reach (jR D ys) 2 400 (SM.at (eF off n c bZ i) 6 (pM l es cl)) ([(2,.cells (iC x)),(3,.cr),(8,.cr)]++ff [0,7] true++ff [1,4,5,6,9,10,11,12,13,14,15,16,17,18,19] false++VP) [(0,0),(1,1),(2,2)] [0,2] (eF off n c bZ i') 6 (pM l es' cl')=[0=0,VT none 0 0=VT none 0 0,off=off/\n=n/\some c=some c,vZ (↑n:Int)=vZ (↑n:Int),vZ (IntKind.i64.wrap (i+1))=vZ i',l=l,l.all ab=true,cl=cl',es=es',(es'.all fun e=>aw e.fst&&aw e.snd.fst)=true,false=false,∀ (e:SV × SV × Nat),e∈es->a8 x.p e.fst,(x.2==0)=true,(!eE (mapOf es) x==0)=false,(96=96/\dW es cl)/\x.1.size<=1000000000,false=false,True/\fS [] x/\(aI [] x).2=0/\(aI [] x).1=[],List.take 3 (List.drop (off+i.toNat*3) l)=iC x/\(iC x).length=3,ai i n=true,decide (i<(↑n:Int))=true]:=by kernel_rfl
theorem T4 (D:List ax) (ys:Option Addr->Nat->List Int) (l m m' q:List SV) (off n c k k' cl cl' j:Nat) (x:ax) (f:cp) (i i':Int) (es es':VQ) (b:Nat × Nat):reach (jR D ys) 2 400 (SM.at (eF off n c bZ i) 6 (pM l es cl)) ([(2,.cells (iC x)),(3,.b true),(10,.cr)]++ff [0] true++ff [1,4,5,6,7,8,9,11,12,13,14,15,16,17,18,19,20,21,22] false++VP) [(0,0),(1,1),(2,2),(3,4)] [0,2,3] (eF off n c (qL k') i') 6 (iM l es' cl' m')=[0=0,0=0/\(aI [] x).1.length=k'/\nZ=none,off=off/\n=n/\some c=some c,vZ (↑n:Int)=vZ (↑n:Int),vZ (IntKind.i64.wrap (i+1))=vZ i',l=l,l.all ab=true,cl+1=cl',(es++[(SV.v (VS x.p),VZ [SV.v (vZ x.k),SV.v (VT none 0 0)],cl)])=es',(es'.all fun e=>aw e.fst&&aw e.snd.fst)=true,List.map SV.v (vI (aI [] x).1)=m',m'.all ab=true,false=false,∀ (e:SV × SV × Nat),e∈es->a8 x.p e.fst,(∃ Z7,Z7∈D/\Z7.a=x.a/\Z7.l=x.l)/\x.3=none,false=false,(x.2==0)=false,(!eE (mapOf es) x==0)=false,(96=96/\dW es cl)/\x.1.size<=1000000000,false=false,True/\fS [] x/\(aI [] x).2=0/\(aI [] x).1≠[],List.take 3 (List.drop (off+i.toNat*3) l)=iC x/\(iC x).length=3,ai i n=true,decide (i<(↑n:Int))=true]:=by kernel_rfl
theorem Uw (D:List ax) (ys:Option Addr->Nat->List Int) (l m m' q:List SV) (off n c k k' cl cl' j:Nat) (x:ax) (f:cp) (i i':Int) (es es':VQ) (b:Nat × Nat):fu (jR D ys) 2 400 (SM.at (eF off n c bZ i) 6 (pM l es cl)) ([(2,.cells (iC x)),(3,.b true),(10,.cr)]++ff [0,9] true++ff [1,4,5,6,7,8,11,12,13,14,15,16,17,18,19,20,21,22] false++VP) [(0,0),(1,1),(2,2),(3,4)] [0,2,3] (eF off n c (qL k') i') 6 (iM l es' cl' m') 2 6 (.row q 5 (0,0) (some 1)) b=[List.map SV.v (List.map (V1 IntKind.u8) (ys x.3 x.4))=q,q.all ab=true,0=0,0=0/\(aI [] x).1.length=k'/\nZ=none,off=off/\n=n/\some c=some c,vZ (↑n:Int)=vZ (↑n:Int),vZ (IntKind.i64.wrap (i+1))=vZ i',l=l,l.all ab=true,cl+1=cl',dJ 6 b (es++[(SV.v (VS x.p),VZ [SV.v (vZ x.k),SV.sl 6 0 x.l none],cl)])=es',(es'.all fun e=>aw e.fst&&aw e.snd.fst)=true,List.map SV.v (vI (aI [] x).1)=m',m'.all ab=true,false=false,∀ (e:SV × SV × Nat),e∈es->a8 x.p e.fst,(∃ Z7,Z7∈D/\Z7.a=x.a/\Z7.l=x.l)/\x.3≠none,false=false,(x.2==0)=false,(!eE (mapOf es) x==0)=false,(96=96/\dW es cl)/\x.1.size<=1000000000,false=false,True/\fS [] x/\(aI [] x).2=0/\(aI [] x).1≠[],List.take 3 (List.drop (off+i.toNat*3) l)=iC x/\(iC x).length=3,ai i n=true,decide (i<(↑n:Int))=true]:=by kernel_rfl
theorem TB (D:List ax) (ys:Option Addr->Nat->List Int) (l m m' q:List SV) (off n c k k' cl cl' j:Nat) (x:ax) (f:cp) (i i':Int) (es es':VQ) (b:Nat × Nat):reach (jR D ys) 2 400 (SM.at (eF off n c (qL k) i) 6 (iM l es cl m)) ([(2,.cells (iC x)),(3,.b false)]++ff [0,6] true++ff [1,4,5,7,8,9,10,11,12,13,14,15,16,17,18,19] false++VP) [(0,0),(1,1),(2,2),(3,3)] [0,2,3] (eF off n c (qL k') i') 6 (iM l es' cl' m')=[0=0,0=0/\k=k'/\nZ=none,off=off/\n=n/\some c=some c,vZ (↑n:Int)=vZ (↑n:Int),vZ (IntKind.i64.wrap (i+1))=vZ i',l=l,l.all ab=true,cl=cl',es=es',(es'.all fun e=>aw e.fst&&aw e.snd.fst)=true,m=m',m'.all ab=true,(!eE (mapOf es) x==(aI (ad m k) x).2)=false,(!eE (mapOf es) x==0)=true,(96=96/\dW es cl)/\x.1.size<=1000000000,false=false,(48=48/\bu m k (ad m k)/\ad m k≠[])/\fS (ad m k) x/\(aI (ad m k) x).2≠0,List.take 3 (List.drop (off+i.toNat*3) l)=iC x/\(iC x).length=3,ai i n=true,decide (i<(↑n:Int))=true]:=by kernel_rfl
theorem Qt (D:List ax) (ys:Option Addr->Nat->List Int) (l m m' q:List SV) (off n c k k' cl cl' j:Nat) (x:ax) (f:cp) (i i':Int) (es es':VQ) (b:Nat × Nat):reach (jR D ys) 2 400 (SM.at (eF off n c (qL k) i) 6 (iM l es cl m)) ([(2,.cells (iC x)),(3,.b true),(8,.hit j (cU f) f.2)]++ff [0,7] true++ff [1,4,5,6,9,10,11,12,13,14,15,16,17,18,19,20,21] false++VP) [(0,0),(1,1),(2,2),(3,5)] [0,2,3] (eF off n c (qL k') i') 6 (iM l es' cl' m')=[0=0,0=0/\(aI (ad m k) x).1.length=k'/\nZ=none,off=off/\n=n/\some c=some c,vZ (↑n:Int)=vZ (↑n:Int),vZ (IntKind.i64.wrap (i+1))=vZ i',l=l,l.all ab=true,cl=cl',es.eraseIdx j=es',(es'.all fun e=>aw e.fst&&aw e.snd.fst)=true,List.map SV.v (vI (aI (ad m k) x).1)=m',m'.all ab=true,false=false,(∀ (e:SV × SV × Nat),e∈List.take j es->a8 x.p e.fst)/\es[j]?=some (SV.v (VS x.1),cU f,f.2),(x.2==0)=true,(!eE (mapOf es) x==0)=false,(96=96/\dW es cl)/\x.1.size<=1000000000,false=false,(48=48/\bu m k (ad m k)/\ad m k≠[])/\fS (ad m k) x/\(aI (ad m k) x).2=0/\(aI (ad m k) x).1≠[],List.take 3 (List.drop (off+i.toNat*3) l)=iC x/\(iC x).length=3,ai i n=true,decide (i<(↑n:Int))=true]:=by kernel_rfl
theorem Pc (D:List ax) (ys:Option Addr->Nat->List Int) (l m m' q:List SV) (off n c k k' cl cl' j:Nat) (x:ax) (f:cp) (i i':Int) (es es':VQ) (b:Nat × Nat):reach (jR D ys) 2 400 (SM.at (eF off n c (qL k) i) 6 (iM l es cl m)) ([(2,.cells (iC x)),(3,.cr),(8,.hit j (cU f) f.2)]++ff [0,7] true++ff [1,4,5,6,9,10,11,12,13,14,15,16,17,18,19] false++VP) [(0,0),(1,1),(2,2)] [0,2] (eF off n c bZ i') 6 (pM l es' cl')=[0=0,VT none 0 0=VT none 0 0,off=off/\n=n/\some c=some c,vZ (↑n:Int)=vZ (↑n:Int),vZ (IntKind.i64.wrap (i+1))=vZ i',l=l,l.all ab=true,cl=cl',es.eraseIdx j=es',(es'.all fun e=>aw e.fst&&aw e.snd.fst)=true,false=false,(∀ (e:SV × SV × Nat),e∈List.take j es->a8 x.p e.fst)/\es[j]?=some (SV.v (VS x.1),cU f,f.2),(x.2==0)=true,(!eE (mapOf es) x==0)=false,(96=96/\dW es cl)/\x.1.size<=1000000000,false=false,(48=48/\bu m k (ad m k)/\ad m k≠[])/\fS (ad m k) x/\(aI (ad m k) x).2=0/\(aI (ad m k) x).1=[],List.take 3 (List.drop (off+i.toNat*3) l)=iC x/\(iC x).length=3,ai i n=true,decide (i<(↑n:Int))=true]:=by kernel_rfl
theorem P0 (D:List ax) (ys:Option Addr->Nat->List Int) (l m m' q:List SV) (off n c k k' cl cl' j:Nat) (x:ax) (f:cp) (i i':Int) (es es':VQ) (b:Nat × Nat):reach (jR D ys) 2 400 (SM.at (eF off n c (qL k) i) 6 (iM l es cl m)) ([(2,.cells (iC x)),(3,.b true),(8,.cr)]++ff [0,7] true++ff [1,4,5,6,9,10,11,12,13,14,15,16,17,18,19,20,21] false++VP) [(0,0),(1,1),(2,2),(3,5)] [0,2,3] (eF off n c (qL k') i') 6 (iM l es' cl' m')=[0=0,0=0/\(aI (ad m k) x).1.length=k'/\nZ=none,off=off/\n=n/\some c=some c,vZ (↑n:Int)=vZ (↑n:Int),vZ (IntKind.i64.wrap (i+1))=vZ i',l=l,l.all ab=true,cl=cl',es=es',(es'.all fun e=>aw e.fst&&aw e.snd.fst)=true,List.map SV.v (vI (aI (ad m k) x).1)=m',m'.all ab=true,false=false,∀ (e:SV × SV × Nat),e∈es->a8 x.p e.fst,(x.2==0)=true,(!eE (mapOf es) x==0)=false,(96=96/\dW es cl)/\x.1.size<=1000000000,false=false,(48=48/\bu m k (ad m k)/\ad m k≠[])/\fS (ad m k) x/\(aI (ad m k) x).2=0/\(aI (ad m k) x).1≠[],List.take 3 (List.drop (off+i.toNat*3) l)=iC x/\(iC x).length=3,ai i n=true,decide (i<(↑n:Int))=true]:=by kernel_rfl
theorem Pb (D:List ax) (ys:Option Addr->Nat->List Int) (l m m' q:List SV) (off n c k k' cl cl' j:Nat) (x:ax) (f:cp) (i i':Int) (es es':VQ) (b:Nat × Nat):reach (jR D ys) 2 400 (SM.at (eF off n c (qL k) i) 6 (iM l es cl m)) ([(2,.cells (iC x)),(3,.b true),(10,.hit j (cU f) f.2)]++ff [0] true++ff [1,4,5,6,7,8,9,11,12,13,14,15,16,17,18,19,20,21,22,23] false++VP) [(0,0),(1,1),(2,2),(3,5)] [0,2,3] (eF off n c (qL k') i') 6 (iM l es' cl' m')=[0=0,0=0/\(aI (ad m k) x).1.length=k'/\nZ=none,off=off/\n=n/\some c=some c,vZ (↑n:Int)=vZ (↑n:Int),vZ (IntKind.i64.wrap (i+1))=vZ i',l=l,l.all ab=true,cl=cl',(es.modify j fun e=>(SV.v (VS x.p),VZ [SV.v (vZ x.k),SV.v (VT none 0 0)],e.2.2))=es',(es'.all fun e=>aw e.fst&&aw e.snd.fst)=true,List.map SV.v (vI (aI (ad m k) x).1)=m',m'.all ab=true,false=false,(∀ (e:SV × SV × Nat),e∈List.take j es->a8 x.p e.fst)/\es[j]?=some (SV.v (VS x.1),cU f,f.2),(∃ Z7,Z7∈D/\Z7.a=x.a/\Z7.l=x.l)/\x.3=none,false=false,(x.2==0)=false,(!eE (mapOf es) x==0)=false,(96=96/\dW es cl)/\x.1.size<=1000000000,false=false,(48=48/\bu m k (ad m k)/\ad m k≠[])/\fS (ad m k) x/\(aI (ad m k) x).2=0/\(aI (ad m k) x).1≠[],List.take 3 (List.drop (off+i.toNat*3) l)=iC x/\(iC x).length=3,ai i n=true,decide (i<(↑n:Int))=true]:=by kernel_rfl
theorem Po (D:List ax) (ys:Option Addr->Nat->List Int) (l m m' q:List SV) (off n c k k' cl cl' j:Nat) (x:ax) (f:cp) (i i':Int) (es es':VQ) (b:Nat × Nat):fu (jR D ys) 2 400 (SM.at (eF off n c (qL k) i) 6 (iM l es cl m)) ([(2,.cells (iC x)),(3,.b true),(10,.hit j (cU f) f.2)]++ff [0,9] true++ff [1,4,5,6,7,8,11,12,13,14,15,16,17,18,19,20,21,22,23] false++VP) [(0,0),(1,1),(2,2),(3,5)] [0,2,3] (eF off n c (qL k') i') 6 (iM l es' cl' m') 2 7 (.row q 5 (0,0) (some 1)) b=[List.map SV.v (List.map (V1 IntKind.u8) (ys x.3 x.4))=q,q.all ab=true,0=0,0=0/\(aI (ad m k) x).1.length=k'/\nZ=none,off=off/\n=n/\some c=some c,vZ (↑n:Int)=vZ (↑n:Int),vZ (IntKind.i64.wrap (i+1))=vZ i',l=l,l.all ab=true,cl=cl',dJ 7 b (es.modify j fun e=>(SV.v (VS x.p),VZ [SV.v (vZ x.k),SV.sl 7 0 x.l none],e.2.2))=es',(es'.all fun e=>aw e.fst&&aw e.snd.fst)=true,List.map SV.v (vI (aI (ad m k) x).1)=m',m'.all ab=true,false=false,(∀ (e:SV × SV × Nat),e∈List.take j es->a8 x.p e.fst)/\es[j]?=some (SV.v (VS x.1),cU f,f.2),(∃ Z7,Z7∈D/\Z7.a=x.a/\Z7.l=x.l)/\x.3≠none,false=false,(x.2==0)=false,(!eE (mapOf es) x==0)=false,(96=96/\dW es cl)/\x.1.size<=1000000000,false=false,(48=48/\bu m k (ad m k)/\ad m k≠[])/\fS (ad m k) x/\(aI (ad m k) x).2=0/\(aI (ad m k) x).1≠[],List.take 3 (List.drop (off+i.toNat*3) l)=iC x/\(iC x).length=3,ai i n=true,decide (i<(↑n:Int))=true]:=by kernel_rfl
theorem Pf (D:List ax) (ys:Option Addr->Nat->List Int) (l m m' q:List SV) (off n c k k' cl cl' j:Nat) (x:ax) (f:cp) (i i':Int) (es es':VQ) (b:Nat × Nat):reach (jR D ys) 2 400 (SM.at (eF off n c (qL k) i) 6 (iM l es cl m)) ([(2,.cells (iC x)),(3,.b true),(10,.cr)]++ff [0] true++ff [1,4,5,6,7,8,9,11,12,13,14,15,16,17,18,19,20,21,22,23] false++VP) [(0,0),(1,1),(2,2),(3,5)] [0,2,3] (eF off n c (qL k') i') 6 (iM l es' cl' m')=[0=0,0=0/\(aI (ad m k) x).1.length=k'/\nZ=none,off=off/\n=n/\some c=some c,vZ (↑n:Int)=vZ (↑n:Int),vZ (IntKind.i64.wrap (i+1))=vZ i',l=l,l.all ab=true,cl+1=cl',(es++[(SV.v (VS x.p),VZ [SV.v (vZ x.k),SV.v (VT none 0 0)],cl)])=es',(es'.all fun e=>aw e.fst&&aw e.snd.fst)=true,List.map SV.v (vI (aI (ad m k) x).1)=m',m'.all ab=true,false=false,∀ (e:SV × SV × Nat),e∈es->a8 x.p e.fst,(∃ Z7,Z7∈D/\Z7.a=x.a/\Z7.l=x.l)/\x.3=none,false=false,(x.2==0)=false,(!eE (mapOf es) x==0)=false,(96=96/\dW es cl)/\x.1.size<=1000000000,false=false,(48=48/\bu m k (ad m k)/\ad m k≠[])/\fS (ad m k) x/\(aI (ad m k) x).2=0/\(aI (ad m k) x).1≠[],List.take 3 (List.drop (off+i.toNat*3) l)=iC x/\(iC x).length=3,ai i n=true,decide (i<(↑n:Int))=true]:=by kernel_rfl
theorem Py (D:List ax) (ys:Option Addr->Nat->List Int) (l m m' q:List SV) (off n c k k' cl cl' j:Nat) (x:ax) (f:cp) (i i':Int) (es es':VQ) (b:Nat × Nat):fu (jR D ys) 2 400 (SM.at (eF off n c (qL k) i) 6 (iM l es cl m)) ([(2,.cells (iC x)),(3,.b true),(10,.cr)]++ff [0,9] true++ff [1,4,5,6,7,8,11,12,13,14,15,16,17,18,19,20,21,22,23] false++VP) [(0,0),(1,1),(2,2),(3,5)] [0,2,3] (eF off n c (qL k') i') 6 (iM l es' cl' m') 2 7 (.row q 5 (0,0) (some 1)) b=[List.map SV.v (List.map (V1 IntKind.u8) (ys x.3 x.4))=q,q.all ab=true,0=0,0=0/\(aI (ad m k) x).1.length=k'/\nZ=none,off=off/\n=n/\some c=some c,vZ (↑n:Int)=vZ (↑n:Int),vZ (IntKind.i64.wrap (i+1))=vZ i',l=l,l.all ab=true,cl+1=cl',dJ 7 b (es++[(SV.v (VS x.p),VZ [SV.v (vZ x.k),SV.sl 7 0 x.l none],cl)])=es',(es'.all fun e=>aw e.fst&&aw e.snd.fst)=true,List.map SV.v (vI (aI (ad m k) x).1)=m',m'.all ab=true,false=false,∀ (e:SV × SV × Nat),e∈es->a8 x.p e.fst,(∃ Z7,Z7∈D/\Z7.a=x.a/\Z7.l=x.l)/\x.3≠none,false=false,(x.2==0)=false,(!eE (mapOf es) x==0)=false,(96=96/\dW es cl)/\x.1.size<=1000000000,false=false,(48=48/\bu m k (ad m k)/\ad m k≠[])/\fS (ad m k) x/\(aI (ad m k) x).2=0/\(aI (ad m k) x).1≠[],List.take 3 (List.drop (off+i.toNat*3) l)=iC x/\(iC x).length=3,ai i n=true,decide (i<(↑n:Int))=true]:=by kernel_rfl
theorem pZ {p:ByteArray} (h:aR p=true):p≠⟨#[]⟩:=fun e=>by
 have h1:=im p
 rw [h] at h1
 exact absurd (by rw [e];rfl) (mM p (by simpa using h1))
theorem tC {xs:List ax} {x:ax} (h:(aI xs x).2=0):aR x.p=true/\((x.k=0/\aI xs x=(ch x.p xs,0))\/(x.k≠0/\aI xs x=(gL x (ch x.p xs),0)/\((aO x.p xs).k≠0\/xs.length<128))):=by
 unfold aI at h ⊢;by_cases g:aR x.p=false
 ·rw [if_pos g] at h;simp at h
 rw [if_neg g] at h ⊢;refine ⟨by simpa using g,?_⟩;by_cases c1:aS x.k x.l≠0
 ·rw [if_pos c1] at h;exact absurd h c1
 rw [if_neg c1] at h ⊢;by_cases c2:x.k≠2/\bO x.p xs≠[]
 ·rw [if_pos c2] at h;simp at h
 rw [if_neg c2] at h ⊢;by_cases c0:x.k=0
 ·rw [if_pos c0];exact .inl ⟨c0,rfl⟩
 rw [if_neg c0] at h ⊢;by_cases cu:CA x=true/\(aO (aj x.p) xs).k≠2
 ·rw [if_pos cu] at h;simp at h
 rw [if_neg cu] at h ⊢;by_cases cf:(aO x.p xs).k=0/\128<=xs.length
 ·rw [if_pos cf] at h;simp at h
 rw [if_neg cf];refine .inr ⟨c0,rfl,?_⟩;by_cases h0:(aO x.p xs).k=0
 ·exact .inr (Nat.lt_of_not_le fun h=>cf ⟨h0,h⟩)
 ·exact .inl h0
section
variable {E:List cp} {cl:Nat} {xs:List ax} {x:ax} {cm ys:ax->List Int}
theorem dM.nil:dM cm ys [] cl []:=⟨⟨by simp,by simp,fun e he=>(nomatch he),fun e he=>(nomatch he),fun e he=>(nomatch he)⟩,List.Perm.refl _,List.Pairwise.nil,by simp,fun e he=>(nomatch he)⟩
theorem dM.era (h:dM cm ys E cl xs) {j:Nat} {f:cp} (hj:E[j]?=some f) (hp:f.1.p=x.p):dM cm ys (E.eraseIdx j) cl (ch x.p xs):=
 ⟨h.ok.sub (List.eraseIdx_sublist E j),by rw [lO h.ok.names hj,hp,vK];exact h.ZP.filter _,h.sorted.drop _,Wj (vk _ _) h.Y2,fun e he=>h.kind e (Wo.1 he).1⟩
theorem dM.mod (h:dM cm ys E cl xs) {j:Nat} {f:cp} (hj:E[j]?=some f) (hp:f.1.p=x.p) {y:ax} (hy:oj cm y=oj ys x) (hxk:x.k≠0):dM cm ys (E.modify j fun e=>(y,e.2)) cl (gL x (ch x.p xs)):=by
 have hf:=Xi hj;have hyp:y.p=x.p:=(Prod.mk.inj hy).1;refine dM.new (h.ok.mod hj (by rw [hyp,hp])) ?_ (h.sorted.drop _) (fun e he=>Ho e he) ?_ (fun e he=>h.kind e (Wo.1 he).1) hxk
 ·refine ((jJ (g:=fun e=>(y,e.2)) hj).map (lx cm)).trans ?_;rw [WD,lO h.ok.names hj,hp,vK];show (oj cm y::_).Perm _;rw [hy];exact (h.ZP.filter _).cons _
 ·have:=(h.pj hf).2.1;rw [hp] at this;have:=h.Y2;omega
theorem dM.snoc (h:dM cm ys E cl xs) (hm:∀ f∈E,f.1.p≠x.p) {y:ax} (hy:oj cm y=oj ys x) (hf:x.p≠⟨#[]⟩) (hz:x.p.size<=1000000000) (hl:xs.length<128) (hxk:x.k≠0):dM cm ys (E++[(y,cl)]) (cl+1) (gL x xs):=by
 have hyp:y.p=x.p:=(Prod.mk.inj hy).1;refine dM.new (h.ok.snoc (by rw [hyp];exact hm) (by rw [hyp];exact hf) (by rw [hyp];exact hz)) ?_ h.sorted (h.cr hm) hl h.kind hxk;refine A9.trans ?_;rw [hy];exact h.ZP.cons _
theorem dM.tree (h:dM cm ys E cl xs):dW (E.map mI) cl:=by
 refine ⟨by rw [bj],by rw [bj];exact h.ok,?_⟩;rw [bj,h.len];have:=h.Y2;omega
theorem dM.empty (h:dM cm ys E cl []):E=[]:=Wd.1 (by rw [h.len];rfl)
end
structure yr (D:List ax):Prop where
 size:∀ x∈D,x.p.size<=1000000000
 nil:∀ x∈D,x.a=none->x.l=0
 Y2:D.length<=1000
def yI (ys:Option Addr->Nat->List Int) (e:ax):List Int:=ys e.a e.l
structure x7 (D:List ax) (ys:Option Addr->Nat->List Int) (w0:World) (M:Own) (H:Hp) (M1:Own) (w1:World) (E:List cp) (cl:Nat) (xs:List ax):Prop where
 kept:Kept w0.hp M w0 H M1 w1
 inv:dM (k7 H) (yI ys) E cl xs
 data:∀ e∈E,∃ zs,dF H e.1 zs/\vw w0 e.1
 sub:∀ e∈xs,e∈D
section
variable {D:List ax} {ys:Option Addr->Nat->List Int} {w0:World} {M:Own} {H:Hp} {M1:Own} {w1:World} {E:List cp} {cl:Nat} {xs:List ax} {x:ax}
theorem x7.next (hS:x7 D ys w0 M H M1 w1 E cl xs) {H':Hp} {M2:Own} {w2:World} (hk:Kept w0.hp M w0 H' M2 w2) (hs:H.Sub H') {y:ax} {zs:List Int} (hy:dF H' y zs) (hyn:vw w0 y)
  {E':List cp} {cl':Nat} {xs':List ax} (hE:∀ e∈E',e.1=y\/e∈E) (hx:x∈D) (Z9:∀ e∈xs',e=x\/e∈xs) (inv:dM (k7 H') (yI ys) E cl xs->dM (k7 H') (yI ys) E' cl' xs'):x7 D ys w0 M H' M2 w2 E' cl' xs':=by
 have hold:∀ e∈E,∃ zs,dF H' e.1 zs/\vw w0 e.1/\k7 H e.1=k7 H' e.1:=fun e he=>by
  obtain ⟨zs,h,hn⟩:=hS.data e he;exact ⟨zs,h.mono hs,hn,by rw [h.cont,(h.mono hs).cont]⟩
 refine ⟨hk,inv (hS.inv.cont fun e he=>(by obtain ⟨_,_,_,h⟩:=hold e he;exact h)),fun e he=>?_,fun e he=>?_⟩
 ·rcases hE e he with h | h
  ·exact ⟨zs,by rw [h];exact hy,by rw [h];exact hyn⟩
  ·obtain ⟨zs,h,hn,_⟩:=hold e h;exact ⟨zs,h,hn⟩
 ·rcases Z9 e he with h | h
  ·rw [h];exact hx
  ·exact hS.sub e h
theorem x7.nil (hk:Kept w0.hp M w0 H M1 w1):x7 D ys w0 M H M1 w1 [] 0 []:=⟨hk,dM.nil,fun e he=>(nomatch he),fun e he=>(nomatch he)⟩
theorem fZ {H:Hp} {x:ax} {zs:List Int} {ν1:aP} {j:Nat} {b:Nat × Nat} {ob:Obj} (hl:zs.length=x.l) (h:OR ν1 j (.row (List.map SV.v (zs.map (Value.int .u8))) 5 (0,0) (some 1)) ob):dF (H.put b.1 ob) ⟨x.p,x.k,some ⟨b.1,0,none⟩,x.l,b.2⟩ zs:=by
 obtain ⟨vs,rest,rfl,hv,_⟩:=h;obtain rfl:=sW hv;exact .inr ⟨b.1,rest,rfl,by rw [Hp.bM];simp,hl⟩
theorem vY {M0:Own} {w00 w0:World} (hM:∀ z,¬ M0 z) (hB:dh M0 w00 M w0) (hX:uD D ys w00):aK (jR D ys) M w0:=
 aK.uS (Checked.mixed Tryz.checked) (by kernel_rfl) (fk.of iI rfl dK) (dz.list (X:=uD D ys) (l:=Qx D ys) rfl (fun r h=>by
  simp only [Qx,V8,Ww,Xc] at h
  rcases h with rfl | rfl | rfl
  ·exact Is
  ·exact GK LL fun w h=>h.1
  ·exact Iu) fun ν s w hr _=>hX.keep fun k hk=>(hr.frame k (Wz hk hB.size) (hB.frame k hk (hM k)).2).trans (hB.frame k hk (hM k)).1) (fun f g h=>by cases h)
def vg (D:List ax) (ys:Option Addr->Nat->List Int) (w0:World) (e:Ending) (w':World):Prop:=Below w0.heap.size w0 w'/\∃ b v,e=.returned (.tuple #[fy b,v,.bool true])/\w0.heap.size<=b/\
 ∃ E cl xs,dM (k7 w'.hp) (yI ys) E cl xs/\(∀ e∈E,∃ zs,dF w'.hp e.1 zs/\vw w0 e.1)/\(∀ e∈xs,e∈D)/\
  ((xs=[]/\iG w' b)\/∃ m,w0.heap.size<=m/\kK w' b m E cl)/\((xs=[]/\v=.slice none 0 0)\/(xs≠[]/\cG w0 w' v (vI xs) xs.length 3 48))
end
theorem z8 (x:ax):(⟨x.p,x.k,x.a,x.l,x.c⟩:ax)=x:=rfl
theorem dI:mapOf []=[]:=rfl
section
variable {w0:World} {cs0:List Frame} {D:List ax} {ys:Option Addr->Nat->List Int} {M:Own} {off c:Nat} {ν:aP}
theorem I8 (hX:uD D ys w0) (hM:∀ z,¬ M z) (hD:yr D) {i:Nat} (hi:i<D.length) (Zz:∀ i b,ν i=some b->i=0)
  (ihC:∀ H M1 w1 E cl xs,x7 D ys w0 M H M1 w1 E cl xs->xs≠[]->af (jR D ys) M1 w1 cs0 7 (vg D ys w0) ν (SM.at (eF off D.length c (qL xs.length) ((i+1:Nat):Int)) 6 (iM (aT iC off D) (E.map mI) cl (cI xs))))
  (ihA:∀ H M1 w1,Kept w0.hp M w0 H M1 w1->af (jR D ys) M1 w1 cs0 7 (vg D ys w0) ν (SM.at (eF off D.length c bZ ((i+1:Nat):Int)) 6 (rj (aT iC off D))))
  {H:Hp} {M1:Own} {w1:World} (hk:Kept w0.hp M w0 H M1 w1):
  af (jR D ys) M1 w1 cs0 7 (vg D ys w0) ν (SM.at (eF off D.length c bZ (i:Int)) 6 (rj (aT iC off D))):=by
 have hS:=x7.nil (D:=D) (ys:=ys) hk;generalize hx:D[i]=x;have ZA:D[i]?=some x:=by rw [<- hx];exact V4 hi
 have Y4:x∈D:=by rw [<- hx];exact WT hi
 have Y2:=hD.Y2;have t1:decide ((i:Int)<(D.length:Int))=true:=V0 (by omega);have r1:=aJ hi;have ws:=aU (k:=i) (by omega);have ra:=gF (off:=off) cC ZA;have YX:(aT iC off D).all ab=true:=ca bp;have x1:=hD.size x Y4;have Ω:(ys x.a x.l).length=x.l:=(hX.2 x Y4).1;have Γ:x.a=none->ys x.a x.l=[]:=fun h=>Wd.1 (by rw [Ω,hD.nil x Y4 h]);have hI:=hS.inv;have hSI:fS [] x:=⟨x1,hI.size⟩;have hT:=hI.tree;have hmr:=xc hI x;have hh:True:=trivial;by_cases hc:¬ (aI [] x).2=0
 ·have ZQ:(!eE [] x==(0:Int))=true:=by rw [hmr];simpa using hc
  have hr:(!eE [] x==(aI [] x).2)=false:=by rw [hmr];simp
  refine af.reach (vY hM hS.kept.base hX) (k:=2) (n:=400) (o:=([(2,.cells (iC x)),(3,.b false)]++ff [0,6] true++ff [1,4,5,7,8,9,10,11,12,13,14,15,16] false++VP)) (ren:=[(0,0),(1,1)]) (eqs:=[0,1]) ?_ (by kernel_rfl) (fun i b h=>by rw [Zz i b h];rfl) (ihA H M1 w1 hk);rw [S3 (m:=[]) (m':=[]) (q:=[]) (k:=0) (k':=0) (cl:=0) (cl':=0) (j:=0) (f:=(x,0)) (es:=[]) (es':=[]) (b:=(0,0))];simp only [ah,t1,r1,ra,ws,ZQ,hr,cC,bp,YX,z8,aW,dI,bj,az,cX,cH,hh,hT,hSI,x1,hc,ne_eq,Xl,VV,VX,VW];try (repeat' apply And.intro)
  all_goals first | rfl | assumption | exact cK _ | exact ⟨x,Y4,rfl,rfl⟩ | exact ⟨x,Y4,by assumption,rfl⟩ | exact hT.2.1 | exact bJ _ | decide | (simp;done) | exact dX (fun e=>rfl) E _ | exact cJ (fun e=>rfl) E _ | exact aV (E:=[]) rfl | exact aV rfl | (rw [Wq];rfl) | (rw [ba]) | exact dx _ _ | skip
 have hc:=Classical.not_not.1 hc;obtain ⟨hg,hz⟩:=tC hc;have hxf:=pZ hg;have ZQ:(!eE [] x==(0:Int))=false:=by rw [hmr,hc];rfl
 rcases hz with ⟨ξ,hr⟩ | ⟨ξ,hr,Θ⟩
 ·have k0:(x.2==(0:Int))=true:=by rw [show x.2=0 from ξ];rfl
  have hd:ch x.p ([]:List ax)=[]:=rfl;rw [hd] at hr;refine af.reach (vY hM hS.kept.base hX) (k:=2) (n:=400) (o:=([(2,.cells (iC x)),(3,.cr)]++ff [0,7] true++ff [1,4,5,6,8,9,10,11,12,13,14,15,16,17] false++VP)) (ren:=[(0,0),(1,1)]) (eqs:=[0,1]) ?_ (by kernel_rfl) (fun i b h=>by rw [Zz i b h];rfl) (ihA H M1 w1 hk);rw [VI (m:=[]) (m':=[]) (q:=[]) (k:=0) (k':=0) (cl:=0) (cl':=0) (j:=0) (f:=(x,0)) (es:=[]) (es':=[]) (b:=(0,0))];simp only [ah,t1,r1,ra,ws,ZQ,hr,cC,bp,YX,z8,aW,dI,bj,az,cX,cH,hh,hT,hSI,x1,k0,VV,VX,VW];try (repeat' apply And.intro)
  all_goals first | rfl | assumption | exact cK _ | exact ⟨x,Y4,rfl,rfl⟩ | exact ⟨x,Y4,by assumption,rfl⟩ | exact hT.2.1 | exact bJ _ | decide | (simp;done) | exact dX (fun e=>rfl) E _ | exact cJ (fun e=>rfl) E _ | exact aV (E:=[]) rfl | exact aV rfl | (rw [Wq];rfl) | (rw [ba]) | exact dx _ _ | skip
 ·have k0:(x.2==(0:Int))=false:=by simpa using ξ
  have hd:ch x.p ([]:List ax)=[]:=rfl;rw [hd] at hr;have hm:∀ f∈([]:List cp),f.1.p≠x.p:=fun f hf=>(nomatch hf);by_cases hn:x.a=none
  ·have ZH:dF H (⟨x.p,x.k,none,0,0⟩:ax) (ys x.a x.l):=.inl ⟨rfl,rfl,Γ hn⟩;have hn3:x.3=none:=hn;refine af.reach (vY hM hS.kept.base hX) (k:=2) (n:=400) (o:=([(2,.cells (iC x)),(3,.b true)]++ff [0,8] true++ff [1,4,5,6,7,9] false++VP)) (ren:=[(0,0),(1,1),(2,5),(3,3)]) (eqs:=[0,2,3]) ?_ (by kernel_rfl) (fun i b h=>by rw [Zz i b h];rfl) (ihC H M1 w1 ([]++[((⟨x.p,x.k,none,0,0⟩:ax),0)]) (0+1) _ (hS.next (x:=x) (y:=(⟨x.p,x.k,none,0,0⟩:ax)) hS.kept (Hp.Sub.refl _) ZH (fun a h=>by cases h) (fun e he=>(WJ.1 he).elim (fun h=>.inr h) fun h=>.inl (by rw [Wk.1 h])) Y4 (fun e he=>jk he) fun hI=>hI.snoc hm (by unfold oj yI;rw [ZH.cont]) hxf x1 (by simp) ξ) (dx _ _));rw [Vy (m:=[]) (q:=[]) (k:=0) (cl:=0) (j:=0) (f:=(x,0)) (es:=[]) (b:=(0,0))];simp only [ah,t1,r1,ra,ws,ZQ,hr,cC,bp,YX,z8,aW,dI,bj,az,cX,cH,hh,hT,hSI,x1,Ww,false_implies,implies_true,k0,hn3,VV,VX,VW];try (repeat' apply And.intro)
   all_goals first | rfl | assumption | exact cK _ | exact ⟨x,Y4,rfl,rfl⟩ | exact ⟨x,Y4,by assumption,rfl⟩ | exact hT.2.1 | exact bJ _ | decide | (simp;done) | exact dX (fun e=>rfl) E _ | exact cJ (fun e=>rfl) E _ | exact aV (E:=[]) rfl | exact aV rfl | (rw [Wq];rfl) | (rw [ba]) | exact dx _ _ | skip
  ·have hn3:¬ x.3=none:=hn;refine af.fu (vY hM hS.kept.base hX) hM hS.kept (k:=2) (n:=400) (o:=([(2,.cells (iC x)),(3,.b true)]++ff [0,8,9] true++ff [1,4,5,6,7] false++VP)) (ren:=[(0,0),(1,1),(2,5),(3,3)]) (eqs:=[0,2,3]) (m:=5) (j:=6) (so:=.row (List.map SV.v ((ys x.a x.l).map (Value.int .u8))) 5 (0,0) (some 1)) (fun b=>?_) (by kernel_rfl) (fun i b h=>by rw [Zz i b h];rfl) (fun ν1 b ob M2 w2 ZG YO hK YJ φ=>ihC (H.put b.1 ob) M2 w2 ([]++[((⟨x.p,x.k,some ⟨b.1,0,none⟩,x.l,b.2⟩:ax),0)]) (0+1) _ (hS.next (x:=x) (y:=(⟨x.p,x.k,some ⟨b.1,0,none⟩,x.l,b.2⟩:ax)) hK YJ (fZ Ω YO) (fun a h=>by cases h;exact φ) (fun e he=>(WJ.1 he).elim (fun h=>.inr h) fun h=>.inl (by rw [Wk.1 h])) Y4 (fun e he=>jk he) fun hI=>hI.snoc hm (by unfold oj yI;rw [(fZ (H:=H) (b:=b) (x:=x) Ω YO).cont]) hxf x1 (by simp) ξ) (dx _ _));rw [UP (m:=[]) (k:=0) (cl:=0) (j:=0) (f:=(x,0)) (es:=[])]
   simp only [ah,t1,r1,ra,ws,ZQ,hr,cC,bp,YX,z8,aW,dI,bj,az,cX,cH,hh,hT,hSI,x1,Ww,false_implies,implies_true,k0,hn3,ne_eq,Xl,VV,VX,VW];try (repeat' apply And.intro)
   all_goals first | rfl | assumption | exact cK _ | exact ⟨x,Y4,rfl,rfl⟩ | exact ⟨x,Y4,by assumption,rfl⟩ | exact hT.2.1 | exact bJ _ | decide | (simp;done) | exact dX (fun e=>rfl) E _ | exact cJ (fun e=>rfl) E _ | exact aV (E:=[]) rfl | exact aV rfl | (rw [Wq];rfl) | (rw [ba]) | exact dx _ _ | skip
theorem JE (hX:uD D ys w0) (hM:∀ z,¬ M z) (hD:yr D) {i:Nat} (hi:i<D.length) (Zz:∀ i b,ν i=some b->i=0)
  (ihC:∀ H M1 w1 E cl xs,x7 D ys w0 M H M1 w1 E cl xs->xs≠[]->af (jR D ys) M1 w1 cs0 7 (vg D ys w0) ν (SM.at (eF off D.length c (qL xs.length) ((i+1:Nat):Int)) 6 (iM (aT iC off D) (E.map mI) cl (cI xs))))
  (ihB:∀ H M1 w1 cl,x7 D ys w0 M H M1 w1 [] cl []->af (jR D ys) M1 w1 cs0 7 (vg D ys w0) ν (SM.at (eF off D.length c bZ ((i+1:Nat):Int)) 6 (pM (aT iC off D) [] cl)))
  {H:Hp} {M1:Own} {w1:World} {cl:Nat} (hS:x7 D ys w0 M H M1 w1 [] cl []):
  af (jR D ys) M1 w1 cs0 7 (vg D ys w0) ν (SM.at (eF off D.length c bZ (i:Int)) 6 (pM (aT iC off D) [] cl)):=by
 generalize hx:D[i]=x;have ZA:D[i]?=some x:=by rw [<- hx];exact V4 hi
 have Y4:x∈D:=by rw [<- hx];exact WT hi
 have Y2:=hD.Y2;have t1:decide ((i:Int)<(D.length:Int))=true:=V0 (by omega);have r1:=aJ hi;have ws:=aU (k:=i) (by omega);have ra:=gF (off:=off) cC ZA;have YX:(aT iC off D).all ab=true:=ca bp;have x1:=hD.size x Y4;have Ω:(ys x.a x.l).length=x.l:=(hX.2 x Y4).1;have Γ:x.a=none->ys x.a x.l=[]:=fun h=>Wd.1 (by rw [Ω,hD.nil x Y4 h]);have hI:=hS.inv;have hSI:fS [] x:=⟨x1,hI.size⟩;have hT:=hI.tree;have hmr:=xc hI x;have hh:True:=trivial;by_cases hc:¬ (aI [] x).2=0
 ·have ZQ:(!eE [] x==(0:Int))=true:=by rw [hmr];simpa using hc
  have hr:(!eE [] x==(aI [] x).2)=false:=by rw [hmr];simp
  refine af.reach (vY hM hS.kept.base hX) (k:=2) (n:=400) (o:=([(2,.cells (iC x)),(3,.b false)]++ff [0,6] true++ff [1,4,5,7,8,9,10,11,12,13,14,15,16,17] false++VP)) (ren:=[(0,0),(1,1),(2,2)]) (eqs:=[0,2]) ?_ (by kernel_rfl) (fun i b h=>by rw [Zz i b h];rfl) (ihB H M1 w1 cl hS);rw [Ub (m:=[]) (m':=[]) (q:=[]) (k:=0) (k':=0) (j:=0) (f:=(x,0)) (b:=(0,0))];simp only [ah,t1,r1,ra,ws,ZQ,hr,cC,bp,YX,z8,aW,dI,bj,az,cX,cH,hh,hT,hSI,x1,hc,ne_eq,Xl,VV,VX,VW];try (repeat' apply And.intro)
  all_goals first | rfl | assumption | exact cK _ | exact ⟨x,Y4,rfl,rfl⟩ | exact ⟨x,Y4,by assumption,rfl⟩ | exact hT.2.1 | exact bJ _ | decide | (simp;done) | exact dX (fun e=>rfl) E _ | exact cJ (fun e=>rfl) E _ | exact aV (E:=[]) rfl | exact aV rfl | (rw [Wq];rfl) | (rw [ba]) | exact dx _ _ | skip
 have hc:=Classical.not_not.1 hc;obtain ⟨hg,hz⟩:=tC hc;have hxf:=pZ hg;have ZQ:(!eE [] x==(0:Int))=false:=by rw [hmr,hc];rfl
 rcases hz with ⟨ξ,hr⟩ | ⟨ξ,hr,Θ⟩
 ·have k0:(x.2==(0:Int))=true:=by rw [show x.2=0 from ξ];rfl
  have hd:ch x.p ([]:List ax)=[]:=rfl;rw [hd] at hr;refine af.reach (vY hM hS.kept.base hX) (k:=2) (n:=400) (o:=([(2,.cells (iC x)),(3,.cr),(8,.cr)]++ff [0,7] true++ff [1,4,5,6,9,10,11,12,13,14,15,16,17,18,19] false++VP)) (ren:=[(0,0),(1,1),(2,2)]) (eqs:=[0,2]) ?_ (by kernel_rfl) (fun i b h=>by rw [Zz i b h];rfl) (ihB H M1 w1 cl hS);rw [TR (m:=[]) (m':=[]) (q:=[]) (k:=0) (k':=0) (j:=0) (f:=(x,0)) (b:=(0,0))];simp only [ah,t1,r1,ra,ws,ZQ,hr,cC,bp,YX,z8,aW,dI,bj,az,cX,cH,hh,hT,hSI,x1,k0,Ww,false_implies,implies_true,VV,VX,VW];try (repeat' apply And.intro)
  all_goals first | rfl | assumption | exact cK _ | exact ⟨x,Y4,rfl,rfl⟩ | exact ⟨x,Y4,by assumption,rfl⟩ | exact hT.2.1 | exact bJ _ | decide | (simp;done) | exact dX (fun e=>rfl) E _ | exact cJ (fun e=>rfl) E _ | exact aV (E:=[]) rfl | exact aV rfl | (rw [Wq];rfl) | (rw [ba]) | exact dx _ _ | skip
 ·have k0:(x.2==(0:Int))=false:=by simpa using ξ
  have hd:ch x.p ([]:List ax)=[]:=rfl;rw [hd] at hr;have hm:∀ f∈([]:List cp),f.1.p≠x.p:=fun f hf=>(nomatch hf);by_cases hn:x.a=none
  ·have ZH:dF H (⟨x.p,x.k,none,0,0⟩:ax) (ys x.a x.l):=.inl ⟨rfl,rfl,Γ hn⟩;have hn3:x.3=none:=hn;refine af.reach (vY hM hS.kept.base hX) (k:=2) (n:=400) (o:=([(2,.cells (iC x)),(3,.b true),(10,.cr)]++ff [0] true++ff [1,4,5,6,7,8,9,11,12,13,14,15,16,17,18,19,20,21,22] false++VP)) (ren:=[(0,0),(1,1),(2,2),(3,4)]) (eqs:=[0,2,3]) ?_ (by kernel_rfl) (fun i b h=>by rw [Zz i b h];rfl) (ihC H M1 w1 ([]++[((⟨x.p,x.k,none,0,0⟩:ax),cl)]) (cl+1) _ (hS.next (x:=x) (y:=(⟨x.p,x.k,none,0,0⟩:ax)) hS.kept (Hp.Sub.refl _) ZH (fun a h=>by cases h) (fun e he=>(WJ.1 he).elim (fun h=>.inr h) fun h=>.inl (by rw [Wk.1 h])) Y4 (fun e he=>jk he) fun hI=>hI.snoc hm (by unfold oj yI;rw [ZH.cont]) hxf x1 (by simp) ξ) (dx _ _));rw [T4 (m:=[]) (q:=[]) (k:=0) (j:=0) (f:=(x,0)) (b:=(0,0))];simp only [ah,t1,r1,ra,ws,ZQ,hr,cC,bp,YX,z8,aW,dI,bj,az,cX,cH,hh,hT,hSI,x1,Ww,false_implies,implies_true,k0,hn3,VV,VX,VW]
   try (repeat' apply And.intro)
   all_goals first | rfl | assumption | exact cK _ | exact ⟨x,Y4,rfl,rfl⟩ | exact ⟨x,Y4,by assumption,rfl⟩ | exact hT.2.1 | exact bJ _ | decide | (simp;done) | exact dX (fun e=>rfl) E _ | exact cJ (fun e=>rfl) E _ | exact aV (E:=[]) rfl | exact aV rfl | (rw [Wq];rfl) | (rw [ba]) | exact dx _ _ | skip
  ·have hn3:¬ x.3=none:=hn;refine af.fu (vY hM hS.kept.base hX) hM hS.kept (k:=2) (n:=400) (o:=([(2,.cells (iC x)),(3,.b true),(10,.cr)]++ff [0,9] true++ff [1,4,5,6,7,8,11,12,13,14,15,16,17,18,19,20,21,22] false++VP)) (ren:=[(0,0),(1,1),(2,2),(3,4)]) (eqs:=[0,2,3]) (m:=2) (j:=6) (so:=.row (List.map SV.v ((ys x.a x.l).map (Value.int .u8))) 5 (0,0) (some 1)) (fun b=>?_) (by kernel_rfl) (fun i b h=>by rw [Zz i b h];rfl) (fun ν1 b ob M2 w2 ZG YO hK YJ φ=>ihC (H.put b.1 ob) M2 w2 ([]++[((⟨x.p,x.k,some ⟨b.1,0,none⟩,x.l,b.2⟩:ax),cl)]) (cl+1) _ (hS.next (x:=x) (y:=(⟨x.p,x.k,some ⟨b.1,0,none⟩,x.l,b.2⟩:ax)) hK YJ (fZ Ω YO) (fun a h=>by cases h;exact φ) (fun e he=>(WJ.1 he).elim (fun h=>.inr h) fun h=>.inl (by rw [Wk.1 h])) Y4 (fun e he=>jk he) fun hI=>hI.snoc hm (by unfold oj yI;rw [(fZ (H:=H) (b:=b) (x:=x) Ω YO).cont]) hxf x1 (by simp) ξ) (dx _ _));rw [Uw (m:=[]) (k:=0) (j:=0) (f:=(x,0))]
   simp only [ah,t1,r1,ra,ws,ZQ,hr,cC,bp,YX,z8,aW,dI,bj,az,cX,cH,hh,hT,hSI,x1,Ww,false_implies,implies_true,k0,hn3,ne_eq,Xl,VV,VX,VW];try (repeat' apply And.intro)
   all_goals first | rfl | assumption | exact cK _ | exact ⟨x,Y4,rfl,rfl⟩ | exact ⟨x,Y4,by assumption,rfl⟩ | exact hT.2.1 | exact bJ _ | decide | (simp;done) | exact dX (fun e=>rfl) E _ | exact cJ (fun e=>rfl) E _ | exact aV (E:=[]) rfl | exact aV rfl | (rw [Wq];rfl) | (rw [ba]) | exact dx _ _ | skip
theorem Ja (hX:uD D ys w0) (hM:∀ z,¬ M z) (hD:yr D) {i:Nat} (hi:i<D.length) (Zz:∀ i b,ν i=some b->i=0)
  (ihC:∀ H M1 w1 E cl xs,x7 D ys w0 M H M1 w1 E cl xs->xs≠[]->af (jR D ys) M1 w1 cs0 7 (vg D ys w0) ν (SM.at (eF off D.length c (qL xs.length) ((i+1:Nat):Int)) 6 (iM (aT iC off D) (E.map mI) cl (cI xs))))
  (ihB:∀ H M1 w1 cl,x7 D ys w0 M H M1 w1 [] cl []->af (jR D ys) M1 w1 cs0 7 (vg D ys w0) ν (SM.at (eF off D.length c bZ ((i+1:Nat):Int)) 6 (pM (aT iC off D) [] cl)))
  {H:Hp} {M1:Own} {w1:World} {E:List cp} {cl:Nat} {xs:List ax} (hS:x7 D ys w0 M H M1 w1 E cl xs) (YI:xs≠[]):
  af (jR D ys) M1 w1 cs0 7 (vg D ys w0) ν (SM.at (eF off D.length c (qL xs.length) (i:Int)) 6 (iM (aT iC off D) (E.map mI) cl (cI xs))):=by
 generalize hx:D[i]=x;have ZA:D[i]?=some x:=by rw [<- hx];exact V4 hi
 have Y4:x∈D:=by rw [<- hx];exact WT hi
 have Y2:=hD.Y2;have t1:decide ((i:Int)<(D.length:Int))=true:=V0 (by omega);have r1:=aJ hi;have ws:=aU (k:=i) (by omega);have ra:=gF (off:=off) cC ZA;have YX:(aT iC off D).all ab=true:=ca bp;have x1:=hD.size x Y4;have Ω:(ys x.a x.l).length=x.l:=(hX.2 x Y4).1;have Γ:x.a=none->ys x.a x.l=[]:=fun h=>Wd.1 (by rw [Ω,hD.nil x Y4 h]);have hI:=hS.inv;have hSI:fS xs x:=⟨x1,hI.size⟩;have hT:=hI.tree;have hmr:=xc hI x;have hh:bu (cI xs) xs.length xs:=⟨rfl,rfl,by have:=hI.Y2;omega⟩;by_cases hc:¬ (aI xs x).2=0
 ·have ZQ:(!eE E x==(0:Int))=true:=by rw [hmr];simpa using hc
  have hr:(!eE E x==(aI xs x).2)=false:=by rw [hmr];simp
  refine af.reach (vY hM hS.kept.base hX) (k:=2) (n:=400) (o:=([(2,.cells (iC x)),(3,.b false)]++ff [0,6] true++ff [1,4,5,7,8,9,10,11,12,13,14,15,16,17,18,19] false++VP)) (ren:=[(0,0),(1,1),(2,2),(3,3)]) (eqs:=[0,2,3]) ?_ (by kernel_rfl) (fun i b h=>by rw [Zz i b h];rfl) (ihC H M1 w1 E cl xs hS YI);rw [TB (q:=[]) (j:=0) (f:=(x,0)) (b:=(0,0))];simp only [ah,t1,r1,ra,ws,ZQ,hr,cC,bp,YX,z8,aW,dI,bj,az,cX,cH,hh,hT,hSI,x1,YI,hc,ne_eq,Xl,VV,VX,VW];try (repeat' apply And.intro)
  all_goals first | rfl | assumption | exact cK _ | exact ⟨x,Y4,rfl,rfl⟩ | exact ⟨x,Y4,by assumption,rfl⟩ | exact hT.2.1 | exact bJ _ | decide | (simp;done) | exact dX (fun e=>rfl) E _ | exact cJ (fun e=>rfl) E _ | exact aV (E:=[]) rfl | exact aV rfl | (rw [Wq];rfl) | (rw [ba]) | exact dx _ _ | skip
 have hc:=Classical.not_not.1 hc;obtain ⟨hg,hz⟩:=tC hc;have hxf:=pZ hg;have ZQ:(!eE E x==(0:Int))=false:=by rw [hmr,hc];rfl
 rcases hz with ⟨ξ,hr⟩ | ⟨ξ,hr,Θ⟩
 ·have k0:(x.2==(0:Int))=true:=by rw [show x.2=0 from ξ];rfl
  by_cases hit:∃ f∈E,f.1.p=x.p
  ·obtain ⟨f,hf,hp⟩:=hit;obtain ⟨j,hj,hjE⟩:=pA hI.ok.names hf;rw [hp] at hj;have hj1:=hj.1;have hj2:(E.map mI)[j]?=some (SV.v (Value.string x.1),cU f,f.2):=hj.2;have hE':=hI.era (x:=x) hjE hp;have hs':x7 D ys w0 M H M1 w1 (E.eraseIdx j) cl (ch x.p xs):=⟨hS.kept,hE',fun e he=>hS.data e (XY he),fun e he=>hS.sub e (Wo.1 he).1⟩;by_cases hd:ch x.p xs=[]
   ·rw [hd] at hr hs';have hE0:=hs'.inv.empty;rw [hE0] at hs';have hE1:(E.map mI).eraseIdx j=[]:=by rw [ba,hE0];rfl
    refine af.reach (vY hM hS.kept.base hX) (k:=2) (n:=400) (o:=([(2,.cells (iC x)),(3,.cr),(8,.hit j (cU f) f.2)]++ff [0,7] true++ff [1,4,5,6,9,10,11,12,13,14,15,16,17,18,19] false++VP)) (ren:=[(0,0),(1,1),(2,2)]) (eqs:=[0,2]) ?_ (by kernel_rfl) (fun i b h=>by rw [Zz i b h];rfl) (ihB H M1 w1 cl hs');rw [Pc (m':=[]) (q:=[]) (k':=0) (b:=(0,0))];simp only [ah,t1,r1,ra,ws,ZQ,hr,cC,bp,YX,z8,aW,dI,bj,az,cX,cH,hh,hT,hSI,x1,YI,k0,hj1,hj2,hE1,ne_eq,Xl,VV,VX,VW];try (repeat' apply And.intro)
    all_goals first | rfl | assumption | exact cK _ | exact ⟨x,Y4,rfl,rfl⟩ | exact ⟨x,Y4,by assumption,rfl⟩ | exact hT.2.1 | exact bJ _ | decide | (simp;done) | exact dX (fun e=>rfl) E _ | exact cJ (fun e=>rfl) E _ | exact aV (E:=[]) rfl | exact aV rfl | (rw [Wq];rfl) | (rw [ba]) | exact dx _ _ | skip
   ·have hE1:(E.map mI).eraseIdx j=(E.eraseIdx j).map mI:=ba _ _ _;refine af.reach (vY hM hS.kept.base hX) (k:=2) (n:=400) (o:=([(2,.cells (iC x)),(3,.b true),(8,.hit j (cU f) f.2)]++ff [0,7] true++ff [1,4,5,6,9,10,11,12,13,14,15,16,17,18,19,20,21] false++VP)) (ren:=[(0,0),(1,1),(2,2),(3,5)]) (eqs:=[0,2,3]) ?_ (by kernel_rfl) (fun i b h=>by rw [Zz i b h];rfl) (ihC H M1 w1 (E.eraseIdx j) cl _ hs' hd);rw [Qt (q:=[]) (b:=(0,0))];simp only [ah,t1,r1,ra,ws,ZQ,hr,cC,bp,YX,z8,aW,dI,bj,az,cX,cH,hh,hT,hSI,x1,YI,hd,k0,hj1,hj2,hE1,ne_eq,Xl,VV,VX,VW];try (repeat' apply And.intro)
    all_goals first | rfl | assumption | exact cK _ | exact ⟨x,Y4,rfl,rfl⟩ | exact ⟨x,Y4,by assumption,rfl⟩ | exact hT.2.1 | exact bJ _ | decide | (simp;done) | exact dX (fun e=>rfl) E _ | exact cJ (fun e=>rfl) E _ | exact aV (E:=[]) rfl | exact aV rfl | (rw [Wq];rfl) | (rw [ba]) | exact dx _ _ | skip
  ·have hm:∀ f∈E,f.1.p≠x.p:=fun f hf h=>hit ⟨f,hf,h⟩;have hms:=kj hm;have hd:=(nF (hI.cr hm)).2;rw [hd] at hr;refine af.reach (vY hM hS.kept.base hX) (k:=2) (n:=400) (o:=([(2,.cells (iC x)),(3,.b true),(8,.cr)]++ff [0,7] true++ff [1,4,5,6,9,10,11,12,13,14,15,16,17,18,19,20,21] false++VP)) (ren:=[(0,0),(1,1),(2,2),(3,5)]) (eqs:=[0,2,3]) ?_ (by kernel_rfl) (fun i b h=>by rw [Zz i b h];rfl) (ihC H M1 w1 E cl xs hS YI);rw [P0 (q:=[]) (j:=0) (f:=(x,0)) (b:=(0,0))];simp only [ah,t1,r1,ra,ws,ZQ,hr,cC,bp,YX,z8,aW,dI,bj,az,cX,cH,hh,hT,hSI,x1,YI,k0,ne_eq,Xl,VV,VX,VW];try (repeat' apply And.intro)
   all_goals first | rfl | assumption | exact cK _ | exact ⟨x,Y4,rfl,rfl⟩ | exact ⟨x,Y4,by assumption,rfl⟩ | exact hT.2.1 | exact bJ _ | decide | (simp;done) | exact dX (fun e=>rfl) E _ | exact cJ (fun e=>rfl) E _ | exact aV (E:=[]) rfl | exact aV rfl | (rw [Wq];rfl) | (rw [ba]) | exact dx _ _ | skip
 ·have k0:(x.2==(0:Int))=false:=by simpa using ξ
  by_cases hit:∃ f∈E,f.1.p=x.p
  ·obtain ⟨f,hf,hp⟩:=hit;obtain ⟨j,hj,hjE⟩:=pA hI.ok.names hf;rw [hp] at hj;have hj1:=hj.1;have hj2:(E.map mI)[j]?=some (SV.v (Value.string x.1),cU f,f.2):=hj.2;by_cases hn:x.a=none
   ·have ZH:dF H (⟨x.p,x.k,none,0,0⟩:ax) (ys x.a x.l):=.inl ⟨rfl,rfl,Γ hn⟩;have hn3:x.3=none:=hn;refine af.reach (vY hM hS.kept.base hX) (k:=2) (n:=400) (o:=([(2,.cells (iC x)),(3,.b true),(10,.hit j (cU f) f.2)]++ff [0] true++ff [1,4,5,6,7,8,9,11,12,13,14,15,16,17,18,19,20,21,22,23] false++VP)) (ren:=[(0,0),(1,1),(2,2),(3,5)]) (eqs:=[0,2,3]) ?_ (by kernel_rfl) (fun i b h=>by rw [Zz i b h];rfl) (ihC H M1 w1 (E.modify j fun e=>((⟨x.p,x.k,none,0,0⟩:ax),e.2)) cl _ (hS.next (x:=x) (y:=(⟨x.p,x.k,none,0,0⟩:ax)) hS.kept (Hp.Sub.refl _) ZH (fun a h=>by cases h) (fun e he=>(eU hjE he).elim (fun h=>.inl (by rw [h])) .inr) Y4 (fun e he=>yY he) fun hI=>hI.mod hjE hp (by unfold oj yI;rw [ZH.cont]) ξ) (dx _ _));rw [Pb (q:=[]) (b:=(0,0))];simp only [ah,t1,r1,ra,ws,ZQ,hr,cC,bp,YX,z8,aW,dI,bj,az,cX,cH,hh,hT,hSI,x1,YI,hj1,hj2,k0,hn3,VV,VX,VW];try (repeat' apply And.intro)
    all_goals first | rfl | assumption | exact cK _ | exact ⟨x,Y4,rfl,rfl⟩ | exact ⟨x,Y4,by assumption,rfl⟩ | exact hT.2.1 | exact bJ _ | decide | (simp;done) | exact dX (fun e=>rfl) E _ | exact cJ (fun e=>rfl) E _ | exact aV (E:=[]) rfl | exact aV rfl | (rw [Wq];rfl) | (rw [ba]) | exact dx _ _ | skip
   ·have hn3:¬ x.3=none:=hn;refine af.fu (vY hM hS.kept.base hX) hM hS.kept (k:=2) (n:=400) (o:=([(2,.cells (iC x)),(3,.b true),(10,.hit j (cU f) f.2)]++ff [0,9] true++ff [1,4,5,6,7,8,11,12,13,14,15,16,17,18,19,20,21,22,23] false++VP)) (ren:=[(0,0),(1,1),(2,2),(3,5)]) (eqs:=[0,2,3]) (m:=2) (j:=7) (so:=.row (List.map SV.v ((ys x.a x.l).map (Value.int .u8))) 5 (0,0) (some 1)) (fun b=>?_) (by kernel_rfl) (fun i b h=>by rw [Zz i b h];rfl) (fun ν1 b ob M2 w2 ZG YO hK YJ φ=>ihC (H.put b.1 ob) M2 w2 (E.modify j fun e=>((⟨x.p,x.k,some ⟨b.1,0,none⟩,x.l,b.2⟩:ax),e.2)) cl _ (hS.next (x:=x) (y:=(⟨x.p,x.k,some ⟨b.1,0,none⟩,x.l,b.2⟩:ax)) hK YJ (fZ Ω YO) (fun a h=>by cases h;exact φ) (fun e he=>(eU hjE he).elim (fun h=>.inl (by rw [h])) .inr) Y4 (fun e he=>yY he) fun hI=>hI.mod hjE hp (by unfold oj yI;rw [(fZ (H:=H) (b:=b) (x:=x) Ω YO).cont]) ξ) (dx _ _));rw [Po]
    simp only [ah,t1,r1,ra,ws,ZQ,hr,cC,bp,YX,z8,aW,dI,bj,az,cX,cH,hh,hT,hSI,x1,YI,hj1,hj2,k0,hn3,ne_eq,Xl,VV,VX,VW];try (repeat' apply And.intro)
    all_goals first | rfl | assumption | exact cK _ | exact ⟨x,Y4,rfl,rfl⟩ | exact ⟨x,Y4,by assumption,rfl⟩ | exact hT.2.1 | exact bJ _ | decide | (simp;done) | exact dX (fun e=>rfl) E _ | exact cJ (fun e=>rfl) E _ | exact aV (E:=[]) rfl | exact aV rfl | (rw [Wq];rfl) | (rw [ba]) | exact dx _ _ | skip
  ·have hm:∀ f∈E,f.1.p≠x.p:=fun f hf h=>hit ⟨f,hf,h⟩;have hms:=kj hm;have ZO:=nF (hI.cr hm)
   have YR:xs.length<128:=by
    rcases Θ with h | h
    ·rw [ZO.1] at h;exact absurd rfl h
    ·exact h
   have hd:=ZO.2;rw [hd] at hr;by_cases hn:x.a=none
   ·have ZH:dF H (⟨x.p,x.k,none,0,0⟩:ax) (ys x.a x.l):=.inl ⟨rfl,rfl,Γ hn⟩;have hn3:x.3=none:=hn;refine af.reach (vY hM hS.kept.base hX) (k:=2) (n:=400) (o:=([(2,.cells (iC x)),(3,.b true),(10,.cr)]++ff [0] true++ff [1,4,5,6,7,8,9,11,12,13,14,15,16,17,18,19,20,21,22,23] false++VP)) (ren:=[(0,0),(1,1),(2,2),(3,5)]) (eqs:=[0,2,3]) ?_ (by kernel_rfl) (fun i b h=>by rw [Zz i b h];rfl) (ihC H M1 w1 (E++[((⟨x.p,x.k,none,0,0⟩:ax),cl)]) (cl+1) _ (hS.next (x:=x) (y:=(⟨x.p,x.k,none,0,0⟩:ax)) hS.kept (Hp.Sub.refl _) ZH (fun a h=>by cases h) (fun e he=>(WJ.1 he).elim (fun h=>.inr h) fun h=>.inl (by rw [Wk.1 h])) Y4 (fun e he=>jk he) fun hI=>hI.snoc hm (by unfold oj yI;rw [ZH.cont]) hxf x1 YR ξ) (dx _ _));rw [Pf (q:=[]) (j:=0) (f:=(x,0)) (b:=(0,0))];simp only [ah,t1,r1,ra,ws,ZQ,hr,cC,bp,YX,z8,aW,dI,bj,az,cX,cH,hh,hT,hSI,x1,YI,k0,hn3,VV,VX,VW];try (repeat' apply And.intro)
    all_goals first | rfl | assumption | exact cK _ | exact ⟨x,Y4,rfl,rfl⟩ | exact ⟨x,Y4,by assumption,rfl⟩ | exact hT.2.1 | exact bJ _ | decide | (simp;done) | exact dX (fun e=>rfl) E _ | exact cJ (fun e=>rfl) E _ | exact aV (E:=[]) rfl | exact aV rfl | (rw [Wq];rfl) | (rw [ba]) | exact dx _ _ | skip
   ·have hn3:¬ x.3=none:=hn;refine af.fu (vY hM hS.kept.base hX) hM hS.kept (k:=2) (n:=400) (o:=([(2,.cells (iC x)),(3,.b true),(10,.cr)]++ff [0,9] true++ff [1,4,5,6,7,8,11,12,13,14,15,16,17,18,19,20,21,22,23] false++VP)) (ren:=[(0,0),(1,1),(2,2),(3,5)]) (eqs:=[0,2,3]) (m:=2) (j:=7) (so:=.row (List.map SV.v ((ys x.a x.l).map (Value.int .u8))) 5 (0,0) (some 1)) (fun b=>?_) (by kernel_rfl) (fun i b h=>by rw [Zz i b h];rfl) (fun ν1 b ob M2 w2 ZG YO hK YJ φ=>ihC (H.put b.1 ob) M2 w2 (E++[((⟨x.p,x.k,some ⟨b.1,0,none⟩,x.l,b.2⟩:ax),cl)]) (cl+1) _ (hS.next (x:=x) (y:=(⟨x.p,x.k,some ⟨b.1,0,none⟩,x.l,b.2⟩:ax)) hK YJ (fZ Ω YO) (fun a h=>by cases h;exact φ) (fun e he=>(WJ.1 he).elim (fun h=>.inr h) fun h=>.inl (by rw [Wk.1 h])) Y4 (fun e he=>jk he) fun hI=>hI.snoc hm (by unfold oj yI;rw [(fZ (H:=H) (b:=b) (x:=x) Ω YO).cont]) hxf x1 YR ξ) (dx _ _));rw [Py (j:=0) (f:=(x,0))]
    simp only [ah,t1,r1,ra,ws,ZQ,hr,cC,bp,YX,z8,aW,dI,bj,az,cX,cH,hh,hT,hSI,x1,YI,k0,hn3,ne_eq,Xl,VV,VX,VW];try (repeat' apply And.intro)
    all_goals first | rfl | assumption | exact cK _ | exact ⟨x,Y4,rfl,rfl⟩ | exact ⟨x,Y4,by assumption,rfl⟩ | exact hT.2.1 | exact bJ _ | decide | (simp;done) | exact dX (fun e=>rfl) E _ | exact cJ (fun e=>rfl) E _ | exact aV (E:=[]) rfl | exact aV rfl | (rw [Wq];rfl) | (rw [ba]) | exact dx _ _ | skip
end
def CV:Option (SO × Bool):=some (.row [.map 1] 96 (0,0) none,true)
theorem PW (D:List ax) (ys:Option Addr->Nat->List Int) (l:List SV) (off n c:Nat) (i:Int):iN (jR D ys) 7 100 (SM.at (eF off n c bZ i) 6 (rj l)) (ff [0] false) [(0,1)] [] (.tup [.ptr 0 0,.v (.slice none 0 0),.v (.bool true)]) [xe]=[0=0,VT none 0 0=VT none 0 0,VU true=VU true,Value.map none=Value.map none,decide (i<(↑n:Int))=false]:=by kernel_rfl
theorem VG (D:List ax) (ys:Option Addr->Nat->List Int) (l:List SV) (off n c cl:Nat) (i:Int) (es:VQ):iN (jR D ys) 7 100 (SM.at (eF off n c bZ i) 6 (pM l es cl)) (ff [0] false) [(0,1),(1,2)] [1] (.tup [.ptr 0 0,.v (.slice none 0 0),.v (.bool true)]) [CV,vl es cl]=[0=0,VT none 0 0=VT none 0 0,VU true=VU true,cl=cl,es=es,(es.all fun e=>aw e.fst&&aw e.snd.fst)=true,decide (i<(↑n:Int))=false]:=by kernel_rfl
theorem UM (D:List ax) (ys:Option Addr->Nat->List Int) (l m:List SV) (off n c cl k:Nat) (i:Int) (es:VQ):iN (jR D ys) 7 100 (SM.at (eF off n c (qL k) i) 6 (iM l es cl m)) (ff [0] false) [(0,1),(1,2),(2,3)] [1,2] (.tup [.ptr 0 0,.sl 2 0 k none,.v (.bool true)]) [CV,vl es cl,kf m]=[0=0,0=0/\k=k/\nZ=none,VU true=VU true,cl=cl,es=es,(es.all fun e=>aw e.fst&&aw e.snd.fst)=true,m=m,m.all ab=true,decide (i<(↑n:Int))=false]:=by kernel_rfl
theorem Rf (a:Option Addr) (c:Nat):iN (jR [] fun _ _=>[]) 7 100 (a7 (jR [] fun _ _=>[]) 7 [.v (.slice a 0 c)]) VP [(0,0)] [] (.tup [.ptr 0 0,.v (.slice none 0 0),.v (.bool true)]) [xe]=[0=0,VT none 0 0=VT none 0 0,VU true=VU true,Value.map none=Value.map none]:=by kernel_rfl
theorem TD (D:List ax) (ys:Option Addr->Nat->List Int) (l:List SV) (off n c:Nat):reach (jR D ys) 2 100 (F7 D ys l off n c) (VP) [(0,0),(1,1)] [0,1] (eF off n c bZ 0) 6 (rj l)=[0=0,VT none 0 0=VT none 0 0,off=off/\n=n/\some c=some c,vZ (↑n:Int)=vZ (↑n:Int),vZ 0=vZ 0,l=l,l.all ab=true,List.map SV.v [Value.map none]=[SV.v (Value.map none)],true=true]:=by kernel_rfl
section
variable {w0:World} {cs0:List Frame} {D:List ax} {ys:Option Addr->Nat->List Int} {M:Own} {off c:Nat} {ν:aP}
theorem Eh {ν':aP} {ob:Obj} (h:OR ν' 0 (.row [.v (.map none)] 96 (0,0) none) ob):ob=.cells #[.map none] 96 (0,0):=by
 obtain ⟨zs,rest,rfl,hz,hx⟩:=h;obtain ⟨z1,u,rfl,r1,hu⟩:=hz.cons_inv;obtain rfl:=hu.ay;obtain rfl:=VR.ae.1 r1
 have h0:rest=[]:=by
  have:([Value.map none]++rest).length=1:=hx;simpa using this
 subst h0;rfl
theorem uW {ν':aP} {ob:Obj} {bm:Nat × Nat} (hbm:ν' 1=some bm) (h:OR ν' 0 (.row [.map 1] 96 (0,0) none) ob):ob=.cells #[.map (some bm.1)] 96 (0,0):=by
 obtain ⟨zs,rest,rfl,hz,hx⟩:=h;obtain ⟨z1,u,rfl,r1,hu⟩:=hz.cons_inv;obtain rfl:=hu.ay;obtain ⟨bm',hbm',rfl⟩:=VR.cV.1 r1;rw [hbm] at hbm';cases hbm'
 have h0:rest=[]:=by
  have:([Value.map (some bm.1)]++rest).length=1:=hx;simpa using this
 subst h0;rfl
theorem Ko (hX:uD D ys w0) (hM:∀ z,¬ M z) {H:Hp} {M1:Own} {w1:World} (hk:Kept w0.hp M w0 H M1 w1) {S:SM} {n:Nat} {o:List (Nat × gM)} {ren:List (Nat × Nat)}
  (h:mY (iN (jR D ys) 7 n S o ren [] (.tup [.ptr 0 0,.v (.slice none 0 0),.v (.bool true)]) [xe])):
  af (jR D ys) M1 w1 cs0 7 (vg D ys w0) ν S:=by
 refine af.iN (vY hM hk.base hX) h.out fun ν' w' y hle hv hE hh=>?_;obtain ⟨M3,w3,s',hB,hr⟩:=hh;have Y3:=aB hM (hk.base.trans hB) hr;obtain ⟨a,rfl,ha⟩:=VR.cz.1 hv;obtain ⟨y1,a,rfl,q1,ha⟩:=ha.cons_inv;obtain ⟨y2,a,rfl,q2,ha⟩:=ha.cons_inv;obtain ⟨y3,a,rfl,q3,ha⟩:=ha.cons_inv;obtain rfl:=ha.ay;obtain ⟨b,hb,rfl⟩:=VR.aF.1 q1;obtain rfl:=VR.ae.1 q2;obtain rfl:=VR.ae.1 q3;obtain ⟨b',ob,YM,ho,YO,hw⟩:=hE.obj 0 _ _ rfl;rw [hb] at YM;cases YM;refine ⟨Y3,b.1,_,rfl,iH (M3:=M3) (w3:=w3) hM hk (hw rfl),[],0,[],dM.nil,fun e he=>(nomatch he),fun e he=>(nomatch he),.inl ⟨rfl,?_⟩,.inl ⟨rfl,rfl⟩⟩;unfold iG;rw [ho,Eh YO]
theorem On (hX:uD D ys w0) (hM:∀ z,¬ M z) {H:Hp} {M1:Own} {w1:World} {cl:Nat} (hS:x7 D ys w0 M H M1 w1 [] cl []) {i:Int} (hi:¬ i<(D.length:Int)):
  af (jR D ys) M1 w1 cs0 7 (vg D ys w0) ν (SM.at (eF off D.length c bZ i) 6 (pM (aT iC off D) [] cl)):=by
 refine af.iN (vY hM hS.kept.base hX) (n:=100) (o:=ff [0] false) (ren:=[(0,1),(1,2)]) (eqs:=[1]) (x:=.tup [.ptr 0 0,.v (.slice none 0 0),.v (.bool true)]) (l:=[CV,vl [] cl]) ?_ fun ν' w' y hle hv hE hh=>?_
 ·rw [VG];simp only [ah,V2 hi,List.all_nil,VV,VX,VW]
 obtain ⟨M3,w3,s',hB,hr⟩:=hh;have Y3:=aB hM (hS.kept.base.trans hB) hr;obtain ⟨a,rfl,ha⟩:=VR.cz.1 hv;obtain ⟨y1,a,rfl,q1,ha⟩:=ha.cons_inv;obtain ⟨y2,a,rfl,q2,ha⟩:=ha.cons_inv;obtain ⟨y3,a,rfl,q3,ha⟩:=ha.cons_inv;obtain rfl:=ha.ay;obtain ⟨b,hb,rfl⟩:=VR.aF.1 q1;obtain rfl:=VR.ae.1 q2;obtain rfl:=VR.ae.1 q3;obtain ⟨b',ob,YM,ho,YO,hw⟩:=hE.obj 0 _ _ rfl;rw [hb] at YM;cases YM;obtain ⟨bm,om,hbm,hom,horm,hwm⟩:=hE.obj 1 _ _ rfl;refine ⟨Y3,b.1,_,rfl,iH (M3:=M3) (w3:=w3) hM hS.kept (hw rfl),[],cl,[],dM.nil,fun e he=>(nomatch he),fun e he=>(nomatch he),.inr ⟨bm.1,iH (M3:=M3) (w3:=w3) hM hS.kept (hwm rfl),⟨?_,?_⟩⟩,.inl ⟨rfl,rfl⟩⟩
 ·rw [ho,uW hbm YO]
 ·obtain ⟨l,rfl,hl⟩:=horm;rw [hom,rU (E:=[]) hl]
theorem Og (hX:uD D ys w0) (hM:∀ z,¬ M z) {H:Hp} {M1:Own} {w1:World} {E:List cp} {cl:Nat} {xs:List ax} (hS:x7 D ys w0 M H M1 w1 E cl xs) (YI:xs≠[]) {i:Int} (hi:¬ i<(D.length:Int)):
  af (jR D ys) M1 w1 cs0 7 (vg D ys w0) ν (SM.at (eF off D.length c (qL xs.length) i) 6 (iM (aT iC off D) (E.map mI) cl (cI xs))):=by
 refine af.iN (vY hM hS.kept.base hX) (n:=100) (o:=ff [0] false) (ren:=[(0,1),(1,2),(2,3)]) (eqs:=[1,2]) (x:=.tup [.ptr 0 0,.sl 2 0 xs.length none,.v (.bool true)]) (l:=[CV,vl (E.map mI) cl,kf (cI xs)]) ?_ fun ν' w' y hle hv hE hh=>?_
 ·rw [UM];simp only [ah,cH,az,V2 hi,VV,VX,VW]
 obtain ⟨M3,w3,s',hB,hr⟩:=hh;have Y3:=aB hM (hS.kept.base.trans hB) hr;have hnow:=hS.kept.now hB hr;obtain ⟨a,rfl,ha⟩:=VR.cz.1 hv;obtain ⟨y1,a,rfl,q1,ha⟩:=ha.cons_inv;obtain ⟨y2,a,rfl,q2,ha⟩:=ha.cons_inv;obtain ⟨y3,a,rfl,q3,ha⟩:=ha.cons_inv;obtain rfl:=ha.ay;obtain ⟨b,hb,rfl⟩:=VR.aF.1 q1;obtain rfl:=VR.ae.1 q3;obtain ⟨b',ob,YM,ho,YO,hw⟩:=hE.obj 0 _ _ rfl;rw [hb] at YM;cases YM;obtain ⟨bm,om,hbm,hom,horm,hwm⟩:=hE.obj 1 _ _ rfl;obtain ⟨br,orr,hbr,hor2,horr,hwr⟩:=hE.obj 2 _ _ rfl
 have hcont:∀ e∈E,k7 H e.1=k7 w'.hp e.1:=fun e he=>by
  obtain ⟨zs,hz,_⟩:=hS.data e he;rw [hz.cont,(hz.mono hnow).cont]
 refine ⟨Y3,b.1,y2,rfl,iH (M3:=M3) (w3:=w3) hM hS.kept (hw rfl),E,cl,xs,hS.inv.cont hcont,fun e he=>?_,hS.sub,.inr ⟨bm.1,iH (M3:=M3) (w3:=w3) hM hS.kept (hwm rfl),⟨?_,?_⟩⟩,.inr ⟨YI,?_⟩⟩
 ·obtain ⟨zs,hz,hn⟩:=hS.data e he;exact ⟨zs,hz.mono hnow,hn⟩
 ·rw [ho,uW hbm YO]
 ·obtain ⟨l,rfl,hl⟩:=horm;rw [hom,rU hl]
 ·exact cG.fW q2 hbr hor2 horr (iH (M3:=M3) (w3:=w3) hM hS.kept (hwr rfl)) fun zs hz=>tI hz
theorem HA (hX:uD D ys w0) (hM:∀ z,¬ M z) (hD:yr D) (Zz:∀ i b,ν i=some b->i=0):∀ (j i:Nat),i+j=D.length->
  (∀ H M1 w1 E cl xs,x7 D ys w0 M H M1 w1 E cl xs->xs≠[]->af (jR D ys) M1 w1 cs0 7 (vg D ys w0) ν (SM.at (eF off D.length c (qL xs.length) (i:Int)) 6 (iM (aT iC off D) (E.map mI) cl (cI xs))))/\
  (∀ H M1 w1 cl,x7 D ys w0 M H M1 w1 [] cl []->af (jR D ys) M1 w1 cs0 7 (vg D ys w0) ν (SM.at (eF off D.length c bZ (i:Int)) 6 (pM (aT iC off D) [] cl)))/\
  (∀ H M1 w1,Kept w0.hp M w0 H M1 w1->af (jR D ys) M1 w1 cs0 7 (vg D ys w0) ν (SM.at (eF off D.length c bZ (i:Int)) 6 (rj (aT iC off D))))
 | 0,i,hj=>by
  refine ⟨fun H M1 w1 E cl xs hS YI=>Og hX hM hS YI (by omega),fun H M1 w1 cl hS=>On hX hM hS (by omega),fun H M1 w1 hk=>?_⟩
  refine Ko hX hM hk (n:=100) (o:=ff [0] false) (ren:=[(0,1)]) ⟨?_⟩
  rw [PW]
  simp only [ah,V2 (show ¬ (i:Int)<(D.length:Int) by omega),VV,VX,VW]
 | j+1,i,hj=>by
  obtain ⟨hC,hB,hA⟩:=HA hX hM hD Zz j (i+1) (by omega)
  exact ⟨fun H M1 w1 E cl xs hS YI=>Ja hX hM hD (by omega) Zz hC hB hS YI,fun H M1 w1 cl hS=>JE hX hM hD (by omega) Zz hC hB hS,fun H M1 w1 hk=>I8 hX hM hD (by omega) Zz hC hA hk⟩
end
theorem x5 {W:World} {D:List ax} {ys:Option Addr->Nat->List Int} {b off c:Nat} {cs:Array Value} {e:TypeId} {fz:Nat × Nat} (hX:uD D ys W) (hD:yr D) (ZT:D.length<=c) (hh:W.heap[b]?=some (.cells cs e fz)) (Zi:off<=cs.size) (hc:∀ (k:Nat) (v:Value),(D.flatMap iV)[k]?=some v->cs[off+k]?=some v):
  Calls Tryz.prog 7 #[.slice (some ⟨b,off,none⟩) D.length c] W (vg D ys W):=by
 refine aZ (E:=jR D ys) rfl (d:=6) (l:=[(b,0)]) (os:=[.look (aT iC off D)]) rfl (by simp) (by simp) ?_ rfl (args:=[.sl 0 off D.length (some c)]) (a:=[.slice (some ⟨b,off,none⟩) D.length c]) (S0:=F7 D ys (aT iC off D) off D.length c) (by kernel_rfl) (au.cons (VR.aL.2 ⟨(b,0),rfl,ZT,rfl⟩) au.nil) fun cs0=>?_
 ·intro j o' b' c' h1 h2;match j with
  | 0=>
   simp only [Wa,Option.some.injEq] at h1 h2;subst h1;cases h2;exact ⟨_,hh,eJ (h:=iV) (fun ν x=>au.lits ν (iV x)) Zi hc⟩
  | j+1=>simp at h1
 ·have hM:∀ z,¬ (aD [(b,0)] ([SO.look (aT iC off D)].map fun o=>(o,false))) z:=fun z=>aY;have hν:∀ i c,aA [(b,0)] i=some c->i=0:=fun i c h=>dj h
  have hK:=Kept.start (H0:=W.hp) (M:=aD [(b,0)] ([SO.look (aT iC off D)].map fun o=>(o,false))) (w:=W) (Hp.Sub.refl _) (fun z o _=>hM z) (dN (by
   intro j o' m b' c' h1 h2;match j with
   | 0=>
    simp only [WD,Wa,Option.some.injEq] at h1 h2;cases h1;cases h2;exact ⟨_,hh,eJ (h:=iV) (fun ν x=>au.lits ν (iV x)) Zi hc⟩
   | j+1=>simp at h1)) (fun _ h=>h)
  have YX:(aT iC off D).all ab=true:=ca bp;refine af.reach (vY hM hK.base hX) (k:=2) (n:=100) (o:=VP) (ren:=[(0,0),(1,1)]) (eqs:=[0,1]) (F:=eF off D.length c bZ 0) (d:=6) (l:=rj (aT iC off D)) ?_ (by kernel_rfl) (fun i b h=>by rw [hν i b h];rfl) ((HA hX hM hD hν D.length 0 (by omega)).2.2 W.hp _ W hK);rw [TD];simp only [ah,YX,VV,VX,VW];try (repeat' apply And.intro)
  all_goals first | rfl | assumption | decide | (simp;done) | skip
theorem ya {W:World} (hm:MX W) (ys:Option Addr->Nat->List Int) (a:Option Addr) (c:Nat):Calls Tryz.prog 7 #[.slice a 0 c] W (vg [] ys W):=by
 have hX:uD [] (fun _ _=>[]) W:=⟨hm,fun x hx=>(nomatch hx)⟩
 have:Calls Tryz.prog 7 #[.slice a 0 c] W (vg [] (fun _ _=>[]) W):=by
  refine bP (E:=jR [] fun _ _=>[]) rfl rfl (args:=[.v (.slice a 0 c)]) (a:=[.slice a 0 c]) (S0:=a7 (jR [] fun _ _=>[]) 7 [.v (.slice a 0 c)]) (by kernel_rfl) (au.cons (VR.ae.2 rfl) au.nil) fun cs0=>?_;have hK:=Kept.start (H0:=W.hp) (M:=aD [] []) (w:=W) (Hp.Sub.refl _) (fun z o _=>aE z) (fun z h=>by obtain ⟨i,o,c,h,_⟩:=h;simp at h) (fun _ h=>h);refine Ko hX aE hK (n:=100) (o:=VP) (ren:=[(0,0)]) ⟨?_⟩;rw [Rf];simp only [ah,VV,VX,VW]
 refine this.mono fun e w' ⟨h1,b,v,h2,h3,E,cl,xs,h4,h5,h6,h7⟩=>?_
 have hx:xs=[]:=by
  cases xs with
  | nil=>rfl
  | cons z zs=>exact absurd (h6 z Wi) (by simp)
 subst hx;have hE:=h4.empty;subst hE;exact ⟨h1,b,v,h2,h3,[],cl,[],dM.nil,fun e he=>(nomatch he),fun e he=>(nomatch he),h7⟩
def KO:Option (SO × Bool):=some (.row [.map 1] 96 (0,0) none,false)
def Hv:Option (SO × Bool):=some (.row [.v (.map none)] 96 (0,0) none,false)
def mapTR (es:VQ) (cl:Nat):Option (SO × Bool):=some (.map es cl,false)
def Cp (es:VQ) (cl:Nat) (p:ByteArray):SM:=(a6 bn 85 [.ptr 0 0,.v (.string p)] (bG 6 2 0 [KO,mapTR es cl])).getD dn
def tq (p:ByteArray):SM:=(a6 bn 85 [.ptr 0 0,.v (.string p)] (bG 6 1 0 [Hv])).getD dn
theorem Vj (es:VQ) (cl:Nat) (p:ByteArray) (j:Nat) (f:cp) (v:Value):ao bn 85 60 (Cp es cl p) (VP++(List.range 10).map fun k=>(k,.hit j (.agg [.v (.int .i64 f.1.k),.v (.slice f.1.a f.1.l f.1.c)]) f.2)) v=[Value.agg { toList:=[vZ f.fst.2,VT f.fst.3 f.fst.4 f.fst.5]:Array Value }=v,(∀ (e:SV × SV × Nat),e∈List.take j es->a8 p e.fst)/\es[j]?=some (SV.v (VS p),VZ [SV.v (vZ f.fst.2),SV.v (VT f.fst.3 f.fst.4 f.fst.5)],f.2)]:=by kernel_rfl
theorem UZ (es:VQ) (cl:Nat) (p:ByteArray) (v:Value):ao bn 85 60 (Cp es cl p) (VP++(List.range 10).map fun k=>(k,.cr)) v=[Value.agg { toList:=[vZ 0,VT none 0 0]:Array Value }=v,∀ (e:SV × SV × Nat),e∈es->a8 p e.fst]:=by kernel_rfl
theorem SG (p:ByteArray) (v:Value):ao bn 85 60 (tq p) (VP) v=[Value.agg { toList:=[vZ 0,VT none 0 0]:Array Value }=v]:=by kernel_rfl
def iY (w:World) (b:Nat) (E:List cp):Prop:=(∃ m cl,b≠m/\kK w b m E cl/\dO E cl)\/(E=[]/\iG w b)
theorem iY.keep {w0 w:World} {b:Nat} {E:List cp} (h:iY w0 b E) (hs:w0.hp.Sub w.hp):iY w b E:=by
 rcases h with ⟨m,cl,h1,⟨h2,h3⟩,h4⟩ | ⟨h1,h2⟩
 ·exact .inl ⟨m,cl,h1,⟨hs _ _ h2,hs _ _ h3⟩,h4⟩
 ·exact .inr ⟨h1,hs _ _ h2⟩
def CQ (c:ax->List Int) (E:List cp) (p:ByteArray):Int × List Int:=match BN E p with | some e=>(e.1.k,c e.1) | none=>(0,[])
def NR (H:Hp) (w:World) (z:Int × List Int) (e:Ending) (w':World):Prop:=Below w.heap.size w w'/\∃ k a l c zs,e=.returned (.agg #[.int .i64 k,.slice a l c])/\ko H a l zs/\(k,zs)=z
theorem pQ {w:World}:ui w none 0 []:=⟨⟨rfl,WX _,fun b hb=>by cases hb⟩,fun _=>rfl⟩
theorem Gl {b m:Nat × Nat} {o o':SO} (z:Nat):¬ (aD [b,m] ([o,o'].map fun o=>(o,false))) z:=aY (os:=[_,_])
theorem Mv {b:Nat × Nat} {o:SO} (z:Nat):¬ (aD [b] ([o].map fun o=>(o,false))) z:=aY (os:=[_])
theorem vf {Q:Env} (hP:Q.P=Tryz.prog) (hG:Q.G=[]) {f:FuncId} {w:World} {b m cl:Nat} {E:List cp} (hA:kK w b m E cl) (YI:b≠m) {p:ByteArray} {R:Ending->World->Prop} {S0:SM} (ζ:a6 Q f [.ptr 0 0,.v (.string p)] (bG 6 2 0 [KO,mapTR (E.map mI) cl])=some S0)
  (h:∀ cs0,af Q (aD [(b,0),(m,0)] ([SO.row [.map 1] 96 (0,0) none,SO.map (E.map mI) cl].map fun o=>(o,false))) w cs0 f R (aA [(b,0),(m,0)]) S0):
  Calls Tryz.prog f #[fy b,.string p] w R:=by
 refine aZ (E:=Q) hP (d:=6) (l:=[(b,0),(m,0)]) (os:=[.row [.map 1] 96 (0,0) none,.map (E.map mI) cl]) rfl (by simp) (by simpa using YI) ?_ hG (args:=[.ptr 0 0,.v (.string p)]) (a:=[fy b,.string p]) (S0:=S0) ζ (au.cons (VR.aF.2 ⟨(b,0),rfl,rfl⟩) (au.cons (VR.ae.2 rfl) au.nil)) h;intro j o' b' c' h1 h2;match j with
 | 0=>
  simp only [Wa,Option.some.injEq] at h1 h2;subst h1;cases h2;exact ⟨_,hA.row,_,[],rfl,au.cons (VR.cV.2 ⟨(m,0),rfl,rfl⟩) au.nil,rfl⟩
 | 1=>
  simp only [WU,Wa,Option.some.injEq] at h1 h2;subst h1;cases h2;exact ⟨_,hA.map,_,rfl,o8 E⟩
 | j+2=>simp at h1
theorem AW {Q:Env} (hP:Q.P=Tryz.prog) (hG:Q.G=[]) {f:FuncId} {w:World} {b:Nat} (hA:iG w b) {p:ByteArray} {R:Ending->World->Prop} {S0:SM} (ζ:a6 Q f [.ptr 0 0,.v (.string p)] (bG 6 1 0 [Hv])=some S0)
  (h:∀ cs0,af Q (aD [(b,0)] ([SO.row [.v (.map none)] 96 (0,0) none].map fun o=>(o,false))) w cs0 f R (aA [(b,0)]) S0):
  Calls Tryz.prog f #[fy b,.string p] w R:=by
 refine aZ (E:=Q) hP (d:=6) (l:=[(b,0)]) (os:=[.row [.v (.map none)] 96 (0,0) none]) rfl (by simp) (by simp) ?_ hG (args:=[.ptr 0 0,.v (.string p)]) (a:=[fy b,.string p]) (S0:=S0) ζ (au.cons (VR.aF.2 ⟨(b,0),rfl,rfl⟩) (au.cons (VR.ae.2 rfl) au.nil)) h;intro j o' b' c' h1 h2;match j with
 | 0=>
  simp only [Wa,Option.some.injEq] at h1 h2;subst h1;cases h2;exact ⟨_,hA,_,[],rfl,au.cons (VR.ae.2 rfl) au.nil,rfl⟩
 | j+1=>simp at h1
theorem BR {w:World} {b:Nat} {E:List cp} {cm:ax->List Int} (h:iY w b E) {H:Hp} (hd:∀ e∈E,ko H e.1.a e.1.l (cm e.1)) (p:ByteArray):
  Calls Tryz.prog 85 #[fy b,.string p] w (NR H w (CQ cm E p)):=by
 unfold CQ;rcases h with ⟨m,cl,YI,hA,hB⟩ | ⟨rfl,hZ⟩
 ·cases hf:BN E p with
  | none=>
   have hm:∀ e∈E,e.1.p≠p:=fun e he h=>WY.1 hf e he (eY.2 h);refine vf (Q:=bn) rfl rfl hA YI (S0:=Cp (E.map mI) cl p) (by kernel_rfl) fun cs0=>?_;refine af.ao fQ (n:=60) (o:=(VP++(List.range 10).map fun k=>(k,.cr))) (v:=.agg #[.int .i64 0,.slice none 0 0]) ?_ fun ν' M1 w1 s' w' _ hB hr=>⟨aB Gl hB hr,0,none,0,0,[],rfl,fun _ _=>pQ,rfl⟩;rw [UZ];simp only [ah,VV,VX,VW];first | exact kj hm | exact ⟨rfl,kj hm⟩ | exact ⟨kj hm,rfl⟩
  | some g=>
   have hg:=WV hf;have hfp:g.1.p=p:=eY.1 (Xr (p:=fun e:cp=>pI p e.1) hf);obtain ⟨j,hj,hx⟩:=pA hB.names hg;rw [hfp] at hj;refine vf (Q:=bn) rfl rfl hA YI (S0:=Cp (E.map mI) cl p) (by kernel_rfl) fun cs0=>?_;refine af.ao fQ (n:=60) (o:=(VP++(List.range 10).map fun k=>(k,.hit j (.agg [.v (.int .i64 g.1.k),.v (.slice g.1.a g.1.l g.1.c)]) g.2))) (v:=.agg #[.int .i64 g.1.k,.slice g.1.a g.1.l g.1.c]) ?_ fun ν' M1 w1 s' w' _ hB hr=>⟨aB Gl hB hr,_,_,_,_,cm g.1,rfl,hd g hg,rfl⟩;rw [Vj];simp only [ah,VV,VX,VW];first | exact hj | exact ⟨hj,rfl⟩ | exact ⟨rfl,hj⟩
 ·refine AW (Q:=bn) rfl rfl hZ (S0:=tq p) (by kernel_rfl) fun cs0=>?_;refine af.ao fQ (n:=60) (o:=VP) (v:=.agg #[.int .i64 0,.slice none 0 0]) ?_ fun ν' M1 w1 s' w' _ hB hr=>⟨aB Mv hB hr,0,none,0,0,[],rfl,fun _ _=>pQ,rfl⟩;rw [SG];simp only [ah,VV,VX,VW]
def kX (k:Int) (a:Option Addr) (l c:Nat):SV:=.v (.agg #[.int .i64 k,.slice a l c])
def zx (H0:Hp) (b:Nat) (z:ByteArray->Int × List Int):Prop:=
 ∀ w,H0.Sub w.hp->∀ p,Calls Tryz.prog 85 #[fy b,.string p] w (NR H0 w (z p))
end paths
end Go.Proofs.YtbjmmnegkpeboaaGreatDoor
namespace Go.Rx
open Go.RowKit (Below)
section
variable {E:Env} {ν:aP} {M:Own} {w0 w:World} {s s':SH} {cs0:List Frame} {f:FuncId} {R:Ending->World->Prop}
end
end Go.Rx
namespace Go.Proofs.YtbjmmnegkpeboaaGreatDoor
open Go Go.Rx Go.RowKit Go.Proofs
namespace paths
def cx (n:Nat):Nat->SV:=fun i=>.sl i 0 n none
def PG (l:List ByteArray):SO:=.row (strs l) 9 (0,0) (some 1)
def oT:List (Nat × gM):=ff [1000] true
theorem iY.cells {w:World} {b:Nat} {E:List cp} (h:iY w b E):∃ v,w.heap[b]?=some (.cells #[.map v] 96 (0,0)):=by
 rcases h with ⟨m,cl,h1,h2,h4⟩ | ⟨h1,h2⟩
 ·exact ⟨_,h2.row⟩
 ·exact ⟨_,h2⟩
theorem iY.size {w:World} {b:Nat} {E:List cp} (h:iY w b E):∀ e∈E,e.1.p.size<=1000000000:=by
 rcases h with ⟨m,cl,h1,h2,h4⟩ | ⟨h1,h2⟩
 ·exact h4.size
 ·rw [h1];exact fun e he=>(nomatch he)
theorem ko.mono {H H':Hp} {a:Option Addr} {l:Nat} {zs:List Int} (h:ko H a l zs) (hs:H.Sub H'):ko H' a l zs:=fun w hw=>h w (hs.trans hw)
theorem zx.mono {H H':Hp} {b:Nat} {z:ByteArray->Int × List Int} (h:zx H b z) (hs:H.Sub H'):zx H' b z:=fun w hw p=>
 (h w (hs.trans hw) p).mono fun e w' ⟨h1,k,a,l,c,zs,h2,h3,h4⟩=>⟨h1,k,a,l,c,zs,h2,h3.mono hs,h4⟩
structure jY (W:World) (b:Nat) (z:ByteArray->Int × List Int) (E:List cp):Prop where
 tree:iY W b E
 get:zx W.hp b z
 Y2:E.length<=1000
theorem jY.keep {W w:World} {b:Nat} {z:ByteArray->Int × List Int} {E:List cp} (h:jY W b z E) (hs:W.hp.Sub w.hp):jY w b z E:=⟨h.tree.keep hs,h.get.mono hs,h.Y2⟩
section
variable {W:World} {cs0:List Frame} {b b1 b2:Nat} {z z1 z2:ByteArray->Int × List Int} {E E1 E2:List cp} {M:Own} {ν:aP}
end
inductive qu (W:World) (a:Option Addr) (l c:Nat) (D:List ax):Prop where
 | none (hl:l=0) (hD:D=[])
 | some (b off:Nat) (cs:Array Value) (e:TypeId) (fz:Nat × Nat) (ha:a=.some ⟨b,off,.none⟩) (hl:D.length=l) (ZT:l<=c) (hh:W.heap[b]?=.some (.cells cs e fz)) (Zi:off<=cs.size) (hc:∀ (k:Nat) (v:Value),(D.flatMap iV)[k]?=.some v->cs[off+k]?=.some v)
theorem qu.keep {W w:World} {a:Option Addr} {l c:Nat} {D:List ax} (h:qu W a l c D) (hk:∀ k,k<W.heap.size->w.heap[k]?=W.heap[k]?):qu w a l c D:=by
 rcases h with ⟨hl,hD⟩ | ⟨b,off,cs,e,fz,ha,hl,ZT,hh,Zi,hc⟩
 ·exact .none hl hD
 ·exact .some b off cs e fz ha hl ZT ((hk b (VY.1 hh).1).trans hh) Zi hc
structure xg (W:World) (x:ax):Prop where
 p:x.p.size<=reachBytes
 nil:x.a=none->x.l=0
 l:x.l<=reachBytes
 ys:∃ ys:List Int,eZ W x.a x.l ys/\∀ y∈ys,0<=y/\y<256
 cap:x.l<=x.c\/x.l=0
section
variable {H:Type} {enc:TypeId × Value->H} {W:World} {base:Nat} {spare:Nat->Bool} {held:Bool}
theorem Jw {vs:List Value} {n:Nat} {y:DataW H × List MemPlace} (h:DataW.trod enc Tryz.prog W base spare held n 48 vs=some y) (hw:∀ q∈y.1.weights Tryz.prog 48,q<=reachBytes):∃ r:{ x:ax // xg W x },vs=iV r.1:=by
 have hs:Tryz.prog.underlying 48=some (.struct (structFields Tryz.prog 48)):=by kernel_rfl
 obtain ⟨xs,n',_,_,hl,_,_⟩:=DataW.trod_struct hs h;have hl:vs.length=3:=hl.trans (by kernel_rfl);obtain ⟨n0,y0,h0,w0⟩:=gh (i:=0) (o:=0) (ft:=9) (k:=1) h hs (by kernel_rfl) (by kernel_rfl) (by kernel_rfl) (by kernel_rfl);obtain ⟨n2,y2,h2,w2⟩:=gh (i:=1) (o:=1) (ft:=46) (k:=2) h hs (by kernel_rfl) (by kernel_rfl) (by kernel_rfl) (by kernel_rfl);have hs2:Tryz.prog.underlying 46=some (.struct (structFields Tryz.prog 46)):=by kernel_rfl
 obtain ⟨n3,y3,h3,w3⟩:=gh (i:=0) (o:=0) (ft:=3) (k:=1) h2 hs2 (by kernel_rfl) (by kernel_rfl) (by kernel_rfl) (by kernel_rfl);obtain ⟨n4,y4,h4,w4⟩:=gh (i:=1) (o:=1) (ft:=44) (k:=1) h2 hs2 (by kernel_rfl) (by kernel_rfl) (by kernel_rfl) (by kernel_rfl);match vs,hl with
 | [v0,v2,v3],_=>
  obtain ⟨s,hs0,hx0,_⟩:=DataW.trod_string Tryz.underlying9 h0;obtain ⟨z3,hz3,_,_⟩:=YA Tryz.underlying3 h3;cases hs0;cases hz3;have h4':DataW.trod enc Tryz.prog W base spare held n4 44 [v3]=some y4:=h4
  have hsl:∃ a l c,v3=.slice a l c/\(l<=c\/l=0):=by
   rcases Deep.open_slice Tryz.underlying44 h4' with ⟨h0,_⟩ | ⟨a',len,cap,m,n',D,Pl,hcs,_,ZT,_⟩
   ·cases h0;exact ⟨_,_,_,rfl,.inr rfl⟩
   ·cases hcs;exact ⟨_,_,_,rfl,.inl ZT⟩
  obtain ⟨a,l,c,rfl,ZT⟩:=hsl;obtain ⟨q1,q2,q3⟩:=yP Tryz.underlying44 Tryz.underlying5 (by kernel_rfl) (by kernel_rfl) h4' fun q hq=>hw q (w2 q (w4 q hq));refine ⟨⟨⟨s,z3,a,l,c⟩,⟨?_,q1,q2,q3,ZT⟩⟩,rfl⟩;have:=hw s.data.toList.length (w0 _ (by rw [hx0];unfold DataW.weights;exact Wk.2 rfl));simpa using this
theorem LF {a:Option Addr} {l c:Nat} {d:DataW H} {p:List MemPlace} (h:DataW.Trod enc Tryz.prog W base spare held 22 (.slice a l c) d p) (hw:∀ q∈d.weights Tryz.prog 22,q<=reachBytes):
  ∃ D:List ax,qu W a l c D/\(∀ x∈D,xg W x)/\l<=9223372036854775807:=by
 obtain ⟨n,hn⟩:=h;have hr:=wI (h:=fun r:{ x:ax // xg W x }=>iV r.1) (C:=3) (by decide) (fun _=>rfl) (fun vs n y h hq=>Jw h fun q Z1=>hw q (hq q Z1)) Tryz.underlying22 (by kernel_rfl) hn;obtain ⟨⟨ZT,hcm⟩,rfl | ⟨b,off,xs,cs,e,fz,rfl,rfl,hh,Zi,hc⟩⟩:=hr
 ·exact ⟨[],.none rfl rfl,fun x hx=>(nomatch hx),by omega⟩
 ·refine ⟨xs.map (·.1),.some b off cs e fz rfl (by simp) ZT hh Zi fun k v hk=>hc k v ?_,fun x hx=>?_,Wj ZT (Wj hcm (by decide))⟩
  ·rw [Ye] at hk;exact hk
  ·obtain ⟨r,_,rfl⟩:=Wc.1 hx;exact r.2
end
def LH (W:World) (a:Option Addr) (l:Nat):List Int:=open Classical in if h:∃ ys:List Int,eZ W a l ys/\∀ y∈ys,0<=y/\y<256 then Classical.choose h else []
theorem K3 {W:World} {x:ax} (h:xg W x):eZ W x.a x.l (LH W x.a x.l):=by
 unfold LH;rw [YD h.ys];exact (XW h.ys).1
theorem JI {W:World} {x:ax} (h:xg W x):∀ y∈LH W x.a x.l,0<=y/\y<256:=by
 unfold LH;rw [YD h.ys];exact (XW h.ys).2
theorem Lg {W:World} {D:List ax} (hm:MX W) (h:∀ x∈D,xg W x):uD D (LH W) W:=⟨hm,fun x hx=>K3 (h x hx)⟩
theorem Ep {W:World} {a:Option Addr} {l c:Nat} {D:List ax} {ys:Option Addr->Nat->List Int} (h:qu W a l c D) (hX:uD D ys W) (hD:yr D):Calls Tryz.prog 7 #[.slice a l c] W (vg D ys W):=by
 rcases h with ⟨rfl,rfl⟩ | ⟨b,off,cs,e,fz,rfl,rfl,ZT,hh,Zi,hc⟩
 ·exact ya hX.1 ys a c
 ·exact x5 hX hD ZT hh Zi hc
def Fe (l:List SV) (off n c:Nat):SM:=(a6 bn 4 [.sl 0 off n (some c)] (bG 6 1 0 [cv l])).getD dn
def LC:List SI:=dB bn 2 60 (Fe [] 0 0 0) VP
def yh (off n c:Nat) (z i:Int):SF:={ fn:=4,tm:=fh 30 6 ([.sl 0 off n (some c),.aH,.aH,.v (.int .i64 z),.aH,.aH,.sl 0 off n (some c),.v (.int .i64 n),.v (.int .i64 i)]++List.replicate 21 .aH),todo:=LC,defers:=[],ret:=false,kind:=.normal,ro:=none }
theorem UT (l:List SV) (off n c:Nat) (x:ax) (z i z' i':Int) (v:Value):reach bn 2 60 (Fe l off n c) (ff [0,1,2,3,4,5,6] false++VP) [(0,0)] [0] (yh off n c 0 0) 6 [cv l]=[off=off/\n=n/\some c=some c,vZ 0=vZ 0,off=off/\n=n/\some c=some c,vZ (↑n:Int)=vZ (↑n:Int),vZ 0=vZ 0,l=l,l.all ab=true]:=by kernel_rfl
theorem Sk (l:List SV) (off n c:Nat) (x:ax) (z i z' i':Int) (v:Value):reach bn 2 100 (SM.at (yh off n c z i) 6 [cv l]) ([(2,.cells (iC x))]++ff [0] true++ff [1,3,4,5,6,7,8,9,10] false++VP) [(0,0)] [0] (yh off n c z' i') 6 [cv l]=[off=off/\n=n/\some c=some c,vZ (IntKind.i64.wrap (z+(↑x.4:Int)))=vZ z',off=off/\n=n/\some c=some c,vZ (↑n:Int)=vZ (↑n:Int),vZ (IntKind.i64.wrap (i+1))=vZ i',l=l,l.all ab=true,decide ((↑x.1.size:Int)>200)=false,List.take 3 (List.drop (off+i.toNat*3) l)=iC x/\(iC x).length=3,ai i n=true,decide (i<(↑n:Int))=true]:=by kernel_rfl
theorem Sx (l:List SV) (off n c:Nat) (x:ax) (z i z' i':Int) (v:Value):ao bn 4 100 (SM.at (yh off n c z i) 6 [cv l]) ([(2,.cells (iC x))]++ff [0,3] true++ff [1,4] false++VP) v=[VU false=v,decide ((↑x.1.size:Int)>200)=true,List.take 3 (List.drop (off+i.toNat*3) l)=iC x/\(iC x).length=3,ai i n=true,decide (i<(↑n:Int))=true]:=by kernel_rfl
theorem US (l:List SV) (off n c:Nat) (x:ax) (z i z' i':Int) (v:Value):ao bn 4 100 (SM.at (yh off n c z i) 6 [cv l]) (ff [1,2,3,4] true++ff [0] false++VP) v=[VU (decide (z<=20000))=v,decide ((↑n:Int)<=200)=true,decide ((↑n:Int)<=200)=true,decide ((↑n:Int)<=200)=true,decide (i<(↑n:Int))=false]:=by kernel_rfl
theorem Ry (l:List SV) (off n c:Nat) (x:ax) (z i z' i':Int) (v:Value):ao bn 4 100 (SM.at (yh off n c z i) 6 [cv l]) (ff [0,1,2,3,4] false++VP) v=[VU false=v,decide ((↑n:Int)<=200)=false,decide ((↑n:Int)<=200)=false,decide ((↑n:Int)<=200)=false,decide (i<(↑n:Int))=false]:=by kernel_rfl
theorem Vh (a:Option Addr) (c:Nat) (v:Value):ao bn 4 100 (a7 bn 4 [.v (.slice a 0 c)]) (ff [1,2,3] true++ff [0,4] false++VP) v=[VU true=v,true=true,true=true,true=true,false=false]:=by kernel_rfl
end paths
end Go.Proofs.YtbjmmnegkpeboaaGreatDoor
