/- What the law VaultLoads leans on, part 4: the symbolic executor, proved sound, contracts of functions, plain lemmas. By an AI agent. -/
import Derived.Test.YtcbokmadfcedaaaGreatDoorPk3
set_option linter.unusedSimpArgs false
set_option linter.unusedVariables false
set_option maxRecDepth 100000
namespace Go.Proofs.YtcbokmadfcedaaaGreatDoor
open Go Go.Rx Go.RowKit Go.Proofs
namespace paths
def xx (E:List bK):Jn:=fun args sh=>match args with
 | [.ptr i 0]=>match sh.look i with
  | some (.row [.v (.int .u64 s),.map j] t z x,_)=>match sh.look j with
   | some (.map es cl,_)=>some ((fC (E.map fun e=>e.1.p)).map Value.string,E.length,1,9,none,t=122∧z=(0,0)∧x=none∧es=E.map mC∧dh E cl∧E.length≤1000∧E≠[])
   | _=>none
  | _=>none
 | _=>none
def xF (E:List bK):Jd:=fun args sh=>match args with
 | [.ptr i 0]=>match sh.look i with
  | some (.row [.v (.int .u64 s),.map j] t z x,_)=>match sh.look j with
   | some (.map es cl,_)=>some (.slice none 0 0,t=122∧z=(0,0)∧x=none∧es=E.map mC∧dh E cl∧E=[])
   | _=>none
  | _=>none
 | _=>none
def LS (E:List bK):List (FuncId × Sum):=[(57,sr (nM (xx E)) (jA (xF E)))]
noncomputable def px (E:List bK):Env:={ EP [] [] with sums:=fun f=>(LS E).lookup f }
noncomputable def wa (E:List bK) (s:Int) (es:List (SV × SV × Nat)) (cl:Nat):SM:=(aS (px E) 16 [.ptr 0 0] (bc 6 2 0 [Ii s,BB es cl])).getD dx
noncomputable def GH:List SI:=dC (px []) 2 60 (wa [] 0 [] 0) ([(1000,.b true)]++ff (List.range 10) true)
noncomputable def nr (n:Nat) (x:SV) (i:Int):SF:={ fn:=16,tm:=gw 20 6 ([.ptr 0 0,.aM,x,.aM,.aM,.aM,.sl 2 0 n none,.v (.int .i64 n),.v (.int .i64 i)]++List.replicate 11 .aM),todo:=GH,defers:=[],ret:=false,kind:=.normal,ro:=none }
def IU (l:List SV):Option (SO × Bool):=some (.row l 9 (0,0) (some 1),true)
def sM (s:Int) (es:List (SV × SV × Nat)) (cl:Nat) (l:List SV):List (Option (SO × Bool)):=[Ii s,BB es cl,IU l]
def pK (s:Int) (es:List (SV × SV × Nat)) (cl:Nat) (l m:List SV):List (Option (SO × Bool)):=[Ii s,BB es cl,IU l,kJ m]
noncomputable def HX (E:List bK) (n:Nat) (i:Int) (s:Int) (es:List (SV × SV × Nat)) (cl:Nat) (l:List SV) (q:ByteArray) (x:aD):SM:=cK (px E) 58 60 (SM.at (nr n Av i) 6 (sM s es cl l)) (ff [0] true++[(2,.cells [.v (.string q)])]) (A0 x)
noncomputable def Ie (E:List bK) (n:Nat) (i:Int) (s:Int) (es:List (SV × SV × Nat)) (cl:Nat) (l m:List SV) (k:Nat) (q:ByteArray) (x:aD):SM:=cK (px E) 58 60 (SM.at (nr n (.sl 3 0 k none) i) 6 (pK s es cl l m)) (ff [0] true++[(2,.cells [.v (.string q)])]) (A0 x)
theorem O0 (E:List bK) (s:Int) (es:List (SV × SV × Nat)) (cl n:Nat) (l:List SV):reach (px E) 2 60 (wa E s es cl) ([(1000,.b true)]++ff (List.range 10) true) [(0,0),(1,1),(2,2)] [1,2] (nr n Av 0) 6 (sM s es cl l)=[0=0,Value.slice none 0 0=Value.slice none 0 0,0=0∧E.length=n∧nZ=none,vZ (↑E.length:Int)=vZ (↑n:Int),vZ 0=vZ 0,Value.int IntKind.u64 s=Value.int IntKind.u64 s,cl=cl,es=es,(es.all fun e=>bo e.fst&&bo e.snd.fst)=true,List.map SV.v (List.map Value.string (fC (List.map (fun e=>e.fst.p) E)))=l,l.all ae=true,122=122∧(0,0)=(0,0)∧nZ=none∧es=List.map mC E∧dh E cl∧E.length≤1000∧E≠[]]:=by kernel_rfl
theorem OH (E:List bK) (s:Int) (es:List (SV × SV × Nat)) (cl:Nat) (v:Value):au (px E) 16 60 (wa E s es cl) ([(1000,.b true)]++ff (List.range 10) false) v=[Value.slice none 0 0=v,false=false,122=122∧(0,0)=(0,0)∧nZ=none∧es=List.map mC E∧dh E cl∧E=[]]:=by kernel_rfl
theorem JZ (E:List bK) (s:Int) (es:List (SV × SV × Nat)) (cl n:Nat) (l:List SV) (i:Int) (q:ByteArray):bB (px E) 58 60 (SM.at (nr n Av i) 6 (sM s es cl l)) (ff [0] true++[(2,.cells [.v (.string q)])])=[l[0+i.toNat*1]?=some (SV.v (Value.string q)),ar i n=true,decide (i<(↑n:Int))=true]:=by kernel_rfl
theorem Kc (E:List bK) (s:Int) (es:List (SV × SV × Nat)) (cl n:Nat) (l:List SV) (i:Int) (q:ByteArray) (x:aD):bJ (px E) 58 60 (SM.at (nr n Av i) 6 (sM s es cl l)) (ff [0] true++[(2,.cells [.v (.string q)])]) (A0 x)=[l[0+i.toNat*1]?=some (SV.v (Value.string q)),ar i n=true,decide (i<(↑n:Int))=true]:=by kernel_rfl
theorem Lo (E:List bK) (s:Int) (es:List (SV × SV × Nat)) (cl n:Nat) (l l':List SV) (i i':Int) (q:ByteArray) (x:aD):reach (px E) 2 60 (HX E n i s es cl l q x) (ff [0] false) [(0,0),(1,1),(2,2),(3,4)] [1,2,3] (nr n (.sl 3 0 1 none) i') 6 (pK s es cl l l')=[0=0,0=0∧1=1∧nZ=none,0=0∧n=n∧nZ=none,vZ (↑n:Int)=vZ (↑n:Int),vZ (IntKind.i64.wrap (i+1))=vZ i',Value.int IntKind.u64 s=Value.int IntKind.u64 s,cl=cl,es=es,(es.all fun e=>bo e.fst&&bo e.snd.fst)=true,l=l,l.all ae=true,[]++List.take (1*4) (List.drop 0 (aX (List.replicate 1 (List.map SV.v [Value.string ⟨⟨[]⟩⟩,Value.int IntKind.u64 0,vZ 0,Value.slice none 0 0])).flatten (0*4) (List.map SV.v [Value.string x.1,Value.int IntKind.u64 x.2,vZ x.3,Value.slice x.4 x.5 x.6])))=l',l'.all ae=true,false=false]:=by kernel_rfl
theorem Lk (E:List bK) (s:Int) (es:List (SV × SV × Nat)) (cl n k:Nat) (l m:List SV) (i:Int) (q:ByteArray):bB (px E) 58 60 (SM.at (nr n (.sl 3 0 k none) i) 6 (pK s es cl l m)) (ff [0] true++[(2,.cells [.v (.string q)])])=[l[0+i.toNat*1]?=some (SV.v (Value.string q)),ar i n=true,decide (i<(↑n:Int))=true]:=by kernel_rfl
theorem J2 (E:List bK) (s:Int) (es:List (SV × SV × Nat)) (cl n k:Nat) (l m:List SV) (i:Int) (q:ByteArray) (x:aD):bJ (px E) 58 60 (SM.at (nr n (.sl 3 0 k none) i) 6 (pK s es cl l m)) (ff [0] true++[(2,.cells [.v (.string q)])]) (A0 x)=[l[0+i.toNat*1]?=some (SV.v (Value.string q)),ar i n=true,decide (i<(↑n:Int))=true]:=by kernel_rfl
theorem Lj (E:List bK) (s:Int) (es:List (SV × SV × Nat)) (cl n k:Nat) (l m w l':List SV) (i i':Int) (q:ByteArray) (x:aD):reach (px E) 2 60 (Ie E n i s es cl l m k q x) ([(0,.app m w)]) [(0,0),(1,1),(2,2),(3,5)] [1,2,3] (nr n (.sl 3 0 (k+1) none) i') 6 (pK s es cl l l')=[0=0,0=0∧k+1=k+1∧nZ=none,0=0∧n=n∧nZ=none,vZ (↑n:Int)=vZ (↑n:Int),vZ (IntKind.i64.wrap (i+1))=vZ i',Value.int IntKind.u64 s=Value.int IntKind.u64 s,cl=cl,es=es,(es.all fun e=>bo e.fst&&bo e.snd.fst)=true,l=l,l.all ae=true,m++w=l',l'.all ae=true,((List.take (1*4) (List.drop 0 (aX (List.replicate 1 (List.map SV.v [Value.string ⟨⟨[]⟩⟩,Value.int IntKind.u64 0,vZ 0,Value.slice none 0 0])).flatten (0*4) (List.map SV.v [Value.string x.1,Value.int IntKind.u64 x.2,vZ x.3,Value.slice x.4 x.5 x.6])))=w∧w.length=1*4)∧1≠0∧(2*(k+1)+1024)*56≤140737488355328)∧List.take (k*4) m=m∧m.length=k*4∧w.all SV.flat=true]:=by kernel_rfl
theorem O6 (E:List bK) (s:Int) (es:List (SV × SV × Nat)) (cl n k:Nat) (l m:List SV) (i:Int):im (px E) 16 60 (SM.at (nr n (.sl 3 0 k none) i) 6 (pK s es cl l m)) (ff [0] false) (.sl 3 0 k none) 3 (.row m 117 (0,0) (some 4))=[0=0∧k=k∧nZ=none,m=m,m.all ae=true,decide (i<(↑n:Int))=false]:=by kernel_rfl
theorem tg {ν:aA} {M:Own} {w0 w:World} {sh:SH} (hr:HR ν M w0 sh w) {i j:Nat} {s:Int} {t:TypeId} {z:Nat × Nat} {x:Option Nat} {mi mj:Bool} {E:List bK} {cl:Nat} {a:List Value}
  (hi:sh.look i=some (.row [.v (.int .u64 s),.map j] t z x,mi)) (hj:sh.look j=some (.map (E.map mC) cl,mj)) (ht:t=122) (hz:z=(0,0)) (hx:x=none) (ha:aj ν [.ptr i 0] a):
  ∃ b m,a=[.pointer (some ⟨b,0,none⟩)]∧gq w b m s E cl∧b≠m:=by
 subst ht hz hx
 obtain ⟨y1,as1,rfl,q1,ha2⟩:=ha.cons_inv
 obtain rfl:=ha2.aq
 obtain ⟨bb,hbb,rfl⟩:=VR.aw.1 q1
 obtain ⟨_,_,b,ob,hb,ho,hor,_⟩:=hr.look hi
 obtain ⟨_,_,b2,ob2,hb2,ho2,hor2,_⟩:=hr.look hj
 rw [hbb] at hb;cases hb
 obtain ⟨zs,rest,rfl,hzs,hl⟩:=hor
 obtain ⟨z1,u,rfl,r1,hu⟩:=hzs.cons_inv
 obtain ⟨z2,u2,rfl,r2,hu2⟩:=hu.cons_inv
 obtain rfl:=hu2.aq
 obtain rfl:=VR.ab.1 r1
 obtain ⟨bm,hbm,rfl⟩:=VR.bM.1 r2
 rw [hb2] at hbm;cases hbm
 have h0:rest=[]:=by
  have:([Value.int .u64 s,Value.map (some b2.1)]++rest).length=2:=hl
  simpa using this
 subst h0
 obtain ⟨l,rfl,hl2⟩:=hor2
 refine ⟨bb.1,b2.1,rfl,⟨by rw [ho];rfl,by rw [ho2,uz hl2]⟩,fun h=>?_⟩
 rw [h,ho2] at ho;cases ho
theorem kT (E:List bK):(fC (E.map fun e=>e.1.p)).length=E.length:=by rw [(cO _).length_eq];simp
theorem As {E:List bK}:cF Tryz.prog MX (57,sr (nM (xx E)) (jA (xF E))):=by
 refine cF.br (sX ⟨_,Tryz.func57,by kernel_rfl,by kernel_rfl⟩ fun args sh ys n C elem ex p h hp ν M w0 w a hr hX ha=>?_) (mT ⟨_,Tryz.func57,by kernel_rfl,by kernel_rfl⟩ fun args sh v p h hp ν M w0 w a hr hX ha=>?_)
 ·dsimp only [xx] at h
  split at h
  ·rename_i i
   split at h
   ·rename_i s j t z x m1 hi
    split at h
    ·rename_i es cl m2 hj
     cases h
     obtain ⟨ht,hz,hx,rfl,hB,dF,hne⟩:=hp
     obtain ⟨b,m,rfl,hA,_⟩:=tg hr hi hj ht hz hx ha
     refine (oH hX hA hB dF).mono fun e w' ⟨v,he,hv,hb⟩=>⟨hb,v,he,?_⟩
     rcases hv with ⟨_,h0⟩ | ⟨_,h1⟩
     ·have:=kT E
      rw [h0] at this
      exact absurd (List.length_eq_zero_iff.1 this.symm) hne
     ·rw [kT] at h1;exact h1
    ·cases h
   ·cases h
  ·cases h
 ·dsimp only [xF] at h
  split at h
  ·rename_i i
   split at h
   ·rename_i s j t z x m1 hi
    split at h
    ·rename_i es cl m2 hj
     cases h
     obtain ⟨ht,hz,hx,rfl,hB,rfl⟩:=hp
     obtain ⟨b,m,rfl,hA,_⟩:=tg hr hi hj ht hz hx ha
     refine (oH hX hA hB (Nat.zero_le _)).mono fun e w' ⟨v,he,hv,hb⟩=>⟨hb,?_⟩
     rcases hv with ⟨h1,_⟩ | ⟨h0,_⟩
     ·rw [he,h1]
     ·exact absurd (List.length_eq_zero_iff.1 (cO []).length_eq) h0
    ·cases h
   ·cases h
  ·cases h
theorem HK {M0 M:Own} {w00 w0:World} {E:List bK} (hM:∀ z,¬ M0 z) (hB:bk M0 w00 M w0) (hX:MX w00):aE (px E) M w0:=
 aE.AR (Checked.mixed Tryz.checked) (by kernel_rfl) (eR.of ji rfl dL) (cV.list (X:=MX) (l:=LS E) rfl (fun r h=>by
  rw [List.mem_singleton.1 h];exact As) fun ν s w hr _=>hX.cr fun k hk=>(hr.frame k (Nat.lt_of_lt_of_le hk hB.size) (hB.frame k hk (hM k)).2).trans (hB.frame k hk (hM k)).1) (fun f g h=>by cases h)
def E3 (w w':World) (z:ByteArray→Int × Int × List Int) (L:List ByteArray) (v:Value):Prop:=(L=[]∧v=.slice none 0 0) ∨
 ∃ zs,zs≠[]∧zs.map (·.p)=L∧eZ w w' v (vE zs) zs.length 4 117∧∀ x∈zs,∃ us,(x.v,x.k,us)=z x.p∧iV w' x.a x.l us∧wM w x
def Ke (w:World) (z:ByteArray→Int × Int × List Int) (L:List ByteArray) (e:Ending) (w':World):Prop:=Below w.heap.size w w'∧∃ v,e=.returned v∧E3 w w' z L v
def strs (L:List ByteArray):List SV:=(L.map Value.string).map SV.v
theorem js (L:List ByteArray):(strs L).all ae=true:=by
 rw [List.all_eq_true];intro x hx
 obtain ⟨v,_,rfl⟩:=List.mem_map.1 hx
 rfl
theorem pj {L:List ByteArray} {i:Nat} {q:ByteArray} (h:L[i]?=some q):(strs L)[0+(i:Int).toNat*1]?=some (.v (.string q)):=by
 unfold strs
 rw [Int.toNat_natCast,Nat.zero_add,Nat.mul_one,List.getElem?_map,List.getElem?_map,h];rfl
theorem mY (E:List bK):((E.map mC).all fun e=>bo e.1&&bo e.2.1)=true:=by
 rw [List.all_eq_true];intro x hx
 obtain ⟨v,_,rfl⟩:=List.mem_map.1 hx
 rfl
theorem BD {W w:World} (h:W.hp.Sub w.hp):W.heap.size≤w.heap.size:=by
 cases hz:W.heap.size with
 | zero=>omega
 | succ k=>
  have h2:=a8 (Hp.Sub.refl _) h k (by omega)
  rw [Array.getElem?_eq_getElem (by omega:k<W.heap.size)] at h2
  have:=(Array.getElem?_eq_some_iff.1 h2).1
  omega
section
variable {W:World} {cs0:List Frame} {E:List bK} {cm:aD→List Int} {b m cl:Nat} {s:Int} {M:Own} {ν:aA}
theorem yT (hX:MX W) (hM:∀ z,¬ M z) (hA:gq W b m s E cl) (hne:b≠m) (hB:dh E cl) (hd:∀ e∈E,iV W e.1.a e.1.l (cm e.1)) (hν:ν 0=some (b,0)) {S:SM} {q:ByteArray} {o:List (Nat × c9)} {H:Hp} {M1:Own} {w1:World} (hk:Kept W.hp M W H M1 w1) {R:Ending→World→Prop}
  (h1:af (bB (px E) 58 60 S o)) (h2:aR (px E) 58 60 S o=aP (px E) 58 [.ptr 0 0,.v (.string q)] .normal) (h3:∀ x,af (bJ (px E) 58 60 S o (A0 x)))
  (nx:∀ H' M2 w2 (x:aD) us,Kept W.hp M W H' M2 w2→H.Sub H'→x.p=q→(x.v,x.k,us)=kL cm (E.map (·.1)) q→wb H' x.a x.l us→wM W x→ao (px E) M2 w2 cs0 16 R ν (cK (px E) 58 60 S o (A0 x))):
  ao (px E) M1 w1 cs0 16 R ν S:=by
 refine ao.BM (HK hM hk.base hX) hk (n:=60) (g:=58) (o:=o) (args:=[.ptr 0 0,.v (.string q)]) h1 h2 fun ν' w a hle hsub hgr ha=>?_
 obtain ⟨y1,as1,rfl,q1,ha2⟩:=ha.cons_inv
 obtain ⟨y2,as2,rfl,q2,ha3⟩:=ha2.cons_inv
 obtain rfl:=ha3.aq
 obtain rfl:=VR.ab.1 q2
 obtain ⟨bb,hbb,rfl⟩:=VR.aw.1 q1
 have hbb:=hbb.symm.trans (hle 0 (b,0) hν)
 cases hbb
 have hkp:=a8 hk.sub0 hsub
 have hA':gq w b m s E cl:=⟨(hkp b (Array.getElem?_eq_some_iff.1 hA.row).1).trans hA.row,(hkp m (Array.getElem?_eq_some_iff.1 hA.map).1).trans hA.map⟩
 refine (Bd hA' hne hB (fun e he=>(hd e he).cr hkp) q H).mono fun e w' ⟨hB',x,zs,he,hxp,hz,hd'⟩=>⟨hB',.agg #[.string x.p,.int .u64 x.v,.int .i64 x.k,.slice x.a x.l x.c],he,fun M2 hK2=>⟨h3 x,?_⟩⟩
 exact nx _ M2 w' x zs hK2 (Hp.cT hsub) hxp hz hd'.1 fun a ha=>Nat.le_trans (BD (hk.sub0.trans hsub)) (hd'.2 a ha)
theorem wb.sub {H H':Hp} {a:Option Addr} {l:Nat} {us:List Int} (h:wb H a l us) (hs:H.Sub H'):wb H' a l us:=fun w hw=>h w (hs.trans hw)
theorem zf (hX:MX W) (hM:∀ z,¬ M z) (hA:gq W b m s E cl) (hne:b≠m) (hB:dh E cl) (hd:∀ e∈E,iV W e.1.a e.1.l (cm e.1)) (hν:ν 0=some (b,0)) (hν1:∀ i b,ν i=some b→i=0∨i=1) {L:List ByteArray} (dF:L.length≤1000):
  ∀ (j i:Nat),i+j=L.length→∀ H M1 w1 (zs:List aD),Kept W.hp M W H M1 w1→zs≠[]→zs.map (·.p)=L.take i→(∀ x∈zs,∃ us,(x.v,x.k,us)=kL cm (E.map (·.1)) x.p∧wb H x.a x.l us∧wM W x)→
   ao (px E) M1 w1 cs0 16 (Ke W (kL cm (E.map (·.1))) L) ν (SM.at (nr L.length (.sl 3 0 zs.length none) (i:Int)) 6 (pK s (E.map mC) cl (strs L) (cE zs)))
 | 0,i,hj,H,M1,w1,zs,hk,hz,hp,hdat=>by
  rw [List.take_of_length_le (by omega)] at hp
  refine ao.im (HK hM hk.base hX) (n:=60) (o:=ff [0] false) (x:=.sl 3 0 zs.length none) (i:=3) (so:=.row (cE zs) 117 (0,0) (some 4)) (by
   rw [O6]
   simp only [af,dI,and_self,and_true,true_and]
   exact decide_eq_false (by omega)) fun ν' w' y b1 ob hv hb ho hor hw hB'=>?_
  obtain ⟨M3,w3,M4,s',hBb,hr⟩:=hB'
  have hn:W.heap.size≤b1.1:=by
   rcases hk.base.own _ hw with h | h
   ·exact h
   ·exact absurd h (hM _)
  have hnow:=hk.now hBb hr
  exact ⟨aG hM (hk.base.trans hBb) hr,y,rfl,.inr ⟨zs,hz,hp,eZ.qR hv hb ho hor hn fun zs hz=>DG hz,fun x hx=>by
   obtain ⟨us,h1,h2,h3⟩:=hdat x hx
   exact ⟨us,h1,h2 _ hnow,h3⟩⟩⟩
 | j+1,i,hj,H,M1,w1,zs,hk,hz,hp,hdat=>by
  have hi:i<L.length:=by omega
  have hq:L[i]?=some L[i]:=List.getElem?_eq_getElem hi
  have hzl:zs.length=i:=by
   have:=congrArg List.length hp
   simpa [Nat.min_eq_left (Nat.le_of_lt hi)] using this
  refine yT hX hM hA hne hB hd hν hk (q:=L[i]) (o:=ff [0] true++[(2,.cells [.v (.string L[i])])]) ?_ (by kernel_rfl) (fun x=>?_) fun H' M2 w2 x us hk2 hs hxp hzz hdd hna=>?_
  ·rw [Lk]
   simp only [af,pj hq,bY hi,decide_eq_true (show (i:Int)<(L.length:Int) by omega),and_self,and_true,true_and]
  ·rw [J2]
   simp only [af,pj hq,bY hi,decide_eq_true (show (i:Int)<(L.length:Int) by omega),and_self,and_true,true_and]
  ·have nx:=zf hX hM hA hne hB hd hν hν1 dF j (i+1) (by omega) H' M2 w2 (zs++[x]) hk2 (by simp) (by rw [List.map_append,hp,List.take_add_one,hq];simp [hxp]) (fun y hy=>by
    rcases List.mem_append.1 hy with hy | hy
    ·obtain ⟨us,h1,h2,h3⟩:=hdat y hy
     exact ⟨us,h1,h2.sub hs,h3⟩
    ·rw [List.mem_singleton.1 hy];exact ⟨us,by rw [hxp];exact hzz,hdd,hna⟩)
   rw [List.length_append,show ([x]:List aD).length=1 from rfl,CG,wZ] at nx
   refine ao.reach (HK hM hk2.base hX) (k:=2) (n:=60) (o:=[(0,.app (cE zs) (eC x))]) (ren:=[(0,0),(1,1),(2,2),(3,5)]) (eqs:=[1,2,3]) (S:=Ie E L.length (i:Int) s (E.map mC) cl (strs L) (cE zs) zs.length L[i] x) ?_ (by kernel_rfl) (fun i b h=>by rcases hν1 i b h with h | h <;> rw [h] <;> rfl) nx
   rw [Lj]
   simp only [af,cL (k:=i) (by omega),dI,js,mY,EW,uG,List.all_append,and_self,and_true,true_and]
   repeat' apply And.intro
   all_goals first | rfl | omega | exact List.take_of_length_le (by rw [uG];exact Nat.le_refl _) | exact j7 _ | skip
theorem Fv (hX:MX W) (hM:∀ z,¬ M z) (hA:gq W b m s E cl) (hne:b≠m) (hB:dh E cl) (hd:∀ e∈E,iV W e.1.a e.1.l (cm e.1)) (hν:ν 0=some (b,0)) (hν1:∀ i b,ν i=some b→i=0∨i=1) {L:List ByteArray} (dF:L.length≤1000) (hL:L≠[]) {H:Hp} {M1:Own} {w1:World} (hk:Kept W.hp M W H M1 w1):
  ao (px E) M1 w1 cs0 16 (Ke W (kL cm (E.map (·.1))) L) ν (SM.at (nr L.length Av ((0:Nat):Int)) 6 (sM s (E.map mC) cl (strs L))):=by
 have hi:0<L.length:=List.length_pos_iff.2 hL
 have hq:L[0]?=some L[0]:=List.getElem?_eq_getElem hi
 refine yT hX hM hA hne hB hd hν hk (q:=L[0]) (o:=ff [0] true++[(2,.cells [.v (.string L[0])])]) ?_ (by kernel_rfl) (fun x=>?_) fun H' M2 w2 x us hk2 hs hxp hzz hdd hna=>?_
 ·rw [JZ]
  simp only [af,pj hq,bY hi,decide_eq_true (show ((0:Nat):Int)<(L.length:Int) by omega),and_self,and_true,true_and]
 ·rw [Kc]
  simp only [af,pj hq,bY hi,decide_eq_true (show ((0:Nat):Int)<(L.length:Int) by omega),and_self,and_true,true_and]
 ·have nx:=zf (cs0:=cs0) hX hM hA hne hB hd hν hν1 dF (L.length - 1) 1 (by omega) H' M2 w2 [x] hk2 (by simp) (by rw [List.take_add_one,hq];simp [hxp]) (fun y hy=>by
   rw [List.mem_singleton.1 hy];exact ⟨us,by rw [hxp];exact hzz,hdd,hna⟩)
  rw [show ([x]:List aD).length=1 from rfl,wZ] at nx
  refine ao.reach (HK hM hk2.base hX) (k:=2) (n:=60) (o:=ff [0] false) (ren:=[(0,0),(1,1),(2,2),(3,4)]) (eqs:=[1,2,3]) (S:=HX E L.length ((0:Nat):Int) s (E.map mC) cl (strs L) L[0] x) ?_ (by kernel_rfl) (fun i b h=>by rcases hν1 i b h with h | h <;> rw [h] <;> rfl) nx
  rw [Lo]
  simp only [af,cL (k:=0) (by omega),dI,js,mY,j7,and_self,and_true,true_and]
  repeat' apply And.intro
  all_goals first | rfl | omega | exact j7 _ | skip
end
theorem kG {W:World} {b m cl:Nat} {s:Int} {E:List bK} {cm:aD→List Int} (hX:MX W) (hA:gq W b m s E cl) (hne:b≠m) (hB:dh E cl) (hd:∀ e∈E,iV W e.1.a e.1.l (cm e.1)) (dF:E.length≤1000):
  Calls Tryz.prog 16 #[.pointer (some ⟨b,0,none⟩)] W (Ke W (kL cm (E.map (·.1))) (fC (E.map fun e=>e.1.p))):=by
 have ho:∀ (j:Nat) (o':SO) (b' c':Nat),[SO.row [.v (.int .u64 s),.map 1] 122 (0,0) none,SO.map (E.map mC) cl][j]?=some o'→[(b,0),(m,0)][j]?=some (b',c')→∃ r,W.heap[b']?=some r∧OR (ax [(b,0),(m,0)]) j o' r:=by
  intro j o' b' c' h1 h2
  match j with
  | 0=>
   simp only [List.getElem?_cons_zero,Option.some.injEq] at h1 h2
   subst h1
   cases h2
   exact ⟨_,hA.row,_,[],rfl,aj.cons (VR.ab.2 rfl) (aj.cons (VR.bM.2 ⟨(m,0),rfl,rfl⟩) aj.nil),rfl⟩
  | 1=>
   simp only [List.getElem?_cons_succ,List.getElem?_cons_zero,Option.some.injEq] at h1 h2
   subst h1
   cases h2
   exact ⟨_,hA.map,_,rfl,tQ E⟩
  | j+2=>simp at h1
 refine aY (E:=px E) rfl (d:=6) (l:=[(b,0),(m,0)]) (os:=[.row [.v (.int .u64 s),.map 1] 122 (0,0) none,.map (E.map mC) cl]) rfl (by simp) (by simpa using hne) ho rfl (args:=[.ptr 0 0]) (a:=[.pointer (some ⟨b,0,none⟩)]) (S0:=wa E s (E.map mC) cl) (by kernel_rfl) (aj.cons (VR.aw.2 ⟨(b,0),rfl,rfl⟩) aj.nil) fun cs0=>?_
 have hM:∀ z,¬ (az [(b,0),(m,0)] ([SO.row [.v (.int .u64 s),.map 1] 122 (0,0) none,SO.map (E.map mC) cl].map fun o=>(o,false))) z:=fun z=>jG z
 have hK0:=Kept.start (H0:=W.hp) (M:=az [(b,0),(m,0)] ([SO.row [.v (.int .u64 s),.map 1] 122 (0,0) none,SO.map (E.map mC) cl].map fun o=>(o,false))) (w:=W) (Hp.Sub.refl _) (fun z o _=>hM z) (ek (by
  intro j o' m' b' c' q1 q2
  rw [List.getElem?_map] at q1
  obtain ⟨o2,q3,q4⟩:=Option.map_eq_some_iff.1 q1
  cases q4
  exact ho j o' b' c' q3 q2)) (fun _ h=>h)
 have hν1:∀ i c,ax [(b,0),(m,0)] i=some c→i=0∨i=1:=fun i c h=>by
  match i with
  | 0=>exact .inl rfl
  | 1=>exact .inr rfl
  | i+2=>simp [ax] at h
 have hsl:=kT E
 by_cases h0:E=[]
 ·subst h0
  refine ao.au (HK hM hK0.base hX) (n:=60) (o:=[(1000,.b true)]++ff (List.range 10) false) (v:=.slice none 0 0) ?_ fun ν' M1 w1 s' w' _ hB' hr=>⟨aG hM hB' hr,_,rfl,.inl ⟨List.length_eq_zero_iff.1 hsl,rfl⟩⟩
  rw [OH]
  simp only [af,and_self,and_true,true_and]
  exact hB
 ·have hL:fC (E.map fun e=>e.1.p)≠[]:=fun h=>h0 (List.length_eq_zero_iff.1 (by rw [← hsl,h];rfl))
  have nx:=Fv (cs0:=cs0) (ν:=ax [(b,0),(m,0)]) hX hM hA hne hB hd rfl hν1 (by rw [hsl];exact dF) hL hK0
  rw [hsl] at nx
  refine ao.reach (HK hM hK0.base hX) (k:=2) (n:=60) (o:=[(1000,.b true)]++ff (List.range 10) true) (ren:=[(0,0),(1,1),(2,2)]) (eqs:=[1,2]) (S:=wa E s (E.map mC) cl) (F:=nr E.length Av 0) (d:=6) (l:=sM s (E.map mC) cl (strs (fC (E.map fun e=>e.1.p)))) ?_ (by kernel_rfl) (fun i b h=>by rcases hν1 i b h with h | h <;> rw [h] <;> rfl) nx
  rw [O0]
  simp only [af,js,mY,and_self,and_true,true_and]
  repeat' apply And.intro
  all_goals first | rfl | exact hB | exact dF | exact h0 | skip
end paths
end Go.Proofs.YtcbokmadfcedaaaGreatDoor
namespace Go.Proofs.YtcbokmadfcedaaaGreatDoor
open Go Go.Rx Go.RowKit Go.Proofs
namespace words
theorem Dv (n:Nat):((n:Int)).fdiv ((2:Int) ^ (4:Nat))=((n / 16:Nat):Int):=by
 rw [Int.fdiv_eq_ediv_of_nonneg _ (by decide)];rfl
end words
end Go.Proofs.YtcbokmadfcedaaaGreatDoor
namespace Go.Rx
open Go.RowKit (Below)
theorem eL {E:Env} {w:World} {f:FuncId} {R:Ending→World→Prop} {P:Program} (hP:E.P=P) {args:List SV} {a:List Value} {d:Nat} {l:List (Nat × Nat)} {os:List SO} {S0:SM} (hlen:l.length=os.length) (hd:os.length≤2 ^ d) (hn:(l.map (·.1)).Nodup)
  (ho:∀ (i:Nat) (o:SO) (b c:Nat),os[i]?=some o→l[i]?=some (b,c)→∃ r,w.heap[b]?=some r∧OR (ax l) i o r) (hG:∀ g i,E.G.lookup g=some i→∃ c,l[i]?=some (g,c)) (hS0:aS E f args (bc d os.length 0 (os.map fun o=>some (o,false)))=some S0) (ha:aj (ax l) args a)
  (hs:∀ cs0,ao E (az l (os.map fun o=>(o,false))) w cs0 f R (ax l) S0):Calls P f a.toArray w R:=by
 subst hP
 have ho':∀ (i:Nat) (o:SO) (m:Bool) (b c:Nat),(os.map fun o=>(o,false))[i]?=some (o,m)→l[i]?=some (b,c)→∃ r,w.heap[b]?=some r∧OR (ax l) i o r:=by
  intro i o m b c h1 h2
  rw [List.getElem?_map] at h1
  obtain ⟨o',h3,h4⟩:=Option.map_eq_some_iff.1 h1
  cases h4
  exact ho i o b c h3 h2
 have hr:=qk (d:=d) (w:=w) (by simpa using hlen) (by simpa using hd) hn ho'
 rw [List.map_map,List.length_map] at hr
 exact ey hS0 hr (ek ho') (fun _ h=>h) hG ha hs
end Go.Rx
namespace Go.Proofs.YtcbokmadfcedaaaGreatDoor
open Go Go.Rx Go.RowKit Go.Proofs
set_option linter.unusedVariables false
set_option linter.unusedSimpArgs false
set_option maxRecDepth 100000
namespace paths
namespace crc
noncomputable def CL:Env:=EP [] [(1,0)]
theorem Jf {M:Own} {w0:World}:aE CL M w0:=iL (X:=fun _=>True) (fun r h=>by cases h) fun ν s w hr hg=>trivial
noncomputable def Ce (s:Int) (tb l:List SV) (off n c:Nat):SM:=(aS CL 155 [.v (.int .u32 s),.sl 1 off n (some c)] (bc 6 2 0 [eN tb,eN l])).getD dx
noncomputable def GP:List SI:=dC CL 2 60 (Ce 0 [] [] 0 0 0) [(1000,.b true)]
noncomputable def DE (r:Int) (off n c:Nat) (i:Int):SF:={ fn:=155,tm:=gw 36 6 ([.v (.int .u32 r)]++List.replicate 8 .aM++[.sl 1 off n (some c),.v (.int .i64 n),.v (.int .i64 i)]++List.replicate 24 .aM),todo:=GP,defers:=[],ret:=false,kind:=.normal,ro:=none }
theorem MO (s r:Int) (tb l:List SV) (off n c:Nat):reach CL 2 60 (Ce s tb l off n c) [(1000,.b true)] [(0,0),(1,1)] [0,1] (DE r off n c 0) 6 [eN tb,eN l]=[Value.int IntKind.u32 (IntKind.u32.wrap (↑(BitVec.ofInt 32 IntKind.u32.max ^^^ BitVec.ofInt 32 s).toNat:Int))=Value.int IntKind.u32 r,off=off∧n=n∧some c=some c,vZ (↑n:Int)=vZ (↑n:Int),vZ 0=vZ 0,tb=tb,tb.all ae=true,l=l,l.all ae=true]:=by kernel_rfl
theorem MS (r r' i i' z v1 v2:Int) (tb l:List SV) (off n c:Nat):reach CL 2 100 (SM.at (DE r off n c i) 6 [eN tb,eN l]) (ff [0] true++[(2,.cells [.v (.int .u8 z)]),(4,.cells [.v (.int .u32 v1)]),(6,.cells [.v (.int .u32 v2)])]) [(0,0),(1,1)] [0,1] (DE r' off n c i') 6 [eN tb,eN l]=[Value.int IntKind.u32 (IntKind.u32.wrap (↑(BitVec.ofInt 32 ((IntKind.u32.wrap (↑(BitVec.ofInt 32 ((IntKind.u32.wrap (↑(BitVec.ofInt 32 r ^^^ BitVec.ofInt 32 (IntKind.u32.wrap z)).toNat:Int)).fdiv (2 ^ 4)) ^^^ BitVec.ofInt 32 v1).toNat:Int)).fdiv (2 ^ 4)) ^^^ BitVec.ofInt 32 v2).toNat:Int))=Value.int IntKind.u32 r',off=off∧n=n∧some c=some c,vZ (↑n:Int)=vZ (↑n:Int),vZ (IntKind.i64.wrap (i+1))=vZ i',tb=tb,tb.all ae=true,l=l,l.all ae=true,tb[0+(IntKind.u32.wrap (↑(BitVec.ofInt 32 (IntKind.u32.wrap (↑(BitVec.ofInt 32 ((IntKind.u32.wrap (↑(BitVec.ofInt 32 r ^^^ BitVec.ofInt 32 (IntKind.u32.wrap z)).toNat:Int)).fdiv (2 ^ 4)) ^^^ BitVec.ofInt 32 v1).toNat:Int)) &&& BitVec.ofInt 32 15).toNat:Int)).toNat*1]?=some (SV.v (Value.int IntKind.u32 v2)),ar (IntKind.u32.wrap (↑(BitVec.ofInt 32 (IntKind.u32.wrap (↑(BitVec.ofInt 32 ((IntKind.u32.wrap (↑(BitVec.ofInt 32 r ^^^ BitVec.ofInt 32 (IntKind.u32.wrap z)).toNat:Int)).fdiv (2 ^ 4)) ^^^ BitVec.ofInt 32 v1).toNat:Int)) &&& BitVec.ofInt 32 15).toNat:Int)) 16=true,tb[0+(IntKind.u32.wrap (↑(BitVec.ofInt 32 (IntKind.u32.wrap (↑(BitVec.ofInt 32 r ^^^ BitVec.ofInt 32 (IntKind.u32.wrap z)).toNat:Int)) &&& BitVec.ofInt 32 15).toNat:Int)).toNat*1]?=some (SV.v (Value.int IntKind.u32 v1)),ar (IntKind.u32.wrap (↑(BitVec.ofInt 32 (IntKind.u32.wrap (↑(BitVec.ofInt 32 r ^^^ BitVec.ofInt 32 (IntKind.u32.wrap z)).toNat:Int)) &&& BitVec.ofInt 32 15).toNat:Int)) 16=true,l[off+i.toNat*1]?=some (SV.v (Value.int IntKind.u8 z)),ar i n=true,decide (i<(↑n:Int))=true]:=by kernel_rfl
theorem NB (r i:Int) (tb l:List SV) (off n c:Nat) (v:Value):au CL 155 60 (SM.at (DE r off n c i) 6 [eN tb,eN l]) (ff [0] false) v=[Value.int IntKind.u32 (IntKind.u32.wrap (↑(BitVec.ofInt 32 IntKind.u32.max ^^^ BitVec.ofInt 32 r).toNat:Int))=v,decide (i<(↑n:Int))=false]:=by kernel_rfl
noncomputable def Bs (s:Int) (l:List SV) (off n c:Nat):SM:=(aS aQ 163 [.v (.int .u32 s),.sl 0 off n (some c)] (bc 6 1 0 [eN l])).getD dx
noncomputable def HE:List SI:=dC aQ 2 60 (Bs 0 [] 0 0 0) [(1000,.b true)]
noncomputable def An (r:Int) (off n c:Nat) (i:Int):SF:={ fn:=163,tm:=gw 38 6 ([.aM,.sl 0 off n (some c),.aM,.aM,.aM,.v (.int .u32 r),.v (.int .i64 i)]++List.replicate 31 .aM),todo:=HE,defers:=[],ret:=false,kind:=.normal,ro:=none }
noncomputable def HB:List SI:=dC aQ 6 60 (SM.at (An 0 0 0 0 0) 6 [eN []]) (ff [0] true++[(2,.cells [.v (.int .u8 0)])])
noncomputable def vo (r:Int) (off n c:Nat) (i k:Int):SF:={ fn:=163,tm:=gw 38 6 ([.aM,.sl 0 off n (some c),.aM,.aM,.aM,.v (.int .u32 r),.v (.int .i64 i),.v (.int .i64 k)]++List.replicate 30 .aM),todo:=HB,defers:=[],ret:=false,kind:=.normal,ro:=none }
theorem Of (s r:Int) (l:List SV) (off n c:Nat):reach aQ 2 60 (Bs s l off n c) [(1000,.b true)] [(0,0)] [0] (An r off n c 0) 6 [eN l]=[off=off∧n=n∧some c=some c,Value.int IntKind.u32 (IntKind.u32.wrap (4294967295 - s))=Value.int IntKind.u32 r,vZ 0=vZ 0,l=l,l.all ae=true]:=by kernel_rfl
theorem N0 (r r' i z:Int) (l:List SV) (off n c:Nat):reach aQ 6 60 (SM.at (An r off n c i) 6 [eN l]) (ff [0] true++[(2,.cells [.v (.int .u8 z)])]) [(0,0)] [0] (vo r' off n c i 0) 6 [eN l]=[off=off∧n=n∧some c=some c,Value.int IntKind.u32 (IntKind.u32.wrap (↑(BitVec.ofInt 32 r ^^^ BitVec.ofInt 32 (IntKind.u32.wrap z)).toNat:Int))=Value.int IntKind.u32 r',vZ i=vZ i,vZ 0=vZ 0,l=l,l.all ae=true,l[off+i.toNat*1]?=some (SV.v (Value.int IntKind.u8 z)),ar i n=true,decide (i<(↑n:Int))=true]:=by kernel_rfl
theorem Mi (r r' i k k':Int) (l:List SV) (off n c:Nat):reach aQ 6 60 (SM.at (vo r off n c i k) 6 [eN l]) (ff [0,1] true) [(0,0)] [0] (vo r' off n c i k') 6 [eN l]=[off=off∧n=n∧some c=some c,Value.int IntKind.u32 (IntKind.u32.wrap (↑(BitVec.ofInt 32 (IntKind.u32.wrap (r.tdiv 2)) ^^^ BitVec.ofInt 32 2197175160).toNat:Int))=Value.int IntKind.u32 r',vZ i=vZ i,vZ (IntKind.i64.wrap (k+1))=vZ k',l=l,l.all ae=true,(r.tmod (2:Int)==1)=true,decide (k<8)=true]:=by kernel_rfl
theorem Ny (r r' i k k':Int) (l:List SV) (off n c:Nat):reach aQ 6 60 (SM.at (vo r off n c i k) 6 [eN l]) (ff [0] true++ff [1] false) [(0,0)] [0] (vo r' off n c i k') 6 [eN l]=[off=off∧n=n∧some c=some c,Value.int IntKind.u32 (IntKind.u32.wrap (r.tdiv 2))=Value.int IntKind.u32 r',vZ i=vZ i,vZ (IntKind.i64.wrap (k+1))=vZ k',l=l,l.all ae=true,(r.tmod (2:Int)==1)=false,decide (k<8)=true]:=by kernel_rfl
theorem ME (r i i' k:Int) (l:List SV) (off n c:Nat):reach aQ 2 60 (SM.at (vo r off n c i k) 6 [eN l]) (ff [0] false) [(0,0)] [0] (An r off n c i') 6 [eN l]=[off=off∧n=n∧some c=some c,Value.int IntKind.u32 r=Value.int IntKind.u32 r,vZ (IntKind.i64.wrap (i+1))=vZ i',l=l,l.all ae=true,decide (k<8)=false]:=by kernel_rfl
theorem Ng (r i:Int) (l:List SV) (off n c:Nat) (v:Value):au aQ 163 60 (SM.at (An r off n c i) 6 [eN l]) (ff [0] false) v=[Value.int IntKind.u32 (IntKind.u32.wrap (4294967295 - r))=v,decide (i<(↑n:Int))=false]:=by kernel_rfl
end crc
end paths
end Go.Proofs.YtcbokmadfcedaaaGreatDoor
set_option linter.unusedSimpArgs false
set_option linter.unusedVariables false
set_option maxRecDepth 100000
namespace Go.Proofs.YtcbokmadfcedaaaGreatDoor
open Go Go.Rx Go.RowKit Go.Proofs
namespace paths
namespace crc
def st1 (n:Nat):Nat:=if n % 2=1 then (n / 2) ^^^ 2197175160 else n / 2
def ph (n:Nat):Nat:=st1 (st1 (st1 (st1 n)))
def nibL:List Nat:=[0,274646895,549293790,820201905,1098587580,1361435347,1640403810,1905808397,2197175160,2460548119,2722870694,2987750089,3280807620,3553878443,3811616794,4084100981]
theorem po (a b:Nat):st1 (a ^^^ b)=st1 a ^^^ st1 b:=by
 have h1:(a ^^^ b) / 2=a / 2 ^^^ b / 2:=by
  apply Nat.eq_of_testBit_eq
  intro i
  simp [Nat.testBit_div_two]
 have h2:(a ^^^ b) % 2=1↔¬ (a % 2=1↔b % 2=1):=by
  have:=Nat.testBit_xor a b 0
  simp only [Nat.testBit_zero] at this
  have e:=decide_eq_decide.1 (show decide ((a ^^^ b) % 2=1)=decide (¬ (a % 2=1↔b % 2=1)) from by
   rw [this]
   by_cases ha:a % 2=1 <;> by_cases hb:b % 2=1 <;> simp [ha,hb])
  exact e
 unfold st1
 by_cases ha:a % 2=1
 ·by_cases hb:b % 2=1
  ·rw [if_neg (by rw [h2];simp [ha,hb]),if_pos ha,if_pos hb,h1,Nat.xor_assoc,Nat.xor_comm (b / 2) 2197175160,← Nat.xor_assoc 2197175160,Nat.xor_self,Nat.zero_xor]
  ·rw [if_pos (by rw [h2];simp [ha,hb]),if_pos ha,if_neg hb,h1,Nat.xor_assoc,Nat.xor_comm (b / 2),← Nat.xor_assoc]
 ·by_cases hb:b % 2=1
  ·rw [if_pos (by rw [h2];simp [ha,hb]),if_neg ha,if_pos hb,h1,Nat.xor_assoc]
  ·rw [if_neg (by rw [h2];simp [ha,hb]),if_neg ha,if_neg hb,h1]
theorem D5 (a b:Nat):ph (a ^^^ b)=ph a ^^^ ph b:=by
 unfold ph
 rw [po,po,po,po]
theorem Cf (q:Nat):ph (16*q)=q:=by
 have e:∀ m:Nat,st1 (2*m)=m:=fun m=>by
  unfold st1
  rw [if_neg (by omega)];omega
 unfold ph
 rw [show 16*q=2*(2*(2*(2*q))) by omega,e,e,e,e]
theorem Eb:(List.range 16).all (fun k=>decide (some (ph k)=nibL[k]?))=true:=by kernel_rfl
theorem GQ {k:Nat} (h:k<16):nibL[k]?=some (ph k):=(of_decide_eq_true (List.all_eq_true.1 Eb k (List.mem_range.2 h))).symm
theorem D4 (n:Nat):(16*(n / 16)) ^^^ (n % 16)=n:=by
 apply Nat.eq_of_testBit_eq
 intro i
 rw [Nat.testBit_xor,show 16=2 ^ 4 from rfl,Nat.testBit_two_pow_mul,Nat.testBit_mod_two_pow,Nat.testBit_div_two_pow]
 by_cases h:i<4
 ·simp [h,show ¬ i≥4 by omega]
 ·simp [h,show i≥4 by omega,show 4+(i - 4)=i by omega,show i - 4+4=i by omega]
theorem half (n:Nat):(n / 16) ^^^ ph (n % 16)=ph n:=by
 conv=>rhs;rw [← D4 n,D5,Cf]
def Jk (n:Nat):Nat:=ph (ph n)
def rI (r:Nat) (zs:List Int):Nat:=zs.foldl (fun r z=>Jk (r ^^^ z.toNat)) r
def crcN (zs:List Int):Nat:=4294967295 - rI 4294967295 zs
theorem qj {n:Nat} (h:n<4294967296):st1 n<4294967296:=by
 unfold st1
 split
 ·exact Nat.xor_lt_two_pow (n:=32) (by omega) (by decide)
 ·omega
theorem rj {n:Nat} (h:n<4294967296):ph n<4294967296:=qj (qj (qj (qj h)))
theorem Hl {n:Nat} (h:n<4294967296):Jk n<4294967296:=rj (rj h)
theorem tI {a b:Nat} (ha:a<4294967296) (hb:b<4294967296):a ^^^ b<4294967296:=Nat.xor_lt_two_pow (n:=32) ha hb
theorem u32_in {k:Nat} (h:k<4294967296):IntKind.u32.wrap (k:Int)=(k:Int):=by
 rw [show IntKind.u32.wrap (k:Int)=(k:Int) % 4294967296 from rfl];omega
theorem uh {a:Nat} (h:a<4294967296):(BitVec.ofInt 32 (a:Int)).toNat=a:=by
 rw [BitVec.ofInt_natCast,BitVec.toNat_ofNat];omega
theorem AX {a b:Nat} (ha:a<4294967296) (hb:b<4294967296):IntKind.u32.wrap (((BitVec.ofInt 32 (a:Int) ^^^ BitVec.ofInt 32 (b:Int)).toNat:Nat):Int)=((a ^^^ b:Nat):Int):=by
 rw [BitVec.toNat_xor,uh ha,uh hb,u32_in (tI ha hb)]
theorem I0 {a:Nat} (ha:a<4294967296):IntKind.u32.wrap (((BitVec.ofInt 32 (a:Int) &&& BitVec.ofInt 32 15).toNat:Nat):Int)=((a % 16:Nat):Int):=by
 rw [show (15:Int)=((15:Nat):Int) from rfl,BitVec.toNat_and,uh ha,uh (by omega),show a &&& 15=a % 16 from Nat.and_two_pow_sub_one_eq_mod a 4,u32_in (by omega)]
theorem J4 {r:Nat} (h:r<4294967296):4294967295 ^^^ r=4294967295 - r:=by
 have h1:=BitVec.toNat_not (x:=BitVec.ofNat 32 r)
 rw [BitVec.not_def,BitVec.toNat_xor,BitVec.toNat_allOnes,BitVec.toNat_ofNat,Nat.mod_eq_of_lt (by omega)] at h1
 exact h1
def bC (z:Int):List SV:=[.v (.int .u8 z)]
theorem bC_len (z:Int):(bC z).length=1:=rfl
theorem bC_closed (z:Int):(bC z).all ae=true:=rfl
def nibC:List SV:=nibL.map fun n:Nat=>SV.v (.int .u32 (n:Int))
theorem oO:nibC.all ae=true:=by kernel_rfl
theorem zM {n:Nat}:nibC[0+((n % 16:Nat):Int).toNat*1]?=some (.v (.int .u32 ((ph (n % 16):Nat):Int))):=by
 rw [Int.toNat_natCast,Nat.zero_add,Nat.mul_one]
 unfold nibC
 rw [List.getElem?_map,GQ (Nat.mod_lt _ (by decide))];rfl
theorem b_at {off:Nat} {zs:List Int} {k:Nat} {z:Int} (h:zs[k]?=some z):(ak bC off zs)[off+(k:Int).toNat*1]?=some (.v (.int .u8 z)):=by
 have h1:=se (off:=off) bC_len h
 rw [Int.toNat_natCast]
 have h2:((ak bC off zs).drop (off+k*1))[0]?=(bC z)[0]?:=by rw [← h1,List.getElem?_take,if_pos (by decide)]
 rw [List.getElem?_drop,Nat.add_zero] at h2
 exact h2
theorem sN {r:Nat} {zs:List Int} {i:Nat} (h:i<zs.length):rI r (zs.take (i+1))=Jk (rI r (zs.take i) ^^^ zs[i].toNat):=by
 unfold rI
 rw [List.take_succ_eq_append_getElem h,List.foldl_append];rfl
theorem mA {r:Nat} (hr:r<4294967296):∀ {zs:List Int},(∀ z∈zs,0≤z∧z<256)→rI r zs<4294967296
 | [],_=>hr
 | z::zs,h=>by
  have hz:=h z List.mem_cons_self
  exact mA (Hl (tI hr (by omega))) fun y hy=>h y (List.mem_cons_of_mem _ hy)
section
variable {w0:World} {cs0:List Frame} {R:Ending→World→Prop} {M:Own} {ν:aA} {zs:List Int} {off c:Nat}
theorem Dm (hν:∀ i b,ν i=some b→i=0∨i=1) (hM:∀ b,¬ M b) (dF:zs.length≤140737488355328) (hz:∀ z∈zs,0≤z∧z<256) (hR:∀ w',Below w0.heap.size w0 w'→R (.returned (.int .u32 ((crcN zs:Nat):Int))) w'):∀ (j i:Nat),i+j=zs.length→
  ao CL M w0 cs0 155 R ν (SM.at (DE ((rI 4294967295 (zs.take i):Nat):Int) off zs.length c (i:Int)) 6 [eN nibC,eN (ak bC off zs)])
 | 0,i,hj=>by
  refine ao.au Jf (n:=60) (o:=ff [0] false) (v:=.int .u32 ((crcN zs:Nat):Int)) ?_ fun ν' M1 w1 s' w' _ hB hr=>hR w' (aG hM hB hr)
  have hl:=mA (r:=4294967295) (by decide) hz
  rw [NB,List.take_of_length_le (by omega),show IntKind.u32.max=((4294967295:Nat):Int) from rfl,AX (by decide) hl,J4 hl]
  simp only [af,and_self,and_true,true_and]
  exact ⟨decide_eq_false (by omega),rfl⟩
 | j+1,i,hj=>by
  have hi:i<zs.length:=by omega
  have nx:=Dm hν hM dF hz hR j (i+1) (by omega)
  rw [sN hi] at nx
  have hzi:=hz _ (List.getElem_mem hi)
  have hq:zs[i]?=some zs[i]:=List.getElem?_eq_getElem hi
  have hl:=mA (r:=4294967295) (zs:=zs.take i) (by decide) fun z h=>hz z (List.mem_of_mem_take h)
  generalize zs[i]=z at hzi hq nx
  generalize rI 4294967295 (zs.take i)=r at hl nx ⊢
  obtain ⟨y,rfl⟩:∃ y:Nat,z=y:=⟨z.toNat,by omega⟩
  rw [Int.toNat_natCast] at nx
  have t1:decide ((i:Int)<(zs.length:Int))=true:=decide_eq_true (by omega)
  have r1:=bY hi
  have ra:=b_at (off:=off) hq
  have ws:IntKind.i64.wrap ((i:Int)+1)=((i+1:Nat):Int):=by rw [IntWalk.i64_in _ (by omega)];omega
  have h0:y<4294967296:=by omega
  have h1:=tI hl h0
  have w0':IntKind.u32.wrap (y:Int)=(y:Int):=u32_in h0
  have x1:=AX hl h0
  generalize hx:r ^^^ y=x at h1 x1 nx
  have a1:=I0 h1
  have f1:=words.Dv x
  have h2:x / 16<4294967296:=by omega
  have h3:ph (x % 16)<4294967296:=rj (by omega)
  have x2:=AX h2 h3
  rw [half] at x2
  have h4:=rj h1
  have a2:=I0 h4
  have f2:=words.Dv (ph x)
  have h5:ph x / 16<4294967296:=by omega
  have h6:ph (ph x % 16)<4294967296:=rj (by omega)
  have x3:=AX h5 h6
  rw [half] at x3
  have i1:ar ((x % 16:Nat):Int) 16=true:=bY (Nat.mod_lt _ (by decide))
  have i2:ar ((ph x % 16:Nat):Int) 16=true:=bY (Nat.mod_lt _ (by decide))
  have c1:=zM (n:=x)
  have c2:=zM (n:=ph x)
  have hcl:(ak bC off zs).all ae=true:=bO bC_closed
  refine ao.reach Jf (k:=2) (n:=100) (o:=ff [0] true++[(2,.cells [.v (.int .u8 (y:Int))]),(4,.cells [.v (.int .u32 ((ph (x % 16):Nat):Int))]),(6,.cells [.v (.int .u32 ((ph (ph x % 16):Nat):Int))])]) (ren:=[(0,0),(1,1)]) (eqs:=[0,1]) ?_ (by kernel_rfl) (fun i b h=>by rcases hν i b h with h | h <;> rw [h] <;> rfl) nx
  rw [MS]
  simp only [af,t1,r1,ra,ws,w0',x1,a1,f1,x2,a2,f2,x3,i1,i2,c1,c2,hcl,oO,and_self,and_true,true_and]
  try (repeat' apply And.intro)
  all_goals first | rfl | skip
theorem Ei:∀ (j r:Nat),Nat.repeat st1 j (st1 r)=Nat.repeat st1 (j+1) r:=by
 intro j
 induction j with
 | zero=>intro r;rfl
 | succ j ih=>intro r;show st1 (Nat.repeat st1 j (st1 r))=st1 (Nat.repeat st1 (j+1) r);rw [ih]
theorem GW (hν:∀ i b,ν i=some b→i=0) {i:Nat} {l:List SV} (hcl:l.all ae=true) {n:Nat}:∀ (j k r:Nat),k+j=8→r<4294967296→ao aQ M w0 cs0 163 R ν (SM.at (vo ((Nat.repeat st1 j r:Nat):Int) off n c (i:Int) ((8:Nat):Int)) 6 [eN l])→
  ao aQ M w0 cs0 163 R ν (SM.at (vo (r:Int) off n c (i:Int) (k:Int)) 6 [eN l]):=by
 intro j
 induction j with
 | zero=>
  intro k r hk hr nx
  have e:k=8:=by omega
  rw [e];exact nx
 | succ j IH=>
  intro k r hk hr nx
  have ih:=IH (k+1) (st1 r) (by omega) (qj hr) (by rw [Ei];exact nx)
  have ws:=cL (k:=k) (by omega)
  have t1:decide ((k:Int)<8)=true:=decide_eq_true (by omega)
  have e1:(r:Int).tdiv 2=((r / 2:Nat):Int):=rfl
  have e2:(r:Int).tmod 2=((r % 2:Nat):Int):=rfl
  have e3:=u32_in (k:=r / 2) (by omega)
  by_cases h:r % 2=1
  ·have e4:(((r % 2:Nat):Int)==1)=true:=by rw [h];rfl
   have e5:=AX (a:=r / 2) (b:=2197175160) (by omega) (by decide)
   have e6:st1 r=(r / 2) ^^^ 2197175160:=by unfold st1;rw [if_pos h]
   rw [e6] at ih
   refine ao.reach kR (k:=6) (n:=60) (o:=ff [0,1] true) (ren:=[(0,0)]) (eqs:=[0]) ?_ (by kernel_rfl) (fun i b h=>by rw [hν i b h];rfl) ih
   rw [Mi]
   have e7:((2197175160:Nat):Int)=(2197175160:Int):=rfl
   rw [e7] at e5
   simp only [af,e1,e2,e3,e4,e5,ws,t1,hcl,and_self,and_true,true_and]
  ·have e4:(((r % 2:Nat):Int)==1)=false:=by rw [show r % 2=0 by omega];rfl
   have e6:st1 r=r / 2:=by unfold st1;rw [if_neg h]
   rw [e6] at ih
   refine ao.reach kR (k:=6) (n:=60) (o:=ff [0] true++ff [1] false) (ren:=[(0,0)]) (eqs:=[0]) ?_ (by kernel_rfl) (fun i b h=>by rw [hν i b h];rfl) ih
   rw [Ny]
   simp only [af,e1,e2,e3,e4,ws,t1,hcl,and_self,and_true,true_and]
theorem BL (hν:∀ i b,ν i=some b→i=0) (hM:∀ b,¬ M b) (dF:zs.length≤140737488355328) (hz:∀ z∈zs,0≤z∧z<256) (hR:∀ w',Below w0.heap.size w0 w'→R (.returned (.int .u32 ((crcN zs:Nat):Int))) w'):∀ (j i:Nat),i+j=zs.length→
  ao aQ M w0 cs0 163 R ν (SM.at (An ((rI 4294967295 (zs.take i):Nat):Int) off zs.length c (i:Int)) 6 [eN (ak bC off zs)])
 | 0,i,hj=>by
  refine ao.au kR (n:=60) (o:=ff [0] false) (v:=.int .u32 ((crcN zs:Nat):Int)) ?_ fun ν' M1 w1 s' w' _ hB hr=>hR w' (aG hM hB hr)
  have hl:=mA (r:=4294967295) (by decide) hz
  have e:(4294967295:Int) - ((rI 4294967295 zs:Nat):Int)=((crcN zs:Nat):Int):=by unfold crcN;omega
  rw [Ng,List.take_of_length_le (by omega),e,u32_in (by unfold crcN;omega)]
  simp only [af,and_self,and_true,true_and]
  exact decide_eq_false (by omega)
 | j+1,i,hj=>by
  have hi:i<zs.length:=by omega
  have nx:=BL hν hM dF hz hR j (i+1) (by omega)
  rw [sN hi] at nx
  have hzi:=hz _ (List.getElem_mem hi)
  have hq:zs[i]?=some zs[i]:=List.getElem?_eq_getElem hi
  have hl:=mA (r:=4294967295) (zs:=zs.take i) (by decide) fun z h=>hz z (List.mem_of_mem_take h)
  generalize zs[i]=z at hzi hq nx
  generalize rI 4294967295 (zs.take i)=r at hl nx ⊢
  obtain ⟨y,rfl⟩:∃ y:Nat,z=y:=⟨z.toNat,by omega⟩
  rw [Int.toNat_natCast] at nx
  have t1:decide ((i:Int)<(zs.length:Int))=true:=decide_eq_true (by omega)
  have r1:=bY hi
  have ra:=b_at (off:=off) hq
  have ws:IntKind.i64.wrap ((i:Int)+1)=((i+1:Nat):Int):=by rw [IntWalk.i64_in _ (by omega)];omega
  have h0:y<4294967296:=by omega
  have w0':IntKind.u32.wrap (y:Int)=(y:Int):=u32_in h0
  have x1:=AX hl h0
  have h1:=tI hl h0
  have hcl:(ak bC off zs).all ae=true:=bO bC_closed
  have mid:=GW (cs0:=cs0) (R:=R) (M:=M) (w0:=w0) (off:=off) (c:=c) (n:=zs.length) (i:=i) (l:=ak bC off zs) hν hcl 8 0 (r ^^^ y) (by omega) h1 (by
   refine ao.reach kR (k:=2) (n:=60) (o:=ff [0] false) (ren:=[(0,0)]) (eqs:=[0]) ?_ (by kernel_rfl) (fun i b h=>by rw [hν i b h];rfl) nx
   rw [show Nat.repeat st1 8 (r ^^^ y)=Jk (r ^^^ y) from rfl,ME]
   simp only [af,ws,hcl,and_self,and_true,true_and]
   exact decide_eq_false (by omega))
  refine ao.reach kR (k:=6) (n:=60) (o:=ff [0] true++[(2,.cells [.v (.int .u8 (y:Int))])]) (ren:=[(0,0)]) (eqs:=[0]) ?_ (by kernel_rfl) (fun i b h=>by rw [hν i b h];rfl) mid
  rw [show ((0:Nat):Int)=0 from rfl,N0]
  simp only [af,t1,r1,ra,w0',x1,hcl,and_self,and_true,true_and]
  try (repeat' apply And.intro)
  all_goals first | rfl | skip
end
def NibTab (w:World):Prop:=Rx.Told w (1,nibC)
theorem NibTab.cr {w0 w:World} (h:NibTab w0) (hk:∀ k,k<w0.heap.size→w.heap[k]?=w0.heap[k]?):NibTab w:=by
 obtain ⟨ys,c,e,fz,h1,h2,h3⟩:=h
 exact ⟨ys,c,e,fz,(hk _ (Array.getElem?_eq_some_iff.1 h1).1).trans h1,h2,h3⟩
noncomputable def F5 (a:Option Addr) (c:Nat):SM:=(aS CL 155 [.v (.int .u32 0),.v (.slice a 0 c)] (bc 6 1 0 [eN nibC])).getD dx
theorem mz (a:Option Addr) (c:Nat) (v:Value):au CL 155 60 (F5 a c) (ff [1] true++ff [0] false) v=[Value.int IntKind.u32 (IntKind.u32.wrap (↑(0:Nat):Int))=v,false=false]:=by kernel_rfl
theorem rz (a:Option Addr) (c:Nat) (v:Value):au aQ 163 60 (ba aQ 163 [.v (.int .u32 0),.v (.slice a 0 c)]) (ff [1] true++ff [0] false) v=[Value.int IntKind.u32 (IntKind.u32.wrap (4294967295 - IntKind.u32.wrap (4294967295 - 0)))=v,false=false]:=by kernel_rfl
theorem cells_obj {w:World} {b:Addr} {l:Nat} {zs:List Int} (h:fW w (some b) l zs) (hl:0<l):∃ cs e fz,b=⟨b.block,b.off,none⟩∧w.heap[b.block]?=some (.cells cs e fz)∧b.off≤cs.size∧∀ (k:Nat) (v:Value),(zs.map (Value.int .u8))[k]?=some v→cs[b.off+k]?=some v:=by
 obtain ⟨h1,_,h2⟩:=h
 have key:=fun i hi=>h2 b rfl i hi w (fun _ _=>rfl)
 have h0:=key 0 hl
 unfold World.cell? Addr.add at h0
 rw [if_pos rfl] at h0
 split at h0
 ·rename_i cs e fz hh
  split at h0
  ·cases h0
  ·rename_i hs
   have hsp:b.spot=none:=by simpa using hs
   refine ⟨cs,e,fz,?_,hh,?_,fun k v hk=>?_⟩
   ·cases b;simp only at hsp;rw [hsp]
   ·have:=(Array.getElem?_eq_some_iff.1 h0).1;omega
   ·have hkl:k<l:=by
     have:=(List.getElem?_eq_some_iff.1 hk).1
     simpa [h1] using this
    have hv:=key k hkl
    unfold World.cell? Addr.add at hv
    rw [List.getElem?_map,List.getElem?_eq_getElem (by omega)] at hk
    cases hk
    rw [List.getD_eq_getElem?_getD,List.getElem?_eq_getElem (by omega)] at hv
    by_cases hk0:k=0
    ·subst hk0
     rw [if_pos rfl,hh] at hv
     dsimp only at hv
     rw [if_neg (by simp [hsp])] at hv
     exact hv
    ·rw [if_neg hk0] at hv
     dsimp only at hv
     rw [hh] at hv
     dsimp only at hv
     rw [if_neg (by simp)] at hv
     exact hv
 ·cases h0
theorem bC_flat (zs:List Int):zs.flatMap (fun z=>[Value.int .u8 z])=zs.map (Value.int .u8):=by
 induction zs with
 | nil=>rfl
 | cons z zs ih=>rw [List.flatMap_cons,ih];rfl
theorem more_calls {w:World} {a:Option Addr} {l c:Nat} {zs:List Int} (hd:iV w a l zs) (hlc:l≤c∨l=0) (hne:∀ b,a=some b→0<l→(1:Nat)≠b.block) (hz:∀ z∈zs,0≤z∧z<256) (ht:NibTab w):Calls Tryz.prog 155 #[.int .u32 0,.slice a l c] w fun e w'=>Below w.heap.size w w'∧e=.returned (.int .u32 ((crcN zs:Nat):Int)):=by
 obtain ⟨ts,tc,te,tf,th,tv,tk⟩:=ht
 by_cases hl:l=0
 ·subst hl
  have hzs:zs=[]:=List.length_eq_zero_iff.1 hd.1.1
  subst hzs
  have ho:∀ (j:Nat) (o':SO) (b' c':Nat),[SO.look nibC][j]?=some o'→[(1,0)][j]?=some (b',c')→∃ r,w.heap[b']?=some r∧OR (ax [(1,0)]) j o' r:=by
   intro j o' b' c' q1 q2
   match j with
   | 0=>
    simp only [List.getElem?_cons_zero,Option.some.injEq] at q1 q2
    subst q1
    cases q2
    exact ⟨_,th,ts,_,_,_,rfl,tv _,tk⟩
   | j+1=>simp at q1
  refine eL (E:=CL) rfl (d:=6) (l:=[(1,0)]) (os:=[.look nibC]) rfl (by simp) (by simp) ho (fun g i h=>by
   by_cases hg:g=1
   ·subst hg;cases h;exact ⟨0,rfl⟩
   ·have:([(1,0)]:List (Nat × Nat)).lookup g=none:=by simp [List.lookup,beq_eq_false_iff_ne.2 hg]
    exact absurd (this.symm.trans h) (by simp)) (args:=[.v (.int .u32 0),.v (.slice a 0 c)]) (a:=[.int .u32 0,.slice a 0 c]) (S0:=F5 a c) (by kernel_rfl) (aj.cons (VR.ab.2 rfl) (aj.cons (VR.ab.2 rfl) aj.nil)) fun cs0=>?_
  refine ao.au Jf (n:=60) (o:=ff [1] true++ff [0] false) (v:=.int .u32 ((crcN []:Nat):Int)) ?_ fun ν' M1 w1 s' w' _ hB' hr=>⟨aG (fun z=>aO (os:=[SO.look nibC])) hB' hr,rfl⟩
  rw [mz]
  simp only [af,and_self,and_true,true_and]
  first | done | kernel_rfl
 ·cases a with
  | none=>exact absurd (hd.2 rfl) hl
  | some b=>
   obtain ⟨cs,e,fz,hb,hh,hoff,hc⟩:=cells_obj hd.1 (by omega)
   have hzl:zs.length=l:=hd.1.1
   have hne:=hne b rfl (by omega)
   have hlc:l≤c:=by omega
   have ho:∀ (j:Nat) (o':SO) (b' c':Nat),[SO.look nibC,SO.look (ak bC b.off zs)][j]?=some o'→[(1,0),(b.block,0)][j]?=some (b',c')→∃ r,w.heap[b']?=some r∧OR (ax [(1,0),(b.block,0)]) j o' r:=by
    intro j o' b' c' q1 q2
    match j with
    | 0=>
     simp only [List.getElem?_cons_zero,Option.some.injEq] at q1 q2
     subst q1
     cases q2
     exact ⟨_,th,ts,_,_,_,rfl,tv _,tk⟩
    | 1=>
     simp only [List.getElem?_cons_succ,List.getElem?_cons_zero,Option.some.injEq] at q1 q2
     subst q1
     cases q2
     exact ⟨_,hh,bW (h:=fun z=>[Value.int .u8 z]) (fun ν x=>aj.lits ν [Value.int .u8 x]) hoff (by rw [bC_flat];exact hc)⟩
    | j+2=>simp at q1
   have hM:∀ z,¬ (az [(1,0),(b.block,0)] ([SO.look nibC,SO.look (ak bC b.off zs)].map fun o=>(o,false))) z:=fun z=>aO (os:=[_,_])
   refine eL (E:=CL) rfl (d:=6) (l:=[(1,0),(b.block,0)]) (os:=[.look nibC,.look (ak bC b.off zs)]) rfl (by simp) (by simpa using hne) ho (fun g i h=>by
    by_cases hg:g=1
    ·subst hg;cases h;exact ⟨0,rfl⟩
    ·have:([(1,0)]:List (Nat × Nat)).lookup g=none:=by simp [List.lookup,beq_eq_false_iff_ne.2 hg]
     exact absurd (this.symm.trans h) (by simp)) (args:=[.v (.int .u32 0),.sl 1 b.off zs.length (some c)]) (a:=[.int .u32 0,.slice (some b) l c]) (S0:=Ce 0 nibC (ak bC b.off zs) b.off zs.length c) (by kernel_rfl) (aj.cons (VR.ab.2 rfl) (aj.cons (VR.ay.2 ⟨(b.block,0),rfl,by rw [hzl];exact hlc,by rw [hzl,← hb];rfl⟩) aj.nil)) fun cs0=>?_
   have hν:∀ i b',ax [(1,0),(b.block,0)] i=some b'→i=0∨i=1:=fun i b' h=>by
    match i with
    | 0=>exact .inl rfl
    | 1=>exact .inr rfl
    | i+2=>simp [ax] at h
   have nx:=Dm (w0:=w) (cs0:=cs0) (zs:=zs) (off:=b.off) (c:=c) (R:=fun e w'=>Below w.heap.size w w'∧e=.returned (.int .u32 ((crcN zs:Nat):Int))) hν hM (by rw [hzl];exact hd.1.2.1) hz (fun w' hw=>⟨hw,rfl⟩) zs.length 0 (by omega)
   have hcl:(ak bC b.off zs).all ae=true:=bO bC_closed
   refine ao.reach Jf (k:=2) (n:=60) (o:=[(1000,.b true)]) (ren:=[(0,0),(1,1)]) (eqs:=[0,1]) ?_ (by kernel_rfl) (fun i b h=>by rcases hν i b h with h | h <;> rw [h] <;> rfl) nx
   rw [show ((0:Nat):Int)=0 from rfl,MO]
   simp only [af,oO,hcl,and_self,and_true,true_and]
   first | done | rfl | kernel_rfl
theorem rmore_calls {w:World} {a:Option Addr} {l c:Nat} {zs:List Int} (hd:iV w a l zs) (hlc:l≤c∨l=0) (hz:∀ z∈zs,0≤z∧z<256):Calls Tryz.prog 163 #[.int .u32 0,.slice a l c] w fun e w'=>Below w.heap.size w w'∧e=.returned (.int .u32 ((crcN zs:Nat):Int)):=by
 by_cases hl:l=0
 ·subst hl
  have hzs:zs=[]:=List.length_eq_zero_iff.1 hd.1.1
  subst hzs
  refine (bV (E:=aQ) rfl rfl (args:=[.v (.int .u32 0),.v (.slice a 0 c)]) (a:=[.int .u32 0,.slice a 0 c]) (S0:=ba aQ 163 [.v (.int .u32 0),.v (.slice a 0 c)]) (by kernel_rfl) (aj.cons (VR.ab.2 rfl) (aj.cons (VR.ab.2 rfl) aj.nil)) fun cs0=>?_)
  refine ao.au kR (n:=60) (o:=ff [1] true++ff [0] false) (v:=.int .u32 ((crcN []:Nat):Int)) ?_ fun ν' M1 w1 s' w' _ hB' hr=>⟨aG a6 hB' hr,rfl⟩
  rw [rz]
  simp only [af,and_self,and_true,true_and]
  first | done | kernel_rfl
 ·cases a with
  | none=>exact absurd (hd.2 rfl) hl
  | some b=>
   obtain ⟨cs,e,fz,hb,hh,hoff,hc⟩:=cells_obj hd.1 (by omega)
   have hzl:zs.length=l:=hd.1.1
   have hlc:l≤c:=by omega
   have ho:∀ (j:Nat) (o':SO) (b' c':Nat),[SO.look (ak bC b.off zs)][j]?=some o'→[(b.block,0)][j]?=some (b',c')→∃ r,w.heap[b']?=some r∧OR (ax [(b.block,0)]) j o' r:=by
    intro j o' b' c' q1 q2
    match j with
    | 0=>
     simp only [List.getElem?_cons_zero,Option.some.injEq] at q1 q2
     subst q1
     cases q2
     exact ⟨_,hh,bW (h:=fun z=>[Value.int .u8 z]) (fun ν x=>aj.lits ν [Value.int .u8 x]) hoff (by rw [bC_flat];exact hc)⟩
    | j+1=>simp at q1
   have hM:∀ z,¬ (az [(b.block,0)] ([SO.look (ak bC b.off zs)].map fun o=>(o,false))) z:=fun z=>aO (os:=[_])
   refine aY (E:=aQ) rfl (d:=6) (l:=[(b.block,0)]) (os:=[.look (ak bC b.off zs)]) rfl (by simp) (by simp) ho rfl (args:=[.v (.int .u32 0),.sl 0 b.off zs.length (some c)]) (a:=[.int .u32 0,.slice (some b) l c]) (S0:=Bs 0 (ak bC b.off zs) b.off zs.length c) (by kernel_rfl) (aj.cons (VR.ab.2 rfl) (aj.cons (VR.ay.2 ⟨(b.block,0),rfl,by rw [hzl];exact hlc,by rw [hzl,← hb];rfl⟩) aj.nil)) fun cs0=>?_
   have hν:∀ i b',ax [(b.block,0)] i=some b'→i=0:=fun i b' h=>IE h
   have nx:=BL (w0:=w) (cs0:=cs0) (zs:=zs) (off:=b.off) (c:=c) (R:=fun e w'=>Below w.heap.size w w'∧e=.returned (.int .u32 ((crcN zs:Nat):Int))) hν hM (by rw [hzl];exact hd.1.2.1) hz (fun w' hw=>⟨hw,rfl⟩) zs.length 0 (by omega)
   have hcl:(ak bC b.off zs).all ae=true:=bO bC_closed
   refine ao.reach kR (k:=2) (n:=60) (o:=[(1000,.b true)]) (ren:=[(0,0)]) (eqs:=[0]) ?_ (by kernel_rfl) (fun i b h=>by rw [hν i b h];rfl) nx
   rw [show ((0:Nat):Int)=0 from rfl,Of]
   simp only [af,hcl,and_self,and_true,true_and]
   first | done | rfl | kernel_rfl
end crc
end paths
end Go.Proofs.YtcbokmadfcedaaaGreatDoor
set_option linter.unusedSimpArgs false
set_option linter.unusedVariables false
set_option maxRecDepth 100000
namespace Go.Proofs.YtcbokmadfcedaaaGreatDoor
open Go Go.Rx Go.RowKit Go.Proofs
namespace paths
namespace eye
def lkB (l:List SV):Option (SO × Bool):=some (.look l,false)
def gb (off l c:Nat) (f:Int):Option (SO × Bool):=some (.row [.sl 1 off l (some c),.v (.int .i64 f)] 247 (0,0) none,true)
def iy (f:Int):Option (SO × Bool):=some (.row [.v (.slice none 0 0),.v (.int .i64 f)] 247 (0,0) none,true)
noncomputable def cW (m:Int) (o:Option (SO × Bool)) (xs:List SV):SM:=(aS aQ 123 [.ptr 0 0,.v (.int .u64 m)] (bc 6 2 0 [o,lkB xs])).getD dx
def En (a:Option Addr) (l c:Nat) (f:Int):Option (SO × Bool):=some (.row [.v (.slice a l c),.v (.int .i64 f)] 247 (0,0) none,true)
noncomputable def kW (m:Int) (o:Option (SO × Bool)):SM:=(aS aQ 123 [.ptr 0 0,.v (.int .u64 m)] (bc 6 1 0 [o])).getD dx
noncomputable def GD:List SI:=dC aQ 2 400 (cW 0 (gb 0 5 9 0) []) ([(14,.cells [.v (.int .u8 0)]),(17,.cells [.v (.int .u8 0)])]++ff [6,7,9,11,15,18,20,22,23,24,25,26,27] false++[(1000,.b true)])
noncomputable def fF (m n:Int) (o2 k c2:Nat) (i:Int):SF:={ fn:=123,tm:=gw 69 7 ([.ptr 0 0,.v (.int .u64 m),.aM,.aM,.v (.int .u64 n)]++List.replicate 41 .aM++[.sl 1 o2 k (some c2),.v (.int .i64 k),.v (.int .i64 i)]++List.replicate 20 .aM),todo:=GD,defers:=[],ret:=false,kind:=.normal,ro:=none }
theorem NC (m f z d n n' i i':Int) (a:Option Addr) (off l c o2 k c2:Nat) (xs:List SV) (o:Option (SO × Bool)):aB aQ 123 400 (kW m (En a l c f)) (ff [6] true++[(1000,.b true)]) [(0,0)] [] (.v (.int .u64 0)) [En a l c f]=[Value.int IntKind.u64 0=Value.int IntKind.u64 0,Value.slice a l c=Value.slice a l c,vZ f=vZ f,(!f==0)=true]:=by kernel_rfl
theorem nB (m f z d n n' i i':Int) (a:Option Addr) (off l c o2 k c2:Nat) (xs:List SV) (o:Option (SO × Bool)):aB aQ 123 400 (kW m (En a 0 c f)) (ff [6] false++ff [14,15,16] true++[(1000,.b true)]) [(0,0)] [] (.v (.int .u64 0)) [iy 11]=[Value.int IntKind.u64 0=Value.int IntKind.u64 0,Value.slice none 0 0=Value.slice none 0 0,vZ 11=vZ 11,(f==0)=true,(f==0)=true,(f==0)=true,(!f==0)=false]:=by kernel_rfl
theorem LY (m f z d n n' i i':Int) (a:Option Addr) (off l c o2 k c2:Nat) (xs:List SV) (o:Option (SO × Bool)):aB aQ 123 400 (cW m (gb off l c f) xs) ([(14,.cells [.v (.int .u8 z)]),(17,.cells [.v (.int .u8 z)])]++ff [6,7,9] false++ff [11,15,22,23,24] true++[(1000,.b true)]) [(0,0),(1,1)] [1] (.v (.int .u64 0)) [iy 10,lkB xs]=[Value.int IntKind.u64 0=Value.int IntKind.u64 0,Value.slice none 0 0=Value.slice none 0 0,vZ 10=vZ 10,xs=xs,xs.all ae=true,(f==0)=true,(f==0)=true,(f==0)=true,decide (z>8)=true,xs[off+0+0]?=some (SV.v (Value.int IntKind.u8 z)),true=true,decide (c=1)=true,decide ((0:Int)≤1∧1≤(↑l:Int))=true,decide (c=0)=false,decide ((0:Int)≤1∧1≤(↑c:Int))=true,decide (1>(↑l:Int))=false,(!f==0)=false]:=by kernel_rfl
theorem L4 (m f z d n n' i i':Int) (a:Option Addr) (off l c o2 k c2:Nat) (xs:List SV) (o:Option (SO × Bool)):aB aQ 123 400 (cW m (gb off l c f) xs) ([(14,.cells [.v (.int .u8 z)]),(17,.cells [.v (.int .u8 z)])]++ff [6,7,9,11] false++ff [15,22,23,24] true++[(1000,.b true)]) [(0,0),(1,1)] [1] (.v (.int .u64 0)) [iy 10,lkB xs]=[Value.int IntKind.u64 0=Value.int IntKind.u64 0,Value.slice none 0 0=Value.slice none 0 0,vZ 10=vZ 10,xs=xs,xs.all ae=true,(f==0)=true,(f==0)=true,(f==0)=true,decide (z>8)=true,xs[off+0+0]?=some (SV.v (Value.int IntKind.u8 z)),true=true,decide (c=1)=false,decide ((0:Int)≤1∧1≤(↑l:Int))=true,decide (c=0)=false,decide ((0:Int)≤1∧1≤(↑c:Int))=true,decide (1>(↑l:Int))=false,(!f==0)=false]:=by kernel_rfl
theorem Nc (m f z d n n' i i':Int) (a:Option Addr) (off l c o2 k c2:Nat) (xs:List SV) (o:Option (SO × Bool)):aB aQ 123 400 (cW m (gb off l c f) xs) ([(14,.cells [.v (.int .u8 z)]),(17,.cells [.v (.int .u8 z)])]++ff [6,7,9,15,36] false++ff [11,18,25,26,27] true++[(1000,.b true)]) [(0,0),(1,1)] [1] (.v (.int .u64 0)) [iy 11,lkB xs]=[Value.int IntKind.u64 0=Value.int IntKind.u64 0,Value.slice none 0 0=Value.slice none 0 0,vZ 11=vZ 11,xs=xs,xs.all ae=true,decide (0>m)=false,(f==0)=true,(f==0)=true,(f==0)=true,decide (IntKind.i64.wrap z>(↑(l - 1):Int))=true,xs[off+0+0]?=some (SV.v (Value.int IntKind.u8 z)),true=true,decide (z>8)=false,xs[off+0+0]?=some (SV.v (Value.int IntKind.u8 z)),true=true,decide (c=1)=true,decide ((0:Int)≤1∧1≤(↑l:Int))=true,decide (c=0)=false,decide ((0:Int)≤1∧1≤(↑c:Int))=true,decide (1>(↑l:Int))=false,(!f==0)=false]:=by kernel_rfl
theorem NA (m f z d n n' i i':Int) (a:Option Addr) (off l c o2 k c2:Nat) (xs:List SV) (o:Option (SO × Bool)):aB aQ 123 400 (cW m (gb off l c f) xs) ([(14,.cells [.v (.int .u8 z)]),(17,.cells [.v (.int .u8 z)])]++ff [6,7,9,11,15,36] false++ff [18,25,26,27] true++[(1000,.b true)]) [(0,0),(1,1)] [1] (.v (.int .u64 0)) [iy 11,lkB xs]=[Value.int IntKind.u64 0=Value.int IntKind.u64 0,Value.slice none 0 0=Value.slice none 0 0,vZ 11=vZ 11,xs=xs,xs.all ae=true,decide (0>m)=false,(f==0)=true,(f==0)=true,(f==0)=true,decide (IntKind.i64.wrap z>(↑(l - 1):Int))=true,xs[off+0+0]?=some (SV.v (Value.int IntKind.u8 z)),true=true,decide (z>8)=false,xs[off+0+0]?=some (SV.v (Value.int IntKind.u8 z)),true=true,decide (c=1)=false,decide ((0:Int)≤1∧1≤(↑l:Int))=true,decide (c=0)=false,decide ((0:Int)≤1∧1≤(↑c:Int))=true,decide (1>(↑l:Int))=false,(!f==0)=false]:=by kernel_rfl
theorem Mt (m f z d n n' i i':Int) (a:Option Addr) (off l c o2 k c2:Nat) (xs:List SV) (o:Option (SO × Bool)):reach aQ 2 400 (cW m (gb off l c f) xs) ([(14,.cells [.v (.int .u8 z)]),(17,.cells [.v (.int .u8 z)])]++ff [6,7,9,15,18,23,24,25,26,27] false++ff [11,20,22] true++[(1000,.b true)]) [(0,0),(1,1)] [1] (fF m 0 off (IntKind.i64.wrap z).toNat (c - 1) 0) 7 [gb off (l - 1 - (IntKind.i64.wrap z).toNat) (c - 1 - (IntKind.i64.wrap z).toNat) f,lkB xs]=[0=0,Value.int IntKind.u64 m=Value.int IntKind.u64 m,Value.int IntKind.u64 0=Value.int IntKind.u64 0,off=off∧(IntKind.i64.wrap z).toNat - 0=(IntKind.i64.wrap z).toNat∧some (c - 1 - 0)=some (c - 1),vZ (↑((IntKind.i64.wrap z).toNat - 0):Int)=vZ (↑(IntKind.i64.wrap z).toNat:Int),vZ 0=vZ 0,off=off∧l - 1 - (IntKind.i64.wrap z).toNat=l - 1 - (IntKind.i64.wrap z).toNat∧some (c - 1 - (IntKind.i64.wrap z).toNat)=some (c - 1 - (IntKind.i64.wrap z).toNat),vZ f=vZ f,xs=xs,xs.all ae=true,decide ((↑((IntKind.i64.wrap z).toNat - 0):Int)>0)=false,decide ((↑((IntKind.i64.wrap z).toNat - 0):Int)>0)=false,decide ((↑((IntKind.i64.wrap z).toNat - 0):Int)>0)=false,decide ((↑((IntKind.i64.wrap z).toNat - 0):Int)>0)=false,decide ((↑((IntKind.i64.wrap z).toNat - 0):Int)>0)=false,decide (c - 1=(IntKind.i64.wrap z).toNat)=true,decide (0≤IntKind.i64.wrap z∧IntKind.i64.wrap z≤(↑(l - 1):Int))=true,decide (c - 1=0)=true,decide (0≤IntKind.i64.wrap z∧IntKind.i64.wrap z≤(↑(c - 1):Int))=true,decide (IntKind.i64.wrap z>(↑(l - 1):Int))=false,xs[off+0+0]?=some (SV.v (Value.int IntKind.u8 z)),true=true,decide (z>8)=false,xs[off+0+0]?=some (SV.v (Value.int IntKind.u8 z)),true=true,decide (c=1)=true,decide ((0:Int)≤1∧1≤(↑l:Int))=true,decide (c=0)=false,decide ((0:Int)≤1∧1≤(↑c:Int))=true,decide (1>(↑l:Int))=false,(!f==0)=false]:=by kernel_rfl
theorem OJ (m f z d n n' i i':Int) (a:Option Addr) (off l c o2 k c2:Nat) (xs:List SV) (o:Option (SO × Bool)):reach aQ 2 400 (cW m (gb off l c f) xs) ([(14,.cells [.v (.int .u8 z)]),(17,.cells [.v (.int .u8 z)])]++ff [6,7,9,11,15,18,20,22,23,24,25,26,27] false++[(1000,.b true)]) [(0,0),(1,1)] [1] (fF m 0 (off+1) (IntKind.i64.wrap z).toNat (c - 1) 0) 7 [gb (off+1+(IntKind.i64.wrap z).toNat) (l - 1 - (IntKind.i64.wrap z).toNat) (c - 1 - (IntKind.i64.wrap z).toNat) f,lkB xs]=[0=0,Value.int IntKind.u64 m=Value.int IntKind.u64 m,Value.int IntKind.u64 0=Value.int IntKind.u64 0,off+1+0=off+1∧(IntKind.i64.wrap z).toNat - 0=(IntKind.i64.wrap z).toNat∧some (c - 1 - 0)=some (c - 1),vZ (↑((IntKind.i64.wrap z).toNat - 0):Int)=vZ (↑(IntKind.i64.wrap z).toNat:Int),vZ 0=vZ 0,off+1+(IntKind.i64.wrap z).toNat*1=off+1+(IntKind.i64.wrap z).toNat∧l - 1 - (IntKind.i64.wrap z).toNat=l - 1 - (IntKind.i64.wrap z).toNat∧some (c - 1 - (IntKind.i64.wrap z).toNat)=some (c - 1 - (IntKind.i64.wrap z).toNat),vZ f=vZ f,xs=xs,xs.all ae=true,decide ((↑((IntKind.i64.wrap z).toNat - 0):Int)>0)=false,decide ((↑((IntKind.i64.wrap z).toNat - 0):Int)>0)=false,decide ((↑((IntKind.i64.wrap z).toNat - 0):Int)>0)=false,decide ((↑((IntKind.i64.wrap z).toNat - 0):Int)>0)=false,decide ((↑((IntKind.i64.wrap z).toNat - 0):Int)>0)=false,decide (c - 1=(IntKind.i64.wrap z).toNat)=false,decide (0≤IntKind.i64.wrap z∧IntKind.i64.wrap z≤(↑(l - 1):Int))=true,decide (c - 1=0)=false,decide (0≤IntKind.i64.wrap z∧IntKind.i64.wrap z≤(↑(c - 1):Int))=true,decide (IntKind.i64.wrap z>(↑(l - 1):Int))=false,xs[off+0+0]?=some (SV.v (Value.int IntKind.u8 z)),true=true,decide (z>8)=false,xs[off+0+0]?=some (SV.v (Value.int IntKind.u8 z)),true=true,decide (c=1)=false,decide ((0:Int)≤1∧1≤(↑l:Int))=true,decide (c=0)=false,decide ((0:Int)≤1∧1≤(↑c:Int))=true,decide (1>(↑l:Int))=false,(!f==0)=false]:=by kernel_rfl
theorem JH (m f z d n n' i i':Int) (a:Option Addr) (off l c o2 k c2:Nat) (xs:List SV) (o:Option (SO × Bool)):reach aQ 2 400 (cW m (gb off l c f) xs) ([(14,.cells [.v (.int .u8 z)]),(17,.cells [.v (.int .u8 z)]),(27,.cells [.v (.int .u8 d)])]++ff [6,7,9,11,15,18,20] false++ff [22,23,24,26,28,29] true++ff [30] false++[(1000,.b true)]) [(0,0),(1,1)] [1] (fF m 0 (off+1) (IntKind.i64.wrap z).toNat (c - 1) 0) 7 [gb (off+1) (l - 1 - (IntKind.i64.wrap z).toNat) (c - 1 - (IntKind.i64.wrap z).toNat) f,lkB xs]=[0=0,Value.int IntKind.u64 m=Value.int IntKind.u64 m,Value.int IntKind.u64 0=Value.int IntKind.u64 0,off+1+0=off+1∧(IntKind.i64.wrap z).toNat - 0=(IntKind.i64.wrap z).toNat∧some (c - 1 - 0)=some (c - 1),vZ (↑((IntKind.i64.wrap z).toNat - 0):Int)=vZ (↑(IntKind.i64.wrap z).toNat:Int),vZ 0=vZ 0,off+1=off+1∧l - 1 - (IntKind.i64.wrap z).toNat=l - 1 - (IntKind.i64.wrap z).toNat∧some (c - 1 - (IntKind.i64.wrap z).toNat)=some (c - 1 - (IntKind.i64.wrap z).toNat),vZ f=vZ f,xs=xs,xs.all ae=true,(d==0)=false,decide ((↑((IntKind.i64.wrap z).toNat - 0):Int)>0)=true,decide ((↑((IntKind.i64.wrap z).toNat - 0):Int)>0)=true,xs[off+1+0+0]?=some (SV.v (Value.int IntKind.u8 d)),decide ((↑((IntKind.i64.wrap z).toNat - 0):Int)>0)=true,ar 0 ((IntKind.i64.wrap z).toNat - 0)=true,decide ((↑((IntKind.i64.wrap z).toNat - 0):Int)>0)=true,decide ((↑((IntKind.i64.wrap z).toNat - 0):Int)>0)=true,decide (c - 1=(IntKind.i64.wrap z).toNat)=true,decide (0≤IntKind.i64.wrap z∧IntKind.i64.wrap z≤(↑(l - 1):Int))=true,decide (c - 1=0)=false,decide (0≤IntKind.i64.wrap z∧IntKind.i64.wrap z≤(↑(c - 1):Int))=true,decide (IntKind.i64.wrap z>(↑(l - 1):Int))=false,xs[off+0+0]?=some (SV.v (Value.int IntKind.u8 z)),true=true,decide (z>8)=false,xs[off+0+0]?=some (SV.v (Value.int IntKind.u8 z)),true=true,decide (c=1)=false,decide ((0:Int)≤1∧1≤(↑l:Int))=true,decide (c=0)=false,decide ((0:Int)≤1∧1≤(↑c:Int))=true,decide (1>(↑l:Int))=false,(!f==0)=false]:=by kernel_rfl
theorem Lx (m f z d n n' i i':Int) (a:Option Addr) (off l c o2 k c2:Nat) (xs:List SV) (o:Option (SO × Bool)):reach aQ 2 400 (cW m (gb off l c f) xs) ([(14,.cells [.v (.int .u8 z)]),(17,.cells [.v (.int .u8 z)]),(27,.cells [.v (.int .u8 d)])]++ff [6,7,9,11,15,18,20] false++ff [22,23,24,26,28,29,30] true++ff [37,38,39] true++[(1000,.b true)]) [(0,0),(1,1)] [1] (fF m 0 (off+1) (IntKind.i64.wrap z).toNat (c - 1) 0) 7 [iy 10,lkB xs]=[0=0,Value.int IntKind.u64 m=Value.int IntKind.u64 m,Value.int IntKind.u64 0=Value.int IntKind.u64 0,off+1+0=off+1∧(IntKind.i64.wrap z).toNat - 0=(IntKind.i64.wrap z).toNat∧some (c - 1 - 0)=some (c - 1),vZ (↑((IntKind.i64.wrap z).toNat - 0):Int)=vZ (↑(IntKind.i64.wrap z).toNat:Int),vZ 0=vZ 0,Value.slice none 0 0=Value.slice none 0 0,vZ 10=vZ 10,xs=xs,xs.all ae=true,(f==0)=true,(f==0)=true,(f==0)=true,(d==0)=true,decide ((↑((IntKind.i64.wrap z).toNat - 0):Int)>0)=true,decide ((↑((IntKind.i64.wrap z).toNat - 0):Int)>0)=true,xs[off+1+0+0]?=some (SV.v (Value.int IntKind.u8 d)),decide ((↑((IntKind.i64.wrap z).toNat - 0):Int)>0)=true,ar 0 ((IntKind.i64.wrap z).toNat - 0)=true,decide ((↑((IntKind.i64.wrap z).toNat - 0):Int)>0)=true,decide ((↑((IntKind.i64.wrap z).toNat - 0):Int)>0)=true,decide (c - 1=(IntKind.i64.wrap z).toNat)=true,decide (0≤IntKind.i64.wrap z∧IntKind.i64.wrap z≤(↑(l - 1):Int))=true,decide (c - 1=0)=false,decide (0≤IntKind.i64.wrap z∧IntKind.i64.wrap z≤(↑(c - 1):Int))=true,decide (IntKind.i64.wrap z>(↑(l - 1):Int))=false,xs[off+0+0]?=some (SV.v (Value.int IntKind.u8 z)),true=true,decide (z>8)=false,xs[off+0+0]?=some (SV.v (Value.int IntKind.u8 z)),true=true,decide (c=1)=false,decide ((0:Int)≤1∧1≤(↑l:Int))=true,decide (c=0)=false,decide ((0:Int)≤1∧1≤(↑c:Int))=true,decide (1>(↑l:Int))=false,(!f==0)=false]:=by kernel_rfl
theorem Ko (m f z d n n' i i':Int) (a:Option Addr) (off l c o2 k c2:Nat) (xs:List SV) (o:Option (SO × Bool)):reach aQ 2 400 (cW m (gb off l c f) xs) ([(14,.cells [.v (.int .u8 z)]),(17,.cells [.v (.int .u8 z)]),(27,.cells [.v (.int .u8 d)])]++ff [6,7,9,11,15,18,20,22] false++ff [23,24,26,28,29] true++ff [30] false++[(1000,.b true)]) [(0,0),(1,1)] [1] (fF m 0 (off+1) (IntKind.i64.wrap z).toNat (c - 1) 0) 7 [gb (off+1+(IntKind.i64.wrap z).toNat) (l - 1 - (IntKind.i64.wrap z).toNat) (c - 1 - (IntKind.i64.wrap z).toNat) f,lkB xs]=[0=0,Value.int IntKind.u64 m=Value.int IntKind.u64 m,Value.int IntKind.u64 0=Value.int IntKind.u64 0,off+1+0=off+1∧(IntKind.i64.wrap z).toNat - 0=(IntKind.i64.wrap z).toNat∧some (c - 1 - 0)=some (c - 1),vZ (↑((IntKind.i64.wrap z).toNat - 0):Int)=vZ (↑(IntKind.i64.wrap z).toNat:Int),vZ 0=vZ 0,off+1+(IntKind.i64.wrap z).toNat*1=off+1+(IntKind.i64.wrap z).toNat∧l - 1 - (IntKind.i64.wrap z).toNat=l - 1 - (IntKind.i64.wrap z).toNat∧some (c - 1 - (IntKind.i64.wrap z).toNat)=some (c - 1 - (IntKind.i64.wrap z).toNat),vZ f=vZ f,xs=xs,xs.all ae=true,(d==0)=false,decide ((↑((IntKind.i64.wrap z).toNat - 0):Int)>0)=true,decide ((↑((IntKind.i64.wrap z).toNat - 0):Int)>0)=true,xs[off+1+0+0]?=some (SV.v (Value.int IntKind.u8 d)),decide ((↑((IntKind.i64.wrap z).toNat - 0):Int)>0)=true,ar 0 ((IntKind.i64.wrap z).toNat - 0)=true,decide ((↑((IntKind.i64.wrap z).toNat - 0):Int)>0)=true,decide ((↑((IntKind.i64.wrap z).toNat - 0):Int)>0)=true,decide (c - 1=(IntKind.i64.wrap z).toNat)=false,decide (0≤IntKind.i64.wrap z∧IntKind.i64.wrap z≤(↑(l - 1):Int))=true,decide (c - 1=0)=false,decide (0≤IntKind.i64.wrap z∧IntKind.i64.wrap z≤(↑(c - 1):Int))=true,decide (IntKind.i64.wrap z>(↑(l - 1):Int))=false,xs[off+0+0]?=some (SV.v (Value.int IntKind.u8 z)),true=true,decide (z>8)=false,xs[off+0+0]?=some (SV.v (Value.int IntKind.u8 z)),true=true,decide (c=1)=false,decide ((0:Int)≤1∧1≤(↑l:Int))=true,decide (c=0)=false,decide ((0:Int)≤1∧1≤(↑c:Int))=true,decide (1>(↑l:Int))=false,(!f==0)=false]:=by kernel_rfl
theorem Kd (m f z d n n' i i':Int) (a:Option Addr) (off l c o2 k c2:Nat) (xs:List SV) (o:Option (SO × Bool)):reach aQ 2 400 (cW m (gb off l c f) xs) ([(14,.cells [.v (.int .u8 z)]),(17,.cells [.v (.int .u8 z)]),(27,.cells [.v (.int .u8 d)])]++ff [6,7,9,11,15,18,20,22] false++ff [23,24,26,28,29,30] true++ff [37,38,39] true++[(1000,.b true)]) [(0,0),(1,1)] [1] (fF m 0 (off+1) (IntKind.i64.wrap z).toNat (c - 1) 0) 7 [iy 10,lkB xs]=[0=0,Value.int IntKind.u64 m=Value.int IntKind.u64 m,Value.int IntKind.u64 0=Value.int IntKind.u64 0,off+1+0=off+1∧(IntKind.i64.wrap z).toNat - 0=(IntKind.i64.wrap z).toNat∧some (c - 1 - 0)=some (c - 1),vZ (↑((IntKind.i64.wrap z).toNat - 0):Int)=vZ (↑(IntKind.i64.wrap z).toNat:Int),vZ 0=vZ 0,Value.slice none 0 0=Value.slice none 0 0,vZ 10=vZ 10,xs=xs,xs.all ae=true,(f==0)=true,(f==0)=true,(f==0)=true,(d==0)=true,decide ((↑((IntKind.i64.wrap z).toNat - 0):Int)>0)=true,decide ((↑((IntKind.i64.wrap z).toNat - 0):Int)>0)=true,xs[off+1+0+0]?=some (SV.v (Value.int IntKind.u8 d)),decide ((↑((IntKind.i64.wrap z).toNat - 0):Int)>0)=true,ar 0 ((IntKind.i64.wrap z).toNat - 0)=true,decide ((↑((IntKind.i64.wrap z).toNat - 0):Int)>0)=true,decide ((↑((IntKind.i64.wrap z).toNat - 0):Int)>0)=true,decide (c - 1=(IntKind.i64.wrap z).toNat)=false,decide (0≤IntKind.i64.wrap z∧IntKind.i64.wrap z≤(↑(l - 1):Int))=true,decide (c - 1=0)=false,decide (0≤IntKind.i64.wrap z∧IntKind.i64.wrap z≤(↑(c - 1):Int))=true,decide (IntKind.i64.wrap z>(↑(l - 1):Int))=false,xs[off+0+0]?=some (SV.v (Value.int IntKind.u8 z)),true=true,decide (z>8)=false,xs[off+0+0]?=some (SV.v (Value.int IntKind.u8 z)),true=true,decide (c=1)=false,decide ((0:Int)≤1∧1≤(↑l:Int))=true,decide (c=0)=false,decide ((0:Int)≤1∧1≤(↑c:Int))=true,decide (1>(↑l:Int))=false,(!f==0)=false]:=by kernel_rfl
theorem nR (m f z d n n' i i':Int) (a:Option Addr) (off l c o2 k c2:Nat) (xs:List SV) (o:Option (SO × Bool)):reach aQ 2 100 (SM.at (fF m n o2 k c2 i) 7 [gb off l c f,lkB xs]) (ff [0] true++[(2,.cells [.v (.int .u8 d)])]++[(1000,.b true)]) [(0,0),(1,1)] [1] (fF m n' o2 k c2 i') 7 [gb off l c f,lkB xs]=[0=0,Value.int IntKind.u64 m=Value.int IntKind.u64 m,Value.int IntKind.u64 (IntKind.u64.wrap (↑(BitVec.ofInt 64 (IntKind.u64.wrap (n*2 ^ 8)) ||| BitVec.ofInt 64 (IntKind.u64.wrap d)).toNat:Int))=Value.int IntKind.u64 n',o2=o2∧k=k∧some c2=some c2,vZ (↑k:Int)=vZ (↑k:Int),vZ (IntKind.i64.wrap (i+1))=vZ i',off=off∧l=l∧some c=some c,vZ f=vZ f,xs=xs,xs.all ae=true,xs[o2+i.toNat*1]?=some (SV.v (Value.int IntKind.u8 d)),ar i k=true,decide (i<(↑k:Int))=true]:=by kernel_rfl
theorem MG (m f z d n n' i i':Int) (a:Option Addr) (off l c o2 k c2:Nat) (xs:List SV) (o:Option (SO × Bool)):reach aQ 2 100 (SM.at (fF m n o2 k c2 i) 7 [iy f,lkB xs]) (ff [0] true++[(2,.cells [.v (.int .u8 d)])]++[(1000,.b true)]) [(0,0),(1,1)] [1] (fF m n' o2 k c2 i') 7 [iy f,lkB xs]=[0=0,Value.int IntKind.u64 m=Value.int IntKind.u64 m,Value.int IntKind.u64 (IntKind.u64.wrap (↑(BitVec.ofInt 64 (IntKind.u64.wrap (n*2 ^ 8)) ||| BitVec.ofInt 64 (IntKind.u64.wrap d)).toNat:Int))=Value.int IntKind.u64 n',o2=o2∧k=k∧some c2=some c2,vZ (↑k:Int)=vZ (↑k:Int),vZ (IntKind.i64.wrap (i+1))=vZ i',Value.slice none 0 0=Value.slice none 0 0,vZ f=vZ f,xs=xs,xs.all ae=true,xs[o2+i.toNat*1]?=some (SV.v (Value.int IntKind.u8 d)),ar i k=true,decide (i<(↑k:Int))=true]:=by kernel_rfl
theorem NR (m f z d n n' i i':Int) (a:Option Addr) (off l c o2 k c2:Nat) (xs:List SV) (o:Option (SO × Bool)):aB aQ 123 400 (SM.at (fF m n o2 k c2 i) 7 [gb off l c f,lkB xs]) (ff [0,1,2] false++[(1000,.b true)]) [(0,0),(1,1)] [1] (.v (.int .u64 n)) [gb off l c f,lkB xs]=[Value.int IntKind.u64 n=Value.int IntKind.u64 n,off=off∧l=l∧some c=some c,vZ f=vZ f,xs=xs,xs.all ae=true,(!f==0)=false,decide (n>m)=false,decide (i<(↑k:Int))=false]:=by kernel_rfl
theorem Nt (m f z d n n' i i':Int) (a:Option Addr) (off l c o2 k c2:Nat) (xs:List SV) (o:Option (SO × Bool)):aB aQ 123 400 (SM.at (fF m n o2 k c2 i) 7 [gb off l c f,lkB xs]) (ff [0] false++ff [1,8,9,10] true++[(1000,.b true)]) [(0,0),(1,1)] [1] (.v (.int .u64 0)) [iy 13,lkB xs]=[Value.int IntKind.u64 0=Value.int IntKind.u64 0,Value.slice none 0 0=Value.slice none 0 0,vZ 13=vZ 13,xs=xs,xs.all ae=true,(f==0)=true,(f==0)=true,(f==0)=true,decide (n>m)=true,decide (i<(↑k:Int))=false]:=by kernel_rfl
theorem OK (m f z d n n' i i':Int) (a:Option Addr) (off l c o2 k c2:Nat) (xs:List SV) (o:Option (SO × Bool)):aB aQ 123 400 (SM.at (fF m n o2 k c2 i) 7 [iy f,lkB xs]) (ff [0,8,9,10] false++ff [1,12] true++[(1000,.b true)]) [(0,0),(1,1)] [1] (.v (.int .u64 0)) [iy f,lkB xs]=[Value.int IntKind.u64 0=Value.int IntKind.u64 0,Value.slice none 0 0=Value.slice none 0 0,vZ f=vZ f,xs=xs,xs.all ae=true,(!f==0)=true,(f==0)=false,(f==0)=false,(f==0)=false,decide (n>m)=true,decide (i<(↑k:Int))=false]:=by kernel_rfl
theorem Mh (m f z d n n' i i':Int) (a:Option Addr) (off l c o2 k c2:Nat) (xs:List SV) (o:Option (SO × Bool)):aB aQ 123 400 (SM.at (fF m n o2 k c2 i) 7 [iy f,lkB xs]) (ff [0,1] false++ff [2] true++[(1000,.b true)]) [(0,0),(1,1)] [1] (.v (.int .u64 0)) [iy f,lkB xs]=[Value.int IntKind.u64 0=Value.int IntKind.u64 0,Value.slice none 0 0=Value.slice none 0 0,vZ f=vZ f,xs=xs,xs.all ae=true,(!f==0)=true,decide (n>m)=false,decide (i<(↑k:Int))=false]:=by kernel_rfl
def valN (ds:List Int):Nat:=ds.foldl (fun n d=>n*256+d.toNat) 0
theorem valN_snoc (ds:List Int) (d:Int):valN (ds++[d])=valN ds*256+d.toNat:=by unfold valN;rw [List.foldl_append];rfl
theorem valN_lt:∀ {n:Nat} {ds:List Int},ds.length=n→(∀ z∈ds,0≤z∧z<256)→valN ds<256 ^ n
 | 0,ds,h,_=>by rw [List.length_eq_zero_iff.1 h];decide
 | n+1,ds,h,hz=>by
  have hne:ds≠[]:=fun e=>by rw [e] at h;cases h
  have hd:=List.dropLast_concat_getLast hne
  generalize hl:ds.getLast hne=x at hd
  have hx:x∈ds:=hl ▸ List.getLast_mem hne
  have h1:=valN_lt (n:=n) (ds:=ds.dropLast) (by rw [List.length_dropLast];omega) fun z hz'=>hz z (List.dropLast_subset _ hz')
  have h2:=hz x hx
  rw [← hd,valN_snoc,Nat.pow_succ]
  omega
def numR (m:Nat):List Int→Nat × Int × List Int
 | []=>(0,11,[])
 | z::t=>if 8<z then (0,10,[]) else if (t.length:Int)<z then (0,11,[]) else if z≠0∧t.head?=some 0 then (0,10,[]) else if m<valN (t.take z.toNat) then (0,13,[]) else (valN (t.take z.toNat),0,t.drop z.toNat)
theorem u64_in {k:Nat} (h:k<18446744073709551616):IntKind.u64.wrap (k:Int)=(k:Int):=by
 rw [show IntKind.u64.wrap (k:Int)=(k:Int) % 18446744073709551616 from rfl];omega
theorem IY {a:Nat} (h:a<18446744073709551616):(BitVec.ofInt 64 (a:Int)).toNat=a:=by
 rw [BitVec.ofInt_natCast,BitVec.toNat_ofNat];omega
theorem LU {n d:Nat} (hn:n<72057594037927936) (hd:d<256):IntKind.u64.wrap (((BitVec.ofInt 64 (IntKind.u64.wrap ((n:Int)*2 ^ 8)) ||| BitVec.ofInt 64 (IntKind.u64.wrap (d:Int))).toNat:Nat):Int)=((n*256+d:Nat):Int):=by
 have e1:IntKind.u64.wrap ((n:Int)*2 ^ 8)=((n*256:Nat):Int):=by
  rw [show ((n:Int)*2 ^ 8)=((n*256:Nat):Int) by omega,u64_in (by omega)]
 have e3:IntKind.u64.wrap (d:Int)=(d:Int):=u64_in (by omega)
 rw [e1,e3,BitVec.toNat_or,IY (by omega),IY (by omega)]
 have e2:n*256 ||| d=n*256+d:=by
  have:=Nat.shiftLeft_add_eq_or_of_lt (i:=8) (b:=d) (by omega) n
  rw [Nat.shiftLeft_eq] at this
  exact this.symm
 rw [e2,u64_in (by omega)]
theorem kj {w:World} {blk off:Nat} {zs:List Int} {cs:Array Value} {e:TypeId} {fz:Nat × Nat} (hh:w.heap[blk]?=some (.cells cs e fz)) (hc:∀ (k:Nat) (v:Value),(zs.map (Value.int .u8))[k]?=some v→cs[off+k]?=some v) (hl:zs.length≤140737488355328):iV w (some ⟨blk,off,none⟩) zs.length zs:=by
 refine ⟨⟨rfl,hl,fun b hb i hi W' hW=>?_⟩,fun h=>by cases h⟩
 cases hb
 have hlt:=(Array.getElem?_eq_some_iff.1 hh).1
 have hcell:∀ k,W'.cell? ⟨blk,k,none⟩=cs[k]?:=fun k=>by
  unfold World.cell?
  rw [hW blk hlt,hh];rfl
 have hadd:(⟨blk,off,none⟩:Addr).add i=⟨blk,off+i,none⟩:=by
  unfold Addr.add
  split
  ·rename_i h;subst h;rfl
  ·rfl
 rw [hadd,hcell]
 have:=hc i (.int .u8 (zs.getD i 0)) (by rw [List.getElem?_map,List.getElem?_eq_getElem hi,List.getD_eq_getElem?_getD,List.getElem?_eq_getElem hi];rfl)
 exact this
theorem lM (w:World) (a:Option Addr):iV w a 0 []:=⟨⟨rfl,Nat.zero_le _,fun b _ i hi=>by omega⟩,fun _=>rfl⟩
structure EyeAt (w:World) (b:Nat) (a:Option Addr) (l c:Nat) (f:Int) (zs:List Int):Prop where
 eye:w.heap[b]?=some (.cells #[.slice a l c,.int .i64 f] 247 (0,0))
 xM:iV w a l zs
 cap:l≤c
 far:∀ ad,a=some ad→ad.block≠b
 oE:∀ z∈zs,0≤z∧z<256
end eye
end paths
end Go.Proofs.YtcbokmadfcedaaaGreatDoor
set_option linter.unusedSimpArgs false
set_option linter.unusedVariables false
set_option maxRecDepth 100000
namespace Go.Proofs.YtcbokmadfcedaaaGreatDoor
open Go Go.Rx Go.RowKit Go.Proofs
namespace paths
namespace eye
open crc (bC bC_len bC_closed b_at cells_obj)
theorem iT {l0:List (Nat × Nat)} {os:List (SO × Bool)} {T:Nat→Prop} {W w':World} {H:Hp} {ν':aA} (hk:gl (mo l0 os T) W H (az l0 os) W) (hex:∃ M1 w1 s',bk (az l0 os) W M1 w1∧HR ν' M1 w1 s' w'):Alt (mo l0 os T).m W w':=by
 obtain ⟨M1,w1,s',hB,hr⟩:=hex
 exact GS (hk.base.trans hB) hr
theorem tF {b:Nat} {l0:List (Nat × Nat)} {so:SO} {os:List (SO × Bool)} (ho:∀ x∈os,x.2=false) {k:Nat} (h:(mo ((b,0)::l0) ((so,true)::os) fun _=>False) k):k=b:=by
 rcases h with ⟨i,o,c,h1,h2⟩ | h
 ·cases i with
  | zero=>simp at h2;exact h2.1.symm
  | succ i=>
   simp only [List.getElem?_cons_succ] at h1
   have:=ho _ (List.mem_of_getElem? h1)
   cases this
 ·exact h.elim
theorem pX {ν:aA} {blk off l c:Nat} {f:Int} {ob:Obj} {cc:Nat} (h1:ν 1=some (blk,cc)) (h:OR ν 0 (.row [.sl 1 off l (some c),.v (.int .i64 f)] 247 (0,0) none) ob):ob=.cells #[.slice (some ⟨blk,off,none⟩) l c,.int .i64 f] 247 (0,0):=by
 obtain ⟨ys,rest,rfl,hv,hx⟩:=h
 have hlen:=hv.length
 have hx:(ys++rest).length=2:=hx
 obtain ⟨y1,ys1,rfl,q1,hv⟩:=hv.cons_inv
 obtain ⟨y2,ys2,rfl,q2,hv⟩:=hv.cons_inv
 obtain rfl:=hv.aq
 obtain rfl:rest=[]:=List.length_eq_zero_iff.1 (by simpa using hx)
 obtain ⟨b',hb',_,rfl⟩:=VR.ay.1 q1
 rw [h1] at hb';cases hb'
 obtain rfl:=VR.ab.1 q2
 rfl
theorem ic {ν:aA} {v:Value} {f:Int} {ob:Obj} (h:OR ν 0 (.row [.v v,.v (.int .i64 f)] 247 (0,0) none) ob):ob=.cells #[v,.int .i64 f] 247 (0,0):=by
 obtain ⟨ys,rest,rfl,hv,hx⟩:=h
 have hx:(ys++rest).length=2:=hx
 obtain ⟨y1,ys1,rfl,q1,hv⟩:=hv.cons_inv
 obtain ⟨y2,ys2,rfl,q2,hv⟩:=hv.cons_inv
 obtain rfl:=hv.aq
 obtain rfl:rest=[]:=List.length_eq_zero_iff.1 (by simpa using hx)
 obtain rfl:=VR.ab.1 q1
 obtain rfl:=VR.ab.1 q2
 rfl
def advA (a:Option Addr) (c k:Nat):Option Addr:=a.map fun ad=>⟨ad.block,if c=1 then ad.off else if c - 1=k then ad.off+1 else ad.off+1+k,none⟩
def numTo (m:Nat) (a:Option Addr) (l c:Nat):List Int→Option Addr × Nat × Nat
 | []=>(none,0,0)
 | z::t=>if (numR m (z::t)).2.1=0 then (advA a c z.toNat,l - 1 - z.toNat,c - 1 - z.toNat) else (none,0,0)
def RNum (W:World) (b m:Nat) (a:Option Addr) (l c:Nat) (f:Int) (zs:List Int) (e:Ending) (w':World):Prop:=Alt (·=b) W w'∧∃ (n:Nat) (f':Int) (zs':List Int) (a':Option Addr) (l' c':Nat),e=.returned (.int .u64 n)∧EyeAt w' b a' l' c' f' zs'∧((f≠0∧n=0∧f'=f∧zs'=zs∧(a',l',c')=(a,l,c))∨(f=0∧numR m zs=(n,f',zs')∧(a',l',c')=numTo m a l c zs))
theorem Fi {W w':World} {a:Option Addr} {l b:Nat} {zs:List Int} (h:iV W a l zs) (hA:Alt (·=b) W w') (hf:∀ ad,a=some ad→ad.block≠b):iV w' a l zs:=by
 by_cases hl:l=0
 ·subst hl
  have:zs=[]:=List.length_eq_zero_iff.1 h.1.1
  subst this
  exact lM _ _
 ·cases a with
  | none=>exact absurd (h.2 rfl) hl
  | some ad=>
   obtain ⟨cs,e,fz,hb,hh,hoff,hc⟩:=cells_obj h.1 (by omega)
   have hlt:=(Array.getElem?_eq_some_iff.1 hh).1
   have:=kj (w:=w') (zs:=zs) ((hA.block _ hlt (hf ad rfl)).trans hh) hc (by rw [h.1.1];exact h.1.2.1)
   rw [h.1.1,← hb] at this
   exact this
theorem EyeAt.told {W:World} {b:Nat} {a:Option Addr} {l c:Nat} {f:Int} {zs:List Int} (h:EyeAt W b a l c f zs):∀ (i:Nat) (o:SO) (m:Bool) (b' c':Nat),[(SO.row [.v (.slice a l c),.v (.int .i64 f)] 247 (0,0) none,true)][i]?=some (o,m)→[(b,0)][i]?=some (b',c')→∃ r,W.heap[b']?=some r∧OR (ax [(b,0)]) i o r:=by
 intro i o m b' c' q1 q2
 match i with
 | 0=>
  simp only [List.getElem?_cons_zero,Option.some.injEq] at q1 q2
  cases q1
  cases q2
  exact ⟨_,h.eye,[.slice a l c,.int .i64 f],[],rfl,aj.cons (VR.ab.2 rfl) (aj.cons (VR.ab.2 rfl) aj.nil),rfl⟩
 | i+1=>simp at q1
theorem r7 {W:World} {b:Nat} {a:Option Addr} {l c m:Nat} {f:Int} {zs:List Int} (h:EyeAt W b a l c f zs) {o:List (Nat × c9)} {v:Value} {f':Int}
  (hrun:cp (aB aQ 123 400 (kW m (En a l c f)) o [(0,0)] [] (.v (.int .u64 0)) [some (.row [.v v,.v (.int .i64 f')] 247 (0,0) none,true)]))
  (hR:∀ w',Alt (·=b) W w'→w'.heap[b]?=some (.cells #[v,.int .i64 f'] 247 (0,0))→RNum W b m a l c f zs (.returned (.int .u64 0)) w'):
  Calls Tryz.prog 123 #[.pointer (some ⟨b,0,none⟩),.int .u64 m] W (RNum W b m a l c f zs):=by
 refine cZ (E:=aQ) rfl (d:=6) (l:=[(b,0)]) (os:=[(.row [.v (.slice a l c),.v (.int .i64 f)] 247 (0,0) none,true)]) (H:=fun _=>none) (T:=fun _=>False) rfl (by simp) (by simp) h.told (fun g i hg=>by cases hg) (fun _ _ hh=>by cases hh) (fun _ _ _ _ _ hh=>by cases hh)
  (args:=[.ptr 0 0,.v (.int .u64 m)]) (a:=[.pointer (some ⟨b,0,none⟩),.int .u64 m]) (S0:=kW m (En a l c f)) (by kernel_rfl) (aj.cons (VR.aw.2 ⟨(b,0),rfl,rfl⟩) (aj.cons (VR.ab.2 rfl) aj.nil)) fun cs0 hk=>?_
 refine ao.aB kR hrun.out fun ν' w' y hle hv hE hex=>?_
 obtain rfl:=VR.ab.1 hv
 have hA:=(iT hk hex).mono (T':=(·=b)) fun k _ hk'=>tF (fun x hx=>by cases hx) hk'
 obtain ⟨b',ob,hb',hob,hor,_⟩:=hE.obj 0 _ _ rfl
 have mI:(ν'.ren [(0,0)]) 0=some (b,0):=hle 0 (b,0) rfl
 rw [mI] at hb';cases hb'
 rw [ic hor] at hob
 exact hR w' hA hob
def Ia (off l c:Nat) (f:Int):SO:=.row [.sl 1 off l (some c),.v (.int .i64 f)] 247 (0,0) none
section
variable {W:World} {b blk:Nat} {m:Nat} {ra:Option Addr} {rl rc:Nat} {f:Int} {zs:List Int} {xs:List SV} {cs0:List Frame} {off0 l0 c0:Nat} {f0:Int} {H:Hp}
theorem fG {M:Own} {S:SM} {k:Nat} {o:List (Nat × c9)} {n:Int} {so':SO} {os:List (SO × Bool)} (hM:M=az [(b,0),(blk,0)] os) (hos:∀ x∈os.tail,x.2=false) (hk:gl (mo [(b,0),(blk,0)] os fun _=>False) W H M W) (hne:os≠[])
  (hrun:cp (aB aQ 123 k S o [(0,0),(1,1)] [1] (.v (.int .u64 n)) [some (so',true),lkB xs]))
  (hR:∀ w' (ν:aA) ob,ν 0=some (b,0)→ν 1=some (blk,0)→Alt (·=b) W w'→w'.heap[b]?=some ob→OR ν 0 so' ob→RNum W b m ra rl rc f zs (.returned (.int .u64 n)) w'):ao aQ M W cs0 123 (RNum W b m ra rl rc f zs) (ax [(b,0),(blk,0)]) S:=by
 subst hM
 refine ao.aB kR hrun.out fun ν' w' y hle hv hE hex=>?_
 obtain rfl:=VR.ab.1 hv
 have hA:=(iT hk hex).mono (T':=(·=b)) fun k _ hk'=>by
  rcases hk' with ⟨i,o,c,h1,h2⟩ | h
  ·cases i with
   | zero=>simp at h2;exact h2.1.symm
   | succ i=>
    have:os.tail[i]?=some (o,true):=by rw [List.getElem?_tail];exact h1
    have:=hos _ (List.mem_of_getElem? this)
    cases this
  ·exact h.elim
 obtain ⟨b',ob,hb',hob,hor,_⟩:=hE.obj 0 _ _ rfl
 have mI:(ν'.ren [(0,0),(1,1)]) 0=some (b,0):=hle 0 (b,0) rfl
 have hb1:(ν'.ren [(0,0),(1,1)]) 1=some (blk,0):=hle 1 (blk,0) rfl
 rw [mI] at hb';cases hb'
 exact hR w' _ ob mI hb1 hA hob hor
theorem ν2 {i:Nat} {x:Nat × Nat} (h:ax [(b,0),(blk,0)] i=some x):([(0,0),(1,1)]:List (Nat × Nat)).lookup i=some i:=by
 match i with
 | 0=>rfl
 | 1=>rfl
 | i+2=>simp [ax] at h
theorem Hs {m n i:Int} {o2 k c2 off l c:Nat} (hcl:xs.all ae=true) (t0:decide (i<(k:Int))=false) (t1:decide (n>m)=true):cp (aB aQ 123 400 (SM.at (fF m n o2 k c2 i) 7 [gb off l c 0,lkB xs]) (ff [0] false++ff [1,8,9,10] true++[(1000,.b true)]) [(0,0),(1,1)] [1] (.v (.int .u64 0)) [iy 13,lkB xs]):=
 ⟨by rw [Nt (f:=0) (z:=0) (d:=0) (n':=0) (i':=0) (a:=none) (o:=none)];simp only [af,t0,t1,hcl,and_self,and_true,true_and];first | done | decide⟩
theorem Hv {m n i:Int} {o2 k c2 off l c:Nat} (hcl:xs.all ae=true) (t0:decide (i<(k:Int))=false) (t1:decide (n>m)=false):cp (aB aQ 123 400 (SM.at (fF m n o2 k c2 i) 7 [gb off l c 0,lkB xs]) (ff [0,1,2] false++[(1000,.b true)]) [(0,0),(1,1)] [1] (.v (.int .u64 n)) [gb off l c 0,lkB xs]):=
 ⟨by rw [NR (f:=0) (z:=0) (d:=0) (n':=0) (i':=0) (a:=none) (o:=none)];simp only [af,t0,t1,hcl,and_self,and_true,true_and];first | done | decide⟩
theorem rb {M:Own} {os:List (SO × Bool)} (hM:M=az [(b,0),(blk,0)] os) (hos:∀ x∈os.tail,x.2=false) (hk:gl (mo [(b,0),(blk,0)] os fun _=>False) W H M W) (hne:os≠[]) {ds:List Int} {o2 c2 off l c:Nat} (dF:ds.length≤8) (hm:m<18446744073709551616) (hd:∀ z∈ds,0≤z∧z<256) (hx:∀ (i:Nat) (d:Int),ds[i]?=some d→xs[o2+i*1]?=some (.v (.int .u8 d))) (hcl:xs.all ae=true)
  (hR0:m<valN ds→∀ w' (ν:aA) ob,ν 0=some (b,0)→ν 1=some (blk,0)→Alt (·=b) W w'→w'.heap[b]?=some ob→OR ν 0 (.row [.v (.slice none 0 0),.v (.int .i64 13)] 247 (0,0) none) ob→RNum W b m ra rl rc f zs (.returned (.int .u64 0)) w')
  (hR1:¬ m<valN ds→∀ w' (ν:aA) ob,ν 0=some (b,0)→ν 1=some (blk,0)→Alt (·=b) W w'→w'.heap[b]?=some ob→OR ν 0 (Ia off l c 0) ob→RNum W b m ra rl rc f zs (.returned (.int .u64 (valN ds))) w'):∀ (j i:Nat),i+j=ds.length→
  ao aQ M W cs0 123 (RNum W b m ra rl rc f zs) (ax [(b,0),(blk,0)]) (SM.at (fF m (valN (ds.take i)) o2 ds.length c2 (i:Int)) 7 [gb off l c 0,lkB xs])
 | 0,i,hj=>by
  have t0:decide ((i:Int)<(ds.length:Int))=false:=decide_eq_false (by omega)
  rw [List.take_of_length_le (by omega)]
  by_cases hv:m<valN ds
  ·exact fG hM hos hk hne (Hs hcl t0 (decide_eq_true (by omega))) (hR0 hv)
  ·exact fG hM hos hk hne (Hv hcl t0 (decide_eq_false (by omega))) (hR1 hv)
 | j+1,i,hj=>by
  have hi:i<ds.length:=by omega
  have nx:=rb (c2:=c2) hM hos hk hne dF hm hd hx hcl hR0 hR1 j (i+1) (by omega)
  have hq:ds[i]?=some ds[i]:=List.getElem?_eq_getElem hi
  have hdi:=hd _ (List.getElem_mem hi)
  have hxi:=hx i _ hq
  have hlt:valN (ds.take i)<256 ^ 7:=Nat.lt_of_lt_of_le (valN_lt (n:=i) (by rw [List.length_take];omega) fun z hz=>hd z (List.mem_of_mem_take hz)) (Nat.pow_le_pow_right (by decide) (by omega))
  rw [List.take_succ_eq_append_getElem hi,valN_snoc] at nx
  generalize ds[i]=d at hdi hxi nx
  obtain ⟨y,rfl⟩:∃ y:Nat,d=y:=⟨d.toNat,by omega⟩
  rw [Int.toNat_natCast] at nx
  have t0:decide ((i:Int)<(ds.length:Int))=true:=decide_eq_true (by omega)
  have r1:=bY hi
  have ws:=cL (k:=i) (by omega)
  have ow:=LU (n:=valN (ds.take i)) (d:=y) (by simpa using hlt) (by omega)
  refine ao.reach kR (k:=2) (n:=100) (o:=ff [0] true++[(2,.cells [.v (.int .u8 (y:Int))])]++[(1000,.b true)]) (ren:=[(0,0),(1,1)]) (eqs:=[1]) ?_ (by kernel_rfl) (fun i b h=>ν2 h) nx
  rw [nR (z:=0) (a:=none) (o:=none)]
  simp only [af,t0,r1,ws,ow,hcl,Int.toNat_natCast,hxi,and_self,and_true,true_and]
  first | done | decide | skip
end
section
variable {W:World} {b blk:Nat} {m:Nat} {ra:Option Addr} {rl rc:Nat} {f:Int} {zs:List Int} {xs:List SV} {cs0:List Frame} {H:Hp}
theorem Hd {m n i g:Int} {o2 k c2:Nat} (hg:g≠0) (hcl:xs.all ae=true) (t0:decide (i<(k:Int))=false) (t1:decide (n>m)=true):cp (aB aQ 123 400 (SM.at (fF m n o2 k c2 i) 7 [iy g,lkB xs]) (ff [0,8,9,10] false++ff [1,12] true++[(1000,.b true)]) [(0,0),(1,1)] [1] (.v (.int .u64 0)) [iy g,lkB xs]):=by
 have e1:(g==(0:Int))=false:=by simpa using hg
 exact ⟨by rw [OK (off:=0) (l:=0) (c:=0) (z:=0) (d:=0) (n':=0) (i':=0) (a:=none) (o:=none)];simp only [af,e1,t0,t1,hcl,Bool.not_false,and_self,and_true,true_and];first | done | decide⟩
theorem HD {m n i g:Int} {o2 k c2:Nat} (hg:g≠0) (hcl:xs.all ae=true) (t0:decide (i<(k:Int))=false) (t1:decide (n>m)=false):cp (aB aQ 123 400 (SM.at (fF m n o2 k c2 i) 7 [iy g,lkB xs]) (ff [0,1] false++ff [2] true++[(1000,.b true)]) [(0,0),(1,1)] [1] (.v (.int .u64 0)) [iy g,lkB xs]):=by
 have e1:(g==(0:Int))=false:=by simpa using hg
 exact ⟨by rw [Mh (off:=0) (l:=0) (c:=0) (z:=0) (d:=0) (n':=0) (i':=0) (a:=none) (o:=none)];simp only [af,e1,t0,t1,hcl,Bool.not_false,and_self,and_true,true_and];first | done | decide⟩
theorem F1 {M:Own} {os:List (SO × Bool)} (hM:M=az [(b,0),(blk,0)] os) (hos:∀ x∈os.tail,x.2=false) (hk:gl (mo [(b,0),(blk,0)] os fun _=>False) W H M W) (hne:os≠[]) {ds:List Int} {o2 c2:Nat} {g:Int} (hg:g≠0) (dF:ds.length≤8) (hd:∀ z∈ds,0≤z∧z<256) (hx:∀ (i:Nat) (d:Int),ds[i]?=some d→xs[o2+i*1]?=some (.v (.int .u8 d))) (hcl:xs.all ae=true)
  (hR:∀ w' (ν:aA) ob,ν 0=some (b,0)→ν 1=some (blk,0)→Alt (·=b) W w'→w'.heap[b]?=some ob→OR ν 0 (.row [.v (.slice none 0 0),.v (.int .i64 g)] 247 (0,0) none) ob→RNum W b m ra rl rc f zs (.returned (.int .u64 0)) w'):∀ (j i:Nat),i+j=ds.length→
  ao aQ M W cs0 123 (RNum W b m ra rl rc f zs) (ax [(b,0),(blk,0)]) (SM.at (fF m (valN (ds.take i)) o2 ds.length c2 (i:Int)) 7 [iy g,lkB xs])
 | 0,i,hj=>by
  have t0:decide ((i:Int)<(ds.length:Int))=false:=decide_eq_false (by omega)
  rw [List.take_of_length_le (by omega)]
  by_cases hv:m<valN ds
  ·exact fG hM hos hk hne (Hd hg hcl t0 (decide_eq_true (by omega))) hR
  ·exact fG hM hos hk hne (HD hg hcl t0 (decide_eq_false (by omega))) hR
 | j+1,i,hj=>by
  have hi:i<ds.length:=by omega
  have nx:=F1 (c2:=c2) hM hos hk hne hg dF hd hx hcl hR j (i+1) (by omega)
  have hq:ds[i]?=some ds[i]:=List.getElem?_eq_getElem hi
  have hdi:=hd _ (List.getElem_mem hi)
  have hxi:=hx i _ hq
  have hlt:valN (ds.take i)<256 ^ 7:=Nat.lt_of_lt_of_le (valN_lt (n:=i) (by rw [List.length_take];omega) fun z hz=>hd z (List.mem_of_mem_take hz)) (Nat.pow_le_pow_right (by decide) (by omega))
  rw [List.take_succ_eq_append_getElem hi,valN_snoc] at nx
  generalize ds[i]=d at hdi hxi nx
  obtain ⟨y,rfl⟩:∃ y:Nat,d=y:=⟨d.toNat,by omega⟩
  rw [Int.toNat_natCast] at nx
  have t0:decide ((i:Int)<(ds.length:Int))=true:=decide_eq_true (by omega)
  have r1:=bY hi
  have ws:=cL (k:=i) (by omega)
  have ow:=LU (n:=valN (ds.take i)) (d:=y) (by simpa using hlt) (by omega)
  refine ao.reach kR (k:=2) (n:=100) (o:=ff [0] true++[(2,.cells [.v (.int .u8 (y:Int))])]++[(1000,.b true)]) (ren:=[(0,0),(1,1)]) (eqs:=[1]) ?_ (by kernel_rfl) (fun i b h=>ν2 h) nx
  rw [MG (off:=0) (l:=0) (c:=0) (z:=0) (a:=none) (o:=none)]
  simp only [af,t0,r1,ws,ow,hcl,Int.toNat_natCast,hxi,and_self,and_true,true_and]
  first | done | decide | skip
end
end eye
end paths
end Go.Proofs.YtcbokmadfcedaaaGreatDoor
set_option linter.unusedSimpArgs false
set_option linter.unusedVariables false
set_option maxRecDepth 100000
namespace Go.Proofs.YtcbokmadfcedaaaGreatDoor
open Go Go.Rx Go.RowKit Go.Proofs
namespace paths
namespace eye
open crc (bC bC_len bC_closed b_at cells_obj bC_flat)
theorem zO {m f:Int} {a:Option Addr} {l c:Nat} (hf:f≠0):cp (aB aQ 123 400 (kW m (En a l c f)) (ff [6] true++[(1000,.b true)]) [(0,0)] [] (.v (.int .u64 0)) [En a l c f]):=by
 have e1:(f==(0:Int))=false:=by simpa using hf
 exact ⟨by rw [NC (off:=0) (z:=0) (d:=0) (n:=0) (n':=0) (i:=0) (i':=0) (o2:=0) (k:=0) (c2:=0) (xs:=[]) (o:=none)];simp only [af,e1,Bool.not_false,and_self,and_true,true_and]⟩
theorem Hx {m:Int} {a:Option Addr} {c:Nat}:cp (aB aQ 123 400 (kW m (En a 0 c 0)) (ff [6] false++ff [14,15,16] true++[(1000,.b true)]) [(0,0)] [] (.v (.int .u64 0)) [iy 11]):=
 ⟨by rw [nB (f:=0) (off:=0) (l:=0) (z:=0) (d:=0) (n:=0) (n':=0) (i:=0) (i':=0) (o2:=0) (k:=0) (c2:=0) (xs:=[]) (o:=none)];simp only [af,and_self,and_true,true_and];first | done | decide⟩
section
variable {xs:List SV} {m z d:Int} {off l c:Nat}
theorem wz {z:Int} (h:0≤z∧z<256):IntKind.i64.wrap z=z:=IntWalk.i64_in _ (by omega)
theorem Eg (hcl:xs.all ae=true) (hl:0<l) (hc:c=1) (hlc:l≤c) (hz:8<z) (h0:xs[off+0+0]?=some (.v (.int .u8 z))):cp (aB aQ 123 400 (cW m (gb off l c 0) xs) ([(14,.cells [.v (.int .u8 z)]),(17,.cells [.v (.int .u8 z)])]++ff [6,7,9] false++ff [11,15,22,23,24] true++[(1000,.b true)]) [(0,0),(1,1)] [1] (.v (.int .u64 0)) [iy 10,lkB xs]):=by
 refine ⟨?_⟩
 rw [LY (f:=0) (d:=0) (n:=0) (n':=0) (i:=0) (i':=0) (a:=none) (o2:=0) (k:=0) (c2:=0) (o:=none)]
 have t1:decide ((1:Int)>(l:Int))=false:=decide_eq_false (by omega)
 have t2:decide ((0:Int)≤(1:Int)∧(1:Int)≤(c:Int))=true:=decide_eq_true ⟨by omega,by omega⟩
 have t3:decide (c=(0:Nat))=false:=decide_eq_false (by omega)
 have t4:decide ((0:Int)≤(1:Int)∧(1:Int)≤(l:Int))=true:=decide_eq_true ⟨by omega,by omega⟩
 have t5:decide (c=(1:Nat))=true:=decide_eq_true hc
 have t6:decide (z>(8:Int))=true:=decide_eq_true hz
 simp only [af,hcl,t1,t2,t3,t4,t5,t6,h0,and_self,and_true,true_and]
 first | done | decide
theorem Et (hcl:xs.all ae=true) (hl:0<l) (hc:c≠1) (hlc:l≤c) (hz:8<z) (h0:xs[off+0+0]?=some (.v (.int .u8 z))):cp (aB aQ 123 400 (cW m (gb off l c 0) xs) ([(14,.cells [.v (.int .u8 z)]),(17,.cells [.v (.int .u8 z)])]++ff [6,7,9,11] false++ff [15,22,23,24] true++[(1000,.b true)]) [(0,0),(1,1)] [1] (.v (.int .u64 0)) [iy 10,lkB xs]):=by
 refine ⟨?_⟩
 rw [L4 (f:=0) (d:=0) (n:=0) (n':=0) (i:=0) (i':=0) (a:=none) (o2:=0) (k:=0) (c2:=0) (o:=none)]
 have t1:decide ((1:Int)>(l:Int))=false:=decide_eq_false (by omega)
 have t2:decide ((0:Int)≤(1:Int)∧(1:Int)≤(c:Int))=true:=decide_eq_true ⟨by omega,by omega⟩
 have t3:decide (c=(0:Nat))=false:=decide_eq_false (by omega)
 have t4:decide ((0:Int)≤(1:Int)∧(1:Int)≤(l:Int))=true:=decide_eq_true ⟨by omega,by omega⟩
 have t5:decide (c=(1:Nat))=false:=decide_eq_false hc
 have t6:decide (z>(8:Int))=true:=decide_eq_true hz
 simp only [af,hcl,t1,t2,t3,t4,t5,t6,h0,and_self,and_true,true_and]
 first | done | decide
theorem Ff (hm:0≤m) (hcl:xs.all ae=true) (hl:0<l) (hc:c=1) (hlc:l≤c) (hz:0≤z∧z≤8) (he:((l - 1:Nat):Int)<z) (h0:xs[off+0+0]?=some (.v (.int .u8 z))):cp (aB aQ 123 400 (cW m (gb off l c 0) xs) ([(14,.cells [.v (.int .u8 z)]),(17,.cells [.v (.int .u8 z)])]++ff [6,7,9,15,36] false++ff [11,18,25,26,27] true++[(1000,.b true)]) [(0,0),(1,1)] [1] (.v (.int .u64 0)) [iy 11,lkB xs]):=by
 refine ⟨?_⟩
 rw [Nc (f:=0) (d:=0) (n:=0) (n':=0) (i:=0) (i':=0) (a:=none) (o2:=0) (k:=0) (c2:=0) (o:=none)]
 have t1:decide ((1:Int)>(l:Int))=false:=decide_eq_false (by omega)
 have t2:decide ((0:Int)≤(1:Int)∧(1:Int)≤(c:Int))=true:=decide_eq_true ⟨by omega,by omega⟩
 have t3:decide (c=(0:Nat))=false:=decide_eq_false (by omega)
 have t4:decide ((0:Int)≤(1:Int)∧(1:Int)≤(l:Int))=true:=decide_eq_true ⟨by omega,by omega⟩
 have t5:decide (c=(1:Nat))=true:=decide_eq_true hc
 have t6:decide (z>(8:Int))=false:=decide_eq_false (by omega)
 have t7:decide (IntKind.i64.wrap z>((l - (1:Nat):Nat):Int))=true:=decide_eq_true (by rw [wz ⟨hz.1,by omega⟩];exact he)
 have t8:decide ((0:Int)>m)=false:=decide_eq_false (by omega)
 simp only [af,hcl,t1,t2,t3,t4,t5,t6,t7,t8,h0,and_self,and_true,true_and]
 first | done | decide
theorem DX (hm:0≤m) (hcl:xs.all ae=true) (hl:0<l) (hc:c≠1) (hlc:l≤c) (hz:0≤z∧z≤8) (he:((l - 1:Nat):Int)<z) (h0:xs[off+0+0]?=some (.v (.int .u8 z))):cp (aB aQ 123 400 (cW m (gb off l c 0) xs) ([(14,.cells [.v (.int .u8 z)]),(17,.cells [.v (.int .u8 z)])]++ff [6,7,9,11,15,36] false++ff [18,25,26,27] true++[(1000,.b true)]) [(0,0),(1,1)] [1] (.v (.int .u64 0)) [iy 11,lkB xs]):=by
 refine ⟨?_⟩
 rw [NA (f:=0) (d:=0) (n:=0) (n':=0) (i:=0) (i':=0) (a:=none) (o2:=0) (k:=0) (c2:=0) (o:=none)]
 have t1:decide ((1:Int)>(l:Int))=false:=decide_eq_false (by omega)
 have t2:decide ((0:Int)≤(1:Int)∧(1:Int)≤(c:Int))=true:=decide_eq_true ⟨by omega,by omega⟩
 have t3:decide (c=(0:Nat))=false:=decide_eq_false (by omega)
 have t4:decide ((0:Int)≤(1:Int)∧(1:Int)≤(l:Int))=true:=decide_eq_true ⟨by omega,by omega⟩
 have t5:decide (c=(1:Nat))=false:=decide_eq_false hc
 have t6:decide (z>(8:Int))=false:=decide_eq_false (by omega)
 have t7:decide (IntKind.i64.wrap z>((l - (1:Nat):Nat):Int))=true:=decide_eq_true (by rw [wz ⟨hz.1,by omega⟩];exact he)
 have t8:decide ((0:Int)>m)=false:=decide_eq_false (by omega)
 simp only [af,hcl,t1,t2,t3,t4,t5,t6,t7,t8,h0,and_self,and_true,true_and]
 first | done | decide
end
end eye
end paths
end Go.Proofs.YtcbokmadfcedaaaGreatDoor
set_option linter.unusedSimpArgs false
set_option linter.unusedVariables false
set_option maxRecDepth 100000
namespace Go.Proofs.YtcbokmadfcedaaaGreatDoor
open Go Go.Rx Go.RowKit Go.Proofs
namespace paths
namespace eye
section
variable {xs:List SV} {m d:Int} {off l c k:Nat}
theorem Fj (hcl:xs.all ae=true) (hl:0<l) (hlc:l≤c) (h8:k≤8) (hkl:k≤l - 1) (h0:xs[off+0+0]?=some (.v (.int .u8 (k:Int)))) (hc:c=1) (hk:k=0):cp (reach aQ 2 400 (cW m (gb off l c 0) xs) ([(14,.cells [.v (.int .u8 (k:Int))]),(17,.cells [.v (.int .u8 (k:Int))])]++ff [6,7,9,15,18,23,24,25,26,27] false++ff [11,20,22] true++[(1000,.b true)]) [(0,0),(1,1)] [1] (fF m 0 off k (c - 1) 0) 7 [gb off (l - 1 - k) (c - 1 - k) 0,lkB xs]):=by
 have e:IntKind.i64.wrap (k:Int)=(k:Int):=wz ⟨by omega,by omega⟩
 have q:=Mt m 0 (k:Int) 0 0 0 0 0 none off l c 0 0 0 xs none
 rw [e,Int.toNat_natCast] at q
 refine ⟨?_⟩
 rw [q]
 have t1:decide ((1:Int)>(l:Int))=false:=decide_eq_false (by omega)
 have t2:decide ((0:Int)≤(1:Int)∧(1:Int)≤(c:Int))=true:=decide_eq_true (⟨by omega,by omega⟩)
 have t3:decide (c=(0:Nat))=false:=decide_eq_false (by omega)
 have t4:decide ((0:Int)≤(1:Int)∧(1:Int)≤(l:Int))=true:=decide_eq_true (⟨by omega,by omega⟩)
 have t5:decide (c=(1:Nat))=true:=decide_eq_true (hc)
 have t6:decide ((k:Int)>(8:Int))=false:=decide_eq_false (by omega)
 have t7:decide ((k:Int)>((l - (1:Nat):Nat):Int))=false:=decide_eq_false (by omega)
 have t8:decide ((0:Int)≤(k:Int)∧(k:Int)≤((c - (1:Nat):Nat):Int))=true:=decide_eq_true (⟨by omega,by omega⟩)
 have t9:decide (c - (1:Nat)=(0:Nat))=true:=decide_eq_true (by omega)
 have ta:decide ((0:Int)≤(k:Int)∧(k:Int)≤((l - (1:Nat):Nat):Int))=true:=decide_eq_true (⟨by omega,by omega⟩)
 have tb:decide (c - (1:Nat)=k)=true:=decide_eq_true (by omega)
 have tc:decide (((k - (0:Nat):Nat):Int)>(0:Int))=false:=decide_eq_false (by omega)
 simp only [af,hcl,t1,t2,t3,t4,t5,t6,t7,t8,t9,ta,tb,tc,h0,and_self,and_true,true_and]
 simp only [Nat.sub_zero,Nat.add_zero,Nat.mul_one,and_self,and_true,true_and]
 try (repeat' apply And.intro)
 all_goals first | rfl | decide | omega | skip
theorem Ez (hcl:xs.all ae=true) (hl:0<l) (hlc:l≤c) (h8:k≤8) (hkl:k≤l - 1) (h0:xs[off+0+0]?=some (.v (.int .u8 (k:Int)))) (hc:c≠1) (hr:c - 1≠k) (hk:k=0):cp (reach aQ 2 400 (cW m (gb off l c 0) xs) ([(14,.cells [.v (.int .u8 (k:Int))]),(17,.cells [.v (.int .u8 (k:Int))])]++ff [6,7,9,11,15,18,20,22,23,24,25,26,27] false++[(1000,.b true)]) [(0,0),(1,1)] [1] (fF m 0 (off+1) k (c - 1) 0) 7 [gb (off+1+k) (l - 1 - k) (c - 1 - k) 0,lkB xs]):=by
 have e:IntKind.i64.wrap (k:Int)=(k:Int):=wz ⟨by omega,by omega⟩
 have q:=OJ m 0 (k:Int) 0 0 0 0 0 none off l c 0 0 0 xs none
 rw [e,Int.toNat_natCast] at q
 refine ⟨?_⟩
 rw [q]
 have t1:decide ((1:Int)>(l:Int))=false:=decide_eq_false (by omega)
 have t2:decide ((0:Int)≤(1:Int)∧(1:Int)≤(c:Int))=true:=decide_eq_true (⟨by omega,by omega⟩)
 have t3:decide (c=(0:Nat))=false:=decide_eq_false (by omega)
 have t4:decide ((0:Int)≤(1:Int)∧(1:Int)≤(l:Int))=true:=decide_eq_true (⟨by omega,by omega⟩)
 have t5:decide (c=(1:Nat))=false:=decide_eq_false (hc)
 have t6:decide ((k:Int)>(8:Int))=false:=decide_eq_false (by omega)
 have t7:decide ((k:Int)>((l - (1:Nat):Nat):Int))=false:=decide_eq_false (by omega)
 have t8:decide ((0:Int)≤(k:Int)∧(k:Int)≤((c - (1:Nat):Nat):Int))=true:=decide_eq_true (⟨by omega,by omega⟩)
 have t9:decide (c - (1:Nat)=(0:Nat))=false:=decide_eq_false (by omega)
 have ta:decide ((0:Int)≤(k:Int)∧(k:Int)≤((l - (1:Nat):Nat):Int))=true:=decide_eq_true (⟨by omega,by omega⟩)
 have tb:decide (c - (1:Nat)=k)=false:=decide_eq_false (by omega)
 have tc:decide (((k - (0:Nat):Nat):Int)>(0:Int))=false:=decide_eq_false (by omega)
 simp only [af,hcl,t1,t2,t3,t4,t5,t6,t7,t8,t9,ta,tb,tc,h0,and_self,and_true,true_and]
 simp only [Nat.sub_zero,Nat.add_zero,Nat.mul_one,and_self,and_true,true_and]
 try (repeat' apply And.intro)
 all_goals first | rfl | decide | omega | skip
theorem CK (hcl:xs.all ae=true) (hl:0<l) (hlc:l≤c) (h8:k≤8) (hkl:k≤l - 1) (h0:xs[off+0+0]?=some (.v (.int .u8 (k:Int)))) (hc:c≠1) (hr:c - 1=k) (hk:0<k) (h1:xs[off+1+0+0]?=some (.v (.int .u8 d))) (hd:d≠0):cp (reach aQ 2 400 (cW m (gb off l c 0) xs) ([(14,.cells [.v (.int .u8 (k:Int))]),(17,.cells [.v (.int .u8 (k:Int))]),(27,.cells [.v (.int .u8 d)])]++ff [6,7,9,11,15,18,20] false++ff [22,23,24,26,28,29] true++ff [30] false++[(1000,.b true)]) [(0,0),(1,1)] [1] (fF m 0 (off+1) k (c - 1) 0) 7 [gb (off+1) (l - 1 - k) (c - 1 - k) 0,lkB xs]):=by
 have e:IntKind.i64.wrap (k:Int)=(k:Int):=wz ⟨by omega,by omega⟩
 have q:=JH m 0 (k:Int) d 0 0 0 0 none off l c 0 0 0 xs none
 rw [e,Int.toNat_natCast] at q
 refine ⟨?_⟩
 rw [q]
 have t1:decide ((1:Int)>(l:Int))=false:=decide_eq_false (by omega)
 have t2:decide ((0:Int)≤(1:Int)∧(1:Int)≤(c:Int))=true:=decide_eq_true (⟨by omega,by omega⟩)
 have t3:decide (c=(0:Nat))=false:=decide_eq_false (by omega)
 have t4:decide ((0:Int)≤(1:Int)∧(1:Int)≤(l:Int))=true:=decide_eq_true (⟨by omega,by omega⟩)
 have t5:decide (c=(1:Nat))=false:=decide_eq_false (hc)
 have t6:decide ((k:Int)>(8:Int))=false:=decide_eq_false (by omega)
 have t7:decide ((k:Int)>((l - (1:Nat):Nat):Int))=false:=decide_eq_false (by omega)
 have t8:decide ((0:Int)≤(k:Int)∧(k:Int)≤((c - (1:Nat):Nat):Int))=true:=decide_eq_true (⟨by omega,by omega⟩)
 have t9:decide (c - (1:Nat)=(0:Nat))=false:=decide_eq_false (by omega)
 have ta:decide ((0:Int)≤(k:Int)∧(k:Int)≤((l - (1:Nat):Nat):Int))=true:=decide_eq_true (⟨by omega,by omega⟩)
 have tb:decide (c - (1:Nat)=k)=true:=decide_eq_true (by omega)
 have tc:decide (((k - (0:Nat):Nat):Int)>(0:Int))=true:=decide_eq_true (by omega)
 have td:ar (0:Int) (k - (0:Nat))=true:=by unfold ar;exact decide_eq_true ⟨by omega,by omega⟩
 have te:(d==(0:Int))=false:=by simpa using hd
 simp only [af,hcl,t1,t2,t3,t4,t5,t6,t7,t8,t9,ta,tb,tc,h0,td,te,h1,and_self,and_true,true_and]
 simp only [Nat.sub_zero,Nat.add_zero,Nat.mul_one,and_self,and_true,true_and]
 try (repeat' apply And.intro)
 all_goals first | rfl | decide | omega | skip
theorem DI (hcl:xs.all ae=true) (hl:0<l) (hlc:l≤c) (h8:k≤8) (hkl:k≤l - 1) (h0:xs[off+0+0]?=some (.v (.int .u8 (k:Int)))) (hc:c≠1) (hr:c - 1=k) (hk:0<k) (h1:xs[off+1+0+0]?=some (.v (.int .u8 d))) (hd:d=0):cp (reach aQ 2 400 (cW m (gb off l c 0) xs) ([(14,.cells [.v (.int .u8 (k:Int))]),(17,.cells [.v (.int .u8 (k:Int))]),(27,.cells [.v (.int .u8 d)])]++ff [6,7,9,11,15,18,20] false++ff [22,23,24,26,28,29,30] true++ff [37,38,39] true++[(1000,.b true)]) [(0,0),(1,1)] [1] (fF m 0 (off+1) k (c - 1) 0) 7 [iy 10,lkB xs]):=by
 have e:IntKind.i64.wrap (k:Int)=(k:Int):=wz ⟨by omega,by omega⟩
 have q:=Lx m 0 (k:Int) d 0 0 0 0 none off l c 0 0 0 xs none
 rw [e,Int.toNat_natCast] at q
 refine ⟨?_⟩
 rw [q]
 have t1:decide ((1:Int)>(l:Int))=false:=decide_eq_false (by omega)
 have t2:decide ((0:Int)≤(1:Int)∧(1:Int)≤(c:Int))=true:=decide_eq_true (⟨by omega,by omega⟩)
 have t3:decide (c=(0:Nat))=false:=decide_eq_false (by omega)
 have t4:decide ((0:Int)≤(1:Int)∧(1:Int)≤(l:Int))=true:=decide_eq_true (⟨by omega,by omega⟩)
 have t5:decide (c=(1:Nat))=false:=decide_eq_false (hc)
 have t6:decide ((k:Int)>(8:Int))=false:=decide_eq_false (by omega)
 have t7:decide ((k:Int)>((l - (1:Nat):Nat):Int))=false:=decide_eq_false (by omega)
 have t8:decide ((0:Int)≤(k:Int)∧(k:Int)≤((c - (1:Nat):Nat):Int))=true:=decide_eq_true (⟨by omega,by omega⟩)
 have t9:decide (c - (1:Nat)=(0:Nat))=false:=decide_eq_false (by omega)
 have ta:decide ((0:Int)≤(k:Int)∧(k:Int)≤((l - (1:Nat):Nat):Int))=true:=decide_eq_true (⟨by omega,by omega⟩)
 have tb:decide (c - (1:Nat)=k)=true:=decide_eq_true (by omega)
 have tc:decide (((k - (0:Nat):Nat):Int)>(0:Int))=true:=decide_eq_true (by omega)
 have td:ar (0:Int) (k - (0:Nat))=true:=by unfold ar;exact decide_eq_true ⟨by omega,by omega⟩
 have te:(d==(0:Int))=true:=by simpa using hd
 simp only [af,hcl,t1,t2,t3,t4,t5,t6,t7,t8,t9,ta,tb,tc,h0,td,te,h1,and_self,and_true,true_and]
 simp only [Nat.sub_zero,Nat.add_zero,Nat.mul_one,and_self,and_true,true_and]
 try (repeat' apply And.intro)
 all_goals first | rfl | decide | omega | skip
theorem CH (hcl:xs.all ae=true) (hl:0<l) (hlc:l≤c) (h8:k≤8) (hkl:k≤l - 1) (h0:xs[off+0+0]?=some (.v (.int .u8 (k:Int)))) (hc:c≠1) (hr:c - 1≠k) (hk:0<k) (h1:xs[off+1+0+0]?=some (.v (.int .u8 d))) (hd:d≠0):cp (reach aQ 2 400 (cW m (gb off l c 0) xs) ([(14,.cells [.v (.int .u8 (k:Int))]),(17,.cells [.v (.int .u8 (k:Int))]),(27,.cells [.v (.int .u8 d)])]++ff [6,7,9,11,15,18,20,22] false++ff [23,24,26,28,29] true++ff [30] false++[(1000,.b true)]) [(0,0),(1,1)] [1] (fF m 0 (off+1) k (c - 1) 0) 7 [gb (off+1+k) (l - 1 - k) (c - 1 - k) 0,lkB xs]):=by
 have e:IntKind.i64.wrap (k:Int)=(k:Int):=wz ⟨by omega,by omega⟩
 have q:=Ko m 0 (k:Int) d 0 0 0 0 none off l c 0 0 0 xs none
 rw [e,Int.toNat_natCast] at q
 refine ⟨?_⟩
 rw [q]
 have t1:decide ((1:Int)>(l:Int))=false:=decide_eq_false (by omega)
 have t2:decide ((0:Int)≤(1:Int)∧(1:Int)≤(c:Int))=true:=decide_eq_true (⟨by omega,by omega⟩)
 have t3:decide (c=(0:Nat))=false:=decide_eq_false (by omega)
 have t4:decide ((0:Int)≤(1:Int)∧(1:Int)≤(l:Int))=true:=decide_eq_true (⟨by omega,by omega⟩)
 have t5:decide (c=(1:Nat))=false:=decide_eq_false (hc)
 have t6:decide ((k:Int)>(8:Int))=false:=decide_eq_false (by omega)
 have t7:decide ((k:Int)>((l - (1:Nat):Nat):Int))=false:=decide_eq_false (by omega)
 have t8:decide ((0:Int)≤(k:Int)∧(k:Int)≤((c - (1:Nat):Nat):Int))=true:=decide_eq_true (⟨by omega,by omega⟩)
 have t9:decide (c - (1:Nat)=(0:Nat))=false:=decide_eq_false (by omega)
 have ta:decide ((0:Int)≤(k:Int)∧(k:Int)≤((l - (1:Nat):Nat):Int))=true:=decide_eq_true (⟨by omega,by omega⟩)
 have tb:decide (c - (1:Nat)=k)=false:=decide_eq_false (by omega)
 have tc:decide (((k - (0:Nat):Nat):Int)>(0:Int))=true:=decide_eq_true (by omega)
 have td:ar (0:Int) (k - (0:Nat))=true:=by unfold ar;exact decide_eq_true ⟨by omega,by omega⟩
 have te:(d==(0:Int))=false:=by simpa using hd
 simp only [af,hcl,t1,t2,t3,t4,t5,t6,t7,t8,t9,ta,tb,tc,h0,td,te,h1,and_self,and_true,true_and]
 simp only [Nat.sub_zero,Nat.add_zero,Nat.mul_one,and_self,and_true,true_and]
 try (repeat' apply And.intro)
 all_goals first | rfl | decide | omega | skip
theorem BR (hcl:xs.all ae=true) (hl:0<l) (hlc:l≤c) (h8:k≤8) (hkl:k≤l - 1) (h0:xs[off+0+0]?=some (.v (.int .u8 (k:Int)))) (hc:c≠1) (hr:c - 1≠k) (hk:0<k) (h1:xs[off+1+0+0]?=some (.v (.int .u8 d))) (hd:d=0):cp (reach aQ 2 400 (cW m (gb off l c 0) xs) ([(14,.cells [.v (.int .u8 (k:Int))]),(17,.cells [.v (.int .u8 (k:Int))]),(27,.cells [.v (.int .u8 d)])]++ff [6,7,9,11,15,18,20,22] false++ff [23,24,26,28,29,30] true++ff [37,38,39] true++[(1000,.b true)]) [(0,0),(1,1)] [1] (fF m 0 (off+1) k (c - 1) 0) 7 [iy 10,lkB xs]):=by
 have e:IntKind.i64.wrap (k:Int)=(k:Int):=wz ⟨by omega,by omega⟩
 have q:=Kd m 0 (k:Int) d 0 0 0 0 none off l c 0 0 0 xs none
 rw [e,Int.toNat_natCast] at q
 refine ⟨?_⟩
 rw [q]
 have t1:decide ((1:Int)>(l:Int))=false:=decide_eq_false (by omega)
 have t2:decide ((0:Int)≤(1:Int)∧(1:Int)≤(c:Int))=true:=decide_eq_true (⟨by omega,by omega⟩)
 have t3:decide (c=(0:Nat))=false:=decide_eq_false (by omega)
 have t4:decide ((0:Int)≤(1:Int)∧(1:Int)≤(l:Int))=true:=decide_eq_true (⟨by omega,by omega⟩)
 have t5:decide (c=(1:Nat))=false:=decide_eq_false (hc)
 have t6:decide ((k:Int)>(8:Int))=false:=decide_eq_false (by omega)
 have t7:decide ((k:Int)>((l - (1:Nat):Nat):Int))=false:=decide_eq_false (by omega)
 have t8:decide ((0:Int)≤(k:Int)∧(k:Int)≤((c - (1:Nat):Nat):Int))=true:=decide_eq_true (⟨by omega,by omega⟩)
 have t9:decide (c - (1:Nat)=(0:Nat))=false:=decide_eq_false (by omega)
 have ta:decide ((0:Int)≤(k:Int)∧(k:Int)≤((l - (1:Nat):Nat):Int))=true:=decide_eq_true (⟨by omega,by omega⟩)
 have tb:decide (c - (1:Nat)=k)=false:=decide_eq_false (by omega)
 have tc:decide (((k - (0:Nat):Nat):Int)>(0:Int))=true:=decide_eq_true (by omega)
 have td:ar (0:Int) (k - (0:Nat))=true:=by unfold ar;exact decide_eq_true ⟨by omega,by omega⟩
 have te:(d==(0:Int))=true:=by simpa using hd
 simp only [af,hcl,t1,t2,t3,t4,t5,t6,t7,t8,t9,ta,tb,tc,h0,td,te,h1,and_self,and_true,true_and]
 simp only [Nat.sub_zero,Nat.add_zero,Nat.mul_one,and_self,and_true,true_and]
 try (repeat' apply And.intro)
 all_goals first | rfl | decide | omega | skip
end
end eye
end paths
end Go.Proofs.YtcbokmadfcedaaaGreatDoor
set_option linter.unusedSimpArgs false
set_option linter.unusedVariables false
set_option maxRecDepth 100000
namespace Go.Proofs.YtcbokmadfcedaaaGreatDoor
open Go Go.Rx Go.RowKit Go.Proofs
namespace paths
namespace eye
open crc (bC bC_len bC_closed b_at cells_obj bC_flat)
theorem rows_at0 {off:Nat} {z:Int} {t:List Int}:(ak bC off (z::t))[off+0+0]?=some (.v (.int .u8 z)):=by
 have:=b_at (off:=off) (zs:=z::t) (k:=0) (z:=z) rfl
 simpa using this
theorem rows_atS {off i:Nat} {z d:Int} {t:List Int} (h:t[i]?=some d):(ak bC off (z::t))[off+1+i*1]?=some (.v (.int .u8 d)):=by
 have:=b_at (off:=off) (zs:=z::t) (k:=i+1) (z:=d) (by simpa using h)
 rw [Int.toNat_natCast] at this
 rw [show off+1+i*1=off+(i+1)*1 by omega];exact this
theorem EyeAt.qK {W:World} {b:Nat} {ad:Addr} {l c:Nat} {f:Int} {zs:List Int} (h:EyeAt W b (some ad) l c f zs) (hl:0<l):∀ (i:Nat) (o:SO) (m:Bool) (b' c':Nat),[(Ia ad.off l c f,true),(SO.look (ak bC ad.off zs),false)][i]?=some (o,m)→[(b,0),(ad.block,0)][i]?=some (b',c')→∃ r,W.heap[b']?=some r∧OR (ax [(b,0),(ad.block,0)]) i o r:=by
 obtain ⟨cs,e,fz,hb,hh,hoff,hc⟩:=cells_obj h.xM.1 hl
 intro i o m b' c' q1 q2
 match i with
 | 0=>
  simp only [List.getElem?_cons_zero,Option.some.injEq] at q1 q2
  cases q1
  cases q2
  exact ⟨_,h.eye,[.slice (some ad) l c,.int .i64 f],[],rfl,aj.cons (VR.ay.2 ⟨(ad.block,0),rfl,h.cap,by rw [← hb];rfl⟩) (aj.cons (VR.ab.2 rfl) aj.nil),rfl⟩
 | 1=>
  simp only [List.getElem?_cons_succ,List.getElem?_cons_zero,Option.some.injEq] at q1 q2
  cases q1
  cases q2
  exact ⟨_,hh,bW (h:=fun z=>[Value.int .u8 z]) (fun ν x=>aj.lits ν [Value.int .u8 x]) hoff (by rw [bC_flat];exact hc)⟩
 | i+2=>simp at q1
theorem reach_due {M:Own} {w0:World} {cs0:List Frame} {f:FuncId} {R:Ending→World→Prop} {ν:aA} {k n d:Nat} {S:SM} {o:List (Nat × c9)} {ren:List (Nat × Nat)} {eqs:List Nat} {F:SF} {l:List (Option (SO × Bool))} (h:cp (Go.Rx.reach aQ k n S o ren eqs F d l)) (ht:dC aQ k n S o=F.todo)
  (hν:∀ i b,ν i=some b→ren.lookup i=some i) (hs:ao aQ M w0 cs0 f R ν (SM.at F d l)):ao aQ M w0 cs0 f R ν S:=ao.reach kR h.out ht hν hs
theorem numR_cons (m:Nat) (z:Int) (t:List Int):numR m (z::t)=if 8<z then (0,10,[]) else if (t.length:Int)<z then (0,11,[]) else if z≠0∧t.head?=some 0 then (0,10,[]) else if m<valN (t.take z.toNat) then (0,13,[]) else (valN (t.take z.toNat),0,t.drop z.toNat):=rfl
theorem numTo_cons (m:Nat) (a:Option Addr) (l c:Nat) (z:Int) (t:List Int):numTo m a l c (z::t)=if (numR m (z::t)).2.1=0 then (advA a c z.toNat,l - 1 - z.toNat,c - 1 - z.toNat) else (none,0,0):=rfl
theorem rk {m:Nat} {a:Option Addr} {l c:Nat} {k:Int} {q:Nat} {r:List Int}:∀ {zs:List Int},numR m zs=(q,k,r)→k≠0→numTo m a l c zs=(none,0,0)
 | [],_,_=>rfl
 | z::t,h,hk=>by
  rw [numTo_cons,if_neg (by rw [h];exact hk)]
theorem num_calls {W:World} {b:Nat} {a:Option Addr} {l c m:Nat} {f:Int} {zs:List Int} (h:EyeAt W b a l c f zs) (hm:m<18446744073709551616):
  Calls Tryz.prog 123 #[.pointer (some ⟨b,0,none⟩),.int .u64 m] W (RNum W b m a l c f zs):=by
 by_cases hf:f≠0
 ·exact r7 h (zO hf) fun w' hA ho=>⟨hA,0,f,zs,a,l,c,rfl,⟨ho,Fi h.xM hA h.far,h.cap,h.far,h.oE⟩,.inl ⟨hf,rfl,rfl,rfl,rfl⟩⟩
 obtain rfl:f=0:=Classical.byContradiction hf
 have fail:∀ {k:Int} {w':World},k≠0→numR m zs=(0,k,[])→Alt (·=b) W w'→w'.heap[b]?=some (.cells #[.slice none 0 0,.int .i64 k] 247 (0,0))→RNum W b m a l c 0 zs (.returned (.int .u64 0)) w':=fun {k w'} hk0 hn hA ho=>
  ⟨hA,0,k,[],none,0,0,rfl,⟨ho,lM _ _,Nat.le_refl _,fun _ h=>(nomatch h),fun _ h=>(nomatch h)⟩,.inr ⟨rfl,hn,(rk hn hk0).symm⟩⟩
 by_cases hl:l=0
 ·subst hl
  have hz0:zs=[]:=List.length_eq_zero_iff.1 h.xM.1.1
  subst hz0
  exact r7 h Hx fun w' hA ho=>fail (by decide) rfl hA ho
 cases a with
 | none=>exact absurd (h.xM.2 rfl) hl
 | some ad=>
 have hlz:zs.length=l:=h.xM.1.1
 obtain ⟨cs,e,fz,hb,hh,hoff,hc⟩:=cells_obj h.xM.1 (by omega)
 have hne:=h.far ad rfl
 have hlb:=h.xM.1.2.1
 have hcap:=h.cap
 have ht:=h.qK (by omega)
 cases zs with
 | nil=>simp at hlz;omega
 | cons z t=>
 have hz:=h.oE z List.mem_cons_self
 have htr:∀ y∈t,0≤y∧y<256:=fun y hy=>h.oE y (List.mem_cons_of_mem _ hy)
 have htl:t.length=l - 1:=by simp at hlz;omega
 have hcl:(ak bC ad.off (z::t)).all ae=true:=bO bC_closed
 have h0:=rows_at0 (off:=ad.off) (z:=z) (t:=t)
 refine cZ (E:=aQ) rfl (d:=6) (l:=[(b,0),(ad.block,0)]) (os:=[(Ia ad.off l c 0,true),(.look (ak bC ad.off (z::t)),false)]) (H:=fun _=>none) (T:=fun _=>False) rfl (by simp) (by simpa using fun e=>hne e.symm) ht (fun g i hg=>by cases hg) (fun _ _ hh=>by cases hh) (fun _ _ _ _ _ hh=>by cases hh)
  (args:=[.ptr 0 0,.v (.int .u64 m)]) (a:=[.pointer (some ⟨b,0,none⟩),.int .u64 m]) (S0:=cW m (gb ad.off l c 0) (ak bC ad.off (z::t))) (by kernel_rfl) (aj.cons (VR.aw.2 ⟨(b,0),rfl,rfl⟩) (aj.cons (VR.ab.2 rfl) aj.nil)) fun cs0 hk=>?_
 have hos:∀ x∈([(Ia ad.off l c 0,true),(SO.look (ak bC ad.off (z::t)),false)]:List (SO × Bool)).tail,x.2=false:=fun x hx=>by simp at hx;rw [hx]
 generalize hxs:ak bC ad.off (z::t)=xs at hcl h0 hk hos ⊢
 have failE:∀ {k:Int},k≠0→numR m (z::t)=(0,k,[])→∀ w' (ν:aA) ob,ν 0=some (b,0)→ν 1=some (ad.block,0)→Alt (·=b) W w'→w'.heap[b]?=some ob→OR ν 0 (.row [.v (.slice none 0 0),.v (.int .i64 k)] 247 (0,0) none) ob→RNum W b m (some ad) l c 0 (z::t) (.returned (.int .u64 0)) w':=fun hk0 hn w' ν ob _ _ hA hob hor=>fail hk0 hn hA (by rw [hob,ic hor])
 by_cases h8:8<z
 ·have hn:numR m (z::t)=(0,10,[]):=by rw [numR_cons,if_pos h8]
  by_cases hc1:c=1
  ·exact fG rfl hos hk (by simp) (Eg hcl (by omega) hc1 hcap h8 h0) (failE (by decide) hn)
  ·exact fG rfl hos hk (by simp) (Et hcl (by omega) hc1 hcap h8 h0) (failE (by decide) hn)
 by_cases hE:((l - 1:Nat):Int)<z
 ·have hn:numR m (z::t)=(0,11,[]):=by rw [numR_cons,if_neg h8,if_pos (by rw [htl];exact hE)]
  by_cases hc1:c=1
  ·exact fG rfl hos hk (by simp) (Ff (by omega) hcl (by omega) hc1 hcap ⟨hz.1,by omega⟩ hE h0) (failE (by decide) hn)
  ·exact fG rfl hos hk (by simp) (DX (by omega) hcl (by omega) hc1 hcap ⟨hz.1,by omega⟩ hE h0) (failE (by decide) hn)
 obtain ⟨k,rfl⟩:∃ k:Nat,z=k:=⟨z.toNat,by omega⟩
 have hk8:k≤8:=by omega
 have hkl:k≤l - 1:=by omega
 have hnk:numR m ((k:Int)::t)=if (k:Int)≠0∧t.head?=some 0 then (0,10,[]) else if m<valN (t.take k) then (0,13,[]) else (valN (t.take k),0,t.drop k):=by
  rw [numR_cons,if_neg h8,if_neg (by rw [htl];exact hE),Int.toNat_natCast]
 have hdl:(t.take k).length=k:=by rw [List.length_take];omega
 have hdr:∀ y∈t.take k,0≤y∧y<256:=fun y hy=>htr y (List.mem_of_mem_take hy)
 have hx1:∀ (i:Nat) (d:Int),(t.take k)[i]?=some d→xs[ad.off+1+i*1]?=some (.v (.int .u8 d)):=fun i d hi=>by
  rw [← hxs]
  refine rows_atS ?_
  rw [List.getElem?_take] at hi
  split at hi
  ·exact hi
  ·cases hi
 have okE:∀ {off':Nat},off'=(if c=1 then ad.off else if c - 1=k then ad.off+1 else ad.off+1+k)→numR m ((k:Int)::t)=(valN (t.take k),0,t.drop k)→∀ w' (ν:aA) ob,ν 0=some (b,0)→ν 1=some (ad.block,0)→Alt (·=b) W w'→w'.heap[b]?=some ob→OR ν 0 (Ia off' (l - 1 - k) (c - 1 - k) 0) ob→RNum W b m (some ad) l c 0 ((k:Int)::t) (.returned (.int .u64 (valN (t.take k)))) w':=by
  intro off' hoff' hn w' ν ob _ hν1 hA hob hor
  have ho:l - 1 - k=0∨off'=ad.off+1+k:=by
   by_cases q1:c=1
   ·left;omega
   rw [if_neg q1] at hoff'
   by_cases q2:c - 1=k
   ·left;omega
   ·rw [if_neg q2] at hoff';exact .inr hoff'
  have hto:((some ⟨ad.block,off',none⟩:Option Addr),l - 1 - k,c - 1 - k)=numTo m (some ad) l c ((k:Int)::t):=by
   rw [numTo_cons,if_pos (by rw [hn]),hoff',Int.toNat_natCast];rfl
  refine ⟨hA,_,0,t.drop k,some ⟨ad.block,off',none⟩,l - 1 - k,c - 1 - k,rfl,⟨by rw [hob,pX hν1 hor],?_,by omega,fun ad' h=>by cases h;exact hne,fun y hy=>htr y (List.mem_of_mem_drop hy)⟩,.inr ⟨rfl,hn,hto⟩⟩
  have hlt:=(Array.getElem?_eq_some_iff.1 hh).1
  have hdrl:(t.drop k).length=l - 1 - k:=by rw [List.length_drop];omega
  rcases ho with h0 | rfl
  ·have:t.drop k=[]:=List.length_eq_zero_iff.1 (by omega)
   rw [this,h0];exact lM _ _
  ·have:=kj (w:=w') (blk:=ad.block) (off:=ad.off+1+k) (zs:=t.drop k) ((hA.block _ hlt hne).trans hh) (fun i v hi=>by
    have:=hc (1+k+i) v (by
     rw [List.getElem?_map,List.getElem?_drop] at hi
     rw [List.getElem?_map,show 1+k+i=(k+i)+1 by omega,List.getElem?_cons_succ];exact hi)
    rw [show ad.off+1+k+i=ad.off+(1+k+i) by omega];exact this) (by omega)
   rw [hdrl] at this;exact this
 have R0:¬ ((k:Int)≠0∧t.head?=some 0)→m<valN (t.take k)→numR m ((k:Int)::t)=(0,13,[]):=fun h1 h2=>by rw [hnk,if_neg h1,if_pos h2]
 have R1:¬ ((k:Int)≠0∧t.head?=some 0)→¬ m<valN (t.take k)→numR m ((k:Int)::t)=(valN (t.take k),0,t.drop k):=fun h1 h2=>by rw [hnk,if_neg h1,if_neg h2]
 by_cases hk0:k=0
 ·have hz0:¬ ((k:Int)≠0∧t.head?=some 0):=fun h=>h.1 (by omega)
  by_cases hc1:c=1
  ·have nx:=rb (cs0:=cs0) (xs:=xs) (o2:=ad.off) (c2:=c - 1) (off:=ad.off) (l:=l - 1 - k) (c:=c - 1 - k) (f:=0) (zs:=(k:Int)::t) rfl hos hk (by simp) (by rw [hdl];exact hk8) hm hdr (fun i d hi=>by rw [hk0] at hi;simp at hi) hcl (fun h=>failE (by decide) (R0 hz0 h)) (fun h=>okE (by rw [if_pos hc1]) (R1 hz0 h)) k 0 (by omega)
   rw [hdl,List.take_zero,show valN []=0 from rfl,show ((0:Nat):Int)=0 from rfl] at nx
   exact reach_due (Fj hcl (by omega) hcap hk8 hkl h0 hc1 hk0) (by kernel_rfl) (fun i b h=>ν2 h) nx
  ·have nx:=rb (cs0:=cs0) (xs:=xs) (o2:=ad.off+1) (c2:=c - 1) (off:=ad.off+1+k) (l:=l - 1 - k) (c:=c - 1 - k) (f:=0) (zs:=(k:Int)::t) rfl hos hk (by simp) (by rw [hdl];exact hk8) hm hdr hx1 hcl (fun h=>failE (by decide) (R0 hz0 h)) (fun h=>okE (by rw [if_neg hc1,if_neg (by omega)]) (R1 hz0 h)) k 0 (by omega)
   rw [hdl,List.take_zero,show valN []=0 from rfl,show ((0:Nat):Int)=0 from rfl] at nx
   exact reach_due (Ez hcl (by omega) hcap hk8 hkl h0 hc1 (by omega) hk0) (by kernel_rfl) (fun i b h=>ν2 h) nx
 ·have hc1:c≠1:=by omega
  cases t with
  | nil=>simp at htl;omega
  | cons d t=>
  have h1:xs[ad.off+1+0+0]?=some (.v (.int .u8 d)):=hx1 0 d (by rw [List.getElem?_take,if_pos (by omega)];rfl)
  by_cases hd:d=0
  ·have hn:numR m ((k:Int)::d::t)=(0,10,[]):=by rw [hnk,if_pos ⟨by omega,by rw [hd];rfl⟩]
   have nx:=F1 (cs0:=cs0) (xs:=xs) (m:=m) (o2:=ad.off+1) (c2:=c - 1) (g:=10) (f:=0) (zs:=(k:Int)::d::t) rfl hos hk (by simp) (by decide) (by rw [hdl];exact hk8) hdr hx1 hcl (failE (by decide) hn) k 0 (by omega)
   rw [hdl,List.take_zero,show valN []=0 from rfl,show ((0:Nat):Int)=0 from rfl] at nx
   by_cases hr:c - 1=k
   ·exact reach_due (DI hcl (by omega) hcap hk8 hkl h0 hc1 hr (by omega) h1 hd) (by kernel_rfl) (fun i b h=>ν2 h) nx
   ·exact reach_due (BR hcl (by omega) hcap hk8 hkl h0 hc1 hr (by omega) h1 hd) (by kernel_rfl) (fun i b h=>ν2 h) nx
  ·have hz0:¬ ((k:Int)≠0∧(d::t).head?=some 0):=fun h=>hd (by simpa using h.2)
   by_cases hr:c - 1=k
   ·have nx:=rb (cs0:=cs0) (xs:=xs) (o2:=ad.off+1) (c2:=c - 1) (off:=ad.off+1) (l:=l - 1 - k) (c:=c - 1 - k) (f:=0) (zs:=(k:Int)::d::t) rfl hos hk (by simp) (by rw [hdl];exact hk8) hm hdr hx1 hcl (fun h=>failE (by decide) (R0 hz0 h)) (fun h=>okE (by rw [if_neg hc1,if_pos hr]) (R1 hz0 h)) k 0 (by omega)
    rw [hdl,List.take_zero,show valN []=0 from rfl,show ((0:Nat):Int)=0 from rfl] at nx
    exact reach_due (CK hcl (by omega) hcap hk8 hkl h0 hc1 hr (by omega) h1 hd) (by kernel_rfl) (fun i b h=>ν2 h) nx
   ·have nx:=rb (cs0:=cs0) (xs:=xs) (o2:=ad.off+1) (c2:=c - 1) (off:=ad.off+1+k) (l:=l - 1 - k) (c:=c - 1 - k) (f:=0) (zs:=(k:Int)::d::t) rfl hos hk (by simp) (by rw [hdl];exact hk8) hm hdr hx1 hcl (fun h=>failE (by decide) (R0 hz0 h)) (fun h=>okE (by rw [if_neg hc1,if_neg hr]) (R1 hz0 h)) k 0 (by omega)
    rw [hdl,List.take_zero,show valN []=0 from rfl,show ((0:Nat):Int)=0 from rfl] at nx
    exact reach_due (CH hcl (by omega) hcap hk8 hkl h0 hc1 hr (by omega) h1 hd) (by kernel_rfl) (fun i b h=>ν2 h) nx
end eye
end paths
end Go.Proofs.YtcbokmadfcedaaaGreatDoor
set_option linter.unusedSimpArgs false
set_option linter.unusedVariables false
set_option maxRecDepth 100000
namespace Go.Proofs.YtcbokmadfcedaaaGreatDoor
open Go Go.Rx Go.RowKit Go.Proofs
namespace paths
namespace eye
section
variable {W:World} {b:Nat} {a:Option Addr} {l c:Nat} {f:Int} {zs:List Int}
end
end eye
end paths
end Go.Proofs.YtcbokmadfcedaaaGreatDoor
set_option linter.unusedSimpArgs false
set_option linter.unusedVariables false
set_option maxRecDepth 100000
namespace Go.Proofs.YtcbokmadfcedaaaGreatDoor
open Go Go.Rx Go.RowKit Go.Proofs
namespace paths
namespace ez
open eye (lkB)
def gB (off l c:Nat) (f:Int):Option (SO × Bool):=some (.row [.sl 1 off l (some c),.v (.int .i64 f)] 169 (0,0) none,true)
def pA (f:Int):Option (SO × Bool):=some (.row [.v (.slice none 0 0),.v (.int .i64 f)] 169 (0,0) none,true)
noncomputable def kK (m:Int) (o:Option (SO × Bool)) (xs:List SV):SM:=(aS aQ 92 [.ptr 0 0,.v (.int .u64 m)] (bc 6 2 0 [o,lkB xs])).getD dx
def I3 (a:Option Addr) (l c:Nat) (f:Int):Option (SO × Bool):=some (.row [.v (.slice a l c),.v (.int .i64 f)] 169 (0,0) none,true)
noncomputable def yE (m:Int) (o:Option (SO × Bool)):SM:=(aS aQ 92 [.ptr 0 0,.v (.int .u64 m)] (bc 6 1 0 [o])).getD dx
noncomputable def Hw:List SI:=dC aQ 2 400 (kK 0 (gB 0 5 9 0) []) ([(3,.cells [.v (.int .u8 0)])]++ff [1,4,5] false++[(1000,.b true)])
noncomputable def iD (m n K i:Int):SF:={ fn:=92,tm:=gw 87 7 ([.ptr 0 0,.v (.int .u64 m),.aM,.aM,.aM,.v (.int .i64 K),.v (.int .u64 n),.v (.int .i64 i)]++List.replicate 79 .aM),todo:=Hw,defers:=[],ret:=false,kind:=.normal,ro:=none }
theorem L6 (m f z d n n' K i i':Int) (a:Option Addr) (off l c:Nat) (xs:List SV):aB aQ 92 400 (yE m (I3 a l c f)) (ff [0] true++[(1000,.b true)]) [(0,0)] [] (.v (.int .u64 0)) [I3 a l c f]=[Value.int IntKind.u64 0=Value.int IntKind.u64 0,Value.slice a l c=Value.slice a l c,vZ f=vZ f,(!f==0)=true]:=by kernel_rfl
theorem rB (m f z d n n' K i i':Int) (a:Option Addr) (off l c:Nat) (xs:List SV):aB aQ 92 400 (kK m (gB off l c 0) xs) (ff [1] true++[(1000,.b true)]) [(0,0),(1,1)] [1] (.v (.int .u64 0)) [pA 11,lkB xs]=[Value.int IntKind.u64 0=Value.int IntKind.u64 0,Value.slice none 0 0=Value.slice none 0 0,vZ 11=vZ 11,xs=xs,xs.all ae=true,((↑l:Int)==0)=true]:=by kernel_rfl
theorem r8 (m f z d n n' K i i':Int) (a:Option Addr) (off l c:Nat) (xs:List SV):aB aQ 92 400 (kK m (gB off l c 0) xs) ([(3,.cells [.v (.int .u8 z)])]++ff [1] false++ff [4] true++[(1000,.b true)]) [(0,0),(1,1)] [1] (.v (.int .u64 0)) [pA 10,lkB xs]=[Value.int IntKind.u64 0=Value.int IntKind.u64 0,Value.slice none 0 0=Value.slice none 0 0,vZ 10=vZ 10,xs=xs,xs.all ae=true,decide (IntKind.i64.wrap z>8)=true,xs[off+0]?=some (SV.v (Value.int IntKind.u8 z)),ar 0 l=true,((↑l:Int)==0)=false]:=by kernel_rfl
theorem rE (m f z d n n' K i i':Int) (a:Option Addr) (off l c:Nat) (xs:List SV):aB aQ 92 400 (kK m (gB off l c 0) xs) ([(3,.cells [.v (.int .u8 z)])]++ff [1] false++ff [4] false++ff [5] true++[(1000,.b true)]) [(0,0),(1,1)] [1] (.v (.int .u64 0)) [pA 11,lkB xs]=[Value.int IntKind.u64 0=Value.int IntKind.u64 0,Value.slice none 0 0=Value.slice none 0 0,vZ 11=vZ 11,xs=xs,xs.all ae=true,decide ((↑l:Int)<IntKind.i64.wrap (1+IntKind.i64.wrap z))=true,decide (IntKind.i64.wrap z>8)=false,xs[off+0]?=some (SV.v (Value.int IntKind.u8 z)),ar 0 l=true,((↑l:Int)==0)=false]:=by kernel_rfl
theorem rL (m f z d n n' K i i':Int) (a:Option Addr) (off l c:Nat) (xs:List SV):reach aQ 2 400 (kK m (gB off l c 0) xs) ([(3,.cells [.v (.int .u8 z)])]++ff [1] false++ff [4,5] false++[(1000,.b true)]) [(0,0),(1,1)] [1] (iD m 0 (IntKind.i64.wrap z) 1) 7 [gB off l c 0,lkB xs]=[0=0,Value.int IntKind.u64 m=Value.int IntKind.u64 m,vZ (IntKind.i64.wrap z)=vZ (IntKind.i64.wrap z),Value.int IntKind.u64 0=Value.int IntKind.u64 0,vZ 1=vZ 1,off=off∧l=l∧some c=some c,vZ 0=vZ 0,xs=xs,xs.all ae=true,decide ((↑l:Int)<IntKind.i64.wrap (1+IntKind.i64.wrap z))=false,decide (IntKind.i64.wrap z>8)=false,xs[off+0]?=some (SV.v (Value.int IntKind.u8 z)),ar 0 l=true,((↑l:Int)==0)=false]:=by kernel_rfl
theorem rR (m f z d n n' K i i':Int) (a:Option Addr) (off l c:Nat) (xs:List SV):reach aQ 2 100 (SM.at (iD m n K i) 7 [gB off l c 0,lkB xs]) (ff [0] true++[(2,.cells [.v (.int .u8 d)])]++[(1000,.b true)]) [(0,0),(1,1)] [1] (iD m n' K i') 7 [gB off l c 0,lkB xs]=[0=0,Value.int IntKind.u64 m=Value.int IntKind.u64 m,vZ K=vZ K,Value.int IntKind.u64 (IntKind.u64.wrap (IntKind.u64.wrap (n*256)+IntKind.u64.wrap d))=Value.int IntKind.u64 n',vZ (IntKind.i64.wrap (i+1))=vZ i',off=off∧l=l∧some c=some c,vZ 0=vZ 0,xs=xs,xs.all ae=true,xs[off+i.toNat*1]?=some (SV.v (Value.int IntKind.u8 d)),ar i l=true,decide (i≤K)=true]:=by kernel_rfl
theorem NY (m f z d n n' K i i':Int) (a:Option Addr) (off l c:Nat) (xs:List SV):aB aQ 92 400 (SM.at (iD m n K i) 7 [gB off l c 0,lkB xs]) ([(8,.cells [.v (.int .u8 d)])]++ff [0] false++ff [1,2,3,4,5,7,9,10] true++ff [11] true++[(1000,.b true)]) [(0,0),(1,1)] [1] (.v (.int .u64 0)) [pA 10,lkB xs]=[Value.int IntKind.u64 0=Value.int IntKind.u64 0,Value.slice none 0 0=Value.slice none 0 0,vZ 10=vZ 10,xs=xs,xs.all ae=true,(d==0)=true,decide (K>0)=true,decide (K>0)=true,xs[off+1]?=some (SV.v (Value.int IntKind.u8 d)),decide (K>0)=true,ar 1 l=true,decide (K>0)=true,decide (K>0)=true,decide (K>0)=true,decide (K>0)=true,decide (K>0)=true,decide (i≤K)=false]:=by kernel_rfl
theorem Mr (m f z d n n' K i i':Int) (a:Option Addr) (off l c:Nat) (xs:List SV):aB aQ 92 400 (SM.at (iD m n K i) 7 [gB off l c 0,lkB xs]) ([(8,.cells [.v (.int .u8 d)])]++ff [0] false++ff [1,2,3,4,5,7,9,10] true++ff [11] false++ff [12] true++[(1000,.b true)]) [(0,0),(1,1)] [1] (.v (.int .u64 0)) [pA 13,lkB xs]=[Value.int IntKind.u64 0=Value.int IntKind.u64 0,Value.slice none 0 0=Value.slice none 0 0,vZ 13=vZ 13,xs=xs,xs.all ae=true,decide (n>m)=true,(d==0)=false,decide (K>0)=true,decide (K>0)=true,xs[off+1]?=some (SV.v (Value.int IntKind.u8 d)),decide (K>0)=true,ar 1 l=true,decide (K>0)=true,decide (K>0)=true,decide (K>0)=true,decide (K>0)=true,decide (K>0)=true,decide (i≤K)=false]:=by kernel_rfl
theorem NS (m f z d n n' K i i':Int) (a:Option Addr) (off l c:Nat) (xs:List SV):aB aQ 92 400 (SM.at (iD m n K i) 7 [gB off l c 0,lkB xs]) ([(8,.cells [.v (.int .u8 d)])]++ff [0] false++ff [1,2,3,4,5,7,9,10] true++ff [11,12,14] false++[(1000,.b true)]) [(0,0),(1,1)] [1] (.v (.int .u64 n)) [gB (off+(IntKind.i64.wrap (1+K)).toNat) (l - (IntKind.i64.wrap (1+K)).toNat) (c - (IntKind.i64.wrap (1+K)).toNat) 0,lkB xs]=[Value.int IntKind.u64 n=Value.int IntKind.u64 n,off+(IntKind.i64.wrap (1+K)).toNat*1=off+(IntKind.i64.wrap (1+K)).toNat∧l - (IntKind.i64.wrap (1+K)).toNat=l - (IntKind.i64.wrap (1+K)).toNat∧some (c - (IntKind.i64.wrap (1+K)).toNat)=some (c - (IntKind.i64.wrap (1+K)).toNat),vZ 0=vZ 0,xs=xs,xs.all ae=true,decide (c=(IntKind.i64.wrap (1+K)).toNat)=false,decide (0≤IntKind.i64.wrap (1+K)∧IntKind.i64.wrap (1+K)≤(↑l:Int))=true,decide (n>m)=false,(d==0)=false,decide (K>0)=true,decide (K>0)=true,xs[off+1]?=some (SV.v (Value.int IntKind.u8 d)),decide (K>0)=true,ar 1 l=true,decide (K>0)=true,decide (K>0)=true,decide (K>0)=true,decide (K>0)=true,decide (K>0)=true,decide (i≤K)=false]:=by kernel_rfl
theorem Mp (m f z d n n' K i i':Int) (a:Option Addr) (off l c:Nat) (xs:List SV):aB aQ 92 400 (SM.at (iD m n K i) 7 [gB off l c 0,lkB xs]) ([(8,.cells [.v (.int .u8 d)])]++ff [0] false++ff [1,2,3,4,5,7,9,10] true++ff [11,12] false++ff [14] true++[(1000,.b true)]) [(0,0),(1,1)] [1] (.v (.int .u64 n)) [gB off (l - (IntKind.i64.wrap (1+K)).toNat) (c - (IntKind.i64.wrap (1+K)).toNat) 0,lkB xs]=[Value.int IntKind.u64 n=Value.int IntKind.u64 n,off=off∧l - (IntKind.i64.wrap (1+K)).toNat=l - (IntKind.i64.wrap (1+K)).toNat∧some (c - (IntKind.i64.wrap (1+K)).toNat)=some (c - (IntKind.i64.wrap (1+K)).toNat),vZ 0=vZ 0,xs=xs,xs.all ae=true,decide (c=(IntKind.i64.wrap (1+K)).toNat)=true,decide (0≤IntKind.i64.wrap (1+K)∧IntKind.i64.wrap (1+K)≤(↑l:Int))=true,decide (n>m)=false,(d==0)=false,decide (K>0)=true,decide (K>0)=true,xs[off+1]?=some (SV.v (Value.int IntKind.u8 d)),decide (K>0)=true,ar 1 l=true,decide (K>0)=true,decide (K>0)=true,decide (K>0)=true,decide (K>0)=true,decide (K>0)=true,decide (i≤K)=false]:=by kernel_rfl
theorem Nd (m f z d n n' K i i':Int) (a:Option Addr) (off l c:Nat) (xs:List SV):aB aQ 92 400 (SM.at (iD m n K i) 7 [gB off l c 0,lkB xs]) (ff (List.range 14) false++[(1000,.b true)]) [(0,0),(1,1)] [1] (.v (.int .u64 n)) [gB (off+(IntKind.i64.wrap (1+K)).toNat) (l - (IntKind.i64.wrap (1+K)).toNat) (c - (IntKind.i64.wrap (1+K)).toNat) 0,lkB xs]=[Value.int IntKind.u64 n=Value.int IntKind.u64 n,off+(IntKind.i64.wrap (1+K)).toNat*1=off+(IntKind.i64.wrap (1+K)).toNat∧l - (IntKind.i64.wrap (1+K)).toNat=l - (IntKind.i64.wrap (1+K)).toNat∧some (c - (IntKind.i64.wrap (1+K)).toNat)=some (c - (IntKind.i64.wrap (1+K)).toNat),vZ 0=vZ 0,xs=xs,xs.all ae=true,decide (c=(IntKind.i64.wrap (1+K)).toNat)=false,decide (0≤IntKind.i64.wrap (1+K)∧IntKind.i64.wrap (1+K)≤(↑l:Int))=true,decide (n>m)=false,false=false,decide (K>0)=false,decide (K>0)=false,decide (K>0)=false,decide (K>0)=false,decide (K>0)=false,decide (K>0)=false,decide (K>0)=false,decide (K>0)=false,decide (i≤K)=false]:=by kernel_rfl
theorem Ms (m f z d n n' K i i':Int) (a:Option Addr) (off l c:Nat) (xs:List SV):aB aQ 92 400 (SM.at (iD m n K i) 7 [gB off l c 0,lkB xs]) (ff (List.range 11) false++ff [12] true++[(1000,.b true)]) [(0,0),(1,1)] [1] (.v (.int .u64 n)) [gB off (l - (IntKind.i64.wrap (1+K)).toNat) (c - (IntKind.i64.wrap (1+K)).toNat) 0,lkB xs]=[Value.int IntKind.u64 n=Value.int IntKind.u64 n,off=off∧l - (IntKind.i64.wrap (1+K)).toNat=l - (IntKind.i64.wrap (1+K)).toNat∧some (c - (IntKind.i64.wrap (1+K)).toNat)=some (c - (IntKind.i64.wrap (1+K)).toNat),vZ 0=vZ 0,xs=xs,xs.all ae=true,decide (c=(IntKind.i64.wrap (1+K)).toNat)=true,decide (0≤IntKind.i64.wrap (1+K)∧IntKind.i64.wrap (1+K)≤(↑l:Int))=true,decide (n>m)=false,false=false,decide (K>0)=false,decide (K>0)=false,decide (K>0)=false,decide (K>0)=false,decide (K>0)=false,decide (K>0)=false,decide (K>0)=false,decide (K>0)=false,decide (i≤K)=false]:=by kernel_rfl
end ez
end paths
end Go.Proofs.YtcbokmadfcedaaaGreatDoor
set_option linter.unusedSimpArgs false
set_option linter.unusedVariables false
set_option maxRecDepth 100000
namespace Go.Proofs.YtcbokmadfcedaaaGreatDoor
open Go Go.Rx Go.RowKit Go.Proofs
namespace paths
namespace ez
open eye (lkB numR valN valN_snoc valN_lt u64_in wz numR_cons rows_at0 rows_atS)
open crc (bC bC_len bC_closed b_at cells_obj bC_flat)
def BytesIn (w:World) (blk o:Nat) (zs:List Int):Prop:=∃ cs e fz,w.heap[blk]?=some (.cells cs e fz)∧o≤cs.size∧∀ (k:Nat) (v:Value),(zs.map (Value.int .u8))[k]?=some v→cs[o+k]?=some v
def eO (T:TypeId) (a:Option Addr) (l c:Nat) (f:Int):Obj:=.cells #[.slice a l c,.int .i64 f] T (0,0)
def aJ (o c k:Nat):Nat:=if c=k then o else o+k
def FK (T : TypeId) (adv : Nat → Nat → Nat → Nat) (W : World) (b blk o l c m : Nat) (zs : List Int) (e : Ending) (w' : World) : Prop := Alt (· = b) W w' ∧
  ((∃ n k : Nat, e = .returned (.int .u64 n) ∧ n ≤ m ∧ 0 < k ∧ k ≤ l ∧ numR m zs = (n, 0, zs.drop k) ∧ w'.heap[b]? = some (eO T (some ⟨blk, adv o c k, none⟩) (l - k) (c - k) 0)) ∨
   ∃ f' : Int, f' ≠ 0 ∧ e = .returned (.int .u64 0) ∧ numR m zs = (0, f', []) ∧ w'.heap[b]? = some (eO T none 0 0 f'))
abbrev TE:TypeId:=169
section
variable {W:World} {b blk:Nat} {xs:List SV} {cs0:List Frame} {H:Hp}
theorem mc {R:Ending→World→Prop} {g:FuncId} {M:Own} {S:SM} {k:Nat} {o:List (Nat × c9)} {y0:Value} {so':SO} {os:List (SO × Bool)} (hM:M=az [(b,0),(blk,0)] os) (hos:∀ x∈os.tail,x.2=false) (hk:gl (mo [(b,0),(blk,0)] os fun _=>False) W H M W)
  (hrun:cp (aB aQ g k S o [(0,0),(1,1)] [1] (.v y0) [some (so',true),lkB xs]))
  (hR:∀ w' (ν:aA) ob,ν 0=some (b,0)→ν 1=some (blk,0)→Alt (·=b) W w'→w'.heap[b]?=some ob→OR ν 0 so' ob→R (.returned y0) w'):ao aQ M W cs0 g R (ax [(b,0),(blk,0)]) S:=by
 subst hM
 refine ao.aB kR hrun.out fun ν' w' y hle hv hE hex=>?_
 obtain rfl:=VR.ab.1 hv
 have hA:=(eye.iT hk hex).mono (T':=(·=b)) fun k _ hk'=>by
  rcases hk' with ⟨i,o,c,h1,h2⟩ | h
  ·cases i with
   | zero=>simp at h2;exact h2.1.symm
   | succ i=>
    have:os.tail[i]?=some (o,true):=by rw [List.getElem?_tail];exact h1
    have:=hos _ (List.mem_of_getElem? this)
    cases this
  ·exact h.elim
 obtain ⟨b',ob,hb',hob,hor,_⟩:=hE.obj 0 _ _ rfl
 have mI:(ν'.ren [(0,0),(1,1)]) 0=some (b,0):=hle 0 (b,0) rfl
 have hb1:(ν'.ren [(0,0),(1,1)]) 1=some (blk,0):=hle 1 (blk,0) rfl
 rw [mI] at hb';cases hb'
 exact hR w' _ ob mI hb1 hA hob hor
theorem pX {T:TypeId} {ν:aA} {off l c cc:Nat} {f:Int} {ob:Obj} (h1:ν 1=some (blk,cc)) (h:OR ν 0 (.row [.sl 1 off l (some c),.v (.int .i64 f)] T (0,0) none) ob):ob=eO T (some ⟨blk,off,none⟩) l c f:=by
 obtain ⟨ys,rest,rfl,hv,hx⟩:=h
 have hx:(ys++rest).length=2:=hx
 obtain ⟨y1,ys1,rfl,q1,hv⟩:=hv.cons_inv
 obtain ⟨y2,ys2,rfl,q2,hv⟩:=hv.cons_inv
 obtain rfl:=hv.aq
 obtain rfl:rest=[]:=List.length_eq_zero_iff.1 (by simpa using hx)
 obtain ⟨b',hb',_,rfl⟩:=VR.ay.1 q1
 rw [h1] at hb';cases hb'
 obtain rfl:=VR.ab.1 q2
 rfl
theorem ic {T:TypeId} {ν:aA} {a:Option Addr} {l c:Nat} {f:Int} {ob:Obj} (h:OR ν 0 (.row [.v (.slice a l c),.v (.int .i64 f)] T (0,0) none) ob):ob=eO T a l c f:=by
 obtain ⟨ys,rest,rfl,hv,hx⟩:=h
 have hx:(ys++rest).length=2:=hx
 obtain ⟨y1,ys1,rfl,q1,hv⟩:=hv.cons_inv
 obtain ⟨y2,ys2,rfl,q2,hv⟩:=hv.cons_inv
 obtain rfl:=hv.aq
 obtain rfl:rest=[]:=List.length_eq_zero_iff.1 (by simpa using hx)
 obtain rfl:=VR.ab.1 q1
 obtain rfl:=VR.ab.1 q2
 rfl
theorem JE {n d:Nat} (hn:n<72057594037927936) (hd:d<256):IntKind.u64.wrap (IntKind.u64.wrap ((n:Int)*256)+IntKind.u64.wrap (d:Int))=((n*256+d:Nat):Int):=by
 have e1:IntKind.u64.wrap ((n:Int)*256)=((n*256:Nat):Int):=by
  rw [show ((n:Int)*256)=((n*256:Nat):Int) by omega,u64_in (by omega)]
 have e3:IntKind.u64.wrap (d:Int)=(d:Int):=u64_in (by omega)
 rw [e1,e3,show ((n*256:Nat):Int)+(d:Int)=((n*256+d:Nat):Int) by omega,u64_in (by omega)]
theorem one_add {k:Nat} (h:k≤8):IntKind.i64.wrap ((1:Int)+(k:Int))=((1+k:Nat):Int):=by
 rw [IntWalk.i64_in _ (by omega)];omega
section
variable {m d:Int} {off l c k:Nat}
theorem G3 (hcl:xs.all ae=true) (hl:l=0):cp (aB aQ 92 400 (kK m (gB off l c 0) xs) (ff [1] true++[(1000,.b true)]) [(0,0),(1,1)] [1] (.v (.int .u64 0)) [pA 11,lkB xs]):=by
 refine ⟨?_⟩
 rw [rB (f:=0) (z:=0) (d:=0) (n:=0) (n':=0) (K:=0) (i:=0) (i':=0) (a:=none)]
 have t1:((l:Int)==(0:Int))=true:=by rw [hl];rfl
 simp only [af,hcl,t1,and_self,and_true,true_and]
theorem GA (hcl:xs.all ae=true) (hl:0<l) (hz:8<(k:Int)) (hz2:k<256) (h0:xs[off+0]?=some (.v (.int .u8 (k:Int)))):cp (aB aQ 92 400 (kK m (gB off l c 0) xs) ([(3,.cells [.v (.int .u8 (k:Int))])]++ff [1] false++ff [4] true++[(1000,.b true)]) [(0,0),(1,1)] [1] (.v (.int .u64 0)) [pA 10,lkB xs]):=by
 refine ⟨?_⟩
 rw [r8 (f:=0) (d:=0) (n:=0) (n':=0) (K:=0) (i:=0) (i':=0) (a:=none)]
 have t1:((l:Int)==(0:Int))=false:=by simp;omega
 have t2:decide (IntKind.i64.wrap (k:Int)>(8:Int))=true:=decide_eq_true (by rw [wz ⟨by omega,by omega⟩];exact hz)
 have t3:ar (0:Int) l=true:=decide_eq_true ⟨by omega,by omega⟩
 simp only [af,hcl,t1,t2,t3,h0,and_self,and_true,true_and]
theorem HF (hcl:xs.all ae=true) (hl:0<l) (hz:k≤8) (hs:l<1+k) (h0:xs[off+0]?=some (.v (.int .u8 (k:Int)))):cp (aB aQ 92 400 (kK m (gB off l c 0) xs) ([(3,.cells [.v (.int .u8 (k:Int))])]++ff [1] false++ff [4] false++ff [5] true++[(1000,.b true)]) [(0,0),(1,1)] [1] (.v (.int .u64 0)) [pA 11,lkB xs]):=by
 refine ⟨?_⟩
 rw [rE (f:=0) (d:=0) (n:=0) (n':=0) (K:=0) (i:=0) (i':=0) (a:=none)]
 have t1:((l:Int)==(0:Int))=false:=by simp;omega
 have t2:decide (IntKind.i64.wrap (k:Int)>(8:Int))=false:=decide_eq_false (by rw [wz ⟨by omega,by omega⟩];omega)
 have t4:decide ((l:Int)<IntKind.i64.wrap ((1:Int)+IntKind.i64.wrap (k:Int)))=true:=decide_eq_true (by rw [wz (z:=(k:Int)) ⟨by omega,by omega⟩,one_add hz];omega)
 have t3:ar (0:Int) l=true:=decide_eq_true ⟨by omega,by omega⟩
 simp only [af,hcl,t1,t2,t3,t4,h0,and_self,and_true,true_and]
theorem Gu (hcl:xs.all ae=true) (hl:0<l) (hz:k≤8) (hs:1+k≤l) (h0:xs[off+0]?=some (.v (.int .u8 (k:Int)))):cp (reach aQ 2 400 (kK m (gB off l c 0) xs) ([(3,.cells [.v (.int .u8 (k:Int))])]++ff [1] false++ff [4,5] false++[(1000,.b true)]) [(0,0),(1,1)] [1] (iD m 0 k 1) 7 [gB off l c 0,lkB xs]):=by
 refine ⟨?_⟩
 have e:IntKind.i64.wrap (k:Int)=(k:Int):=wz ⟨by omega,by omega⟩
 have q:=rL (m:=m) (z:=(k:Int)) (off:=off) (l:=l) (c:=c) (xs:=xs) (f:=0) (d:=0) (n:=0) (n':=0) (K:=0) (i:=0) (i':=0) (a:=none)
 rw [e] at q
 rw [q]
 have t1:((l:Int)==(0:Int))=false:=by simp;omega
 have t2:decide ((k:Int)>(8:Int))=false:=decide_eq_false (by omega)
 have t4:decide ((l:Int)<IntKind.i64.wrap ((1:Int)+(k:Int)))=false:=decide_eq_false (by rw [one_add hz];omega)
 have t3:ar (0:Int) l=true:=decide_eq_true ⟨by omega,by omega⟩
 simp only [af,hcl,t1,t2,t3,t4,h0,and_self,and_true,true_and]
theorem DR {n K i:Int} (hcl:xs.all ae=true) (hW:IntKind.i64.wrap ((1:Int)+K)=(k:Int)) (hkl:k≤l) (t1:decide (i≤K)=false) (t2:decide (K>0)=false) (t3:decide (n>m)=false) (hc:c≠k):cp (aB aQ 92 400 (SM.at (iD m n K i) 7 [gB off l c 0,lkB xs]) (ff (List.range 14) false++[(1000,.b true)]) [(0,0),(1,1)] [1] (.v (.int .u64 n)) [gB (off+k) (l - k) (c - k) 0,lkB xs]):=by
 refine ⟨?_⟩
 have q:=Nd (m:=m) (n:=n) (off:=off) (l:=l) (c:=c) (xs:=xs) (K:=K) (i:=i) (f:=0) (z:=0) (n':=0) (i':=0) (a:=none) (d:=0)
 rw [hW,Int.toNat_natCast] at q
 have tb:decide ((0:Int)≤(k:Int)∧(k:Int)≤(l:Int))=true:=decide_eq_true ⟨by omega,by omega⟩
 have tc:decide (c=k)=false:=decide_eq_false hc
 rw [q]
 simp only [af,hcl,t1,t2,t3,hW,tb,tc,Nat.mul_one,and_self,and_true,true_and]
theorem Ew {n K i:Int} (hcl:xs.all ae=true) (hW:IntKind.i64.wrap ((1:Int)+K)=(k:Int)) (hkl:k≤l) (t1:decide (i≤K)=false) (t2:decide (K>0)=false) (t3:decide (n>m)=false) (hc:c=k):cp (aB aQ 92 400 (SM.at (iD m n K i) 7 [gB off l c 0,lkB xs]) (ff (List.range 11) false++ff [12] true++[(1000,.b true)]) [(0,0),(1,1)] [1] (.v (.int .u64 n)) [gB off (l - k) (c - k) 0,lkB xs]):=by
 refine ⟨?_⟩
 have q:=Ms (m:=m) (n:=n) (off:=off) (l:=l) (c:=c) (xs:=xs) (K:=K) (i:=i) (f:=0) (z:=0) (n':=0) (i':=0) (a:=none) (d:=0)
 rw [hW,Int.toNat_natCast] at q
 have tb:decide ((0:Int)≤(k:Int)∧(k:Int)≤(l:Int))=true:=decide_eq_true ⟨by omega,by omega⟩
 have tc:decide (c=k)=true:=decide_eq_true hc
 rw [q]
 simp only [af,hcl,t1,t2,t3,hW,tb,tc,Nat.mul_one,and_self,and_true,true_and]
theorem Fx {n K i:Int} (hcl:xs.all ae=true) (hW:IntKind.i64.wrap ((1:Int)+K)=(k:Int)) (hkl:k≤l) (t1:decide (i≤K)=false) (t2:decide (K>0)=true) (hr:ar (1:Int) l=true) (h1:xs[off+1]?=some (.v (.int .u8 d))) (t4:(d==(0:Int))=false) (t3:decide (n>m)=false) (hc:c≠k):cp (aB aQ 92 400 (SM.at (iD m n K i) 7 [gB off l c 0,lkB xs]) ([(8,.cells [.v (.int .u8 d)])]++ff [0] false++ff [1,2,3,4,5,7,9,10] true++ff [11,12,14] false++[(1000,.b true)]) [(0,0),(1,1)] [1] (.v (.int .u64 n)) [gB (off+k) (l - k) (c - k) 0,lkB xs]):=by
 refine ⟨?_⟩
 have q:=NS (m:=m) (n:=n) (off:=off) (l:=l) (c:=c) (xs:=xs) (K:=K) (i:=i) (f:=0) (z:=0) (n':=0) (i':=0) (a:=none) (d:=d)
 rw [hW,Int.toNat_natCast] at q
 have tb:decide ((0:Int)≤(k:Int)∧(k:Int)≤(l:Int))=true:=decide_eq_true ⟨by omega,by omega⟩
 have tc:decide (c=k)=false:=decide_eq_false hc
 rw [q]
 simp only [af,hcl,t1,t2,t3,t4,hr,h1,hW,tb,tc,Nat.mul_one,and_self,and_true,true_and]
theorem DU {n K i:Int} (hcl:xs.all ae=true) (hW:IntKind.i64.wrap ((1:Int)+K)=(k:Int)) (hkl:k≤l) (t1:decide (i≤K)=false) (t2:decide (K>0)=true) (hr:ar (1:Int) l=true) (h1:xs[off+1]?=some (.v (.int .u8 d))) (t4:(d==(0:Int))=false) (t3:decide (n>m)=false) (hc:c=k):cp (aB aQ 92 400 (SM.at (iD m n K i) 7 [gB off l c 0,lkB xs]) ([(8,.cells [.v (.int .u8 d)])]++ff [0] false++ff [1,2,3,4,5,7,9,10] true++ff [11,12] false++ff [14] true++[(1000,.b true)]) [(0,0),(1,1)] [1] (.v (.int .u64 n)) [gB off (l - k) (c - k) 0,lkB xs]):=by
 refine ⟨?_⟩
 have q:=Mp (m:=m) (n:=n) (off:=off) (l:=l) (c:=c) (xs:=xs) (K:=K) (i:=i) (f:=0) (z:=0) (n':=0) (i':=0) (a:=none) (d:=d)
 rw [hW,Int.toNat_natCast] at q
 have tb:decide ((0:Int)≤(k:Int)∧(k:Int)≤(l:Int))=true:=decide_eq_true ⟨by omega,by omega⟩
 have tc:decide (c=k)=true:=decide_eq_true hc
 rw [q]
 simp only [af,hcl,t1,t2,t3,t4,hr,h1,hW,tb,tc,Nat.mul_one,and_self,and_true,true_and]
theorem Fe {n K i:Int} (hcl:xs.all ae=true) (t1:decide (i≤K)=false) (t2:decide (K>0)=true) (hr:ar (1:Int) l=true) (h1:xs[off+1]?=some (.v (.int .u8 d))) (t4:(d==(0:Int))=false) (t3:decide (n>m)=true):cp (aB aQ 92 400 (SM.at (iD m n K i) 7 [gB off l c 0,lkB xs]) ([(8,.cells [.v (.int .u8 d)])]++ff [0] false++ff [1,2,3,4,5,7,9,10] true++ff [11] false++ff [12] true++[(1000,.b true)]) [(0,0),(1,1)] [1] (.v (.int .u64 0)) [pA 13,lkB xs]):=by
 refine ⟨?_⟩
 have q:=Mr (m:=m) (n:=n) (off:=off) (l:=l) (c:=c) (xs:=xs) (K:=K) (i:=i) (f:=0) (z:=0) (n':=0) (i':=0) (a:=none) (d:=d)
 rw [q]
 simp only [af,hcl,t1,t2,t3,t4,hr,h1,and_self,and_true,true_and]
theorem EV {n K i:Int} (hcl:xs.all ae=true) (t1:decide (i≤K)=false) (t2:decide (K>0)=true) (hr:ar (1:Int) l=true) (h1:xs[off+1]?=some (.v (.int .u8 d))) (t4:(d==(0:Int))=true):cp (aB aQ 92 400 (SM.at (iD m n K i) 7 [gB off l c 0,lkB xs]) ([(8,.cells [.v (.int .u8 d)])]++ff [0] false++ff [1,2,3,4,5,7,9,10] true++ff [11] true++[(1000,.b true)]) [(0,0),(1,1)] [1] (.v (.int .u64 0)) [pA 10,lkB xs]):=by
 refine ⟨?_⟩
 have q:=NY (m:=m) (n:=n) (off:=off) (l:=l) (c:=c) (xs:=xs) (K:=K) (i:=i) (f:=0) (z:=0) (n':=0) (i':=0) (a:=none) (d:=d)
 rw [q]
 simp only [af,hcl,t1,t2,t4,hr,h1,and_self,and_true,true_and]
end
end
end ez
end paths
end Go.Proofs.YtcbokmadfcedaaaGreatDoor
set_option linter.unusedSimpArgs false
set_option linter.unusedVariables false
set_option maxRecDepth 100000
namespace Go.Proofs.YtcbokmadfcedaaaGreatDoor
open Go Go.Rx Go.RowKit Go.Proofs
namespace paths
namespace ez
open eye (lkB numR valN valN_snoc valN_lt u64_in wz numR_cons rows_at0 rows_atS reach_due)
open crc (bC bC_len bC_closed b_at cells_obj bC_flat)
section
variable {W:World} {b blk:Nat} {xs:List SV} {cs0:List Frame} {H:Hp}
theorem ν2 {i:Nat} {x:Nat × Nat} (h:ax [(b,0),(blk,0)] i=some x):([(0,0),(1,1)]:List (Nat × Nat)).lookup i=some i:=by
 match i with
 | 0=>rfl
 | 1=>rfl
 | i+2=>simp [ax] at h
theorem Hu {m n d K i n' i':Int} {off l c:Nat} (hcl:xs.all ae=true) (h1:xs[off+i.toNat*1]?=some (.v (.int .u8 d))) (hr:ar i l=true) (t1:decide (i≤K)=true) (hn:IntKind.u64.wrap (IntKind.u64.wrap (n*(256:Int))+IntKind.u64.wrap d)=n') (hi:IntKind.i64.wrap (i+(1:Int))=i'):
  cp (reach aQ 2 100 (SM.at (iD m n K i) 7 [gB off l c 0,lkB xs]) (ff [0] true++[(2,.cells [.v (.int .u8 d)])]++[(1000,.b true)]) [(0,0),(1,1)] [1] (iD m n' K i') 7 [gB off l c 0,lkB xs]):=by
 refine ⟨?_⟩
 rw [rR (f:=0) (z:=0) (a:=none)]
 simp only [af,hcl,h1,hr,t1,hn,hi,and_self,and_true,true_and]
theorem BA {M:Own} {os:List (SO × Bool)} {m:Nat} {zs t:List Int} {k off l c:Nat} (hM:M=az [(b,0),(blk,0)] os) (hos:∀ x∈os.tail,x.2=false) (hk:gl (mo [(b,0),(blk,0)] os fun _=>False) W H M W) (hm:m<18446744073709551616) (hz:zs=(k:Int)::t)
  (k8:k≤8) (hkl:1+k≤l) (htl:t.length=l - 1) (hlc:l≤c) (dF:l≤140737488355328) (hd:∀ z∈t,0≤z∧z<256) (hx:∀ (i:Nat) (d:Int),t[i]?=some d→xs[off+1+i*1]?=some (.v (.int .u8 d))) (hcl:xs.all ae=true)
  {T:TypeId} (hT:T=TE):∀ (j i:Nat),i+j=k→
  ao aQ M W cs0 92 (FK T aJ W b blk off l c m zs) (ax [(b,0),(blk,0)]) (SM.at (iD m (valN ((t.take k).take i)) k ((i+1:Nat):Int)) 7 [gB off l c 0,lkB xs])
 | 0,i,hj=>by
  have hik:i=k:=by omega
  subst hik
  have hdl:(t.take i).length=i:=by rw [List.length_take];omega
  rw [List.take_of_length_le (l:=t.take i) (by omega)]
  have hnk:numR m zs=if (i:Int)≠0∧t.head?=some 0 then (0,10,[]) else if m<valN (t.take i) then (0,13,[]) else (valN (t.take i),0,t.drop i):=by
   rw [hz,numR_cons,if_neg (by omega),if_neg (by omega),Int.toNat_natCast]
  have t1:decide (((i+1:Nat):Int)≤(i:Int))=false:=decide_eq_false (by omega)
  have hW:IntKind.i64.wrap ((1:Int)+(i:Int))=((1+i:Nat):Int):=one_add k8
  have okE:∀ off',off'=aJ off c (1+i)→¬ ((i:Int)≠0∧t.head?=some 0)→¬ m<valN (t.take i)→∀ w' (ν:aA) ob,ν 0=some (b,0)→ν 1=some (blk,0)→Alt (·=b) W w'→w'.heap[b]?=some ob→OR ν 0 (.row [.sl 1 off' (l - (1+i)) (some (c - (1+i))),.v (.int .i64 0)] TE (0,0) none) ob→FK T aJ W b blk off l c m zs (.returned (.int .u64 (valN (t.take i)))) w':=by
   intro off' ho h0 h1 w' ν ob _ hν1 hA hob hor
   subst ho hT
   refine ⟨hA,.inl ⟨_,1+i,rfl,by omega,by omega,hkl,?_,by rw [hob,pX hν1 hor]⟩⟩
   rw [hnk,if_neg h0,if_neg h1,hz,Nat.add_comm 1 i,List.drop_succ_cons]
  have badE:∀ {f':Int},f'≠0→numR m zs=(0,f',[])→∀ w' (ν:aA) ob,ν 0=some (b,0)→ν 1=some (blk,0)→Alt (·=b) W w'→w'.heap[b]?=some ob→OR ν 0 (.row [.v (.slice none 0 0),.v (.int .i64 f')] TE (0,0) none) ob→FK T aJ W b blk off l c m zs (.returned (.int .u64 0)) w':=by
   intro f' hf hn w' ν ob _ _ hA hob hor
   subst hT
   exact ⟨hA,.inr ⟨f',hf,rfl,hn,by rw [hob,ic hor]⟩⟩
  by_cases hi0:i=0
  ·subst hi0
   have h0:¬ (((0:Nat):Int)≠0∧t.head?=some 0):=fun h=>h.1 rfl
   have h1:¬ m<valN (t.take 0):=by rw [List.take_zero];exact Nat.not_lt_zero _
   have t2:decide (((0:Nat):Int)>0)=false:=by decide
   have t3:decide ((valN (t.take 0):Int)>(m:Int))=false:=decide_eq_false (by omega)
   by_cases hc:c=1+0
   ·exact mc hM hos hk (Ew hcl hW hkl t1 t2 t3 hc) (okE _ (by unfold aJ;rw [if_pos hc]) h0 h1)
   ·exact mc hM hos hk (DR hcl hW hkl t1 t2 t3 hc) (okE _ (by unfold aJ;rw [if_neg hc]) h0 h1)
  ·have t2:decide ((i:Int)>0)=true:=decide_eq_true (by omega)
   have hr:ar (1:Int) l=true:=decide_eq_true ⟨by omega,by omega⟩
   cases t with
   | nil=>simp at htl;omega
   | cons d t=>
   have h1:xs[off+1]?=some (.v (.int .u8 d)):=by simpa using hx 0 d rfl
   by_cases hd0:d=0
   ·have t4:(d==(0:Int))=true:=by simpa using hd0
    exact mc hM hos hk (EV hcl t1 t2 hr h1 t4) (badE (by decide) (by rw [hnk,if_pos ⟨by omega,by rw [hd0];rfl⟩]))
   ·have t4:(d==(0:Int))=false:=by simpa using hd0
    have h0:¬ ((i:Int)≠0∧(d::t).head?=some 0):=fun h=>hd0 (by simpa using h.2)
    by_cases hv:m<valN ((d::t).take i)
    ·have t3:decide ((valN ((d::t).take i):Int)>(m:Int))=true:=decide_eq_true (by omega)
     exact mc hM hos hk (Fe hcl t1 t2 hr h1 t4 t3) (badE (by decide) (by rw [hnk,if_neg h0,if_pos hv]))
    ·have t3:decide ((valN ((d::t).take i):Int)>(m:Int))=false:=decide_eq_false (by omega)
     by_cases hc:c=1+i
     ·exact mc hM hos hk (DU hcl hW hkl t1 t2 hr h1 t4 t3 hc) (okE _ (by unfold aJ;rw [if_pos hc]) h0 hv)
     ·exact mc hM hos hk (Fx hcl hW hkl t1 t2 hr h1 t4 t3 hc) (okE _ (by unfold aJ;rw [if_neg hc]) h0 hv)
 | j+1,i,hj=>by
  have nx:=BA hM hos hk hm hz k8 hkl htl hlc dF hd hx hcl hT j (i+1) (by omega)
  have hi:i<(t.take k).length:=by rw [List.length_take];omega
  have hit:i<t.length:=by omega
  have hq:t[i]?=some t[i]:=List.getElem?_eq_getElem hit
  have hdi:=hd _ (List.getElem_mem hit)
  have hxi:=hx i _ hq
  have hlt:valN ((t.take k).take i)<256 ^ 7:=Nat.lt_of_lt_of_le (valN_lt (n:=i) (by rw [List.length_take];omega) fun z hz=>hd z (List.mem_of_mem_take (List.mem_of_mem_take hz))) (Nat.pow_le_pow_right (by decide) (by omega))
  rw [List.take_succ_eq_append_getElem hi,valN_snoc,List.getElem_take] at nx
  generalize t[i]=d at hdi hxi nx
  obtain ⟨y,rfl⟩:∃ y:Nat,d=y:=⟨d.toNat,by omega⟩
  rw [Int.toNat_natCast] at nx
  have ow:=JE (n:=valN ((t.take k).take i)) (d:=y) (by simpa using hlt) (by omega)
  have hi1:IntKind.i64.wrap (((i+1:Nat):Int)+(1:Int))=((i+1+1:Nat):Int):=cL (k:=i+1) (by omega)
  exact reach_due (Hu hcl (by rw [Int.toNat_natCast,show off+(i+1)*1=off+1+i*1 by omega];exact hxi) (decide_eq_true ⟨by omega,by omega⟩) (decide_eq_true (by omega)) ow hi1) (by kernel_rfl) (fun i b h=>ν2 h) nx
end
theorem xf {W:World} {b blk o l c m:Nat} {zs:List Int} (he:W.heap[b]?=some (eO TE (some ⟨blk,o,none⟩) l c 0)) (hb:BytesIn W blk o zs) (hl:zs.length=l) (hlc:l≤c) (dF:l≤140737488355328) (hne:blk≠b) (hz:∀ z∈zs,0≤z∧z<256) (hm:m<18446744073709551616):
  Calls Tryz.prog 92 #[.pointer (some ⟨b,0,none⟩),.int .u64 m] W (FK TE aJ W b blk o l c m zs):=by
 obtain ⟨cs,e,fz,hh,hoff,hc⟩:=hb
 have hcl:(ak bC o zs).all ae=true:=bO bC_closed
 refine cZ (E:=aQ) rfl (d:=6) (l:=[(b,0),(blk,0)]) (os:=[(.row [.sl 1 o l (some c),.v (.int .i64 0)] TE (0,0) none,true),(.look (ak bC o zs),false)]) (H:=fun _=>none) (T:=fun _=>False) rfl (by simp) (by simpa using fun e=>hne e.symm) ?_ (fun g i hg=>by cases hg) (fun _ _ hh=>by cases hh) (fun _ _ _ _ _ hh=>by cases hh)
  (args:=[.ptr 0 0,.v (.int .u64 m)]) (a:=[.pointer (some ⟨b,0,none⟩),.int .u64 m]) (S0:=kK m (gB o l c 0) (ak bC o zs)) (by kernel_rfl) (aj.cons (VR.aw.2 ⟨(b,0),rfl,rfl⟩) (aj.cons (VR.ab.2 rfl) aj.nil)) fun cs0 hk=>?_
 ·intro i o' m' b' c' q1 q2
  match i with
  | 0=>
   simp only [List.getElem?_cons_zero,Option.some.injEq] at q1 q2
   cases q1
   cases q2
   exact ⟨_,he,[.slice (some ⟨blk,o,none⟩) l c,.int .i64 0],[],rfl,aj.cons (VR.ay.2 ⟨(blk,0),rfl,hlc,rfl⟩) (aj.cons (VR.ab.2 rfl) aj.nil),rfl⟩
  | 1=>
   simp only [List.getElem?_cons_succ,List.getElem?_cons_zero,Option.some.injEq] at q1 q2
   cases q1
   cases q2
   exact ⟨_,hh,bW (h:=fun z=>[Value.int .u8 z]) (fun ν x=>aj.lits ν [Value.int .u8 x]) hoff (by rw [bC_flat];exact hc)⟩
  | i+2=>simp at q1
 have hos:∀ x∈([(SO.row [.sl 1 o l (some c),.v (.int .i64 0)] TE (0,0) none,true),(SO.look (ak bC o zs),false)]:List (SO × Bool)).tail,x.2=false:=fun x hx=>by simp at hx;rw [hx]
 have badE:∀ {f':Int},f'≠0→numR m zs=(0,f',[])→∀ w' (ν:aA) ob,ν 0=some (b,0)→ν 1=some (blk,0)→Alt (·=b) W w'→w'.heap[b]?=some ob→OR ν 0 (.row [.v (.slice none 0 0),.v (.int .i64 f')] TE (0,0) none) ob→FK TE aJ W b blk o l c m zs (.returned (.int .u64 0)) w':=by
  intro f' hf hn w' ν ob _ _ hA hob hor
  exact ⟨hA,.inr ⟨f',hf,rfl,hn,by rw [hob,ic hor]⟩⟩
 cases zs with
 | nil=>
  exact mc rfl hos hk (G3 hcl (by simpa using hl.symm)) (badE (by decide) rfl)
 | cons z t=>
  have hz0:=hz z List.mem_cons_self
  have hl':t.length=l - 1:=by simp at hl;omega
  have hl0:0<l:=by simp at hl;omega
  obtain ⟨k,rfl⟩:∃ k:Nat,z=k:=⟨z.toNat,by omega⟩
  have h0:=rows_at0 (off:=o) (z:=(k:Int)) (t:=t)
  have h0:(ak bC o ((k:Int)::t))[o+0]?=some (.v (.int .u8 (k:Int))):=by simpa using h0
  by_cases h8:8<(k:Int)
  ·exact mc rfl hos hk (GA hcl hl0 h8 (by omega) h0) (badE (by decide) (by rw [numR_cons,if_pos h8]))
  by_cases hE:(t.length:Int)<(k:Int)
  ·exact mc rfl hos hk (HF hcl hl0 (by omega) (by omega) h0) (badE (by decide) (by rw [numR_cons,if_neg h8,if_pos hE]))
  have nx:=BA (cs0:=cs0) (T:=TE) (xs:=ak bC o ((k:Int)::t)) (k:=k) (t:=t) (zs:=(k:Int)::t) (off:=o) (l:=l) (c:=c) rfl hos hk hm rfl (by omega) (by omega) hl' hlc dF (fun z h=>hz z (List.mem_cons_of_mem _ h)) (fun i d h=>rows_atS h) hcl rfl k 0 (by omega)
  rw [List.take_zero,show valN []=0 from rfl,show ((0:Nat):Int)=0 from rfl] at nx
  exact reach_due (Gu hcl hl0 (by omega) (by omega) h0) (by kernel_rfl) (fun i b h=>ν2 h) nx
end ez
end paths
end Go.Proofs.YtcbokmadfcedaaaGreatDoor
set_option linter.unusedSimpArgs false
set_option linter.unusedVariables false
set_option maxRecDepth 100000
namespace Go.Proofs.YtcbokmadfcedaaaGreatDoor
open Go Go.Rx Go.RowKit Go.Proofs
namespace paths
namespace ez
open eye (lkB numR valN numR_cons EyeAt RNum num_calls numTo numTo_cons advA)
open crc (bC bC_len bC_closed b_at cells_obj bC_flat)
structure di (xs:List SV) (o l:Nat) (zs:List Int):Prop where
 len:zs.length=l
 dF:l≤140737488355328
 oE:∀ z∈zs,0≤z∧z<256
 at':∀ (i:Nat) (z:Int),zs[i]?=some z→xs[o+i]?=some (.v (.int .u8 z))
theorem di.holds {xs:List SV} {o l:Nat} {zs:List Int} (h:di xs o l zs) {ν:aA} {w:World} {i:Nat} {b:Nat × Nat} {ob:Obj} (ho:w.heap[b.1]?=some ob) (hor:OR ν i (.look xs) ob) (hle:l≠0→True) (hsz:l=0→∀ c e fz,ob=.cells c e fz→o≤c.size):BytesIn w b.1 o zs:=by
 obtain ⟨ys,c,e,fz,rfl,hv,hc⟩:=hor
 have hat:∀ (k:Nat) (z:Int),zs[k]?=some z→c[o+k]?=some (.int .u8 z):=fun k z hk=>by
  obtain ⟨y,hy,hvr⟩:=hv.get (h.at' k z hk)
  rw [hc _ _ hy,VR.ab.1 hvr]
 refine ⟨c,e,fz,ho,?_,fun k v hk=>?_⟩
 ·by_cases hl:l=0
  ·exact hsz hl c e fz rfl
  ·have hl2:=h.len
   cases zs with
   | nil=>simp at hl2;omega
   | cons z t=>
    have:=hat 0 z rfl
    have:=(Array.getElem?_eq_some_iff.1 this).1
    omega
 ·rw [List.getElem?_map] at hk
  obtain ⟨z,hz,rfl⟩:=Option.map_eq_some_iff.1 hk
  exact hat k z hz
structure cq (T:TypeId) (adv:Nat→Nat→Nat→Nat) (e:TypeId) (fz:Nat × Nat) (f:Int) (xs:List SV) (m:Int) (i o l c:Nat) (n:Int) (i' o' l' c':Nat):Prop where
 ty:e=T
 fz0:fz=(0,0)
 f0:f=0
 i0:i'=i
 lc:l≤c
 ob:o≤xs.length
 ex:∃ (zs:List Int) (mm nn k:Nat),m=mm∧mm<18446744073709551616∧n=nn∧k≤l∧di xs o l zs∧numR mm zs=(nn,0,zs.drop k)∧o'=adv o c k∧l'=l - k∧c'=c - k
structure il (T:TypeId) (e:TypeId) (fz:Nat × Nat) (f:Int) (xs:List SV) (m:Int) (o l c:Nat) (f':Int):Prop where
 ty:e=T
 fz0:fz=(0,0)
 f0:f=0
 lc:l≤c
 ob:o≤xs.length
 ex:∃ (zs:List Int) (mm:Nat),m=mm∧mm<18446744073709551616∧di xs o l zs∧numR mm zs=(0,f',[])∧f'≠0
structure jg (T:TypeId) (e:TypeId) (fz:Nat × Nat) (f m:Int):Prop where
 ty:e=T
 fz0:fz=(0,0)
 f0:f≠0
 m0:0≤m
def qN (T:TypeId) (adv:Nat→Nat→Nat→Nat):Sum:=fun args s=>match args with
 | [.ptr j 0,.v (.int .u64 m)]=>match s.look j with
  | some (.row [.sl i o l (some c),.v (.int .i64 f)] e z none,true)=>match s.look i,s.orc s.dc with
   | some (.look xs,_),some (.cells [.v (.int .u64 n),.sl i' o' l' (some c')])=>some (.v (.int .u64 n),(s.dw (cq T adv e z f xs m i o l c n i' o' l' c')).put j (.row [.sl i' o' l' (some c'),.v (.int .i64 0)] e z none))
   | some (.look xs,_),some (.cells [.v (.int .i64 f')])=>some (.v (.int .u64 0),(s.dw (il T e z f xs m o l c f')).put j (.row [.v (.slice none 0 0),.v (.int .i64 f')] e z none))
   | _,_=>none
  | some (.row [.v (.slice none 0 0),.v (.int .i64 f)] e z none,true)=>some (.v (.int .u64 0),s.dw (jg T e z f m))
  | _=>none
 | _=>none
theorem en {ν:aA} {T:TypeId} {i j off l c:Nat} {f:Int} {ob:Obj} {b:Nat × Nat} (h1:ν i=some b) (h:OR ν j (.row [.sl i off l (some c),.v (.int .i64 f)] T (0,0) none) ob):ob=eO T (some ⟨b.1,off,none⟩) l c f:=by
 obtain ⟨ys,rest,rfl,hv,hx⟩:=h
 have hx:(ys++rest).length=2:=hx
 obtain ⟨y1,ys1,rfl,q1,hv⟩:=hv.cons_inv
 obtain ⟨y2,ys2,rfl,q2,hv⟩:=hv.cons_inv
 obtain rfl:=hv.aq
 obtain rfl:rest=[]:=List.length_eq_zero_iff.1 (by simpa using hx)
 obtain ⟨b',hb',_,rfl⟩:=VR.ay.1 q1
 rw [h1] at hb';cases hb'
 obtain rfl:=VR.ab.1 q2
 rfl
theorem told_plain {ν:aA} {T:TypeId} {j:Nat} {a:Option Addr} {l c:Nat} {f:Int} {ob:Obj} (h:OR ν j (.row [.v (.slice a l c),.v (.int .i64 f)] T (0,0) none) ob):ob=eO T a l c f:=by
 obtain ⟨ys,rest,rfl,hv,hx⟩:=h
 have hx:(ys++rest).length=2:=hx
 obtain ⟨y1,ys1,rfl,q1,hv⟩:=hv.cons_inv
 obtain ⟨y2,ys2,rfl,q2,hv⟩:=hv.cons_inv
 obtain rfl:=hv.aq
 obtain rfl:rest=[]:=List.length_eq_zero_iff.1 (by simpa using hx)
 obtain rfl:=VR.ab.1 q1
 obtain rfl:=VR.ab.1 q2
 rfl
structure Reads (P:Program) (g:FuncId) (T:TypeId) (adv:Nat→Nat→Nat→Nat):Prop where
 fn : ∃ fn, P.funcs[g]? = some fn ∧ fn.body.isSome = true ∧ (fn.name == "runtime.NumGoroutine") = false
 well:∀ {W:World} {b blk o l c m:Nat} {zs:List Int},W.heap[b]?=some (eO T (some ⟨blk,o,none⟩) l c 0)→BytesIn W blk o zs→zs.length=l→l≤c→l≤140737488355328→blk≠b→(∀ z∈zs,0≤z∧z<256)→m<18446744073709551616→
  Calls P g #[.pointer (some ⟨b,0,none⟩),.int .u64 m] W (FK T adv W b blk o l c m zs)
 bad:∀ {W:World} {b:Nat} {f m:Int},f≠0→0≤m→W.heap[b]?=some (eO T none 0 0 f)→Calls P g #[.pointer (some ⟨b,0,none⟩),.int .u64 m] W fun e w'=>Below W.heap.size W w'∧e=.returned (.int .u64 0)
theorem gz {ν:aA} {i:Nat} {xs:List SV} {c:Array Value} {e:TypeId} {fz:Nat × Nat} (h:OR ν i (.look xs) (.cells c e fz)):xs.length≤c.size:=by
 obtain ⟨ys,c',e',fz',hq,hv,hc⟩:=h
 cases hq
 have hl:=hv.length
 cases hn:xs.length with
 | zero=>exact Nat.zero_le _
 | succ n=>
  have hlt:n<ys.length:=by omega
  have:=hc n _ (List.getElem?_eq_getElem hlt)
  exact (Array.getElem?_eq_some_iff.1 this).1
theorem Reads.sum {P:Program} {g:FuncId} {T:TypeId} {adv:Nat→Nat→Nat→Nat} (h:Reads P g T adv) {X:World→Prop}:jI P X (g,qN T adv):=by
 refine ⟨h.fn,fun args x s s' hx ob=>?_⟩
 dsimp only at hx
 unfold qN at hx
 split at hx
 ·rename_i j m
  split at hx
  ·rename_i i o l c f e z hlj
   split at hx
   ·rename_i xs mk n i' o' l' c' hli _
    cases hx
    obtain ⟨ob0,hP⟩:s.ob∧cq T adv e z f xs m i o l c n i' o' l' c':=⟨ob.1,ob.2⟩
    obtain ⟨rfl,rfl,rfl,rfl,hlc,hox,zs,mm,nn,k,rfl,hmm,rfl,hkl,hB,hnum,rfl,rfl,rfl⟩:=hP
    refine ⟨ob0,fun ν M w0 w a hr hX ha=>?_⟩
    obtain ⟨y1,as1,rfl,q1,ha2⟩:=ha.cons_inv
    obtain ⟨y2,as2,rfl,q2,ha3⟩:=ha2.cons_inv
    obtain rfl:=ha3.aq
    obtain ⟨b,hb,rfl⟩:=VR.aw.1 q1
    obtain rfl:=VR.ab.1 q2
    obtain ⟨hj1,hj2,b',obj,hb',hobj,horj,_⟩:=hr.look hlj
    rw [hb] at hb';cases hb'
    obtain ⟨hi1,hi2,bi,obi,hbi,hobi,hori,_⟩:=hr.look hli
    have hne:bi.1≠b.1:=fun e=>by
     have:=hr.inj i' j hi1 hj1 (by rw [hi2];simp) (by rw [hj2];simp) bi b hbi hb e
     subst this
     rw [hlj] at hli;cases hli
    rw [en hbi horj] at hobj
    have hBI:BytesIn w bi.1 o zs:=hB.holds hobi hori (fun _=>trivial) fun _ c e fz hq=>by subst hq;exact Nat.le_trans hox (gz hori)
    refine (h.well hobj hBI hB.len hlc hB.dF hne hB.oE hmm).mono fun e w' ⟨hA,hres⟩=>?_
    rcases hres with ⟨n',k',rfl,_,_,hk',hn',hw'⟩ | ⟨f',hf',_,hn',_⟩
    ·rw [hnum] at hn'
     obtain ⟨rfl,hdr⟩:nn=n'∧zs.drop k=zs.drop k':=by simpa using hn'
     have hkk:k=k':=by
      have:=congrArg List.length hdr
      rw [List.length_drop,List.length_drop,hB.len] at this
      omega
     subst hkk
     exact ⟨_,rfl,.jn (s.dw _) j _ _ b _ (SH.aH _ _) hlj rfl hb hw' ⟨[.slice (some ⟨bi.1,adv o c k,none⟩) (l - k) (c - k),.int .i64 0],[],rfl,aj.cons (VR.ay.2 ⟨bi,hbi,by simp only [Option.getD_some];omega,rfl⟩) (aj.cons (VR.ab.2 rfl) aj.nil),rfl⟩ hA.but (VR.ab.2 rfl)⟩
    ·rw [hnum] at hn'
     have:(0:Int)=f':=by simp only [Prod.mk.injEq] at hn';exact hn'.2.1
     exact absurd this.symm hf'
   ·rename_i xs mk f' hli _
    cases hx
    obtain ⟨ob0,hP⟩:s.ob∧il T e z f xs m o l c f':=⟨ob.1,ob.2⟩
    obtain ⟨rfl,rfl,rfl,hlc,hox,zs,mm,rfl,hmm,hB,hnum,hf'⟩:=hP
    refine ⟨ob0,fun ν M w0 w a hr hX ha=>?_⟩
    obtain ⟨y1,as1,rfl,q1,ha2⟩:=ha.cons_inv
    obtain ⟨y2,as2,rfl,q2,ha3⟩:=ha2.cons_inv
    obtain rfl:=ha3.aq
    obtain ⟨b,hb,rfl⟩:=VR.aw.1 q1
    obtain rfl:=VR.ab.1 q2
    obtain ⟨hj1,hj2,b',obj,hb',hobj,horj,_⟩:=hr.look hlj
    rw [hb] at hb';cases hb'
    obtain ⟨hi1,hi2,bi,obi,hbi,hobi,hori,_⟩:=hr.look hli
    have hne:bi.1≠b.1:=fun e=>by
     have:=hr.inj i j hi1 hj1 (by rw [hi2];simp) (by rw [hj2];simp) bi b hbi hb e
     subst this
     rw [hlj] at hli;cases hli
    rw [en hbi horj] at hobj
    have hBI:BytesIn w bi.1 o zs:=hB.holds hobi hori (fun _=>trivial) fun _ c e fz hq=>by subst hq;exact Nat.le_trans hox (gz hori)
    refine (h.well hobj hBI hB.len hlc hB.dF hne hB.oE hmm).mono fun e w' ⟨hA,hres⟩=>?_
    rcases hres with ⟨n',k',_,_,_,_,hn',_⟩ | ⟨f'',_,rfl,hn',hw'⟩
    ·rw [hnum] at hn'
     have:f'=(0:Int):=by simp only [Prod.mk.injEq] at hn';exact hn'.2.1
     exact absurd this hf'
    ·rw [hnum] at hn'
     obtain rfl:f'=f'':=by simp only [Prod.mk.injEq] at hn';exact hn'.2.1
     exact ⟨_,rfl,.jn (s.dw _) j _ _ b _ (SH.aH _ _) hlj rfl hb hw' ⟨[.slice none 0 0,.int .i64 f'],[],rfl,aj.cons (VR.ab.2 rfl) (aj.cons (VR.ab.2 rfl) aj.nil),rfl⟩ hA.but (VR.ab.2 rfl)⟩
   ·cases hx
  ·rename_i f e z hlj
   cases hx
   obtain ⟨ob0,hP⟩:s.ob∧jg T e z f m:=⟨ob.1,ob.2⟩
   obtain ⟨rfl,rfl,hf,hm0⟩:=hP
   refine ⟨ob0,fun ν M w0 w a hr hX ha=>?_⟩
   obtain ⟨y1,as1,rfl,q1,ha2⟩:=ha.cons_inv
   obtain ⟨y2,as2,rfl,q2,ha3⟩:=ha2.cons_inv
   obtain rfl:=ha3.aq
   obtain ⟨b,hb,rfl⟩:=VR.aw.1 q1
   obtain rfl:=VR.ab.1 q2
   obtain ⟨hj1,hj2,b',obj,hb',hobj,horj,_⟩:=hr.look hlj
   rw [hb] at hb';cases hb'
   rw [told_plain horj] at hobj
   exact (h.bad hf hm0 hobj).mono fun e w' ⟨hB,he⟩=>⟨_,he,.old hB (.same (SH.aH _ _) (VR.ab.2 rfl))⟩
  ·cases hx
 ·cases hx
theorem qP {W w':World} {b:Nat} {o:Obj} (hA:Alt (·=b) W w') (h:W.heap[b]?=some o) (h':w'.heap[b]?=some o):Below W.heap.size W w':=
 ⟨hA.os,hA.tape,hA.output,hA.size,fun k hk=>by
  by_cases e:k=b
  ·rw [e,h',h]
  ·exact hA.block k hk e⟩
theorem F7 {W:World} {b:Nat} {cs0:List Frame} {H:Hp} {R:Ending→World→Prop} {g:FuncId} {S:SM} {k:Nat} {o:List (Nat × c9)} {y0:Value} {so so':SO} (hk:gl (mo [(b,0)] [(so,true)] fun _=>False) W H (az [(b,0)] [(so,true)]) W)
  (hrun:cp (aB aQ g k S o [(0,0)] [] (.v y0) [some (so',true)])) (hR:∀ w' (ν:aA) ob,ν 0=some (b,0)→Alt (·=b) W w'→w'.heap[b]?=some ob→OR ν 0 so' ob→R (.returned y0) w'):ao aQ (az [(b,0)] [(so,true)]) W cs0 g R (ax [(b,0)]) S:=by
 refine ao.aB kR hrun.out fun ν' w' y hle hv hE hex=>?_
 obtain rfl:=VR.ab.1 hv
 have hA:=(eye.iT hk hex).mono (T':=(·=b)) fun k _ hk'=>eye.tF (fun x hx=>by cases hx) hk'
 obtain ⟨b',ob,hb',hob,hor,_⟩:=hE.obj 0 _ _ rfl
 have mI:(ν'.ren [(0,0)]) 0=some (b,0):=hle 0 (b,0) rfl
 rw [mI] at hb';cases hb'
 exact hR w' _ ob mI hA hob hor
theorem DV {m f:Int} {a:Option Addr} {l c:Nat} (hf:f≠0):cp (aB aQ 92 400 (yE m (I3 a l c f)) (ff [0] true++[(1000,.b true)]) [(0,0)] [] (.v (.int .u64 0)) [I3 a l c f]):=by
 have e1:(f==(0:Int))=false:=by simpa using hf
 exact ⟨by rw [L6 (off:=0) (z:=0) (d:=0) (n:=0) (n':=0) (K:=0) (i:=0) (i':=0) (xs:=[])];simp only [af,e1,Bool.not_false,and_self,and_true,true_and]⟩
theorem DO {W:World} {b:Nat} {a:Option Addr} {l c:Nat} {f m:Int} (hf:f≠0) (hm:0≤m) (he:W.heap[b]?=some (eO TE a l c f)):Calls Tryz.prog 92 #[.pointer (some ⟨b,0,none⟩),.int .u64 m] W fun e w'=>Below W.heap.size W w'∧e=.returned (.int .u64 0):=by
 refine cZ (E:=aQ) rfl (d:=6) (l:=[(b,0)]) (os:=[(.row [.v (.slice a l c),.v (.int .i64 f)] TE (0,0) none,true)]) (H:=fun _=>none) (T:=fun _=>False) rfl (by simp) (by simp) ?_ (fun g i hg=>by cases hg) (fun _ _ hh=>by cases hh) (fun _ _ _ _ _ hh=>by cases hh)
  (args:=[.ptr 0 0,.v (.int .u64 m)]) (a:=[.pointer (some ⟨b,0,none⟩),.int .u64 m]) (S0:=yE m (I3 a l c f)) (by kernel_rfl) (aj.cons (VR.aw.2 ⟨(b,0),rfl,rfl⟩) (aj.cons (VR.ab.2 rfl) aj.nil)) fun cs0 hk=>?_
 ·intro i o' m' b' c' q1 q2
  match i with
  | 0=>
   simp only [List.getElem?_cons_zero,Option.some.injEq] at q1 q2
   cases q1
   cases q2
   exact ⟨_,he,[.slice a l c,.int .i64 f],[],rfl,aj.cons (VR.ab.2 rfl) (aj.cons (VR.ab.2 rfl) aj.nil),rfl⟩
  | i+1=>simp at q1
 exact F7 hk (DV hf) fun w' ν ob _ hA hob hor=>⟨qP hA he (by rw [hob,told_plain hor]),rfl⟩
theorem mW:Reads Tryz.prog 92 TE aJ:=⟨⟨_,Tryz.func92,by kernel_rfl,by kernel_rfl⟩,fun h1 h2 h3 h4 h5 h6 h7 h8=>xf h1 h2 h3 h4 h5 h6 h7 h8,fun h1 h2 h3=>DO h1 h2 h3⟩
abbrev TG:TypeId:=247
def aT (o c k:Nat):Nat:=if c=1 then o else if c=k then o+1 else o+k
theorem pD {m:Nat} {zs:List Int} {n:Nat} {t:List Int} (h:numR m zs=(n,0,t)):∃ z r,zs=z::r∧¬ 8<z∧¬ (r.length:Int)<z∧t=r.drop z.toNat∧n≤m:=by
 cases zs with
 | nil=>cases h
 | cons z r=>
  rw [numR_cons] at h
  split at h
  ·simp at h
  rename_i h8
  split at h
  ·simp at h
  rename_i hE
  split at h
  ·simp at h
  split at h
  ·simp at h
  rename_i hm
  simp only [Prod.mk.injEq,true_and] at h
  exact ⟨z,r,rfl,h8,hE,h.2.symm,by omega⟩
theorem Df {W:World} {b blk o l c m:Nat} {zs:List Int} (he:W.heap[b]?=some (eO TG (some ⟨blk,o,none⟩) l c 0)) (hb:BytesIn W blk o zs) (hl:zs.length=l) (hlc:l≤c) (dF:l≤140737488355328) (hne:blk≠b) (hz:∀ z∈zs,0≤z∧z<256) (hm:m<18446744073709551616):
  Calls Tryz.prog 123 #[.pointer (some ⟨b,0,none⟩),.int .u64 m] W (FK TG aT W b blk o l c m zs):=by
 obtain ⟨cs,e,fz,hh,hoff,hc⟩:=hb
 have hE:EyeAt W b (some ⟨blk,o,none⟩) l c 0 zs:=⟨he,by have:=eye.kj hh hc (by omega);rw [hl] at this;exact this,hlc,fun ad h=>by cases h;exact hne,hz⟩
 refine (num_calls hE hm).mono fun e' w' hRN=>?_
 obtain ⟨hA,n,f',zs',a',l',c',rfl,hE',hr⟩:=hRN
 rcases hr with ⟨h0,_⟩ | ⟨_,hn,hto⟩
 ·exact absurd rfl h0
 by_cases hf:f'=0
 ·subst hf
  obtain ⟨z,r,rfl,h8,hEr,rfl,hnm⟩:=pD hn
  have hz0:=hz z List.mem_cons_self
  obtain ⟨k,rfl⟩:∃ k:Nat,z=k:=⟨z.toNat,by omega⟩
  rw [Int.toNat_natCast] at hn
  have hrl:r.length=l - 1:=by simp at hl;omega
  have hl0:0<l:=by simp at hl;omega
  rw [numTo_cons,if_pos (by rw [hn]),Int.toNat_natCast] at hto
  simp only [Prod.mk.injEq] at hto
  obtain ⟨rfl,rfl,rfl⟩:=hto
  refine ⟨hA,.inl ⟨n,1+k,rfl,hnm,by omega,by omega,by rw [hn,Nat.add_comm 1 k,List.drop_succ_cons],?_⟩⟩
  rw [hE'.eye]
  have e1:advA (some (⟨blk,o,none⟩:Addr)) c k=some ⟨blk,aT o c (1+k),none⟩:=by
   unfold advA aT
   simp only [Option.map_some,Option.some.injEq,Addr.mk.injEq,true_and,and_true]
   by_cases q1:c=1
   ·rw [if_pos q1,if_pos q1]
   ·rw [if_neg q1,if_neg q1]
    by_cases q2:c - 1=k
    ·rw [if_pos q2,if_pos (by omega)]
    ·rw [if_neg q2,if_neg (by omega)];omega
  rw [e1,show l - 1 - k=l - (1+k) by omega,show c - 1 - k=c - (1+k) by omega];rfl
 ·have hn0:n=0∧zs'=[]:=by
   have:=hn
   cases zs with
   | nil=>cases this;exact ⟨rfl,rfl⟩
   | cons z r=>
    rw [numR_cons] at this
    split at this
    ·cases this;exact ⟨rfl,rfl⟩
    split at this
    ·cases this;exact ⟨rfl,rfl⟩
    split at this
    ·cases this;exact ⟨rfl,rfl⟩
    split at this
    ·cases this;exact ⟨rfl,rfl⟩
    ·cases this;exact absurd rfl hf
  obtain ⟨rfl,rfl⟩:=hn0
  rw [eye.rk hn hf] at hto
  simp only [Prod.mk.injEq] at hto
  obtain ⟨rfl,rfl,rfl⟩:=hto
  exact ⟨hA,.inr ⟨f',hf,rfl,hn,hE'.eye⟩⟩
theorem D0 {W:World} {b:Nat} {a:Option Addr} {l c:Nat} {f m:Int} (hf:f≠0) (hm:0≤m) (he:W.heap[b]?=some (eO TG a l c f)):Calls Tryz.prog 123 #[.pointer (some ⟨b,0,none⟩),.int .u64 m] W fun e w'=>Below W.heap.size W w'∧e=.returned (.int .u64 0):=by
 refine cZ (E:=aQ) rfl (d:=6) (l:=[(b,0)]) (os:=[(.row [.v (.slice a l c),.v (.int .i64 f)] TG (0,0) none,true)]) (H:=fun _=>none) (T:=fun _=>False) rfl (by simp) (by simp) ?_ (fun g i hg=>by cases hg) (fun _ _ hh=>by cases hh) (fun _ _ _ _ _ hh=>by cases hh)
  (args:=[.ptr 0 0,.v (.int .u64 m)]) (a:=[.pointer (some ⟨b,0,none⟩),.int .u64 m]) (S0:=eye.kW m (eye.En a l c f)) (by kernel_rfl) (aj.cons (VR.aw.2 ⟨(b,0),rfl,rfl⟩) (aj.cons (VR.ab.2 rfl) aj.nil)) fun cs0 hk=>?_
 ·intro i o' m' b' c' q1 q2
  match i with
  | 0=>
   simp only [List.getElem?_cons_zero,Option.some.injEq] at q1 q2
   cases q1
   cases q2
   exact ⟨_,he,[.slice a l c,.int .i64 f],[],rfl,aj.cons (VR.ab.2 rfl) (aj.cons (VR.ab.2 rfl) aj.nil),rfl⟩
  | i+1=>simp at q1
 exact F7 hk (eye.zO hf) fun w' ν ob _ hA hob hor=>⟨qP hA he (by rw [hob,told_plain hor]),rfl⟩
theorem sA:Reads Tryz.prog 123 TG aT:=⟨⟨_,Tryz.func123,by kernel_rfl,by kernel_rfl⟩,fun h1 h2 h3 h4 h5 h6 h7 h8=>Df h1 h2 h3 h4 h5 h6 h7 h8,fun h1 h2 h3=>D0 h1 h2 h3⟩
end ez
end paths
end Go.Proofs.YtcbokmadfcedaaaGreatDoor
set_option linter.unusedSimpArgs false
set_option linter.unusedVariables false
set_option maxRecDepth 100000
namespace Go.Proofs.YtcbokmadfcedaaaGreatDoor
open Go Go.Rx Go.RowKit Go.Proofs
namespace paths
namespace ez
open eye (lkB)
structure gE (xs:List SV) (o n:Nat) (a:Array Value):Prop where
 ob:o≤xs.length
 ex:∃ zs,di xs o n zs∧a=(zs.map (Value.int .u8)).toArray
def si:Sum:=fun args s=>match args with
 | [.v (.slice a l c)]=>some (.v (.slice none 0 0),s.dw (a=none))
 | [.sl i o n (some c)]=>match s.look i,s.orc s.dc with
  | some (.look xs,_),some (.cells [.v (.agg a)])=>(cC (.row (a.toList.map SV.v) 5 (0,0) (some 1)) (s.dw (gE xs o n a))).map fun r=>(.sl r.1 0 n none,r.2)
  | _,_=>none
 | _=>none
theorem oX {X:World→Prop}:cF Tryz.prog X (117,si):=by
 refine ⟨⟨_,Tryz.func117,by kernel_rfl,by kernel_rfl⟩,fun args x s s' hx ob=>?_⟩
 dsimp only at hx
 unfold si at hx
 split at hx
 ·rename_i a l c
  cases hx
  obtain ⟨ob0,rfl⟩:s.ob∧a=none:=⟨ob.1,ob.2⟩
  refine ⟨ob0,fun ν M w0 w a hr hX ha=>?_⟩
  obtain ⟨y1,as1,rfl,q1,ha2⟩:=ha.cons_inv
  obtain rfl:=ha2.aq
  obtain rfl:=VR.ab.1 q1
  exact (Any.bytes_Clone_nil uk l c w).mono fun e w' ⟨he,hw⟩=>⟨by rw [hw];exact Below.refl _ _,_,he,.same (SH.aH _ _) (VR.ab.2 rfl)⟩
 ·rename_i i o n c
  split at hx
  ·rename_i xs mk a hli _
   obtain ⟨⟨k,s1⟩,hn,hx⟩:=Option.map_eq_some_iff.1 hx
   cases hx
   unfold cC at hn
   cases hroom:(s.dw (gE xs o n a)).room
   ·rw [hroom] at hn;cases hn
   rw [hroom] at hn
   simp only [cond_true] at hn
   cases hn
   obtain ⟨ob0,hP⟩:s.ob∧gE xs o n a:=⟨ob.1,ob.2⟩
   obtain ⟨hox,zs,hB,rfl⟩:=hP
   refine ⟨ob0,fun ν M w0 w a hr hX ha=>?_⟩
   obtain ⟨y1,as1,rfl,q1,ha2⟩:=ha.cons_inv
   obtain rfl:=ha2.aq
   obtain ⟨bi,hbi,hnc,rfl⟩:=VR.ay.1 q1
   obtain ⟨hi1,hi2,bi',obi,hbi',hobi,hori,_⟩:=hr.look hli
   rw [hbi] at hbi';cases hbi'
   obtain ⟨cs,e,fz,hh,hoff,hc⟩:BytesIn w bi.1 o zs:=hB.holds hobi hori (fun _=>trivial) fun _ c e fz hq=>by subst hq;exact Nat.le_trans hox (gz hori)
   have hcell:∀ j,j<n→w.cell? ((⟨bi.1,o,none⟩:Addr).add j)=some (.int .u8 (zs.getD j 0)):=fun j hj=>by
    have hadd:(⟨bi.1,o,none⟩:Addr).add j=⟨bi.1,o+j,none⟩:=by
     unfold Addr.add
     split
     ·rename_i h;subst h;rfl
     ·rfl
    have hlt:j<zs.length:=by rw [hB.len];exact hj
    rw [hadd]
    show w.cell? ⟨bi.1,o+j,none⟩=_
    unfold World.cell?
    rw [hh]
    have:=hc j (.int .u8 (zs.getD j 0)) (by rw [List.getElem?_map,List.getElem?_eq_getElem hlt,List.getD_eq_getElem?_getD,List.getElem?_eq_getElem hlt];rfl)
    exact this
   refine (Any.bytes_Clone_at uk ⟨bi.1,o,none⟩ n _ zs w hB.len hB.dF hcell).mono fun e w' ⟨v',he,⟨hlen,ho⟩,hv,hBl⟩=>⟨hBl,v',he,?_⟩
   rcases ho with ⟨h0,_⟩ | ⟨g,cap,cur,rfl,hg,hh',hnc',_,hsz,hcur⟩
   ·exact absurd h0 hv
   ·have hcur':(zs.map (Value.int .u8))++cur.toList.drop n=cur.toList:=by
     have h:=hcur
     rw [Nat.mul_one] at h
     rw [← h,List.take_append_drop]
    have hzl:=hB.len
    refine .made (s.dw _) _ g cap _ (SH.aH _ _) hroom rfl hg hh' ⟨zs.map (Value.int .u8),cur.toList.drop n,?_,aj.lits _ _,?_,(g,cap),aA.aU _ _ _,?_⟩ (VR.ay.2 ⟨(g,cap),aA.aU _ _ _,hnc',rfl⟩)
    ·rw [hcur'];rfl
    ·simp
    ·rw [hcur'];simpa using hsz
  ·cases hx
 ·cases hx
def sW:Sum:=fun args s=>match args with
 | [.agg [.v (.string p),.v (.int .u64 v),.v (.int .i64 k),.sl _ _ l _]]=>some (.v (.int .i64 (bw p v k l)),s.dw (p.size≤1000000000∧0≤v∧v<18446744073709551616))
 | _=>eD nD args s
theorem j6 {f:FuncId} {X:World→Prop} (h:bH Tryz.prog X (f,nD)):cF Tryz.prog X (f,sW):=by
 refine ⟨h.1,fun args x s s' hx ob=>?_⟩
 dsimp only at hx
 unfold sW at hx
 split at hx
 ·rename_i p v k i o l c
  cases hx
  refine ⟨ob.1,fun ν M w0 w a hr hX ha=>?_⟩
  obtain ⟨y1,as1,rfl,q1,ha2⟩:=ha.cons_inv
  obtain rfl:=ha2.aq
  obtain ⟨g,rfl,hg⟩:=VR.aW.1 q1
  obtain ⟨g1,g,rfl,p1,hg⟩:=hg.cons_inv
  obtain ⟨g2,g,rfl,p2,hg⟩:=hg.cons_inv
  obtain ⟨g3,g,rfl,p3,hg⟩:=hg.cons_inv
  obtain ⟨g4,g,rfl,p4,hg⟩:=hg.cons_inv
  obtain rfl:=hg.aq
  obtain rfl:=VR.ab.1 p1
  obtain rfl:=VR.ab.1 p2
  obtain rfl:=VR.ab.1 p3
  obtain ⟨b,_,_,rfl⟩:=VR.ay.1 p4
  exact (h.2 _ _ _ rfl ob.2 w hX).mono fun e w' ⟨hB,he⟩=>⟨hB,_,he,.same (SH.aH _ _) (VR.ab.2 rfl)⟩
 ·exact (cF.pure h).2 _ _ _ _ hx ob
noncomputable def KV:List (FuncId × Sum):=[(92,qN TE aJ),(133,sW)]
noncomputable def mQ:Env:={ EP [] [] with sums:=fun f=>KV.lookup f }
theorem Ao {M:Own} {w0:World}:aE mQ M w0:=
 aE.AR (Checked.mixed Tryz.checked) (by kernel_rfl) (eR.of ji rfl dL) (cV.oI (X:=fun _=>True) (l:=KV) rfl (fun r h=>by
  simp only [KV,List.mem_cons,List.not_mem_nil,or_false] at h
  rcases h with rfl | rfl
  ·exact mW.sum
  ·exact (j6 uY).t) fun ν s w hr _=>trivial) (fun f g h=>by cases h)
noncomputable def mB (n:Int) (o l c:Nat) (xs:List SV):SM:=(aS aQ 156 [.ptr 0 0,.v (.int .i64 n)] (bc 6 2 0 [eye.gb o l c 0,lkB xs])).getD dx
noncomputable def jC (m:Int) (o l c:Nat) (xs:List SV):SM:=(aS mQ 131 [.ptr 0 0,.v (.int .i64 m)] (bc 6 2 0 [gB o l c 0,lkB xs])).getD dx
noncomputable def Bq (m f:Int):SM:=(aS mQ 131 [.ptr 0 0,.v (.int .i64 m)] (bc 6 1 0 [pA f])).getD dx
def oN (n1 o1 l1 c1:Nat):Nat × c9:=(1,.cells [.v (.int .u64 n1),.sl 1 o1 l1 (some c1)])
theorem MF (n:Int) (o l c:Nat) (xs:List SV):aB aQ 156 200 (mB n o l c xs) (ff [0] true++[(1000,.b true)]) [(0,0),(1,1)] [1] (.v (.slice none 0 0)) [eye.iy 11,lkB xs]=[Value.slice none 0 0=Value.slice none 0 0,Value.slice none 0 0=Value.slice none 0 0,vZ 11=vZ 11,xs=xs,xs.all ae=true,decide (n>(↑l:Int))=true]:=by kernel_rfl
theorem Mo (n:Int) (o l c:Nat) (xs:List SV):aB aQ 156 200 (mB n o l c xs) (ff [0] false++ff [2,4] true++[(1000,.b true)]) [(0,0),(1,1)] [1] (.sl 1 o n.toNat (some c)) [eye.gb o (l - n.toNat) (c - n.toNat) 0,lkB xs]=[o=o∧n.toNat - 0=n.toNat∧some (c - 0)=some c,o=o∧l - n.toNat=l - n.toNat∧some (c - n.toNat)=some (c - n.toNat),vZ 0=vZ 0,xs=xs,xs.all ae=true,decide (c=n.toNat)=true,decide (0≤n∧n≤(↑l:Int))=true,decide (c=0)=true,decide (0≤n∧n≤(↑c:Int))=true,decide (n>(↑l:Int))=false]:=by kernel_rfl
theorem Nz (n:Int) (o l c:Nat) (xs:List SV):aB aQ 156 200 (mB n o l c xs) (ff [0,2] false++ff [4] true++[(1000,.b true)]) [(0,0),(1,1)] [1] (.sl 1 o n.toNat (some c)) [eye.gb o (l - n.toNat) (c - n.toNat) 0,lkB xs]=[o+0=o∧n.toNat - 0=n.toNat∧some (c - 0)=some c,o=o∧l - n.toNat=l - n.toNat∧some (c - n.toNat)=some (c - n.toNat),vZ 0=vZ 0,xs=xs,xs.all ae=true,decide (c=n.toNat)=true,decide (0≤n∧n≤(↑l:Int))=true,decide (c=0)=false,decide (0≤n∧n≤(↑c:Int))=true,decide (n>(↑l:Int))=false]:=by kernel_rfl
theorem OX (n:Int) (o l c:Nat) (xs:List SV):aB aQ 156 200 (mB n o l c xs) (ff [0,2,4] false++[(1000,.b true)]) [(0,0),(1,1)] [1] (.sl 1 o n.toNat (some c)) [eye.gb (o+n.toNat) (l - n.toNat) (c - n.toNat) 0,lkB xs]=[o+0=o∧n.toNat - 0=n.toNat∧some (c - 0)=some c,o+n.toNat*1=o+n.toNat∧l - n.toNat=l - n.toNat∧some (c - n.toNat)=some (c - n.toNat),vZ 0=vZ 0,xs=xs,xs.all ae=true,decide (c=n.toNat)=false,decide (0≤n∧n≤(↑l:Int))=true,decide (c=0)=false,decide (0≤n∧n≤(↑c:Int))=true,decide (n>(↑l:Int))=false]:=by kernel_rfl
theorem Nl (m f:Int):aB mQ 131 200 (Bq m f) (ff [0] true++[(1000,.b true)]++ff (List.range 10) true) [(0,0)] [] (.v (.slice none 0 0)) [pA f]=[Value.slice none 0 0=Value.slice none 0 0,Value.slice none 0 0=Value.slice none 0 0,vZ f=vZ f,(!f==0)=true,jg 169 169 (0,0) f (IntKind.u64.wrap m),decide (m≥0)=true]:=by kernel_rfl
theorem O2 (m f':Int) (o l c:Nat) (xs:List SV):aB mQ 131 200 (jC m o l c xs) ([(1,.cells [.v (.int .i64 f')])]++ff [0] true++ff (List.range 10) true) [(0,0),(1,1)] [1] (.v (.slice none 0 0)) [pA f',lkB xs]=[Value.slice none 0 0=Value.slice none 0 0,Value.slice none 0 0=Value.slice none 0 0,vZ f'=vZ f',xs=xs,xs.all ae=true,(!f'==0)=true,il 169 169 (0,0) 0 xs (IntKind.u64.wrap m) o l c f',decide (m≥0)=true]:=by kernel_rfl
theorem NG (m:Int) (o l c n1 o1 l1 c1:Nat) (xs:List SV):aB mQ 131 200 (jC m o l c xs) ([oN n1 o1 l1 c1]++ff [0,3] true) [(0,0),(1,1)] [1] (.v (.slice none 0 0)) [pA 11,lkB xs]=[Value.slice none 0 0=Value.slice none 0 0,Value.slice none 0 0=Value.slice none 0 0,vZ 11=vZ 11,xs=xs,xs.all ae=true,decide (IntKind.i64.wrap (↑n1:Int)>(↑l1:Int))=true,cq 169 aJ 169 (0,0) 0 xs (IntKind.u64.wrap m) 1 o l c (↑n1:Int) 1 o1 l1 c1,decide (m≥0)=true]:=by kernel_rfl
theorem Oe (m:Int) (o l c n1 o1 l1 c1:Nat) (xs:List SV):aB mQ 131 200 (jC m o l c xs) ([oN n1 o1 l1 c1]++ff [0] true++ff [3] false++ff [5,7] true) [(0,0),(1,1)] [1] (.sl 1 o1 (IntKind.i64.wrap n1).toNat (some c1)) [gB o1 (l1 - (IntKind.i64.wrap n1).toNat) (c1 - (IntKind.i64.wrap n1).toNat) 0,lkB xs]=[o1=o1∧(IntKind.i64.wrap (↑n1:Int)).toNat - 0=(IntKind.i64.wrap (↑n1:Int)).toNat∧some (c1 - 0)=some c1,o1=o1∧l1 - (IntKind.i64.wrap (↑n1:Int)).toNat=l1 - (IntKind.i64.wrap (↑n1:Int)).toNat∧some (c1 - (IntKind.i64.wrap (↑n1:Int)).toNat)=some (c1 - (IntKind.i64.wrap (↑n1:Int)).toNat),vZ 0=vZ 0,xs=xs,xs.all ae=true,decide (c1=(IntKind.i64.wrap (↑n1:Int)).toNat)=true,decide (0≤IntKind.i64.wrap (↑n1:Int)∧IntKind.i64.wrap (↑n1:Int)≤(↑l1:Int))=true,decide (c1=0)=true,decide (0≤IntKind.i64.wrap (↑n1:Int)∧IntKind.i64.wrap (↑n1:Int)≤(↑c1:Int))=true,decide (IntKind.i64.wrap (↑n1:Int)>(↑l1:Int))=false,cq 169 aJ 169 (0,0) 0 xs (IntKind.u64.wrap m) 1 o l c (↑n1:Int) 1 o1 l1 c1,decide (m≥0)=true]:=by kernel_rfl
theorem NJ (m:Int) (o l c n1 o1 l1 c1:Nat) (xs:List SV):aB mQ 131 200 (jC m o l c xs) ([oN n1 o1 l1 c1]++ff [0] true++ff [3,5] false++ff [7] true) [(0,0),(1,1)] [1] (.sl 1 o1 (IntKind.i64.wrap n1).toNat (some c1)) [gB o1 (l1 - (IntKind.i64.wrap n1).toNat) (c1 - (IntKind.i64.wrap n1).toNat) 0,lkB xs]=[o1+0=o1∧(IntKind.i64.wrap (↑n1:Int)).toNat - 0=(IntKind.i64.wrap (↑n1:Int)).toNat∧some (c1 - 0)=some c1,o1=o1∧l1 - (IntKind.i64.wrap (↑n1:Int)).toNat=l1 - (IntKind.i64.wrap (↑n1:Int)).toNat∧some (c1 - (IntKind.i64.wrap (↑n1:Int)).toNat)=some (c1 - (IntKind.i64.wrap (↑n1:Int)).toNat),vZ 0=vZ 0,xs=xs,xs.all ae=true,decide (c1=(IntKind.i64.wrap (↑n1:Int)).toNat)=true,decide (0≤IntKind.i64.wrap (↑n1:Int)∧IntKind.i64.wrap (↑n1:Int)≤(↑l1:Int))=true,decide (c1=0)=false,decide (0≤IntKind.i64.wrap (↑n1:Int)∧IntKind.i64.wrap (↑n1:Int)≤(↑c1:Int))=true,decide (IntKind.i64.wrap (↑n1:Int)>(↑l1:Int))=false,cq 169 aJ 169 (0,0) 0 xs (IntKind.u64.wrap m) 1 o l c (↑n1:Int) 1 o1 l1 c1,decide (m≥0)=true]:=by kernel_rfl
theorem ON (m:Int) (o l c n1 o1 l1 c1:Nat) (xs:List SV):aB mQ 131 200 (jC m o l c xs) ([oN n1 o1 l1 c1]++ff [0] true++ff [3,5,7] false) [(0,0),(1,1)] [1] (.sl 1 o1 (IntKind.i64.wrap n1).toNat (some c1)) [gB (o1+(IntKind.i64.wrap n1).toNat) (l1 - (IntKind.i64.wrap n1).toNat) (c1 - (IntKind.i64.wrap n1).toNat) 0,lkB xs]=[o1+0=o1∧(IntKind.i64.wrap (↑n1:Int)).toNat - 0=(IntKind.i64.wrap (↑n1:Int)).toNat∧some (c1 - 0)=some c1,o1+(IntKind.i64.wrap (↑n1:Int)).toNat*1=o1+(IntKind.i64.wrap (↑n1:Int)).toNat∧l1 - (IntKind.i64.wrap (↑n1:Int)).toNat=l1 - (IntKind.i64.wrap (↑n1:Int)).toNat∧some (c1 - (IntKind.i64.wrap (↑n1:Int)).toNat)=some (c1 - (IntKind.i64.wrap (↑n1:Int)).toNat),vZ 0=vZ 0,xs=xs,xs.all ae=true,decide (c1=(IntKind.i64.wrap (↑n1:Int)).toNat)=false,decide (0≤IntKind.i64.wrap (↑n1:Int)∧IntKind.i64.wrap (↑n1:Int)≤(↑l1:Int))=true,decide (c1=0)=false,decide (0≤IntKind.i64.wrap (↑n1:Int)∧IntKind.i64.wrap (↑n1:Int)≤(↑c1:Int))=true,decide (IntKind.i64.wrap (↑n1:Int)>(↑l1:Int))=false,cq 169 aJ 169 (0,0) 0 xs (IntKind.u64.wrap m) 1 o l c (↑n1:Int) 1 o1 l1 c1,decide (m≥0)=true]:=by kernel_rfl
end ez
end paths
end Go.Proofs.YtcbokmadfcedaaaGreatDoor
set_option linter.unusedSimpArgs false
set_option linter.unusedVariables false
set_option maxRecDepth 100000
namespace Go.Proofs.YtcbokmadfcedaaaGreatDoor
open Go Go.Rx Go.RowKit Go.Proofs
namespace paths
namespace ez
open eye (lkB numR)
open crc (bC bC_len bC_closed b_at cells_obj bC_flat)
section
variable {W:World} {b blk:Nat} {xs:List SV} {cs0:List Frame} {H:Hp} {E:Env}
theorem cj {R:Ending→World→Prop} {g:FuncId} {M:Own} {S:SM} {k:Nat} {o:List (Nat × c9)} {x:SV} {so':SO} {os:List (SO × Bool)} (K:aE E M W) (hM:M=az [(b,0),(blk,0)] os) (hos:∀ x∈os.tail,x.2=false) (hk:gl (mo [(b,0),(blk,0)] os fun _=>False) W H M W)
  (hrun:cp (aB E g k S o [(0,0),(1,1)] [1] x [some (so',true),lkB xs]))
  (hR:∀ w' (ν:aA) y ob,ν 0=some (b,0)→ν 1=some (blk,0)→VR ν x y→Alt (·=b) W w'→w'.heap[b]?=some ob→OR ν 0 so' ob→R (.returned y) w'):ao E M W cs0 g R (ax [(b,0),(blk,0)]) S:=by
 subst hM
 refine ao.aB K hrun.out fun ν' w' y hle hv hE hex=>?_
 have hA:=(eye.iT hk hex).mono (T':=(·=b)) fun k _ hk'=>by
  rcases hk' with ⟨i,o,c,h1,h2⟩ | h
  ·cases i with
   | zero=>simp at h2;exact h2.1.symm
   | succ i=>
    have:os.tail[i]?=some (o,true):=by rw [List.getElem?_tail];exact h1
    have:=hos _ (List.mem_of_getElem? this)
    cases this
  ·exact h.elim
 obtain ⟨b',ob,hb',hob,hor,_⟩:=hE.obj 0 _ _ rfl
 have mI:(ν'.ren [(0,0),(1,1)]) 0=some (b,0):=hle 0 (b,0) rfl
 have hb1:(ν'.ren [(0,0),(1,1)]) 1=some (blk,0):=hle 1 (blk,0) rfl
 rw [mI] at hb';cases hb'
 exact hR w' _ y ob mI hb1 hv hA hob hor
theorem G9 {R:Ending→World→Prop} {g:FuncId} {S:SM} {k:Nat} {o:List (Nat × c9)} {y0:Value} {so so':SO} (K:aE E (az [(b,0)] [(so,true)]) W) (hk:gl (mo [(b,0)] [(so,true)] fun _=>False) W H (az [(b,0)] [(so,true)]) W)
  (hrun:cp (aB E g k S o [(0,0)] [] (.v y0) [some (so',true)])) (hR:∀ w' (ν:aA) ob,ν 0=some (b,0)→Alt (·=b) W w'→w'.heap[b]?=some ob→OR ν 0 so' ob→R (.returned y0) w'):ao E (az [(b,0)] [(so,true)]) W cs0 g R (ax [(b,0)]) S:=by
 refine ao.aB K hrun.out fun ν' w' y hle hv hE hex=>?_
 obtain rfl:=VR.ab.1 hv
 have hA:=(eye.iT hk hex).mono (T':=(·=b)) fun k _ hk'=>eye.tF (fun x hx=>by cases hx) hk'
 obtain ⟨b',ob,hb',hob,hor,_⟩:=hE.obj 0 _ _ rfl
 have mI:(ν'.ren [(0,0)]) 0=some (b,0):=hle 0 (b,0) rfl
 rw [mI] at hb';cases hb'
 exact hR w' _ ob mI hA hob hor
theorem qK {T:TypeId} {o l c:Nat} {zs:List Int} (he:W.heap[b]?=some (eO T (some ⟨blk,o,none⟩) l c 0)) (hb:BytesIn W blk o zs) (hlc:l≤c):∀ (i:Nat) (o':SO) (m:Bool) (b' c':Nat),[(SO.row [.sl 1 o l (some c),.v (.int .i64 0)] T (0,0) none,true),(SO.look (ak bC o zs),false)][i]?=some (o',m)→[(b,0),(blk,0)][i]?=some (b',c')→∃ r,W.heap[b']?=some r∧OR (ax [(b,0),(blk,0)]) i o' r:=by
 obtain ⟨cs,e,fz,hh,hoff,hc⟩:=hb
 intro i o' m b' c' q1 q2
 match i with
 | 0=>
  simp only [List.getElem?_cons_zero,Option.some.injEq] at q1 q2
  cases q1
  cases q2
  exact ⟨_,he,[.slice (some ⟨blk,o,none⟩) l c,.int .i64 0],[],rfl,aj.cons (VR.ay.2 ⟨(blk,0),rfl,hlc,rfl⟩) (aj.cons (VR.ab.2 rfl) aj.nil),rfl⟩
 | 1=>
  simp only [List.getElem?_cons_succ,List.getElem?_cons_zero,Option.some.injEq] at q1 q2
  cases q1
  cases q2
  exact ⟨_,hh,bW (h:=fun z=>[Value.int .u8 z]) (fun ν x=>aj.lits ν [Value.int .u8 x]) hoff (by rw [bC_flat];exact hc)⟩
 | i+2=>simp at q1
theorem bz {so:SO} {ys:List SV}:∀ x∈([(so,true),(SO.look ys,false)]:List (SO × Bool)).tail,x.2=false:=fun x hx=>by simp at hx;rw [hx]
section
variable {o l c k:Nat}
theorem E1 {n:Int} (hcl:xs.all ae=true) (h:(l:Int)<n):cp (aB aQ 156 200 (mB n o l c xs) (ff [0] true++[(1000,.b true)]) [(0,0),(1,1)] [1] (.v (.slice none 0 0)) [eye.iy 11,lkB xs]):=by
 refine ⟨?_⟩
 rw [MF]
 have t1:decide (n>(l:Int))=true:=decide_eq_true h
 simp only [af,hcl,t1,and_self,and_true,true_and]
theorem ES (hcl:xs.all ae=true) (h:k≤l) (hlc:l≤c) (hc:c=0):cp (aB aQ 156 200 (mB k o l c xs) (ff [0] false++ff [2,4] true++[(1000,.b true)]) [(0,0),(1,1)] [1] (.sl 1 o k (some c)) [eye.gb o (l - k) (c - k) 0,lkB xs]):=by
 refine ⟨?_⟩
 have q:=Mo (k:Int) o l c xs
 rw [Int.toNat_natCast] at q
 rw [q]
 have t1:decide ((k:Int)>(l:Int))=false:=decide_eq_false (by omega)
 have t2:decide ((0:Int)≤(k:Int)∧(k:Int)≤(l:Int))=true:=decide_eq_true ⟨by omega,by omega⟩
 have t3:decide ((0:Int)≤(k:Int)∧(k:Int)≤(c:Int))=true:=decide_eq_true ⟨by omega,by omega⟩
 have t4:decide (c=(0:Nat))=true:=decide_eq_true hc
 have t5:decide (c=k)=true:=decide_eq_true (by omega)
 simp only [af,hcl,t1,t2,t3,t4,t5,Nat.sub_zero,and_self,and_true,true_and]
theorem EX (hcl:xs.all ae=true) (h:k≤l) (hlc:l≤c) (h0:c≠0) (hc:c=k):cp (aB aQ 156 200 (mB k o l c xs) (ff [0,2] false++ff [4] true++[(1000,.b true)]) [(0,0),(1,1)] [1] (.sl 1 o k (some c)) [eye.gb o (l - k) (c - k) 0,lkB xs]):=by
 refine ⟨?_⟩
 have q:=Nz (k:Int) o l c xs
 rw [Int.toNat_natCast] at q
 rw [q]
 have t1:decide ((k:Int)>(l:Int))=false:=decide_eq_false (by omega)
 have t2:decide ((0:Int)≤(k:Int)∧(k:Int)≤(l:Int))=true:=decide_eq_true ⟨by omega,by omega⟩
 have t3:decide ((0:Int)≤(k:Int)∧(k:Int)≤(c:Int))=true:=decide_eq_true ⟨by omega,by omega⟩
 have t4:decide (c=(0:Nat))=false:=decide_eq_false h0
 have t5:decide (c=k)=true:=decide_eq_true (by omega)
 simp only [af,hcl,t1,t2,t3,t4,t5,Nat.sub_zero,Nat.add_zero,and_self,and_true,true_and]
theorem Fp (hcl:xs.all ae=true) (h:k≤l) (hlc:l≤c) (h0:c≠0) (hc:c≠k):cp (aB aQ 156 200 (mB k o l c xs) (ff [0,2,4] false++[(1000,.b true)]) [(0,0),(1,1)] [1] (.sl 1 o k (some c)) [eye.gb (o+k) (l - k) (c - k) 0,lkB xs]):=by
 refine ⟨?_⟩
 have q:=OX (k:Int) o l c xs
 rw [Int.toNat_natCast] at q
 rw [q]
 have t1:decide ((k:Int)>(l:Int))=false:=decide_eq_false (by omega)
 have t2:decide ((0:Int)≤(k:Int)∧(k:Int)≤(l:Int))=true:=decide_eq_true ⟨by omega,by omega⟩
 have t3:decide ((0:Int)≤(k:Int)∧(k:Int)≤(c:Int))=true:=decide_eq_true ⟨by omega,by omega⟩
 have t4:decide (c=(0:Nat))=false:=decide_eq_false h0
 have t5:decide (c=k)=false:=decide_eq_false hc
 simp only [af,hcl,t1,t2,t3,t4,t5,Nat.sub_zero,Nat.add_zero,Nat.mul_one,and_self,and_true,true_and]
end
def KD (T : TypeId) (W : World) (b blk o l c : Nat) (n : Int) (e : Ending) (w' : World) : Prop := Alt (· = b) W w' ∧
  ((∃ k : Nat, n = k ∧ k ≤ l ∧ e = .returned (.slice (some ⟨blk, o, none⟩) k c) ∧ w'.heap[b]? = some (eO T (some ⟨blk, aJ o c k, none⟩) (l - k) (c - k) 0)) ∨
   ((l : Int) < n ∧ e = .returned (.slice none 0 0) ∧ w'.heap[b]? = some (eO T none 0 0 11)))
theorem xP {o l c:Nat} {n:Int} {zs:List Int} (he:W.heap[b]?=some (eO TG (some ⟨blk,o,none⟩) l c 0)) (hb:BytesIn W blk o zs) (hlc:l≤c) (hne:blk≠b) (hn:0≤n):
  Calls Tryz.prog 156 #[.pointer (some ⟨b,0,none⟩),.int .i64 n] W (KD TG W b blk o l c n):=by
 have hcl:(ak bC o zs).all ae=true:=bO bC_closed
 refine cZ (E:=aQ) rfl (d:=6) (l:=[(b,0),(blk,0)]) (os:=[(.row [.sl 1 o l (some c),.v (.int .i64 0)] TG (0,0) none,true),(.look (ak bC o zs),false)]) (H:=fun _=>none) (T:=fun _=>False) rfl (by simp) (by simpa using fun e=>hne e.symm) (qK he hb hlc) (fun g i hg=>by cases hg) (fun _ _ hh=>by cases hh) (fun _ _ _ _ _ hh=>by cases hh)
  (args:=[.ptr 0 0,.v (.int .i64 n)]) (a:=[.pointer (some ⟨b,0,none⟩),.int .i64 n]) (S0:=mB n o l c (ak bC o zs)) (by kernel_rfl) (aj.cons (VR.aw.2 ⟨(b,0),rfl,rfl⟩) (aj.cons (VR.ab.2 rfl) aj.nil)) fun cs0 hk=>?_
 by_cases hs:(l:Int)<n
 ·exact cj kR rfl bz hk (E1 hcl hs) fun w' ν y ob _ _ hv hA hob hor=>by
   obtain rfl:=VR.ab.1 hv
   exact ⟨hA,.inr ⟨hs,rfl,by rw [hob,told_plain hor]⟩⟩
 ·obtain ⟨k,rfl⟩:∃ k:Nat,n=k:=⟨n.toNat,by omega⟩
  have hkl:k≤l:=by omega
  have fin:∀ off',off'=aJ o c k→∀ w' (ν:aA) y ob,ν 0=some (b,0)→ν 1=some (blk,0)→VR ν (.sl 1 o k (some c)) y→Alt (·=b) W w'→w'.heap[b]?=some ob→OR ν 0 (.row [.sl 1 off' (l - k) (some (c - k)),.v (.int .i64 0)] TG (0,0) none) ob→KD TG W b blk o l c k (.returned y) w':=by
   intro off' ho w' ν y ob _ h1 hv hA hob hor
   subst ho
   obtain ⟨b1,hb1,_,rfl⟩:=VR.ay.1 hv
   rw [h1] at hb1;cases hb1
   exact ⟨hA,.inl ⟨k,rfl,hkl,rfl,by rw [hob,en h1 hor]⟩⟩
  by_cases h0:c=0
  ·exact cj kR rfl bz hk (ES hcl hkl hlc h0) (fin _ (by unfold aJ;rw [if_pos (by omega)]))
  by_cases hc:c=k
  ·exact cj kR rfl bz hk (EX hcl hkl hlc h0 hc) (fin _ (by unfold aJ;rw [if_pos hc]))
  ·exact cj kR rfl bz hk (Fp hcl hkl hlc h0 hc) (fin _ (by unfold aJ;rw [if_neg hc]))
structure fP (e:TypeId) (fz:Nat × Nat) (f n:Int) (i o l c i1 o1 n1 c1 i' o' l' c':Nat):Prop where
 ty:e=TG
 fz0:fz=(0,0)
 f0:f=0
 i1:i1=i
 i':i'=i
 o1:o1=o
 c1:c1=c
 n:n=n1
 nl:n1≤l
 lc:l≤c
 o':o'=aJ o c n1
 l':l'=l - n1
 c':c'=c - n1
structure rr (e:TypeId) (fz:Nat × Nat) (f n:Int) (l c:Nat):Prop where
 ty:e=TG
 fz0:fz=(0,0)
 f0:f=0
 nl:(l:Int)<n
 lc:l≤c
def tY:Sum:=fun args s=>match args with
 | [.ptr j 0,.v (.int .i64 n)]=>match s.look j with
  | some (.row [.sl i o l (some c),.v (.int .i64 f)] e z none,true)=>match s.look i,s.orc s.dc with
   | some (.look xs,_),some (.cells [.sl i1 o1 n1 (some c1),.sl i' o' l' (some c')])=>some (.sl i1 o1 n1 (some c1),(s.dw (fP e z f n i o l c i1 o1 n1 c1 i' o' l' c'∧o≤xs.length)).put j (.row [.sl i' o' l' (some c'),.v (.int .i64 0)] e z none))
   | some (.look xs,_),some (.cells [])=>some (.v (.slice none 0 0),(s.dw (rr e z f n l c∧o≤xs.length)).put j (.row [.v (.slice none 0 0),.v (.int .i64 11)] e z none))
   | _,_=>none
  | _=>none
 | _=>none
theorem Dz {X:World→Prop}:jI Tryz.prog X (156,tY):=by
 refine ⟨⟨_,Tryz.func156,by kernel_rfl,by kernel_rfl⟩,fun args x s s' hx ob=>?_⟩
 dsimp only at hx
 unfold tY at hx
 split at hx
 ·rename_i j n
  split at hx
  ·rename_i i o l c f e z hlj
   have key:∀ (xs:List SV) (mk:Bool),s.look i=some (.look xs,mk)→o≤xs.length→l≤c→e=TG→z=(0,0)→f=0→0≤n→∀ (ν:aA) (M:Own) (w0 w:World),HR ν M w0 s w→∃ (b bi:Nat × Nat),ν j=some b∧ν i=some bi∧Calls Tryz.prog 156 #[.pointer (some ⟨b.1,0,none⟩),.int .i64 n] w (KD TG w b.1 bi.1 o l c n):=by
    intro xs mk hli hox hlc he hz hf hn ν M w0 w hr
    subst he hz hf
    obtain ⟨hj1,hj2,b,obj,hb,hobj,horj,_⟩:=hr.look hlj
    obtain ⟨hi1,hi2,bi,obi,hbi,hobi,hori,_⟩:=hr.look hli
    have hne:bi.1≠b.1:=fun e=>by
     have:=hr.inj i j hi1 hj1 (by rw [hi2];simp) (by rw [hj2];simp) bi b hbi hb e
     subst this
     rw [hlj] at hli;cases hli
    rw [en hbi horj] at hobj
    have hBI:BytesIn w bi.1 o []:=by
     have:=hori
     obtain ⟨ys,cs,e,fz,rfl,hv,hc⟩:=this
     exact ⟨cs,e,fz,hobi,Nat.le_trans hox (gz hori),fun k v hk=>by simp at hk⟩
    exact ⟨b,bi,hb,hbi,xP hobj hBI hlc hne hn⟩
   split at hx
   ·rename_i xs mk i1 o1 n1 c1 i' o' l' c' hli _
    cases hx
    obtain ⟨ob0,hP,hox⟩:s.ob∧fP e z f n i o l c i1 o1 n1 c1 i' o' l' c'∧o≤xs.length:=⟨ob.1,ob.2⟩
    obtain ⟨he,hz,hf,rfl,rfl,rfl,rfl,hn,hnl,hlc,rfl,rfl,rfl⟩:=hP
    refine ⟨ob0,fun ν M w0 w a hr hX ha=>?_⟩
    obtain ⟨y1,as1,rfl,q1,ha2⟩:=ha.cons_inv
    obtain ⟨y2,as2,rfl,q2,ha3⟩:=ha2.cons_inv
    obtain rfl:=ha3.aq
    obtain ⟨b,hb,rfl⟩:=VR.aw.1 q1
    obtain rfl:=VR.ab.1 q2
    obtain ⟨b',bi,hb',hbi,hC⟩:=key xs mk hli hox hlc he hz hf (by omega) ν M w0 w hr
    rw [hb] at hb';cases hb'
    subst he hz hf hn
    refine hC.mono fun e w' ⟨hA,hres⟩=>?_
    rcases hres with ⟨k',hk',_,rfl,hw'⟩ | ⟨h1,_⟩
    ·obtain rfl:n1=k':=by omega
     exact ⟨_,rfl,.jn (s.dw _) j _ _ b _ (SH.aH _ _) hlj rfl hb hw' ⟨[.slice (some ⟨bi.1,aJ o1 c1 n1,none⟩) (l - n1) (c1 - n1),.int .i64 0],[],rfl,aj.cons (VR.ay.2 ⟨bi,hbi,by simp only [Option.getD_some];omega,rfl⟩) (aj.cons (VR.ab.2 rfl) aj.nil),rfl⟩ hA.but (VR.ay.2 ⟨bi,hbi,by simp only [Option.getD_some];omega,rfl⟩)⟩
    ·omega
   ·rename_i xs mk hli _
    cases hx
    obtain ⟨ob0,hP,hox⟩:s.ob∧rr e z f n l c∧o≤xs.length:=⟨ob.1,ob.2⟩
    obtain ⟨he,hz,hf,hnl,hlc⟩:=hP
    refine ⟨ob0,fun ν M w0 w a hr hX ha=>?_⟩
    obtain ⟨y1,as1,rfl,q1,ha2⟩:=ha.cons_inv
    obtain ⟨y2,as2,rfl,q2,ha3⟩:=ha2.cons_inv
    obtain rfl:=ha3.aq
    obtain ⟨b,hb,rfl⟩:=VR.aw.1 q1
    obtain rfl:=VR.ab.1 q2
    obtain ⟨b',bi,hb',hbi,hC⟩:=key xs mk hli hox hlc he hz hf (by omega) ν M w0 w hr
    rw [hb] at hb';cases hb'
    subst he hz hf
    refine hC.mono fun e w' ⟨hA,hres⟩=>?_
    rcases hres with ⟨k',hk',_,_⟩ | ⟨_,rfl,hw'⟩
    ·omega
    ·exact ⟨_,rfl,.jn (s.dw _) j _ _ b _ (SH.aH _ _) hlj rfl hb hw' ⟨[.slice none 0 0,.int .i64 11],[],rfl,aj.cons (VR.ab.2 rfl) (aj.cons (VR.ab.2 rfl) aj.nil),rfl⟩ hA.but (VR.ab.2 rfl)⟩
   ·cases hx
  ·cases hx
 ·cases hx
end
end ez
end paths
end Go.Proofs.YtcbokmadfcedaaaGreatDoor
set_option linter.unusedSimpArgs false
set_option linter.unusedVariables false
set_option maxRecDepth 100000
namespace Go.Proofs.YtcbokmadfcedaaaGreatDoor
open Go Go.Rx Go.RowKit Go.Proofs
namespace paths
namespace ez
open eye (lkB numR u64_in)
open crc (bC bC_len bC_closed b_at cells_obj bC_flat)
theorem zp {o c k:Nat} (h:c=k):aJ o c k=o:=if_pos h
theorem Fg {o c k:Nat} (h:c≠k):aJ o c k=o+k:=if_neg h
theorem oW (m:Nat) (zs:List Int):(numR m zs).1≤m:=by
 cases zs with
 | nil=>exact Nat.zero_le _
 | cons z t=>
  rw [eye.numR_cons]
  split
  ·exact Nat.zero_le _
  split
  ·exact Nat.zero_le _
  split
  ·exact Nat.zero_le _
  split
  ·exact Nat.zero_le _
  ·rename_i h;show eye.valN _≤m;omega
theorem iu {m n:Nat} {zs t:List Int} {f:Int} (h:numR m zs=(n,f,t)) (hf:f≠0):numR m zs=(0,f,[]):=by
 cases zs with
 | nil=>cases h;rfl
 | cons z r=>
  rw [eye.numR_cons] at h ⊢
  split at h
  ·rename_i q;rw [if_pos q];cases h;rfl
  rename_i q1;rw [if_neg q1]
  split at h
  ·rename_i q;rw [if_pos q];cases h;rfl
  rename_i q2;rw [if_neg q2]
  split at h
  ·rename_i q;rw [if_pos q];cases h;rfl
  rename_i q3;rw [if_neg q3]
  split at h
  ·rename_i q;rw [if_pos q];cases h;rfl
  ·cases h;exact absurd rfl hf
def bX (m:Nat) (zs:List Int):List Int × Int × List Int:=if (numR m zs).2.1≠0 then ([],(numR m zs).2.1,[]) else if (numR m zs).2.2.length<(numR m zs).1 then ([],11,[]) else ((numR m zs).2.2.take (numR m zs).1,0,(numR m zs).2.2.drop (numR m zs).1)
theorem ka {m n:Nat} {zs t:List Int} {f:Int} (h:numR m zs=(n,f,t)) (hf:f≠0):bX m zs=([],f,[]):=by unfold bX;rw [h,if_pos hf]
theorem gT {m n:Nat} {zs t:List Int} (h:numR m zs=(n,0,t)) (hs:t.length<n):bX m zs=([],11,[]):=by unfold bX;rw [h,if_neg (by simp),if_pos hs]
theorem mJ {m n:Nat} {zs t:List Int} (h:numR m zs=(n,0,t)) (hs:n≤t.length):bX m zs=(t.take n,0,t.drop n):=by unfold bX;rw [h,if_neg (by simp),if_neg (by show ¬ t.length<n;omega)]
def J9 (W : World) (b blk o l c m : Nat) (zs : List Int) (e : Ending) (w' : World) : Prop := Alt (· = b) W w' ∧
  ((∃ n k : Nat, numR m zs = (n, 0, zs.drop k) ∧ 0 < k ∧ k + n ≤ l ∧ e = .returned (.slice (some ⟨blk, aJ o c k, none⟩) n (c - k)) ∧ w'.heap[b]? = some (eO TE (some ⟨blk, aJ (aJ o c k) (c - k) n, none⟩) (l - k - n) (c - k - n) 0)) ∨
   ∃ f' : Int, f' ≠ 0 ∧ bX m zs = ([], f', []) ∧ e = .returned (.slice none 0 0) ∧ w'.heap[b]? = some (eO TE none 0 0 f'))
section
variable {W:World} {b blk:Nat} {xs:List SV} {cs0:List Frame} {H:Hp}
section
variable {m:Int} {o l c n1 o1 l1 c1:Nat}
theorem D7 {f':Int} (hcl:xs.all ae=true) (hm:0≤m) (hf:f'≠0) (hP:il TE TE (0,0) 0 xs (IntKind.u64.wrap m) o l c f'):cp (aB mQ 131 200 (jC m o l c xs) ([(1,.cells [.v (.int .i64 f')])]++ff [0] true++ff (List.range 10) true) [(0,0),(1,1)] [1] (.v (.slice none 0 0)) [pA f',lkB xs]):=by
 refine ⟨?_⟩
 rw [O2]
 have t1:decide (m≥(0:Int))=true:=decide_eq_true hm
 have t2:(f'==(0:Int))=false:=by simpa using hf
 simp only [af,hcl,t1,t2,Bool.not_false,and_self,and_true,true_and]
 exact hP
theorem Fo (hcl:xs.all ae=true) (hm:0≤m) (hP:cq TE aJ TE (0,0) 0 xs (IntKind.u64.wrap m) 1 o l c n1 1 o1 l1 c1) (hn:IntKind.i64.wrap (n1:Int)=n1) (hs:l1<n1):cp (aB mQ 131 200 (jC m o l c xs) ([oN n1 o1 l1 c1]++ff [0,3] true) [(0,0),(1,1)] [1] (.v (.slice none 0 0)) [pA 11,lkB xs]):=by
 refine ⟨?_⟩
 rw [NG]
 have t1:decide (m≥(0:Int))=true:=decide_eq_true hm
 have t2:decide ((n1:Int)>(l1:Int))=true:=decide_eq_true (by omega)
 simp only [af,hcl,hn,t1,t2,and_self,and_true,true_and]
 exact hP
theorem E0 (hcl:xs.all ae=true) (hm:0≤m) (hP:cq TE aJ TE (0,0) 0 xs (IntKind.u64.wrap m) 1 o l c n1 1 o1 l1 c1) (hn:IntKind.i64.wrap (n1:Int)=n1) (hs:n1≤l1) (hlc:l1≤c1) (h0:c1=0):
  cp (aB mQ 131 200 (jC m o l c xs) ([oN n1 o1 l1 c1]++ff [0] true++ff [3] false++ff [5,7] true) [(0,0),(1,1)] [1] (.sl 1 o1 n1 (some c1)) [gB o1 (l1 - n1) (c1 - n1) 0,lkB xs]):=by
 refine ⟨?_⟩
 have q:=Oe m o l c n1 o1 l1 c1 xs
 rw [hn,Int.toNat_natCast] at q
 rw [q]
 have t1:decide (m≥(0:Int))=true:=decide_eq_true hm
 have t2:decide ((n1:Int)>(l1:Int))=false:=decide_eq_false (by omega)
 have t3:decide ((0:Int)≤(n1:Int)∧(n1:Int)≤(l1:Int))=true:=decide_eq_true ⟨by omega,by omega⟩
 have t4:decide ((0:Int)≤(n1:Int)∧(n1:Int)≤(c1:Int))=true:=decide_eq_true ⟨by omega,by omega⟩
 have t5:decide (c1=(0:Nat))=true:=decide_eq_true h0
 have t6:decide (c1=n1)=true:=decide_eq_true (by omega)
 simp only [af,hcl,t1,t2,t3,t4,t5,t6,Nat.sub_zero,and_self,and_true,true_and]
 exact hP
theorem D2 (hcl:xs.all ae=true) (hm:0≤m) (hP:cq TE aJ TE (0,0) 0 xs (IntKind.u64.wrap m) 1 o l c n1 1 o1 l1 c1) (hn:IntKind.i64.wrap (n1:Int)=n1) (hs:n1≤l1) (hlc:l1≤c1) (h0:c1≠0) (hc:c1=n1):
  cp (aB mQ 131 200 (jC m o l c xs) ([oN n1 o1 l1 c1]++ff [0] true++ff [3,5] false++ff [7] true) [(0,0),(1,1)] [1] (.sl 1 o1 n1 (some c1)) [gB o1 (l1 - n1) (c1 - n1) 0,lkB xs]):=by
 refine ⟨?_⟩
 have q:=NJ m o l c n1 o1 l1 c1 xs
 rw [hn,Int.toNat_natCast] at q
 rw [q]
 have t1:decide (m≥(0:Int))=true:=decide_eq_true hm
 have t2:decide ((n1:Int)>(l1:Int))=false:=decide_eq_false (by omega)
 have t3:decide ((0:Int)≤(n1:Int)∧(n1:Int)≤(l1:Int))=true:=decide_eq_true ⟨by omega,by omega⟩
 have t4:decide ((0:Int)≤(n1:Int)∧(n1:Int)≤(c1:Int))=true:=decide_eq_true ⟨by omega,by omega⟩
 have t5:decide (c1=(0:Nat))=false:=decide_eq_false h0
 have t6:decide (c1=n1)=true:=decide_eq_true hc
 simp only [af,hcl,t1,t2,t3,t4,t5,t6,Nat.sub_zero,Nat.add_zero,and_self,and_true,true_and]
 exact hP
theorem Fc (hcl:xs.all ae=true) (hm:0≤m) (hP:cq TE aJ TE (0,0) 0 xs (IntKind.u64.wrap m) 1 o l c n1 1 o1 l1 c1) (hn:IntKind.i64.wrap (n1:Int)=n1) (hs:n1≤l1) (hlc:l1≤c1) (h0:c1≠0) (hc:c1≠n1):
  cp (aB mQ 131 200 (jC m o l c xs) ([oN n1 o1 l1 c1]++ff [0] true++ff [3,5,7] false) [(0,0),(1,1)] [1] (.sl 1 o1 n1 (some c1)) [gB (o1+n1) (l1 - n1) (c1 - n1) 0,lkB xs]):=by
 refine ⟨?_⟩
 have q:=ON m o l c n1 o1 l1 c1 xs
 rw [hn,Int.toNat_natCast] at q
 rw [q]
 have t1:decide (m≥(0:Int))=true:=decide_eq_true hm
 have t2:decide ((n1:Int)>(l1:Int))=false:=decide_eq_false (by omega)
 have t3:decide ((0:Int)≤(n1:Int)∧(n1:Int)≤(l1:Int))=true:=decide_eq_true ⟨by omega,by omega⟩
 have t4:decide ((0:Int)≤(n1:Int)∧(n1:Int)≤(c1:Int))=true:=decide_eq_true ⟨by omega,by omega⟩
 have t5:decide (c1=(0:Nat))=false:=decide_eq_false h0
 have t6:decide (c1=n1)=false:=decide_eq_false hc
 simp only [af,hcl,t1,t2,t3,t4,t5,t6,Nat.sub_zero,Nat.add_zero,Nat.mul_one,and_self,and_true,true_and]
 exact hP
theorem EG {f:Int} (hm:0≤m) (hm2:0≤IntKind.u64.wrap m) (hf:f≠0):cp (aB mQ 131 200 (Bq m f) (ff [0] true++[(1000,.b true)]++ff (List.range 10) true) [(0,0)] [] (.v (.slice none 0 0)) [pA f]):=by
 refine ⟨?_⟩
 rw [Nl]
 have t1:decide (m≥(0:Int))=true:=decide_eq_true hm
 have t2:(f==(0:Int))=false:=by simpa using hf
 simp only [af,t1,t2,Bool.not_false,and_self,and_true,true_and]
 exact ⟨rfl,rfl,hf,hm2⟩
end
theorem lA {o l:Nat} {zs:List Int} (hl:zs.length=l) (dF:l≤140737488355328) (hz:∀ z∈zs,0≤z∧z<256):di (ak bC o zs) o l zs:=⟨hl,dF,hz,fun i z h=>by
 have:=b_at (off:=o) (zs:=zs) (k:=i) (z:=z) h
 simpa using this⟩
theorem Cd (o:Nat) (zs:List Int):o≤(ak bC o zs).length:=by unfold ak;simp
theorem E5 {m n:Nat} {zs t:List Int} {f:Int} (h:numR m zs=(n,f,t)) (hm:m≤1000000000):IntKind.i64.wrap (n:Int)=n:=by
 have:n≤m:=by
  have:=oW m zs
  rw [h] at this;exact this
 exact IntWalk.i64_in _ (by omega)
theorem yA {o l c m:Nat} {zs:List Int} (he:W.heap[b]?=some (eO TE (some ⟨blk,o,none⟩) l c 0)) (hb:BytesIn W blk o zs) (hl:zs.length=l) (hlc:l≤c) (dF:l≤140737488355328) (hne:blk≠b) (hz:∀ z∈zs,0≤z∧z<256) (hm:m≤1000000000):
  Calls Tryz.prog 131 #[.pointer (some ⟨b,0,none⟩),.int .i64 m] W (J9 W b blk o l c m zs):=by
 have hcl:(ak bC o zs).all ae=true:=bO bC_closed
 refine cZ (E:=mQ) rfl (d:=6) (l:=[(b,0),(blk,0)]) (os:=[(.row [.sl 1 o l (some c),.v (.int .i64 0)] TE (0,0) none,true),(.look (ak bC o zs),false)]) (H:=fun _=>none) (T:=fun _=>False) rfl (by simp) (by simpa using fun e=>hne e.symm) (qK he hb hlc) (fun g i hg=>by cases hg) (fun _ _ hh=>by cases hh) (fun _ _ _ _ _ hh=>by cases hh)
  (args:=[.ptr 0 0,.v (.int .i64 m)]) (a:=[.pointer (some ⟨b,0,none⟩),.int .i64 m]) (S0:=jC m o l c (ak bC o zs)) (by kernel_rfl) (aj.cons (VR.aw.2 ⟨(b,0),rfl,rfl⟩) (aj.cons (VR.ab.2 rfl) aj.nil)) fun cs0 hk=>?_
 have hB:=lA (o:=o) hl dF hz
 have hox:=Cd o zs
 have hw:IntKind.u64.wrap (m:Int)=(m:Int):=u64_in (by omega)
 generalize hxs:ak bC o zs=xs at hcl hB hox hk ⊢
 generalize hnum:numR m zs=r
 obtain ⟨n,f',t⟩:=r
 by_cases hf:f'=0
 ·subst hf
  obtain ⟨z,r,rfl,h8,hEr,rfl,hnm⟩:=pD hnum
  have hz0:=hz z List.mem_cons_self
  obtain ⟨k,rfl⟩:∃ k:Nat,z=k:=⟨z.toNat,by omega⟩
  rw [Int.toNat_natCast] at hnum
  have hrl:r.length=l - 1:=by simp at hl;omega
  have hl0:0<l:=by simp at hl;omega
  have hd:r.drop k=((k:Int)::r).drop (k+1):=rfl
  have hdl:(r.drop k).length=l - (k+1):=by rw [List.length_drop];omega
  have hP:cq TE aJ TE (0,0) 0 xs (IntKind.u64.wrap m) 1 o l c n 1 (aJ o c (k+1)) (l - (k+1)) (c - (k+1)):=⟨rfl,rfl,rfl,rfl,hlc,hox,_,m,n,k+1,hw,by omega,rfl,by omega,hB,hnum,rfl,rfl,rfl⟩
  have hn:=E5 hnum hm
  by_cases hs:l - (k+1)<n
  ·exact cj Ao rfl bz hk (Fo hcl (by omega) hP hn hs) fun w' ν y ob _ _ hv hA hob hor=>by
    obtain rfl:=VR.ab.1 hv
    exact ⟨hA,.inr ⟨11,by decide,gT hnum (by rw [hdl];exact hs),rfl,by rw [hob,told_plain hor]⟩⟩
  ·have fin:∀ off',off'=aJ (aJ o c (k+1)) (c - (k+1)) n→∀ w' (ν:aA) y ob,ν 0=some (b,0)→ν 1=some (blk,0)→VR ν (.sl 1 (aJ o c (k+1)) n (some (c - (k+1)))) y→Alt (·=b) W w'→w'.heap[b]?=some ob→OR ν 0 (.row [.sl 1 off' (l - (k+1) - n) (some (c - (k+1) - n)),.v (.int .i64 0)] TE (0,0) none) ob→J9 W b blk o l c m ((k:Int)::r) (.returned y) w':=by
    intro off' ho w' ν y ob _ h1 hv hA hob hor
    subst ho
    obtain ⟨b1,hb1,_,rfl⟩:=VR.ay.1 hv
    rw [h1] at hb1;cases hb1
    exact ⟨hA,.inl ⟨n,k+1,hnum,by omega,by omega,rfl,by rw [hob,en h1 hor]⟩⟩
   by_cases h0:c - (k+1)=0
   ·exact cj Ao rfl bz hk (E0 hcl (by omega) hP hn (by omega) (by omega) h0) (fin _ (zp (by omega)).symm)
   by_cases hc:c - (k+1)=n
   ·exact cj Ao rfl bz hk (D2 hcl (by omega) hP hn (by omega) (by omega) h0 hc) (fin _ (zp hc).symm)
   ·exact cj Ao rfl bz hk (Fc hcl (by omega) hP hn (by omega) (by omega) h0 hc) (fin _ (Fg hc).symm)
 ·have hnf:numR m zs=(0,f',[]):=iu hnum hf
  have hP:il TE TE (0,0) 0 xs (IntKind.u64.wrap m) o l c f':=⟨rfl,rfl,rfl,hlc,hox,zs,m,hw,by omega,hB,hnf,hf⟩
  exact cj Ao rfl bz hk (D7 hcl (by omega) hf hP) fun w' ν y ob _ _ hv hA hob hor=>by
   obtain rfl:=VR.ab.1 hv
   exact ⟨hA,.inr ⟨f',hf,ka hnum hf,rfl,by rw [hob,told_plain hor]⟩⟩
theorem CB {f:Int} {m:Nat} (hm:m≤1000000000) (hf:f≠0) (he:W.heap[b]?=some (eO TE none 0 0 f)):Calls Tryz.prog 131 #[.pointer (some ⟨b,0,none⟩),.int .i64 m] W fun e w'=>Below W.heap.size W w'∧e=.returned (.slice none 0 0):=by
 refine cZ (E:=mQ) rfl (d:=6) (l:=[(b,0)]) (os:=[(.row [.v (.slice none 0 0),.v (.int .i64 f)] TE (0,0) none,true)]) (H:=fun _=>none) (T:=fun _=>False) rfl (by simp) (by simp) ?_ (fun g i hg=>by cases hg) (fun _ _ hh=>by cases hh) (fun _ _ _ _ _ hh=>by cases hh)
  (args:=[.ptr 0 0,.v (.int .i64 m)]) (a:=[.pointer (some ⟨b,0,none⟩),.int .i64 m]) (S0:=Bq m f) (by kernel_rfl) (aj.cons (VR.aw.2 ⟨(b,0),rfl,rfl⟩) (aj.cons (VR.ab.2 rfl) aj.nil)) fun cs0 hk=>?_
 ·intro i o' m' b' c' q1 q2
  match i with
  | 0=>
   simp only [List.getElem?_cons_zero,Option.some.injEq] at q1 q2
   cases q1
   cases q2
   exact ⟨_,he,[.slice none 0 0,.int .i64 f],[],rfl,aj.cons (VR.ab.2 rfl) (aj.cons (VR.ab.2 rfl) aj.nil),rfl⟩
  | i+1=>simp at q1
 exact G9 Ao hk (EG (by omega) (by rw [u64_in (by omega)];omega) hf) fun w' ν ob _ hA hob hor=>⟨qP hA he (by rw [hob,told_plain hor]),rfl⟩
end
structure jc (e:TypeId) (fz:Nat × Nat) (f:Int) (xs:List SV) (m:Int) (i o l c i1 o1 n1 c1 i' o' l' c':Nat):Prop where
 ty:e=TE
 fz0:fz=(0,0)
 f0:f=0
 i1:i1=i
 i':i'=i
 lc:l≤c
 ob:o≤xs.length
 ex:∃ (zs:List Int) (mm k:Nat),m=mm∧mm≤1000000000∧k+n1≤l∧di xs o l zs∧numR mm zs=(n1,0,zs.drop k)∧o1=aJ o c k∧c1=c - k∧o'=aJ o1 c1 n1∧l'=l - k - n1∧c'=c - k - n1
structure pO (e:TypeId) (fz:Nat × Nat) (f:Int) (xs:List SV) (m:Int) (o l c:Nat) (f':Int):Prop where
 ty:e=TE
 fz0:fz=(0,0)
 f0:f=0
 lc:l≤c
 ob:o≤xs.length
 ex:∃ (zs:List Int) (mm:Nat),m=mm∧mm≤1000000000∧di xs o l zs∧bX mm zs=([],f',[])∧f'≠0
structure Ge (e:TypeId) (fz:Nat × Nat) (f m:Int):Prop where
 ty:e=TE
 fz0:fz=(0,0)
 f0:f≠0
 m0:0≤m∧m≤1000000000
def tS:Sum:=fun args s=>match args with
 | [.ptr j 0,.v (.int .i64 m)]=>match s.look j with
  | some (.row [.sl i o l (some c),.v (.int .i64 f)] e z none,true)=>match s.look i,s.orc s.dc with
   | some (.look xs,_),some (.cells [.sl i1 o1 n1 (some c1),.sl i' o' l' (some c')])=>some (.sl i1 o1 n1 (some c1),(s.dw (jc e z f xs m i o l c i1 o1 n1 c1 i' o' l' c')).put j (.row [.sl i' o' l' (some c'),.v (.int .i64 0)] e z none))
   | some (.look xs,_),some (.cells [.v (.int .i64 f')])=>some (.v (.slice none 0 0),(s.dw (pO e z f xs m o l c f')).put j (.row [.v (.slice none 0 0),.v (.int .i64 f')] e z none))
   | _,_=>none
  | some (.row [.v (.slice none 0 0),.v (.int .i64 f)] e z none,true)=>some (.v (.slice none 0 0),s.dw (Ge e z f m))
  | _=>none
 | _=>none
theorem DH {X:World→Prop}:jI Tryz.prog X (131,tS):=by
 refine ⟨⟨_,Tryz.func131,by kernel_rfl,by kernel_rfl⟩,fun args x s s' hx ob=>?_⟩
 dsimp only at hx
 unfold tS at hx
 split at hx
 ·rename_i j m
  split at hx
  ·rename_i i o l c f e z hlj
   have key:∀ (xs:List SV) (mk:Bool) (mm:Nat) (zs:List Int),s.look i=some (.look xs,mk)→o≤xs.length→l≤c→e=TE→z=(0,0)→f=0→mm≤1000000000→di xs o l zs→∀ (ν:aA) (M:Own) (w0 w:World),HR ν M w0 s w→∃ (b bi:Nat × Nat),ν j=some b∧ν i=some bi∧Calls Tryz.prog 131 #[.pointer (some ⟨b.1,0,none⟩),.int .i64 mm] w (J9 w b.1 bi.1 o l c mm zs):=by
    intro xs mk mm zs hli hox hlc he hz hf hm hB ν M w0 w hr
    subst he hz hf
    obtain ⟨hj1,hj2,b,obj,hb,hobj,horj,_⟩:=hr.look hlj
    obtain ⟨hi1,hi2,bi,obi,hbi,hobi,hori,_⟩:=hr.look hli
    have hne:bi.1≠b.1:=fun e=>by
     have:=hr.inj i j hi1 hj1 (by rw [hi2];simp) (by rw [hj2];simp) bi b hbi hb e
     subst this
     rw [hlj] at hli;cases hli
    rw [en hbi horj] at hobj
    have hBI:BytesIn w bi.1 o zs:=hB.holds hobi hori (fun _=>trivial) fun _ c e fz hq=>by subst hq;exact Nat.le_trans hox (gz hori)
    exact ⟨b,bi,hb,hbi,yA hobj hBI hB.len hlc hB.dF hne hB.oE hm⟩
   split at hx
   ·rename_i xs mk i1 o1 n1 c1 i' o' l' c' hli _
    cases hx
    obtain ⟨ob0,hP⟩:s.ob∧jc e z f xs m i o l c i1 o1 n1 c1 i' o' l' c':=⟨ob.1,ob.2⟩
    obtain ⟨he,hz,hf,rfl,rfl,hlc,hox,zs,mm,k,rfl,hmm,hkl,hB,hnum,rfl,rfl,rfl,rfl,rfl⟩:=hP
    refine ⟨ob0,fun ν M w0 w a hr hX ha=>?_⟩
    obtain ⟨y1,as1,rfl,q1,ha2⟩:=ha.cons_inv
    obtain ⟨y2,as2,rfl,q2,ha3⟩:=ha2.cons_inv
    obtain rfl:=ha3.aq
    obtain ⟨b,hb,rfl⟩:=VR.aw.1 q1
    obtain rfl:=VR.ab.1 q2
    obtain ⟨b',bi,hb',hbi,hC⟩:=key xs mk mm zs hli hox hlc he hz hf hmm hB ν M w0 w hr
    rw [hb] at hb';cases hb'
    subst he hz hf
    refine hC.mono fun e w' ⟨hA,hres⟩=>?_
    rcases hres with ⟨n',k',hn',hk0,hkn,rfl,hw'⟩ | ⟨f',hf',hn',_⟩
    ·rw [hnum] at hn'
     obtain ⟨rfl,hdr⟩:n1=n'∧zs.drop k=zs.drop k':=by simpa using hn'
     have hkk:k=k':=by
      have:=congrArg List.length hdr
      rw [List.length_drop,List.length_drop,hB.len] at this
      omega
     subst hkk
     exact ⟨_,rfl,.jn (s.dw _) j _ _ b _ (SH.aH _ _) hlj rfl hb hw' ⟨[.slice (some ⟨bi.1,aJ (aJ o c k) (c - k) n1,none⟩) (l - k - n1) (c - k - n1),.int .i64 0],[],rfl,aj.cons (VR.ay.2 ⟨bi,hbi,by simp only [Option.getD_some];omega,rfl⟩) (aj.cons (VR.ab.2 rfl) aj.nil),rfl⟩ hA.but (VR.ay.2 ⟨bi,hbi,by simp only [Option.getD_some];omega,rfl⟩)⟩
    ·rw [mJ hnum (by rw [List.length_drop,hB.len];omega)] at hn'
     have:(0:Int)=f':=by simp only [Prod.mk.injEq] at hn';exact hn'.2.1
     exact absurd this.symm hf'
   ·rename_i xs mk f' hli _
    cases hx
    obtain ⟨ob0,hP⟩:s.ob∧pO e z f xs m o l c f':=⟨ob.1,ob.2⟩
    obtain ⟨he,hz,hf,hlc,hox,zs,mm,rfl,hmm,hB,htx,hf'⟩:=hP
    refine ⟨ob0,fun ν M w0 w a hr hX ha=>?_⟩
    obtain ⟨y1,as1,rfl,q1,ha2⟩:=ha.cons_inv
    obtain ⟨y2,as2,rfl,q2,ha3⟩:=ha2.cons_inv
    obtain rfl:=ha3.aq
    obtain ⟨b,hb,rfl⟩:=VR.aw.1 q1
    obtain rfl:=VR.ab.1 q2
    obtain ⟨b',bi,hb',hbi,hC⟩:=key xs mk mm zs hli hox hlc he hz hf hmm hB ν M w0 w hr
    rw [hb] at hb';cases hb'
    subst he hz hf
    refine hC.mono fun e w' ⟨hA,hres⟩=>?_
    rcases hres with ⟨n',k',hn',hk0,hkn,_,_⟩ | ⟨f'',_,hn',rfl,hw'⟩
    ·rw [mJ hn' (by rw [List.length_drop,hB.len];omega)] at htx
     have:(0:Int)=f':=by simp only [Prod.mk.injEq] at htx;exact htx.2.1
     exact absurd this.symm hf'
    ·rw [htx] at hn'
     obtain rfl:f'=f'':=by simp only [Prod.mk.injEq] at hn';exact hn'.2.1
     exact ⟨_,rfl,.jn (s.dw _) j _ _ b _ (SH.aH _ _) hlj rfl hb hw' ⟨[.slice none 0 0,.int .i64 f'],[],rfl,aj.cons (VR.ab.2 rfl) (aj.cons (VR.ab.2 rfl) aj.nil),rfl⟩ hA.but (VR.ab.2 rfl)⟩
   ·cases hx
  ·rename_i f e z hlj
   cases hx
   obtain ⟨ob0,hP⟩:s.ob∧Ge e z f m:=⟨ob.1,ob.2⟩
   obtain ⟨rfl,rfl,hf,hm0,hm1⟩:=hP
   refine ⟨ob0,fun ν M w0 w a hr hX ha=>?_⟩
   obtain ⟨y1,as1,rfl,q1,ha2⟩:=ha.cons_inv
   obtain ⟨y2,as2,rfl,q2,ha3⟩:=ha2.cons_inv
   obtain rfl:=ha3.aq
   obtain ⟨b,hb,rfl⟩:=VR.aw.1 q1
   obtain rfl:=VR.ab.1 q2
   obtain ⟨hj1,hj2,b',obj,hb',hobj,horj,_⟩:=hr.look hlj
   rw [hb] at hb';cases hb'
   rw [told_plain horj] at hobj
   obtain ⟨mm,rfl⟩:∃ mm:Nat,m=mm:=⟨m.toNat,by omega⟩
   exact (CB (by omega) hf hobj).mono fun e w' ⟨hB,he⟩=>⟨_,he,.old hB (.same (SH.aH _ _) (VR.ab.2 rfl))⟩
  ·cases hx
 ·cases hx
end ez
end paths
end Go.Proofs.YtcbokmadfcedaaaGreatDoor
set_option linter.unusedSimpArgs false
set_option linter.unusedVariables false
set_option maxRecDepth 100000
namespace Go.Proofs.YtcbokmadfcedaaaGreatDoor
open Go Go.Rx Go.RowKit Go.Proofs
namespace paths
namespace ez
open eye (lkB)
noncomputable def Ki:List (FuncId × Sum):=[(92,qN TE aJ),(131,tS),(133,sW)]
noncomputable def DF:Env:={ EP [] [] with sums:=fun f=>Ki.lookup f }
noncomputable def mE (o l c:Nat) (xs:List SV):SM:=(aS DF 94 [.ptr 0 0] (bc 6 2 0 [gB o l c 0,lkB xs])).getD dx
theorem rA (o l c n1 o1 l1 c1 n2 o2 l2 c2 n3 o3 l3 c3 n4 o4 l4 c4 o5 l5 c5 o6 l6 c6:Nat) (f':Int) (p:ByteArray) (a1 a2:Array Value) (xs:List SV):aB DF 94 600 (mE o l c xs) ([(0,.cells [.v (.int .i64 f')]),(5,.b true),(6,.b false),(7,.b false),(8,.b false),(9,.b false),(11,.b true),(1000,.b true)]) [(0,0),(1,1)] [1] (.v (.agg #[.string ⟨#[]⟩,.int .u64 0,.int .i64 0,.slice none 0 0])) [pA f',lkB xs]=[Value.agg { toList:=[Value.string ⟨⟨[]⟩⟩,Value.int IntKind.u64 0,vZ 0,Value.slice none 0 0]:Array Value }=Value.agg { toList:=[Value.string ⟨⟨[]⟩⟩,Value.int IntKind.u64 0,vZ 0,Value.slice none 0 0]:Array Value },Value.slice none 0 0=Value.slice none 0 0,vZ f'=vZ f',xs=xs,xs.all ae=true,(!f'==0)=true,(f'==0)=false,(f'==0)=false,(f'==0)=false,(f'==0)=false,(!f'==0)=true,jg 169 169 (0,0) f' (IntKind.u64.wrap 2),jg 169 169 (0,0) f' 18446744073709551615,pO 169 (0,0) 0 xs 96 o l c f']:=by kernel_rfl
theorem On (o l c n1 o1 l1 c1 n2 o2 l2 c2 n3 o3 l3 c3 n4 o4 l4 c4 o5 l5 c5 o6 l6 c6:Nat) (f':Int) (p:ByteArray) (a1 a2:Array Value) (xs:List SV):aB DF 94 600 (mE o l c xs) ([(0,.cells [.sl 1 o1 n1 (some c1),.sl 1 o2 l2 (some c2)]),(1,.str p),(2,.cells [.v (.int .i64 f')]),(6,.b true),(7,.b false),(8,.b false),(9,.b false),(10,.b false),(12,.b true),(1000,.b true)]) [(0,0),(1,1)] [1] (.v (.agg #[.string ⟨#[]⟩,.int .u64 0,.int .i64 0,.slice none 0 0])) [pA f',lkB xs]=[Value.agg { toList:=[Value.string ⟨⟨[]⟩⟩,Value.int IntKind.u64 0,vZ 0,Value.slice none 0 0]:Array Value }=Value.agg { toList:=[Value.string ⟨⟨[]⟩⟩,Value.int IntKind.u64 0,vZ 0,Value.slice none 0 0]:Array Value },Value.slice none 0 0=Value.slice none 0 0,vZ f'=vZ f',xs=xs,xs.all ae=true,(!f'==0)=true,(f'==0)=false,(f'==0)=false,(f'==0)=false,(f'==0)=false,(!f'==0)=true,jg 169 169 (0,0) f' (IntKind.u64.wrap 2),il 169 169 (0,0) 0 xs 18446744073709551615 o2 l2 c2 f',List.take n1 (List.drop o1 xs)=List.map (fun c=>SV.v (Value.int IntKind.u8 (↑c.toNat:Int))) p.data.toList∧p.size=n1,jc 169 (0,0) 0 xs 96 1 o l c 1 o1 n1 c1 1 o2 l2 c2]:=by kernel_rfl
theorem Mq (o l c n1 o1 l1 c1 n2 o2 l2 c2 n3 o3 l3 c3 n4 o4 l4 c4 o5 l5 c5 o6 l6 c6:Nat) (f':Int) (p:ByteArray) (a1 a2:Array Value) (xs:List SV):aB DF 94 600 (mE o l c xs) ([(0,.cells [.sl 1 o1 n1 (some c1),.sl 1 o2 l2 (some c2)]),(1,.str p),(2,.cells [.v (.int .u64 n2),.sl 1 o3 l3 (some c3)]),(4,.cells [.v (.int .i64 f')]),(6,.b true),(7,.b false),(8,.b false),(9,.b false),(10,.b false),(12,.b true),(1000,.b true)]) [(0,0),(1,1)] [1] (.v (.agg #[.string ⟨#[]⟩,.int .u64 0,.int .i64 0,.slice none 0 0])) [pA f',lkB xs]=[Value.agg { toList:=[Value.string ⟨⟨[]⟩⟩,Value.int IntKind.u64 0,vZ 0,Value.slice none 0 0]:Array Value }=Value.agg { toList:=[Value.string ⟨⟨[]⟩⟩,Value.int IntKind.u64 0,vZ 0,Value.slice none 0 0]:Array Value },Value.slice none 0 0=Value.slice none 0 0,vZ f'=vZ f',xs=xs,xs.all ae=true,(!f'==0)=true,(f'==0)=false,(f'==0)=false,(f'==0)=false,(f'==0)=false,(!f'==0)=true,il 169 169 (0,0) 0 xs (IntKind.u64.wrap 2) o3 l3 c3 f',cq 169 aJ 169 (0,0) 0 xs 18446744073709551615 1 o2 l2 c2 (↑n2:Int) 1 o3 l3 c3,List.take n1 (List.drop o1 xs)=List.map (fun c=>SV.v (Value.int IntKind.u8 (↑c.toNat:Int))) p.data.toList∧p.size=n1,jc 169 (0,0) 0 xs 96 1 o l c 1 o1 n1 c1 1 o2 l2 c2]:=by kernel_rfl
theorem Nx (o l c n1 o1 l1 c1 n2 o2 l2 c2 n3 o3 l3 c3 n4 o4 l4 c4 o5 l5 c5 o6 l6 c6:Nat) (f':Int) (p:ByteArray) (a1 a2:Array Value) (xs:List SV):aB DF 94 600 (mE o l c xs) ([(0,.cells [.sl 1 o1 n1 (some c1),.sl 1 o2 l2 (some c2)]),(1,.str p),(2,.cells [.v (.int .u64 n2),.sl 1 o3 l3 (some c3)]),(4,.cells [.v (.int .u64 n3),.sl 1 o4 l4 (some c4)]),(5,.b false),(12,.b false),(1000,.b true)]) [(0,0),(1,1)] [1] (.v (.agg #[.string p,.int .u64 n2,.int .i64 (IntKind.i64.wrap n3),.slice none 0 0])) [gB o4 l4 c4 0,lkB xs]=[Value.agg { toList:=[Value.string p,Value.int IntKind.u64 (↑n2:Int),vZ (IntKind.i64.wrap (↑n3:Int)),Value.slice none 0 0]:Array Value }=Value.agg { toList:=[Value.string p,Value.int IntKind.u64 (↑n2:Int),vZ (IntKind.i64.wrap (↑n3:Int)),Value.slice none 0 0]:Array Value },o4=o4∧l4=l4∧some c4=some c4,vZ 0=vZ 0,xs=xs,xs.all ae=true,(!bw p (↑n2:Int) (IntKind.i64.wrap (↑n3:Int)) 0==0)=false,p.size≤1000000000∧0≤(↑n2:Int)∧(↑n2:Int)<18446744073709551616,(IntKind.i64.wrap (↑n3:Int)==1)=false,cq 169 aJ 169 (0,0) 0 xs (IntKind.u64.wrap 2) 1 o3 l3 c3 (↑n3:Int) 1 o4 l4 c4,cq 169 aJ 169 (0,0) 0 xs 18446744073709551615 1 o2 l2 c2 (↑n2:Int) 1 o3 l3 c3,List.take n1 (List.drop o1 xs)=List.map (fun c=>SV.v (Value.int IntKind.u8 (↑c.toNat:Int))) p.data.toList∧p.size=n1,jc 169 (0,0) 0 xs 96 1 o l c 1 o1 n1 c1 1 o2 l2 c2]:=by kernel_rfl
theorem Mm (o l c n1 o1 l1 c1 n2 o2 l2 c2 n3 o3 l3 c3 n4 o4 l4 c4 o5 l5 c5 o6 l6 c6:Nat) (f':Int) (p:ByteArray) (a1 a2:Array Value) (xs:List SV):aB DF 94 600 (mE o l c xs) ([(0,.cells [.sl 1 o1 n1 (some c1),.sl 1 o2 l2 (some c2)]),(1,.str p),(2,.cells [.v (.int .u64 n2),.sl 1 o3 l3 (some c3)]),(4,.cells [.v (.int .u64 n3),.sl 1 o4 l4 (some c4)]),(5,.b false),(12,.b true),(1000,.b true)]) [(0,0),(1,1)] [1] (.v (.agg #[.string ⟨#[]⟩,.int .u64 0,.int .i64 0,.slice none 0 0])) [pA 2,lkB xs]=[Value.agg { toList:=[Value.string ⟨⟨[]⟩⟩,Value.int IntKind.u64 0,vZ 0,Value.slice none 0 0]:Array Value }=Value.agg { toList:=[Value.string ⟨⟨[]⟩⟩,Value.int IntKind.u64 0,vZ 0,Value.slice none 0 0]:Array Value },Value.slice none 0 0=Value.slice none 0 0,vZ 2=vZ 2,xs=xs,xs.all ae=true,(!bw p (↑n2:Int) (IntKind.i64.wrap (↑n3:Int)) 0==0)=true,p.size≤1000000000∧0≤(↑n2:Int)∧(↑n2:Int)<18446744073709551616,(IntKind.i64.wrap (↑n3:Int)==1)=false,cq 169 aJ 169 (0,0) 0 xs (IntKind.u64.wrap 2) 1 o3 l3 c3 (↑n3:Int) 1 o4 l4 c4,cq 169 aJ 169 (0,0) 0 xs 18446744073709551615 1 o2 l2 c2 (↑n2:Int) 1 o3 l3 c3,List.take n1 (List.drop o1 xs)=List.map (fun c=>SV.v (Value.int IntKind.u8 (↑c.toNat:Int))) p.data.toList∧p.size=n1,jc 169 (0,0) 0 xs 96 1 o l c 1 o1 n1 c1 1 o2 l2 c2]:=by kernel_rfl
theorem Pj (o l c n1 o1 l1 c1 n2 o2 l2 c2 n3 o3 l3 c3 n4 o4 l4 c4 o5 l5 c5 o6 l6 c6:Nat) (f':Int) (p:ByteArray) (a1 a2:Array Value) (xs:List SV):aB DF 94 600 (mE o l c xs) ([(0,.cells [.sl 1 o1 n1 (some c1),.sl 1 o2 l2 (some c2)]),(1,.str p),(2,.cells [.v (.int .u64 n2),.sl 1 o3 l3 (some c3)]),(4,.cells [.v (.int .u64 n3),.sl 1 o4 l4 (some c4)]),(5,.b true),(6,.cells [.v (.int .i64 f')]),(7,.b true),(8,.b false),(9,.b false),(10,.b false),(11,.b false),(13,.b true),(1000,.b true)]) [(0,0),(1,1)] [1] (.v (.agg #[.string ⟨#[]⟩,.int .u64 0,.int .i64 0,.slice none 0 0])) [pA f',lkB xs]=[Value.agg { toList:=[Value.string ⟨⟨[]⟩⟩,Value.int IntKind.u64 0,vZ 0,Value.slice none 0 0]:Array Value }=Value.agg { toList:=[Value.string ⟨⟨[]⟩⟩,Value.int IntKind.u64 0,vZ 0,Value.slice none 0 0]:Array Value },Value.slice none 0 0=Value.slice none 0 0,vZ f'=vZ f',xs=xs,xs.all ae=true,(!f'==0)=true,(f'==0)=false,(f'==0)=false,(f'==0)=false,(f'==0)=false,(!f'==0)=true,pO 169 (0,0) 0 xs 4096 o4 l4 c4 f',(IntKind.i64.wrap (↑n3:Int)==1)=true,cq 169 aJ 169 (0,0) 0 xs (IntKind.u64.wrap 2) 1 o3 l3 c3 (↑n3:Int) 1 o4 l4 c4,cq 169 aJ 169 (0,0) 0 xs 18446744073709551615 1 o2 l2 c2 (↑n2:Int) 1 o3 l3 c3,List.take n1 (List.drop o1 xs)=List.map (fun c=>SV.v (Value.int IntKind.u8 (↑c.toNat:Int))) p.data.toList∧p.size=n1,jc 169 (0,0) 0 xs 96 1 o l c 1 o1 n1 c1 1 o2 l2 c2]:=by kernel_rfl
theorem Pa (o l c n1 o1 l1 c1 n2 o2 l2 c2 n3 o3 l3 c3 n4 o4 l4 c4 o5 l5 c5 o6 l6 c6:Nat) (f':Int) (p:ByteArray) (a1 a2:Array Value) (xs:List SV):aB DF 94 600 (mE o l c xs) ([(0,.cells [.sl 1 o1 n1 (some c1),.sl 1 o2 l2 (some c2)]),(1,.str p),(2,.cells [.v (.int .u64 n2),.sl 1 o3 l3 (some c3)]),(4,.cells [.v (.int .u64 n3),.sl 1 o4 l4 (some c4)]),(5,.b true),(6,.cells [.sl 1 o5 n4 (some c5),.sl 1 o6 l6 (some c6)]),(13,.b false),(1000,.b true)]) [(0,0),(1,1)] [1] (.agg [.v (.string p),.v (.int .u64 n2),.v (.int .i64 (IntKind.i64.wrap n3)),.sl 1 o5 n4 (some c5)]) [gB o6 l6 c6 0,lkB xs]=[Value.string p=Value.string p,Value.int IntKind.u64 (↑n2:Int)=Value.int IntKind.u64 (↑n2:Int),vZ (IntKind.i64.wrap (↑n3:Int))=vZ (IntKind.i64.wrap (↑n3:Int)),o5=o5∧n4=n4∧some c5=some c5,o6=o6∧l6=l6∧some c6=some c6,vZ 0=vZ 0,xs=xs,xs.all ae=true,(!bw p (↑n2:Int) (IntKind.i64.wrap (↑n3:Int)) n4==0)=false,p.size≤1000000000∧0≤(↑n2:Int)∧(↑n2:Int)<18446744073709551616,jc 169 (0,0) 0 xs 4096 1 o4 l4 c4 1 o5 n4 c5 1 o6 l6 c6,(IntKind.i64.wrap (↑n3:Int)==1)=true,cq 169 aJ 169 (0,0) 0 xs (IntKind.u64.wrap 2) 1 o3 l3 c3 (↑n3:Int) 1 o4 l4 c4,cq 169 aJ 169 (0,0) 0 xs 18446744073709551615 1 o2 l2 c2 (↑n2:Int) 1 o3 l3 c3,List.take n1 (List.drop o1 xs)=List.map (fun c=>SV.v (Value.int IntKind.u8 (↑c.toNat:Int))) p.data.toList∧p.size=n1,jc 169 (0,0) 0 xs 96 1 o l c 1 o1 n1 c1 1 o2 l2 c2]:=by kernel_rfl
theorem Nv (o l c n1 o1 l1 c1 n2 o2 l2 c2 n3 o3 l3 c3 n4 o4 l4 c4 o5 l5 c5 o6 l6 c6:Nat) (f':Int) (p:ByteArray) (a1 a2:Array Value) (xs:List SV):aB DF 94 600 (mE o l c xs) ([(0,.cells [.sl 1 o1 n1 (some c1),.sl 1 o2 l2 (some c2)]),(1,.str p),(2,.cells [.v (.int .u64 n2),.sl 1 o3 l3 (some c3)]),(4,.cells [.v (.int .u64 n3),.sl 1 o4 l4 (some c4)]),(5,.b true),(6,.cells [.sl 1 o5 n4 (some c5),.sl 1 o6 l6 (some c6)]),(13,.b true),(1000,.b true)]) [(0,0),(1,1)] [1] (.v (.agg #[.string ⟨#[]⟩,.int .u64 0,.int .i64 0,.slice none 0 0])) [pA 2,lkB xs]=[Value.agg { toList:=[Value.string ⟨⟨[]⟩⟩,Value.int IntKind.u64 0,vZ 0,Value.slice none 0 0]:Array Value }=Value.agg { toList:=[Value.string ⟨⟨[]⟩⟩,Value.int IntKind.u64 0,vZ 0,Value.slice none 0 0]:Array Value },Value.slice none 0 0=Value.slice none 0 0,vZ 2=vZ 2,xs=xs,xs.all ae=true,(!bw p (↑n2:Int) (IntKind.i64.wrap (↑n3:Int)) n4==0)=true,p.size≤1000000000∧0≤(↑n2:Int)∧(↑n2:Int)<18446744073709551616,jc 169 (0,0) 0 xs 4096 1 o4 l4 c4 1 o5 n4 c5 1 o6 l6 c6,(IntKind.i64.wrap (↑n3:Int)==1)=true,cq 169 aJ 169 (0,0) 0 xs (IntKind.u64.wrap 2) 1 o3 l3 c3 (↑n3:Int) 1 o4 l4 c4,cq 169 aJ 169 (0,0) 0 xs 18446744073709551615 1 o2 l2 c2 (↑n2:Int) 1 o3 l3 c3,List.take n1 (List.drop o1 xs)=List.map (fun c=>SV.v (Value.int IntKind.u8 (↑c.toNat:Int))) p.data.toList∧p.size=n1,jc 169 (0,0) 0 xs 96 1 o l c 1 o1 n1 c1 1 o2 l2 c2]:=by kernel_rfl
noncomputable def Kx:List (FuncId × Sum):=[(123,qN TG aT),(156,tY),(117,si),(159,sW)]
noncomputable def vU:Env:={ EP [] [] with sums:=fun f=>Kx.lookup f }
noncomputable def gL (o l c:Nat) (xs:List SV):SM:=(aS vU 126 [.ptr 0 0] (bc 6 2 0 [eye.gb o l c 0,lkB xs])).getD dx
theorem OC (o l c n1 o1 l1 c1 n2 o2 l2 c2 n3 o3 l3 c3 n4 o4 l4 c4 o5 l5 c5 o6 l6 c6:Nat) (f':Int) (p:ByteArray) (a1 a2:Array Value) (xs:List SV):aB vU 126 600 (gL o l c xs) ([(1,.cells [.v (.int .i64 f')]),(8,.b true),(14,.b true),(23,.b false),(24,.b false),(25,.b false),(28,.b true),(1000,.b true)]) [(0,0),(1,1)] [1] (.v (.agg #[.string ⟨#[]⟩,.int .u64 0,.int .i64 0,.slice none 0 0])) [eye.iy f',lkB xs]=[Value.agg { toList:=[Value.string ⟨⟨[]⟩⟩,Value.int IntKind.u64 0,vZ 0,Value.slice none 0 0]:Array Value }=Value.agg { toList:=[Value.string ⟨⟨[]⟩⟩,Value.int IntKind.u64 0,vZ 0,Value.slice none 0 0]:Array Value },Value.slice none 0 0=Value.slice none 0 0,vZ f'=vZ f',xs=xs,xs.all ae=true,(!f'==0)=true,(f'==0)=false,(f'==0)=false,(f'==0)=false,0≤1000000000∧(0:Int)≤0∧(0:Int)<18446744073709551616,(!f'==0)=true,jg 247 247 (0,0) f' (IntKind.u64.wrap 2),jg 247 247 (0,0) f' 18446744073709551615,(!f'==0)=true,il 247 247 (0,0) 0 xs (IntKind.u64.wrap 96) o l c f']:=by kernel_rfl
theorem Mu (o l c n1 o1 l1 c1 n2 o2 l2 c2 n3 o3 l3 c3 n4 o4 l4 c4 o5 l5 c5 o6 l6 c6:Nat) (f':Int) (p:ByteArray) (a1 a2:Array Value) (xs:List SV):aB vU 126 600 (gL o l c xs) ([(1,.cells [.v (.int .u64 n1),.sl 1 o1 l1 (some c1)]),(9,.cells []),(1000,.b true)]) [(0,0),(1,1)] [1] (.v (.agg #[.string ⟨#[]⟩,.int .u64 0,.int .i64 0,.slice none 0 0])) [eye.iy 11,lkB xs]=[Value.agg { toList:=[Value.string ⟨⟨[]⟩⟩,Value.int IntKind.u64 0,vZ 0,Value.slice none 0 0]:Array Value }=Value.agg { toList:=[Value.string ⟨⟨[]⟩⟩,Value.int IntKind.u64 0,vZ 0,Value.slice none 0 0]:Array Value },Value.slice none 0 0=Value.slice none 0 0,vZ 11=vZ 11,xs=xs,xs.all ae=true,0≤1000000000∧(0:Int)≤0∧(0:Int)<18446744073709551616,jg 247 247 (0,0) 11 (IntKind.u64.wrap 2),jg 247 247 (0,0) 11 18446744073709551615,((none:Option Addr)=none),rr 247 (0,0) 0 (IntKind.i64.wrap (↑n1:Int)) l1 c1∧o1≤xs.length,cq 247 aT 247 (0,0) 0 xs (IntKind.u64.wrap 96) 1 o l c (↑n1:Int) 1 o1 l1 c1]:=by kernel_rfl
theorem L3 (o l c n1 o1 l1 c1 n2 o2 l2 c2 n3 o3 l3 c3 n4 o4 l4 c4 o5 l5 c5 o6 l6 c6:Nat) (f':Int) (p:ByteArray) (a1 a2:Array Value) (xs:List SV):aB vU 126 600 (gL o l c xs) ([(1,.cells [.v (.int .u64 n1),.sl 1 o1 l1 (some c1)]),(9,.cells [.sl 1 o1 n1 (some c1),.sl 1 o2 l2 (some c2)]),(10,.cells [.v (.agg a1)]),(11,.str p),(12,.cells [.v (.int .i64 f')]),(17,.b true),(19,.b true),(26,.b false),(27,.b false),(28,.b false),(31,.b true),(1000,.b true)]) [(0,0),(1,1)] [1] (.v (.agg #[.string ⟨#[]⟩,.int .u64 0,.int .i64 0,.slice none 0 0])) [eye.iy f',lkB xs]=[Value.agg { toList:=[Value.string ⟨⟨[]⟩⟩,Value.int IntKind.u64 0,vZ 0,Value.slice none 0 0]:Array Value }=Value.agg { toList:=[Value.string ⟨⟨[]⟩⟩,Value.int IntKind.u64 0,vZ 0,Value.slice none 0 0]:Array Value },Value.slice none 0 0=Value.slice none 0 0,vZ f'=vZ f',xs=xs,xs.all ae=true,(!f'==0)=true,(f'==0)=false,(f'==0)=false,(f'==0)=false,(!bw p 0 0 0==0)=true,p.size≤1000000000∧(0:Int)≤0∧(0:Int)<18446744073709551616,(!f'==0)=true,jg 247 247 (0,0) f' (IntKind.u64.wrap 2),il 247 247 (0,0) 0 xs 18446744073709551615 o2 l2 c2 f',List.take n1 (List.drop 0 (List.map SV.v a1.toList))=List.map (fun c=>SV.v (Value.int IntKind.u8 (↑c.toNat:Int))) p.data.toList∧p.size=n1,gE xs o1 n1 a1,fP 247 (0,0) 0 (IntKind.i64.wrap (↑n1:Int)) 1 o1 l1 c1 1 o1 n1 c1 1 o2 l2 c2∧o1≤xs.length,cq 247 aT 247 (0,0) 0 xs (IntKind.u64.wrap 96) 1 o l c (↑n1:Int) 1 o1 l1 c1]:=by kernel_rfl
theorem J7 (o l c n1 o1 l1 c1 n2 o2 l2 c2 n3 o3 l3 c3 n4 o4 l4 c4 o5 l5 c5 o6 l6 c6:Nat) (f':Int) (p:ByteArray) (a1 a2:Array Value) (xs:List SV):aB vU 126 600 (gL o l c xs) ([(1,.cells [.v (.int .u64 n1),.sl 1 o1 l1 (some c1)]),(9,.cells [.sl 1 o1 n1 (some c1),.sl 1 o2 l2 (some c2)]),(10,.cells [.v (.agg a1)]),(11,.str p),(12,.cells [.v (.int .u64 n2),.sl 1 o3 l3 (some c3)]),(14,.cells [.v (.int .i64 f')]),(17,.b true),(19,.b false),(21,.b true),(1000,.b true)]) [(0,0),(1,1)] [1] (.v (.agg #[.string ⟨#[]⟩,.int .u64 0,.int .i64 0,.slice none 0 0])) [eye.iy f',lkB xs]=[Value.agg { toList:=[Value.string ⟨⟨[]⟩⟩,Value.int IntKind.u64 0,vZ 0,Value.slice none 0 0]:Array Value }=Value.agg { toList:=[Value.string ⟨⟨[]⟩⟩,Value.int IntKind.u64 0,vZ 0,Value.slice none 0 0]:Array Value },Value.slice none 0 0=Value.slice none 0 0,vZ f'=vZ f',xs=xs,xs.all ae=true,(!f'==0)=true,(!bw p (↑n2:Int) 0 0==0)=false,p.size≤1000000000∧0≤(↑n2:Int)∧(↑n2:Int)<18446744073709551616,(!f'==0)=true,il 247 247 (0,0) 0 xs (IntKind.u64.wrap 2) o3 l3 c3 f',cq 247 aT 247 (0,0) 0 xs 18446744073709551615 1 o2 l2 c2 (↑n2:Int) 1 o3 l3 c3,List.take n1 (List.drop 0 (List.map SV.v a1.toList))=List.map (fun c=>SV.v (Value.int IntKind.u8 (↑c.toNat:Int))) p.data.toList∧p.size=n1,gE xs o1 n1 a1,fP 247 (0,0) 0 (IntKind.i64.wrap (↑n1:Int)) 1 o1 l1 c1 1 o1 n1 c1 1 o2 l2 c2∧o1≤xs.length,cq 247 aT 247 (0,0) 0 xs (IntKind.u64.wrap 96) 1 o l c (↑n1:Int) 1 o1 l1 c1]:=by kernel_rfl
theorem Lp (o l c n1 o1 l1 c1 n2 o2 l2 c2 n3 o3 l3 c3 n4 o4 l4 c4 o5 l5 c5 o6 l6 c6:Nat) (f':Int) (p:ByteArray) (a1 a2:Array Value) (xs:List SV):aB vU 126 600 (gL o l c xs) ([(1,.cells [.v (.int .u64 n1),.sl 1 o1 l1 (some c1)]),(9,.cells [.sl 1 o1 n1 (some c1),.sl 1 o2 l2 (some c2)]),(10,.cells [.v (.agg a1)]),(11,.str p),(12,.cells [.v (.int .u64 n2),.sl 1 o3 l3 (some c3)]),(14,.cells [.v (.int .i64 f')]),(17,.b true),(19,.b true),(26,.b false),(27,.b false),(28,.b false),(31,.b true),(1000,.b true)]) [(0,0),(1,1)] [1] (.v (.agg #[.string ⟨#[]⟩,.int .u64 0,.int .i64 0,.slice none 0 0])) [eye.iy f',lkB xs]=[Value.agg { toList:=[Value.string ⟨⟨[]⟩⟩,Value.int IntKind.u64 0,vZ 0,Value.slice none 0 0]:Array Value }=Value.agg { toList:=[Value.string ⟨⟨[]⟩⟩,Value.int IntKind.u64 0,vZ 0,Value.slice none 0 0]:Array Value },Value.slice none 0 0=Value.slice none 0 0,vZ f'=vZ f',xs=xs,xs.all ae=true,(!f'==0)=true,(f'==0)=false,(f'==0)=false,(f'==0)=false,(!bw p (↑n2:Int) 0 0==0)=true,p.size≤1000000000∧0≤(↑n2:Int)∧(↑n2:Int)<18446744073709551616,(!f'==0)=true,il 247 247 (0,0) 0 xs (IntKind.u64.wrap 2) o3 l3 c3 f',cq 247 aT 247 (0,0) 0 xs 18446744073709551615 1 o2 l2 c2 (↑n2:Int) 1 o3 l3 c3,List.take n1 (List.drop 0 (List.map SV.v a1.toList))=List.map (fun c=>SV.v (Value.int IntKind.u8 (↑c.toNat:Int))) p.data.toList∧p.size=n1,gE xs o1 n1 a1,fP 247 (0,0) 0 (IntKind.i64.wrap (↑n1:Int)) 1 o1 l1 c1 1 o1 n1 c1 1 o2 l2 c2∧o1≤xs.length,cq 247 aT 247 (0,0) 0 xs (IntKind.u64.wrap 96) 1 o l c (↑n1:Int) 1 o1 l1 c1]:=by kernel_rfl
theorem Oc (o l c n1 o1 l1 c1 n2 o2 l2 c2 n3 o3 l3 c3 n4 o4 l4 c4 o5 l5 c5 o6 l6 c6:Nat) (f':Int) (p:ByteArray) (a1 a2:Array Value) (xs:List SV):aB vU 126 600 (gL o l c xs) ([(1,.cells [.v (.int .u64 n1),.sl 1 o1 l1 (some c1)]),(9,.cells [.sl 1 o1 n1 (some c1),.sl 1 o2 l2 (some c2)]),(10,.cells [.v (.agg a1)]),(11,.str p),(12,.cells [.v (.int .u64 n2),.sl 1 o3 l3 (some c3)]),(14,.cells [.v (.int .u64 n3),.sl 1 o4 l4 (some c4)]),(15,.b false),(19,.b false),(1000,.b true)]) [(0,0),(1,1)] [1] (.v (.agg #[.string p,.int .u64 n2,.int .i64 (IntKind.i64.wrap n3),.slice none 0 0])) [eye.gb o4 l4 c4 0,lkB xs]=[Value.agg { toList:=[Value.string p,Value.int IntKind.u64 (↑n2:Int),vZ (IntKind.i64.wrap (↑n3:Int)),Value.slice none 0 0]:Array Value }=Value.agg { toList:=[Value.string p,Value.int IntKind.u64 (↑n2:Int),vZ (IntKind.i64.wrap (↑n3:Int)),Value.slice none 0 0]:Array Value },o4=o4∧l4=l4∧some c4=some c4,vZ 0=vZ 0,xs=xs,xs.all ae=true,(!bw p (↑n2:Int) (IntKind.i64.wrap (↑n3:Int)) 0==0)=false,p.size≤1000000000∧0≤(↑n2:Int)∧(↑n2:Int)<18446744073709551616,(IntKind.i64.wrap (↑n3:Int)==1)=false,cq 247 aT 247 (0,0) 0 xs (IntKind.u64.wrap 2) 1 o3 l3 c3 (↑n3:Int) 1 o4 l4 c4,cq 247 aT 247 (0,0) 0 xs 18446744073709551615 1 o2 l2 c2 (↑n2:Int) 1 o3 l3 c3,List.take n1 (List.drop 0 (List.map SV.v a1.toList))=List.map (fun c=>SV.v (Value.int IntKind.u8 (↑c.toNat:Int))) p.data.toList∧p.size=n1,gE xs o1 n1 a1,fP 247 (0,0) 0 (IntKind.i64.wrap (↑n1:Int)) 1 o1 l1 c1 1 o1 n1 c1 1 o2 l2 c2∧o1≤xs.length,cq 247 aT 247 (0,0) 0 xs (IntKind.u64.wrap 96) 1 o l c (↑n1:Int) 1 o1 l1 c1]:=by kernel_rfl
theorem N3 (o l c n1 o1 l1 c1 n2 o2 l2 c2 n3 o3 l3 c3 n4 o4 l4 c4 o5 l5 c5 o6 l6 c6:Nat) (f':Int) (p:ByteArray) (a1 a2:Array Value) (xs:List SV):aB vU 126 600 (gL o l c xs) ([(1,.cells [.v (.int .u64 n1),.sl 1 o1 l1 (some c1)]),(9,.cells [.sl 1 o1 n1 (some c1),.sl 1 o2 l2 (some c2)]),(10,.cells [.v (.agg a1)]),(11,.str p),(12,.cells [.v (.int .u64 n2),.sl 1 o3 l3 (some c3)]),(14,.cells [.v (.int .u64 n3),.sl 1 o4 l4 (some c4)]),(15,.b false),(19,.b true),(1000,.b true)]) [(0,0),(1,1)] [1] (.v (.agg #[.string ⟨#[]⟩,.int .u64 0,.int .i64 0,.slice none 0 0])) [eye.iy 2,lkB xs]=[Value.agg { toList:=[Value.string ⟨⟨[]⟩⟩,Value.int IntKind.u64 0,vZ 0,Value.slice none 0 0]:Array Value }=Value.agg { toList:=[Value.string ⟨⟨[]⟩⟩,Value.int IntKind.u64 0,vZ 0,Value.slice none 0 0]:Array Value },Value.slice none 0 0=Value.slice none 0 0,vZ 2=vZ 2,xs=xs,xs.all ae=true,(!bw p (↑n2:Int) (IntKind.i64.wrap (↑n3:Int)) 0==0)=true,p.size≤1000000000∧0≤(↑n2:Int)∧(↑n2:Int)<18446744073709551616,(IntKind.i64.wrap (↑n3:Int)==1)=false,cq 247 aT 247 (0,0) 0 xs (IntKind.u64.wrap 2) 1 o3 l3 c3 (↑n3:Int) 1 o4 l4 c4,cq 247 aT 247 (0,0) 0 xs 18446744073709551615 1 o2 l2 c2 (↑n2:Int) 1 o3 l3 c3,List.take n1 (List.drop 0 (List.map SV.v a1.toList))=List.map (fun c=>SV.v (Value.int IntKind.u8 (↑c.toNat:Int))) p.data.toList∧p.size=n1,gE xs o1 n1 a1,fP 247 (0,0) 0 (IntKind.i64.wrap (↑n1:Int)) 1 o1 l1 c1 1 o1 n1 c1 1 o2 l2 c2∧o1≤xs.length,cq 247 aT 247 (0,0) 0 xs (IntKind.u64.wrap 96) 1 o l c (↑n1:Int) 1 o1 l1 c1]:=by kernel_rfl
theorem Kg (o l c n1 o1 l1 c1 n2 o2 l2 c2 n3 o3 l3 c3 n4 o4 l4 c4 o5 l5 c5 o6 l6 c6:Nat) (f':Int) (p:ByteArray) (a1 a2:Array Value) (xs:List SV):aB vU 126 600 (gL o l c xs) ([(1,.cells [.v (.int .u64 n1),.sl 1 o1 l1 (some c1)]),(9,.cells [.sl 1 o1 n1 (some c1),.sl 1 o2 l2 (some c2)]),(10,.cells [.v (.agg a1)]),(11,.str p),(12,.cells [.v (.int .u64 n2),.sl 1 o3 l3 (some c3)]),(14,.cells [.v (.int .u64 n3),.sl 1 o4 l4 (some c4)]),(15,.b true),(17,.cells [.v (.int .i64 f')]),(24,.b true),(26,.b true),(28,.b false),(30,.b true),(1000,.b true)]) [(0,0),(1,1)] [1] (.v (.agg #[.string ⟨#[]⟩,.int .u64 0,.int .i64 0,.slice none 0 0])) [eye.iy f',lkB xs]=[Value.agg { toList:=[Value.string ⟨⟨[]⟩⟩,Value.int IntKind.u64 0,vZ 0,Value.slice none 0 0]:Array Value }=Value.agg { toList:=[Value.string ⟨⟨[]⟩⟩,Value.int IntKind.u64 0,vZ 0,Value.slice none 0 0]:Array Value },Value.slice none 0 0=Value.slice none 0 0,vZ f'=vZ f',xs=xs,xs.all ae=true,(!f'==0)=true,(!bw p (↑n2:Int) 0 0==0)=false,p.size≤1000000000∧0≤(↑n2:Int)∧(↑n2:Int)<18446744073709551616,(!f'==0)=true,(!f'==0)=true,il 247 247 (0,0) 0 xs (IntKind.u64.wrap 4096) o4 l4 c4 f',(IntKind.i64.wrap (↑n3:Int)==1)=true,cq 247 aT 247 (0,0) 0 xs (IntKind.u64.wrap 2) 1 o3 l3 c3 (↑n3:Int) 1 o4 l4 c4,cq 247 aT 247 (0,0) 0 xs 18446744073709551615 1 o2 l2 c2 (↑n2:Int) 1 o3 l3 c3,List.take n1 (List.drop 0 (List.map SV.v a1.toList))=List.map (fun c=>SV.v (Value.int IntKind.u8 (↑c.toNat:Int))) p.data.toList∧p.size=n1,gE xs o1 n1 a1,fP 247 (0,0) 0 (IntKind.i64.wrap (↑n1:Int)) 1 o1 l1 c1 1 o1 n1 c1 1 o2 l2 c2∧o1≤xs.length,cq 247 aT 247 (0,0) 0 xs (IntKind.u64.wrap 96) 1 o l c (↑n1:Int) 1 o1 l1 c1]:=by kernel_rfl
theorem Jv (o l c n1 o1 l1 c1 n2 o2 l2 c2 n3 o3 l3 c3 n4 o4 l4 c4 o5 l5 c5 o6 l6 c6:Nat) (f':Int) (p:ByteArray) (a1 a2:Array Value) (xs:List SV):aB vU 126 600 (gL o l c xs) ([(1,.cells [.v (.int .u64 n1),.sl 1 o1 l1 (some c1)]),(9,.cells [.sl 1 o1 n1 (some c1),.sl 1 o2 l2 (some c2)]),(10,.cells [.v (.agg a1)]),(11,.str p),(12,.cells [.v (.int .u64 n2),.sl 1 o3 l3 (some c3)]),(14,.cells [.v (.int .u64 n3),.sl 1 o4 l4 (some c4)]),(15,.b true),(17,.cells [.v (.int .i64 f')]),(24,.b true),(26,.b true),(28,.b true),(35,.b false),(36,.b false),(37,.b false),(40,.b true),(1000,.b true)]) [(0,0),(1,1)] [1] (.v (.agg #[.string ⟨#[]⟩,.int .u64 0,.int .i64 0,.slice none 0 0])) [eye.iy f',lkB xs]=[Value.agg { toList:=[Value.string ⟨⟨[]⟩⟩,Value.int IntKind.u64 0,vZ 0,Value.slice none 0 0]:Array Value }=Value.agg { toList:=[Value.string ⟨⟨[]⟩⟩,Value.int IntKind.u64 0,vZ 0,Value.slice none 0 0]:Array Value },Value.slice none 0 0=Value.slice none 0 0,vZ f'=vZ f',xs=xs,xs.all ae=true,(!f'==0)=true,(f'==0)=false,(f'==0)=false,(f'==0)=false,(!bw p (↑n2:Int) 0 0==0)=true,p.size≤1000000000∧0≤(↑n2:Int)∧(↑n2:Int)<18446744073709551616,(!f'==0)=true,(!f'==0)=true,il 247 247 (0,0) 0 xs (IntKind.u64.wrap 4096) o4 l4 c4 f',(IntKind.i64.wrap (↑n3:Int)==1)=true,cq 247 aT 247 (0,0) 0 xs (IntKind.u64.wrap 2) 1 o3 l3 c3 (↑n3:Int) 1 o4 l4 c4,cq 247 aT 247 (0,0) 0 xs 18446744073709551615 1 o2 l2 c2 (↑n2:Int) 1 o3 l3 c3,List.take n1 (List.drop 0 (List.map SV.v a1.toList))=List.map (fun c=>SV.v (Value.int IntKind.u8 (↑c.toNat:Int))) p.data.toList∧p.size=n1,gE xs o1 n1 a1,fP 247 (0,0) 0 (IntKind.i64.wrap (↑n1:Int)) 1 o1 l1 c1 1 o1 n1 c1 1 o2 l2 c2∧o1≤xs.length,cq 247 aT 247 (0,0) 0 xs (IntKind.u64.wrap 96) 1 o l c (↑n1:Int) 1 o1 l1 c1]:=by kernel_rfl
theorem K3 (o l c n1 o1 l1 c1 n2 o2 l2 c2 n3 o3 l3 c3 n4 o4 l4 c4 o5 l5 c5 o6 l6 c6:Nat) (f':Int) (p:ByteArray) (a1 a2:Array Value) (xs:List SV):aB vU 126 600 (gL o l c xs) ([(1,.cells [.v (.int .u64 n1),.sl 1 o1 l1 (some c1)]),(9,.cells [.sl 1 o1 n1 (some c1),.sl 1 o2 l2 (some c2)]),(10,.cells [.v (.agg a1)]),(11,.str p),(12,.cells [.v (.int .u64 n2),.sl 1 o3 l3 (some c3)]),(14,.cells [.v (.int .u64 n3),.sl 1 o4 l4 (some c4)]),(15,.b true),(17,.cells [.v (.int .u64 n4),.sl 1 o5 l5 (some c5)]),(25,.cells []),(30,.b false),(1000,.b true)]) [(0,0),(1,1)] [1] (.v (.agg #[.string ⟨#[]⟩,.int .u64 0,.int .i64 0,.slice none 0 0])) [eye.iy 11,lkB xs]=[Value.agg { toList:=[Value.string ⟨⟨[]⟩⟩,Value.int IntKind.u64 0,vZ 0,Value.slice none 0 0]:Array Value }=Value.agg { toList:=[Value.string ⟨⟨[]⟩⟩,Value.int IntKind.u64 0,vZ 0,Value.slice none 0 0]:Array Value },Value.slice none 0 0=Value.slice none 0 0,vZ 11=vZ 11,xs=xs,xs.all ae=true,(!bw p (↑n2:Int) 0 0==0)=false,p.size≤1000000000∧0≤(↑n2:Int)∧(↑n2:Int)<18446744073709551616,((none:Option Addr)=none),rr 247 (0,0) 0 (IntKind.i64.wrap (↑n4:Int)) l5 c5∧o5≤xs.length,cq 247 aT 247 (0,0) 0 xs (IntKind.u64.wrap 4096) 1 o4 l4 c4 (↑n4:Int) 1 o5 l5 c5,(IntKind.i64.wrap (↑n3:Int)==1)=true,cq 247 aT 247 (0,0) 0 xs (IntKind.u64.wrap 2) 1 o3 l3 c3 (↑n3:Int) 1 o4 l4 c4,cq 247 aT 247 (0,0) 0 xs 18446744073709551615 1 o2 l2 c2 (↑n2:Int) 1 o3 l3 c3,List.take n1 (List.drop 0 (List.map SV.v a1.toList))=List.map (fun c=>SV.v (Value.int IntKind.u8 (↑c.toNat:Int))) p.data.toList∧p.size=n1,gE xs o1 n1 a1,fP 247 (0,0) 0 (IntKind.i64.wrap (↑n1:Int)) 1 o1 l1 c1 1 o1 n1 c1 1 o2 l2 c2∧o1≤xs.length,cq 247 aT 247 (0,0) 0 xs (IntKind.u64.wrap 96) 1 o l c (↑n1:Int) 1 o1 l1 c1]:=by kernel_rfl
theorem Kz (o l c n1 o1 l1 c1 n2 o2 l2 c2 n3 o3 l3 c3 n4 o4 l4 c4 o5 l5 c5 o6 l6 c6:Nat) (f':Int) (p:ByteArray) (a1 a2:Array Value) (xs:List SV):aB vU 126 600 (gL o l c xs) ([(1,.cells [.v (.int .u64 n1),.sl 1 o1 l1 (some c1)]),(9,.cells [.sl 1 o1 n1 (some c1),.sl 1 o2 l2 (some c2)]),(10,.cells [.v (.agg a1)]),(11,.str p),(12,.cells [.v (.int .u64 n2),.sl 1 o3 l3 (some c3)]),(14,.cells [.v (.int .u64 n3),.sl 1 o4 l4 (some c4)]),(15,.b true),(17,.cells [.v (.int .u64 n4),.sl 1 o5 l5 (some c5)]),(25,.cells []),(30,.b true),(1000,.b true)]) [(0,0),(1,1)] [1] (.v (.agg #[.string ⟨#[]⟩,.int .u64 0,.int .i64 0,.slice none 0 0])) [eye.iy 11,lkB xs]=[Value.agg { toList:=[Value.string ⟨⟨[]⟩⟩,Value.int IntKind.u64 0,vZ 0,Value.slice none 0 0]:Array Value }=Value.agg { toList:=[Value.string ⟨⟨[]⟩⟩,Value.int IntKind.u64 0,vZ 0,Value.slice none 0 0]:Array Value },Value.slice none 0 0=Value.slice none 0 0,vZ 11=vZ 11,xs=xs,xs.all ae=true,(!bw p (↑n2:Int) 0 0==0)=true,p.size≤1000000000∧0≤(↑n2:Int)∧(↑n2:Int)<18446744073709551616,((none:Option Addr)=none),rr 247 (0,0) 0 (IntKind.i64.wrap (↑n4:Int)) l5 c5∧o5≤xs.length,cq 247 aT 247 (0,0) 0 xs (IntKind.u64.wrap 4096) 1 o4 l4 c4 (↑n4:Int) 1 o5 l5 c5,(IntKind.i64.wrap (↑n3:Int)==1)=true,cq 247 aT 247 (0,0) 0 xs (IntKind.u64.wrap 2) 1 o3 l3 c3 (↑n3:Int) 1 o4 l4 c4,cq 247 aT 247 (0,0) 0 xs 18446744073709551615 1 o2 l2 c2 (↑n2:Int) 1 o3 l3 c3,List.take n1 (List.drop 0 (List.map SV.v a1.toList))=List.map (fun c=>SV.v (Value.int IntKind.u8 (↑c.toNat:Int))) p.data.toList∧p.size=n1,gE xs o1 n1 a1,fP 247 (0,0) 0 (IntKind.i64.wrap (↑n1:Int)) 1 o1 l1 c1 1 o1 n1 c1 1 o2 l2 c2∧o1≤xs.length,cq 247 aT 247 (0,0) 0 xs (IntKind.u64.wrap 96) 1 o l c (↑n1:Int) 1 o1 l1 c1]:=by kernel_rfl
theorem MP (o l c n1 o1 l1 c1 n2 o2 l2 c2 n3 o3 l3 c3 n4 o4 l4 c4 o5 l5 c5 o6 l6 c6:Nat) (f':Int) (p:ByteArray) (a1 a2:Array Value) (xs:List SV):aB vU 126 600 (gL o l c xs) ([(1,.cells [.v (.int .u64 n1),.sl 1 o1 l1 (some c1)]),(9,.cells [.sl 1 o1 n1 (some c1),.sl 1 o2 l2 (some c2)]),(10,.cells [.v (.agg a1)]),(11,.str p),(12,.cells [.v (.int .u64 n2),.sl 1 o3 l3 (some c3)]),(14,.cells [.v (.int .u64 n3),.sl 1 o4 l4 (some c4)]),(15,.b true),(17,.cells [.v (.int .u64 n4),.sl 1 o5 l5 (some c5)]),(25,.cells [.sl 1 o5 n4 (some c5),.sl 1 o6 l6 (some c6)]),(26,.cells [.v (.agg a2)]),(30,.b false),(1000,.b true)]) [(0,0),(1,1),(2,5)] [1,2] (.agg [.v (.string p),.v (.int .u64 n2),.v (.int .i64 (IntKind.i64.wrap n3)),.sl 2 0 n4 none]) [eye.gb o6 l6 c6 0,lkB xs,some (.row (a2.toList.map SV.v) 5 (0,0) (some 1),true)]=[Value.string p=Value.string p,Value.int IntKind.u64 (↑n2:Int)=Value.int IntKind.u64 (↑n2:Int),vZ (IntKind.i64.wrap (↑n3:Int))=vZ (IntKind.i64.wrap (↑n3:Int)),0=0∧n4=n4∧nZ=none,o6=o6∧l6=l6∧some c6=some c6,vZ 0=vZ 0,xs=xs,xs.all ae=true,List.map SV.v a2.toList=List.map SV.v a2.toList,(List.map SV.v a2.toList).all ae=true,(!bw p (↑n2:Int) (IntKind.i64.wrap (↑n3:Int)) n4==0)=false,p.size≤1000000000∧0≤(↑n2:Int)∧(↑n2:Int)<18446744073709551616,gE xs o5 n4 a2,fP 247 (0,0) 0 (IntKind.i64.wrap (↑n4:Int)) 1 o5 l5 c5 1 o5 n4 c5 1 o6 l6 c6∧o5≤xs.length,cq 247 aT 247 (0,0) 0 xs (IntKind.u64.wrap 4096) 1 o4 l4 c4 (↑n4:Int) 1 o5 l5 c5,(IntKind.i64.wrap (↑n3:Int)==1)=true,cq 247 aT 247 (0,0) 0 xs (IntKind.u64.wrap 2) 1 o3 l3 c3 (↑n3:Int) 1 o4 l4 c4,cq 247 aT 247 (0,0) 0 xs 18446744073709551615 1 o2 l2 c2 (↑n2:Int) 1 o3 l3 c3,List.take n1 (List.drop 0 (List.map SV.v a1.toList))=List.map (fun c=>SV.v (Value.int IntKind.u8 (↑c.toNat:Int))) p.data.toList∧p.size=n1,gE xs o1 n1 a1,fP 247 (0,0) 0 (IntKind.i64.wrap (↑n1:Int)) 1 o1 l1 c1 1 o1 n1 c1 1 o2 l2 c2∧o1≤xs.length,cq 247 aT 247 (0,0) 0 xs (IntKind.u64.wrap 96) 1 o l c (↑n1:Int) 1 o1 l1 c1]:=by kernel_rfl
theorem MY (o l c n1 o1 l1 c1 n2 o2 l2 c2 n3 o3 l3 c3 n4 o4 l4 c4 o5 l5 c5 o6 l6 c6:Nat) (f':Int) (p:ByteArray) (a1 a2:Array Value) (xs:List SV):aB vU 126 600 (gL o l c xs) ([(1,.cells [.v (.int .u64 n1),.sl 1 o1 l1 (some c1)]),(9,.cells [.sl 1 o1 n1 (some c1),.sl 1 o2 l2 (some c2)]),(10,.cells [.v (.agg a1)]),(11,.str p),(12,.cells [.v (.int .u64 n2),.sl 1 o3 l3 (some c3)]),(14,.cells [.v (.int .u64 n3),.sl 1 o4 l4 (some c4)]),(15,.b true),(17,.cells [.v (.int .u64 n4),.sl 1 o5 l5 (some c5)]),(25,.cells [.sl 1 o5 n4 (some c5),.sl 1 o6 l6 (some c6)]),(26,.cells [.v (.agg a2)]),(30,.b true),(1000,.b true)]) [(0,0),(1,1)] [1] (.v (.agg #[.string ⟨#[]⟩,.int .u64 0,.int .i64 0,.slice none 0 0])) [eye.iy 2,lkB xs]=[Value.agg { toList:=[Value.string ⟨⟨[]⟩⟩,Value.int IntKind.u64 0,vZ 0,Value.slice none 0 0]:Array Value }=Value.agg { toList:=[Value.string ⟨⟨[]⟩⟩,Value.int IntKind.u64 0,vZ 0,Value.slice none 0 0]:Array Value },Value.slice none 0 0=Value.slice none 0 0,vZ 2=vZ 2,xs=xs,xs.all ae=true,(!bw p (↑n2:Int) (IntKind.i64.wrap (↑n3:Int)) n4==0)=true,p.size≤1000000000∧0≤(↑n2:Int)∧(↑n2:Int)<18446744073709551616,gE xs o5 n4 a2,fP 247 (0,0) 0 (IntKind.i64.wrap (↑n4:Int)) 1 o5 l5 c5 1 o5 n4 c5 1 o6 l6 c6∧o5≤xs.length,cq 247 aT 247 (0,0) 0 xs (IntKind.u64.wrap 4096) 1 o4 l4 c4 (↑n4:Int) 1 o5 l5 c5,(IntKind.i64.wrap (↑n3:Int)==1)=true,cq 247 aT 247 (0,0) 0 xs (IntKind.u64.wrap 2) 1 o3 l3 c3 (↑n3:Int) 1 o4 l4 c4,cq 247 aT 247 (0,0) 0 xs 18446744073709551615 1 o2 l2 c2 (↑n2:Int) 1 o3 l3 c3,List.take n1 (List.drop 0 (List.map SV.v a1.toList))=List.map (fun c=>SV.v (Value.int IntKind.u8 (↑c.toNat:Int))) p.data.toList∧p.size=n1,gE xs o1 n1 a1,fP 247 (0,0) 0 (IntKind.i64.wrap (↑n1:Int)) 1 o1 l1 c1 1 o1 n1 c1 1 o2 l2 c2∧o1≤xs.length,cq 247 aT 247 (0,0) 0 xs (IntKind.u64.wrap 96) 1 o l c (↑n1:Int) 1 o1 l1 c1]:=by kernel_rfl
end ez
end paths
end Go.Proofs.YtcbokmadfcedaaaGreatDoor
set_option linter.unusedSimpArgs false
set_option linter.unusedVariables false
set_option maxRecDepth 100000
namespace Go.Proofs.YtcbokmadfcedaaaGreatDoor
open Go Go.Rx Go.RowKit Go.Proofs
namespace paths
namespace ez
open eye (lkB numR numR_cons u64_in)
def bt (l:List Int):ByteArray:=⟨(l.map fun z=>UInt8.ofNat z.toNat).toArray⟩
theorem gh (l:List Int):(bt l).size=l.length:=by unfold bt;simp [ByteArray.size]
theorem dX {l:List Int} (h:∀ z∈l,0≤z∧z<256):(bt l).data.toList.map (fun c=>SV.v (Value.int IntKind.u8 (c.toNat:Int)))=l.map fun z=>SV.v (Value.int IntKind.u8 z):=by
 unfold bt
 rw [List.map_map]
 refine List.map_congr_left fun z hz=>?_
 obtain ⟨h1,h2⟩:=h z hz
 show SV.v (Value.int IntKind.u8 ((UInt8.ofNat z.toNat).toNat:Int))=_
 have:(UInt8.ofNat z.toNat).toNat=z.toNat:=by simp;omega
 rw [this];congr 2;omega
abbrev c7:=ByteArray × Nat × Nat × List Int
def jh (p:ByteArray) (v k:Nat) (d rest:List Int):Option c7 × Int × List Int:=if bw p v k d.length=0 then (some (p,v,k,d),0,rest) else (none,2,[])
def dT (zs:List Int):Option c7 × Int × List Int:=match bX 96 zs with
 | (t,f,z2)=>if f≠0 then (none,f,[]) else match numR 18446744073709551615 z2 with
  | (v,f,z3)=>if f≠0 then (none,f,[]) else match numR 2 z3 with
   | (k,f,z4)=>if f≠0 then (none,f,[]) else if k≠1 then jh (bt t) v k [] z4 else match bX 4096 z4 with
    | (d,f,z5)=>if f≠0 then (none,f,[]) else jh (bt t) v k d z5
section
variable {zs z2 z3 z4 z5 t d:List Int} {v k:Nat} {f:Int}
theorem pQ (h1:bX 96 zs=(t,f,z2)) (hf:f≠0):dT zs=(none,f,[]):=by unfold dT;rw [h1];simp only;rw [if_pos hf]
theorem qT (h1:bX 96 zs=(t,0,z2)) (h2:numR 18446744073709551615 z2=(v,f,z3)) (hf:f≠0):dT zs=(none,f,[]):=by unfold dT;rw [h1];simp only;rw [if_neg (by simp),h2];simp only;rw [if_pos hf]
theorem j2 (h1:bX 96 zs=(t,0,z2)) (h2:numR 18446744073709551615 z2=(v,0,z3)) (h3:numR 2 z3=(k,f,z4)) (hf:f≠0):dT zs=(none,f,[]):=by unfold dT;rw [h1];simp only;rw [if_neg (by simp),h2];simp only;rw [if_neg (by simp),h3];simp only;rw [if_pos hf]
theorem qo (h1:bX 96 zs=(t,0,z2)) (h2:numR 18446744073709551615 z2=(v,0,z3)) (h3:numR 2 z3=(k,0,z4)) (hk:k≠1):dT zs=jh (bt t) v k [] z4:=by unfold dT;rw [h1];simp only;rw [if_neg (by simp),h2];simp only;rw [if_neg (by simp),h3];simp only;rw [if_neg (by simp),if_pos hk]
theorem lD (h1:bX 96 zs=(t,0,z2)) (h2:numR 18446744073709551615 z2=(v,0,z3)) (h3:numR 2 z3=(1,0,z4)) (h4:bX 4096 z4=(d,f,z5)) (hf:f≠0):dT zs=(none,f,[]):=by unfold dT;rw [h1];simp only;rw [if_neg (by simp),h2];simp only;rw [if_neg (by simp),h3];simp only;rw [if_neg (by simp),if_neg (by simp),h4];simp only;rw [if_pos hf]
theorem qh (h1:bX 96 zs=(t,0,z2)) (h2:numR 18446744073709551615 z2=(v,0,z3)) (h3:numR 2 z3=(1,0,z4)) (h4:bX 4096 z4=(d,0,z5)):dT zs=jh (bt t) v 1 d z5:=by unfold dT;rw [h1];simp only;rw [if_neg (by simp),h2];simp only;rw [if_neg (by simp),h3];simp only;rw [if_neg (by simp),if_neg (by simp),h4];simp only;rw [if_neg (by simp)]
end
def cN (adv:Nat→Nat→Nat→Nat) (m:Nat) (zs:List Int) (o c:Nat):Nat × Nat:=(adv o c (zs.length - (numR m zs).2.2.length),c - (zs.length - (numR m zs).2.2.length))
def dz (adv:Nat→Nat→Nat→Nat) (m:Nat) (zs:List Int) (o c:Nat):Nat × Nat:=(aJ (cN adv m zs o c).1 (cN adv m zs o c).2 (numR m zs).1,(cN adv m zs o c).2 - (numR m zs).1)
def eH (adv:Nat→Nat→Nat→Nat) (zs:List Int) (o c:Nat):Nat × Nat:=
 let q2:=dz adv 96 zs o c
 let z2:=(bX 96 zs).2.2
 let q3:=cN adv 18446744073709551615 z2 q2.1 q2.2
 let z3:=(numR 18446744073709551615 z2).2.2
 let q4:=cN adv 2 z3 q3.1 q3.2
 if (numR 2 z3).1=1 then dz adv 4096 (numR 2 z3).2.2 q4.1 q4.2 else q4
def dO (adv:Nat→Nat→Nat→Nat) (zs:List Int) (o c:Nat):Nat × Nat:=
 let q2:=dz adv 96 zs o c
 let z2:=(bX 96 zs).2.2
 let q3:=cN adv 18446744073709551615 z2 q2.1 q2.2
 let z3:=(numR 18446744073709551615 z2).2.2
 let q4:=cN adv 2 z3 q3.1 q3.2
 cN adv 4096 (numR 2 z3).2.2 q4.1 q4.2
theorem kx {adv:Nat→Nat→Nat→Nat} {m n k o c:Nat} {zs:List Int} (h:numR m zs=(n,0,zs.drop k)) (hk:k≤zs.length):(adv o c k,c - k)=cN adv m zs o c:=by
 unfold cN
 rw [h]
 show _=(adv o c (zs.length - (zs.drop k).length),c - (zs.length - (zs.drop k).length))
 rw [List.length_drop,show zs.length - (zs.length - k)=k by omega]
theorem lx {adv:Nat→Nat→Nat→Nat} {m n k o c:Nat} {zs:List Int} (h:numR m zs=(n,0,zs.drop k)) (hk:k≤zs.length):(aJ (adv o c k) (c - k) n,c - k - n)=dz adv m zs o c:=by
 unfold dz
 rw [← kx h hk,h]
section
variable {adv:Nat→Nat→Nat→Nat} {zs z2 z3 z4 t:List Int} {v k o c o2 c2 o3 c3 o4 c4 o5 c5:Nat}
theorem ry (h1:bX 96 zs=(t,0,z2)) (h2:numR 18446744073709551615 z2=(v,0,z3)) (h3:numR 2 z3=(k,0,z4)) (hk:k≠1) (p2:(o2,c2)=dz adv 96 zs o c) (p3:(o3,c3)=cN adv 18446744073709551615 z2 o2 c2) (p4:(o4,c4)=cN adv 2 z3 o3 c3):(o4,c4)=eH adv zs o c:=by
 unfold eH
 simp only
 rw [← p2,h1]
 simp only
 rw [← p3,h2]
 simp only
 rw [← p4,h3]
 simp only
 rw [if_neg hk]
theorem pI (h1:bX 96 zs=(t,0,z2)) (h2:numR 18446744073709551615 z2=(v,0,z3)) (h3:numR 2 z3=(1,0,z4)) (p2:(o2,c2)=dz adv 96 zs o c) (p3:(o3,c3)=cN adv 18446744073709551615 z2 o2 c2) (p4:(o4,c4)=cN adv 2 z3 o3 c3) (p5:(o5,c5)=dz adv 4096 z4 o4 c4):(o5,c5)=eH adv zs o c:=by
 unfold eH
 simp only
 rw [← p2,h1]
 simp only
 rw [← p3,h2]
 simp only
 rw [← p4,h3]
 simp only
 rw [if_pos trivial,← p5]
theorem vn (h1:bX 96 zs=(t,0,z2)) (h2:numR 18446744073709551615 z2=(v,0,z3)) (h3:numR 2 z3=(1,0,z4)) (p2:(o2,c2)=dz adv 96 zs o c) (p3:(o3,c3)=cN adv 18446744073709551615 z2 o2 c2) (p4:(o4,c4)=cN adv 2 z3 o3 c3) (p5:(o5,c5)=cN adv 4096 z4 o4 c4):(o5,c5)=dO adv zs o c:=by
 unfold dO
 simp only
 rw [← p2,h1]
 simp only
 rw [← p3,h2]
 simp only
 rw [← p4,h3]
 exact p5
end
structure Told (xs:List SV) (o l:Nat) (zs:List Int):Prop where
 bx:di xs o l zs
 ob:o+l≤xs.length
def lC (o l k o':Nat):Prop:=o'=o+k∨(k=l∧o≤o'∧o'≤o+l)
section
variable {xs:List SV} {o l c k:Nat} {zs:List Int}
theorem Told.adv (h:Told xs o l zs) {o':Nat} (hk:k≤l) (ha:lC o l k o'):Told xs o' (l - k) (zs.drop k):=by
 obtain ⟨⟨h1,h2,h3,h4⟩,h5⟩:=h
 refine ⟨⟨by rw [List.length_drop,h1],by omega,fun z hz=>h3 z (List.mem_of_mem_drop hz),fun i z hi=>?_⟩,?_⟩
 ·rcases ha with rfl | ⟨rfl,_,_⟩
  ·rw [List.getElem?_drop] at hi
   have:=h4 _ z hi
   rw [Nat.add_assoc];exact this
  ·rw [List.drop_of_length_le (by omega)] at hi;simp at hi
 ·rcases ha with rfl | ⟨rfl,_,_⟩ <;> omega
theorem Told.take (h:Told xs o l zs) {n:Nat} (hn:n≤l):di xs o n (zs.take n):=by
 obtain ⟨⟨h1,h2,h3,h4⟩,h5⟩:=h
 refine ⟨by rw [List.length_take,h1];omega,by omega,fun z hz=>h3 z (List.mem_of_mem_take hz),fun i z hi=>?_⟩
 rw [List.getElem?_take] at hi
 split at hi
 ·exact h4 i z hi
 ·cases hi
theorem tp (hk:k≤l) (hlc:l≤c):lC o l k (aJ o c k):=by
 unfold lC aJ
 split <;> omega
theorem DC (hk0:0<k) (hk:k≤l) (hlc:l≤c):lC o l k (aT o c k):=by
 unfold lC aT
 split
 ·omega
 ·split <;> omega
theorem lC.trans {k2 o' o'':Nat} (h:lC o l k o') (h2:lC o' (l - k) k2 o'') (hk:k+k2≤l):lC o l (k+k2) o'':=by
 unfold lC at *;omega
def zU (adv:Nat→Nat→Nat→Nat):Prop:=∀ o l c k,0<k→k≤l→l≤c→lC o l k (adv o c k)
theorem pY:zU aT:=fun o l c k h1 h2 h3=>DC h1 h2 h3
theorem qA:zU aJ:=fun o l c k h1 h2 h3=>tp h2 h3
theorem fa {m n:Nat} {zs t:List Int} (h:numR m zs=(n,0,t)) (hz:∀ z∈zs,0≤z∧z<256):∃ k,0<k∧k≤zs.length∧t=zs.drop k∧n≤m:=by
 obtain ⟨z,r,rfl,h8,hE,rfl,hnm⟩:=pD h
 have hz0:=hz z List.mem_cons_self
 refine ⟨z.toNat+1,by omega,?_,rfl,hnm⟩
 rw [List.length_cons];omega
theorem gU {T:TypeId} {adv:Nat→Nat→Nat→Nat} (hg:zU adv) (h:Told xs o l zs) (hlc:l≤c) {m:Int} {mm n:Nat} {t:List Int} (hm:m=mm) (hmm:mm<18446744073709551616) (hn:numR mm zs=(n,0,t)):
  ∃ k,0<k∧k≤l∧t=zs.drop k∧n≤mm∧cq T adv T (0,0) 0 xs m 1 o l c n 1 (adv o c k) (l - k) (c - k)∧lC o l k (adv o c k)∧Told xs (adv o c k) (l - k) t∧l - k≤c - k∧(adv o c k,c - k)=cN adv mm zs o c:=by
 obtain ⟨k,h1,h2,rfl,hnm⟩:=fa hn h.bx.oE
 have hpos:=kx (adv:=adv) (o:=o) (c:=c) hn h2
 rw [h.bx.len] at h2
 have ha:=hg o l c k h1 h2 hlc
 exact ⟨k,h1,h2,rfl,hnm,⟨rfl,rfl,rfl,rfl,hlc,by have:=h.ob;omega,zs,mm,n,k,hm,hmm,rfl,h2,h.bx,hn,rfl,rfl,rfl⟩,ha,h.adv h2 ha,by omega,hpos⟩
theorem nJ {T:TypeId} (h:Told xs o l zs) (hlc:l≤c) {m f:Int} {mm n:Nat} {t:List Int} (hm:m=mm) (hmm:mm<18446744073709551616) (hn:numR mm zs=(n,f,t)) (hf:f≠0):il T T (0,0) 0 xs m o l c f:=
 ⟨rfl,rfl,rfl,hlc,by have:=h.ob;omega,zs,mm,hm,hmm,h.bx,iu hn hf,hf⟩
theorem j4 {m:Nat} {ys z2:List Int} (h:bX m zs=(ys,0,z2)):∃ n t,numR m zs=(n,0,t)∧n≤t.length∧ys=t.take n∧z2=t.drop n∧ys.length=n:=by
 generalize hq:numR m zs=q
 obtain ⟨n,f,t⟩:=q
 by_cases hf:f=0
 ·subst hf
  by_cases hs:t.length<n
  ·rw [gT hq hs] at h;simp at h
  ·rw [mJ hq (by omega)] at h
   simp only [Prod.mk.injEq,true_and] at h
   exact ⟨n,t,rfl,by omega,h.1.symm,h.2.symm,by rw [← h.1,List.length_take];omega⟩
 ·rw [ka hq hf] at h
  simp only [Prod.mk.injEq] at h
  exact absurd h.2.1 hf
theorem iE {m:Nat} {ys z2:List Int} {f:Int} (h:bX m zs=(ys,f,z2)) (hf:f≠0):bX m zs=([],f,[])∧((∃ n t,numR m zs=(n,f,t))∨(f=11∧∃ n t,numR m zs=(n,0,t)∧t.length<n)):=by
 generalize hq:numR m zs=q
 obtain ⟨n,g,t⟩:=q
 by_cases hg:g=0
 ·subst hg
  by_cases hs:t.length<n
  ·rw [gT hq hs] at h
   simp only [Prod.mk.injEq] at h
   obtain ⟨rfl,rfl,rfl⟩:=h
   exact ⟨gT hq hs,.inr ⟨rfl,n,t,rfl,hs⟩⟩
  ·rw [mJ hq (by omega)] at h
   simp only [Prod.mk.injEq] at h
   exact absurd h.2.1.symm hf
 ·rw [ka hq hg] at h
  simp only [Prod.mk.injEq] at h
  obtain ⟨rfl,rfl,rfl⟩:=h
  exact ⟨ka hq hg,.inl ⟨n,t,rfl⟩⟩
theorem lK {n m:Nat} (h:n≤m) (hm:m≤1000000000):IntKind.i64.wrap (n:Int)=n:=IntWalk.i64_in _ (by omega)
theorem vt (h:Told xs o l zs) (hlc:l≤c) {m:Int} {mm:Nat} {ys z2:List Int} (hm:m=mm) (hmm:mm≤1000000000) (ht:bX mm zs=(ys,0,z2)):
  ∃ (n k o1 l1 c1 o2 l2 c2:Nat),cq TG aT TG (0,0) 0 xs m 1 o l c n 1 o1 l1 c1∧(fP TG (0,0) 0 (IntKind.i64.wrap n) 1 o1 l1 c1 1 o1 n c1 1 o2 l2 c2∧o1≤xs.length)∧gE xs o1 n (ys.map (Value.int .u8)).toArray∧Told xs o2 l2 z2∧l2≤c2∧z2=zs.drop k∧k≤l∧0<k∧l2=l - k∧lC o l k o2∧n=ys.length∧(∀ z∈ys,0≤z∧z<256)∧n≤mm∧(o2,c2)=dz aT mm zs o c:=by
 obtain ⟨n,t,hn,hnt,rfl,rfl,hyl⟩:=j4 ht
 obtain ⟨k,hk0,hkl,rfl,hnm,hP,hA,hT,hlc1,_⟩:=gU pY (T:=TG) h hlc hm (by omega) hn
 have hdl:(zs.drop k).length=l - k:=hT.bx.len
 have hpos:=lx (adv:=aT) (o:=o) (c:=c) hn (by rw [h.bx.len];exact hkl)
 have hA2:lC (aT o c k) (l - k) n (aJ (aT o c k) (c - k) n):=tp (by omega) (by omega)
 have hw:=lK hnm hmm
 have ho1:aT o c k≤xs.length:=by have:=hT.ob;omega
 refine ⟨n,k+n,_,_,_,aJ (aT o c k) (c - k) n,l - k - n,c - k - n,hP,⟨⟨rfl,rfl,rfl,rfl,rfl,rfl,rfl,hw,by omega,by omega,rfl,rfl,rfl⟩,ho1⟩,⟨ho1,_,hT.take (by omega),rfl⟩,hT.adv (by omega) hA2,by omega,by rw [List.drop_drop],by omega,by omega,by omega,hA.trans hA2 (by omega),hyl.symm,fun z hz=>hT.bx.oE z (List.mem_of_mem_take hz),hnm,hpos⟩
theorem pb (h:Told xs o l zs) (hlc:l≤c) {m:Int} {mm:Nat} {ys z2:List Int} (hm:m=mm) (hmm:mm≤1000000000) (ht:bX mm zs=(ys,0,z2)):
  ∃ (n k o1 c1 o2 l2 c2:Nat),jc TE (0,0) 0 xs m 1 o l c 1 o1 n c1 1 o2 l2 c2∧di xs o1 n ys∧n≤c1∧o≤o1∧Told xs o2 l2 z2∧l2≤c2∧z2=zs.drop k∧k≤l∧0<k∧l2=l - k∧lC o l k o2∧n=ys.length∧(∀ z∈ys,0≤z∧z<256)∧n≤mm∧o1+n≤xs.length∧(o2,c2)=dz aJ mm zs o c∧(o1,c1)=cN aJ mm zs o c:=by
 obtain ⟨n,t,hn,hnt,rfl,rfl,hyl⟩:=j4 ht
 obtain ⟨k,hk0,hkl,rfl,hnm,_,hA,hT,hlc1,_⟩:=gU qA (T:=TE) h hlc hm (by omega) hn
 have hdl:(zs.drop k).length=l - k:=hT.bx.len
 have hpos:=lx (adv:=aJ) (o:=o) (c:=c) hn (by rw [h.bx.len];exact hkl)
 have hA2:lC (aJ o c k) (l - k) n (aJ (aJ o c k) (c - k) n):=tp (by omega) (by omega)
 refine ⟨n,k+n,aJ o c k,c - k,aJ (aJ o c k) (c - k) n,l - k - n,c - k - n,⟨rfl,rfl,rfl,rfl,rfl,hlc,by have:=h.ob;omega,zs,mm,k,hm,hmm,by omega,h.bx,hn,rfl,rfl,rfl,rfl,rfl⟩,hT.take (by omega),by omega,?_,hT.adv (by omega) hA2,by omega,by rw [List.drop_drop],by omega,by omega,by omega,hA.trans hA2 (by omega),hyl.symm,fun z hz=>hT.bx.oE z (List.mem_of_mem_take hz),hnm,by have:=hT.ob;omega,hpos,kx hn (by rw [h.bx.len];exact hkl)⟩
 unfold lC at hA;omega
theorem wQ (h:Told xs o l zs) (hlc:l≤c) {m f:Int} {mm:Nat} {ys z2:List Int} (hm:m=mm) (hmm:mm≤1000000000) (ht:bX mm zs=(ys,f,z2)) (hf:f≠0):pO TE (0,0) 0 xs m o l c f:=
 ⟨rfl,rfl,rfl,hlc,by have:=h.ob;omega,zs,mm,hm,hmm,h.bx,(iE ht hf).1,hf⟩
theorem E2 {xs:List SV} {o n:Nat} {ys:List Int} (h:di xs o n ys):List.take n (List.drop o xs)=(bt ys).data.toList.map (fun c=>SV.v (Value.int IntKind.u8 (c.toNat:Int)))∧(bt ys).size=n:=by
 obtain ⟨h1,h2,h3,h4⟩:=h
 refine ⟨?_,by rw [gh,h1]⟩
 rw [dX h3]
 apply List.ext_getElem?
 intro i
 rw [List.getElem?_take,List.getElem?_map]
 by_cases hi:i<n
 ·rw [if_pos hi,List.getElem?_drop]
  have hlt:i<ys.length:=by omega
  rw [h4 i _ (List.getElem?_eq_getElem hlt),List.getElem?_eq_getElem hlt];rfl
 ·rw [if_neg hi,List.getElem?_eq_none (by omega)];rfl
theorem BQ {n:Nat} {ys:List Int} (hn:n=ys.length) (hz:∀ z∈ys,0≤z∧z<256):List.take n (List.drop 0 (List.map SV.v (ys.map (Value.int .u8)).toArray.toList))=(bt ys).data.toList.map (fun c=>SV.v (Value.int IntKind.u8 (c.toNat:Int)))∧(bt ys).size=n:=by
 refine ⟨?_,by rw [gh,hn]⟩
 rw [dX hz,List.drop_zero,hn,List.take_of_length_le (by simp),List.map_map];rfl
theorem zG {ys:List Int} {n m:Nat} (hn:n=ys.length) (h:n≤m) (hm:m≤1000000000):(bt ys).size≤1000000000:=by rw [gh];omega
end
end ez
end paths
end Go.Proofs.YtcbokmadfcedaaaGreatDoor
set_option linter.unusedSimpArgs false
set_option linter.unusedVariables false
set_option maxRecDepth 100000
namespace Go.Proofs.YtcbokmadfcedaaaGreatDoor
open Go Go.Rx Go.RowKit Go.Proofs
namespace paths
namespace ez
open eye (lkB numR numR_cons u64_in)
open crc (bC bC_len bC_closed b_at cells_obj bC_flat)
theorem FU {M:Own} {w0:World}:aE DF M w0:=
 aE.AR (Checked.mixed Tryz.checked) (by kernel_rfl) (eR.of ji rfl dL) (cV.oI (X:=fun _=>True) (l:=Ki) rfl (fun r h=>by
  simp only [Ki,List.mem_cons,List.not_mem_nil,or_false] at h
  rcases h with rfl | rfl | rfl
  ·exact mW.sum
  ·exact DH
  ·exact (j6 uY).t) fun ν s w hr _=>trivial) (fun f g h=>by cases h)
theorem ah {a L:List Prop} (h:a=L) (ho:af L):cp a:=⟨h ▸ ho⟩
theorem pE:∀ zs:List Int,(zs.flatMap bC).length=zs.length
 | []=>rfl
 | z::t=>by rw [List.flatMap_cons,List.length_append,bC_len,pE t,List.length_cons];omega
theorem oP {f:Int} (h:f≠0):(!f==(0:Int))=true:=by simpa using h
theorem gP {f:Int} (h:f≠0):(f==(0:Int))=false:=by simpa using h
theorem tL {k:Nat} (h:k≤2):IntKind.i64.wrap (k:Int)=(k:Int):=IntWalk.i64_in _ (by omega)
theorem BI {k:Nat} (h:k=1):(IntKind.i64.wrap (k:Int)==(1:Int))=true:=by subst h;decide
theorem C7 {k:Nat} (h2:k≤2) (h:k≠1):(IntKind.i64.wrap (k:Int)==(1:Int))=false:=by rw [tL h2];simp;omega
abbrev PE:Value:=.agg #[.string ⟨#[]⟩,.int .u64 0,.int .i64 0,.slice none 0 0]
def J0 (W : World) (b blk o l c : Nat) (zs : List Int) (e : Ending) (w' : World) : Prop := Alt (· = b) W w' ∧
  ((∃ p v k d y k2 o' c', dT zs = (some (p, v, k, d), 0, zs.drop k2) ∧ 0 < k2 ∧ k2 ≤ l ∧ e = .returned (.agg #[.string p, .int .u64 v, .int .i64 k, y]) ∧ w'.heap[b]? = some (eO TE (some ⟨blk, o', none⟩) (l - k2) c' 0) ∧ l - k2 ≤ c' ∧ lC o l k2 o' ∧ (o', c') = eH aJ zs o c ∧
      ((k ≠ 1 ∧ y = .slice none 0 0 ∧ d = []) ∨ (k = 1 ∧ ∃ o2 c2, (o2, c2) = dO aJ zs o c ∧ y = .slice (some ⟨blk, o2, none⟩) d.length c2 ∧ d.length ≤ c2 ∧ BytesIn W blk o2 d))) ∨
   ∃ f', f' ≠ 0 ∧ dT zs = (none, f', []) ∧ e = .returned PE ∧ w'.heap[b]? = some (eO TE none 0 0 f'))
section
variable {W:World} {b blk:Nat} {xs:List SV} {cs0:List Frame} {H:Hp}
theorem Au {o l c:Nat} {zs:List Int} (he:W.heap[b]?=some (eO TE (some ⟨blk,o,none⟩) l c 0)) (hb:BytesIn W blk o zs) (hl:zs.length=l) (hlc:l≤c) (dF:l≤140737488355328) (hne:blk≠b) (hz:∀ z∈zs,0≤z∧z<256):
  Calls Tryz.prog 94 #[.pointer (some ⟨b,0,none⟩)] W (J0 W b blk o l c zs):=by
 have hcl:(ak bC o zs).all ae=true:=bO bC_closed
 refine cZ (E:=DF) rfl (d:=6) (l:=[(b,0),(blk,0)]) (os:=[(.row [.sl 1 o l (some c),.v (.int .i64 0)] TE (0,0) none,true),(.look (ak bC o zs),false)]) (H:=fun _=>none) (T:=fun _=>False) rfl (by simp) (by simpa using fun e=>hne e.symm) (qK he hb hlc) (fun g i hg=>by cases hg) (fun _ _ hh=>by cases hh) (fun _ _ _ _ _ hh=>by cases hh)
  (args:=[.ptr 0 0]) (a:=[.pointer (some ⟨b,0,none⟩)]) (S0:=mE o l c (ak bC o zs)) (by kernel_rfl) (aj.cons (VR.aw.2 ⟨(b,0),rfl,rfl⟩) aj.nil) fun cs0 hk=>?_
 have hB:Told (ak bC o zs) o l zs:=⟨lA hl dF hz,by unfold ak;rw [List.length_append,List.length_replicate,pE,hl];omega⟩
 have hlook:∀ {o2 n:Nat} {d:List Int},di (ak bC o zs) o2 n d→o2+n≤(ak bC o zs).length→BytesIn W blk o2 d:=by
  intro o2 n d hX ho2
  obtain ⟨r,hr,hor⟩:=qK he hb hlc 1 _ false blk 0 rfl rfl
  exact hX.holds (b:=(blk,0)) hr hor (fun _=>trivial) fun _ cc e fz hq=>by subst hq;have:=gz hor;omega
 generalize hxs:ak bC o zs=xs at hcl hB hk hlook ⊢
 have bad:∀ {f':Int},f'≠0→dT zs=(none,f',[])→∀ w' (ν:aA) y ob,ν 0=some (b,0)→ν 1=some (blk,0)→VR ν (.v PE) y→Alt (·=b) W w'→w'.heap[b]?=some ob→OR ν 0 (.row [.v (.slice none 0 0),.v (.int .i64 f')] TE (0,0) none) ob→J0 W b blk o l c zs (.returned y) w':=by
  intro f' hf hn w' ν y ob _ _ hv hA hob hor
  obtain rfl:=VR.ab.1 hv
  exact ⟨hA,.inr ⟨f',hf,hn,rfl,by rw [hob,told_plain hor]⟩⟩
 generalize h1:bX 96 zs=q1
 obtain ⟨t,f1,z2⟩:=q1
 by_cases hf1:f1=0
 case neg=>
  have a1:pO TE (0,0) 0 xs (96:Int) o l c f1:=wQ hB hlc (mm:=96) rfl (by decide) h1 hf1
  refine cj FU rfl bz hk (ah (rA (o:=o) (l:=l) (c:=c) (xs:=xs) (f':=f1) (n1:=0) (o1:=0) (l1:=0) (c1:=0) (n2:=0) (o2:=0) (l2:=0) (c2:=0) (n3:=0) (o3:=0) (l3:=0) (c3:=0) (n4:=0) (o4:=0) (l4:=0) (c4:=0) (o5:=0) (l5:=0) (c5:=0) (o6:=0) (l6:=0) (c6:=0) (p:=⟨#[]⟩) (a1:=#[]) (a2:=#[])) ?_) (bad hf1 (pQ h1 hf1))
  have e1:=oP hf1
  have e2:=gP hf1
  have a2:jg TE TE (0,0) f1 (IntKind.u64.wrap (2:Int)):=⟨rfl,rfl,hf1,by decide⟩
  have a3:jg TE TE (0,0) f1 (18446744073709551615:Int):=⟨rfl,rfl,hf1,by decide⟩
  simp only [af]
  repeat' apply And.intro
  all_goals first | exact True.intro | with_reducible assumption | with_reducible rfl | rfl
 subst hf1
 obtain ⟨n1,k1,o1,c1,o2,l2,c2,P1,X1,hnc1,hoo1,T2,hlc2,rfl,hk1l,hk10,rfl,A2,hn1,hz1,hn1m,hx1,p2,_⟩:=pb hB hlc (m:=96) (mm:=96) rfl (by decide) h1
 obtain ⟨L1,L2⟩:=E2 X1
 have hps:(bt t).size≤1000000000:=zG hn1 hn1m (by decide)
 generalize h2:numR 18446744073709551615 (zs.drop k1)=q2
 obtain ⟨v,f2,z3⟩:=q2
 by_cases hf2:f2=0
 case neg=>
  have a1:il TE TE (0,0) 0 xs (18446744073709551615:Int) o2 (l - k1) c2 f2:=nJ T2 hlc2 (mm:=18446744073709551615) rfl (by decide) h2 hf2
  refine cj FU rfl bz hk (ah (On (o:=o) (l:=l) (c:=c) (xs:=xs) (f':=f2) (n1:=n1) (o1:=o1) (l1:=0) (c1:=c1) (n2:=0) (o2:=o2) (l2:=l - k1) (c2:=c2) (n3:=0) (o3:=0) (l3:=0) (c3:=0) (n4:=0) (o4:=0) (l4:=0) (c4:=0) (o5:=0) (l5:=0) (c5:=0) (o6:=0) (l6:=0) (c6:=0) (p:=bt t) (a1:=#[]) (a2:=#[])) ?_) (bad hf2 (qT h1 h2 hf2))
  have e1:=oP hf2
  have e2:=gP hf2
  have a2:jg TE TE (0,0) f2 (IntKind.u64.wrap (2:Int)):=⟨rfl,rfl,hf2,by decide⟩
  simp only [af]
  repeat' apply And.intro
  all_goals first | exact True.intro | with_reducible assumption | with_reducible rfl | rfl
 subst hf2
 obtain ⟨k3,hk30,hk3l,rfl,hvm,P2,A3,T3,hlc3,p3⟩:=gU qA (T:=TE) T2 hlc2 (m:=18446744073709551615) (mm:=18446744073709551615) rfl (by decide) h2
 generalize h3:numR 2 ((zs.drop k1).drop k3)=q3
 obtain ⟨k,f3,z4⟩:=q3
 have hv0:(0:Int)≤(v:Int):=by omega
 have hv1:(v:Int)<18446744073709551616:=by omega
 by_cases hf3:f3=0
 case neg=>
  have a1:il TE TE (0,0) 0 xs (IntKind.u64.wrap (2:Int)) (aJ o2 c2 k3) (l - k1 - k3) (c2 - k3) f3:=nJ T3 hlc3 (mm:=2) (by decide) (by decide) h3 hf3
  refine cj FU rfl bz hk (ah (Mq (o:=o) (l:=l) (c:=c) (xs:=xs) (f':=f3) (n1:=n1) (o1:=o1) (l1:=0) (c1:=c1) (n2:=v) (o2:=o2) (l2:=l - k1) (c2:=c2) (n3:=0) (o3:=aJ o2 c2 k3) (l3:=l - k1 - k3) (c3:=c2 - k3) (n4:=0) (o4:=0) (l4:=0) (c4:=0) (o5:=0) (l5:=0) (c5:=0) (o6:=0) (l6:=0) (c6:=0) (p:=bt t) (a1:=#[]) (a2:=#[])) ?_) (bad hf3 (j2 h1 h2 h3 hf3))
  have e1:=oP hf3
  have e2:=gP hf3
  simp only [af]
  repeat' apply And.intro
  all_goals first | exact True.intro | with_reducible assumption | with_reducible rfl | rfl
 subst hf3
 obtain ⟨k4,hk40,hk4l,rfl,hkm,P3,A4,T4,hlc4,p4⟩:=gU qA (T:=TE) T3 hlc3 (m:=IntKind.u64.wrap (2:Int)) (mm:=2) (by decide) (by decide) h3
 have hw:=tL hkm
 have AA:lC o l (k1+(k3+k4)) (aJ (aJ o2 c2 k3) (c2 - k3) k4):=A2.trans (A3.trans A4 (by omega)) (by omega)
 have hd4:((zs.drop k1).drop k3).drop k4=zs.drop (k1+(k3+k4)):=by rw [List.drop_drop,List.drop_drop]
 have hl4:l - k1 - k3 - k4=l - (k1+(k3+k4)):=by omega
 by_cases hk1':k=1
 case neg=>
  have hkf:=C7 hkm hk1'
  have hR:=qo h1 h2 h3 hk1'
  by_cases hc:bw (bt t) v k 0=0
  ·have e0:(!bw (bt t) (v:Int) (IntKind.i64.wrap (k:Int)) 0==(0:Int))=false:=by rw [hw,hc];rfl
   refine cj FU rfl bz hk (ah (Nx (o:=o) (l:=l) (c:=c) (xs:=xs) (n1:=n1) (o1:=o1) (l1:=0) (c1:=c1) (n2:=v) (o2:=o2) (l2:=l - k1) (c2:=c2) (n3:=k) (o3:=aJ o2 c2 k3) (l3:=l - k1 - k3) (c3:=c2 - k3) (n4:=0) (o4:=aJ (aJ o2 c2 k3) (c2 - k3) k4) (l4:=l - k1 - k3 - k4) (c4:=c2 - k3 - k4) (o5:=0) (l5:=0) (c5:=0) (o6:=0) (l6:=0) (c6:=0) (f':=0) (p:=bt t) (a1:=#[]) (a2:=#[])) ?_) fun w' ν y ob hν0 hν1 hv hA hob hor=>?_
   ·simp only [af]
    repeat' apply And.intro
    all_goals first | exact True.intro | with_reducible assumption | with_reducible rfl | rfl
   ·obtain rfl:=VR.ab.1 hv
    refine ⟨hA,.inl ⟨bt t,v,k,[],.slice none 0 0,k1+(k3+k4),_,c2 - k3 - k4,?_,by omega,by omega,by rw [hw],by rw [hob,en hν1 hor,hl4],by omega,AA,ry h1 h2 h3 hk1' p2 p3 p4,.inl ⟨hk1',rfl,rfl⟩⟩⟩
    rw [hR,jh,if_pos (by exact hc),hd4]
  ·have e0:(!bw (bt t) (v:Int) (IntKind.i64.wrap (k:Int)) 0==(0:Int))=true:=by rw [hw];simpa using hc
   refine cj FU rfl bz hk (ah (Mm (o:=o) (l:=l) (c:=c) (xs:=xs) (n1:=n1) (o1:=o1) (l1:=0) (c1:=c1) (n2:=v) (o2:=o2) (l2:=l - k1) (c2:=c2) (n3:=k) (o3:=aJ o2 c2 k3) (l3:=l - k1 - k3) (c3:=c2 - k3) (n4:=0) (o4:=aJ (aJ o2 c2 k3) (c2 - k3) k4) (l4:=l - k1 - k3 - k4) (c4:=c2 - k3 - k4) (o5:=0) (l5:=0) (c5:=0) (o6:=0) (l6:=0) (c6:=0) (f':=0) (p:=bt t) (a1:=#[]) (a2:=#[])) ?_) (bad (f':=2) (by decide) (by rw [hR,jh,if_neg (by exact hc)]))
   simp only [af]
   repeat' apply And.intro
   all_goals first | exact True.intro | with_reducible assumption | with_reducible rfl | rfl
 subst hk1'
 have hkt:=BI (k:=1) rfl
 generalize h4:bX 4096 (((zs.drop k1).drop k3).drop k4)=q4
 obtain ⟨d,f4,z5⟩:=q4
 by_cases hf4:f4=0
 case neg=>
  have a1:pO TE (0,0) 0 xs (4096:Int) (aJ (aJ o2 c2 k3) (c2 - k3) k4) (l - k1 - k3 - k4) (c2 - k3 - k4) f4:=wQ T4 hlc4 (mm:=4096) rfl (by decide) h4 hf4
  refine cj FU rfl bz hk (ah (Pj (o:=o) (l:=l) (c:=c) (xs:=xs) (f':=f4) (n1:=n1) (o1:=o1) (l1:=0) (c1:=c1) (n2:=v) (o2:=o2) (l2:=l - k1) (c2:=c2) (n3:=1) (o3:=aJ o2 c2 k3) (l3:=l - k1 - k3) (c3:=c2 - k3) (n4:=0) (o4:=aJ (aJ o2 c2 k3) (c2 - k3) k4) (l4:=l - k1 - k3 - k4) (c4:=c2 - k3 - k4) (o5:=0) (l5:=0) (c5:=0) (o6:=0) (l6:=0) (c6:=0) (p:=bt t) (a1:=#[]) (a2:=#[])) ?_) (bad hf4 (lD h1 h2 h3 h4 hf4))
  have e1:=oP hf4
  have e2:=gP hf4
  simp only [af]
  repeat' apply And.intro
  all_goals first | exact True.intro | with_reducible assumption | with_reducible rfl | rfl
 subst hf4
 obtain ⟨n5,k5,o5,c5,o6,l6,c6,P5,X5,hnc5,hoo5,T6,hlc6,hz5,hk5l,hk50,rfl,A6,hn5,hzd,hn5m,hx5,p5,p6⟩:=pb T4 hlc4 (m:=4096) (mm:=4096) rfl (by decide) h4
 have AB:lC o l (k1+(k3+k4)+k5) o6:=AA.trans (by rw [← hl4];exact A6) (by omega)
 have hd6:z5=zs.drop (k1+(k3+k4)+k5):=by rw [hz5,hd4,List.drop_drop]
 have hl6:l - k1 - k3 - k4 - k5=l - (k1+(k3+k4)+k5):=by omega
 have hR:=qh h1 h2 h3 h4
 by_cases hc:bw (bt t) v 1 d.length=0
 ·have e0:(!bw (bt t) (v:Int) (IntKind.i64.wrap ((1:Nat):Int)) n5==(0:Int))=false:=by rw [hw,hn5];rw [show ((1:Nat):Int)=1 from rfl,hc];rfl
  refine cj FU rfl bz hk (ah (Pa (o:=o) (l:=l) (c:=c) (xs:=xs) (n1:=n1) (o1:=o1) (l1:=0) (c1:=c1) (n2:=v) (o2:=o2) (l2:=l - k1) (c2:=c2) (n3:=1) (o3:=aJ o2 c2 k3) (l3:=l - k1 - k3) (c3:=c2 - k3) (n4:=n5) (o4:=aJ (aJ o2 c2 k3) (c2 - k3) k4) (l4:=l - k1 - k3 - k4) (c4:=c2 - k3 - k4) (o5:=o5) (l5:=0) (c5:=c5) (o6:=o6) (l6:=l - k1 - k3 - k4 - k5) (c6:=c6) (f':=0) (p:=bt t) (a1:=#[]) (a2:=#[])) ?_) fun w' ν y ob hν0 hν1 hv hA hob hor=>?_
  ·simp only [af]
   repeat' apply And.intro
   all_goals first | exact True.intro | with_reducible assumption | with_reducible rfl | rfl
  ·obtain ⟨g,rfl,hg⟩:=VR.aW.1 hv
   obtain ⟨g1,g,rfl,u1,hg⟩:=hg.cons_inv
   obtain ⟨g2,g,rfl,u2,hg⟩:=hg.cons_inv
   obtain ⟨g3,g,rfl,u3,hg⟩:=hg.cons_inv
   obtain ⟨g4,g,rfl,u4,hg⟩:=hg.cons_inv
   obtain rfl:=hg.aq
   obtain rfl:=VR.ab.1 u1
   obtain rfl:=VR.ab.1 u2
   obtain rfl:=VR.ab.1 u3
   obtain ⟨bb,hbb,_,rfl⟩:=VR.ay.1 u4
   rw [hν1] at hbb;cases hbb
   refine ⟨hA,.inl ⟨bt t,v,1,d,_,k1+(k3+k4)+k5,o6,c6,?_,by omega,by omega,rfl,by rw [hob,en hν1 hor,hl6],by omega,AB,pI h1 h2 h3 p2 p3 p4 p5,.inr ⟨rfl,o5,c5,vn h1 h2 h3 p2 p3 p4 p6,by rw [← hn5];rfl,by omega,hlook X5 hx5⟩⟩⟩
   rw [hR,jh,if_pos (by exact hc),hd6]
 ·have e0:(!bw (bt t) (v:Int) (IntKind.i64.wrap ((1:Nat):Int)) n5==(0:Int))=true:=by rw [hw,hn5];simpa using hc
  refine cj FU rfl bz hk (ah (Nv (o:=o) (l:=l) (c:=c) (xs:=xs) (n1:=n1) (o1:=o1) (l1:=0) (c1:=c1) (n2:=v) (o2:=o2) (l2:=l - k1) (c2:=c2) (n3:=1) (o3:=aJ o2 c2 k3) (l3:=l - k1 - k3) (c3:=c2 - k3) (n4:=n5) (o4:=aJ (aJ o2 c2 k3) (c2 - k3) k4) (l4:=l - k1 - k3 - k4) (c4:=c2 - k3 - k4) (o5:=o5) (l5:=0) (c5:=c5) (o6:=o6) (l6:=l - k1 - k3 - k4 - k5) (c6:=c6) (f':=0) (p:=bt t) (a1:=#[]) (a2:=#[])) ?_) (bad (f':=2) (by decide) (by rw [hR,jh,if_neg (by exact hc)]))
  simp only [af]
  repeat' apply And.intro
  all_goals first | exact True.intro | with_reducible assumption | with_reducible rfl | rfl
end
end ez
end paths
end Go.Proofs.YtcbokmadfcedaaaGreatDoor
