/- What the law VaultLoads leans on, part 6: the symbolic executor, proved sound, contracts of functions, plain lemmas. By an AI agent. -/
import Derived.Test.YtcbokmadfcedaaaGreatDoorPk5
import Derived.Shelf.Spec.SlicesGrow
import Derived.Ground.Names8Prog
set_option linter.unusedSimpArgs false
set_option linter.unusedVariables false
set_option maxRecDepth 100000
namespace Go.Proofs.YtcbokmadfcedaaaGreatDoor
open Go Go.Rx Go.RowKit Go.Proofs
namespace paths
namespace ez
def Bx (p:wL) (nb:Nat) (l:Value):Value:=.agg #[l,.int .i64 p.last,.int .i64 p.room,.int .i64 (-1),.slice (some ⟨nb,0,none⟩) 1 p.cn,p.vr,.int .i64 (-1),p.vs,.int .u64 p.ck]
theorem BT {ν:aA} {p:wL} {nb:Nat} {l:Value} {sl:SV} (h0:ν 0=some (nb,0)) (hl:VR ν sl l) (hc:1≤p.cn):VR ν (Dq p sl) (Bx p nb l):=
 VR.aW.2 ⟨[l,.int .i64 p.last,.int .i64 p.room,.int .i64 (-1),.slice (some ⟨nb,0,none⟩) 1 p.cn,p.vr,.int .i64 (-1),p.vs,.int .u64 p.ck],rfl,aj.cons hl (aj.cons (VR.ab.2 rfl) (aj.cons (VR.ab.2 rfl) (aj.cons (VR.ab.2 rfl) (aj.cons (VR.ay.2 ⟨(nb,0),h0,hc,rfl⟩) (aj.lits ν [p.vr,.int .i64 (-1),p.vs,.int .u64 p.ck])))))⟩
theorem tH {w:World} {b:Nat} {ys:List Value} (h:Looks w b ys) {ν:aA} {j:Nat}:∃ r,w.heap[b]?=some r∧OR ν j (.look (ys.map SV.v)) r:=by
 obtain ⟨c,T,fz,hh,hc⟩:=h
 exact ⟨_,hh,ys,c,T,fz,rfl,aj.lits ν ys,hc⟩
theorem Dr {w:World} {a b:Nat} {x y:Value} {xs ys:List Value} (h:Looks w a (x::xs)) (k:Looks w b (y::ys)) (hn:x≠y):a≠b:=by
 obtain ⟨c,T,fz,hh,h1⟩:=h
 obtain ⟨c',T',fz',hh',h2⟩:=k
 intro q;subst q;rw [hh] at hh';cases hh'
 have:=h1 0 x rfl
 rw [h2 0 y rfl] at this
 exact hn (Option.some.inj this).symm
theorem C2 {S:Src} {W0 W w1 w2:World} {s:Nat} {r:Int × List c7} {e:Ending} (h:Bk S W s r e w1) (hB:Below W0.heap.size W0 w2) (hs:W0.heap.size≤W.heap.size) (hk:∀ k o,W.heap.size≤k→w1.heap[k]?=some o→w2.heap[k]?=some o):Bk S W0 s r e w2:=by
 obtain ⟨_,h | h | ⟨h0,b,c,xs,rest,fz,hb,he,hh,h1,h2,h3⟩⟩:=h
 ·exact ⟨hB,.inl h⟩
 ·exact ⟨hB,.inr (.inl h)⟩
 ·exact ⟨hB,.inr (.inr ⟨h0,b,c,xs,rest,fz,Nat.le_trans hs hb,he,hk _ _ hb hh,h1,h2,h3⟩)⟩
section
variable {W:World} {nb fb:Nat} {p:wL}
theorem Bc (hX:eh W) (hn:Looks W nb [.string bP,.bool true,.int .i64 0]) (hc:1≤p.cn):Calls Tryz.prog 13 #[Bx p nb (.slice none 0 0)] W fun e w'=>Below W.heap.size W w'∧e=.returned (.tuple #[.agg #[.int .u64 0,.slice none 0 0],.int .i64 22]):=by
 have ho:∀ (j:Nat) (o':SO) (b' c':Nat),[Gk true 0][j]?=some o'→[(nb,0)][j]?=some (b',c')→∃ r,W.heap[b']?=some r∧OR (ax [(nb,0)]) j o' r:=by
  intro j o' b' c' q1 q2
  match j with
  | 0=>cases q1;cases q2;exact tH hn
  | j+1=>simp at q1
 have hM:∀ z,¬ (az [(nb,0)] ([Gk true 0].map fun o=>(o,false))) z:=fun z=>aO
 refine aY (E:=bq) rfl (d:=6) (l:=[(nb,0)]) (os:=[Gk true 0]) rfl (by simp) (by simp) ho rfl (args:=[Dq p (.v (.slice none 0 0))]) (a:=[Bx p nb (.slice none 0 0)]) (S0:=Dl p) (by kernel_rfl) (aj.cons (BT rfl (VR.ab.2 rfl) hc) aj.nil) fun cs0=>?_
 refine tT (zj hM hX) (ah (NP p) ?_) fun ν' M2 w2 s' w' _ hB2 hr=>⟨aG hM hB2 hr,rfl⟩
 simp only [af]
 repeat' apply And.intro
 all_goals first | exact True.intro | exact Nat.le_of_ble_eq_true rfl
theorem yc (hm:MX W) (hX:eh W) (hn:Looks W nb [.string bP,.bool false,.int .i64 1]) {b o n c:Nat} {zs:List Int} (hfl:Looks W fb [.int .i64 1,.slice (some ⟨b,o,none⟩) n c,.int .i64 p.sure]) (hc:1≤p.cn) (hcf:1≤p.cf)
  (hIn:BytesIn W b o zs) (hb:∃ cs fz,W.heap[b]?=some (.cells cs 5 fz)) (hl:zs.length=n) (hf:n≤1000000) (hnc:n≤c) (hz:∀ z∈zs,0≤z∧z<256):
  Calls Tryz.prog 13 #[Bx p nb (.slice (some ⟨fb,0,none⟩) 1 p.cf)] W fun e w'=>∃ S:Src,S=⟨(bA zs).2,b,o⟩∧Bk S W (dY zs).2.1 ((dY zs).1,(dY zs).2.2) e w':=by
 have ho:∀ (j:Nat) (o':SO) (b' c':Nat),[Gk false 1,Jg (some ⟨b,o,none⟩) n c p.sure][j]?=some o'→[(nb,0),(fb,0)][j]?=some (b',c')→∃ r,W.heap[b']?=some r∧OR (ax [(nb,0),(fb,0)]) j o' r:=by
  intro j o' b' c' q1 q2
  match j with
  | 0=>cases q1;cases q2;exact tH hn
  | 1=>cases q1;cases q2;exact tH hfl
  | j+2=>simp at q1
 have hne:=Dr hn hfl (fun h=>nomatch h)
 have hM:∀ z,¬ (az [(nb,0),(fb,0)] ([Gk false 1,Jg (some ⟨b,o,none⟩) n c p.sure].map fun o=>(o,false))) z:=fun z=>aO
 refine aY (E:=bq) rfl (d:=6) (l:=[(nb,0),(fb,0)]) (os:=[Gk false 1,Jg (some ⟨b,o,none⟩) n c p.sure]) rfl (by simp) (by simp [hne]) ho rfl (args:=[Dq p (.sl 1 0 1 (some p.cf))]) (a:=[Bx p nb (.slice (some ⟨fb,0,none⟩) 1 p.cf)]) (S0:=wo p (some ⟨b,o,none⟩) n c) (by kernel_rfl) (aj.cons (BT rfl (VR.ay.2 ⟨(fb,0),rfl,hcf,rfl⟩) hc) aj.nil) fun cs0=>?_
 have K:=zj hM hX
 refine oA K (fV ho) (n:=2000) (g:=52) (o:=bS) (ah (JV p (some ⟨b,o,none⟩) n c) ?_) (Ly p (some ⟨b,o,none⟩) n c) fun ν' w aa hle hsub hgr ha=>?_
 ·simp only [af]
  repeat' apply And.intro
  all_goals first | exact True.intro | exact Nat.le_of_ble_eq_true rfl | rfl
 obtain ⟨y1,as1,rfl,q1,ha⟩:=ha.cons_inv
 obtain rfl:=ha.aq
 obtain rfl:=VR.ab.1 q1
 obtain ⟨eX,oQ⟩:=sS hz
 refine (vj (hX.cr (a8 (Hp.Sub.refl _) hsub)) (fS hIn hsub) hl hf hnc hz).mono fun e w' ⟨hB,hR⟩=>?_
 rcases hR with ⟨h1,rfl⟩ | ⟨h1,rfl⟩
 ·have hlr:dY zs=((bA zs).1,0,[]):=by unfold dY;rw [if_neg h1]
  rw [hlr]
  have hne2:(!(bA zs).1==(0:Int))=true:=by simpa using h1
  refine ⟨hB,_,rfl,fun M2 hK2=>⟨ah (Jq p (some ⟨b,o,none⟩) n c none 0 0 (bA zs).1) ?_,?_⟩⟩
  ·simp only [af]
   repeat' apply And.intro
   all_goals first | exact True.intro | exact Nat.le_of_ble_eq_true rfl | rfl
  ·show ao bq M2 w' cs0 _ _ _ (xp p (some ⟨b,o,none⟩) n c (.tuple #[.slice none 0 0,.int .i64 (bA zs).1]))
   exact tT (K.cy hK2.base) (ah (J8 p (some ⟨b,o,none⟩) n c none 0 0 (bA zs).1) (by simp only [af,hne2,and_self])) fun ν' M5 w5 s' w'' _ hB5 hr5=>⟨_,rfl,aG hM (hK2.base.trans hB5) hr5,.inl ⟨h1,rfl⟩⟩
 ·have hlr:dY zs=dq (bA zs).2:=by unfold dY;rw [if_pos h1]
  rw [hlr]
  refine ⟨hB,_,rfl,fun M2 hK2=>⟨ah (Jq p (some ⟨b,o,none⟩) n c (some ⟨b,o,none⟩) (bA zs).2.length c 0) ?_,?_⟩⟩
  ·simp only [af]
   repeat' apply And.intro
   all_goals first | exact True.intro | exact Nat.le_of_ble_eq_true rfl | rfl
  show ao bq M2 w' cs0 _ _ _ (xp p (some ⟨b,o,none⟩) n c (.tuple #[.slice (some ⟨b,o,none⟩) (bA zs).2.length c,.int .i64 0]))
  refine oA (K.cy hK2.base) hK2 (n:=200) (g:=53) (o:=bS) (ah (J6 p (some ⟨b,o,none⟩) n c (some ⟨b,o,none⟩) (bA zs).2.length c) (by simp [af])) (KP p (some ⟨b,o,none⟩) n c (some ⟨b,o,none⟩) (bA zs).2.length c) fun ν2 w2 aa2 hle2 hsub2 hgr2 ha2=>?_
  obtain ⟨y1,as1,rfl,q1,ha2⟩:=ha2.cons_inv
  obtain rfl:=ha2.aq
  obtain rfl:=VR.ab.1 q1
  have s2:W.hp.Sub w2.hp:=(Hp.cT hsub).trans hsub2
  obtain ⟨cs,fz,hb⟩:=hb
  have hpre:BytesIn w2 b o (bA zs).2:=by
   have h0:=fS hIn s2
   unfold bA at h1 ⊢
   split
   ·rename_i h;rw [if_pos h] at h1;cases h1
   ·split
    ·exact iU h0
    ·rename_i h h';rw [if_neg h,if_neg h'] at h1;cases h1
  refine (rN (S:=⟨(bA zs).2,b,o⟩) (c:=c) ⟨hm.cr (a8 (Hp.Sub.refl _) s2),hpre,cs,fz,s2 _ _ hb⟩ ⟨eX,by show (bA zs).2.length≤_;omega⟩ (by show (bA zs).2.length≤c;omega)).mono fun e w3 hR=>?_
  have hR0:=hR
  obtain ⟨hB3,h3⟩:=hR
  obtain ⟨s3,a3,n3,c3,f3,rfl⟩:∃ (s:Int) (a:Option Addr) (n c:Nat) (f:Int),e=.returned (.tuple #[.agg #[.int .u64 s,.slice a n c],.int .i64 f]):=by
   rcases h3 with ⟨_,rfl⟩ | ⟨_,_,rfl⟩ | ⟨_,b,c,xs,rest,fz,_,rfl,_⟩
   ·exact ⟨_,_,_,_,_,rfl⟩
   ·exact ⟨_,_,_,_,_,rfl⟩
   ·exact ⟨_,_,_,_,_,rfl⟩
  refine ⟨hB3,_,rfl,fun M4 hK4=>⟨ah (LF p (some ⟨b,o,none⟩) n c (some ⟨b,o,none⟩) (bA zs).2.length c s3 a3 n3 c3 f3) (by simp [af]),?_⟩⟩
  show ao bq M4 w3 cs0 _ _ _ (I5 p (some ⟨b,o,none⟩) n c (.tuple #[.slice (some ⟨b,o,none⟩) (bA zs).2.length c,.int .i64 0]) (.tuple #[.agg #[.int .u64 s3,.slice a3 n3 c3],.int .i64 f3]))
  refine tT (K.cy hK4.base) (ah (Jt p (some ⟨b,o,none⟩) n c (some ⟨b,o,none⟩) (bA zs).2.length c s3 a3 n3 c3 f3) (by simp [af])) fun ν' M5 w5 s' w'' _ hB5 hr5=>?_
  have hs5:=hK4.now hB5 hr5
  exact ⟨_,rfl,C2 hR0 (aG hM (hK4.base.trans hB5) hr5) (size_le s2) fun k o hk ho=>hs5 _ _ (eP hk ho)⟩
end
noncomputable def CV (l m:List SV) (n c d:Nat):SM:=(aS aQ 15 [.sl 0 0 n (some c),.sl 1 0 n (some d)] (bc 6 2 0 [eN l,eN m])).getD dx
noncomputable def GB:List SI:=dC aQ 2 60 (CV [] [] 0 0 0) [(1000,.b true)]
noncomputable def uQ (n c d:Nat) (i:Int):SF:={ fn:=15,tm:=gw 27 5 ([.sl 0 0 n (some c),.sl 1 0 n (some d),.aM,.aM,.aM,.v (.int .i64 i)]++List.replicate 21 .aM),todo:=GB,defers:=[],ret:=false,kind:=.normal,ro:=none }
def IS (x y:aD):List (Nat × c9):=[(0,.b true),(2,.cells (eC x)),(4,.cells (eC y)),(1000,.b true)]
noncomputable def LV (l m:List SV) (n c d:Nat) (i:Int) (x y:aD):SM:=cK aQ 56 100 (SM.at (uQ n c d i) 6 [eN l,eN m]) (IS x y) (.v (.bool true))
theorem N8 (l m:List SV) (n c d:Nat):reach aQ 2 60 (CV l m n c d) [(1000,.b true),(0,.b false)] [(0,0),(1,1)] [0,1] (uQ n c d 0) 6 [eN l,eN m]=[0=0∧n=n∧some c=some c,0=0∧n=n∧some d=some d,vZ 0=vZ 0,l=l,l.all ae=true,m=m,m.all ae=true,(!(↑n:Int)==(↑n:Int))=false]:=by kernel_rfl
theorem OE (l m:List SV) (n c d:Nat) (i:Int):au aQ 15 60 (SM.at (uQ n c d i) 6 [eN l,eN m]) (ff [0] false) (.bool true)=[Value.bool true=Value.bool true,decide (i<(↑n:Int))=false]:=by kernel_rfl
theorem OP (l m:List SV) (n c d:Nat) (i:Int) (x y:aD):bB aQ 56 100 (SM.at (uQ n c d i) 6 [eN l,eN m]) (IS x y)=[List.take 4 (List.drop (0+i.toNat*4) m)=[SV.v (Value.string y.1),SV.v (Value.int IntKind.u64 y.2),SV.v (vZ y.3),SV.v (Value.slice y.4 y.5 y.6)]∧[SV.v (Value.string y.1),SV.v (Value.int IntKind.u64 y.2),SV.v (vZ y.3),SV.v (Value.slice y.4 y.5 y.6)].length=4,ar i n=true,List.take 4 (List.drop (0+i.toNat*4) l)=[SV.v (Value.string x.1),SV.v (Value.int IntKind.u64 x.2),SV.v (vZ x.3),SV.v (Value.slice x.4 x.5 x.6)]∧[SV.v (Value.string x.1),SV.v (Value.int IntKind.u64 x.2),SV.v (vZ x.3),SV.v (Value.slice x.4 x.5 x.6)].length=4,ar i n=true,decide (i<(↑n:Int))=true]:=by kernel_rfl
theorem Kf (l m:List SV) (n c d:Nat) (i:Int) (x y:aD):aR aQ 56 100 (SM.at (uQ n c d i) 6 [eN l,eN m]) (IS x y)=aP aQ 56 [.agg (eC x),.agg (eC y)] .normal:=by kernel_rfl
theorem JP (l m:List SV) (n c d:Nat) (i:Int) (x y:aD):bJ aQ 56 100 (SM.at (uQ n c d i) 6 [eN l,eN m]) (IS x y) (.v (.bool true))=[List.take 4 (List.drop (0+i.toNat*4) m)=[SV.v (Value.string y.1),SV.v (Value.int IntKind.u64 y.2),SV.v (vZ y.3),SV.v (Value.slice y.4 y.5 y.6)]∧[SV.v (Value.string y.1),SV.v (Value.int IntKind.u64 y.2),SV.v (vZ y.3),SV.v (Value.slice y.4 y.5 y.6)].length=4,ar i n=true,List.take 4 (List.drop (0+i.toNat*4) l)=[SV.v (Value.string x.1),SV.v (Value.int IntKind.u64 x.2),SV.v (vZ x.3),SV.v (Value.slice x.4 x.5 x.6)]∧[SV.v (Value.string x.1),SV.v (Value.int IntKind.u64 x.2),SV.v (vZ x.3),SV.v (Value.slice x.4 x.5 x.6)].length=4,ar i n=true,decide (i<(↑n:Int))=true]:=by kernel_rfl
theorem KO (l m:List SV) (n c d:Nat) (i:Int) (x y:aD) (i':Int):reach aQ 2 60 (LV l m n c d i x y) [(1000,.b true)] [(0,0),(1,1)] [0,1] (uQ n c d i') 6 [eN l,eN m]=[0=0∧n=n∧some c=some c,0=0∧n=n∧some d=some d,vZ (IntKind.i64.wrap (i+1))=vZ i',l=l,l.all ae=true,m=m,m.all ae=true]:=by kernel_rfl
noncomputable def Da:SM:=(aS aQ 15 [.v (.slice none 0 0),.v (.slice none 0 0)] (bc 6 0 0 [])).getD dx
theorem Mc (u:Unit):au aQ 15 60 Da [(1000,.b true)] (.bool true)=[Value.bool true=Value.bool true]:=by kernel_rfl
noncomputable def Gj (s:Int) (v:Value):SM:=(aS aQ 17 [.ptr 0 0] (bc 6 1 0 [eN [.v (.int .u64 s),.v v]])).getD dx
theorem Oh (s:Int) (v:Value):au aQ 17 60 (Gj s v) [(1000,.b true)] (.int .u64 s)=[Value.int IntKind.u64 s=Value.int IntKind.u64 s]:=by kernel_rfl
theorem G5 {M:Own} {w0:World} {cs0:List Frame} {f:FuncId} {R:Ending→World→Prop} {ν:aA} {H0 H:Hp} {M00:Own} {w00:World} (hk:Kept H0 M00 w00 H M w0) {n:Nat} {g:FuncId} {S:SM} {o:List (Nat × c9)} {args:List SV} (h:cp (bB aQ g n S o)) (hG:aR aQ g n S o=aP aQ g args .normal)
  (hc:∀ ν' w a,ν.Le ν'→H.Sub w.hp→GR ν' aQ→aj ν' args a→Calls Tryz.prog g a.toArray w fun e w'=>Below w.heap.size w w'∧∃ y,e=.returned y∧(∀ M2,Kept H0 M00 w00 (H.grow w w') M2 w'→
   cp (bJ aQ g n S o (.v y))∧ao aQ M2 w' cs0 f R ν (cK aQ g n S o (.v y)))):ao aQ M w0 cs0 f R ν S:=
 ao.BM kR hk h.out hG fun ν' w a hle hs hg ha=>(hc ν' w a hle hs hg ha).mono fun e w' ⟨hB,y,he,h⟩=>⟨hB,y,he,fun M2 hK=>⟨(h M2 hK).1.out,(h M2 hK).2⟩⟩
theorem DJ {M:Own} {w0:World} {cs0:List Frame} {f:FuncId} {R:Ending→World→Prop} {ν:aA} {n:Nat} {St:SM} {o:List (Nat × c9)} {v:Value} (h:cp (Go.Rx.au aQ f n St o v)) (hR:∀ ν' M1 w1 s' w',ν.Le ν'→bk M w0 M1 w1→HR ν' M1 w1 s' w'→R (.returned v) w'):ao aQ M w0 cs0 f R ν St:=ao.au kR h.out hR
theorem zu {M:Own} {w0:World} {cs0:List Frame} {f:FuncId} {R:Ending→World→Prop} {ν:aA} {k n d:Nat} {St:SM} {o:List (Nat × c9)} {ren:List (Nat × Nat)} {eqs:List Nat} {F:SF} {l:List (Option (SO × Bool))} (h:cp (Go.Rx.reach aQ k n St o ren eqs F d l)) (ht:dC aQ k n St o=F.todo)
  (hν:∀ i b,ν i=some b→ren.lookup i=some i) (hs:ao aQ M w0 cs0 f R ν (SM.at F d l)):ao aQ M w0 cs0 f R ν St:=ao.reach kR h.out ht hν hs
def Bo (w:World) (xa xb:List aD):Prop:=∀ (i:Nat) x y,xa[i]?=some x→xb[i]?=some y→∃ zs us,iV w x.a x.l zs∧iV w y.a y.l us∧zb x y zs us=true
section
variable {W:World} {M:Own} {cs0:List Frame} {ν:aA} {xa xb:List aD} {c d:Nat}
theorem CI (hM:∀ z,¬ M z) (hν:∀ i b,ν i=some b→i=0∨i=1) (dF:xa.length≤1000) (hl:xa.length=xb.length) (hs:Bo W xa xb):∀ (j i:Nat),i+j=xa.length→∀ H M1 w1,Kept W.hp M W H M1 w1→
  ao aQ M1 w1 cs0 15 (fun e w'=>Below W.heap.size W w'∧e=.returned (.bool true)) ν (SM.at (uQ xa.length c d (i:Int)) 6 [eN (cE xa),eN (cE xb)])
 | 0,i,hj,H,M1,w1,hk=>by
  have hn:decide ((i:Int)<(xa.length:Int))=false:=decide_eq_false (by omega)
  exact DJ (ah (OE (cE xa) (cE xb) xa.length c d (i:Int)) (by simp only [af,hn,and_self])) fun ν' M2 w2 s' w' _ hB2 hr=>⟨aG hM (hk.base.trans hB2) hr,rfl⟩
 | j+1,i,hj,H,M1,w1,hk=>by
  have hi:i<xa.length:=by omega
  have hx:xa[i]?=some xa[i]:=List.getElem?_eq_getElem hi
  have hi2:i<xb.length:=by omega
  have hy:xb[i]?=some xb[i]:=List.getElem?_eq_getElem hi2
  generalize xa[i]=x at hx
  generalize xb[i]=y at hy
  have hn:decide ((i:Int)<(xa.length:Int))=true:=decide_eq_true (by omega)
  have eX:ar (i:Int) xa.length=true:=bY hi
  have hax:=Di hx
  have hay:=Di hy
  have hca:=dI xa
  have hcb:=dI xb
  have hwr:IntKind.i64.wrap ((i:Int)+(1:Int))=((i+1:Nat):Int):=cL (by omega)
  refine G5 hk (n:=100) (g:=56) (o:=IS x y) (ah (OP (cE xa) (cE xb) xa.length c d (i:Int) x y) ?_) (Kf (cE xa) (cE xb) xa.length c d (i:Int) x y) fun ν' w a hle hsub hgr ha=>?_
  ·simp only [af,Int.toNat_natCast,hn,eX,hax,hay]
   repeat' apply And.intro
   all_goals first | exact True.intro | rfl
  obtain ⟨y1,as1,rfl,q1,ha⟩:=ha.cons_inv
  obtain ⟨y2,as2,rfl,q2,ha⟩:=ha.cons_inv
  obtain rfl:=ha.aq
  obtain ⟨z1,rfl,q3⟩:=VR.aW.1 q1
  obtain ⟨z2,rfl,q4⟩:=VR.aW.1 q2
  obtain rfl:z1=eV x:=bT (v:=eV x) q3 (aj.lits ν' (eV x))
  obtain rfl:z2=eV y:=bT (v:=eV y) q4 (aj.lits ν' (eV y))
  obtain ⟨zs,us,d1,d2,hsame⟩:=hs i x y hx hy
  have hkp:=a8 hk.sub0 hsub
  refine (HV (d1.cr hkp) (d2.cr hkp)).mono fun e w' ⟨he,hB⟩=>⟨hB,_,he,fun M2 hK2=>?_⟩
  rw [hsame]
  refine ⟨ah (JP (cE xa) (cE xb) xa.length c d (i:Int) x y) ?_,?_⟩
  ·simp only [af,Int.toNat_natCast,hn,eX,hax,hay]
   repeat' apply And.intro
   all_goals first | exact True.intro | rfl
  show ao aQ M2 w' cs0 _ _ _ (LV (cE xa) (cE xb) xa.length c d (i:Int) x y)
  have nx:=CI hM hν dF hl hs j (i+1) (by omega) _ M2 w' hK2
  refine zu (ah (KO (cE xa) (cE xb) xa.length c d (i:Int) x y ((i+1:Nat):Int)) ?_) (by kernel_rfl) (fun k b h=>by rcases hν k b h with h | h <;> rw [h] <;> rfl) nx
  simp only [af,hwr,hca,hcb]
  repeat' apply And.intro
  all_goals first | exact True.intro | rfl
end
theorem tM {w:World} {g1 g2 c d:Nat} {xa xb:List aD} {r1 r2:List Value} {e1 e2:TypeId} {f1 f2:Nat × Nat} (hn:g1≠g2) (h1:w.heap[g1]?=some (.cells (vE xa++r1).toArray e1 f1)) (h2:w.heap[g2]?=some (.cells (vE xb++r2).toArray e2 f2)) (hc:xa.length≤c) (hd:xa.length≤d) (dF:xa.length≤1000) (hl:xa.length=xb.length) (hs:Bo w xa xb):
  Calls Tryz.prog 15 #[.slice (some ⟨g1,0,none⟩) xa.length c,.slice (some ⟨g2,0,none⟩) xa.length d] w fun e w'=>Below w.heap.size w w'∧e=.returned (.bool true):=by
 have ho:∀ (j:Nat) (o':SO) (b' c':Nat),[SO.look (cE xa),SO.look (cE xb)][j]?=some o'→[(g1,0),(g2,0)][j]?=some (b',c')→∃ r,w.heap[b']?=some r∧OR (ax [(g1,0),(g2,0)]) j o' r:=by
  intro j o' b' c' q1 q2
  match j with
  | 0=>
   cases q1;cases q2
   refine ⟨_,h1,vE xa,_,_,_,rfl,by rw [← ub];exact aj.lits _ _,fun k y h=>?_⟩
   rw [List.getElem?_toArray,List.getElem?_append_left (List.getElem?_eq_some_iff.1 h).1];exact h
  | 1=>
   cases q1;cases q2
   refine ⟨_,h2,vE xb,_,_,_,rfl,by rw [← ub];exact aj.lits _ _,fun k y h=>?_⟩
   rw [List.getElem?_toArray,List.getElem?_append_left (List.getElem?_eq_some_iff.1 h).1];exact h
  | j+2=>simp at q1
 have hM:∀ z,¬ (az [(g1,0),(g2,0)] ([SO.look (cE xa),SO.look (cE xb)].map fun o=>(o,false))) z:=fun z=>aO
 refine aY (E:=aQ) rfl (d:=6) (l:=[(g1,0),(g2,0)]) (os:=[.look (cE xa),.look (cE xb)]) rfl (by simp) (by simpa using hn) ho rfl (args:=[.sl 0 0 xa.length (some c),.sl 1 0 xa.length (some d)]) (a:=[.slice (some ⟨g1,0,none⟩) xa.length c,.slice (some ⟨g2,0,none⟩) xa.length d]) (S0:=CV (cE xa) (cE xb) xa.length c d) (by kernel_rfl) (aj.cons (VR.ay.2 ⟨(g1,0),rfl,hc,rfl⟩) (aj.cons (VR.ay.2 ⟨(g2,0),rfl,hd,rfl⟩) aj.nil)) fun cs0=>?_
 have hν:∀ i c,ax [(g1,0),(g2,0)] i=some c→i=0∨i=1:=fun i c h=>by
  match i with
  | 0=>exact .inl rfl
  | 1=>exact .inr rfl
  | i+2=>simp [ax] at h
 have hK0:Kept w.hp (az [(g1,0),(g2,0)] ([SO.look (cE xa),SO.look (cE xb)].map fun o=>(o,false))) w w.hp (az [(g1,0),(g2,0)] ([SO.look (cE xa),SO.look (cE xb)].map fun o=>(o,false))) w:=
  Kept.start (Hp.Sub.refl _) (fun z o _=>hM z) (ek (by
   intro j o' m b' c' q1 q2
   rw [List.getElem?_map] at q1
   obtain ⟨o2,q3,q4⟩:=Option.map_eq_some_iff.1 q1
   cases q4
   exact ho j o' b' c' q3 q2)) (fun _ h=>h)
 have nx:=CI (cs0:=cs0) (c:=c) (d:=d) hM hν dF hl hs xa.length 0 (by omega) _ _ _ hK0
 have hca:=dI xa
 have hcb:=dI xb
 have hnn:(!(xa.length:Int)==(xa.length:Int))=false:=by simp
 refine zu (ah (N8 (cE xa) (cE xb) xa.length c d) ?_) (by kernel_rfl) (fun k b h=>by rcases hν k b h with h | h <;> rw [h] <;> rfl) nx
 simp only [af,hca,hcb,hnn]
 repeat' apply And.intro
 all_goals first | exact True.intro | rfl
theorem p9 {w:World}:Calls Tryz.prog 15 #[.slice none 0 0,.slice none 0 0] w fun e w'=>Below w.heap.size w w'∧e=.returned (.bool true):=by
 refine bV (E:=aQ) rfl rfl (args:=[.v (.slice none 0 0),.v (.slice none 0 0)]) (a:=[.slice none 0 0,.slice none 0 0]) (S0:=Da) (by kernel_rfl) (aj.lits _ [.slice none 0 0,.slice none 0 0]) fun cs0=>?_
 exact DJ (ah (Mc ()) (by simp [af])) fun ν' M2 w2 s' w' _ hB2 hr=>⟨aG a6 hB2 hr,rfl⟩
theorem rW {w:World} {b:Nat} {s:Int} {v:Value} {e:TypeId} {fz:Nat × Nat} (h:w.heap[b]?=some (.cells #[.int .u64 s,v] e fz)):Calls Tryz.prog 17 #[.pointer (some ⟨b,0,none⟩)] w fun e w'=>Below w.heap.size w w'∧e=.returned (.int .u64 s):=by
 have ho:∀ (j:Nat) (o':SO) (b' c':Nat),[SO.look [.v (.int .u64 s),.v v]][j]?=some o'→[(b,0)][j]?=some (b',c')→∃ r,w.heap[b']?=some r∧OR (ax [(b,0)]) j o' r:=by
  intro j o' b' c' q1 q2
  match j with
  | 0=>cases q1;cases q2;exact ⟨_,h,[.int .u64 s,v],_,_,_,rfl,aj.lits _ [.int .u64 s,v],fun k y hk=>by simpa using hk⟩
  | j+1=>simp at q1
 refine aY (E:=aQ) rfl (d:=6) (l:=[(b,0)]) (os:=[.look [.v (.int .u64 s),.v v]]) rfl (by simp) (by simp) ho rfl (args:=[.ptr 0 0]) (a:=[.pointer (some ⟨b,0,none⟩)]) (S0:=Gj s v) (by kernel_rfl) (aj.cons (VR.aw.2 ⟨(b,0),rfl,rfl⟩) aj.nil) fun cs0=>?_
 exact DJ (ah (Oh s v) (by simp [af])) fun ν' M2 w2 s' w' _ hB2 hr=>⟨aG (fun z=>aO) hB2 hr,rfl⟩
end ez
end paths
end Go.Proofs.YtcbokmadfcedaaaGreatDoor
namespace Go.Proofs.YtcbokmadfcedaaaGreatDoor
open Go Go.Rx Go.RowKit Go.Proofs
set_option linter.unusedVariables false
set_option linter.unusedSimpArgs false
set_option maxRecDepth 100000
def qp:Go.Shelf.Ren:=⟨fun | 4=>120 | n=>n,fun | 22=>22 | 25=>5 | 3=>3 | 4=>4 | 9=>9 | 20=>20 | 0=>0 | n=>n,fun | n=>n⟩
theorem GO:Go.Proofs.Lays8.n4 Tryz.prog qp where
 mixed:=by kernel_rfl
 f4 := ⟨ "slices.Grow[[]byte,byte]", by decide, Tryz.func120.trans (congrArg some (by kernel_rfl))⟩
 t0:=Tryz.underlying0
 a0:=Tryz.isAgg0
 z0:=Tryz.sizeOf0
 v0:=Tryz.zeroValue0
 t3:=Tryz.underlying3
 a3:=Tryz.isAgg3
 z3:=Tryz.sizeOf3
 v3:=Tryz.zeroValue3
 t4:=Tryz.underlying4
 a4:=Tryz.isAgg4
 z4:=Tryz.sizeOf4
 v4:=Tryz.zeroValue4
 t9:=Tryz.underlying9
 a9:=Tryz.isAgg9
 z9:=Tryz.sizeOf9
 v9:=Tryz.zeroValue9
 t20:=Tryz.underlying20
 a20:=Tryz.isAgg20
 z20:=Tryz.sizeOf20
 v20:=Tryz.zeroValue20
 t22:=Tryz.underlying22
 a22:=Tryz.isAgg22
 z22:=Tryz.sizeOf22
 v22:=Tryz.zeroValue22

namespace paths
namespace ez
def yI:Sum:=fun args s=>match args with
 | [.v (.slice none 0 0),.v (.int .i64 n)]=>(cC (.row [] 5 (0,0) (some 1)) (s.dw (0<n∧n≤1000000))).map fun r=>(.sl r.1 0 0 none,r.2)
 | _=>none
theorem D6:∃ i0,Tryz.prog.info? 5=some i0∧i0.zero=some (.int .u8 0)∧i0.size=1∧i0.bytes=1:=⟨(Tryz.prog.info? 5).get (by kernel_rfl),(Option.some_get _).symm,by kernel_rfl,by kernel_rfl,by kernel_rfl⟩
theorem Dj {X:World→Prop}:cF Tryz.prog X (120,yI):=by
 refine ⟨⟨_,Tryz.func120,by kernel_rfl,by kernel_rfl⟩,fun args x s s' hx ob=>?_⟩
 dsimp only at hx
 unfold yI at hx
 split at hx
 ·rename_i n
  obtain ⟨⟨k,s1⟩,hn,hx⟩:=Option.map_eq_some_iff.1 hx
  cases hx
  unfold cC at hn
  cases hroom:(s.dw (0<n∧n≤1000000)).room
  ·rw [hroom] at hn;cases hn
  rw [hroom] at hn
  simp only [cond_true] at hn
  cases hn
  obtain ⟨ob0,h1,h2⟩:s.ob∧0<n∧n≤1000000:=⟨ob.1,ob.2⟩
  obtain ⟨k,rfl⟩:∃ k:Nat,n=(k:Int):=⟨n.toNat,by omega⟩
  refine ⟨ob0,fun ν M w0 w a hr hX ha=>?_⟩
  obtain ⟨y1,as1,rfl,q1,ha2⟩:=ha.cons_inv
  obtain ⟨y2,as2,rfl,q2,ha3⟩:=ha2.cons_inv
  obtain rfl:=ha3.aq
  obtain rfl:=VR.ab.1 q1
  obtain rfl:=VR.ab.1 q2
  obtain ⟨i0,hi,hz,hs,hb⟩:∃ i0,Tryz.prog.info? 5=some i0∧i0.zero=some (.int .u8 0)∧i0.size=1∧i0.bytes=1:=D6
  have hg:=Any8.slices_Grow_grow GO i0 (.int .u8 0) hi hz (by omega) none 0 0 k [] w (Nat.le_refl _) (by omega) (by rw [hb];omega) (by omega) (by simp) (fun _=>rfl) (fun a h=>by cases h)
  refine hg.mono fun e w' ⟨he,hw⟩=>?_
  obtain ⟨G,hG⟩:∃ G,G=grownCap w (0+k) 0 (qp.t 25):=⟨_,rfl⟩
  have hge:0+k≤G:=by rw [hG];exact grownCap_ge w _ _ _
  rw [← hG] at he hw
  obtain ⟨cs,hcs,hsz⟩:∃ cs:Array Value,w'=w.drew.alloc (.cells cs 5)∧cs.size=G:=⟨_,hw,by simp [Builtin.zeroCells,Value.cells];omega⟩
  have hh:w'.heap[w.heap.size]?=some (.cells cs 5 (0,0)):=by
   rw [hcs]
   show (w.heap.push _)[w.heap.size]?=_
   rw [Array.getElem?_push,if_pos rfl]
  refine ⟨by rw [hcs];exact (Below.refl _ w).drew.alloc (Nat.le_refl _) _,_,he,.made (s.dw _) _ w.heap.size G _ (SH.aH _ _) hroom rfl (Nat.le_refl _) hh ⟨[],cs.toList,by simp,aj.nil,Nat.zero_le _,(w.heap.size,G),aA.aU _ _ _,by simpa using hsz⟩ (VR.ay.2 ⟨(w.heap.size,G),aA.aU _ _ _,Nat.zero_le _,rfl⟩)⟩
 ·cases hx
end ez
end paths
end Go.Proofs.YtcbokmadfcedaaaGreatDoor
set_option linter.unusedSimpArgs false
set_option linter.unusedVariables false
set_option maxRecDepth 100000
namespace Go.Proofs.YtcbokmadfcedaaaGreatDoor
open Go Go.Rx Go.RowKit Go.Proofs
namespace paths
namespace ez
def eT:PS:=fun args=>match args with | []=>some (.bool true,True) | _=>none
noncomputable def Jo (g:Bool):List (FuncId × Sum):=bif g then [(117,si),(4,eD eT),(120,yI)] else [(117,si),(4,eD eT)]
noncomputable def bG (g:Bool):Env:={ EP [] [] with sums:=fun f=>(Jo g).lookup f }
noncomputable def lI (a:Option Addr) (n c:Nat) (dir:Bool):SM:=(aS (bG false) 3 [.v (.slice a n c),.v (.bool dir)] (bc 8 0 0 [])).getD dx
noncomputable def nA (xs:List SV) (o n c:Nat):SM:=(aS (bG true) 3 [.sl 0 o n (some c),.v (.bool false)] (bc 8 1 0 [eN xs])).getD dx
theorem My (a:Option Addr) (n c:Nat) (dir:Bool):au (bG false) 3 100 (lI a n c dir) [(0,.b true),(1000,.b true)] (.bool true)=[Value.bool true=Value.bool true,True,decide ((↑n:Int)>6000)=true]:=by kernel_rfl
end ez
end paths
end Go.Proofs.YtcbokmadfcedaaaGreatDoor
set_option linter.unusedSimpArgs false
set_option linter.unusedVariables false
set_option maxRecDepth 100000
namespace Go.Proofs.YtcbokmadfcedaaaGreatDoor
open Go Go.Rx Go.RowKit Go.Proofs
namespace paths
namespace ez
open eye (numR)
open crc (bC bC_len bC_closed bC_flat)
theorem B1 {xs:List SV} {o l c v:Nat} {zs rest d:List Int} {p:ByteArray} {f:Int} (h:Told xs o l zs) (hlc:l≤c) (he:dT zs=(some (p,v,1,d),f,rest)):di xs (dO aJ zs o c).1 d.length d∧(dO aJ zs o c).1+d.length≤xs.length:=by
 generalize h1:bX 96 zs=q1
 obtain ⟨t,f1,z2⟩:=q1
 by_cases hf1:f1=0
 case neg=>rw [pQ h1 hf1] at he;cases he
 subst hf1
 generalize h2:numR 18446744073709551615 z2=q2
 obtain ⟨v',f2,z3⟩:=q2
 by_cases hf2:f2=0
 case neg=>rw [qT h1 h2 hf2] at he;cases he
 subst hf2
 generalize h3:numR 2 z3=q3
 obtain ⟨k',f3,z4⟩:=q3
 by_cases hf3:f3=0
 case neg=>rw [j2 h1 h2 h3 hf3] at he;cases he
 subst hf3
 by_cases hk1:k'=1
 ·subst hk1
  generalize h4:bX 4096 z4=q4
  obtain ⟨d',f4,z5⟩:=q4
  by_cases hf4:f4=0
  case neg=>rw [lD h1 h2 h3 h4 hf4] at he;cases he
  subst hf4
  rw [qh h1 h2 h3 h4] at he
  obtain ⟨_,_,_,_,rfl,_⟩:=j8 he
  obtain ⟨_,_,_,_,o2,l2,c2,_,_,_,_,T2,hlc2,_,_,_,_,_,_,_,_,_,p2,_⟩:=pb h hlc (m:=96) (mm:=96) rfl (by decide) h1
  obtain ⟨k3,_,_,_,_,_,_,T3,hlc3,p3⟩:=gU (T:=TE) qA T2 hlc2 (m:=18446744073709551615) (mm:=18446744073709551615) rfl (by decide) h2
  obtain ⟨k4,_,_,_,_,_,_,T4,hlc4,p4⟩:=gU (T:=TE) qA T3 hlc3 (m:=2) (mm:=2) rfl (by decide) h3
  obtain ⟨n5,_,o5,c5,_,_,_,_,X5,_,_,_,_,_,_,_,_,_,hn5,_,_,hx5,_,p6⟩:=pb T4 hlc4 (m:=4096) (mm:=4096) rfl (by decide) h4
  have hp:=vn h1 h2 h3 p2 p3 p4 p6
  rw [← hp,← hn5]
  exact ⟨X5,hx5⟩
 ·rw [qo h1 h2 h3 hk1] at he
  obtain ⟨_,_,_,hk,_⟩:=j8 he
  exact absurd hk hk1
theorem r6 (o:Nat) (zs:List Int):(ak bC o zs).length=o+zs.length:=by
 unfold ak
 rw [List.length_append,List.length_replicate]
 congr 1
 induction zs with
 | nil=>rfl
 | cons z zs ih=>rw [List.flatMap_cons,List.length_append,ih,List.length_cons];show 1+_=_;omega
theorem D9 {S:Src} {w:World} {x:aD} {y:c7} (hX:XS S w) (h:GJ S x y):iV w x.a x.l y.2.2.2:=by
 obtain ⟨_,_,_,hI,h⟩:=h
 rcases h with ⟨hk,ha,hl,_⟩ | ⟨hk,oo,l,c,zs,rest,hE,hent,ha,hl,_⟩
 ·rw [ha,hl,hI.xM hk];exact wB
 ·obtain ⟨p,v,k,d⟩:=y
  have hk:k=1:=hk
  subst hk
  obtain ⟨hm,⟨cs,e,fz,hh,ho,hcc⟩,_⟩:=hX
  have hlc:=hE.lc
  obtain ⟨ok,_,kk,hkk,rfl,rfl,hadv⟩:=hE
  have T:Told (ak bC S.o S.Z) S.o S.Z.length S.Z:=⟨by have:=eK (o:=S.o) (k:=S.Z.length) (zs:=S.Z) (Nat.le_refl _) ok.dF ok.oE;rwa [List.take_length] at this,by rw [r6];exact Nat.le_refl _⟩
  have hsz:S.o+S.Z.length≤cs.size:=by
   cases hz:S.Z.length with
   | zero=>omega
   | succ n=>
    have hg:(S.Z.map (Value.int .u8))[n]?=some (.int .u8 (S.Z[n]'(by omega))):=by rw [List.getElem?_map,List.getElem?_eq_getElem (by omega)];rfl
    have:=(Array.getElem?_eq_some_iff.1 (hcc n _ hg)).1
    omega
  obtain ⟨X,hx⟩:=B1 (T.adv hkk hadv) hlc hent
  have hlen:=r6 S.o S.Z
  have hIn:=X.holds (ν:=fun _=>none) (i:=0) (b:=(S.blk,0)) hh (bW (h:=fun z=>[Value.int .u8 z]) (fun ν x=>aj.lits ν [Value.int .u8 x]) ho (by rw [bC_flat];exact hcc)) (fun _=>trivial) (fun hl c' e' fz' hob=>by cases hob;rw [hlen] at hx;omega)
  rw [ha,hl]
  exact xA rfl X.dF hIn
theorem lS {S:Src}:∀ {xs:List aD} {ys:List c7},iI S xs ys→xs.length=ys.length∧∀ (i:Nat) (x:aD),xs[i]?=some x→∃ y,ys[i]?=some y∧GJ S x y
 | [],[],_=>⟨rfl,fun i x h=>by simp at h⟩
 | a::xs,b::ys,h=>by
  obtain ⟨h1,h2⟩:=lS h.2
  refine ⟨by rw [List.length_cons,List.length_cons,h1],fun i x hx=>?_⟩
  match i with
  | 0=>cases hx;exact ⟨b,rfl,h.1⟩
  | i+1=>exact h2 i x hx
 | [],b::ys,h=>h.elim
 | a::xs,[],h=>h.elim
theorem sV:∀ (n:Nat) (last:ByteArray) (zs:List Int) (acc l:List c7),bh n last zs acc=(0,l)→acc.Pairwise (fun x y=>bF x.1 y.1<0)→(acc=[]∨∃ a0 x0,acc=a0++[x0]∧x0.1=last∧last≠⟨#[]⟩)→l.Pairwise fun x y=>bF x.1 y.1<0
 | 0,last,zs,acc,l,h,hp,_=>by
  unfold bh at h
  split at h
  ·cases h;exact hp
  ·cases h
 | n+1,last,zs,acc,l,h,hp,hl=>by
  unfold bh at h
  split at h
  ·simp only [Prod.mk.injEq] at h
   rw [← h.2];exact List.Pairwise.nil
  ·rename_i x f rest hent
   split at h
   ·cases h
   ·rename_i hc
    obtain ⟨p,v,k,d⟩:=x
    obtain ⟨_,hI⟩:=ij hent
    refine sV n p rest (acc++[(p,v,k,d)]) l h ?_ (.inr ⟨acc,_,rfl,rfl,nd (x:=⟨p,v,k,none,d.length,0⟩) hI.chk⟩)
    rw [List.pairwise_append]
    refine ⟨hp,List.pairwise_singleton _ _,fun a ha b hb=>?_⟩
    rw [List.mem_singleton.1 hb]
    show bF a.1 p<0
    rcases hl with rfl | ⟨a0,x0,rfl,rfl,hf⟩
    ·cases ha
    ·have hlt:bF x0.1 p<0:=by
      have:¬ (0≤bF x0.1 p):=fun h0=>hc ⟨hf,h0⟩
      omega
     rcases List.mem_append.1 ha with ha | ha
     ·exact fo ((List.pairwise_append.1 hp).2.2 a ha x0 (by simp)) hlt
     ·rw [List.mem_singleton.1 ha];exact hlt
theorem AS {zs:List Int} (h:(dq zs).1=0):(dq zs).2.2.Pairwise fun x y=>bF x.1 y.1<0:=by
 unfold dq at h ⊢
 generalize numR 1099511627776 zs=q at h ⊢
 obtain ⟨s,f,z2⟩:=q
 simp only at h ⊢
 split at h
 ·rename_i hf;rw [if_pos hf];exact List.Pairwise.nil
 ·rename_i hf
  rw [if_neg hf]
  generalize numR 256 z2=q2 at h ⊢
  obtain ⟨n,f2,z3⟩:=q2
  simp only at h ⊢
  split at h
  ·rename_i hf2;rw [if_pos hf2];exact List.Pairwise.nil
  ·rename_i hf2
   rw [if_neg hf2]
   exact sV n ⟨#[]⟩ z3 [] _ (Prod.ext h rfl) List.Pairwise.nil (.inl rfl)
theorem zQ {zs:List Int} (h:(dY zs).1=0):(dY zs).2.2.Pairwise fun x y=>bF x.1 y.1<0:=by
 unfold dY at h ⊢
 split at h
 ·rename_i h0;rw [if_pos h0];exact AS h
 ·rename_i h0;exact absurd h h0
theorem vN (q:ByteArray):∀ {l:List aD} {i:Nat} {x:aD},(l.map (·.p)).Pairwise (fun a b=>a≠b)→l[i]?=some x→x.p=q→l.find? (Fy q)=some x
 | [],i,x,_,h,_=>by simp at h
 | a::l,0,x,_,h,hq=>by
  cases h
  rw [List.find?_cons_of_pos]
  unfold Fy;simp [hq]
 | a::l,i+1,x,hp,h,hq=>by
  rw [List.map_cons,List.pairwise_cons] at hp
  have hx:x∈l:=List.mem_of_getElem? h
  rw [List.find?_cons_of_neg]
  ·exact vN q hp.2 h hq
  ·have:=hp.1 x.p (List.mem_map.2 ⟨x,hx,rfl⟩)
   intro h2
   have h3:a.p.data.toList=q.data.toList:=eq_of_beq h2
   exact this ((ByteArray.ext (Array.toList_inj.1 h3)).trans hq.symm)
theorem Eh {S:Src} {w:World} {H:Hp} {E:List bK} {l:List c7} {zs xs:List aD} (hE:E.map (KM (dp H))=l.map rC) (hz:zs.map (·.p)=fC (E.map fun e=>e.1.p)) (hd:∀ x∈zs,∃ us,(x.v,x.k,us)=kL (dp H) (E.map (·.1)) x.p∧iV w x.a x.l us)
  (hA:iI S xs l) (hX:XS S w) (hl:l.Pairwise fun x y=>bF x.1 y.1<0):zs.length=xs.length∧Bo w zs xs:=by
 have hpl:(E.map fun e=>e.1.p)=l.map (·.1):=by
  have:=congrArg (List.map Prod.fst) hE
  rw [List.map_map,List.map_map] at this
  exact this
 have hs:fC (E.map fun e=>e.1.p)=l.map (·.1):=by
  rw [hpl]
  refine oJ ?_ (List.Perm.refl _)
  rw [List.pairwise_map]
  exact hl.imp fun h=>Ig h
 rw [hs] at hz
 obtain ⟨hlen,hget⟩:=lS hA
 have hzl:zs.length=l.length:=by have:=congrArg List.length hz;simpa using this
 refine ⟨by omega,fun i x y hx hy=>?_⟩
 obtain ⟨q,hq,hS⟩:=hget i y hy
 have hxp:x.p=q.1:=by
  have:=congrArg (fun (l:List ByteArray)=>l[i]?) hz
  simp only [List.getElem?_map,hx,hq,Option.map_some,Option.some.injEq] at this
  exact this
 obtain ⟨e,he,hke⟩:∃ e,E[i]?=some e∧KM (dp H) e=rC q:=by
  have:=congrArg (fun (l:List Key)=>l[i]?) hE
  simp only [List.getElem?_map,hq,Option.map_some] at this
  obtain ⟨e,h1,h2⟩:=Option.map_eq_some_iff.1 this
  exact ⟨e,h1,h2⟩
 have hep:e.1.p=q.1:=congrArg Prod.fst hke
 have hne:((E.map (·.1)).map (·.p)).Pairwise (fun a b=>a≠b):=by
  rw [List.map_map]
  show (E.map fun e=>e.1.p).Pairwise _
  rw [hpl,List.pairwise_map]
  refine hl.imp fun {a b} h hab=>?_
  rw [hab,nS] at h;omega
 have hf:=vN x.p hne (i:=i) (x:=e.1) (by rw [List.getElem?_map,he];rfl) (hep.trans hxp.symm)
 obtain ⟨us,h1,h2⟩:=hd x (List.mem_of_getElem? hx)
 unfold kL at h1
 rw [hf] at h1
 simp only [Prod.mk.injEq] at h1
 obtain ⟨hv,hk,rfl⟩:=h1
 refine ⟨_,_,h2,D9 hX hS,?_⟩
 obtain ⟨s1,s2,s3,s4,_⟩:=hS
 simp only [KM,KE,rC,Prod.mk.injEq] at hke
 obtain ⟨k1,k2,k3,k4⟩:=hke
 unfold zb
 rw [hxp,s1,hv,k2,s2,hk,k3,s3,k4]
 simp
end ez
end paths
end Go.Proofs.YtcbokmadfcedaaaGreatDoor
set_option linter.unusedSimpArgs false
set_option linter.unusedVariables false
set_option maxHeartbeats 0
set_option maxRecDepth 100000
namespace Go.Proofs.YtcbokmadfcedaaaGreatDoor
open Go Go.Rx Go.RowKit Go.Proofs
namespace paths
namespace ez
def FR (k:Nat) (S:SM):Bool:=S.callers.isEmpty&&!S.top.ret&&match S.top.todo with
 | .code (.region j _ _)::_=>Nat.beq j k
 | _=>false
def iG (E:Env) (k n:Nat) (S:SM) (o:List (Nat × c9)) (ren:List (Nat × Nat)) (eqs:List Nat) (F:SF) (d:Nat) (l:List (Option (SO × Bool))):List Prop:=
 match rQ E (FR k) n (S.with o) with | some T=>fits E ren eqs F d l T++T.mem.obl | none=>[False]
def jr (E:Env) (k n:Nat) (S:SM) (o:List (Nat × c9)):List SI:=match rQ E (FR k) n (S.with o) with | some T=>T.top.todo | none=>[]
theorem dP {E:Env} {M:Own} {w0:World} {cs0:List Frame} {f:FuncId} {R:Ending→World→Prop} {ν:aA} (K:aE E M w0) {k n d:Nat} {S:SM} {o:List (Nat × c9)} {ren:List (Nat × Nat)} {eqs:List Nat} {F:SF} {l:List (Option (SO × Bool))} (h:cp (iG E k n S o ren eqs F d l)) (ht:jr E k n S o=F.todo)
  (hν:∀ i b,ν i=some b→ren.lookup i=some i) (hs:ao E M w0 cs0 f R ν (SM.at F d l)):ao E M w0 cs0 f R ν S:=by
 have h:=h.out
 unfold iG at h
 unfold jr at ht
 split at h
 ·rename_i T hT
  rw [hT] at ht
  obtain ⟨h1,h2⟩:=cw.1 h
  exact ao.go K hT h2 (ao.fits h1 ht hν hs)
 ·exact aC h
def wS (k:Nat):Nat→List SI→List SI
 | 0,_=>[]
 | n+1,.code (.seq a b)::r=>wS k n (.code a::.code b::r)
 | n+1,.code (.region j x y)::r=>bif Nat.beq j k then .code (.region j x y)::r else wS k n r
 | n+1,.code (.cond _ _ b)::r=>wS k n (.code b::r)
 | n+1,_::r=>wS k n r
 | _,[]=>[]
noncomputable def Hn (k:Nat):List SI:=wS k 100 (lI none 0 0 true).top.todo
noncomputable def GI (k:Nat) (l:List (Nat × SV)):SF:={ fn:=3,tm:=gw 82 7 ((List.range 82).map fun i=>(l.lookup i).getD .aM),todo:=Hn k,defers:=[],ret:=false,kind:=.normal,ro:=none }
def Gh:SO:=.look [.ptr 2 0,.map 3,.aM,.aM,.v (.int .i64 (-1)),.aM,.aM]
def Gw:SO:=.look [.map 4,.v (.int .i64 1),.v (.int .i64 10000),.v (.int .i64 (-1))]
def FY (dir:Bool) (f:Int) (bn cl:Nat):SO:=.map [(.v (.string bP),.agg [.v (.bool dir),.v (.int .i64 f)],bn)] cl
def G2 (x:SV) (bn cl:Nat):SO:=.map [(.v (.int .i64 1),.agg [x,.v (.int .i64 0)],bn)] cl
def EO (l:SV) (last:Int) (now rows:SV):SO:=.row [l,.v (.int .i64 last),.v (.int .i64 10000),.v (.int .i64 (-1)),now,rows,.v (.int .i64 (-1)),.v (.slice none 0 0),.v (.int .u64 0)] 34 (0,0) none
def Gc:SO:=EO (.v (.slice none 0 0)) 0 (.v (.slice none 0 0)) (.sl 7 0 1 (some 1))
def F6:SO:=.row [.v (.slice none 0 0)] 29 (0,0) none
def LR (ys:List SV):List (Nat × c9):=[(0,.b false),(400,.b false),(406,.b false),(414,.app [] ys),(1000,.b true)]
def LI:List (Nat × c9):=[(0,.b false),(415,.app0),(1000,.b true)]
def Jp:List (Nat × c9):=[(0,.b false),(1000,.b true)]
end ez
end paths
end Go.Proofs.YtcbokmadfcedaaaGreatDoor
