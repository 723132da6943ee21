/- What the law VaultLoads leans on, part 14: the symbolic executor, proved sound, contracts of functions, plain lemmas. By an AI agent. -/
import Derived.Test.YtcbokmadfcedaaaGreatDoorPk13
import Derived.Shelf.SlIter.Nil
import Derived.Lib.LaidTab
set_option linter.unusedSimpArgs false
set_option linter.unusedVariables false
set_option maxRecDepth 100000
namespace Go.Proofs.YtcbokmadfcedaaaGreatDoor
open Go Go.Rx Go.RowKit Go.Proofs
namespace paths
namespace ez
theorem JG (o n c:Nat) (xs ys:List SV):bB (bG true) 12 50 (SM.at gD 8 (gk o n c xs ys)) bS=[]:=by kernel_rfl
theorem H7 (o n c:Nat) (xs ys:List SV) :aR (bG true) 12 50 (SM.at gD 8 (gk o n c xs ys)) bS=aP (bG true) 12 [.ptr 1 0] .normal:=by kernel_rfl
theorem JL (o n c:Nat) (xs ys:List SV) (q:Option Addr) (er:Value):bJ (bG true) 12 50 (SM.at gD 8 (gk o n c xs ys)) bS (.v (vS q er))=[]:=by kernel_rfl
theorem KY (o n c:Nat) (xs ys:List SV) (q:Option Addr) (er:Value):bB (bG true) 13 50 (yk true (gk o n c xs ys) q er) bS=[]:=by kernel_rfl
theorem Jc (o n c:Nat) (xs ys:List SV) (q:Option Addr) (er:Value):aR (bG true) 13 50 (yk true (gk o n c xs ys) q er) bS=aP (bG true) 13 [.agg [.sl 9 0 1 none,.v (.int .i64 1),.v (.int .i64 10000),.v (.int .i64 (-1)),.sl 7 0 1 none,.aM,.v (.int .i64 (-1)),.v (.slice none 0 0),.v (.int .u64 0)]] .normal:=by kernel_rfl
theorem Kt (o n c:Nat) (xs ys:List SV) (q:Option Addr) (er:Value) (s:Int) (a2:Option Addr) (n2 c2:Nat) (f:Int):bJ (bG true) 13 50 (yk true (gk o n c xs ys) q er) bS (.v (uC s a2 n2 c2 f))=[]:=by kernel_rfl
theorem LA (o n c:Nat) (xs ys:List SV) (q:Option Addr) (er:Value) (s:Int) (a2:Option Addr) (n2 c2:Nat) (f:Int):bB (bG true) 14 50 (wX true (gk o n c xs ys) q er s a2 n2 c2 f) bS=[]:=by kernel_rfl
theorem Ix (o n c:Nat) (xs ys:List SV) (q:Option Addr) (er:Value) (s:Int) (a2:Option Addr) (n2 c2:Nat) (f:Int):aR (bG true) 14 50 (wX true (gk o n c xs ys) q er s a2 n2 c2 f) bS=aP (bG true) 14 [.v er,.v (.int .i64 f),.v (.string bL),.v (.string bP)] .normal:=by kernel_rfl
theorem Lq (o n c:Nat) (xs ys:List SV) (q:Option Addr) (er:Value) (s:Int) (a2:Option Addr) (n2 c2:Nat) (f:Int):bJ (bG true) 14 50 (wX true (gk o n c xs ys) q er s a2 n2 c2 f) bS (.v (.bool true))=[]:=by kernel_rfl
theorem KF (o n c:Nat) (xs ys:List SV) (er:Value) (s:Int) (a2:Option Addr) (n2 c2:Nat) (f:Int):au (bG true) 3 100 (Bh true (gk o n c xs ys) none er s a2 n2 c2 f) Jr (.bool true)=[Value.bool true=Value.bool true,True,(true==!f==0)=true,(true==!f==0)=true,(true==!f==0)=true,(true==!f==0)=true,(true==!f==0)=true]:=by kernel_rfl
theorem JR (o n c:Nat) (xs ys:List SV) (b:Nat) (er:Value) (s:Int) (a2:Option Addr) (n2 c2:Nat):bB (bG true) 16 100 (Bh true (gk o n c xs ys) (some ⟨b,0,none⟩) er s a2 n2 c2 0) bS=[]:=by kernel_rfl
theorem H8 (o n c:Nat) (xs ys:List SV) (b:Nat) (er:Value) (s:Int) (a2:Option Addr) (n2 c2:Nat):aR (bG true) 16 100 (Bh true (gk o n c xs ys) (some ⟨b,0,none⟩) er s a2 n2 c2 0) bS=aP (bG true) 16 [.v (.pointer (some ⟨b,0,none⟩))] .normal:=by kernel_rfl
theorem Ky (o n c:Nat) (xs ys:List SV) (b:Nat) (er:Value) (s:Int) (a2:Option Addr) (n2 c2:Nat) (v:Value):bJ (bG true) 16 100 (Bh true (gk o n c xs ys) (some ⟨b,0,none⟩) er s a2 n2 c2 0) bS (.v v)=[decide (a2=a2∧n2=n2∧c2=c2)=true]:=by kernel_rfl
theorem Kn (o n c:Nat) (xs ys:List SV) (b:Nat) (er:Value) (s:Int) (a2:Option Addr) (n2 c2:Nat) (v:Value):bB (bG true) 15 100 (DY true (gk o n c xs ys) (some ⟨b,0,none⟩) er s a2 n2 c2 0 v) bS=[]:=by kernel_rfl
theorem IB (o n c:Nat) (xs ys:List SV) (b:Nat) (er:Value) (s:Int) (a2:Option Addr) (n2 c2:Nat) (v:Value):aR (bG true) 15 100 (DY true (gk o n c xs ys) (some ⟨b,0,none⟩) er s a2 n2 c2 0 v) bS=aP (bG true) 15 [.v v,.v (.slice a2 n2 c2)] .normal:=by kernel_rfl
theorem Jz (o n c:Nat) (xs ys:List SV) (b:Nat) (er:Value) (s:Int) (a2:Option Addr) (n2 c2:Nat) (v:Value):bJ (bG true) 15 100 (DY true (gk o n c xs ys) (some ⟨b,0,none⟩) er s a2 n2 c2 0 v) bS (.v (.bool true))=[]:=by kernel_rfl
theorem JY (o n c:Nat) (xs ys:List SV) (b:Nat) (er:Value) (s:Int) (a2:Option Addr) (n2 c2:Nat) (v:Value):bB (bG true) 17 100 (FF true (gk o n c xs ys) (some ⟨b,0,none⟩) er s a2 n2 c2 0 v) bS=[]:=by kernel_rfl
theorem HQ (o n c:Nat) (xs ys:List SV) (b:Nat) (er:Value) (s:Int) (a2:Option Addr) (n2 c2:Nat) (v:Value):aR (bG true) 17 100 (FF true (gk o n c xs ys) (some ⟨b,0,none⟩) er s a2 n2 c2 0 v) bS=aP (bG true) 17 [.v (.pointer (some ⟨b,0,none⟩))] .normal:=by kernel_rfl
theorem Ll (o n c:Nat) (xs ys:List SV) (b:Nat) (er:Value) (s:Int) (a2:Option Addr) (n2 c2:Nat) (v:Value):bJ (bG true) 17 100 (FF true (gk o n c xs ys) (some ⟨b,0,none⟩) er s a2 n2 c2 0 v) bS (.v (.int .u64 s))=[(s==s)=true]:=by kernel_rfl
theorem Kr (o n c:Nat) (xs ys:List SV) (b:Nat) (er:Value) (s:Int) (a2:Option Addr) (n2 c2:Nat) (v:Value):au (bG true) 3 100 (J5 true (gk o n c xs ys) (some ⟨b,0,none⟩) er s a2 n2 c2 0 v) [(6,.b true),(8,.b true),(1000,.b true)] (.bool true)=[Value.bool true=Value.bool true,(s==s)=true,True,(s==s)=true]:=by kernel_rfl
end ez
end paths
end Go.Proofs.YtcbokmadfcedaaaGreatDoor
set_option linter.unusedSimpArgs false
set_option linter.unusedVariables false
set_option maxRecDepth 100000
namespace Go.Proofs.YtcbokmadfcedaaaGreatDoor
open Go Go.Rx Go.RowKit Go.Proofs Go.Sort
namespace paths
theorem uT {w:World} {x:Nat} (hx:w.heap[x]?=some (.cells #[.map none] 120 (0,0))):
  Calls Tryz.prog 138 #[.func (.func 140) #[] #[.pointer (some ⟨x,0,none⟩)]] w fun e w'=>e=.returned (.slice none 0 0)∧Below w.heap.size w w':=by
 have hxl:x<w.heap.size:=(Array.getElem?_eq_some_iff.1 hx).1
 have hseq:SeqGives Fence.wide 3 Tryz.prog 140 #[.pointer (some ⟨x,0,none⟩)] encStr (fun ss:List (List UInt8)=>ss=[]) 0 w:=
  AnyZ.keys_gives_nil (ρ:=lf) { uH with } Fence.wide 3 trivial rfl x w hxl (by rw [bZ hx];rfl)
 have h:=AnyZ.collect_in Ch Fence.wide 5 trivial trivial rfl (by omega) 140 #[.pointer (some ⟨x,0,none⟩)] trivial (enters_of Tryz.func140 (by kernel_rfl) rfl) _ 0 (by decide) (by omega) w hseq
 exact (callsIn_wide.1 h).mono fun e w' ⟨v,ss,he,hp,hrow,hnil,hb⟩=>⟨by rw [he,hnil.2 hp],hb⟩
theorem ym {w:World} {x:Nat} (hx:w.heap[x]?=some (.cells #[.map none] 120 (0,0))):
  Calls Tryz.prog 100 #[.func (.func 140) #[] #[.pointer (some ⟨x,0,none⟩)],.func (.func 102) #[] #[]] w fun e w'=>e=.returned (.slice none 0 0)∧Below w.heap.size w w':=by
 have hc:=uT hx
 clear hx
 go_enter Tryz.func100,Tryz.ntmps100
 go_wp2_with (first
  | (go_at_call 138;refine hc.mono ?_;rintro e W ⟨rfl,hb⟩)
  | (go_at_call 139;refine (AnyF.slices_SortFunc_none { ye with } none 0 _ W).mono ?_;rintro e w' ⟨rfl,rfl⟩))
 go_ret
 exact ⟨rfl,hb⟩
theorem Ar {w:World} {b:Nat} {s:Int} (hb:w.heap[b]?=some (.cells #[.int .u64 s,.map none] 122 (0,0))):
  Calls Tryz.prog 57 #[.pointer (some ⟨b,0,none⟩)] w fun e w'=>e=.returned (.slice none 0 0)∧Below w.heap.size w w':=by
 have h1:w.cell? ⟨b,1,none⟩=some (.map none):=by rw [bZ hb];rfl
 have hbl:Below w.heap.size w (w.alloc (.cells #[.map none] 120)):=(Below.refl _ _).alloc (Nat.le_refl _) _
 have cs:=ym (w:=w.alloc (.cells #[.map none] 120)) (x:=w.heap.size) (show (w.heap.push _)[w.heap.size]?=some _ by rw [Array.getElem?_push_size])
 have ck:=callsIn_wide.1 (AnyZ.keys_in uH Fence.wide 5 trivial rfl none w)
 clear hb
 go_enter Tryz.func57,Tryz.ntmps57
 go_wp2_with (first
  | (go_at_call 101;refine ck.mono ?_;rintro e w' ⟨rfl,rfl⟩)
  | (go_at_call 100;refine cs.mono ?_;rintro e w' ⟨rfl,hb2⟩))
 go_ret
 exact ⟨rfl,hbl.trans (hb2.mono hbl.size)⟩
def NZ (s:Int):Option (SO × Bool):=some (.row [.v (.int .u64 s),.v (.map none)] 122 (0,0) none,false)
def yJ:Jd:=fun args sh=>match args with
 | [.ptr i 0]=>match sh.look i with
  | some (.row [.v (.int .u64 s),.v u] t z x,_)=>some (.slice none 0 0,t=122∧z=(0,0)∧x=none∧u=.map none)
  | _=>none
 | _=>none
def LK:List (FuncId × Sum):=[(57,jA yJ)]
noncomputable def Jh:Env:={ EP [] [] with sums:=fun f=>LK.lookup f }
noncomputable def FA (s:Int):SM:=(aS Jh 16 [.ptr 0 0] (bc 6 1 0 [NZ s])).getD dx
theorem MZ (s:Int) (v:Value):au Jh 16 100 (FA s) [(1000,.b true)] v=[Value.slice none 0 0=v,122=122∧(0,0)=(0,0)∧nZ=none∧Value.map none=Value.map none]:=by kernel_rfl
theorem GN {w:World} {b:Nat} {s:Int} (hb:w.heap[b]?=some (.cells #[.int .u64 s,.map none] 122 (0,0))):∀ (j:Nat) (o':SO) (b' c':Nat),[SO.row [.v (.int .u64 s),.v (.map none)] 122 (0,0) none][j]?=some o'→[(b,0)][j]?=some (b',c')→∃ r,w.heap[b']?=some r∧OR (ax [(b,0)]) j o' r:=by
 intro j o' b' c' h1 h2
 match j with
 | 0=>
  simp only [List.getElem?_cons_zero,Option.some.injEq] at h1 h2
  subst h1
  cases h2
  exact ⟨_,hb,_,[],rfl,aj.cons (VR.ab.2 rfl) (aj.cons (VR.ab.2 rfl) aj.nil),rfl⟩
 | j+1=>simp at h1
theorem yC {X:World→Prop}:cF Tryz.prog X (57,jA yJ):=by
 refine mT ⟨_,Tryz.func57,by kernel_rfl,by kernel_rfl⟩ fun args sh v p h hp ν M w0 w a hr hX ha=>?_
 dsimp only [yJ] at h
 split at h
 ·rename_i i
  split at h
  ·rename_i s u t z x m1 hi
   cases h
   obtain ⟨rfl,rfl,rfl,rfl⟩:=hp
   obtain ⟨y1,as1,rfl,q1,ha2⟩:=ha.cons_inv
   obtain rfl:=ha2.aq
   obtain ⟨bb,hbb,rfl⟩:=VR.aw.1 q1
   obtain ⟨_,_,b,ob,hb,ho,hor,_⟩:=hr.look hi
   rw [hbb] at hb;cases hb
   obtain ⟨zs,rest,rfl,hzs,hl⟩:=hor
   obtain ⟨z1,u,rfl,r1,hu⟩:=hzs.cons_inv
   obtain ⟨z2,u2,rfl,r2,hu2⟩:=hu.cons_inv
   obtain rfl:=hu2.aq
   obtain rfl:=VR.ab.1 r1
   obtain rfl:=VR.ab.1 r2
   have h0:rest=[]:=by
    have:([Value.int .u64 s,Value.map none]++rest).length=2:=hl
    simpa using this
   subst h0
   exact (Ar ho).mono fun e w' ⟨he,hB⟩=>⟨hB,he⟩
  ·cases h
 ·cases h
theorem vq {w:World} {b:Nat} {s:Int} (hb:w.heap[b]?=some (.cells #[.int .u64 s,.map none] 122 (0,0))):
  Calls Tryz.prog 16 #[.pointer (some ⟨b,0,none⟩)] w fun e w'=>Below w.heap.size w w'∧e=.returned (.slice none 0 0):=by
 refine aY (E:=Jh) rfl (d:=6) (l:=[(b,0)]) (os:=[.row [.v (.int .u64 s),.v (.map none)] 122 (0,0) none]) rfl (by simp) (by simp) (GN hb) rfl (args:=[.ptr 0 0]) (a:=[.pointer (some ⟨b,0,none⟩)]) (S0:=FA s) (by kernel_rfl) (aj.cons (VR.aw.2 ⟨(b,0),rfl,rfl⟩) aj.nil) fun cs0=>?_
 have K:aE Jh (az [(b,0)] ([SO.row [.v (.int .u64 s),.v (.map none)] 122 (0,0) none].map fun o=>(o,false))) w:=
  aE.AR (Checked.mixed Tryz.checked) (by kernel_rfl) (eR.of ji rfl dL) (cV.list (X:=fun _=>True) (l:=LK) rfl (fun r h=>by
   rw [List.mem_singleton.1 h];exact yC) fun ν s w hr _=>trivial) (fun f g h=>by cases h)
 refine ao.au K (n:=100) (o:=[(1000,.b true)]) (v:=.slice none 0 0) ?_ fun ν' M1 w1 s' w' _ hB' hr=>⟨aG (fun z=>aO (os:=[_])) hB' hr,rfl⟩
 rw [MZ]
 simp only [af,and_self,and_true,true_and]
end paths
end Go.Proofs.YtcbokmadfcedaaaGreatDoor
set_option linter.unusedSimpArgs false
set_option linter.unusedVariables false
set_option maxRecDepth 100000
namespace Go.Proofs.YtcbokmadfcedaaaGreatDoor
open Go Go.Rx Go.RowKit Go.Proofs
namespace paths
namespace ez
theorem Is {X:World→Prop} (hl:bH Tryz.prog X (4,eT)) (hkp:∀ w0 w:World,X w0→(∀ k,k<w0.heap.size→w.heap[k]?=w0.heap[k]?)→X w) {g:Bool} {M0 M:Own} {w00 w0:World} (hM:∀ z,¬ M0 z) (hB:bk M0 w00 M w0) (hX:X w00):aE (bG g) M w0:=
 aE.AR (Checked.mixed Tryz.checked) (by cases g <;> kernel_rfl) (eR.of ji rfl dL) (cV.oI (X:=X) (l:=Jo g) rfl (fun r h=>by
  cases g
  ·simp only [Jo,cond_false,List.mem_cons,List.not_mem_nil,or_false] at h
   rcases h with rfl | rfl
   ·exact oX.t
   ·exact (cF.pure hl).t
  ·simp only [Jo,cond_true,List.mem_cons,List.not_mem_nil,or_false] at h
   rcases h with rfl | rfl | rfl
   ·exact oX.t
   ·exact (cF.pure hl).t
   ·exact Dj.t) fun ν s w hr _=>hkp _ _ hX fun k hk=>(hr.frame k (Nat.lt_of_lt_of_le hk hB.size) (hB.frame k hk (hM k)).2).trans (hB.frame k hk (hM k)).1) (fun f g h=>by cases h)
structure Tl (g:Bool) (L:Al) (d:SV):Prop where
 d0:cp (bB (bG g) 12 50 (SM.at gD 8 L) bS)
 t0:aR (bG g) 12 50 (SM.at gD 8 L) bS=aP (bG g) 12 [.ptr 1 0] .normal
 l0:∀ (i:Nat) so m,L[i]?=some (some (so,m))→fA (bG g) 12 50 (SM.at gD 8 L) bS i=some (so,m)
 d1:∀ q er,cp (bJ (bG g) 12 50 (SM.at gD 8 L) bS (.v (vS q er)))
 d2:∀ q er,cp (bB (bG g) 13 50 (yk g L q er) bS)
 t2:∀ q er,aR (bG g) 13 50 (yk g L q er) bS=aP (bG g) 13 [d] .normal
 l2:∀ q er (i:Nat) so m,L[i]?=some (some (so,m))→fA (bG g) 13 50 (yk g L q er) bS i=some (so,m)
 d3:∀ q er s a n c f,cp (bJ (bG g) 13 50 (yk g L q er) bS (.v (uC s a n c f)))
 d4:∀ q er s a n c f,cp (bB (bG g) 14 50 (wX g L q er s a n c f) bS)
 t4:∀ q er s a n c f,aR (bG g) 14 50 (wX g L q er s a n c f) bS=aP (bG g) 14 [.v er,.v (.int .i64 f),.v (.string bL),.v (.string bP)] .normal
 d5:∀ q er s a n c f,cp (bJ (bG g) 14 50 (wX g L q er s a n c f) bS (.v (.bool true)))
 d6:∀ er s a n c f,f≠0→cp (Go.Rx.au (bG g) 3 100 (Bh g L none er s a n c f) Jr (.bool true))
structure Tb (g:Bool) (L:Al):Prop where
 d0:∀ b er s a n c,cp (bB (bG g) 16 100 (Bh g L (some ⟨b,0,none⟩) er s a n c 0) bS)
 t0:∀ b er s a n c,aR (bG g) 16 100 (Bh g L (some ⟨b,0,none⟩) er s a n c 0) bS=aP (bG g) 16 [.v (.pointer (some ⟨b,0,none⟩))] .normal
 d1:∀ b er s a n c v,cp (bJ (bG g) 16 100 (Bh g L (some ⟨b,0,none⟩) er s a n c 0) bS (.v v))
 d2:∀ b er s a n c v,cp (bB (bG g) 15 100 (DY g L (some ⟨b,0,none⟩) er s a n c 0 v) bS)
 t2:∀ b er s a n c v,aR (bG g) 15 100 (DY g L (some ⟨b,0,none⟩) er s a n c 0 v) bS=aP (bG g) 15 [.v v,.v (.slice a n c)] .normal
 l2:∀ b er s a n c v (i:Nat) so m,L[i]?=some (some (so,m))→fA (bG g) 15 100 (DY g L (some ⟨b,0,none⟩) er s a n c 0 v) bS i=some (so,m)
 d3:∀ b er s a n c v,cp (bJ (bG g) 15 100 (DY g L (some ⟨b,0,none⟩) er s a n c 0 v) bS (.v (.bool true)))
 d4:∀ b er s a n c v,cp (bB (bG g) 17 100 (FF g L (some ⟨b,0,none⟩) er s a n c 0 v) bS)
 t4:∀ b er s a n c v,aR (bG g) 17 100 (FF g L (some ⟨b,0,none⟩) er s a n c 0 v) bS=aP (bG g) 17 [.v (.pointer (some ⟨b,0,none⟩))] .normal
 d5:∀ b er s a n c v,cp (bJ (bG g) 17 100 (FF g L (some ⟨b,0,none⟩) er s a n c 0 v) bS (.v (.int .u64 s)))
 d6:∀ b er s a n c v,cp (Go.Rx.au (bG g) 3 100 (J5 g L (some ⟨b,0,none⟩) er s a n c 0 v) [(6,.b true),(8,.b true),(1000,.b true)] (.bool true))
theorem lh {g:Bool} {M:Own} {w0:World} {cs0:List Frame} {f:FuncId} {R:Ending→World→Prop} {ν:aA} (K:aE (bG g) M w0) {H0 H:Hp} {M00:Own} {w00:World} (hk:Kept H0 M00 w00 H M w0) {n:Nat} {h:FuncId} {S:SM} {o:List (Nat × c9)} {args:List SV} (hd:cp (bB (bG g) h n S o)) (hG:aR (bG g) h n S o=aP (bG g) h args .normal)
  (hc:∀ ν' w a,ν.Le ν'→H.Sub w.hp→GR ν' (bG g)→aj ν' args a→(∀ i so m,fA (bG g) h n S o i=some (so,m)→∃ b o,ν' i=some b∧w.heap[b.1]?=some o∧OR ν' i so o)→Calls Tryz.prog h a.toArray w fun e w'=>Below w.heap.size w w'∧∃ y,e=.returned y∧(∀ M2,Kept H0 M00 w00 (H.grow w w') M2 w'→
   cp (bJ (bG g) h n S o (.v y))∧ao (bG g) M2 w' cs0 f R ν (cK (bG g) h n S o (.v y)))):ao (bG g) M w0 cs0 f R ν S:=
 ao.Gb K hk hd.out hG fun ν' w a hle hs hg ha hl=>(hc ν' w a hle hs hg ha hl).mono fun e w' ⟨hB,y,he,h⟩=>⟨hB,y,he,fun M2 hK=>⟨(h M2 hK).1.out,(h M2 hK).2⟩⟩
theorem Hf {g:Bool} {M:Own} {w0:World} {cs0:List Frame} {f:FuncId} {R:Ending→World→Prop} {ν:aA} (K:aE (bG g) M w0) {n:Nat} {St:SM} {o:List (Nat × c9)} {v:Value} (h:cp (Go.Rx.au (bG g) f n St o v)) (hR:∀ ν' M1 w1 s' w',ν.Le ν'→bk M w0 M1 w1→HR ν' M1 w1 s' w'→R (.returned v) w'):ao (bG g) M w0 cs0 f R ν St:=ao.au K h.out hR
def Bj (L:Al) (ν:aA) (w:World):Prop:=∀ (i:Nat) so m,L[i]?=some (some (so,m))→∃ b o,ν i=some b∧w.heap[b.1]?=some o∧OR ν i so o
def Fb (W:World) (e:Ending) (w':World):Prop:=e=.returned (.bool true)∧Below W.heap.size W w'
theorem Bf {E:Env} {M:Own} {w0:World} {cs0:List Frame} {f:FuncId} {R:Ending→World→Prop} {ν:aA} {S:SM} {j:Nat} {x:SO × Bool} (hj:S.mem.look j=some x) (hs:∀ ν1 b,ν.Le ν1→ν1 j=some b→ao E M w0 cs0 f R ν1 S):ao E M w0 cs0 f R ν S:=by
 intro ν' m M1 w1 hle hB hm
 have hm':=hm
 obtain ⟨fr,cs,w,hl,rfl,hr,_⟩:=hm
 obtain ⟨_,_,b,_,hb,_⟩:=hr.look hj
 exact hs ν' b hle hb ν' _ M1 w1 (aA.Le.refl _) hB hm'
section
variable {W:World} {M:Own} {cs0:List Frame} {ν:aA} {g:Bool} {L:Al} {d:SV} {r:Int × Nat × List c7}
theorem od {H:Hp} {w w' w2:World} {b:Nat} {o:Obj} (hs:(H.grow w w').Sub w2.hp) (hb:w.heap.size≤b) (h:w'.heap[b]?=some o):w2.heap[b]?=some o:=hs _ _ (eP hb h)
theorem Cb (T:Tl g L d) (hM:∀ z,¬ M z) (K:∀ {M1 w1},bk M W M1 w1→aE (bG g) M1 w1) (hT:fY W) (h0:r.1≠0) {b:Nat} {s:Int} {a:Option Addr} {n c:Nat} {H:Hp} {M1:Own} {w1:World} (hk:Kept W.hp M W H M1 w1)
  (hE:∀ w:World,H.Sub w.hp→IT w b r.1):ao (bG g) M1 w1 cs0 3 (Fb W) ν (wX g L none (kB b) s a n c r.1):=by
 refine lh (K hk.base) hk (T.d4 none (kB b) s a n c r.1) (T.t4 none (kB b) s a n c r.1) fun ν3 w aa hle hsub hgr ha _=>?_
 obtain ⟨y1,as1,rfl,q1,ha⟩:=ha.cons_inv
 obtain ⟨y2,as2,rfl,q2,ha⟩:=ha.cons_inv
 obtain ⟨y3,as3,rfl,q3,ha⟩:=ha.cons_inv
 obtain ⟨y4,as4,rfl,q4,ha⟩:=ha.cons_inv
 obtain rfl:=ha.aq
 obtain rfl:=VR.ab.1 q1
 obtain rfl:=VR.ab.1 q2
 obtain rfl:=VR.ab.1 q3
 obtain rfl:=VR.ab.1 q4
 refine (wy (W:=w) (hT.cr (a8 hk.sub0 hsub)) h0 (hE w hsub)).mono fun e w' ⟨hB,he⟩=>⟨hB,_,he,fun M2 hK2=>⟨T.d5 none (kB b) s a n c r.1,?_⟩⟩
 show ao (bG g) M2 w' cs0 _ _ _ (Bh g L none (kB b) s a n c r.1)
 exact Hf (K hK2.base) (T.d6 (kB b) s a n c r.1 h0) fun ν' M5 w5 s' w'' _ hB5 hr5=>⟨rfl,aG hM (hK2.base.trans hB5) hr5⟩
end
section
variable {W:World} {M:Own} {cs0:List Frame} {ν:aA} {g:Bool} {L:Al} {d:SV} {r:Int × Nat × List c7}
theorem EJ (T:Tl g L d) (Tb:Tb g L) (hM:∀ z,¬ M z) (K:∀ {M1 w1},bk M W M1 w1→aE (bG g) M1 w1) (hT:fY W) {b:Nat} {s:Int} {a:Option Addr} {n c:Nat} {H:Hp} {M1:Own} {w1:World} (hk:Kept W.hp M W H M1 w1)
  (hent:∀ w:World,H.Sub w.hp→Calls Tryz.prog 16 #[.pointer (some ⟨b,0,none⟩)] w fun e w'=>Below w.heap.size w w'∧∃ v,e=.returned v∧∀ (ν2:aA) (w2:World),ν.Le ν2→Bj L ν2 w2→(H.grow w w').Sub w2.hp→
   Calls Tryz.prog 15 #[v,.slice a n c] w2 fun e w'=>Below w2.heap.size w2 w'∧e=.returned (.bool true))
  (hses:∀ w:World,H.Sub w.hp→Calls Tryz.prog 17 #[.pointer (some ⟨b,0,none⟩)] w fun e w'=>Below w.heap.size w w'∧e=.returned (.int .u64 s)):
  ao (bG g) M1 w1 cs0 3 (Fb W) ν (wX g L (some ⟨b,0,none⟩) .nilIface s a n c 0):=by
 refine lh (K hk.base) hk (T.d4 (some ⟨b,0,none⟩) .nilIface s a n c 0) (T.t4 (some ⟨b,0,none⟩) .nilIface s a n c 0) fun ν3 w aa hle hsub hgr ha _=>?_
 obtain ⟨y1,as1,rfl,q1,ha⟩:=ha.cons_inv
 obtain ⟨y2,as2,rfl,q2,ha⟩:=ha.cons_inv
 obtain ⟨y3,as3,rfl,q3,ha⟩:=ha.cons_inv
 obtain ⟨y4,as4,rfl,q4,ha⟩:=ha.cons_inv
 obtain rfl:=ha.aq
 obtain rfl:=VR.ab.1 q1
 obtain rfl:=VR.ab.1 q2
 obtain rfl:=VR.ab.1 q3
 obtain rfl:=VR.ab.1 q4
 refine (AK (W:=w) (hT.cr (a8 hk.sub0 hsub))).mono fun e w' ⟨hB,he⟩=>⟨hB,_,he,fun M2 hK2=>⟨T.d5 (some ⟨b,0,none⟩) .nilIface s a n c 0,?_⟩⟩
 have s1:H.Sub (H.grow w w'):=Hp.cT hsub
 show ao (bG g) M2 w' cs0 _ _ _ (Bh g L (some ⟨b,0,none⟩) .nilIface s a n c 0)
 refine lh (K hK2.base) hK2 (Tb.d0 b .nilIface s a n c) (Tb.t0 b .nilIface s a n c) fun ν4 w2 aa hle2 hsub2 hgr2 ha2 _=>?_
 obtain ⟨y1,as1,rfl,q1,ha2⟩:=ha2.cons_inv
 obtain rfl:=ha2.aq
 obtain rfl:=VR.ab.1 q1
 refine (hent w2 (s1.trans hsub2)).mono fun e w3 ⟨hB3,v,II,hsame⟩=>⟨hB3,_,II,fun M3 hK3=>⟨Tb.d1 b .nilIface s a n c v,?_⟩⟩
 have s2:(H.grow w w').Sub ((H.grow w w').grow w2 w3):=Hp.cT hsub2
 have s3:(H.grow w2 w3).Sub ((H.grow w w').grow w2 w3):=fun k o hko=>by
  unfold Hp.grow at hko ⊢
  split at hko
  ·rename_i hlt
   rw [if_pos hlt]
   exact s1 _ _ hko
  ·rename_i hlt
   rw [if_neg hlt]
   exact hko
 show ao (bG g) M3 w3 cs0 _ _ _ (DY g L (some ⟨b,0,none⟩) .nilIface s a n c 0 v)
 refine lh (K hK3.base) hK3 (Tb.d2 b .nilIface s a n c v) (Tb.t2 b .nilIface s a n c v) fun ν5 w4 aa hle3 hsub3 hgr3 ha3 hl3=>?_
 have hlk:Bj L ν5 w4:=fun i so m hi=>hl3 i so m (Tb.l2 b .nilIface s a n c v i so m hi)
 obtain ⟨yv,as1,rfl,q1,ha3⟩:=ha3.cons_inv
 obtain ⟨y2,as2,rfl,q2,ha3⟩:=ha3.cons_inv
 obtain rfl:=ha3.aq
 obtain rfl:=VR.ab.1 q1
 obtain rfl:=VR.ab.1 q2
 refine (hsame ν5 w4 hle3 hlk (s3.trans hsub3)).mono fun e w5 ⟨hB5,LD⟩=>⟨hB5,_,LD,fun M5 hK5=>⟨Tb.d3 b .nilIface s a n c yv,?_⟩⟩
 have s4:=Hp.cT (w:=w4) (w':=w5) hsub3
 show ao (bG g) M5 w5 cs0 _ _ _ (FF g L (some ⟨b,0,none⟩) .nilIface s a n c 0 yv)
 refine lh (K hK5.base) hK5 (Tb.d4 b .nilIface s a n c yv) (Tb.t4 b .nilIface s a n c yv) fun ν6 w6 aa hle4 hsub4 hgr4 ha4 _=>?_
 obtain ⟨y1,as1,rfl,q1,ha4⟩:=ha4.cons_inv
 obtain rfl:=ha4.aq
 obtain rfl:=VR.ab.1 q1
 refine (hses w6 (((s1.trans s2).trans s4).trans hsub4)).mono fun e w7 ⟨hB7,he7⟩=>⟨hB7,_,he7,fun M7 hK7=>⟨Tb.d5 b .nilIface s a n c yv,?_⟩⟩
 show ao (bG g) M7 w7 cs0 _ _ _ (J5 g L (some ⟨b,0,none⟩) .nilIface s a n c 0 yv)
 exact Hf (K hK7.base) (Tb.d6 b .nilIface s a n c yv) fun ν' M9 w9 s' w'' _ hB9 hr9=>⟨rfl,aG hM (hK7.base.trans hB9) hr9⟩
end
section
variable {W:World} {M:Own} {cs0:List Frame} {ν:aA} {g:Bool} {L:Al} {d:SV} {r:Int × Nat × List c7}
theorem De {E:List bK} {l:List c7} {H:Hp} (h:E.map (KM (dp H))=l.map rC):∀ e∈E,∃ y∈l,dp H e.1=y.2.2.2:=fun e he=>by
 have:KM (dp H) e∈l.map rC:=by rw [← h];exact List.mem_map.2 ⟨e,he,rfl⟩
 obtain ⟨y,hy,hk⟩:=List.mem_map.1 this
 refine ⟨y,hy,?_⟩
 have hk:(y.1,(y.2.1:Int),(y.2.2.1:Int),y.2.2.2)=(e.1.p,e.1.v,e.1.k,dp H e.1):=hk
 simp only [Prod.mk.injEq] at hk
 exact hk.2.2.2.symm
theorem vw {S:Src}:∀ {xs:List aD} {ys:List c7},iI S xs ys→∀ y∈ys,y.2.2.2.length≤4096
 | [],[],_,y,hy=>by cases hy
 | a::xs,b::ys,h,y,hy=>by
  rcases List.mem_cons.1 hy with rfl | hy
  ·exact h.1.2.2.2.1.dF
  ·exact vw h.2 y hy
 | [],b::ys,h,_,_=>h.elim
 | a::xs,[],h,_,_=>h.elim
theorem vD {W0 w w2:World} {x:aD} {zs:List Int} (h:dg w.hp x zs) (hn:wM W0 x) (hk:∀ b o,W0.heap.size≤b→w.heap[b]?=some o→w2.heap[b]?=some o):dg w2.hp x zs:=by
 rcases h with h | ⟨b,rest,h1,h2,h3⟩
 ·exact .inl h
 ·exact .inr ⟨b,rest,h1,hk _ _ (hn _ h1) h2,h3⟩
theorem E7 {w w':World} {a:Option Addr} {l:Nat} {zs:List Int} (h:iV w a l zs) (hk:∀ ad o,a=some ad→w.heap[ad.block]?=some o→w'.heap[ad.block]?=some o):iV w' a l zs:=by
 by_cases hl:l=0
 ·subst hl
  have:zs=[]:=List.length_eq_zero_iff.1 h.1.1
  subst this
  exact eye.lM _ _
 ·cases a with
  | none=>exact absurd (h.2 rfl) hl
  | some ad=>
   obtain ⟨cs,e,fz,hb,hh,hoff,hc⟩:=crc.cells_obj h.1 (by omega)
   have:=eye.kj (w:=w') (zs:=zs) (hk ad _ rfl hh) hc (by rw [h.1.1];exact h.1.2.1)
   rw [h.1.1,← hb] at this
   exact this
theorem ks (T:Tl g L d) (TB:r.1=0→Tb g L) (hM:∀ z,¬ M z) (K:∀ {M1 w1},bk M W M1 w1→aE (bG g) M1 w1) (hm:MX W) (hT:fY W) (hord:r.1=0→r.2.2.Pairwise fun x y=>bF x.1 y.1<0) (S:Src) {H:Hp} {M1:Own} {w1:World} (hk:Kept W.hp M W H M1 w1)
  (hload:∀ (ν':aA) (w:World),ν.Le ν'→W.hp.Sub w.hp→Bj L ν' w→∀ y,VR ν' (.ptr 1 0) y→Calls Tryz.prog 12 #[y] w (GZ w r))
  (href:∀ (ν':aA) (w:World),ν.Le ν'→W.hp.Sub w.hp→Bj L ν' w→∀ y,VR ν' d y→Calls Tryz.prog 13 #[y] w (Bk S w r.2.1 (r.1,r.2.2)))
  (hsrc:r.1=0→∀ (ν':aA) (w:World),ν.Le ν'→W.hp.Sub w.hp→Bj L ν' w→XS S w):
  ao (bG g) M1 w1 cs0 3 (Fb W) ν (SM.at gD 8 L):=by
 refine lh (K hk.base) hk T.d0 T.t0 fun ν1 w ya hle hsub hgr ha hl=>?_
 obtain ⟨y1,as1,rfl,q1,ha⟩:=ha.cons_inv
 obtain rfl:=ha.aq
 refine (hload ν1 w hle (hk.sub0.trans hsub) (fun i so m h=>hl i so m (T.l0 i so m h)) y1 q1).mono fun e w' hR=>?_
 obtain ⟨q,er,rfl⟩:∃ q er,e=.returned (vS q er):=by
  rcases hR.2 with ⟨_,b,he,_⟩ | ⟨_,q,he,_⟩ <;> exact ⟨_,_,he⟩
 refine ⟨hR.1,_,rfl,fun M2 hK2=>⟨T.d1 q er,?_⟩⟩
 have s1:H.Sub (H.grow w w'):=Hp.cT hsub
 show ao (bG g) M2 w' cs0 _ _ _ (yk g L q er)
 refine lh (K hK2.base) hK2 (T.d2 q er) (T.t2 q er) fun ν2 w2 ya hle2 hsub2 hgr2 ha2 hl2=>?_
 obtain ⟨y2,as2,rfl,q2,ha2⟩:=ha2.cons_inv
 obtain rfl:=ha2.aq
 refine (href ν2 w2 hle2 (hK2.sub0.trans hsub2) (fun i so m h=>hl2 i so m (T.l2 q er i so m h)) y2 q2).mono fun e2 w3 hR2=>?_
 obtain ⟨s3,a3,n3,c3,f3,rfl⟩:∃ s a n c f,e2=.returned (uC s a n c f):=by
  rcases hR2.2 with ⟨_,he⟩ | ⟨_,_,he⟩ | ⟨_,_,_,_,_,_,_,he,_⟩ <;> exact ⟨_,_,_,_,_,he⟩
 refine ⟨hR2.1,_,rfl,fun M3 hK3=>⟨T.d3 q er s3 a3 n3 c3 f3,?_⟩⟩
 have s2:(H.grow w w').Sub ((H.grow w w').grow w2 w3):=Hp.cT hsub2
 show ao (bG g) M3 w3 cs0 _ _ _ (wX g L q er s3 a3 n3 c3 f3)
 by_cases h0:r.1=0
 ·have TB:=TB h0
  obtain ⟨_,⟨h,_⟩ | ⟨_,q',he,hB⟩⟩:=hR
  ·exact absurd h0 h
  obtain ⟨rfl,rfl⟩:q=q'∧er=.nilIface:=by
   have:=Ending.returned.inj he
   unfold vS at this
   simp only [Value.tuple.injEq,Array.mk.injEq,List.cons.injEq,Value.pointer.injEq,and_true] at this
   exact this
  obtain ⟨hBel,⟨h,_⟩ | ⟨_,b,hb,wY,hbk⟩⟩:=hB
  ·exact absurd h0 h
  obtain rfl:q=some ⟨b,0,none⟩:=by
   have:=Ending.returned.inj wY
   simp only [Value.tuple.injEq,Array.mk.injEq,List.cons.injEq,Value.pointer.injEq,and_true] at this
   exact this
  have kp:∀ w4:World,((H.grow w w').grow w2 w3).Sub w4.hp→∀ b o,w.heap.size≤b→w'.heap[b]?=some o→w4.heap[b]?=some o:=fun w4 h4 b o hb ho=>od (s2.trans h4) hb ho
  have kr:∀ w4:World,((H.grow w w').grow w2 w3).Sub w4.hp→∀ b o,w2.heap.size≤b→w3.heap[b]?=some o→w4.heap[b]?=some o:=fun w4 h4 b o hb ho=>od h4 hb ho
  have hmx:∀ w4:World,((H.grow w w').grow w2 w3).Sub w4.hp→MX w4:=fun w4 h4=>hm.cr (a8 (Hp.Sub.refl _) (hK3.sub0.trans h4))
  obtain ⟨hf3,hss3,hd3⟩:f3=0∧s3=r.2.1∧((r.2.2=[]∧a3=none∧n3=0∧c3=0)∨∃ b2 xs rest fz,w2.heap.size≤b2∧a3=some ⟨b2,0,none⟩∧n3=xs.length∧w3.heap[b2]?=some (.cells (vE xs++rest).toArray Ic fz)∧xs≠[]∧xs.length≤256∧iI S xs r.2.2∧xs.length≤c3):=by
   obtain ⟨_,h | ⟨_,hn,he⟩ | ⟨_,b2,c,xs,rest,fz,hb2,he,hh,h1,h2,h3⟩⟩:=hR2
   ·exact absurd h0 h.1
   ·have:=Ending.returned.inj he
    unfold uC at this
    simp only [Value.tuple.injEq,Array.mk.injEq,List.cons.injEq,Value.agg.injEq,Value.int.injEq,Value.slice.injEq,and_true,true_and] at this
    obtain ⟨⟨h1,h2,h3,h4⟩,h5⟩:=this
    exact ⟨h5,h1,.inl ⟨hn,h2,h3,h4⟩⟩
   ·have:=Ending.returned.inj he
    unfold uC at this
    simp only [Value.tuple.injEq,Array.mk.injEq,List.cons.injEq,Value.agg.injEq,Value.int.injEq,Value.slice.injEq,and_true,true_and] at this
    obtain ⟨⟨q1,q2,q3,q4⟩,q5⟩:=this
    exact ⟨q5,q1,.inr ⟨b2,xs,rest,fz,hb2,q2,q3,hh,h1,h2,h3.1,by rw [q4];exact h3.2⟩⟩
  subst hf3 hss3
  refine EJ T TB hM K hT hK3 (fun w4 h4=>?_) (fun w4 h4=>?_)
  ·rcases hbk with ⟨hn,hrow⟩ | ⟨m,E,cl,hmn,hA,hBO,hkeys,hdat,hfew⟩
   ·refine (vq (kp w4 h4 b _ hb hrow)).mono fun e w5 ⟨hB5,he⟩=>⟨hB5,_,he,fun ν5 w6 hle6 hlk6 h6=>?_⟩
    rcases hd3 with ⟨_,rfl,rfl,rfl⟩ | ⟨b2,xs,rest,fz,_,_,_,_,hne,_,hall,_⟩
    ·exact p9
    ·have hn:r.2.2=[]:=hn
     rw [hn] at hall
     exact absurd (List.length_eq_zero_iff.1 (lS hall).1) hne
   ·have hne:b≠m:=fun h=>by
     have h1:=hA.row
     have h2:=hA.map
     rw [h,h2] at h1;cases h1
    have hA4:gq w4 b m r.2.1 E cl:=⟨kp w4 h4 b _ hb hA.row,kp w4 h4 m _ hmn hA.map⟩
    have hkeys:E.map (KM (dp w'.hp))=r.2.2.map rC:=hkeys
    rcases hd3 with ⟨hn,rfl,rfl,rfl⟩ | ⟨b2,xs,rest,fz,hb2,rfl,rfl,hh,hxn,hxf,hall,hcap⟩
    ·have hE:E=[]:=by rw [hn] at hkeys;simpa using hkeys
     subst hE
     refine (kG (cm:=fun _=>[]) (hmx w4 h4) hA4 hne hBO (fun e he=>nomatch he) (by simp)).mono fun e w5 ⟨hB5,v,he,hv⟩=>⟨hB5,v,he,fun ν5 w6 _ _ h6=>?_⟩
     rcases hv with ⟨_,rfl⟩ | ⟨zs,hz,hzp,_⟩
     ·exact p9
     ·have:=congrArg List.length hzp
      rw [List.length_map,(cO _).length_eq] at this
      exact absurd (List.length_eq_zero_iff.1 this) hz
    ·have hdd:∀ e∈E,iV w4 e.1.a e.1.l (dp w'.hp e.1):=fun e he=>by
      obtain ⟨us,h1,h2⟩:=hdat e he
      obtain ⟨y,hy,hcy⟩:=De hkeys e he
      have hle:=vw hall y hy
      rw [← hcy,h1.cont] at hle
      rw [h1.cont]
      exact (vD h1 h2 fun b o hb ho=>kp w4 h4 b o hb ho).xM (by omega)
     refine (kG (cm:=dp w'.hp) (hmx w4 h4) hA4 hne hBO hdd (by omega)).mono fun e w5 ⟨hB5,v,he,hv⟩=>⟨hB5,v,he,fun ν5 w6 hle6 hlk6 h6=>?_⟩
     have h36:=(Hp.cT (w:=w4) (w':=w5) h4).trans h6
     have hXS:=hsrc h0 ν5 w6 hle6 (hK3.sub0.trans h36) hlk6
     have hlen:xs.length=r.2.2.length:=(lS hall).1
     have hEl:E.length=r.2.2.length:=by have:=congrArg List.length hkeys;simpa using this
     rcases hv with ⟨h,_⟩ | ⟨zs,hz,hzp,hnew,hzd⟩
     ·have:=congrArg List.length h
      rw [(cO _).length_eq,List.length_map] at this
      exact absurd (List.length_eq_zero_iff.1 (by rw [hlen,← hEl,this];rfl)) hxn
     ·obtain ⟨g1,c1,rest1,rfl,hg1,hc1,hg,_⟩:=hnew
      have hd6:∀ x∈zs,∃ us,(x.v,x.k,us)=kL (dp w'.hp) (E.map (·.1)) x.p∧iV w6 x.a x.l us:=fun x hx=>by
       obtain ⟨us,h1,h2,h3⟩:=hzd x hx
       exact ⟨us,h1,E7 h2 fun ad o hx ho=>od h6 (h3 ad hx) ho⟩
      obtain ⟨hzl,hsm⟩:=Eh hkeys hzp hd6 hall hXS (hord h0)
      have hb6:=kr w6 h36 b2 _ hb2 hh
      have hb4:=(Array.getElem?_eq_some_iff.1 (kr w4 h4 b2 _ hb2 hh)).1
      rw [← hzl]
      exact tM (fun h=>by omega) (od h6 hg1 hg) hb6 hc1 (by omega) (by omega) hzl hsm
  ·have hrow:∃ v,w'.heap[b]?=some (.cells #[.int .u64 r.2.1,v] 122 (0,0)):=by
    rcases hbk with ⟨_,h⟩ | ⟨m,E,cl,_,hA,_⟩
    ·exact ⟨_,h⟩
    ·exact ⟨_,hA.row⟩
   obtain ⟨v,hrow⟩:=hrow
   exact rW (kp w4 h4 b _ hb hrow)
 ·obtain ⟨_,⟨_,b,he,hE⟩ | ⟨h,_⟩⟩:=hR
  ·obtain ⟨rfl,rfl⟩:q=none∧er=kB b:=by
    have:=Ending.returned.inj he
    unfold vS at this
    simp only [Value.tuple.injEq,Array.mk.injEq,List.cons.injEq,Value.pointer.injEq,and_true] at this
    exact this
   obtain rfl:f3=r.1:=by
    obtain ⟨_,h | h | h⟩:=hR2
    ·have:=Ending.returned.inj h.2
     unfold uC at this
     simp only [Value.tuple.injEq,Array.mk.injEq,List.cons.injEq,Value.int.injEq,and_true,true_and] at this
     exact this.2
    ·exact absurd h.1 h0
    ·exact absurd h.1 h0
   obtain ⟨u,b',v,⟨z1,z2,z3,z4⟩,e1,e2,e3,e4⟩:=hE
   exact Cb T hM K hT h0 hK3 fun w4 h4=>⟨u,b',od (s2.trans h4) z1 e1,od (s2.trans h4) z2 e2,v,od (s2.trans h4) z3 e3,od (s2.trans h4) z4 e4⟩
  ·exact absurd h h0
end
theorem Bn {f:Int} (h:f≠0):(true==!f==(0:Int))=true:=by simp [h]
theorem O4:Tl false oS (.agg [.v (.slice none 0 0),.v (.int .i64 0),.v (.int .i64 10000),.v (.int .i64 (-1)),.sl 7 0 1 none,.aM,.v (.int .i64 (-1)),.v (.slice none 0 0),.v (.int .u64 0)]) where
 d0:=ah (JF ()) (by simp [af])
 t0:=IL ()
 l0:=fun i so m h=>by
  match i with
  | 0=>cases h
  | 1=>cases h;show _=_;kernel_rfl
  | 2=>cases h;show _=_;kernel_rfl
  | 3=>cases h;show _=_;kernel_rfl
  | 4=>cases h
  | 5=>cases h
  | 6=>cases h;show _=_;kernel_rfl
  | 7=>cases h;show _=_;kernel_rfl
  | i+8=>cases h
 d1:=fun q er=>ah (Kw q er) (by simp [af])
 d2:=fun q er=>ah (LB q er) (by simp [af])
 t2:=fun q er=>Ja q er
 l2:=fun q er i so m h=>by
  match i with
  | 0=>cases h
  | 1=>cases h;show _=_;kernel_rfl
  | 2=>cases h;show _=_;kernel_rfl
  | 3=>cases h;show _=_;kernel_rfl
  | 4=>cases h
  | 5=>cases h
  | 6=>cases h;show _=_;kernel_rfl
  | 7=>cases h;show _=_;kernel_rfl
  | i+8=>cases h
 d3:=fun q er s a2 n2 c2 f=>ah (Ln q er s a2 n2 c2 f) (by simp [af])
 d4:=fun q er s a2 n2 c2 f=>ah (Kv q er s a2 n2 c2 f) True.intro
 t4:=fun q er s a2 n2 c2 f=>Ij q er s a2 n2 c2 f
 d5:=fun q er s a2 n2 c2 f=>ah (Lr q er s a2 n2 c2 f) (by simp [af])
 d6:=fun er s a2 n2 c2 f hf=>ah (Lg er s a2 n2 c2 f) (by simp only [af,Bn hf,and_self])
theorem LM (x:Option (SO × Bool)):Tl false (nq x) (.agg [.sl 9 0 1 none,.v (.int .i64 1),.v (.int .i64 10000),.v (.int .i64 (-1)),.sl 7 0 1 none,.aM,.v (.int .i64 (-1)),.v (.slice none 0 0),.v (.int .u64 0)]) where
 d0:=ah (LH x) (by simp [af])
 t0:=I6 x
 l0:=fun i so m h=>by
  match i with
  | 0=>
   obtain rfl:x=some (so,m):=Option.some.inj h
   show _=_
   kernel_rfl
  | 1=>cases h;show _=_;kernel_rfl
  | 2=>cases h;show _=_;kernel_rfl
  | 3=>cases h;show _=_;kernel_rfl
  | 4=>cases h;show _=_;kernel_rfl
  | 5=>cases h
  | 6=>cases h;show _=_;kernel_rfl
  | 7=>cases h;show _=_;kernel_rfl
  | 8=>cases h;show _=_;kernel_rfl
  | 9=>cases h;show _=_;kernel_rfl
  | i+10=>cases h
 d1:=fun q er=>ah (JS x q er) (by simp [af])
 d2:=fun q er=>ah (Lv x q er) (by simp [af])
 t2:=fun q er=>Io x q er
 l2:=fun q er i so m h=>by
  match i with
  | 0=>
   obtain rfl:x=some (so,m):=Option.some.inj h
   show _=_
   kernel_rfl
  | 1=>cases h;show _=_;kernel_rfl
  | 2=>cases h;show _=_;kernel_rfl
  | 3=>cases h;show _=_;kernel_rfl
  | 4=>cases h;show _=_;kernel_rfl
  | 5=>cases h
  | 6=>cases h;show _=_;kernel_rfl
  | 7=>cases h;show _=_;kernel_rfl
  | 8=>cases h;show _=_;kernel_rfl
  | 9=>cases h;show _=_;kernel_rfl
  | i+10=>cases h
 d3:=fun q er s a2 n2 c2 f=>ah (Kh x q er s a2 n2 c2 f) (by simp [af])
 d4:=fun q er s a2 n2 c2 f=>ah (JA x q er s a2 n2 c2 f) True.intro
 t4:=fun q er s a2 n2 c2 f=>Ib x q er s a2 n2 c2 f
 d5:=fun q er s a2 n2 c2 f=>ah (Lu x q er s a2 n2 c2 f) (by simp [af])
 d6:=fun er s a2 n2 c2 f hf=>ah (Kp x er s a2 n2 c2 f) (by simp only [af,Bn hf,and_self])
theorem Ml {o n c:Nat} {xs ys:List SV}:Tl true (gk o n c xs ys) (.agg [.sl 9 0 1 none,.v (.int .i64 1),.v (.int .i64 10000),.v (.int .i64 (-1)),.sl 7 0 1 none,.aM,.v (.int .i64 (-1)),.v (.slice none 0 0),.v (.int .u64 0)]) where
 d0:=ah (JG o n c xs ys) (by simp [af])
 t0:=H7 o n c xs ys
 l0:=fun i so m h=>by
  match i with
  | 0=>cases h;show _=_;kernel_rfl
  | 1=>cases h;show _=_;kernel_rfl
  | 2=>cases h;show _=_;kernel_rfl
  | 3=>cases h;show _=_;kernel_rfl
  | 4=>cases h;show _=_;kernel_rfl
  | 5=>cases h;show _=_;kernel_rfl
  | 6=>cases h;show _=_;kernel_rfl
  | 7=>cases h;show _=_;kernel_rfl
  | 8=>cases h;show _=_;kernel_rfl
  | 9=>cases h;show _=_;kernel_rfl
  | i+10=>cases h
 d1:=fun q er=>ah (JL o n c xs ys q er) (by simp [af])
 d2:=fun q er=>ah (KY o n c xs ys q er) (by simp [af])
 t2:=fun q er=>Jc o n c xs ys q er
 l2:=fun q er i so m h=>by
  match i with
  | 0=>cases h;show _=_;kernel_rfl
  | 1=>cases h;show _=_;kernel_rfl
  | 2=>cases h;show _=_;kernel_rfl
  | 3=>cases h;show _=_;kernel_rfl
  | 4=>cases h;show _=_;kernel_rfl
  | 5=>cases h;show _=_;kernel_rfl
  | 6=>cases h;show _=_;kernel_rfl
  | 7=>cases h;show _=_;kernel_rfl
  | 8=>cases h;show _=_;kernel_rfl
  | 9=>cases h;show _=_;kernel_rfl
  | i+10=>cases h
 d3:=fun q er s a2 n2 c2 f=>ah (Kt o n c xs ys q er s a2 n2 c2 f) (by simp [af])
 d4:=fun q er s a2 n2 c2 f=>ah (LA o n c xs ys q er s a2 n2 c2 f) True.intro
 t4:=fun q er s a2 n2 c2 f=>Ix o n c xs ys q er s a2 n2 c2 f
 d5:=fun q er s a2 n2 c2 f=>ah (Lq o n c xs ys q er s a2 n2 c2 f) (by simp [af])
 d6:=fun er s a2 n2 c2 f hf=>ah (KF o n c xs ys er s a2 n2 c2 f) (by simp only [af,Bn hf,and_self])
theorem NQ {o n c:Nat} {xs ys:List SV}:Tb true (gk o n c xs ys) where
 d0:=fun b er s a2 n2 c2=>ah (JR o n c xs ys b er s a2 n2 c2) True.intro
 t0:=fun b er s a2 n2 c2=>H8 o n c xs ys b er s a2 n2 c2
 d1:=fun b er s a2 n2 c2 v=>ah (Ky o n c xs ys b er s a2 n2 c2 v) (by simp [af])
 d2:=fun b er s a2 n2 c2 v=>ah (Kn o n c xs ys b er s a2 n2 c2 v) (by simp [af])
 t2:=fun b er s a2 n2 c2 v=>IB o n c xs ys b er s a2 n2 c2 v
 l2:=fun b er s a2 n2 c2 v i so m h=>by
  match i with
  | 0=>cases h;show _=_;kernel_rfl
  | 1=>cases h;show _=_;kernel_rfl
  | 2=>cases h;show _=_;kernel_rfl
  | 3=>cases h;show _=_;kernel_rfl
  | 4=>cases h;show _=_;kernel_rfl
  | 5=>cases h;show _=_;kernel_rfl
  | 6=>cases h;show _=_;kernel_rfl
  | 7=>cases h;show _=_;kernel_rfl
  | 8=>cases h;show _=_;kernel_rfl
  | 9=>cases h;show _=_;kernel_rfl
  | i+10=>cases h
 d3:=fun b er s a2 n2 c2 v=>ah (Jz o n c xs ys b er s a2 n2 c2 v) (by simp [af])
 d4:=fun b er s a2 n2 c2 v=>ah (JY o n c xs ys b er s a2 n2 c2 v) (by simp [af])
 t4:=fun b er s a2 n2 c2 v=>HQ o n c xs ys b er s a2 n2 c2 v
 d5:=fun b er s a2 n2 c2 v=>ah (Ll o n c xs ys b er s a2 n2 c2 v) (by simp [af])
 d6:=fun b er s a2 n2 c2 v=>ah (Kr o n c xs ys b er s a2 n2 c2 v) (by simp [af])
section
variable {L:Al} {ν:aA} {w:World}
theorem jY (h:Bj L ν w) {i:Nat} {xs:List SV} {m:Bool} (hi:L[i]?=some (some (.look xs,m))):∃ b ys,ν i=some b∧aj ν xs ys∧Looks w b.1 ys:=by
 obtain ⟨b,o,hb,ho,ys,c,T,fz,rfl,hv,hc⟩:=h i _ m hi
 exact ⟨b,ys,hb,hv,c,T,fz,ho,hc⟩
theorem Bi {b:Nat} {xs ys:List Value} (h:Looks w b (xs++ys)):Looks w b xs:=by
 obtain ⟨c,T,fz,h1,h2⟩:=h
 refine ⟨c,T,fz,h1,fun k y hk=>h2 k y ?_⟩
 rw [List.getElem?_append_left (List.getElem?_eq_some_iff.1 hk).1]
 exact hk
theorem yV {i:Nat} {k:Value} {l:List SV} {bn cl:Nat} {o:Obj} (h:OR ν i (.map [(.v k,.agg l,bn)] cl) o):∃ a,aj ν l a∧o=.map #[{ key:=k,val:=.agg a.toArray,born:=bn }] cl:=by
 obtain ⟨l',rfl,z,zs,rfl,h1,h2,h3,h4⟩:=h
 obtain rfl:zs=[]:=h4
 obtain ⟨a,ha,hv⟩:=VR.aW.1 h2
 obtain ⟨key,val,born⟩:=z
 refine ⟨a,hv,?_⟩
 have h1:=VR.ab.1 h1
 dsimp only at h1 ha h3
 subst h1 ha h3
 rfl
def J3 (vs vg:Value):gF:=⟨vs,vg,1,10000,0,0,1,0,1⟩
theorem Cc {dir:Bool} {f z:Int} {x0:SV} {xs:List SV} (h:Bj L ν w) (h1:L[1]?=some (some (Gh,true))) (h2:L[2]?=some (some (.look (x0::.v (.int .i64 z)::xs),true))) (h3:L[3]?=some (some (FY dir f 0 1,true))) {y:Value} (hy:VR ν (.ptr 1 0) y):
  ∃ p d nm vs vg,y=.pointer (some ⟨p,0,none⟩)∧(∃ k,ν 2=some (d,k))∧np w p d nm (J3 vs vg) dir f:=by
 obtain ⟨b1,ys,e1,v1,l1⟩:=jY h h1
 obtain ⟨b,e,rfl⟩:=VR.aw.1 hy
 obtain rfl:b1=b:=by rw [e1] at e;exact Option.some.inj e
 obtain ⟨y0,ys,rfl,q0,v1⟩:=v1.cons_inv
 obtain ⟨y1,ys,rfl,q1,v1⟩:=v1.cons_inv
 obtain ⟨y2,ys,rfl,_,v1⟩:=v1.cons_inv
 obtain ⟨y3,ys,rfl,_,v1⟩:=v1.cons_inv
 obtain ⟨y4,ys,rfl,q4,v1⟩:=v1.cons_inv
 obtain ⟨b2,e2,rfl⟩:=VR.aw.1 q0
 obtain ⟨b3,e3,rfl⟩:=VR.bM.1 q1
 obtain rfl:=VR.ab.1 q4
 obtain ⟨b2',zs,e2',v2,c,T,fz,l2,l3⟩:=jY h h2
 obtain rfl:b2=b2':=by rw [e2] at e2';exact Option.some.inj e2'
 obtain ⟨z0,zs,rfl,_,v2⟩:=v2.cons_inv
 obtain ⟨z1,zs,rfl,r1,v2⟩:=v2.cons_inv
 obtain rfl:=VR.ab.1 r1
 obtain ⟨b3',o,e3',ho,hor⟩:=h 3 _ true h3
 obtain rfl:b3=b3':=by rw [e3] at e3';exact Option.some.inj e3'
 obtain ⟨a,va,rfl⟩:=yV hor
 obtain rfl:=bT va (aj.lits ν [.bool dir,.int .i64 f])
 exact ⟨b1.1,b2.1,b3.1,y2,y3,rfl,⟨b2.2,e2⟩,⟨Bi (xs:=LN (J3 y2 y3) b2.1 b3.1) l1,⟨c,T,fz,z,l2,l3 1 _ rfl⟩,ho⟩⟩
theorem FP {x:SV} (h:Bj L ν w) (h2:L[2]?=some (some (Gw,true))) (h4:L[4]?=some (some (G2 x 0 1,true))) {d:Nat} (hd:∃ k,ν 2=some (d,k)) (vs vg:Value):∃ fm v,VR ν x v∧tw w d fm (J3 vs vg) v:=by
 obtain ⟨k,hd⟩:=hd
 obtain ⟨b2,ys,e2,v2,l2⟩:=jY h h2
 obtain rfl:b2=(d,k):=by rw [e2] at hd;exact Option.some.inj hd
 obtain ⟨y0,ys,rfl,q0,v20⟩:=v2.cons_inv
 obtain ⟨b4,e4,rfl⟩:=VR.bM.1 q0
 obtain rfl:=bT v20 (aj.lits ν [.int .i64 1,.int .i64 10000,.int .i64 (-1)])
 obtain ⟨b4',o,e4',ho,hor⟩:=h 4 _ true h4
 obtain rfl:b4=b4':=by rw [e4] at e4';exact Option.some.inj e4'
 obtain ⟨a,va,rfl⟩:=yV hor
 obtain ⟨v,a,rfl,q,va1⟩:=va.cons_inv
 obtain rfl:=bT va1 (aj.lits ν [.int .i64 0])
 exact ⟨b4.1,v,q,l2,ho⟩
def xG (zs:List Int):List SV:=zs.map fun z=>.v (.int .u8 z)
theorem BC {zs:List Int} {i:Nat} {e:Option Nat} {m:Bool} (h:Bj L ν w) (hi:L[i]?=some (some (.row (xG zs) 5 (0,0) e,m))):∃ b,ν i=some b∧BytesIn w b.1 0 zs∧∃ cs fz,w.heap[b.1]?=some (.cells cs 5 fz):=by
 obtain ⟨b,o,hb,ho,ys,rest,rfl,hv,_⟩:=h i _ m hi
 have h1:aj ν ((zs.map (Value.int .u8)).map SV.v) ys:=by rw [List.map_map];exact hv
 obtain rfl:=bT h1 (aj.lits ν (zs.map (Value.int .u8)))
 refine ⟨b,hb,⟨_,_,_,ho,Nat.zero_le _,fun k v hk=>?_⟩,_,_,ho⟩
 rw [Nat.zero_add,List.getElem?_toArray,List.getElem?_append_left (List.getElem?_eq_some_iff.1 hk).1]
 exact hk
theorem Bp {l:SV} {last:Int} {y:Value} (hy:VR ν (.agg [l,.v (.int .i64 last),.v (.int .i64 10000),.v (.int .i64 (-1)),.sl 7 0 1 none,.aM,.v (.int .i64 (-1)),.v (.slice none 0 0),.v (.int .u64 0)]) y):
  ∃ b v vr,ν 7=some b∧1≤b.2∧VR ν l v∧y=.agg #[v,.int .i64 last,.int .i64 10000,.int .i64 (-1),.slice (some ⟨b.1,0,none⟩) 1 b.2,vr,.int .i64 (-1),.slice none 0 0,.int .u64 0]:=by
 obtain ⟨a,rfl,va⟩:=VR.aW.1 hy
 obtain ⟨v,a,rfl,q0,va1⟩:=va.cons_inv
 obtain ⟨y1,a,rfl,q1,va2⟩:=va1.cons_inv
 obtain ⟨y2,a,rfl,q2,va3⟩:=va2.cons_inv
 obtain ⟨y3,a,rfl,q3,va4⟩:=va3.cons_inv
 obtain ⟨y4,a,rfl,q4,va5⟩:=va4.cons_inv
 obtain ⟨y5,a,rfl,q5,va6⟩:=va5.cons_inv
 obtain rfl:=VR.ab.1 q1
 obtain rfl:=VR.ab.1 q2
 obtain rfl:=VR.ab.1 q3
 obtain rfl:=bT va6 (aj.lits ν [.int .i64 (-1),.slice none 0 0,.int .u64 0])
 obtain ⟨b,hb,hle,rfl⟩:=VR.ay.1 q4
 simp only [Option.getD_none,Nat.sub_zero] at hle
 exact ⟨b,v,y5,hb,hle,q0,rfl⟩
theorem qL {zs:List Int} {n:Nat} {cap e:Option Nat} {m7 m8 m9:Bool} (h:Bj L ν w) (h7:L[7]?=some (some (Lb false 1,m7))) (h9:L[9]?=some (some (.look [.v (.int .i64 1),.sl 8 0 n cap,.v (.int .i64 0)],m9))) (h8:L[8]?=some (some (.row (xG zs) 5 (0,0) e,m8)))
  (hl:zs.length=n) (hf:n≤6000) (hz:∀ z∈zs,0≤z∧z<256) (hm:MX w) (hX:eh w) {y:Value} (hy:VR ν (.agg [.sl 9 0 1 none,.v (.int .i64 1),.v (.int .i64 10000),.v (.int .i64 (-1)),.sl 7 0 1 none,.aM,.v (.int .i64 (-1)),.v (.slice none 0 0),.v (.int .u64 0)]) y):
  ∃ b,ν 8=some b∧Calls Tryz.prog 13 #[y] w (Bk ⟨(bA zs).2,b.1,0⟩ w (dY zs).2.1 ((dY zs).1,(dY zs).2.2)):=by
 obtain ⟨b7,v,vr,e7,hle,hv,rfl⟩:=Bp hy
 obtain ⟨b9,e9,hle9,rfl⟩:=VR.ay.1 hv
 obtain ⟨b7',ys,e7',v7,l7⟩:=jY h h7
 obtain rfl:b7=b7':=by rw [e7] at e7';exact Option.some.inj e7'
 obtain rfl:=bT v7 (aj.lits ν [.string bP,.bool false,.int .i64 1])
 obtain ⟨b9',ys,e9',v9,l9⟩:=jY h h9
 obtain rfl:b9=b9':=by rw [e9] at e9';exact Option.some.inj e9'
 obtain ⟨y0,ys,rfl,q0,v91⟩:=v9.cons_inv
 obtain ⟨y1,ys,rfl,q1,v92⟩:=v91.cons_inv
 obtain rfl:=VR.ab.1 q0
 obtain rfl:=bT v92 (aj.lits ν [.int .i64 0])
 obtain ⟨b8,e8,hle8,rfl⟩:=VR.ay.1 q1
 obtain ⟨b8',e8',hIn,hb⟩:=BC h h8
 obtain rfl:b8=b8':=by rw [e8] at e8';exact Option.some.inj e8'
 simp only [Option.getD_none,Nat.sub_zero] at hle9 ⊢
 exact ⟨b8,e8,(yc (p:=⟨1,10000,b7.2,b9.2,0,vr,.slice none 0 0,0⟩) hm hX l7 l9 hle hle9 hIn hb hl (by omega) hle8 hz).mono fun e w' ⟨S,hS,hR⟩=>by rw [← hS];exact hR⟩
theorem E6 {zs:List Int} {n:Nat} {e:Option Nat} {m5:Bool} (h:Bj L ν w) (h1:L[1]?=some (some (Gh,true))) (h2:L[2]?=some (some (Gw,true))) (h3:L[3]?=some (some (FY false 1 0 1,true))) (h4:L[4]?=some (some (G2 (.sl 5 0 n none) 0 1,true))) (h5:L[5]?=some (some (.row (xG zs) 5 (0,0) e,m5)))
  (hl:zs.length=n) (h0:0<n) (hf:n≤6000) (hz:∀ z∈zs,0≤z∧z<256) (hm:MX w) (hX:eh w) (hT:fY w) {y:Value} (hy:VR ν (.ptr 1 0) y):Calls Tryz.prog 12 #[y] w (GZ w (dY zs)):=by
 obtain ⟨p,d,nm,vs,vg,rfl,hd,hF⟩:=Cc (dir:=false) (f:=1) h h1 h2 h3 hy
 obtain ⟨fm,v,hv,hL⟩:=FP h h2 h4 hd vs vg
 obtain ⟨b5,e5,hle5,rfl⟩:=VR.ay.1 hv
 obtain ⟨b5',e5',hIn,hb⟩:=BC h h5
 obtain rfl:b5=b5':=by rw [e5] at e5';exact Option.some.inj e5'
 exact AT hm hX hT hF hL hIn hb hl (by omega) hle5 hz ⟨rfl,h0⟩
theorem uU (h:Bj L ν w) (h1:L[1]?=some (some (Gh,true))) (h2:L[2]?=some (some (Gw,true))) (h3:L[3]?=some (some (FY false 1 0 1,true))) (h4:L[4]?=some (some (G2 (.v (.slice none 0 0)) 0 1,true)))
  (hm:MX w) (hX:eh w) (hT:fY w) {y:Value} (hy:VR ν (.ptr 1 0) y):Calls Tryz.prog 12 #[y] w (GZ w (11,0,[])):=by
 obtain ⟨p,d,nm,vs,vg,rfl,hd,hF⟩:=Cc (dir:=false) (f:=1) h h1 h2 h3 hy
 obtain ⟨fm,v,hv,hL⟩:=FP h h2 h4 hd vs vg
 obtain rfl:=VR.ab.1 hv
 exact BO hm hX hT hF hL
theorem s9:dY []=(11,0,[]):=by simp [dY,bA]
end
end ez
end paths
end Go.Proofs.YtcbokmadfcedaaaGreatDoor
set_option linter.unusedSimpArgs false
set_option linter.unusedVariables false
set_option maxRecDepth 100000
namespace Go.Proofs.YtcbokmadfcedaaaGreatDoor
open Go Go.Rx Go.RowKit Go.Proofs
namespace paths
namespace ez
open crc (bC bC_flat)
theorem zc {S S':Src} {W:World} {s:Nat} {r:Int × List c7} {e:Ending} {w':World} (h:Bk S W s r e w') (h0:r.1≠0):Bk S' W s r e w':=by
 obtain ⟨hB,h | h | h⟩:=h
 ·exact ⟨hB,.inl h⟩
 ·exact absurd h.1 h0
 ·exact absurd h.1 h0
section
variable {W:World} {X:World→Prop}
theorem El (hl:bH Tryz.prog X (4,eT)) (hkp:∀ w0 w:World,X w0→(∀ k,k<w0.heap.size→w.heap[k]?=w0.heap[k]?)→X w) (hXW:X W) (hm:MX W) (hX:eh W) (hT:fY W) {a:Option Addr} {n c:Nat} (hn:n≤6000):
  Calls Tryz.prog 3 #[.slice a n c,.bool true] W (Fb W):=by
 refine aY (E:=bG false) rfl (d:=8) (l:=[]) (os:=[]) rfl (by simp) (by simp) (fun i o b c h=>by simp at h) rfl (args:=[.v (.slice a n c),.v (.bool true)]) (a:=[.slice a n c,.bool true]) (S0:=lI a n c true) (by kernel_rfl) (aj.cons (VR.ab.2 rfl) (aj.cons (VR.ab.2 rfl) aj.nil)) fun cs0=>?_
 have hM:∀ z,¬ (az [] []) z:=fun z=>aO (l:=[]) (os:=[])
 have K:∀ {M1 w1},bk (az [] []) W M1 w1→aE (bG false) M1 w1:=fun hB=>Is hl hkp hM hB hXW
 have hk:=fV (W:=W) (l:=[]) (os:=[]) (fun j o' b' c' h=>by simp at h)
 have hd:decide ((n:Int)>(6000:Int))=false:=by simp;omega
 refine dP (K hk.base) (ah (Ka a n c) ?_) (Iq a n c) (fun i b h=>by cases i <;> simp [ax] at h) ?_
 ·repeat' (refine And.intro ?_ ?_)
  all_goals first | with_reducible assumption | exact True.intro | with_reducible rfl | exact Nat.le_of_ble_eq_true rfl | kernel_rfl
 refine ks (r:=(22,0,[])) O4 (fun h=>by cases h) hM K hm hT (fun h=>by cases h) ⟨[],0,0⟩ hk ?_ ?_ (fun h=>by cases h)
 ·intro ν' w _ hs hlk y hy
  obtain ⟨p,d,nm,vs,vg,rfl,_,hF⟩:=Cc (dir:=true) (f:=0) hlk rfl rfl rfl hy
  exact B2 (hX.cr (a8 (Hp.Sub.refl _) hs)) (hT.cr (a8 (Hp.Sub.refl _) hs)) hF
 ·intro ν' w _ hs hlk y hy
  obtain ⟨b,v,vr,hb,hle,hv,rfl⟩:=Bp hy
  obtain rfl:=VR.ab.1 hv
  obtain ⟨b7,ys,e7,v7,l7⟩:=jY hlk (i:=7) rfl
  obtain rfl:b7=b:=by rw [e7] at hb;exact Option.some.inj hb
  obtain rfl:=bT v7 (aj.lits ν' [.string bP,.bool true,.int .i64 0])
  exact (Bc (p:=⟨0,10000,b7.2,0,0,vr,.slice none 0 0,0⟩) (hX.cr (a8 (Hp.Sub.refl _) hs)) l7 hle).mono fun e w' ⟨hB,he⟩=>⟨hB,.inl ⟨by decide,he⟩⟩
theorem Cp (hl:bH Tryz.prog X (4,eT)) (hkp:∀ w0 w:World,X w0→(∀ k,k<w0.heap.size→w.heap[k]?=w0.heap[k]?)→X w) (hXW:X W) {a:Option Addr} {n c:Nat} {dir:Bool} (hn:6000<n):
  Calls Tryz.prog 3 #[.slice a n c,.bool dir] W (Fb W):=by
 refine aY (E:=bG false) rfl (d:=8) (l:=[]) (os:=[]) rfl (by simp) (by simp) (fun i o b c h=>by simp at h) rfl (args:=[.v (.slice a n c),.v (.bool dir)]) (a:=[.slice a n c,.bool dir]) (S0:=lI a n c dir) (by kernel_rfl) (aj.cons (VR.ab.2 rfl) (aj.cons (VR.ab.2 rfl) aj.nil)) fun cs0=>?_
 have hM:∀ z,¬ (az [] []) z:=fun z=>aO (l:=[]) (os:=[])
 have hk:=fV (W:=W) (l:=[]) (os:=[]) (fun j o' b' c' h=>by simp at h)
 have hd:decide ((n:Int)>(6000:Int))=true:=by simp;omega
 exact Hf (Is hl hkp hM hk.base hXW) (ah (My a n c dir) ⟨⟨⟨True.intro,hd⟩,True.intro⟩,rfl⟩) fun ν' M5 w5 s' w'' _ hB5 hr5=>⟨rfl,aG hM hB5 hr5⟩
end
section
variable {W:World} {X:World→Prop}
theorem D1 (hl:bH Tryz.prog X (4,eT)) (hkp:∀ w0 w:World,X w0→(∀ k,k<w0.heap.size→w.heap[k]?=w0.heap[k]?)→X w) (hXW:X W) (hm:MX W) (hX:eh W) (hT:fY W):
  Calls Tryz.prog 3 #[.slice none 0 0,.bool false] W (Fb W):=by
 refine aY (E:=bG false) rfl (d:=8) (l:=[]) (os:=[]) rfl (by simp) (by simp) (fun i o b c h=>by simp at h) rfl (args:=[.v (.slice none 0 0),.v (.bool false)]) (a:=[.slice none 0 0,.bool false]) (S0:=lI none 0 0 false) (by kernel_rfl) (aj.cons (VR.ab.2 rfl) (aj.cons (VR.ab.2 rfl) aj.nil)) fun cs0=>?_
 have hM:∀ z,¬ (az [] []) z:=fun z=>aO (l:=[]) (os:=[])
 have K:∀ {M1 w1},bk (az [] []) W M1 w1→aE (bG false) M1 w1:=fun hB=>Is hl hkp hM hB hXW
 have hk:=fV (W:=W) (l:=[]) (os:=[]) (fun j o' b' c' h=>by simp at h)
 refine dP (K hk.base) (ah (Nk ()) ?_) (Kj ()) (fun i b h=>by cases i <;> simp [ax] at h) ?_
 ·repeat' (refine And.intro ?_ ?_)
  all_goals first | with_reducible assumption | exact True.intro | with_reducible rfl | exact Nat.le_of_ble_eq_true rfl | kernel_rfl
 refine dP (K hk.base) (ah (JM ()) ?_) (I7 ()) (fun i b h=>by cases i <;> simp [ax] at h) ?_
 ·repeat' (refine And.intro ?_ ?_)
  all_goals first | with_reducible assumption | exact True.intro | with_reducible rfl | exact Nat.le_of_ble_eq_true rfl | kernel_rfl
 refine ks (r:=(11,0,[])) (LM none) (fun h=>by cases h) hM K hm hT (fun h=>by cases h) ⟨[],0,0⟩ hk ?_ ?_ (fun h=>by cases h)
 ·intro ν' w _ hs hlk y hy
  have k:=a8 (Hp.Sub.refl _) hs
  exact uU hlk rfl rfl rfl rfl (hm.cr k) (hX.cr k) (hT.cr k) hy
 ·intro ν' w _ hs hlk y hy
  have k:=a8 (Hp.Sub.refl _) hs
  obtain ⟨b,_,hc⟩:=qL (zs:=[]) hlk rfl rfl rfl rfl (by decide) (fun z hz=>nomatch hz) (hm.cr k) (hX.cr k) hy
  rw [s9] at hc
  exact hc.mono fun e w' h=>zc h (by decide)
end
section
variable {W:World} {X:World→Prop}
theorem BP (hl:bH Tryz.prog X (4,eT)) (hkp:∀ w0 w:World,X w0→(∀ k,k<w0.heap.size→w.heap[k]?=w0.heap[k]?)→X w) (hXW:X W) (hm:MX W) (hX:eh W) (hT:fY W) {b o c:Nat} {cs:Array Value} {e:TypeId} {fz:Nat × Nat} (hh:W.heap[b]?=some (.cells cs e fz)):
  Calls Tryz.prog 3 #[.slice (some ⟨b,o,none⟩) 0 c,.bool false] W (Fb W):=by
 have ho:∀ (j:Nat) (o':SO) (b' c':Nat),[SO.look []][j]?=some o'→[(b,0)][j]?=some (b',c')→∃ r,W.heap[b']?=some r∧OR (ax [(b,0)]) j o' r:=by
  intro j o' b' c' q1 q2
  match j with
  | 0=>cases q1;cases q2;exact ⟨_,hh,[],cs,e,fz,rfl,aj.nil,fun k y hk=>by simp at hk⟩
  | j+1=>simp at q1
 refine aY (E:=bG false) rfl (d:=8) (l:=[(b,0)]) (os:=[.look []]) rfl (by simp) (by simp) ho rfl (args:=[.sl 0 o 0 (some c),.v (.bool false)]) (a:=[.slice (some ⟨b,o,none⟩) 0 c,.bool false]) (S0:=nA [] o 0 c) (by kernel_rfl) (aj.cons (VR.ay.2 ⟨(b,0),rfl,Nat.zero_le _,rfl⟩) (aj.cons (VR.ab.2 rfl) aj.nil)) fun cs0=>?_
 have hM:∀ z,¬ (az [(b,0)] ([SO.look []].map fun o=>(o,false))) z:=fun z=>aO
 have K:∀ {M1 w1},bk (az [(b,0)] ([SO.look []].map fun o=>(o,false))) W M1 w1→aE (bG false) M1 w1:=fun hB=>Is hl hkp hM hB hXW
 have hk:=fV ho
 have hν:∀ (i:Nat) (b':Nat × Nat),ax [(b,0)] i=some b'→i=0:=fun i b' h=>by
  cases i with
  | zero=>rfl
  | succ i=>simp [ax] at h
 refine dP (K hk.base) (ah (MN [] o c) ?_) (Kb [] o c) (fun i b' h=>by rw [hν i b' h];rfl) ?_
 ·repeat' (refine And.intro ?_ ?_)
  all_goals first | with_reducible assumption | exact True.intro | with_reducible rfl | exact Nat.le_of_ble_eq_true rfl | kernel_rfl
 refine dP (K hk.base) (ah (LG [] o c) ?_) (IV [] o c) (fun i b' h=>by rw [hν i b' h];rfl) ?_
 ·repeat' (refine And.intro ?_ ?_)
  all_goals first | with_reducible assumption | exact True.intro | with_reducible rfl | exact Nat.le_of_ble_eq_true rfl | kernel_rfl
 refine ks (r:=(11,0,[])) (LM (eN [])) (fun h=>by cases h) hM K hm hT (fun h=>by cases h) ⟨[],0,0⟩ hk ?_ ?_ (fun h=>by cases h)
 ·intro ν' w _ hs hlk y hy
  have k:=a8 (Hp.Sub.refl _) hs
  exact uU hlk rfl rfl rfl rfl (hm.cr k) (hX.cr k) (hT.cr k) hy
 ·intro ν' w _ hs hlk y hy
  have k:=a8 (Hp.Sub.refl _) hs
  obtain ⟨b,_,hc⟩:=qL (zs:=[]) hlk rfl rfl rfl rfl (by decide) (fun z hz=>nomatch hz) (hm.cr k) (hX.cr k) hy
  rw [s9] at hc
  exact hc.mono fun e w' h=>zc h (by decide)
end
section
variable {W:World} {X:World→Prop}
theorem Fu (zs:List Int):zs.flatMap bC=xG zs:=by
 induction zs with
 | nil=>rfl
 | cons z zs ih=>rw [List.flatMap_cons,ih];rfl
theorem BW (hl:bH Tryz.prog X (4,eT)) (hkp:∀ w0 w:World,X w0→(∀ k,k<w0.heap.size→w.heap[k]?=w0.heap[k]?)→X w) (hXW:X W) (hm:MX W) (hX:eh W) (hT:fY W) {b o c:Nat} {zs:List Int} (h0:0<zs.length) (hn:zs.length≤6000) (hnc:zs.length≤c) (hIn:BytesIn W b o zs) (hz:∀ z∈zs,0≤z∧z<256):
  Calls Tryz.prog 3 #[.slice (some ⟨b,o,none⟩) zs.length c,.bool false] W (Fb W):=by
 obtain ⟨cs,e,fz,hh,hoff,hcc⟩:=hIn
 have ho:∀ (j:Nat) (o':SO) (b' c':Nat),[SO.look (ak bC o zs)][j]?=some o'→[(b,0)][j]?=some (b',c')→∃ r,W.heap[b']?=some r∧OR (ax [(b,0)]) j o' r:=by
  intro j o' b' c' q1 q2
  match j with
  | 0=>cases q1;cases q2;exact ⟨_,hh,bW (h:=fun z=>[Value.int .u8 z]) (fun ν x=>aj.lits ν [Value.int .u8 x]) hoff (by rw [bC_flat];exact hcc)⟩
  | j+1=>simp at q1
 refine aY (E:=bG true) rfl (d:=8) (l:=[(b,0)]) (os:=[.look (ak bC o zs)]) rfl (by simp) (by simp) ho rfl (args:=[.sl 0 o zs.length (some c),.v (.bool false)]) (a:=[.slice (some ⟨b,o,none⟩) zs.length c,.bool false]) (S0:=nA (ak bC o zs) o zs.length c) (by kernel_rfl) (aj.cons (VR.ay.2 ⟨(b,0),rfl,hnc,rfl⟩) (aj.cons (VR.ab.2 rfl) aj.nil)) fun cs0=>?_
 have hM:∀ z,¬ (az [(b,0)] ([SO.look (ak bC o zs)].map fun o=>(o,false))) z:=fun z=>aO
 have K:∀ {M1 w1},bk (az [(b,0)] ([SO.look (ak bC o zs)].map fun o=>(o,false))) W M1 w1→aE (bG true) M1 w1:=fun hB=>Is hl hkp hM hB hXW
 have hk:=fV ho
 have hν:∀ (i:Nat) (b':Nat × Nat),ax [(b,0)] i=some b'→i=0:=fun i b' h=>by
  cases i with
  | zero=>rfl
  | succ i=>simp [ax] at h
 have f1:List.take (zs.length*1) (List.drop o (ak bC o zs))=xG zs:=by
  unfold ak
  rw [List.drop_append_of_le_length (by simp),List.drop_of_length_le (by simp),List.nil_append,Nat.mul_one,Fu,List.take_of_length_le (by simp [xG])]
 have f2:(xG zs).length=zs.length*1:=by simp [xG]
 have f3:zs.length≠0:=by omega
 have f4:(2*(0+zs.length)+1024)*1≤140737488355328:=by omega
 have f5:(xG zs).all SV.flat=true:=by
  refine List.all_eq_true.2 fun x hx=>?_
  obtain ⟨z,_,rfl⟩:=List.mem_map.1 hx
  rfl
 have f6:(xG zs).all ae=true:=by
  refine List.all_eq_true.2 fun x hx=>?_
  obtain ⟨z,_,rfl⟩:=List.mem_map.1 hx
  rfl
 have f7:(ak bC o zs).all ae=true:=bO crc.bC_closed
 have f8:0+zs.length=zs.length:=Nat.zero_add _
 have f9:0<0+zs.length:=by omega
 have w0:IntKind.i64.wrap (IntKind.i64.wrap ((0:Int)+((0:Nat):Int))+(zs.length:Int))=(zs.length:Int):=by
  rw [show IntKind.i64.wrap ((0:Int)+((0:Nat):Int))=0 from rfl,Int.zero_add]
  exact IntWalk.i64_in _ (by omega)
 have f10:(0:Int)<IntKind.i64.wrap (IntKind.i64.wrap ((0:Int)+((0:Nat):Int))+(zs.length:Int)):=by rw [w0];omega
 have f11:IntKind.i64.wrap (IntKind.i64.wrap ((0:Int)+((0:Nat):Int))+(zs.length:Int))≤(1000000:Int):=by rw [w0];omega
 have f12:decide (IntKind.i64.wrap (IntKind.i64.wrap ((0:Int)+((0:Nat):Int))+(zs.length:Int))<(0:Int))=false:=by rw [w0];simp
 have f13:decide (IntKind.i64.wrap (IntKind.i64.wrap ((0:Int)+((0:Nat):Int))+(zs.length:Int))>(10000:Int))=false:=by rw [w0];simp;omega
 have f14:((zs.length:Int)==(zs.length:Int))=true:=by simp
 have f15:decide ((zs.length:Int)>(6000:Int))=false:=by simp;omega
 have f16:decide ((zs.length:Int)>(10000:Int))=false:=by simp;omega
 refine dP (K hk.base) (ah (OS (ak bC o zs) (xG zs) o zs.length c) ?_) (Kq (ak bC o zs) (xG zs) o zs.length c) (fun i b' h=>by rw [hν i b' h];rfl) ?_
 ·repeat' (refine And.intro ?_ ?_)
  all_goals first | with_reducible assumption | exact True.intro | with_reducible rfl | exact Nat.le_of_ble_eq_true rfl | exact f16 | kernel_rfl
 refine dP (K hk.base) (ah (JB (ak bC o zs) (xG zs) o zs.length c) ?_) (IJ (ak bC o zs) (xG zs) o zs.length c) (fun i b' h=>by rw [hν i b' h];rfl) ?_
 ·repeat' (refine And.intro ?_ ?_)
  all_goals first | with_reducible assumption | exact True.intro | with_reducible rfl | exact Nat.le_of_ble_eq_true rfl | exact f16 | kernel_rfl
 refine Bf (j:=8) (x:=(.row (xG zs) 5 (0,0) (some 1),true)) (by kernel_rfl) fun ν1 b8 hle1 h8=>?_
 refine ks (r:=dY zs) (Ml (n:=zs.length) (xs:=ak bC o zs)) (fun _=>NQ) hM K hm hT (fun h=>zQ h) ⟨(bA zs).2,b8.1,0⟩ hk ?_ ?_ ?_
 ·intro ν' w _ hs hlk y hy
  have k:=a8 (Hp.Sub.refl _) hs
  exact E6 hlk rfl rfl rfl rfl rfl rfl h0 hn hz (hm.cr k) (hX.cr k) (hT.cr k) hy
 ·intro ν' w hle hs hlk y hy
  have k:=a8 (Hp.Sub.refl _) hs
  obtain ⟨b,hb,hc⟩:=qL (zs:=zs) hlk rfl rfl rfl rfl hn hz (hm.cr k) (hX.cr k) hy
  obtain rfl:b8=b:=by have:=hle _ _ h8;rw [hb] at this;exact (Option.some.inj this).symm
  exact hc
 ·intro h ν' w hle hs hlk
  have k:=a8 (Hp.Sub.refl _) hs
  obtain ⟨b,hb,hIn,cs,fz,hcs⟩:=BC hlk (i:=8) (zs:=zs) rfl
  obtain rfl:b8=b:=by have:=hle _ _ h8;rw [hb] at this;exact (Option.some.inj this).symm
  refine ⟨hm.cr k,?_,cs,fz,hcs⟩
  show BytesIn w b8.1 0 (bA zs).2
  unfold bA
  split
  ·exact ⟨_,_,_,hcs,Nat.zero_le _,fun k v hk=>by simp at hk⟩
  ·split
   ·exact iU hIn
   ·exact ⟨_,_,_,hcs,Nat.zero_le _,fun k v hk=>by simp at hk⟩
end
end ez
end paths
end Go.Proofs.YtcbokmadfcedaaaGreatDoor
set_option linter.unusedSimpArgs false
set_option linter.unusedVariables false
set_option maxRecDepth 100000
namespace Go.Proofs.YtcbokmadfcedaaaGreatDoor
open Go Go.Rx Go.RowKit Go.Proofs
namespace paths
namespace ez
open crc (bC bC_flat nibL nibC)
inductive Ld (W:World) (a:Option Addr) (n c:Nat):Prop where
 | none (ha:a=.none) (hn:n=0) (hc:c=0)
 | zero (b o:Nat) (cs:Array Value) (e:TypeId) (fz:Nat × Nat) (ha:a=some ⟨b,o,.none⟩) (hn:n=0) (hh:W.heap[b]?=some (.cells cs e fz))
 | full (b o:Nat) (zs:List Int) (ha:a=some ⟨b,o,.none⟩) (hl:zs.length=n) (h0:0<n) (hnc:n≤c) (hIn:BytesIn W b o zs) (hz:∀ z∈zs,0≤z∧z<256)
theorem CF {H:Type} {enc:TypeId × Value→H} {W:World} {base base0:Nat} {spare:Nat→Bool} {held:Bool} {a:Option Addr} {l c:Nat} {d:DataW H} {p:List MemPlace} (hs:Value.okWide Tryz.prog W .any base0 22 (.slice a l c))
  (h:DataW.Trod enc Tryz.prog W base spare held 22 (.slice a l c) d p):Ld W a l c:=by
 obtain ⟨m,hm⟩:=h
 have ht:Tryz.prog.underlying 22=some (.slice 5):=by kernel_rfl
 have he:Tryz.prog.underlying 5=some (.int .u8):=by kernel_rfl
 have hr:yX (fun r:{ n:Int // 0≤n∧n<256 }=>[Value.int .u8 r.1]) W a l c:=Ep (C:=1) (by decide) (fun _=>rfl) (fun vs n' y h _=>by
  obtain ⟨n1,hn1,_,hwf⟩:=DataW.trod_int he h
  have:0≤n1∧n1<256:=by
   have:=hwf
   simp [Lit.wf,IntKind.has,IntKind.min,IntKind.max,IntKind.bits,IntKind.signed] at this
   omega
  exact ⟨⟨n1,this⟩,hn1⟩) ht (by kernel_rfl) hm
 obtain ⟨⟨hlc,hcm⟩,h0 | ⟨b,off,xs,cs,e,fz,rfl,rfl,hh,hoff,hc⟩⟩:=hr
 ·subst h0
  simp only [Value.okWide,ht,Cell.okWide,Cell.ok] at hs
  cases a with
  | none=>
   cases c with
   | zero=>exact .none rfl rfl rfl
   | succ c=>simp at hs
  | some ad=>
   simp only at hs
   obtain ⟨_,_,_,hsp,row,cells,hsh,_⟩:=hs
   obtain ⟨b,o,sp⟩:=ad
   obtain rfl:sp=none:=hsp
   unfold World.shape? at hsh
   dsimp only at hsh
   split at hsh
   ·rename_i cs e fz hb
    exact .zero b o cs e fz rfl rfl hb
   ·cases hsh
 ·by_cases h0:xs.length=0
  ·exact .zero b off cs e fz rfl h0 hh
  ·refine .full b off (xs.map (·.1)) rfl (by simp) (by omega) hlc ⟨cs,e,fz,hh,hoff,fun k v hk=>hc k v ?_⟩ fun z hz=>?_
   ·rw [pP,← hk,List.map_map];rfl
   ·obtain ⟨r,_,rfl⟩:=List.mem_map.1 hz
    exact r.2
theorem ED {W : World} (h : Lib.TabIs Tryz.prog W "tender/check.nibble" .u32 (nibL.map Int.ofNat)) : eh W := by
 unfold Lib.TabIs World.var? at h
 have hg : Tryz.prog.globalNamed "tender/check.nibble" = some 1 := by kernel_rfl
 rw [hg] at h
 simp only [Option.bind_some] at h
 split at h
 ·rename_i cs e fz hh
  obtain rfl:=Option.some.inj h
  refine ⟨⟨(nibL.map Int.ofNat).map fun z=>Value.int .u32 z,_,e,fz,hh,fun ν=>?_,fun k y hk=>by rw [List.getElem?_toArray];exact hk⟩,_,e,fz,hh,fun k y hk=>?_⟩
  ·have:=aj.lits ν ((nibL.map Int.ofNat).map fun z=>Value.int .u32 z)
   rw [List.map_map,List.map_map] at this
   exact this
  ·rw [List.getElem?_toArray,List.getElem?_map] at hk
   obtain ⟨z,_,rfl⟩:=Option.map_eq_some_iff.1 hk
   exact ⟨z,rfl⟩
 ·cases h
theorem Ae {W:World} {X:World→Prop} (hl:bH Tryz.prog X (4,eT)) (hkp:∀ w0 w:World,X w0→(∀ k,k<w0.heap.size→w.heap[k]?=w0.heap[k]?)→X w) (hXW:X W) (hm:MX W) (hX:eh W) (hT:fY W) {a:Option Addr} {n c:Nat} {dir:Bool} (h:Ld W a n c):
  Calls Tryz.prog 3 #[.slice a n c,.bool dir] W (Fb W):=by
 by_cases hn:6000<n
 ·exact Cp hl hkp hXW hn
 have hn:n≤6000:=by omega
 cases dir
 ·rcases h with ⟨rfl,rfl,rfl⟩ | ⟨b,o,cs,e,fz,rfl,rfl,hh⟩ | ⟨b,o,zs,rfl,rfl,h0,hnc,hIn,hz⟩
  ·exact D1 hl hkp hXW hm hX hT
  ·exact BP hl hkp hXW hm hX hT hh
  ·exact BW hl hkp hXW hm hX hT h0 hn hnc hIn hz
 ·exact El hl hkp hXW hm hX hT hn
end ez
end paths
end Go.Proofs.YtcbokmadfcedaaaGreatDoor
set_option maxRecDepth 100000
namespace Go.Proofs.YtcbokmadfcedaaaGreatDoor.vaultLoads
open Go Go.Rx Go.RowKit
def nB (n:Int):SV:=.v (.int .u8 n)
def n0:SV:=.v (.tuple #[])
noncomputable def B7:SM:={ top:={ fn:=4,tm:=(gw 26 5 [n0,n0,n0,n0,n0,n0,n0,n0,n0,n0,n0,n0,n0,n0,n0,n0,n0,n0,n0,n0,n0,n0,n0,n0,n0,n0]),todo:=[.code (Hm Tryz.prog 4 [])],defers:=[],ret:=false,kind:=.normal,«ro»:=none },callers:=[],mem:=(bc 12 2 0 [some (.look [.iface 199 (.v (.agg #[.pointer (some ⟨3,37,none⟩)]))],false),
 some (.look [.v (.int .u32 0),.v (.int .u32 274646895),.v (.int .u32 549293790),.v (.int .u32 820201905),.v (.int .u32 1098587580),.v (.int .u32 1361435347),.v (.int .u32 1640403810),.v (.int .u32 1905808397),.v (.int .u32 2197175160),.v (.int .u32 2460548119),.v (.int .u32 2722870694),.v (.int .u32 2987750089),.v (.int .u32 3280807620),.v (.int .u32 3553878443),.v (.int .u32 3811616794),.v (.int .u32 4084100981)],false)]) }
theorem g0:aS (E [] [(0,0),(1,1)]) 4 [] (jZ 12 [(0,[.iface 199 (.v (.agg #[.pointer (some ⟨3,37,none⟩)]))]),(1,bj.map fun n=>.v (.int .u32 n))])=some B7:=by kernel_rfl
noncomputable def w1:List SM:=[]
theorem g1:nN (E [] [(0,0),(1,1)]) 4 3000 [B7]=some w1:=by kernel_rfl
noncomputable def w2:List SM:=[]
theorem g2:nN (E [] [(0,0),(1,1)]) 4 20 w1=some w2:=by kernel_rfl
theorem yh {E:Env} {w:World} {l:List (Nat × List SV)} (K:aE E (uD l) w) {f:FuncId} {S0:SM} {d n:Nat} (hG:E.G=(l.map (·.1)).zipIdx) (hd:l.length≤2 ^ d) (hn:(l.map (·.1)).Nodup) (ht:∀ r∈l,Rx.Told w r)
  (h0:aS E f [] (jZ d l)=some S0) (h:nN E f n [S0]=some []):Calls E.P f #[] w fun e w'=>e=.returned (.bool true)∧Below w.heap.size w w':=
 xd (a:=[]) K hG hd hn ht (oR (f:=f) h0 h)
theorem xB (w:World) (told:∀ r∈([(0,[.iface 199 (.v (.agg #[.pointer (some ⟨3,37,none⟩)]))]),(1,bj.map fun n=>.v (.int .u32 n))]:List (Nat × List SV)),Rx.Told w r):Calls Tryz.prog 4 #[] w fun e w'=>e=.returned (.bool true)∧Below w.heap.size w w':=
 yh (d:=12) (l:=[(0,[.iface 199 (.v (.agg #[.pointer (some ⟨3,37,none⟩)]))]),(1,bj.map fun n=>.v (.int .u32 n))]) (facts [] [(0,0),(1,1)]) rfl (by decide) (by decide) told g0 (kY g1 g2)
end Go.Proofs.YtcbokmadfcedaaaGreatDoor.vaultLoads
